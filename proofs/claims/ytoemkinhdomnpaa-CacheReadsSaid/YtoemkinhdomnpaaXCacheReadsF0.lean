/- The types of the program, and its functions as the code computes them, each proved. -/
import Derived.Test.YtoemkinhdomnpaaXCacheReadsKB
import Derived.Test.YtoemkinhdomnpaaProg
set_option linter.unusedVariables false
set_option linter.unusedSimpArgs false
set_option maxRecDepth 20000
set_option maxHeartbeats 40000000
namespace Go.SK.T
open Go Go.SK Go.Proofs
def tt : TT := [(1, ⟨.func, 1, 8, .nilFunc⟩),
 (2, ⟨.int .i64, 1, 8, .int .i64 0⟩),
 (3, ⟨.int .i64, 1, 8, .int .i64 0⟩),
 (4, ⟨.bool, 1, 1, .bool false⟩),
 (5, ⟨.int .u8, 1, 1, .int .u8 0⟩),
 (9, ⟨.str, 1, 16, .string ⟨⟨[]⟩⟩⟩),
 (23, ⟨.int .u32, 1, 4, .int .u32 0⟩),
 (24, ⟨.ptr 51, 1, 8, .pointer none⟩),
 (25, ⟨.int .i64, 1, 8, .int .i64 0⟩),
 (28, ⟨.slice 5, 1, 24, .slice none 0 0⟩),
 (47, ⟨.int .u64, 1, 8, .int .u64 0⟩),
 (49, ⟨.struct [(47, 0, 1), (47, 1, 1)], 2, 16, .agg #[.int .u64 0, .int .u64 0]⟩),
 (51, ⟨.struct [(3, 0, 1), (28, 1, 1), (49, 2, 2)], 4, 48, .agg #[.int .i64 0, .slice none 0 0, .int .u64 0, .int .u64 0]⟩),
 (83, ⟨.slice 23, 1, 24, .slice none 0 0⟩),
 (97, ⟨.slice 102, 1, 24, .slice none 0 0⟩),
 (98, ⟨.ptr 113, 1, 8, .pointer none⟩),
 (102, ⟨.struct [(3, 0, 1), (23, 1, 1), (28, 2, 1)], 3, 40, .agg #[.int .i64 0, .int .u32 0, .slice none 0 0]⟩),
 (104, ⟨.other, 9, 144, .agg #[.string ⟨⟨[]⟩⟩, .string ⟨⟨[]⟩⟩, .string ⟨⟨[]⟩⟩, .string ⟨⟨[]⟩⟩, .string ⟨⟨[]⟩⟩, .string ⟨⟨[]⟩⟩, .string ⟨⟨[]⟩⟩, .string ⟨⟨[]⟩⟩, .string ⟨⟨[]⟩⟩]⟩),
 (108, ⟨.slice 162, 1, 24, .slice none 0 0⟩),
 (109, ⟨.map 23 3, 1, 8, .map none⟩),
 (110, ⟨.slice 3, 1, 24, .slice none 0 0⟩),
 (111, ⟨.ptr 203, 1, 8, .pointer none⟩),
 (113, ⟨.struct [(24, 0, 1), (108, 1, 1), (109, 2, 1), (110, 3, 1), (111, 4, 1)], 5, 72, .agg #[.pointer none, .slice none 0 0, .map none, .slice none 0 0, .pointer none]⟩),
 (158, ⟨.ptr 162, 1, 8, .pointer none⟩),
 (162, ⟨.struct [(23, 0, 1), (28, 1, 1), (4, 2, 1), (3, 3, 1)], 4, 48, .agg #[.int .u32 0, .slice none 0 0, .bool false, .int .i64 0]⟩),
 (166, ⟨.func, 1, 8, .nilFunc⟩),
 (201, ⟨.slice 205, 1, 24, .slice none 0 0⟩),
 (203, ⟨.struct [(201, 0, 1), (3, 1, 1)], 2, 32, .agg #[.slice none 0 0, .int .i64 0]⟩),
 (205, ⟨.struct [(3, 0, 1), (3, 1, 1), (4, 2, 1)], 3, 24, .agg #[.int .i64 0, .int .i64 0, .bool false]⟩),
 (214, ⟨.int .u64, 1, 8, .int .u64 0⟩),
 (225, ⟨.int .i64, 1, 8, .int .i64 0⟩),
 (234, ⟨.int .u64, 1, 8, .int .u64 0⟩),
 (238, ⟨.ptr 3, 1, 8, .pointer none⟩),
 (240, ⟨.ptr 234, 1, 8, .pointer none⟩)]
theorem Xh : Yi Try.prog tt := by
 refine ttC ⟨_, _, _, Try.underlying1⟩ ?_
 refine ttC Try.underlying2 ?_
 refine ttC Try.underlying3 ?_
 refine ttC Try.underlying4 ?_
 refine ttC Try.underlying5 ?_
 refine ttC Try.underlying9 ?_
 refine ttC Try.underlying23 ?_
 refine ttC Try.underlying24 ?_
 refine ttC Try.underlying25 ?_
 refine ttC Try.underlying28 ?_
 refine ttC Try.underlying47 ?_
 refine ttS Try.underlying49 ?_
 refine ttS Try.underlying51 ?_
 refine ttC Try.underlying83 ?_
 refine ttC Try.underlying97 ?_
 refine ttC Try.underlying98 ?_
 refine ttS Try.underlying102 ?_
 refine ttC trivial ?_
 refine ttC Try.underlying108 ?_
 refine ttC Try.underlying109 ?_
 refine ttC Try.underlying110 ?_
 refine ttC Try.underlying111 ?_
 refine ttS Try.underlying113 ?_
 refine ttC Try.underlying158 ?_
 refine ttS Try.underlying162 ?_
 refine ttC ⟨_, _, _, Try.underlying166⟩ ?_
 refine ttC Try.underlying201 ?_
 refine ttS Try.underlying203 ?_
 refine ttS Try.underlying205 ?_
 refine ttC Try.underlying214 ?_
 refine ttC Try.underlying225 ?_
 refine ttC Try.underlying234 ?_
 refine ttC Try.underlying238 ?_
 refine ttC Try.underlying240 ?_
 exact Zem _
theorem mix : Try.prog.follows .mixedOrders = true := by kernel_rfl
instance : TTI Try.prog tt := ⟨Xh, mix⟩
abbrev O5 (x : List (Int)) (A : Option Addr) (c : Nat) : Ch := Yh 5 (.int .u8) x (.slice A x.length c)
abbrev R5 (x : List (Int)) (A : Option Addr) (c : Nat) : Ch := rdC 5 (.int .u8) x (.slice A x.length c)
abbrev X51 (b : Nat) (p0 : Int) (p1 : List (Int)) (A1 : Option Addr) (c1 : Nat) (p2 : Int) (p3 : Int) : Ch := Yr b 51 [.int .i64 p0, .slice A1 p1.length c1, .int .u64 p2, .int .u64 p3]
abbrev Z5 (x : List (Int × Int × Bool)) (A : Option Addr) (c : Nat) : Ch := Yh 205 (.pair (.int .i64) (.pair (.int .i64) .bool)) x (.slice A x.length c)
abbrev Z4 (b : Nat) (p0 : List (Int × Int × Bool)) (A0 : Option Addr) (c0 : Nat) (p1 : Int) : Ch := Yr b 203 [.slice A0 p0.length c0, .int .i64 p1]
abbrev Ya (x : List (Int × List (Int) × Bool × Int)) (A : Option Addr) (c : Nat) : Ch := Yh 162 (.pair (.int .u32) (.pair (.slice 5 (.int .u8)) (.pair .bool (.int .i64)))) x (.slice A x.length c)
abbrev Yb (b : Nat) (p0 : Value) (p1 : List (Int × List (Int) × Bool × Int)) (A1 : Option Addr) (c1 : Nat) (p2 : Value) (p3 : List (Int)) (A3 : Option Addr) (c3 : Nat) (p4 : Value) : Ch := Yr b 113 [p0, .slice A1 p1.length c1, p2, .slice A3 p3.length c3, p4]
abbrev O3 (x : List (Int)) (A : Option Addr) (c : Nat) : Ch := Yh 3 (.int .i64) x (.slice A x.length c)
abbrev Zc2 (x : List (List UInt8)) (A : Option Addr) (c : Nat) : Ch := Yh 104 .str x (.slice A x.length c)
abbrev X102 (b : Nat) (p0 : Int) (p1 : Int) (p2 : List (Int)) (A2 : Option Addr) (c2 : Nat) : Ch := Yr b 102 [.int .i64 p0, .int .u32 p1, .slice A2 p2.length c2]
abbrev Bz (b : Nat) (p0 : Int) (p1 : Int) (p2 : Bool) : Ch := Yr b 205 [.int .i64 p0, .int .i64 p1, .bool p2]
abbrev Uc (b : Nat) (p0 : Int) (p1 : List (Int)) (A1 : Option Addr) (c1 : Nat) (p2 : Bool) (p3 : Int) : Ch := Yr b 162 [.int .u32 p0, .slice A1 p1.length c1, .bool p2, .int .i64 p3]
abbrev X109 (b : Nat) (p0 : Value) : Ch := Yr b 109 [p0]
abbrev O23 (x : List (Int)) (A : Option Addr) (c : Nat) : Ch := Yh 23 (.int .u32) x (.slice A x.length c)
abbrev X3 (b : Nat) (p0 : Int) : Ch := Yr b 3 [.int .i64 p0]
abbrev R23 (x : List (Int)) (A : Option Addr) (c : Nat) : Ch := rdC 23 (.int .u32) x (.slice A x.length c)
abbrev Jy (b : Nat) (p0 : Int) : Ch := Yr b 234 [.int .u64 p0]
abbrev X49 (b : Nat) (p0 : Int) (p1 : Int) : Ch := Yr b 49 [.int .u64 p0, .int .u64 p1]
abbrev Zb4 (x : List (Int × Int × List (Int))) (A : Option Addr) (c : Nat) : Ch := rdC 102 (.pair (.int .i64) (.pair (.int .u32) (.slice 5 (.int .u8)))) x (.slice A x.length c)
theorem cmpstr : CmpStr Try.prog 167 := CmpStr.of Try.func167 (by kernel_rfl) (by kernel_rfl) (by kernel_rfl) rfl
def Q33.f (a0 : Int) (a1 : Int) : Option (Bool) := if (decide (5 ≤ a0)) = true then (if (decide (a0 ≤ 65536)) = true then (if (decide (1 ≤ a1)) = true then (some (decide (a1 ≤ 65536))) else (some false)) else (some false)) else (some false)
theorem Q33.spec {a0 : Int} {a1 : Int}  {r : Bool} (H : Q33.f a0 a1 = some r) :
  Spec Try.prog 68 [.int .i64 a0, .int .i64 a1] [] [] (fun v l => v = .bool r ∧ l = []) := by
 refine Zs Try.func68 fun w0 F0 h0 => ?_
 unfold Q33.f at H
 refine J.seq (Zb [0, 1] ?_)
 refine J.seq (J.region ?_)
 refine Zm 3 ?_
 refine Y3 7 H (fun c1 H => ?_) fun c1 H => ?_
 ·refine Zm 4 ?_
  refine Y3 11 H (fun c2 H => ?_) fun c2 H => ?_
  ·refine Zm 4 ?_
   refine Y3 15 H (fun c3 H => ?_) fun c3 H => ?_
   ·refine Zn [4] rfl ?_
    refine J.ret ?_
    cases H
    exact ⟨_, _, _, Za, ⟨rfl, rfl⟩, Zc h0 []⟩
   refine Zn [4] rfl ?_
   refine J.ret ?_
   cases H
   exact ⟨_, _, _, Za, ⟨rfl, rfl⟩, Zc h0 []⟩
  refine Zn [4] rfl ?_
  refine J.ret ?_
  cases H
  exact ⟨_, _, _, Za, ⟨rfl, rfl⟩, Zc h0 []⟩
 refine Zn [4] rfl ?_
 refine J.ret ?_
 cases H
 exact ⟨_, _, _, Za, ⟨rfl, rfl⟩, Zc h0 []⟩

def Q34.f (a0 : List (Int)) : Option (List (Int)) := if (([] : List (Int)).length + a0.length) * 1 ≤ 140737488355328 then (some (([] : List (Int)) ++ a0)) else none
theorem Q34.spec {a0 : List (Int)} {A1 : Option Addr} {c_1 : Nat} {r : List (Int)} (H : Q34.f a0 = some r) :
  Spec Try.prog 70 [.slice A1 a0.length c_1] [] [R5 a0 A1 c_1] (fun v l => ∃ (A_0 : Option Addr) (c_0 : Nat), v = .slice A_0 r.length c_0 ∧ l = [O5 r A_0 c_0]) := by
 refine Zs Try.func70 fun w0 F0 h0 => ?_
 unfold Q34.f at H
 refine J.seq (Zb [0] ?_)
 refine J.seq (J.seq (Zb [0, 4] ?_))
 refine Zcu (fun c1 => ?_) (fun c1 => ?_)
 ·have e1 := h0.nilrow (Z0 0) (by simpa using c1)
  replace H : (some ([] : List (Int))) = some r := by rw [e1] at H; simpa using H
  refine J.seq (Zb [2] ?_)
  refine J.ret ?_
  have h1 := h0.addNil 5 (.int .u8)
  cases H
  exact ⟨_, _, _, Za, ⟨_, _, rfl, rfl⟩, Zc h1 [0]⟩
 refine J.skip (J.seq (J.region ?_))
 refine Zh (Xi (.int .u8) ([] : List (Int)) h0) ?_
 rintro _ w1 ⟨b1, rfl, h2⟩
 replace h2 := nf h2
 refine Zm 1 ?_
 obtain ⟨p1, H⟩ := Zo H
 refine Zh (Y6 0 h2 (Z0 0) p1) ?_
 rintro _ w2 ⟨A2, c_2, rfl, h3⟩
 replace h3 := nf h3
 refine Zn [2] rfl ?_
 refine J.ret ?_
 cases H
 exact ⟨_, _, _, Za, ⟨_, _, rfl, rfl⟩, Zc h3 [0]⟩

def Q31.f (a0 : Int) (a1 : List (Int)) : Option (Option (Int × List (Int) × (Int × Int)) × Int) := if (decide (a0 < 1)) = true then (some (none, 2)) else (if 0 < a0 then (if (!decide ((Int.tmod (a1.length : Int) a0) = 0)) = true then (some (none, 2)) else ((Q33.f (w64 (Int.tdiv (a1.length : Int) a0)) a0).bind fun r1 => (if (!r1) = true then (some (none, 2)) else ((Q34.f a1).bind fun r2 => (some ((some (a0, r2, (0, 0))), 0)))))) else none)
theorem Q31.spec {a0 : Int} {a1 : List (Int)} {A1 : Option Addr} {c_1 : Nat} {r : Option (Int × List (Int) × (Int × Int)) × Int} (H : Q31.f a0 a1 = some r) :
  Spec Try.prog 19 [.int .i64 a0, .slice A1 a1.length c_1] [] [R5 a1 A1 c_1] (fun v l => ∃ (pv : Value) (lp : List Ch), OptC r.1 (fun d pv lp => ∃ (b_0 : Nat) (A_1 : Option Addr) (c_1 : Nat), pv = .pointer (some ⟨b_0, 0, none⟩) ∧ lp = [X51 b_0 d.1 d.2.1 A_1 c_1 d.2.2.1 d.2.2.2, O5 d.2.1 A_1 c_1]) pv lp ∧ v = .tuple #[pv, .int .i64 r.2] ∧ l = lp ++ []) := by
 refine Zs Try.func19 fun w0 F0 h0 => ?_
 unfold Q31.f at H
 refine J.seq (Zb [0, 1] ?_)
 refine J.seq (J.seq (J.region ?_))
 refine Zm 3 ?_
 refine Y3 8 H (fun c1 H => ?_) fun c1 H => ?_
 ·refine Zn [0, 1, 23] rfl ?_
  refine Z2 ?_
  refine J.seq (Zb [4, 5] ?_)
  refine J.ret ?_
  cases H
  exact ⟨_, _, _, Za, ⟨_, _, OptC.no, rfl, rfl⟩, Zc h0 []⟩
 refine Zm 3 ?_
 obtain ⟨p1, H⟩ := Zo H
 refine Zk (Zdm p1) ?_
 refine Zm 3 ?_
 refine Y3 15 H (fun c2 H => ?_) fun c2 H => ?_
 ·refine Zn [0, 1, 23] rfl ?_
  refine Z2 ?_
  refine J.seq (Zb [4, 5] ?_)
  refine J.ret ?_
  cases H
  exact ⟨_, _, _, Za, ⟨_, _, OptC.no, rfl, rfl⟩, Zc h0 []⟩
 refine Zm 3 ?_
 refine Zk (B3 p1) ?_
 refine Zm 1 ?_
 obtain ⟨r1, q1, H⟩ := Zp H
 refine Zh (Zi [] (Q33.spec q1) h0 rfl Zt) ?_
 rintro _ w1 ⟨_, ⟨rfl, rfl⟩, h1⟩
 replace h1 := nf h1
 refine Zn [0, 1, 23] rfl ?_
 refine jIf H (fun c3 H => ?_) fun c3 H => ?_
 ·refine J.seq (Zb [4, 5] ?_)
  refine J.ret ?_
  cases H
  exact ⟨_, _, _, Za, ⟨_, _, OptC.no, rfl, rfl⟩, Zc h1 []⟩
 refine J.skip (J.seq (J.region ?_))
 refine Zm 2 ?_
 obtain ⟨r2, q2, H⟩ := Zp H
 refine Zh (Zi [] (Q34.spec q2) h1 rfl (Y8 (Z0 0) Zt)) ?_
 rintro _ w2 ⟨_, ⟨A2, c_2, rfl, rfl⟩, h2⟩
 replace h2 := nf h2
 refine Zm 1 ?_
 refine Zh (Ws h2) ?_
 rintro _ w3 ⟨b1, rfl, h3⟩
 replace h3 := nf h3
 refine Zn [4, 5] rfl ?_
 refine J.ret ?_
 cases H
 exact ⟨_, _, _, Za, ⟨_, _, (OptC.yes ⟨_, _, _, rfl, rfl⟩), rfl, rfl⟩, Zc h3 [0, 0]⟩

def Q25.f (a0 : Int × List (Int) × (Int × Int)) : Option (Int) := if (decide (a0.1 = 0)) = true then (some 0) else (if 0 < a0.1 then (some (w64 (Int.tdiv (a0.2.1.length : Int) a0.1))) else none)
theorem Q25.spec {a0 : Int × List (Int) × (Int × Int)} {b1 : Nat} {A1 : Option Addr} {c_1 : Nat} {r : Int} (H : Q25.f a0 = some r) :
  Spec Try.prog 24 [.pointer (some ⟨b1, 0, none⟩)] [X51 b1 a0.1 a0.2.1 A1 c_1 a0.2.2.1 a0.2.2.2, O5 a0.2.1 A1 c_1] [] (fun v l => v = .int .i64 r ∧ l = [X51 b1 a0.1 a0.2.1 A1 c_1 a0.2.2.1 a0.2.2.2, O5 a0.2.1 A1 c_1]) := by
 refine Zs Try.func24 fun w0 F0 h0 => ?_
 unfold Q25.f at H
 refine J.seq (Zb [0] ?_)
 refine J.seq (J.seq (J.region ?_))
 refine Zm 6 ?_
 refine Zk (Zd 0 h0.wht) ?_
 refine Zn [0, 11] rfl ?_
 refine jIf H (fun c1 H => ?_) fun c1 H => ?_
 ·refine J.seq (Zb [2] ?_)
  refine J.ret ?_
  cases H
  exact ⟨_, _, _, Za, ⟨rfl, rfl⟩, Zc h0 [0, 0]⟩
 refine J.skip (J.seq (Zr h0 ?_))
 have h1 := h0.drew
 refine Zv [0, 1, 2, 5, 6, 7] ?_
 refine Ze 3 rfl (Zd 0 wI) ?_
 refine Zv [4] ?_
 refine Ze 8 rfl (Zd 0 wI) ?_
 obtain ⟨p1, H⟩ := Zo H
 refine Ze 9 rfl (B3 p1) ?_
 refine Zv [10] ?_
 refine Zy [2] ?_
 refine J.ret ?_
 cases H
 exact ⟨_, _, _, Za, ⟨rfl, rfl⟩, Zc h1 [0, 0]⟩

def Q22.f (a0 : Int) : Option (Option ((List (Int × Int × Bool)) × Int) × Int) := if (decide (a0 < 1)) = true then (some (none, 2)) else (if (decide (4096 < a0)) = true then (some (none, 2)) else (if 0 ≤ (w64 (a0 + 1)) ∧ (w64 (a0 + 1)) * 24 ≤ 281474976710656 then (if 0 ≤ a0 ∧ a0 < ((List.replicate ((w64 (a0 + 1)).toNat) ((0, 0, false) : Int × Int × Bool)).length : Int) then (some ((some (((List.replicate ((w64 (a0 + 1)).toNat) ((0, 0, false) : Int × Int × Bool)).set a0.toNat (a0, a0, false)), 0)), 0)) else none) else none))
theorem Q22.spec {a0 : Int}  {r : Option ((List (Int × Int × Bool)) × Int) × Int} (H : Q22.f a0 = some r) :
  Spec Try.prog 97 [.int .i64 a0] [] [] (fun v l => ∃ (pv : Value) (lp : List Ch), OptC r.1 (fun d pv lp => ∃ (b_0 : Nat) (A_1 : Option Addr) (c_1 : Nat), pv = .pointer (some ⟨b_0, 0, none⟩) ∧ lp = [Z4 b_0 d.1 A_1 c_1 d.2, Z5 d.1 A_1 c_1]) pv lp ∧ v = .tuple #[pv, .int .i64 r.2] ∧ l = lp ++ []) := by
 refine Zs Try.func97 fun w0 F0 h0 => ?_
 unfold Q22.f at H
 refine J.seq (Zb [0] ?_)
 refine J.seq (J.seq (J.region ?_))
 refine Zm 3 ?_
 refine Y3 7 H (fun c1 H => ?_) fun c1 H => ?_
 ·refine Zn [0, 10] rfl ?_
  refine Z2 ?_
  refine J.seq (Zb [2, 3] ?_)
  refine J.ret ?_
  cases H
  exact ⟨_, _, _, Za, ⟨_, _, OptC.no, rfl, rfl⟩, Zc h0 []⟩
 refine Zn [0, 10] rfl ?_
 refine jIf H (fun c2 H => ?_) fun c2 H => ?_
 ·refine J.seq (Zb [2, 3] ?_)
  refine J.ret ?_
  cases H
  exact ⟨_, _, _, Za, ⟨_, _, OptC.no, rfl, rfl⟩, Zc h0 []⟩
 refine J.skip (J.seq (J.region ?_))
 refine Zm 2 ?_
 obtain ⟨⟨p1, p2⟩, H⟩ := Zo H
 refine Zh (Vk Xh (ty := (.pair (.int .i64) (.pair (.int .i64) .bool))) rfl ((0, 0, false) : Int × Int × Bool) rfl rfl rfl rfl rfl rfl rfl (by decide) h0 p1 p2) ?_
 rintro _ w1 ⟨b1, rfl, h1⟩
 replace h1 := nf h1
 refine Zm 1 ?_
 refine Zh (Ws h1) ?_
 rintro _ w2 ⟨b2, rfl, h2⟩
 replace h2 := nf h2
 refine Zn [0, 4] rfl ?_
 refine J.seq (J.region ?_)
 refine Zm 3 ?_
 refine Zk (Zd 0 h2.wht) ?_
 refine Zm 4 ?_
 obtain ⟨⟨p3, p4⟩, H⟩ := Zo H
 have e1 := Z3 h2.wh (gO 1) p3 p4
 refine Zk (Zf e1 p3 p4) ?_
 refine Zh (Zj 0 (.pair (.int .i64) (.pair (.int .i64) .bool)) a0 (a0, a0, false) 1 h2 rfl p3 p4) ?_
 intro _ w3 h3
 replace h3 := nf h3
 replace h3 : St w0 F0 [Z5 ((List.replicate ((w64 (a0 + 1)).toNat) ((0, 0, false) : Int × Int × Bool)).set a0.toNat (a0, a0, false)) (some ⟨b1, 0, none⟩) ((w64 (a0 + 1)).toNat), Z4 b2 ((List.replicate ((w64 (a0 + 1)).toNat) ((0, 0, false) : Int × Int × Bool)).set a0.toNat (a0, a0, false)) (some ⟨b1, 0, none⟩) ((w64 (a0 + 1)).toNat) 0] _ _ := h3.retell (by simp only [List.length_set, List.length_nil, Z5, Z4] <;> rfl)
 refine Zn [4] rfl ?_
 refine J.seq (Zb [2, 3] ?_)
 refine J.ret ?_
 cases H
 exact ⟨_, _, _, Za, ⟨_, _, (OptC.yes ⟨_, _, _, rfl, rfl⟩), rfl, rfl⟩, Zc h3 [1, 0]⟩

def Q11.f (a0 : (Int × List (Int) × (Int × Int)) × (List (Int × List (Int) × Bool × Int)) × (List (Int × Int)) × List (Int) × ((List (Int × Int × Bool)) × Int)) : Option (Bool) := some false
theorem Q11.spec {a0 : (Int × List (Int) × (Int × Int)) × (List (Int × List (Int) × Bool × Int)) × (List (Int × Int)) × List (Int) × ((List (Int × Int × Bool)) × Int)} {b1 : Nat} {b2 : Nat} {b3 : Nat} {b4 : Nat} {A1 : Option Addr} {c_1 : Nat} {A2 : Option Addr} {c_2 : Nat} {A3 : Option Addr} {c_3 : Nat} {A4 : Option Addr} {c_4 : Nat} {r : Bool} (H : Q11.f a0 = some r) :
  Spec Try.prog 98 [.pointer (some ⟨b1, 0, none⟩)] [Yb b1 (.pointer (some ⟨b2, 0, none⟩)) a0.2.1 A2 c_2 (.map (some b3)) a0.2.2.2.1 A3 c_3 (.pointer (some ⟨b4, 0, none⟩)), X51 b2 a0.1.1 a0.1.2.1 A1 c_1 a0.1.2.2.1 a0.1.2.2.2, O5 a0.1.2.1 A1 c_1, Ya a0.2.1 A2 c_2, Z8 .u32 (Value.int .i64) b3 a0.2.2.1, O3 a0.2.2.2.1 A3 c_3, Z4 b4 a0.2.2.2.2.1 A4 c_4 a0.2.2.2.2.2, Z5 a0.2.2.2.2.1 A4 c_4] [] (fun v l => v = .bool r ∧ l = [Yb b1 (.pointer (some ⟨b2, 0, none⟩)) a0.2.1 A2 c_2 (.map (some b3)) a0.2.2.2.1 A3 c_3 (.pointer (some ⟨b4, 0, none⟩)), X51 b2 a0.1.1 a0.1.2.1 A1 c_1 a0.1.2.2.1 a0.1.2.2.2, O5 a0.1.2.1 A1 c_1, Ya a0.2.1 A2 c_2, Z8 .u32 (Value.int .i64) b3 a0.2.2.1, O3 a0.2.2.2.1 A3 c_3, Z4 b4 a0.2.2.2.2.1 A4 c_4 a0.2.2.2.2.2, Z5 a0.2.2.2.2.1 A4 c_4]) := by
 refine Zs Try.func98 fun w0 F0 h0 => ?_
 unfold Q11.f at H
 refine J.seq (Zb [0] ?_)
 refine J.seq (J.region ?_)
 refine Zm 6 ?_
 refine Zk (Zd 0 h0.wht) ?_
 refine Zn [2] rfl ?_
 refine J.ret ?_
 cases H
 exact ⟨_, _, _, Za, ⟨rfl, rfl⟩, Zc h0 [0, 0, 0, 0, 0, 0, 0, 0]⟩

def Q13.f (a0 : (Int × List (Int) × (Int × Int)) × (List (Int × List (Int) × Bool × Int)) × (List (Int × Int)) × List (Int) × ((List (Int × Int × Bool)) × Int)) (a1 : Int) : Option (Int) := (Q11.f a0).bind fun r1 => (if r1 = true then (some 1) else ((Q25.f a0.1).bind fun r2 => (if (decide (r2 ≤ (w64 (a1)))) = true then (some 4) else (some 0))))
theorem Q13.spec {a0 : (Int × List (Int) × (Int × Int)) × (List (Int × List (Int) × Bool × Int)) × (List (Int × Int)) × List (Int) × ((List (Int × Int × Bool)) × Int)} {a1 : Int} {b1 : Nat} {b2 : Nat} {b3 : Nat} {b4 : Nat} {A1 : Option Addr} {c_1 : Nat} {A2 : Option Addr} {c_2 : Nat} {A3 : Option Addr} {c_3 : Nat} {A4 : Option Addr} {c_4 : Nat} {r : Int} (H : Q13.f a0 a1 = some r) :
  Spec Try.prog 103 [.pointer (some ⟨b1, 0, none⟩), .int .u32 a1] [Yb b1 (.pointer (some ⟨b2, 0, none⟩)) a0.2.1 A2 c_2 (.map (some b3)) a0.2.2.2.1 A3 c_3 (.pointer (some ⟨b4, 0, none⟩)), X51 b2 a0.1.1 a0.1.2.1 A1 c_1 a0.1.2.2.1 a0.1.2.2.2, O5 a0.1.2.1 A1 c_1, Ya a0.2.1 A2 c_2, Z8 .u32 (Value.int .i64) b3 a0.2.2.1, O3 a0.2.2.2.1 A3 c_3, Z4 b4 a0.2.2.2.2.1 A4 c_4 a0.2.2.2.2.2, Z5 a0.2.2.2.2.1 A4 c_4] [] (fun v l => v = .int .i64 r ∧ l = [Yb b1 (.pointer (some ⟨b2, 0, none⟩)) a0.2.1 A2 c_2 (.map (some b3)) a0.2.2.2.1 A3 c_3 (.pointer (some ⟨b4, 0, none⟩)), X51 b2 a0.1.1 a0.1.2.1 A1 c_1 a0.1.2.2.1 a0.1.2.2.2, O5 a0.1.2.1 A1 c_1, Ya a0.2.1 A2 c_2, Z8 .u32 (Value.int .i64) b3 a0.2.2.1, O3 a0.2.2.2.1 A3 c_3, Z4 b4 a0.2.2.2.2.1 A4 c_4 a0.2.2.2.2.2, Z5 a0.2.2.2.2.1 A4 c_4]) := by
 refine Zs Try.func103 fun w0 F0 h0 => ?_
 unfold Q13.f at H
 refine J.seq (Zb [0, 1] ?_)
 refine J.seq (J.block (J.seq (J.region ?_)))
 refine Zm 1 ?_
 obtain ⟨r1, q1, H⟩ := Zp H
 refine Zh (Zi [0, 0, 0, 0, 0, 0, 0, 0] (Q11.spec q1) h0 rfl Zt) ?_
 rintro _ w1 ⟨_, ⟨rfl, rfl⟩, h1⟩
 replace h1 := nf h1
 refine Zn [0, 1, 5] rfl ?_
 refine jIf H (fun c1 H => ?_) fun c1 H => ?_
 ·refine J.seq (Zb [4] ?_)
  refine J.ret ?_
  cases H
  exact ⟨_, _, _, Za, ⟨rfl, rfl⟩, Zc h1 [0, 0, 0, 0, 0, 0, 0, 0]⟩
 refine J.seq (J.region ?_)
 refine Zm 5 ?_
 refine Zk (Zd 0 h1.wht) ?_
 obtain ⟨r2, q2, H⟩ := Zp H
 refine Zh (Zi [1, 1] (Q25.spec q2) h1 rfl Zt) ?_
 rintro _ w2 ⟨_, ⟨rfl, rfl⟩, h2⟩
 replace h2 := nf h2
 refine Zn [8] rfl ?_
 refine jIf H (fun c2 H => ?_) fun c2 H => ?_
 ·refine J.seq (Zb [4] ?_)
  refine J.ret ?_
  cases H
  exact ⟨_, _, _, Za, ⟨rfl, rfl⟩, Zc h2 [2, 0, 0, 0, 0, 0, 0, 0]⟩
 refine J.skip (J.seq (Zb [4] ?_))
 refine J.ret ?_
 cases H
 exact ⟨_, _, _, Za, ⟨rfl, rfl⟩, Zc h2 [2, 0, 0, 0, 0, 0, 0, 0]⟩

def Q20.f (a0 : (List (Int × Int × Bool)) × Int) : Option (Int) := some (w64 ((a0.1.length : Int) - 1))
theorem Q20.spec {a0 : (List (Int × Int × Bool)) × Int} {b1 : Nat} {A1 : Option Addr} {c_1 : Nat} {r : Int} (H : Q20.f a0 = some r) :
  Spec Try.prog 150 [.pointer (some ⟨b1, 0, none⟩)] [Z4 b1 a0.1 A1 c_1 a0.2, Z5 a0.1 A1 c_1] [] (fun v l => v = .int .i64 r ∧ l = [Z4 b1 a0.1 A1 c_1 a0.2, Z5 a0.1 A1 c_1]) := by
 refine Zs Try.func150 fun w0 F0 h0 => ?_
 unfold Q20.f at H
 refine J.seq (Zb [0] ?_)
 refine J.seq (J.region ?_)
 refine Zm 3 ?_
 refine Zk (Zd 0 h0.wht) ?_
 refine Zn [2] rfl ?_
 refine J.ret ?_
 cases H
 exact ⟨_, _, _, Za, ⟨rfl, rfl⟩, Zc h0 [0, 0]⟩

def Q21.f (a0 : (List (Int × Int × Bool)) × Int) (a1 : Int) : Option (Int) := if (decide ((a0.1.length : Int) = 0)) = true then (some 1) else (if (decide (a1 < 0)) = true then (some 4) else ((Q20.f a0).bind fun r1 => (if (decide (r1 ≤ a1)) = true then (some 4) else (some 0))))
theorem Q21.spec {a0 : (List (Int × Int × Bool)) × Int} {a1 : Int} {b1 : Nat} {A1 : Option Addr} {c_1 : Nat} {r : Int} (H : Q21.f a0 a1 = some r) :
  Spec Try.prog 146 [.pointer (some ⟨b1, 0, none⟩), .int .i64 a1] [Z4 b1 a0.1 A1 c_1 a0.2, Z5 a0.1 A1 c_1] [] (fun v l => v = .int .i64 r ∧ l = [Z4 b1 a0.1 A1 c_1 a0.2, Z5 a0.1 A1 c_1]) := by
 refine Zs Try.func146 fun w0 F0 h0 => ?_
 unfold Q21.f at H
 refine J.seq (Zb [0, 1] ?_)
 refine J.seq (J.block (J.seq (J.region ?_)))
 refine Zm 6 ?_
 refine Zk (Zd 0 h0.wht) ?_
 refine Zn [0, 1, 5] rfl ?_
 refine jIf H (fun c1 H => ?_) fun c1 H => ?_
 ·refine J.seq (Zb [4] ?_)
  refine J.ret ?_
  cases H
  exact ⟨_, _, _, Za, ⟨rfl, rfl⟩, Zc h0 [0, 0]⟩
 refine J.seq (J.region ?_)
 refine Zm 3 ?_
 refine Y3 19 H (fun c2 H => ?_) fun c2 H => ?_
 ·refine Zn [16] rfl ?_
  refine Z2 ?_
  refine J.seq (Zb [4] ?_)
  refine J.ret ?_
  cases H
  exact ⟨_, _, _, Za, ⟨rfl, rfl⟩, Zc h0 [0, 0]⟩
 refine Zm 2 ?_
 obtain ⟨r1, q1, H⟩ := Zp H
 refine Zh (Zi [0, 0] (Q20.spec q1) h0 rfl Zt) ?_
 rintro _ w1 ⟨_, ⟨rfl, rfl⟩, h1⟩
 replace h1 := nf h1
 refine Zn [16] rfl ?_
 refine jIf H (fun c3 H => ?_) fun c3 H => ?_
 ·refine J.seq (Zb [4] ?_)
  refine J.ret ?_
  cases H
  exact ⟨_, _, _, Za, ⟨rfl, rfl⟩, Zc h1 [0, 0]⟩
 refine J.skip (J.seq (Zb [4] ?_))
 refine J.ret ?_
 cases H
 exact ⟨_, _, _, Za, ⟨rfl, rfl⟩, Zc h1 [0, 0]⟩

def Q18.f (a0 : (List (Int × Int × Bool)) × Int) (a1 : Int) : Option (((List (Int × Int × Bool)) × Int)) := if 0 ≤ a1 ∧ a1 < (a0.1.length : Int) then (if (!((gt a0.1 a1).2.2)) = true then (some a0) else (if 0 ≤ ((gt a0.1 a1).1) ∧ ((gt a0.1 a1).1) < (a0.1.length : Int) then (if 0 ≤ ((gt a0.1 a1).2.1) ∧ ((gt a0.1 a1).2.1) < ((a0.1.set ((gt a0.1 a1).1).toNat ((gt a0.1 ((gt a0.1 a1).1)).1, (gt a0.1 a1).2.1, (gt a0.1 ((gt a0.1 a1).1)).2.2)).length : Int) then (if 0 ≤ a1 ∧ a1 < (((a0.1.set ((gt a0.1 a1).1).toNat ((gt a0.1 ((gt a0.1 a1).1)).1, (gt a0.1 a1).2.1, (gt a0.1 ((gt a0.1 a1).1)).2.2)).set ((gt a0.1 a1).2.1).toNat ((gt a0.1 a1).1, (gt (a0.1.set ((gt a0.1 a1).1).toNat ((gt a0.1 ((gt a0.1 a1).1)).1, (gt a0.1 a1).2.1, (gt a0.1 ((gt a0.1 a1).1)).2.2)) ((gt a0.1 a1).2.1)).2.1, (gt (a0.1.set ((gt a0.1 a1).1).toNat ((gt a0.1 ((gt a0.1 a1).1)).1, (gt a0.1 a1).2.1, (gt a0.1 ((gt a0.1 a1).1)).2.2)) ((gt a0.1 a1).2.1)).2.2)).length : Int) then (some ((((a0.1.set ((gt a0.1 a1).1).toNat ((gt a0.1 ((gt a0.1 a1).1)).1, (gt a0.1 a1).2.1, (gt a0.1 ((gt a0.1 a1).1)).2.2)).set ((gt a0.1 a1).2.1).toNat ((gt a0.1 a1).1, (gt (a0.1.set ((gt a0.1 a1).1).toNat ((gt a0.1 ((gt a0.1 a1).1)).1, (gt a0.1 a1).2.1, (gt a0.1 ((gt a0.1 a1).1)).2.2)) ((gt a0.1 a1).2.1)).2.1, (gt (a0.1.set ((gt a0.1 a1).1).toNat ((gt a0.1 ((gt a0.1 a1).1)).1, (gt a0.1 a1).2.1, (gt a0.1 ((gt a0.1 a1).1)).2.2)) ((gt a0.1 a1).2.1)).2.2)).set a1.toNat (0, 0, false)), (w64 (a0.2 - 1)))) else none) else none) else none)) else none
theorem Q18.spec {a0 : (List (Int × Int × Bool)) × Int} {a1 : Int} {b1 : Nat} {A1 : Option Addr} {c_1 : Nat} {r : ((List (Int × Int × Bool)) × Int)} (H : Q18.f a0 a1 = some r) :
  Spec Try.prog 147 [.pointer (some ⟨b1, 0, none⟩), .int .i64 a1] [Z4 b1 a0.1 A1 c_1 a0.2, Z5 a0.1 A1 c_1] [] (fun v l => ∃ (A_0 : Option Addr) (c_0 : Nat), v = .tuple #[] ∧ l = [Z4 b1 r.1 A_0 c_0 r.2, Z5 r.1 A_0 c_0]) := by
 refine Zs Try.func147 fun w0 F0 h0 => ?_
 unfold Q18.f at H
 refine J.seq (J.region ?_)
 refine Zm 3 ?_
 refine Zk (Zd 0 h0.wht) ?_
 refine Zm 1 ?_
 obtain ⟨⟨p1, p2⟩, H⟩ := Zo H
 have e1 := Z3 h0.wh (gO 1) p1 p2
 refine Zk (Zf e1 p1 p2) ?_
 refine Zk (Zg 0 h0.wht (gO 1) p1 p2) ?_
 refine Zh (Ug h0) ?_
 rintro _ w1 ⟨b2, rfl, h1⟩
 replace h1 := nf h1
 refine Zh (Yj 0 h1) ?_
 intro _ w2 h2
 replace h2 := nf h2
 refine Zn [0, 1, 4] rfl ?_
 refine J.seq (J.seq (J.region ?_))
 refine Zm 1 ?_
 refine Zk (Zd 0 h2.wht) ?_
 refine Zn [0, 1, 4, 14] rfl ?_
 refine jIf H (fun c1 H => ?_) fun c1 H => ?_
 ·refine J.ret ?_
  cases H
  exact ⟨_, _, _, Za, ⟨_, _, rfl, rfl⟩, Zc h2 [1, 1]⟩
 refine J.skip (J.seq (Zr (Zc h2 [0, 0]) ?_))
 have h3 := h2.drew
 refine Zv [0, 1, 2, 4, 6] ?_
 refine Ze 3 rfl (Zd 1 wI) ?_
 refine Ze 5 rfl (Zd 0 wI) ?_
 refine Ze 7 rfl (Zd 0 wI) ?_
 obtain ⟨⟨p3, p4⟩, H⟩ := Zo H
 refine Ze 8 rfl (Zf e1 p3 p4) ?_
 refine Zv [9] ?_
 refine Zl 10 rfl (Zj 1 (.pair (.int .i64) (.pair (.int .i64) .bool)) ((gt a0.1 a1).1) ((gt a0.1 ((gt a0.1 a1).1)).1, (gt a0.1 a1).2.1, (gt a0.1 ((gt a0.1 a1).1)).2.2) 2 h3 rfl p3 p4) ?_
 intro _ w3 h4
 replace h4 := nf h4
 refine ⟨⟨[_], h4⟩, ?_⟩
 replace h4 : St w0 F0 [Z5 (a0.1.set ((gt a0.1 a1).1).toNat ((gt a0.1 ((gt a0.1 a1).1)).1, (gt a0.1 a1).2.1, (gt a0.1 ((gt a0.1 a1).1)).2.2)) A1 c_1, Bz b2 ((gt a0.1 a1).1) ((gt a0.1 a1).2.1) ((gt a0.1 a1).2.2), Z4 b1 (a0.1.set ((gt a0.1 a1).1).toNat ((gt a0.1 ((gt a0.1 a1).1)).1, (gt a0.1 a1).2.1, (gt a0.1 ((gt a0.1 a1).1)).2.2)) A1 c_1 a0.2] _ _ := h4.retell (by simp only [List.length_set, List.length_nil, Z5, Z4, Bz] <;> rfl)
 refine Zy [0, 1, 4] ?_
 refine J.seq (Zr (Zc h4 [1, 1]) ?_)
 have h5 := h4.drew
 refine Zv [0, 1, 2, 4, 6] ?_
 refine Ze 3 rfl (Zd 1 wI) ?_
 refine Ze 5 rfl (Zd 0 wI) ?_
 refine Ze 7 rfl (Zd 0 wI) ?_
 obtain ⟨⟨p5, p6⟩, H⟩ := Zo H
 refine Ze 8 rfl (Zf e1 p5 p6) ?_
 refine Zv [9] ?_
 refine Zl 10 rfl (Zj 0 (.pair (.int .i64) (.pair (.int .i64) .bool)) ((gt a0.1 a1).2.1) ((gt a0.1 a1).1, (gt (a0.1.set ((gt a0.1 a1).1).toNat ((gt a0.1 ((gt a0.1 a1).1)).1, (gt a0.1 a1).2.1, (gt a0.1 ((gt a0.1 a1).1)).2.2)) ((gt a0.1 a1).2.1)).2.1, (gt (a0.1.set ((gt a0.1 a1).1).toNat ((gt a0.1 ((gt a0.1 a1).1)).1, (gt a0.1 a1).2.1, (gt a0.1 ((gt a0.1 a1).1)).2.2)) ((gt a0.1 a1).2.1)).2.2) 0 h5 rfl p5 p6) ?_
 intro _ w4 h6
 replace h6 := nf h6
 refine ⟨⟨[_], h6⟩, ?_⟩
 replace h6 : St w0 F0 [Z5 ((a0.1.set ((gt a0.1 a1).1).toNat ((gt a0.1 ((gt a0.1 a1).1)).1, (gt a0.1 a1).2.1, (gt a0.1 ((gt a0.1 a1).1)).2.2)).set ((gt a0.1 a1).2.1).toNat ((gt a0.1 a1).1, (gt (a0.1.set ((gt a0.1 a1).1).toNat ((gt a0.1 ((gt a0.1 a1).1)).1, (gt a0.1 a1).2.1, (gt a0.1 ((gt a0.1 a1).1)).2.2)) ((gt a0.1 a1).2.1)).2.1, (gt (a0.1.set ((gt a0.1 a1).1).toNat ((gt a0.1 ((gt a0.1 a1).1)).1, (gt a0.1 a1).2.1, (gt a0.1 ((gt a0.1 a1).1)).2.2)) ((gt a0.1 a1).2.1)).2.2)) A1 c_1, Bz b2 ((gt a0.1 a1).1) ((gt a0.1 a1).2.1) ((gt a0.1 a1).2.2), Z4 b1 ((a0.1.set ((gt a0.1 a1).1).toNat ((gt a0.1 ((gt a0.1 a1).1)).1, (gt a0.1 a1).2.1, (gt a0.1 ((gt a0.1 a1).1)).2.2)).set ((gt a0.1 a1).2.1).toNat ((gt a0.1 a1).1, (gt (a0.1.set ((gt a0.1 a1).1).toNat ((gt a0.1 ((gt a0.1 a1).1)).1, (gt a0.1 a1).2.1, (gt a0.1 ((gt a0.1 a1).1)).2.2)) ((gt a0.1 a1).2.1)).2.1, (gt (a0.1.set ((gt a0.1 a1).1).toNat ((gt a0.1 ((gt a0.1 a1).1)).1, (gt a0.1 a1).2.1, (gt a0.1 ((gt a0.1 a1).1)).2.2)) ((gt a0.1 a1).2.1)).2.2)) A1 c_1 a0.2] _ _ := h6.retell (by simp only [List.length_set, List.length_nil, Z5, Z4, Bz] <;> rfl)
 refine Zy [0, 1] ?_
 refine J.seq (J.region ?_)
 refine Zm 3 ?_
 refine Zk (Zd 2 h6.wht) ?_
 refine Zm 2 ?_
 obtain ⟨⟨p7, p8⟩, H⟩ := Zo H
 refine Zk (Zf e1 p7 p8) ?_
 refine Zh (Zj 0 (.pair (.int .i64) (.pair (.int .i64) .bool)) a1 (0, 0, false) 0 h6 rfl p7 p8) ?_
 intro _ w5 h7
 replace h7 := nf h7
 replace h7 : St w0 F0 [Z5 (((a0.1.set ((gt a0.1 a1).1).toNat ((gt a0.1 ((gt a0.1 a1).1)).1, (gt a0.1 a1).2.1, (gt a0.1 ((gt a0.1 a1).1)).2.2)).set ((gt a0.1 a1).2.1).toNat ((gt a0.1 a1).1, (gt (a0.1.set ((gt a0.1 a1).1).toNat ((gt a0.1 ((gt a0.1 a1).1)).1, (gt a0.1 a1).2.1, (gt a0.1 ((gt a0.1 a1).1)).2.2)) ((gt a0.1 a1).2.1)).2.1, (gt (a0.1.set ((gt a0.1 a1).1).toNat ((gt a0.1 ((gt a0.1 a1).1)).1, (gt a0.1 a1).2.1, (gt a0.1 ((gt a0.1 a1).1)).2.2)) ((gt a0.1 a1).2.1)).2.2)).set a1.toNat (0, 0, false)) A1 c_1, Bz b2 ((gt a0.1 a1).1) ((gt a0.1 a1).2.1) ((gt a0.1 a1).2.2), Z4 b1 (((a0.1.set ((gt a0.1 a1).1).toNat ((gt a0.1 ((gt a0.1 a1).1)).1, (gt a0.1 a1).2.1, (gt a0.1 ((gt a0.1 a1).1)).2.2)).set ((gt a0.1 a1).2.1).toNat ((gt a0.1 a1).1, (gt (a0.1.set ((gt a0.1 a1).1).toNat ((gt a0.1 ((gt a0.1 a1).1)).1, (gt a0.1 a1).2.1, (gt a0.1 ((gt a0.1 a1).1)).2.2)) ((gt a0.1 a1).2.1)).2.1, (gt (a0.1.set ((gt a0.1 a1).1).toNat ((gt a0.1 ((gt a0.1 a1).1)).1, (gt a0.1 a1).2.1, (gt a0.1 ((gt a0.1 a1).1)).2.2)) ((gt a0.1 a1).2.1)).2.2)).set a1.toNat (0, 0, false)) A1 c_1 a0.2] _ _ := h7.retell (by simp only [List.length_set, List.length_nil, Z5, Z4, Bz] <;> rfl)
 refine Zn [0] rfl ?_
 refine J.region (Zm 3 ?_)
 refine Zk (Zd 2 h7.wht) ?_
 refine Zm 3 ?_
 refine Zh (Yj 2 h7) ?_
 intro _ w6 h8
 replace h8 := nf h8
 refine Zn [] rfl ?_
 cases H
 exact ⟨_, _, _, Za, ⟨_, _, rfl, rfl⟩, Zc h8 [0, 0]⟩

def Q14.f (a0 : (List (Int × Int × Bool)) × Int) (a1 : Int) : Option (Int × ((List (Int × Int × Bool)) × Int)) := (Q21.f a0 a1).bind fun r1 => (if (!decide (r1 = 0)) = true then (some (r1, a0)) else (if 0 ≤ a1 ∧ a1 < (a0.1.length : Int) then (if (!((gt a0.1 a1).2.2)) = true then (some (9, a0)) else ((Q18.f a0 a1).bind fun r2 => (some (0, r2)))) else none))
theorem Q14.spec {a0 : (List (Int × Int × Bool)) × Int} {a1 : Int} {b1 : Nat} {A1 : Option Addr} {c_1 : Nat} {r : Int × ((List (Int × Int × Bool)) × Int)} (H : Q14.f a0 a1 = some r) :
  Spec Try.prog 104 [.pointer (some ⟨b1, 0, none⟩), .int .i64 a1] [Z4 b1 a0.1 A1 c_1 a0.2, Z5 a0.1 A1 c_1] [] (fun v l => ∃ (A_0 : Option Addr) (c_0 : Nat), v = .int .i64 r.1 ∧ l = [Z4 b1 r.2.1 A_0 c_0 r.2.2, Z5 r.2.1 A_0 c_0]) := by
 refine Zs Try.func104 fun w0 F0 h0 => ?_
 unfold Q14.f at H
 refine J.seq (Zb [0, 1] ?_)
 refine J.seq (J.seq (J.region ?_))
 refine Zm 2 ?_
 obtain ⟨r1, q1, H⟩ := Zp H
 refine Zh (Zi [0, 0] (Q21.spec q1) h0 rfl Zt) ?_
 rintro _ w1 ⟨_, ⟨rfl, rfl⟩, h1⟩
 replace h1 := nf h1
 refine Zn [0, 1, 5] rfl ?_
 refine J.seq (Zb [0, 1, 5, 10] ?_)
 refine jIf H (fun c1 H => ?_) fun c1 H => ?_
 ·refine J.seq (Zb [4] ?_)
  refine J.ret ?_
  cases H
  exact ⟨_, _, _, Za, ⟨_, _, rfl, rfl⟩, Zc h1 [0, 0]⟩
 refine J.skip (J.seq (J.seq (J.region ?_)))
 refine Zm 3 ?_
 refine Zk (Zd 0 h1.wht) ?_
 refine Zm 1 ?_
 obtain ⟨⟨p1, p2⟩, H⟩ := Zo H
 have e1 := Z3 h1.wh (gO 1) p1 p2
 refine Zk (Zf e1 p1 p2) ?_
 refine Zm 1 ?_
 refine Zk (Zg 2 h1.wht (gO 1) p1 p2) ?_
 refine Zn [0, 1, 20] rfl ?_
 refine jIf H (fun c2 H => ?_) fun c2 H => ?_
 ·refine J.seq (Zb [4] ?_)
  refine J.ret ?_
  cases H
  exact ⟨_, _, _, Za, ⟨_, _, rfl, rfl⟩, Zc h1 [0, 0]⟩
 refine J.skip (J.seq (J.region ?_))
 refine Zm 2 ?_
 obtain ⟨r2, q2, H⟩ := Zp H
 refine Zh (Zi [0, 0] (Q18.spec q2) h1 rfl Zt) ?_
 rintro _ w2 ⟨_, ⟨A2, c_2, rfl, rfl⟩, h2⟩
 replace h2 := nf h2
 refine Zn [] rfl ?_
 refine J.seq (Zb [4] ?_)
 refine J.ret ?_
 cases H
 exact ⟨_, _, _, Za, ⟨_, _, rfl, rfl⟩, Zc h2 [0, 0]⟩

def Q17.f (a0 : (List (Int × Int × Bool)) × Int) : Option (Int) := some a0.2
theorem Q17.spec {a0 : (List (Int × Int × Bool)) × Int} {b1 : Nat} {A1 : Option Addr} {c_1 : Nat} {r : Int} (H : Q17.f a0 = some r) :
  Spec Try.prog 151 [.pointer (some ⟨b1, 0, none⟩)] [Z4 b1 a0.1 A1 c_1 a0.2, Z5 a0.1 A1 c_1] [] (fun v l => v = .int .i64 r ∧ l = [Z4 b1 a0.1 A1 c_1 a0.2, Z5 a0.1 A1 c_1]) := by
 refine Zs Try.func151 fun w0 F0 h0 => ?_
 unfold Q17.f at H
 refine J.seq (Zb [0] ?_)
 refine J.seq (J.seq (Zb [0, 4] ?_))
 refine Zz ?_
 refine J.skip (J.seq (J.region ?_))
 refine Zm 3 ?_
 refine Zk (Zd 0 h0.wht) ?_
 refine Zn [2] rfl ?_
 refine J.ret ?_
 cases H
 exact ⟨_, _, _, Za, ⟨rfl, rfl⟩, Zc h0 [0, 0]⟩

def Q16.f (a0 : (List (Int × Int × Bool)) × Int) : Option (Int × Bool) := (Q17.f a0).bind fun r1 => (if (decide (r1 = 0)) = true then (some (0, false)) else ((Q20.f a0).bind fun r2 => (if 0 ≤ r2 ∧ r2 < (a0.1.length : Int) then (some ((gt a0.1 r2).1, true)) else none)))
theorem Q16.spec {a0 : (List (Int × Int × Bool)) × Int} {b1 : Nat} {A1 : Option Addr} {c_1 : Nat} {r : Int × Bool} (H : Q16.f a0 = some r) :
  Spec Try.prog 148 [.pointer (some ⟨b1, 0, none⟩)] [Z4 b1 a0.1 A1 c_1 a0.2, Z5 a0.1 A1 c_1] [] (fun v l => v = .tuple #[.int .i64 r.1, .bool r.2] ∧ l = [Z4 b1 a0.1 A1 c_1 a0.2, Z5 a0.1 A1 c_1]) := by
 refine Zs Try.func148 fun w0 F0 h0 => ?_
 unfold Q16.f at H
 refine J.seq (Zb [0] ?_)
 refine J.seq (J.seq (J.region ?_))
 refine Zm 1 ?_
 obtain ⟨r1, q1, H⟩ := Zp H
 refine Zh (Zi [0, 0] (Q17.spec q1) h0 rfl Zt) ?_
 rintro _ w1 ⟨_, ⟨rfl, rfl⟩, h1⟩
 replace h1 := nf h1
 refine Zn [0, 6] rfl ?_
 refine jIf H (fun c1 H => ?_) fun c1 H => ?_
 ·refine J.seq (Zb [2, 3] ?_)
  refine J.ret ?_
  cases H
  exact ⟨_, _, _, Za, ⟨rfl, rfl⟩, Zc h1 [0, 0]⟩
 refine J.skip (J.seq (Zr h1 ?_))
 have h2 := h1.drew
 refine Zv [0, 1, 2, 4] ?_
 refine Ze 3 rfl (Zd 0 wI) ?_
 obtain ⟨r2, q2, H⟩ := Zp H
 refine Zl 5 rfl (Zi [0, 0] (Q20.spec q2) h2 rfl Zt) ?_
 rintro _ w2 ⟨_, ⟨rfl, rfl⟩, h3⟩
 replace h3 := nf h3
 refine ⟨⟨[], h3⟩, ?_⟩
 obtain ⟨⟨p1, p2⟩, H⟩ := Zo H
 have e1 := Z3 h3.wh (gO 1) p1 p2
 refine Ze 6 rfl (Zf e1 p1 p2) ?_
 refine Zv [7] ?_
 refine Ze 8 rfl (Zg 0 wI (gO 1) p1 p2) ?_
 refine Zv [9, 10] ?_
 refine Zy [2, 3] ?_
 refine J.ret ?_
 cases H
 exact ⟨_, _, _, Za, ⟨rfl, rfl⟩, Zc h3 [0, 0]⟩

def Q30.f (a0 : Int × List (Int) × (Int × Int)) (a1 : Int) (a2 : List (Int)) : Option (Int × (Int × List (Int) × (Int × Int))) := (Q25.f a0).bind fun r1 => (if (decide (r1 = 0)) = true then (some (1, a0)) else ((Q25.f a0).bind fun r2 => (if (decide (r2 ≤ (w64 (a1)))) = true then (some (4, a0)) else (if 0 ≤ (w64 ((w64 (a1)) * a0.1)) ∧ (w64 ((w64 (a1)) * a0.1)) ≤ (w64 ((w64 ((w64 (a1)) * a0.1)) + a0.1)) ∧ (w64 ((w64 ((w64 (a1)) * a0.1)) + a0.1)) ≤ (a0.2.1.length : Int) then (if (!decide ((a2.length : Int) = a0.1)) = true then (some (3, a0)) else (some (0, (a0.1, (Ym a0.2.1 (((w64 ((w64 (a1)) * a0.1))).toNat) (((a0.2.1.drop ((w64 ((w64 (a1)) * a0.1))).toNat).take (((w64 ((w64 ((w64 (a1)) * a0.1)) + a0.1))).toNat - ((w64 ((w64 (a1)) * a0.1))).toNat)).length) a2), (a0.2.2.1, (IntKind.u64.wrap (a0.2.2.2 + 1))))))) else none))))
theorem Q30.spec {a0 : Int × List (Int) × (Int × Int)} {a1 : Int} {a2 : List (Int)} {A2 : Option Addr} {c_2 : Nat} {b1 : Nat} {A1 : Option Addr} {c_1 : Nat} {r : Int × (Int × List (Int) × (Int × Int))} (H : Q30.f a0 a1 a2 = some r) :
  Spec Try.prog 16 [.pointer (some ⟨b1, 0, none⟩), .int .u32 a1, .slice A2 a2.length c_2] [X51 b1 a0.1 a0.2.1 A1 c_1 a0.2.2.1 a0.2.2.2, O5 a0.2.1 A1 c_1] [R5 a2 A2 c_2] (fun v l => ∃ (A_0 : Option Addr) (c_0 : Nat), v = .int .i64 r.1 ∧ l = [X51 b1 r.2.1 r.2.2.1 A_0 c_0 r.2.2.2.1 r.2.2.2.2, O5 r.2.2.1 A_0 c_0]) := by
 refine Zs Try.func16 fun w0 F0 h0 => ?_
 unfold Q30.f at H
 refine J.seq (Zb [0, 1, 2] ?_)
 refine J.seq (J.region ?_)
 refine Zm 2 ?_
 refine Yc Try.func69 ?_
 refine J.seq (Zb [0, 1] ?_)
 refine J.seq (J.block (J.seq (J.region ?_)))
 refine Zm 1 ?_
 obtain ⟨r1, q1, H⟩ := Zp H
 refine Zh (Zi [0, 0] (Q25.spec q1) h0 rfl Zt) ?_
 rintro _ w1 ⟨_, ⟨rfl, rfl⟩, h1⟩
 replace h1 := nf h1
 refine Zn [0, 1, 7] rfl ?_
 refine jIf H (fun c1 H => ?_) fun c1 H => ?_
 ·refine J.seq (Zb [4, 5] ?_)
  refine J.ret (⟨_, Za, ?_⟩)
  refine Zn [0, 2, 7, 8] rfl ?_
  refine J.seq (J.block (J.seq (Zb [0, 2, 7, 8, 15] ?_)))
  refine Z2 ?_
  refine J.seq (Zb [6] ?_)
  refine J.ret ?_
  cases H
  exact ⟨_, _, _, Za, ⟨_, _, rfl, rfl⟩, Zc h1 [0, 0]⟩
 refine J.seq (J.region ?_)
 refine Zm 3 ?_
 obtain ⟨r2, q2, H⟩ := Zp H
 refine Zh (Zi [0, 0] (Q25.spec q2) h1 rfl Zt) ?_
 rintro _ w2 ⟨_, ⟨rfl, rfl⟩, h2⟩
 replace h2 := nf h2
 refine Zn [0, 1, 11] rfl ?_
 refine jIf H (fun c2 H => ?_) fun c2 H => ?_
 ·refine J.seq (Zb [4, 5] ?_)
  refine J.ret (⟨_, Za, ?_⟩)
  refine Zn [0, 2, 7, 8] rfl ?_
  refine J.seq (J.block (J.seq (Zb [0, 2, 7, 8, 15] ?_)))
  refine Z2 ?_
  refine J.seq (Zb [6] ?_)
  refine J.ret ?_
  cases H
  exact ⟨_, _, _, Za, ⟨_, _, rfl, rfl⟩, Zc h2 [0, 0]⟩
 refine J.skip (J.seq (J.region ?_))
 refine Zm 5 ?_
 refine Zk (Zd 0 h2.wht) ?_
 refine Zn [0, 6] rfl ?_
 refine J.seq (Zr h2 ?_)
 have h3 := h2.drew
 refine Zv [0, 1, 2, 4, 5, 6, 7, 8] ?_
 refine Ze 3 rfl (Zd 0 wI) ?_
 refine Ze 9 rfl (Zd 0 wI) ?_
 refine Zv [10] ?_
 obtain ⟨⟨p1, p2, p3⟩, H⟩ := Zo H
 have e1 := h3.cap (gO 1)
 refine Ze 11 rfl (Jp ((a0.2.1.drop ((w64 ((w64 (a1)) * a0.1))).toNat).take (((w64 ((w64 ((w64 (a1)) * a0.1)) + a0.1))).toNat - ((w64 ((w64 (a1)) * a0.1))).toNat)) (w64 ((w64 (a1)) * a0.1)) (w64 ((w64 ((w64 (a1)) * a0.1)) + a0.1)) e1 p1 p2 p3) ?_
 refine Zv [12, 13] ?_
 refine Zy [4, 5] ?_
 refine J.ret (⟨_, Za, ?_⟩)
 refine Zn [0, 2, 7, 8] rfl ?_
 refine J.seq (J.block (J.seq (Zb [0, 2, 7, 8, 15] ?_)))
 refine Zz ?_
 refine J.seq (J.region ?_)
 refine Zm 5 ?_
 refine Zk (Zd 0 h3.wht) ?_
 refine Zn [0, 2, 7, 19] rfl ?_
 refine jIf H (fun c3 H => ?_) fun c3 H => ?_
 ·refine J.seq (Zb [6] ?_)
  refine J.ret ?_
  cases H
  exact ⟨_, _, _, Za, ⟨_, _, rfl, rfl⟩, Zc h3 [0, 0]⟩
 refine J.skip (J.seq (J.region ?_))
 refine Zm 2 ?_
 have e2 : (((w64 ((w64 (a1)) * a0.1))).toNat) + ((a0.2.1.drop ((w64 ((w64 (a1)) * a0.1))).toNat).take (((w64 ((w64 ((w64 (a1)) * a0.1)) + a0.1))).toNat - ((w64 ((w64 (a1)) * a0.1))).toNat)).length ≤ a0.2.1.length := by first | omega | (simp only [List.length_take, List.length_drop]; omega)
 refine Zh (Zcc Xh (ty := (.int .u8)) (xs := a0.2.1) (ys := a2) rfl 1 rfl h3 rfl (Z0 1) rfl rfl rfl rfl rfl rfl e2) ?_
 rintro _ w3 ⟨rfl, h4⟩
 replace h4 := nf h4
 replace h4 : St w0 F0 [O5 (Ym a0.2.1 (((w64 ((w64 (a1)) * a0.1))).toNat) (((a0.2.1.drop ((w64 ((w64 (a1)) * a0.1))).toNat).take (((w64 ((w64 ((w64 (a1)) * a0.1)) + a0.1))).toNat - ((w64 ((w64 (a1)) * a0.1))).toNat)).length) a2) A1 c_1, X51 b1 a0.1 (Ym a0.2.1 (((w64 ((w64 (a1)) * a0.1))).toNat) (((a0.2.1.drop ((w64 ((w64 (a1)) * a0.1))).toNat).take (((w64 ((w64 ((w64 (a1)) * a0.1)) + a0.1))).toNat - ((w64 ((w64 (a1)) * a0.1))).toNat)).length) a2) A1 c_1 a0.2.2.1 a0.2.2.2] _ _ := h4.retell (by simp only [Vx e2, List.length_nil, O5, X51] <;> rfl)
 refine Zn [0] rfl ?_
 refine J.seq (J.region ?_)
 refine Zm 4 ?_
 refine Zk (Zd 1 h4.wht) ?_
 refine Zm 4 ?_
 refine Zh (Yj 1 h4) ?_
 intro _ w4 h5
 replace h5 := nf h5
 refine Zn [] rfl ?_
 refine J.seq (Zb [6] ?_)
 refine J.ret ?_
 cases H
 exact ⟨_, _, _, Za, ⟨_, _, rfl, rfl⟩, Zc h5 [0, 0]⟩

def Q10.f (a0 : (Int × List (Int) × (Int × Int)) × (List (Int × List (Int) × Bool × Int)) × (List (Int × Int)) × List (Int) × ((List (Int × Int × Bool)) × Int)) (a1 : Int) : Option (((Int × List (Int) × (Int × Int)) × (List (Int × List (Int) × Bool × Int)) × (List (Int × Int)) × List (Int) × ((List (Int × Int × Bool)) × Int))) := if 0 ≤ a1 ∧ a1 < (a0.2.1.length : Int) then ((Q14.f a0.2.2.2.2 a1).bind fun r1 => (if (a0.2.2.2.1.length + ([a1] : List (Int)).length) * 8 ≤ 140737488355328 then (some (a0.1, (a0.2.1.set a1.toNat (0, ([] : List (Int)), false, 0)), (Xb ((gt a0.2.1 a1).1) a0.2.2.1), (a0.2.2.2.1 ++ ([a1] : List (Int))), r1.2)) else none)) else none
theorem Q10.spec {a0 : (Int × List (Int) × (Int × Int)) × (List (Int × List (Int) × Bool × Int)) × (List (Int × Int)) × List (Int) × ((List (Int × Int × Bool)) × Int)} {a1 : Int} {b1 : Nat} {b2 : Nat} {b3 : Nat} {b4 : Nat} {A1 : Option Addr} {c_1 : Nat} {A2 : Option Addr} {c_2 : Nat} {A3 : Option Addr} {c_3 : Nat} {A4 : Option Addr} {c_4 : Nat} {r : ((Int × List (Int) × (Int × Int)) × (List (Int × List (Int) × Bool × Int)) × (List (Int × Int)) × List (Int) × ((List (Int × Int × Bool)) × Int))} (H : Q10.f a0 a1 = some r) :
  Spec Try.prog 108 [.pointer (some ⟨b1, 0, none⟩), .int .i64 a1] [Yb b1 (.pointer (some ⟨b2, 0, none⟩)) a0.2.1 A2 c_2 (.map (some b3)) a0.2.2.2.1 A3 c_3 (.pointer (some ⟨b4, 0, none⟩)), X51 b2 a0.1.1 a0.1.2.1 A1 c_1 a0.1.2.2.1 a0.1.2.2.2, O5 a0.1.2.1 A1 c_1, Ya a0.2.1 A2 c_2, Z8 .u32 (Value.int .i64) b3 a0.2.2.1, O3 a0.2.2.2.1 A3 c_3, Z4 b4 a0.2.2.2.2.1 A4 c_4 a0.2.2.2.2.2, Z5 a0.2.2.2.2.1 A4 c_4] [] (fun v l => ∃ (A_0 : Option Addr) (c_0 : Nat) (A_1 : Option Addr) (c_1 : Nat) (A_2 : Option Addr) (c_2 : Nat) (A_3 : Option Addr) (c_3 : Nat), v = .tuple #[] ∧ l = [Yb b1 (.pointer (some ⟨b2, 0, none⟩)) r.2.1 A_1 c_1 (.map (some b3)) r.2.2.2.1 A_2 c_2 (.pointer (some ⟨b4, 0, none⟩)), X51 b2 r.1.1 r.1.2.1 A_0 c_0 r.1.2.2.1 r.1.2.2.2, O5 r.1.2.1 A_0 c_0, Ya r.2.1 A_1 c_1, Z8 .u32 (Value.int .i64) b3 r.2.2.1, O3 r.2.2.2.1 A_2 c_2, Z4 b4 r.2.2.2.2.1 A_3 c_3 r.2.2.2.2.2, Z5 r.2.2.2.2.1 A_3 c_3]) := by
 refine Zs Try.func108 fun w0 F0 h0 => ?_
 unfold Q10.f at H
 refine J.seq (Zr (Zc h0 [0, 0, 0, 0, 1, 1, 1]) ?_)
 have h1 := h0.drew
 refine Zv [0, 1, 2, 4, 5, 6, 8] ?_
 refine Ze 3 rfl (Zd 0 wI) ?_
 refine Ze 7 rfl (Zd 0 wI) ?_
 obtain ⟨⟨p1, p2⟩, H⟩ := Zo H
 have e1 := Z3 h1.wh (gO 3) p1 p2
 refine Ze 9 rfl (Zf e1 p1 p2) ?_
 refine Zv [10] ?_
 refine Ze 11 rfl (Ye 0 wI (gO 3) p1 p2) ?_
 refine Zl 12 rfl (Zd4 Xh (ix := ((gt a0.2.1 a1).1)) 4 rfl h1 rfl rfl rfl rfl rfl rfl rfl) ?_
 intro _ w1 h2
 replace h2 := nf h2
 refine ⟨⟨[_], h2⟩, ?_⟩
 refine Zy [0, 1] ?_
 refine J.seq (J.region ?_)
 refine Zm 3 ?_
 refine Zk (Zd 1 h2.wht) ?_
 refine Zm 1 ?_
 obtain ⟨r1, q1, H⟩ := Zp H
 refine Zh (Zi [6, 6] (Q14.spec q1) h2 rfl Zt) ?_
 rintro _ w2 ⟨_, ⟨A5, c_5, rfl, rfl⟩, h3⟩
 replace h3 := nf h3
 refine Zn [0, 1] rfl ?_
 refine J.seq (J.region ?_)
 refine Zm 3 ?_
 refine Zk (Zd 3 h3.wht) ?_
 refine Zm 2 ?_
 refine Zk (Zf e1 p1 p2) ?_
 have h4 := h3.addNil 5 (.int .u8)
 have h5 := (h4.only [7, 0, 0, 0, 0, 0, 0, 0, 0] rfl).both
 refine Zh (Y1 0 (.pair (.int .u32) (.pair (.slice 5 (.int .u8)) (.pair .bool (.int .i64)))) a1 (0, ([] : List (Int)), false, 0) h5 p1 p2 Vl) ?_
 intro _ w3 h6
 replace h6 := nf h6
 replace h6 : St w0 F0 [Ya (a0.2.1.set a1.toNat (0, ([] : List (Int)), false, 0)) A2 c_2, Z4 b4 r1.2.1 A5 c_5 r1.2.2, Z5 r1.2.1 A5 c_5, Z8 .u32 (Value.int .i64) b3 (Xb ((gt a0.2.1 a1).1) a0.2.2.1), Yb b1 (.pointer (some ⟨b2, 0, none⟩)) (a0.2.1.set a1.toNat (0, ([] : List (Int)), false, 0)) A2 c_2 (.map (some b3)) a0.2.2.2.1 A3 c_3 (.pointer (some ⟨b4, 0, none⟩)), X51 b2 a0.1.1 a0.1.2.1 A1 c_1 a0.1.2.2.1 a0.1.2.2.2, O5 a0.1.2.1 A1 c_1, O3 a0.2.2.2.1 A3 c_3] _ _ := h6.retell (by simp only [List.length_set, List.length_nil, Ya, Z5, O3, O5, Yb, Z4, X51] <;> rfl)
 refine Zn [0, 1] rfl ?_
 refine J.region (Zm 4 ?_)
 refine Zk (Zd 4 h6.wht) ?_
 refine Zm 1 ?_
 refine Zh (Xi (.int .i64) ([a1] : List (Int)) h6) ?_
 rintro _ w4 ⟨b5, rfl, h7⟩
 replace h7 := nf h7
 obtain ⟨p3, H⟩ := Zo H
 refine Zh (Y6 8 h7 (gO 0) p3) ?_
 rintro _ w5 ⟨A6, c_6, rfl, h8⟩
 replace h8 := nf h8
 refine Zm 2 ?_
 refine Zh (Yj 6 h8) ?_
 intro _ w6 h9
 replace h9 := nf h9
 refine Zn [] rfl ?_
 cases H
 exact ⟨_, _, _, Za, ⟨_, _, _, _, _, _, _, _, rfl, rfl⟩, Zc h9 [0, 6, 6, 2, 4, 0, 1, 1]⟩

def Q12.f (a0 : (Int × List (Int) × (Int × Int)) × (List (Int × List (Int) × Bool × Int)) × (List (Int × Int)) × List (Int) × ((List (Int × Int × Bool)) × Int)) : Option (Int × Bool × ((Int × List (Int) × (Int × Int)) × (List (Int × List (Int) × Bool × Int)) × (List (Int × Int)) × List (Int) × ((List (Int × Int × Bool)) × Int))) := if (decide ((a0.2.2.2.1.length : Int) = 0)) = true then ((Q16.f a0.2.2.2.2).bind fun r1 => (if (!r1.2) = true then (some (0, false, a0)) else (if 0 ≤ r1.1 ∧ r1.1 < (a0.2.1.length : Int) then (if (gt a0.2.1 r1.1).2.2.1 = true then ((Q30.f a0.1 ((gt a0.2.1 r1.1).1) ((gt a0.2.1 r1.1).2.1)).bind fun r2 => ((Q10.f (r2.2, (a0.2.1.set r1.1.toNat ((gt a0.2.1 r1.1).1, (gt a0.2.1 r1.1).2.1, false, (gt a0.2.1 r1.1).2.2.2)), a0.2.2.1, a0.2.2.2.1, a0.2.2.2.2) r1.1).bind fun r3 => (if 0 ≤ (w64 ((r3.2.2.2.1.length : Int) - 1)) ∧ (w64 ((r3.2.2.2.1.length : Int) - 1)) < (r3.2.2.2.1.length : Int) then (if (0 : Int) ≤ (w64 ((r3.2.2.2.1.length : Int) - 1)) ∧ (w64 ((r3.2.2.2.1.length : Int) - 1)) ≤ (r3.2.2.2.1.length : Int) then (some ((gt r3.2.2.2.1 (w64 ((r3.2.2.2.1.length : Int) - 1))), true, (r3.1, r3.2.1, r3.2.2.1, (r3.2.2.2.1.take ((w64 ((r3.2.2.2.1.length : Int) - 1))).toNat), r3.2.2.2.2))) else none) else none))) else ((Q10.f a0 r1.1).bind fun r4 => (if 0 ≤ (w64 ((r4.2.2.2.1.length : Int) - 1)) ∧ (w64 ((r4.2.2.2.1.length : Int) - 1)) < (r4.2.2.2.1.length : Int) then (if (0 : Int) ≤ (w64 ((r4.2.2.2.1.length : Int) - 1)) ∧ (w64 ((r4.2.2.2.1.length : Int) - 1)) ≤ (r4.2.2.2.1.length : Int) then (some ((gt r4.2.2.2.1 (w64 ((r4.2.2.2.1.length : Int) - 1))), true, (r4.1, r4.2.1, r4.2.2.1, (r4.2.2.2.1.take ((w64 ((r4.2.2.2.1.length : Int) - 1))).toNat), r4.2.2.2.2))) else none) else none))) else none))) else (if 0 ≤ (w64 ((a0.2.2.2.1.length : Int) - 1)) ∧ (w64 ((a0.2.2.2.1.length : Int) - 1)) < (a0.2.2.2.1.length : Int) then (if (0 : Int) ≤ (w64 ((a0.2.2.2.1.length : Int) - 1)) ∧ (w64 ((a0.2.2.2.1.length : Int) - 1)) ≤ (a0.2.2.2.1.length : Int) then (some ((gt a0.2.2.2.1 (w64 ((a0.2.2.2.1.length : Int) - 1))), true, (a0.1, a0.2.1, a0.2.2.1, (a0.2.2.2.1.take ((w64 ((a0.2.2.2.1.length : Int) - 1))).toNat), a0.2.2.2.2))) else none) else none)
theorem Q12.spec {a0 : (Int × List (Int) × (Int × Int)) × (List (Int × List (Int) × Bool × Int)) × (List (Int × Int)) × List (Int) × ((List (Int × Int × Bool)) × Int)} {b1 : Nat} {b2 : Nat} {b3 : Nat} {b4 : Nat} {A1 : Option Addr} {c_1 : Nat} {A2 : Option Addr} {c_2 : Nat} {A3 : Option Addr} {c_3 : Nat} {A4 : Option Addr} {c_4 : Nat} {r : Int × Bool × ((Int × List (Int) × (Int × Int)) × (List (Int × List (Int) × Bool × Int)) × (List (Int × Int)) × List (Int) × ((List (Int × Int × Bool)) × Int))} (H : Q12.f a0 = some r) :
  Spec Try.prog 105 [.pointer (some ⟨b1, 0, none⟩)] [Yb b1 (.pointer (some ⟨b2, 0, none⟩)) a0.2.1 A2 c_2 (.map (some b3)) a0.2.2.2.1 A3 c_3 (.pointer (some ⟨b4, 0, none⟩)), X51 b2 a0.1.1 a0.1.2.1 A1 c_1 a0.1.2.2.1 a0.1.2.2.2, O5 a0.1.2.1 A1 c_1, Ya a0.2.1 A2 c_2, Z8 .u32 (Value.int .i64) b3 a0.2.2.1, O3 a0.2.2.2.1 A3 c_3, Z4 b4 a0.2.2.2.2.1 A4 c_4 a0.2.2.2.2.2, Z5 a0.2.2.2.2.1 A4 c_4] [] (fun v l => ∃ (A_0 : Option Addr) (c_0 : Nat) (A_1 : Option Addr) (c_1 : Nat) (A_2 : Option Addr) (c_2 : Nat) (A_3 : Option Addr) (c_3 : Nat), v = .tuple #[.int .i64 r.1, .bool r.2.1] ∧ l = [Yb b1 (.pointer (some ⟨b2, 0, none⟩)) r.2.2.2.1 A_1 c_1 (.map (some b3)) r.2.2.2.2.2.1 A_2 c_2 (.pointer (some ⟨b4, 0, none⟩)), X51 b2 r.2.2.1.1 r.2.2.1.2.1 A_0 c_0 r.2.2.1.2.2.1 r.2.2.1.2.2.2, O5 r.2.2.1.2.1 A_0 c_0, Ya r.2.2.2.1 A_1 c_1, Z8 .u32 (Value.int .i64) b3 r.2.2.2.2.1, O3 r.2.2.2.2.2.1 A_2 c_2, Z4 b4 r.2.2.2.2.2.2.1 A_3 c_3 r.2.2.2.2.2.2.2, Z5 r.2.2.2.2.2.2.1 A_3 c_3]) := by
 refine Zs Try.func105 fun w0 F0 h0 => ?_
 unfold Q12.f at H
 refine J.seq (Zb [0] ?_)
 refine J.seq (J.seq (J.region ?_))
 refine Zm 3 ?_
 refine Zk (Zd 0 h0.wht) ?_
 refine Zn [0, 13] rfl ?_
 refine jIf H (fun c1 H => ?_) fun c1 H => ?_
 ·refine J.seq (J.region ?_)
  refine Zm 3 ?_
  refine Zk (Zd 0 h0.wht) ?_
  obtain ⟨r1, q1, H⟩ := Zp H
  refine Zh (Zi [6, 6] (Q16.spec q1) h0 rfl Zt) ?_
  rintro _ w1 ⟨_, ⟨rfl, rfl⟩, h1⟩
  replace h1 := nf h1
  refine Zn [0, 4, 5] rfl ?_
  refine J.seq (J.seq (Zb [0, 4, 23] ?_))
  refine jIf H (fun c2 H => ?_) fun c2 H => ?_
  ·refine J.seq (Zb [2, 3] ?_)
   refine J.ret ?_
   cases H
   exact ⟨_, _, _, Za, ⟨_, _, _, _, _, _, _, _, rfl, rfl⟩, Zc h1 [2, 2, 2, 2, 2, 2, 0, 0]⟩
  refine J.skip (J.seq (J.region ?_))
  refine Zm 4 ?_
  refine Zk (Zd 2 h1.wht) ?_
  refine Zm 1 ?_
  obtain ⟨⟨p1, p2⟩, H⟩ := Zo H
  have e1 := Z3 h1.wh (gO 5) p1 p2
  refine Zk (Zf e1 p1 p2) ?_
  refine Yc Try.func100 ?_
  refine J.seq (J.region ?_)
  refine Zm 3 ?_
  refine Zk (Ye 2 h1.wht (gO 5) p1 p2) ?_
  refine Zn [0, 1, 7] rfl ?_
  refine jIf H (fun c3 H => ?_) fun c3 H => ?_
  ·refine J.seq ?_
   obtain ⟨A5, c_5, h2⟩ := h1.openI 5 rfl p1 p2
   refine Zr (Zc h2 [0, 0, 0, 0, 2, 2]) ?_
   have h3 := h2.drew
   refine Zv [0, 1, 2, 4, 5, 6, 8, 9, 10] ?_
   refine Ze 3 rfl (Zd 3 wI) ?_
   refine Ze 7 rfl (Ye 0 wI (Wb 0 Zcf) p1 p2) ?_
   refine Ze 11 rfl (Vw wI (Z0 0)) ?_
   obtain ⟨r2, q2, H⟩ := Zp H
   refine Zl 12 rfl (Zi [4, 4] (Q30.spec q2) h3 rfl (Y8 (Wb 0 B2) Zt)) ?_
   rintro _ w2 ⟨_, ⟨A6, c_6, rfl, rfl⟩, h4⟩
   replace h4 := nf h4
   refine ⟨⟨[_, _], h4⟩, ?_⟩
   refine Zy [1] ?_
   have h5 := h4.closeI 2 rfl
   refine J.region (Zm 3 ?_)
   refine Zh (Xe 2 (.pair (.int .u32) (.pair (.slice 5 (.int .u8)) (.pair .bool (.int .i64)))) r1.1 ((gt a0.2.1 r1.1).1, (gt a0.2.1 r1.1).2.1, false, (gt a0.2.1 r1.1).2.2.2) 0 h5 rfl p1 p2 (Vq rfl rfl)) ?_
   intro _ w3 h6
   replace h6 := nf h6
   replace h6 : St w0 F0 [Ya (a0.2.1.set r1.1.toNat ((gt a0.2.1 r1.1).1, (gt a0.2.1 r1.1).2.1, false, (gt a0.2.1 r1.1).2.2.2)) A2 c_2, X51 b2 r2.2.1 r2.2.2.1 A6 c_6 r2.2.2.2.1 r2.2.2.2.2, O5 r2.2.2.1 A6 c_6, Z4 b4 a0.2.2.2.2.1 A4 c_4 a0.2.2.2.2.2, Z5 a0.2.2.2.2.1 A4 c_4, Yb b1 (.pointer (some ⟨b2, 0, none⟩)) (a0.2.1.set r1.1.toNat ((gt a0.2.1 r1.1).1, (gt a0.2.1 r1.1).2.1, false, (gt a0.2.1 r1.1).2.2.2)) A2 c_2 (.map (some b3)) a0.2.2.2.1 A3 c_3 (.pointer (some ⟨b4, 0, none⟩)), Z8 .u32 (Value.int .i64) b3 a0.2.2.1, O3 a0.2.2.2.1 A3 c_3] _ _ := h6.retell (by simp only [List.length_set, List.length_nil, Ya, Z5, O3, O5, Yb, Z4, X51] <;> rfl)
   refine Zn [] rfl ?_
   refine ⟨_, Za, ?_⟩
   refine Zn [0, 4] rfl ?_
   refine J.region (Zm 2 ?_)
   obtain ⟨r3, q3, H⟩ := Zp H
   refine Zh (Zi [5, 1, 1, 0, 2, 2, 0, 0] (Q10.spec q3) h6 rfl Zt) ?_
   rintro _ w4 ⟨_, ⟨A7, c_7, A8, c_8, A9, c_9, A10, c_10, rfl, rfl⟩, h7⟩
   replace h7 := nf h7
   refine Zn [0] rfl ?_
   refine J.seq (J.region ?_)
   refine Zm 3 ?_
   refine Zk (Zd 0 h7.wht) ?_
   refine Zn [0, 6] rfl ?_
   refine J.seq (J.region ?_)
   refine Zm 3 ?_
   refine Zk (Zd 0 h7.wht) ?_
   refine Zm 1 ?_
   obtain ⟨⟨p3, p4⟩, H⟩ := Zo H
   have e2 := Z3 h7.wh (gO 5) p3 p4
   refine Zk (Zf e2 p3 p4) ?_
   refine Zk (Zg 0 h7.wht (gO 5) p3 p4) ?_
   refine Zn [0, 6, 7] rfl ?_
   refine J.seq (J.region ?_)
   refine Zm 4 ?_
   refine Zk (Zd 0 h7.wht) ?_
   refine Zm 1 ?_
   obtain ⟨⟨p5, p6⟩, H⟩ := Zo H
   have e3 := h7.cap (gO 5)
   refine Zk (Vj (r3.2.2.2.1.take ((w64 ((r3.2.2.2.1.length : Int) - 1))).toNat) (w64 ((r3.2.2.2.1.length : Int) - 1)) e3 p5 p6) ?_
   refine Zm 2 ?_
   refine Zh (Yj 0 h7) ?_
   intro _ w5 h8
   replace h8 := nf h8
   refine Zn [7] rfl ?_
   refine J.seq (Zb [2, 3] ?_)
   refine J.ret ?_
   have h9 := h8.front (ty := (.int .i64)) rfl 5 (w64 ((r3.2.2.2.1.length : Int) - 1)).toNat rfl (by omega)
   cases H
   exact ⟨_, _, _, Za, ⟨_, _, _, _, _, _, _, _, rfl, rfl⟩, Zc h9 [1, 1, 1, 1, 1, 0, 0, 0]⟩
  refine J.skip (⟨_, Za, ?_⟩)
  refine Zn [0, 4] rfl ?_
  refine J.region (Zm 2 ?_)
  obtain ⟨r4, q4, H⟩ := Zp H
  refine Zh (Zi [2, 2, 2, 2, 2, 2, 0, 0] (Q10.spec q4) h1 rfl Zt) ?_
  rintro _ w6 ⟨_, ⟨A11, c_11, A12, c_12, A13, c_13, A14, c_14, rfl, rfl⟩, h10⟩
  replace h10 := nf h10
  refine Zn [0] rfl ?_
  refine J.seq (J.region ?_)
  refine Zm 3 ?_
  refine Zk (Zd 0 h10.wht) ?_
  refine Zn [0, 6] rfl ?_
  refine J.seq (J.region ?_)
  refine Zm 3 ?_
  refine Zk (Zd 0 h10.wht) ?_
  refine Zm 1 ?_
  obtain ⟨⟨p7, p8⟩, H⟩ := Zo H
  have e4 := Z3 h10.wh (gO 5) p7 p8
  refine Zk (Zf e4 p7 p8) ?_
  refine Zk (Zg 0 h10.wht (gO 5) p7 p8) ?_
  refine Zn [0, 6, 7] rfl ?_
  refine J.seq (J.region ?_)
  refine Zm 4 ?_
  refine Zk (Zd 0 h10.wht) ?_
  refine Zm 1 ?_
  obtain ⟨⟨p9, p10⟩, H⟩ := Zo H
  have e5 := h10.cap (gO 5)
  refine Zk (Vj (r4.2.2.2.1.take ((w64 ((r4.2.2.2.1.length : Int) - 1))).toNat) (w64 ((r4.2.2.2.1.length : Int) - 1)) e5 p9 p10) ?_
  refine Zm 2 ?_
  refine Zh (Yj 0 h10) ?_
  intro _ w7 h11
  replace h11 := nf h11
  refine Zn [7] rfl ?_
  refine J.seq (Zb [2, 3] ?_)
  refine J.ret ?_
  have h12 := h11.front (ty := (.int .i64)) rfl 5 (w64 ((r4.2.2.2.1.length : Int) - 1)).toNat rfl (by omega)
  cases H
  exact ⟨_, _, _, Za, ⟨_, _, _, _, _, _, _, _, rfl, rfl⟩, Zc h12 [1, 1, 1, 1, 1, 0, 0, 0]⟩
 refine J.skip (J.seq (J.region ?_))
 refine Zm 3 ?_
 refine Zk (Zd 0 h0.wht) ?_
 refine Zn [0, 6] rfl ?_
 refine J.seq (J.region ?_)
 refine Zm 3 ?_
 refine Zk (Zd 0 h0.wht) ?_
 refine Zm 1 ?_
 obtain ⟨⟨p11, p12⟩, H⟩ := Zo H
 have e6 := Z3 h0.wh (gO 5) p11 p12
 refine Zk (Zf e6 p11 p12) ?_
 refine Zk (Zg 0 h0.wht (gO 5) p11 p12) ?_
 refine Zn [0, 6, 7] rfl ?_
 refine J.seq (J.region ?_)
 refine Zm 4 ?_
 refine Zk (Zd 0 h0.wht) ?_
 refine Zm 1 ?_
 obtain ⟨⟨p13, p14⟩, H⟩ := Zo H
 have e7 := h0.cap (gO 5)
 refine Zk (Vj (a0.2.2.2.1.take ((w64 ((a0.2.2.2.1.length : Int) - 1))).toNat) (w64 ((a0.2.2.2.1.length : Int) - 1)) e7 p13 p14) ?_
 refine Zm 2 ?_
 refine Zh (Yj 0 h0) ?_
 intro _ w8 h13
 replace h13 := nf h13
 refine Zn [7] rfl ?_
 refine J.seq (Zb [2, 3] ?_)
 refine J.ret ?_
 have h14 := h13.front (ty := (.int .i64)) rfl 5 (w64 ((a0.2.2.2.1.length : Int) - 1)).toNat rfl (by omega)
 cases H
 exact ⟨_, _, _, Za, ⟨_, _, _, _, _, _, _, _, rfl, rfl⟩, Zc h14 [1, 1, 1, 1, 1, 0, 0, 0]⟩

def Q28.f (a0 : Int × List (Int) × (Int × Int)) (a1 : Int) : Option (List (Int) × Int × (Int × List (Int) × (Int × Int))) := (Q25.f a0).bind fun r1 => (if (decide (r1 = 0)) = true then (some (([] : List (Int)), 1, a0)) else ((Q25.f a0).bind fun r2 => (if (decide (r2 ≤ (w64 (a1)))) = true then (some (([] : List (Int)), 4, a0)) else (if 0 ≤ (w64 ((w64 (a1)) * a0.1)) ∧ (w64 ((w64 (a1)) * a0.1)) ≤ (w64 ((w64 ((w64 (a1)) * a0.1)) + a0.1)) ∧ (w64 ((w64 ((w64 (a1)) * a0.1)) + a0.1)) ≤ (a0.2.1.length : Int) then ((Q34.f ((a0.2.1.drop ((w64 ((w64 (a1)) * a0.1))).toNat).take (((w64 ((w64 ((w64 (a1)) * a0.1)) + a0.1))).toNat - ((w64 ((w64 (a1)) * a0.1))).toNat))).bind fun r3 => (some (r3, 0, (a0.1, a0.2.1, ((IntKind.u64.wrap (a0.2.2.1 + 1)), a0.2.2.2))))) else none))))
theorem Q28.spec {a0 : Int × List (Int) × (Int × Int)} {a1 : Int} {b1 : Nat} {A1 : Option Addr} {c_1 : Nat} {r : List (Int) × Int × (Int × List (Int) × (Int × Int))} (H : Q28.f a0 a1 = some r) :
  Spec Try.prog 17 [.pointer (some ⟨b1, 0, none⟩), .int .u32 a1] [X51 b1 a0.1 a0.2.1 A1 c_1 a0.2.2.1 a0.2.2.2, O5 a0.2.1 A1 c_1] [] (fun v l => ∃ (A_0 : Option Addr) (c_0 : Nat) (A_1 : Option Addr) (c_1 : Nat), v = .tuple #[.slice A_0 r.1.length c_0, .int .i64 r.2.1] ∧ l = [O5 r.1 A_0 c_0, X51 b1 r.2.2.1 r.2.2.2.1 A_1 c_1 r.2.2.2.2.1 r.2.2.2.2.2, O5 r.2.2.2.1 A_1 c_1]) := by
 refine Zs Try.func17 fun w0 F0 h0 => ?_
 unfold Q28.f at H
 refine J.seq (Zb [0, 1] ?_)
 refine J.seq (J.region ?_)
 refine Zm 2 ?_
 refine Yc Try.func69 ?_
 refine J.seq (Zb [0, 1] ?_)
 refine J.seq (J.block (J.seq (J.region ?_)))
 refine Zm 1 ?_
 obtain ⟨r1, q1, H⟩ := Zp H
 refine Zh (Zi [0, 0] (Q25.spec q1) h0 rfl Zt) ?_
 rintro _ w1 ⟨_, ⟨rfl, rfl⟩, h1⟩
 replace h1 := nf h1
 refine Zn [0, 1, 7] rfl ?_
 refine jIf H (fun c1 H => ?_) fun c1 H => ?_
 ·refine J.seq (Zb [4, 5] ?_)
  refine J.ret (⟨_, Za, ?_⟩)
  refine Zn [0, 6, 7] rfl ?_
  refine J.seq (J.seq (Zb [0, 6, 7, 15] ?_))
  refine Z2 ?_
  refine J.seq (Zb [4, 5] ?_)
  refine J.ret ?_
  have h2 := h1.addNil 5 (.int .u8)
  cases H
  exact ⟨_, _, _, Za, ⟨_, _, _, _, rfl, rfl⟩, Zc h2 [0, 0, 0]⟩
 refine J.seq (J.region ?_)
 refine Zm 3 ?_
 obtain ⟨r2, q2, H⟩ := Zp H
 refine Zh (Zi [0, 0] (Q25.spec q2) h1 rfl Zt) ?_
 rintro _ w2 ⟨_, ⟨rfl, rfl⟩, h3⟩
 replace h3 := nf h3
 refine Zn [0, 1, 11] rfl ?_
 refine jIf H (fun c2 H => ?_) fun c2 H => ?_
 ·refine J.seq (Zb [4, 5] ?_)
  refine J.ret (⟨_, Za, ?_⟩)
  refine Zn [0, 6, 7] rfl ?_
  refine J.seq (J.seq (Zb [0, 6, 7, 15] ?_))
  refine Z2 ?_
  refine J.seq (Zb [4, 5] ?_)
  refine J.ret ?_
  have h4 := h3.addNil 5 (.int .u8)
  cases H
  exact ⟨_, _, _, Za, ⟨_, _, _, _, rfl, rfl⟩, Zc h4 [0, 0, 0]⟩
 refine J.skip (J.seq (J.region ?_))
 refine Zm 5 ?_
 refine Zk (Zd 0 h3.wht) ?_
 refine Zn [0, 6] rfl ?_
 refine J.seq (Zr h3 ?_)
 have h5 := h3.drew
 refine Zv [0, 1, 2, 4, 5, 6, 7, 8] ?_
 refine Ze 3 rfl (Zd 0 wI) ?_
 refine Ze 9 rfl (Zd 0 wI) ?_
 refine Zv [10] ?_
 obtain ⟨⟨p1, p2, p3⟩, H⟩ := Zo H
 have e1 := h5.cap (gO 1)
 refine Ze 11 rfl (Jp ((a0.2.1.drop ((w64 ((w64 (a1)) * a0.1))).toNat).take (((w64 ((w64 ((w64 (a1)) * a0.1)) + a0.1))).toNat - ((w64 ((w64 (a1)) * a0.1))).toNat)) (w64 ((w64 (a1)) * a0.1)) (w64 ((w64 ((w64 (a1)) * a0.1)) + a0.1)) e1 p1 p2 p3) ?_
 refine Zv [12, 13] ?_
 refine Zy [4, 5] ?_
 refine J.ret (⟨_, Za, ?_⟩)
 refine Zn [0, 6, 7] rfl ?_
 refine J.seq (J.seq (Zb [0, 6, 7, 15] ?_))
 refine Zz ?_
 refine J.skip (J.seq (J.region ?_))
 refine Zm 4 ?_
 refine Zk (Zd 0 h5.wht) ?_
 refine Zm 4 ?_
 refine Zh (Yj 0 h5) ?_
 intro _ w3 h6
 replace h6 := nf h6
 refine Zn [6] rfl ?_
 refine J.seq (J.region ?_)
 refine Zm 1 ?_
 obtain ⟨r3, q3, H⟩ := Zp H
 refine Zh (Zi [] (Q34.spec q3) h6 rfl (Y8 ((Gives.of 1 rfl Ui).trans (Bl (.int .u8) ((a0.2.1.drop ((w64 ((w64 (a1)) * a0.1))).toNat).take (((w64 ((w64 ((w64 (a1)) * a0.1)) + a0.1))).toNat - ((w64 ((w64 (a1)) * a0.1))).toNat)) (w64 ((w64 (a1)) * a0.1)) (w64 ((w64 ((w64 (a1)) * a0.1)) + a0.1)) p1 p2 p3)) Zt)) ?_
 rintro _ w4 ⟨_, ⟨A2, c_2, rfl, rfl⟩, h7⟩
 replace h7 := nf h7
 refine Zn [4, 5] rfl ?_
 refine J.ret ?_
 cases H
 exact ⟨_, _, _, Za, ⟨_, _, _, _, rfl, rfl⟩, Zc h7 [0, 0, 0]⟩

def Q6.f (a0 : (Int × List (Int) × (Int × Int)) × (List (Int × List (Int) × Bool × Int)) × (List (Int × Int)) × List (Int) × ((List (Int × Int × Bool)) × Int)) (a1 : Int) : Option (Int × ((Int × List (Int) × (Int × Int)) × (List (Int × List (Int) × Bool × Int)) × (List (Int × Int)) × List (Int) × ((List (Int × Int × Bool)) × Int))) := (Q13.f a0 a1).bind fun r1 => (if (!decide (r1 = 0)) = true then (some (r1, a0)) else (if (Yn a0.2.2.1 a1) = true then (if 0 ≤ (Zq (0 : Int) a0.2.2.1 a1) ∧ (Zq (0 : Int) a0.2.2.1 a1) < (a0.2.1.length : Int) then ((Q14.f a0.2.2.2.2 (Zq (0 : Int) a0.2.2.1 a1)).bind fun r2 => (some (0, (a0.1, (a0.2.1.set (Zq (0 : Int) a0.2.2.1 a1).toNat ((gt a0.2.1 (Zq (0 : Int) a0.2.2.1 a1)).1, (gt a0.2.1 (Zq (0 : Int) a0.2.2.1 a1)).2.1, (gt a0.2.1 (Zq (0 : Int) a0.2.2.1 a1)).2.2.1, (w64 (((gt a0.2.1 (Zq (0 : Int) a0.2.2.1 a1)).2.2.2) + 1)))), a0.2.2.1, a0.2.2.2.1, r2.2)))) else none) else ((Q12.f a0).bind fun r3 => (if (!r3.2.1) = true then (some (7, r3.2.2)) else ((Q28.f r3.2.2.1 a1).bind fun r4 => (if (!decide (r4.2.1 = 0)) = true then (if (r3.2.2.2.2.2.1.length + ([r3.1] : List (Int)).length) * 8 ≤ 140737488355328 then (some (r4.2.1, (r4.2.2, r3.2.2.2.1, r3.2.2.2.2.1, (r3.2.2.2.2.2.1 ++ ([r3.1] : List (Int))), r3.2.2.2.2.2.2))) else none) else (if 0 ≤ r3.1 ∧ r3.1 < (r3.2.2.2.1.length : Int) then ((Q14.f r3.2.2.2.2.2.2 r3.1).bind fun r5 => (some (0, (r4.2.2, (r3.2.2.2.1.set r3.1.toNat (a1, r4.1, false, 1)), (Wi a1 r3.1 r3.2.2.2.2.1), r3.2.2.2.2.2.1, r5.2)))) else none)))))))
theorem Q6.spec {a0 : (Int × List (Int) × (Int × Int)) × (List (Int × List (Int) × Bool × Int)) × (List (Int × Int)) × List (Int) × ((List (Int × Int × Bool)) × Int)} {a1 : Int} {b1 : Nat} {b2 : Nat} {b3 : Nat} {b4 : Nat} {A1 : Option Addr} {c_1 : Nat} {A2 : Option Addr} {c_2 : Nat} {A3 : Option Addr} {c_3 : Nat} {A4 : Option Addr} {c_4 : Nat} {r : Int × ((Int × List (Int) × (Int × Int)) × (List (Int × List (Int) × Bool × Int)) × (List (Int × Int)) × List (Int) × ((List (Int × Int × Bool)) × Int))} (H : Q6.f a0 a1 = some r) :
  Spec Try.prog 56 [.pointer (some ⟨b1, 0, none⟩), .int .u32 a1] [Yb b1 (.pointer (some ⟨b2, 0, none⟩)) a0.2.1 A2 c_2 (.map (some b3)) a0.2.2.2.1 A3 c_3 (.pointer (some ⟨b4, 0, none⟩)), X51 b2 a0.1.1 a0.1.2.1 A1 c_1 a0.1.2.2.1 a0.1.2.2.2, O5 a0.1.2.1 A1 c_1, Ya a0.2.1 A2 c_2, Z8 .u32 (Value.int .i64) b3 a0.2.2.1, O3 a0.2.2.2.1 A3 c_3, Z4 b4 a0.2.2.2.2.1 A4 c_4 a0.2.2.2.2.2, Z5 a0.2.2.2.2.1 A4 c_4] [] (fun v l => ∃ (A_0 : Option Addr) (c_0 : Nat) (A_1 : Option Addr) (c_1 : Nat) (A_2 : Option Addr) (c_2 : Nat) (A_3 : Option Addr) (c_3 : Nat), v = .int .i64 r.1 ∧ l = [Yb b1 (.pointer (some ⟨b2, 0, none⟩)) r.2.2.1 A_1 c_1 (.map (some b3)) r.2.2.2.2.1 A_2 c_2 (.pointer (some ⟨b4, 0, none⟩)), X51 b2 r.2.1.1 r.2.1.2.1 A_0 c_0 r.2.1.2.2.1 r.2.1.2.2.2, O5 r.2.1.2.1 A_0 c_0, Ya r.2.2.1 A_1 c_1, Z8 .u32 (Value.int .i64) b3 r.2.2.2.1, O3 r.2.2.2.2.1 A_2 c_2, Z4 b4 r.2.2.2.2.2.1 A_3 c_3 r.2.2.2.2.2.2, Z5 r.2.2.2.2.2.1 A_3 c_3]) := by
 refine Zs Try.func56 fun w0 F0 h0 => ?_
 unfold Q6.f at H
 refine J.seq (Zb [0, 1] ?_)
 refine J.seq (J.seq (J.region ?_))
 refine Zm 2 ?_
 obtain ⟨r1, q1, H⟩ := Zp H
 refine Zh (Zi [0, 0, 0, 0, 0, 0, 0, 0] (Q13.spec q1) h0 rfl Zt) ?_
 rintro _ w1 ⟨_, ⟨rfl, rfl⟩, h1⟩
 replace h1 := nf h1
 refine Zn [0, 1, 5] rfl ?_
 refine J.seq (Zb [0, 1, 5, 16] ?_)
 refine jIf H (fun c1 H => ?_) fun c1 H => ?_
 ·refine J.seq (Zb [4] ?_)
  refine J.ret ?_
  cases H
  exact ⟨_, _, _, Za, ⟨_, _, _, _, _, _, _, _, rfl, rfl⟩, Zc h1 [0, 0, 0, 0, 0, 0, 0, 0]⟩
 refine J.skip (J.seq (J.seq (J.region ?_)))
 refine Zm 3 ?_
 refine Zk (Zd 0 h1.wht) ?_
 refine Zm 1 ?_
 refine Zk (Xd (0 : Int) 4 h1.wht) ?_
 refine Zn [0, 1, 6, 7] rfl ?_
 refine J.seq (Zb [0, 1, 6, 27] ?_)
 refine jIf H (fun c2 H => ?_) fun c2 H => ?_
 ·refine J.seq (J.region ?_)
  refine Zm 3 ?_
  refine Zk (Zd 0 h1.wht) ?_
  refine Zm 1 ?_
  obtain ⟨⟨p1, p2⟩, H⟩ := Zo H
  have e1 := Z3 h1.wh (gO 3) p1 p2
  refine Zk (Zf e1 p1 p2) ?_
  refine Zm 1 ?_
  refine Zk (Ye 3 h1.wht (gO 3) p1 p2) ?_
  refine Zm 1 ?_
  refine Zk (Zf e1 p1 p2) ?_
  refine Zm 1 ?_
  refine Zh (Xe 3 (.pair (.int .u32) (.pair (.slice 5 (.int .u8)) (.pair .bool (.int .i64)))) (Zq (0 : Int) a0.2.2.1 a1) ((gt a0.2.1 (Zq (0 : Int) a0.2.2.1 a1)).1, (gt a0.2.1 (Zq (0 : Int) a0.2.2.1 a1)).2.1, (gt a0.2.1 (Zq (0 : Int) a0.2.2.1 a1)).2.2.1, (w64 (((gt a0.2.1 (Zq (0 : Int) a0.2.2.1 a1)).2.2.2) + 1))) 3 h1 rfl p1 p2 (Vq rfl rfl)) ?_
  intro _ w2 h2
  replace h2 := nf h2
  replace h2 : St w0 F0 [Ya (a0.2.1.set (Zq (0 : Int) a0.2.2.1 a1).toNat ((gt a0.2.1 (Zq (0 : Int) a0.2.2.1 a1)).1, (gt a0.2.1 (Zq (0 : Int) a0.2.2.1 a1)).2.1, (gt a0.2.1 (Zq (0 : Int) a0.2.2.1 a1)).2.2.1, (w64 (((gt a0.2.1 (Zq (0 : Int) a0.2.2.1 a1)).2.2.2) + 1)))) A2 c_2, Yb b1 (.pointer (some ⟨b2, 0, none⟩)) (a0.2.1.set (Zq (0 : Int) a0.2.2.1 a1).toNat ((gt a0.2.1 (Zq (0 : Int) a0.2.2.1 a1)).1, (gt a0.2.1 (Zq (0 : Int) a0.2.2.1 a1)).2.1, (gt a0.2.1 (Zq (0 : Int) a0.2.2.1 a1)).2.2.1, (w64 (((gt a0.2.1 (Zq (0 : Int) a0.2.2.1 a1)).2.2.2) + 1)))) A2 c_2 (.map (some b3)) a0.2.2.2.1 A3 c_3 (.pointer (some ⟨b4, 0, none⟩)), X51 b2 a0.1.1 a0.1.2.1 A1 c_1 a0.1.2.2.1 a0.1.2.2.2, O5 a0.1.2.1 A1 c_1, Z8 .u32 (Value.int .i64) b3 a0.2.2.1, O3 a0.2.2.2.1 A3 c_3, Z4 b4 a0.2.2.2.2.1 A4 c_4 a0.2.2.2.2.2, Z5 a0.2.2.2.2.1 A4 c_4] _ _ := h2.retell (by simp only [List.length_set, List.length_nil, Ya, Z5, O3, O5, Yb, Z4, X51] <;> rfl)
  refine Zn [0, 6] rfl ?_
  refine J.seq (J.region ?_)
  refine Zm 3 ?_
  refine Zk (Zd 1 h2.wht) ?_
  refine Zm 1 ?_
  obtain ⟨r2, q2, H⟩ := Zp H
  refine Zh (Zi [6, 6] (Q14.spec q2) h2 rfl Zt) ?_
  rintro _ w3 ⟨_, ⟨A5, c_5, rfl, rfl⟩, h3⟩
  replace h3 := nf h3
  refine Zn [] rfl ?_
  refine J.seq (Zb [4] ?_)
  refine J.ret ?_
  cases H
  exact ⟨_, _, _, Za, ⟨_, _, _, _, _, _, _, _, rfl, rfl⟩, Zc h3 [3, 3, 3, 2, 2, 2, 0, 0]⟩
 refine J.skip (J.seq (J.region ?_))
 refine Zm 1 ?_
 obtain ⟨r3, q3, H⟩ := Zp H
 refine Zh (Zi [0, 0, 0, 0, 0, 0, 0, 0] (Q12.spec q3) h1 rfl Zt) ?_
 rintro _ w4 ⟨_, ⟨A6, c_6, A7, c_7, A8, c_8, A9, c_9, rfl, rfl⟩, h4⟩
 replace h4 := nf h4
 refine Zn [0, 1, 8, 9] rfl ?_
 refine J.seq (J.seq (Zb [0, 1, 8, 51] ?_))
 refine jIf H (fun c3 H => ?_) fun c3 H => ?_
 ·refine J.seq (Zb [4] ?_)
  refine J.ret ?_
  cases H
  exact ⟨_, _, _, Za, ⟨_, _, _, _, _, _, _, _, rfl, rfl⟩, Zc h4 [0, 0, 0, 0, 0, 0, 0, 0]⟩
 refine J.skip (J.seq (J.region ?_))
 refine Zm 3 ?_
 refine Zk (Zd 0 h4.wht) ?_
 refine Zm 1 ?_
 obtain ⟨r4, q4, H⟩ := Zp H
 refine Zh (Zi [1, 1] (Q28.spec q4) h4 rfl Zt) ?_
 rintro _ w5 ⟨_, ⟨A10, c_10, A11, c_11, rfl, rfl⟩, h5⟩
 replace h5 := nf h5
 refine Zn [0, 1, 8, 10, 11] rfl ?_
 refine J.seq (J.seq (Zb [0, 1, 8, 10, 11, 62] ?_))
 refine jIf H (fun c4 H => ?_) fun c4 H => ?_
 ·refine J.seq (J.region ?_)
  refine Zm 4 ?_
  refine Zk (Zd 3 h5.wht) ?_
  refine Zm 1 ?_
  refine Zh (Xi (.int .i64) ([r3.1] : List (Int)) h5) ?_
  rintro _ w6 ⟨b5, rfl, h6⟩
  replace h6 := nf h6
  obtain ⟨p3, H⟩ := Zo H
  refine Zh (Y6 7 h6 (gO 0) p3) ?_
  rintro _ w7 ⟨A12, c_12, rfl, h7⟩
  replace h7 := nf h7
  refine Zm 2 ?_
  refine Zh (Yj 5 h7) ?_
  intro _ w8 h8
  replace h8 := nf h8
  refine Zn [11] rfl ?_
  have h9 := Zc h8 [0, 0, 2, 2, 2, 2, 2, 2]
  replace h9 := nf h9
  refine J.seq (Zb [4] ?_)
  refine J.ret ?_
  cases H
  exact ⟨_, _, _, Za, ⟨_, _, _, _, _, _, _, _, rfl, rfl⟩, Zc h9 [0, 1, 1, 1, 1, 0, 0, 0]⟩
 refine J.skip (J.seq (J.region ?_))
 refine Zm 5 ?_
 refine Yc Try.func106 ?_
 refine J.seq (J.region ?_)
 refine Zh (Ws h5) ?_
 rintro _ w9 ⟨b6, rfl, h10⟩
 replace h10 := nf h10
 refine Zn [0, 1, 5] rfl ?_
 refine J.seq (J.region ?_)
 refine Zm 1 ?_
 refine Zh (Yj 0 h10) ?_
 intro _ w10 h11
 replace h11 := nf h11
 refine Zn [0, 1, 5] rfl ?_
 refine J.seq (Zr (Zc h11 [0, 1, 1, 1, 2, 2, 2, 2]) ?_)
 have h12 := h11.drew
 refine Zv [0, 1, 2, 4] ?_
 refine Ze 3 rfl (Zd 3 wI) ?_
 refine Ze 5 rfl (Zd 0 wI) ?_
 obtain ⟨⟨p4, p5⟩, H⟩ := Zo H
 have e2 := Z3 h12.wh (gO 5) p4 p5
 refine Ze 6 rfl (Zf e2 p4 p5) ?_
 have h13 := (h12.only [5, 1, 0, 0, 0, 0, 0, 0, 0, 0] rfl).both
 refine Zl 7 rfl (Y1 0 (.pair (.int .u32) (.pair (.slice 5 (.int .u8)) (.pair .bool (.int .i64)))) r3.1 (a1, r4.1, false, 1) h13 p4 p5 Vl) ?_
 intro _ w11 h14
 replace h14 := nf h14
 refine ⟨⟨[_], h14⟩, ?_⟩
 replace h14 : St w0 F0 [Ya (r3.2.2.2.1.set r3.1.toNat (a1, r4.1, false, 1)) A7 c_7, Uc b6 a1 r4.1 A10 c_10 false 1, X51 b2 r4.2.2.1 r4.2.2.2.1 A11 c_11 r4.2.2.2.2.1 r4.2.2.2.2.2, O5 r4.2.2.2.1 A11 c_11, Yb b1 (.pointer (some ⟨b2, 0, none⟩)) (r3.2.2.2.1.set r3.1.toNat (a1, r4.1, false, 1)) A7 c_7 (.map (some b3)) r3.2.2.2.2.2.1 A8 c_8 (.pointer (some ⟨b4, 0, none⟩)), Z8 .u32 (Value.int .i64) b3 r3.2.2.2.2.1, O3 r3.2.2.2.2.2.1 A8 c_8, Z4 b4 r3.2.2.2.2.2.2.1 A9 c_9 r3.2.2.2.2.2.2.2, Z5 r3.2.2.2.2.2.2.1 A9 c_9] _ _ := h14.retell (by simp only [List.length_set, List.length_nil, Ya, Z5, O3, O5, Yb, Uc, Z4, X51] <;> rfl)
 refine Zy [0, 1, 5] ?_
 refine J.seq (Zr (Zc h14 [0, 0, 0, 0, 0, 1, 1, 1]) ?_)
 have h15 := h14.drew
 refine Zv [0, 1, 2, 4, 6] ?_
 refine Ze 3 rfl (Zd 4 wI) ?_
 refine Ze 5 rfl (Zd 1 wI) ?_
 refine Zl 7 rfl (Vb Xh (v := r3.1) (ix := a1) 5 rfl h15 rfl rfl rfl rfl rfl rfl rfl rfl rfl) ?_
 intro _ w12 h16
 replace h16 := nf h16
 refine ⟨⟨[_], h16⟩, ?_⟩
 refine Zy [0, 1] ?_
 refine J.region (Zm 3 ?_)
 refine Zk (Zd 5 h16.wht) ?_
 refine Zm 1 ?_
 obtain ⟨r5, q5, H⟩ := Zp H
 refine Zh (Zi [7, 7] (Q14.spec q5) h16 rfl Zt) ?_
 rintro _ w13 ⟨_, ⟨A13, c_13, rfl, rfl⟩, h17⟩
 replace h17 := nf h17
 refine Zn [] rfl ?_
 refine ⟨_, Za, ?_⟩
 refine Zn [] rfl ?_
 refine J.seq (Zb [4] ?_)
 refine J.ret ?_
 cases H
 exact ⟨_, _, _, Za, ⟨_, _, _, _, _, _, _, _, rfl, rfl⟩, Zc h17 [7, 5, 5, 3, 2, 3, 0, 0]⟩

def Q26.f (a0 : Int × List (Int) × (Int × Int)) : Option (Int) := some a0.1
theorem Q26.spec {a0 : Int × List (Int) × (Int × Int)} {b1 : Nat} {A1 : Option Addr} {c_1 : Nat} {r : Int} (H : Q26.f a0 = some r) :
  Spec Try.prog 25 [.pointer (some ⟨b1, 0, none⟩)] [X51 b1 a0.1 a0.2.1 A1 c_1 a0.2.2.1 a0.2.2.2, O5 a0.2.1 A1 c_1] [] (fun v l => v = .int .i64 r ∧ l = [X51 b1 a0.1 a0.2.1 A1 c_1 a0.2.2.1 a0.2.2.2, O5 a0.2.1 A1 c_1]) := by
 refine Zs Try.func25 fun w0 F0 h0 => ?_
 unfold Q26.f at H
 refine J.seq (Zb [0] ?_)
 refine J.seq (J.seq (Zb [0, 4] ?_))
 refine Zz ?_
 refine J.skip (J.seq (J.region ?_))
 refine Zm 3 ?_
 refine Zk (Zd 0 h0.wht) ?_
 refine Zn [2] rfl ?_
 refine J.ret ?_
 cases H
 exact ⟨_, _, _, Za, ⟨rfl, rfl⟩, Zc h0 [0, 0]⟩

def Q5.f (a0 : (Int × List (Int) × (Int × Int)) × (List (Int × List (Int) × Bool × Int)) × (List (Int × Int)) × List (Int) × ((List (Int × Int × Bool)) × Int)) (a1 : Int) : Option (Int × ((Int × List (Int) × (Int × Int)) × (List (Int × List (Int) × Bool × Int)) × (List (Int × Int)) × List (Int) × ((List (Int × Int × Bool)) × Int))) := (Q13.f a0 a1).bind fun r1 => (if (!decide (r1 = 0)) = true then (some (r1, a0)) else (if (Yn a0.2.2.1 a1) = true then (if 0 ≤ (Zq (0 : Int) a0.2.2.1 a1) ∧ (Zq (0 : Int) a0.2.2.1 a1) < (a0.2.1.length : Int) then (if (decide (0 < ((gt a0.2.1 (Zq (0 : Int) a0.2.2.1 a1)).2.2.2))) = true then (some (8, a0)) else (if (!(Yn a0.2.2.1 a1)) = true then ((Q12.f a0).bind fun r2 => (if (!r2.2.1) = true then (some (7, r2.2.2)) else ((Q26.f r2.2.2.1).bind fun r3 => (if 0 ≤ r3 ∧ r3 * 1 ≤ 281474976710656 then (if 0 ≤ r2.1 ∧ r2.1 < (r2.2.2.2.1.length : Int) then ((Q14.f r2.2.2.2.2.2.2 r2.1).bind fun r4 => (some (0, (r2.2.2.1, (r2.2.2.2.1.set r2.1.toNat (a1, (List.replicate r3.toNat (0 : Int)), true, 1)), (Wi a1 r2.1 r2.2.2.2.2.1), r2.2.2.2.2.2.1, r4.2)))) else none) else none)))) else ((Q26.f a0.1).bind fun r5 => (if 0 ≤ r5 ∧ r5 * 1 ≤ 281474976710656 then ((Q14.f a0.2.2.2.2 (Zq (0 : Int) a0.2.2.1 a1)).bind fun r6 => (some (0, (a0.1, (a0.2.1.set (Zq (0 : Int) a0.2.2.1 a1).toNat (a1, (List.replicate r5.toNat (0 : Int)), true, 1)), (Wi a1 (Zq (0 : Int) a0.2.2.1 a1) a0.2.2.1), a0.2.2.2.1, r6.2)))) else none)))) else none) else (if (!(Yn a0.2.2.1 a1)) = true then ((Q12.f a0).bind fun r7 => (if (!r7.2.1) = true then (some (7, r7.2.2)) else ((Q26.f r7.2.2.1).bind fun r8 => (if 0 ≤ r8 ∧ r8 * 1 ≤ 281474976710656 then (if 0 ≤ r7.1 ∧ r7.1 < (r7.2.2.2.1.length : Int) then ((Q14.f r7.2.2.2.2.2.2 r7.1).bind fun r9 => (some (0, (r7.2.2.1, (r7.2.2.2.1.set r7.1.toNat (a1, (List.replicate r8.toNat (0 : Int)), true, 1)), (Wi a1 r7.1 r7.2.2.2.2.1), r7.2.2.2.2.2.1, r9.2)))) else none) else none)))) else ((Q26.f a0.1).bind fun r10 => (if 0 ≤ r10 ∧ r10 * 1 ≤ 281474976710656 then (if 0 ≤ (Zq (0 : Int) a0.2.2.1 a1) ∧ (Zq (0 : Int) a0.2.2.1 a1) < (a0.2.1.length : Int) then ((Q14.f a0.2.2.2.2 (Zq (0 : Int) a0.2.2.1 a1)).bind fun r11 => (some (0, (a0.1, (a0.2.1.set (Zq (0 : Int) a0.2.2.1 a1).toNat (a1, (List.replicate r10.toNat (0 : Int)), true, 1)), (Wi a1 (Zq (0 : Int) a0.2.2.1 a1) a0.2.2.1), a0.2.2.2.1, r11.2)))) else none) else none)))))
theorem Q5.spec {a0 : (Int × List (Int) × (Int × Int)) × (List (Int × List (Int) × Bool × Int)) × (List (Int × Int)) × List (Int) × ((List (Int × Int × Bool)) × Int)} {a1 : Int} {b1 : Nat} {b2 : Nat} {b3 : Nat} {b4 : Nat} {A1 : Option Addr} {c_1 : Nat} {A2 : Option Addr} {c_2 : Nat} {A3 : Option Addr} {c_3 : Nat} {A4 : Option Addr} {c_4 : Nat} {r : Int × ((Int × List (Int) × (Int × Int)) × (List (Int × List (Int) × Bool × Int)) × (List (Int × Int)) × List (Int) × ((List (Int × Int × Bool)) × Int))} (H : Q5.f a0 a1 = some r) :
  Spec Try.prog 57 [.pointer (some ⟨b1, 0, none⟩), .int .u32 a1] [Yb b1 (.pointer (some ⟨b2, 0, none⟩)) a0.2.1 A2 c_2 (.map (some b3)) a0.2.2.2.1 A3 c_3 (.pointer (some ⟨b4, 0, none⟩)), X51 b2 a0.1.1 a0.1.2.1 A1 c_1 a0.1.2.2.1 a0.1.2.2.2, O5 a0.1.2.1 A1 c_1, Ya a0.2.1 A2 c_2, Z8 .u32 (Value.int .i64) b3 a0.2.2.1, O3 a0.2.2.2.1 A3 c_3, Z4 b4 a0.2.2.2.2.1 A4 c_4 a0.2.2.2.2.2, Z5 a0.2.2.2.2.1 A4 c_4] [] (fun v l => ∃ (A_0 : Option Addr) (c_0 : Nat) (A_1 : Option Addr) (c_1 : Nat) (A_2 : Option Addr) (c_2 : Nat) (A_3 : Option Addr) (c_3 : Nat), v = .int .i64 r.1 ∧ l = [Yb b1 (.pointer (some ⟨b2, 0, none⟩)) r.2.2.1 A_1 c_1 (.map (some b3)) r.2.2.2.2.1 A_2 c_2 (.pointer (some ⟨b4, 0, none⟩)), X51 b2 r.2.1.1 r.2.1.2.1 A_0 c_0 r.2.1.2.2.1 r.2.1.2.2.2, O5 r.2.1.2.1 A_0 c_0, Ya r.2.2.1 A_1 c_1, Z8 .u32 (Value.int .i64) b3 r.2.2.2.1, O3 r.2.2.2.2.1 A_2 c_2, Z4 b4 r.2.2.2.2.2.1 A_3 c_3 r.2.2.2.2.2.2, Z5 r.2.2.2.2.2.1 A_3 c_3]) := by
 refine Zs Try.func57 fun w0 F0 h0 => ?_
 unfold Q5.f at H
 refine J.seq (Zb [0, 1] ?_)
 refine J.seq (J.seq (J.region ?_))
 refine Zm 2 ?_
 obtain ⟨r1, q1, H⟩ := Zp H
 refine Zh (Zi [0, 0, 0, 0, 0, 0, 0, 0] (Q13.spec q1) h0 rfl Zt) ?_
 rintro _ w1 ⟨_, ⟨rfl, rfl⟩, h1⟩
 replace h1 := nf h1
 refine Zn [0, 1, 5] rfl ?_
 refine J.seq (Zb [0, 1, 5, 12] ?_)
 refine jIf H (fun c1 H => ?_) fun c1 H => ?_
 ·refine J.seq (Zb [4] ?_)
  refine J.ret ?_
  cases H
  exact ⟨_, _, _, Za, ⟨_, _, _, _, _, _, _, _, rfl, rfl⟩, Zc h1 [0, 0, 0, 0, 0, 0, 0, 0]⟩
 refine J.skip (J.seq (J.region ?_))
 refine Zm 3 ?_
 refine Zk (Zd 0 h1.wht) ?_
 refine Zm 1 ?_
 refine Zk (Xd (0 : Int) 4 h1.wht) ?_
 refine Zn [0, 1, 6, 7] rfl ?_
 refine J.seq (J.block (J.seq (J.region ?_)))
 refine Zm 2 ?_
 refine Y3 25 H (fun c2 H => ?_) fun c2 H => ?_
 ·refine Zm 3 ?_
  refine Zk (Zd 0 h1.wht) ?_
  refine Zm 1 ?_
  obtain ⟨⟨p1, p2⟩, H⟩ := Zo H
  have e1 := Z3 h1.wh (gO 3) p1 p2
  refine Zk (Zf e1 p1 p2) ?_
  refine Zm 1 ?_
  refine Zk (Ye 3 h1.wht (gO 3) p1 p2) ?_
  refine Zn [0, 1, 6, 7, 23] rfl ?_
  refine jIf H (fun c3 H => ?_) fun c3 H => ?_
  ·refine J.seq (Zb [4] ?_)
   refine J.ret ?_
   cases H
   exact ⟨_, _, _, Za, ⟨_, _, _, _, _, _, _, _, rfl, rfl⟩, Zc h1 [0, 0, 0, 0, 0, 0, 0, 0]⟩
  refine J.seq (Zb [0, 1, 6, 36] ?_)
  refine jIf H (fun c4 H => ?_) fun c4 H => ?_
  ·refine J.seq (J.region ?_)
   refine Zm 1 ?_
   obtain ⟨r2, q2, H⟩ := Zp H
   refine Zh (Zi [0, 0, 0, 0, 0, 0, 0, 0] (Q12.spec q2) h1 rfl Zt) ?_
   rintro _ w2 ⟨_, ⟨A5, c_5, A6, c_6, A7, c_7, A8, c_8, rfl, rfl⟩, h2⟩
   replace h2 := nf h2
   refine Zn [0, 1, 6, 7] rfl ?_
   refine J.seq (Zb [0, 1, 6, 45] ?_)
   refine jIf H (fun c5 H => ?_) fun c5 H => ?_
   ·refine J.seq (Zb [4] ?_)
    refine J.ret ?_
    cases H
    exact ⟨_, _, _, Za, ⟨_, _, _, _, _, _, _, _, rfl, rfl⟩, Zc h2 [0, 0, 0, 0, 0, 0, 0, 0]⟩
   refine J.skip (J.seq (J.region ?_))
   refine Zm 6 ?_
   refine Zk (Zd 0 h2.wht) ?_
   obtain ⟨r3, q3, H⟩ := Zp H
   refine Zh (Zi [1, 1] (Q26.spec q3) h2 rfl Zt) ?_
   rintro _ w3 ⟨_, ⟨rfl, rfl⟩, h3⟩
   replace h3 := nf h3
   obtain ⟨⟨p3, p4⟩, H⟩ := Zo H
   refine Zh (Vk Xh (ty := (.int .u8)) rfl (0 : Int) rfl rfl rfl rfl rfl rfl rfl (by decide) h3 p3 p4) ?_
   rintro _ w4 ⟨b5, rfl, h4⟩
   replace h4 := nf h4
   refine Zm 1 ?_
   refine Yc Try.func106 ?_
   refine J.seq (J.region ?_)
   refine Zh (Ws h4) ?_
   rintro _ w5 ⟨b6, rfl, h5⟩
   replace h5 := nf h5
   refine Zn [0, 1, 5] rfl ?_
   refine J.seq (J.region ?_)
   refine Zm 1 ?_
   refine Zh (Yj 0 h5) ?_
   intro _ w6 h6
   replace h6 := nf h6
   refine Zn [0, 1, 5] rfl ?_
   refine J.seq (Zr (Zc h6 [0, 1, 1, 1, 2, 2, 2, 2]) ?_)
   have h7 := h6.drew
   refine Zv [0, 1, 2, 4] ?_
   refine Ze 3 rfl (Zd 3 wI) ?_
   refine Ze 5 rfl (Zd 0 wI) ?_
   obtain ⟨⟨p5, p6⟩, H⟩ := Zo H
   have e2 := Z3 h7.wh (gO 5) p5 p6
   refine Ze 6 rfl (Zf e2 p5 p6) ?_
   have h8 := (h7.only [5, 1, 0, 0, 0, 0, 0, 0, 0, 0] rfl).both
   refine Zl 7 rfl (Y1 0 (.pair (.int .u32) (.pair (.slice 5 (.int .u8)) (.pair .bool (.int .i64)))) r2.1 (a1, (List.replicate r3.toNat (0 : Int)), true, 1) h8 p5 p6 Vl) ?_
   intro _ w7 h9
   replace h9 := nf h9
   refine ⟨⟨[_], h9⟩, ?_⟩
   replace h9 : St w0 F0 [Ya (r2.2.2.2.1.set r2.1.toNat (a1, (List.replicate r3.toNat (0 : Int)), true, 1)) A6 c_6, Uc b6 a1 (List.replicate r3.toNat (0 : Int)) (some ⟨b5, 0, none⟩) (r3.toNat) true 1, X51 b2 r2.2.2.1.1 r2.2.2.1.2.1 A5 c_5 r2.2.2.1.2.2.1 r2.2.2.1.2.2.2, O5 r2.2.2.1.2.1 A5 c_5, Yb b1 (.pointer (some ⟨b2, 0, none⟩)) (r2.2.2.2.1.set r2.1.toNat (a1, (List.replicate r3.toNat (0 : Int)), true, 1)) A6 c_6 (.map (some b3)) r2.2.2.2.2.2.1 A7 c_7 (.pointer (some ⟨b4, 0, none⟩)), Z8 .u32 (Value.int .i64) b3 r2.2.2.2.2.1, O3 r2.2.2.2.2.2.1 A7 c_7, Z4 b4 r2.2.2.2.2.2.2.1 A8 c_8 r2.2.2.2.2.2.2.2, Z5 r2.2.2.2.2.2.2.1 A8 c_8] _ _ := h9.retell (by simp only [List.length_set, List.length_nil, Ya, Z5, O3, O5, Yb, Uc, Z4, X51] <;> rfl)
   refine Zy [0, 1, 5] ?_
   refine J.seq (Zr (Zc h9 [0, 0, 0, 0, 0, 1, 1, 1]) ?_)
   have h10 := h9.drew
   refine Zv [0, 1, 2, 4, 6] ?_
   refine Ze 3 rfl (Zd 4 wI) ?_
   refine Ze 5 rfl (Zd 1 wI) ?_
   refine Zl 7 rfl (Vb Xh (v := r2.1) (ix := a1) 5 rfl h10 rfl rfl rfl rfl rfl rfl rfl rfl rfl) ?_
   intro _ w8 h11
   replace h11 := nf h11
   refine ⟨⟨[_], h11⟩, ?_⟩
   refine Zy [0, 1] ?_
   refine J.region (Zm 3 ?_)
   refine Zk (Zd 5 h11.wht) ?_
   refine Zm 1 ?_
   obtain ⟨r4, q4, H⟩ := Zp H
   refine Zh (Zi [7, 7] (Q14.spec q4) h11 rfl Zt) ?_
   rintro _ w9 ⟨_, ⟨A9, c_9, rfl, rfl⟩, h12⟩
   replace h12 := nf h12
   refine Zn [] rfl ?_
   refine ⟨_, Za, ?_⟩
   refine Zn [] rfl ?_
   refine J.seq (Zb [4] ?_)
   refine J.ret ?_
   cases H
   exact ⟨_, _, _, Za, ⟨_, _, _, _, _, _, _, _, rfl, rfl⟩, Zc h12 [7, 5, 5, 3, 2, 3, 0, 0]⟩
  refine J.skip (J.seq (J.region ?_))
  refine Zm 6 ?_
  refine Zk (Zd 0 h1.wht) ?_
  obtain ⟨r5, q5, H⟩ := Zp H
  refine Zh (Zi [1, 1] (Q26.spec q5) h1 rfl Zt) ?_
  rintro _ w10 ⟨_, ⟨rfl, rfl⟩, h13⟩
  replace h13 := nf h13
  obtain ⟨⟨p7, p8⟩, H⟩ := Zo H
  refine Zh (Vk Xh (ty := (.int .u8)) rfl (0 : Int) rfl rfl rfl rfl rfl rfl rfl (by decide) h13 p7 p8) ?_
  rintro _ w11 ⟨b7, rfl, h14⟩
  replace h14 := nf h14
  refine Zm 1 ?_
  refine Yc Try.func106 ?_
  refine J.seq (J.region ?_)
  refine Zh (Ws h14) ?_
  rintro _ w12 ⟨b8, rfl, h15⟩
  replace h15 := nf h15
  refine Zn [0, 1, 5] rfl ?_
  refine J.seq (J.region ?_)
  refine Zm 1 ?_
  refine Zh (Yj 0 h15) ?_
  intro _ w13 h16
  replace h16 := nf h16
  refine Zn [0, 1, 5] rfl ?_
  refine J.seq (Zr (Zc h16 [0, 1, 1, 1, 2, 2, 2, 2]) ?_)
  have h17 := h16.drew
  refine Zv [0, 1, 2, 4] ?_
  refine Ze 3 rfl (Zd 3 wI) ?_
  refine Ze 5 rfl (Zd 0 wI) ?_
  refine Ze 6 rfl (Zf e1 p1 p2) ?_
  have h18 := (h17.only [5, 1, 0, 0, 0, 0, 0, 0, 0, 0] rfl).both
  refine Zl 7 rfl (Y1 0 (.pair (.int .u32) (.pair (.slice 5 (.int .u8)) (.pair .bool (.int .i64)))) (Zq (0 : Int) a0.2.2.1 a1) (a1, (List.replicate r5.toNat (0 : Int)), true, 1) h18 p1 p2 Vl) ?_
  intro _ w14 h19
  replace h19 := nf h19
  refine ⟨⟨[_], h19⟩, ?_⟩
  replace h19 : St w0 F0 [Ya (a0.2.1.set (Zq (0 : Int) a0.2.2.1 a1).toNat (a1, (List.replicate r5.toNat (0 : Int)), true, 1)) A2 c_2, Uc b8 a1 (List.replicate r5.toNat (0 : Int)) (some ⟨b7, 0, none⟩) (r5.toNat) true 1, X51 b2 a0.1.1 a0.1.2.1 A1 c_1 a0.1.2.2.1 a0.1.2.2.2, O5 a0.1.2.1 A1 c_1, Yb b1 (.pointer (some ⟨b2, 0, none⟩)) (a0.2.1.set (Zq (0 : Int) a0.2.2.1 a1).toNat (a1, (List.replicate r5.toNat (0 : Int)), true, 1)) A2 c_2 (.map (some b3)) a0.2.2.2.1 A3 c_3 (.pointer (some ⟨b4, 0, none⟩)), Z8 .u32 (Value.int .i64) b3 a0.2.2.1, O3 a0.2.2.2.1 A3 c_3, Z4 b4 a0.2.2.2.2.1 A4 c_4 a0.2.2.2.2.2, Z5 a0.2.2.2.2.1 A4 c_4] _ _ := h19.retell (by simp only [List.length_set, List.length_nil, Ya, Z5, O3, O5, Yb, Uc, Z4, X51] <;> rfl)
  refine Zy [0, 1, 5] ?_
  refine J.seq (Zr (Zc h19 [0, 0, 0, 0, 0, 1, 1, 1]) ?_)
  have h20 := h19.drew
  refine Zv [0, 1, 2, 4, 6] ?_
  refine Ze 3 rfl (Zd 4 wI) ?_
  refine Ze 5 rfl (Zd 1 wI) ?_
  refine Zl 7 rfl (Vb Xh (v := (Zq (0 : Int) a0.2.2.1 a1)) (ix := a1) 5 rfl h20 rfl rfl rfl rfl rfl rfl rfl rfl rfl) ?_
  intro _ w15 h21
  replace h21 := nf h21
  refine ⟨⟨[_], h21⟩, ?_⟩
  refine Zy [0, 1] ?_
  refine J.region (Zm 3 ?_)
  refine Zk (Zd 5 h21.wht) ?_
  refine Zm 1 ?_
  obtain ⟨r6, q6, H⟩ := Zp H
  refine Zh (Zi [7, 7] (Q14.spec q6) h21 rfl Zt) ?_
  rintro _ w16 ⟨_, ⟨A10, c_10, rfl, rfl⟩, h22⟩
  replace h22 := nf h22
  refine Zn [] rfl ?_
  refine ⟨_, Za, ?_⟩
  refine Zn [] rfl ?_
  refine J.seq (Zb [4] ?_)
  refine J.ret ?_
  cases H
  exact ⟨_, _, _, Za, ⟨_, _, _, _, _, _, _, _, rfl, rfl⟩, Zc h22 [7, 5, 5, 3, 2, 3, 0, 0]⟩
 refine Zn [0, 1, 6, 7, 23] rfl ?_
 refine Zz ?_
 refine J.seq (Zb [0, 1, 6, 36] ?_)
 refine jIf H (fun c6 H => ?_) fun c6 H => ?_
 ·refine J.seq (J.region ?_)
  refine Zm 1 ?_
  obtain ⟨r7, q7, H⟩ := Zp H
  refine Zh (Zi [0, 0, 0, 0, 0, 0, 0, 0] (Q12.spec q7) h1 rfl Zt) ?_
  rintro _ w17 ⟨_, ⟨A11, c_11, A12, c_12, A13, c_13, A14, c_14, rfl, rfl⟩, h23⟩
  replace h23 := nf h23
  refine Zn [0, 1, 6, 7] rfl ?_
  refine J.seq (Zb [0, 1, 6, 45] ?_)
  refine jIf H (fun c7 H => ?_) fun c7 H => ?_
  ·refine J.seq (Zb [4] ?_)
   refine J.ret ?_
   cases H
   exact ⟨_, _, _, Za, ⟨_, _, _, _, _, _, _, _, rfl, rfl⟩, Zc h23 [0, 0, 0, 0, 0, 0, 0, 0]⟩
  refine J.skip (J.seq (J.region ?_))
  refine Zm 6 ?_
  refine Zk (Zd 0 h23.wht) ?_
  obtain ⟨r8, q8, H⟩ := Zp H
  refine Zh (Zi [1, 1] (Q26.spec q8) h23 rfl Zt) ?_
  rintro _ w18 ⟨_, ⟨rfl, rfl⟩, h24⟩
  replace h24 := nf h24
  obtain ⟨⟨p9, p10⟩, H⟩ := Zo H
  refine Zh (Vk Xh (ty := (.int .u8)) rfl (0 : Int) rfl rfl rfl rfl rfl rfl rfl (by decide) h24 p9 p10) ?_
  rintro _ w19 ⟨b9, rfl, h25⟩
  replace h25 := nf h25
  refine Zm 1 ?_
  refine Yc Try.func106 ?_
  refine J.seq (J.region ?_)
  refine Zh (Ws h25) ?_
  rintro _ w20 ⟨b10, rfl, h26⟩
  replace h26 := nf h26
  refine Zn [0, 1, 5] rfl ?_
  refine J.seq (J.region ?_)
  refine Zm 1 ?_
  refine Zh (Yj 0 h26) ?_
  intro _ w21 h27
  replace h27 := nf h27
  refine Zn [0, 1, 5] rfl ?_
  refine J.seq (Zr (Zc h27 [0, 1, 1, 1, 2, 2, 2, 2]) ?_)
  have h28 := h27.drew
  refine Zv [0, 1, 2, 4] ?_
  refine Ze 3 rfl (Zd 3 wI) ?_
  refine Ze 5 rfl (Zd 0 wI) ?_
  obtain ⟨⟨p11, p12⟩, H⟩ := Zo H
  have e3 := Z3 h28.wh (gO 5) p11 p12
  refine Ze 6 rfl (Zf e3 p11 p12) ?_
  have h29 := (h28.only [5, 1, 0, 0, 0, 0, 0, 0, 0, 0] rfl).both
  refine Zl 7 rfl (Y1 0 (.pair (.int .u32) (.pair (.slice 5 (.int .u8)) (.pair .bool (.int .i64)))) r7.1 (a1, (List.replicate r8.toNat (0 : Int)), true, 1) h29 p11 p12 Vl) ?_
  intro _ w22 h30
  replace h30 := nf h30
  refine ⟨⟨[_], h30⟩, ?_⟩
  replace h30 : St w0 F0 [Ya (r7.2.2.2.1.set r7.1.toNat (a1, (List.replicate r8.toNat (0 : Int)), true, 1)) A12 c_12, Uc b10 a1 (List.replicate r8.toNat (0 : Int)) (some ⟨b9, 0, none⟩) (r8.toNat) true 1, X51 b2 r7.2.2.1.1 r7.2.2.1.2.1 A11 c_11 r7.2.2.1.2.2.1 r7.2.2.1.2.2.2, O5 r7.2.2.1.2.1 A11 c_11, Yb b1 (.pointer (some ⟨b2, 0, none⟩)) (r7.2.2.2.1.set r7.1.toNat (a1, (List.replicate r8.toNat (0 : Int)), true, 1)) A12 c_12 (.map (some b3)) r7.2.2.2.2.2.1 A13 c_13 (.pointer (some ⟨b4, 0, none⟩)), Z8 .u32 (Value.int .i64) b3 r7.2.2.2.2.1, O3 r7.2.2.2.2.2.1 A13 c_13, Z4 b4 r7.2.2.2.2.2.2.1 A14 c_14 r7.2.2.2.2.2.2.2, Z5 r7.2.2.2.2.2.2.1 A14 c_14] _ _ := h30.retell (by simp only [List.length_set, List.length_nil, Ya, Z5, O3, O5, Yb, Uc, Z4, X51] <;> rfl)
  refine Zy [0, 1, 5] ?_
  refine J.seq (Zr (Zc h30 [0, 0, 0, 0, 0, 1, 1, 1]) ?_)
  have h31 := h30.drew
  refine Zv [0, 1, 2, 4, 6] ?_
  refine Ze 3 rfl (Zd 4 wI) ?_
  refine Ze 5 rfl (Zd 1 wI) ?_
  refine Zl 7 rfl (Vb Xh (v := r7.1) (ix := a1) 5 rfl h31 rfl rfl rfl rfl rfl rfl rfl rfl rfl) ?_
  intro _ w23 h32
  replace h32 := nf h32
  refine ⟨⟨[_], h32⟩, ?_⟩
  refine Zy [0, 1] ?_
  refine J.region (Zm 3 ?_)
  refine Zk (Zd 5 h32.wht) ?_
  refine Zm 1 ?_
  obtain ⟨r9, q9, H⟩ := Zp H
  refine Zh (Zi [7, 7] (Q14.spec q9) h32 rfl Zt) ?_
  rintro _ w24 ⟨_, ⟨A15, c_15, rfl, rfl⟩, h33⟩
  replace h33 := nf h33
  refine Zn [] rfl ?_
  refine ⟨_, Za, ?_⟩
  refine Zn [] rfl ?_
  refine J.seq (Zb [4] ?_)
  refine J.ret ?_
  cases H
  exact ⟨_, _, _, Za, ⟨_, _, _, _, _, _, _, _, rfl, rfl⟩, Zc h33 [7, 5, 5, 3, 2, 3, 0, 0]⟩
 refine J.skip (J.seq (J.region ?_))
 refine Zm 6 ?_
 refine Zk (Zd 0 h1.wht) ?_
 obtain ⟨r10, q10, H⟩ := Zp H
 refine Zh (Zi [1, 1] (Q26.spec q10) h1 rfl Zt) ?_
 rintro _ w25 ⟨_, ⟨rfl, rfl⟩, h34⟩
 replace h34 := nf h34
 obtain ⟨⟨p13, p14⟩, H⟩ := Zo H
 refine Zh (Vk Xh (ty := (.int .u8)) rfl (0 : Int) rfl rfl rfl rfl rfl rfl rfl (by decide) h34 p13 p14) ?_
 rintro _ w26 ⟨b11, rfl, h35⟩
 replace h35 := nf h35
 refine Zm 1 ?_
 refine Yc Try.func106 ?_
 refine J.seq (J.region ?_)
 refine Zh (Ws h35) ?_
 rintro _ w27 ⟨b12, rfl, h36⟩
 replace h36 := nf h36
 refine Zn [0, 1, 5] rfl ?_
 refine J.seq (J.region ?_)
 refine Zm 1 ?_
 refine Zh (Yj 0 h36) ?_
 intro _ w28 h37
 replace h37 := nf h37
 refine Zn [0, 1, 5] rfl ?_
 refine J.seq (Zr (Zc h37 [0, 1, 1, 1, 2, 2, 2, 2]) ?_)
 have h38 := h37.drew
 refine Zv [0, 1, 2, 4] ?_
 refine Ze 3 rfl (Zd 3 wI) ?_
 refine Ze 5 rfl (Zd 0 wI) ?_
 obtain ⟨⟨p15, p16⟩, H⟩ := Zo H
 have e4 := Z3 h38.wh (gO 5) p15 p16
 refine Ze 6 rfl (Zf e4 p15 p16) ?_
 have h39 := (h38.only [5, 1, 0, 0, 0, 0, 0, 0, 0, 0] rfl).both
 refine Zl 7 rfl (Y1 0 (.pair (.int .u32) (.pair (.slice 5 (.int .u8)) (.pair .bool (.int .i64)))) (Zq (0 : Int) a0.2.2.1 a1) (a1, (List.replicate r10.toNat (0 : Int)), true, 1) h39 p15 p16 Vl) ?_
 intro _ w29 h40
 replace h40 := nf h40
 refine ⟨⟨[_], h40⟩, ?_⟩
 replace h40 : St w0 F0 [Ya (a0.2.1.set (Zq (0 : Int) a0.2.2.1 a1).toNat (a1, (List.replicate r10.toNat (0 : Int)), true, 1)) A2 c_2, Uc b12 a1 (List.replicate r10.toNat (0 : Int)) (some ⟨b11, 0, none⟩) (r10.toNat) true 1, X51 b2 a0.1.1 a0.1.2.1 A1 c_1 a0.1.2.2.1 a0.1.2.2.2, O5 a0.1.2.1 A1 c_1, Yb b1 (.pointer (some ⟨b2, 0, none⟩)) (a0.2.1.set (Zq (0 : Int) a0.2.2.1 a1).toNat (a1, (List.replicate r10.toNat (0 : Int)), true, 1)) A2 c_2 (.map (some b3)) a0.2.2.2.1 A3 c_3 (.pointer (some ⟨b4, 0, none⟩)), Z8 .u32 (Value.int .i64) b3 a0.2.2.1, O3 a0.2.2.2.1 A3 c_3, Z4 b4 a0.2.2.2.2.1 A4 c_4 a0.2.2.2.2.2, Z5 a0.2.2.2.2.1 A4 c_4] _ _ := h40.retell (by simp only [List.length_set, List.length_nil, Ya, Z5, O3, O5, Yb, Uc, Z4, X51] <;> rfl)
 refine Zy [0, 1, 5] ?_
 refine J.seq (Zr (Zc h40 [0, 0, 0, 0, 0, 1, 1, 1]) ?_)
 have h41 := h40.drew
 refine Zv [0, 1, 2, 4, 6] ?_
 refine Ze 3 rfl (Zd 4 wI) ?_
 refine Ze 5 rfl (Zd 1 wI) ?_
 refine Zl 7 rfl (Vb Xh (v := (Zq (0 : Int) a0.2.2.1 a1)) (ix := a1) 5 rfl h41 rfl rfl rfl rfl rfl rfl rfl rfl rfl) ?_
 intro _ w30 h42
 replace h42 := nf h42
 refine ⟨⟨[_], h42⟩, ?_⟩
 refine Zy [0, 1] ?_
 refine J.region (Zm 3 ?_)
 refine Zk (Zd 5 h42.wht) ?_
 refine Zm 1 ?_
 obtain ⟨r11, q11, H⟩ := Zp H
 refine Zh (Zi [7, 7] (Q14.spec q11) h42 rfl Zt) ?_
 rintro _ w31 ⟨_, ⟨A16, c_16, rfl, rfl⟩, h43⟩
 replace h43 := nf h43
 refine Zn [] rfl ?_
 refine ⟨_, Za, ?_⟩
 refine Zn [] rfl ?_
 refine J.seq (Zb [4] ?_)
 refine J.ret ?_
 cases H
 exact ⟨_, _, _, Za, ⟨_, _, _, _, _, _, _, _, rfl, rfl⟩, Zc h43 [7, 5, 5, 3, 2, 3, 0, 0]⟩

def Q19.f (a0 : (List (Int × Int × Bool)) × Int) (a1 : Int) (a2 : Int) : Option (((List (Int × Int × Bool)) × Int)) := if 0 ≤ a2 ∧ a2 < (a0.1.length : Int) then (if 0 ≤ a1 ∧ a1 < (a0.1.length : Int) then (if 0 ≤ a2 ∧ a2 < ((a0.1.set a1.toNat (a2, (gt a0.1 a2).2.1, true)).length : Int) then (if 0 ≤ ((gt a0.1 a2).2.1) ∧ ((gt a0.1 a2).2.1) < (((a0.1.set a1.toNat (a2, (gt a0.1 a2).2.1, true)).set a2.toNat ((gt (a0.1.set a1.toNat (a2, (gt a0.1 a2).2.1, true)) a2).1, a1, (gt (a0.1.set a1.toNat (a2, (gt a0.1 a2).2.1, true)) a2).2.2)).length : Int) then (some ((((a0.1.set a1.toNat (a2, (gt a0.1 a2).2.1, true)).set a2.toNat ((gt (a0.1.set a1.toNat (a2, (gt a0.1 a2).2.1, true)) a2).1, a1, (gt (a0.1.set a1.toNat (a2, (gt a0.1 a2).2.1, true)) a2).2.2)).set ((gt a0.1 a2).2.1).toNat (a1, (gt ((a0.1.set a1.toNat (a2, (gt a0.1 a2).2.1, true)).set a2.toNat ((gt (a0.1.set a1.toNat (a2, (gt a0.1 a2).2.1, true)) a2).1, a1, (gt (a0.1.set a1.toNat (a2, (gt a0.1 a2).2.1, true)) a2).2.2)) ((gt a0.1 a2).2.1)).2.1, (gt ((a0.1.set a1.toNat (a2, (gt a0.1 a2).2.1, true)).set a2.toNat ((gt (a0.1.set a1.toNat (a2, (gt a0.1 a2).2.1, true)) a2).1, a1, (gt (a0.1.set a1.toNat (a2, (gt a0.1 a2).2.1, true)) a2).2.2)) ((gt a0.1 a2).2.1)).2.2)), (w64 (a0.2 + 1)))) else none) else none) else none) else none
theorem Q19.spec {a0 : (List (Int × Int × Bool)) × Int} {a1 : Int} {a2 : Int} {b1 : Nat} {A1 : Option Addr} {c_1 : Nat} {r : ((List (Int × Int × Bool)) × Int)} (H : Q19.f a0 a1 a2 = some r) :
  Spec Try.prog 149 [.pointer (some ⟨b1, 0, none⟩), .int .i64 a1, .int .i64 a2] [Z4 b1 a0.1 A1 c_1 a0.2, Z5 a0.1 A1 c_1] [] (fun v l => ∃ (A_0 : Option Addr) (c_0 : Nat), v = .tuple #[] ∧ l = [Z4 b1 r.1 A_0 c_0 r.2, Z5 r.1 A_0 c_0]) := by
 refine Zs Try.func149 fun w0 F0 h0 => ?_
 unfold Q19.f at H
 refine J.seq (J.region ?_)
 refine Zm 3 ?_
 refine Zk (Zd 0 h0.wht) ?_
 refine Zm 1 ?_
 obtain ⟨⟨p1, p2⟩, H⟩ := Zo H
 have e1 := Z3 h0.wh (gO 1) p1 p2
 refine Zk (Zf e1 p1 p2) ?_
 refine Zm 1 ?_
 refine Zk (Zg 1 h0.wht (gO 1) p1 p2) ?_
 refine Zn [0, 1, 2, 6] rfl ?_
 refine J.seq (J.region ?_)
 refine Zm 3 ?_
 refine Zk (Zd 0 h0.wht) ?_
 refine Zm 4 ?_
 obtain ⟨⟨p3, p4⟩, H⟩ := Zo H
 refine Zk (Zf e1 p3 p4) ?_
 refine Zh (Zj 0 (.pair (.int .i64) (.pair (.int .i64) .bool)) a1 (a2, (gt a0.1 a2).2.1, true) 1 h0 rfl p3 p4) ?_
 intro _ w1 h1
 replace h1 := nf h1
 replace h1 : St w0 F0 [Z5 (a0.1.set a1.toNat (a2, (gt a0.1 a2).2.1, true)) A1 c_1, Z4 b1 (a0.1.set a1.toNat (a2, (gt a0.1 a2).2.1, true)) A1 c_1 a0.2] _ _ := h1.retell (by simp only [List.length_set, List.length_nil, Z5, Z4] <;> rfl)
 refine Zn [0, 1, 2, 6] rfl ?_
 refine J.seq (J.region ?_)
 refine Zm 3 ?_
 refine Zk (Zd 1 h1.wht) ?_
 refine Zm 2 ?_
 obtain ⟨⟨p5, p6⟩, H⟩ := Zo H
 refine Zk (Zf e1 p5 p6) ?_
 refine Zm 1 ?_
 refine Zh (Zj 1 (.pair (.int .i64) (.pair (.int .i64) .bool)) a2 ((gt (a0.1.set a1.toNat (a2, (gt a0.1 a2).2.1, true)) a2).1, a1, (gt (a0.1.set a1.toNat (a2, (gt a0.1 a2).2.1, true)) a2).2.2) 0 h1 rfl p5 p6) ?_
 intro _ w2 h2
 replace h2 := nf h2
 replace h2 : St w0 F0 [Z5 ((a0.1.set a1.toNat (a2, (gt a0.1 a2).2.1, true)).set a2.toNat ((gt (a0.1.set a1.toNat (a2, (gt a0.1 a2).2.1, true)) a2).1, a1, (gt (a0.1.set a1.toNat (a2, (gt a0.1 a2).2.1, true)) a2).2.2)) A1 c_1, Z4 b1 ((a0.1.set a1.toNat (a2, (gt a0.1 a2).2.1, true)).set a2.toNat ((gt (a0.1.set a1.toNat (a2, (gt a0.1 a2).2.1, true)) a2).1, a1, (gt (a0.1.set a1.toNat (a2, (gt a0.1 a2).2.1, true)) a2).2.2)) A1 c_1 a0.2] _ _ := h2.retell (by simp only [List.length_set, List.length_nil, Z5, Z4] <;> rfl)
 refine Zn [0, 1, 6] rfl ?_
 refine J.seq (J.region ?_)
 refine Zm 3 ?_
 refine Zk (Zd 1 h2.wht) ?_
 refine Zm 2 ?_
 obtain ⟨⟨p7, p8⟩, H⟩ := Zo H
 refine Zk (Zf e1 p7 p8) ?_
 refine Zm 1 ?_
 refine Zh (Zj 0 (.pair (.int .i64) (.pair (.int .i64) .bool)) ((gt a0.1 a2).2.1) (a1, (gt ((a0.1.set a1.toNat (a2, (gt a0.1 a2).2.1, true)).set a2.toNat ((gt (a0.1.set a1.toNat (a2, (gt a0.1 a2).2.1, true)) a2).1, a1, (gt (a0.1.set a1.toNat (a2, (gt a0.1 a2).2.1, true)) a2).2.2)) ((gt a0.1 a2).2.1)).2.1, (gt ((a0.1.set a1.toNat (a2, (gt a0.1 a2).2.1, true)).set a2.toNat ((gt (a0.1.set a1.toNat (a2, (gt a0.1 a2).2.1, true)) a2).1, a1, (gt (a0.1.set a1.toNat (a2, (gt a0.1 a2).2.1, true)) a2).2.2)) ((gt a0.1 a2).2.1)).2.2) 0 h2 rfl p7 p8) ?_
 intro _ w3 h3
 replace h3 := nf h3
 replace h3 : St w0 F0 [Z5 (((a0.1.set a1.toNat (a2, (gt a0.1 a2).2.1, true)).set a2.toNat ((gt (a0.1.set a1.toNat (a2, (gt a0.1 a2).2.1, true)) a2).1, a1, (gt (a0.1.set a1.toNat (a2, (gt a0.1 a2).2.1, true)) a2).2.2)).set ((gt a0.1 a2).2.1).toNat (a1, (gt ((a0.1.set a1.toNat (a2, (gt a0.1 a2).2.1, true)).set a2.toNat ((gt (a0.1.set a1.toNat (a2, (gt a0.1 a2).2.1, true)) a2).1, a1, (gt (a0.1.set a1.toNat (a2, (gt a0.1 a2).2.1, true)) a2).2.2)) ((gt a0.1 a2).2.1)).2.1, (gt ((a0.1.set a1.toNat (a2, (gt a0.1 a2).2.1, true)).set a2.toNat ((gt (a0.1.set a1.toNat (a2, (gt a0.1 a2).2.1, true)) a2).1, a1, (gt (a0.1.set a1.toNat (a2, (gt a0.1 a2).2.1, true)) a2).2.2)) ((gt a0.1 a2).2.1)).2.2)) A1 c_1, Z4 b1 (((a0.1.set a1.toNat (a2, (gt a0.1 a2).2.1, true)).set a2.toNat ((gt (a0.1.set a1.toNat (a2, (gt a0.1 a2).2.1, true)) a2).1, a1, (gt (a0.1.set a1.toNat (a2, (gt a0.1 a2).2.1, true)) a2).2.2)).set ((gt a0.1 a2).2.1).toNat (a1, (gt ((a0.1.set a1.toNat (a2, (gt a0.1 a2).2.1, true)).set a2.toNat ((gt (a0.1.set a1.toNat (a2, (gt a0.1 a2).2.1, true)) a2).1, a1, (gt (a0.1.set a1.toNat (a2, (gt a0.1 a2).2.1, true)) a2).2.2)) ((gt a0.1 a2).2.1)).2.1, (gt ((a0.1.set a1.toNat (a2, (gt a0.1 a2).2.1, true)).set a2.toNat ((gt (a0.1.set a1.toNat (a2, (gt a0.1 a2).2.1, true)) a2).1, a1, (gt (a0.1.set a1.toNat (a2, (gt a0.1 a2).2.1, true)) a2).2.2)) ((gt a0.1 a2).2.1)).2.2)) A1 c_1 a0.2] _ _ := h3.retell (by simp only [List.length_set, List.length_nil, Z5, Z4] <;> rfl)
 refine Zn [0] rfl ?_
 refine J.region (Zm 3 ?_)
 refine Zk (Zd 1 h3.wht) ?_
 refine Zm 3 ?_
 refine Zh (Yj 1 h3) ?_
 intro _ w4 h4
 replace h4 := nf h4
 refine Zn [] rfl ?_
 cases H
 exact ⟨_, _, _, Za, ⟨_, _, rfl, rfl⟩, Zc h4 [0, 0]⟩

def Q15.f (a0 : (List (Int × Int × Bool)) × Int) (a1 : Int) : Option (Int × ((List (Int × Int × Bool)) × Int)) := (Q21.f a0 a1).bind fun r1 => (if (decide (r1 = 0)) = true then ((Q18.f a0 a1).bind fun r2 => ((Q20.f r2).bind fun r3 => ((Q19.f r2 a1 r3).bind fun r4 => (some (r1, r4))))) else (some (r1, a0)))
theorem Q15.spec {a0 : (List (Int × Int × Bool)) × Int} {a1 : Int} {b1 : Nat} {A1 : Option Addr} {c_1 : Nat} {r : Int × ((List (Int × Int × Bool)) × Int)} (H : Q15.f a0 a1 = some r) :
  Spec Try.prog 107 [.pointer (some ⟨b1, 0, none⟩), .int .i64 a1] [Z4 b1 a0.1 A1 c_1 a0.2, Z5 a0.1 A1 c_1] [] (fun v l => ∃ (A_0 : Option Addr) (c_0 : Nat), v = .int .i64 r.1 ∧ l = [Z4 b1 r.2.1 A_0 c_0 r.2.2, Z5 r.2.1 A_0 c_0]) := by
 refine Zs Try.func107 fun w0 F0 h0 => ?_
 unfold Q15.f at H
 refine J.seq (Zb [0, 1] ?_)
 refine J.seq (J.region ?_)
 refine Zm 2 ?_
 obtain ⟨r1, q1, H⟩ := Zp H
 refine Zh (Zi [0, 0] (Q21.spec q1) h0 rfl Zt) ?_
 rintro _ w1 ⟨_, ⟨rfl, rfl⟩, h1⟩
 replace h1 := nf h1
 refine Zn [0, 1, 5] rfl ?_
 refine J.seq (J.seq (Zb [0, 1, 5, 10] ?_))
 refine jIf H (fun c1 H => ?_) fun c1 H => ?_
 ·refine J.seq (J.region ?_)
  refine Zm 2 ?_
  obtain ⟨r2, q2, H⟩ := Zp H
  refine Zh (Zi [0, 0] (Q18.spec q2) h1 rfl Zt) ?_
  rintro _ w2 ⟨_, ⟨A2, c_2, rfl, rfl⟩, h2⟩
  replace h2 := nf h2
  refine Zn [0, 1, 5] rfl ?_
  refine J.region (Zm 3 ?_)
  obtain ⟨r3, q3, H⟩ := Zp H
  refine Zh (Zi [0, 0] (Q20.spec q3) h2 rfl Zt) ?_
  rintro _ w3 ⟨_, ⟨rfl, rfl⟩, h3⟩
  replace h3 := nf h3
  obtain ⟨r4, q4, H⟩ := Zp H
  refine Zh (Zi [0, 0] (Q19.spec q4) h3 rfl Zt) ?_
  rintro _ w4 ⟨_, ⟨A3, c_3, rfl, rfl⟩, h4⟩
  replace h4 := nf h4
  refine Zn [5] rfl ?_
  refine J.seq (Zb [4] ?_)
  refine J.ret ?_
  cases H
  exact ⟨_, _, _, Za, ⟨_, _, rfl, rfl⟩, Zc h4 [0, 0]⟩
 refine J.skip (J.seq (Zb [4] ?_))
 refine J.ret ?_
 cases H
 exact ⟨_, _, _, Za, ⟨_, _, rfl, rfl⟩, Zc h1 [0, 0]⟩

def Q8.f (a0 : (Int × List (Int) × (Int × Int)) × (List (Int × List (Int) × Bool × Int)) × (List (Int × Int)) × List (Int) × ((List (Int × Int × Bool)) × Int)) (a1 : Int) : Option (Int × ((Int × List (Int) × (Int × Int)) × (List (Int × List (Int) × Bool × Int)) × (List (Int × Int)) × List (Int) × ((List (Int × Int × Bool)) × Int))) := (Q11.f a0).bind fun r1 => (if r1 = true then (some (1, a0)) else (if (!(Yn a0.2.2.1 a1)) = true then (some (8, a0)) else (if 0 ≤ (Zq (0 : Int) a0.2.2.1 a1) ∧ (Zq (0 : Int) a0.2.2.1 a1) < (a0.2.1.length : Int) then (if (decide (((gt a0.2.1 (Zq (0 : Int) a0.2.2.1 a1)).2.2.2) = 0)) = true then (some (8, a0)) else (if (decide (((gt (a0.2.1.set (Zq (0 : Int) a0.2.2.1 a1).toNat ((gt a0.2.1 (Zq (0 : Int) a0.2.2.1 a1)).1, (gt a0.2.1 (Zq (0 : Int) a0.2.2.1 a1)).2.1, (gt a0.2.1 (Zq (0 : Int) a0.2.2.1 a1)).2.2.1, (w64 (((gt a0.2.1 (Zq (0 : Int) a0.2.2.1 a1)).2.2.2) - 1)))) (Zq (0 : Int) a0.2.2.1 a1)).2.2.2) = 0)) = true then ((Q15.f a0.2.2.2.2 (Zq (0 : Int) a0.2.2.1 a1)).bind fun r2 => (some (0, (a0.1, (a0.2.1.set (Zq (0 : Int) a0.2.2.1 a1).toNat ((gt a0.2.1 (Zq (0 : Int) a0.2.2.1 a1)).1, (gt a0.2.1 (Zq (0 : Int) a0.2.2.1 a1)).2.1, (gt a0.2.1 (Zq (0 : Int) a0.2.2.1 a1)).2.2.1, (w64 (((gt a0.2.1 (Zq (0 : Int) a0.2.2.1 a1)).2.2.2) - 1)))), a0.2.2.1, a0.2.2.2.1, r2.2)))) else (some (0, (a0.1, (a0.2.1.set (Zq (0 : Int) a0.2.2.1 a1).toNat ((gt a0.2.1 (Zq (0 : Int) a0.2.2.1 a1)).1, (gt a0.2.1 (Zq (0 : Int) a0.2.2.1 a1)).2.1, (gt a0.2.1 (Zq (0 : Int) a0.2.2.1 a1)).2.2.1, (w64 (((gt a0.2.1 (Zq (0 : Int) a0.2.2.1 a1)).2.2.2) - 1)))), a0.2.2.1, a0.2.2.2.1, a0.2.2.2.2))))) else none)))
theorem Q8.spec {a0 : (Int × List (Int) × (Int × Int)) × (List (Int × List (Int) × Bool × Int)) × (List (Int × Int)) × List (Int) × ((List (Int × Int × Bool)) × Int)} {a1 : Int} {b1 : Nat} {b2 : Nat} {b3 : Nat} {b4 : Nat} {A1 : Option Addr} {c_1 : Nat} {A2 : Option Addr} {c_2 : Nat} {A3 : Option Addr} {c_3 : Nat} {A4 : Option Addr} {c_4 : Nat} {r : Int × ((Int × List (Int) × (Int × Int)) × (List (Int × List (Int) × Bool × Int)) × (List (Int × Int)) × List (Int) × ((List (Int × Int × Bool)) × Int))} (H : Q8.f a0 a1 = some r) :
  Spec Try.prog 58 [.pointer (some ⟨b1, 0, none⟩), .int .u32 a1] [Yb b1 (.pointer (some ⟨b2, 0, none⟩)) a0.2.1 A2 c_2 (.map (some b3)) a0.2.2.2.1 A3 c_3 (.pointer (some ⟨b4, 0, none⟩)), X51 b2 a0.1.1 a0.1.2.1 A1 c_1 a0.1.2.2.1 a0.1.2.2.2, O5 a0.1.2.1 A1 c_1, Ya a0.2.1 A2 c_2, Z8 .u32 (Value.int .i64) b3 a0.2.2.1, O3 a0.2.2.2.1 A3 c_3, Z4 b4 a0.2.2.2.2.1 A4 c_4 a0.2.2.2.2.2, Z5 a0.2.2.2.2.1 A4 c_4] [] (fun v l => ∃ (A_0 : Option Addr) (c_0 : Nat) (A_1 : Option Addr) (c_1 : Nat) (A_2 : Option Addr) (c_2 : Nat) (A_3 : Option Addr) (c_3 : Nat), v = .int .i64 r.1 ∧ l = [Yb b1 (.pointer (some ⟨b2, 0, none⟩)) r.2.2.1 A_1 c_1 (.map (some b3)) r.2.2.2.2.1 A_2 c_2 (.pointer (some ⟨b4, 0, none⟩)), X51 b2 r.2.1.1 r.2.1.2.1 A_0 c_0 r.2.1.2.2.1 r.2.1.2.2.2, O5 r.2.1.2.1 A_0 c_0, Ya r.2.2.1 A_1 c_1, Z8 .u32 (Value.int .i64) b3 r.2.2.2.1, O3 r.2.2.2.2.1 A_2 c_2, Z4 b4 r.2.2.2.2.2.1 A_3 c_3 r.2.2.2.2.2.2, Z5 r.2.2.2.2.2.1 A_3 c_3]) := by
 refine Zs Try.func58 fun w0 F0 h0 => ?_
 unfold Q8.f at H
 refine J.seq (Zb [0, 1] ?_)
 refine J.seq (J.region ?_)
 refine Zm 2 ?_
 refine Yc Try.func99 ?_
 refine J.seq (Zb [0, 1] ?_)
 refine J.seq (J.seq (J.region ?_))
 refine Zm 1 ?_
 obtain ⟨r1, q1, H⟩ := Zp H
 refine Zh (Zi [0, 0, 0, 0, 0, 0, 0, 0] (Q11.spec q1) h0 rfl Zt) ?_
 rintro _ w1 ⟨_, ⟨rfl, rfl⟩, h1⟩
 replace h1 := nf h1
 refine Zn [0, 1, 9] rfl ?_
 refine jIf H (fun c1 H => ?_) fun c1 H => ?_
 ·refine J.seq (Zb [4, 5] ?_)
  refine J.ret (⟨_, Za, ?_⟩)
  refine Zn [0, 1, 5, 6] rfl ?_
  refine J.seq (J.seq (Zb [0, 1, 5, 6, 14] ?_))
  refine Z2 ?_
  refine J.seq (Zb [4] ?_)
  refine J.ret ?_
  cases H
  exact ⟨_, _, _, Za, ⟨_, _, _, _, _, _, _, _, rfl, rfl⟩, Zc h1 [0, 0, 0, 0, 0, 0, 0, 0]⟩
 refine J.skip (J.seq (J.region ?_))
 refine Zm 3 ?_
 refine Zk (Zd 0 h1.wht) ?_
 refine Zm 1 ?_
 refine Zk (Xd (0 : Int) 4 h1.wht) ?_
 refine Zn [0, 6, 7] rfl ?_
 refine J.seq (J.seq (J.region ?_))
 refine Zm 3 ?_
 refine Y3 21 H (fun c2 H => ?_) fun c2 H => ?_
 ·refine Zn [0, 6, 31] rfl ?_
  refine Z2 ?_
  refine J.seq (Zb [4, 5] ?_)
  refine J.ret (⟨_, Za, ?_⟩)
  refine Zn [0, 1, 5, 6] rfl ?_
  refine J.seq (J.seq (Zb [0, 1, 5, 6, 14] ?_))
  refine Z2 ?_
  refine J.seq (Zb [4] ?_)
  refine J.ret ?_
  cases H
  exact ⟨_, _, _, Za, ⟨_, _, _, _, _, _, _, _, rfl, rfl⟩, Zc h1 [0, 0, 0, 0, 0, 0, 0, 0]⟩
 refine Zm 3 ?_
 refine Zk (Zd 0 h1.wht) ?_
 refine Zm 1 ?_
 obtain ⟨⟨p1, p2⟩, H⟩ := Zo H
 have e1 := Z3 h1.wh (gO 3) p1 p2
 refine Zk (Zf e1 p1 p2) ?_
 refine Zm 1 ?_
 refine Zk (Ye 3 h1.wht (gO 3) p1 p2) ?_
 refine Zn [0, 6, 31] rfl ?_
 refine jIf H (fun c3 H => ?_) fun c3 H => ?_
 ·refine J.seq (Zb [4, 5] ?_)
  refine J.ret (⟨_, Za, ?_⟩)
  refine Zn [0, 1, 5, 6] rfl ?_
  refine J.seq (J.seq (Zb [0, 1, 5, 6, 14] ?_))
  refine Z2 ?_
  refine J.seq (Zb [4] ?_)
  refine J.ret ?_
  cases H
  exact ⟨_, _, _, Za, ⟨_, _, _, _, _, _, _, _, rfl, rfl⟩, Zc h1 [0, 0, 0, 0, 0, 0, 0, 0]⟩
 refine J.skip (J.seq (J.region ?_))
 refine Zm 3 ?_
 refine Zk (Zd 0 h1.wht) ?_
 refine Zm 1 ?_
 refine Zk (Zf e1 p1 p2) ?_
 refine Zn [4, 5] rfl ?_
 refine J.ret (⟨_, Za, ?_⟩)
 refine Zn [0, 1, 5, 6] rfl ?_
 refine J.seq (J.seq (Zb [0, 1, 5, 6, 14] ?_))
 refine Zz ?_
 refine J.skip (J.seq (J.region ?_))
 refine Zm 3 ?_
 refine Zk (Ye 3 h1.wht (gO 3) p1 p2) ?_
 refine Zm 3 ?_
 refine Zh (Xe 3 (.pair (.int .u32) (.pair (.slice 5 (.int .u8)) (.pair .bool (.int .i64)))) (Zq (0 : Int) a0.2.2.1 a1) ((gt a0.2.1 (Zq (0 : Int) a0.2.2.1 a1)).1, (gt a0.2.1 (Zq (0 : Int) a0.2.2.1 a1)).2.1, (gt a0.2.1 (Zq (0 : Int) a0.2.2.1 a1)).2.2.1, (w64 (((gt a0.2.1 (Zq (0 : Int) a0.2.2.1 a1)).2.2.2) - 1))) 3 h1 rfl p1 p2 (Vq rfl rfl)) ?_
 intro _ w2 h2
 replace h2 := nf h2
 replace h2 : St w0 F0 [Ya (a0.2.1.set (Zq (0 : Int) a0.2.2.1 a1).toNat ((gt a0.2.1 (Zq (0 : Int) a0.2.2.1 a1)).1, (gt a0.2.1 (Zq (0 : Int) a0.2.2.1 a1)).2.1, (gt a0.2.1 (Zq (0 : Int) a0.2.2.1 a1)).2.2.1, (w64 (((gt a0.2.1 (Zq (0 : Int) a0.2.2.1 a1)).2.2.2) - 1)))) A2 c_2, Yb b1 (.pointer (some ⟨b2, 0, none⟩)) (a0.2.1.set (Zq (0 : Int) a0.2.2.1 a1).toNat ((gt a0.2.1 (Zq (0 : Int) a0.2.2.1 a1)).1, (gt a0.2.1 (Zq (0 : Int) a0.2.2.1 a1)).2.1, (gt a0.2.1 (Zq (0 : Int) a0.2.2.1 a1)).2.2.1, (w64 (((gt a0.2.1 (Zq (0 : Int) a0.2.2.1 a1)).2.2.2) - 1)))) A2 c_2 (.map (some b3)) a0.2.2.2.1 A3 c_3 (.pointer (some ⟨b4, 0, none⟩)), X51 b2 a0.1.1 a0.1.2.1 A1 c_1 a0.1.2.2.1 a0.1.2.2.2, O5 a0.1.2.1 A1 c_1, Z8 .u32 (Value.int .i64) b3 a0.2.2.1, O3 a0.2.2.2.1 A3 c_3, Z4 b4 a0.2.2.2.2.1 A4 c_4 a0.2.2.2.2.2, Z5 a0.2.2.2.2.1 A4 c_4] _ _ := h2.retell (by simp only [List.length_set, List.length_nil, Ya, Z5, O3, O5, Yb, Z4, X51] <;> rfl)
 refine Zn [0, 1, 5] rfl ?_
 refine J.seq (J.seq (J.region ?_))
 refine Zm 3 ?_
 refine Zk (Ye 3 h2.wht (gO 0) p1 (by simpa only [List.length_set] using p2)) ?_
 refine Zn [0, 1, 27] rfl ?_
 refine jIf H (fun c4 H => ?_) fun c4 H => ?_
 ·refine Zr (Zc h2 [0, 0, 0, 0, 0, 0]) ?_
  have h3 := h2.drew
  refine Zv [0, 1, 2, 4, 5, 6, 8] ?_
  refine Ze 3 rfl (Zd 1 wI) ?_
  refine Ze 7 rfl (Zd 1 wI) ?_
  refine Ze 9 rfl (Vs (0 : Int) 4 wI) ?_
  obtain ⟨r2, q2, H⟩ := Zp H
  refine Zl 10 rfl (Zi [6, 6] (Q15.spec q2) h3 rfl Zt) ?_
  rintro _ w3 ⟨_, ⟨A5, c_5, rfl, rfl⟩, h4⟩
  replace h4 := nf h4
  refine ⟨⟨[_, _], h4⟩, ?_⟩
  refine Zy [] ?_
  refine J.seq (Zb [4] ?_)
  refine J.ret ?_
  cases H
  exact ⟨_, _, _, Za, ⟨_, _, _, _, _, _, _, _, rfl, rfl⟩, Zc h4 [3, 3, 3, 2, 2, 2, 0, 0]⟩
 refine J.skip (J.seq (Zb [4] ?_))
 refine J.ret ?_
 cases H
 exact ⟨_, _, _, Za, ⟨_, _, _, _, _, _, _, _, rfl, rfl⟩, Zc h2 [1, 1, 1, 0, 0, 0, 0, 0]⟩

def Q9.f (a0 : (Int × List (Int) × (Int × Int)) × (List (Int × List (Int) × Bool × Int)) × (List (Int × Int)) × List (Int) × ((List (Int × Int × Bool)) × Int)) (a1 : Int) (a2 : List (Int)) : Option (Int × ((Int × List (Int) × (Int × Int)) × (List (Int × List (Int) × Bool × Int)) × (List (Int × Int)) × List (Int) × ((List (Int × Int × Bool)) × Int))) := (Q11.f a0).bind fun r1 => (if r1 = true then (some (1, a0)) else (if (!(Yn a0.2.2.1 a1)) = true then (some (8, a0)) else (if 0 ≤ (Zq (0 : Int) a0.2.2.1 a1) ∧ (Zq (0 : Int) a0.2.2.1 a1) < (a0.2.1.length : Int) then (if (decide (((gt a0.2.1 (Zq (0 : Int) a0.2.2.1 a1)).2.2.2) = 0)) = true then (some (8, a0)) else ((Q26.f a0.1).bind fun r2 => (if (!decide ((a2.length : Int) = r2)) = true then (some (3, a0)) else ((Q34.f a2).bind fun r3 => (some (0, (a0.1, ((a0.2.1.set (Zq (0 : Int) a0.2.2.1 a1).toNat ((gt a0.2.1 (Zq (0 : Int) a0.2.2.1 a1)).1, r3, (gt a0.2.1 (Zq (0 : Int) a0.2.2.1 a1)).2.2.1, (gt a0.2.1 (Zq (0 : Int) a0.2.2.1 a1)).2.2.2)).set (Zq (0 : Int) a0.2.2.1 a1).toNat ((gt (a0.2.1.set (Zq (0 : Int) a0.2.2.1 a1).toNat ((gt a0.2.1 (Zq (0 : Int) a0.2.2.1 a1)).1, r3, (gt a0.2.1 (Zq (0 : Int) a0.2.2.1 a1)).2.2.1, (gt a0.2.1 (Zq (0 : Int) a0.2.2.1 a1)).2.2.2)) (Zq (0 : Int) a0.2.2.1 a1)).1, (gt (a0.2.1.set (Zq (0 : Int) a0.2.2.1 a1).toNat ((gt a0.2.1 (Zq (0 : Int) a0.2.2.1 a1)).1, r3, (gt a0.2.1 (Zq (0 : Int) a0.2.2.1 a1)).2.2.1, (gt a0.2.1 (Zq (0 : Int) a0.2.2.1 a1)).2.2.2)) (Zq (0 : Int) a0.2.2.1 a1)).2.1, true, (gt (a0.2.1.set (Zq (0 : Int) a0.2.2.1 a1).toNat ((gt a0.2.1 (Zq (0 : Int) a0.2.2.1 a1)).1, r3, (gt a0.2.1 (Zq (0 : Int) a0.2.2.1 a1)).2.2.1, (gt a0.2.1 (Zq (0 : Int) a0.2.2.1 a1)).2.2.2)) (Zq (0 : Int) a0.2.2.1 a1)).2.2.2)), a0.2.2.1, a0.2.2.2.1, a0.2.2.2.2))))))) else none)))
theorem Q9.spec {a0 : (Int × List (Int) × (Int × Int)) × (List (Int × List (Int) × Bool × Int)) × (List (Int × Int)) × List (Int) × ((List (Int × Int × Bool)) × Int)} {a1 : Int} {a2 : List (Int)} {A5 : Option Addr} {c_5 : Nat} {b1 : Nat} {b2 : Nat} {b3 : Nat} {b4 : Nat} {A1 : Option Addr} {c_1 : Nat} {A2 : Option Addr} {c_2 : Nat} {A3 : Option Addr} {c_3 : Nat} {A4 : Option Addr} {c_4 : Nat} {r : Int × ((Int × List (Int) × (Int × Int)) × (List (Int × List (Int) × Bool × Int)) × (List (Int × Int)) × List (Int) × ((List (Int × Int × Bool)) × Int))} (H : Q9.f a0 a1 a2 = some r) :
  Spec Try.prog 59 [.pointer (some ⟨b1, 0, none⟩), .int .u32 a1, .slice A5 a2.length c_5] [Yb b1 (.pointer (some ⟨b2, 0, none⟩)) a0.2.1 A2 c_2 (.map (some b3)) a0.2.2.2.1 A3 c_3 (.pointer (some ⟨b4, 0, none⟩)), X51 b2 a0.1.1 a0.1.2.1 A1 c_1 a0.1.2.2.1 a0.1.2.2.2, O5 a0.1.2.1 A1 c_1, Ya a0.2.1 A2 c_2, Z8 .u32 (Value.int .i64) b3 a0.2.2.1, O3 a0.2.2.2.1 A3 c_3, Z4 b4 a0.2.2.2.2.1 A4 c_4 a0.2.2.2.2.2, Z5 a0.2.2.2.2.1 A4 c_4] [R5 a2 A5 c_5] (fun v l => ∃ (A_0 : Option Addr) (c_0 : Nat) (A_1 : Option Addr) (c_1 : Nat) (A_2 : Option Addr) (c_2 : Nat) (A_3 : Option Addr) (c_3 : Nat), v = .int .i64 r.1 ∧ l = [Yb b1 (.pointer (some ⟨b2, 0, none⟩)) r.2.2.1 A_1 c_1 (.map (some b3)) r.2.2.2.2.1 A_2 c_2 (.pointer (some ⟨b4, 0, none⟩)), X51 b2 r.2.1.1 r.2.1.2.1 A_0 c_0 r.2.1.2.2.1 r.2.1.2.2.2, O5 r.2.1.2.1 A_0 c_0, Ya r.2.2.1 A_1 c_1, Z8 .u32 (Value.int .i64) b3 r.2.2.2.1, O3 r.2.2.2.2.1 A_2 c_2, Z4 b4 r.2.2.2.2.2.1 A_3 c_3 r.2.2.2.2.2.2, Z5 r.2.2.2.2.2.1 A_3 c_3]) := by
 refine Zs Try.func59 fun w0 F0 h0 => ?_
 unfold Q9.f at H
 refine J.seq (Zb [0, 1, 2] ?_)
 refine J.seq (J.region ?_)
 refine Zm 2 ?_
 refine Yc Try.func99 ?_
 refine J.seq (Zb [0, 1] ?_)
 refine J.seq (J.seq (J.region ?_))
 refine Zm 1 ?_
 obtain ⟨r1, q1, H⟩ := Zp H
 refine Zh (Zi [0, 0, 0, 0, 0, 0, 0, 0] (Q11.spec q1) h0 rfl Zt) ?_
 rintro _ w1 ⟨_, ⟨rfl, rfl⟩, h1⟩
 replace h1 := nf h1
 refine Zn [0, 1, 9] rfl ?_
 refine jIf H (fun c1 H => ?_) fun c1 H => ?_
 ·refine J.seq (Zb [4, 5] ?_)
  refine J.ret (⟨_, Za, ?_⟩)
  refine Zn [0, 2, 7, 8] rfl ?_
  refine J.seq (J.block (J.seq (Zb [0, 2, 7, 8, 15] ?_)))
  refine Z2 ?_
  refine J.seq (Zb [6] ?_)
  refine J.ret ?_
  cases H
  exact ⟨_, _, _, Za, ⟨_, _, _, _, _, _, _, _, rfl, rfl⟩, Zc h1 [0, 0, 0, 0, 0, 0, 0, 0]⟩
 refine J.skip (J.seq (J.region ?_))
 refine Zm 3 ?_
 refine Zk (Zd 0 h1.wht) ?_
 refine Zm 1 ?_
 refine Zk (Xd (0 : Int) 4 h1.wht) ?_
 refine Zn [0, 6, 7] rfl ?_
 refine J.seq (J.seq (J.region ?_))
 refine Zm 3 ?_
 refine Y3 21 H (fun c2 H => ?_) fun c2 H => ?_
 ·refine Zn [0, 6, 31] rfl ?_
  refine Z2 ?_
  refine J.seq (Zb [4, 5] ?_)
  refine J.ret (⟨_, Za, ?_⟩)
  refine Zn [0, 2, 7, 8] rfl ?_
  refine J.seq (J.block (J.seq (Zb [0, 2, 7, 8, 15] ?_)))
  refine Z2 ?_
  refine J.seq (Zb [6] ?_)
  refine J.ret ?_
  cases H
  exact ⟨_, _, _, Za, ⟨_, _, _, _, _, _, _, _, rfl, rfl⟩, Zc h1 [0, 0, 0, 0, 0, 0, 0, 0]⟩
 refine Zm 3 ?_
 refine Zk (Zd 0 h1.wht) ?_
 refine Zm 1 ?_
 obtain ⟨⟨p1, p2⟩, H⟩ := Zo H
 have e1 := Z3 h1.wh (gO 3) p1 p2
 refine Zk (Zf e1 p1 p2) ?_
 refine Zm 1 ?_
 refine Zk (Ye 3 h1.wht (gO 3) p1 p2) ?_
 refine Zn [0, 6, 31] rfl ?_
 refine jIf H (fun c3 H => ?_) fun c3 H => ?_
 ·refine J.seq (Zb [4, 5] ?_)
  refine J.ret (⟨_, Za, ?_⟩)
  refine Zn [0, 2, 7, 8] rfl ?_
  refine J.seq (J.block (J.seq (Zb [0, 2, 7, 8, 15] ?_)))
  refine Z2 ?_
  refine J.seq (Zb [6] ?_)
  refine J.ret ?_
  cases H
  exact ⟨_, _, _, Za, ⟨_, _, _, _, _, _, _, _, rfl, rfl⟩, Zc h1 [0, 0, 0, 0, 0, 0, 0, 0]⟩
 refine J.skip (J.seq (J.region ?_))
 refine Zm 3 ?_
 refine Zk (Zd 0 h1.wht) ?_
 refine Zm 1 ?_
 refine Zk (Zf e1 p1 p2) ?_
 refine Zn [4, 5] rfl ?_
 refine J.ret (⟨_, Za, ?_⟩)
 refine Zn [0, 2, 7, 8] rfl ?_
 refine J.seq (J.block (J.seq (Zb [0, 2, 7, 8, 15] ?_)))
 refine Zz ?_
 refine J.seq (J.region ?_)
 refine Zm 5 ?_
 refine Zk (Zd 0 h1.wht) ?_
 obtain ⟨r2, q2, H⟩ := Zp H
 refine Zh (Zi [1, 1] (Q26.spec q2) h1 rfl Zt) ?_
 rintro _ w2 ⟨_, ⟨rfl, rfl⟩, h2⟩
 replace h2 := nf h2
 refine Zn [2, 7, 19] rfl ?_
 refine jIf H (fun c4 H => ?_) fun c4 H => ?_
 ·refine J.seq (Zb [6] ?_)
  refine J.ret ?_
  cases H
  exact ⟨_, _, _, Za, ⟨_, _, _, _, _, _, _, _, rfl, rfl⟩, Zc h2 [2, 0, 0, 0, 0, 0, 0, 0]⟩
 refine J.skip (J.seq (J.region ?_))
 refine Zm 3 ?_
 obtain ⟨r3, q3, H⟩ := Zp H
 refine Zh (Zi [] (Q34.spec q3) h2 rfl (Y8 (Z0 8) Zt)) ?_
 rintro _ w3 ⟨_, ⟨A6, c_6, rfl, rfl⟩, h3⟩
 replace h3 := nf h3
 refine Zm 2 ?_
 have h4 := (h3.only [4, 0, 0, 0, 0, 0, 0, 0, 0] rfl).both
 refine Zh (Y1 1 (.pair (.int .u32) (.pair (.slice 5 (.int .u8)) (.pair .bool (.int .i64)))) (Zq (0 : Int) a0.2.2.1 a1) ((gt a0.2.1 (Zq (0 : Int) a0.2.2.1 a1)).1, r3, (gt a0.2.1 (Zq (0 : Int) a0.2.2.1 a1)).2.2.1, (gt a0.2.1 (Zq (0 : Int) a0.2.2.1 a1)).2.2.2) h4 p1 p2 Zgs) ?_
 intro _ w4 h5
 replace h5 := nf h5
 replace h5 : St w0 F0 [Ya (a0.2.1.set (Zq (0 : Int) a0.2.2.1 a1).toNat ((gt a0.2.1 (Zq (0 : Int) a0.2.2.1 a1)).1, r3, (gt a0.2.1 (Zq (0 : Int) a0.2.2.1 a1)).2.2.1, (gt a0.2.1 (Zq (0 : Int) a0.2.2.1 a1)).2.2.2)) A2 c_2, X51 b2 a0.1.1 a0.1.2.1 A1 c_1 a0.1.2.2.1 a0.1.2.2.2, O5 a0.1.2.1 A1 c_1, Yb b1 (.pointer (some ⟨b2, 0, none⟩)) (a0.2.1.set (Zq (0 : Int) a0.2.2.1 a1).toNat ((gt a0.2.1 (Zq (0 : Int) a0.2.2.1 a1)).1, r3, (gt a0.2.1 (Zq (0 : Int) a0.2.2.1 a1)).2.2.1, (gt a0.2.1 (Zq (0 : Int) a0.2.2.1 a1)).2.2.2)) A2 c_2 (.map (some b3)) a0.2.2.2.1 A3 c_3 (.pointer (some ⟨b4, 0, none⟩)), Z8 .u32 (Value.int .i64) b3 a0.2.2.1, O3 a0.2.2.2.1 A3 c_3, Z4 b4 a0.2.2.2.2.1 A4 c_4 a0.2.2.2.2.2, Z5 a0.2.2.2.2.1 A4 c_4] _ _ := h5.retell (by simp only [List.length_set, List.length_nil, Ya, Z5, O3, O5, Yb, Z4, X51] <;> rfl)
 refine Zm 2 ?_
 refine Zh (Xe 2 (.pair (.int .u32) (.pair (.slice 5 (.int .u8)) (.pair .bool (.int .i64)))) (Zq (0 : Int) a0.2.2.1 a1) ((gt (a0.2.1.set (Zq (0 : Int) a0.2.2.1 a1).toNat ((gt a0.2.1 (Zq (0 : Int) a0.2.2.1 a1)).1, r3, (gt a0.2.1 (Zq (0 : Int) a0.2.2.1 a1)).2.2.1, (gt a0.2.1 (Zq (0 : Int) a0.2.2.1 a1)).2.2.2)) (Zq (0 : Int) a0.2.2.1 a1)).1, (gt (a0.2.1.set (Zq (0 : Int) a0.2.2.1 a1).toNat ((gt a0.2.1 (Zq (0 : Int) a0.2.2.1 a1)).1, r3, (gt a0.2.1 (Zq (0 : Int) a0.2.2.1 a1)).2.2.1, (gt a0.2.1 (Zq (0 : Int) a0.2.2.1 a1)).2.2.2)) (Zq (0 : Int) a0.2.2.1 a1)).2.1, true, (gt (a0.2.1.set (Zq (0 : Int) a0.2.2.1 a1).toNat ((gt a0.2.1 (Zq (0 : Int) a0.2.2.1 a1)).1, r3, (gt a0.2.1 (Zq (0 : Int) a0.2.2.1 a1)).2.2.1, (gt a0.2.1 (Zq (0 : Int) a0.2.2.1 a1)).2.2.2)) (Zq (0 : Int) a0.2.2.1 a1)).2.2.2) 0 h5 rfl p1 (by simpa only [List.length_set] using p2) (Vq rfl rfl)) ?_
 intro _ w5 h6
 replace h6 := nf h6
 replace h6 : St w0 F0 [Ya ((a0.2.1.set (Zq (0 : Int) a0.2.2.1 a1).toNat ((gt a0.2.1 (Zq (0 : Int) a0.2.2.1 a1)).1, r3, (gt a0.2.1 (Zq (0 : Int) a0.2.2.1 a1)).2.2.1, (gt a0.2.1 (Zq (0 : Int) a0.2.2.1 a1)).2.2.2)).set (Zq (0 : Int) a0.2.2.1 a1).toNat ((gt (a0.2.1.set (Zq (0 : Int) a0.2.2.1 a1).toNat ((gt a0.2.1 (Zq (0 : Int) a0.2.2.1 a1)).1, r3, (gt a0.2.1 (Zq (0 : Int) a0.2.2.1 a1)).2.2.1, (gt a0.2.1 (Zq (0 : Int) a0.2.2.1 a1)).2.2.2)) (Zq (0 : Int) a0.2.2.1 a1)).1, (gt (a0.2.1.set (Zq (0 : Int) a0.2.2.1 a1).toNat ((gt a0.2.1 (Zq (0 : Int) a0.2.2.1 a1)).1, r3, (gt a0.2.1 (Zq (0 : Int) a0.2.2.1 a1)).2.2.1, (gt a0.2.1 (Zq (0 : Int) a0.2.2.1 a1)).2.2.2)) (Zq (0 : Int) a0.2.2.1 a1)).2.1, true, (gt (a0.2.1.set (Zq (0 : Int) a0.2.2.1 a1).toNat ((gt a0.2.1 (Zq (0 : Int) a0.2.2.1 a1)).1, r3, (gt a0.2.1 (Zq (0 : Int) a0.2.2.1 a1)).2.2.1, (gt a0.2.1 (Zq (0 : Int) a0.2.2.1 a1)).2.2.2)) (Zq (0 : Int) a0.2.2.1 a1)).2.2.2)) A2 c_2, X51 b2 a0.1.1 a0.1.2.1 A1 c_1 a0.1.2.2.1 a0.1.2.2.2, O5 a0.1.2.1 A1 c_1, Yb b1 (.pointer (some ⟨b2, 0, none⟩)) ((a0.2.1.set (Zq (0 : Int) a0.2.2.1 a1).toNat ((gt a0.2.1 (Zq (0 : Int) a0.2.2.1 a1)).1, r3, (gt a0.2.1 (Zq (0 : Int) a0.2.2.1 a1)).2.2.1, (gt a0.2.1 (Zq (0 : Int) a0.2.2.1 a1)).2.2.2)).set (Zq (0 : Int) a0.2.2.1 a1).toNat ((gt (a0.2.1.set (Zq (0 : Int) a0.2.2.1 a1).toNat ((gt a0.2.1 (Zq (0 : Int) a0.2.2.1 a1)).1, r3, (gt a0.2.1 (Zq (0 : Int) a0.2.2.1 a1)).2.2.1, (gt a0.2.1 (Zq (0 : Int) a0.2.2.1 a1)).2.2.2)) (Zq (0 : Int) a0.2.2.1 a1)).1, (gt (a0.2.1.set (Zq (0 : Int) a0.2.2.1 a1).toNat ((gt a0.2.1 (Zq (0 : Int) a0.2.2.1 a1)).1, r3, (gt a0.2.1 (Zq (0 : Int) a0.2.2.1 a1)).2.2.1, (gt a0.2.1 (Zq (0 : Int) a0.2.2.1 a1)).2.2.2)) (Zq (0 : Int) a0.2.2.1 a1)).2.1, true, (gt (a0.2.1.set (Zq (0 : Int) a0.2.2.1 a1).toNat ((gt a0.2.1 (Zq (0 : Int) a0.2.2.1 a1)).1, r3, (gt a0.2.1 (Zq (0 : Int) a0.2.2.1 a1)).2.2.1, (gt a0.2.1 (Zq (0 : Int) a0.2.2.1 a1)).2.2.2)) (Zq (0 : Int) a0.2.2.1 a1)).2.2.2)) A2 c_2 (.map (some b3)) a0.2.2.2.1 A3 c_3 (.pointer (some ⟨b4, 0, none⟩)), Z8 .u32 (Value.int .i64) b3 a0.2.2.1, O3 a0.2.2.2.1 A3 c_3, Z4 b4 a0.2.2.2.2.1 A4 c_4 a0.2.2.2.2.2, Z5 a0.2.2.2.2.1 A4 c_4] _ _ := h6.retell (by simp only [List.length_set, List.length_nil, Ya, Z5, O3, O5, Yb, Z4, X51] <;> rfl)
 refine Zn [] rfl ?_
 refine J.seq (Zb [6] ?_)
 refine J.ret ?_
 cases H
 exact ⟨_, _, _, Za, ⟨_, _, _, _, _, _, _, _, rfl, rfl⟩, Zc h6 [3, 1, 1, 0, 0, 0, 0, 0]⟩

def Q3.f (a0 : (Int × List (Int) × (Int × Int)) × (List (Int × List (Int) × Bool × Int)) × (List (Int × Int)) × List (Int) × ((List (Int × Int × Bool)) × Int)) (a1 : Int) : Option (Int × ((Int × List (Int) × (Int × Int)) × (List (Int × List (Int) × Bool × Int)) × (List (Int × Int)) × List (Int) × ((List (Int × Int × Bool)) × Int))) := (Q11.f a0).bind fun r1 => (if r1 = true then (some (1, a0)) else (if (!(Yn a0.2.2.1 a1)) = true then (some (0, a0)) else (if 0 ≤ (Zq (0 : Int) a0.2.2.1 a1) ∧ (Zq (0 : Int) a0.2.2.1 a1) < (a0.2.1.length : Int) then (if (decide (0 < ((gt a0.2.1 (Zq (0 : Int) a0.2.2.1 a1)).2.2.2))) = true then (some (8, a0)) else ((Q10.f a0 (Zq (0 : Int) a0.2.2.1 a1)).bind fun r2 => (some (0, r2)))) else none)))
theorem Q3.spec {a0 : (Int × List (Int) × (Int × Int)) × (List (Int × List (Int) × Bool × Int)) × (List (Int × Int)) × List (Int) × ((List (Int × Int × Bool)) × Int)} {a1 : Int} {b1 : Nat} {b2 : Nat} {b3 : Nat} {b4 : Nat} {A1 : Option Addr} {c_1 : Nat} {A2 : Option Addr} {c_2 : Nat} {A3 : Option Addr} {c_3 : Nat} {A4 : Option Addr} {c_4 : Nat} {r : Int × ((Int × List (Int) × (Int × Int)) × (List (Int × List (Int) × Bool × Int)) × (List (Int × Int)) × List (Int) × ((List (Int × Int × Bool)) × Int))} (H : Q3.f a0 a1 = some r) :
  Spec Try.prog 60 [.pointer (some ⟨b1, 0, none⟩), .int .u32 a1] [Yb b1 (.pointer (some ⟨b2, 0, none⟩)) a0.2.1 A2 c_2 (.map (some b3)) a0.2.2.2.1 A3 c_3 (.pointer (some ⟨b4, 0, none⟩)), X51 b2 a0.1.1 a0.1.2.1 A1 c_1 a0.1.2.2.1 a0.1.2.2.2, O5 a0.1.2.1 A1 c_1, Ya a0.2.1 A2 c_2, Z8 .u32 (Value.int .i64) b3 a0.2.2.1, O3 a0.2.2.2.1 A3 c_3, Z4 b4 a0.2.2.2.2.1 A4 c_4 a0.2.2.2.2.2, Z5 a0.2.2.2.2.1 A4 c_4] [] (fun v l => ∃ (A_0 : Option Addr) (c_0 : Nat) (A_1 : Option Addr) (c_1 : Nat) (A_2 : Option Addr) (c_2 : Nat) (A_3 : Option Addr) (c_3 : Nat), v = .int .i64 r.1 ∧ l = [Yb b1 (.pointer (some ⟨b2, 0, none⟩)) r.2.2.1 A_1 c_1 (.map (some b3)) r.2.2.2.2.1 A_2 c_2 (.pointer (some ⟨b4, 0, none⟩)), X51 b2 r.2.1.1 r.2.1.2.1 A_0 c_0 r.2.1.2.2.1 r.2.1.2.2.2, O5 r.2.1.2.1 A_0 c_0, Ya r.2.2.1 A_1 c_1, Z8 .u32 (Value.int .i64) b3 r.2.2.2.1, O3 r.2.2.2.2.1 A_2 c_2, Z4 b4 r.2.2.2.2.2.1 A_3 c_3 r.2.2.2.2.2.2, Z5 r.2.2.2.2.2.1 A_3 c_3]) := by
 refine Zs Try.func60 fun w0 F0 h0 => ?_
 unfold Q3.f at H
 refine J.seq (Zb [0, 1] ?_)
 refine J.seq (J.seq (J.region ?_))
 refine Zm 1 ?_
 obtain ⟨r1, q1, H⟩ := Zp H
 refine Zh (Zi [0, 0, 0, 0, 0, 0, 0, 0] (Q11.spec q1) h0 rfl Zt) ?_
 rintro _ w1 ⟨_, ⟨rfl, rfl⟩, h1⟩
 replace h1 := nf h1
 refine Zn [0, 1, 8] rfl ?_
 refine jIf H (fun c1 H => ?_) fun c1 H => ?_
 ·refine J.seq (Zb [4] ?_)
  refine J.ret ?_
  cases H
  exact ⟨_, _, _, Za, ⟨_, _, _, _, _, _, _, _, rfl, rfl⟩, Zc h1 [0, 0, 0, 0, 0, 0, 0, 0]⟩
 refine J.skip (J.seq (J.region ?_))
 refine Zm 3 ?_
 refine Zk (Zd 0 h1.wht) ?_
 refine Zm 1 ?_
 refine Zk (Xd (0 : Int) 4 h1.wht) ?_
 refine Zn [0, 5, 6] rfl ?_
 refine J.seq (J.block (J.seq (Zb [0, 5, 18] ?_)))
 refine jIf H (fun c2 H => ?_) fun c2 H => ?_
 ·refine J.seq (Zb [4] ?_)
  refine J.ret ?_
  cases H
  exact ⟨_, _, _, Za, ⟨_, _, _, _, _, _, _, _, rfl, rfl⟩, Zc h1 [0, 0, 0, 0, 0, 0, 0, 0]⟩
 refine J.seq (J.region ?_)
 refine Zm 3 ?_
 refine Zk (Zd 0 h1.wht) ?_
 refine Zm 1 ?_
 obtain ⟨⟨p1, p2⟩, H⟩ := Zo H
 have e1 := Z3 h1.wh (gO 3) p1 p2
 refine Zk (Zf e1 p1 p2) ?_
 refine Zm 1 ?_
 refine Zk (Ye 3 h1.wht (gO 3) p1 p2) ?_
 refine Zn [0, 5, 21] rfl ?_
 refine jIf H (fun c3 H => ?_) fun c3 H => ?_
 ·refine J.seq (Zb [4] ?_)
  refine J.ret ?_
  cases H
  exact ⟨_, _, _, Za, ⟨_, _, _, _, _, _, _, _, rfl, rfl⟩, Zc h1 [0, 0, 0, 0, 0, 0, 0, 0]⟩
 refine J.skip (J.seq (J.region ?_))
 refine Zm 2 ?_
 obtain ⟨r2, q2, H⟩ := Zp H
 refine Zh (Zi [0, 0, 0, 0, 0, 0, 0, 0] (Q10.spec q2) h1 rfl Zt) ?_
 rintro _ w2 ⟨_, ⟨A5, c_5, A6, c_6, A7, c_7, A8, c_8, rfl, rfl⟩, h2⟩
 replace h2 := nf h2
 refine Zn [] rfl ?_
 refine J.seq (Zb [4] ?_)
 refine J.ret ?_
 cases H
 exact ⟨_, _, _, Za, ⟨_, _, _, _, _, _, _, _, rfl, rfl⟩, Zc h2 [0, 0, 0, 0, 0, 0, 0, 0]⟩

def tb0 : List UInt8 := [0, 1, 2, 2, 3, 3, 3, 3, 4, 4, 4, 4, 4, 4, 4, 4, 5, 5, 5, 5, 5, 5, 5, 5, 5, 5, 5, 5, 5, 5, 5, 5, 6, 6, 6, 6, 6, 6, 6, 6, 6, 6, 6, 6, 6, 6, 6, 6, 6, 6, 6, 6, 6, 6, 6, 6, 6, 6, 6, 6, 6, 6, 6, 6, 7, 7, 7, 7, 7, 7, 7, 7, 7, 7, 7, 7, 7, 7, 7, 7, 7, 7, 7, 7, 7, 7, 7, 7, 7, 7, 7, 7, 7, 7, 7, 7, 7, 7, 7, 7, 7, 7, 7, 7, 7, 7, 7, 7, 7, 7, 7, 7, 7, 7, 7, 7, 7, 7, 7, 7, 7, 7, 7, 7, 7, 7, 7, 7, 8, 8, 8, 8, 8, 8, 8, 8, 8, 8, 8, 8, 8, 8, 8, 8, 8, 8, 8, 8, 8, 8, 8, 8, 8, 8, 8, 8, 8, 8, 8, 8, 8, 8, 8, 8, 8, 8, 8, 8, 8, 8, 8, 8, 8, 8, 8, 8, 8, 8, 8, 8, 8, 8, 8, 8, 8, 8, 8, 8, 8, 8, 8, 8, 8, 8, 8, 8, 8, 8, 8, 8, 8, 8, 8, 8, 8, 8, 8, 8, 8, 8, 8, 8, 8, 8, 8, 8, 8, 8, 8, 8, 8, 8, 8, 8, 8, 8, 8, 8, 8, 8, 8, 8, 8, 8, 8, 8, 8, 8, 8, 8, 8, 8, 8, 8, 8, 8, 8, 8, 8, 8, 8, 8, 8, 8, 8, 8]
def Q1.f (a0 : Int) : Option (Int) := if (decide (4294967296 ≤ a0)) = true then (if (decide (65536 ≤ (Int.fdiv a0 (2 ^ 32)))) = true then (if (decide (256 ≤ (Int.fdiv (Int.fdiv a0 (2 ^ 32)) (2 ^ 16)))) = true then (if 0 ≤ (IntKind.u8.wrap ((Int.fdiv (Int.fdiv (Int.fdiv a0 (2 ^ 32)) (2 ^ 16)) (2 ^ 8)))) ∧ (IntKind.u8.wrap ((Int.fdiv (Int.fdiv (Int.fdiv a0 (2 ^ 32)) (2 ^ 16)) (2 ^ 8)))) < (tb0.length : Int) then (some (w64 (56 + (w64 ((gtb tb0 (IntKind.u8.wrap ((Int.fdiv (Int.fdiv (Int.fdiv a0 (2 ^ 32)) (2 ^ 16)) (2 ^ 8)))))))))) else none) else (if 0 ≤ (IntKind.u8.wrap ((Int.fdiv (Int.fdiv a0 (2 ^ 32)) (2 ^ 16)))) ∧ (IntKind.u8.wrap ((Int.fdiv (Int.fdiv a0 (2 ^ 32)) (2 ^ 16)))) < (tb0.length : Int) then (some (w64 (48 + (w64 ((gtb tb0 (IntKind.u8.wrap ((Int.fdiv (Int.fdiv a0 (2 ^ 32)) (2 ^ 16)))))))))) else none)) else (if (decide (256 ≤ (Int.fdiv a0 (2 ^ 32)))) = true then (if 0 ≤ (IntKind.u8.wrap ((Int.fdiv (Int.fdiv a0 (2 ^ 32)) (2 ^ 8)))) ∧ (IntKind.u8.wrap ((Int.fdiv (Int.fdiv a0 (2 ^ 32)) (2 ^ 8)))) < (tb0.length : Int) then (some (w64 (40 + (w64 ((gtb tb0 (IntKind.u8.wrap ((Int.fdiv (Int.fdiv a0 (2 ^ 32)) (2 ^ 8)))))))))) else none) else (if 0 ≤ (IntKind.u8.wrap ((Int.fdiv a0 (2 ^ 32)))) ∧ (IntKind.u8.wrap ((Int.fdiv a0 (2 ^ 32)))) < (tb0.length : Int) then (some (w64 (32 + (w64 ((gtb tb0 (IntKind.u8.wrap ((Int.fdiv a0 (2 ^ 32)))))))))) else none))) else (if (decide (65536 ≤ a0)) = true then (if (decide (256 ≤ (Int.fdiv a0 (2 ^ 16)))) = true then (if 0 ≤ (IntKind.u8.wrap ((Int.fdiv (Int.fdiv a0 (2 ^ 16)) (2 ^ 8)))) ∧ (IntKind.u8.wrap ((Int.fdiv (Int.fdiv a0 (2 ^ 16)) (2 ^ 8)))) < (tb0.length : Int) then (some (w64 (24 + (w64 ((gtb tb0 (IntKind.u8.wrap ((Int.fdiv (Int.fdiv a0 (2 ^ 16)) (2 ^ 8)))))))))) else none) else (if 0 ≤ (IntKind.u8.wrap ((Int.fdiv a0 (2 ^ 16)))) ∧ (IntKind.u8.wrap ((Int.fdiv a0 (2 ^ 16)))) < (tb0.length : Int) then (some (w64 (16 + (w64 ((gtb tb0 (IntKind.u8.wrap ((Int.fdiv a0 (2 ^ 16)))))))))) else none)) else (if (decide (256 ≤ a0)) = true then (if 0 ≤ (IntKind.u8.wrap ((Int.fdiv a0 (2 ^ 8)))) ∧ (IntKind.u8.wrap ((Int.fdiv a0 (2 ^ 8)))) < (tb0.length : Int) then (some (w64 (8 + (w64 ((gtb tb0 (IntKind.u8.wrap ((Int.fdiv a0 (2 ^ 8)))))))))) else none) else (if 0 ≤ (IntKind.u8.wrap (a0)) ∧ (IntKind.u8.wrap (a0)) < (tb0.length : Int) then (some (w64 (0 + (w64 ((gtb tb0 (IntKind.u8.wrap (a0)))))))) else none)))
theorem Q1.spec {a0 : Int}  {r : Int} (H : Q1.f a0 = some r) :
  Spec Try.prog 178 [.int .u64 a0] [] [] (fun v l => v = .int .i64 r ∧ l = []) := by
 refine Zs Try.func178 fun w0 F0 h0 => ?_
 unfold Q1.f at H
 refine J.seq (Zb [0, 2] ?_)
 refine J.seq (J.seq (Zb [0, 2, 4] ?_))
 refine jIf H (fun c1 H => ?_) fun c1 H => ?_
 ·refine J.seq (Zb [0] ?_)
  refine Zb [0, 2] ?_
  refine J.seq (J.seq (Zb [0, 2, 8] ?_))
  refine jIf H (fun c2 H => ?_) fun c2 H => ?_
  ·refine J.seq (Zb [0, 2] ?_)
   refine Zb [0, 2] ?_
   refine J.seq (J.seq (Zb [0, 2, 14] ?_))
   refine jIf H (fun c3 H => ?_) fun c3 H => ?_
   ·refine J.seq (Zb [0, 2] ?_)
    refine Zb [0, 2] ?_
    refine J.seq (J.region ?_)
    refine Zm 3 ?_
    obtain ⟨⟨p1, p2⟩, H⟩ := Zo H
    refine Zk (Xt p1 p2) ?_
    refine Zn [2] rfl ?_
    refine J.ret ?_
    cases H
    exact ⟨_, _, _, Za, ⟨rfl, rfl⟩, Zc h0 []⟩
   refine J.skip (J.seq (J.region ?_))
   refine Zm 3 ?_
   obtain ⟨⟨p3, p4⟩, H⟩ := Zo H
   refine Zk (Xt p3 p4) ?_
   refine Zn [2] rfl ?_
   refine J.ret ?_
   cases H
   exact ⟨_, _, _, Za, ⟨rfl, rfl⟩, Zc h0 []⟩
  refine J.skip (J.seq (J.seq (Zb [0, 2, 14] ?_)))
  refine jIf H (fun c4 H => ?_) fun c4 H => ?_
  ·refine J.seq (Zb [0, 2] ?_)
   refine Zb [0, 2] ?_
   refine J.seq (J.region ?_)
   refine Zm 3 ?_
   obtain ⟨⟨p5, p6⟩, H⟩ := Zo H
   refine Zk (Xt p5 p6) ?_
   refine Zn [2] rfl ?_
   refine J.ret ?_
   cases H
   exact ⟨_, _, _, Za, ⟨rfl, rfl⟩, Zc h0 []⟩
  refine J.skip (J.seq (J.region ?_))
  refine Zm 3 ?_
  obtain ⟨⟨p7, p8⟩, H⟩ := Zo H
  refine Zk (Xt p7 p8) ?_
  refine Zn [2] rfl ?_
  refine J.ret ?_
  cases H
  exact ⟨_, _, _, Za, ⟨rfl, rfl⟩, Zc h0 []⟩
 refine J.skip (J.seq (J.seq (Zb [0, 2, 8] ?_)))
 refine jIf H (fun c5 H => ?_) fun c5 H => ?_
 ·refine J.seq (Zb [0, 2] ?_)
  refine Zb [0, 2] ?_
  refine J.seq (J.seq (Zb [0, 2, 14] ?_))
  refine jIf H (fun c6 H => ?_) fun c6 H => ?_
  ·refine J.seq (Zb [0, 2] ?_)
   refine Zb [0, 2] ?_
   refine J.seq (J.region ?_)
   refine Zm 3 ?_
   obtain ⟨⟨p9, p10⟩, H⟩ := Zo H
   refine Zk (Xt p9 p10) ?_
   refine Zn [2] rfl ?_
   refine J.ret ?_
   cases H
   exact ⟨_, _, _, Za, ⟨rfl, rfl⟩, Zc h0 []⟩
  refine J.skip (J.seq (J.region ?_))
  refine Zm 3 ?_
  obtain ⟨⟨p11, p12⟩, H⟩ := Zo H
  refine Zk (Xt p11 p12) ?_
  refine Zn [2] rfl ?_
  refine J.ret ?_
  cases H
  exact ⟨_, _, _, Za, ⟨rfl, rfl⟩, Zc h0 []⟩
 refine J.skip (J.seq (J.seq (Zb [0, 2, 14] ?_)))
 refine jIf H (fun c7 H => ?_) fun c7 H => ?_
 ·refine J.seq (Zb [0, 2] ?_)
  refine Zb [0, 2] ?_
  refine J.seq (J.region ?_)
  refine Zm 3 ?_
  obtain ⟨⟨p13, p14⟩, H⟩ := Zo H
  refine Zk (Xt p13 p14) ?_
  refine Zn [2] rfl ?_
  refine J.ret ?_
  cases H
  exact ⟨_, _, _, Za, ⟨rfl, rfl⟩, Zc h0 []⟩
 refine J.skip (J.seq (J.region ?_))
 refine Zm 3 ?_
 obtain ⟨⟨p15, p16⟩, H⟩ := Zo H
 refine Zk (Xt p15 p16) ?_
 refine Zn [2] rfl ?_
 refine J.ret ?_
 cases H
 exact ⟨_, _, _, Za, ⟨rfl, rfl⟩, Zc h0 []⟩

def Q0.f (a0 : Int) : Option (Int) := (Q1.f a0).bind fun r1 => (some r1)
theorem Q0.spec {a0 : Int}  {r : Int} (H : Q0.f a0 = some r) :
  Spec Try.prog 165 [.int .u64 a0] [] [] (fun v l => v = .int .i64 r ∧ l = []) := by
 refine Zs Try.func165 fun w0 F0 h0 => ?_
 unfold Q0.f at H
 refine J.seq (Zb [0] ?_)
 refine J.seq (Zz ?_)
 refine J.skip (J.seq (J.region ?_))
 refine Zm 1 ?_
 obtain ⟨r1, q1, H⟩ := Zp H
 refine Zh (Zi [] (Q1.spec q1) h0 rfl Zt) ?_
 rintro _ w1 ⟨_, ⟨rfl, rfl⟩, h1⟩
 replace h1 := nf h1
 refine Zn [2] rfl ?_
 refine J.ret ?_
 cases H
 exact ⟨_, _, _, Za, ⟨rfl, rfl⟩, Zc h1 []⟩

def Q24.f (a0 : Int) : Option (Bool) := some (!decide (a0 = a0))
theorem Q24.spec {a0 : Int}  {r : Bool} (H : Q24.f a0 = some r) :
  Spec Try.prog 185 [.int .u32 a0] [] [] (fun v l => v = .bool r ∧ l = []) := by
 refine Zs Try.func185 fun w0 F0 h0 => ?_
 unfold Q24.f at H
 refine J.seq (Zb [0] ?_)
 refine J.seq (Zb [2] ?_)
 refine J.ret ?_
 cases H
 exact ⟨_, _, _, Za, ⟨rfl, rfl⟩, Zc h0 []⟩

def Q23.f (a0 : Int) (a1 : Int) : Option (Bool) := (Q24.f a0).bind fun r1 => (if r1 = true then ((Q24.f a1).bind fun r2 => (if (!r2) = true then (some true) else (some (decide (a0 < a1))))) else (some (decide (a0 < a1))))
theorem Q23.spec {a0 : Int} {a1 : Int}  {r : Bool} (H : Q23.f a0 a1 = some r) :
  Spec Try.prog 174 [.int .u32 a0, .int .u32 a1] [] [] (fun v l => v = .bool r ∧ l = []) := by
 refine Zs Try.func174 fun w0 F0 h0 => ?_
 unfold Q23.f at H
 refine J.seq (Zb [0, 1] ?_)
 refine J.seq (J.region ?_)
 refine Zm 1 ?_
 obtain ⟨r1, q1, H⟩ := Zp H
 refine Zh (Zi [] (Q24.spec q1) h0 rfl Zt) ?_
 rintro _ w1 ⟨_, ⟨rfl, rfl⟩, h1⟩
 replace h1 := nf h1
 refine Zm 1 ?_
 refine Y3 7 H (fun c1 H => ?_) fun c1 H => ?_
 ·refine Zm 1 ?_
  obtain ⟨r2, q2, H⟩ := Zp H
  refine Zh (Zi [] (Q24.spec q2) h1 rfl Zt) ?_
  rintro _ w2 ⟨_, ⟨rfl, rfl⟩, h2⟩
  replace h2 := nf h2
  refine Zm 3 ?_
  refine Y3 12 H (fun c2 H => ?_) fun c2 H => ?_
  ·refine Zn [4] rfl ?_
   refine J.ret ?_
   cases H
   exact ⟨_, _, _, Za, ⟨rfl, rfl⟩, Zc h2 []⟩
  refine Zn [4] rfl ?_
  refine J.ret ?_
  cases H
  exact ⟨_, _, _, Za, ⟨rfl, rfl⟩, Zc h2 []⟩
 refine Zn [4] rfl ?_
 refine J.ret ?_
 cases H
 exact ⟨_, _, _, Za, ⟨rfl, rfl⟩, Zc h1 []⟩

mutual
def Q39.l0 : Nat → (Int) → (Int) → (List (Int)) → (Int) → Option (List (Int))
 | 0, _, _, _, _ => none
 | k + 1, a1, a2, x1, x2 => if (decide (x2 < a2)) = true then (Q39.l1 k a1 a2 x2 x1 x2) else (some x1)
def Q39.l1 : Nat → (Int) → (Int) → (Int) → (List (Int)) → (Int) → Option (List (Int))
 | 0, _, _, _, _, _ => none
 | k + 1, a1, a2, x2, x3, x4 => if (decide (a1 < x4)) = true then (if 0 ≤ x4 ∧ x4 < (x3.length : Int) then (if 0 ≤ (w64 (x4 - 1)) ∧ (w64 (x4 - 1)) < (x3.length : Int) then ((Q23.f (gt x3 x4) (gt x3 (w64 (x4 - 1)))).bind fun r1 => (if r1 = true then (Q39.l1 k a1 a2 x2 ((x3.set x4.toNat (gt x3 (w64 (x4 - 1)))).set (w64 (x4 - 1)).toNat (gt x3 x4)) (w64 (x4 - 1))) else (Q39.l0 k a1 a2 x3 (w64 (x2 + 1))))) else none) else none) else (Q39.l0 k a1 a2 x3 (w64 (x2 + 1)))
end
def Q39.f (k : Nat) (a0 : List (Int)) (a1 : Int) (a2 : Int) : Option (List (Int)) := Q39.l0 k a1 a2 a0 (w64 (a1 + 1))
theorem Q39.spec {k : Nat} {a0 : List (Int)} {a1 : Int} {a2 : Int} {A1 : Option Addr} {c_1 : Nat} {r : List (Int)} (H : Q39.f k a0 a1 a2 = some r) :
  Spec Try.prog 168 [.slice A1 a0.length c_1, .int .i64 a1, .int .i64 a2] [O23 a0 A1 c_1] [] (fun v l => v = .tuple #[] ∧ l = [O23 r A1 c_1] ∧ r.length = a0.length) := by
 refine Zs Try.func168 fun w0 F0 h0 => ?_
 unfold Q39.f at H
 refine J.seq (Zb [0, 1, 2, 6] ?_)
 refine J.block ?_
 have h17 := (sOR h0 [0] [])
 refine J.loop (fun kk env w => ∃ (x1 : List (Int)) (x2 : Int), env = [(0, .slice A1 x1.length c_1), (1, .int .i64 a1), (2, .int .i64 a2), (6, .int .i64 x2)] ∧ St w0 F0 [O23 x1 A1 c_1] [] w ∧ Q39.l0 kk a1 a2 x1 x2 = some r ∧ x1.length = a0.length) (k := k) ⟨a0, (w64 (a1 + 1)), rfl, h17, H, (rfl : a0.length = a0.length)⟩ ?_
 rintro k1 env w1 ⟨x1, x2, rfl, h1, H, e1⟩
 rcases k1 with _ | k1
 ·exact z0 H
 rw [Q39.l0] at H
 refine J.seq (J.seq (Zb [0, 1, 2, 6, 12] ?_))
 refine jIf H (fun c1 H => ?_) fun c1 H => ?_
 ·refine J.skip (J.seq (J.block (J.seq (Zb [0, 1, 2, 6, 7] ?_))))
  refine J.block ?_
  have h16 := (sOR h1 [0] [])
  refine J.loop (fun kk env w => ∃ (x3 : List (Int)) (x4 : Int), env = [(0, .slice A1 x3.length c_1), (1, .int .i64 a1), (2, .int .i64 a2), (6, .int .i64 x2), (7, .int .i64 x4)] ∧ St w0 F0 [O23 x3 A1 c_1] [] w ∧ Q39.l1 kk a1 a2 x2 x3 x4 = some r ∧ kk ≤ k1 ∧ x3.length = a0.length) (k := k1) ⟨x1, x2, rfl, h16, H, Nat.le_refl _, e1⟩ ?_
  rintro k2 env w2 ⟨x3, x4, rfl, h2, H, hk2, e2⟩
  rcases k2 with _ | k2
  ·exact z0 H
  rw [Q39.l1] at H
  refine J.seq (J.seq ?_)
  refine Zr h2 ?_
  have h3 := h2.drew
  refine Zv [0, 1, 2, 3] ?_
  refine Xz 19 H (fun c2 H => ?_) fun c2 H => ?_
  ·refine Zv [4, 5, 8, 9, 10] ?_
   obtain ⟨⟨p1, p2⟩, H⟩ := Zo H
   have e3 := Z3 h3.wh (gO 0) p1 p2
   refine Ze 6 rfl (Zf e3 p1 p2) ?_
   refine Ze 7 rfl (Zg 0 wI (gO 0) p1 p2) ?_
   obtain ⟨⟨p3, p4⟩, H⟩ := Zo H
   refine Ze 11 rfl (Zf e3 p3 p4) ?_
   refine Ze 12 rfl (Zg 0 wI (gO 0) p3 p4) ?_
   obtain ⟨r1, q1, H⟩ := Zp H
   refine Zl 13 rfl (Zi [] (Q23.spec q1) h3 rfl Zt) ?_
   rintro _ w3 ⟨_, ⟨rfl, rfl⟩, h4⟩
   replace h4 := nf h4
   refine ⟨⟨[], h4⟩, ?_⟩
   refine Zv [14] ?_
   refine Zy [0, 1, 2, 6, 7, 30] ?_
   refine jIf H (fun c3 H => ?_) fun c3 H => ?_
   ·refine J.skip (J.seq (J.block ?_))
    refine J.mid (fun env w => env = [(0, .slice A1 ((x3.set x4.toNat (gt x3 (w64 (x4 - 1)))).set (w64 (x4 - 1)).toNat (gt x3 x4)).length c_1), (1, .int .i64 a1), (2, .int .i64 a2), (6, .int .i64 x2), (7, .int .i64 x4)] ∧ St w0 F0 [O23 ((x3.set x4.toNat (gt x3 (w64 (x4 - 1)))).set (w64 (x4 - 1)).toNat (gt x3 x4)) A1 c_1] [] w) ?_ ?_
    ·refine Zr (Zc h4 []) ?_
     have h7 := h4.drew
     refine Zv [0, 1, 2, 3, 4, 5, 6, 7, 10, 11] ?_
     refine Ze 8 rfl (Zf e3 p3 p4) ?_
     refine Ze 12 rfl (Zf e3 p1 p2) ?_
     refine HJ.pick [9, 13] (i := 9) rfl rfl rfl rfl ?_
     refine (Z7 ?_ (Z7 ?_ Y4))
     ·refine Z1 9 rfl (OpT.ofq (Zg 0 h7.wht (gO 0) p3 p4)) ?_
      rintro _ _ ⟨rfl, rfl⟩
      replace h7 := nf h7
      refine ⟨⟨[_], h7⟩, ?_⟩
      refine Zl 13 rfl (OpT.ofq (Zg 0 h7.wht (gO 0) p1 p2)) ?_
      rintro _ _ ⟨rfl, rfl⟩
      replace h7 := nf h7
      refine ⟨⟨[_], h7⟩, ?_⟩
      refine Ze 14 rfl (Zf e3 p1 p2) ?_
      refine Zl 15 rfl (Zj 0 (.int .u32) x4 (gt x3 (w64 (x4 - 1))) 0 h7 rfl p1 p2) ?_
      intro _ w6 h8
      replace h8 := nf h8
      refine ⟨⟨[_], h8⟩, ?_⟩
      have e6 : (x3.set x4.toNat (gt x3 (w64 (x4 - 1)))).length = a0.length := List.length_set.trans e2
      refine Ze 16 rfl (Zf e3 p3 p4) ?_
      refine Zl 17 rfl (Zj 0 (.int .u32) (w64 (x4 - 1)) (gt x3 x4) 0 h8 rfl p3 (by simpa only [List.length_set] using p4)) ?_
      intro _ w7 h9
      replace h9 := nf h9
      refine ⟨⟨[_], h9⟩, ?_⟩
      have e7 : ((x3.set x4.toNat (gt x3 (w64 (x4 - 1)))).set (w64 (x4 - 1)).toNat (gt x3 x4)).length = a0.length := List.length_set.trans e6
      refine Zy [0, 1, 2, 6, 7] ?_
      exact Zw ⟨(by simp only [List.length_set, List.length_nil] <;> rfl), ((h9.only [0] rfl).rds [] rfl)⟩
     ·refine Z1 13 rfl (OpT.ofq (Zg 0 h7.wht (gO 0) p1 p2)) ?_
      rintro _ _ ⟨rfl, rfl⟩
      replace h7 := nf h7
      refine ⟨⟨[_], h7⟩, ?_⟩
      refine Zl 9 rfl (OpT.ofq (Zg 0 h7.wht (gO 0) p3 p4)) ?_
      rintro _ _ ⟨rfl, rfl⟩
      replace h7 := nf h7
      refine ⟨⟨[_], h7⟩, ?_⟩
      refine Ze 14 rfl (Zf e3 p1 p2) ?_
      refine Zl 15 rfl (Zj 0 (.int .u32) x4 (gt x3 (w64 (x4 - 1))) 0 h7 rfl p1 p2) ?_
      intro _ w8 h10
      replace h10 := nf h10
      refine ⟨⟨[_], h10⟩, ?_⟩
      have e8 : (x3.set x4.toNat (gt x3 (w64 (x4 - 1)))).length = a0.length := List.length_set.trans e2
      refine Ze 16 rfl (Zf e3 p3 p4) ?_
      refine Zl 17 rfl (Zj 0 (.int .u32) (w64 (x4 - 1)) (gt x3 x4) 0 h10 rfl p3 (by simpa only [List.length_set] using p4)) ?_
      intro _ w9 h11
      replace h11 := nf h11
      refine ⟨⟨[_], h11⟩, ?_⟩
      have e9 : ((x3.set x4.toNat (gt x3 (w64 (x4 - 1)))).set (w64 (x4 - 1)).toNat (gt x3 x4)).length = a0.length := List.length_set.trans e8
      refine Zy [0, 1, 2, 6, 7] ?_
      exact Zw ⟨(by simp only [List.length_set, List.length_nil] <;> rfl), ((h11.only [0] rfl).rds [] rfl)⟩
    rintro env w10 ⟨rfl, h12⟩
    have e10 : ((x3.set x4.toNat (gt x3 (w64 (x4 - 1)))).set (w64 (x4 - 1)).toNat (gt x3 x4)).length = a0.length := by first | (simp only [List.length_set]; done) | (simp only [List.length_set]; exact e2)
    refine Zb [0, 1, 2, 6, 7] ?_
    have h13 := (sOR h12 [0] [])
    exact ⟨k2, by omega, ((x3.set x4.toNat (gt x3 (w64 (x4 - 1)))).set (w64 (x4 - 1)).toNat (gt x3 x4)), (w64 (x4 - 1)), rfl, h13, H, by omega, e10⟩
   refine J.exit (Zb [0, 1, 2, 6] ?_)
   have h14 := (sOR h4 [0] [])
   exact ⟨k2, by omega, x3, (w64 (x2 + 1)), rfl, h14, H, e2⟩
  refine Zv [4, 5, 6, 7, 8, 9, 10, 11, 12, 13, 14] ?_
  refine Zy [0, 1, 2, 6, 7, 30] ?_
  refine Zz ?_
  refine J.exit (Zb [0, 1, 2, 6] ?_)
  have h15 := (sOR h3 [0] [])
  exact ⟨k2, by omega, x3, (w64 (x2 + 1)), rfl, h15, H, e2⟩
 refine J.exit ?_
 cases H
 exact ⟨_, _, _, Za, ⟨rfl, rfl, e1⟩, Zc h1 [0]⟩

def Q49.l0 : Nat → (Int) → (Int) → (List (Int)) → (Int) → Option (List (Int))
 | 0, _, _, _, _ => none
 | k + 1, a2, a3, x1, x2 => if (decide (a2 ≤ (w64 ((w64 (2 * x2)) + 1)))) = true then (some x1) else (if (decide ((w64 ((w64 ((w64 (2 * x2)) + 1)) + 1)) < a2)) = true then (if 0 ≤ (w64 (a3 + (w64 ((w64 (2 * x2)) + 1)))) ∧ (w64 (a3 + (w64 ((w64 (2 * x2)) + 1)))) < (x1.length : Int) then (if 0 ≤ (w64 ((w64 (a3 + (w64 ((w64 (2 * x2)) + 1)))) + 1)) ∧ (w64 ((w64 (a3 + (w64 ((w64 (2 * x2)) + 1)))) + 1)) < (x1.length : Int) then ((Q23.f (gt x1 (w64 (a3 + (w64 ((w64 (2 * x2)) + 1))))) (gt x1 (w64 ((w64 (a3 + (w64 ((w64 (2 * x2)) + 1)))) + 1)))).bind fun r1 => (if r1 = true then (if 0 ≤ (w64 (a3 + x2)) ∧ (w64 (a3 + x2)) < (x1.length : Int) then (if 0 ≤ (w64 (a3 + (w64 ((w64 ((w64 (2 * x2)) + 1)) + 1)))) ∧ (w64 (a3 + (w64 ((w64 ((w64 (2 * x2)) + 1)) + 1)))) < (x1.length : Int) then ((Q23.f (gt x1 (w64 (a3 + x2))) (gt x1 (w64 (a3 + (w64 ((w64 ((w64 (2 * x2)) + 1)) + 1)))))).bind fun r2 => (if (!r2) = true then (some x1) else (Q49.l0 k a2 a3 ((x1.set (w64 (a3 + x2)).toNat (gt x1 (w64 (a3 + (w64 ((w64 ((w64 (2 * x2)) + 1)) + 1)))))).set (w64 (a3 + (w64 ((w64 ((w64 (2 * x2)) + 1)) + 1)))).toNat (gt x1 (w64 (a3 + x2)))) (w64 ((w64 ((w64 (2 * x2)) + 1)) + 1))))) else none) else none) else (if 0 ≤ (w64 (a3 + x2)) ∧ (w64 (a3 + x2)) < (x1.length : Int) then ((Q23.f (gt x1 (w64 (a3 + x2))) (gt x1 (w64 (a3 + (w64 ((w64 (2 * x2)) + 1)))))).bind fun r3 => (if (!r3) = true then (some x1) else (Q49.l0 k a2 a3 ((x1.set (w64 (a3 + x2)).toNat (gt x1 (w64 (a3 + (w64 ((w64 (2 * x2)) + 1)))))).set (w64 (a3 + (w64 ((w64 (2 * x2)) + 1)))).toNat (gt x1 (w64 (a3 + x2)))) (w64 ((w64 (2 * x2)) + 1))))) else none))) else none) else none) else (if 0 ≤ (w64 (a3 + x2)) ∧ (w64 (a3 + x2)) < (x1.length : Int) then (if 0 ≤ (w64 (a3 + (w64 ((w64 (2 * x2)) + 1)))) ∧ (w64 (a3 + (w64 ((w64 (2 * x2)) + 1)))) < (x1.length : Int) then ((Q23.f (gt x1 (w64 (a3 + x2))) (gt x1 (w64 (a3 + (w64 ((w64 (2 * x2)) + 1)))))).bind fun r4 => (if (!r4) = true then (some x1) else (Q49.l0 k a2 a3 ((x1.set (w64 (a3 + x2)).toNat (gt x1 (w64 (a3 + (w64 ((w64 (2 * x2)) + 1)))))).set (w64 (a3 + (w64 ((w64 (2 * x2)) + 1)))).toNat (gt x1 (w64 (a3 + x2)))) (w64 ((w64 (2 * x2)) + 1))))) else none) else none))
def Q49.f (k : Nat) (a0 : List (Int)) (a1 : Int) (a2 : Int) (a3 : Int) : Option (List (Int)) := Q49.l0 k a2 a3 a0 a1
theorem Q49.spec {k : Nat} {a0 : List (Int)} {a1 : Int} {a2 : Int} {a3 : Int} {A1 : Option Addr} {c_1 : Nat} {r : List (Int)} (H : Q49.f k a0 a1 a2 a3 = some r) :
  Spec Try.prog 180 [.slice A1 a0.length c_1, .int .i64 a1, .int .i64 a2, .int .i64 a3] [O23 a0 A1 c_1] [] (fun v l => v = .tuple #[] ∧ l = [O23 r A1 c_1] ∧ r.length = a0.length) := by
 refine Zs Try.func180 fun w0 F0 h0 => ?_
 unfold Q49.f at H
 refine J.seq (Zb [0, 2, 3, 8] ?_)
 refine J.block ?_
 have h37 := (sOR h0 [0] [])
 refine J.loop (fun kk env w => ∃ (x1 : List (Int)) (x2 : Int), env = [(0, .slice A1 x1.length c_1), (2, .int .i64 a2), (3, .int .i64 a3), (8, .int .i64 x2)] ∧ St w0 F0 [O23 x1 A1 c_1] [] w ∧ Q49.l0 kk a2 a3 x1 x2 = some r ∧ x1.length = a0.length) (k := k) ⟨a0, a1, rfl, h37, H, (rfl : a0.length = a0.length)⟩ ?_
 rintro k1 env w1 ⟨x1, x2, rfl, h1, H, e1⟩
 rcases k1 with _ | k1
 ·exact z0 H
 rw [Q49.l0] at H
 refine J.block (J.seq (Zb [0, 2, 3, 8, 9] ?_))
 refine J.seq (J.seq (Zb [0, 2, 3, 8, 9, 16] ?_))
 refine jIf H (fun c1 H => ?_) fun c1 H => ?_
 ·refine J.exit ?_
  cases H
  exact ⟨_, _, _, Za, ⟨rfl, rfl, e1⟩, Zc h1 [0]⟩
 refine J.skip (J.seq (J.seq ?_))
 refine Zr h1 ?_
 have h2 := h1.drew
 refine Zv [0, 1, 2, 3, 4] ?_
 refine Xz 21 H (fun c2 H => ?_) fun c2 H => ?_
 ·refine Zv [5, 6, 7, 8, 11, 12, 13, 14, 15] ?_
  obtain ⟨⟨p1, p2⟩, H⟩ := Zo H
  have e2 := Z3 h2.wh (gO 0) p1 p2
  refine Ze 9 rfl (Zf e2 p1 p2) ?_
  refine Ze 10 rfl (Zg 0 wI (gO 0) p1 p2) ?_
  obtain ⟨⟨p3, p4⟩, H⟩ := Zo H
  refine Ze 16 rfl (Zf e2 p3 p4) ?_
  refine Ze 17 rfl (Zg 0 wI (gO 0) p3 p4) ?_
  obtain ⟨r1, q1, H⟩ := Zp H
  refine Zl 18 rfl (Zi [] (Q23.spec q1) h2 rfl Zt) ?_
  rintro _ w2 ⟨_, ⟨rfl, rfl⟩, h3⟩
  replace h3 := nf h3
  refine ⟨⟨[], h3⟩, ?_⟩
  refine Zv [19] ?_
  refine Zy [0, 2, 3, 8, 9, 36] ?_
  refine jIf H (fun c3 H => ?_) fun c3 H => ?_
  ·refine Zb [0, 2, 3, 8, 9] ?_
   refine J.seq (J.seq ?_)
   refine Zr h3 ?_
   have h4 := h3.drew
   refine Zv [0, 1, 2, 3, 6, 7, 8, 9] ?_
   obtain ⟨⟨p5, p6⟩, H⟩ := Zo H
   refine Ze 4 rfl (Zf e2 p5 p6) ?_
   refine Ze 5 rfl (Zg 0 wI (gO 0) p5 p6) ?_
   obtain ⟨⟨p7, p8⟩, H⟩ := Zo H
   refine Ze 10 rfl (Zf e2 p7 p8) ?_
   refine Ze 11 rfl (Zg 0 wI (gO 0) p7 p8) ?_
   obtain ⟨r2, q2, H⟩ := Zp H
   refine Zl 12 rfl (Zi [] (Q23.spec q2) h4 rfl Zt) ?_
   rintro _ w3 ⟨_, ⟨rfl, rfl⟩, h5⟩
   replace h5 := nf h5
   refine ⟨⟨[], h5⟩, ?_⟩
   refine Zv [13] ?_
   refine Zy [0, 2, 3, 8, 9, 52] ?_
   refine jIf H (fun c4 H => ?_) fun c4 H => ?_
   ·refine J.ret ?_
    cases H
    exact ⟨_, _, _, Za, ⟨rfl, rfl, e1⟩, Zc h5 [0]⟩
   refine J.skip (J.seq (J.midS (fun env w => env = [(0, .slice A1 ((x1.set (w64 (a3 + x2)).toNat (gt x1 (w64 (a3 + (w64 ((w64 ((w64 (2 * x2)) + 1)) + 1)))))).set (w64 (a3 + (w64 ((w64 ((w64 (2 * x2)) + 1)) + 1)))).toNat (gt x1 (w64 (a3 + x2)))).length c_1), (2, .int .i64 a2), (3, .int .i64 a3), (9, .int .i64 (w64 ((w64 ((w64 (2 * x2)) + 1)) + 1)))] ∧ St w0 F0 [O23 ((x1.set (w64 (a3 + x2)).toNat (gt x1 (w64 (a3 + (w64 ((w64 ((w64 (2 * x2)) + 1)) + 1)))))).set (w64 (a3 + (w64 ((w64 ((w64 (2 * x2)) + 1)) + 1)))).toNat (gt x1 (w64 (a3 + x2)))) A1 c_1] [] w) ?_ ?_))
   ·refine Zr (Zc h5 []) ?_
    have h8 := h5.drew
    refine Zv [0, 1, 2, 3, 4, 5, 6, 7, 8, 9, 10, 11, 14, 15, 16, 17] ?_
    refine Ze 12 rfl (Zf e2 p7 p8) ?_
    refine Ze 18 rfl (Zf e2 p5 p6) ?_
    refine HJ.pick [13, 19] (i := 13) rfl rfl rfl rfl ?_
    refine (Z7 ?_ (Z7 ?_ Y4))
    ·refine Z1 13 rfl (OpT.ofq (Zg 0 h8.wht (gO 0) p7 p8)) ?_
     rintro _ _ ⟨rfl, rfl⟩
     replace h8 := nf h8
     refine ⟨⟨[_], h8⟩, ?_⟩
     refine Zl 19 rfl (OpT.ofq (Zg 0 h8.wht (gO 0) p5 p6)) ?_
     rintro _ _ ⟨rfl, rfl⟩
     replace h8 := nf h8
     refine ⟨⟨[_], h8⟩, ?_⟩
     refine Ze 20 rfl (Zf e2 p5 p6) ?_
     refine Zl 21 rfl (Zj 0 (.int .u32) (w64 (a3 + x2)) (gt x1 (w64 (a3 + (w64 ((w64 ((w64 (2 * x2)) + 1)) + 1))))) 0 h8 rfl p5 p6) ?_
     intro _ w6 h9
     replace h9 := nf h9
     refine ⟨⟨[_], h9⟩, ?_⟩
     have e5 : (x1.set (w64 (a3 + x2)).toNat (gt x1 (w64 (a3 + (w64 ((w64 ((w64 (2 * x2)) + 1)) + 1)))))).length = a0.length := List.length_set.trans e1
     refine Ze 22 rfl (Zf e2 p7 p8) ?_
     refine Zl 23 rfl (Zj 0 (.int .u32) (w64 (a3 + (w64 ((w64 ((w64 (2 * x2)) + 1)) + 1)))) (gt x1 (w64 (a3 + x2))) 0 h9 rfl p7 (by simpa only [List.length_set] using p8)) ?_
     intro _ w7 h10
     replace h10 := nf h10
     refine ⟨⟨[_], h10⟩, ?_⟩
     have e6 : ((x1.set (w64 (a3 + x2)).toNat (gt x1 (w64 (a3 + (w64 ((w64 ((w64 (2 * x2)) + 1)) + 1)))))).set (w64 (a3 + (w64 ((w64 ((w64 (2 * x2)) + 1)) + 1)))).toNat (gt x1 (w64 (a3 + x2)))).length = a0.length := List.length_set.trans e5
     refine Zy [0, 2, 3, 9] ?_
     exact Zw ⟨(by simp only [List.length_set, List.length_nil] <;> rfl), ((h10.only [0] rfl).rds [] rfl)⟩
    ·refine Z1 19 rfl (OpT.ofq (Zg 0 h8.wht (gO 0) p5 p6)) ?_
     rintro _ _ ⟨rfl, rfl⟩
     replace h8 := nf h8
     refine ⟨⟨[_], h8⟩, ?_⟩
     refine Zl 13 rfl (OpT.ofq (Zg 0 h8.wht (gO 0) p7 p8)) ?_
     rintro _ _ ⟨rfl, rfl⟩
     replace h8 := nf h8
     refine ⟨⟨[_], h8⟩, ?_⟩
     refine Ze 20 rfl (Zf e2 p5 p6) ?_
     refine Zl 21 rfl (Zj 0 (.int .u32) (w64 (a3 + x2)) (gt x1 (w64 (a3 + (w64 ((w64 ((w64 (2 * x2)) + 1)) + 1))))) 0 h8 rfl p5 p6) ?_
     intro _ w8 h11
     replace h11 := nf h11
     refine ⟨⟨[_], h11⟩, ?_⟩
     have e7 : (x1.set (w64 (a3 + x2)).toNat (gt x1 (w64 (a3 + (w64 ((w64 ((w64 (2 * x2)) + 1)) + 1)))))).length = a0.length := List.length_set.trans e1
     refine Ze 22 rfl (Zf e2 p7 p8) ?_
     refine Zl 23 rfl (Zj 0 (.int .u32) (w64 (a3 + (w64 ((w64 ((w64 (2 * x2)) + 1)) + 1)))) (gt x1 (w64 (a3 + x2))) 0 h11 rfl p7 (by simpa only [List.length_set] using p8)) ?_
     intro _ w9 h12
     replace h12 := nf h12
     refine ⟨⟨[_], h12⟩, ?_⟩
     have e8 : ((x1.set (w64 (a3 + x2)).toNat (gt x1 (w64 (a3 + (w64 ((w64 ((w64 (2 * x2)) + 1)) + 1)))))).set (w64 (a3 + (w64 ((w64 ((w64 (2 * x2)) + 1)) + 1)))).toNat (gt x1 (w64 (a3 + x2)))).length = a0.length := List.length_set.trans e7
     refine Zy [0, 2, 3, 9] ?_
     exact Zw ⟨(by simp only [List.length_set, List.length_nil] <;> rfl), ((h12.only [0] rfl).rds [] rfl)⟩
   rintro env w10 ⟨rfl, h13⟩
   have e9 : ((x1.set (w64 (a3 + x2)).toNat (gt x1 (w64 (a3 + (w64 ((w64 ((w64 (2 * x2)) + 1)) + 1)))))).set (w64 (a3 + (w64 ((w64 ((w64 (2 * x2)) + 1)) + 1)))).toNat (gt x1 (w64 (a3 + x2)))).length = a0.length := by first | (simp only [List.length_set]; done) | (simp only [List.length_set]; exact e1)
   refine Zb [0, 2, 3, 8] ?_
   have h14 := (sOR h13 [0] [])
   exact ⟨k1, by omega, ((x1.set (w64 (a3 + x2)).toNat (gt x1 (w64 (a3 + (w64 ((w64 ((w64 (2 * x2)) + 1)) + 1)))))).set (w64 (a3 + (w64 ((w64 ((w64 (2 * x2)) + 1)) + 1)))).toNat (gt x1 (w64 (a3 + x2)))), (w64 ((w64 ((w64 (2 * x2)) + 1)) + 1)), rfl, h14, H, e9⟩
  refine J.skip (J.seq (J.seq ?_))
  refine Zr h3 ?_
  have h15 := h3.drew
  refine Zv [0, 1, 2, 3, 6, 7, 8, 9] ?_
  obtain ⟨⟨p9, p10⟩, H⟩ := Zo H
  refine Ze 4 rfl (Zf e2 p9 p10) ?_
  refine Ze 5 rfl (Zg 0 wI (gO 0) p9 p10) ?_
  refine Ze 10 rfl (Zf e2 p1 p2) ?_
  refine Ze 11 rfl (Zg 0 wI (gO 0) p1 p2) ?_
  obtain ⟨r3, q3, H⟩ := Zp H
  refine Zl 12 rfl (Zi [] (Q23.spec q3) h15 rfl Zt) ?_
  rintro _ w11 ⟨_, ⟨rfl, rfl⟩, h16⟩
  replace h16 := nf h16
  refine ⟨⟨[], h16⟩, ?_⟩
  refine Zv [13] ?_
  refine Zy [0, 2, 3, 8, 9, 52] ?_
  refine jIf H (fun c5 H => ?_) fun c5 H => ?_
  ·refine J.ret ?_
   cases H
   exact ⟨_, _, _, Za, ⟨rfl, rfl, e1⟩, Zc h16 [0]⟩
  refine J.skip (J.seq (J.midS (fun env w => env = [(0, .slice A1 ((x1.set (w64 (a3 + x2)).toNat (gt x1 (w64 (a3 + (w64 ((w64 (2 * x2)) + 1)))))).set (w64 (a3 + (w64 ((w64 (2 * x2)) + 1)))).toNat (gt x1 (w64 (a3 + x2)))).length c_1), (2, .int .i64 a2), (3, .int .i64 a3), (9, .int .i64 (w64 ((w64 (2 * x2)) + 1)))] ∧ St w0 F0 [O23 ((x1.set (w64 (a3 + x2)).toNat (gt x1 (w64 (a3 + (w64 ((w64 (2 * x2)) + 1)))))).set (w64 (a3 + (w64 ((w64 (2 * x2)) + 1)))).toNat (gt x1 (w64 (a3 + x2)))) A1 c_1] [] w) ?_ ?_))
  ·refine Zr (Zc h16 []) ?_
   have h19 := h16.drew
   refine Zv [0, 1, 2, 3, 4, 5, 6, 7, 8, 9, 10, 11, 14, 15, 16, 17] ?_
   refine Ze 12 rfl (Zf e2 p1 p2) ?_
   refine Ze 18 rfl (Zf e2 p9 p10) ?_
   refine HJ.pick [13, 19] (i := 13) rfl rfl rfl rfl ?_
   refine (Z7 ?_ (Z7 ?_ Y4))
   ·refine Z1 13 rfl (OpT.ofq (Zg 0 h19.wht (gO 0) p1 p2)) ?_
    rintro _ _ ⟨rfl, rfl⟩
    replace h19 := nf h19
    refine ⟨⟨[_], h19⟩, ?_⟩
    refine Zl 19 rfl (OpT.ofq (Zg 0 h19.wht (gO 0) p9 p10)) ?_
    rintro _ _ ⟨rfl, rfl⟩
    replace h19 := nf h19
    refine ⟨⟨[_], h19⟩, ?_⟩
    refine Ze 20 rfl (Zf e2 p9 p10) ?_
    refine Zl 21 rfl (Zj 0 (.int .u32) (w64 (a3 + x2)) (gt x1 (w64 (a3 + (w64 ((w64 (2 * x2)) + 1))))) 0 h19 rfl p9 p10) ?_
    intro _ w14 h20
    replace h20 := nf h20
    refine ⟨⟨[_], h20⟩, ?_⟩
    have e12 : (x1.set (w64 (a3 + x2)).toNat (gt x1 (w64 (a3 + (w64 ((w64 (2 * x2)) + 1)))))).length = a0.length := List.length_set.trans e1
    refine Ze 22 rfl (Zf e2 p1 p2) ?_
    refine Zl 23 rfl (Zj 0 (.int .u32) (w64 (a3 + (w64 ((w64 (2 * x2)) + 1)))) (gt x1 (w64 (a3 + x2))) 0 h20 rfl p1 (by simpa only [List.length_set] using p2)) ?_
    intro _ w15 h21
    replace h21 := nf h21
    refine ⟨⟨[_], h21⟩, ?_⟩
    have e13 : ((x1.set (w64 (a3 + x2)).toNat (gt x1 (w64 (a3 + (w64 ((w64 (2 * x2)) + 1)))))).set (w64 (a3 + (w64 ((w64 (2 * x2)) + 1)))).toNat (gt x1 (w64 (a3 + x2)))).length = a0.length := List.length_set.trans e12
    refine Zy [0, 2, 3, 9] ?_
    exact Zw ⟨(by simp only [List.length_set, List.length_nil] <;> rfl), ((h21.only [0] rfl).rds [] rfl)⟩
   ·refine Z1 19 rfl (OpT.ofq (Zg 0 h19.wht (gO 0) p9 p10)) ?_
    rintro _ _ ⟨rfl, rfl⟩
    replace h19 := nf h19
    refine ⟨⟨[_], h19⟩, ?_⟩
    refine Zl 13 rfl (OpT.ofq (Zg 0 h19.wht (gO 0) p1 p2)) ?_
    rintro _ _ ⟨rfl, rfl⟩
    replace h19 := nf h19
    refine ⟨⟨[_], h19⟩, ?_⟩
    refine Ze 20 rfl (Zf e2 p9 p10) ?_
    refine Zl 21 rfl (Zj 0 (.int .u32) (w64 (a3 + x2)) (gt x1 (w64 (a3 + (w64 ((w64 (2 * x2)) + 1))))) 0 h19 rfl p9 p10) ?_
    intro _ w16 h22
    replace h22 := nf h22
    refine ⟨⟨[_], h22⟩, ?_⟩
    have e14 : (x1.set (w64 (a3 + x2)).toNat (gt x1 (w64 (a3 + (w64 ((w64 (2 * x2)) + 1)))))).length = a0.length := List.length_set.trans e1
    refine Ze 22 rfl (Zf e2 p1 p2) ?_
    refine Zl 23 rfl (Zj 0 (.int .u32) (w64 (a3 + (w64 ((w64 (2 * x2)) + 1)))) (gt x1 (w64 (a3 + x2))) 0 h22 rfl p1 (by simpa only [List.length_set] using p2)) ?_
    intro _ w17 h23
    replace h23 := nf h23
    refine ⟨⟨[_], h23⟩, ?_⟩
    have e15 : ((x1.set (w64 (a3 + x2)).toNat (gt x1 (w64 (a3 + (w64 ((w64 (2 * x2)) + 1)))))).set (w64 (a3 + (w64 ((w64 (2 * x2)) + 1)))).toNat (gt x1 (w64 (a3 + x2)))).length = a0.length := List.length_set.trans e14
    refine Zy [0, 2, 3, 9] ?_
    exact Zw ⟨(by simp only [List.length_set, List.length_nil] <;> rfl), ((h23.only [0] rfl).rds [] rfl)⟩
  rintro env w18 ⟨rfl, h24⟩
  have e16 : ((x1.set (w64 (a3 + x2)).toNat (gt x1 (w64 (a3 + (w64 ((w64 (2 * x2)) + 1)))))).set (w64 (a3 + (w64 ((w64 (2 * x2)) + 1)))).toNat (gt x1 (w64 (a3 + x2)))).length = a0.length := by first | (simp only [List.length_set]; done) | (simp only [List.length_set]; exact e1)
  refine Zb [0, 2, 3, 8] ?_
  have h25 := (sOR h24 [0] [])
  exact ⟨k1, by omega, ((x1.set (w64 (a3 + x2)).toNat (gt x1 (w64 (a3 + (w64 ((w64 (2 * x2)) + 1)))))).set (w64 (a3 + (w64 ((w64 (2 * x2)) + 1)))).toNat (gt x1 (w64 (a3 + x2)))), (w64 ((w64 (2 * x2)) + 1)), rfl, h25, H, e16⟩
 refine Zv [5, 6, 7, 8, 9, 10, 11, 12, 13, 14, 15, 16, 17, 18, 19] ?_
 refine Zy [0, 2, 3, 8, 9, 36] ?_
 refine Zz ?_
 refine J.skip (J.seq (J.seq ?_))
 refine Zr h2 ?_
 have h26 := h2.drew
 refine Zv [0, 1, 2, 3, 6, 7, 8, 9] ?_
 obtain ⟨⟨p11, p12⟩, H⟩ := Zo H
 have e17 := Z3 h26.wh (gO 0) p11 p12
 refine Ze 4 rfl (Zf e17 p11 p12) ?_
 refine Ze 5 rfl (Zg 0 wI (gO 0) p11 p12) ?_
 obtain ⟨⟨p13, p14⟩, H⟩ := Zo H
 refine Ze 10 rfl (Zf e17 p13 p14) ?_
 refine Ze 11 rfl (Zg 0 wI (gO 0) p13 p14) ?_
 obtain ⟨r4, q4, H⟩ := Zp H
 refine Zl 12 rfl (Zi [] (Q23.spec q4) h26 rfl Zt) ?_
 rintro _ w19 ⟨_, ⟨rfl, rfl⟩, h27⟩
 replace h27 := nf h27
 refine ⟨⟨[], h27⟩, ?_⟩
 refine Zv [13] ?_
 refine Zy [0, 2, 3, 8, 9, 52] ?_
 refine jIf H (fun c6 H => ?_) fun c6 H => ?_
 ·refine J.ret ?_
  cases H
  exact ⟨_, _, _, Za, ⟨rfl, rfl, e1⟩, Zc h27 [0]⟩
 refine J.skip (J.seq (J.midS (fun env w => env = [(0, .slice A1 ((x1.set (w64 (a3 + x2)).toNat (gt x1 (w64 (a3 + (w64 ((w64 (2 * x2)) + 1)))))).set (w64 (a3 + (w64 ((w64 (2 * x2)) + 1)))).toNat (gt x1 (w64 (a3 + x2)))).length c_1), (2, .int .i64 a2), (3, .int .i64 a3), (9, .int .i64 (w64 ((w64 (2 * x2)) + 1)))] ∧ St w0 F0 [O23 ((x1.set (w64 (a3 + x2)).toNat (gt x1 (w64 (a3 + (w64 ((w64 (2 * x2)) + 1)))))).set (w64 (a3 + (w64 ((w64 (2 * x2)) + 1)))).toNat (gt x1 (w64 (a3 + x2)))) A1 c_1] [] w) ?_ ?_))
 ·refine Zr (Zc h27 []) ?_
  have h30 := h27.drew
  refine Zv [0, 1, 2, 3, 4, 5, 6, 7, 8, 9, 10, 11, 14, 15, 16, 17] ?_
  refine Ze 12 rfl (Zf e17 p13 p14) ?_
  refine Ze 18 rfl (Zf e17 p11 p12) ?_
  refine HJ.pick [13, 19] (i := 13) rfl rfl rfl rfl ?_
  refine (Z7 ?_ (Z7 ?_ Y4))
  ·refine Z1 13 rfl (OpT.ofq (Zg 0 h30.wht (gO 0) p13 p14)) ?_
   rintro _ _ ⟨rfl, rfl⟩
   replace h30 := nf h30
   refine ⟨⟨[_], h30⟩, ?_⟩
   refine Zl 19 rfl (OpT.ofq (Zg 0 h30.wht (gO 0) p11 p12)) ?_
   rintro _ _ ⟨rfl, rfl⟩
   replace h30 := nf h30
   refine ⟨⟨[_], h30⟩, ?_⟩
   refine Ze 20 rfl (Zf e17 p11 p12) ?_
   refine Zl 21 rfl (Zj 0 (.int .u32) (w64 (a3 + x2)) (gt x1 (w64 (a3 + (w64 ((w64 (2 * x2)) + 1))))) 0 h30 rfl p11 p12) ?_
   intro _ w22 h31
   replace h31 := nf h31
   refine ⟨⟨[_], h31⟩, ?_⟩
   have e20 : (x1.set (w64 (a3 + x2)).toNat (gt x1 (w64 (a3 + (w64 ((w64 (2 * x2)) + 1)))))).length = a0.length := List.length_set.trans e1
   refine Ze 22 rfl (Zf e17 p13 p14) ?_
   refine Zl 23 rfl (Zj 0 (.int .u32) (w64 (a3 + (w64 ((w64 (2 * x2)) + 1)))) (gt x1 (w64 (a3 + x2))) 0 h31 rfl p13 (by simpa only [List.length_set] using p14)) ?_
   intro _ w23 h32
   replace h32 := nf h32
   refine ⟨⟨[_], h32⟩, ?_⟩
   have e21 : ((x1.set (w64 (a3 + x2)).toNat (gt x1 (w64 (a3 + (w64 ((w64 (2 * x2)) + 1)))))).set (w64 (a3 + (w64 ((w64 (2 * x2)) + 1)))).toNat (gt x1 (w64 (a3 + x2)))).length = a0.length := List.length_set.trans e20
   refine Zy [0, 2, 3, 9] ?_
   exact Zw ⟨(by simp only [List.length_set, List.length_nil] <;> rfl), ((h32.only [0] rfl).rds [] rfl)⟩
  ·refine Z1 19 rfl (OpT.ofq (Zg 0 h30.wht (gO 0) p11 p12)) ?_
   rintro _ _ ⟨rfl, rfl⟩
   replace h30 := nf h30
   refine ⟨⟨[_], h30⟩, ?_⟩
   refine Zl 13 rfl (OpT.ofq (Zg 0 h30.wht (gO 0) p13 p14)) ?_
   rintro _ _ ⟨rfl, rfl⟩
   replace h30 := nf h30
   refine ⟨⟨[_], h30⟩, ?_⟩
   refine Ze 20 rfl (Zf e17 p11 p12) ?_
   refine Zl 21 rfl (Zj 0 (.int .u32) (w64 (a3 + x2)) (gt x1 (w64 (a3 + (w64 ((w64 (2 * x2)) + 1))))) 0 h30 rfl p11 p12) ?_
   intro _ w24 h33
   replace h33 := nf h33
   refine ⟨⟨[_], h33⟩, ?_⟩
   have e22 : (x1.set (w64 (a3 + x2)).toNat (gt x1 (w64 (a3 + (w64 ((w64 (2 * x2)) + 1)))))).length = a0.length := List.length_set.trans e1
   refine Ze 22 rfl (Zf e17 p13 p14) ?_
   refine Zl 23 rfl (Zj 0 (.int .u32) (w64 (a3 + (w64 ((w64 (2 * x2)) + 1)))) (gt x1 (w64 (a3 + x2))) 0 h33 rfl p13 (by simpa only [List.length_set] using p14)) ?_
   intro _ w25 h34
   replace h34 := nf h34
   refine ⟨⟨[_], h34⟩, ?_⟩
   have e23 : ((x1.set (w64 (a3 + x2)).toNat (gt x1 (w64 (a3 + (w64 ((w64 (2 * x2)) + 1)))))).set (w64 (a3 + (w64 ((w64 (2 * x2)) + 1)))).toNat (gt x1 (w64 (a3 + x2)))).length = a0.length := List.length_set.trans e22
   refine Zy [0, 2, 3, 9] ?_
   exact Zw ⟨(by simp only [List.length_set, List.length_nil] <;> rfl), ((h34.only [0] rfl).rds [] rfl)⟩
 rintro env w26 ⟨rfl, h35⟩
 have e24 : ((x1.set (w64 (a3 + x2)).toNat (gt x1 (w64 (a3 + (w64 ((w64 (2 * x2)) + 1)))))).set (w64 (a3 + (w64 ((w64 (2 * x2)) + 1)))).toNat (gt x1 (w64 (a3 + x2)))).length = a0.length := by first | (simp only [List.length_set]; done) | (simp only [List.length_set]; exact e1)
 refine Zb [0, 2, 3, 8] ?_
 have h36 := (sOR h35 [0] [])
 exact ⟨k1, by omega, ((x1.set (w64 (a3 + x2)).toNat (gt x1 (w64 (a3 + (w64 ((w64 (2 * x2)) + 1)))))).set (w64 (a3 + (w64 ((w64 (2 * x2)) + 1)))).toNat (gt x1 (w64 (a3 + x2)))), (w64 ((w64 (2 * x2)) + 1)), rfl, h36, H, e24⟩

def Q38.l1 : Nat → (Int) → (List (Int)) → (Int) → Option (List (Int))
 | 0, _, _, _ => none
 | k + 1, a1, x3, x4 => if (decide (0 ≤ x4)) = true then (if 0 ≤ (w64 (a1 + x4)) ∧ (w64 (a1 + x4)) < (x3.length : Int) then (if 0 ≤ a1 ∧ a1 < (x3.length : Int) then ((Q49.f k ((x3.set a1.toNat (gt x3 (w64 (a1 + x4)))).set (w64 (a1 + x4)).toNat (gt x3 a1)) 0 x4 a1).bind fun r2 => (Q38.l1 k a1 r2 (w64 (x4 - 1)))) else none) else none) else (some x3)
def Q38.l0 : Nat → (Int) → (Int) → (List (Int)) → (Int) → Option (List (Int))
 | 0, _, _, _, _ => none
 | k + 1, a1, a2, x1, x2 => if (decide (0 ≤ x2)) = true then ((Q49.f k x1 x2 (w64 (a2 - a1)) a1).bind fun r1 => (Q38.l0 k a1 a2 r1 (w64 (x2 - 1)))) else (Q38.l1 k a1 x1 (w64 ((w64 (a2 - a1)) - 1)))
def Q38.f (k : Nat) (a0 : List (Int)) (a1 : Int) (a2 : Int) : Option (List (Int)) := Q38.l0 k a1 a2 a0 (w64 (Int.tdiv (w64 ((w64 (a2 - a1)) - 1)) 2))
theorem Q38.spec {k : Nat} {a0 : List (Int)} {a1 : Int} {a2 : Int} {A1 : Option Addr} {c_1 : Nat} {r : List (Int)} (H : Q38.f k a0 a1 a2 = some r) :
  Spec Try.prog 169 [.slice A1 a0.length c_1, .int .i64 a1, .int .i64 a2] [O23 a0 A1 c_1] [] (fun v l => v = .tuple #[] ∧ l = [O23 r A1 c_1] ∧ r.length = a0.length) := by
 refine Zs Try.func169 fun w0 F0 h0 => ?_
 unfold Q38.f at H
 refine J.seq (Zb [0, 1, 2, 6] ?_)
 refine J.seq (Zb [0, 1, 2, 6, 7] ?_)
 refine J.seq (Zb [0, 6, 7, 8] ?_)
 refine J.seq (J.seq (Zb [0, 6, 7, 8, 9] ?_))
 refine J.block ?_
 have h16 := (sOR h0 [0] [])
 refine J.loop (fun kk env w => ∃ (x1 : List (Int)) (x2 : Int), env = [(0, .slice A1 x1.length c_1), (6, .int .i64 a1), (7, .int .i64 0), (8, .int .i64 (w64 (a2 - a1))), (9, .int .i64 x2)] ∧ St w0 F0 [O23 x1 A1 c_1] [] w ∧ Q38.l0 kk a1 a2 x1 x2 = some r ∧ x1.length = a0.length) (k := k) ⟨a0, (w64 (Int.tdiv (w64 ((w64 (a2 - a1)) - 1)) 2)), rfl, h16, H, (rfl : a0.length = a0.length)⟩ ?_
 rintro k1 env w1 ⟨x1, x2, rfl, h1, H, e1⟩
 rcases k1 with _ | k1
 ·exact z0 H
 rw [Q38.l0] at H
 refine J.seq (J.seq (Zb [0, 6, 7, 8, 9, 19] ?_))
 refine jIf H (fun c1 H => ?_) fun c1 H => ?_
 ·refine J.skip (J.seq (J.block (J.region ?_)))
  refine Zm 4 ?_
  obtain ⟨r1, q1, H⟩ := Zp H
  refine Zh (Zi [0] (Q49.spec q1) h1 rfl Zt) ?_
  rintro _ w2 ⟨_, ⟨rfl, rfl, q2⟩, h2⟩
  replace h2 := nf h2
  have e2 : r1.length = a0.length := q2.trans e1
  refine Zn [0, 6, 7, 8, 9] rfl ?_
  refine J.envEq (env' := [(0, .slice A1 r1.length c_1), (6, .int .i64 a1), (7, .int .i64 0), (8, .int .i64 (w64 (a2 - a1))), (9, .int .i64 x2)]) (by simp only [q2, List.length_nil] <;> rfl) ?_
  refine Zb [0, 6, 7, 8, 9] ?_
  have h3 := (sOR h2 [0] [])
  exact ⟨k1, by omega, r1, (w64 (x2 - 1)), rfl, h3, H, e2⟩
 refine J.exit (J.seq (Zb [0, 6, 7, 10] ?_))
 refine J.block ?_
 have h15 := (sOR h1 [0] [])
 refine J.loop (fun kk env w => ∃ (x3 : List (Int)) (x4 : Int), env = [(0, .slice A1 x3.length c_1), (6, .int .i64 a1), (7, .int .i64 0), (10, .int .i64 x4)] ∧ St w0 F0 [O23 x3 A1 c_1] [] w ∧ Q38.l1 kk a1 x3 x4 = some r ∧ x3.length = a0.length) (k := k1) ⟨x1, (w64 ((w64 (a2 - a1)) - 1)), rfl, h15, H, e1⟩ ?_
 rintro k2 env w3 ⟨x3, x4, rfl, h4, H, e3⟩
 rcases k2 with _ | k2
 ·exact z0 H
 rw [Q38.l1] at H
 refine J.seq (J.seq (Zb [0, 6, 7, 10, 30] ?_))
 refine jIf H (fun c2 H => ?_) fun c2 H => ?_
 ·refine J.skip (J.seq (J.block (J.seq ?_)))
  obtain ⟨⟨p1, p2⟩, H⟩ := Zo H
  obtain ⟨⟨p3, p4⟩, H⟩ := Zo H
  refine J.midS (fun env w => env = [(0, .slice A1 ((x3.set a1.toNat (gt x3 (w64 (a1 + x4)))).set (w64 (a1 + x4)).toNat (gt x3 a1)).length c_1), (6, .int .i64 a1), (7, .int .i64 0), (10, .int .i64 x4)] ∧ St w0 F0 [O23 ((x3.set a1.toNat (gt x3 (w64 (a1 + x4)))).set (w64 (a1 + x4)).toNat (gt x3 a1)) A1 c_1] [] w) ?_ ?_
  ·refine Zr (Zc h4 []) ?_
   have h7 := h4.drew
   refine Zv [0, 1, 2, 3, 4, 5, 6, 7, 8, 9, 12, 13] ?_
   have e7 := Z3 h7.wh (gO 0) p1 p2
   refine Ze 10 rfl (Zf e7 p1 p2) ?_
   refine Ze 14 rfl (Zf e7 p3 p4) ?_
   refine HJ.pick [11, 15] (i := 11) rfl rfl rfl rfl ?_
   refine (Z7 ?_ (Z7 ?_ Y4))
   ·refine Z1 11 rfl (OpT.ofq (Zg 0 h7.wht (gO 0) p1 p2)) ?_
    rintro _ _ ⟨rfl, rfl⟩
    replace h7 := nf h7
    refine ⟨⟨[_], h7⟩, ?_⟩
    refine Zl 15 rfl (OpT.ofq (Zg 0 h7.wht (gO 0) p3 p4)) ?_
    rintro _ _ ⟨rfl, rfl⟩
    replace h7 := nf h7
    refine ⟨⟨[_], h7⟩, ?_⟩
    refine Ze 16 rfl (Zf e7 p3 p4) ?_
    refine Zl 17 rfl (Zj 0 (.int .u32) a1 (gt x3 (w64 (a1 + x4))) 0 h7 rfl p3 p4) ?_
    intro _ w6 h8
    replace h8 := nf h8
    refine ⟨⟨[_], h8⟩, ?_⟩
    have e8 : (x3.set a1.toNat (gt x3 (w64 (a1 + x4)))).length = a0.length := List.length_set.trans e3
    refine Ze 18 rfl (Zf e7 p1 p2) ?_
    refine Zl 19 rfl (Zj 0 (.int .u32) (w64 (a1 + x4)) (gt x3 a1) 0 h8 rfl p1 (by simpa only [List.length_set] using p2)) ?_
    intro _ w7 h9
    replace h9 := nf h9
    refine ⟨⟨[_], h9⟩, ?_⟩
    have e9 : ((x3.set a1.toNat (gt x3 (w64 (a1 + x4)))).set (w64 (a1 + x4)).toNat (gt x3 a1)).length = a0.length := List.length_set.trans e8
    refine Zy [0, 6, 7, 10] ?_
    exact Zw ⟨(by simp only [List.length_set, List.length_nil] <;> rfl), ((h9.only [0] rfl).rds [] rfl)⟩
   ·refine Z1 15 rfl (OpT.ofq (Zg 0 h7.wht (gO 0) p3 p4)) ?_
    rintro _ _ ⟨rfl, rfl⟩
    replace h7 := nf h7
    refine ⟨⟨[_], h7⟩, ?_⟩
    refine Zl 11 rfl (OpT.ofq (Zg 0 h7.wht (gO 0) p1 p2)) ?_
    rintro _ _ ⟨rfl, rfl⟩
    replace h7 := nf h7
    refine ⟨⟨[_], h7⟩, ?_⟩
    refine Ze 16 rfl (Zf e7 p3 p4) ?_
    refine Zl 17 rfl (Zj 0 (.int .u32) a1 (gt x3 (w64 (a1 + x4))) 0 h7 rfl p3 p4) ?_
    intro _ w8 h10
    replace h10 := nf h10
    refine ⟨⟨[_], h10⟩, ?_⟩
    have e10 : (x3.set a1.toNat (gt x3 (w64 (a1 + x4)))).length = a0.length := List.length_set.trans e3
    refine Ze 18 rfl (Zf e7 p1 p2) ?_
    refine Zl 19 rfl (Zj 0 (.int .u32) (w64 (a1 + x4)) (gt x3 a1) 0 h10 rfl p1 (by simpa only [List.length_set] using p2)) ?_
    intro _ w9 h11
    replace h11 := nf h11
    refine ⟨⟨[_], h11⟩, ?_⟩
    have e11 : ((x3.set a1.toNat (gt x3 (w64 (a1 + x4)))).set (w64 (a1 + x4)).toNat (gt x3 a1)).length = a0.length := List.length_set.trans e10
    refine Zy [0, 6, 7, 10] ?_
    exact Zw ⟨(by simp only [List.length_set, List.length_nil] <;> rfl), ((h11.only [0] rfl).rds [] rfl)⟩
  rintro env w10 ⟨rfl, h12⟩
  have e12 : ((x3.set a1.toNat (gt x3 (w64 (a1 + x4)))).set (w64 (a1 + x4)).toNat (gt x3 a1)).length = a0.length := by first | (simp only [List.length_set]; done) | (simp only [List.length_set]; exact e3)
  refine J.region (Zm 4 ?_)
  obtain ⟨r2, q3, H⟩ := Zp H
  refine Zh (Zi [0] (Q49.spec q3) h12 rfl Zt) ?_
  rintro _ w11 ⟨_, ⟨rfl, rfl, q4⟩, h13⟩
  replace h13 := nf h13
  have e13 : r2.length = a0.length := q4.trans e12
  refine Zn [0, 6, 7, 10] rfl ?_
  refine J.envEq (env' := [(0, .slice A1 r2.length c_1), (6, .int .i64 a1), (7, .int .i64 0), (10, .int .i64 x4)]) (by simp only [q4, List.length_nil] <;> rfl) ?_
  refine Zb [0, 6, 7, 10] ?_
  have h14 := (sOR h13 [0] [])
  exact ⟨k2, by omega, r2, (w64 (x4 - 1)), rfl, h14, H, e13⟩
 refine J.exit ?_
 cases H
 exact ⟨_, _, _, Za, ⟨rfl, rfl, e3⟩, Zc h4 [0]⟩

def Q43.f (a0 : List (Int)) (a1 : Int) (a2 : Int) (a3 : Int) : Option (Int × Int × Int) := if 0 ≤ a2 ∧ a2 < (a0.length : Int) then (if 0 ≤ a1 ∧ a1 < (a0.length : Int) then ((Q23.f (gt a0 a2) (gt a0 a1)).bind fun r1 => (if r1 = true then (some (a2, a1, (w64 (a3 + 1)))) else (some (a1, a2, a3)))) else none) else none
theorem Q43.spec {a0 : List (Int)} {a1 : Int} {a2 : Int} {a3 : Int} {A1 : Option Addr} {c_1 : Nat} {b1 : Nat} {r : Int × Int × Int} (H : Q43.f a0 a1 a2 a3 = some r) :
  Spec Try.prog 186 [.slice A1 a0.length c_1, .int .i64 a1, .int .i64 a2, .pointer (some ⟨b1, 0, none⟩)] [X3 b1 a3] [R23 a0 A1 c_1] (fun v l => v = .tuple #[.int .i64 r.1, .int .i64 r.2.1] ∧ l = [X3 b1 r.2.2]) := by
 refine Zs Try.func186 fun w0 F0 h0 => ?_
 unfold Q43.f at H
 refine J.seq (Zb [0, 1, 2, 3] ?_)
 refine J.seq (J.seq ?_)
 refine Zr h0 ?_
 have h1 := h0.drew
 refine Zv [0, 1, 4, 5] ?_
 obtain ⟨⟨p1, p2⟩, H⟩ := Zo H
 have e1 := Z3 h1.wh (Z0 1) p1 p2
 refine Ze 2 rfl (Zf e1 p1 p2) ?_
 refine Ze 3 rfl (Zg 0 wI (Z0 1) p1 p2) ?_
 obtain ⟨⟨p3, p4⟩, H⟩ := Zo H
 refine Ze 6 rfl (Zf e1 p3 p4) ?_
 refine Ze 7 rfl (Zg 0 wI (Z0 1) p3 p4) ?_
 obtain ⟨r1, q1, H⟩ := Zp H
 refine Zl 8 rfl (Zi [] (Q23.spec q1) h1 rfl Zt) ?_
 rintro _ w1 ⟨_, ⟨rfl, rfl⟩, h2⟩
 replace h2 := nf h2
 refine ⟨⟨[], h2⟩, ?_⟩
 refine Zy [1, 2, 3, 18] ?_
 refine jIf H (fun c1 H => ?_) fun c1 H => ?_
 ·refine J.seq (J.region ?_)
  refine Zm 2 ?_
  refine Zk (Zd 0 h2.wht) ?_
  refine Zm 2 ?_
  refine Zh (Yj 0 h2) ?_
  intro _ w2 h3
  replace h3 := nf h3
  refine Zn [1, 2] rfl ?_
  refine J.seq (Zb [8, 9] ?_)
  refine J.ret ?_
  cases H
  exact ⟨_, _, _, Za, ⟨rfl, rfl⟩, Zc h3 [0]⟩
 refine J.skip (J.seq (Zb [8, 9] ?_))
 refine J.ret ?_
 cases H
 exact ⟨_, _, _, Za, ⟨rfl, rfl⟩, Zc h2 [0]⟩

def Q41.f (a0 : List (Int)) (a1 : Int) (a2 : Int) (a3 : Int) (a4 : Int) : Option (Int × Int) := (Q43.f a0 a1 a2 a4).bind fun r1 => ((Q43.f a0 r1.2.1 a3 r1.2.2).bind fun r2 => ((Q43.f a0 r1.1 r2.1 r2.2.2).bind fun r3 => (some r3.2)))
theorem Q41.spec {a0 : List (Int)} {a1 : Int} {a2 : Int} {a3 : Int} {a4 : Int} {A1 : Option Addr} {c_1 : Nat} {b1 : Nat} {r : Int × Int} (H : Q41.f a0 a1 a2 a3 a4 = some r) :
  Spec Try.prog 184 [.slice A1 a0.length c_1, .int .i64 a1, .int .i64 a2, .int .i64 a3, .pointer (some ⟨b1, 0, none⟩)] [X3 b1 a4] [R23 a0 A1 c_1] (fun v l => v = .int .i64 r.1 ∧ l = [X3 b1 r.2]) := by
 refine Zs Try.func184 fun w0 F0 h0 => ?_
 unfold Q41.f at H
 refine J.seq (Zb [0, 1, 2, 3, 4] ?_)
 refine J.seq (J.region ?_)
 refine Zm 4 ?_
 obtain ⟨r1, q1, H⟩ := Zp H
 refine Zh (Zi [0] (Q43.spec q1) h0 rfl (Y8 (Z0 0) Zt)) ?_
 rintro _ w1 ⟨_, ⟨rfl, rfl⟩, h1⟩
 replace h1 := nf h1
 refine Zn [0, 1, 2, 3, 4] rfl ?_
 refine J.seq (J.region ?_)
 refine Zm 4 ?_
 obtain ⟨r2, q2, H⟩ := Zp H
 refine Zh (Zi [0] (Q43.spec q2) h1 rfl (Y8 (Z0 0) Zt)) ?_
 rintro _ w2 ⟨_, ⟨rfl, rfl⟩, h2⟩
 replace h2 := nf h2
 refine Zn [0, 1, 2, 4] rfl ?_
 refine J.seq (J.region ?_)
 refine Zm 4 ?_
 obtain ⟨r3, q3, H⟩ := Zp H
 refine Zh (Zi [0] (Q43.spec q3) h2 rfl (Y8 (Z0 0) Zt)) ?_
 rintro _ w3 ⟨_, ⟨rfl, rfl⟩, h3⟩
 replace h3 := nf h3
 refine Zn [2] rfl ?_
 refine J.seq (Zb [10] ?_)
 refine J.ret ?_
 cases H
 exact ⟨_, _, _, Za, ⟨rfl, rfl⟩, Zc h3 [0]⟩

def Q40.f (a0 : List (Int)) (a1 : Int) (a2 : Int) : Option (Int × Int) := (Q41.f a0 (w64 (a1 - 1)) a1 (w64 (a1 + 1)) a2).bind fun r1 => (some r1)
theorem Q40.spec {a0 : List (Int)} {a1 : Int} {a2 : Int} {A1 : Option Addr} {c_1 : Nat} {b1 : Nat} {r : Int × Int} (H : Q40.f a0 a1 a2 = some r) :
  Spec Try.prog 183 [.slice A1 a0.length c_1, .int .i64 a1, .pointer (some ⟨b1, 0, none⟩)] [X3 b1 a2] [R23 a0 A1 c_1] (fun v l => v = .int .i64 r.1 ∧ l = [X3 b1 r.2]) := by
 refine Zs Try.func183 fun w0 F0 h0 => ?_
 unfold Q40.f at H
 refine J.seq (Zb [0, 1, 2] ?_)
 refine J.seq (J.region ?_)
 refine Zm 7 ?_
 obtain ⟨r1, q1, H⟩ := Zp H
 refine Zh (Zi [0] (Q41.spec q1) h0 rfl (Y8 (Z0 0) Zt)) ?_
 rintro _ w1 ⟨_, ⟨rfl, rfl⟩, h1⟩
 replace h1 := nf h1
 refine Zn [6] rfl ?_
 refine J.ret ?_
 cases H
 exact ⟨_, _, _, Za, ⟨rfl, rfl⟩, Zc h1 [0]⟩

def Q37.f (a0 : List (Int)) (a1 : Int) (a2 : Int) : Option (Int × Int) := if (decide (8 ≤ (w64 (a2 - a1)))) = true then (if (decide (50 ≤ (w64 (a2 - a1)))) = true then ((Q40.f a0 (w64 (a1 + (w64 ((w64 (Int.tdiv (w64 (a2 - a1)) 4)) * 1)))) 0).bind fun r1 => ((Q40.f a0 (w64 (a1 + (w64 ((w64 (Int.tdiv (w64 (a2 - a1)) 4)) * 2)))) r1.2).bind fun r2 => ((Q40.f a0 (w64 (a1 + (w64 ((w64 (Int.tdiv (w64 (a2 - a1)) 4)) * 3)))) r2.2).bind fun r3 => ((Q41.f a0 r1.1 r2.1 r3.1 r3.2).bind fun r4 => (if (decide (r4.2 = 0)) = true then (some (r4.1, 1)) else (if (decide (r4.2 = 12)) = true then (some (r4.1, 2)) else (some (r4.1, 0)))))))) else ((Q41.f a0 (w64 (a1 + (w64 ((w64 (Int.tdiv (w64 (a2 - a1)) 4)) * 1)))) (w64 (a1 + (w64 ((w64 (Int.tdiv (w64 (a2 - a1)) 4)) * 2)))) (w64 (a1 + (w64 ((w64 (Int.tdiv (w64 (a2 - a1)) 4)) * 3)))) 0).bind fun r5 => (if (decide (r5.2 = 0)) = true then (some (r5.1, 1)) else (if (decide (r5.2 = 12)) = true then (some (r5.1, 2)) else (some (r5.1, 0)))))) else (some ((w64 (a1 + (w64 ((w64 (Int.tdiv (w64 (a2 - a1)) 4)) * 2)))), 1))
theorem Q37.spec {a0 : List (Int)} {a1 : Int} {a2 : Int} {A1 : Option Addr} {c_1 : Nat} {r : Int × Int} (H : Q37.f a0 a1 a2 = some r) :
  Spec Try.prog 171 [.slice A1 a0.length c_1, .int .i64 a1, .int .i64 a2] [] [R23 a0 A1 c_1] (fun v l => v = .tuple #[.int .i64 r.1, .int .i64 r.2] ∧ l = []) := by
 refine Zs Try.func171 fun w0 F0 h0 => ?_
 unfold Q37.f at H
 refine J.seq (Zb [0, 1, 2] ?_)
 refine J.seq (Zb [0, 1, 8] ?_)
 refine J.seq (J.region ?_)
 refine Zh (Ug h0) ?_
 rintro _ w1 ⟨b1, rfl, h1⟩
 replace h1 := nf h1
 refine Zn [0, 1, 8, 9] rfl ?_
 refine J.seq (Zb [0, 1, 8, 9, 10] ?_)
 refine J.seq (Zb [0, 1, 8, 9, 10, 11] ?_)
 refine J.seq (Zb [0, 8, 9, 10, 11, 12] ?_)
 refine J.seq (J.seq (Zb [0, 8, 9, 10, 11, 12, 32] ?_))
 refine jIf H (fun c1 H => ?_) fun c1 H => ?_
 ·refine J.seq (J.seq (Zb [0, 9, 10, 11, 12, 34] ?_))
  refine jIf H (fun c2 H => ?_) fun c2 H => ?_
  ·refine J.seq (J.region ?_)
   refine Zm 2 ?_
   obtain ⟨r1, q1, H⟩ := Zp H
   refine Zh (Zi [0] (Q40.spec q1) h1 rfl (Y8 (Z0 0) Zt)) ?_
   rintro _ w2 ⟨_, ⟨rfl, rfl⟩, h2⟩
   replace h2 := nf h2
   refine Zn [0, 9, 10, 11, 12] rfl ?_
   refine J.seq (J.region ?_)
   refine Zm 2 ?_
   obtain ⟨r2, q2, H⟩ := Zp H
   refine Zh (Zi [0] (Q40.spec q2) h2 rfl (Y8 (Z0 0) Zt)) ?_
   rintro _ w3 ⟨_, ⟨rfl, rfl⟩, h3⟩
   replace h3 := nf h3
   refine Zn [0, 9, 10, 11, 12] rfl ?_
   refine J.region (Zm 2 ?_)
   obtain ⟨r3, q3, H⟩ := Zp H
   refine Zh (Zi [0] (Q40.spec q3) h3 rfl (Y8 (Z0 0) Zt)) ?_
   rintro _ w4 ⟨_, ⟨rfl, rfl⟩, h4⟩
   replace h4 := nf h4
   refine Zn [0, 9, 10, 11, 12] rfl ?_
   refine J.region (Zm 4 ?_)
   obtain ⟨r4, q4, H⟩ := Zp H
   refine Zh (Zi [0] (Q41.spec q4) h4 rfl (Y8 (Z0 0) Zt)) ?_
   rintro _ w5 ⟨_, ⟨rfl, rfl⟩, h5⟩
   replace h5 := nf h5
   refine Zn [9, 11] rfl ?_
   refine J.seq (J.region ?_)
   refine Zk (Zd 0 h5.wht) ?_
   refine Zn [11, 49] rfl ?_
   refine J.block (J.seq (Zb [11, 49, 51] ?_))
   refine jIf H (fun c3 H => ?_) fun c3 H => ?_
   ·refine J.seq (Zb [6, 7] ?_)
    refine J.ret ?_
    cases H
    exact ⟨_, _, _, Za, ⟨rfl, rfl⟩, Zc h5 []⟩
   refine J.seq (Zb [11, 54] ?_)
   refine jIf H (fun c4 H => ?_) fun c4 H => ?_
   ·refine J.seq (Zb [6, 7] ?_)
    refine J.ret ?_
    cases H
    exact ⟨_, _, _, Za, ⟨rfl, rfl⟩, Zc h5 []⟩
   refine J.seq (Zb [6, 7] ?_)
   refine J.ret ?_
   cases H
   exact ⟨_, _, _, Za, ⟨rfl, rfl⟩, Zc h5 []⟩
  refine J.skip (J.region (Zm 4 ?_))
  obtain ⟨r5, q5, H⟩ := Zp H
  refine Zh (Zi [0] (Q41.spec q5) h1 rfl (Y8 (Z0 0) Zt)) ?_
  rintro _ w6 ⟨_, ⟨rfl, rfl⟩, h6⟩
  replace h6 := nf h6
  refine Zn [9, 11] rfl ?_
  refine J.seq (J.region ?_)
  refine Zk (Zd 0 h6.wht) ?_
  refine Zn [11, 49] rfl ?_
  refine J.block (J.seq (Zb [11, 49, 51] ?_))
  refine jIf H (fun c5 H => ?_) fun c5 H => ?_
  ·refine J.seq (Zb [6, 7] ?_)
   refine J.ret ?_
   cases H
   exact ⟨_, _, _, Za, ⟨rfl, rfl⟩, Zc h6 []⟩
  refine J.seq (Zb [11, 54] ?_)
  refine jIf H (fun c6 H => ?_) fun c6 H => ?_
  ·refine J.seq (Zb [6, 7] ?_)
   refine J.ret ?_
   cases H
   exact ⟨_, _, _, Za, ⟨rfl, rfl⟩, Zc h6 []⟩
  refine J.seq (Zb [6, 7] ?_)
  refine J.ret ?_
  cases H
  exact ⟨_, _, _, Za, ⟨rfl, rfl⟩, Zc h6 []⟩
 refine J.skip (J.seq (J.region ?_))
 refine Zk (Zd 0 h1.wht) ?_
 refine Zn [11, 49] rfl ?_
 refine J.block (J.seq (Zb [11, 49, 51] ?_))
 refine Z2 ?_
 refine J.seq (Zb [6, 7] ?_)
 refine J.ret ?_
 cases H
 exact ⟨_, _, _, Za, ⟨rfl, rfl⟩, Zc h1 []⟩

def Q48.l0 : Nat → (List (Int)) → (Int) → (Int) → Option (List (Int))
 | 0, _, _, _ => none
 | k + 1, x1, x2, x3 => if (decide (x2 < x3)) = true then (if 0 ≤ x3 ∧ x3 < (x1.length : Int) then (if 0 ≤ x2 ∧ x2 < (x1.length : Int) then (Q48.l0 k ((x1.set x2.toNat (gt x1 x3)).set x3.toNat (gt x1 x2)) (w64 (x2 + 1)) (w64 (x3 - 1))) else none) else none) else (some x1)
def Q48.f (k : Nat) (a0 : List (Int)) (a1 : Int) (a2 : Int) : Option (List (Int)) := Q48.l0 k a0 a1 (w64 (a2 - 1))
theorem Q48.spec {k : Nat} {a0 : List (Int)} {a1 : Int} {a2 : Int} {A1 : Option Addr} {c_1 : Nat} {r : List (Int)} (H : Q48.f k a0 a1 a2 = some r) :
  Spec Try.prog 172 [.slice A1 a0.length c_1, .int .i64 a1, .int .i64 a2] [O23 a0 A1 c_1] [] (fun v l => v = .tuple #[] ∧ l = [O23 r A1 c_1] ∧ r.length = a0.length) := by
 refine Zs Try.func172 fun w0 F0 h0 => ?_
 unfold Q48.f at H
 refine J.seq (Zb [0, 2, 6] ?_)
 refine J.seq (Zb [0, 6, 7] ?_)
 refine J.block ?_
 have h11 := (sOR h0 [0] [])
 refine J.loop (fun kk env w => ∃ (x1 : List (Int)) (x2 : Int) (x3 : Int), env = [(0, .slice A1 x1.length c_1), (6, .int .i64 x2), (7, .int .i64 x3)] ∧ St w0 F0 [O23 x1 A1 c_1] [] w ∧ Q48.l0 kk x1 x2 x3 = some r ∧ x1.length = a0.length) (k := k) ⟨a0, a1, (w64 (a2 - 1)), rfl, h11, H, (rfl : a0.length = a0.length)⟩ ?_
 rintro k1 env w1 ⟨x1, x2, x3, rfl, h1, H, e1⟩
 rcases k1 with _ | k1
 ·exact z0 H
 rw [Q48.l0] at H
 refine J.seq (J.seq (Zb [0, 6, 7, 13] ?_))
 refine jIf H (fun c1 H => ?_) fun c1 H => ?_
 ·refine J.skip (J.block (J.seq ?_))
  obtain ⟨⟨p1, p2⟩, H⟩ := Zo H
  obtain ⟨⟨p3, p4⟩, H⟩ := Zo H
  refine J.midS (fun env w => env = [(0, .slice A1 ((x1.set x2.toNat (gt x1 x3)).set x3.toNat (gt x1 x2)).length c_1), (6, .int .i64 x2), (7, .int .i64 x3)] ∧ St w0 F0 [O23 ((x1.set x2.toNat (gt x1 x3)).set x3.toNat (gt x1 x2)) A1 c_1] [] w) ?_ ?_
  ·refine Zr (Zc h1 []) ?_
   have h4 := h1.drew
   refine Zv [0, 1, 2, 3, 4, 5, 8, 9] ?_
   have e5 := Z3 h4.wh (gO 0) p1 p2
   refine Ze 6 rfl (Zf e5 p1 p2) ?_
   refine Ze 10 rfl (Zf e5 p3 p4) ?_
   refine HJ.pick [7, 11] (i := 7) rfl rfl rfl rfl ?_
   refine (Z7 ?_ (Z7 ?_ Y4))
   ·refine Z1 7 rfl (OpT.ofq (Zg 0 h4.wht (gO 0) p1 p2)) ?_
    rintro _ _ ⟨rfl, rfl⟩
    replace h4 := nf h4
    refine ⟨⟨[_], h4⟩, ?_⟩
    refine Zl 11 rfl (OpT.ofq (Zg 0 h4.wht (gO 0) p3 p4)) ?_
    rintro _ _ ⟨rfl, rfl⟩
    replace h4 := nf h4
    refine ⟨⟨[_], h4⟩, ?_⟩
    refine Ze 12 rfl (Zf e5 p3 p4) ?_
    refine Zl 13 rfl (Zj 0 (.int .u32) x2 (gt x1 x3) 0 h4 rfl p3 p4) ?_
    intro _ w4 h5
    replace h5 := nf h5
    refine ⟨⟨[_], h5⟩, ?_⟩
    have e6 : (x1.set x2.toNat (gt x1 x3)).length = a0.length := List.length_set.trans e1
    refine Ze 14 rfl (Zf e5 p1 p2) ?_
    refine Zl 15 rfl (Zj 0 (.int .u32) x3 (gt x1 x2) 0 h5 rfl p1 (by simpa only [List.length_set] using p2)) ?_
    intro _ w5 h6
    replace h6 := nf h6
    refine ⟨⟨[_], h6⟩, ?_⟩
    have e7 : ((x1.set x2.toNat (gt x1 x3)).set x3.toNat (gt x1 x2)).length = a0.length := List.length_set.trans e6
    refine Zy [0, 6, 7] ?_
    exact Zw ⟨(by simp only [List.length_set, List.length_nil] <;> rfl), ((h6.only [0] rfl).rds [] rfl)⟩
   ·refine Z1 11 rfl (OpT.ofq (Zg 0 h4.wht (gO 0) p3 p4)) ?_
    rintro _ _ ⟨rfl, rfl⟩
    replace h4 := nf h4
    refine ⟨⟨[_], h4⟩, ?_⟩
    refine Zl 7 rfl (OpT.ofq (Zg 0 h4.wht (gO 0) p1 p2)) ?_
    rintro _ _ ⟨rfl, rfl⟩
    replace h4 := nf h4
    refine ⟨⟨[_], h4⟩, ?_⟩
    refine Ze 12 rfl (Zf e5 p3 p4) ?_
    refine Zl 13 rfl (Zj 0 (.int .u32) x2 (gt x1 x3) 0 h4 rfl p3 p4) ?_
    intro _ w6 h7
    replace h7 := nf h7
    refine ⟨⟨[_], h7⟩, ?_⟩
    have e8 : (x1.set x2.toNat (gt x1 x3)).length = a0.length := List.length_set.trans e1
    refine Ze 14 rfl (Zf e5 p1 p2) ?_
    refine Zl 15 rfl (Zj 0 (.int .u32) x3 (gt x1 x2) 0 h7 rfl p1 (by simpa only [List.length_set] using p2)) ?_
    intro _ w7 h8
    replace h8 := nf h8
    refine ⟨⟨[_], h8⟩, ?_⟩
    have e9 : ((x1.set x2.toNat (gt x1 x3)).set x3.toNat (gt x1 x2)).length = a0.length := List.length_set.trans e8
    refine Zy [0, 6, 7] ?_
    exact Zw ⟨(by simp only [List.length_set, List.length_nil] <;> rfl), ((h8.only [0] rfl).rds [] rfl)⟩
  rintro env w8 ⟨rfl, h9⟩
  have e10 : ((x1.set x2.toNat (gt x1 x3)).set x3.toNat (gt x1 x2)).length = a0.length := by first | (simp only [List.length_set]; done) | (simp only [List.length_set]; exact e1)
  refine J.seq (Zb [0, 6, 7] ?_)
  refine Zb [0, 6, 7] ?_
  have h10 := (sOR h9 [0] [])
  exact ⟨k1, by omega, ((x1.set x2.toNat (gt x1 x3)).set x3.toNat (gt x1 x2)), (w64 (x2 + 1)), (w64 (x3 - 1)), rfl, h10, H, e10⟩
 refine J.exit ?_
 cases H
 exact ⟨_, _, _, Za, ⟨rfl, rfl, e1⟩, Zc h1 [0]⟩

mutual
def Q44.l0 : Nat → (Int) → (Int) → (List (Int)) → (Int) → (Int) → Option (Bool × List (Int))
 | 0, _, _, _, _, _ => none
 | k + 1, a1, a2, x1, x2, x3 => if (decide (x3 < 5)) = true then (Q44.l3 k a1 a2 x1 x3 x2) else (some (false, x1))
def Q44.l1 : Nat → (Int) → (Int) → (Int) → (Int) → (List (Int)) → (Int) → Option (Bool × List (Int))
 | 0, _, _, _, _, _, _ => none
 | k + 1, a1, a2, x3, x6, x9, x10 => if (decide (x10 < a2)) = true then (if 0 ≤ x10 ∧ x10 < (x9.length : Int) then (if 0 ≤ (w64 (x10 - 1)) ∧ (w64 (x10 - 1)) < (x9.length : Int) then ((Q23.f (gt x9 x10) (gt x9 (w64 (x10 - 1)))).bind fun r1 => (if (!r1) = true then (Q44.l0 k a1 a2 x9 x6 (w64 (x3 + 1))) else (Q44.l1 k a1 a2 x3 x6 ((x9.set x10.toNat (gt x9 (w64 (x10 - 1)))).set (w64 (x10 - 1)).toNat (gt x9 x10)) (w64 (x10 + 1))))) else none) else none) else (Q44.l0 k a1 a2 x9 x6 (w64 (x3 + 1)))
def Q44.l2 : Nat → (Int) → (Int) → (Int) → (Int) → (List (Int)) → (Int) → Option (Bool × List (Int))
 | 0, _, _, _, _, _, _ => none
 | k + 1, a1, a2, x3, x6, x11, x12 => if (decide (1 ≤ x12)) = true then (if 0 ≤ x12 ∧ x12 < (x11.length : Int) then (if 0 ≤ (w64 (x12 - 1)) ∧ (w64 (x12 - 1)) < (x11.length : Int) then ((Q23.f (gt x11 x12) (gt x11 (w64 (x12 - 1)))).bind fun r2 => (if (!r2) = true then (if (decide (2 ≤ (w64 (a2 - x6)))) = true then (Q44.l1 k a1 a2 x3 x6 x11 (w64 (x6 + 1))) else (Q44.l0 k a1 a2 x11 x6 (w64 (x3 + 1)))) else (Q44.l2 k a1 a2 x3 x6 ((x11.set x12.toNat (gt x11 (w64 (x12 - 1)))).set (w64 (x12 - 1)).toNat (gt x11 x12)) (w64 (x12 - 1))))) else none) else none) else (if (decide (2 ≤ (w64 (a2 - x6)))) = true then (Q44.l1 k a1 a2 x3 x6 x11 (w64 (x6 + 1))) else (Q44.l0 k a1 a2 x11 x6 (w64 (x3 + 1))))
def Q44.l3 : Nat → (Int) → (Int) → (List (Int)) → (Int) → (Int) → Option (Bool × List (Int))
 | 0, _, _, _, _, _ => none
 | k + 1, a1, a2, x1, x3, x13 => if (decide (x13 < a2)) = true then (if 0 ≤ x13 ∧ x13 < (x1.length : Int) then (if 0 ≤ (w64 (x13 - 1)) ∧ (w64 (x13 - 1)) < (x1.length : Int) then ((Q23.f (gt x1 x13) (gt x1 (w64 (x13 - 1)))).bind fun r3 => (if (!r3) = true then (Q44.l3 k a1 a2 x1 x3 (w64 (x13 + 1))) else (if (decide (x13 = a2)) = true then (some (true, x1)) else (if (decide ((w64 (a2 - a1)) < 50)) = true then (some (false, x1)) else (if 0 ≤ (w64 (x13 - 1)) ∧ (w64 (x13 - 1)) < (x1.length : Int) then (if 0 ≤ x13 ∧ x13 < (x1.length : Int) then (if (decide (2 ≤ (w64 (x13 - a1)))) = true then (Q44.l2 k a1 a2 x3 x13 ((x1.set x13.toNat (gt x1 (w64 (x13 - 1)))).set (w64 (x13 - 1)).toNat (gt x1 x13)) (w64 (x13 - 1))) else (if (decide (2 ≤ (w64 (a2 - x13)))) = true then (Q44.l1 k a1 a2 x3 x13 ((x1.set x13.toNat (gt x1 (w64 (x13 - 1)))).set (w64 (x13 - 1)).toNat (gt x1 x13)) (w64 (x13 + 1))) else (Q44.l0 k a1 a2 ((x1.set x13.toNat (gt x1 (w64 (x13 - 1)))).set (w64 (x13 - 1)).toNat (gt x1 x13)) x13 (w64 (x3 + 1))))) else none) else none))))) else none) else none) else (if (decide (x13 = a2)) = true then (some (true, x1)) else (if (decide ((w64 (a2 - a1)) < 50)) = true then (some (false, x1)) else (if 0 ≤ (w64 (x13 - 1)) ∧ (w64 (x13 - 1)) < (x1.length : Int) then (if 0 ≤ x13 ∧ x13 < (x1.length : Int) then (if (decide (2 ≤ (w64 (x13 - a1)))) = true then (Q44.l2 k a1 a2 x3 x13 ((x1.set x13.toNat (gt x1 (w64 (x13 - 1)))).set (w64 (x13 - 1)).toNat (gt x1 x13)) (w64 (x13 - 1))) else (if (decide (2 ≤ (w64 (a2 - x13)))) = true then (Q44.l1 k a1 a2 x3 x13 ((x1.set x13.toNat (gt x1 (w64 (x13 - 1)))).set (w64 (x13 - 1)).toNat (gt x1 x13)) (w64 (x13 + 1))) else (Q44.l0 k a1 a2 ((x1.set x13.toNat (gt x1 (w64 (x13 - 1)))).set (w64 (x13 - 1)).toNat (gt x1 x13)) x13 (w64 (x3 + 1))))) else none) else none)))
end
def Q44.f (k : Nat) (a0 : List (Int)) (a1 : Int) (a2 : Int) : Option (Bool × List (Int)) := Q44.l0 k a1 a2 a0 (w64 (a1 + 1)) 0
theorem Q44.spec {k : Nat} {a0 : List (Int)} {a1 : Int} {a2 : Int} {A1 : Option Addr} {c_1 : Nat} {r : Bool × List (Int)} (H : Q44.f k a0 a1 a2 = some r) :
  Spec Try.prog 173 [.slice A1 a0.length c_1, .int .i64 a1, .int .i64 a2] [O23 a0 A1 c_1] [] (fun v l => v = .bool r.1 ∧ l = [O23 r.2 A1 c_1] ∧ r.2.length = a0.length) := by
 refine Zs Try.func173 fun w0 F0 h0 => ?_
 unfold Q44.f at H
 refine J.seq (Zb [0, 1, 2] ?_)
 refine J.seq (Zb [0, 1, 2, 7] ?_)
 refine J.seq (J.seq (Zb [0, 1, 2, 7, 8] ?_))
 refine J.block ?_
 have h53 := (sOR h0 [0] [])
 refine J.loop (fun kk env w => ∃ (x1 : List (Int)) (x2 : Int) (x3 : Int), env = [(0, .slice A1 x1.length c_1), (1, .int .i64 a1), (2, .int .i64 a2), (7, .int .i64 x2), (8, .int .i64 x3)] ∧ St w0 F0 [O23 x1 A1 c_1] [] w ∧ Q44.l0 kk a1 a2 x1 x2 x3 = some r ∧ x1.length = a0.length) (k := k) ⟨a0, (w64 (a1 + 1)), 0, rfl, h53, H, (rfl : a0.length = a0.length)⟩ ?_
 rintro k1 env w1 ⟨x1, x2, x3, rfl, h1, H, e1⟩
 rcases k1 with _ | k1
 ·exact z0 H
 rw [Q44.l0] at H
 refine J.seq (J.seq (Zb [0, 1, 2, 7, 8, 14] ?_))
 refine jIf H (fun c1 H => ?_) fun c1 H => ?_
 ·refine J.skip (J.seq (J.midS (fun env w => ∃ (k2 : Nat) (x4 : List (Int)) (x5 : Int), env = [(0, .slice A1 x4.length c_1), (1, .int .i64 a1), (2, .int .i64 a2), (7, .int .i64 x5), (8, .int .i64 x3)] ∧ St w0 F0 [O23 x4 A1 c_1] [] w ∧ (Q44.l0 k2 a1 a2 x4 x5 (w64 (x3 + 1))) = some r ∧ k2 ≤ k1 ∧ x4.length = a0.length) ?_ ?_))
  ·refine J.block (J.seq ?_)
   refine J.midS (fun env w => ∃ (k3 : Nat) (x6 : Int) (x7 : Bool), env = [(0, .slice A1 x1.length c_1), (1, .int .i64 a1), (2, .int .i64 a2), (7, .int .i64 x6), (8, .int .i64 x3), (32, .bool x7)] ∧ St w0 F0 [O23 x1 A1 c_1] [] w ∧ (if (decide (x6 = a2)) = true then (some (true, x1)) else (if (decide ((w64 (a2 - a1)) < 50)) = true then (some (false, x1)) else (if 0 ≤ (w64 (x6 - 1)) ∧ (w64 (x6 - 1)) < (x1.length : Int) then (if 0 ≤ x6 ∧ x6 < (x1.length : Int) then (if (decide (2 ≤ (w64 (x6 - a1)))) = true then (Q44.l2 k3 a1 a2 x3 x6 ((x1.set x6.toNat (gt x1 (w64 (x6 - 1)))).set (w64 (x6 - 1)).toNat (gt x1 x6)) (w64 (x6 - 1))) else (if (decide (2 ≤ (w64 (a2 - x6)))) = true then (Q44.l1 k3 a1 a2 x3 x6 ((x1.set x6.toNat (gt x1 (w64 (x6 - 1)))).set (w64 (x6 - 1)).toNat (gt x1 x6)) (w64 (x6 + 1))) else (Q44.l0 k3 a1 a2 ((x1.set x6.toNat (gt x1 (w64 (x6 - 1)))).set (w64 (x6 - 1)).toNat (gt x1 x6)) x6 (w64 (x3 + 1))))) else none) else none))) = some r ∧ k3 ≤ k1) ?_ ?_
   ·refine J.block (Wn [0, 1, 2, 7, 8] ?_)
    have h52 := (sOR h1 [0] [])
    refine J.loop (fun kk env w => ∃ (x13 : Int), env = [(0, .slice A1 x1.length c_1), (1, .int .i64 a1), (2, .int .i64 a2), (7, .int .i64 x13), (8, .int .i64 x3)] ∧ St w0 F0 [O23 x1 A1 c_1] [] w ∧ Q44.l3 kk a1 a2 x1 x3 x13 = some r ∧ kk ≤ k1) (k := k1) ⟨x2, rfl, h52, H, Nat.le_refl _⟩ ?_
    rintro k7 env w33 ⟨x13, rfl, h46, H, hk7⟩
    rcases k7 with _ | k7
    ·exact z0 H
    rw [Q44.l3] at H
    refine J.seq (J.seq ?_)
    refine Zr h46 ?_
    have h47 := h46.drew
    refine Zv [0, 1, 2, 3] ?_
    refine Xz 20 H (fun c10 H => ?_) fun c10 H => ?_
    ·refine Zv [4, 5, 8, 9, 10] ?_
     obtain ⟨⟨p13, p14⟩, H⟩ := Zo H
     have e31 := Z3 h47.wh (gO 0) p13 p14
     refine Ze 6 rfl (Zf e31 p13 p14) ?_
     refine Ze 7 rfl (Zg 0 wI (gO 0) p13 p14) ?_
     obtain ⟨⟨p15, p16⟩, H⟩ := Zo H
     refine Ze 11 rfl (Zf e31 p15 p16) ?_
     refine Ze 12 rfl (Zg 0 wI (gO 0) p15 p16) ?_
     obtain ⟨r3, q3, H⟩ := Zp H
     refine Zl 13 rfl (Zi [] (Q23.spec q3) h47 rfl Zt) ?_
     rintro _ w34 ⟨_, ⟨rfl, rfl⟩, h48⟩
     replace h48 := nf h48
     refine ⟨⟨[], h48⟩, ?_⟩
     refine Zv [14, 15] ?_
     refine Zy [0, 1, 2, 7, 8, 32] ?_
     refine jIf H (fun c11 H => ?_) fun c11 H => ?_
     ·refine J.skip (J.block (Zb [0, 1, 2, 7, 8] ?_))
      have h49 := (sOR h48 [0] [])
      exact ⟨k7, by omega, (w64 (x13 + 1)), rfl, h49, H, by omega⟩
     refine J.exit ?_
     have h50 := (sOR h48 [0] [])
     exact ⟨k7, x13, (!r3), rfl, h50, H, by omega⟩
    refine Zv [4, 5, 6, 7, 8, 9, 10, 11, 12, 13, 14, 15] ?_
    refine Zy [0, 1, 2, 7, 8, 32] ?_
    refine Zz ?_
    refine J.exit ?_
    have h51 := (sOR h47 [0] [])
    exact ⟨k7, x13, false, rfl, h51, H, by omega⟩
   rintro env w5 ⟨k3, x6, x7, rfl, h4, H, hk3⟩
   refine J.seq (J.seq (Zb [0, 1, 2, 7, 8, 37] ?_))
   refine jIf H (fun c2 H => ?_) fun c2 H => ?_
   ·refine J.seq (Zb [6] ?_)
    refine J.ret ?_
    cases H
    exact ⟨_, _, _, Za, ⟨rfl, rfl, e1⟩, Zc h4 [0]⟩
   refine J.skip (J.seq (J.seq (Zb [0, 1, 2, 7, 8, 41] ?_)))
   refine jIf H (fun c3 H => ?_) fun c3 H => ?_
   ·refine J.seq (Zb [6] ?_)
    refine J.ret ?_
    cases H
    exact ⟨_, _, _, Za, ⟨rfl, rfl, e1⟩, Zc h4 [0]⟩
   refine J.skip (J.seq ?_)
   obtain ⟨⟨p1, p2⟩, H⟩ := Zo H
   obtain ⟨⟨p3, p4⟩, H⟩ := Zo H
   refine J.midS (fun env w => env = [(0, .slice A1 ((x1.set x6.toNat (gt x1 (w64 (x6 - 1)))).set (w64 (x6 - 1)).toNat (gt x1 x6)).length c_1), (1, .int .i64 a1), (2, .int .i64 a2), (7, .int .i64 x6), (8, .int .i64 x3)] ∧ St w0 F0 [O23 ((x1.set x6.toNat (gt x1 (w64 (x6 - 1)))).set (w64 (x6 - 1)).toNat (gt x1 x6)) A1 c_1] [] w) ?_ ?_
   ·refine Zr (Zc h4 []) ?_
    have h7 := h4.drew
    refine Zv [0, 1, 2, 3, 4, 5, 6, 7, 10, 11] ?_
    have e6 := Z3 h7.wh (gO 0) p1 p2
    refine Ze 8 rfl (Zf e6 p1 p2) ?_
    refine Ze 12 rfl (Zf e6 p3 p4) ?_
    refine HJ.pick [9, 13] (i := 9) rfl rfl rfl rfl ?_
    refine (Z7 ?_ (Z7 ?_ Y4))
    ·refine Z1 9 rfl (OpT.ofq (Zg 0 h7.wht (gO 0) p1 p2)) ?_
     rintro _ _ ⟨rfl, rfl⟩
     replace h7 := nf h7
     refine ⟨⟨[_], h7⟩, ?_⟩
     refine Zl 13 rfl (OpT.ofq (Zg 0 h7.wht (gO 0) p3 p4)) ?_
     rintro _ _ ⟨rfl, rfl⟩
     replace h7 := nf h7
     refine ⟨⟨[_], h7⟩, ?_⟩
     refine Ze 14 rfl (Zf e6 p3 p4) ?_
     refine Zl 15 rfl (Zj 0 (.int .u32) x6 (gt x1 (w64 (x6 - 1))) 0 h7 rfl p3 p4) ?_
     intro _ w8 h8
     replace h8 := nf h8
     refine ⟨⟨[_], h8⟩, ?_⟩
     have e7 : (x1.set x6.toNat (gt x1 (w64 (x6 - 1)))).length = a0.length := List.length_set.trans e1
     refine Ze 16 rfl (Zf e6 p1 p2) ?_
     refine Zl 17 rfl (Zj 0 (.int .u32) (w64 (x6 - 1)) (gt x1 x6) 0 h8 rfl p1 (by simpa only [List.length_set] using p2)) ?_
     intro _ w9 h9
     replace h9 := nf h9
     refine ⟨⟨[_], h9⟩, ?_⟩
     have e8 : ((x1.set x6.toNat (gt x1 (w64 (x6 - 1)))).set (w64 (x6 - 1)).toNat (gt x1 x6)).length = a0.length := List.length_set.trans e7
     refine Zy [0, 1, 2, 7, 8] ?_
     exact Zw ⟨(by simp only [List.length_set, List.length_nil] <;> rfl), ((h9.only [0] rfl).rds [] rfl)⟩
    ·refine Z1 13 rfl (OpT.ofq (Zg 0 h7.wht (gO 0) p3 p4)) ?_
     rintro _ _ ⟨rfl, rfl⟩
     replace h7 := nf h7
     refine ⟨⟨[_], h7⟩, ?_⟩
     refine Zl 9 rfl (OpT.ofq (Zg 0 h7.wht (gO 0) p1 p2)) ?_
     rintro _ _ ⟨rfl, rfl⟩
     replace h7 := nf h7
     refine ⟨⟨[_], h7⟩, ?_⟩
     refine Ze 14 rfl (Zf e6 p3 p4) ?_
     refine Zl 15 rfl (Zj 0 (.int .u32) x6 (gt x1 (w64 (x6 - 1))) 0 h7 rfl p3 p4) ?_
     intro _ w10 h10
     replace h10 := nf h10
     refine ⟨⟨[_], h10⟩, ?_⟩
     have e9 : (x1.set x6.toNat (gt x1 (w64 (x6 - 1)))).length = a0.length := List.length_set.trans e1
     refine Ze 16 rfl (Zf e6 p1 p2) ?_
     refine Zl 17 rfl (Zj 0 (.int .u32) (w64 (x6 - 1)) (gt x1 x6) 0 h10 rfl p1 (by simpa only [List.length_set] using p2)) ?_
     intro _ w11 h11
     replace h11 := nf h11
     refine ⟨⟨[_], h11⟩, ?_⟩
     have e10 : ((x1.set x6.toNat (gt x1 (w64 (x6 - 1)))).set (w64 (x6 - 1)).toNat (gt x1 x6)).length = a0.length := List.length_set.trans e9
     refine Zy [0, 1, 2, 7, 8] ?_
     exact Zw ⟨(by simp only [List.length_set, List.length_nil] <;> rfl), ((h11.only [0] rfl).rds [] rfl)⟩
   rintro env w12 ⟨rfl, h12⟩
   have e11 : ((x1.set x6.toNat (gt x1 (w64 (x6 - 1)))).set (w64 (x6 - 1)).toNat (gt x1 x6)).length = a0.length := by first | (simp only [List.length_set]; done) | (simp only [List.length_set]; exact e1)
   refine J.seq (J.seq (Zb [0, 1, 2, 7, 8, 61] ?_))
   refine J.midS (fun env w => ∃ (k4 : Nat) (x8 : List (Int)), env = [(0, .slice A1 x8.length c_1), (1, .int .i64 a1), (2, .int .i64 a2), (7, .int .i64 x6), (8, .int .i64 x3)] ∧ St w0 F0 [O23 x8 A1 c_1] [] w ∧ (if (decide (2 ≤ (w64 (a2 - x6)))) = true then (Q44.l1 k4 a1 a2 x3 x6 x8 (w64 (x6 + 1))) else (Q44.l0 k4 a1 a2 x8 x6 (w64 (x3 + 1)))) = some r ∧ k4 ≤ k3 ∧ x8.length = a0.length) ?_ ?_
   ·refine jIf H (fun c7 H => ?_) fun c7 H => ?_
    ·refine J.seq (Zb [0, 1, 2, 7, 8, 9] ?_)
     refine J.block ?_
     have h44 := (sOR h12 [0] [])
     refine J.loop (fun kk env w => ∃ (x11 : List (Int)) (x12 : Int), env = [(0, .slice A1 x11.length c_1), (1, .int .i64 a1), (2, .int .i64 a2), (7, .int .i64 x6), (8, .int .i64 x3), (9, .int .i64 x12)] ∧ St w0 F0 [O23 x11 A1 c_1] [] w ∧ Q44.l2 kk a1 a2 x3 x6 x11 x12 = some r ∧ kk ≤ k3 ∧ x11.length = a0.length) (k := k3) ⟨((x1.set x6.toNat (gt x1 (w64 (x6 - 1)))).set (w64 (x6 - 1)).toNat (gt x1 x6)), (w64 (x6 - 1)), rfl, h44, H, Nat.le_refl _, e11⟩ ?_
     rintro k6 env w24 ⟨x11, x12, rfl, h30, H, hk6, e22⟩
     rcases k6 with _ | k6
     ·exact z0 H
     rw [Q44.l2] at H
     refine J.seq (J.seq (Zb [0, 1, 2, 7, 8, 9, 65] ?_))
     refine jIf H (fun c8 H => ?_) fun c8 H => ?_
     ·refine J.skip (J.seq (J.block (J.seq (J.seq ?_))))
      refine Zr h30 ?_
      have h31 := h30.drew
      refine Zv [0, 1, 4, 5, 6] ?_
      obtain ⟨⟨p9, p10⟩, H⟩ := Zo H
      have e23 := Z3 h31.wh (gO 0) p9 p10
      refine Ze 2 rfl (Zf e23 p9 p10) ?_
      refine Ze 3 rfl (Zg 0 wI (gO 0) p9 p10) ?_
      obtain ⟨⟨p11, p12⟩, H⟩ := Zo H
      refine Ze 7 rfl (Zf e23 p11 p12) ?_
      refine Ze 8 rfl (Zg 0 wI (gO 0) p11 p12) ?_
      obtain ⟨r2, q2, H⟩ := Zp H
      refine Zl 9 rfl (Zi [] (Q23.spec q2) h31 rfl Zt) ?_
      rintro _ w25 ⟨_, ⟨rfl, rfl⟩, h32⟩
      replace h32 := nf h32
      refine ⟨⟨[], h32⟩, ?_⟩
      refine Zv [10] ?_
      refine Zy [0, 1, 2, 7, 8, 9, 78] ?_
      refine jIf H (fun c9 H => ?_) fun c9 H => ?_
      ·refine Wn [0, 1, 2, 7, 8] ?_
       refine J.exit ?_
       have h33 := (sOR h32 [0] [])
       exact ⟨k6, x11, rfl, h33, H, by omega, e22⟩
      refine J.skip (J.mid (fun env w => env = [(0, .slice A1 ((x11.set x12.toNat (gt x11 (w64 (x12 - 1)))).set (w64 (x12 - 1)).toNat (gt x11 x12)).length c_1), (1, .int .i64 a1), (2, .int .i64 a2), (7, .int .i64 x6), (8, .int .i64 x3), (9, .int .i64 x12)] ∧ St w0 F0 [O23 ((x11.set x12.toNat (gt x11 (w64 (x12 - 1)))).set (w64 (x12 - 1)).toNat (gt x11 x12)) A1 c_1] [] w) ?_ ?_)
      ·refine Zr (Zc h32 []) ?_
       have h36 := h32.drew
       refine Zv [0, 1, 2, 3, 4, 5, 6, 7, 10, 11] ?_
       refine Ze 8 rfl (Zf e23 p11 p12) ?_
       refine Ze 12 rfl (Zf e23 p9 p10) ?_
       refine HJ.pick [9, 13] (i := 9) rfl rfl rfl rfl ?_
       refine (Z7 ?_ (Z7 ?_ Y4))
       ·refine Z1 9 rfl (OpT.ofq (Zg 0 h36.wht (gO 0) p11 p12)) ?_
        rintro _ _ ⟨rfl, rfl⟩
        replace h36 := nf h36
        refine ⟨⟨[_], h36⟩, ?_⟩
        refine Zl 13 rfl (OpT.ofq (Zg 0 h36.wht (gO 0) p9 p10)) ?_
        rintro _ _ ⟨rfl, rfl⟩
        replace h36 := nf h36
        refine ⟨⟨[_], h36⟩, ?_⟩
        refine Ze 14 rfl (Zf e23 p9 p10) ?_
        refine Zl 15 rfl (Zj 0 (.int .u32) x12 (gt x11 (w64 (x12 - 1))) 0 h36 rfl p9 p10) ?_
        intro _ w28 h37
        replace h37 := nf h37
        refine ⟨⟨[_], h37⟩, ?_⟩
        have e26 : (x11.set x12.toNat (gt x11 (w64 (x12 - 1)))).length = a0.length := List.length_set.trans e22
        refine Ze 16 rfl (Zf e23 p11 p12) ?_
        refine Zl 17 rfl (Zj 0 (.int .u32) (w64 (x12 - 1)) (gt x11 x12) 0 h37 rfl p11 (by simpa only [List.length_set] using p12)) ?_
        intro _ w29 h38
        replace h38 := nf h38
        refine ⟨⟨[_], h38⟩, ?_⟩
        have e27 : ((x11.set x12.toNat (gt x11 (w64 (x12 - 1)))).set (w64 (x12 - 1)).toNat (gt x11 x12)).length = a0.length := List.length_set.trans e26
        refine Zy [0, 1, 2, 7, 8, 9] ?_
        exact Zw ⟨(by simp only [List.length_set, List.length_nil] <;> rfl), ((h38.only [0] rfl).rds [] rfl)⟩
       ·refine Z1 13 rfl (OpT.ofq (Zg 0 h36.wht (gO 0) p9 p10)) ?_
        rintro _ _ ⟨rfl, rfl⟩
        replace h36 := nf h36
        refine ⟨⟨[_], h36⟩, ?_⟩
        refine Zl 9 rfl (OpT.ofq (Zg 0 h36.wht (gO 0) p11 p12)) ?_
        rintro _ _ ⟨rfl, rfl⟩
        replace h36 := nf h36
        refine ⟨⟨[_], h36⟩, ?_⟩
        refine Ze 14 rfl (Zf e23 p9 p10) ?_
        refine Zl 15 rfl (Zj 0 (.int .u32) x12 (gt x11 (w64 (x12 - 1))) 0 h36 rfl p9 p10) ?_
        intro _ w30 h39
        replace h39 := nf h39
        refine ⟨⟨[_], h39⟩, ?_⟩
        have e28 : (x11.set x12.toNat (gt x11 (w64 (x12 - 1)))).length = a0.length := List.length_set.trans e22
        refine Ze 16 rfl (Zf e23 p11 p12) ?_
        refine Zl 17 rfl (Zj 0 (.int .u32) (w64 (x12 - 1)) (gt x11 x12) 0 h39 rfl p11 (by simpa only [List.length_set] using p12)) ?_
        intro _ w31 h40
        replace h40 := nf h40
        refine ⟨⟨[_], h40⟩, ?_⟩
        have e29 : ((x11.set x12.toNat (gt x11 (w64 (x12 - 1)))).set (w64 (x12 - 1)).toNat (gt x11 x12)).length = a0.length := List.length_set.trans e28
        refine Zy [0, 1, 2, 7, 8, 9] ?_
        exact Zw ⟨(by simp only [List.length_set, List.length_nil] <;> rfl), ((h40.only [0] rfl).rds [] rfl)⟩
      rintro env w32 ⟨rfl, h41⟩
      have e30 : ((x11.set x12.toNat (gt x11 (w64 (x12 - 1)))).set (w64 (x12 - 1)).toNat (gt x11 x12)).length = a0.length := by first | (simp only [List.length_set]; done) | (simp only [List.length_set]; exact e22)
      refine Zb [0, 1, 2, 7, 8, 9] ?_
      have h42 := (sOR h41 [0] [])
      exact ⟨k6, by omega, ((x11.set x12.toNat (gt x11 (w64 (x12 - 1)))).set (w64 (x12 - 1)).toNat (gt x11 x12)), (w64 (x12 - 1)), rfl, h42, H, by omega, e30⟩
     refine Wn [0, 1, 2, 7, 8] ?_
     refine J.exit ?_
     have h43 := (sOR h30 [0] [])
     exact ⟨k6, x11, rfl, h43, H, by omega, e22⟩
    refine Wn [0, 1, 2, 7, 8] ?_
    refine J.skip ?_
    have h45 := (sOR h12 [0] [])
    exact ⟨k3, ((x1.set x6.toNat (gt x1 (w64 (x6 - 1)))).set (w64 (x6 - 1)).toNat (gt x1 x6)), rfl, h45, H, Nat.le_refl _, e11⟩
   rintro env w14 ⟨k4, x8, rfl, h13, H, hk4, e12⟩
   refine J.seq (Zb [0, 1, 2, 7, 8, 98] ?_)
   refine jIf H (fun c4 H => ?_) fun c4 H => ?_
   ·refine J.seq (Zb [0, 1, 2, 7, 8, 10] ?_)
    refine J.block ?_
    have h28 := (sOR h13 [0] [])
    refine J.loop (fun kk env w => ∃ (x9 : List (Int)) (x10 : Int), env = [(0, .slice A1 x9.length c_1), (1, .int .i64 a1), (2, .int .i64 a2), (7, .int .i64 x6), (8, .int .i64 x3), (10, .int .i64 x10)] ∧ St w0 F0 [O23 x9 A1 c_1] [] w ∧ Q44.l1 kk a1 a2 x3 x6 x9 x10 = some r ∧ kk ≤ k4 ∧ x9.length = a0.length) (k := k4) ⟨x8, (w64 (x6 + 1)), rfl, h28, H, Nat.le_refl _, e12⟩ ?_
    rintro k5 env w15 ⟨x9, x10, rfl, h14, H, hk5, e13⟩
    rcases k5 with _ | k5
    ·exact z0 H
    rw [Q44.l1] at H
    refine J.seq (J.seq (Zb [0, 1, 2, 7, 8, 10, 103] ?_))
    refine jIf H (fun c5 H => ?_) fun c5 H => ?_
    ·refine J.skip (J.seq (J.block (J.seq (J.seq ?_))))
     refine Zr h14 ?_
     have h15 := h14.drew
     refine Zv [0, 1, 4, 5, 6] ?_
     obtain ⟨⟨p5, p6⟩, H⟩ := Zo H
     have e14 := Z3 h15.wh (gO 0) p5 p6
     refine Ze 2 rfl (Zf e14 p5 p6) ?_
     refine Ze 3 rfl (Zg 0 wI (gO 0) p5 p6) ?_
     obtain ⟨⟨p7, p8⟩, H⟩ := Zo H
     refine Ze 7 rfl (Zf e14 p7 p8) ?_
     refine Ze 8 rfl (Zg 0 wI (gO 0) p7 p8) ?_
     obtain ⟨r1, q1, H⟩ := Zp H
     refine Zl 9 rfl (Zi [] (Q23.spec q1) h15 rfl Zt) ?_
     rintro _ w16 ⟨_, ⟨rfl, rfl⟩, h16⟩
     replace h16 := nf h16
     refine ⟨⟨[], h16⟩, ?_⟩
     refine Zv [10] ?_
     refine Zy [0, 1, 2, 7, 8, 10, 116] ?_
     refine jIf H (fun c6 H => ?_) fun c6 H => ?_
     ·refine Wn [0, 1, 2, 7, 8] ?_
      refine J.exit ?_
      have h17 := (sOR h16 [0] [])
      exact ⟨k5, x9, x6, rfl, h17, H, by omega, e13⟩
     refine J.skip (J.mid (fun env w => env = [(0, .slice A1 ((x9.set x10.toNat (gt x9 (w64 (x10 - 1)))).set (w64 (x10 - 1)).toNat (gt x9 x10)).length c_1), (1, .int .i64 a1), (2, .int .i64 a2), (7, .int .i64 x6), (8, .int .i64 x3), (10, .int .i64 x10)] ∧ St w0 F0 [O23 ((x9.set x10.toNat (gt x9 (w64 (x10 - 1)))).set (w64 (x10 - 1)).toNat (gt x9 x10)) A1 c_1] [] w) ?_ ?_)
     ·refine Zr (Zc h16 []) ?_
      have h20 := h16.drew
      refine Zv [0, 1, 2, 3, 4, 5, 6, 7, 10, 11] ?_
      refine Ze 8 rfl (Zf e14 p7 p8) ?_
      refine Ze 12 rfl (Zf e14 p5 p6) ?_
      refine HJ.pick [9, 13] (i := 9) rfl rfl rfl rfl ?_
      refine (Z7 ?_ (Z7 ?_ Y4))
      ·refine Z1 9 rfl (OpT.ofq (Zg 0 h20.wht (gO 0) p7 p8)) ?_
       rintro _ _ ⟨rfl, rfl⟩
       replace h20 := nf h20
       refine ⟨⟨[_], h20⟩, ?_⟩
       refine Zl 13 rfl (OpT.ofq (Zg 0 h20.wht (gO 0) p5 p6)) ?_
       rintro _ _ ⟨rfl, rfl⟩
       replace h20 := nf h20
       refine ⟨⟨[_], h20⟩, ?_⟩
       refine Ze 14 rfl (Zf e14 p5 p6) ?_
       refine Zl 15 rfl (Zj 0 (.int .u32) x10 (gt x9 (w64 (x10 - 1))) 0 h20 rfl p5 p6) ?_
       intro _ w19 h21
       replace h21 := nf h21
       refine ⟨⟨[_], h21⟩, ?_⟩
       have e17 : (x9.set x10.toNat (gt x9 (w64 (x10 - 1)))).length = a0.length := List.length_set.trans e13
       refine Ze 16 rfl (Zf e14 p7 p8) ?_
       refine Zl 17 rfl (Zj 0 (.int .u32) (w64 (x10 - 1)) (gt x9 x10) 0 h21 rfl p7 (by simpa only [List.length_set] using p8)) ?_
       intro _ w20 h22
       replace h22 := nf h22
       refine ⟨⟨[_], h22⟩, ?_⟩
       have e18 : ((x9.set x10.toNat (gt x9 (w64 (x10 - 1)))).set (w64 (x10 - 1)).toNat (gt x9 x10)).length = a0.length := List.length_set.trans e17
       refine Zy [0, 1, 2, 7, 8, 10] ?_
       exact Zw ⟨(by simp only [List.length_set, List.length_nil] <;> rfl), ((h22.only [0] rfl).rds [] rfl)⟩
      ·refine Z1 13 rfl (OpT.ofq (Zg 0 h20.wht (gO 0) p5 p6)) ?_
       rintro _ _ ⟨rfl, rfl⟩
       replace h20 := nf h20
       refine ⟨⟨[_], h20⟩, ?_⟩
       refine Zl 9 rfl (OpT.ofq (Zg 0 h20.wht (gO 0) p7 p8)) ?_
       rintro _ _ ⟨rfl, rfl⟩
       replace h20 := nf h20
       refine ⟨⟨[_], h20⟩, ?_⟩
       refine Ze 14 rfl (Zf e14 p5 p6) ?_
       refine Zl 15 rfl (Zj 0 (.int .u32) x10 (gt x9 (w64 (x10 - 1))) 0 h20 rfl p5 p6) ?_
       intro _ w21 h23
       replace h23 := nf h23
       refine ⟨⟨[_], h23⟩, ?_⟩
       have e19 : (x9.set x10.toNat (gt x9 (w64 (x10 - 1)))).length = a0.length := List.length_set.trans e13
       refine Ze 16 rfl (Zf e14 p7 p8) ?_
       refine Zl 17 rfl (Zj 0 (.int .u32) (w64 (x10 - 1)) (gt x9 x10) 0 h23 rfl p7 (by simpa only [List.length_set] using p8)) ?_
       intro _ w22 h24
       replace h24 := nf h24
       refine ⟨⟨[_], h24⟩, ?_⟩
       have e20 : ((x9.set x10.toNat (gt x9 (w64 (x10 - 1)))).set (w64 (x10 - 1)).toNat (gt x9 x10)).length = a0.length := List.length_set.trans e19
       refine Zy [0, 1, 2, 7, 8, 10] ?_
       exact Zw ⟨(by simp only [List.length_set, List.length_nil] <;> rfl), ((h24.only [0] rfl).rds [] rfl)⟩
     rintro env w23 ⟨rfl, h25⟩
     have e21 : ((x9.set x10.toNat (gt x9 (w64 (x10 - 1)))).set (w64 (x10 - 1)).toNat (gt x9 x10)).length = a0.length := by first | (simp only [List.length_set]; done) | (simp only [List.length_set]; exact e13)
     refine Zb [0, 1, 2, 7, 8, 10] ?_
     have h26 := (sOR h25 [0] [])
     exact ⟨k5, by omega, ((x9.set x10.toNat (gt x9 (w64 (x10 - 1)))).set (w64 (x10 - 1)).toNat (gt x9 x10)), (w64 (x10 + 1)), rfl, h26, H, by omega, e21⟩
    refine Wn [0, 1, 2, 7, 8] ?_
    refine J.exit ?_
    have h27 := (sOR h14 [0] [])
    exact ⟨k5, x9, x6, rfl, h27, H, by omega, e13⟩
   refine Wn [0, 1, 2, 7, 8] ?_
   refine J.skip ?_
   have h29 := (sOR h13 [0] [])
   exact ⟨k4, x8, x6, rfl, h29, H, by omega, e12⟩
  rintro env w3 ⟨k2, x4, x5, rfl, h2, H, hk2, e2⟩
  refine Zb [0, 1, 2, 7, 8] ?_
  have h3 := (sOR h2 [0] [])
  exact ⟨k2, by omega, x4, x5, (w64 (x3 + 1)), rfl, h3, H, e2⟩
 refine J.exit (J.seq (Zb [6] ?_))
 refine J.ret ?_
 cases H
 exact ⟨_, _, _, Za, ⟨rfl, rfl, e1⟩, Zc h1 [0]⟩

mutual
def Q45.l0 : Nat → (Int) → (List (Int)) → (Int) → (Int) → Option (Int × List (Int))
 | 0, _, _, _, _ => none
 | k + 1, a1, x1, x2, x3 => Q45.l1 k a1 x1 x3 x2
def Q45.l1 : Nat → (Int) → (List (Int)) → (Int) → (Int) → Option (Int × List (Int))
 | 0, _, _, _, _ => none
 | k + 1, a1, x1, x3, x4 => if (decide (x4 ≤ x3)) = true then (if 0 ≤ a1 ∧ a1 < (x1.length : Int) then (if 0 ≤ x4 ∧ x4 < (x1.length : Int) then ((Q23.f (gt x1 a1) (gt x1 x4)).bind fun r1 => (if (!r1) = true then (Q45.l1 k a1 x1 x3 (w64 (x4 + 1))) else (Q45.l2 k a1 x1 x4 x3))) else none) else none) else (Q45.l3 k a1 x1 x3 x4)
def Q45.l2 : Nat → (Int) → (List (Int)) → (Int) → (Int) → Option (Int × List (Int))
 | 0, _, _, _, _ => none
 | k + 1, a1, x1, x4, x5 => if (decide (x4 ≤ x5)) = true then (if 0 ≤ x5 ∧ x5 < (x1.length : Int) then ((Q23.f (gt x1 a1) (gt x1 x5)).bind fun r2 => (if r2 = true then (Q45.l2 k a1 x1 x4 (w64 (x5 - 1))) else (if (decide (x5 < x4)) = true then (some (x4, x1)) else (Q45.l0 k a1 ((x1.set x4.toNat (gt x1 x5)).set x5.toNat (gt x1 x4)) (w64 (x4 + 1)) (w64 (x5 - 1)))))) else none) else (if (decide (x5 < x4)) = true then (some (x4, x1)) else (if 0 ≤ x5 ∧ x5 < (x1.length : Int) then (Q45.l0 k a1 ((x1.set x4.toNat (gt x1 x5)).set x5.toNat (gt x1 x4)) (w64 (x4 + 1)) (w64 (x5 - 1))) else none))
def Q45.l3 : Nat → (Int) → (List (Int)) → (Int) → (Int) → Option (Int × List (Int))
 | 0, _, _, _, _ => none
 | k + 1, a1, x1, x3, x4 => if (decide (x3 < x4)) = true then (some (x4, x1)) else (if 0 ≤ x3 ∧ x3 < (x1.length : Int) then (if 0 ≤ x4 ∧ x4 < (x1.length : Int) then (Q45.l0 k a1 ((x1.set x4.toNat (gt x1 x3)).set x3.toNat (gt x1 x4)) (w64 (x4 + 1)) (w64 (x3 - 1))) else none) else none)
end
def Q45.f (k : Nat) (a0 : List (Int)) (a1 : Int) (a2 : Int) (a3 : Int) : Option (Int × List (Int)) := if 0 ≤ a3 ∧ a3 < (a0.length : Int) then (if 0 ≤ a1 ∧ a1 < (a0.length : Int) then (Q45.l0 k a1 ((a0.set a1.toNat (gt a0 a3)).set a3.toNat (gt a0 a1)) (w64 (a1 + 1)) (w64 (a2 - 1))) else none) else none
theorem Q45.spec {k : Nat} {a0 : List (Int)} {a1 : Int} {a2 : Int} {a3 : Int} {A1 : Option Addr} {c_1 : Nat} {r : Int × List (Int)} (H : Q45.f k a0 a1 a2 a3 = some r) :
  Spec Try.prog 175 [.slice A1 a0.length c_1, .int .i64 a1, .int .i64 a2, .int .i64 a3] [O23 a0 A1 c_1] [] (fun v l => v = .int .i64 r.1 ∧ l = [O23 r.2 A1 c_1] ∧ r.2.length = a0.length) := by
 refine Zs Try.func175 fun w0 F0 h0 => ?_
 unfold Q45.f at H
 refine J.seq (Zb [0, 1, 2, 3] ?_)
 refine J.seq ?_
 obtain ⟨⟨p1, p2⟩, H⟩ := Zo H
 obtain ⟨⟨p3, p4⟩, H⟩ := Zo H
 refine J.midS (fun env w => env = [(0, .slice A1 ((a0.set a1.toNat (gt a0 a3)).set a3.toNat (gt a0 a1)).length c_1), (1, .int .i64 a1), (2, .int .i64 a2)] ∧ St w0 F0 [O23 ((a0.set a1.toNat (gt a0 a3)).set a3.toNat (gt a0 a1)) A1 c_1] [] w) ?_ ?_
 ·refine Zr (Zc h0 []) ?_
  have h3 := h0.drew
  refine Zv [0, 1, 2, 3, 4, 5, 8, 9] ?_
  have e4 := Z3 h3.wh (gO 0) p1 p2
  refine Ze 6 rfl (Zf e4 p1 p2) ?_
  refine Ze 10 rfl (Zf e4 p3 p4) ?_
  refine HJ.pick [7, 11] (i := 7) rfl rfl rfl rfl ?_
  refine (Z7 ?_ (Z7 ?_ Y4))
  ·refine Z1 7 rfl (OpT.ofq (Zg 0 h3.wht (gO 0) p1 p2)) ?_
   rintro _ _ ⟨rfl, rfl⟩
   replace h3 := nf h3
   refine ⟨⟨[_], h3⟩, ?_⟩
   refine Zl 11 rfl (OpT.ofq (Zg 0 h3.wht (gO 0) p3 p4)) ?_
   rintro _ _ ⟨rfl, rfl⟩
   replace h3 := nf h3
   refine ⟨⟨[_], h3⟩, ?_⟩
   refine Ze 12 rfl (Zf e4 p3 p4) ?_
   refine Zl 13 rfl (Zj 0 (.int .u32) a1 (gt a0 a3) 0 h3 rfl p3 p4) ?_
   intro _ w3 h4
   replace h4 := nf h4
   refine ⟨⟨[_], h4⟩, ?_⟩
   have e5 : (a0.set a1.toNat (gt a0 a3)).length = a0.length := List.length_set.trans (rfl : a0.length = a0.length)
   refine Ze 14 rfl (Zf e4 p1 p2) ?_
   refine Zl 15 rfl (Zj 0 (.int .u32) a3 (gt a0 a1) 0 h4 rfl p1 (by simpa only [List.length_set] using p2)) ?_
   intro _ w4 h5
   replace h5 := nf h5
   refine ⟨⟨[_], h5⟩, ?_⟩
   have e6 : ((a0.set a1.toNat (gt a0 a3)).set a3.toNat (gt a0 a1)).length = a0.length := List.length_set.trans e5
   refine Zy [0, 1, 2] ?_
   exact Zw ⟨(by simp only [List.length_set, List.length_nil] <;> rfl), ((h5.only [0] rfl).rds [] rfl)⟩
  ·refine Z1 11 rfl (OpT.ofq (Zg 0 h3.wht (gO 0) p3 p4)) ?_
   rintro _ _ ⟨rfl, rfl⟩
   replace h3 := nf h3
   refine ⟨⟨[_], h3⟩, ?_⟩
   refine Zl 7 rfl (OpT.ofq (Zg 0 h3.wht (gO 0) p1 p2)) ?_
   rintro _ _ ⟨rfl, rfl⟩
   replace h3 := nf h3
   refine ⟨⟨[_], h3⟩, ?_⟩
   refine Ze 12 rfl (Zf e4 p3 p4) ?_
   refine Zl 13 rfl (Zj 0 (.int .u32) a1 (gt a0 a3) 0 h3 rfl p3 p4) ?_
   intro _ w5 h6
   replace h6 := nf h6
   refine ⟨⟨[_], h6⟩, ?_⟩
   have e7 : (a0.set a1.toNat (gt a0 a3)).length = a0.length := List.length_set.trans (rfl : a0.length = a0.length)
   refine Ze 14 rfl (Zf e4 p1 p2) ?_
   refine Zl 15 rfl (Zj 0 (.int .u32) a3 (gt a0 a1) 0 h6 rfl p1 (by simpa only [List.length_set] using p2)) ?_
   intro _ w6 h7
   replace h7 := nf h7
   refine ⟨⟨[_], h7⟩, ?_⟩
   have e8 : ((a0.set a1.toNat (gt a0 a3)).set a3.toNat (gt a0 a1)).length = a0.length := List.length_set.trans e7
   refine Zy [0, 1, 2] ?_
   exact Zw ⟨(by simp only [List.length_set, List.length_nil] <;> rfl), ((h7.only [0] rfl).rds [] rfl)⟩
 rintro env w7 ⟨rfl, h8⟩
 have e9 : ((a0.set a1.toNat (gt a0 a3)).set a3.toNat (gt a0 a1)).length = a0.length := by first | (simp only [List.length_set]; done) | (simp only [List.length_set]; exact (rfl : a0.length = a0.length))
 refine J.seq (Zb [0, 1, 9, 10] ?_)
 refine J.seq (J.block ?_)
 have h50 := (sOR h8 [0] [])
 refine J.loop (fun kk env w => ∃ (x1 : List (Int)) (x2 : Int) (x3 : Int), env = [(0, .slice A1 x1.length c_1), (1, .int .i64 a1), (9, .int .i64 x2), (10, .int .i64 x3)] ∧ St w0 F0 [O23 x1 A1 c_1] [] w ∧ Q45.l0 kk a1 x1 x2 x3 = some r ∧ x1.length = a0.length) (k := k) ⟨((a0.set a1.toNat (gt a0 a3)).set a3.toNat (gt a0 a1)), (w64 (a1 + 1)), (w64 (a2 - 1)), rfl, h50, H, e9⟩ ?_
 rintro k1 env w8 ⟨x1, x2, x3, rfl, h9, H, e10⟩
 rcases k1 with _ | k1
 ·exact z0 H
 rw [Q45.l0] at H
 refine J.block (J.seq (J.block ?_))
 have h49 := (sOR h9 [0] [])
 refine J.loop (fun kk env w => ∃ (x4 : Int), env = [(0, .slice A1 x1.length c_1), (1, .int .i64 a1), (9, .int .i64 x4), (10, .int .i64 x3)] ∧ St w0 F0 [O23 x1 A1 c_1] [] w ∧ Q45.l1 kk a1 x1 x3 x4 = some r ∧ kk ≤ k1) (k := k1) ⟨x2, rfl, h49, H, Nat.le_refl _⟩ ?_
 rintro k2 env w9 ⟨x4, rfl, h10, H, hk2⟩
 rcases k2 with _ | k2
 ·exact z0 H
 rw [Q45.l1] at H
 refine J.seq (J.seq ?_)
 refine Zr h10 ?_
 have h11 := h10.drew
 refine Zv [0, 1, 2, 3] ?_
 refine Xz 32 H (fun c1 H => ?_) fun c1 H => ?_
 ·refine Zv [4, 5, 8, 9] ?_
  obtain ⟨⟨p5, p6⟩, H⟩ := Zo H
  have e11 := Z3 h11.wh (gO 0) p5 p6
  refine Ze 6 rfl (Zf e11 p5 p6) ?_
  refine Ze 7 rfl (Zg 0 wI (gO 0) p5 p6) ?_
  obtain ⟨⟨p7, p8⟩, H⟩ := Zo H
  refine Ze 10 rfl (Zf e11 p7 p8) ?_
  refine Ze 11 rfl (Zg 0 wI (gO 0) p7 p8) ?_
  obtain ⟨r1, q1, H⟩ := Zp H
  refine Zl 12 rfl (Zi [] (Q23.spec q1) h11 rfl Zt) ?_
  rintro _ w10 ⟨_, ⟨rfl, rfl⟩, h12⟩
  replace h12 := nf h12
  refine ⟨⟨[], h12⟩, ?_⟩
  refine Zv [13, 14] ?_
  refine Zy [0, 1, 9, 10, 43] ?_
  refine jIf H (fun c2 H => ?_) fun c2 H => ?_
  ·refine J.skip (J.block (Zb [0, 1, 9, 10] ?_))
   have h13 := (sOR h12 [0] [])
   exact ⟨k2, by omega, (w64 (x4 + 1)), rfl, h13, H, by omega⟩
  refine J.exit (J.seq (J.block ?_))
  refine Wn [0, 1, 9, 10] ?_
  have h36 := (sOR h12 [0] [])
  refine J.loop (fun kk env w => ∃ (x5 : Int), env = [(0, .slice A1 x1.length c_1), (1, .int .i64 a1), (9, .int .i64 x4), (10, .int .i64 x5)] ∧ St w0 F0 [O23 x1 A1 c_1] [] w ∧ Q45.l2 kk a1 x1 x4 x5 = some r ∧ kk ≤ k2) (k := k2) ⟨x3, rfl, h36, H, Nat.le_refl _⟩ ?_
  rintro k3 env w11 ⟨x5, rfl, h14, H, hk3⟩
  rcases k3 with _ | k3
  ·exact z0 H
  rw [Q45.l2] at H
  refine J.seq (J.seq ?_)
  refine Zr h14 ?_
  have h15 := h14.drew
  refine Zv [0, 1, 2, 3] ?_
  refine Xz 49 H (fun c3 H => ?_) fun c3 H => ?_
  ·refine Zv [4, 5, 8, 9] ?_
   refine Ze 6 rfl (Zf e11 p5 p6) ?_
   refine Ze 7 rfl (Zg 0 wI (gO 0) p5 p6) ?_
   obtain ⟨⟨p9, p10⟩, H⟩ := Zo H
   refine Ze 10 rfl (Zf e11 p9 p10) ?_
   refine Ze 11 rfl (Zg 0 wI (gO 0) p9 p10) ?_
   obtain ⟨r2, q2, H⟩ := Zp H
   refine Zl 12 rfl (Zi [] (Q23.spec q2) h15 rfl Zt) ?_
   rintro _ w12 ⟨_, ⟨rfl, rfl⟩, h16⟩
   replace h16 := nf h16
   refine ⟨⟨[], h16⟩, ?_⟩
   refine Zv [13] ?_
   refine Zy [0, 1, 9, 10, 59] ?_
   refine jIf H (fun c4 H => ?_) fun c4 H => ?_
   ·refine J.skip (J.block (Zb [0, 1, 9, 10] ?_))
    have h17 := (sOR h16 [0] [])
    exact ⟨k3, by omega, (w64 (x5 - 1)), rfl, h17, H, by omega⟩
   refine J.exit (J.seq (J.seq (Zb [0, 1, 9, 10, 64] ?_)))
   refine jIf H (fun c5 H => ?_) fun c5 H => ?_
   ·refine J.exit (J.seq (Zb [8] ?_))
    refine J.ret ?_
    cases H
    exact ⟨_, _, _, Za, ⟨rfl, rfl, e10⟩, Zc h16 [0]⟩
   refine J.skip (J.seq (J.midS (fun env w => env = [(0, .slice A1 ((x1.set x4.toNat (gt x1 x5)).set x5.toNat (gt x1 x4)).length c_1), (1, .int .i64 a1), (9, .int .i64 x4), (10, .int .i64 x5)] ∧ St w0 F0 [O23 ((x1.set x4.toNat (gt x1 x5)).set x5.toNat (gt x1 x4)) A1 c_1] [] w) ?_ ?_))
   ·refine Zr (Zc h16 []) ?_
    have h20 := h16.drew
    refine Zv [0, 1, 2, 3, 4, 5, 8, 9] ?_
    refine Ze 6 rfl (Zf e11 p9 p10) ?_
    refine Ze 10 rfl (Zf e11 p7 p8) ?_
    refine HJ.pick [7, 11] (i := 7) rfl rfl rfl rfl ?_
    refine (Z7 ?_ (Z7 ?_ Y4))
    ·refine Z1 7 rfl (OpT.ofq (Zg 0 h20.wht (gO 0) p9 p10)) ?_
     rintro _ _ ⟨rfl, rfl⟩
     replace h20 := nf h20
     refine ⟨⟨[_], h20⟩, ?_⟩
     refine Zl 11 rfl (OpT.ofq (Zg 0 h20.wht (gO 0) p7 p8)) ?_
     rintro _ _ ⟨rfl, rfl⟩
     replace h20 := nf h20
     refine ⟨⟨[_], h20⟩, ?_⟩
     refine Ze 12 rfl (Zf e11 p7 p8) ?_
     refine Zl 13 rfl (Zj 0 (.int .u32) x4 (gt x1 x5) 0 h20 rfl p7 p8) ?_
     intro _ w15 h21
     replace h21 := nf h21
     refine ⟨⟨[_], h21⟩, ?_⟩
     have e14 : (x1.set x4.toNat (gt x1 x5)).length = a0.length := List.length_set.trans e10
     refine Ze 14 rfl (Zf e11 p9 p10) ?_
     refine Zl 15 rfl (Zj 0 (.int .u32) x5 (gt x1 x4) 0 h21 rfl p9 (by simpa only [List.length_set] using p10)) ?_
     intro _ w16 h22
     replace h22 := nf h22
     refine ⟨⟨[_], h22⟩, ?_⟩
     have e15 : ((x1.set x4.toNat (gt x1 x5)).set x5.toNat (gt x1 x4)).length = a0.length := List.length_set.trans e14
     refine Zy [0, 1, 9, 10] ?_
     exact Zw ⟨(by simp only [List.length_set, List.length_nil] <;> rfl), ((h22.only [0] rfl).rds [] rfl)⟩
    ·refine Z1 11 rfl (OpT.ofq (Zg 0 h20.wht (gO 0) p7 p8)) ?_
     rintro _ _ ⟨rfl, rfl⟩
     replace h20 := nf h20
     refine ⟨⟨[_], h20⟩, ?_⟩
     refine Zl 7 rfl (OpT.ofq (Zg 0 h20.wht (gO 0) p9 p10)) ?_
     rintro _ _ ⟨rfl, rfl⟩
     replace h20 := nf h20
     refine ⟨⟨[_], h20⟩, ?_⟩
     refine Ze 12 rfl (Zf e11 p7 p8) ?_
     refine Zl 13 rfl (Zj 0 (.int .u32) x4 (gt x1 x5) 0 h20 rfl p7 p8) ?_
     intro _ w17 h23
     replace h23 := nf h23
     refine ⟨⟨[_], h23⟩, ?_⟩
     have e16 : (x1.set x4.toNat (gt x1 x5)).length = a0.length := List.length_set.trans e10
     refine Ze 14 rfl (Zf e11 p9 p10) ?_
     refine Zl 15 rfl (Zj 0 (.int .u32) x5 (gt x1 x4) 0 h23 rfl p9 (by simpa only [List.length_set] using p10)) ?_
     intro _ w18 h24
     replace h24 := nf h24
     refine ⟨⟨[_], h24⟩, ?_⟩
     have e17 : ((x1.set x4.toNat (gt x1 x5)).set x5.toNat (gt x1 x4)).length = a0.length := List.length_set.trans e16
     refine Zy [0, 1, 9, 10] ?_
     exact Zw ⟨(by simp only [List.length_set, List.length_nil] <;> rfl), ((h24.only [0] rfl).rds [] rfl)⟩
   rintro env w19 ⟨rfl, h25⟩
   have e18 : ((x1.set x4.toNat (gt x1 x5)).set x5.toNat (gt x1 x4)).length = a0.length := by first | (simp only [List.length_set]; done) | (simp only [List.length_set]; exact e10)
   refine J.seq (Zb [0, 1, 9, 10] ?_)
   refine Zb [0, 1, 9, 10] ?_
   have h26 := (sOR h25 [0] [])
   exact ⟨k3, by omega, ((x1.set x4.toNat (gt x1 x5)).set x5.toNat (gt x1 x4)), (w64 (x4 + 1)), (w64 (x5 - 1)), rfl, h26, H, e18⟩
  refine Zv [4, 5, 6, 7, 8, 9, 10, 11, 12, 13] ?_
  refine Zy [0, 1, 9, 10, 59] ?_
  refine Zz ?_
  refine J.exit (J.seq (J.seq (Zb [0, 1, 9, 10, 64] ?_)))
  refine jIf H (fun c6 H => ?_) fun c6 H => ?_
  ·refine J.exit (J.seq (Zb [8] ?_))
   refine J.ret ?_
   cases H
   exact ⟨_, _, _, Za, ⟨rfl, rfl, e10⟩, Zc h15 [0]⟩
  refine J.skip (J.seq ?_)
  obtain ⟨⟨p11, p12⟩, H⟩ := Zo H
  refine J.midS (fun env w => env = [(0, .slice A1 ((x1.set x4.toNat (gt x1 x5)).set x5.toNat (gt x1 x4)).length c_1), (1, .int .i64 a1), (9, .int .i64 x4), (10, .int .i64 x5)] ∧ St w0 F0 [O23 ((x1.set x4.toNat (gt x1 x5)).set x5.toNat (gt x1 x4)) A1 c_1] [] w) ?_ ?_
  ·refine Zr (Zc h15 []) ?_
   have h29 := h15.drew
   refine Zv [0, 1, 2, 3, 4, 5, 8, 9] ?_
   refine Ze 6 rfl (Zf e11 p11 p12) ?_
   refine Ze 10 rfl (Zf e11 p7 p8) ?_
   refine HJ.pick [7, 11] (i := 7) rfl rfl rfl rfl ?_
   refine (Z7 ?_ (Z7 ?_ Y4))
   ·refine Z1 7 rfl (OpT.ofq (Zg 0 h29.wht (gO 0) p11 p12)) ?_
    rintro _ _ ⟨rfl, rfl⟩
    replace h29 := nf h29
    refine ⟨⟨[_], h29⟩, ?_⟩
    refine Zl 11 rfl (OpT.ofq (Zg 0 h29.wht (gO 0) p7 p8)) ?_
    rintro _ _ ⟨rfl, rfl⟩
    replace h29 := nf h29
    refine ⟨⟨[_], h29⟩, ?_⟩
    refine Ze 12 rfl (Zf e11 p7 p8) ?_
    refine Zl 13 rfl (Zj 0 (.int .u32) x4 (gt x1 x5) 0 h29 rfl p7 p8) ?_
    intro _ w22 h30
    replace h30 := nf h30
    refine ⟨⟨[_], h30⟩, ?_⟩
    have e21 : (x1.set x4.toNat (gt x1 x5)).length = a0.length := List.length_set.trans e10
    refine Ze 14 rfl (Zf e11 p11 p12) ?_
    refine Zl 15 rfl (Zj 0 (.int .u32) x5 (gt x1 x4) 0 h30 rfl p11 (by simpa only [List.length_set] using p12)) ?_
    intro _ w23 h31
    replace h31 := nf h31
    refine ⟨⟨[_], h31⟩, ?_⟩
    have e22 : ((x1.set x4.toNat (gt x1 x5)).set x5.toNat (gt x1 x4)).length = a0.length := List.length_set.trans e21
    refine Zy [0, 1, 9, 10] ?_
    exact Zw ⟨(by simp only [List.length_set, List.length_nil] <;> rfl), ((h31.only [0] rfl).rds [] rfl)⟩
   ·refine Z1 11 rfl (OpT.ofq (Zg 0 h29.wht (gO 0) p7 p8)) ?_
    rintro _ _ ⟨rfl, rfl⟩
    replace h29 := nf h29
    refine ⟨⟨[_], h29⟩, ?_⟩
    refine Zl 7 rfl (OpT.ofq (Zg 0 h29.wht (gO 0) p11 p12)) ?_
    rintro _ _ ⟨rfl, rfl⟩
    replace h29 := nf h29
    refine ⟨⟨[_], h29⟩, ?_⟩
    refine Ze 12 rfl (Zf e11 p7 p8) ?_
    refine Zl 13 rfl (Zj 0 (.int .u32) x4 (gt x1 x5) 0 h29 rfl p7 p8) ?_
    intro _ w24 h32
    replace h32 := nf h32
    refine ⟨⟨[_], h32⟩, ?_⟩
    have e23 : (x1.set x4.toNat (gt x1 x5)).length = a0.length := List.length_set.trans e10
    refine Ze 14 rfl (Zf e11 p11 p12) ?_
    refine Zl 15 rfl (Zj 0 (.int .u32) x5 (gt x1 x4) 0 h32 rfl p11 (by simpa only [List.length_set] using p12)) ?_
    intro _ w25 h33
    replace h33 := nf h33
    refine ⟨⟨[_], h33⟩, ?_⟩
    have e24 : ((x1.set x4.toNat (gt x1 x5)).set x5.toNat (gt x1 x4)).length = a0.length := List.length_set.trans e23
    refine Zy [0, 1, 9, 10] ?_
    exact Zw ⟨(by simp only [List.length_set, List.length_nil] <;> rfl), ((h33.only [0] rfl).rds [] rfl)⟩
  rintro env w26 ⟨rfl, h34⟩
  have e25 : ((x1.set x4.toNat (gt x1 x5)).set x5.toNat (gt x1 x4)).length = a0.length := by first | (simp only [List.length_set]; done) | (simp only [List.length_set]; exact e10)
  refine J.seq (Zb [0, 1, 9, 10] ?_)
  refine Zb [0, 1, 9, 10] ?_
  have h35 := (sOR h34 [0] [])
  exact ⟨k3, by omega, ((x1.set x4.toNat (gt x1 x5)).set x5.toNat (gt x1 x4)), (w64 (x4 + 1)), (w64 (x5 - 1)), rfl, h35, H, e25⟩
 refine Zv [4, 5, 6, 7, 8, 9, 10, 11, 12, 13, 14] ?_
 refine Zy [0, 1, 9, 10, 43] ?_
 refine Zz ?_
 refine J.exit (J.seq (J.block ?_))
 refine Wn [0, 1, 9, 10] ?_
 have h48 := (sOR h11 [0] [])
 refine J.loop (fun kk env w => env = [(0, .slice A1 x1.length c_1), (1, .int .i64 a1), (9, .int .i64 x4), (10, .int .i64 x3)] ∧ St w0 F0 [O23 x1 A1 c_1] [] w ∧ Q45.l3 kk a1 x1 x3 x4 = some r ∧ kk ≤ k2) (k := k2) ⟨rfl, h48, H, Nat.le_refl _⟩ ?_
 rintro k4 env w27 ⟨rfl, h37, H, hk4⟩
 rcases k4 with _ | k4
 ·exact z0 H
 rw [Q45.l3] at H
 refine J.seq (J.seq ?_)
 refine Zr h37 ?_
 have h38 := h37.drew
 refine Zv [0, 1, 2, 3] ?_
 refine Zb7 49 (congrArg Value.bool c1) ?_
 refine Zv [4, 5, 6, 7, 8, 9, 10, 11, 12, 13] ?_
 refine Zy [0, 1, 9, 10, 59] ?_
 refine Zz ?_
 refine J.exit (J.seq (J.seq (Zb [0, 1, 9, 10, 64] ?_)))
 refine jIf H (fun c7 H => ?_) fun c7 H => ?_
 ·refine J.exit (J.seq (Zb [8] ?_))
  refine J.ret ?_
  cases H
  exact ⟨_, _, _, Za, ⟨rfl, rfl, e10⟩, Zc h38 [0]⟩
 refine J.skip (J.seq ?_)
 obtain ⟨⟨p13, p14⟩, H⟩ := Zo H
 obtain ⟨⟨p15, p16⟩, H⟩ := Zo H
 refine J.midS (fun env w => env = [(0, .slice A1 ((x1.set x4.toNat (gt x1 x3)).set x3.toNat (gt x1 x4)).length c_1), (1, .int .i64 a1), (9, .int .i64 x4), (10, .int .i64 x3)] ∧ St w0 F0 [O23 ((x1.set x4.toNat (gt x1 x3)).set x3.toNat (gt x1 x4)) A1 c_1] [] w) ?_ ?_
 ·refine Zr (Zc h38 []) ?_
  have h41 := h38.drew
  refine Zv [0, 1, 2, 3, 4, 5, 8, 9] ?_
  have e29 := Z3 h41.wh (gO 0) p13 p14
  refine Ze 6 rfl (Zf e29 p13 p14) ?_
  refine Ze 10 rfl (Zf e29 p15 p16) ?_
  refine HJ.pick [7, 11] (i := 7) rfl rfl rfl rfl ?_
  refine (Z7 ?_ (Z7 ?_ Y4))
  ·refine Z1 7 rfl (OpT.ofq (Zg 0 h41.wht (gO 0) p13 p14)) ?_
   rintro _ _ ⟨rfl, rfl⟩
   replace h41 := nf h41
   refine ⟨⟨[_], h41⟩, ?_⟩
   refine Zl 11 rfl (OpT.ofq (Zg 0 h41.wht (gO 0) p15 p16)) ?_
   rintro _ _ ⟨rfl, rfl⟩
   replace h41 := nf h41
   refine ⟨⟨[_], h41⟩, ?_⟩
   refine Ze 12 rfl (Zf e29 p15 p16) ?_
   refine Zl 13 rfl (Zj 0 (.int .u32) x4 (gt x1 x3) 0 h41 rfl p15 p16) ?_
   intro _ w30 h42
   replace h42 := nf h42
   refine ⟨⟨[_], h42⟩, ?_⟩
   have e30 : (x1.set x4.toNat (gt x1 x3)).length = a0.length := List.length_set.trans e10
   refine Ze 14 rfl (Zf e29 p13 p14) ?_
   refine Zl 15 rfl (Zj 0 (.int .u32) x3 (gt x1 x4) 0 h42 rfl p13 (by simpa only [List.length_set] using p14)) ?_
   intro _ w31 h43
   replace h43 := nf h43
   refine ⟨⟨[_], h43⟩, ?_⟩
   have e31 : ((x1.set x4.toNat (gt x1 x3)).set x3.toNat (gt x1 x4)).length = a0.length := List.length_set.trans e30
   refine Zy [0, 1, 9, 10] ?_
   exact Zw ⟨(by simp only [List.length_set, List.length_nil] <;> rfl), ((h43.only [0] rfl).rds [] rfl)⟩
  ·refine Z1 11 rfl (OpT.ofq (Zg 0 h41.wht (gO 0) p15 p16)) ?_
   rintro _ _ ⟨rfl, rfl⟩
   replace h41 := nf h41
   refine ⟨⟨[_], h41⟩, ?_⟩
   refine Zl 7 rfl (OpT.ofq (Zg 0 h41.wht (gO 0) p13 p14)) ?_
   rintro _ _ ⟨rfl, rfl⟩
   replace h41 := nf h41
   refine ⟨⟨[_], h41⟩, ?_⟩
   refine Ze 12 rfl (Zf e29 p15 p16) ?_
   refine Zl 13 rfl (Zj 0 (.int .u32) x4 (gt x1 x3) 0 h41 rfl p15 p16) ?_
   intro _ w32 h44
   replace h44 := nf h44
   refine ⟨⟨[_], h44⟩, ?_⟩
   have e32 : (x1.set x4.toNat (gt x1 x3)).length = a0.length := List.length_set.trans e10
   refine Ze 14 rfl (Zf e29 p13 p14) ?_
   refine Zl 15 rfl (Zj 0 (.int .u32) x3 (gt x1 x4) 0 h44 rfl p13 (by simpa only [List.length_set] using p14)) ?_
   intro _ w33 h45
   replace h45 := nf h45
   refine ⟨⟨[_], h45⟩, ?_⟩
   have e33 : ((x1.set x4.toNat (gt x1 x3)).set x3.toNat (gt x1 x4)).length = a0.length := List.length_set.trans e32
   refine Zy [0, 1, 9, 10] ?_
   exact Zw ⟨(by simp only [List.length_set, List.length_nil] <;> rfl), ((h45.only [0] rfl).rds [] rfl)⟩
 rintro env w34 ⟨rfl, h46⟩
 have e34 : ((x1.set x4.toNat (gt x1 x3)).set x3.toNat (gt x1 x4)).length = a0.length := by first | (simp only [List.length_set]; done) | (simp only [List.length_set]; exact e10)
 refine J.seq (Zb [0, 1, 9, 10] ?_)
 refine Zb [0, 1, 9, 10] ?_
 have h47 := (sOR h46 [0] [])
 exact ⟨k4, by omega, ((x1.set x4.toNat (gt x1 x3)).set x3.toNat (gt x1 x4)), (w64 (x4 + 1)), (w64 (x3 - 1)), rfl, h47, H, e34⟩

end Go.SK.T
