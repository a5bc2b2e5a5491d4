/- The types of the program, and its functions as the code computes them, each proved. -/
import Derived.Test.YtoemkinhdomnpaaXCachePlaysKB
import Derived.Test.YtoemkinhdomnpaaProg
set_option linter.unusedVariables false
set_option linter.unusedSimpArgs false
set_option maxRecDepth 20000
set_option maxHeartbeats 40000000
namespace Go.SK.T
open Go Go.SK Go.Proofs
def tt : TT := [(1, ⟨.func, 1, 8, .nilFunc⟩),
 (2, ⟨.int .i64, 1, 8, .int .i64 0⟩),
 (3, ⟨.int .i64, 1, 8, .int .i64 0⟩),
 (4, ⟨.bool, 1, 1, .bool false⟩),
 (5, ⟨.int .u8, 1, 1, .int .u8 0⟩),
 (9, ⟨.str, 1, 16, .string ⟨⟨[]⟩⟩⟩),
 (23, ⟨.int .u32, 1, 4, .int .u32 0⟩),
 (24, ⟨.ptr 51, 1, 8, .pointer none⟩),
 (25, ⟨.int .i64, 1, 8, .int .i64 0⟩),
 (28, ⟨.slice 5, 1, 24, .slice none 0 0⟩),
 (38, ⟨.slice 9, 1, 24, .slice none 0 0⟩),
 (40, ⟨.struct [(3, 0, 1), (38, 1, 1), (3, 2, 1), (3, 3, 1)], 4, 48, .agg #[.int .i64 0, .slice none 0 0, .int .i64 0, .int .i64 0]⟩),
 (47, ⟨.int .u64, 1, 8, .int .u64 0⟩),
 (49, ⟨.struct [(47, 0, 1), (47, 1, 1)], 2, 16, .agg #[.int .u64 0, .int .u64 0]⟩),
 (51, ⟨.struct [(3, 0, 1), (28, 1, 1), (49, 2, 2)], 4, 48, .agg #[.int .i64 0, .slice none 0 0, .int .u64 0, .int .u64 0]⟩),
 (83, ⟨.slice 23, 1, 24, .slice none 0 0⟩),
 (97, ⟨.slice 102, 1, 24, .slice none 0 0⟩),
 (98, ⟨.ptr 113, 1, 8, .pointer none⟩),
 (102, ⟨.struct [(3, 0, 1), (23, 1, 1), (28, 2, 1)], 3, 40, .agg #[.int .i64 0, .int .u32 0, .slice none 0 0]⟩),
 (108, ⟨.slice 162, 1, 24, .slice none 0 0⟩),
 (109, ⟨.map 23 3, 1, 8, .map none⟩),
 (110, ⟨.slice 3, 1, 24, .slice none 0 0⟩),
 (111, ⟨.ptr 203, 1, 8, .pointer none⟩),
 (113, ⟨.struct [(24, 0, 1), (108, 1, 1), (109, 2, 1), (110, 3, 1), (111, 4, 1)], 5, 72, .agg #[.pointer none, .slice none 0 0, .map none, .slice none 0 0, .pointer none]⟩),
 (118, ⟨.slice 178, 1, 24, .slice none 0 0⟩),
 (120, ⟨.struct [(40, 0, 4), (118, 4, 1), (3, 5, 1), (83, 6, 1)], 7, 104, .agg #[.int .i64 0, .slice none 0 0, .int .i64 0, .int .i64 0, .slice none 0 0, .int .i64 0, .slice none 0 0]⟩),
 (158, ⟨.ptr 162, 1, 8, .pointer none⟩),
 (162, ⟨.struct [(23, 0, 1), (28, 1, 1), (4, 2, 1), (3, 3, 1)], 4, 48, .agg #[.int .u32 0, .slice none 0 0, .bool false, .int .i64 0]⟩),
 (166, ⟨.func, 1, 8, .nilFunc⟩),
 (178, ⟨.struct [(23, 0, 1), (9, 1, 1), (4, 2, 1), (3, 3, 1)], 4, 40, .agg #[.int .u32 0, .string ⟨⟨[]⟩⟩, .bool false, .int .i64 0]⟩),
 (201, ⟨.slice 205, 1, 24, .slice none 0 0⟩),
 (203, ⟨.struct [(201, 0, 1), (3, 1, 1)], 2, 32, .agg #[.slice none 0 0, .int .i64 0]⟩),
 (205, ⟨.struct [(3, 0, 1), (3, 1, 1), (4, 2, 1)], 3, 24, .agg #[.int .i64 0, .int .i64 0, .bool false]⟩),
 (214, ⟨.int .u64, 1, 8, .int .u64 0⟩),
 (225, ⟨.int .i64, 1, 8, .int .i64 0⟩),
 (234, ⟨.int .u64, 1, 8, .int .u64 0⟩),
 (238, ⟨.ptr 3, 1, 8, .pointer none⟩),
 (240, ⟨.ptr 234, 1, 8, .pointer none⟩)]
theorem Yd : Yr Try.prog tt := by
 refine ttC ⟨_, _, _, Try.underlying1⟩ ?_
 refine ttC Try.underlying2 ?_
 refine ttC Try.underlying3 ?_
 refine ttC Try.underlying4 ?_
 refine ttC Try.underlying5 ?_
 refine ttC Try.underlying9 ?_
 refine ttC Try.underlying23 ?_
 refine ttC Try.underlying24 ?_
 refine ttC Try.underlying25 ?_
 refine ttC Try.underlying28 ?_
 refine ttC Try.underlying38 ?_
 refine ttS Try.underlying40 ?_
 refine ttC Try.underlying47 ?_
 refine ttS Try.underlying49 ?_
 refine ttS Try.underlying51 ?_
 refine ttC Try.underlying83 ?_
 refine ttC Try.underlying97 ?_
 refine ttC Try.underlying98 ?_
 refine ttS Try.underlying102 ?_
 refine ttC Try.underlying108 ?_
 refine ttC Try.underlying109 ?_
 refine ttC Try.underlying110 ?_
 refine ttC Try.underlying111 ?_
 refine ttS Try.underlying113 ?_
 refine ttC Try.underlying118 ?_
 refine ttS Try.underlying120 ?_
 refine ttC Try.underlying158 ?_
 refine ttS Try.underlying162 ?_
 refine ttC ⟨_, _, _, Try.underlying166⟩ ?_
 refine ttS Try.underlying178 ?_
 refine ttC Try.underlying201 ?_
 refine ttS Try.underlying203 ?_
 refine ttS Try.underlying205 ?_
 refine ttC Try.underlying214 ?_
 refine ttC Try.underlying225 ?_
 refine ttC Try.underlying234 ?_
 refine ttC Try.underlying238 ?_
 refine ttC Try.underlying240 ?_
 exact Zfn _
theorem mix : Try.prog.follows .mixedOrders = true := by kernel_rfl
instance : TTI Try.prog tt := ⟨Yd, mix⟩
abbrev O5 (x : List (Int)) (A : Option Addr) (c : Nat) : Ch := Yp 5 (.int .u8) x (.slice A x.length c)
abbrev X51 (b : Nat) (p0 : Int) (p1 : List (Int)) (A1 : Option Addr) (c1 : Nat) (p2 : Int) (p3 : Int) : Ch := Yz b 51 [.int .i64 p0, .slice A1 p1.length c1, .int .u64 p2, .int .u64 p3]
abbrev Z9 (x : List (Int × Int × Bool)) (A : Option Addr) (c : Nat) : Ch := Yp 205 (.pair (.int .i64) (.pair (.int .i64) .bool)) x (.slice A x.length c)
abbrev Z8 (b : Nat) (p0 : List (Int × Int × Bool)) (A0 : Option Addr) (c0 : Nat) (p1 : Int) : Ch := Yz b 203 [.slice A0 p0.length c0, .int .i64 p1]
abbrev Yi (x : List (Int × List (Int) × Bool × Int)) (A : Option Addr) (c : Nat) : Ch := Yp 162 (.pair (.int .u32) (.pair (.slice 5 (.int .u8)) (.pair .bool (.int .i64)))) x (.slice A x.length c)
abbrev Yk (b : Nat) (p0 : Value) (p1 : List (Int × List (Int) × Bool × Int)) (A1 : Option Addr) (c1 : Nat) (p2 : Value) (p3 : List (Int)) (A3 : Option Addr) (c3 : Nat) (p4 : Value) : Ch := Yz b 113 [p0, .slice A1 p1.length c1, p2, .slice A3 p3.length c3, p4]
abbrev O3 (x : List (Int)) (A : Option Addr) (c : Nat) : Ch := Yp 3 (.int .i64) x (.slice A x.length c)
abbrev B8 (b : Nat) (p0 : Int) (p1 : Int) (p2 : Bool) : Ch := Yz b 205 [.int .i64 p0, .int .i64 p1, .bool p2]
abbrev R5 (x : List (Int)) (A : Option Addr) (c : Nat) : Ch := rdC 5 (.int .u8) x (.slice A x.length c)
abbrev Um (b : Nat) (p0 : Int) (p1 : List (Int)) (A1 : Option Addr) (c1 : Nat) (p2 : Bool) (p3 : Int) : Ch := Yz b 162 [.int .u32 p0, .slice A1 p1.length c1, .bool p2, .int .i64 p3]
abbrev X49 (b : Nat) (p0 : Int) (p1 : Int) : Ch := Yz b 49 [.int .u64 p0, .int .u64 p1]
abbrev X40 (b : Nat) (p0 : Int) (p1 : List (List UInt8)) (A1 : Option Addr) (c1 : Nat) (p2 : Int) (p3 : Int) : Ch := Yz b 40 [.int .i64 p0, .slice A1 p1.length c1, .int .i64 p2, .int .i64 p3]
abbrev O9 (x : List (List UInt8)) (A : Option Addr) (c : Nat) : Ch := Yp 9 .str x (.slice A x.length c)
abbrev Vg (b : Nat) (p0 : Int) (p1 : List (List UInt8)) (A1 : Option Addr) (c1 : Nat) (p2 : Int) (p3 : Int) (p4 : List (Int × List UInt8 × Bool × Int)) (A4 : Option Addr) (c4 : Nat) (p5 : Int) (p6 : List (Int)) (A6 : Option Addr) (c6 : Nat) : Ch := Yz b 120 [.int .i64 p0, .slice A1 p1.length c1, .int .i64 p2, .int .i64 p3, .slice A4 p4.length c4, .int .i64 p5, .slice A6 p6.length c6]
abbrev X102 (b : Nat) (p0 : Int) (p1 : Int) (p2 : List (Int)) (A2 : Option Addr) (c2 : Nat) : Ch := Yz b 102 [.int .i64 p0, .int .u32 p1, .slice A2 p2.length c2]
abbrev R9 (x : List (List UInt8)) (A : Option Addr) (c : Nat) : Ch := rdC 9 .str x (.slice A x.length c)
abbrev Xb (x : List (Int × List UInt8 × Bool × Int)) (A : Option Addr) (c : Nat) : Ch := rdC 178 (.pair (.int .u32) (.pair .str (.pair .bool (.int .i64)))) x (.slice A x.length c)
abbrev R23 (x : List (Int)) (A : Option Addr) (c : Nat) : Ch := rdC 23 (.int .u32) x (.slice A x.length c)
abbrev Zhn (b : Nat) (p0 : Int) (p1 : List UInt8) (p2 : Bool) (p3 : Int) : Ch := Yz b 178 [.int .u32 p0, .string ⟨⟨p1⟩⟩, .bool p2, .int .i64 p3]
abbrev O23 (x : List (Int)) (A : Option Addr) (c : Nat) : Ch := Yp 23 (.int .u32) x (.slice A x.length c)
abbrev Zf2 (x : List (Int × List UInt8 × Bool × Int)) (A : Option Addr) (c : Nat) : Ch := Yp 178 (.pair (.int .u32) (.pair .str (.pair .bool (.int .i64)))) x (.slice A x.length c)
abbrev Zdy (x : List (Int × Int × List (Int))) (A : Option Addr) (c : Nat) : Ch := rdC 102 (.pair (.int .i64) (.pair (.int .u32) (.slice 5 (.int .u8)))) x (.slice A x.length c)
abbrev X109 (b : Nat) (p0 : Value) : Ch := Yz b 109 [p0]
abbrev X3 (b : Nat) (p0 : Int) : Ch := Yz b 3 [.int .i64 p0]
abbrev J4 (b : Nat) (p0 : Int) : Ch := Yz b 234 [.int .u64 p0]
theorem cmpstr : CmpStr Try.prog 167 := CmpStr.of Try.func167 (by kernel_rfl) (by kernel_rfl) (by kernel_rfl) rfl
def Q36.f (a0 : Int) (a1 : Int) : Option (Bool) := if (decide (5 ≤ a0)) = true then (if (decide (a0 ≤ 65536)) = true then (if (decide (1 ≤ a1)) = true then (some (decide (a1 ≤ 65536))) else (some false)) else (some false)) else (some false)
theorem Q36.spec {a0 : Int} {a1 : Int}  {r : Bool} (H : Q36.f a0 a1 = some r) :
  Spec Try.prog 68 [.int .i64 a0, .int .i64 a1] [] [] (fun v l => v = .bool r ∧ l = []) := by
 refine Zr Try.func68 fun w0 F0 h0 => ?_
 unfold Q36.f at H
 refine J.seq (Zb [0, 1] ?_)
 refine J.seq (J.region ?_)
 refine Zl 3 ?_
 refine Xq 7 H (fun c1 H => ?_) fun c1 H => ?_
 ·refine Zl 4 ?_
  refine Xq 11 H (fun c2 H => ?_) fun c2 H => ?_
  ·refine Zl 4 ?_
   refine Xq 15 H (fun c3 H => ?_) fun c3 H => ?_
   ·refine Zm [4] rfl ?_
    refine J.ret ?_
    cases H
    exact ⟨_, _, _, Zc, ⟨rfl, rfl⟩, Zd h0 []⟩
   refine Zm [4] rfl ?_
   refine J.ret ?_
   cases H
   exact ⟨_, _, _, Zc, ⟨rfl, rfl⟩, Zd h0 []⟩
  refine Zm [4] rfl ?_
  refine J.ret ?_
  cases H
  exact ⟨_, _, _, Zc, ⟨rfl, rfl⟩, Zd h0 []⟩
 refine Zm [4] rfl ?_
 refine J.ret ?_
 cases H
 exact ⟨_, _, _, Zc, ⟨rfl, rfl⟩, Zd h0 []⟩

def Q35.f (a0 : Int) (a1 : Int) : Option (Option (Int × List (Int) × (Int × Int)) × Int) := (Q36.f a0 a1).bind fun r1 => (if (!r1) = true then (some (none, 2)) else (if 0 ≤ (w64 (a0 * a1)) ∧ (w64 (a0 * a1)) * 1 ≤ 281474976710656 then (some ((some (a1, (List.replicate ((w64 (a0 * a1)).toNat) (0 : Int)), (0, 0))), 0)) else none))
theorem Q35.spec {a0 : Int} {a1 : Int}  {r : Option (Int × List (Int) × (Int × Int)) × Int} (H : Q35.f a0 a1 = some r) :
  Spec Try.prog 15 [.int .i64 a0, .int .i64 a1] [] [] (fun v l => ∃ (pv : Value) (lp : List Ch), OptC r.1 (fun d pv lp => ∃ (b_0 : Nat) (A_1 : Option Addr) (c_1 : Nat), pv = .pointer (some ⟨b_0, 0, none⟩) ∧ lp = [X51 b_0 d.1 d.2.1 A_1 c_1 d.2.2.1 d.2.2.2, O5 d.2.1 A_1 c_1]) pv lp ∧ v = .tuple #[pv, .int .i64 r.2] ∧ l = lp ++ []) := by
 refine Zr Try.func15 fun w0 F0 h0 => ?_
 unfold Q35.f at H
 refine J.seq (Zb [0, 1] ?_)
 refine J.seq (J.seq (J.region ?_))
 refine Zl 2 ?_
 obtain ⟨r1, q1, H⟩ := Zp H
 refine Ze (Zk [] (Q36.spec q1) h0 rfl Zu) ?_
 rintro _ w1 ⟨_, ⟨rfl, rfl⟩, h1⟩
 replace h1 := nf h1
 refine Zm [0, 1, 9] rfl ?_
 refine jIf H (fun c1 H => ?_) fun c1 H => ?_
 ·refine J.seq (Zb [4, 5] ?_)
  refine J.ret ?_
  cases H
  exact ⟨_, _, _, Zc, ⟨_, _, OptC.no, rfl, rfl⟩, Zd h1 []⟩
 refine J.skip (J.seq (J.region ?_))
 refine Zl 4 ?_
 obtain ⟨⟨p1, p2⟩, H⟩ := Zq H
 refine Ze (Wc Yd (ty := (.int .u8)) rfl (0 : Int) rfl rfl rfl rfl rfl rfl rfl (by decide) h1 p1 p2) ?_
 rintro _ w2 ⟨b1, rfl, h2⟩
 replace h2 := nf h2
 refine Zl 1 ?_
 refine Ze (Y2 h2) ?_
 rintro _ w3 ⟨b2, rfl, h3⟩
 replace h3 := nf h3
 refine Zm [4, 5] rfl ?_
 refine J.ret ?_
 cases H
 exact ⟨_, _, _, Zc, ⟨_, _, (OptC.yes ⟨_, _, _, rfl, rfl⟩), rfl, rfl⟩, Zd h3 [0, 0]⟩

def Q29.f (a0 : Int × List (Int) × (Int × Int)) : Option (Int) := if (decide (a0.1 = 0)) = true then (some 0) else (if 0 < a0.1 then (some (w64 (Int.tdiv (a0.2.1.length : Int) a0.1))) else none)
theorem Q29.spec {a0 : Int × List (Int) × (Int × Int)} {b1 : Nat} {A1 : Option Addr} {c_1 : Nat} {r : Int} (H : Q29.f a0 = some r) :
  Spec Try.prog 24 [.pointer (some ⟨b1, 0, none⟩)] [X51 b1 a0.1 a0.2.1 A1 c_1 a0.2.2.1 a0.2.2.2, O5 a0.2.1 A1 c_1] [] (fun v l => v = .int .i64 r ∧ l = [X51 b1 a0.1 a0.2.1 A1 c_1 a0.2.2.1 a0.2.2.2, O5 a0.2.1 A1 c_1]) := by
 refine Zr Try.func24 fun w0 F0 h0 => ?_
 unfold Q29.f at H
 refine J.seq (Zb [0] ?_)
 refine J.seq (J.seq (J.region ?_))
 refine Zl 6 ?_
 refine Zg (Za 0 h0.wht) ?_
 refine Zm [0, 11] rfl ?_
 refine jIf H (fun c1 H => ?_) fun c1 H => ?_
 ·refine J.seq (Zb [2] ?_)
  refine J.ret ?_
  cases H
  exact ⟨_, _, _, Zc, ⟨rfl, rfl⟩, Zd h0 [0, 0]⟩
 refine J.skip (J.seq (Zs h0 ?_))
 have h1 := h0.drew
 refine Zx [0, 1, 2, 5, 6, 7] ?_
 refine Zh 3 rfl (Za 0 wI) ?_
 refine Zx [4] ?_
 refine Zh 8 rfl (Za 0 wI) ?_
 obtain ⟨p1, H⟩ := Zq H
 refine Zh 9 rfl (Zeu p1) ?_
 refine Zx [10] ?_
 refine Z2 [2] ?_
 refine J.ret ?_
 cases H
 exact ⟨_, _, _, Zc, ⟨rfl, rfl⟩, Zd h1 [0, 0]⟩

def Q26.f (a0 : Int) : Option (Option ((List (Int × Int × Bool)) × Int) × Int) := if (decide (a0 < 1)) = true then (some (none, 2)) else (if (decide (4096 < a0)) = true then (some (none, 2)) else (if 0 ≤ (w64 (a0 + 1)) ∧ (w64 (a0 + 1)) * 24 ≤ 281474976710656 then (if 0 ≤ a0 ∧ a0 < ((List.replicate ((w64 (a0 + 1)).toNat) ((0, 0, false) : Int × Int × Bool)).length : Int) then (some ((some (((List.replicate ((w64 (a0 + 1)).toNat) ((0, 0, false) : Int × Int × Bool)).set a0.toNat (a0, a0, false)), 0)), 0)) else none) else none))
theorem Q26.spec {a0 : Int}  {r : Option ((List (Int × Int × Bool)) × Int) × Int} (H : Q26.f a0 = some r) :
  Spec Try.prog 97 [.int .i64 a0] [] [] (fun v l => ∃ (pv : Value) (lp : List Ch), OptC r.1 (fun d pv lp => ∃ (b_0 : Nat) (A_1 : Option Addr) (c_1 : Nat), pv = .pointer (some ⟨b_0, 0, none⟩) ∧ lp = [Z8 b_0 d.1 A_1 c_1 d.2, Z9 d.1 A_1 c_1]) pv lp ∧ v = .tuple #[pv, .int .i64 r.2] ∧ l = lp ++ []) := by
 refine Zr Try.func97 fun w0 F0 h0 => ?_
 unfold Q26.f at H
 refine J.seq (Zb [0] ?_)
 refine J.seq (J.seq (J.region ?_))
 refine Zl 3 ?_
 refine Xq 7 H (fun c1 H => ?_) fun c1 H => ?_
 ·refine Zm [0, 10] rfl ?_
  refine Z6 ?_
  refine J.seq (Zb [2, 3] ?_)
  refine J.ret ?_
  cases H
  exact ⟨_, _, _, Zc, ⟨_, _, OptC.no, rfl, rfl⟩, Zd h0 []⟩
 refine Zm [0, 10] rfl ?_
 refine jIf H (fun c2 H => ?_) fun c2 H => ?_
 ·refine J.seq (Zb [2, 3] ?_)
  refine J.ret ?_
  cases H
  exact ⟨_, _, _, Zc, ⟨_, _, OptC.no, rfl, rfl⟩, Zd h0 []⟩
 refine J.skip (J.seq (J.region ?_))
 refine Zl 2 ?_
 obtain ⟨⟨p1, p2⟩, H⟩ := Zq H
 refine Ze (Wc Yd (ty := (.pair (.int .i64) (.pair (.int .i64) .bool))) rfl ((0, 0, false) : Int × Int × Bool) rfl rfl rfl rfl rfl rfl rfl (by decide) h0 p1 p2) ?_
 rintro _ w1 ⟨b1, rfl, h1⟩
 replace h1 := nf h1
 refine Zl 1 ?_
 refine Ze (Y2 h1) ?_
 rintro _ w2 ⟨b2, rfl, h2⟩
 replace h2 := nf h2
 refine Zm [0, 4] rfl ?_
 refine J.seq (J.region ?_)
 refine Zl 3 ?_
 refine Zg (Za 0 h2.wht) ?_
 refine Zl 4 ?_
 obtain ⟨⟨p3, p4⟩, H⟩ := Zq H
 have e1 := Z3 h2.wh (gO 1) p3 p4
 refine Zg (Zi e1 p3 p4) ?_
 refine Ze (Zo 0 (.pair (.int .i64) (.pair (.int .i64) .bool)) a0 (a0, a0, false) 1 h2 rfl p3 p4) ?_
 intro _ w3 h3
 replace h3 := nf h3
 replace h3 : St w0 F0 [Z9 ((List.replicate ((w64 (a0 + 1)).toNat) ((0, 0, false) : Int × Int × Bool)).set a0.toNat (a0, a0, false)) (some ⟨b1, 0, none⟩) ((w64 (a0 + 1)).toNat), Z8 b2 ((List.replicate ((w64 (a0 + 1)).toNat) ((0, 0, false) : Int × Int × Bool)).set a0.toNat (a0, a0, false)) (some ⟨b1, 0, none⟩) ((w64 (a0 + 1)).toNat) 0] _ _ := h3.retell (by simp only [List.length_set, List.length_nil, Z9, Z8] <;> rfl)
 refine Zm [4] rfl ?_
 refine J.seq (Zb [2, 3] ?_)
 refine J.ret ?_
 cases H
 exact ⟨_, _, _, Zc, ⟨_, _, (OptC.yes ⟨_, _, _, rfl, rfl⟩), rfl, rfl⟩, Zd h3 [1, 0]⟩

def Q14.f (a0 : (Int × List (Int) × (Int × Int)) × (List (Int × List (Int) × Bool × Int)) × (List (Int × Int)) × List (Int) × ((List (Int × Int × Bool)) × Int)) : Option (Bool) := some false
theorem Q14.spec {a0 : (Int × List (Int) × (Int × Int)) × (List (Int × List (Int) × Bool × Int)) × (List (Int × Int)) × List (Int) × ((List (Int × Int × Bool)) × Int)} {b1 : Nat} {b2 : Nat} {b3 : Nat} {b4 : Nat} {A1 : Option Addr} {c_1 : Nat} {A2 : Option Addr} {c_2 : Nat} {A3 : Option Addr} {c_3 : Nat} {A4 : Option Addr} {c_4 : Nat} {r : Bool} (H : Q14.f a0 = some r) :
  Spec Try.prog 98 [.pointer (some ⟨b1, 0, none⟩)] [Yk b1 (.pointer (some ⟨b2, 0, none⟩)) a0.2.1 A2 c_2 (.map (some b3)) a0.2.2.2.1 A3 c_3 (.pointer (some ⟨b4, 0, none⟩)), X51 b2 a0.1.1 a0.1.2.1 A1 c_1 a0.1.2.2.1 a0.1.2.2.2, O5 a0.1.2.1 A1 c_1, Yi a0.2.1 A2 c_2, Yc .u32 (Value.int .i64) b3 a0.2.2.1, O3 a0.2.2.2.1 A3 c_3, Z8 b4 a0.2.2.2.2.1 A4 c_4 a0.2.2.2.2.2, Z9 a0.2.2.2.2.1 A4 c_4] [] (fun v l => v = .bool r ∧ l = [Yk b1 (.pointer (some ⟨b2, 0, none⟩)) a0.2.1 A2 c_2 (.map (some b3)) a0.2.2.2.1 A3 c_3 (.pointer (some ⟨b4, 0, none⟩)), X51 b2 a0.1.1 a0.1.2.1 A1 c_1 a0.1.2.2.1 a0.1.2.2.2, O5 a0.1.2.1 A1 c_1, Yi a0.2.1 A2 c_2, Yc .u32 (Value.int .i64) b3 a0.2.2.1, O3 a0.2.2.2.1 A3 c_3, Z8 b4 a0.2.2.2.2.1 A4 c_4 a0.2.2.2.2.2, Z9 a0.2.2.2.2.1 A4 c_4]) := by
 refine Zr Try.func98 fun w0 F0 h0 => ?_
 unfold Q14.f at H
 refine J.seq (Zb [0] ?_)
 refine J.seq (J.region ?_)
 refine Zl 6 ?_
 refine Zg (Za 0 h0.wht) ?_
 refine Zm [2] rfl ?_
 refine J.ret ?_
 cases H
 exact ⟨_, _, _, Zc, ⟨rfl, rfl⟩, Zd h0 [0, 0, 0, 0, 0, 0, 0, 0]⟩

def Q16.f (a0 : (Int × List (Int) × (Int × Int)) × (List (Int × List (Int) × Bool × Int)) × (List (Int × Int)) × List (Int) × ((List (Int × Int × Bool)) × Int)) (a1 : Int) : Option (Int) := (Q14.f a0).bind fun r1 => (if r1 = true then (some 1) else ((Q29.f a0.1).bind fun r2 => (if (decide (r2 ≤ (w64 (a1)))) = true then (some 4) else (some 0))))
theorem Q16.spec {a0 : (Int × List (Int) × (Int × Int)) × (List (Int × List (Int) × Bool × Int)) × (List (Int × Int)) × List (Int) × ((List (Int × Int × Bool)) × Int)} {a1 : Int} {b1 : Nat} {b2 : Nat} {b3 : Nat} {b4 : Nat} {A1 : Option Addr} {c_1 : Nat} {A2 : Option Addr} {c_2 : Nat} {A3 : Option Addr} {c_3 : Nat} {A4 : Option Addr} {c_4 : Nat} {r : Int} (H : Q16.f a0 a1 = some r) :
  Spec Try.prog 103 [.pointer (some ⟨b1, 0, none⟩), .int .u32 a1] [Yk b1 (.pointer (some ⟨b2, 0, none⟩)) a0.2.1 A2 c_2 (.map (some b3)) a0.2.2.2.1 A3 c_3 (.pointer (some ⟨b4, 0, none⟩)), X51 b2 a0.1.1 a0.1.2.1 A1 c_1 a0.1.2.2.1 a0.1.2.2.2, O5 a0.1.2.1 A1 c_1, Yi a0.2.1 A2 c_2, Yc .u32 (Value.int .i64) b3 a0.2.2.1, O3 a0.2.2.2.1 A3 c_3, Z8 b4 a0.2.2.2.2.1 A4 c_4 a0.2.2.2.2.2, Z9 a0.2.2.2.2.1 A4 c_4] [] (fun v l => v = .int .i64 r ∧ l = [Yk b1 (.pointer (some ⟨b2, 0, none⟩)) a0.2.1 A2 c_2 (.map (some b3)) a0.2.2.2.1 A3 c_3 (.pointer (some ⟨b4, 0, none⟩)), X51 b2 a0.1.1 a0.1.2.1 A1 c_1 a0.1.2.2.1 a0.1.2.2.2, O5 a0.1.2.1 A1 c_1, Yi a0.2.1 A2 c_2, Yc .u32 (Value.int .i64) b3 a0.2.2.1, O3 a0.2.2.2.1 A3 c_3, Z8 b4 a0.2.2.2.2.1 A4 c_4 a0.2.2.2.2.2, Z9 a0.2.2.2.2.1 A4 c_4]) := by
 refine Zr Try.func103 fun w0 F0 h0 => ?_
 unfold Q16.f at H
 refine J.seq (Zb [0, 1] ?_)
 refine J.seq (J.block (J.seq (J.region ?_)))
 refine Zl 1 ?_
 obtain ⟨r1, q1, H⟩ := Zp H
 refine Ze (Zk [0, 0, 0, 0, 0, 0, 0, 0] (Q14.spec q1) h0 rfl Zu) ?_
 rintro _ w1 ⟨_, ⟨rfl, rfl⟩, h1⟩
 replace h1 := nf h1
 refine Zm [0, 1, 5] rfl ?_
 refine jIf H (fun c1 H => ?_) fun c1 H => ?_
 ·refine J.seq (Zb [4] ?_)
  refine J.ret ?_
  cases H
  exact ⟨_, _, _, Zc, ⟨rfl, rfl⟩, Zd h1 [0, 0, 0, 0, 0, 0, 0, 0]⟩
 refine J.seq (J.region ?_)
 refine Zl 5 ?_
 refine Zg (Za 0 h1.wht) ?_
 obtain ⟨r2, q2, H⟩ := Zp H
 refine Ze (Zk [1, 1] (Q29.spec q2) h1 rfl Zu) ?_
 rintro _ w2 ⟨_, ⟨rfl, rfl⟩, h2⟩
 replace h2 := nf h2
 refine Zm [8] rfl ?_
 refine jIf H (fun c2 H => ?_) fun c2 H => ?_
 ·refine J.seq (Zb [4] ?_)
  refine J.ret ?_
  cases H
  exact ⟨_, _, _, Zc, ⟨rfl, rfl⟩, Zd h2 [2, 0, 0, 0, 0, 0, 0, 0]⟩
 refine J.skip (J.seq (Zb [4] ?_))
 refine J.ret ?_
 cases H
 exact ⟨_, _, _, Zc, ⟨rfl, rfl⟩, Zd h2 [2, 0, 0, 0, 0, 0, 0, 0]⟩

def Q24.f (a0 : (List (Int × Int × Bool)) × Int) : Option (Int) := some (w64 ((a0.1.length : Int) - 1))
theorem Q24.spec {a0 : (List (Int × Int × Bool)) × Int} {b1 : Nat} {A1 : Option Addr} {c_1 : Nat} {r : Int} (H : Q24.f a0 = some r) :
  Spec Try.prog 150 [.pointer (some ⟨b1, 0, none⟩)] [Z8 b1 a0.1 A1 c_1 a0.2, Z9 a0.1 A1 c_1] [] (fun v l => v = .int .i64 r ∧ l = [Z8 b1 a0.1 A1 c_1 a0.2, Z9 a0.1 A1 c_1]) := by
 refine Zr Try.func150 fun w0 F0 h0 => ?_
 unfold Q24.f at H
 refine J.seq (Zb [0] ?_)
 refine J.seq (J.region ?_)
 refine Zl 3 ?_
 refine Zg (Za 0 h0.wht) ?_
 refine Zm [2] rfl ?_
 refine J.ret ?_
 cases H
 exact ⟨_, _, _, Zc, ⟨rfl, rfl⟩, Zd h0 [0, 0]⟩

def Q25.f (a0 : (List (Int × Int × Bool)) × Int) (a1 : Int) : Option (Int) := if (decide ((a0.1.length : Int) = 0)) = true then (some 1) else (if (decide (a1 < 0)) = true then (some 4) else ((Q24.f a0).bind fun r1 => (if (decide (r1 ≤ a1)) = true then (some 4) else (some 0))))
theorem Q25.spec {a0 : (List (Int × Int × Bool)) × Int} {a1 : Int} {b1 : Nat} {A1 : Option Addr} {c_1 : Nat} {r : Int} (H : Q25.f a0 a1 = some r) :
  Spec Try.prog 146 [.pointer (some ⟨b1, 0, none⟩), .int .i64 a1] [Z8 b1 a0.1 A1 c_1 a0.2, Z9 a0.1 A1 c_1] [] (fun v l => v = .int .i64 r ∧ l = [Z8 b1 a0.1 A1 c_1 a0.2, Z9 a0.1 A1 c_1]) := by
 refine Zr Try.func146 fun w0 F0 h0 => ?_
 unfold Q25.f at H
 refine J.seq (Zb [0, 1] ?_)
 refine J.seq (J.block (J.seq (J.region ?_)))
 refine Zl 6 ?_
 refine Zg (Za 0 h0.wht) ?_
 refine Zm [0, 1, 5] rfl ?_
 refine jIf H (fun c1 H => ?_) fun c1 H => ?_
 ·refine J.seq (Zb [4] ?_)
  refine J.ret ?_
  cases H
  exact ⟨_, _, _, Zc, ⟨rfl, rfl⟩, Zd h0 [0, 0]⟩
 refine J.seq (J.region ?_)
 refine Zl 3 ?_
 refine Xq 19 H (fun c2 H => ?_) fun c2 H => ?_
 ·refine Zm [16] rfl ?_
  refine Z6 ?_
  refine J.seq (Zb [4] ?_)
  refine J.ret ?_
  cases H
  exact ⟨_, _, _, Zc, ⟨rfl, rfl⟩, Zd h0 [0, 0]⟩
 refine Zl 2 ?_
 obtain ⟨r1, q1, H⟩ := Zp H
 refine Ze (Zk [0, 0] (Q24.spec q1) h0 rfl Zu) ?_
 rintro _ w1 ⟨_, ⟨rfl, rfl⟩, h1⟩
 replace h1 := nf h1
 refine Zm [16] rfl ?_
 refine jIf H (fun c3 H => ?_) fun c3 H => ?_
 ·refine J.seq (Zb [4] ?_)
  refine J.ret ?_
  cases H
  exact ⟨_, _, _, Zc, ⟨rfl, rfl⟩, Zd h1 [0, 0]⟩
 refine J.skip (J.seq (Zb [4] ?_))
 refine J.ret ?_
 cases H
 exact ⟨_, _, _, Zc, ⟨rfl, rfl⟩, Zd h1 [0, 0]⟩

def Q22.f (a0 : (List (Int × Int × Bool)) × Int) (a1 : Int) : Option (((List (Int × Int × Bool)) × Int)) := if 0 ≤ a1 ∧ a1 < (a0.1.length : Int) then (if (!((gt a0.1 a1).2.2)) = true then (some a0) else (if 0 ≤ ((gt a0.1 a1).1) ∧ ((gt a0.1 a1).1) < (a0.1.length : Int) then (if 0 ≤ ((gt a0.1 a1).2.1) ∧ ((gt a0.1 a1).2.1) < ((a0.1.set ((gt a0.1 a1).1).toNat ((gt a0.1 ((gt a0.1 a1).1)).1, (gt a0.1 a1).2.1, (gt a0.1 ((gt a0.1 a1).1)).2.2)).length : Int) then (if 0 ≤ a1 ∧ a1 < (((a0.1.set ((gt a0.1 a1).1).toNat ((gt a0.1 ((gt a0.1 a1).1)).1, (gt a0.1 a1).2.1, (gt a0.1 ((gt a0.1 a1).1)).2.2)).set ((gt a0.1 a1).2.1).toNat ((gt a0.1 a1).1, (gt (a0.1.set ((gt a0.1 a1).1).toNat ((gt a0.1 ((gt a0.1 a1).1)).1, (gt a0.1 a1).2.1, (gt a0.1 ((gt a0.1 a1).1)).2.2)) ((gt a0.1 a1).2.1)).2.1, (gt (a0.1.set ((gt a0.1 a1).1).toNat ((gt a0.1 ((gt a0.1 a1).1)).1, (gt a0.1 a1).2.1, (gt a0.1 ((gt a0.1 a1).1)).2.2)) ((gt a0.1 a1).2.1)).2.2)).length : Int) then (some ((((a0.1.set ((gt a0.1 a1).1).toNat ((gt a0.1 ((gt a0.1 a1).1)).1, (gt a0.1 a1).2.1, (gt a0.1 ((gt a0.1 a1).1)).2.2)).set ((gt a0.1 a1).2.1).toNat ((gt a0.1 a1).1, (gt (a0.1.set ((gt a0.1 a1).1).toNat ((gt a0.1 ((gt a0.1 a1).1)).1, (gt a0.1 a1).2.1, (gt a0.1 ((gt a0.1 a1).1)).2.2)) ((gt a0.1 a1).2.1)).2.1, (gt (a0.1.set ((gt a0.1 a1).1).toNat ((gt a0.1 ((gt a0.1 a1).1)).1, (gt a0.1 a1).2.1, (gt a0.1 ((gt a0.1 a1).1)).2.2)) ((gt a0.1 a1).2.1)).2.2)).set a1.toNat (0, 0, false)), (w64 (a0.2 - 1)))) else none) else none) else none)) else none
theorem Q22.spec {a0 : (List (Int × Int × Bool)) × Int} {a1 : Int} {b1 : Nat} {A1 : Option Addr} {c_1 : Nat} {r : ((List (Int × Int × Bool)) × Int)} (H : Q22.f a0 a1 = some r) :
  Spec Try.prog 147 [.pointer (some ⟨b1, 0, none⟩), .int .i64 a1] [Z8 b1 a0.1 A1 c_1 a0.2, Z9 a0.1 A1 c_1] [] (fun v l => ∃ (A_0 : Option Addr) (c_0 : Nat), v = .tuple #[] ∧ l = [Z8 b1 r.1 A_0 c_0 r.2, Z9 r.1 A_0 c_0]) := by
 refine Zr Try.func147 fun w0 F0 h0 => ?_
 unfold Q22.f at H
 refine J.seq (J.region ?_)
 refine Zl 3 ?_
 refine Zg (Za 0 h0.wht) ?_
 refine Zl 1 ?_
 obtain ⟨⟨p1, p2⟩, H⟩ := Zq H
 have e1 := Z3 h0.wh (gO 1) p1 p2
 refine Zg (Zi e1 p1 p2) ?_
 refine Zg (Zj 0 h0.wht (gO 1) p1 p2) ?_
 refine Ze (Ym h0) ?_
 rintro _ w1 ⟨b2, rfl, h1⟩
 replace h1 := nf h1
 refine Ze (Zw 0 h1) ?_
 intro _ w2 h2
 replace h2 := nf h2
 refine Zm [0, 1, 4] rfl ?_
 refine J.seq (J.seq (J.region ?_))
 refine Zl 1 ?_
 refine Zg (Za 0 h2.wht) ?_
 refine Zm [0, 1, 4, 14] rfl ?_
 refine jIf H (fun c1 H => ?_) fun c1 H => ?_
 ·refine J.ret ?_
  cases H
  exact ⟨_, _, _, Zc, ⟨_, _, rfl, rfl⟩, Zd h2 [1, 1]⟩
 refine J.skip (J.seq (Zs (Zd h2 [0, 0]) ?_))
 have h3 := h2.drew
 refine Zx [0, 1, 2, 4, 6] ?_
 refine Zh 3 rfl (Za 1 wI) ?_
 refine Zh 5 rfl (Za 0 wI) ?_
 refine Zh 7 rfl (Za 0 wI) ?_
 obtain ⟨⟨p3, p4⟩, H⟩ := Zq H
 refine Zh 8 rfl (Zi e1 p3 p4) ?_
 refine Zx [9] ?_
 refine Zn 10 rfl (Zo 1 (.pair (.int .i64) (.pair (.int .i64) .bool)) ((gt a0.1 a1).1) ((gt a0.1 ((gt a0.1 a1).1)).1, (gt a0.1 a1).2.1, (gt a0.1 ((gt a0.1 a1).1)).2.2) 2 h3 rfl p3 p4) ?_
 intro _ w3 h4
 replace h4 := nf h4
 refine ⟨⟨[_], h4⟩, ?_⟩
 replace h4 : St w0 F0 [Z9 (a0.1.set ((gt a0.1 a1).1).toNat ((gt a0.1 ((gt a0.1 a1).1)).1, (gt a0.1 a1).2.1, (gt a0.1 ((gt a0.1 a1).1)).2.2)) A1 c_1, B8 b2 ((gt a0.1 a1).1) ((gt a0.1 a1).2.1) ((gt a0.1 a1).2.2), Z8 b1 (a0.1.set ((gt a0.1 a1).1).toNat ((gt a0.1 ((gt a0.1 a1).1)).1, (gt a0.1 a1).2.1, (gt a0.1 ((gt a0.1 a1).1)).2.2)) A1 c_1 a0.2] _ _ := h4.retell (by simp only [List.length_set, List.length_nil, Z9, Z8, B8] <;> rfl)
 refine Z2 [0, 1, 4] ?_
 refine J.seq (Zs (Zd h4 [1, 1]) ?_)
 have h5 := h4.drew
 refine Zx [0, 1, 2, 4, 6] ?_
 refine Zh 3 rfl (Za 1 wI) ?_
 refine Zh 5 rfl (Za 0 wI) ?_
 refine Zh 7 rfl (Za 0 wI) ?_
 obtain ⟨⟨p5, p6⟩, H⟩ := Zq H
 refine Zh 8 rfl (Zi e1 p5 p6) ?_
 refine Zx [9] ?_
 refine Zn 10 rfl (Zo 0 (.pair (.int .i64) (.pair (.int .i64) .bool)) ((gt a0.1 a1).2.1) ((gt a0.1 a1).1, (gt (a0.1.set ((gt a0.1 a1).1).toNat ((gt a0.1 ((gt a0.1 a1).1)).1, (gt a0.1 a1).2.1, (gt a0.1 ((gt a0.1 a1).1)).2.2)) ((gt a0.1 a1).2.1)).2.1, (gt (a0.1.set ((gt a0.1 a1).1).toNat ((gt a0.1 ((gt a0.1 a1).1)).1, (gt a0.1 a1).2.1, (gt a0.1 ((gt a0.1 a1).1)).2.2)) ((gt a0.1 a1).2.1)).2.2) 0 h5 rfl p5 p6) ?_
 intro _ w4 h6
 replace h6 := nf h6
 refine ⟨⟨[_], h6⟩, ?_⟩
 replace h6 : St w0 F0 [Z9 ((a0.1.set ((gt a0.1 a1).1).toNat ((gt a0.1 ((gt a0.1 a1).1)).1, (gt a0.1 a1).2.1, (gt a0.1 ((gt a0.1 a1).1)).2.2)).set ((gt a0.1 a1).2.1).toNat ((gt a0.1 a1).1, (gt (a0.1.set ((gt a0.1 a1).1).toNat ((gt a0.1 ((gt a0.1 a1).1)).1, (gt a0.1 a1).2.1, (gt a0.1 ((gt a0.1 a1).1)).2.2)) ((gt a0.1 a1).2.1)).2.1, (gt (a0.1.set ((gt a0.1 a1).1).toNat ((gt a0.1 ((gt a0.1 a1).1)).1, (gt a0.1 a1).2.1, (gt a0.1 ((gt a0.1 a1).1)).2.2)) ((gt a0.1 a1).2.1)).2.2)) A1 c_1, B8 b2 ((gt a0.1 a1).1) ((gt a0.1 a1).2.1) ((gt a0.1 a1).2.2), Z8 b1 ((a0.1.set ((gt a0.1 a1).1).toNat ((gt a0.1 ((gt a0.1 a1).1)).1, (gt a0.1 a1).2.1, (gt a0.1 ((gt a0.1 a1).1)).2.2)).set ((gt a0.1 a1).2.1).toNat ((gt a0.1 a1).1, (gt (a0.1.set ((gt a0.1 a1).1).toNat ((gt a0.1 ((gt a0.1 a1).1)).1, (gt a0.1 a1).2.1, (gt a0.1 ((gt a0.1 a1).1)).2.2)) ((gt a0.1 a1).2.1)).2.1, (gt (a0.1.set ((gt a0.1 a1).1).toNat ((gt a0.1 ((gt a0.1 a1).1)).1, (gt a0.1 a1).2.1, (gt a0.1 ((gt a0.1 a1).1)).2.2)) ((gt a0.1 a1).2.1)).2.2)) A1 c_1 a0.2] _ _ := h6.retell (by simp only [List.length_set, List.length_nil, Z9, Z8, B8] <;> rfl)
 refine Z2 [0, 1] ?_
 refine J.seq (J.region ?_)
 refine Zl 3 ?_
 refine Zg (Za 2 h6.wht) ?_
 refine Zl 2 ?_
 obtain ⟨⟨p7, p8⟩, H⟩ := Zq H
 refine Zg (Zi e1 p7 p8) ?_
 refine Ze (Zo 0 (.pair (.int .i64) (.pair (.int .i64) .bool)) a1 (0, 0, false) 0 h6 rfl p7 p8) ?_
 intro _ w5 h7
 replace h7 := nf h7
 replace h7 : St w0 F0 [Z9 (((a0.1.set ((gt a0.1 a1).1).toNat ((gt a0.1 ((gt a0.1 a1).1)).1, (gt a0.1 a1).2.1, (gt a0.1 ((gt a0.1 a1).1)).2.2)).set ((gt a0.1 a1).2.1).toNat ((gt a0.1 a1).1, (gt (a0.1.set ((gt a0.1 a1).1).toNat ((gt a0.1 ((gt a0.1 a1).1)).1, (gt a0.1 a1).2.1, (gt a0.1 ((gt a0.1 a1).1)).2.2)) ((gt a0.1 a1).2.1)).2.1, (gt (a0.1.set ((gt a0.1 a1).1).toNat ((gt a0.1 ((gt a0.1 a1).1)).1, (gt a0.1 a1).2.1, (gt a0.1 ((gt a0.1 a1).1)).2.2)) ((gt a0.1 a1).2.1)).2.2)).set a1.toNat (0, 0, false)) A1 c_1, B8 b2 ((gt a0.1 a1).1) ((gt a0.1 a1).2.1) ((gt a0.1 a1).2.2), Z8 b1 (((a0.1.set ((gt a0.1 a1).1).toNat ((gt a0.1 ((gt a0.1 a1).1)).1, (gt a0.1 a1).2.1, (gt a0.1 ((gt a0.1 a1).1)).2.2)).set ((gt a0.1 a1).2.1).toNat ((gt a0.1 a1).1, (gt (a0.1.set ((gt a0.1 a1).1).toNat ((gt a0.1 ((gt a0.1 a1).1)).1, (gt a0.1 a1).2.1, (gt a0.1 ((gt a0.1 a1).1)).2.2)) ((gt a0.1 a1).2.1)).2.1, (gt (a0.1.set ((gt a0.1 a1).1).toNat ((gt a0.1 ((gt a0.1 a1).1)).1, (gt a0.1 a1).2.1, (gt a0.1 ((gt a0.1 a1).1)).2.2)) ((gt a0.1 a1).2.1)).2.2)).set a1.toNat (0, 0, false)) A1 c_1 a0.2] _ _ := h7.retell (by simp only [List.length_set, List.length_nil, Z9, Z8, B8] <;> rfl)
 refine Zm [0] rfl ?_
 refine J.region (Zl 3 ?_)
 refine Zg (Za 2 h7.wht) ?_
 refine Zl 3 ?_
 refine Ze (Zw 2 h7) ?_
 intro _ w6 h8
 replace h8 := nf h8
 refine Zm [] rfl ?_
 cases H
 exact ⟨_, _, _, Zc, ⟨_, _, rfl, rfl⟩, Zd h8 [0, 0]⟩

def Q17.f (a0 : (List (Int × Int × Bool)) × Int) (a1 : Int) : Option (Int × ((List (Int × Int × Bool)) × Int)) := (Q25.f a0 a1).bind fun r1 => (if (!decide (r1 = 0)) = true then (some (r1, a0)) else (if 0 ≤ a1 ∧ a1 < (a0.1.length : Int) then (if (!((gt a0.1 a1).2.2)) = true then (some (9, a0)) else ((Q22.f a0 a1).bind fun r2 => (some (0, r2)))) else none))
theorem Q17.spec {a0 : (List (Int × Int × Bool)) × Int} {a1 : Int} {b1 : Nat} {A1 : Option Addr} {c_1 : Nat} {r : Int × ((List (Int × Int × Bool)) × Int)} (H : Q17.f a0 a1 = some r) :
  Spec Try.prog 104 [.pointer (some ⟨b1, 0, none⟩), .int .i64 a1] [Z8 b1 a0.1 A1 c_1 a0.2, Z9 a0.1 A1 c_1] [] (fun v l => ∃ (A_0 : Option Addr) (c_0 : Nat), v = .int .i64 r.1 ∧ l = [Z8 b1 r.2.1 A_0 c_0 r.2.2, Z9 r.2.1 A_0 c_0]) := by
 refine Zr Try.func104 fun w0 F0 h0 => ?_
 unfold Q17.f at H
 refine J.seq (Zb [0, 1] ?_)
 refine J.seq (J.seq (J.region ?_))
 refine Zl 2 ?_
 obtain ⟨r1, q1, H⟩ := Zp H
 refine Ze (Zk [0, 0] (Q25.spec q1) h0 rfl Zu) ?_
 rintro _ w1 ⟨_, ⟨rfl, rfl⟩, h1⟩
 replace h1 := nf h1
 refine Zm [0, 1, 5] rfl ?_
 refine J.seq (Zb [0, 1, 5, 10] ?_)
 refine jIf H (fun c1 H => ?_) fun c1 H => ?_
 ·refine J.seq (Zb [4] ?_)
  refine J.ret ?_
  cases H
  exact ⟨_, _, _, Zc, ⟨_, _, rfl, rfl⟩, Zd h1 [0, 0]⟩
 refine J.skip (J.seq (J.seq (J.region ?_)))
 refine Zl 3 ?_
 refine Zg (Za 0 h1.wht) ?_
 refine Zl 1 ?_
 obtain ⟨⟨p1, p2⟩, H⟩ := Zq H
 have e1 := Z3 h1.wh (gO 1) p1 p2
 refine Zg (Zi e1 p1 p2) ?_
 refine Zl 1 ?_
 refine Zg (Zj 2 h1.wht (gO 1) p1 p2) ?_
 refine Zm [0, 1, 20] rfl ?_
 refine jIf H (fun c2 H => ?_) fun c2 H => ?_
 ·refine J.seq (Zb [4] ?_)
  refine J.ret ?_
  cases H
  exact ⟨_, _, _, Zc, ⟨_, _, rfl, rfl⟩, Zd h1 [0, 0]⟩
 refine J.skip (J.seq (J.region ?_))
 refine Zl 2 ?_
 obtain ⟨r2, q2, H⟩ := Zp H
 refine Ze (Zk [0, 0] (Q22.spec q2) h1 rfl Zu) ?_
 rintro _ w2 ⟨_, ⟨A2, c_2, rfl, rfl⟩, h2⟩
 replace h2 := nf h2
 refine Zm [] rfl ?_
 refine J.seq (Zb [4] ?_)
 refine J.ret ?_
 cases H
 exact ⟨_, _, _, Zc, ⟨_, _, rfl, rfl⟩, Zd h2 [0, 0]⟩

def Q20.f (a0 : (List (Int × Int × Bool)) × Int) : Option (Int) := some a0.2
theorem Q20.spec {a0 : (List (Int × Int × Bool)) × Int} {b1 : Nat} {A1 : Option Addr} {c_1 : Nat} {r : Int} (H : Q20.f a0 = some r) :
  Spec Try.prog 151 [.pointer (some ⟨b1, 0, none⟩)] [Z8 b1 a0.1 A1 c_1 a0.2, Z9 a0.1 A1 c_1] [] (fun v l => v = .int .i64 r ∧ l = [Z8 b1 a0.1 A1 c_1 a0.2, Z9 a0.1 A1 c_1]) := by
 refine Zr Try.func151 fun w0 F0 h0 => ?_
 unfold Q20.f at H
 refine J.seq (Zb [0] ?_)
 refine J.seq (J.seq (Zb [0, 4] ?_))
 refine Z7 ?_
 refine J.skip (J.seq (J.region ?_))
 refine Zl 3 ?_
 refine Zg (Za 0 h0.wht) ?_
 refine Zm [2] rfl ?_
 refine J.ret ?_
 cases H
 exact ⟨_, _, _, Zc, ⟨rfl, rfl⟩, Zd h0 [0, 0]⟩

def Q19.f (a0 : (List (Int × Int × Bool)) × Int) : Option (Int × Bool) := (Q20.f a0).bind fun r1 => (if (decide (r1 = 0)) = true then (some (0, false)) else ((Q24.f a0).bind fun r2 => (if 0 ≤ r2 ∧ r2 < (a0.1.length : Int) then (some ((gt a0.1 r2).1, true)) else none)))
theorem Q19.spec {a0 : (List (Int × Int × Bool)) × Int} {b1 : Nat} {A1 : Option Addr} {c_1 : Nat} {r : Int × Bool} (H : Q19.f a0 = some r) :
  Spec Try.prog 148 [.pointer (some ⟨b1, 0, none⟩)] [Z8 b1 a0.1 A1 c_1 a0.2, Z9 a0.1 A1 c_1] [] (fun v l => v = .tuple #[.int .i64 r.1, .bool r.2] ∧ l = [Z8 b1 a0.1 A1 c_1 a0.2, Z9 a0.1 A1 c_1]) := by
 refine Zr Try.func148 fun w0 F0 h0 => ?_
 unfold Q19.f at H
 refine J.seq (Zb [0] ?_)
 refine J.seq (J.seq (J.region ?_))
 refine Zl 1 ?_
 obtain ⟨r1, q1, H⟩ := Zp H
 refine Ze (Zk [0, 0] (Q20.spec q1) h0 rfl Zu) ?_
 rintro _ w1 ⟨_, ⟨rfl, rfl⟩, h1⟩
 replace h1 := nf h1
 refine Zm [0, 6] rfl ?_
 refine jIf H (fun c1 H => ?_) fun c1 H => ?_
 ·refine J.seq (Zb [2, 3] ?_)
  refine J.ret ?_
  cases H
  exact ⟨_, _, _, Zc, ⟨rfl, rfl⟩, Zd h1 [0, 0]⟩
 refine J.skip (J.seq (Zs h1 ?_))
 have h2 := h1.drew
 refine Zx [0, 1, 2, 4] ?_
 refine Zh 3 rfl (Za 0 wI) ?_
 obtain ⟨r2, q2, H⟩ := Zp H
 refine Zn 5 rfl (Zk [0, 0] (Q24.spec q2) h2 rfl Zu) ?_
 rintro _ w2 ⟨_, ⟨rfl, rfl⟩, h3⟩
 replace h3 := nf h3
 refine ⟨⟨[], h3⟩, ?_⟩
 obtain ⟨⟨p1, p2⟩, H⟩ := Zq H
 have e1 := Z3 h3.wh (gO 1) p1 p2
 refine Zh 6 rfl (Zi e1 p1 p2) ?_
 refine Zx [7] ?_
 refine Zh 8 rfl (Zj 0 wI (gO 1) p1 p2) ?_
 refine Zx [9, 10] ?_
 refine Z2 [2, 3] ?_
 refine J.ret ?_
 cases H
 exact ⟨_, _, _, Zc, ⟨rfl, rfl⟩, Zd h3 [0, 0]⟩

def Q34.f (a0 : Int × List (Int) × (Int × Int)) (a1 : Int) (a2 : List (Int)) : Option (Int × (Int × List (Int) × (Int × Int))) := (Q29.f a0).bind fun r1 => (if (decide (r1 = 0)) = true then (some (1, a0)) else ((Q29.f a0).bind fun r2 => (if (decide (r2 ≤ (w64 (a1)))) = true then (some (4, a0)) else (if 0 ≤ (w64 ((w64 (a1)) * a0.1)) ∧ (w64 ((w64 (a1)) * a0.1)) ≤ (w64 ((w64 ((w64 (a1)) * a0.1)) + a0.1)) ∧ (w64 ((w64 ((w64 (a1)) * a0.1)) + a0.1)) ≤ (a0.2.1.length : Int) then (if (!decide ((a2.length : Int) = a0.1)) = true then (some (3, a0)) else (some (0, (a0.1, (Yu a0.2.1 (((w64 ((w64 (a1)) * a0.1))).toNat) (((a0.2.1.drop ((w64 ((w64 (a1)) * a0.1))).toNat).take (((w64 ((w64 ((w64 (a1)) * a0.1)) + a0.1))).toNat - ((w64 ((w64 (a1)) * a0.1))).toNat)).length) a2), (a0.2.2.1, (IntKind.u64.wrap (a0.2.2.2 + 1))))))) else none))))
theorem Q34.spec {a0 : Int × List (Int) × (Int × Int)} {a1 : Int} {a2 : List (Int)} {A2 : Option Addr} {c_2 : Nat} {b1 : Nat} {A1 : Option Addr} {c_1 : Nat} {r : Int × (Int × List (Int) × (Int × Int))} (H : Q34.f a0 a1 a2 = some r) :
  Spec Try.prog 16 [.pointer (some ⟨b1, 0, none⟩), .int .u32 a1, .slice A2 a2.length c_2] [X51 b1 a0.1 a0.2.1 A1 c_1 a0.2.2.1 a0.2.2.2, O5 a0.2.1 A1 c_1] [R5 a2 A2 c_2] (fun v l => ∃ (A_0 : Option Addr) (c_0 : Nat), v = .int .i64 r.1 ∧ l = [X51 b1 r.2.1 r.2.2.1 A_0 c_0 r.2.2.2.1 r.2.2.2.2, O5 r.2.2.1 A_0 c_0]) := by
 refine Zr Try.func16 fun w0 F0 h0 => ?_
 unfold Q34.f at H
 refine J.seq (Zb [0, 1, 2] ?_)
 refine J.seq (J.region ?_)
 refine Zl 2 ?_
 refine Yl Try.func69 ?_
 refine J.seq (Zb [0, 1] ?_)
 refine J.seq (J.block (J.seq (J.region ?_)))
 refine Zl 1 ?_
 obtain ⟨r1, q1, H⟩ := Zp H
 refine Ze (Zk [0, 0] (Q29.spec q1) h0 rfl Zu) ?_
 rintro _ w1 ⟨_, ⟨rfl, rfl⟩, h1⟩
 replace h1 := nf h1
 refine Zm [0, 1, 7] rfl ?_
 refine jIf H (fun c1 H => ?_) fun c1 H => ?_
 ·refine J.seq (Zb [4, 5] ?_)
  refine J.ret (⟨_, Zc, ?_⟩)
  refine Zm [0, 2, 7, 8] rfl ?_
  refine J.seq (J.block (J.seq (Zb [0, 2, 7, 8, 15] ?_)))
  refine Z6 ?_
  refine J.seq (Zb [6] ?_)
  refine J.ret ?_
  cases H
  exact ⟨_, _, _, Zc, ⟨_, _, rfl, rfl⟩, Zd h1 [0, 0]⟩
 refine J.seq (J.region ?_)
 refine Zl 3 ?_
 obtain ⟨r2, q2, H⟩ := Zp H
 refine Ze (Zk [0, 0] (Q29.spec q2) h1 rfl Zu) ?_
 rintro _ w2 ⟨_, ⟨rfl, rfl⟩, h2⟩
 replace h2 := nf h2
 refine Zm [0, 1, 11] rfl ?_
 refine jIf H (fun c2 H => ?_) fun c2 H => ?_
 ·refine J.seq (Zb [4, 5] ?_)
  refine J.ret (⟨_, Zc, ?_⟩)
  refine Zm [0, 2, 7, 8] rfl ?_
  refine J.seq (J.block (J.seq (Zb [0, 2, 7, 8, 15] ?_)))
  refine Z6 ?_
  refine J.seq (Zb [6] ?_)
  refine J.ret ?_
  cases H
  exact ⟨_, _, _, Zc, ⟨_, _, rfl, rfl⟩, Zd h2 [0, 0]⟩
 refine J.skip (J.seq (J.region ?_))
 refine Zl 5 ?_
 refine Zg (Za 0 h2.wht) ?_
 refine Zm [0, 6] rfl ?_
 refine J.seq (Zs h2 ?_)
 have h3 := h2.drew
 refine Zx [0, 1, 2, 4, 5, 6, 7, 8] ?_
 refine Zh 3 rfl (Za 0 wI) ?_
 refine Zh 9 rfl (Za 0 wI) ?_
 refine Zx [10] ?_
 obtain ⟨⟨p1, p2, p3⟩, H⟩ := Zq H
 have e1 := h3.cap (gO 1)
 refine Zh 11 rfl (Za0 ((a0.2.1.drop ((w64 ((w64 (a1)) * a0.1))).toNat).take (((w64 ((w64 ((w64 (a1)) * a0.1)) + a0.1))).toNat - ((w64 ((w64 (a1)) * a0.1))).toNat)) (w64 ((w64 (a1)) * a0.1)) (w64 ((w64 ((w64 (a1)) * a0.1)) + a0.1)) e1 p1 p2 p3) ?_
 refine Zx [12, 13] ?_
 refine Z2 [4, 5] ?_
 refine J.ret (⟨_, Zc, ?_⟩)
 refine Zm [0, 2, 7, 8] rfl ?_
 refine J.seq (J.block (J.seq (Zb [0, 2, 7, 8, 15] ?_)))
 refine Z7 ?_
 refine J.seq (J.region ?_)
 refine Zl 5 ?_
 refine Zg (Za 0 h3.wht) ?_
 refine Zm [0, 2, 7, 19] rfl ?_
 refine jIf H (fun c3 H => ?_) fun c3 H => ?_
 ·refine J.seq (Zb [6] ?_)
  refine J.ret ?_
  cases H
  exact ⟨_, _, _, Zc, ⟨_, _, rfl, rfl⟩, Zd h3 [0, 0]⟩
 refine J.skip (J.seq (J.region ?_))
 refine Zl 2 ?_
 have e2 : (((w64 ((w64 (a1)) * a0.1))).toNat) + ((a0.2.1.drop ((w64 ((w64 (a1)) * a0.1))).toNat).take (((w64 ((w64 ((w64 (a1)) * a0.1)) + a0.1))).toNat - ((w64 ((w64 (a1)) * a0.1))).toNat)).length ≤ a0.2.1.length := by first | omega | (simp only [List.length_take, List.length_drop]; omega)
 refine Ze (Zcq Yd (ty := (.int .u8)) (xs := a0.2.1) (ys := a2) rfl 1 rfl h3 rfl (Zf 1) rfl rfl rfl rfl rfl rfl e2) ?_
 rintro _ w3 ⟨rfl, h4⟩
 replace h4 := nf h4
 replace h4 : St w0 F0 [O5 (Yu a0.2.1 (((w64 ((w64 (a1)) * a0.1))).toNat) (((a0.2.1.drop ((w64 ((w64 (a1)) * a0.1))).toNat).take (((w64 ((w64 ((w64 (a1)) * a0.1)) + a0.1))).toNat - ((w64 ((w64 (a1)) * a0.1))).toNat)).length) a2) A1 c_1, X51 b1 a0.1 (Yu a0.2.1 (((w64 ((w64 (a1)) * a0.1))).toNat) (((a0.2.1.drop ((w64 ((w64 (a1)) * a0.1))).toNat).take (((w64 ((w64 ((w64 (a1)) * a0.1)) + a0.1))).toNat - ((w64 ((w64 (a1)) * a0.1))).toNat)).length) a2) A1 c_1 a0.2.2.1 a0.2.2.2] _ _ := h4.retell (by simp only [V7 e2, List.length_nil, O5, X51] <;> rfl)
 refine Zm [0] rfl ?_
 refine J.seq (J.region ?_)
 refine Zl 4 ?_
 refine Zg (Za 1 h4.wht) ?_
 refine Zl 4 ?_
 refine Ze (Zw 1 h4) ?_
 intro _ w4 h5
 replace h5 := nf h5
 refine Zm [] rfl ?_
 refine J.seq (Zb [6] ?_)
 refine J.ret ?_
 cases H
 exact ⟨_, _, _, Zc, ⟨_, _, rfl, rfl⟩, Zd h5 [0, 0]⟩

def Q13.f (a0 : (Int × List (Int) × (Int × Int)) × (List (Int × List (Int) × Bool × Int)) × (List (Int × Int)) × List (Int) × ((List (Int × Int × Bool)) × Int)) (a1 : Int) : Option (((Int × List (Int) × (Int × Int)) × (List (Int × List (Int) × Bool × Int)) × (List (Int × Int)) × List (Int) × ((List (Int × Int × Bool)) × Int))) := if 0 ≤ a1 ∧ a1 < (a0.2.1.length : Int) then ((Q17.f a0.2.2.2.2 a1).bind fun r1 => (if (a0.2.2.2.1.length + ([a1] : List (Int)).length) * 8 ≤ 140737488355328 then (some (a0.1, (a0.2.1.set a1.toNat (0, ([] : List (Int)), false, 0)), (Xn ((gt a0.2.1 a1).1) a0.2.2.1), (a0.2.2.2.1 ++ ([a1] : List (Int))), r1.2)) else none)) else none
theorem Q13.spec {a0 : (Int × List (Int) × (Int × Int)) × (List (Int × List (Int) × Bool × Int)) × (List (Int × Int)) × List (Int) × ((List (Int × Int × Bool)) × Int)} {a1 : Int} {b1 : Nat} {b2 : Nat} {b3 : Nat} {b4 : Nat} {A1 : Option Addr} {c_1 : Nat} {A2 : Option Addr} {c_2 : Nat} {A3 : Option Addr} {c_3 : Nat} {A4 : Option Addr} {c_4 : Nat} {r : ((Int × List (Int) × (Int × Int)) × (List (Int × List (Int) × Bool × Int)) × (List (Int × Int)) × List (Int) × ((List (Int × Int × Bool)) × Int))} (H : Q13.f a0 a1 = some r) :
  Spec Try.prog 108 [.pointer (some ⟨b1, 0, none⟩), .int .i64 a1] [Yk b1 (.pointer (some ⟨b2, 0, none⟩)) a0.2.1 A2 c_2 (.map (some b3)) a0.2.2.2.1 A3 c_3 (.pointer (some ⟨b4, 0, none⟩)), X51 b2 a0.1.1 a0.1.2.1 A1 c_1 a0.1.2.2.1 a0.1.2.2.2, O5 a0.1.2.1 A1 c_1, Yi a0.2.1 A2 c_2, Yc .u32 (Value.int .i64) b3 a0.2.2.1, O3 a0.2.2.2.1 A3 c_3, Z8 b4 a0.2.2.2.2.1 A4 c_4 a0.2.2.2.2.2, Z9 a0.2.2.2.2.1 A4 c_4] [] (fun v l => ∃ (A_0 : Option Addr) (c_0 : Nat) (A_1 : Option Addr) (c_1 : Nat) (A_2 : Option Addr) (c_2 : Nat) (A_3 : Option Addr) (c_3 : Nat), v = .tuple #[] ∧ l = [Yk b1 (.pointer (some ⟨b2, 0, none⟩)) r.2.1 A_1 c_1 (.map (some b3)) r.2.2.2.1 A_2 c_2 (.pointer (some ⟨b4, 0, none⟩)), X51 b2 r.1.1 r.1.2.1 A_0 c_0 r.1.2.2.1 r.1.2.2.2, O5 r.1.2.1 A_0 c_0, Yi r.2.1 A_1 c_1, Yc .u32 (Value.int .i64) b3 r.2.2.1, O3 r.2.2.2.1 A_2 c_2, Z8 b4 r.2.2.2.2.1 A_3 c_3 r.2.2.2.2.2, Z9 r.2.2.2.2.1 A_3 c_3]) := by
 refine Zr Try.func108 fun w0 F0 h0 => ?_
 unfold Q13.f at H
 refine J.seq (Zs (Zd h0 [0, 0, 0, 0, 1, 1, 1]) ?_)
 have h1 := h0.drew
 refine Zx [0, 1, 2, 4, 5, 6, 8] ?_
 refine Zh 3 rfl (Za 0 wI) ?_
 refine Zh 7 rfl (Za 0 wI) ?_
 obtain ⟨⟨p1, p2⟩, H⟩ := Zq H
 have e1 := Z3 h1.wh (gO 3) p1 p2
 refine Zh 9 rfl (Zi e1 p1 p2) ?_
 refine Zx [10] ?_
 refine Zh 11 rfl (Yg 0 wI (gO 3) p1 p2) ?_
 refine Zn 12 rfl (Zev Yd (ix := ((gt a0.2.1 a1).1)) 4 rfl h1 rfl rfl rfl rfl rfl rfl rfl) ?_
 intro _ w1 h2
 replace h2 := nf h2
 refine ⟨⟨[_], h2⟩, ?_⟩
 refine Z2 [0, 1] ?_
 refine J.seq (J.region ?_)
 refine Zl 3 ?_
 refine Zg (Za 1 h2.wht) ?_
 refine Zl 1 ?_
 obtain ⟨r1, q1, H⟩ := Zp H
 refine Ze (Zk [6, 6] (Q17.spec q1) h2 rfl Zu) ?_
 rintro _ w2 ⟨_, ⟨A5, c_5, rfl, rfl⟩, h3⟩
 replace h3 := nf h3
 refine Zm [0, 1] rfl ?_
 refine J.seq (J.region ?_)
 refine Zl 3 ?_
 refine Zg (Za 3 h3.wht) ?_
 refine Zl 2 ?_
 refine Zg (Zi e1 p1 p2) ?_
 have h4 := h3.addNil 5 (.int .u8)
 have h5 := (h4.only [7, 0, 0, 0, 0, 0, 0, 0, 0] rfl).both
 refine Ze (Xe 0 (.pair (.int .u32) (.pair (.slice 5 (.int .u8)) (.pair .bool (.int .i64)))) a1 (0, ([] : List (Int)), false, 0) h5 p1 p2 Vx) ?_
 intro _ w3 h6
 replace h6 := nf h6
 replace h6 : St w0 F0 [Yi (a0.2.1.set a1.toNat (0, ([] : List (Int)), false, 0)) A2 c_2, Z8 b4 r1.2.1 A5 c_5 r1.2.2, Z9 r1.2.1 A5 c_5, Yc .u32 (Value.int .i64) b3 (Xn ((gt a0.2.1 a1).1) a0.2.2.1), Yk b1 (.pointer (some ⟨b2, 0, none⟩)) (a0.2.1.set a1.toNat (0, ([] : List (Int)), false, 0)) A2 c_2 (.map (some b3)) a0.2.2.2.1 A3 c_3 (.pointer (some ⟨b4, 0, none⟩)), X51 b2 a0.1.1 a0.1.2.1 A1 c_1 a0.1.2.2.1 a0.1.2.2.2, O5 a0.1.2.1 A1 c_1, O3 a0.2.2.2.1 A3 c_3] _ _ := h6.retell (by simp only [List.length_set, List.length_nil, Yi, Z9, O3, O5, Yk, Z8, X51] <;> rfl)
 refine Zm [0, 1] rfl ?_
 refine J.region (Zl 4 ?_)
 refine Zg (Za 4 h6.wht) ?_
 refine Zl 1 ?_
 refine Ze (Ys (.int .i64) ([a1] : List (Int)) h6) ?_
 rintro _ w4 ⟨b5, rfl, h7⟩
 replace h7 := nf h7
 obtain ⟨p3, H⟩ := Zq H
 refine Ze (Yq 8 h7 (gO 0) p3) ?_
 rintro _ w5 ⟨A6, c_6, rfl, h8⟩
 replace h8 := nf h8
 refine Zl 2 ?_
 refine Ze (Zw 6 h8) ?_
 intro _ w6 h9
 replace h9 := nf h9
 refine Zm [] rfl ?_
 cases H
 exact ⟨_, _, _, Zc, ⟨_, _, _, _, _, _, _, _, rfl, rfl⟩, Zd h9 [0, 6, 6, 2, 4, 0, 1, 1]⟩

def Q15.f (a0 : (Int × List (Int) × (Int × Int)) × (List (Int × List (Int) × Bool × Int)) × (List (Int × Int)) × List (Int) × ((List (Int × Int × Bool)) × Int)) : Option (Int × Bool × ((Int × List (Int) × (Int × Int)) × (List (Int × List (Int) × Bool × Int)) × (List (Int × Int)) × List (Int) × ((List (Int × Int × Bool)) × Int))) := if (decide ((a0.2.2.2.1.length : Int) = 0)) = true then ((Q19.f a0.2.2.2.2).bind fun r1 => (if (!r1.2) = true then (some (0, false, a0)) else (if 0 ≤ r1.1 ∧ r1.1 < (a0.2.1.length : Int) then (if (gt a0.2.1 r1.1).2.2.1 = true then ((Q34.f a0.1 ((gt a0.2.1 r1.1).1) ((gt a0.2.1 r1.1).2.1)).bind fun r2 => ((Q13.f (r2.2, (a0.2.1.set r1.1.toNat ((gt a0.2.1 r1.1).1, (gt a0.2.1 r1.1).2.1, false, (gt a0.2.1 r1.1).2.2.2)), a0.2.2.1, a0.2.2.2.1, a0.2.2.2.2) r1.1).bind fun r3 => (if 0 ≤ (w64 ((r3.2.2.2.1.length : Int) - 1)) ∧ (w64 ((r3.2.2.2.1.length : Int) - 1)) < (r3.2.2.2.1.length : Int) then (if (0 : Int) ≤ (w64 ((r3.2.2.2.1.length : Int) - 1)) ∧ (w64 ((r3.2.2.2.1.length : Int) - 1)) ≤ (r3.2.2.2.1.length : Int) then (some ((gt r3.2.2.2.1 (w64 ((r3.2.2.2.1.length : Int) - 1))), true, (r3.1, r3.2.1, r3.2.2.1, (r3.2.2.2.1.take ((w64 ((r3.2.2.2.1.length : Int) - 1))).toNat), r3.2.2.2.2))) else none) else none))) else ((Q13.f a0 r1.1).bind fun r4 => (if 0 ≤ (w64 ((r4.2.2.2.1.length : Int) - 1)) ∧ (w64 ((r4.2.2.2.1.length : Int) - 1)) < (r4.2.2.2.1.length : Int) then (if (0 : Int) ≤ (w64 ((r4.2.2.2.1.length : Int) - 1)) ∧ (w64 ((r4.2.2.2.1.length : Int) - 1)) ≤ (r4.2.2.2.1.length : Int) then (some ((gt r4.2.2.2.1 (w64 ((r4.2.2.2.1.length : Int) - 1))), true, (r4.1, r4.2.1, r4.2.2.1, (r4.2.2.2.1.take ((w64 ((r4.2.2.2.1.length : Int) - 1))).toNat), r4.2.2.2.2))) else none) else none))) else none))) else (if 0 ≤ (w64 ((a0.2.2.2.1.length : Int) - 1)) ∧ (w64 ((a0.2.2.2.1.length : Int) - 1)) < (a0.2.2.2.1.length : Int) then (if (0 : Int) ≤ (w64 ((a0.2.2.2.1.length : Int) - 1)) ∧ (w64 ((a0.2.2.2.1.length : Int) - 1)) ≤ (a0.2.2.2.1.length : Int) then (some ((gt a0.2.2.2.1 (w64 ((a0.2.2.2.1.length : Int) - 1))), true, (a0.1, a0.2.1, a0.2.2.1, (a0.2.2.2.1.take ((w64 ((a0.2.2.2.1.length : Int) - 1))).toNat), a0.2.2.2.2))) else none) else none)
theorem Q15.spec {a0 : (Int × List (Int) × (Int × Int)) × (List (Int × List (Int) × Bool × Int)) × (List (Int × Int)) × List (Int) × ((List (Int × Int × Bool)) × Int)} {b1 : Nat} {b2 : Nat} {b3 : Nat} {b4 : Nat} {A1 : Option Addr} {c_1 : Nat} {A2 : Option Addr} {c_2 : Nat} {A3 : Option Addr} {c_3 : Nat} {A4 : Option Addr} {c_4 : Nat} {r : Int × Bool × ((Int × List (Int) × (Int × Int)) × (List (Int × List (Int) × Bool × Int)) × (List (Int × Int)) × List (Int) × ((List (Int × Int × Bool)) × Int))} (H : Q15.f a0 = some r) :
  Spec Try.prog 105 [.pointer (some ⟨b1, 0, none⟩)] [Yk b1 (.pointer (some ⟨b2, 0, none⟩)) a0.2.1 A2 c_2 (.map (some b3)) a0.2.2.2.1 A3 c_3 (.pointer (some ⟨b4, 0, none⟩)), X51 b2 a0.1.1 a0.1.2.1 A1 c_1 a0.1.2.2.1 a0.1.2.2.2, O5 a0.1.2.1 A1 c_1, Yi a0.2.1 A2 c_2, Yc .u32 (Value.int .i64) b3 a0.2.2.1, O3 a0.2.2.2.1 A3 c_3, Z8 b4 a0.2.2.2.2.1 A4 c_4 a0.2.2.2.2.2, Z9 a0.2.2.2.2.1 A4 c_4] [] (fun v l => ∃ (A_0 : Option Addr) (c_0 : Nat) (A_1 : Option Addr) (c_1 : Nat) (A_2 : Option Addr) (c_2 : Nat) (A_3 : Option Addr) (c_3 : Nat), v = .tuple #[.int .i64 r.1, .bool r.2.1] ∧ l = [Yk b1 (.pointer (some ⟨b2, 0, none⟩)) r.2.2.2.1 A_1 c_1 (.map (some b3)) r.2.2.2.2.2.1 A_2 c_2 (.pointer (some ⟨b4, 0, none⟩)), X51 b2 r.2.2.1.1 r.2.2.1.2.1 A_0 c_0 r.2.2.1.2.2.1 r.2.2.1.2.2.2, O5 r.2.2.1.2.1 A_0 c_0, Yi r.2.2.2.1 A_1 c_1, Yc .u32 (Value.int .i64) b3 r.2.2.2.2.1, O3 r.2.2.2.2.2.1 A_2 c_2, Z8 b4 r.2.2.2.2.2.2.1 A_3 c_3 r.2.2.2.2.2.2.2, Z9 r.2.2.2.2.2.2.1 A_3 c_3]) := by
 refine Zr Try.func105 fun w0 F0 h0 => ?_
 unfold Q15.f at H
 refine J.seq (Zb [0] ?_)
 refine J.seq (J.seq (J.region ?_))
 refine Zl 3 ?_
 refine Zg (Za 0 h0.wht) ?_
 refine Zm [0, 13] rfl ?_
 refine jIf H (fun c1 H => ?_) fun c1 H => ?_
 ·refine J.seq (J.region ?_)
  refine Zl 3 ?_
  refine Zg (Za 0 h0.wht) ?_
  obtain ⟨r1, q1, H⟩ := Zp H
  refine Ze (Zk [6, 6] (Q19.spec q1) h0 rfl Zu) ?_
  rintro _ w1 ⟨_, ⟨rfl, rfl⟩, h1⟩
  replace h1 := nf h1
  refine Zm [0, 4, 5] rfl ?_
  refine J.seq (J.seq (Zb [0, 4, 23] ?_))
  refine jIf H (fun c2 H => ?_) fun c2 H => ?_
  ·refine J.seq (Zb [2, 3] ?_)
   refine J.ret ?_
   cases H
   exact ⟨_, _, _, Zc, ⟨_, _, _, _, _, _, _, _, rfl, rfl⟩, Zd h1 [2, 2, 2, 2, 2, 2, 0, 0]⟩
  refine J.skip (J.seq (J.region ?_))
  refine Zl 4 ?_
  refine Zg (Za 2 h1.wht) ?_
  refine Zl 1 ?_
  obtain ⟨⟨p1, p2⟩, H⟩ := Zq H
  have e1 := Z3 h1.wh (gO 5) p1 p2
  refine Zg (Zi e1 p1 p2) ?_
  refine Yl Try.func100 ?_
  refine J.seq (J.region ?_)
  refine Zl 3 ?_
  refine Zg (Yg 2 h1.wht (gO 5) p1 p2) ?_
  refine Zm [0, 1, 7] rfl ?_
  refine jIf H (fun c3 H => ?_) fun c3 H => ?_
  ·refine J.seq ?_
   obtain ⟨A5, c_5, h2⟩ := h1.openI 5 rfl p1 p2
   refine Zs (Zd h2 [0, 0, 0, 0, 2, 2]) ?_
   have h3 := h2.drew
   refine Zx [0, 1, 2, 4, 5, 6, 8, 9, 10] ?_
   refine Zh 3 rfl (Za 3 wI) ?_
   refine Zh 7 rfl (Yg 0 wI (Wo 0 Zda) p1 p2) ?_
   refine Zh 11 rfl (Vz wI (Zf 0)) ?_
   obtain ⟨r2, q2, H⟩ := Zp H
   refine Zn 12 rfl (Zk [4, 4] (Q34.spec q2) h3 rfl (Zv (Wo 0 B4) Zu)) ?_
   rintro _ w2 ⟨_, ⟨A6, c_6, rfl, rfl⟩, h4⟩
   replace h4 := nf h4
   refine ⟨⟨[_, _], h4⟩, ?_⟩
   refine Z2 [1] ?_
   have h5 := h4.closeI 2 rfl
   refine J.region (Zl 3 ?_)
   refine Ze (Xr 2 (.pair (.int .u32) (.pair (.slice 5 (.int .u8)) (.pair .bool (.int .i64)))) r1.1 ((gt a0.2.1 r1.1).1, (gt a0.2.1 r1.1).2.1, false, (gt a0.2.1 r1.1).2.2.2) 0 h5 rfl p1 p2 (V6 rfl rfl)) ?_
   intro _ w3 h6
   replace h6 := nf h6
   replace h6 : St w0 F0 [Yi (a0.2.1.set r1.1.toNat ((gt a0.2.1 r1.1).1, (gt a0.2.1 r1.1).2.1, false, (gt a0.2.1 r1.1).2.2.2)) A2 c_2, X51 b2 r2.2.1 r2.2.2.1 A6 c_6 r2.2.2.2.1 r2.2.2.2.2, O5 r2.2.2.1 A6 c_6, Z8 b4 a0.2.2.2.2.1 A4 c_4 a0.2.2.2.2.2, Z9 a0.2.2.2.2.1 A4 c_4, Yk b1 (.pointer (some ⟨b2, 0, none⟩)) (a0.2.1.set r1.1.toNat ((gt a0.2.1 r1.1).1, (gt a0.2.1 r1.1).2.1, false, (gt a0.2.1 r1.1).2.2.2)) A2 c_2 (.map (some b3)) a0.2.2.2.1 A3 c_3 (.pointer (some ⟨b4, 0, none⟩)), Yc .u32 (Value.int .i64) b3 a0.2.2.1, O3 a0.2.2.2.1 A3 c_3] _ _ := h6.retell (by simp only [List.length_set, List.length_nil, Yi, Z9, O3, O5, Yk, Z8, X51] <;> rfl)
   refine Zm [] rfl ?_
   refine ⟨_, Zc, ?_⟩
   refine Zm [0, 4] rfl ?_
   refine J.region (Zl 2 ?_)
   obtain ⟨r3, q3, H⟩ := Zp H
   refine Ze (Zk [5, 1, 1, 0, 2, 2, 0, 0] (Q13.spec q3) h6 rfl Zu) ?_
   rintro _ w4 ⟨_, ⟨A7, c_7, A8, c_8, A9, c_9, A10, c_10, rfl, rfl⟩, h7⟩
   replace h7 := nf h7
   refine Zm [0] rfl ?_
   refine J.seq (J.region ?_)
   refine Zl 3 ?_
   refine Zg (Za 0 h7.wht) ?_
   refine Zm [0, 6] rfl ?_
   refine J.seq (J.region ?_)
   refine Zl 3 ?_
   refine Zg (Za 0 h7.wht) ?_
   refine Zl 1 ?_
   obtain ⟨⟨p3, p4⟩, H⟩ := Zq H
   have e2 := Z3 h7.wh (gO 5) p3 p4
   refine Zg (Zi e2 p3 p4) ?_
   refine Zg (Zj 0 h7.wht (gO 5) p3 p4) ?_
   refine Zm [0, 6, 7] rfl ?_
   refine J.seq (J.region ?_)
   refine Zl 4 ?_
   refine Zg (Za 0 h7.wht) ?_
   refine Zl 1 ?_
   obtain ⟨⟨p5, p6⟩, H⟩ := Zq H
   have e3 := h7.cap (gO 5)
   refine Zg (U9 (r3.2.2.2.1.take ((w64 ((r3.2.2.2.1.length : Int) - 1))).toNat) (w64 ((r3.2.2.2.1.length : Int) - 1)) e3 p5 p6) ?_
   refine Zl 2 ?_
   refine Ze (Zw 0 h7) ?_
   intro _ w5 h8
   replace h8 := nf h8
   refine Zm [7] rfl ?_
   refine J.seq (Zb [2, 3] ?_)
   refine J.ret ?_
   have h9 := h8.front (ty := (.int .i64)) rfl 5 (w64 ((r3.2.2.2.1.length : Int) - 1)).toNat rfl (by omega)
   cases H
   exact ⟨_, _, _, Zc, ⟨_, _, _, _, _, _, _, _, rfl, rfl⟩, Zd h9 [1, 1, 1, 1, 1, 0, 0, 0]⟩
  refine J.skip (⟨_, Zc, ?_⟩)
  refine Zm [0, 4] rfl ?_
  refine J.region (Zl 2 ?_)
  obtain ⟨r4, q4, H⟩ := Zp H
  refine Ze (Zk [2, 2, 2, 2, 2, 2, 0, 0] (Q13.spec q4) h1 rfl Zu) ?_
  rintro _ w6 ⟨_, ⟨A11, c_11, A12, c_12, A13, c_13, A14, c_14, rfl, rfl⟩, h10⟩
  replace h10 := nf h10
  refine Zm [0] rfl ?_
  refine J.seq (J.region ?_)
  refine Zl 3 ?_
  refine Zg (Za 0 h10.wht) ?_
  refine Zm [0, 6] rfl ?_
  refine J.seq (J.region ?_)
  refine Zl 3 ?_
  refine Zg (Za 0 h10.wht) ?_
  refine Zl 1 ?_
  obtain ⟨⟨p7, p8⟩, H⟩ := Zq H
  have e4 := Z3 h10.wh (gO 5) p7 p8
  refine Zg (Zi e4 p7 p8) ?_
  refine Zg (Zj 0 h10.wht (gO 5) p7 p8) ?_
  refine Zm [0, 6, 7] rfl ?_
  refine J.seq (J.region ?_)
  refine Zl 4 ?_
  refine Zg (Za 0 h10.wht) ?_
  refine Zl 1 ?_
  obtain ⟨⟨p9, p10⟩, H⟩ := Zq H
  have e5 := h10.cap (gO 5)
  refine Zg (U9 (r4.2.2.2.1.take ((w64 ((r4.2.2.2.1.length : Int) - 1))).toNat) (w64 ((r4.2.2.2.1.length : Int) - 1)) e5 p9 p10) ?_
  refine Zl 2 ?_
  refine Ze (Zw 0 h10) ?_
  intro _ w7 h11
  replace h11 := nf h11
  refine Zm [7] rfl ?_
  refine J.seq (Zb [2, 3] ?_)
  refine J.ret ?_
  have h12 := h11.front (ty := (.int .i64)) rfl 5 (w64 ((r4.2.2.2.1.length : Int) - 1)).toNat rfl (by omega)
  cases H
  exact ⟨_, _, _, Zc, ⟨_, _, _, _, _, _, _, _, rfl, rfl⟩, Zd h12 [1, 1, 1, 1, 1, 0, 0, 0]⟩
 refine J.skip (J.seq (J.region ?_))
 refine Zl 3 ?_
 refine Zg (Za 0 h0.wht) ?_
 refine Zm [0, 6] rfl ?_
 refine J.seq (J.region ?_)
 refine Zl 3 ?_
 refine Zg (Za 0 h0.wht) ?_
 refine Zl 1 ?_
 obtain ⟨⟨p11, p12⟩, H⟩ := Zq H
 have e6 := Z3 h0.wh (gO 5) p11 p12
 refine Zg (Zi e6 p11 p12) ?_
 refine Zg (Zj 0 h0.wht (gO 5) p11 p12) ?_
 refine Zm [0, 6, 7] rfl ?_
 refine J.seq (J.region ?_)
 refine Zl 4 ?_
 refine Zg (Za 0 h0.wht) ?_
 refine Zl 1 ?_
 obtain ⟨⟨p13, p14⟩, H⟩ := Zq H
 have e7 := h0.cap (gO 5)
 refine Zg (U9 (a0.2.2.2.1.take ((w64 ((a0.2.2.2.1.length : Int) - 1))).toNat) (w64 ((a0.2.2.2.1.length : Int) - 1)) e7 p13 p14) ?_
 refine Zl 2 ?_
 refine Ze (Zw 0 h0) ?_
 intro _ w8 h13
 replace h13 := nf h13
 refine Zm [7] rfl ?_
 refine J.seq (Zb [2, 3] ?_)
 refine J.ret ?_
 have h14 := h13.front (ty := (.int .i64)) rfl 5 (w64 ((a0.2.2.2.1.length : Int) - 1)).toNat rfl (by omega)
 cases H
 exact ⟨_, _, _, Zc, ⟨_, _, _, _, _, _, _, _, rfl, rfl⟩, Zd h14 [1, 1, 1, 1, 1, 0, 0, 0]⟩

def Q37.f (a0 : List (Int)) : Option (List (Int)) := if (([] : List (Int)).length + a0.length) * 1 ≤ 140737488355328 then (some (([] : List (Int)) ++ a0)) else none
theorem Q37.spec {a0 : List (Int)} {A1 : Option Addr} {c_1 : Nat} {r : List (Int)} (H : Q37.f a0 = some r) :
  Spec Try.prog 70 [.slice A1 a0.length c_1] [] [R5 a0 A1 c_1] (fun v l => ∃ (A_0 : Option Addr) (c_0 : Nat), v = .slice A_0 r.length c_0 ∧ l = [O5 r A_0 c_0]) := by
 refine Zr Try.func70 fun w0 F0 h0 => ?_
 unfold Q37.f at H
 refine J.seq (Zb [0] ?_)
 refine J.seq (J.seq (Zb [0, 4] ?_))
 refine Zd4 (fun c1 => ?_) (fun c1 => ?_)
 ·have e1 := h0.nilrow (Zf 0) (by simpa using c1)
  replace H : (some ([] : List (Int))) = some r := by rw [e1] at H; simpa using H
  refine J.seq (Zb [2] ?_)
  refine J.ret ?_
  have h1 := h0.addNil 5 (.int .u8)
  cases H
  exact ⟨_, _, _, Zc, ⟨_, _, rfl, rfl⟩, Zd h1 [0]⟩
 refine J.skip (J.seq (J.region ?_))
 refine Ze (Ys (.int .u8) ([] : List (Int)) h0) ?_
 rintro _ w1 ⟨b1, rfl, h2⟩
 replace h2 := nf h2
 refine Zl 1 ?_
 obtain ⟨p1, H⟩ := Zq H
 refine Ze (Yq 0 h2 (Zf 0) p1) ?_
 rintro _ w2 ⟨A2, c_2, rfl, h3⟩
 replace h3 := nf h3
 refine Zm [2] rfl ?_
 refine J.ret ?_
 cases H
 exact ⟨_, _, _, Zc, ⟨_, _, rfl, rfl⟩, Zd h3 [0]⟩

def Q32.f (a0 : Int × List (Int) × (Int × Int)) (a1 : Int) : Option (List (Int) × Int × (Int × List (Int) × (Int × Int))) := (Q29.f a0).bind fun r1 => (if (decide (r1 = 0)) = true then (some (([] : List (Int)), 1, a0)) else ((Q29.f a0).bind fun r2 => (if (decide (r2 ≤ (w64 (a1)))) = true then (some (([] : List (Int)), 4, a0)) else (if 0 ≤ (w64 ((w64 (a1)) * a0.1)) ∧ (w64 ((w64 (a1)) * a0.1)) ≤ (w64 ((w64 ((w64 (a1)) * a0.1)) + a0.1)) ∧ (w64 ((w64 ((w64 (a1)) * a0.1)) + a0.1)) ≤ (a0.2.1.length : Int) then ((Q37.f ((a0.2.1.drop ((w64 ((w64 (a1)) * a0.1))).toNat).take (((w64 ((w64 ((w64 (a1)) * a0.1)) + a0.1))).toNat - ((w64 ((w64 (a1)) * a0.1))).toNat))).bind fun r3 => (some (r3, 0, (a0.1, a0.2.1, ((IntKind.u64.wrap (a0.2.2.1 + 1)), a0.2.2.2))))) else none))))
theorem Q32.spec {a0 : Int × List (Int) × (Int × Int)} {a1 : Int} {b1 : Nat} {A1 : Option Addr} {c_1 : Nat} {r : List (Int) × Int × (Int × List (Int) × (Int × Int))} (H : Q32.f a0 a1 = some r) :
  Spec Try.prog 17 [.pointer (some ⟨b1, 0, none⟩), .int .u32 a1] [X51 b1 a0.1 a0.2.1 A1 c_1 a0.2.2.1 a0.2.2.2, O5 a0.2.1 A1 c_1] [] (fun v l => ∃ (A_0 : Option Addr) (c_0 : Nat) (A_1 : Option Addr) (c_1 : Nat), v = .tuple #[.slice A_0 r.1.length c_0, .int .i64 r.2.1] ∧ l = [O5 r.1 A_0 c_0, X51 b1 r.2.2.1 r.2.2.2.1 A_1 c_1 r.2.2.2.2.1 r.2.2.2.2.2, O5 r.2.2.2.1 A_1 c_1]) := by
 refine Zr Try.func17 fun w0 F0 h0 => ?_
 unfold Q32.f at H
 refine J.seq (Zb [0, 1] ?_)
 refine J.seq (J.region ?_)
 refine Zl 2 ?_
 refine Yl Try.func69 ?_
 refine J.seq (Zb [0, 1] ?_)
 refine J.seq (J.block (J.seq (J.region ?_)))
 refine Zl 1 ?_
 obtain ⟨r1, q1, H⟩ := Zp H
 refine Ze (Zk [0, 0] (Q29.spec q1) h0 rfl Zu) ?_
 rintro _ w1 ⟨_, ⟨rfl, rfl⟩, h1⟩
 replace h1 := nf h1
 refine Zm [0, 1, 7] rfl ?_
 refine jIf H (fun c1 H => ?_) fun c1 H => ?_
 ·refine J.seq (Zb [4, 5] ?_)
  refine J.ret (⟨_, Zc, ?_⟩)
  refine Zm [0, 6, 7] rfl ?_
  refine J.seq (J.seq (Zb [0, 6, 7, 15] ?_))
  refine Z6 ?_
  refine J.seq (Zb [4, 5] ?_)
  refine J.ret ?_
  have h2 := h1.addNil 5 (.int .u8)
  cases H
  exact ⟨_, _, _, Zc, ⟨_, _, _, _, rfl, rfl⟩, Zd h2 [0, 0, 0]⟩
 refine J.seq (J.region ?_)
 refine Zl 3 ?_
 obtain ⟨r2, q2, H⟩ := Zp H
 refine Ze (Zk [0, 0] (Q29.spec q2) h1 rfl Zu) ?_
 rintro _ w2 ⟨_, ⟨rfl, rfl⟩, h3⟩
 replace h3 := nf h3
 refine Zm [0, 1, 11] rfl ?_
 refine jIf H (fun c2 H => ?_) fun c2 H => ?_
 ·refine J.seq (Zb [4, 5] ?_)
  refine J.ret (⟨_, Zc, ?_⟩)
  refine Zm [0, 6, 7] rfl ?_
  refine J.seq (J.seq (Zb [0, 6, 7, 15] ?_))
  refine Z6 ?_
  refine J.seq (Zb [4, 5] ?_)
  refine J.ret ?_
  have h4 := h3.addNil 5 (.int .u8)
  cases H
  exact ⟨_, _, _, Zc, ⟨_, _, _, _, rfl, rfl⟩, Zd h4 [0, 0, 0]⟩
 refine J.skip (J.seq (J.region ?_))
 refine Zl 5 ?_
 refine Zg (Za 0 h3.wht) ?_
 refine Zm [0, 6] rfl ?_
 refine J.seq (Zs h3 ?_)
 have h5 := h3.drew
 refine Zx [0, 1, 2, 4, 5, 6, 7, 8] ?_
 refine Zh 3 rfl (Za 0 wI) ?_
 refine Zh 9 rfl (Za 0 wI) ?_
 refine Zx [10] ?_
 obtain ⟨⟨p1, p2, p3⟩, H⟩ := Zq H
 have e1 := h5.cap (gO 1)
 refine Zh 11 rfl (Za0 ((a0.2.1.drop ((w64 ((w64 (a1)) * a0.1))).toNat).take (((w64 ((w64 ((w64 (a1)) * a0.1)) + a0.1))).toNat - ((w64 ((w64 (a1)) * a0.1))).toNat)) (w64 ((w64 (a1)) * a0.1)) (w64 ((w64 ((w64 (a1)) * a0.1)) + a0.1)) e1 p1 p2 p3) ?_
 refine Zx [12, 13] ?_
 refine Z2 [4, 5] ?_
 refine J.ret (⟨_, Zc, ?_⟩)
 refine Zm [0, 6, 7] rfl ?_
 refine J.seq (J.seq (Zb [0, 6, 7, 15] ?_))
 refine Z7 ?_
 refine J.skip (J.seq (J.region ?_))
 refine Zl 4 ?_
 refine Zg (Za 0 h5.wht) ?_
 refine Zl 4 ?_
 refine Ze (Zw 0 h5) ?_
 intro _ w3 h6
 replace h6 := nf h6
 refine Zm [6] rfl ?_
 refine J.seq (J.region ?_)
 refine Zl 1 ?_
 obtain ⟨r3, q3, H⟩ := Zp H
 refine Ze (Zk [] (Q37.spec q3) h6 rfl (Zv ((Gives.of 1 rfl Yv).trans (Zdv (.int .u8) ((a0.2.1.drop ((w64 ((w64 (a1)) * a0.1))).toNat).take (((w64 ((w64 ((w64 (a1)) * a0.1)) + a0.1))).toNat - ((w64 ((w64 (a1)) * a0.1))).toNat)) (w64 ((w64 (a1)) * a0.1)) (w64 ((w64 ((w64 (a1)) * a0.1)) + a0.1)) p1 p2 p3)) Zu)) ?_
 rintro _ w4 ⟨_, ⟨A2, c_2, rfl, rfl⟩, h7⟩
 replace h7 := nf h7
 refine Zm [4, 5] rfl ?_
 refine J.ret ?_
 cases H
 exact ⟨_, _, _, Zc, ⟨_, _, _, _, rfl, rfl⟩, Zd h7 [0, 0, 0]⟩

def Q6.f (a0 : (Int × List (Int) × (Int × Int)) × (List (Int × List (Int) × Bool × Int)) × (List (Int × Int)) × List (Int) × ((List (Int × Int × Bool)) × Int)) (a1 : Int) : Option (Int × ((Int × List (Int) × (Int × Int)) × (List (Int × List (Int) × Bool × Int)) × (List (Int × Int)) × List (Int) × ((List (Int × Int × Bool)) × Int))) := (Q16.f a0 a1).bind fun r1 => (if (!decide (r1 = 0)) = true then (some (r1, a0)) else (if (Yy a0.2.2.1 a1) = true then (if 0 ≤ (Zt (0 : Int) a0.2.2.1 a1) ∧ (Zt (0 : Int) a0.2.2.1 a1) < (a0.2.1.length : Int) then ((Q17.f a0.2.2.2.2 (Zt (0 : Int) a0.2.2.1 a1)).bind fun r2 => (some (0, (a0.1, (a0.2.1.set (Zt (0 : Int) a0.2.2.1 a1).toNat ((gt a0.2.1 (Zt (0 : Int) a0.2.2.1 a1)).1, (gt a0.2.1 (Zt (0 : Int) a0.2.2.1 a1)).2.1, (gt a0.2.1 (Zt (0 : Int) a0.2.2.1 a1)).2.2.1, (w64 (((gt a0.2.1 (Zt (0 : Int) a0.2.2.1 a1)).2.2.2) + 1)))), a0.2.2.1, a0.2.2.2.1, r2.2)))) else none) else ((Q15.f a0).bind fun r3 => (if (!r3.2.1) = true then (some (7, r3.2.2)) else ((Q32.f r3.2.2.1 a1).bind fun r4 => (if (!decide (r4.2.1 = 0)) = true then (if (r3.2.2.2.2.2.1.length + ([r3.1] : List (Int)).length) * 8 ≤ 140737488355328 then (some (r4.2.1, (r4.2.2, r3.2.2.2.1, r3.2.2.2.2.1, (r3.2.2.2.2.2.1 ++ ([r3.1] : List (Int))), r3.2.2.2.2.2.2))) else none) else (if 0 ≤ r3.1 ∧ r3.1 < (r3.2.2.2.1.length : Int) then ((Q17.f r3.2.2.2.2.2.2 r3.1).bind fun r5 => (some (0, (r4.2.2, (r3.2.2.2.1.set r3.1.toNat (a1, r4.1, false, 1)), (Wu a1 r3.1 r3.2.2.2.2.1), r3.2.2.2.2.2.1, r5.2)))) else none)))))))
theorem Q6.spec {a0 : (Int × List (Int) × (Int × Int)) × (List (Int × List (Int) × Bool × Int)) × (List (Int × Int)) × List (Int) × ((List (Int × Int × Bool)) × Int)} {a1 : Int} {b1 : Nat} {b2 : Nat} {b3 : Nat} {b4 : Nat} {A1 : Option Addr} {c_1 : Nat} {A2 : Option Addr} {c_2 : Nat} {A3 : Option Addr} {c_3 : Nat} {A4 : Option Addr} {c_4 : Nat} {r : Int × ((Int × List (Int) × (Int × Int)) × (List (Int × List (Int) × Bool × Int)) × (List (Int × Int)) × List (Int) × ((List (Int × Int × Bool)) × Int))} (H : Q6.f a0 a1 = some r) :
  Spec Try.prog 56 [.pointer (some ⟨b1, 0, none⟩), .int .u32 a1] [Yk b1 (.pointer (some ⟨b2, 0, none⟩)) a0.2.1 A2 c_2 (.map (some b3)) a0.2.2.2.1 A3 c_3 (.pointer (some ⟨b4, 0, none⟩)), X51 b2 a0.1.1 a0.1.2.1 A1 c_1 a0.1.2.2.1 a0.1.2.2.2, O5 a0.1.2.1 A1 c_1, Yi a0.2.1 A2 c_2, Yc .u32 (Value.int .i64) b3 a0.2.2.1, O3 a0.2.2.2.1 A3 c_3, Z8 b4 a0.2.2.2.2.1 A4 c_4 a0.2.2.2.2.2, Z9 a0.2.2.2.2.1 A4 c_4] [] (fun v l => ∃ (A_0 : Option Addr) (c_0 : Nat) (A_1 : Option Addr) (c_1 : Nat) (A_2 : Option Addr) (c_2 : Nat) (A_3 : Option Addr) (c_3 : Nat), v = .int .i64 r.1 ∧ l = [Yk b1 (.pointer (some ⟨b2, 0, none⟩)) r.2.2.1 A_1 c_1 (.map (some b3)) r.2.2.2.2.1 A_2 c_2 (.pointer (some ⟨b4, 0, none⟩)), X51 b2 r.2.1.1 r.2.1.2.1 A_0 c_0 r.2.1.2.2.1 r.2.1.2.2.2, O5 r.2.1.2.1 A_0 c_0, Yi r.2.2.1 A_1 c_1, Yc .u32 (Value.int .i64) b3 r.2.2.2.1, O3 r.2.2.2.2.1 A_2 c_2, Z8 b4 r.2.2.2.2.2.1 A_3 c_3 r.2.2.2.2.2.2, Z9 r.2.2.2.2.2.1 A_3 c_3]) := by
 refine Zr Try.func56 fun w0 F0 h0 => ?_
 unfold Q6.f at H
 refine J.seq (Zb [0, 1] ?_)
 refine J.seq (J.seq (J.region ?_))
 refine Zl 2 ?_
 obtain ⟨r1, q1, H⟩ := Zp H
 refine Ze (Zk [0, 0, 0, 0, 0, 0, 0, 0] (Q16.spec q1) h0 rfl Zu) ?_
 rintro _ w1 ⟨_, ⟨rfl, rfl⟩, h1⟩
 replace h1 := nf h1
 refine Zm [0, 1, 5] rfl ?_
 refine J.seq (Zb [0, 1, 5, 16] ?_)
 refine jIf H (fun c1 H => ?_) fun c1 H => ?_
 ·refine J.seq (Zb [4] ?_)
  refine J.ret ?_
  cases H
  exact ⟨_, _, _, Zc, ⟨_, _, _, _, _, _, _, _, rfl, rfl⟩, Zd h1 [0, 0, 0, 0, 0, 0, 0, 0]⟩
 refine J.skip (J.seq (J.seq (J.region ?_)))
 refine Zl 3 ?_
 refine Zg (Za 0 h1.wht) ?_
 refine Zl 1 ?_
 refine Zg (Xg (0 : Int) 4 h1.wht) ?_
 refine Zm [0, 1, 6, 7] rfl ?_
 refine J.seq (Zb [0, 1, 6, 27] ?_)
 refine jIf H (fun c2 H => ?_) fun c2 H => ?_
 ·refine J.seq (J.region ?_)
  refine Zl 3 ?_
  refine Zg (Za 0 h1.wht) ?_
  refine Zl 1 ?_
  obtain ⟨⟨p1, p2⟩, H⟩ := Zq H
  have e1 := Z3 h1.wh (gO 3) p1 p2
  refine Zg (Zi e1 p1 p2) ?_
  refine Zl 1 ?_
  refine Zg (Yg 3 h1.wht (gO 3) p1 p2) ?_
  refine Zl 1 ?_
  refine Zg (Zi e1 p1 p2) ?_
  refine Zl 1 ?_
  refine Ze (Xr 3 (.pair (.int .u32) (.pair (.slice 5 (.int .u8)) (.pair .bool (.int .i64)))) (Zt (0 : Int) a0.2.2.1 a1) ((gt a0.2.1 (Zt (0 : Int) a0.2.2.1 a1)).1, (gt a0.2.1 (Zt (0 : Int) a0.2.2.1 a1)).2.1, (gt a0.2.1 (Zt (0 : Int) a0.2.2.1 a1)).2.2.1, (w64 (((gt a0.2.1 (Zt (0 : Int) a0.2.2.1 a1)).2.2.2) + 1))) 3 h1 rfl p1 p2 (V6 rfl rfl)) ?_
  intro _ w2 h2
  replace h2 := nf h2
  replace h2 : St w0 F0 [Yi (a0.2.1.set (Zt (0 : Int) a0.2.2.1 a1).toNat ((gt a0.2.1 (Zt (0 : Int) a0.2.2.1 a1)).1, (gt a0.2.1 (Zt (0 : Int) a0.2.2.1 a1)).2.1, (gt a0.2.1 (Zt (0 : Int) a0.2.2.1 a1)).2.2.1, (w64 (((gt a0.2.1 (Zt (0 : Int) a0.2.2.1 a1)).2.2.2) + 1)))) A2 c_2, Yk b1 (.pointer (some ⟨b2, 0, none⟩)) (a0.2.1.set (Zt (0 : Int) a0.2.2.1 a1).toNat ((gt a0.2.1 (Zt (0 : Int) a0.2.2.1 a1)).1, (gt a0.2.1 (Zt (0 : Int) a0.2.2.1 a1)).2.1, (gt a0.2.1 (Zt (0 : Int) a0.2.2.1 a1)).2.2.1, (w64 (((gt a0.2.1 (Zt (0 : Int) a0.2.2.1 a1)).2.2.2) + 1)))) A2 c_2 (.map (some b3)) a0.2.2.2.1 A3 c_3 (.pointer (some ⟨b4, 0, none⟩)), X51 b2 a0.1.1 a0.1.2.1 A1 c_1 a0.1.2.2.1 a0.1.2.2.2, O5 a0.1.2.1 A1 c_1, Yc .u32 (Value.int .i64) b3 a0.2.2.1, O3 a0.2.2.2.1 A3 c_3, Z8 b4 a0.2.2.2.2.1 A4 c_4 a0.2.2.2.2.2, Z9 a0.2.2.2.2.1 A4 c_4] _ _ := h2.retell (by simp only [List.length_set, List.length_nil, Yi, Z9, O3, O5, Yk, Z8, X51] <;> rfl)
  refine Zm [0, 6] rfl ?_
  refine J.seq (J.region ?_)
  refine Zl 3 ?_
  refine Zg (Za 1 h2.wht) ?_
  refine Zl 1 ?_
  obtain ⟨r2, q2, H⟩ := Zp H
  refine Ze (Zk [6, 6] (Q17.spec q2) h2 rfl Zu) ?_
  rintro _ w3 ⟨_, ⟨A5, c_5, rfl, rfl⟩, h3⟩
  replace h3 := nf h3
  refine Zm [] rfl ?_
  refine J.seq (Zb [4] ?_)
  refine J.ret ?_
  cases H
  exact ⟨_, _, _, Zc, ⟨_, _, _, _, _, _, _, _, rfl, rfl⟩, Zd h3 [3, 3, 3, 2, 2, 2, 0, 0]⟩
 refine J.skip (J.seq (J.region ?_))
 refine Zl 1 ?_
 obtain ⟨r3, q3, H⟩ := Zp H
 refine Ze (Zk [0, 0, 0, 0, 0, 0, 0, 0] (Q15.spec q3) h1 rfl Zu) ?_
 rintro _ w4 ⟨_, ⟨A6, c_6, A7, c_7, A8, c_8, A9, c_9, rfl, rfl⟩, h4⟩
 replace h4 := nf h4
 refine Zm [0, 1, 8, 9] rfl ?_
 refine J.seq (J.seq (Zb [0, 1, 8, 51] ?_))
 refine jIf H (fun c3 H => ?_) fun c3 H => ?_
 ·refine J.seq (Zb [4] ?_)
  refine J.ret ?_
  cases H
  exact ⟨_, _, _, Zc, ⟨_, _, _, _, _, _, _, _, rfl, rfl⟩, Zd h4 [0, 0, 0, 0, 0, 0, 0, 0]⟩
 refine J.skip (J.seq (J.region ?_))
 refine Zl 3 ?_
 refine Zg (Za 0 h4.wht) ?_
 refine Zl 1 ?_
 obtain ⟨r4, q4, H⟩ := Zp H
 refine Ze (Zk [1, 1] (Q32.spec q4) h4 rfl Zu) ?_
 rintro _ w5 ⟨_, ⟨A10, c_10, A11, c_11, rfl, rfl⟩, h5⟩
 replace h5 := nf h5
 refine Zm [0, 1, 8, 10, 11] rfl ?_
 refine J.seq (J.seq (Zb [0, 1, 8, 10, 11, 62] ?_))
 refine jIf H (fun c4 H => ?_) fun c4 H => ?_
 ·refine J.seq (J.region ?_)
  refine Zl 4 ?_
  refine Zg (Za 3 h5.wht) ?_
  refine Zl 1 ?_
  refine Ze (Ys (.int .i64) ([r3.1] : List (Int)) h5) ?_
  rintro _ w6 ⟨b5, rfl, h6⟩
  replace h6 := nf h6
  obtain ⟨p3, H⟩ := Zq H
  refine Ze (Yq 7 h6 (gO 0) p3) ?_
  rintro _ w7 ⟨A12, c_12, rfl, h7⟩
  replace h7 := nf h7
  refine Zl 2 ?_
  refine Ze (Zw 5 h7) ?_
  intro _ w8 h8
  replace h8 := nf h8
  refine Zm [11] rfl ?_
  have h9 := Zd h8 [0, 0, 2, 2, 2, 2, 2, 2]
  replace h9 := nf h9
  refine J.seq (Zb [4] ?_)
  refine J.ret ?_
  cases H
  exact ⟨_, _, _, Zc, ⟨_, _, _, _, _, _, _, _, rfl, rfl⟩, Zd h9 [0, 1, 1, 1, 1, 0, 0, 0]⟩
 refine J.skip (J.seq (J.region ?_))
 refine Zl 5 ?_
 refine Yl Try.func106 ?_
 refine J.seq (J.region ?_)
 refine Ze (Y2 h5) ?_
 rintro _ w9 ⟨b6, rfl, h10⟩
 replace h10 := nf h10
 refine Zm [0, 1, 5] rfl ?_
 refine J.seq (J.region ?_)
 refine Zl 1 ?_
 refine Ze (Zw 0 h10) ?_
 intro _ w10 h11
 replace h11 := nf h11
 refine Zm [0, 1, 5] rfl ?_
 refine J.seq (Zs (Zd h11 [0, 1, 1, 1, 2, 2, 2, 2]) ?_)
 have h12 := h11.drew
 refine Zx [0, 1, 2, 4] ?_
 refine Zh 3 rfl (Za 3 wI) ?_
 refine Zh 5 rfl (Za 0 wI) ?_
 obtain ⟨⟨p4, p5⟩, H⟩ := Zq H
 have e2 := Z3 h12.wh (gO 5) p4 p5
 refine Zh 6 rfl (Zi e2 p4 p5) ?_
 have h13 := (h12.only [5, 1, 0, 0, 0, 0, 0, 0, 0, 0] rfl).both
 refine Zn 7 rfl (Xe 0 (.pair (.int .u32) (.pair (.slice 5 (.int .u8)) (.pair .bool (.int .i64)))) r3.1 (a1, r4.1, false, 1) h13 p4 p5 Vx) ?_
 intro _ w11 h14
 replace h14 := nf h14
 refine ⟨⟨[_], h14⟩, ?_⟩
 replace h14 : St w0 F0 [Yi (r3.2.2.2.1.set r3.1.toNat (a1, r4.1, false, 1)) A7 c_7, Um b6 a1 r4.1 A10 c_10 false 1, X51 b2 r4.2.2.1 r4.2.2.2.1 A11 c_11 r4.2.2.2.2.1 r4.2.2.2.2.2, O5 r4.2.2.2.1 A11 c_11, Yk b1 (.pointer (some ⟨b2, 0, none⟩)) (r3.2.2.2.1.set r3.1.toNat (a1, r4.1, false, 1)) A7 c_7 (.map (some b3)) r3.2.2.2.2.2.1 A8 c_8 (.pointer (some ⟨b4, 0, none⟩)), Yc .u32 (Value.int .i64) b3 r3.2.2.2.2.1, O3 r3.2.2.2.2.2.1 A8 c_8, Z8 b4 r3.2.2.2.2.2.2.1 A9 c_9 r3.2.2.2.2.2.2.2, Z9 r3.2.2.2.2.2.2.1 A9 c_9] _ _ := h14.retell (by simp only [List.length_set, List.length_nil, Yi, Z9, O3, O5, Yk, Um, Z8, X51] <;> rfl)
 refine Z2 [0, 1, 5] ?_
 refine J.seq (Zs (Zd h14 [0, 0, 0, 0, 0, 1, 1, 1]) ?_)
 have h15 := h14.drew
 refine Zx [0, 1, 2, 4, 6] ?_
 refine Zh 3 rfl (Za 4 wI) ?_
 refine Zh 5 rfl (Za 1 wI) ?_
 refine Zn 7 rfl (Vo Yd (v := r3.1) (ix := a1) 5 rfl h15 rfl rfl rfl rfl rfl rfl rfl rfl rfl) ?_
 intro _ w12 h16
 replace h16 := nf h16
 refine ⟨⟨[_], h16⟩, ?_⟩
 refine Z2 [0, 1] ?_
 refine J.region (Zl 3 ?_)
 refine Zg (Za 5 h16.wht) ?_
 refine Zl 1 ?_
 obtain ⟨r5, q5, H⟩ := Zp H
 refine Ze (Zk [7, 7] (Q17.spec q5) h16 rfl Zu) ?_
 rintro _ w13 ⟨_, ⟨A13, c_13, rfl, rfl⟩, h17⟩
 replace h17 := nf h17
 refine Zm [] rfl ?_
 refine ⟨_, Zc, ?_⟩
 refine Zm [] rfl ?_
 refine J.seq (Zb [4] ?_)
 refine J.ret ?_
 cases H
 exact ⟨_, _, _, Zc, ⟨_, _, _, _, _, _, _, _, rfl, rfl⟩, Zd h17 [7, 5, 5, 3, 2, 3, 0, 0]⟩

def Q30.f (a0 : Int × List (Int) × (Int × Int)) : Option (Int) := some a0.1
theorem Q30.spec {a0 : Int × List (Int) × (Int × Int)} {b1 : Nat} {A1 : Option Addr} {c_1 : Nat} {r : Int} (H : Q30.f a0 = some r) :
  Spec Try.prog 25 [.pointer (some ⟨b1, 0, none⟩)] [X51 b1 a0.1 a0.2.1 A1 c_1 a0.2.2.1 a0.2.2.2, O5 a0.2.1 A1 c_1] [] (fun v l => v = .int .i64 r ∧ l = [X51 b1 a0.1 a0.2.1 A1 c_1 a0.2.2.1 a0.2.2.2, O5 a0.2.1 A1 c_1]) := by
 refine Zr Try.func25 fun w0 F0 h0 => ?_
 unfold Q30.f at H
 refine J.seq (Zb [0] ?_)
 refine J.seq (J.seq (Zb [0, 4] ?_))
 refine Z7 ?_
 refine J.skip (J.seq (J.region ?_))
 refine Zl 3 ?_
 refine Zg (Za 0 h0.wht) ?_
 refine Zm [2] rfl ?_
 refine J.ret ?_
 cases H
 exact ⟨_, _, _, Zc, ⟨rfl, rfl⟩, Zd h0 [0, 0]⟩

def Q12.f (a0 : (Int × List (Int) × (Int × Int)) × (List (Int × List (Int) × Bool × Int)) × (List (Int × Int)) × List (Int) × ((List (Int × Int × Bool)) × Int)) (a1 : Int) (a2 : List (Int)) : Option (Int × ((Int × List (Int) × (Int × Int)) × (List (Int × List (Int) × Bool × Int)) × (List (Int × Int)) × List (Int) × ((List (Int × Int × Bool)) × Int))) := (Q14.f a0).bind fun r1 => (if r1 = true then (some (1, a0)) else (if (!(Yy a0.2.2.1 a1)) = true then (some (8, a0)) else (if 0 ≤ (Zt (0 : Int) a0.2.2.1 a1) ∧ (Zt (0 : Int) a0.2.2.1 a1) < (a0.2.1.length : Int) then (if (decide (((gt a0.2.1 (Zt (0 : Int) a0.2.2.1 a1)).2.2.2) = 0)) = true then (some (8, a0)) else ((Q30.f a0.1).bind fun r2 => (if (!decide ((a2.length : Int) = r2)) = true then (some (3, a0)) else ((Q37.f a2).bind fun r3 => (some (0, (a0.1, ((a0.2.1.set (Zt (0 : Int) a0.2.2.1 a1).toNat ((gt a0.2.1 (Zt (0 : Int) a0.2.2.1 a1)).1, r3, (gt a0.2.1 (Zt (0 : Int) a0.2.2.1 a1)).2.2.1, (gt a0.2.1 (Zt (0 : Int) a0.2.2.1 a1)).2.2.2)).set (Zt (0 : Int) a0.2.2.1 a1).toNat ((gt (a0.2.1.set (Zt (0 : Int) a0.2.2.1 a1).toNat ((gt a0.2.1 (Zt (0 : Int) a0.2.2.1 a1)).1, r3, (gt a0.2.1 (Zt (0 : Int) a0.2.2.1 a1)).2.2.1, (gt a0.2.1 (Zt (0 : Int) a0.2.2.1 a1)).2.2.2)) (Zt (0 : Int) a0.2.2.1 a1)).1, (gt (a0.2.1.set (Zt (0 : Int) a0.2.2.1 a1).toNat ((gt a0.2.1 (Zt (0 : Int) a0.2.2.1 a1)).1, r3, (gt a0.2.1 (Zt (0 : Int) a0.2.2.1 a1)).2.2.1, (gt a0.2.1 (Zt (0 : Int) a0.2.2.1 a1)).2.2.2)) (Zt (0 : Int) a0.2.2.1 a1)).2.1, true, (gt (a0.2.1.set (Zt (0 : Int) a0.2.2.1 a1).toNat ((gt a0.2.1 (Zt (0 : Int) a0.2.2.1 a1)).1, r3, (gt a0.2.1 (Zt (0 : Int) a0.2.2.1 a1)).2.2.1, (gt a0.2.1 (Zt (0 : Int) a0.2.2.1 a1)).2.2.2)) (Zt (0 : Int) a0.2.2.1 a1)).2.2.2)), a0.2.2.1, a0.2.2.2.1, a0.2.2.2.2))))))) else none)))
theorem Q12.spec {a0 : (Int × List (Int) × (Int × Int)) × (List (Int × List (Int) × Bool × Int)) × (List (Int × Int)) × List (Int) × ((List (Int × Int × Bool)) × Int)} {a1 : Int} {a2 : List (Int)} {A5 : Option Addr} {c_5 : Nat} {b1 : Nat} {b2 : Nat} {b3 : Nat} {b4 : Nat} {A1 : Option Addr} {c_1 : Nat} {A2 : Option Addr} {c_2 : Nat} {A3 : Option Addr} {c_3 : Nat} {A4 : Option Addr} {c_4 : Nat} {r : Int × ((Int × List (Int) × (Int × Int)) × (List (Int × List (Int) × Bool × Int)) × (List (Int × Int)) × List (Int) × ((List (Int × Int × Bool)) × Int))} (H : Q12.f a0 a1 a2 = some r) :
  Spec Try.prog 59 [.pointer (some ⟨b1, 0, none⟩), .int .u32 a1, .slice A5 a2.length c_5] [Yk b1 (.pointer (some ⟨b2, 0, none⟩)) a0.2.1 A2 c_2 (.map (some b3)) a0.2.2.2.1 A3 c_3 (.pointer (some ⟨b4, 0, none⟩)), X51 b2 a0.1.1 a0.1.2.1 A1 c_1 a0.1.2.2.1 a0.1.2.2.2, O5 a0.1.2.1 A1 c_1, Yi a0.2.1 A2 c_2, Yc .u32 (Value.int .i64) b3 a0.2.2.1, O3 a0.2.2.2.1 A3 c_3, Z8 b4 a0.2.2.2.2.1 A4 c_4 a0.2.2.2.2.2, Z9 a0.2.2.2.2.1 A4 c_4] [R5 a2 A5 c_5] (fun v l => ∃ (A_0 : Option Addr) (c_0 : Nat) (A_1 : Option Addr) (c_1 : Nat) (A_2 : Option Addr) (c_2 : Nat) (A_3 : Option Addr) (c_3 : Nat), v = .int .i64 r.1 ∧ l = [Yk b1 (.pointer (some ⟨b2, 0, none⟩)) r.2.2.1 A_1 c_1 (.map (some b3)) r.2.2.2.2.1 A_2 c_2 (.pointer (some ⟨b4, 0, none⟩)), X51 b2 r.2.1.1 r.2.1.2.1 A_0 c_0 r.2.1.2.2.1 r.2.1.2.2.2, O5 r.2.1.2.1 A_0 c_0, Yi r.2.2.1 A_1 c_1, Yc .u32 (Value.int .i64) b3 r.2.2.2.1, O3 r.2.2.2.2.1 A_2 c_2, Z8 b4 r.2.2.2.2.2.1 A_3 c_3 r.2.2.2.2.2.2, Z9 r.2.2.2.2.2.1 A_3 c_3]) := by
 refine Zr Try.func59 fun w0 F0 h0 => ?_
 unfold Q12.f at H
 refine J.seq (Zb [0, 1, 2] ?_)
 refine J.seq (J.region ?_)
 refine Zl 2 ?_
 refine Yl Try.func99 ?_
 refine J.seq (Zb [0, 1] ?_)
 refine J.seq (J.seq (J.region ?_))
 refine Zl 1 ?_
 obtain ⟨r1, q1, H⟩ := Zp H
 refine Ze (Zk [0, 0, 0, 0, 0, 0, 0, 0] (Q14.spec q1) h0 rfl Zu) ?_
 rintro _ w1 ⟨_, ⟨rfl, rfl⟩, h1⟩
 replace h1 := nf h1
 refine Zm [0, 1, 9] rfl ?_
 refine jIf H (fun c1 H => ?_) fun c1 H => ?_
 ·refine J.seq (Zb [4, 5] ?_)
  refine J.ret (⟨_, Zc, ?_⟩)
  refine Zm [0, 2, 7, 8] rfl ?_
  refine J.seq (J.block (J.seq (Zb [0, 2, 7, 8, 15] ?_)))
  refine Z6 ?_
  refine J.seq (Zb [6] ?_)
  refine J.ret ?_
  cases H
  exact ⟨_, _, _, Zc, ⟨_, _, _, _, _, _, _, _, rfl, rfl⟩, Zd h1 [0, 0, 0, 0, 0, 0, 0, 0]⟩
 refine J.skip (J.seq (J.region ?_))
 refine Zl 3 ?_
 refine Zg (Za 0 h1.wht) ?_
 refine Zl 1 ?_
 refine Zg (Xg (0 : Int) 4 h1.wht) ?_
 refine Zm [0, 6, 7] rfl ?_
 refine J.seq (J.seq (J.region ?_))
 refine Zl 3 ?_
 refine Xq 21 H (fun c2 H => ?_) fun c2 H => ?_
 ·refine Zm [0, 6, 31] rfl ?_
  refine Z6 ?_
  refine J.seq (Zb [4, 5] ?_)
  refine J.ret (⟨_, Zc, ?_⟩)
  refine Zm [0, 2, 7, 8] rfl ?_
  refine J.seq (J.block (J.seq (Zb [0, 2, 7, 8, 15] ?_)))
  refine Z6 ?_
  refine J.seq (Zb [6] ?_)
  refine J.ret ?_
  cases H
  exact ⟨_, _, _, Zc, ⟨_, _, _, _, _, _, _, _, rfl, rfl⟩, Zd h1 [0, 0, 0, 0, 0, 0, 0, 0]⟩
 refine Zl 3 ?_
 refine Zg (Za 0 h1.wht) ?_
 refine Zl 1 ?_
 obtain ⟨⟨p1, p2⟩, H⟩ := Zq H
 have e1 := Z3 h1.wh (gO 3) p1 p2
 refine Zg (Zi e1 p1 p2) ?_
 refine Zl 1 ?_
 refine Zg (Yg 3 h1.wht (gO 3) p1 p2) ?_
 refine Zm [0, 6, 31] rfl ?_
 refine jIf H (fun c3 H => ?_) fun c3 H => ?_
 ·refine J.seq (Zb [4, 5] ?_)
  refine J.ret (⟨_, Zc, ?_⟩)
  refine Zm [0, 2, 7, 8] rfl ?_
  refine J.seq (J.block (J.seq (Zb [0, 2, 7, 8, 15] ?_)))
  refine Z6 ?_
  refine J.seq (Zb [6] ?_)
  refine J.ret ?_
  cases H
  exact ⟨_, _, _, Zc, ⟨_, _, _, _, _, _, _, _, rfl, rfl⟩, Zd h1 [0, 0, 0, 0, 0, 0, 0, 0]⟩
 refine J.skip (J.seq (J.region ?_))
 refine Zl 3 ?_
 refine Zg (Za 0 h1.wht) ?_
 refine Zl 1 ?_
 refine Zg (Zi e1 p1 p2) ?_
 refine Zm [4, 5] rfl ?_
 refine J.ret (⟨_, Zc, ?_⟩)
 refine Zm [0, 2, 7, 8] rfl ?_
 refine J.seq (J.block (J.seq (Zb [0, 2, 7, 8, 15] ?_)))
 refine Z7 ?_
 refine J.seq (J.region ?_)
 refine Zl 5 ?_
 refine Zg (Za 0 h1.wht) ?_
 obtain ⟨r2, q2, H⟩ := Zp H
 refine Ze (Zk [1, 1] (Q30.spec q2) h1 rfl Zu) ?_
 rintro _ w2 ⟨_, ⟨rfl, rfl⟩, h2⟩
 replace h2 := nf h2
 refine Zm [2, 7, 19] rfl ?_
 refine jIf H (fun c4 H => ?_) fun c4 H => ?_
 ·refine J.seq (Zb [6] ?_)
  refine J.ret ?_
  cases H
  exact ⟨_, _, _, Zc, ⟨_, _, _, _, _, _, _, _, rfl, rfl⟩, Zd h2 [2, 0, 0, 0, 0, 0, 0, 0]⟩
 refine J.skip (J.seq (J.region ?_))
 refine Zl 3 ?_
 obtain ⟨r3, q3, H⟩ := Zp H
 refine Ze (Zk [] (Q37.spec q3) h2 rfl (Zv (Zf 8) Zu)) ?_
 rintro _ w3 ⟨_, ⟨A6, c_6, rfl, rfl⟩, h3⟩
 replace h3 := nf h3
 refine Zl 2 ?_
 have h4 := (h3.only [4, 0, 0, 0, 0, 0, 0, 0, 0] rfl).both
 refine Ze (Xe 1 (.pair (.int .u32) (.pair (.slice 5 (.int .u8)) (.pair .bool (.int .i64)))) (Zt (0 : Int) a0.2.2.1 a1) ((gt a0.2.1 (Zt (0 : Int) a0.2.2.1 a1)).1, r3, (gt a0.2.1 (Zt (0 : Int) a0.2.2.1 a1)).2.2.1, (gt a0.2.1 (Zt (0 : Int) a0.2.2.1 a1)).2.2.2) h4 p1 p2 Zhj) ?_
 intro _ w4 h5
 replace h5 := nf h5
 replace h5 : St w0 F0 [Yi (a0.2.1.set (Zt (0 : Int) a0.2.2.1 a1).toNat ((gt a0.2.1 (Zt (0 : Int) a0.2.2.1 a1)).1, r3, (gt a0.2.1 (Zt (0 : Int) a0.2.2.1 a1)).2.2.1, (gt a0.2.1 (Zt (0 : Int) a0.2.2.1 a1)).2.2.2)) A2 c_2, X51 b2 a0.1.1 a0.1.2.1 A1 c_1 a0.1.2.2.1 a0.1.2.2.2, O5 a0.1.2.1 A1 c_1, Yk b1 (.pointer (some ⟨b2, 0, none⟩)) (a0.2.1.set (Zt (0 : Int) a0.2.2.1 a1).toNat ((gt a0.2.1 (Zt (0 : Int) a0.2.2.1 a1)).1, r3, (gt a0.2.1 (Zt (0 : Int) a0.2.2.1 a1)).2.2.1, (gt a0.2.1 (Zt (0 : Int) a0.2.2.1 a1)).2.2.2)) A2 c_2 (.map (some b3)) a0.2.2.2.1 A3 c_3 (.pointer (some ⟨b4, 0, none⟩)), Yc .u32 (Value.int .i64) b3 a0.2.2.1, O3 a0.2.2.2.1 A3 c_3, Z8 b4 a0.2.2.2.2.1 A4 c_4 a0.2.2.2.2.2, Z9 a0.2.2.2.2.1 A4 c_4] _ _ := h5.retell (by simp only [List.length_set, List.length_nil, Yi, Z9, O3, O5, Yk, Z8, X51] <;> rfl)
 refine Zl 2 ?_
 refine Ze (Xr 2 (.pair (.int .u32) (.pair (.slice 5 (.int .u8)) (.pair .bool (.int .i64)))) (Zt (0 : Int) a0.2.2.1 a1) ((gt (a0.2.1.set (Zt (0 : Int) a0.2.2.1 a1).toNat ((gt a0.2.1 (Zt (0 : Int) a0.2.2.1 a1)).1, r3, (gt a0.2.1 (Zt (0 : Int) a0.2.2.1 a1)).2.2.1, (gt a0.2.1 (Zt (0 : Int) a0.2.2.1 a1)).2.2.2)) (Zt (0 : Int) a0.2.2.1 a1)).1, (gt (a0.2.1.set (Zt (0 : Int) a0.2.2.1 a1).toNat ((gt a0.2.1 (Zt (0 : Int) a0.2.2.1 a1)).1, r3, (gt a0.2.1 (Zt (0 : Int) a0.2.2.1 a1)).2.2.1, (gt a0.2.1 (Zt (0 : Int) a0.2.2.1 a1)).2.2.2)) (Zt (0 : Int) a0.2.2.1 a1)).2.1, true, (gt (a0.2.1.set (Zt (0 : Int) a0.2.2.1 a1).toNat ((gt a0.2.1 (Zt (0 : Int) a0.2.2.1 a1)).1, r3, (gt a0.2.1 (Zt (0 : Int) a0.2.2.1 a1)).2.2.1, (gt a0.2.1 (Zt (0 : Int) a0.2.2.1 a1)).2.2.2)) (Zt (0 : Int) a0.2.2.1 a1)).2.2.2) 0 h5 rfl p1 (by simpa only [List.length_set] using p2) (V6 rfl rfl)) ?_
 intro _ w5 h6
 replace h6 := nf h6
 replace h6 : St w0 F0 [Yi ((a0.2.1.set (Zt (0 : Int) a0.2.2.1 a1).toNat ((gt a0.2.1 (Zt (0 : Int) a0.2.2.1 a1)).1, r3, (gt a0.2.1 (Zt (0 : Int) a0.2.2.1 a1)).2.2.1, (gt a0.2.1 (Zt (0 : Int) a0.2.2.1 a1)).2.2.2)).set (Zt (0 : Int) a0.2.2.1 a1).toNat ((gt (a0.2.1.set (Zt (0 : Int) a0.2.2.1 a1).toNat ((gt a0.2.1 (Zt (0 : Int) a0.2.2.1 a1)).1, r3, (gt a0.2.1 (Zt (0 : Int) a0.2.2.1 a1)).2.2.1, (gt a0.2.1 (Zt (0 : Int) a0.2.2.1 a1)).2.2.2)) (Zt (0 : Int) a0.2.2.1 a1)).1, (gt (a0.2.1.set (Zt (0 : Int) a0.2.2.1 a1).toNat ((gt a0.2.1 (Zt (0 : Int) a0.2.2.1 a1)).1, r3, (gt a0.2.1 (Zt (0 : Int) a0.2.2.1 a1)).2.2.1, (gt a0.2.1 (Zt (0 : Int) a0.2.2.1 a1)).2.2.2)) (Zt (0 : Int) a0.2.2.1 a1)).2.1, true, (gt (a0.2.1.set (Zt (0 : Int) a0.2.2.1 a1).toNat ((gt a0.2.1 (Zt (0 : Int) a0.2.2.1 a1)).1, r3, (gt a0.2.1 (Zt (0 : Int) a0.2.2.1 a1)).2.2.1, (gt a0.2.1 (Zt (0 : Int) a0.2.2.1 a1)).2.2.2)) (Zt (0 : Int) a0.2.2.1 a1)).2.2.2)) A2 c_2, X51 b2 a0.1.1 a0.1.2.1 A1 c_1 a0.1.2.2.1 a0.1.2.2.2, O5 a0.1.2.1 A1 c_1, Yk b1 (.pointer (some ⟨b2, 0, none⟩)) ((a0.2.1.set (Zt (0 : Int) a0.2.2.1 a1).toNat ((gt a0.2.1 (Zt (0 : Int) a0.2.2.1 a1)).1, r3, (gt a0.2.1 (Zt (0 : Int) a0.2.2.1 a1)).2.2.1, (gt a0.2.1 (Zt (0 : Int) a0.2.2.1 a1)).2.2.2)).set (Zt (0 : Int) a0.2.2.1 a1).toNat ((gt (a0.2.1.set (Zt (0 : Int) a0.2.2.1 a1).toNat ((gt a0.2.1 (Zt (0 : Int) a0.2.2.1 a1)).1, r3, (gt a0.2.1 (Zt (0 : Int) a0.2.2.1 a1)).2.2.1, (gt a0.2.1 (Zt (0 : Int) a0.2.2.1 a1)).2.2.2)) (Zt (0 : Int) a0.2.2.1 a1)).1, (gt (a0.2.1.set (Zt (0 : Int) a0.2.2.1 a1).toNat ((gt a0.2.1 (Zt (0 : Int) a0.2.2.1 a1)).1, r3, (gt a0.2.1 (Zt (0 : Int) a0.2.2.1 a1)).2.2.1, (gt a0.2.1 (Zt (0 : Int) a0.2.2.1 a1)).2.2.2)) (Zt (0 : Int) a0.2.2.1 a1)).2.1, true, (gt (a0.2.1.set (Zt (0 : Int) a0.2.2.1 a1).toNat ((gt a0.2.1 (Zt (0 : Int) a0.2.2.1 a1)).1, r3, (gt a0.2.1 (Zt (0 : Int) a0.2.2.1 a1)).2.2.1, (gt a0.2.1 (Zt (0 : Int) a0.2.2.1 a1)).2.2.2)) (Zt (0 : Int) a0.2.2.1 a1)).2.2.2)) A2 c_2 (.map (some b3)) a0.2.2.2.1 A3 c_3 (.pointer (some ⟨b4, 0, none⟩)), Yc .u32 (Value.int .i64) b3 a0.2.2.1, O3 a0.2.2.2.1 A3 c_3, Z8 b4 a0.2.2.2.2.1 A4 c_4 a0.2.2.2.2.2, Z9 a0.2.2.2.2.1 A4 c_4] _ _ := h6.retell (by simp only [List.length_set, List.length_nil, Yi, Z9, O3, O5, Yk, Z8, X51] <;> rfl)
 refine Zm [] rfl ?_
 refine J.seq (Zb [6] ?_)
 refine J.ret ?_
 cases H
 exact ⟨_, _, _, Zc, ⟨_, _, _, _, _, _, _, _, rfl, rfl⟩, Zd h6 [3, 1, 1, 0, 0, 0, 0, 0]⟩

def Q23.f (a0 : (List (Int × Int × Bool)) × Int) (a1 : Int) (a2 : Int) : Option (((List (Int × Int × Bool)) × Int)) := if 0 ≤ a2 ∧ a2 < (a0.1.length : Int) then (if 0 ≤ a1 ∧ a1 < (a0.1.length : Int) then (if 0 ≤ a2 ∧ a2 < ((a0.1.set a1.toNat (a2, (gt a0.1 a2).2.1, true)).length : Int) then (if 0 ≤ ((gt a0.1 a2).2.1) ∧ ((gt a0.1 a2).2.1) < (((a0.1.set a1.toNat (a2, (gt a0.1 a2).2.1, true)).set a2.toNat ((gt (a0.1.set a1.toNat (a2, (gt a0.1 a2).2.1, true)) a2).1, a1, (gt (a0.1.set a1.toNat (a2, (gt a0.1 a2).2.1, true)) a2).2.2)).length : Int) then (some ((((a0.1.set a1.toNat (a2, (gt a0.1 a2).2.1, true)).set a2.toNat ((gt (a0.1.set a1.toNat (a2, (gt a0.1 a2).2.1, true)) a2).1, a1, (gt (a0.1.set a1.toNat (a2, (gt a0.1 a2).2.1, true)) a2).2.2)).set ((gt a0.1 a2).2.1).toNat (a1, (gt ((a0.1.set a1.toNat (a2, (gt a0.1 a2).2.1, true)).set a2.toNat ((gt (a0.1.set a1.toNat (a2, (gt a0.1 a2).2.1, true)) a2).1, a1, (gt (a0.1.set a1.toNat (a2, (gt a0.1 a2).2.1, true)) a2).2.2)) ((gt a0.1 a2).2.1)).2.1, (gt ((a0.1.set a1.toNat (a2, (gt a0.1 a2).2.1, true)).set a2.toNat ((gt (a0.1.set a1.toNat (a2, (gt a0.1 a2).2.1, true)) a2).1, a1, (gt (a0.1.set a1.toNat (a2, (gt a0.1 a2).2.1, true)) a2).2.2)) ((gt a0.1 a2).2.1)).2.2)), (w64 (a0.2 + 1)))) else none) else none) else none) else none
theorem Q23.spec {a0 : (List (Int × Int × Bool)) × Int} {a1 : Int} {a2 : Int} {b1 : Nat} {A1 : Option Addr} {c_1 : Nat} {r : ((List (Int × Int × Bool)) × Int)} (H : Q23.f a0 a1 a2 = some r) :
  Spec Try.prog 149 [.pointer (some ⟨b1, 0, none⟩), .int .i64 a1, .int .i64 a2] [Z8 b1 a0.1 A1 c_1 a0.2, Z9 a0.1 A1 c_1] [] (fun v l => ∃ (A_0 : Option Addr) (c_0 : Nat), v = .tuple #[] ∧ l = [Z8 b1 r.1 A_0 c_0 r.2, Z9 r.1 A_0 c_0]) := by
 refine Zr Try.func149 fun w0 F0 h0 => ?_
 unfold Q23.f at H
 refine J.seq (J.region ?_)
 refine Zl 3 ?_
 refine Zg (Za 0 h0.wht) ?_
 refine Zl 1 ?_
 obtain ⟨⟨p1, p2⟩, H⟩ := Zq H
 have e1 := Z3 h0.wh (gO 1) p1 p2
 refine Zg (Zi e1 p1 p2) ?_
 refine Zl 1 ?_
 refine Zg (Zj 1 h0.wht (gO 1) p1 p2) ?_
 refine Zm [0, 1, 2, 6] rfl ?_
 refine J.seq (J.region ?_)
 refine Zl 3 ?_
 refine Zg (Za 0 h0.wht) ?_
 refine Zl 4 ?_
 obtain ⟨⟨p3, p4⟩, H⟩ := Zq H
 refine Zg (Zi e1 p3 p4) ?_
 refine Ze (Zo 0 (.pair (.int .i64) (.pair (.int .i64) .bool)) a1 (a2, (gt a0.1 a2).2.1, true) 1 h0 rfl p3 p4) ?_
 intro _ w1 h1
 replace h1 := nf h1
 replace h1 : St w0 F0 [Z9 (a0.1.set a1.toNat (a2, (gt a0.1 a2).2.1, true)) A1 c_1, Z8 b1 (a0.1.set a1.toNat (a2, (gt a0.1 a2).2.1, true)) A1 c_1 a0.2] _ _ := h1.retell (by simp only [List.length_set, List.length_nil, Z9, Z8] <;> rfl)
 refine Zm [0, 1, 2, 6] rfl ?_
 refine J.seq (J.region ?_)
 refine Zl 3 ?_
 refine Zg (Za 1 h1.wht) ?_
 refine Zl 2 ?_
 obtain ⟨⟨p5, p6⟩, H⟩ := Zq H
 refine Zg (Zi e1 p5 p6) ?_
 refine Zl 1 ?_
 refine Ze (Zo 1 (.pair (.int .i64) (.pair (.int .i64) .bool)) a2 ((gt (a0.1.set a1.toNat (a2, (gt a0.1 a2).2.1, true)) a2).1, a1, (gt (a0.1.set a1.toNat (a2, (gt a0.1 a2).2.1, true)) a2).2.2) 0 h1 rfl p5 p6) ?_
 intro _ w2 h2
 replace h2 := nf h2
 replace h2 : St w0 F0 [Z9 ((a0.1.set a1.toNat (a2, (gt a0.1 a2).2.1, true)).set a2.toNat ((gt (a0.1.set a1.toNat (a2, (gt a0.1 a2).2.1, true)) a2).1, a1, (gt (a0.1.set a1.toNat (a2, (gt a0.1 a2).2.1, true)) a2).2.2)) A1 c_1, Z8 b1 ((a0.1.set a1.toNat (a2, (gt a0.1 a2).2.1, true)).set a2.toNat ((gt (a0.1.set a1.toNat (a2, (gt a0.1 a2).2.1, true)) a2).1, a1, (gt (a0.1.set a1.toNat (a2, (gt a0.1 a2).2.1, true)) a2).2.2)) A1 c_1 a0.2] _ _ := h2.retell (by simp only [List.length_set, List.length_nil, Z9, Z8] <;> rfl)
 refine Zm [0, 1, 6] rfl ?_
 refine J.seq (J.region ?_)
 refine Zl 3 ?_
 refine Zg (Za 1 h2.wht) ?_
 refine Zl 2 ?_
 obtain ⟨⟨p7, p8⟩, H⟩ := Zq H
 refine Zg (Zi e1 p7 p8) ?_
 refine Zl 1 ?_
 refine Ze (Zo 0 (.pair (.int .i64) (.pair (.int .i64) .bool)) ((gt a0.1 a2).2.1) (a1, (gt ((a0.1.set a1.toNat (a2, (gt a0.1 a2).2.1, true)).set a2.toNat ((gt (a0.1.set a1.toNat (a2, (gt a0.1 a2).2.1, true)) a2).1, a1, (gt (a0.1.set a1.toNat (a2, (gt a0.1 a2).2.1, true)) a2).2.2)) ((gt a0.1 a2).2.1)).2.1, (gt ((a0.1.set a1.toNat (a2, (gt a0.1 a2).2.1, true)).set a2.toNat ((gt (a0.1.set a1.toNat (a2, (gt a0.1 a2).2.1, true)) a2).1, a1, (gt (a0.1.set a1.toNat (a2, (gt a0.1 a2).2.1, true)) a2).2.2)) ((gt a0.1 a2).2.1)).2.2) 0 h2 rfl p7 p8) ?_
 intro _ w3 h3
 replace h3 := nf h3
 replace h3 : St w0 F0 [Z9 (((a0.1.set a1.toNat (a2, (gt a0.1 a2).2.1, true)).set a2.toNat ((gt (a0.1.set a1.toNat (a2, (gt a0.1 a2).2.1, true)) a2).1, a1, (gt (a0.1.set a1.toNat (a2, (gt a0.1 a2).2.1, true)) a2).2.2)).set ((gt a0.1 a2).2.1).toNat (a1, (gt ((a0.1.set a1.toNat (a2, (gt a0.1 a2).2.1, true)).set a2.toNat ((gt (a0.1.set a1.toNat (a2, (gt a0.1 a2).2.1, true)) a2).1, a1, (gt (a0.1.set a1.toNat (a2, (gt a0.1 a2).2.1, true)) a2).2.2)) ((gt a0.1 a2).2.1)).2.1, (gt ((a0.1.set a1.toNat (a2, (gt a0.1 a2).2.1, true)).set a2.toNat ((gt (a0.1.set a1.toNat (a2, (gt a0.1 a2).2.1, true)) a2).1, a1, (gt (a0.1.set a1.toNat (a2, (gt a0.1 a2).2.1, true)) a2).2.2)) ((gt a0.1 a2).2.1)).2.2)) A1 c_1, Z8 b1 (((a0.1.set a1.toNat (a2, (gt a0.1 a2).2.1, true)).set a2.toNat ((gt (a0.1.set a1.toNat (a2, (gt a0.1 a2).2.1, true)) a2).1, a1, (gt (a0.1.set a1.toNat (a2, (gt a0.1 a2).2.1, true)) a2).2.2)).set ((gt a0.1 a2).2.1).toNat (a1, (gt ((a0.1.set a1.toNat (a2, (gt a0.1 a2).2.1, true)).set a2.toNat ((gt (a0.1.set a1.toNat (a2, (gt a0.1 a2).2.1, true)) a2).1, a1, (gt (a0.1.set a1.toNat (a2, (gt a0.1 a2).2.1, true)) a2).2.2)) ((gt a0.1 a2).2.1)).2.1, (gt ((a0.1.set a1.toNat (a2, (gt a0.1 a2).2.1, true)).set a2.toNat ((gt (a0.1.set a1.toNat (a2, (gt a0.1 a2).2.1, true)) a2).1, a1, (gt (a0.1.set a1.toNat (a2, (gt a0.1 a2).2.1, true)) a2).2.2)) ((gt a0.1 a2).2.1)).2.2)) A1 c_1 a0.2] _ _ := h3.retell (by simp only [List.length_set, List.length_nil, Z9, Z8] <;> rfl)
 refine Zm [0] rfl ?_
 refine J.region (Zl 3 ?_)
 refine Zg (Za 1 h3.wht) ?_
 refine Zl 3 ?_
 refine Ze (Zw 1 h3) ?_
 intro _ w4 h4
 replace h4 := nf h4
 refine Zm [] rfl ?_
 cases H
 exact ⟨_, _, _, Zc, ⟨_, _, rfl, rfl⟩, Zd h4 [0, 0]⟩

def Q18.f (a0 : (List (Int × Int × Bool)) × Int) (a1 : Int) : Option (Int × ((List (Int × Int × Bool)) × Int)) := (Q25.f a0 a1).bind fun r1 => (if (decide (r1 = 0)) = true then ((Q22.f a0 a1).bind fun r2 => ((Q24.f r2).bind fun r3 => ((Q23.f r2 a1 r3).bind fun r4 => (some (r1, r4))))) else (some (r1, a0)))
theorem Q18.spec {a0 : (List (Int × Int × Bool)) × Int} {a1 : Int} {b1 : Nat} {A1 : Option Addr} {c_1 : Nat} {r : Int × ((List (Int × Int × Bool)) × Int)} (H : Q18.f a0 a1 = some r) :
  Spec Try.prog 107 [.pointer (some ⟨b1, 0, none⟩), .int .i64 a1] [Z8 b1 a0.1 A1 c_1 a0.2, Z9 a0.1 A1 c_1] [] (fun v l => ∃ (A_0 : Option Addr) (c_0 : Nat), v = .int .i64 r.1 ∧ l = [Z8 b1 r.2.1 A_0 c_0 r.2.2, Z9 r.2.1 A_0 c_0]) := by
 refine Zr Try.func107 fun w0 F0 h0 => ?_
 unfold Q18.f at H
 refine J.seq (Zb [0, 1] ?_)
 refine J.seq (J.region ?_)
 refine Zl 2 ?_
 obtain ⟨r1, q1, H⟩ := Zp H
 refine Ze (Zk [0, 0] (Q25.spec q1) h0 rfl Zu) ?_
 rintro _ w1 ⟨_, ⟨rfl, rfl⟩, h1⟩
 replace h1 := nf h1
 refine Zm [0, 1, 5] rfl ?_
 refine J.seq (J.seq (Zb [0, 1, 5, 10] ?_))
 refine jIf H (fun c1 H => ?_) fun c1 H => ?_
 ·refine J.seq (J.region ?_)
  refine Zl 2 ?_
  obtain ⟨r2, q2, H⟩ := Zp H
  refine Ze (Zk [0, 0] (Q22.spec q2) h1 rfl Zu) ?_
  rintro _ w2 ⟨_, ⟨A2, c_2, rfl, rfl⟩, h2⟩
  replace h2 := nf h2
  refine Zm [0, 1, 5] rfl ?_
  refine J.region (Zl 3 ?_)
  obtain ⟨r3, q3, H⟩ := Zp H
  refine Ze (Zk [0, 0] (Q24.spec q3) h2 rfl Zu) ?_
  rintro _ w3 ⟨_, ⟨rfl, rfl⟩, h3⟩
  replace h3 := nf h3
  obtain ⟨r4, q4, H⟩ := Zp H
  refine Ze (Zk [0, 0] (Q23.spec q4) h3 rfl Zu) ?_
  rintro _ w4 ⟨_, ⟨A3, c_3, rfl, rfl⟩, h4⟩
  replace h4 := nf h4
  refine Zm [5] rfl ?_
  refine J.seq (Zb [4] ?_)
  refine J.ret ?_
  cases H
  exact ⟨_, _, _, Zc, ⟨_, _, rfl, rfl⟩, Zd h4 [0, 0]⟩
 refine J.skip (J.seq (Zb [4] ?_))
 refine J.ret ?_
 cases H
 exact ⟨_, _, _, Zc, ⟨_, _, rfl, rfl⟩, Zd h1 [0, 0]⟩

def Q10.f (a0 : (Int × List (Int) × (Int × Int)) × (List (Int × List (Int) × Bool × Int)) × (List (Int × Int)) × List (Int) × ((List (Int × Int × Bool)) × Int)) (a1 : Int) : Option (Int × ((Int × List (Int) × (Int × Int)) × (List (Int × List (Int) × Bool × Int)) × (List (Int × Int)) × List (Int) × ((List (Int × Int × Bool)) × Int))) := (Q14.f a0).bind fun r1 => (if r1 = true then (some (1, a0)) else (if (!(Yy a0.2.2.1 a1)) = true then (some (8, a0)) else (if 0 ≤ (Zt (0 : Int) a0.2.2.1 a1) ∧ (Zt (0 : Int) a0.2.2.1 a1) < (a0.2.1.length : Int) then (if (decide (((gt a0.2.1 (Zt (0 : Int) a0.2.2.1 a1)).2.2.2) = 0)) = true then (some (8, a0)) else (if (decide (((gt (a0.2.1.set (Zt (0 : Int) a0.2.2.1 a1).toNat ((gt a0.2.1 (Zt (0 : Int) a0.2.2.1 a1)).1, (gt a0.2.1 (Zt (0 : Int) a0.2.2.1 a1)).2.1, (gt a0.2.1 (Zt (0 : Int) a0.2.2.1 a1)).2.2.1, (w64 (((gt a0.2.1 (Zt (0 : Int) a0.2.2.1 a1)).2.2.2) - 1)))) (Zt (0 : Int) a0.2.2.1 a1)).2.2.2) = 0)) = true then ((Q18.f a0.2.2.2.2 (Zt (0 : Int) a0.2.2.1 a1)).bind fun r2 => (some (0, (a0.1, (a0.2.1.set (Zt (0 : Int) a0.2.2.1 a1).toNat ((gt a0.2.1 (Zt (0 : Int) a0.2.2.1 a1)).1, (gt a0.2.1 (Zt (0 : Int) a0.2.2.1 a1)).2.1, (gt a0.2.1 (Zt (0 : Int) a0.2.2.1 a1)).2.2.1, (w64 (((gt a0.2.1 (Zt (0 : Int) a0.2.2.1 a1)).2.2.2) - 1)))), a0.2.2.1, a0.2.2.2.1, r2.2)))) else (some (0, (a0.1, (a0.2.1.set (Zt (0 : Int) a0.2.2.1 a1).toNat ((gt a0.2.1 (Zt (0 : Int) a0.2.2.1 a1)).1, (gt a0.2.1 (Zt (0 : Int) a0.2.2.1 a1)).2.1, (gt a0.2.1 (Zt (0 : Int) a0.2.2.1 a1)).2.2.1, (w64 (((gt a0.2.1 (Zt (0 : Int) a0.2.2.1 a1)).2.2.2) - 1)))), a0.2.2.1, a0.2.2.2.1, a0.2.2.2.2))))) else none)))
theorem Q10.spec {a0 : (Int × List (Int) × (Int × Int)) × (List (Int × List (Int) × Bool × Int)) × (List (Int × Int)) × List (Int) × ((List (Int × Int × Bool)) × Int)} {a1 : Int} {b1 : Nat} {b2 : Nat} {b3 : Nat} {b4 : Nat} {A1 : Option Addr} {c_1 : Nat} {A2 : Option Addr} {c_2 : Nat} {A3 : Option Addr} {c_3 : Nat} {A4 : Option Addr} {c_4 : Nat} {r : Int × ((Int × List (Int) × (Int × Int)) × (List (Int × List (Int) × Bool × Int)) × (List (Int × Int)) × List (Int) × ((List (Int × Int × Bool)) × Int))} (H : Q10.f a0 a1 = some r) :
  Spec Try.prog 58 [.pointer (some ⟨b1, 0, none⟩), .int .u32 a1] [Yk b1 (.pointer (some ⟨b2, 0, none⟩)) a0.2.1 A2 c_2 (.map (some b3)) a0.2.2.2.1 A3 c_3 (.pointer (some ⟨b4, 0, none⟩)), X51 b2 a0.1.1 a0.1.2.1 A1 c_1 a0.1.2.2.1 a0.1.2.2.2, O5 a0.1.2.1 A1 c_1, Yi a0.2.1 A2 c_2, Yc .u32 (Value.int .i64) b3 a0.2.2.1, O3 a0.2.2.2.1 A3 c_3, Z8 b4 a0.2.2.2.2.1 A4 c_4 a0.2.2.2.2.2, Z9 a0.2.2.2.2.1 A4 c_4] [] (fun v l => ∃ (A_0 : Option Addr) (c_0 : Nat) (A_1 : Option Addr) (c_1 : Nat) (A_2 : Option Addr) (c_2 : Nat) (A_3 : Option Addr) (c_3 : Nat), v = .int .i64 r.1 ∧ l = [Yk b1 (.pointer (some ⟨b2, 0, none⟩)) r.2.2.1 A_1 c_1 (.map (some b3)) r.2.2.2.2.1 A_2 c_2 (.pointer (some ⟨b4, 0, none⟩)), X51 b2 r.2.1.1 r.2.1.2.1 A_0 c_0 r.2.1.2.2.1 r.2.1.2.2.2, O5 r.2.1.2.1 A_0 c_0, Yi r.2.2.1 A_1 c_1, Yc .u32 (Value.int .i64) b3 r.2.2.2.1, O3 r.2.2.2.2.1 A_2 c_2, Z8 b4 r.2.2.2.2.2.1 A_3 c_3 r.2.2.2.2.2.2, Z9 r.2.2.2.2.2.1 A_3 c_3]) := by
 refine Zr Try.func58 fun w0 F0 h0 => ?_
 unfold Q10.f at H
 refine J.seq (Zb [0, 1] ?_)
 refine J.seq (J.region ?_)
 refine Zl 2 ?_
 refine Yl Try.func99 ?_
 refine J.seq (Zb [0, 1] ?_)
 refine J.seq (J.seq (J.region ?_))
 refine Zl 1 ?_
 obtain ⟨r1, q1, H⟩ := Zp H
 refine Ze (Zk [0, 0, 0, 0, 0, 0, 0, 0] (Q14.spec q1) h0 rfl Zu) ?_
 rintro _ w1 ⟨_, ⟨rfl, rfl⟩, h1⟩
 replace h1 := nf h1
 refine Zm [0, 1, 9] rfl ?_
 refine jIf H (fun c1 H => ?_) fun c1 H => ?_
 ·refine J.seq (Zb [4, 5] ?_)
  refine J.ret (⟨_, Zc, ?_⟩)
  refine Zm [0, 1, 5, 6] rfl ?_
  refine J.seq (J.seq (Zb [0, 1, 5, 6, 14] ?_))
  refine Z6 ?_
  refine J.seq (Zb [4] ?_)
  refine J.ret ?_
  cases H
  exact ⟨_, _, _, Zc, ⟨_, _, _, _, _, _, _, _, rfl, rfl⟩, Zd h1 [0, 0, 0, 0, 0, 0, 0, 0]⟩
 refine J.skip (J.seq (J.region ?_))
 refine Zl 3 ?_
 refine Zg (Za 0 h1.wht) ?_
 refine Zl 1 ?_
 refine Zg (Xg (0 : Int) 4 h1.wht) ?_
 refine Zm [0, 6, 7] rfl ?_
 refine J.seq (J.seq (J.region ?_))
 refine Zl 3 ?_
 refine Xq 21 H (fun c2 H => ?_) fun c2 H => ?_
 ·refine Zm [0, 6, 31] rfl ?_
  refine Z6 ?_
  refine J.seq (Zb [4, 5] ?_)
  refine J.ret (⟨_, Zc, ?_⟩)
  refine Zm [0, 1, 5, 6] rfl ?_
  refine J.seq (J.seq (Zb [0, 1, 5, 6, 14] ?_))
  refine Z6 ?_
  refine J.seq (Zb [4] ?_)
  refine J.ret ?_
  cases H
  exact ⟨_, _, _, Zc, ⟨_, _, _, _, _, _, _, _, rfl, rfl⟩, Zd h1 [0, 0, 0, 0, 0, 0, 0, 0]⟩
 refine Zl 3 ?_
 refine Zg (Za 0 h1.wht) ?_
 refine Zl 1 ?_
 obtain ⟨⟨p1, p2⟩, H⟩ := Zq H
 have e1 := Z3 h1.wh (gO 3) p1 p2
 refine Zg (Zi e1 p1 p2) ?_
 refine Zl 1 ?_
 refine Zg (Yg 3 h1.wht (gO 3) p1 p2) ?_
 refine Zm [0, 6, 31] rfl ?_
 refine jIf H (fun c3 H => ?_) fun c3 H => ?_
 ·refine J.seq (Zb [4, 5] ?_)
  refine J.ret (⟨_, Zc, ?_⟩)
  refine Zm [0, 1, 5, 6] rfl ?_
  refine J.seq (J.seq (Zb [0, 1, 5, 6, 14] ?_))
  refine Z6 ?_
  refine J.seq (Zb [4] ?_)
  refine J.ret ?_
  cases H
  exact ⟨_, _, _, Zc, ⟨_, _, _, _, _, _, _, _, rfl, rfl⟩, Zd h1 [0, 0, 0, 0, 0, 0, 0, 0]⟩
 refine J.skip (J.seq (J.region ?_))
 refine Zl 3 ?_
 refine Zg (Za 0 h1.wht) ?_
 refine Zl 1 ?_
 refine Zg (Zi e1 p1 p2) ?_
 refine Zm [4, 5] rfl ?_
 refine J.ret (⟨_, Zc, ?_⟩)
 refine Zm [0, 1, 5, 6] rfl ?_
 refine J.seq (J.seq (Zb [0, 1, 5, 6, 14] ?_))
 refine Z7 ?_
 refine J.skip (J.seq (J.region ?_))
 refine Zl 3 ?_
 refine Zg (Yg 3 h1.wht (gO 3) p1 p2) ?_
 refine Zl 3 ?_
 refine Ze (Xr 3 (.pair (.int .u32) (.pair (.slice 5 (.int .u8)) (.pair .bool (.int .i64)))) (Zt (0 : Int) a0.2.2.1 a1) ((gt a0.2.1 (Zt (0 : Int) a0.2.2.1 a1)).1, (gt a0.2.1 (Zt (0 : Int) a0.2.2.1 a1)).2.1, (gt a0.2.1 (Zt (0 : Int) a0.2.2.1 a1)).2.2.1, (w64 (((gt a0.2.1 (Zt (0 : Int) a0.2.2.1 a1)).2.2.2) - 1))) 3 h1 rfl p1 p2 (V6 rfl rfl)) ?_
 intro _ w2 h2
 replace h2 := nf h2
 replace h2 : St w0 F0 [Yi (a0.2.1.set (Zt (0 : Int) a0.2.2.1 a1).toNat ((gt a0.2.1 (Zt (0 : Int) a0.2.2.1 a1)).1, (gt a0.2.1 (Zt (0 : Int) a0.2.2.1 a1)).2.1, (gt a0.2.1 (Zt (0 : Int) a0.2.2.1 a1)).2.2.1, (w64 (((gt a0.2.1 (Zt (0 : Int) a0.2.2.1 a1)).2.2.2) - 1)))) A2 c_2, Yk b1 (.pointer (some ⟨b2, 0, none⟩)) (a0.2.1.set (Zt (0 : Int) a0.2.2.1 a1).toNat ((gt a0.2.1 (Zt (0 : Int) a0.2.2.1 a1)).1, (gt a0.2.1 (Zt (0 : Int) a0.2.2.1 a1)).2.1, (gt a0.2.1 (Zt (0 : Int) a0.2.2.1 a1)).2.2.1, (w64 (((gt a0.2.1 (Zt (0 : Int) a0.2.2.1 a1)).2.2.2) - 1)))) A2 c_2 (.map (some b3)) a0.2.2.2.1 A3 c_3 (.pointer (some ⟨b4, 0, none⟩)), X51 b2 a0.1.1 a0.1.2.1 A1 c_1 a0.1.2.2.1 a0.1.2.2.2, O5 a0.1.2.1 A1 c_1, Yc .u32 (Value.int .i64) b3 a0.2.2.1, O3 a0.2.2.2.1 A3 c_3, Z8 b4 a0.2.2.2.2.1 A4 c_4 a0.2.2.2.2.2, Z9 a0.2.2.2.2.1 A4 c_4] _ _ := h2.retell (by simp only [List.length_set, List.length_nil, Yi, Z9, O3, O5, Yk, Z8, X51] <;> rfl)
 refine Zm [0, 1, 5] rfl ?_
 refine J.seq (J.seq (J.region ?_))
 refine Zl 3 ?_
 refine Zg (Yg 3 h2.wht (gO 0) p1 (by simpa only [List.length_set] using p2)) ?_
 refine Zm [0, 1, 27] rfl ?_
 refine jIf H (fun c4 H => ?_) fun c4 H => ?_
 ·refine Zs (Zd h2 [0, 0, 0, 0, 0, 0]) ?_
  have h3 := h2.drew
  refine Zx [0, 1, 2, 4, 5, 6, 8] ?_
  refine Zh 3 rfl (Za 1 wI) ?_
  refine Zh 7 rfl (Za 1 wI) ?_
  refine Zh 9 rfl (V4 (0 : Int) 4 wI) ?_
  obtain ⟨r2, q2, H⟩ := Zp H
  refine Zn 10 rfl (Zk [6, 6] (Q18.spec q2) h3 rfl Zu) ?_
  rintro _ w3 ⟨_, ⟨A5, c_5, rfl, rfl⟩, h4⟩
  replace h4 := nf h4
  refine ⟨⟨[_, _], h4⟩, ?_⟩
  refine Z2 [] ?_
  refine J.seq (Zb [4] ?_)
  refine J.ret ?_
  cases H
  exact ⟨_, _, _, Zc, ⟨_, _, _, _, _, _, _, _, rfl, rfl⟩, Zd h4 [3, 3, 3, 2, 2, 2, 0, 0]⟩
 refine J.skip (J.seq (Zb [4] ?_))
 refine J.ret ?_
 cases H
 exact ⟨_, _, _, Zc, ⟨_, _, _, _, _, _, _, _, rfl, rfl⟩, Zd h2 [1, 1, 1, 0, 0, 0, 0, 0]⟩

def Q33.f (a0 : Int × List (Int) × (Int × Int)) : Option ((Int × Int)) := some a0.2.2
theorem Q33.spec {a0 : Int × List (Int) × (Int × Int)} {b1 : Nat} {A1 : Option Addr} {c_1 : Nat} {r : (Int × Int)} (H : Q33.f a0 = some r) :
  Spec Try.prog 26 [.pointer (some ⟨b1, 0, none⟩)] [X51 b1 a0.1 a0.2.1 A1 c_1 a0.2.2.1 a0.2.2.2, O5 a0.2.1 A1 c_1] [] (fun v l => v = .agg #[.int .u64 r.1, .int .u64 r.2] ∧ l = [X51 b1 a0.1 a0.2.1 A1 c_1 a0.2.2.1 a0.2.2.2, O5 a0.2.1 A1 c_1]) := by
 refine Zr Try.func26 fun w0 F0 h0 => ?_
 unfold Q33.f at H
 refine J.seq (J.region ?_)
 refine Ze (Ym h0) ?_
 rintro _ w1 ⟨b2, rfl, h1⟩
 replace h1 := nf h1
 refine Zm [0, 2] rfl ?_
 refine J.seq (J.seq (Zb [0, 2, 4] ?_))
 refine Z7 ?_
 refine J.skip (J.seq (J.region ?_))
 refine Zl 3 ?_
 refine Zg (Za 1 h1.wht) ?_
 refine Ze (Zw 0 h1) ?_
 intro _ w2 h2
 replace h2 := nf h2
 refine Zm [2] rfl ?_
 refine J.ret ?_
 cases H
 exact ⟨_, _, _, (Z1 rfl (Z0 (RV.cell Yd 0 h2 rfl rfl rfl rfl) Yn) rfl), ⟨rfl, rfl⟩, Zd h2 [1, 1]⟩

def Q55.l0 : Nat → (Int × List (Int) × (Int × Int)) → ((List (Int × Int × Bool)) × Int) → (List (Int)) → (Int) → Option (Bool)
 | 0, _, _, _, _ => none
 | k + 1, r2, r5, x1, x2 => if (decide (x2 < 1)) = true then (if (x1.length + ([x2] : List (Int)).length) * 8 ≤ 140737488355328 then (Q55.l0 k r2 r5 (x1 ++ ([x2] : List (Int))) (w64 (x2 + 1))) else none) else ((Q6.f (r2, (List.replicate ((1 : Int).toNat) ((0, ([] : List (Int)), false, 0) : Int × List (Int) × Bool × Int)), ([] : List (Int × Int)), x1, r5) 1).bind fun r6 => ((Q12.f r6.2 1 ([7] : List (Int))).bind fun r7 => ((Q10.f r7.2 1).bind fun r8 => ((Q6.f r8.2 2).bind fun r9 => (if (decide (r6.1 = 0)) = true then (if (decide (r7.1 = 0)) = true then (if (decide (r8.1 = 0)) = true then (if (decide (r9.1 = 0)) = true then ((Q33.f r9.2.1).bind fun r10 => (if ((decide (r10.1 = 2)) && ((decide (r10.2 = 1)) && true)) = true then ((Q6.f r9.2 3).bind fun r11 => (some (decide (r11.1 = 7)))) else (some false))) else (some false)) else (some false)) else (some false)) else (some false))))))
def Q55.f (k : Nat)  : Option (Bool) := (Q35.f 5 1).bind fun r1 => (Ua r1.1 (if (!decide (r1.2 = 0)) = true then (some false) else none) (fun r2 => (if (!decide (r1.2 = 0)) = false then ((Q29.f r2).bind fun r3 => (if (decide (r3 = 0)) = true then (some false) else ((Q26.f 1).bind fun r4 => (Ua r4.1 (if (!decide (r4.2 = 0)) = true then (some false) else none) (fun r5 => (if (!decide (r4.2 = 0)) = false then (if (1 : Int) * 48 ≤ 281474976710656 then (Q55.l0 k r2 r5 ([] : List (Int)) 0) else none) else none)))))) else none)))
theorem Q55.spec {k : Nat}   {r : Bool} (H : Q55.f k  = some r) :
  Spec Try.prog 52 [] [] [] (fun v l => v = .bool r ∧ l = []) := by
 refine Zr Try.func52 fun w0 F0 h0 => ?_
 unfold Q55.f at H
 refine J.seq (Zb [] ?_)
 refine J.seq (J.region ?_)
 obtain ⟨r1, q1, H⟩ := Zp H
 refine Ze (Zk [] (Q35.spec q1) h0 rfl Zu) ?_
 rintro _ w1 ⟨_, ⟨v1, l1, ho1, rfl, rfl⟩, h1⟩
 rcases ho2 : r1.1 with _ | r2
 ·rw [ho2] at ho1
  obtain ⟨rfl, rfl⟩ := ho1
  replace H := Gf ho2 H
  obtain ⟨c1, H⟩ := Zq H
  replace h1 := nf h1
  refine Zm [1, 2] rfl ?_
  refine J.seq (J.region ?_)
  refine Zl 1 ?_
  refine Yl Try.func49 ?_
  refine J.seq (Zb [0, 1] ?_)
  refine J.seq (J.block (J.seq (J.region ?_)))
  refine Zl 1 ?_
  refine Yl Try.func24 ?_
  refine J.seq (Zb [0] ?_)
  refine J.seq (J.seq (Zb [0, 11] ?_))
  refine Z6 ?_
  refine J.seq (Zb [2] ?_)
  refine J.ret (⟨_, Zc, ?_⟩)
  refine Zm [0, 1, 10] rfl ?_
  refine Z6 ?_
  refine J.seq (Zb [4, 5] ?_)
  refine J.ret (⟨_, Zc, ?_⟩)
  refine Zm [1, 2, 3, 4] rfl ?_
  refine J.seq (J.seq (J.region ?_))
  refine Zl 3 ?_
  refine Yw 20 (congrArg Value.bool c1) ?_
  refine Zm [1, 3, 27] rfl ?_
  refine Z6 ?_
  refine J.seq (Zb [0] ?_)
  refine J.ret ?_
  cases H
  exact ⟨_, _, _, Zc, ⟨rfl, rfl⟩, Zd h1 []⟩
 rw [ho2] at ho1
 obtain ⟨b1, A1, c_1, rfl, rfl⟩ := ho1
 replace H := Gk ho2 H
 obtain ⟨c2, H⟩ := Zq H
 replace h1 := nf h1
 refine Zm [1, 2] rfl ?_
 refine J.seq (J.region ?_)
 refine Zl 1 ?_
 refine Yl Try.func49 ?_
 refine J.seq (Zb [0, 1] ?_)
 refine J.seq (J.block (J.seq (J.region ?_)))
 refine Zl 1 ?_
 obtain ⟨r3, q2, H⟩ := Zp H
 refine Ze (Zk [0, 0] (Q29.spec q2) h1 rfl Zu) ?_
 rintro _ w2 ⟨_, ⟨rfl, rfl⟩, h2⟩
 replace h2 := nf h2
 refine Zm [0, 1, 10] rfl ?_
 refine jIf H (fun c3 H => ?_) fun c3 H => ?_
 ·refine J.seq (Zb [4, 5] ?_)
  refine J.ret (⟨_, Zc, ?_⟩)
  refine Zm [1, 2, 3, 4] rfl ?_
  refine J.seq (J.seq (J.region ?_))
  refine Zl 3 ?_
  refine Yw 20 (congrArg Value.bool c2) ?_
  refine Zm [1, 3, 27] rfl ?_
  refine Z6 ?_
  refine J.seq (Zb [0] ?_)
  have h3 := Zd h2 []
  replace h3 := nf h3
  refine J.ret ?_
  cases H
  exact ⟨_, _, _, Zc, ⟨rfl, rfl⟩, Zd h3 []⟩
 refine J.seq (Zb [0, 1, 14] ?_)
 refine Z7 ?_
 refine J.skip (J.seq (J.region ?_))
 refine Zl 1 ?_
 obtain ⟨r4, q3, H⟩ := Zp H
 refine Ze (Zk [] (Q26.spec q3) h2 rfl Zu) ?_
 rintro _ w3 ⟨_, ⟨v2, l2, ho3, rfl, rfl⟩, h4⟩
 rcases ho4 : r4.1 with _ | r5
 ·rw [ho4] at ho3
  obtain ⟨rfl, rfl⟩ := ho3
  replace H := Gf ho4 H
  obtain ⟨c4, H⟩ := Zq H
  replace h4 := nf h4
  refine Zm [0, 1, 6, 7] rfl ?_
  refine J.seq (J.seq (Zb [0, 1, 6, 7, 27] ?_))
  refine J.cond rfl (fun e => ?_) (fun e => by rw [c4] at e; cases e)
  refine J.seq (Zb [4, 5] ?_)
  refine J.ret (⟨_, Zc, ?_⟩)
  refine Zm [1, 2, 3, 4] rfl ?_
  refine J.seq (J.seq (J.region ?_))
  refine Zl 3 ?_
  refine Yw 20 (congrArg Value.bool c2) ?_
  refine Zl 4 ?_
  refine Yw 24 (congrArg Value.bool c4) ?_
  refine Zm [1, 3, 27] rfl ?_
  refine Z6 ?_
  refine J.seq (Zb [0] ?_)
  have h5 := Zd h4 []
  replace h5 := nf h5
  refine J.ret ?_
  cases H
  exact ⟨_, _, _, Zc, ⟨rfl, rfl⟩, Zd h5 []⟩
 rw [ho4] at ho3
 obtain ⟨b2, A2, c_2, rfl, rfl⟩ := ho3
 replace H := Gk ho4 H
 obtain ⟨c5, H⟩ := Zq H
 replace h4 := nf h4
 refine Zm [0, 1, 6, 7] rfl ?_
 refine J.seq (J.seq (Zb [0, 1, 6, 7, 27] ?_))
 refine J.cond rfl (fun e => by rw [c5] at e; cases e) (fun e => ?_)
 refine J.skip (J.seq (J.region ?_))
 refine Zl 2 ?_
 obtain ⟨p1, H⟩ := Zq H
 refine Ze (Jy Yd (ty := (.pair (.int .u32) (.pair (.slice 5 (.int .u8)) (.pair .bool (.int .i64))))) ((0, ([] : List (Int)), false, 0) : Int × List (Int) × Bool × Int) rfl rfl rfl rfl rfl rfl (fun _ _ => Zdu ⟨none, 0, rfl, Nat.le_refl _, .inl rfl⟩) (by decide) h4 (by decide) p1) ?_
 rintro _ w4 ⟨b3, rfl, h6⟩
 replace h6 := nf h6
 refine Ze (Ut .u32 (Value.int .i64) h6) ?_
 rintro _ w5 ⟨b4, rfl, h7⟩
 replace h7 := nf h7
 refine Zl 2 ?_
 refine Ze (Y2 h7) ?_
 rintro _ w6 ⟨b5, rfl, h8⟩
 replace h8 := nf h8
 refine Zm [1, 8] rfl ?_
 refine J.seq (J.seq (Zb [8, 36, 37] ?_))
 refine J.block ?_
 have h14 := h8.addNil 3 (.int .i64)
 have h15 := (sOR h14 [1, 5, 1, 2, 3, 1, 0, 0] [])
 refine J.loop (fun kk env w => ∃ (x1 : List (Int)) (A3 : Option Addr) (c_3 : Nat) (x2 : Int), env = [(8, .pointer (some ⟨b5, 0, none⟩)), (36, .int .i64 1), (37, .int .i64 x2)] ∧ St w0 F0 [Yk b5 (.pointer (some ⟨b1, 0, none⟩)) (List.replicate ((1 : Int).toNat) ((0, ([] : List (Int)), false, 0) : Int × List (Int) × Bool × Int)) (some ⟨b3, 0, none⟩) ((1 : Int).toNat) (.map (some b4)) x1 A3 c_3 (.pointer (some ⟨b2, 0, none⟩)), X51 b1 r2.1 r2.2.1 A1 c_1 r2.2.2.1 r2.2.2.2, Yc .u32 (Value.int .i64) b4 ([] : List (Int × Int)), Z8 b2 r5.1 A2 c_2 r5.2, O5 r2.2.1 A1 c_1, Yi (List.replicate ((1 : Int).toNat) ((0, ([] : List (Int)), false, 0) : Int × List (Int) × Bool × Int)) (some ⟨b3, 0, none⟩) ((1 : Int).toNat), O3 x1 A3 c_3, Z9 r5.1 A2 c_2] [] w ∧ Q55.l0 kk r2 r5 x1 x2 = some r) (k := k) ⟨([] : List (Int)), none, 0, 0, rfl, h15, H⟩ ?_
 rintro k1 env w7 ⟨x1, A3, c_3, x2, rfl, h9, H⟩
 rcases k1 with _ | k1
 ·exact z0 H
 rw [Q55.l0] at H
 refine J.seq (Zb [8, 36, 37, 38] ?_)
 refine J.seq (jIf H (fun c6 H => ?_) fun c6 H => ?_)
 ·refine J.skip (J.seq (J.block (J.seq (Zb [8, 9, 36, 37] ?_))))
  refine J.region (Zl 4 ?_)
  refine Zg (Za 0 h9.wht) ?_
  refine Zl 1 ?_
  refine Ze (Ys (.int .i64) ([x2] : List (Int)) h9) ?_
  rintro _ w8 ⟨b6, rfl, h10⟩
  replace h10 := nf h10
  obtain ⟨p2, H⟩ := Zq H
  refine Ze (Yq 7 h10 (gO 0) p2) ?_
  rintro _ w9 ⟨A4, c_4, rfl, h11⟩
  replace h11 := nf h11
  refine Zl 2 ?_
  refine Ze (Zw 2 h11) ?_
  intro _ w10 h12
  replace h12 := nf h12
  refine Zm [8, 36, 37] rfl ?_
  refine Zb [8, 36, 37] ?_
  have h13 := (sOR h12 [0, 2, 2, 2, 2, 2, 0, 1] [])
  exact ⟨k1, by omega, (x1 ++ ([x2] : List (Int))), A4, c_4, (w64 (x2 + 1)), rfl, h13, H⟩
 refine J.exit (J.seq (Zb [4, 5] ?_))
 refine J.ret (⟨_, Zc, ?_⟩)
 refine Zm [1, 2, 3, 4] rfl ?_
 refine J.seq (J.seq (J.region ?_))
 refine Zl 3 ?_
 refine Yw 20 (congrArg Value.bool c2) ?_
 refine Zm [1, 3, 27] rfl ?_
 refine Z7 ?_
 refine J.skip (J.seq (J.region ?_))
 refine Zl 1 ?_
 obtain ⟨r6, q4, H⟩ := Zp H
 refine Ze (Zk [0, 0, 2, 2, 0, 1, 0, 0] (Q6.spec q4) h9 rfl Zu) ?_
 rintro _ w7 ⟨_, ⟨A3, c_3, A4, c_4, A5, c_5, A6, c_6, rfl, rfl⟩, h9⟩
 replace h9 := nf h9
 refine Zl 1 ?_
 refine Ze (Ys (.int .u8) ([7] : List (Int)) h9) ?_
 rintro _ w8 ⟨b6, rfl, h10⟩
 replace h10 := nf h10
 obtain ⟨r7, q5, H⟩ := Zp H
 refine Ze (Zk [1, 1, 1, 1, 1, 1, 1, 1] (Q12.spec q5) h10 rfl (Zv (gO 0) Zu)) ?_
 rintro _ w9 ⟨_, ⟨A7, c_7, A8, c_8, A9, c_9, A10, c_10, rfl, rfl⟩, h11⟩
 replace h11 := nf h11
 refine Zl 1 ?_
 obtain ⟨r8, q6, H⟩ := Zp H
 refine Ze (Zk [0, 0, 0, 0, 0, 0, 0, 0] (Q10.spec q6) h11 rfl Zu) ?_
 rintro _ w10 ⟨_, ⟨A11, c_11, A12, c_12, A13, c_13, A14, c_14, rfl, rfl⟩, h12⟩
 replace h12 := nf h12
 refine Zl 1 ?_
 obtain ⟨r9, q7, H⟩ := Zp H
 refine Ze (Zk [0, 0, 0, 0, 0, 0, 0, 0] (Q6.spec q7) h12 rfl Zu) ?_
 rintro _ w11 ⟨_, ⟨A15, c_15, A16, c_16, A17, c_17, A18, c_18, rfl, rfl⟩, h13⟩
 replace h13 := nf h13
 refine Zm [1, 3, 5, 6, 7, 8] rfl ?_
 refine J.seq (J.region ?_)
 refine Zl 3 ?_
 refine Xq 39 H (fun c6 H => ?_) fun c6 H => ?_
 ·refine Zl 4 ?_
  refine Xq 43 H (fun c7 H => ?_) fun c7 H => ?_
  ·refine Zl 4 ?_
   refine Xq 47 H (fun c8 H => ?_) fun c8 H => ?_
   ·refine Zl 4 ?_
    refine Xq 51 H (fun c9 H => ?_) fun c9 H => ?_
    ·refine Zl 1 ?_
     obtain ⟨r10, q8, H⟩ := Zp H
     refine Ze (Zk [1, 1] (Q33.spec q8) h13 rfl Zu) ?_
     rintro _ w12 ⟨_, ⟨rfl, rfl⟩, h14⟩
     replace h14 := nf h14
     refine Zl 4 ?_
     refine Xq 57 H (fun c10 H => ?_) fun c10 H => ?_
     ·refine Zl 1 ?_
      obtain ⟨r11, q9, H⟩ := Zp H
      refine Ze (Zk [2, 0, 0, 0, 0, 0, 0, 0] (Q6.spec q9) h14 rfl Zu) ?_
      rintro _ w13 ⟨_, ⟨A19, c_19, A20, c_20, A21, c_21, A22, c_22, rfl, rfl⟩, h15⟩
      replace h15 := nf h15
      refine Zm [0] rfl ?_
      have h16 := Zd h15 []
      replace h16 := nf h16
      refine J.ret ?_
      cases H
      exact ⟨_, _, _, Zc, ⟨rfl, rfl⟩, Zd h16 []⟩
     refine Zm [0] rfl ?_
     have h17 := Zd h14 []
     replace h17 := nf h17
     refine J.ret ?_
     cases H
     exact ⟨_, _, _, Zc, ⟨rfl, rfl⟩, Zd h17 []⟩
    refine Zm [0] rfl ?_
    have h18 := Zd h13 []
    replace h18 := nf h18
    refine J.ret ?_
    cases H
    exact ⟨_, _, _, Zc, ⟨rfl, rfl⟩, Zd h18 []⟩
   refine Zm [0] rfl ?_
   have h19 := Zd h13 []
   replace h19 := nf h19
   refine J.ret ?_
   cases H
   exact ⟨_, _, _, Zc, ⟨rfl, rfl⟩, Zd h19 []⟩
  refine Zm [0] rfl ?_
  have h20 := Zd h13 []
  replace h20 := nf h20
  refine J.ret ?_
  cases H
  exact ⟨_, _, _, Zc, ⟨rfl, rfl⟩, Zd h20 []⟩
 refine Zm [0] rfl ?_
 have h21 := Zd h13 []
 replace h21 := nf h21
 refine J.ret ?_
 cases H
 exact ⟨_, _, _, Zc, ⟨rfl, rfl⟩, Zd h21 []⟩

def Q59.l0 : Nat → (Int) → (Int) → (List (List UInt8)) → (Int) → Option ((Int × List (List UInt8) × Int × Int))
 | 0, _, _, _, _ => none
 | k + 1, a0, a1, x1, x2 => if (decide (x2 < a0)) = true then (if (x1.length + ([(toS (List.replicate a1.toNat (0 : Int)))] : List (List UInt8)).length) * 16 ≤ 140737488355328 then (Q59.l0 k a0 a1 (x1 ++ ([(toS (List.replicate a1.toNat (0 : Int)))] : List (List UInt8))) (w64 (x2 + 1))) else none) else (some (a1, x1, 0, 0))
def Q59.f (k : Nat) (a0 : Int) (a1 : Int) : Option ((Int × List (List UInt8) × Int × Int)) := if 0 ≤ a1 ∧ a1 * 1 ≤ 281474976710656 then (Q59.l0 k a0 a1 ([] : List (List UInt8)) 0) else none
theorem Q59.spec {k : Nat} {a0 : Int} {a1 : Int}  {r : (Int × List (List UInt8) × Int × Int)} (H : Q59.f k a0 a1 = some r) :
  Spec Try.prog 28 [.int .i64 a0, .int .i64 a1] [] [] (fun v l => ∃ (A_0 : Option Addr) (c_0 : Nat), v = .agg #[.int .i64 r.1, .slice A_0 r.2.1.length c_0, .int .i64 r.2.2.1, .int .i64 r.2.2.2] ∧ l = [O9 r.2.1 A_0 c_0]) := by
 refine Zr Try.func28 fun w0 F0 h0 => ?_
 unfold Q59.f at H
 refine J.seq (J.region ?_)
 refine Ze (Ym h0) ?_
 rintro _ w1 ⟨b1, rfl, h1⟩
 replace h1 := nf h1
 refine Zm [0, 1, 4] rfl ?_
 refine J.seq (J.region ?_)
 refine Zl 2 ?_
 refine Ze (Ym h1) ?_
 rintro _ w2 ⟨b2, rfl, h2⟩
 replace h2 := nf h2
 refine Ze (Zw 0 h2) ?_
 intro _ w3 h3
 replace h3 := nf h3
 refine Zm [0, 1, 4, 5] rfl ?_
 refine J.seq (J.region ?_)
 refine Zl 1 ?_
 obtain ⟨⟨p1, p2⟩, H⟩ := Zq H
 refine Ze (Wc Yd (ty := (.int .u8)) rfl (0 : Int) rfl rfl rfl rfl rfl rfl rfl (by decide) h3 p1 p2) ?_
 rintro _ w4 ⟨b3, rfl, h4⟩
 replace h4 := nf h4
 refine Zg (Xk h4.wht (gO 0)) ?_
 refine Zm [0, 4, 5, 6] rfl ?_
 refine J.seq (J.seq (Zb [0, 4, 5, 6, 7] ?_))
 refine J.block ?_
 have h11 := h4.addNil 9 .str
 have h12 := (sOR h11 [3, 2, 0] [])
 refine J.loop (fun kk env w => ∃ (x1 : List (List UInt8)) (A1 : Option Addr) (c_1 : Nat) (x2 : Int), env = [(0, .int .i64 a0), (4, .pointer (some ⟨b1, 0, none⟩)), (5, .pointer (some ⟨b2, 0, none⟩)), (6, .string ⟨⟨(toS (List.replicate a1.toNat (0 : Int)))⟩⟩), (7, .int .i64 x2)] ∧ St w0 F0 [X40 b1 0 ([] : List (List UInt8)) none 0 0 0, X40 b2 a1 x1 A1 c_1 0 0, O9 x1 A1 c_1] [] w ∧ Q59.l0 kk a0 a1 x1 x2 = some r) (k := k) ⟨([] : List (List UInt8)), none, 0, 0, rfl, h12, H⟩ ?_
 rintro k1 env w5 ⟨x1, A1, c_1, x2, rfl, h5, H⟩
 rcases k1 with _ | k1
 ·exact z0 H
 rw [Q59.l0] at H
 refine J.seq (J.seq (Zb [0, 4, 5, 6, 7, 15] ?_))
 refine jIf H (fun c1 H => ?_) fun c1 H => ?_
 ·refine J.skip (J.seq (J.block (J.region ?_)))
  refine Zl 1 ?_
  refine Zg (Za 1 h5.wht) ?_
  refine Zl 1 ?_
  refine Ze (Ys .str ([(toS (List.replicate a1.toNat (0 : Int)))] : List (List UInt8)) h5) ?_
  rintro _ w6 ⟨b4, rfl, h6⟩
  replace h6 := nf h6
  obtain ⟨p3, H⟩ := Zq H
  refine Ze (Yq 3 h6 (gO 0) p3) ?_
  rintro _ w7 ⟨A2, c_2, rfl, h7⟩
  replace h7 := nf h7
  refine Zl 1 ?_
  refine Ze (Zw 3 h7) ?_
  intro _ w8 h8
  replace h8 := nf h8
  refine Zm [0, 4, 5, 6, 7] rfl ?_
  refine Zb [0, 4, 5, 6, 7] ?_
  have h9 := (sOR h8 [3, 0, 0] [])
  exact ⟨k1, by omega, (x1 ++ ([(toS (List.replicate a1.toNat (0 : Int)))] : List (List UInt8))), A2, c_2, (w64 (x2 + 1)), rfl, h9, H⟩
 refine J.exit (J.seq (J.region ?_))
 refine Zg (Za 1 h5.wht) ?_
 refine Ze (Zw 0 h5) ?_
 intro _ w9 h10
 replace h10 := nf h10
 refine Zm [4] rfl ?_
 refine J.ret ?_
 cases H
 exact ⟨_, _, _, (Z1 rfl (Z0 (RV.cell Yd 0 h10 rfl rfl rfl rfl) Yn) rfl), ⟨_, _, rfl, rfl⟩, Zd h10 [2]⟩

def Q66.l0 : Nat → ((Int × List (List UInt8) × Int × Int) × (List (Int × List UInt8 × Bool × Int)) × Int × List (Int)) → (Int) → (Int) → Option (Int)
 | 0, _, _, _ => none
 | k + 1, a0, a1, x1 => if (decide (x1 < (a0.2.1.length : Int))) = true then (if 0 ≤ x1 ∧ x1 < (a0.2.1.length : Int) then (if (decide (((gt a0.2.1 x1).1) = a1)) = true then (some x1) else (Q66.l0 k a0 a1 (w64 (x1 + 1)))) else none) else (some (-1))
def Q66.f (k : Nat) (a0 : (Int × List (List UInt8) × Int × Int) × (List (Int × List UInt8 × Bool × Int)) × Int × List (Int)) (a1 : Int) : Option (Int) := Q66.l0 k a0 a1 0
theorem Q66.spec {k : Nat} {a0 : (Int × List (List UInt8) × Int × Int) × (List (Int × List UInt8 × Bool × Int)) × Int × List (Int)} {a1 : Int} {A1 : Option Addr} {c_1 : Nat} {A2 : Option Addr} {c_2 : Nat} {A3 : Option Addr} {c_3 : Nat} {r : Int} (H : Q66.f k a0 a1 = some r) :
  Spec Try.prog 117 [.agg #[.int .i64 a0.1.1, .slice A1 a0.1.2.1.length c_1, .int .i64 a0.1.2.2.1, .int .i64 a0.1.2.2.2, .slice A2 a0.2.1.length c_2, .int .i64 a0.2.2.1, .slice A3 a0.2.2.2.length c_3], .int .u32 a1] [] [R9 a0.1.2.1 A1 c_1, Xb a0.2.1 A2 c_2, R23 a0.2.2.2 A3 c_3] (fun v l => v = .int .i64 r ∧ l = []) := by
 refine Zr Try.func117 fun w0 F0 h0 => ?_
 unfold Q66.f at H
 refine J.seq (J.region ?_)
 refine Ze (Y2 h0) ?_
 rintro _ w1 ⟨b1, rfl, h1⟩
 replace h1 := nf h1
 refine Zm [1, 2] rfl ?_
 refine J.seq (J.seq (Zb [1, 2, 5] ?_))
 refine J.block ?_
 have h4 := (sOR h1 [0] [0, 1, 2])
 refine J.loop (fun kk env w => ∃ (x1 : Int), env = [(1, .int .u32 a1), (2, .pointer (some ⟨b1, 0, none⟩)), (5, .int .i64 x1)] ∧ St w0 F0 [Vg b1 a0.1.1 a0.1.2.1 A1 c_1 a0.1.2.2.1 a0.1.2.2.2 a0.2.1 A2 c_2 a0.2.2.1 a0.2.2.2 A3 c_3] [R9 a0.1.2.1 A1 c_1, Xb a0.2.1 A2 c_2, R23 a0.2.2.2 A3 c_3] w ∧ Q66.l0 kk a0 a1 x1 = some r) (k := k) ⟨0, rfl, h4, H⟩ ?_
 rintro k1 env w2 ⟨x1, rfl, h2, H⟩
 rcases k1 with _ | k1
 ·exact z0 H
 rw [Q66.l0] at H
 refine J.seq (J.seq (J.region ?_))
 refine Zl 2 ?_
 refine Zg (Za 0 h2.wht) ?_
 refine Zm [1, 2, 5, 10] rfl ?_
 refine jIf H (fun c1 H => ?_) fun c1 H => ?_
 ·refine J.skip (J.seq (J.block (J.seq (J.region ?_))))
  refine Zl 1 ?_
  refine Zg (Za 0 h2.wht) ?_
  refine Zl 1 ?_
  obtain ⟨⟨p1, p2⟩, H⟩ := Zq H
  have e1 := Z3 h2.wh (Zf 2) p1 p2
  refine Zg (Zi e1 p1 p2) ?_
  refine Zl 1 ?_
  refine Zg (Zj 0 h2.wht (Zf 2) p1 p2) ?_
  refine Zm [1, 2, 5, 20] rfl ?_
  refine jIf H (fun c2 H => ?_) fun c2 H => ?_
  ·refine J.seq (Zb [4] ?_)
   refine J.ret ?_
   cases H
   exact ⟨_, _, _, Zc, ⟨rfl, rfl⟩, Zd h2 []⟩
  refine J.skip (Zb [1, 2, 5] ?_)
  have h3 := (sOR h2 [0] [0, 1, 2])
  exact ⟨k1, by omega, (w64 (x1 + 1)), rfl, h3, H⟩
 refine J.exit (J.seq (Zb [4] ?_))
 refine J.ret ?_
 cases H
 exact ⟨_, _, _, Zc, ⟨rfl, rfl⟩, Zd h2 []⟩

def Q78.l0 : Nat → (List (Int)) → (Int) → (List (Int)) → (Int) → Option (List (Int))
 | 0, _, _, _, _ => none
 | k + 1, a0, a1, x1, x2 => if (decide (x2 < (a0.length : Int))) = true then (if 0 ≤ x2 ∧ x2 < (a0.length : Int) then (if (!decide ((gt a0 x2) = a1)) = true then (if (x1.length + ([(gt a0 x2)] : List (Int)).length) * 4 ≤ 140737488355328 then (Q78.l0 k a0 a1 (x1 ++ ([(gt a0 x2)] : List (Int))) (w64 (x2 + 1))) else none) else (Q78.l0 k a0 a1 x1 (w64 (x2 + 1)))) else none) else (some x1)
def Q78.f (k : Nat) (a0 : List (Int)) (a1 : Int) : Option (List (Int)) := Q78.l0 k a0 a1 ([] : List (Int)) 0
theorem Q78.spec {k : Nat} {a0 : List (Int)} {a1 : Int} {A1 : Option Addr} {c_1 : Nat} {r : List (Int)} (H : Q78.f k a0 a1 = some r) :
  Spec Try.prog 152 [.slice A1 a0.length c_1, .int .u32 a1] [] [R23 a0 A1 c_1] (fun v l => ∃ (A_0 : Option Addr) (c_0 : Nat), v = .slice A_0 r.length c_0 ∧ l = [O23 r A_0 c_0]) := by
 refine Zr Try.func152 fun w0 F0 h0 => ?_
 unfold Q78.f at H
 refine J.seq (Zb [0, 1] ?_)
 refine J.seq (J.region ?_)
 refine Ze (Ys (.int .u32) ([] : List (Int)) h0) ?_
 rintro _ w1 ⟨b1, rfl, h1⟩
 replace h1 := nf h1
 refine Zm [0, 1, 5] rfl ?_
 refine J.seq (J.seq (Zb [0, 1, 5, 6] ?_))
 refine J.block ?_
 have h7 := (sOR h1 [0] [0])
 refine J.loop (fun kk env w => ∃ (x1 : List (Int)) (A2 : Option Addr) (c_2 : Nat) (x2 : Int), env = [(0, .slice A1 a0.length c_1), (1, .int .u32 a1), (5, .slice A2 x1.length c_2), (6, .int .i64 x2)] ∧ St w0 F0 [O23 x1 A2 c_2] [R23 a0 A1 c_1] w ∧ Q78.l0 kk a0 a1 x1 x2 = some r) (k := k) ⟨([] : List (Int)), (some ⟨b1, 0, none⟩), 0, 0, rfl, h7, H⟩ ?_
 rintro k1 env w2 ⟨x1, A2, c_2, x2, rfl, h2, H⟩
 rcases k1 with _ | k1
 ·exact z0 H
 rw [Q78.l0] at H
 refine J.seq (J.seq (Zb [0, 1, 5, 6, 11] ?_))
 refine jIf H (fun c1 H => ?_) fun c1 H => ?_
 ·refine J.skip (J.seq (J.block (J.seq (J.region ?_))))
  refine Zl 2 ?_
  obtain ⟨⟨p1, p2⟩, H⟩ := Zq H
  have e1 := Z3 h2.wh (Zf 1) p1 p2
  refine Zg (Zi e1 p1 p2) ?_
  refine Zg (Zj 0 h2.wht (Zf 1) p1 p2) ?_
  refine Zm [0, 1, 5, 6, 19] rfl ?_
  refine jIf H (fun c2 H => ?_) fun c2 H => ?_
  ·refine J.region (Zl 3 ?_)
   refine Zg (Zi e1 p1 p2) ?_
   refine Zg (Zj 0 h2.wht (Zf 1) p1 p2) ?_
   refine Ze (Ys (.int .u32) ([(gt a0 x2)] : List (Int)) h2) ?_
   rintro _ w3 ⟨b2, rfl, h3⟩
   replace h3 := nf h3
   obtain ⟨p3, H⟩ := Zq H
   refine Ze (Yq 1 h3 (gO 0) p3) ?_
   rintro _ w4 ⟨A3, c_3, rfl, h4⟩
   replace h4 := nf h4
   refine Zm [0, 1, 5, 6] rfl ?_
   refine Zb [0, 1, 5, 6] ?_
   have h5 := (sOR h4 [0] [0])
   exact ⟨k1, by omega, (x1 ++ ([(gt a0 x2)] : List (Int))), A3, c_3, (w64 (x2 + 1)), rfl, h5, H⟩
  refine J.skip (Zb [0, 1, 5, 6] ?_)
  have h6 := (sOR h2 [0] [0])
  exact ⟨k1, by omega, x1, A2, c_2, (w64 (x2 + 1)), rfl, h6, H⟩
 refine J.exit (J.seq (Zb [4] ?_))
 refine J.ret ?_
 cases H
 exact ⟨_, _, _, Zc, ⟨_, _, rfl, rfl⟩, Zd h2 [0]⟩

def Q75.l0 : Nat → ((Int × List (List UInt8) × Int × Int) × (List (Int × List UInt8 × Bool × Int)) × Int × List (Int)) → (Int) → (List (Int × List UInt8 × Bool × Int)) → (Int) → Option (((Int × List (List UInt8) × Int × Int) × (List (Int × List UInt8 × Bool × Int)) × Int × List (Int)))
 | 0, _, _, _, _ => none
 | k + 1, a0, a1, x1, x2 => if (decide (x2 < (a0.2.1.length : Int))) = true then (if 0 ≤ x2 ∧ x2 < (a0.2.1.length : Int) then (if (!decide (((gt a0.2.1 x2).1) = a1)) = true then (if (x1.length + ([(gt a0.2.1 x2)] : List (Int × List UInt8 × Bool × Int)).length) * 40 ≤ 140737488355328 then (Q75.l0 k a0 a1 (x1 ++ ([(gt a0.2.1 x2)] : List (Int × List UInt8 × Bool × Int))) (w64 (x2 + 1))) else none) else (Q75.l0 k a0 a1 x1 (w64 (x2 + 1)))) else none) else (some (a0.1, x1, a0.2.2.1, a0.2.2.2))
def Q75.f (k : Nat) (a0 : (Int × List (List UInt8) × Int × Int) × (List (Int × List UInt8 × Bool × Int)) × Int × List (Int)) (a1 : Int) : Option (((Int × List (List UInt8) × Int × Int) × (List (Int × List UInt8 × Bool × Int)) × Int × List (Int))) := Q75.l0 k a0 a1 ([] : List (Int × List UInt8 × Bool × Int)) 0
theorem Q75.spec {k : Nat} {a0 : (Int × List (List UInt8) × Int × Int) × (List (Int × List UInt8 × Bool × Int)) × Int × List (Int)} {a1 : Int} {A1 : Option Addr} {c_1 : Nat} {A2 : Option Addr} {c_2 : Nat} {A3 : Option Addr} {c_3 : Nat} {r : ((Int × List (List UInt8) × Int × Int) × (List (Int × List UInt8 × Bool × Int)) × Int × List (Int))} (H : Q75.f k a0 a1 = some r) :
  SpecA Try.prog 155 [.agg #[.int .i64 a0.1.1, .slice A1 a0.1.2.1.length c_1, .int .i64 a0.1.2.2.1, .int .i64 a0.1.2.2.2, .slice A2 a0.2.1.length c_2, .int .i64 a0.2.2.1, .slice A3 a0.2.2.2.length c_3], .int .u32 a1] [] [R9 a0.1.2.1 A1 c_1, Xb a0.2.1 A2 c_2, R23 a0.2.2.2 A3 c_3] (fun v l lr => ∃ (A_0 : Option Addr) (c_0 : Nat) (A_1 : Option Addr) (c_1 : Nat) (A_2 : Option Addr) (c_2 : Nat), v = .agg #[.int .i64 r.1.1, .slice A_0 r.1.2.1.length c_0, .int .i64 r.1.2.2.1, .int .i64 r.1.2.2.2, .slice A_1 r.2.1.length c_1, .int .i64 r.2.2.1, .slice A_2 r.2.2.2.length c_2] ∧ l = [Zf2 r.2.1 A_1 c_1] ∧ lr = [R9 r.1.2.1 A_0 c_0, R23 r.2.2.2 A_2 c_2]) := by
 refine Yt Try.func155 fun w0 F0 h0 => ?_
 unfold Q75.f at H
 refine J.seq (J.region ?_)
 refine Ze (Y2 h0) ?_
 rintro _ w1 ⟨b1, rfl, h1⟩
 replace h1 := nf h1
 refine Ze (Ym h1) ?_
 rintro _ w2 ⟨b2, rfl, h2⟩
 replace h2 := nf h2
 refine Zm [1, 2, 4] rfl ?_
 refine J.seq (J.region ?_)
 refine Ze (Ys (.pair (.int .u32) (.pair .str (.pair .bool (.int .i64)))) ([] : List (Int × List UInt8 × Bool × Int)) h2) ?_
 rintro _ w3 ⟨b3, rfl, h3⟩
 replace h3 := nf h3
 refine Zm [1, 2, 4, 5] rfl ?_
 refine J.seq (J.seq (Zb [1, 2, 4, 5, 6] ?_))
 refine J.block ?_
 have h11 := (sOR h3 [2, 1, 0] [0, 1, 2])
 refine J.loop (fun kk env w => ∃ (x1 : List (Int × List UInt8 × Bool × Int)) (A4 : Option Addr) (c_4 : Nat) (x2 : Int), env = [(1, .int .u32 a1), (2, .pointer (some ⟨b1, 0, none⟩)), (4, .pointer (some ⟨b2, 0, none⟩)), (5, .slice A4 x1.length c_4), (6, .int .i64 x2)] ∧ St w0 F0 [Vg b1 a0.1.1 a0.1.2.1 A1 c_1 a0.1.2.2.1 a0.1.2.2.2 a0.2.1 A2 c_2 a0.2.2.1 a0.2.2.2 A3 c_3, Vg b2 0 ([] : List (List UInt8)) none 0 0 0 ([] : List (Int × List UInt8 × Bool × Int)) none 0 0 ([] : List (Int)) none 0, Zf2 x1 A4 c_4] [R9 a0.1.2.1 A1 c_1, Xb a0.2.1 A2 c_2, R23 a0.2.2.2 A3 c_3] w ∧ Q75.l0 kk a0 a1 x1 x2 = some r) (k := k) ⟨([] : List (Int × List UInt8 × Bool × Int)), (some ⟨b3, 0, none⟩), 0, 0, rfl, h11, H⟩ ?_
 rintro k1 env w4 ⟨x1, A4, c_4, x2, rfl, h4, H⟩
 rcases k1 with _ | k1
 ·exact z0 H
 rw [Q75.l0] at H
 refine J.seq (J.seq (J.region ?_))
 refine Zl 2 ?_
 refine Zg (Za 0 h4.wht) ?_
 refine Zm [1, 2, 4, 5, 6, 12] rfl ?_
 refine jIf H (fun c1 H => ?_) fun c1 H => ?_
 ·refine J.skip (J.seq (J.block (J.seq (J.region ?_))))
  refine Zl 1 ?_
  refine Zg (Za 0 h4.wht) ?_
  refine Zl 1 ?_
  obtain ⟨⟨p1, p2⟩, H⟩ := Zq H
  have e1 := Z3 h4.wh (Zf 4) p1 p2
  refine Zg (Zi e1 p1 p2) ?_
  refine Zl 1 ?_
  refine Zg (Zj 0 h4.wht (Zf 4) p1 p2) ?_
  refine Zm [1, 2, 4, 5, 6, 22] rfl ?_
  refine jIf H (fun c2 H => ?_) fun c2 H => ?_
  ·refine J.region (Zl 2 ?_)
   refine Zg (Za 0 h4.wht) ?_
   refine Zl 1 ?_
   refine Zg (Zi e1 p1 p2) ?_
   refine Zg (Zj 0 h4.wht (Zf 4) p1 p2) ?_
   refine Ze (Ys (.pair (.int .u32) (.pair .str (.pair .bool (.int .i64)))) ([(gt a0.2.1 x2)] : List (Int × List UInt8 × Bool × Int)) h4) ?_
   rintro _ w5 ⟨b4, rfl, h5⟩
   replace h5 := nf h5
   obtain ⟨p3, H⟩ := Zq H
   refine Ze (Yq 3 h5 (gO 0) p3) ?_
   rintro _ w6 ⟨A5, c_5, rfl, h6⟩
   replace h6 := nf h6
   refine Zm [1, 2, 4, 5, 6] rfl ?_
   refine Zb [1, 2, 4, 5, 6] ?_
   have h7 := (sOR h6 [2, 2, 0] [0, 1, 2])
   exact ⟨k1, by omega, (x1 ++ ([(gt a0.2.1 x2)] : List (Int × List UInt8 × Bool × Int))), A5, c_5, (w64 (x2 + 1)), rfl, h7, H⟩
  refine J.skip (Zb [1, 2, 4, 5, 6] ?_)
  have h8 := (sOR h4 [0, 0, 0] [0, 1, 2])
  exact ⟨k1, by omega, x1, A4, c_4, (w64 (x2 + 1)), rfl, h8, H⟩
 refine J.exit (J.seq (J.region ?_))
 refine Zl 2 ?_
 refine Ze (Zw 0 h4) ?_
 intro _ w7 h9
 replace h9 := nf h9
 refine Zm [2, 4] rfl ?_
 refine J.seq (J.region ?_)
 refine Zg (Za 0 h9.wht) ?_
 refine Ze (Zw 1 h9) ?_
 intro _ w8 h10
 replace h10 := nf h10
 refine Zm [4] rfl ?_
 refine J.ret ?_
 cases H
 exact ⟨_, _, _, (Z1 rfl (Z0 (RV.cell Yd 0 h10 rfl rfl rfl rfl) Yn) rfl), ⟨_, _, _, _, _, _, rfl, rfl, rfl⟩, sOR h10 [2] [0, 2]⟩

def Q77.f (k : Nat) (a0 : (Int × List (List UInt8) × Int × Int) × (List (Int × List UInt8 × Bool × Int)) × Int × List (Int)) (a1 : Int × List UInt8 × Bool × Int) : Option (((Int × List (List UInt8) × Int × Int) × (List (Int × List UInt8 × Bool × Int)) × Int × List (Int))) := (Q75.f k a0 a1.1).bind fun r1 => (if (r1.2.1.length + ([a1] : List (Int × List UInt8 × Bool × Int)).length) * 40 ≤ 140737488355328 then (some (r1.1, (r1.2.1 ++ ([a1] : List (Int × List UInt8 × Bool × Int))), r1.2.2.1, r1.2.2.2)) else none)
theorem Q77.spec {k : Nat} {a0 : (Int × List (List UInt8) × Int × Int) × (List (Int × List UInt8 × Bool × Int)) × Int × List (Int)} {a1 : Int × List UInt8 × Bool × Int} {A1 : Option Addr} {c_1 : Nat} {A2 : Option Addr} {c_2 : Nat} {A3 : Option Addr} {c_3 : Nat} {r : ((Int × List (List UInt8) × Int × Int) × (List (Int × List UInt8 × Bool × Int)) × Int × List (Int))} (H : Q77.f k a0 a1 = some r) :
  SpecA Try.prog 153 [.agg #[.int .i64 a0.1.1, .slice A1 a0.1.2.1.length c_1, .int .i64 a0.1.2.2.1, .int .i64 a0.1.2.2.2, .slice A2 a0.2.1.length c_2, .int .i64 a0.2.2.1, .slice A3 a0.2.2.2.length c_3], .agg #[.int .u32 a1.1, .string ⟨⟨a1.2.1⟩⟩, .bool a1.2.2.1, .int .i64 a1.2.2.2]] [] [R9 a0.1.2.1 A1 c_1, Xb a0.2.1 A2 c_2, R23 a0.2.2.2 A3 c_3] (fun v l lr => ∃ (A_0 : Option Addr) (c_0 : Nat) (A_1 : Option Addr) (c_1 : Nat) (A_2 : Option Addr) (c_2 : Nat), v = .agg #[.int .i64 r.1.1, .slice A_0 r.1.2.1.length c_0, .int .i64 r.1.2.2.1, .int .i64 r.1.2.2.2, .slice A_1 r.2.1.length c_1, .int .i64 r.2.2.1, .slice A_2 r.2.2.2.length c_2] ∧ l = [Zf2 r.2.1 A_1 c_1] ∧ lr = [R9 r.1.2.1 A_0 c_0, R23 r.2.2.2 A_2 c_2]) := by
 refine Yt Try.func153 fun w0 F0 h0 => ?_
 unfold Q77.f at H
 refine J.seq (J.region ?_)
 refine Ze (Y2 h0) ?_
 rintro _ w1 ⟨b1, rfl, h1⟩
 replace h1 := nf h1
 refine Ze (Y2 h1) ?_
 rintro _ w2 ⟨b2, rfl, h2⟩
 replace h2 := nf h2
 refine Ze (Ym h2) ?_
 rintro _ w3 ⟨b3, rfl, h3⟩
 replace h3 := nf h3
 refine Zm [2, 3, 4] rfl ?_
 refine J.seq (J.region ?_)
 refine Zg (Za 2 h3.wht) ?_
 refine Zl 1 ?_
 refine Zg (Za 1 h3.wht) ?_
 obtain ⟨r1, q1, H⟩ := Zp H
 refine Ze (Ya [] (Q75.spec q1) h3 rfl (Zv (Zf 0) (Zv (Zf 1) (Zv (Zf 2) Zu)))) ?_
 rintro _ w4 ⟨_, _, ⟨A4, c_4, A5, c_5, A6, c_6, rfl, rfl, rfl⟩, h4⟩
 replace h4 := nf h4
 refine Ze (Zw 3 h4) ?_
 intro _ w5 h5
 replace h5 := nf h5
 refine Zm [2, 3, 4] rfl ?_
 refine J.seq (J.region ?_)
 refine Zl 1 ?_
 refine Zg (Za 0 h5.wht) ?_
 refine Zg (Za 3 h5.wht) ?_
 refine Ze (Ys (.pair (.int .u32) (.pair .str (.pair .bool (.int .i64)))) ([a1] : List (Int × List UInt8 × Bool × Int)) h5) ?_
 rintro _ w6 ⟨b4, rfl, h6⟩
 replace h6 := nf h6
 obtain ⟨p1, H⟩ := Zq H
 refine Ze (Yq 2 h6 (gO 0) p1) ?_
 rintro _ w7 ⟨A7, c_7, rfl, h7⟩
 replace h7 := nf h7
 refine Zl 1 ?_
 refine Ze (Zw 2 h7) ?_
 intro _ w8 h8
 replace h8 := nf h8
 refine Zm [2, 4] rfl ?_
 have h9 := Zd h8 [0, 0, 1]
 replace h9 := nf h9
 refine J.seq (J.region ?_)
 refine Zg (Za 0 h9.wht) ?_
 refine Ze (Zw 2 h9) ?_
 intro _ w9 h10
 replace h10 := nf h10
 refine Zm [4] rfl ?_
 refine J.ret ?_
 cases H
 exact ⟨_, _, _, (Z1 rfl (Z0 (RV.cell Yd 0 h10 rfl rfl rfl rfl) Yn) rfl), ⟨_, _, _, _, _, _, rfl, rfl, rfl⟩, sOR h10 [2] [0, 1]⟩

def Q62.f (a0 : Int × List (List UInt8) × Int × Int) (a1 : Int) : Option (Bool) := some (decide ((IntKind.u64.wrap (a1)) < (IntKind.u64.wrap ((a0.2.1.length : Int)))))
theorem Q62.spec {a0 : Int × List (List UInt8) × Int × Int} {a1 : Int} {A1 : Option Addr} {c_1 : Nat} {r : Bool} (H : Q62.f a0 a1 = some r) :
  Spec Try.prog 71 [.agg #[.int .i64 a0.1, .slice A1 a0.2.1.length c_1, .int .i64 a0.2.2.1, .int .i64 a0.2.2.2], .int .u32 a1] [] [R9 a0.2.1 A1 c_1] (fun v l => v = .bool r ∧ l = []) := by
 refine Zr Try.func71 fun w0 F0 h0 => ?_
 unfold Q62.f at H
 refine J.seq (J.region ?_)
 refine Ze (Y2 h0) ?_
 rintro _ w1 ⟨b1, rfl, h1⟩
 replace h1 := nf h1
 refine Zm [1, 2] rfl ?_
 refine J.seq (J.region ?_)
 refine Zl 3 ?_
 refine Zg (Za 0 h1.wht) ?_
 refine Zm [4] rfl ?_
 refine J.ret ?_
 cases H
 exact ⟨_, _, _, Zc, ⟨rfl, rfl⟩, Zd h1 []⟩

def Q61.f (a0 : Int × List (List UInt8) × Int × Int) (a1 : Int) (a2 : List UInt8) : Option ((Int × List (List UInt8) × Int × Int) × Int) := (Q62.f a0 a1).bind fun r1 => (if (!r1) = true then (some (a0, 4)) else (if (!decide ((a2.length : Int) = a0.1)) = true then (some (a0, 3)) else (if (([] : List (List UInt8)).length + a0.2.1.length) * 16 ≤ 140737488355328 then (if 0 ≤ a1 ∧ a1 < ((([] : List (List UInt8)) ++ a0.2.1).length : Int) then (some ((a0.1, ((([] : List (List UInt8)) ++ a0.2.1).set a1.toNat a2), a0.2.2.1, (w64 (a0.2.2.2 + 1))), 0)) else none) else none)))
theorem Q61.spec {a0 : Int × List (List UInt8) × Int × Int} {a1 : Int} {a2 : List UInt8} {A1 : Option Addr} {c_1 : Nat} {r : (Int × List (List UInt8) × Int × Int) × Int} (H : Q61.f a0 a1 a2 = some r) :
  SpecA Try.prog 29 [.agg #[.int .i64 a0.1, .slice A1 a0.2.1.length c_1, .int .i64 a0.2.2.1, .int .i64 a0.2.2.2], .int .u32 a1, .string ⟨⟨a2⟩⟩] [] [R9 a0.2.1 A1 c_1] (fun v l lr => ∃ (A_0 : Option Addr) (c_0 : Nat), v = .tuple #[.agg #[.int .i64 r.1.1, .slice A_0 r.1.2.1.length c_0, .int .i64 r.1.2.2.1, .int .i64 r.1.2.2.2], .int .i64 r.2] ∧ l = [] ∧ lr = [R9 r.1.2.1 A_0 c_0]) := by
 refine Yt Try.func29 fun w0 F0 h0 => ?_
 unfold Q61.f at H
 refine J.seq (J.region ?_)
 refine Ze (Y2 h0) ?_
 rintro _ w1 ⟨b1, rfl, h1⟩
 replace h1 := nf h1
 refine Ze (Ym h1) ?_
 rintro _ w2 ⟨b2, rfl, h2⟩
 replace h2 := nf h2
 refine Zm [1, 2, 3, 6] rfl ?_
 refine J.seq (J.seq (J.region ?_))
 refine Zg (Za 1 h2.wht) ?_
 refine Zl 1 ?_
 obtain ⟨r1, q1, H⟩ := Zp H
 refine Ze (Zk [] (Q62.spec q1) h2 rfl (Zv (Zf 2) Zu)) ?_
 rintro _ w3 ⟨_, ⟨rfl, rfl⟩, h3⟩
 replace h3 := nf h3
 refine Zm [1, 2, 3, 6, 11] rfl ?_
 refine jIf H (fun c1 H => ?_) fun c1 H => ?_
 ·refine J.seq (J.region ?_)
  refine Zg (Za 1 h3.wht) ?_
  refine Ze (Zw 0 h3) ?_
  intro _ w4 h4
  replace h4 := nf h4
  refine Zm [6, 7] rfl ?_
  refine J.ret ?_
  cases H
  exact ⟨_, _, _, (Z1 rfl (Z0 (RV.cell Yd 0 h4 rfl rfl rfl rfl) (Z0 (RV.tmp rfl) Yn)) rfl), ⟨_, _, rfl, rfl, rfl⟩, sOR h4 [] [0]⟩
 refine J.skip (J.seq (J.seq (J.region ?_)))
 refine Zl 3 ?_
 refine Zg (Za 1 h3.wht) ?_
 refine Zm [1, 2, 3, 6, 17] rfl ?_
 refine jIf H (fun c2 H => ?_) fun c2 H => ?_
 ·refine J.seq (J.region ?_)
  refine Zg (Za 1 h3.wht) ?_
  refine Ze (Zw 0 h3) ?_
  intro _ w5 h5
  replace h5 := nf h5
  refine Zm [6, 7] rfl ?_
  refine J.ret ?_
  cases H
  exact ⟨_, _, _, (Z1 rfl (Z0 (RV.cell Yd 0 h5 rfl rfl rfl rfl) (Z0 (RV.tmp rfl) Yn)) rfl), ⟨_, _, rfl, rfl, rfl⟩, sOR h5 [] [0]⟩
 refine J.skip (J.seq (J.region ?_))
 refine Ze (Ys .str ([] : List (List UInt8)) h3) ?_
 rintro _ w6 ⟨b3, rfl, h6⟩
 replace h6 := nf h6
 refine Zl 1 ?_
 refine Zg (Za 2 h6.wht) ?_
 obtain ⟨p1, H⟩ := Zq H
 refine Ze (Yq 0 h6 (Zf 2) p1) ?_
 rintro _ w7 ⟨A2, c_2, rfl, h7⟩
 replace h7 := nf h7
 refine Zl 1 ?_
 refine Ze (Zw 2 h7) ?_
 intro _ w8 h8
 replace h8 := nf h8
 refine Zm [1, 2, 3, 6] rfl ?_
 refine J.seq (J.region ?_)
 refine Zl 1 ?_
 refine Zg (Za 0 h8.wht) ?_
 refine Zl 2 ?_
 obtain ⟨⟨p2, p3⟩, H⟩ := Zq H
 have e1 := Z3 h8.wh (gO 1) p2 p3
 refine Zg (Zi e1 p2 p3) ?_
 refine Ze (Zo 0 .str a1 a2 1 h8 rfl p2 p3) ?_
 intro _ w9 h9
 replace h9 := nf h9
 replace h9 : St w0 F0 [O9 ((([] : List (List UInt8)) ++ a0.2.1).set a1.toNat a2) A2 c_2, X40 b1 a0.1 ((([] : List (List UInt8)) ++ a0.2.1).set a1.toNat a2) A2 c_2 a0.2.2.1 a0.2.2.2, X40 b2 0 ([] : List (List UInt8)) none 0 0 0] _ _ := h9.retell (by simp only [List.length_set, List.length_nil, O9, X40] <;> rfl)
 refine Zm [3, 6] rfl ?_
 refine J.seq (J.region ?_)
 refine Zl 1 ?_
 refine Zg (Za 1 h9.wht) ?_
 refine Zl 2 ?_
 refine Ze (Zw 1 h9) ?_
 intro _ w10 h10
 replace h10 := nf h10
 refine Zm [3, 6] rfl ?_
 refine J.seq (J.region ?_)
 refine Zg (Za 0 h10.wht) ?_
 refine Ze (Zw 2 h10) ?_
 intro _ w11 h11
 replace h11 := nf h11
 refine Zm [6, 7] rfl ?_
 refine J.ret ?_
 have h12 := h11.freeze (k := 2) rfl Yv
 cases H
 exact ⟨_, _, _, (Z1 rfl (Z0 (RV.cell Yd 0 h12 rfl rfl rfl rfl) (Z0 (RV.tmp rfl) Yn)) rfl), ⟨_, _, rfl, rfl, rfl⟩, sOR h12 [] [0]⟩

def Q76.f (k : Nat) (a0 : (Int × List (List UInt8) × Int × Int) × (List (Int × List UInt8 × Bool × Int)) × Int × List (Int)) : Option (((Int × List (List UInt8) × Int × Int) × (List (Int × List UInt8 × Bool × Int)) × Int × List (Int)) × Bool) := if (decide ((a0.2.1.length : Int) < a0.2.2.1)) = true then (some (a0, true)) else (if (decide ((a0.2.2.2.length : Int) = 0)) = true then (some (a0, false)) else (if 0 ≤ (w64 ((a0.2.2.2.length : Int) - 1)) ∧ (w64 ((a0.2.2.2.length : Int) - 1)) < (a0.2.2.2.length : Int) then ((Q66.f k a0 (gt a0.2.2.2 (w64 ((a0.2.2.2.length : Int) - 1)))).bind fun r1 => (if 0 ≤ r1 ∧ r1 < (a0.2.1.length : Int) then (if (gt a0.2.1 r1).2.2.1 = true then ((Q61.f a0.1 (gt a0.2.2.2 (w64 ((a0.2.2.2.length : Int) - 1))) ((gt a0.2.1 r1).2.1)).bind fun r2 => ((Q78.f k a0.2.2.2 (gt a0.2.2.2 (w64 ((a0.2.2.2.length : Int) - 1)))).bind fun r3 => ((Q75.f k (r2.1, a0.2.1, a0.2.2.1, r3) (gt a0.2.2.2 (w64 ((a0.2.2.2.length : Int) - 1)))).bind fun r4 => (some (r4, true))))) else ((Q78.f k a0.2.2.2 (gt a0.2.2.2 (w64 ((a0.2.2.2.length : Int) - 1)))).bind fun r5 => ((Q75.f k (a0.1, a0.2.1, a0.2.2.1, r5) (gt a0.2.2.2 (w64 ((a0.2.2.2.length : Int) - 1)))).bind fun r6 => (some (r6, true))))) else none)) else none))
theorem Q76.spec {k : Nat} {a0 : (Int × List (List UInt8) × Int × Int) × (List (Int × List UInt8 × Bool × Int)) × Int × List (Int)} {A1 : Option Addr} {c_1 : Nat} {A2 : Option Addr} {c_2 : Nat} {A3 : Option Addr} {c_3 : Nat} {r : ((Int × List (List UInt8) × Int × Int) × (List (Int × List UInt8 × Bool × Int)) × Int × List (Int)) × Bool} (H : Q76.f k a0 = some r) :
  SpecA Try.prog 154 [.agg #[.int .i64 a0.1.1, .slice A1 a0.1.2.1.length c_1, .int .i64 a0.1.2.2.1, .int .i64 a0.1.2.2.2, .slice A2 a0.2.1.length c_2, .int .i64 a0.2.2.1, .slice A3 a0.2.2.2.length c_3]] [] [R9 a0.1.2.1 A1 c_1, Xb a0.2.1 A2 c_2, R23 a0.2.2.2 A3 c_3] (fun v l lr => ∃ (A_0 : Option Addr) (c_0 : Nat) (A_1 : Option Addr) (c_1 : Nat) (A_2 : Option Addr) (c_2 : Nat), v = .tuple #[.agg #[.int .i64 r.1.1.1, .slice A_0 r.1.1.2.1.length c_0, .int .i64 r.1.1.2.2.1, .int .i64 r.1.1.2.2.2, .slice A_1 r.1.2.1.length c_1, .int .i64 r.1.2.2.1, .slice A_2 r.1.2.2.2.length c_2], .bool r.2] ∧ l = [] ∧ lr = [R9 r.1.1.2.1 A_0 c_0, Xb r.1.2.1 A_1 c_1, R23 r.1.2.2.2 A_2 c_2]) := by
 refine Yt Try.func154 fun w0 F0 h0 => ?_
 unfold Q76.f at H
 refine J.seq (J.region ?_)
 refine Ze (Y2 h0) ?_
 rintro _ w1 ⟨b1, rfl, h1⟩
 replace h1 := nf h1
 refine Ze (Ym h1) ?_
 rintro _ w2 ⟨b2, rfl, h2⟩
 replace h2 := nf h2
 refine Zm [1, 2] rfl ?_
 refine J.seq (J.seq (J.region ?_))
 refine Zl 1 ?_
 refine Zg (Za 1 h2.wht) ?_
 refine Zl 2 ?_
 refine Zg (Za 1 h2.wht) ?_
 refine Zm [1, 2, 11] rfl ?_
 refine jIf H (fun c1 H => ?_) fun c1 H => ?_
 ·refine J.seq (J.region ?_)
  refine Zg (Za 1 h2.wht) ?_
  refine Ze (Zw 0 h2) ?_
  intro _ w3 h3
  replace h3 := nf h3
  refine Zm [2, 3] rfl ?_
  refine J.ret ?_
  cases H
  exact ⟨_, _, _, (Z1 rfl (Z0 (RV.cell Yd 0 h3 rfl rfl rfl rfl) (Z0 (RV.tmp rfl) Yn)) rfl), ⟨_, _, _, _, _, _, rfl, rfl, rfl⟩, sOR h3 [] [0, 1, 2]⟩
 refine J.skip (J.seq (J.seq (J.region ?_)))
 refine Zl 1 ?_
 refine Zg (Za 1 h2.wht) ?_
 refine Zm [1, 2, 16] rfl ?_
 refine jIf H (fun c2 H => ?_) fun c2 H => ?_
 ·refine J.seq (J.region ?_)
  refine Zg (Za 1 h2.wht) ?_
  refine Ze (Zw 0 h2) ?_
  intro _ w4 h4
  replace h4 := nf h4
  refine Zm [2, 3] rfl ?_
  refine J.ret ?_
  cases H
  exact ⟨_, _, _, (Z1 rfl (Z0 (RV.cell Yd 0 h4 rfl rfl rfl rfl) (Z0 (RV.tmp rfl) Yn)) rfl), ⟨_, _, _, _, _, _, rfl, rfl, rfl⟩, sOR h4 [] [0, 1, 2]⟩
 refine J.skip (J.seq (J.region ?_))
 refine Zl 1 ?_
 refine Zg (Za 1 h2.wht) ?_
 refine Zl 1 ?_
 refine Zg (Za 1 h2.wht) ?_
 refine Zl 2 ?_
 obtain ⟨⟨p1, p2⟩, H⟩ := Zq H
 have e1 := Z3 h2.wh (Zf 4) p1 p2
 refine Zg (Zi e1 p1 p2) ?_
 refine Zg (Zj 0 h2.wht (Zf 4) p1 p2) ?_
 refine Zm [1, 2, 4] rfl ?_
 refine J.seq ?_
 obtain ⟨r1, q1, H⟩ := Zp H
 obtain ⟨⟨p3, p4⟩, H⟩ := Zq H
 refine J.midS (fun env w => ∃ (b3 : Nat), env = [(1, .pointer (some ⟨b1, 0, none⟩)), (2, .pointer (some ⟨b2, 0, none⟩)), (4, .int .u32 (gt a0.2.2.2 (w64 ((a0.2.2.2.length : Int) - 1)))), (5, .pointer (some ⟨b3, 0, none⟩))] ∧ St w0 F0 [Zhn b3 ((gt a0.2.1 r1).1) ((gt a0.2.1 r1).2.1) ((gt a0.2.1 r1).2.2.1) ((gt a0.2.1 r1).2.2.2), Vg b2 0 ([] : List (List UInt8)) none 0 0 0 ([] : List (Int × List UInt8 × Bool × Int)) none 0 0 ([] : List (Int)) none 0, Vg b1 a0.1.1 a0.1.2.1 A1 c_1 a0.1.2.2.1 a0.1.2.2.2 a0.2.1 A2 c_2 a0.2.2.1 a0.2.2.2 A3 c_3] [R9 a0.1.2.1 A1 c_1, Xb a0.2.1 A2 c_2, R23 a0.2.2.2 A3 c_3] w) ?_ ?_
 ·refine Zs h2 ?_
  have h8 := h2.drew
  refine Zx [0, 3] ?_
  refine Zh 1 rfl (Za 1 wI) ?_
  refine Zh 2 rfl (Za 1 wI) ?_
  refine HJ.pick [4, 7] (i := 4) rfl rfl rfl rfl ?_
  refine (Yb ?_ (Yb ?_ Xa))
  ·refine Z4 4 rfl (Zk [] (Q66.spec q1) h8 rfl (Zv (Zf 2) (Zv (Zf 3) (Zv (Zf 4) Zu)))) ?_
   rintro _ w8 ⟨_, ⟨rfl, rfl⟩, h9⟩
   replace h9 := nf h9
   refine ⟨⟨[], h9⟩, ?_⟩
   have e3 := Z3 h9.wh (Zf 3) p3 p4
   refine Zh 5 rfl (Zi e3 p3 p4) ?_
   refine Zh 6 rfl (Zj 0 wI (Zf 3) p3 p4) ?_
   refine Zn 7 rfl (Ym h9) ?_
   rintro _ w9 ⟨b4, rfl, h10⟩
   replace h10 := nf h10
   refine ⟨⟨[_], h10⟩, ?_⟩
   refine Zn 8 rfl (Zw 0 h10) ?_
   intro _ w10 h11
   replace h11 := nf h11
   refine ⟨⟨[_], h11⟩, ?_⟩
   refine Z2 [1, 2, 4, 5] ?_
   exact Zz ⟨b4, rfl, (sOR h11 [0, 0, 0] [0, 1, 2])⟩
  ·refine Z4 7 rfl (Ym h8) ?_
   rintro _ w11 ⟨b5, rfl, h12⟩
   replace h12 := nf h12
   refine ⟨⟨[_], h12⟩, ?_⟩
   refine Zn 4 rfl (Zk [] (Q66.spec q1) h12 rfl (Zv (Zf 3) (Zv (Zf 4) (Zv (Zf 5) Zu)))) ?_
   rintro _ w12 ⟨_, ⟨rfl, rfl⟩, h13⟩
   replace h13 := nf h13
   refine ⟨⟨[_], h13⟩, ?_⟩
   have e4 := Z3 h13.wh (Zf 4) p3 p4
   refine Zh 5 rfl (Zi e4 p3 p4) ?_
   refine Zh 6 rfl (Zj 0 wI (Zf 3) p3 p4) ?_
   refine Zn 8 rfl (Zw 0 h13) ?_
   intro _ w13 h14
   replace h14 := nf h14
   refine ⟨⟨[_], h14⟩, ?_⟩
   refine Z2 [1, 2, 4, 5] ?_
   exact Zz ⟨b5, rfl, (sOR h14 [0, 0, 0] [0, 1, 2])⟩
 rintro env w14 ⟨b3, rfl, h15⟩
 refine J.seq (J.seq (J.region ?_))
 refine Zl 1 ?_
 refine Zg (Za 0 h15.wht) ?_
 refine Zm [1, 2, 4, 5, 34] rfl ?_
 refine jIf H (fun c3 H => ?_) fun c3 H => ?_
 ·refine J.region (Zl 1 ?_)
  refine Zg (Za 2 h15.wht) ?_
  refine Zl 2 ?_
  refine Zg (Za 0 h15.wht) ?_
  obtain ⟨r2, q2, H⟩ := Zp H
  refine Ze (Ya [] (Q61.spec q2) h15 rfl (Zv (Zf 0) Zu)) ?_
  rintro _ w15 ⟨_, _, ⟨A4, c_4, rfl, rfl, rfl⟩, h16⟩
  replace h16 := nf h16
  refine Zl 4 ?_
  refine Ze (Zw 2 h16) ?_
  intro _ w16 h17
  replace h17 := nf h17
  refine Zm [1, 2, 4] rfl ?_
  refine J.seq (J.region ?_)
  refine Zl 1 ?_
  refine Zg (Za 0 h17.wht) ?_
  refine Zl 1 ?_
  obtain ⟨r3, q3, H⟩ := Zp H
  refine Ze (Zk [] (Q78.spec q3) h17 rfl (Zv (Zf 6) Zu)) ?_
  rintro _ w17 ⟨_, ⟨A5, c_5, rfl, rfl⟩, h18⟩
  replace h18 := nf h18
  refine Zl 1 ?_
  refine Ze (Zw 1 h18) ?_
  intro _ w18 h19
  replace h19 := nf h19
  refine Zm [1, 2, 4] rfl ?_
  refine J.seq (J.region ?_)
  refine Zg (Za 0 h19.wht) ?_
  refine Zl 1 ?_
  have h20 := h19.freeze (k := 1) rfl Yv
  obtain ⟨r4, q4, H⟩ := Zp H
  refine Ze (Ya [] (Q75.spec q4) h20 rfl (Zv (Zf 1) (Zv (Zf 3) (Zv (Zf 0) Zu)))) ?_
  rintro _ w19 ⟨_, _, ⟨A6, c_6, A7, c_7, A8, c_8, rfl, rfl, rfl⟩, h21⟩
  replace h21 := nf h21
  refine Ze (Zw 3 h21) ?_
  intro _ w20 h22
  replace h22 := nf h22
  refine Zm [2, 3] rfl ?_
  have h23 := Zd h22 [0, 0]
  replace h23 := nf h23
  refine J.ret ?_
  have h24 := h23.freeze (k := 1) rfl Yv
  cases H
  exact ⟨_, _, _, (Z1 rfl (Z0 (RV.cell Yd 0 h24 rfl rfl rfl rfl) (Z0 (RV.tmp rfl) Yn)) rfl), ⟨_, _, _, _, _, _, rfl, rfl, rfl⟩, sOR h24 [] [1, 0, 2]⟩
 refine J.skip (J.seq (J.region ?_))
 refine Zl 1 ?_
 refine Zg (Za 2 h15.wht) ?_
 refine Zl 1 ?_
 obtain ⟨r5, q5, H⟩ := Zp H
 refine Ze (Zk [] (Q78.spec q5) h15 rfl (Zv (Zf 5) Zu)) ?_
 rintro _ w21 ⟨_, ⟨A9, c_9, rfl, rfl⟩, h25⟩
 replace h25 := nf h25
 refine Zl 1 ?_
 refine Ze (Zw 3 h25) ?_
 intro _ w22 h26
 replace h26 := nf h26
 refine Zm [1, 2, 4] rfl ?_
 refine J.seq (J.region ?_)
 refine Zg (Za 0 h26.wht) ?_
 refine Zl 1 ?_
 have h27 := h26.freeze (k := 1) rfl Yv
 obtain ⟨r6, q6, H⟩ := Zp H
 refine Ze (Ya [] (Q75.spec q6) h27 rfl (Zv (Zf 1) (Zv (Zf 2) (Zv (Zf 0) Zu)))) ?_
 rintro _ w23 ⟨_, _, ⟨A10, c_10, A11, c_11, A12, c_12, rfl, rfl, rfl⟩, h28⟩
 replace h28 := nf h28
 refine Ze (Zw 3 h28) ?_
 intro _ w24 h29
 replace h29 := nf h29
 refine Zm [2, 3] rfl ?_
 have h30 := Zd h29 [0, 0]
 replace h30 := nf h30
 refine J.ret ?_
 have h31 := h30.freeze (k := 1) rfl Yv
 cases H
 exact ⟨_, _, _, (Z1 rfl (Z0 (RV.cell Yd 0 h31 rfl rfl rfl rfl) (Z0 (RV.tmp rfl) Yn)) rfl), ⟨_, _, _, _, _, _, rfl, rfl, rfl⟩, sOR h31 [] [1, 0, 2]⟩

def Q60.f (a0 : Int × List (List UInt8) × Int × Int) (a1 : Int) : Option ((Int × List (List UInt8) × Int × Int) × List UInt8 × Int) := (Q62.f a0 a1).bind fun r1 => (if (!r1) = true then (some (a0, ([] : List UInt8), 4)) else (if 0 ≤ a1 ∧ a1 < (a0.2.1.length : Int) then (some ((a0.1, a0.2.1, (w64 (a0.2.2.1 + 1)), a0.2.2.2), (gt a0.2.1 a1), 0)) else none))
theorem Q60.spec {a0 : Int × List (List UInt8) × Int × Int} {a1 : Int} {A1 : Option Addr} {c_1 : Nat} {r : (Int × List (List UInt8) × Int × Int) × List UInt8 × Int} (H : Q60.f a0 a1 = some r) :
  SpecA Try.prog 21 [.agg #[.int .i64 a0.1, .slice A1 a0.2.1.length c_1, .int .i64 a0.2.2.1, .int .i64 a0.2.2.2], .int .u32 a1] [] [R9 a0.2.1 A1 c_1] (fun v l lr => ∃ (A_0 : Option Addr) (c_0 : Nat), v = .tuple #[.agg #[.int .i64 r.1.1, .slice A_0 r.1.2.1.length c_0, .int .i64 r.1.2.2.1, .int .i64 r.1.2.2.2], .string ⟨⟨r.2.1⟩⟩, .int .i64 r.2.2] ∧ l = [] ∧ lr = [R9 r.1.2.1 A_0 c_0]) := by
 refine Yt Try.func21 fun w0 F0 h0 => ?_
 unfold Q60.f at H
 refine J.seq (J.region ?_)
 refine Ze (Y2 h0) ?_
 rintro _ w1 ⟨b1, rfl, h1⟩
 replace h1 := nf h1
 refine Ze (Ym h1) ?_
 rintro _ w2 ⟨b2, rfl, h2⟩
 replace h2 := nf h2
 refine Zm [1, 2, 4] rfl ?_
 refine J.seq (J.seq (J.region ?_))
 refine Zg (Za 1 h2.wht) ?_
 refine Zl 1 ?_
 obtain ⟨r1, q1, H⟩ := Zp H
 refine Ze (Zk [] (Q62.spec q1) h2 rfl (Zv (Zf 2) Zu)) ?_
 rintro _ w3 ⟨_, ⟨rfl, rfl⟩, h3⟩
 replace h3 := nf h3
 refine Zm [1, 2, 4, 10] rfl ?_
 refine jIf H (fun c1 H => ?_) fun c1 H => ?_
 ·refine J.seq (J.region ?_)
  refine Zg (Za 1 h3.wht) ?_
  refine Ze (Zw 0 h3) ?_
  intro _ w4 h4
  replace h4 := nf h4
  refine Zm [4, 5, 6] rfl ?_
  refine J.ret ?_
  cases H
  exact ⟨_, _, _, (Z1 rfl (Z0 (RV.cell Yd 0 h4 rfl rfl rfl rfl) (Z0 (RV.tmp rfl) (Z0 (RV.tmp rfl) Yn))) rfl), ⟨_, _, rfl, rfl, rfl⟩, sOR h4 [] [0]⟩
 refine J.skip (J.seq (J.region ?_))
 refine Zl 1 ?_
 refine Zg (Za 1 h3.wht) ?_
 refine Zl 2 ?_
 refine Ze (Zw 1 h3) ?_
 intro _ w5 h5
 replace h5 := nf h5
 refine Zm [1, 2, 4] rfl ?_
 refine J.seq (Zs (Zd h5 [0]) ?_)
 have h6 := h5.drew
 refine Zx [1, 3] ?_
 refine Zh 0 rfl (Za 0 wI) ?_
 refine Zh 2 rfl (Za 0 wI) ?_
 obtain ⟨⟨p1, p2⟩, H⟩ := Zq H
 have e1 := Z3 h6.wh (Zf 2) p1 p2
 refine Zh 4 rfl (Zi e1 p1 p2) ?_
 refine Zh 5 rfl (Zj 0 wI (Zf 1) p1 p2) ?_
 refine Zn 6 rfl (Zw 1 h6) ?_
 intro _ w6 h7
 replace h7 := nf h7
 refine ⟨⟨[_], h7⟩, ?_⟩
 refine Zx [7, 8] ?_
 refine Z2 [4, 5, 6] ?_
 refine J.ret ?_
 cases H
 exact ⟨_, _, _, (Z1 rfl (Z0 (RV.cell Yd 0 h7 rfl rfl rfl rfl) (Z0 (RV.tmp rfl) (Z0 (RV.tmp rfl) Yn))) rfl), ⟨_, _, rfl, rfl, rfl⟩, sOR h7 [] [0]⟩

def Q69.f (k : Nat) (a0 : (Int × List (List UInt8) × Int × Int) × (List (Int × List UInt8 × Bool × Int)) × Int × List (Int)) (a1 : Int) : Option (((Int × List (List UInt8) × Int × Int) × (List (Int × List UInt8 × Bool × Int)) × Int × List (Int)) × Int) := if (decide ((IntKind.u64.wrap ((a0.1.2.1.length : Int))) ≤ (IntKind.u64.wrap (a1)))) = true then (some (a0, 4)) else ((Q66.f k a0 a1).bind fun r1 => (if (decide (0 ≤ r1)) = true then (if 0 ≤ r1 ∧ r1 < (a0.2.1.length : Int) then ((Q78.f k a0.2.2.2 a1).bind fun r2 => ((Q77.f k (a0.1, a0.2.1, a0.2.2.1, r2) ((gt a0.2.1 r1).1, (gt a0.2.1 r1).2.1, (gt a0.2.1 r1).2.2.1, (w64 (((gt a0.2.1 r1).2.2.2) + 1)))).bind fun r3 => (some (r3, 0)))) else none) else ((Q76.f k a0).bind fun r4 => (if (!r4.2) = true then (some (r4.1, 7)) else ((Q60.f r4.1.1 a1).bind fun r5 => ((Q77.f k (r5.1, r4.1.2.1, r4.1.2.2.1, r4.1.2.2.2) (a1, r5.2.1, false, 1)).bind fun r6 => (some (r6, 0))))))))
theorem Q69.spec {k : Nat} {a0 : (Int × List (List UInt8) × Int × Int) × (List (Int × List UInt8 × Bool × Int)) × Int × List (Int)} {a1 : Int} {A1 : Option Addr} {c_1 : Nat} {A2 : Option Addr} {c_2 : Nat} {A3 : Option Addr} {c_3 : Nat} {r : ((Int × List (List UInt8) × Int × Int) × (List (Int × List UInt8 × Bool × Int)) × Int × List (Int)) × Int} (H : Q69.f k a0 a1 = some r) :
  SpecA Try.prog 110 [.agg #[.int .i64 a0.1.1, .slice A1 a0.1.2.1.length c_1, .int .i64 a0.1.2.2.1, .int .i64 a0.1.2.2.2, .slice A2 a0.2.1.length c_2, .int .i64 a0.2.2.1, .slice A3 a0.2.2.2.length c_3], .int .u32 a1] [] [R9 a0.1.2.1 A1 c_1, Xb a0.2.1 A2 c_2, R23 a0.2.2.2 A3 c_3] (fun v l lr => ∃ (A_0 : Option Addr) (c_0 : Nat) (A_1 : Option Addr) (c_1 : Nat) (A_2 : Option Addr) (c_2 : Nat), v = .tuple #[.agg #[.int .i64 r.1.1.1, .slice A_0 r.1.1.2.1.length c_0, .int .i64 r.1.1.2.2.1, .int .i64 r.1.1.2.2.2, .slice A_1 r.1.2.1.length c_1, .int .i64 r.1.2.2.1, .slice A_2 r.1.2.2.2.length c_2], .int .i64 r.2] ∧ l = [] ∧ lr = [R9 r.1.1.2.1 A_0 c_0, Xb r.1.2.1 A_1 c_1, R23 r.1.2.2.2 A_2 c_2]) := by
 refine Yt Try.func110 fun w0 F0 h0 => ?_
 unfold Q69.f at H
 refine J.seq (J.region ?_)
 refine Ze (Y2 h0) ?_
 rintro _ w1 ⟨b1, rfl, h1⟩
 replace h1 := nf h1
 refine Ze (Ym h1) ?_
 rintro _ w2 ⟨b2, rfl, h2⟩
 replace h2 := nf h2
 refine Zm [1, 2, 4] rfl ?_
 refine J.seq (J.seq (J.region ?_))
 refine Zl 4 ?_
 refine Zg (Za 1 h2.wht) ?_
 refine Zm [1, 2, 4, 19] rfl ?_
 refine jIf H (fun c1 H => ?_) fun c1 H => ?_
 ·refine J.seq (J.region ?_)
  refine Zg (Za 1 h2.wht) ?_
  refine Ze (Zw 0 h2) ?_
  intro _ w3 h3
  replace h3 := nf h3
  refine Zm [4, 5] rfl ?_
  refine J.ret ?_
  cases H
  exact ⟨_, _, _, (Z1 rfl (Z0 (RV.cell Yd 0 h3 rfl rfl rfl rfl) (Z0 (RV.tmp rfl) Yn)) rfl), ⟨_, _, _, _, _, _, rfl, rfl, rfl⟩, sOR h3 [] [0, 1, 2]⟩
 refine J.skip (J.seq (J.region ?_))
 refine Zg (Za 1 h2.wht) ?_
 refine Zl 1 ?_
 obtain ⟨r1, q1, H⟩ := Zp H
 refine Ze (Zk [] (Q66.spec q1) h2 rfl (Zv (Zf 2) (Zv (Zf 3) (Zv (Zf 4) Zu)))) ?_
 rintro _ w4 ⟨_, ⟨rfl, rfl⟩, h4⟩
 replace h4 := nf h4
 refine Zm [1, 2, 4, 6] rfl ?_
 refine J.seq (J.seq (Zb [1, 2, 4, 6, 25] ?_))
 refine jIf H (fun c2 H => ?_) fun c2 H => ?_
 ·refine J.seq (J.region ?_)
  refine Zl 1 ?_
  refine Zg (Za 1 h4.wht) ?_
  refine Zl 1 ?_
  obtain ⟨⟨p1, p2⟩, H⟩ := Zq H
  have e1 := Z3 h4.wh (Zf 3) p1 p2
  refine Zg (Zi e1 p1 p2) ?_
  refine Zg (Zj 0 h4.wht (Zf 3) p1 p2) ?_
  refine Ze (Ym h4) ?_
  rintro _ w5 ⟨b3, rfl, h5⟩
  replace h5 := nf h5
  refine Ze (Zw 0 h5) ?_
  intro _ w6 h6
  replace h6 := nf h6
  refine Zm [1, 2, 4, 7] rfl ?_
  refine J.seq (J.region ?_)
  refine Zl 1 ?_
  refine Zg (Za 0 h6.wht) ?_
  refine Zl 2 ?_
  refine Ze (Zw 0 h6) ?_
  intro _ w7 h7
  replace h7 := nf h7
  refine Zm [1, 2, 4, 7] rfl ?_
  refine J.seq (J.region ?_)
  refine Zl 1 ?_
  refine Zg (Za 2 h7.wht) ?_
  refine Zl 1 ?_
  obtain ⟨r2, q2, H⟩ := Zp H
  refine Ze (Zk [] (Q78.spec q2) h7 rfl (Zv (Zf 5) Zu)) ?_
  rintro _ w8 ⟨_, ⟨A4, c_4, rfl, rfl⟩, h8⟩
  replace h8 := nf h8
  refine Zl 1 ?_
  refine Ze (Zw 3 h8) ?_
  intro _ w9 h9
  replace h9 := nf h9
  refine Zm [2, 4, 7] rfl ?_
  refine J.seq (J.region ?_)
  refine Zg (Za 0 h9.wht) ?_
  refine Zg (Za 2 h9.wht) ?_
  have h10 := h9.freeze (k := 1) rfl Yv
  obtain ⟨r3, q3, H⟩ := Zp H
  refine Ze (Ya [] (Q77.spec q3) h10 rfl (Zv (Zf 1) (Zv (Zf 2) (Zv (Zf 0) Zu)))) ?_
  rintro _ w10 ⟨_, _, ⟨A5, c_5, A6, c_6, A7, c_7, rfl, rfl, rfl⟩, h11⟩
  replace h11 := nf h11
  refine Ze (Zw 3 h11) ?_
  intro _ w11 h12
  replace h12 := nf h12
  refine Zm [4, 5] rfl ?_
  have h13 := Zd h12 [0, 0]
  replace h13 := nf h13
  refine J.ret ?_
  have h14 := h13.freeze (k := 1) rfl Yv
  cases H
  exact ⟨_, _, _, (Z1 rfl (Z0 (RV.cell Yd 0 h14 rfl rfl rfl rfl) (Z0 (RV.tmp rfl) Yn)) rfl), ⟨_, _, _, _, _, _, rfl, rfl, rfl⟩, sOR h14 [] [1, 0, 2]⟩
 refine J.skip (J.seq (J.region ?_))
 refine Zg (Za 1 h4.wht) ?_
 obtain ⟨r4, q4, H⟩ := Zp H
 refine Ze (Ya [] (Q76.spec q4) h4 rfl (Zv (Zf 0) (Zv (Zf 1) (Zv (Zf 2) Zu)))) ?_
 rintro _ w12 ⟨_, _, ⟨A8, c_8, A9, c_9, A10, c_10, rfl, rfl, rfl⟩, h15⟩
 replace h15 := nf h15
 refine Zl 3 ?_
 refine Ze (Zw 1 h15) ?_
 intro _ w13 h16
 replace h16 := nf h16
 refine Zm [1, 2, 4, 8] rfl ?_
 refine J.seq (J.seq (Zb [1, 2, 4, 49] ?_))
 refine jIf H (fun c3 H => ?_) fun c3 H => ?_
 ·refine J.seq (J.region ?_)
  refine Zg (Za 0 h16.wht) ?_
  refine Ze (Zw 1 h16) ?_
  intro _ w14 h17
  replace h17 := nf h17
  refine Zm [4, 5] rfl ?_
  refine J.ret ?_
  cases H
  exact ⟨_, _, _, (Z1 rfl (Z0 (RV.cell Yd 0 h17 rfl rfl rfl rfl) (Z0 (RV.tmp rfl) Yn)) rfl), ⟨_, _, _, _, _, _, rfl, rfl, rfl⟩, sOR h17 [] [0, 1, 2]⟩
 refine J.skip (J.seq (J.region ?_))
 refine Zl 1 ?_
 refine Zg (Za 0 h16.wht) ?_
 refine Zl 1 ?_
 obtain ⟨r5, q5, H⟩ := Zp H
 refine Ze (Ya [] (Q60.spec q5) h16 rfl (Zv (Zf 0) Zu)) ?_
 rintro _ w15 ⟨_, _, ⟨A11, c_11, rfl, rfl, rfl⟩, h18⟩
 replace h18 := nf h18
 refine Zl 4 ?_
 refine Ze (Ym h18) ?_
 rintro _ w16 ⟨b4, rfl, h19⟩
 replace h19 := nf h19
 refine Ze (Zw 0 h19) ?_
 intro _ w17 h20
 replace h20 := nf h20
 refine Zm [1, 2, 4, 9, 10] rfl ?_
 refine J.seq (J.region ?_)
 refine Zg (Za 0 h20.wht) ?_
 refine Zl 1 ?_
 refine Ze (Zw 1 h20) ?_
 intro _ w18 h21
 replace h21 := nf h21
 refine Zm [1, 2, 4, 10] rfl ?_
 refine J.seq (J.region ?_)
 refine Zg (Za 0 h21.wht) ?_
 refine Zl 3 ?_
 obtain ⟨r6, q6, H⟩ := Zp H
 refine Ze (Ya [] (Q77.spec q6) h21 rfl (Zv (Zf 0) (Zv (Zf 2) (Zv (Zf 3) Zu)))) ?_
 rintro _ w19 ⟨_, _, ⟨A12, c_12, A13, c_13, A14, c_14, rfl, rfl, rfl⟩, h22⟩
 replace h22 := nf h22
 refine Ze (Zw 3 h22) ?_
 intro _ w20 h23
 replace h23 := nf h23
 refine Zm [4, 5] rfl ?_
 have h24 := Zd h23 [0, 0]
 replace h24 := nf h24
 refine J.ret ?_
 have h25 := h24.freeze (k := 1) rfl Yv
 cases H
 exact ⟨_, _, _, (Z1 rfl (Z0 (RV.cell Yd 0 h25 rfl rfl rfl rfl) (Z0 (RV.tmp rfl) Yn)) rfl), ⟨_, _, _, _, _, _, rfl, rfl, rfl⟩, sOR h25 [] [1, 0, 2]⟩

def Q68.f (k : Nat) (a0 : (Int × List (List UInt8) × Int × Int) × (List (Int × List UInt8 × Bool × Int)) × Int × List (Int)) (a1 : Int) : Option (((Int × List (List UInt8) × Int × Int) × (List (Int × List UInt8 × Bool × Int)) × Int × List (Int)) × Int) := if (decide ((IntKind.u64.wrap ((a0.1.2.1.length : Int))) ≤ (IntKind.u64.wrap (a1)))) = true then (some (a0, 4)) else ((Q66.f k a0 a1).bind fun r1 => (if (decide (0 ≤ r1)) = true then (if 0 ≤ r1 ∧ r1 < (a0.2.1.length : Int) then (if (decide (0 < ((gt a0.2.1 r1).2.2.2))) = true then (some (a0, 8)) else (if (decide (r1 < 0)) = true then ((Q76.f k a0).bind fun r2 => (if (!r2.2) = true then (some (a0, 7)) else ((Q78.f k r2.1.2.2.2 a1).bind fun r3 => (if 0 ≤ r2.1.1.1 ∧ r2.1.1.1 * 1 ≤ 281474976710656 then ((Q77.f k (r2.1.1, r2.1.2.1, r2.1.2.2.1, r3) (a1, (toS (List.replicate r2.1.1.1.toNat (0 : Int))), true, 1)).bind fun r4 => (some (r4, 0))) else none)))) else ((Q78.f k a0.2.2.2 a1).bind fun r5 => (if 0 ≤ a0.1.1 ∧ a0.1.1 * 1 ≤ 281474976710656 then ((Q77.f k (a0.1, a0.2.1, a0.2.2.1, r5) (a1, (toS (List.replicate a0.1.1.toNat (0 : Int))), true, 1)).bind fun r6 => (some (r6, 0))) else none)))) else none) else (if (decide (r1 < 0)) = true then ((Q76.f k a0).bind fun r7 => (if (!r7.2) = true then (some (a0, 7)) else ((Q78.f k r7.1.2.2.2 a1).bind fun r8 => (if 0 ≤ r7.1.1.1 ∧ r7.1.1.1 * 1 ≤ 281474976710656 then ((Q77.f k (r7.1.1, r7.1.2.1, r7.1.2.2.1, r8) (a1, (toS (List.replicate r7.1.1.1.toNat (0 : Int))), true, 1)).bind fun r9 => (some (r9, 0))) else none)))) else ((Q78.f k a0.2.2.2 a1).bind fun r10 => (if 0 ≤ a0.1.1 ∧ a0.1.1 * 1 ≤ 281474976710656 then ((Q77.f k (a0.1, a0.2.1, a0.2.2.1, r10) (a1, (toS (List.replicate a0.1.1.toNat (0 : Int))), true, 1)).bind fun r11 => (some (r11, 0))) else none)))))
theorem Q68.spec {k : Nat} {a0 : (Int × List (List UInt8) × Int × Int) × (List (Int × List UInt8 × Bool × Int)) × Int × List (Int)} {a1 : Int} {A1 : Option Addr} {c_1 : Nat} {A2 : Option Addr} {c_2 : Nat} {A3 : Option Addr} {c_3 : Nat} {r : ((Int × List (List UInt8) × Int × Int) × (List (Int × List UInt8 × Bool × Int)) × Int × List (Int)) × Int} (H : Q68.f k a0 a1 = some r) :
  SpecA Try.prog 111 [.agg #[.int .i64 a0.1.1, .slice A1 a0.1.2.1.length c_1, .int .i64 a0.1.2.2.1, .int .i64 a0.1.2.2.2, .slice A2 a0.2.1.length c_2, .int .i64 a0.2.2.1, .slice A3 a0.2.2.2.length c_3], .int .u32 a1] [] [R9 a0.1.2.1 A1 c_1, Xb a0.2.1 A2 c_2, R23 a0.2.2.2 A3 c_3] (fun v l lr => ∃ (A_0 : Option Addr) (c_0 : Nat) (A_1 : Option Addr) (c_1 : Nat) (A_2 : Option Addr) (c_2 : Nat), v = .tuple #[.agg #[.int .i64 r.1.1.1, .slice A_0 r.1.1.2.1.length c_0, .int .i64 r.1.1.2.2.1, .int .i64 r.1.1.2.2.2, .slice A_1 r.1.2.1.length c_1, .int .i64 r.1.2.2.1, .slice A_2 r.1.2.2.2.length c_2], .int .i64 r.2] ∧ l = [] ∧ lr = [R9 r.1.1.2.1 A_0 c_0, Xb r.1.2.1 A_1 c_1, R23 r.1.2.2.2 A_2 c_2]) := by
 refine Yt Try.func111 fun w0 F0 h0 => ?_
 unfold Q68.f at H
 refine J.seq (J.region ?_)
 refine Ze (Y2 h0) ?_
 rintro _ w1 ⟨b1, rfl, h1⟩
 replace h1 := nf h1
 refine Ze (Ym h1) ?_
 rintro _ w2 ⟨b2, rfl, h2⟩
 replace h2 := nf h2
 refine Zm [1, 2, 4] rfl ?_
 refine J.seq (J.seq (J.region ?_))
 refine Zl 4 ?_
 refine Zg (Za 1 h2.wht) ?_
 refine Zm [1, 2, 4, 16] rfl ?_
 refine jIf H (fun c1 H => ?_) fun c1 H => ?_
 ·refine J.seq (J.region ?_)
  refine Zg (Za 1 h2.wht) ?_
  refine Ze (Zw 0 h2) ?_
  intro _ w3 h3
  replace h3 := nf h3
  refine Zm [4, 5] rfl ?_
  refine J.ret ?_
  cases H
  exact ⟨_, _, _, (Z1 rfl (Z0 (RV.cell Yd 0 h3 rfl rfl rfl rfl) (Z0 (RV.tmp rfl) Yn)) rfl), ⟨_, _, _, _, _, _, rfl, rfl, rfl⟩, sOR h3 [] [0, 1, 2]⟩
 refine J.skip (J.seq (J.region ?_))
 refine Zg (Za 1 h2.wht) ?_
 refine Zl 1 ?_
 obtain ⟨r1, q1, H⟩ := Zp H
 refine Ze (Zk [] (Q66.spec q1) h2 rfl (Zv (Zf 2) (Zv (Zf 3) (Zv (Zf 4) Zu)))) ?_
 rintro _ w4 ⟨_, ⟨rfl, rfl⟩, h4⟩
 replace h4 := nf h4
 refine Zm [1, 2, 4, 6] rfl ?_
 refine J.seq (J.seq (J.region ?_))
 refine Zl 3 ?_
 refine Xq 23 H (fun c2 H => ?_) fun c2 H => ?_
 ·refine Zl 1 ?_
  refine Zg (Za 1 h4.wht) ?_
  refine Zl 1 ?_
  obtain ⟨⟨p1, p2⟩, H⟩ := Zq H
  have e1 := Z3 h4.wh (Zf 3) p1 p2
  refine Zg (Zi e1 p1 p2) ?_
  refine Zl 1 ?_
  refine Zg (Zj 3 h4.wht (Zf 3) p1 p2) ?_
  refine Zm [1, 2, 4, 6, 31] rfl ?_
  refine jIf H (fun c3 H => ?_) fun c3 H => ?_
  ·refine J.seq (J.region ?_)
   refine Zg (Za 1 h4.wht) ?_
   refine Ze (Zw 0 h4) ?_
   intro _ w5 h5
   replace h5 := nf h5
   refine Zm [4, 5] rfl ?_
   refine J.ret ?_
   cases H
   exact ⟨_, _, _, (Z1 rfl (Z0 (RV.cell Yd 0 h5 rfl rfl rfl rfl) (Z0 (RV.tmp rfl) Yn)) rfl), ⟨_, _, _, _, _, _, rfl, rfl, rfl⟩, sOR h5 [] [0, 1, 2]⟩
  refine J.skip (J.seq (J.seq (Zb [1, 2, 4, 34] ?_)))
  refine jIf H (fun c4 H => ?_) fun c4 H => ?_
  ·refine J.seq (J.region ?_)
   refine Zg (Za 1 h4.wht) ?_
   obtain ⟨r2, q2, H⟩ := Zp H
   refine Ze (Ya [] (Q76.spec q2) h4 rfl (Zv (Zf 0) (Zv (Zf 1) (Zv (Zf 2) Zu)))) ?_
   rintro _ w6 ⟨_, _, ⟨A4, c_4, A5, c_5, A6, c_6, rfl, rfl, rfl⟩, h6⟩
   replace h6 := nf h6
   refine Zl 3 ?_
   refine Ze (Ym h6) ?_
   rintro _ w7 ⟨b3, rfl, h7⟩
   replace h7 := nf h7
   refine Ze (Zw 0 h7) ?_
   intro _ w8 h8
   replace h8 := nf h8
   refine Zm [1, 2, 4, 7, 8] rfl ?_
   refine J.seq (J.seq (Zb [1, 2, 4, 7, 41] ?_))
   refine jIf H (fun c5 H => ?_) fun c5 H => ?_
   ·refine J.seq (J.region ?_)
    refine Zg (Za 2 h8.wht) ?_
    refine Ze (Zw 1 h8) ?_
    intro _ w9 h9
    replace h9 := nf h9
    refine Zm [4, 5] rfl ?_
    have h10 := Zd h9 [0]
    replace h10 := nf h10
    refine J.ret ?_
    cases H
    exact ⟨_, _, _, (Z1 rfl (Z0 (RV.cell Yd 0 h10 rfl rfl rfl rfl) (Z0 (RV.tmp rfl) Yn)) rfl), ⟨_, _, _, _, _, _, rfl, rfl, rfl⟩, sOR h10 [] [3, 4, 5]⟩
   refine J.skip (J.region (Zg (Za 0 h8.wht) ?_))
   refine Ze (Zw 2 h8) ?_
   intro _ w10 h11
   replace h11 := nf h11
   refine Zm [1, 2, 4] rfl ?_
   refine J.seq (J.region ?_)
   refine Zl 1 ?_
   refine Zg (Za 0 h11.wht) ?_
   refine Zl 1 ?_
   obtain ⟨r3, q3, H⟩ := Zp H
   refine Ze (Zk [] (Q78.spec q3) h11 rfl (Zv (Zf 5) Zu)) ?_
   rintro _ w11 ⟨_, ⟨A7, c_7, rfl, rfl⟩, h12⟩
   replace h12 := nf h12
   refine Zl 1 ?_
   refine Ze (Zw 1 h12) ?_
   intro _ w12 h13
   replace h13 := nf h13
   refine Zm [1, 2, 4] rfl ?_
   refine J.seq ?_
   have h14 := h13.freeze (k := 1) rfl Yv
   refine Zs (Zd h14 [0, 0]) ?_
   have h15 := h14.drew
   refine Zx [1, 2, 3] ?_
   refine Zh 0 rfl (Za 0 wI) ?_
   refine Zh 4 rfl (Za 0 wI) ?_
   obtain ⟨⟨p3, p4⟩, H⟩ := Zq H
   refine Zn 5 rfl (Wc Yd (ty := (.int .u8)) rfl (0 : Int) rfl rfl rfl rfl rfl rfl rfl (by decide) h15 p3 p4) ?_
   rintro _ w13 ⟨b4, rfl, h16⟩
   replace h16 := nf h16
   refine ⟨⟨[_, _], (Zd h16 [0, 2, 0, 0])⟩, ?_⟩
   refine HJ.more ⟨[_], (Zd h16 [3, 0, 0, 0])⟩ ?_
   refine Zh 6 rfl (Xk wI (gO 0)) ?_
   refine Zx [7] ?_
   obtain ⟨r4, q4, H⟩ := Zp H
   refine Zn 8 rfl (Ya [] (Q77.spec q4) h16 rfl (Zv (Zf 1) (Zv (Zf 2) (Zv (Zf 0) Zu)))) ?_
   rintro _ w14 ⟨_, _, ⟨A8, c_8, A9, c_9, A10, c_10, rfl, rfl, rfl⟩, h17⟩
   replace h17 := nf h17
   refine ⟨⟨[_, _], (sOR h17 [0, 3, 0, 0, 0] [2, 3, 4, 5, 6, 7, 8])⟩, ?_⟩
   refine Zn 9 rfl (Zw 4 h17) ?_
   intro _ w15 h18
   replace h18 := nf h18
   refine ⟨⟨[_, _], (Xv h18 [2, 3, 4, 5, 6, 7, 8])⟩, ?_⟩
   refine Zx [10] ?_
   refine Z2 [4, 5] ?_
   have h19 := Zd h18 [0, 0]
   replace h19 := nf h19
   refine J.ret ?_
   have h20 := h19.freeze (k := 1) rfl Yv
   cases H
   exact ⟨_, _, _, (Z1 rfl (Z0 (RV.cell Yd 0 h20 rfl rfl rfl rfl) (Z0 (RV.tmp rfl) Yn)) rfl), ⟨_, _, _, _, _, _, rfl, rfl, rfl⟩, sOR h20 [] [1, 0, 2]⟩
  refine J.skip (J.seq (J.region ?_))
  refine Zl 1 ?_
  refine Zg (Za 1 h4.wht) ?_
  refine Zl 1 ?_
  obtain ⟨r5, q5, H⟩ := Zp H
  refine Ze (Zk [] (Q78.spec q5) h4 rfl (Zv (Zf 4) Zu)) ?_
  rintro _ w16 ⟨_, ⟨A11, c_11, rfl, rfl⟩, h21⟩
  replace h21 := nf h21
  refine Zl 1 ?_
  refine Ze (Zw 2 h21) ?_
  intro _ w17 h22
  replace h22 := nf h22
  refine Zm [1, 2, 4] rfl ?_
  refine J.seq ?_
  have h23 := h22.freeze (k := 1) rfl Yv
  refine Zs (Zd h23 [0]) ?_
  have h24 := h23.drew
  refine Zx [1, 2, 3] ?_
  refine Zh 0 rfl (Za 0 wI) ?_
  refine Zh 4 rfl (Za 0 wI) ?_
  obtain ⟨⟨p5, p6⟩, H⟩ := Zq H
  refine Zn 5 rfl (Wc Yd (ty := (.int .u8)) rfl (0 : Int) rfl rfl rfl rfl rfl rfl rfl (by decide) h24 p5 p6) ?_
  rintro _ w18 ⟨b5, rfl, h25⟩
  replace h25 := nf h25
  refine ⟨⟨[_, _], (Zd h25 [0, 1, 0])⟩, ?_⟩
  refine HJ.more ⟨[_], (Zd h25 [2, 0, 0])⟩ ?_
  refine Zh 6 rfl (Xk wI (gO 0)) ?_
  refine Zx [7] ?_
  obtain ⟨r6, q6, H⟩ := Zp H
  refine Zn 8 rfl (Ya [] (Q77.spec q6) h25 rfl (Zv (Zf 1) (Zv (Zf 2) (Zv (Zf 0) Zu)))) ?_
  rintro _ w19 ⟨_, _, ⟨A12, c_12, A13, c_13, A14, c_14, rfl, rfl, rfl⟩, h26⟩
  replace h26 := nf h26
  refine ⟨⟨[_, _], (sOR h26 [0, 2, 0, 0] [2, 3, 4, 5])⟩, ?_⟩
  refine Zn 9 rfl (Zw 3 h26) ?_
  intro _ w20 h27
  replace h27 := nf h27
  refine ⟨⟨[_, _], (Xv h27 [2, 3, 4, 5])⟩, ?_⟩
  refine Zx [10] ?_
  refine Z2 [4, 5] ?_
  have h28 := Zd h27 [0, 0]
  replace h28 := nf h28
  refine J.ret ?_
  have h29 := h28.freeze (k := 1) rfl Yv
  cases H
  exact ⟨_, _, _, (Z1 rfl (Z0 (RV.cell Yd 0 h29 rfl rfl rfl rfl) (Z0 (RV.tmp rfl) Yn)) rfl), ⟨_, _, _, _, _, _, rfl, rfl, rfl⟩, sOR h29 [] [1, 0, 2]⟩
 refine Zm [1, 2, 4, 6, 31] rfl ?_
 refine Z7 ?_
 refine J.skip (J.seq (J.seq (Zb [1, 2, 4, 34] ?_)))
 refine jIf H (fun c6 H => ?_) fun c6 H => ?_
 ·refine J.seq (J.region ?_)
  refine Zg (Za 1 h4.wht) ?_
  obtain ⟨r7, q7, H⟩ := Zp H
  refine Ze (Ya [] (Q76.spec q7) h4 rfl (Zv (Zf 0) (Zv (Zf 1) (Zv (Zf 2) Zu)))) ?_
  rintro _ w21 ⟨_, _, ⟨A15, c_15, A16, c_16, A17, c_17, rfl, rfl, rfl⟩, h30⟩
  replace h30 := nf h30
  refine Zl 3 ?_
  refine Ze (Ym h30) ?_
  rintro _ w22 ⟨b6, rfl, h31⟩
  replace h31 := nf h31
  refine Ze (Zw 0 h31) ?_
  intro _ w23 h32
  replace h32 := nf h32
  refine Zm [1, 2, 4, 7, 8] rfl ?_
  refine J.seq (J.seq (Zb [1, 2, 4, 7, 41] ?_))
  refine jIf H (fun c7 H => ?_) fun c7 H => ?_
  ·refine J.seq (J.region ?_)
   refine Zg (Za 2 h32.wht) ?_
   refine Ze (Zw 1 h32) ?_
   intro _ w24 h33
   replace h33 := nf h33
   refine Zm [4, 5] rfl ?_
   have h34 := Zd h33 [0]
   replace h34 := nf h34
   refine J.ret ?_
   cases H
   exact ⟨_, _, _, (Z1 rfl (Z0 (RV.cell Yd 0 h34 rfl rfl rfl rfl) (Z0 (RV.tmp rfl) Yn)) rfl), ⟨_, _, _, _, _, _, rfl, rfl, rfl⟩, sOR h34 [] [3, 4, 5]⟩
  refine J.skip (J.region (Zg (Za 0 h32.wht) ?_))
  refine Ze (Zw 2 h32) ?_
  intro _ w25 h35
  replace h35 := nf h35
  refine Zm [1, 2, 4] rfl ?_
  refine J.seq (J.region ?_)
  refine Zl 1 ?_
  refine Zg (Za 0 h35.wht) ?_
  refine Zl 1 ?_
  obtain ⟨r8, q8, H⟩ := Zp H
  refine Ze (Zk [] (Q78.spec q8) h35 rfl (Zv (Zf 5) Zu)) ?_
  rintro _ w26 ⟨_, ⟨A18, c_18, rfl, rfl⟩, h36⟩
  replace h36 := nf h36
  refine Zl 1 ?_
  refine Ze (Zw 1 h36) ?_
  intro _ w27 h37
  replace h37 := nf h37
  refine Zm [1, 2, 4] rfl ?_
  refine J.seq ?_
  have h38 := h37.freeze (k := 1) rfl Yv
  refine Zs (Zd h38 [0, 0]) ?_
  have h39 := h38.drew
  refine Zx [1, 2, 3] ?_
  refine Zh 0 rfl (Za 0 wI) ?_
  refine Zh 4 rfl (Za 0 wI) ?_
  obtain ⟨⟨p7, p8⟩, H⟩ := Zq H
  refine Zn 5 rfl (Wc Yd (ty := (.int .u8)) rfl (0 : Int) rfl rfl rfl rfl rfl rfl rfl (by decide) h39 p7 p8) ?_
  rintro _ w28 ⟨b7, rfl, h40⟩
  replace h40 := nf h40
  refine ⟨⟨[_, _], (Zd h40 [0, 2, 0, 0])⟩, ?_⟩
  refine HJ.more ⟨[_], (Zd h40 [3, 0, 0, 0])⟩ ?_
  refine Zh 6 rfl (Xk wI (gO 0)) ?_
  refine Zx [7] ?_
  obtain ⟨r9, q9, H⟩ := Zp H
  refine Zn 8 rfl (Ya [] (Q77.spec q9) h40 rfl (Zv (Zf 1) (Zv (Zf 2) (Zv (Zf 0) Zu)))) ?_
  rintro _ w29 ⟨_, _, ⟨A19, c_19, A20, c_20, A21, c_21, rfl, rfl, rfl⟩, h41⟩
  replace h41 := nf h41
  refine ⟨⟨[_, _], (sOR h41 [0, 3, 0, 0, 0] [2, 3, 4, 5, 6, 7, 8])⟩, ?_⟩
  refine Zn 9 rfl (Zw 4 h41) ?_
  intro _ w30 h42
  replace h42 := nf h42
  refine ⟨⟨[_, _], (Xv h42 [2, 3, 4, 5, 6, 7, 8])⟩, ?_⟩
  refine Zx [10] ?_
  refine Z2 [4, 5] ?_
  have h43 := Zd h42 [0, 0]
  replace h43 := nf h43
  refine J.ret ?_
  have h44 := h43.freeze (k := 1) rfl Yv
  cases H
  exact ⟨_, _, _, (Z1 rfl (Z0 (RV.cell Yd 0 h44 rfl rfl rfl rfl) (Z0 (RV.tmp rfl) Yn)) rfl), ⟨_, _, _, _, _, _, rfl, rfl, rfl⟩, sOR h44 [] [1, 0, 2]⟩
 refine J.skip (J.seq (J.region ?_))
 refine Zl 1 ?_
 refine Zg (Za 1 h4.wht) ?_
 refine Zl 1 ?_
 obtain ⟨r10, q10, H⟩ := Zp H
 refine Ze (Zk [] (Q78.spec q10) h4 rfl (Zv (Zf 4) Zu)) ?_
 rintro _ w31 ⟨_, ⟨A22, c_22, rfl, rfl⟩, h45⟩
 replace h45 := nf h45
 refine Zl 1 ?_
 refine Ze (Zw 2 h45) ?_
 intro _ w32 h46
 replace h46 := nf h46
 refine Zm [1, 2, 4] rfl ?_
 refine J.seq ?_
 have h47 := h46.freeze (k := 1) rfl Yv
 refine Zs (Zd h47 [0]) ?_
 have h48 := h47.drew
 refine Zx [1, 2, 3] ?_
 refine Zh 0 rfl (Za 0 wI) ?_
 refine Zh 4 rfl (Za 0 wI) ?_
 obtain ⟨⟨p9, p10⟩, H⟩ := Zq H
 refine Zn 5 rfl (Wc Yd (ty := (.int .u8)) rfl (0 : Int) rfl rfl rfl rfl rfl rfl rfl (by decide) h48 p9 p10) ?_
 rintro _ w33 ⟨b8, rfl, h49⟩
 replace h49 := nf h49
 refine ⟨⟨[_, _], (Zd h49 [0, 1, 0])⟩, ?_⟩
 refine HJ.more ⟨[_], (Zd h49 [2, 0, 0])⟩ ?_
 refine Zh 6 rfl (Xk wI (gO 0)) ?_
 refine Zx [7] ?_
 obtain ⟨r11, q11, H⟩ := Zp H
 refine Zn 8 rfl (Ya [] (Q77.spec q11) h49 rfl (Zv (Zf 1) (Zv (Zf 2) (Zv (Zf 0) Zu)))) ?_
 rintro _ w34 ⟨_, _, ⟨A23, c_23, A24, c_24, A25, c_25, rfl, rfl, rfl⟩, h50⟩
 replace h50 := nf h50
 refine ⟨⟨[_, _], (sOR h50 [0, 2, 0, 0] [2, 3, 4, 5])⟩, ?_⟩
 refine Zn 9 rfl (Zw 3 h50) ?_
 intro _ w35 h51
 replace h51 := nf h51
 refine ⟨⟨[_, _], (Xv h51 [2, 3, 4, 5])⟩, ?_⟩
 refine Zx [10] ?_
 refine Z2 [4, 5] ?_
 have h52 := Zd h51 [0, 0]
 replace h52 := nf h52
 refine J.ret ?_
 have h53 := h52.freeze (k := 1) rfl Yv
 cases H
 exact ⟨_, _, _, (Z1 rfl (Z0 (RV.cell Yd 0 h53 rfl rfl rfl rfl) (Z0 (RV.tmp rfl) Yn)) rfl), ⟨_, _, _, _, _, _, rfl, rfl, rfl⟩, sOR h53 [] [1, 0, 2]⟩

def Q70.f (k : Nat) (a0 : (Int × List (List UInt8) × Int × Int) × (List (Int × List UInt8 × Bool × Int)) × Int × List (Int)) (a1 : Int) : Option (Int) := (Q66.f k a0 a1).bind fun r1 => (if (decide (0 ≤ r1)) = true then (if 0 ≤ r1 ∧ r1 < (a0.2.1.length : Int) then (if (decide (((gt a0.2.1 r1).2.2.2) = 0)) = true then (some (-1)) else (some r1)) else none) else (some r1))
theorem Q70.spec {k : Nat} {a0 : (Int × List (List UInt8) × Int × Int) × (List (Int × List UInt8 × Bool × Int)) × Int × List (Int)} {a1 : Int} {A1 : Option Addr} {c_1 : Nat} {A2 : Option Addr} {c_2 : Nat} {A3 : Option Addr} {c_3 : Nat} {r : Int} (H : Q70.f k a0 a1 = some r) :
  Spec Try.prog 116 [.agg #[.int .i64 a0.1.1, .slice A1 a0.1.2.1.length c_1, .int .i64 a0.1.2.2.1, .int .i64 a0.1.2.2.2, .slice A2 a0.2.1.length c_2, .int .i64 a0.2.2.1, .slice A3 a0.2.2.2.length c_3], .int .u32 a1] [] [R9 a0.1.2.1 A1 c_1, Xb a0.2.1 A2 c_2, R23 a0.2.2.2 A3 c_3] (fun v l => v = .int .i64 r ∧ l = []) := by
 refine Zr Try.func116 fun w0 F0 h0 => ?_
 unfold Q70.f at H
 refine J.seq (J.region ?_)
 refine Ze (Y2 h0) ?_
 rintro _ w1 ⟨b1, rfl, h1⟩
 replace h1 := nf h1
 refine Zm [1, 2] rfl ?_
 refine J.seq (J.region ?_)
 refine Zg (Za 0 h1.wht) ?_
 refine Zl 1 ?_
 obtain ⟨r1, q1, H⟩ := Zp H
 refine Ze (Zk [] (Q66.spec q1) h1 rfl (Zv (Zf 1) (Zv (Zf 2) (Zv (Zf 3) Zu)))) ?_
 rintro _ w2 ⟨_, ⟨rfl, rfl⟩, h2⟩
 replace h2 := nf h2
 refine Zm [2, 5] rfl ?_
 refine J.seq (J.seq (J.region ?_))
 refine Zl 3 ?_
 refine Xq 11 H (fun c1 H => ?_) fun c1 H => ?_
 ·refine Zl 1 ?_
  refine Zg (Za 0 h2.wht) ?_
  refine Zl 1 ?_
  obtain ⟨⟨p1, p2⟩, H⟩ := Zq H
  have e1 := Z3 h2.wh (Zf 2) p1 p2
  refine Zg (Zi e1 p1 p2) ?_
  refine Zl 1 ?_
  refine Zg (Zj 3 h2.wht (Zf 2) p1 p2) ?_
  refine Zm [5, 19] rfl ?_
  refine jIf H (fun c2 H => ?_) fun c2 H => ?_
  ·refine J.seq (Zb [4] ?_)
   refine J.ret ?_
   cases H
   exact ⟨_, _, _, Zc, ⟨rfl, rfl⟩, Zd h2 []⟩
  refine J.skip (J.seq (Zb [4] ?_))
  refine J.ret ?_
  cases H
  exact ⟨_, _, _, Zc, ⟨rfl, rfl⟩, Zd h2 []⟩
 refine Zm [5, 19] rfl ?_
 refine Z7 ?_
 refine J.skip (J.seq (Zb [4] ?_))
 refine J.ret ?_
 cases H
 exact ⟨_, _, _, Zc, ⟨rfl, rfl⟩, Zd h2 []⟩

def Q73.f (k : Nat) (a0 : (Int × List (List UInt8) × Int × Int) × (List (Int × List UInt8 × Bool × Int)) × Int × List (Int)) (a1 : Int) : Option (((Int × List (List UInt8) × Int × Int) × (List (Int × List UInt8 × Bool × Int)) × Int × List (Int)) × Int) := (Q70.f k a0 a1).bind fun r1 => (if (decide (r1 < 0)) = true then (some (a0, 8)) else (if 0 ≤ r1 ∧ r1 < (a0.2.1.length : Int) then (if (decide ((w64 (((gt a0.2.1 r1).2.2.2) - 1)) = 0)) = true then (if (([a1] : List (Int)).length + a0.2.2.2.length) * 4 ≤ 140737488355328 then ((Q77.f k (a0.1, a0.2.1, a0.2.2.1, (([a1] : List (Int)) ++ a0.2.2.2)) ((gt a0.2.1 r1).1, (gt a0.2.1 r1).2.1, (gt a0.2.1 r1).2.2.1, (w64 (((gt a0.2.1 r1).2.2.2) - 1)))).bind fun r2 => (some (r2, 0))) else none) else ((Q77.f k a0 ((gt a0.2.1 r1).1, (gt a0.2.1 r1).2.1, (gt a0.2.1 r1).2.2.1, (w64 (((gt a0.2.1 r1).2.2.2) - 1)))).bind fun r3 => (some (r3, 0)))) else none))
theorem Q73.spec {k : Nat} {a0 : (Int × List (List UInt8) × Int × Int) × (List (Int × List UInt8 × Bool × Int)) × Int × List (Int)} {a1 : Int} {A1 : Option Addr} {c_1 : Nat} {A2 : Option Addr} {c_2 : Nat} {A3 : Option Addr} {c_3 : Nat} {r : ((Int × List (List UInt8) × Int × Int) × (List (Int × List UInt8 × Bool × Int)) × Int × List (Int)) × Int} (H : Q73.f k a0 a1 = some r) :
  SpecA Try.prog 112 [.agg #[.int .i64 a0.1.1, .slice A1 a0.1.2.1.length c_1, .int .i64 a0.1.2.2.1, .int .i64 a0.1.2.2.2, .slice A2 a0.2.1.length c_2, .int .i64 a0.2.2.1, .slice A3 a0.2.2.2.length c_3], .int .u32 a1] [] [R9 a0.1.2.1 A1 c_1, Xb a0.2.1 A2 c_2, R23 a0.2.2.2 A3 c_3] (fun v l lr => ∃ (A_0 : Option Addr) (c_0 : Nat) (A_1 : Option Addr) (c_1 : Nat) (A_2 : Option Addr) (c_2 : Nat), v = .tuple #[.agg #[.int .i64 r.1.1.1, .slice A_0 r.1.1.2.1.length c_0, .int .i64 r.1.1.2.2.1, .int .i64 r.1.1.2.2.2, .slice A_1 r.1.2.1.length c_1, .int .i64 r.1.2.2.1, .slice A_2 r.1.2.2.2.length c_2], .int .i64 r.2] ∧ l = [] ∧ lr = [R9 r.1.1.2.1 A_0 c_0, Xb r.1.2.1 A_1 c_1, R23 r.1.2.2.2 A_2 c_2]) := by
 refine Yt Try.func112 fun w0 F0 h0 => ?_
 unfold Q73.f at H
 refine J.seq (J.region ?_)
 refine Ze (Y2 h0) ?_
 rintro _ w1 ⟨b1, rfl, h1⟩
 replace h1 := nf h1
 refine Ze (Ym h1) ?_
 rintro _ w2 ⟨b2, rfl, h2⟩
 replace h2 := nf h2
 refine Zm [1, 2, 4] rfl ?_
 refine J.seq (J.region ?_)
 refine Zg (Za 1 h2.wht) ?_
 refine Zl 1 ?_
 obtain ⟨r1, q1, H⟩ := Zp H
 refine Ze (Zk [] (Q70.spec q1) h2 rfl (Zv (Zf 2) (Zv (Zf 3) (Zv (Zf 4) Zu)))) ?_
 rintro _ w3 ⟨_, ⟨rfl, rfl⟩, h3⟩
 replace h3 := nf h3
 refine Zm [1, 2, 4, 6] rfl ?_
 refine J.seq (J.seq (Zb [1, 2, 4, 6, 12] ?_))
 refine jIf H (fun c1 H => ?_) fun c1 H => ?_
 ·refine J.seq (J.region ?_)
  refine Zg (Za 1 h3.wht) ?_
  refine Ze (Zw 0 h3) ?_
  intro _ w4 h4
  replace h4 := nf h4
  refine Zm [4, 5] rfl ?_
  refine J.ret ?_
  cases H
  exact ⟨_, _, _, (Z1 rfl (Z0 (RV.cell Yd 0 h4 rfl rfl rfl rfl) (Z0 (RV.tmp rfl) Yn)) rfl), ⟨_, _, _, _, _, _, rfl, rfl, rfl⟩, sOR h4 [] [0, 1, 2]⟩
 refine J.skip (J.seq (J.region ?_))
 refine Zl 1 ?_
 refine Zg (Za 1 h3.wht) ?_
 refine Zl 1 ?_
 obtain ⟨⟨p1, p2⟩, H⟩ := Zq H
 have e1 := Z3 h3.wh (Zf 3) p1 p2
 refine Zg (Zi e1 p1 p2) ?_
 refine Zg (Zj 0 h3.wht (Zf 3) p1 p2) ?_
 refine Ze (Ym h3) ?_
 rintro _ w5 ⟨b3, rfl, h5⟩
 replace h5 := nf h5
 refine Ze (Zw 0 h5) ?_
 intro _ w6 h6
 replace h6 := nf h6
 refine Zm [1, 2, 4, 7] rfl ?_
 refine J.seq (J.region ?_)
 refine Zl 1 ?_
 refine Zg (Za 0 h6.wht) ?_
 refine Zl 2 ?_
 refine Ze (Zw 0 h6) ?_
 intro _ w7 h7
 replace h7 := nf h7
 refine Zm [1, 2, 4, 7] rfl ?_
 refine J.seq (J.seq (J.region ?_))
 refine Zl 1 ?_
 refine Zg (Za 0 h7.wht) ?_
 refine Zm [1, 2, 4, 7, 25] rfl ?_
 refine jIf H (fun c2 H => ?_) fun c2 H => ?_
 ·refine J.region (Zl 1 ?_)
  refine Ze (Ys (.int .u32) ([a1] : List (Int)) h7) ?_
  rintro _ w8 ⟨b4, rfl, h8⟩
  replace h8 := nf h8
  refine Zl 1 ?_
  refine Zg (Za 3 h8.wht) ?_
  obtain ⟨p3, H⟩ := Zq H
  refine Ze (Yq 0 h8 (Zf 5) p3) ?_
  rintro _ w9 ⟨A4, c_4, rfl, h9⟩
  replace h9 := nf h9
  refine Zl 1 ?_
  refine Ze (Zw 3 h9) ?_
  intro _ w10 h10
  replace h10 := nf h10
  refine Zm [2, 4, 7] rfl ?_
  refine J.seq (J.region ?_)
  refine Zg (Za 0 h10.wht) ?_
  refine Zg (Za 2 h10.wht) ?_
  have h11 := h10.freeze (k := 1) rfl Yv
  obtain ⟨r2, q2, H⟩ := Zp H
  refine Ze (Ya [] (Q77.spec q2) h11 rfl (Zv (Zf 1) (Zv (Zf 2) (Zv (Zf 0) Zu)))) ?_
  rintro _ w11 ⟨_, _, ⟨A5, c_5, A6, c_6, A7, c_7, rfl, rfl, rfl⟩, h12⟩
  replace h12 := nf h12
  refine Ze (Zw 3 h12) ?_
  intro _ w12 h13
  replace h13 := nf h13
  refine Zm [4, 5] rfl ?_
  have h14 := Zd h13 [0, 0]
  replace h14 := nf h14
  refine J.ret ?_
  have h15 := h14.freeze (k := 1) rfl Yv
  cases H
  exact ⟨_, _, _, (Z1 rfl (Z0 (RV.cell Yd 0 h15 rfl rfl rfl rfl) (Z0 (RV.tmp rfl) Yn)) rfl), ⟨_, _, _, _, _, _, rfl, rfl, rfl⟩, sOR h15 [] [1, 0, 2]⟩
 refine J.skip (J.seq (J.region ?_))
 refine Zg (Za 2 h7.wht) ?_
 refine Zg (Za 0 h7.wht) ?_
 obtain ⟨r3, q3, H⟩ := Zp H
 refine Ze (Ya [] (Q77.spec q3) h7 rfl (Zv (Zf 0) (Zv (Zf 1) (Zv (Zf 2) Zu)))) ?_
 rintro _ w13 ⟨_, _, ⟨A8, c_8, A9, c_9, A10, c_10, rfl, rfl, rfl⟩, h16⟩
 replace h16 := nf h16
 refine Ze (Zw 2 h16) ?_
 intro _ w14 h17
 replace h17 := nf h17
 refine Zm [4, 5] rfl ?_
 have h18 := Zd h17 [0, 0]
 replace h18 := nf h18
 refine J.ret ?_
 have h19 := h18.freeze (k := 1) rfl Yv
 cases H
 exact ⟨_, _, _, (Z1 rfl (Z0 (RV.cell Yd 0 h19 rfl rfl rfl rfl) (Z0 (RV.tmp rfl) Yn)) rfl), ⟨_, _, _, _, _, _, rfl, rfl, rfl⟩, sOR h19 [] [1, 0, 2]⟩

def Q74.f (k : Nat) (a0 : (Int × List (List UInt8) × Int × Int) × (List (Int × List UInt8 × Bool × Int)) × Int × List (Int)) (a1 : Int) (a2 : List UInt8) : Option (((Int × List (List UInt8) × Int × Int) × (List (Int × List UInt8 × Bool × Int)) × Int × List (Int)) × Int) := (Q70.f k a0 a1).bind fun r1 => (if (decide (r1 < 0)) = true then (some (a0, 8)) else (if (!decide ((a2.length : Int) = a0.1.1)) = true then (some (a0, 3)) else (if 0 ≤ r1 ∧ r1 < (a0.2.1.length : Int) then ((Q77.f k a0 ((gt a0.2.1 r1).1, a2, true, (gt a0.2.1 r1).2.2.2)).bind fun r2 => (some (r2, 0))) else none)))
theorem Q74.spec {k : Nat} {a0 : (Int × List (List UInt8) × Int × Int) × (List (Int × List UInt8 × Bool × Int)) × Int × List (Int)} {a1 : Int} {a2 : List UInt8} {A1 : Option Addr} {c_1 : Nat} {A2 : Option Addr} {c_2 : Nat} {A3 : Option Addr} {c_3 : Nat} {r : ((Int × List (List UInt8) × Int × Int) × (List (Int × List UInt8 × Bool × Int)) × Int × List (Int)) × Int} (H : Q74.f k a0 a1 a2 = some r) :
  SpecA Try.prog 113 [.agg #[.int .i64 a0.1.1, .slice A1 a0.1.2.1.length c_1, .int .i64 a0.1.2.2.1, .int .i64 a0.1.2.2.2, .slice A2 a0.2.1.length c_2, .int .i64 a0.2.2.1, .slice A3 a0.2.2.2.length c_3], .int .u32 a1, .string ⟨⟨a2⟩⟩] [] [R9 a0.1.2.1 A1 c_1, Xb a0.2.1 A2 c_2, R23 a0.2.2.2 A3 c_3] (fun v l lr => ∃ (A_0 : Option Addr) (c_0 : Nat) (A_1 : Option Addr) (c_1 : Nat) (A_2 : Option Addr) (c_2 : Nat), v = .tuple #[.agg #[.int .i64 r.1.1.1, .slice A_0 r.1.1.2.1.length c_0, .int .i64 r.1.1.2.2.1, .int .i64 r.1.1.2.2.2, .slice A_1 r.1.2.1.length c_1, .int .i64 r.1.2.2.1, .slice A_2 r.1.2.2.2.length c_2], .int .i64 r.2] ∧ l = [] ∧ lr = [R9 r.1.1.2.1 A_0 c_0, Xb r.1.2.1 A_1 c_1, R23 r.1.2.2.2 A_2 c_2]) := by
 refine Yt Try.func113 fun w0 F0 h0 => ?_
 unfold Q74.f at H
 refine J.seq (J.region ?_)
 refine Ze (Y2 h0) ?_
 rintro _ w1 ⟨b1, rfl, h1⟩
 replace h1 := nf h1
 refine Ze (Ym h1) ?_
 rintro _ w2 ⟨b2, rfl, h2⟩
 replace h2 := nf h2
 refine Zm [1, 2, 3, 6] rfl ?_
 refine J.seq (J.region ?_)
 refine Zg (Za 1 h2.wht) ?_
 refine Zl 1 ?_
 obtain ⟨r1, q1, H⟩ := Zp H
 refine Ze (Zk [] (Q70.spec q1) h2 rfl (Zv (Zf 2) (Zv (Zf 3) (Zv (Zf 4) Zu)))) ?_
 rintro _ w3 ⟨_, ⟨rfl, rfl⟩, h3⟩
 replace h3 := nf h3
 refine Zm [2, 3, 6, 8] rfl ?_
 refine J.seq (J.seq (Zb [2, 3, 6, 8, 14] ?_))
 refine jIf H (fun c1 H => ?_) fun c1 H => ?_
 ·refine J.seq (J.region ?_)
  refine Zg (Za 1 h3.wht) ?_
  refine Ze (Zw 0 h3) ?_
  intro _ w4 h4
  replace h4 := nf h4
  refine Zm [6, 7] rfl ?_
  refine J.ret ?_
  cases H
  exact ⟨_, _, _, (Z1 rfl (Z0 (RV.cell Yd 0 h4 rfl rfl rfl rfl) (Z0 (RV.tmp rfl) Yn)) rfl), ⟨_, _, _, _, _, _, rfl, rfl, rfl⟩, sOR h4 [] [0, 1, 2]⟩
 refine J.skip (J.seq (J.seq (J.region ?_)))
 refine Zl 4 ?_
 refine Zg (Za 1 h3.wht) ?_
 refine Zm [2, 3, 6, 8, 21] rfl ?_
 refine jIf H (fun c2 H => ?_) fun c2 H => ?_
 ·refine J.seq (J.region ?_)
  refine Zg (Za 1 h3.wht) ?_
  refine Ze (Zw 0 h3) ?_
  intro _ w5 h5
  replace h5 := nf h5
  refine Zm [6, 7] rfl ?_
  refine J.ret ?_
  cases H
  exact ⟨_, _, _, (Z1 rfl (Z0 (RV.cell Yd 0 h5 rfl rfl rfl rfl) (Z0 (RV.tmp rfl) Yn)) rfl), ⟨_, _, _, _, _, _, rfl, rfl, rfl⟩, sOR h5 [] [0, 1, 2]⟩
 refine J.skip (J.seq (J.region ?_))
 refine Zl 1 ?_
 refine Zg (Za 1 h3.wht) ?_
 refine Zl 1 ?_
 obtain ⟨⟨p1, p2⟩, H⟩ := Zq H
 have e1 := Z3 h3.wh (Zf 3) p1 p2
 refine Zg (Zi e1 p1 p2) ?_
 refine Zg (Zj 0 h3.wht (Zf 3) p1 p2) ?_
 refine Ze (Ym h3) ?_
 rintro _ w6 ⟨b3, rfl, h6⟩
 replace h6 := nf h6
 refine Ze (Zw 0 h6) ?_
 intro _ w7 h7
 replace h7 := nf h7
 refine Zm [2, 3, 6, 9] rfl ?_
 refine J.seq (J.region ?_)
 refine Zl 2 ?_
 refine Ze (Zw 0 h7) ?_
 intro _ w8 h8
 replace h8 := nf h8
 refine Zl 1 ?_
 refine Ze (Zw 0 h8) ?_
 intro _ w9 h9
 replace h9 := nf h9
 refine Zm [3, 6, 9] rfl ?_
 refine J.seq (J.region ?_)
 refine Zg (Za 2 h9.wht) ?_
 refine Zg (Za 0 h9.wht) ?_
 obtain ⟨r2, q2, H⟩ := Zp H
 refine Ze (Ya [] (Q77.spec q2) h9 rfl (Zv (Zf 0) (Zv (Zf 1) (Zv (Zf 2) Zu)))) ?_
 rintro _ w10 ⟨_, _, ⟨A4, c_4, A5, c_5, A6, c_6, rfl, rfl, rfl⟩, h10⟩
 replace h10 := nf h10
 refine Ze (Zw 2 h10) ?_
 intro _ w11 h11
 replace h11 := nf h11
 refine Zm [6, 7] rfl ?_
 have h12 := Zd h11 [0, 0]
 replace h12 := nf h12
 refine J.ret ?_
 have h13 := h12.freeze (k := 1) rfl Yv
 cases H
 exact ⟨_, _, _, (Z1 rfl (Z0 (RV.cell Yd 0 h13 rfl rfl rfl rfl) (Z0 (RV.tmp rfl) Yn)) rfl), ⟨_, _, _, _, _, _, rfl, rfl, rfl⟩, sOR h13 [] [1, 0, 2]⟩

def Q65.f (k : Nat) (a0 : (Int × List (List UInt8) × Int × Int) × (List (Int × List UInt8 × Bool × Int)) × Int × List (Int)) (a1 : Int) : Option (((Int × List (List UInt8) × Int × Int) × (List (Int × List UInt8 × Bool × Int)) × Int × List (Int)) × Int) := (Q70.f k a0 a1).bind fun r1 => (if (decide (0 ≤ r1)) = true then (some (a0, 8)) else ((Q78.f k a0.2.2.2 a1).bind fun r2 => ((Q75.f k (a0.1, a0.2.1, a0.2.2.1, r2) a1).bind fun r3 => (some (r3, 0)))))
theorem Q65.spec {k : Nat} {a0 : (Int × List (List UInt8) × Int × Int) × (List (Int × List UInt8 × Bool × Int)) × Int × List (Int)} {a1 : Int} {A1 : Option Addr} {c_1 : Nat} {A2 : Option Addr} {c_2 : Nat} {A3 : Option Addr} {c_3 : Nat} {r : ((Int × List (List UInt8) × Int × Int) × (List (Int × List UInt8 × Bool × Int)) × Int × List (Int)) × Int} (H : Q65.f k a0 a1 = some r) :
  SpecA Try.prog 114 [.agg #[.int .i64 a0.1.1, .slice A1 a0.1.2.1.length c_1, .int .i64 a0.1.2.2.1, .int .i64 a0.1.2.2.2, .slice A2 a0.2.1.length c_2, .int .i64 a0.2.2.1, .slice A3 a0.2.2.2.length c_3], .int .u32 a1] [] [R9 a0.1.2.1 A1 c_1, Xb a0.2.1 A2 c_2, R23 a0.2.2.2 A3 c_3] (fun v l lr => ∃ (A_0 : Option Addr) (c_0 : Nat) (A_1 : Option Addr) (c_1 : Nat) (A_2 : Option Addr) (c_2 : Nat), v = .tuple #[.agg #[.int .i64 r.1.1.1, .slice A_0 r.1.1.2.1.length c_0, .int .i64 r.1.1.2.2.1, .int .i64 r.1.1.2.2.2, .slice A_1 r.1.2.1.length c_1, .int .i64 r.1.2.2.1, .slice A_2 r.1.2.2.2.length c_2], .int .i64 r.2] ∧ l = [] ∧ lr = [R9 r.1.1.2.1 A_0 c_0, Xb r.1.2.1 A_1 c_1, R23 r.1.2.2.2 A_2 c_2]) := by
 refine Yt Try.func114 fun w0 F0 h0 => ?_
 unfold Q65.f at H
 refine J.seq (J.region ?_)
 refine Ze (Y2 h0) ?_
 rintro _ w1 ⟨b1, rfl, h1⟩
 replace h1 := nf h1
 refine Ze (Ym h1) ?_
 rintro _ w2 ⟨b2, rfl, h2⟩
 replace h2 := nf h2
 refine Zm [1, 2, 4] rfl ?_
 refine J.seq (J.seq (J.region ?_))
 refine Zg (Za 1 h2.wht) ?_
 refine Zl 1 ?_
 obtain ⟨r1, q1, H⟩ := Zp H
 refine Ze (Zk [] (Q70.spec q1) h2 rfl (Zv (Zf 2) (Zv (Zf 3) (Zv (Zf 4) Zu)))) ?_
 rintro _ w3 ⟨_, ⟨rfl, rfl⟩, h3⟩
 replace h3 := nf h3
 refine Zm [1, 2, 4, 9] rfl ?_
 refine jIf H (fun c1 H => ?_) fun c1 H => ?_
 ·refine J.seq (J.region ?_)
  refine Zg (Za 1 h3.wht) ?_
  refine Ze (Zw 0 h3) ?_
  intro _ w4 h4
  replace h4 := nf h4
  refine Zm [4, 5] rfl ?_
  refine J.ret ?_
  cases H
  exact ⟨_, _, _, (Z1 rfl (Z0 (RV.cell Yd 0 h4 rfl rfl rfl rfl) (Z0 (RV.tmp rfl) Yn)) rfl), ⟨_, _, _, _, _, _, rfl, rfl, rfl⟩, sOR h4 [] [0, 1, 2]⟩
 refine J.skip (J.seq (J.region ?_))
 refine Zl 1 ?_
 refine Zg (Za 1 h3.wht) ?_
 refine Zl 1 ?_
 obtain ⟨r2, q2, H⟩ := Zp H
 refine Ze (Zk [] (Q78.spec q2) h3 rfl (Zv (Zf 4) Zu)) ?_
 rintro _ w5 ⟨_, ⟨A4, c_4, rfl, rfl⟩, h5⟩
 replace h5 := nf h5
 refine Zl 1 ?_
 refine Ze (Zw 2 h5) ?_
 intro _ w6 h6
 replace h6 := nf h6
 refine Zm [1, 2, 4] rfl ?_
 refine J.seq (J.region ?_)
 refine Zg (Za 0 h6.wht) ?_
 refine Zl 1 ?_
 have h7 := h6.freeze (k := 1) rfl Yv
 obtain ⟨r3, q3, H⟩ := Zp H
 refine Ze (Ya [] (Q75.spec q3) h7 rfl (Zv (Zf 1) (Zv (Zf 2) (Zv (Zf 0) Zu)))) ?_
 rintro _ w7 ⟨_, _, ⟨A5, c_5, A6, c_6, A7, c_7, rfl, rfl, rfl⟩, h8⟩
 replace h8 := nf h8
 refine Ze (Zw 2 h8) ?_
 intro _ w8 h9
 replace h9 := nf h9
 refine Zm [4, 5] rfl ?_
 refine J.ret ?_
 have h10 := h9.freeze (k := 1) rfl Yv
 cases H
 exact ⟨_, _, _, (Z1 rfl (Z0 (RV.cell Yd 0 h10 rfl rfl rfl rfl) (Z0 (RV.tmp rfl) Yn)) rfl), ⟨_, _, _, _, _, _, rfl, rfl, rfl⟩, sOR h10 [] [1, 0, 2]⟩

def Q64.l0 : Nat → ((Int × List (List UInt8) × Int × Int) × (List (Int × List UInt8 × Bool × Int)) × Int × List (Int)) → (List (Int)) → (Int) → Option (List (Int))
 | 0, _, _, _ => none
 | k + 1, a0, x1, x2 => if (decide ((IntKind.u64.wrap (x2)) < (IntKind.u64.wrap ((a0.1.2.1.length : Int))))) = true then ((Q66.f k a0 x2).bind fun r1 => (if (decide (0 ≤ r1)) = true then (if 0 ≤ r1 ∧ r1 < (a0.2.1.length : Int) then (if (gt a0.2.1 r1).2.2.1 = true then (if (x1.length + ([x2] : List (Int)).length) * 4 ≤ 140737488355328 then (Q64.l0 k a0 (x1 ++ ([x2] : List (Int))) (IntKind.u32.wrap (x2 + 1))) else none) else (Q64.l0 k a0 x1 (IntKind.u32.wrap (x2 + 1)))) else none) else (Q64.l0 k a0 x1 (IntKind.u32.wrap (x2 + 1))))) else (some x1)
def Q64.f (k : Nat) (a0 : (Int × List (List UInt8) × Int × Int) × (List (Int × List UInt8 × Bool × Int)) × Int × List (Int)) : Option (List (Int)) := Q64.l0 k a0 ([] : List (Int)) 0
theorem Q64.spec {k : Nat} {a0 : (Int × List (List UInt8) × Int × Int) × (List (Int × List UInt8 × Bool × Int)) × Int × List (Int)} {A1 : Option Addr} {c_1 : Nat} {A2 : Option Addr} {c_2 : Nat} {A3 : Option Addr} {c_3 : Nat} {r : List (Int)} (H : Q64.f k a0 = some r) :
  Spec Try.prog 67 [.agg #[.int .i64 a0.1.1, .slice A1 a0.1.2.1.length c_1, .int .i64 a0.1.2.2.1, .int .i64 a0.1.2.2.2, .slice A2 a0.2.1.length c_2, .int .i64 a0.2.2.1, .slice A3 a0.2.2.2.length c_3]] [] [R9 a0.1.2.1 A1 c_1, Xb a0.2.1 A2 c_2, R23 a0.2.2.2 A3 c_3] (fun v l => ∃ (A_0 : Option Addr) (c_0 : Nat), v = .slice A_0 r.length c_0 ∧ l = [O23 r A_0 c_0]) := by
 refine Zr Try.func67 fun w0 F0 h0 => ?_
 unfold Q64.f at H
 refine J.seq (J.region ?_)
 refine Ze (Y2 h0) ?_
 rintro _ w1 ⟨b1, rfl, h1⟩
 replace h1 := nf h1
 refine Zm [1] rfl ?_
 refine J.seq (J.region ?_)
 refine Ze (Ys (.int .u32) ([] : List (Int)) h1) ?_
 rintro _ w2 ⟨b2, rfl, h2⟩
 replace h2 := nf h2
 refine Zm [1, 3] rfl ?_
 refine J.seq (J.seq (Zb [1, 3, 4] ?_))
 refine J.block ?_
 have h10 := (sOR h2 [1, 0] [0, 1, 2])
 refine J.loop (fun kk env w => ∃ (x1 : List (Int)) (A4 : Option Addr) (c_4 : Nat) (x2 : Int), env = [(1, .pointer (some ⟨b1, 0, none⟩)), (3, .slice A4 x1.length c_4), (4, .int .u32 x2)] ∧ St w0 F0 [Vg b1 a0.1.1 a0.1.2.1 A1 c_1 a0.1.2.2.1 a0.1.2.2.2 a0.2.1 A2 c_2 a0.2.2.1 a0.2.2.2 A3 c_3, O23 x1 A4 c_4] [R9 a0.1.2.1 A1 c_1, Xb a0.2.1 A2 c_2, R23 a0.2.2.2 A3 c_3] w ∧ Q64.l0 kk a0 x1 x2 = some r) (k := k) ⟨([] : List (Int)), (some ⟨b2, 0, none⟩), 0, 0, rfl, h10, H⟩ ?_
 rintro k1 env w3 ⟨x1, A4, c_4, x2, rfl, h3, H⟩
 rcases k1 with _ | k1
 ·exact z0 H
 rw [Q64.l0] at H
 refine J.seq (J.seq (J.region ?_))
 refine Zl 4 ?_
 refine Zg (Za 0 h3.wht) ?_
 refine Zm [1, 3, 4, 14] rfl ?_
 refine jIf H (fun c1 H => ?_) fun c1 H => ?_
 ·refine J.skip (J.seq (J.block (J.seq (J.region ?_))))
  refine Zg (Za 0 h3.wht) ?_
  refine Zl 1 ?_
  obtain ⟨r1, q1, H⟩ := Zp H
  refine Ze (Zk [] (Q66.spec q1) h3 rfl (Zv (Zf 2) (Zv (Zf 3) (Zv (Zf 4) Zu)))) ?_
  rintro _ w4 ⟨_, ⟨rfl, rfl⟩, h4⟩
  replace h4 := nf h4
  refine Zm [1, 3, 4, 5] rfl ?_
  refine J.seq (J.region ?_)
  refine Zl 3 ?_
  refine Xq 22 H (fun c2 H => ?_) fun c2 H => ?_
  ·refine Zl 1 ?_
   refine Zg (Za 0 h4.wht) ?_
   refine Zl 1 ?_
   obtain ⟨⟨p1, p2⟩, H⟩ := Zq H
   have e1 := Z3 h4.wh (Zf 3) p1 p2
   refine Zg (Zi e1 p1 p2) ?_
   refine Zl 1 ?_
   refine Zg (Zj 2 h4.wht (Zf 3) p1 p2) ?_
   refine Zm [1, 3, 4, 29] rfl ?_
   refine jIf H (fun c3 H => ?_) fun c3 H => ?_
   ·refine J.region (Zl 2 ?_)
    refine Ze (Ys (.int .u32) ([x2] : List (Int)) h4) ?_
    rintro _ w5 ⟨b3, rfl, h5⟩
    replace h5 := nf h5
    obtain ⟨p3, H⟩ := Zq H
    refine Ze (Yq 2 h5 (gO 0) p3) ?_
    rintro _ w6 ⟨A5, c_5, rfl, h6⟩
    replace h6 := nf h6
    refine Zm [1, 3, 4] rfl ?_
    refine Zb [1, 3, 4] ?_
    have h7 := (sOR h6 [2, 0] [0, 1, 2])
    exact ⟨k1, by omega, (x1 ++ ([x2] : List (Int))), A5, c_5, (IntKind.u32.wrap (x2 + 1)), rfl, h7, H⟩
   refine J.skip (Zb [1, 3, 4] ?_)
   have h8 := (sOR h4 [0, 0] [0, 1, 2])
   exact ⟨k1, by omega, x1, A4, c_4, (IntKind.u32.wrap (x2 + 1)), rfl, h8, H⟩
  refine Zm [1, 3, 4, 29] rfl ?_
  refine Z7 ?_
  refine J.skip (Zb [1, 3, 4] ?_)
  have h9 := (sOR h4 [0, 0] [0, 1, 2])
  exact ⟨k1, by omega, x1, A4, c_4, (IntKind.u32.wrap (x2 + 1)), rfl, h9, H⟩
 refine J.exit (J.seq (Zb [2] ?_))
 refine J.ret ?_
 cases H
 exact ⟨_, _, _, Zc, ⟨_, _, rfl, rfl⟩, Zd h3 [1]⟩

def Q67.l0 : Nat → (List (Int)) → (Int) → (List (List UInt8)) → (Int) → (Int) → (List (Int × List UInt8 × Bool × Int)) → (Int) → (List (Int)) → (Int) → Option (((Int × List (List UInt8) × Int × Int) × (List (Int × List UInt8 × Bool × Int)) × Int × List (Int)))
 | 0, _, _, _, _, _, _, _, _, _ => none
 | k + 1, r1, x1, x2, x3, x4, x5, x6, x7, x8 => if (decide (x8 < (r1.length : Int))) = true then (if 0 ≤ x8 ∧ x8 < (r1.length : Int) then ((Q66.f k ((x1, x2, x3, x4), x5, x6, x7) (gt r1 x8)).bind fun r2 => (if 0 ≤ r2 ∧ r2 < (x5.length : Int) then ((Q61.f (x1, x2, x3, x4) ((gt x5 r2).1) ((gt x5 r2).2.1)).bind fun r3 => ((Q77.f k (r3.1, x5, x6, x7) ((gt x5 r2).1, (gt x5 r2).2.1, false, (gt x5 r2).2.2.2)).bind fun r4 => (Q67.l0 k r1 r4.1.1 r4.1.2.1 r4.1.2.2.1 r4.1.2.2.2 r4.2.1 r4.2.2.1 r4.2.2.2 (w64 (x8 + 1))))) else none)) else none) else (some ((x1, x2, x3, x4), x5, x6, x7))
def Q67.f (k : Nat) (a0 : (Int × List (List UInt8) × Int × Int) × (List (Int × List UInt8 × Bool × Int)) × Int × List (Int)) : Option (((Int × List (List UInt8) × Int × Int) × (List (Int × List UInt8 × Bool × Int)) × Int × List (Int))) := (Q64.f k a0).bind fun r1 => (Q67.l0 k r1 a0.1.1 a0.1.2.1 a0.1.2.2.1 a0.1.2.2.2 a0.2.1 a0.2.2.1 a0.2.2.2 0)
theorem Q67.spec {k : Nat} {a0 : (Int × List (List UInt8) × Int × Int) × (List (Int × List UInt8 × Bool × Int)) × Int × List (Int)} {A1 : Option Addr} {c_1 : Nat} {A2 : Option Addr} {c_2 : Nat} {A3 : Option Addr} {c_3 : Nat} {r : ((Int × List (List UInt8) × Int × Int) × (List (Int × List UInt8 × Bool × Int)) × Int × List (Int))} (H : Q67.f k a0 = some r) :
  SpecA Try.prog 115 [.agg #[.int .i64 a0.1.1, .slice A1 a0.1.2.1.length c_1, .int .i64 a0.1.2.2.1, .int .i64 a0.1.2.2.2, .slice A2 a0.2.1.length c_2, .int .i64 a0.2.2.1, .slice A3 a0.2.2.2.length c_3]] [] [R9 a0.1.2.1 A1 c_1, Xb a0.2.1 A2 c_2, R23 a0.2.2.2 A3 c_3] (fun v l lr => ∃ (A_0 : Option Addr) (c_0 : Nat) (A_1 : Option Addr) (c_1 : Nat) (A_2 : Option Addr) (c_2 : Nat), v = .agg #[.int .i64 r.1.1, .slice A_0 r.1.2.1.length c_0, .int .i64 r.1.2.2.1, .int .i64 r.1.2.2.2, .slice A_1 r.2.1.length c_1, .int .i64 r.2.2.1, .slice A_2 r.2.2.2.length c_2] ∧ l = [] ∧ lr = [R9 r.1.2.1 A_0 c_0, Xb r.2.1 A_1 c_1, R23 r.2.2.2 A_2 c_2]) := by
 refine Yt Try.func115 fun w0 F0 h0 => ?_
 unfold Q67.f at H
 refine J.seq (J.region ?_)
 refine Ze (Y2 h0) ?_
 rintro _ w1 ⟨b1, rfl, h1⟩
 replace h1 := nf h1
 refine Ze (Ym h1) ?_
 rintro _ w2 ⟨b2, rfl, h2⟩
 replace h2 := nf h2
 refine Zm [1, 2] rfl ?_
 refine J.seq (J.region ?_)
 refine Zg (Za 1 h2.wht) ?_
 obtain ⟨r1, q1, H⟩ := Zp H
 refine Ze (Zk [] (Q64.spec q1) h2 rfl (Zv (Zf 2) (Zv (Zf 3) (Zv (Zf 4) Zu)))) ?_
 rintro _ w3 ⟨_, ⟨A4, c_4, rfl, rfl⟩, h3⟩
 replace h3 := nf h3
 refine Zm [1, 2, 3] rfl ?_
 refine J.seq (J.seq (Zb [1, 2, 3, 4] ?_))
 refine J.block ?_
 have h25 := (sOR h3 [2, 1, 0] [0, 1, 2])
 refine J.loop (fun kk env w => ∃ (x1 : Int) (x2 : List (List UInt8)) (A5 : Option Addr) (c_5 : Nat) (x3 : Int) (x4 : Int) (x5 : List (Int × List UInt8 × Bool × Int)) (A6 : Option Addr) (c_6 : Nat) (x6 : Int) (x7 : List (Int)) (A7 : Option Addr) (c_7 : Nat) (x8 : Int), env = [(1, .pointer (some ⟨b1, 0, none⟩)), (2, .pointer (some ⟨b2, 0, none⟩)), (3, .slice A4 r1.length c_4), (4, .int .i64 x8)] ∧ St w0 F0 [Vg b1 x1 x2 A5 c_5 x3 x4 x5 A6 c_6 x6 x7 A7 c_7, Vg b2 0 ([] : List (List UInt8)) none 0 0 0 ([] : List (Int × List UInt8 × Bool × Int)) none 0 0 ([] : List (Int)) none 0, O23 r1 A4 c_4] [R9 x2 A5 c_5, Xb x5 A6 c_6, R23 x7 A7 c_7] w ∧ Q67.l0 kk r1 x1 x2 x3 x4 x5 x6 x7 x8 = some r) (k := k) ⟨a0.1.1, a0.1.2.1, A1, c_1, a0.1.2.2.1, a0.1.2.2.2, a0.2.1, A2, c_2, a0.2.2.1, a0.2.2.2, A3, c_3, 0, rfl, h25, H⟩ ?_
 rintro k1 env w4 ⟨x1, x2, A5, c_5, x3, x4, x5, A6, c_6, x6, x7, A7, c_7, x8, rfl, h4, H⟩
 rcases k1 with _ | k1
 ·exact z0 H
 rw [Q67.l0] at H
 refine J.seq (J.seq (Zb [1, 2, 3, 4, 11] ?_))
 refine jIf H (fun c1 H => ?_) fun c1 H => ?_
 ·refine J.skip (J.seq (J.block (J.seq ?_)))
  obtain ⟨⟨p1, p2⟩, H⟩ := Zq H
  obtain ⟨r2, q2, H⟩ := Zp H
  obtain ⟨⟨p3, p4⟩, H⟩ := Zq H
  refine J.midS (fun env w => ∃ (b3 : Nat), env = [(1, .pointer (some ⟨b1, 0, none⟩)), (2, .pointer (some ⟨b2, 0, none⟩)), (3, .slice A4 r1.length c_4), (4, .int .i64 x8), (5, .pointer (some ⟨b3, 0, none⟩))] ∧ St w0 F0 [Zhn b3 ((gt x5 r2).1) ((gt x5 r2).2.1) ((gt x5 r2).2.2.1) ((gt x5 r2).2.2.2), Vg b1 x1 x2 A5 c_5 x3 x4 x5 A6 c_6 x6 x7 A7 c_7, Vg b2 0 ([] : List (List UInt8)) none 0 0 0 ([] : List (Int × List UInt8 × Bool × Int)) none 0 0 ([] : List (Int)) none 0, O23 r1 A4 c_4] [R9 x2 A5 c_5, Xb x5 A6 c_6, R23 x7 A7 c_7] w) ?_ ?_
  ·refine Zs h4 ?_
   have h8 := h4.drew
   refine Zx [0, 3, 4] ?_
   refine Zh 1 rfl (Za 0 wI) ?_
   refine Zh 2 rfl (Za 0 wI) ?_
   have e3 := Z3 h8.wh (gO 2) p1 p2
   refine Zh 5 rfl (Zi e3 p1 p2) ?_
   refine Zh 6 rfl (Zj 0 wI (gO 2) p1 p2) ?_
   refine HJ.pick [7, 10] (i := 7) rfl rfl rfl rfl ?_
   refine (Yb ?_ (Yb ?_ Xa))
   ·refine Z4 7 rfl (Zk [] (Q66.spec q2) h8 rfl (Zv (Zf 3) (Zv (Zf 4) (Zv (Zf 5) Zu)))) ?_
    rintro _ w8 ⟨_, ⟨rfl, rfl⟩, h9⟩
    replace h9 := nf h9
    refine ⟨⟨[], h9⟩, ?_⟩
    have e4 := Z3 h9.wh (Zf 4) p3 p4
    refine Zh 8 rfl (Zi e4 p3 p4) ?_
    refine Zh 9 rfl (Zj 0 wI (Zf 4) p3 p4) ?_
    refine Zn 10 rfl (Ym h9) ?_
    rintro _ w9 ⟨b4, rfl, h10⟩
    replace h10 := nf h10
    refine ⟨⟨[_], h10⟩, ?_⟩
    refine Zn 11 rfl (Zw 0 h10) ?_
    intro _ w10 h11
    replace h11 := nf h11
    refine ⟨⟨[_], h11⟩, ?_⟩
    refine Z2 [1, 2, 3, 4, 5] ?_
    exact Zz ⟨b4, rfl, (sOR h11 [0, 0, 0, 0] [0, 1, 2])⟩
   ·refine Z4 10 rfl (Ym h8) ?_
    rintro _ w11 ⟨b5, rfl, h12⟩
    replace h12 := nf h12
    refine ⟨⟨[_], h12⟩, ?_⟩
    refine Zn 7 rfl (Zk [] (Q66.spec q2) h12 rfl (Zv (Zf 4) (Zv (Zf 5) (Zv (Zf 6) Zu)))) ?_
    rintro _ w12 ⟨_, ⟨rfl, rfl⟩, h13⟩
    replace h13 := nf h13
    refine ⟨⟨[_], h13⟩, ?_⟩
    have e5 := Z3 h13.wh (Zf 5) p3 p4
    refine Zh 8 rfl (Zi e5 p3 p4) ?_
    refine Zh 9 rfl (Zj 0 wI (Zf 4) p3 p4) ?_
    refine Zn 11 rfl (Zw 0 h13) ?_
    intro _ w13 h14
    replace h14 := nf h14
    refine ⟨⟨[_], h14⟩, ?_⟩
    refine Z2 [1, 2, 3, 4, 5] ?_
    exact Zz ⟨b5, rfl, (sOR h14 [0, 0, 0, 0] [0, 1, 2])⟩
  rintro env w14 ⟨b3, rfl, h15⟩
  refine J.seq (J.region ?_)
  refine Zl 1 ?_
  refine Zg (Za 1 h15.wht) ?_
  refine Zl 1 ?_
  refine Zg (Za 0 h15.wht) ?_
  refine Zl 1 ?_
  refine Zg (Za 0 h15.wht) ?_
  obtain ⟨r3, q3, H⟩ := Zp H
  refine Ze (Ya [] (Q61.spec q3) h15 rfl (Zv (Zf 0) Zu)) ?_
  rintro _ w15 ⟨_, _, ⟨A8, c_8, rfl, rfl, rfl⟩, h16⟩
  replace h16 := nf h16
  refine Zl 4 ?_
  refine Ze (Zw 1 h16) ?_
  intro _ w16 h17
  replace h17 := nf h17
  refine Zm [1, 2, 3, 4, 5] rfl ?_
  refine J.seq (J.region ?_)
  refine Zl 1 ?_
  refine Ze (Zw 1 h17) ?_
  intro _ w17 h18
  replace h18 := nf h18
  refine Zm [1, 2, 3, 4, 5] rfl ?_
  refine J.region (Zg (Za 1 h18.wht) ?_)
  refine Zg (Za 0 h18.wht) ?_
  obtain ⟨r4, q4, H⟩ := Zp H
  refine Ze (Ya [] (Q77.spec q4) h18 rfl (Zv (Zf 0) (Zv (Zf 2) (Zv (Zf 3) Zu)))) ?_
  rintro _ w18 ⟨_, _, ⟨A9, c_9, A10, c_10, A11, c_11, rfl, rfl, rfl⟩, h19⟩
  replace h19 := nf h19
  refine Ze (Zw 2 h19) ?_
  intro _ w19 h20
  replace h20 := nf h20
  refine Zm [1, 2, 3, 4] rfl ?_
  refine Zb [1, 2, 3, 4] ?_
  have h21 := h20.freeze (k := 1) rfl Yv
  have h22 := (sOR h21 [0, 1, 1] [1, 0, 2])
  exact ⟨k1, by omega, r4.1.1, r4.1.2.1, A9, c_9, r4.1.2.2.1, r4.1.2.2.2, r4.2.1, A10, c_10, r4.2.2.1, r4.2.2.2, A11, c_11, (w64 (x8 + 1)), rfl, h22, H⟩
 refine J.exit (J.seq (J.region ?_))
 refine Zg (Za 0 h4.wht) ?_
 refine Ze (Zw 1 h4) ?_
 intro _ w20 h23
 replace h23 := nf h23
 refine Zm [2] rfl ?_
 have h24 := Zd h23 [0]
 replace h24 := nf h24
 refine J.ret ?_
 cases H
 exact ⟨_, _, _, (Z1 rfl (Z0 (RV.cell Yd 0 h24 rfl rfl rfl rfl) Yn) rfl), ⟨_, _, _, _, _, _, rfl, rfl, rfl⟩, sOR h24 [] [0, 1, 2]⟩

def Q72.f (k : Nat) (a0 : (Int × List (List UInt8) × Int × Int) × (List (Int × List UInt8 × Bool × Int)) × Int × List (Int)) (a1 : Int) : Option (List UInt8 × Int) := (Q70.f k a0 a1).bind fun r1 => (if (decide (r1 < 0)) = true then (some (([] : List UInt8), 8)) else (if 0 ≤ r1 ∧ r1 < (a0.2.1.length : Int) then (some ((gt a0.2.1 r1).2.1, 0)) else none))
theorem Q72.spec {k : Nat} {a0 : (Int × List (List UInt8) × Int × Int) × (List (Int × List UInt8 × Bool × Int)) × Int × List (Int)} {a1 : Int} {A1 : Option Addr} {c_1 : Nat} {A2 : Option Addr} {c_2 : Nat} {A3 : Option Addr} {c_3 : Nat} {r : List UInt8 × Int} (H : Q72.f k a0 a1 = some r) :
  Spec Try.prog 64 [.agg #[.int .i64 a0.1.1, .slice A1 a0.1.2.1.length c_1, .int .i64 a0.1.2.2.1, .int .i64 a0.1.2.2.2, .slice A2 a0.2.1.length c_2, .int .i64 a0.2.2.1, .slice A3 a0.2.2.2.length c_3], .int .u32 a1] [] [R9 a0.1.2.1 A1 c_1, Xb a0.2.1 A2 c_2, R23 a0.2.2.2 A3 c_3] (fun v l => v = .tuple #[.string ⟨⟨r.1⟩⟩, .int .i64 r.2] ∧ l = []) := by
 refine Zr Try.func64 fun w0 F0 h0 => ?_
 unfold Q72.f at H
 refine J.seq (J.region ?_)
 refine Ze (Y2 h0) ?_
 rintro _ w1 ⟨b1, rfl, h1⟩
 replace h1 := nf h1
 refine Zm [1, 2] rfl ?_
 refine J.seq (J.region ?_)
 refine Zg (Za 0 h1.wht) ?_
 refine Zl 1 ?_
 obtain ⟨r1, q1, H⟩ := Zp H
 refine Ze (Zk [] (Q70.spec q1) h1 rfl (Zv (Zf 1) (Zv (Zf 2) (Zv (Zf 3) Zu)))) ?_
 rintro _ w2 ⟨_, ⟨rfl, rfl⟩, h2⟩
 replace h2 := nf h2
 refine Zm [2, 6] rfl ?_
 refine J.seq (J.seq (Zb [2, 6, 11] ?_))
 refine jIf H (fun c1 H => ?_) fun c1 H => ?_
 ·refine J.seq (Zb [4, 5] ?_)
  refine J.ret ?_
  cases H
  exact ⟨_, _, _, Zc, ⟨rfl, rfl⟩, Zd h2 []⟩
 refine J.skip (J.seq (J.region ?_))
 refine Zl 1 ?_
 refine Zg (Za 0 h2.wht) ?_
 refine Zl 1 ?_
 obtain ⟨⟨p1, p2⟩, H⟩ := Zq H
 have e1 := Z3 h2.wh (Zf 2) p1 p2
 refine Zg (Zi e1 p1 p2) ?_
 refine Zl 1 ?_
 refine Zg (Zj 1 h2.wht (Zf 2) p1 p2) ?_
 refine Zm [4, 5] rfl ?_
 refine J.ret ?_
 cases H
 exact ⟨_, _, _, Zc, ⟨rfl, rfl⟩, Zd h2 []⟩

def Q57.f (k : Nat) (a0 : (Int × List (List UInt8) × Int × Int) × (List (Int × List UInt8 × Bool × Int)) × Int × List (Int)) (a1 : Int × Int × List (Int)) : Option (((Int × List (List UInt8) × Int × Int) × (List (Int × List UInt8 × Bool × Int)) × Int × List (Int)) × Int) := if (decide (a1.1 = 0)) = true then ((Q69.f k a0 a1.2.1).bind fun r1 => (some r1)) else (if (decide (a1.1 = 1)) = true then ((Q69.f k a0 a1.2.1).bind fun r2 => (some r2)) else (if (decide (a1.1 = 2)) = true then ((Q68.f k a0 a1.2.1).bind fun r3 => (some r3)) else (if (decide (a1.1 = 3)) = true then ((Q73.f k a0 a1.2.1).bind fun r4 => (some r4)) else (if (decide (a1.1 = 4)) = true then ((Q73.f k a0 a1.2.1).bind fun r5 => (some r5)) else (if (decide (a1.1 = 5)) = true then ((Q74.f k a0 a1.2.1 (toS a1.2.2)).bind fun r6 => (some r6)) else (if (decide (a1.1 = 6)) = true then ((Q74.f k a0 a1.2.1 (toS a1.2.2)).bind fun r7 => (some r7)) else (if (decide (a1.1 = 7)) = true then ((Q65.f k a0 a1.2.1).bind fun r8 => (some r8)) else (if (decide (a1.1 = 8)) = true then ((Q67.f k a0).bind fun r9 => (some (r9, 0))) else (if (decide (a1.1 = 9)) = true then ((Q72.f k a0 a1.2.1).bind fun r10 => (some (a0, r10.2))) else (some (a0, 0)))))))))))
theorem Q57.spec {k : Nat} {a0 : (Int × List (List UInt8) × Int × Int) × (List (Int × List UInt8 × Bool × Int)) × Int × List (Int)} {a1 : Int × Int × List (Int)} {A1 : Option Addr} {c_1 : Nat} {A2 : Option Addr} {c_2 : Nat} {A3 : Option Addr} {c_3 : Nat} {A4 : Option Addr} {c_4 : Nat} {r : ((Int × List (List UInt8) × Int × Int) × (List (Int × List UInt8 × Bool × Int)) × Int × List (Int)) × Int} (H : Q57.f k a0 a1 = some r) :
  SpecA Try.prog 63 [.agg #[.int .i64 a0.1.1, .slice A1 a0.1.2.1.length c_1, .int .i64 a0.1.2.2.1, .int .i64 a0.1.2.2.2, .slice A2 a0.2.1.length c_2, .int .i64 a0.2.2.1, .slice A3 a0.2.2.2.length c_3], .agg #[.int .i64 a1.1, .int .u32 a1.2.1, .slice A4 a1.2.2.length c_4]] [] [R9 a0.1.2.1 A1 c_1, Xb a0.2.1 A2 c_2, R23 a0.2.2.2 A3 c_3, R5 a1.2.2 A4 c_4] (fun v l lr => ∃ (A_0 : Option Addr) (c_0 : Nat) (A_1 : Option Addr) (c_1 : Nat) (A_2 : Option Addr) (c_2 : Nat), v = .tuple #[.agg #[.int .i64 r.1.1.1, .slice A_0 r.1.1.2.1.length c_0, .int .i64 r.1.1.2.2.1, .int .i64 r.1.1.2.2.2, .slice A_1 r.1.2.1.length c_1, .int .i64 r.1.2.2.1, .slice A_2 r.1.2.2.2.length c_2], .int .i64 r.2] ∧ l = [] ∧ lr = [R9 r.1.1.2.1 A_0 c_0, Xb r.1.2.1 A_1 c_1, R23 r.1.2.2.2 A_2 c_2]) := by
 refine Yt Try.func63 fun w0 F0 h0 => ?_
 unfold Q57.f at H
 refine J.seq (J.region ?_)
 refine Ze (Y2 h0) ?_
 rintro _ w1 ⟨b1, rfl, h1⟩
 replace h1 := nf h1
 refine Ze (Y2 h1) ?_
 rintro _ w2 ⟨b2, rfl, h2⟩
 replace h2 := nf h2
 refine Ze (Ym h2) ?_
 rintro _ w3 ⟨b3, rfl, h3⟩
 replace h3 := nf h3
 refine Zm [2, 3, 4] rfl ?_
 refine J.seq (J.region ?_)
 refine Zl 1 ?_
 refine Zg (Za 1 h3.wht) ?_
 refine Zm [2, 3, 4, 9] rfl ?_
 refine J.block (J.seq (J.seq (Zb [2, 3, 4, 9, 11] ?_)))
 refine jIf H (fun c1 H => ?_) fun c1 H => ?_
 ·refine J.skip (J.cond rfl (fun e => ?_) (fun e => by rw [c1] at e; cases e))
  refine J.seq (J.region ?_)
  refine Zg (Za 2 h3.wht) ?_
  refine Zl 1 ?_
  refine Zg (Za 1 h3.wht) ?_
  obtain ⟨r1, q1, H⟩ := Zp H
  refine Ze (Ya [] (Q69.spec q1) h3 rfl (Zv (Zf 0) (Zv (Zf 1) (Zv (Zf 2) Zu)))) ?_
  rintro _ w4 ⟨_, _, ⟨A5, c_5, A6, c_6, A7, c_7, rfl, rfl, rfl⟩, h4⟩
  replace h4 := nf h4
  refine Zl 2 ?_
  refine Ze (Zw 0 h4) ?_
  intro _ w5 h5
  replace h5 := nf h5
  refine Zm [4, 5] rfl ?_
  have h6 := Zd h5 [0]
  replace h6 := nf h6
  refine J.ret ?_
  cases H
  exact ⟨_, _, _, (Z1 rfl (Z0 (RV.cell Yd 0 h6 rfl rfl rfl rfl) (Z0 (RV.tmp rfl) Yn)) rfl), ⟨_, _, _, _, _, _, rfl, rfl, rfl⟩, sOR h6 [] [0, 1, 2]⟩
 refine Zb [2, 3, 4, 9, 11] ?_
 refine jIf H (fun c2 H => ?_) fun c2 H => ?_
 ·refine J.seq (J.region ?_)
  refine Zg (Za 2 h3.wht) ?_
  refine Zl 1 ?_
  refine Zg (Za 1 h3.wht) ?_
  obtain ⟨r2, q2, H⟩ := Zp H
  refine Ze (Ya [] (Q69.spec q2) h3 rfl (Zv (Zf 0) (Zv (Zf 1) (Zv (Zf 2) Zu)))) ?_
  rintro _ w6 ⟨_, _, ⟨A8, c_8, A9, c_9, A10, c_10, rfl, rfl, rfl⟩, h7⟩
  replace h7 := nf h7
  refine Zl 2 ?_
  refine Ze (Zw 0 h7) ?_
  intro _ w7 h8
  replace h8 := nf h8
  refine Zm [4, 5] rfl ?_
  have h9 := Zd h8 [0]
  replace h9 := nf h9
  refine J.ret ?_
  cases H
  exact ⟨_, _, _, (Z1 rfl (Z0 (RV.cell Yd 0 h9 rfl rfl rfl rfl) (Z0 (RV.tmp rfl) Yn)) rfl), ⟨_, _, _, _, _, _, rfl, rfl, rfl⟩, sOR h9 [] [0, 1, 2]⟩
 refine J.seq (Zb [2, 3, 4, 9, 20] ?_)
 refine jIf H (fun c3 H => ?_) fun c3 H => ?_
 ·refine J.seq (J.region ?_)
  refine Zg (Za 2 h3.wht) ?_
  refine Zl 1 ?_
  refine Zg (Za 1 h3.wht) ?_
  obtain ⟨r3, q3, H⟩ := Zp H
  refine Ze (Ya [] (Q68.spec q3) h3 rfl (Zv (Zf 0) (Zv (Zf 1) (Zv (Zf 2) Zu)))) ?_
  rintro _ w8 ⟨_, _, ⟨A11, c_11, A12, c_12, A13, c_13, rfl, rfl, rfl⟩, h10⟩
  replace h10 := nf h10
  refine Zl 2 ?_
  refine Ze (Zw 0 h10) ?_
  intro _ w9 h11
  replace h11 := nf h11
  refine Zm [4, 5] rfl ?_
  have h12 := Zd h11 [0]
  replace h12 := nf h12
  refine J.ret ?_
  cases H
  exact ⟨_, _, _, (Z1 rfl (Z0 (RV.cell Yd 0 h12 rfl rfl rfl rfl) (Z0 (RV.tmp rfl) Yn)) rfl), ⟨_, _, _, _, _, _, rfl, rfl, rfl⟩, sOR h12 [] [0, 1, 2]⟩
 refine J.seq (J.seq (Zb [2, 3, 4, 9, 28] ?_))
 refine jIf H (fun c4 H => ?_) fun c4 H => ?_
 ·refine J.skip (J.cond rfl (fun e => ?_) (fun e => by rw [c4] at e; cases e))
  refine J.seq (J.region ?_)
  refine Zg (Za 2 h3.wht) ?_
  refine Zl 1 ?_
  refine Zg (Za 1 h3.wht) ?_
  obtain ⟨r4, q4, H⟩ := Zp H
  refine Ze (Ya [] (Q73.spec q4) h3 rfl (Zv (Zf 0) (Zv (Zf 1) (Zv (Zf 2) Zu)))) ?_
  rintro _ w10 ⟨_, _, ⟨A14, c_14, A15, c_15, A16, c_16, rfl, rfl, rfl⟩, h13⟩
  replace h13 := nf h13
  refine Zl 2 ?_
  refine Ze (Zw 0 h13) ?_
  intro _ w11 h14
  replace h14 := nf h14
  refine Zm [4, 5] rfl ?_
  have h15 := Zd h14 [0]
  replace h15 := nf h15
  refine J.ret ?_
  cases H
  exact ⟨_, _, _, (Z1 rfl (Z0 (RV.cell Yd 0 h15 rfl rfl rfl rfl) (Z0 (RV.tmp rfl) Yn)) rfl), ⟨_, _, _, _, _, _, rfl, rfl, rfl⟩, sOR h15 [] [0, 1, 2]⟩
 refine Zb [2, 3, 4, 9, 28] ?_
 refine jIf H (fun c5 H => ?_) fun c5 H => ?_
 ·refine J.seq (J.region ?_)
  refine Zg (Za 2 h3.wht) ?_
  refine Zl 1 ?_
  refine Zg (Za 1 h3.wht) ?_
  obtain ⟨r5, q5, H⟩ := Zp H
  refine Ze (Ya [] (Q73.spec q5) h3 rfl (Zv (Zf 0) (Zv (Zf 1) (Zv (Zf 2) Zu)))) ?_
  rintro _ w12 ⟨_, _, ⟨A17, c_17, A18, c_18, A19, c_19, rfl, rfl, rfl⟩, h16⟩
  replace h16 := nf h16
  refine Zl 2 ?_
  refine Ze (Zw 0 h16) ?_
  intro _ w13 h17
  replace h17 := nf h17
  refine Zm [4, 5] rfl ?_
  have h18 := Zd h17 [0]
  replace h18 := nf h18
  refine J.ret ?_
  cases H
  exact ⟨_, _, _, (Z1 rfl (Z0 (RV.cell Yd 0 h18 rfl rfl rfl rfl) (Z0 (RV.tmp rfl) Yn)) rfl), ⟨_, _, _, _, _, _, rfl, rfl, rfl⟩, sOR h18 [] [0, 1, 2]⟩
 refine J.seq (J.seq (Zb [2, 3, 4, 9, 37] ?_))
 refine jIf H (fun c6 H => ?_) fun c6 H => ?_
 ·refine J.skip (J.cond rfl (fun e => ?_) (fun e => by rw [c6] at e; cases e))
  refine J.seq (J.region ?_)
  refine Zg (Za 2 h3.wht) ?_
  refine Zl 1 ?_
  refine Zg (Za 1 h3.wht) ?_
  refine Zl 1 ?_
  refine Zg (Za 1 h3.wht) ?_
  refine Zg (Xk h3.wht (Zf 6)) ?_
  obtain ⟨r6, q6, H⟩ := Zp H
  refine Ze (Ya [] (Q74.spec q6) h3 rfl (Zv (Zf 0) (Zv (Zf 1) (Zv (Zf 2) Zu)))) ?_
  rintro _ w14 ⟨_, _, ⟨A20, c_20, A21, c_21, A22, c_22, rfl, rfl, rfl⟩, h19⟩
  replace h19 := nf h19
  refine Zl 2 ?_
  refine Ze (Zw 0 h19) ?_
  intro _ w15 h20
  replace h20 := nf h20
  refine Zm [4, 5] rfl ?_
  have h21 := Zd h20 [0]
  replace h21 := nf h21
  refine J.ret ?_
  cases H
  exact ⟨_, _, _, (Z1 rfl (Z0 (RV.cell Yd 0 h21 rfl rfl rfl rfl) (Z0 (RV.tmp rfl) Yn)) rfl), ⟨_, _, _, _, _, _, rfl, rfl, rfl⟩, sOR h21 [] [0, 1, 2]⟩
 refine Zb [2, 3, 4, 9, 37] ?_
 refine jIf H (fun c7 H => ?_) fun c7 H => ?_
 ·refine J.seq (J.region ?_)
  refine Zg (Za 2 h3.wht) ?_
  refine Zl 1 ?_
  refine Zg (Za 1 h3.wht) ?_
  refine Zl 1 ?_
  refine Zg (Za 1 h3.wht) ?_
  refine Zg (Xk h3.wht (Zf 6)) ?_
  obtain ⟨r7, q7, H⟩ := Zp H
  refine Ze (Ya [] (Q74.spec q7) h3 rfl (Zv (Zf 0) (Zv (Zf 1) (Zv (Zf 2) Zu)))) ?_
  rintro _ w16 ⟨_, _, ⟨A23, c_23, A24, c_24, A25, c_25, rfl, rfl, rfl⟩, h22⟩
  replace h22 := nf h22
  refine Zl 2 ?_
  refine Ze (Zw 0 h22) ?_
  intro _ w17 h23
  replace h23 := nf h23
  refine Zm [4, 5] rfl ?_
  have h24 := Zd h23 [0]
  replace h24 := nf h24
  refine J.ret ?_
  cases H
  exact ⟨_, _, _, (Z1 rfl (Z0 (RV.cell Yd 0 h24 rfl rfl rfl rfl) (Z0 (RV.tmp rfl) Yn)) rfl), ⟨_, _, _, _, _, _, rfl, rfl, rfl⟩, sOR h24 [] [0, 1, 2]⟩
 refine J.seq (Zb [2, 3, 4, 9, 49] ?_)
 refine jIf H (fun c8 H => ?_) fun c8 H => ?_
 ·refine J.seq (J.region ?_)
  refine Zg (Za 2 h3.wht) ?_
  refine Zl 1 ?_
  refine Zg (Za 1 h3.wht) ?_
  obtain ⟨r8, q8, H⟩ := Zp H
  refine Ze (Ya [] (Q65.spec q8) h3 rfl (Zv (Zf 0) (Zv (Zf 1) (Zv (Zf 2) Zu)))) ?_
  rintro _ w18 ⟨_, _, ⟨A26, c_26, A27, c_27, A28, c_28, rfl, rfl, rfl⟩, h25⟩
  replace h25 := nf h25
  refine Zl 2 ?_
  refine Ze (Zw 0 h25) ?_
  intro _ w19 h26
  replace h26 := nf h26
  refine Zm [4, 5] rfl ?_
  have h27 := Zd h26 [0]
  replace h27 := nf h27
  refine J.ret ?_
  cases H
  exact ⟨_, _, _, (Z1 rfl (Z0 (RV.cell Yd 0 h27 rfl rfl rfl rfl) (Z0 (RV.tmp rfl) Yn)) rfl), ⟨_, _, _, _, _, _, rfl, rfl, rfl⟩, sOR h27 [] [0, 1, 2]⟩
 refine J.seq (Zb [2, 3, 4, 9, 57] ?_)
 refine jIf H (fun c9 H => ?_) fun c9 H => ?_
 ·refine J.seq (J.region ?_)
  refine Zg (Za 2 h3.wht) ?_
  obtain ⟨r9, q9, H⟩ := Zp H
  refine Ze (Ya [] (Q67.spec q9) h3 rfl (Zv (Zf 0) (Zv (Zf 1) (Zv (Zf 2) Zu)))) ?_
  rintro _ w20 ⟨_, _, ⟨A29, c_29, A30, c_30, A31, c_31, rfl, rfl, rfl⟩, h28⟩
  replace h28 := nf h28
  refine Ze (Zw 0 h28) ?_
  intro _ w21 h29
  replace h29 := nf h29
  refine Zm [4, 5] rfl ?_
  have h30 := Zd h29 [0]
  replace h30 := nf h30
  refine J.ret ?_
  cases H
  exact ⟨_, _, _, (Z1 rfl (Z0 (RV.cell Yd 0 h30 rfl rfl rfl rfl) (Z0 (RV.tmp rfl) Yn)) rfl), ⟨_, _, _, _, _, _, rfl, rfl, rfl⟩, sOR h30 [] [0, 1, 2]⟩
 refine J.seq (Zb [2, 3, 4, 61] ?_)
 refine jIf H (fun c10 H => ?_) fun c10 H => ?_
 ·refine J.seq (J.region ?_)
  refine Zg (Za 2 h3.wht) ?_
  refine Zl 1 ?_
  refine Zg (Za 1 h3.wht) ?_
  obtain ⟨r10, q10, H⟩ := Zp H
  refine Ze (Zk [] (Q72.spec q10) h3 rfl (Zv (Zf 3) (Zv (Zf 4) (Zv (Zf 5) Zu)))) ?_
  rintro _ w22 ⟨_, ⟨rfl, rfl⟩, h31⟩
  replace h31 := nf h31
  refine Zm [2, 4, 7] rfl ?_
  refine J.seq (J.region ?_)
  refine Zg (Za 2 h31.wht) ?_
  refine Zl 1 ?_
  refine Ze (Zw 0 h31) ?_
  intro _ w23 h32
  replace h32 := nf h32
  refine Zm [4, 5] rfl ?_
  have h33 := Zd h32 [0]
  replace h33 := nf h33
  refine J.ret ?_
  cases H
  exact ⟨_, _, _, (Z1 rfl (Z0 (RV.cell Yd 0 h33 rfl rfl rfl rfl) (Z0 (RV.tmp rfl) Yn)) rfl), ⟨_, _, _, _, _, _, rfl, rfl, rfl⟩, sOR h33 [] [0, 1, 2]⟩
 refine J.seq (J.region ?_)
 refine Zg (Za 2 h3.wht) ?_
 refine Ze (Zw 0 h3) ?_
 intro _ w24 h34
 replace h34 := nf h34
 refine Zm [4, 5] rfl ?_
 have h35 := Zd h34 [0]
 replace h35 := nf h35
 refine J.ret ?_
 cases H
 exact ⟨_, _, _, (Z1 rfl (Z0 (RV.cell Yd 0 h35 rfl rfl rfl rfl) (Z0 (RV.tmp rfl) Yn)) rfl), ⟨_, _, _, _, _, _, rfl, rfl, rfl⟩, sOR h35 [] [0, 1, 2]⟩

def Q5.f (a0 : (Int × List (Int) × (Int × Int)) × (List (Int × List (Int) × Bool × Int)) × (List (Int × Int)) × List (Int) × ((List (Int × Int × Bool)) × Int)) (a1 : Int) : Option (Int × ((Int × List (Int) × (Int × Int)) × (List (Int × List (Int) × Bool × Int)) × (List (Int × Int)) × List (Int) × ((List (Int × Int × Bool)) × Int))) := (Q16.f a0 a1).bind fun r1 => (if (!decide (r1 = 0)) = true then (some (r1, a0)) else (if (Yy a0.2.2.1 a1) = true then (if 0 ≤ (Zt (0 : Int) a0.2.2.1 a1) ∧ (Zt (0 : Int) a0.2.2.1 a1) < (a0.2.1.length : Int) then (if (decide (0 < ((gt a0.2.1 (Zt (0 : Int) a0.2.2.1 a1)).2.2.2))) = true then (some (8, a0)) else (if (!(Yy a0.2.2.1 a1)) = true then ((Q15.f a0).bind fun r2 => (if (!r2.2.1) = true then (some (7, r2.2.2)) else ((Q30.f r2.2.2.1).bind fun r3 => (if 0 ≤ r3 ∧ r3 * 1 ≤ 281474976710656 then (if 0 ≤ r2.1 ∧ r2.1 < (r2.2.2.2.1.length : Int) then ((Q17.f r2.2.2.2.2.2.2 r2.1).bind fun r4 => (some (0, (r2.2.2.1, (r2.2.2.2.1.set r2.1.toNat (a1, (List.replicate r3.toNat (0 : Int)), true, 1)), (Wu a1 r2.1 r2.2.2.2.2.1), r2.2.2.2.2.2.1, r4.2)))) else none) else none)))) else ((Q30.f a0.1).bind fun r5 => (if 0 ≤ r5 ∧ r5 * 1 ≤ 281474976710656 then ((Q17.f a0.2.2.2.2 (Zt (0 : Int) a0.2.2.1 a1)).bind fun r6 => (some (0, (a0.1, (a0.2.1.set (Zt (0 : Int) a0.2.2.1 a1).toNat (a1, (List.replicate r5.toNat (0 : Int)), true, 1)), (Wu a1 (Zt (0 : Int) a0.2.2.1 a1) a0.2.2.1), a0.2.2.2.1, r6.2)))) else none)))) else none) else (if (!(Yy a0.2.2.1 a1)) = true then ((Q15.f a0).bind fun r7 => (if (!r7.2.1) = true then (some (7, r7.2.2)) else ((Q30.f r7.2.2.1).bind fun r8 => (if 0 ≤ r8 ∧ r8 * 1 ≤ 281474976710656 then (if 0 ≤ r7.1 ∧ r7.1 < (r7.2.2.2.1.length : Int) then ((Q17.f r7.2.2.2.2.2.2 r7.1).bind fun r9 => (some (0, (r7.2.2.1, (r7.2.2.2.1.set r7.1.toNat (a1, (List.replicate r8.toNat (0 : Int)), true, 1)), (Wu a1 r7.1 r7.2.2.2.2.1), r7.2.2.2.2.2.1, r9.2)))) else none) else none)))) else ((Q30.f a0.1).bind fun r10 => (if 0 ≤ r10 ∧ r10 * 1 ≤ 281474976710656 then (if 0 ≤ (Zt (0 : Int) a0.2.2.1 a1) ∧ (Zt (0 : Int) a0.2.2.1 a1) < (a0.2.1.length : Int) then ((Q17.f a0.2.2.2.2 (Zt (0 : Int) a0.2.2.1 a1)).bind fun r11 => (some (0, (a0.1, (a0.2.1.set (Zt (0 : Int) a0.2.2.1 a1).toNat (a1, (List.replicate r10.toNat (0 : Int)), true, 1)), (Wu a1 (Zt (0 : Int) a0.2.2.1 a1) a0.2.2.1), a0.2.2.2.1, r11.2)))) else none) else none)))))
theorem Q5.spec {a0 : (Int × List (Int) × (Int × Int)) × (List (Int × List (Int) × Bool × Int)) × (List (Int × Int)) × List (Int) × ((List (Int × Int × Bool)) × Int)} {a1 : Int} {b1 : Nat} {b2 : Nat} {b3 : Nat} {b4 : Nat} {A1 : Option Addr} {c_1 : Nat} {A2 : Option Addr} {c_2 : Nat} {A3 : Option Addr} {c_3 : Nat} {A4 : Option Addr} {c_4 : Nat} {r : Int × ((Int × List (Int) × (Int × Int)) × (List (Int × List (Int) × Bool × Int)) × (List (Int × Int)) × List (Int) × ((List (Int × Int × Bool)) × Int))} (H : Q5.f a0 a1 = some r) :
  Spec Try.prog 57 [.pointer (some ⟨b1, 0, none⟩), .int .u32 a1] [Yk b1 (.pointer (some ⟨b2, 0, none⟩)) a0.2.1 A2 c_2 (.map (some b3)) a0.2.2.2.1 A3 c_3 (.pointer (some ⟨b4, 0, none⟩)), X51 b2 a0.1.1 a0.1.2.1 A1 c_1 a0.1.2.2.1 a0.1.2.2.2, O5 a0.1.2.1 A1 c_1, Yi a0.2.1 A2 c_2, Yc .u32 (Value.int .i64) b3 a0.2.2.1, O3 a0.2.2.2.1 A3 c_3, Z8 b4 a0.2.2.2.2.1 A4 c_4 a0.2.2.2.2.2, Z9 a0.2.2.2.2.1 A4 c_4] [] (fun v l => ∃ (A_0 : Option Addr) (c_0 : Nat) (A_1 : Option Addr) (c_1 : Nat) (A_2 : Option Addr) (c_2 : Nat) (A_3 : Option Addr) (c_3 : Nat), v = .int .i64 r.1 ∧ l = [Yk b1 (.pointer (some ⟨b2, 0, none⟩)) r.2.2.1 A_1 c_1 (.map (some b3)) r.2.2.2.2.1 A_2 c_2 (.pointer (some ⟨b4, 0, none⟩)), X51 b2 r.2.1.1 r.2.1.2.1 A_0 c_0 r.2.1.2.2.1 r.2.1.2.2.2, O5 r.2.1.2.1 A_0 c_0, Yi r.2.2.1 A_1 c_1, Yc .u32 (Value.int .i64) b3 r.2.2.2.1, O3 r.2.2.2.2.1 A_2 c_2, Z8 b4 r.2.2.2.2.2.1 A_3 c_3 r.2.2.2.2.2.2, Z9 r.2.2.2.2.2.1 A_3 c_3]) := by
 refine Zr Try.func57 fun w0 F0 h0 => ?_
 unfold Q5.f at H
 refine J.seq (Zb [0, 1] ?_)
 refine J.seq (J.seq (J.region ?_))
 refine Zl 2 ?_
 obtain ⟨r1, q1, H⟩ := Zp H
 refine Ze (Zk [0, 0, 0, 0, 0, 0, 0, 0] (Q16.spec q1) h0 rfl Zu) ?_
 rintro _ w1 ⟨_, ⟨rfl, rfl⟩, h1⟩
 replace h1 := nf h1
 refine Zm [0, 1, 5] rfl ?_
 refine J.seq (Zb [0, 1, 5, 12] ?_)
 refine jIf H (fun c1 H => ?_) fun c1 H => ?_
 ·refine J.seq (Zb [4] ?_)
  refine J.ret ?_
  cases H
  exact ⟨_, _, _, Zc, ⟨_, _, _, _, _, _, _, _, rfl, rfl⟩, Zd h1 [0, 0, 0, 0, 0, 0, 0, 0]⟩
 refine J.skip (J.seq (J.region ?_))
 refine Zl 3 ?_
 refine Zg (Za 0 h1.wht) ?_
 refine Zl 1 ?_
 refine Zg (Xg (0 : Int) 4 h1.wht) ?_
 refine Zm [0, 1, 6, 7] rfl ?_
 refine J.seq (J.block (J.seq (J.region ?_)))
 refine Zl 2 ?_
 refine Xq 25 H (fun c2 H => ?_) fun c2 H => ?_
 ·refine Zl 3 ?_
  refine Zg (Za 0 h1.wht) ?_
  refine Zl 1 ?_
  obtain ⟨⟨p1, p2⟩, H⟩ := Zq H
  have e1 := Z3 h1.wh (gO 3) p1 p2
  refine Zg (Zi e1 p1 p2) ?_
  refine Zl 1 ?_
  refine Zg (Yg 3 h1.wht (gO 3) p1 p2) ?_
  refine Zm [0, 1, 6, 7, 23] rfl ?_
  refine jIf H (fun c3 H => ?_) fun c3 H => ?_
  ·refine J.seq (Zb [4] ?_)
   refine J.ret ?_
   cases H
   exact ⟨_, _, _, Zc, ⟨_, _, _, _, _, _, _, _, rfl, rfl⟩, Zd h1 [0, 0, 0, 0, 0, 0, 0, 0]⟩
  refine J.seq (Zb [0, 1, 6, 36] ?_)
  refine jIf H (fun c4 H => ?_) fun c4 H => ?_
  ·refine J.seq (J.region ?_)
   refine Zl 1 ?_
   obtain ⟨r2, q2, H⟩ := Zp H
   refine Ze (Zk [0, 0, 0, 0, 0, 0, 0, 0] (Q15.spec q2) h1 rfl Zu) ?_
   rintro _ w2 ⟨_, ⟨A5, c_5, A6, c_6, A7, c_7, A8, c_8, rfl, rfl⟩, h2⟩
   replace h2 := nf h2
   refine Zm [0, 1, 6, 7] rfl ?_
   refine J.seq (Zb [0, 1, 6, 45] ?_)
   refine jIf H (fun c5 H => ?_) fun c5 H => ?_
   ·refine J.seq (Zb [4] ?_)
    refine J.ret ?_
    cases H
    exact ⟨_, _, _, Zc, ⟨_, _, _, _, _, _, _, _, rfl, rfl⟩, Zd h2 [0, 0, 0, 0, 0, 0, 0, 0]⟩
   refine J.skip (J.seq (J.region ?_))
   refine Zl 6 ?_
   refine Zg (Za 0 h2.wht) ?_
   obtain ⟨r3, q3, H⟩ := Zp H
   refine Ze (Zk [1, 1] (Q30.spec q3) h2 rfl Zu) ?_
   rintro _ w3 ⟨_, ⟨rfl, rfl⟩, h3⟩
   replace h3 := nf h3
   obtain ⟨⟨p3, p4⟩, H⟩ := Zq H
   refine Ze (Wc Yd (ty := (.int .u8)) rfl (0 : Int) rfl rfl rfl rfl rfl rfl rfl (by decide) h3 p3 p4) ?_
   rintro _ w4 ⟨b5, rfl, h4⟩
   replace h4 := nf h4
   refine Zl 1 ?_
   refine Yl Try.func106 ?_
   refine J.seq (J.region ?_)
   refine Ze (Y2 h4) ?_
   rintro _ w5 ⟨b6, rfl, h5⟩
   replace h5 := nf h5
   refine Zm [0, 1, 5] rfl ?_
   refine J.seq (J.region ?_)
   refine Zl 1 ?_
   refine Ze (Zw 0 h5) ?_
   intro _ w6 h6
   replace h6 := nf h6
   refine Zm [0, 1, 5] rfl ?_
   refine J.seq (Zs (Zd h6 [0, 1, 1, 1, 2, 2, 2, 2]) ?_)
   have h7 := h6.drew
   refine Zx [0, 1, 2, 4] ?_
   refine Zh 3 rfl (Za 3 wI) ?_
   refine Zh 5 rfl (Za 0 wI) ?_
   obtain ⟨⟨p5, p6⟩, H⟩ := Zq H
   have e2 := Z3 h7.wh (gO 5) p5 p6
   refine Zh 6 rfl (Zi e2 p5 p6) ?_
   have h8 := (h7.only [5, 1, 0, 0, 0, 0, 0, 0, 0, 0] rfl).both
   refine Zn 7 rfl (Xe 0 (.pair (.int .u32) (.pair (.slice 5 (.int .u8)) (.pair .bool (.int .i64)))) r2.1 (a1, (List.replicate r3.toNat (0 : Int)), true, 1) h8 p5 p6 Vx) ?_
   intro _ w7 h9
   replace h9 := nf h9
   refine ⟨⟨[_], h9⟩, ?_⟩
   replace h9 : St w0 F0 [Yi (r2.2.2.2.1.set r2.1.toNat (a1, (List.replicate r3.toNat (0 : Int)), true, 1)) A6 c_6, Um b6 a1 (List.replicate r3.toNat (0 : Int)) (some ⟨b5, 0, none⟩) (r3.toNat) true 1, X51 b2 r2.2.2.1.1 r2.2.2.1.2.1 A5 c_5 r2.2.2.1.2.2.1 r2.2.2.1.2.2.2, O5 r2.2.2.1.2.1 A5 c_5, Yk b1 (.pointer (some ⟨b2, 0, none⟩)) (r2.2.2.2.1.set r2.1.toNat (a1, (List.replicate r3.toNat (0 : Int)), true, 1)) A6 c_6 (.map (some b3)) r2.2.2.2.2.2.1 A7 c_7 (.pointer (some ⟨b4, 0, none⟩)), Yc .u32 (Value.int .i64) b3 r2.2.2.2.2.1, O3 r2.2.2.2.2.2.1 A7 c_7, Z8 b4 r2.2.2.2.2.2.2.1 A8 c_8 r2.2.2.2.2.2.2.2, Z9 r2.2.2.2.2.2.2.1 A8 c_8] _ _ := h9.retell (by simp only [List.length_set, List.length_nil, Yi, Z9, O3, O5, Yk, Um, Z8, X51] <;> rfl)
   refine Z2 [0, 1, 5] ?_
   refine J.seq (Zs (Zd h9 [0, 0, 0, 0, 0, 1, 1, 1]) ?_)
   have h10 := h9.drew
   refine Zx [0, 1, 2, 4, 6] ?_
   refine Zh 3 rfl (Za 4 wI) ?_
   refine Zh 5 rfl (Za 1 wI) ?_
   refine Zn 7 rfl (Vo Yd (v := r2.1) (ix := a1) 5 rfl h10 rfl rfl rfl rfl rfl rfl rfl rfl rfl) ?_
   intro _ w8 h11
   replace h11 := nf h11
   refine ⟨⟨[_], h11⟩, ?_⟩
   refine Z2 [0, 1] ?_
   refine J.region (Zl 3 ?_)
   refine Zg (Za 5 h11.wht) ?_
   refine Zl 1 ?_
   obtain ⟨r4, q4, H⟩ := Zp H
   refine Ze (Zk [7, 7] (Q17.spec q4) h11 rfl Zu) ?_
   rintro _ w9 ⟨_, ⟨A9, c_9, rfl, rfl⟩, h12⟩
   replace h12 := nf h12
   refine Zm [] rfl ?_
   refine ⟨_, Zc, ?_⟩
   refine Zm [] rfl ?_
   refine J.seq (Zb [4] ?_)
   refine J.ret ?_
   cases H
   exact ⟨_, _, _, Zc, ⟨_, _, _, _, _, _, _, _, rfl, rfl⟩, Zd h12 [7, 5, 5, 3, 2, 3, 0, 0]⟩
  refine J.skip (J.seq (J.region ?_))
  refine Zl 6 ?_
  refine Zg (Za 0 h1.wht) ?_
  obtain ⟨r5, q5, H⟩ := Zp H
  refine Ze (Zk [1, 1] (Q30.spec q5) h1 rfl Zu) ?_
  rintro _ w10 ⟨_, ⟨rfl, rfl⟩, h13⟩
  replace h13 := nf h13
  obtain ⟨⟨p7, p8⟩, H⟩ := Zq H
  refine Ze (Wc Yd (ty := (.int .u8)) rfl (0 : Int) rfl rfl rfl rfl rfl rfl rfl (by decide) h13 p7 p8) ?_
  rintro _ w11 ⟨b7, rfl, h14⟩
  replace h14 := nf h14
  refine Zl 1 ?_
  refine Yl Try.func106 ?_
  refine J.seq (J.region ?_)
  refine Ze (Y2 h14) ?_
  rintro _ w12 ⟨b8, rfl, h15⟩
  replace h15 := nf h15
  refine Zm [0, 1, 5] rfl ?_
  refine J.seq (J.region ?_)
  refine Zl 1 ?_
  refine Ze (Zw 0 h15) ?_
  intro _ w13 h16
  replace h16 := nf h16
  refine Zm [0, 1, 5] rfl ?_
  refine J.seq (Zs (Zd h16 [0, 1, 1, 1, 2, 2, 2, 2]) ?_)
  have h17 := h16.drew
  refine Zx [0, 1, 2, 4] ?_
  refine Zh 3 rfl (Za 3 wI) ?_
  refine Zh 5 rfl (Za 0 wI) ?_
  refine Zh 6 rfl (Zi e1 p1 p2) ?_
  have h18 := (h17.only [5, 1, 0, 0, 0, 0, 0, 0, 0, 0] rfl).both
  refine Zn 7 rfl (Xe 0 (.pair (.int .u32) (.pair (.slice 5 (.int .u8)) (.pair .bool (.int .i64)))) (Zt (0 : Int) a0.2.2.1 a1) (a1, (List.replicate r5.toNat (0 : Int)), true, 1) h18 p1 p2 Vx) ?_
  intro _ w14 h19
  replace h19 := nf h19
  refine ⟨⟨[_], h19⟩, ?_⟩
  replace h19 : St w0 F0 [Yi (a0.2.1.set (Zt (0 : Int) a0.2.2.1 a1).toNat (a1, (List.replicate r5.toNat (0 : Int)), true, 1)) A2 c_2, Um b8 a1 (List.replicate r5.toNat (0 : Int)) (some ⟨b7, 0, none⟩) (r5.toNat) true 1, X51 b2 a0.1.1 a0.1.2.1 A1 c_1 a0.1.2.2.1 a0.1.2.2.2, O5 a0.1.2.1 A1 c_1, Yk b1 (.pointer (some ⟨b2, 0, none⟩)) (a0.2.1.set (Zt (0 : Int) a0.2.2.1 a1).toNat (a1, (List.replicate r5.toNat (0 : Int)), true, 1)) A2 c_2 (.map (some b3)) a0.2.2.2.1 A3 c_3 (.pointer (some ⟨b4, 0, none⟩)), Yc .u32 (Value.int .i64) b3 a0.2.2.1, O3 a0.2.2.2.1 A3 c_3, Z8 b4 a0.2.2.2.2.1 A4 c_4 a0.2.2.2.2.2, Z9 a0.2.2.2.2.1 A4 c_4] _ _ := h19.retell (by simp only [List.length_set, List.length_nil, Yi, Z9, O3, O5, Yk, Um, Z8, X51] <;> rfl)
  refine Z2 [0, 1, 5] ?_
  refine J.seq (Zs (Zd h19 [0, 0, 0, 0, 0, 1, 1, 1]) ?_)
  have h20 := h19.drew
  refine Zx [0, 1, 2, 4, 6] ?_
  refine Zh 3 rfl (Za 4 wI) ?_
  refine Zh 5 rfl (Za 1 wI) ?_
  refine Zn 7 rfl (Vo Yd (v := (Zt (0 : Int) a0.2.2.1 a1)) (ix := a1) 5 rfl h20 rfl rfl rfl rfl rfl rfl rfl rfl rfl) ?_
  intro _ w15 h21
  replace h21 := nf h21
  refine ⟨⟨[_], h21⟩, ?_⟩
  refine Z2 [0, 1] ?_
  refine J.region (Zl 3 ?_)
  refine Zg (Za 5 h21.wht) ?_
  refine Zl 1 ?_
  obtain ⟨r6, q6, H⟩ := Zp H
  refine Ze (Zk [7, 7] (Q17.spec q6) h21 rfl Zu) ?_
  rintro _ w16 ⟨_, ⟨A10, c_10, rfl, rfl⟩, h22⟩
  replace h22 := nf h22
  refine Zm [] rfl ?_
  refine ⟨_, Zc, ?_⟩
  refine Zm [] rfl ?_
  refine J.seq (Zb [4] ?_)
  refine J.ret ?_
  cases H
  exact ⟨_, _, _, Zc, ⟨_, _, _, _, _, _, _, _, rfl, rfl⟩, Zd h22 [7, 5, 5, 3, 2, 3, 0, 0]⟩
 refine Zm [0, 1, 6, 7, 23] rfl ?_
 refine Z7 ?_
 refine J.seq (Zb [0, 1, 6, 36] ?_)
 refine jIf H (fun c6 H => ?_) fun c6 H => ?_
 ·refine J.seq (J.region ?_)
  refine Zl 1 ?_
  obtain ⟨r7, q7, H⟩ := Zp H
  refine Ze (Zk [0, 0, 0, 0, 0, 0, 0, 0] (Q15.spec q7) h1 rfl Zu) ?_
  rintro _ w17 ⟨_, ⟨A11, c_11, A12, c_12, A13, c_13, A14, c_14, rfl, rfl⟩, h23⟩
  replace h23 := nf h23
  refine Zm [0, 1, 6, 7] rfl ?_
  refine J.seq (Zb [0, 1, 6, 45] ?_)
  refine jIf H (fun c7 H => ?_) fun c7 H => ?_
  ·refine J.seq (Zb [4] ?_)
   refine J.ret ?_
   cases H
   exact ⟨_, _, _, Zc, ⟨_, _, _, _, _, _, _, _, rfl, rfl⟩, Zd h23 [0, 0, 0, 0, 0, 0, 0, 0]⟩
  refine J.skip (J.seq (J.region ?_))
  refine Zl 6 ?_
  refine Zg (Za 0 h23.wht) ?_
  obtain ⟨r8, q8, H⟩ := Zp H
  refine Ze (Zk [1, 1] (Q30.spec q8) h23 rfl Zu) ?_
  rintro _ w18 ⟨_, ⟨rfl, rfl⟩, h24⟩
  replace h24 := nf h24
  obtain ⟨⟨p9, p10⟩, H⟩ := Zq H
  refine Ze (Wc Yd (ty := (.int .u8)) rfl (0 : Int) rfl rfl rfl rfl rfl rfl rfl (by decide) h24 p9 p10) ?_
  rintro _ w19 ⟨b9, rfl, h25⟩
  replace h25 := nf h25
  refine Zl 1 ?_
  refine Yl Try.func106 ?_
  refine J.seq (J.region ?_)
  refine Ze (Y2 h25) ?_
  rintro _ w20 ⟨b10, rfl, h26⟩
  replace h26 := nf h26
  refine Zm [0, 1, 5] rfl ?_
  refine J.seq (J.region ?_)
  refine Zl 1 ?_
  refine Ze (Zw 0 h26) ?_
  intro _ w21 h27
  replace h27 := nf h27
  refine Zm [0, 1, 5] rfl ?_
  refine J.seq (Zs (Zd h27 [0, 1, 1, 1, 2, 2, 2, 2]) ?_)
  have h28 := h27.drew
  refine Zx [0, 1, 2, 4] ?_
  refine Zh 3 rfl (Za 3 wI) ?_
  refine Zh 5 rfl (Za 0 wI) ?_
  obtain ⟨⟨p11, p12⟩, H⟩ := Zq H
  have e3 := Z3 h28.wh (gO 5) p11 p12
  refine Zh 6 rfl (Zi e3 p11 p12) ?_
  have h29 := (h28.only [5, 1, 0, 0, 0, 0, 0, 0, 0, 0] rfl).both
  refine Zn 7 rfl (Xe 0 (.pair (.int .u32) (.pair (.slice 5 (.int .u8)) (.pair .bool (.int .i64)))) r7.1 (a1, (List.replicate r8.toNat (0 : Int)), true, 1) h29 p11 p12 Vx) ?_
  intro _ w22 h30
  replace h30 := nf h30
  refine ⟨⟨[_], h30⟩, ?_⟩
  replace h30 : St w0 F0 [Yi (r7.2.2.2.1.set r7.1.toNat (a1, (List.replicate r8.toNat (0 : Int)), true, 1)) A12 c_12, Um b10 a1 (List.replicate r8.toNat (0 : Int)) (some ⟨b9, 0, none⟩) (r8.toNat) true 1, X51 b2 r7.2.2.1.1 r7.2.2.1.2.1 A11 c_11 r7.2.2.1.2.2.1 r7.2.2.1.2.2.2, O5 r7.2.2.1.2.1 A11 c_11, Yk b1 (.pointer (some ⟨b2, 0, none⟩)) (r7.2.2.2.1.set r7.1.toNat (a1, (List.replicate r8.toNat (0 : Int)), true, 1)) A12 c_12 (.map (some b3)) r7.2.2.2.2.2.1 A13 c_13 (.pointer (some ⟨b4, 0, none⟩)), Yc .u32 (Value.int .i64) b3 r7.2.2.2.2.1, O3 r7.2.2.2.2.2.1 A13 c_13, Z8 b4 r7.2.2.2.2.2.2.1 A14 c_14 r7.2.2.2.2.2.2.2, Z9 r7.2.2.2.2.2.2.1 A14 c_14] _ _ := h30.retell (by simp only [List.length_set, List.length_nil, Yi, Z9, O3, O5, Yk, Um, Z8, X51] <;> rfl)
  refine Z2 [0, 1, 5] ?_
  refine J.seq (Zs (Zd h30 [0, 0, 0, 0, 0, 1, 1, 1]) ?_)
  have h31 := h30.drew
  refine Zx [0, 1, 2, 4, 6] ?_
  refine Zh 3 rfl (Za 4 wI) ?_
  refine Zh 5 rfl (Za 1 wI) ?_
  refine Zn 7 rfl (Vo Yd (v := r7.1) (ix := a1) 5 rfl h31 rfl rfl rfl rfl rfl rfl rfl rfl rfl) ?_
  intro _ w23 h32
  replace h32 := nf h32
  refine ⟨⟨[_], h32⟩, ?_⟩
  refine Z2 [0, 1] ?_
  refine J.region (Zl 3 ?_)
  refine Zg (Za 5 h32.wht) ?_
  refine Zl 1 ?_
  obtain ⟨r9, q9, H⟩ := Zp H
  refine Ze (Zk [7, 7] (Q17.spec q9) h32 rfl Zu) ?_
  rintro _ w24 ⟨_, ⟨A15, c_15, rfl, rfl⟩, h33⟩
  replace h33 := nf h33
  refine Zm [] rfl ?_
  refine ⟨_, Zc, ?_⟩
  refine Zm [] rfl ?_
  refine J.seq (Zb [4] ?_)
  refine J.ret ?_
  cases H
  exact ⟨_, _, _, Zc, ⟨_, _, _, _, _, _, _, _, rfl, rfl⟩, Zd h33 [7, 5, 5, 3, 2, 3, 0, 0]⟩
 refine J.skip (J.seq (J.region ?_))
 refine Zl 6 ?_
 refine Zg (Za 0 h1.wht) ?_
 obtain ⟨r10, q10, H⟩ := Zp H
 refine Ze (Zk [1, 1] (Q30.spec q10) h1 rfl Zu) ?_
 rintro _ w25 ⟨_, ⟨rfl, rfl⟩, h34⟩
 replace h34 := nf h34
 obtain ⟨⟨p13, p14⟩, H⟩ := Zq H
 refine Ze (Wc Yd (ty := (.int .u8)) rfl (0 : Int) rfl rfl rfl rfl rfl rfl rfl (by decide) h34 p13 p14) ?_
 rintro _ w26 ⟨b11, rfl, h35⟩
 replace h35 := nf h35
 refine Zl 1 ?_
 refine Yl Try.func106 ?_
 refine J.seq (J.region ?_)
 refine Ze (Y2 h35) ?_
 rintro _ w27 ⟨b12, rfl, h36⟩
 replace h36 := nf h36
 refine Zm [0, 1, 5] rfl ?_
 refine J.seq (J.region ?_)
 refine Zl 1 ?_
 refine Ze (Zw 0 h36) ?_
 intro _ w28 h37
 replace h37 := nf h37
 refine Zm [0, 1, 5] rfl ?_
 refine J.seq (Zs (Zd h37 [0, 1, 1, 1, 2, 2, 2, 2]) ?_)
 have h38 := h37.drew
 refine Zx [0, 1, 2, 4] ?_
 refine Zh 3 rfl (Za 3 wI) ?_
 refine Zh 5 rfl (Za 0 wI) ?_
 obtain ⟨⟨p15, p16⟩, H⟩ := Zq H
 have e4 := Z3 h38.wh (gO 5) p15 p16
 refine Zh 6 rfl (Zi e4 p15 p16) ?_
 have h39 := (h38.only [5, 1, 0, 0, 0, 0, 0, 0, 0, 0] rfl).both
 refine Zn 7 rfl (Xe 0 (.pair (.int .u32) (.pair (.slice 5 (.int .u8)) (.pair .bool (.int .i64)))) (Zt (0 : Int) a0.2.2.1 a1) (a1, (List.replicate r10.toNat (0 : Int)), true, 1) h39 p15 p16 Vx) ?_
 intro _ w29 h40
 replace h40 := nf h40
 refine ⟨⟨[_], h40⟩, ?_⟩
 replace h40 : St w0 F0 [Yi (a0.2.1.set (Zt (0 : Int) a0.2.2.1 a1).toNat (a1, (List.replicate r10.toNat (0 : Int)), true, 1)) A2 c_2, Um b12 a1 (List.replicate r10.toNat (0 : Int)) (some ⟨b11, 0, none⟩) (r10.toNat) true 1, X51 b2 a0.1.1 a0.1.2.1 A1 c_1 a0.1.2.2.1 a0.1.2.2.2, O5 a0.1.2.1 A1 c_1, Yk b1 (.pointer (some ⟨b2, 0, none⟩)) (a0.2.1.set (Zt (0 : Int) a0.2.2.1 a1).toNat (a1, (List.replicate r10.toNat (0 : Int)), true, 1)) A2 c_2 (.map (some b3)) a0.2.2.2.1 A3 c_3 (.pointer (some ⟨b4, 0, none⟩)), Yc .u32 (Value.int .i64) b3 a0.2.2.1, O3 a0.2.2.2.1 A3 c_3, Z8 b4 a0.2.2.2.2.1 A4 c_4 a0.2.2.2.2.2, Z9 a0.2.2.2.2.1 A4 c_4] _ _ := h40.retell (by simp only [List.length_set, List.length_nil, Yi, Z9, O3, O5, Yk, Um, Z8, X51] <;> rfl)
 refine Z2 [0, 1, 5] ?_
 refine J.seq (Zs (Zd h40 [0, 0, 0, 0, 0, 1, 1, 1]) ?_)
 have h41 := h40.drew
 refine Zx [0, 1, 2, 4, 6] ?_
 refine Zh 3 rfl (Za 4 wI) ?_
 refine Zh 5 rfl (Za 1 wI) ?_
 refine Zn 7 rfl (Vo Yd (v := (Zt (0 : Int) a0.2.2.1 a1)) (ix := a1) 5 rfl h41 rfl rfl rfl rfl rfl rfl rfl rfl rfl) ?_
 intro _ w30 h42
 replace h42 := nf h42
 refine ⟨⟨[_], h42⟩, ?_⟩
 refine Z2 [0, 1] ?_
 refine J.region (Zl 3 ?_)
 refine Zg (Za 5 h42.wht) ?_
 refine Zl 1 ?_
 obtain ⟨r11, q11, H⟩ := Zp H
 refine Ze (Zk [7, 7] (Q17.spec q11) h42 rfl Zu) ?_
 rintro _ w31 ⟨_, ⟨A16, c_16, rfl, rfl⟩, h43⟩
 replace h43 := nf h43
 refine Zm [] rfl ?_
 refine ⟨_, Zc, ?_⟩
 refine Zm [] rfl ?_
 refine J.seq (Zb [4] ?_)
 refine J.ret ?_
 cases H
 exact ⟨_, _, _, Zc, ⟨_, _, _, _, _, _, _, _, rfl, rfl⟩, Zd h43 [7, 5, 5, 3, 2, 3, 0, 0]⟩

end Go.SK.T
