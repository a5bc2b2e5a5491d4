/- The functions, further. -/
import Derived.Test.YtoohimccifdbeaaGreatXCodeReadsF1
set_option linter.unusedVariables false
set_option linter.unusedSimpArgs false
set_option maxRecDepth 20000
set_option maxHeartbeats 40000000
namespace Go.SK.T
open Go Go.SK Go.Proofs
def Q22.l0 : Nat → (List (List UInt8)) → (List UInt8 × List UInt8 × Bool) → (Int) → Option (Bool)
 | 0, _, _, _ => none
 | k + 1, a0, a1, x1 => if (decide (x1 < (a0.length : Int))) = true then (if 0 ≤ x1 ∧ x1 < (a0.length : Int) then ((Q26.f (a1.1, a1.2.1, a1.2.2) (gt a0 x1)).bind fun r1 => (if (!r1) = true then (some false) else (if (decide ((gt a0 x1) = a1.1)) = true then (some false) else (if (decide (0 < x1)) = true then (if 0 ≤ (w64 (x1 - 1)) ∧ (w64 (x1 - 1)) < (a0.length : Int) then ((Q25.f (gt a0 (w64 (x1 - 1))) (gt a0 x1)).bind fun r2 => (if (decide (0 ≤ r2)) = true then (some false) else (Q22.l0 k a0 a1 (w64 (x1 + 1))))) else none) else (Q22.l0 k a0 a1 (w64 (x1 + 1))))))) else none) else (some true)
def Q22.f (k : Nat) (a0 : List (List UInt8)) (a1 : List UInt8 × List UInt8 × Bool) : Option (Bool) := Q22.l0 k a0 a1 0
theorem Q22.spec {k : Nat} {a0 : List (List UInt8)} {a1 : List UInt8 × List UInt8 × Bool} {A1 : Option Addr} {c_1 : Nat} {r : Bool} (H : Q22.f k a0 a1 = some r) :
  Spec Tryz.prog 72 [.slice A1 a0.length c_1, .agg #[.string ⟨⟨a1.1⟩⟩, .string ⟨⟨a1.2.1⟩⟩, .bool a1.2.2]] [] [rdC 9 .str a0 (.slice A1 a0.length c_1)] (fun v l => v = .bool r ∧ l = []) := by
 refine Spec.enter Tryz.func72 rfl (by kernel_rfl) (by kernel_rfl) fun w0 F0 h0 => ?_
 unfold Q22.f at H
 refine J.seq (J.region ?_)
 refine RJ.op rfl rfl (Z2 rfl rfl h0) ?_
 rintro _ w1 ⟨b1, rfl, h1⟩
 replace h1 : St w0 F0 [Zh b1 55 [.string ⟨⟨a1.1⟩⟩, .string ⟨⟨a1.2.1⟩⟩, .bool a1.2.2]] _ _ := h1
 refine RJ.run Za 1 rfl (RJ.fin [(0, .slice A1 a0.length c_1), (3, .pointer (some ⟨b1, 0, none⟩))] rfl (J.seq (J.seq (J.region ?_))))
 refine RJ.run Za 3 rfl (RJ.fin [(0, _), (3, _), (7, .slice A1 a0.length c_1), (8, .int .i64 (a0.length : Int)), (9, .int .i64 0)] rfl (J.block ?_))
 have h7 := ((h1.only [0] rfl).rds [0] rfl)
 refine J.loop (fun kk env w => ∃ (x1 : Int), env = [(0, .slice A1 a0.length c_1), (3, .pointer (some ⟨b1, 0, none⟩)), (7, .slice A1 a0.length c_1), (8, .int .i64 (a0.length : Int)), (9, .int .i64 x1)] ∧ St w0 F0 [Zh b1 55 [.string ⟨⟨a1.1⟩⟩, .string ⟨⟨a1.2.1⟩⟩, .bool a1.2.2]] [rdC 9 .str a0 (.slice A1 a0.length c_1)] w ∧ Q22.l0 kk a0 a1 x1 = some r) (k := k) ⟨0, rfl, h7, H⟩ ?_
 rintro k1 env w2 ⟨x1, rfl, h2, H⟩
 cases k1 with
 | zero => exact nomatch (show none = some r from H)
 | succ k1 =>
  rw [Q22.l0] at H
  refine J.seq (J.region ?_)
  refine RJ.run Za 1 rfl (RJ.fin [(0, _), (3, _), (7, _), (8, _), (9, _), (10, .bool (decide (x1 < (a0.length : Int))))] rfl (J.seq (J.cond rfl (fun c1 => ?_) (fun c1 => ?_))))
  ·replace H := Zi c1 H
   refine J.skip (J.seq (J.block (J.seq (J.region ?_))))
   refine RJ.run Za 1 rfl ?_
   obtain ⟨⟨p1, p2⟩, H⟩ := Zo H
   have e1 := Zy h2.wh (Gives.self 1 rfl) p1 p2
   refine RJ.q rfl rfl (Zk Za rfl rfl rfl rfl rfl e1 p1 p2) (RJ.q rfl rfl (Ze (f := 0) Za rfl h2.wht (Gives.self 1 rfl) p1 p2 rfl rfl rfl rfl rfl) (RJ.run Za 2 rfl (RJ.fin [(0, _), (3, _), (5, .int .i64 x1), (6, .string ⟨⟨(gt a0 x1)⟩⟩), (7, _), (8, _), (9, _)] rfl (J.seq (J.region ?_)))))
   refine RJ.q rfl rfl (Zc Za 0 h2.wht rfl rfl rfl rfl rfl) (RJ.run Za 1 rfl ?_)
   obtain ⟨r1, q1, H⟩ := Zj H
   refine RJ.op rfl rfl (Zd [] (Q26.spec q1) rfl rfl rfl h2 rfl Zm) ?_
   rintro _ w3 ⟨_, ⟨rfl, rfl⟩, h3⟩
   replace h3 : St w0 F0 [_] _ _ := h3
   refine RJ.run Za 2 rfl ?_
   rcases Bool.eq_false_or_eq_true (!r1) with c2 | c2
   ·replace H := Zi c2 H
    refine RJ.know (t := 18) rfl (congrArg Value.bool c2) (RJ.run Za 19 rfl (RJ.fin [(0, _), (3, _), (7, _), (8, _), (9, _), (37, .bool true)] rfl (J.condT rfl (J.seq (J.region ?_)))))
    refine RJ.run Za 1 rfl (RJ.fin [(4, .bool false)] rfl (J.ret ?_))
    obtain rfl := Option.some.inj H
    exact ⟨_, _, _, (Zb rfl), ⟨rfl, rfl⟩, h3.only [] rfl⟩
   replace H := Zg c2 H
   refine RJ.know (t := 18) rfl (congrArg Value.bool c2) (RJ.run Za 2 rfl (RJ.q rfl rfl (Zc Za 0 h3.wht rfl rfl rfl rfl rfl) (RJ.run Za 3 rfl ?_)))
   rcases Bool.eq_false_or_eq_true (decide ((gt a0 x1) = a1.1)) with c3 | c3
   ·replace H := Zi c3 H
    refine RJ.know (t := 24) rfl (congrArg Value.bool c3) (RJ.run Za 13 rfl (RJ.fin [(0, _), (3, _), (7, _), (8, _), (9, _), (37, .bool true)] rfl (J.condT rfl (J.seq (J.region ?_)))))
    refine RJ.run Za 1 rfl (RJ.fin [(4, .bool false)] rfl (J.ret ?_))
    obtain rfl := Option.some.inj H
    exact ⟨_, _, _, (Zb rfl), ⟨rfl, rfl⟩, h3.only [] rfl⟩
   replace H := Zg c3 H
   refine RJ.know (t := 24) rfl (congrArg Value.bool c3) (RJ.run Za 3 rfl ?_)
   rcases Bool.eq_false_or_eq_true (decide (0 < x1)) with c4 | c4
   ·replace H := Zi c4 H
    refine RJ.know (t := 27) rfl (congrArg Value.bool c4) (RJ.run Za 3 rfl ?_)
    obtain ⟨⟨p3, p4⟩, H⟩ := Zo H
    refine RJ.q rfl rfl (Zk Za rfl rfl rfl rfl rfl e1 p3 p4) (RJ.q rfl rfl (Ze (f := 0) Za rfl h3.wht (Gives.self 1 rfl) p3 p4 rfl rfl rfl rfl rfl) (RJ.run Za 1 rfl ?_))
    obtain ⟨r2, q2, H⟩ := Zj H
    refine RJ.op rfl rfl (Zd [] (Q25.spec q2) rfl rfl rfl h3 rfl Zm) ?_
    rintro _ w4 ⟨_, ⟨rfl, rfl⟩, h4⟩
    replace h4 : St w0 F0 [_] _ _ := h4
    refine RJ.run Za 3 rfl (RJ.fin [(0, _), (3, _), (7, _), (8, _), (9, _), (37, .bool (decide (0 ≤ r2)))] rfl (J.cond rfl (fun c5 => ?_) (fun c5 => ?_)))
    ·replace H := Zi c5 H
     refine J.seq (J.region ?_)
     refine RJ.run Za 1 rfl (RJ.fin [(4, .bool false)] rfl (J.ret ?_))
     obtain rfl := Option.some.inj H
     exact ⟨_, _, _, (Zb rfl), ⟨rfl, rfl⟩, h4.only [] rfl⟩
    replace H := Zg c5 H
    refine J.skip (J.region (RJ.run Za 2 rfl (RJ.fin [(0, _), (3, _), (7, _), (8, _), (9, .int .i64 (w64 (x1 + 1)))] rfl ?_)))
    have h5 := ((h4.only [0] rfl).rds [0] rfl)
    exact ⟨k1, by omega, (w64 (x1 + 1)), rfl, h5, H⟩
   replace H := Zg c4 H
   refine RJ.know (t := 27) rfl (congrArg Value.bool c4) (RJ.run Za 10 rfl (RJ.fin [(0, _), (3, _), (7, _), (8, _), (9, _), (37, .bool false)] rfl (J.condF rfl (J.skip (J.region (RJ.run Za 2 rfl (RJ.fin [(0, _), (3, _), (7, _), (8, _), (9, .int .i64 (w64 (x1 + 1)))] rfl ?_)))))))
   have h6 := ((h3.only [0] rfl).rds [0] rfl)
   exact ⟨k1, by omega, (w64 (x1 + 1)), rfl, h6, H⟩
  replace H := Zg c1 H
  refine J.exit (J.seq (J.region ?_))
  refine RJ.run Za 1 rfl (RJ.fin [(4, .bool true)] rfl (J.ret ?_))
  obtain rfl := Option.some.inj H
  exact ⟨_, _, _, (Zb rfl), ⟨rfl, rfl⟩, h2.only [] rfl⟩

def Q30.f (a0 : List UInt8) (a1 : Int × Int × Int × Int × Int × Int × Int × Int) : Option (Bool) := (Q27.f (a1.1, a1.2.1, a1.2.2.1, a1.2.2.2.1, a1.2.2.2.2.1, a1.2.2.2.2.2.1, a1.2.2.2.2.2.2.1, a1.2.2.2.2.2.2.2) a0).bind fun r1 => (some (!r1))
theorem Q30.spec {a0 : List UInt8} {a1 : Int × Int × Int × Int × Int × Int × Int × Int} {b1 : Nat} {r : Bool} (H : Q30.f a0 a1 = some r) :
  Spec Tryz.prog 74 [.string ⟨⟨a0⟩⟩, .pointer (some ⟨b1, 0, none⟩)] [Zh b1 23 [.int .i64 a1.1, .int .i64 a1.2.1, .int .i64 a1.2.2.1, .int .i64 a1.2.2.2.1, .int .i64 a1.2.2.2.2.1, .int .i64 a1.2.2.2.2.2.1, .int .i64 a1.2.2.2.2.2.2.1, .int .i64 a1.2.2.2.2.2.2.2]] [] (fun v l => v = .bool r ∧ l = [Zh b1 23 [.int .i64 a1.1, .int .i64 a1.2.1, .int .i64 a1.2.2.1, .int .i64 a1.2.2.2.1, .int .i64 a1.2.2.2.2.1, .int .i64 a1.2.2.2.2.2.1, .int .i64 a1.2.2.2.2.2.2.1, .int .i64 a1.2.2.2.2.2.2.2]]) := by
 refine Spec.enter Tryz.func74 rfl (by kernel_rfl) (by kernel_rfl) fun w0 F0 h0 => ?_
 unfold Q30.f at H
 refine J.seq (J.region ?_)
 refine RJ.run Za 1 rfl (RJ.fin [(0, .string ⟨⟨a0⟩⟩), (1, .pointer (some ⟨b1, 0, none⟩))] rfl (J.seq (J.region ?_)))
 refine RJ.q rfl rfl (Zc Za 0 h0.wht rfl rfl rfl rfl rfl) (RJ.run Za 1 rfl ?_)
 obtain ⟨r1, q1, H⟩ := Zj H
 refine RJ.op rfl rfl (Zd [] (Q27.spec q1) rfl rfl rfl h0 rfl Zm) ?_
 rintro _ w1 ⟨_, ⟨rfl, rfl⟩, h1⟩
 replace h1 : St w0 F0 [Zh b1 23 [.int .i64 a1.1, .int .i64 a1.2.1, .int .i64 a1.2.2.1, .int .i64 a1.2.2.2.1, .int .i64 a1.2.2.2.2.1, .int .i64 a1.2.2.2.2.2.1, .int .i64 a1.2.2.2.2.2.2.1, .int .i64 a1.2.2.2.2.2.2.2]] _ _ := h1
 refine RJ.run Za 2 rfl (RJ.fin [(3, .bool (!r1))] rfl (J.ret ?_))
 obtain rfl := Option.some.inj H
 exact ⟨_, _, _, (Zb rfl), ⟨rfl, rfl⟩, h1.only [0] rfl⟩

def Q48.l0 : Nat → (List (List UInt8)) → (Int × Int × Int × Int × Int × Int × Int × Int) → (Int) → Option (Int)
 | 0, _, _, _ => none
 | k + 1, a0, a2, x1 => if (decide (x1 < (a0.length : Int))) = true then (if 0 ≤ x1 ∧ x1 < (a0.length : Int) then ((Q30.f (gt a0 x1) (a2.1, a2.2.1, a2.2.2.1, a2.2.2.2.1, a2.2.2.2.2.1, a2.2.2.2.2.2.1, a2.2.2.2.2.2.2.1, a2.2.2.2.2.2.2.2)).bind fun r1 => (if r1 = true then (some x1) else (Q48.l0 k a0 a2 (w64 (x1 + 1))))) else none) else (some (-1))
def Q48.f (k : Nat) (a0 : List (List UInt8)) (a2 : Int × Int × Int × Int × Int × Int × Int × Int) : Option (Int) := Q48.l0 k a0 a2 0
theorem Q48.spec {k : Nat} {a0 : List (List UInt8)} {a2 : Int × Int × Int × Int × Int × Int × Int × Int} {A1 : Option Addr} {c_1 : Nat} {b1 : Nat} {r : Int} (H : Q48.f k a0 a2 = some r) :
  Spec Tryz.prog 92 [.slice A1 a0.length c_1, .func (.func 74) #[] #[.pointer (some ⟨b1, 0, none⟩)]] [Zh b1 23 [.int .i64 a2.1, .int .i64 a2.2.1, .int .i64 a2.2.2.1, .int .i64 a2.2.2.2.1, .int .i64 a2.2.2.2.2.1, .int .i64 a2.2.2.2.2.2.1, .int .i64 a2.2.2.2.2.2.2.1, .int .i64 a2.2.2.2.2.2.2.2]] [rdC 9 .str a0 (.slice A1 a0.length c_1)] (fun v l => v = .int .i64 r ∧ l = [Zh b1 23 [.int .i64 a2.1, .int .i64 a2.2.1, .int .i64 a2.2.2.1, .int .i64 a2.2.2.2.1, .int .i64 a2.2.2.2.2.1, .int .i64 a2.2.2.2.2.2.1, .int .i64 a2.2.2.2.2.2.2.1, .int .i64 a2.2.2.2.2.2.2.2]]) := by
 refine Spec.enter Tryz.func92 rfl (by kernel_rfl) (by kernel_rfl) fun w0 F0 h0 => ?_
 unfold Q48.f at H
 refine J.seq (J.region ?_)
 refine RJ.run Za 1 rfl (RJ.fin [(0, .slice A1 a0.length c_1), (1, .func (.func 74) #[] #[.pointer (some ⟨b1, 0, none⟩)])] rfl ?_)
 refine J.seq (J.seq (J.region ?_))
 refine RJ.run Za 3 rfl (RJ.fin [(0, _), (1, _), (7, .int .i64 (a0.length : Int)), (8, .int .i64 0)] rfl (J.block ?_))
 have h4 := ((h0.only [0] rfl).rds [0] rfl)
 refine J.loop (fun kk env w => ∃ (x1 : Int), env = [(0, .slice A1 a0.length c_1), (1, .func (.func 74) #[] #[.pointer (some ⟨b1, 0, none⟩)]), (7, .int .i64 (a0.length : Int)), (8, .int .i64 x1)] ∧ St w0 F0 [Zh b1 23 [.int .i64 a2.1, .int .i64 a2.2.1, .int .i64 a2.2.2.1, .int .i64 a2.2.2.2.1, .int .i64 a2.2.2.2.2.1, .int .i64 a2.2.2.2.2.2.1, .int .i64 a2.2.2.2.2.2.2.1, .int .i64 a2.2.2.2.2.2.2.2]] [rdC 9 .str a0 (.slice A1 a0.length c_1)] w ∧ Q48.l0 kk a0 a2 x1 = some r) (k := k) ⟨0, rfl, h4, H⟩ ?_
 rintro k1 env w1 ⟨x1, rfl, h1, H⟩
 cases k1 with
 | zero => exact nomatch (show none = some r from H)
 | succ k1 =>
  rw [Q48.l0] at H
  refine J.seq (J.region ?_)
  refine RJ.run Za 1 rfl (RJ.fin [(0, _), (1, _), (7, _), (8, _), (9, .bool (decide (x1 < (a0.length : Int))))] rfl (J.seq (J.cond rfl (fun c1 => ?_) (fun c1 => ?_))))
  ·replace H := Zi c1 H
   refine J.skip (J.seq (J.block (J.seq (J.region ?_))))
   refine RJ.run Za 2 rfl (RJ.fin [(0, _), (1, _), (5, .int .i64 x1), (7, _), (8, _)] rfl (J.seq (J.region ?_)))
   refine RJ.run Za 3 rfl ?_
   obtain ⟨⟨p1, p2⟩, H⟩ := Zo H
   have e1 := Zy h1.wh (Gives.self 1 rfl) p1 p2
   refine RJ.q rfl rfl (Zk Za rfl rfl rfl rfl rfl e1 p1 p2) (RJ.q rfl rfl (Ze (f := 0) Za rfl h1.wht (Gives.self 1 rfl) p1 p2 rfl rfl rfl rfl rfl) ?_)
   obtain ⟨r1, q1, H⟩ := Zj H
   refine RJ.op rfl rfl (Jw (vs := [.string ⟨⟨(gt a0 x1)⟩⟩]) (cs := [.pointer (some ⟨b1, 0, none⟩)]) [0] (Q30.spec q1) rfl rfl rfl h1 rfl Zm) ?_
   rintro _ w2 ⟨_, ⟨rfl, rfl⟩, h2⟩
   replace h2 : St w0 F0 [_] _ _ := h2
   refine RJ.fin [(0, _), (1, _), (5, _), (7, _), (8, _), (16, .bool r1)] rfl (J.cond rfl (fun c2 => ?_) (fun c2 => ?_))
   ·replace H := Zi c2 H
    refine J.seq (J.region ?_)
    refine RJ.run Za 2 rfl (RJ.fin [(4, .int .i64 x1)] rfl (J.ret ?_))
    obtain rfl := Option.some.inj H
    exact ⟨_, _, _, (Zb rfl), ⟨rfl, rfl⟩, h2.only [0] rfl⟩
   replace H := Zg c2 H
   refine J.skip (J.region (RJ.run Za 2 rfl (RJ.fin [(0, _), (1, _), (7, _), (8, .int .i64 (w64 (x1 + 1)))] rfl ?_)))
   have h3 := ((h2.only [0] rfl).rds [0] rfl)
   exact ⟨k1, by omega, (w64 (x1 + 1)), rfl, h3, H⟩
  replace H := Zg c1 H
  refine J.exit (J.seq (J.region ?_))
  refine RJ.run Za 1 rfl (RJ.fin [(4, .int .i64 (-1))] rfl (J.ret ?_))
  obtain rfl := Option.some.inj H
  exact ⟨_, _, _, (Zb rfl), ⟨rfl, rfl⟩, h1.only [0] rfl⟩

def Q42.f (k : Nat) (a0 : List (List UInt8)) (a2 : Int × Int × Int × Int × Int × Int × Int × Int) : Option (Bool) := (Q48.f k a0 (a2.1, a2.2.1, a2.2.2.1, a2.2.2.2.1, a2.2.2.2.2.1, a2.2.2.2.2.2.1, a2.2.2.2.2.2.2.1, a2.2.2.2.2.2.2.2)).bind fun r1 => (some (decide (0 ≤ r1)))
theorem Q42.spec {k : Nat} {a0 : List (List UInt8)} {a2 : Int × Int × Int × Int × Int × Int × Int × Int} {A1 : Option Addr} {c_1 : Nat} {b1 : Nat} {r : Bool} (H : Q42.f k a0 a2 = some r) :
  Spec Tryz.prog 73 [.slice A1 a0.length c_1, .func (.func 74) #[] #[.pointer (some ⟨b1, 0, none⟩)]] [Zh b1 23 [.int .i64 a2.1, .int .i64 a2.2.1, .int .i64 a2.2.2.1, .int .i64 a2.2.2.2.1, .int .i64 a2.2.2.2.2.1, .int .i64 a2.2.2.2.2.2.1, .int .i64 a2.2.2.2.2.2.2.1, .int .i64 a2.2.2.2.2.2.2.2]] [rdC 9 .str a0 (.slice A1 a0.length c_1)] (fun v l => v = .bool r ∧ l = [Zh b1 23 [.int .i64 a2.1, .int .i64 a2.2.1, .int .i64 a2.2.2.1, .int .i64 a2.2.2.2.1, .int .i64 a2.2.2.2.2.1, .int .i64 a2.2.2.2.2.2.1, .int .i64 a2.2.2.2.2.2.2.1, .int .i64 a2.2.2.2.2.2.2.2]]) := by
 refine Spec.enter Tryz.func73 rfl (by kernel_rfl) (by kernel_rfl) fun w0 F0 h0 => ?_
 unfold Q42.f at H
 refine J.seq (J.region ?_)
 refine RJ.run Za 1 rfl (RJ.fin [(0, .slice A1 a0.length c_1), (1, .func (.func 74) #[] #[.pointer (some ⟨b1, 0, none⟩)])] rfl ?_)
 refine J.seq (J.region ?_)
 refine RJ.run Za 2 rfl ?_
 obtain ⟨r1, q1, H⟩ := Zj H
 refine RJ.op rfl rfl (Zd [0] (Q48.spec q1) rfl rfl rfl h0 rfl (Zr (Gives.self 0 rfl) Zm)) ?_
 rintro _ w1 ⟨_, ⟨rfl, rfl⟩, h1⟩
 replace h1 : St w0 F0 [Zh b1 23 [.int .i64 a2.1, .int .i64 a2.2.1, .int .i64 a2.2.2.1, .int .i64 a2.2.2.2.1, .int .i64 a2.2.2.2.2.1, .int .i64 a2.2.2.2.2.2.1, .int .i64 a2.2.2.2.2.2.2.1, .int .i64 a2.2.2.2.2.2.2.2]] _ _ := h1
 refine RJ.run Za 2 rfl (RJ.fin [(4, .bool (decide (0 ≤ r1)))] rfl (J.ret ?_))
 obtain rfl := Option.some.inj H
 exact ⟨_, _, _, (Zb rfl), ⟨rfl, rfl⟩, h1.only [0] rfl⟩

def Q2.l0 : Nat → (List (List UInt8 × Bool × List UInt8)) → (Int) → Option (Bool)
 | 0, _, _ => none
 | k + 1, a0, x1 => if (decide (x1 < (w64 ((a0.length : Int) - 1)))) = true then (if 0 ≤ x1 ∧ x1 < (a0.length : Int) then (if 0 ≤ (w64 (x1 + 1)) ∧ (w64 (x1 + 1)) < (a0.length : Int) then ((Q25.f ((gt a0 x1).1) ((gt a0 (w64 (x1 + 1))).1)).bind fun r1 => (if (decide (0 ≤ r1)) = true then (some false) else (Q2.l0 k a0 (w64 (x1 + 1))))) else none) else none) else (some true)
def Q2.f (k : Nat) (a0 : List (List UInt8 × Bool × List UInt8)) : Option (Bool) := Q2.l0 k a0 0
theorem Q2.spec {k : Nat} {a0 : List (List UInt8 × Bool × List UInt8)} {A1 : Option Addr} {c_1 : Nat} {r : Bool} (H : Q2.f k a0 = some r) :
  Spec Tryz.prog 75 [.slice A1 a0.length c_1] [] [rdC 49 (.pair .str (.pair .bool .str)) a0 (.slice A1 a0.length c_1)] (fun v l => v = .bool r ∧ l = []) := by
 refine Spec.enter Tryz.func75 rfl (by kernel_rfl) (by kernel_rfl) fun w0 F0 h0 => ?_
 unfold Q2.f at H
 refine J.seq (J.region ?_)
 refine RJ.run Za 1 rfl (RJ.fin [(0, .slice A1 a0.length c_1)] rfl (J.seq (J.seq (J.region ?_))))
 refine RJ.run Za 4 rfl (RJ.fin [(0, _), (6, .int .i64 (w64 ((a0.length : Int) - 1))), (7, .int .i64 0)] rfl (J.block ?_))
 have h5 := ((h0.only [] rfl).rds [0] rfl)
 refine J.loop (fun kk env w => ∃ (x1 : Int), env = [(0, .slice A1 a0.length c_1), (6, .int .i64 (w64 ((a0.length : Int) - 1))), (7, .int .i64 x1)] ∧ St w0 F0 [] [rdC 49 (.pair .str (.pair .bool .str)) a0 (.slice A1 a0.length c_1)] w ∧ Q2.l0 kk a0 x1 = some r) (k := k) ⟨0, rfl, h5, H⟩ ?_
 rintro k1 env w1 ⟨x1, rfl, h1, H⟩
 cases k1 with
 | zero => exact nomatch (show none = some r from H)
 | succ k1 =>
  rw [Q2.l0] at H
  refine J.seq (J.region ?_)
  refine RJ.run Za 1 rfl (RJ.fin [(0, _), (6, _), (7, _), (8, .bool (decide (x1 < (w64 ((a0.length : Int) - 1)))))] rfl (J.seq (J.cond rfl (fun c1 => ?_) (fun c1 => ?_))))
  ·replace H := Zi c1 H
   refine J.skip (J.seq (J.block (J.seq (J.region ?_))))
   refine RJ.run Za 2 rfl (RJ.fin [(0, _), (3, .int .i64 x1), (6, _), (7, _)] rfl (J.seq (J.heldSt mix h1 ?_)))
   have h2 := h1.drew
   refine HJ.run Za rfl [0, 1, 5, 6, 7] rfl ?_
   obtain ⟨⟨p1, p2⟩, H⟩ := Zo H
   have e1 := Zy h2.wh (Gives.self 0 rfl) p1 p2
   refine HJ.q (i := 2) rfl rfl rfl rfl rfl rfl (Zk Za rfl rfl rfl rfl rfl e1 p1 p2) (HJ.run Za rfl [3] rfl (HJ.q (i := 4) rfl rfl rfl rfl rfl rfl (Ze (f := 0) Za rfl (fun w e => e) (Gives.self 0 rfl) p1 p2 rfl rfl rfl rfl rfl) ?_))
   obtain ⟨⟨p3, p4⟩, H⟩ := Zo H
   refine HJ.q (i := 8) rfl rfl rfl rfl rfl rfl (Zk Za rfl rfl rfl rfl rfl e1 p3 p4) (HJ.run Za rfl [9] rfl (HJ.q (i := 10) rfl rfl rfl rfl rfl rfl (Ze (f := 0) Za rfl (fun w e => e) (Gives.self 0 rfl) p3 p4 rfl rfl rfl rfl rfl) ?_))
   obtain ⟨r1, q1, H⟩ := Zj H
   refine HJ.op (i := 11) rfl rfl rfl rfl rfl (Zd [] (Q25.spec q1) rfl rfl rfl h2 rfl Zm) ?_
   rintro _ w2 ⟨_, ⟨rfl, rfl⟩, h3⟩
   replace h3 : St w0 F0 [] _ _ := h3
   refine ⟨⟨[], h3⟩, ?_⟩
   refine HJ.run Za rfl [12] rfl (HJ.fin [(0, _), (6, _), (7, _), (22, .bool (decide (0 ≤ r1)))] rfl rfl (J.cond rfl (fun c2 => ?_) (fun c2 => ?_)))
   ·replace H := Zi c2 H
    refine J.seq (J.region ?_)
    refine RJ.run Za 1 rfl (RJ.fin [(2, .bool false)] rfl (J.ret ?_))
    obtain rfl := Option.some.inj H
    exact ⟨_, _, _, (Zb rfl), ⟨rfl, rfl⟩, h3.only [] rfl⟩
   replace H := Zg c2 H
   refine J.skip (J.region (RJ.run Za 2 rfl (RJ.fin [(0, _), (6, _), (7, .int .i64 (w64 (x1 + 1)))] rfl ?_)))
   have h4 := ((h3.only [] rfl).rds [0] rfl)
   exact ⟨k1, by omega, (w64 (x1 + 1)), rfl, h4, H⟩
  replace H := Zg c1 H
  refine J.exit (J.seq (J.region ?_))
  refine RJ.run Za 1 rfl (RJ.fin [(2, .bool true)] rfl (J.ret ?_))
  obtain rfl := Option.some.inj H
  exact ⟨_, _, _, (Zb rfl), ⟨rfl, rfl⟩, h1.only [] rfl⟩

def Q31.f (a0 : List UInt8 × Bool × List UInt8) (a1 : Int × Int × Int × Int × Int × Int × Int × Int) (a2 : List UInt8 × List UInt8 × Bool) : Option (Bool) := (Q27.f (a1.1, a1.2.1, a1.2.2.1, a1.2.2.2.1, a1.2.2.2.2.1, a1.2.2.2.2.2.1, a1.2.2.2.2.2.2.1, a1.2.2.2.2.2.2.2) a0.1).bind fun r1 => (if (!r1) = true then (some true) else ((Q26.f (a2.1, a2.2.1, a2.2.2) a0.1).bind fun r2 => (if (!r2) = true then (some true) else (if (decide (a1.2.2.2.2.2.2.2 < (a0.2.2.length : Int))) = true then (some true) else (if a0.2.1 = true then (some (!decide (a0.2.2 = ([] : List UInt8)))) else (some false))))))
theorem Q31.spec {a0 : List UInt8 × Bool × List UInt8} {a1 : Int × Int × Int × Int × Int × Int × Int × Int} {a2 : List UInt8 × List UInt8 × Bool} {b1 : Nat} {b2 : Nat} {r : Bool} (H : Q31.f a0 a1 a2 = some r) :
  Spec Tryz.prog 77 [.agg #[.string ⟨⟨a0.1⟩⟩, .bool a0.2.1, .string ⟨⟨a0.2.2⟩⟩], .pointer (some ⟨b1, 0, none⟩), .pointer (some ⟨b2, 0, none⟩)] [Zh b1 23 [.int .i64 a1.1, .int .i64 a1.2.1, .int .i64 a1.2.2.1, .int .i64 a1.2.2.2.1, .int .i64 a1.2.2.2.2.1, .int .i64 a1.2.2.2.2.2.1, .int .i64 a1.2.2.2.2.2.2.1, .int .i64 a1.2.2.2.2.2.2.2], Zh b2 55 [.string ⟨⟨a2.1⟩⟩, .string ⟨⟨a2.2.1⟩⟩, .bool a2.2.2]] [] (fun v l => v = .bool r ∧ l = [Zh b1 23 [.int .i64 a1.1, .int .i64 a1.2.1, .int .i64 a1.2.2.1, .int .i64 a1.2.2.2.1, .int .i64 a1.2.2.2.2.1, .int .i64 a1.2.2.2.2.2.1, .int .i64 a1.2.2.2.2.2.2.1, .int .i64 a1.2.2.2.2.2.2.2], Zh b2 55 [.string ⟨⟨a2.1⟩⟩, .string ⟨⟨a2.2.1⟩⟩, .bool a2.2.2]]) := by
 refine Spec.enter Tryz.func77 rfl (by kernel_rfl) (by kernel_rfl) fun w0 F0 h0 => ?_
 unfold Q31.f at H
 refine J.seq (J.region ?_)
 refine RJ.op rfl rfl (Z2 rfl rfl h0) ?_
 rintro _ w1 ⟨b3, rfl, h1⟩
 replace h1 : St w0 F0 [Zh b3 49 [.string ⟨⟨a0.1⟩⟩, .bool a0.2.1, .string ⟨⟨a0.2.2⟩⟩], Zh b1 23 [.int .i64 a1.1, .int .i64 a1.2.1, .int .i64 a1.2.2.1, .int .i64 a1.2.2.2.1, .int .i64 a1.2.2.2.2.1, .int .i64 a1.2.2.2.2.2.1, .int .i64 a1.2.2.2.2.2.2.1, .int .i64 a1.2.2.2.2.2.2.2], Zh b2 55 [.string ⟨⟨a2.1⟩⟩, .string ⟨⟨a2.2.1⟩⟩, .bool a2.2.2]] _ _ := h1
 refine RJ.run Za 1 rfl (RJ.fin [(1, .pointer (some ⟨b1, 0, none⟩)), (2, .pointer (some ⟨b2, 0, none⟩)), (3, .pointer (some ⟨b3, 0, none⟩))] rfl (J.seq (J.region ?_)))
 refine RJ.q rfl rfl (Zc Za 1 h1.wht rfl rfl rfl rfl rfl) (RJ.run Za 1 rfl (RJ.q rfl rfl (Zc Za 0 h1.wht rfl rfl rfl rfl rfl) ?_))
 obtain ⟨r1, q1, H⟩ := Zj H
 refine RJ.op rfl rfl (Zd [] (Q27.spec q1) rfl rfl rfl h1 rfl Zm) ?_
 rintro _ w2 ⟨_, ⟨rfl, rfl⟩, h2⟩
 replace h2 : St w0 F0 [_, _, _] _ _ := h2
 refine RJ.run Za 2 rfl ?_
 rcases Bool.eq_false_or_eq_true (!r1) with c1 | c1
 ·replace H := Zi c1 H
  refine RJ.know (t := 10) rfl (congrArg Value.bool c1) (RJ.run Za 24 rfl (RJ.fin [(4, .bool true)] rfl (J.ret ?_)))
  obtain rfl := Option.some.inj H
  exact ⟨_, _, _, (Zb rfl), ⟨rfl, rfl⟩, h2.only [1, 1] rfl⟩
 replace H := Zg c1 H
 refine RJ.know (t := 10) rfl (congrArg Value.bool c1) (RJ.q rfl rfl (Zc Za 2 h2.wht rfl rfl rfl rfl rfl) (RJ.run Za 1 rfl (RJ.q rfl rfl (Zc Za 0 h2.wht rfl rfl rfl rfl rfl) ?_)))
 obtain ⟨r2, q2, H⟩ := Zj H
 refine RJ.op rfl rfl (Zd [] (Q26.spec q2) rfl rfl rfl h2 rfl Zm) ?_
 rintro _ w3 ⟨_, ⟨rfl, rfl⟩, h3⟩
 replace h3 : St w0 F0 [_, _, _] _ _ := h3
 refine RJ.run Za 3 rfl ?_
 rcases Bool.eq_false_or_eq_true (!r2) with c2 | c2
 ·replace H := Zi c2 H
  refine RJ.know (t := 17) rfl (congrArg Value.bool c2) (RJ.run Za 17 rfl (RJ.fin [(4, .bool true)] rfl (J.ret ?_)))
  obtain rfl := Option.some.inj H
  exact ⟨_, _, _, (Zb rfl), ⟨rfl, rfl⟩, h3.only [1, 1] rfl⟩
 replace H := Zg c2 H
 refine RJ.know (t := 17) rfl (congrArg Value.bool c2) (RJ.run Za 1 rfl (RJ.q rfl rfl (Zc Za 0 h3.wht rfl rfl rfl rfl rfl) (RJ.run Za 2 rfl (RJ.q rfl rfl (Zc Za 1 h3.wht rfl rfl rfl rfl rfl) (RJ.run Za 3 rfl ?_)))))
 rcases Bool.eq_false_or_eq_true (decide (a1.2.2.2.2.2.2.2 < (a0.2.2.length : Int))) with c3 | c3
 ·replace H := Zi c3 H
  refine RJ.know (t := 25) rfl (congrArg Value.bool c3) (RJ.run Za 9 rfl (RJ.fin [(4, .bool true)] rfl (J.ret ?_)))
  obtain rfl := Option.some.inj H
  exact ⟨_, _, _, (Zb rfl), ⟨rfl, rfl⟩, h3.only [1, 1] rfl⟩
 replace H := Zg c3 H
 refine RJ.know (t := 25) rfl (congrArg Value.bool c3) (RJ.run Za 1 rfl (RJ.q rfl rfl (Zc Za 0 h3.wht rfl rfl rfl rfl rfl) (RJ.run Za 1 rfl ?_)))
 rcases Bool.eq_false_or_eq_true a0.2.1 with c4 | c4
 ·replace H := Zi c4 H
  refine RJ.know (t := 28) rfl (congrArg Value.bool c4) (RJ.run Za 1 rfl (RJ.q rfl rfl (Zc Za 0 h3.wht rfl rfl rfl rfl rfl) (RJ.run Za 4 rfl (RJ.fin [(4, .bool (!decide (a0.2.2 = ([] : List UInt8))))] rfl (J.ret ?_)))))
  obtain rfl := Option.some.inj H
  exact ⟨_, _, _, (Zb rfl), ⟨rfl, rfl⟩, h3.only [1, 1] rfl⟩
 replace H := Zg c4 H
 refine RJ.know (t := 28) rfl (congrArg Value.bool c4) (RJ.run Za 6 rfl (RJ.fin [(4, .bool false)] rfl (J.ret ?_)))
 obtain rfl := Option.some.inj H
 exact ⟨_, _, _, (Zb rfl), ⟨rfl, rfl⟩, h3.only [1, 1] rfl⟩

def Q44.l0 : Nat → (List (List UInt8 × Bool × List UInt8)) → (Int × Int × Int × Int × Int × Int × Int × Int) → (List UInt8 × List UInt8 × Bool) → (Int) → Option (Int)
 | 0, _, _, _, _ => none
 | k + 1, a0, a2, a3, x1 => if (decide (x1 < (a0.length : Int))) = true then (if 0 ≤ x1 ∧ x1 < (a0.length : Int) then ((Q31.f ((gt a0 x1).1, (gt a0 x1).2.1, (gt a0 x1).2.2) (a2.1, a2.2.1, a2.2.2.1, a2.2.2.2.1, a2.2.2.2.2.1, a2.2.2.2.2.2.1, a2.2.2.2.2.2.2.1, a2.2.2.2.2.2.2.2) (a3.1, a3.2.1, a3.2.2)).bind fun r1 => (if r1 = true then (some x1) else (Q44.l0 k a0 a2 a3 (w64 (x1 + 1))))) else none) else (some (-1))
def Q44.f (k : Nat) (a0 : List (List UInt8 × Bool × List UInt8)) (a2 : Int × Int × Int × Int × Int × Int × Int × Int) (a3 : List UInt8 × List UInt8 × Bool) : Option (Int) := Q44.l0 k a0 a2 a3 0
theorem Q44.spec {k : Nat} {a0 : List (List UInt8 × Bool × List UInt8)} {a2 : Int × Int × Int × Int × Int × Int × Int × Int} {a3 : List UInt8 × List UInt8 × Bool} {A1 : Option Addr} {c_1 : Nat} {b1 : Nat} {b2 : Nat} {r : Int} (H : Q44.f k a0 a2 a3 = some r) :
  Spec Tryz.prog 93 [.slice A1 a0.length c_1, .func (.func 77) #[] #[.pointer (some ⟨b1, 0, none⟩), .pointer (some ⟨b2, 0, none⟩)]] [Zh b1 23 [.int .i64 a2.1, .int .i64 a2.2.1, .int .i64 a2.2.2.1, .int .i64 a2.2.2.2.1, .int .i64 a2.2.2.2.2.1, .int .i64 a2.2.2.2.2.2.1, .int .i64 a2.2.2.2.2.2.2.1, .int .i64 a2.2.2.2.2.2.2.2], Zh b2 55 [.string ⟨⟨a3.1⟩⟩, .string ⟨⟨a3.2.1⟩⟩, .bool a3.2.2]] [rdC 49 (.pair .str (.pair .bool .str)) a0 (.slice A1 a0.length c_1)] (fun v l => v = .int .i64 r ∧ l = [Zh b1 23 [.int .i64 a2.1, .int .i64 a2.2.1, .int .i64 a2.2.2.1, .int .i64 a2.2.2.2.1, .int .i64 a2.2.2.2.2.1, .int .i64 a2.2.2.2.2.2.1, .int .i64 a2.2.2.2.2.2.2.1, .int .i64 a2.2.2.2.2.2.2.2], Zh b2 55 [.string ⟨⟨a3.1⟩⟩, .string ⟨⟨a3.2.1⟩⟩, .bool a3.2.2]]) := by
 refine Spec.enter Tryz.func93 rfl (by kernel_rfl) (by kernel_rfl) fun w0 F0 h0 => ?_
 unfold Q44.f at H
 refine J.seq (J.region ?_)
 refine RJ.run Za 1 rfl (RJ.fin [(0, .slice A1 a0.length c_1), (1, .func (.func 77) #[] #[.pointer (some ⟨b1, 0, none⟩), .pointer (some ⟨b2, 0, none⟩)])] rfl ?_)
 refine J.seq (J.seq (J.region ?_))
 refine RJ.run Za 3 rfl (RJ.fin [(0, _), (1, _), (7, .int .i64 (a0.length : Int)), (8, .int .i64 0)] rfl (J.block ?_))
 have h4 := ((h0.only [0, 0] rfl).rds [0] rfl)
 refine J.loop (fun kk env w => ∃ (x1 : Int), env = [(0, .slice A1 a0.length c_1), (1, .func (.func 77) #[] #[.pointer (some ⟨b1, 0, none⟩), .pointer (some ⟨b2, 0, none⟩)]), (7, .int .i64 (a0.length : Int)), (8, .int .i64 x1)] ∧ St w0 F0 [Zh b1 23 [.int .i64 a2.1, .int .i64 a2.2.1, .int .i64 a2.2.2.1, .int .i64 a2.2.2.2.1, .int .i64 a2.2.2.2.2.1, .int .i64 a2.2.2.2.2.2.1, .int .i64 a2.2.2.2.2.2.2.1, .int .i64 a2.2.2.2.2.2.2.2], Zh b2 55 [.string ⟨⟨a3.1⟩⟩, .string ⟨⟨a3.2.1⟩⟩, .bool a3.2.2]] [rdC 49 (.pair .str (.pair .bool .str)) a0 (.slice A1 a0.length c_1)] w ∧ Q44.l0 kk a0 a2 a3 x1 = some r) (k := k) ⟨0, rfl, h4, H⟩ ?_
 rintro k1 env w1 ⟨x1, rfl, h1, H⟩
 cases k1 with
 | zero => exact nomatch (show none = some r from H)
 | succ k1 =>
  rw [Q44.l0] at H
  refine J.seq (J.region ?_)
  refine RJ.run Za 1 rfl (RJ.fin [(0, _), (1, _), (7, _), (8, _), (9, .bool (decide (x1 < (a0.length : Int))))] rfl (J.seq (J.cond rfl (fun c1 => ?_) (fun c1 => ?_))))
  ·replace H := Zi c1 H
   refine J.skip (J.seq (J.block (J.seq (J.region ?_))))
   refine RJ.run Za 2 rfl (RJ.fin [(0, _), (1, _), (5, .int .i64 x1), (7, _), (8, _)] rfl (J.seq (J.region ?_)))
   refine RJ.run Za 3 rfl ?_
   obtain ⟨⟨p1, p2⟩, H⟩ := Zo H
   have e1 := Zy h1.wh (Gives.self 2 rfl) p1 p2
   refine RJ.q rfl rfl (Zk Za rfl rfl rfl rfl rfl e1 p1 p2) (RJ.q rfl rfl (Ze (f := 0) Za rfl h1.wht (Gives.self 2 rfl) p1 p2 rfl rfl rfl rfl rfl) ?_)
   obtain ⟨r1, q1, H⟩ := Zj H
   refine RJ.op rfl rfl (Jw (vs := [.agg #[.string ⟨⟨(gt a0 x1).1⟩⟩, .bool ((gt a0 x1).2.1), .string ⟨⟨(gt a0 x1).2.2⟩⟩]]) (cs := [.pointer (some ⟨b1, 0, none⟩), .pointer (some ⟨b2, 0, none⟩)]) [0, 0] (Q31.spec q1) rfl rfl rfl h1 rfl Zm) ?_
   rintro _ w2 ⟨_, ⟨rfl, rfl⟩, h2⟩
   replace h2 : St w0 F0 [_, _] _ _ := h2
   refine RJ.fin [(0, _), (1, _), (5, _), (7, _), (8, _), (16, .bool r1)] rfl (J.cond rfl (fun c2 => ?_) (fun c2 => ?_))
   ·replace H := Zi c2 H
    refine J.seq (J.region ?_)
    refine RJ.run Za 2 rfl (RJ.fin [(4, .int .i64 x1)] rfl (J.ret ?_))
    obtain rfl := Option.some.inj H
    exact ⟨_, _, _, (Zb rfl), ⟨rfl, rfl⟩, h2.only [0, 0] rfl⟩
   replace H := Zg c2 H
   refine J.skip (J.region (RJ.run Za 2 rfl (RJ.fin [(0, _), (1, _), (7, _), (8, .int .i64 (w64 (x1 + 1)))] rfl ?_)))
   have h3 := ((h2.only [0, 0] rfl).rds [0] rfl)
   exact ⟨k1, by omega, (w64 (x1 + 1)), rfl, h3, H⟩
  replace H := Zg c1 H
  refine J.exit (J.seq (J.region ?_))
  refine RJ.run Za 1 rfl (RJ.fin [(4, .int .i64 (-1))] rfl (J.ret ?_))
  obtain rfl := Option.some.inj H
  exact ⟨_, _, _, (Zb rfl), ⟨rfl, rfl⟩, h1.only [0, 0] rfl⟩

def Q38.f (k : Nat) (a0 : List (List UInt8 × Bool × List UInt8)) (a2 : Int × Int × Int × Int × Int × Int × Int × Int) (a3 : List UInt8 × List UInt8 × Bool) : Option (Bool) := (Q44.f k a0 (a2.1, a2.2.1, a2.2.2.1, a2.2.2.2.1, a2.2.2.2.2.1, a2.2.2.2.2.2.1, a2.2.2.2.2.2.2.1, a2.2.2.2.2.2.2.2) (a3.1, a3.2.1, a3.2.2)).bind fun r1 => (some (decide (0 ≤ r1)))
theorem Q38.spec {k : Nat} {a0 : List (List UInt8 × Bool × List UInt8)} {a2 : Int × Int × Int × Int × Int × Int × Int × Int} {a3 : List UInt8 × List UInt8 × Bool} {A1 : Option Addr} {c_1 : Nat} {b1 : Nat} {b2 : Nat} {r : Bool} (H : Q38.f k a0 a2 a3 = some r) :
  Spec Tryz.prog 76 [.slice A1 a0.length c_1, .func (.func 77) #[] #[.pointer (some ⟨b1, 0, none⟩), .pointer (some ⟨b2, 0, none⟩)]] [Zh b1 23 [.int .i64 a2.1, .int .i64 a2.2.1, .int .i64 a2.2.2.1, .int .i64 a2.2.2.2.1, .int .i64 a2.2.2.2.2.1, .int .i64 a2.2.2.2.2.2.1, .int .i64 a2.2.2.2.2.2.2.1, .int .i64 a2.2.2.2.2.2.2.2], Zh b2 55 [.string ⟨⟨a3.1⟩⟩, .string ⟨⟨a3.2.1⟩⟩, .bool a3.2.2]] [rdC 49 (.pair .str (.pair .bool .str)) a0 (.slice A1 a0.length c_1)] (fun v l => v = .bool r ∧ l = [Zh b1 23 [.int .i64 a2.1, .int .i64 a2.2.1, .int .i64 a2.2.2.1, .int .i64 a2.2.2.2.1, .int .i64 a2.2.2.2.2.1, .int .i64 a2.2.2.2.2.2.1, .int .i64 a2.2.2.2.2.2.2.1, .int .i64 a2.2.2.2.2.2.2.2], Zh b2 55 [.string ⟨⟨a3.1⟩⟩, .string ⟨⟨a3.2.1⟩⟩, .bool a3.2.2]]) := by
 refine Spec.enter Tryz.func76 rfl (by kernel_rfl) (by kernel_rfl) fun w0 F0 h0 => ?_
 unfold Q38.f at H
 refine J.seq (J.region ?_)
 refine RJ.run Za 1 rfl (RJ.fin [(0, .slice A1 a0.length c_1), (1, .func (.func 77) #[] #[.pointer (some ⟨b1, 0, none⟩), .pointer (some ⟨b2, 0, none⟩)])] rfl ?_)
 refine J.seq (J.region ?_)
 refine RJ.run Za 2 rfl ?_
 obtain ⟨r1, q1, H⟩ := Zj H
 refine RJ.op rfl rfl (Zd [0, 0] (Q44.spec q1) rfl rfl rfl h0 rfl (Zr (Gives.self 0 rfl) Zm)) ?_
 rintro _ w1 ⟨_, ⟨rfl, rfl⟩, h1⟩
 replace h1 : St w0 F0 [Zh b1 23 [.int .i64 a2.1, .int .i64 a2.2.1, .int .i64 a2.2.2.1, .int .i64 a2.2.2.2.1, .int .i64 a2.2.2.2.2.1, .int .i64 a2.2.2.2.2.2.1, .int .i64 a2.2.2.2.2.2.2.1, .int .i64 a2.2.2.2.2.2.2.2], Zh b2 55 [.string ⟨⟨a3.1⟩⟩, .string ⟨⟨a3.2.1⟩⟩, .bool a3.2.2]] _ _ := h1
 refine RJ.run Za 2 rfl (RJ.fin [(4, .bool (decide (0 ≤ r1)))] rfl (J.ret ?_))
 obtain rfl := Option.some.inj H
 exact ⟨_, _, _, (Zb rfl), ⟨rfl, rfl⟩, h1.only [0, 0] rfl⟩

def Q29.f (k : Nat) (a0 : Int × Int × Int × Int × Int × Int × Int × Int) (a1 : List UInt8 × List UInt8 × Bool) (a2 : Int × List (Int) × List (List UInt8) × (List (List UInt8 × Bool × List UInt8)) × (List (List UInt8 × List UInt8))) : Option (Bool) := if (decide (40 < a2.1)) = true then (some false) else (if (decide (0 < (a2.2.2.2.2.length : Int))) = true then (some false) else ((Q32.f k (a0.1, a0.2.1, a0.2.2.1, a0.2.2.2.1, a0.2.2.2.2.1, a0.2.2.2.2.2.1, a0.2.2.2.2.2.2.1, a0.2.2.2.2.2.2.2) a2.2.1).bind fun r1 => (if (!r1) = true then (some false) else (if (!decide ((a2.2.2.1.length : Int) = (w64 ((a2.2.1.length : Int) - 1)))) = true then (some false) else ((Q22.f k a2.2.2.1 (a1.1, a1.2.1, a1.2.2)).bind fun r2 => (if (!r2) = true then (some false) else ((Q42.f k a2.2.2.1 (a0.1, a0.2.1, a0.2.2.1, a0.2.2.2.1, a0.2.2.2.2.1, a0.2.2.2.2.2.1, a0.2.2.2.2.2.2.1, a0.2.2.2.2.2.2.2)).bind fun r3 => (if r3 = true then (some false) else (if (decide (a0.2.2.2.2.1 < (a2.2.2.2.1.length : Int))) = true then (some false) else ((Q2.f k a2.2.2.2.1).bind fun r4 => (if (!r4) = true then (some false) else ((Q38.f k a2.2.2.2.1 (a0.1, a0.2.1, a0.2.2.1, a0.2.2.2.1, a0.2.2.2.2.1, a0.2.2.2.2.2.1, a0.2.2.2.2.2.2.1, a0.2.2.2.2.2.2.2) (a1.1, a1.2.1, a1.2.2)).bind fun r5 => (some (!r5))))))))))))))
theorem Q29.spec {k : Nat} {a0 : Int × Int × Int × Int × Int × Int × Int × Int} {a1 : List UInt8 × List UInt8 × Bool} {a2 : Int × List (Int) × List (List UInt8) × (List (List UInt8 × Bool × List UInt8)) × (List (List UInt8 × List UInt8))} {A1 : Option Addr} {c_1 : Nat} {A2 : Option Addr} {c_2 : Nat} {A3 : Option Addr} {c_3 : Nat} {A4 : Option Addr} {c_4 : Nat} {r : Bool} (H : Q29.f k a0 a1 a2 = some r) :
  Spec Tryz.prog 40 [.agg #[.int .i64 a0.1, .int .i64 a0.2.1, .int .i64 a0.2.2.1, .int .i64 a0.2.2.2.1, .int .i64 a0.2.2.2.2.1, .int .i64 a0.2.2.2.2.2.1, .int .i64 a0.2.2.2.2.2.2.1, .int .i64 a0.2.2.2.2.2.2.2], .agg #[.string ⟨⟨a1.1⟩⟩, .string ⟨⟨a1.2.1⟩⟩, .bool a1.2.2], .agg #[.int .i64 a2.1, .slice A1 a2.2.1.length c_1, .slice A2 a2.2.2.1.length c_2, .slice A3 a2.2.2.2.1.length c_3, .slice A4 a2.2.2.2.2.length c_4]] [] [rdC 70 (.int .u32) a2.2.1 (.slice A1 a2.2.1.length c_1), rdC 9 .str a2.2.2.1 (.slice A2 a2.2.2.1.length c_2), rdC 49 (.pair .str (.pair .bool .str)) a2.2.2.2.1 (.slice A3 a2.2.2.2.1.length c_3), rdC 51 (.pair .str .str) a2.2.2.2.2 (.slice A4 a2.2.2.2.2.length c_4)] (fun v l => v = .bool r ∧ l = []) := by
 refine Spec.enter Tryz.func40 rfl (by kernel_rfl) (by kernel_rfl) fun w0 F0 h0 => ?_
 unfold Q29.f at H
 refine J.seq (J.region ?_)
 refine RJ.op rfl rfl (Z2 rfl rfl h0) ?_
 rintro _ w1 ⟨b1, rfl, h1⟩
 replace h1 : St w0 F0 [Zh b1 23 [.int .i64 a0.1, .int .i64 a0.2.1, .int .i64 a0.2.2.1, .int .i64 a0.2.2.2.1, .int .i64 a0.2.2.2.2.1, .int .i64 a0.2.2.2.2.2.1, .int .i64 a0.2.2.2.2.2.2.1, .int .i64 a0.2.2.2.2.2.2.2]] _ _ := h1
 refine RJ.op rfl rfl (Z2 rfl rfl h1) ?_
 rintro _ w2 ⟨b2, rfl, h2⟩
 replace h2 : St w0 F0 [Zh b2 55 [.string ⟨⟨a1.1⟩⟩, .string ⟨⟨a1.2.1⟩⟩, .bool a1.2.2], _] _ _ := h2
 refine RJ.op rfl rfl (Z2 rfl rfl h2) ?_
 rintro _ w3 ⟨b3, rfl, h3⟩
 replace h3 : St w0 F0 [Zh b3 29 [.int .i64 a2.1, .slice A1 a2.2.1.length c_1, .slice A2 a2.2.2.1.length c_2, .slice A3 a2.2.2.2.1.length c_3, .slice A4 a2.2.2.2.2.length c_4], _, _] _ _ := h3
 refine RJ.run Za 1 rfl (RJ.fin [(3, .pointer (some ⟨b1, 0, none⟩)), (4, .pointer (some ⟨b2, 0, none⟩)), (5, .pointer (some ⟨b3, 0, none⟩))] rfl (J.seq (J.seq (J.region ?_))))
 refine RJ.run Za 1 rfl (RJ.q rfl rfl (Zc Za 0 h3.wht rfl rfl rfl rfl rfl) (RJ.run Za 2 rfl ?_))
 rcases Bool.eq_false_or_eq_true (decide (40 < a2.1)) with c1 | c1
 ·replace H := Zi c1 H
  refine RJ.know (t := 10) rfl (congrArg Value.bool c1) (RJ.run Za 29 rfl (RJ.fin [(3, _), (4, _), (5, _), (39, .bool true)] rfl (J.condT rfl (J.seq (J.region ?_)))))
  refine RJ.run Za 1 rfl (RJ.fin [(6, .bool false)] rfl ?_)
  have h4 := h3.only [] rfl
  replace h4 : St w0 F0 [] _ _ := h4
  refine J.ret ?_
  obtain rfl := Option.some.inj H
  exact ⟨_, _, _, (Zb rfl), ⟨rfl, rfl⟩, h4.only [] rfl⟩
 replace H := Zg c1 H
 refine RJ.know (t := 10) rfl (congrArg Value.bool c1) (RJ.run Za 1 rfl (RJ.q rfl rfl (Zc Za 0 h3.wht rfl rfl rfl rfl rfl) (RJ.run Za 4 rfl ?_)))
 rcases Bool.eq_false_or_eq_true (decide (0 < (a2.2.2.2.2.length : Int))) with c2 | c2
 ·replace H := Zi c2 H
  refine RJ.know (t := 16) rfl (congrArg Value.bool c2) (RJ.run Za 23 rfl (RJ.fin [(3, _), (4, _), (5, _), (39, .bool true)] rfl (J.condT rfl (J.seq (J.region ?_)))))
  refine RJ.run Za 1 rfl (RJ.fin [(6, .bool false)] rfl ?_)
  have h5 := h3.only [] rfl
  replace h5 : St w0 F0 [] _ _ := h5
  refine J.ret ?_
  obtain rfl := Option.some.inj H
  exact ⟨_, _, _, (Zb rfl), ⟨rfl, rfl⟩, h5.only [] rfl⟩
 replace H := Zg c2 H
 refine RJ.know (t := 16) rfl (congrArg Value.bool c2) (RJ.q rfl rfl (Zc Za 2 h3.wht rfl rfl rfl rfl rfl) (RJ.run Za 1 rfl (RJ.q rfl rfl (Zc Za 0 h3.wht rfl rfl rfl rfl rfl) ?_)))
 obtain ⟨r1, q1, H⟩ := Zj H
 refine RJ.op rfl rfl (Zd [] (Q32.spec q1) rfl rfl rfl h3 rfl (Zr (Gives.self 3 rfl) Zm)) ?_
 rintro _ w4 ⟨_, ⟨rfl, rfl⟩, h6⟩
 replace h6 : St w0 F0 [_, _, _] _ _ := h6
 refine RJ.run Za 3 rfl ?_
 rcases Bool.eq_false_or_eq_true (!r1) with c3 | c3
 ·replace H := Zi c3 H
  refine RJ.know (t := 23) rfl (congrArg Value.bool c3) (RJ.run Za 16 rfl (RJ.fin [(3, _), (4, _), (5, _), (39, .bool true)] rfl (J.condT rfl (J.seq (J.region ?_)))))
  refine RJ.run Za 1 rfl (RJ.fin [(6, .bool false)] rfl ?_)
  have h7 := h6.only [] rfl
  replace h7 : St w0 F0 [] _ _ := h7
  refine J.ret ?_
  obtain rfl := Option.some.inj H
  exact ⟨_, _, _, (Zb rfl), ⟨rfl, rfl⟩, h7.only [] rfl⟩
 replace H := Zg c3 H
 refine RJ.know (t := 23) rfl (congrArg Value.bool c3) (RJ.run Za 1 rfl (RJ.q rfl rfl (Zc Za 0 h6.wht rfl rfl rfl rfl rfl) (RJ.run Za 2 rfl (RJ.q rfl rfl (Zc Za 0 h6.wht rfl rfl rfl rfl rfl) (RJ.run Za 5 rfl ?_)))))
 rcases Bool.eq_false_or_eq_true (!decide ((a2.2.2.1.length : Int) = (w64 ((a2.2.1.length : Int) - 1)))) with c4 | c4
 ·replace H := Zi c4 H
  refine RJ.know (t := 33) rfl (congrArg Value.bool c4) (RJ.run Za 6 rfl (RJ.fin [(3, _), (4, _), (5, _), (39, .bool true)] rfl (J.condT rfl (J.seq (J.region ?_)))))
  refine RJ.run Za 1 rfl (RJ.fin [(6, .bool false)] rfl ?_)
  have h8 := h6.only [] rfl
  replace h8 : St w0 F0 [] _ _ := h8
  refine J.ret ?_
  obtain rfl := Option.some.inj H
  exact ⟨_, _, _, (Zb rfl), ⟨rfl, rfl⟩, h8.only [] rfl⟩
 replace H := Zg c4 H
 refine RJ.know (t := 33) rfl (congrArg Value.bool c4) (RJ.run Za 1 rfl (RJ.q rfl rfl (Zc Za 0 h6.wht rfl rfl rfl rfl rfl) (RJ.q rfl rfl (Zc Za 1 h6.wht rfl rfl rfl rfl rfl) ?_)))
 obtain ⟨r2, q2, H⟩ := Zj H
 refine RJ.op rfl rfl (Zd [] (Q22.spec q2) rfl rfl rfl h6 rfl (Zr (Gives.self 4 rfl) Zm)) ?_
 rintro _ w5 ⟨_, ⟨rfl, rfl⟩, h9⟩
 replace h9 : St w0 F0 [_, _, _] _ _ := h9
 refine RJ.run Za 2 rfl (RJ.fin [(3, _), (4, _), (5, _), (39, .bool (!r2))] rfl (J.cond rfl (fun c5 => ?_) (fun c5 => ?_)))
 ·replace H := Zi c5 H
  refine J.seq (J.region ?_)
  refine RJ.run Za 1 rfl (RJ.fin [(6, .bool false)] rfl ?_)
  have h10 := h9.only [] rfl
  replace h10 : St w0 F0 [] _ _ := h10
  refine J.ret ?_
  obtain rfl := Option.some.inj H
  exact ⟨_, _, _, (Zb rfl), ⟨rfl, rfl⟩, h10.only [] rfl⟩
 replace H := Zg c5 H
 refine J.skip (J.seq (J.seq (J.region ?_)))
 refine RJ.run Za 1 rfl (RJ.q rfl rfl (Zc Za 0 h9.wht rfl rfl rfl rfl rfl) (RJ.run Za 1 rfl ?_))
 obtain ⟨r3, q3, H⟩ := Zj H
 refine RJ.op rfl rfl (Zd [2] (Q42.spec q3) rfl rfl rfl h9 rfl (Zr (Gives.self 3 rfl) Zm)) ?_
 rintro _ w6 ⟨_, ⟨rfl, rfl⟩, h11⟩
 replace h11 : St w0 F0 [_, _, _] _ _ := h11
 refine RJ.run Za 1 rfl ?_
 rcases Bool.eq_false_or_eq_true r3 with c6 | c6
 ·replace H := Zi c6 H
  refine RJ.know (t := 44) rfl (congrArg Value.bool c6) (RJ.run Za 13 rfl (RJ.fin [(3, _), (4, _), (5, _), (57, .bool true)] rfl (J.condT rfl (J.seq (J.region ?_)))))
  refine RJ.run Za 1 rfl (RJ.fin [(6, .bool false)] rfl ?_)
  have h12 := h11.only [] rfl
  replace h12 : St w0 F0 [] _ _ := h12
  refine J.ret ?_
  obtain rfl := Option.some.inj H
  exact ⟨_, _, _, (Zb rfl), ⟨rfl, rfl⟩, h12.only [] rfl⟩
 replace H := Zg c6 H
 refine RJ.know (t := 44) rfl (congrArg Value.bool c6) (RJ.run Za 1 rfl (RJ.q rfl rfl (Zc Za 1 h11.wht rfl rfl rfl rfl rfl) (RJ.run Za 2 rfl (RJ.q rfl rfl (Zc Za 0 h11.wht rfl rfl rfl rfl rfl) (RJ.run Za 3 rfl ?_)))))
 rcases Bool.eq_false_or_eq_true (decide (a0.2.2.2.2.1 < (a2.2.2.2.1.length : Int))) with c7 | c7
 ·replace H := Zi c7 H
  refine RJ.know (t := 52) rfl (congrArg Value.bool c7) (RJ.run Za 5 rfl (RJ.fin [(3, _), (4, _), (5, _), (57, .bool true)] rfl (J.condT rfl (J.seq (J.region ?_)))))
  refine RJ.run Za 1 rfl (RJ.fin [(6, .bool false)] rfl ?_)
  have h13 := h11.only [] rfl
  replace h13 : St w0 F0 [] _ _ := h13
  refine J.ret ?_
  obtain rfl := Option.some.inj H
  exact ⟨_, _, _, (Zb rfl), ⟨rfl, rfl⟩, h13.only [] rfl⟩
 replace H := Zg c7 H
 refine RJ.know (t := 52) rfl (congrArg Value.bool c7) (RJ.run Za 1 rfl (RJ.q rfl rfl (Zc Za 1 h11.wht rfl rfl rfl rfl rfl) ?_))
 obtain ⟨r4, q4, H⟩ := Zj H
 refine RJ.op rfl rfl (Zd [] (Q2.spec q4) rfl rfl rfl h11 rfl (Zr (Gives.self 5 rfl) Zm)) ?_
 rintro _ w7 ⟨_, ⟨rfl, rfl⟩, h14⟩
 replace h14 : St w0 F0 [_, _, _] _ _ := h14
 refine RJ.run Za 2 rfl (RJ.fin [(3, _), (4, _), (5, _), (57, .bool (!r4))] rfl (J.cond rfl (fun c8 => ?_) (fun c8 => ?_)))
 ·replace H := Zi c8 H
  refine J.seq (J.region ?_)
  refine RJ.run Za 1 rfl (RJ.fin [(6, .bool false)] rfl ?_)
  have h15 := h14.only [] rfl
  replace h15 : St w0 F0 [] _ _ := h15
  refine J.ret ?_
  obtain rfl := Option.some.inj H
  exact ⟨_, _, _, (Zb rfl), ⟨rfl, rfl⟩, h15.only [] rfl⟩
 replace H := Zg c8 H
 refine J.skip (J.seq (J.region ?_))
 refine RJ.run Za 1 rfl (RJ.q rfl rfl (Zc Za 1 h14.wht rfl rfl rfl rfl rfl) (RJ.run Za 1 rfl ?_))
 obtain ⟨r5, q5, H⟩ := Zj H
 refine RJ.op rfl rfl (Zd [0, 1] (Q38.spec q5) rfl rfl rfl h14 rfl (Zr (Gives.self 3 rfl) Zm)) ?_
 rintro _ w8 ⟨_, ⟨rfl, rfl⟩, h16⟩
 replace h16 : St w0 F0 [_, _, _] _ _ := h16
 refine RJ.run Za 2 rfl (RJ.fin [(6, .bool (!r5))] rfl ?_)
 have h17 := h16.only [] rfl
 replace h17 : St w0 F0 [] _ _ := h17
 refine J.ret ?_
 obtain rfl := Option.some.inj H
 exact ⟨_, _, _, (Zb rfl), ⟨rfl, rfl⟩, h17.only [] rfl⟩

def Q28.f (k : Nat) (a0 : Int × Int × Int × Int × Int × Int × Int × Int) (a1 : List UInt8 × List UInt8 × Bool) (a2 : Int × List (Int) × List (List UInt8) × (List (List UInt8 × Bool × List UInt8)) × (List (List UInt8 × List UInt8))) : Option (Bool) := if (decide (a2.1 < 0)) = true then (some false) else (if (decide (a2.1 = 0)) = true then ((Q33.f k (a0.1, a0.2.1, a0.2.2.1, a0.2.2.2.1, a0.2.2.2.2.1, a0.2.2.2.2.2.1, a0.2.2.2.2.2.2.1, a0.2.2.2.2.2.2.2) (a1.1, a1.2.1, a1.2.2) (a2.1, a2.2.1, a2.2.2.1, a2.2.2.2.1, a2.2.2.2.2)).bind fun r1 => (some r1)) else ((Q29.f k (a0.1, a0.2.1, a0.2.2.1, a0.2.2.2.1, a0.2.2.2.2.1, a0.2.2.2.2.2.1, a0.2.2.2.2.2.2.1, a0.2.2.2.2.2.2.2) (a1.1, a1.2.1, a1.2.2) (a2.1, a2.2.1, a2.2.2.1, a2.2.2.2.1, a2.2.2.2.2)).bind fun r2 => (some r2)))
theorem Q28.spec {k : Nat} {a0 : Int × Int × Int × Int × Int × Int × Int × Int} {a1 : List UInt8 × List UInt8 × Bool} {a2 : Int × List (Int) × List (List UInt8) × (List (List UInt8 × Bool × List UInt8)) × (List (List UInt8 × List UInt8))} {A1 : Option Addr} {c_1 : Nat} {A2 : Option Addr} {c_2 : Nat} {A3 : Option Addr} {c_3 : Nat} {A4 : Option Addr} {c_4 : Nat} {r : Bool} (H : Q28.f k a0 a1 a2 = some r) :
  Spec Tryz.prog 16 [.agg #[.int .i64 a0.1, .int .i64 a0.2.1, .int .i64 a0.2.2.1, .int .i64 a0.2.2.2.1, .int .i64 a0.2.2.2.2.1, .int .i64 a0.2.2.2.2.2.1, .int .i64 a0.2.2.2.2.2.2.1, .int .i64 a0.2.2.2.2.2.2.2], .agg #[.string ⟨⟨a1.1⟩⟩, .string ⟨⟨a1.2.1⟩⟩, .bool a1.2.2], .agg #[.int .i64 a2.1, .slice A1 a2.2.1.length c_1, .slice A2 a2.2.2.1.length c_2, .slice A3 a2.2.2.2.1.length c_3, .slice A4 a2.2.2.2.2.length c_4]] [] [rdC 70 (.int .u32) a2.2.1 (.slice A1 a2.2.1.length c_1), rdC 9 .str a2.2.2.1 (.slice A2 a2.2.2.1.length c_2), rdC 49 (.pair .str (.pair .bool .str)) a2.2.2.2.1 (.slice A3 a2.2.2.2.1.length c_3), rdC 51 (.pair .str .str) a2.2.2.2.2 (.slice A4 a2.2.2.2.2.length c_4)] (fun v l => v = .bool r ∧ l = []) := by
 refine Spec.enter Tryz.func16 rfl (by kernel_rfl) (by kernel_rfl) fun w0 F0 h0 => ?_
 unfold Q28.f at H
 refine J.seq (J.region ?_)
 refine RJ.op rfl rfl (Z2 rfl rfl h0) ?_
 rintro _ w1 ⟨b1, rfl, h1⟩
 replace h1 : St w0 F0 [Zh b1 23 [.int .i64 a0.1, .int .i64 a0.2.1, .int .i64 a0.2.2.1, .int .i64 a0.2.2.2.1, .int .i64 a0.2.2.2.2.1, .int .i64 a0.2.2.2.2.2.1, .int .i64 a0.2.2.2.2.2.2.1, .int .i64 a0.2.2.2.2.2.2.2]] _ _ := h1
 refine RJ.op rfl rfl (Z2 rfl rfl h1) ?_
 rintro _ w2 ⟨b2, rfl, h2⟩
 replace h2 : St w0 F0 [Zh b2 55 [.string ⟨⟨a1.1⟩⟩, .string ⟨⟨a1.2.1⟩⟩, .bool a1.2.2], _] _ _ := h2
 refine RJ.op rfl rfl (Z2 rfl rfl h2) ?_
 rintro _ w3 ⟨b3, rfl, h3⟩
 replace h3 : St w0 F0 [Zh b3 29 [.int .i64 a2.1, .slice A1 a2.2.1.length c_1, .slice A2 a2.2.2.1.length c_2, .slice A3 a2.2.2.2.1.length c_3, .slice A4 a2.2.2.2.2.length c_4], _, _] _ _ := h3
 refine RJ.run Za 1 rfl (RJ.fin [(3, .pointer (some ⟨b1, 0, none⟩)), (4, .pointer (some ⟨b2, 0, none⟩)), (5, .pointer (some ⟨b3, 0, none⟩))] rfl (J.seq (J.block (J.seq (J.region ?_)))))
 refine RJ.run Za 1 rfl (RJ.q rfl rfl (Zc Za 0 h3.wht rfl rfl rfl rfl rfl) (RJ.run Za 2 rfl (RJ.fin [(3, _), (4, _), (5, _), (7, .bool (decide (a2.1 < 0)))] rfl (J.cond rfl (fun c1 => ?_) (fun c1 => ?_)))))
 ·replace H := Zi c1 H
  refine J.seq (J.region ?_)
  refine RJ.run Za 1 rfl (RJ.fin [(6, .bool false)] rfl ?_)
  have h4 := h3.only [] rfl
  replace h4 : St w0 F0 [] _ _ := h4
  refine J.ret ?_
  obtain rfl := Option.some.inj H
  exact ⟨_, _, _, (Zb rfl), ⟨rfl, rfl⟩, h4.only [] rfl⟩
 replace H := Zg c1 H
 refine J.seq (J.region ?_)
 refine RJ.run Za 1 rfl (RJ.q rfl rfl (Zc Za 0 h3.wht rfl rfl rfl rfl rfl) (RJ.run Za 2 rfl (RJ.fin [(3, _), (4, _), (5, _), (11, .bool (decide (a2.1 = 0)))] rfl (J.cond rfl (fun c2 => ?_) (fun c2 => ?_)))))
 ·replace H := Zi c2 H
  refine J.seq (J.region ?_)
  refine RJ.q rfl rfl (Zc Za 2 h3.wht rfl rfl rfl rfl rfl) (RJ.q rfl rfl (Zc Za 1 h3.wht rfl rfl rfl rfl rfl) (RJ.q rfl rfl (Zc Za 0 h3.wht rfl rfl rfl rfl rfl) ?_))
  obtain ⟨r1, q1, H⟩ := Zj H
  refine RJ.op rfl rfl (Zd [] (Q33.spec q1) rfl rfl rfl h3 rfl (Zr (Gives.self 3 rfl) (Zr (Gives.self 4 rfl) (Zr (Gives.self 5 rfl) (Zr (Gives.self 6 rfl) Zm))))) ?_
  rintro _ w4 ⟨_, ⟨rfl, rfl⟩, h5⟩
  replace h5 : St w0 F0 [_, _, _] _ _ := h5
  refine RJ.run Za 1 rfl (RJ.fin [(6, .bool r1)] rfl ?_)
  have h6 := h5.only [] rfl
  replace h6 : St w0 F0 [] _ _ := h6
  refine J.ret ?_
  obtain rfl := Option.some.inj H
  exact ⟨_, _, _, (Zb rfl), ⟨rfl, rfl⟩, h6.only [] rfl⟩
 replace H := Zg c2 H
 refine J.skip (J.seq (J.region ?_))
 refine RJ.q rfl rfl (Zc Za 2 h3.wht rfl rfl rfl rfl rfl) (RJ.q rfl rfl (Zc Za 1 h3.wht rfl rfl rfl rfl rfl) (RJ.q rfl rfl (Zc Za 0 h3.wht rfl rfl rfl rfl rfl) ?_))
 obtain ⟨r2, q2, H⟩ := Zj H
 refine RJ.op rfl rfl (Zd [] (Q29.spec q2) rfl rfl rfl h3 rfl (Zr (Gives.self 3 rfl) (Zr (Gives.self 4 rfl) (Zr (Gives.self 5 rfl) (Zr (Gives.self 6 rfl) Zm))))) ?_
 rintro _ w5 ⟨_, ⟨rfl, rfl⟩, h7⟩
 replace h7 : St w0 F0 [_, _, _] _ _ := h7
 refine RJ.run Za 1 rfl (RJ.fin [(6, .bool r2)] rfl ?_)
 have h8 := h7.only [] rfl
 replace h8 : St w0 F0 [] _ _ := h8
 refine J.ret ?_
 obtain rfl := Option.some.inj H
 exact ⟨_, _, _, (Zb rfl), ⟨rfl, rfl⟩, h8.only [] rfl⟩

def Q35.f (a0 : List (Int)) : Option (List (Int)) := if (([] : List (Int)).length + a0.length) * 1 ≤ 140737488355328 then (some (([] : List (Int)) ++ a0)) else none
theorem Q35.spec {a0 : List (Int)} {A1 : Option Addr} {c_1 : Nat} {r : List (Int)} (H : Q35.f a0 = some r) :
  Spec Tryz.prog 54 [.slice A1 a0.length c_1] [] [rdC 5 (.int .u8) a0 (.slice A1 a0.length c_1)] (fun v l => ∃ (A_0 : Option Addr) (c_0 : Nat), v = .slice A_0 r.length c_0 ∧ l = [Zf 5 (.int .u8) r (.slice A_0 r.length c_0)]) := by
 refine Spec.enter Tryz.func54 rfl (by kernel_rfl) (by kernel_rfl) fun w0 F0 h0 => ?_
 unfold Q35.f at H
 refine J.seq (J.region ?_)
 refine RJ.run Za 1 rfl (RJ.fin [(0, .slice A1 a0.length c_1)] rfl (J.seq (J.seq (J.region ?_))))
 refine RJ.run Za 2 rfl (RJ.fin [(0, _), (4, .bool A1.isNone)] rfl (J.cond rfl (fun c1 => ?_) (fun c1 => ?_)))
 ·have e1 := h0.nilrow (Gives.self 0 rfl) (by simpa using c1)
  replace H : (some ([] : List (Int))) = some r := by rw [e1] at H; simpa using H
  refine J.seq (J.region ?_)
  refine RJ.run Za 1 rfl (RJ.fin [(2, .slice none ([] : List (Int)).length 0)] rfl (J.ret ?_))
  have h1 := h0.addNil 5 (.int .u8)
  obtain rfl := Option.some.inj H
  exact ⟨_, _, _, (Zb rfl), ⟨_, _, rfl, rfl⟩, h1.only [0] rfl⟩
 refine J.skip (J.seq (J.region ?_))
 refine RJ.op rfl rfl (Yd Za (.int .u8) rfl ([] : List (Int)) rfl h0 rfl rfl (by decide) rfl rfl rfl rfl rfl rfl rfl) ?_
 rintro _ w1 ⟨b1, rfl, h2⟩
 replace h2 : St w0 F0 [Zf 5 (.int .u8) ([] : List (Int)) (.slice (some ⟨b1, 0, none⟩) ([] : List (Int)).length 0)] _ _ := h2
 refine RJ.run Za 1 rfl ?_
 obtain ⟨p1, H⟩ := Zo H
 refine RJ.op rfl rfl (Z7 Za rfl 0 rfl h2 rfl (Gives.self 0 rfl) rfl rfl rfl rfl rfl rfl (by decide) (by decide) p1) ?_
 rintro _ w2 ⟨A2, c_2, rfl, h3⟩
 replace h3 : St w0 F0 [Zf 5 (.int .u8) (([] : List (Int)) ++ a0) (.slice A2 (([] : List (Int)) ++ a0).length c_2)] _ _ := h3
 refine RJ.run Za 1 rfl (RJ.fin [(2, .slice A2 (([] : List (Int)) ++ a0).length c_2)] rfl (J.ret ?_))
 obtain rfl := Option.some.inj H
 exact ⟨_, _, _, (Zb rfl), ⟨_, _, rfl, rfl⟩, h3.only [0] rfl⟩

def Q111.f (a0 : Int) : Option (Bool) := if (decide (a0 = 1)) = true then (some true) else (if (decide (a0 = 2)) = true then (some true) else (if (decide (a0 = 4)) = true then (some true) else (some (decide (a0 = 8)))))
theorem Q111.spec {a0 : Int}  {r : Bool} (H : Q111.f a0 = some r) :
  Spec Tryz.prog 55 [.int .i64 a0] [] [] (fun v l => v = .bool r ∧ l = []) := by
 refine Spec.enter Tryz.func55 rfl (by kernel_rfl) (by kernel_rfl) fun w0 F0 h0 => ?_
 unfold Q111.f at H
 refine J.seq (J.region ?_)
 refine RJ.run Za 1 rfl (RJ.fin [(0, .int .i64 a0)] rfl (J.seq (J.region ?_)))
 refine RJ.run Za 3 rfl ?_
 rcases Bool.eq_false_or_eq_true (decide (a0 = 1)) with c1 | c1
 ·replace H := Zi c1 H
  refine RJ.know (t := 5) rfl (congrArg Value.bool c1) (RJ.run Za 12 rfl (RJ.fin [(2, .bool true)] rfl (J.ret ?_)))
  obtain rfl := Option.some.inj H
  exact ⟨_, _, _, (Zb rfl), ⟨rfl, rfl⟩, h0.only [] rfl⟩
 replace H := Zg c1 H
 refine RJ.know (t := 5) rfl (congrArg Value.bool c1) (RJ.run Za 4 rfl ?_)
 rcases Bool.eq_false_or_eq_true (decide (a0 = 2)) with c2 | c2
 ·replace H := Zi c2 H
  refine RJ.know (t := 9) rfl (congrArg Value.bool c2) (RJ.run Za 8 rfl (RJ.fin [(2, .bool true)] rfl (J.ret ?_)))
  obtain rfl := Option.some.inj H
  exact ⟨_, _, _, (Zb rfl), ⟨rfl, rfl⟩, h0.only [] rfl⟩
 replace H := Zg c2 H
 refine RJ.know (t := 9) rfl (congrArg Value.bool c2) (RJ.run Za 4 rfl ?_)
 rcases Bool.eq_false_or_eq_true (decide (a0 = 4)) with c3 | c3
 ·replace H := Zi c3 H
  refine RJ.know (t := 13) rfl (congrArg Value.bool c3) (RJ.run Za 4 rfl (RJ.fin [(2, .bool true)] rfl (J.ret ?_)))
  obtain rfl := Option.some.inj H
  exact ⟨_, _, _, (Zb rfl), ⟨rfl, rfl⟩, h0.only [] rfl⟩
 replace H := Zg c3 H
 refine RJ.know (t := 13) rfl (congrArg Value.bool c3) (RJ.run Za 4 rfl (RJ.fin [(2, .bool (decide (a0 = 8)))] rfl (J.ret ?_)))
 obtain rfl := Option.some.inj H
 exact ⟨_, _, _, (Zb rfl), ⟨rfl, rfl⟩, h0.only [] rfl⟩

def Q102.l0 : Nat → (Int) → (List (Int)) → (Int) → Option (List (Int))
 | 0, _, _, _ => none
 | k + 1, a2, x1, x2 => if (decide (0 ≤ x2)) = true then (if 0 ≤ (w64 (8 * x2)) then (if (x1.length + ([(IntKind.u8.wrap ((Int.fdiv a2 (2 ^ (min (w64 (8 * x2)).toNat 64)))))] : List (Int)).length) * 1 ≤ 140737488355328 then (Q102.l0 k a2 (x1 ++ ([(IntKind.u8.wrap ((Int.fdiv a2 (2 ^ (min (w64 (8 * x2)).toNat 64)))))] : List (Int))) (w64 (x2 - 1))) else none) else none) else (some x1)
def Q102.f (k : Nat) (a0 : List (Int)) (a1 : Int) (a2 : Int) : Option (List (Int)) := (Q35.f a0).bind fun r1 => ((Q111.f a1).bind fun r2 => (if (!r2) = true then (some r1) else (Q102.l0 k a2 r1 (w64 (a1 - 1)))))
theorem Q102.spec {k : Nat} {a0 : List (Int)} {a1 : Int} {a2 : Int} {A1 : Option Addr} {c_1 : Nat} {r : List (Int)} (H : Q102.f k a0 a1 a2 = some r) :
  Spec Tryz.prog 78 [.slice A1 a0.length c_1, .int .i64 a1, .int .u64 a2] [] [rdC 5 (.int .u8) a0 (.slice A1 a0.length c_1)] (fun v l => ∃ (A_0 : Option Addr) (c_0 : Nat), v = .slice A_0 r.length c_0 ∧ l = [Zf 5 (.int .u8) r (.slice A_0 r.length c_0)]) := by
 refine Spec.enter Tryz.func78 rfl (by kernel_rfl) (by kernel_rfl) fun w0 F0 h0 => ?_
 unfold Q102.f at H
 refine J.seq (J.region ?_)
 refine RJ.run Za 1 rfl (RJ.fin [(0, .slice A1 a0.length c_1), (1, .int .i64 a1), (2, .int .u64 a2)] rfl (J.seq (J.region ?_)))
 refine RJ.run Za 1 rfl ?_
 obtain ⟨r1, q1, H⟩ := Zj H
 refine RJ.op rfl rfl (Zd [] (Q35.spec q1) rfl rfl rfl h0 rfl (Zr (Gives.self 0 rfl) Zm)) ?_
 rintro _ w1 ⟨_, ⟨A2, c_2, rfl, rfl⟩, h1⟩
 replace h1 : St w0 F0 [Zf 5 (.int .u8) r1 (.slice A2 r1.length c_2)] _ _ := h1
 refine RJ.run Za 1 rfl (RJ.fin [(1, _), (2, _), (7, .slice A2 r1.length c_2)] rfl (J.seq (J.seq (J.region ?_))))
 refine RJ.run Za 1 rfl ?_
 obtain ⟨r2, q2, H⟩ := Zj H
 refine RJ.op rfl rfl (Zd [] (Q111.spec q2) rfl rfl rfl h1 rfl Zm) ?_
 rintro _ w2 ⟨_, ⟨rfl, rfl⟩, h2⟩
 replace h2 : St w0 F0 [_] _ _ := h2
 refine RJ.run Za 1 rfl (RJ.fin [(1, _), (2, _), (7, _), (13, .bool (!r2))] rfl (J.cond rfl (fun c1 => ?_) (fun c1 => ?_)))
 ·replace H := Zi c1 H
  refine J.seq (J.region ?_)
  refine RJ.run Za 2 rfl (RJ.fin [(6, .slice A2 r1.length c_2)] rfl (J.ret ?_))
  obtain rfl := Option.some.inj H
  exact ⟨_, _, _, (Zb rfl), ⟨_, _, rfl, rfl⟩, h2.only [0] rfl⟩
 replace H := Zg c1 H
 refine J.skip (J.seq (J.seq (J.region ?_)))
 refine RJ.run Za 3 rfl (RJ.fin [(2, _), (7, _), (8, .int .i64 (w64 (a1 - 1)))] rfl (J.block ?_))
 have h7 := ((h2.only [0] rfl).rds [] rfl)
 refine J.loop (fun kk env w => ∃ (x1 : List (Int)) (A3 : Option Addr) (c_3 : Nat) (x2 : Int), env = [(2, .int .u64 a2), (7, .slice A3 x1.length c_3), (8, .int .i64 x2)] ∧ St w0 F0 [Zf 5 (.int .u8) x1 (.slice A3 x1.length c_3)] [] w ∧ Q102.l0 kk a2 x1 x2 = some r) (k := k) ⟨r1, A2, c_2, (w64 (a1 - 1)), rfl, h7, H⟩ ?_
 rintro k1 env w3 ⟨x1, A3, c_3, x2, rfl, h3, H⟩
 cases k1 with
 | zero => exact nomatch (show none = some r from H)
 | succ k1 =>
  rw [Q102.l0] at H
  refine J.seq (J.seq (J.region ?_))
  refine RJ.run Za 2 rfl (RJ.fin [(2, _), (7, _), (8, _), (18, .bool (decide (0 ≤ x2)))] rfl (J.cond rfl (fun c2 => ?_) (fun c2 => ?_)))
  ·replace H := Zi c2 H
   refine J.skip (J.seq (J.block (J.region ?_)))
   refine RJ.run Za 4 rfl ?_
   obtain ⟨p1, H⟩ := Zo H
   refine RJ.q rfl rfl (Zgw rfl rfl rfl p1) (RJ.run Za 1 rfl (RJ.op rfl rfl (Yd Za (.int .u8) rfl ([(IntKind.u8.wrap ((Int.fdiv a2 (2 ^ (min (w64 (8 * x2)).toNat 64)))))] : List (Int)) rfl h3 rfl rfl (by decide) rfl rfl rfl rfl rfl rfl rfl) ?_))
   rintro _ w4 ⟨b1, rfl, h4⟩
   replace h4 : St w0 F0 [Zf 5 (.int .u8) ([(IntKind.u8.wrap ((Int.fdiv a2 (2 ^ (min (w64 (8 * x2)).toNat 64)))))] : List (Int)) (.slice (some ⟨b1, 0, none⟩) ([(IntKind.u8.wrap ((Int.fdiv a2 (2 ^ (min (w64 (8 * x2)).toNat 64)))))] : List (Int)).length 1), _] _ _ := h4
   obtain ⟨p2, H⟩ := Zo H
   refine RJ.op rfl rfl (Z7 Za rfl 1 rfl h4 rfl (Gives.of 0 rfl Zl) rfl rfl rfl rfl rfl rfl (by decide) (by decide) p2) ?_
   rintro _ w5 ⟨A4, c_4, rfl, h5⟩
   replace h5 : St w0 F0 [Zf 5 (.int .u8) (x1 ++ ([(IntKind.u8.wrap ((Int.fdiv a2 (2 ^ (min (w64 (8 * x2)).toNat 64)))))] : List (Int))) (.slice A4 (x1 ++ ([(IntKind.u8.wrap ((Int.fdiv a2 (2 ^ (min (w64 (8 * x2)).toNat 64)))))] : List (Int))).length c_4), _] _ _ := h5
   refine RJ.run Za 1 rfl (RJ.fin [(2, _), (7, .slice A4 (x1 ++ ([(IntKind.u8.wrap ((Int.fdiv a2 (2 ^ (min (w64 (8 * x2)).toNat 64)))))] : List (Int))).length c_4), (8, _)] rfl (J.region (RJ.run Za 3 rfl (RJ.fin [(2, _), (7, _), (8, .int .i64 (w64 (x2 - 1)))] rfl ?_))))
   have h6 := ((h5.only [0] rfl).rds [] rfl)
   exact ⟨k1, by omega, (x1 ++ ([(IntKind.u8.wrap ((Int.fdiv a2 (2 ^ (min (w64 (8 * x2)).toNat 64)))))] : List (Int))), A4, c_4, (w64 (x2 - 1)), rfl, h6, H⟩
  replace H := Zg c2 H
  refine J.exit (J.seq (J.region ?_))
  refine RJ.run Za 2 rfl (RJ.fin [(6, .slice A3 x1.length c_3)] rfl (J.ret ?_))
  obtain rfl := Option.some.inj H
  exact ⟨_, _, _, (Zb rfl), ⟨_, _, rfl, rfl⟩, h3.only [0] rfl⟩

def Q9.f (k : Nat) (a0 : List (Int)) (a1 : Int) (a2 : Int) : Option (List (Int)) := (Q102.f k ([] : List (Int)) a1 a2).bind fun r1 => (if (a0.length + r1.length) * 1 ≤ 140737488355328 then (some (a0 ++ r1)) else none)
theorem Q9.spec {k : Nat} {a0 : List (Int)} {a1 : Int} {a2 : Int} {A1 : Option Addr} {c_1 : Nat} {r : List (Int)} (H : Q9.f k a0 a1 a2 = some r) :
  Spec Tryz.prog 43 [.slice A1 a0.length c_1, .int .i64 a1, .int .u64 a2] [Zf 5 (.int .u8) a0 (.slice A1 a0.length c_1)] [] (fun v l => ∃ (A_0 : Option Addr) (c_0 : Nat), v = .slice A_0 r.length c_0 ∧ l = [Zf 5 (.int .u8) r (.slice A_0 r.length c_0)]) := by
 refine Spec.enter Tryz.func43 rfl (by kernel_rfl) (by kernel_rfl) fun w0 F0 h0 => ?_
 unfold Q9.f at H
 refine J.seq (J.region ?_)
 refine RJ.run Za 1 rfl (RJ.fin [(0, .slice A1 a0.length c_1), (1, .int .i64 a1), (2, .int .u64 a2)] rfl (J.seq (J.region ?_)))
 refine RJ.run Za 3 rfl ?_
 have h1 := h0.addNil 5 (.int .u8)
 obtain ⟨r1, q1, H⟩ := Zj H
 refine RJ.op rfl rfl (Zd [] (Q102.spec q1) rfl rfl rfl h1 rfl (Zr (Gives.of 0 rfl Zl) Zm)) ?_
 rintro _ w1 ⟨_, ⟨A2, c_2, rfl, rfl⟩, h2⟩
 replace h2 : St w0 F0 [Zf 5 (.int .u8) r1 (.slice A2 r1.length c_2), Zf 5 (.int .u8) ([] : List (Int)) (.slice none ([] : List (Int)).length 0), Zf 5 (.int .u8) a0 (.slice A1 a0.length c_1)] _ _ := h2
 obtain ⟨p1, H⟩ := Zo H
 refine RJ.op rfl rfl (Z7 Za rfl 2 rfl h2 rfl (Gives.of 0 rfl Zl) rfl rfl rfl rfl rfl rfl (by decide) (by decide) p1) ?_
 rintro _ w2 ⟨A3, c_3, rfl, h3⟩
 replace h3 : St w0 F0 [Zf 5 (.int .u8) (a0 ++ r1) (.slice A3 (a0 ++ r1).length c_3), _, _] _ _ := h3
 refine RJ.run Za 1 rfl (RJ.fin [(6, .slice A3 (a0 ++ r1).length c_3)] rfl ?_)
 have h4 := h3.only [0] rfl
 replace h4 : St w0 F0 [_] _ _ := h4
 refine J.ret ?_
 obtain rfl := Option.some.inj H
 exact ⟨_, _, _, (Zb rfl), ⟨_, _, rfl, rfl⟩, h4.only [0] rfl⟩

def Q8.f (k : Nat) (a0 : Int) (a1 : Int) (a2 : Int) (a3 : Int) : Option (List (Int)) := (Q9.f k ([] : List (Int)) 1 (IntKind.u64.wrap (a0))).bind fun r1 => ((Q9.f k r1 1 (IntKind.u64.wrap (a1))).bind fun r2 => ((Q9.f k r2 2 (IntKind.u64.wrap (a2))).bind fun r3 => ((Q9.f k r3 2 (IntKind.u64.wrap (a3))).bind fun r4 => ((Q9.f k r4 2 0).bind fun r5 => (some r5)))))
theorem Q8.spec {k : Nat} {a0 : Int} {a1 : Int} {a2 : Int} {a3 : Int}  {r : List (Int)} (H : Q8.f k a0 a1 a2 a3 = some r) :
  Spec Tryz.prog 41 [.int .i64 a0, .int .i64 a1, .int .i64 a2, .int .i64 a3] [] [] (fun v l => ∃ (A_0 : Option Addr) (c_0 : Nat), v = .slice A_0 r.length c_0 ∧ l = [Zf 5 (.int .u8) r (.slice A_0 r.length c_0)]) := by
 refine Spec.enter Tryz.func41 rfl (by kernel_rfl) (by kernel_rfl) fun w0 F0 h0 => ?_
 unfold Q8.f at H
 refine J.seq (J.region ?_)
 refine RJ.run Za 1 rfl (RJ.fin [(0, .int .i64 a0), (1, .int .i64 a1), (2, .int .i64 a2), (3, .int .i64 a3)] rfl (J.seq (J.region ?_)))
 refine RJ.run Za 2 rfl ?_
 have h1 := h0.addNil 5 (.int .u8)
 obtain ⟨r1, q1, H⟩ := Zj H
 refine RJ.op rfl rfl (Zd [0] (Q9.spec q1) rfl rfl rfl h1 rfl Zm) ?_
 rintro _ w1 ⟨_, ⟨A1, c_1, rfl, rfl⟩, h2⟩
 replace h2 : St w0 F0 [Zf 5 (.int .u8) r1 (.slice A1 r1.length c_1)] _ _ := h2
 refine RJ.run Za 1 rfl (RJ.fin [(1, _), (2, _), (3, _), (9, .slice A1 r1.length c_1)] rfl (J.seq (J.region ?_)))
 refine RJ.run Za 3 rfl ?_
 obtain ⟨r2, q2, H⟩ := Zj H
 refine RJ.op rfl rfl (Zd [0] (Q9.spec q2) rfl rfl rfl h2 rfl Zm) ?_
 rintro _ w2 ⟨_, ⟨A2, c_2, rfl, rfl⟩, h3⟩
 replace h3 : St w0 F0 [Zf 5 (.int .u8) r2 (.slice A2 r2.length c_2)] _ _ := h3
 refine RJ.run Za 1 rfl (RJ.fin [(2, _), (3, _), (9, .slice A2 r2.length c_2)] rfl (J.seq (J.region ?_)))
 refine RJ.run Za 3 rfl ?_
 obtain ⟨r3, q3, H⟩ := Zj H
 refine RJ.op rfl rfl (Zd [0] (Q9.spec q3) rfl rfl rfl h3 rfl Zm) ?_
 rintro _ w3 ⟨_, ⟨A3, c_3, rfl, rfl⟩, h4⟩
 replace h4 : St w0 F0 [Zf 5 (.int .u8) r3 (.slice A3 r3.length c_3)] _ _ := h4
 refine RJ.run Za 1 rfl (RJ.fin [(3, _), (9, .slice A3 r3.length c_3)] rfl (J.seq (J.region ?_)))
 refine RJ.run Za 3 rfl ?_
 obtain ⟨r4, q4, H⟩ := Zj H
 refine RJ.op rfl rfl (Zd [0] (Q9.spec q4) rfl rfl rfl h4 rfl Zm) ?_
 rintro _ w4 ⟨_, ⟨A4, c_4, rfl, rfl⟩, h5⟩
 replace h5 : St w0 F0 [Zf 5 (.int .u8) r4 (.slice A4 r4.length c_4)] _ _ := h5
 refine RJ.run Za 1 rfl (RJ.fin [(9, .slice A4 r4.length c_4)] rfl (J.seq (J.region ?_)))
 refine RJ.run Za 1 rfl ?_
 obtain ⟨r5, q5, H⟩ := Zj H
 refine RJ.op rfl rfl (Zd [0] (Q9.spec q5) rfl rfl rfl h5 rfl Zm) ?_
 rintro _ w5 ⟨_, ⟨A5, c_5, rfl, rfl⟩, h6⟩
 replace h6 : St w0 F0 [Zf 5 (.int .u8) r5 (.slice A5 r5.length c_5)] _ _ := h6
 refine RJ.run Za 1 rfl (RJ.fin [(8, .slice A5 r5.length c_5)] rfl (J.ret ?_))
 obtain rfl := Option.some.inj H
 exact ⟨_, _, _, (Zb rfl), ⟨_, _, rfl, rfl⟩, h6.only [0] rfl⟩

def Q14.f (a0 : List (Int)) (a1 : List UInt8) (a2 : Int) : Option (List (Int)) := if a0.length + a1.length ≤ 140737488355328 then (if 0 ≤ (w64 (a2 - (a1.length : Int))) ∧ (((a0 ++ toB a1).length : Int) + (w64 (a2 - (a1.length : Int)))) * 1 ≤ 140737488355328 then (some ((a0 ++ toB a1) ++ List.replicate (w64 (a2 - (a1.length : Int))).toNat 0)) else none) else none
theorem Q14.spec {a0 : List (Int)} {a1 : List UInt8} {a2 : Int} {A1 : Option Addr} {c_1 : Nat} {r : List (Int)} (H : Q14.f a0 a1 a2 = some r) :
  Spec Tryz.prog 44 [.slice A1 a0.length c_1, .string ⟨⟨a1⟩⟩, .int .i64 a2] [Zf 5 (.int .u8) a0 (.slice A1 a0.length c_1)] [] (fun v l => ∃ (A_0 : Option Addr) (c_0 : Nat), v = .slice A_0 r.length c_0 ∧ l = [Zf 5 (.int .u8) r (.slice A_0 r.length c_0)]) := by
 refine Spec.enter Tryz.func44 rfl (by kernel_rfl) (by kernel_rfl) fun w0 F0 h0 => ?_
 unfold Q14.f at H
 refine J.seq (J.region ?_)
 refine RJ.run Za 1 rfl (RJ.fin [(0, .slice A1 a0.length c_1), (1, .string ⟨⟨a1⟩⟩), (2, .int .i64 a2)] rfl (J.seq (J.region ?_)))
 refine RJ.run Za 2 rfl ?_
 obtain ⟨p1, H⟩ := Zo H
 refine RJ.op rfl rfl (Zac Za 0 rfl h0 rfl rfl rfl rfl rfl rfl p1) ?_
 rintro _ w1 ⟨A2, c_2, rfl, h1⟩
 replace h1 : St w0 F0 [Zf 5 (.int .u8) (a0 ++ toB a1) (.slice A2 (a0 ++ toB a1).length c_2)] _ _ := h1
 refine RJ.run Za 4 rfl ?_
 obtain ⟨⟨p2, p3⟩, H⟩ := Zo H
 refine RJ.op rfl rfl (X5 Za (ty := (.int .u8)) rfl 0 0 rfl h1 rfl rfl rfl rfl rfl rfl rfl rfl (by decide) (by decide) p2 p3) ?_
 rintro _ w2 ⟨A3, c_3, rfl, h2⟩
 replace h2 : St w0 F0 [Zf 5 (.int .u8) ((a0 ++ toB a1) ++ List.replicate (w64 (a2 - (a1.length : Int))).toNat 0) (.slice A3 ((a0 ++ toB a1) ++ List.replicate (w64 (a2 - (a1.length : Int))).toNat 0).length c_3)] _ _ := h2
 refine RJ.run Za 1 rfl (RJ.fin [(6, .slice A3 ((a0 ++ toB a1) ++ List.replicate (w64 (a2 - (a1.length : Int))).toNat 0).length c_3)] rfl (J.ret ?_))
 obtain rfl := Option.some.inj H
 exact ⟨_, _, _, (Zb rfl), ⟨_, _, rfl, rfl⟩, h2.only [0] rfl⟩

def Q10.f (k : Nat) (a0 : Int × Int × Int × Int × Int × Int × Int × Int) (a1 : List (Int)) (a2 : List UInt8) (a3 : List UInt8) : Option (List (Int)) := (Q9.f k a1 1 (IntKind.u64.wrap ((a2.length : Int)))).bind fun r1 => ((Q9.f k r1 2 (IntKind.u64.wrap ((a3.length : Int)))).bind fun r2 => ((Q14.f r2 a2 a0.2.2.2.2.2.2.1).bind fun r3 => ((Q14.f r3 a3 a0.2.2.2.2.2.2.2).bind fun r4 => (some r4))))
theorem Q10.spec {k : Nat} {a0 : Int × Int × Int × Int × Int × Int × Int × Int} {a1 : List (Int)} {a2 : List UInt8} {a3 : List UInt8} {A1 : Option Addr} {c_1 : Nat} {r : List (Int)} (H : Q10.f k a0 a1 a2 a3 = some r) :
  Spec Tryz.prog 42 [.agg #[.int .i64 a0.1, .int .i64 a0.2.1, .int .i64 a0.2.2.1, .int .i64 a0.2.2.2.1, .int .i64 a0.2.2.2.2.1, .int .i64 a0.2.2.2.2.2.1, .int .i64 a0.2.2.2.2.2.2.1, .int .i64 a0.2.2.2.2.2.2.2], .slice A1 a1.length c_1, .string ⟨⟨a2⟩⟩, .string ⟨⟨a3⟩⟩] [Zf 5 (.int .u8) a1 (.slice A1 a1.length c_1)] [] (fun v l => ∃ (A_0 : Option Addr) (c_0 : Nat), v = .slice A_0 r.length c_0 ∧ l = [Zf 5 (.int .u8) r (.slice A_0 r.length c_0)]) := by
 refine Spec.enter Tryz.func42 rfl (by kernel_rfl) (by kernel_rfl) fun w0 F0 h0 => ?_
 unfold Q10.f at H
 refine J.seq (J.region ?_)
 refine RJ.op rfl rfl (Z2 rfl rfl h0) ?_
 rintro _ w1 ⟨b1, rfl, h1⟩
 replace h1 : St w0 F0 [Zh b1 23 [.int .i64 a0.1, .int .i64 a0.2.1, .int .i64 a0.2.2.1, .int .i64 a0.2.2.2.1, .int .i64 a0.2.2.2.2.1, .int .i64 a0.2.2.2.2.2.1, .int .i64 a0.2.2.2.2.2.2.1, .int .i64 a0.2.2.2.2.2.2.2], Zf 5 (.int .u8) a1 (.slice A1 a1.length c_1)] _ _ := h1
 refine RJ.run Za 1 rfl (RJ.fin [(1, .slice A1 a1.length c_1), (2, .string ⟨⟨a2⟩⟩), (3, .string ⟨⟨a3⟩⟩), (4, .pointer (some ⟨b1, 0, none⟩))] rfl (J.seq (J.region ?_)))
 refine RJ.run Za 4 rfl ?_
 obtain ⟨r1, q1, H⟩ := Zj H
 refine RJ.op rfl rfl (Zd [1] (Q9.spec q1) rfl rfl rfl h1 rfl Zm) ?_
 rintro _ w2 ⟨_, ⟨A2, c_2, rfl, rfl⟩, h2⟩
 replace h2 : St w0 F0 [Zf 5 (.int .u8) r1 (.slice A2 r1.length c_2), _] _ _ := h2
 refine RJ.run Za 1 rfl (RJ.fin [(1, .slice A2 r1.length c_2), (2, _), (3, _), (4, _)] rfl (J.seq (J.region ?_)))
 refine RJ.run Za 4 rfl ?_
 obtain ⟨r2, q2, H⟩ := Zj H
 refine RJ.op rfl rfl (Zd [0] (Q9.spec q2) rfl rfl rfl h2 rfl Zm) ?_
 rintro _ w3 ⟨_, ⟨A3, c_3, rfl, rfl⟩, h3⟩
 replace h3 : St w0 F0 [Zf 5 (.int .u8) r2 (.slice A3 r2.length c_3), _] _ _ := h3
 refine RJ.run Za 1 rfl (RJ.fin [(1, .slice A3 r2.length c_3), (2, _), (3, _), (4, _)] rfl (J.seq (J.heldSt mix (h3.only [1] rfl) ?_)))
 have h4 := h3.drew
 refine HJ.run Za rfl [0, 1, 2, 5, 6] rfl (HJ.q (i := 3) rfl rfl rfl rfl rfl rfl (Zc Za 0 (fun w e => e) rfl rfl rfl rfl rfl) ?_)
 refine HJ.q (i := 7) rfl rfl rfl rfl rfl rfl (Zc Za 0 (fun w e => e) rfl rfl rfl rfl rfl) ?_
 obtain ⟨r3, q3, H⟩ := Zj H
 refine HJ.op (i := 4) rfl rfl rfl rfl rfl (Zd [0] (Q14.spec q3) rfl rfl rfl h4 rfl Zm) ?_
 rintro _ w4 ⟨_, ⟨A4, c_4, rfl, rfl⟩, h5⟩
 replace h5 : St w0 F0 [Zf 5 (.int .u8) r3 (.slice A4 r3.length c_4), _] _ _ := h5
 refine ⟨⟨[_], h5⟩, ?_⟩
 obtain ⟨r4, q4, H⟩ := Zj H
 refine HJ.op (i := 8) rfl rfl rfl rfl rfl (Zd [0] (Q14.spec q4) rfl rfl rfl h5 rfl Zm) ?_
 rintro _ w5 ⟨_, ⟨A5, c_5, rfl, rfl⟩, h6⟩
 replace h6 : St w0 F0 [Zf 5 (.int .u8) r4 (.slice A5 r4.length c_5), _] _ _ := h6
 refine ⟨⟨[_], h6⟩, ?_⟩
 refine HJ.run Za rfl [9] rfl (HJ.fin [(8, .slice A5 r4.length c_5)] rfl rfl (J.ret ?_))
 obtain rfl := Option.some.inj H
 exact ⟨_, _, _, (Zb rfl), ⟨_, _, rfl, rfl⟩, h6.only [0] rfl⟩

def Q15.l2 : Nat → (Int × Int × Int × Int × Int × Int × Int × Int) → (Int × List (Int) × List (List UInt8) × (List (List UInt8 × Bool × List UInt8)) × (List (List UInt8 × List UInt8))) → (List (Int)) → (Int) → Option (List (Int))
 | 0, _, _, _, _ => none
 | k + 1, a0, a1, x5, x6 => if (decide (x6 < (a1.2.2.2.1.length : Int))) = true then (if 0 ≤ x6 ∧ x6 < (a1.2.2.2.1.length : Int) then (if (gt a1.2.2.2.1 x6).2.1 = true then ((Q9.f k x5 1 2).bind fun r8 => ((Q10.f k (a0.1, a0.2.1, a0.2.2.1, a0.2.2.2.1, a0.2.2.2.2.1, a0.2.2.2.2.2.1, a0.2.2.2.2.2.2.1, a0.2.2.2.2.2.2.2) r8 ((gt a1.2.2.2.1 x6).1) ((gt a1.2.2.2.1 x6).2.2)).bind fun r9 => (Q15.l2 k a0 a1 r9 (w64 (x6 + 1))))) else ((Q9.f k x5 1 1).bind fun r10 => ((Q10.f k (a0.1, a0.2.1, a0.2.2.1, a0.2.2.2.1, a0.2.2.2.2.1, a0.2.2.2.2.2.1, a0.2.2.2.2.2.2.1, a0.2.2.2.2.2.2.2) r10 ((gt a1.2.2.2.1 x6).1) ((gt a1.2.2.2.1 x6).2.2)).bind fun r11 => (Q15.l2 k a0 a1 r11 (w64 (x6 + 1)))))) else none) else (some x5)
def Q15.l1 : Nat → (Int × Int × Int × Int × Int × Int × Int × Int) → (Int × List (Int) × List (List UInt8) × (List (List UInt8 × Bool × List UInt8)) × (List (List UInt8 × List UInt8))) → (List (Int)) → (Int) → Option (List (Int))
 | 0, _, _, _, _ => none
 | k + 1, a0, a1, x3, x4 => if (decide (x4 < (w64 (a0.2.2.2.1 - 1)))) = true then (if (decide (x4 < (a1.2.2.1.length : Int))) = true then (if 0 ≤ x4 ∧ x4 < (a1.2.2.1.length : Int) then ((Q9.f k x3 1 (IntKind.u64.wrap (((gt a1.2.2.1 x4).length : Int)))).bind fun r4 => ((Q14.f r4 (gt a1.2.2.1 x4) a0.2.2.2.2.2.2.1).bind fun r5 => (Q15.l1 k a0 a1 r5 (w64 (x4 + 1))))) else none) else ((Q9.f k x3 1 (IntKind.u64.wrap ((([] : List UInt8).length : Int)))).bind fun r6 => ((Q14.f r6 ([] : List UInt8) a0.2.2.2.2.2.2.1).bind fun r7 => (Q15.l1 k a0 a1 r7 (w64 (x4 + 1)))))) else (Q15.l2 k a0 a1 x3 0)
def Q15.l0 : Nat → (Int × Int × Int × Int × Int × Int × Int × Int) → (Int × List (Int) × List (List UInt8) × (List (List UInt8 × Bool × List UInt8)) × (List (List UInt8 × List UInt8))) → (List (Int)) → (Int) → Option (List (Int))
 | 0, _, _, _, _ => none
 | k + 1, a0, a1, x1, x2 => if (decide (x2 < a0.2.2.2.1)) = true then (if (decide (x2 < (a1.2.1.length : Int))) = true then (if 0 ≤ x2 ∧ x2 < (a1.2.1.length : Int) then ((Q9.f k x1 4 (IntKind.u64.wrap ((gt a1.2.1 x2)))).bind fun r2 => (Q15.l0 k a0 a1 r2 (w64 (x2 + 1)))) else none) else ((Q9.f k x1 4 0).bind fun r3 => (Q15.l0 k a0 a1 r3 (w64 (x2 + 1))))) else (Q15.l1 k a0 a1 x1 0)
def Q15.f (k : Nat) (a0 : Int × Int × Int × Int × Int × Int × Int × Int) (a1 : Int × List (Int) × List (List UInt8) × (List (List UInt8 × Bool × List UInt8)) × (List (List UInt8 × List UInt8))) : Option (List (Int)) := (Q8.f k 2 a1.1 (a1.2.1.length : Int) (a1.2.2.2.1.length : Int)).bind fun r1 => (Q15.l0 k a0 a1 r1 0)
theorem Q15.spec {k : Nat} {a0 : Int × Int × Int × Int × Int × Int × Int × Int} {a1 : Int × List (Int) × List (List UInt8) × (List (List UInt8 × Bool × List UInt8)) × (List (List UInt8 × List UInt8))} {A1 : Option Addr} {c_1 : Nat} {A2 : Option Addr} {c_2 : Nat} {A3 : Option Addr} {c_3 : Nat} {A4 : Option Addr} {c_4 : Nat} {r : List (Int)} (H : Q15.f k a0 a1 = some r) :
  Spec Tryz.prog 19 [.agg #[.int .i64 a0.1, .int .i64 a0.2.1, .int .i64 a0.2.2.1, .int .i64 a0.2.2.2.1, .int .i64 a0.2.2.2.2.1, .int .i64 a0.2.2.2.2.2.1, .int .i64 a0.2.2.2.2.2.2.1, .int .i64 a0.2.2.2.2.2.2.2], .agg #[.int .i64 a1.1, .slice A1 a1.2.1.length c_1, .slice A2 a1.2.2.1.length c_2, .slice A3 a1.2.2.2.1.length c_3, .slice A4 a1.2.2.2.2.length c_4]] [] [rdC 70 (.int .u32) a1.2.1 (.slice A1 a1.2.1.length c_1), rdC 9 .str a1.2.2.1 (.slice A2 a1.2.2.1.length c_2), rdC 49 (.pair .str (.pair .bool .str)) a1.2.2.2.1 (.slice A3 a1.2.2.2.1.length c_3), rdC 51 (.pair .str .str) a1.2.2.2.2 (.slice A4 a1.2.2.2.2.length c_4)] (fun v l => ∃ (A_0 : Option Addr) (c_0 : Nat), v = .slice A_0 r.length c_0 ∧ l = [Zf 5 (.int .u8) r (.slice A_0 r.length c_0)]) := by
 refine Spec.enter Tryz.func19 rfl (by kernel_rfl) (by kernel_rfl) fun w0 F0 h0 => ?_
 unfold Q15.f at H
 refine J.seq (J.region ?_)
 refine RJ.op rfl rfl (Z2 rfl rfl h0) ?_
 rintro _ w1 ⟨b1, rfl, h1⟩
 replace h1 : St w0 F0 [Zh b1 23 [.int .i64 a0.1, .int .i64 a0.2.1, .int .i64 a0.2.2.1, .int .i64 a0.2.2.2.1, .int .i64 a0.2.2.2.2.1, .int .i64 a0.2.2.2.2.2.1, .int .i64 a0.2.2.2.2.2.2.1, .int .i64 a0.2.2.2.2.2.2.2]] _ _ := h1
 refine RJ.op rfl rfl (Z2 rfl rfl h1) ?_
 rintro _ w2 ⟨b2, rfl, h2⟩
 replace h2 : St w0 F0 [Zh b2 29 [.int .i64 a1.1, .slice A1 a1.2.1.length c_1, .slice A2 a1.2.2.1.length c_2, .slice A3 a1.2.2.2.1.length c_3, .slice A4 a1.2.2.2.2.length c_4], _] _ _ := h2
 refine RJ.run Za 1 rfl (RJ.fin [(2, .pointer (some ⟨b1, 0, none⟩)), (3, .pointer (some ⟨b2, 0, none⟩))] rfl (J.seq (J.region ?_)))
 refine RJ.run Za 1 rfl (RJ.q rfl rfl (Zc Za 0 h2.wht rfl rfl rfl rfl rfl) (RJ.run Za 1 rfl (RJ.q rfl rfl (Zc Za 0 h2.wht rfl rfl rfl rfl rfl) (RJ.run Za 2 rfl (RJ.q rfl rfl (Zc Za 0 h2.wht rfl rfl rfl rfl rfl) (RJ.run Za 1 rfl ?_))))))
 obtain ⟨r1, q1, H⟩ := Zj H
 refine RJ.op rfl rfl (Zd [] (Q8.spec q1) rfl rfl rfl h2 rfl Zm) ?_
 rintro _ w3 ⟨_, ⟨A5, c_5, rfl, rfl⟩, h3⟩
 replace h3 : St w0 F0 [Zf 5 (.int .u8) r1 (.slice A5 r1.length c_5), _, _] _ _ := h3
 refine RJ.run Za 1 rfl (RJ.fin [(2, _), (3, _), (5, .slice A5 r1.length c_5)] rfl (J.seq (J.seq (J.region ?_))))
 refine RJ.run Za 1 rfl (RJ.q rfl rfl (Zc Za 2 h3.wht rfl rfl rfl rfl rfl) (RJ.run Za 1 rfl (RJ.fin [(2, _), (3, _), (5, _), (23, .int .i64 a0.2.2.2.1), (24, .int .i64 0)] rfl (J.block ?_))))
 have h31 := ((h3.only [2, 1, 0] rfl).rds [0, 1, 2, 3] rfl)
 refine J.loop (fun kk env w => ∃ (x1 : List (Int)) (A6 : Option Addr) (c_6 : Nat) (x2 : Int), env = [(2, .pointer (some ⟨b1, 0, none⟩)), (3, .pointer (some ⟨b2, 0, none⟩)), (5, .slice A6 x1.length c_6), (23, .int .i64 a0.2.2.2.1), (24, .int .i64 x2)] ∧ St w0 F0 [Zh b1 23 [.int .i64 a0.1, .int .i64 a0.2.1, .int .i64 a0.2.2.1, .int .i64 a0.2.2.2.1, .int .i64 a0.2.2.2.2.1, .int .i64 a0.2.2.2.2.2.1, .int .i64 a0.2.2.2.2.2.2.1, .int .i64 a0.2.2.2.2.2.2.2], Zh b2 29 [.int .i64 a1.1, .slice A1 a1.2.1.length c_1, .slice A2 a1.2.2.1.length c_2, .slice A3 a1.2.2.2.1.length c_3, .slice A4 a1.2.2.2.2.length c_4], Zf 5 (.int .u8) x1 (.slice A6 x1.length c_6)] [rdC 70 (.int .u32) a1.2.1 (.slice A1 a1.2.1.length c_1), rdC 9 .str a1.2.2.1 (.slice A2 a1.2.2.1.length c_2), rdC 49 (.pair .str (.pair .bool .str)) a1.2.2.2.1 (.slice A3 a1.2.2.2.1.length c_3), rdC 51 (.pair .str .str) a1.2.2.2.2 (.slice A4 a1.2.2.2.2.length c_4)] w ∧ Q15.l0 kk a0 a1 x1 x2 = some r) (k := k) ⟨r1, A5, c_5, 0, rfl, h31, H⟩ ?_
 rintro k1 env w4 ⟨x1, A6, c_6, x2, rfl, h4, H⟩
 cases k1 with
 | zero => exact nomatch (show none = some r from H)
 | succ k1 =>
  rw [Q15.l0] at H
  refine J.seq (J.region ?_)
  refine RJ.run Za 1 rfl (RJ.fin [(2, _), (3, _), (5, _), (23, _), (24, _), (25, .bool (decide (x2 < a0.2.2.2.1)))] rfl (J.seq (J.cond rfl (fun c1 => ?_) (fun c1 => ?_))))
  ·replace H := Zi c1 H
   refine J.skip (J.seq (J.block (J.seq (J.region ?_))))
   refine RJ.run Za 2 rfl (RJ.fin [(2, _), (3, _), (5, _), (6, .int .i64 x2), (23, _), (24, _)] rfl (J.seq (J.region ?_)))
   refine RJ.run Za 1 rfl (RJ.fin [(2, _), (3, _), (5, _), (6, _), (7, .int .u32 0), (23, _), (24, _)] rfl (J.seq (J.seq (J.region ?_))))
   refine RJ.run Za 2 rfl (RJ.q rfl rfl (Zc Za 1 h4.wht rfl rfl rfl rfl rfl) (RJ.run Za 2 rfl (RJ.fin [(2, _), (3, _), (5, _), (6, _), (7, _), (23, _), (24, _), (31, .bool (decide (x2 < (a1.2.1.length : Int))))] rfl (J.cond rfl (fun c2 => ?_) (fun c2 => ?_)))))
   ·replace H := Zi c2 H
    refine J.region (RJ.run Za 1 rfl (RJ.q rfl rfl (Zc Za 1 h4.wht rfl rfl rfl rfl rfl) (RJ.run Za 1 rfl ?_)))
    obtain ⟨⟨p1, p2⟩, H⟩ := Zo H
    have e1 := Zy h4.wh (Gives.self 3 rfl) p1 p2
    refine RJ.q rfl rfl (Zk Za rfl rfl rfl rfl rfl e1 p1 p2) (RJ.q rfl rfl (Ze (f := 0) Za rfl h4.wht (Gives.self 3 rfl) p1 p2 rfl rfl rfl rfl rfl) (RJ.run Za 1 rfl (RJ.fin [(2, _), (3, _), (5, _), (7, .int .u32 (gt a1.2.1 x2)), (23, _), (24, _)] rfl (J.region (RJ.run Za 3 rfl ?_)))))
    obtain ⟨r2, q2, H⟩ := Zj H
    refine RJ.op rfl rfl (Zd [2] (Q9.spec q2) rfl rfl rfl h4 rfl Zm) ?_
    rintro _ w5 ⟨_, ⟨A7, c_7, rfl, rfl⟩, h5⟩
    replace h5 : St w0 F0 [Zf 5 (.int .u8) r2 (.slice A7 r2.length c_7), _, _] _ _ := h5
    refine RJ.run Za 1 rfl (RJ.fin [(2, _), (3, _), (5, .slice A7 r2.length c_7), (23, _), (24, _)] rfl (J.region (RJ.run Za 2 rfl (RJ.fin [(2, _), (3, _), (5, _), (23, _), (24, .int .i64 (w64 (x2 + 1)))] rfl ?_))))
    have h6 := ((h5.only [1, 1, 0] rfl).rds [0, 1, 2, 3] rfl)
    exact ⟨k1, by omega, r2, A7, c_7, (w64 (x2 + 1)), rfl, h6, H⟩
   replace H := Zg c2 H
   refine J.skip (J.region (RJ.run Za 3 rfl ?_))
   obtain ⟨r3, q3, H⟩ := Zj H
   refine RJ.op rfl rfl (Zd [2] (Q9.spec q3) rfl rfl rfl h4 rfl Zm) ?_
   rintro _ w6 ⟨_, ⟨A8, c_8, rfl, rfl⟩, h7⟩
   replace h7 : St w0 F0 [Zf 5 (.int .u8) r3 (.slice A8 r3.length c_8), _, _] _ _ := h7
   refine RJ.run Za 1 rfl (RJ.fin [(2, _), (3, _), (5, .slice A8 r3.length c_8), (23, _), (24, _)] rfl (J.region (RJ.run Za 2 rfl (RJ.fin [(2, _), (3, _), (5, _), (23, _), (24, .int .i64 (w64 (x2 + 1)))] rfl ?_))))
   have h8 := ((h7.only [1, 1, 0] rfl).rds [0, 1, 2, 3] rfl)
   exact ⟨k1, by omega, r3, A8, c_8, (w64 (x2 + 1)), rfl, h8, H⟩
  replace H := Zg c1 H
  refine J.exit (J.seq (J.seq (J.region ?_)))
  refine RJ.run Za 1 rfl (RJ.q rfl rfl (Zc Za 0 h4.wht rfl rfl rfl rfl rfl) (RJ.run Za 2 rfl (RJ.fin [(2, _), (3, _), (5, _), (44, .int .i64 (w64 (a0.2.2.2.1 - 1))), (45, .int .i64 0)] rfl (J.block ?_))))
  have h30 := ((h4.only [0, 0, 0] rfl).rds [0, 1, 2, 3] rfl)
  refine J.loop (fun kk env w => ∃ (x3 : List (Int)) (A9 : Option Addr) (c_9 : Nat) (x4 : Int), env = [(2, .pointer (some ⟨b1, 0, none⟩)), (3, .pointer (some ⟨b2, 0, none⟩)), (5, .slice A9 x3.length c_9), (44, .int .i64 (w64 (a0.2.2.2.1 - 1))), (45, .int .i64 x4)] ∧ St w0 F0 [Zh b1 23 [.int .i64 a0.1, .int .i64 a0.2.1, .int .i64 a0.2.2.1, .int .i64 a0.2.2.2.1, .int .i64 a0.2.2.2.2.1, .int .i64 a0.2.2.2.2.2.1, .int .i64 a0.2.2.2.2.2.2.1, .int .i64 a0.2.2.2.2.2.2.2], Zh b2 29 [.int .i64 a1.1, .slice A1 a1.2.1.length c_1, .slice A2 a1.2.2.1.length c_2, .slice A3 a1.2.2.2.1.length c_3, .slice A4 a1.2.2.2.2.length c_4], Zf 5 (.int .u8) x3 (.slice A9 x3.length c_9)] [rdC 70 (.int .u32) a1.2.1 (.slice A1 a1.2.1.length c_1), rdC 9 .str a1.2.2.1 (.slice A2 a1.2.2.1.length c_2), rdC 49 (.pair .str (.pair .bool .str)) a1.2.2.2.1 (.slice A3 a1.2.2.2.1.length c_3), rdC 51 (.pair .str .str) a1.2.2.2.2 (.slice A4 a1.2.2.2.2.length c_4)] w ∧ Q15.l1 kk a0 a1 x3 x4 = some r) (k := k1) ⟨x1, A6, c_6, 0, rfl, h30, H⟩ ?_
  rintro k2 env w7 ⟨x3, A9, c_9, x4, rfl, h9, H⟩
  cases k2 with
  | zero => exact nomatch (show none = some r from H)
  | succ k2 =>
   rw [Q15.l1] at H
   refine J.seq (J.region ?_)
   refine RJ.run Za 1 rfl (RJ.fin [(2, _), (3, _), (5, _), (44, _), (45, _), (46, .bool (decide (x4 < (w64 (a0.2.2.2.1 - 1)))))] rfl (J.seq (J.cond rfl (fun c3 => ?_) (fun c3 => ?_))))
   ·replace H := Zi c3 H
    refine J.skip (J.seq (J.block (J.seq (J.region ?_))))
    refine RJ.run Za 2 rfl (RJ.fin [(2, _), (3, _), (5, _), (8, .int .i64 x4), (44, _), (45, _)] rfl (J.seq (J.region ?_)))
    refine RJ.run Za 1 rfl (RJ.fin [(2, _), (3, _), (5, _), (8, _), (9, .string ⟨⟨([] : List UInt8)⟩⟩), (44, _), (45, _)] rfl (J.seq (J.seq (J.region ?_))))
    refine RJ.run Za 2 rfl (RJ.q rfl rfl (Zc Za 1 h9.wht rfl rfl rfl rfl rfl) (RJ.run Za 2 rfl (RJ.fin [(2, _), (3, _), (5, _), (8, _), (9, _), (44, _), (45, _), (52, .bool (decide (x4 < (a1.2.2.1.length : Int))))] rfl (J.cond rfl (fun c4 => ?_) (fun c4 => ?_)))))
    ·replace H := Zi c4 H
     refine J.region (RJ.run Za 1 rfl (RJ.q rfl rfl (Zc Za 1 h9.wht rfl rfl rfl rfl rfl) (RJ.run Za 1 rfl ?_)))
     obtain ⟨⟨p3, p4⟩, H⟩ := Zo H
     have e2 := Zy h9.wh (Gives.self 4 rfl) p3 p4
     refine RJ.q rfl rfl (Zk Za rfl rfl rfl rfl rfl e2 p3 p4) (RJ.q rfl rfl (Ze (f := 0) Za rfl h9.wht (Gives.self 4 rfl) p3 p4 rfl rfl rfl rfl rfl) (RJ.run Za 1 rfl (RJ.fin [(2, _), (3, _), (5, _), (9, .string ⟨⟨(gt a1.2.2.1 x4)⟩⟩), (44, _), (45, _)] rfl (J.heldSt mix (h9.only [0, 0] rfl) ?_))))
     have h10 := h9.drew
     refine HJ.run Za rfl [0, 1, 2, 3, 5, 6] rfl (HJ.q (i := 7) rfl rfl rfl rfl rfl rfl (Zc Za 0 (fun w e => e) rfl rfl rfl rfl rfl) ?_)
     obtain ⟨r4, q4, H⟩ := Zj H
     refine HJ.op (i := 4) rfl rfl rfl rfl rfl (Zd [2] (Q9.spec q4) rfl rfl rfl h10 rfl Zm) ?_
     rintro _ w8 ⟨_, ⟨A10, c_10, rfl, rfl⟩, h11⟩
     replace h11 : St w0 F0 [Zf 5 (.int .u8) r4 (.slice A10 r4.length c_10), _, _] _ _ := h11
     refine ⟨⟨[_], h11⟩, ?_⟩
     obtain ⟨r5, q5, H⟩ := Zj H
     refine HJ.op (i := 8) rfl rfl rfl rfl rfl (Zd [0] (Q14.spec q5) rfl rfl rfl h11 rfl Zm) ?_
     rintro _ w9 ⟨_, ⟨A11, c_11, rfl, rfl⟩, h12⟩
     replace h12 : St w0 F0 [Zf 5 (.int .u8) r5 (.slice A11 r5.length c_11), _, _] _ _ := h12
     refine ⟨⟨[_], h12⟩, ?_⟩
     refine HJ.run Za rfl [9] rfl (HJ.fin [(2, _), (3, _), (5, .slice A11 r5.length c_11), (44, _), (45, _)] rfl rfl (J.region (RJ.run Za 2 rfl (RJ.fin [(2, _), (3, _), (5, _), (44, _), (45, .int .i64 (w64 (x4 + 1)))] rfl ?_))))
     have h13 := ((h12.only [1, 1, 0] rfl).rds [0, 1, 2, 3] rfl)
     exact ⟨k2, by omega, r5, A11, c_11, (w64 (x4 + 1)), rfl, h13, H⟩
    replace H := Zg c4 H
    refine J.skip (J.heldSt mix (h9.only [0, 0] rfl) ?_)
    have h14 := h9.drew
    refine HJ.run Za rfl [0, 1, 2, 3, 5, 6] rfl (HJ.q (i := 7) rfl rfl rfl rfl rfl rfl (Zc Za 0 (fun w e => e) rfl rfl rfl rfl rfl) ?_)
    obtain ⟨r6, q6, H⟩ := Zj H
    refine HJ.op (i := 4) rfl rfl rfl rfl rfl (Zd [2] (Q9.spec q6) rfl rfl rfl h14 rfl Zm) ?_
    rintro _ w10 ⟨_, ⟨A12, c_12, rfl, rfl⟩, h15⟩
    replace h15 : St w0 F0 [Zf 5 (.int .u8) r6 (.slice A12 r6.length c_12), _, _] _ _ := h15
    refine ⟨⟨[_], h15⟩, ?_⟩
    obtain ⟨r7, q7, H⟩ := Zj H
    refine HJ.op (i := 8) rfl rfl rfl rfl rfl (Zd [0] (Q14.spec q7) rfl rfl rfl h15 rfl Zm) ?_
    rintro _ w11 ⟨_, ⟨A13, c_13, rfl, rfl⟩, h16⟩
    replace h16 : St w0 F0 [Zf 5 (.int .u8) r7 (.slice A13 r7.length c_13), _, _] _ _ := h16
    refine ⟨⟨[_], h16⟩, ?_⟩
    refine HJ.run Za rfl [9] rfl (HJ.fin [(2, _), (3, _), (5, .slice A13 r7.length c_13), (44, _), (45, _)] rfl rfl (J.region (RJ.run Za 2 rfl (RJ.fin [(2, _), (3, _), (5, _), (44, _), (45, .int .i64 (w64 (x4 + 1)))] rfl ?_))))
    have h17 := ((h16.only [1, 1, 0] rfl).rds [0, 1, 2, 3] rfl)
    exact ⟨k2, by omega, r7, A13, c_13, (w64 (x4 + 1)), rfl, h17, H⟩
   replace H := Zg c3 H
   refine J.exit (J.seq (J.seq (J.region ?_)))
   refine RJ.run Za 1 rfl (RJ.q rfl rfl (Zc Za 1 h9.wht rfl rfl rfl rfl rfl) (RJ.run Za 2 rfl (RJ.fin [(2, _), (5, _), (69, .slice A3 a1.2.2.2.1.length c_3), (70, .int .i64 (a1.2.2.2.1.length : Int)), (71, .int .i64 0)] rfl (J.block ?_))))
   have h29 := ((h9.only [0, 1] rfl).rds [2] rfl)
   refine J.loop (fun kk env w => ∃ (x5 : List (Int)) (A14 : Option Addr) (c_14 : Nat) (x6 : Int), env = [(2, .pointer (some ⟨b1, 0, none⟩)), (5, .slice A14 x5.length c_14), (69, .slice A3 a1.2.2.2.1.length c_3), (70, .int .i64 (a1.2.2.2.1.length : Int)), (71, .int .i64 x6)] ∧ St w0 F0 [Zh b1 23 [.int .i64 a0.1, .int .i64 a0.2.1, .int .i64 a0.2.2.1, .int .i64 a0.2.2.2.1, .int .i64 a0.2.2.2.2.1, .int .i64 a0.2.2.2.2.2.1, .int .i64 a0.2.2.2.2.2.2.1, .int .i64 a0.2.2.2.2.2.2.2], Zf 5 (.int .u8) x5 (.slice A14 x5.length c_14)] [rdC 49 (.pair .str (.pair .bool .str)) a1.2.2.2.1 (.slice A3 a1.2.2.2.1.length c_3)] w ∧ Q15.l2 kk a0 a1 x5 x6 = some r) (k := k2) ⟨x3, A9, c_9, 0, rfl, h29, H⟩ ?_
   rintro k3 env w12 ⟨x5, A14, c_14, x6, rfl, h18, H⟩
   cases k3 with
   | zero => exact nomatch (show none = some r from H)
   | succ k3 =>
    rw [Q15.l2] at H
    refine J.seq (J.region ?_)
    refine RJ.run Za 1 rfl (RJ.fin [(2, _), (5, _), (69, _), (70, _), (71, _), (72, .bool (decide (x6 < (a1.2.2.2.1.length : Int))))] rfl (J.seq (J.cond rfl (fun c5 => ?_) (fun c5 => ?_))))
    ·replace H := Zi c5 H
     refine J.skip (J.seq (J.block (J.seq (J.region ?_))))
     obtain ⟨⟨p5, p6⟩, H⟩ := Zo H
     have e3 := Zy h18.wh (Gives.self 2 rfl) p5 p6
     refine RJ.q rfl rfl (Zk Za rfl rfl rfl rfl rfl e3 p5 p6) (RJ.q rfl rfl (Ze (f := 0) Za rfl h18.wht (Gives.self 2 rfl) p5 p6 rfl rfl rfl rfl rfl) (RJ.op rfl rfl (Ye Za rfl rfl h18) ?_))
     rintro _ w13 ⟨b3, rfl, h19⟩
     replace h19 : St w0 F0 [Zh b3 49 [.string ⟨⟨([] : List UInt8)⟩⟩, .bool false, .string ⟨⟨([] : List UInt8)⟩⟩], _, _] _ _ := h19
     refine RJ.op rfl rfl (Zt Za 0 rfl h19 rfl rfl rfl rfl rfl rfl rfl) ?_
     intro _ w14 h20
     replace h20 : St w0 F0 [Zh b3 49 [.string ⟨⟨(gt a1.2.2.2.1 x6).1⟩⟩, .bool ((gt a1.2.2.2.1 x6).2.1), .string ⟨⟨(gt a1.2.2.2.1 x6).2.2⟩⟩], _, _] _ _ := h20
     refine RJ.fin [(2, _), (5, _), (11, .pointer (some ⟨b3, 0, none⟩)), (69, _), (70, _), (71, _)] rfl (J.seq (J.region ?_))
     refine RJ.run Za 1 rfl (RJ.fin [(2, _), (5, _), (11, _), (12, .int .u64 1), (69, _), (70, _), (71, _)] rfl (J.seq (J.seq (J.region ?_))))
     refine RJ.run Za 1 rfl (RJ.q rfl rfl (Zc Za 0 h20.wht rfl rfl rfl rfl rfl) (RJ.fin [(2, _), (5, _), (11, _), (12, _), (69, _), (70, _), (71, _), (76, .bool ((gt a1.2.2.2.1 x6).2.1))] rfl (J.cond rfl (fun c6 => ?_) (fun c6 => ?_))))
     ·replace H := Zi c6 H
      refine J.region (RJ.run Za 1 rfl (RJ.fin [(2, _), (5, _), (11, _), (12, .int .u64 2), (69, _), (70, _), (71, _)] rfl (J.heldSt mix (h20.only [0, 0] rfl) ?_)))
      have h21 := h20.drew
      refine HJ.run Za rfl [1, 2, 4, 6] rfl (HJ.q (i := 0) rfl rfl rfl rfl rfl rfl (Zc Za 1 (fun w e => e) rfl rfl rfl rfl rfl) ?_)
      refine HJ.q (i := 5) rfl rfl rfl rfl rfl rfl (Zc Za 0 (fun w e => e) rfl rfl rfl rfl rfl) ?_
      refine HJ.q (i := 7) rfl rfl rfl rfl rfl rfl (Zc Za 0 (fun w e => e) rfl rfl rfl rfl rfl) ?_
      obtain ⟨r8, q8, H⟩ := Zj H
      refine HJ.op (i := 3) rfl rfl rfl rfl rfl (Zd [2] (Q9.spec q8) rfl rfl rfl h21 rfl Zm) ?_
      rintro _ w15 ⟨_, ⟨A15, c_15, rfl, rfl⟩, h22⟩
      replace h22 : St w0 F0 [Zf 5 (.int .u8) r8 (.slice A15 r8.length c_15), _, _] _ _ := h22
      refine ⟨⟨[_], h22⟩, ?_⟩
      obtain ⟨r9, q9, H⟩ := Zj H
      refine HJ.op (i := 8) rfl rfl rfl rfl rfl (Zd [0] (Q10.spec q9) rfl rfl rfl h22 rfl Zm) ?_
      rintro _ w16 ⟨_, ⟨A16, c_16, rfl, rfl⟩, h23⟩
      replace h23 : St w0 F0 [Zf 5 (.int .u8) r9 (.slice A16 r9.length c_16), _, _] _ _ := h23
      refine ⟨⟨[_], h23⟩, ?_⟩
      refine HJ.run Za rfl [9] rfl (HJ.fin [(2, _), (5, .slice A16 r9.length c_16), (69, _), (70, _), (71, _)] rfl rfl (J.region (RJ.run Za 2 rfl (RJ.fin [(2, _), (5, _), (69, _), (70, _), (71, .int .i64 (w64 (x6 + 1)))] rfl ?_))))
      have h24 := ((h23.only [2, 0] rfl).rds [0] rfl)
      exact ⟨k3, by omega, r9, A16, c_16, (w64 (x6 + 1)), rfl, h24, H⟩
     replace H := Zg c6 H
     refine J.skip (J.heldSt mix (h20.only [0, 0] rfl) ?_)
     have h25 := h20.drew
     refine HJ.run Za rfl [1, 2, 4, 6] rfl (HJ.q (i := 0) rfl rfl rfl rfl rfl rfl (Zc Za 1 (fun w e => e) rfl rfl rfl rfl rfl) ?_)
     refine HJ.q (i := 5) rfl rfl rfl rfl rfl rfl (Zc Za 0 (fun w e => e) rfl rfl rfl rfl rfl) ?_
     refine HJ.q (i := 7) rfl rfl rfl rfl rfl rfl (Zc Za 0 (fun w e => e) rfl rfl rfl rfl rfl) ?_
     obtain ⟨r10, q10, H⟩ := Zj H
     refine HJ.op (i := 3) rfl rfl rfl rfl rfl (Zd [2] (Q9.spec q10) rfl rfl rfl h25 rfl Zm) ?_
     rintro _ w17 ⟨_, ⟨A17, c_17, rfl, rfl⟩, h26⟩
     replace h26 : St w0 F0 [Zf 5 (.int .u8) r10 (.slice A17 r10.length c_17), _, _] _ _ := h26
     refine ⟨⟨[_], h26⟩, ?_⟩
     obtain ⟨r11, q11, H⟩ := Zj H
     refine HJ.op (i := 8) rfl rfl rfl rfl rfl (Zd [0] (Q10.spec q11) rfl rfl rfl h26 rfl Zm) ?_
     rintro _ w18 ⟨_, ⟨A18, c_18, rfl, rfl⟩, h27⟩
     replace h27 : St w0 F0 [Zf 5 (.int .u8) r11 (.slice A18 r11.length c_18), _, _] _ _ := h27
     refine ⟨⟨[_], h27⟩, ?_⟩
     refine HJ.run Za rfl [9] rfl (HJ.fin [(2, _), (5, .slice A18 r11.length c_18), (69, _), (70, _), (71, _)] rfl rfl (J.region (RJ.run Za 2 rfl (RJ.fin [(2, _), (5, _), (69, _), (70, _), (71, .int .i64 (w64 (x6 + 1)))] rfl ?_))))
     have h28 := ((h27.only [2, 0] rfl).rds [0] rfl)
     exact ⟨k3, by omega, r11, A18, c_18, (w64 (x6 + 1)), rfl, h28, H⟩
    replace H := Zg c5 H
    refine J.exit (J.seq (J.region ?_))
    refine RJ.run Za 2 rfl (RJ.fin [(4, .slice A14 x5.length c_14)] rfl (J.ret ?_))
    obtain rfl := Option.some.inj H
    exact ⟨_, _, _, (Zb rfl), ⟨_, _, rfl, rfl⟩, h18.only [1] rfl⟩

def Q16.l0 : Nat → (Int × Int × Int × Int × Int × Int × Int × Int) → (Int × List (Int) × List (List UInt8) × (List (List UInt8 × Bool × List UInt8)) × (List (List UInt8 × List UInt8))) → (List (Int)) → (Int) → Option (List (Int))
 | 0, _, _, _, _ => none
 | k + 1, a0, a1, x1, x2 => if (decide (x2 < (a1.2.2.2.2.length : Int))) = true then (if 0 ≤ x2 ∧ x2 < (a1.2.2.2.2.length : Int) then ((Q10.f k (a0.1, a0.2.1, a0.2.2.1, a0.2.2.2.1, a0.2.2.2.2.1, a0.2.2.2.2.2.1, a0.2.2.2.2.2.2.1, a0.2.2.2.2.2.2.2) x1 ((gt a1.2.2.2.2 x2).1) ((gt a1.2.2.2.2 x2).2)).bind fun r2 => (Q16.l0 k a0 a1 r2 (w64 (x2 + 1)))) else none) else (some x1)
def Q16.f (k : Nat) (a0 : Int × Int × Int × Int × Int × Int × Int × Int) (a1 : Int × List (Int) × List (List UInt8) × (List (List UInt8 × Bool × List UInt8)) × (List (List UInt8 × List UInt8))) : Option (List (Int)) := (Q8.f k 1 0 (a1.2.2.2.2.length : Int) 0).bind fun r1 => (Q16.l0 k a0 a1 r1 0)
theorem Q16.spec {k : Nat} {a0 : Int × Int × Int × Int × Int × Int × Int × Int} {a1 : Int × List (Int) × List (List UInt8) × (List (List UInt8 × Bool × List UInt8)) × (List (List UInt8 × List UInt8))} {A1 : Option Addr} {c_1 : Nat} {A2 : Option Addr} {c_2 : Nat} {A3 : Option Addr} {c_3 : Nat} {A4 : Option Addr} {c_4 : Nat} {r : List (Int)} (H : Q16.f k a0 a1 = some r) :
  Spec Tryz.prog 18 [.agg #[.int .i64 a0.1, .int .i64 a0.2.1, .int .i64 a0.2.2.1, .int .i64 a0.2.2.2.1, .int .i64 a0.2.2.2.2.1, .int .i64 a0.2.2.2.2.2.1, .int .i64 a0.2.2.2.2.2.2.1, .int .i64 a0.2.2.2.2.2.2.2], .agg #[.int .i64 a1.1, .slice A1 a1.2.1.length c_1, .slice A2 a1.2.2.1.length c_2, .slice A3 a1.2.2.2.1.length c_3, .slice A4 a1.2.2.2.2.length c_4]] [] [rdC 70 (.int .u32) a1.2.1 (.slice A1 a1.2.1.length c_1), rdC 9 .str a1.2.2.1 (.slice A2 a1.2.2.1.length c_2), rdC 49 (.pair .str (.pair .bool .str)) a1.2.2.2.1 (.slice A3 a1.2.2.2.1.length c_3), rdC 51 (.pair .str .str) a1.2.2.2.2 (.slice A4 a1.2.2.2.2.length c_4)] (fun v l => ∃ (A_0 : Option Addr) (c_0 : Nat), v = .slice A_0 r.length c_0 ∧ l = [Zf 5 (.int .u8) r (.slice A_0 r.length c_0)]) := by
 refine Spec.enter Tryz.func18 rfl (by kernel_rfl) (by kernel_rfl) fun w0 F0 h0 => ?_
 unfold Q16.f at H
 refine J.seq (J.region ?_)
 refine RJ.op rfl rfl (Z2 rfl rfl h0) ?_
 rintro _ w1 ⟨b1, rfl, h1⟩
 replace h1 : St w0 F0 [Zh b1 23 [.int .i64 a0.1, .int .i64 a0.2.1, .int .i64 a0.2.2.1, .int .i64 a0.2.2.2.1, .int .i64 a0.2.2.2.2.1, .int .i64 a0.2.2.2.2.2.1, .int .i64 a0.2.2.2.2.2.2.1, .int .i64 a0.2.2.2.2.2.2.2]] _ _ := h1
 refine RJ.op rfl rfl (Z2 rfl rfl h1) ?_
 rintro _ w2 ⟨b2, rfl, h2⟩
 replace h2 : St w0 F0 [Zh b2 29 [.int .i64 a1.1, .slice A1 a1.2.1.length c_1, .slice A2 a1.2.2.1.length c_2, .slice A3 a1.2.2.2.1.length c_3, .slice A4 a1.2.2.2.2.length c_4], _] _ _ := h2
 refine RJ.run Za 1 rfl (RJ.fin [(2, .pointer (some ⟨b1, 0, none⟩)), (3, .pointer (some ⟨b2, 0, none⟩))] rfl (J.seq (J.region ?_)))
 refine RJ.run Za 1 rfl (RJ.q rfl rfl (Zc Za 0 h2.wht rfl rfl rfl rfl rfl) (RJ.run Za 1 rfl ?_))
 obtain ⟨r1, q1, H⟩ := Zj H
 refine RJ.op rfl rfl (Zd [] (Q8.spec q1) rfl rfl rfl h2 rfl Zm) ?_
 rintro _ w3 ⟨_, ⟨A5, c_5, rfl, rfl⟩, h3⟩
 replace h3 : St w0 F0 [Zf 5 (.int .u8) r1 (.slice A5 r1.length c_5), _, _] _ _ := h3
 refine RJ.run Za 1 rfl (RJ.fin [(2, _), (3, _), (5, .slice A5 r1.length c_5)] rfl (J.seq (J.seq (J.region ?_))))
 refine RJ.run Za 1 rfl (RJ.q rfl rfl (Zc Za 1 h3.wht rfl rfl rfl rfl rfl) (RJ.run Za 2 rfl (RJ.fin [(2, _), (5, _), (13, .slice A4 a1.2.2.2.2.length c_4), (14, .int .i64 (a1.2.2.2.2.length : Int)), (15, .int .i64 0)] rfl (J.block ?_))))
 have h9 := ((h3.only [2, 0] rfl).rds [3] rfl)
 refine J.loop (fun kk env w => ∃ (x1 : List (Int)) (A6 : Option Addr) (c_6 : Nat) (x2 : Int), env = [(2, .pointer (some ⟨b1, 0, none⟩)), (5, .slice A6 x1.length c_6), (13, .slice A4 a1.2.2.2.2.length c_4), (14, .int .i64 (a1.2.2.2.2.length : Int)), (15, .int .i64 x2)] ∧ St w0 F0 [Zh b1 23 [.int .i64 a0.1, .int .i64 a0.2.1, .int .i64 a0.2.2.1, .int .i64 a0.2.2.2.1, .int .i64 a0.2.2.2.2.1, .int .i64 a0.2.2.2.2.2.1, .int .i64 a0.2.2.2.2.2.2.1, .int .i64 a0.2.2.2.2.2.2.2], Zf 5 (.int .u8) x1 (.slice A6 x1.length c_6)] [rdC 51 (.pair .str .str) a1.2.2.2.2 (.slice A4 a1.2.2.2.2.length c_4)] w ∧ Q16.l0 kk a0 a1 x1 x2 = some r) (k := k) ⟨r1, A5, c_5, 0, rfl, h9, H⟩ ?_
 rintro k1 env w4 ⟨x1, A6, c_6, x2, rfl, h4, H⟩
 cases k1 with
 | zero => exact nomatch (show none = some r from H)
 | succ k1 =>
  rw [Q16.l0] at H
  refine J.seq (J.region ?_)
  refine RJ.run Za 1 rfl (RJ.fin [(2, _), (5, _), (13, _), (14, _), (15, _), (16, .bool (decide (x2 < (a1.2.2.2.2.length : Int))))] rfl (J.seq (J.cond rfl (fun c1 => ?_) (fun c1 => ?_))))
  ·replace H := Zi c1 H
   refine J.skip (J.seq (J.block (J.seq (J.region ?_))))
   obtain ⟨⟨p1, p2⟩, H⟩ := Zo H
   have e1 := Zy h4.wh (Gives.self 2 rfl) p1 p2
   refine RJ.q rfl rfl (Zk Za rfl rfl rfl rfl rfl e1 p1 p2) (RJ.q rfl rfl (Ze (f := 0) Za rfl h4.wht (Gives.self 2 rfl) p1 p2 rfl rfl rfl rfl rfl) (RJ.op rfl rfl (Ye Za rfl rfl h4) ?_))
   rintro _ w5 ⟨b3, rfl, h5⟩
   replace h5 : St w0 F0 [Zh b3 51 [.string ⟨⟨([] : List UInt8)⟩⟩, .string ⟨⟨([] : List UInt8)⟩⟩], _, _] _ _ := h5
   refine RJ.op rfl rfl (Zt Za 0 rfl h5 rfl rfl rfl rfl rfl rfl rfl) ?_
   intro _ w6 h6
   replace h6 : St w0 F0 [Zh b3 51 [.string ⟨⟨(gt a1.2.2.2.2 x2).1⟩⟩, .string ⟨⟨(gt a1.2.2.2.2 x2).2⟩⟩], _, _] _ _ := h6
   refine RJ.fin [(2, _), (5, _), (7, .pointer (some ⟨b3, 0, none⟩)), (13, _), (14, _), (15, _)] rfl (J.region (RJ.q rfl rfl (Zc Za 1 h6.wht rfl rfl rfl rfl rfl) (RJ.run Za 2 rfl (RJ.q rfl rfl (Zc Za 0 h6.wht rfl rfl rfl rfl rfl) (RJ.run Za 1 rfl (RJ.q rfl rfl (Zc Za 0 h6.wht rfl rfl rfl rfl rfl) ?_))))))
   obtain ⟨r2, q2, H⟩ := Zj H
   refine RJ.op rfl rfl (Zd [2] (Q10.spec q2) rfl rfl rfl h6 rfl Zm) ?_
   rintro _ w7 ⟨_, ⟨A7, c_7, rfl, rfl⟩, h7⟩
   replace h7 : St w0 F0 [Zf 5 (.int .u8) r2 (.slice A7 r2.length c_7), _, _] _ _ := h7
   refine RJ.run Za 1 rfl (RJ.fin [(2, _), (5, .slice A7 r2.length c_7), (13, _), (14, _), (15, _)] rfl (J.region (RJ.run Za 2 rfl (RJ.fin [(2, _), (5, _), (13, _), (14, _), (15, .int .i64 (w64 (x2 + 1)))] rfl ?_))))
   have h8 := ((h7.only [2, 0] rfl).rds [0] rfl)
   exact ⟨k1, by omega, r2, A7, c_7, (w64 (x2 + 1)), rfl, h8, H⟩
  replace H := Zg c1 H
  refine J.exit (J.seq (J.region ?_))
  refine RJ.run Za 2 rfl (RJ.fin [(4, .slice A6 x1.length c_6)] rfl (J.ret ?_))
  obtain rfl := Option.some.inj H
  exact ⟨_, _, _, (Zb rfl), ⟨_, _, rfl, rfl⟩, h4.only [1] rfl⟩

def Q7.f (k : Nat) (a0 : Int × Int × Int × Int × Int × Int × Int × Int) (a1 : Int × List (Int) × List (List UInt8) × (List (List UInt8 × Bool × List UInt8)) × (List (List UInt8 × List UInt8))) : Option (List (Int) × Int) := (Q17.f (a0.1, a0.2.1, a0.2.2.1, a0.2.2.2.1, a0.2.2.2.2.1, a0.2.2.2.2.2.1, a0.2.2.2.2.2.2.1, a0.2.2.2.2.2.2.2)).bind fun r1 => (if (!decide (r1 = 0)) = true then (some (([] : List (Int)), r1)) else ((Q24.f).bind fun r2 => ((Q28.f k (a0.1, a0.2.1, a0.2.2.1, a0.2.2.2.1, a0.2.2.2.2.1, a0.2.2.2.2.2.1, a0.2.2.2.2.2.2.1, a0.2.2.2.2.2.2.2) (r2.1, r2.2.1, r2.2.2) (a1.1, a1.2.1, a1.2.2.1, a1.2.2.2.1, a1.2.2.2.2)).bind fun r3 => (if (!r3) = true then (some (([] : List (Int)), 3)) else (if (decide (0 < a1.1)) = true then ((Q15.f k (a0.1, a0.2.1, a0.2.2.1, a0.2.2.2.1, a0.2.2.2.2.1, a0.2.2.2.2.2.1, a0.2.2.2.2.2.2.1, a0.2.2.2.2.2.2.2) (a1.1, a1.2.1, a1.2.2.1, a1.2.2.2.1, a1.2.2.2.2)).bind fun r4 => (if 0 ≤ (w64 (a0.2.1 - (r4.length : Int))) ∧ ((r4.length : Int) + (w64 (a0.2.1 - (r4.length : Int)))) * 1 ≤ 140737488355328 then (some ((r4 ++ List.replicate (w64 (a0.2.1 - (r4.length : Int))).toNat 0), 0)) else none)) else ((Q16.f k (a0.1, a0.2.1, a0.2.2.1, a0.2.2.2.1, a0.2.2.2.2.1, a0.2.2.2.2.2.1, a0.2.2.2.2.2.2.1, a0.2.2.2.2.2.2.2) (a1.1, a1.2.1, a1.2.2.1, a1.2.2.2.1, a1.2.2.2.2)).bind fun r5 => (if 0 ≤ (w64 (a0.2.1 - (r5.length : Int))) ∧ ((r5.length : Int) + (w64 (a0.2.1 - (r5.length : Int)))) * 1 ≤ 140737488355328 then (some ((r5 ++ List.replicate (w64 (a0.2.1 - (r5.length : Int))).toNat 0), 0)) else none)))))))
theorem Q7.spec {k : Nat} {a0 : Int × Int × Int × Int × Int × Int × Int × Int} {a1 : Int × List (Int) × List (List UInt8) × (List (List UInt8 × Bool × List UInt8)) × (List (List UInt8 × List UInt8))} {A1 : Option Addr} {c_1 : Nat} {A2 : Option Addr} {c_2 : Nat} {A3 : Option Addr} {c_3 : Nat} {A4 : Option Addr} {c_4 : Nat} {r : List (Int) × Int} (H : Q7.f k a0 a1 = some r) :
  Spec Tryz.prog 9 [.agg #[.int .i64 a0.1, .int .i64 a0.2.1, .int .i64 a0.2.2.1, .int .i64 a0.2.2.2.1, .int .i64 a0.2.2.2.2.1, .int .i64 a0.2.2.2.2.2.1, .int .i64 a0.2.2.2.2.2.2.1, .int .i64 a0.2.2.2.2.2.2.2], .agg #[.int .i64 a1.1, .slice A1 a1.2.1.length c_1, .slice A2 a1.2.2.1.length c_2, .slice A3 a1.2.2.2.1.length c_3, .slice A4 a1.2.2.2.2.length c_4]] [] [rdC 70 (.int .u32) a1.2.1 (.slice A1 a1.2.1.length c_1), rdC 9 .str a1.2.2.1 (.slice A2 a1.2.2.1.length c_2), rdC 49 (.pair .str (.pair .bool .str)) a1.2.2.2.1 (.slice A3 a1.2.2.2.1.length c_3), rdC 51 (.pair .str .str) a1.2.2.2.2 (.slice A4 a1.2.2.2.2.length c_4)] (fun v l => ∃ (A_0 : Option Addr) (c_0 : Nat), v = .tuple #[.slice A_0 r.1.length c_0, .int .i64 r.2] ∧ l = [Zf 5 (.int .u8) r.1 (.slice A_0 r.1.length c_0)]) := by
 refine Spec.enter Tryz.func9 rfl (by kernel_rfl) (by kernel_rfl) fun w0 F0 h0 => ?_
 unfold Q7.f at H
 refine J.seq (J.region ?_)
 refine RJ.op rfl rfl (Z2 rfl rfl h0) ?_
 rintro _ w1 ⟨b1, rfl, h1⟩
 replace h1 : St w0 F0 [Zh b1 23 [.int .i64 a0.1, .int .i64 a0.2.1, .int .i64 a0.2.2.1, .int .i64 a0.2.2.2.1, .int .i64 a0.2.2.2.2.1, .int .i64 a0.2.2.2.2.2.1, .int .i64 a0.2.2.2.2.2.2.1, .int .i64 a0.2.2.2.2.2.2.2]] _ _ := h1
 refine RJ.op rfl rfl (Z2 rfl rfl h1) ?_
 rintro _ w2 ⟨b2, rfl, h2⟩
 replace h2 : St w0 F0 [Zh b2 29 [.int .i64 a1.1, .slice A1 a1.2.1.length c_1, .slice A2 a1.2.2.1.length c_2, .slice A3 a1.2.2.2.1.length c_3, .slice A4 a1.2.2.2.2.length c_4], _] _ _ := h2
 refine RJ.run Za 2 rfl (RJ.fin [(2, .pointer (some ⟨b1, 0, none⟩)), (3, .pointer (some ⟨b2, 0, none⟩))] rfl (J.seq (J.seq (J.region ?_))))
 refine RJ.q rfl rfl (Zc Za 1 h2.wht rfl rfl rfl rfl rfl) ?_
 obtain ⟨r1, q1, H⟩ := Zj H
 refine RJ.op rfl rfl (Zd [] (Q17.spec q1) rfl rfl rfl h2 rfl Zm) ?_
 rintro _ w3 ⟨_, ⟨rfl, rfl⟩, h3⟩
 replace h3 : St w0 F0 [_, _] _ _ := h3
 refine RJ.run Za 1 rfl (RJ.fin [(2, _), (3, _), (6, .int .i64 r1)] rfl (J.seq (J.region ?_)))
 refine RJ.run Za 2 rfl (RJ.fin [(2, _), (3, _), (6, _), (12, .bool (!decide (r1 = 0)))] rfl (J.cond rfl (fun c1 => ?_) (fun c1 => ?_)))
 ·replace H := Zi c1 H
  refine J.seq (J.region ?_)
  refine RJ.run Za 3 rfl (RJ.fin [(4, .slice none ([] : List (Int)).length 0), (5, .int .i64 r1)] rfl ?_)
  have h4 := h3.only [] rfl
  replace h4 : St w0 F0 [] _ _ := h4
  refine J.ret ?_
  have h5 := h4.addNil 5 (.int .u8)
  obtain rfl := Option.some.inj H
  exact ⟨_, _, _, (Zb rfl), ⟨_, _, rfl, rfl⟩, h5.only [0] rfl⟩
 replace H := Zg c1 H
 refine J.skip (J.seq (J.seq ?_))
 refine J.heldSt mix h3 ?_
 have h6 := h3.drew
 refine HJ.q (i := 0) rfl rfl rfl rfl rfl rfl (Zc Za 1 (fun w e => e) rfl rfl rfl rfl rfl) ?_
 refine HJ.q (i := 2) rfl rfl rfl rfl rfl rfl (Zc Za 0 (fun w e => e) rfl rfl rfl rfl rfl) ?_
 obtain ⟨r2, q2, H⟩ := Zj H
 refine HJ.op (i := 1) rfl rfl rfl rfl rfl (Zd [] (Q24.spec q2) rfl rfl rfl h6 rfl Zm) ?_
 rintro _ w4 ⟨_, ⟨rfl, rfl⟩, h7⟩
 replace h7 : St w0 F0 [_, _] _ _ := h7
 refine ⟨⟨[], h7⟩, ?_⟩
 obtain ⟨r3, q3, H⟩ := Zj H
 refine HJ.op (i := 3) rfl rfl rfl rfl rfl (Zd [] (Q28.spec q3) rfl rfl rfl h7 rfl (Zr (Gives.self 2 rfl) (Zr (Gives.self 3 rfl) (Zr (Gives.self 4 rfl) (Zr (Gives.self 5 rfl) Zm))))) ?_
 rintro _ w5 ⟨_, ⟨rfl, rfl⟩, h8⟩
 replace h8 : St w0 F0 [_, _] _ _ := h8
 refine ⟨⟨[], h8⟩, ?_⟩
 refine HJ.run Za rfl [4] rfl (HJ.fin [(2, _), (3, _), (18, .bool (!r3))] rfl rfl (J.cond rfl (fun c2 => ?_) (fun c2 => ?_)))
 ·replace H := Zi c2 H
  refine J.seq (J.region ?_)
  refine RJ.run Za 2 rfl (RJ.fin [(4, .slice none ([] : List (Int)).length 0), (5, .int .i64 3)] rfl ?_)
  have h9 := h8.only [] rfl
  replace h9 : St w0 F0 [] _ _ := h9
  refine J.ret ?_
  have h10 := h9.addNil 5 (.int .u8)
  obtain rfl := Option.some.inj H
  exact ⟨_, _, _, (Zb rfl), ⟨_, _, rfl, rfl⟩, h10.only [0] rfl⟩
 replace H := Zg c2 H
 refine J.skip (J.seq (J.region ?_))
 refine RJ.run Za 1 rfl (RJ.fin [(2, _), (3, _), (7, .func (.func 18) #[] #[])] rfl ?_)
 refine J.seq (J.seq (J.region ?_))
 refine RJ.run Za 1 rfl (RJ.q rfl rfl (Zc Za 0 h8.wht rfl rfl rfl rfl rfl) (RJ.run Za 1 rfl (RJ.fin [(2, _), (3, _), (7, _), (21, .bool (decide (0 < a1.1)))] rfl (J.cond rfl (fun c3 => ?_) (fun c3 => ?_)))))
 ·replace H := Zi c3 H
  refine J.region (RJ.run Za 1 rfl (RJ.fin [(2, _), (3, _), (7, .func (.func 19) #[] #[])] rfl ?_))
  refine J.seq (J.region ?_)
  refine RJ.run Za 1 rfl (RJ.q rfl rfl (Zc Za 1 h8.wht rfl rfl rfl rfl rfl) (RJ.q rfl rfl (Zc Za 0 h8.wht rfl rfl rfl rfl rfl) ?_))
  obtain ⟨r4, q4, H⟩ := Zj H
  refine RJ.op rfl rfl (Zd [] (Q15.spec q4) rfl rfl rfl h8 rfl (Zr (Gives.self 2 rfl) (Zr (Gives.self 3 rfl) (Zr (Gives.self 4 rfl) (Zr (Gives.self 5 rfl) Zm))))) ?_
  rintro _ w6 ⟨_, ⟨A5, c_5, rfl, rfl⟩, h11⟩
  replace h11 : St w0 F0 [Zf 5 (.int .u8) r4 (.slice A5 r4.length c_5), _, _] _ _ := h11
  refine RJ.run Za 1 rfl (RJ.fin [(2, _), (8, .slice A5 r4.length c_5)] rfl (J.seq (J.region ?_)))
  refine RJ.run Za 2 rfl (RJ.q rfl rfl (Zc Za 2 h11.wht rfl rfl rfl rfl rfl) (RJ.run Za 3 rfl ?_))
  obtain ⟨⟨p1, p2⟩, H⟩ := Zo H
  refine RJ.op rfl rfl (X5 Za (ty := (.int .u8)) rfl 0 0 rfl h11 rfl rfl rfl rfl rfl rfl rfl rfl (by decide) (by decide) p1 p2) ?_
  rintro _ w7 ⟨A6, c_6, rfl, h12⟩
  replace h12 : St w0 F0 [Zf 5 (.int .u8) (r4 ++ List.replicate (w64 (a0.2.1 - (r4.length : Int))).toNat 0) (.slice A6 (r4 ++ List.replicate (w64 (a0.2.1 - (r4.length : Int))).toNat 0).length c_6), _, _] _ _ := h12
  refine RJ.run Za 2 rfl (RJ.fin [(4, .slice A6 (r4 ++ List.replicate (w64 (a0.2.1 - (r4.length : Int))).toNat 0).length c_6), (5, .int .i64 0)] rfl ?_)
  have h13 := h12.only [0] rfl
  replace h13 : St w0 F0 [_] _ _ := h13
  refine J.ret ?_
  obtain rfl := Option.some.inj H
  exact ⟨_, _, _, (Zb rfl), ⟨_, _, rfl, rfl⟩, h13.only [0] rfl⟩
 replace H := Zg c3 H
 refine J.skip (J.seq (J.region ?_))
 refine RJ.run Za 1 rfl (RJ.q rfl rfl (Zc Za 1 h8.wht rfl rfl rfl rfl rfl) (RJ.q rfl rfl (Zc Za 0 h8.wht rfl rfl rfl rfl rfl) ?_))
 obtain ⟨r5, q5, H⟩ := Zj H
 refine RJ.op rfl rfl (Zd [] (Q16.spec q5) rfl rfl rfl h8 rfl (Zr (Gives.self 2 rfl) (Zr (Gives.self 3 rfl) (Zr (Gives.self 4 rfl) (Zr (Gives.self 5 rfl) Zm))))) ?_
 rintro _ w8 ⟨_, ⟨A7, c_7, rfl, rfl⟩, h14⟩
 replace h14 : St w0 F0 [Zf 5 (.int .u8) r5 (.slice A7 r5.length c_7), _, _] _ _ := h14
 refine RJ.run Za 1 rfl (RJ.fin [(2, _), (8, .slice A7 r5.length c_7)] rfl (J.seq (J.region ?_)))
 refine RJ.run Za 2 rfl (RJ.q rfl rfl (Zc Za 2 h14.wht rfl rfl rfl rfl rfl) (RJ.run Za 3 rfl ?_))
 obtain ⟨⟨p3, p4⟩, H⟩ := Zo H
 refine RJ.op rfl rfl (X5 Za (ty := (.int .u8)) rfl 0 0 rfl h14 rfl rfl rfl rfl rfl rfl rfl rfl (by decide) (by decide) p3 p4) ?_
 rintro _ w9 ⟨A8, c_8, rfl, h15⟩
 replace h15 : St w0 F0 [Zf 5 (.int .u8) (r5 ++ List.replicate (w64 (a0.2.1 - (r5.length : Int))).toNat 0) (.slice A8 (r5 ++ List.replicate (w64 (a0.2.1 - (r5.length : Int))).toNat 0).length c_8), _, _] _ _ := h15
 refine RJ.run Za 2 rfl (RJ.fin [(4, .slice A8 (r5 ++ List.replicate (w64 (a0.2.1 - (r5.length : Int))).toNat 0).length c_8), (5, .int .i64 0)] rfl ?_)
 have h16 := h15.only [0] rfl
 replace h16 : St w0 F0 [_] _ _ := h16
 refine J.ret ?_
 obtain rfl := Option.some.inj H
 exact ⟨_, _, _, (Zb rfl), ⟨_, _, rfl, rfl⟩, h16.only [0] rfl⟩

def Q101.f (a0 : List (Int)) : Option ((List (Int) × Int)) := (Q35.f a0).bind fun r1 => (some (r1, 0))
theorem Q101.spec {a0 : List (Int)} {A1 : Option Addr} {c_1 : Nat} {r : (List (Int) × Int)} (H : Q101.f a0 = some r) :
  SpecA Tryz.prog 22 [.slice A1 a0.length c_1] [] [rdC 5 (.int .u8) a0 (.slice A1 a0.length c_1)] (fun v l lr => ∃ (b_0 : Nat) (A_1 : Option Addr) (c_1 : Nat), v = .pointer (some ⟨b_0, 0, none⟩) ∧ l = [Zh b_0 89 [.slice A_1 r.1.length c_1, .int .i64 r.2]] ∧ lr = [rdC 5 (.int .u8) r.1 (.slice A_1 r.1.length c_1)]) := by
 refine SpecA.enter Tryz.func22 rfl (by kernel_rfl) (by kernel_rfl) fun w0 F0 h0 => ?_
 unfold Q101.f at H
 refine J.seq (J.region ?_)
 refine RJ.run Za 1 rfl (RJ.fin [(0, .slice A1 a0.length c_1)] rfl (J.seq (J.region ?_)))
 refine RJ.run Za 1 rfl ?_
 obtain ⟨r1, q1, H⟩ := Zj H
 refine RJ.op rfl rfl (Zd [] (Q35.spec q1) rfl rfl rfl h0 rfl (Zr (Gives.self 0 rfl) Zm)) ?_
 rintro _ w1 ⟨_, ⟨A2, c_2, rfl, rfl⟩, h1⟩
 replace h1 : St w0 F0 [Zf 5 (.int .u8) r1 (.slice A2 r1.length c_2)] _ _ := h1
 refine RJ.run Za 1 rfl (RJ.op rfl rfl (Z2 rfl rfl h1) ?_)
 rintro _ w2 ⟨b1, rfl, h2⟩
 replace h2 : St w0 F0 [Zh b1 89 [.slice A2 r1.length c_2, .int .i64 0], _] _ _ := h2
 refine RJ.run Za 1 rfl (RJ.fin [(2, .pointer (some ⟨b1, 0, none⟩))] rfl (J.ret ?_))
 have h3 := h2.freeze (k := 1) rfl Zl
 obtain rfl := Option.some.inj H
 exact ⟨_, _, _, (Zb rfl), ⟨_, _, _, rfl, rfl, rfl⟩, (h3.only [0] rfl).rds [0] rfl⟩

def Q110.f (a0 : List (Int) × Int) (a1 : Int) : Option ((List (Int) × Int)) := if (decide (a0.2 = 0)) = true then (some (([] : List (Int)), a1)) else (some (([] : List (Int)), a0.2))
theorem Q110.spec {a0 : List (Int) × Int} {a1 : Int} {A1 : Option Addr} {c_1 : Nat} {b1 : Nat} {r : (List (Int) × Int)} (H : Q110.f a0 a1 = some r) :
  SpecA Tryz.prog 59 [.pointer (some ⟨b1, 0, none⟩), .int .i64 a1] [Zh b1 89 [.slice A1 a0.1.length c_1, .int .i64 a0.2]] [rdC 5 (.int .u8) a0.1 (.slice A1 a0.1.length c_1)] (fun v l lr => ∃ (A_0 : Option Addr) (c_0 : Nat), v = .tuple #[] ∧ l = [Zh b1 89 [.slice A_0 r.1.length c_0, .int .i64 r.2]] ∧ lr = [rdC 5 (.int .u8) r.1 (.slice A_0 r.1.length c_0)]) := by
 refine SpecA.enter Tryz.func59 rfl (by kernel_rfl) (by kernel_rfl) fun w0 F0 h0 => ?_
 unfold Q110.f at H
 refine J.seq (J.seq (J.region ?_))
 refine RJ.run Za 3 rfl (RJ.q rfl rfl (Zc Za 0 h0.wht rfl rfl rfl rfl rfl) (RJ.run Za 1 rfl (RJ.fin [(0, .pointer (some ⟨b1, 0, none⟩)), (1, .int .i64 a1), (8, .bool (decide (a0.2 = 0)))] rfl (J.cond rfl (fun c1 => ?_) (fun c1 => ?_)))))
 ·replace H := Zi c1 H
  refine J.region (RJ.run Za 4 rfl (RJ.op rfl rfl (Zt Za 0 rfl h0 rfl rfl rfl rfl rfl rfl rfl) ?_))
  intro _ w1 h1
  replace h1 : St w0 F0 [Zh b1 89 [.slice A1 a0.1.length c_1, .int .i64 a1]] _ _ := h1
  refine RJ.fin [(0, _)] rfl (J.region (RJ.run Za 3 rfl (RJ.op rfl rfl (Zt Za 0 rfl h1 rfl rfl rfl rfl rfl rfl rfl) ?_)))
  intro _ w2 h2
  replace h2 : St w0 F0 [Zh b1 89 [.slice none ([] : List (Int)).length 0, .int .i64 a1]] _ _ := h2
  refine RJ.fin [] rfl ?_
  have h3 := h2.addNil 5 (.int .u8)
  have h4 := h3.freeze (k := 0) rfl Zl
  obtain rfl := Option.some.inj H
  exact ⟨_, _, _, (Zb rfl), ⟨_, _, rfl, rfl, rfl⟩, (h4.only [0] rfl).rds [0] rfl⟩
 replace H := Zg c1 H
 refine J.skip (J.region (RJ.run Za 3 rfl (RJ.op rfl rfl (Zt Za 0 rfl h0 rfl rfl rfl rfl rfl rfl rfl) ?_)))
 intro _ w3 h5
 replace h5 : St w0 F0 [Zh b1 89 [.slice none ([] : List (Int)).length 0, .int .i64 a0.2]] _ _ := h5
 refine RJ.fin [] rfl ?_
 have h6 := h5.addNil 5 (.int .u8)
 have h7 := h6.freeze (k := 0) rfl Zl
 obtain rfl := Option.some.inj H
 exact ⟨_, _, _, (Zb rfl), ⟨_, _, rfl, rfl, rfl⟩, (h7.only [0] rfl).rds [0] rfl⟩

def Q105.f (a0 : List (Int) × Int) (a1 : Int) : Option (List (Int) × (List (Int) × Int)) := if (!decide (a0.2 = 0)) = true then (some (([] : List (Int)), (a0.1, a0.2))) else (if (decide (a1 < 0)) = true then ((Q110.f (a0.1, a0.2) 2).bind fun r1 => (some (([] : List (Int)), (r1.1, r1.2)))) else (if (decide ((a0.1.length : Int) < a1)) = true then ((Q110.f (a0.1, a0.2) 5).bind fun r2 => (some (([] : List (Int)), (r2.1, r2.2)))) else (if 0 ≤ a1 ∧ a1 * 1 ≤ 281474976710656 then (if 0 ≤ a1 ∧ a1 ≤ (a0.1.length : Int) then (some ((Yc (List.replicate a1.toNat (0 : Int)) 0 ((List.replicate a1.toNat (0 : Int)).length) a0.1), ((a0.1.drop a1.toNat), a0.2))) else none) else none)))
theorem Q105.spec {a0 : List (Int) × Int} {a1 : Int} {A1 : Option Addr} {c_1 : Nat} {b1 : Nat} {r : List (Int) × (List (Int) × Int)} (H : Q105.f a0 a1 = some r) :
  SpecA Tryz.prog 56 [.pointer (some ⟨b1, 0, none⟩), .int .i64 a1] [Zh b1 89 [.slice A1 a0.1.length c_1, .int .i64 a0.2]] [rdC 5 (.int .u8) a0.1 (.slice A1 a0.1.length c_1)] (fun v l lr => ∃ (A_0 : Option Addr) (c_0 : Nat) (A_1 : Option Addr) (c_1 : Nat), v = .slice A_0 r.1.length c_0 ∧ l = [Zf 5 (.int .u8) r.1 (.slice A_0 r.1.length c_0), Zh b1 89 [.slice A_1 r.2.1.length c_1, .int .i64 r.2.2]] ∧ lr = [rdC 5 (.int .u8) r.2.1 (.slice A_1 r.2.1.length c_1)]) := by
 refine SpecA.enter Tryz.func56 rfl (by kernel_rfl) (by kernel_rfl) fun w0 F0 h0 => ?_
 unfold Q105.f at H
 refine J.seq (J.region ?_)
 refine RJ.run Za 1 rfl (RJ.fin [(0, .pointer (some ⟨b1, 0, none⟩)), (1, .int .i64 a1)] rfl (J.seq (J.block (J.seq (J.region ?_)))))
 refine RJ.run Za 6 rfl (RJ.q rfl rfl (Zc Za 0 h0.wht rfl rfl rfl rfl rfl) (RJ.run Za 3 rfl (RJ.fin [(0, _), (1, _), (6, .bool (!decide (a0.2 = 0)))] rfl (J.cond rfl (fun c1 => ?_) (fun c1 => ?_)))))
 ·replace H := Zi c1 H
  refine J.seq (J.region ?_)
  refine RJ.run Za 1 rfl (RJ.fin [(4, .slice none ([] : List (Int)).length 0)] rfl (J.ret ?_))
  have h1 := h0.addNil 5 (.int .u8)
  obtain rfl := Option.some.inj H
  exact ⟨_, _, _, (Zb rfl), ⟨_, _, _, _, rfl, rfl, rfl⟩, (h1.only [0, 0] rfl).rds [0] rfl⟩
 replace H := Zg c1 H
 refine J.seq (J.region ?_)
 refine RJ.run Za 3 rfl (RJ.fin [(0, _), (1, _), (16, .bool (decide (a1 < 0)))] rfl (J.cond rfl (fun c2 => ?_) (fun c2 => ?_)))
 ·replace H := Zi c2 H
  refine J.seq (J.region ?_)
  refine RJ.run Za 1 rfl ?_
  obtain ⟨r1, q1, H⟩ := Zj H
  refine RJ.op rfl rfl (Z9 [0] (Q110.spec q1) rfl rfl rfl h0 rfl (Zr (Gives.self 0 rfl) Zm)) ?_
  rintro _ w1 ⟨_, _, ⟨A2, c_2, rfl, rfl, rfl⟩, h2⟩
  replace h2 : St w0 F0 [Zh b1 89 [.slice A2 r1.1.length c_2, .int .i64 r1.2]] _ _ := h2
  refine RJ.fin [] rfl (J.seq (J.region ?_))
  refine RJ.run Za 1 rfl (RJ.fin [(4, .slice none ([] : List (Int)).length 0)] rfl (J.ret ?_))
  have h3 := h2.addNil 5 (.int .u8)
  obtain rfl := Option.some.inj H
  exact ⟨_, _, _, (Zb rfl), ⟨_, _, _, _, rfl, rfl, rfl⟩, (h3.only [0, 0] rfl).rds [0] rfl⟩
 replace H := Zg c2 H
 refine J.seq (J.region ?_)
 refine RJ.run Za 4 rfl (RJ.q rfl rfl (Zc Za 0 h0.wht rfl rfl rfl rfl rfl) (RJ.run Za 3 rfl (RJ.fin [(0, _), (1, _), (21, .bool (decide ((a0.1.length : Int) < a1)))] rfl (J.cond rfl (fun c3 => ?_) (fun c3 => ?_)))))
 ·replace H := Zi c3 H
  refine J.seq (J.region ?_)
  refine RJ.run Za 1 rfl ?_
  obtain ⟨r2, q2, H⟩ := Zj H
  refine RJ.op rfl rfl (Z9 [0] (Q110.spec q2) rfl rfl rfl h0 rfl (Zr (Gives.self 0 rfl) Zm)) ?_
  rintro _ w2 ⟨_, _, ⟨A3, c_3, rfl, rfl, rfl⟩, h4⟩
  replace h4 : St w0 F0 [Zh b1 89 [.slice A3 r2.1.length c_3, .int .i64 r2.2]] _ _ := h4
  refine RJ.fin [] rfl (J.seq (J.region ?_))
  refine RJ.run Za 1 rfl (RJ.fin [(4, .slice none ([] : List (Int)).length 0)] rfl (J.ret ?_))
  have h5 := h4.addNil 5 (.int .u8)
  obtain rfl := Option.some.inj H
  exact ⟨_, _, _, (Zb rfl), ⟨_, _, _, _, rfl, rfl, rfl⟩, (h5.only [0, 0] rfl).rds [0] rfl⟩
 replace H := Zg c3 H
 refine J.skip (J.seq (J.region ?_))
 refine RJ.run Za 1 rfl ?_
 obtain ⟨⟨p1, p2⟩, H⟩ := Zo H
 refine RJ.op rfl rfl (Zct Za (ty := (.int .u8)) rfl (0 : Int) rfl rfl rfl rfl rfl rfl rfl (by decide) h0 p1 p2) ?_
 rintro _ w3 ⟨b2, rfl, h6⟩
 replace h6 : St w0 F0 [Zf 5 (.int .u8) (List.replicate a1.toNat (0 : Int)) (.slice (some ⟨b2, 0, none⟩) (List.replicate a1.toNat (0 : Int)).length (a1.toNat)), Zh b1 89 [.slice A1 a0.1.length c_1, .int .i64 a0.2]] _ _ := h6
 refine RJ.run Za 1 rfl (RJ.fin [(0, _), (1, _), (5, .slice (some ⟨b2, 0, none⟩) (List.replicate a1.toNat (0 : Int)).length (a1.toNat))] rfl (J.seq (J.region ?_)))
 refine RJ.run Za 4 rfl (RJ.q rfl rfl (Zc Za 1 h6.wht rfl rfl rfl rfl rfl) ?_)
 have e1 : 0 + (List.replicate a1.toNat (0 : Int)).length ≤ (List.replicate a1.toNat (0 : Int)).length := by first | omega | (simp only [List.length_take, List.length_drop]; omega)
 refine RJ.op rfl rfl (Zbh Za (ty := (.int .u8)) (xs := (List.replicate a1.toNat (0 : Int))) (ys := a0.1) rfl 0 rfl h6 rfl (Gives.self 1 rfl) rfl rfl rfl rfl rfl rfl e1) ?_
 rintro _ w4 ⟨rfl, h7⟩
 replace h7 : St w0 F0 [Zf 5 (.int .u8) (Yc (List.replicate a1.toNat (0 : Int)) 0 ((List.replicate a1.toNat (0 : Int)).length) a0.1) (.slice (some ⟨b2, 0, none⟩) (Yc (List.replicate a1.toNat (0 : Int)) 0 ((List.replicate a1.toNat (0 : Int)).length) a0.1).length (a1.toNat)), _] _ _ := h7
 refine RJ.fin [(0, _), (1, _), (5, _)] rfl (J.envEq (env' := [(0, .pointer (some ⟨b1, 0, none⟩)), (1, .int .i64 a1), (5, .slice (some ⟨b2, 0, none⟩) (Yc (List.replicate a1.toNat (0 : Int)) 0 ((List.replicate a1.toNat (0 : Int)).length) a0.1).length (a1.toNat))]) (by simp only [Y1 e1]) (J.seq (J.region ?_)))
 refine RJ.run Za 4 rfl (RJ.q rfl rfl (Zc Za 1 h7.wht rfl rfl rfl rfl rfl) (RJ.run Za 1 rfl ?_))
 obtain ⟨⟨p3, p4⟩, H⟩ := Zo H
 have e2 := h7.cap (Gives.self 2 rfl)
 refine RJ.q rfl rfl (Ge (l := a1) (h := (a0.1.length : Int)) (sub := (a0.1.drop a1.toNat)) Za rfl rfl rfl rfl e2 ⟨_, rfl⟩ rfl p3 p4 (Int.le_refl _) (Xc _ _)) (RJ.run Za 2 rfl (RJ.op rfl rfl (Zt Za 1 rfl h7 rfl rfl rfl rfl rfl rfl rfl) ?_))
 intro _ w5 h8
 replace h8 : St w0 F0 [Zh b1 89 [.slice (Xp A1 c_1 a1.toNat 1) (a0.1.drop a1.toNat).length (c_1 - a1.toNat), .int .i64 a0.2], _] _ _ := h8
 refine RJ.fin [(5, _)] rfl (J.seq (J.region ?_))
 refine RJ.run Za 2 rfl (RJ.fin [(4, .slice (some ⟨b2, 0, none⟩) (Yc (List.replicate a1.toNat (0 : Int)) 0 ((List.replicate a1.toNat (0 : Int)).length) a0.1).length (a1.toNat))] rfl (J.ret ?_))
 have h9 := h8.read (k := 0) rfl (W0 (ty := (.int .u8)) (l := a1) (h := (a0.1.length : Int)) (sub := (a0.1.drop a1.toNat)) rfl p3 p4 (Int.le_refl _) (Xc _ _))
 obtain rfl := Option.some.inj H
 exact ⟨_, _, _, (Zb rfl), ⟨_, _, _, _, rfl, rfl, rfl⟩, (h9.only [1, 0] rfl).rds [0] rfl⟩

def Q104.l0 : Nat → (List (Int) × (List (Int) × Int)) → (Int) → (Int) → Option (Int × (List (Int) × Int))
 | 0, _, _, _ => none
 | k + 1, r2, x1, x2 => if (decide (x2 < (r2.1.length : Int))) = true then (if 0 ≤ x2 ∧ x2 < (r2.1.length : Int) then (Q104.l0 k r2 (IntKind.u64.wrap (((BitVec.ofInt IntKind.u64.bits (IntKind.u64.wrap (x1 * 2 ^ 8)) ||| (BitVec.ofInt IntKind.u64.bits (IntKind.u64.wrap ((gt r2.1 x2))))).toNat : Int))) (w64 (x2 + 1))) else none) else (some (x1, (r2.2.1, r2.2.2)))
def Q104.l1 : Nat → (List (Int) × (List (Int) × Int)) → (Int) → (Int) → Option (Int × (List (Int) × Int))
 | 0, _, _, _ => none
 | k + 1, r3, x3, x4 => if (decide (x4 < (r3.1.length : Int))) = true then (if 0 ≤ x4 ∧ x4 < (r3.1.length : Int) then (Q104.l1 k r3 (IntKind.u64.wrap (((BitVec.ofInt IntKind.u64.bits (IntKind.u64.wrap (x3 * 2 ^ 8)) ||| (BitVec.ofInt IntKind.u64.bits (IntKind.u64.wrap ((gt r3.1 x4))))).toNat : Int))) (w64 (x4 + 1))) else none) else (some (x3, (r3.2.1, r3.2.2)))
def Q104.f (k : Nat) (a0 : List (Int) × Int) (a1 : Int) : Option (Int × (List (Int) × Int)) := (Q111.f a1).bind fun r1 => (if (!r1) = true then ((Q105.f (a0.1, a0.2) (-1)).bind fun r2 => (Q104.l0 k r2 0 0)) else ((Q105.f (a0.1, a0.2) a1).bind fun r3 => (Q104.l1 k r3 0 0)))
theorem Q104.spec {k : Nat} {a0 : List (Int) × Int} {a1 : Int} {A1 : Option Addr} {c_1 : Nat} {b1 : Nat} {r : Int × (List (Int) × Int)} (H : Q104.f k a0 a1 = some r) :
  SpecA Tryz.prog 23 [.pointer (some ⟨b1, 0, none⟩), .int .i64 a1] [Zh b1 89 [.slice A1 a0.1.length c_1, .int .i64 a0.2]] [rdC 5 (.int .u8) a0.1 (.slice A1 a0.1.length c_1)] (fun v l lr => ∃ (A_0 : Option Addr) (c_0 : Nat), v = .int .u64 r.1 ∧ l = [Zh b1 89 [.slice A_0 r.2.1.length c_0, .int .i64 r.2.2]] ∧ lr = [rdC 5 (.int .u8) r.2.1 (.slice A_0 r.2.1.length c_0)]) := by
 refine SpecA.enter Tryz.func23 rfl (by kernel_rfl) (by kernel_rfl) fun w0 F0 h0 => ?_
 unfold Q104.f at H
 refine J.seq (J.region ?_)
 refine RJ.run Za 1 rfl (RJ.fin [(0, .pointer (some ⟨b1, 0, none⟩)), (1, .int .i64 a1)] rfl (J.seq (J.seq (J.region ?_))))
 refine RJ.run Za 1 rfl ?_
 obtain ⟨r1, q1, H⟩ := Zj H
 refine RJ.op rfl rfl (Zd [] (Q111.spec q1) rfl rfl rfl h0 rfl Zm) ?_
 rintro _ w1 ⟨_, ⟨rfl, rfl⟩, h1⟩
 replace h1 : St w0 F0 [Zh b1 89 [.slice A1 a0.1.length c_1, .int .i64 a0.2]] _ _ := h1
 refine RJ.run Za 1 rfl (RJ.fin [(0, _), (1, _), (10, .bool (!r1))] rfl (J.cond rfl (fun c1 => ?_) (fun c1 => ?_)))
 ·replace H := Zi c1 H
  refine J.region (RJ.run Za 1 rfl (RJ.fin [(0, _), (1, .int .i64 (-1))] rfl (J.seq (J.region ?_))))
  refine RJ.run Za 1 rfl (RJ.fin [(0, _), (1, _), (5, .int .u64 0)] rfl (J.seq (J.seq (J.region ?_))))
  refine RJ.run Za 2 rfl ?_
  obtain ⟨r2, q2, H⟩ := Zj H
  refine RJ.op rfl rfl (Z9 [0] (Q105.spec q2) rfl rfl rfl h1 rfl (Zr (Gives.self 0 rfl) Zm)) ?_
  rintro _ w2 ⟨_, _, ⟨A2, c_2, A3, c_3, rfl, rfl, rfl⟩, h2⟩
  replace h2 : St w0 F0 [Zf 5 (.int .u8) r2.1 (.slice A2 r2.1.length c_2), Zh b1 89 [.slice A3 r2.2.1.length c_3, .int .i64 r2.2.2]] _ _ := h2
  refine RJ.run Za 2 rfl (RJ.fin [(5, _), (13, .slice A2 r2.1.length c_2), (14, .int .i64 (r2.1.length : Int)), (15, .int .i64 0)] rfl (J.block ?_))
  have h5 := ((h2.only [1, 0] rfl).rds [0] rfl)
  refine J.loop (fun kk env w => ∃ (x1 : Int) (x2 : Int), env = [(5, .int .u64 x1), (13, .slice A2 r2.1.length c_2), (14, .int .i64 (r2.1.length : Int)), (15, .int .i64 x2)] ∧ St w0 F0 [Zh b1 89 [.slice A3 r2.2.1.length c_3, .int .i64 r2.2.2], Zf 5 (.int .u8) r2.1 (.slice A2 r2.1.length c_2)] [rdC 5 (.int .u8) r2.2.1 (.slice A3 r2.2.1.length c_3)] w ∧ Q104.l0 kk r2 x1 x2 = some r) (k := k) ⟨0, 0, rfl, h5, H⟩ ?_
  rintro k1 env w3 ⟨x1, x2, rfl, h3, H⟩
  cases k1 with
  | zero => exact nomatch (show none = some r from H)
  | succ k1 =>
   rw [Q104.l0] at H
   refine J.seq (J.region ?_)
   refine RJ.run Za 1 rfl (RJ.fin [(5, _), (13, _), (14, _), (15, _), (16, .bool (decide (x2 < (r2.1.length : Int))))] rfl (J.seq (J.cond rfl (fun c2 => ?_) (fun c2 => ?_))))
   ·replace H := Zi c2 H
    refine J.skip (J.seq (J.block (J.seq (J.region ?_))))
    obtain ⟨⟨p1, p2⟩, H⟩ := Zo H
    have e1 := Zy h3.wh (Gives.of 1 rfl Zl) p1 p2
    refine RJ.q rfl rfl (Zk Za rfl rfl rfl rfl rfl e1 p1 p2) (RJ.q rfl rfl (Ze (f := 0) Za rfl h3.wht (Gives.of 1 rfl Zl) p1 p2 rfl rfl rfl rfl rfl) (RJ.run Za 1 rfl (RJ.fin [(5, _), (7, .int .u8 (gt r2.1 x2)), (13, _), (14, _), (15, _)] rfl (J.region (RJ.run Za 6 rfl (RJ.fin [(5, .int .u64 (IntKind.u64.wrap (((BitVec.ofInt IntKind.u64.bits (IntKind.u64.wrap (x1 * 2 ^ 8)) ||| (BitVec.ofInt IntKind.u64.bits (IntKind.u64.wrap ((gt r2.1 x2))))).toNat : Int)))), (13, _), (14, _), (15, _)] rfl (J.region (RJ.run Za 2 rfl (RJ.fin [(5, _), (13, _), (14, _), (15, .int .i64 (w64 (x2 + 1)))] rfl ?_)))))))))
    have h4 := ((h3.only [0, 0] rfl).rds [0] rfl)
    exact ⟨k1, by omega, (IntKind.u64.wrap (((BitVec.ofInt IntKind.u64.bits (IntKind.u64.wrap (x1 * 2 ^ 8)) ||| (BitVec.ofInt IntKind.u64.bits (IntKind.u64.wrap ((gt r2.1 x2))))).toNat : Int))), (w64 (x2 + 1)), rfl, h4, H⟩
   replace H := Zg c2 H
   refine J.exit (J.seq (J.region ?_))
   refine RJ.run Za 2 rfl (RJ.fin [(4, .int .u64 x1)] rfl (J.ret ?_))
   obtain rfl := Option.some.inj H
   exact ⟨_, _, _, (Zb rfl), ⟨_, _, rfl, rfl, rfl⟩, (h3.only [0] rfl).rds [0] rfl⟩
 replace H := Zg c1 H
 refine J.skip (J.seq (J.region ?_))
 refine RJ.run Za 1 rfl (RJ.fin [(0, _), (1, _), (5, .int .u64 0)] rfl (J.seq (J.seq (J.region ?_))))
 refine RJ.run Za 2 rfl ?_
 obtain ⟨r3, q3, H⟩ := Zj H
 refine RJ.op rfl rfl (Z9 [0] (Q105.spec q3) rfl rfl rfl h1 rfl (Zr (Gives.self 0 rfl) Zm)) ?_
 rintro _ w4 ⟨_, _, ⟨A4, c_4, A5, c_5, rfl, rfl, rfl⟩, h6⟩
 replace h6 : St w0 F0 [Zf 5 (.int .u8) r3.1 (.slice A4 r3.1.length c_4), Zh b1 89 [.slice A5 r3.2.1.length c_5, .int .i64 r3.2.2]] _ _ := h6
 refine RJ.run Za 2 rfl (RJ.fin [(5, _), (13, .slice A4 r3.1.length c_4), (14, .int .i64 (r3.1.length : Int)), (15, .int .i64 0)] rfl (J.block ?_))
 have h9 := ((h6.only [1, 0] rfl).rds [0] rfl)
 refine J.loop (fun kk env w => ∃ (x3 : Int) (x4 : Int), env = [(5, .int .u64 x3), (13, .slice A4 r3.1.length c_4), (14, .int .i64 (r3.1.length : Int)), (15, .int .i64 x4)] ∧ St w0 F0 [Zh b1 89 [.slice A5 r3.2.1.length c_5, .int .i64 r3.2.2], Zf 5 (.int .u8) r3.1 (.slice A4 r3.1.length c_4)] [rdC 5 (.int .u8) r3.2.1 (.slice A5 r3.2.1.length c_5)] w ∧ Q104.l1 kk r3 x3 x4 = some r) (k := k) ⟨0, 0, rfl, h9, H⟩ ?_
 rintro k2 env w5 ⟨x3, x4, rfl, h7, H⟩
 cases k2 with
 | zero => exact nomatch (show none = some r from H)
 | succ k2 =>
  rw [Q104.l1] at H
  refine J.seq (J.region ?_)
  refine RJ.run Za 1 rfl (RJ.fin [(5, _), (13, _), (14, _), (15, _), (16, .bool (decide (x4 < (r3.1.length : Int))))] rfl (J.seq (J.cond rfl (fun c3 => ?_) (fun c3 => ?_))))
  ·replace H := Zi c3 H
   refine J.skip (J.seq (J.block (J.seq (J.region ?_))))
   obtain ⟨⟨p3, p4⟩, H⟩ := Zo H
   have e2 := Zy h7.wh (Gives.of 1 rfl Zl) p3 p4
   refine RJ.q rfl rfl (Zk Za rfl rfl rfl rfl rfl e2 p3 p4) (RJ.q rfl rfl (Ze (f := 0) Za rfl h7.wht (Gives.of 1 rfl Zl) p3 p4 rfl rfl rfl rfl rfl) (RJ.run Za 1 rfl (RJ.fin [(5, _), (7, .int .u8 (gt r3.1 x4)), (13, _), (14, _), (15, _)] rfl (J.region (RJ.run Za 6 rfl (RJ.fin [(5, .int .u64 (IntKind.u64.wrap (((BitVec.ofInt IntKind.u64.bits (IntKind.u64.wrap (x3 * 2 ^ 8)) ||| (BitVec.ofInt IntKind.u64.bits (IntKind.u64.wrap ((gt r3.1 x4))))).toNat : Int)))), (13, _), (14, _), (15, _)] rfl (J.region (RJ.run Za 2 rfl (RJ.fin [(5, _), (13, _), (14, _), (15, .int .i64 (w64 (x4 + 1)))] rfl ?_)))))))))
   have h8 := ((h7.only [0, 0] rfl).rds [0] rfl)
   exact ⟨k2, by omega, (IntKind.u64.wrap (((BitVec.ofInt IntKind.u64.bits (IntKind.u64.wrap (x3 * 2 ^ 8)) ||| (BitVec.ofInt IntKind.u64.bits (IntKind.u64.wrap ((gt r3.1 x4))))).toNat : Int))), (w64 (x4 + 1)), rfl, h8, H⟩
  replace H := Zg c3 H
  refine J.exit (J.seq (J.region ?_))
  refine RJ.run Za 2 rfl (RJ.fin [(4, .int .u64 x3)] rfl (J.ret ?_))
  obtain rfl := Option.some.inj H
  exact ⟨_, _, _, (Zb rfl), ⟨_, _, rfl, rfl, rfl⟩, (h7.only [0] rfl).rds [0] rfl⟩

def Q109.f (a0 : Int) : Option (Bool) := some (!decide (a0 = 0))
theorem Q109.spec {a0 : Int}  {r : Bool} (H : Q109.f a0 = some r) :
  Spec Tryz.prog 58 [.int .u8 a0] [] [] (fun v l => v = .bool r ∧ l = []) := by
 refine Spec.enter Tryz.func58 rfl (by kernel_rfl) (by kernel_rfl) fun w0 F0 h0 => ?_
 unfold Q109.f at H
 refine J.seq (J.region ?_)
 refine RJ.run Za 1 rfl (RJ.fin [(0, .int .u8 a0)] rfl (J.seq (J.region ?_)))
 refine RJ.run Za 3 rfl (RJ.fin [(2, .bool (!decide (a0 = 0)))] rfl (J.ret ?_))
 obtain rfl := Option.some.inj H
 exact ⟨_, _, _, (Zb rfl), ⟨rfl, rfl⟩, h0.only [] rfl⟩

def Q47.l0 : Nat → (List (Int)) → (Int) → Option (Int)
 | 0, _, _ => none
 | k + 1, a0, x1 => if (decide (x1 < (a0.length : Int))) = true then (if 0 ≤ x1 ∧ x1 < (a0.length : Int) then ((Q109.f (gt a0 x1)).bind fun r1 => (if r1 = true then (some x1) else (Q47.l0 k a0 (w64 (x1 + 1))))) else none) else (some (-1))
def Q47.f (k : Nat) (a0 : List (Int)) : Option (Int) := Q47.l0 k a0 0
theorem Q47.spec {k : Nat} {a0 : List (Int)} {A1 : Option Addr} {c_1 : Nat} {r : Int} (H : Q47.f k a0 = some r) :
  Spec Tryz.prog 80 [.slice A1 a0.length c_1, .func (.func 58) #[] #[]] [] [rdC 5 (.int .u8) a0 (.slice A1 a0.length c_1)] (fun v l => v = .int .i64 r ∧ l = []) := by
 refine Spec.enter Tryz.func80 rfl (by kernel_rfl) (by kernel_rfl) fun w0 F0 h0 => ?_
 unfold Q47.f at H
 refine J.seq (J.region ?_)
 refine RJ.run Za 1 rfl (RJ.fin [(0, .slice A1 a0.length c_1), (1, .func (.func 58) #[] #[])] rfl ?_)
 refine J.seq (J.seq (J.region ?_))
 refine RJ.run Za 3 rfl (RJ.fin [(0, _), (1, _), (7, .int .i64 (a0.length : Int)), (8, .int .i64 0)] rfl (J.block ?_))
 have h4 := ((h0.only [] rfl).rds [0] rfl)
 refine J.loop (fun kk env w => ∃ (x1 : Int), env = [(0, .slice A1 a0.length c_1), (1, .func (.func 58) #[] #[]), (7, .int .i64 (a0.length : Int)), (8, .int .i64 x1)] ∧ St w0 F0 [] [rdC 5 (.int .u8) a0 (.slice A1 a0.length c_1)] w ∧ Q47.l0 kk a0 x1 = some r) (k := k) ⟨0, rfl, h4, H⟩ ?_
 rintro k1 env w1 ⟨x1, rfl, h1, H⟩
 cases k1 with
 | zero => exact nomatch (show none = some r from H)
 | succ k1 =>
  rw [Q47.l0] at H
  refine J.seq (J.region ?_)
  refine RJ.run Za 1 rfl (RJ.fin [(0, _), (1, _), (7, _), (8, _), (9, .bool (decide (x1 < (a0.length : Int))))] rfl (J.seq (J.cond rfl (fun c1 => ?_) (fun c1 => ?_))))
  ·replace H := Zi c1 H
   refine J.skip (J.seq (J.block (J.seq (J.region ?_))))
   refine RJ.run Za 2 rfl (RJ.fin [(0, _), (1, _), (5, .int .i64 x1), (7, _), (8, _)] rfl (J.seq (J.region ?_)))
   refine RJ.run Za 3 rfl ?_
   obtain ⟨⟨p1, p2⟩, H⟩ := Zo H
   have e1 := Zy h1.wh (Gives.self 0 rfl) p1 p2
   refine RJ.q rfl rfl (Zk Za rfl rfl rfl rfl rfl e1 p1 p2) (RJ.q rfl rfl (Ze (f := 0) Za rfl h1.wht (Gives.self 0 rfl) p1 p2 rfl rfl rfl rfl rfl) ?_)
   obtain ⟨r1, q1, H⟩ := Zj H
   refine RJ.op rfl rfl (Zd [] (Q109.spec q1) rfl rfl rfl h1 rfl Zm) ?_
   rintro _ w2 ⟨_, ⟨rfl, rfl⟩, h2⟩
   replace h2 : St w0 F0 [] _ _ := h2
   refine RJ.fin [(0, _), (1, _), (5, _), (7, _), (8, _), (16, .bool r1)] rfl (J.cond rfl (fun c2 => ?_) (fun c2 => ?_))
   ·replace H := Zi c2 H
    refine J.seq (J.region ?_)
    refine RJ.run Za 2 rfl (RJ.fin [(4, .int .i64 x1)] rfl (J.ret ?_))
    obtain rfl := Option.some.inj H
    exact ⟨_, _, _, (Zb rfl), ⟨rfl, rfl⟩, h2.only [] rfl⟩
   replace H := Zg c2 H
   refine J.skip (J.region (RJ.run Za 2 rfl (RJ.fin [(0, _), (1, _), (7, _), (8, .int .i64 (w64 (x1 + 1)))] rfl ?_)))
   have h3 := ((h2.only [] rfl).rds [0] rfl)
   exact ⟨k1, by omega, (w64 (x1 + 1)), rfl, h3, H⟩
  replace H := Zg c1 H
  refine J.exit (J.seq (J.region ?_))
  refine RJ.run Za 1 rfl (RJ.fin [(4, .int .i64 (-1))] rfl (J.ret ?_))
  obtain rfl := Option.some.inj H
  exact ⟨_, _, _, (Zb rfl), ⟨rfl, rfl⟩, h1.only [] rfl⟩

def Q41.f (k : Nat) (a0 : List (Int)) : Option (Bool) := (Q47.f k a0).bind fun r1 => (some (decide (0 ≤ r1)))
theorem Q41.spec {k : Nat} {a0 : List (Int)} {A1 : Option Addr} {c_1 : Nat} {r : Bool} (H : Q41.f k a0 = some r) :
  Spec Tryz.prog 57 [.slice A1 a0.length c_1, .func (.func 58) #[] #[]] [] [rdC 5 (.int .u8) a0 (.slice A1 a0.length c_1)] (fun v l => v = .bool r ∧ l = []) := by
 refine Spec.enter Tryz.func57 rfl (by kernel_rfl) (by kernel_rfl) fun w0 F0 h0 => ?_
 unfold Q41.f at H
 refine J.seq (J.region ?_)
 refine RJ.run Za 1 rfl (RJ.fin [(0, .slice A1 a0.length c_1), (1, .func (.func 58) #[] #[])] rfl ?_)
 refine J.seq (J.region ?_)
 refine RJ.run Za 2 rfl ?_
 obtain ⟨r1, q1, H⟩ := Zj H
 refine RJ.op rfl rfl (Zd [] (Q47.spec q1) rfl rfl rfl h0 rfl (Zr (Gives.self 0 rfl) Zm)) ?_
 rintro _ w1 ⟨_, ⟨rfl, rfl⟩, h1⟩
 replace h1 : St w0 F0 [] _ _ := h1
 refine RJ.run Za 2 rfl (RJ.fin [(4, .bool (decide (0 ≤ r1)))] rfl (J.ret ?_))
 obtain rfl := Option.some.inj H
 exact ⟨_, _, _, (Zb rfl), ⟨rfl, rfl⟩, h1.only [] rfl⟩

def Q108.f (k : Nat) (a0 : List (Int) × Int) (a1 : Int) : Option ((List (Int) × Int)) := (Q105.f (a0.1, a0.2) a1).bind fun r1 => ((Q41.f k r1.1).bind fun r2 => (if r2 = true then ((Q110.f (r1.2.1, r1.2.2) 3).bind fun r3 => (some (r3.1, r3.2))) else (some (r1.2.1, r1.2.2))))
theorem Q108.spec {k : Nat} {a0 : List (Int) × Int} {a1 : Int} {A1 : Option Addr} {c_1 : Nat} {b1 : Nat} {r : (List (Int) × Int)} (H : Q108.f k a0 a1 = some r) :
  SpecA Tryz.prog 24 [.pointer (some ⟨b1, 0, none⟩), .int .i64 a1] [Zh b1 89 [.slice A1 a0.1.length c_1, .int .i64 a0.2]] [rdC 5 (.int .u8) a0.1 (.slice A1 a0.1.length c_1)] (fun v l lr => ∃ (A_0 : Option Addr) (c_0 : Nat), v = .tuple #[] ∧ l = [Zh b1 89 [.slice A_0 r.1.length c_0, .int .i64 r.2]] ∧ lr = [rdC 5 (.int .u8) r.1 (.slice A_0 r.1.length c_0)]) := by
 refine SpecA.enter Tryz.func24 rfl (by kernel_rfl) (by kernel_rfl) fun w0 F0 h0 => ?_
 unfold Q108.f at H
 refine J.seq (J.region ?_)
 refine RJ.run Za 2 rfl ?_
 obtain ⟨r1, q1, H⟩ := Zj H
 refine RJ.op rfl rfl (Z9 [0] (Q105.spec q1) rfl rfl rfl h0 rfl (Zr (Gives.self 0 rfl) Zm)) ?_
 rintro _ w1 ⟨_, _, ⟨A2, c_2, A3, c_3, rfl, rfl, rfl⟩, h1⟩
 replace h1 : St w0 F0 [Zf 5 (.int .u8) r1.1 (.slice A2 r1.1.length c_2), Zh b1 89 [.slice A3 r1.2.1.length c_3, .int .i64 r1.2.2]] _ _ := h1
 obtain ⟨r2, q2, H⟩ := Zj H
 refine RJ.op rfl rfl (Zd [] (Q41.spec q2) rfl rfl rfl h1 rfl (Zr (Gives.of 0 rfl Zl) Zm)) ?_
 rintro _ w2 ⟨_, ⟨rfl, rfl⟩, h2⟩
 replace h2 : St w0 F0 [_, _] _ _ := h2
 refine RJ.fin [(0, .pointer (some ⟨b1, 0, none⟩)), (7, .bool r2)] rfl (J.cond rfl (fun c1 => ?_) (fun c1 => ?_))
 ·replace H := Zi c1 H
  refine J.region (RJ.run Za 1 rfl ?_)
  obtain ⟨r3, q3, H⟩ := Zj H
  refine RJ.op rfl rfl (Z9 [1] (Q110.spec q3) rfl rfl rfl h2 rfl (Zr (Gives.self 0 rfl) Zm)) ?_
  rintro _ w3 ⟨_, _, ⟨A4, c_4, rfl, rfl, rfl⟩, h3⟩
  replace h3 : St w0 F0 [Zh b1 89 [.slice A4 r3.1.length c_4, .int .i64 r3.2], _] _ _ := h3
  refine RJ.fin [] rfl ?_
  obtain rfl := Option.some.inj H
  exact ⟨_, _, _, (Zb rfl), ⟨_, _, rfl, rfl, rfl⟩, (h3.only [0] rfl).rds [0] rfl⟩
 replace H := Zg c1 H
 refine J.skip ?_
 obtain rfl := Option.some.inj H
 exact ⟨_, _, _, (Zb rfl), ⟨_, _, rfl, rfl, rfl⟩, (h2.only [1] rfl).rds [0] rfl⟩

def Q107.f (a0 : Int) : Option (Bool) := some (!decide (a0 = 0))
theorem Q107.spec {a0 : Int}  {r : Bool} (H : Q107.f a0 = some r) :
  Spec Tryz.prog 81 [.int .u8 a0] [] [] (fun v l => v = .bool r ∧ l = []) := by
 refine Spec.enter Tryz.func81 rfl (by kernel_rfl) (by kernel_rfl) fun w0 F0 h0 => ?_
 unfold Q107.f at H
 refine J.seq (J.region ?_)
 refine RJ.run Za 1 rfl (RJ.fin [(0, .int .u8 a0)] rfl (J.seq (J.region ?_)))
 refine RJ.run Za 3 rfl (RJ.fin [(2, .bool (!decide (a0 = 0)))] rfl (J.ret ?_))
 obtain rfl := Option.some.inj H
 exact ⟨_, _, _, (Zb rfl), ⟨rfl, rfl⟩, h0.only [] rfl⟩

def Q46.l0 : Nat → (List (Int)) → (Int) → Option (Int)
 | 0, _, _ => none
 | k + 1, a0, x1 => if (decide (x1 < (a0.length : Int))) = true then (if 0 ≤ x1 ∧ x1 < (a0.length : Int) then ((Q107.f (gt a0 x1)).bind fun r1 => (if r1 = true then (some x1) else (Q46.l0 k a0 (w64 (x1 + 1))))) else none) else (some (-1))
def Q46.f (k : Nat) (a0 : List (Int)) : Option (Int) := Q46.l0 k a0 0
theorem Q46.spec {k : Nat} {a0 : List (Int)} {A1 : Option Addr} {c_1 : Nat} {r : Int} (H : Q46.f k a0 = some r) :
  Spec Tryz.prog 80 [.slice A1 a0.length c_1, .func (.func 81) #[] #[]] [] [rdC 5 (.int .u8) a0 (.slice A1 a0.length c_1)] (fun v l => v = .int .i64 r ∧ l = []) := by
 refine Spec.enter Tryz.func80 rfl (by kernel_rfl) (by kernel_rfl) fun w0 F0 h0 => ?_
 unfold Q46.f at H
 refine J.seq (J.region ?_)
 refine RJ.run Za 1 rfl (RJ.fin [(0, .slice A1 a0.length c_1), (1, .func (.func 81) #[] #[])] rfl ?_)
 refine J.seq (J.seq (J.region ?_))
 refine RJ.run Za 3 rfl (RJ.fin [(0, _), (1, _), (7, .int .i64 (a0.length : Int)), (8, .int .i64 0)] rfl (J.block ?_))
 have h4 := ((h0.only [] rfl).rds [0] rfl)
 refine J.loop (fun kk env w => ∃ (x1 : Int), env = [(0, .slice A1 a0.length c_1), (1, .func (.func 81) #[] #[]), (7, .int .i64 (a0.length : Int)), (8, .int .i64 x1)] ∧ St w0 F0 [] [rdC 5 (.int .u8) a0 (.slice A1 a0.length c_1)] w ∧ Q46.l0 kk a0 x1 = some r) (k := k) ⟨0, rfl, h4, H⟩ ?_
 rintro k1 env w1 ⟨x1, rfl, h1, H⟩
 cases k1 with
 | zero => exact nomatch (show none = some r from H)
 | succ k1 =>
  rw [Q46.l0] at H
  refine J.seq (J.region ?_)
  refine RJ.run Za 1 rfl (RJ.fin [(0, _), (1, _), (7, _), (8, _), (9, .bool (decide (x1 < (a0.length : Int))))] rfl (J.seq (J.cond rfl (fun c1 => ?_) (fun c1 => ?_))))
  ·replace H := Zi c1 H
   refine J.skip (J.seq (J.block (J.seq (J.region ?_))))
   refine RJ.run Za 2 rfl (RJ.fin [(0, _), (1, _), (5, .int .i64 x1), (7, _), (8, _)] rfl (J.seq (J.region ?_)))
   refine RJ.run Za 3 rfl ?_
   obtain ⟨⟨p1, p2⟩, H⟩ := Zo H
   have e1 := Zy h1.wh (Gives.self 0 rfl) p1 p2
   refine RJ.q rfl rfl (Zk Za rfl rfl rfl rfl rfl e1 p1 p2) (RJ.q rfl rfl (Ze (f := 0) Za rfl h1.wht (Gives.self 0 rfl) p1 p2 rfl rfl rfl rfl rfl) ?_)
   obtain ⟨r1, q1, H⟩ := Zj H
   refine RJ.op rfl rfl (Zd [] (Q107.spec q1) rfl rfl rfl h1 rfl Zm) ?_
   rintro _ w2 ⟨_, ⟨rfl, rfl⟩, h2⟩
   replace h2 : St w0 F0 [] _ _ := h2
   refine RJ.fin [(0, _), (1, _), (5, _), (7, _), (8, _), (16, .bool r1)] rfl (J.cond rfl (fun c2 => ?_) (fun c2 => ?_))
   ·replace H := Zi c2 H
    refine J.seq (J.region ?_)
    refine RJ.run Za 2 rfl (RJ.fin [(4, .int .i64 x1)] rfl (J.ret ?_))
    obtain rfl := Option.some.inj H
    exact ⟨_, _, _, (Zb rfl), ⟨rfl, rfl⟩, h2.only [] rfl⟩
   replace H := Zg c2 H
   refine J.skip (J.region (RJ.run Za 2 rfl (RJ.fin [(0, _), (1, _), (7, _), (8, .int .i64 (w64 (x1 + 1)))] rfl ?_)))
   have h3 := ((h2.only [] rfl).rds [0] rfl)
   exact ⟨k1, by omega, (w64 (x1 + 1)), rfl, h3, H⟩
  replace H := Zg c1 H
  refine J.exit (J.seq (J.region ?_))
  refine RJ.run Za 1 rfl (RJ.fin [(4, .int .i64 (-1))] rfl (J.ret ?_))
  obtain rfl := Option.some.inj H
  exact ⟨_, _, _, (Zb rfl), ⟨rfl, rfl⟩, h1.only [] rfl⟩

def Q40.f (k : Nat) (a0 : List (Int)) : Option (Bool) := (Q46.f k a0).bind fun r1 => (some (decide (0 ≤ r1)))
theorem Q40.spec {k : Nat} {a0 : List (Int)} {A1 : Option Addr} {c_1 : Nat} {r : Bool} (H : Q40.f k a0 = some r) :
  Spec Tryz.prog 57 [.slice A1 a0.length c_1, .func (.func 81) #[] #[]] [] [rdC 5 (.int .u8) a0 (.slice A1 a0.length c_1)] (fun v l => v = .bool r ∧ l = []) := by
 refine Spec.enter Tryz.func57 rfl (by kernel_rfl) (by kernel_rfl) fun w0 F0 h0 => ?_
 unfold Q40.f at H
 refine J.seq (J.region ?_)
 refine RJ.run Za 1 rfl (RJ.fin [(0, .slice A1 a0.length c_1), (1, .func (.func 81) #[] #[])] rfl ?_)
 refine J.seq (J.region ?_)
 refine RJ.run Za 2 rfl ?_
 obtain ⟨r1, q1, H⟩ := Zj H
 refine RJ.op rfl rfl (Zd [] (Q46.spec q1) rfl rfl rfl h0 rfl (Zr (Gives.self 0 rfl) Zm)) ?_
 rintro _ w1 ⟨_, ⟨rfl, rfl⟩, h1⟩
 replace h1 : St w0 F0 [] _ _ := h1
 refine RJ.run Za 2 rfl (RJ.fin [(4, .bool (decide (0 ≤ r1)))] rfl (J.ret ?_))
 obtain rfl := Option.some.inj H
 exact ⟨_, _, _, (Zb rfl), ⟨rfl, rfl⟩, h1.only [] rfl⟩

def Q106.f (k : Nat) (a0 : List (Int) × Int) (a1 : Int) (a2 : Int) : Option (List UInt8 × (List (Int) × Int)) := if (decide (a1 < 0)) = true then ((Q110.f (a0.1, a0.2) 2).bind fun r1 => (some (([] : List UInt8), (r1.1, r1.2)))) else (if (decide (a2 < a1)) = true then ((Q110.f (a0.1, a0.2) 2).bind fun r2 => (some (([] : List UInt8), (r2.1, r2.2)))) else ((Q105.f (a0.1, a0.2) a2).bind fun r3 => (if (decide ((r3.1.length : Int) < a2)) = true then (some (([] : List UInt8), (r3.2.1, r3.2.2))) else (if 0 ≤ a1 ∧ a1 ≤ (r3.1.length : Int) then ((Q40.f k (r3.1.drop a1.toNat)).bind fun r4 => (if r4 = true then ((Q110.f (r3.2.1, r3.2.2) 3).bind fun r5 => (some (([] : List UInt8), (r5.1, r5.2)))) else (if (0 : Int) ≤ a1 ∧ a1 ≤ (r3.1.length : Int) then (some ((toS (r3.1.take a1.toNat)), (r3.2.1, r3.2.2))) else none))) else none))))
theorem Q106.spec {k : Nat} {a0 : List (Int) × Int} {a1 : Int} {a2 : Int} {A1 : Option Addr} {c_1 : Nat} {b1 : Nat} {r : List UInt8 × (List (Int) × Int)} (H : Q106.f k a0 a1 a2 = some r) :
  SpecA Tryz.prog 61 [.pointer (some ⟨b1, 0, none⟩), .int .i64 a1, .int .i64 a2] [Zh b1 89 [.slice A1 a0.1.length c_1, .int .i64 a0.2]] [rdC 5 (.int .u8) a0.1 (.slice A1 a0.1.length c_1)] (fun v l lr => ∃ (A_0 : Option Addr) (c_0 : Nat), v = .string ⟨⟨r.1⟩⟩ ∧ l = [Zh b1 89 [.slice A_0 r.2.1.length c_0, .int .i64 r.2.2]] ∧ lr = [rdC 5 (.int .u8) r.2.1 (.slice A_0 r.2.1.length c_0)]) := by
 refine SpecA.enter Tryz.func61 rfl (by kernel_rfl) (by kernel_rfl) fun w0 F0 h0 => ?_
 unfold Q106.f at H
 refine J.seq (J.region ?_)
 refine RJ.run Za 1 rfl (RJ.fin [(0, .pointer (some ⟨b1, 0, none⟩)), (1, .int .i64 a1), (2, .int .i64 a2)] rfl (J.seq (J.seq (J.region ?_))))
 refine RJ.run Za 2 rfl (RJ.fin [(0, _), (1, _), (2, _), (9, .bool false)] rfl (J.condF rfl (J.skip (J.seq (J.seq (J.region ?_))))))
 refine RJ.run Za 3 rfl ?_
 rcases Bool.eq_false_or_eq_true (decide (a1 < 0)) with c1 | c1
 ·replace H := Zi c1 H
  refine RJ.know (t := 12) rfl (congrArg Value.bool c1) (RJ.run Za 4 rfl (RJ.fin [(0, _), (1, _), (2, _), (16, .bool true)] rfl (J.condT rfl (J.seq (J.region ?_)))))
  refine RJ.run Za 1 rfl ?_
  obtain ⟨r1, q1, H⟩ := Zj H
  refine RJ.op rfl rfl (Z9 [0] (Q110.spec q1) rfl rfl rfl h0 rfl (Zr (Gives.self 0 rfl) Zm)) ?_
  rintro _ w1 ⟨_, _, ⟨A2, c_2, rfl, rfl, rfl⟩, h1⟩
  replace h1 : St w0 F0 [Zh b1 89 [.slice A2 r1.1.length c_2, .int .i64 r1.2]] _ _ := h1
  refine RJ.fin [] rfl (J.seq (J.region ?_))
  refine RJ.run Za 1 rfl (RJ.fin [(6, .string ⟨⟨([] : List UInt8)⟩⟩)] rfl (J.ret ?_))
  obtain rfl := Option.some.inj H
  exact ⟨_, _, _, (Zb rfl), ⟨_, _, rfl, rfl, rfl⟩, (h1.only [0] rfl).rds [0] rfl⟩
 replace H := Zg c1 H
 refine RJ.know (t := 12) rfl (congrArg Value.bool c1) (RJ.run Za 4 rfl (RJ.fin [(0, _), (1, _), (2, _), (16, .bool (decide (a2 < a1)))] rfl (J.cond rfl (fun c2 => ?_) (fun c2 => ?_))))
 ·replace H := Zi c2 H
  refine J.seq (J.region ?_)
  refine RJ.run Za 1 rfl ?_
  obtain ⟨r2, q2, H⟩ := Zj H
  refine RJ.op rfl rfl (Z9 [0] (Q110.spec q2) rfl rfl rfl h0 rfl (Zr (Gives.self 0 rfl) Zm)) ?_
  rintro _ w2 ⟨_, _, ⟨A3, c_3, rfl, rfl, rfl⟩, h2⟩
  replace h2 : St w0 F0 [Zh b1 89 [.slice A3 r2.1.length c_3, .int .i64 r2.2]] _ _ := h2
  refine RJ.fin [] rfl (J.seq (J.region ?_))
  refine RJ.run Za 1 rfl (RJ.fin [(6, .string ⟨⟨([] : List UInt8)⟩⟩)] rfl (J.ret ?_))
  obtain rfl := Option.some.inj H
  exact ⟨_, _, _, (Zb rfl), ⟨_, _, rfl, rfl, rfl⟩, (h2.only [0] rfl).rds [0] rfl⟩
 replace H := Zg c2 H
 refine J.skip (J.seq (J.region ?_))
 refine RJ.run Za 2 rfl ?_
 obtain ⟨r3, q3, H⟩ := Zj H
 refine RJ.op rfl rfl (Z9 [0] (Q105.spec q3) rfl rfl rfl h0 rfl (Zr (Gives.self 0 rfl) Zm)) ?_
 rintro _ w3 ⟨_, _, ⟨A4, c_4, A5, c_5, rfl, rfl, rfl⟩, h3⟩
 replace h3 : St w0 F0 [Zf 5 (.int .u8) r3.1 (.slice A4 r3.1.length c_4), Zh b1 89 [.slice A5 r3.2.1.length c_5, .int .i64 r3.2.2]] _ _ := h3
 refine RJ.run Za 1 rfl (RJ.fin [(0, _), (1, _), (2, _), (7, .slice A4 r3.1.length c_4)] rfl (J.seq (J.seq (J.region ?_))))
 refine RJ.run Za 4 rfl (RJ.fin [(0, _), (1, _), (7, _), (25, .bool (decide ((r3.1.length : Int) < a2)))] rfl (J.cond rfl (fun c3 => ?_) (fun c3 => ?_)))
 ·replace H := Zi c3 H
  refine J.seq (J.region ?_)
  refine RJ.run Za 1 rfl (RJ.fin [(6, .string ⟨⟨([] : List UInt8)⟩⟩)] rfl (J.ret ?_))
  obtain rfl := Option.some.inj H
  exact ⟨_, _, _, (Zb rfl), ⟨_, _, rfl, rfl, rfl⟩, (h3.only [1] rfl).rds [0] rfl⟩
 replace H := Zg c3 H
 refine J.skip (J.seq (J.seq (J.region ?_)))
 refine RJ.run Za 2 rfl ?_
 obtain ⟨⟨p1, p2⟩, H⟩ := Zo H
 have e1 := h3.cap (Gives.of 0 rfl Zl)
 refine RJ.q rfl rfl (Ge (l := a1) (h := (r3.1.length : Int)) (sub := (r3.1.drop a1.toNat)) Za rfl rfl rfl rfl e1 ⟨_, rfl⟩ rfl p1 p2 (Int.le_refl _) (Xc _ _)) ?_
 obtain ⟨r4, q4, H⟩ := Zj H
 refine RJ.op rfl rfl (Zd [] (Q40.spec q4) rfl rfl rfl h3 rfl (Zr ((Gives.of 0 rfl Zl).trans (W0 (ty := (.int .u8)) (l := a1) (h := (r3.1.length : Int)) (sub := (r3.1.drop a1.toNat)) rfl p1 p2 (Int.le_refl _) (Xc _ _))) Zm)) ?_
 rintro _ w4 ⟨_, ⟨rfl, rfl⟩, h4⟩
 replace h4 : St w0 F0 [_, _] _ _ := h4
 refine RJ.fin [(0, _), (1, _), (7, _), (29, .bool r4)] rfl (J.cond rfl (fun c4 => ?_) (fun c4 => ?_))
 ·replace H := Zi c4 H
  refine J.seq (J.region ?_)
  refine RJ.run Za 1 rfl ?_
  obtain ⟨r5, q5, H⟩ := Zj H
  refine RJ.op rfl rfl (Z9 [1] (Q110.spec q5) rfl rfl rfl h4 rfl (Zr (Gives.self 0 rfl) Zm)) ?_
  rintro _ w5 ⟨_, _, ⟨A6, c_6, rfl, rfl, rfl⟩, h5⟩
  replace h5 : St w0 F0 [Zh b1 89 [.slice A6 r5.1.length c_6, .int .i64 r5.2], _] _ _ := h5
  refine RJ.fin [] rfl (J.seq (J.region ?_))
  refine RJ.run Za 1 rfl (RJ.fin [(6, .string ⟨⟨([] : List UInt8)⟩⟩)] rfl (J.ret ?_))
  obtain rfl := Option.some.inj H
  exact ⟨_, _, _, (Zb rfl), ⟨_, _, rfl, rfl, rfl⟩, (h5.only [0] rfl).rds [0] rfl⟩
 replace H := Zg c4 H
 refine J.skip (J.seq (J.region ?_))
 refine RJ.run Za 2 rfl ?_
 obtain ⟨⟨p3, p4⟩, H⟩ := Zo H
 have e2 := h4.cap (Gives.of 0 rfl Zl)
 refine RJ.q rfl rfl (Zaw (h := a1) (sub := (r3.1.take a1.toNat)) Za rfl rfl rfl rfl e2 ⟨_, rfl⟩ p3 p4 rfl) (RJ.q rfl rfl (Xz Za h4.wht ((Gives.of 0 rfl Zl).trans (Gn (ty := (.int .u8)) (h := a1) (sub := (r3.1.take a1.toNat)) p3 p4 rfl)) rfl rfl rfl rfl rfl) (RJ.run Za 1 rfl (RJ.fin [(6, .string ⟨⟨(toS (r3.1.take a1.toNat))⟩⟩)] rfl (J.ret ?_))))
 obtain rfl := Option.some.inj H
 exact ⟨_, _, _, (Zb rfl), ⟨_, _, rfl, rfl, rfl⟩, (h4.only [1] rfl).rds [0] rfl⟩

def Q13.f (k : Nat) (a0 : Int × Int × Int × Int × Int × Int × Int × Int) (a1 : List (Int) × Int) : Option (List UInt8 × List UInt8 × (List (Int) × Int)) := (Q104.f k (a1.1, a1.2) 1).bind fun r1 => ((Q104.f k (r1.2.1, r1.2.2) 2).bind fun r2 => ((Q106.f k (r2.2.1, r2.2.2) (w64 (r1.1)) a0.2.2.2.2.2.2.1).bind fun r3 => ((Q106.f k (r3.2.1, r3.2.2) (w64 (r2.1)) a0.2.2.2.2.2.2.2).bind fun r4 => (some (r3.1, r4.1, (r4.2.1, r4.2.2))))))
theorem Q13.spec {k : Nat} {a0 : Int × Int × Int × Int × Int × Int × Int × Int} {a1 : List (Int) × Int} {A1 : Option Addr} {c_1 : Nat} {b1 : Nat} {r : List UInt8 × List UInt8 × (List (Int) × Int)} (H : Q13.f k a0 a1 = some r) :
  SpecA Tryz.prog 60 [.agg #[.int .i64 a0.1, .int .i64 a0.2.1, .int .i64 a0.2.2.1, .int .i64 a0.2.2.2.1, .int .i64 a0.2.2.2.2.1, .int .i64 a0.2.2.2.2.2.1, .int .i64 a0.2.2.2.2.2.2.1, .int .i64 a0.2.2.2.2.2.2.2], .pointer (some ⟨b1, 0, none⟩)] [Zh b1 89 [.slice A1 a1.1.length c_1, .int .i64 a1.2]] [rdC 5 (.int .u8) a1.1 (.slice A1 a1.1.length c_1)] (fun v l lr => ∃ (A_0 : Option Addr) (c_0 : Nat), v = .tuple #[.string ⟨⟨r.1⟩⟩, .string ⟨⟨r.2.1⟩⟩] ∧ l = [Zh b1 89 [.slice A_0 r.2.2.1.length c_0, .int .i64 r.2.2.2]] ∧ lr = [rdC 5 (.int .u8) r.2.2.1 (.slice A_0 r.2.2.1.length c_0)]) := by
 refine SpecA.enter Tryz.func60 rfl (by kernel_rfl) (by kernel_rfl) fun w0 F0 h0 => ?_
 unfold Q13.f at H
 refine J.seq (J.region ?_)
 refine RJ.op rfl rfl (Z2 rfl rfl h0) ?_
 rintro _ w1 ⟨b2, rfl, h1⟩
 replace h1 : St w0 F0 [Zh b2 23 [.int .i64 a0.1, .int .i64 a0.2.1, .int .i64 a0.2.2.1, .int .i64 a0.2.2.2.1, .int .i64 a0.2.2.2.2.1, .int .i64 a0.2.2.2.2.2.1, .int .i64 a0.2.2.2.2.2.2.1, .int .i64 a0.2.2.2.2.2.2.2], Zh b1 89 [.slice A1 a1.1.length c_1, .int .i64 a1.2]] _ _ := h1
 refine RJ.run Za 2 rfl (RJ.fin [(1, .pointer (some ⟨b1, 0, none⟩)), (2, .pointer (some ⟨b2, 0, none⟩))] rfl (J.seq (J.region ?_)))
 refine RJ.run Za 1 rfl ?_
 obtain ⟨r1, q1, H⟩ := Zj H
 refine RJ.op rfl rfl (Z9 [1] (Q104.spec q1) rfl rfl rfl h1 rfl (Zr (Gives.self 0 rfl) Zm)) ?_
 rintro _ w2 ⟨_, _, ⟨A2, c_2, rfl, rfl, rfl⟩, h2⟩
 replace h2 : St w0 F0 [Zh b1 89 [.slice A2 r1.2.1.length c_2, .int .i64 r1.2.2], _] _ _ := h2
 refine RJ.run Za 2 rfl ?_
 obtain ⟨r2, q2, H⟩ := Zj H
 refine RJ.op rfl rfl (Z9 [0] (Q104.spec q2) rfl rfl rfl h2 rfl (Zr (Gives.self 0 rfl) Zm)) ?_
 rintro _ w3 ⟨_, _, ⟨A3, c_3, rfl, rfl, rfl⟩, h3⟩
 replace h3 : St w0 F0 [Zh b1 89 [.slice A3 r2.2.1.length c_3, .int .i64 r2.2.2], _] _ _ := h3
 refine RJ.run Za 3 rfl (RJ.fin [(1, _), (2, _), (6, .int .i64 (w64 (r1.1))), (7, .int .i64 (w64 (r2.1)))] rfl (J.seq (J.heldSt mix (h3.only [1] rfl) ?_)))
 have h4 := h3.drew
 refine HJ.run Za rfl [0, 1, 2, 5, 6, 7] rfl (HJ.q (i := 3) rfl rfl rfl rfl rfl rfl (Zc Za 0 (fun w e => e) rfl rfl rfl rfl rfl) ?_)
 refine HJ.q (i := 8) rfl rfl rfl rfl rfl rfl (Zc Za 0 (fun w e => e) rfl rfl rfl rfl rfl) ?_
 obtain ⟨r3, q3, H⟩ := Zj H
 refine HJ.op (i := 4) rfl rfl rfl rfl rfl (Z9 [0] (Q106.spec q3) rfl rfl rfl h4 rfl (Zr (Gives.self 0 rfl) Zm)) ?_
 rintro _ w4 ⟨_, _, ⟨A4, c_4, rfl, rfl, rfl⟩, h5⟩
 replace h5 : St w0 F0 [Zh b1 89 [.slice A4 r3.2.1.length c_4, .int .i64 r3.2.2], _] _ _ := h5
 refine ⟨⟨[_], (h5.rds [1, 2, 3] rfl)⟩, ?_⟩
 obtain ⟨r4, q4, H⟩ := Zj H
 refine HJ.op (i := 9) rfl rfl rfl rfl rfl (Z9 [0] (Q106.spec q4) rfl rfl rfl h5 rfl (Zr (Gives.self 0 rfl) Zm)) ?_
 rintro _ w5 ⟨_, _, ⟨A5, c_5, rfl, rfl, rfl⟩, h6⟩
 replace h6 : St w0 F0 [Zh b1 89 [.slice A5 r4.2.1.length c_5, .int .i64 r4.2.2], _] _ _ := h6
 refine ⟨⟨[_], (h6.rds [2, 3, 4] rfl)⟩, ?_⟩
 refine HJ.run Za rfl [10, 11] rfl (HJ.fin [(4, .string ⟨⟨r3.1⟩⟩), (5, .string ⟨⟨r4.1⟩⟩)] rfl rfl (J.ret ?_))
 obtain rfl := Option.some.inj H
 exact ⟨_, _, _, (Zb rfl), ⟨_, _, rfl, rfl, rfl⟩, (h6.only [0] rfl).rds [0] rfl⟩

def Q12.l0 : Nat → (Int × Int × Int × Int × Int × Int × Int × Int) → (Int) → (List (Int)) → (Int) → (List (List UInt8 × List UInt8)) → (Int) → Option ((Int × List (Int) × List (List UInt8) × (List (List UInt8 × Bool × List UInt8)) × (List (List UInt8 × List UInt8))) × (List (Int) × Int))
 | 0, _, _, _, _, _, _ => none
 | k + 1, a0, a2, x1, x2, x3, x4 => if (decide (x4 < (if a0.2.2.2.2.2.1 < a2 then a0.2.2.2.2.2.1 else a2))) = true then ((Q13.f k (a0.1, a0.2.1, a0.2.2.1, a0.2.2.2.1, a0.2.2.2.2.1, a0.2.2.2.2.2.1, a0.2.2.2.2.2.2.1, a0.2.2.2.2.2.2.2) (x1, x2)).bind fun r1 => (if (x3.length + ([(r1.1, r1.2.1)] : List (List UInt8 × List UInt8)).length) * 32 ≤ 140737488355328 then (Q12.l0 k a0 a2 r1.2.2.1 r1.2.2.2 (x3 ++ ([(r1.1, r1.2.1)] : List (List UInt8 × List UInt8))) (w64 (x4 + 1))) else none)) else (some ((0, ([] : List (Int)), ([] : List (List UInt8)), ([] : List (List UInt8 × Bool × List UInt8)), x3), (x1, x2)))
def Q12.f (k : Nat) (a0 : Int × Int × Int × Int × Int × Int × Int × Int) (a1 : List (Int) × Int) (a2 : Int) : Option ((Int × List (Int) × List (List UInt8) × (List (List UInt8 × Bool × List UInt8)) × (List (List UInt8 × List UInt8))) × (List (Int) × Int)) := Q12.l0 k a0 a2 a1.1 a1.2 ([] : List (List UInt8 × List UInt8)) 0
theorem Q12.spec {k : Nat} {a0 : Int × Int × Int × Int × Int × Int × Int × Int} {a1 : List (Int) × Int} {a2 : Int} {A1 : Option Addr} {c_1 : Nat} {b1 : Nat} {r : (Int × List (Int) × List (List UInt8) × (List (List UInt8 × Bool × List UInt8)) × (List (List UInt8 × List UInt8))) × (List (Int) × Int)} (H : Q12.f k a0 a1 a2 = some r) :
  SpecA Tryz.prog 25 [.agg #[.int .i64 a0.1, .int .i64 a0.2.1, .int .i64 a0.2.2.1, .int .i64 a0.2.2.2.1, .int .i64 a0.2.2.2.2.1, .int .i64 a0.2.2.2.2.2.1, .int .i64 a0.2.2.2.2.2.2.1, .int .i64 a0.2.2.2.2.2.2.2], .pointer (some ⟨b1, 0, none⟩), .int .i64 a2] [Zh b1 89 [.slice A1 a1.1.length c_1, .int .i64 a1.2]] [rdC 5 (.int .u8) a1.1 (.slice A1 a1.1.length c_1)] (fun v l lr => ∃ (A_0 : Option Addr) (c_0 : Nat) (A_1 : Option Addr) (c_1 : Nat) (A_2 : Option Addr) (c_2 : Nat) (A_3 : Option Addr) (c_3 : Nat) (A_4 : Option Addr) (c_4 : Nat), v = .agg #[.int .i64 r.1.1, .slice A_0 r.1.2.1.length c_0, .slice A_1 r.1.2.2.1.length c_1, .slice A_2 r.1.2.2.2.1.length c_2, .slice A_3 r.1.2.2.2.2.length c_3] ∧ l = [Zf 70 (.int .u32) r.1.2.1 (.slice A_0 r.1.2.1.length c_0), Zf 9 .str r.1.2.2.1 (.slice A_1 r.1.2.2.1.length c_1), Zf 49 (.pair .str (.pair .bool .str)) r.1.2.2.2.1 (.slice A_2 r.1.2.2.2.1.length c_2), Zf 51 (.pair .str .str) r.1.2.2.2.2 (.slice A_3 r.1.2.2.2.2.length c_3), Zh b1 89 [.slice A_4 r.2.1.length c_4, .int .i64 r.2.2]] ∧ lr = [rdC 5 (.int .u8) r.2.1 (.slice A_4 r.2.1.length c_4)]) := by
 refine SpecA.enter Tryz.func25 rfl (by kernel_rfl) (by kernel_rfl) fun w0 F0 h0 => ?_
 unfold Q12.f at H
 refine J.seq (J.region ?_)
 refine RJ.op rfl rfl (Z2 rfl rfl h0) ?_
 rintro _ w1 ⟨b2, rfl, h1⟩
 replace h1 : St w0 F0 [Zh b2 23 [.int .i64 a0.1, .int .i64 a0.2.1, .int .i64 a0.2.2.1, .int .i64 a0.2.2.2.1, .int .i64 a0.2.2.2.2.1, .int .i64 a0.2.2.2.2.2.1, .int .i64 a0.2.2.2.2.2.2.1, .int .i64 a0.2.2.2.2.2.2.2], Zh b1 89 [.slice A1 a1.1.length c_1, .int .i64 a1.2]] _ _ := h1
 refine RJ.op rfl rfl (Ye Za rfl rfl h1) ?_
 rintro _ w2 ⟨b3, rfl, h2⟩
 replace h2 : St w0 F0 [Zh b3 29 [.int .i64 0, .slice none ([] : List (Int)).length 0, .slice none ([] : List (List UInt8)).length 0, .slice none ([] : List (List UInt8 × Bool × List UInt8)).length 0, .slice none ([] : List (List UInt8 × List UInt8)).length 0], _, _] _ _ := h2
 refine RJ.fin [(1, .pointer (some ⟨b1, 0, none⟩)), (2, .int .i64 a2), (3, .pointer (some ⟨b2, 0, none⟩)), (6, .pointer (some ⟨b3, 0, none⟩))] rfl (J.seq (J.region ?_))
 refine RJ.run Za 1 rfl (RJ.op rfl rfl (Ye Za rfl rfl h2) ?_)
 rintro _ w3 ⟨b4, rfl, h3⟩
 replace h3 : St w0 F0 [Zh b4 29 [.int .i64 0, .slice none ([] : List (Int)).length 0, .slice none ([] : List (List UInt8)).length 0, .slice none ([] : List (List UInt8 × Bool × List UInt8)).length 0, .slice none ([] : List (List UInt8 × List UInt8)).length 0], _, _, _] _ _ := h3
 refine RJ.op rfl rfl (Zt Za 0 rfl h3 rfl rfl rfl rfl rfl rfl rfl) ?_
 intro _ w4 h4
 replace h4 : St w0 F0 [Zh b4 29 [.int .i64 0, .slice none ([] : List (Int)).length 0, .slice none ([] : List (List UInt8)).length 0, .slice none ([] : List (List UInt8 × Bool × List UInt8)).length 0, .slice none ([] : List (List UInt8 × List UInt8)).length 0], _, _, _] _ _ := h4
 refine RJ.fin [(1, _), (2, _), (3, _), (6, _), (7, .pointer (some ⟨b4, 0, none⟩))] rfl (J.seq (J.seq (J.region ?_)))
 refine RJ.run Za 2 rfl (RJ.q rfl rfl (Zc Za 2 h4.wht rfl rfl rfl rfl rfl) (RJ.run Za 2 rfl (RJ.fin [(1, _), (3, _), (6, _), (7, _), (14, .int .i64 (if a0.2.2.2.2.2.1 < a2 then a0.2.2.2.2.2.1 else a2)), (15, .int .i64 0)] rfl (J.block ?_))))
 have h16 := h4.addNil 51 (.pair .str .str)
 have h17 := ((h16.only [4, 3, 2, 1, 0] rfl).rds [0] rfl)
 refine J.loop (fun kk env w => ∃ (x1 : List (Int)) (A2 : Option Addr) (c_2 : Nat) (x2 : Int) (x3 : List (List UInt8 × List UInt8)) (A3 : Option Addr) (c_3 : Nat) (x4 : Int), env = [(1, .pointer (some ⟨b1, 0, none⟩)), (3, .pointer (some ⟨b2, 0, none⟩)), (6, .pointer (some ⟨b3, 0, none⟩)), (7, .pointer (some ⟨b4, 0, none⟩)), (14, .int .i64 (if a0.2.2.2.2.2.1 < a2 then a0.2.2.2.2.2.1 else a2)), (15, .int .i64 x4)] ∧ St w0 F0 [Zh b1 89 [.slice A2 x1.length c_2, .int .i64 x2], Zh b2 23 [.int .i64 a0.1, .int .i64 a0.2.1, .int .i64 a0.2.2.1, .int .i64 a0.2.2.2.1, .int .i64 a0.2.2.2.2.1, .int .i64 a0.2.2.2.2.2.1, .int .i64 a0.2.2.2.2.2.2.1, .int .i64 a0.2.2.2.2.2.2.2], Zh b3 29 [.int .i64 0, .slice none ([] : List (Int)).length 0, .slice none ([] : List (List UInt8)).length 0, .slice none ([] : List (List UInt8 × Bool × List UInt8)).length 0, .slice none ([] : List (List UInt8 × List UInt8)).length 0], Zh b4 29 [.int .i64 0, .slice none ([] : List (Int)).length 0, .slice none ([] : List (List UInt8)).length 0, .slice none ([] : List (List UInt8 × Bool × List UInt8)).length 0, .slice A3 x3.length c_3], Zf 51 (.pair .str .str) x3 (.slice A3 x3.length c_3)] [rdC 5 (.int .u8) x1 (.slice A2 x1.length c_2)] w ∧ Q12.l0 kk a0 a2 x1 x2 x3 x4 = some r) (k := k) ⟨a1.1, A1, c_1, a1.2, ([] : List (List UInt8 × List UInt8)), none, 0, 0, rfl, h17, H⟩ ?_
 rintro k1 env w5 ⟨x1, A2, c_2, x2, x3, A3, c_3, x4, rfl, h5, H⟩
 cases k1 with
 | zero => exact nomatch (show none = some r from H)
 | succ k1 =>
  rw [Q12.l0] at H
  refine J.seq (J.region ?_)
  refine RJ.run Za 1 rfl (RJ.fin [(1, _), (3, _), (6, _), (7, _), (14, _), (15, _), (16, .bool (decide (x4 < (if a0.2.2.2.2.2.1 < a2 then a0.2.2.2.2.2.1 else a2))))] rfl (J.seq (J.cond rfl (fun c1 => ?_) (fun c1 => ?_))))
  ·replace H := Zi c1 H
   refine J.skip (J.seq (J.block (J.seq (J.region ?_))))
   refine RJ.q rfl rfl (Zc Za 1 h5.wht rfl rfl rfl rfl rfl) (RJ.run Za 1 rfl ?_)
   obtain ⟨r1, q1, H⟩ := Zj H
   refine RJ.op rfl rfl (Z9 [0] (Q13.spec q1) rfl rfl rfl h5 rfl (Zr (Gives.self 0 rfl) Zm)) ?_
   rintro _ w6 ⟨_, _, ⟨A4, c_4, rfl, rfl, rfl⟩, h6⟩
   replace h6 : St w0 F0 [Zh b1 89 [.slice A4 r1.2.2.1.length c_4, .int .i64 r1.2.2.2], _, _, _, _] _ _ := h6
   refine RJ.run Za 5 rfl (RJ.fin [(1, _), (3, _), (6, _), (7, _), (8, .string ⟨⟨r1.1⟩⟩), (9, .string ⟨⟨r1.2.1⟩⟩), (14, _), (15, _)] rfl (J.region (RJ.run Za 1 rfl (RJ.q rfl rfl (Zc Za 3 h6.wht rfl rfl rfl rfl rfl) (RJ.run Za 3 rfl (RJ.op rfl rfl (Yd Za (.pair .str .str) rfl ([(r1.1, r1.2.1)] : List (List UInt8 × List UInt8)) rfl h6 rfl rfl (by decide) rfl rfl rfl rfl rfl rfl rfl) ?_))))))
   rintro _ w7 ⟨b5, rfl, h7⟩
   replace h7 : St w0 F0 [Zf 51 (.pair .str .str) ([(r1.1, r1.2.1)] : List (List UInt8 × List UInt8)) (.slice (some ⟨b5, 0, none⟩) ([(r1.1, r1.2.1)] : List (List UInt8 × List UInt8)).length 1), _, _, _, _, _] _ _ := h7
   obtain ⟨p1, H⟩ := Zo H
   refine RJ.op rfl rfl (Z7 Za rfl 5 rfl h7 rfl (Gives.of 0 rfl Zl) rfl rfl rfl rfl rfl rfl (by decide) (by decide) p1) ?_
   rintro _ w8 ⟨A5, c_5, rfl, h8⟩
   replace h8 : St w0 F0 [Zf 51 (.pair .str .str) (x3 ++ ([(r1.1, r1.2.1)] : List (List UInt8 × List UInt8))) (.slice A5 (x3 ++ ([(r1.1, r1.2.1)] : List (List UInt8 × List UInt8))).length c_5), _, _, _, _, _] _ _ := h8
   refine RJ.run Za 1 rfl (RJ.op rfl rfl (Zt Za 5 rfl h8 rfl rfl rfl rfl rfl rfl rfl) ?_)
   intro _ w9 h9
   replace h9 : St w0 F0 [Zh b4 29 [.int .i64 0, .slice none ([] : List (Int)).length 0, .slice none ([] : List (List UInt8)).length 0, .slice none ([] : List (List UInt8 × Bool × List UInt8)).length 0, .slice A5 (x3 ++ ([(r1.1, r1.2.1)] : List (List UInt8 × List UInt8))).length c_5], _, _, _, _, _] _ _ := h9
   refine RJ.fin [(1, _), (3, _), (6, _), (7, _), (14, _), (15, _)] rfl (J.region (RJ.run Za 2 rfl (RJ.fin [(1, _), (3, _), (6, _), (7, _), (14, _), (15, .int .i64 (w64 (x4 + 1)))] rfl ?_)))
   have h10 := ((h9.only [3, 3, 3, 0, 0] rfl).rds [0] rfl)
   exact ⟨k1, by omega, r1.2.2.1, A4, c_4, r1.2.2.2, (x3 ++ ([(r1.1, r1.2.1)] : List (List UInt8 × List UInt8))), A5, c_5, (w64 (x4 + 1)), rfl, h10, H⟩
  replace H := Zg c1 H
  refine J.exit (J.seq (J.region ?_))
  refine RJ.q rfl rfl (Zc Za 3 h5.wht rfl rfl rfl rfl rfl) (RJ.op rfl rfl (Zt Za 2 rfl h5 rfl rfl rfl rfl rfl rfl rfl) ?_)
  intro _ w10 h11
  replace h11 : St w0 F0 [Zh b3 29 [.int .i64 0, .slice none ([] : List (Int)).length 0, .slice none ([] : List (List UInt8)).length 0, .slice none ([] : List (List UInt8 × Bool × List UInt8)).length 0, .slice A3 x3.length c_3], _, _, _, _] _ _ := h11
  refine RJ.fin [(6, _)] rfl ?_
  have h12 := h11.only [0, 0, 2] rfl
  replace h12 : St w0 F0 [_, _, _] _ _ := h12
  refine J.ret ?_
  have h13 := h12.addNil 70 (.int .u32)
  have h14 := h13.addNil 9 .str
  have h15 := h14.addNil 49 (.pair .str (.pair .bool .str))
  obtain rfl := Option.some.inj H
  exact ⟨_, _, _, (Z6 rfl (Z8 (RV.cell Za 3 h15 rfl rfl rfl rfl) Yr) rfl), ⟨_, _, _, _, _, _, _, _, _, _, rfl, rfl, rfl⟩, (h15.only [2, 1, 0, 2, 1] rfl).rds [0] rfl⟩

def Q103.f (a0 : List (Int) × Int) : Option (Int) := some a0.2
theorem Q103.spec {a0 : List (Int) × Int} {A1 : Option Addr} {c_1 : Nat} {b1 : Nat} {r : Int} (H : Q103.f a0 = some r) :
  Spec Tryz.prog 27 [.pointer (some ⟨b1, 0, none⟩)] [Zh b1 89 [.slice A1 a0.1.length c_1, .int .i64 a0.2]] [rdC 5 (.int .u8) a0.1 (.slice A1 a0.1.length c_1)] (fun v l => v = .int .i64 r ∧ l = [Zh b1 89 [.slice A1 a0.1.length c_1, .int .i64 a0.2]]) := by
 refine Spec.enter Tryz.func27 rfl (by kernel_rfl) (by kernel_rfl) fun w0 F0 h0 => ?_
 unfold Q103.f at H
 refine J.seq (J.region ?_)
 refine RJ.run Za 1 rfl (RJ.fin [(0, .pointer (some ⟨b1, 0, none⟩))] rfl (J.seq (J.seq (J.region ?_))))
 refine RJ.run Za 2 rfl (RJ.fin [(0, _), (4, .bool false)] rfl (J.condF rfl (J.skip (J.seq (J.region ?_)))))
 refine RJ.run Za 3 rfl (RJ.q rfl rfl (Zc Za 0 h0.wht rfl rfl rfl rfl rfl) (RJ.run Za 1 rfl (RJ.fin [(2, .int .i64 a0.2)] rfl (J.ret ?_))))
 obtain rfl := Option.some.inj H
 exact ⟨_, _, _, (Zb rfl), ⟨rfl, rfl⟩, h0.only [0] rfl⟩

def Q43.l0 : Nat → (List (Int)) → (List (Int)) → (Int) → Option (Bool)
 | 0, _, _, _ => none
 | k + 1, a0, a1, x1 => if (decide (x1 < (a0.length : Int))) = true then (if 0 ≤ x1 ∧ x1 < (a0.length : Int) then (if 0 ≤ x1 ∧ x1 < (a1.length : Int) then (if (!decide ((gt a0 x1) = (gt a1 x1))) = true then (some false) else (Q43.l0 k a0 a1 (w64 (x1 + 1)))) else none) else none) else (some true)
def Q43.f (k : Nat) (a0 : List (Int)) (a1 : List (Int)) : Option (Bool) := if (!decide ((a0.length : Int) = (a1.length : Int))) = true then (some false) else (Q43.l0 k a0 a1 0)
theorem Q43.spec {k : Nat} {a0 : List (Int)} {a1 : List (Int)} {A1 : Option Addr} {c_1 : Nat} {A2 : Option Addr} {c_2 : Nat} {r : Bool} (H : Q43.f k a0 a1 = some r) :
  Spec Tryz.prog 28 [.slice A1 a0.length c_1, .slice A2 a1.length c_2] [] [rdC 5 (.int .u8) a0 (.slice A1 a0.length c_1), rdC 5 (.int .u8) a1 (.slice A2 a1.length c_2)] (fun v l => v = .bool r ∧ l = []) := by
 refine Spec.enter Tryz.func28 rfl (by kernel_rfl) (by kernel_rfl) fun w0 F0 h0 => ?_
 unfold Q43.f at H
 refine J.seq (J.region ?_)
 refine RJ.run Za 1 rfl (RJ.fin [(0, .slice A1 a0.length c_1), (1, .slice A2 a1.length c_2)] rfl (J.seq (J.seq (J.region ?_))))
 refine RJ.run Za 5 rfl (RJ.fin [(0, _), (1, _), (10, .bool (!decide ((a0.length : Int) = (a1.length : Int))))] rfl (J.cond rfl (fun c1 => ?_) (fun c1 => ?_)))
 ·replace H := Zi c1 H
  refine J.seq (J.region ?_)
  refine RJ.run Za 1 rfl (RJ.fin [(4, .bool false)] rfl (J.ret ?_))
  obtain rfl := Option.some.inj H
  exact ⟨_, _, _, (Zb rfl), ⟨rfl, rfl⟩, h0.only [] rfl⟩
 replace H := Zg c1 H
 refine J.skip (J.seq (J.seq (J.region ?_)))
 refine RJ.run Za 3 rfl (RJ.fin [(0, _), (1, _), (12, .int .i64 (a0.length : Int)), (13, .int .i64 0)] rfl (J.block ?_))
 have h4 := ((h0.only [] rfl).rds [0, 1] rfl)
 refine J.loop (fun kk env w => ∃ (x1 : Int), env = [(0, .slice A1 a0.length c_1), (1, .slice A2 a1.length c_2), (12, .int .i64 (a0.length : Int)), (13, .int .i64 x1)] ∧ St w0 F0 [] [rdC 5 (.int .u8) a0 (.slice A1 a0.length c_1), rdC 5 (.int .u8) a1 (.slice A2 a1.length c_2)] w ∧ Q43.l0 kk a0 a1 x1 = some r) (k := k) ⟨0, rfl, h4, H⟩ ?_
 rintro k1 env w1 ⟨x1, rfl, h1, H⟩
 cases k1 with
 | zero => exact nomatch (show none = some r from H)
 | succ k1 =>
  rw [Q43.l0] at H
  refine J.seq (J.region ?_)
  refine RJ.run Za 1 rfl (RJ.fin [(0, _), (1, _), (12, _), (13, _), (14, .bool (decide (x1 < (a0.length : Int))))] rfl (J.seq (J.cond rfl (fun c2 => ?_) (fun c2 => ?_))))
  ·replace H := Zi c2 H
   refine J.skip (J.seq (J.block (J.seq (J.region ?_))))
   refine RJ.run Za 2 rfl (RJ.fin [(0, _), (1, _), (5, .int .i64 x1), (12, _), (13, _)] rfl (J.seq (J.heldSt mix h1 ?_)))
   have h2 := h1.drew
   refine HJ.run Za rfl [0, 1, 4, 5] rfl ?_
   obtain ⟨⟨p1, p2⟩, H⟩ := Zo H
   have e1 := Zy h2.wh (Gives.self 0 rfl) p1 p2
   refine HJ.q (i := 2) rfl rfl rfl rfl rfl rfl (Zk Za rfl rfl rfl rfl rfl e1 p1 p2) (HJ.q (i := 3) rfl rfl rfl rfl rfl rfl (Ze (f := 0) Za rfl (fun w e => e) (Gives.self 0 rfl) p1 p2 rfl rfl rfl rfl rfl) ?_)
   obtain ⟨⟨p3, p4⟩, H⟩ := Zo H
   have e2 := Zy h2.wh (Gives.self 1 rfl) p3 p4
   refine HJ.q (i := 6) rfl rfl rfl rfl rfl rfl (Zk Za rfl rfl rfl rfl rfl e2 p3 p4) (HJ.q (i := 7) rfl rfl rfl rfl rfl rfl (Ze (f := 0) Za rfl (fun w e => e) (Gives.self 1 rfl) p3 p4 rfl rfl rfl rfl rfl) ?_)
   refine HJ.run Za rfl [8] rfl (HJ.fin [(0, _), (1, _), (12, _), (13, _), (24, .bool (!decide ((gt a0 x1) = (gt a1 x1))))] rfl rfl (J.cond rfl (fun c3 => ?_) (fun c3 => ?_)))
   ·replace H := Zi c3 H
    refine J.seq (J.region ?_)
    refine RJ.run Za 1 rfl (RJ.fin [(4, .bool false)] rfl (J.ret ?_))
    obtain rfl := Option.some.inj H
    exact ⟨_, _, _, (Zb rfl), ⟨rfl, rfl⟩, h2.only [] rfl⟩
   replace H := Zg c3 H
   refine J.skip (J.region (RJ.run Za 2 rfl (RJ.fin [(0, _), (1, _), (12, _), (13, .int .i64 (w64 (x1 + 1)))] rfl ?_)))
   have h3 := ((h2.only [] rfl).rds [0, 1] rfl)
   exact ⟨k1, by omega, (w64 (x1 + 1)), rfl, h3, H⟩
  replace H := Zg c2 H
  refine J.exit (J.seq (J.region ?_))
  refine RJ.run Za 1 rfl (RJ.fin [(4, .bool true)] rfl (J.ret ?_))
  obtain rfl := Option.some.inj H
  exact ⟨_, _, _, (Zb rfl), ⟨rfl, rfl⟩, h1.only [] rfl⟩

def Q11.l2 : Nat → (Int × Int × Int × Int × Int × Int × Int × Int) → (Int) → (Int) → (List (Int)) → (List (List UInt8)) → (List (Int)) → (Int) → (List (List UInt8 × Bool × List UInt8)) → (Int) → Option ((Int × List (Int) × List (List UInt8) × (List (List UInt8 × Bool × List UInt8)) × (List (List UInt8 × List UInt8))) × (List (Int) × Int))
 | 0, _, _, _, _, _, _, _, _, _ => none
 | k + 1, a0, a2, a4, x3, x7, x9, x10, x11, x12 => if (decide (x12 < (if a0.2.2.2.2.1 < a4 then a0.2.2.2.2.1 else a4))) = true then ((Q104.f k (x9, x10) 1).bind fun r4 => ((Q13.f k (a0.1, a0.2.1, a0.2.2.1, a0.2.2.2.1, a0.2.2.2.2.1, a0.2.2.2.2.2.1, a0.2.2.2.2.2.2.1, a0.2.2.2.2.2.2.2) (r4.2.1, r4.2.2)).bind fun r5 => (if (x11.length + ([(r5.1, (decide (r4.1 = 2)), r5.2.1)] : List (List UInt8 × Bool × List UInt8)).length) * 40 ≤ 140737488355328 then (Q11.l2 k a0 a2 a4 x3 x7 r5.2.2.1 r5.2.2.2 (x11 ++ ([(r5.1, (decide (r4.1 = 2)), r5.2.1)] : List (List UInt8 × Bool × List UInt8))) (w64 (x12 + 1))) else none))) else (some ((a2, x3, x7, x11, ([] : List (List UInt8 × List UInt8))), (x9, x10)))
def Q11.l1 : Nat → (Int × Int × Int × Int × Int × Int × Int × Int) → (Int) → (Int) → (Int) → (List (Int)) → (List (Int)) → (Int) → (List (List UInt8)) → (Int) → Option ((Int × List (Int) × List (List UInt8) × (List (List UInt8 × Bool × List UInt8)) × (List (List UInt8 × List UInt8))) × (List (Int) × Int))
 | 0, _, _, _, _, _, _, _, _, _ => none
 | k + 1, a0, a2, a3, a4, x3, x5, x6, x7, x8 => if (decide (x8 < (w64 (a0.2.2.2.1 - 1)))) = true then ((Q104.f k (x5, x6) 1).bind fun r2 => ((Q106.f k (r2.2.1, r2.2.2) (w64 (r2.1)) a0.2.2.2.2.2.2.1).bind fun r3 => (if (decide ((w64 (x8 + 1)) < a3)) = true then (if (x7.length + ([r3.1] : List (List UInt8)).length) * 16 ≤ 140737488355328 then (Q11.l1 k a0 a2 a3 a4 x3 r3.2.1 r3.2.2 (x7 ++ ([r3.1] : List (List UInt8))) (w64 (x8 + 1))) else none) else (Q11.l1 k a0 a2 a3 a4 x3 r3.2.1 r3.2.2 x7 (w64 (x8 + 1)))))) else (Q11.l2 k a0 a2 a4 x3 x7 x5 x6 ([] : List (List UInt8 × Bool × List UInt8)) 0)
def Q11.l0 : Nat → (Int × Int × Int × Int × Int × Int × Int × Int) → (Int) → (Int) → (Int) → (List (Int)) → (Int) → (List (Int)) → (Int) → Option ((Int × List (Int) × List (List UInt8) × (List (List UInt8 × Bool × List UInt8)) × (List (List UInt8 × List UInt8))) × (List (Int) × Int))
 | 0, _, _, _, _, _, _, _, _ => none
 | k + 1, a0, a2, a3, a4, x1, x2, x3, x4 => if (decide (x4 < a0.2.2.2.1)) = true then ((Q104.f k (x1, x2) 4).bind fun r1 => (if (decide (x4 < a3)) = true then (if (x3.length + ([(IntKind.u32.wrap (r1.1))] : List (Int)).length) * 4 ≤ 140737488355328 then (Q11.l0 k a0 a2 a3 a4 r1.2.1 r1.2.2 (x3 ++ ([(IntKind.u32.wrap (r1.1))] : List (Int))) (w64 (x4 + 1))) else none) else (Q11.l0 k a0 a2 a3 a4 r1.2.1 r1.2.2 x3 (w64 (x4 + 1))))) else (Q11.l1 k a0 a2 a3 a4 x3 x1 x2 ([] : List (List UInt8)) 0)
def Q11.f (k : Nat) (a0 : Int × Int × Int × Int × Int × Int × Int × Int) (a1 : List (Int) × Int) (a2 : Int) (a3 : Int) (a4 : Int) : Option ((Int × List (Int) × List (List UInt8) × (List (List UInt8 × Bool × List UInt8)) × (List (List UInt8 × List UInt8))) × (List (Int) × Int)) := Q11.l0 k a0 a2 a3 a4 a1.1 a1.2 ([] : List (Int)) 0
theorem Q11.spec {k : Nat} {a0 : Int × Int × Int × Int × Int × Int × Int × Int} {a1 : List (Int) × Int} {a2 : Int} {a3 : Int} {a4 : Int} {A1 : Option Addr} {c_1 : Nat} {b1 : Nat} {r : (Int × List (Int) × List (List UInt8) × (List (List UInt8 × Bool × List UInt8)) × (List (List UInt8 × List UInt8))) × (List (Int) × Int)} (H : Q11.f k a0 a1 a2 a3 a4 = some r) :
  SpecA Tryz.prog 26 [.agg #[.int .i64 a0.1, .int .i64 a0.2.1, .int .i64 a0.2.2.1, .int .i64 a0.2.2.2.1, .int .i64 a0.2.2.2.2.1, .int .i64 a0.2.2.2.2.2.1, .int .i64 a0.2.2.2.2.2.2.1, .int .i64 a0.2.2.2.2.2.2.2], .pointer (some ⟨b1, 0, none⟩), .int .i64 a2, .int .i64 a3, .int .i64 a4] [Zh b1 89 [.slice A1 a1.1.length c_1, .int .i64 a1.2]] [rdC 5 (.int .u8) a1.1 (.slice A1 a1.1.length c_1)] (fun v l lr => ∃ (A_0 : Option Addr) (c_0 : Nat) (A_1 : Option Addr) (c_1 : Nat) (A_2 : Option Addr) (c_2 : Nat) (A_3 : Option Addr) (c_3 : Nat) (A_4 : Option Addr) (c_4 : Nat), v = .agg #[.int .i64 r.1.1, .slice A_0 r.1.2.1.length c_0, .slice A_1 r.1.2.2.1.length c_1, .slice A_2 r.1.2.2.2.1.length c_2, .slice A_3 r.1.2.2.2.2.length c_3] ∧ l = [Zf 70 (.int .u32) r.1.2.1 (.slice A_0 r.1.2.1.length c_0), Zf 9 .str r.1.2.2.1 (.slice A_1 r.1.2.2.1.length c_1), Zf 49 (.pair .str (.pair .bool .str)) r.1.2.2.2.1 (.slice A_2 r.1.2.2.2.1.length c_2), Zf 51 (.pair .str .str) r.1.2.2.2.2 (.slice A_3 r.1.2.2.2.2.length c_3), Zh b1 89 [.slice A_4 r.2.1.length c_4, .int .i64 r.2.2]] ∧ lr = [rdC 5 (.int .u8) r.2.1 (.slice A_4 r.2.1.length c_4)]) := by
 refine SpecA.enter Tryz.func26 rfl (by kernel_rfl) (by kernel_rfl) fun w0 F0 h0 => ?_
 unfold Q11.f at H
 refine J.seq (J.region ?_)
 refine RJ.op rfl rfl (Z2 rfl rfl h0) ?_
 rintro _ w1 ⟨b2, rfl, h1⟩
 replace h1 : St w0 F0 [Zh b2 23 [.int .i64 a0.1, .int .i64 a0.2.1, .int .i64 a0.2.2.1, .int .i64 a0.2.2.2.1, .int .i64 a0.2.2.2.2.1, .int .i64 a0.2.2.2.2.2.1, .int .i64 a0.2.2.2.2.2.2.1, .int .i64 a0.2.2.2.2.2.2.2], Zh b1 89 [.slice A1 a1.1.length c_1, .int .i64 a1.2]] _ _ := h1
 refine RJ.op rfl rfl (Ye Za rfl rfl h1) ?_
 rintro _ w2 ⟨b3, rfl, h2⟩
 replace h2 : St w0 F0 [Zh b3 29 [.int .i64 0, .slice none ([] : List (Int)).length 0, .slice none ([] : List (List UInt8)).length 0, .slice none ([] : List (List UInt8 × Bool × List UInt8)).length 0, .slice none ([] : List (List UInt8 × List UInt8)).length 0], _, _] _ _ := h2
 refine RJ.fin [(1, .pointer (some ⟨b1, 0, none⟩)), (2, .int .i64 a2), (3, .int .i64 a3), (4, .int .i64 a4), (5, .pointer (some ⟨b2, 0, none⟩)), (10, .pointer (some ⟨b3, 0, none⟩))] rfl (J.seq (J.region ?_))
 refine RJ.run Za 2 rfl (RJ.op rfl rfl (Ye Za rfl rfl h2) ?_)
 rintro _ w3 ⟨b4, rfl, h3⟩
 replace h3 : St w0 F0 [Zh b4 29 [.int .i64 0, .slice none ([] : List (Int)).length 0, .slice none ([] : List (List UInt8)).length 0, .slice none ([] : List (List UInt8 × Bool × List UInt8)).length 0, .slice none ([] : List (List UInt8 × List UInt8)).length 0], _, _, _] _ _ := h3
 refine RJ.op rfl rfl (Zt Za 0 rfl h3 rfl rfl rfl rfl rfl rfl rfl) ?_
 intro _ w4 h4
 replace h4 : St w0 F0 [Zh b4 29 [.int .i64 a2, .slice none ([] : List (Int)).length 0, .slice none ([] : List (List UInt8)).length 0, .slice none ([] : List (List UInt8 × Bool × List UInt8)).length 0, .slice none ([] : List (List UInt8 × List UInt8)).length 0], _, _, _] _ _ := h4
 refine RJ.fin [(1, _), (3, _), (4, _), (5, _), (10, _), (11, .pointer (some ⟨b4, 0, none⟩))] rfl (J.seq (J.seq (J.region ?_)))
 refine RJ.run Za 1 rfl (RJ.q rfl rfl (Zc Za 2 h4.wht rfl rfl rfl rfl rfl) (RJ.run Za 1 rfl (RJ.fin [(1, _), (3, _), (4, _), (5, _), (10, _), (11, _), (22, .int .i64 a0.2.2.2.1), (23, .int .i64 0)] rfl (J.block ?_))))
 have h35 := h4.addNil 70 (.int .u32)
 have h36 := ((h35.only [4, 3, 2, 1, 0] rfl).rds [0] rfl)
 refine J.loop (fun kk env w => ∃ (x1 : List (Int)) (A2 : Option Addr) (c_2 : Nat) (x2 : Int) (x3 : List (Int)) (A3 : Option Addr) (c_3 : Nat) (x4 : Int), env = [(1, .pointer (some ⟨b1, 0, none⟩)), (3, .int .i64 a3), (4, .int .i64 a4), (5, .pointer (some ⟨b2, 0, none⟩)), (10, .pointer (some ⟨b3, 0, none⟩)), (11, .pointer (some ⟨b4, 0, none⟩)), (22, .int .i64 a0.2.2.2.1), (23, .int .i64 x4)] ∧ St w0 F0 [Zh b1 89 [.slice A2 x1.length c_2, .int .i64 x2], Zh b2 23 [.int .i64 a0.1, .int .i64 a0.2.1, .int .i64 a0.2.2.1, .int .i64 a0.2.2.2.1, .int .i64 a0.2.2.2.2.1, .int .i64 a0.2.2.2.2.2.1, .int .i64 a0.2.2.2.2.2.2.1, .int .i64 a0.2.2.2.2.2.2.2], Zh b3 29 [.int .i64 0, .slice none ([] : List (Int)).length 0, .slice none ([] : List (List UInt8)).length 0, .slice none ([] : List (List UInt8 × Bool × List UInt8)).length 0, .slice none ([] : List (List UInt8 × List UInt8)).length 0], Zh b4 29 [.int .i64 a2, .slice A3 x3.length c_3, .slice none ([] : List (List UInt8)).length 0, .slice none ([] : List (List UInt8 × Bool × List UInt8)).length 0, .slice none ([] : List (List UInt8 × List UInt8)).length 0], Zf 70 (.int .u32) x3 (.slice A3 x3.length c_3)] [rdC 5 (.int .u8) x1 (.slice A2 x1.length c_2)] w ∧ Q11.l0 kk a0 a2 a3 a4 x1 x2 x3 x4 = some r) (k := k) ⟨a1.1, A1, c_1, a1.2, ([] : List (Int)), none, 0, 0, rfl, h36, H⟩ ?_
 rintro k1 env w5 ⟨x1, A2, c_2, x2, x3, A3, c_3, x4, rfl, h5, H⟩
 cases k1 with
 | zero => exact nomatch (show none = some r from H)
 | succ k1 =>
  rw [Q11.l0] at H
  refine J.seq (J.region ?_)
  refine RJ.run Za 1 rfl (RJ.fin [(1, _), (3, _), (4, _), (5, _), (10, _), (11, _), (22, _), (23, _), (24, .bool (decide (x4 < a0.2.2.2.1)))] rfl (J.seq (J.cond rfl (fun c1 => ?_) (fun c1 => ?_))))
  ·replace H := Zi c1 H
   refine J.skip (J.seq (J.block (J.seq (J.region ?_))))
   refine RJ.run Za 2 rfl (RJ.fin [(1, _), (3, _), (4, _), (5, _), (10, _), (11, _), (12, .int .i64 x4), (22, _), (23, _)] rfl (J.seq (J.region ?_)))
   refine RJ.run Za 1 rfl ?_
   obtain ⟨r1, q1, H⟩ := Zj H
   refine RJ.op rfl rfl (Z9 [0] (Q104.spec q1) rfl rfl rfl h5 rfl (Zr (Gives.self 0 rfl) Zm)) ?_
   rintro _ w6 ⟨_, _, ⟨A4, c_4, rfl, rfl, rfl⟩, h6⟩
   replace h6 : St w0 F0 [Zh b1 89 [.slice A4 r1.2.1.length c_4, .int .i64 r1.2.2], _, _, _, _] _ _ := h6
   refine RJ.run Za 2 rfl (RJ.fin [(1, _), (3, _), (4, _), (5, _), (10, _), (11, _), (12, _), (13, .int .u32 (IntKind.u32.wrap (r1.1))), (22, _), (23, _)] rfl (J.seq (J.region ?_)))
   refine RJ.run Za 3 rfl (RJ.fin [(1, _), (3, _), (4, _), (5, _), (10, _), (11, _), (13, _), (22, _), (23, _), (31, .bool (decide (x4 < a3)))] rfl (J.cond rfl (fun c2 => ?_) (fun c2 => ?_)))
   ·replace H := Zi c2 H
    refine J.region (RJ.run Za 1 rfl (RJ.q rfl rfl (Zc Za 3 h6.wht rfl rfl rfl rfl rfl) (RJ.run Za 1 rfl (RJ.op rfl rfl (Yd Za (.int .u32) rfl ([(IntKind.u32.wrap (r1.1))] : List (Int)) rfl h6 rfl rfl (by decide) rfl rfl rfl rfl rfl rfl rfl) ?_))))
    rintro _ w7 ⟨b5, rfl, h7⟩
    replace h7 : St w0 F0 [Zf 70 (.int .u32) ([(IntKind.u32.wrap (r1.1))] : List (Int)) (.slice (some ⟨b5, 0, none⟩) ([(IntKind.u32.wrap (r1.1))] : List (Int)).length 1), _, _, _, _, _] _ _ := h7
    obtain ⟨p1, H⟩ := Zo H
    refine RJ.op rfl rfl (Z7 Za rfl 5 rfl h7 rfl (Gives.of 0 rfl Zl) rfl rfl rfl rfl rfl rfl (by decide) (by decide) p1) ?_
    rintro _ w8 ⟨A5, c_5, rfl, h8⟩
    replace h8 : St w0 F0 [Zf 70 (.int .u32) (x3 ++ ([(IntKind.u32.wrap (r1.1))] : List (Int))) (.slice A5 (x3 ++ ([(IntKind.u32.wrap (r1.1))] : List (Int))).length c_5), _, _, _, _, _] _ _ := h8
    refine RJ.run Za 1 rfl (RJ.op rfl rfl (Zt Za 5 rfl h8 rfl rfl rfl rfl rfl rfl rfl) ?_)
    intro _ w9 h9
    replace h9 : St w0 F0 [Zh b4 29 [.int .i64 a2, .slice A5 (x3 ++ ([(IntKind.u32.wrap (r1.1))] : List (Int))).length c_5, .slice none ([] : List (List UInt8)).length 0, .slice none ([] : List (List UInt8 × Bool × List UInt8)).length 0, .slice none ([] : List (List UInt8 × List UInt8)).length 0], _, _, _, _, _] _ _ := h9
    refine RJ.fin [(1, _), (3, _), (4, _), (5, _), (10, _), (11, _), (22, _), (23, _)] rfl (J.region (RJ.run Za 2 rfl (RJ.fin [(1, _), (3, _), (4, _), (5, _), (10, _), (11, _), (22, _), (23, .int .i64 (w64 (x4 + 1)))] rfl ?_)))
    have h10 := ((h9.only [3, 3, 3, 0, 0] rfl).rds [0] rfl)
    exact ⟨k1, by omega, r1.2.1, A4, c_4, r1.2.2, (x3 ++ ([(IntKind.u32.wrap (r1.1))] : List (Int))), A5, c_5, (w64 (x4 + 1)), rfl, h10, H⟩
   replace H := Zg c2 H
   refine J.skip (J.region (RJ.run Za 2 rfl (RJ.fin [(1, _), (3, _), (4, _), (5, _), (10, _), (11, _), (22, _), (23, .int .i64 (w64 (x4 + 1)))] rfl ?_)))
   have h11 := ((h6.only [0, 0, 0, 0, 0] rfl).rds [0] rfl)
   exact ⟨k1, by omega, r1.2.1, A4, c_4, r1.2.2, x3, A3, c_3, (w64 (x4 + 1)), rfl, h11, H⟩
  replace H := Zg c1 H
  refine J.exit (J.seq (J.seq (J.region ?_)))
  refine RJ.run Za 1 rfl (RJ.q rfl rfl (Zc Za 1 h5.wht rfl rfl rfl rfl rfl) (RJ.run Za 2 rfl (RJ.fin [(1, _), (3, _), (4, _), (5, _), (10, _), (11, _), (41, .int .i64 (w64 (a0.2.2.2.1 - 1))), (42, .int .i64 0)] rfl (J.block ?_))))
  have h33 := h5.addNil 9 .str
  have h34 := ((h33.only [1, 1, 1, 1, 1, 0] rfl).rds [0] rfl)
  refine J.loop (fun kk env w => ∃ (x5 : List (Int)) (A6 : Option Addr) (c_6 : Nat) (x6 : Int) (x7 : List (List UInt8)) (A7 : Option Addr) (c_7 : Nat) (x8 : Int), env = [(1, .pointer (some ⟨b1, 0, none⟩)), (3, .int .i64 a3), (4, .int .i64 a4), (5, .pointer (some ⟨b2, 0, none⟩)), (10, .pointer (some ⟨b3, 0, none⟩)), (11, .pointer (some ⟨b4, 0, none⟩)), (41, .int .i64 (w64 (a0.2.2.2.1 - 1))), (42, .int .i64 x8)] ∧ St w0 F0 [Zh b1 89 [.slice A6 x5.length c_6, .int .i64 x6], Zh b2 23 [.int .i64 a0.1, .int .i64 a0.2.1, .int .i64 a0.2.2.1, .int .i64 a0.2.2.2.1, .int .i64 a0.2.2.2.2.1, .int .i64 a0.2.2.2.2.2.1, .int .i64 a0.2.2.2.2.2.2.1, .int .i64 a0.2.2.2.2.2.2.2], Zh b3 29 [.int .i64 0, .slice none ([] : List (Int)).length 0, .slice none ([] : List (List UInt8)).length 0, .slice none ([] : List (List UInt8 × Bool × List UInt8)).length 0, .slice none ([] : List (List UInt8 × List UInt8)).length 0], Zh b4 29 [.int .i64 a2, .slice A3 x3.length c_3, .slice A7 x7.length c_7, .slice none ([] : List (List UInt8 × Bool × List UInt8)).length 0, .slice none ([] : List (List UInt8 × List UInt8)).length 0], Zf 70 (.int .u32) x3 (.slice A3 x3.length c_3), Zf 9 .str x7 (.slice A7 x7.length c_7)] [rdC 5 (.int .u8) x5 (.slice A6 x5.length c_6)] w ∧ Q11.l1 kk a0 a2 a3 a4 x3 x5 x6 x7 x8 = some r) (k := k1) ⟨x1, A2, c_2, x2, ([] : List (List UInt8)), none, 0, 0, rfl, h34, H⟩ ?_
  rintro k2 env w10 ⟨x5, A6, c_6, x6, x7, A7, c_7, x8, rfl, h12, H⟩
  cases k2 with
  | zero => exact nomatch (show none = some r from H)
  | succ k2 =>
   rw [Q11.l1] at H
   refine J.seq (J.region ?_)
   refine RJ.run Za 1 rfl (RJ.fin [(1, _), (3, _), (4, _), (5, _), (10, _), (11, _), (41, _), (42, _), (43, .bool (decide (x8 < (w64 (a0.2.2.2.1 - 1)))))] rfl (J.seq (J.cond rfl (fun c3 => ?_) (fun c3 => ?_))))
   ·replace H := Zi c3 H
    refine J.skip (J.seq (J.block (J.seq (J.region ?_))))
    refine RJ.run Za 2 rfl (RJ.fin [(1, _), (3, _), (4, _), (5, _), (10, _), (11, _), (14, .int .i64 x8), (41, _), (42, _)] rfl (J.seq (J.heldSt mix (h12.only [1, 1, 1, 1, 1] rfl) ?_)))
    have h13 := h12.drew
    refine HJ.run Za rfl [0, 1, 4] rfl (HJ.q (i := 5) rfl rfl rfl rfl rfl rfl (Zc Za 0 (fun w e => e) rfl rfl rfl rfl rfl) ?_)
    obtain ⟨r2, q2, H⟩ := Zj H
    refine HJ.op (i := 2) rfl rfl rfl rfl rfl (Z9 [0] (Q104.spec q2) rfl rfl rfl h13 rfl (Zr (Gives.self 0 rfl) Zm)) ?_
    rintro _ w11 ⟨_, _, ⟨A8, c_8, rfl, rfl, rfl⟩, h14⟩
    replace h14 : St w0 F0 [Zh b1 89 [.slice A8 r2.2.1.length c_8, .int .i64 r2.2.2], _, _, _, _, _] _ _ := h14
    refine ⟨⟨[_], (h14.rds [1] rfl)⟩, ?_⟩
    refine HJ.run Za rfl [3] rfl ?_
    obtain ⟨r3, q3, H⟩ := Zj H
    refine HJ.op (i := 6) rfl rfl rfl rfl rfl (Z9 [0] (Q106.spec q3) rfl rfl rfl h14 rfl (Zr (Gives.self 0 rfl) Zm)) ?_
    rintro _ w12 ⟨_, _, ⟨A9, c_9, rfl, rfl, rfl⟩, h15⟩
    replace h15 : St w0 F0 [Zh b1 89 [.slice A9 r3.2.1.length c_9, .int .i64 r3.2.2], _, _, _, _, _] _ _ := h15
    refine ⟨⟨[_], (h15.rds [2] rfl)⟩, ?_⟩
    refine HJ.run Za rfl [7] rfl (HJ.fin [(1, _), (3, _), (4, _), (5, _), (10, _), (11, _), (14, _), (15, .string ⟨⟨r3.1⟩⟩), (41, _), (42, _)] rfl rfl (J.seq (J.region ?_)))
    refine RJ.run Za 4 rfl (RJ.fin [(1, _), (3, _), (4, _), (5, _), (10, _), (11, _), (15, _), (41, _), (42, _), (55, .bool (decide ((w64 (x8 + 1)) < a3)))] rfl (J.cond rfl (fun c4 => ?_) (fun c4 => ?_)))
    ·replace H := Zi c4 H
     refine J.region (RJ.run Za 1 rfl (RJ.q rfl rfl (Zc Za 3 h15.wht rfl rfl rfl rfl rfl) (RJ.run Za 1 rfl (RJ.op rfl rfl (Yd Za .str rfl ([r3.1] : List (List UInt8)) rfl h15 rfl rfl (by decide) rfl rfl rfl rfl rfl rfl rfl) ?_))))
     rintro _ w13 ⟨b6, rfl, h16⟩
     replace h16 : St w0 F0 [Zf 9 .str ([r3.1] : List (List UInt8)) (.slice (some ⟨b6, 0, none⟩) ([r3.1] : List (List UInt8)).length 1), _, _, _, _, _, _] _ _ := h16
     obtain ⟨p2, H⟩ := Zo H
     refine RJ.op rfl rfl (Z7 Za rfl 6 rfl h16 rfl (Gives.of 0 rfl Zl) rfl rfl rfl rfl rfl rfl (by decide) (by decide) p2) ?_
     rintro _ w14 ⟨A10, c_10, rfl, h17⟩
     replace h17 : St w0 F0 [Zf 9 .str (x7 ++ ([r3.1] : List (List UInt8))) (.slice A10 (x7 ++ ([r3.1] : List (List UInt8))).length c_10), _, _, _, _, _, _] _ _ := h17
     refine RJ.run Za 1 rfl (RJ.op rfl rfl (Zt Za 5 rfl h17 rfl rfl rfl rfl rfl rfl rfl) ?_)
     intro _ w15 h18
     replace h18 : St w0 F0 [Zh b4 29 [.int .i64 a2, .slice A3 x3.length c_3, .slice A10 (x7 ++ ([r3.1] : List (List UInt8))).length c_10, .slice none ([] : List (List UInt8 × Bool × List UInt8)).length 0, .slice none ([] : List (List UInt8 × List UInt8)).length 0], _, _, _, _, _, _] _ _ := h18
     refine RJ.fin [(1, _), (3, _), (4, _), (5, _), (10, _), (11, _), (41, _), (42, _)] rfl (J.region (RJ.run Za 2 rfl (RJ.fin [(1, _), (3, _), (4, _), (5, _), (10, _), (11, _), (41, _), (42, .int .i64 (w64 (x8 + 1)))] rfl ?_)))
     have h19 := ((h18.only [3, 3, 3, 0, 2, 0] rfl).rds [0] rfl)
     exact ⟨k2, by omega, r3.2.1, A9, c_9, r3.2.2, (x7 ++ ([r3.1] : List (List UInt8))), A10, c_10, (w64 (x8 + 1)), rfl, h19, H⟩
    replace H := Zg c4 H
    refine J.skip (J.region (RJ.run Za 2 rfl (RJ.fin [(1, _), (3, _), (4, _), (5, _), (10, _), (11, _), (41, _), (42, .int .i64 (w64 (x8 + 1)))] rfl ?_)))
    have h20 := ((h15.only [0, 0, 0, 0, 0, 0] rfl).rds [0] rfl)
    exact ⟨k2, by omega, r3.2.1, A9, c_9, r3.2.2, x7, A7, c_7, (w64 (x8 + 1)), rfl, h20, H⟩
   replace H := Zg c3 H
   refine J.exit (J.seq (J.seq (J.region ?_)))
   refine RJ.run Za 2 rfl (RJ.q rfl rfl (Zc Za 1 h12.wht rfl rfl rfl rfl rfl) (RJ.run Za 2 rfl (RJ.fin [(1, _), (5, _), (10, _), (11, _), (66, .int .i64 (if a0.2.2.2.2.1 < a4 then a0.2.2.2.2.1 else a4)), (67, .int .i64 0)] rfl (J.block ?_))))
   have h31 := h12.addNil 49 (.pair .str (.pair .bool .str))
   have h32 := ((h31.only [1, 1, 1, 1, 1, 1, 0] rfl).rds [0] rfl)
   refine J.loop (fun kk env w => ∃ (x9 : List (Int)) (A11 : Option Addr) (c_11 : Nat) (x10 : Int) (x11 : List (List UInt8 × Bool × List UInt8)) (A12 : Option Addr) (c_12 : Nat) (x12 : Int), env = [(1, .pointer (some ⟨b1, 0, none⟩)), (5, .pointer (some ⟨b2, 0, none⟩)), (10, .pointer (some ⟨b3, 0, none⟩)), (11, .pointer (some ⟨b4, 0, none⟩)), (66, .int .i64 (if a0.2.2.2.2.1 < a4 then a0.2.2.2.2.1 else a4)), (67, .int .i64 x12)] ∧ St w0 F0 [Zh b1 89 [.slice A11 x9.length c_11, .int .i64 x10], Zh b2 23 [.int .i64 a0.1, .int .i64 a0.2.1, .int .i64 a0.2.2.1, .int .i64 a0.2.2.2.1, .int .i64 a0.2.2.2.2.1, .int .i64 a0.2.2.2.2.2.1, .int .i64 a0.2.2.2.2.2.2.1, .int .i64 a0.2.2.2.2.2.2.2], Zh b3 29 [.int .i64 0, .slice none ([] : List (Int)).length 0, .slice none ([] : List (List UInt8)).length 0, .slice none ([] : List (List UInt8 × Bool × List UInt8)).length 0, .slice none ([] : List (List UInt8 × List UInt8)).length 0], Zh b4 29 [.int .i64 a2, .slice A3 x3.length c_3, .slice A7 x7.length c_7, .slice A12 x11.length c_12, .slice none ([] : List (List UInt8 × List UInt8)).length 0], Zf 70 (.int .u32) x3 (.slice A3 x3.length c_3), Zf 9 .str x7 (.slice A7 x7.length c_7), Zf 49 (.pair .str (.pair .bool .str)) x11 (.slice A12 x11.length c_12)] [rdC 5 (.int .u8) x9 (.slice A11 x9.length c_11)] w ∧ Q11.l2 kk a0 a2 a4 x3 x7 x9 x10 x11 x12 = some r) (k := k2) ⟨x5, A6, c_6, x6, ([] : List (List UInt8 × Bool × List UInt8)), none, 0, 0, rfl, h32, H⟩ ?_
   rintro k3 env w16 ⟨x9, A11, c_11, x10, x11, A12, c_12, x12, rfl, h21, H⟩
   cases k3 with
   | zero => exact nomatch (show none = some r from H)
   | succ k3 =>
    rw [Q11.l2] at H
    refine J.seq (J.region ?_)
    refine RJ.run Za 1 rfl (RJ.fin [(1, _), (5, _), (10, _), (11, _), (66, _), (67, _), (68, .bool (decide (x12 < (if a0.2.2.2.2.1 < a4 then a0.2.2.2.2.1 else a4))))] rfl (J.seq (J.cond rfl (fun c5 => ?_) (fun c5 => ?_))))
    ·replace H := Zi c5 H
     refine J.skip (J.seq (J.block (J.seq (J.region ?_))))
     refine RJ.run Za 1 rfl ?_
     obtain ⟨r4, q4, H⟩ := Zj H
     refine RJ.op rfl rfl (Z9 [0] (Q104.spec q4) rfl rfl rfl h21 rfl (Zr (Gives.self 0 rfl) Zm)) ?_
     rintro _ w17 ⟨_, _, ⟨A13, c_13, rfl, rfl, rfl⟩, h22⟩
     replace h22 : St w0 F0 [Zh b1 89 [.slice A13 r4.2.1.length c_13, .int .i64 r4.2.2], _, _, _, _, _, _] _ _ := h22
     refine RJ.run Za 1 rfl (RJ.fin [(1, _), (5, _), (10, _), (11, _), (16, .int .u64 r4.1), (66, _), (67, _)] rfl (J.seq (J.region ?_)))
     refine RJ.q rfl rfl (Zc Za 1 h22.wht rfl rfl rfl rfl rfl) (RJ.run Za 1 rfl ?_)
     obtain ⟨r5, q5, H⟩ := Zj H
     refine RJ.op rfl rfl (Z9 [0] (Q13.spec q5) rfl rfl rfl h22 rfl (Zr (Gives.self 0 rfl) Zm)) ?_
     rintro _ w18 ⟨_, _, ⟨A14, c_14, rfl, rfl, rfl⟩, h23⟩
     replace h23 : St w0 F0 [Zh b1 89 [.slice A14 r5.2.2.1.length c_14, .int .i64 r5.2.2.2], _, _, _, _, _, _] _ _ := h23
     refine RJ.run Za 5 rfl (RJ.fin [(1, _), (5, _), (10, _), (11, _), (16, _), (17, .string ⟨⟨r5.1⟩⟩), (18, .string ⟨⟨r5.2.1⟩⟩), (66, _), (67, _)] rfl (J.region (RJ.run Za 1 rfl (RJ.q rfl rfl (Zc Za 3 h23.wht rfl rfl rfl rfl rfl) (RJ.run Za 5 rfl (RJ.op rfl rfl (Yd Za (.pair .str (.pair .bool .str)) rfl ([(r5.1, (decide (r4.1 = 2)), r5.2.1)] : List (List UInt8 × Bool × List UInt8)) rfl h23 rfl rfl (by decide) rfl rfl rfl rfl rfl rfl rfl) ?_))))))
     rintro _ w19 ⟨b7, rfl, h24⟩
     replace h24 : St w0 F0 [Zf 49 (.pair .str (.pair .bool .str)) ([(r5.1, (decide (r4.1 = 2)), r5.2.1)] : List (List UInt8 × Bool × List UInt8)) (.slice (some ⟨b7, 0, none⟩) ([(r5.1, (decide (r4.1 = 2)), r5.2.1)] : List (List UInt8 × Bool × List UInt8)).length 1), _, _, _, _, _, _, _] _ _ := h24
     obtain ⟨p3, H⟩ := Zo H
     refine RJ.op rfl rfl (Z7 Za rfl 7 rfl h24 rfl (Gives.of 0 rfl Zl) rfl rfl rfl rfl rfl rfl (by decide) (by decide) p3) ?_
     rintro _ w20 ⟨A15, c_15, rfl, h25⟩
     replace h25 : St w0 F0 [Zf 49 (.pair .str (.pair .bool .str)) (x11 ++ ([(r5.1, (decide (r4.1 = 2)), r5.2.1)] : List (List UInt8 × Bool × List UInt8))) (.slice A15 (x11 ++ ([(r5.1, (decide (r4.1 = 2)), r5.2.1)] : List (List UInt8 × Bool × List UInt8))).length c_15), _, _, _, _, _, _, _] _ _ := h25
     refine RJ.run Za 1 rfl (RJ.op rfl rfl (Zt Za 5 rfl h25 rfl rfl rfl rfl rfl rfl rfl) ?_)
     intro _ w21 h26
     replace h26 : St w0 F0 [Zh b4 29 [.int .i64 a2, .slice A3 x3.length c_3, .slice A7 x7.length c_7, .slice A15 (x11 ++ ([(r5.1, (decide (r4.1 = 2)), r5.2.1)] : List (List UInt8 × Bool × List UInt8))).length c_15, .slice none ([] : List (List UInt8 × List UInt8)).length 0], _, _, _, _, _, _, _] _ _ := h26
     refine RJ.fin [(1, _), (5, _), (10, _), (11, _), (66, _), (67, _)] rfl (J.region (RJ.run Za 2 rfl (RJ.fin [(1, _), (5, _), (10, _), (11, _), (66, _), (67, .int .i64 (w64 (x12 + 1)))] rfl ?_)))
     have h27 := ((h26.only [3, 3, 3, 0, 2, 2, 0] rfl).rds [0] rfl)
     exact ⟨k3, by omega, r5.2.2.1, A14, c_14, r5.2.2.2, (x11 ++ ([(r5.1, (decide (r4.1 = 2)), r5.2.1)] : List (List UInt8 × Bool × List UInt8))), A15, c_15, (w64 (x12 + 1)), rfl, h27, H⟩
    replace H := Zg c5 H
    refine J.exit (J.seq (J.region ?_))
    refine RJ.q rfl rfl (Zc Za 3 h21.wht rfl rfl rfl rfl rfl) (RJ.op rfl rfl (Zt Za 2 rfl h21 rfl rfl rfl rfl rfl rfl rfl) ?_)
    intro _ w22 h28
    replace h28 : St w0 F0 [Zh b3 29 [.int .i64 a2, .slice A3 x3.length c_3, .slice A7 x7.length c_7, .slice A12 x11.length c_12, .slice none ([] : List (List UInt8 × List UInt8)).length 0], _, _, _, _, _, _] _ _ := h28
    refine RJ.fin [(10, _)] rfl ?_
    have h29 := h28.only [0, 0, 2, 2, 2] rfl
    replace h29 : St w0 F0 [_, _, _, _, _] _ _ := h29
    refine J.ret ?_
    have h30 := h29.addNil 51 (.pair .str .str)
    obtain rfl := Option.some.inj H
    exact ⟨_, _, _, (Z6 rfl (Z8 (RV.cell Za 1 h30 rfl rfl rfl rfl) Yr) rfl), ⟨_, _, _, _, _, _, _, _, _, _, rfl, rfl, rfl⟩, (h30.only [3, 3, 3, 0, 1] rfl).rds [0] rfl⟩

def Q6.f (k : Nat) (a0 : Int × Int × Int × Int × Int × Int × Int × Int) (a1 : List (Int)) : Option ((Int × List (Int) × List (List UInt8) × (List (List UInt8 × Bool × List UInt8)) × (List (List UInt8 × List UInt8))) × Int) := (Q17.f (a0.1, a0.2.1, a0.2.2.1, a0.2.2.2.1, a0.2.2.2.2.1, a0.2.2.2.2.2.1, a0.2.2.2.2.2.2.1, a0.2.2.2.2.2.2.2)).bind fun r1 => (if (!decide (r1 = 0)) = true then (some ((0, ([] : List (Int)), ([] : List (List UInt8)), ([] : List (List UInt8 × Bool × List UInt8)), ([] : List (List UInt8 × List UInt8))), r1)) else ((Q101.f a1).bind fun r2 => ((Q104.f k (r2.1, r2.2) 1).bind fun r3 => ((Q104.f k (r3.2.1, r3.2.2) 1).bind fun r4 => ((Q104.f k (r4.2.1, r4.2.2) 2).bind fun r5 => ((Q104.f k (r5.2.1, r5.2.2) 2).bind fun r6 => ((Q108.f k (r6.2.1, r6.2.2) 2).bind fun r7 => (if (decide (r3.1 = 1)) = true then ((Q12.f k (a0.1, a0.2.1, a0.2.2.1, a0.2.2.2.1, a0.2.2.2.2.1, a0.2.2.2.2.2.1, a0.2.2.2.2.2.2.1, a0.2.2.2.2.2.2.2) (r7.1, r7.2) (w64 (r5.1))).bind fun r8 => ((Q103.f (r8.2.1, r8.2.2)).bind fun r9 => (if (!decide (r9 = 0)) = true then (some ((0, ([] : List (Int)), ([] : List (List UInt8)), ([] : List (List UInt8 × Bool × List UInt8)), ([] : List (List UInt8 × List UInt8))), 12)) else ((Q7.f k (a0.1, a0.2.1, a0.2.2.1, a0.2.2.2.1, a0.2.2.2.2.1, a0.2.2.2.2.2.1, a0.2.2.2.2.2.2.1, a0.2.2.2.2.2.2.2) (r8.1.1, r8.1.2.1, r8.1.2.2.1, r8.1.2.2.2.1, r8.1.2.2.2.2)).bind fun r10 => (if (!decide (r10.2 = 0)) = true then (some ((0, ([] : List (Int)), ([] : List (List UInt8)), ([] : List (List UInt8 × Bool × List UInt8)), ([] : List (List UInt8 × List UInt8))), 12)) else ((Q43.f k r10.1 a1).bind fun r11 => (if (!r11) = true then (some ((0, ([] : List (Int)), ([] : List (List UInt8)), ([] : List (List UInt8 × Bool × List UInt8)), ([] : List (List UInt8 × List UInt8))), 12)) else (some ((r8.1.1, r8.1.2.1, r8.1.2.2.1, r8.1.2.2.2.1, r8.1.2.2.2.2), 0))))))))) else (if (decide (r3.1 = 2)) = true then ((Q11.f k (a0.1, a0.2.1, a0.2.2.1, a0.2.2.2.1, a0.2.2.2.2.1, a0.2.2.2.2.2.1, a0.2.2.2.2.2.2.1, a0.2.2.2.2.2.2.2) (r7.1, r7.2) (if (w64 (r4.1)) > 1 then (w64 (r4.1)) else 1) (w64 (r5.1)) (w64 (r6.1))).bind fun r12 => ((Q103.f (r12.2.1, r12.2.2)).bind fun r13 => (if (!decide (r13 = 0)) = true then (some ((0, ([] : List (Int)), ([] : List (List UInt8)), ([] : List (List UInt8 × Bool × List UInt8)), ([] : List (List UInt8 × List UInt8))), 12)) else ((Q7.f k (a0.1, a0.2.1, a0.2.2.1, a0.2.2.2.1, a0.2.2.2.2.1, a0.2.2.2.2.2.1, a0.2.2.2.2.2.2.1, a0.2.2.2.2.2.2.2) (r12.1.1, r12.1.2.1, r12.1.2.2.1, r12.1.2.2.2.1, r12.1.2.2.2.2)).bind fun r14 => (if (!decide (r14.2 = 0)) = true then (some ((0, ([] : List (Int)), ([] : List (List UInt8)), ([] : List (List UInt8 × Bool × List UInt8)), ([] : List (List UInt8 × List UInt8))), 12)) else ((Q43.f k r14.1 a1).bind fun r15 => (if (!r15) = true then (some ((0, ([] : List (Int)), ([] : List (List UInt8)), ([] : List (List UInt8 × Bool × List UInt8)), ([] : List (List UInt8 × List UInt8))), 12)) else (some ((r12.1.1, r12.1.2.1, r12.1.2.2.1, r12.1.2.2.2.1, r12.1.2.2.2.2), 0))))))))) else ((Q103.f (r7.1, r7.2)).bind fun r16 => (if (!decide (r16 = 0)) = true then (some ((0, ([] : List (Int)), ([] : List (List UInt8)), ([] : List (List UInt8 × Bool × List UInt8)), ([] : List (List UInt8 × List UInt8))), 12)) else ((Q7.f k (a0.1, a0.2.1, a0.2.2.1, a0.2.2.2.1, a0.2.2.2.2.1, a0.2.2.2.2.2.1, a0.2.2.2.2.2.2.1, a0.2.2.2.2.2.2.2) ((-1), ([] : List (Int)), ([] : List (List UInt8)), ([] : List (List UInt8 × Bool × List UInt8)), ([] : List (List UInt8 × List UInt8)))).bind fun r17 => (if (!decide (r17.2 = 0)) = true then (some ((0, ([] : List (Int)), ([] : List (List UInt8)), ([] : List (List UInt8 × Bool × List UInt8)), ([] : List (List UInt8 × List UInt8))), 12)) else ((Q43.f k r17.1 a1).bind fun r18 => (if (!r18) = true then (some ((0, ([] : List (Int)), ([] : List (List UInt8)), ([] : List (List UInt8 × Bool × List UInt8)), ([] : List (List UInt8 × List UInt8))), 12)) else (some (((-1), ([] : List (Int)), ([] : List (List UInt8)), ([] : List (List UInt8 × Bool × List UInt8)), ([] : List (List UInt8 × List UInt8))), 0)))))))))))))))))
theorem Q6.spec {k : Nat} {a0 : Int × Int × Int × Int × Int × Int × Int × Int} {a1 : List (Int)} {A1 : Option Addr} {c_1 : Nat} {r : (Int × List (Int) × List (List UInt8) × (List (List UInt8 × Bool × List UInt8)) × (List (List UInt8 × List UInt8))) × Int} (H : Q6.f k a0 a1 = some r) :
  Spec Tryz.prog 11 [.agg #[.int .i64 a0.1, .int .i64 a0.2.1, .int .i64 a0.2.2.1, .int .i64 a0.2.2.2.1, .int .i64 a0.2.2.2.2.1, .int .i64 a0.2.2.2.2.2.1, .int .i64 a0.2.2.2.2.2.2.1, .int .i64 a0.2.2.2.2.2.2.2], .slice A1 a1.length c_1] [] [rdC 5 (.int .u8) a1 (.slice A1 a1.length c_1)] (fun v l => ∃ (A_0 : Option Addr) (c_0 : Nat) (A_1 : Option Addr) (c_1 : Nat) (A_2 : Option Addr) (c_2 : Nat) (A_3 : Option Addr) (c_3 : Nat), v = .tuple #[.agg #[.int .i64 r.1.1, .slice A_0 r.1.2.1.length c_0, .slice A_1 r.1.2.2.1.length c_1, .slice A_2 r.1.2.2.2.1.length c_2, .slice A_3 r.1.2.2.2.2.length c_3], .int .i64 r.2] ∧ l = [Zf 70 (.int .u32) r.1.2.1 (.slice A_0 r.1.2.1.length c_0), Zf 9 .str r.1.2.2.1 (.slice A_1 r.1.2.2.1.length c_1), Zf 49 (.pair .str (.pair .bool .str)) r.1.2.2.2.1 (.slice A_2 r.1.2.2.2.1.length c_2), Zf 51 (.pair .str .str) r.1.2.2.2.2 (.slice A_3 r.1.2.2.2.2.length c_3)]) := by
 refine Spec.enter Tryz.func11 rfl (by kernel_rfl) (by kernel_rfl) fun w0 F0 h0 => ?_
 unfold Q6.f at H
 refine J.seq (J.region ?_)
 refine RJ.op rfl rfl (Z2 rfl rfl h0) ?_
 rintro _ w1 ⟨b1, rfl, h1⟩
 replace h1 : St w0 F0 [Zh b1 23 [.int .i64 a0.1, .int .i64 a0.2.1, .int .i64 a0.2.2.1, .int .i64 a0.2.2.2.1, .int .i64 a0.2.2.2.2.1, .int .i64 a0.2.2.2.2.2.1, .int .i64 a0.2.2.2.2.2.2.1, .int .i64 a0.2.2.2.2.2.2.2]] _ _ := h1
 refine RJ.op rfl rfl (Ye Za rfl rfl h1) ?_
 rintro _ w2 ⟨b2, rfl, h2⟩
 replace h2 : St w0 F0 [Zh b2 29 [.int .i64 0, .slice none ([] : List (Int)).length 0, .slice none ([] : List (List UInt8)).length 0, .slice none ([] : List (List UInt8 × Bool × List UInt8)).length 0, .slice none ([] : List (List UInt8 × List UInt8)).length 0], _] _ _ := h2
 refine RJ.run Za 1 rfl (RJ.fin [(1, .slice A1 a1.length c_1), (2, .pointer (some ⟨b1, 0, none⟩)), (4, .pointer (some ⟨b2, 0, none⟩))] rfl (J.seq (J.seq (J.region ?_))))
 refine RJ.q rfl rfl (Zc Za 1 h2.wht rfl rfl rfl rfl rfl) ?_
 obtain ⟨r1, q1, H⟩ := Zj H
 refine RJ.op rfl rfl (Zd [] (Q17.spec q1) rfl rfl rfl h2 rfl Zm) ?_
 rintro _ w3 ⟨_, ⟨rfl, rfl⟩, h3⟩
 replace h3 : St w0 F0 [_, _] _ _ := h3
 refine RJ.run Za 1 rfl (RJ.fin [(1, _), (2, _), (4, _), (6, .int .i64 r1)] rfl (J.seq (J.region ?_)))
 refine RJ.run Za 2 rfl (RJ.fin [(1, _), (2, _), (4, _), (6, _), (18, .bool (!decide (r1 = 0)))] rfl (J.cond rfl (fun c1 => ?_) (fun c1 => ?_)))
 ·replace H := Zi c1 H
  refine J.seq (J.region ?_)
  refine RJ.run Za 2 rfl (RJ.op rfl rfl (Zt Za 0 rfl h3 rfl rfl rfl rfl rfl rfl rfl) ?_)
  intro _ w4 h4
  replace h4 : St w0 F0 [Zh b2 29 [.int .i64 0, .slice none ([] : List (Int)).length 0, .slice none ([] : List (List UInt8)).length 0, .slice none ([] : List (List UInt8 × Bool × List UInt8)).length 0, .slice none ([] : List (List UInt8 × List UInt8)).length 0], _] _ _ := h4
  refine RJ.run Za 1 rfl (RJ.fin [(4, _), (5, .int .i64 r1)] rfl (J.ret ?_))
  have h5 := h4.addNil 70 (.int .u32)
  have h6 := h5.addNil 9 .str
  have h7 := h6.addNil 49 (.pair .str (.pair .bool .str))
  have h8 := h7.addNil 51 (.pair .str .str)
  obtain rfl := Option.some.inj H
  exact ⟨_, _, _, (Z6 rfl (Z8 (RV.cell Za 4 h8 rfl rfl rfl rfl) (Z8 (RV.tmp rfl) Yr)) rfl), ⟨_, _, _, _, _, _, _, _, rfl, rfl⟩, h8.only [3, 2, 1, 0] rfl⟩
 replace H := Zg c1 H
 refine J.skip (J.seq (J.region ?_))
 refine RJ.run Za 1 rfl ?_
 obtain ⟨r2, q2, H⟩ := Zj H
 refine RJ.op rfl rfl (Z9 [] (Q101.spec q2) rfl rfl rfl h3 rfl (Zr (Gives.self 0 rfl) Zm)) ?_
 rintro _ w5 ⟨_, _, ⟨b3, A2, c_2, rfl, rfl, rfl⟩, h9⟩
 replace h9 : St w0 F0 [Zh b3 89 [.slice A2 r2.1.length c_2, .int .i64 r2.2], _, _] _ _ := h9
 refine RJ.run Za 1 rfl (RJ.fin [(1, _), (2, _), (4, _), (7, .pointer (some ⟨b3, 0, none⟩))] rfl (J.seq (J.region ?_)))
 refine RJ.run Za 1 rfl ?_
 obtain ⟨r3, q3, H⟩ := Zj H
 refine RJ.op rfl rfl (Z9 [0] (Q104.spec q3) rfl rfl rfl h9 rfl (Zr (Gives.self 0 rfl) Zm)) ?_
 rintro _ w6 ⟨_, _, ⟨A3, c_3, rfl, rfl, rfl⟩, h10⟩
 replace h10 : St w0 F0 [Zh b3 89 [.slice A3 r3.2.1.length c_3, .int .i64 r3.2.2], _, _] _ _ := h10
 refine RJ.run Za 1 rfl ?_
 obtain ⟨r4, q4, H⟩ := Zj H
 refine RJ.op rfl rfl (Z9 [0] (Q104.spec q4) rfl rfl rfl h10 rfl (Zr (Gives.self 0 rfl) Zm)) ?_
 rintro _ w7 ⟨_, _, ⟨A4, c_4, rfl, rfl, rfl⟩, h11⟩
 replace h11 : St w0 F0 [Zh b3 89 [.slice A4 r4.2.1.length c_4, .int .i64 r4.2.2], _, _] _ _ := h11
 refine RJ.run Za 2 rfl ?_
 obtain ⟨r5, q5, H⟩ := Zj H
 refine RJ.op rfl rfl (Z9 [0] (Q104.spec q5) rfl rfl rfl h11 rfl (Zr (Gives.self 0 rfl) Zm)) ?_
 rintro _ w8 ⟨_, _, ⟨A5, c_5, rfl, rfl, rfl⟩, h12⟩
 replace h12 : St w0 F0 [Zh b3 89 [.slice A5 r5.2.1.length c_5, .int .i64 r5.2.2], _, _] _ _ := h12
 refine RJ.run Za 2 rfl ?_
 obtain ⟨r6, q6, H⟩ := Zj H
 refine RJ.op rfl rfl (Z9 [0] (Q104.spec q6) rfl rfl rfl h12 rfl (Zr (Gives.self 0 rfl) Zm)) ?_
 rintro _ w9 ⟨_, _, ⟨A6, c_6, rfl, rfl, rfl⟩, h13⟩
 replace h13 : St w0 F0 [Zh b3 89 [.slice A6 r6.2.1.length c_6, .int .i64 r6.2.2], _, _] _ _ := h13
 refine RJ.run Za 5 rfl (RJ.fin [(1, _), (2, _), (4, _), (7, _), (8, .int .u64 r3.1), (9, .int .i64 (w64 (r4.1))), (10, .int .i64 (w64 (r5.1))), (11, .int .i64 (w64 (r6.1)))] rfl (J.seq (J.region ?_)))
 refine RJ.run Za 1 rfl ?_
 obtain ⟨r7, q7, H⟩ := Zj H
 refine RJ.op rfl rfl (Z9 [0] (Q108.spec q7) rfl rfl rfl h13 rfl (Zr (Gives.self 0 rfl) Zm)) ?_
 rintro _ w10 ⟨_, _, ⟨A7, c_7, rfl, rfl, rfl⟩, h14⟩
 replace h14 : St w0 F0 [Zh b3 89 [.slice A7 r7.1.length c_7, .int .i64 r7.2], _, _] _ _ := h14
 refine RJ.fin [(1, _), (2, _), (4, _), (7, _), (8, _), (9, _), (10, _), (11, _)] rfl (J.seq (J.region ?_))
 refine RJ.run Za 1 rfl (RJ.op rfl rfl (Ye Za rfl rfl h14) ?_)
 rintro _ w11 ⟨b4, rfl, h15⟩
 replace h15 : St w0 F0 [Zh b4 29 [.int .i64 0, .slice none ([] : List (Int)).length 0, .slice none ([] : List (List UInt8)).length 0, .slice none ([] : List (List UInt8 × Bool × List UInt8)).length 0, .slice none ([] : List (List UInt8 × List UInt8)).length 0], _, _, _] _ _ := h15
 refine RJ.op rfl rfl (Zt Za 0 rfl h15 rfl rfl rfl rfl rfl rfl rfl) ?_
 intro _ w12 h16
 replace h16 : St w0 F0 [Zh b4 29 [.int .i64 (-1), .slice none ([] : List (Int)).length 0, .slice none ([] : List (List UInt8)).length 0, .slice none ([] : List (List UInt8 × Bool × List UInt8)).length 0, .slice none ([] : List (List UInt8 × List UInt8)).length 0], _, _, _] _ _ := h16
 refine RJ.fin [(1, _), (2, _), (4, _), (7, _), (8, _), (9, _), (10, _), (11, _), (12, .pointer (some ⟨b4, 0, none⟩))] rfl (J.seq (J.seq (J.region ?_)))
 refine RJ.run Za 1 rfl (RJ.fin [(1, _), (2, _), (4, _), (7, _), (9, _), (10, _), (11, _), (12, _), (37, .int .u64 r3.1)] rfl (J.block (J.seq (J.region ?_))))
 refine RJ.run Za 2 rfl (RJ.fin [(1, _), (2, _), (4, _), (7, _), (9, _), (10, _), (11, _), (12, _), (37, _), (38, .bool (decide (r3.1 = 1)))] rfl (J.cond rfl (fun c2 => ?_) (fun c2 => ?_)))
 ·replace H := Zi c2 H
  refine J.region (RJ.q rfl rfl (Zc Za 3 h16.wht rfl rfl rfl rfl rfl) (RJ.run Za 2 rfl ?_))
  obtain ⟨r8, q8, H⟩ := Zj H
  refine RJ.op rfl rfl (Z9 [1] (Q12.spec q8) rfl rfl rfl h16 rfl (Zr (Gives.self 0 rfl) Zm)) ?_
  rintro _ w13 ⟨_, _, ⟨A8, c_8, A9, c_9, A10, c_10, A11, c_11, A12, c_12, rfl, rfl, rfl⟩, h17⟩
  replace h17 : St w0 F0 [Zf 70 (.int .u32) r8.1.2.1 (.slice A8 r8.1.2.1.length c_8), Zf 9 .str r8.1.2.2.1 (.slice A9 r8.1.2.2.1.length c_9), Zf 49 (.pair .str (.pair .bool .str)) r8.1.2.2.2.1 (.slice A10 r8.1.2.2.2.1.length c_10), Zf 51 (.pair .str .str) r8.1.2.2.2.2 (.slice A11 r8.1.2.2.2.2.length c_11), Zh b3 89 [.slice A12 r8.2.1.length c_12, .int .i64 r8.2.2], _, _, _] _ _ := h17
  refine RJ.op rfl rfl (Zt Za 5 rfl h17 rfl rfl rfl rfl rfl rfl rfl) ?_
  intro _ w14 h18
  replace h18 : St w0 F0 [Zh b4 29 [.int .i64 r8.1.1, .slice A8 r8.1.2.1.length c_8, .slice A9 r8.1.2.2.1.length c_9, .slice A10 r8.1.2.2.2.1.length c_10, .slice A11 r8.1.2.2.2.2.length c_11], _, _, _, _, _, _, _] _ _ := h18
  refine RJ.fin [(1, _), (2, _), (4, _), (7, _), (12, _)] rfl (J.seq (J.seq (J.region ?_)))
  refine RJ.run Za 1 rfl ?_
  obtain ⟨r9, q9, H⟩ := Zj H
  refine RJ.op rfl rfl (Zd [5] (Q103.spec q9) rfl rfl rfl h18 rfl (Zr (Gives.self 7 rfl) Zm)) ?_
  rintro _ w15 ⟨_, ⟨rfl, rfl⟩, h19⟩
  replace h19 : St w0 F0 [_, _, _, _, _, _, _, _] _ _ := h19
  refine RJ.run Za 1 rfl (RJ.fin [(1, _), (2, _), (4, _), (12, _), (55, .bool (!decide (r9 = 0)))] rfl (J.cond rfl (fun c3 => ?_) (fun c3 => ?_)))
  ·replace H := Zi c3 H
   refine J.seq (J.region ?_)
   refine RJ.run Za 1 rfl (RJ.op rfl rfl (Zt Za 6 rfl h19 rfl rfl rfl rfl rfl rfl rfl) ?_)
   intro _ w16 h20
   replace h20 : St w0 F0 [Zh b2 29 [.int .i64 0, .slice none ([] : List (Int)).length 0, .slice none ([] : List (List UInt8)).length 0, .slice none ([] : List (List UInt8 × Bool × List UInt8)).length 0, .slice none ([] : List (List UInt8 × List UInt8)).length 0], _, _, _, _, _, _, _] _ _ := h20
   refine RJ.run Za 1 rfl (RJ.fin [(4, _), (5, .int .i64 12)] rfl ?_)
   have h21 := h20.only [0] rfl
   replace h21 : St w0 F0 [_] _ _ := h21
   refine J.ret ?_
   have h22 := h21.addNil 70 (.int .u32)
   have h23 := h22.addNil 9 .str
   have h24 := h23.addNil 49 (.pair .str (.pair .bool .str))
   have h25 := h24.addNil 51 (.pair .str .str)
   obtain rfl := Option.some.inj H
   exact ⟨_, _, _, (Z6 rfl (Z8 (RV.cell Za 4 h25 rfl rfl rfl rfl) (Z8 (RV.tmp rfl) Yr)) rfl), ⟨_, _, _, _, _, _, _, _, rfl, rfl⟩, h25.only [3, 2, 1, 0] rfl⟩
  replace H := Zg c3 H
  refine J.skip (J.seq (J.seq (J.region ?_)))
  refine RJ.q rfl rfl (Zc Za 7 h19.wht rfl rfl rfl rfl rfl) (RJ.q rfl rfl (Zc Za 1 h19.wht rfl rfl rfl rfl rfl) ?_)
  obtain ⟨r10, q10, H⟩ := Zj H
  refine RJ.op rfl rfl (Zd [] (Q7.spec q10) rfl rfl rfl h19 rfl (Zr (Gives.of 2 rfl Zl) (Zr (Gives.of 3 rfl Zl) (Zr (Gives.of 4 rfl Zl) (Zr (Gives.of 5 rfl Zl) Zm))))) ?_
  rintro _ w17 ⟨_, ⟨A13, c_13, rfl, rfl⟩, h26⟩
  replace h26 : St w0 F0 [Zf 5 (.int .u8) r10.1 (.slice A13 r10.1.length c_13), _, _, _, _, _, _, _, _] _ _ := h26
  refine RJ.run Za 5 rfl (RJ.fin [(1, _), (4, _), (12, _), (13, .slice A13 r10.1.length c_13), (14, .int .i64 r10.2)] rfl ?_)
  have h27 := h26.only [0, 1, 1, 1, 1, 1, 1] rfl
  replace h27 : St w0 F0 [_, _, _, _, _, _, _] _ _ := h27
  refine J.seq (J.region ?_)
  refine RJ.run Za 3 rfl ?_
  rcases Bool.eq_false_or_eq_true (!decide (r10.2 = 0)) with c4 | c4
  ·replace H := Zi c4 H
   refine RJ.know (t := 65) rfl (congrArg Value.bool c4) (RJ.run Za 5 rfl (RJ.fin [(4, _), (12, _), (70, .bool true)] rfl (J.condT rfl (J.seq (J.region ?_)))))
   refine RJ.run Za 1 rfl (RJ.op rfl rfl (Zt Za 6 rfl h27 rfl rfl rfl rfl rfl rfl rfl) ?_)
   intro _ w18 h28
   replace h28 : St w0 F0 [Zh b2 29 [.int .i64 0, .slice none ([] : List (Int)).length 0, .slice none ([] : List (List UInt8)).length 0, .slice none ([] : List (List UInt8 × Bool × List UInt8)).length 0, .slice none ([] : List (List UInt8 × List UInt8)).length 0], _, _, _, _, _, _] _ _ := h28
   refine RJ.run Za 1 rfl (RJ.fin [(4, _), (5, .int .i64 12)] rfl ?_)
   have h29 := h28.only [0] rfl
   replace h29 : St w0 F0 [_] _ _ := h29
   refine J.ret ?_
   have h30 := h29.addNil 70 (.int .u32)
   have h31 := h30.addNil 9 .str
   have h32 := h31.addNil 49 (.pair .str (.pair .bool .str))
   have h33 := h32.addNil 51 (.pair .str .str)
   obtain rfl := Option.some.inj H
   exact ⟨_, _, _, (Z6 rfl (Z8 (RV.cell Za 4 h33 rfl rfl rfl rfl) (Z8 (RV.tmp rfl) Yr)) rfl), ⟨_, _, _, _, _, _, _, _, rfl, rfl⟩, h33.only [3, 2, 1, 0] rfl⟩
  replace H := Zg c4 H
  refine RJ.know (t := 65) rfl (congrArg Value.bool c4) (RJ.run Za 2 rfl ?_)
  obtain ⟨r11, q11, H⟩ := Zj H
  refine RJ.op rfl rfl (Zd [] (Q43.spec q11) rfl rfl rfl h27 rfl (Zr (Gives.of 0 rfl Zl) (Zr (Gives.self 14 rfl) Zm))) ?_
  rintro _ w19 ⟨_, ⟨rfl, rfl⟩, h34⟩
  replace h34 : St w0 F0 [_, _, _, _, _, _, _] _ _ := h34
  refine RJ.run Za 2 rfl (RJ.fin [(4, _), (12, _), (70, .bool (!r11))] rfl (J.cond rfl (fun c5 => ?_) (fun c5 => ?_)))
  ·replace H := Zi c5 H
   refine J.seq (J.region ?_)
   refine RJ.run Za 1 rfl (RJ.op rfl rfl (Zt Za 6 rfl h34 rfl rfl rfl rfl rfl rfl rfl) ?_)
   intro _ w20 h35
   replace h35 : St w0 F0 [Zh b2 29 [.int .i64 0, .slice none ([] : List (Int)).length 0, .slice none ([] : List (List UInt8)).length 0, .slice none ([] : List (List UInt8 × Bool × List UInt8)).length 0, .slice none ([] : List (List UInt8 × List UInt8)).length 0], _, _, _, _, _, _] _ _ := h35
   refine RJ.run Za 1 rfl (RJ.fin [(4, _), (5, .int .i64 12)] rfl ?_)
   have h36 := h35.only [0] rfl
   replace h36 : St w0 F0 [_] _ _ := h36
   refine J.ret ?_
   have h37 := h36.addNil 70 (.int .u32)
   have h38 := h37.addNil 9 .str
   have h39 := h38.addNil 49 (.pair .str (.pair .bool .str))
   have h40 := h39.addNil 51 (.pair .str .str)
   obtain rfl := Option.some.inj H
   exact ⟨_, _, _, (Z6 rfl (Z8 (RV.cell Za 4 h40 rfl rfl rfl rfl) (Z8 (RV.tmp rfl) Yr)) rfl), ⟨_, _, _, _, _, _, _, _, rfl, rfl⟩, h40.only [3, 2, 1, 0] rfl⟩
  replace H := Zg c5 H
  refine J.skip (J.seq (J.region ?_))
  refine RJ.q rfl rfl (Zc Za 1 h34.wht rfl rfl rfl rfl rfl) (RJ.op rfl rfl (Zt Za 6 rfl h34 rfl rfl rfl rfl rfl rfl rfl) ?_)
  intro _ w21 h41
  replace h41 : St w0 F0 [Zh b2 29 [.int .i64 r8.1.1, .slice A8 r8.1.2.1.length c_8, .slice A9 r8.1.2.2.1.length c_9, .slice A10 r8.1.2.2.2.1.length c_10, .slice A11 r8.1.2.2.2.2.length c_11], _, _, _, _, _, _] _ _ := h41
  refine RJ.run Za 1 rfl (RJ.fin [(4, _), (5, .int .i64 0)] rfl ?_)
  have h42 := h41.only [0, 2, 2, 2, 2] rfl
  replace h42 : St w0 F0 [_, _, _, _, _] _ _ := h42
  refine J.ret ?_
  obtain rfl := Option.some.inj H
  exact ⟨_, _, _, (Z6 rfl (Z8 (RV.cell Za 0 h42 rfl rfl rfl rfl) (Z8 (RV.tmp rfl) Yr)) rfl), ⟨_, _, _, _, _, _, _, _, rfl, rfl⟩, h42.only [1, 1, 1, 1] rfl⟩
 replace H := Zg c2 H
 refine J.seq (J.region ?_)
 refine RJ.run Za 2 rfl (RJ.fin [(1, _), (2, _), (4, _), (7, _), (9, _), (10, _), (11, _), (12, _), (44, .bool (decide (r3.1 = 2)))] rfl (J.cond rfl (fun c6 => ?_) (fun c6 => ?_)))
 ·replace H := Zi c6 H
  refine J.region (RJ.q rfl rfl (Zc Za 3 h16.wht rfl rfl rfl rfl rfl) (RJ.run Za 5 rfl ?_))
  obtain ⟨r12, q12, H⟩ := Zj H
  refine RJ.op rfl rfl (Z9 [1] (Q11.spec q12) rfl rfl rfl h16 rfl (Zr (Gives.self 0 rfl) Zm)) ?_
  rintro _ w22 ⟨_, _, ⟨A14, c_14, A15, c_15, A16, c_16, A17, c_17, A18, c_18, rfl, rfl, rfl⟩, h43⟩
  replace h43 : St w0 F0 [Zf 70 (.int .u32) r12.1.2.1 (.slice A14 r12.1.2.1.length c_14), Zf 9 .str r12.1.2.2.1 (.slice A15 r12.1.2.2.1.length c_15), Zf 49 (.pair .str (.pair .bool .str)) r12.1.2.2.2.1 (.slice A16 r12.1.2.2.2.1.length c_16), Zf 51 (.pair .str .str) r12.1.2.2.2.2 (.slice A17 r12.1.2.2.2.2.length c_17), Zh b3 89 [.slice A18 r12.2.1.length c_18, .int .i64 r12.2.2], _, _, _] _ _ := h43
  refine RJ.op rfl rfl (Zt Za 5 rfl h43 rfl rfl rfl rfl rfl rfl rfl) ?_
  intro _ w23 h44
  replace h44 : St w0 F0 [Zh b4 29 [.int .i64 r12.1.1, .slice A14 r12.1.2.1.length c_14, .slice A15 r12.1.2.2.1.length c_15, .slice A16 r12.1.2.2.2.1.length c_16, .slice A17 r12.1.2.2.2.2.length c_17], _, _, _, _, _, _, _] _ _ := h44
  refine RJ.fin [(1, _), (2, _), (4, _), (7, _), (12, _)] rfl (J.seq (J.seq (J.region ?_)))
  refine RJ.run Za 1 rfl ?_
  obtain ⟨r13, q13, H⟩ := Zj H
  refine RJ.op rfl rfl (Zd [5] (Q103.spec q13) rfl rfl rfl h44 rfl (Zr (Gives.self 7 rfl) Zm)) ?_
  rintro _ w24 ⟨_, ⟨rfl, rfl⟩, h45⟩
  replace h45 : St w0 F0 [_, _, _, _, _, _, _, _] _ _ := h45
  refine RJ.run Za 1 rfl (RJ.fin [(1, _), (2, _), (4, _), (12, _), (55, .bool (!decide (r13 = 0)))] rfl (J.cond rfl (fun c7 => ?_) (fun c7 => ?_)))
  ·replace H := Zi c7 H
   refine J.seq (J.region ?_)
   refine RJ.run Za 1 rfl (RJ.op rfl rfl (Zt Za 6 rfl h45 rfl rfl rfl rfl rfl rfl rfl) ?_)
   intro _ w25 h46
   replace h46 : St w0 F0 [Zh b2 29 [.int .i64 0, .slice none ([] : List (Int)).length 0, .slice none ([] : List (List UInt8)).length 0, .slice none ([] : List (List UInt8 × Bool × List UInt8)).length 0, .slice none ([] : List (List UInt8 × List UInt8)).length 0], _, _, _, _, _, _, _] _ _ := h46
   refine RJ.run Za 1 rfl (RJ.fin [(4, _), (5, .int .i64 12)] rfl ?_)
   have h47 := h46.only [0] rfl
   replace h47 : St w0 F0 [_] _ _ := h47
   refine J.ret ?_
   have h48 := h47.addNil 70 (.int .u32)
   have h49 := h48.addNil 9 .str
   have h50 := h49.addNil 49 (.pair .str (.pair .bool .str))
   have h51 := h50.addNil 51 (.pair .str .str)
   obtain rfl := Option.some.inj H
   exact ⟨_, _, _, (Z6 rfl (Z8 (RV.cell Za 4 h51 rfl rfl rfl rfl) (Z8 (RV.tmp rfl) Yr)) rfl), ⟨_, _, _, _, _, _, _, _, rfl, rfl⟩, h51.only [3, 2, 1, 0] rfl⟩
  replace H := Zg c7 H
  refine J.skip (J.seq (J.seq (J.region ?_)))
  refine RJ.q rfl rfl (Zc Za 7 h45.wht rfl rfl rfl rfl rfl) (RJ.q rfl rfl (Zc Za 1 h45.wht rfl rfl rfl rfl rfl) ?_)
  obtain ⟨r14, q14, H⟩ := Zj H
  refine RJ.op rfl rfl (Zd [] (Q7.spec q14) rfl rfl rfl h45 rfl (Zr (Gives.of 2 rfl Zl) (Zr (Gives.of 3 rfl Zl) (Zr (Gives.of 4 rfl Zl) (Zr (Gives.of 5 rfl Zl) Zm))))) ?_
  rintro _ w26 ⟨_, ⟨A19, c_19, rfl, rfl⟩, h52⟩
  replace h52 : St w0 F0 [Zf 5 (.int .u8) r14.1 (.slice A19 r14.1.length c_19), _, _, _, _, _, _, _, _] _ _ := h52
  refine RJ.run Za 5 rfl (RJ.fin [(1, _), (4, _), (12, _), (13, .slice A19 r14.1.length c_19), (14, .int .i64 r14.2)] rfl ?_)
  have h53 := h52.only [0, 1, 1, 1, 1, 1, 1] rfl
  replace h53 : St w0 F0 [_, _, _, _, _, _, _] _ _ := h53
  refine J.seq (J.region ?_)
  refine RJ.run Za 3 rfl ?_
  rcases Bool.eq_false_or_eq_true (!decide (r14.2 = 0)) with c8 | c8
  ·replace H := Zi c8 H
   refine RJ.know (t := 65) rfl (congrArg Value.bool c8) (RJ.run Za 5 rfl (RJ.fin [(4, _), (12, _), (70, .bool true)] rfl (J.condT rfl (J.seq (J.region ?_)))))
   refine RJ.run Za 1 rfl (RJ.op rfl rfl (Zt Za 6 rfl h53 rfl rfl rfl rfl rfl rfl rfl) ?_)
   intro _ w27 h54
   replace h54 : St w0 F0 [Zh b2 29 [.int .i64 0, .slice none ([] : List (Int)).length 0, .slice none ([] : List (List UInt8)).length 0, .slice none ([] : List (List UInt8 × Bool × List UInt8)).length 0, .slice none ([] : List (List UInt8 × List UInt8)).length 0], _, _, _, _, _, _] _ _ := h54
   refine RJ.run Za 1 rfl (RJ.fin [(4, _), (5, .int .i64 12)] rfl ?_)
   have h55 := h54.only [0] rfl
   replace h55 : St w0 F0 [_] _ _ := h55
   refine J.ret ?_
   have h56 := h55.addNil 70 (.int .u32)
   have h57 := h56.addNil 9 .str
   have h58 := h57.addNil 49 (.pair .str (.pair .bool .str))
   have h59 := h58.addNil 51 (.pair .str .str)
   obtain rfl := Option.some.inj H
   exact ⟨_, _, _, (Z6 rfl (Z8 (RV.cell Za 4 h59 rfl rfl rfl rfl) (Z8 (RV.tmp rfl) Yr)) rfl), ⟨_, _, _, _, _, _, _, _, rfl, rfl⟩, h59.only [3, 2, 1, 0] rfl⟩
  replace H := Zg c8 H
  refine RJ.know (t := 65) rfl (congrArg Value.bool c8) (RJ.run Za 2 rfl ?_)
  obtain ⟨r15, q15, H⟩ := Zj H
  refine RJ.op rfl rfl (Zd [] (Q43.spec q15) rfl rfl rfl h53 rfl (Zr (Gives.of 0 rfl Zl) (Zr (Gives.self 14 rfl) Zm))) ?_
  rintro _ w28 ⟨_, ⟨rfl, rfl⟩, h60⟩
  replace h60 : St w0 F0 [_, _, _, _, _, _, _] _ _ := h60
  refine RJ.run Za 2 rfl (RJ.fin [(4, _), (12, _), (70, .bool (!r15))] rfl (J.cond rfl (fun c9 => ?_) (fun c9 => ?_)))
  ·replace H := Zi c9 H
   refine J.seq (J.region ?_)
   refine RJ.run Za 1 rfl (RJ.op rfl rfl (Zt Za 6 rfl h60 rfl rfl rfl rfl rfl rfl rfl) ?_)
   intro _ w29 h61
   replace h61 : St w0 F0 [Zh b2 29 [.int .i64 0, .slice none ([] : List (Int)).length 0, .slice none ([] : List (List UInt8)).length 0, .slice none ([] : List (List UInt8 × Bool × List UInt8)).length 0, .slice none ([] : List (List UInt8 × List UInt8)).length 0], _, _, _, _, _, _] _ _ := h61
   refine RJ.run Za 1 rfl (RJ.fin [(4, _), (5, .int .i64 12)] rfl ?_)
   have h62 := h61.only [0] rfl
   replace h62 : St w0 F0 [_] _ _ := h62
   refine J.ret ?_
   have h63 := h62.addNil 70 (.int .u32)
   have h64 := h63.addNil 9 .str
   have h65 := h64.addNil 49 (.pair .str (.pair .bool .str))
   have h66 := h65.addNil 51 (.pair .str .str)
   obtain rfl := Option.some.inj H
   exact ⟨_, _, _, (Z6 rfl (Z8 (RV.cell Za 4 h66 rfl rfl rfl rfl) (Z8 (RV.tmp rfl) Yr)) rfl), ⟨_, _, _, _, _, _, _, _, rfl, rfl⟩, h66.only [3, 2, 1, 0] rfl⟩
  replace H := Zg c9 H
  refine J.skip (J.seq (J.region ?_))
  refine RJ.q rfl rfl (Zc Za 1 h60.wht rfl rfl rfl rfl rfl) (RJ.op rfl rfl (Zt Za 6 rfl h60 rfl rfl rfl rfl rfl rfl rfl) ?_)
  intro _ w30 h67
  replace h67 : St w0 F0 [Zh b2 29 [.int .i64 r12.1.1, .slice A14 r12.1.2.1.length c_14, .slice A15 r12.1.2.2.1.length c_15, .slice A16 r12.1.2.2.2.1.length c_16, .slice A17 r12.1.2.2.2.2.length c_17], _, _, _, _, _, _] _ _ := h67
  refine RJ.run Za 1 rfl (RJ.fin [(4, _), (5, .int .i64 0)] rfl ?_)
  have h68 := h67.only [0, 2, 2, 2, 2] rfl
  replace h68 : St w0 F0 [_, _, _, _, _] _ _ := h68
  refine J.ret ?_
  obtain rfl := Option.some.inj H
  exact ⟨_, _, _, (Z6 rfl (Z8 (RV.cell Za 0 h68 rfl rfl rfl rfl) (Z8 (RV.tmp rfl) Yr)) rfl), ⟨_, _, _, _, _, _, _, _, rfl, rfl⟩, h68.only [1, 1, 1, 1] rfl⟩
 replace H := Zg c6 H
 refine J.skip (J.seq (J.seq (J.region ?_)))
 refine RJ.run Za 1 rfl ?_
 obtain ⟨r16, q16, H⟩ := Zj H
 refine RJ.op rfl rfl (Zd [1] (Q103.spec q16) rfl rfl rfl h16 rfl (Zr (Gives.self 3 rfl) Zm)) ?_
 rintro _ w31 ⟨_, ⟨rfl, rfl⟩, h69⟩
 replace h69 : St w0 F0 [_, _, _, _] _ _ := h69
 refine RJ.run Za 1 rfl (RJ.fin [(1, _), (2, _), (4, _), (12, _), (55, .bool (!decide (r16 = 0)))] rfl (J.cond rfl (fun c10 => ?_) (fun c10 => ?_)))
 ·replace H := Zi c10 H
  refine J.seq (J.region ?_)
  refine RJ.run Za 1 rfl (RJ.op rfl rfl (Zt Za 2 rfl h69 rfl rfl rfl rfl rfl rfl rfl) ?_)
  intro _ w32 h70
  replace h70 : St w0 F0 [Zh b2 29 [.int .i64 0, .slice none ([] : List (Int)).length 0, .slice none ([] : List (List UInt8)).length 0, .slice none ([] : List (List UInt8 × Bool × List UInt8)).length 0, .slice none ([] : List (List UInt8 × List UInt8)).length 0], _, _, _] _ _ := h70
  refine RJ.run Za 1 rfl (RJ.fin [(4, _), (5, .int .i64 12)] rfl ?_)
  have h71 := h70.only [0] rfl
  replace h71 : St w0 F0 [_] _ _ := h71
  refine J.ret ?_
  have h72 := h71.addNil 70 (.int .u32)
  have h73 := h72.addNil 9 .str
  have h74 := h73.addNil 49 (.pair .str (.pair .bool .str))
  have h75 := h74.addNil 51 (.pair .str .str)
  obtain rfl := Option.some.inj H
  exact ⟨_, _, _, (Z6 rfl (Z8 (RV.cell Za 4 h75 rfl rfl rfl rfl) (Z8 (RV.tmp rfl) Yr)) rfl), ⟨_, _, _, _, _, _, _, _, rfl, rfl⟩, h75.only [3, 2, 1, 0] rfl⟩
 replace H := Zg c10 H
 refine J.skip (J.seq (J.seq (J.region ?_)))
 refine RJ.q rfl rfl (Zc Za 3 h69.wht rfl rfl rfl rfl rfl) (RJ.q rfl rfl (Zc Za 1 h69.wht rfl rfl rfl rfl rfl) ?_)
 have h76 := h69.addNil 70 (.int .u32)
 have h77 := h76.addNil 9 .str
 have h78 := h77.addNil 49 (.pair .str (.pair .bool .str))
 have h79 := h78.addNil 51 (.pair .str .str)
 obtain ⟨r17, q17, H⟩ := Zj H
 refine RJ.op rfl rfl (Zd [] (Q7.spec q17) rfl rfl rfl h79 rfl (Zr (Gives.of 3 rfl Zl) (Zr (Gives.of 2 rfl Zl) (Zr (Gives.of 1 rfl Zl) (Zr (Gives.of 0 rfl Zl) Zm))))) ?_
 rintro _ w33 ⟨_, ⟨A20, c_20, rfl, rfl⟩, h80⟩
 replace h80 : St w0 F0 [Zf 5 (.int .u8) r17.1 (.slice A20 r17.1.length c_20), Zf 51 (.pair .str .str) ([] : List (List UInt8 × List UInt8)) (.slice none ([] : List (List UInt8 × List UInt8)).length 0), Zf 49 (.pair .str (.pair .bool .str)) ([] : List (List UInt8 × Bool × List UInt8)) (.slice none ([] : List (List UInt8 × Bool × List UInt8)).length 0), Zf 9 .str ([] : List (List UInt8)) (.slice none ([] : List (List UInt8)).length 0), Zf 70 (.int .u32) ([] : List (Int)) (.slice none ([] : List (Int)).length 0), _, _, _, _] _ _ := h80
 refine RJ.run Za 5 rfl (RJ.fin [(1, _), (4, _), (12, _), (13, .slice A20 r17.1.length c_20), (14, .int .i64 r17.2)] rfl ?_)
 have h81 := h80.only [0, 0, 0, 0, 0, 1, 1] rfl
 replace h81 : St w0 F0 [_, _, _, _, _, _, _] _ _ := h81
 refine J.seq (J.region ?_)
 refine RJ.run Za 3 rfl ?_
 rcases Bool.eq_false_or_eq_true (!decide (r17.2 = 0)) with c11 | c11
 ·replace H := Zi c11 H
  refine RJ.know (t := 65) rfl (congrArg Value.bool c11) (RJ.run Za 5 rfl (RJ.fin [(4, _), (12, _), (70, .bool true)] rfl (J.condT rfl (J.seq (J.region ?_)))))
  refine RJ.run Za 1 rfl (RJ.op rfl rfl (Zt Za 6 rfl h81 rfl rfl rfl rfl rfl rfl rfl) ?_)
  intro _ w34 h82
  replace h82 : St w0 F0 [Zh b2 29 [.int .i64 0, .slice none ([] : List (Int)).length 0, .slice none ([] : List (List UInt8)).length 0, .slice none ([] : List (List UInt8 × Bool × List UInt8)).length 0, .slice none ([] : List (List UInt8 × List UInt8)).length 0], _, _, _, _, _, _] _ _ := h82
  refine RJ.run Za 1 rfl (RJ.fin [(4, _), (5, .int .i64 12)] rfl ?_)
  have h83 := h82.only [0, 1, 1, 1, 1] rfl
  replace h83 : St w0 F0 [_, _, _, _, _] _ _ := h83
  refine J.ret ?_
  have h84 := h83.addNil 70 (.int .u32)
  have h85 := h84.addNil 9 .str
  have h86 := h85.addNil 49 (.pair .str (.pair .bool .str))
  have h87 := h86.addNil 51 (.pair .str .str)
  obtain rfl := Option.some.inj H
  exact ⟨_, _, _, (Z6 rfl (Z8 (RV.cell Za 4 h87 rfl rfl rfl rfl) (Z8 (RV.tmp rfl) Yr)) rfl), ⟨_, _, _, _, _, _, _, _, rfl, rfl⟩, h87.only [3, 2, 1, 0] rfl⟩
 replace H := Zg c11 H
 refine RJ.know (t := 65) rfl (congrArg Value.bool c11) (RJ.run Za 2 rfl ?_)
 obtain ⟨r18, q18, H⟩ := Zj H
 refine RJ.op rfl rfl (Zd [] (Q43.spec q18) rfl rfl rfl h81 rfl (Zr (Gives.of 0 rfl Zl) (Zr (Gives.self 13 rfl) Zm))) ?_
 rintro _ w35 ⟨_, ⟨rfl, rfl⟩, h88⟩
 replace h88 : St w0 F0 [_, _, _, _, _, _, _] _ _ := h88
 refine RJ.run Za 2 rfl (RJ.fin [(4, _), (12, _), (70, .bool (!r18))] rfl (J.cond rfl (fun c12 => ?_) (fun c12 => ?_)))
 ·replace H := Zi c12 H
  refine J.seq (J.region ?_)
  refine RJ.run Za 1 rfl (RJ.op rfl rfl (Zt Za 6 rfl h88 rfl rfl rfl rfl rfl rfl rfl) ?_)
  intro _ w36 h89
  replace h89 : St w0 F0 [Zh b2 29 [.int .i64 0, .slice none ([] : List (Int)).length 0, .slice none ([] : List (List UInt8)).length 0, .slice none ([] : List (List UInt8 × Bool × List UInt8)).length 0, .slice none ([] : List (List UInt8 × List UInt8)).length 0], _, _, _, _, _, _] _ _ := h89
  refine RJ.run Za 1 rfl (RJ.fin [(4, _), (5, .int .i64 12)] rfl ?_)
  have h90 := h89.only [0, 1, 1, 1, 1] rfl
  replace h90 : St w0 F0 [_, _, _, _, _] _ _ := h90
  refine J.ret ?_
  have h91 := h90.addNil 70 (.int .u32)
  have h92 := h91.addNil 9 .str
  have h93 := h92.addNil 49 (.pair .str (.pair .bool .str))
  have h94 := h93.addNil 51 (.pair .str .str)
  obtain rfl := Option.some.inj H
  exact ⟨_, _, _, (Z6 rfl (Z8 (RV.cell Za 4 h94 rfl rfl rfl rfl) (Z8 (RV.tmp rfl) Yr)) rfl), ⟨_, _, _, _, _, _, _, _, rfl, rfl⟩, h94.only [3, 2, 1, 0] rfl⟩
 replace H := Zg c12 H
 refine J.skip (J.seq (J.region ?_))
 refine RJ.q rfl rfl (Zc Za 5 h88.wht rfl rfl rfl rfl rfl) (RJ.op rfl rfl (Zt Za 6 rfl h88 rfl rfl rfl rfl rfl rfl rfl) ?_)
 intro _ w37 h95
 replace h95 : St w0 F0 [Zh b2 29 [.int .i64 (-1), .slice none ([] : List (Int)).length 0, .slice none ([] : List (List UInt8)).length 0, .slice none ([] : List (List UInt8 × Bool × List UInt8)).length 0, .slice none ([] : List (List UInt8 × List UInt8)).length 0], _, _, _, _, _, _] _ _ := h95
 refine RJ.run Za 1 rfl (RJ.fin [(4, _), (5, .int .i64 0)] rfl ?_)
 have h96 := h95.only [0, 1, 1, 1, 1] rfl
 replace h96 : St w0 F0 [_, _, _, _, _] _ _ := h96
 refine J.ret ?_
 have h97 := h96.addNil 70 (.int .u32)
 have h98 := h97.addNil 9 .str
 have h99 := h98.addNil 49 (.pair .str (.pair .bool .str))
 have h100 := h99.addNil 51 (.pair .str .str)
 obtain rfl := Option.some.inj H
 exact ⟨_, _, _, (Z6 rfl (Z8 (RV.cell Za 4 h100 rfl rfl rfl rfl) (Z8 (RV.tmp rfl) Yr)) rfl), ⟨_, _, _, _, _, _, _, _, rfl, rfl⟩, h100.only [3, 2, 1, 0] rfl⟩

def Q66.f (k : Nat)  : Option (Bool) := (Q7.f k (9, 200, 8, 8, 16, 16, 2, 1) (0, ([] : List (Int)), ([] : List (List UInt8)), ([] : List (List UInt8 × Bool × List UInt8)), ([(([97] : List UInt8), ([55] : List UInt8))] : List (List UInt8 × List UInt8)))).bind fun r1 => ((Q6.f k (9, 200, 8, 8, 16, 16, 2, 1) r1.1).bind fun r2 => (if (decide (r1.2 = 0)) = true then (if (decide (r2.2 = 0)) = true then (if (decide ((r1.1.length : Int) = 200)) = true then (if (0 : Int) ≤ 15 ∧ 15 ≤ (r1.1.length : Int) then (if (decide ((toS (r1.1.take 15)) = ([1, 0, 0, 1, 0, 0, 0, 0, 1, 0, 1, 97, 0, 55, 0] : List UInt8))) = true then (if (decide ((r2.1.2.2.2.2.length : Int) = 1)) = true then (if 0 < (r2.1.2.2.2.2.length : Int) then (some (decide (((gt r2.1.2.2.2.2 0).2) = ([55] : List UInt8)))) else none) else (some false)) else (some false)) else none) else (some false)) else (some false)) else (some false)))
theorem Q66.spec {k : Nat}   {r : Bool} (H : Q66.f k  = some r) :
  Spec Tryz.prog 8 [] [] [] (fun v l => v = .bool r ∧ l = []) := by
 refine Spec.enter Tryz.func8 rfl (by kernel_rfl) (by kernel_rfl) fun w0 F0 h0 => ?_
 unfold Q66.f at H
 refine J.seq (J.region ?_)
 refine RJ.run Za 1 rfl (RJ.fin [] rfl (J.seq (J.region ?_)))
 refine RJ.run Za 1 rfl (RJ.op rfl rfl (Ye Za rfl rfl h0) ?_)
 rintro _ w1 ⟨b1, rfl, h1⟩
 replace h1 : St w0 F0 [Zh b1 23 [.int .i64 0, .int .i64 0, .int .i64 0, .int .i64 0, .int .i64 0, .int .i64 0, .int .i64 0, .int .i64 0]] _ _ := h1
 refine RJ.op rfl rfl (Zt Za 0 rfl h1 rfl rfl rfl rfl rfl rfl rfl) ?_
 intro _ w2 h2
 replace h2 : St w0 F0 [Zh b1 23 [.int .i64 9, .int .i64 200, .int .i64 8, .int .i64 8, .int .i64 16, .int .i64 16, .int .i64 2, .int .i64 1]] _ _ := h2
 refine RJ.fin [(1, .pointer (some ⟨b1, 0, none⟩))] rfl (J.seq (J.region ?_))
 refine RJ.q rfl rfl (Zc Za 0 h2.wht rfl rfl rfl rfl rfl) (RJ.run Za 1 rfl (RJ.op rfl rfl (Yd Za (.pair .str .str) rfl ([(([97] : List UInt8), ([55] : List UInt8))] : List (List UInt8 × List UInt8)) rfl h2 rfl rfl (by decide) rfl rfl rfl rfl rfl rfl rfl) ?_))
 rintro _ w3 ⟨b2, rfl, h3⟩
 replace h3 : St w0 F0 [Zf 51 (.pair .str .str) ([(([97] : List UInt8), ([55] : List UInt8))] : List (List UInt8 × List UInt8)) (.slice (some ⟨b2, 0, none⟩) ([(([97] : List UInt8), ([55] : List UInt8))] : List (List UInt8 × List UInt8)).length 1), _] _ _ := h3
 refine RJ.run Za 1 rfl ?_
 have h4 := h3.addNil 70 (.int .u32)
 have h5 := h4.addNil 9 .str
 have h6 := h5.addNil 49 (.pair .str (.pair .bool .str))
 obtain ⟨r1, q1, H⟩ := Zj H
 refine RJ.op rfl rfl (Zd [] (Q7.spec q1) rfl rfl rfl h6 rfl (Zr (Gives.of 2 rfl Zl) (Zr (Gives.of 1 rfl Zl) (Zr (Gives.of 0 rfl Zl) (Zr (Gives.of 3 rfl Zl) Zm))))) ?_
 rintro _ w4 ⟨_, ⟨A1, c_1, rfl, rfl⟩, h7⟩
 replace h7 : St w0 F0 [Zf 5 (.int .u8) r1.1 (.slice A1 r1.1.length c_1), Zf 49 (.pair .str (.pair .bool .str)) ([] : List (List UInt8 × Bool × List UInt8)) (.slice none ([] : List (List UInt8 × Bool × List UInt8)).length 0), Zf 9 .str ([] : List (List UInt8)) (.slice none ([] : List (List UInt8)).length 0), Zf 70 (.int .u32) ([] : List (Int)) (.slice none ([] : List (Int)).length 0), _, _] _ _ := h7
 refine RJ.run Za 5 rfl (RJ.fin [(1, _), (2, .slice A1 r1.1.length c_1), (3, .int .i64 r1.2)] rfl ?_)
 have h8 := h7.only [0, 4] rfl
 replace h8 : St w0 F0 [_, _] _ _ := h8
 refine J.seq (J.region ?_)
 refine RJ.q rfl rfl (Zc Za 1 h8.wht rfl rfl rfl rfl rfl) (RJ.run Za 1 rfl ?_)
 obtain ⟨r2, q2, H⟩ := Zj H
 refine RJ.op rfl rfl (Zd [] (Q6.spec q2) rfl rfl rfl h8 rfl (Zr (Gives.of 0 rfl Zl) Zm)) ?_
 rintro _ w5 ⟨_, ⟨A2, c_2, A3, c_3, A4, c_4, A5, c_5, rfl, rfl⟩, h9⟩
 replace h9 : St w0 F0 [Zf 70 (.int .u32) r2.1.2.1 (.slice A2 r2.1.2.1.length c_2), Zf 9 .str r2.1.2.2.1 (.slice A3 r2.1.2.2.1.length c_3), Zf 49 (.pair .str (.pair .bool .str)) r2.1.2.2.2.1 (.slice A4 r2.1.2.2.2.1.length c_4), Zf 51 (.pair .str .str) r2.1.2.2.2.2 (.slice A5 r2.1.2.2.2.2.length c_5), _, _] _ _ := h9
 refine RJ.run Za 3 rfl (RJ.op rfl rfl (Ye Za rfl rfl h9) ?_)
 rintro _ w6 ⟨b3, rfl, h10⟩
 replace h10 : St w0 F0 [Zh b3 29 [.int .i64 0, .slice none ([] : List (Int)).length 0, .slice none ([] : List (List UInt8)).length 0, .slice none ([] : List (List UInt8 × Bool × List UInt8)).length 0, .slice none ([] : List (List UInt8 × List UInt8)).length 0], _, _, _, _, _, _] _ _ := h10
 refine RJ.op rfl rfl (Zt Za 0 rfl h10 rfl rfl rfl rfl rfl rfl rfl) ?_
 intro _ w7 h11
 replace h11 : St w0 F0 [Zh b3 29 [.int .i64 r2.1.1, .slice A2 r2.1.2.1.length c_2, .slice A3 r2.1.2.2.1.length c_3, .slice A4 r2.1.2.2.2.1.length c_4, .slice A5 r2.1.2.2.2.2.length c_5], _, _, _, _, _, _] _ _ := h11
 refine RJ.run Za 1 rfl (RJ.fin [(2, _), (3, _), (4, .pointer (some ⟨b3, 0, none⟩)), (5, .int .i64 r2.2)] rfl (J.seq (J.region ?_)))
 refine RJ.run Za 3 rfl ?_
 rcases Bool.eq_false_or_eq_true (decide (r1.2 = 0)) with c1 | c1
 ·replace H := Zi c1 H
  refine RJ.know (t := 23) rfl (congrArg Value.bool c1) (RJ.run Za 4 rfl ?_)
  rcases Bool.eq_false_or_eq_true (decide (r2.2 = 0)) with c2 | c2
  ·replace H := Zi c2 H
   refine RJ.know (t := 27) rfl (congrArg Value.bool c2) (RJ.run Za 5 rfl ?_)
   rcases Bool.eq_false_or_eq_true (decide ((r1.1.length : Int) = 200)) with c3 | c3
   ·replace H := Zi c3 H
    refine RJ.know (t := 32) rfl (congrArg Value.bool c3) (RJ.run Za 1 rfl ?_)
    obtain ⟨⟨p1, p2⟩, H⟩ := Zo H
    have e1 := h11.cap (Gives.of 5 rfl Zl)
    refine RJ.q rfl rfl (Zaw (h := 15) (sub := (r1.1.take 15)) Za rfl rfl rfl rfl e1 ⟨_, rfl⟩ p1 p2 rfl) (RJ.q rfl rfl (Xz Za h11.wht ((Gives.of 5 rfl Zl).trans (Gn (ty := (.int .u8)) (h := 15) (sub := (r1.1.take 15)) p1 p2 rfl)) rfl rfl rfl rfl rfl) (RJ.run Za 3 rfl ?_))
    rcases Bool.eq_false_or_eq_true (decide ((toS (r1.1.take 15)) = ([1, 0, 0, 1, 0, 0, 0, 0, 1, 0, 1, 97, 0, 55, 0] : List UInt8))) with c4 | c4
    ·replace H := Zi c4 H
     refine RJ.know (t := 38) rfl (congrArg Value.bool c4) (RJ.run Za 1 rfl (RJ.q rfl rfl (Zc Za 0 h11.wht rfl rfl rfl rfl rfl) (RJ.run Za 4 rfl ?_)))
     rcases Bool.eq_false_or_eq_true (decide ((r2.1.2.2.2.2.length : Int) = 1)) with c5 | c5
     ·replace H := Zi c5 H
      refine RJ.know (t := 44) rfl (congrArg Value.bool c5) (RJ.run Za 1 rfl (RJ.q rfl rfl (Zc Za 0 h11.wht rfl rfl rfl rfl rfl) ?_))
      obtain ⟨p3, H⟩ := Zo H
      have e2 := Zy h11.wh (Gives.of 4 rfl Zl) (by decide) p3
      refine RJ.q rfl rfl (Zk Za rfl rfl rfl rfl rfl e2 (by decide) p3) (RJ.run Za 1 rfl (RJ.q rfl rfl (Ze (f := 1) Za rfl h11.wht (Gives.of 4 rfl Zl) (by decide) p3 rfl rfl rfl rfl rfl) (RJ.run Za 3 rfl (RJ.fin [(0, .bool (decide (((gt r2.1.2.2.2.2 0).2) = ([55] : List UInt8))))] rfl ?_))))
      have h12 := h11.only [] rfl
      replace h12 : St w0 F0 [] _ _ := h12
      refine J.ret ?_
      obtain rfl := Option.some.inj H
      exact ⟨_, _, _, (Zb rfl), ⟨rfl, rfl⟩, h12.only [] rfl⟩
     replace H := Zg c5 H
     refine RJ.know (t := 44) rfl (congrArg Value.bool c5) (RJ.run Za 8 rfl (RJ.fin [(0, .bool false)] rfl ?_))
     have h13 := h11.only [] rfl
     replace h13 : St w0 F0 [] _ _ := h13
     refine J.ret ?_
     obtain rfl := Option.some.inj H
     exact ⟨_, _, _, (Zb rfl), ⟨rfl, rfl⟩, h13.only [] rfl⟩
    replace H := Zg c4 H
    refine RJ.know (t := 38) rfl (congrArg Value.bool c4) (RJ.run Za 14 rfl (RJ.fin [(0, .bool false)] rfl ?_))
    have h14 := h11.only [] rfl
    replace h14 : St w0 F0 [] _ _ := h14
    refine J.ret ?_
    obtain rfl := Option.some.inj H
    exact ⟨_, _, _, (Zb rfl), ⟨rfl, rfl⟩, h14.only [] rfl⟩
   replace H := Zg c3 H
   refine RJ.know (t := 32) rfl (congrArg Value.bool c3) (RJ.run Za 20 rfl (RJ.fin [(0, .bool false)] rfl ?_))
   have h15 := h11.only [] rfl
   replace h15 : St w0 F0 [] _ _ := h15
   refine J.ret ?_
   obtain rfl := Option.some.inj H
   exact ⟨_, _, _, (Zb rfl), ⟨rfl, rfl⟩, h15.only [] rfl⟩
  replace H := Zg c2 H
  refine RJ.know (t := 27) rfl (congrArg Value.bool c2) (RJ.run Za 25 rfl (RJ.fin [(0, .bool false)] rfl ?_))
  have h16 := h11.only [] rfl
  replace h16 : St w0 F0 [] _ _ := h16
  refine J.ret ?_
  obtain rfl := Option.some.inj H
  exact ⟨_, _, _, (Zb rfl), ⟨rfl, rfl⟩, h16.only [] rfl⟩
 replace H := Zg c1 H
 refine RJ.know (t := 23) rfl (congrArg Value.bool c1) (RJ.run Za 29 rfl (RJ.fin [(0, .bool false)] rfl ?_))
 have h17 := h11.only [] rfl
 replace h17 : St w0 F0 [] _ _ := h17
 refine J.ret ?_
 obtain rfl := Option.some.inj H
 exact ⟨_, _, _, (Zb rfl), ⟨rfl, rfl⟩, h17.only [] rfl⟩

def Q76.f (a0 : Int) (a1 : Int) (a2 : Int) : Option (Bool) := if (decide (a1 ≤ a0)) = true then (some (decide (a0 ≤ a2))) else (some false)
theorem Q76.spec {a0 : Int} {a1 : Int} {a2 : Int}  {r : Bool} (H : Q76.f a0 a1 a2 = some r) :
  Spec Tryz.prog 46 [.int .i64 a0, .int .i64 a1, .int .i64 a2] [] [] (fun v l => v = .bool r ∧ l = []) := by
 refine Spec.enter Tryz.func46 rfl (by kernel_rfl) (by kernel_rfl) fun w0 F0 h0 => ?_
 unfold Q76.f at H
 refine J.seq (J.region ?_)
 refine RJ.run Za 1 rfl (RJ.fin [(0, .int .i64 a0), (1, .int .i64 a1), (2, .int .i64 a2)] rfl (J.seq (J.region ?_)))
 refine RJ.run Za 4 rfl ?_
 rcases Bool.eq_false_or_eq_true (decide (a1 ≤ a0)) with c1 | c1
 ·replace H := Zi c1 H
  refine RJ.know (t := 10) rfl (congrArg Value.bool c1) (RJ.run Za 5 rfl (RJ.fin [(6, .bool (decide (a0 ≤ a2)))] rfl (J.ret ?_)))
  obtain rfl := Option.some.inj H
  exact ⟨_, _, _, (Zb rfl), ⟨rfl, rfl⟩, h0.only [] rfl⟩
 replace H := Zg c1 H
 refine RJ.know (t := 10) rfl (congrArg Value.bool c1) (RJ.run Za 5 rfl (RJ.fin [(6, .bool false)] rfl (J.ret ?_)))
 obtain rfl := Option.some.inj H
 exact ⟨_, _, _, (Zb rfl), ⟨rfl, rfl⟩, h0.only [] rfl⟩

def Q75.f (a0 : Int × Int × Int × Int × Int × Int × Int × Int) : Option (Bool) := (Q76.f a0.2.2.2.1 8 64).bind fun r1 => (if (!r1) = true then (some false) else ((Q76.f a0.2.2.2.2.2.2.1 1 64).bind fun r2 => (if (!r2) = true then (some false) else ((Q76.f a0.2.2.2.2.2.2.2 0 256).bind fun r3 => (if (!r3) = true then (some false) else ((Q76.f a0.2.2.2.2.1 (w64 (2 * a0.2.2.2.1)) 512).bind fun r4 => (if r4 = true then ((Q76.f a0.2.2.2.2.2.1 a0.2.2.2.2.1 1024).bind fun r5 => (some r5)) else (some false))))))))
theorem Q75.spec {a0 : Int × Int × Int × Int × Int × Int × Int × Int}  {r : Bool} (H : Q75.f a0 = some r) :
  Spec Tryz.prog 45 [.agg #[.int .i64 a0.1, .int .i64 a0.2.1, .int .i64 a0.2.2.1, .int .i64 a0.2.2.2.1, .int .i64 a0.2.2.2.2.1, .int .i64 a0.2.2.2.2.2.1, .int .i64 a0.2.2.2.2.2.2.1, .int .i64 a0.2.2.2.2.2.2.2]] [] [] (fun v l => v = .bool r ∧ l = []) := by
 refine Spec.enter Tryz.func45 rfl (by kernel_rfl) (by kernel_rfl) fun w0 F0 h0 => ?_
 unfold Q75.f at H
 refine J.seq (J.region ?_)
 refine RJ.op rfl rfl (Z2 rfl rfl h0) ?_
 rintro _ w1 ⟨b1, rfl, h1⟩
 replace h1 : St w0 F0 [Zh b1 23 [.int .i64 a0.1, .int .i64 a0.2.1, .int .i64 a0.2.2.1, .int .i64 a0.2.2.2.1, .int .i64 a0.2.2.2.2.1, .int .i64 a0.2.2.2.2.2.1, .int .i64 a0.2.2.2.2.2.2.1, .int .i64 a0.2.2.2.2.2.2.2]] _ _ := h1
 refine RJ.run Za 1 rfl (RJ.fin [(1, .pointer (some ⟨b1, 0, none⟩))] rfl (J.seq (J.seq (J.region ?_))))
 refine RJ.run Za 1 rfl (RJ.q rfl rfl (Zc Za 0 h1.wht rfl rfl rfl rfl rfl) ?_)
 obtain ⟨r1, q1, H⟩ := Zj H
 refine RJ.op rfl rfl (Zd [] (Q76.spec q1) rfl rfl rfl h1 rfl Zm) ?_
 rintro _ w2 ⟨_, ⟨rfl, rfl⟩, h2⟩
 replace h2 : St w0 F0 [_] _ _ := h2
 refine RJ.run Za 2 rfl ?_
 rcases Bool.eq_false_or_eq_true (!r1) with c1 | c1
 ·replace H := Zi c1 H
  refine RJ.know (t := 7) rfl (congrArg Value.bool c1) (RJ.run Za 11 rfl (RJ.fin [(1, _), (18, .bool true)] rfl (J.condT rfl (J.seq (J.region ?_)))))
  refine RJ.run Za 1 rfl (RJ.fin [(2, .bool false)] rfl (J.ret ?_))
  obtain rfl := Option.some.inj H
  exact ⟨_, _, _, (Zb rfl), ⟨rfl, rfl⟩, h2.only [] rfl⟩
 replace H := Zg c1 H
 refine RJ.know (t := 7) rfl (congrArg Value.bool c1) (RJ.run Za 1 rfl (RJ.q rfl rfl (Zc Za 0 h2.wht rfl rfl rfl rfl rfl) ?_))
 obtain ⟨r2, q2, H⟩ := Zj H
 refine RJ.op rfl rfl (Zd [] (Q76.spec q2) rfl rfl rfl h2 rfl Zm) ?_
 rintro _ w3 ⟨_, ⟨rfl, rfl⟩, h3⟩
 replace h3 : St w0 F0 [_] _ _ := h3
 refine RJ.run Za 3 rfl ?_
 rcases Bool.eq_false_or_eq_true (!r2) with c2 | c2
 ·replace H := Zi c2 H
  refine RJ.know (t := 13) rfl (congrArg Value.bool c2) (RJ.run Za 5 rfl (RJ.fin [(1, _), (18, .bool true)] rfl (J.condT rfl (J.seq (J.region ?_)))))
  refine RJ.run Za 1 rfl (RJ.fin [(2, .bool false)] rfl (J.ret ?_))
  obtain rfl := Option.some.inj H
  exact ⟨_, _, _, (Zb rfl), ⟨rfl, rfl⟩, h3.only [] rfl⟩
 replace H := Zg c2 H
 refine RJ.know (t := 13) rfl (congrArg Value.bool c2) (RJ.run Za 1 rfl (RJ.q rfl rfl (Zc Za 0 h3.wht rfl rfl rfl rfl rfl) ?_))
 obtain ⟨r3, q3, H⟩ := Zj H
 refine RJ.op rfl rfl (Zd [] (Q76.spec q3) rfl rfl rfl h3 rfl Zm) ?_
 rintro _ w4 ⟨_, ⟨rfl, rfl⟩, h4⟩
 replace h4 : St w0 F0 [_] _ _ := h4
 refine RJ.run Za 2 rfl (RJ.fin [(1, _), (18, .bool (!r3))] rfl (J.cond rfl (fun c3 => ?_) (fun c3 => ?_)))
 ·replace H := Zi c3 H
  refine J.seq (J.region ?_)
  refine RJ.run Za 1 rfl (RJ.fin [(2, .bool false)] rfl (J.ret ?_))
  obtain rfl := Option.some.inj H
  exact ⟨_, _, _, (Zb rfl), ⟨rfl, rfl⟩, h4.only [] rfl⟩
 replace H := Zg c3 H
 refine J.skip (J.seq (J.region ?_))
 refine RJ.run Za 1 rfl (RJ.q rfl rfl (Zc Za 0 h4.wht rfl rfl rfl rfl rfl) (RJ.run Za 1 rfl (RJ.q rfl rfl (Zc Za 0 h4.wht rfl rfl rfl rfl rfl) (RJ.run Za 1 rfl ?_))))
 obtain ⟨r4, q4, H⟩ := Zj H
 refine RJ.op rfl rfl (Zd [] (Q76.spec q4) rfl rfl rfl h4 rfl Zm) ?_
 rintro _ w5 ⟨_, ⟨rfl, rfl⟩, h5⟩
 replace h5 : St w0 F0 [_] _ _ := h5
 refine RJ.run Za 1 rfl ?_
 rcases Bool.eq_false_or_eq_true r4 with c4 | c4
 ·replace H := Zi c4 H
  refine RJ.know (t := 25) rfl (congrArg Value.bool c4) (RJ.run Za 1 rfl (RJ.q rfl rfl (Zc Za 0 h5.wht rfl rfl rfl rfl rfl) (RJ.run Za 1 rfl (RJ.q rfl rfl (Zc Za 0 h5.wht rfl rfl rfl rfl rfl) ?_))))
  obtain ⟨r5, q5, H⟩ := Zj H
  refine RJ.op rfl rfl (Zd [] (Q76.spec q5) rfl rfl rfl h5 rfl Zm) ?_
  rintro _ w6 ⟨_, ⟨rfl, rfl⟩, h6⟩
  replace h6 : St w0 F0 [_] _ _ := h6
  refine RJ.run Za 2 rfl (RJ.fin [(2, .bool r5)] rfl (J.ret ?_))
  obtain rfl := Option.some.inj H
  exact ⟨_, _, _, (Zb rfl), ⟨rfl, rfl⟩, h6.only [] rfl⟩
 replace H := Zg c4 H
 refine RJ.know (t := 25) rfl (congrArg Value.bool c4) (RJ.run Za 7 rfl (RJ.fin [(2, .bool false)] rfl (J.ret ?_)))
 obtain rfl := Option.some.inj H
 exact ⟨_, _, _, (Zb rfl), ⟨rfl, rfl⟩, h5.only [] rfl⟩

end Go.SK.T
