/- The functions, further. -/
import Derived.Test.YtoohimccifdbeaaXCodeApartF2
set_option linter.unusedVariables false
set_option linter.unusedSimpArgs false
namespace Go.SK.T
open Go Go.SK Go.Proofs
/-! sluicegate/sluicegatelaw13.Great -/
def sluicegatelaw13_Great.l2 : Nat → (Int × List (Int) × List (List UInt8) × (List (List UInt8 × Bool × List UInt8)) × (List (List UInt8 × List UInt8))) → (Int) → Option (Bool)
  | 0, _, _ => none
  | k + 1, a0, x3 => if (decide (x3 < (a0.2.2.2.2.length : Int))) = true then (if 0 ≤ x3 ∧ x3 < (a0.2.2.2.2.length : Int) then (if (decide (200 < (((gt a0.2.2.2.2 x3).1).length : Int))) = true then (some true) else (sluicegatelaw13_Great.l2 k a0 (w64 (x3 + 1)))) else none) else (some false)
def sluicegatelaw13_Great.l1 : Nat → (Int × List (Int) × List (List UInt8) × (List (List UInt8 × Bool × List UInt8)) × (List (List UInt8 × List UInt8))) → (Int) → Option (Bool)
  | 0, _, _ => none
  | k + 1, a0, x2 => if (decide (x2 < (a0.2.2.2.1.length : Int))) = true then (if 0 ≤ x2 ∧ x2 < (a0.2.2.2.1.length : Int) then (if (decide (200 < (((gt a0.2.2.2.1 x2).1).length : Int))) = true then (some true) else (sluicegatelaw13_Great.l1 k a0 (w64 (x2 + 1)))) else none) else (sluicegatelaw13_Great.l2 k a0 0)
def sluicegatelaw13_Great.l0 : Nat → (Int × List (Int) × List (List UInt8) × (List (List UInt8 × Bool × List UInt8)) × (List (List UInt8 × List UInt8))) → (Int) → Option (Bool)
  | 0, _, _ => none
  | k + 1, a0, x1 => if (decide (x1 < (a0.2.2.1.length : Int))) = true then (if 0 ≤ x1 ∧ x1 < (a0.2.2.1.length : Int) then (if (decide (200 < ((gt a0.2.2.1 x1).length : Int))) = true then (some true) else (sluicegatelaw13_Great.l0 k a0 (w64 (x1 + 1)))) else none) else (sluicegatelaw13_Great.l1 k a0 0)
def sluicegatelaw13_Great.f (k : Nat) (a0 : Int × List (Int) × List (List UInt8) × (List (List UInt8 × Bool × List UInt8)) × (List (List UInt8 × List UInt8))) : Option (Bool) := if (decide (80 < (a0.2.1.length : Int))) = true then (some true) else (if (decide (80 < (a0.2.2.1.length : Int))) = true then (some true) else (if (decide (150 < (a0.2.2.2.1.length : Int))) = true then (some true) else (if (decide (150 < (a0.2.2.2.2.length : Int))) = true then (some true) else (sluicegatelaw13_Great.l0 k a0 0))))
set_option maxRecDepth 20000 in
set_option maxHeartbeats 40000000 in
theorem sluicegatelaw13_Great.spec {k : Nat} {a0 : Int × List (Int) × List (List UInt8) × (List (List UInt8 × Bool × List UInt8)) × (List (List UInt8 × List UInt8))} {A1 : Option Addr} {c_1 : Nat} {A2 : Option Addr} {c_2 : Nat} {A3 : Option Addr} {c_3 : Nat} {A4 : Option Addr} {c_4 : Nat} {r : Bool} (H : sluicegatelaw13_Great.f k a0 = some r) :
    Spec Try.prog 5 [.agg #[.int .i64 a0.1, .slice A1 a0.2.1.length c_1, .slice A2 a0.2.2.1.length c_2, .slice A3 a0.2.2.2.1.length c_3, .slice A4 a0.2.2.2.2.length c_4]] [] [rdC 67 (.int .u32) a0.2.1 (.slice A1 a0.2.1.length c_1), rdC 9 .str a0.2.2.1 (.slice A2 a0.2.2.1.length c_2), rdC 40 (.pair .str (.pair .bool .str)) a0.2.2.2.1 (.slice A3 a0.2.2.2.1.length c_3), rdC 42 (.pair .str .str) a0.2.2.2.2 (.slice A4 a0.2.2.2.2.length c_4)] (fun v l => v = .bool r ∧ l = []) := by
  refine Spec.enter Try.func5 rfl (by kernel_rfl) (by kernel_rfl) fun w0 F0 h0 => ?_
  unfold sluicegatelaw13_Great.f at H
  refine J.seq (J.region ?_)
  refine RJ.op rfl rfl (op_box rfl rfl h0) ?_
  rintro _ w1 ⟨b1, rfl, h1⟩
  replace h1 : St w0 F0 [boxC b1 29 [.int .i64 a0.1, .slice A1 a0.2.1.length c_1, .slice A2 a0.2.2.1.length c_2, .slice A3 a0.2.2.2.1.length c_3, .slice A4 a0.2.2.2.2.length c_4]] _ _ := h1
  refine RJ.run ttok 1 rfl ?_
  refine RJ.fin [(1, .pointer (some ⟨b1, 0, none⟩))] rfl ?_
  refine J.seq (J.seq (J.region ?_))
  refine RJ.run ttok 1 rfl ?_
  refine RJ.q rfl rfl (q_load_box ttok 0 h1.wht rfl rfl rfl rfl rfl) ?_
  refine RJ.run ttok 3 rfl ?_
  rcases Bool.eq_false_or_eq_true (decide (80 < (a0.2.1.length : Int))) with c1 | c1
  · replace H := ite_t c1 H
    refine RJ.know (t := 10) rfl (congrArg Value.bool c1) ?_
    refine RJ.run ttok 17 rfl ?_
    refine RJ.fin [(1, _), (27, .bool true)] rfl ?_
    refine J.condT rfl ?_
    refine J.seq (J.region ?_)
    refine RJ.run ttok 1 rfl ?_
    refine RJ.fin [(2, .bool true)] rfl ?_
    refine J.ret ?_
    obtain rfl := Option.some.inj H
    exact ⟨_, _, _, (results_slots rfl), ⟨rfl, rfl⟩, h1.only [] rfl⟩
  replace H := ite_f c1 H
  refine RJ.know (t := 10) rfl (congrArg Value.bool c1) ?_
  refine RJ.run ttok 1 rfl ?_
  refine RJ.q rfl rfl (q_load_box ttok 0 h1.wht rfl rfl rfl rfl rfl) ?_
  refine RJ.run ttok 4 rfl ?_
  rcases Bool.eq_false_or_eq_true (decide (80 < (a0.2.2.1.length : Int))) with c2 | c2
  · replace H := ite_t c2 H
    refine RJ.know (t := 16) rfl (congrArg Value.bool c2) ?_
    refine RJ.run ttok 11 rfl ?_
    refine RJ.fin [(1, _), (27, .bool true)] rfl ?_
    refine J.condT rfl ?_
    refine J.seq (J.region ?_)
    refine RJ.run ttok 1 rfl ?_
    refine RJ.fin [(2, .bool true)] rfl ?_
    refine J.ret ?_
    obtain rfl := Option.some.inj H
    exact ⟨_, _, _, (results_slots rfl), ⟨rfl, rfl⟩, h1.only [] rfl⟩
  replace H := ite_f c2 H
  refine RJ.know (t := 16) rfl (congrArg Value.bool c2) ?_
  refine RJ.run ttok 1 rfl ?_
  refine RJ.q rfl rfl (q_load_box ttok 0 h1.wht rfl rfl rfl rfl rfl) ?_
  refine RJ.run ttok 4 rfl ?_
  rcases Bool.eq_false_or_eq_true (decide (150 < (a0.2.2.2.1.length : Int))) with c3 | c3
  · replace H := ite_t c3 H
    refine RJ.know (t := 22) rfl (congrArg Value.bool c3) ?_
    refine RJ.run ttok 5 rfl ?_
    refine RJ.fin [(1, _), (27, .bool true)] rfl ?_
    refine J.condT rfl ?_
    refine J.seq (J.region ?_)
    refine RJ.run ttok 1 rfl ?_
    refine RJ.fin [(2, .bool true)] rfl ?_
    refine J.ret ?_
    obtain rfl := Option.some.inj H
    exact ⟨_, _, _, (results_slots rfl), ⟨rfl, rfl⟩, h1.only [] rfl⟩
  replace H := ite_f c3 H
  refine RJ.know (t := 22) rfl (congrArg Value.bool c3) ?_
  refine RJ.run ttok 1 rfl ?_
  refine RJ.q rfl rfl (q_load_box ttok 0 h1.wht rfl rfl rfl rfl rfl) ?_
  refine RJ.run ttok 3 rfl ?_
  refine RJ.fin [(1, _), (27, .bool (decide (150 < (a0.2.2.2.2.length : Int))))] rfl ?_
  refine J.cond rfl (fun c4 => ?_) (fun c4 => ?_)
  · replace H := ite_t c4 H
    refine J.seq (J.region ?_)
    refine RJ.run ttok 1 rfl ?_
    refine RJ.fin [(2, .bool true)] rfl ?_
    refine J.ret ?_
    obtain rfl := Option.some.inj H
    exact ⟨_, _, _, (results_slots rfl), ⟨rfl, rfl⟩, h1.only [] rfl⟩
  replace H := ite_f c4 H
  refine J.skip ?_
  refine J.seq (J.seq (J.region ?_))
  refine RJ.run ttok 1 rfl ?_
  refine RJ.fin [(1, _), (3, .int .i64 0)] rfl ?_
  refine J.block ?_
  have h10 := ((h1.only [0] rfl).rds [0, 1, 2, 3] rfl)
  refine J.loop (fun kk env w => ∃ (x1 : Int), env = [(1, .pointer (some ⟨b1, 0, none⟩)), (3, .int .i64 x1)] ∧ St w0 F0 [boxC b1 29 [.int .i64 a0.1, .slice A1 a0.2.1.length c_1, .slice A2 a0.2.2.1.length c_2, .slice A3 a0.2.2.2.1.length c_3, .slice A4 a0.2.2.2.2.length c_4]] [rdC 67 (.int .u32) a0.2.1 (.slice A1 a0.2.1.length c_1), rdC 9 .str a0.2.2.1 (.slice A2 a0.2.2.1.length c_2), rdC 40 (.pair .str (.pair .bool .str)) a0.2.2.2.1 (.slice A3 a0.2.2.2.1.length c_3), rdC 42 (.pair .str .str) a0.2.2.2.2 (.slice A4 a0.2.2.2.2.length c_4)] w ∧ sluicegatelaw13_Great.l0 kk a0 x1 = some r) (k := k) ⟨0, rfl, h10, H⟩ ?_
  rintro k1 env w2 ⟨x1, rfl, h2, H⟩
  cases k1 with
  | zero => exact nomatch (show none = some r from H)
  | succ k1 =>
    rw [sluicegatelaw13_Great.l0] at H
    refine J.seq (J.seq (J.region ?_))
    refine RJ.run ttok 2 rfl ?_
    refine RJ.q rfl rfl (q_load_box ttok 0 h2.wht rfl rfl rfl rfl rfl) ?_
    refine RJ.run ttok 2 rfl ?_
    refine RJ.fin [(1, _), (3, _), (32, .bool (decide (x1 < (a0.2.2.1.length : Int))))] rfl ?_
    refine J.cond rfl (fun c5 => ?_) (fun c5 => ?_)
    · replace H := ite_t c5 H
      refine J.skip ?_
      refine J.seq (J.block (J.seq (J.region ?_)))
      refine RJ.run ttok 1 rfl ?_
      refine RJ.q rfl rfl (q_load_box ttok 0 h2.wht rfl rfl rfl rfl rfl) ?_
      refine RJ.run ttok 1 rfl ?_
      obtain ⟨⟨p1, p2⟩, H⟩ := guard_t H
      have e1 := elem_A h2.wh (Gives.self 2 rfl) p1 p2
      refine RJ.q rfl rfl (q_index ttok rfl rfl rfl rfl rfl e1 p1 p2) ?_
      refine RJ.q rfl rfl (q_load_elem (f := 0) ttok rfl h2.wht (Gives.self 2 rfl) p1 p2 rfl rfl rfl rfl rfl) ?_
      refine RJ.run ttok 2 rfl ?_
      refine RJ.fin [(1, _), (3, _), (41, .bool (decide (200 < ((gt a0.2.2.1 x1).length : Int))))] rfl ?_
      refine J.cond rfl (fun c6 => ?_) (fun c6 => ?_)
      · replace H := ite_t c6 H
        refine J.seq (J.region ?_)
        refine RJ.run ttok 1 rfl ?_
        refine RJ.fin [(2, .bool true)] rfl ?_
        refine J.ret ?_
        obtain rfl := Option.some.inj H
        exact ⟨_, _, _, (results_slots rfl), ⟨rfl, rfl⟩, h2.only [] rfl⟩
      replace H := ite_f c6 H
      refine J.skip ?_
      refine J.region ?_
      refine RJ.run ttok 3 rfl ?_
      refine RJ.fin [(1, _), (3, .int .i64 (w64 (x1 + 1)))] rfl ?_
      have h3 := ((h2.only [0] rfl).rds [0, 1, 2, 3] rfl)
      exact ⟨k1, by omega, (w64 (x1 + 1)), rfl, h3, H⟩
    replace H := ite_f c5 H
    refine J.exit ?_
    refine J.seq (J.seq (J.region ?_))
    refine RJ.run ttok 1 rfl ?_
    refine RJ.fin [(1, _), (4, .int .i64 0)] rfl ?_
    refine J.block ?_
    have h9 := ((h2.only [0] rfl).rds [0, 1, 2, 3] rfl)
    refine J.loop (fun kk env w => ∃ (x2 : Int), env = [(1, .pointer (some ⟨b1, 0, none⟩)), (4, .int .i64 x2)] ∧ St w0 F0 [boxC b1 29 [.int .i64 a0.1, .slice A1 a0.2.1.length c_1, .slice A2 a0.2.2.1.length c_2, .slice A3 a0.2.2.2.1.length c_3, .slice A4 a0.2.2.2.2.length c_4]] [rdC 67 (.int .u32) a0.2.1 (.slice A1 a0.2.1.length c_1), rdC 9 .str a0.2.2.1 (.slice A2 a0.2.2.1.length c_2), rdC 40 (.pair .str (.pair .bool .str)) a0.2.2.2.1 (.slice A3 a0.2.2.2.1.length c_3), rdC 42 (.pair .str .str) a0.2.2.2.2 (.slice A4 a0.2.2.2.2.length c_4)] w ∧ sluicegatelaw13_Great.l1 kk a0 x2 = some r) (k := k1) ⟨0, rfl, h9, H⟩ ?_
    rintro k2 env w3 ⟨x2, rfl, h4, H⟩
    cases k2 with
    | zero => exact nomatch (show none = some r from H)
    | succ k2 =>
      rw [sluicegatelaw13_Great.l1] at H
      refine J.seq (J.seq (J.region ?_))
      refine RJ.run ttok 2 rfl ?_
      refine RJ.q rfl rfl (q_load_box ttok 0 h4.wht rfl rfl rfl rfl rfl) ?_
      refine RJ.run ttok 2 rfl ?_
      refine RJ.fin [(1, _), (4, _), (46, .bool (decide (x2 < (a0.2.2.2.1.length : Int))))] rfl ?_
      refine J.cond rfl (fun c7 => ?_) (fun c7 => ?_)
      · replace H := ite_t c7 H
        refine J.skip ?_
        refine J.seq (J.block (J.seq (J.region ?_)))
        refine RJ.run ttok 1 rfl ?_
        refine RJ.q rfl rfl (q_load_box ttok 0 h4.wht rfl rfl rfl rfl rfl) ?_
        refine RJ.run ttok 1 rfl ?_
        obtain ⟨⟨p3, p4⟩, H⟩ := guard_t H
        have e2 := elem_A h4.wh (Gives.self 3 rfl) p3 p4
        refine RJ.q rfl rfl (q_index ttok rfl rfl rfl rfl rfl e2 p3 p4) ?_
        refine RJ.run ttok 1 rfl ?_
        refine RJ.q rfl rfl (q_load_elem (f := 0) ttok rfl h4.wht (Gives.self 3 rfl) p3 p4 rfl rfl rfl rfl rfl) ?_
        refine RJ.run ttok 2 rfl ?_
        refine RJ.fin [(1, _), (4, _), (56, .bool (decide (200 < (((gt a0.2.2.2.1 x2).1).length : Int))))] rfl ?_
        refine J.cond rfl (fun c8 => ?_) (fun c8 => ?_)
        · replace H := ite_t c8 H
          refine J.seq (J.region ?_)
          refine RJ.run ttok 1 rfl ?_
          refine RJ.fin [(2, .bool true)] rfl ?_
          refine J.ret ?_
          obtain rfl := Option.some.inj H
          exact ⟨_, _, _, (results_slots rfl), ⟨rfl, rfl⟩, h4.only [] rfl⟩
        replace H := ite_f c8 H
        refine J.skip ?_
        refine J.region ?_
        refine RJ.run ttok 3 rfl ?_
        refine RJ.fin [(1, _), (4, .int .i64 (w64 (x2 + 1)))] rfl ?_
        have h5 := ((h4.only [0] rfl).rds [0, 1, 2, 3] rfl)
        exact ⟨k2, by omega, (w64 (x2 + 1)), rfl, h5, H⟩
      replace H := ite_f c7 H
      refine J.exit ?_
      refine J.seq (J.seq (J.region ?_))
      refine RJ.run ttok 1 rfl ?_
      refine RJ.fin [(1, _), (5, .int .i64 0)] rfl ?_
      refine J.block ?_
      have h8 := ((h4.only [0] rfl).rds [0, 1, 2, 3] rfl)
      refine J.loop (fun kk env w => ∃ (x3 : Int), env = [(1, .pointer (some ⟨b1, 0, none⟩)), (5, .int .i64 x3)] ∧ St w0 F0 [boxC b1 29 [.int .i64 a0.1, .slice A1 a0.2.1.length c_1, .slice A2 a0.2.2.1.length c_2, .slice A3 a0.2.2.2.1.length c_3, .slice A4 a0.2.2.2.2.length c_4]] [rdC 67 (.int .u32) a0.2.1 (.slice A1 a0.2.1.length c_1), rdC 9 .str a0.2.2.1 (.slice A2 a0.2.2.1.length c_2), rdC 40 (.pair .str (.pair .bool .str)) a0.2.2.2.1 (.slice A3 a0.2.2.2.1.length c_3), rdC 42 (.pair .str .str) a0.2.2.2.2 (.slice A4 a0.2.2.2.2.length c_4)] w ∧ sluicegatelaw13_Great.l2 kk a0 x3 = some r) (k := k2) ⟨0, rfl, h8, H⟩ ?_
      rintro k3 env w4 ⟨x3, rfl, h6, H⟩
      cases k3 with
      | zero => exact nomatch (show none = some r from H)
      | succ k3 =>
        rw [sluicegatelaw13_Great.l2] at H
        refine J.seq (J.seq (J.region ?_))
        refine RJ.run ttok 2 rfl ?_
        refine RJ.q rfl rfl (q_load_box ttok 0 h6.wht rfl rfl rfl rfl rfl) ?_
        refine RJ.run ttok 2 rfl ?_
        refine RJ.fin [(1, _), (5, _), (61, .bool (decide (x3 < (a0.2.2.2.2.length : Int))))] rfl ?_
        refine J.cond rfl (fun c9 => ?_) (fun c9 => ?_)
        · replace H := ite_t c9 H
          refine J.skip ?_
          refine J.seq (J.block (J.seq (J.region ?_)))
          refine RJ.run ttok 1 rfl ?_
          refine RJ.q rfl rfl (q_load_box ttok 0 h6.wht rfl rfl rfl rfl rfl) ?_
          refine RJ.run ttok 1 rfl ?_
          obtain ⟨⟨p5, p6⟩, H⟩ := guard_t H
          have e3 := elem_A h6.wh (Gives.self 4 rfl) p5 p6
          refine RJ.q rfl rfl (q_index ttok rfl rfl rfl rfl rfl e3 p5 p6) ?_
          refine RJ.run ttok 1 rfl ?_
          refine RJ.q rfl rfl (q_load_elem (f := 0) ttok rfl h6.wht (Gives.self 4 rfl) p5 p6 rfl rfl rfl rfl rfl) ?_
          refine RJ.run ttok 2 rfl ?_
          refine RJ.fin [(1, _), (5, _), (71, .bool (decide (200 < (((gt a0.2.2.2.2 x3).1).length : Int))))] rfl ?_
          refine J.cond rfl (fun c10 => ?_) (fun c10 => ?_)
          · replace H := ite_t c10 H
            refine J.seq (J.region ?_)
            refine RJ.run ttok 1 rfl ?_
            refine RJ.fin [(2, .bool true)] rfl ?_
            refine J.ret ?_
            obtain rfl := Option.some.inj H
            exact ⟨_, _, _, (results_slots rfl), ⟨rfl, rfl⟩, h6.only [] rfl⟩
          replace H := ite_f c10 H
          refine J.skip ?_
          refine J.region ?_
          refine RJ.run ttok 3 rfl ?_
          refine RJ.fin [(1, _), (5, .int .i64 (w64 (x3 + 1)))] rfl ?_
          have h7 := ((h6.only [0] rfl).rds [0, 1, 2, 3] rfl)
          exact ⟨k3, by omega, (w64 (x3 + 1)), rfl, h7, H⟩
        replace H := ite_f c9 H
        refine J.exit ?_
        refine J.seq (J.region ?_)
        refine RJ.run ttok 1 rfl ?_
        refine RJ.fin [(2, .bool false)] rfl ?_
        refine J.ret ?_
        obtain rfl := Option.some.inj H
        exact ⟨_, _, _, (results_slots rfl), ⟨rfl, rfl⟩, h6.only [] rfl⟩

/-! sluicegate/sluicegateref13.Blocks -/
def sluicegateref13_Blocks.l0 : Nat → (List (Int)) → (List (Int)) → (Int) → Option (Bool)
  | 0, _, _, _ => none
  | k + 1, a0, a1, x1 => if (decide (x1 < (a0.length : Int))) = true then (if 0 ≤ x1 ∧ x1 < (a0.length : Int) then (if 0 ≤ x1 ∧ x1 < (a1.length : Int) then (if (!decide ((gt a0 x1) = (gt a1 x1))) = true then (some false) else (sluicegateref13_Blocks.l0 k a0 a1 (w64 (x1 + 1)))) else none) else none) else (some true)
def sluicegateref13_Blocks.f (k : Nat) (a0 : List (Int)) (a1 : List (Int)) : Option (Bool) := if (!decide ((a0.length : Int) = (a1.length : Int))) = true then (some false) else (sluicegateref13_Blocks.l0 k a0 a1 0)
set_option maxRecDepth 20000 in
set_option maxHeartbeats 40000000 in
theorem sluicegateref13_Blocks.spec {k : Nat} {a0 : List (Int)} {a1 : List (Int)} {A1 : Option Addr} {c_1 : Nat} {A2 : Option Addr} {c_2 : Nat} {r : Bool} (H : sluicegateref13_Blocks.f k a0 a1 = some r) :
    Spec Try.prog 15 [.slice A1 a0.length c_1, .slice A2 a1.length c_2] [] [rdC 67 (.int .u32) a0 (.slice A1 a0.length c_1), rdC 67 (.int .u32) a1 (.slice A2 a1.length c_2)] (fun v l => v = .bool r ∧ l = []) := by
  refine Spec.enter Try.func15 rfl (by kernel_rfl) (by kernel_rfl) fun w0 F0 h0 => ?_
  unfold sluicegateref13_Blocks.f at H
  refine J.seq (J.region ?_)
  refine RJ.run ttok 1 rfl ?_
  refine RJ.fin [(0, .slice A1 a0.length c_1), (1, .slice A2 a1.length c_2)] rfl ?_
  refine J.seq (J.seq (J.region ?_))
  refine RJ.run ttok 5 rfl ?_
  refine RJ.fin [(0, _), (1, _), (10, .bool (!decide ((a0.length : Int) = (a1.length : Int))))] rfl ?_
  refine J.cond rfl (fun c1 => ?_) (fun c1 => ?_)
  · replace H := ite_t c1 H
    refine J.seq (J.region ?_)
    refine RJ.run ttok 1 rfl ?_
    refine RJ.fin [(4, .bool false)] rfl ?_
    refine J.ret ?_
    obtain rfl := Option.some.inj H
    exact ⟨_, _, _, (results_slots rfl), ⟨rfl, rfl⟩, h0.only [] rfl⟩
  replace H := ite_f c1 H
  refine J.skip ?_
  refine J.seq (J.seq (J.region ?_))
  refine RJ.run ttok 1 rfl ?_
  refine RJ.fin [(0, _), (1, _), (5, .int .i64 0)] rfl ?_
  refine J.block ?_
  have h4 := ((h0.only [] rfl).rds [0, 1] rfl)
  refine J.loop (fun kk env w => ∃ (x1 : Int), env = [(0, .slice A1 a0.length c_1), (1, .slice A2 a1.length c_2), (5, .int .i64 x1)] ∧ St w0 F0 [] [rdC 67 (.int .u32) a0 (.slice A1 a0.length c_1), rdC 67 (.int .u32) a1 (.slice A2 a1.length c_2)] w ∧ sluicegateref13_Blocks.l0 kk a0 a1 x1 = some r) (k := k) ⟨0, rfl, h4, H⟩ ?_
  rintro k1 env w1 ⟨x1, rfl, h1, H⟩
  cases k1 with
  | zero => exact nomatch (show none = some r from H)
  | succ k1 =>
    rw [sluicegateref13_Blocks.l0] at H
    refine J.seq (J.seq (J.region ?_))
    refine RJ.run ttok 4 rfl ?_
    refine RJ.fin [(0, _), (1, _), (5, _), (14, .bool (decide (x1 < (a0.length : Int))))] rfl ?_
    refine J.cond rfl (fun c2 => ?_) (fun c2 => ?_)
    · replace H := ite_t c2 H
      refine J.skip ?_
      refine J.seq (J.block (J.seq ?_))
      refine J.heldSt mix h1 ?_
      have h2 := h1.drew
      refine HJ.run ttok rfl [0, 1, 4, 5] rfl ?_
      obtain ⟨⟨p1, p2⟩, H⟩ := guard_t H
      have e1 := elem_A h2.wh (Gives.self 0 rfl) p1 p2
      refine HJ.q (i := 2) rfl rfl rfl rfl rfl rfl (q_index ttok rfl rfl rfl rfl rfl e1 p1 p2) ?_
      refine HJ.q (i := 3) rfl rfl rfl rfl rfl rfl (q_load_elem (f := 0) ttok rfl (fun w e => e) (Gives.self 0 rfl) p1 p2 rfl rfl rfl rfl rfl) ?_
      obtain ⟨⟨p3, p4⟩, H⟩ := guard_t H
      have e2 := elem_A h2.wh (Gives.self 1 rfl) p3 p4
      refine HJ.q (i := 6) rfl rfl rfl rfl rfl rfl (q_index ttok rfl rfl rfl rfl rfl e2 p3 p4) ?_
      refine HJ.q (i := 7) rfl rfl rfl rfl rfl rfl (q_load_elem (f := 0) ttok rfl (fun w e => e) (Gives.self 1 rfl) p3 p4 rfl rfl rfl rfl rfl) ?_
      refine HJ.run ttok rfl [8] rfl ?_
      refine HJ.fin [(0, _), (1, _), (5, _), (25, .bool (!decide ((gt a0 x1) = (gt a1 x1))))] rfl rfl ?_
      refine J.cond rfl (fun c3 => ?_) (fun c3 => ?_)
      · replace H := ite_t c3 H
        refine J.seq (J.region ?_)
        refine RJ.run ttok 1 rfl ?_
        refine RJ.fin [(4, .bool false)] rfl ?_
        refine J.ret ?_
        obtain rfl := Option.some.inj H
        exact ⟨_, _, _, (results_slots rfl), ⟨rfl, rfl⟩, h2.only [] rfl⟩
      replace H := ite_f c3 H
      refine J.skip ?_
      refine J.region ?_
      refine RJ.run ttok 3 rfl ?_
      refine RJ.fin [(0, _), (1, _), (5, .int .i64 (w64 (x1 + 1)))] rfl ?_
      have h3 := ((h2.only [] rfl).rds [0, 1] rfl)
      exact ⟨k1, by omega, (w64 (x1 + 1)), rfl, h3, H⟩
    replace H := ite_f c2 H
    refine J.exit ?_
    refine J.seq (J.region ?_)
    refine RJ.run ttok 1 rfl ?_
    refine RJ.fin [(4, .bool true)] rfl ?_
    refine J.ret ?_
    obtain rfl := Option.some.inj H
    exact ⟨_, _, _, (results_slots rfl), ⟨rfl, rfl⟩, h1.only [] rfl⟩

/-! sluicegate/sluicegateref12.Same -/
def sluicegateref12_Same.l0 : Nat → (List (List UInt8)) → (List (List UInt8)) → (Int) → Option (Bool)
  | 0, _, _, _ => none
  | k + 1, a0, a1, x1 => if (decide (x1 < (a0.length : Int))) = true then (if 0 ≤ x1 ∧ x1 < (a0.length : Int) then (if 0 ≤ x1 ∧ x1 < (a1.length : Int) then (if (!decide ((gt a0 x1) = (gt a1 x1))) = true then (some false) else (sluicegateref12_Same.l0 k a0 a1 (w64 (x1 + 1)))) else none) else none) else (some true)
def sluicegateref12_Same.f (k : Nat) (a0 : List (List UInt8)) (a1 : List (List UInt8)) : Option (Bool) := if (!decide ((a0.length : Int) = (a1.length : Int))) = true then (some false) else (sluicegateref12_Same.l0 k a0 a1 0)
set_option maxRecDepth 20000 in
set_option maxHeartbeats 40000000 in
theorem sluicegateref12_Same.spec {k : Nat} {a0 : List (List UInt8)} {a1 : List (List UInt8)} {A1 : Option Addr} {c_1 : Nat} {A2 : Option Addr} {c_2 : Nat} {r : Bool} (H : sluicegateref12_Same.f k a0 a1 = some r) :
    Spec Try.prog 16 [.slice A1 a0.length c_1, .slice A2 a1.length c_2] [] [rdC 9 .str a0 (.slice A1 a0.length c_1), rdC 9 .str a1 (.slice A2 a1.length c_2)] (fun v l => v = .bool r ∧ l = []) := by
  refine Spec.enter Try.func16 rfl (by kernel_rfl) (by kernel_rfl) fun w0 F0 h0 => ?_
  unfold sluicegateref12_Same.f at H
  refine J.seq (J.region ?_)
  refine RJ.run ttok 1 rfl ?_
  refine RJ.fin [(0, .slice A1 a0.length c_1), (1, .slice A2 a1.length c_2)] rfl ?_
  refine J.seq (J.seq (J.region ?_))
  refine RJ.run ttok 5 rfl ?_
  refine RJ.fin [(0, _), (1, _), (10, .bool (!decide ((a0.length : Int) = (a1.length : Int))))] rfl ?_
  refine J.cond rfl (fun c1 => ?_) (fun c1 => ?_)
  · replace H := ite_t c1 H
    refine J.seq (J.region ?_)
    refine RJ.run ttok 1 rfl ?_
    refine RJ.fin [(4, .bool false)] rfl ?_
    refine J.ret ?_
    obtain rfl := Option.some.inj H
    exact ⟨_, _, _, (results_slots rfl), ⟨rfl, rfl⟩, h0.only [] rfl⟩
  replace H := ite_f c1 H
  refine J.skip ?_
  refine J.seq (J.seq (J.region ?_))
  refine RJ.run ttok 1 rfl ?_
  refine RJ.fin [(0, _), (1, _), (5, .int .i64 0)] rfl ?_
  refine J.block ?_
  have h4 := ((h0.only [] rfl).rds [0, 1] rfl)
  refine J.loop (fun kk env w => ∃ (x1 : Int), env = [(0, .slice A1 a0.length c_1), (1, .slice A2 a1.length c_2), (5, .int .i64 x1)] ∧ St w0 F0 [] [rdC 9 .str a0 (.slice A1 a0.length c_1), rdC 9 .str a1 (.slice A2 a1.length c_2)] w ∧ sluicegateref12_Same.l0 kk a0 a1 x1 = some r) (k := k) ⟨0, rfl, h4, H⟩ ?_
  rintro k1 env w1 ⟨x1, rfl, h1, H⟩
  cases k1 with
  | zero => exact nomatch (show none = some r from H)
  | succ k1 =>
    rw [sluicegateref12_Same.l0] at H
    refine J.seq (J.seq (J.region ?_))
    refine RJ.run ttok 4 rfl ?_
    refine RJ.fin [(0, _), (1, _), (5, _), (14, .bool (decide (x1 < (a0.length : Int))))] rfl ?_
    refine J.cond rfl (fun c2 => ?_) (fun c2 => ?_)
    · replace H := ite_t c2 H
      refine J.skip ?_
      refine J.seq (J.block (J.seq ?_))
      refine J.heldSt mix h1 ?_
      have h2 := h1.drew
      refine HJ.run ttok rfl [0, 1, 4, 5] rfl ?_
      obtain ⟨⟨p1, p2⟩, H⟩ := guard_t H
      have e1 := elem_A h2.wh (Gives.self 0 rfl) p1 p2
      refine HJ.q (i := 2) rfl rfl rfl rfl rfl rfl (q_index ttok rfl rfl rfl rfl rfl e1 p1 p2) ?_
      refine HJ.q (i := 3) rfl rfl rfl rfl rfl rfl (q_load_elem (f := 0) ttok rfl (fun w e => e) (Gives.self 0 rfl) p1 p2 rfl rfl rfl rfl rfl) ?_
      obtain ⟨⟨p3, p4⟩, H⟩ := guard_t H
      have e2 := elem_A h2.wh (Gives.self 1 rfl) p3 p4
      refine HJ.q (i := 6) rfl rfl rfl rfl rfl rfl (q_index ttok rfl rfl rfl rfl rfl e2 p3 p4) ?_
      refine HJ.q (i := 7) rfl rfl rfl rfl rfl rfl (q_load_elem (f := 0) ttok rfl (fun w e => e) (Gives.self 1 rfl) p3 p4 rfl rfl rfl rfl rfl) ?_
      refine HJ.run ttok rfl [8] rfl ?_
      refine HJ.fin [(0, _), (1, _), (5, _), (25, .bool (!decide ((gt a0 x1) = (gt a1 x1))))] rfl rfl ?_
      refine J.cond rfl (fun c3 => ?_) (fun c3 => ?_)
      · replace H := ite_t c3 H
        refine J.seq (J.region ?_)
        refine RJ.run ttok 1 rfl ?_
        refine RJ.fin [(4, .bool false)] rfl ?_
        refine J.ret ?_
        obtain rfl := Option.some.inj H
        exact ⟨_, _, _, (results_slots rfl), ⟨rfl, rfl⟩, h2.only [] rfl⟩
      replace H := ite_f c3 H
      refine J.skip ?_
      refine J.region ?_
      refine RJ.run ttok 3 rfl ?_
      refine RJ.fin [(0, _), (1, _), (5, .int .i64 (w64 (x1 + 1)))] rfl ?_
      have h3 := ((h2.only [] rfl).rds [0, 1] rfl)
      exact ⟨k1, by omega, (w64 (x1 + 1)), rfl, h3, H⟩
    replace H := ite_f c2 H
    refine J.exit ?_
    refine J.seq (J.region ?_)
    refine RJ.run ttok 1 rfl ?_
    refine RJ.fin [(4, .bool true)] rfl ?_
    refine J.ret ?_
    obtain rfl := Option.some.inj H
    exact ⟨_, _, _, (results_slots rfl), ⟨rfl, rfl⟩, h1.only [] rfl⟩

/-! sluicegate/sluicegateref10.Same -/
def sluicegateref10_Same.l0 : Nat → (List (List UInt8 × Bool × List UInt8)) → (List (List UInt8 × Bool × List UInt8)) → (Int) → Option (Bool)
  | 0, _, _, _ => none
  | k + 1, a0, a1, x1 => if (decide (x1 < (a0.length : Int))) = true then (if 0 ≤ x1 ∧ x1 < (a0.length : Int) then (if 0 ≤ x1 ∧ x1 < (a1.length : Int) then (if (!((decide (((gt a0 x1).1) = ((gt a1 x1).1))) && ((((gt a0 x1).2.1) == ((gt a1 x1).2.1)) && ((decide (((gt a0 x1).2.2) = ((gt a1 x1).2.2))) && true)))) = true then (some false) else (sluicegateref10_Same.l0 k a0 a1 (w64 (x1 + 1)))) else none) else none) else (some true)
def sluicegateref10_Same.f (k : Nat) (a0 : List (List UInt8 × Bool × List UInt8)) (a1 : List (List UInt8 × Bool × List UInt8)) : Option (Bool) := if (!decide ((a0.length : Int) = (a1.length : Int))) = true then (some false) else (sluicegateref10_Same.l0 k a0 a1 0)
set_option maxRecDepth 20000 in
set_option maxHeartbeats 40000000 in
theorem sluicegateref10_Same.spec {k : Nat} {a0 : List (List UInt8 × Bool × List UInt8)} {a1 : List (List UInt8 × Bool × List UInt8)} {A1 : Option Addr} {c_1 : Nat} {A2 : Option Addr} {c_2 : Nat} {r : Bool} (H : sluicegateref10_Same.f k a0 a1 = some r) :
    Spec Try.prog 17 [.slice A1 a0.length c_1, .slice A2 a1.length c_2] [] [rdC 40 (.pair .str (.pair .bool .str)) a0 (.slice A1 a0.length c_1), rdC 40 (.pair .str (.pair .bool .str)) a1 (.slice A2 a1.length c_2)] (fun v l => v = .bool r ∧ l = []) := by
  refine Spec.enter Try.func17 rfl (by kernel_rfl) (by kernel_rfl) fun w0 F0 h0 => ?_
  unfold sluicegateref10_Same.f at H
  refine J.seq (J.region ?_)
  refine RJ.run ttok 1 rfl ?_
  refine RJ.fin [(0, .slice A1 a0.length c_1), (1, .slice A2 a1.length c_2)] rfl ?_
  refine J.seq (J.seq (J.region ?_))
  refine RJ.run ttok 5 rfl ?_
  refine RJ.fin [(0, _), (1, _), (10, .bool (!decide ((a0.length : Int) = (a1.length : Int))))] rfl ?_
  refine J.cond rfl (fun c1 => ?_) (fun c1 => ?_)
  · replace H := ite_t c1 H
    refine J.seq (J.region ?_)
    refine RJ.run ttok 1 rfl ?_
    refine RJ.fin [(4, .bool false)] rfl ?_
    refine J.ret ?_
    obtain rfl := Option.some.inj H
    exact ⟨_, _, _, (results_slots rfl), ⟨rfl, rfl⟩, h0.only [] rfl⟩
  replace H := ite_f c1 H
  refine J.skip ?_
  refine J.seq (J.seq (J.region ?_))
  refine RJ.run ttok 1 rfl ?_
  refine RJ.fin [(0, _), (1, _), (5, .int .i64 0)] rfl ?_
  refine J.block ?_
  have h4 := ((h0.only [] rfl).rds [0, 1] rfl)
  refine J.loop (fun kk env w => ∃ (x1 : Int), env = [(0, .slice A1 a0.length c_1), (1, .slice A2 a1.length c_2), (5, .int .i64 x1)] ∧ St w0 F0 [] [rdC 40 (.pair .str (.pair .bool .str)) a0 (.slice A1 a0.length c_1), rdC 40 (.pair .str (.pair .bool .str)) a1 (.slice A2 a1.length c_2)] w ∧ sluicegateref10_Same.l0 kk a0 a1 x1 = some r) (k := k) ⟨0, rfl, h4, H⟩ ?_
  rintro k1 env w1 ⟨x1, rfl, h1, H⟩
  cases k1 with
  | zero => exact nomatch (show none = some r from H)
  | succ k1 =>
    rw [sluicegateref10_Same.l0] at H
    refine J.seq (J.seq (J.region ?_))
    refine RJ.run ttok 4 rfl ?_
    refine RJ.fin [(0, _), (1, _), (5, _), (14, .bool (decide (x1 < (a0.length : Int))))] rfl ?_
    refine J.cond rfl (fun c2 => ?_) (fun c2 => ?_)
    · replace H := ite_t c2 H
      refine J.skip ?_
      refine J.seq (J.block (J.seq ?_))
      refine J.heldSt mix h1 ?_
      have h2 := h1.drew
      refine HJ.run ttok rfl [0, 1, 4, 5] rfl ?_
      obtain ⟨⟨p1, p2⟩, H⟩ := guard_t H
      have e1 := elem_A h2.wh (Gives.self 0 rfl) p1 p2
      refine HJ.q (i := 2) rfl rfl rfl rfl rfl rfl (q_index ttok rfl rfl rfl rfl rfl e1 p1 p2) ?_
      refine HJ.q (i := 3) rfl rfl rfl rfl rfl rfl (q_load_elem (f := 0) ttok rfl (fun w e => e) (Gives.self 0 rfl) p1 p2 rfl rfl rfl rfl rfl) ?_
      obtain ⟨⟨p3, p4⟩, H⟩ := guard_t H
      have e2 := elem_A h2.wh (Gives.self 1 rfl) p3 p4
      refine HJ.q (i := 6) rfl rfl rfl rfl rfl rfl (q_index ttok rfl rfl rfl rfl rfl e2 p3 p4) ?_
      refine HJ.q (i := 7) rfl rfl rfl rfl rfl rfl (q_load_elem (f := 0) ttok rfl (fun w e => e) (Gives.self 1 rfl) p3 p4 rfl rfl rfl rfl rfl) ?_
      refine HJ.run ttok rfl [8] rfl ?_
      refine HJ.fin [(0, _), (1, _), (5, _), (25, .bool (!((decide (((gt a0 x1).1) = ((gt a1 x1).1))) && ((((gt a0 x1).2.1) == ((gt a1 x1).2.1)) && ((decide (((gt a0 x1).2.2) = ((gt a1 x1).2.2))) && true)))))] rfl rfl ?_
      refine J.cond rfl (fun c3 => ?_) (fun c3 => ?_)
      · replace H := ite_t c3 H
        refine J.seq (J.region ?_)
        refine RJ.run ttok 1 rfl ?_
        refine RJ.fin [(4, .bool false)] rfl ?_
        refine J.ret ?_
        obtain rfl := Option.some.inj H
        exact ⟨_, _, _, (results_slots rfl), ⟨rfl, rfl⟩, h2.only [] rfl⟩
      replace H := ite_f c3 H
      refine J.skip ?_
      refine J.region ?_
      refine RJ.run ttok 3 rfl ?_
      refine RJ.fin [(0, _), (1, _), (5, .int .i64 (w64 (x1 + 1)))] rfl ?_
      have h3 := ((h2.only [] rfl).rds [0, 1] rfl)
      exact ⟨k1, by omega, (w64 (x1 + 1)), rfl, h3, H⟩
    replace H := ite_f c2 H
    refine J.exit ?_
    refine J.seq (J.region ?_)
    refine RJ.run ttok 1 rfl ?_
    refine RJ.fin [(4, .bool true)] rfl ?_
    refine J.ret ?_
    obtain rfl := Option.some.inj H
    exact ⟨_, _, _, (results_slots rfl), ⟨rfl, rfl⟩, h1.only [] rfl⟩

/-! sluicegate/sluicegateref11.Same -/
def sluicegateref11_Same.l0 : Nat → (List (List UInt8 × List UInt8)) → (List (List UInt8 × List UInt8)) → (Int) → Option (Bool)
  | 0, _, _, _ => none
  | k + 1, a0, a1, x1 => if (decide (x1 < (a0.length : Int))) = true then (if 0 ≤ x1 ∧ x1 < (a0.length : Int) then (if 0 ≤ x1 ∧ x1 < (a1.length : Int) then (if (!((decide (((gt a0 x1).1) = ((gt a1 x1).1))) && ((decide (((gt a0 x1).2) = ((gt a1 x1).2))) && true))) = true then (some false) else (sluicegateref11_Same.l0 k a0 a1 (w64 (x1 + 1)))) else none) else none) else (some true)
def sluicegateref11_Same.f (k : Nat) (a0 : List (List UInt8 × List UInt8)) (a1 : List (List UInt8 × List UInt8)) : Option (Bool) := if (!decide ((a0.length : Int) = (a1.length : Int))) = true then (some false) else (sluicegateref11_Same.l0 k a0 a1 0)
set_option maxRecDepth 20000 in
set_option maxHeartbeats 40000000 in
theorem sluicegateref11_Same.spec {k : Nat} {a0 : List (List UInt8 × List UInt8)} {a1 : List (List UInt8 × List UInt8)} {A1 : Option Addr} {c_1 : Nat} {A2 : Option Addr} {c_2 : Nat} {r : Bool} (H : sluicegateref11_Same.f k a0 a1 = some r) :
    Spec Try.prog 18 [.slice A1 a0.length c_1, .slice A2 a1.length c_2] [] [rdC 42 (.pair .str .str) a0 (.slice A1 a0.length c_1), rdC 42 (.pair .str .str) a1 (.slice A2 a1.length c_2)] (fun v l => v = .bool r ∧ l = []) := by
  refine Spec.enter Try.func18 rfl (by kernel_rfl) (by kernel_rfl) fun w0 F0 h0 => ?_
  unfold sluicegateref11_Same.f at H
  refine J.seq (J.region ?_)
  refine RJ.run ttok 1 rfl ?_
  refine RJ.fin [(0, .slice A1 a0.length c_1), (1, .slice A2 a1.length c_2)] rfl ?_
  refine J.seq (J.seq (J.region ?_))
  refine RJ.run ttok 5 rfl ?_
  refine RJ.fin [(0, _), (1, _), (10, .bool (!decide ((a0.length : Int) = (a1.length : Int))))] rfl ?_
  refine J.cond rfl (fun c1 => ?_) (fun c1 => ?_)
  · replace H := ite_t c1 H
    refine J.seq (J.region ?_)
    refine RJ.run ttok 1 rfl ?_
    refine RJ.fin [(4, .bool false)] rfl ?_
    refine J.ret ?_
    obtain rfl := Option.some.inj H
    exact ⟨_, _, _, (results_slots rfl), ⟨rfl, rfl⟩, h0.only [] rfl⟩
  replace H := ite_f c1 H
  refine J.skip ?_
  refine J.seq (J.seq (J.region ?_))
  refine RJ.run ttok 1 rfl ?_
  refine RJ.fin [(0, _), (1, _), (5, .int .i64 0)] rfl ?_
  refine J.block ?_
  have h4 := ((h0.only [] rfl).rds [0, 1] rfl)
  refine J.loop (fun kk env w => ∃ (x1 : Int), env = [(0, .slice A1 a0.length c_1), (1, .slice A2 a1.length c_2), (5, .int .i64 x1)] ∧ St w0 F0 [] [rdC 42 (.pair .str .str) a0 (.slice A1 a0.length c_1), rdC 42 (.pair .str .str) a1 (.slice A2 a1.length c_2)] w ∧ sluicegateref11_Same.l0 kk a0 a1 x1 = some r) (k := k) ⟨0, rfl, h4, H⟩ ?_
  rintro k1 env w1 ⟨x1, rfl, h1, H⟩
  cases k1 with
  | zero => exact nomatch (show none = some r from H)
  | succ k1 =>
    rw [sluicegateref11_Same.l0] at H
    refine J.seq (J.seq (J.region ?_))
    refine RJ.run ttok 4 rfl ?_
    refine RJ.fin [(0, _), (1, _), (5, _), (14, .bool (decide (x1 < (a0.length : Int))))] rfl ?_
    refine J.cond rfl (fun c2 => ?_) (fun c2 => ?_)
    · replace H := ite_t c2 H
      refine J.skip ?_
      refine J.seq (J.block (J.seq ?_))
      refine J.heldSt mix h1 ?_
      have h2 := h1.drew
      refine HJ.run ttok rfl [0, 1, 4, 5] rfl ?_
      obtain ⟨⟨p1, p2⟩, H⟩ := guard_t H
      have e1 := elem_A h2.wh (Gives.self 0 rfl) p1 p2
      refine HJ.q (i := 2) rfl rfl rfl rfl rfl rfl (q_index ttok rfl rfl rfl rfl rfl e1 p1 p2) ?_
      refine HJ.q (i := 3) rfl rfl rfl rfl rfl rfl (q_load_elem (f := 0) ttok rfl (fun w e => e) (Gives.self 0 rfl) p1 p2 rfl rfl rfl rfl rfl) ?_
      obtain ⟨⟨p3, p4⟩, H⟩ := guard_t H
      have e2 := elem_A h2.wh (Gives.self 1 rfl) p3 p4
      refine HJ.q (i := 6) rfl rfl rfl rfl rfl rfl (q_index ttok rfl rfl rfl rfl rfl e2 p3 p4) ?_
      refine HJ.q (i := 7) rfl rfl rfl rfl rfl rfl (q_load_elem (f := 0) ttok rfl (fun w e => e) (Gives.self 1 rfl) p3 p4 rfl rfl rfl rfl rfl) ?_
      refine HJ.run ttok rfl [8] rfl ?_
      refine HJ.fin [(0, _), (1, _), (5, _), (25, .bool (!((decide (((gt a0 x1).1) = ((gt a1 x1).1))) && ((decide (((gt a0 x1).2) = ((gt a1 x1).2))) && true))))] rfl rfl ?_
      refine J.cond rfl (fun c3 => ?_) (fun c3 => ?_)
      · replace H := ite_t c3 H
        refine J.seq (J.region ?_)
        refine RJ.run ttok 1 rfl ?_
        refine RJ.fin [(4, .bool false)] rfl ?_
        refine J.ret ?_
        obtain rfl := Option.some.inj H
        exact ⟨_, _, _, (results_slots rfl), ⟨rfl, rfl⟩, h2.only [] rfl⟩
      replace H := ite_f c3 H
      refine J.skip ?_
      refine J.region ?_
      refine RJ.run ttok 3 rfl ?_
      refine RJ.fin [(0, _), (1, _), (5, .int .i64 (w64 (x1 + 1)))] rfl ?_
      have h3 := ((h2.only [] rfl).rds [0, 1] rfl)
      exact ⟨k1, by omega, (w64 (x1 + 1)), rfl, h3, H⟩
    replace H := ite_f c2 H
    refine J.exit ?_
    refine J.seq (J.region ?_)
    refine RJ.run ttok 1 rfl ?_
    refine RJ.fin [(4, .bool true)] rfl ?_
    refine J.ret ?_
    obtain rfl := Option.some.inj H
    exact ⟨_, _, _, (results_slots rfl), ⟨rfl, rfl⟩, h1.only [] rfl⟩

/-! sluicegate/sluicegateref13.Same -/
def sluicegateref13_Same.f (k : Nat) (a0 : Int × List (Int) × List (List UInt8) × (List (List UInt8 × Bool × List UInt8)) × (List (List UInt8 × List UInt8))) (a1 : Int × List (Int) × List (List UInt8) × (List (List UInt8 × Bool × List UInt8)) × (List (List UInt8 × List UInt8))) : Option (Bool) := if (decide (a0.1 = a1.1)) = true then ((sluicegateref13_Blocks.f k a0.2.1 a1.2.1).bind fun r1 => (if r1 = true then ((sluicegateref12_Same.f k a0.2.2.1 a1.2.2.1).bind fun r2 => (if r2 = true then ((sluicegateref10_Same.f k a0.2.2.2.1 a1.2.2.2.1).bind fun r3 => (if r3 = true then ((sluicegateref11_Same.f k a0.2.2.2.2 a1.2.2.2.2).bind fun r4 => (some r4)) else (some false))) else (some false))) else (some false))) else (some false)
set_option maxRecDepth 20000 in
set_option maxHeartbeats 40000000 in
theorem sluicegateref13_Same.spec {k : Nat} {a0 : Int × List (Int) × List (List UInt8) × (List (List UInt8 × Bool × List UInt8)) × (List (List UInt8 × List UInt8))} {a1 : Int × List (Int) × List (List UInt8) × (List (List UInt8 × Bool × List UInt8)) × (List (List UInt8 × List UInt8))} {A1 : Option Addr} {c_1 : Nat} {A2 : Option Addr} {c_2 : Nat} {A3 : Option Addr} {c_3 : Nat} {A4 : Option Addr} {c_4 : Nat} {A5 : Option Addr} {c_5 : Nat} {A6 : Option Addr} {c_6 : Nat} {A7 : Option Addr} {c_7 : Nat} {A8 : Option Addr} {c_8 : Nat} {r : Bool} (H : sluicegateref13_Same.f k a0 a1 = some r) :
    Spec Try.prog 8 [.agg #[.int .i64 a0.1, .slice A1 a0.2.1.length c_1, .slice A2 a0.2.2.1.length c_2, .slice A3 a0.2.2.2.1.length c_3, .slice A4 a0.2.2.2.2.length c_4], .agg #[.int .i64 a1.1, .slice A5 a1.2.1.length c_5, .slice A6 a1.2.2.1.length c_6, .slice A7 a1.2.2.2.1.length c_7, .slice A8 a1.2.2.2.2.length c_8]] [] [rdC 67 (.int .u32) a0.2.1 (.slice A1 a0.2.1.length c_1), rdC 9 .str a0.2.2.1 (.slice A2 a0.2.2.1.length c_2), rdC 40 (.pair .str (.pair .bool .str)) a0.2.2.2.1 (.slice A3 a0.2.2.2.1.length c_3), rdC 42 (.pair .str .str) a0.2.2.2.2 (.slice A4 a0.2.2.2.2.length c_4), rdC 67 (.int .u32) a1.2.1 (.slice A5 a1.2.1.length c_5), rdC 9 .str a1.2.2.1 (.slice A6 a1.2.2.1.length c_6), rdC 40 (.pair .str (.pair .bool .str)) a1.2.2.2.1 (.slice A7 a1.2.2.2.1.length c_7), rdC 42 (.pair .str .str) a1.2.2.2.2 (.slice A8 a1.2.2.2.2.length c_8)] (fun v l => v = .bool r ∧ l = []) := by
  refine Spec.enter Try.func8 rfl (by kernel_rfl) (by kernel_rfl) fun w0 F0 h0 => ?_
  unfold sluicegateref13_Same.f at H
  refine J.seq (J.region ?_)
  refine RJ.op rfl rfl (op_box rfl rfl h0) ?_
  rintro _ w1 ⟨b1, rfl, h1⟩
  replace h1 : St w0 F0 [boxC b1 29 [.int .i64 a0.1, .slice A1 a0.2.1.length c_1, .slice A2 a0.2.2.1.length c_2, .slice A3 a0.2.2.2.1.length c_3, .slice A4 a0.2.2.2.2.length c_4]] _ _ := h1
  refine RJ.op rfl rfl (op_box rfl rfl h1) ?_
  rintro _ w2 ⟨b2, rfl, h2⟩
  replace h2 : St w0 F0 [boxC b2 29 [.int .i64 a1.1, .slice A5 a1.2.1.length c_5, .slice A6 a1.2.2.1.length c_6, .slice A7 a1.2.2.2.1.length c_7, .slice A8 a1.2.2.2.2.length c_8], _] _ _ := h2
  refine RJ.run ttok 1 rfl ?_
  refine RJ.fin [(2, .pointer (some ⟨b1, 0, none⟩)), (3, .pointer (some ⟨b2, 0, none⟩))] rfl ?_
  refine J.seq (J.region ?_)
  refine RJ.run ttok 1 rfl ?_
  refine RJ.q rfl rfl (q_load_box ttok 1 h2.wht rfl rfl rfl rfl rfl) ?_
  refine RJ.run ttok 1 rfl ?_
  refine RJ.q rfl rfl (q_load_box ttok 0 h2.wht rfl rfl rfl rfl rfl) ?_
  refine RJ.run ttok 2 rfl ?_
  rcases Bool.eq_false_or_eq_true (decide (a0.1 = a1.1)) with c1 | c1
  · replace H := ite_t c1 H
    refine RJ.know (t := 10) rfl (congrArg Value.bool c1) ?_
    refine RJ.run ttok 1 rfl ?_
    refine RJ.q rfl rfl (q_load_box ttok 1 h2.wht rfl rfl rfl rfl rfl) ?_
    refine RJ.run ttok 1 rfl ?_
    refine RJ.q rfl rfl (q_load_box ttok 0 h2.wht rfl rfl rfl rfl rfl) ?_
    obtain ⟨r1, q1, H⟩ := bind_t H
    refine RJ.op rfl rfl (op_call [] (sluicegateref13_Blocks.spec q1) rfl rfl rfl h2 rfl (gcons (Gives.self 2 rfl) (gcons (Gives.self 6 rfl) gnil))) ?_
    rintro _ w3 ⟨_, ⟨rfl, rfl⟩, h3⟩
    replace h3 : St w0 F0 [_, _] _ _ := h3
    refine RJ.run ttok 2 rfl ?_
    rcases Bool.eq_false_or_eq_true r1 with c2 | c2
    · replace H := ite_t c2 H
      refine RJ.know (t := 17) rfl (congrArg Value.bool c2) ?_
      refine RJ.run ttok 1 rfl ?_
      refine RJ.q rfl rfl (q_load_box ttok 1 h3.wht rfl rfl rfl rfl rfl) ?_
      refine RJ.run ttok 1 rfl ?_
      refine RJ.q rfl rfl (q_load_box ttok 0 h3.wht rfl rfl rfl rfl rfl) ?_
      obtain ⟨r2, q2, H⟩ := bind_t H
      refine RJ.op rfl rfl (op_call [] (sluicegateref12_Same.spec q2) rfl rfl rfl h3 rfl (gcons (Gives.self 3 rfl) (gcons (Gives.self 7 rfl) gnil))) ?_
      rintro _ w4 ⟨_, ⟨rfl, rfl⟩, h4⟩
      replace h4 : St w0 F0 [_, _] _ _ := h4
      refine RJ.run ttok 2 rfl ?_
      rcases Bool.eq_false_or_eq_true r2 with c3 | c3
      · replace H := ite_t c3 H
        refine RJ.know (t := 24) rfl (congrArg Value.bool c3) ?_
        refine RJ.run ttok 1 rfl ?_
        refine RJ.q rfl rfl (q_load_box ttok 1 h4.wht rfl rfl rfl rfl rfl) ?_
        refine RJ.run ttok 1 rfl ?_
        refine RJ.q rfl rfl (q_load_box ttok 0 h4.wht rfl rfl rfl rfl rfl) ?_
        obtain ⟨r3, q3, H⟩ := bind_t H
        refine RJ.op rfl rfl (op_call [] (sluicegateref10_Same.spec q3) rfl rfl rfl h4 rfl (gcons (Gives.self 4 rfl) (gcons (Gives.self 8 rfl) gnil))) ?_
        rintro _ w5 ⟨_, ⟨rfl, rfl⟩, h5⟩
        replace h5 : St w0 F0 [_, _] _ _ := h5
        refine RJ.run ttok 2 rfl ?_
        rcases Bool.eq_false_or_eq_true r3 with c4 | c4
        · replace H := ite_t c4 H
          refine RJ.know (t := 31) rfl (congrArg Value.bool c4) ?_
          refine RJ.run ttok 1 rfl ?_
          refine RJ.q rfl rfl (q_load_box ttok 1 h5.wht rfl rfl rfl rfl rfl) ?_
          refine RJ.run ttok 1 rfl ?_
          refine RJ.q rfl rfl (q_load_box ttok 0 h5.wht rfl rfl rfl rfl rfl) ?_
          obtain ⟨r4, q4, H⟩ := bind_t H
          refine RJ.op rfl rfl (op_call [] (sluicegateref11_Same.spec q4) rfl rfl rfl h5 rfl (gcons (Gives.self 5 rfl) (gcons (Gives.self 9 rfl) gnil))) ?_
          rintro _ w6 ⟨_, ⟨rfl, rfl⟩, h6⟩
          replace h6 : St w0 F0 [_, _] _ _ := h6
          refine RJ.run ttok 2 rfl ?_
          refine RJ.fin [(4, .bool r4)] rfl ?_
          have h7 := h6.only [] rfl
          replace h7 : St w0 F0 [] _ _ := h7
          refine J.ret ?_
          obtain rfl := Option.some.inj H
          exact ⟨_, _, _, (results_slots rfl), ⟨rfl, rfl⟩, h7.only [] rfl⟩
        replace H := ite_f c4 H
        refine RJ.know (t := 31) rfl (congrArg Value.bool c4) ?_
        refine RJ.run ttok 7 rfl ?_
        refine RJ.fin [(4, .bool false)] rfl ?_
        have h8 := h5.only [] rfl
        replace h8 : St w0 F0 [] _ _ := h8
        refine J.ret ?_
        obtain rfl := Option.some.inj H
        exact ⟨_, _, _, (results_slots rfl), ⟨rfl, rfl⟩, h8.only [] rfl⟩
      replace H := ite_f c3 H
      refine RJ.know (t := 24) rfl (congrArg Value.bool c3) ?_
      refine RJ.run ttok 14 rfl ?_
      refine RJ.fin [(4, .bool false)] rfl ?_
      have h9 := h4.only [] rfl
      replace h9 : St w0 F0 [] _ _ := h9
      refine J.ret ?_
      obtain rfl := Option.some.inj H
      exact ⟨_, _, _, (results_slots rfl), ⟨rfl, rfl⟩, h9.only [] rfl⟩
    replace H := ite_f c2 H
    refine RJ.know (t := 17) rfl (congrArg Value.bool c2) ?_
    refine RJ.run ttok 21 rfl ?_
    refine RJ.fin [(4, .bool false)] rfl ?_
    have h10 := h3.only [] rfl
    replace h10 : St w0 F0 [] _ _ := h10
    refine J.ret ?_
    obtain rfl := Option.some.inj H
    exact ⟨_, _, _, (results_slots rfl), ⟨rfl, rfl⟩, h10.only [] rfl⟩
  replace H := ite_f c1 H
  refine RJ.know (t := 10) rfl (congrArg Value.bool c1) ?_
  refine RJ.run ttok 28 rfl ?_
  refine RJ.fin [(4, .bool false)] rfl ?_
  have h11 := h2.only [] rfl
  replace h11 : St w0 F0 [] _ _ := h11
  refine J.ret ?_
  obtain rfl := Option.some.inj H
  exact ⟨_, _, _, (results_slots rfl), ⟨rfl, rfl⟩, h11.only [] rfl⟩

/-! sluicegate/sluicegatelaw16.CodeApart -/
def sluicegatelaw16_CodeApart.f (k : Nat) (a0 : Int × Int × Int × Int × Int × Int × Int × Int) (a1 : Int × List (Int) × List (List UInt8) × (List (List UInt8 × Bool × List UInt8)) × (List (List UInt8 × List UInt8))) (a2 : Int × List (Int) × List (List UInt8) × (List (List UInt8 × Bool × List UInt8)) × (List (List UInt8 × List UInt8))) : Option (Bool) := (sluicegatelaw16_light.f (a0.1, a0.2.1, a0.2.2.1, a0.2.2.2.1, a0.2.2.2.2.1, a0.2.2.2.2.2.1, a0.2.2.2.2.2.2.1, a0.2.2.2.2.2.2.2)).bind fun r1 => (if (!r1) = true then ((sluicegatelaw16_awake.f k).bind fun r2 => (some r2)) else ((sluicegatelaw13_Great.f k (a1.1, a1.2.1, a1.2.2.1, a1.2.2.2.1, a1.2.2.2.2)).bind fun r3 => (if r3 = true then ((sluicegatelaw16_awake.f k).bind fun r4 => (some r4)) else ((sluicegatelaw13_Great.f k (a2.1, a2.2.1, a2.2.2.1, a2.2.2.2.1, a2.2.2.2.2)).bind fun r5 => (if r5 = true then ((sluicegatelaw16_awake.f k).bind fun r6 => (some r6)) else ((code_Encode.f k (a0.1, a0.2.1, a0.2.2.1, a0.2.2.2.1, a0.2.2.2.2.1, a0.2.2.2.2.2.1, a0.2.2.2.2.2.2.1, a0.2.2.2.2.2.2.2) (a1.1, a1.2.1, a1.2.2.1, a1.2.2.2.1, a1.2.2.2.2)).bind fun r7 => ((code_Encode.f k (a0.1, a0.2.1, a0.2.2.1, a0.2.2.2.1, a0.2.2.2.2.1, a0.2.2.2.2.2.1, a0.2.2.2.2.2.2.1, a0.2.2.2.2.2.2.2) (a2.1, a2.2.1, a2.2.2.1, a2.2.2.2.1, a2.2.2.2.2)).bind fun r8 => (if (!decide (r7.2 = 0)) = true then ((sluicegatelaw16_awake.f k).bind fun r9 => (some r9)) else (if (!decide (r8.2 = 0)) = true then ((sluicegatelaw16_awake.f k).bind fun r10 => (some r10)) else ((sluicegateref13_Same.f k (a1.1, a1.2.1, a1.2.2.1, a1.2.2.2.1, a1.2.2.2.2) (a2.1, a2.2.1, a2.2.2.1, a2.2.2.2.1, a2.2.2.2.2)).bind fun r11 => (if ((decide ((toS r7.1) = (toS r8.1))) == r11) = true then ((sluicegatelaw16_awake.f k).bind fun r12 => (some r12)) else (some false))))))))))))
set_option maxRecDepth 20000 in
set_option maxHeartbeats 40000000 in
theorem sluicegatelaw16_CodeApart.spec {k : Nat} {a0 : Int × Int × Int × Int × Int × Int × Int × Int} {a1 : Int × List (Int) × List (List UInt8) × (List (List UInt8 × Bool × List UInt8)) × (List (List UInt8 × List UInt8))} {a2 : Int × List (Int) × List (List UInt8) × (List (List UInt8 × Bool × List UInt8)) × (List (List UInt8 × List UInt8))} {A1 : Option Addr} {c_1 : Nat} {A2 : Option Addr} {c_2 : Nat} {A3 : Option Addr} {c_3 : Nat} {A4 : Option Addr} {c_4 : Nat} {A5 : Option Addr} {c_5 : Nat} {A6 : Option Addr} {c_6 : Nat} {A7 : Option Addr} {c_7 : Nat} {A8 : Option Addr} {c_8 : Nat} {r : Bool} (H : sluicegatelaw16_CodeApart.f k a0 a1 a2 = some r) :
    Spec Try.prog 3 [.agg #[.int .i64 a0.1, .int .i64 a0.2.1, .int .i64 a0.2.2.1, .int .i64 a0.2.2.2.1, .int .i64 a0.2.2.2.2.1, .int .i64 a0.2.2.2.2.2.1, .int .i64 a0.2.2.2.2.2.2.1, .int .i64 a0.2.2.2.2.2.2.2], .agg #[.int .i64 a1.1, .slice A1 a1.2.1.length c_1, .slice A2 a1.2.2.1.length c_2, .slice A3 a1.2.2.2.1.length c_3, .slice A4 a1.2.2.2.2.length c_4], .agg #[.int .i64 a2.1, .slice A5 a2.2.1.length c_5, .slice A6 a2.2.2.1.length c_6, .slice A7 a2.2.2.2.1.length c_7, .slice A8 a2.2.2.2.2.length c_8]] [] [rdC 67 (.int .u32) a1.2.1 (.slice A1 a1.2.1.length c_1), rdC 9 .str a1.2.2.1 (.slice A2 a1.2.2.1.length c_2), rdC 40 (.pair .str (.pair .bool .str)) a1.2.2.2.1 (.slice A3 a1.2.2.2.1.length c_3), rdC 42 (.pair .str .str) a1.2.2.2.2 (.slice A4 a1.2.2.2.2.length c_4), rdC 67 (.int .u32) a2.2.1 (.slice A5 a2.2.1.length c_5), rdC 9 .str a2.2.2.1 (.slice A6 a2.2.2.1.length c_6), rdC 40 (.pair .str (.pair .bool .str)) a2.2.2.2.1 (.slice A7 a2.2.2.2.1.length c_7), rdC 42 (.pair .str .str) a2.2.2.2.2 (.slice A8 a2.2.2.2.2.length c_8)] (fun v l => v = .bool r ∧ l = []) := by
  refine Spec.enter Try.func3 rfl (by kernel_rfl) (by kernel_rfl) fun w0 F0 h0 => ?_
  unfold sluicegatelaw16_CodeApart.f at H
  refine J.seq (J.region ?_)
  refine RJ.op rfl rfl (op_box rfl rfl h0) ?_
  rintro _ w1 ⟨b1, rfl, h1⟩
  replace h1 : St w0 F0 [boxC b1 23 [.int .i64 a0.1, .int .i64 a0.2.1, .int .i64 a0.2.2.1, .int .i64 a0.2.2.2.1, .int .i64 a0.2.2.2.2.1, .int .i64 a0.2.2.2.2.2.1, .int .i64 a0.2.2.2.2.2.2.1, .int .i64 a0.2.2.2.2.2.2.2]] _ _ := h1
  refine RJ.op rfl rfl (op_box rfl rfl h1) ?_
  rintro _ w2 ⟨b2, rfl, h2⟩
  replace h2 : St w0 F0 [boxC b2 29 [.int .i64 a1.1, .slice A1 a1.2.1.length c_1, .slice A2 a1.2.2.1.length c_2, .slice A3 a1.2.2.2.1.length c_3, .slice A4 a1.2.2.2.2.length c_4], _] _ _ := h2
  refine RJ.op rfl rfl (op_box rfl rfl h2) ?_
  rintro _ w3 ⟨b3, rfl, h3⟩
  replace h3 : St w0 F0 [boxC b3 29 [.int .i64 a2.1, .slice A5 a2.2.1.length c_5, .slice A6 a2.2.2.1.length c_6, .slice A7 a2.2.2.2.1.length c_7, .slice A8 a2.2.2.2.2.length c_8], _, _] _ _ := h3
  refine RJ.run ttok 1 rfl ?_
  refine RJ.fin [(3, .pointer (some ⟨b1, 0, none⟩)), (4, .pointer (some ⟨b2, 0, none⟩)), (5, .pointer (some ⟨b3, 0, none⟩))] rfl ?_
  refine J.seq (J.seq (J.region ?_))
  refine RJ.q rfl rfl (q_load_box ttok 2 h3.wht rfl rfl rfl rfl rfl) ?_
  obtain ⟨r1, q1, H⟩ := bind_t H
  refine RJ.op rfl rfl (op_call [] (sluicegatelaw16_light.spec q1) rfl rfl rfl h3 rfl gnil) ?_
  rintro _ w4 ⟨_, ⟨rfl, rfl⟩, h4⟩
  replace h4 : St w0 F0 [_, _, _] _ _ := h4
  refine RJ.run ttok 2 rfl ?_
  rcases Bool.eq_false_or_eq_true (!r1) with c1 | c1
  · replace H := ite_t c1 H
    refine RJ.know (t := 14) rfl (congrArg Value.bool c1) ?_
    refine RJ.run ttok 7 rfl ?_
    refine RJ.fin [(3, _), (4, _), (5, _), (21, .bool true)] rfl ?_
    refine J.condT rfl ?_
    refine J.seq (J.region ?_)
    obtain ⟨r2, q2, H⟩ := bind_t H
    refine RJ.op rfl rfl (op_call [] (sluicegatelaw16_awake.spec q2) rfl rfl rfl h4 rfl gnil) ?_
    rintro _ w5 ⟨_, ⟨rfl, rfl⟩, h5⟩
    replace h5 : St w0 F0 [_, _, _] _ _ := h5
    refine RJ.run ttok 1 rfl ?_
    refine RJ.fin [(6, .bool r2)] rfl ?_
    have h6 := h5.only [] rfl
    replace h6 : St w0 F0 [] _ _ := h6
    refine J.ret ?_
    obtain rfl := Option.some.inj H
    exact ⟨_, _, _, (results_slots rfl), ⟨rfl, rfl⟩, h6.only [] rfl⟩
  replace H := ite_f c1 H
  refine RJ.know (t := 14) rfl (congrArg Value.bool c1) ?_
  refine RJ.q rfl rfl (q_load_box ttok 1 h4.wht rfl rfl rfl rfl rfl) ?_
  obtain ⟨r3, q3, H⟩ := bind_t H
  refine RJ.op rfl rfl (op_call [] (sluicegatelaw13_Great.spec q3) rfl rfl rfl h4 rfl (gcons (Gives.self 3 rfl) (gcons (Gives.self 4 rfl) (gcons (Gives.self 5 rfl) (gcons (Gives.self 6 rfl) gnil))))) ?_
  rintro _ w6 ⟨_, ⟨rfl, rfl⟩, h7⟩
  replace h7 : St w0 F0 [_, _, _] _ _ := h7
  refine RJ.run ttok 2 rfl ?_
  rcases Bool.eq_false_or_eq_true r3 with c2 | c2
  · replace H := ite_t c2 H
    refine RJ.know (t := 18) rfl (congrArg Value.bool c2) ?_
    refine RJ.run ttok 3 rfl ?_
    refine RJ.fin [(3, _), (4, _), (5, _), (21, .bool true)] rfl ?_
    refine J.condT rfl ?_
    refine J.seq (J.region ?_)
    obtain ⟨r4, q4, H⟩ := bind_t H
    refine RJ.op rfl rfl (op_call [] (sluicegatelaw16_awake.spec q4) rfl rfl rfl h7 rfl gnil) ?_
    rintro _ w7 ⟨_, ⟨rfl, rfl⟩, h8⟩
    replace h8 : St w0 F0 [_, _, _] _ _ := h8
    refine RJ.run ttok 1 rfl ?_
    refine RJ.fin [(6, .bool r4)] rfl ?_
    have h9 := h8.only [] rfl
    replace h9 : St w0 F0 [] _ _ := h9
    refine J.ret ?_
    obtain rfl := Option.some.inj H
    exact ⟨_, _, _, (results_slots rfl), ⟨rfl, rfl⟩, h9.only [] rfl⟩
  replace H := ite_f c2 H
  refine RJ.know (t := 18) rfl (congrArg Value.bool c2) ?_
  refine RJ.q rfl rfl (q_load_box ttok 0 h7.wht rfl rfl rfl rfl rfl) ?_
  obtain ⟨r5, q5, H⟩ := bind_t H
  refine RJ.op rfl rfl (op_call [] (sluicegatelaw13_Great.spec q5) rfl rfl rfl h7 rfl (gcons (Gives.self 7 rfl) (gcons (Gives.self 8 rfl) (gcons (Gives.self 9 rfl) (gcons (Gives.self 10 rfl) gnil))))) ?_
  rintro _ w8 ⟨_, ⟨rfl, rfl⟩, h10⟩
  replace h10 : St w0 F0 [_, _, _] _ _ := h10
  refine RJ.run ttok 1 rfl ?_
  refine RJ.fin [(3, _), (4, _), (5, _), (21, .bool r5)] rfl ?_
  refine J.cond rfl (fun c3 => ?_) (fun c3 => ?_)
  · replace H := ite_t c3 H
    refine J.seq (J.region ?_)
    obtain ⟨r6, q6, H⟩ := bind_t H
    refine RJ.op rfl rfl (op_call [] (sluicegatelaw16_awake.spec q6) rfl rfl rfl h10 rfl gnil) ?_
    rintro _ w9 ⟨_, ⟨rfl, rfl⟩, h11⟩
    replace h11 : St w0 F0 [_, _, _] _ _ := h11
    refine RJ.run ttok 1 rfl ?_
    refine RJ.fin [(6, .bool r6)] rfl ?_
    have h12 := h11.only [] rfl
    replace h12 : St w0 F0 [] _ _ := h12
    refine J.ret ?_
    obtain rfl := Option.some.inj H
    exact ⟨_, _, _, (results_slots rfl), ⟨rfl, rfl⟩, h12.only [] rfl⟩
  replace H := ite_f c3 H
  refine J.skip ?_
  refine J.seq (J.region ?_)
  refine RJ.q rfl rfl (q_load_box ttok 2 h10.wht rfl rfl rfl rfl rfl) ?_
  refine RJ.q rfl rfl (q_load_box ttok 1 h10.wht rfl rfl rfl rfl rfl) ?_
  obtain ⟨r7, q7, H⟩ := bind_t H
  refine RJ.op rfl rfl (op_call [] (code_Encode.spec q7) rfl rfl rfl h10 rfl (gcons (Gives.self 3 rfl) (gcons (Gives.self 4 rfl) (gcons (Gives.self 5 rfl) (gcons (Gives.self 6 rfl) gnil))))) ?_
  rintro _ w10 ⟨_, ⟨A9, c_9, rfl, rfl⟩, h13⟩
  replace h13 : St w0 F0 [ownC 5 (.int .u8) r7.1 (.slice A9 r7.1.length c_9), _, _, _] _ _ := h13
  refine RJ.run ttok 5 rfl ?_
  refine RJ.fin [(3, _), (4, _), (5, _), (7, .slice A9 r7.1.length c_9), (8, .int .i64 r7.2)] rfl ?_
  refine J.seq (J.region ?_)
  refine RJ.q rfl rfl (q_load_box ttok 3 h13.wht rfl rfl rfl rfl rfl) ?_
  refine RJ.q rfl rfl (q_load_box ttok 1 h13.wht rfl rfl rfl rfl rfl) ?_
  obtain ⟨r8, q8, H⟩ := bind_t H
  refine RJ.op rfl rfl (op_call [] (code_Encode.spec q8) rfl rfl rfl h13 rfl (gcons (Gives.self 8 rfl) (gcons (Gives.self 9 rfl) (gcons (Gives.self 10 rfl) (gcons (Gives.self 11 rfl) gnil))))) ?_
  rintro _ w11 ⟨_, ⟨A10, c_10, rfl, rfl⟩, h14⟩
  replace h14 : St w0 F0 [ownC 5 (.int .u8) r8.1 (.slice A10 r8.1.length c_10), _, _, _, _] _ _ := h14
  refine RJ.run ttok 5 rfl ?_
  refine RJ.fin [(4, _), (5, _), (7, _), (8, _), (9, .slice A10 r8.1.length c_10), (10, .int .i64 r8.2)] rfl ?_
  refine J.seq ?_
  refine J.heldSt mix h14 ?_
  have h15 := h14.drew
  refine HJ.run ttok rfl [0, 1, 2] rfl ?_
  rcases Bool.eq_false_or_eq_true (!decide (r7.2 = 0)) with c4 | c4
  · replace H := ite_t c4 H
    refine HJ.know (t := 37) rfl (congrArg Value.bool c4) ?_
    refine HJ.run ttok rfl [3, 4, 5, 6, 7, 8, 9, 10, 11, 12, 13, 14, 15, 16, 17] rfl ?_
    obtain ⟨r9, q9, H⟩ := bind_t H
    refine HJ.op (i := 18) rfl rfl rfl rfl rfl (op_call [] (sluicegatelaw16_awake.spec q9) rfl rfl rfl h15 rfl gnil) ?_
    rintro _ w12 ⟨_, ⟨rfl, rfl⟩, h16⟩
    replace h16 : St w0 F0 [_, _, _, _, _] _ _ := h16
    refine ⟨⟨[], h16⟩, ?_⟩
    refine HJ.run ttok rfl [19, 20] rfl ?_
    refine HJ.fin [(6, .bool r9)] rfl rfl ?_
    have h17 := h16.only [] rfl
    replace h17 : St w0 F0 [] _ _ := h17
    refine J.ret ?_
    obtain rfl := Option.some.inj H
    exact ⟨_, _, _, (results_slots rfl), ⟨rfl, rfl⟩, h17.only [] rfl⟩
  replace H := ite_f c4 H
  refine HJ.know (t := 37) rfl (congrArg Value.bool c4) ?_
  refine HJ.run ttok rfl [3, 4, 5, 6] rfl ?_
  rcases Bool.eq_false_or_eq_true (!decide (r8.2 = 0)) with c5 | c5
  · replace H := ite_t c5 H
    refine HJ.know (t := 41) rfl (congrArg Value.bool c5) ?_
    refine HJ.run ttok rfl [7, 8, 9, 10, 11, 12, 13, 14, 15, 16, 17] rfl ?_
    obtain ⟨r10, q10, H⟩ := bind_t H
    refine HJ.op (i := 18) rfl rfl rfl rfl rfl (op_call [] (sluicegatelaw16_awake.spec q10) rfl rfl rfl h15 rfl gnil) ?_
    rintro _ w13 ⟨_, ⟨rfl, rfl⟩, h18⟩
    replace h18 : St w0 F0 [_, _, _, _, _] _ _ := h18
    refine ⟨⟨[], h18⟩, ?_⟩
    refine HJ.run ttok rfl [19, 20] rfl ?_
    refine HJ.fin [(6, .bool r10)] rfl rfl ?_
    have h19 := h18.only [] rfl
    replace h19 : St w0 F0 [] _ _ := h19
    refine J.ret ?_
    obtain rfl := Option.some.inj H
    exact ⟨_, _, _, (results_slots rfl), ⟨rfl, rfl⟩, h19.only [] rfl⟩
  replace H := ite_f c5 H
  refine HJ.know (t := 41) rfl (congrArg Value.bool c5) ?_
  refine HJ.run ttok rfl [7, 9] rfl ?_
  refine HJ.q (i := 8) rfl rfl rfl rfl rfl rfl (q_tostr ttok (fun w e => e) (Gives.of 1 rfl own_rd) rfl rfl rfl rfl rfl) ?_
  refine HJ.q (i := 10) rfl rfl rfl rfl rfl rfl (q_tostr ttok (fun w e => e) (Gives.of 0 rfl own_rd) rfl rfl rfl rfl rfl) ?_
  refine HJ.run ttok rfl [11] rfl ?_
  refine HJ.q (i := 12) rfl rfl rfl rfl rfl rfl (q_load_box ttok 3 (fun w e => e) rfl rfl rfl rfl rfl) ?_
  refine HJ.q (i := 13) rfl rfl rfl rfl rfl rfl (q_load_box ttok 2 (fun w e => e) rfl rfl rfl rfl rfl) ?_
  obtain ⟨r11, q11, H⟩ := bind_t H
  refine HJ.op (i := 14) rfl rfl rfl rfl rfl (op_call [] (sluicegateref13_Same.spec q11) rfl rfl rfl h15 rfl (gcons (Gives.self 5 rfl) (gcons (Gives.self 6 rfl) (gcons (Gives.self 7 rfl) (gcons (Gives.self 8 rfl) (gcons (Gives.self 9 rfl) (gcons (Gives.self 10 rfl) (gcons (Gives.self 11 rfl) (gcons (Gives.self 12 rfl) gnil))))))))) ?_
  rintro _ w14 ⟨_, ⟨rfl, rfl⟩, h20⟩
  replace h20 : St w0 F0 [_, _, _, _, _] _ _ := h20
  refine ⟨⟨[], h20⟩, ?_⟩
  refine HJ.run ttok rfl [15, 16, 17] rfl ?_
  rcases Bool.eq_false_or_eq_true ((decide ((toS r7.1) = (toS r8.1))) == r11) with c6 | c6
  · replace H := ite_t c6 H
    refine HJ.know (t := 52) rfl (congrArg Value.bool c6) ?_
    obtain ⟨r12, q12, H⟩ := bind_t H
    refine HJ.op (i := 18) rfl rfl rfl rfl rfl (op_call [] (sluicegatelaw16_awake.spec q12) rfl rfl rfl h20 rfl gnil) ?_
    rintro _ w15 ⟨_, ⟨rfl, rfl⟩, h21⟩
    replace h21 : St w0 F0 [_, _, _, _, _] _ _ := h21
    refine ⟨⟨[], h21⟩, ?_⟩
    refine HJ.run ttok rfl [19, 20] rfl ?_
    refine HJ.fin [(6, .bool r12)] rfl rfl ?_
    have h22 := h21.only [] rfl
    replace h22 : St w0 F0 [] _ _ := h22
    refine J.ret ?_
    obtain rfl := Option.some.inj H
    exact ⟨_, _, _, (results_slots rfl), ⟨rfl, rfl⟩, h22.only [] rfl⟩
  replace H := ite_f c6 H
  refine HJ.know (t := 52) rfl (congrArg Value.bool c6) ?_
  refine HJ.run ttok rfl [18, 19, 20] rfl ?_
  refine HJ.fin [(6, .bool false)] rfl rfl ?_
  have h23 := h20.only [] rfl
  replace h23 : St w0 F0 [] _ _ := h23
  refine J.ret ?_
  obtain rfl := Option.some.inj H
  exact ⟨_, _, _, (results_slots rfl), ⟨rfl, rfl⟩, h23.only [] rfl⟩

end Go.SK.T
