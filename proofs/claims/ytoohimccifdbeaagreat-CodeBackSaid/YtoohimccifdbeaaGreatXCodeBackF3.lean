/- The functions, further. -/
import Derived.Test.YtoohimccifdbeaaGreatXCodeBackF2
set_option linter.unusedVariables false
set_option linter.unusedSimpArgs false
set_option maxRecDepth 20000
set_option maxHeartbeats 40000000
namespace Go.SK.T
open Go Go.SK Go.Proofs
def Q65.l2 : Nat → (Int × List (Int) × List (List UInt8) × (List (List UInt8 × Bool × List UInt8)) × (List (List UInt8 × List UInt8))) → (Int) → Option (Bool)
  | 0, _, _ => none
  | k + 1, a0, x3 => if (decide (x3 < (a0.2.2.2.2.length : Int))) = true then (if 0 ≤ x3 ∧ x3 < (a0.2.2.2.2.length : Int) then (if (decide (200 < (((gt a0.2.2.2.2 x3).1).length : Int))) = true then (some true) else (Q65.l2 k a0 (w64 (x3 + 1)))) else none) else (some false)
def Q65.l1 : Nat → (Int × List (Int) × List (List UInt8) × (List (List UInt8 × Bool × List UInt8)) × (List (List UInt8 × List UInt8))) → (Int) → Option (Bool)
  | 0, _, _ => none
  | k + 1, a0, x2 => if (decide (x2 < (a0.2.2.2.1.length : Int))) = true then (if 0 ≤ x2 ∧ x2 < (a0.2.2.2.1.length : Int) then (if (decide (200 < (((gt a0.2.2.2.1 x2).1).length : Int))) = true then (some true) else (Q65.l1 k a0 (w64 (x2 + 1)))) else none) else (Q65.l2 k a0 0)
def Q65.l0 : Nat → (Int × List (Int) × List (List UInt8) × (List (List UInt8 × Bool × List UInt8)) × (List (List UInt8 × List UInt8))) → (Int) → Option (Bool)
  | 0, _, _ => none
  | k + 1, a0, x1 => if (decide (x1 < (a0.2.2.1.length : Int))) = true then (if 0 ≤ x1 ∧ x1 < (a0.2.2.1.length : Int) then (if (decide (200 < ((gt a0.2.2.1 x1).length : Int))) = true then (some true) else (Q65.l0 k a0 (w64 (x1 + 1)))) else none) else (Q65.l1 k a0 0)
def Q65.f (k : Nat) (a0 : Int × List (Int) × List (List UInt8) × (List (List UInt8 × Bool × List UInt8)) × (List (List UInt8 × List UInt8))) : Option (Bool) := if (decide (80 < (a0.2.1.length : Int))) = true then (some true) else (if (decide (80 < (a0.2.2.1.length : Int))) = true then (some true) else (if (decide (150 < (a0.2.2.2.1.length : Int))) = true then (some true) else (if (decide (150 < (a0.2.2.2.2.length : Int))) = true then (some true) else (Q65.l0 k a0 0))))
theorem Q65.spec {k : Nat} {a0 : Int × List (Int) × List (List UInt8) × (List (List UInt8 × Bool × List UInt8)) × (List (List UInt8 × List UInt8))} {A1 : Option Addr} {c_1 : Nat} {A2 : Option Addr} {c_2 : Nat} {A3 : Option Addr} {c_3 : Nat} {A4 : Option Addr} {c_4 : Nat} {r : Bool} (H : Q65.f k a0 = some r) :
    Spec Tryz.prog 7 [.agg #[.int .i64 a0.1, .slice A1 a0.2.1.length c_1, .slice A2 a0.2.2.1.length c_2, .slice A3 a0.2.2.2.1.length c_3, .slice A4 a0.2.2.2.2.length c_4]] [] [rdC 70 (.int .u32) a0.2.1 (.slice A1 a0.2.1.length c_1), rdC 9 .str a0.2.2.1 (.slice A2 a0.2.2.1.length c_2), rdC 49 (.pair .str (.pair .bool .str)) a0.2.2.2.1 (.slice A3 a0.2.2.2.1.length c_3), rdC 51 (.pair .str .str) a0.2.2.2.2 (.slice A4 a0.2.2.2.2.length c_4)] (fun v l => v = .bool r ∧ l = []) := by
  refine Spec.enter Tryz.func7 rfl (by kernel_rfl) (by kernel_rfl) fun w0 F0 h0 => ?_
  unfold Q65.f at H
  refine J.seq (J.region ?_)
  refine RJ.op rfl rfl (op_box rfl rfl h0) ?_
  rintro _ w1 ⟨b1, rfl, h1⟩
  replace h1 : St w0 F0 [boxC b1 29 [.int .i64 a0.1, .slice A1 a0.2.1.length c_1, .slice A2 a0.2.2.1.length c_2, .slice A3 a0.2.2.2.1.length c_3, .slice A4 a0.2.2.2.2.length c_4]] _ _ := h1
  refine RJ.run ttok 1 rfl ?_
  refine RJ.fin [(1, .pointer (some ⟨b1, 0, none⟩))] rfl ?_
  refine J.seq (J.seq (J.region ?_))
  refine RJ.run ttok 1 rfl ?_
  refine RJ.q rfl rfl (q_load_box ttok 0 h1.wht rfl rfl rfl rfl rfl) ?_
  refine RJ.run ttok 3 rfl ?_
  rcases Bool.eq_false_or_eq_true (decide (80 < (a0.2.1.length : Int))) with c1 | c1
  · replace H := ite_t c1 H
    refine RJ.know (t := 10) rfl (congrArg Value.bool c1) ?_
    refine RJ.run ttok 17 rfl ?_
    refine RJ.fin [(1, _), (27, .bool true)] rfl ?_
    refine J.condT rfl ?_
    refine J.seq (J.region ?_)
    refine RJ.run ttok 1 rfl ?_
    refine RJ.fin [(2, .bool true)] rfl ?_
    refine J.ret ?_
    obtain rfl := Option.some.inj H
    exact ⟨_, _, _, (results_slots rfl), ⟨rfl, rfl⟩, h1.only [] rfl⟩
  replace H := ite_f c1 H
  refine RJ.know (t := 10) rfl (congrArg Value.bool c1) ?_
  refine RJ.run ttok 1 rfl ?_
  refine RJ.q rfl rfl (q_load_box ttok 0 h1.wht rfl rfl rfl rfl rfl) ?_
  refine RJ.run ttok 4 rfl ?_
  rcases Bool.eq_false_or_eq_true (decide (80 < (a0.2.2.1.length : Int))) with c2 | c2
  · replace H := ite_t c2 H
    refine RJ.know (t := 16) rfl (congrArg Value.bool c2) ?_
    refine RJ.run ttok 11 rfl ?_
    refine RJ.fin [(1, _), (27, .bool true)] rfl ?_
    refine J.condT rfl ?_
    refine J.seq (J.region ?_)
    refine RJ.run ttok 1 rfl ?_
    refine RJ.fin [(2, .bool true)] rfl ?_
    refine J.ret ?_
    obtain rfl := Option.some.inj H
    exact ⟨_, _, _, (results_slots rfl), ⟨rfl, rfl⟩, h1.only [] rfl⟩
  replace H := ite_f c2 H
  refine RJ.know (t := 16) rfl (congrArg Value.bool c2) ?_
  refine RJ.run ttok 1 rfl ?_
  refine RJ.q rfl rfl (q_load_box ttok 0 h1.wht rfl rfl rfl rfl rfl) ?_
  refine RJ.run ttok 4 rfl ?_
  rcases Bool.eq_false_or_eq_true (decide (150 < (a0.2.2.2.1.length : Int))) with c3 | c3
  · replace H := ite_t c3 H
    refine RJ.know (t := 22) rfl (congrArg Value.bool c3) ?_
    refine RJ.run ttok 5 rfl ?_
    refine RJ.fin [(1, _), (27, .bool true)] rfl ?_
    refine J.condT rfl ?_
    refine J.seq (J.region ?_)
    refine RJ.run ttok 1 rfl ?_
    refine RJ.fin [(2, .bool true)] rfl ?_
    refine J.ret ?_
    obtain rfl := Option.some.inj H
    exact ⟨_, _, _, (results_slots rfl), ⟨rfl, rfl⟩, h1.only [] rfl⟩
  replace H := ite_f c3 H
  refine RJ.know (t := 22) rfl (congrArg Value.bool c3) ?_
  refine RJ.run ttok 1 rfl ?_
  refine RJ.q rfl rfl (q_load_box ttok 0 h1.wht rfl rfl rfl rfl rfl) ?_
  refine RJ.run ttok 3 rfl ?_
  refine RJ.fin [(1, _), (27, .bool (decide (150 < (a0.2.2.2.2.length : Int))))] rfl ?_
  refine J.cond rfl (fun c4 => ?_) (fun c4 => ?_)
  · replace H := ite_t c4 H
    refine J.seq (J.region ?_)
    refine RJ.run ttok 1 rfl ?_
    refine RJ.fin [(2, .bool true)] rfl ?_
    refine J.ret ?_
    obtain rfl := Option.some.inj H
    exact ⟨_, _, _, (results_slots rfl), ⟨rfl, rfl⟩, h1.only [] rfl⟩
  replace H := ite_f c4 H
  refine J.skip ?_
  refine J.seq (J.seq (J.region ?_))
  refine RJ.run ttok 1 rfl ?_
  refine RJ.fin [(1, _), (3, .int .i64 0)] rfl ?_
  refine J.block ?_
  have h10 := ((h1.only [0] rfl).rds [0, 1, 2, 3] rfl)
  refine J.loop (fun kk env w => ∃ (x1 : Int), env = [(1, .pointer (some ⟨b1, 0, none⟩)), (3, .int .i64 x1)] ∧ St w0 F0 [boxC b1 29 [.int .i64 a0.1, .slice A1 a0.2.1.length c_1, .slice A2 a0.2.2.1.length c_2, .slice A3 a0.2.2.2.1.length c_3, .slice A4 a0.2.2.2.2.length c_4]] [rdC 70 (.int .u32) a0.2.1 (.slice A1 a0.2.1.length c_1), rdC 9 .str a0.2.2.1 (.slice A2 a0.2.2.1.length c_2), rdC 49 (.pair .str (.pair .bool .str)) a0.2.2.2.1 (.slice A3 a0.2.2.2.1.length c_3), rdC 51 (.pair .str .str) a0.2.2.2.2 (.slice A4 a0.2.2.2.2.length c_4)] w ∧ Q65.l0 kk a0 x1 = some r) (k := k) ⟨0, rfl, h10, H⟩ ?_
  rintro k1 env w2 ⟨x1, rfl, h2, H⟩
  cases k1 with
  | zero => exact nomatch (show none = some r from H)
  | succ k1 =>
    rw [Q65.l0] at H
    refine J.seq (J.seq (J.region ?_))
    refine RJ.run ttok 2 rfl ?_
    refine RJ.q rfl rfl (q_load_box ttok 0 h2.wht rfl rfl rfl rfl rfl) ?_
    refine RJ.run ttok 2 rfl ?_
    refine RJ.fin [(1, _), (3, _), (32, .bool (decide (x1 < (a0.2.2.1.length : Int))))] rfl ?_
    refine J.cond rfl (fun c5 => ?_) (fun c5 => ?_)
    · replace H := ite_t c5 H
      refine J.skip ?_
      refine J.seq (J.block (J.seq (J.region ?_)))
      refine RJ.run ttok 1 rfl ?_
      refine RJ.q rfl rfl (q_load_box ttok 0 h2.wht rfl rfl rfl rfl rfl) ?_
      refine RJ.run ttok 1 rfl ?_
      obtain ⟨⟨p1, p2⟩, H⟩ := guard_t H
      have e1 := elem_A h2.wh (Gives.self 2 rfl) p1 p2
      refine RJ.q rfl rfl (q_index ttok rfl rfl rfl rfl rfl e1 p1 p2) ?_
      refine RJ.q rfl rfl (q_load_elem (f := 0) ttok rfl h2.wht (Gives.self 2 rfl) p1 p2 rfl rfl rfl rfl rfl) ?_
      refine RJ.run ttok 2 rfl ?_
      refine RJ.fin [(1, _), (3, _), (41, .bool (decide (200 < ((gt a0.2.2.1 x1).length : Int))))] rfl ?_
      refine J.cond rfl (fun c6 => ?_) (fun c6 => ?_)
      · replace H := ite_t c6 H
        refine J.seq (J.region ?_)
        refine RJ.run ttok 1 rfl ?_
        refine RJ.fin [(2, .bool true)] rfl ?_
        refine J.ret ?_
        obtain rfl := Option.some.inj H
        exact ⟨_, _, _, (results_slots rfl), ⟨rfl, rfl⟩, h2.only [] rfl⟩
      replace H := ite_f c6 H
      refine J.skip ?_
      refine J.region ?_
      refine RJ.run ttok 3 rfl ?_
      refine RJ.fin [(1, _), (3, .int .i64 (w64 (x1 + 1)))] rfl ?_
      have h3 := ((h2.only [0] rfl).rds [0, 1, 2, 3] rfl)
      exact ⟨k1, by omega, (w64 (x1 + 1)), rfl, h3, H⟩
    replace H := ite_f c5 H
    refine J.exit ?_
    refine J.seq (J.seq (J.region ?_))
    refine RJ.run ttok 1 rfl ?_
    refine RJ.fin [(1, _), (4, .int .i64 0)] rfl ?_
    refine J.block ?_
    have h9 := ((h2.only [0] rfl).rds [0, 1, 2, 3] rfl)
    refine J.loop (fun kk env w => ∃ (x2 : Int), env = [(1, .pointer (some ⟨b1, 0, none⟩)), (4, .int .i64 x2)] ∧ St w0 F0 [boxC b1 29 [.int .i64 a0.1, .slice A1 a0.2.1.length c_1, .slice A2 a0.2.2.1.length c_2, .slice A3 a0.2.2.2.1.length c_3, .slice A4 a0.2.2.2.2.length c_4]] [rdC 70 (.int .u32) a0.2.1 (.slice A1 a0.2.1.length c_1), rdC 9 .str a0.2.2.1 (.slice A2 a0.2.2.1.length c_2), rdC 49 (.pair .str (.pair .bool .str)) a0.2.2.2.1 (.slice A3 a0.2.2.2.1.length c_3), rdC 51 (.pair .str .str) a0.2.2.2.2 (.slice A4 a0.2.2.2.2.length c_4)] w ∧ Q65.l1 kk a0 x2 = some r) (k := k1) ⟨0, rfl, h9, H⟩ ?_
    rintro k2 env w3 ⟨x2, rfl, h4, H⟩
    cases k2 with
    | zero => exact nomatch (show none = some r from H)
    | succ k2 =>
      rw [Q65.l1] at H
      refine J.seq (J.seq (J.region ?_))
      refine RJ.run ttok 2 rfl ?_
      refine RJ.q rfl rfl (q_load_box ttok 0 h4.wht rfl rfl rfl rfl rfl) ?_
      refine RJ.run ttok 2 rfl ?_
      refine RJ.fin [(1, _), (4, _), (46, .bool (decide (x2 < (a0.2.2.2.1.length : Int))))] rfl ?_
      refine J.cond rfl (fun c7 => ?_) (fun c7 => ?_)
      · replace H := ite_t c7 H
        refine J.skip ?_
        refine J.seq (J.block (J.seq (J.region ?_)))
        refine RJ.run ttok 1 rfl ?_
        refine RJ.q rfl rfl (q_load_box ttok 0 h4.wht rfl rfl rfl rfl rfl) ?_
        refine RJ.run ttok 1 rfl ?_
        obtain ⟨⟨p3, p4⟩, H⟩ := guard_t H
        have e2 := elem_A h4.wh (Gives.self 3 rfl) p3 p4
        refine RJ.q rfl rfl (q_index ttok rfl rfl rfl rfl rfl e2 p3 p4) ?_
        refine RJ.run ttok 1 rfl ?_
        refine RJ.q rfl rfl (q_load_elem (f := 0) ttok rfl h4.wht (Gives.self 3 rfl) p3 p4 rfl rfl rfl rfl rfl) ?_
        refine RJ.run ttok 2 rfl ?_
        refine RJ.fin [(1, _), (4, _), (56, .bool (decide (200 < (((gt a0.2.2.2.1 x2).1).length : Int))))] rfl ?_
        refine J.cond rfl (fun c8 => ?_) (fun c8 => ?_)
        · replace H := ite_t c8 H
          refine J.seq (J.region ?_)
          refine RJ.run ttok 1 rfl ?_
          refine RJ.fin [(2, .bool true)] rfl ?_
          refine J.ret ?_
          obtain rfl := Option.some.inj H
          exact ⟨_, _, _, (results_slots rfl), ⟨rfl, rfl⟩, h4.only [] rfl⟩
        replace H := ite_f c8 H
        refine J.skip ?_
        refine J.region ?_
        refine RJ.run ttok 3 rfl ?_
        refine RJ.fin [(1, _), (4, .int .i64 (w64 (x2 + 1)))] rfl ?_
        have h5 := ((h4.only [0] rfl).rds [0, 1, 2, 3] rfl)
        exact ⟨k2, by omega, (w64 (x2 + 1)), rfl, h5, H⟩
      replace H := ite_f c7 H
      refine J.exit ?_
      refine J.seq (J.seq (J.region ?_))
      refine RJ.run ttok 1 rfl ?_
      refine RJ.fin [(1, _), (5, .int .i64 0)] rfl ?_
      refine J.block ?_
      have h8 := ((h4.only [0] rfl).rds [0, 1, 2, 3] rfl)
      refine J.loop (fun kk env w => ∃ (x3 : Int), env = [(1, .pointer (some ⟨b1, 0, none⟩)), (5, .int .i64 x3)] ∧ St w0 F0 [boxC b1 29 [.int .i64 a0.1, .slice A1 a0.2.1.length c_1, .slice A2 a0.2.2.1.length c_2, .slice A3 a0.2.2.2.1.length c_3, .slice A4 a0.2.2.2.2.length c_4]] [rdC 70 (.int .u32) a0.2.1 (.slice A1 a0.2.1.length c_1), rdC 9 .str a0.2.2.1 (.slice A2 a0.2.2.1.length c_2), rdC 49 (.pair .str (.pair .bool .str)) a0.2.2.2.1 (.slice A3 a0.2.2.2.1.length c_3), rdC 51 (.pair .str .str) a0.2.2.2.2 (.slice A4 a0.2.2.2.2.length c_4)] w ∧ Q65.l2 kk a0 x3 = some r) (k := k2) ⟨0, rfl, h8, H⟩ ?_
      rintro k3 env w4 ⟨x3, rfl, h6, H⟩
      cases k3 with
      | zero => exact nomatch (show none = some r from H)
      | succ k3 =>
        rw [Q65.l2] at H
        refine J.seq (J.seq (J.region ?_))
        refine RJ.run ttok 2 rfl ?_
        refine RJ.q rfl rfl (q_load_box ttok 0 h6.wht rfl rfl rfl rfl rfl) ?_
        refine RJ.run ttok 2 rfl ?_
        refine RJ.fin [(1, _), (5, _), (61, .bool (decide (x3 < (a0.2.2.2.2.length : Int))))] rfl ?_
        refine J.cond rfl (fun c9 => ?_) (fun c9 => ?_)
        · replace H := ite_t c9 H
          refine J.skip ?_
          refine J.seq (J.block (J.seq (J.region ?_)))
          refine RJ.run ttok 1 rfl ?_
          refine RJ.q rfl rfl (q_load_box ttok 0 h6.wht rfl rfl rfl rfl rfl) ?_
          refine RJ.run ttok 1 rfl ?_
          obtain ⟨⟨p5, p6⟩, H⟩ := guard_t H
          have e3 := elem_A h6.wh (Gives.self 4 rfl) p5 p6
          refine RJ.q rfl rfl (q_index ttok rfl rfl rfl rfl rfl e3 p5 p6) ?_
          refine RJ.run ttok 1 rfl ?_
          refine RJ.q rfl rfl (q_load_elem (f := 0) ttok rfl h6.wht (Gives.self 4 rfl) p5 p6 rfl rfl rfl rfl rfl) ?_
          refine RJ.run ttok 2 rfl ?_
          refine RJ.fin [(1, _), (5, _), (71, .bool (decide (200 < (((gt a0.2.2.2.2 x3).1).length : Int))))] rfl ?_
          refine J.cond rfl (fun c10 => ?_) (fun c10 => ?_)
          · replace H := ite_t c10 H
            refine J.seq (J.region ?_)
            refine RJ.run ttok 1 rfl ?_
            refine RJ.fin [(2, .bool true)] rfl ?_
            refine J.ret ?_
            obtain rfl := Option.some.inj H
            exact ⟨_, _, _, (results_slots rfl), ⟨rfl, rfl⟩, h6.only [] rfl⟩
          replace H := ite_f c10 H
          refine J.skip ?_
          refine J.region ?_
          refine RJ.run ttok 3 rfl ?_
          refine RJ.fin [(1, _), (5, .int .i64 (w64 (x3 + 1)))] rfl ?_
          have h7 := ((h6.only [0] rfl).rds [0, 1, 2, 3] rfl)
          exact ⟨k3, by omega, (w64 (x3 + 1)), rfl, h7, H⟩
        replace H := ite_f c9 H
        refine J.exit ?_
        refine J.seq (J.region ?_)
        refine RJ.run ttok 1 rfl ?_
        refine RJ.fin [(2, .bool false)] rfl ?_
        refine J.ret ?_
        obtain rfl := Option.some.inj H
        exact ⟨_, _, _, (results_slots rfl), ⟨rfl, rfl⟩, h6.only [] rfl⟩

def Q75.f (a0 : Int) (a1 : Int) (a2 : Int) : Option (Bool) := if (decide (a1 ≤ a0)) = true then (some (decide (a0 ≤ a2))) else (some false)
theorem Q75.spec {a0 : Int} {a1 : Int} {a2 : Int}  {r : Bool} (H : Q75.f a0 a1 a2 = some r) :
    Spec Tryz.prog 46 [.int .i64 a0, .int .i64 a1, .int .i64 a2] [] [] (fun v l => v = .bool r ∧ l = []) := by
  refine Spec.enter Tryz.func46 rfl (by kernel_rfl) (by kernel_rfl) fun w0 F0 h0 => ?_
  unfold Q75.f at H
  refine J.seq (J.region ?_)
  refine RJ.run ttok 1 rfl ?_
  refine RJ.fin [(0, .int .i64 a0), (1, .int .i64 a1), (2, .int .i64 a2)] rfl ?_
  refine J.seq (J.region ?_)
  refine RJ.run ttok 4 rfl ?_
  rcases Bool.eq_false_or_eq_true (decide (a1 ≤ a0)) with c1 | c1
  · replace H := ite_t c1 H
    refine RJ.know (t := 10) rfl (congrArg Value.bool c1) ?_
    refine RJ.run ttok 5 rfl ?_
    refine RJ.fin [(6, .bool (decide (a0 ≤ a2)))] rfl ?_
    refine J.ret ?_
    obtain rfl := Option.some.inj H
    exact ⟨_, _, _, (results_slots rfl), ⟨rfl, rfl⟩, h0.only [] rfl⟩
  replace H := ite_f c1 H
  refine RJ.know (t := 10) rfl (congrArg Value.bool c1) ?_
  refine RJ.run ttok 5 rfl ?_
  refine RJ.fin [(6, .bool false)] rfl ?_
  refine J.ret ?_
  obtain rfl := Option.some.inj H
  exact ⟨_, _, _, (results_slots rfl), ⟨rfl, rfl⟩, h0.only [] rfl⟩

def Q74.f (a0 : Int × Int × Int × Int × Int × Int × Int × Int) : Option (Bool) := (Q75.f a0.2.2.2.1 8 64).bind fun r1 => (if (!r1) = true then (some false) else ((Q75.f a0.2.2.2.2.2.2.1 1 64).bind fun r2 => (if (!r2) = true then (some false) else ((Q75.f a0.2.2.2.2.2.2.2 0 256).bind fun r3 => (if (!r3) = true then (some false) else ((Q75.f a0.2.2.2.2.1 (w64 (2 * a0.2.2.2.1)) 512).bind fun r4 => (if r4 = true then ((Q75.f a0.2.2.2.2.2.1 a0.2.2.2.2.1 1024).bind fun r5 => (some r5)) else (some false))))))))
theorem Q74.spec {a0 : Int × Int × Int × Int × Int × Int × Int × Int}  {r : Bool} (H : Q74.f a0 = some r) :
    Spec Tryz.prog 45 [.agg #[.int .i64 a0.1, .int .i64 a0.2.1, .int .i64 a0.2.2.1, .int .i64 a0.2.2.2.1, .int .i64 a0.2.2.2.2.1, .int .i64 a0.2.2.2.2.2.1, .int .i64 a0.2.2.2.2.2.2.1, .int .i64 a0.2.2.2.2.2.2.2]] [] [] (fun v l => v = .bool r ∧ l = []) := by
  refine Spec.enter Tryz.func45 rfl (by kernel_rfl) (by kernel_rfl) fun w0 F0 h0 => ?_
  unfold Q74.f at H
  refine J.seq (J.region ?_)
  refine RJ.op rfl rfl (op_box rfl rfl h0) ?_
  rintro _ w1 ⟨b1, rfl, h1⟩
  replace h1 : St w0 F0 [boxC b1 23 [.int .i64 a0.1, .int .i64 a0.2.1, .int .i64 a0.2.2.1, .int .i64 a0.2.2.2.1, .int .i64 a0.2.2.2.2.1, .int .i64 a0.2.2.2.2.2.1, .int .i64 a0.2.2.2.2.2.2.1, .int .i64 a0.2.2.2.2.2.2.2]] _ _ := h1
  refine RJ.run ttok 1 rfl ?_
  refine RJ.fin [(1, .pointer (some ⟨b1, 0, none⟩))] rfl ?_
  refine J.seq (J.seq (J.region ?_))
  refine RJ.run ttok 1 rfl ?_
  refine RJ.q rfl rfl (q_load_box ttok 0 h1.wht rfl rfl rfl rfl rfl) ?_
  obtain ⟨r1, q1, H⟩ := bind_t H
  refine RJ.op rfl rfl (op_call [] (Q75.spec q1) rfl rfl rfl h1 rfl gnil) ?_
  rintro _ w2 ⟨_, ⟨rfl, rfl⟩, h2⟩
  replace h2 : St w0 F0 [_] _ _ := h2
  refine RJ.run ttok 2 rfl ?_
  rcases Bool.eq_false_or_eq_true (!r1) with c1 | c1
  · replace H := ite_t c1 H
    refine RJ.know (t := 7) rfl (congrArg Value.bool c1) ?_
    refine RJ.run ttok 11 rfl ?_
    refine RJ.fin [(1, _), (18, .bool true)] rfl ?_
    refine J.condT rfl ?_
    refine J.seq (J.region ?_)
    refine RJ.run ttok 1 rfl ?_
    refine RJ.fin [(2, .bool false)] rfl ?_
    refine J.ret ?_
    obtain rfl := Option.some.inj H
    exact ⟨_, _, _, (results_slots rfl), ⟨rfl, rfl⟩, h2.only [] rfl⟩
  replace H := ite_f c1 H
  refine RJ.know (t := 7) rfl (congrArg Value.bool c1) ?_
  refine RJ.run ttok 1 rfl ?_
  refine RJ.q rfl rfl (q_load_box ttok 0 h2.wht rfl rfl rfl rfl rfl) ?_
  obtain ⟨r2, q2, H⟩ := bind_t H
  refine RJ.op rfl rfl (op_call [] (Q75.spec q2) rfl rfl rfl h2 rfl gnil) ?_
  rintro _ w3 ⟨_, ⟨rfl, rfl⟩, h3⟩
  replace h3 : St w0 F0 [_] _ _ := h3
  refine RJ.run ttok 3 rfl ?_
  rcases Bool.eq_false_or_eq_true (!r2) with c2 | c2
  · replace H := ite_t c2 H
    refine RJ.know (t := 13) rfl (congrArg Value.bool c2) ?_
    refine RJ.run ttok 5 rfl ?_
    refine RJ.fin [(1, _), (18, .bool true)] rfl ?_
    refine J.condT rfl ?_
    refine J.seq (J.region ?_)
    refine RJ.run ttok 1 rfl ?_
    refine RJ.fin [(2, .bool false)] rfl ?_
    refine J.ret ?_
    obtain rfl := Option.some.inj H
    exact ⟨_, _, _, (results_slots rfl), ⟨rfl, rfl⟩, h3.only [] rfl⟩
  replace H := ite_f c2 H
  refine RJ.know (t := 13) rfl (congrArg Value.bool c2) ?_
  refine RJ.run ttok 1 rfl ?_
  refine RJ.q rfl rfl (q_load_box ttok 0 h3.wht rfl rfl rfl rfl rfl) ?_
  obtain ⟨r3, q3, H⟩ := bind_t H
  refine RJ.op rfl rfl (op_call [] (Q75.spec q3) rfl rfl rfl h3 rfl gnil) ?_
  rintro _ w4 ⟨_, ⟨rfl, rfl⟩, h4⟩
  replace h4 : St w0 F0 [_] _ _ := h4
  refine RJ.run ttok 2 rfl ?_
  refine RJ.fin [(1, _), (18, .bool (!r3))] rfl ?_
  refine J.cond rfl (fun c3 => ?_) (fun c3 => ?_)
  · replace H := ite_t c3 H
    refine J.seq (J.region ?_)
    refine RJ.run ttok 1 rfl ?_
    refine RJ.fin [(2, .bool false)] rfl ?_
    refine J.ret ?_
    obtain rfl := Option.some.inj H
    exact ⟨_, _, _, (results_slots rfl), ⟨rfl, rfl⟩, h4.only [] rfl⟩
  replace H := ite_f c3 H
  refine J.skip ?_
  refine J.seq (J.region ?_)
  refine RJ.run ttok 1 rfl ?_
  refine RJ.q rfl rfl (q_load_box ttok 0 h4.wht rfl rfl rfl rfl rfl) ?_
  refine RJ.run ttok 1 rfl ?_
  refine RJ.q rfl rfl (q_load_box ttok 0 h4.wht rfl rfl rfl rfl rfl) ?_
  refine RJ.run ttok 1 rfl ?_
  obtain ⟨r4, q4, H⟩ := bind_t H
  refine RJ.op rfl rfl (op_call [] (Q75.spec q4) rfl rfl rfl h4 rfl gnil) ?_
  rintro _ w5 ⟨_, ⟨rfl, rfl⟩, h5⟩
  replace h5 : St w0 F0 [_] _ _ := h5
  refine RJ.run ttok 1 rfl ?_
  rcases Bool.eq_false_or_eq_true r4 with c4 | c4
  · replace H := ite_t c4 H
    refine RJ.know (t := 25) rfl (congrArg Value.bool c4) ?_
    refine RJ.run ttok 1 rfl ?_
    refine RJ.q rfl rfl (q_load_box ttok 0 h5.wht rfl rfl rfl rfl rfl) ?_
    refine RJ.run ttok 1 rfl ?_
    refine RJ.q rfl rfl (q_load_box ttok 0 h5.wht rfl rfl rfl rfl rfl) ?_
    obtain ⟨r5, q5, H⟩ := bind_t H
    refine RJ.op rfl rfl (op_call [] (Q75.spec q5) rfl rfl rfl h5 rfl gnil) ?_
    rintro _ w6 ⟨_, ⟨rfl, rfl⟩, h6⟩
    replace h6 : St w0 F0 [_] _ _ := h6
    refine RJ.run ttok 2 rfl ?_
    refine RJ.fin [(2, .bool r5)] rfl ?_
    refine J.ret ?_
    obtain rfl := Option.some.inj H
    exact ⟨_, _, _, (results_slots rfl), ⟨rfl, rfl⟩, h6.only [] rfl⟩
  replace H := ite_f c4 H
  refine RJ.know (t := 25) rfl (congrArg Value.bool c4) ?_
  refine RJ.run ttok 7 rfl ?_
  refine RJ.fin [(2, .bool false)] rfl ?_
  refine J.ret ?_
  obtain rfl := Option.some.inj H
  exact ⟨_, _, _, (results_slots rfl), ⟨rfl, rfl⟩, h5.only [] rfl⟩

def Q71.l1 : Nat → (Int × Int × Int × Int × Int × Int × Int × Int) → (Int) → (Int) → Option (Int)
  | 0, _, _, _ => none
  | k + 1, a0, x3, x4 => if (decide (x4 < a0.2.2.2.2.1)) = true then (Q71.l1 k a0 (w64 ((w64 ((w64 (x3 + 4)) + a0.2.2.2.2.2.2.1)) + a0.2.2.2.2.2.2.2)) (w64 (x4 + 1))) else (some x3)
def Q71.l0 : Nat → (Int × Int × Int × Int × Int × Int × Int × Int) → (Int) → (Int) → Option (Int)
  | 0, _, _, _ => none
  | k + 1, a0, x1, x2 => if (decide (x2 < a0.2.2.2.1)) = true then (if (decide (0 < x2)) = true then (Q71.l0 k a0 (w64 ((w64 ((w64 (x1 + 4)) + 1)) + a0.2.2.2.2.2.2.1)) (w64 (x2 + 1))) else (Q71.l0 k a0 (w64 (x1 + 4)) (w64 (x2 + 1)))) else (Q71.l1 k a0 x1 0)
def Q71.f (k : Nat) (a0 : Int × Int × Int × Int × Int × Int × Int × Int) : Option (Int) := (Q74.f (a0.1, a0.2.1, a0.2.2.1, a0.2.2.2.1, a0.2.2.2.2.1, a0.2.2.2.2.2.1, a0.2.2.2.2.2.2.1, a0.2.2.2.2.2.2.2)).bind fun r1 => (if (!r1) = true then (some 0) else (Q71.l0 k a0 8 0))
theorem Q71.spec {k : Nat} {a0 : Int × Int × Int × Int × Int × Int × Int × Int}  {r : Int} (H : Q71.f k a0 = some r) :
    Spec Tryz.prog 47 [.agg #[.int .i64 a0.1, .int .i64 a0.2.1, .int .i64 a0.2.2.1, .int .i64 a0.2.2.2.1, .int .i64 a0.2.2.2.2.1, .int .i64 a0.2.2.2.2.2.1, .int .i64 a0.2.2.2.2.2.2.1, .int .i64 a0.2.2.2.2.2.2.2]] [] [] (fun v l => v = .int .i64 r ∧ l = []) := by
  refine Spec.enter Tryz.func47 rfl (by kernel_rfl) (by kernel_rfl) fun w0 F0 h0 => ?_
  unfold Q71.f at H
  refine J.seq (J.region ?_)
  refine RJ.op rfl rfl (op_box rfl rfl h0) ?_
  rintro _ w1 ⟨b1, rfl, h1⟩
  replace h1 : St w0 F0 [boxC b1 23 [.int .i64 a0.1, .int .i64 a0.2.1, .int .i64 a0.2.2.1, .int .i64 a0.2.2.2.1, .int .i64 a0.2.2.2.2.1, .int .i64 a0.2.2.2.2.2.1, .int .i64 a0.2.2.2.2.2.2.1, .int .i64 a0.2.2.2.2.2.2.2]] _ _ := h1
  refine RJ.run ttok 1 rfl ?_
  refine RJ.fin [(1, .pointer (some ⟨b1, 0, none⟩))] rfl ?_
  refine J.seq (J.seq (J.region ?_))
  refine RJ.q rfl rfl (q_load_box ttok 0 h1.wht rfl rfl rfl rfl rfl) ?_
  obtain ⟨r1, q1, H⟩ := bind_t H
  refine RJ.op rfl rfl (op_call [] (Q74.spec q1) rfl rfl rfl h1 rfl gnil) ?_
  rintro _ w2 ⟨_, ⟨rfl, rfl⟩, h2⟩
  replace h2 : St w0 F0 [_] _ _ := h2
  refine RJ.run ttok 1 rfl ?_
  refine RJ.fin [(1, _), (8, .bool (!r1))] rfl ?_
  refine J.cond rfl (fun c1 => ?_) (fun c1 => ?_)
  · replace H := ite_t c1 H
    refine J.seq (J.region ?_)
    refine RJ.run ttok 1 rfl ?_
    refine RJ.fin [(2, .int .i64 0)] rfl ?_
    refine J.ret ?_
    obtain rfl := Option.some.inj H
    exact ⟨_, _, _, (results_slots rfl), ⟨rfl, rfl⟩, h2.only [] rfl⟩
  replace H := ite_f c1 H
  refine J.skip ?_
  refine J.seq (J.region ?_)
  refine RJ.run ttok 1 rfl ?_
  refine RJ.fin [(1, _), (3, .int .i64 8)] rfl ?_
  refine J.seq (J.seq (J.region ?_))
  refine RJ.run ttok 1 rfl ?_
  refine RJ.fin [(1, _), (3, _), (4, .int .i64 0)] rfl ?_
  refine J.block ?_
  have h9 := ((h2.only [0] rfl).rds [] rfl)
  refine J.loop (fun kk env w => ∃ (x1 : Int) (x2 : Int), env = [(1, .pointer (some ⟨b1, 0, none⟩)), (3, .int .i64 x1), (4, .int .i64 x2)] ∧ St w0 F0 [boxC b1 23 [.int .i64 a0.1, .int .i64 a0.2.1, .int .i64 a0.2.2.1, .int .i64 a0.2.2.2.1, .int .i64 a0.2.2.2.2.1, .int .i64 a0.2.2.2.2.2.1, .int .i64 a0.2.2.2.2.2.2.1, .int .i64 a0.2.2.2.2.2.2.2]] [] w ∧ Q71.l0 kk a0 x1 x2 = some r) (k := k) ⟨8, 0, rfl, h9, H⟩ ?_
  rintro k1 env w3 ⟨x1, x2, rfl, h3, H⟩
  cases k1 with
  | zero => exact nomatch (show none = some r from H)
  | succ k1 =>
    rw [Q71.l0] at H
    refine J.seq (J.seq (J.region ?_))
    refine RJ.run ttok 2 rfl ?_
    refine RJ.q rfl rfl (q_load_box ttok 0 h3.wht rfl rfl rfl rfl rfl) ?_
    refine RJ.run ttok 1 rfl ?_
    refine RJ.fin [(1, _), (3, _), (4, _), (12, .bool (decide (x2 < a0.2.2.2.1)))] rfl ?_
    refine J.cond rfl (fun c2 => ?_) (fun c2 => ?_)
    · replace H := ite_t c2 H
      refine J.skip ?_
      refine J.seq (J.block (J.seq (J.region ?_)))
      refine RJ.run ttok 3 rfl ?_
      refine RJ.fin [(1, _), (3, .int .i64 (w64 (x1 + 4))), (4, _)] rfl ?_
      refine J.seq (J.region ?_)
      refine RJ.run ttok 2 rfl ?_
      refine RJ.fin [(1, _), (3, _), (4, _), (18, .bool (decide (0 < x2)))] rfl ?_
      refine J.cond rfl (fun c3 => ?_) (fun c3 => ?_)
      · replace H := ite_t c3 H
        refine J.region ?_
        refine RJ.run ttok 3 rfl ?_
        refine RJ.q rfl rfl (q_load_box ttok 0 h3.wht rfl rfl rfl rfl rfl) ?_
        refine RJ.run ttok 2 rfl ?_
        refine RJ.fin [(1, _), (3, .int .i64 (w64 ((w64 ((w64 (x1 + 4)) + 1)) + a0.2.2.2.2.2.2.1))), (4, _)] rfl ?_
        refine J.region ?_
        refine RJ.run ttok 3 rfl ?_
        refine RJ.fin [(1, _), (3, _), (4, .int .i64 (w64 (x2 + 1)))] rfl ?_
        have h4 := ((h3.only [0] rfl).rds [] rfl)
        exact ⟨k1, by omega, (w64 ((w64 ((w64 (x1 + 4)) + 1)) + a0.2.2.2.2.2.2.1)), (w64 (x2 + 1)), rfl, h4, H⟩
      replace H := ite_f c3 H
      refine J.skip ?_
      refine J.region ?_
      refine RJ.run ttok 3 rfl ?_
      refine RJ.fin [(1, _), (3, _), (4, .int .i64 (w64 (x2 + 1)))] rfl ?_
      have h5 := ((h3.only [0] rfl).rds [] rfl)
      exact ⟨k1, by omega, (w64 (x1 + 4)), (w64 (x2 + 1)), rfl, h5, H⟩
    replace H := ite_f c2 H
    refine J.exit ?_
    refine J.seq (J.seq (J.region ?_))
    refine RJ.run ttok 1 rfl ?_
    refine RJ.fin [(1, _), (3, _), (5, .int .i64 0)] rfl ?_
    refine J.block ?_
    have h8 := ((h3.only [0] rfl).rds [] rfl)
    refine J.loop (fun kk env w => ∃ (x3 : Int) (x4 : Int), env = [(1, .pointer (some ⟨b1, 0, none⟩)), (3, .int .i64 x3), (5, .int .i64 x4)] ∧ St w0 F0 [boxC b1 23 [.int .i64 a0.1, .int .i64 a0.2.1, .int .i64 a0.2.2.1, .int .i64 a0.2.2.2.1, .int .i64 a0.2.2.2.2.1, .int .i64 a0.2.2.2.2.2.1, .int .i64 a0.2.2.2.2.2.2.1, .int .i64 a0.2.2.2.2.2.2.2]] [] w ∧ Q71.l1 kk a0 x3 x4 = some r) (k := k1) ⟨x1, 0, rfl, h8, H⟩ ?_
    rintro k2 env w4 ⟨x3, x4, rfl, h6, H⟩
    cases k2 with
    | zero => exact nomatch (show none = some r from H)
    | succ k2 =>
      rw [Q71.l1] at H
      refine J.seq (J.seq (J.region ?_))
      refine RJ.run ttok 2 rfl ?_
      refine RJ.q rfl rfl (q_load_box ttok 0 h6.wht rfl rfl rfl rfl rfl) ?_
      refine RJ.run ttok 1 rfl ?_
      refine RJ.fin [(1, _), (3, _), (5, _), (27, .bool (decide (x4 < a0.2.2.2.2.1)))] rfl ?_
      refine J.cond rfl (fun c4 => ?_) (fun c4 => ?_)
      · replace H := ite_t c4 H
        refine J.skip ?_
        refine J.seq (J.block (J.region ?_))
        refine RJ.run ttok 3 rfl ?_
        refine RJ.q rfl rfl (q_load_box ttok 0 h6.wht rfl rfl rfl rfl rfl) ?_
        refine RJ.run ttok 2 rfl ?_
        refine RJ.q rfl rfl (q_load_box ttok 0 h6.wht rfl rfl rfl rfl rfl) ?_
        refine RJ.run ttok 2 rfl ?_
        refine RJ.fin [(1, _), (3, .int .i64 (w64 ((w64 ((w64 (x3 + 4)) + a0.2.2.2.2.2.2.1)) + a0.2.2.2.2.2.2.2))), (5, _)] rfl ?_
        refine J.region ?_
        refine RJ.run ttok 3 rfl ?_
        refine RJ.fin [(1, _), (3, _), (5, .int .i64 (w64 (x4 + 1)))] rfl ?_
        have h7 := ((h6.only [0] rfl).rds [] rfl)
        exact ⟨k2, by omega, (w64 ((w64 ((w64 (x3 + 4)) + a0.2.2.2.2.2.2.1)) + a0.2.2.2.2.2.2.2)), (w64 (x4 + 1)), rfl, h7, H⟩
      replace H := ite_f c4 H
      refine J.exit ?_
      refine J.seq (J.region ?_)
      refine RJ.run ttok 2 rfl ?_
      refine RJ.fin [(2, .int .i64 x3)] rfl ?_
      refine J.ret ?_
      obtain rfl := Option.some.inj H
      exact ⟨_, _, _, (results_slots rfl), ⟨rfl, rfl⟩, h6.only [] rfl⟩

def Q72.l0 : Nat → (Int × Int × Int × Int × Int × Int × Int × Int) → (Int) → (Int) → Option (Int)
  | 0, _, _, _ => none
  | k + 1, a0, x1, x2 => if (decide (x2 < a0.2.2.2.2.2.1)) = true then (Q72.l0 k a0 (w64 ((w64 ((w64 (x1 + 3)) + a0.2.2.2.2.2.2.1)) + a0.2.2.2.2.2.2.2)) (w64 (x2 + 1))) else (some x1)
def Q72.f (k : Nat) (a0 : Int × Int × Int × Int × Int × Int × Int × Int) : Option (Int) := (Q74.f (a0.1, a0.2.1, a0.2.2.1, a0.2.2.2.1, a0.2.2.2.2.1, a0.2.2.2.2.2.1, a0.2.2.2.2.2.2.1, a0.2.2.2.2.2.2.2)).bind fun r1 => (if (!r1) = true then (some 0) else (Q72.l0 k a0 8 0))
theorem Q72.spec {k : Nat} {a0 : Int × Int × Int × Int × Int × Int × Int × Int}  {r : Int} (H : Q72.f k a0 = some r) :
    Spec Tryz.prog 48 [.agg #[.int .i64 a0.1, .int .i64 a0.2.1, .int .i64 a0.2.2.1, .int .i64 a0.2.2.2.1, .int .i64 a0.2.2.2.2.1, .int .i64 a0.2.2.2.2.2.1, .int .i64 a0.2.2.2.2.2.2.1, .int .i64 a0.2.2.2.2.2.2.2]] [] [] (fun v l => v = .int .i64 r ∧ l = []) := by
  refine Spec.enter Tryz.func48 rfl (by kernel_rfl) (by kernel_rfl) fun w0 F0 h0 => ?_
  unfold Q72.f at H
  refine J.seq (J.region ?_)
  refine RJ.op rfl rfl (op_box rfl rfl h0) ?_
  rintro _ w1 ⟨b1, rfl, h1⟩
  replace h1 : St w0 F0 [boxC b1 23 [.int .i64 a0.1, .int .i64 a0.2.1, .int .i64 a0.2.2.1, .int .i64 a0.2.2.2.1, .int .i64 a0.2.2.2.2.1, .int .i64 a0.2.2.2.2.2.1, .int .i64 a0.2.2.2.2.2.2.1, .int .i64 a0.2.2.2.2.2.2.2]] _ _ := h1
  refine RJ.run ttok 1 rfl ?_
  refine RJ.fin [(1, .pointer (some ⟨b1, 0, none⟩))] rfl ?_
  refine J.seq (J.seq (J.region ?_))
  refine RJ.q rfl rfl (q_load_box ttok 0 h1.wht rfl rfl rfl rfl rfl) ?_
  obtain ⟨r1, q1, H⟩ := bind_t H
  refine RJ.op rfl rfl (op_call [] (Q74.spec q1) rfl rfl rfl h1 rfl gnil) ?_
  rintro _ w2 ⟨_, ⟨rfl, rfl⟩, h2⟩
  replace h2 : St w0 F0 [_] _ _ := h2
  refine RJ.run ttok 1 rfl ?_
  refine RJ.fin [(1, _), (7, .bool (!r1))] rfl ?_
  refine J.cond rfl (fun c1 => ?_) (fun c1 => ?_)
  · replace H := ite_t c1 H
    refine J.seq (J.region ?_)
    refine RJ.run ttok 1 rfl ?_
    refine RJ.fin [(2, .int .i64 0)] rfl ?_
    refine J.ret ?_
    obtain rfl := Option.some.inj H
    exact ⟨_, _, _, (results_slots rfl), ⟨rfl, rfl⟩, h2.only [] rfl⟩
  replace H := ite_f c1 H
  refine J.skip ?_
  refine J.seq (J.region ?_)
  refine RJ.run ttok 1 rfl ?_
  refine RJ.fin [(1, _), (3, .int .i64 8)] rfl ?_
  refine J.seq (J.seq (J.region ?_))
  refine RJ.run ttok 1 rfl ?_
  refine RJ.fin [(1, _), (3, _), (4, .int .i64 0)] rfl ?_
  refine J.block ?_
  have h5 := ((h2.only [0] rfl).rds [] rfl)
  refine J.loop (fun kk env w => ∃ (x1 : Int) (x2 : Int), env = [(1, .pointer (some ⟨b1, 0, none⟩)), (3, .int .i64 x1), (4, .int .i64 x2)] ∧ St w0 F0 [boxC b1 23 [.int .i64 a0.1, .int .i64 a0.2.1, .int .i64 a0.2.2.1, .int .i64 a0.2.2.2.1, .int .i64 a0.2.2.2.2.1, .int .i64 a0.2.2.2.2.2.1, .int .i64 a0.2.2.2.2.2.2.1, .int .i64 a0.2.2.2.2.2.2.2]] [] w ∧ Q72.l0 kk a0 x1 x2 = some r) (k := k) ⟨8, 0, rfl, h5, H⟩ ?_
  rintro k1 env w3 ⟨x1, x2, rfl, h3, H⟩
  cases k1 with
  | zero => exact nomatch (show none = some r from H)
  | succ k1 =>
    rw [Q72.l0] at H
    refine J.seq (J.seq (J.region ?_))
    refine RJ.run ttok 2 rfl ?_
    refine RJ.q rfl rfl (q_load_box ttok 0 h3.wht rfl rfl rfl rfl rfl) ?_
    refine RJ.run ttok 1 rfl ?_
    refine RJ.fin [(1, _), (3, _), (4, _), (11, .bool (decide (x2 < a0.2.2.2.2.2.1)))] rfl ?_
    refine J.cond rfl (fun c2 => ?_) (fun c2 => ?_)
    · replace H := ite_t c2 H
      refine J.skip ?_
      refine J.seq (J.block (J.region ?_))
      refine RJ.run ttok 3 rfl ?_
      refine RJ.q rfl rfl (q_load_box ttok 0 h3.wht rfl rfl rfl rfl rfl) ?_
      refine RJ.run ttok 2 rfl ?_
      refine RJ.q rfl rfl (q_load_box ttok 0 h3.wht rfl rfl rfl rfl rfl) ?_
      refine RJ.run ttok 2 rfl ?_
      refine RJ.fin [(1, _), (3, .int .i64 (w64 ((w64 ((w64 (x1 + 3)) + a0.2.2.2.2.2.2.1)) + a0.2.2.2.2.2.2.2))), (4, _)] rfl ?_
      refine J.region ?_
      refine RJ.run ttok 3 rfl ?_
      refine RJ.fin [(1, _), (3, _), (4, .int .i64 (w64 (x2 + 1)))] rfl ?_
      have h4 := ((h3.only [0] rfl).rds [] rfl)
      exact ⟨k1, by omega, (w64 ((w64 ((w64 (x1 + 3)) + a0.2.2.2.2.2.2.1)) + a0.2.2.2.2.2.2.2)), (w64 (x2 + 1)), rfl, h4, H⟩
    replace H := ite_f c2 H
    refine J.exit ?_
    refine J.seq (J.region ?_)
    refine RJ.run ttok 2 rfl ?_
    refine RJ.fin [(2, .int .i64 x1)] rfl ?_
    refine J.ret ?_
    obtain rfl := Option.some.inj H
    exact ⟨_, _, _, (results_slots rfl), ⟨rfl, rfl⟩, h3.only [] rfl⟩

def Q73.f (k : Nat) (a0 : Int × Int × Int × Int × Int × Int × Int × Int) : Option (Bool) := (Q74.f (a0.1, a0.2.1, a0.2.2.1, a0.2.2.2.1, a0.2.2.2.2.1, a0.2.2.2.2.2.1, a0.2.2.2.2.2.2.1, a0.2.2.2.2.2.2.2)).bind fun r1 => (if r1 = true then ((Q75.f a0.1 5 65536).bind fun r2 => (if r2 = true then ((Q75.f a0.2.2.1 8 64).bind fun r3 => (if r3 = true then ((Q75.f a0.2.1 64 65536).bind fun r4 => (if r4 = true then ((Q71.f k (a0.1, a0.2.1, a0.2.2.1, a0.2.2.2.1, a0.2.2.2.2.1, a0.2.2.2.2.2.1, a0.2.2.2.2.2.2.1, a0.2.2.2.2.2.2.2)).bind fun r5 => (if (decide (r5 ≤ a0.2.1)) = true then ((Q72.f k (a0.1, a0.2.1, a0.2.2.1, a0.2.2.2.1, a0.2.2.2.2.1, a0.2.2.2.2.2.1, a0.2.2.2.2.2.2.1, a0.2.2.2.2.2.2.2)).bind fun r6 => (some (decide (r6 ≤ a0.2.1)))) else (some false))) else (some false))) else (some false))) else (some false))) else (some false))
theorem Q73.spec {k : Nat} {a0 : Int × Int × Int × Int × Int × Int × Int × Int}  {r : Bool} (H : Q73.f k a0 = some r) :
    Spec Tryz.prog 20 [.agg #[.int .i64 a0.1, .int .i64 a0.2.1, .int .i64 a0.2.2.1, .int .i64 a0.2.2.2.1, .int .i64 a0.2.2.2.2.1, .int .i64 a0.2.2.2.2.2.1, .int .i64 a0.2.2.2.2.2.2.1, .int .i64 a0.2.2.2.2.2.2.2]] [] [] (fun v l => v = .bool r ∧ l = []) := by
  refine Spec.enter Tryz.func20 rfl (by kernel_rfl) (by kernel_rfl) fun w0 F0 h0 => ?_
  unfold Q73.f at H
  refine J.seq (J.region ?_)
  refine RJ.op rfl rfl (op_box rfl rfl h0) ?_
  rintro _ w1 ⟨b1, rfl, h1⟩
  replace h1 : St w0 F0 [boxC b1 23 [.int .i64 a0.1, .int .i64 a0.2.1, .int .i64 a0.2.2.1, .int .i64 a0.2.2.2.1, .int .i64 a0.2.2.2.2.1, .int .i64 a0.2.2.2.2.2.1, .int .i64 a0.2.2.2.2.2.2.1, .int .i64 a0.2.2.2.2.2.2.2]] _ _ := h1
  refine RJ.run ttok 1 rfl ?_
  refine RJ.fin [(1, .pointer (some ⟨b1, 0, none⟩))] rfl ?_
  refine J.seq ?_
  refine J.heldSt mix h1 ?_
  have h2 := h1.drew
  refine HJ.q (i := 0) rfl rfl rfl rfl rfl rfl (q_load_box ttok 0 (fun w e => e) rfl rfl rfl rfl rfl) ?_
  obtain ⟨r1, q1, H⟩ := bind_t H
  refine HJ.op (i := 1) rfl rfl rfl rfl rfl (op_call [] (Q74.spec q1) rfl rfl rfl h2 rfl gnil) ?_
  rintro _ w2 ⟨_, ⟨rfl, rfl⟩, h3⟩
  replace h3 : St w0 F0 [_] _ _ := h3
  refine ⟨⟨[], h3⟩, ?_⟩
  refine HJ.run ttok rfl [2] rfl ?_
  rcases Bool.eq_false_or_eq_true r1 with c1 | c1
  · replace H := ite_t c1 H
    refine HJ.know (t := 5) rfl (congrArg Value.bool c1) ?_
    refine HJ.run ttok rfl [3] rfl ?_
    refine HJ.q (i := 4) rfl rfl rfl rfl rfl rfl (q_load_box ttok 0 (fun w e => e) rfl rfl rfl rfl rfl) ?_
    obtain ⟨r2, q2, H⟩ := bind_t H
    refine HJ.op (i := 5) rfl rfl rfl rfl rfl (op_call [] (Q75.spec q2) rfl rfl rfl h3 rfl gnil) ?_
    rintro _ w3 ⟨_, ⟨rfl, rfl⟩, h4⟩
    replace h4 : St w0 F0 [_] _ _ := h4
    refine ⟨⟨[], h4⟩, ?_⟩
    refine HJ.run ttok rfl [6, 7] rfl ?_
    rcases Bool.eq_false_or_eq_true r2 with c2 | c2
    · replace H := ite_t c2 H
      refine HJ.know (t := 10) rfl (congrArg Value.bool c2) ?_
      refine HJ.run ttok rfl [8] rfl ?_
      refine HJ.q (i := 9) rfl rfl rfl rfl rfl rfl (q_load_box ttok 0 (fun w e => e) rfl rfl rfl rfl rfl) ?_
      obtain ⟨r3, q3, H⟩ := bind_t H
      refine HJ.op (i := 10) rfl rfl rfl rfl rfl (op_call [] (Q75.spec q3) rfl rfl rfl h4 rfl gnil) ?_
      rintro _ w4 ⟨_, ⟨rfl, rfl⟩, h5⟩
      replace h5 : St w0 F0 [_] _ _ := h5
      refine ⟨⟨[], h5⟩, ?_⟩
      refine HJ.run ttok rfl [11, 12] rfl ?_
      rcases Bool.eq_false_or_eq_true r3 with c3 | c3
      · replace H := ite_t c3 H
        refine HJ.know (t := 15) rfl (congrArg Value.bool c3) ?_
        refine HJ.run ttok rfl [13] rfl ?_
        refine HJ.q (i := 14) rfl rfl rfl rfl rfl rfl (q_load_box ttok 0 (fun w e => e) rfl rfl rfl rfl rfl) ?_
        obtain ⟨r4, q4, H⟩ := bind_t H
        refine HJ.op (i := 15) rfl rfl rfl rfl rfl (op_call [] (Q75.spec q4) rfl rfl rfl h5 rfl gnil) ?_
        rintro _ w5 ⟨_, ⟨rfl, rfl⟩, h6⟩
        replace h6 : St w0 F0 [_] _ _ := h6
        refine ⟨⟨[], h6⟩, ?_⟩
        refine HJ.run ttok rfl [16, 17] rfl ?_
        rcases Bool.eq_false_or_eq_true r4 with c4 | c4
        · replace H := ite_t c4 H
          refine HJ.know (t := 20) rfl (congrArg Value.bool c4) ?_
          refine HJ.run ttok rfl [18] rfl ?_
          refine HJ.q (i := 19) rfl rfl rfl rfl rfl rfl (q_load_box ttok 0 (fun w e => e) rfl rfl rfl rfl rfl) ?_
          refine HJ.q (i := 20) rfl rfl rfl rfl rfl rfl (q_load_box ttok 0 (fun w e => e) rfl rfl rfl rfl rfl) ?_
          obtain ⟨r5, q5, H⟩ := bind_t H
          refine HJ.op (i := 21) rfl rfl rfl rfl rfl (op_call [] (Q71.spec q5) rfl rfl rfl h6 rfl gnil) ?_
          rintro _ w6 ⟨_, ⟨rfl, rfl⟩, h7⟩
          replace h7 : St w0 F0 [_] _ _ := h7
          refine ⟨⟨[], h7⟩, ?_⟩
          refine HJ.run ttok rfl [22, 23, 24] rfl ?_
          rcases Bool.eq_false_or_eq_true (decide (r5 ≤ a0.2.1)) with c5 | c5
          · replace H := ite_t c5 H
            refine HJ.know (t := 27) rfl (congrArg Value.bool c5) ?_
            refine HJ.run ttok rfl [25] rfl ?_
            refine HJ.q (i := 26) rfl rfl rfl rfl rfl rfl (q_load_box ttok 0 (fun w e => e) rfl rfl rfl rfl rfl) ?_
            refine HJ.q (i := 27) rfl rfl rfl rfl rfl rfl (q_load_box ttok 0 (fun w e => e) rfl rfl rfl rfl rfl) ?_
            obtain ⟨r6, q6, H⟩ := bind_t H
            refine HJ.op (i := 28) rfl rfl rfl rfl rfl (op_call [] (Q72.spec q6) rfl rfl rfl h7 rfl gnil) ?_
            rintro _ w7 ⟨_, ⟨rfl, rfl⟩, h8⟩
            replace h8 : St w0 F0 [_] _ _ := h8
            refine ⟨⟨[], h8⟩, ?_⟩
            refine HJ.run ttok rfl [29, 30, 31] rfl ?_
            refine HJ.fin [(2, .bool (decide (r6 ≤ a0.2.1)))] rfl rfl ?_
            refine J.ret ?_
            obtain rfl := Option.some.inj H
            exact ⟨_, _, _, (results_slots rfl), ⟨rfl, rfl⟩, h8.only [] rfl⟩
          replace H := ite_f c5 H
          refine HJ.know (t := 27) rfl (congrArg Value.bool c5) ?_
          refine HJ.run ttok rfl [25, 26, 27, 28, 29, 30, 31] rfl ?_
          refine HJ.fin [(2, .bool false)] rfl rfl ?_
          refine J.ret ?_
          obtain rfl := Option.some.inj H
          exact ⟨_, _, _, (results_slots rfl), ⟨rfl, rfl⟩, h7.only [] rfl⟩
        replace H := ite_f c4 H
        refine HJ.know (t := 20) rfl (congrArg Value.bool c4) ?_
        refine HJ.run ttok rfl [18, 19, 20, 21, 22, 23, 24, 25, 26, 27, 28, 29, 30, 31] rfl ?_
        refine HJ.fin [(2, .bool false)] rfl rfl ?_
        refine J.ret ?_
        obtain rfl := Option.some.inj H
        exact ⟨_, _, _, (results_slots rfl), ⟨rfl, rfl⟩, h6.only [] rfl⟩
      replace H := ite_f c3 H
      refine HJ.know (t := 15) rfl (congrArg Value.bool c3) ?_
      refine HJ.run ttok rfl [13, 14, 15, 16, 17, 18, 19, 20, 21, 22, 23, 24, 25, 26, 27, 28, 29, 30, 31] rfl ?_
      refine HJ.fin [(2, .bool false)] rfl rfl ?_
      refine J.ret ?_
      obtain rfl := Option.some.inj H
      exact ⟨_, _, _, (results_slots rfl), ⟨rfl, rfl⟩, h5.only [] rfl⟩
    replace H := ite_f c2 H
    refine HJ.know (t := 10) rfl (congrArg Value.bool c2) ?_
    refine HJ.run ttok rfl [8, 9, 10, 11, 12, 13, 14, 15, 16, 17, 18, 19, 20, 21, 22, 23, 24, 25, 26, 27, 28, 29, 30, 31] rfl ?_
    refine HJ.fin [(2, .bool false)] rfl rfl ?_
    refine J.ret ?_
    obtain rfl := Option.some.inj H
    exact ⟨_, _, _, (results_slots rfl), ⟨rfl, rfl⟩, h4.only [] rfl⟩
  replace H := ite_f c1 H
  refine HJ.know (t := 5) rfl (congrArg Value.bool c1) ?_
  refine HJ.run ttok rfl [3, 4, 5, 6, 7, 8, 9, 10, 11, 12, 13, 14, 15, 16, 17, 18, 19, 20, 21, 22, 23, 24, 25, 26, 27, 28, 29, 30, 31] rfl ?_
  refine HJ.fin [(2, .bool false)] rfl rfl ?_
  refine J.ret ?_
  obtain rfl := Option.some.inj H
  exact ⟨_, _, _, (results_slots rfl), ⟨rfl, rfl⟩, h3.only [] rfl⟩

def Q90.f  : Option ((List UInt8 × List UInt8 × Bool)) := some (([] : List UInt8), ([] : List UInt8), true)
theorem Q90.spec   {r : (List UInt8 × List UInt8 × Bool)} (H : Q90.f  = some r) :
    Spec Tryz.prog 36 [] [] [] (fun v l => v = .agg #[.string ⟨⟨r.1⟩⟩, .string ⟨⟨r.2.1⟩⟩, .bool r.2.2] ∧ l = []) := by
  refine Spec.enter Tryz.func36 rfl (by kernel_rfl) (by kernel_rfl) fun w0 F0 h0 => ?_
  unfold Q90.f at H
  refine J.seq (J.region ?_)
  refine RJ.op rfl rfl (op_alloc ttok rfl rfl h0) ?_
  rintro _ w1 ⟨b1, rfl, h1⟩
  replace h1 : St w0 F0 [boxC b1 55 [.string ⟨⟨([] : List UInt8)⟩⟩, .string ⟨⟨([] : List UInt8)⟩⟩, .bool false]] _ _ := h1
  refine RJ.fin [(0, .pointer (some ⟨b1, 0, none⟩))] rfl ?_
  refine J.seq (J.region ?_)
  refine RJ.run ttok 1 rfl ?_
  refine RJ.op rfl rfl (op_store ttok 0 rfl h1 rfl rfl rfl rfl rfl rfl rfl) ?_
  intro _ w2 h2
  replace h2 : St w0 F0 [boxC b1 55 [.string ⟨⟨([] : List UInt8)⟩⟩, .string ⟨⟨([] : List UInt8)⟩⟩, .bool true]] _ _ := h2
  refine RJ.fin [(0, _)] rfl ?_
  refine J.ret ?_
  obtain rfl := Option.some.inj H
  exact ⟨_, _, _, (results_two rfl (rvcons (RV.cell ttok 0 h2 rfl rfl rfl rfl) rvnil) rfl), ⟨rfl, rfl⟩, h2.only [] rfl⟩

def Q84.f (a0 : Int × Int × Int × Int × Int × Int × Int × Int) (a1 : List UInt8) : Option (Bool) := if (decide (1 ≤ (a1.length : Int))) = true then (some (decide ((a1.length : Int) ≤ a0.2.2.2.2.2.2.1))) else (some false)
theorem Q84.spec {a0 : Int × Int × Int × Int × Int × Int × Int × Int} {a1 : List UInt8}  {r : Bool} (H : Q84.f a0 a1 = some r) :
    Spec Tryz.prog 82 [.agg #[.int .i64 a0.1, .int .i64 a0.2.1, .int .i64 a0.2.2.1, .int .i64 a0.2.2.2.1, .int .i64 a0.2.2.2.2.1, .int .i64 a0.2.2.2.2.2.1, .int .i64 a0.2.2.2.2.2.2.1, .int .i64 a0.2.2.2.2.2.2.2], .string ⟨⟨a1⟩⟩] [] [] (fun v l => v = .bool r ∧ l = []) := by
  refine Spec.enter Tryz.func82 rfl (by kernel_rfl) (by kernel_rfl) fun w0 F0 h0 => ?_
  unfold Q84.f at H
  refine J.seq (J.region ?_)
  refine RJ.op rfl rfl (op_box rfl rfl h0) ?_
  rintro _ w1 ⟨b1, rfl, h1⟩
  replace h1 : St w0 F0 [boxC b1 23 [.int .i64 a0.1, .int .i64 a0.2.1, .int .i64 a0.2.2.1, .int .i64 a0.2.2.2.1, .int .i64 a0.2.2.2.2.1, .int .i64 a0.2.2.2.2.2.1, .int .i64 a0.2.2.2.2.2.2.1, .int .i64 a0.2.2.2.2.2.2.2]] _ _ := h1
  refine RJ.run ttok 1 rfl ?_
  refine RJ.fin [(1, .string ⟨⟨a1⟩⟩), (2, .pointer (some ⟨b1, 0, none⟩))] rfl ?_
  refine J.seq (J.region ?_)
  refine RJ.run ttok 4 rfl ?_
  rcases Bool.eq_false_or_eq_true (decide (1 ≤ (a1.length : Int))) with c1 | c1
  · replace H := ite_t c1 H
    refine RJ.know (t := 8) rfl (congrArg Value.bool c1) ?_
    refine RJ.run ttok 3 rfl ?_
    refine RJ.q rfl rfl (q_load_box ttok 0 h1.wht rfl rfl rfl rfl rfl) ?_
    refine RJ.run ttok 3 rfl ?_
    refine RJ.fin [(4, .bool (decide ((a1.length : Int) ≤ a0.2.2.2.2.2.2.1)))] rfl ?_
    refine J.ret ?_
    obtain rfl := Option.some.inj H
    exact ⟨_, _, _, (results_slots rfl), ⟨rfl, rfl⟩, h1.only [] rfl⟩
  replace H := ite_f c1 H
  refine RJ.know (t := 8) rfl (congrArg Value.bool c1) ?_
  refine RJ.run ttok 7 rfl ?_
  refine RJ.fin [(4, .bool false)] rfl ?_
  refine J.ret ?_
  obtain rfl := Option.some.inj H
  exact ⟨_, _, _, (results_slots rfl), ⟨rfl, rfl⟩, h1.only [] rfl⟩

def Q69.l0 : Nat → (List UInt8) → (List UInt8) → (Int) → Option (Int)
  | 0, _, _, _ => none
  | k + 1, a0, a1, x1 => if (decide (x1 < (a0.length : Int))) = true then (if (decide (x1 < (a1.length : Int))) = true then (if 0 ≤ x1 ∧ x1 < (a0.length : Int) then (if 0 ≤ x1 ∧ x1 < (a1.length : Int) then (if (decide ((gtb a0 x1) < (gtb a1 x1))) = true then (some (-1)) else (if (decide ((gtb a1 x1) < (gtb a0 x1))) = true then (some 1) else (Q69.l0 k a0 a1 (w64 (x1 + 1))))) else none) else none) else (if (decide ((a0.length : Int) < (a1.length : Int))) = true then (some (-1)) else (if (decide ((a1.length : Int) < (a0.length : Int))) = true then (some 1) else (some 0)))) else (if (decide ((a0.length : Int) < (a1.length : Int))) = true then (some (-1)) else (if (decide ((a1.length : Int) < (a0.length : Int))) = true then (some 1) else (some 0)))
def Q69.f (k : Nat) (a0 : List UInt8) (a1 : List UInt8) : Option (Int) := Q69.l0 k a0 a1 0
theorem Q69.spec {k : Nat} {a0 : List UInt8} {a1 : List UInt8}  {r : Int} (H : Q69.f k a0 a1 = some r) :
    Spec Tryz.prog 94 [.string ⟨⟨a0⟩⟩, .string ⟨⟨a1⟩⟩] [] [] (fun v l => v = .int .i64 r ∧ l = []) := by
  refine Spec.enter Tryz.func94 rfl (by kernel_rfl) (by kernel_rfl) fun w0 F0 h0 => ?_
  unfold Q69.f at H
  refine J.seq (J.region ?_)
  refine RJ.run ttok 1 rfl ?_
  refine RJ.fin [(0, .string ⟨⟨a0⟩⟩), (1, .string ⟨⟨a1⟩⟩)] rfl ?_
  refine J.seq (J.seq (J.region ?_))
  refine RJ.run ttok 1 rfl ?_
  refine RJ.fin [(0, _), (1, _), (5, .int .i64 0)] rfl ?_
  refine J.block ?_
  have h5 := ((h0.only [] rfl).rds [] rfl)
  refine J.loop (fun kk env w => ∃ (x1 : Int), env = [(0, .string ⟨⟨a0⟩⟩), (1, .string ⟨⟨a1⟩⟩), (5, .int .i64 x1)] ∧ St w0 F0 [] [] w ∧ Q69.l0 kk a0 a1 x1 = some r) (k := k) ⟨0, rfl, h5, H⟩ ?_
  rintro k1 env w1 ⟨x1, rfl, h1, H⟩
  cases k1 with
  | zero => exact nomatch (show none = some r from H)
  | succ k1 =>
    rw [Q69.l0] at H
    refine J.seq (J.seq (J.region ?_))
    refine RJ.run ttok 5 rfl ?_
    rcases Bool.eq_false_or_eq_true (decide (x1 < (a0.length : Int))) with c1 | c1
    · replace H := ite_t c1 H
      refine RJ.know (t := 10) rfl (congrArg Value.bool c1) ?_
      refine RJ.run ttok 5 rfl ?_
      refine RJ.fin [(0, _), (1, _), (5, _), (15, .bool (decide (x1 < (a1.length : Int))))] rfl ?_
      refine J.cond rfl (fun c2 => ?_) (fun c2 => ?_)
      · replace H := ite_t c2 H
        refine J.skip ?_
        refine J.seq (J.block (J.seq (J.seq ?_)))
        refine J.heldSt mix h1 ?_
        have h2 := h1.drew
        refine HJ.run ttok rfl [0, 1, 3, 4] rfl ?_
        obtain ⟨⟨p1, p2⟩, H⟩ := guard_t H
        refine HJ.q (i := 2) rfl rfl rfl rfl rfl rfl (q_byte ttok rfl rfl rfl rfl p1 p2) ?_
        obtain ⟨⟨p3, p4⟩, H⟩ := guard_t H
        refine HJ.q (i := 5) rfl rfl rfl rfl rfl rfl (q_byte ttok rfl rfl rfl rfl p3 p4) ?_
        refine HJ.run ttok rfl [6] rfl ?_
        refine HJ.fin [(0, _), (1, _), (5, _), (24, .bool (decide ((gtb a0 x1) < (gtb a1 x1))))] rfl rfl ?_
        refine J.cond rfl (fun c3 => ?_) (fun c3 => ?_)
        · replace H := ite_t c3 H
          refine J.seq (J.region ?_)
          refine RJ.run ttok 1 rfl ?_
          refine RJ.fin [(4, .int .i64 (-1))] rfl ?_
          refine J.ret ?_
          obtain rfl := Option.some.inj H
          exact ⟨_, _, _, (results_slots rfl), ⟨rfl, rfl⟩, h2.only [] rfl⟩
        replace H := ite_f c3 H
        refine J.skip ?_
        refine J.seq ?_
        refine J.heldSt mix h2 ?_
        have h3 := h2.drew
        refine HJ.run ttok rfl [0, 1, 3, 4] rfl ?_
        refine HJ.q (i := 2) rfl rfl rfl rfl rfl rfl (q_byte ttok rfl rfl rfl rfl p1 p2) ?_
        refine HJ.q (i := 5) rfl rfl rfl rfl rfl rfl (q_byte ttok rfl rfl rfl rfl p3 p4) ?_
        refine HJ.run ttok rfl [6] rfl ?_
        refine HJ.fin [(0, _), (1, _), (5, _), (31, .bool (decide ((gtb a1 x1) < (gtb a0 x1))))] rfl rfl ?_
        refine J.cond rfl (fun c4 => ?_) (fun c4 => ?_)
        · replace H := ite_t c4 H
          refine J.seq (J.region ?_)
          refine RJ.run ttok 1 rfl ?_
          refine RJ.fin [(4, .int .i64 1)] rfl ?_
          refine J.ret ?_
          obtain rfl := Option.some.inj H
          exact ⟨_, _, _, (results_slots rfl), ⟨rfl, rfl⟩, h3.only [] rfl⟩
        replace H := ite_f c4 H
        refine J.skip ?_
        refine J.region ?_
        refine RJ.run ttok 3 rfl ?_
        refine RJ.fin [(0, _), (1, _), (5, .int .i64 (w64 (x1 + 1)))] rfl ?_
        have h4 := ((h3.only [] rfl).rds [] rfl)
        exact ⟨k1, by omega, (w64 (x1 + 1)), rfl, h4, H⟩
      replace H := ite_f c2 H
      refine J.exit ?_
      refine J.seq (J.seq (J.region ?_))
      refine RJ.run ttok 5 rfl ?_
      refine RJ.fin [(0, _), (1, _), (36, .bool (decide ((a0.length : Int) < (a1.length : Int))))] rfl ?_
      refine J.cond rfl (fun c5 => ?_) (fun c5 => ?_)
      · replace H := ite_t c5 H
        refine J.seq (J.region ?_)
        refine RJ.run ttok 1 rfl ?_
        refine RJ.fin [(4, .int .i64 (-1))] rfl ?_
        refine J.ret ?_
        obtain rfl := Option.some.inj H
        exact ⟨_, _, _, (results_slots rfl), ⟨rfl, rfl⟩, h1.only [] rfl⟩
      replace H := ite_f c5 H
      refine J.skip ?_
      refine J.seq (J.seq (J.region ?_))
      refine RJ.run ttok 5 rfl ?_
      refine RJ.fin [(41, .bool (decide ((a1.length : Int) < (a0.length : Int))))] rfl ?_
      refine J.cond rfl (fun c6 => ?_) (fun c6 => ?_)
      · replace H := ite_t c6 H
        refine J.seq (J.region ?_)
        refine RJ.run ttok 1 rfl ?_
        refine RJ.fin [(4, .int .i64 1)] rfl ?_
        refine J.ret ?_
        obtain rfl := Option.some.inj H
        exact ⟨_, _, _, (results_slots rfl), ⟨rfl, rfl⟩, h1.only [] rfl⟩
      replace H := ite_f c6 H
      refine J.skip ?_
      refine J.seq (J.region ?_)
      refine RJ.run ttok 1 rfl ?_
      refine RJ.fin [(4, .int .i64 0)] rfl ?_
      refine J.ret ?_
      obtain rfl := Option.some.inj H
      exact ⟨_, _, _, (results_slots rfl), ⟨rfl, rfl⟩, h1.only [] rfl⟩
    replace H := ite_f c1 H
    refine RJ.know (t := 10) rfl (congrArg Value.bool c1) ?_
    refine RJ.run ttok 5 rfl ?_
    refine RJ.fin [(0, _), (1, _), (5, _), (15, .bool false)] rfl ?_
    refine J.condF rfl ?_
    refine J.exit ?_
    refine J.seq (J.seq (J.region ?_))
    refine RJ.run ttok 5 rfl ?_
    refine RJ.fin [(0, _), (1, _), (36, .bool (decide ((a0.length : Int) < (a1.length : Int))))] rfl ?_
    refine J.cond rfl (fun c7 => ?_) (fun c7 => ?_)
    · replace H := ite_t c7 H
      refine J.seq (J.region ?_)
      refine RJ.run ttok 1 rfl ?_
      refine RJ.fin [(4, .int .i64 (-1))] rfl ?_
      refine J.ret ?_
      obtain rfl := Option.some.inj H
      exact ⟨_, _, _, (results_slots rfl), ⟨rfl, rfl⟩, h1.only [] rfl⟩
    replace H := ite_f c7 H
    refine J.skip ?_
    refine J.seq (J.seq (J.region ?_))
    refine RJ.run ttok 5 rfl ?_
    refine RJ.fin [(41, .bool (decide ((a1.length : Int) < (a0.length : Int))))] rfl ?_
    refine J.cond rfl (fun c8 => ?_) (fun c8 => ?_)
    · replace H := ite_t c8 H
      refine J.seq (J.region ?_)
      refine RJ.run ttok 1 rfl ?_
      refine RJ.fin [(4, .int .i64 1)] rfl ?_
      refine J.ret ?_
      obtain rfl := Option.some.inj H
      exact ⟨_, _, _, (results_slots rfl), ⟨rfl, rfl⟩, h1.only [] rfl⟩
    replace H := ite_f c8 H
    refine J.skip ?_
    refine J.seq (J.region ?_)
    refine RJ.run ttok 1 rfl ?_
    refine RJ.fin [(4, .int .i64 0)] rfl ?_
    refine J.ret ?_
    obtain rfl := Option.some.inj H
    exact ⟨_, _, _, (results_slots rfl), ⟨rfl, rfl⟩, h1.only [] rfl⟩

def Q70.f (k : Nat) (a0 : List UInt8 × List UInt8 × Bool) (a1 : List UInt8) : Option (Bool) := (Q69.f k a0.1 a1).bind fun r1 => (if (decide (r1 ≤ 0)) = true then (if a0.2.2 = true then (some true) else ((Q69.f k a1 a0.2.1).bind fun r2 => (some (decide (r2 < 0))))) else (some false))
theorem Q70.spec {k : Nat} {a0 : List UInt8 × List UInt8 × Bool} {a1 : List UInt8}  {r : Bool} (H : Q70.f k a0 a1 = some r) :
    Spec Tryz.prog 83 [.agg #[.string ⟨⟨a0.1⟩⟩, .string ⟨⟨a0.2.1⟩⟩, .bool a0.2.2], .string ⟨⟨a1⟩⟩] [] [] (fun v l => v = .bool r ∧ l = []) := by
  refine Spec.enter Tryz.func83 rfl (by kernel_rfl) (by kernel_rfl) fun w0 F0 h0 => ?_
  unfold Q70.f at H
  refine J.seq (J.region ?_)
  refine RJ.op rfl rfl (op_box rfl rfl h0) ?_
  rintro _ w1 ⟨b1, rfl, h1⟩
  replace h1 : St w0 F0 [boxC b1 55 [.string ⟨⟨a0.1⟩⟩, .string ⟨⟨a0.2.1⟩⟩, .bool a0.2.2]] _ _ := h1
  refine RJ.run ttok 1 rfl ?_
  refine RJ.fin [(1, .string ⟨⟨a1⟩⟩), (2, .pointer (some ⟨b1, 0, none⟩))] rfl ?_
  refine J.seq (J.region ?_)
  refine RJ.run ttok 1 rfl ?_
  refine RJ.q rfl rfl (q_load_box ttok 0 h1.wht rfl rfl rfl rfl rfl) ?_
  refine RJ.run ttok 1 rfl ?_
  obtain ⟨r1, q1, H⟩ := bind_t H
  refine RJ.op rfl rfl (op_call [] (Q69.spec q1) rfl rfl rfl h1 rfl gnil) ?_
  rintro _ w2 ⟨_, ⟨rfl, rfl⟩, h2⟩
  replace h2 : St w0 F0 [_] _ _ := h2
  refine RJ.run ttok 2 rfl ?_
  rcases Bool.eq_false_or_eq_true (decide (r1 ≤ 0)) with c1 | c1
  · replace H := ite_t c1 H
    refine RJ.know (t := 10) rfl (congrArg Value.bool c1) ?_
    refine RJ.run ttok 1 rfl ?_
    refine RJ.q rfl rfl (q_load_box ttok 0 h2.wht rfl rfl rfl rfl rfl) ?_
    refine RJ.run ttok 1 rfl ?_
    rcases Bool.eq_false_or_eq_true a0.2.2 with c2 | c2
    · replace H := ite_t c2 H
      refine RJ.know (t := 13) rfl (congrArg Value.bool c2) ?_
      refine RJ.run ttok 8 rfl ?_
      refine RJ.fin [(4, .bool true)] rfl ?_
      refine J.ret ?_
      obtain rfl := Option.some.inj H
      exact ⟨_, _, _, (results_slots rfl), ⟨rfl, rfl⟩, h2.only [] rfl⟩
    replace H := ite_f c2 H
    refine RJ.know (t := 13) rfl (congrArg Value.bool c2) ?_
    refine RJ.run ttok 2 rfl ?_
    refine RJ.q rfl rfl (q_load_box ttok 0 h2.wht rfl rfl rfl rfl rfl) ?_
    obtain ⟨r2, q2, H⟩ := bind_t H
    refine RJ.op rfl rfl (op_call [] (Q69.spec q2) rfl rfl rfl h2 rfl gnil) ?_
    rintro _ w3 ⟨_, ⟨rfl, rfl⟩, h3⟩
    replace h3 : St w0 F0 [_] _ _ := h3
    refine RJ.run ttok 4 rfl ?_
    refine RJ.fin [(4, .bool (decide (r2 < 0)))] rfl ?_
    refine J.ret ?_
    obtain rfl := Option.some.inj H
    exact ⟨_, _, _, (results_slots rfl), ⟨rfl, rfl⟩, h3.only [] rfl⟩
  replace H := ite_f c1 H
  refine RJ.know (t := 10) rfl (congrArg Value.bool c1) ?_
  refine RJ.run ttok 11 rfl ?_
  refine RJ.fin [(4, .bool false)] rfl ?_
  refine J.ret ?_
  obtain rfl := Option.some.inj H
  exact ⟨_, _, _, (results_slots rfl), ⟨rfl, rfl⟩, h2.only [] rfl⟩

def Q78.l0 : Nat → (List (List UInt8 × List UInt8)) → (Int) → Option (Bool)
  | 0, _, _ => none
  | k + 1, a0, x1 => if (decide (x1 < (a0.length : Int))) = true then (if 0 ≤ (w64 (x1 - 1)) ∧ (w64 (x1 - 1)) < (a0.length : Int) then (if 0 ≤ x1 ∧ x1 < (a0.length : Int) then ((Q69.f k ((gt a0 (w64 (x1 - 1))).1) ((gt a0 x1).1)).bind fun r1 => (if (decide (0 ≤ r1)) = true then (some false) else (Q78.l0 k a0 (w64 (x1 + 1))))) else none) else none) else (some true)
def Q78.f (k : Nat) (a0 : List (List UInt8 × List UInt8)) : Option (Bool) := Q78.l0 k a0 1
theorem Q78.spec {k : Nat} {a0 : List (List UInt8 × List UInt8)} {A1 : Option Addr} {c_1 : Nat} {r : Bool} (H : Q78.f k a0 = some r) :
    Spec Tryz.prog 84 [.slice A1 a0.length c_1] [] [rdC 51 (.pair .str .str) a0 (.slice A1 a0.length c_1)] (fun v l => v = .bool r ∧ l = []) := by
  refine Spec.enter Tryz.func84 rfl (by kernel_rfl) (by kernel_rfl) fun w0 F0 h0 => ?_
  unfold Q78.f at H
  refine J.seq (J.region ?_)
  refine RJ.run ttok 1 rfl ?_
  refine RJ.fin [(0, .slice A1 a0.length c_1)] rfl ?_
  refine J.seq (J.seq (J.region ?_))
  refine RJ.run ttok 1 rfl ?_
  refine RJ.fin [(0, _), (3, .int .i64 1)] rfl ?_
  refine J.block ?_
  have h5 := ((h0.only [] rfl).rds [0] rfl)
  refine J.loop (fun kk env w => ∃ (x1 : Int), env = [(0, .slice A1 a0.length c_1), (3, .int .i64 x1)] ∧ St w0 F0 [] [rdC 51 (.pair .str .str) a0 (.slice A1 a0.length c_1)] w ∧ Q78.l0 kk a0 x1 = some r) (k := k) ⟨1, rfl, h5, H⟩ ?_
  rintro k1 env w1 ⟨x1, rfl, h1, H⟩
  cases k1 with
  | zero => exact nomatch (show none = some r from H)
  | succ k1 =>
    rw [Q78.l0] at H
    refine J.seq (J.seq (J.region ?_))
    refine RJ.run ttok 4 rfl ?_
    refine RJ.fin [(0, _), (3, _), (7, .bool (decide (x1 < (a0.length : Int))))] rfl ?_
    refine J.cond rfl (fun c1 => ?_) (fun c1 => ?_)
    · replace H := ite_t c1 H
      refine J.skip ?_
      refine J.seq (J.block (J.seq ?_))
      refine J.heldSt mix h1 ?_
      have h2 := h1.drew
      refine HJ.run ttok rfl [0, 1, 2, 6, 7] rfl ?_
      obtain ⟨⟨p1, p2⟩, H⟩ := guard_t H
      have e1 := elem_A h2.wh (Gives.self 0 rfl) p1 p2
      refine HJ.q (i := 3) rfl rfl rfl rfl rfl rfl (q_index ttok rfl rfl rfl rfl rfl e1 p1 p2) ?_
      refine HJ.run ttok rfl [4] rfl ?_
      refine HJ.q (i := 5) rfl rfl rfl rfl rfl rfl (q_load_elem (f := 0) ttok rfl (fun w e => e) (Gives.self 0 rfl) p1 p2 rfl rfl rfl rfl rfl) ?_
      obtain ⟨⟨p3, p4⟩, H⟩ := guard_t H
      refine HJ.q (i := 8) rfl rfl rfl rfl rfl rfl (q_index ttok rfl rfl rfl rfl rfl e1 p3 p4) ?_
      refine HJ.run ttok rfl [9] rfl ?_
      refine HJ.q (i := 10) rfl rfl rfl rfl rfl rfl (q_load_elem (f := 0) ttok rfl (fun w e => e) (Gives.self 0 rfl) p3 p4 rfl rfl rfl rfl rfl) ?_
      obtain ⟨r1, q1, H⟩ := bind_t H
      refine HJ.op (i := 11) rfl rfl rfl rfl rfl (op_call [] (Q69.spec q1) rfl rfl rfl h2 rfl gnil) ?_
      rintro _ w2 ⟨_, ⟨rfl, rfl⟩, h3⟩
      replace h3 : St w0 F0 [] _ _ := h3
      refine ⟨⟨[], h3⟩, ?_⟩
      refine HJ.run ttok rfl [12] rfl ?_
      refine HJ.fin [(0, _), (3, _), (22, .bool (decide (0 ≤ r1)))] rfl rfl ?_
      refine J.cond rfl (fun c2 => ?_) (fun c2 => ?_)
      · replace H := ite_t c2 H
        refine J.seq (J.region ?_)
        refine RJ.run ttok 1 rfl ?_
        refine RJ.fin [(2, .bool false)] rfl ?_
        refine J.ret ?_
        obtain rfl := Option.some.inj H
        exact ⟨_, _, _, (results_slots rfl), ⟨rfl, rfl⟩, h3.only [] rfl⟩
      replace H := ite_f c2 H
      refine J.skip ?_
      refine J.region ?_
      refine RJ.run ttok 3 rfl ?_
      refine RJ.fin [(0, _), (3, .int .i64 (w64 (x1 + 1)))] rfl ?_
      have h4 := ((h3.only [] rfl).rds [0] rfl)
      exact ⟨k1, by omega, (w64 (x1 + 1)), rfl, h4, H⟩
    replace H := ite_f c1 H
    refine J.exit ?_
    refine J.seq (J.region ?_)
    refine RJ.run ttok 1 rfl ?_
    refine RJ.fin [(2, .bool true)] rfl ?_
    refine J.ret ?_
    obtain rfl := Option.some.inj H
    exact ⟨_, _, _, (results_slots rfl), ⟨rfl, rfl⟩, h1.only [] rfl⟩

def Q88.l0 : Nat → (Int × Int × Int × Int × Int × Int × Int × Int) → (List UInt8 × List UInt8 × Bool) → (Int × List (Int) × List (List UInt8) × (List (List UInt8 × Bool × List UInt8)) × (List (List UInt8 × List UInt8))) → (Int) → Option (Bool)
  | 0, _, _, _, _ => none
  | k + 1, a0, a1, a2, x1 => if (decide (x1 < (a2.2.2.2.2.length : Int))) = true then (if 0 ≤ x1 ∧ x1 < (a2.2.2.2.2.length : Int) then ((Q84.f (a0.1, a0.2.1, a0.2.2.1, a0.2.2.2.1, a0.2.2.2.2.1, a0.2.2.2.2.2.1, a0.2.2.2.2.2.2.1, a0.2.2.2.2.2.2.2) ((gt a2.2.2.2.2 x1).1)).bind fun r1 => (if (!r1) = true then (some false) else ((Q70.f k (a1.1, a1.2.1, a1.2.2) ((gt a2.2.2.2.2 x1).1)).bind fun r2 => (if (!r2) = true then (some false) else (if (decide (a0.2.2.2.2.2.2.2 < (((gt a2.2.2.2.2 x1).2).length : Int))) = true then (some false) else (Q88.l0 k a0 a1 a2 (w64 (x1 + 1)))))))) else none) else (if (decide ((a2.2.1.length : Int) = 0)) = true then (if (decide ((a2.2.2.1.length : Int) = 0)) = true then (if (decide ((a2.2.2.2.1.length : Int) = 0)) = true then (if (decide ((a2.2.2.2.2.length : Int) ≤ a0.2.2.2.2.2.1)) = true then ((Q78.f k a2.2.2.2.2).bind fun r3 => (some r3)) else (some false)) else (some false)) else (some false)) else (some false))
def Q88.f (k : Nat) (a0 : Int × Int × Int × Int × Int × Int × Int × Int) (a1 : List UInt8 × List UInt8 × Bool) (a2 : Int × List (Int) × List (List UInt8) × (List (List UInt8 × Bool × List UInt8)) × (List (List UInt8 × List UInt8))) : Option (Bool) := Q88.l0 k a0 a1 a2 0
theorem Q88.spec {k : Nat} {a0 : Int × Int × Int × Int × Int × Int × Int × Int} {a1 : List UInt8 × List UInt8 × Bool} {a2 : Int × List (Int) × List (List UInt8) × (List (List UInt8 × Bool × List UInt8)) × (List (List UInt8 × List UInt8))} {A1 : Option Addr} {c_1 : Nat} {A2 : Option Addr} {c_2 : Nat} {A3 : Option Addr} {c_3 : Nat} {A4 : Option Addr} {c_4 : Nat} {r : Bool} (H : Q88.f k a0 a1 a2 = some r) :
    Spec Tryz.prog 62 [.agg #[.int .i64 a0.1, .int .i64 a0.2.1, .int .i64 a0.2.2.1, .int .i64 a0.2.2.2.1, .int .i64 a0.2.2.2.2.1, .int .i64 a0.2.2.2.2.2.1, .int .i64 a0.2.2.2.2.2.2.1, .int .i64 a0.2.2.2.2.2.2.2], .agg #[.string ⟨⟨a1.1⟩⟩, .string ⟨⟨a1.2.1⟩⟩, .bool a1.2.2], .agg #[.int .i64 a2.1, .slice A1 a2.2.1.length c_1, .slice A2 a2.2.2.1.length c_2, .slice A3 a2.2.2.2.1.length c_3, .slice A4 a2.2.2.2.2.length c_4]] [] [rdC 70 (.int .u32) a2.2.1 (.slice A1 a2.2.1.length c_1), rdC 9 .str a2.2.2.1 (.slice A2 a2.2.2.1.length c_2), rdC 49 (.pair .str (.pair .bool .str)) a2.2.2.2.1 (.slice A3 a2.2.2.2.1.length c_3), rdC 51 (.pair .str .str) a2.2.2.2.2 (.slice A4 a2.2.2.2.2.length c_4)] (fun v l => v = .bool r ∧ l = []) := by
  refine Spec.enter Tryz.func62 rfl (by kernel_rfl) (by kernel_rfl) fun w0 F0 h0 => ?_
  unfold Q88.f at H
  refine J.seq (J.region ?_)
  refine RJ.op rfl rfl (op_box rfl rfl h0) ?_
  rintro _ w1 ⟨b1, rfl, h1⟩
  replace h1 : St w0 F0 [boxC b1 23 [.int .i64 a0.1, .int .i64 a0.2.1, .int .i64 a0.2.2.1, .int .i64 a0.2.2.2.1, .int .i64 a0.2.2.2.2.1, .int .i64 a0.2.2.2.2.2.1, .int .i64 a0.2.2.2.2.2.2.1, .int .i64 a0.2.2.2.2.2.2.2]] _ _ := h1
  refine RJ.op rfl rfl (op_box rfl rfl h1) ?_
  rintro _ w2 ⟨b2, rfl, h2⟩
  replace h2 : St w0 F0 [boxC b2 55 [.string ⟨⟨a1.1⟩⟩, .string ⟨⟨a1.2.1⟩⟩, .bool a1.2.2], _] _ _ := h2
  refine RJ.op rfl rfl (op_box rfl rfl h2) ?_
  rintro _ w3 ⟨b3, rfl, h3⟩
  replace h3 : St w0 F0 [boxC b3 29 [.int .i64 a2.1, .slice A1 a2.2.1.length c_1, .slice A2 a2.2.2.1.length c_2, .slice A3 a2.2.2.2.1.length c_3, .slice A4 a2.2.2.2.2.length c_4], _, _] _ _ := h3
  refine RJ.run ttok 1 rfl ?_
  refine RJ.fin [(3, .pointer (some ⟨b1, 0, none⟩)), (4, .pointer (some ⟨b2, 0, none⟩)), (5, .pointer (some ⟨b3, 0, none⟩))] rfl ?_
  refine J.seq (J.seq (J.region ?_))
  refine RJ.run ttok 1 rfl ?_
  refine RJ.fin [(3, _), (4, _), (5, _), (7, .int .i64 0)] rfl ?_
  refine J.block ?_
  have h19 := ((h3.only [2, 1, 0] rfl).rds [0, 1, 2, 3] rfl)
  refine J.loop (fun kk env w => ∃ (x1 : Int), env = [(3, .pointer (some ⟨b1, 0, none⟩)), (4, .pointer (some ⟨b2, 0, none⟩)), (5, .pointer (some ⟨b3, 0, none⟩)), (7, .int .i64 x1)] ∧ St w0 F0 [boxC b1 23 [.int .i64 a0.1, .int .i64 a0.2.1, .int .i64 a0.2.2.1, .int .i64 a0.2.2.2.1, .int .i64 a0.2.2.2.2.1, .int .i64 a0.2.2.2.2.2.1, .int .i64 a0.2.2.2.2.2.2.1, .int .i64 a0.2.2.2.2.2.2.2], boxC b2 55 [.string ⟨⟨a1.1⟩⟩, .string ⟨⟨a1.2.1⟩⟩, .bool a1.2.2], boxC b3 29 [.int .i64 a2.1, .slice A1 a2.2.1.length c_1, .slice A2 a2.2.2.1.length c_2, .slice A3 a2.2.2.2.1.length c_3, .slice A4 a2.2.2.2.2.length c_4]] [rdC 70 (.int .u32) a2.2.1 (.slice A1 a2.2.1.length c_1), rdC 9 .str a2.2.2.1 (.slice A2 a2.2.2.1.length c_2), rdC 49 (.pair .str (.pair .bool .str)) a2.2.2.2.1 (.slice A3 a2.2.2.2.1.length c_3), rdC 51 (.pair .str .str) a2.2.2.2.2 (.slice A4 a2.2.2.2.2.length c_4)] w ∧ Q88.l0 kk a0 a1 a2 x1 = some r) (k := k) ⟨0, rfl, h19, H⟩ ?_
  rintro k1 env w4 ⟨x1, rfl, h4, H⟩
  cases k1 with
  | zero => exact nomatch (show none = some r from H)
  | succ k1 =>
    rw [Q88.l0] at H
    refine J.seq (J.seq (J.region ?_))
    refine RJ.run ttok 2 rfl ?_
    refine RJ.q rfl rfl (q_load_box ttok 2 h4.wht rfl rfl rfl rfl rfl) ?_
    refine RJ.run ttok 2 rfl ?_
    refine RJ.fin [(3, _), (4, _), (5, _), (7, _), (13, .bool (decide (x1 < (a2.2.2.2.2.length : Int))))] rfl ?_
    refine J.cond rfl (fun c1 => ?_) (fun c1 => ?_)
    · replace H := ite_t c1 H
      refine J.skip ?_
      refine J.seq (J.block (J.seq (J.region ?_)))
      refine RJ.run ttok 1 rfl ?_
      refine RJ.q rfl rfl (q_load_box ttok 2 h4.wht rfl rfl rfl rfl rfl) ?_
      refine RJ.run ttok 1 rfl ?_
      obtain ⟨⟨p1, p2⟩, H⟩ := guard_t H
      have e1 := elem_A h4.wh (Gives.self 6 rfl) p1 p2
      refine RJ.q rfl rfl (q_index ttok rfl rfl rfl rfl rfl e1 p1 p2) ?_
      refine RJ.q rfl rfl (q_load_elem (f := 0) ttok rfl h4.wht (Gives.self 6 rfl) p1 p2 rfl rfl rfl rfl rfl) ?_
      refine RJ.op rfl rfl (op_alloc ttok rfl rfl h4) ?_
      rintro _ w5 ⟨b4, rfl, h5⟩
      replace h5 : St w0 F0 [boxC b4 51 [.string ⟨⟨([] : List UInt8)⟩⟩, .string ⟨⟨([] : List UInt8)⟩⟩], _, _, _] _ _ := h5
      refine RJ.op rfl rfl (op_store ttok 0 rfl h5 rfl rfl rfl rfl rfl rfl rfl) ?_
      intro _ w6 h6
      replace h6 : St w0 F0 [boxC b4 51 [.string ⟨⟨(gt a2.2.2.2.2 x1).1⟩⟩, .string ⟨⟨(gt a2.2.2.2.2 x1).2⟩⟩], _, _, _] _ _ := h6
      refine RJ.fin [(3, _), (4, _), (5, _), (7, _), (8, .pointer (some ⟨b4, 0, none⟩))] rfl ?_
      refine J.seq (J.region ?_)
      refine RJ.q rfl rfl (q_load_box ttok 1 h6.wht rfl rfl rfl rfl rfl) ?_
      refine RJ.run ttok 1 rfl ?_
      refine RJ.q rfl rfl (q_load_box ttok 0 h6.wht rfl rfl rfl rfl rfl) ?_
      obtain ⟨r1, q1, H⟩ := bind_t H
      refine RJ.op rfl rfl (op_call [] (Q84.spec q1) rfl rfl rfl h6 rfl gnil) ?_
      rintro _ w7 ⟨_, ⟨rfl, rfl⟩, h7⟩
      replace h7 : St w0 F0 [_, _, _, _] _ _ := h7
      refine RJ.run ttok 2 rfl ?_
      rcases Bool.eq_false_or_eq_true (!r1) with c2 | c2
      · replace H := ite_t c2 H
        refine RJ.know (t := 26) rfl (congrArg Value.bool c2) ?_
        refine RJ.run ttok 14 rfl ?_
        refine RJ.fin [(3, _), (4, _), (5, _), (7, _), (40, .bool true)] rfl ?_
        refine J.condT rfl ?_
        refine J.seq (J.region ?_)
        refine RJ.run ttok 1 rfl ?_
        refine RJ.fin [(6, .bool false)] rfl ?_
        have h8 := h7.only [] rfl
        replace h8 : St w0 F0 [] _ _ := h8
        refine J.ret ?_
        obtain rfl := Option.some.inj H
        exact ⟨_, _, _, (results_slots rfl), ⟨rfl, rfl⟩, h8.only [] rfl⟩
      replace H := ite_f c2 H
      refine RJ.know (t := 26) rfl (congrArg Value.bool c2) ?_
      refine RJ.q rfl rfl (q_load_box ttok 2 h7.wht rfl rfl rfl rfl rfl) ?_
      refine RJ.run ttok 1 rfl ?_
      refine RJ.q rfl rfl (q_load_box ttok 0 h7.wht rfl rfl rfl rfl rfl) ?_
      obtain ⟨r2, q2, H⟩ := bind_t H
      refine RJ.op rfl rfl (op_call [] (Q70.spec q2) rfl rfl rfl h7 rfl gnil) ?_
      rintro _ w8 ⟨_, ⟨rfl, rfl⟩, h9⟩
      replace h9 : St w0 F0 [_, _, _, _] _ _ := h9
      refine RJ.run ttok 3 rfl ?_
      rcases Bool.eq_false_or_eq_true (!r2) with c3 | c3
      · replace H := ite_t c3 H
        refine RJ.know (t := 33) rfl (congrArg Value.bool c3) ?_
        refine RJ.run ttok 7 rfl ?_
        refine RJ.fin [(3, _), (4, _), (5, _), (7, _), (40, .bool true)] rfl ?_
        refine J.condT rfl ?_
        refine J.seq (J.region ?_)
        refine RJ.run ttok 1 rfl ?_
        refine RJ.fin [(6, .bool false)] rfl ?_
        have h10 := h9.only [] rfl
        replace h10 : St w0 F0 [] _ _ := h10
        refine J.ret ?_
        obtain rfl := Option.some.inj H
        exact ⟨_, _, _, (results_slots rfl), ⟨rfl, rfl⟩, h10.only [] rfl⟩
      replace H := ite_f c3 H
      refine RJ.know (t := 33) rfl (congrArg Value.bool c3) ?_
      refine RJ.run ttok 1 rfl ?_
      refine RJ.q rfl rfl (q_load_box ttok 0 h9.wht rfl rfl rfl rfl rfl) ?_
      refine RJ.run ttok 2 rfl ?_
      refine RJ.q rfl rfl (q_load_box ttok 1 h9.wht rfl rfl rfl rfl rfl) ?_
      refine RJ.run ttok 2 rfl ?_
      refine RJ.fin [(3, _), (4, _), (5, _), (7, _), (40, .bool (decide (a0.2.2.2.2.2.2.2 < (((gt a2.2.2.2.2 x1).2).length : Int))))] rfl ?_
      refine J.cond rfl (fun c4 => ?_) (fun c4 => ?_)
      · replace H := ite_t c4 H
        refine J.seq (J.region ?_)
        refine RJ.run ttok 1 rfl ?_
        refine RJ.fin [(6, .bool false)] rfl ?_
        have h11 := h9.only [] rfl
        replace h11 : St w0 F0 [] _ _ := h11
        refine J.ret ?_
        obtain rfl := Option.some.inj H
        exact ⟨_, _, _, (results_slots rfl), ⟨rfl, rfl⟩, h11.only [] rfl⟩
      replace H := ite_f c4 H
      refine J.skip ?_
      refine J.region ?_
      refine RJ.run ttok 3 rfl ?_
      refine RJ.fin [(3, _), (4, _), (5, _), (7, .int .i64 (w64 (x1 + 1)))] rfl ?_
      have h12 := ((h9.only [1, 1, 1] rfl).rds [0, 1, 2, 3] rfl)
      exact ⟨k1, by omega, (w64 (x1 + 1)), rfl, h12, H⟩
    replace H := ite_f c1 H
    refine J.exit ?_
    refine J.seq (J.region ?_)
    refine RJ.run ttok 1 rfl ?_
    refine RJ.q rfl rfl (q_load_box ttok 2 h4.wht rfl rfl rfl rfl rfl) ?_
    refine RJ.run ttok 3 rfl ?_
    rcases Bool.eq_false_or_eq_true (decide ((a2.2.1.length : Int) = 0)) with c5 | c5
    · replace H := ite_t c5 H
      refine RJ.know (t := 45) rfl (congrArg Value.bool c5) ?_
      refine RJ.run ttok 1 rfl ?_
      refine RJ.q rfl rfl (q_load_box ttok 2 h4.wht rfl rfl rfl rfl rfl) ?_
      refine RJ.run ttok 4 rfl ?_
      rcases Bool.eq_false_or_eq_true (decide ((a2.2.2.1.length : Int) = 0)) with c6 | c6
      · replace H := ite_t c6 H
        refine RJ.know (t := 51) rfl (congrArg Value.bool c6) ?_
        refine RJ.run ttok 1 rfl ?_
        refine RJ.q rfl rfl (q_load_box ttok 2 h4.wht rfl rfl rfl rfl rfl) ?_
        refine RJ.run ttok 4 rfl ?_
        rcases Bool.eq_false_or_eq_true (decide ((a2.2.2.2.1.length : Int) = 0)) with c7 | c7
        · replace H := ite_t c7 H
          refine RJ.know (t := 57) rfl (congrArg Value.bool c7) ?_
          refine RJ.run ttok 1 rfl ?_
          refine RJ.q rfl rfl (q_load_box ttok 2 h4.wht rfl rfl rfl rfl rfl) ?_
          refine RJ.run ttok 2 rfl ?_
          refine RJ.q rfl rfl (q_load_box ttok 0 h4.wht rfl rfl rfl rfl rfl) ?_
          refine RJ.run ttok 3 rfl ?_
          rcases Bool.eq_false_or_eq_true (decide ((a2.2.2.2.2.length : Int) ≤ a0.2.2.2.2.2.1)) with c8 | c8
          · replace H := ite_t c8 H
            refine RJ.know (t := 65) rfl (congrArg Value.bool c8) ?_
            refine RJ.run ttok 1 rfl ?_
            refine RJ.q rfl rfl (q_load_box ttok 2 h4.wht rfl rfl rfl rfl rfl) ?_
            obtain ⟨r3, q3, H⟩ := bind_t H
            refine RJ.op rfl rfl (op_call [] (Q78.spec q3) rfl rfl rfl h4 rfl (gcons (Gives.self 6 rfl) gnil)) ?_
            rintro _ w9 ⟨_, ⟨rfl, rfl⟩, h13⟩
            replace h13 : St w0 F0 [_, _, _] _ _ := h13
            refine RJ.run ttok 2 rfl ?_
            refine RJ.fin [(6, .bool r3)] rfl ?_
            have h14 := h13.only [] rfl
            replace h14 : St w0 F0 [] _ _ := h14
            refine J.ret ?_
            obtain rfl := Option.some.inj H
            exact ⟨_, _, _, (results_slots rfl), ⟨rfl, rfl⟩, h14.only [] rfl⟩
          replace H := ite_f c8 H
          refine RJ.know (t := 65) rfl (congrArg Value.bool c8) ?_
          refine RJ.run ttok 5 rfl ?_
          refine RJ.fin [(6, .bool false)] rfl ?_
          have h15 := h4.only [] rfl
          replace h15 : St w0 F0 [] _ _ := h15
          refine J.ret ?_
          obtain rfl := Option.some.inj H
          exact ⟨_, _, _, (results_slots rfl), ⟨rfl, rfl⟩, h15.only [] rfl⟩
        replace H := ite_f c7 H
        refine RJ.know (t := 57) rfl (congrArg Value.bool c7) ?_
        refine RJ.run ttok 13 rfl ?_
        refine RJ.fin [(6, .bool false)] rfl ?_
        have h16 := h4.only [] rfl
        replace h16 : St w0 F0 [] _ _ := h16
        refine J.ret ?_
        obtain rfl := Option.some.inj H
        exact ⟨_, _, _, (results_slots rfl), ⟨rfl, rfl⟩, h16.only [] rfl⟩
      replace H := ite_f c6 H
      refine RJ.know (t := 51) rfl (congrArg Value.bool c6) ?_
      refine RJ.run ttok 19 rfl ?_
      refine RJ.fin [(6, .bool false)] rfl ?_
      have h17 := h4.only [] rfl
      replace h17 : St w0 F0 [] _ _ := h17
      refine J.ret ?_
      obtain rfl := Option.some.inj H
      exact ⟨_, _, _, (results_slots rfl), ⟨rfl, rfl⟩, h17.only [] rfl⟩
    replace H := ite_f c5 H
    refine RJ.know (t := 45) rfl (congrArg Value.bool c5) ?_
    refine RJ.run ttok 25 rfl ?_
    refine RJ.fin [(6, .bool false)] rfl ?_
    have h18 := h4.only [] rfl
    replace h18 : St w0 F0 [] _ _ := h18
    refine J.ret ?_
    obtain rfl := Option.some.inj H
    exact ⟨_, _, _, (results_slots rfl), ⟨rfl, rfl⟩, h18.only [] rfl⟩

def Q81.l0 : Nat → (List (List UInt8)) → (Int) → Option (Bool)
  | 0, _, _ => none
  | k + 1, a0, x1 => if (decide (x1 < (a0.length : Int))) = true then (if 0 ≤ (w64 (x1 - 1)) ∧ (w64 (x1 - 1)) < (a0.length : Int) then (if 0 ≤ x1 ∧ x1 < (a0.length : Int) then ((Q69.f k (gt a0 (w64 (x1 - 1))) (gt a0 x1)).bind fun r1 => (if (decide (0 ≤ r1)) = true then (some false) else (Q81.l0 k a0 (w64 (x1 + 1))))) else none) else none) else (some true)
def Q81.f (k : Nat) (a0 : List (List UInt8)) : Option (Bool) := Q81.l0 k a0 1
theorem Q81.spec {k : Nat} {a0 : List (List UInt8)} {A1 : Option Addr} {c_1 : Nat} {r : Bool} (H : Q81.f k a0 = some r) :
    Spec Tryz.prog 95 [.slice A1 a0.length c_1] [] [rdC 9 .str a0 (.slice A1 a0.length c_1)] (fun v l => v = .bool r ∧ l = []) := by
  refine Spec.enter Tryz.func95 rfl (by kernel_rfl) (by kernel_rfl) fun w0 F0 h0 => ?_
  unfold Q81.f at H
  refine J.seq (J.region ?_)
  refine RJ.run ttok 1 rfl ?_
  refine RJ.fin [(0, .slice A1 a0.length c_1)] rfl ?_
  refine J.seq (J.seq (J.region ?_))
  refine RJ.run ttok 1 rfl ?_
  refine RJ.fin [(0, _), (3, .int .i64 1)] rfl ?_
  refine J.block ?_
  have h5 := ((h0.only [] rfl).rds [0] rfl)
  refine J.loop (fun kk env w => ∃ (x1 : Int), env = [(0, .slice A1 a0.length c_1), (3, .int .i64 x1)] ∧ St w0 F0 [] [rdC 9 .str a0 (.slice A1 a0.length c_1)] w ∧ Q81.l0 kk a0 x1 = some r) (k := k) ⟨1, rfl, h5, H⟩ ?_
  rintro k1 env w1 ⟨x1, rfl, h1, H⟩
  cases k1 with
  | zero => exact nomatch (show none = some r from H)
  | succ k1 =>
    rw [Q81.l0] at H
    refine J.seq (J.seq (J.region ?_))
    refine RJ.run ttok 4 rfl ?_
    refine RJ.fin [(0, _), (3, _), (7, .bool (decide (x1 < (a0.length : Int))))] rfl ?_
    refine J.cond rfl (fun c1 => ?_) (fun c1 => ?_)
    · replace H := ite_t c1 H
      refine J.skip ?_
      refine J.seq (J.block (J.seq ?_))
      refine J.heldSt mix h1 ?_
      have h2 := h1.drew
      refine HJ.run ttok rfl [0, 1, 2, 5, 6] rfl ?_
      obtain ⟨⟨p1, p2⟩, H⟩ := guard_t H
      have e1 := elem_A h2.wh (Gives.self 0 rfl) p1 p2
      refine HJ.q (i := 3) rfl rfl rfl rfl rfl rfl (q_index ttok rfl rfl rfl rfl rfl e1 p1 p2) ?_
      refine HJ.q (i := 4) rfl rfl rfl rfl rfl rfl (q_load_elem (f := 0) ttok rfl (fun w e => e) (Gives.self 0 rfl) p1 p2 rfl rfl rfl rfl rfl) ?_
      obtain ⟨⟨p3, p4⟩, H⟩ := guard_t H
      refine HJ.q (i := 7) rfl rfl rfl rfl rfl rfl (q_index ttok rfl rfl rfl rfl rfl e1 p3 p4) ?_
      refine HJ.q (i := 8) rfl rfl rfl rfl rfl rfl (q_load_elem (f := 0) ttok rfl (fun w e => e) (Gives.self 0 rfl) p3 p4 rfl rfl rfl rfl rfl) ?_
      obtain ⟨r1, q1, H⟩ := bind_t H
      refine HJ.op (i := 9) rfl rfl rfl rfl rfl (op_call [] (Q69.spec q1) rfl rfl rfl h2 rfl gnil) ?_
      rintro _ w2 ⟨_, ⟨rfl, rfl⟩, h3⟩
      replace h3 : St w0 F0 [] _ _ := h3
      refine ⟨⟨[], h3⟩, ?_⟩
      refine HJ.run ttok rfl [10] rfl ?_
      refine HJ.fin [(0, _), (3, _), (20, .bool (decide (0 ≤ r1)))] rfl rfl ?_
      refine J.cond rfl (fun c2 => ?_) (fun c2 => ?_)
      · replace H := ite_t c2 H
        refine J.seq (J.region ?_)
        refine RJ.run ttok 1 rfl ?_
        refine RJ.fin [(2, .bool false)] rfl ?_
        refine J.ret ?_
        obtain rfl := Option.some.inj H
        exact ⟨_, _, _, (results_slots rfl), ⟨rfl, rfl⟩, h3.only [] rfl⟩
      replace H := ite_f c2 H
      refine J.skip ?_
      refine J.region ?_
      refine RJ.run ttok 3 rfl ?_
      refine RJ.fin [(0, _), (3, .int .i64 (w64 (x1 + 1)))] rfl ?_
      have h4 := ((h3.only [] rfl).rds [0] rfl)
      exact ⟨k1, by omega, (w64 (x1 + 1)), rfl, h4, H⟩
    replace H := ite_f c1 H
    refine J.exit ?_
    refine J.seq (J.region ?_)
    refine RJ.run ttok 1 rfl ?_
    refine RJ.fin [(2, .bool true)] rfl ?_
    refine J.ret ?_
    obtain rfl := Option.some.inj H
    exact ⟨_, _, _, (results_slots rfl), ⟨rfl, rfl⟩, h1.only [] rfl⟩

def Q80.l0 : Nat → (List (List UInt8)) → (List UInt8 × List UInt8 × Bool) → (Int) → Option (Bool)
  | 0, _, _, _ => none
  | k + 1, a0, a1, x1 => if (decide (x1 < (a0.length : Int))) = true then (if 0 ≤ x1 ∧ x1 < (a0.length : Int) then ((Q70.f k (a1.1, a1.2.1, a1.2.2) (gt a0 x1)).bind fun r1 => (if (!r1) = true then (some false) else (if (decide ((gt a0 x1) = a1.1)) = true then (some false) else (Q80.l0 k a0 a1 (w64 (x1 + 1)))))) else none) else ((Q81.f k a0).bind fun r2 => (some r2))
def Q80.f (k : Nat) (a0 : List (List UInt8)) (a1 : List UInt8 × List UInt8 × Bool) : Option (Bool) := Q80.l0 k a0 a1 0
theorem Q80.spec {k : Nat} {a0 : List (List UInt8)} {a1 : List UInt8 × List UInt8 × Bool} {A1 : Option Addr} {c_1 : Nat} {r : Bool} (H : Q80.f k a0 a1 = some r) :
    Spec Tryz.prog 85 [.slice A1 a0.length c_1, .agg #[.string ⟨⟨a1.1⟩⟩, .string ⟨⟨a1.2.1⟩⟩, .bool a1.2.2]] [] [rdC 9 .str a0 (.slice A1 a0.length c_1)] (fun v l => v = .bool r ∧ l = []) := by
  refine Spec.enter Tryz.func85 rfl (by kernel_rfl) (by kernel_rfl) fun w0 F0 h0 => ?_
  unfold Q80.f at H
  refine J.seq (J.region ?_)
  refine RJ.op rfl rfl (op_box rfl rfl h0) ?_
  rintro _ w1 ⟨b1, rfl, h1⟩
  replace h1 : St w0 F0 [boxC b1 55 [.string ⟨⟨a1.1⟩⟩, .string ⟨⟨a1.2.1⟩⟩, .bool a1.2.2]] _ _ := h1
  refine RJ.run ttok 1 rfl ?_
  refine RJ.fin [(0, .slice A1 a0.length c_1), (3, .pointer (some ⟨b1, 0, none⟩))] rfl ?_
  refine J.seq (J.seq (J.region ?_))
  refine RJ.run ttok 1 rfl ?_
  refine RJ.fin [(0, _), (3, _), (5, .int .i64 0)] rfl ?_
  refine J.block ?_
  have h7 := ((h1.only [0] rfl).rds [0] rfl)
  refine J.loop (fun kk env w => ∃ (x1 : Int), env = [(0, .slice A1 a0.length c_1), (3, .pointer (some ⟨b1, 0, none⟩)), (5, .int .i64 x1)] ∧ St w0 F0 [boxC b1 55 [.string ⟨⟨a1.1⟩⟩, .string ⟨⟨a1.2.1⟩⟩, .bool a1.2.2]] [rdC 9 .str a0 (.slice A1 a0.length c_1)] w ∧ Q80.l0 kk a0 a1 x1 = some r) (k := k) ⟨0, rfl, h7, H⟩ ?_
  rintro k1 env w2 ⟨x1, rfl, h2, H⟩
  cases k1 with
  | zero => exact nomatch (show none = some r from H)
  | succ k1 =>
    rw [Q80.l0] at H
    refine J.seq (J.seq (J.region ?_))
    refine RJ.run ttok 4 rfl ?_
    refine RJ.fin [(0, _), (3, _), (5, _), (9, .bool (decide (x1 < (a0.length : Int))))] rfl ?_
    refine J.cond rfl (fun c1 => ?_) (fun c1 => ?_)
    · replace H := ite_t c1 H
      refine J.skip ?_
      refine J.seq (J.block (J.seq ?_))
      refine J.heldSt mix h2 ?_
      have h3 := h2.drew
      refine HJ.run ttok rfl [1, 2] rfl ?_
      refine HJ.q (i := 0) rfl rfl rfl rfl rfl rfl (q_load_box ttok 0 (fun w e => e) rfl rfl rfl rfl rfl) ?_
      obtain ⟨⟨p1, p2⟩, H⟩ := guard_t H
      have e1 := elem_A h3.wh (Gives.self 1 rfl) p1 p2
      refine HJ.q (i := 3) rfl rfl rfl rfl rfl rfl (q_index ttok rfl rfl rfl rfl rfl e1 p1 p2) ?_
      refine HJ.q (i := 4) rfl rfl rfl rfl rfl rfl (q_load_elem (f := 0) ttok rfl (fun w e => e) (Gives.self 1 rfl) p1 p2 rfl rfl rfl rfl rfl) ?_
      obtain ⟨r1, q1, H⟩ := bind_t H
      refine HJ.op (i := 5) rfl rfl rfl rfl rfl (op_call [] (Q70.spec q1) rfl rfl rfl h3 rfl gnil) ?_
      rintro _ w3 ⟨_, ⟨rfl, rfl⟩, h4⟩
      replace h4 : St w0 F0 [_] _ _ := h4
      refine ⟨⟨[], h4⟩, ?_⟩
      refine HJ.run ttok rfl [6, 7] rfl ?_
      rcases Bool.eq_false_or_eq_true (!r1) with c2 | c2
      · replace H := ite_t c2 H
        refine HJ.know (t := 19) rfl (congrArg Value.bool c2) ?_
        refine HJ.run ttok rfl [8, 9, 10, 11, 12, 13, 14, 15] rfl ?_
        refine HJ.fin [(0, _), (3, _), (5, _), (27, .bool true)] rfl rfl ?_
        refine J.condT rfl ?_
        refine J.seq (J.region ?_)
        refine RJ.run ttok 1 rfl ?_
        refine RJ.fin [(4, .bool false)] rfl ?_
        refine J.ret ?_
        obtain rfl := Option.some.inj H
        exact ⟨_, _, _, (results_slots rfl), ⟨rfl, rfl⟩, h4.only [] rfl⟩
      replace H := ite_f c2 H
      refine HJ.know (t := 19) rfl (congrArg Value.bool c2) ?_
      refine HJ.run ttok rfl [8, 9, 12] rfl ?_
      refine HJ.q (i := 10) rfl rfl rfl rfl rfl rfl (q_index ttok rfl rfl rfl rfl rfl e1 p1 p2) ?_
      refine HJ.q (i := 11) rfl rfl rfl rfl rfl rfl (q_load_elem (f := 0) ttok rfl (fun w e => e) (Gives.self 1 rfl) p1 p2 rfl rfl rfl rfl rfl) ?_
      refine HJ.q (i := 13) rfl rfl rfl rfl rfl rfl (q_load_box ttok 0 (fun w e => e) rfl rfl rfl rfl rfl) ?_
      refine HJ.run ttok rfl [14, 15] rfl ?_
      refine HJ.fin [(0, _), (3, _), (5, _), (27, .bool (decide ((gt a0 x1) = a1.1)))] rfl rfl ?_
      refine J.cond rfl (fun c3 => ?_) (fun c3 => ?_)
      · replace H := ite_t c3 H
        refine J.seq (J.region ?_)
        refine RJ.run ttok 1 rfl ?_
        refine RJ.fin [(4, .bool false)] rfl ?_
        refine J.ret ?_
        obtain rfl := Option.some.inj H
        exact ⟨_, _, _, (results_slots rfl), ⟨rfl, rfl⟩, h4.only [] rfl⟩
      replace H := ite_f c3 H
      refine J.skip ?_
      refine J.region ?_
      refine RJ.run ttok 3 rfl ?_
      refine RJ.fin [(0, _), (3, _), (5, .int .i64 (w64 (x1 + 1)))] rfl ?_
      have h5 := ((h4.only [0] rfl).rds [0] rfl)
      exact ⟨k1, by omega, (w64 (x1 + 1)), rfl, h5, H⟩
    replace H := ite_f c1 H
    refine J.exit ?_
    refine J.seq (J.region ?_)
    refine RJ.run ttok 1 rfl ?_
    obtain ⟨r2, q2, H⟩ := bind_t H
    refine RJ.op rfl rfl (op_call [] (Q81.spec q2) rfl rfl rfl h2 rfl (gcons (Gives.self 1 rfl) gnil)) ?_
    rintro _ w4 ⟨_, ⟨rfl, rfl⟩, h6⟩
    replace h6 : St w0 F0 [_] _ _ := h6
    refine RJ.run ttok 1 rfl ?_
    refine RJ.fin [(4, .bool r2)] rfl ?_
    refine J.ret ?_
    obtain rfl := Option.some.inj H
    exact ⟨_, _, _, (results_slots rfl), ⟨rfl, rfl⟩, h6.only [] rfl⟩

def Q76.l0 : Nat → (List (List UInt8 × Bool × List UInt8)) → (Int) → Option (Bool)
  | 0, _, _ => none
  | k + 1, a0, x1 => if (decide (x1 < (a0.length : Int))) = true then (if 0 ≤ (w64 (x1 - 1)) ∧ (w64 (x1 - 1)) < (a0.length : Int) then (if 0 ≤ x1 ∧ x1 < (a0.length : Int) then ((Q69.f k ((gt a0 (w64 (x1 - 1))).1) ((gt a0 x1).1)).bind fun r1 => (if (decide (0 ≤ r1)) = true then (some false) else (Q76.l0 k a0 (w64 (x1 + 1))))) else none) else none) else (some true)
def Q76.f (k : Nat) (a0 : List (List UInt8 × Bool × List UInt8)) : Option (Bool) := Q76.l0 k a0 1
theorem Q76.spec {k : Nat} {a0 : List (List UInt8 × Bool × List UInt8)} {A1 : Option Addr} {c_1 : Nat} {r : Bool} (H : Q76.f k a0 = some r) :
    Spec Tryz.prog 86 [.slice A1 a0.length c_1] [] [rdC 49 (.pair .str (.pair .bool .str)) a0 (.slice A1 a0.length c_1)] (fun v l => v = .bool r ∧ l = []) := by
  refine Spec.enter Tryz.func86 rfl (by kernel_rfl) (by kernel_rfl) fun w0 F0 h0 => ?_
  unfold Q76.f at H
  refine J.seq (J.region ?_)
  refine RJ.run ttok 1 rfl ?_
  refine RJ.fin [(0, .slice A1 a0.length c_1)] rfl ?_
  refine J.seq (J.seq (J.region ?_))
  refine RJ.run ttok 1 rfl ?_
  refine RJ.fin [(0, _), (3, .int .i64 1)] rfl ?_
  refine J.block ?_
  have h5 := ((h0.only [] rfl).rds [0] rfl)
  refine J.loop (fun kk env w => ∃ (x1 : Int), env = [(0, .slice A1 a0.length c_1), (3, .int .i64 x1)] ∧ St w0 F0 [] [rdC 49 (.pair .str (.pair .bool .str)) a0 (.slice A1 a0.length c_1)] w ∧ Q76.l0 kk a0 x1 = some r) (k := k) ⟨1, rfl, h5, H⟩ ?_
  rintro k1 env w1 ⟨x1, rfl, h1, H⟩
  cases k1 with
  | zero => exact nomatch (show none = some r from H)
  | succ k1 =>
    rw [Q76.l0] at H
    refine J.seq (J.seq (J.region ?_))
    refine RJ.run ttok 4 rfl ?_
    refine RJ.fin [(0, _), (3, _), (7, .bool (decide (x1 < (a0.length : Int))))] rfl ?_
    refine J.cond rfl (fun c1 => ?_) (fun c1 => ?_)
    · replace H := ite_t c1 H
      refine J.skip ?_
      refine J.seq (J.block (J.seq ?_))
      refine J.heldSt mix h1 ?_
      have h2 := h1.drew
      refine HJ.run ttok rfl [0, 1, 2, 6, 7] rfl ?_
      obtain ⟨⟨p1, p2⟩, H⟩ := guard_t H
      have e1 := elem_A h2.wh (Gives.self 0 rfl) p1 p2
      refine HJ.q (i := 3) rfl rfl rfl rfl rfl rfl (q_index ttok rfl rfl rfl rfl rfl e1 p1 p2) ?_
      refine HJ.run ttok rfl [4] rfl ?_
      refine HJ.q (i := 5) rfl rfl rfl rfl rfl rfl (q_load_elem (f := 0) ttok rfl (fun w e => e) (Gives.self 0 rfl) p1 p2 rfl rfl rfl rfl rfl) ?_
      obtain ⟨⟨p3, p4⟩, H⟩ := guard_t H
      refine HJ.q (i := 8) rfl rfl rfl rfl rfl rfl (q_index ttok rfl rfl rfl rfl rfl e1 p3 p4) ?_
      refine HJ.run ttok rfl [9] rfl ?_
      refine HJ.q (i := 10) rfl rfl rfl rfl rfl rfl (q_load_elem (f := 0) ttok rfl (fun w e => e) (Gives.self 0 rfl) p3 p4 rfl rfl rfl rfl rfl) ?_
      obtain ⟨r1, q1, H⟩ := bind_t H
      refine HJ.op (i := 11) rfl rfl rfl rfl rfl (op_call [] (Q69.spec q1) rfl rfl rfl h2 rfl gnil) ?_
      rintro _ w2 ⟨_, ⟨rfl, rfl⟩, h3⟩
      replace h3 : St w0 F0 [] _ _ := h3
      refine ⟨⟨[], h3⟩, ?_⟩
      refine HJ.run ttok rfl [12] rfl ?_
      refine HJ.fin [(0, _), (3, _), (22, .bool (decide (0 ≤ r1)))] rfl rfl ?_
      refine J.cond rfl (fun c2 => ?_) (fun c2 => ?_)
      · replace H := ite_t c2 H
        refine J.seq (J.region ?_)
        refine RJ.run ttok 1 rfl ?_
        refine RJ.fin [(2, .bool false)] rfl ?_
        refine J.ret ?_
        obtain rfl := Option.some.inj H
        exact ⟨_, _, _, (results_slots rfl), ⟨rfl, rfl⟩, h3.only [] rfl⟩
      replace H := ite_f c2 H
      refine J.skip ?_
      refine J.region ?_
      refine RJ.run ttok 3 rfl ?_
      refine RJ.fin [(0, _), (3, .int .i64 (w64 (x1 + 1)))] rfl ?_
      have h4 := ((h3.only [] rfl).rds [0] rfl)
      exact ⟨k1, by omega, (w64 (x1 + 1)), rfl, h4, H⟩
    replace H := ite_f c1 H
    refine J.exit ?_
    refine J.seq (J.region ?_)
    refine RJ.run ttok 1 rfl ?_
    refine RJ.fin [(2, .bool true)] rfl ?_
    refine J.ret ?_
    obtain rfl := Option.some.inj H
    exact ⟨_, _, _, (results_slots rfl), ⟨rfl, rfl⟩, h1.only [] rfl⟩

def Q87.l3 : Nat → (Int × Int × Int × Int × Int × Int × Int × Int) → (List UInt8 × List UInt8 × Bool) → (Int × List (Int) × List (List UInt8) × (List (List UInt8 × Bool × List UInt8)) × (List (List UInt8 × List UInt8))) → (Int) → Option (Bool)
  | 0, _, _, _, _ => none
  | k + 1, a0, a1, a2, x4 => if (decide (x4 < (a2.2.2.2.1.length : Int))) = true then (if 0 ≤ x4 ∧ x4 < (a2.2.2.2.1.length : Int) then ((Q84.f (a0.1, a0.2.1, a0.2.2.1, a0.2.2.2.1, a0.2.2.2.2.1, a0.2.2.2.2.2.1, a0.2.2.2.2.2.2.1, a0.2.2.2.2.2.2.2) ((gt a2.2.2.2.1 x4).1)).bind fun r2 => (if (!r2) = true then (some false) else ((Q70.f k (a1.1, a1.2.1, a1.2.2) ((gt a2.2.2.2.1 x4).1)).bind fun r3 => (if (!r3) = true then (some false) else (if (decide (a0.2.2.2.2.2.2.2 < (((gt a2.2.2.2.1 x4).2.2).length : Int))) = true then (some false) else (if (gt a2.2.2.2.1 x4).2.1 = true then (if (!decide (((gt a2.2.2.2.1 x4).2.2) = ([] : List UInt8))) = true then (some false) else (Q87.l3 k a0 a1 a2 (w64 (x4 + 1)))) else (Q87.l3 k a0 a1 a2 (w64 (x4 + 1))))))))) else none) else (if (decide (40 < a2.1)) = true then (some false) else (if (decide (0 < (a2.2.2.2.2.length : Int))) = true then (some false) else (if (decide ((a2.2.1.length : Int) < 1)) = true then (some false) else (if (decide (a0.2.2.2.1 < (a2.2.1.length : Int))) = true then (some false) else (if (!decide ((w64 ((a2.2.2.1.length : Int) + 1)) = (a2.2.1.length : Int))) = true then (some false) else ((Q80.f k a2.2.2.1 (a1.1, a1.2.1, a1.2.2)).bind fun r4 => (if r4 = true then (if (decide ((a2.2.2.2.1.length : Int) ≤ a0.2.2.2.2.1)) = true then ((Q76.f k a2.2.2.2.1).bind fun r5 => (some r5)) else (some false)) else (some false))))))))
def Q87.l2 : Nat → (Int × Int × Int × Int × Int × Int × Int × Int) → (List UInt8 × List UInt8 × Bool) → (Int × List (Int) × List (List UInt8) × (List (List UInt8 × Bool × List UInt8)) × (List (List UInt8 × List UInt8))) → (Int) → Option (Bool)
  | 0, _, _, _, _ => none
  | k + 1, a0, a1, a2, x3 => if (decide (x3 < (a2.2.2.1.length : Int))) = true then (if 0 ≤ x3 ∧ x3 < (a2.2.2.1.length : Int) then ((Q84.f (a0.1, a0.2.1, a0.2.2.1, a0.2.2.2.1, a0.2.2.2.2.1, a0.2.2.2.2.2.1, a0.2.2.2.2.2.2.1, a0.2.2.2.2.2.2.2) (gt a2.2.2.1 x3)).bind fun r1 => (if (!r1) = true then (some false) else (Q87.l2 k a0 a1 a2 (w64 (x3 + 1))))) else none) else (Q87.l3 k a0 a1 a2 0)
mutual
def Q87.l0 : Nat → (Int × Int × Int × Int × Int × Int × Int × Int) → (List UInt8 × List UInt8 × Bool) → (Int × List (Int) × List (List UInt8) × (List (List UInt8 × Bool × List UInt8)) × (List (List UInt8 × List UInt8))) → (Int) → Option (Bool)
  | 0, _, _, _, _ => none
  | k + 1, a0, a1, a2, x1 => if (decide (x1 < (a2.2.1.length : Int))) = true then (if 0 ≤ x1 ∧ x1 < (a2.2.1.length : Int) then (if (decide ((gt a2.2.1 x1) = 0)) = true then (some false) else (if (decide (a0.1 ≤ (w64 ((gt a2.2.1 x1))))) = true then (some false) else (Q87.l1 k a0 a1 a2 x1 0))) else none) else (Q87.l2 k a0 a1 a2 0)
def Q87.l1 : Nat → (Int × Int × Int × Int × Int × Int × Int × Int) → (List UInt8 × List UInt8 × Bool) → (Int × List (Int) × List (List UInt8) × (List (List UInt8 × Bool × List UInt8)) × (List (List UInt8 × List UInt8))) → (Int) → (Int) → Option (Bool)
  | 0, _, _, _, _, _ => none
  | k + 1, a0, a1, a2, x1, x2 => if (decide (x2 < x1)) = true then (if 0 ≤ x2 ∧ x2 < (a2.2.1.length : Int) then (if (decide ((gt a2.2.1 x2) = (gt a2.2.1 x1))) = true then (some false) else (Q87.l1 k a0 a1 a2 x1 (w64 (x2 + 1)))) else none) else (Q87.l0 k a0 a1 a2 (w64 (x1 + 1)))
end
def Q87.f (k : Nat) (a0 : Int × Int × Int × Int × Int × Int × Int × Int) (a1 : List UInt8 × List UInt8 × Bool) (a2 : Int × List (Int) × List (List UInt8) × (List (List UInt8 × Bool × List UInt8)) × (List (List UInt8 × List UInt8))) : Option (Bool) := Q87.l0 k a0 a1 a2 0
theorem Q87.spec {k : Nat} {a0 : Int × Int × Int × Int × Int × Int × Int × Int} {a1 : List UInt8 × List UInt8 × Bool} {a2 : Int × List (Int) × List (List UInt8) × (List (List UInt8 × Bool × List UInt8)) × (List (List UInt8 × List UInt8))} {A1 : Option Addr} {c_1 : Nat} {A2 : Option Addr} {c_2 : Nat} {A3 : Option Addr} {c_3 : Nat} {A4 : Option Addr} {c_4 : Nat} {r : Bool} (H : Q87.f k a0 a1 a2 = some r) :
    Spec Tryz.prog 63 [.agg #[.int .i64 a0.1, .int .i64 a0.2.1, .int .i64 a0.2.2.1, .int .i64 a0.2.2.2.1, .int .i64 a0.2.2.2.2.1, .int .i64 a0.2.2.2.2.2.1, .int .i64 a0.2.2.2.2.2.2.1, .int .i64 a0.2.2.2.2.2.2.2], .agg #[.string ⟨⟨a1.1⟩⟩, .string ⟨⟨a1.2.1⟩⟩, .bool a1.2.2], .agg #[.int .i64 a2.1, .slice A1 a2.2.1.length c_1, .slice A2 a2.2.2.1.length c_2, .slice A3 a2.2.2.2.1.length c_3, .slice A4 a2.2.2.2.2.length c_4]] [] [rdC 70 (.int .u32) a2.2.1 (.slice A1 a2.2.1.length c_1), rdC 9 .str a2.2.2.1 (.slice A2 a2.2.2.1.length c_2), rdC 49 (.pair .str (.pair .bool .str)) a2.2.2.2.1 (.slice A3 a2.2.2.2.1.length c_3), rdC 51 (.pair .str .str) a2.2.2.2.2 (.slice A4 a2.2.2.2.2.length c_4)] (fun v l => v = .bool r ∧ l = []) := by
  refine Spec.enter Tryz.func63 rfl (by kernel_rfl) (by kernel_rfl) fun w0 F0 h0 => ?_
  unfold Q87.f at H
  refine J.seq (J.region ?_)
  refine RJ.op rfl rfl (op_box rfl rfl h0) ?_
  rintro _ w1 ⟨b1, rfl, h1⟩
  replace h1 : St w0 F0 [boxC b1 23 [.int .i64 a0.1, .int .i64 a0.2.1, .int .i64 a0.2.2.1, .int .i64 a0.2.2.2.1, .int .i64 a0.2.2.2.2.1, .int .i64 a0.2.2.2.2.2.1, .int .i64 a0.2.2.2.2.2.2.1, .int .i64 a0.2.2.2.2.2.2.2]] _ _ := h1
  refine RJ.op rfl rfl (op_box rfl rfl h1) ?_
  rintro _ w2 ⟨b2, rfl, h2⟩
  replace h2 : St w0 F0 [boxC b2 55 [.string ⟨⟨a1.1⟩⟩, .string ⟨⟨a1.2.1⟩⟩, .bool a1.2.2], _] _ _ := h2
  refine RJ.op rfl rfl (op_box rfl rfl h2) ?_
  rintro _ w3 ⟨b3, rfl, h3⟩
  replace h3 : St w0 F0 [boxC b3 29 [.int .i64 a2.1, .slice A1 a2.2.1.length c_1, .slice A2 a2.2.2.1.length c_2, .slice A3 a2.2.2.2.1.length c_3, .slice A4 a2.2.2.2.2.length c_4], _, _] _ _ := h3
  refine RJ.run ttok 1 rfl ?_
  refine RJ.fin [(3, .pointer (some ⟨b1, 0, none⟩)), (4, .pointer (some ⟨b2, 0, none⟩)), (5, .pointer (some ⟨b3, 0, none⟩))] rfl ?_
  refine J.seq (J.seq (J.region ?_))
  refine RJ.run ttok 1 rfl ?_
  refine RJ.fin [(3, _), (4, _), (5, _), (7, .int .i64 0)] rfl ?_
  refine J.block ?_
  have h42 := ((h3.only [2, 1, 0] rfl).rds [0, 1, 2, 3] rfl)
  refine J.loop (fun kk env w => ∃ (x1 : Int), env = [(3, .pointer (some ⟨b1, 0, none⟩)), (4, .pointer (some ⟨b2, 0, none⟩)), (5, .pointer (some ⟨b3, 0, none⟩)), (7, .int .i64 x1)] ∧ St w0 F0 [boxC b1 23 [.int .i64 a0.1, .int .i64 a0.2.1, .int .i64 a0.2.2.1, .int .i64 a0.2.2.2.1, .int .i64 a0.2.2.2.2.1, .int .i64 a0.2.2.2.2.2.1, .int .i64 a0.2.2.2.2.2.2.1, .int .i64 a0.2.2.2.2.2.2.2], boxC b2 55 [.string ⟨⟨a1.1⟩⟩, .string ⟨⟨a1.2.1⟩⟩, .bool a1.2.2], boxC b3 29 [.int .i64 a2.1, .slice A1 a2.2.1.length c_1, .slice A2 a2.2.2.1.length c_2, .slice A3 a2.2.2.2.1.length c_3, .slice A4 a2.2.2.2.2.length c_4]] [rdC 70 (.int .u32) a2.2.1 (.slice A1 a2.2.1.length c_1), rdC 9 .str a2.2.2.1 (.slice A2 a2.2.2.1.length c_2), rdC 49 (.pair .str (.pair .bool .str)) a2.2.2.2.1 (.slice A3 a2.2.2.2.1.length c_3), rdC 51 (.pair .str .str) a2.2.2.2.2 (.slice A4 a2.2.2.2.2.length c_4)] w ∧ Q87.l0 kk a0 a1 a2 x1 = some r) (k := k) ⟨0, rfl, h42, H⟩ ?_
  rintro k1 env w4 ⟨x1, rfl, h4, H⟩
  cases k1 with
  | zero => exact nomatch (show none = some r from H)
  | succ k1 =>
    rw [Q87.l0] at H
    refine J.seq (J.seq (J.region ?_))
    refine RJ.run ttok 2 rfl ?_
    refine RJ.q rfl rfl (q_load_box ttok 2 h4.wht rfl rfl rfl rfl rfl) ?_
    refine RJ.run ttok 2 rfl ?_
    refine RJ.fin [(3, _), (4, _), (5, _), (7, _), (16, .bool (decide (x1 < (a2.2.1.length : Int))))] rfl ?_
    refine J.cond rfl (fun c1 => ?_) (fun c1 => ?_)
    · replace H := ite_t c1 H
      refine J.skip ?_
      refine J.seq (J.block (J.seq (J.seq ?_)))
      refine J.heldSt mix h4 ?_
      have h5 := h4.drew
      refine HJ.run ttok rfl [0, 2] rfl ?_
      refine HJ.q (i := 1) rfl rfl rfl rfl rfl rfl (q_load_box ttok 2 (fun w e => e) rfl rfl rfl rfl rfl) ?_
      obtain ⟨⟨p1, p2⟩, H⟩ := guard_t H
      have e1 := elem_A h5.wh (Gives.self 3 rfl) p1 p2
      refine HJ.q (i := 3) rfl rfl rfl rfl rfl rfl (q_index ttok rfl rfl rfl rfl rfl e1 p1 p2) ?_
      refine HJ.q (i := 4) rfl rfl rfl rfl rfl rfl (q_load_elem (f := 0) ttok rfl (fun w e => e) (Gives.self 3 rfl) p1 p2 rfl rfl rfl rfl rfl) ?_
      refine HJ.run ttok rfl [5, 6] rfl ?_
      rcases Bool.eq_false_or_eq_true (decide ((gt a2.2.1 x1) = 0)) with c2 | c2
      · replace H := ite_t c2 H
        refine HJ.know (t := 25) rfl (congrArg Value.bool c2) ?_
        refine HJ.run ttok rfl [7, 8, 9, 10, 11, 12, 13, 14, 15, 16] rfl ?_
        refine HJ.fin [(3, _), (4, _), (5, _), (7, _), (35, .bool true)] rfl rfl ?_
        refine J.condT rfl ?_
        refine J.seq (J.region ?_)
        refine RJ.run ttok 1 rfl ?_
        refine RJ.fin [(6, .bool false)] rfl ?_
        have h6 := h5.only [] rfl
        replace h6 : St w0 F0 [] _ _ := h6
        refine J.ret ?_
        obtain rfl := Option.some.inj H
        exact ⟨_, _, _, (results_slots rfl), ⟨rfl, rfl⟩, h6.only [] rfl⟩
      replace H := ite_f c2 H
      refine HJ.know (t := 25) rfl (congrArg Value.bool c2) ?_
      refine HJ.run ttok rfl [7, 9, 13] rfl ?_
      refine HJ.q (i := 8) rfl rfl rfl rfl rfl rfl (q_load_box ttok 2 (fun w e => e) rfl rfl rfl rfl rfl) ?_
      refine HJ.q (i := 10) rfl rfl rfl rfl rfl rfl (q_index ttok rfl rfl rfl rfl rfl e1 p1 p2) ?_
      refine HJ.q (i := 11) rfl rfl rfl rfl rfl rfl (q_load_elem (f := 0) ttok rfl (fun w e => e) (Gives.self 3 rfl) p1 p2 rfl rfl rfl rfl rfl) ?_
      refine HJ.run ttok rfl [12] rfl ?_
      refine HJ.q (i := 14) rfl rfl rfl rfl rfl rfl (q_load_box ttok 0 (fun w e => e) rfl rfl rfl rfl rfl) ?_
      refine HJ.run ttok rfl [15, 16] rfl ?_
      refine HJ.fin [(3, _), (4, _), (5, _), (7, _), (35, .bool (decide (a0.1 ≤ (w64 ((gt a2.2.1 x1))))))] rfl rfl ?_
      refine J.cond rfl (fun c3 => ?_) (fun c3 => ?_)
      · replace H := ite_t c3 H
        refine J.seq (J.region ?_)
        refine RJ.run ttok 1 rfl ?_
        refine RJ.fin [(6, .bool false)] rfl ?_
        have h7 := h5.only [] rfl
        replace h7 : St w0 F0 [] _ _ := h7
        refine J.ret ?_
        obtain rfl := Option.some.inj H
        exact ⟨_, _, _, (results_slots rfl), ⟨rfl, rfl⟩, h7.only [] rfl⟩
      replace H := ite_f c3 H
      refine J.skip ?_
      refine J.seq (J.region ?_)
      refine RJ.run ttok 1 rfl ?_
      refine RJ.fin [(3, _), (4, _), (5, _), (7, _), (8, .int .i64 0)] rfl ?_
      refine J.block ?_
      have h13 := ((h5.only [0, 0, 0] rfl).rds [0, 1, 2, 3] rfl)
      refine J.loop (fun kk env w => ∃ (x2 : Int), env = [(3, .pointer (some ⟨b1, 0, none⟩)), (4, .pointer (some ⟨b2, 0, none⟩)), (5, .pointer (some ⟨b3, 0, none⟩)), (7, .int .i64 x1), (8, .int .i64 x2)] ∧ St w0 F0 [boxC b1 23 [.int .i64 a0.1, .int .i64 a0.2.1, .int .i64 a0.2.2.1, .int .i64 a0.2.2.2.1, .int .i64 a0.2.2.2.2.1, .int .i64 a0.2.2.2.2.2.1, .int .i64 a0.2.2.2.2.2.2.1, .int .i64 a0.2.2.2.2.2.2.2], boxC b2 55 [.string ⟨⟨a1.1⟩⟩, .string ⟨⟨a1.2.1⟩⟩, .bool a1.2.2], boxC b3 29 [.int .i64 a2.1, .slice A1 a2.2.1.length c_1, .slice A2 a2.2.2.1.length c_2, .slice A3 a2.2.2.2.1.length c_3, .slice A4 a2.2.2.2.2.length c_4]] [rdC 70 (.int .u32) a2.2.1 (.slice A1 a2.2.1.length c_1), rdC 9 .str a2.2.2.1 (.slice A2 a2.2.2.1.length c_2), rdC 49 (.pair .str (.pair .bool .str)) a2.2.2.2.1 (.slice A3 a2.2.2.2.1.length c_3), rdC 51 (.pair .str .str) a2.2.2.2.2 (.slice A4 a2.2.2.2.2.length c_4)] w ∧ Q87.l1 kk a0 a1 a2 x1 x2 = some r ∧ kk ≤ k1) (k := k1) ⟨0, rfl, h13, H, Nat.le_refl _⟩ ?_
      rintro k2 env w5 ⟨x2, rfl, h8, H, hk2⟩
      cases k2 with
      | zero => exact nomatch (show none = some r from H)
      | succ k2 =>
        rw [Q87.l1] at H
        refine J.seq (J.seq (J.region ?_))
        refine RJ.run ttok 3 rfl ?_
        refine RJ.fin [(3, _), (4, _), (5, _), (7, _), (8, _), (38, .bool (decide (x2 < x1)))] rfl ?_
        refine J.cond rfl (fun c4 => ?_) (fun c4 => ?_)
        · replace H := ite_t c4 H
          refine J.skip ?_
          refine J.seq (J.block (J.seq ?_))
          refine J.heldSt mix h8 ?_
          have h9 := h8.drew
          refine HJ.run ttok rfl [0, 2, 5, 7] rfl ?_
          refine HJ.q (i := 1) rfl rfl rfl rfl rfl rfl (q_load_box ttok 2 (fun w e => e) rfl rfl rfl rfl rfl) ?_
          obtain ⟨⟨p3, p4⟩, H⟩ := guard_t H
          refine HJ.q (i := 3) rfl rfl rfl rfl rfl rfl (q_index ttok rfl rfl rfl rfl rfl e1 p3 p4) ?_
          refine HJ.q (i := 4) rfl rfl rfl rfl rfl rfl (q_load_elem (f := 0) ttok rfl (fun w e => e) (Gives.self 3 rfl) p3 p4 rfl rfl rfl rfl rfl) ?_
          refine HJ.q (i := 6) rfl rfl rfl rfl rfl rfl (q_load_box ttok 2 (fun w e => e) rfl rfl rfl rfl rfl) ?_
          refine HJ.q (i := 8) rfl rfl rfl rfl rfl rfl (q_index ttok rfl rfl rfl rfl rfl e1 p1 p2) ?_
          refine HJ.q (i := 9) rfl rfl rfl rfl rfl rfl (q_load_elem (f := 0) ttok rfl (fun w e => e) (Gives.self 3 rfl) p1 p2 rfl rfl rfl rfl rfl) ?_
          refine HJ.run ttok rfl [10] rfl ?_
          refine HJ.fin [(3, _), (4, _), (5, _), (7, _), (8, _), (51, .bool (decide ((gt a2.2.1 x2) = (gt a2.2.1 x1))))] rfl rfl ?_
          refine J.cond rfl (fun c5 => ?_) (fun c5 => ?_)
          · replace H := ite_t c5 H
            refine J.seq (J.region ?_)
            refine RJ.run ttok 1 rfl ?_
            refine RJ.fin [(6, .bool false)] rfl ?_
            have h10 := h9.only [] rfl
            replace h10 : St w0 F0 [] _ _ := h10
            refine J.ret ?_
            obtain rfl := Option.some.inj H
            exact ⟨_, _, _, (results_slots rfl), ⟨rfl, rfl⟩, h10.only [] rfl⟩
          replace H := ite_f c5 H
          refine J.skip ?_
          refine J.region ?_
          refine RJ.run ttok 3 rfl ?_
          refine RJ.fin [(3, _), (4, _), (5, _), (7, _), (8, .int .i64 (w64 (x2 + 1)))] rfl ?_
          have h11 := ((h9.only [0, 0, 0] rfl).rds [0, 1, 2, 3] rfl)
          exact ⟨k2, by omega, (w64 (x2 + 1)), rfl, h11, H, by omega⟩
        replace H := ite_f c4 H
        refine J.exit ?_
        refine J.region ?_
        refine RJ.run ttok 3 rfl ?_
        refine RJ.fin [(3, _), (4, _), (5, _), (7, .int .i64 (w64 (x1 + 1)))] rfl ?_
        have h12 := ((h8.only [0, 0, 0] rfl).rds [0, 1, 2, 3] rfl)
        exact ⟨k2, by omega, (w64 (x1 + 1)), rfl, h12, H⟩
    replace H := ite_f c1 H
    refine J.exit ?_
    refine J.seq (J.seq (J.region ?_))
    refine RJ.run ttok 1 rfl ?_
    refine RJ.fin [(3, _), (4, _), (5, _), (9, .int .i64 0)] rfl ?_
    refine J.block ?_
    have h41 := ((h4.only [0, 0, 0] rfl).rds [0, 1, 2, 3] rfl)
    refine J.loop (fun kk env w => ∃ (x3 : Int), env = [(3, .pointer (some ⟨b1, 0, none⟩)), (4, .pointer (some ⟨b2, 0, none⟩)), (5, .pointer (some ⟨b3, 0, none⟩)), (9, .int .i64 x3)] ∧ St w0 F0 [boxC b1 23 [.int .i64 a0.1, .int .i64 a0.2.1, .int .i64 a0.2.2.1, .int .i64 a0.2.2.2.1, .int .i64 a0.2.2.2.2.1, .int .i64 a0.2.2.2.2.2.1, .int .i64 a0.2.2.2.2.2.2.1, .int .i64 a0.2.2.2.2.2.2.2], boxC b2 55 [.string ⟨⟨a1.1⟩⟩, .string ⟨⟨a1.2.1⟩⟩, .bool a1.2.2], boxC b3 29 [.int .i64 a2.1, .slice A1 a2.2.1.length c_1, .slice A2 a2.2.2.1.length c_2, .slice A3 a2.2.2.2.1.length c_3, .slice A4 a2.2.2.2.2.length c_4]] [rdC 70 (.int .u32) a2.2.1 (.slice A1 a2.2.1.length c_1), rdC 9 .str a2.2.2.1 (.slice A2 a2.2.2.1.length c_2), rdC 49 (.pair .str (.pair .bool .str)) a2.2.2.2.1 (.slice A3 a2.2.2.2.1.length c_3), rdC 51 (.pair .str .str) a2.2.2.2.2 (.slice A4 a2.2.2.2.2.length c_4)] w ∧ Q87.l2 kk a0 a1 a2 x3 = some r) (k := k1) ⟨0, rfl, h41, H⟩ ?_
    rintro k3 env w6 ⟨x3, rfl, h14, H⟩
    cases k3 with
    | zero => exact nomatch (show none = some r from H)
    | succ k3 =>
      rw [Q87.l2] at H
      refine J.seq (J.seq (J.region ?_))
      refine RJ.run ttok 2 rfl ?_
      refine RJ.q rfl rfl (q_load_box ttok 2 h14.wht rfl rfl rfl rfl rfl) ?_
      refine RJ.run ttok 2 rfl ?_
      refine RJ.fin [(3, _), (4, _), (5, _), (9, _), (56, .bool (decide (x3 < (a2.2.2.1.length : Int))))] rfl ?_
      refine J.cond rfl (fun c6 => ?_) (fun c6 => ?_)
      · replace H := ite_t c6 H
        refine J.skip ?_
        refine J.seq (J.block (J.seq ?_))
        refine J.heldSt mix h14 ?_
        have h15 := h14.drew
        refine HJ.run ttok rfl [1, 3] rfl ?_
        refine HJ.q (i := 0) rfl rfl rfl rfl rfl rfl (q_load_box ttok 0 (fun w e => e) rfl rfl rfl rfl rfl) ?_
        refine HJ.q (i := 2) rfl rfl rfl rfl rfl rfl (q_load_box ttok 2 (fun w e => e) rfl rfl rfl rfl rfl) ?_
        obtain ⟨⟨p5, p6⟩, H⟩ := guard_t H
        have e2 := elem_A h15.wh (Gives.self 4 rfl) p5 p6
        refine HJ.q (i := 4) rfl rfl rfl rfl rfl rfl (q_index ttok rfl rfl rfl rfl rfl e2 p5 p6) ?_
        refine HJ.q (i := 5) rfl rfl rfl rfl rfl rfl (q_load_elem (f := 0) ttok rfl (fun w e => e) (Gives.self 4 rfl) p5 p6 rfl rfl rfl rfl rfl) ?_
        obtain ⟨r1, q1, H⟩ := bind_t H
        refine HJ.op (i := 6) rfl rfl rfl rfl rfl (op_call [] (Q84.spec q1) rfl rfl rfl h15 rfl gnil) ?_
        rintro _ w7 ⟨_, ⟨rfl, rfl⟩, h16⟩
        replace h16 : St w0 F0 [_, _, _] _ _ := h16
        refine ⟨⟨[], h16⟩, ?_⟩
        refine HJ.run ttok rfl [7] rfl ?_
        refine HJ.fin [(3, _), (4, _), (5, _), (9, _), (66, .bool (!r1))] rfl rfl ?_
        refine J.cond rfl (fun c7 => ?_) (fun c7 => ?_)
        · replace H := ite_t c7 H
          refine J.seq (J.region ?_)
          refine RJ.run ttok 1 rfl ?_
          refine RJ.fin [(6, .bool false)] rfl ?_
          have h17 := h16.only [] rfl
          replace h17 : St w0 F0 [] _ _ := h17
          refine J.ret ?_
          obtain rfl := Option.some.inj H
          exact ⟨_, _, _, (results_slots rfl), ⟨rfl, rfl⟩, h17.only [] rfl⟩
        replace H := ite_f c7 H
        refine J.skip ?_
        refine J.region ?_
        refine RJ.run ttok 3 rfl ?_
        refine RJ.fin [(3, _), (4, _), (5, _), (9, .int .i64 (w64 (x3 + 1)))] rfl ?_
        have h18 := ((h16.only [0, 0, 0] rfl).rds [0, 1, 2, 3] rfl)
        exact ⟨k3, by omega, (w64 (x3 + 1)), rfl, h18, H⟩
      replace H := ite_f c6 H
      refine J.exit ?_
      refine J.seq (J.seq (J.region ?_))
      refine RJ.run ttok 1 rfl ?_
      refine RJ.fin [(3, _), (4, _), (5, _), (10, .int .i64 0)] rfl ?_
      refine J.block ?_
      have h40 := ((h14.only [0, 0, 0] rfl).rds [0, 1, 2, 3] rfl)
      refine J.loop (fun kk env w => ∃ (x4 : Int), env = [(3, .pointer (some ⟨b1, 0, none⟩)), (4, .pointer (some ⟨b2, 0, none⟩)), (5, .pointer (some ⟨b3, 0, none⟩)), (10, .int .i64 x4)] ∧ St w0 F0 [boxC b1 23 [.int .i64 a0.1, .int .i64 a0.2.1, .int .i64 a0.2.2.1, .int .i64 a0.2.2.2.1, .int .i64 a0.2.2.2.2.1, .int .i64 a0.2.2.2.2.2.1, .int .i64 a0.2.2.2.2.2.2.1, .int .i64 a0.2.2.2.2.2.2.2], boxC b2 55 [.string ⟨⟨a1.1⟩⟩, .string ⟨⟨a1.2.1⟩⟩, .bool a1.2.2], boxC b3 29 [.int .i64 a2.1, .slice A1 a2.2.1.length c_1, .slice A2 a2.2.2.1.length c_2, .slice A3 a2.2.2.2.1.length c_3, .slice A4 a2.2.2.2.2.length c_4]] [rdC 70 (.int .u32) a2.2.1 (.slice A1 a2.2.1.length c_1), rdC 9 .str a2.2.2.1 (.slice A2 a2.2.2.1.length c_2), rdC 49 (.pair .str (.pair .bool .str)) a2.2.2.2.1 (.slice A3 a2.2.2.2.1.length c_3), rdC 51 (.pair .str .str) a2.2.2.2.2 (.slice A4 a2.2.2.2.2.length c_4)] w ∧ Q87.l3 kk a0 a1 a2 x4 = some r) (k := k3) ⟨0, rfl, h40, H⟩ ?_
      rintro k4 env w8 ⟨x4, rfl, h19, H⟩
      cases k4 with
      | zero => exact nomatch (show none = some r from H)
      | succ k4 =>
        rw [Q87.l3] at H
        refine J.seq (J.seq (J.region ?_))
        refine RJ.run ttok 2 rfl ?_
        refine RJ.q rfl rfl (q_load_box ttok 2 h19.wht rfl rfl rfl rfl rfl) ?_
        refine RJ.run ttok 2 rfl ?_
        refine RJ.fin [(3, _), (4, _), (5, _), (10, _), (71, .bool (decide (x4 < (a2.2.2.2.1.length : Int))))] rfl ?_
        refine J.cond rfl (fun c8 => ?_) (fun c8 => ?_)
        · replace H := ite_t c8 H
          refine J.skip ?_
          refine J.seq (J.block (J.seq (J.region ?_)))
          refine RJ.run ttok 1 rfl ?_
          refine RJ.q rfl rfl (q_load_box ttok 2 h19.wht rfl rfl rfl rfl rfl) ?_
          refine RJ.run ttok 1 rfl ?_
          obtain ⟨⟨p7, p8⟩, H⟩ := guard_t H
          have e3 := elem_A h19.wh (Gives.self 5 rfl) p7 p8
          refine RJ.q rfl rfl (q_index ttok rfl rfl rfl rfl rfl e3 p7 p8) ?_
          refine RJ.q rfl rfl (q_load_elem (f := 0) ttok rfl h19.wht (Gives.self 5 rfl) p7 p8 rfl rfl rfl rfl rfl) ?_
          refine RJ.op rfl rfl (op_alloc ttok rfl rfl h19) ?_
          rintro _ w9 ⟨b4, rfl, h20⟩
          replace h20 : St w0 F0 [boxC b4 49 [.string ⟨⟨([] : List UInt8)⟩⟩, .bool false, .string ⟨⟨([] : List UInt8)⟩⟩], _, _, _] _ _ := h20
          refine RJ.op rfl rfl (op_store ttok 0 rfl h20 rfl rfl rfl rfl rfl rfl rfl) ?_
          intro _ w10 h21
          replace h21 : St w0 F0 [boxC b4 49 [.string ⟨⟨(gt a2.2.2.2.1 x4).1⟩⟩, .bool ((gt a2.2.2.2.1 x4).2.1), .string ⟨⟨(gt a2.2.2.2.1 x4).2.2⟩⟩], _, _, _] _ _ := h21
          refine RJ.fin [(3, _), (4, _), (5, _), (10, _), (11, .pointer (some ⟨b4, 0, none⟩))] rfl ?_
          refine J.seq (J.region ?_)
          refine RJ.q rfl rfl (q_load_box ttok 1 h21.wht rfl rfl rfl rfl rfl) ?_
          refine RJ.run ttok 1 rfl ?_
          refine RJ.q rfl rfl (q_load_box ttok 0 h21.wht rfl rfl rfl rfl rfl) ?_
          obtain ⟨r2, q2, H⟩ := bind_t H
          refine RJ.op rfl rfl (op_call [] (Q84.spec q2) rfl rfl rfl h21 rfl gnil) ?_
          rintro _ w11 ⟨_, ⟨rfl, rfl⟩, h22⟩
          replace h22 : St w0 F0 [_, _, _, _] _ _ := h22
          refine RJ.run ttok 2 rfl ?_
          rcases Bool.eq_false_or_eq_true (!r2) with c9 | c9
          · replace H := ite_t c9 H
            refine RJ.know (t := 84) rfl (congrArg Value.bool c9) ?_
            refine RJ.run ttok 23 rfl ?_
            refine RJ.fin [(3, _), (4, _), (5, _), (10, _), (107, .bool true)] rfl ?_
            refine J.condT rfl ?_
            refine J.seq (J.region ?_)
            refine RJ.run ttok 1 rfl ?_
            refine RJ.fin [(6, .bool false)] rfl ?_
            have h23 := h22.only [] rfl
            replace h23 : St w0 F0 [] _ _ := h23
            refine J.ret ?_
            obtain rfl := Option.some.inj H
            exact ⟨_, _, _, (results_slots rfl), ⟨rfl, rfl⟩, h23.only [] rfl⟩
          replace H := ite_f c9 H
          refine RJ.know (t := 84) rfl (congrArg Value.bool c9) ?_
          refine RJ.q rfl rfl (q_load_box ttok 2 h22.wht rfl rfl rfl rfl rfl) ?_
          refine RJ.run ttok 1 rfl ?_
          refine RJ.q rfl rfl (q_load_box ttok 0 h22.wht rfl rfl rfl rfl rfl) ?_
          obtain ⟨r3, q3, H⟩ := bind_t H
          refine RJ.op rfl rfl (op_call [] (Q70.spec q3) rfl rfl rfl h22 rfl gnil) ?_
          rintro _ w12 ⟨_, ⟨rfl, rfl⟩, h24⟩
          replace h24 : St w0 F0 [_, _, _, _] _ _ := h24
          refine RJ.run ttok 3 rfl ?_
          rcases Bool.eq_false_or_eq_true (!r3) with c10 | c10
          · replace H := ite_t c10 H
            refine RJ.know (t := 91) rfl (congrArg Value.bool c10) ?_
            refine RJ.run ttok 16 rfl ?_
            refine RJ.fin [(3, _), (4, _), (5, _), (10, _), (107, .bool true)] rfl ?_
            refine J.condT rfl ?_
            refine J.seq (J.region ?_)
            refine RJ.run ttok 1 rfl ?_
            refine RJ.fin [(6, .bool false)] rfl ?_
            have h25 := h24.only [] rfl
            replace h25 : St w0 F0 [] _ _ := h25
            refine J.ret ?_
            obtain rfl := Option.some.inj H
            exact ⟨_, _, _, (results_slots rfl), ⟨rfl, rfl⟩, h25.only [] rfl⟩
          replace H := ite_f c10 H
          refine RJ.know (t := 91) rfl (congrArg Value.bool c10) ?_
          refine RJ.run ttok 1 rfl ?_
          refine RJ.q rfl rfl (q_load_box ttok 0 h24.wht rfl rfl rfl rfl rfl) ?_
          refine RJ.run ttok 2 rfl ?_
          refine RJ.q rfl rfl (q_load_box ttok 1 h24.wht rfl rfl rfl rfl rfl) ?_
          refine RJ.run ttok 3 rfl ?_
          rcases Bool.eq_false_or_eq_true (decide (a0.2.2.2.2.2.2.2 < (((gt a2.2.2.2.1 x4).2.2).length : Int))) with c11 | c11
          · replace H := ite_t c11 H
            refine RJ.know (t := 99) rfl (congrArg Value.bool c11) ?_
            refine RJ.run ttok 8 rfl ?_
            refine RJ.fin [(3, _), (4, _), (5, _), (10, _), (107, .bool true)] rfl ?_
            refine J.condT rfl ?_
            refine J.seq (J.region ?_)
            refine RJ.run ttok 1 rfl ?_
            refine RJ.fin [(6, .bool false)] rfl ?_
            have h26 := h24.only [] rfl
            replace h26 : St w0 F0 [] _ _ := h26
            refine J.ret ?_
            obtain rfl := Option.some.inj H
            exact ⟨_, _, _, (results_slots rfl), ⟨rfl, rfl⟩, h26.only [] rfl⟩
          replace H := ite_f c11 H
          refine RJ.know (t := 99) rfl (congrArg Value.bool c11) ?_
          refine RJ.run ttok 1 rfl ?_
          refine RJ.q rfl rfl (q_load_box ttok 0 h24.wht rfl rfl rfl rfl rfl) ?_
          refine RJ.run ttok 1 rfl ?_
          rcases Bool.eq_false_or_eq_true ((gt a2.2.2.2.1 x4).2.1) with c12 | c12
          · replace H := ite_t c12 H
            refine RJ.know (t := 102) rfl (congrArg Value.bool c12) ?_
            refine RJ.run ttok 1 rfl ?_
            refine RJ.q rfl rfl (q_load_box ttok 0 h24.wht rfl rfl rfl rfl rfl) ?_
            refine RJ.run ttok 3 rfl ?_
            refine RJ.fin [(3, _), (4, _), (5, _), (10, _), (107, .bool (!decide (((gt a2.2.2.2.1 x4).2.2) = ([] : List UInt8))))] rfl ?_
            refine J.cond rfl (fun c13 => ?_) (fun c13 => ?_)
            · replace H := ite_t c13 H
              refine J.seq (J.region ?_)
              refine RJ.run ttok 1 rfl ?_
              refine RJ.fin [(6, .bool false)] rfl ?_
              have h27 := h24.only [] rfl
              replace h27 : St w0 F0 [] _ _ := h27
              refine J.ret ?_
              obtain rfl := Option.some.inj H
              exact ⟨_, _, _, (results_slots rfl), ⟨rfl, rfl⟩, h27.only [] rfl⟩
            replace H := ite_f c13 H
            refine J.skip ?_
            refine J.region ?_
            refine RJ.run ttok 3 rfl ?_
            refine RJ.fin [(3, _), (4, _), (5, _), (10, .int .i64 (w64 (x4 + 1)))] rfl ?_
            have h28 := ((h24.only [1, 1, 1] rfl).rds [0, 1, 2, 3] rfl)
            exact ⟨k4, by omega, (w64 (x4 + 1)), rfl, h28, H⟩
          replace H := ite_f c12 H
          refine RJ.know (t := 102) rfl (congrArg Value.bool c12) ?_
          refine RJ.run ttok 5 rfl ?_
          refine RJ.fin [(3, _), (4, _), (5, _), (10, _), (107, .bool false)] rfl ?_
          refine J.condF rfl ?_
          refine J.skip ?_
          refine J.region ?_
          refine RJ.run ttok 3 rfl ?_
          refine RJ.fin [(3, _), (4, _), (5, _), (10, .int .i64 (w64 (x4 + 1)))] rfl ?_
          have h29 := ((h24.only [1, 1, 1] rfl).rds [0, 1, 2, 3] rfl)
          exact ⟨k4, by omega, (w64 (x4 + 1)), rfl, h29, H⟩
        replace H := ite_f c8 H
        refine J.exit ?_
        refine J.seq (J.seq (J.region ?_))
        refine RJ.run ttok 1 rfl ?_
        refine RJ.q rfl rfl (q_load_box ttok 2 h19.wht rfl rfl rfl rfl rfl) ?_
        refine RJ.run ttok 2 rfl ?_
        rcases Bool.eq_false_or_eq_true (decide (40 < a2.1)) with c14 | c14
        · replace H := ite_t c14 H
          refine RJ.know (t := 111) rfl (congrArg Value.bool c14) ?_
          refine RJ.run ttok 29 rfl ?_
          refine RJ.fin [(3, _), (4, _), (5, _), (140, .bool true)] rfl ?_
          refine J.condT rfl ?_
          refine J.seq (J.region ?_)
          refine RJ.run ttok 1 rfl ?_
          refine RJ.fin [(6, .bool false)] rfl ?_
          have h30 := h19.only [] rfl
          replace h30 : St w0 F0 [] _ _ := h30
          refine J.ret ?_
          obtain rfl := Option.some.inj H
          exact ⟨_, _, _, (results_slots rfl), ⟨rfl, rfl⟩, h30.only [] rfl⟩
        replace H := ite_f c14 H
        refine RJ.know (t := 111) rfl (congrArg Value.bool c14) ?_
        refine RJ.run ttok 1 rfl ?_
        refine RJ.q rfl rfl (q_load_box ttok 2 h19.wht rfl rfl rfl rfl rfl) ?_
        refine RJ.run ttok 4 rfl ?_
        rcases Bool.eq_false_or_eq_true (decide (0 < (a2.2.2.2.2.length : Int))) with c15 | c15
        · replace H := ite_t c15 H
          refine RJ.know (t := 117) rfl (congrArg Value.bool c15) ?_
          refine RJ.run ttok 23 rfl ?_
          refine RJ.fin [(3, _), (4, _), (5, _), (140, .bool true)] rfl ?_
          refine J.condT rfl ?_
          refine J.seq (J.region ?_)
          refine RJ.run ttok 1 rfl ?_
          refine RJ.fin [(6, .bool false)] rfl ?_
          have h31 := h19.only [] rfl
          replace h31 : St w0 F0 [] _ _ := h31
          refine J.ret ?_
          obtain rfl := Option.some.inj H
          exact ⟨_, _, _, (results_slots rfl), ⟨rfl, rfl⟩, h31.only [] rfl⟩
        replace H := ite_f c15 H
        refine RJ.know (t := 117) rfl (congrArg Value.bool c15) ?_
        refine RJ.run ttok 1 rfl ?_
        refine RJ.q rfl rfl (q_load_box ttok 2 h19.wht rfl rfl rfl rfl rfl) ?_
        refine RJ.run ttok 4 rfl ?_
        rcases Bool.eq_false_or_eq_true (decide ((a2.2.1.length : Int) < 1)) with c16 | c16
        · replace H := ite_t c16 H
          refine RJ.know (t := 123) rfl (congrArg Value.bool c16) ?_
          refine RJ.run ttok 17 rfl ?_
          refine RJ.fin [(3, _), (4, _), (5, _), (140, .bool true)] rfl ?_
          refine J.condT rfl ?_
          refine J.seq (J.region ?_)
          refine RJ.run ttok 1 rfl ?_
          refine RJ.fin [(6, .bool false)] rfl ?_
          have h32 := h19.only [] rfl
          replace h32 : St w0 F0 [] _ _ := h32
          refine J.ret ?_
          obtain rfl := Option.some.inj H
          exact ⟨_, _, _, (results_slots rfl), ⟨rfl, rfl⟩, h32.only [] rfl⟩
        replace H := ite_f c16 H
        refine RJ.know (t := 123) rfl (congrArg Value.bool c16) ?_
        refine RJ.run ttok 1 rfl ?_
        refine RJ.q rfl rfl (q_load_box ttok 2 h19.wht rfl rfl rfl rfl rfl) ?_
        refine RJ.run ttok 2 rfl ?_
        refine RJ.q rfl rfl (q_load_box ttok 0 h19.wht rfl rfl rfl rfl rfl) ?_
        refine RJ.run ttok 3 rfl ?_
        rcases Bool.eq_false_or_eq_true (decide (a0.2.2.2.1 < (a2.2.1.length : Int))) with c17 | c17
        · replace H := ite_t c17 H
          refine RJ.know (t := 131) rfl (congrArg Value.bool c17) ?_
          refine RJ.run ttok 9 rfl ?_
          refine RJ.fin [(3, _), (4, _), (5, _), (140, .bool true)] rfl ?_
          refine J.condT rfl ?_
          refine J.seq (J.region ?_)
          refine RJ.run ttok 1 rfl ?_
          refine RJ.fin [(6, .bool false)] rfl ?_
          have h33 := h19.only [] rfl
          replace h33 : St w0 F0 [] _ _ := h33
          refine J.ret ?_
          obtain rfl := Option.some.inj H
          exact ⟨_, _, _, (results_slots rfl), ⟨rfl, rfl⟩, h33.only [] rfl⟩
        replace H := ite_f c17 H
        refine RJ.know (t := 131) rfl (congrArg Value.bool c17) ?_
        refine RJ.run ttok 1 rfl ?_
        refine RJ.q rfl rfl (q_load_box ttok 2 h19.wht rfl rfl rfl rfl rfl) ?_
        refine RJ.run ttok 3 rfl ?_
        refine RJ.q rfl rfl (q_load_box ttok 2 h19.wht rfl rfl rfl rfl rfl) ?_
        refine RJ.run ttok 3 rfl ?_
        refine RJ.fin [(3, _), (4, _), (5, _), (140, .bool (!decide ((w64 ((a2.2.2.1.length : Int) + 1)) = (a2.2.1.length : Int))))] rfl ?_
        refine J.cond rfl (fun c18 => ?_) (fun c18 => ?_)
        · replace H := ite_t c18 H
          refine J.seq (J.region ?_)
          refine RJ.run ttok 1 rfl ?_
          refine RJ.fin [(6, .bool false)] rfl ?_
          have h34 := h19.only [] rfl
          replace h34 : St w0 F0 [] _ _ := h34
          refine J.ret ?_
          obtain rfl := Option.some.inj H
          exact ⟨_, _, _, (results_slots rfl), ⟨rfl, rfl⟩, h34.only [] rfl⟩
        replace H := ite_f c18 H
        refine J.skip ?_
        refine J.seq (J.region ?_)
        refine RJ.run ttok 1 rfl ?_
        refine RJ.q rfl rfl (q_load_box ttok 2 h19.wht rfl rfl rfl rfl rfl) ?_
        refine RJ.q rfl rfl (q_load_box ttok 1 h19.wht rfl rfl rfl rfl rfl) ?_
        obtain ⟨r4, q4, H⟩ := bind_t H
        refine RJ.op rfl rfl (op_call [] (Q80.spec q4) rfl rfl rfl h19 rfl (gcons (Gives.self 4 rfl) gnil)) ?_
        rintro _ w13 ⟨_, ⟨rfl, rfl⟩, h35⟩
        replace h35 : St w0 F0 [_, _, _] _ _ := h35
        refine RJ.run ttok 1 rfl ?_
        rcases Bool.eq_false_or_eq_true r4 with c19 | c19
        · replace H := ite_t c19 H
          refine RJ.know (t := 145) rfl (congrArg Value.bool c19) ?_
          refine RJ.run ttok 1 rfl ?_
          refine RJ.q rfl rfl (q_load_box ttok 2 h35.wht rfl rfl rfl rfl rfl) ?_
          refine RJ.run ttok 2 rfl ?_
          refine RJ.q rfl rfl (q_load_box ttok 0 h35.wht rfl rfl rfl rfl rfl) ?_
          refine RJ.run ttok 3 rfl ?_
          rcases Bool.eq_false_or_eq_true (decide ((a2.2.2.2.1.length : Int) ≤ a0.2.2.2.2.1)) with c20 | c20
          · replace H := ite_t c20 H
            refine RJ.know (t := 153) rfl (congrArg Value.bool c20) ?_
            refine RJ.run ttok 1 rfl ?_
            refine RJ.q rfl rfl (q_load_box ttok 2 h35.wht rfl rfl rfl rfl rfl) ?_
            obtain ⟨r5, q5, H⟩ := bind_t H
            refine RJ.op rfl rfl (op_call [] (Q76.spec q5) rfl rfl rfl h35 rfl (gcons (Gives.self 5 rfl) gnil)) ?_
            rintro _ w14 ⟨_, ⟨rfl, rfl⟩, h36⟩
            replace h36 : St w0 F0 [_, _, _] _ _ := h36
            refine RJ.run ttok 2 rfl ?_
            refine RJ.fin [(6, .bool r5)] rfl ?_
            have h37 := h36.only [] rfl
            replace h37 : St w0 F0 [] _ _ := h37
            refine J.ret ?_
            obtain rfl := Option.some.inj H
            exact ⟨_, _, _, (results_slots rfl), ⟨rfl, rfl⟩, h37.only [] rfl⟩
          replace H := ite_f c20 H
          refine RJ.know (t := 153) rfl (congrArg Value.bool c20) ?_
          refine RJ.run ttok 5 rfl ?_
          refine RJ.fin [(6, .bool false)] rfl ?_
          have h38 := h35.only [] rfl
          replace h38 : St w0 F0 [] _ _ := h38
          refine J.ret ?_
          obtain rfl := Option.some.inj H
          exact ⟨_, _, _, (results_slots rfl), ⟨rfl, rfl⟩, h38.only [] rfl⟩
        replace H := ite_f c19 H
        refine RJ.know (t := 145) rfl (congrArg Value.bool c19) ?_
        refine RJ.run ttok 13 rfl ?_
        refine RJ.fin [(6, .bool false)] rfl ?_
        have h39 := h35.only [] rfl
        replace h39 : St w0 F0 [] _ _ := h39
        refine J.ret ?_
        obtain rfl := Option.some.inj H
        exact ⟨_, _, _, (results_slots rfl), ⟨rfl, rfl⟩, h39.only [] rfl⟩

def Q85.f (k : Nat) (a0 : Int × Int × Int × Int × Int × Int × Int × Int) (a1 : List UInt8 × List UInt8 × Bool) (a2 : Int × List (Int) × List (List UInt8) × (List (List UInt8 × Bool × List UInt8)) × (List (List UInt8 × List UInt8))) : Option (Bool) := if (decide (a2.1 = 0)) = true then ((Q88.f k (a0.1, a0.2.1, a0.2.2.1, a0.2.2.2.1, a0.2.2.2.2.1, a0.2.2.2.2.2.1, a0.2.2.2.2.2.2.1, a0.2.2.2.2.2.2.2) (a1.1, a1.2.1, a1.2.2) (a2.1, a2.2.1, a2.2.2.1, a2.2.2.2.1, a2.2.2.2.2)).bind fun r1 => (some r1)) else (if (decide (0 < a2.1)) = true then ((Q87.f k (a0.1, a0.2.1, a0.2.2.1, a0.2.2.2.1, a0.2.2.2.2.1, a0.2.2.2.2.2.1, a0.2.2.2.2.2.2.1, a0.2.2.2.2.2.2.2) (a1.1, a1.2.1, a1.2.2) (a2.1, a2.2.1, a2.2.2.1, a2.2.2.2.1, a2.2.2.2.2)).bind fun r2 => (some r2)) else (some false))
theorem Q85.spec {k : Nat} {a0 : Int × Int × Int × Int × Int × Int × Int × Int} {a1 : List UInt8 × List UInt8 × Bool} {a2 : Int × List (Int) × List (List UInt8) × (List (List UInt8 × Bool × List UInt8)) × (List (List UInt8 × List UInt8))} {A1 : Option Addr} {c_1 : Nat} {A2 : Option Addr} {c_2 : Nat} {A3 : Option Addr} {c_3 : Nat} {A4 : Option Addr} {c_4 : Nat} {r : Bool} (H : Q85.f k a0 a1 a2 = some r) :
    Spec Tryz.prog 35 [.agg #[.int .i64 a0.1, .int .i64 a0.2.1, .int .i64 a0.2.2.1, .int .i64 a0.2.2.2.1, .int .i64 a0.2.2.2.2.1, .int .i64 a0.2.2.2.2.2.1, .int .i64 a0.2.2.2.2.2.2.1, .int .i64 a0.2.2.2.2.2.2.2], .agg #[.string ⟨⟨a1.1⟩⟩, .string ⟨⟨a1.2.1⟩⟩, .bool a1.2.2], .agg #[.int .i64 a2.1, .slice A1 a2.2.1.length c_1, .slice A2 a2.2.2.1.length c_2, .slice A3 a2.2.2.2.1.length c_3, .slice A4 a2.2.2.2.2.length c_4]] [] [rdC 70 (.int .u32) a2.2.1 (.slice A1 a2.2.1.length c_1), rdC 9 .str a2.2.2.1 (.slice A2 a2.2.2.1.length c_2), rdC 49 (.pair .str (.pair .bool .str)) a2.2.2.2.1 (.slice A3 a2.2.2.2.1.length c_3), rdC 51 (.pair .str .str) a2.2.2.2.2 (.slice A4 a2.2.2.2.2.length c_4)] (fun v l => v = .bool r ∧ l = []) := by
  refine Spec.enter Tryz.func35 rfl (by kernel_rfl) (by kernel_rfl) fun w0 F0 h0 => ?_
  unfold Q85.f at H
  refine J.seq (J.region ?_)
  refine RJ.op rfl rfl (op_box rfl rfl h0) ?_
  rintro _ w1 ⟨b1, rfl, h1⟩
  replace h1 : St w0 F0 [boxC b1 23 [.int .i64 a0.1, .int .i64 a0.2.1, .int .i64 a0.2.2.1, .int .i64 a0.2.2.2.1, .int .i64 a0.2.2.2.2.1, .int .i64 a0.2.2.2.2.2.1, .int .i64 a0.2.2.2.2.2.2.1, .int .i64 a0.2.2.2.2.2.2.2]] _ _ := h1
  refine RJ.op rfl rfl (op_box rfl rfl h1) ?_
  rintro _ w2 ⟨b2, rfl, h2⟩
  replace h2 : St w0 F0 [boxC b2 55 [.string ⟨⟨a1.1⟩⟩, .string ⟨⟨a1.2.1⟩⟩, .bool a1.2.2], _] _ _ := h2
  refine RJ.op rfl rfl (op_box rfl rfl h2) ?_
  rintro _ w3 ⟨b3, rfl, h3⟩
  replace h3 : St w0 F0 [boxC b3 29 [.int .i64 a2.1, .slice A1 a2.2.1.length c_1, .slice A2 a2.2.2.1.length c_2, .slice A3 a2.2.2.2.1.length c_3, .slice A4 a2.2.2.2.2.length c_4], _, _] _ _ := h3
  refine RJ.run ttok 1 rfl ?_
  refine RJ.fin [(3, .pointer (some ⟨b1, 0, none⟩)), (4, .pointer (some ⟨b2, 0, none⟩)), (5, .pointer (some ⟨b3, 0, none⟩))] rfl ?_
  refine J.seq (J.seq (J.region ?_))
  refine RJ.run ttok 1 rfl ?_
  refine RJ.q rfl rfl (q_load_box ttok 0 h3.wht rfl rfl rfl rfl rfl) ?_
  refine RJ.run ttok 1 rfl ?_
  refine RJ.fin [(3, _), (4, _), (5, _), (9, .bool (decide (a2.1 = 0)))] rfl ?_
  refine J.cond rfl (fun c1 => ?_) (fun c1 => ?_)
  · replace H := ite_t c1 H
    refine J.seq (J.region ?_)
    refine RJ.q rfl rfl (q_load_box ttok 2 h3.wht rfl rfl rfl rfl rfl) ?_
    refine RJ.q rfl rfl (q_load_box ttok 1 h3.wht rfl rfl rfl rfl rfl) ?_
    refine RJ.q rfl rfl (q_load_box ttok 0 h3.wht rfl rfl rfl rfl rfl) ?_
    obtain ⟨r1, q1, H⟩ := bind_t H
    refine RJ.op rfl rfl (op_call [] (Q88.spec q1) rfl rfl rfl h3 rfl (gcons (Gives.self 3 rfl) (gcons (Gives.self 4 rfl) (gcons (Gives.self 5 rfl) (gcons (Gives.self 6 rfl) gnil))))) ?_
    rintro _ w4 ⟨_, ⟨rfl, rfl⟩, h4⟩
    replace h4 : St w0 F0 [_, _, _] _ _ := h4
    refine RJ.run ttok 1 rfl ?_
    refine RJ.fin [(6, .bool r1)] rfl ?_
    have h5 := h4.only [] rfl
    replace h5 : St w0 F0 [] _ _ := h5
    refine J.ret ?_
    obtain rfl := Option.some.inj H
    exact ⟨_, _, _, (results_slots rfl), ⟨rfl, rfl⟩, h5.only [] rfl⟩
  replace H := ite_f c1 H
  refine J.skip ?_
  refine J.seq (J.region ?_)
  refine RJ.run ttok 1 rfl ?_
  refine RJ.q rfl rfl (q_load_box ttok 0 h3.wht rfl rfl rfl rfl rfl) ?_
  refine RJ.run ttok 2 rfl ?_
  rcases Bool.eq_false_or_eq_true (decide (0 < a2.1)) with c2 | c2
  · replace H := ite_t c2 H
    refine RJ.know (t := 17) rfl (congrArg Value.bool c2) ?_
    refine RJ.q rfl rfl (q_load_box ttok 2 h3.wht rfl rfl rfl rfl rfl) ?_
    refine RJ.q rfl rfl (q_load_box ttok 1 h3.wht rfl rfl rfl rfl rfl) ?_
    refine RJ.q rfl rfl (q_load_box ttok 0 h3.wht rfl rfl rfl rfl rfl) ?_
    obtain ⟨r2, q2, H⟩ := bind_t H
    refine RJ.op rfl rfl (op_call [] (Q87.spec q2) rfl rfl rfl h3 rfl (gcons (Gives.self 3 rfl) (gcons (Gives.self 4 rfl) (gcons (Gives.self 5 rfl) (gcons (Gives.self 6 rfl) gnil))))) ?_
    rintro _ w5 ⟨_, ⟨rfl, rfl⟩, h6⟩
    replace h6 : St w0 F0 [_, _, _] _ _ := h6
    refine RJ.run ttok 2 rfl ?_
    refine RJ.fin [(6, .bool r2)] rfl ?_
    have h7 := h6.only [] rfl
    replace h7 : St w0 F0 [] _ _ := h7
    refine J.ret ?_
    obtain rfl := Option.some.inj H
    exact ⟨_, _, _, (results_slots rfl), ⟨rfl, rfl⟩, h7.only [] rfl⟩
  replace H := ite_f c2 H
  refine RJ.know (t := 17) rfl (congrArg Value.bool c2) ?_
  refine RJ.run ttok 6 rfl ?_
  refine RJ.fin [(6, .bool false)] rfl ?_
  have h8 := h3.only [] rfl
  replace h8 : St w0 F0 [] _ _ := h8
  refine J.ret ?_
  obtain rfl := Option.some.inj H
  exact ⟨_, _, _, (results_slots rfl), ⟨rfl, rfl⟩, h8.only [] rfl⟩

def Q89.f (k : Nat) (a0 : Int × Int × Int × Int × Int × Int × Int × Int) (a1 : Int × List (Int) × List (List UInt8) × (List (List UInt8 × Bool × List UInt8)) × (List (List UInt8 × List UInt8))) : Option (Bool) := (Q73.f k (a0.1, a0.2.1, a0.2.2.1, a0.2.2.2.1, a0.2.2.2.2.1, a0.2.2.2.2.2.1, a0.2.2.2.2.2.2.1, a0.2.2.2.2.2.2.2)).bind fun r1 => (if r1 = true then ((Q90.f).bind fun r2 => ((Q85.f k (a0.1, a0.2.1, a0.2.2.1, a0.2.2.2.1, a0.2.2.2.2.1, a0.2.2.2.2.2.1, a0.2.2.2.2.2.2.1, a0.2.2.2.2.2.2.2) (r2.1, r2.2.1, r2.2.2) (a1.1, a1.2.1, a1.2.2.1, a1.2.2.2.1, a1.2.2.2.2)).bind fun r3 => (some r3))) else (some false))
theorem Q89.spec {k : Nat} {a0 : Int × Int × Int × Int × Int × Int × Int × Int} {a1 : Int × List (Int) × List (List UInt8) × (List (List UInt8 × Bool × List UInt8)) × (List (List UInt8 × List UInt8))} {A1 : Option Addr} {c_1 : Nat} {A2 : Option Addr} {c_2 : Nat} {A3 : Option Addr} {c_3 : Nat} {A4 : Option Addr} {c_4 : Nat} {r : Bool} (H : Q89.f k a0 a1 = some r) :
    Spec Tryz.prog 14 [.agg #[.int .i64 a0.1, .int .i64 a0.2.1, .int .i64 a0.2.2.1, .int .i64 a0.2.2.2.1, .int .i64 a0.2.2.2.2.1, .int .i64 a0.2.2.2.2.2.1, .int .i64 a0.2.2.2.2.2.2.1, .int .i64 a0.2.2.2.2.2.2.2], .agg #[.int .i64 a1.1, .slice A1 a1.2.1.length c_1, .slice A2 a1.2.2.1.length c_2, .slice A3 a1.2.2.2.1.length c_3, .slice A4 a1.2.2.2.2.length c_4]] [] [rdC 70 (.int .u32) a1.2.1 (.slice A1 a1.2.1.length c_1), rdC 9 .str a1.2.2.1 (.slice A2 a1.2.2.1.length c_2), rdC 49 (.pair .str (.pair .bool .str)) a1.2.2.2.1 (.slice A3 a1.2.2.2.1.length c_3), rdC 51 (.pair .str .str) a1.2.2.2.2 (.slice A4 a1.2.2.2.2.length c_4)] (fun v l => v = .bool r ∧ l = []) := by
  refine Spec.enter Tryz.func14 rfl (by kernel_rfl) (by kernel_rfl) fun w0 F0 h0 => ?_
  unfold Q89.f at H
  refine J.seq (J.region ?_)
  refine RJ.op rfl rfl (op_box rfl rfl h0) ?_
  rintro _ w1 ⟨b1, rfl, h1⟩
  replace h1 : St w0 F0 [boxC b1 23 [.int .i64 a0.1, .int .i64 a0.2.1, .int .i64 a0.2.2.1, .int .i64 a0.2.2.2.1, .int .i64 a0.2.2.2.2.1, .int .i64 a0.2.2.2.2.2.1, .int .i64 a0.2.2.2.2.2.2.1, .int .i64 a0.2.2.2.2.2.2.2]] _ _ := h1
  refine RJ.op rfl rfl (op_box rfl rfl h1) ?_
  rintro _ w2 ⟨b2, rfl, h2⟩
  replace h2 : St w0 F0 [boxC b2 29 [.int .i64 a1.1, .slice A1 a1.2.1.length c_1, .slice A2 a1.2.2.1.length c_2, .slice A3 a1.2.2.2.1.length c_3, .slice A4 a1.2.2.2.2.length c_4], _] _ _ := h2
  refine RJ.run ttok 1 rfl ?_
  refine RJ.fin [(2, .pointer (some ⟨b1, 0, none⟩)), (3, .pointer (some ⟨b2, 0, none⟩))] rfl ?_
  refine J.seq ?_
  refine J.heldSt mix h2 ?_
  have h3 := h2.drew
  refine HJ.q (i := 0) rfl rfl rfl rfl rfl rfl (q_load_box ttok 1 (fun w e => e) rfl rfl rfl rfl rfl) ?_
  obtain ⟨r1, q1, H⟩ := bind_t H
  refine HJ.op (i := 1) rfl rfl rfl rfl rfl (op_call [] (Q73.spec q1) rfl rfl rfl h3 rfl gnil) ?_
  rintro _ w3 ⟨_, ⟨rfl, rfl⟩, h4⟩
  replace h4 : St w0 F0 [_, _] _ _ := h4
  refine ⟨⟨[], h4⟩, ?_⟩
  refine HJ.run ttok rfl [2] rfl ?_
  rcases Bool.eq_false_or_eq_true r1 with c1 | c1
  · replace H := ite_t c1 H
    refine HJ.know (t := 7) rfl (congrArg Value.bool c1) ?_
    refine HJ.q (i := 3) rfl rfl rfl rfl rfl rfl (q_load_box ttok 1 (fun w e => e) rfl rfl rfl rfl rfl) ?_
    refine HJ.q (i := 5) rfl rfl rfl rfl rfl rfl (q_load_box ttok 0 (fun w e => e) rfl rfl rfl rfl rfl) ?_
    obtain ⟨r2, q2, H⟩ := bind_t H
    refine HJ.op (i := 4) rfl rfl rfl rfl rfl (op_call [] (Q90.spec q2) rfl rfl rfl h4 rfl gnil) ?_
    rintro _ w4 ⟨_, ⟨rfl, rfl⟩, h5⟩
    replace h5 : St w0 F0 [_, _] _ _ := h5
    refine ⟨⟨[], h5⟩, ?_⟩
    obtain ⟨r3, q3, H⟩ := bind_t H
    refine HJ.op (i := 6) rfl rfl rfl rfl rfl (op_call [] (Q85.spec q3) rfl rfl rfl h5 rfl (gcons (Gives.self 2 rfl) (gcons (Gives.self 3 rfl) (gcons (Gives.self 4 rfl) (gcons (Gives.self 5 rfl) gnil))))) ?_
    rintro _ w5 ⟨_, ⟨rfl, rfl⟩, h6⟩
    replace h6 : St w0 F0 [_, _] _ _ := h6
    refine ⟨⟨[], h6⟩, ?_⟩
    refine HJ.run ttok rfl [7, 8] rfl ?_
    refine HJ.fin [(4, .bool r3)] rfl rfl ?_
    have h7 := h6.only [] rfl
    replace h7 : St w0 F0 [] _ _ := h7
    refine J.ret ?_
    obtain rfl := Option.some.inj H
    exact ⟨_, _, _, (results_slots rfl), ⟨rfl, rfl⟩, h7.only [] rfl⟩
  replace H := ite_f c1 H
  refine HJ.know (t := 7) rfl (congrArg Value.bool c1) ?_
  refine HJ.run ttok rfl [3, 4, 5, 6, 7, 8] rfl ?_
  refine HJ.fin [(4, .bool false)] rfl rfl ?_
  have h8 := h4.only [] rfl
  replace h8 : St w0 F0 [] _ _ := h8
  refine J.ret ?_
  obtain rfl := Option.some.inj H
  exact ⟨_, _, _, (results_slots rfl), ⟨rfl, rfl⟩, h8.only [] rfl⟩

def Q83.l0 : Nat → (List (Int)) → (List (Int)) → (Int) → Option (Bool)
  | 0, _, _, _ => none
  | k + 1, a0, a1, x1 => if (decide (x1 < (a0.length : Int))) = true then (if 0 ≤ x1 ∧ x1 < (a0.length : Int) then (if 0 ≤ x1 ∧ x1 < (a1.length : Int) then (if (!decide ((gt a0 x1) = (gt a1 x1))) = true then (some false) else (Q83.l0 k a0 a1 (w64 (x1 + 1)))) else none) else none) else (some true)
def Q83.f (k : Nat) (a0 : List (Int)) (a1 : List (Int)) : Option (Bool) := if (!decide ((a0.length : Int) = (a1.length : Int))) = true then (some false) else (Q83.l0 k a0 a1 0)
theorem Q83.spec {k : Nat} {a0 : List (Int)} {a1 : List (Int)} {A1 : Option Addr} {c_1 : Nat} {A2 : Option Addr} {c_2 : Nat} {r : Bool} (H : Q83.f k a0 a1 = some r) :
    Spec Tryz.prog 31 [.slice A1 a0.length c_1, .slice A2 a1.length c_2] [] [rdC 70 (.int .u32) a0 (.slice A1 a0.length c_1), rdC 70 (.int .u32) a1 (.slice A2 a1.length c_2)] (fun v l => v = .bool r ∧ l = []) := by
  refine Spec.enter Tryz.func31 rfl (by kernel_rfl) (by kernel_rfl) fun w0 F0 h0 => ?_
  unfold Q83.f at H
  refine J.seq (J.region ?_)
  refine RJ.run ttok 1 rfl ?_
  refine RJ.fin [(0, .slice A1 a0.length c_1), (1, .slice A2 a1.length c_2)] rfl ?_
  refine J.seq (J.seq (J.region ?_))
  refine RJ.run ttok 5 rfl ?_
  refine RJ.fin [(0, _), (1, _), (10, .bool (!decide ((a0.length : Int) = (a1.length : Int))))] rfl ?_
  refine J.cond rfl (fun c1 => ?_) (fun c1 => ?_)
  · replace H := ite_t c1 H
    refine J.seq (J.region ?_)
    refine RJ.run ttok 1 rfl ?_
    refine RJ.fin [(4, .bool false)] rfl ?_
    refine J.ret ?_
    obtain rfl := Option.some.inj H
    exact ⟨_, _, _, (results_slots rfl), ⟨rfl, rfl⟩, h0.only [] rfl⟩
  replace H := ite_f c1 H
  refine J.skip ?_
  refine J.seq (J.seq (J.region ?_))
  refine RJ.run ttok 1 rfl ?_
  refine RJ.fin [(0, _), (1, _), (5, .int .i64 0)] rfl ?_
  refine J.block ?_
  have h4 := ((h0.only [] rfl).rds [0, 1] rfl)
  refine J.loop (fun kk env w => ∃ (x1 : Int), env = [(0, .slice A1 a0.length c_1), (1, .slice A2 a1.length c_2), (5, .int .i64 x1)] ∧ St w0 F0 [] [rdC 70 (.int .u32) a0 (.slice A1 a0.length c_1), rdC 70 (.int .u32) a1 (.slice A2 a1.length c_2)] w ∧ Q83.l0 kk a0 a1 x1 = some r) (k := k) ⟨0, rfl, h4, H⟩ ?_
  rintro k1 env w1 ⟨x1, rfl, h1, H⟩
  cases k1 with
  | zero => exact nomatch (show none = some r from H)
  | succ k1 =>
    rw [Q83.l0] at H
    refine J.seq (J.seq (J.region ?_))
    refine RJ.run ttok 4 rfl ?_
    refine RJ.fin [(0, _), (1, _), (5, _), (14, .bool (decide (x1 < (a0.length : Int))))] rfl ?_
    refine J.cond rfl (fun c2 => ?_) (fun c2 => ?_)
    · replace H := ite_t c2 H
      refine J.skip ?_
      refine J.seq (J.block (J.seq ?_))
      refine J.heldSt mix h1 ?_
      have h2 := h1.drew
      refine HJ.run ttok rfl [0, 1, 4, 5] rfl ?_
      obtain ⟨⟨p1, p2⟩, H⟩ := guard_t H
      have e1 := elem_A h2.wh (Gives.self 0 rfl) p1 p2
      refine HJ.q (i := 2) rfl rfl rfl rfl rfl rfl (q_index ttok rfl rfl rfl rfl rfl e1 p1 p2) ?_
      refine HJ.q (i := 3) rfl rfl rfl rfl rfl rfl (q_load_elem (f := 0) ttok rfl (fun w e => e) (Gives.self 0 rfl) p1 p2 rfl rfl rfl rfl rfl) ?_
      obtain ⟨⟨p3, p4⟩, H⟩ := guard_t H
      have e2 := elem_A h2.wh (Gives.self 1 rfl) p3 p4
      refine HJ.q (i := 6) rfl rfl rfl rfl rfl rfl (q_index ttok rfl rfl rfl rfl rfl e2 p3 p4) ?_
      refine HJ.q (i := 7) rfl rfl rfl rfl rfl rfl (q_load_elem (f := 0) ttok rfl (fun w e => e) (Gives.self 1 rfl) p3 p4 rfl rfl rfl rfl rfl) ?_
      refine HJ.run ttok rfl [8] rfl ?_
      refine HJ.fin [(0, _), (1, _), (5, _), (25, .bool (!decide ((gt a0 x1) = (gt a1 x1))))] rfl rfl ?_
      refine J.cond rfl (fun c3 => ?_) (fun c3 => ?_)
      · replace H := ite_t c3 H
        refine J.seq (J.region ?_)
        refine RJ.run ttok 1 rfl ?_
        refine RJ.fin [(4, .bool false)] rfl ?_
        refine J.ret ?_
        obtain rfl := Option.some.inj H
        exact ⟨_, _, _, (results_slots rfl), ⟨rfl, rfl⟩, h2.only [] rfl⟩
      replace H := ite_f c3 H
      refine J.skip ?_
      refine J.region ?_
      refine RJ.run ttok 3 rfl ?_
      refine RJ.fin [(0, _), (1, _), (5, .int .i64 (w64 (x1 + 1)))] rfl ?_
      have h3 := ((h2.only [] rfl).rds [0, 1] rfl)
      exact ⟨k1, by omega, (w64 (x1 + 1)), rfl, h3, H⟩
    replace H := ite_f c2 H
    refine J.exit ?_
    refine J.seq (J.region ?_)
    refine RJ.run ttok 1 rfl ?_
    refine RJ.fin [(4, .bool true)] rfl ?_
    refine J.ret ?_
    obtain rfl := Option.some.inj H
    exact ⟨_, _, _, (results_slots rfl), ⟨rfl, rfl⟩, h1.only [] rfl⟩

def Q82.l0 : Nat → (List (List UInt8)) → (List (List UInt8)) → (Int) → Option (Bool)
  | 0, _, _, _ => none
  | k + 1, a0, a1, x1 => if (decide (x1 < (a0.length : Int))) = true then (if 0 ≤ x1 ∧ x1 < (a0.length : Int) then (if 0 ≤ x1 ∧ x1 < (a1.length : Int) then (if (!decide ((gt a0 x1) = (gt a1 x1))) = true then (some false) else (Q82.l0 k a0 a1 (w64 (x1 + 1)))) else none) else none) else (some true)
def Q82.f (k : Nat) (a0 : List (List UInt8)) (a1 : List (List UInt8)) : Option (Bool) := if (!decide ((a0.length : Int) = (a1.length : Int))) = true then (some false) else (Q82.l0 k a0 a1 0)
theorem Q82.spec {k : Nat} {a0 : List (List UInt8)} {a1 : List (List UInt8)} {A1 : Option Addr} {c_1 : Nat} {A2 : Option Addr} {c_2 : Nat} {r : Bool} (H : Q82.f k a0 a1 = some r) :
    Spec Tryz.prog 32 [.slice A1 a0.length c_1, .slice A2 a1.length c_2] [] [rdC 9 .str a0 (.slice A1 a0.length c_1), rdC 9 .str a1 (.slice A2 a1.length c_2)] (fun v l => v = .bool r ∧ l = []) := by
  refine Spec.enter Tryz.func32 rfl (by kernel_rfl) (by kernel_rfl) fun w0 F0 h0 => ?_
  unfold Q82.f at H
  refine J.seq (J.region ?_)
  refine RJ.run ttok 1 rfl ?_
  refine RJ.fin [(0, .slice A1 a0.length c_1), (1, .slice A2 a1.length c_2)] rfl ?_
  refine J.seq (J.seq (J.region ?_))
  refine RJ.run ttok 5 rfl ?_
  refine RJ.fin [(0, _), (1, _), (10, .bool (!decide ((a0.length : Int) = (a1.length : Int))))] rfl ?_
  refine J.cond rfl (fun c1 => ?_) (fun c1 => ?_)
  · replace H := ite_t c1 H
    refine J.seq (J.region ?_)
    refine RJ.run ttok 1 rfl ?_
    refine RJ.fin [(4, .bool false)] rfl ?_
    refine J.ret ?_
    obtain rfl := Option.some.inj H
    exact ⟨_, _, _, (results_slots rfl), ⟨rfl, rfl⟩, h0.only [] rfl⟩
  replace H := ite_f c1 H
  refine J.skip ?_
  refine J.seq (J.seq (J.region ?_))
  refine RJ.run ttok 1 rfl ?_
  refine RJ.fin [(0, _), (1, _), (5, .int .i64 0)] rfl ?_
  refine J.block ?_
  have h4 := ((h0.only [] rfl).rds [0, 1] rfl)
  refine J.loop (fun kk env w => ∃ (x1 : Int), env = [(0, .slice A1 a0.length c_1), (1, .slice A2 a1.length c_2), (5, .int .i64 x1)] ∧ St w0 F0 [] [rdC 9 .str a0 (.slice A1 a0.length c_1), rdC 9 .str a1 (.slice A2 a1.length c_2)] w ∧ Q82.l0 kk a0 a1 x1 = some r) (k := k) ⟨0, rfl, h4, H⟩ ?_
  rintro k1 env w1 ⟨x1, rfl, h1, H⟩
  cases k1 with
  | zero => exact nomatch (show none = some r from H)
  | succ k1 =>
    rw [Q82.l0] at H
    refine J.seq (J.seq (J.region ?_))
    refine RJ.run ttok 4 rfl ?_
    refine RJ.fin [(0, _), (1, _), (5, _), (14, .bool (decide (x1 < (a0.length : Int))))] rfl ?_
    refine J.cond rfl (fun c2 => ?_) (fun c2 => ?_)
    · replace H := ite_t c2 H
      refine J.skip ?_
      refine J.seq (J.block (J.seq ?_))
      refine J.heldSt mix h1 ?_
      have h2 := h1.drew
      refine HJ.run ttok rfl [0, 1, 4, 5] rfl ?_
      obtain ⟨⟨p1, p2⟩, H⟩ := guard_t H
      have e1 := elem_A h2.wh (Gives.self 0 rfl) p1 p2
      refine HJ.q (i := 2) rfl rfl rfl rfl rfl rfl (q_index ttok rfl rfl rfl rfl rfl e1 p1 p2) ?_
      refine HJ.q (i := 3) rfl rfl rfl rfl rfl rfl (q_load_elem (f := 0) ttok rfl (fun w e => e) (Gives.self 0 rfl) p1 p2 rfl rfl rfl rfl rfl) ?_
      obtain ⟨⟨p3, p4⟩, H⟩ := guard_t H
      have e2 := elem_A h2.wh (Gives.self 1 rfl) p3 p4
      refine HJ.q (i := 6) rfl rfl rfl rfl rfl rfl (q_index ttok rfl rfl rfl rfl rfl e2 p3 p4) ?_
      refine HJ.q (i := 7) rfl rfl rfl rfl rfl rfl (q_load_elem (f := 0) ttok rfl (fun w e => e) (Gives.self 1 rfl) p3 p4 rfl rfl rfl rfl rfl) ?_
      refine HJ.run ttok rfl [8] rfl ?_
      refine HJ.fin [(0, _), (1, _), (5, _), (25, .bool (!decide ((gt a0 x1) = (gt a1 x1))))] rfl rfl ?_
      refine J.cond rfl (fun c3 => ?_) (fun c3 => ?_)
      · replace H := ite_t c3 H
        refine J.seq (J.region ?_)
        refine RJ.run ttok 1 rfl ?_
        refine RJ.fin [(4, .bool false)] rfl ?_
        refine J.ret ?_
        obtain rfl := Option.some.inj H
        exact ⟨_, _, _, (results_slots rfl), ⟨rfl, rfl⟩, h2.only [] rfl⟩
      replace H := ite_f c3 H
      refine J.skip ?_
      refine J.region ?_
      refine RJ.run ttok 3 rfl ?_
      refine RJ.fin [(0, _), (1, _), (5, .int .i64 (w64 (x1 + 1)))] rfl ?_
      have h3 := ((h2.only [] rfl).rds [0, 1] rfl)
      exact ⟨k1, by omega, (w64 (x1 + 1)), rfl, h3, H⟩
    replace H := ite_f c2 H
    refine J.exit ?_
    refine J.seq (J.region ?_)
    refine RJ.run ttok 1 rfl ?_
    refine RJ.fin [(4, .bool true)] rfl ?_
    refine J.ret ?_
    obtain rfl := Option.some.inj H
    exact ⟨_, _, _, (results_slots rfl), ⟨rfl, rfl⟩, h1.only [] rfl⟩

def Q77.l0 : Nat → (List (List UInt8 × Bool × List UInt8)) → (List (List UInt8 × Bool × List UInt8)) → (Int) → Option (Bool)
  | 0, _, _, _ => none
  | k + 1, a0, a1, x1 => if (decide (x1 < (a0.length : Int))) = true then (if 0 ≤ x1 ∧ x1 < (a0.length : Int) then (if 0 ≤ x1 ∧ x1 < (a1.length : Int) then (if (!((decide (((gt a0 x1).1) = ((gt a1 x1).1))) && ((((gt a0 x1).2.1) == ((gt a1 x1).2.1)) && ((decide (((gt a0 x1).2.2) = ((gt a1 x1).2.2))) && true)))) = true then (some false) else (Q77.l0 k a0 a1 (w64 (x1 + 1)))) else none) else none) else (some true)
def Q77.f (k : Nat) (a0 : List (List UInt8 × Bool × List UInt8)) (a1 : List (List UInt8 × Bool × List UInt8)) : Option (Bool) := if (!decide ((a0.length : Int) = (a1.length : Int))) = true then (some false) else (Q77.l0 k a0 a1 0)
theorem Q77.spec {k : Nat} {a0 : List (List UInt8 × Bool × List UInt8)} {a1 : List (List UInt8 × Bool × List UInt8)} {A1 : Option Addr} {c_1 : Nat} {A2 : Option Addr} {c_2 : Nat} {r : Bool} (H : Q77.f k a0 a1 = some r) :
    Spec Tryz.prog 33 [.slice A1 a0.length c_1, .slice A2 a1.length c_2] [] [rdC 49 (.pair .str (.pair .bool .str)) a0 (.slice A1 a0.length c_1), rdC 49 (.pair .str (.pair .bool .str)) a1 (.slice A2 a1.length c_2)] (fun v l => v = .bool r ∧ l = []) := by
  refine Spec.enter Tryz.func33 rfl (by kernel_rfl) (by kernel_rfl) fun w0 F0 h0 => ?_
  unfold Q77.f at H
  refine J.seq (J.region ?_)
  refine RJ.run ttok 1 rfl ?_
  refine RJ.fin [(0, .slice A1 a0.length c_1), (1, .slice A2 a1.length c_2)] rfl ?_
  refine J.seq (J.seq (J.region ?_))
  refine RJ.run ttok 5 rfl ?_
  refine RJ.fin [(0, _), (1, _), (10, .bool (!decide ((a0.length : Int) = (a1.length : Int))))] rfl ?_
  refine J.cond rfl (fun c1 => ?_) (fun c1 => ?_)
  · replace H := ite_t c1 H
    refine J.seq (J.region ?_)
    refine RJ.run ttok 1 rfl ?_
    refine RJ.fin [(4, .bool false)] rfl ?_
    refine J.ret ?_
    obtain rfl := Option.some.inj H
    exact ⟨_, _, _, (results_slots rfl), ⟨rfl, rfl⟩, h0.only [] rfl⟩
  replace H := ite_f c1 H
  refine J.skip ?_
  refine J.seq (J.seq (J.region ?_))
  refine RJ.run ttok 1 rfl ?_
  refine RJ.fin [(0, _), (1, _), (5, .int .i64 0)] rfl ?_
  refine J.block ?_
  have h4 := ((h0.only [] rfl).rds [0, 1] rfl)
  refine J.loop (fun kk env w => ∃ (x1 : Int), env = [(0, .slice A1 a0.length c_1), (1, .slice A2 a1.length c_2), (5, .int .i64 x1)] ∧ St w0 F0 [] [rdC 49 (.pair .str (.pair .bool .str)) a0 (.slice A1 a0.length c_1), rdC 49 (.pair .str (.pair .bool .str)) a1 (.slice A2 a1.length c_2)] w ∧ Q77.l0 kk a0 a1 x1 = some r) (k := k) ⟨0, rfl, h4, H⟩ ?_
  rintro k1 env w1 ⟨x1, rfl, h1, H⟩
  cases k1 with
  | zero => exact nomatch (show none = some r from H)
  | succ k1 =>
    rw [Q77.l0] at H
    refine J.seq (J.seq (J.region ?_))
    refine RJ.run ttok 4 rfl ?_
    refine RJ.fin [(0, _), (1, _), (5, _), (14, .bool (decide (x1 < (a0.length : Int))))] rfl ?_
    refine J.cond rfl (fun c2 => ?_) (fun c2 => ?_)
    · replace H := ite_t c2 H
      refine J.skip ?_
      refine J.seq (J.block (J.seq ?_))
      refine J.heldSt mix h1 ?_
      have h2 := h1.drew
      refine HJ.run ttok rfl [0, 1, 4, 5] rfl ?_
      obtain ⟨⟨p1, p2⟩, H⟩ := guard_t H
      have e1 := elem_A h2.wh (Gives.self 0 rfl) p1 p2
      refine HJ.q (i := 2) rfl rfl rfl rfl rfl rfl (q_index ttok rfl rfl rfl rfl rfl e1 p1 p2) ?_
      refine HJ.q (i := 3) rfl rfl rfl rfl rfl rfl (q_load_elem (f := 0) ttok rfl (fun w e => e) (Gives.self 0 rfl) p1 p2 rfl rfl rfl rfl rfl) ?_
      obtain ⟨⟨p3, p4⟩, H⟩ := guard_t H
      have e2 := elem_A h2.wh (Gives.self 1 rfl) p3 p4
      refine HJ.q (i := 6) rfl rfl rfl rfl rfl rfl (q_index ttok rfl rfl rfl rfl rfl e2 p3 p4) ?_
      refine HJ.q (i := 7) rfl rfl rfl rfl rfl rfl (q_load_elem (f := 0) ttok rfl (fun w e => e) (Gives.self 1 rfl) p3 p4 rfl rfl rfl rfl rfl) ?_
      refine HJ.run ttok rfl [8] rfl ?_
      refine HJ.fin [(0, _), (1, _), (5, _), (25, .bool (!((decide (((gt a0 x1).1) = ((gt a1 x1).1))) && ((((gt a0 x1).2.1) == ((gt a1 x1).2.1)) && ((decide (((gt a0 x1).2.2) = ((gt a1 x1).2.2))) && true)))))] rfl rfl ?_
      refine J.cond rfl (fun c3 => ?_) (fun c3 => ?_)
      · replace H := ite_t c3 H
        refine J.seq (J.region ?_)
        refine RJ.run ttok 1 rfl ?_
        refine RJ.fin [(4, .bool false)] rfl ?_
        refine J.ret ?_
        obtain rfl := Option.some.inj H
        exact ⟨_, _, _, (results_slots rfl), ⟨rfl, rfl⟩, h2.only [] rfl⟩
      replace H := ite_f c3 H
      refine J.skip ?_
      refine J.region ?_
      refine RJ.run ttok 3 rfl ?_
      refine RJ.fin [(0, _), (1, _), (5, .int .i64 (w64 (x1 + 1)))] rfl ?_
      have h3 := ((h2.only [] rfl).rds [0, 1] rfl)
      exact ⟨k1, by omega, (w64 (x1 + 1)), rfl, h3, H⟩
    replace H := ite_f c2 H
    refine J.exit ?_
    refine J.seq (J.region ?_)
    refine RJ.run ttok 1 rfl ?_
    refine RJ.fin [(4, .bool true)] rfl ?_
    refine J.ret ?_
    obtain rfl := Option.some.inj H
    exact ⟨_, _, _, (results_slots rfl), ⟨rfl, rfl⟩, h1.only [] rfl⟩

def Q79.l0 : Nat → (List (List UInt8 × List UInt8)) → (List (List UInt8 × List UInt8)) → (Int) → Option (Bool)
  | 0, _, _, _ => none
  | k + 1, a0, a1, x1 => if (decide (x1 < (a0.length : Int))) = true then (if 0 ≤ x1 ∧ x1 < (a0.length : Int) then (if 0 ≤ x1 ∧ x1 < (a1.length : Int) then (if (!((decide (((gt a0 x1).1) = ((gt a1 x1).1))) && ((decide (((gt a0 x1).2) = ((gt a1 x1).2))) && true))) = true then (some false) else (Q79.l0 k a0 a1 (w64 (x1 + 1)))) else none) else none) else (some true)
def Q79.f (k : Nat) (a0 : List (List UInt8 × List UInt8)) (a1 : List (List UInt8 × List UInt8)) : Option (Bool) := if (!decide ((a0.length : Int) = (a1.length : Int))) = true then (some false) else (Q79.l0 k a0 a1 0)
theorem Q79.spec {k : Nat} {a0 : List (List UInt8 × List UInt8)} {a1 : List (List UInt8 × List UInt8)} {A1 : Option Addr} {c_1 : Nat} {A2 : Option Addr} {c_2 : Nat} {r : Bool} (H : Q79.f k a0 a1 = some r) :
    Spec Tryz.prog 34 [.slice A1 a0.length c_1, .slice A2 a1.length c_2] [] [rdC 51 (.pair .str .str) a0 (.slice A1 a0.length c_1), rdC 51 (.pair .str .str) a1 (.slice A2 a1.length c_2)] (fun v l => v = .bool r ∧ l = []) := by
  refine Spec.enter Tryz.func34 rfl (by kernel_rfl) (by kernel_rfl) fun w0 F0 h0 => ?_
  unfold Q79.f at H
  refine J.seq (J.region ?_)
  refine RJ.run ttok 1 rfl ?_
  refine RJ.fin [(0, .slice A1 a0.length c_1), (1, .slice A2 a1.length c_2)] rfl ?_
  refine J.seq (J.seq (J.region ?_))
  refine RJ.run ttok 5 rfl ?_
  refine RJ.fin [(0, _), (1, _), (10, .bool (!decide ((a0.length : Int) = (a1.length : Int))))] rfl ?_
  refine J.cond rfl (fun c1 => ?_) (fun c1 => ?_)
  · replace H := ite_t c1 H
    refine J.seq (J.region ?_)
    refine RJ.run ttok 1 rfl ?_
    refine RJ.fin [(4, .bool false)] rfl ?_
    refine J.ret ?_
    obtain rfl := Option.some.inj H
    exact ⟨_, _, _, (results_slots rfl), ⟨rfl, rfl⟩, h0.only [] rfl⟩
  replace H := ite_f c1 H
  refine J.skip ?_
  refine J.seq (J.seq (J.region ?_))
  refine RJ.run ttok 1 rfl ?_
  refine RJ.fin [(0, _), (1, _), (5, .int .i64 0)] rfl ?_
  refine J.block ?_
  have h4 := ((h0.only [] rfl).rds [0, 1] rfl)
  refine J.loop (fun kk env w => ∃ (x1 : Int), env = [(0, .slice A1 a0.length c_1), (1, .slice A2 a1.length c_2), (5, .int .i64 x1)] ∧ St w0 F0 [] [rdC 51 (.pair .str .str) a0 (.slice A1 a0.length c_1), rdC 51 (.pair .str .str) a1 (.slice A2 a1.length c_2)] w ∧ Q79.l0 kk a0 a1 x1 = some r) (k := k) ⟨0, rfl, h4, H⟩ ?_
  rintro k1 env w1 ⟨x1, rfl, h1, H⟩
  cases k1 with
  | zero => exact nomatch (show none = some r from H)
  | succ k1 =>
    rw [Q79.l0] at H
    refine J.seq (J.seq (J.region ?_))
    refine RJ.run ttok 4 rfl ?_
    refine RJ.fin [(0, _), (1, _), (5, _), (14, .bool (decide (x1 < (a0.length : Int))))] rfl ?_
    refine J.cond rfl (fun c2 => ?_) (fun c2 => ?_)
    · replace H := ite_t c2 H
      refine J.skip ?_
      refine J.seq (J.block (J.seq ?_))
      refine J.heldSt mix h1 ?_
      have h2 := h1.drew
      refine HJ.run ttok rfl [0, 1, 4, 5] rfl ?_
      obtain ⟨⟨p1, p2⟩, H⟩ := guard_t H
      have e1 := elem_A h2.wh (Gives.self 0 rfl) p1 p2
      refine HJ.q (i := 2) rfl rfl rfl rfl rfl rfl (q_index ttok rfl rfl rfl rfl rfl e1 p1 p2) ?_
      refine HJ.q (i := 3) rfl rfl rfl rfl rfl rfl (q_load_elem (f := 0) ttok rfl (fun w e => e) (Gives.self 0 rfl) p1 p2 rfl rfl rfl rfl rfl) ?_
      obtain ⟨⟨p3, p4⟩, H⟩ := guard_t H
      have e2 := elem_A h2.wh (Gives.self 1 rfl) p3 p4
      refine HJ.q (i := 6) rfl rfl rfl rfl rfl rfl (q_index ttok rfl rfl rfl rfl rfl e2 p3 p4) ?_
      refine HJ.q (i := 7) rfl rfl rfl rfl rfl rfl (q_load_elem (f := 0) ttok rfl (fun w e => e) (Gives.self 1 rfl) p3 p4 rfl rfl rfl rfl rfl) ?_
      refine HJ.run ttok rfl [8] rfl ?_
      refine HJ.fin [(0, _), (1, _), (5, _), (25, .bool (!((decide (((gt a0 x1).1) = ((gt a1 x1).1))) && ((decide (((gt a0 x1).2) = ((gt a1 x1).2))) && true))))] rfl rfl ?_
      refine J.cond rfl (fun c3 => ?_) (fun c3 => ?_)
      · replace H := ite_t c3 H
        refine J.seq (J.region ?_)
        refine RJ.run ttok 1 rfl ?_
        refine RJ.fin [(4, .bool false)] rfl ?_
        refine J.ret ?_
        obtain rfl := Option.some.inj H
        exact ⟨_, _, _, (results_slots rfl), ⟨rfl, rfl⟩, h2.only [] rfl⟩
      replace H := ite_f c3 H
      refine J.skip ?_
      refine J.region ?_
      refine RJ.run ttok 3 rfl ?_
      refine RJ.fin [(0, _), (1, _), (5, .int .i64 (w64 (x1 + 1)))] rfl ?_
      have h3 := ((h2.only [] rfl).rds [0, 1] rfl)
      exact ⟨k1, by omega, (w64 (x1 + 1)), rfl, h3, H⟩
    replace H := ite_f c2 H
    refine J.exit ?_
    refine J.seq (J.region ?_)
    refine RJ.run ttok 1 rfl ?_
    refine RJ.fin [(4, .bool true)] rfl ?_
    refine J.ret ?_
    obtain rfl := Option.some.inj H
    exact ⟨_, _, _, (results_slots rfl), ⟨rfl, rfl⟩, h1.only [] rfl⟩

def Q86.f (k : Nat) (a0 : Int × List (Int) × List (List UInt8) × (List (List UInt8 × Bool × List UInt8)) × (List (List UInt8 × List UInt8))) (a1 : Int × List (Int) × List (List UInt8) × (List (List UInt8 × Bool × List UInt8)) × (List (List UInt8 × List UInt8))) : Option (Bool) := if (decide (a0.1 = a1.1)) = true then ((Q83.f k a0.2.1 a1.2.1).bind fun r1 => (if r1 = true then ((Q82.f k a0.2.2.1 a1.2.2.1).bind fun r2 => (if r2 = true then ((Q77.f k a0.2.2.2.1 a1.2.2.2.1).bind fun r3 => (if r3 = true then ((Q79.f k a0.2.2.2.2 a1.2.2.2.2).bind fun r4 => (some r4)) else (some false))) else (some false))) else (some false))) else (some false)
theorem Q86.spec {k : Nat} {a0 : Int × List (Int) × List (List UInt8) × (List (List UInt8 × Bool × List UInt8)) × (List (List UInt8 × List UInt8))} {a1 : Int × List (Int) × List (List UInt8) × (List (List UInt8 × Bool × List UInt8)) × (List (List UInt8 × List UInt8))} {A1 : Option Addr} {c_1 : Nat} {A2 : Option Addr} {c_2 : Nat} {A3 : Option Addr} {c_3 : Nat} {A4 : Option Addr} {c_4 : Nat} {A5 : Option Addr} {c_5 : Nat} {A6 : Option Addr} {c_6 : Nat} {A7 : Option Addr} {c_7 : Nat} {A8 : Option Addr} {c_8 : Nat} {r : Bool} (H : Q86.f k a0 a1 = some r) :
    Spec Tryz.prog 13 [.agg #[.int .i64 a0.1, .slice A1 a0.2.1.length c_1, .slice A2 a0.2.2.1.length c_2, .slice A3 a0.2.2.2.1.length c_3, .slice A4 a0.2.2.2.2.length c_4], .agg #[.int .i64 a1.1, .slice A5 a1.2.1.length c_5, .slice A6 a1.2.2.1.length c_6, .slice A7 a1.2.2.2.1.length c_7, .slice A8 a1.2.2.2.2.length c_8]] [] [rdC 70 (.int .u32) a0.2.1 (.slice A1 a0.2.1.length c_1), rdC 9 .str a0.2.2.1 (.slice A2 a0.2.2.1.length c_2), rdC 49 (.pair .str (.pair .bool .str)) a0.2.2.2.1 (.slice A3 a0.2.2.2.1.length c_3), rdC 51 (.pair .str .str) a0.2.2.2.2 (.slice A4 a0.2.2.2.2.length c_4), rdC 70 (.int .u32) a1.2.1 (.slice A5 a1.2.1.length c_5), rdC 9 .str a1.2.2.1 (.slice A6 a1.2.2.1.length c_6), rdC 49 (.pair .str (.pair .bool .str)) a1.2.2.2.1 (.slice A7 a1.2.2.2.1.length c_7), rdC 51 (.pair .str .str) a1.2.2.2.2 (.slice A8 a1.2.2.2.2.length c_8)] (fun v l => v = .bool r ∧ l = []) := by
  refine Spec.enter Tryz.func13 rfl (by kernel_rfl) (by kernel_rfl) fun w0 F0 h0 => ?_
  unfold Q86.f at H
  refine J.seq (J.region ?_)
  refine RJ.op rfl rfl (op_box rfl rfl h0) ?_
  rintro _ w1 ⟨b1, rfl, h1⟩
  replace h1 : St w0 F0 [boxC b1 29 [.int .i64 a0.1, .slice A1 a0.2.1.length c_1, .slice A2 a0.2.2.1.length c_2, .slice A3 a0.2.2.2.1.length c_3, .slice A4 a0.2.2.2.2.length c_4]] _ _ := h1
  refine RJ.op rfl rfl (op_box rfl rfl h1) ?_
  rintro _ w2 ⟨b2, rfl, h2⟩
  replace h2 : St w0 F0 [boxC b2 29 [.int .i64 a1.1, .slice A5 a1.2.1.length c_5, .slice A6 a1.2.2.1.length c_6, .slice A7 a1.2.2.2.1.length c_7, .slice A8 a1.2.2.2.2.length c_8], _] _ _ := h2
  refine RJ.run ttok 1 rfl ?_
  refine RJ.fin [(2, .pointer (some ⟨b1, 0, none⟩)), (3, .pointer (some ⟨b2, 0, none⟩))] rfl ?_
  refine J.seq (J.region ?_)
  refine RJ.run ttok 1 rfl ?_
  refine RJ.q rfl rfl (q_load_box ttok 1 h2.wht rfl rfl rfl rfl rfl) ?_
  refine RJ.run ttok 1 rfl ?_
  refine RJ.q rfl rfl (q_load_box ttok 0 h2.wht rfl rfl rfl rfl rfl) ?_
  refine RJ.run ttok 2 rfl ?_
  rcases Bool.eq_false_or_eq_true (decide (a0.1 = a1.1)) with c1 | c1
  · replace H := ite_t c1 H
    refine RJ.know (t := 10) rfl (congrArg Value.bool c1) ?_
    refine RJ.run ttok 1 rfl ?_
    refine RJ.q rfl rfl (q_load_box ttok 1 h2.wht rfl rfl rfl rfl rfl) ?_
    refine RJ.run ttok 1 rfl ?_
    refine RJ.q rfl rfl (q_load_box ttok 0 h2.wht rfl rfl rfl rfl rfl) ?_
    obtain ⟨r1, q1, H⟩ := bind_t H
    refine RJ.op rfl rfl (op_call [] (Q83.spec q1) rfl rfl rfl h2 rfl (gcons (Gives.self 2 rfl) (gcons (Gives.self 6 rfl) gnil))) ?_
    rintro _ w3 ⟨_, ⟨rfl, rfl⟩, h3⟩
    replace h3 : St w0 F0 [_, _] _ _ := h3
    refine RJ.run ttok 2 rfl ?_
    rcases Bool.eq_false_or_eq_true r1 with c2 | c2
    · replace H := ite_t c2 H
      refine RJ.know (t := 17) rfl (congrArg Value.bool c2) ?_
      refine RJ.run ttok 1 rfl ?_
      refine RJ.q rfl rfl (q_load_box ttok 1 h3.wht rfl rfl rfl rfl rfl) ?_
      refine RJ.run ttok 1 rfl ?_
      refine RJ.q rfl rfl (q_load_box ttok 0 h3.wht rfl rfl rfl rfl rfl) ?_
      obtain ⟨r2, q2, H⟩ := bind_t H
      refine RJ.op rfl rfl (op_call [] (Q82.spec q2) rfl rfl rfl h3 rfl (gcons (Gives.self 3 rfl) (gcons (Gives.self 7 rfl) gnil))) ?_
      rintro _ w4 ⟨_, ⟨rfl, rfl⟩, h4⟩
      replace h4 : St w0 F0 [_, _] _ _ := h4
      refine RJ.run ttok 2 rfl ?_
      rcases Bool.eq_false_or_eq_true r2 with c3 | c3
      · replace H := ite_t c3 H
        refine RJ.know (t := 24) rfl (congrArg Value.bool c3) ?_
        refine RJ.run ttok 1 rfl ?_
        refine RJ.q rfl rfl (q_load_box ttok 1 h4.wht rfl rfl rfl rfl rfl) ?_
        refine RJ.run ttok 1 rfl ?_
        refine RJ.q rfl rfl (q_load_box ttok 0 h4.wht rfl rfl rfl rfl rfl) ?_
        obtain ⟨r3, q3, H⟩ := bind_t H
        refine RJ.op rfl rfl (op_call [] (Q77.spec q3) rfl rfl rfl h4 rfl (gcons (Gives.self 4 rfl) (gcons (Gives.self 8 rfl) gnil))) ?_
        rintro _ w5 ⟨_, ⟨rfl, rfl⟩, h5⟩
        replace h5 : St w0 F0 [_, _] _ _ := h5
        refine RJ.run ttok 2 rfl ?_
        rcases Bool.eq_false_or_eq_true r3 with c4 | c4
        · replace H := ite_t c4 H
          refine RJ.know (t := 31) rfl (congrArg Value.bool c4) ?_
          refine RJ.run ttok 1 rfl ?_
          refine RJ.q rfl rfl (q_load_box ttok 1 h5.wht rfl rfl rfl rfl rfl) ?_
          refine RJ.run ttok 1 rfl ?_
          refine RJ.q rfl rfl (q_load_box ttok 0 h5.wht rfl rfl rfl rfl rfl) ?_
          obtain ⟨r4, q4, H⟩ := bind_t H
          refine RJ.op rfl rfl (op_call [] (Q79.spec q4) rfl rfl rfl h5 rfl (gcons (Gives.self 5 rfl) (gcons (Gives.self 9 rfl) gnil))) ?_
          rintro _ w6 ⟨_, ⟨rfl, rfl⟩, h6⟩
          replace h6 : St w0 F0 [_, _] _ _ := h6
          refine RJ.run ttok 2 rfl ?_
          refine RJ.fin [(4, .bool r4)] rfl ?_
          have h7 := h6.only [] rfl
          replace h7 : St w0 F0 [] _ _ := h7
          refine J.ret ?_
          obtain rfl := Option.some.inj H
          exact ⟨_, _, _, (results_slots rfl), ⟨rfl, rfl⟩, h7.only [] rfl⟩
        replace H := ite_f c4 H
        refine RJ.know (t := 31) rfl (congrArg Value.bool c4) ?_
        refine RJ.run ttok 7 rfl ?_
        refine RJ.fin [(4, .bool false)] rfl ?_
        have h8 := h5.only [] rfl
        replace h8 : St w0 F0 [] _ _ := h8
        refine J.ret ?_
        obtain rfl := Option.some.inj H
        exact ⟨_, _, _, (results_slots rfl), ⟨rfl, rfl⟩, h8.only [] rfl⟩
      replace H := ite_f c3 H
      refine RJ.know (t := 24) rfl (congrArg Value.bool c3) ?_
      refine RJ.run ttok 14 rfl ?_
      refine RJ.fin [(4, .bool false)] rfl ?_
      have h9 := h4.only [] rfl
      replace h9 : St w0 F0 [] _ _ := h9
      refine J.ret ?_
      obtain rfl := Option.some.inj H
      exact ⟨_, _, _, (results_slots rfl), ⟨rfl, rfl⟩, h9.only [] rfl⟩
    replace H := ite_f c2 H
    refine RJ.know (t := 17) rfl (congrArg Value.bool c2) ?_
    refine RJ.run ttok 21 rfl ?_
    refine RJ.fin [(4, .bool false)] rfl ?_
    have h10 := h3.only [] rfl
    replace h10 : St w0 F0 [] _ _ := h10
    refine J.ret ?_
    obtain rfl := Option.some.inj H
    exact ⟨_, _, _, (results_slots rfl), ⟨rfl, rfl⟩, h10.only [] rfl⟩
  replace H := ite_f c1 H
  refine RJ.know (t := 10) rfl (congrArg Value.bool c1) ?_
  refine RJ.run ttok 28 rfl ?_
  refine RJ.fin [(4, .bool false)] rfl ?_
  have h11 := h2.only [] rfl
  replace h11 : St w0 F0 [] _ _ := h11
  refine J.ret ?_
  obtain rfl := Option.some.inj H
  exact ⟨_, _, _, (results_slots rfl), ⟨rfl, rfl⟩, h11.only [] rfl⟩

def Q66.f (k : Nat) (a0 : Int × Int × Int × Int × Int × Int × Int × Int) (a1 : Int × List (Int) × List (List UInt8) × (List (List UInt8 × Bool × List UInt8)) × (List (List UInt8 × List UInt8))) (a2 : Int) (a3 : Int) : Option (Bool) := (Q68.f (a0.1, a0.2.1, a0.2.2.1, a0.2.2.2.1, a0.2.2.2.2.1, a0.2.2.2.2.2.1, a0.2.2.2.2.2.2.1, a0.2.2.2.2.2.2.2)).bind fun r1 => (if (!r1) = true then ((Q67.f k).bind fun r2 => (some r2)) else ((Q65.f k (a1.1, a1.2.1, a1.2.2.1, a1.2.2.2.1, a1.2.2.2.2)).bind fun r3 => (if r3 = true then ((Q67.f k).bind fun r4 => (some r4)) else ((Q7.f k (a0.1, a0.2.1, a0.2.2.1, a0.2.2.2.1, a0.2.2.2.2.1, a0.2.2.2.2.2.1, a0.2.2.2.2.2.2.1, a0.2.2.2.2.2.2.2) (a1.1, a1.2.1, a1.2.2.1, a1.2.2.2.1, a1.2.2.2.2)).bind fun r5 => (if (!decide (r5.2 = 0)) = true then ((Q89.f k (a0.1, a0.2.1, a0.2.2.1, a0.2.2.2.1, a0.2.2.2.2.1, a0.2.2.2.2.2.1, a0.2.2.2.2.2.2.1, a0.2.2.2.2.2.2.2) (a1.1, a1.2.1, a1.2.2.1, a1.2.2.2.1, a1.2.2.2.2)).bind fun r6 => (if (!r6) = true then ((Q67.f k).bind fun r7 => (some r7)) else (some false))) else ((Q6.f k (a0.1, a0.2.1, a0.2.2.1, a0.2.2.2.1, a0.2.2.2.2.1, a0.2.2.2.2.2.1, a0.2.2.2.2.2.2.1, a0.2.2.2.2.2.2.2) r5.1).bind fun r8 => (if (!decide (r8.2 = 0)) = true then (some false) else ((Q86.f k (r8.1.1, r8.1.2.1, r8.1.2.2.1, r8.1.2.2.2.1, r8.1.2.2.2.2) (a1.1, a1.2.1, a1.2.2.1, a1.2.2.2.1, a1.2.2.2.2)).bind fun r9 => (if (!r9) = true then (some false) else (if (!decide ((r5.1.length : Int) = a0.2.1)) = true then (some false) else (if 0 < (r5.1.length : Int) then (if 0 ≤ (Int.tmod (w64 (a2)) (r5.1.length : Int)) ∧ (Int.tmod (w64 (a2)) (r5.1.length : Int)) < (r5.1.length : Int) then ((Q6.f k (a0.1, a0.2.1, a0.2.2.1, a0.2.2.2.1, a0.2.2.2.2.1, a0.2.2.2.2.2.1, a0.2.2.2.2.2.2.1, a0.2.2.2.2.2.2.2) (r5.1.set (Int.tmod (w64 (a2)) (r5.1.length : Int)).toNat (IntKind.u8.wrap ((gt r5.1 (Int.tmod (w64 (a2)) (r5.1.length : Int))) + a3)))).bind fun r10 => (if (decide (r10.2 = 0)) = true then ((Q86.f k (r10.1.1, r10.1.2.1, r10.1.2.2.1, r10.1.2.2.2.1, r10.1.2.2.2.2) (a1.1, a1.2.1, a1.2.2.1, a1.2.2.2.1, a1.2.2.2.2)).bind fun r11 => (if (r11 == (decide (a3 = 0))) = true then ((Q67.f k).bind fun r12 => (some r12)) else (some false))) else (if (decide (r10.2 = 12)) = true then (if (false == (decide (a3 = 0))) = true then ((Q67.f k).bind fun r13 => (some r13)) else (some false)) else (some false)))) else none) else none)))))))))))
theorem Q66.spec {k : Nat} {a0 : Int × Int × Int × Int × Int × Int × Int × Int} {a1 : Int × List (Int) × List (List UInt8) × (List (List UInt8 × Bool × List UInt8)) × (List (List UInt8 × List UInt8))} {a2 : Int} {a3 : Int} {A1 : Option Addr} {c_1 : Nat} {A2 : Option Addr} {c_2 : Nat} {A3 : Option Addr} {c_3 : Nat} {A4 : Option Addr} {c_4 : Nat} {r : Bool} (H : Q66.f k a0 a1 a2 a3 = some r) :
    Spec Tryz.prog 5 [.agg #[.int .i64 a0.1, .int .i64 a0.2.1, .int .i64 a0.2.2.1, .int .i64 a0.2.2.2.1, .int .i64 a0.2.2.2.2.1, .int .i64 a0.2.2.2.2.2.1, .int .i64 a0.2.2.2.2.2.2.1, .int .i64 a0.2.2.2.2.2.2.2], .agg #[.int .i64 a1.1, .slice A1 a1.2.1.length c_1, .slice A2 a1.2.2.1.length c_2, .slice A3 a1.2.2.2.1.length c_3, .slice A4 a1.2.2.2.2.length c_4], .int .u16 a2, .int .u8 a3] [] [rdC 70 (.int .u32) a1.2.1 (.slice A1 a1.2.1.length c_1), rdC 9 .str a1.2.2.1 (.slice A2 a1.2.2.1.length c_2), rdC 49 (.pair .str (.pair .bool .str)) a1.2.2.2.1 (.slice A3 a1.2.2.2.1.length c_3), rdC 51 (.pair .str .str) a1.2.2.2.2 (.slice A4 a1.2.2.2.2.length c_4)] (fun v l => v = .bool r ∧ l = []) := by
  refine Spec.enter Tryz.func5 rfl (by kernel_rfl) (by kernel_rfl) fun w0 F0 h0 => ?_
  unfold Q66.f at H
  refine J.seq (J.region ?_)
  refine RJ.op rfl rfl (op_box rfl rfl h0) ?_
  rintro _ w1 ⟨b1, rfl, h1⟩
  replace h1 : St w0 F0 [boxC b1 23 [.int .i64 a0.1, .int .i64 a0.2.1, .int .i64 a0.2.2.1, .int .i64 a0.2.2.2.1, .int .i64 a0.2.2.2.2.1, .int .i64 a0.2.2.2.2.2.1, .int .i64 a0.2.2.2.2.2.2.1, .int .i64 a0.2.2.2.2.2.2.2]] _ _ := h1
  refine RJ.op rfl rfl (op_box rfl rfl h1) ?_
  rintro _ w2 ⟨b2, rfl, h2⟩
  replace h2 : St w0 F0 [boxC b2 29 [.int .i64 a1.1, .slice A1 a1.2.1.length c_1, .slice A2 a1.2.2.1.length c_2, .slice A3 a1.2.2.2.1.length c_3, .slice A4 a1.2.2.2.2.length c_4], _] _ _ := h2
  refine RJ.run ttok 1 rfl ?_
  refine RJ.fin [(2, .int .u16 a2), (3, .int .u8 a3), (4, .pointer (some ⟨b1, 0, none⟩)), (5, .pointer (some ⟨b2, 0, none⟩))] rfl ?_
  refine J.seq (J.seq (J.region ?_))
  refine RJ.q rfl rfl (q_load_box ttok 1 h2.wht rfl rfl rfl rfl rfl) ?_
  obtain ⟨r1, q1, H⟩ := bind_t H
  refine RJ.op rfl rfl (op_call [] (Q68.spec q1) rfl rfl rfl h2 rfl gnil) ?_
  rintro _ w3 ⟨_, ⟨rfl, rfl⟩, h3⟩
  replace h3 : St w0 F0 [_, _] _ _ := h3
  refine RJ.run ttok 2 rfl ?_
  rcases Bool.eq_false_or_eq_true (!r1) with c1 | c1
  · replace H := ite_t c1 H
    refine RJ.know (t := 19) rfl (congrArg Value.bool c1) ?_
    refine RJ.run ttok 3 rfl ?_
    refine RJ.fin [(2, _), (3, _), (4, _), (5, _), (22, .bool true)] rfl ?_
    refine J.condT rfl ?_
    refine J.seq (J.region ?_)
    obtain ⟨r2, q2, H⟩ := bind_t H
    refine RJ.op rfl rfl (op_call [] (Q67.spec q2) rfl rfl rfl h3 rfl gnil) ?_
    rintro _ w4 ⟨_, ⟨rfl, rfl⟩, h4⟩
    replace h4 : St w0 F0 [_, _] _ _ := h4
    refine RJ.run ttok 1 rfl ?_
    refine RJ.fin [(8, .bool r2)] rfl ?_
    have h5 := h4.only [] rfl
    replace h5 : St w0 F0 [] _ _ := h5
    refine J.ret ?_
    obtain rfl := Option.some.inj H
    exact ⟨_, _, _, (results_slots rfl), ⟨rfl, rfl⟩, h5.only [] rfl⟩
  replace H := ite_f c1 H
  refine RJ.know (t := 19) rfl (congrArg Value.bool c1) ?_
  refine RJ.q rfl rfl (q_load_box ttok 0 h3.wht rfl rfl rfl rfl rfl) ?_
  obtain ⟨r3, q3, H⟩ := bind_t H
  refine RJ.op rfl rfl (op_call [] (Q65.spec q3) rfl rfl rfl h3 rfl (gcons (Gives.self 2 rfl) (gcons (Gives.self 3 rfl) (gcons (Gives.self 4 rfl) (gcons (Gives.self 5 rfl) gnil))))) ?_
  rintro _ w5 ⟨_, ⟨rfl, rfl⟩, h6⟩
  replace h6 : St w0 F0 [_, _] _ _ := h6
  refine RJ.run ttok 1 rfl ?_
  refine RJ.fin [(2, _), (3, _), (4, _), (5, _), (22, .bool r3)] rfl ?_
  refine J.cond rfl (fun c2 => ?_) (fun c2 => ?_)
  · replace H := ite_t c2 H
    refine J.seq (J.region ?_)
    obtain ⟨r4, q4, H⟩ := bind_t H
    refine RJ.op rfl rfl (op_call [] (Q67.spec q4) rfl rfl rfl h6 rfl gnil) ?_
    rintro _ w6 ⟨_, ⟨rfl, rfl⟩, h7⟩
    replace h7 : St w0 F0 [_, _] _ _ := h7
    refine RJ.run ttok 1 rfl ?_
    refine RJ.fin [(8, .bool r4)] rfl ?_
    have h8 := h7.only [] rfl
    replace h8 : St w0 F0 [] _ _ := h8
    refine J.ret ?_
    obtain rfl := Option.some.inj H
    exact ⟨_, _, _, (results_slots rfl), ⟨rfl, rfl⟩, h8.only [] rfl⟩
  replace H := ite_f c2 H
  refine J.skip ?_
  refine J.seq (J.region ?_)
  refine RJ.q rfl rfl (q_load_box ttok 1 h6.wht rfl rfl rfl rfl rfl) ?_
  refine RJ.q rfl rfl (q_load_box ttok 0 h6.wht rfl rfl rfl rfl rfl) ?_
  obtain ⟨r5, q5, H⟩ := bind_t H
  refine RJ.op rfl rfl (op_call [] (Q7.spec q5) rfl rfl rfl h6 rfl (gcons (Gives.self 2 rfl) (gcons (Gives.self 3 rfl) (gcons (Gives.self 4 rfl) (gcons (Gives.self 5 rfl) gnil))))) ?_
  rintro _ w7 ⟨_, ⟨A5, c_5, rfl, rfl⟩, h9⟩
  replace h9 : St w0 F0 [ownC 5 (.int .u8) r5.1 (.slice A5 r5.1.length c_5), _, _] _ _ := h9
  refine RJ.run ttok 5 rfl ?_
  refine RJ.fin [(2, _), (3, _), (4, _), (5, _), (9, .slice A5 r5.1.length c_5), (10, .int .i64 r5.2)] rfl ?_
  refine J.seq (J.seq (J.region ?_))
  refine RJ.run ttok 2 rfl ?_
  refine RJ.fin [(2, _), (3, _), (4, _), (5, _), (9, _), (31, .bool (!decide (r5.2 = 0)))] rfl ?_
  refine J.cond rfl (fun c3 => ?_) (fun c3 => ?_)
  · replace H := ite_t c3 H
    refine J.seq (J.region ?_)
    refine RJ.q rfl rfl (q_load_box ttok 2 h9.wht rfl rfl rfl rfl rfl) ?_
    refine RJ.q rfl rfl (q_load_box ttok 1 h9.wht rfl rfl rfl rfl rfl) ?_
    obtain ⟨r6, q6, H⟩ := bind_t H
    refine RJ.op rfl rfl (op_call [] (Q89.spec q6) rfl rfl rfl h9 rfl (gcons (Gives.self 3 rfl) (gcons (Gives.self 4 rfl) (gcons (Gives.self 5 rfl) (gcons (Gives.self 6 rfl) gnil))))) ?_
    rintro _ w8 ⟨_, ⟨rfl, rfl⟩, h10⟩
    replace h10 : St w0 F0 [_, _, _] _ _ := h10
    refine RJ.run ttok 2 rfl ?_
    rcases Bool.eq_false_or_eq_true (!r6) with c4 | c4
    · replace H := ite_t c4 H
      refine RJ.know (t := 36) rfl (congrArg Value.bool c4) ?_
      obtain ⟨r7, q7, H⟩ := bind_t H
      refine RJ.op rfl rfl (op_call [] (Q67.spec q7) rfl rfl rfl h10 rfl gnil) ?_
      rintro _ w9 ⟨_, ⟨rfl, rfl⟩, h11⟩
      replace h11 : St w0 F0 [_, _, _] _ _ := h11
      refine RJ.run ttok 2 rfl ?_
      refine RJ.fin [(8, .bool r7)] rfl ?_
      have h12 := h11.only [] rfl
      replace h12 : St w0 F0 [] _ _ := h12
      refine J.ret ?_
      obtain rfl := Option.some.inj H
      exact ⟨_, _, _, (results_slots rfl), ⟨rfl, rfl⟩, h12.only [] rfl⟩
    replace H := ite_f c4 H
    refine RJ.know (t := 36) rfl (congrArg Value.bool c4) ?_
    refine RJ.run ttok 3 rfl ?_
    refine RJ.fin [(8, .bool false)] rfl ?_
    have h13 := h10.only [] rfl
    replace h13 : St w0 F0 [] _ _ := h13
    refine J.ret ?_
    obtain rfl := Option.some.inj H
    exact ⟨_, _, _, (results_slots rfl), ⟨rfl, rfl⟩, h13.only [] rfl⟩
  replace H := ite_f c3 H
  refine J.skip ?_
  refine J.seq (J.region ?_)
  refine RJ.q rfl rfl (q_load_box ttok 2 h9.wht rfl rfl rfl rfl rfl) ?_
  refine RJ.run ttok 1 rfl ?_
  obtain ⟨r8, q8, H⟩ := bind_t H
  refine RJ.op rfl rfl (op_call [] (Q6.spec q8) rfl rfl rfl h9 rfl (gcons (Gives.of 0 rfl own_rd) gnil)) ?_
  rintro _ w10 ⟨_, ⟨A6, c_6, A7, c_7, A8, c_8, A9, c_9, rfl, rfl⟩, h14⟩
  replace h14 : St w0 F0 [ownC 70 (.int .u32) r8.1.2.1 (.slice A6 r8.1.2.1.length c_6), ownC 9 .str r8.1.2.2.1 (.slice A7 r8.1.2.2.1.length c_7), ownC 49 (.pair .str (.pair .bool .str)) r8.1.2.2.2.1 (.slice A8 r8.1.2.2.2.1.length c_8), ownC 51 (.pair .str .str) r8.1.2.2.2.2 (.slice A9 r8.1.2.2.2.2.length c_9), _, _, _] _ _ := h14
  refine RJ.run ttok 3 rfl ?_
  refine RJ.op rfl rfl (op_alloc ttok rfl rfl h14) ?_
  rintro _ w11 ⟨b3, rfl, h15⟩
  replace h15 : St w0 F0 [boxC b3 29 [.int .i64 0, .slice none ([] : List (Int)).length 0, .slice none ([] : List (List UInt8)).length 0, .slice none ([] : List (List UInt8 × Bool × List UInt8)).length 0, .slice none ([] : List (List UInt8 × List UInt8)).length 0], _, _, _, _, _, _, _] _ _ := h15
  refine RJ.op rfl rfl (op_store ttok 0 rfl h15 rfl rfl rfl rfl rfl rfl rfl) ?_
  intro _ w12 h16
  replace h16 : St w0 F0 [boxC b3 29 [.int .i64 r8.1.1, .slice A6 r8.1.2.1.length c_6, .slice A7 r8.1.2.2.1.length c_7, .slice A8 r8.1.2.2.2.1.length c_8, .slice A9 r8.1.2.2.2.2.length c_9], _, _, _, _, _, _, _] _ _ := h16
  refine RJ.run ttok 1 rfl ?_
  refine RJ.fin [(2, _), (3, _), (4, _), (5, _), (9, _), (11, .pointer (some ⟨b3, 0, none⟩)), (12, .int .i64 r8.2)] rfl ?_
  refine J.seq (J.seq (J.region ?_))
  refine RJ.run ttok 3 rfl ?_
  rcases Bool.eq_false_or_eq_true (!decide (r8.2 = 0)) with c5 | c5
  · replace H := ite_t c5 H
    refine RJ.know (t := 47) rfl (congrArg Value.bool c5) ?_
    refine RJ.run ttok 12 rfl ?_
    refine RJ.fin [(2, _), (3, _), (4, _), (5, _), (9, _), (59, .bool true)] rfl ?_
    have h17 := h16.only [5, 5, 5] rfl
    replace h17 : St w0 F0 [_, _, _] _ _ := h17
    refine J.condT rfl ?_
    refine J.seq (J.region ?_)
    refine RJ.run ttok 1 rfl ?_
    refine RJ.fin [(8, .bool false)] rfl ?_
    have h18 := h17.only [] rfl
    replace h18 : St w0 F0 [] _ _ := h18
    refine J.ret ?_
    obtain rfl := Option.some.inj H
    exact ⟨_, _, _, (results_slots rfl), ⟨rfl, rfl⟩, h18.only [] rfl⟩
  replace H := ite_f c5 H
  refine RJ.know (t := 47) rfl (congrArg Value.bool c5) ?_
  refine RJ.q rfl rfl (q_load_box ttok 0 h16.wht rfl rfl rfl rfl rfl) ?_
  refine RJ.q rfl rfl (q_load_box ttok 6 h16.wht rfl rfl rfl rfl rfl) ?_
  obtain ⟨r9, q9, H⟩ := bind_t H
  refine RJ.op rfl rfl (op_call [] (Q86.spec q9) rfl rfl rfl h16 rfl (gcons (Gives.of 1 rfl own_rd) (gcons (Gives.of 2 rfl own_rd) (gcons (Gives.of 3 rfl own_rd) (gcons (Gives.of 4 rfl own_rd) (gcons (Gives.self 8 rfl) (gcons (Gives.self 9 rfl) (gcons (Gives.self 10 rfl) (gcons (Gives.self 11 rfl) gnil))))))))) ?_
  rintro _ w13 ⟨_, ⟨rfl, rfl⟩, h19⟩
  replace h19 : St w0 F0 [_, _, _, _, _, _, _, _] _ _ := h19
  refine RJ.run ttok 3 rfl ?_
  rcases Bool.eq_false_or_eq_true (!r9) with c6 | c6
  · replace H := ite_t c6 H
    refine RJ.know (t := 53) rfl (congrArg Value.bool c6) ?_
    refine RJ.run ttok 6 rfl ?_
    refine RJ.fin [(2, _), (3, _), (4, _), (5, _), (9, _), (59, .bool true)] rfl ?_
    have h20 := h19.only [5, 5, 5] rfl
    replace h20 : St w0 F0 [_, _, _] _ _ := h20
    refine J.condT rfl ?_
    refine J.seq (J.region ?_)
    refine RJ.run ttok 1 rfl ?_
    refine RJ.fin [(8, .bool false)] rfl ?_
    have h21 := h20.only [] rfl
    replace h21 : St w0 F0 [] _ _ := h21
    refine J.ret ?_
    obtain rfl := Option.some.inj H
    exact ⟨_, _, _, (results_slots rfl), ⟨rfl, rfl⟩, h21.only [] rfl⟩
  replace H := ite_f c6 H
  refine RJ.know (t := 53) rfl (congrArg Value.bool c6) ?_
  refine RJ.run ttok 3 rfl ?_
  refine RJ.q rfl rfl (q_load_box ttok 7 h19.wht rfl rfl rfl rfl rfl) ?_
  refine RJ.run ttok 2 rfl ?_
  refine RJ.fin [(2, _), (3, _), (4, _), (5, _), (9, _), (59, .bool (!decide ((r5.1.length : Int) = a0.2.1)))] rfl ?_
  have h22 := h19.only [5, 5, 5] rfl
  replace h22 : St w0 F0 [_, _, _] _ _ := h22
  refine J.cond rfl (fun c7 => ?_) (fun c7 => ?_)
  · replace H := ite_t c7 H
    refine J.seq (J.region ?_)
    refine RJ.run ttok 1 rfl ?_
    refine RJ.fin [(8, .bool false)] rfl ?_
    have h23 := h22.only [] rfl
    replace h23 : St w0 F0 [] _ _ := h23
    refine J.ret ?_
    obtain rfl := Option.some.inj H
    exact ⟨_, _, _, (results_slots rfl), ⟨rfl, rfl⟩, h23.only [] rfl⟩
  replace H := ite_f c7 H
  refine J.skip ?_
  refine J.seq (J.region ?_)
  refine RJ.run ttok 4 rfl ?_
  obtain ⟨p1, H⟩ := guard_t H
  refine RJ.q rfl rfl (q_rem rfl rfl rfl p1) ?_
  refine RJ.run ttok 1 rfl ?_
  refine RJ.fin [(3, _), (4, _), (5, _), (9, _), (13, .int .i64 (Int.tmod (w64 (a2)) (r5.1.length : Int)))] rfl ?_
  refine J.seq (J.region ?_)
  refine RJ.run ttok 2 rfl ?_
  obtain ⟨⟨p2, p3⟩, H⟩ := guard_t H
  have e1 := elem_A h22.wh (Gives.of 0 rfl own_rd) p2 p3
  refine RJ.q rfl rfl (q_index ttok rfl rfl rfl rfl rfl e1 p2 p3) ?_
  refine RJ.q rfl rfl (q_load_elem (f := 0) ttok rfl h22.wht (Gives.of 0 rfl own_rd) p2 p3 rfl rfl rfl rfl rfl) ?_
  refine RJ.run ttok 2 rfl ?_
  refine RJ.q rfl rfl (q_index ttok rfl rfl rfl rfl rfl e1 p2 p3) ?_
  refine RJ.op rfl rfl (op_store_elem (ty := (.int .u8)) (f := 0) (ix := (Int.tmod (w64 (a2)) (r5.1.length : Int))) ttok rfl (IntKind.u8.wrap ((gt r5.1 (Int.tmod (w64 (a2)) (r5.1.length : Int))) + a3)) 0 rfl h22 rfl rfl p2 p3 rfl rfl rfl rfl rfl rfl rfl) ?_
  intro _ w14 h24
  replace h24 : St w0 F0 [ownC 5 (.int .u8) (r5.1.set (Int.tmod (w64 (a2)) (r5.1.length : Int)).toNat (IntKind.u8.wrap ((gt r5.1 (Int.tmod (w64 (a2)) (r5.1.length : Int))) + a3))) (.slice A5 (r5.1.set (Int.tmod (w64 (a2)) (r5.1.length : Int)).toNat (IntKind.u8.wrap ((gt r5.1 (Int.tmod (w64 (a2)) (r5.1.length : Int))) + a3))).length c_5), _, _] _ _ := h24
  refine RJ.fin [(3, _), (4, _), (5, _), (9, _)] rfl ?_
  refine J.envEq (env' := [(3, .int .u8 a3), (4, .pointer (some ⟨b1, 0, none⟩)), (5, .pointer (some ⟨b2, 0, none⟩)), (9, .slice A5 (r5.1.set (Int.tmod (w64 (a2)) (r5.1.length : Int)).toNat (IntKind.u8.wrap ((gt r5.1 (Int.tmod (w64 (a2)) (r5.1.length : Int))) + a3))).length c_5)]) (by simp only [List.length_set]) ?_
  refine J.seq (J.region ?_)
  refine RJ.q rfl rfl (q_load_box ttok 2 h24.wht rfl rfl rfl rfl rfl) ?_
  refine RJ.run ttok 1 rfl ?_
  obtain ⟨r10, q10, H⟩ := bind_t H
  refine RJ.op rfl rfl (op_call [] (Q6.spec q10) rfl rfl rfl h24 rfl (gcons (Gives.of 0 rfl own_rd) gnil)) ?_
  rintro _ w15 ⟨_, ⟨A10, c_10, A11, c_11, A12, c_12, A13, c_13, rfl, rfl⟩, h25⟩
  replace h25 : St w0 F0 [ownC 70 (.int .u32) r10.1.2.1 (.slice A10 r10.1.2.1.length c_10), ownC 9 .str r10.1.2.2.1 (.slice A11 r10.1.2.2.1.length c_11), ownC 49 (.pair .str (.pair .bool .str)) r10.1.2.2.2.1 (.slice A12 r10.1.2.2.2.1.length c_12), ownC 51 (.pair .str .str) r10.1.2.2.2.2 (.slice A13 r10.1.2.2.2.2.length c_13), _, _, _] _ _ := h25
  refine RJ.run ttok 3 rfl ?_
  refine RJ.op rfl rfl (op_alloc ttok rfl rfl h25) ?_
  rintro _ w16 ⟨b4, rfl, h26⟩
  replace h26 : St w0 F0 [boxC b4 29 [.int .i64 0, .slice none ([] : List (Int)).length 0, .slice none ([] : List (List UInt8)).length 0, .slice none ([] : List (List UInt8 × Bool × List UInt8)).length 0, .slice none ([] : List (List UInt8 × List UInt8)).length 0], _, _, _, _, _, _, _] _ _ := h26
  refine RJ.op rfl rfl (op_store ttok 0 rfl h26 rfl rfl rfl rfl rfl rfl rfl) ?_
  intro _ w17 h27
  replace h27 : St w0 F0 [boxC b4 29 [.int .i64 r10.1.1, .slice A10 r10.1.2.1.length c_10, .slice A11 r10.1.2.2.1.length c_11, .slice A12 r10.1.2.2.2.1.length c_12, .slice A13 r10.1.2.2.2.2.length c_13], _, _, _, _, _, _, _] _ _ := h27
  refine RJ.run ttok 1 rfl ?_
  refine RJ.fin [(3, _), (5, _), (14, .pointer (some ⟨b4, 0, none⟩)), (15, .int .i64 r10.2)] rfl ?_
  have h28 := h27.only [0, 0, 0, 0, 0, 1] rfl
  replace h28 : St w0 F0 [_, _, _, _, _, _] _ _ := h28
  refine J.seq (J.region ?_)
  refine RJ.run ttok 3 rfl ?_
  rcases Bool.eq_false_or_eq_true (decide (r10.2 = 0)) with c8 | c8
  · replace H := ite_t c8 H
    refine RJ.know (t := 80) rfl (congrArg Value.bool c8) ?_
    refine RJ.run ttok 7 rfl ?_
    refine RJ.know (t := 87) rfl (congrArg Value.bool c8) ?_
    refine RJ.q rfl rfl (q_load_box ttok 0 h28.wht rfl rfl rfl rfl rfl) ?_
    refine RJ.q rfl rfl (q_load_box ttok 5 h28.wht rfl rfl rfl rfl rfl) ?_
    obtain ⟨r11, q11, H⟩ := bind_t H
    refine RJ.op rfl rfl (op_call [] (Q86.spec q11) rfl rfl rfl h28 rfl (gcons (Gives.of 1 rfl own_rd) (gcons (Gives.of 2 rfl own_rd) (gcons (Gives.of 3 rfl own_rd) (gcons (Gives.of 4 rfl own_rd) (gcons (Gives.self 6 rfl) (gcons (Gives.self 7 rfl) (gcons (Gives.self 8 rfl) (gcons (Gives.self 9 rfl) gnil))))))))) ?_
    rintro _ w18 ⟨_, ⟨rfl, rfl⟩, h29⟩
    replace h29 : St w0 F0 [_, _, _, _, _, _] _ _ := h29
    refine RJ.run ttok 6 rfl ?_
    rcases Bool.eq_false_or_eq_true (r11 == (decide (a3 = 0))) with c9 | c9
    · replace H := ite_t c9 H
      refine RJ.know (t := 96) rfl (congrArg Value.bool c9) ?_
      obtain ⟨r12, q12, H⟩ := bind_t H
      refine RJ.op rfl rfl (op_call [] (Q67.spec q12) rfl rfl rfl h29 rfl gnil) ?_
      rintro _ w19 ⟨_, ⟨rfl, rfl⟩, h30⟩
      replace h30 : St w0 F0 [_, _, _, _, _, _] _ _ := h30
      refine RJ.run ttok 2 rfl ?_
      refine RJ.fin [(8, .bool r12)] rfl ?_
      have h31 := h30.only [] rfl
      replace h31 : St w0 F0 [] _ _ := h31
      refine J.ret ?_
      obtain rfl := Option.some.inj H
      exact ⟨_, _, _, (results_slots rfl), ⟨rfl, rfl⟩, h31.only [] rfl⟩
    replace H := ite_f c9 H
    refine RJ.know (t := 96) rfl (congrArg Value.bool c9) ?_
    refine RJ.run ttok 3 rfl ?_
    refine RJ.fin [(8, .bool false)] rfl ?_
    have h32 := h29.only [] rfl
    replace h32 : St w0 F0 [] _ _ := h32
    refine J.ret ?_
    obtain rfl := Option.some.inj H
    exact ⟨_, _, _, (results_slots rfl), ⟨rfl, rfl⟩, h32.only [] rfl⟩
  replace H := ite_f c8 H
  refine RJ.know (t := 80) rfl (congrArg Value.bool c8) ?_
  refine RJ.run ttok 4 rfl ?_
  rcases Bool.eq_false_or_eq_true (decide (r10.2 = 12)) with c10 | c10
  · replace H := ite_t c10 H
    refine RJ.know (t := 84) rfl (congrArg Value.bool c10) ?_
    refine RJ.run ttok 3 rfl ?_
    refine RJ.know (t := 87) rfl (congrArg Value.bool c8) ?_
    refine RJ.run ttok 9 rfl ?_
    rcases Bool.eq_false_or_eq_true (false == (decide (a3 = 0))) with c11 | c11
    · replace H := ite_t c11 H
      refine RJ.know (t := 96) rfl (congrArg Value.bool c11) ?_
      obtain ⟨r13, q13, H⟩ := bind_t H
      refine RJ.op rfl rfl (op_call [] (Q67.spec q13) rfl rfl rfl h28 rfl gnil) ?_
      rintro _ w20 ⟨_, ⟨rfl, rfl⟩, h33⟩
      replace h33 : St w0 F0 [_, _, _, _, _, _] _ _ := h33
      refine RJ.run ttok 2 rfl ?_
      refine RJ.fin [(8, .bool r13)] rfl ?_
      have h34 := h33.only [] rfl
      replace h34 : St w0 F0 [] _ _ := h34
      refine J.ret ?_
      obtain rfl := Option.some.inj H
      exact ⟨_, _, _, (results_slots rfl), ⟨rfl, rfl⟩, h34.only [] rfl⟩
    replace H := ite_f c11 H
    refine RJ.know (t := 96) rfl (congrArg Value.bool c11) ?_
    refine RJ.run ttok 3 rfl ?_
    refine RJ.fin [(8, .bool false)] rfl ?_
    have h35 := h28.only [] rfl
    replace h35 : St w0 F0 [] _ _ := h35
    refine J.ret ?_
    obtain rfl := Option.some.inj H
    exact ⟨_, _, _, (results_slots rfl), ⟨rfl, rfl⟩, h35.only [] rfl⟩
  replace H := ite_f c10 H
  refine RJ.know (t := 84) rfl (congrArg Value.bool c10) ?_
  refine RJ.run ttok 15 rfl ?_
  refine RJ.fin [(8, .bool false)] rfl ?_
  have h36 := h28.only [] rfl
  replace h36 : St w0 F0 [] _ _ := h36
  refine J.ret ?_
  obtain rfl := Option.some.inj H
  exact ⟨_, _, _, (results_slots rfl), ⟨rfl, rfl⟩, h36.only [] rfl⟩

end Go.SK.T
