/- The functions, further. -/
import Derived.Test.YtjnifnkbphggkaaXNodeAllF0
set_option linter.unusedVariables false
set_option linter.unusedSimpArgs false
namespace Go.SK.T
open Go Go.SK Go.Proofs
/-! sluicegate/sluicegatelaw13.NodeAll -/
def sluicegatelaw13_NodeAll.l1 : Nat → (Int × List (Int) × List (List UInt8) × (List (List UInt8 × Bool × List UInt8)) × (List (List UInt8 × List UInt8))) → (Int) → (Int × Int) → (Int × Bool) → (Int) → (Int) → (Int) → Option (Bool)
  | 0, _, _, _, _, _, _, _ => none
  | k + 1, a0, a1, r6, r7, x1, x3, x4 => if (decide (0 ≤ x4)) = true then (if 0 ≤ x4 ∧ x4 < (a0.2.1.length : Int) then (if (decide ((gt a0.2.1 x4) = a1)) = true then (sluicegatelaw13_NodeAll.l1 k a0 a1 r6 r7 x1 x4 (w64 (x4 - 1))) else (sluicegatelaw13_NodeAll.l1 k a0 a1 r6 r7 x1 x3 (w64 (x4 - 1)))) else none) else (if (decide (x1 = (a0.2.2.2.1.length : Int))) = true then (if (decide ((a0.2.2.2.1.length : Int) ≤ (w64 (r6.2 * (a0.2.1.length : Int))))) = true then (if (r7.2 == (decide (0 ≤ x3))) = true then (if r7.2 = true then (if (decide (r7.1 = x3)) = true then ((sluicegatelaw13_awake.f k).bind fun r8 => (some r8)) else (if (!r7.2) = true then (if (decide (r7.1 = 0)) = true then ((sluicegatelaw13_awake.f k).bind fun r9 => (some r9)) else (some false)) else (some false))) else (if (!r7.2) = true then (if (decide (r7.1 = 0)) = true then ((sluicegatelaw13_awake.f k).bind fun r10 => (some r10)) else (some false)) else (some false))) else (some false)) else (some false)) else (some false))
def sluicegatelaw13_NodeAll.l0 : Nat → (Int × List (Int) × List (List UInt8) × (List (List UInt8 × Bool × List UInt8)) × (List (List UInt8 × List UInt8))) → (Int) → (List (Int)) → (Int) → (Int) → Option (Bool)
  | 0, _, _, _, _, _ => none
  | k + 1, a0, a1, r5, x1, x2 => if (decide (x2 < (r5.length : Int))) = true then (if 0 ≤ x2 ∧ x2 < (r5.length : Int) then (sluicegatelaw13_NodeAll.l0 k a0 a1 r5 (w64 (x1 + (gt r5 x2))) (w64 (x2 + 1))) else none) else ((node_Heaviest.f k (a0.1, a0.2.1, a0.2.2.1, a0.2.2.2.1, a0.2.2.2.2)).bind fun r6 => ((node_Find.f k (a0.1, a0.2.1, a0.2.2.1, a0.2.2.2.1, a0.2.2.2.2) a1).bind fun r7 => (sluicegatelaw13_NodeAll.l1 k a0 a1 r6 r7 x1 (-1) (w64 ((a0.2.1.length : Int) - 1)))))
def sluicegatelaw13_NodeAll.f (k : Nat) (a0 : Int × List (Int) × List (List UInt8) × (List (List UInt8 × Bool × List UInt8)) × (List (List UInt8 × List UInt8))) (a1 : Int) : Option (Bool) := (sluicegatelaw13_Great.f k (a0.1, a0.2.1, a0.2.2.1, a0.2.2.2.1, a0.2.2.2.2)).bind fun r1 => (if r1 = true then ((sluicegatelaw13_awake.f k).bind fun r2 => (some r2)) else ((sluicegateref13_Plain.f k (a0.1, a0.2.1, a0.2.2.1, a0.2.2.2.1, a0.2.2.2.2)).bind fun r3 => (if (!r3) = true then ((sluicegatelaw13_awake.f k).bind fun r4 => (some r4)) else ((node_Loads.f k (a0.1, a0.2.1, a0.2.2.1, a0.2.2.2.1, a0.2.2.2.2)).bind fun r5 => (sluicegatelaw13_NodeAll.l0 k a0 a1 r5 0 0)))))
set_option maxRecDepth 20000 in
set_option maxHeartbeats 40000000 in
theorem sluicegatelaw13_NodeAll.spec {k : Nat} {a0 : Int × List (Int) × List (List UInt8) × (List (List UInt8 × Bool × List UInt8)) × (List (List UInt8 × List UInt8))} {a1 : Int} {A1 : Option Addr} {c_1 : Nat} {A2 : Option Addr} {c_2 : Nat} {A3 : Option Addr} {c_3 : Nat} {A4 : Option Addr} {c_4 : Nat} {r : Bool} (H : sluicegatelaw13_NodeAll.f k a0 a1 = some r) :
    Spec Try.prog 9 [.agg #[.int .i64 a0.1, .slice A1 a0.2.1.length c_1, .slice A2 a0.2.2.1.length c_2, .slice A3 a0.2.2.2.1.length c_3, .slice A4 a0.2.2.2.2.length c_4], .int .u32 a1] [] [rdC 46 (.int .u32) a0.2.1 (.slice A1 a0.2.1.length c_1), rdC 9 .str a0.2.2.1 (.slice A2 a0.2.2.1.length c_2), rdC 48 (.pair .str (.pair .bool .str)) a0.2.2.2.1 (.slice A3 a0.2.2.2.1.length c_3), rdC 50 (.pair .str .str) a0.2.2.2.2 (.slice A4 a0.2.2.2.2.length c_4)] (fun v l => v = .bool r ∧ l = []) := by
  refine Spec.enter Try.func9 rfl (by kernel_rfl) (by kernel_rfl) fun w0 F0 h0 => ?_
  unfold sluicegatelaw13_NodeAll.f at H
  refine J.seq ?_
  refine J.region ?_
  refine RJ.op rfl rfl (op_box rfl rfl h0) ?_
  rintro _ w1 ⟨b1, rfl, h1⟩
  replace h1 : St w0 F0 [boxC b1 31 [.int .i64 a0.1, .slice A1 a0.2.1.length c_1, .slice A2 a0.2.2.1.length c_2, .slice A3 a0.2.2.2.1.length c_3, .slice A4 a0.2.2.2.2.length c_4]] _ _ := h1
  refine RJ.run ttok 1 rfl ?_
  refine RJ.fin [(1, .int .u32 a1), (2, .pointer (some ⟨b1, 0, none⟩))] rfl ?_
  refine J.seq ?_
  refine J.seq ?_
  refine J.region ?_
  refine RJ.q rfl rfl (q_load_box ttok 0 h1.wht rfl rfl rfl rfl rfl) ?_
  obtain ⟨r1, q1, H⟩ := bind_t H
  refine RJ.op rfl rfl (op_call [] (sluicegatelaw13_Great.spec q1) rfl rfl rfl h1 rfl (gcons (Gives.self 1 rfl) (gcons (Gives.self 2 rfl) (gcons (Gives.self 3 rfl) (gcons (Gives.self 4 rfl) gnil))))) ?_
  rintro _ w2 ⟨_, ⟨rfl, rfl⟩, h2⟩
  replace h2 : St w0 F0 [boxC b1 31 [.int .i64 a0.1, .slice A1 a0.2.1.length c_1, .slice A2 a0.2.2.1.length c_2, .slice A3 a0.2.2.2.1.length c_3, .slice A4 a0.2.2.2.2.length c_4]] _ _ := h2
  refine RJ.run ttok 1 rfl ?_
  rcases Bool.eq_false_or_eq_true r1 with c1 | c1
  · replace H := ite_t c1 H
    refine RJ.know (t := 16) rfl (congrArg Value.bool c1) ?_
    refine RJ.run ttok 4 rfl ?_
    refine RJ.fin [(1, .int .u32 a1), (2, .pointer (some ⟨b1, 0, none⟩)), (20, .bool true)] rfl ?_
    refine J.condT rfl ?_
    refine J.seq ?_
    refine J.region ?_
    obtain ⟨r2, q2, H⟩ := bind_t H
    refine RJ.op rfl rfl (op_call [] (sluicegatelaw13_awake.spec q2) rfl rfl rfl h2 rfl gnil) ?_
    rintro _ w3 ⟨_, ⟨rfl, rfl⟩, h3⟩
    replace h3 : St w0 F0 [boxC b1 31 [.int .i64 a0.1, .slice A1 a0.2.1.length c_1, .slice A2 a0.2.2.1.length c_2, .slice A3 a0.2.2.2.1.length c_3, .slice A4 a0.2.2.2.2.length c_4]] _ _ := h3
    refine RJ.run ttok 1 rfl ?_
    refine RJ.fin [(4, .bool r2)] rfl ?_
    refine J.ret ?_
    obtain rfl := Option.some.inj H
    exact ⟨_, _, _, (results_slots rfl), ⟨rfl, rfl⟩, h3.only [] rfl⟩
  · replace H := ite_f c1 H
    refine RJ.know (t := 16) rfl (congrArg Value.bool c1) ?_
    refine RJ.q rfl rfl (q_load_box ttok 0 h2.wht rfl rfl rfl rfl rfl) ?_
    obtain ⟨r3, q3, H⟩ := bind_t H
    refine RJ.op rfl rfl (op_call [] (sluicegateref13_Plain.spec q3) rfl rfl rfl h2 rfl (gcons (Gives.self 1 rfl) (gcons (Gives.self 2 rfl) (gcons (Gives.self 3 rfl) (gcons (Gives.self 4 rfl) gnil))))) ?_
    rintro _ w4 ⟨_, ⟨rfl, rfl⟩, h4⟩
    replace h4 : St w0 F0 [boxC b1 31 [.int .i64 a0.1, .slice A1 a0.2.1.length c_1, .slice A2 a0.2.2.1.length c_2, .slice A3 a0.2.2.2.1.length c_3, .slice A4 a0.2.2.2.2.length c_4]] _ _ := h4
    refine RJ.run ttok 2 rfl ?_
    refine RJ.fin [(1, .int .u32 a1), (2, .pointer (some ⟨b1, 0, none⟩)), (20, .bool (!r3))] rfl ?_
    refine J.cond rfl (fun c2 => ?_) (fun c2 => ?_)
    · replace H := ite_t c2 H
      refine J.seq ?_
      refine J.region ?_
      obtain ⟨r4, q4, H⟩ := bind_t H
      refine RJ.op rfl rfl (op_call [] (sluicegatelaw13_awake.spec q4) rfl rfl rfl h4 rfl gnil) ?_
      rintro _ w5 ⟨_, ⟨rfl, rfl⟩, h5⟩
      replace h5 : St w0 F0 [boxC b1 31 [.int .i64 a0.1, .slice A1 a0.2.1.length c_1, .slice A2 a0.2.2.1.length c_2, .slice A3 a0.2.2.2.1.length c_3, .slice A4 a0.2.2.2.2.length c_4]] _ _ := h5
      refine RJ.run ttok 1 rfl ?_
      refine RJ.fin [(4, .bool r4)] rfl ?_
      refine J.ret ?_
      obtain rfl := Option.some.inj H
      exact ⟨_, _, _, (results_slots rfl), ⟨rfl, rfl⟩, h5.only [] rfl⟩
    · replace H := ite_f c2 H
      refine J.skip ?_
      refine J.seq ?_
      refine J.region ?_
      refine RJ.run ttok 1 rfl ?_
      refine RJ.fin [(1, .int .u32 a1), (2, .pointer (some ⟨b1, 0, none⟩)), (5, .int .i64 0)] rfl ?_
      refine J.seq ?_
      refine J.region ?_
      refine RJ.q rfl rfl (q_load_box ttok 0 h4.wht rfl rfl rfl rfl rfl) ?_
      obtain ⟨r5, q5, H⟩ := bind_t H
      refine RJ.op rfl rfl (op_call [] (node_Loads.spec q5) rfl rfl rfl h4 rfl (gcons (Gives.self 1 rfl) (gcons (Gives.self 2 rfl) (gcons (Gives.self 3 rfl) (gcons (Gives.self 4 rfl) gnil))))) ?_
      rintro _ w6 ⟨_, ⟨A5, c_5, rfl, rfl⟩, h6⟩
      replace h6 : St w0 F0 [ownC 3 (.int .i64) r5 (.slice A5 r5.length c_5), boxC b1 31 [.int .i64 a0.1, .slice A1 a0.2.1.length c_1, .slice A2 a0.2.2.1.length c_2, .slice A3 a0.2.2.2.1.length c_3, .slice A4 a0.2.2.2.2.length c_4]] _ _ := h6
      refine RJ.run ttok 1 rfl ?_
      refine RJ.fin [(1, .int .u32 a1), (2, .pointer (some ⟨b1, 0, none⟩)), (5, .int .i64 0), (6, .slice A5 r5.length c_5)] rfl ?_
      refine J.seq ?_
      refine J.seq ?_
      refine J.region ?_
      refine RJ.run ttok 1 rfl ?_
      refine RJ.fin [(1, .int .u32 a1), (2, .pointer (some ⟨b1, 0, none⟩)), (5, .int .i64 0), (6, .slice A5 r5.length c_5), (7, .int .i64 0)] rfl ?_
      refine J.block ?_
      have h18 := ((h6.only [1, 0] rfl).rds [0, 1, 2, 3] rfl)
      refine J.loop (fun k env w => ∃ (x1 : Int) (x2 : Int), env = [(1, .int .u32 a1), (2, .pointer (some ⟨b1, 0, none⟩)), (5, .int .i64 x1), (6, .slice A5 r5.length c_5), (7, .int .i64 x2)] ∧ St w0 F0 [boxC b1 31 [.int .i64 a0.1, .slice A1 a0.2.1.length c_1, .slice A2 a0.2.2.1.length c_2, .slice A3 a0.2.2.2.1.length c_3, .slice A4 a0.2.2.2.2.length c_4], ownC 3 (.int .i64) r5 (.slice A5 r5.length c_5)] [rdC 46 (.int .u32) a0.2.1 (.slice A1 a0.2.1.length c_1), rdC 9 .str a0.2.2.1 (.slice A2 a0.2.2.1.length c_2), rdC 48 (.pair .str (.pair .bool .str)) a0.2.2.2.1 (.slice A3 a0.2.2.2.1.length c_3), rdC 50 (.pair .str .str) a0.2.2.2.2 (.slice A4 a0.2.2.2.2.length c_4)] w ∧ sluicegatelaw13_NodeAll.l0 k a0 a1 r5 x1 x2 = some r) (k := k) ⟨0, 0, rfl, h18, H⟩ ?_
      rintro k1 env w7 ⟨x1, x2, rfl, h7, H⟩
      cases k1 with
      | zero => exact nomatch (show none = some r from H)
      | succ k1 =>
        rw [sluicegatelaw13_NodeAll.l0] at H
        refine J.seq ?_
        refine J.seq ?_
        refine J.region ?_
        refine RJ.run ttok 4 rfl ?_
        refine RJ.fin [(1, .int .u32 a1), (2, .pointer (some ⟨b1, 0, none⟩)), (5, .int .i64 x1), (6, .slice A5 r5.length c_5), (7, .int .i64 x2), (27, .bool (decide (x2 < (r5.length : Int))))] rfl ?_
        refine J.cond rfl (fun c3 => ?_) (fun c3 => ?_)
        · replace H := ite_t c3 H
          refine J.skip ?_
          refine J.seq ?_
          refine J.block ?_
          refine J.region ?_
          refine RJ.run ttok 3 rfl ?_
          obtain ⟨⟨p1, p2⟩, H⟩ := guard_t H
          have e1 := elem_A h7.wh (Gives.of 1 rfl own_rd) p1 p2
          refine RJ.q rfl rfl (q_index ttok rfl rfl rfl rfl rfl e1 p1 p2) ?_
          refine RJ.q rfl rfl (q_load_elem (f := 0) ttok rfl h7.wht (Gives.of 1 rfl own_rd) p1 p2 rfl rfl rfl rfl rfl) ?_
          refine RJ.run ttok 2 rfl ?_
          refine RJ.fin [(1, .int .u32 a1), (2, .pointer (some ⟨b1, 0, none⟩)), (5, .int .i64 (w64 (x1 + (gt r5 x2)))), (6, .slice A5 r5.length c_5), (7, .int .i64 x2)] rfl ?_
          refine J.region ?_
          refine RJ.run ttok 3 rfl ?_
          refine RJ.fin [(1, .int .u32 a1), (2, .pointer (some ⟨b1, 0, none⟩)), (5, .int .i64 (w64 (x1 + (gt r5 x2)))), (6, .slice A5 r5.length c_5), (7, .int .i64 (w64 (x2 + 1)))] rfl ?_
          have h8 := ((h7.only [0, 0] rfl).rds [0, 1, 2, 3] rfl)
          exact ⟨k1, by omega, (w64 (x1 + (gt r5 x2))), (w64 (x2 + 1)), rfl, h8, H⟩
        · replace H := ite_f c3 H
          refine J.exit ?_
          refine J.seq ?_
          refine J.region ?_
          refine RJ.q rfl rfl (q_load_box ttok 0 h7.wht rfl rfl rfl rfl rfl) ?_
          obtain ⟨r6, q6, H⟩ := bind_t H
          refine RJ.op rfl rfl (op_call [] (node_Heaviest.spec q6) rfl rfl rfl h7 rfl (gcons (Gives.self 2 rfl) (gcons (Gives.self 3 rfl) (gcons (Gives.self 4 rfl) (gcons (Gives.self 5 rfl) gnil))))) ?_
          rintro _ w8 ⟨_, ⟨rfl, rfl⟩, h9⟩
          replace h9 : St w0 F0 [boxC b1 31 [.int .i64 a0.1, .slice A1 a0.2.1.length c_1, .slice A2 a0.2.2.1.length c_2, .slice A3 a0.2.2.2.1.length c_3, .slice A4 a0.2.2.2.2.length c_4], ownC 3 (.int .i64) r5 (.slice A5 r5.length c_5)] _ _ := h9
          refine RJ.run ttok 5 rfl ?_
          refine RJ.fin [(1, .int .u32 a1), (2, .pointer (some ⟨b1, 0, none⟩)), (5, .int .i64 x1), (9, .int .i64 r6.2)] rfl ?_
          refine J.seq ?_
          refine J.region ?_
          refine RJ.q rfl rfl (q_load_box ttok 0 h9.wht rfl rfl rfl rfl rfl) ?_
          refine RJ.run ttok 1 rfl ?_
          obtain ⟨r7, q7, H⟩ := bind_t H
          refine RJ.op rfl rfl (op_call [] (node_Find.spec q7) rfl rfl rfl h9 rfl (gcons (Gives.self 2 rfl) (gcons (Gives.self 3 rfl) (gcons (Gives.self 4 rfl) (gcons (Gives.self 5 rfl) gnil))))) ?_
          rintro _ w9 ⟨_, ⟨rfl, rfl⟩, h10⟩
          replace h10 : St w0 F0 [boxC b1 31 [.int .i64 a0.1, .slice A1 a0.2.1.length c_1, .slice A2 a0.2.2.1.length c_2, .slice A3 a0.2.2.2.1.length c_3, .slice A4 a0.2.2.2.2.length c_4], ownC 3 (.int .i64) r5 (.slice A5 r5.length c_5)] _ _ := h10
          refine RJ.run ttok 5 rfl ?_
          refine RJ.fin [(1, .int .u32 a1), (2, .pointer (some ⟨b1, 0, none⟩)), (5, .int .i64 x1), (9, .int .i64 r6.2), (10, .int .i64 r7.1), (11, .bool r7.2)] rfl ?_
          refine J.seq ?_
          refine J.region ?_
          refine RJ.run ttok 1 rfl ?_
          refine RJ.fin [(1, .int .u32 a1), (2, .pointer (some ⟨b1, 0, none⟩)), (5, .int .i64 x1), (9, .int .i64 r6.2), (10, .int .i64 r7.1), (11, .bool r7.2), (12, .int .i64 (-1))] rfl ?_
          refine J.seq ?_
          refine J.seq ?_
          refine J.region ?_
          refine RJ.run ttok 1 rfl ?_
          refine RJ.q rfl rfl (q_load_box ttok 0 h10.wht rfl rfl rfl rfl rfl) ?_
          refine RJ.run ttok 3 rfl ?_
          refine RJ.fin [(1, .int .u32 a1), (2, .pointer (some ⟨b1, 0, none⟩)), (5, .int .i64 x1), (9, .int .i64 r6.2), (10, .int .i64 r7.1), (11, .bool r7.2), (12, .int .i64 (-1)), (13, .int .i64 (w64 ((a0.2.1.length : Int) - 1)))] rfl ?_
          refine J.block ?_
          have h17 := ((h10.only [0] rfl).rds [0, 1, 2, 3] rfl)
          refine J.loop (fun k env w => ∃ (x3 : Int) (x4 : Int), env = [(1, .int .u32 a1), (2, .pointer (some ⟨b1, 0, none⟩)), (5, .int .i64 x1), (9, .int .i64 r6.2), (10, .int .i64 r7.1), (11, .bool r7.2), (12, .int .i64 x3), (13, .int .i64 x4)] ∧ St w0 F0 [boxC b1 31 [.int .i64 a0.1, .slice A1 a0.2.1.length c_1, .slice A2 a0.2.2.1.length c_2, .slice A3 a0.2.2.2.1.length c_3, .slice A4 a0.2.2.2.2.length c_4]] [rdC 46 (.int .u32) a0.2.1 (.slice A1 a0.2.1.length c_1), rdC 9 .str a0.2.2.1 (.slice A2 a0.2.2.1.length c_2), rdC 48 (.pair .str (.pair .bool .str)) a0.2.2.2.1 (.slice A3 a0.2.2.2.1.length c_3), rdC 50 (.pair .str .str) a0.2.2.2.2 (.slice A4 a0.2.2.2.2.length c_4)] w ∧ sluicegatelaw13_NodeAll.l1 k a0 a1 r6 r7 x1 x3 x4 = some r) (k := k1) ⟨(-1), (w64 ((a0.2.1.length : Int) - 1)), rfl, h17, H⟩ ?_
          rintro k2 env w10 ⟨x3, x4, rfl, h11, H⟩
          cases k2 with
          | zero => exact nomatch (show none = some r from H)
          | succ k2 =>
            rw [sluicegatelaw13_NodeAll.l1] at H
            refine J.seq ?_
            refine J.seq ?_
            refine J.region ?_
            refine RJ.run ttok 2 rfl ?_
            refine RJ.fin [(1, .int .u32 a1), (2, .pointer (some ⟨b1, 0, none⟩)), (5, .int .i64 x1), (9, .int .i64 r6.2), (10, .int .i64 r7.1), (11, .bool r7.2), (12, .int .i64 x3), (13, .int .i64 x4), (52, .bool (decide (0 ≤ x4)))] rfl ?_
            refine J.cond rfl (fun c4 => ?_) (fun c4 => ?_)
            · replace H := ite_t c4 H
              refine J.skip ?_
              refine J.seq ?_
              refine J.block ?_
              refine J.seq ?_
              refine J.region ?_
              refine RJ.run ttok 1 rfl ?_
              refine RJ.q rfl rfl (q_load_box ttok 0 h11.wht rfl rfl rfl rfl rfl) ?_
              refine RJ.run ttok 1 rfl ?_
              obtain ⟨⟨p3, p4⟩, H⟩ := guard_t H
              have e2 := elem_A h11.wh (Gives.self 1 rfl) p3 p4
              refine RJ.q rfl rfl (q_index ttok rfl rfl rfl rfl rfl e2 p3 p4) ?_
              refine RJ.q rfl rfl (q_load_elem (f := 0) ttok rfl h11.wht (Gives.self 1 rfl) p3 p4 rfl rfl rfl rfl rfl) ?_
              refine RJ.run ttok 2 rfl ?_
              refine RJ.fin [(1, .int .u32 a1), (2, .pointer (some ⟨b1, 0, none⟩)), (5, .int .i64 x1), (9, .int .i64 r6.2), (10, .int .i64 r7.1), (11, .bool r7.2), (12, .int .i64 x3), (13, .int .i64 x4), (61, .bool (decide ((gt a0.2.1 x4) = a1)))] rfl ?_
              refine J.cond rfl (fun c5 => ?_) (fun c5 => ?_)
              · replace H := ite_t c5 H
                refine J.region ?_
                refine RJ.run ttok 2 rfl ?_
                refine RJ.fin [(1, .int .u32 a1), (2, .pointer (some ⟨b1, 0, none⟩)), (5, .int .i64 x1), (9, .int .i64 r6.2), (10, .int .i64 r7.1), (11, .bool r7.2), (12, .int .i64 x4), (13, .int .i64 x4)] rfl ?_
                refine J.region ?_
                refine RJ.run ttok 3 rfl ?_
                refine RJ.fin [(1, .int .u32 a1), (2, .pointer (some ⟨b1, 0, none⟩)), (5, .int .i64 x1), (9, .int .i64 r6.2), (10, .int .i64 r7.1), (11, .bool r7.2), (12, .int .i64 x4), (13, .int .i64 (w64 (x4 - 1)))] rfl ?_
                have h12 := ((h11.only [0] rfl).rds [0, 1, 2, 3] rfl)
                exact ⟨k2, by omega, x4, (w64 (x4 - 1)), rfl, h12, H⟩
              · replace H := ite_f c5 H
                refine J.skip ?_
                refine J.region ?_
                refine RJ.run ttok 3 rfl ?_
                refine RJ.fin [(1, .int .u32 a1), (2, .pointer (some ⟨b1, 0, none⟩)), (5, .int .i64 x1), (9, .int .i64 r6.2), (10, .int .i64 r7.1), (11, .bool r7.2), (12, .int .i64 x3), (13, .int .i64 (w64 (x4 - 1)))] rfl ?_
                have h13 := ((h11.only [0] rfl).rds [0, 1, 2, 3] rfl)
                exact ⟨k2, by omega, x3, (w64 (x4 - 1)), rfl, h13, H⟩
            · replace H := ite_f c4 H
              refine J.exit ?_
              refine J.seq ?_
              refine J.region ?_
              refine RJ.run ttok 2 rfl ?_
              refine RJ.q rfl rfl (q_load_box ttok 0 h11.wht rfl rfl rfl rfl rfl) ?_
              refine RJ.run ttok 3 rfl ?_
              rcases Bool.eq_false_or_eq_true (decide (x1 = (a0.2.2.2.1.length : Int))) with c6 | c6
              · replace H := ite_t c6 H
                refine RJ.know (t := 68) rfl (congrArg Value.bool c6) ?_
                refine RJ.run ttok 2 rfl ?_
                refine RJ.q rfl rfl (q_load_box ttok 0 h11.wht rfl rfl rfl rfl rfl) ?_
                refine RJ.run ttok 3 rfl ?_
                refine RJ.q rfl rfl (q_load_box ttok 0 h11.wht rfl rfl rfl rfl rfl) ?_
                refine RJ.run ttok 4 rfl ?_
                rcases Bool.eq_false_or_eq_true (decide ((a0.2.2.2.1.length : Int) ≤ (w64 (r6.2 * (a0.2.1.length : Int))))) with c7 | c7
                · replace H := ite_t c7 H
                  refine RJ.know (t := 79) rfl (congrArg Value.bool c7) ?_
                  refine RJ.run ttok 6 rfl ?_
                  rcases Bool.eq_false_or_eq_true (r7.2 == (decide (0 ≤ x3))) with c8 | c8
                  · replace H := ite_t c8 H
                    refine RJ.know (t := 85) rfl (congrArg Value.bool c8) ?_
                    refine RJ.run ttok 2 rfl ?_
                    rcases Bool.eq_false_or_eq_true r7.2 with c9 | c9
                    · replace H := ite_t c9 H
                      refine RJ.know (t := 87) rfl (congrArg Value.bool c9) ?_
                      refine RJ.run ttok 5 rfl ?_
                      rcases Bool.eq_false_or_eq_true (decide (r7.1 = x3)) with c10 | c10
                      · replace H := ite_t c10 H
                        refine RJ.know (t := 92) rfl (congrArg Value.bool c10) ?_
                        refine RJ.run ttok 9 rfl ?_
                        obtain ⟨r8, q8, H⟩ := bind_t H
                        refine RJ.op rfl rfl (op_call [] (sluicegatelaw13_awake.spec q8) rfl rfl rfl h11 rfl gnil) ?_
                        rintro _ w11 ⟨_, ⟨rfl, rfl⟩, h14⟩
                        replace h14 : St w0 F0 [boxC b1 31 [.int .i64 a0.1, .slice A1 a0.2.1.length c_1, .slice A2 a0.2.2.1.length c_2, .slice A3 a0.2.2.2.1.length c_3, .slice A4 a0.2.2.2.2.length c_4]] _ _ := h14
                        refine RJ.run ttok 2 rfl ?_
                        refine RJ.fin [(4, .bool r8)] rfl ?_
                        refine J.ret ?_
                        obtain rfl := Option.some.inj H
                        exact ⟨_, _, _, (results_slots rfl), ⟨rfl, rfl⟩, h14.only [] rfl⟩
                      · replace H := ite_f c10 H
                        refine RJ.know (t := 92) rfl (congrArg Value.bool c10) ?_
                        refine RJ.run ttok 3 rfl ?_
                        rcases Bool.eq_false_or_eq_true (!r7.2) with c11 | c11
                        · replace H := ite_t c11 H
                          refine RJ.know (t := 95) rfl (congrArg Value.bool c11) ?_
                          refine RJ.run ttok 6 rfl ?_
                          rcases Bool.eq_false_or_eq_true (decide (r7.1 = 0)) with c12 | c12
                          · replace H := ite_t c12 H
                            refine RJ.know (t := 101) rfl (congrArg Value.bool c12) ?_
                            obtain ⟨r9, q9, H⟩ := bind_t H
                            refine RJ.op rfl rfl (op_call [] (sluicegatelaw13_awake.spec q9) rfl rfl rfl h11 rfl gnil) ?_
                            rintro _ w12 ⟨_, ⟨rfl, rfl⟩, h15⟩
                            replace h15 : St w0 F0 [boxC b1 31 [.int .i64 a0.1, .slice A1 a0.2.1.length c_1, .slice A2 a0.2.2.1.length c_2, .slice A3 a0.2.2.2.1.length c_3, .slice A4 a0.2.2.2.2.length c_4]] _ _ := h15
                            refine RJ.run ttok 2 rfl ?_
                            refine RJ.fin [(4, .bool r9)] rfl ?_
                            refine J.ret ?_
                            obtain rfl := Option.some.inj H
                            exact ⟨_, _, _, (results_slots rfl), ⟨rfl, rfl⟩, h15.only [] rfl⟩
                          · replace H := ite_f c12 H
                            refine RJ.know (t := 101) rfl (congrArg Value.bool c12) ?_
                            refine RJ.run ttok 3 rfl ?_
                            refine RJ.fin [(4, .bool false)] rfl ?_
                            refine J.ret ?_
                            obtain rfl := Option.some.inj H
                            exact ⟨_, _, _, (results_slots rfl), ⟨rfl, rfl⟩, h11.only [] rfl⟩
                        · replace H := ite_f c11 H
                          refine RJ.know (t := 95) rfl (congrArg Value.bool c11) ?_
                          refine RJ.run ttok 9 rfl ?_
                          refine RJ.fin [(4, .bool false)] rfl ?_
                          refine J.ret ?_
                          obtain rfl := Option.some.inj H
                          exact ⟨_, _, _, (results_slots rfl), ⟨rfl, rfl⟩, h11.only [] rfl⟩
                    · replace H := ite_f c9 H
                      refine RJ.know (t := 87) rfl (congrArg Value.bool c9) ?_
                      refine RJ.run ttok 8 rfl ?_
                      rcases Bool.eq_false_or_eq_true (!r7.2) with c13 | c13
                      · replace H := ite_t c13 H
                        refine RJ.know (t := 95) rfl (congrArg Value.bool c13) ?_
                        refine RJ.run ttok 6 rfl ?_
                        rcases Bool.eq_false_or_eq_true (decide (r7.1 = 0)) with c14 | c14
                        · replace H := ite_t c14 H
                          refine RJ.know (t := 101) rfl (congrArg Value.bool c14) ?_
                          obtain ⟨r10, q10, H⟩ := bind_t H
                          refine RJ.op rfl rfl (op_call [] (sluicegatelaw13_awake.spec q10) rfl rfl rfl h11 rfl gnil) ?_
                          rintro _ w13 ⟨_, ⟨rfl, rfl⟩, h16⟩
                          replace h16 : St w0 F0 [boxC b1 31 [.int .i64 a0.1, .slice A1 a0.2.1.length c_1, .slice A2 a0.2.2.1.length c_2, .slice A3 a0.2.2.2.1.length c_3, .slice A4 a0.2.2.2.2.length c_4]] _ _ := h16
                          refine RJ.run ttok 2 rfl ?_
                          refine RJ.fin [(4, .bool r10)] rfl ?_
                          refine J.ret ?_
                          obtain rfl := Option.some.inj H
                          exact ⟨_, _, _, (results_slots rfl), ⟨rfl, rfl⟩, h16.only [] rfl⟩
                        · replace H := ite_f c14 H
                          refine RJ.know (t := 101) rfl (congrArg Value.bool c14) ?_
                          refine RJ.run ttok 3 rfl ?_
                          refine RJ.fin [(4, .bool false)] rfl ?_
                          refine J.ret ?_
                          obtain rfl := Option.some.inj H
                          exact ⟨_, _, _, (results_slots rfl), ⟨rfl, rfl⟩, h11.only [] rfl⟩
                      · replace H := ite_f c13 H
                        refine RJ.know (t := 95) rfl (congrArg Value.bool c13) ?_
                        refine RJ.run ttok 9 rfl ?_
                        refine RJ.fin [(4, .bool false)] rfl ?_
                        refine J.ret ?_
                        obtain rfl := Option.some.inj H
                        exact ⟨_, _, _, (results_slots rfl), ⟨rfl, rfl⟩, h11.only [] rfl⟩
                  · replace H := ite_f c8 H
                    refine RJ.know (t := 85) rfl (congrArg Value.bool c8) ?_
                    refine RJ.run ttok 19 rfl ?_
                    refine RJ.fin [(4, .bool false)] rfl ?_
                    refine J.ret ?_
                    obtain rfl := Option.some.inj H
                    exact ⟨_, _, _, (results_slots rfl), ⟨rfl, rfl⟩, h11.only [] rfl⟩
                · replace H := ite_f c7 H
                  refine RJ.know (t := 79) rfl (congrArg Value.bool c7) ?_
                  refine RJ.run ttok 25 rfl ?_
                  refine RJ.fin [(4, .bool false)] rfl ?_
                  refine J.ret ?_
                  obtain rfl := Option.some.inj H
                  exact ⟨_, _, _, (results_slots rfl), ⟨rfl, rfl⟩, h11.only [] rfl⟩
              · replace H := ite_f c6 H
                refine RJ.know (t := 68) rfl (congrArg Value.bool c6) ?_
                refine RJ.run ttok 36 rfl ?_
                refine RJ.fin [(4, .bool false)] rfl ?_
                refine J.ret ?_
                obtain rfl := Option.some.inj H
                exact ⟨_, _, _, (results_slots rfl), ⟨rfl, rfl⟩, h11.only [] rfl⟩

end Go.SK.T
