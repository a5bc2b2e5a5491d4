/- The functions, further. -/
import Derived.Test.YtjnifnkbphggkaaXNodeRightsF2
set_option linter.unusedVariables false
set_option linter.unusedSimpArgs false
namespace Go.SK.T
open Go Go.SK Go.Proofs
/-! sluicegate/sluicegatelaw13.NodeRights -/
def sluicegatelaw13_NodeRights.f (k : Nat) (a0 : Int × Int × Int × Int × Int × Int × Int × Int) (a1 : List UInt8 × List UInt8 × Bool) (a2 : Int × List (Int) × List (List UInt8) × (List (List UInt8 × Bool × List UInt8)) × (List (List UInt8 × List UInt8))) : Option (Bool) := (sluicegatelaw13_Great.f k (a2.1, a2.2.1, a2.2.2.1, a2.2.2.2.1, a2.2.2.2.2)).bind fun r1 => (if r1 = true then ((sluicegatelaw13_awake.f k).bind fun r2 => (some r2)) else (if (decide (200 < (a1.1.length : Int))) = true then ((sluicegatelaw13_awake.f k).bind fun r3 => (some r3)) else (if (decide (200 < (a1.2.1.length : Int))) = true then ((sluicegatelaw13_awake.f k).bind fun r4 => (some r4)) else ((node_Right.f k (a0.1, a0.2.1, a0.2.2.1, a0.2.2.2.1, a0.2.2.2.2.1, a0.2.2.2.2.2.1, a0.2.2.2.2.2.2.1, a0.2.2.2.2.2.2.2) (a1.1, a1.2.1, a1.2.2) (a2.1, a2.2.1, a2.2.2.1, a2.2.2.2.1, a2.2.2.2.2)).bind fun r5 => ((sluicegateref13_Right.f k (a0.1, a0.2.1, a0.2.2.1, a0.2.2.2.1, a0.2.2.2.2.1, a0.2.2.2.2.2.1, a0.2.2.2.2.2.2.1, a0.2.2.2.2.2.2.2) (a1.1, a1.2.1, a1.2.2) (a2.1, a2.2.1, a2.2.2.1, a2.2.2.2.1, a2.2.2.2.2)).bind fun r6 => (if (r5 == r6) = true then ((node_Key.f (a0.1, a0.2.1, a0.2.2.1, a0.2.2.2.1, a0.2.2.2.2.1, a0.2.2.2.2.2.1, a0.2.2.2.2.2.2.1, a0.2.2.2.2.2.2.2) a1.1).bind fun r7 => ((sluicegateref13_Key.f (a0.1, a0.2.1, a0.2.2.1, a0.2.2.2.1, a0.2.2.2.2.1, a0.2.2.2.2.2.1, a0.2.2.2.2.2.2.1, a0.2.2.2.2.2.2.2) a1.1).bind fun r8 => (if (r7 == r8) = true then ((sluicegatelaw13_awake.f k).bind fun r9 => (some r9)) else (some false)))) else (some false)))))))
set_option maxRecDepth 20000 in
set_option maxHeartbeats 40000000 in
theorem sluicegatelaw13_NodeRights.spec {k : Nat} {a0 : Int × Int × Int × Int × Int × Int × Int × Int} {a1 : List UInt8 × List UInt8 × Bool} {a2 : Int × List (Int) × List (List UInt8) × (List (List UInt8 × Bool × List UInt8)) × (List (List UInt8 × List UInt8))} {A1 : Option Addr} {c_1 : Nat} {A2 : Option Addr} {c_2 : Nat} {A3 : Option Addr} {c_3 : Nat} {A4 : Option Addr} {c_4 : Nat} {r : Bool} (H : sluicegatelaw13_NodeRights.f k a0 a1 a2 = some r) :
    Spec Try.prog 14 [.agg #[.int .i64 a0.1, .int .i64 a0.2.1, .int .i64 a0.2.2.1, .int .i64 a0.2.2.2.1, .int .i64 a0.2.2.2.2.1, .int .i64 a0.2.2.2.2.2.1, .int .i64 a0.2.2.2.2.2.2.1, .int .i64 a0.2.2.2.2.2.2.2], .agg #[.string ⟨⟨a1.1⟩⟩, .string ⟨⟨a1.2.1⟩⟩, .bool a1.2.2], .agg #[.int .i64 a2.1, .slice A1 a2.2.1.length c_1, .slice A2 a2.2.2.1.length c_2, .slice A3 a2.2.2.2.1.length c_3, .slice A4 a2.2.2.2.2.length c_4]] [] [rdC 46 (.int .u32) a2.2.1 (.slice A1 a2.2.1.length c_1), rdC 9 .str a2.2.2.1 (.slice A2 a2.2.2.1.length c_2), rdC 48 (.pair .str (.pair .bool .str)) a2.2.2.2.1 (.slice A3 a2.2.2.2.1.length c_3), rdC 50 (.pair .str .str) a2.2.2.2.2 (.slice A4 a2.2.2.2.2.length c_4)] (fun v l => v = .bool r ∧ l = []) := by
  refine Spec.enter Try.func14 rfl (by kernel_rfl) (by kernel_rfl) fun w0 F0 h0 => ?_
  unfold sluicegatelaw13_NodeRights.f at H
  refine J.seq (J.region ?_)
  refine RJ.op rfl rfl (op_box rfl rfl h0) ?_
  rintro _ w1 ⟨b1, rfl, h1⟩
  replace h1 : St w0 F0 [boxC b1 23 [.int .i64 a0.1, .int .i64 a0.2.1, .int .i64 a0.2.2.1, .int .i64 a0.2.2.2.1, .int .i64 a0.2.2.2.2.1, .int .i64 a0.2.2.2.2.2.1, .int .i64 a0.2.2.2.2.2.2.1, .int .i64 a0.2.2.2.2.2.2.2]] _ _ := h1
  refine RJ.op rfl rfl (op_box rfl rfl h1) ?_
  rintro _ w2 ⟨b2, rfl, h2⟩
  replace h2 : St w0 F0 [boxC b2 25 [.string ⟨⟨a1.1⟩⟩, .string ⟨⟨a1.2.1⟩⟩, .bool a1.2.2], _] _ _ := h2
  refine RJ.op rfl rfl (op_box rfl rfl h2) ?_
  rintro _ w3 ⟨b3, rfl, h3⟩
  replace h3 : St w0 F0 [boxC b3 31 [.int .i64 a2.1, .slice A1 a2.2.1.length c_1, .slice A2 a2.2.2.1.length c_2, .slice A3 a2.2.2.2.1.length c_3, .slice A4 a2.2.2.2.2.length c_4], _, _] _ _ := h3
  refine RJ.run ttok 1 rfl ?_
  refine RJ.fin [(3, .pointer (some ⟨b1, 0, none⟩)), (4, .pointer (some ⟨b2, 0, none⟩)), (5, .pointer (some ⟨b3, 0, none⟩))] rfl ?_
  refine J.seq (J.seq (J.region ?_))
  refine RJ.q rfl rfl (q_load_box ttok 0 h3.wht rfl rfl rfl rfl rfl) ?_
  obtain ⟨r1, q1, H⟩ := bind_t H
  refine RJ.op rfl rfl (op_call [] (sluicegatelaw13_Great.spec q1) rfl rfl rfl h3 rfl (gcons (Gives.self 3 rfl) (gcons (Gives.self 4 rfl) (gcons (Gives.self 5 rfl) (gcons (Gives.self 6 rfl) gnil))))) ?_
  rintro _ w4 ⟨_, ⟨rfl, rfl⟩, h4⟩
  replace h4 : St w0 F0 [_, _, _] _ _ := h4
  refine RJ.run ttok 1 rfl ?_
  rcases Bool.eq_false_or_eq_true r1 with c1 | c1
  · replace H := ite_t c1 H
    refine RJ.know (t := 9) rfl (congrArg Value.bool c1) ?_
    refine RJ.run ttok 11 rfl ?_
    refine RJ.fin [(3, _), (4, _), (5, _), (20, .bool true)] rfl ?_
    refine J.condT rfl ?_
    refine J.seq (J.region ?_)
    obtain ⟨r2, q2, H⟩ := bind_t H
    refine RJ.op rfl rfl (op_call [] (sluicegatelaw13_awake.spec q2) rfl rfl rfl h4 rfl gnil) ?_
    rintro _ w5 ⟨_, ⟨rfl, rfl⟩, h5⟩
    replace h5 : St w0 F0 [_, _, _] _ _ := h5
    refine RJ.run ttok 1 rfl ?_
    refine RJ.fin [(6, .bool r2)] rfl ?_
    have h6 := h5.only [] rfl
    replace h6 : St w0 F0 [] _ _ := h6
    refine J.ret ?_
    obtain rfl := Option.some.inj H
    exact ⟨_, _, _, (results_slots rfl), ⟨rfl, rfl⟩, h6.only [] rfl⟩
  replace H := ite_f c1 H
  refine RJ.know (t := 9) rfl (congrArg Value.bool c1) ?_
  refine RJ.run ttok 1 rfl ?_
  refine RJ.q rfl rfl (q_load_box ttok 1 h4.wht rfl rfl rfl rfl rfl) ?_
  refine RJ.run ttok 4 rfl ?_
  rcases Bool.eq_false_or_eq_true (decide (200 < (a1.1.length : Int))) with c2 | c2
  · replace H := ite_t c2 H
    refine RJ.know (t := 15) rfl (congrArg Value.bool c2) ?_
    refine RJ.run ttok 5 rfl ?_
    refine RJ.fin [(3, _), (4, _), (5, _), (20, .bool true)] rfl ?_
    refine J.condT rfl ?_
    refine J.seq (J.region ?_)
    obtain ⟨r3, q3, H⟩ := bind_t H
    refine RJ.op rfl rfl (op_call [] (sluicegatelaw13_awake.spec q3) rfl rfl rfl h4 rfl gnil) ?_
    rintro _ w6 ⟨_, ⟨rfl, rfl⟩, h7⟩
    replace h7 : St w0 F0 [_, _, _] _ _ := h7
    refine RJ.run ttok 1 rfl ?_
    refine RJ.fin [(6, .bool r3)] rfl ?_
    have h8 := h7.only [] rfl
    replace h8 : St w0 F0 [] _ _ := h8
    refine J.ret ?_
    obtain rfl := Option.some.inj H
    exact ⟨_, _, _, (results_slots rfl), ⟨rfl, rfl⟩, h8.only [] rfl⟩
  replace H := ite_f c2 H
  refine RJ.know (t := 15) rfl (congrArg Value.bool c2) ?_
  refine RJ.run ttok 1 rfl ?_
  refine RJ.q rfl rfl (q_load_box ttok 1 h4.wht rfl rfl rfl rfl rfl) ?_
  refine RJ.run ttok 3 rfl ?_
  refine RJ.fin [(3, _), (4, _), (5, _), (20, .bool (decide (200 < (a1.2.1.length : Int))))] rfl ?_
  refine J.cond rfl (fun c3 => ?_) (fun c3 => ?_)
  · replace H := ite_t c3 H
    refine J.seq (J.region ?_)
    obtain ⟨r4, q4, H⟩ := bind_t H
    refine RJ.op rfl rfl (op_call [] (sluicegatelaw13_awake.spec q4) rfl rfl rfl h4 rfl gnil) ?_
    rintro _ w7 ⟨_, ⟨rfl, rfl⟩, h9⟩
    replace h9 : St w0 F0 [_, _, _] _ _ := h9
    refine RJ.run ttok 1 rfl ?_
    refine RJ.fin [(6, .bool r4)] rfl ?_
    have h10 := h9.only [] rfl
    replace h10 : St w0 F0 [] _ _ := h10
    refine J.ret ?_
    obtain rfl := Option.some.inj H
    exact ⟨_, _, _, (results_slots rfl), ⟨rfl, rfl⟩, h10.only [] rfl⟩
  replace H := ite_f c3 H
  refine J.skip ?_
  refine J.seq ?_
  refine J.heldSt mix h4 ?_
  have h11 := h4.drew
  refine HJ.q (i := 0) rfl rfl rfl rfl rfl rfl (q_load_box ttok 2 (fun w e => e) rfl rfl rfl rfl rfl) ?_
  refine HJ.q (i := 1) rfl rfl rfl rfl rfl rfl (q_load_box ttok 1 (fun w e => e) rfl rfl rfl rfl rfl) ?_
  refine HJ.q (i := 2) rfl rfl rfl rfl rfl rfl (q_load_box ttok 0 (fun w e => e) rfl rfl rfl rfl rfl) ?_
  refine HJ.q (i := 4) rfl rfl rfl rfl rfl rfl (q_load_box ttok 2 (fun w e => e) rfl rfl rfl rfl rfl) ?_
  refine HJ.q (i := 5) rfl rfl rfl rfl rfl rfl (q_load_box ttok 1 (fun w e => e) rfl rfl rfl rfl rfl) ?_
  refine HJ.q (i := 6) rfl rfl rfl rfl rfl rfl (q_load_box ttok 0 (fun w e => e) rfl rfl rfl rfl rfl) ?_
  obtain ⟨r5, q5, H⟩ := bind_t H
  refine HJ.op (i := 3) rfl rfl rfl rfl rfl (op_call [] (node_Right.spec q5) rfl rfl rfl h11 rfl (gcons (Gives.self 3 rfl) (gcons (Gives.self 4 rfl) (gcons (Gives.self 5 rfl) (gcons (Gives.self 6 rfl) gnil))))) ?_
  rintro _ w8 ⟨_, ⟨rfl, rfl⟩, h12⟩
  replace h12 : St w0 F0 [_, _, _] _ _ := h12
  refine ⟨⟨[], h12⟩, ?_⟩
  obtain ⟨r6, q6, H⟩ := bind_t H
  refine HJ.op (i := 7) rfl rfl rfl rfl rfl (op_call [] (sluicegateref13_Right.spec q6) rfl rfl rfl h12 rfl (gcons (Gives.self 3 rfl) (gcons (Gives.self 4 rfl) (gcons (Gives.self 5 rfl) (gcons (Gives.self 6 rfl) gnil))))) ?_
  rintro _ w9 ⟨_, ⟨rfl, rfl⟩, h13⟩
  replace h13 : St w0 F0 [_, _, _] _ _ := h13
  refine ⟨⟨[], h13⟩, ?_⟩
  refine HJ.run ttok rfl [8, 9] rfl ?_
  rcases Bool.eq_false_or_eq_true (r5 == r6) with c4 | c4
  · replace H := ite_t c4 H
    refine HJ.know (t := 31) rfl (congrArg Value.bool c4) ?_
    refine HJ.run ttok rfl [11, 15] rfl ?_
    refine HJ.q (i := 10) rfl rfl rfl rfl rfl rfl (q_load_box ttok 2 (fun w e => e) rfl rfl rfl rfl rfl) ?_
    refine HJ.q (i := 12) rfl rfl rfl rfl rfl rfl (q_load_box ttok 1 (fun w e => e) rfl rfl rfl rfl rfl) ?_
    refine HJ.q (i := 14) rfl rfl rfl rfl rfl rfl (q_load_box ttok 2 (fun w e => e) rfl rfl rfl rfl rfl) ?_
    refine HJ.q (i := 16) rfl rfl rfl rfl rfl rfl (q_load_box ttok 1 (fun w e => e) rfl rfl rfl rfl rfl) ?_
    obtain ⟨r7, q7, H⟩ := bind_t H
    refine HJ.op (i := 13) rfl rfl rfl rfl rfl (op_call [] (node_Key.spec q7) rfl rfl rfl h13 rfl gnil) ?_
    rintro _ w10 ⟨_, ⟨rfl, rfl⟩, h14⟩
    replace h14 : St w0 F0 [_, _, _] _ _ := h14
    refine ⟨⟨[], h14⟩, ?_⟩
    obtain ⟨r8, q8, H⟩ := bind_t H
    refine HJ.op (i := 17) rfl rfl rfl rfl rfl (op_call [] (sluicegateref13_Key.spec q8) rfl rfl rfl h14 rfl gnil) ?_
    rintro _ w11 ⟨_, ⟨rfl, rfl⟩, h15⟩
    replace h15 : St w0 F0 [_, _, _] _ _ := h15
    refine ⟨⟨[], h15⟩, ?_⟩
    refine HJ.run ttok rfl [18, 19, 20] rfl ?_
    rcases Bool.eq_false_or_eq_true (r7 == r8) with c5 | c5
    · replace H := ite_t c5 H
      refine HJ.know (t := 42) rfl (congrArg Value.bool c5) ?_
      obtain ⟨r9, q9, H⟩ := bind_t H
      refine HJ.op (i := 21) rfl rfl rfl rfl rfl (op_call [] (sluicegatelaw13_awake.spec q9) rfl rfl rfl h15 rfl gnil) ?_
      rintro _ w12 ⟨_, ⟨rfl, rfl⟩, h16⟩
      replace h16 : St w0 F0 [_, _, _] _ _ := h16
      refine ⟨⟨[], h16⟩, ?_⟩
      refine HJ.run ttok rfl [22, 23] rfl ?_
      refine HJ.fin [(6, .bool r9)] rfl rfl ?_
      have h17 := h16.only [] rfl
      replace h17 : St w0 F0 [] _ _ := h17
      refine J.ret ?_
      obtain rfl := Option.some.inj H
      exact ⟨_, _, _, (results_slots rfl), ⟨rfl, rfl⟩, h17.only [] rfl⟩
    replace H := ite_f c5 H
    refine HJ.know (t := 42) rfl (congrArg Value.bool c5) ?_
    refine HJ.run ttok rfl [21, 22, 23] rfl ?_
    refine HJ.fin [(6, .bool false)] rfl rfl ?_
    have h18 := h15.only [] rfl
    replace h18 : St w0 F0 [] _ _ := h18
    refine J.ret ?_
    obtain rfl := Option.some.inj H
    exact ⟨_, _, _, (results_slots rfl), ⟨rfl, rfl⟩, h18.only [] rfl⟩
  replace H := ite_f c4 H
  refine HJ.know (t := 31) rfl (congrArg Value.bool c4) ?_
  refine HJ.run ttok rfl [10, 11, 12, 13, 14, 15, 16, 17, 18, 19, 20, 21, 22, 23] rfl ?_
  refine HJ.fin [(6, .bool false)] rfl rfl ?_
  have h19 := h13.only [] rfl
  replace h19 : St w0 F0 [] _ _ := h19
  refine J.ret ?_
  obtain rfl := Option.some.inj H
  exact ⟨_, _, _, (results_slots rfl), ⟨rfl, rfl⟩, h19.only [] rfl⟩

end Go.SK.T
