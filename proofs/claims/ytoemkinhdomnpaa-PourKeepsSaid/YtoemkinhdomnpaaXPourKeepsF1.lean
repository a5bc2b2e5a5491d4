/- The functions, further. -/
import Derived.Test.YtoemkinhdomnpaaXPourKeepsF0
set_option linter.unusedVariables false
set_option linter.unusedSimpArgs false
namespace Go.SK.T
open Go Go.SK Go.Proofs
/-! sluicegate/sluicegateref12.Span -/
def sluicegateref12_Span.f (k : Nat) (a0 : List (List UInt8)) (a1 : Int) (a2 : List UInt8 × List UInt8 × Bool) : Option ((List UInt8 × List UInt8 × Bool) × Bool) := if (decide (a1 < 0)) = true then (some ((([] : List UInt8), ([] : List UInt8), false), false)) else (if (decide ((a0.length : Int) < a1)) = true then (some ((([] : List UInt8), ([] : List UInt8), false), false)) else (if (decide (0 < a1)) = true then (if 0 ≤ (w64 (a1 - 1)) ∧ (w64 (a1 - 1)) < (a0.length : Int) then ((sluicegateref01_Compare.f k (gt a0 (w64 (a1 - 1))) a2.1).bind fun r1 => (if (decide (0 < r1)) = true then (if (decide (a1 < (a0.length : Int))) = true then (if a2.2.2 = true then (if 0 ≤ a1 ∧ a1 < (a0.length : Int) then ((sluicegateref01_Empty.f k ((gt a0 (w64 (a1 - 1))), (gt a0 a1), false)).bind fun r2 => (if r2 = true then (some ((([] : List UInt8), ([] : List UInt8), false), false)) else (some (((gt a0 (w64 (a1 - 1))), (gt a0 a1), false), true)))) else none) else (if 0 ≤ a1 ∧ a1 < (a0.length : Int) then ((sluicegateref01_Compare.f k (gt a0 a1) a2.2.1).bind fun r3 => (if (decide (r3 < 0)) = true then ((sluicegateref01_Empty.f k ((gt a0 (w64 (a1 - 1))), (gt a0 a1), false)).bind fun r4 => (if r4 = true then (some ((([] : List UInt8), ([] : List UInt8), false), false)) else (some (((gt a0 (w64 (a1 - 1))), (gt a0 a1), false), true)))) else ((sluicegateref01_Empty.f k ((gt a0 (w64 (a1 - 1))), a2.2.1, a2.2.2)).bind fun r5 => (if r5 = true then (some ((([] : List UInt8), ([] : List UInt8), false), false)) else (some (((gt a0 (w64 (a1 - 1))), a2.2.1, a2.2.2), true)))))) else none)) else (if a2.2.2 = true then ((sluicegateref01_Empty.f k ((gt a0 (w64 (a1 - 1))), ([] : List UInt8), a2.2.2)).bind fun r6 => (if r6 = true then (some ((([] : List UInt8), ([] : List UInt8), false), false)) else (some (((gt a0 (w64 (a1 - 1))), ([] : List UInt8), a2.2.2), true)))) else ((sluicegateref01_Empty.f k ((gt a0 (w64 (a1 - 1))), a2.2.1, a2.2.2)).bind fun r7 => (if r7 = true then (some ((([] : List UInt8), ([] : List UInt8), false), false)) else (some (((gt a0 (w64 (a1 - 1))), a2.2.1, a2.2.2), true)))))) else (if (decide (a1 < (a0.length : Int))) = true then (if a2.2.2 = true then (if 0 ≤ a1 ∧ a1 < (a0.length : Int) then ((sluicegateref01_Empty.f k (a2.1, (gt a0 a1), false)).bind fun r8 => (if r8 = true then (some ((([] : List UInt8), ([] : List UInt8), false), false)) else (some ((a2.1, (gt a0 a1), false), true)))) else none) else (if 0 ≤ a1 ∧ a1 < (a0.length : Int) then ((sluicegateref01_Compare.f k (gt a0 a1) a2.2.1).bind fun r9 => (if (decide (r9 < 0)) = true then ((sluicegateref01_Empty.f k (a2.1, (gt a0 a1), false)).bind fun r10 => (if r10 = true then (some ((([] : List UInt8), ([] : List UInt8), false), false)) else (some ((a2.1, (gt a0 a1), false), true)))) else ((sluicegateref01_Empty.f k (a2.1, a2.2.1, a2.2.2)).bind fun r11 => (if r11 = true then (some ((([] : List UInt8), ([] : List UInt8), false), false)) else (some ((a2.1, a2.2.1, a2.2.2), true)))))) else none)) else (if a2.2.2 = true then ((sluicegateref01_Empty.f k (a2.1, ([] : List UInt8), a2.2.2)).bind fun r12 => (if r12 = true then (some ((([] : List UInt8), ([] : List UInt8), false), false)) else (some ((a2.1, ([] : List UInt8), a2.2.2), true)))) else ((sluicegateref01_Empty.f k (a2.1, a2.2.1, a2.2.2)).bind fun r13 => (if r13 = true then (some ((([] : List UInt8), ([] : List UInt8), false), false)) else (some ((a2.1, a2.2.1, a2.2.2), true)))))))) else none) else (if (decide (a1 < (a0.length : Int))) = true then (if a2.2.2 = true then (if 0 ≤ a1 ∧ a1 < (a0.length : Int) then ((sluicegateref01_Empty.f k (a2.1, (gt a0 a1), false)).bind fun r14 => (if r14 = true then (some ((([] : List UInt8), ([] : List UInt8), false), false)) else (some ((a2.1, (gt a0 a1), false), true)))) else none) else (if 0 ≤ a1 ∧ a1 < (a0.length : Int) then ((sluicegateref01_Compare.f k (gt a0 a1) a2.2.1).bind fun r15 => (if (decide (r15 < 0)) = true then ((sluicegateref01_Empty.f k (a2.1, (gt a0 a1), false)).bind fun r16 => (if r16 = true then (some ((([] : List UInt8), ([] : List UInt8), false), false)) else (some ((a2.1, (gt a0 a1), false), true)))) else ((sluicegateref01_Empty.f k (a2.1, a2.2.1, a2.2.2)).bind fun r17 => (if r17 = true then (some ((([] : List UInt8), ([] : List UInt8), false), false)) else (some ((a2.1, a2.2.1, a2.2.2), true)))))) else none)) else (if a2.2.2 = true then ((sluicegateref01_Empty.f k (a2.1, ([] : List UInt8), a2.2.2)).bind fun r18 => (if r18 = true then (some ((([] : List UInt8), ([] : List UInt8), false), false)) else (some ((a2.1, ([] : List UInt8), a2.2.2), true)))) else ((sluicegateref01_Empty.f k (a2.1, a2.2.1, a2.2.2)).bind fun r19 => (if r19 = true then (some ((([] : List UInt8), ([] : List UInt8), false), false)) else (some ((a2.1, a2.2.1, a2.2.2), true))))))))
set_option maxRecDepth 20000 in
set_option maxHeartbeats 40000000 in
theorem sluicegateref12_Span.spec {k : Nat} {a0 : List (List UInt8)} {a1 : Int} {a2 : List UInt8 × List UInt8 × Bool} {A1 : Option Addr} {c_1 : Nat} {r : (List UInt8 × List UInt8 × Bool) × Bool} (H : sluicegateref12_Span.f k a0 a1 a2 = some r) :
    Spec Try.prog 47 [.slice A1 a0.length c_1, .int .i64 a1, .agg #[.string ⟨⟨a2.1⟩⟩, .string ⟨⟨a2.2.1⟩⟩, .bool a2.2.2]] [] [rdC 9 .str a0 (.slice A1 a0.length c_1)] (fun v l => v = .tuple #[.agg #[.string ⟨⟨r.1.1⟩⟩, .string ⟨⟨r.1.2.1⟩⟩, .bool r.1.2.2], .bool r.2] ∧ l = []) := by
  refine Spec.enter Try.func47 rfl (by kernel_rfl) (by kernel_rfl) fun w0 F0 h0 => ?_
  unfold sluicegateref12_Span.f at H
  refine J.seq ?_
  refine J.region ?_
  refine RJ.op rfl rfl (op_box rfl rfl h0) ?_
  rintro _ w1 ⟨b1, rfl, h1⟩
  replace h1 : St w0 F0 [boxC b1 93 [.string ⟨⟨a2.1⟩⟩, .string ⟨⟨a2.2.1⟩⟩, .bool a2.2.2]] _ _ := h1
  refine RJ.op rfl rfl (op_alloc ttok rfl rfl h1) ?_
  rintro _ w2 ⟨b2, rfl, h2⟩
  replace h2 : St w0 F0 [boxC b2 93 [.string ⟨⟨([] : List UInt8)⟩⟩, .string ⟨⟨([] : List UInt8)⟩⟩, .bool false], boxC b1 93 [.string ⟨⟨a2.1⟩⟩, .string ⟨⟨a2.2.1⟩⟩, .bool a2.2.2]] _ _ := h2
  refine RJ.run ttok 1 rfl ?_
  refine RJ.fin [(0, .slice A1 a0.length c_1), (1, .int .i64 a1), (5, .pointer (some ⟨b1, 0, none⟩)), (6, .pointer (some ⟨b2, 0, none⟩))] rfl ?_
  refine J.seq ?_
  refine J.seq ?_
  refine J.region ?_
  refine RJ.run ttok 3 rfl ?_
  rcases Bool.eq_false_or_eq_true (decide (a1 < 0)) with c1 | c1
  · replace H := ite_t c1 H
    refine RJ.know (t := 10) rfl (congrArg Value.bool c1) ?_
    refine RJ.run ttok 5 rfl ?_
    refine RJ.fin [(0, .slice A1 a0.length c_1), (1, .int .i64 a1), (5, .pointer (some ⟨b1, 0, none⟩)), (6, .pointer (some ⟨b2, 0, none⟩)), (15, .bool true)] rfl ?_
    refine J.condT rfl ?_
    refine J.seq ?_
    refine J.region ?_
    refine RJ.run ttok 1 rfl ?_
    refine RJ.op rfl rfl (op_store ttok 0 rfl h2 rfl rfl rfl rfl rfl rfl rfl) ?_
    intro _ w3 h3
    replace h3 : St w0 F0 [boxC b2 93 [.string ⟨⟨([] : List UInt8)⟩⟩, .string ⟨⟨([] : List UInt8)⟩⟩, .bool false], boxC b1 93 [.string ⟨⟨a2.1⟩⟩, .string ⟨⟨a2.2.1⟩⟩, .bool a2.2.2]] _ _ := h3
    refine RJ.run ttok 1 rfl ?_
    refine RJ.fin [(6, .pointer (some ⟨b2, 0, none⟩)), (7, .bool false)] rfl ?_
    refine J.ret ?_
    obtain rfl := Option.some.inj H
    exact ⟨_, _, _, (results_two rfl (rvcons (RV.cell ttok 0 h3 rfl rfl rfl rfl) (rvcons (RV.tmp rfl) rvnil)) rfl), ⟨rfl, rfl⟩, h3.only [] rfl⟩
  · replace H := ite_f c1 H
    refine RJ.know (t := 10) rfl (congrArg Value.bool c1) ?_
    refine RJ.run ttok 5 rfl ?_
    refine RJ.fin [(0, .slice A1 a0.length c_1), (1, .int .i64 a1), (5, .pointer (some ⟨b1, 0, none⟩)), (6, .pointer (some ⟨b2, 0, none⟩)), (15, .bool (decide ((a0.length : Int) < a1)))] rfl ?_
    refine J.cond rfl (fun c2 => ?_) (fun c2 => ?_)
    · replace H := ite_t c2 H
      refine J.seq ?_
      refine J.region ?_
      refine RJ.run ttok 1 rfl ?_
      refine RJ.op rfl rfl (op_store ttok 0 rfl h2 rfl rfl rfl rfl rfl rfl rfl) ?_
      intro _ w4 h4
      replace h4 : St w0 F0 [boxC b2 93 [.string ⟨⟨([] : List UInt8)⟩⟩, .string ⟨⟨([] : List UInt8)⟩⟩, .bool false], boxC b1 93 [.string ⟨⟨a2.1⟩⟩, .string ⟨⟨a2.2.1⟩⟩, .bool a2.2.2]] _ _ := h4
      refine RJ.run ttok 1 rfl ?_
      refine RJ.fin [(6, .pointer (some ⟨b2, 0, none⟩)), (7, .bool false)] rfl ?_
      refine J.ret ?_
      obtain rfl := Option.some.inj H
      exact ⟨_, _, _, (results_two rfl (rvcons (RV.cell ttok 0 h4 rfl rfl rfl rfl) (rvcons (RV.tmp rfl) rvnil)) rfl), ⟨rfl, rfl⟩, h4.only [] rfl⟩
    · replace H := ite_f c2 H
      refine J.skip ?_
      refine J.seq ?_
      refine J.seq ?_
      refine J.heldSt mix h2 ?_
      have h5 := h2.drew
      refine HJ.run ttok rfl [0, 1, 2] rfl ?_
      rcases Bool.eq_false_or_eq_true (decide (0 < a1)) with c3 | c3
      · replace H := ite_t c3 H
        refine HJ.know (t := 19) rfl (congrArg Value.bool c3) ?_
        refine HJ.run ttok rfl [3, 4, 5, 8] rfl ?_
        obtain ⟨⟨p1, p2⟩, H⟩ := guard_t H
        have e1 := elem_A h5.wh (Gives.self 2 rfl) p1 p2
        refine HJ.q (i := 6) rfl rfl rfl rfl rfl rfl (q_index ttok rfl rfl rfl rfl rfl e1 p1 p2) ?_
        refine HJ.q (i := 7) rfl rfl rfl rfl rfl rfl (q_load_elem (f := 0) ttok rfl (fun w e => e) (Gives.self 2 rfl) p1 p2 rfl rfl rfl rfl rfl) ?_
        refine HJ.q (i := 9) rfl rfl rfl rfl rfl rfl (q_load_box ttok 1 (fun w e => e) rfl rfl rfl rfl rfl) ?_
        obtain ⟨r1, q1, H⟩ := bind_t H
        refine HJ.op (i := 10) rfl rfl rfl rfl rfl (op_call [] (sluicegateref01_Compare.spec q1) rfl rfl rfl h5 rfl gnil) ?_
        rintro _ w5 ⟨_, ⟨rfl, rfl⟩, h6⟩
        replace h6 : St w0 F0 [boxC b2 93 [.string ⟨⟨([] : List UInt8)⟩⟩, .string ⟨⟨([] : List UInt8)⟩⟩, .bool false], boxC b1 93 [.string ⟨⟨a2.1⟩⟩, .string ⟨⟨a2.2.1⟩⟩, .bool a2.2.2]] _ _ := h6
        refine ⟨⟨[], h6⟩, ?_⟩
        refine HJ.run ttok rfl [11, 12] rfl ?_
        refine HJ.fin [(0, .slice A1 a0.length c_1), (1, .int .i64 a1), (5, .pointer (some ⟨b1, 0, none⟩)), (6, .pointer (some ⟨b2, 0, none⟩)), (29, .bool (decide (0 < r1)))] rfl rfl ?_
        refine J.cond rfl (fun c4 => ?_) (fun c4 => ?_)
        · replace H := ite_t c4 H
          refine J.region ?_
          refine RJ.run ttok 3 rfl ?_
          refine RJ.q rfl rfl (q_index ttok rfl rfl rfl rfl rfl e1 p1 p2) ?_
          refine RJ.q rfl rfl (q_load_elem (f := 0) ttok rfl (fun w e => e ▸ h6.wh) (Gives.self 2 rfl) p1 p2 rfl rfl rfl rfl rfl) ?_
          refine RJ.run ttok 1 rfl ?_
          refine RJ.op rfl rfl (op_store ttok 1 rfl h6 rfl rfl rfl rfl rfl rfl rfl) ?_
          intro _ w6 h7
          replace h7 : St w0 F0 [boxC b1 93 [.string ⟨⟨(gt a0 (w64 (a1 - 1)))⟩⟩, .string ⟨⟨a2.2.1⟩⟩, .bool a2.2.2], boxC b2 93 [.string ⟨⟨([] : List UInt8)⟩⟩, .string ⟨⟨([] : List UInt8)⟩⟩, .bool false]] _ _ := h7
          refine RJ.fin [(0, .slice A1 a0.length c_1), (1, .int .i64 a1), (5, .pointer (some ⟨b1, 0, none⟩)), (6, .pointer (some ⟨b2, 0, none⟩))] rfl ?_
          refine J.seq ?_
          refine J.seq ?_
          refine J.heldSt mix h7 ?_
          have h8 := h7.drew
          refine HJ.run ttok rfl [0, 1, 2, 3, 4] rfl ?_
          rcases Bool.eq_false_or_eq_true (decide (a1 < (a0.length : Int))) with c5 | c5
          · replace H := ite_t c5 H
            refine HJ.know (t := 40) rfl (congrArg Value.bool c5) ?_
            refine HJ.run ttok rfl [5] rfl ?_
            refine HJ.q (i := 6) rfl rfl rfl rfl rfl rfl (q_load_box ttok 0 (fun w e => e) rfl rfl rfl rfl rfl) ?_
            refine HJ.run ttok rfl [7] rfl ?_
            rcases Bool.eq_false_or_eq_true a2.2.2 with c6 | c6
            · replace H := ite_t c6 H
              refine HJ.know (t := 43) rfl (congrArg Value.bool c6) ?_
              refine HJ.run ttok rfl [8, 9, 10, 11, 12, 13, 14, 15, 16, 17] rfl ?_
              refine HJ.fin [(0, .slice A1 a0.length c_1), (1, .int .i64 a1), (5, .pointer (some ⟨b1, 0, none⟩)), (6, .pointer (some ⟨b2, 0, none⟩)), (53, .bool true)] rfl rfl ?_
              refine J.condT rfl ?_
              refine J.seq ?_
              refine J.region ?_
              refine RJ.run ttok 2 rfl ?_
              obtain ⟨⟨p3, p4⟩, H⟩ := guard_t H
              refine RJ.q rfl rfl (q_index ttok rfl rfl rfl rfl rfl e1 p3 p4) ?_
              refine RJ.q rfl rfl (q_load_elem (f := 0) ttok rfl (fun w e => e ▸ h8.wh) (Gives.self 2 rfl) p3 p4 rfl rfl rfl rfl rfl) ?_
              refine RJ.run ttok 1 rfl ?_
              refine RJ.op rfl rfl (op_store ttok 0 rfl h8 rfl rfl rfl rfl rfl rfl rfl) ?_
              intro _ w7 h9
              replace h9 : St w0 F0 [boxC b1 93 [.string ⟨⟨(gt a0 (w64 (a1 - 1)))⟩⟩, .string ⟨⟨(gt a0 a1)⟩⟩, .bool a2.2.2], boxC b2 93 [.string ⟨⟨([] : List UInt8)⟩⟩, .string ⟨⟨([] : List UInt8)⟩⟩, .bool false]] _ _ := h9
              refine RJ.fin [(5, .pointer (some ⟨b1, 0, none⟩)), (6, .pointer (some ⟨b2, 0, none⟩))] rfl ?_
              refine J.region ?_
              refine RJ.run ttok 1 rfl ?_
              refine RJ.op rfl rfl (op_store ttok 0 rfl h9 rfl rfl rfl rfl rfl rfl rfl) ?_
              intro _ w8 h10
              replace h10 : St w0 F0 [boxC b1 93 [.string ⟨⟨(gt a0 (w64 (a1 - 1)))⟩⟩, .string ⟨⟨(gt a0 a1)⟩⟩, .bool false], boxC b2 93 [.string ⟨⟨([] : List UInt8)⟩⟩, .string ⟨⟨([] : List UInt8)⟩⟩, .bool false]] _ _ := h10
              refine RJ.fin [(5, .pointer (some ⟨b1, 0, none⟩)), (6, .pointer (some ⟨b2, 0, none⟩))] rfl ?_
              refine J.seq ?_
              refine J.seq ?_
              refine J.region ?_
              refine RJ.run ttok 1 rfl ?_
              refine RJ.q rfl rfl (q_load_box ttok 0 (fun w e => e ▸ h10.wh) rfl rfl rfl rfl rfl) ?_
              refine RJ.fin [(5, .pointer (some ⟨b1, 0, none⟩)), (6, .pointer (some ⟨b2, 0, none⟩)), (61, .bool false)] rfl ?_
              refine J.condF rfl ?_
              refine J.skip ?_
              refine J.seq ?_
              refine J.seq ?_
              refine J.region ?_
              refine RJ.q rfl rfl (q_load_box ttok 0 (fun w e => e ▸ h10.wh) rfl rfl rfl rfl rfl) ?_
              obtain ⟨r2, q2, H⟩ := bind_t H
              refine RJ.op rfl rfl (op_call [] (sluicegateref01_Empty.spec q2) rfl rfl rfl h10 rfl gnil) ?_
              rintro _ w9 ⟨_, ⟨rfl, rfl⟩, h11⟩
              replace h11 : St w0 F0 [boxC b1 93 [.string ⟨⟨(gt a0 (w64 (a1 - 1)))⟩⟩, .string ⟨⟨(gt a0 a1)⟩⟩, .bool false], boxC b2 93 [.string ⟨⟨([] : List UInt8)⟩⟩, .string ⟨⟨([] : List UInt8)⟩⟩, .bool false]] _ _ := h11
              refine RJ.fin [(5, .pointer (some ⟨b1, 0, none⟩)), (6, .pointer (some ⟨b2, 0, none⟩)), (64, .bool r2)] rfl ?_
              refine J.cond rfl (fun c7 => ?_) (fun c7 => ?_)
              · replace H := ite_t c7 H
                refine J.seq ?_
                refine J.region ?_
                refine RJ.run ttok 1 rfl ?_
                refine RJ.op rfl rfl (op_store ttok 1 rfl h11 rfl rfl rfl rfl rfl rfl rfl) ?_
                intro _ w10 h12
                replace h12 : St w0 F0 [boxC b2 93 [.string ⟨⟨([] : List UInt8)⟩⟩, .string ⟨⟨([] : List UInt8)⟩⟩, .bool false], boxC b1 93 [.string ⟨⟨(gt a0 (w64 (a1 - 1)))⟩⟩, .string ⟨⟨(gt a0 a1)⟩⟩, .bool false]] _ _ := h12
                refine RJ.run ttok 1 rfl ?_
                refine RJ.fin [(6, .pointer (some ⟨b2, 0, none⟩)), (7, .bool false)] rfl ?_
                refine J.ret ?_
                obtain rfl := Option.some.inj H
                exact ⟨_, _, _, (results_two rfl (rvcons (RV.cell ttok 0 h12 rfl rfl rfl rfl) (rvcons (RV.tmp rfl) rvnil)) rfl), ⟨rfl, rfl⟩, h12.only [] rfl⟩
              · replace H := ite_f c7 H
                refine J.skip ?_
                refine J.seq ?_
                refine J.region ?_
                refine RJ.q rfl rfl (q_load_box ttok 0 (fun w e => e ▸ h11.wh) rfl rfl rfl rfl rfl) ?_
                refine RJ.op rfl rfl (op_store ttok 1 rfl h11 rfl rfl rfl rfl rfl rfl rfl) ?_
                intro _ w11 h13
                replace h13 : St w0 F0 [boxC b2 93 [.string ⟨⟨(gt a0 (w64 (a1 - 1)))⟩⟩, .string ⟨⟨(gt a0 a1)⟩⟩, .bool false], boxC b1 93 [.string ⟨⟨(gt a0 (w64 (a1 - 1)))⟩⟩, .string ⟨⟨(gt a0 a1)⟩⟩, .bool false]] _ _ := h13
                refine RJ.run ttok 1 rfl ?_
                refine RJ.fin [(6, .pointer (some ⟨b2, 0, none⟩)), (7, .bool true)] rfl ?_
                refine J.ret ?_
                obtain rfl := Option.some.inj H
                exact ⟨_, _, _, (results_two rfl (rvcons (RV.cell ttok 0 h13 rfl rfl rfl rfl) (rvcons (RV.tmp rfl) rvnil)) rfl), ⟨rfl, rfl⟩, h13.only [] rfl⟩
            · replace H := ite_f c6 H
              refine HJ.know (t := 43) rfl (congrArg Value.bool c6) ?_
              refine HJ.run ttok rfl [8, 9, 12] rfl ?_
              obtain ⟨⟨p5, p6⟩, H⟩ := guard_t H
              refine HJ.q (i := 10) rfl rfl rfl rfl rfl rfl (q_index ttok rfl rfl rfl rfl rfl e1 p5 p6) ?_
              refine HJ.q (i := 11) rfl rfl rfl rfl rfl rfl (q_load_elem (f := 0) ttok rfl (fun w e => e) (Gives.self 2 rfl) p5 p6 rfl rfl rfl rfl rfl) ?_
              refine HJ.q (i := 13) rfl rfl rfl rfl rfl rfl (q_load_box ttok 0 (fun w e => e) rfl rfl rfl rfl rfl) ?_
              obtain ⟨r3, q3, H⟩ := bind_t H
              refine HJ.op (i := 14) rfl rfl rfl rfl rfl (op_call [] (sluicegateref01_Compare.spec q3) rfl rfl rfl h8 rfl gnil) ?_
              rintro _ w12 ⟨_, ⟨rfl, rfl⟩, h14⟩
              replace h14 : St w0 F0 [boxC b1 93 [.string ⟨⟨(gt a0 (w64 (a1 - 1)))⟩⟩, .string ⟨⟨a2.2.1⟩⟩, .bool a2.2.2], boxC b2 93 [.string ⟨⟨([] : List UInt8)⟩⟩, .string ⟨⟨([] : List UInt8)⟩⟩, .bool false]] _ _ := h14
              refine ⟨⟨[], h14⟩, ?_⟩
              refine HJ.run ttok rfl [15, 16, 17] rfl ?_
              refine HJ.fin [(0, .slice A1 a0.length c_1), (1, .int .i64 a1), (5, .pointer (some ⟨b1, 0, none⟩)), (6, .pointer (some ⟨b2, 0, none⟩)), (53, .bool (decide (r3 < 0)))] rfl rfl ?_
              refine J.cond rfl (fun c8 => ?_) (fun c8 => ?_)
              · replace H := ite_t c8 H
                refine J.seq ?_
                refine J.region ?_
                refine RJ.run ttok 2 rfl ?_
                refine RJ.q rfl rfl (q_index ttok rfl rfl rfl rfl rfl e1 p5 p6) ?_
                refine RJ.q rfl rfl (q_load_elem (f := 0) ttok rfl (fun w e => e ▸ h14.wh) (Gives.self 2 rfl) p5 p6 rfl rfl rfl rfl rfl) ?_
                refine RJ.run ttok 1 rfl ?_
                refine RJ.op rfl rfl (op_store ttok 0 rfl h14 rfl rfl rfl rfl rfl rfl rfl) ?_
                intro _ w13 h15
                replace h15 : St w0 F0 [boxC b1 93 [.string ⟨⟨(gt a0 (w64 (a1 - 1)))⟩⟩, .string ⟨⟨(gt a0 a1)⟩⟩, .bool a2.2.2], boxC b2 93 [.string ⟨⟨([] : List UInt8)⟩⟩, .string ⟨⟨([] : List UInt8)⟩⟩, .bool false]] _ _ := h15
                refine RJ.fin [(5, .pointer (some ⟨b1, 0, none⟩)), (6, .pointer (some ⟨b2, 0, none⟩))] rfl ?_
                refine J.region ?_
                refine RJ.run ttok 1 rfl ?_
                refine RJ.op rfl rfl (op_store ttok 0 rfl h15 rfl rfl rfl rfl rfl rfl rfl) ?_
                intro _ w14 h16
                replace h16 : St w0 F0 [boxC b1 93 [.string ⟨⟨(gt a0 (w64 (a1 - 1)))⟩⟩, .string ⟨⟨(gt a0 a1)⟩⟩, .bool false], boxC b2 93 [.string ⟨⟨([] : List UInt8)⟩⟩, .string ⟨⟨([] : List UInt8)⟩⟩, .bool false]] _ _ := h16
                refine RJ.fin [(5, .pointer (some ⟨b1, 0, none⟩)), (6, .pointer (some ⟨b2, 0, none⟩))] rfl ?_
                refine J.seq ?_
                refine J.seq ?_
                refine J.region ?_
                refine RJ.run ttok 1 rfl ?_
                refine RJ.q rfl rfl (q_load_box ttok 0 (fun w e => e ▸ h16.wh) rfl rfl rfl rfl rfl) ?_
                refine RJ.fin [(5, .pointer (some ⟨b1, 0, none⟩)), (6, .pointer (some ⟨b2, 0, none⟩)), (61, .bool false)] rfl ?_
                refine J.condF rfl ?_
                refine J.skip ?_
                refine J.seq ?_
                refine J.seq ?_
                refine J.region ?_
                refine RJ.q rfl rfl (q_load_box ttok 0 (fun w e => e ▸ h16.wh) rfl rfl rfl rfl rfl) ?_
                obtain ⟨r4, q4, H⟩ := bind_t H
                refine RJ.op rfl rfl (op_call [] (sluicegateref01_Empty.spec q4) rfl rfl rfl h16 rfl gnil) ?_
                rintro _ w15 ⟨_, ⟨rfl, rfl⟩, h17⟩
                replace h17 : St w0 F0 [boxC b1 93 [.string ⟨⟨(gt a0 (w64 (a1 - 1)))⟩⟩, .string ⟨⟨(gt a0 a1)⟩⟩, .bool false], boxC b2 93 [.string ⟨⟨([] : List UInt8)⟩⟩, .string ⟨⟨([] : List UInt8)⟩⟩, .bool false]] _ _ := h17
                refine RJ.fin [(5, .pointer (some ⟨b1, 0, none⟩)), (6, .pointer (some ⟨b2, 0, none⟩)), (64, .bool r4)] rfl ?_
                refine J.cond rfl (fun c9 => ?_) (fun c9 => ?_)
                · replace H := ite_t c9 H
                  refine J.seq ?_
                  refine J.region ?_
                  refine RJ.run ttok 1 rfl ?_
                  refine RJ.op rfl rfl (op_store ttok 1 rfl h17 rfl rfl rfl rfl rfl rfl rfl) ?_
                  intro _ w16 h18
                  replace h18 : St w0 F0 [boxC b2 93 [.string ⟨⟨([] : List UInt8)⟩⟩, .string ⟨⟨([] : List UInt8)⟩⟩, .bool false], boxC b1 93 [.string ⟨⟨(gt a0 (w64 (a1 - 1)))⟩⟩, .string ⟨⟨(gt a0 a1)⟩⟩, .bool false]] _ _ := h18
                  refine RJ.run ttok 1 rfl ?_
                  refine RJ.fin [(6, .pointer (some ⟨b2, 0, none⟩)), (7, .bool false)] rfl ?_
                  refine J.ret ?_
                  obtain rfl := Option.some.inj H
                  exact ⟨_, _, _, (results_two rfl (rvcons (RV.cell ttok 0 h18 rfl rfl rfl rfl) (rvcons (RV.tmp rfl) rvnil)) rfl), ⟨rfl, rfl⟩, h18.only [] rfl⟩
                · replace H := ite_f c9 H
                  refine J.skip ?_
                  refine J.seq ?_
                  refine J.region ?_
                  refine RJ.q rfl rfl (q_load_box ttok 0 (fun w e => e ▸ h17.wh) rfl rfl rfl rfl rfl) ?_
                  refine RJ.op rfl rfl (op_store ttok 1 rfl h17 rfl rfl rfl rfl rfl rfl rfl) ?_
                  intro _ w17 h19
                  replace h19 : St w0 F0 [boxC b2 93 [.string ⟨⟨(gt a0 (w64 (a1 - 1)))⟩⟩, .string ⟨⟨(gt a0 a1)⟩⟩, .bool false], boxC b1 93 [.string ⟨⟨(gt a0 (w64 (a1 - 1)))⟩⟩, .string ⟨⟨(gt a0 a1)⟩⟩, .bool false]] _ _ := h19
                  refine RJ.run ttok 1 rfl ?_
                  refine RJ.fin [(6, .pointer (some ⟨b2, 0, none⟩)), (7, .bool true)] rfl ?_
                  refine J.ret ?_
                  obtain rfl := Option.some.inj H
                  exact ⟨_, _, _, (results_two rfl (rvcons (RV.cell ttok 0 h19 rfl rfl rfl rfl) (rvcons (RV.tmp rfl) rvnil)) rfl), ⟨rfl, rfl⟩, h19.only [] rfl⟩
              · replace H := ite_f c8 H
                refine J.skip ?_
                refine J.seq ?_
                refine J.seq ?_
                refine J.region ?_
                refine RJ.run ttok 1 rfl ?_
                refine RJ.q rfl rfl (q_load_box ttok 0 (fun w e => e ▸ h14.wh) rfl rfl rfl rfl rfl) ?_
                refine RJ.fin [(5, .pointer (some ⟨b1, 0, none⟩)), (6, .pointer (some ⟨b2, 0, none⟩)), (61, .bool a2.2.2)] rfl ?_
                refine J.cond rfl (fun e => ?_) (fun e => ?_)
                · rw [c6] at e; cases e
                · refine J.skip ?_
                  refine J.seq ?_
                  refine J.seq ?_
                  refine J.region ?_
                  refine RJ.q rfl rfl (q_load_box ttok 0 (fun w e => e ▸ h14.wh) rfl rfl rfl rfl rfl) ?_
                  obtain ⟨r5, q5, H⟩ := bind_t H
                  refine RJ.op rfl rfl (op_call [] (sluicegateref01_Empty.spec q5) rfl rfl rfl h14 rfl gnil) ?_
                  rintro _ w18 ⟨_, ⟨rfl, rfl⟩, h20⟩
                  replace h20 : St w0 F0 [boxC b1 93 [.string ⟨⟨(gt a0 (w64 (a1 - 1)))⟩⟩, .string ⟨⟨a2.2.1⟩⟩, .bool a2.2.2], boxC b2 93 [.string ⟨⟨([] : List UInt8)⟩⟩, .string ⟨⟨([] : List UInt8)⟩⟩, .bool false]] _ _ := h20
                  refine RJ.fin [(5, .pointer (some ⟨b1, 0, none⟩)), (6, .pointer (some ⟨b2, 0, none⟩)), (64, .bool r5)] rfl ?_
                  refine J.cond rfl (fun c10 => ?_) (fun c10 => ?_)
                  · replace H := ite_t c10 H
                    refine J.seq ?_
                    refine J.region ?_
                    refine RJ.run ttok 1 rfl ?_
                    refine RJ.op rfl rfl (op_store ttok 1 rfl h20 rfl rfl rfl rfl rfl rfl rfl) ?_
                    intro _ w19 h21
                    replace h21 : St w0 F0 [boxC b2 93 [.string ⟨⟨([] : List UInt8)⟩⟩, .string ⟨⟨([] : List UInt8)⟩⟩, .bool false], boxC b1 93 [.string ⟨⟨(gt a0 (w64 (a1 - 1)))⟩⟩, .string ⟨⟨a2.2.1⟩⟩, .bool a2.2.2]] _ _ := h21
                    refine RJ.run ttok 1 rfl ?_
                    refine RJ.fin [(6, .pointer (some ⟨b2, 0, none⟩)), (7, .bool false)] rfl ?_
                    refine J.ret ?_
                    obtain rfl := Option.some.inj H
                    exact ⟨_, _, _, (results_two rfl (rvcons (RV.cell ttok 0 h21 rfl rfl rfl rfl) (rvcons (RV.tmp rfl) rvnil)) rfl), ⟨rfl, rfl⟩, h21.only [] rfl⟩
                  · replace H := ite_f c10 H
                    refine J.skip ?_
                    refine J.seq ?_
                    refine J.region ?_
                    refine RJ.q rfl rfl (q_load_box ttok 0 (fun w e => e ▸ h20.wh) rfl rfl rfl rfl rfl) ?_
                    refine RJ.op rfl rfl (op_store ttok 1 rfl h20 rfl rfl rfl rfl rfl rfl rfl) ?_
                    intro _ w20 h22
                    replace h22 : St w0 F0 [boxC b2 93 [.string ⟨⟨(gt a0 (w64 (a1 - 1)))⟩⟩, .string ⟨⟨a2.2.1⟩⟩, .bool a2.2.2], boxC b1 93 [.string ⟨⟨(gt a0 (w64 (a1 - 1)))⟩⟩, .string ⟨⟨a2.2.1⟩⟩, .bool a2.2.2]] _ _ := h22
                    refine RJ.run ttok 1 rfl ?_
                    refine RJ.fin [(6, .pointer (some ⟨b2, 0, none⟩)), (7, .bool true)] rfl ?_
                    refine J.ret ?_
                    obtain rfl := Option.some.inj H
                    exact ⟨_, _, _, (results_two rfl (rvcons (RV.cell ttok 0 h22 rfl rfl rfl rfl) (rvcons (RV.tmp rfl) rvnil)) rfl), ⟨rfl, rfl⟩, h22.only [] rfl⟩
          · replace H := ite_f c5 H
            refine HJ.know (t := 40) rfl (congrArg Value.bool c5) ?_
            refine HJ.run ttok rfl [5, 6, 7, 8, 9, 10, 11, 12, 13, 14, 15, 16, 17] rfl ?_
            refine HJ.fin [(0, .slice A1 a0.length c_1), (1, .int .i64 a1), (5, .pointer (some ⟨b1, 0, none⟩)), (6, .pointer (some ⟨b2, 0, none⟩)), (53, .bool false)] rfl rfl ?_
            refine J.condF rfl ?_
            refine J.skip ?_
            refine J.seq ?_
            refine J.seq ?_
            refine J.region ?_
            refine RJ.run ttok 1 rfl ?_
            refine RJ.q rfl rfl (q_load_box ttok 0 (fun w e => e ▸ h8.wh) rfl rfl rfl rfl rfl) ?_
            refine RJ.fin [(5, .pointer (some ⟨b1, 0, none⟩)), (6, .pointer (some ⟨b2, 0, none⟩)), (61, .bool a2.2.2)] rfl ?_
            refine J.cond rfl (fun c11 => ?_) (fun c11 => ?_)
            · replace H := ite_t c11 H
              refine J.region ?_
              refine RJ.run ttok 1 rfl ?_
              refine RJ.op rfl rfl (op_store ttok 0 rfl h8 rfl rfl rfl rfl rfl rfl rfl) ?_
              intro _ w21 h23
              replace h23 : St w0 F0 [boxC b1 93 [.string ⟨⟨(gt a0 (w64 (a1 - 1)))⟩⟩, .string ⟨⟨([] : List UInt8)⟩⟩, .bool a2.2.2], boxC b2 93 [.string ⟨⟨([] : List UInt8)⟩⟩, .string ⟨⟨([] : List UInt8)⟩⟩, .bool false]] _ _ := h23
              refine RJ.fin [(5, .pointer (some ⟨b1, 0, none⟩)), (6, .pointer (some ⟨b2, 0, none⟩))] rfl ?_
              refine J.seq ?_
              refine J.seq ?_
              refine J.region ?_
              refine RJ.q rfl rfl (q_load_box ttok 0 (fun w e => e ▸ h23.wh) rfl rfl rfl rfl rfl) ?_
              obtain ⟨r6, q6, H⟩ := bind_t H
              refine RJ.op rfl rfl (op_call [] (sluicegateref01_Empty.spec q6) rfl rfl rfl h23 rfl gnil) ?_
              rintro _ w22 ⟨_, ⟨rfl, rfl⟩, h24⟩
              replace h24 : St w0 F0 [boxC b1 93 [.string ⟨⟨(gt a0 (w64 (a1 - 1)))⟩⟩, .string ⟨⟨([] : List UInt8)⟩⟩, .bool a2.2.2], boxC b2 93 [.string ⟨⟨([] : List UInt8)⟩⟩, .string ⟨⟨([] : List UInt8)⟩⟩, .bool false]] _ _ := h24
              refine RJ.fin [(5, .pointer (some ⟨b1, 0, none⟩)), (6, .pointer (some ⟨b2, 0, none⟩)), (64, .bool r6)] rfl ?_
              refine J.cond rfl (fun c12 => ?_) (fun c12 => ?_)
              · replace H := ite_t c12 H
                refine J.seq ?_
                refine J.region ?_
                refine RJ.run ttok 1 rfl ?_
                refine RJ.op rfl rfl (op_store ttok 1 rfl h24 rfl rfl rfl rfl rfl rfl rfl) ?_
                intro _ w23 h25
                replace h25 : St w0 F0 [boxC b2 93 [.string ⟨⟨([] : List UInt8)⟩⟩, .string ⟨⟨([] : List UInt8)⟩⟩, .bool false], boxC b1 93 [.string ⟨⟨(gt a0 (w64 (a1 - 1)))⟩⟩, .string ⟨⟨([] : List UInt8)⟩⟩, .bool a2.2.2]] _ _ := h25
                refine RJ.run ttok 1 rfl ?_
                refine RJ.fin [(6, .pointer (some ⟨b2, 0, none⟩)), (7, .bool false)] rfl ?_
                refine J.ret ?_
                obtain rfl := Option.some.inj H
                exact ⟨_, _, _, (results_two rfl (rvcons (RV.cell ttok 0 h25 rfl rfl rfl rfl) (rvcons (RV.tmp rfl) rvnil)) rfl), ⟨rfl, rfl⟩, h25.only [] rfl⟩
              · replace H := ite_f c12 H
                refine J.skip ?_
                refine J.seq ?_
                refine J.region ?_
                refine RJ.q rfl rfl (q_load_box ttok 0 (fun w e => e ▸ h24.wh) rfl rfl rfl rfl rfl) ?_
                refine RJ.op rfl rfl (op_store ttok 1 rfl h24 rfl rfl rfl rfl rfl rfl rfl) ?_
                intro _ w24 h26
                replace h26 : St w0 F0 [boxC b2 93 [.string ⟨⟨(gt a0 (w64 (a1 - 1)))⟩⟩, .string ⟨⟨([] : List UInt8)⟩⟩, .bool a2.2.2], boxC b1 93 [.string ⟨⟨(gt a0 (w64 (a1 - 1)))⟩⟩, .string ⟨⟨([] : List UInt8)⟩⟩, .bool a2.2.2]] _ _ := h26
                refine RJ.run ttok 1 rfl ?_
                refine RJ.fin [(6, .pointer (some ⟨b2, 0, none⟩)), (7, .bool true)] rfl ?_
                refine J.ret ?_
                obtain rfl := Option.some.inj H
                exact ⟨_, _, _, (results_two rfl (rvcons (RV.cell ttok 0 h26 rfl rfl rfl rfl) (rvcons (RV.tmp rfl) rvnil)) rfl), ⟨rfl, rfl⟩, h26.only [] rfl⟩
            · replace H := ite_f c11 H
              refine J.skip ?_
              refine J.seq ?_
              refine J.seq ?_
              refine J.region ?_
              refine RJ.q rfl rfl (q_load_box ttok 0 (fun w e => e ▸ h8.wh) rfl rfl rfl rfl rfl) ?_
              obtain ⟨r7, q7, H⟩ := bind_t H
              refine RJ.op rfl rfl (op_call [] (sluicegateref01_Empty.spec q7) rfl rfl rfl h8 rfl gnil) ?_
              rintro _ w25 ⟨_, ⟨rfl, rfl⟩, h27⟩
              replace h27 : St w0 F0 [boxC b1 93 [.string ⟨⟨(gt a0 (w64 (a1 - 1)))⟩⟩, .string ⟨⟨a2.2.1⟩⟩, .bool a2.2.2], boxC b2 93 [.string ⟨⟨([] : List UInt8)⟩⟩, .string ⟨⟨([] : List UInt8)⟩⟩, .bool false]] _ _ := h27
              refine RJ.fin [(5, .pointer (some ⟨b1, 0, none⟩)), (6, .pointer (some ⟨b2, 0, none⟩)), (64, .bool r7)] rfl ?_
              refine J.cond rfl (fun c13 => ?_) (fun c13 => ?_)
              · replace H := ite_t c13 H
                refine J.seq ?_
                refine J.region ?_
                refine RJ.run ttok 1 rfl ?_
                refine RJ.op rfl rfl (op_store ttok 1 rfl h27 rfl rfl rfl rfl rfl rfl rfl) ?_
                intro _ w26 h28
                replace h28 : St w0 F0 [boxC b2 93 [.string ⟨⟨([] : List UInt8)⟩⟩, .string ⟨⟨([] : List UInt8)⟩⟩, .bool false], boxC b1 93 [.string ⟨⟨(gt a0 (w64 (a1 - 1)))⟩⟩, .string ⟨⟨a2.2.1⟩⟩, .bool a2.2.2]] _ _ := h28
                refine RJ.run ttok 1 rfl ?_
                refine RJ.fin [(6, .pointer (some ⟨b2, 0, none⟩)), (7, .bool false)] rfl ?_
                refine J.ret ?_
                obtain rfl := Option.some.inj H
                exact ⟨_, _, _, (results_two rfl (rvcons (RV.cell ttok 0 h28 rfl rfl rfl rfl) (rvcons (RV.tmp rfl) rvnil)) rfl), ⟨rfl, rfl⟩, h28.only [] rfl⟩
              · replace H := ite_f c13 H
                refine J.skip ?_
                refine J.seq ?_
                refine J.region ?_
                refine RJ.q rfl rfl (q_load_box ttok 0 (fun w e => e ▸ h27.wh) rfl rfl rfl rfl rfl) ?_
                refine RJ.op rfl rfl (op_store ttok 1 rfl h27 rfl rfl rfl rfl rfl rfl rfl) ?_
                intro _ w27 h29
                replace h29 : St w0 F0 [boxC b2 93 [.string ⟨⟨(gt a0 (w64 (a1 - 1)))⟩⟩, .string ⟨⟨a2.2.1⟩⟩, .bool a2.2.2], boxC b1 93 [.string ⟨⟨(gt a0 (w64 (a1 - 1)))⟩⟩, .string ⟨⟨a2.2.1⟩⟩, .bool a2.2.2]] _ _ := h29
                refine RJ.run ttok 1 rfl ?_
                refine RJ.fin [(6, .pointer (some ⟨b2, 0, none⟩)), (7, .bool true)] rfl ?_
                refine J.ret ?_
                obtain rfl := Option.some.inj H
                exact ⟨_, _, _, (results_two rfl (rvcons (RV.cell ttok 0 h29 rfl rfl rfl rfl) (rvcons (RV.tmp rfl) rvnil)) rfl), ⟨rfl, rfl⟩, h29.only [] rfl⟩
        · replace H := ite_f c4 H
          refine J.skip ?_
          refine J.seq ?_
          refine J.seq ?_
          refine J.heldSt mix h6 ?_
          have h30 := h6.drew
          refine HJ.run ttok rfl [0, 1, 2, 3, 4] rfl ?_
          rcases Bool.eq_false_or_eq_true (decide (a1 < (a0.length : Int))) with c14 | c14
          · replace H := ite_t c14 H
            refine HJ.know (t := 40) rfl (congrArg Value.bool c14) ?_
            refine HJ.run ttok rfl [5] rfl ?_
            refine HJ.q (i := 6) rfl rfl rfl rfl rfl rfl (q_load_box ttok 1 (fun w e => e) rfl rfl rfl rfl rfl) ?_
            refine HJ.run ttok rfl [7] rfl ?_
            rcases Bool.eq_false_or_eq_true a2.2.2 with c15 | c15
            · replace H := ite_t c15 H
              refine HJ.know (t := 43) rfl (congrArg Value.bool c15) ?_
              refine HJ.run ttok rfl [8, 9, 10, 11, 12, 13, 14, 15, 16, 17] rfl ?_
              refine HJ.fin [(0, .slice A1 a0.length c_1), (1, .int .i64 a1), (5, .pointer (some ⟨b1, 0, none⟩)), (6, .pointer (some ⟨b2, 0, none⟩)), (53, .bool true)] rfl rfl ?_
              refine J.condT rfl ?_
              refine J.seq ?_
              refine J.region ?_
              refine RJ.run ttok 2 rfl ?_
              obtain ⟨⟨p7, p8⟩, H⟩ := guard_t H
              refine RJ.q rfl rfl (q_index ttok rfl rfl rfl rfl rfl e1 p7 p8) ?_
              refine RJ.q rfl rfl (q_load_elem (f := 0) ttok rfl (fun w e => e ▸ h30.wh) (Gives.self 2 rfl) p7 p8 rfl rfl rfl rfl rfl) ?_
              refine RJ.run ttok 1 rfl ?_
              refine RJ.op rfl rfl (op_store ttok 1 rfl h30 rfl rfl rfl rfl rfl rfl rfl) ?_
              intro _ w28 h31
              replace h31 : St w0 F0 [boxC b1 93 [.string ⟨⟨a2.1⟩⟩, .string ⟨⟨(gt a0 a1)⟩⟩, .bool a2.2.2], boxC b2 93 [.string ⟨⟨([] : List UInt8)⟩⟩, .string ⟨⟨([] : List UInt8)⟩⟩, .bool false]] _ _ := h31
              refine RJ.fin [(5, .pointer (some ⟨b1, 0, none⟩)), (6, .pointer (some ⟨b2, 0, none⟩))] rfl ?_
              refine J.region ?_
              refine RJ.run ttok 1 rfl ?_
              refine RJ.op rfl rfl (op_store ttok 0 rfl h31 rfl rfl rfl rfl rfl rfl rfl) ?_
              intro _ w29 h32
              replace h32 : St w0 F0 [boxC b1 93 [.string ⟨⟨a2.1⟩⟩, .string ⟨⟨(gt a0 a1)⟩⟩, .bool false], boxC b2 93 [.string ⟨⟨([] : List UInt8)⟩⟩, .string ⟨⟨([] : List UInt8)⟩⟩, .bool false]] _ _ := h32
              refine RJ.fin [(5, .pointer (some ⟨b1, 0, none⟩)), (6, .pointer (some ⟨b2, 0, none⟩))] rfl ?_
              refine J.seq ?_
              refine J.seq ?_
              refine J.region ?_
              refine RJ.run ttok 1 rfl ?_
              refine RJ.q rfl rfl (q_load_box ttok 0 (fun w e => e ▸ h32.wh) rfl rfl rfl rfl rfl) ?_
              refine RJ.fin [(5, .pointer (some ⟨b1, 0, none⟩)), (6, .pointer (some ⟨b2, 0, none⟩)), (61, .bool false)] rfl ?_
              refine J.condF rfl ?_
              refine J.skip ?_
              refine J.seq ?_
              refine J.seq ?_
              refine J.region ?_
              refine RJ.q rfl rfl (q_load_box ttok 0 (fun w e => e ▸ h32.wh) rfl rfl rfl rfl rfl) ?_
              obtain ⟨r8, q8, H⟩ := bind_t H
              refine RJ.op rfl rfl (op_call [] (sluicegateref01_Empty.spec q8) rfl rfl rfl h32 rfl gnil) ?_
              rintro _ w30 ⟨_, ⟨rfl, rfl⟩, h33⟩
              replace h33 : St w0 F0 [boxC b1 93 [.string ⟨⟨a2.1⟩⟩, .string ⟨⟨(gt a0 a1)⟩⟩, .bool false], boxC b2 93 [.string ⟨⟨([] : List UInt8)⟩⟩, .string ⟨⟨([] : List UInt8)⟩⟩, .bool false]] _ _ := h33
              refine RJ.fin [(5, .pointer (some ⟨b1, 0, none⟩)), (6, .pointer (some ⟨b2, 0, none⟩)), (64, .bool r8)] rfl ?_
              refine J.cond rfl (fun c16 => ?_) (fun c16 => ?_)
              · replace H := ite_t c16 H
                refine J.seq ?_
                refine J.region ?_
                refine RJ.run ttok 1 rfl ?_
                refine RJ.op rfl rfl (op_store ttok 1 rfl h33 rfl rfl rfl rfl rfl rfl rfl) ?_
                intro _ w31 h34
                replace h34 : St w0 F0 [boxC b2 93 [.string ⟨⟨([] : List UInt8)⟩⟩, .string ⟨⟨([] : List UInt8)⟩⟩, .bool false], boxC b1 93 [.string ⟨⟨a2.1⟩⟩, .string ⟨⟨(gt a0 a1)⟩⟩, .bool false]] _ _ := h34
                refine RJ.run ttok 1 rfl ?_
                refine RJ.fin [(6, .pointer (some ⟨b2, 0, none⟩)), (7, .bool false)] rfl ?_
                refine J.ret ?_
                obtain rfl := Option.some.inj H
                exact ⟨_, _, _, (results_two rfl (rvcons (RV.cell ttok 0 h34 rfl rfl rfl rfl) (rvcons (RV.tmp rfl) rvnil)) rfl), ⟨rfl, rfl⟩, h34.only [] rfl⟩
              · replace H := ite_f c16 H
                refine J.skip ?_
                refine J.seq ?_
                refine J.region ?_
                refine RJ.q rfl rfl (q_load_box ttok 0 (fun w e => e ▸ h33.wh) rfl rfl rfl rfl rfl) ?_
                refine RJ.op rfl rfl (op_store ttok 1 rfl h33 rfl rfl rfl rfl rfl rfl rfl) ?_
                intro _ w32 h35
                replace h35 : St w0 F0 [boxC b2 93 [.string ⟨⟨a2.1⟩⟩, .string ⟨⟨(gt a0 a1)⟩⟩, .bool false], boxC b1 93 [.string ⟨⟨a2.1⟩⟩, .string ⟨⟨(gt a0 a1)⟩⟩, .bool false]] _ _ := h35
                refine RJ.run ttok 1 rfl ?_
                refine RJ.fin [(6, .pointer (some ⟨b2, 0, none⟩)), (7, .bool true)] rfl ?_
                refine J.ret ?_
                obtain rfl := Option.some.inj H
                exact ⟨_, _, _, (results_two rfl (rvcons (RV.cell ttok 0 h35 rfl rfl rfl rfl) (rvcons (RV.tmp rfl) rvnil)) rfl), ⟨rfl, rfl⟩, h35.only [] rfl⟩
            · replace H := ite_f c15 H
              refine HJ.know (t := 43) rfl (congrArg Value.bool c15) ?_
              refine HJ.run ttok rfl [8, 9, 12] rfl ?_
              obtain ⟨⟨p9, p10⟩, H⟩ := guard_t H
              refine HJ.q (i := 10) rfl rfl rfl rfl rfl rfl (q_index ttok rfl rfl rfl rfl rfl e1 p9 p10) ?_
              refine HJ.q (i := 11) rfl rfl rfl rfl rfl rfl (q_load_elem (f := 0) ttok rfl (fun w e => e) (Gives.self 2 rfl) p9 p10 rfl rfl rfl rfl rfl) ?_
              refine HJ.q (i := 13) rfl rfl rfl rfl rfl rfl (q_load_box ttok 1 (fun w e => e) rfl rfl rfl rfl rfl) ?_
              obtain ⟨r9, q9, H⟩ := bind_t H
              refine HJ.op (i := 14) rfl rfl rfl rfl rfl (op_call [] (sluicegateref01_Compare.spec q9) rfl rfl rfl h30 rfl gnil) ?_
              rintro _ w33 ⟨_, ⟨rfl, rfl⟩, h36⟩
              replace h36 : St w0 F0 [boxC b2 93 [.string ⟨⟨([] : List UInt8)⟩⟩, .string ⟨⟨([] : List UInt8)⟩⟩, .bool false], boxC b1 93 [.string ⟨⟨a2.1⟩⟩, .string ⟨⟨a2.2.1⟩⟩, .bool a2.2.2]] _ _ := h36
              refine ⟨⟨[], h36⟩, ?_⟩
              refine HJ.run ttok rfl [15, 16, 17] rfl ?_
              refine HJ.fin [(0, .slice A1 a0.length c_1), (1, .int .i64 a1), (5, .pointer (some ⟨b1, 0, none⟩)), (6, .pointer (some ⟨b2, 0, none⟩)), (53, .bool (decide (r9 < 0)))] rfl rfl ?_
              refine J.cond rfl (fun c17 => ?_) (fun c17 => ?_)
              · replace H := ite_t c17 H
                refine J.seq ?_
                refine J.region ?_
                refine RJ.run ttok 2 rfl ?_
                refine RJ.q rfl rfl (q_index ttok rfl rfl rfl rfl rfl e1 p9 p10) ?_
                refine RJ.q rfl rfl (q_load_elem (f := 0) ttok rfl (fun w e => e ▸ h36.wh) (Gives.self 2 rfl) p9 p10 rfl rfl rfl rfl rfl) ?_
                refine RJ.run ttok 1 rfl ?_
                refine RJ.op rfl rfl (op_store ttok 1 rfl h36 rfl rfl rfl rfl rfl rfl rfl) ?_
                intro _ w34 h37
                replace h37 : St w0 F0 [boxC b1 93 [.string ⟨⟨a2.1⟩⟩, .string ⟨⟨(gt a0 a1)⟩⟩, .bool a2.2.2], boxC b2 93 [.string ⟨⟨([] : List UInt8)⟩⟩, .string ⟨⟨([] : List UInt8)⟩⟩, .bool false]] _ _ := h37
                refine RJ.fin [(5, .pointer (some ⟨b1, 0, none⟩)), (6, .pointer (some ⟨b2, 0, none⟩))] rfl ?_
                refine J.region ?_
                refine RJ.run ttok 1 rfl ?_
                refine RJ.op rfl rfl (op_store ttok 0 rfl h37 rfl rfl rfl rfl rfl rfl rfl) ?_
                intro _ w35 h38
                replace h38 : St w0 F0 [boxC b1 93 [.string ⟨⟨a2.1⟩⟩, .string ⟨⟨(gt a0 a1)⟩⟩, .bool false], boxC b2 93 [.string ⟨⟨([] : List UInt8)⟩⟩, .string ⟨⟨([] : List UInt8)⟩⟩, .bool false]] _ _ := h38
                refine RJ.fin [(5, .pointer (some ⟨b1, 0, none⟩)), (6, .pointer (some ⟨b2, 0, none⟩))] rfl ?_
                refine J.seq ?_
                refine J.seq ?_
                refine J.region ?_
                refine RJ.run ttok 1 rfl ?_
                refine RJ.q rfl rfl (q_load_box ttok 0 (fun w e => e ▸ h38.wh) rfl rfl rfl rfl rfl) ?_
                refine RJ.fin [(5, .pointer (some ⟨b1, 0, none⟩)), (6, .pointer (some ⟨b2, 0, none⟩)), (61, .bool false)] rfl ?_
                refine J.condF rfl ?_
                refine J.skip ?_
                refine J.seq ?_
                refine J.seq ?_
                refine J.region ?_
                refine RJ.q rfl rfl (q_load_box ttok 0 (fun w e => e ▸ h38.wh) rfl rfl rfl rfl rfl) ?_
                obtain ⟨r10, q10, H⟩ := bind_t H
                refine RJ.op rfl rfl (op_call [] (sluicegateref01_Empty.spec q10) rfl rfl rfl h38 rfl gnil) ?_
                rintro _ w36 ⟨_, ⟨rfl, rfl⟩, h39⟩
                replace h39 : St w0 F0 [boxC b1 93 [.string ⟨⟨a2.1⟩⟩, .string ⟨⟨(gt a0 a1)⟩⟩, .bool false], boxC b2 93 [.string ⟨⟨([] : List UInt8)⟩⟩, .string ⟨⟨([] : List UInt8)⟩⟩, .bool false]] _ _ := h39
                refine RJ.fin [(5, .pointer (some ⟨b1, 0, none⟩)), (6, .pointer (some ⟨b2, 0, none⟩)), (64, .bool r10)] rfl ?_
                refine J.cond rfl (fun c18 => ?_) (fun c18 => ?_)
                · replace H := ite_t c18 H
                  refine J.seq ?_
                  refine J.region ?_
                  refine RJ.run ttok 1 rfl ?_
                  refine RJ.op rfl rfl (op_store ttok 1 rfl h39 rfl rfl rfl rfl rfl rfl rfl) ?_
                  intro _ w37 h40
                  replace h40 : St w0 F0 [boxC b2 93 [.string ⟨⟨([] : List UInt8)⟩⟩, .string ⟨⟨([] : List UInt8)⟩⟩, .bool false], boxC b1 93 [.string ⟨⟨a2.1⟩⟩, .string ⟨⟨(gt a0 a1)⟩⟩, .bool false]] _ _ := h40
                  refine RJ.run ttok 1 rfl ?_
                  refine RJ.fin [(6, .pointer (some ⟨b2, 0, none⟩)), (7, .bool false)] rfl ?_
                  refine J.ret ?_
                  obtain rfl := Option.some.inj H
                  exact ⟨_, _, _, (results_two rfl (rvcons (RV.cell ttok 0 h40 rfl rfl rfl rfl) (rvcons (RV.tmp rfl) rvnil)) rfl), ⟨rfl, rfl⟩, h40.only [] rfl⟩
                · replace H := ite_f c18 H
                  refine J.skip ?_
                  refine J.seq ?_
                  refine J.region ?_
                  refine RJ.q rfl rfl (q_load_box ttok 0 (fun w e => e ▸ h39.wh) rfl rfl rfl rfl rfl) ?_
                  refine RJ.op rfl rfl (op_store ttok 1 rfl h39 rfl rfl rfl rfl rfl rfl rfl) ?_
                  intro _ w38 h41
                  replace h41 : St w0 F0 [boxC b2 93 [.string ⟨⟨a2.1⟩⟩, .string ⟨⟨(gt a0 a1)⟩⟩, .bool false], boxC b1 93 [.string ⟨⟨a2.1⟩⟩, .string ⟨⟨(gt a0 a1)⟩⟩, .bool false]] _ _ := h41
                  refine RJ.run ttok 1 rfl ?_
                  refine RJ.fin [(6, .pointer (some ⟨b2, 0, none⟩)), (7, .bool true)] rfl ?_
                  refine J.ret ?_
                  obtain rfl := Option.some.inj H
                  exact ⟨_, _, _, (results_two rfl (rvcons (RV.cell ttok 0 h41 rfl rfl rfl rfl) (rvcons (RV.tmp rfl) rvnil)) rfl), ⟨rfl, rfl⟩, h41.only [] rfl⟩
              · replace H := ite_f c17 H
                refine J.skip ?_
                refine J.seq ?_
                refine J.seq ?_
                refine J.region ?_
                refine RJ.run ttok 1 rfl ?_
                refine RJ.q rfl rfl (q_load_box ttok 1 (fun w e => e ▸ h36.wh) rfl rfl rfl rfl rfl) ?_
                refine RJ.fin [(5, .pointer (some ⟨b1, 0, none⟩)), (6, .pointer (some ⟨b2, 0, none⟩)), (61, .bool a2.2.2)] rfl ?_
                refine J.cond rfl (fun e => ?_) (fun e => ?_)
                · rw [c15] at e; cases e
                · refine J.skip ?_
                  refine J.seq ?_
                  refine J.seq ?_
                  refine J.region ?_
                  refine RJ.q rfl rfl (q_load_box ttok 1 (fun w e => e ▸ h36.wh) rfl rfl rfl rfl rfl) ?_
                  obtain ⟨r11, q11, H⟩ := bind_t H
                  refine RJ.op rfl rfl (op_call [] (sluicegateref01_Empty.spec q11) rfl rfl rfl h36 rfl gnil) ?_
                  rintro _ w39 ⟨_, ⟨rfl, rfl⟩, h42⟩
                  replace h42 : St w0 F0 [boxC b2 93 [.string ⟨⟨([] : List UInt8)⟩⟩, .string ⟨⟨([] : List UInt8)⟩⟩, .bool false], boxC b1 93 [.string ⟨⟨a2.1⟩⟩, .string ⟨⟨a2.2.1⟩⟩, .bool a2.2.2]] _ _ := h42
                  refine RJ.fin [(5, .pointer (some ⟨b1, 0, none⟩)), (6, .pointer (some ⟨b2, 0, none⟩)), (64, .bool r11)] rfl ?_
                  refine J.cond rfl (fun c19 => ?_) (fun c19 => ?_)
                  · replace H := ite_t c19 H
                    refine J.seq ?_
                    refine J.region ?_
                    refine RJ.run ttok 1 rfl ?_
                    refine RJ.op rfl rfl (op_store ttok 0 rfl h42 rfl rfl rfl rfl rfl rfl rfl) ?_
                    intro _ w40 h43
                    replace h43 : St w0 F0 [boxC b2 93 [.string ⟨⟨([] : List UInt8)⟩⟩, .string ⟨⟨([] : List UInt8)⟩⟩, .bool false], boxC b1 93 [.string ⟨⟨a2.1⟩⟩, .string ⟨⟨a2.2.1⟩⟩, .bool a2.2.2]] _ _ := h43
                    refine RJ.run ttok 1 rfl ?_
                    refine RJ.fin [(6, .pointer (some ⟨b2, 0, none⟩)), (7, .bool false)] rfl ?_
                    refine J.ret ?_
                    obtain rfl := Option.some.inj H
                    exact ⟨_, _, _, (results_two rfl (rvcons (RV.cell ttok 0 h43 rfl rfl rfl rfl) (rvcons (RV.tmp rfl) rvnil)) rfl), ⟨rfl, rfl⟩, h43.only [] rfl⟩
                  · replace H := ite_f c19 H
                    refine J.skip ?_
                    refine J.seq ?_
                    refine J.region ?_
                    refine RJ.q rfl rfl (q_load_box ttok 1 (fun w e => e ▸ h42.wh) rfl rfl rfl rfl rfl) ?_
                    refine RJ.op rfl rfl (op_store ttok 0 rfl h42 rfl rfl rfl rfl rfl rfl rfl) ?_
                    intro _ w41 h44
                    replace h44 : St w0 F0 [boxC b2 93 [.string ⟨⟨a2.1⟩⟩, .string ⟨⟨a2.2.1⟩⟩, .bool a2.2.2], boxC b1 93 [.string ⟨⟨a2.1⟩⟩, .string ⟨⟨a2.2.1⟩⟩, .bool a2.2.2]] _ _ := h44
                    refine RJ.run ttok 1 rfl ?_
                    refine RJ.fin [(6, .pointer (some ⟨b2, 0, none⟩)), (7, .bool true)] rfl ?_
                    refine J.ret ?_
                    obtain rfl := Option.some.inj H
                    exact ⟨_, _, _, (results_two rfl (rvcons (RV.cell ttok 0 h44 rfl rfl rfl rfl) (rvcons (RV.tmp rfl) rvnil)) rfl), ⟨rfl, rfl⟩, h44.only [] rfl⟩
          · replace H := ite_f c14 H
            refine HJ.know (t := 40) rfl (congrArg Value.bool c14) ?_
            refine HJ.run ttok rfl [5, 6, 7, 8, 9, 10, 11, 12, 13, 14, 15, 16, 17] rfl ?_
            refine HJ.fin [(0, .slice A1 a0.length c_1), (1, .int .i64 a1), (5, .pointer (some ⟨b1, 0, none⟩)), (6, .pointer (some ⟨b2, 0, none⟩)), (53, .bool false)] rfl rfl ?_
            refine J.condF rfl ?_
            refine J.skip ?_
            refine J.seq ?_
            refine J.seq ?_
            refine J.region ?_
            refine RJ.run ttok 1 rfl ?_
            refine RJ.q rfl rfl (q_load_box ttok 1 (fun w e => e ▸ h30.wh) rfl rfl rfl rfl rfl) ?_
            refine RJ.fin [(5, .pointer (some ⟨b1, 0, none⟩)), (6, .pointer (some ⟨b2, 0, none⟩)), (61, .bool a2.2.2)] rfl ?_
            refine J.cond rfl (fun c20 => ?_) (fun c20 => ?_)
            · replace H := ite_t c20 H
              refine J.region ?_
              refine RJ.run ttok 1 rfl ?_
              refine RJ.op rfl rfl (op_store ttok 1 rfl h30 rfl rfl rfl rfl rfl rfl rfl) ?_
              intro _ w42 h45
              replace h45 : St w0 F0 [boxC b1 93 [.string ⟨⟨a2.1⟩⟩, .string ⟨⟨([] : List UInt8)⟩⟩, .bool a2.2.2], boxC b2 93 [.string ⟨⟨([] : List UInt8)⟩⟩, .string ⟨⟨([] : List UInt8)⟩⟩, .bool false]] _ _ := h45
              refine RJ.fin [(5, .pointer (some ⟨b1, 0, none⟩)), (6, .pointer (some ⟨b2, 0, none⟩))] rfl ?_
              refine J.seq ?_
              refine J.seq ?_
              refine J.region ?_
              refine RJ.q rfl rfl (q_load_box ttok 0 (fun w e => e ▸ h45.wh) rfl rfl rfl rfl rfl) ?_
              obtain ⟨r12, q12, H⟩ := bind_t H
              refine RJ.op rfl rfl (op_call [] (sluicegateref01_Empty.spec q12) rfl rfl rfl h45 rfl gnil) ?_
              rintro _ w43 ⟨_, ⟨rfl, rfl⟩, h46⟩
              replace h46 : St w0 F0 [boxC b1 93 [.string ⟨⟨a2.1⟩⟩, .string ⟨⟨([] : List UInt8)⟩⟩, .bool a2.2.2], boxC b2 93 [.string ⟨⟨([] : List UInt8)⟩⟩, .string ⟨⟨([] : List UInt8)⟩⟩, .bool false]] _ _ := h46
              refine RJ.fin [(5, .pointer (some ⟨b1, 0, none⟩)), (6, .pointer (some ⟨b2, 0, none⟩)), (64, .bool r12)] rfl ?_
              refine J.cond rfl (fun c21 => ?_) (fun c21 => ?_)
              · replace H := ite_t c21 H
                refine J.seq ?_
                refine J.region ?_
                refine RJ.run ttok 1 rfl ?_
                refine RJ.op rfl rfl (op_store ttok 1 rfl h46 rfl rfl rfl rfl rfl rfl rfl) ?_
                intro _ w44 h47
                replace h47 : St w0 F0 [boxC b2 93 [.string ⟨⟨([] : List UInt8)⟩⟩, .string ⟨⟨([] : List UInt8)⟩⟩, .bool false], boxC b1 93 [.string ⟨⟨a2.1⟩⟩, .string ⟨⟨([] : List UInt8)⟩⟩, .bool a2.2.2]] _ _ := h47
                refine RJ.run ttok 1 rfl ?_
                refine RJ.fin [(6, .pointer (some ⟨b2, 0, none⟩)), (7, .bool false)] rfl ?_
                refine J.ret ?_
                obtain rfl := Option.some.inj H
                exact ⟨_, _, _, (results_two rfl (rvcons (RV.cell ttok 0 h47 rfl rfl rfl rfl) (rvcons (RV.tmp rfl) rvnil)) rfl), ⟨rfl, rfl⟩, h47.only [] rfl⟩
              · replace H := ite_f c21 H
                refine J.skip ?_
                refine J.seq ?_
                refine J.region ?_
                refine RJ.q rfl rfl (q_load_box ttok 0 (fun w e => e ▸ h46.wh) rfl rfl rfl rfl rfl) ?_
                refine RJ.op rfl rfl (op_store ttok 1 rfl h46 rfl rfl rfl rfl rfl rfl rfl) ?_
                intro _ w45 h48
                replace h48 : St w0 F0 [boxC b2 93 [.string ⟨⟨a2.1⟩⟩, .string ⟨⟨([] : List UInt8)⟩⟩, .bool a2.2.2], boxC b1 93 [.string ⟨⟨a2.1⟩⟩, .string ⟨⟨([] : List UInt8)⟩⟩, .bool a2.2.2]] _ _ := h48
                refine RJ.run ttok 1 rfl ?_
                refine RJ.fin [(6, .pointer (some ⟨b2, 0, none⟩)), (7, .bool true)] rfl ?_
                refine J.ret ?_
                obtain rfl := Option.some.inj H
                exact ⟨_, _, _, (results_two rfl (rvcons (RV.cell ttok 0 h48 rfl rfl rfl rfl) (rvcons (RV.tmp rfl) rvnil)) rfl), ⟨rfl, rfl⟩, h48.only [] rfl⟩
            · replace H := ite_f c20 H
              refine J.skip ?_
              refine J.seq ?_
              refine J.seq ?_
              refine J.region ?_
              refine RJ.q rfl rfl (q_load_box ttok 1 (fun w e => e ▸ h30.wh) rfl rfl rfl rfl rfl) ?_
              obtain ⟨r13, q13, H⟩ := bind_t H
              refine RJ.op rfl rfl (op_call [] (sluicegateref01_Empty.spec q13) rfl rfl rfl h30 rfl gnil) ?_
              rintro _ w46 ⟨_, ⟨rfl, rfl⟩, h49⟩
              replace h49 : St w0 F0 [boxC b2 93 [.string ⟨⟨([] : List UInt8)⟩⟩, .string ⟨⟨([] : List UInt8)⟩⟩, .bool false], boxC b1 93 [.string ⟨⟨a2.1⟩⟩, .string ⟨⟨a2.2.1⟩⟩, .bool a2.2.2]] _ _ := h49
              refine RJ.fin [(5, .pointer (some ⟨b1, 0, none⟩)), (6, .pointer (some ⟨b2, 0, none⟩)), (64, .bool r13)] rfl ?_
              refine J.cond rfl (fun c22 => ?_) (fun c22 => ?_)
              · replace H := ite_t c22 H
                refine J.seq ?_
                refine J.region ?_
                refine RJ.run ttok 1 rfl ?_
                refine RJ.op rfl rfl (op_store ttok 0 rfl h49 rfl rfl rfl rfl rfl rfl rfl) ?_
                intro _ w47 h50
                replace h50 : St w0 F0 [boxC b2 93 [.string ⟨⟨([] : List UInt8)⟩⟩, .string ⟨⟨([] : List UInt8)⟩⟩, .bool false], boxC b1 93 [.string ⟨⟨a2.1⟩⟩, .string ⟨⟨a2.2.1⟩⟩, .bool a2.2.2]] _ _ := h50
                refine RJ.run ttok 1 rfl ?_
                refine RJ.fin [(6, .pointer (some ⟨b2, 0, none⟩)), (7, .bool false)] rfl ?_
                refine J.ret ?_
                obtain rfl := Option.some.inj H
                exact ⟨_, _, _, (results_two rfl (rvcons (RV.cell ttok 0 h50 rfl rfl rfl rfl) (rvcons (RV.tmp rfl) rvnil)) rfl), ⟨rfl, rfl⟩, h50.only [] rfl⟩
              · replace H := ite_f c22 H
                refine J.skip ?_
                refine J.seq ?_
                refine J.region ?_
                refine RJ.q rfl rfl (q_load_box ttok 1 (fun w e => e ▸ h49.wh) rfl rfl rfl rfl rfl) ?_
                refine RJ.op rfl rfl (op_store ttok 0 rfl h49 rfl rfl rfl rfl rfl rfl rfl) ?_
                intro _ w48 h51
                replace h51 : St w0 F0 [boxC b2 93 [.string ⟨⟨a2.1⟩⟩, .string ⟨⟨a2.2.1⟩⟩, .bool a2.2.2], boxC b1 93 [.string ⟨⟨a2.1⟩⟩, .string ⟨⟨a2.2.1⟩⟩, .bool a2.2.2]] _ _ := h51
                refine RJ.run ttok 1 rfl ?_
                refine RJ.fin [(6, .pointer (some ⟨b2, 0, none⟩)), (7, .bool true)] rfl ?_
                refine J.ret ?_
                obtain rfl := Option.some.inj H
                exact ⟨_, _, _, (results_two rfl (rvcons (RV.cell ttok 0 h51 rfl rfl rfl rfl) (rvcons (RV.tmp rfl) rvnil)) rfl), ⟨rfl, rfl⟩, h51.only [] rfl⟩
      · replace H := ite_f c3 H
        refine HJ.know (t := 19) rfl (congrArg Value.bool c3) ?_
        refine HJ.run ttok rfl [3, 4, 5, 6, 7, 8, 9, 10, 11, 12] rfl ?_
        refine HJ.fin [(0, .slice A1 a0.length c_1), (1, .int .i64 a1), (5, .pointer (some ⟨b1, 0, none⟩)), (6, .pointer (some ⟨b2, 0, none⟩)), (29, .bool false)] rfl rfl ?_
        refine J.condF rfl ?_
        refine J.skip ?_
        refine J.seq ?_
        refine J.seq ?_
        refine J.heldSt mix h5 ?_
        have h52 := h5.drew
        refine HJ.run ttok rfl [0, 1, 2, 3, 4] rfl ?_
        rcases Bool.eq_false_or_eq_true (decide (a1 < (a0.length : Int))) with c23 | c23
        · replace H := ite_t c23 H
          refine HJ.know (t := 40) rfl (congrArg Value.bool c23) ?_
          refine HJ.run ttok rfl [5] rfl ?_
          refine HJ.q (i := 6) rfl rfl rfl rfl rfl rfl (q_load_box ttok 1 (fun w e => e) rfl rfl rfl rfl rfl) ?_
          refine HJ.run ttok rfl [7] rfl ?_
          rcases Bool.eq_false_or_eq_true a2.2.2 with c24 | c24
          · replace H := ite_t c24 H
            refine HJ.know (t := 43) rfl (congrArg Value.bool c24) ?_
            refine HJ.run ttok rfl [8, 9, 10, 11, 12, 13, 14, 15, 16, 17] rfl ?_
            refine HJ.fin [(0, .slice A1 a0.length c_1), (1, .int .i64 a1), (5, .pointer (some ⟨b1, 0, none⟩)), (6, .pointer (some ⟨b2, 0, none⟩)), (53, .bool true)] rfl rfl ?_
            refine J.condT rfl ?_
            refine J.seq ?_
            refine J.region ?_
            refine RJ.run ttok 2 rfl ?_
            obtain ⟨⟨p11, p12⟩, H⟩ := guard_t H
            have e2 := elem_A h52.wh (Gives.self 2 rfl) p11 p12
            refine RJ.q rfl rfl (q_index ttok rfl rfl rfl rfl rfl e2 p11 p12) ?_
            refine RJ.q rfl rfl (q_load_elem (f := 0) ttok rfl (fun w e => e ▸ h52.wh) (Gives.self 2 rfl) p11 p12 rfl rfl rfl rfl rfl) ?_
            refine RJ.run ttok 1 rfl ?_
            refine RJ.op rfl rfl (op_store ttok 1 rfl h52 rfl rfl rfl rfl rfl rfl rfl) ?_
            intro _ w49 h53
            replace h53 : St w0 F0 [boxC b1 93 [.string ⟨⟨a2.1⟩⟩, .string ⟨⟨(gt a0 a1)⟩⟩, .bool a2.2.2], boxC b2 93 [.string ⟨⟨([] : List UInt8)⟩⟩, .string ⟨⟨([] : List UInt8)⟩⟩, .bool false]] _ _ := h53
            refine RJ.fin [(5, .pointer (some ⟨b1, 0, none⟩)), (6, .pointer (some ⟨b2, 0, none⟩))] rfl ?_
            refine J.region ?_
            refine RJ.run ttok 1 rfl ?_
            refine RJ.op rfl rfl (op_store ttok 0 rfl h53 rfl rfl rfl rfl rfl rfl rfl) ?_
            intro _ w50 h54
            replace h54 : St w0 F0 [boxC b1 93 [.string ⟨⟨a2.1⟩⟩, .string ⟨⟨(gt a0 a1)⟩⟩, .bool false], boxC b2 93 [.string ⟨⟨([] : List UInt8)⟩⟩, .string ⟨⟨([] : List UInt8)⟩⟩, .bool false]] _ _ := h54
            refine RJ.fin [(5, .pointer (some ⟨b1, 0, none⟩)), (6, .pointer (some ⟨b2, 0, none⟩))] rfl ?_
            refine J.seq ?_
            refine J.seq ?_
            refine J.region ?_
            refine RJ.run ttok 1 rfl ?_
            refine RJ.q rfl rfl (q_load_box ttok 0 (fun w e => e ▸ h54.wh) rfl rfl rfl rfl rfl) ?_
            refine RJ.fin [(5, .pointer (some ⟨b1, 0, none⟩)), (6, .pointer (some ⟨b2, 0, none⟩)), (61, .bool false)] rfl ?_
            refine J.condF rfl ?_
            refine J.skip ?_
            refine J.seq ?_
            refine J.seq ?_
            refine J.region ?_
            refine RJ.q rfl rfl (q_load_box ttok 0 (fun w e => e ▸ h54.wh) rfl rfl rfl rfl rfl) ?_
            obtain ⟨r14, q14, H⟩ := bind_t H
            refine RJ.op rfl rfl (op_call [] (sluicegateref01_Empty.spec q14) rfl rfl rfl h54 rfl gnil) ?_
            rintro _ w51 ⟨_, ⟨rfl, rfl⟩, h55⟩
            replace h55 : St w0 F0 [boxC b1 93 [.string ⟨⟨a2.1⟩⟩, .string ⟨⟨(gt a0 a1)⟩⟩, .bool false], boxC b2 93 [.string ⟨⟨([] : List UInt8)⟩⟩, .string ⟨⟨([] : List UInt8)⟩⟩, .bool false]] _ _ := h55
            refine RJ.fin [(5, .pointer (some ⟨b1, 0, none⟩)), (6, .pointer (some ⟨b2, 0, none⟩)), (64, .bool r14)] rfl ?_
            refine J.cond rfl (fun c25 => ?_) (fun c25 => ?_)
            · replace H := ite_t c25 H
              refine J.seq ?_
              refine J.region ?_
              refine RJ.run ttok 1 rfl ?_
              refine RJ.op rfl rfl (op_store ttok 1 rfl h55 rfl rfl rfl rfl rfl rfl rfl) ?_
              intro _ w52 h56
              replace h56 : St w0 F0 [boxC b2 93 [.string ⟨⟨([] : List UInt8)⟩⟩, .string ⟨⟨([] : List UInt8)⟩⟩, .bool false], boxC b1 93 [.string ⟨⟨a2.1⟩⟩, .string ⟨⟨(gt a0 a1)⟩⟩, .bool false]] _ _ := h56
              refine RJ.run ttok 1 rfl ?_
              refine RJ.fin [(6, .pointer (some ⟨b2, 0, none⟩)), (7, .bool false)] rfl ?_
              refine J.ret ?_
              obtain rfl := Option.some.inj H
              exact ⟨_, _, _, (results_two rfl (rvcons (RV.cell ttok 0 h56 rfl rfl rfl rfl) (rvcons (RV.tmp rfl) rvnil)) rfl), ⟨rfl, rfl⟩, h56.only [] rfl⟩
            · replace H := ite_f c25 H
              refine J.skip ?_
              refine J.seq ?_
              refine J.region ?_
              refine RJ.q rfl rfl (q_load_box ttok 0 (fun w e => e ▸ h55.wh) rfl rfl rfl rfl rfl) ?_
              refine RJ.op rfl rfl (op_store ttok 1 rfl h55 rfl rfl rfl rfl rfl rfl rfl) ?_
              intro _ w53 h57
              replace h57 : St w0 F0 [boxC b2 93 [.string ⟨⟨a2.1⟩⟩, .string ⟨⟨(gt a0 a1)⟩⟩, .bool false], boxC b1 93 [.string ⟨⟨a2.1⟩⟩, .string ⟨⟨(gt a0 a1)⟩⟩, .bool false]] _ _ := h57
              refine RJ.run ttok 1 rfl ?_
              refine RJ.fin [(6, .pointer (some ⟨b2, 0, none⟩)), (7, .bool true)] rfl ?_
              refine J.ret ?_
              obtain rfl := Option.some.inj H
              exact ⟨_, _, _, (results_two rfl (rvcons (RV.cell ttok 0 h57 rfl rfl rfl rfl) (rvcons (RV.tmp rfl) rvnil)) rfl), ⟨rfl, rfl⟩, h57.only [] rfl⟩
          · replace H := ite_f c24 H
            refine HJ.know (t := 43) rfl (congrArg Value.bool c24) ?_
            refine HJ.run ttok rfl [8, 9, 12] rfl ?_
            obtain ⟨⟨p13, p14⟩, H⟩ := guard_t H
            have e3 := elem_A h52.wh (Gives.self 2 rfl) p13 p14
            refine HJ.q (i := 10) rfl rfl rfl rfl rfl rfl (q_index ttok rfl rfl rfl rfl rfl e3 p13 p14) ?_
            refine HJ.q (i := 11) rfl rfl rfl rfl rfl rfl (q_load_elem (f := 0) ttok rfl (fun w e => e) (Gives.self 2 rfl) p13 p14 rfl rfl rfl rfl rfl) ?_
            refine HJ.q (i := 13) rfl rfl rfl rfl rfl rfl (q_load_box ttok 1 (fun w e => e) rfl rfl rfl rfl rfl) ?_
            obtain ⟨r15, q15, H⟩ := bind_t H
            refine HJ.op (i := 14) rfl rfl rfl rfl rfl (op_call [] (sluicegateref01_Compare.spec q15) rfl rfl rfl h52 rfl gnil) ?_
            rintro _ w54 ⟨_, ⟨rfl, rfl⟩, h58⟩
            replace h58 : St w0 F0 [boxC b2 93 [.string ⟨⟨([] : List UInt8)⟩⟩, .string ⟨⟨([] : List UInt8)⟩⟩, .bool false], boxC b1 93 [.string ⟨⟨a2.1⟩⟩, .string ⟨⟨a2.2.1⟩⟩, .bool a2.2.2]] _ _ := h58
            refine ⟨⟨[], h58⟩, ?_⟩
            refine HJ.run ttok rfl [15, 16, 17] rfl ?_
            refine HJ.fin [(0, .slice A1 a0.length c_1), (1, .int .i64 a1), (5, .pointer (some ⟨b1, 0, none⟩)), (6, .pointer (some ⟨b2, 0, none⟩)), (53, .bool (decide (r15 < 0)))] rfl rfl ?_
            refine J.cond rfl (fun c26 => ?_) (fun c26 => ?_)
            · replace H := ite_t c26 H
              refine J.seq ?_
              refine J.region ?_
              refine RJ.run ttok 2 rfl ?_
              refine RJ.q rfl rfl (q_index ttok rfl rfl rfl rfl rfl e3 p13 p14) ?_
              refine RJ.q rfl rfl (q_load_elem (f := 0) ttok rfl (fun w e => e ▸ h58.wh) (Gives.self 2 rfl) p13 p14 rfl rfl rfl rfl rfl) ?_
              refine RJ.run ttok 1 rfl ?_
              refine RJ.op rfl rfl (op_store ttok 1 rfl h58 rfl rfl rfl rfl rfl rfl rfl) ?_
              intro _ w55 h59
              replace h59 : St w0 F0 [boxC b1 93 [.string ⟨⟨a2.1⟩⟩, .string ⟨⟨(gt a0 a1)⟩⟩, .bool a2.2.2], boxC b2 93 [.string ⟨⟨([] : List UInt8)⟩⟩, .string ⟨⟨([] : List UInt8)⟩⟩, .bool false]] _ _ := h59
              refine RJ.fin [(5, .pointer (some ⟨b1, 0, none⟩)), (6, .pointer (some ⟨b2, 0, none⟩))] rfl ?_
              refine J.region ?_
              refine RJ.run ttok 1 rfl ?_
              refine RJ.op rfl rfl (op_store ttok 0 rfl h59 rfl rfl rfl rfl rfl rfl rfl) ?_
              intro _ w56 h60
              replace h60 : St w0 F0 [boxC b1 93 [.string ⟨⟨a2.1⟩⟩, .string ⟨⟨(gt a0 a1)⟩⟩, .bool false], boxC b2 93 [.string ⟨⟨([] : List UInt8)⟩⟩, .string ⟨⟨([] : List UInt8)⟩⟩, .bool false]] _ _ := h60
              refine RJ.fin [(5, .pointer (some ⟨b1, 0, none⟩)), (6, .pointer (some ⟨b2, 0, none⟩))] rfl ?_
              refine J.seq ?_
              refine J.seq ?_
              refine J.region ?_
              refine RJ.run ttok 1 rfl ?_
              refine RJ.q rfl rfl (q_load_box ttok 0 (fun w e => e ▸ h60.wh) rfl rfl rfl rfl rfl) ?_
              refine RJ.fin [(5, .pointer (some ⟨b1, 0, none⟩)), (6, .pointer (some ⟨b2, 0, none⟩)), (61, .bool false)] rfl ?_
              refine J.condF rfl ?_
              refine J.skip ?_
              refine J.seq ?_
              refine J.seq ?_
              refine J.region ?_
              refine RJ.q rfl rfl (q_load_box ttok 0 (fun w e => e ▸ h60.wh) rfl rfl rfl rfl rfl) ?_
              obtain ⟨r16, q16, H⟩ := bind_t H
              refine RJ.op rfl rfl (op_call [] (sluicegateref01_Empty.spec q16) rfl rfl rfl h60 rfl gnil) ?_
              rintro _ w57 ⟨_, ⟨rfl, rfl⟩, h61⟩
              replace h61 : St w0 F0 [boxC b1 93 [.string ⟨⟨a2.1⟩⟩, .string ⟨⟨(gt a0 a1)⟩⟩, .bool false], boxC b2 93 [.string ⟨⟨([] : List UInt8)⟩⟩, .string ⟨⟨([] : List UInt8)⟩⟩, .bool false]] _ _ := h61
              refine RJ.fin [(5, .pointer (some ⟨b1, 0, none⟩)), (6, .pointer (some ⟨b2, 0, none⟩)), (64, .bool r16)] rfl ?_
              refine J.cond rfl (fun c27 => ?_) (fun c27 => ?_)
              · replace H := ite_t c27 H
                refine J.seq ?_
                refine J.region ?_
                refine RJ.run ttok 1 rfl ?_
                refine RJ.op rfl rfl (op_store ttok 1 rfl h61 rfl rfl rfl rfl rfl rfl rfl) ?_
                intro _ w58 h62
                replace h62 : St w0 F0 [boxC b2 93 [.string ⟨⟨([] : List UInt8)⟩⟩, .string ⟨⟨([] : List UInt8)⟩⟩, .bool false], boxC b1 93 [.string ⟨⟨a2.1⟩⟩, .string ⟨⟨(gt a0 a1)⟩⟩, .bool false]] _ _ := h62
                refine RJ.run ttok 1 rfl ?_
                refine RJ.fin [(6, .pointer (some ⟨b2, 0, none⟩)), (7, .bool false)] rfl ?_
                refine J.ret ?_
                obtain rfl := Option.some.inj H
                exact ⟨_, _, _, (results_two rfl (rvcons (RV.cell ttok 0 h62 rfl rfl rfl rfl) (rvcons (RV.tmp rfl) rvnil)) rfl), ⟨rfl, rfl⟩, h62.only [] rfl⟩
              · replace H := ite_f c27 H
                refine J.skip ?_
                refine J.seq ?_
                refine J.region ?_
                refine RJ.q rfl rfl (q_load_box ttok 0 (fun w e => e ▸ h61.wh) rfl rfl rfl rfl rfl) ?_
                refine RJ.op rfl rfl (op_store ttok 1 rfl h61 rfl rfl rfl rfl rfl rfl rfl) ?_
                intro _ w59 h63
                replace h63 : St w0 F0 [boxC b2 93 [.string ⟨⟨a2.1⟩⟩, .string ⟨⟨(gt a0 a1)⟩⟩, .bool false], boxC b1 93 [.string ⟨⟨a2.1⟩⟩, .string ⟨⟨(gt a0 a1)⟩⟩, .bool false]] _ _ := h63
                refine RJ.run ttok 1 rfl ?_
                refine RJ.fin [(6, .pointer (some ⟨b2, 0, none⟩)), (7, .bool true)] rfl ?_
                refine J.ret ?_
                obtain rfl := Option.some.inj H
                exact ⟨_, _, _, (results_two rfl (rvcons (RV.cell ttok 0 h63 rfl rfl rfl rfl) (rvcons (RV.tmp rfl) rvnil)) rfl), ⟨rfl, rfl⟩, h63.only [] rfl⟩
            · replace H := ite_f c26 H
              refine J.skip ?_
              refine J.seq ?_
              refine J.seq ?_
              refine J.region ?_
              refine RJ.run ttok 1 rfl ?_
              refine RJ.q rfl rfl (q_load_box ttok 1 (fun w e => e ▸ h58.wh) rfl rfl rfl rfl rfl) ?_
              refine RJ.fin [(5, .pointer (some ⟨b1, 0, none⟩)), (6, .pointer (some ⟨b2, 0, none⟩)), (61, .bool a2.2.2)] rfl ?_
              refine J.cond rfl (fun e => ?_) (fun e => ?_)
              · rw [c24] at e; cases e
              · refine J.skip ?_
                refine J.seq ?_
                refine J.seq ?_
                refine J.region ?_
                refine RJ.q rfl rfl (q_load_box ttok 1 (fun w e => e ▸ h58.wh) rfl rfl rfl rfl rfl) ?_
                obtain ⟨r17, q17, H⟩ := bind_t H
                refine RJ.op rfl rfl (op_call [] (sluicegateref01_Empty.spec q17) rfl rfl rfl h58 rfl gnil) ?_
                rintro _ w60 ⟨_, ⟨rfl, rfl⟩, h64⟩
                replace h64 : St w0 F0 [boxC b2 93 [.string ⟨⟨([] : List UInt8)⟩⟩, .string ⟨⟨([] : List UInt8)⟩⟩, .bool false], boxC b1 93 [.string ⟨⟨a2.1⟩⟩, .string ⟨⟨a2.2.1⟩⟩, .bool a2.2.2]] _ _ := h64
                refine RJ.fin [(5, .pointer (some ⟨b1, 0, none⟩)), (6, .pointer (some ⟨b2, 0, none⟩)), (64, .bool r17)] rfl ?_
                refine J.cond rfl (fun c28 => ?_) (fun c28 => ?_)
                · replace H := ite_t c28 H
                  refine J.seq ?_
                  refine J.region ?_
                  refine RJ.run ttok 1 rfl ?_
                  refine RJ.op rfl rfl (op_store ttok 0 rfl h64 rfl rfl rfl rfl rfl rfl rfl) ?_
                  intro _ w61 h65
                  replace h65 : St w0 F0 [boxC b2 93 [.string ⟨⟨([] : List UInt8)⟩⟩, .string ⟨⟨([] : List UInt8)⟩⟩, .bool false], boxC b1 93 [.string ⟨⟨a2.1⟩⟩, .string ⟨⟨a2.2.1⟩⟩, .bool a2.2.2]] _ _ := h65
                  refine RJ.run ttok 1 rfl ?_
                  refine RJ.fin [(6, .pointer (some ⟨b2, 0, none⟩)), (7, .bool false)] rfl ?_
                  refine J.ret ?_
                  obtain rfl := Option.some.inj H
                  exact ⟨_, _, _, (results_two rfl (rvcons (RV.cell ttok 0 h65 rfl rfl rfl rfl) (rvcons (RV.tmp rfl) rvnil)) rfl), ⟨rfl, rfl⟩, h65.only [] rfl⟩
                · replace H := ite_f c28 H
                  refine J.skip ?_
                  refine J.seq ?_
                  refine J.region ?_
                  refine RJ.q rfl rfl (q_load_box ttok 1 (fun w e => e ▸ h64.wh) rfl rfl rfl rfl rfl) ?_
                  refine RJ.op rfl rfl (op_store ttok 0 rfl h64 rfl rfl rfl rfl rfl rfl rfl) ?_
                  intro _ w62 h66
                  replace h66 : St w0 F0 [boxC b2 93 [.string ⟨⟨a2.1⟩⟩, .string ⟨⟨a2.2.1⟩⟩, .bool a2.2.2], boxC b1 93 [.string ⟨⟨a2.1⟩⟩, .string ⟨⟨a2.2.1⟩⟩, .bool a2.2.2]] _ _ := h66
                  refine RJ.run ttok 1 rfl ?_
                  refine RJ.fin [(6, .pointer (some ⟨b2, 0, none⟩)), (7, .bool true)] rfl ?_
                  refine J.ret ?_
                  obtain rfl := Option.some.inj H
                  exact ⟨_, _, _, (results_two rfl (rvcons (RV.cell ttok 0 h66 rfl rfl rfl rfl) (rvcons (RV.tmp rfl) rvnil)) rfl), ⟨rfl, rfl⟩, h66.only [] rfl⟩
        · replace H := ite_f c23 H
          refine HJ.know (t := 40) rfl (congrArg Value.bool c23) ?_
          refine HJ.run ttok rfl [5, 6, 7, 8, 9, 10, 11, 12, 13, 14, 15, 16, 17] rfl ?_
          refine HJ.fin [(0, .slice A1 a0.length c_1), (1, .int .i64 a1), (5, .pointer (some ⟨b1, 0, none⟩)), (6, .pointer (some ⟨b2, 0, none⟩)), (53, .bool false)] rfl rfl ?_
          refine J.condF rfl ?_
          refine J.skip ?_
          refine J.seq ?_
          refine J.seq ?_
          refine J.region ?_
          refine RJ.run ttok 1 rfl ?_
          refine RJ.q rfl rfl (q_load_box ttok 1 (fun w e => e ▸ h52.wh) rfl rfl rfl rfl rfl) ?_
          refine RJ.fin [(5, .pointer (some ⟨b1, 0, none⟩)), (6, .pointer (some ⟨b2, 0, none⟩)), (61, .bool a2.2.2)] rfl ?_
          refine J.cond rfl (fun c29 => ?_) (fun c29 => ?_)
          · replace H := ite_t c29 H
            refine J.region ?_
            refine RJ.run ttok 1 rfl ?_
            refine RJ.op rfl rfl (op_store ttok 1 rfl h52 rfl rfl rfl rfl rfl rfl rfl) ?_
            intro _ w63 h67
            replace h67 : St w0 F0 [boxC b1 93 [.string ⟨⟨a2.1⟩⟩, .string ⟨⟨([] : List UInt8)⟩⟩, .bool a2.2.2], boxC b2 93 [.string ⟨⟨([] : List UInt8)⟩⟩, .string ⟨⟨([] : List UInt8)⟩⟩, .bool false]] _ _ := h67
            refine RJ.fin [(5, .pointer (some ⟨b1, 0, none⟩)), (6, .pointer (some ⟨b2, 0, none⟩))] rfl ?_
            refine J.seq ?_
            refine J.seq ?_
            refine J.region ?_
            refine RJ.q rfl rfl (q_load_box ttok 0 (fun w e => e ▸ h67.wh) rfl rfl rfl rfl rfl) ?_
            obtain ⟨r18, q18, H⟩ := bind_t H
            refine RJ.op rfl rfl (op_call [] (sluicegateref01_Empty.spec q18) rfl rfl rfl h67 rfl gnil) ?_
            rintro _ w65 ⟨_, ⟨rfl, rfl⟩, h68⟩
            replace h68 : St w0 F0 [boxC b1 93 [.string ⟨⟨a2.1⟩⟩, .string ⟨⟨([] : List UInt8)⟩⟩, .bool a2.2.2], boxC b2 93 [.string ⟨⟨([] : List UInt8)⟩⟩, .string ⟨⟨([] : List UInt8)⟩⟩, .bool false]] _ _ := h68
            refine RJ.fin [(5, .pointer (some ⟨b1, 0, none⟩)), (6, .pointer (some ⟨b2, 0, none⟩)), (64, .bool r18)] rfl ?_
            refine J.cond rfl (fun c30 => ?_) (fun c30 => ?_)
            · replace H := ite_t c30 H
              refine J.seq ?_
              refine J.region ?_
              refine RJ.run ttok 1 rfl ?_
              refine RJ.op rfl rfl (op_store ttok 1 rfl h68 rfl rfl rfl rfl rfl rfl rfl) ?_
              intro _ w66 h69
              replace h69 : St w0 F0 [boxC b2 93 [.string ⟨⟨([] : List UInt8)⟩⟩, .string ⟨⟨([] : List UInt8)⟩⟩, .bool false], boxC b1 93 [.string ⟨⟨a2.1⟩⟩, .string ⟨⟨([] : List UInt8)⟩⟩, .bool a2.2.2]] _ _ := h69
              refine RJ.run ttok 1 rfl ?_
              refine RJ.fin [(6, .pointer (some ⟨b2, 0, none⟩)), (7, .bool false)] rfl ?_
              refine J.ret ?_
              obtain rfl := Option.some.inj H
              exact ⟨_, _, _, (results_two rfl (rvcons (RV.cell ttok 0 h69 rfl rfl rfl rfl) (rvcons (RV.tmp rfl) rvnil)) rfl), ⟨rfl, rfl⟩, h69.only [] rfl⟩
            · replace H := ite_f c30 H
              refine J.skip ?_
              refine J.seq ?_
              refine J.region ?_
              refine RJ.q rfl rfl (q_load_box ttok 0 (fun w e => e ▸ h68.wh) rfl rfl rfl rfl rfl) ?_
              refine RJ.op rfl rfl (op_store ttok 1 rfl h68 rfl rfl rfl rfl rfl rfl rfl) ?_
              intro _ w67 h70
              replace h70 : St w0 F0 [boxC b2 93 [.string ⟨⟨a2.1⟩⟩, .string ⟨⟨([] : List UInt8)⟩⟩, .bool a2.2.2], boxC b1 93 [.string ⟨⟨a2.1⟩⟩, .string ⟨⟨([] : List UInt8)⟩⟩, .bool a2.2.2]] _ _ := h70
              refine RJ.run ttok 1 rfl ?_
              refine RJ.fin [(6, .pointer (some ⟨b2, 0, none⟩)), (7, .bool true)] rfl ?_
              refine J.ret ?_
              obtain rfl := Option.some.inj H
              exact ⟨_, _, _, (results_two rfl (rvcons (RV.cell ttok 0 h70 rfl rfl rfl rfl) (rvcons (RV.tmp rfl) rvnil)) rfl), ⟨rfl, rfl⟩, h70.only [] rfl⟩
          · replace H := ite_f c29 H
            refine J.skip ?_
            refine J.seq ?_
            refine J.seq ?_
            refine J.region ?_
            refine RJ.q rfl rfl (q_load_box ttok 1 (fun w e => e ▸ h52.wh) rfl rfl rfl rfl rfl) ?_
            obtain ⟨r19, q19, H⟩ := bind_t H
            refine RJ.op rfl rfl (op_call [] (sluicegateref01_Empty.spec q19) rfl rfl rfl h52 rfl gnil) ?_
            rintro _ w68 ⟨_, ⟨rfl, rfl⟩, h71⟩
            replace h71 : St w0 F0 [boxC b2 93 [.string ⟨⟨([] : List UInt8)⟩⟩, .string ⟨⟨([] : List UInt8)⟩⟩, .bool false], boxC b1 93 [.string ⟨⟨a2.1⟩⟩, .string ⟨⟨a2.2.1⟩⟩, .bool a2.2.2]] _ _ := h71
            refine RJ.fin [(5, .pointer (some ⟨b1, 0, none⟩)), (6, .pointer (some ⟨b2, 0, none⟩)), (64, .bool r19)] rfl ?_
            refine J.cond rfl (fun c31 => ?_) (fun c31 => ?_)
            · replace H := ite_t c31 H
              refine J.seq ?_
              refine J.region ?_
              refine RJ.run ttok 1 rfl ?_
              refine RJ.op rfl rfl (op_store ttok 0 rfl h71 rfl rfl rfl rfl rfl rfl rfl) ?_
              intro _ w69 h72
              replace h72 : St w0 F0 [boxC b2 93 [.string ⟨⟨([] : List UInt8)⟩⟩, .string ⟨⟨([] : List UInt8)⟩⟩, .bool false], boxC b1 93 [.string ⟨⟨a2.1⟩⟩, .string ⟨⟨a2.2.1⟩⟩, .bool a2.2.2]] _ _ := h72
              refine RJ.run ttok 1 rfl ?_
              refine RJ.fin [(6, .pointer (some ⟨b2, 0, none⟩)), (7, .bool false)] rfl ?_
              refine J.ret ?_
              obtain rfl := Option.some.inj H
              exact ⟨_, _, _, (results_two rfl (rvcons (RV.cell ttok 0 h72 rfl rfl rfl rfl) (rvcons (RV.tmp rfl) rvnil)) rfl), ⟨rfl, rfl⟩, h72.only [] rfl⟩
            · replace H := ite_f c31 H
              refine J.skip ?_
              refine J.seq ?_
              refine J.region ?_
              refine RJ.q rfl rfl (q_load_box ttok 1 (fun w e => e ▸ h71.wh) rfl rfl rfl rfl rfl) ?_
              refine RJ.op rfl rfl (op_store ttok 0 rfl h71 rfl rfl rfl rfl rfl rfl rfl) ?_
              intro _ w70 h73
              replace h73 : St w0 F0 [boxC b2 93 [.string ⟨⟨a2.1⟩⟩, .string ⟨⟨a2.2.1⟩⟩, .bool a2.2.2], boxC b1 93 [.string ⟨⟨a2.1⟩⟩, .string ⟨⟨a2.2.1⟩⟩, .bool a2.2.2]] _ _ := h73
              refine RJ.run ttok 1 rfl ?_
              refine RJ.fin [(6, .pointer (some ⟨b2, 0, none⟩)), (7, .bool true)] rfl ?_
              refine J.ret ?_
              obtain rfl := Option.some.inj H
              exact ⟨_, _, _, (results_two rfl (rvcons (RV.cell ttok 0 h73 rfl rfl rfl rfl) (rvcons (RV.tmp rfl) rvnil)) rfl), ⟨rfl, rfl⟩, h73.only [] rfl⟩

/-! sluicegate/sluicegatelaw15.right -/
def sluicegatelaw15_right.f (k : Nat) (a0 : Int × Int × Int × Int × Int × Int × Int × Int) (a1 : Int × List (Int) × List (List UInt8) × (List (List UInt8 × Bool × List UInt8)) × (List (List UInt8 × List UInt8))) (a2 : Int) (a3 : Int × List (Int) × List (List UInt8) × (List (List UInt8 × Bool × List UInt8)) × (List (List UInt8 × List UInt8))) : Option (Bool) := (sluicegatelaw13_Great.f k (a1.1, a1.2.1, a1.2.2.1, a1.2.2.2.1, a1.2.2.2.2)).bind fun r1 => (if r1 = true then (some false) else ((sluicegatelaw13_Great.f k (a3.1, a3.2.1, a3.2.2.1, a3.2.2.2.1, a3.2.2.2.2)).bind fun r2 => (if r2 = true then (some false) else ((sluicegateref09_Right.f k (a0.1, a0.2.1, a0.2.2.1, a0.2.2.2.1, a0.2.2.2.2.1, a0.2.2.2.2.2.1, a0.2.2.2.2.2.2.1, a0.2.2.2.2.2.2.2)).bind fun r3 => (if (!r3) = true then (some false) else (if (decide (a1.1 < 1)) = true then (some false) else ((sluicegateref13_Right.f k (a0.1, a0.2.1, a0.2.2.1, a0.2.2.2.1, a0.2.2.2.2.1, a0.2.2.2.2.2.1, a0.2.2.2.2.2.2.1, a0.2.2.2.2.2.2.2) (([] : List UInt8), ([] : List UInt8), true) (a1.1, a1.2.1, a1.2.2.1, a1.2.2.2.1, a1.2.2.2.2)).bind fun r4 => (if (!r4) = true then (some false) else ((sluicegateref12_Span.f k a1.2.2.1 a2 (([] : List UInt8), ([] : List UInt8), true)).bind fun r5 => (if (!r5.2) = true then (some true) else ((sluicegateref13_Right.f k (a0.1, a0.2.1, a0.2.2.1, a0.2.2.2.1, a0.2.2.2.2.1, a0.2.2.2.2.2.1, a0.2.2.2.2.2.2.1, a0.2.2.2.2.2.2.2) (r5.1.1, r5.1.2.1, r5.1.2.2) (a3.1, a3.2.1, a3.2.2.1, a3.2.2.2.1, a3.2.2.2.2)).bind fun r6 => (some r6))))))))))))
set_option maxRecDepth 20000 in
set_option maxHeartbeats 40000000 in
theorem sluicegatelaw15_right.spec {k : Nat} {a0 : Int × Int × Int × Int × Int × Int × Int × Int} {a1 : Int × List (Int) × List (List UInt8) × (List (List UInt8 × Bool × List UInt8)) × (List (List UInt8 × List UInt8))} {a2 : Int} {a3 : Int × List (Int) × List (List UInt8) × (List (List UInt8 × Bool × List UInt8)) × (List (List UInt8 × List UInt8))} {A1 : Option Addr} {c_1 : Nat} {A2 : Option Addr} {c_2 : Nat} {A3 : Option Addr} {c_3 : Nat} {A4 : Option Addr} {c_4 : Nat} {A5 : Option Addr} {c_5 : Nat} {A6 : Option Addr} {c_6 : Nat} {A7 : Option Addr} {c_7 : Nat} {A8 : Option Addr} {c_8 : Nat} {r : Bool} (H : sluicegatelaw15_right.f k a0 a1 a2 a3 = some r) :
    Spec Try.prog 42 [.agg #[.int .i64 a0.1, .int .i64 a0.2.1, .int .i64 a0.2.2.1, .int .i64 a0.2.2.2.1, .int .i64 a0.2.2.2.2.1, .int .i64 a0.2.2.2.2.2.1, .int .i64 a0.2.2.2.2.2.2.1, .int .i64 a0.2.2.2.2.2.2.2], .agg #[.int .i64 a1.1, .slice A1 a1.2.1.length c_1, .slice A2 a1.2.2.1.length c_2, .slice A3 a1.2.2.2.1.length c_3, .slice A4 a1.2.2.2.2.length c_4], .int .i64 a2, .agg #[.int .i64 a3.1, .slice A5 a3.2.1.length c_5, .slice A6 a3.2.2.1.length c_6, .slice A7 a3.2.2.2.1.length c_7, .slice A8 a3.2.2.2.2.length c_8]] [] [rdC 23 (.int .u32) a1.2.1 (.slice A1 a1.2.1.length c_1), rdC 9 .str a1.2.2.1 (.slice A2 a1.2.2.1.length c_2), rdC 135 (.pair .str (.pair .bool .str)) a1.2.2.2.1 (.slice A3 a1.2.2.2.1.length c_3), rdC 75 (.pair .str .str) a1.2.2.2.2 (.slice A4 a1.2.2.2.2.length c_4), rdC 23 (.int .u32) a3.2.1 (.slice A5 a3.2.1.length c_5), rdC 9 .str a3.2.2.1 (.slice A6 a3.2.2.1.length c_6), rdC 135 (.pair .str (.pair .bool .str)) a3.2.2.2.1 (.slice A7 a3.2.2.2.1.length c_7), rdC 75 (.pair .str .str) a3.2.2.2.2 (.slice A8 a3.2.2.2.2.length c_8)] (fun v l => v = .bool r ∧ l = []) := by
  refine Spec.enter Try.func42 rfl (by kernel_rfl) (by kernel_rfl) fun w0 F0 h0 => ?_
  unfold sluicegatelaw15_right.f at H
  refine J.seq ?_
  refine J.region ?_
  refine RJ.op rfl rfl (op_box rfl rfl h0) ?_
  rintro _ w1 ⟨b1, rfl, h1⟩
  replace h1 : St w0 F0 [boxC b1 61 [.int .i64 a0.1, .int .i64 a0.2.1, .int .i64 a0.2.2.1, .int .i64 a0.2.2.2.1, .int .i64 a0.2.2.2.2.1, .int .i64 a0.2.2.2.2.2.1, .int .i64 a0.2.2.2.2.2.2.1, .int .i64 a0.2.2.2.2.2.2.2]] _ _ := h1
  refine RJ.op rfl rfl (op_box rfl rfl h1) ?_
  rintro _ w2 ⟨b2, rfl, h2⟩
  replace h2 : St w0 F0 [boxC b2 86 [.int .i64 a1.1, .slice A1 a1.2.1.length c_1, .slice A2 a1.2.2.1.length c_2, .slice A3 a1.2.2.2.1.length c_3, .slice A4 a1.2.2.2.2.length c_4], boxC b1 61 [.int .i64 a0.1, .int .i64 a0.2.1, .int .i64 a0.2.2.1, .int .i64 a0.2.2.2.1, .int .i64 a0.2.2.2.2.1, .int .i64 a0.2.2.2.2.2.1, .int .i64 a0.2.2.2.2.2.2.1, .int .i64 a0.2.2.2.2.2.2.2]] _ _ := h2
  refine RJ.op rfl rfl (op_box rfl rfl h2) ?_
  rintro _ w3 ⟨b3, rfl, h3⟩
  replace h3 : St w0 F0 [boxC b3 86 [.int .i64 a3.1, .slice A5 a3.2.1.length c_5, .slice A6 a3.2.2.1.length c_6, .slice A7 a3.2.2.2.1.length c_7, .slice A8 a3.2.2.2.2.length c_8], boxC b2 86 [.int .i64 a1.1, .slice A1 a1.2.1.length c_1, .slice A2 a1.2.2.1.length c_2, .slice A3 a1.2.2.2.1.length c_3, .slice A4 a1.2.2.2.2.length c_4], boxC b1 61 [.int .i64 a0.1, .int .i64 a0.2.1, .int .i64 a0.2.2.1, .int .i64 a0.2.2.2.1, .int .i64 a0.2.2.2.2.1, .int .i64 a0.2.2.2.2.2.1, .int .i64 a0.2.2.2.2.2.2.1, .int .i64 a0.2.2.2.2.2.2.2]] _ _ := h3
  refine RJ.run ttok 1 rfl ?_
  refine RJ.fin [(2, .int .i64 a2), (4, .pointer (some ⟨b1, 0, none⟩)), (5, .pointer (some ⟨b2, 0, none⟩)), (7, .pointer (some ⟨b3, 0, none⟩))] rfl ?_
  refine J.seq ?_
  refine J.seq ?_
  refine J.region ?_
  refine RJ.q rfl rfl (q_load_box ttok 1 (fun w e => e ▸ h3.wh) rfl rfl rfl rfl rfl) ?_
  obtain ⟨r1, q1, H⟩ := bind_t H
  refine RJ.op rfl rfl (op_call [] (sluicegatelaw13_Great.spec q1) rfl rfl rfl h3 rfl (gcons (Gives.self 3 rfl) (gcons (Gives.self 4 rfl) (gcons (Gives.self 5 rfl) (gcons (Gives.self 6 rfl) gnil))))) ?_
  rintro _ w4 ⟨_, ⟨rfl, rfl⟩, h4⟩
  replace h4 : St w0 F0 [boxC b3 86 [.int .i64 a3.1, .slice A5 a3.2.1.length c_5, .slice A6 a3.2.2.1.length c_6, .slice A7 a3.2.2.2.1.length c_7, .slice A8 a3.2.2.2.2.length c_8], boxC b2 86 [.int .i64 a1.1, .slice A1 a1.2.1.length c_1, .slice A2 a1.2.2.1.length c_2, .slice A3 a1.2.2.2.1.length c_3, .slice A4 a1.2.2.2.2.length c_4], boxC b1 61 [.int .i64 a0.1, .int .i64 a0.2.1, .int .i64 a0.2.2.1, .int .i64 a0.2.2.2.1, .int .i64 a0.2.2.2.2.1, .int .i64 a0.2.2.2.2.2.1, .int .i64 a0.2.2.2.2.2.2.1, .int .i64 a0.2.2.2.2.2.2.2]] _ _ := h4
  refine RJ.run ttok 1 rfl ?_
  rcases Bool.eq_false_or_eq_true r1 with c1 | c1
  · replace H := ite_t c1 H
    refine RJ.know (t := 13) rfl (congrArg Value.bool c1) ?_
    refine RJ.run ttok 20 rfl ?_
    refine RJ.fin [(2, .int .i64 a2), (4, .pointer (some ⟨b1, 0, none⟩)), (5, .pointer (some ⟨b2, 0, none⟩)), (7, .pointer (some ⟨b3, 0, none⟩)), (33, .bool true)] rfl ?_
    refine J.condT rfl ?_
    refine J.seq ?_
    refine J.region ?_
    refine RJ.run ttok 1 rfl ?_
    refine RJ.fin [(8, .bool false)] rfl ?_
    have h5 := h4.only [] rfl
    replace h5 : St w0 F0 [] _ _ := h5
    refine J.ret ?_
    obtain rfl := Option.some.inj H
    exact ⟨_, _, _, (results_slots rfl), ⟨rfl, rfl⟩, h5.only [] rfl⟩
  · replace H := ite_f c1 H
    refine RJ.know (t := 13) rfl (congrArg Value.bool c1) ?_
    refine RJ.q rfl rfl (q_load_box ttok 0 (fun w e => e ▸ h4.wh) rfl rfl rfl rfl rfl) ?_
    obtain ⟨r2, q2, H⟩ := bind_t H
    refine RJ.op rfl rfl (op_call [] (sluicegatelaw13_Great.spec q2) rfl rfl rfl h4 rfl (gcons (Gives.self 7 rfl) (gcons (Gives.self 8 rfl) (gcons (Gives.self 9 rfl) (gcons (Gives.self 10 rfl) gnil))))) ?_
    rintro _ w5 ⟨_, ⟨rfl, rfl⟩, h6⟩
    replace h6 : St w0 F0 [boxC b3 86 [.int .i64 a3.1, .slice A5 a3.2.1.length c_5, .slice A6 a3.2.2.1.length c_6, .slice A7 a3.2.2.2.1.length c_7, .slice A8 a3.2.2.2.2.length c_8], boxC b2 86 [.int .i64 a1.1, .slice A1 a1.2.1.length c_1, .slice A2 a1.2.2.1.length c_2, .slice A3 a1.2.2.2.1.length c_3, .slice A4 a1.2.2.2.2.length c_4], boxC b1 61 [.int .i64 a0.1, .int .i64 a0.2.1, .int .i64 a0.2.2.1, .int .i64 a0.2.2.2.1, .int .i64 a0.2.2.2.2.1, .int .i64 a0.2.2.2.2.2.1, .int .i64 a0.2.2.2.2.2.2.1, .int .i64 a0.2.2.2.2.2.2.2]] _ _ := h6
    refine RJ.run ttok 2 rfl ?_
    rcases Bool.eq_false_or_eq_true r2 with c2 | c2
    · replace H := ite_t c2 H
      refine RJ.know (t := 17) rfl (congrArg Value.bool c2) ?_
      refine RJ.run ttok 16 rfl ?_
      refine RJ.fin [(2, .int .i64 a2), (4, .pointer (some ⟨b1, 0, none⟩)), (5, .pointer (some ⟨b2, 0, none⟩)), (7, .pointer (some ⟨b3, 0, none⟩)), (33, .bool true)] rfl ?_
      refine J.condT rfl ?_
      refine J.seq ?_
      refine J.region ?_
      refine RJ.run ttok 1 rfl ?_
      refine RJ.fin [(8, .bool false)] rfl ?_
      have h7 := h6.only [] rfl
      replace h7 : St w0 F0 [] _ _ := h7
      refine J.ret ?_
      obtain rfl := Option.some.inj H
      exact ⟨_, _, _, (results_slots rfl), ⟨rfl, rfl⟩, h7.only [] rfl⟩
    · replace H := ite_f c2 H
      refine RJ.know (t := 17) rfl (congrArg Value.bool c2) ?_
      refine RJ.q rfl rfl (q_load_box ttok 2 (fun w e => e ▸ h6.wh) rfl rfl rfl rfl rfl) ?_
      obtain ⟨r3, q3, H⟩ := bind_t H
      refine RJ.op rfl rfl (op_call [] (sluicegateref09_Right.spec q3) rfl rfl rfl h6 rfl gnil) ?_
      rintro _ w6 ⟨_, ⟨rfl, rfl⟩, h8⟩
      replace h8 : St w0 F0 [boxC b3 86 [.int .i64 a3.1, .slice A5 a3.2.1.length c_5, .slice A6 a3.2.2.1.length c_6, .slice A7 a3.2.2.2.1.length c_7, .slice A8 a3.2.2.2.2.length c_8], boxC b2 86 [.int .i64 a1.1, .slice A1 a1.2.1.length c_1, .slice A2 a1.2.2.1.length c_2, .slice A3 a1.2.2.2.1.length c_3, .slice A4 a1.2.2.2.2.length c_4], boxC b1 61 [.int .i64 a0.1, .int .i64 a0.2.1, .int .i64 a0.2.2.1, .int .i64 a0.2.2.2.1, .int .i64 a0.2.2.2.2.1, .int .i64 a0.2.2.2.2.2.1, .int .i64 a0.2.2.2.2.2.2.1, .int .i64 a0.2.2.2.2.2.2.2]] _ _ := h8
      refine RJ.run ttok 3 rfl ?_
      rcases Bool.eq_false_or_eq_true (!r3) with c3 | c3
      · replace H := ite_t c3 H
        refine RJ.know (t := 22) rfl (congrArg Value.bool c3) ?_
        refine RJ.run ttok 11 rfl ?_
        refine RJ.fin [(2, .int .i64 a2), (4, .pointer (some ⟨b1, 0, none⟩)), (5, .pointer (some ⟨b2, 0, none⟩)), (7, .pointer (some ⟨b3, 0, none⟩)), (33, .bool true)] rfl ?_
        refine J.condT rfl ?_
        refine J.seq ?_
        refine J.region ?_
        refine RJ.run ttok 1 rfl ?_
        refine RJ.fin [(8, .bool false)] rfl ?_
        have h9 := h8.only [] rfl
        replace h9 : St w0 F0 [] _ _ := h9
        refine J.ret ?_
        obtain rfl := Option.some.inj H
        exact ⟨_, _, _, (results_slots rfl), ⟨rfl, rfl⟩, h9.only [] rfl⟩
      · replace H := ite_f c3 H
        refine RJ.know (t := 22) rfl (congrArg Value.bool c3) ?_
        refine RJ.run ttok 1 rfl ?_
        refine RJ.q rfl rfl (q_load_box ttok 1 (fun w e => e ▸ h8.wh) rfl rfl rfl rfl rfl) ?_
        refine RJ.run ttok 3 rfl ?_
        rcases Bool.eq_false_or_eq_true (decide (a1.1 < 1)) with c4 | c4
        · replace H := ite_t c4 H
          refine RJ.know (t := 27) rfl (congrArg Value.bool c4) ?_
          refine RJ.run ttok 6 rfl ?_
          refine RJ.fin [(2, .int .i64 a2), (4, .pointer (some ⟨b1, 0, none⟩)), (5, .pointer (some ⟨b2, 0, none⟩)), (7, .pointer (some ⟨b3, 0, none⟩)), (33, .bool true)] rfl ?_
          refine J.condT rfl ?_
          refine J.seq ?_
          refine J.region ?_
          refine RJ.run ttok 1 rfl ?_
          refine RJ.fin [(8, .bool false)] rfl ?_
          have h10 := h8.only [] rfl
          replace h10 : St w0 F0 [] _ _ := h10
          refine J.ret ?_
          obtain rfl := Option.some.inj H
          exact ⟨_, _, _, (results_slots rfl), ⟨rfl, rfl⟩, h10.only [] rfl⟩
        · replace H := ite_f c4 H
          refine RJ.know (t := 27) rfl (congrArg Value.bool c4) ?_
          refine RJ.q rfl rfl (q_load_box ttok 2 (fun w e => e ▸ h8.wh) rfl rfl rfl rfl rfl) ?_
          refine RJ.run ttok 1 rfl ?_
          refine RJ.q rfl rfl (q_load_box ttok 1 (fun w e => e ▸ h8.wh) rfl rfl rfl rfl rfl) ?_
          obtain ⟨r4, q4, H⟩ := bind_t H
          refine RJ.op rfl rfl (op_call [] (sluicegateref13_Right.spec q4) rfl rfl rfl h8 rfl (gcons (Gives.self 3 rfl) (gcons (Gives.self 4 rfl) (gcons (Gives.self 5 rfl) (gcons (Gives.self 6 rfl) gnil))))) ?_
          rintro _ w7 ⟨_, ⟨rfl, rfl⟩, h11⟩
          replace h11 : St w0 F0 [boxC b3 86 [.int .i64 a3.1, .slice A5 a3.2.1.length c_5, .slice A6 a3.2.2.1.length c_6, .slice A7 a3.2.2.2.1.length c_7, .slice A8 a3.2.2.2.2.length c_8], boxC b2 86 [.int .i64 a1.1, .slice A1 a1.2.1.length c_1, .slice A2 a1.2.2.1.length c_2, .slice A3 a1.2.2.2.1.length c_3, .slice A4 a1.2.2.2.2.length c_4], boxC b1 61 [.int .i64 a0.1, .int .i64 a0.2.1, .int .i64 a0.2.2.1, .int .i64 a0.2.2.2.1, .int .i64 a0.2.2.2.2.1, .int .i64 a0.2.2.2.2.2.1, .int .i64 a0.2.2.2.2.2.2.1, .int .i64 a0.2.2.2.2.2.2.2]] _ _ := h11
          refine RJ.run ttok 2 rfl ?_
          refine RJ.fin [(2, .int .i64 a2), (4, .pointer (some ⟨b1, 0, none⟩)), (5, .pointer (some ⟨b2, 0, none⟩)), (7, .pointer (some ⟨b3, 0, none⟩)), (33, .bool (!r4))] rfl ?_
          refine J.cond rfl (fun c5 => ?_) (fun c5 => ?_)
          · replace H := ite_t c5 H
            refine J.seq ?_
            refine J.region ?_
            refine RJ.run ttok 1 rfl ?_
            refine RJ.fin [(8, .bool false)] rfl ?_
            have h12 := h11.only [] rfl
            replace h12 : St w0 F0 [] _ _ := h12
            refine J.ret ?_
            obtain rfl := Option.some.inj H
            exact ⟨_, _, _, (results_slots rfl), ⟨rfl, rfl⟩, h12.only [] rfl⟩
          · replace H := ite_f c5 H
            refine J.skip ?_
            refine J.seq ?_
            refine J.region ?_
            refine RJ.run ttok 1 rfl ?_
            refine RJ.q rfl rfl (q_load_box ttok 1 (fun w e => e ▸ h11.wh) rfl rfl rfl rfl rfl) ?_
            refine RJ.run ttok 2 rfl ?_
            obtain ⟨r5, q5, H⟩ := bind_t H
            refine RJ.op rfl rfl (op_call [] (sluicegateref12_Span.spec q5) rfl rfl rfl h11 rfl (gcons (Gives.self 4 rfl) gnil)) ?_
            rintro _ w8 ⟨_, ⟨rfl, rfl⟩, h13⟩
            replace h13 : St w0 F0 [boxC b3 86 [.int .i64 a3.1, .slice A5 a3.2.1.length c_5, .slice A6 a3.2.2.1.length c_6, .slice A7 a3.2.2.2.1.length c_7, .slice A8 a3.2.2.2.2.length c_8], boxC b2 86 [.int .i64 a1.1, .slice A1 a1.2.1.length c_1, .slice A2 a1.2.2.1.length c_2, .slice A3 a1.2.2.2.1.length c_3, .slice A4 a1.2.2.2.2.length c_4], boxC b1 61 [.int .i64 a0.1, .int .i64 a0.2.1, .int .i64 a0.2.2.1, .int .i64 a0.2.2.2.1, .int .i64 a0.2.2.2.2.1, .int .i64 a0.2.2.2.2.2.1, .int .i64 a0.2.2.2.2.2.2.1, .int .i64 a0.2.2.2.2.2.2.2]] _ _ := h13
            refine RJ.run ttok 3 rfl ?_
            refine RJ.op rfl rfl (op_alloc ttok rfl rfl h13) ?_
            rintro _ w9 ⟨b4, rfl, h14⟩
            replace h14 : St w0 F0 [boxC b4 93 [.string ⟨⟨([] : List UInt8)⟩⟩, .string ⟨⟨([] : List UInt8)⟩⟩, .bool false], boxC b3 86 [.int .i64 a3.1, .slice A5 a3.2.1.length c_5, .slice A6 a3.2.2.1.length c_6, .slice A7 a3.2.2.2.1.length c_7, .slice A8 a3.2.2.2.2.length c_8], boxC b2 86 [.int .i64 a1.1, .slice A1 a1.2.1.length c_1, .slice A2 a1.2.2.1.length c_2, .slice A3 a1.2.2.2.1.length c_3, .slice A4 a1.2.2.2.2.length c_4], boxC b1 61 [.int .i64 a0.1, .int .i64 a0.2.1, .int .i64 a0.2.2.1, .int .i64 a0.2.2.2.1, .int .i64 a0.2.2.2.2.1, .int .i64 a0.2.2.2.2.2.1, .int .i64 a0.2.2.2.2.2.2.1, .int .i64 a0.2.2.2.2.2.2.2]] _ _ := h14
            refine RJ.op rfl rfl (op_store ttok 0 rfl h14 rfl rfl rfl rfl rfl rfl rfl) ?_
            intro _ w10 h15
            replace h15 : St w0 F0 [boxC b4 93 [.string ⟨⟨r5.1.1⟩⟩, .string ⟨⟨r5.1.2.1⟩⟩, .bool r5.1.2.2], boxC b3 86 [.int .i64 a3.1, .slice A5 a3.2.1.length c_5, .slice A6 a3.2.2.1.length c_6, .slice A7 a3.2.2.2.1.length c_7, .slice A8 a3.2.2.2.2.length c_8], boxC b2 86 [.int .i64 a1.1, .slice A1 a1.2.1.length c_1, .slice A2 a1.2.2.1.length c_2, .slice A3 a1.2.2.2.1.length c_3, .slice A4 a1.2.2.2.2.length c_4], boxC b1 61 [.int .i64 a0.1, .int .i64 a0.2.1, .int .i64 a0.2.2.1, .int .i64 a0.2.2.2.1, .int .i64 a0.2.2.2.2.1, .int .i64 a0.2.2.2.2.2.1, .int .i64 a0.2.2.2.2.2.2.1, .int .i64 a0.2.2.2.2.2.2.2]] _ _ := h15
            refine RJ.run ttok 1 rfl ?_
            refine RJ.fin [(4, .pointer (some ⟨b1, 0, none⟩)), (7, .pointer (some ⟨b3, 0, none⟩)), (9, .pointer (some ⟨b4, 0, none⟩)), (10, .bool r5.2)] rfl ?_
            refine J.seq ?_
            refine J.region ?_
            refine RJ.run ttok 3 rfl ?_
            rcases Bool.eq_false_or_eq_true (!r5.2) with c6 | c6
            · replace H := ite_t c6 H
              refine RJ.know (t := 44) rfl (congrArg Value.bool c6) ?_
              refine RJ.run ttok 6 rfl ?_
              refine RJ.fin [(8, .bool true)] rfl ?_
              have h16 := h15.only [] rfl
              replace h16 : St w0 F0 [] _ _ := h16
              refine J.ret ?_
              obtain rfl := Option.some.inj H
              exact ⟨_, _, _, (results_slots rfl), ⟨rfl, rfl⟩, h16.only [] rfl⟩
            · replace H := ite_f c6 H
              refine RJ.know (t := 44) rfl (congrArg Value.bool c6) ?_
              refine RJ.q rfl rfl (q_load_box ttok 3 (fun w e => e ▸ h15.wh) rfl rfl rfl rfl rfl) ?_
              refine RJ.q rfl rfl (q_load_box ttok 0 (fun w e => e ▸ h15.wh) rfl rfl rfl rfl rfl) ?_
              refine RJ.q rfl rfl (q_load_box ttok 1 (fun w e => e ▸ h15.wh) rfl rfl rfl rfl rfl) ?_
              obtain ⟨r6, q6, H⟩ := bind_t H
              refine RJ.op rfl rfl (op_call [] (sluicegateref13_Right.spec q6) rfl rfl rfl h15 rfl (gcons (Gives.self 8 rfl) (gcons (Gives.self 9 rfl) (gcons (Gives.self 10 rfl) (gcons (Gives.self 11 rfl) gnil))))) ?_
              rintro _ w11 ⟨_, ⟨rfl, rfl⟩, h17⟩
              replace h17 : St w0 F0 [boxC b4 93 [.string ⟨⟨r5.1.1⟩⟩, .string ⟨⟨r5.1.2.1⟩⟩, .bool r5.1.2.2], boxC b3 86 [.int .i64 a3.1, .slice A5 a3.2.1.length c_5, .slice A6 a3.2.2.1.length c_6, .slice A7 a3.2.2.2.1.length c_7, .slice A8 a3.2.2.2.2.length c_8], boxC b2 86 [.int .i64 a1.1, .slice A1 a1.2.1.length c_1, .slice A2 a1.2.2.1.length c_2, .slice A3 a1.2.2.2.1.length c_3, .slice A4 a1.2.2.2.2.length c_4], boxC b1 61 [.int .i64 a0.1, .int .i64 a0.2.1, .int .i64 a0.2.2.1, .int .i64 a0.2.2.2.1, .int .i64 a0.2.2.2.2.1, .int .i64 a0.2.2.2.2.2.1, .int .i64 a0.2.2.2.2.2.2.1, .int .i64 a0.2.2.2.2.2.2.2]] _ _ := h17
              refine RJ.run ttok 2 rfl ?_
              refine RJ.fin [(8, .bool r6)] rfl ?_
              have h18 := h17.only [] rfl
              replace h18 : St w0 F0 [] _ _ := h18
              refine J.ret ?_
              obtain rfl := Option.some.inj H
              exact ⟨_, _, _, (results_slots rfl), ⟨rfl, rfl⟩, h18.only [] rfl⟩

/-! slices.Clone[[]uint32,uint32] -/
def slices_Clone_uint32_uint32.f (a0 : List (Int)) : Option (List (Int)) := if (([] : List (Int)).length + a0.length) * 4 ≤ 140737488355328 then (some (([] : List (Int)) ++ a0)) else none
set_option maxRecDepth 20000 in
set_option maxHeartbeats 40000000 in
theorem slices_Clone_uint32_uint32.spec {a0 : List (Int)} {A1 : Option Addr} {c_1 : Nat} {r : List (Int)} (H : slices_Clone_uint32_uint32.f a0 = some r) :
    Spec Try.prog 130 [.slice A1 a0.length c_1] [] [rdC 23 (.int .u32) a0 (.slice A1 a0.length c_1)] (fun v l => ∃ (A_0 : Option Addr) (c_0 : Nat), v = .slice A_0 r.length c_0 ∧ l = [ownC 23 (.int .u32) r (.slice A_0 r.length c_0)]) := by
  refine Spec.enter Try.func130 rfl (by kernel_rfl) (by kernel_rfl) fun w0 F0 h0 => ?_
  unfold slices_Clone_uint32_uint32.f at H
  refine J.seq ?_
  refine J.region ?_
  refine RJ.run ttok 1 rfl ?_
  refine RJ.fin [(0, .slice A1 a0.length c_1)] rfl ?_
  refine J.seq ?_
  refine J.seq ?_
  refine J.region ?_
  refine RJ.run ttok 2 rfl ?_
  refine RJ.fin [(0, .slice A1 a0.length c_1), (4, .bool A1.isNone)] rfl ?_
  refine J.cond rfl (fun c1 => ?_) (fun c1 => ?_)
  · have e1 := h0.nilrow (Gives.self 0 rfl) (by simpa using c1)
    replace H : (some ([] : List (Int))) = some r := by rw [e1] at H; simpa using H
    refine J.seq ?_
    refine J.region ?_
    refine RJ.run ttok 1 rfl ?_
    refine RJ.fin [(2, .slice none ([] : List (Int)).length 0)] rfl ?_
    refine J.ret ?_
    have h1 := h0.addNil 23 (.int .u32)
    obtain rfl := Option.some.inj H
    exact ⟨_, _, _, (results_slots rfl), ⟨_, _, rfl, rfl⟩, h1.only [0] rfl⟩
  · refine J.skip ?_
    refine J.seq ?_
    refine J.region ?_
    refine RJ.op rfl rfl (op_lit ttok (.int .u32) rfl ([] : List (Int)) rfl h0 rfl rfl (by decide) rfl rfl rfl rfl rfl rfl rfl) ?_
    rintro _ w1 ⟨b1, rfl, h2⟩
    replace h2 : St w0 F0 [ownC 23 (.int .u32) ([] : List (Int)) (.slice (some ⟨b1, 0, none⟩) ([] : List (Int)).length 0)] _ _ := h2
    refine RJ.run ttok 1 rfl ?_
    obtain ⟨p1, H⟩ := guard_t H
    refine RJ.op rfl rfl (op_append ttok rfl 0 rfl h2 rfl (Gives.self 0 rfl) rfl rfl rfl rfl rfl rfl (by decide) (by decide) p1) ?_
    rintro _ w2 ⟨A2, c_2, rfl, h3⟩
    replace h3 : St w0 F0 [ownC 23 (.int .u32) (([] : List (Int)) ++ a0) (.slice A2 (([] : List (Int)) ++ a0).length c_2)] _ _ := h3
    refine RJ.run ttok 1 rfl ?_
    refine RJ.fin [(2, .slice A2 (([] : List (Int)) ++ a0).length c_2)] rfl ?_
    refine J.ret ?_
    obtain rfl := Option.some.inj H
    exact ⟨_, _, _, (results_slots rfl), ⟨_, _, rfl, rfl⟩, h3.only [0] rfl⟩

/-! slices.Clone[[]string,string] -/
def slices_Clone_string_string.f (a0 : List (List UInt8)) : Option (List (List UInt8)) := if (([] : List (List UInt8)).length + a0.length) * 16 ≤ 140737488355328 then (some (([] : List (List UInt8)) ++ a0)) else none
set_option maxRecDepth 20000 in
set_option maxHeartbeats 40000000 in
theorem slices_Clone_string_string.spec {a0 : List (List UInt8)} {A1 : Option Addr} {c_1 : Nat} {r : List (List UInt8)} (H : slices_Clone_string_string.f a0 = some r) :
    Spec Try.prog 131 [.slice A1 a0.length c_1] [] [rdC 9 .str a0 (.slice A1 a0.length c_1)] (fun v l => ∃ (A_0 : Option Addr) (c_0 : Nat), v = .slice A_0 r.length c_0 ∧ l = [ownC 9 .str r (.slice A_0 r.length c_0)]) := by
  refine Spec.enter Try.func131 rfl (by kernel_rfl) (by kernel_rfl) fun w0 F0 h0 => ?_
  unfold slices_Clone_string_string.f at H
  refine J.seq ?_
  refine J.region ?_
  refine RJ.run ttok 1 rfl ?_
  refine RJ.fin [(0, .slice A1 a0.length c_1)] rfl ?_
  refine J.seq ?_
  refine J.seq ?_
  refine J.region ?_
  refine RJ.run ttok 2 rfl ?_
  refine RJ.fin [(0, .slice A1 a0.length c_1), (4, .bool A1.isNone)] rfl ?_
  refine J.cond rfl (fun c1 => ?_) (fun c1 => ?_)
  · have e1 := h0.nilrow (Gives.self 0 rfl) (by simpa using c1)
    replace H : (some ([] : List (List UInt8))) = some r := by rw [e1] at H; simpa using H
    refine J.seq ?_
    refine J.region ?_
    refine RJ.run ttok 1 rfl ?_
    refine RJ.fin [(2, .slice none ([] : List (List UInt8)).length 0)] rfl ?_
    refine J.ret ?_
    have h1 := h0.addNil 9 .str
    obtain rfl := Option.some.inj H
    exact ⟨_, _, _, (results_slots rfl), ⟨_, _, rfl, rfl⟩, h1.only [0] rfl⟩
  · refine J.skip ?_
    refine J.seq ?_
    refine J.region ?_
    refine RJ.op rfl rfl (op_lit ttok .str rfl ([] : List (List UInt8)) rfl h0 rfl rfl (by decide) rfl rfl rfl rfl rfl rfl rfl) ?_
    rintro _ w1 ⟨b1, rfl, h2⟩
    replace h2 : St w0 F0 [ownC 9 .str ([] : List (List UInt8)) (.slice (some ⟨b1, 0, none⟩) ([] : List (List UInt8)).length 0)] _ _ := h2
    refine RJ.run ttok 1 rfl ?_
    obtain ⟨p1, H⟩ := guard_t H
    refine RJ.op rfl rfl (op_append ttok rfl 0 rfl h2 rfl (Gives.self 0 rfl) rfl rfl rfl rfl rfl rfl (by decide) (by decide) p1) ?_
    rintro _ w2 ⟨A2, c_2, rfl, h3⟩
    replace h3 : St w0 F0 [ownC 9 .str (([] : List (List UInt8)) ++ a0) (.slice A2 (([] : List (List UInt8)) ++ a0).length c_2)] _ _ := h3
    refine RJ.run ttok 1 rfl ?_
    refine RJ.fin [(2, .slice A2 (([] : List (List UInt8)) ++ a0).length c_2)] rfl ?_
    refine J.ret ?_
    obtain rfl := Option.some.inj H
    exact ⟨_, _, _, (results_slots rfl), ⟨_, _, rfl, rfl⟩, h3.only [0] rfl⟩

/-! slices.Clone[[]sluicegate/api.Msg,sluicegate/api.Msg] -/
def slices_Clone_api_Msg_api_Msg.f (a0 : List (List UInt8 × Bool × List UInt8)) : Option ((List (List UInt8 × Bool × List UInt8))) := if (([] : List (List UInt8 × Bool × List UInt8)).length + a0.length) * 40 ≤ 140737488355328 then (some (([] : List (List UInt8 × Bool × List UInt8)) ++ a0)) else none
set_option maxRecDepth 20000 in
set_option maxHeartbeats 40000000 in
theorem slices_Clone_api_Msg_api_Msg.spec {a0 : List (List UInt8 × Bool × List UInt8)} {A1 : Option Addr} {c_1 : Nat} {r : (List (List UInt8 × Bool × List UInt8))} (H : slices_Clone_api_Msg_api_Msg.f a0 = some r) :
    Spec Try.prog 132 [.slice A1 a0.length c_1] [] [rdC 135 (.pair .str (.pair .bool .str)) a0 (.slice A1 a0.length c_1)] (fun v l => ∃ (A_0 : Option Addr) (c_0 : Nat), v = .slice A_0 r.length c_0 ∧ l = [ownC 135 (.pair .str (.pair .bool .str)) r (.slice A_0 r.length c_0)]) := by
  refine Spec.enter Try.func132 rfl (by kernel_rfl) (by kernel_rfl) fun w0 F0 h0 => ?_
  unfold slices_Clone_api_Msg_api_Msg.f at H
  refine J.seq ?_
  refine J.region ?_
  refine RJ.run ttok 1 rfl ?_
  refine RJ.fin [(0, .slice A1 a0.length c_1)] rfl ?_
  refine J.seq ?_
  refine J.seq ?_
  refine J.region ?_
  refine RJ.run ttok 2 rfl ?_
  refine RJ.fin [(0, .slice A1 a0.length c_1), (4, .bool A1.isNone)] rfl ?_
  refine J.cond rfl (fun c1 => ?_) (fun c1 => ?_)
  · have e1 := h0.nilrow (Gives.self 0 rfl) (by simpa using c1)
    replace H : (some ([] : List (List UInt8 × Bool × List UInt8))) = some r := by rw [e1] at H; simpa using H
    refine J.seq ?_
    refine J.region ?_
    refine RJ.run ttok 1 rfl ?_
    refine RJ.fin [(2, .slice none ([] : List (List UInt8 × Bool × List UInt8)).length 0)] rfl ?_
    refine J.ret ?_
    have h1 := h0.addNil 135 (.pair .str (.pair .bool .str))
    obtain rfl := Option.some.inj H
    exact ⟨_, _, _, (results_slots rfl), ⟨_, _, rfl, rfl⟩, h1.only [0] rfl⟩
  · refine J.skip ?_
    refine J.seq ?_
    refine J.region ?_
    refine RJ.op rfl rfl (op_lit ttok (.pair .str (.pair .bool .str)) rfl ([] : List (List UInt8 × Bool × List UInt8)) rfl h0 rfl rfl (by decide) rfl rfl rfl rfl rfl rfl rfl) ?_
    rintro _ w1 ⟨b1, rfl, h2⟩
    replace h2 : St w0 F0 [ownC 135 (.pair .str (.pair .bool .str)) ([] : List (List UInt8 × Bool × List UInt8)) (.slice (some ⟨b1, 0, none⟩) ([] : List (List UInt8 × Bool × List UInt8)).length 0)] _ _ := h2
    refine RJ.run ttok 1 rfl ?_
    obtain ⟨p1, H⟩ := guard_t H
    refine RJ.op rfl rfl (op_append ttok rfl 0 rfl h2 rfl (Gives.self 0 rfl) rfl rfl rfl rfl rfl rfl (by decide) (by decide) p1) ?_
    rintro _ w2 ⟨A2, c_2, rfl, h3⟩
    replace h3 : St w0 F0 [ownC 135 (.pair .str (.pair .bool .str)) (([] : List (List UInt8 × Bool × List UInt8)) ++ a0) (.slice A2 (([] : List (List UInt8 × Bool × List UInt8)) ++ a0).length c_2)] _ _ := h3
    refine RJ.run ttok 1 rfl ?_
    refine RJ.fin [(2, .slice A2 (([] : List (List UInt8 × Bool × List UInt8)) ++ a0).length c_2)] rfl ?_
    refine J.ret ?_
    obtain rfl := Option.some.inj H
    exact ⟨_, _, _, (results_slots rfl), ⟨_, _, rfl, rfl⟩, h3.only [0] rfl⟩

/-! slices.Clone[[]sluicegate/api.Pair,sluicegate/api.Pair] -/
def slices_Clone_api_Pair_api_Pair.f (a0 : List (List UInt8 × List UInt8)) : Option ((List (List UInt8 × List UInt8))) := if (([] : List (List UInt8 × List UInt8)).length + a0.length) * 32 ≤ 140737488355328 then (some (([] : List (List UInt8 × List UInt8)) ++ a0)) else none
set_option maxRecDepth 20000 in
set_option maxHeartbeats 40000000 in
theorem slices_Clone_api_Pair_api_Pair.spec {a0 : List (List UInt8 × List UInt8)} {A1 : Option Addr} {c_1 : Nat} {r : (List (List UInt8 × List UInt8))} (H : slices_Clone_api_Pair_api_Pair.f a0 = some r) :
    Spec Try.prog 73 [.slice A1 a0.length c_1] [] [rdC 75 (.pair .str .str) a0 (.slice A1 a0.length c_1)] (fun v l => ∃ (A_0 : Option Addr) (c_0 : Nat), v = .slice A_0 r.length c_0 ∧ l = [ownC 75 (.pair .str .str) r (.slice A_0 r.length c_0)]) := by
  refine Spec.enter Try.func73 rfl (by kernel_rfl) (by kernel_rfl) fun w0 F0 h0 => ?_
  unfold slices_Clone_api_Pair_api_Pair.f at H
  refine J.seq ?_
  refine J.region ?_
  refine RJ.run ttok 1 rfl ?_
  refine RJ.fin [(0, .slice A1 a0.length c_1)] rfl ?_
  refine J.seq ?_
  refine J.seq ?_
  refine J.region ?_
  refine RJ.run ttok 2 rfl ?_
  refine RJ.fin [(0, .slice A1 a0.length c_1), (4, .bool A1.isNone)] rfl ?_
  refine J.cond rfl (fun c1 => ?_) (fun c1 => ?_)
  · have e1 := h0.nilrow (Gives.self 0 rfl) (by simpa using c1)
    replace H : (some ([] : List (List UInt8 × List UInt8))) = some r := by rw [e1] at H; simpa using H
    refine J.seq ?_
    refine J.region ?_
    refine RJ.run ttok 1 rfl ?_
    refine RJ.fin [(2, .slice none ([] : List (List UInt8 × List UInt8)).length 0)] rfl ?_
    refine J.ret ?_
    have h1 := h0.addNil 75 (.pair .str .str)
    obtain rfl := Option.some.inj H
    exact ⟨_, _, _, (results_slots rfl), ⟨_, _, rfl, rfl⟩, h1.only [0] rfl⟩
  · refine J.skip ?_
    refine J.seq ?_
    refine J.region ?_
    refine RJ.op rfl rfl (op_lit ttok (.pair .str .str) rfl ([] : List (List UInt8 × List UInt8)) rfl h0 rfl rfl (by decide) rfl rfl rfl rfl rfl rfl rfl) ?_
    rintro _ w1 ⟨b1, rfl, h2⟩
    replace h2 : St w0 F0 [ownC 75 (.pair .str .str) ([] : List (List UInt8 × List UInt8)) (.slice (some ⟨b1, 0, none⟩) ([] : List (List UInt8 × List UInt8)).length 0)] _ _ := h2
    refine RJ.run ttok 1 rfl ?_
    obtain ⟨p1, H⟩ := guard_t H
    refine RJ.op rfl rfl (op_append ttok rfl 0 rfl h2 rfl (Gives.self 0 rfl) rfl rfl rfl rfl rfl rfl (by decide) (by decide) p1) ?_
    rintro _ w2 ⟨A2, c_2, rfl, h3⟩
    replace h3 : St w0 F0 [ownC 75 (.pair .str .str) (([] : List (List UInt8 × List UInt8)) ++ a0) (.slice A2 (([] : List (List UInt8 × List UInt8)) ++ a0).length c_2)] _ _ := h3
    refine RJ.run ttok 1 rfl ?_
    refine RJ.fin [(2, .slice A2 (([] : List (List UInt8 × List UInt8)) ++ a0).length c_2)] rfl ?_
    refine J.ret ?_
    obtain rfl := Option.some.inj H
    exact ⟨_, _, _, (results_slots rfl), ⟨_, _, rfl, rfl⟩, h3.only [0] rfl⟩

/-! sluicegate/node.Clone -/
def node_Clone.f (a0 : Int × List (Int) × List (List UInt8) × (List (List UInt8 × Bool × List UInt8)) × (List (List UInt8 × List UInt8))) : Option ((Int × List (Int) × List (List UInt8) × (List (List UInt8 × Bool × List UInt8)) × (List (List UInt8 × List UInt8)))) := (slices_Clone_uint32_uint32.f a0.2.1).bind fun r1 => ((slices_Clone_string_string.f a0.2.2.1).bind fun r2 => ((slices_Clone_api_Msg_api_Msg.f a0.2.2.2.1).bind fun r3 => ((slices_Clone_api_Pair_api_Pair.f a0.2.2.2.2).bind fun r4 => (some (a0.1, r1, r2, r3, r4)))))
set_option maxRecDepth 20000 in
set_option maxHeartbeats 40000000 in
theorem node_Clone.spec {a0 : Int × List (Int) × List (List UInt8) × (List (List UInt8 × Bool × List UInt8)) × (List (List UInt8 × List UInt8))} {A1 : Option Addr} {c_1 : Nat} {A2 : Option Addr} {c_2 : Nat} {A3 : Option Addr} {c_3 : Nat} {A4 : Option Addr} {c_4 : Nat} {r : (Int × List (Int) × List (List UInt8) × (List (List UInt8 × Bool × List UInt8)) × (List (List UInt8 × List UInt8)))} (H : node_Clone.f a0 = some r) :
    Spec Try.prog 82 [.agg #[.int .i64 a0.1, .slice A1 a0.2.1.length c_1, .slice A2 a0.2.2.1.length c_2, .slice A3 a0.2.2.2.1.length c_3, .slice A4 a0.2.2.2.2.length c_4]] [] [rdC 23 (.int .u32) a0.2.1 (.slice A1 a0.2.1.length c_1), rdC 9 .str a0.2.2.1 (.slice A2 a0.2.2.1.length c_2), rdC 135 (.pair .str (.pair .bool .str)) a0.2.2.2.1 (.slice A3 a0.2.2.2.1.length c_3), rdC 75 (.pair .str .str) a0.2.2.2.2 (.slice A4 a0.2.2.2.2.length c_4)] (fun v l => ∃ (A_0 : Option Addr) (c_0 : Nat) (A_1 : Option Addr) (c_1 : Nat) (A_2 : Option Addr) (c_2 : Nat) (A_3 : Option Addr) (c_3 : Nat), v = .agg #[.int .i64 r.1, .slice A_0 r.2.1.length c_0, .slice A_1 r.2.2.1.length c_1, .slice A_2 r.2.2.2.1.length c_2, .slice A_3 r.2.2.2.2.length c_3] ∧ l = [ownC 23 (.int .u32) r.2.1 (.slice A_0 r.2.1.length c_0), ownC 9 .str r.2.2.1 (.slice A_1 r.2.2.1.length c_1), ownC 135 (.pair .str (.pair .bool .str)) r.2.2.2.1 (.slice A_2 r.2.2.2.1.length c_2), ownC 75 (.pair .str .str) r.2.2.2.2 (.slice A_3 r.2.2.2.2.length c_3)]) := by
  refine Spec.enter Try.func82 rfl (by kernel_rfl) (by kernel_rfl) fun w0 F0 h0 => ?_
  unfold node_Clone.f at H
  refine J.seq ?_
  refine J.region ?_
  refine RJ.op rfl rfl (op_box rfl rfl h0) ?_
  rintro _ w1 ⟨b1, rfl, h1⟩
  replace h1 : St w0 F0 [boxC b1 86 [.int .i64 a0.1, .slice A1 a0.2.1.length c_1, .slice A2 a0.2.2.1.length c_2, .slice A3 a0.2.2.2.1.length c_3, .slice A4 a0.2.2.2.2.length c_4]] _ _ := h1
  refine RJ.op rfl rfl (op_alloc ttok rfl rfl h1) ?_
  rintro _ w2 ⟨b2, rfl, h2⟩
  replace h2 : St w0 F0 [boxC b2 86 [.int .i64 0, .slice none ([] : List (Int)).length 0, .slice none ([] : List (List UInt8)).length 0, .slice none ([] : List (List UInt8 × Bool × List UInt8)).length 0, .slice none ([] : List (List UInt8 × List UInt8)).length 0], boxC b1 86 [.int .i64 a0.1, .slice A1 a0.2.1.length c_1, .slice A2 a0.2.2.1.length c_2, .slice A3 a0.2.2.2.1.length c_3, .slice A4 a0.2.2.2.2.length c_4]] _ _ := h2
  refine RJ.fin [(1, .pointer (some ⟨b1, 0, none⟩)), (2, .pointer (some ⟨b2, 0, none⟩))] rfl ?_
  refine J.seq ?_
  refine J.heldSt mix (h2.only [1] rfl) ?_
  have h3 := h2.drew
  refine HJ.run ttok rfl [0, 2, 5, 8, 11] rfl ?_
  refine HJ.q (i := 1) rfl rfl rfl rfl rfl rfl (q_load_box ttok 0 (fun w e => e) rfl rfl rfl rfl rfl) ?_
  refine HJ.q (i := 3) rfl rfl rfl rfl rfl rfl (q_load_box ttok 0 (fun w e => e) rfl rfl rfl rfl rfl) ?_
  refine HJ.q (i := 6) rfl rfl rfl rfl rfl rfl (q_load_box ttok 0 (fun w e => e) rfl rfl rfl rfl rfl) ?_
  refine HJ.q (i := 9) rfl rfl rfl rfl rfl rfl (q_load_box ttok 0 (fun w e => e) rfl rfl rfl rfl rfl) ?_
  refine HJ.q (i := 12) rfl rfl rfl rfl rfl rfl (q_load_box ttok 0 (fun w e => e) rfl rfl rfl rfl rfl) ?_
  obtain ⟨r1, q1, H⟩ := bind_t H
  refine HJ.op (i := 4) rfl rfl rfl rfl rfl (op_call [] (slices_Clone_uint32_uint32.spec q1) rfl rfl rfl h3 rfl (gcons (Gives.self 2 rfl) gnil)) ?_
  rintro _ w3 ⟨_, ⟨A5, c_5, rfl, rfl⟩, h4⟩
  replace h4 : St w0 F0 [ownC 23 (.int .u32) r1 (.slice A5 r1.length c_5), boxC b2 86 [.int .i64 0, .slice none ([] : List (Int)).length 0, .slice none ([] : List (List UInt8)).length 0, .slice none ([] : List (List UInt8 × Bool × List UInt8)).length 0, .slice none ([] : List (List UInt8 × List UInt8)).length 0], boxC b1 86 [.int .i64 a0.1, .slice A1 a0.2.1.length c_1, .slice A2 a0.2.2.1.length c_2, .slice A3 a0.2.2.2.1.length c_3, .slice A4 a0.2.2.2.2.length c_4]] _ _ := h4
  refine ⟨⟨[_, _], h4⟩, ?_⟩
  obtain ⟨r2, q2, H⟩ := bind_t H
  refine HJ.op (i := 7) rfl rfl rfl rfl rfl (op_call [] (slices_Clone_string_string.spec q2) rfl rfl rfl h4 rfl (gcons (Gives.self 4 rfl) gnil)) ?_
  rintro _ w4 ⟨_, ⟨A6, c_6, rfl, rfl⟩, h5⟩
  replace h5 : St w0 F0 [ownC 9 .str r2 (.slice A6 r2.length c_6), ownC 23 (.int .u32) r1 (.slice A5 r1.length c_5), boxC b2 86 [.int .i64 0, .slice none ([] : List (Int)).length 0, .slice none ([] : List (List UInt8)).length 0, .slice none ([] : List (List UInt8 × Bool × List UInt8)).length 0, .slice none ([] : List (List UInt8 × List UInt8)).length 0], boxC b1 86 [.int .i64 a0.1, .slice A1 a0.2.1.length c_1, .slice A2 a0.2.2.1.length c_2, .slice A3 a0.2.2.2.1.length c_3, .slice A4 a0.2.2.2.2.length c_4]] _ _ := h5
  refine ⟨⟨[_, _, _], h5⟩, ?_⟩
  obtain ⟨r3, q3, H⟩ := bind_t H
  refine HJ.op (i := 10) rfl rfl rfl rfl rfl (op_call [] (slices_Clone_api_Msg_api_Msg.spec q3) rfl rfl rfl h5 rfl (gcons (Gives.self 6 rfl) gnil)) ?_
  rintro _ w5 ⟨_, ⟨A7, c_7, rfl, rfl⟩, h6⟩
  replace h6 : St w0 F0 [ownC 135 (.pair .str (.pair .bool .str)) r3 (.slice A7 r3.length c_7), ownC 9 .str r2 (.slice A6 r2.length c_6), ownC 23 (.int .u32) r1 (.slice A5 r1.length c_5), boxC b2 86 [.int .i64 0, .slice none ([] : List (Int)).length 0, .slice none ([] : List (List UInt8)).length 0, .slice none ([] : List (List UInt8 × Bool × List UInt8)).length 0, .slice none ([] : List (List UInt8 × List UInt8)).length 0], boxC b1 86 [.int .i64 a0.1, .slice A1 a0.2.1.length c_1, .slice A2 a0.2.2.1.length c_2, .slice A3 a0.2.2.2.1.length c_3, .slice A4 a0.2.2.2.2.length c_4]] _ _ := h6
  refine ⟨⟨[_, _, _, _], h6⟩, ?_⟩
  obtain ⟨r4, q4, H⟩ := bind_t H
  refine HJ.op (i := 13) rfl rfl rfl rfl rfl (op_call [] (slices_Clone_api_Pair_api_Pair.spec q4) rfl rfl rfl h6 rfl (gcons (Gives.self 8 rfl) gnil)) ?_
  rintro _ w6 ⟨_, ⟨A8, c_8, rfl, rfl⟩, h7⟩
  replace h7 : St w0 F0 [ownC 75 (.pair .str .str) r4 (.slice A8 r4.length c_8), ownC 135 (.pair .str (.pair .bool .str)) r3 (.slice A7 r3.length c_7), ownC 9 .str r2 (.slice A6 r2.length c_6), ownC 23 (.int .u32) r1 (.slice A5 r1.length c_5), boxC b2 86 [.int .i64 0, .slice none ([] : List (Int)).length 0, .slice none ([] : List (List UInt8)).length 0, .slice none ([] : List (List UInt8 × Bool × List UInt8)).length 0, .slice none ([] : List (List UInt8 × List UInt8)).length 0], boxC b1 86 [.int .i64 a0.1, .slice A1 a0.2.1.length c_1, .slice A2 a0.2.2.1.length c_2, .slice A3 a0.2.2.2.1.length c_3, .slice A4 a0.2.2.2.2.length c_4]] _ _ := h7
  refine ⟨⟨[_, _, _, _, _], h7⟩, ?_⟩
  refine HJ.run ttok rfl [14] rfl ?_
  refine HJ.op (i := 15) rfl rfl rfl rfl rfl (op_store ttok 4 rfl h7 rfl rfl rfl rfl rfl rfl rfl) ?_
  intro _ w7 h8
  replace h8 : St w0 F0 [boxC b2 86 [.int .i64 a0.1, .slice A5 r1.length c_5, .slice A6 r2.length c_6, .slice A7 r3.length c_7, .slice A8 r4.length c_8], ownC 75 (.pair .str .str) r4 (.slice A8 r4.length c_8), ownC 135 (.pair .str (.pair .bool .str)) r3 (.slice A7 r3.length c_7), ownC 9 .str r2 (.slice A6 r2.length c_6), ownC 23 (.int .u32) r1 (.slice A5 r1.length c_5), boxC b1 86 [.int .i64 a0.1, .slice A1 a0.2.1.length c_1, .slice A2 a0.2.2.1.length c_2, .slice A3 a0.2.2.2.1.length c_3, .slice A4 a0.2.2.2.2.length c_4]] _ _ := h8
  refine ⟨⟨[_, _, _, _, _], h8⟩, ?_⟩
  refine HJ.fin [(2, .pointer (some ⟨b2, 0, none⟩))] rfl rfl ?_
  refine J.ret ?_
  obtain rfl := Option.some.inj H
  exact ⟨_, _, _, (results_two rfl (rvcons (RV.cell ttok 0 h8 rfl rfl rfl rfl) rvnil) rfl), ⟨_, _, _, _, _, _, _, _, rfl, rfl⟩, h8.only [4, 3, 2, 1] rfl⟩

/-! sluicegate/lex.All -/
def lex_All.f  : Option ((List UInt8 × List UInt8 × Bool)) := some (([] : List UInt8), ([] : List UInt8), true)
set_option maxRecDepth 20000 in
set_option maxHeartbeats 40000000 in
theorem lex_All.spec   {r : (List UInt8 × List UInt8 × Bool)} (H : lex_All.f  = some r) :
    Spec Try.prog 84 [] [] [] (fun v l => v = .agg #[.string ⟨⟨r.1⟩⟩, .string ⟨⟨r.2.1⟩⟩, .bool r.2.2] ∧ l = []) := by
  refine Spec.enter Try.func84 rfl (by kernel_rfl) (by kernel_rfl) fun w0 F0 h0 => ?_
  unfold lex_All.f at H
  refine J.seq ?_
  refine J.region ?_
  refine RJ.op rfl rfl (op_alloc ttok rfl rfl h0) ?_
  rintro _ w1 ⟨b1, rfl, h1⟩
  replace h1 : St w0 F0 [boxC b1 93 [.string ⟨⟨([] : List UInt8)⟩⟩, .string ⟨⟨([] : List UInt8)⟩⟩, .bool false]] _ _ := h1
  refine RJ.fin [(0, .pointer (some ⟨b1, 0, none⟩))] rfl ?_
  refine J.seq ?_
  refine J.region ?_
  refine RJ.run ttok 1 rfl ?_
  refine RJ.op rfl rfl (op_store ttok 0 rfl h1 rfl rfl rfl rfl rfl rfl rfl) ?_
  intro _ w2 h2
  replace h2 : St w0 F0 [boxC b1 93 [.string ⟨⟨([] : List UInt8)⟩⟩, .string ⟨⟨([] : List UInt8)⟩⟩, .bool true]] _ _ := h2
  refine RJ.fin [(0, .pointer (some ⟨b1, 0, none⟩))] rfl ?_
  refine J.ret ?_
  obtain rfl := Option.some.inj H
  exact ⟨_, _, _, (results_two rfl (rvcons (RV.cell ttok 0 h2 rfl rfl rfl rfl) rvnil) rfl), ⟨rfl, rfl⟩, h2.only [] rfl⟩

/-! sluicegate/lex.Empty -/
def lex_Empty.f (a0 : List UInt8 × List UInt8 × Bool) : Option (Bool) := if (!a0.2.2) = true then (some (Op.bytesLess a0.2.1 a0.1 || decide (a0.2.1 = a0.1))) else (some false)
set_option maxRecDepth 20000 in
set_option maxHeartbeats 40000000 in
theorem lex_Empty.spec {a0 : List UInt8 × List UInt8 × Bool}  {r : Bool} (H : lex_Empty.f a0 = some r) :
    Spec Try.prog 124 [.agg #[.string ⟨⟨a0.1⟩⟩, .string ⟨⟨a0.2.1⟩⟩, .bool a0.2.2]] [] [] (fun v l => v = .bool r ∧ l = []) := by
  refine Spec.enter Try.func124 rfl (by kernel_rfl) (by kernel_rfl) fun w0 F0 h0 => ?_
  unfold lex_Empty.f at H
  refine J.seq ?_
  refine J.region ?_
  refine RJ.op rfl rfl (op_box rfl rfl h0) ?_
  rintro _ w1 ⟨b1, rfl, h1⟩
  replace h1 : St w0 F0 [boxC b1 93 [.string ⟨⟨a0.1⟩⟩, .string ⟨⟨a0.2.1⟩⟩, .bool a0.2.2]] _ _ := h1
  refine RJ.run ttok 1 rfl ?_
  refine RJ.fin [(1, .pointer (some ⟨b1, 0, none⟩))] rfl ?_
  refine J.seq ?_
  refine J.region ?_
  refine RJ.run ttok 1 rfl ?_
  refine RJ.q rfl rfl (q_load_box ttok 0 (fun w e => e ▸ h1.wh) rfl rfl rfl rfl rfl) ?_
  refine RJ.run ttok 2 rfl ?_
  rcases Bool.eq_false_or_eq_true (!a0.2.2) with c1 | c1
  · replace H := ite_t c1 H
    refine RJ.know (t := 6) rfl (congrArg Value.bool c1) ?_
    refine RJ.run ttok 1 rfl ?_
    refine RJ.q rfl rfl (q_load_box ttok 0 (fun w e => e ▸ h1.wh) rfl rfl rfl rfl rfl) ?_
    refine RJ.run ttok 1 rfl ?_
    refine RJ.q rfl rfl (q_load_box ttok 0 (fun w e => e ▸ h1.wh) rfl rfl rfl rfl rfl) ?_
    refine RJ.run ttok 3 rfl ?_
    refine RJ.fin [(2, .bool (Op.bytesLess a0.2.1 a0.1 || decide (a0.2.1 = a0.1)))] rfl ?_
    refine J.ret ?_
    obtain rfl := Option.some.inj H
    exact ⟨_, _, _, (results_slots rfl), ⟨rfl, rfl⟩, h1.only [] rfl⟩
  · replace H := ite_f c1 H
    refine RJ.know (t := 6) rfl (congrArg Value.bool c1) ?_
    refine RJ.run ttok 7 rfl ?_
    refine RJ.fin [(2, .bool false)] rfl ?_
    refine J.ret ?_
    obtain rfl := Option.some.inj H
    exact ⟨_, _, _, (results_slots rfl), ⟨rfl, rfl⟩, h1.only [] rfl⟩

/-! sluicegate/lex.Meet -/
def lex_Meet.f (a0 : List UInt8 × List UInt8 × Bool) (a1 : List UInt8 × List UInt8 × Bool) : Option ((List UInt8 × List UInt8 × Bool) × Bool) := if a0.2.2 = true then (if (!a1.2.2) = true then ((lex_Empty.f ((if (!Op.bytesLess a0.1 a1.1) = true then a0.1 else a1.1), a1.2.1, a1.2.2)).bind fun r1 => (if r1 = true then (some ((([] : List UInt8), ([] : List UInt8), false), false)) else (some (((if (!Op.bytesLess a0.1 a1.1) = true then a0.1 else a1.1), a1.2.1, a1.2.2), true)))) else (if a1.2.2 = true then (if (!a0.2.2) = true then ((lex_Empty.f ((if (!Op.bytesLess a0.1 a1.1) = true then a0.1 else a1.1), a0.2.1, a1.2.2)).bind fun r2 => (if r2 = true then (some ((([] : List UInt8), ([] : List UInt8), false), false)) else (some (((if (!Op.bytesLess a0.1 a1.1) = true then a0.1 else a1.1), a0.2.1, a1.2.2), true)))) else ((lex_Empty.f ((if (!Op.bytesLess a0.1 a1.1) = true then a0.1 else a1.1), ([] : List UInt8), a1.2.2)).bind fun r3 => (if r3 = true then (some ((([] : List UInt8), ([] : List UInt8), false), false)) else (some (((if (!Op.bytesLess a0.1 a1.1) = true then a0.1 else a1.1), ([] : List UInt8), a1.2.2), true))))) else (if (!a0.2.2) = true then ((lex_Empty.f ((if (!Op.bytesLess a0.1 a1.1) = true then a0.1 else a1.1), (if (Op.bytesLess a0.2.1 a1.2.1 || decide (a0.2.1 = a1.2.1)) = true then a0.2.1 else a1.2.1), a1.2.2)).bind fun r4 => (if r4 = true then (some ((([] : List UInt8), ([] : List UInt8), false), false)) else (some (((if (!Op.bytesLess a0.1 a1.1) = true then a0.1 else a1.1), (if (Op.bytesLess a0.2.1 a1.2.1 || decide (a0.2.1 = a1.2.1)) = true then a0.2.1 else a1.2.1), a1.2.2), true)))) else ((lex_Empty.f ((if (!Op.bytesLess a0.1 a1.1) = true then a0.1 else a1.1), ([] : List UInt8), a1.2.2)).bind fun r5 => (if r5 = true then (some ((([] : List UInt8), ([] : List UInt8), false), false)) else (some (((if (!Op.bytesLess a0.1 a1.1) = true then a0.1 else a1.1), ([] : List UInt8), a1.2.2), true))))))) else (if a1.2.2 = true then (if (!a0.2.2) = true then ((lex_Empty.f ((if (!Op.bytesLess a0.1 a1.1) = true then a0.1 else a1.1), a0.2.1, false)).bind fun r6 => (if r6 = true then (some ((([] : List UInt8), ([] : List UInt8), false), false)) else (some (((if (!Op.bytesLess a0.1 a1.1) = true then a0.1 else a1.1), a0.2.1, false), true)))) else ((lex_Empty.f ((if (!Op.bytesLess a0.1 a1.1) = true then a0.1 else a1.1), ([] : List UInt8), false)).bind fun r7 => (if r7 = true then (some ((([] : List UInt8), ([] : List UInt8), false), false)) else (some (((if (!Op.bytesLess a0.1 a1.1) = true then a0.1 else a1.1), ([] : List UInt8), false), true))))) else (if (!a0.2.2) = true then ((lex_Empty.f ((if (!Op.bytesLess a0.1 a1.1) = true then a0.1 else a1.1), (if (Op.bytesLess a0.2.1 a1.2.1 || decide (a0.2.1 = a1.2.1)) = true then a0.2.1 else a1.2.1), false)).bind fun r8 => (if r8 = true then (some ((([] : List UInt8), ([] : List UInt8), false), false)) else (some (((if (!Op.bytesLess a0.1 a1.1) = true then a0.1 else a1.1), (if (Op.bytesLess a0.2.1 a1.2.1 || decide (a0.2.1 = a1.2.1)) = true then a0.2.1 else a1.2.1), false), true)))) else ((lex_Empty.f ((if (!Op.bytesLess a0.1 a1.1) = true then a0.1 else a1.1), ([] : List UInt8), false)).bind fun r9 => (if r9 = true then (some ((([] : List UInt8), ([] : List UInt8), false), false)) else (some (((if (!Op.bytesLess a0.1 a1.1) = true then a0.1 else a1.1), ([] : List UInt8), false), true))))))
set_option maxRecDepth 20000 in
set_option maxHeartbeats 40000000 in
theorem lex_Meet.spec {a0 : List UInt8 × List UInt8 × Bool} {a1 : List UInt8 × List UInt8 × Bool}  {r : (List UInt8 × List UInt8 × Bool) × Bool} (H : lex_Meet.f a0 a1 = some r) :
    Spec Try.prog 133 [.agg #[.string ⟨⟨a0.1⟩⟩, .string ⟨⟨a0.2.1⟩⟩, .bool a0.2.2], .agg #[.string ⟨⟨a1.1⟩⟩, .string ⟨⟨a1.2.1⟩⟩, .bool a1.2.2]] [] [] (fun v l => v = .tuple #[.agg #[.string ⟨⟨r.1.1⟩⟩, .string ⟨⟨r.1.2.1⟩⟩, .bool r.1.2.2], .bool r.2] ∧ l = []) := by
  refine Spec.enter Try.func133 rfl (by kernel_rfl) (by kernel_rfl) fun w0 F0 h0 => ?_
  unfold lex_Meet.f at H
  refine J.seq ?_
  refine J.region ?_
  refine RJ.op rfl rfl (op_box rfl rfl h0) ?_
  rintro _ w1 ⟨b1, rfl, h1⟩
  replace h1 : St w0 F0 [boxC b1 93 [.string ⟨⟨a0.1⟩⟩, .string ⟨⟨a0.2.1⟩⟩, .bool a0.2.2]] _ _ := h1
  refine RJ.op rfl rfl (op_box rfl rfl h1) ?_
  rintro _ w2 ⟨b2, rfl, h2⟩
  replace h2 : St w0 F0 [boxC b2 93 [.string ⟨⟨a1.1⟩⟩, .string ⟨⟨a1.2.1⟩⟩, .bool a1.2.2], boxC b1 93 [.string ⟨⟨a0.1⟩⟩, .string ⟨⟨a0.2.1⟩⟩, .bool a0.2.2]] _ _ := h2
  refine RJ.op rfl rfl (op_alloc ttok rfl rfl h2) ?_
  rintro _ w3 ⟨b3, rfl, h3⟩
  replace h3 : St w0 F0 [boxC b3 93 [.string ⟨⟨([] : List UInt8)⟩⟩, .string ⟨⟨([] : List UInt8)⟩⟩, .bool false], boxC b2 93 [.string ⟨⟨a1.1⟩⟩, .string ⟨⟨a1.2.1⟩⟩, .bool a1.2.2], boxC b1 93 [.string ⟨⟨a0.1⟩⟩, .string ⟨⟨a0.2.1⟩⟩, .bool a0.2.2]] _ _ := h3
  refine RJ.run ttok 1 rfl ?_
  refine RJ.fin [(2, .pointer (some ⟨b1, 0, none⟩)), (3, .pointer (some ⟨b2, 0, none⟩)), (4, .pointer (some ⟨b3, 0, none⟩))] rfl ?_
  refine J.seq ?_
  refine J.region ?_
  refine RJ.run ttok 1 rfl ?_
  refine RJ.q rfl rfl (q_load_box ttok 2 (fun w e => e ▸ h3.wh) rfl rfl rfl rfl rfl) ?_
  refine RJ.run ttok 1 rfl ?_
  refine RJ.q rfl rfl (q_load_box ttok 1 (fun w e => e ▸ h3.wh) rfl rfl rfl rfl rfl) ?_
  refine RJ.run ttok 2 rfl ?_
  refine RJ.q rfl rfl (q_load_box ttok 2 (fun w e => e ▸ h3.wh) rfl rfl rfl rfl rfl) ?_
  refine RJ.run ttok 1 rfl ?_
  rcases Bool.eq_false_or_eq_true a0.2.2 with c1 | c1
  · replace H := ite_t c1 H
    refine RJ.know (t := 14) rfl (congrArg Value.bool c1) ?_
    refine RJ.run ttok 1 rfl ?_
    refine RJ.q rfl rfl (q_load_box ttok 1 (fun w e => e ▸ h3.wh) rfl rfl rfl rfl rfl) ?_
    refine RJ.run ttok 2 rfl ?_
    refine RJ.op rfl rfl (op_alloc ttok rfl rfl h3) ?_
    rintro _ w4 ⟨b4, rfl, h4⟩
    replace h4 : St w0 F0 [boxC b4 93 [.string ⟨⟨([] : List UInt8)⟩⟩, .string ⟨⟨([] : List UInt8)⟩⟩, .bool false], boxC b3 93 [.string ⟨⟨([] : List UInt8)⟩⟩, .string ⟨⟨([] : List UInt8)⟩⟩, .bool false], boxC b2 93 [.string ⟨⟨a1.1⟩⟩, .string ⟨⟨a1.2.1⟩⟩, .bool a1.2.2], boxC b1 93 [.string ⟨⟨a0.1⟩⟩, .string ⟨⟨a0.2.1⟩⟩, .bool a0.2.2]] _ _ := h4
    refine RJ.op rfl rfl (op_store ttok 0 rfl h4 rfl rfl rfl rfl rfl rfl rfl) ?_
    intro _ w5 h5
    replace h5 : St w0 F0 [boxC b4 93 [.string ⟨⟨(if (!Op.bytesLess a0.1 a1.1) = true then a0.1 else a1.1)⟩⟩, .string ⟨⟨([] : List UInt8)⟩⟩, .bool a1.2.2], boxC b3 93 [.string ⟨⟨([] : List UInt8)⟩⟩, .string ⟨⟨([] : List UInt8)⟩⟩, .bool false], boxC b2 93 [.string ⟨⟨a1.1⟩⟩, .string ⟨⟨a1.2.1⟩⟩, .bool a1.2.2], boxC b1 93 [.string ⟨⟨a0.1⟩⟩, .string ⟨⟨a0.2.1⟩⟩, .bool a0.2.2]] _ _ := h5
    refine RJ.fin [(2, .pointer (some ⟨b1, 0, none⟩)), (3, .pointer (some ⟨b2, 0, none⟩)), (4, .pointer (some ⟨b3, 0, none⟩)), (6, .pointer (some ⟨b4, 0, none⟩))] rfl ?_
    refine J.seq ?_
    refine J.block ?_
    refine J.seq ?_
    refine J.region ?_
    refine RJ.run ttok 1 rfl ?_
    refine RJ.q rfl rfl (q_load_box ttok 3 (fun w e => e ▸ h5.wh) rfl rfl rfl rfl rfl) ?_
    refine RJ.run ttok 1 rfl ?_
    refine RJ.know (t := 22) rfl (congrArg Value.bool c1) ?_
    refine RJ.run ttok 1 rfl ?_
    refine RJ.q rfl rfl (q_load_box ttok 2 (fun w e => e ▸ h5.wh) rfl rfl rfl rfl rfl) ?_
    refine RJ.run ttok 3 rfl ?_
    refine RJ.fin [(2, .pointer (some ⟨b1, 0, none⟩)), (3, .pointer (some ⟨b2, 0, none⟩)), (4, .pointer (some ⟨b3, 0, none⟩)), (6, .pointer (some ⟨b4, 0, none⟩)), (19, .bool (!a1.2.2))] rfl ?_
    refine J.cond rfl (fun c2 => ?_) (fun c2 => ?_)
    · replace H := ite_t c2 H
      refine J.region ?_
      refine RJ.run ttok 1 rfl ?_
      refine RJ.q rfl rfl (q_load_box ttok 2 (fun w e => e ▸ h5.wh) rfl rfl rfl rfl rfl) ?_
      refine RJ.run ttok 1 rfl ?_
      refine RJ.op rfl rfl (op_store ttok 0 rfl h5 rfl rfl rfl rfl rfl rfl rfl) ?_
      intro _ w6 h6
      replace h6 : St w0 F0 [boxC b4 93 [.string ⟨⟨(if (!Op.bytesLess a0.1 a1.1) = true then a0.1 else a1.1)⟩⟩, .string ⟨⟨a1.2.1⟩⟩, .bool a1.2.2], boxC b3 93 [.string ⟨⟨([] : List UInt8)⟩⟩, .string ⟨⟨([] : List UInt8)⟩⟩, .bool false], boxC b2 93 [.string ⟨⟨a1.1⟩⟩, .string ⟨⟨a1.2.1⟩⟩, .bool a1.2.2], boxC b1 93 [.string ⟨⟨a0.1⟩⟩, .string ⟨⟨a0.2.1⟩⟩, .bool a0.2.2]] _ _ := h6
      refine RJ.fin [(4, .pointer (some ⟨b3, 0, none⟩)), (6, .pointer (some ⟨b4, 0, none⟩))] rfl ?_
      have h7 := h6.only [0, 0] rfl
      replace h7 : St w0 F0 [boxC b4 93 [.string ⟨⟨(if (!Op.bytesLess a0.1 a1.1) = true then a0.1 else a1.1)⟩⟩, .string ⟨⟨a1.2.1⟩⟩, .bool a1.2.2], boxC b3 93 [.string ⟨⟨([] : List UInt8)⟩⟩, .string ⟨⟨([] : List UInt8)⟩⟩, .bool false]] _ _ := h7
      refine J.seq ?_
      refine J.seq ?_
      refine J.region ?_
      refine RJ.q rfl rfl (q_load_box ttok 0 (fun w e => e ▸ h7.wh) rfl rfl rfl rfl rfl) ?_
      obtain ⟨r1, q1, H⟩ := bind_t H
      refine RJ.op rfl rfl (op_call [] (lex_Empty.spec q1) rfl rfl rfl h7 rfl gnil) ?_
      rintro _ w7 ⟨_, ⟨rfl, rfl⟩, h8⟩
      replace h8 : St w0 F0 [boxC b4 93 [.string ⟨⟨(if (!Op.bytesLess a0.1 a1.1) = true then a0.1 else a1.1)⟩⟩, .string ⟨⟨a1.2.1⟩⟩, .bool a1.2.2], boxC b3 93 [.string ⟨⟨([] : List UInt8)⟩⟩, .string ⟨⟨([] : List UInt8)⟩⟩, .bool false]] _ _ := h8
      refine RJ.fin [(4, .pointer (some ⟨b3, 0, none⟩)), (6, .pointer (some ⟨b4, 0, none⟩)), (52, .bool r1)] rfl ?_
      refine J.cond rfl (fun c3 => ?_) (fun c3 => ?_)
      · replace H := ite_t c3 H
        refine J.seq ?_
        refine J.region ?_
        refine RJ.run ttok 1 rfl ?_
        refine RJ.op rfl rfl (op_store ttok 1 rfl h8 rfl rfl rfl rfl rfl rfl rfl) ?_
        intro _ w8 h9
        replace h9 : St w0 F0 [boxC b3 93 [.string ⟨⟨([] : List UInt8)⟩⟩, .string ⟨⟨([] : List UInt8)⟩⟩, .bool false], boxC b4 93 [.string ⟨⟨(if (!Op.bytesLess a0.1 a1.1) = true then a0.1 else a1.1)⟩⟩, .string ⟨⟨a1.2.1⟩⟩, .bool a1.2.2]] _ _ := h9
        refine RJ.run ttok 1 rfl ?_
        refine RJ.fin [(4, .pointer (some ⟨b3, 0, none⟩)), (5, .bool false)] rfl ?_
        refine J.ret ?_
        obtain rfl := Option.some.inj H
        exact ⟨_, _, _, (results_two rfl (rvcons (RV.cell ttok 0 h9 rfl rfl rfl rfl) (rvcons (RV.tmp rfl) rvnil)) rfl), ⟨rfl, rfl⟩, h9.only [] rfl⟩
      · replace H := ite_f c3 H
        refine J.skip ?_
        refine J.seq ?_
        refine J.region ?_
        refine RJ.q rfl rfl (q_load_box ttok 0 (fun w e => e ▸ h8.wh) rfl rfl rfl rfl rfl) ?_
        refine RJ.op rfl rfl (op_store ttok 1 rfl h8 rfl rfl rfl rfl rfl rfl rfl) ?_
        intro _ w9 h10
        replace h10 : St w0 F0 [boxC b3 93 [.string ⟨⟨(if (!Op.bytesLess a0.1 a1.1) = true then a0.1 else a1.1)⟩⟩, .string ⟨⟨a1.2.1⟩⟩, .bool a1.2.2], boxC b4 93 [.string ⟨⟨(if (!Op.bytesLess a0.1 a1.1) = true then a0.1 else a1.1)⟩⟩, .string ⟨⟨a1.2.1⟩⟩, .bool a1.2.2]] _ _ := h10
        refine RJ.run ttok 1 rfl ?_
        refine RJ.fin [(4, .pointer (some ⟨b3, 0, none⟩)), (5, .bool true)] rfl ?_
        refine J.ret ?_
        obtain rfl := Option.some.inj H
        exact ⟨_, _, _, (results_two rfl (rvcons (RV.cell ttok 0 h10 rfl rfl rfl rfl) (rvcons (RV.tmp rfl) rvnil)) rfl), ⟨rfl, rfl⟩, h10.only [] rfl⟩
    · replace H := ite_f c2 H
      refine J.seq ?_
      refine J.region ?_
      refine RJ.run ttok 1 rfl ?_
      refine RJ.q rfl rfl (q_load_box ttok 2 (fun w e => e ▸ h5.wh) rfl rfl rfl rfl rfl) ?_
      refine RJ.run ttok 1 rfl ?_
      rcases Bool.eq_false_or_eq_true a1.2.2 with c4 | c4
      · replace H := ite_t c4 H
        refine RJ.know (t := 33) rfl (congrArg Value.bool c4) ?_
        refine RJ.run ttok 1 rfl ?_
        refine RJ.q rfl rfl (q_load_box ttok 3 (fun w e => e ▸ h5.wh) rfl rfl rfl rfl rfl) ?_
        refine RJ.run ttok 3 rfl ?_
        refine RJ.fin [(2, .pointer (some ⟨b1, 0, none⟩)), (3, .pointer (some ⟨b2, 0, none⟩)), (4, .pointer (some ⟨b3, 0, none⟩)), (6, .pointer (some ⟨b4, 0, none⟩)), (30, .bool (!a0.2.2))] rfl ?_
        refine J.cond rfl (fun c5 => ?_) (fun c5 => ?_)
        · replace H := ite_t c5 H
          refine J.region ?_
          refine RJ.run ttok 1 rfl ?_
          refine RJ.q rfl rfl (q_load_box ttok 3 (fun w e => e ▸ h5.wh) rfl rfl rfl rfl rfl) ?_
          refine RJ.run ttok 1 rfl ?_
          refine RJ.op rfl rfl (op_store ttok 0 rfl h5 rfl rfl rfl rfl rfl rfl rfl) ?_
          intro _ w10 h11
          replace h11 : St w0 F0 [boxC b4 93 [.string ⟨⟨(if (!Op.bytesLess a0.1 a1.1) = true then a0.1 else a1.1)⟩⟩, .string ⟨⟨a0.2.1⟩⟩, .bool a1.2.2], boxC b3 93 [.string ⟨⟨([] : List UInt8)⟩⟩, .string ⟨⟨([] : List UInt8)⟩⟩, .bool false], boxC b2 93 [.string ⟨⟨a1.1⟩⟩, .string ⟨⟨a1.2.1⟩⟩, .bool a1.2.2], boxC b1 93 [.string ⟨⟨a0.1⟩⟩, .string ⟨⟨a0.2.1⟩⟩, .bool a0.2.2]] _ _ := h11
          refine RJ.fin [(4, .pointer (some ⟨b3, 0, none⟩)), (6, .pointer (some ⟨b4, 0, none⟩))] rfl ?_
          have h12 := h11.only [0, 0] rfl
          replace h12 : St w0 F0 [boxC b4 93 [.string ⟨⟨(if (!Op.bytesLess a0.1 a1.1) = true then a0.1 else a1.1)⟩⟩, .string ⟨⟨a0.2.1⟩⟩, .bool a1.2.2], boxC b3 93 [.string ⟨⟨([] : List UInt8)⟩⟩, .string ⟨⟨([] : List UInt8)⟩⟩, .bool false]] _ _ := h12
          refine J.seq ?_
          refine J.seq ?_
          refine J.region ?_
          refine RJ.q rfl rfl (q_load_box ttok 0 (fun w e => e ▸ h12.wh) rfl rfl rfl rfl rfl) ?_
          obtain ⟨r2, q2, H⟩ := bind_t H
          refine RJ.op rfl rfl (op_call [] (lex_Empty.spec q2) rfl rfl rfl h12 rfl gnil) ?_
          rintro _ w11 ⟨_, ⟨rfl, rfl⟩, h13⟩
          replace h13 : St w0 F0 [boxC b4 93 [.string ⟨⟨(if (!Op.bytesLess a0.1 a1.1) = true then a0.1 else a1.1)⟩⟩, .string ⟨⟨a0.2.1⟩⟩, .bool a1.2.2], boxC b3 93 [.string ⟨⟨([] : List UInt8)⟩⟩, .string ⟨⟨([] : List UInt8)⟩⟩, .bool false]] _ _ := h13
          refine RJ.fin [(4, .pointer (some ⟨b3, 0, none⟩)), (6, .pointer (some ⟨b4, 0, none⟩)), (52, .bool r2)] rfl ?_
          refine J.cond rfl (fun c6 => ?_) (fun c6 => ?_)
          · replace H := ite_t c6 H
            refine J.seq ?_
            refine J.region ?_
            refine RJ.run ttok 1 rfl ?_
            refine RJ.op rfl rfl (op_store ttok 1 rfl h13 rfl rfl rfl rfl rfl rfl rfl) ?_
            intro _ w12 h14
            replace h14 : St w0 F0 [boxC b3 93 [.string ⟨⟨([] : List UInt8)⟩⟩, .string ⟨⟨([] : List UInt8)⟩⟩, .bool false], boxC b4 93 [.string ⟨⟨(if (!Op.bytesLess a0.1 a1.1) = true then a0.1 else a1.1)⟩⟩, .string ⟨⟨a0.2.1⟩⟩, .bool a1.2.2]] _ _ := h14
            refine RJ.run ttok 1 rfl ?_
            refine RJ.fin [(4, .pointer (some ⟨b3, 0, none⟩)), (5, .bool false)] rfl ?_
            refine J.ret ?_
            obtain rfl := Option.some.inj H
            exact ⟨_, _, _, (results_two rfl (rvcons (RV.cell ttok 0 h14 rfl rfl rfl rfl) (rvcons (RV.tmp rfl) rvnil)) rfl), ⟨rfl, rfl⟩, h14.only [] rfl⟩
          · replace H := ite_f c6 H
            refine J.skip ?_
            refine J.seq ?_
            refine J.region ?_
            refine RJ.q rfl rfl (q_load_box ttok 0 (fun w e => e ▸ h13.wh) rfl rfl rfl rfl rfl) ?_
            refine RJ.op rfl rfl (op_store ttok 1 rfl h13 rfl rfl rfl rfl rfl rfl rfl) ?_
            intro _ w13 h15
            replace h15 : St w0 F0 [boxC b3 93 [.string ⟨⟨(if (!Op.bytesLess a0.1 a1.1) = true then a0.1 else a1.1)⟩⟩, .string ⟨⟨a0.2.1⟩⟩, .bool a1.2.2], boxC b4 93 [.string ⟨⟨(if (!Op.bytesLess a0.1 a1.1) = true then a0.1 else a1.1)⟩⟩, .string ⟨⟨a0.2.1⟩⟩, .bool a1.2.2]] _ _ := h15
            refine RJ.run ttok 1 rfl ?_
            refine RJ.fin [(4, .pointer (some ⟨b3, 0, none⟩)), (5, .bool true)] rfl ?_
            refine J.ret ?_
            obtain rfl := Option.some.inj H
            exact ⟨_, _, _, (results_two rfl (rvcons (RV.cell ttok 0 h15 rfl rfl rfl rfl) (rvcons (RV.tmp rfl) rvnil)) rfl), ⟨rfl, rfl⟩, h15.only [] rfl⟩
        · replace H := ite_f c5 H
          refine J.seq ?_
          refine J.region ?_
          refine RJ.run ttok 1 rfl ?_
          refine RJ.q rfl rfl (q_load_box ttok 3 (fun w e => e ▸ h5.wh) rfl rfl rfl rfl rfl) ?_
          refine RJ.run ttok 2 rfl ?_
          refine RJ.fin [(2, .pointer (some ⟨b1, 0, none⟩)), (3, .pointer (some ⟨b2, 0, none⟩)), (4, .pointer (some ⟨b3, 0, none⟩)), (6, .pointer (some ⟨b4, 0, none⟩)), (41, .bool (!a0.2.2))] rfl ?_
          refine J.cond rfl (fun e => ?_) (fun e => ?_)
          · rw [c5] at e; cases e
          · refine J.skip ?_
            refine J.seq ?_
            refine J.seq ?_
            refine J.region ?_
            refine RJ.q rfl rfl (q_load_box ttok 0 (fun w e => e ▸ h5.wh) rfl rfl rfl rfl rfl) ?_
            obtain ⟨r3, q3, H⟩ := bind_t H
            refine RJ.op rfl rfl (op_call [] (lex_Empty.spec q3) rfl rfl rfl h5 rfl gnil) ?_
            rintro _ w14 ⟨_, ⟨rfl, rfl⟩, h16⟩
            replace h16 : St w0 F0 [boxC b4 93 [.string ⟨⟨(if (!Op.bytesLess a0.1 a1.1) = true then a0.1 else a1.1)⟩⟩, .string ⟨⟨([] : List UInt8)⟩⟩, .bool a1.2.2], boxC b3 93 [.string ⟨⟨([] : List UInt8)⟩⟩, .string ⟨⟨([] : List UInt8)⟩⟩, .bool false], boxC b2 93 [.string ⟨⟨a1.1⟩⟩, .string ⟨⟨a1.2.1⟩⟩, .bool a1.2.2], boxC b1 93 [.string ⟨⟨a0.1⟩⟩, .string ⟨⟨a0.2.1⟩⟩, .bool a0.2.2]] _ _ := h16
            refine RJ.fin [(4, .pointer (some ⟨b3, 0, none⟩)), (6, .pointer (some ⟨b4, 0, none⟩)), (52, .bool r3)] rfl ?_
            have h17 := h16.only [0, 0] rfl
            replace h17 : St w0 F0 [boxC b4 93 [.string ⟨⟨(if (!Op.bytesLess a0.1 a1.1) = true then a0.1 else a1.1)⟩⟩, .string ⟨⟨([] : List UInt8)⟩⟩, .bool a1.2.2], boxC b3 93 [.string ⟨⟨([] : List UInt8)⟩⟩, .string ⟨⟨([] : List UInt8)⟩⟩, .bool false]] _ _ := h17
            refine J.cond rfl (fun c7 => ?_) (fun c7 => ?_)
            · replace H := ite_t c7 H
              refine J.seq ?_
              refine J.region ?_
              refine RJ.run ttok 1 rfl ?_
              refine RJ.op rfl rfl (op_store ttok 1 rfl h17 rfl rfl rfl rfl rfl rfl rfl) ?_
              intro _ w15 h18
              replace h18 : St w0 F0 [boxC b3 93 [.string ⟨⟨([] : List UInt8)⟩⟩, .string ⟨⟨([] : List UInt8)⟩⟩, .bool false], boxC b4 93 [.string ⟨⟨(if (!Op.bytesLess a0.1 a1.1) = true then a0.1 else a1.1)⟩⟩, .string ⟨⟨([] : List UInt8)⟩⟩, .bool a1.2.2]] _ _ := h18
              refine RJ.run ttok 1 rfl ?_
              refine RJ.fin [(4, .pointer (some ⟨b3, 0, none⟩)), (5, .bool false)] rfl ?_
              refine J.ret ?_
              obtain rfl := Option.some.inj H
              exact ⟨_, _, _, (results_two rfl (rvcons (RV.cell ttok 0 h18 rfl rfl rfl rfl) (rvcons (RV.tmp rfl) rvnil)) rfl), ⟨rfl, rfl⟩, h18.only [] rfl⟩
            · replace H := ite_f c7 H
              refine J.skip ?_
              refine J.seq ?_
              refine J.region ?_
              refine RJ.q rfl rfl (q_load_box ttok 0 (fun w e => e ▸ h17.wh) rfl rfl rfl rfl rfl) ?_
              refine RJ.op rfl rfl (op_store ttok 1 rfl h17 rfl rfl rfl rfl rfl rfl rfl) ?_
              intro _ w16 h19
              replace h19 : St w0 F0 [boxC b3 93 [.string ⟨⟨(if (!Op.bytesLess a0.1 a1.1) = true then a0.1 else a1.1)⟩⟩, .string ⟨⟨([] : List UInt8)⟩⟩, .bool a1.2.2], boxC b4 93 [.string ⟨⟨(if (!Op.bytesLess a0.1 a1.1) = true then a0.1 else a1.1)⟩⟩, .string ⟨⟨([] : List UInt8)⟩⟩, .bool a1.2.2]] _ _ := h19
              refine RJ.run ttok 1 rfl ?_
              refine RJ.fin [(4, .pointer (some ⟨b3, 0, none⟩)), (5, .bool true)] rfl ?_
              refine J.ret ?_
              obtain rfl := Option.some.inj H
              exact ⟨_, _, _, (results_two rfl (rvcons (RV.cell ttok 0 h19 rfl rfl rfl rfl) (rvcons (RV.tmp rfl) rvnil)) rfl), ⟨rfl, rfl⟩, h19.only [] rfl⟩
      · replace H := ite_f c4 H
        refine RJ.know (t := 33) rfl (congrArg Value.bool c4) ?_
        refine RJ.run ttok 5 rfl ?_
        refine RJ.fin [(2, .pointer (some ⟨b1, 0, none⟩)), (3, .pointer (some ⟨b2, 0, none⟩)), (4, .pointer (some ⟨b3, 0, none⟩)), (6, .pointer (some ⟨b4, 0, none⟩)), (30, .bool false)] rfl ?_
        refine J.condF rfl ?_
        refine J.seq ?_
        refine J.region ?_
        refine RJ.run ttok 1 rfl ?_
        refine RJ.q rfl rfl (q_load_box ttok 3 (fun w e => e ▸ h5.wh) rfl rfl rfl rfl rfl) ?_
        refine RJ.run ttok 2 rfl ?_
        refine RJ.fin [(2, .pointer (some ⟨b1, 0, none⟩)), (3, .pointer (some ⟨b2, 0, none⟩)), (4, .pointer (some ⟨b3, 0, none⟩)), (6, .pointer (some ⟨b4, 0, none⟩)), (41, .bool (!a0.2.2))] rfl ?_
        refine J.cond rfl (fun c8 => ?_) (fun c8 => ?_)
        · replace H := ite_t c8 H
          refine J.region ?_
          refine RJ.run ttok 1 rfl ?_
          refine RJ.q rfl rfl (q_load_box ttok 3 (fun w e => e ▸ h5.wh) rfl rfl rfl rfl rfl) ?_
          refine RJ.run ttok 1 rfl ?_
          refine RJ.q rfl rfl (q_load_box ttok 2 (fun w e => e ▸ h5.wh) rfl rfl rfl rfl rfl) ?_
          refine RJ.run ttok 2 rfl ?_
          refine RJ.op rfl rfl (op_store ttok 0 rfl h5 rfl rfl rfl rfl rfl rfl rfl) ?_
          intro _ w17 h20
          replace h20 : St w0 F0 [boxC b4 93 [.string ⟨⟨(if (!Op.bytesLess a0.1 a1.1) = true then a0.1 else a1.1)⟩⟩, .string ⟨⟨(if (Op.bytesLess a0.2.1 a1.2.1 || decide (a0.2.1 = a1.2.1)) = true then a0.2.1 else a1.2.1)⟩⟩, .bool a1.2.2], boxC b3 93 [.string ⟨⟨([] : List UInt8)⟩⟩, .string ⟨⟨([] : List UInt8)⟩⟩, .bool false], boxC b2 93 [.string ⟨⟨a1.1⟩⟩, .string ⟨⟨a1.2.1⟩⟩, .bool a1.2.2], boxC b1 93 [.string ⟨⟨a0.1⟩⟩, .string ⟨⟨a0.2.1⟩⟩, .bool a0.2.2]] _ _ := h20
          refine RJ.fin [(4, .pointer (some ⟨b3, 0, none⟩)), (6, .pointer (some ⟨b4, 0, none⟩))] rfl ?_
          have h21 := h20.only [0, 0] rfl
          replace h21 : St w0 F0 [boxC b4 93 [.string ⟨⟨(if (!Op.bytesLess a0.1 a1.1) = true then a0.1 else a1.1)⟩⟩, .string ⟨⟨(if (Op.bytesLess a0.2.1 a1.2.1 || decide (a0.2.1 = a1.2.1)) = true then a0.2.1 else a1.2.1)⟩⟩, .bool a1.2.2], boxC b3 93 [.string ⟨⟨([] : List UInt8)⟩⟩, .string ⟨⟨([] : List UInt8)⟩⟩, .bool false]] _ _ := h21
          refine J.seq ?_
          refine J.seq ?_
          refine J.region ?_
          refine RJ.q rfl rfl (q_load_box ttok 0 (fun w e => e ▸ h21.wh) rfl rfl rfl rfl rfl) ?_
          obtain ⟨r4, q4, H⟩ := bind_t H
          refine RJ.op rfl rfl (op_call [] (lex_Empty.spec q4) rfl rfl rfl h21 rfl gnil) ?_
          rintro _ w18 ⟨_, ⟨rfl, rfl⟩, h22⟩
          replace h22 : St w0 F0 [boxC b4 93 [.string ⟨⟨(if (!Op.bytesLess a0.1 a1.1) = true then a0.1 else a1.1)⟩⟩, .string ⟨⟨(if (Op.bytesLess a0.2.1 a1.2.1 || decide (a0.2.1 = a1.2.1)) = true then a0.2.1 else a1.2.1)⟩⟩, .bool a1.2.2], boxC b3 93 [.string ⟨⟨([] : List UInt8)⟩⟩, .string ⟨⟨([] : List UInt8)⟩⟩, .bool false]] _ _ := h22
          refine RJ.fin [(4, .pointer (some ⟨b3, 0, none⟩)), (6, .pointer (some ⟨b4, 0, none⟩)), (52, .bool r4)] rfl ?_
          refine J.cond rfl (fun c9 => ?_) (fun c9 => ?_)
          · replace H := ite_t c9 H
            refine J.seq ?_
            refine J.region ?_
            refine RJ.run ttok 1 rfl ?_
            refine RJ.op rfl rfl (op_store ttok 1 rfl h22 rfl rfl rfl rfl rfl rfl rfl) ?_
            intro _ w19 h23
            replace h23 : St w0 F0 [boxC b3 93 [.string ⟨⟨([] : List UInt8)⟩⟩, .string ⟨⟨([] : List UInt8)⟩⟩, .bool false], boxC b4 93 [.string ⟨⟨(if (!Op.bytesLess a0.1 a1.1) = true then a0.1 else a1.1)⟩⟩, .string ⟨⟨(if (Op.bytesLess a0.2.1 a1.2.1 || decide (a0.2.1 = a1.2.1)) = true then a0.2.1 else a1.2.1)⟩⟩, .bool a1.2.2]] _ _ := h23
            refine RJ.run ttok 1 rfl ?_
            refine RJ.fin [(4, .pointer (some ⟨b3, 0, none⟩)), (5, .bool false)] rfl ?_
            refine J.ret ?_
            obtain rfl := Option.some.inj H
            exact ⟨_, _, _, (results_two rfl (rvcons (RV.cell ttok 0 h23 rfl rfl rfl rfl) (rvcons (RV.tmp rfl) rvnil)) rfl), ⟨rfl, rfl⟩, h23.only [] rfl⟩
          · replace H := ite_f c9 H
            refine J.skip ?_
            refine J.seq ?_
            refine J.region ?_
            refine RJ.q rfl rfl (q_load_box ttok 0 (fun w e => e ▸ h22.wh) rfl rfl rfl rfl rfl) ?_
            refine RJ.op rfl rfl (op_store ttok 1 rfl h22 rfl rfl rfl rfl rfl rfl rfl) ?_
            intro _ w20 h24
            replace h24 : St w0 F0 [boxC b3 93 [.string ⟨⟨(if (!Op.bytesLess a0.1 a1.1) = true then a0.1 else a1.1)⟩⟩, .string ⟨⟨(if (Op.bytesLess a0.2.1 a1.2.1 || decide (a0.2.1 = a1.2.1)) = true then a0.2.1 else a1.2.1)⟩⟩, .bool a1.2.2], boxC b4 93 [.string ⟨⟨(if (!Op.bytesLess a0.1 a1.1) = true then a0.1 else a1.1)⟩⟩, .string ⟨⟨(if (Op.bytesLess a0.2.1 a1.2.1 || decide (a0.2.1 = a1.2.1)) = true then a0.2.1 else a1.2.1)⟩⟩, .bool a1.2.2]] _ _ := h24
            refine RJ.run ttok 1 rfl ?_
            refine RJ.fin [(4, .pointer (some ⟨b3, 0, none⟩)), (5, .bool true)] rfl ?_
            refine J.ret ?_
            obtain rfl := Option.some.inj H
            exact ⟨_, _, _, (results_two rfl (rvcons (RV.cell ttok 0 h24 rfl rfl rfl rfl) (rvcons (RV.tmp rfl) rvnil)) rfl), ⟨rfl, rfl⟩, h24.only [] rfl⟩
        · replace H := ite_f c8 H
          refine J.skip ?_
          refine J.seq ?_
          refine J.seq ?_
          refine J.region ?_
          refine RJ.q rfl rfl (q_load_box ttok 0 (fun w e => e ▸ h5.wh) rfl rfl rfl rfl rfl) ?_
          obtain ⟨r5, q5, H⟩ := bind_t H
          refine RJ.op rfl rfl (op_call [] (lex_Empty.spec q5) rfl rfl rfl h5 rfl gnil) ?_
          rintro _ w21 ⟨_, ⟨rfl, rfl⟩, h25⟩
          replace h25 : St w0 F0 [boxC b4 93 [.string ⟨⟨(if (!Op.bytesLess a0.1 a1.1) = true then a0.1 else a1.1)⟩⟩, .string ⟨⟨([] : List UInt8)⟩⟩, .bool a1.2.2], boxC b3 93 [.string ⟨⟨([] : List UInt8)⟩⟩, .string ⟨⟨([] : List UInt8)⟩⟩, .bool false], boxC b2 93 [.string ⟨⟨a1.1⟩⟩, .string ⟨⟨a1.2.1⟩⟩, .bool a1.2.2], boxC b1 93 [.string ⟨⟨a0.1⟩⟩, .string ⟨⟨a0.2.1⟩⟩, .bool a0.2.2]] _ _ := h25
          refine RJ.fin [(4, .pointer (some ⟨b3, 0, none⟩)), (6, .pointer (some ⟨b4, 0, none⟩)), (52, .bool r5)] rfl ?_
          have h26 := h25.only [0, 0] rfl
          replace h26 : St w0 F0 [boxC b4 93 [.string ⟨⟨(if (!Op.bytesLess a0.1 a1.1) = true then a0.1 else a1.1)⟩⟩, .string ⟨⟨([] : List UInt8)⟩⟩, .bool a1.2.2], boxC b3 93 [.string ⟨⟨([] : List UInt8)⟩⟩, .string ⟨⟨([] : List UInt8)⟩⟩, .bool false]] _ _ := h26
          refine J.cond rfl (fun c10 => ?_) (fun c10 => ?_)
          · replace H := ite_t c10 H
            refine J.seq ?_
            refine J.region ?_
            refine RJ.run ttok 1 rfl ?_
            refine RJ.op rfl rfl (op_store ttok 1 rfl h26 rfl rfl rfl rfl rfl rfl rfl) ?_
            intro _ w22 h27
            replace h27 : St w0 F0 [boxC b3 93 [.string ⟨⟨([] : List UInt8)⟩⟩, .string ⟨⟨([] : List UInt8)⟩⟩, .bool false], boxC b4 93 [.string ⟨⟨(if (!Op.bytesLess a0.1 a1.1) = true then a0.1 else a1.1)⟩⟩, .string ⟨⟨([] : List UInt8)⟩⟩, .bool a1.2.2]] _ _ := h27
            refine RJ.run ttok 1 rfl ?_
            refine RJ.fin [(4, .pointer (some ⟨b3, 0, none⟩)), (5, .bool false)] rfl ?_
            refine J.ret ?_
            obtain rfl := Option.some.inj H
            exact ⟨_, _, _, (results_two rfl (rvcons (RV.cell ttok 0 h27 rfl rfl rfl rfl) (rvcons (RV.tmp rfl) rvnil)) rfl), ⟨rfl, rfl⟩, h27.only [] rfl⟩
          · replace H := ite_f c10 H
            refine J.skip ?_
            refine J.seq ?_
            refine J.region ?_
            refine RJ.q rfl rfl (q_load_box ttok 0 (fun w e => e ▸ h26.wh) rfl rfl rfl rfl rfl) ?_
            refine RJ.op rfl rfl (op_store ttok 1 rfl h26 rfl rfl rfl rfl rfl rfl rfl) ?_
            intro _ w23 h28
            replace h28 : St w0 F0 [boxC b3 93 [.string ⟨⟨(if (!Op.bytesLess a0.1 a1.1) = true then a0.1 else a1.1)⟩⟩, .string ⟨⟨([] : List UInt8)⟩⟩, .bool a1.2.2], boxC b4 93 [.string ⟨⟨(if (!Op.bytesLess a0.1 a1.1) = true then a0.1 else a1.1)⟩⟩, .string ⟨⟨([] : List UInt8)⟩⟩, .bool a1.2.2]] _ _ := h28
            refine RJ.run ttok 1 rfl ?_
            refine RJ.fin [(4, .pointer (some ⟨b3, 0, none⟩)), (5, .bool true)] rfl ?_
            refine J.ret ?_
            obtain rfl := Option.some.inj H
            exact ⟨_, _, _, (results_two rfl (rvcons (RV.cell ttok 0 h28 rfl rfl rfl rfl) (rvcons (RV.tmp rfl) rvnil)) rfl), ⟨rfl, rfl⟩, h28.only [] rfl⟩
  · replace H := ite_f c1 H
    refine RJ.know (t := 14) rfl (congrArg Value.bool c1) ?_
    refine RJ.run ttok 4 rfl ?_
    refine RJ.op rfl rfl (op_alloc ttok rfl rfl h3) ?_
    rintro _ w24 ⟨b5, rfl, h29⟩
    replace h29 : St w0 F0 [boxC b5 93 [.string ⟨⟨([] : List UInt8)⟩⟩, .string ⟨⟨([] : List UInt8)⟩⟩, .bool false], boxC b3 93 [.string ⟨⟨([] : List UInt8)⟩⟩, .string ⟨⟨([] : List UInt8)⟩⟩, .bool false], boxC b2 93 [.string ⟨⟨a1.1⟩⟩, .string ⟨⟨a1.2.1⟩⟩, .bool a1.2.2], boxC b1 93 [.string ⟨⟨a0.1⟩⟩, .string ⟨⟨a0.2.1⟩⟩, .bool a0.2.2]] _ _ := h29
    refine RJ.op rfl rfl (op_store ttok 0 rfl h29 rfl rfl rfl rfl rfl rfl rfl) ?_
    intro _ w25 h30
    replace h30 : St w0 F0 [boxC b5 93 [.string ⟨⟨(if (!Op.bytesLess a0.1 a1.1) = true then a0.1 else a1.1)⟩⟩, .string ⟨⟨([] : List UInt8)⟩⟩, .bool false], boxC b3 93 [.string ⟨⟨([] : List UInt8)⟩⟩, .string ⟨⟨([] : List UInt8)⟩⟩, .bool false], boxC b2 93 [.string ⟨⟨a1.1⟩⟩, .string ⟨⟨a1.2.1⟩⟩, .bool a1.2.2], boxC b1 93 [.string ⟨⟨a0.1⟩⟩, .string ⟨⟨a0.2.1⟩⟩, .bool a0.2.2]] _ _ := h30
    refine RJ.fin [(2, .pointer (some ⟨b1, 0, none⟩)), (3, .pointer (some ⟨b2, 0, none⟩)), (4, .pointer (some ⟨b3, 0, none⟩)), (6, .pointer (some ⟨b5, 0, none⟩))] rfl ?_
    refine J.seq ?_
    refine J.block ?_
    refine J.seq ?_
    refine J.region ?_
    refine RJ.run ttok 1 rfl ?_
    refine RJ.q rfl rfl (q_load_box ttok 3 (fun w e => e ▸ h30.wh) rfl rfl rfl rfl rfl) ?_
    refine RJ.run ttok 1 rfl ?_
    refine RJ.know (t := 22) rfl (congrArg Value.bool c1) ?_
    refine RJ.run ttok 5 rfl ?_
    refine RJ.fin [(2, .pointer (some ⟨b1, 0, none⟩)), (3, .pointer (some ⟨b2, 0, none⟩)), (4, .pointer (some ⟨b3, 0, none⟩)), (6, .pointer (some ⟨b5, 0, none⟩)), (19, .bool false)] rfl ?_
    refine J.condF rfl ?_
    refine J.seq ?_
    refine J.region ?_
    refine RJ.run ttok 1 rfl ?_
    refine RJ.q rfl rfl (q_load_box ttok 2 (fun w e => e ▸ h30.wh) rfl rfl rfl rfl rfl) ?_
    refine RJ.run ttok 1 rfl ?_
    rcases Bool.eq_false_or_eq_true a1.2.2 with c11 | c11
    · replace H := ite_t c11 H
      refine RJ.know (t := 33) rfl (congrArg Value.bool c11) ?_
      refine RJ.run ttok 1 rfl ?_
      refine RJ.q rfl rfl (q_load_box ttok 3 (fun w e => e ▸ h30.wh) rfl rfl rfl rfl rfl) ?_
      refine RJ.run ttok 3 rfl ?_
      refine RJ.fin [(2, .pointer (some ⟨b1, 0, none⟩)), (3, .pointer (some ⟨b2, 0, none⟩)), (4, .pointer (some ⟨b3, 0, none⟩)), (6, .pointer (some ⟨b5, 0, none⟩)), (30, .bool (!a0.2.2))] rfl ?_
      refine J.cond rfl (fun c12 => ?_) (fun c12 => ?_)
      · replace H := ite_t c12 H
        refine J.region ?_
        refine RJ.run ttok 1 rfl ?_
        refine RJ.q rfl rfl (q_load_box ttok 3 (fun w e => e ▸ h30.wh) rfl rfl rfl rfl rfl) ?_
        refine RJ.run ttok 1 rfl ?_
        refine RJ.op rfl rfl (op_store ttok 0 rfl h30 rfl rfl rfl rfl rfl rfl rfl) ?_
        intro _ w26 h31
        replace h31 : St w0 F0 [boxC b5 93 [.string ⟨⟨(if (!Op.bytesLess a0.1 a1.1) = true then a0.1 else a1.1)⟩⟩, .string ⟨⟨a0.2.1⟩⟩, .bool false], boxC b3 93 [.string ⟨⟨([] : List UInt8)⟩⟩, .string ⟨⟨([] : List UInt8)⟩⟩, .bool false], boxC b2 93 [.string ⟨⟨a1.1⟩⟩, .string ⟨⟨a1.2.1⟩⟩, .bool a1.2.2], boxC b1 93 [.string ⟨⟨a0.1⟩⟩, .string ⟨⟨a0.2.1⟩⟩, .bool a0.2.2]] _ _ := h31
        refine RJ.fin [(4, .pointer (some ⟨b3, 0, none⟩)), (6, .pointer (some ⟨b5, 0, none⟩))] rfl ?_
        have h32 := h31.only [0, 0] rfl
        replace h32 : St w0 F0 [boxC b5 93 [.string ⟨⟨(if (!Op.bytesLess a0.1 a1.1) = true then a0.1 else a1.1)⟩⟩, .string ⟨⟨a0.2.1⟩⟩, .bool false], boxC b3 93 [.string ⟨⟨([] : List UInt8)⟩⟩, .string ⟨⟨([] : List UInt8)⟩⟩, .bool false]] _ _ := h32
        refine J.seq ?_
        refine J.seq ?_
        refine J.region ?_
        refine RJ.q rfl rfl (q_load_box ttok 0 (fun w e => e ▸ h32.wh) rfl rfl rfl rfl rfl) ?_
        obtain ⟨r6, q6, H⟩ := bind_t H
        refine RJ.op rfl rfl (op_call [] (lex_Empty.spec q6) rfl rfl rfl h32 rfl gnil) ?_
        rintro _ w27 ⟨_, ⟨rfl, rfl⟩, h33⟩
        replace h33 : St w0 F0 [boxC b5 93 [.string ⟨⟨(if (!Op.bytesLess a0.1 a1.1) = true then a0.1 else a1.1)⟩⟩, .string ⟨⟨a0.2.1⟩⟩, .bool false], boxC b3 93 [.string ⟨⟨([] : List UInt8)⟩⟩, .string ⟨⟨([] : List UInt8)⟩⟩, .bool false]] _ _ := h33
        refine RJ.fin [(4, .pointer (some ⟨b3, 0, none⟩)), (6, .pointer (some ⟨b5, 0, none⟩)), (52, .bool r6)] rfl ?_
        refine J.cond rfl (fun c13 => ?_) (fun c13 => ?_)
        · replace H := ite_t c13 H
          refine J.seq ?_
          refine J.region ?_
          refine RJ.run ttok 1 rfl ?_
          refine RJ.op rfl rfl (op_store ttok 1 rfl h33 rfl rfl rfl rfl rfl rfl rfl) ?_
          intro _ w28 h34
          replace h34 : St w0 F0 [boxC b3 93 [.string ⟨⟨([] : List UInt8)⟩⟩, .string ⟨⟨([] : List UInt8)⟩⟩, .bool false], boxC b5 93 [.string ⟨⟨(if (!Op.bytesLess a0.1 a1.1) = true then a0.1 else a1.1)⟩⟩, .string ⟨⟨a0.2.1⟩⟩, .bool false]] _ _ := h34
          refine RJ.run ttok 1 rfl ?_
          refine RJ.fin [(4, .pointer (some ⟨b3, 0, none⟩)), (5, .bool false)] rfl ?_
          refine J.ret ?_
          obtain rfl := Option.some.inj H
          exact ⟨_, _, _, (results_two rfl (rvcons (RV.cell ttok 0 h34 rfl rfl rfl rfl) (rvcons (RV.tmp rfl) rvnil)) rfl), ⟨rfl, rfl⟩, h34.only [] rfl⟩
        · replace H := ite_f c13 H
          refine J.skip ?_
          refine J.seq ?_
          refine J.region ?_
          refine RJ.q rfl rfl (q_load_box ttok 0 (fun w e => e ▸ h33.wh) rfl rfl rfl rfl rfl) ?_
          refine RJ.op rfl rfl (op_store ttok 1 rfl h33 rfl rfl rfl rfl rfl rfl rfl) ?_
          intro _ w29 h35
          replace h35 : St w0 F0 [boxC b3 93 [.string ⟨⟨(if (!Op.bytesLess a0.1 a1.1) = true then a0.1 else a1.1)⟩⟩, .string ⟨⟨a0.2.1⟩⟩, .bool false], boxC b5 93 [.string ⟨⟨(if (!Op.bytesLess a0.1 a1.1) = true then a0.1 else a1.1)⟩⟩, .string ⟨⟨a0.2.1⟩⟩, .bool false]] _ _ := h35
          refine RJ.run ttok 1 rfl ?_
          refine RJ.fin [(4, .pointer (some ⟨b3, 0, none⟩)), (5, .bool true)] rfl ?_
          refine J.ret ?_
          obtain rfl := Option.some.inj H
          exact ⟨_, _, _, (results_two rfl (rvcons (RV.cell ttok 0 h35 rfl rfl rfl rfl) (rvcons (RV.tmp rfl) rvnil)) rfl), ⟨rfl, rfl⟩, h35.only [] rfl⟩
      · replace H := ite_f c12 H
        refine J.seq ?_
        refine J.region ?_
        refine RJ.run ttok 1 rfl ?_
        refine RJ.q rfl rfl (q_load_box ttok 3 (fun w e => e ▸ h30.wh) rfl rfl rfl rfl rfl) ?_
        refine RJ.run ttok 2 rfl ?_
        refine RJ.fin [(2, .pointer (some ⟨b1, 0, none⟩)), (3, .pointer (some ⟨b2, 0, none⟩)), (4, .pointer (some ⟨b3, 0, none⟩)), (6, .pointer (some ⟨b5, 0, none⟩)), (41, .bool (!a0.2.2))] rfl ?_
        refine J.cond rfl (fun e => ?_) (fun e => ?_)
        · rw [c12] at e; cases e
        · refine J.skip ?_
          refine J.seq ?_
          refine J.seq ?_
          refine J.region ?_
          refine RJ.q rfl rfl (q_load_box ttok 0 (fun w e => e ▸ h30.wh) rfl rfl rfl rfl rfl) ?_
          obtain ⟨r7, q7, H⟩ := bind_t H
          refine RJ.op rfl rfl (op_call [] (lex_Empty.spec q7) rfl rfl rfl h30 rfl gnil) ?_
          rintro _ w30 ⟨_, ⟨rfl, rfl⟩, h36⟩
          replace h36 : St w0 F0 [boxC b5 93 [.string ⟨⟨(if (!Op.bytesLess a0.1 a1.1) = true then a0.1 else a1.1)⟩⟩, .string ⟨⟨([] : List UInt8)⟩⟩, .bool false], boxC b3 93 [.string ⟨⟨([] : List UInt8)⟩⟩, .string ⟨⟨([] : List UInt8)⟩⟩, .bool false], boxC b2 93 [.string ⟨⟨a1.1⟩⟩, .string ⟨⟨a1.2.1⟩⟩, .bool a1.2.2], boxC b1 93 [.string ⟨⟨a0.1⟩⟩, .string ⟨⟨a0.2.1⟩⟩, .bool a0.2.2]] _ _ := h36
          refine RJ.fin [(4, .pointer (some ⟨b3, 0, none⟩)), (6, .pointer (some ⟨b5, 0, none⟩)), (52, .bool r7)] rfl ?_
          have h37 := h36.only [0, 0] rfl
          replace h37 : St w0 F0 [boxC b5 93 [.string ⟨⟨(if (!Op.bytesLess a0.1 a1.1) = true then a0.1 else a1.1)⟩⟩, .string ⟨⟨([] : List UInt8)⟩⟩, .bool false], boxC b3 93 [.string ⟨⟨([] : List UInt8)⟩⟩, .string ⟨⟨([] : List UInt8)⟩⟩, .bool false]] _ _ := h37
          refine J.cond rfl (fun c14 => ?_) (fun c14 => ?_)
          · replace H := ite_t c14 H
            refine J.seq ?_
            refine J.region ?_
            refine RJ.run ttok 1 rfl ?_
            refine RJ.op rfl rfl (op_store ttok 1 rfl h37 rfl rfl rfl rfl rfl rfl rfl) ?_
            intro _ w31 h38
            replace h38 : St w0 F0 [boxC b3 93 [.string ⟨⟨([] : List UInt8)⟩⟩, .string ⟨⟨([] : List UInt8)⟩⟩, .bool false], boxC b5 93 [.string ⟨⟨(if (!Op.bytesLess a0.1 a1.1) = true then a0.1 else a1.1)⟩⟩, .string ⟨⟨([] : List UInt8)⟩⟩, .bool false]] _ _ := h38
            refine RJ.run ttok 1 rfl ?_
            refine RJ.fin [(4, .pointer (some ⟨b3, 0, none⟩)), (5, .bool false)] rfl ?_
            refine J.ret ?_
            obtain rfl := Option.some.inj H
            exact ⟨_, _, _, (results_two rfl (rvcons (RV.cell ttok 0 h38 rfl rfl rfl rfl) (rvcons (RV.tmp rfl) rvnil)) rfl), ⟨rfl, rfl⟩, h38.only [] rfl⟩
          · replace H := ite_f c14 H
            refine J.skip ?_
            refine J.seq ?_
            refine J.region ?_
            refine RJ.q rfl rfl (q_load_box ttok 0 (fun w e => e ▸ h37.wh) rfl rfl rfl rfl rfl) ?_
            refine RJ.op rfl rfl (op_store ttok 1 rfl h37 rfl rfl rfl rfl rfl rfl rfl) ?_
            intro _ w32 h39
            replace h39 : St w0 F0 [boxC b3 93 [.string ⟨⟨(if (!Op.bytesLess a0.1 a1.1) = true then a0.1 else a1.1)⟩⟩, .string ⟨⟨([] : List UInt8)⟩⟩, .bool false], boxC b5 93 [.string ⟨⟨(if (!Op.bytesLess a0.1 a1.1) = true then a0.1 else a1.1)⟩⟩, .string ⟨⟨([] : List UInt8)⟩⟩, .bool false]] _ _ := h39
            refine RJ.run ttok 1 rfl ?_
            refine RJ.fin [(4, .pointer (some ⟨b3, 0, none⟩)), (5, .bool true)] rfl ?_
            refine J.ret ?_
            obtain rfl := Option.some.inj H
            exact ⟨_, _, _, (results_two rfl (rvcons (RV.cell ttok 0 h39 rfl rfl rfl rfl) (rvcons (RV.tmp rfl) rvnil)) rfl), ⟨rfl, rfl⟩, h39.only [] rfl⟩
    · replace H := ite_f c11 H
      refine RJ.know (t := 33) rfl (congrArg Value.bool c11) ?_
      refine RJ.run ttok 5 rfl ?_
      refine RJ.fin [(2, .pointer (some ⟨b1, 0, none⟩)), (3, .pointer (some ⟨b2, 0, none⟩)), (4, .pointer (some ⟨b3, 0, none⟩)), (6, .pointer (some ⟨b5, 0, none⟩)), (30, .bool false)] rfl ?_
      refine J.condF rfl ?_
      refine J.seq ?_
      refine J.region ?_
      refine RJ.run ttok 1 rfl ?_
      refine RJ.q rfl rfl (q_load_box ttok 3 (fun w e => e ▸ h30.wh) rfl rfl rfl rfl rfl) ?_
      refine RJ.run ttok 2 rfl ?_
      refine RJ.fin [(2, .pointer (some ⟨b1, 0, none⟩)), (3, .pointer (some ⟨b2, 0, none⟩)), (4, .pointer (some ⟨b3, 0, none⟩)), (6, .pointer (some ⟨b5, 0, none⟩)), (41, .bool (!a0.2.2))] rfl ?_
      refine J.cond rfl (fun c15 => ?_) (fun c15 => ?_)
      · replace H := ite_t c15 H
        refine J.region ?_
        refine RJ.run ttok 1 rfl ?_
        refine RJ.q rfl rfl (q_load_box ttok 3 (fun w e => e ▸ h30.wh) rfl rfl rfl rfl rfl) ?_
        refine RJ.run ttok 1 rfl ?_
        refine RJ.q rfl rfl (q_load_box ttok 2 (fun w e => e ▸ h30.wh) rfl rfl rfl rfl rfl) ?_
        refine RJ.run ttok 2 rfl ?_
        refine RJ.op rfl rfl (op_store ttok 0 rfl h30 rfl rfl rfl rfl rfl rfl rfl) ?_
        intro _ w33 h40
        replace h40 : St w0 F0 [boxC b5 93 [.string ⟨⟨(if (!Op.bytesLess a0.1 a1.1) = true then a0.1 else a1.1)⟩⟩, .string ⟨⟨(if (Op.bytesLess a0.2.1 a1.2.1 || decide (a0.2.1 = a1.2.1)) = true then a0.2.1 else a1.2.1)⟩⟩, .bool false], boxC b3 93 [.string ⟨⟨([] : List UInt8)⟩⟩, .string ⟨⟨([] : List UInt8)⟩⟩, .bool false], boxC b2 93 [.string ⟨⟨a1.1⟩⟩, .string ⟨⟨a1.2.1⟩⟩, .bool a1.2.2], boxC b1 93 [.string ⟨⟨a0.1⟩⟩, .string ⟨⟨a0.2.1⟩⟩, .bool a0.2.2]] _ _ := h40
        refine RJ.fin [(4, .pointer (some ⟨b3, 0, none⟩)), (6, .pointer (some ⟨b5, 0, none⟩))] rfl ?_
        have h41 := h40.only [0, 0] rfl
        replace h41 : St w0 F0 [boxC b5 93 [.string ⟨⟨(if (!Op.bytesLess a0.1 a1.1) = true then a0.1 else a1.1)⟩⟩, .string ⟨⟨(if (Op.bytesLess a0.2.1 a1.2.1 || decide (a0.2.1 = a1.2.1)) = true then a0.2.1 else a1.2.1)⟩⟩, .bool false], boxC b3 93 [.string ⟨⟨([] : List UInt8)⟩⟩, .string ⟨⟨([] : List UInt8)⟩⟩, .bool false]] _ _ := h41
        refine J.seq ?_
        refine J.seq ?_
        refine J.region ?_
        refine RJ.q rfl rfl (q_load_box ttok 0 (fun w e => e ▸ h41.wh) rfl rfl rfl rfl rfl) ?_
        obtain ⟨r8, q8, H⟩ := bind_t H
        refine RJ.op rfl rfl (op_call [] (lex_Empty.spec q8) rfl rfl rfl h41 rfl gnil) ?_
        rintro _ w34 ⟨_, ⟨rfl, rfl⟩, h42⟩
        replace h42 : St w0 F0 [boxC b5 93 [.string ⟨⟨(if (!Op.bytesLess a0.1 a1.1) = true then a0.1 else a1.1)⟩⟩, .string ⟨⟨(if (Op.bytesLess a0.2.1 a1.2.1 || decide (a0.2.1 = a1.2.1)) = true then a0.2.1 else a1.2.1)⟩⟩, .bool false], boxC b3 93 [.string ⟨⟨([] : List UInt8)⟩⟩, .string ⟨⟨([] : List UInt8)⟩⟩, .bool false]] _ _ := h42
        refine RJ.fin [(4, .pointer (some ⟨b3, 0, none⟩)), (6, .pointer (some ⟨b5, 0, none⟩)), (52, .bool r8)] rfl ?_
        refine J.cond rfl (fun c16 => ?_) (fun c16 => ?_)
        · replace H := ite_t c16 H
          refine J.seq ?_
          refine J.region ?_
          refine RJ.run ttok 1 rfl ?_
          refine RJ.op rfl rfl (op_store ttok 1 rfl h42 rfl rfl rfl rfl rfl rfl rfl) ?_
          intro _ w35 h43
          replace h43 : St w0 F0 [boxC b3 93 [.string ⟨⟨([] : List UInt8)⟩⟩, .string ⟨⟨([] : List UInt8)⟩⟩, .bool false], boxC b5 93 [.string ⟨⟨(if (!Op.bytesLess a0.1 a1.1) = true then a0.1 else a1.1)⟩⟩, .string ⟨⟨(if (Op.bytesLess a0.2.1 a1.2.1 || decide (a0.2.1 = a1.2.1)) = true then a0.2.1 else a1.2.1)⟩⟩, .bool false]] _ _ := h43
          refine RJ.run ttok 1 rfl ?_
          refine RJ.fin [(4, .pointer (some ⟨b3, 0, none⟩)), (5, .bool false)] rfl ?_
          refine J.ret ?_
          obtain rfl := Option.some.inj H
          exact ⟨_, _, _, (results_two rfl (rvcons (RV.cell ttok 0 h43 rfl rfl rfl rfl) (rvcons (RV.tmp rfl) rvnil)) rfl), ⟨rfl, rfl⟩, h43.only [] rfl⟩
        · replace H := ite_f c16 H
          refine J.skip ?_
          refine J.seq ?_
          refine J.region ?_
          refine RJ.q rfl rfl (q_load_box ttok 0 (fun w e => e ▸ h42.wh) rfl rfl rfl rfl rfl) ?_
          refine RJ.op rfl rfl (op_store ttok 1 rfl h42 rfl rfl rfl rfl rfl rfl rfl) ?_
          intro _ w36 h44
          replace h44 : St w0 F0 [boxC b3 93 [.string ⟨⟨(if (!Op.bytesLess a0.1 a1.1) = true then a0.1 else a1.1)⟩⟩, .string ⟨⟨(if (Op.bytesLess a0.2.1 a1.2.1 || decide (a0.2.1 = a1.2.1)) = true then a0.2.1 else a1.2.1)⟩⟩, .bool false], boxC b5 93 [.string ⟨⟨(if (!Op.bytesLess a0.1 a1.1) = true then a0.1 else a1.1)⟩⟩, .string ⟨⟨(if (Op.bytesLess a0.2.1 a1.2.1 || decide (a0.2.1 = a1.2.1)) = true then a0.2.1 else a1.2.1)⟩⟩, .bool false]] _ _ := h44
          refine RJ.run ttok 1 rfl ?_
          refine RJ.fin [(4, .pointer (some ⟨b3, 0, none⟩)), (5, .bool true)] rfl ?_
          refine J.ret ?_
          obtain rfl := Option.some.inj H
          exact ⟨_, _, _, (results_two rfl (rvcons (RV.cell ttok 0 h44 rfl rfl rfl rfl) (rvcons (RV.tmp rfl) rvnil)) rfl), ⟨rfl, rfl⟩, h44.only [] rfl⟩
      · replace H := ite_f c15 H
        refine J.skip ?_
        refine J.seq ?_
        refine J.seq ?_
        refine J.region ?_
        refine RJ.q rfl rfl (q_load_box ttok 0 (fun w e => e ▸ h30.wh) rfl rfl rfl rfl rfl) ?_
        obtain ⟨r9, q9, H⟩ := bind_t H
        refine RJ.op rfl rfl (op_call [] (lex_Empty.spec q9) rfl rfl rfl h30 rfl gnil) ?_
        rintro _ w37 ⟨_, ⟨rfl, rfl⟩, h45⟩
        replace h45 : St w0 F0 [boxC b5 93 [.string ⟨⟨(if (!Op.bytesLess a0.1 a1.1) = true then a0.1 else a1.1)⟩⟩, .string ⟨⟨([] : List UInt8)⟩⟩, .bool false], boxC b3 93 [.string ⟨⟨([] : List UInt8)⟩⟩, .string ⟨⟨([] : List UInt8)⟩⟩, .bool false], boxC b2 93 [.string ⟨⟨a1.1⟩⟩, .string ⟨⟨a1.2.1⟩⟩, .bool a1.2.2], boxC b1 93 [.string ⟨⟨a0.1⟩⟩, .string ⟨⟨a0.2.1⟩⟩, .bool a0.2.2]] _ _ := h45
        refine RJ.fin [(4, .pointer (some ⟨b3, 0, none⟩)), (6, .pointer (some ⟨b5, 0, none⟩)), (52, .bool r9)] rfl ?_
        have h46 := h45.only [0, 0] rfl
        replace h46 : St w0 F0 [boxC b5 93 [.string ⟨⟨(if (!Op.bytesLess a0.1 a1.1) = true then a0.1 else a1.1)⟩⟩, .string ⟨⟨([] : List UInt8)⟩⟩, .bool false], boxC b3 93 [.string ⟨⟨([] : List UInt8)⟩⟩, .string ⟨⟨([] : List UInt8)⟩⟩, .bool false]] _ _ := h46
        refine J.cond rfl (fun c17 => ?_) (fun c17 => ?_)
        · replace H := ite_t c17 H
          refine J.seq ?_
          refine J.region ?_
          refine RJ.run ttok 1 rfl ?_
          refine RJ.op rfl rfl (op_store ttok 1 rfl h46 rfl rfl rfl rfl rfl rfl rfl) ?_
          intro _ w38 h47
          replace h47 : St w0 F0 [boxC b3 93 [.string ⟨⟨([] : List UInt8)⟩⟩, .string ⟨⟨([] : List UInt8)⟩⟩, .bool false], boxC b5 93 [.string ⟨⟨(if (!Op.bytesLess a0.1 a1.1) = true then a0.1 else a1.1)⟩⟩, .string ⟨⟨([] : List UInt8)⟩⟩, .bool false]] _ _ := h47
          refine RJ.run ttok 1 rfl ?_
          refine RJ.fin [(4, .pointer (some ⟨b3, 0, none⟩)), (5, .bool false)] rfl ?_
          refine J.ret ?_
          obtain rfl := Option.some.inj H
          exact ⟨_, _, _, (results_two rfl (rvcons (RV.cell ttok 0 h47 rfl rfl rfl rfl) (rvcons (RV.tmp rfl) rvnil)) rfl), ⟨rfl, rfl⟩, h47.only [] rfl⟩
        · replace H := ite_f c17 H
          refine J.skip ?_
          refine J.seq ?_
          refine J.region ?_
          refine RJ.q rfl rfl (q_load_box ttok 0 (fun w e => e ▸ h46.wh) rfl rfl rfl rfl rfl) ?_
          refine RJ.op rfl rfl (op_store ttok 1 rfl h46 rfl rfl rfl rfl rfl rfl rfl) ?_
          intro _ w39 h48
          replace h48 : St w0 F0 [boxC b3 93 [.string ⟨⟨(if (!Op.bytesLess a0.1 a1.1) = true then a0.1 else a1.1)⟩⟩, .string ⟨⟨([] : List UInt8)⟩⟩, .bool false], boxC b5 93 [.string ⟨⟨(if (!Op.bytesLess a0.1 a1.1) = true then a0.1 else a1.1)⟩⟩, .string ⟨⟨([] : List UInt8)⟩⟩, .bool false]] _ _ := h48
          refine RJ.run ttok 1 rfl ?_
          refine RJ.fin [(4, .pointer (some ⟨b3, 0, none⟩)), (5, .bool true)] rfl ?_
          refine J.ret ?_
          obtain rfl := Option.some.inj H
          exact ⟨_, _, _, (results_two rfl (rvcons (RV.cell ttok 0 h48 rfl rfl rfl rfl) (rvcons (RV.tmp rfl) rvnil)) rfl), ⟨rfl, rfl⟩, h48.only [] rfl⟩

/-! sluicegate/fan.Span -/
def fan_Span.f (a0 : List (List UInt8)) (a1 : Int) (a2 : List UInt8 × List UInt8 × Bool) : Option ((List UInt8 × List UInt8 × Bool) × Bool) := if (decide (a1 < 0)) = true then (some ((([] : List UInt8), ([] : List UInt8), false), false)) else (if (decide ((a0.length : Int) < a1)) = true then (some ((([] : List UInt8), ([] : List UInt8), false), false)) else (if (decide (0 < a1)) = true then (if 0 ≤ (w64 (a1 - 1)) ∧ (w64 (a1 - 1)) < (a0.length : Int) then (if (!(decide (a1 = (a0.length : Int)))) = true then (if 0 ≤ a1 ∧ a1 < (a0.length : Int) then ((lex_Meet.f ((gt a0 (w64 (a1 - 1))), (gt a0 a1), (decide (a1 = (a0.length : Int)))) (a2.1, a2.2.1, a2.2.2)).bind fun r1 => (some ((r1.1.1, r1.1.2.1, r1.1.2.2), r1.2))) else none) else ((lex_Meet.f ((gt a0 (w64 (a1 - 1))), ([] : List UInt8), (decide (a1 = (a0.length : Int)))) (a2.1, a2.2.1, a2.2.2)).bind fun r2 => (some ((r2.1.1, r2.1.2.1, r2.1.2.2), r2.2)))) else none) else (if (!(decide (a1 = (a0.length : Int)))) = true then (if 0 ≤ a1 ∧ a1 < (a0.length : Int) then ((lex_Meet.f (([] : List UInt8), (gt a0 a1), (decide (a1 = (a0.length : Int)))) (a2.1, a2.2.1, a2.2.2)).bind fun r3 => (some ((r3.1.1, r3.1.2.1, r3.1.2.2), r3.2))) else none) else ((lex_Meet.f (([] : List UInt8), ([] : List UInt8), (decide (a1 = (a0.length : Int)))) (a2.1, a2.2.1, a2.2.2)).bind fun r4 => (some ((r4.1.1, r4.1.2.1, r4.1.2.2), r4.2))))))
set_option maxRecDepth 20000 in
set_option maxHeartbeats 40000000 in
theorem fan_Span.spec {a0 : List (List UInt8)} {a1 : Int} {a2 : List UInt8 × List UInt8 × Bool} {A1 : Option Addr} {c_1 : Nat} {r : (List UInt8 × List UInt8 × Bool) × Bool} (H : fan_Span.f a0 a1 a2 = some r) :
    Spec Try.prog 83 [.slice A1 a0.length c_1, .int .i64 a1, .agg #[.string ⟨⟨a2.1⟩⟩, .string ⟨⟨a2.2.1⟩⟩, .bool a2.2.2]] [] [rdC 9 .str a0 (.slice A1 a0.length c_1)] (fun v l => v = .tuple #[.agg #[.string ⟨⟨r.1.1⟩⟩, .string ⟨⟨r.1.2.1⟩⟩, .bool r.1.2.2], .bool r.2] ∧ l = []) := by
  refine Spec.enter Try.func83 rfl (by kernel_rfl) (by kernel_rfl) fun w0 F0 h0 => ?_
  unfold fan_Span.f at H
  refine J.seq ?_
  refine J.region ?_
  refine RJ.op rfl rfl (op_box rfl rfl h0) ?_
  rintro _ w1 ⟨b1, rfl, h1⟩
  replace h1 : St w0 F0 [boxC b1 93 [.string ⟨⟨a2.1⟩⟩, .string ⟨⟨a2.2.1⟩⟩, .bool a2.2.2]] _ _ := h1
  refine RJ.op rfl rfl (op_alloc ttok rfl rfl h1) ?_
  rintro _ w2 ⟨b2, rfl, h2⟩
  replace h2 : St w0 F0 [boxC b2 93 [.string ⟨⟨([] : List UInt8)⟩⟩, .string ⟨⟨([] : List UInt8)⟩⟩, .bool false], boxC b1 93 [.string ⟨⟨a2.1⟩⟩, .string ⟨⟨a2.2.1⟩⟩, .bool a2.2.2]] _ _ := h2
  refine RJ.run ttok 1 rfl ?_
  refine RJ.fin [(0, .slice A1 a0.length c_1), (1, .int .i64 a1), (5, .pointer (some ⟨b1, 0, none⟩)), (6, .pointer (some ⟨b2, 0, none⟩))] rfl ?_
  refine J.seq ?_
  refine J.seq ?_
  refine J.region ?_
  refine RJ.run ttok 3 rfl ?_
  rcases Bool.eq_false_or_eq_true (decide (a1 < 0)) with c1 | c1
  · replace H := ite_t c1 H
    refine RJ.know (t := 11) rfl (congrArg Value.bool c1) ?_
    refine RJ.run ttok 5 rfl ?_
    refine RJ.fin [(0, .slice A1 a0.length c_1), (1, .int .i64 a1), (5, .pointer (some ⟨b1, 0, none⟩)), (6, .pointer (some ⟨b2, 0, none⟩)), (16, .bool true)] rfl ?_
    refine J.condT rfl ?_
    refine J.seq ?_
    refine J.region ?_
    refine RJ.run ttok 1 rfl ?_
    refine RJ.op rfl rfl (op_store ttok 0 rfl h2 rfl rfl rfl rfl rfl rfl rfl) ?_
    intro _ w3 h3
    replace h3 : St w0 F0 [boxC b2 93 [.string ⟨⟨([] : List UInt8)⟩⟩, .string ⟨⟨([] : List UInt8)⟩⟩, .bool false], boxC b1 93 [.string ⟨⟨a2.1⟩⟩, .string ⟨⟨a2.2.1⟩⟩, .bool a2.2.2]] _ _ := h3
    refine RJ.run ttok 1 rfl ?_
    refine RJ.fin [(6, .pointer (some ⟨b2, 0, none⟩)), (7, .bool false)] rfl ?_
    refine J.ret ?_
    obtain rfl := Option.some.inj H
    exact ⟨_, _, _, (results_two rfl (rvcons (RV.cell ttok 0 h3 rfl rfl rfl rfl) (rvcons (RV.tmp rfl) rvnil)) rfl), ⟨rfl, rfl⟩, h3.only [] rfl⟩
  · replace H := ite_f c1 H
    refine RJ.know (t := 11) rfl (congrArg Value.bool c1) ?_
    refine RJ.run ttok 5 rfl ?_
    refine RJ.fin [(0, .slice A1 a0.length c_1), (1, .int .i64 a1), (5, .pointer (some ⟨b1, 0, none⟩)), (6, .pointer (some ⟨b2, 0, none⟩)), (16, .bool (decide ((a0.length : Int) < a1)))] rfl ?_
    refine J.cond rfl (fun c2 => ?_) (fun c2 => ?_)
    · replace H := ite_t c2 H
      refine J.seq ?_
      refine J.region ?_
      refine RJ.run ttok 1 rfl ?_
      refine RJ.op rfl rfl (op_store ttok 0 rfl h2 rfl rfl rfl rfl rfl rfl rfl) ?_
      intro _ w4 h4
      replace h4 : St w0 F0 [boxC b2 93 [.string ⟨⟨([] : List UInt8)⟩⟩, .string ⟨⟨([] : List UInt8)⟩⟩, .bool false], boxC b1 93 [.string ⟨⟨a2.1⟩⟩, .string ⟨⟨a2.2.1⟩⟩, .bool a2.2.2]] _ _ := h4
      refine RJ.run ttok 1 rfl ?_
      refine RJ.fin [(6, .pointer (some ⟨b2, 0, none⟩)), (7, .bool false)] rfl ?_
      refine J.ret ?_
      obtain rfl := Option.some.inj H
      exact ⟨_, _, _, (results_two rfl (rvcons (RV.cell ttok 0 h4 rfl rfl rfl rfl) (rvcons (RV.tmp rfl) rvnil)) rfl), ⟨rfl, rfl⟩, h4.only [] rfl⟩
    · replace H := ite_f c2 H
      refine J.skip ?_
      refine J.seq ?_
      refine J.region ?_
      refine RJ.run ttok 5 rfl ?_
      refine RJ.op rfl rfl (op_alloc ttok rfl rfl h2) ?_
      rintro _ w5 ⟨b3, rfl, h5⟩
      replace h5 : St w0 F0 [boxC b3 93 [.string ⟨⟨([] : List UInt8)⟩⟩, .string ⟨⟨([] : List UInt8)⟩⟩, .bool false], boxC b2 93 [.string ⟨⟨([] : List UInt8)⟩⟩, .string ⟨⟨([] : List UInt8)⟩⟩, .bool false], boxC b1 93 [.string ⟨⟨a2.1⟩⟩, .string ⟨⟨a2.2.1⟩⟩, .bool a2.2.2]] _ _ := h5
      refine RJ.op rfl rfl (op_store ttok 0 rfl h5 rfl rfl rfl rfl rfl rfl rfl) ?_
      intro _ w6 h6
      replace h6 : St w0 F0 [boxC b3 93 [.string ⟨⟨([] : List UInt8)⟩⟩, .string ⟨⟨([] : List UInt8)⟩⟩, .bool (decide (a1 = (a0.length : Int)))], boxC b2 93 [.string ⟨⟨([] : List UInt8)⟩⟩, .string ⟨⟨([] : List UInt8)⟩⟩, .bool false], boxC b1 93 [.string ⟨⟨a2.1⟩⟩, .string ⟨⟨a2.2.1⟩⟩, .bool a2.2.2]] _ _ := h6
      refine RJ.fin [(0, .slice A1 a0.length c_1), (1, .int .i64 a1), (5, .pointer (some ⟨b1, 0, none⟩)), (6, .pointer (some ⟨b2, 0, none⟩)), (8, .pointer (some ⟨b3, 0, none⟩))] rfl ?_
      refine J.seq ?_
      refine J.seq ?_
      refine J.region ?_
      refine RJ.run ttok 2 rfl ?_
      refine RJ.fin [(0, .slice A1 a0.length c_1), (1, .int .i64 a1), (5, .pointer (some ⟨b1, 0, none⟩)), (6, .pointer (some ⟨b2, 0, none⟩)), (8, .pointer (some ⟨b3, 0, none⟩)), (24, .bool (decide (0 < a1)))] rfl ?_
      refine J.cond rfl (fun c3 => ?_) (fun c3 => ?_)
      · replace H := ite_t c3 H
        refine J.region ?_
        refine RJ.run ttok 3 rfl ?_
        obtain ⟨⟨p1, p2⟩, H⟩ := guard_t H
        have e1 := elem_A h6.wh (Gives.self 3 rfl) p1 p2
        refine RJ.q rfl rfl (q_index ttok rfl rfl rfl rfl rfl e1 p1 p2) ?_
        refine RJ.q rfl rfl (q_load_elem (f := 0) ttok rfl (fun w e => e ▸ h6.wh) (Gives.self 3 rfl) p1 p2 rfl rfl rfl rfl rfl) ?_
        refine RJ.run ttok 1 rfl ?_
        refine RJ.op rfl rfl (op_store ttok 0 rfl h6 rfl rfl rfl rfl rfl rfl rfl) ?_
        intro _ w7 h7
        replace h7 : St w0 F0 [boxC b3 93 [.string ⟨⟨(gt a0 (w64 (a1 - 1)))⟩⟩, .string ⟨⟨([] : List UInt8)⟩⟩, .bool (decide (a1 = (a0.length : Int)))], boxC b2 93 [.string ⟨⟨([] : List UInt8)⟩⟩, .string ⟨⟨([] : List UInt8)⟩⟩, .bool false], boxC b1 93 [.string ⟨⟨a2.1⟩⟩, .string ⟨⟨a2.2.1⟩⟩, .bool a2.2.2]] _ _ := h7
        refine RJ.fin [(0, .slice A1 a0.length c_1), (1, .int .i64 a1), (5, .pointer (some ⟨b1, 0, none⟩)), (6, .pointer (some ⟨b2, 0, none⟩)), (8, .pointer (some ⟨b3, 0, none⟩))] rfl ?_
        refine J.seq ?_
        refine J.seq ?_
        refine J.region ?_
        refine RJ.run ttok 1 rfl ?_
        refine RJ.q rfl rfl (q_load_box ttok 0 (fun w e => e ▸ h7.wh) rfl rfl rfl rfl rfl) ?_
        refine RJ.run ttok 1 rfl ?_
        refine RJ.fin [(0, .slice A1 a0.length c_1), (1, .int .i64 a1), (5, .pointer (some ⟨b1, 0, none⟩)), (6, .pointer (some ⟨b2, 0, none⟩)), (8, .pointer (some ⟨b3, 0, none⟩)), (33, .bool (!(decide (a1 = (a0.length : Int)))))] rfl ?_
        refine J.cond rfl (fun c4 => ?_) (fun c4 => ?_)
        · replace H := ite_t c4 H
          refine J.region ?_
          refine RJ.run ttok 2 rfl ?_
          obtain ⟨⟨p3, p4⟩, H⟩ := guard_t H
          refine RJ.q rfl rfl (q_index ttok rfl rfl rfl rfl rfl e1 p3 p4) ?_
          refine RJ.q rfl rfl (q_load_elem (f := 0) ttok rfl (fun w e => e ▸ h7.wh) (Gives.self 3 rfl) p3 p4 rfl rfl rfl rfl rfl) ?_
          refine RJ.run ttok 1 rfl ?_
          refine RJ.op rfl rfl (op_store ttok 0 rfl h7 rfl rfl rfl rfl rfl rfl rfl) ?_
          intro _ w8 h8
          replace h8 : St w0 F0 [boxC b3 93 [.string ⟨⟨(gt a0 (w64 (a1 - 1)))⟩⟩, .string ⟨⟨(gt a0 a1)⟩⟩, .bool (decide (a1 = (a0.length : Int)))], boxC b2 93 [.string ⟨⟨([] : List UInt8)⟩⟩, .string ⟨⟨([] : List UInt8)⟩⟩, .bool false], boxC b1 93 [.string ⟨⟨a2.1⟩⟩, .string ⟨⟨a2.2.1⟩⟩, .bool a2.2.2]] _ _ := h8
          refine RJ.fin [(5, .pointer (some ⟨b1, 0, none⟩)), (6, .pointer (some ⟨b2, 0, none⟩)), (8, .pointer (some ⟨b3, 0, none⟩))] rfl ?_
          refine J.seq ?_
          refine J.region ?_
          refine RJ.q rfl rfl (q_load_box ttok 0 (fun w e => e ▸ h8.wh) rfl rfl rfl rfl rfl) ?_
          refine RJ.q rfl rfl (q_load_box ttok 2 (fun w e => e ▸ h8.wh) rfl rfl rfl rfl rfl) ?_
          obtain ⟨r1, q1, H⟩ := bind_t H
          refine RJ.op rfl rfl (op_call [] (lex_Meet.spec q1) rfl rfl rfl h8 rfl gnil) ?_
          rintro _ w9 ⟨_, ⟨rfl, rfl⟩, h9⟩
          replace h9 : St w0 F0 [boxC b3 93 [.string ⟨⟨(gt a0 (w64 (a1 - 1)))⟩⟩, .string ⟨⟨(gt a0 a1)⟩⟩, .bool (decide (a1 = (a0.length : Int)))], boxC b2 93 [.string ⟨⟨([] : List UInt8)⟩⟩, .string ⟨⟨([] : List UInt8)⟩⟩, .bool false], boxC b1 93 [.string ⟨⟨a2.1⟩⟩, .string ⟨⟨a2.2.1⟩⟩, .bool a2.2.2]] _ _ := h9
          refine RJ.run ttok 2 rfl ?_
          refine RJ.op rfl rfl (op_store ttok 1 rfl h9 rfl rfl rfl rfl rfl rfl rfl) ?_
          intro _ w10 h10
          replace h10 : St w0 F0 [boxC b2 93 [.string ⟨⟨r1.1.1⟩⟩, .string ⟨⟨r1.1.2.1⟩⟩, .bool r1.1.2.2], boxC b3 93 [.string ⟨⟨(gt a0 (w64 (a1 - 1)))⟩⟩, .string ⟨⟨(gt a0 a1)⟩⟩, .bool (decide (a1 = (a0.length : Int)))], boxC b1 93 [.string ⟨⟨a2.1⟩⟩, .string ⟨⟨a2.2.1⟩⟩, .bool a2.2.2]] _ _ := h10
          refine RJ.run ttok 1 rfl ?_
          refine RJ.fin [(6, .pointer (some ⟨b2, 0, none⟩)), (7, .bool r1.2)] rfl ?_
          have h11 := h10.only [0] rfl
          replace h11 : St w0 F0 [boxC b2 93 [.string ⟨⟨r1.1.1⟩⟩, .string ⟨⟨r1.1.2.1⟩⟩, .bool r1.1.2.2]] _ _ := h11
          refine J.ret ?_
          obtain rfl := Option.some.inj H
          exact ⟨_, _, _, (results_two rfl (rvcons (RV.cell ttok 0 h11 rfl rfl rfl rfl) (rvcons (RV.tmp rfl) rvnil)) rfl), ⟨rfl, rfl⟩, h11.only [] rfl⟩
        · replace H := ite_f c4 H
          refine J.skip ?_
          refine J.seq ?_
          refine J.region ?_
          refine RJ.q rfl rfl (q_load_box ttok 0 (fun w e => e ▸ h7.wh) rfl rfl rfl rfl rfl) ?_
          refine RJ.q rfl rfl (q_load_box ttok 2 (fun w e => e ▸ h7.wh) rfl rfl rfl rfl rfl) ?_
          obtain ⟨r2, q2, H⟩ := bind_t H
          refine RJ.op rfl rfl (op_call [] (lex_Meet.spec q2) rfl rfl rfl h7 rfl gnil) ?_
          rintro _ w11 ⟨_, ⟨rfl, rfl⟩, h12⟩
          replace h12 : St w0 F0 [boxC b3 93 [.string ⟨⟨(gt a0 (w64 (a1 - 1)))⟩⟩, .string ⟨⟨([] : List UInt8)⟩⟩, .bool (decide (a1 = (a0.length : Int)))], boxC b2 93 [.string ⟨⟨([] : List UInt8)⟩⟩, .string ⟨⟨([] : List UInt8)⟩⟩, .bool false], boxC b1 93 [.string ⟨⟨a2.1⟩⟩, .string ⟨⟨a2.2.1⟩⟩, .bool a2.2.2]] _ _ := h12
          refine RJ.run ttok 2 rfl ?_
          refine RJ.op rfl rfl (op_store ttok 1 rfl h12 rfl rfl rfl rfl rfl rfl rfl) ?_
          intro _ w12 h13
          replace h13 : St w0 F0 [boxC b2 93 [.string ⟨⟨r2.1.1⟩⟩, .string ⟨⟨r2.1.2.1⟩⟩, .bool r2.1.2.2], boxC b3 93 [.string ⟨⟨(gt a0 (w64 (a1 - 1)))⟩⟩, .string ⟨⟨([] : List UInt8)⟩⟩, .bool (decide (a1 = (a0.length : Int)))], boxC b1 93 [.string ⟨⟨a2.1⟩⟩, .string ⟨⟨a2.2.1⟩⟩, .bool a2.2.2]] _ _ := h13
          refine RJ.run ttok 1 rfl ?_
          refine RJ.fin [(6, .pointer (some ⟨b2, 0, none⟩)), (7, .bool r2.2)] rfl ?_
          have h14 := h13.only [0] rfl
          replace h14 : St w0 F0 [boxC b2 93 [.string ⟨⟨r2.1.1⟩⟩, .string ⟨⟨r2.1.2.1⟩⟩, .bool r2.1.2.2]] _ _ := h14
          refine J.ret ?_
          obtain rfl := Option.some.inj H
          exact ⟨_, _, _, (results_two rfl (rvcons (RV.cell ttok 0 h14 rfl rfl rfl rfl) (rvcons (RV.tmp rfl) rvnil)) rfl), ⟨rfl, rfl⟩, h14.only [] rfl⟩
      · replace H := ite_f c3 H
        refine J.skip ?_
        refine J.seq ?_
        refine J.seq ?_
        refine J.region ?_
        refine RJ.run ttok 1 rfl ?_
        refine RJ.q rfl rfl (q_load_box ttok 0 (fun w e => e ▸ h6.wh) rfl rfl rfl rfl rfl) ?_
        refine RJ.run ttok 1 rfl ?_
        refine RJ.fin [(0, .slice A1 a0.length c_1), (1, .int .i64 a1), (5, .pointer (some ⟨b1, 0, none⟩)), (6, .pointer (some ⟨b2, 0, none⟩)), (8, .pointer (some ⟨b3, 0, none⟩)), (33, .bool (!(decide (a1 = (a0.length : Int)))))] rfl ?_
        refine J.cond rfl (fun c5 => ?_) (fun c5 => ?_)
        · replace H := ite_t c5 H
          refine J.region ?_
          refine RJ.run ttok 2 rfl ?_
          obtain ⟨⟨p5, p6⟩, H⟩ := guard_t H
          have e2 := elem_A h6.wh (Gives.self 3 rfl) p5 p6
          refine RJ.q rfl rfl (q_index ttok rfl rfl rfl rfl rfl e2 p5 p6) ?_
          refine RJ.q rfl rfl (q_load_elem (f := 0) ttok rfl (fun w e => e ▸ h6.wh) (Gives.self 3 rfl) p5 p6 rfl rfl rfl rfl rfl) ?_
          refine RJ.run ttok 1 rfl ?_
          refine RJ.op rfl rfl (op_store ttok 0 rfl h6 rfl rfl rfl rfl rfl rfl rfl) ?_
          intro _ w13 h15
          replace h15 : St w0 F0 [boxC b3 93 [.string ⟨⟨([] : List UInt8)⟩⟩, .string ⟨⟨(gt a0 a1)⟩⟩, .bool (decide (a1 = (a0.length : Int)))], boxC b2 93 [.string ⟨⟨([] : List UInt8)⟩⟩, .string ⟨⟨([] : List UInt8)⟩⟩, .bool false], boxC b1 93 [.string ⟨⟨a2.1⟩⟩, .string ⟨⟨a2.2.1⟩⟩, .bool a2.2.2]] _ _ := h15
          refine RJ.fin [(5, .pointer (some ⟨b1, 0, none⟩)), (6, .pointer (some ⟨b2, 0, none⟩)), (8, .pointer (some ⟨b3, 0, none⟩))] rfl ?_
          refine J.seq ?_
          refine J.region ?_
          refine RJ.q rfl rfl (q_load_box ttok 0 (fun w e => e ▸ h15.wh) rfl rfl rfl rfl rfl) ?_
          refine RJ.q rfl rfl (q_load_box ttok 2 (fun w e => e ▸ h15.wh) rfl rfl rfl rfl rfl) ?_
          obtain ⟨r3, q3, H⟩ := bind_t H
          refine RJ.op rfl rfl (op_call [] (lex_Meet.spec q3) rfl rfl rfl h15 rfl gnil) ?_
          rintro _ w14 ⟨_, ⟨rfl, rfl⟩, h16⟩
          replace h16 : St w0 F0 [boxC b3 93 [.string ⟨⟨([] : List UInt8)⟩⟩, .string ⟨⟨(gt a0 a1)⟩⟩, .bool (decide (a1 = (a0.length : Int)))], boxC b2 93 [.string ⟨⟨([] : List UInt8)⟩⟩, .string ⟨⟨([] : List UInt8)⟩⟩, .bool false], boxC b1 93 [.string ⟨⟨a2.1⟩⟩, .string ⟨⟨a2.2.1⟩⟩, .bool a2.2.2]] _ _ := h16
          refine RJ.run ttok 2 rfl ?_
          refine RJ.op rfl rfl (op_store ttok 1 rfl h16 rfl rfl rfl rfl rfl rfl rfl) ?_
          intro _ w15 h17
          replace h17 : St w0 F0 [boxC b2 93 [.string ⟨⟨r3.1.1⟩⟩, .string ⟨⟨r3.1.2.1⟩⟩, .bool r3.1.2.2], boxC b3 93 [.string ⟨⟨([] : List UInt8)⟩⟩, .string ⟨⟨(gt a0 a1)⟩⟩, .bool (decide (a1 = (a0.length : Int)))], boxC b1 93 [.string ⟨⟨a2.1⟩⟩, .string ⟨⟨a2.2.1⟩⟩, .bool a2.2.2]] _ _ := h17
          refine RJ.run ttok 1 rfl ?_
          refine RJ.fin [(6, .pointer (some ⟨b2, 0, none⟩)), (7, .bool r3.2)] rfl ?_
          have h18 := h17.only [0] rfl
          replace h18 : St w0 F0 [boxC b2 93 [.string ⟨⟨r3.1.1⟩⟩, .string ⟨⟨r3.1.2.1⟩⟩, .bool r3.1.2.2]] _ _ := h18
          refine J.ret ?_
          obtain rfl := Option.some.inj H
          exact ⟨_, _, _, (results_two rfl (rvcons (RV.cell ttok 0 h18 rfl rfl rfl rfl) (rvcons (RV.tmp rfl) rvnil)) rfl), ⟨rfl, rfl⟩, h18.only [] rfl⟩
        · replace H := ite_f c5 H
          refine J.skip ?_
          refine J.seq ?_
          refine J.region ?_
          refine RJ.q rfl rfl (q_load_box ttok 0 (fun w e => e ▸ h6.wh) rfl rfl rfl rfl rfl) ?_
          refine RJ.q rfl rfl (q_load_box ttok 2 (fun w e => e ▸ h6.wh) rfl rfl rfl rfl rfl) ?_
          obtain ⟨r4, q4, H⟩ := bind_t H
          refine RJ.op rfl rfl (op_call [] (lex_Meet.spec q4) rfl rfl rfl h6 rfl gnil) ?_
          rintro _ w16 ⟨_, ⟨rfl, rfl⟩, h19⟩
          replace h19 : St w0 F0 [boxC b3 93 [.string ⟨⟨([] : List UInt8)⟩⟩, .string ⟨⟨([] : List UInt8)⟩⟩, .bool (decide (a1 = (a0.length : Int)))], boxC b2 93 [.string ⟨⟨([] : List UInt8)⟩⟩, .string ⟨⟨([] : List UInt8)⟩⟩, .bool false], boxC b1 93 [.string ⟨⟨a2.1⟩⟩, .string ⟨⟨a2.2.1⟩⟩, .bool a2.2.2]] _ _ := h19
          refine RJ.run ttok 2 rfl ?_
          refine RJ.op rfl rfl (op_store ttok 1 rfl h19 rfl rfl rfl rfl rfl rfl rfl) ?_
          intro _ w17 h20
          replace h20 : St w0 F0 [boxC b2 93 [.string ⟨⟨r4.1.1⟩⟩, .string ⟨⟨r4.1.2.1⟩⟩, .bool r4.1.2.2], boxC b3 93 [.string ⟨⟨([] : List UInt8)⟩⟩, .string ⟨⟨([] : List UInt8)⟩⟩, .bool (decide (a1 = (a0.length : Int)))], boxC b1 93 [.string ⟨⟨a2.1⟩⟩, .string ⟨⟨a2.2.1⟩⟩, .bool a2.2.2]] _ _ := h20
          refine RJ.run ttok 1 rfl ?_
          refine RJ.fin [(6, .pointer (some ⟨b2, 0, none⟩)), (7, .bool r4.2)] rfl ?_
          have h21 := h20.only [0] rfl
          replace h21 : St w0 F0 [boxC b2 93 [.string ⟨⟨r4.1.1⟩⟩, .string ⟨⟨r4.1.2.1⟩⟩, .bool r4.1.2.2]] _ _ := h21
          refine J.ret ?_
          obtain rfl := Option.some.inj H
          exact ⟨_, _, _, (results_two rfl (rvcons (RV.cell ttok 0 h21 rfl rfl rfl rfl) (rvcons (RV.tmp rfl) rvnil)) rfl), ⟨rfl, rfl⟩, h21.only [] rfl⟩

/-! internal/bytealg.CompareString -/
def bytealg_CompareString.f (a0 : List UInt8) (a1 : List UInt8) : Option (Int) := some (scmp a0 a1)
set_option maxRecDepth 20000 in
set_option maxHeartbeats 40000000 in
theorem bytealg_CompareString.spec {a0 : List UInt8} {a1 : List UInt8}  {r : Int} (H : bytealg_CompareString.f a0 a1 = some r) :
    Spec Try.prog 158 [.string ⟨⟨a0⟩⟩, .string ⟨⟨a1⟩⟩] [] [] (fun v l => v = .int .i64 r ∧ l = []) := by
  refine Spec.enter Try.func158 rfl (by kernel_rfl) (by kernel_rfl) fun w0 F0 h0 => ?_
  unfold bytealg_CompareString.f at H
  refine J.seq ?_
  refine J.region ?_
  refine RJ.run ttok 1 rfl ?_
  refine RJ.fin [(0, .string ⟨⟨a0⟩⟩), (1, .string ⟨⟨a1⟩⟩)] rfl ?_
  refine J.seq ?_
  refine J.region ?_
  refine RJ.run ttok 2 rfl ?_
  refine RJ.q rfl rfl (q_cmpstr cmpstr rfl rfl rfl) ?_
  refine RJ.run ttok 1 rfl ?_
  refine RJ.fin [(4, .int .i64 (scmp a0 a1))] rfl ?_
  refine J.ret ?_
  obtain rfl := Option.some.inj H
  exact ⟨_, _, _, (results_slots rfl), ⟨rfl, rfl⟩, h0.only [] rfl⟩

/-! strings.Compare -/
def strings_Compare.f (a0 : List UInt8) (a1 : List UInt8) : Option (Int) := (bytealg_CompareString.f a0 a1).bind fun r1 => (some r1)
set_option maxRecDepth 20000 in
set_option maxHeartbeats 40000000 in
theorem strings_Compare.spec {a0 : List UInt8} {a1 : List UInt8}  {r : Int} (H : strings_Compare.f a0 a1 = some r) :
    Spec Try.prog 123 [.string ⟨⟨a0⟩⟩, .string ⟨⟨a1⟩⟩] [] [] (fun v l => v = .int .i64 r ∧ l = []) := by
  refine Spec.enter Try.func123 rfl (by kernel_rfl) (by kernel_rfl) fun w0 F0 h0 => ?_
  unfold strings_Compare.f at H
  refine J.seq ?_
  refine J.region ?_
  refine RJ.run ttok 1 rfl ?_
  refine RJ.fin [(0, .string ⟨⟨a0⟩⟩), (1, .string ⟨⟨a1⟩⟩)] rfl ?_
  refine J.seq ?_
  refine J.region ?_
  refine RJ.run ttok 2 rfl ?_
  obtain ⟨r1, q1, H⟩ := bind_t H
  refine RJ.op rfl rfl (op_call [] (bytealg_CompareString.spec q1) rfl rfl rfl h0 rfl gnil) ?_
  rintro _ w1 ⟨_, ⟨rfl, rfl⟩, h1⟩
  replace h1 : St w0 F0 [] _ _ := h1
  refine RJ.run ttok 1 rfl ?_
  refine RJ.fin [(4, .int .i64 r1)] rfl ?_
  refine J.ret ?_
  obtain rfl := Option.some.inj H
  exact ⟨_, _, _, (results_slots rfl), ⟨rfl, rfl⟩, h1.only [] rfl⟩

/-! sluicegate/lex.Compare -/
def lex_Compare.f (a0 : List UInt8) (a1 : List UInt8) : Option (Int) := (strings_Compare.f a0 a1).bind fun r1 => (some r1)
set_option maxRecDepth 20000 in
set_option maxHeartbeats 40000000 in
theorem lex_Compare.spec {a0 : List UInt8} {a1 : List UInt8}  {r : Int} (H : lex_Compare.f a0 a1 = some r) :
    Spec Try.prog 75 [.string ⟨⟨a0⟩⟩, .string ⟨⟨a1⟩⟩] [] [] (fun v l => v = .int .i64 r ∧ l = []) := by
  refine Spec.enter Try.func75 rfl (by kernel_rfl) (by kernel_rfl) fun w0 F0 h0 => ?_
  unfold lex_Compare.f at H
  refine J.seq ?_
  refine J.region ?_
  refine RJ.run ttok 1 rfl ?_
  refine RJ.fin [(0, .string ⟨⟨a0⟩⟩), (1, .string ⟨⟨a1⟩⟩)] rfl ?_
  refine J.seq ?_
  refine J.region ?_
  refine RJ.run ttok 2 rfl ?_
  obtain ⟨r1, q1, H⟩ := bind_t H
  refine RJ.op rfl rfl (op_call [] (strings_Compare.spec q1) rfl rfl rfl h0 rfl gnil) ?_
  rintro _ w1 ⟨_, ⟨rfl, rfl⟩, h1⟩
  replace h1 : St w0 F0 [] _ _ := h1
  refine RJ.run ttok 1 rfl ?_
  refine RJ.fin [(4, .int .i64 r1)] rfl ?_
  refine J.ret ?_
  obtain rfl := Option.some.inj H
  exact ⟨_, _, _, (results_slots rfl), ⟨rfl, rfl⟩, h1.only [] rfl⟩

/-! sluicegate/buf.compare -/
def buf_compare.f (a0 : List UInt8 × Bool × List UInt8) (a1 : List UInt8) : Option (Int) := (lex_Compare.f a0.1 a1).bind fun r1 => (some r1)
set_option maxRecDepth 20000 in
set_option maxHeartbeats 40000000 in
theorem buf_compare.spec {a0 : List UInt8 × Bool × List UInt8} {a1 : List UInt8}  {r : Int} (H : buf_compare.f a0 a1 = some r) :
    Spec Try.prog 160 [.agg #[.string ⟨⟨a0.1⟩⟩, .bool a0.2.1, .string ⟨⟨a0.2.2⟩⟩], .string ⟨⟨a1⟩⟩] [] [] (fun v l => v = .int .i64 r ∧ l = []) := by
  refine Spec.enter Try.func160 rfl (by kernel_rfl) (by kernel_rfl) fun w0 F0 h0 => ?_
  unfold buf_compare.f at H
  refine J.seq ?_
  refine J.region ?_
  refine RJ.op rfl rfl (op_box rfl rfl h0) ?_
  rintro _ w1 ⟨b1, rfl, h1⟩
  replace h1 : St w0 F0 [boxC b1 135 [.string ⟨⟨a0.1⟩⟩, .bool a0.2.1, .string ⟨⟨a0.2.2⟩⟩]] _ _ := h1
  refine RJ.run ttok 1 rfl ?_
  refine RJ.fin [(1, .string ⟨⟨a1⟩⟩), (2, .pointer (some ⟨b1, 0, none⟩))] rfl ?_
  refine J.seq ?_
  refine J.region ?_
  refine RJ.run ttok 1 rfl ?_
  refine RJ.q rfl rfl (q_load_box ttok 0 (fun w e => e ▸ h1.wh) rfl rfl rfl rfl rfl) ?_
  refine RJ.run ttok 1 rfl ?_
  obtain ⟨r1, q1, H⟩ := bind_t H
  refine RJ.op rfl rfl (op_call [] (lex_Compare.spec q1) rfl rfl rfl h1 rfl gnil) ?_
  rintro _ w2 ⟨_, ⟨rfl, rfl⟩, h2⟩
  replace h2 : St w0 F0 [boxC b1 135 [.string ⟨⟨a0.1⟩⟩, .bool a0.2.1, .string ⟨⟨a0.2.2⟩⟩]] _ _ := h2
  refine RJ.run ttok 1 rfl ?_
  refine RJ.fin [(4, .int .i64 r1)] rfl ?_
  refine J.ret ?_
  obtain rfl := Option.some.inj H
  exact ⟨_, _, _, (results_slots rfl), ⟨rfl, rfl⟩, h2.only [] rfl⟩

/-! slices.BinarySearchFunc[[]sluicegate/api.Msg,sluicegate/api.Msg,string] -/
def slices_BinarySearchFunc_api_Msg_api_Msg_string_buf_compare.l0 : Nat → (List (List UInt8 × Bool × List UInt8)) → (List UInt8) → (Int) → (Int) → Option (Int × Bool)
  | 0, _, _, _, _ => none
  | k + 1, a0, a1, x1, x2 => if (decide (x1 < x2)) = true then (if 0 ≤ (w64 ((Int.fdiv (IntKind.u64.wrap ((w64 (x1 + x2)))) (2 ^ 1)))) ∧ (w64 ((Int.fdiv (IntKind.u64.wrap ((w64 (x1 + x2)))) (2 ^ 1)))) < (a0.length : Int) then ((buf_compare.f ((gt a0 (w64 ((Int.fdiv (IntKind.u64.wrap ((w64 (x1 + x2)))) (2 ^ 1))))).1, (gt a0 (w64 ((Int.fdiv (IntKind.u64.wrap ((w64 (x1 + x2)))) (2 ^ 1))))).2.1, (gt a0 (w64 ((Int.fdiv (IntKind.u64.wrap ((w64 (x1 + x2)))) (2 ^ 1))))).2.2) a1).bind fun r1 => (if (decide (r1 < 0)) = true then (slices_BinarySearchFunc_api_Msg_api_Msg_string_buf_compare.l0 k a0 a1 (w64 ((w64 ((Int.fdiv (IntKind.u64.wrap ((w64 (x1 + x2)))) (2 ^ 1)))) + 1)) x2) else (slices_BinarySearchFunc_api_Msg_api_Msg_string_buf_compare.l0 k a0 a1 x1 (w64 ((Int.fdiv (IntKind.u64.wrap ((w64 (x1 + x2)))) (2 ^ 1))))))) else none) else (if (decide (x1 < (a0.length : Int))) = true then (if 0 ≤ x1 ∧ x1 < (a0.length : Int) then ((buf_compare.f ((gt a0 x1).1, (gt a0 x1).2.1, (gt a0 x1).2.2) a1).bind fun r2 => (some (x1, (decide (r2 = 0))))) else none) else (some (x1, false)))
def slices_BinarySearchFunc_api_Msg_api_Msg_string_buf_compare.f (k : Nat) (a0 : List (List UInt8 × Bool × List UInt8)) (a1 : List UInt8) : Option (Int × Bool) := slices_BinarySearchFunc_api_Msg_api_Msg_string_buf_compare.l0 k a0 a1 0 (a0.length : Int)
set_option maxRecDepth 20000 in
set_option maxHeartbeats 40000000 in
theorem slices_BinarySearchFunc_api_Msg_api_Msg_string_buf_compare.spec {k : Nat} {a0 : List (List UInt8 × Bool × List UInt8)} {a1 : List UInt8} {A1 : Option Addr} {c_1 : Nat} {r : Int × Bool} (H : slices_BinarySearchFunc_api_Msg_api_Msg_string_buf_compare.f k a0 a1 = some r) :
    Spec Try.prog 159 [.slice A1 a0.length c_1, .string ⟨⟨a1⟩⟩, .func (.func 160) #[] #[]] [] [rdC 135 (.pair .str (.pair .bool .str)) a0 (.slice A1 a0.length c_1)] (fun v l => v = .tuple #[.int .i64 r.1, .bool r.2] ∧ l = []) := by
  refine Spec.enter Try.func159 rfl (by kernel_rfl) (by kernel_rfl) fun w0 F0 h0 => ?_
  unfold slices_BinarySearchFunc_api_Msg_api_Msg_string_buf_compare.f at H
  refine J.seq ?_
  refine J.region ?_
  refine RJ.run ttok 2 rfl ?_
  refine RJ.fin [(0, .slice A1 a0.length c_1), (1, .string ⟨⟨a1⟩⟩), (2, .func (.func 160) #[] #[])] rfl ?_
  refine J.seq ?_
  refine J.region ?_
  refine RJ.run ttok 3 rfl ?_
  refine RJ.fin [(0, .slice A1 a0.length c_1), (1, .string ⟨⟨a1⟩⟩), (2, .func (.func 160) #[] #[]), (8, .int .i64 (a0.length : Int))] rfl ?_
  refine J.seq ?_
  refine J.region ?_
  refine RJ.run ttok 3 rfl ?_
  refine RJ.fin [(0, .slice A1 a0.length c_1), (1, .string ⟨⟨a1⟩⟩), (2, .func (.func 160) #[] #[]), (8, .int .i64 (a0.length : Int)), (9, .int .i64 0), (10, .int .i64 (a0.length : Int))] rfl ?_
  refine J.seq ?_
  refine J.block ?_
  have h6 := ((h0.only [] rfl).rds [0] rfl)
  refine J.loop (fun k env w => ∃ (x1 : Int) (x2 : Int), env = [(0, .slice A1 a0.length c_1), (1, .string ⟨⟨a1⟩⟩), (2, .func (.func 160) #[] #[]), (8, .int .i64 (a0.length : Int)), (9, .int .i64 x1), (10, .int .i64 x2)] ∧ St w0 F0 [] [rdC 135 (.pair .str (.pair .bool .str)) a0 (.slice A1 a0.length c_1)] w ∧ slices_BinarySearchFunc_api_Msg_api_Msg_string_buf_compare.l0 k a0 a1 x1 x2 = some r) (k := k) ⟨0, (a0.length : Int), rfl, h6, H⟩ ?_
  rintro k1 env w1 ⟨x1, x2, rfl, h1, H⟩
  cases k1 with
  | zero => exact nomatch (show none = some r from H)
  | succ k1 =>
    rw [slices_BinarySearchFunc_api_Msg_api_Msg_string_buf_compare.l0] at H
    refine J.seq ?_
    refine J.seq ?_
    refine J.region ?_
    refine RJ.run ttok 3 rfl ?_
    refine RJ.fin [(0, .slice A1 a0.length c_1), (1, .string ⟨⟨a1⟩⟩), (2, .func (.func 160) #[] #[]), (8, .int .i64 (a0.length : Int)), (9, .int .i64 x1), (10, .int .i64 x2), (17, .bool (decide (x1 < x2)))] rfl ?_
    refine J.cond rfl (fun c1 => ?_) (fun c1 => ?_)
    · replace H := ite_t c1 H
      refine J.skip ?_
      refine J.block ?_
      refine J.seq ?_
      refine J.region ?_
      refine RJ.run ttok 7 rfl ?_
      refine RJ.fin [(0, .slice A1 a0.length c_1), (1, .string ⟨⟨a1⟩⟩), (2, .func (.func 160) #[] #[]), (8, .int .i64 (a0.length : Int)), (9, .int .i64 x1), (10, .int .i64 x2), (11, .int .i64 (w64 ((Int.fdiv (IntKind.u64.wrap ((w64 (x1 + x2)))) (2 ^ 1)))))] rfl ?_
      refine J.seq ?_
      refine J.region ?_
      refine RJ.run ttok 3 rfl ?_
      obtain ⟨⟨p1, p2⟩, H⟩ := guard_t H
      have e1 := elem_A h1.wh (Gives.self 0 rfl) p1 p2
      refine RJ.q rfl rfl (q_index ttok rfl rfl rfl rfl rfl e1 p1 p2) ?_
      refine RJ.q rfl rfl (q_load_elem (f := 0) ttok rfl (fun w e => e ▸ h1.wh) (Gives.self 0 rfl) p1 p2 rfl rfl rfl rfl rfl) ?_
      refine RJ.run ttok 1 rfl ?_
      obtain ⟨r1, q1, H⟩ := bind_t H
      refine RJ.op rfl rfl (op_call [] (buf_compare.spec q1) rfl rfl rfl h1 rfl gnil) ?_
      rintro _ w2 ⟨_, ⟨rfl, rfl⟩, h2⟩
      replace h2 : St w0 F0 [] _ _ := h2
      refine RJ.run ttok 1 rfl ?_
      refine RJ.fin [(0, .slice A1 a0.length c_1), (1, .string ⟨⟨a1⟩⟩), (2, .func (.func 160) #[] #[]), (8, .int .i64 (a0.length : Int)), (9, .int .i64 x1), (10, .int .i64 x2), (11, .int .i64 (w64 ((Int.fdiv (IntKind.u64.wrap ((w64 (x1 + x2)))) (2 ^ 1))))), (31, .bool (decide (r1 < 0)))] rfl ?_
      refine J.cond rfl (fun c2 => ?_) (fun c2 => ?_)
      · replace H := ite_t c2 H
        refine J.region ?_
        refine RJ.run ttok 3 rfl ?_
        refine RJ.fin [(0, .slice A1 a0.length c_1), (1, .string ⟨⟨a1⟩⟩), (2, .func (.func 160) #[] #[]), (8, .int .i64 (a0.length : Int)), (9, .int .i64 (w64 ((w64 ((Int.fdiv (IntKind.u64.wrap ((w64 (x1 + x2)))) (2 ^ 1)))) + 1))), (10, .int .i64 x2)] rfl ?_
        have h3 := ((h2.only [] rfl).rds [0] rfl)
        exact ⟨k1, by omega, (w64 ((w64 ((Int.fdiv (IntKind.u64.wrap ((w64 (x1 + x2)))) (2 ^ 1)))) + 1)), x2, rfl, h3, H⟩
      · replace H := ite_f c2 H
        refine J.region ?_
        refine RJ.run ttok 2 rfl ?_
        refine RJ.fin [(0, .slice A1 a0.length c_1), (1, .string ⟨⟨a1⟩⟩), (2, .func (.func 160) #[] #[]), (8, .int .i64 (a0.length : Int)), (9, .int .i64 x1), (10, .int .i64 (w64 ((Int.fdiv (IntKind.u64.wrap ((w64 (x1 + x2)))) (2 ^ 1)))))] rfl ?_
        have h4 := ((h2.only [] rfl).rds [0] rfl)
        exact ⟨k1, by omega, x1, (w64 ((Int.fdiv (IntKind.u64.wrap ((w64 (x1 + x2)))) (2 ^ 1)))), rfl, h4, H⟩
    · replace H := ite_f c1 H
      refine J.exit ?_
      refine J.seq ?_
      refine J.region ?_
      refine RJ.run ttok 5 rfl ?_
      rcases Bool.eq_false_or_eq_true (decide (x1 < (a0.length : Int))) with c3 | c3
      · replace H := ite_t c3 H
        refine RJ.know (t := 39) rfl (congrArg Value.bool c3) ?_
        refine RJ.run ttok 3 rfl ?_
        obtain ⟨⟨p3, p4⟩, H⟩ := guard_t H
        have e2 := elem_A h1.wh (Gives.self 0 rfl) p3 p4
        refine RJ.q rfl rfl (q_index ttok rfl rfl rfl rfl rfl e2 p3 p4) ?_
        refine RJ.q rfl rfl (q_load_elem (f := 0) ttok rfl (fun w e => e ▸ h1.wh) (Gives.self 0 rfl) p3 p4 rfl rfl rfl rfl rfl) ?_
        refine RJ.run ttok 1 rfl ?_
        obtain ⟨r2, q2, H⟩ := bind_t H
        refine RJ.op rfl rfl (op_call [] (buf_compare.spec q2) rfl rfl rfl h1 rfl gnil) ?_
        rintro _ w3 ⟨_, ⟨rfl, rfl⟩, h5⟩
        replace h5 : St w0 F0 [] _ _ := h5
        refine RJ.run ttok 4 rfl ?_
        refine RJ.fin [(6, .int .i64 x1), (7, .bool (decide (r2 = 0)))] rfl ?_
        refine J.ret ?_
        obtain rfl := Option.some.inj H
        exact ⟨_, _, _, (results_slots rfl), ⟨rfl, rfl⟩, h5.only [] rfl⟩
      · replace H := ite_f c3 H
        refine RJ.know (t := 39) rfl (congrArg Value.bool c3) ?_
        refine RJ.run ttok 11 rfl ?_
        refine RJ.fin [(6, .int .i64 x1), (7, .bool false)] rfl ?_
        refine J.ret ?_
        obtain rfl := Option.some.inj H
        exact ⟨_, _, _, (results_slots rfl), ⟨rfl, rfl⟩, h1.only [] rfl⟩

/-! sluicegate/buf.part -/
def buf_part.f (k : Nat) (a0 : List (List UInt8 × Bool × List UInt8)) (a1 : List UInt8 × List UInt8 × Bool) : Option (Int × Int) := (lex_Empty.f (a1.1, a1.2.1, a1.2.2)).bind fun r1 => (if r1 = true then (some (0, 0)) else ((slices_BinarySearchFunc_api_Msg_api_Msg_string_buf_compare.f k a0 a1.1).bind fun r2 => (if (!a1.2.2) = true then ((slices_BinarySearchFunc_api_Msg_api_Msg_string_buf_compare.f k a0 a1.2.1).bind fun r3 => (some (r2.1, r3.1))) else (some (r2.1, (a0.length : Int))))))
set_option maxRecDepth 20000 in
set_option maxHeartbeats 40000000 in
theorem buf_part.spec {k : Nat} {a0 : List (List UInt8 × Bool × List UInt8)} {a1 : List UInt8 × List UInt8 × Bool} {A1 : Option Addr} {c_1 : Nat} {r : Int × Int} (H : buf_part.f k a0 a1 = some r) :
    Spec Try.prog 134 [.slice A1 a0.length c_1, .agg #[.string ⟨⟨a1.1⟩⟩, .string ⟨⟨a1.2.1⟩⟩, .bool a1.2.2]] [] [rdC 135 (.pair .str (.pair .bool .str)) a0 (.slice A1 a0.length c_1)] (fun v l => v = .tuple #[.int .i64 r.1, .int .i64 r.2] ∧ l = []) := by
  refine Spec.enter Try.func134 rfl (by kernel_rfl) (by kernel_rfl) fun w0 F0 h0 => ?_
  unfold buf_part.f at H
  refine J.seq ?_
  refine J.region ?_
  refine RJ.op rfl rfl (op_box rfl rfl h0) ?_
  rintro _ w1 ⟨b1, rfl, h1⟩
  replace h1 : St w0 F0 [boxC b1 93 [.string ⟨⟨a1.1⟩⟩, .string ⟨⟨a1.2.1⟩⟩, .bool a1.2.2]] _ _ := h1
  refine RJ.run ttok 2 rfl ?_
  refine RJ.fin [(0, .slice A1 a0.length c_1), (3, .pointer (some ⟨b1, 0, none⟩))] rfl ?_
  refine J.seq ?_
  refine J.seq ?_
  refine J.region ?_
  refine RJ.q rfl rfl (q_load_box ttok 0 (fun w e => e ▸ h1.wh) rfl rfl rfl rfl rfl) ?_
  obtain ⟨r1, q1, H⟩ := bind_t H
  refine RJ.op rfl rfl (op_call [] (lex_Empty.spec q1) rfl rfl rfl h1 rfl gnil) ?_
  rintro _ w2 ⟨_, ⟨rfl, rfl⟩, h2⟩
  replace h2 : St w0 F0 [boxC b1 93 [.string ⟨⟨a1.1⟩⟩, .string ⟨⟨a1.2.1⟩⟩, .bool a1.2.2]] _ _ := h2
  refine RJ.fin [(0, .slice A1 a0.length c_1), (3, .pointer (some ⟨b1, 0, none⟩)), (10, .bool r1)] rfl ?_
  refine J.cond rfl (fun c1 => ?_) (fun c1 => ?_)
  · replace H := ite_t c1 H
    refine J.seq ?_
    refine J.region ?_
    refine RJ.run ttok 2 rfl ?_
    refine RJ.fin [(4, .int .i64 0), (5, .int .i64 0)] rfl ?_
    refine J.ret ?_
    obtain rfl := Option.some.inj H
    exact ⟨_, _, _, (results_slots rfl), ⟨rfl, rfl⟩, h2.only [] rfl⟩
  · replace H := ite_f c1 H
    refine J.skip ?_
    refine J.seq ?_
    refine J.region ?_
    refine RJ.run ttok 2 rfl ?_
    refine RJ.q rfl rfl (q_load_box ttok 0 (fun w e => e ▸ h2.wh) rfl rfl rfl rfl rfl) ?_
    obtain ⟨r2, q2, H⟩ := bind_t H
    refine RJ.op rfl rfl (op_call [] (slices_BinarySearchFunc_api_Msg_api_Msg_string_buf_compare.spec q2) rfl rfl rfl h2 rfl (gcons (Gives.self 1 rfl) gnil)) ?_
    rintro _ w3 ⟨_, ⟨rfl, rfl⟩, h3⟩
    replace h3 : St w0 F0 [boxC b1 93 [.string ⟨⟨a1.1⟩⟩, .string ⟨⟨a1.2.1⟩⟩, .bool a1.2.2]] _ _ := h3
    refine RJ.run ttok 5 rfl ?_
    refine RJ.fin [(0, .slice A1 a0.length c_1), (3, .pointer (some ⟨b1, 0, none⟩)), (6, .int .i64 r2.1)] rfl ?_
    refine J.seq ?_
    refine J.region ?_
    refine RJ.run ttok 3 rfl ?_
    refine RJ.fin [(0, .slice A1 a0.length c_1), (3, .pointer (some ⟨b1, 0, none⟩)), (6, .int .i64 r2.1), (8, .int .i64 (a0.length : Int))] rfl ?_
    refine J.seq ?_
    refine J.seq ?_
    refine J.region ?_
    refine RJ.run ttok 1 rfl ?_
    refine RJ.q rfl rfl (q_load_box ttok 0 (fun w e => e ▸ h3.wh) rfl rfl rfl rfl rfl) ?_
    refine RJ.run ttok 1 rfl ?_
    refine RJ.fin [(0, .slice A1 a0.length c_1), (3, .pointer (some ⟨b1, 0, none⟩)), (6, .int .i64 r2.1), (8, .int .i64 (a0.length : Int)), (22, .bool (!a1.2.2))] rfl ?_
    refine J.cond rfl (fun c2 => ?_) (fun c2 => ?_)
    · replace H := ite_t c2 H
      refine J.region ?_
      refine RJ.run ttok 2 rfl ?_
      refine RJ.q rfl rfl (q_load_box ttok 0 (fun w e => e ▸ h3.wh) rfl rfl rfl rfl rfl) ?_
      obtain ⟨r3, q3, H⟩ := bind_t H
      refine RJ.op rfl rfl (op_call [] (slices_BinarySearchFunc_api_Msg_api_Msg_string_buf_compare.spec q3) rfl rfl rfl h3 rfl (gcons (Gives.self 1 rfl) gnil)) ?_
      rintro _ w4 ⟨_, ⟨rfl, rfl⟩, h4⟩
      replace h4 : St w0 F0 [boxC b1 93 [.string ⟨⟨a1.1⟩⟩, .string ⟨⟨a1.2.1⟩⟩, .bool a1.2.2]] _ _ := h4
      refine RJ.run ttok 4 rfl ?_
      refine RJ.fin [(6, .int .i64 r2.1), (8, .int .i64 r3.1)] rfl ?_
      refine J.seq ?_
      refine J.region ?_
      refine RJ.run ttok 4 rfl ?_
      refine RJ.fin [(4, .int .i64 r2.1), (5, .int .i64 r3.1)] rfl ?_
      refine J.ret ?_
      obtain rfl := Option.some.inj H
      exact ⟨_, _, _, (results_slots rfl), ⟨rfl, rfl⟩, h4.only [] rfl⟩
    · replace H := ite_f c2 H
      refine J.skip ?_
      refine J.seq ?_
      refine J.region ?_
      refine RJ.run ttok 4 rfl ?_
      refine RJ.fin [(4, .int .i64 r2.1), (5, .int .i64 (a0.length : Int))] rfl ?_
      refine J.ret ?_
      obtain rfl := Option.some.inj H
      exact ⟨_, _, _, (results_slots rfl), ⟨rfl, rfl⟩, h3.only [] rfl⟩

/-! slices.Grow[[]sluicegate/api.Msg,sluicegate/api.Msg] -/
def slices_Grow_api_Msg_api_Msg_nil.f (a1 : Int) : Option ((List (List UInt8 × Bool × List UInt8))) := if (decide (a1 < 0)) = true then (none) else (if (decide (0 < (w64 (a1 - (w64 ((0 : Int) - (([] : List (List UInt8 × Bool × List UInt8)).length : Int))))))) = true then (if (0 : Int) ≤ (0 : Int) ∧ (0 : Int) ≤ (([] : List (List UInt8 × Bool × List UInt8)).length : Int) then (if 0 ≤ (w64 (a1 - (w64 ((0 : Int) - (([] : List (List UInt8 × Bool × List UInt8)).length : Int))))) ∧ ((([] : List (List UInt8 × Bool × List UInt8)).length : Int) + (w64 (a1 - (w64 ((0 : Int) - (([] : List (List UInt8 × Bool × List UInt8)).length : Int)))))) * 40 ≤ 140737488355328 then (if (0 : Int) ≤ (([] : List (List UInt8 × Bool × List UInt8)).length : Int) ∧ (([] : List (List UInt8 × Bool × List UInt8)).length : Int) ≤ ((([] : List (List UInt8 × Bool × List UInt8)) ++ List.replicate (w64 (a1 - (w64 ((0 : Int) - (([] : List (List UInt8 × Bool × List UInt8)).length : Int))))).toNat (([] : List UInt8), false, ([] : List UInt8))).length : Int) then (some ((([] : List (List UInt8 × Bool × List UInt8)) ++ List.replicate (w64 (a1 - (w64 ((0 : Int) - (([] : List (List UInt8 × Bool × List UInt8)).length : Int))))).toNat (([] : List UInt8), false, ([] : List UInt8))).take ((([] : List (List UInt8 × Bool × List UInt8)).length : Int)).toNat)) else none) else none) else none) else (some ([] : List (List UInt8 × Bool × List UInt8))))
set_option maxRecDepth 20000 in
set_option maxHeartbeats 40000000 in
theorem slices_Grow_api_Msg_api_Msg_nil.spec {a1 : Int}  {r : (List (List UInt8 × Bool × List UInt8))} (H : slices_Grow_api_Msg_api_Msg_nil.f a1 = some r) :
    Spec Try.prog 161 [.slice none ([] : List (List UInt8 × Bool × List UInt8)).length 0, .int .i64 a1] [] [] (fun v l => ∃ (A_0 : Option Addr) (c_0 : Nat), v = .slice A_0 r.length c_0 ∧ l = [ownC 135 (.pair .str (.pair .bool .str)) r (.slice A_0 r.length c_0)]) := by
  refine Spec.enter Try.func161 rfl (by kernel_rfl) (by kernel_rfl) fun w0 F0 h0 => ?_
  unfold slices_Grow_api_Msg_api_Msg_nil.f at H
  refine J.seq ?_
  refine J.region ?_
  refine RJ.run ttok 1 rfl ?_
  refine RJ.fin [(0, .slice none ([] : List (List UInt8 × Bool × List UInt8)).length 0), (1, .int .i64 a1)] rfl ?_
  refine J.seq ?_
  refine J.seq ?_
  refine J.region ?_
  refine RJ.run ttok 2 rfl ?_
  refine RJ.fin [(0, .slice none ([] : List (List UInt8 × Bool × List UInt8)).length 0), (1, .int .i64 a1), (6, .bool (decide (a1 < 0)))] rfl ?_
  refine J.cond rfl (fun c1 => ?_) (fun c1 => ?_)
  · replace H := ite_t c1 H
    exact nomatch H
  · replace H := ite_f c1 H
    refine J.skip ?_
    refine J.seq ?_
    refine J.seq ?_
    refine J.region ?_
    refine RJ.run ttok 8 rfl ?_
    refine RJ.fin [(0, .slice none ([] : List (List UInt8 × Bool × List UInt8)).length 0), (1, .int .i64 (w64 (a1 - (w64 ((0 : Int) - (([] : List (List UInt8 × Bool × List UInt8)).length : Int))))))] rfl ?_
    refine J.seq ?_
    refine J.region ?_
    refine RJ.run ttok 2 rfl ?_
    refine RJ.fin [(0, .slice none ([] : List (List UInt8 × Bool × List UInt8)).length 0), (1, .int .i64 (w64 (a1 - (w64 ((0 : Int) - (([] : List (List UInt8 × Bool × List UInt8)).length : Int)))))), (16, .bool (decide (0 < (w64 (a1 - (w64 ((0 : Int) - (([] : List (List UInt8 × Bool × List UInt8)).length : Int))))))))] rfl ?_
    refine J.cond rfl (fun c2 => ?_) (fun c2 => ?_)
    · replace H := ite_t c2 H
      refine J.region ?_
      refine RJ.run ttok 3 rfl ?_
      obtain ⟨⟨p1, p2⟩, H⟩ := guard_t H
      have h1 := h0.addNil 135 (.pair .str (.pair .bool .str))
      have e1 := h1.cap (Gives.of 0 rfl own_rd)
      refine RJ.q rfl rfl (q_cut0 (h := (0 : Int)) (sub := ([] : List (List UInt8 × Bool × List UInt8))) ttok rfl rfl rfl rfl e1 ⟨_, rfl⟩ p1 p2 (List.take_nil)) ?_
      refine RJ.run ttok 1 rfl ?_
      obtain ⟨⟨p3, p4⟩, H⟩ := guard_t H
      refine RJ.op rfl rfl (op_append_zeros ttok (ty := (.pair .str (.pair .bool .str))) rfl (([] : List UInt8), false, ([] : List UInt8)) 0 rfl h1 rfl rfl rfl rfl rfl rfl rfl rfl (by decide) (by decide) p3 p4) ?_
      rintro _ w1 ⟨A1, c_1, rfl, h2⟩
      replace h2 : St w0 F0 [ownC 135 (.pair .str (.pair .bool .str)) (([] : List (List UInt8 × Bool × List UInt8)) ++ List.replicate (w64 (a1 - (w64 ((0 : Int) - (([] : List (List UInt8 × Bool × List UInt8)).length : Int))))).toNat (([] : List UInt8), false, ([] : List UInt8))) (.slice A1 (([] : List (List UInt8 × Bool × List UInt8)) ++ List.replicate (w64 (a1 - (w64 ((0 : Int) - (([] : List (List UInt8 × Bool × List UInt8)).length : Int))))).toNat (([] : List UInt8), false, ([] : List UInt8))).length c_1)] _ _ := h2
      refine RJ.run ttok 2 rfl ?_
      obtain ⟨⟨p5, p6⟩, H⟩ := guard_t H
      have e2 := h2.cap (Gives.of 0 rfl own_rd)
      refine RJ.q rfl rfl (q_cut0 (h := (([] : List (List UInt8 × Bool × List UInt8)).length : Int)) (sub := ((([] : List (List UInt8 × Bool × List UInt8)) ++ List.replicate (w64 (a1 - (w64 ((0 : Int) - (([] : List (List UInt8 × Bool × List UInt8)).length : Int))))).toNat (([] : List UInt8), false, ([] : List UInt8))).take ((([] : List (List UInt8 × Bool × List UInt8)).length : Int)).toNat)) ttok rfl rfl rfl rfl e2 ⟨_, rfl⟩ p5 p6 rfl) ?_
      refine RJ.run ttok 1 rfl ?_
      refine RJ.fin [(0, .slice A1 ((([] : List (List UInt8 × Bool × List UInt8)) ++ List.replicate (w64 (a1 - (w64 ((0 : Int) - (([] : List (List UInt8 × Bool × List UInt8)).length : Int))))).toNat (([] : List UInt8), false, ([] : List UInt8))).take ((([] : List (List UInt8 × Bool × List UInt8)).length : Int)).toNat).length c_1)] rfl ?_
      refine J.seq ?_
      refine J.region ?_
      refine RJ.run ttok 2 rfl ?_
      refine RJ.fin [(4, .slice A1 ((([] : List (List UInt8 × Bool × List UInt8)) ++ List.replicate (w64 (a1 - (w64 ((0 : Int) - (([] : List (List UInt8 × Bool × List UInt8)).length : Int))))).toNat (([] : List UInt8), false, ([] : List UInt8))).take ((([] : List (List UInt8 × Bool × List UInt8)).length : Int)).toNat).length c_1)] rfl ?_
      refine J.ret ?_
      have h3 := h2.front (ty := (.pair .str (.pair .bool .str))) rfl 0 (([] : List (List UInt8 × Bool × List UInt8)).length : Int).toNat rfl (by omega)
      obtain rfl := Option.some.inj H
      exact ⟨_, _, _, (results_slots rfl), ⟨_, _, rfl, rfl⟩, h3.only [0] rfl⟩
    · replace H := ite_f c2 H
      refine J.skip ?_
      refine J.seq ?_
      refine J.region ?_
      refine RJ.run ttok 2 rfl ?_
      refine RJ.fin [(4, .slice none ([] : List (List UInt8 × Bool × List UInt8)).length 0)] rfl ?_
      refine J.ret ?_
      have h4 := h0.addNil 135 (.pair .str (.pair .bool .str))
      obtain rfl := Option.some.inj H
      exact ⟨_, _, _, (results_slots rfl), ⟨_, _, rfl, rfl⟩, h4.only [0] rfl⟩

/-! slices.Concat[[]sluicegate/api.Msg,sluicegate/api.Msg] -/
def slices_Concat_api_Msg_api_Msg.l1 : Nat → (List (List (List UInt8 × Bool × List UInt8))) → (List (List UInt8 × Bool × List UInt8)) → (Int) → Option ((List (List UInt8 × Bool × List UInt8)))
  | 0, _, _, _ => none
  | k + 1, a0, x3, x4 => if (decide (x4 < (a0.length : Int))) = true then (if 0 ≤ x4 ∧ x4 < (a0.length : Int) then (if (x3.length + (gt a0 x4).length) * 40 ≤ 140737488355328 then (slices_Concat_api_Msg_api_Msg.l1 k a0 (x3 ++ (gt a0 x4)) (w64 (x4 + 1))) else none) else none) else (some x3)
def slices_Concat_api_Msg_api_Msg.l0 : Nat → (List (List (List UInt8 × Bool × List UInt8))) → (Int) → (Int) → Option ((List (List UInt8 × Bool × List UInt8)))
  | 0, _, _, _ => none
  | k + 1, a0, x1, x2 => if (decide (x2 < (a0.length : Int))) = true then (if 0 ≤ x2 ∧ x2 < (a0.length : Int) then (if (decide ((w64 (x1 + ((gt a0 x2).length : Int))) < 0)) = true then (none) else (slices_Concat_api_Msg_api_Msg.l0 k a0 (w64 (x1 + ((gt a0 x2).length : Int))) (w64 (x2 + 1)))) else none) else ((slices_Grow_api_Msg_api_Msg_nil.f x1).bind fun r1 => (slices_Concat_api_Msg_api_Msg.l1 k a0 r1 0))
def slices_Concat_api_Msg_api_Msg.f (k : Nat) (a0 : List (List (List UInt8 × Bool × List UInt8))) : Option ((List (List UInt8 × Bool × List UInt8))) := slices_Concat_api_Msg_api_Msg.l0 k a0 0 0
set_option maxRecDepth 20000 in
set_option maxHeartbeats 40000000 in
theorem slices_Concat_api_Msg_api_Msg.spec {k : Nat} {a0 : List (List (List UInt8 × Bool × List UInt8))} {A1 : Option Addr} {c_1 : Nat} {r : (List (List UInt8 × Bool × List UInt8))} (H : slices_Concat_api_Msg_api_Msg.f k a0 = some r) :
    Spec Try.prog 135 [.slice A1 a0.length c_1] [] [rdC 84 (.slice 135 (.pair .str (.pair .bool .str))) a0 (.slice A1 a0.length c_1)] (fun v l => ∃ (A_0 : Option Addr) (c_0 : Nat), v = .slice A_0 r.length c_0 ∧ l = [ownC 135 (.pair .str (.pair .bool .str)) r (.slice A_0 r.length c_0)]) := by
  refine Spec.enter Try.func135 rfl (by kernel_rfl) (by kernel_rfl) fun w0 F0 h0 => ?_
  unfold slices_Concat_api_Msg_api_Msg.f at H
  refine J.seq ?_
  refine J.region ?_
  refine RJ.run ttok 1 rfl ?_
  refine RJ.fin [(0, .slice A1 a0.length c_1)] rfl ?_
  refine J.seq ?_
  refine J.region ?_
  refine RJ.run ttok 1 rfl ?_
  refine RJ.fin [(0, .slice A1 a0.length c_1), (3, .int .i64 0)] rfl ?_
  refine J.seq ?_
  refine J.seq ?_
  refine J.region ?_
  refine RJ.run ttok 3 rfl ?_
  refine RJ.fin [(0, .slice A1 a0.length c_1), (3, .int .i64 0), (9, .slice A1 a0.length c_1), (10, .int .i64 (a0.length : Int)), (11, .int .i64 0)] rfl ?_
  refine J.block ?_
  have h10 := ((h0.only [] rfl).rds [0] rfl)
  refine J.loop (fun k env w => ∃ (x1 : Int) (x2 : Int), env = [(0, .slice A1 a0.length c_1), (3, .int .i64 x1), (9, .slice A1 a0.length c_1), (10, .int .i64 (a0.length : Int)), (11, .int .i64 x2)] ∧ St w0 F0 [] [rdC 84 (.slice 135 (.pair .str (.pair .bool .str))) a0 (.slice A1 a0.length c_1)] w ∧ slices_Concat_api_Msg_api_Msg.l0 k a0 x1 x2 = some r) (k := k) ⟨0, 0, rfl, h10, H⟩ ?_
  rintro k1 env w1 ⟨x1, x2, rfl, h1, H⟩
  cases k1 with
  | zero => exact nomatch (show none = some r from H)
  | succ k1 =>
    rw [slices_Concat_api_Msg_api_Msg.l0] at H
    refine J.seq ?_
    refine J.region ?_
    refine RJ.run ttok 1 rfl ?_
    refine RJ.fin [(0, .slice A1 a0.length c_1), (3, .int .i64 x1), (9, .slice A1 a0.length c_1), (10, .int .i64 (a0.length : Int)), (11, .int .i64 x2), (12, .bool (decide (x2 < (a0.length : Int))))] rfl ?_
    refine J.seq ?_
    refine J.cond rfl (fun c1 => ?_) (fun c1 => ?_)
    · replace H := ite_t c1 H
      refine J.skip ?_
      refine J.seq ?_
      refine J.block ?_
      refine J.seq ?_
      refine J.region ?_
      obtain ⟨⟨p1, p2⟩, H⟩ := guard_t H
      have e1 := elem_A h1.wh (Gives.self 0 rfl) p1 p2
      refine RJ.q rfl rfl (q_index ttok rfl rfl rfl rfl rfl e1 p1 p2) ?_
      obtain ⟨cs1, h2⟩ := h1.elem 0 rfl p1 p2
      obtain ⟨A2, c_2, rfl⟩ := St.okslice 0 h2 rfl
      refine RJ.q rfl rfl (q_load_el (f := 0) ttok (fun w e => e ▸ h2.wh) (Gives.self 1 rfl) rfl rfl rfl rfl) ?_
      refine RJ.run ttok 1 rfl ?_
      refine RJ.fin [(0, .slice A1 a0.length c_1), (3, .int .i64 x1), (5, .slice A2 (gt a0 x2).length c_2), (9, .slice A1 a0.length c_1), (10, .int .i64 (a0.length : Int)), (11, .int .i64 x2)] rfl ?_
      refine J.seq ?_
      refine J.region ?_
      refine RJ.run ttok 5 rfl ?_
      refine RJ.fin [(0, .slice A1 a0.length c_1), (3, .int .i64 (w64 (x1 + ((gt a0 x2).length : Int)))), (9, .slice A1 a0.length c_1), (10, .int .i64 (a0.length : Int)), (11, .int .i64 x2)] rfl ?_
      refine J.seq ?_
      refine J.region ?_
      refine RJ.run ttok 2 rfl ?_
      refine RJ.fin [(0, .slice A1 a0.length c_1), (3, .int .i64 (w64 (x1 + ((gt a0 x2).length : Int)))), (9, .slice A1 a0.length c_1), (10, .int .i64 (a0.length : Int)), (11, .int .i64 x2), (20, .bool (decide ((w64 (x1 + ((gt a0 x2).length : Int))) < 0)))] rfl ?_
      refine J.cond rfl (fun c2 => ?_) (fun c2 => ?_)
      · replace H := ite_t c2 H
        exact nomatch H
      · replace H := ite_f c2 H
        refine J.skip ?_
        refine J.region ?_
        refine RJ.run ttok 2 rfl ?_
        refine RJ.fin [(0, .slice A1 a0.length c_1), (3, .int .i64 (w64 (x1 + ((gt a0 x2).length : Int)))), (9, .slice A1 a0.length c_1), (10, .int .i64 (a0.length : Int)), (11, .int .i64 (w64 (x2 + 1)))] rfl ?_
        have h3 := ((h2.only [] rfl).rds [2] rfl)
        exact ⟨k1, by omega, (w64 (x1 + ((gt a0 x2).length : Int))), (w64 (x2 + 1)), rfl, h3, H⟩
    · replace H := ite_f c1 H
      refine J.exit ?_
      refine J.seq ?_
      refine J.region ?_
      refine RJ.run ttok 1 rfl ?_
      obtain ⟨r1, q1, H⟩ := bind_t H
      refine RJ.op rfl rfl (op_call [] (slices_Grow_api_Msg_api_Msg_nil.spec q1) rfl rfl rfl h1 rfl gnil) ?_
      rintro _ w2 ⟨_, ⟨A3, c_3, rfl, rfl⟩, h4⟩
      replace h4 : St w0 F0 [ownC 135 (.pair .str (.pair .bool .str)) r1 (.slice A3 r1.length c_3)] _ _ := h4
      refine RJ.run ttok 1 rfl ?_
      refine RJ.fin [(0, .slice A1 a0.length c_1), (6, .slice A3 r1.length c_3)] rfl ?_
      refine J.seq ?_
      refine J.seq ?_
      refine J.region ?_
      refine RJ.run ttok 3 rfl ?_
      refine RJ.fin [(6, .slice A3 r1.length c_3), (25, .slice A1 a0.length c_1), (26, .int .i64 (a0.length : Int)), (27, .int .i64 0)] rfl ?_
      refine J.block ?_
      have h9 := ((h4.only [0] rfl).rds [0] rfl)
      refine J.loop (fun k env w => ∃ (x3 : List (List UInt8 × Bool × List UInt8)) (A4 : Option Addr) (c_4 : Nat) (x4 : Int), env = [(6, .slice A4 x3.length c_4), (25, .slice A1 a0.length c_1), (26, .int .i64 (a0.length : Int)), (27, .int .i64 x4)] ∧ St w0 F0 [ownC 135 (.pair .str (.pair .bool .str)) x3 (.slice A4 x3.length c_4)] [rdC 84 (.slice 135 (.pair .str (.pair .bool .str))) a0 (.slice A1 a0.length c_1)] w ∧ slices_Concat_api_Msg_api_Msg.l1 k a0 x3 x4 = some r) (k := k1) ⟨r1, A3, c_3, 0, rfl, h9, H⟩ ?_
      rintro k2 env w3 ⟨x3, A4, c_4, x4, rfl, h5, H⟩
      cases k2 with
      | zero => exact nomatch (show none = some r from H)
      | succ k2 =>
        rw [slices_Concat_api_Msg_api_Msg.l1] at H
        refine J.seq ?_
        refine J.region ?_
        refine RJ.run ttok 1 rfl ?_
        refine RJ.fin [(6, .slice A4 x3.length c_4), (25, .slice A1 a0.length c_1), (26, .int .i64 (a0.length : Int)), (27, .int .i64 x4), (28, .bool (decide (x4 < (a0.length : Int))))] rfl ?_
        refine J.seq ?_
        refine J.cond rfl (fun c3 => ?_) (fun c3 => ?_)
        · replace H := ite_t c3 H
          refine J.skip ?_
          refine J.seq ?_
          refine J.block ?_
          refine J.seq ?_
          refine J.region ?_
          obtain ⟨⟨p3, p4⟩, H⟩ := guard_t H
          have e2 := elem_A h5.wh (Gives.self 1 rfl) p3 p4
          refine RJ.q rfl rfl (q_index ttok rfl rfl rfl rfl rfl e2 p3 p4) ?_
          obtain ⟨cs2, h6⟩ := h5.elem 0 rfl p3 p4
          obtain ⟨A5, c_5, rfl⟩ := St.okslice 0 h6 rfl
          refine RJ.q rfl rfl (q_load_el (f := 0) ttok (fun w e => e ▸ h6.wh) (Gives.self 2 rfl) rfl rfl rfl rfl) ?_
          refine RJ.run ttok 1 rfl ?_
          refine RJ.fin [(6, .slice A4 x3.length c_4), (8, .slice A5 (gt a0 x4).length c_5), (25, .slice A1 a0.length c_1), (26, .int .i64 (a0.length : Int)), (27, .int .i64 x4)] rfl ?_
          refine J.region ?_
          refine RJ.run ttok 2 rfl ?_
          obtain ⟨p5, H⟩ := guard_t H
          refine RJ.op rfl rfl (op_append ttok rfl 0 rfl h6 rfl (Gives.self 0 rfl) rfl rfl rfl rfl rfl rfl (by decide) (by decide) p5) ?_
          rintro _ w4 ⟨A6, c_6, rfl, h7⟩
          replace h7 : St w0 F0 [ownC 135 (.pair .str (.pair .bool .str)) (x3 ++ (gt a0 x4)) (.slice A6 (x3 ++ (gt a0 x4)).length c_6)] _ _ := h7
          refine RJ.run ttok 1 rfl ?_
          refine RJ.fin [(6, .slice A6 (x3 ++ (gt a0 x4)).length c_6), (25, .slice A1 a0.length c_1), (26, .int .i64 (a0.length : Int)), (27, .int .i64 x4)] rfl ?_
          refine J.region ?_
          refine RJ.run ttok 2 rfl ?_
          refine RJ.fin [(6, .slice A6 (x3 ++ (gt a0 x4)).length c_6), (25, .slice A1 a0.length c_1), (26, .int .i64 (a0.length : Int)), (27, .int .i64 (w64 (x4 + 1)))] rfl ?_
          have h8 := ((h7.only [0] rfl).rds [2] rfl)
          exact ⟨k2, by omega, (x3 ++ (gt a0 x4)), A6, c_6, (w64 (x4 + 1)), rfl, h8, H⟩
        · replace H := ite_f c3 H
          refine J.exit ?_
          refine J.seq ?_
          refine J.region ?_
          refine RJ.run ttok 2 rfl ?_
          refine RJ.fin [(2, .slice A4 x3.length c_4)] rfl ?_
          refine J.ret ?_
          obtain rfl := Option.some.inj H
          exact ⟨_, _, _, (results_slots rfl), ⟨_, _, rfl, rfl⟩, h5.only [0] rfl⟩

/-! sluicegate/buf.Take -/
def buf_Take.f (k : Nat) (a0 : List (List UInt8 × Bool × List UInt8)) (a1 : List UInt8 × List UInt8 × Bool) (a2 : Int) : Option ((List (List UInt8 × Bool × List UInt8)) × (List (List UInt8 × Bool × List UInt8))) := (buf_part.f k a0 (a1.1, a1.2.1, a1.2.2)).bind fun r1 => (if 0 ≤ r1.1 ∧ r1.1 ≤ (w64 (r1.1 + (if (if a2 < (w64 (r1.2 - r1.1)) then a2 else (w64 (r1.2 - r1.1))) > 0 then (if a2 < (w64 (r1.2 - r1.1)) then a2 else (w64 (r1.2 - r1.1))) else 0))) ∧ (w64 (r1.1 + (if (if a2 < (w64 (r1.2 - r1.1)) then a2 else (w64 (r1.2 - r1.1))) > 0 then (if a2 < (w64 (r1.2 - r1.1)) then a2 else (w64 (r1.2 - r1.1))) else 0))) ≤ (a0.length : Int) then (if (0 : Int) ≤ r1.1 ∧ r1.1 ≤ (a0.length : Int) then (if 0 ≤ (w64 (r1.1 + (if (if a2 < (w64 (r1.2 - r1.1)) then a2 else (w64 (r1.2 - r1.1))) > 0 then (if a2 < (w64 (r1.2 - r1.1)) then a2 else (w64 (r1.2 - r1.1))) else 0))) ∧ (w64 (r1.1 + (if (if a2 < (w64 (r1.2 - r1.1)) then a2 else (w64 (r1.2 - r1.1))) > 0 then (if a2 < (w64 (r1.2 - r1.1)) then a2 else (w64 (r1.2 - r1.1))) else 0))) ≤ (a0.length : Int) then ((slices_Clone_api_Msg_api_Msg.f ((a0.drop (r1.1).toNat).take (((w64 (r1.1 + (if (if a2 < (w64 (r1.2 - r1.1)) then a2 else (w64 (r1.2 - r1.1))) > 0 then (if a2 < (w64 (r1.2 - r1.1)) then a2 else (w64 (r1.2 - r1.1))) else 0)))).toNat - (r1.1).toNat))).bind fun r2 => ((slices_Concat_api_Msg_api_Msg.f k ([(a0.take (r1.1).toNat), (a0.drop ((w64 (r1.1 + (if (if a2 < (w64 (r1.2 - r1.1)) then a2 else (w64 (r1.2 - r1.1))) > 0 then (if a2 < (w64 (r1.2 - r1.1)) then a2 else (w64 (r1.2 - r1.1))) else 0)))).toNat)] : List (List (List UInt8 × Bool × List UInt8)))).bind fun r3 => (some (r2, r3)))) else none) else none) else none)
set_option maxRecDepth 20000 in
set_option maxHeartbeats 40000000 in
theorem buf_Take.spec {k : Nat} {a0 : List (List UInt8 × Bool × List UInt8)} {a1 : List UInt8 × List UInt8 × Bool} {a2 : Int} {A1 : Option Addr} {c_1 : Nat} {r : (List (List UInt8 × Bool × List UInt8)) × (List (List UInt8 × Bool × List UInt8))} (H : buf_Take.f k a0 a1 a2 = some r) :
    Spec Try.prog 85 [.slice A1 a0.length c_1, .agg #[.string ⟨⟨a1.1⟩⟩, .string ⟨⟨a1.2.1⟩⟩, .bool a1.2.2], .int .i64 a2] [] [rdC 135 (.pair .str (.pair .bool .str)) a0 (.slice A1 a0.length c_1)] (fun v l => ∃ (A_0 : Option Addr) (c_0 : Nat) (A_1 : Option Addr) (c_1 : Nat), v = .tuple #[.slice A_0 r.1.length c_0, .slice A_1 r.2.length c_1] ∧ l = [ownC 135 (.pair .str (.pair .bool .str)) r.1 (.slice A_0 r.1.length c_0), ownC 135 (.pair .str (.pair .bool .str)) r.2 (.slice A_1 r.2.length c_1)]) := by
  refine Spec.enter Try.func85 rfl (by kernel_rfl) (by kernel_rfl) fun w0 F0 h0 => ?_
  unfold buf_Take.f at H
  refine J.seq ?_
  refine J.region ?_
  refine RJ.op rfl rfl (op_box rfl rfl h0) ?_
  rintro _ w1 ⟨b1, rfl, h1⟩
  replace h1 : St w0 F0 [boxC b1 93 [.string ⟨⟨a1.1⟩⟩, .string ⟨⟨a1.2.1⟩⟩, .bool a1.2.2]] _ _ := h1
  refine RJ.run ttok 2 rfl ?_
  refine RJ.fin [(0, .slice A1 a0.length c_1), (2, .int .i64 a2), (4, .pointer (some ⟨b1, 0, none⟩))] rfl ?_
  refine J.seq ?_
  refine J.region ?_
  refine RJ.run ttok 1 rfl ?_
  refine RJ.q rfl rfl (q_load_box ttok 0 (fun w e => e ▸ h1.wh) rfl rfl rfl rfl rfl) ?_
  obtain ⟨r1, q1, H⟩ := bind_t H
  refine RJ.op rfl rfl (op_call [] (buf_part.spec q1) rfl rfl rfl h1 rfl (gcons (Gives.self 1 rfl) gnil)) ?_
  rintro _ w2 ⟨_, ⟨rfl, rfl⟩, h2⟩
  replace h2 : St w0 F0 [boxC b1 93 [.string ⟨⟨a1.1⟩⟩, .string ⟨⟨a1.2.1⟩⟩, .bool a1.2.2]] _ _ := h2
  refine RJ.run ttok 5 rfl ?_
  refine RJ.fin [(0, .slice A1 a0.length c_1), (2, .int .i64 a2), (8, .int .i64 r1.1), (9, .int .i64 r1.2)] rfl ?_
  refine J.seq ?_
  refine J.region ?_
  refine RJ.run ttok 9 rfl ?_
  refine RJ.fin [(0, .slice A1 a0.length c_1), (8, .int .i64 r1.1), (9, .int .i64 (w64 (r1.1 + (if (if a2 < (w64 (r1.2 - r1.1)) then a2 else (w64 (r1.2 - r1.1))) > 0 then (if a2 < (w64 (r1.2 - r1.1)) then a2 else (w64 (r1.2 - r1.1))) else 0))))] rfl ?_
  refine J.seq ?_
  obtain ⟨⟨p1, p2, p3⟩, H⟩ := guard_t H
  obtain ⟨⟨p4, p5⟩, H⟩ := guard_t H
  obtain ⟨⟨p6, p7⟩, H⟩ := guard_t H
  obtain ⟨r2, q2, H⟩ := bind_t H
  obtain ⟨r3, q3, H⟩ := bind_t H
  refine J.midS (fun env w => ∃ (A2 : Option Addr) (c_2 : Nat) (A3 : Option Addr) (c_3 : Nat), env = [(6, .slice A2 r2.length c_2), (7, .slice A3 r3.length c_3)] ∧ St w0 F0 [ownC 135 (.pair .str (.pair .bool .str)) r2 (.slice A2 r2.length c_2), ownC 135 (.pair .str (.pair .bool .str)) r3 (.slice A3 r3.length c_3), boxC b1 93 [.string ⟨⟨a1.1⟩⟩, .string ⟨⟨a1.2.1⟩⟩, .bool a1.2.2]] [rdC 135 (.pair .str (.pair .bool .str)) a0 (.slice A1 a0.length c_1)] w) ?_ ?_
  · refine J.heldSt mix h2 ?_
    have h8 := h2.drew
    refine HJ.run ttok rfl [0, 1, 2, 5, 6, 8, 9] rfl ?_
    have e4 := h8.cap (Gives.self 1 rfl)
    refine HJ.q (i := 3) rfl rfl rfl rfl rfl rfl (q_cut (l := r1.1) (h := (w64 (r1.1 + (if (if a2 < (w64 (r1.2 - r1.1)) then a2 else (w64 (r1.2 - r1.1))) > 0 then (if a2 < (w64 (r1.2 - r1.1)) then a2 else (w64 (r1.2 - r1.1))) else 0)))) (sub := ((a0.drop (r1.1).toNat).take (((w64 (r1.1 + (if (if a2 < (w64 (r1.2 - r1.1)) then a2 else (w64 (r1.2 - r1.1))) > 0 then (if a2 < (w64 (r1.2 - r1.1)) then a2 else (w64 (r1.2 - r1.1))) else 0)))).toNat - (r1.1).toNat))) ttok rfl rfl rfl rfl e4 ⟨_, rfl⟩ ⟨_, rfl⟩ p1 p2 p3 rfl) ?_
    have e5 := h8.cap (Gives.self 1 rfl)
    refine HJ.q (i := 7) rfl rfl rfl rfl rfl rfl (q_cut0 (h := r1.1) (sub := (a0.take (r1.1).toNat)) ttok rfl rfl rfl rfl e5 ⟨_, rfl⟩ p4 p5 rfl) ?_
    have e6 := h8.cap (Gives.self 1 rfl)
    refine HJ.q (i := 10) rfl rfl rfl rfl rfl rfl (q_cut (l := (w64 (r1.1 + (if (if a2 < (w64 (r1.2 - r1.1)) then a2 else (w64 (r1.2 - r1.1))) > 0 then (if a2 < (w64 (r1.2 - r1.1)) then a2 else (w64 (r1.2 - r1.1))) else 0)))) (h := (a0.length : Int)) (sub := (a0.drop ((w64 (r1.1 + (if (if a2 < (w64 (r1.2 - r1.1)) then a2 else (w64 (r1.2 - r1.1))) > 0 then (if a2 < (w64 (r1.2 - r1.1)) then a2 else (w64 (r1.2 - r1.1))) else 0)))).toNat)) ttok rfl rfl rfl rfl e6 ⟨_, rfl⟩ rfl p6 p7 (Int.le_refl _) (cut_from _ _)) ?_
    refine HJ.pick [4, 11] (i := 4) rfl rfl rfl rfl ?_
    refine (hscons ?_ (hscons ?_ hsnil))
    · refine HS.op (i := 4) rfl rfl rfl (op_call [] (slices_Clone_api_Msg_api_Msg.spec q2) rfl rfl rfl h8 rfl (gcons ((Gives.self 1 rfl).trans (rd_cut (ty := (.pair .str (.pair .bool .str))) (l := r1.1) (h := (w64 (r1.1 + (if (if a2 < (w64 (r1.2 - r1.1)) then a2 else (w64 (r1.2 - r1.1))) > 0 then (if a2 < (w64 (r1.2 - r1.1)) then a2 else (w64 (r1.2 - r1.1))) else 0)))) (sub := ((a0.drop (r1.1).toNat).take (((w64 (r1.1 + (if (if a2 < (w64 (r1.2 - r1.1)) then a2 else (w64 (r1.2 - r1.1))) > 0 then (if a2 < (w64 (r1.2 - r1.1)) then a2 else (w64 (r1.2 - r1.1))) else 0)))).toNat - (r1.1).toNat))) rfl p1 p2 p3 rfl)) gnil)) ?_
      rintro _ w6 ⟨_, ⟨A4, c_4, rfl, rfl⟩, h9⟩
      replace h9 : St w0 F0 [ownC 135 (.pair .str (.pair .bool .str)) r2 (.slice A4 r2.length c_4), boxC b1 93 [.string ⟨⟨a1.1⟩⟩, .string ⟨⟨a1.2.1⟩⟩, .bool a1.2.2]] _ _ := h9
      refine ⟨⟨[_], h9⟩, ?_⟩
      have h10 := h9.read (k := 0) rfl (rd_cut0 (ty := (.pair .str (.pair .bool .str))) (h := r1.1) (sub := (a0.take (r1.1).toNat)) p4 p5 rfl)
      have h11 := h10.read (k := 1) rfl (rd_cut (ty := (.pair .str (.pair .bool .str))) (l := (w64 (r1.1 + (if (if a2 < (w64 (r1.2 - r1.1)) then a2 else (w64 (r1.2 - r1.1))) > 0 then (if a2 < (w64 (r1.2 - r1.1)) then a2 else (w64 (r1.2 - r1.1))) else 0)))) (h := (a0.length : Int)) (sub := (a0.drop ((w64 (r1.1 + (if (if a2 < (w64 (r1.2 - r1.1)) then a2 else (w64 (r1.2 - r1.1))) > 0 then (if a2 < (w64 (r1.2 - r1.1)) then a2 else (w64 (r1.2 - r1.1))) else 0)))).toNat)) rfl p6 p7 (Int.le_refl _) (cut_from _ _))
      refine HJ.op (i := 11) rfl rfl rfl rfl rfl (op_lit_rd ttok (.slice 135 (.pair .str (.pair .bool .str))) ([(a0.take (r1.1).toNat), (a0.drop ((w64 (r1.1 + (if (if a2 < (w64 (r1.2 - r1.1)) then a2 else (w64 (r1.2 - r1.1))) > 0 then (if a2 < (w64 (r1.2 - r1.1)) then a2 else (w64 (r1.2 - r1.1))) else 0)))).toNat)] : List (List (List UInt8 × Bool × List UInt8))) rfl h11 rfl rfl (by decide) rfl rfl rfl rfl rfl rfl ⟨(.inl (Gives.self 1 rfl)), ⟨(.inl (Gives.self 0 rfl)), trivial⟩⟩) ?_
      rintro _ w7 ⟨b3, rfl, h12⟩
      replace h12 : St w0 F0 [ownC 135 (.pair .str (.pair .bool .str)) r2 (.slice A4 r2.length c_4), boxC b1 93 [.string ⟨⟨a1.1⟩⟩, .string ⟨⟨a1.2.1⟩⟩, .bool a1.2.2]] _ _ := h12
      refine ⟨⟨[_], (h12.rds [3] rfl)⟩, ?_⟩
      refine HJ.op (i := 12) rfl rfl rfl rfl rfl (op_call [] (slices_Concat_api_Msg_api_Msg.spec q3) rfl rfl rfl h12 rfl (gcons (Gives.self 2 rfl) gnil)) ?_
      rintro _ w8 ⟨_, ⟨A5, c_5, rfl, rfl⟩, h13⟩
      replace h13 : St w0 F0 [ownC 135 (.pair .str (.pair .bool .str)) r3 (.slice A5 r3.length c_5), ownC 135 (.pair .str (.pair .bool .str)) r2 (.slice A4 r2.length c_4), boxC b1 93 [.string ⟨⟨a1.1⟩⟩, .string ⟨⟨a1.2.1⟩⟩, .bool a1.2.2]] _ _ := h13
      refine ⟨⟨[_, _], (h13.rds [3] rfl)⟩, ?_⟩
      refine HJ.run ttok rfl [13, 14] rfl ?_
      refine HJ.fin [(6, .slice A4 r2.length c_4), (7, .slice A5 r3.length c_5)] rfl rfl ?_
      exact thenP_intro ⟨A4, c_4, A5, c_5, rfl, ((h13.only [1, 0, 0] rfl).rds [3] rfl)⟩
    · have h14 := h8.read (k := 0) rfl (rd_cut0 (ty := (.pair .str (.pair .bool .str))) (h := r1.1) (sub := (a0.take (r1.1).toNat)) p4 p5 rfl)
      have h15 := h14.read (k := 1) rfl (rd_cut (ty := (.pair .str (.pair .bool .str))) (l := (w64 (r1.1 + (if (if a2 < (w64 (r1.2 - r1.1)) then a2 else (w64 (r1.2 - r1.1))) > 0 then (if a2 < (w64 (r1.2 - r1.1)) then a2 else (w64 (r1.2 - r1.1))) else 0)))) (h := (a0.length : Int)) (sub := (a0.drop ((w64 (r1.1 + (if (if a2 < (w64 (r1.2 - r1.1)) then a2 else (w64 (r1.2 - r1.1))) > 0 then (if a2 < (w64 (r1.2 - r1.1)) then a2 else (w64 (r1.2 - r1.1))) else 0)))).toNat)) rfl p6 p7 (Int.le_refl _) (cut_from _ _))
      refine HS.op (i := 11) rfl rfl rfl (op_lit_rd ttok (.slice 135 (.pair .str (.pair .bool .str))) ([(a0.take (r1.1).toNat), (a0.drop ((w64 (r1.1 + (if (if a2 < (w64 (r1.2 - r1.1)) then a2 else (w64 (r1.2 - r1.1))) > 0 then (if a2 < (w64 (r1.2 - r1.1)) then a2 else (w64 (r1.2 - r1.1))) else 0)))).toNat)] : List (List (List UInt8 × Bool × List UInt8))) rfl h15 rfl rfl (by decide) rfl rfl rfl rfl rfl rfl ⟨(.inl (Gives.self 1 rfl)), ⟨(.inl (Gives.self 0 rfl)), trivial⟩⟩) ?_
      rintro _ w9 ⟨b4, rfl, h16⟩
      replace h16 : St w0 F0 [boxC b1 93 [.string ⟨⟨a1.1⟩⟩, .string ⟨⟨a1.2.1⟩⟩, .bool a1.2.2]] _ _ := h16
      refine ⟨⟨[], (h16.rds [3] rfl)⟩, ?_⟩
      refine HJ.op (i := 4) rfl rfl rfl rfl rfl (op_call [] (slices_Clone_api_Msg_api_Msg.spec q2) rfl rfl rfl h16 rfl (gcons ((Gives.self 4 rfl).trans (rd_cut (ty := (.pair .str (.pair .bool .str))) (l := r1.1) (h := (w64 (r1.1 + (if (if a2 < (w64 (r1.2 - r1.1)) then a2 else (w64 (r1.2 - r1.1))) > 0 then (if a2 < (w64 (r1.2 - r1.1)) then a2 else (w64 (r1.2 - r1.1))) else 0)))) (sub := ((a0.drop (r1.1).toNat).take (((w64 (r1.1 + (if (if a2 < (w64 (r1.2 - r1.1)) then a2 else (w64 (r1.2 - r1.1))) > 0 then (if a2 < (w64 (r1.2 - r1.1)) then a2 else (w64 (r1.2 - r1.1))) else 0)))).toNat - (r1.1).toNat))) rfl p1 p2 p3 rfl)) gnil)) ?_
      rintro _ w10 ⟨_, ⟨A6, c_6, rfl, rfl⟩, h17⟩
      replace h17 : St w0 F0 [ownC 135 (.pair .str (.pair .bool .str)) r2 (.slice A6 r2.length c_6), boxC b1 93 [.string ⟨⟨a1.1⟩⟩, .string ⟨⟨a1.2.1⟩⟩, .bool a1.2.2]] _ _ := h17
      refine ⟨⟨[_], (h17.rds [3] rfl)⟩, ?_⟩
      refine HJ.op (i := 12) rfl rfl rfl rfl rfl (op_call [] (slices_Concat_api_Msg_api_Msg.spec q3) rfl rfl rfl h17 rfl (gcons (Gives.self 2 rfl) gnil)) ?_
      rintro _ w11 ⟨_, ⟨A7, c_7, rfl, rfl⟩, h18⟩
      replace h18 : St w0 F0 [ownC 135 (.pair .str (.pair .bool .str)) r3 (.slice A7 r3.length c_7), ownC 135 (.pair .str (.pair .bool .str)) r2 (.slice A6 r2.length c_6), boxC b1 93 [.string ⟨⟨a1.1⟩⟩, .string ⟨⟨a1.2.1⟩⟩, .bool a1.2.2]] _ _ := h18
      refine ⟨⟨[_, _], (h18.rds [3] rfl)⟩, ?_⟩
      refine HJ.run ttok rfl [13, 14] rfl ?_
      refine HJ.fin [(6, .slice A6 r2.length c_6), (7, .slice A7 r3.length c_7)] rfl rfl ?_
      exact thenP_intro ⟨A6, c_6, A7, c_7, rfl, ((h18.only [1, 0, 0] rfl).rds [3] rfl)⟩
  · rintro env w12 ⟨A2, c_2, A3, c_3, rfl, h19⟩
    refine J.ret ?_
    obtain rfl := Option.some.inj H
    exact ⟨_, _, _, (results_slots rfl), ⟨_, _, _, _, rfl, rfl⟩, h19.only [0, 0] rfl⟩

/-! sluicegate/leaf.compare -/
def leaf_compare.f (a0 : List UInt8 × List UInt8) (a1 : List UInt8) : Option (Int) := (lex_Compare.f a0.1 a1).bind fun r1 => (some r1)
set_option maxRecDepth 20000 in
set_option maxHeartbeats 40000000 in
theorem leaf_compare.spec {a0 : List UInt8 × List UInt8} {a1 : List UInt8}  {r : Int} (H : leaf_compare.f a0 a1 = some r) :
    Spec Try.prog 119 [.agg #[.string ⟨⟨a0.1⟩⟩, .string ⟨⟨a0.2⟩⟩], .string ⟨⟨a1⟩⟩] [] [] (fun v l => v = .int .i64 r ∧ l = []) := by
  refine Spec.enter Try.func119 rfl (by kernel_rfl) (by kernel_rfl) fun w0 F0 h0 => ?_
  unfold leaf_compare.f at H
  refine J.seq ?_
  refine J.region ?_
  refine RJ.op rfl rfl (op_box rfl rfl h0) ?_
  rintro _ w1 ⟨b1, rfl, h1⟩
  replace h1 : St w0 F0 [boxC b1 75 [.string ⟨⟨a0.1⟩⟩, .string ⟨⟨a0.2⟩⟩]] _ _ := h1
  refine RJ.run ttok 1 rfl ?_
  refine RJ.fin [(1, .string ⟨⟨a1⟩⟩), (2, .pointer (some ⟨b1, 0, none⟩))] rfl ?_
  refine J.seq ?_
  refine J.region ?_
  refine RJ.run ttok 1 rfl ?_
  refine RJ.q rfl rfl (q_load_box ttok 0 (fun w e => e ▸ h1.wh) rfl rfl rfl rfl rfl) ?_
  refine RJ.run ttok 1 rfl ?_
  obtain ⟨r1, q1, H⟩ := bind_t H
  refine RJ.op rfl rfl (op_call [] (lex_Compare.spec q1) rfl rfl rfl h1 rfl gnil) ?_
  rintro _ w2 ⟨_, ⟨rfl, rfl⟩, h2⟩
  replace h2 : St w0 F0 [boxC b1 75 [.string ⟨⟨a0.1⟩⟩, .string ⟨⟨a0.2⟩⟩]] _ _ := h2
  refine RJ.run ttok 1 rfl ?_
  refine RJ.fin [(4, .int .i64 r1)] rfl ?_
  refine J.ret ?_
  obtain rfl := Option.some.inj H
  exact ⟨_, _, _, (results_slots rfl), ⟨rfl, rfl⟩, h2.only [] rfl⟩

/-! slices.BinarySearchFunc[[]sluicegate/api.Pair,sluicegate/api.Pair,string] -/
def slices_BinarySearchFunc_api_Pair_api_Pair_string_leaf_compare.l0 : Nat → (List (List UInt8 × List UInt8)) → (List UInt8) → (Int) → (Int) → Option (Int × Bool)
  | 0, _, _, _, _ => none
  | k + 1, a0, a1, x1, x2 => if (decide (x1 < x2)) = true then (if 0 ≤ (w64 ((Int.fdiv (IntKind.u64.wrap ((w64 (x1 + x2)))) (2 ^ 1)))) ∧ (w64 ((Int.fdiv (IntKind.u64.wrap ((w64 (x1 + x2)))) (2 ^ 1)))) < (a0.length : Int) then ((leaf_compare.f ((gt a0 (w64 ((Int.fdiv (IntKind.u64.wrap ((w64 (x1 + x2)))) (2 ^ 1))))).1, (gt a0 (w64 ((Int.fdiv (IntKind.u64.wrap ((w64 (x1 + x2)))) (2 ^ 1))))).2) a1).bind fun r1 => (if (decide (r1 < 0)) = true then (slices_BinarySearchFunc_api_Pair_api_Pair_string_leaf_compare.l0 k a0 a1 (w64 ((w64 ((Int.fdiv (IntKind.u64.wrap ((w64 (x1 + x2)))) (2 ^ 1)))) + 1)) x2) else (slices_BinarySearchFunc_api_Pair_api_Pair_string_leaf_compare.l0 k a0 a1 x1 (w64 ((Int.fdiv (IntKind.u64.wrap ((w64 (x1 + x2)))) (2 ^ 1))))))) else none) else (if (decide (x1 < (a0.length : Int))) = true then (if 0 ≤ x1 ∧ x1 < (a0.length : Int) then ((leaf_compare.f ((gt a0 x1).1, (gt a0 x1).2) a1).bind fun r2 => (some (x1, (decide (r2 = 0))))) else none) else (some (x1, false)))
def slices_BinarySearchFunc_api_Pair_api_Pair_string_leaf_compare.f (k : Nat) (a0 : List (List UInt8 × List UInt8)) (a1 : List UInt8) : Option (Int × Bool) := slices_BinarySearchFunc_api_Pair_api_Pair_string_leaf_compare.l0 k a0 a1 0 (a0.length : Int)
set_option maxRecDepth 20000 in
set_option maxHeartbeats 40000000 in
theorem slices_BinarySearchFunc_api_Pair_api_Pair_string_leaf_compare.spec {k : Nat} {a0 : List (List UInt8 × List UInt8)} {a1 : List UInt8} {A1 : Option Addr} {c_1 : Nat} {r : Int × Bool} (H : slices_BinarySearchFunc_api_Pair_api_Pair_string_leaf_compare.f k a0 a1 = some r) :
    Spec Try.prog 118 [.slice A1 a0.length c_1, .string ⟨⟨a1⟩⟩, .func (.func 119) #[] #[]] [] [rdC 75 (.pair .str .str) a0 (.slice A1 a0.length c_1)] (fun v l => v = .tuple #[.int .i64 r.1, .bool r.2] ∧ l = []) := by
  refine Spec.enter Try.func118 rfl (by kernel_rfl) (by kernel_rfl) fun w0 F0 h0 => ?_
  unfold slices_BinarySearchFunc_api_Pair_api_Pair_string_leaf_compare.f at H
  refine J.seq ?_
  refine J.region ?_
  refine RJ.run ttok 2 rfl ?_
  refine RJ.fin [(0, .slice A1 a0.length c_1), (1, .string ⟨⟨a1⟩⟩), (2, .func (.func 119) #[] #[])] rfl ?_
  refine J.seq ?_
  refine J.region ?_
  refine RJ.run ttok 3 rfl ?_
  refine RJ.fin [(0, .slice A1 a0.length c_1), (1, .string ⟨⟨a1⟩⟩), (2, .func (.func 119) #[] #[]), (8, .int .i64 (a0.length : Int))] rfl ?_
  refine J.seq ?_
  refine J.region ?_
  refine RJ.run ttok 3 rfl ?_
  refine RJ.fin [(0, .slice A1 a0.length c_1), (1, .string ⟨⟨a1⟩⟩), (2, .func (.func 119) #[] #[]), (8, .int .i64 (a0.length : Int)), (9, .int .i64 0), (10, .int .i64 (a0.length : Int))] rfl ?_
  refine J.seq ?_
  refine J.block ?_
  have h6 := ((h0.only [] rfl).rds [0] rfl)
  refine J.loop (fun k env w => ∃ (x1 : Int) (x2 : Int), env = [(0, .slice A1 a0.length c_1), (1, .string ⟨⟨a1⟩⟩), (2, .func (.func 119) #[] #[]), (8, .int .i64 (a0.length : Int)), (9, .int .i64 x1), (10, .int .i64 x2)] ∧ St w0 F0 [] [rdC 75 (.pair .str .str) a0 (.slice A1 a0.length c_1)] w ∧ slices_BinarySearchFunc_api_Pair_api_Pair_string_leaf_compare.l0 k a0 a1 x1 x2 = some r) (k := k) ⟨0, (a0.length : Int), rfl, h6, H⟩ ?_
  rintro k1 env w1 ⟨x1, x2, rfl, h1, H⟩
  cases k1 with
  | zero => exact nomatch (show none = some r from H)
  | succ k1 =>
    rw [slices_BinarySearchFunc_api_Pair_api_Pair_string_leaf_compare.l0] at H
    refine J.seq ?_
    refine J.seq ?_
    refine J.region ?_
    refine RJ.run ttok 3 rfl ?_
    refine RJ.fin [(0, .slice A1 a0.length c_1), (1, .string ⟨⟨a1⟩⟩), (2, .func (.func 119) #[] #[]), (8, .int .i64 (a0.length : Int)), (9, .int .i64 x1), (10, .int .i64 x2), (17, .bool (decide (x1 < x2)))] rfl ?_
    refine J.cond rfl (fun c1 => ?_) (fun c1 => ?_)
    · replace H := ite_t c1 H
      refine J.skip ?_
      refine J.block ?_
      refine J.seq ?_
      refine J.region ?_
      refine RJ.run ttok 7 rfl ?_
      refine RJ.fin [(0, .slice A1 a0.length c_1), (1, .string ⟨⟨a1⟩⟩), (2, .func (.func 119) #[] #[]), (8, .int .i64 (a0.length : Int)), (9, .int .i64 x1), (10, .int .i64 x2), (11, .int .i64 (w64 ((Int.fdiv (IntKind.u64.wrap ((w64 (x1 + x2)))) (2 ^ 1)))))] rfl ?_
      refine J.seq ?_
      refine J.region ?_
      refine RJ.run ttok 3 rfl ?_
      obtain ⟨⟨p1, p2⟩, H⟩ := guard_t H
      have e1 := elem_A h1.wh (Gives.self 0 rfl) p1 p2
      refine RJ.q rfl rfl (q_index ttok rfl rfl rfl rfl rfl e1 p1 p2) ?_
      refine RJ.q rfl rfl (q_load_elem (f := 0) ttok rfl (fun w e => e ▸ h1.wh) (Gives.self 0 rfl) p1 p2 rfl rfl rfl rfl rfl) ?_
      refine RJ.run ttok 1 rfl ?_
      obtain ⟨r1, q1, H⟩ := bind_t H
      refine RJ.op rfl rfl (op_call [] (leaf_compare.spec q1) rfl rfl rfl h1 rfl gnil) ?_
      rintro _ w2 ⟨_, ⟨rfl, rfl⟩, h2⟩
      replace h2 : St w0 F0 [] _ _ := h2
      refine RJ.run ttok 1 rfl ?_
      refine RJ.fin [(0, .slice A1 a0.length c_1), (1, .string ⟨⟨a1⟩⟩), (2, .func (.func 119) #[] #[]), (8, .int .i64 (a0.length : Int)), (9, .int .i64 x1), (10, .int .i64 x2), (11, .int .i64 (w64 ((Int.fdiv (IntKind.u64.wrap ((w64 (x1 + x2)))) (2 ^ 1))))), (31, .bool (decide (r1 < 0)))] rfl ?_
      refine J.cond rfl (fun c2 => ?_) (fun c2 => ?_)
      · replace H := ite_t c2 H
        refine J.region ?_
        refine RJ.run ttok 3 rfl ?_
        refine RJ.fin [(0, .slice A1 a0.length c_1), (1, .string ⟨⟨a1⟩⟩), (2, .func (.func 119) #[] #[]), (8, .int .i64 (a0.length : Int)), (9, .int .i64 (w64 ((w64 ((Int.fdiv (IntKind.u64.wrap ((w64 (x1 + x2)))) (2 ^ 1)))) + 1))), (10, .int .i64 x2)] rfl ?_
        have h3 := ((h2.only [] rfl).rds [0] rfl)
        exact ⟨k1, by omega, (w64 ((w64 ((Int.fdiv (IntKind.u64.wrap ((w64 (x1 + x2)))) (2 ^ 1)))) + 1)), x2, rfl, h3, H⟩
      · replace H := ite_f c2 H
        refine J.region ?_
        refine RJ.run ttok 2 rfl ?_
        refine RJ.fin [(0, .slice A1 a0.length c_1), (1, .string ⟨⟨a1⟩⟩), (2, .func (.func 119) #[] #[]), (8, .int .i64 (a0.length : Int)), (9, .int .i64 x1), (10, .int .i64 (w64 ((Int.fdiv (IntKind.u64.wrap ((w64 (x1 + x2)))) (2 ^ 1)))))] rfl ?_
        have h4 := ((h2.only [] rfl).rds [0] rfl)
        exact ⟨k1, by omega, x1, (w64 ((Int.fdiv (IntKind.u64.wrap ((w64 (x1 + x2)))) (2 ^ 1)))), rfl, h4, H⟩
    · replace H := ite_f c1 H
      refine J.exit ?_
      refine J.seq ?_
      refine J.region ?_
      refine RJ.run ttok 5 rfl ?_
      rcases Bool.eq_false_or_eq_true (decide (x1 < (a0.length : Int))) with c3 | c3
      · replace H := ite_t c3 H
        refine RJ.know (t := 39) rfl (congrArg Value.bool c3) ?_
        refine RJ.run ttok 3 rfl ?_
        obtain ⟨⟨p3, p4⟩, H⟩ := guard_t H
        have e2 := elem_A h1.wh (Gives.self 0 rfl) p3 p4
        refine RJ.q rfl rfl (q_index ttok rfl rfl rfl rfl rfl e2 p3 p4) ?_
        refine RJ.q rfl rfl (q_load_elem (f := 0) ttok rfl (fun w e => e ▸ h1.wh) (Gives.self 0 rfl) p3 p4 rfl rfl rfl rfl rfl) ?_
        refine RJ.run ttok 1 rfl ?_
        obtain ⟨r2, q2, H⟩ := bind_t H
        refine RJ.op rfl rfl (op_call [] (leaf_compare.spec q2) rfl rfl rfl h1 rfl gnil) ?_
        rintro _ w3 ⟨_, ⟨rfl, rfl⟩, h5⟩
        replace h5 : St w0 F0 [] _ _ := h5
        refine RJ.run ttok 4 rfl ?_
        refine RJ.fin [(6, .int .i64 x1), (7, .bool (decide (r2 = 0)))] rfl ?_
        refine J.ret ?_
        obtain rfl := Option.some.inj H
        exact ⟨_, _, _, (results_slots rfl), ⟨rfl, rfl⟩, h5.only [] rfl⟩
      · replace H := ite_f c3 H
        refine RJ.know (t := 39) rfl (congrArg Value.bool c3) ?_
        refine RJ.run ttok 11 rfl ?_
        refine RJ.fin [(6, .int .i64 x1), (7, .bool false)] rfl ?_
        refine J.ret ?_
        obtain rfl := Option.some.inj H
        exact ⟨_, _, _, (results_slots rfl), ⟨rfl, rfl⟩, h1.only [] rfl⟩

/-! slices.Delete[[]sluicegate/api.Pair,sluicegate/api.Pair] -/
def slices_Delete_api_Pair_api_Pair.f (a0 : List (List UInt8 × List UInt8)) (a1 : Int) (a2 : Int) : Option (List (List UInt8 × List UInt8)) :=
  if 0 ≤ a1 ∧ a1 ≤ a2 ∧ a2 ≤ (a0.length : Int) then some (a0.take a1.toNat ++ a0.drop a2.toNat) else none
set_option maxRecDepth 20000 in
set_option maxHeartbeats 4000000 in
theorem slices_Delete_api_Pair_api_Pair.spec {a0 : List (List UInt8 × List UInt8)} {a1 : Int} {a2 : Int} {A1 : Option Addr} {c_1 : Nat} {r : List (List UInt8 × List UInt8)} (H : slices_Delete_api_Pair_api_Pair.f a0 a1 a2 = some r) :
    Spec Try.prog 120 [.slice A1 a0.length c_1, .int .i64 a1, .int .i64 a2] [ownC 75 (.pair .str .str) a0 (.slice A1 a0.length c_1)] []
      (fun v l => ∃ (A_0 : Option Addr) (c_0 : Nat), v = .slice A_0 r.length c_0 ∧ l = [ownC 75 (.pair .str .str) r (.slice A_0 r.length c_0)]) := by
  refine Spec.enter Try.func120 rfl (by kernel_rfl) (by kernel_rfl) fun w0 F0 h0 => ?_
  unfold slices_Delete_api_Pair_api_Pair.f at H
  obtain ⟨⟨p0, p1, p2⟩, H⟩ := guard_t H
  obtain rfl := Option.some.inj H
  clear H
  obtain ⟨i, rfl⟩ := Int.eq_ofNat_of_zero_le p0
  obtain ⟨j, rfl⟩ := Int.eq_ofNat_of_zero_le (show 0 ≤ a2 by omega)
  have hij : i ≤ j := by omega
  have hj : j ≤ a0.length := by omega
  have hc1 := h0.cap (Gives.of 0 rfl own_rd)
  simp only [Int.toNat_natCast]
  refine J.seq ?_
  refine J.region ?_
  refine RJ.run ttok 1 rfl ?_
  refine RJ.fin [(0, .slice A1 a0.length c_1), (1, .int .i64 (i : Int)), (2, .int .i64 (j : Int))] rfl ?_
  refine J.seq ?_
  refine J.region ?_
  refine RJ.run ttok 5 rfl ?_
  refine RJ.q rfl rfl (q_cut3 (l := (i : Int)) (h := (j : Int)) (m := (a0.length : Int)) ttok rfl rfl rfl rfl hc1 rfl rfl rfl p0 p1 p2 (by omega)) ?_
  refine RJ.fin [(0, .slice A1 a0.length c_1), (1, .int .i64 (i : Int)), (2, .int .i64 (j : Int))] rfl ?_
  refine J.seq ?_
  refine J.seq ?_
  refine J.region ?_
  refine RJ.run ttok 3 rfl ?_
  refine RJ.fin [(0, .slice A1 a0.length c_1), (1, .int .i64 (i : Int)), (2, .int .i64 (j : Int)), (16, .bool (decide ((i : Int) = (j : Int))))] rfl ?_
  refine J.cond rfl (fun c => ?_) (fun c => ?_)
  · have e : i = j := by have := of_decide_eq_true c; omega
    refine J.seq ?_
    refine J.region ?_
    refine RJ.run ttok 2 rfl ?_
    refine RJ.fin [(6, .slice A1 a0.length c_1)] rfl ?_
    refine J.ret ?_
    have e : a0.take i ++ a0.drop j = a0 := by rw [e, List.take_append_drop]
    rw [e]
    exact ⟨_, _, _, (results_slots rfl), ⟨_, _, rfl, rfl⟩, h0.only [0] rfl⟩
  · refine J.skip ?_
    have hlt : i < j := by have := of_decide_eq_false c; omega
    rcases h0.openRow (ty := (.pair .str .str)) rfl 0 rfl with ⟨_, e, _⟩ | ⟨b, sp, rfl, hc, hcm, hsp, h1⟩
    · rw [e] at hj; simp at hj; omega
    have hX := flat_len (ty := (.pair .str .str)) rfl a0
    have nn : Ty.n (.pair .str .str) = 2 := rfl
    have oX := scal_one (ty := (.pair .str .str)) rfl a0
    have eT : (a0.flatMap (Ty.enc (.pair .str .str))).take (i * 2) = (a0.take i).flatMap (Ty.enc (.pair .str .str)) := flat_take (ty := (.pair .str .str)) rfl a0 i
    have eD : (a0.flatMap (Ty.enc (.pair .str .str))).drop (j * 2) = (a0.drop j).flatMap (Ty.enc (.pair .str .str)) := flat_drop (ty := (.pair .str .str)) rfl a0 j
    have eR : (a0.take i ++ a0.drop j).flatMap (Ty.enc (.pair .str .str)) = (a0.flatMap (Ty.enc (.pair .str .str))).take (i * 2) ++ (a0.flatMap (Ty.enc (.pair .str .str))).drop (j * 2) := by rw [eT, eD, List.flatMap_append]
    have lR : (a0.take i ++ a0.drop j).length = i + (a0.length - j) := by simp only [List.length_append, List.length_take, List.length_drop]; omega
    rw [nn] at hX hsp
    obtain ⟨X, hXe⟩ : ∃ X, X = a0.flatMap (Ty.enc (.pair .str .str)) := ⟨_, rfl⟩
    rw [← hXe] at hX eR h1 oX
    refine J.seq ?_
    refine J.region ?_
    refine RJ.run ttok 3 rfl ?_
    refine RJ.fin [(0, .slice (some ⟨b, 0, none⟩) a0.length c_1), (1, .int .i64 (i : Int)), (2, .int .i64 (j : Int)), (7, .int .i64 (a0.length : Int))] rfl ?_
    obtain ⟨G, ⟨hG, hh⟩, _⟩ := h1.own (k := 0) (c := boxC b 75 (X ++ sp)) rfl
    have lXs : (X ++ sp).length = c_1 * 2 := by rw [List.length_append]; omega
    have lS : ∀ w', w'.heap[b]? = some (.cells (X ++ sp).toArray 75 (0, 0)) → Lies w' (cutA (some ⟨b, 0, none⟩) c_1 j 2) (X.drop (j * 2)) := fun w' hw => by
      have := (lies_cutA hw lXs (l := j)).take ((a0.length - j) * 2)
      rwa [List.drop_append_of_le_length (by omega), List.take_append_of_le_length (by rw [List.length_drop]; omega), List.take_of_length_le (by rw [List.length_drop]; omega)] at this
    refine J.seq ?_
    refine J.heldSt mix (h1.only [] rfl) ?_
    have h2 := h1.drew
    refine HJ.run ttok rfl [0, 1] rfl ?_
    refine HJ.q (i := 2) rfl rfl rfl rfl rfl rfl (q_cutRaw ttok 0 (i : Int) 0 i c_1 rfl rfl rfl rfl hc rfl ⟨_, rfl⟩ (Int.le_refl _) p0 (by omega) (by omega) (by show 0 + 0 * 2 = 0; omega) (by omega) (by omega)) ?_
    refine HJ.run ttok rfl [3, 4] rfl ?_
    refine HJ.q (i := 5) rfl rfl rfl rfl rfl rfl (q_cut (l := (j : Int)) (h := (a0.length : Int)) (sub := a0.drop j) ttok rfl rfl rfl rfl hc ⟨_, rfl⟩ rfl (by omega) p2 (Int.le_refl _) (by simpa using cut_from a0 (j : Int))) ?_
    refine HJ.op (i := 6) rfl rfl rfl rfl rfl (op_appendRaw ttok (cs := X.drop (j * 2)) 0 rfl h2 rfl rfl rfl rfl rfl (by rw [List.length_drop]; omega) (by show (X.drop (j * 2)).length = (a0.drop j).length * 2; rw [List.length_drop, List.length_drop]; omega) (by show i * 2 + _ ≤ _; rw [List.length_append, List.length_drop]; omega) (lS w0.drew hh) (fun u hu => oX u (List.mem_of_mem_drop hu))) ?_
    rintro _ w3 ⟨rfl, h3⟩
    refine ⟨⟨[_], h3⟩, ?_⟩
    replace h3 : St w0 F0 (boxC b 75 (layAt (i * 2) (X.drop (j * 2)) (X ++ sp)) :: []) [] w3 := h3
    refine HJ.know (t := 26) (v := .slice (some ⟨b, 0, none⟩) (i + (a0.length - j)) c_1) rfl (by rw [List.length_drop]) ?_
    refine HJ.run ttok rfl [7] rfl ?_
    refine HJ.fin [(0, .slice (some ⟨b, 0, none⟩) (i + (a0.length - j)) c_1), (7, .int .i64 (a0.length : Int))] rfl rfl ?_
    refine J.seq ?_
    refine J.region ?_
    refine RJ.run ttok 4 rfl ?_
    refine RJ.q rfl rfl (q_cutRaw ttok ((i + (a0.length - j) : Nat) : Int) (a0.length : Int) ((i + (a0.length - j)) * 2) (j - i) (c_1 - (i + (a0.length - j))) rfl rfl rfl rfl (by omega) ⟨_, rfl⟩ ⟨_, rfl⟩ (by omega) (by omega) (by omega) (by omega) (by show 0 + ((i + (a0.length - j) : Nat) : Int).toNat * 2 = _; omega) (by omega) (by omega)) ?_
    refine RJ.op rfl rfl (op_clearRaw ttok (ty := (.pair .str .str)) rfl (([] : List UInt8), ([] : List UInt8)) 0 rfl h3 rfl rfl rfl rfl rfl (by omega) (by simp only [layAt, List.length_append, List.length_take, List.length_drop, nn]; omega)) ?_
    intro _ w4 h4
    refine RJ.fin [(0, .slice (some ⟨b, 0, none⟩) (i + (a0.length - j)) c_1)] rfl ?_
    refine J.seq ?_
    refine J.region ?_
    refine RJ.run ttok 2 rfl ?_
    refine RJ.fin [(6, .slice (some ⟨b, 0, none⟩) (i + (a0.length - j)) c_1)] rfl ?_
    refine J.ret ?_
    have lZ := flat_len (ty := (.pair .str .str)) rfl (List.replicate (j - i) (([] : List UInt8), ([] : List UInt8)))
    rw [List.length_replicate, nn] at lZ
    have q := del_cells (X := X) (sp := sp) (Z := (List.replicate (j - i) (([] : List UInt8), ([] : List UInt8))).flatMap (Ty.enc (.pair .str .str))) (a := i * 2) (b := j * 2) (by omega) (by omega) (by omega)
    have e1 : (i + (a0.length - j)) * 2 = i * 2 + (X.length - j * 2) := by omega
    rw [e1] at h4
    have h5 := h4.closeRow (ty := (.pair .str .str)) (ys := a0.take i ++ a0.drop j) (c := c_1) rfl 0 rfl (by rw [lR]; omega) hcm (by rw [q.1, lXs, nn]) (by rw [eR, lR, nn, e1, q.2])
    exact ⟨_, _, _, (results_slots rfl), ⟨_, _, by rw [lR]; rfl, rfl⟩, h5.only [0] rfl⟩

end Go.SK.T
