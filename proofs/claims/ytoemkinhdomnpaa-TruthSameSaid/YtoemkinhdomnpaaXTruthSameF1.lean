/- The functions, further. -/
import Derived.Test.YtoemkinhdomnpaaXTruthSameF0
set_option linter.unusedVariables false
set_option linter.unusedSimpArgs false
namespace Go.SK.T
open Go Go.SK Go.Proofs
/-! sluicegate/sluicegatelaw28.TruthSame -/
def sluicegatelaw28_TruthSame.f (k : Nat) (a0 : Int × List UInt8 × (List (List UInt8 × List UInt8))) (a1 : Int × List UInt8 × (List (List UInt8 × List UInt8))) (a2 : Int × List UInt8 × List UInt8 × Int) : Option (Bool) := (truth_Truth_Do_nil.f (a2.1, a2.2.1, a2.2.2.1, a2.2.2.2)).bind fun r1 => ((truth_Truth_Would_nil.f (a2.1, a2.2.1, a2.2.2.1, a2.2.2.2)).bind fun r2 => ((truth_Same.f k (r1.1, r1.2.1, r1.2.2) (1, ([] : List UInt8), ([] : List (List UInt8 × List UInt8)))).bind fun r3 => (if (!r3) = true then (some false) else ((truth_Same.f k (r1.1, r1.2.1, r1.2.2) (r2.1, r2.2.1, r2.2.2)).bind fun r4 => (if (!r4) = true then (some false) else ((truth_Truth_Pairs_nil.f).bind fun r5 => (if (!decide ((r5.length : Int) = 0)) = true then (some false) else ((truth_Truth_Len_nil.f).bind fun r6 => (if (!decide (r6 = 0)) = true then (some false) else ((truth_Same.f k (a0.1, a0.2.1, a0.2.2) (a1.1, a1.2.1, a1.2.2)).bind fun r7 => ((sluicegatelaw28_as.f (a0.1, a0.2.1, a0.2.2)).bind fun r8 => ((sluicegatelaw28_as.f (a1.1, a1.2.1, a1.2.2)).bind fun r9 => ((sluicegateref27_Same.f k (r8.1, r8.2.1, r8.2.2) (r9.1, r9.2.1, r9.2.2)).bind fun r10 => (if (r7 == r10) = true then ((truth_Same.f k (a0.1, a0.2.1, a0.2.2) (a0.1, a0.2.1, a0.2.2)).bind fun r11 => (if r11 = true then ((sluicegatelaw28_awake.f k).bind fun r12 => (some r12)) else (some false))) else (some false)))))))))))))))
set_option maxRecDepth 20000 in
set_option maxHeartbeats 40000000 in
theorem sluicegatelaw28_TruthSame.spec {k : Nat} {a0 : Int × List UInt8 × (List (List UInt8 × List UInt8))} {a1 : Int × List UInt8 × (List (List UInt8 × List UInt8))} {a2 : Int × List UInt8 × List UInt8 × Int} {A1 : Option Addr} {c_1 : Nat} {A2 : Option Addr} {c_2 : Nat} {r : Bool} (H : sluicegatelaw28_TruthSame.f k a0 a1 a2 = some r) :
    Spec Try.prog 8 [.agg #[.int .i64 a0.1, .string ⟨⟨a0.2.1⟩⟩, .slice A1 a0.2.2.length c_1], .agg #[.int .i64 a1.1, .string ⟨⟨a1.2.1⟩⟩, .slice A2 a1.2.2.length c_2], .agg #[.int .i64 a2.1, .string ⟨⟨a2.2.1⟩⟩, .string ⟨⟨a2.2.2.1⟩⟩, .int .i64 a2.2.2.2]] [] [rdC 75 (.pair .str .str) a0.2.2 (.slice A1 a0.2.2.length c_1), rdC 75 (.pair .str .str) a1.2.2 (.slice A2 a1.2.2.length c_2)] (fun v l => v = .bool r ∧ l = []) := by
  refine Spec.enter Try.func8 rfl (by kernel_rfl) (by kernel_rfl) fun w0 F0 h0 => ?_
  unfold sluicegatelaw28_TruthSame.f at H
  refine J.seq ?_
  refine J.region ?_
  refine RJ.op rfl rfl (op_box rfl rfl h0) ?_
  rintro _ w1 ⟨b1, rfl, h1⟩
  replace h1 : St w0 F0 [boxC b1 70 [.int .i64 a0.1, .string ⟨⟨a0.2.1⟩⟩, .slice A1 a0.2.2.length c_1]] _ _ := h1
  refine RJ.op rfl rfl (op_box rfl rfl h1) ?_
  rintro _ w2 ⟨b2, rfl, h2⟩
  replace h2 : St w0 F0 [boxC b2 70 [.int .i64 a1.1, .string ⟨⟨a1.2.1⟩⟩, .slice A2 a1.2.2.length c_2], boxC b1 70 [.int .i64 a0.1, .string ⟨⟨a0.2.1⟩⟩, .slice A1 a0.2.2.length c_1]] _ _ := h2
  refine RJ.op rfl rfl (op_box rfl rfl h2) ?_
  rintro _ w3 ⟨b3, rfl, h3⟩
  replace h3 : St w0 F0 [boxC b3 64 [.int .i64 a2.1, .string ⟨⟨a2.2.1⟩⟩, .string ⟨⟨a2.2.2.1⟩⟩, .int .i64 a2.2.2.2], boxC b2 70 [.int .i64 a1.1, .string ⟨⟨a1.2.1⟩⟩, .slice A2 a1.2.2.length c_2], boxC b1 70 [.int .i64 a0.1, .string ⟨⟨a0.2.1⟩⟩, .slice A1 a0.2.2.length c_1]] _ _ := h3
  refine RJ.run ttok 1 rfl ?_
  refine RJ.fin [(3, .pointer (some ⟨b1, 0, none⟩)), (4, .pointer (some ⟨b2, 0, none⟩)), (5, .pointer (some ⟨b3, 0, none⟩))] rfl ?_
  refine J.seq ?_
  refine J.region ?_
  refine RJ.run ttok 1 rfl ?_
  refine RJ.fin [(3, .pointer (some ⟨b1, 0, none⟩)), (4, .pointer (some ⟨b2, 0, none⟩)), (5, .pointer (some ⟨b3, 0, none⟩)), (7, .pointer none)] rfl ?_
  refine J.seq ?_
  obtain ⟨r1, q1, H⟩ := bind_t H
  obtain ⟨r2, q2, H⟩ := bind_t H
  refine J.midS (fun env w => ∃ (b4 : Nat) (b5 : Nat) (A3 : Option Addr) (c_3 : Nat) (A4 : Option Addr) (c_4 : Nat), env = [(3, .pointer (some ⟨b1, 0, none⟩)), (4, .pointer (some ⟨b2, 0, none⟩)), (7, .pointer none), (8, .pointer (some ⟨b4, 0, none⟩)), (9, .pointer (some ⟨b5, 0, none⟩))] ∧ St w0 F0 [boxC b4 70 [.int .i64 r1.1, .string ⟨⟨r1.2.1⟩⟩, .slice A3 r1.2.2.length c_3], ownC 75 (.pair .str .str) r1.2.2 (.slice A3 r1.2.2.length c_3), boxC b5 70 [.int .i64 r2.1, .string ⟨⟨r2.2.1⟩⟩, .slice A4 r2.2.2.length c_4], ownC 75 (.pair .str .str) r2.2.2 (.slice A4 r2.2.2.length c_4), boxC b3 64 [.int .i64 a2.1, .string ⟨⟨a2.2.1⟩⟩, .string ⟨⟨a2.2.2.1⟩⟩, .int .i64 a2.2.2.2], boxC b2 70 [.int .i64 a1.1, .string ⟨⟨a1.2.1⟩⟩, .slice A2 a1.2.2.length c_2], boxC b1 70 [.int .i64 a0.1, .string ⟨⟨a0.2.1⟩⟩, .slice A1 a0.2.2.length c_1]] [rdC 75 (.pair .str .str) a0.2.2 (.slice A1 a0.2.2.length c_1), rdC 75 (.pair .str .str) a1.2.2 (.slice A2 a1.2.2.length c_2)] w) ?_ ?_
  · refine J.heldSt mix h3 ?_
    have h10 := h3.drew
    refine HJ.run ttok rfl [0, 3] rfl ?_
    refine HJ.q (i := 1) rfl rfl rfl rfl rfl rfl (q_load_box ttok 0 (fun w e => e) rfl rfl rfl rfl rfl) ?_
    refine HJ.q (i := 4) rfl rfl rfl rfl rfl rfl (q_load_box ttok 0 (fun w e => e) rfl rfl rfl rfl rfl) ?_
    refine HJ.pick [2, 6, 7] (i := 2) rfl rfl rfl rfl ?_
    refine (hscons ?_ (hscons ?_ (hscons ?_ hsnil)))
    · refine HS.op (i := 2) rfl rfl rfl (op_call [] (truth_Truth_Do_nil.spec q1) rfl rfl rfl h10 rfl gnil) ?_
      rintro _ w10 ⟨_, ⟨A5, c_5, rfl, rfl⟩, h11⟩
      replace h11 : St w0 F0 [ownC 75 (.pair .str .str) r1.2.2 (.slice A5 r1.2.2.length c_5), boxC b3 64 [.int .i64 a2.1, .string ⟨⟨a2.2.1⟩⟩, .string ⟨⟨a2.2.2.1⟩⟩, .int .i64 a2.2.2.2], boxC b2 70 [.int .i64 a1.1, .string ⟨⟨a1.2.1⟩⟩, .slice A2 a1.2.2.length c_2], boxC b1 70 [.int .i64 a0.1, .string ⟨⟨a0.2.1⟩⟩, .slice A1 a0.2.2.length c_1]] _ _ := h11
      refine ⟨⟨[_], h11⟩, ?_⟩
      refine HJ.pick [5, 6, 7] (i := 5) rfl rfl rfl rfl ?_
      refine (hscons ?_ (hscons ?_ (hscons ?_ hsnil)))
      · refine HS.op (i := 5) rfl rfl rfl (op_call [] (truth_Truth_Would_nil.spec q2) rfl rfl rfl h11 rfl gnil) ?_
        rintro _ w11 ⟨_, ⟨A6, c_6, rfl, rfl⟩, h12⟩
        replace h12 : St w0 F0 [ownC 75 (.pair .str .str) r2.2.2 (.slice A6 r2.2.2.length c_6), ownC 75 (.pair .str .str) r1.2.2 (.slice A5 r1.2.2.length c_5), boxC b3 64 [.int .i64 a2.1, .string ⟨⟨a2.2.1⟩⟩, .string ⟨⟨a2.2.2.1⟩⟩, .int .i64 a2.2.2.2], boxC b2 70 [.int .i64 a1.1, .string ⟨⟨a1.2.1⟩⟩, .slice A2 a1.2.2.length c_2], boxC b1 70 [.int .i64 a0.1, .string ⟨⟨a0.2.1⟩⟩, .slice A1 a0.2.2.length c_1]] _ _ := h12
        refine ⟨⟨[_, _], h12⟩, ?_⟩
        refine HJ.pick [6, 7] (i := 6) rfl rfl rfl rfl ?_
        refine (hscons ?_ (hscons ?_ hsnil))
        · refine HS.op (i := 6) rfl rfl rfl (op_alloc ttok rfl rfl h12) ?_
          rintro _ w12 ⟨b6, rfl, h13⟩
          replace h13 : St w0 F0 [boxC b6 70 [.int .i64 0, .string ⟨⟨([] : List UInt8)⟩⟩, .slice none ([] : List (List UInt8 × List UInt8)).length 0], ownC 75 (.pair .str .str) r2.2.2 (.slice A6 r2.2.2.length c_6), ownC 75 (.pair .str .str) r1.2.2 (.slice A5 r1.2.2.length c_5), boxC b3 64 [.int .i64 a2.1, .string ⟨⟨a2.2.1⟩⟩, .string ⟨⟨a2.2.2.1⟩⟩, .int .i64 a2.2.2.2], boxC b2 70 [.int .i64 a1.1, .string ⟨⟨a1.2.1⟩⟩, .slice A2 a1.2.2.length c_2], boxC b1 70 [.int .i64 a0.1, .string ⟨⟨a0.2.1⟩⟩, .slice A1 a0.2.2.length c_1]] _ _ := h13
          refine ⟨⟨[_, _, _], h13⟩, ?_⟩
          refine HJ.op (i := 7) rfl rfl rfl rfl rfl (op_alloc ttok rfl rfl h13) ?_
          rintro _ w13 ⟨b7, rfl, h14⟩
          replace h14 : St w0 F0 [boxC b7 70 [.int .i64 0, .string ⟨⟨([] : List UInt8)⟩⟩, .slice none ([] : List (List UInt8 × List UInt8)).length 0], boxC b6 70 [.int .i64 0, .string ⟨⟨([] : List UInt8)⟩⟩, .slice none ([] : List (List UInt8 × List UInt8)).length 0], ownC 75 (.pair .str .str) r2.2.2 (.slice A6 r2.2.2.length c_6), ownC 75 (.pair .str .str) r1.2.2 (.slice A5 r1.2.2.length c_5), boxC b3 64 [.int .i64 a2.1, .string ⟨⟨a2.2.1⟩⟩, .string ⟨⟨a2.2.2.1⟩⟩, .int .i64 a2.2.2.2], boxC b2 70 [.int .i64 a1.1, .string ⟨⟨a1.2.1⟩⟩, .slice A2 a1.2.2.length c_2], boxC b1 70 [.int .i64 a0.1, .string ⟨⟨a0.2.1⟩⟩, .slice A1 a0.2.2.length c_1]] _ _ := h14
          refine ⟨⟨[_, _, _, _], h14⟩, ?_⟩
          refine HJ.op (i := 8) rfl rfl rfl rfl rfl (op_store ttok 1 rfl h14 rfl rfl rfl rfl rfl rfl rfl) ?_
          intro _ w14 h15
          replace h15 : St w0 F0 [boxC b6 70 [.int .i64 r1.1, .string ⟨⟨r1.2.1⟩⟩, .slice A5 r1.2.2.length c_5], boxC b7 70 [.int .i64 0, .string ⟨⟨([] : List UInt8)⟩⟩, .slice none ([] : List (List UInt8 × List UInt8)).length 0], ownC 75 (.pair .str .str) r2.2.2 (.slice A6 r2.2.2.length c_6), ownC 75 (.pair .str .str) r1.2.2 (.slice A5 r1.2.2.length c_5), boxC b3 64 [.int .i64 a2.1, .string ⟨⟨a2.2.1⟩⟩, .string ⟨⟨a2.2.2.1⟩⟩, .int .i64 a2.2.2.2], boxC b2 70 [.int .i64 a1.1, .string ⟨⟨a1.2.1⟩⟩, .slice A2 a1.2.2.length c_2], boxC b1 70 [.int .i64 a0.1, .string ⟨⟨a0.2.1⟩⟩, .slice A1 a0.2.2.length c_1]] _ _ := h15
          refine ⟨⟨[_, _, _, _], h15⟩, ?_⟩
          refine HJ.op (i := 9) rfl rfl rfl rfl rfl (op_store ttok 1 rfl h15 rfl rfl rfl rfl rfl rfl rfl) ?_
          intro _ w15 h16
          replace h16 : St w0 F0 [boxC b7 70 [.int .i64 r2.1, .string ⟨⟨r2.2.1⟩⟩, .slice A6 r2.2.2.length c_6], boxC b6 70 [.int .i64 r1.1, .string ⟨⟨r1.2.1⟩⟩, .slice A5 r1.2.2.length c_5], ownC 75 (.pair .str .str) r2.2.2 (.slice A6 r2.2.2.length c_6), ownC 75 (.pair .str .str) r1.2.2 (.slice A5 r1.2.2.length c_5), boxC b3 64 [.int .i64 a2.1, .string ⟨⟨a2.2.1⟩⟩, .string ⟨⟨a2.2.2.1⟩⟩, .int .i64 a2.2.2.2], boxC b2 70 [.int .i64 a1.1, .string ⟨⟨a1.2.1⟩⟩, .slice A2 a1.2.2.length c_2], boxC b1 70 [.int .i64 a0.1, .string ⟨⟨a0.2.1⟩⟩, .slice A1 a0.2.2.length c_1]] _ _ := h16
          refine ⟨⟨[_, _, _, _], h16⟩, ?_⟩
          refine HJ.fin [(3, .pointer (some ⟨b1, 0, none⟩)), (4, .pointer (some ⟨b2, 0, none⟩)), (7, .pointer none), (8, .pointer (some ⟨b6, 0, none⟩)), (9, .pointer (some ⟨b7, 0, none⟩))] rfl rfl ?_
          exact thenP_intro ⟨b6, b7, A5, c_5, A6, c_6, rfl, ((h16.only [1, 2, 0, 0, 0, 0, 0] rfl).rds [0, 1] rfl)⟩
        · refine HS.op (i := 7) rfl rfl rfl (op_alloc ttok rfl rfl h12) ?_
          rintro _ w16 ⟨b8, rfl, h17⟩
          replace h17 : St w0 F0 [boxC b8 70 [.int .i64 0, .string ⟨⟨([] : List UInt8)⟩⟩, .slice none ([] : List (List UInt8 × List UInt8)).length 0], ownC 75 (.pair .str .str) r2.2.2 (.slice A6 r2.2.2.length c_6), ownC 75 (.pair .str .str) r1.2.2 (.slice A5 r1.2.2.length c_5), boxC b3 64 [.int .i64 a2.1, .string ⟨⟨a2.2.1⟩⟩, .string ⟨⟨a2.2.2.1⟩⟩, .int .i64 a2.2.2.2], boxC b2 70 [.int .i64 a1.1, .string ⟨⟨a1.2.1⟩⟩, .slice A2 a1.2.2.length c_2], boxC b1 70 [.int .i64 a0.1, .string ⟨⟨a0.2.1⟩⟩, .slice A1 a0.2.2.length c_1]] _ _ := h17
          refine ⟨⟨[_, _, _], h17⟩, ?_⟩
          refine HJ.op (i := 6) rfl rfl rfl rfl rfl (op_alloc ttok rfl rfl h17) ?_
          rintro _ w17 ⟨b9, rfl, h18⟩
          replace h18 : St w0 F0 [boxC b9 70 [.int .i64 0, .string ⟨⟨([] : List UInt8)⟩⟩, .slice none ([] : List (List UInt8 × List UInt8)).length 0], boxC b8 70 [.int .i64 0, .string ⟨⟨([] : List UInt8)⟩⟩, .slice none ([] : List (List UInt8 × List UInt8)).length 0], ownC 75 (.pair .str .str) r2.2.2 (.slice A6 r2.2.2.length c_6), ownC 75 (.pair .str .str) r1.2.2 (.slice A5 r1.2.2.length c_5), boxC b3 64 [.int .i64 a2.1, .string ⟨⟨a2.2.1⟩⟩, .string ⟨⟨a2.2.2.1⟩⟩, .int .i64 a2.2.2.2], boxC b2 70 [.int .i64 a1.1, .string ⟨⟨a1.2.1⟩⟩, .slice A2 a1.2.2.length c_2], boxC b1 70 [.int .i64 a0.1, .string ⟨⟨a0.2.1⟩⟩, .slice A1 a0.2.2.length c_1]] _ _ := h18
          refine ⟨⟨[_, _, _, _], h18⟩, ?_⟩
          refine HJ.op (i := 8) rfl rfl rfl rfl rfl (op_store ttok 0 rfl h18 rfl rfl rfl rfl rfl rfl rfl) ?_
          intro _ w18 h19
          replace h19 : St w0 F0 [boxC b9 70 [.int .i64 r1.1, .string ⟨⟨r1.2.1⟩⟩, .slice A5 r1.2.2.length c_5], boxC b8 70 [.int .i64 0, .string ⟨⟨([] : List UInt8)⟩⟩, .slice none ([] : List (List UInt8 × List UInt8)).length 0], ownC 75 (.pair .str .str) r2.2.2 (.slice A6 r2.2.2.length c_6), ownC 75 (.pair .str .str) r1.2.2 (.slice A5 r1.2.2.length c_5), boxC b3 64 [.int .i64 a2.1, .string ⟨⟨a2.2.1⟩⟩, .string ⟨⟨a2.2.2.1⟩⟩, .int .i64 a2.2.2.2], boxC b2 70 [.int .i64 a1.1, .string ⟨⟨a1.2.1⟩⟩, .slice A2 a1.2.2.length c_2], boxC b1 70 [.int .i64 a0.1, .string ⟨⟨a0.2.1⟩⟩, .slice A1 a0.2.2.length c_1]] _ _ := h19
          refine ⟨⟨[_, _, _, _], h19⟩, ?_⟩
          refine HJ.op (i := 9) rfl rfl rfl rfl rfl (op_store ttok 1 rfl h19 rfl rfl rfl rfl rfl rfl rfl) ?_
          intro _ w19 h20
          replace h20 : St w0 F0 [boxC b8 70 [.int .i64 r2.1, .string ⟨⟨r2.2.1⟩⟩, .slice A6 r2.2.2.length c_6], boxC b9 70 [.int .i64 r1.1, .string ⟨⟨r1.2.1⟩⟩, .slice A5 r1.2.2.length c_5], ownC 75 (.pair .str .str) r2.2.2 (.slice A6 r2.2.2.length c_6), ownC 75 (.pair .str .str) r1.2.2 (.slice A5 r1.2.2.length c_5), boxC b3 64 [.int .i64 a2.1, .string ⟨⟨a2.2.1⟩⟩, .string ⟨⟨a2.2.2.1⟩⟩, .int .i64 a2.2.2.2], boxC b2 70 [.int .i64 a1.1, .string ⟨⟨a1.2.1⟩⟩, .slice A2 a1.2.2.length c_2], boxC b1 70 [.int .i64 a0.1, .string ⟨⟨a0.2.1⟩⟩, .slice A1 a0.2.2.length c_1]] _ _ := h20
          refine ⟨⟨[_, _, _, _], h20⟩, ?_⟩
          refine HJ.fin [(3, .pointer (some ⟨b1, 0, none⟩)), (4, .pointer (some ⟨b2, 0, none⟩)), (7, .pointer none), (8, .pointer (some ⟨b9, 0, none⟩)), (9, .pointer (some ⟨b8, 0, none⟩))] rfl rfl ?_
          exact thenP_intro ⟨b9, b8, A5, c_5, A6, c_6, rfl, ((h20.only [1, 2, 0, 0, 0, 0, 0] rfl).rds [0, 1] rfl)⟩
      · refine HS.op (i := 6) rfl rfl rfl (op_alloc ttok rfl rfl h11) ?_
        rintro _ w20 ⟨b10, rfl, h21⟩
        replace h21 : St w0 F0 [boxC b10 70 [.int .i64 0, .string ⟨⟨([] : List UInt8)⟩⟩, .slice none ([] : List (List UInt8 × List UInt8)).length 0], ownC 75 (.pair .str .str) r1.2.2 (.slice A5 r1.2.2.length c_5), boxC b3 64 [.int .i64 a2.1, .string ⟨⟨a2.2.1⟩⟩, .string ⟨⟨a2.2.2.1⟩⟩, .int .i64 a2.2.2.2], boxC b2 70 [.int .i64 a1.1, .string ⟨⟨a1.2.1⟩⟩, .slice A2 a1.2.2.length c_2], boxC b1 70 [.int .i64 a0.1, .string ⟨⟨a0.2.1⟩⟩, .slice A1 a0.2.2.length c_1]] _ _ := h21
        refine ⟨⟨[_, _], h21⟩, ?_⟩
        refine HJ.pick [5, 7] (i := 5) rfl rfl rfl rfl ?_
        refine (hscons ?_ (hscons ?_ hsnil))
        · refine HS.op (i := 5) rfl rfl rfl (op_call [] (truth_Truth_Would_nil.spec q2) rfl rfl rfl h21 rfl gnil) ?_
          rintro _ w21 ⟨_, ⟨A7, c_7, rfl, rfl⟩, h22⟩
          replace h22 : St w0 F0 [ownC 75 (.pair .str .str) r2.2.2 (.slice A7 r2.2.2.length c_7), boxC b10 70 [.int .i64 0, .string ⟨⟨([] : List UInt8)⟩⟩, .slice none ([] : List (List UInt8 × List UInt8)).length 0], ownC 75 (.pair .str .str) r1.2.2 (.slice A5 r1.2.2.length c_5), boxC b3 64 [.int .i64 a2.1, .string ⟨⟨a2.2.1⟩⟩, .string ⟨⟨a2.2.2.1⟩⟩, .int .i64 a2.2.2.2], boxC b2 70 [.int .i64 a1.1, .string ⟨⟨a1.2.1⟩⟩, .slice A2 a1.2.2.length c_2], boxC b1 70 [.int .i64 a0.1, .string ⟨⟨a0.2.1⟩⟩, .slice A1 a0.2.2.length c_1]] _ _ := h22
          refine ⟨⟨[_, _, _], h22⟩, ?_⟩
          refine HJ.op (i := 7) rfl rfl rfl rfl rfl (op_alloc ttok rfl rfl h22) ?_
          rintro _ w22 ⟨b11, rfl, h23⟩
          replace h23 : St w0 F0 [boxC b11 70 [.int .i64 0, .string ⟨⟨([] : List UInt8)⟩⟩, .slice none ([] : List (List UInt8 × List UInt8)).length 0], ownC 75 (.pair .str .str) r2.2.2 (.slice A7 r2.2.2.length c_7), boxC b10 70 [.int .i64 0, .string ⟨⟨([] : List UInt8)⟩⟩, .slice none ([] : List (List UInt8 × List UInt8)).length 0], ownC 75 (.pair .str .str) r1.2.2 (.slice A5 r1.2.2.length c_5), boxC b3 64 [.int .i64 a2.1, .string ⟨⟨a2.2.1⟩⟩, .string ⟨⟨a2.2.2.1⟩⟩, .int .i64 a2.2.2.2], boxC b2 70 [.int .i64 a1.1, .string ⟨⟨a1.2.1⟩⟩, .slice A2 a1.2.2.length c_2], boxC b1 70 [.int .i64 a0.1, .string ⟨⟨a0.2.1⟩⟩, .slice A1 a0.2.2.length c_1]] _ _ := h23
          refine ⟨⟨[_, _, _, _], h23⟩, ?_⟩
          refine HJ.op (i := 8) rfl rfl rfl rfl rfl (op_store ttok 2 rfl h23 rfl rfl rfl rfl rfl rfl rfl) ?_
          intro _ w23 h24
          replace h24 : St w0 F0 [boxC b10 70 [.int .i64 r1.1, .string ⟨⟨r1.2.1⟩⟩, .slice A5 r1.2.2.length c_5], boxC b11 70 [.int .i64 0, .string ⟨⟨([] : List UInt8)⟩⟩, .slice none ([] : List (List UInt8 × List UInt8)).length 0], ownC 75 (.pair .str .str) r2.2.2 (.slice A7 r2.2.2.length c_7), ownC 75 (.pair .str .str) r1.2.2 (.slice A5 r1.2.2.length c_5), boxC b3 64 [.int .i64 a2.1, .string ⟨⟨a2.2.1⟩⟩, .string ⟨⟨a2.2.2.1⟩⟩, .int .i64 a2.2.2.2], boxC b2 70 [.int .i64 a1.1, .string ⟨⟨a1.2.1⟩⟩, .slice A2 a1.2.2.length c_2], boxC b1 70 [.int .i64 a0.1, .string ⟨⟨a0.2.1⟩⟩, .slice A1 a0.2.2.length c_1]] _ _ := h24
          refine ⟨⟨[_, _, _, _], h24⟩, ?_⟩
          refine HJ.op (i := 9) rfl rfl rfl rfl rfl (op_store ttok 1 rfl h24 rfl rfl rfl rfl rfl rfl rfl) ?_
          intro _ w24 h25
          replace h25 : St w0 F0 [boxC b11 70 [.int .i64 r2.1, .string ⟨⟨r2.2.1⟩⟩, .slice A7 r2.2.2.length c_7], boxC b10 70 [.int .i64 r1.1, .string ⟨⟨r1.2.1⟩⟩, .slice A5 r1.2.2.length c_5], ownC 75 (.pair .str .str) r2.2.2 (.slice A7 r2.2.2.length c_7), ownC 75 (.pair .str .str) r1.2.2 (.slice A5 r1.2.2.length c_5), boxC b3 64 [.int .i64 a2.1, .string ⟨⟨a2.2.1⟩⟩, .string ⟨⟨a2.2.2.1⟩⟩, .int .i64 a2.2.2.2], boxC b2 70 [.int .i64 a1.1, .string ⟨⟨a1.2.1⟩⟩, .slice A2 a1.2.2.length c_2], boxC b1 70 [.int .i64 a0.1, .string ⟨⟨a0.2.1⟩⟩, .slice A1 a0.2.2.length c_1]] _ _ := h25
          refine ⟨⟨[_, _, _, _], h25⟩, ?_⟩
          refine HJ.fin [(3, .pointer (some ⟨b1, 0, none⟩)), (4, .pointer (some ⟨b2, 0, none⟩)), (7, .pointer none), (8, .pointer (some ⟨b10, 0, none⟩)), (9, .pointer (some ⟨b11, 0, none⟩))] rfl rfl ?_
          exact thenP_intro ⟨b10, b11, A5, c_5, A7, c_7, rfl, ((h25.only [1, 2, 0, 0, 0, 0, 0] rfl).rds [0, 1] rfl)⟩
        · refine HS.op (i := 7) rfl rfl rfl (op_alloc ttok rfl rfl h21) ?_
          rintro _ w25 ⟨b12, rfl, h26⟩
          replace h26 : St w0 F0 [boxC b12 70 [.int .i64 0, .string ⟨⟨([] : List UInt8)⟩⟩, .slice none ([] : List (List UInt8 × List UInt8)).length 0], boxC b10 70 [.int .i64 0, .string ⟨⟨([] : List UInt8)⟩⟩, .slice none ([] : List (List UInt8 × List UInt8)).length 0], ownC 75 (.pair .str .str) r1.2.2 (.slice A5 r1.2.2.length c_5), boxC b3 64 [.int .i64 a2.1, .string ⟨⟨a2.2.1⟩⟩, .string ⟨⟨a2.2.2.1⟩⟩, .int .i64 a2.2.2.2], boxC b2 70 [.int .i64 a1.1, .string ⟨⟨a1.2.1⟩⟩, .slice A2 a1.2.2.length c_2], boxC b1 70 [.int .i64 a0.1, .string ⟨⟨a0.2.1⟩⟩, .slice A1 a0.2.2.length c_1]] _ _ := h26
          refine ⟨⟨[_, _, _], h26⟩, ?_⟩
          refine HJ.op (i := 5) rfl rfl rfl rfl rfl (op_call [] (truth_Truth_Would_nil.spec q2) rfl rfl rfl h26 rfl gnil) ?_
          rintro _ w26 ⟨_, ⟨A8, c_8, rfl, rfl⟩, h27⟩
          replace h27 : St w0 F0 [ownC 75 (.pair .str .str) r2.2.2 (.slice A8 r2.2.2.length c_8), boxC b12 70 [.int .i64 0, .string ⟨⟨([] : List UInt8)⟩⟩, .slice none ([] : List (List UInt8 × List UInt8)).length 0], boxC b10 70 [.int .i64 0, .string ⟨⟨([] : List UInt8)⟩⟩, .slice none ([] : List (List UInt8 × List UInt8)).length 0], ownC 75 (.pair .str .str) r1.2.2 (.slice A5 r1.2.2.length c_5), boxC b3 64 [.int .i64 a2.1, .string ⟨⟨a2.2.1⟩⟩, .string ⟨⟨a2.2.2.1⟩⟩, .int .i64 a2.2.2.2], boxC b2 70 [.int .i64 a1.1, .string ⟨⟨a1.2.1⟩⟩, .slice A2 a1.2.2.length c_2], boxC b1 70 [.int .i64 a0.1, .string ⟨⟨a0.2.1⟩⟩, .slice A1 a0.2.2.length c_1]] _ _ := h27
          refine ⟨⟨[_, _, _, _], h27⟩, ?_⟩
          refine HJ.op (i := 8) rfl rfl rfl rfl rfl (op_store ttok 2 rfl h27 rfl rfl rfl rfl rfl rfl rfl) ?_
          intro _ w27 h28
          replace h28 : St w0 F0 [boxC b10 70 [.int .i64 r1.1, .string ⟨⟨r1.2.1⟩⟩, .slice A5 r1.2.2.length c_5], ownC 75 (.pair .str .str) r2.2.2 (.slice A8 r2.2.2.length c_8), boxC b12 70 [.int .i64 0, .string ⟨⟨([] : List UInt8)⟩⟩, .slice none ([] : List (List UInt8 × List UInt8)).length 0], ownC 75 (.pair .str .str) r1.2.2 (.slice A5 r1.2.2.length c_5), boxC b3 64 [.int .i64 a2.1, .string ⟨⟨a2.2.1⟩⟩, .string ⟨⟨a2.2.2.1⟩⟩, .int .i64 a2.2.2.2], boxC b2 70 [.int .i64 a1.1, .string ⟨⟨a1.2.1⟩⟩, .slice A2 a1.2.2.length c_2], boxC b1 70 [.int .i64 a0.1, .string ⟨⟨a0.2.1⟩⟩, .slice A1 a0.2.2.length c_1]] _ _ := h28
          refine ⟨⟨[_, _, _, _], h28⟩, ?_⟩
          refine HJ.op (i := 9) rfl rfl rfl rfl rfl (op_store ttok 2 rfl h28 rfl rfl rfl rfl rfl rfl rfl) ?_
          intro _ w28 h29
          replace h29 : St w0 F0 [boxC b12 70 [.int .i64 r2.1, .string ⟨⟨r2.2.1⟩⟩, .slice A8 r2.2.2.length c_8], boxC b10 70 [.int .i64 r1.1, .string ⟨⟨r1.2.1⟩⟩, .slice A5 r1.2.2.length c_5], ownC 75 (.pair .str .str) r2.2.2 (.slice A8 r2.2.2.length c_8), ownC 75 (.pair .str .str) r1.2.2 (.slice A5 r1.2.2.length c_5), boxC b3 64 [.int .i64 a2.1, .string ⟨⟨a2.2.1⟩⟩, .string ⟨⟨a2.2.2.1⟩⟩, .int .i64 a2.2.2.2], boxC b2 70 [.int .i64 a1.1, .string ⟨⟨a1.2.1⟩⟩, .slice A2 a1.2.2.length c_2], boxC b1 70 [.int .i64 a0.1, .string ⟨⟨a0.2.1⟩⟩, .slice A1 a0.2.2.length c_1]] _ _ := h29
          refine ⟨⟨[_, _, _, _], h29⟩, ?_⟩
          refine HJ.fin [(3, .pointer (some ⟨b1, 0, none⟩)), (4, .pointer (some ⟨b2, 0, none⟩)), (7, .pointer none), (8, .pointer (some ⟨b10, 0, none⟩)), (9, .pointer (some ⟨b12, 0, none⟩))] rfl rfl ?_
          exact thenP_intro ⟨b10, b12, A5, c_5, A8, c_8, rfl, ((h29.only [1, 2, 0, 0, 0, 0, 0] rfl).rds [0, 1] rfl)⟩
      · refine HS.op (i := 7) rfl rfl rfl (op_alloc ttok rfl rfl h11) ?_
        rintro _ w29 ⟨b13, rfl, h30⟩
        replace h30 : St w0 F0 [boxC b13 70 [.int .i64 0, .string ⟨⟨([] : List UInt8)⟩⟩, .slice none ([] : List (List UInt8 × List UInt8)).length 0], ownC 75 (.pair .str .str) r1.2.2 (.slice A5 r1.2.2.length c_5), boxC b3 64 [.int .i64 a2.1, .string ⟨⟨a2.2.1⟩⟩, .string ⟨⟨a2.2.2.1⟩⟩, .int .i64 a2.2.2.2], boxC b2 70 [.int .i64 a1.1, .string ⟨⟨a1.2.1⟩⟩, .slice A2 a1.2.2.length c_2], boxC b1 70 [.int .i64 a0.1, .string ⟨⟨a0.2.1⟩⟩, .slice A1 a0.2.2.length c_1]] _ _ := h30
        refine ⟨⟨[_, _], h30⟩, ?_⟩
        refine HJ.pick [5, 6] (i := 5) rfl rfl rfl rfl ?_
        refine (hscons ?_ (hscons ?_ hsnil))
        · refine HS.op (i := 5) rfl rfl rfl (op_call [] (truth_Truth_Would_nil.spec q2) rfl rfl rfl h30 rfl gnil) ?_
          rintro _ w30 ⟨_, ⟨A9, c_9, rfl, rfl⟩, h31⟩
          replace h31 : St w0 F0 [ownC 75 (.pair .str .str) r2.2.2 (.slice A9 r2.2.2.length c_9), boxC b13 70 [.int .i64 0, .string ⟨⟨([] : List UInt8)⟩⟩, .slice none ([] : List (List UInt8 × List UInt8)).length 0], ownC 75 (.pair .str .str) r1.2.2 (.slice A5 r1.2.2.length c_5), boxC b3 64 [.int .i64 a2.1, .string ⟨⟨a2.2.1⟩⟩, .string ⟨⟨a2.2.2.1⟩⟩, .int .i64 a2.2.2.2], boxC b2 70 [.int .i64 a1.1, .string ⟨⟨a1.2.1⟩⟩, .slice A2 a1.2.2.length c_2], boxC b1 70 [.int .i64 a0.1, .string ⟨⟨a0.2.1⟩⟩, .slice A1 a0.2.2.length c_1]] _ _ := h31
          refine ⟨⟨[_, _, _], h31⟩, ?_⟩
          refine HJ.op (i := 6) rfl rfl rfl rfl rfl (op_alloc ttok rfl rfl h31) ?_
          rintro _ w31 ⟨b14, rfl, h32⟩
          replace h32 : St w0 F0 [boxC b14 70 [.int .i64 0, .string ⟨⟨([] : List UInt8)⟩⟩, .slice none ([] : List (List UInt8 × List UInt8)).length 0], ownC 75 (.pair .str .str) r2.2.2 (.slice A9 r2.2.2.length c_9), boxC b13 70 [.int .i64 0, .string ⟨⟨([] : List UInt8)⟩⟩, .slice none ([] : List (List UInt8 × List UInt8)).length 0], ownC 75 (.pair .str .str) r1.2.2 (.slice A5 r1.2.2.length c_5), boxC b3 64 [.int .i64 a2.1, .string ⟨⟨a2.2.1⟩⟩, .string ⟨⟨a2.2.2.1⟩⟩, .int .i64 a2.2.2.2], boxC b2 70 [.int .i64 a1.1, .string ⟨⟨a1.2.1⟩⟩, .slice A2 a1.2.2.length c_2], boxC b1 70 [.int .i64 a0.1, .string ⟨⟨a0.2.1⟩⟩, .slice A1 a0.2.2.length c_1]] _ _ := h32
          refine ⟨⟨[_, _, _, _], h32⟩, ?_⟩
          refine HJ.op (i := 8) rfl rfl rfl rfl rfl (op_store ttok 0 rfl h32 rfl rfl rfl rfl rfl rfl rfl) ?_
          intro _ w32 h33
          replace h33 : St w0 F0 [boxC b14 70 [.int .i64 r1.1, .string ⟨⟨r1.2.1⟩⟩, .slice A5 r1.2.2.length c_5], ownC 75 (.pair .str .str) r2.2.2 (.slice A9 r2.2.2.length c_9), boxC b13 70 [.int .i64 0, .string ⟨⟨([] : List UInt8)⟩⟩, .slice none ([] : List (List UInt8 × List UInt8)).length 0], ownC 75 (.pair .str .str) r1.2.2 (.slice A5 r1.2.2.length c_5), boxC b3 64 [.int .i64 a2.1, .string ⟨⟨a2.2.1⟩⟩, .string ⟨⟨a2.2.2.1⟩⟩, .int .i64 a2.2.2.2], boxC b2 70 [.int .i64 a1.1, .string ⟨⟨a1.2.1⟩⟩, .slice A2 a1.2.2.length c_2], boxC b1 70 [.int .i64 a0.1, .string ⟨⟨a0.2.1⟩⟩, .slice A1 a0.2.2.length c_1]] _ _ := h33
          refine ⟨⟨[_, _, _, _], h33⟩, ?_⟩
          refine HJ.op (i := 9) rfl rfl rfl rfl rfl (op_store ttok 2 rfl h33 rfl rfl rfl rfl rfl rfl rfl) ?_
          intro _ w33 h34
          replace h34 : St w0 F0 [boxC b13 70 [.int .i64 r2.1, .string ⟨⟨r2.2.1⟩⟩, .slice A9 r2.2.2.length c_9], boxC b14 70 [.int .i64 r1.1, .string ⟨⟨r1.2.1⟩⟩, .slice A5 r1.2.2.length c_5], ownC 75 (.pair .str .str) r2.2.2 (.slice A9 r2.2.2.length c_9), ownC 75 (.pair .str .str) r1.2.2 (.slice A5 r1.2.2.length c_5), boxC b3 64 [.int .i64 a2.1, .string ⟨⟨a2.2.1⟩⟩, .string ⟨⟨a2.2.2.1⟩⟩, .int .i64 a2.2.2.2], boxC b2 70 [.int .i64 a1.1, .string ⟨⟨a1.2.1⟩⟩, .slice A2 a1.2.2.length c_2], boxC b1 70 [.int .i64 a0.1, .string ⟨⟨a0.2.1⟩⟩, .slice A1 a0.2.2.length c_1]] _ _ := h34
          refine ⟨⟨[_, _, _, _], h34⟩, ?_⟩
          refine HJ.fin [(3, .pointer (some ⟨b1, 0, none⟩)), (4, .pointer (some ⟨b2, 0, none⟩)), (7, .pointer none), (8, .pointer (some ⟨b14, 0, none⟩)), (9, .pointer (some ⟨b13, 0, none⟩))] rfl rfl ?_
          exact thenP_intro ⟨b14, b13, A5, c_5, A9, c_9, rfl, ((h34.only [1, 2, 0, 0, 0, 0, 0] rfl).rds [0, 1] rfl)⟩
        · refine HS.op (i := 6) rfl rfl rfl (op_alloc ttok rfl rfl h30) ?_
          rintro _ w34 ⟨b15, rfl, h35⟩
          replace h35 : St w0 F0 [boxC b15 70 [.int .i64 0, .string ⟨⟨([] : List UInt8)⟩⟩, .slice none ([] : List (List UInt8 × List UInt8)).length 0], boxC b13 70 [.int .i64 0, .string ⟨⟨([] : List UInt8)⟩⟩, .slice none ([] : List (List UInt8 × List UInt8)).length 0], ownC 75 (.pair .str .str) r1.2.2 (.slice A5 r1.2.2.length c_5), boxC b3 64 [.int .i64 a2.1, .string ⟨⟨a2.2.1⟩⟩, .string ⟨⟨a2.2.2.1⟩⟩, .int .i64 a2.2.2.2], boxC b2 70 [.int .i64 a1.1, .string ⟨⟨a1.2.1⟩⟩, .slice A2 a1.2.2.length c_2], boxC b1 70 [.int .i64 a0.1, .string ⟨⟨a0.2.1⟩⟩, .slice A1 a0.2.2.length c_1]] _ _ := h35
          refine ⟨⟨[_, _, _], h35⟩, ?_⟩
          refine HJ.op (i := 5) rfl rfl rfl rfl rfl (op_call [] (truth_Truth_Would_nil.spec q2) rfl rfl rfl h35 rfl gnil) ?_
          rintro _ w35 ⟨_, ⟨A10, c_10, rfl, rfl⟩, h36⟩
          replace h36 : St w0 F0 [ownC 75 (.pair .str .str) r2.2.2 (.slice A10 r2.2.2.length c_10), boxC b15 70 [.int .i64 0, .string ⟨⟨([] : List UInt8)⟩⟩, .slice none ([] : List (List UInt8 × List UInt8)).length 0], boxC b13 70 [.int .i64 0, .string ⟨⟨([] : List UInt8)⟩⟩, .slice none ([] : List (List UInt8 × List UInt8)).length 0], ownC 75 (.pair .str .str) r1.2.2 (.slice A5 r1.2.2.length c_5), boxC b3 64 [.int .i64 a2.1, .string ⟨⟨a2.2.1⟩⟩, .string ⟨⟨a2.2.2.1⟩⟩, .int .i64 a2.2.2.2], boxC b2 70 [.int .i64 a1.1, .string ⟨⟨a1.2.1⟩⟩, .slice A2 a1.2.2.length c_2], boxC b1 70 [.int .i64 a0.1, .string ⟨⟨a0.2.1⟩⟩, .slice A1 a0.2.2.length c_1]] _ _ := h36
          refine ⟨⟨[_, _, _, _], h36⟩, ?_⟩
          refine HJ.op (i := 8) rfl rfl rfl rfl rfl (op_store ttok 1 rfl h36 rfl rfl rfl rfl rfl rfl rfl) ?_
          intro _ w36 h37
          replace h37 : St w0 F0 [boxC b15 70 [.int .i64 r1.1, .string ⟨⟨r1.2.1⟩⟩, .slice A5 r1.2.2.length c_5], ownC 75 (.pair .str .str) r2.2.2 (.slice A10 r2.2.2.length c_10), boxC b13 70 [.int .i64 0, .string ⟨⟨([] : List UInt8)⟩⟩, .slice none ([] : List (List UInt8 × List UInt8)).length 0], ownC 75 (.pair .str .str) r1.2.2 (.slice A5 r1.2.2.length c_5), boxC b3 64 [.int .i64 a2.1, .string ⟨⟨a2.2.1⟩⟩, .string ⟨⟨a2.2.2.1⟩⟩, .int .i64 a2.2.2.2], boxC b2 70 [.int .i64 a1.1, .string ⟨⟨a1.2.1⟩⟩, .slice A2 a1.2.2.length c_2], boxC b1 70 [.int .i64 a0.1, .string ⟨⟨a0.2.1⟩⟩, .slice A1 a0.2.2.length c_1]] _ _ := h37
          refine ⟨⟨[_, _, _, _], h37⟩, ?_⟩
          refine HJ.op (i := 9) rfl rfl rfl rfl rfl (op_store ttok 2 rfl h37 rfl rfl rfl rfl rfl rfl rfl) ?_
          intro _ w37 h38
          replace h38 : St w0 F0 [boxC b13 70 [.int .i64 r2.1, .string ⟨⟨r2.2.1⟩⟩, .slice A10 r2.2.2.length c_10], boxC b15 70 [.int .i64 r1.1, .string ⟨⟨r1.2.1⟩⟩, .slice A5 r1.2.2.length c_5], ownC 75 (.pair .str .str) r2.2.2 (.slice A10 r2.2.2.length c_10), ownC 75 (.pair .str .str) r1.2.2 (.slice A5 r1.2.2.length c_5), boxC b3 64 [.int .i64 a2.1, .string ⟨⟨a2.2.1⟩⟩, .string ⟨⟨a2.2.2.1⟩⟩, .int .i64 a2.2.2.2], boxC b2 70 [.int .i64 a1.1, .string ⟨⟨a1.2.1⟩⟩, .slice A2 a1.2.2.length c_2], boxC b1 70 [.int .i64 a0.1, .string ⟨⟨a0.2.1⟩⟩, .slice A1 a0.2.2.length c_1]] _ _ := h38
          refine ⟨⟨[_, _, _, _], h38⟩, ?_⟩
          refine HJ.fin [(3, .pointer (some ⟨b1, 0, none⟩)), (4, .pointer (some ⟨b2, 0, none⟩)), (7, .pointer none), (8, .pointer (some ⟨b15, 0, none⟩)), (9, .pointer (some ⟨b13, 0, none⟩))] rfl rfl ?_
          exact thenP_intro ⟨b15, b13, A5, c_5, A10, c_10, rfl, ((h38.only [1, 2, 0, 0, 0, 0, 0] rfl).rds [0, 1] rfl)⟩
    · refine HS.op (i := 6) rfl rfl rfl (op_alloc ttok rfl rfl h10) ?_
      rintro _ w38 ⟨b16, rfl, h39⟩
      replace h39 : St w0 F0 [boxC b16 70 [.int .i64 0, .string ⟨⟨([] : List UInt8)⟩⟩, .slice none ([] : List (List UInt8 × List UInt8)).length 0], boxC b3 64 [.int .i64 a2.1, .string ⟨⟨a2.2.1⟩⟩, .string ⟨⟨a2.2.2.1⟩⟩, .int .i64 a2.2.2.2], boxC b2 70 [.int .i64 a1.1, .string ⟨⟨a1.2.1⟩⟩, .slice A2 a1.2.2.length c_2], boxC b1 70 [.int .i64 a0.1, .string ⟨⟨a0.2.1⟩⟩, .slice A1 a0.2.2.length c_1]] _ _ := h39
      refine ⟨⟨[_], h39⟩, ?_⟩
      refine HJ.pick [2, 7] (i := 2) rfl rfl rfl rfl ?_
      refine (hscons ?_ (hscons ?_ hsnil))
      · refine HS.op (i := 2) rfl rfl rfl (op_call [] (truth_Truth_Do_nil.spec q1) rfl rfl rfl h39 rfl gnil) ?_
        rintro _ w39 ⟨_, ⟨A11, c_11, rfl, rfl⟩, h40⟩
        replace h40 : St w0 F0 [ownC 75 (.pair .str .str) r1.2.2 (.slice A11 r1.2.2.length c_11), boxC b16 70 [.int .i64 0, .string ⟨⟨([] : List UInt8)⟩⟩, .slice none ([] : List (List UInt8 × List UInt8)).length 0], boxC b3 64 [.int .i64 a2.1, .string ⟨⟨a2.2.1⟩⟩, .string ⟨⟨a2.2.2.1⟩⟩, .int .i64 a2.2.2.2], boxC b2 70 [.int .i64 a1.1, .string ⟨⟨a1.2.1⟩⟩, .slice A2 a1.2.2.length c_2], boxC b1 70 [.int .i64 a0.1, .string ⟨⟨a0.2.1⟩⟩, .slice A1 a0.2.2.length c_1]] _ _ := h40
        refine ⟨⟨[_, _], h40⟩, ?_⟩
        refine HJ.pick [5, 7] (i := 5) rfl rfl rfl rfl ?_
        refine (hscons ?_ (hscons ?_ hsnil))
        · refine HS.op (i := 5) rfl rfl rfl (op_call [] (truth_Truth_Would_nil.spec q2) rfl rfl rfl h40 rfl gnil) ?_
          rintro _ w40 ⟨_, ⟨A12, c_12, rfl, rfl⟩, h41⟩
          replace h41 : St w0 F0 [ownC 75 (.pair .str .str) r2.2.2 (.slice A12 r2.2.2.length c_12), ownC 75 (.pair .str .str) r1.2.2 (.slice A11 r1.2.2.length c_11), boxC b16 70 [.int .i64 0, .string ⟨⟨([] : List UInt8)⟩⟩, .slice none ([] : List (List UInt8 × List UInt8)).length 0], boxC b3 64 [.int .i64 a2.1, .string ⟨⟨a2.2.1⟩⟩, .string ⟨⟨a2.2.2.1⟩⟩, .int .i64 a2.2.2.2], boxC b2 70 [.int .i64 a1.1, .string ⟨⟨a1.2.1⟩⟩, .slice A2 a1.2.2.length c_2], boxC b1 70 [.int .i64 a0.1, .string ⟨⟨a0.2.1⟩⟩, .slice A1 a0.2.2.length c_1]] _ _ := h41
          refine ⟨⟨[_, _, _], h41⟩, ?_⟩
          refine HJ.op (i := 7) rfl rfl rfl rfl rfl (op_alloc ttok rfl rfl h41) ?_
          rintro _ w41 ⟨b17, rfl, h42⟩
          replace h42 : St w0 F0 [boxC b17 70 [.int .i64 0, .string ⟨⟨([] : List UInt8)⟩⟩, .slice none ([] : List (List UInt8 × List UInt8)).length 0], ownC 75 (.pair .str .str) r2.2.2 (.slice A12 r2.2.2.length c_12), ownC 75 (.pair .str .str) r1.2.2 (.slice A11 r1.2.2.length c_11), boxC b16 70 [.int .i64 0, .string ⟨⟨([] : List UInt8)⟩⟩, .slice none ([] : List (List UInt8 × List UInt8)).length 0], boxC b3 64 [.int .i64 a2.1, .string ⟨⟨a2.2.1⟩⟩, .string ⟨⟨a2.2.2.1⟩⟩, .int .i64 a2.2.2.2], boxC b2 70 [.int .i64 a1.1, .string ⟨⟨a1.2.1⟩⟩, .slice A2 a1.2.2.length c_2], boxC b1 70 [.int .i64 a0.1, .string ⟨⟨a0.2.1⟩⟩, .slice A1 a0.2.2.length c_1]] _ _ := h42
          refine ⟨⟨[_, _, _, _], h42⟩, ?_⟩
          refine HJ.op (i := 8) rfl rfl rfl rfl rfl (op_store ttok 3 rfl h42 rfl rfl rfl rfl rfl rfl rfl) ?_
          intro _ w42 h43
          replace h43 : St w0 F0 [boxC b16 70 [.int .i64 r1.1, .string ⟨⟨r1.2.1⟩⟩, .slice A11 r1.2.2.length c_11], boxC b17 70 [.int .i64 0, .string ⟨⟨([] : List UInt8)⟩⟩, .slice none ([] : List (List UInt8 × List UInt8)).length 0], ownC 75 (.pair .str .str) r2.2.2 (.slice A12 r2.2.2.length c_12), ownC 75 (.pair .str .str) r1.2.2 (.slice A11 r1.2.2.length c_11), boxC b3 64 [.int .i64 a2.1, .string ⟨⟨a2.2.1⟩⟩, .string ⟨⟨a2.2.2.1⟩⟩, .int .i64 a2.2.2.2], boxC b2 70 [.int .i64 a1.1, .string ⟨⟨a1.2.1⟩⟩, .slice A2 a1.2.2.length c_2], boxC b1 70 [.int .i64 a0.1, .string ⟨⟨a0.2.1⟩⟩, .slice A1 a0.2.2.length c_1]] _ _ := h43
          refine ⟨⟨[_, _, _, _], h43⟩, ?_⟩
          refine HJ.op (i := 9) rfl rfl rfl rfl rfl (op_store ttok 1 rfl h43 rfl rfl rfl rfl rfl rfl rfl) ?_
          intro _ w43 h44
          replace h44 : St w0 F0 [boxC b17 70 [.int .i64 r2.1, .string ⟨⟨r2.2.1⟩⟩, .slice A12 r2.2.2.length c_12], boxC b16 70 [.int .i64 r1.1, .string ⟨⟨r1.2.1⟩⟩, .slice A11 r1.2.2.length c_11], ownC 75 (.pair .str .str) r2.2.2 (.slice A12 r2.2.2.length c_12), ownC 75 (.pair .str .str) r1.2.2 (.slice A11 r1.2.2.length c_11), boxC b3 64 [.int .i64 a2.1, .string ⟨⟨a2.2.1⟩⟩, .string ⟨⟨a2.2.2.1⟩⟩, .int .i64 a2.2.2.2], boxC b2 70 [.int .i64 a1.1, .string ⟨⟨a1.2.1⟩⟩, .slice A2 a1.2.2.length c_2], boxC b1 70 [.int .i64 a0.1, .string ⟨⟨a0.2.1⟩⟩, .slice A1 a0.2.2.length c_1]] _ _ := h44
          refine ⟨⟨[_, _, _, _], h44⟩, ?_⟩
          refine HJ.fin [(3, .pointer (some ⟨b1, 0, none⟩)), (4, .pointer (some ⟨b2, 0, none⟩)), (7, .pointer none), (8, .pointer (some ⟨b16, 0, none⟩)), (9, .pointer (some ⟨b17, 0, none⟩))] rfl rfl ?_
          exact thenP_intro ⟨b16, b17, A11, c_11, A12, c_12, rfl, ((h44.only [1, 2, 0, 0, 0, 0, 0] rfl).rds [0, 1] rfl)⟩
        · refine HS.op (i := 7) rfl rfl rfl (op_alloc ttok rfl rfl h40) ?_
          rintro _ w44 ⟨b18, rfl, h45⟩
          replace h45 : St w0 F0 [boxC b18 70 [.int .i64 0, .string ⟨⟨([] : List UInt8)⟩⟩, .slice none ([] : List (List UInt8 × List UInt8)).length 0], ownC 75 (.pair .str .str) r1.2.2 (.slice A11 r1.2.2.length c_11), boxC b16 70 [.int .i64 0, .string ⟨⟨([] : List UInt8)⟩⟩, .slice none ([] : List (List UInt8 × List UInt8)).length 0], boxC b3 64 [.int .i64 a2.1, .string ⟨⟨a2.2.1⟩⟩, .string ⟨⟨a2.2.2.1⟩⟩, .int .i64 a2.2.2.2], boxC b2 70 [.int .i64 a1.1, .string ⟨⟨a1.2.1⟩⟩, .slice A2 a1.2.2.length c_2], boxC b1 70 [.int .i64 a0.1, .string ⟨⟨a0.2.1⟩⟩, .slice A1 a0.2.2.length c_1]] _ _ := h45
          refine ⟨⟨[_, _, _], h45⟩, ?_⟩
          refine HJ.op (i := 5) rfl rfl rfl rfl rfl (op_call [] (truth_Truth_Would_nil.spec q2) rfl rfl rfl h45 rfl gnil) ?_
          rintro _ w45 ⟨_, ⟨A13, c_13, rfl, rfl⟩, h46⟩
          replace h46 : St w0 F0 [ownC 75 (.pair .str .str) r2.2.2 (.slice A13 r2.2.2.length c_13), boxC b18 70 [.int .i64 0, .string ⟨⟨([] : List UInt8)⟩⟩, .slice none ([] : List (List UInt8 × List UInt8)).length 0], ownC 75 (.pair .str .str) r1.2.2 (.slice A11 r1.2.2.length c_11), boxC b16 70 [.int .i64 0, .string ⟨⟨([] : List UInt8)⟩⟩, .slice none ([] : List (List UInt8 × List UInt8)).length 0], boxC b3 64 [.int .i64 a2.1, .string ⟨⟨a2.2.1⟩⟩, .string ⟨⟨a2.2.2.1⟩⟩, .int .i64 a2.2.2.2], boxC b2 70 [.int .i64 a1.1, .string ⟨⟨a1.2.1⟩⟩, .slice A2 a1.2.2.length c_2], boxC b1 70 [.int .i64 a0.1, .string ⟨⟨a0.2.1⟩⟩, .slice A1 a0.2.2.length c_1]] _ _ := h46
          refine ⟨⟨[_, _, _, _], h46⟩, ?_⟩
          refine HJ.op (i := 8) rfl rfl rfl rfl rfl (op_store ttok 3 rfl h46 rfl rfl rfl rfl rfl rfl rfl) ?_
          intro _ w46 h47
          replace h47 : St w0 F0 [boxC b16 70 [.int .i64 r1.1, .string ⟨⟨r1.2.1⟩⟩, .slice A11 r1.2.2.length c_11], ownC 75 (.pair .str .str) r2.2.2 (.slice A13 r2.2.2.length c_13), boxC b18 70 [.int .i64 0, .string ⟨⟨([] : List UInt8)⟩⟩, .slice none ([] : List (List UInt8 × List UInt8)).length 0], ownC 75 (.pair .str .str) r1.2.2 (.slice A11 r1.2.2.length c_11), boxC b3 64 [.int .i64 a2.1, .string ⟨⟨a2.2.1⟩⟩, .string ⟨⟨a2.2.2.1⟩⟩, .int .i64 a2.2.2.2], boxC b2 70 [.int .i64 a1.1, .string ⟨⟨a1.2.1⟩⟩, .slice A2 a1.2.2.length c_2], boxC b1 70 [.int .i64 a0.1, .string ⟨⟨a0.2.1⟩⟩, .slice A1 a0.2.2.length c_1]] _ _ := h47
          refine ⟨⟨[_, _, _, _], h47⟩, ?_⟩
          refine HJ.op (i := 9) rfl rfl rfl rfl rfl (op_store ttok 2 rfl h47 rfl rfl rfl rfl rfl rfl rfl) ?_
          intro _ w47 h48
          replace h48 : St w0 F0 [boxC b18 70 [.int .i64 r2.1, .string ⟨⟨r2.2.1⟩⟩, .slice A13 r2.2.2.length c_13], boxC b16 70 [.int .i64 r1.1, .string ⟨⟨r1.2.1⟩⟩, .slice A11 r1.2.2.length c_11], ownC 75 (.pair .str .str) r2.2.2 (.slice A13 r2.2.2.length c_13), ownC 75 (.pair .str .str) r1.2.2 (.slice A11 r1.2.2.length c_11), boxC b3 64 [.int .i64 a2.1, .string ⟨⟨a2.2.1⟩⟩, .string ⟨⟨a2.2.2.1⟩⟩, .int .i64 a2.2.2.2], boxC b2 70 [.int .i64 a1.1, .string ⟨⟨a1.2.1⟩⟩, .slice A2 a1.2.2.length c_2], boxC b1 70 [.int .i64 a0.1, .string ⟨⟨a0.2.1⟩⟩, .slice A1 a0.2.2.length c_1]] _ _ := h48
          refine ⟨⟨[_, _, _, _], h48⟩, ?_⟩
          refine HJ.fin [(3, .pointer (some ⟨b1, 0, none⟩)), (4, .pointer (some ⟨b2, 0, none⟩)), (7, .pointer none), (8, .pointer (some ⟨b16, 0, none⟩)), (9, .pointer (some ⟨b18, 0, none⟩))] rfl rfl ?_
          exact thenP_intro ⟨b16, b18, A11, c_11, A13, c_13, rfl, ((h48.only [1, 2, 0, 0, 0, 0, 0] rfl).rds [0, 1] rfl)⟩
      · refine HS.op (i := 7) rfl rfl rfl (op_alloc ttok rfl rfl h39) ?_
        rintro _ w48 ⟨b19, rfl, h49⟩
        replace h49 : St w0 F0 [boxC b19 70 [.int .i64 0, .string ⟨⟨([] : List UInt8)⟩⟩, .slice none ([] : List (List UInt8 × List UInt8)).length 0], boxC b16 70 [.int .i64 0, .string ⟨⟨([] : List UInt8)⟩⟩, .slice none ([] : List (List UInt8 × List UInt8)).length 0], boxC b3 64 [.int .i64 a2.1, .string ⟨⟨a2.2.1⟩⟩, .string ⟨⟨a2.2.2.1⟩⟩, .int .i64 a2.2.2.2], boxC b2 70 [.int .i64 a1.1, .string ⟨⟨a1.2.1⟩⟩, .slice A2 a1.2.2.length c_2], boxC b1 70 [.int .i64 a0.1, .string ⟨⟨a0.2.1⟩⟩, .slice A1 a0.2.2.length c_1]] _ _ := h49
        refine ⟨⟨[_, _], h49⟩, ?_⟩
        refine HJ.op (i := 2) rfl rfl rfl rfl rfl (op_call [] (truth_Truth_Do_nil.spec q1) rfl rfl rfl h49 rfl gnil) ?_
        rintro _ w49 ⟨_, ⟨A14, c_14, rfl, rfl⟩, h50⟩
        replace h50 : St w0 F0 [ownC 75 (.pair .str .str) r1.2.2 (.slice A14 r1.2.2.length c_14), boxC b19 70 [.int .i64 0, .string ⟨⟨([] : List UInt8)⟩⟩, .slice none ([] : List (List UInt8 × List UInt8)).length 0], boxC b16 70 [.int .i64 0, .string ⟨⟨([] : List UInt8)⟩⟩, .slice none ([] : List (List UInt8 × List UInt8)).length 0], boxC b3 64 [.int .i64 a2.1, .string ⟨⟨a2.2.1⟩⟩, .string ⟨⟨a2.2.2.1⟩⟩, .int .i64 a2.2.2.2], boxC b2 70 [.int .i64 a1.1, .string ⟨⟨a1.2.1⟩⟩, .slice A2 a1.2.2.length c_2], boxC b1 70 [.int .i64 a0.1, .string ⟨⟨a0.2.1⟩⟩, .slice A1 a0.2.2.length c_1]] _ _ := h50
        refine ⟨⟨[_, _, _], h50⟩, ?_⟩
        refine HJ.op (i := 5) rfl rfl rfl rfl rfl (op_call [] (truth_Truth_Would_nil.spec q2) rfl rfl rfl h50 rfl gnil) ?_
        rintro _ w50 ⟨_, ⟨A15, c_15, rfl, rfl⟩, h51⟩
        replace h51 : St w0 F0 [ownC 75 (.pair .str .str) r2.2.2 (.slice A15 r2.2.2.length c_15), ownC 75 (.pair .str .str) r1.2.2 (.slice A14 r1.2.2.length c_14), boxC b19 70 [.int .i64 0, .string ⟨⟨([] : List UInt8)⟩⟩, .slice none ([] : List (List UInt8 × List UInt8)).length 0], boxC b16 70 [.int .i64 0, .string ⟨⟨([] : List UInt8)⟩⟩, .slice none ([] : List (List UInt8 × List UInt8)).length 0], boxC b3 64 [.int .i64 a2.1, .string ⟨⟨a2.2.1⟩⟩, .string ⟨⟨a2.2.2.1⟩⟩, .int .i64 a2.2.2.2], boxC b2 70 [.int .i64 a1.1, .string ⟨⟨a1.2.1⟩⟩, .slice A2 a1.2.2.length c_2], boxC b1 70 [.int .i64 a0.1, .string ⟨⟨a0.2.1⟩⟩, .slice A1 a0.2.2.length c_1]] _ _ := h51
        refine ⟨⟨[_, _, _, _], h51⟩, ?_⟩
        refine HJ.op (i := 8) rfl rfl rfl rfl rfl (op_store ttok 3 rfl h51 rfl rfl rfl rfl rfl rfl rfl) ?_
        intro _ w51 h52
        replace h52 : St w0 F0 [boxC b16 70 [.int .i64 r1.1, .string ⟨⟨r1.2.1⟩⟩, .slice A14 r1.2.2.length c_14], ownC 75 (.pair .str .str) r2.2.2 (.slice A15 r2.2.2.length c_15), ownC 75 (.pair .str .str) r1.2.2 (.slice A14 r1.2.2.length c_14), boxC b19 70 [.int .i64 0, .string ⟨⟨([] : List UInt8)⟩⟩, .slice none ([] : List (List UInt8 × List UInt8)).length 0], boxC b3 64 [.int .i64 a2.1, .string ⟨⟨a2.2.1⟩⟩, .string ⟨⟨a2.2.2.1⟩⟩, .int .i64 a2.2.2.2], boxC b2 70 [.int .i64 a1.1, .string ⟨⟨a1.2.1⟩⟩, .slice A2 a1.2.2.length c_2], boxC b1 70 [.int .i64 a0.1, .string ⟨⟨a0.2.1⟩⟩, .slice A1 a0.2.2.length c_1]] _ _ := h52
        refine ⟨⟨[_, _, _, _], h52⟩, ?_⟩
        refine HJ.op (i := 9) rfl rfl rfl rfl rfl (op_store ttok 3 rfl h52 rfl rfl rfl rfl rfl rfl rfl) ?_
        intro _ w52 h53
        replace h53 : St w0 F0 [boxC b19 70 [.int .i64 r2.1, .string ⟨⟨r2.2.1⟩⟩, .slice A15 r2.2.2.length c_15], boxC b16 70 [.int .i64 r1.1, .string ⟨⟨r1.2.1⟩⟩, .slice A14 r1.2.2.length c_14], ownC 75 (.pair .str .str) r2.2.2 (.slice A15 r2.2.2.length c_15), ownC 75 (.pair .str .str) r1.2.2 (.slice A14 r1.2.2.length c_14), boxC b3 64 [.int .i64 a2.1, .string ⟨⟨a2.2.1⟩⟩, .string ⟨⟨a2.2.2.1⟩⟩, .int .i64 a2.2.2.2], boxC b2 70 [.int .i64 a1.1, .string ⟨⟨a1.2.1⟩⟩, .slice A2 a1.2.2.length c_2], boxC b1 70 [.int .i64 a0.1, .string ⟨⟨a0.2.1⟩⟩, .slice A1 a0.2.2.length c_1]] _ _ := h53
        refine ⟨⟨[_, _, _, _], h53⟩, ?_⟩
        refine HJ.fin [(3, .pointer (some ⟨b1, 0, none⟩)), (4, .pointer (some ⟨b2, 0, none⟩)), (7, .pointer none), (8, .pointer (some ⟨b16, 0, none⟩)), (9, .pointer (some ⟨b19, 0, none⟩))] rfl rfl ?_
        exact thenP_intro ⟨b16, b19, A14, c_14, A15, c_15, rfl, ((h53.only [1, 2, 0, 0, 0, 0, 0] rfl).rds [0, 1] rfl)⟩
    · refine HS.op (i := 7) rfl rfl rfl (op_alloc ttok rfl rfl h10) ?_
      rintro _ w53 ⟨b20, rfl, h54⟩
      replace h54 : St w0 F0 [boxC b20 70 [.int .i64 0, .string ⟨⟨([] : List UInt8)⟩⟩, .slice none ([] : List (List UInt8 × List UInt8)).length 0], boxC b3 64 [.int .i64 a2.1, .string ⟨⟨a2.2.1⟩⟩, .string ⟨⟨a2.2.2.1⟩⟩, .int .i64 a2.2.2.2], boxC b2 70 [.int .i64 a1.1, .string ⟨⟨a1.2.1⟩⟩, .slice A2 a1.2.2.length c_2], boxC b1 70 [.int .i64 a0.1, .string ⟨⟨a0.2.1⟩⟩, .slice A1 a0.2.2.length c_1]] _ _ := h54
      refine ⟨⟨[_], h54⟩, ?_⟩
      refine HJ.pick [2, 6] (i := 2) rfl rfl rfl rfl ?_
      refine (hscons ?_ (hscons ?_ hsnil))
      · refine HS.op (i := 2) rfl rfl rfl (op_call [] (truth_Truth_Do_nil.spec q1) rfl rfl rfl h54 rfl gnil) ?_
        rintro _ w54 ⟨_, ⟨A16, c_16, rfl, rfl⟩, h55⟩
        replace h55 : St w0 F0 [ownC 75 (.pair .str .str) r1.2.2 (.slice A16 r1.2.2.length c_16), boxC b20 70 [.int .i64 0, .string ⟨⟨([] : List UInt8)⟩⟩, .slice none ([] : List (List UInt8 × List UInt8)).length 0], boxC b3 64 [.int .i64 a2.1, .string ⟨⟨a2.2.1⟩⟩, .string ⟨⟨a2.2.2.1⟩⟩, .int .i64 a2.2.2.2], boxC b2 70 [.int .i64 a1.1, .string ⟨⟨a1.2.1⟩⟩, .slice A2 a1.2.2.length c_2], boxC b1 70 [.int .i64 a0.1, .string ⟨⟨a0.2.1⟩⟩, .slice A1 a0.2.2.length c_1]] _ _ := h55
        refine ⟨⟨[_, _], h55⟩, ?_⟩
        refine HJ.pick [5, 6] (i := 5) rfl rfl rfl rfl ?_
        refine (hscons ?_ (hscons ?_ hsnil))
        · refine HS.op (i := 5) rfl rfl rfl (op_call [] (truth_Truth_Would_nil.spec q2) rfl rfl rfl h55 rfl gnil) ?_
          rintro _ w55 ⟨_, ⟨A17, c_17, rfl, rfl⟩, h56⟩
          replace h56 : St w0 F0 [ownC 75 (.pair .str .str) r2.2.2 (.slice A17 r2.2.2.length c_17), ownC 75 (.pair .str .str) r1.2.2 (.slice A16 r1.2.2.length c_16), boxC b20 70 [.int .i64 0, .string ⟨⟨([] : List UInt8)⟩⟩, .slice none ([] : List (List UInt8 × List UInt8)).length 0], boxC b3 64 [.int .i64 a2.1, .string ⟨⟨a2.2.1⟩⟩, .string ⟨⟨a2.2.2.1⟩⟩, .int .i64 a2.2.2.2], boxC b2 70 [.int .i64 a1.1, .string ⟨⟨a1.2.1⟩⟩, .slice A2 a1.2.2.length c_2], boxC b1 70 [.int .i64 a0.1, .string ⟨⟨a0.2.1⟩⟩, .slice A1 a0.2.2.length c_1]] _ _ := h56
          refine ⟨⟨[_, _, _], h56⟩, ?_⟩
          refine HJ.op (i := 6) rfl rfl rfl rfl rfl (op_alloc ttok rfl rfl h56) ?_
          rintro _ w56 ⟨b21, rfl, h57⟩
          replace h57 : St w0 F0 [boxC b21 70 [.int .i64 0, .string ⟨⟨([] : List UInt8)⟩⟩, .slice none ([] : List (List UInt8 × List UInt8)).length 0], ownC 75 (.pair .str .str) r2.2.2 (.slice A17 r2.2.2.length c_17), ownC 75 (.pair .str .str) r1.2.2 (.slice A16 r1.2.2.length c_16), boxC b20 70 [.int .i64 0, .string ⟨⟨([] : List UInt8)⟩⟩, .slice none ([] : List (List UInt8 × List UInt8)).length 0], boxC b3 64 [.int .i64 a2.1, .string ⟨⟨a2.2.1⟩⟩, .string ⟨⟨a2.2.2.1⟩⟩, .int .i64 a2.2.2.2], boxC b2 70 [.int .i64 a1.1, .string ⟨⟨a1.2.1⟩⟩, .slice A2 a1.2.2.length c_2], boxC b1 70 [.int .i64 a0.1, .string ⟨⟨a0.2.1⟩⟩, .slice A1 a0.2.2.length c_1]] _ _ := h57
          refine ⟨⟨[_, _, _, _], h57⟩, ?_⟩
          refine HJ.op (i := 8) rfl rfl rfl rfl rfl (op_store ttok 0 rfl h57 rfl rfl rfl rfl rfl rfl rfl) ?_
          intro _ w57 h58
          replace h58 : St w0 F0 [boxC b21 70 [.int .i64 r1.1, .string ⟨⟨r1.2.1⟩⟩, .slice A16 r1.2.2.length c_16], ownC 75 (.pair .str .str) r2.2.2 (.slice A17 r2.2.2.length c_17), ownC 75 (.pair .str .str) r1.2.2 (.slice A16 r1.2.2.length c_16), boxC b20 70 [.int .i64 0, .string ⟨⟨([] : List UInt8)⟩⟩, .slice none ([] : List (List UInt8 × List UInt8)).length 0], boxC b3 64 [.int .i64 a2.1, .string ⟨⟨a2.2.1⟩⟩, .string ⟨⟨a2.2.2.1⟩⟩, .int .i64 a2.2.2.2], boxC b2 70 [.int .i64 a1.1, .string ⟨⟨a1.2.1⟩⟩, .slice A2 a1.2.2.length c_2], boxC b1 70 [.int .i64 a0.1, .string ⟨⟨a0.2.1⟩⟩, .slice A1 a0.2.2.length c_1]] _ _ := h58
          refine ⟨⟨[_, _, _, _], h58⟩, ?_⟩
          refine HJ.op (i := 9) rfl rfl rfl rfl rfl (op_store ttok 3 rfl h58 rfl rfl rfl rfl rfl rfl rfl) ?_
          intro _ w58 h59
          replace h59 : St w0 F0 [boxC b20 70 [.int .i64 r2.1, .string ⟨⟨r2.2.1⟩⟩, .slice A17 r2.2.2.length c_17], boxC b21 70 [.int .i64 r1.1, .string ⟨⟨r1.2.1⟩⟩, .slice A16 r1.2.2.length c_16], ownC 75 (.pair .str .str) r2.2.2 (.slice A17 r2.2.2.length c_17), ownC 75 (.pair .str .str) r1.2.2 (.slice A16 r1.2.2.length c_16), boxC b3 64 [.int .i64 a2.1, .string ⟨⟨a2.2.1⟩⟩, .string ⟨⟨a2.2.2.1⟩⟩, .int .i64 a2.2.2.2], boxC b2 70 [.int .i64 a1.1, .string ⟨⟨a1.2.1⟩⟩, .slice A2 a1.2.2.length c_2], boxC b1 70 [.int .i64 a0.1, .string ⟨⟨a0.2.1⟩⟩, .slice A1 a0.2.2.length c_1]] _ _ := h59
          refine ⟨⟨[_, _, _, _], h59⟩, ?_⟩
          refine HJ.fin [(3, .pointer (some ⟨b1, 0, none⟩)), (4, .pointer (some ⟨b2, 0, none⟩)), (7, .pointer none), (8, .pointer (some ⟨b21, 0, none⟩)), (9, .pointer (some ⟨b20, 0, none⟩))] rfl rfl ?_
          exact thenP_intro ⟨b21, b20, A16, c_16, A17, c_17, rfl, ((h59.only [1, 2, 0, 0, 0, 0, 0] rfl).rds [0, 1] rfl)⟩
        · refine HS.op (i := 6) rfl rfl rfl (op_alloc ttok rfl rfl h55) ?_
          rintro _ w59 ⟨b22, rfl, h60⟩
          replace h60 : St w0 F0 [boxC b22 70 [.int .i64 0, .string ⟨⟨([] : List UInt8)⟩⟩, .slice none ([] : List (List UInt8 × List UInt8)).length 0], ownC 75 (.pair .str .str) r1.2.2 (.slice A16 r1.2.2.length c_16), boxC b20 70 [.int .i64 0, .string ⟨⟨([] : List UInt8)⟩⟩, .slice none ([] : List (List UInt8 × List UInt8)).length 0], boxC b3 64 [.int .i64 a2.1, .string ⟨⟨a2.2.1⟩⟩, .string ⟨⟨a2.2.2.1⟩⟩, .int .i64 a2.2.2.2], boxC b2 70 [.int .i64 a1.1, .string ⟨⟨a1.2.1⟩⟩, .slice A2 a1.2.2.length c_2], boxC b1 70 [.int .i64 a0.1, .string ⟨⟨a0.2.1⟩⟩, .slice A1 a0.2.2.length c_1]] _ _ := h60
          refine ⟨⟨[_, _, _], h60⟩, ?_⟩
          refine HJ.op (i := 5) rfl rfl rfl rfl rfl (op_call [] (truth_Truth_Would_nil.spec q2) rfl rfl rfl h60 rfl gnil) ?_
          rintro _ w60 ⟨_, ⟨A18, c_18, rfl, rfl⟩, h61⟩
          replace h61 : St w0 F0 [ownC 75 (.pair .str .str) r2.2.2 (.slice A18 r2.2.2.length c_18), boxC b22 70 [.int .i64 0, .string ⟨⟨([] : List UInt8)⟩⟩, .slice none ([] : List (List UInt8 × List UInt8)).length 0], ownC 75 (.pair .str .str) r1.2.2 (.slice A16 r1.2.2.length c_16), boxC b20 70 [.int .i64 0, .string ⟨⟨([] : List UInt8)⟩⟩, .slice none ([] : List (List UInt8 × List UInt8)).length 0], boxC b3 64 [.int .i64 a2.1, .string ⟨⟨a2.2.1⟩⟩, .string ⟨⟨a2.2.2.1⟩⟩, .int .i64 a2.2.2.2], boxC b2 70 [.int .i64 a1.1, .string ⟨⟨a1.2.1⟩⟩, .slice A2 a1.2.2.length c_2], boxC b1 70 [.int .i64 a0.1, .string ⟨⟨a0.2.1⟩⟩, .slice A1 a0.2.2.length c_1]] _ _ := h61
          refine ⟨⟨[_, _, _, _], h61⟩, ?_⟩
          refine HJ.op (i := 8) rfl rfl rfl rfl rfl (op_store ttok 1 rfl h61 rfl rfl rfl rfl rfl rfl rfl) ?_
          intro _ w61 h62
          replace h62 : St w0 F0 [boxC b22 70 [.int .i64 r1.1, .string ⟨⟨r1.2.1⟩⟩, .slice A16 r1.2.2.length c_16], ownC 75 (.pair .str .str) r2.2.2 (.slice A18 r2.2.2.length c_18), ownC 75 (.pair .str .str) r1.2.2 (.slice A16 r1.2.2.length c_16), boxC b20 70 [.int .i64 0, .string ⟨⟨([] : List UInt8)⟩⟩, .slice none ([] : List (List UInt8 × List UInt8)).length 0], boxC b3 64 [.int .i64 a2.1, .string ⟨⟨a2.2.1⟩⟩, .string ⟨⟨a2.2.2.1⟩⟩, .int .i64 a2.2.2.2], boxC b2 70 [.int .i64 a1.1, .string ⟨⟨a1.2.1⟩⟩, .slice A2 a1.2.2.length c_2], boxC b1 70 [.int .i64 a0.1, .string ⟨⟨a0.2.1⟩⟩, .slice A1 a0.2.2.length c_1]] _ _ := h62
          refine ⟨⟨[_, _, _, _], h62⟩, ?_⟩
          refine HJ.op (i := 9) rfl rfl rfl rfl rfl (op_store ttok 3 rfl h62 rfl rfl rfl rfl rfl rfl rfl) ?_
          intro _ w62 h63
          replace h63 : St w0 F0 [boxC b20 70 [.int .i64 r2.1, .string ⟨⟨r2.2.1⟩⟩, .slice A18 r2.2.2.length c_18], boxC b22 70 [.int .i64 r1.1, .string ⟨⟨r1.2.1⟩⟩, .slice A16 r1.2.2.length c_16], ownC 75 (.pair .str .str) r2.2.2 (.slice A18 r2.2.2.length c_18), ownC 75 (.pair .str .str) r1.2.2 (.slice A16 r1.2.2.length c_16), boxC b3 64 [.int .i64 a2.1, .string ⟨⟨a2.2.1⟩⟩, .string ⟨⟨a2.2.2.1⟩⟩, .int .i64 a2.2.2.2], boxC b2 70 [.int .i64 a1.1, .string ⟨⟨a1.2.1⟩⟩, .slice A2 a1.2.2.length c_2], boxC b1 70 [.int .i64 a0.1, .string ⟨⟨a0.2.1⟩⟩, .slice A1 a0.2.2.length c_1]] _ _ := h63
          refine ⟨⟨[_, _, _, _], h63⟩, ?_⟩
          refine HJ.fin [(3, .pointer (some ⟨b1, 0, none⟩)), (4, .pointer (some ⟨b2, 0, none⟩)), (7, .pointer none), (8, .pointer (some ⟨b22, 0, none⟩)), (9, .pointer (some ⟨b20, 0, none⟩))] rfl rfl ?_
          exact thenP_intro ⟨b22, b20, A16, c_16, A18, c_18, rfl, ((h63.only [1, 2, 0, 0, 0, 0, 0] rfl).rds [0, 1] rfl)⟩
      · refine HS.op (i := 6) rfl rfl rfl (op_alloc ttok rfl rfl h54) ?_
        rintro _ w63 ⟨b23, rfl, h64⟩
        replace h64 : St w0 F0 [boxC b23 70 [.int .i64 0, .string ⟨⟨([] : List UInt8)⟩⟩, .slice none ([] : List (List UInt8 × List UInt8)).length 0], boxC b20 70 [.int .i64 0, .string ⟨⟨([] : List UInt8)⟩⟩, .slice none ([] : List (List UInt8 × List UInt8)).length 0], boxC b3 64 [.int .i64 a2.1, .string ⟨⟨a2.2.1⟩⟩, .string ⟨⟨a2.2.2.1⟩⟩, .int .i64 a2.2.2.2], boxC b2 70 [.int .i64 a1.1, .string ⟨⟨a1.2.1⟩⟩, .slice A2 a1.2.2.length c_2], boxC b1 70 [.int .i64 a0.1, .string ⟨⟨a0.2.1⟩⟩, .slice A1 a0.2.2.length c_1]] _ _ := h64
        refine ⟨⟨[_, _], h64⟩, ?_⟩
        refine HJ.op (i := 2) rfl rfl rfl rfl rfl (op_call [] (truth_Truth_Do_nil.spec q1) rfl rfl rfl h64 rfl gnil) ?_
        rintro _ w65 ⟨_, ⟨A19, c_19, rfl, rfl⟩, h65⟩
        replace h65 : St w0 F0 [ownC 75 (.pair .str .str) r1.2.2 (.slice A19 r1.2.2.length c_19), boxC b23 70 [.int .i64 0, .string ⟨⟨([] : List UInt8)⟩⟩, .slice none ([] : List (List UInt8 × List UInt8)).length 0], boxC b20 70 [.int .i64 0, .string ⟨⟨([] : List UInt8)⟩⟩, .slice none ([] : List (List UInt8 × List UInt8)).length 0], boxC b3 64 [.int .i64 a2.1, .string ⟨⟨a2.2.1⟩⟩, .string ⟨⟨a2.2.2.1⟩⟩, .int .i64 a2.2.2.2], boxC b2 70 [.int .i64 a1.1, .string ⟨⟨a1.2.1⟩⟩, .slice A2 a1.2.2.length c_2], boxC b1 70 [.int .i64 a0.1, .string ⟨⟨a0.2.1⟩⟩, .slice A1 a0.2.2.length c_1]] _ _ := h65
        refine ⟨⟨[_, _, _], h65⟩, ?_⟩
        refine HJ.op (i := 5) rfl rfl rfl rfl rfl (op_call [] (truth_Truth_Would_nil.spec q2) rfl rfl rfl h65 rfl gnil) ?_
        rintro _ w66 ⟨_, ⟨A20, c_20, rfl, rfl⟩, h66⟩
        replace h66 : St w0 F0 [ownC 75 (.pair .str .str) r2.2.2 (.slice A20 r2.2.2.length c_20), ownC 75 (.pair .str .str) r1.2.2 (.slice A19 r1.2.2.length c_19), boxC b23 70 [.int .i64 0, .string ⟨⟨([] : List UInt8)⟩⟩, .slice none ([] : List (List UInt8 × List UInt8)).length 0], boxC b20 70 [.int .i64 0, .string ⟨⟨([] : List UInt8)⟩⟩, .slice none ([] : List (List UInt8 × List UInt8)).length 0], boxC b3 64 [.int .i64 a2.1, .string ⟨⟨a2.2.1⟩⟩, .string ⟨⟨a2.2.2.1⟩⟩, .int .i64 a2.2.2.2], boxC b2 70 [.int .i64 a1.1, .string ⟨⟨a1.2.1⟩⟩, .slice A2 a1.2.2.length c_2], boxC b1 70 [.int .i64 a0.1, .string ⟨⟨a0.2.1⟩⟩, .slice A1 a0.2.2.length c_1]] _ _ := h66
        refine ⟨⟨[_, _, _, _], h66⟩, ?_⟩
        refine HJ.op (i := 8) rfl rfl rfl rfl rfl (op_store ttok 2 rfl h66 rfl rfl rfl rfl rfl rfl rfl) ?_
        intro _ w67 h67
        replace h67 : St w0 F0 [boxC b23 70 [.int .i64 r1.1, .string ⟨⟨r1.2.1⟩⟩, .slice A19 r1.2.2.length c_19], ownC 75 (.pair .str .str) r2.2.2 (.slice A20 r2.2.2.length c_20), ownC 75 (.pair .str .str) r1.2.2 (.slice A19 r1.2.2.length c_19), boxC b20 70 [.int .i64 0, .string ⟨⟨([] : List UInt8)⟩⟩, .slice none ([] : List (List UInt8 × List UInt8)).length 0], boxC b3 64 [.int .i64 a2.1, .string ⟨⟨a2.2.1⟩⟩, .string ⟨⟨a2.2.2.1⟩⟩, .int .i64 a2.2.2.2], boxC b2 70 [.int .i64 a1.1, .string ⟨⟨a1.2.1⟩⟩, .slice A2 a1.2.2.length c_2], boxC b1 70 [.int .i64 a0.1, .string ⟨⟨a0.2.1⟩⟩, .slice A1 a0.2.2.length c_1]] _ _ := h67
        refine ⟨⟨[_, _, _, _], h67⟩, ?_⟩
        refine HJ.op (i := 9) rfl rfl rfl rfl rfl (op_store ttok 3 rfl h67 rfl rfl rfl rfl rfl rfl rfl) ?_
        intro _ w68 h68
        replace h68 : St w0 F0 [boxC b20 70 [.int .i64 r2.1, .string ⟨⟨r2.2.1⟩⟩, .slice A20 r2.2.2.length c_20], boxC b23 70 [.int .i64 r1.1, .string ⟨⟨r1.2.1⟩⟩, .slice A19 r1.2.2.length c_19], ownC 75 (.pair .str .str) r2.2.2 (.slice A20 r2.2.2.length c_20), ownC 75 (.pair .str .str) r1.2.2 (.slice A19 r1.2.2.length c_19), boxC b3 64 [.int .i64 a2.1, .string ⟨⟨a2.2.1⟩⟩, .string ⟨⟨a2.2.2.1⟩⟩, .int .i64 a2.2.2.2], boxC b2 70 [.int .i64 a1.1, .string ⟨⟨a1.2.1⟩⟩, .slice A2 a1.2.2.length c_2], boxC b1 70 [.int .i64 a0.1, .string ⟨⟨a0.2.1⟩⟩, .slice A1 a0.2.2.length c_1]] _ _ := h68
        refine ⟨⟨[_, _, _, _], h68⟩, ?_⟩
        refine HJ.fin [(3, .pointer (some ⟨b1, 0, none⟩)), (4, .pointer (some ⟨b2, 0, none⟩)), (7, .pointer none), (8, .pointer (some ⟨b23, 0, none⟩)), (9, .pointer (some ⟨b20, 0, none⟩))] rfl rfl ?_
        exact thenP_intro ⟨b23, b20, A19, c_19, A20, c_20, rfl, ((h68.only [1, 2, 0, 0, 0, 0, 0] rfl).rds [0, 1] rfl)⟩
  · rintro env w69 ⟨b4, b5, A3, c_3, A4, c_4, rfl, h69⟩
    refine J.seq ?_
    refine J.seq ?_
    refine J.region ?_
    refine RJ.q rfl rfl (q_load_box ttok 0 h69.wht rfl rfl rfl rfl rfl) ?_
    refine RJ.run ttok 1 rfl ?_
    have h70 := h69.addNil 75 (.pair .str .str)
    obtain ⟨r3, q3, H⟩ := bind_t H
    refine RJ.op rfl rfl (op_call [] (truth_Same.spec q3) rfl rfl rfl h70 rfl (gcons (Gives.of 2 rfl own_rd) (gcons (Gives.of 0 rfl own_rd) gnil))) ?_
    rintro _ w70 ⟨_, ⟨rfl, rfl⟩, h71⟩
    replace h71 : St w0 F0 [ownC 75 (.pair .str .str) ([] : List (List UInt8 × List UInt8)) (.slice none ([] : List (List UInt8 × List UInt8)).length 0), boxC b4 70 [.int .i64 r1.1, .string ⟨⟨r1.2.1⟩⟩, .slice A3 r1.2.2.length c_3], ownC 75 (.pair .str .str) r1.2.2 (.slice A3 r1.2.2.length c_3), boxC b5 70 [.int .i64 r2.1, .string ⟨⟨r2.2.1⟩⟩, .slice A4 r2.2.2.length c_4], ownC 75 (.pair .str .str) r2.2.2 (.slice A4 r2.2.2.length c_4), boxC b3 64 [.int .i64 a2.1, .string ⟨⟨a2.2.1⟩⟩, .string ⟨⟨a2.2.2.1⟩⟩, .int .i64 a2.2.2.2], boxC b2 70 [.int .i64 a1.1, .string ⟨⟨a1.2.1⟩⟩, .slice A2 a1.2.2.length c_2], boxC b1 70 [.int .i64 a0.1, .string ⟨⟨a0.2.1⟩⟩, .slice A1 a0.2.2.length c_1]] _ _ := h71
    refine RJ.run ttok 2 rfl ?_
    rcases Bool.eq_false_or_eq_true (!r3) with c1 | c1
    · replace H := ite_t c1 H
      refine RJ.know (t := 20) rfl (congrArg Value.bool c1) ?_
      refine RJ.run ttok 16 rfl ?_
      refine RJ.fin [(3, .pointer (some ⟨b1, 0, none⟩)), (4, .pointer (some ⟨b2, 0, none⟩)), (36, .bool true)] rfl ?_
      have h72 := h71.only [6, 6] rfl
      replace h72 : St w0 F0 [boxC b2 70 [.int .i64 a1.1, .string ⟨⟨a1.2.1⟩⟩, .slice A2 a1.2.2.length c_2], boxC b1 70 [.int .i64 a0.1, .string ⟨⟨a0.2.1⟩⟩, .slice A1 a0.2.2.length c_1]] _ _ := h72
      refine J.condT rfl ?_
      refine J.seq ?_
      refine J.region ?_
      refine RJ.run ttok 1 rfl ?_
      refine RJ.fin [(6, .bool false)] rfl ?_
      have h73 := h72.only [] rfl
      replace h73 : St w0 F0 [] _ _ := h73
      refine J.ret ?_
      obtain rfl := Option.some.inj H
      exact ⟨_, _, _, (results_slots rfl), ⟨rfl, rfl⟩, h73.only [] rfl⟩
    · replace H := ite_f c1 H
      refine RJ.know (t := 20) rfl (congrArg Value.bool c1) ?_
      refine RJ.q rfl rfl (q_load_box ttok 1 h71.wht rfl rfl rfl rfl rfl) ?_
      refine RJ.q rfl rfl (q_load_box ttok 3 h71.wht rfl rfl rfl rfl rfl) ?_
      obtain ⟨r4, q4, H⟩ := bind_t H
      refine RJ.op rfl rfl (op_call [] (truth_Same.spec q4) rfl rfl rfl h71 rfl (gcons (Gives.of 2 rfl own_rd) (gcons (Gives.of 4 rfl own_rd) gnil))) ?_
      rintro _ w71 ⟨_, ⟨rfl, rfl⟩, h74⟩
      replace h74 : St w0 F0 [ownC 75 (.pair .str .str) ([] : List (List UInt8 × List UInt8)) (.slice none ([] : List (List UInt8 × List UInt8)).length 0), boxC b4 70 [.int .i64 r1.1, .string ⟨⟨r1.2.1⟩⟩, .slice A3 r1.2.2.length c_3], ownC 75 (.pair .str .str) r1.2.2 (.slice A3 r1.2.2.length c_3), boxC b5 70 [.int .i64 r2.1, .string ⟨⟨r2.2.1⟩⟩, .slice A4 r2.2.2.length c_4], ownC 75 (.pair .str .str) r2.2.2 (.slice A4 r2.2.2.length c_4), boxC b3 64 [.int .i64 a2.1, .string ⟨⟨a2.2.1⟩⟩, .string ⟨⟨a2.2.2.1⟩⟩, .int .i64 a2.2.2.2], boxC b2 70 [.int .i64 a1.1, .string ⟨⟨a1.2.1⟩⟩, .slice A2 a1.2.2.length c_2], boxC b1 70 [.int .i64 a0.1, .string ⟨⟨a0.2.1⟩⟩, .slice A1 a0.2.2.length c_1]] _ _ := h74
      refine RJ.run ttok 3 rfl ?_
      rcases Bool.eq_false_or_eq_true (!r4) with c2 | c2
      · replace H := ite_t c2 H
        refine RJ.know (t := 26) rfl (congrArg Value.bool c2) ?_
        refine RJ.run ttok 10 rfl ?_
        refine RJ.fin [(3, .pointer (some ⟨b1, 0, none⟩)), (4, .pointer (some ⟨b2, 0, none⟩)), (36, .bool true)] rfl ?_
        have h75 := h74.only [6, 6] rfl
        replace h75 : St w0 F0 [boxC b2 70 [.int .i64 a1.1, .string ⟨⟨a1.2.1⟩⟩, .slice A2 a1.2.2.length c_2], boxC b1 70 [.int .i64 a0.1, .string ⟨⟨a0.2.1⟩⟩, .slice A1 a0.2.2.length c_1]] _ _ := h75
        refine J.condT rfl ?_
        refine J.seq ?_
        refine J.region ?_
        refine RJ.run ttok 1 rfl ?_
        refine RJ.fin [(6, .bool false)] rfl ?_
        have h76 := h75.only [] rfl
        replace h76 : St w0 F0 [] _ _ := h76
        refine J.ret ?_
        obtain rfl := Option.some.inj H
        exact ⟨_, _, _, (results_slots rfl), ⟨rfl, rfl⟩, h76.only [] rfl⟩
      · replace H := ite_f c2 H
        refine RJ.know (t := 26) rfl (congrArg Value.bool c2) ?_
        refine RJ.run ttok 1 rfl ?_
        obtain ⟨r5, q5, H⟩ := bind_t H
        refine RJ.op rfl rfl (op_call [] (truth_Truth_Pairs_nil.spec q5) rfl rfl rfl h74 rfl gnil) ?_
        rintro _ w72 ⟨_, ⟨A21, c_21, rfl, rfl⟩, h77⟩
        replace h77 : St w0 F0 [ownC 75 (.pair .str .str) r5 (.slice A21 r5.length c_21), ownC 75 (.pair .str .str) ([] : List (List UInt8 × List UInt8)) (.slice none ([] : List (List UInt8 × List UInt8)).length 0), boxC b4 70 [.int .i64 r1.1, .string ⟨⟨r1.2.1⟩⟩, .slice A3 r1.2.2.length c_3], ownC 75 (.pair .str .str) r1.2.2 (.slice A3 r1.2.2.length c_3), boxC b5 70 [.int .i64 r2.1, .string ⟨⟨r2.2.1⟩⟩, .slice A4 r2.2.2.length c_4], ownC 75 (.pair .str .str) r2.2.2 (.slice A4 r2.2.2.length c_4), boxC b3 64 [.int .i64 a2.1, .string ⟨⟨a2.2.1⟩⟩, .string ⟨⟨a2.2.2.1⟩⟩, .int .i64 a2.2.2.2], boxC b2 70 [.int .i64 a1.1, .string ⟨⟨a1.2.1⟩⟩, .slice A2 a1.2.2.length c_2], boxC b1 70 [.int .i64 a0.1, .string ⟨⟨a0.2.1⟩⟩, .slice A1 a0.2.2.length c_1]] _ _ := h77
        refine RJ.run ttok 4 rfl ?_
        rcases Bool.eq_false_or_eq_true (!decide ((r5.length : Int) = 0)) with c3 | c3
        · replace H := ite_t c3 H
          refine RJ.know (t := 32) rfl (congrArg Value.bool c3) ?_
          refine RJ.run ttok 4 rfl ?_
          refine RJ.fin [(3, .pointer (some ⟨b1, 0, none⟩)), (4, .pointer (some ⟨b2, 0, none⟩)), (36, .bool true)] rfl ?_
          have h78 := h77.only [7, 7] rfl
          replace h78 : St w0 F0 [boxC b2 70 [.int .i64 a1.1, .string ⟨⟨a1.2.1⟩⟩, .slice A2 a1.2.2.length c_2], boxC b1 70 [.int .i64 a0.1, .string ⟨⟨a0.2.1⟩⟩, .slice A1 a0.2.2.length c_1]] _ _ := h78
          refine J.condT rfl ?_
          refine J.seq ?_
          refine J.region ?_
          refine RJ.run ttok 1 rfl ?_
          refine RJ.fin [(6, .bool false)] rfl ?_
          have h79 := h78.only [] rfl
          replace h79 : St w0 F0 [] _ _ := h79
          refine J.ret ?_
          obtain rfl := Option.some.inj H
          exact ⟨_, _, _, (results_slots rfl), ⟨rfl, rfl⟩, h79.only [] rfl⟩
        · replace H := ite_f c3 H
          refine RJ.know (t := 32) rfl (congrArg Value.bool c3) ?_
          refine RJ.run ttok 1 rfl ?_
          obtain ⟨r6, q6, H⟩ := bind_t H
          refine RJ.op rfl rfl (op_call [] (truth_Truth_Len_nil.spec q6) rfl rfl rfl h77 rfl gnil) ?_
          rintro _ w73 ⟨_, ⟨rfl, rfl⟩, h80⟩
          replace h80 : St w0 F0 [ownC 75 (.pair .str .str) r5 (.slice A21 r5.length c_21), ownC 75 (.pair .str .str) ([] : List (List UInt8 × List UInt8)) (.slice none ([] : List (List UInt8 × List UInt8)).length 0), boxC b4 70 [.int .i64 r1.1, .string ⟨⟨r1.2.1⟩⟩, .slice A3 r1.2.2.length c_3], ownC 75 (.pair .str .str) r1.2.2 (.slice A3 r1.2.2.length c_3), boxC b5 70 [.int .i64 r2.1, .string ⟨⟨r2.2.1⟩⟩, .slice A4 r2.2.2.length c_4], ownC 75 (.pair .str .str) r2.2.2 (.slice A4 r2.2.2.length c_4), boxC b3 64 [.int .i64 a2.1, .string ⟨⟨a2.2.1⟩⟩, .string ⟨⟨a2.2.2.1⟩⟩, .int .i64 a2.2.2.2], boxC b2 70 [.int .i64 a1.1, .string ⟨⟨a1.2.1⟩⟩, .slice A2 a1.2.2.length c_2], boxC b1 70 [.int .i64 a0.1, .string ⟨⟨a0.2.1⟩⟩, .slice A1 a0.2.2.length c_1]] _ _ := h80
          refine RJ.run ttok 2 rfl ?_
          refine RJ.fin [(3, .pointer (some ⟨b1, 0, none⟩)), (4, .pointer (some ⟨b2, 0, none⟩)), (36, .bool (!decide (r6 = 0)))] rfl ?_
          have h81 := h80.only [7, 7] rfl
          replace h81 : St w0 F0 [boxC b2 70 [.int .i64 a1.1, .string ⟨⟨a1.2.1⟩⟩, .slice A2 a1.2.2.length c_2], boxC b1 70 [.int .i64 a0.1, .string ⟨⟨a0.2.1⟩⟩, .slice A1 a0.2.2.length c_1]] _ _ := h81
          refine J.cond rfl (fun c4 => ?_) (fun c4 => ?_)
          · replace H := ite_t c4 H
            refine J.seq ?_
            refine J.region ?_
            refine RJ.run ttok 1 rfl ?_
            refine RJ.fin [(6, .bool false)] rfl ?_
            have h82 := h81.only [] rfl
            replace h82 : St w0 F0 [] _ _ := h82
            refine J.ret ?_
            obtain rfl := Option.some.inj H
            exact ⟨_, _, _, (results_slots rfl), ⟨rfl, rfl⟩, h82.only [] rfl⟩
          · replace H := ite_f c4 H
            refine J.skip ?_
            refine J.seq ?_
            refine J.heldSt mix h81 ?_
            have h83 := h81.drew
            refine HJ.q (i := 0) rfl rfl rfl rfl rfl rfl (q_load_box ttok 1 (fun w e => e) rfl rfl rfl rfl rfl) ?_
            refine HJ.q (i := 1) rfl rfl rfl rfl rfl rfl (q_load_box ttok 0 (fun w e => e) rfl rfl rfl rfl rfl) ?_
            refine HJ.q (i := 3) rfl rfl rfl rfl rfl rfl (q_load_box ttok 1 (fun w e => e) rfl rfl rfl rfl rfl) ?_
            refine HJ.q (i := 5) rfl rfl rfl rfl rfl rfl (q_load_box ttok 0 (fun w e => e) rfl rfl rfl rfl rfl) ?_
            obtain ⟨r7, q7, H⟩ := bind_t H
            refine HJ.op (i := 2) rfl rfl rfl rfl rfl (op_call [] (truth_Same.spec q7) rfl rfl rfl h83 rfl (gcons (Gives.self 2 rfl) (gcons (Gives.self 3 rfl) gnil))) ?_
            rintro _ w74 ⟨_, ⟨rfl, rfl⟩, h84⟩
            replace h84 : St w0 F0 [boxC b2 70 [.int .i64 a1.1, .string ⟨⟨a1.2.1⟩⟩, .slice A2 a1.2.2.length c_2], boxC b1 70 [.int .i64 a0.1, .string ⟨⟨a0.2.1⟩⟩, .slice A1 a0.2.2.length c_1]] _ _ := h84
            refine ⟨⟨[], h84⟩, ?_⟩
            obtain ⟨r8, q8, H⟩ := bind_t H
            refine HJ.op (i := 4) rfl rfl rfl rfl rfl (op_callA [] (sluicegatelaw28_as.spec q8) rfl rfl rfl h84 rfl (gcons (Gives.self 0 rfl) gnil)) ?_
            rintro _ w75 ⟨_, _, ⟨A22, c_22, rfl, rfl, rfl⟩, h85⟩
            replace h85 : St w0 F0 [boxC b2 70 [.int .i64 a1.1, .string ⟨⟨a1.2.1⟩⟩, .slice A2 a1.2.2.length c_2], boxC b1 70 [.int .i64 a0.1, .string ⟨⟨a0.2.1⟩⟩, .slice A1 a0.2.2.length c_1]] _ _ := h85
            refine ⟨⟨[], (h85.rds [1, 2] rfl)⟩, ?_⟩
            obtain ⟨r9, q9, H⟩ := bind_t H
            refine HJ.op (i := 6) rfl rfl rfl rfl rfl (op_callA [] (sluicegatelaw28_as.spec q9) rfl rfl rfl h85 rfl (gcons (Gives.self 2 rfl) gnil)) ?_
            rintro _ w76 ⟨_, _, ⟨A23, c_23, rfl, rfl, rfl⟩, h86⟩
            replace h86 : St w0 F0 [boxC b2 70 [.int .i64 a1.1, .string ⟨⟨a1.2.1⟩⟩, .slice A2 a1.2.2.length c_2], boxC b1 70 [.int .i64 a0.1, .string ⟨⟨a0.2.1⟩⟩, .slice A1 a0.2.2.length c_1]] _ _ := h86
            refine ⟨⟨[], (h86.rds [2, 3] rfl)⟩, ?_⟩
            obtain ⟨r10, q10, H⟩ := bind_t H
            refine HJ.op (i := 7) rfl rfl rfl rfl rfl (op_call [] (sluicegateref27_Same.spec q10) rfl rfl rfl h86 rfl (gcons (Gives.self 3 rfl) (gcons (Gives.self 2 rfl) gnil))) ?_
            rintro _ w77 ⟨_, ⟨rfl, rfl⟩, h87⟩
            replace h87 : St w0 F0 [boxC b2 70 [.int .i64 a1.1, .string ⟨⟨a1.2.1⟩⟩, .slice A2 a1.2.2.length c_2], boxC b1 70 [.int .i64 a0.1, .string ⟨⟨a0.2.1⟩⟩, .slice A1 a0.2.2.length c_1]] _ _ := h87
            refine ⟨⟨[], (h87.rds [2, 3] rfl)⟩, ?_⟩
            refine HJ.run ttok rfl [8, 9] rfl ?_
            rcases Bool.eq_false_or_eq_true (r7 == r10) with c5 | c5
            · replace H := ite_t c5 H
              refine HJ.know (t := 46) rfl (congrArg Value.bool c5) ?_
              refine HJ.q (i := 10) rfl rfl rfl rfl rfl rfl (q_load_box ttok 1 (fun w e => e) rfl rfl rfl rfl rfl) ?_
              refine HJ.q (i := 11) rfl rfl rfl rfl rfl rfl (q_load_box ttok 1 (fun w e => e) rfl rfl rfl rfl rfl) ?_
              obtain ⟨r11, q11, H⟩ := bind_t H
              refine HJ.op (i := 12) rfl rfl rfl rfl rfl (op_call [] (truth_Same.spec q11) rfl rfl rfl h87 rfl (gcons (Gives.self 4 rfl) (gcons (Gives.self 4 rfl) gnil))) ?_
              rintro _ w78 ⟨_, ⟨rfl, rfl⟩, h88⟩
              replace h88 : St w0 F0 [boxC b2 70 [.int .i64 a1.1, .string ⟨⟨a1.2.1⟩⟩, .slice A2 a1.2.2.length c_2], boxC b1 70 [.int .i64 a0.1, .string ⟨⟨a0.2.1⟩⟩, .slice A1 a0.2.2.length c_1]] _ _ := h88
              refine ⟨⟨[], (h88.rds [2, 3] rfl)⟩, ?_⟩
              refine HJ.run ttok rfl [13, 14] rfl ?_
              rcases Bool.eq_false_or_eq_true r11 with c6 | c6
              · replace H := ite_t c6 H
                refine HJ.know (t := 51) rfl (congrArg Value.bool c6) ?_
                obtain ⟨r12, q12, H⟩ := bind_t H
                refine HJ.op (i := 15) rfl rfl rfl rfl rfl (op_call [] (sluicegatelaw28_awake.spec q12) rfl rfl rfl h88 rfl gnil) ?_
                rintro _ w79 ⟨_, ⟨rfl, rfl⟩, h89⟩
                replace h89 : St w0 F0 [boxC b2 70 [.int .i64 a1.1, .string ⟨⟨a1.2.1⟩⟩, .slice A2 a1.2.2.length c_2], boxC b1 70 [.int .i64 a0.1, .string ⟨⟨a0.2.1⟩⟩, .slice A1 a0.2.2.length c_1]] _ _ := h89
                refine ⟨⟨[], (h89.rds [2, 3] rfl)⟩, ?_⟩
                refine HJ.run ttok rfl [16, 17] rfl ?_
                refine HJ.fin [(6, .bool r12)] rfl rfl ?_
                have h90 := h89.only [] rfl
                replace h90 : St w0 F0 [] _ _ := h90
                refine J.ret ?_
                obtain rfl := Option.some.inj H
                exact ⟨_, _, _, (results_slots rfl), ⟨rfl, rfl⟩, h90.only [] rfl⟩
              · replace H := ite_f c6 H
                refine HJ.know (t := 51) rfl (congrArg Value.bool c6) ?_
                refine HJ.run ttok rfl [15, 16, 17] rfl ?_
                refine HJ.fin [(6, .bool false)] rfl rfl ?_
                have h91 := h88.only [] rfl
                replace h91 : St w0 F0 [] _ _ := h91
                refine J.ret ?_
                obtain rfl := Option.some.inj H
                exact ⟨_, _, _, (results_slots rfl), ⟨rfl, rfl⟩, h91.only [] rfl⟩
            · replace H := ite_f c5 H
              refine HJ.know (t := 46) rfl (congrArg Value.bool c5) ?_
              refine HJ.run ttok rfl [10, 11, 12, 13, 14, 15, 16, 17] rfl ?_
              refine HJ.fin [(6, .bool false)] rfl rfl ?_
              have h92 := h87.only [] rfl
              replace h92 : St w0 F0 [] _ _ := h92
              refine J.ret ?_
              obtain rfl := Option.some.inj H
              exact ⟨_, _, _, (results_slots rfl), ⟨rfl, rfl⟩, h92.only [] rfl⟩

end Go.SK.T
