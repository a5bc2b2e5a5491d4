/- The functions, further. -/
import Derived.Test.YtjnifnkbphggkaaXNodeLoadsF0
set_option linter.unusedVariables false
set_option linter.unusedSimpArgs false
namespace Go.SK.T
open Go Go.SK Go.Proofs
/-! sluicegate/sluicegatelaw13.NodeLoads -/
def sluicegatelaw13_NodeLoads.l0 : Nat → (Int × List (Int) × List (List UInt8) × (List (List UInt8 × Bool × List UInt8)) × (List (List UInt8 × List UInt8))) → (List (Int)) → (List (Int)) → (List (Int × Bool)) → (Int) → Option (Bool)
  | 0, _, _, _, _, _ => none
  | k + 1, a0, r5, r6, x1, x2 => if (decide (x2 < (r5.length : Int))) = true then (if 0 ≤ x2 ∧ x2 < (r5.length : Int) then ((sluicegateref13_Load.f k (a0.1, a0.2.1, a0.2.2.1, a0.2.2.2.1, a0.2.2.2.2) x2).bind fun r9 => (if (!decide ((gt r5 x2) = r9)) = true then (some false) else (if 0 ≤ x2 ∧ x2 < (r6.length : Int) then (if (mget false x1 (gt r6 x2)) = true then (some false) else (if (decide ((gt r6 x2) < 0)) = true then (some false) else (if (decide ((r5.length : Int) ≤ (gt r6 x2))) = true then (some false) else (if (decide (0 < x2)) = true then (if 0 ≤ (w64 (x2 - 1)) ∧ (w64 (x2 - 1)) < (r6.length : Int) then ((sluicegateref13_Ahead.f k (a0.1, a0.2.1, a0.2.2.1, a0.2.2.2.1, a0.2.2.2.2) (gt r6 (w64 (x2 - 1))) (gt r6 x2)).bind fun r10 => (if (!r10) = true then (some false) else (sluicegatelaw13_NodeLoads.l0 k a0 r5 r6 (mput (gt r6 x2) true x1) (w64 (x2 + 1))))) else none) else (sluicegatelaw13_NodeLoads.l0 k a0 r5 r6 (mput (gt r6 x2) true x1) (w64 (x2 + 1))))))) else none))) else none) else ((sluicegatelaw13_awake.f k).bind fun r11 => (some r11))
def sluicegatelaw13_NodeLoads.l1 : Nat → (Int × List (Int) × List (List UInt8) × (List (List UInt8 × Bool × List UInt8)) × (List (List UInt8 × List UInt8))) → (List (Int)) → (List (Int)) → (List (Int × Bool)) → (Int) → Option (Bool)
  | 0, _, _, _, _, _ => none
  | k + 1, a0, r5, r6, x3, x4 => if (decide (x4 < (r5.length : Int))) = true then (if 0 ≤ x4 ∧ x4 < (r5.length : Int) then ((sluicegateref13_Load.f k (a0.1, a0.2.1, a0.2.2.1, a0.2.2.2.1, a0.2.2.2.2) x4).bind fun r12 => (if (!decide ((gt r5 x4) = r12)) = true then (some false) else (if 0 ≤ x4 ∧ x4 < (r6.length : Int) then (if (mget false x3 (gt r6 x4)) = true then (some false) else (if (decide ((gt r6 x4) < 0)) = true then (some false) else (if (decide ((r5.length : Int) ≤ (gt r6 x4))) = true then (some false) else (if (decide (0 < x4)) = true then (if 0 ≤ (w64 (x4 - 1)) ∧ (w64 (x4 - 1)) < (r6.length : Int) then ((sluicegateref13_Ahead.f k (a0.1, a0.2.1, a0.2.2.1, a0.2.2.2.1, a0.2.2.2.2) (gt r6 (w64 (x4 - 1))) (gt r6 x4)).bind fun r13 => (if (!r13) = true then (some false) else (sluicegatelaw13_NodeLoads.l1 k a0 r5 r6 (mput (gt r6 x4) true x3) (w64 (x4 + 1))))) else none) else (sluicegatelaw13_NodeLoads.l1 k a0 r5 r6 (mput (gt r6 x4) true x3) (w64 (x4 + 1))))))) else none))) else none) else ((sluicegatelaw13_awake.f k).bind fun r14 => (some r14))
def sluicegatelaw13_NodeLoads.f (k : Nat) (a0 : Int × List (Int) × List (List UInt8) × (List (List UInt8 × Bool × List UInt8)) × (List (List UInt8 × List UInt8))) : Option (Bool) := (sluicegatelaw13_Great.f k (a0.1, a0.2.1, a0.2.2.1, a0.2.2.2.1, a0.2.2.2.2)).bind fun r1 => (if r1 = true then ((sluicegatelaw13_awake.f k).bind fun r2 => (some r2)) else ((sluicegateref13_Plain.f k (a0.1, a0.2.1, a0.2.2.1, a0.2.2.2.1, a0.2.2.2.2)).bind fun r3 => (if (!r3) = true then ((sluicegatelaw13_awake.f k).bind fun r4 => (some r4)) else ((node_Loads.f k (a0.1, a0.2.1, a0.2.2.1, a0.2.2.2.1, a0.2.2.2.2)).bind fun r5 => ((node_Rank.f k (a0.1, a0.2.1, a0.2.2.1, a0.2.2.2.1, a0.2.2.2.2)).bind fun r6 => ((node_Heaviest.f k (a0.1, a0.2.1, a0.2.2.1, a0.2.2.2.1, a0.2.2.2.2)).bind fun r7 => ((sluicegateref13_Heaviest.f k (a0.1, a0.2.1, a0.2.2.1, a0.2.2.2.1, a0.2.2.2.2)).bind fun r8 => (if (!decide ((r5.length : Int) = (a0.2.1.length : Int))) = true then (some false) else (if (!decide ((r6.length : Int) = (r5.length : Int))) = true then (some false) else (if (!decide (r7.1 = r8.1)) = true then (some false) else (if (!decide (r7.2 = r8.2)) = true then (some false) else (if (decide (0 < (r6.length : Int))) = true then (if 0 < (r6.length : Int) then (if (!decide ((gt r6 0) = r7.1)) = true then (some false) else (sluicegatelaw13_NodeLoads.l0 k a0 r5 r6 ([] : List (Int × Bool)) 0)) else none) else (sluicegatelaw13_NodeLoads.l1 k a0 r5 r6 ([] : List (Int × Bool)) 0)))))))))))))
set_option maxRecDepth 20000 in
set_option maxHeartbeats 40000000 in
theorem sluicegatelaw13_NodeLoads.spec {k : Nat} {a0 : Int × List (Int) × List (List UInt8) × (List (List UInt8 × Bool × List UInt8)) × (List (List UInt8 × List UInt8))} {A1 : Option Addr} {c_1 : Nat} {A2 : Option Addr} {c_2 : Nat} {A3 : Option Addr} {c_3 : Nat} {A4 : Option Addr} {c_4 : Nat} {r : Bool} (H : sluicegatelaw13_NodeLoads.f k a0 = some r) :
    Spec Try.prog 8 [.agg #[.int .i64 a0.1, .slice A1 a0.2.1.length c_1, .slice A2 a0.2.2.1.length c_2, .slice A3 a0.2.2.2.1.length c_3, .slice A4 a0.2.2.2.2.length c_4]] [] [rdC 46 (.int .u32) a0.2.1 (.slice A1 a0.2.1.length c_1), rdC 9 .str a0.2.2.1 (.slice A2 a0.2.2.1.length c_2), rdC 48 (.pair .str (.pair .bool .str)) a0.2.2.2.1 (.slice A3 a0.2.2.2.1.length c_3), rdC 50 (.pair .str .str) a0.2.2.2.2 (.slice A4 a0.2.2.2.2.length c_4)] (fun v l => v = .bool r ∧ l = []) := by
  refine Spec.enter Try.func8 rfl (by kernel_rfl) (by kernel_rfl) fun w0 F0 h0 => ?_
  unfold sluicegatelaw13_NodeLoads.f at H
  refine J.seq ?_
  refine J.region ?_
  refine RJ.op rfl rfl (op_box rfl rfl h0) ?_
  rintro _ w1 ⟨b1, rfl, h1⟩
  replace h1 : St w0 F0 [boxC b1 31 [.int .i64 a0.1, .slice A1 a0.2.1.length c_1, .slice A2 a0.2.2.1.length c_2, .slice A3 a0.2.2.2.1.length c_3, .slice A4 a0.2.2.2.2.length c_4]] _ _ := h1
  refine RJ.run ttok 1 rfl ?_
  refine RJ.fin [(1, .pointer (some ⟨b1, 0, none⟩))] rfl ?_
  refine J.seq ?_
  refine J.seq ?_
  refine J.region ?_
  refine RJ.q rfl rfl (q_load_box ttok 0 h1.wht rfl rfl rfl rfl rfl) ?_
  obtain ⟨r1, q1, H⟩ := bind_t H
  refine RJ.op rfl rfl (op_call [] (sluicegatelaw13_Great.spec q1) rfl rfl rfl h1 rfl (gcons (Gives.self 1 rfl) (gcons (Gives.self 2 rfl) (gcons (Gives.self 3 rfl) (gcons (Gives.self 4 rfl) gnil))))) ?_
  rintro _ w2 ⟨_, ⟨rfl, rfl⟩, h2⟩
  replace h2 : St w0 F0 [boxC b1 31 [.int .i64 a0.1, .slice A1 a0.2.1.length c_1, .slice A2 a0.2.2.1.length c_2, .slice A3 a0.2.2.2.1.length c_3, .slice A4 a0.2.2.2.2.length c_4]] _ _ := h2
  refine RJ.run ttok 1 rfl ?_
  rcases Bool.eq_false_or_eq_true r1 with c1 | c1
  · replace H := ite_t c1 H
    refine RJ.know (t := 13) rfl (congrArg Value.bool c1) ?_
    refine RJ.run ttok 4 rfl ?_
    refine RJ.fin [(1, .pointer (some ⟨b1, 0, none⟩)), (17, .bool true)] rfl ?_
    refine J.condT rfl ?_
    refine J.seq ?_
    refine J.region ?_
    obtain ⟨r2, q2, H⟩ := bind_t H
    refine RJ.op rfl rfl (op_call [] (sluicegatelaw13_awake.spec q2) rfl rfl rfl h2 rfl gnil) ?_
    rintro _ w3 ⟨_, ⟨rfl, rfl⟩, h3⟩
    replace h3 : St w0 F0 [boxC b1 31 [.int .i64 a0.1, .slice A1 a0.2.1.length c_1, .slice A2 a0.2.2.1.length c_2, .slice A3 a0.2.2.2.1.length c_3, .slice A4 a0.2.2.2.2.length c_4]] _ _ := h3
    refine RJ.run ttok 1 rfl ?_
    refine RJ.fin [(2, .bool r2)] rfl ?_
    refine J.ret ?_
    obtain rfl := Option.some.inj H
    exact ⟨_, _, _, (results_slots rfl), ⟨rfl, rfl⟩, h3.only [] rfl⟩
  · replace H := ite_f c1 H
    refine RJ.know (t := 13) rfl (congrArg Value.bool c1) ?_
    refine RJ.q rfl rfl (q_load_box ttok 0 h2.wht rfl rfl rfl rfl rfl) ?_
    obtain ⟨r3, q3, H⟩ := bind_t H
    refine RJ.op rfl rfl (op_call [] (sluicegateref13_Plain.spec q3) rfl rfl rfl h2 rfl (gcons (Gives.self 1 rfl) (gcons (Gives.self 2 rfl) (gcons (Gives.self 3 rfl) (gcons (Gives.self 4 rfl) gnil))))) ?_
    rintro _ w4 ⟨_, ⟨rfl, rfl⟩, h4⟩
    replace h4 : St w0 F0 [boxC b1 31 [.int .i64 a0.1, .slice A1 a0.2.1.length c_1, .slice A2 a0.2.2.1.length c_2, .slice A3 a0.2.2.2.1.length c_3, .slice A4 a0.2.2.2.2.length c_4]] _ _ := h4
    refine RJ.run ttok 2 rfl ?_
    refine RJ.fin [(1, .pointer (some ⟨b1, 0, none⟩)), (17, .bool (!r3))] rfl ?_
    refine J.cond rfl (fun c2 => ?_) (fun c2 => ?_)
    · replace H := ite_t c2 H
      refine J.seq ?_
      refine J.region ?_
      obtain ⟨r4, q4, H⟩ := bind_t H
      refine RJ.op rfl rfl (op_call [] (sluicegatelaw13_awake.spec q4) rfl rfl rfl h4 rfl gnil) ?_
      rintro _ w5 ⟨_, ⟨rfl, rfl⟩, h5⟩
      replace h5 : St w0 F0 [boxC b1 31 [.int .i64 a0.1, .slice A1 a0.2.1.length c_1, .slice A2 a0.2.2.1.length c_2, .slice A3 a0.2.2.2.1.length c_3, .slice A4 a0.2.2.2.2.length c_4]] _ _ := h5
      refine RJ.run ttok 1 rfl ?_
      refine RJ.fin [(2, .bool r4)] rfl ?_
      refine J.ret ?_
      obtain rfl := Option.some.inj H
      exact ⟨_, _, _, (results_slots rfl), ⟨rfl, rfl⟩, h5.only [] rfl⟩
    · replace H := ite_f c2 H
      refine J.skip ?_
      refine J.seq ?_
      refine J.heldSt mix h4 ?_
      have h6 := h4.drew
      refine HJ.q (i := 0) rfl rfl rfl rfl rfl rfl (q_load_box ttok 0 (fun w e => e) rfl rfl rfl rfl rfl) ?_
      refine HJ.q (i := 2) rfl rfl rfl rfl rfl rfl (q_load_box ttok 0 (fun w e => e) rfl rfl rfl rfl rfl) ?_
      obtain ⟨r5, q5, H⟩ := bind_t H
      refine HJ.op (i := 1) rfl rfl rfl rfl rfl (op_call [] (node_Loads.spec q5) rfl rfl rfl h6 rfl (gcons (Gives.self 1 rfl) (gcons (Gives.self 2 rfl) (gcons (Gives.self 3 rfl) (gcons (Gives.self 4 rfl) gnil))))) ?_
      rintro _ w6 ⟨_, ⟨A5, c_5, rfl, rfl⟩, h7⟩
      replace h7 : St w0 F0 [ownC 3 (.int .i64) r5 (.slice A5 r5.length c_5), boxC b1 31 [.int .i64 a0.1, .slice A1 a0.2.1.length c_1, .slice A2 a0.2.2.1.length c_2, .slice A3 a0.2.2.2.1.length c_3, .slice A4 a0.2.2.2.2.length c_4]] _ _ := h7
      refine ⟨⟨[_], h7⟩, ?_⟩
      obtain ⟨r6, q6, H⟩ := bind_t H
      refine HJ.op (i := 3) rfl rfl rfl rfl rfl (op_call [] (node_Rank.spec q6) rfl rfl rfl h7 rfl (gcons (Gives.self 2 rfl) (gcons (Gives.self 3 rfl) (gcons (Gives.self 4 rfl) (gcons (Gives.self 5 rfl) gnil))))) ?_
      rintro _ w7 ⟨_, ⟨A6, c_6, rfl, rfl⟩, h8⟩
      replace h8 : St w0 F0 [ownC 3 (.int .i64) r6 (.slice A6 r6.length c_6), ownC 3 (.int .i64) r5 (.slice A5 r5.length c_5), boxC b1 31 [.int .i64 a0.1, .slice A1 a0.2.1.length c_1, .slice A2 a0.2.2.1.length c_2, .slice A3 a0.2.2.2.1.length c_3, .slice A4 a0.2.2.2.2.length c_4]] _ _ := h8
      refine ⟨⟨[_, _], h8⟩, ?_⟩
      refine HJ.run ttok rfl [4, 5] rfl ?_
      refine HJ.fin [(1, .pointer (some ⟨b1, 0, none⟩)), (3, .slice A5 r5.length c_5), (4, .slice A6 r6.length c_6)] rfl rfl ?_
      refine J.seq ?_
      refine J.region ?_
      refine RJ.q rfl rfl (q_load_box ttok 2 h8.wht rfl rfl rfl rfl rfl) ?_
      obtain ⟨r7, q7, H⟩ := bind_t H
      refine RJ.op rfl rfl (op_call [] (node_Heaviest.spec q7) rfl rfl rfl h8 rfl (gcons (Gives.self 3 rfl) (gcons (Gives.self 4 rfl) (gcons (Gives.self 5 rfl) (gcons (Gives.self 6 rfl) gnil))))) ?_
      rintro _ w8 ⟨_, ⟨rfl, rfl⟩, h9⟩
      replace h9 : St w0 F0 [ownC 3 (.int .i64) r6 (.slice A6 r6.length c_6), ownC 3 (.int .i64) r5 (.slice A5 r5.length c_5), boxC b1 31 [.int .i64 a0.1, .slice A1 a0.2.1.length c_1, .slice A2 a0.2.2.1.length c_2, .slice A3 a0.2.2.2.1.length c_3, .slice A4 a0.2.2.2.2.length c_4]] _ _ := h9
      refine RJ.run ttok 5 rfl ?_
      refine RJ.fin [(1, .pointer (some ⟨b1, 0, none⟩)), (3, .slice A5 r5.length c_5), (4, .slice A6 r6.length c_6), (5, .int .i64 r7.1), (6, .int .i64 r7.2)] rfl ?_
      refine J.seq ?_
      refine J.region ?_
      refine RJ.q rfl rfl (q_load_box ttok 2 h9.wht rfl rfl rfl rfl rfl) ?_
      obtain ⟨r8, q8, H⟩ := bind_t H
      refine RJ.op rfl rfl (op_call [] (sluicegateref13_Heaviest.spec q8) rfl rfl rfl h9 rfl (gcons (Gives.self 3 rfl) (gcons (Gives.self 4 rfl) (gcons (Gives.self 5 rfl) (gcons (Gives.self 6 rfl) gnil))))) ?_
      rintro _ w9 ⟨_, ⟨rfl, rfl⟩, h10⟩
      replace h10 : St w0 F0 [ownC 3 (.int .i64) r6 (.slice A6 r6.length c_6), ownC 3 (.int .i64) r5 (.slice A5 r5.length c_5), boxC b1 31 [.int .i64 a0.1, .slice A1 a0.2.1.length c_1, .slice A2 a0.2.2.1.length c_2, .slice A3 a0.2.2.2.1.length c_3, .slice A4 a0.2.2.2.2.length c_4]] _ _ := h10
      refine RJ.run ttok 5 rfl ?_
      refine RJ.fin [(1, .pointer (some ⟨b1, 0, none⟩)), (3, .slice A5 r5.length c_5), (4, .slice A6 r6.length c_6), (5, .int .i64 r7.1), (6, .int .i64 r7.2), (7, .int .i64 r8.1), (8, .int .i64 r8.2)] rfl ?_
      refine J.seq ?_
      refine J.seq ?_
      refine J.region ?_
      refine RJ.run ttok 3 rfl ?_
      refine RJ.q rfl rfl (q_load_box ttok 2 h10.wht rfl rfl rfl rfl rfl) ?_
      refine RJ.run ttok 3 rfl ?_
      rcases Bool.eq_false_or_eq_true (!decide ((r5.length : Int) = (a0.2.1.length : Int))) with c3 | c3
      · replace H := ite_t c3 H
        refine RJ.know (t := 39) rfl (congrArg Value.bool c3) ?_
        refine RJ.run ttok 28 rfl ?_
        refine RJ.fin [(1, .pointer (some ⟨b1, 0, none⟩)), (3, .slice A5 r5.length c_5), (4, .slice A6 r6.length c_6), (67, .bool true)] rfl ?_
        refine J.condT rfl ?_
        refine J.seq ?_
        refine J.region ?_
        refine RJ.run ttok 1 rfl ?_
        refine RJ.fin [(2, .bool false)] rfl ?_
        have h11 := h10.only [] rfl
        replace h11 : St w0 F0 [] _ _ := h11
        refine J.ret ?_
        obtain rfl := Option.some.inj H
        exact ⟨_, _, _, (results_slots rfl), ⟨rfl, rfl⟩, h11.only [] rfl⟩
      · replace H := ite_f c3 H
        refine RJ.know (t := 39) rfl (congrArg Value.bool c3) ?_
        refine RJ.run ttok 7 rfl ?_
        rcases Bool.eq_false_or_eq_true (!decide ((r6.length : Int) = (r5.length : Int))) with c4 | c4
        · replace H := ite_t c4 H
          refine RJ.know (t := 46) rfl (congrArg Value.bool c4) ?_
          refine RJ.run ttok 21 rfl ?_
          refine RJ.fin [(1, .pointer (some ⟨b1, 0, none⟩)), (3, .slice A5 r5.length c_5), (4, .slice A6 r6.length c_6), (67, .bool true)] rfl ?_
          refine J.condT rfl ?_
          refine J.seq ?_
          refine J.region ?_
          refine RJ.run ttok 1 rfl ?_
          refine RJ.fin [(2, .bool false)] rfl ?_
          have h12 := h10.only [] rfl
          replace h12 : St w0 F0 [] _ _ := h12
          refine J.ret ?_
          obtain rfl := Option.some.inj H
          exact ⟨_, _, _, (results_slots rfl), ⟨rfl, rfl⟩, h12.only [] rfl⟩
        · replace H := ite_f c4 H
          refine RJ.know (t := 46) rfl (congrArg Value.bool c4) ?_
          refine RJ.run ttok 5 rfl ?_
          rcases Bool.eq_false_or_eq_true (!decide (r7.1 = r8.1)) with c5 | c5
          · replace H := ite_t c5 H
            refine RJ.know (t := 51) rfl (congrArg Value.bool c5) ?_
            refine RJ.run ttok 16 rfl ?_
            refine RJ.fin [(1, .pointer (some ⟨b1, 0, none⟩)), (3, .slice A5 r5.length c_5), (4, .slice A6 r6.length c_6), (67, .bool true)] rfl ?_
            refine J.condT rfl ?_
            refine J.seq ?_
            refine J.region ?_
            refine RJ.run ttok 1 rfl ?_
            refine RJ.fin [(2, .bool false)] rfl ?_
            have h13 := h10.only [] rfl
            replace h13 : St w0 F0 [] _ _ := h13
            refine J.ret ?_
            obtain rfl := Option.some.inj H
            exact ⟨_, _, _, (results_slots rfl), ⟨rfl, rfl⟩, h13.only [] rfl⟩
          · replace H := ite_f c5 H
            refine RJ.know (t := 51) rfl (congrArg Value.bool c5) ?_
            refine RJ.run ttok 5 rfl ?_
            rcases Bool.eq_false_or_eq_true (!decide (r7.2 = r8.2)) with c6 | c6
            · replace H := ite_t c6 H
              refine RJ.know (t := 56) rfl (congrArg Value.bool c6) ?_
              refine RJ.run ttok 11 rfl ?_
              refine RJ.fin [(1, .pointer (some ⟨b1, 0, none⟩)), (3, .slice A5 r5.length c_5), (4, .slice A6 r6.length c_6), (67, .bool true)] rfl ?_
              refine J.condT rfl ?_
              refine J.seq ?_
              refine J.region ?_
              refine RJ.run ttok 1 rfl ?_
              refine RJ.fin [(2, .bool false)] rfl ?_
              have h14 := h10.only [] rfl
              replace h14 : St w0 F0 [] _ _ := h14
              refine J.ret ?_
              obtain rfl := Option.some.inj H
              exact ⟨_, _, _, (results_slots rfl), ⟨rfl, rfl⟩, h14.only [] rfl⟩
            · replace H := ite_f c6 H
              refine RJ.know (t := 56) rfl (congrArg Value.bool c6) ?_
              refine RJ.run ttok 4 rfl ?_
              rcases Bool.eq_false_or_eq_true (decide (0 < (r6.length : Int))) with c7 | c7
              · replace H := ite_t c7 H
                refine RJ.know (t := 60) rfl (congrArg Value.bool c7) ?_
                refine RJ.run ttok 1 rfl ?_
                obtain ⟨p1, H⟩ := guard_t H
                have e1 := elem_A h10.wh (Gives.of 0 rfl own_rd) (by decide) p1
                refine RJ.q rfl rfl (q_index ttok rfl rfl rfl rfl rfl e1 (by decide) p1) ?_
                refine RJ.q rfl rfl (q_load_elem (f := 0) ttok rfl h10.wht (Gives.of 0 rfl own_rd) (by decide) p1 rfl rfl rfl rfl rfl) ?_
                refine RJ.run ttok 4 rfl ?_
                refine RJ.fin [(1, .pointer (some ⟨b1, 0, none⟩)), (3, .slice A5 r5.length c_5), (4, .slice A6 r6.length c_6), (67, .bool (!decide ((gt r6 0) = r7.1)))] rfl ?_
                refine J.cond rfl (fun c8 => ?_) (fun c8 => ?_)
                · replace H := ite_t c8 H
                  refine J.seq ?_
                  refine J.region ?_
                  refine RJ.run ttok 1 rfl ?_
                  refine RJ.fin [(2, .bool false)] rfl ?_
                  have h15 := h10.only [] rfl
                  replace h15 : St w0 F0 [] _ _ := h15
                  refine J.ret ?_
                  obtain rfl := Option.some.inj H
                  exact ⟨_, _, _, (results_slots rfl), ⟨rfl, rfl⟩, h15.only [] rfl⟩
                · replace H := ite_f c8 H
                  refine J.skip ?_
                  refine J.seq ?_
                  refine J.region ?_
                  refine RJ.op rfl rfl (op_makemap .i64 Value.bool rfl h10) ?_
                  rintro _ w10 ⟨b2, rfl, h16⟩
                  replace h16 : St w0 F0 [mapC .i64 Value.bool b2 ([] : List (Int × Bool)), ownC 3 (.int .i64) r6 (.slice A6 r6.length c_6), ownC 3 (.int .i64) r5 (.slice A5 r5.length c_5), boxC b1 31 [.int .i64 a0.1, .slice A1 a0.2.1.length c_1, .slice A2 a0.2.2.1.length c_2, .slice A3 a0.2.2.2.1.length c_3, .slice A4 a0.2.2.2.2.length c_4]] _ _ := h16
                  refine RJ.run ttok 1 rfl ?_
                  refine RJ.fin [(1, .pointer (some ⟨b1, 0, none⟩)), (3, .slice A5 r5.length c_5), (4, .slice A6 r6.length c_6), (9, .map (some b2))] rfl ?_
                  refine J.seq ?_
                  refine J.seq ?_
                  refine J.region ?_
                  refine RJ.run ttok 1 rfl ?_
                  refine RJ.fin [(1, .pointer (some ⟨b1, 0, none⟩)), (3, .slice A5 r5.length c_5), (4, .slice A6 r6.length c_6), (9, .map (some b2)), (10, .int .i64 0)] rfl ?_
                  refine J.block ?_
                  have h32 := ((h16.only [3, 0, 1, 0] rfl).rds [0, 1, 2, 3] rfl)
                  refine J.loop (fun k env w => ∃ (x1 : List (Int × Bool)) (x2 : Int), env = [(1, .pointer (some ⟨b1, 0, none⟩)), (3, .slice A5 r5.length c_5), (4, .slice A6 r6.length c_6), (9, .map (some b2)), (10, .int .i64 x2)] ∧ St w0 F0 [boxC b1 31 [.int .i64 a0.1, .slice A1 a0.2.1.length c_1, .slice A2 a0.2.2.1.length c_2, .slice A3 a0.2.2.2.1.length c_3, .slice A4 a0.2.2.2.2.length c_4], mapC .i64 Value.bool b2 x1, ownC 3 (.int .i64) r5 (.slice A5 r5.length c_5), ownC 3 (.int .i64) r6 (.slice A6 r6.length c_6)] [rdC 46 (.int .u32) a0.2.1 (.slice A1 a0.2.1.length c_1), rdC 9 .str a0.2.2.1 (.slice A2 a0.2.2.1.length c_2), rdC 48 (.pair .str (.pair .bool .str)) a0.2.2.2.1 (.slice A3 a0.2.2.2.1.length c_3), rdC 50 (.pair .str .str) a0.2.2.2.2 (.slice A4 a0.2.2.2.2.length c_4)] w ∧ sluicegatelaw13_NodeLoads.l0 k a0 r5 r6 x1 x2 = some r) (k := k) ⟨([] : List (Int × Bool)), 0, rfl, h32, H⟩ ?_
                  rintro k1 env w11 ⟨x1, x2, rfl, h17, H⟩
                  cases k1 with
                  | zero => exact nomatch (show none = some r from H)
                  | succ k1 =>
                    rw [sluicegatelaw13_NodeLoads.l0] at H
                    refine J.seq ?_
                    refine J.seq ?_
                    refine J.region ?_
                    refine RJ.run ttok 4 rfl ?_
                    refine RJ.fin [(1, .pointer (some ⟨b1, 0, none⟩)), (3, .slice A5 r5.length c_5), (4, .slice A6 r6.length c_6), (9, .map (some b2)), (10, .int .i64 x2), (72, .bool (decide (x2 < (r5.length : Int))))] rfl ?_
                    refine J.cond rfl (fun c9 => ?_) (fun c9 => ?_)
                    · replace H := ite_t c9 H
                      refine J.skip ?_
                      refine J.seq ?_
                      refine J.block ?_
                      refine J.seq ?_
                      refine J.seq ?_
                      refine J.heldSt mix h17 ?_
                      have h18 := h17.drew
                      refine HJ.run ttok rfl [0, 1, 5] rfl ?_
                      obtain ⟨⟨p2, p3⟩, H⟩ := guard_t H
                      have e2 := elem_A h18.wh (Gives.of 2 rfl own_rd) p2 p3
                      refine HJ.q (i := 2) rfl rfl rfl rfl rfl rfl (q_index ttok rfl rfl rfl rfl rfl e2 p2 p3) ?_
                      refine HJ.q (i := 3) rfl rfl rfl rfl rfl rfl (q_load_elem (f := 0) ttok rfl (fun w e => e) (Gives.of 2 rfl own_rd) p2 p3 rfl rfl rfl rfl rfl) ?_
                      refine HJ.q (i := 4) rfl rfl rfl rfl rfl rfl (q_load_box ttok 0 (fun w e => e) rfl rfl rfl rfl rfl) ?_
                      obtain ⟨r9, q9, H⟩ := bind_t H
                      refine HJ.op (i := 6) rfl rfl rfl rfl rfl (op_call [] (sluicegateref13_Load.spec q9) rfl rfl rfl h18 rfl (gcons (Gives.self 4 rfl) (gcons (Gives.self 5 rfl) (gcons (Gives.self 6 rfl) (gcons (Gives.self 7 rfl) gnil))))) ?_
                      rintro _ w12 ⟨_, ⟨rfl, rfl⟩, h19⟩
                      replace h19 : St w0 F0 [boxC b1 31 [.int .i64 a0.1, .slice A1 a0.2.1.length c_1, .slice A2 a0.2.2.1.length c_2, .slice A3 a0.2.2.2.1.length c_3, .slice A4 a0.2.2.2.2.length c_4], mapC .i64 Value.bool b2 x1, ownC 3 (.int .i64) r5 (.slice A5 r5.length c_5), ownC 3 (.int .i64) r6 (.slice A6 r6.length c_6)] _ _ := h19
                      refine ⟨⟨[], h19⟩, ?_⟩
                      refine HJ.run ttok rfl [7, 8] rfl ?_
                      rcases Bool.eq_false_or_eq_true (!decide ((gt r5 x2) = r9)) with c10 | c10
                      · replace H := ite_t c10 H
                        refine HJ.know (t := 83) rfl (congrArg Value.bool c10) ?_
                        refine HJ.run ttok rfl [9, 10, 11, 12, 13, 14, 15, 16, 17, 18, 19, 20, 21, 22, 23, 24, 25, 26, 27, 28, 29, 30, 31, 32, 33, 34, 35, 36, 37, 38, 39, 40, 41, 42, 43, 44, 45, 46, 47, 48, 49] rfl ?_
                        refine HJ.fin [(1, .pointer (some ⟨b1, 0, none⟩)), (3, .slice A5 r5.length c_5), (4, .slice A6 r6.length c_6), (9, .map (some b2)), (10, .int .i64 x2), (124, .bool true)] rfl rfl ?_
                        refine J.condT rfl ?_
                        refine J.seq ?_
                        refine J.region ?_
                        refine RJ.run ttok 1 rfl ?_
                        refine RJ.fin [(2, .bool false)] rfl ?_
                        have h20 := h19.only [] rfl
                        replace h20 : St w0 F0 [] _ _ := h20
                        refine J.ret ?_
                        obtain rfl := Option.some.inj H
                        exact ⟨_, _, _, (results_slots rfl), ⟨rfl, rfl⟩, h20.only [] rfl⟩
                      · replace H := ite_f c10 H
                        refine HJ.know (t := 83) rfl (congrArg Value.bool c10) ?_
                        refine HJ.run ttok rfl [9, 10, 11] rfl ?_
                        obtain ⟨⟨p4, p5⟩, H⟩ := guard_t H
                        refine HJ.q (i := 12) rfl rfl rfl rfl rfl rfl (q_index ttok rfl rfl rfl rfl rfl e1 p4 p5) ?_
                        refine HJ.q (i := 13) rfl rfl rfl rfl rfl rfl (q_load_elem (f := 0) ttok rfl (fun w e => e) (Gives.of 3 rfl own_rd) p4 p5 rfl rfl rfl rfl rfl) ?_
                        refine HJ.q (i := 14) rfl rfl rfl rfl rfl rfl (q_lookup ttok false 1 (fun w e => e) rfl rfl rfl rfl rfl rfl rfl rfl rfl rfl) ?_
                        refine HJ.run ttok rfl [15, 16] rfl ?_
                        rcases Bool.eq_false_or_eq_true (mget false x1 (gt r6 x2)) with c11 | c11
                        · replace H := ite_t c11 H
                          refine HJ.know (t := 91) rfl (congrArg Value.bool c11) ?_
                          refine HJ.run ttok rfl [17, 18, 19, 20, 21, 22, 23, 24, 25, 26, 27, 28, 29, 30, 31, 32, 33, 34, 35, 36, 37, 38, 39, 40, 41, 42, 43, 44, 45, 46, 47, 48, 49] rfl ?_
                          refine HJ.fin [(1, .pointer (some ⟨b1, 0, none⟩)), (3, .slice A5 r5.length c_5), (4, .slice A6 r6.length c_6), (9, .map (some b2)), (10, .int .i64 x2), (124, .bool true)] rfl rfl ?_
                          refine J.condT rfl ?_
                          refine J.seq ?_
                          refine J.region ?_
                          refine RJ.run ttok 1 rfl ?_
                          refine RJ.fin [(2, .bool false)] rfl ?_
                          have h21 := h19.only [] rfl
                          replace h21 : St w0 F0 [] _ _ := h21
                          refine J.ret ?_
                          obtain rfl := Option.some.inj H
                          exact ⟨_, _, _, (results_slots rfl), ⟨rfl, rfl⟩, h21.only [] rfl⟩
                        · replace H := ite_f c11 H
                          refine HJ.know (t := 91) rfl (congrArg Value.bool c11) ?_
                          refine HJ.run ttok rfl [17, 18] rfl ?_
                          refine HJ.q (i := 19) rfl rfl rfl rfl rfl rfl (q_index ttok rfl rfl rfl rfl rfl e1 p4 p5) ?_
                          refine HJ.q (i := 20) rfl rfl rfl rfl rfl rfl (q_load_elem (f := 0) ttok rfl (fun w e => e) (Gives.of 3 rfl own_rd) p4 p5 rfl rfl rfl rfl rfl) ?_
                          refine HJ.run ttok rfl [21, 22, 23] rfl ?_
                          rcases Bool.eq_false_or_eq_true (decide ((gt r6 x2) < 0)) with c12 | c12
                          · replace H := ite_t c12 H
                            refine HJ.know (t := 98) rfl (congrArg Value.bool c12) ?_
                            refine HJ.run ttok rfl [24, 25, 26, 27, 28, 29, 30, 31, 32, 33, 34, 35, 36, 37, 38, 39, 40, 41, 42, 43, 44, 45, 46, 47, 48, 49] rfl ?_
                            refine HJ.fin [(1, .pointer (some ⟨b1, 0, none⟩)), (3, .slice A5 r5.length c_5), (4, .slice A6 r6.length c_6), (9, .map (some b2)), (10, .int .i64 x2), (124, .bool true)] rfl rfl ?_
                            refine J.condT rfl ?_
                            refine J.seq ?_
                            refine J.region ?_
                            refine RJ.run ttok 1 rfl ?_
                            refine RJ.fin [(2, .bool false)] rfl ?_
                            have h22 := h19.only [] rfl
                            replace h22 : St w0 F0 [] _ _ := h22
                            refine J.ret ?_
                            obtain rfl := Option.some.inj H
                            exact ⟨_, _, _, (results_slots rfl), ⟨rfl, rfl⟩, h22.only [] rfl⟩
                          · replace H := ite_f c12 H
                            refine HJ.know (t := 98) rfl (congrArg Value.bool c12) ?_
                            refine HJ.run ttok rfl [24, 25, 28, 29] rfl ?_
                            refine HJ.q (i := 26) rfl rfl rfl rfl rfl rfl (q_index ttok rfl rfl rfl rfl rfl e1 p4 p5) ?_
                            refine HJ.q (i := 27) rfl rfl rfl rfl rfl rfl (q_load_elem (f := 0) ttok rfl (fun w e => e) (Gives.of 3 rfl own_rd) p4 p5 rfl rfl rfl rfl rfl) ?_
                            refine HJ.run ttok rfl [30, 31, 32] rfl ?_
                            rcases Bool.eq_false_or_eq_true (decide ((r5.length : Int) ≤ (gt r6 x2))) with c13 | c13
                            · replace H := ite_t c13 H
                              refine HJ.know (t := 107) rfl (congrArg Value.bool c13) ?_
                              refine HJ.run ttok rfl [33, 34, 35, 36, 37, 38, 39, 40, 41, 42, 43, 44, 45, 46, 47, 48, 49] rfl ?_
                              refine HJ.fin [(1, .pointer (some ⟨b1, 0, none⟩)), (3, .slice A5 r5.length c_5), (4, .slice A6 r6.length c_6), (9, .map (some b2)), (10, .int .i64 x2), (124, .bool true)] rfl rfl ?_
                              refine J.condT rfl ?_
                              refine J.seq ?_
                              refine J.region ?_
                              refine RJ.run ttok 1 rfl ?_
                              refine RJ.fin [(2, .bool false)] rfl ?_
                              have h23 := h19.only [] rfl
                              replace h23 : St w0 F0 [] _ _ := h23
                              refine J.ret ?_
                              obtain rfl := Option.some.inj H
                              exact ⟨_, _, _, (results_slots rfl), ⟨rfl, rfl⟩, h23.only [] rfl⟩
                            · replace H := ite_f c13 H
                              refine HJ.know (t := 107) rfl (congrArg Value.bool c13) ?_
                              refine HJ.run ttok rfl [33, 34, 35] rfl ?_
                              rcases Bool.eq_false_or_eq_true (decide (0 < x2)) with c14 | c14
                              · replace H := ite_t c14 H
                                refine HJ.know (t := 110) rfl (congrArg Value.bool c14) ?_
                                refine HJ.run ttok rfl [37, 38, 39, 42, 43] rfl ?_
                                refine HJ.q (i := 36) rfl rfl rfl rfl rfl rfl (q_load_box ttok 0 (fun w e => e) rfl rfl rfl rfl rfl) ?_
                                obtain ⟨⟨p6, p7⟩, H⟩ := guard_t H
                                refine HJ.q (i := 40) rfl rfl rfl rfl rfl rfl (q_index ttok rfl rfl rfl rfl rfl e1 p6 p7) ?_
                                refine HJ.q (i := 41) rfl rfl rfl rfl rfl rfl (q_load_elem (f := 0) ttok rfl (fun w e => e) (Gives.of 3 rfl own_rd) p6 p7 rfl rfl rfl rfl rfl) ?_
                                refine HJ.q (i := 44) rfl rfl rfl rfl rfl rfl (q_index ttok rfl rfl rfl rfl rfl e1 p4 p5) ?_
                                refine HJ.q (i := 45) rfl rfl rfl rfl rfl rfl (q_load_elem (f := 0) ttok rfl (fun w e => e) (Gives.of 3 rfl own_rd) p4 p5 rfl rfl rfl rfl rfl) ?_
                                obtain ⟨r10, q10, H⟩ := bind_t H
                                refine HJ.op (i := 46) rfl rfl rfl rfl rfl (op_call [] (sluicegateref13_Ahead.spec q10) rfl rfl rfl h19 rfl (gcons (Gives.self 4 rfl) (gcons (Gives.self 5 rfl) (gcons (Gives.self 6 rfl) (gcons (Gives.self 7 rfl) gnil))))) ?_
                                rintro _ w13 ⟨_, ⟨rfl, rfl⟩, h24⟩
                                replace h24 : St w0 F0 [boxC b1 31 [.int .i64 a0.1, .slice A1 a0.2.1.length c_1, .slice A2 a0.2.2.1.length c_2, .slice A3 a0.2.2.2.1.length c_3, .slice A4 a0.2.2.2.2.length c_4], mapC .i64 Value.bool b2 x1, ownC 3 (.int .i64) r5 (.slice A5 r5.length c_5), ownC 3 (.int .i64) r6 (.slice A6 r6.length c_6)] _ _ := h24
                                refine ⟨⟨[], h24⟩, ?_⟩
                                refine HJ.run ttok rfl [47, 48, 49] rfl ?_
                                refine HJ.fin [(1, .pointer (some ⟨b1, 0, none⟩)), (3, .slice A5 r5.length c_5), (4, .slice A6 r6.length c_6), (9, .map (some b2)), (10, .int .i64 x2), (124, .bool (!r10))] rfl rfl ?_
                                refine J.cond rfl (fun c15 => ?_) (fun c15 => ?_)
                                · replace H := ite_t c15 H
                                  refine J.seq ?_
                                  refine J.region ?_
                                  refine RJ.run ttok 1 rfl ?_
                                  refine RJ.fin [(2, .bool false)] rfl ?_
                                  have h25 := h24.only [] rfl
                                  replace h25 : St w0 F0 [] _ _ := h25
                                  refine J.ret ?_
                                  obtain rfl := Option.some.inj H
                                  exact ⟨_, _, _, (results_slots rfl), ⟨rfl, rfl⟩, h25.only [] rfl⟩
                                · replace H := ite_f c15 H
                                  refine J.skip ?_
                                  refine J.region ?_
                                  refine RJ.run ttok 3 rfl ?_
                                  refine RJ.q rfl rfl (q_index ttok rfl rfl rfl rfl rfl e1 p4 p5) ?_
                                  refine RJ.q rfl rfl (q_load_elem (f := 0) ttok rfl h24.wht (Gives.of 3 rfl own_rd) p4 p5 rfl rfl rfl rfl rfl) ?_
                                  refine RJ.op rfl rfl (op_mapupd ttok (v := true) (ix := (gt r6 x2)) 1 rfl h24 rfl rfl rfl rfl rfl rfl rfl rfl rfl) ?_
                                  intro _ w14 h26
                                  replace h26 : St w0 F0 [mapC .i64 Value.bool b2 (mput (gt r6 x2) true x1), boxC b1 31 [.int .i64 a0.1, .slice A1 a0.2.1.length c_1, .slice A2 a0.2.2.1.length c_2, .slice A3 a0.2.2.2.1.length c_3, .slice A4 a0.2.2.2.2.length c_4], ownC 3 (.int .i64) r5 (.slice A5 r5.length c_5), ownC 3 (.int .i64) r6 (.slice A6 r6.length c_6)] _ _ := h26
                                  refine RJ.fin [(1, .pointer (some ⟨b1, 0, none⟩)), (3, .slice A5 r5.length c_5), (4, .slice A6 r6.length c_6), (9, .map (some b2)), (10, .int .i64 x2)] rfl ?_
                                  refine J.region ?_
                                  refine RJ.run ttok 3 rfl ?_
                                  refine RJ.fin [(1, .pointer (some ⟨b1, 0, none⟩)), (3, .slice A5 r5.length c_5), (4, .slice A6 r6.length c_6), (9, .map (some b2)), (10, .int .i64 (w64 (x2 + 1)))] rfl ?_
                                  have h27 := ((h26.only [1, 0, 0, 0] rfl).rds [0, 1, 2, 3] rfl)
                                  exact ⟨k1, by omega, (mput (gt r6 x2) true x1), (w64 (x2 + 1)), rfl, h27, H⟩
                              · replace H := ite_f c14 H
                                refine HJ.know (t := 110) rfl (congrArg Value.bool c14) ?_
                                refine HJ.run ttok rfl [36, 37, 38, 39, 40, 41, 42, 43, 44, 45, 46, 47, 48, 49] rfl ?_
                                refine HJ.fin [(1, .pointer (some ⟨b1, 0, none⟩)), (3, .slice A5 r5.length c_5), (4, .slice A6 r6.length c_6), (9, .map (some b2)), (10, .int .i64 x2), (124, .bool false)] rfl rfl ?_
                                refine J.condF rfl ?_
                                refine J.skip ?_
                                refine J.region ?_
                                refine RJ.run ttok 3 rfl ?_
                                refine RJ.q rfl rfl (q_index ttok rfl rfl rfl rfl rfl e1 p4 p5) ?_
                                refine RJ.q rfl rfl (q_load_elem (f := 0) ttok rfl h19.wht (Gives.of 3 rfl own_rd) p4 p5 rfl rfl rfl rfl rfl) ?_
                                refine RJ.op rfl rfl (op_mapupd ttok (v := true) (ix := (gt r6 x2)) 1 rfl h19 rfl rfl rfl rfl rfl rfl rfl rfl rfl) ?_
                                intro _ w15 h28
                                replace h28 : St w0 F0 [mapC .i64 Value.bool b2 (mput (gt r6 x2) true x1), boxC b1 31 [.int .i64 a0.1, .slice A1 a0.2.1.length c_1, .slice A2 a0.2.2.1.length c_2, .slice A3 a0.2.2.2.1.length c_3, .slice A4 a0.2.2.2.2.length c_4], ownC 3 (.int .i64) r5 (.slice A5 r5.length c_5), ownC 3 (.int .i64) r6 (.slice A6 r6.length c_6)] _ _ := h28
                                refine RJ.fin [(1, .pointer (some ⟨b1, 0, none⟩)), (3, .slice A5 r5.length c_5), (4, .slice A6 r6.length c_6), (9, .map (some b2)), (10, .int .i64 x2)] rfl ?_
                                refine J.region ?_
                                refine RJ.run ttok 3 rfl ?_
                                refine RJ.fin [(1, .pointer (some ⟨b1, 0, none⟩)), (3, .slice A5 r5.length c_5), (4, .slice A6 r6.length c_6), (9, .map (some b2)), (10, .int .i64 (w64 (x2 + 1)))] rfl ?_
                                have h29 := ((h28.only [1, 0, 0, 0] rfl).rds [0, 1, 2, 3] rfl)
                                exact ⟨k1, by omega, (mput (gt r6 x2) true x1), (w64 (x2 + 1)), rfl, h29, H⟩
                    · replace H := ite_f c9 H
                      refine J.exit ?_
                      refine J.seq ?_
                      refine J.region ?_
                      obtain ⟨r11, q11, H⟩ := bind_t H
                      refine RJ.op rfl rfl (op_call [] (sluicegatelaw13_awake.spec q11) rfl rfl rfl h17 rfl gnil) ?_
                      rintro _ w16 ⟨_, ⟨rfl, rfl⟩, h30⟩
                      replace h30 : St w0 F0 [boxC b1 31 [.int .i64 a0.1, .slice A1 a0.2.1.length c_1, .slice A2 a0.2.2.1.length c_2, .slice A3 a0.2.2.2.1.length c_3, .slice A4 a0.2.2.2.2.length c_4], mapC .i64 Value.bool b2 x1, ownC 3 (.int .i64) r5 (.slice A5 r5.length c_5), ownC 3 (.int .i64) r6 (.slice A6 r6.length c_6)] _ _ := h30
                      refine RJ.run ttok 1 rfl ?_
                      refine RJ.fin [(2, .bool r11)] rfl ?_
                      have h31 := h30.only [] rfl
                      replace h31 : St w0 F0 [] _ _ := h31
                      refine J.ret ?_
                      obtain rfl := Option.some.inj H
                      exact ⟨_, _, _, (results_slots rfl), ⟨rfl, rfl⟩, h31.only [] rfl⟩
              · replace H := ite_f c7 H
                refine RJ.know (t := 60) rfl (congrArg Value.bool c7) ?_
                refine RJ.run ttok 7 rfl ?_
                refine RJ.fin [(1, .pointer (some ⟨b1, 0, none⟩)), (3, .slice A5 r5.length c_5), (4, .slice A6 r6.length c_6), (67, .bool false)] rfl ?_
                refine J.condF rfl ?_
                refine J.skip ?_
                refine J.seq ?_
                refine J.region ?_
                refine RJ.op rfl rfl (op_makemap .i64 Value.bool rfl h10) ?_
                rintro _ w17 ⟨b3, rfl, h33⟩
                replace h33 : St w0 F0 [mapC .i64 Value.bool b3 ([] : List (Int × Bool)), ownC 3 (.int .i64) r6 (.slice A6 r6.length c_6), ownC 3 (.int .i64) r5 (.slice A5 r5.length c_5), boxC b1 31 [.int .i64 a0.1, .slice A1 a0.2.1.length c_1, .slice A2 a0.2.2.1.length c_2, .slice A3 a0.2.2.2.1.length c_3, .slice A4 a0.2.2.2.2.length c_4]] _ _ := h33
                refine RJ.run ttok 1 rfl ?_
                refine RJ.fin [(1, .pointer (some ⟨b1, 0, none⟩)), (3, .slice A5 r5.length c_5), (4, .slice A6 r6.length c_6), (9, .map (some b3))] rfl ?_
                refine J.seq ?_
                refine J.seq ?_
                refine J.region ?_
                refine RJ.run ttok 1 rfl ?_
                refine RJ.fin [(1, .pointer (some ⟨b1, 0, none⟩)), (3, .slice A5 r5.length c_5), (4, .slice A6 r6.length c_6), (9, .map (some b3)), (10, .int .i64 0)] rfl ?_
                refine J.block ?_
                have h49 := ((h33.only [3, 0, 1, 0] rfl).rds [0, 1, 2, 3] rfl)
                refine J.loop (fun k env w => ∃ (x3 : List (Int × Bool)) (x4 : Int), env = [(1, .pointer (some ⟨b1, 0, none⟩)), (3, .slice A5 r5.length c_5), (4, .slice A6 r6.length c_6), (9, .map (some b3)), (10, .int .i64 x4)] ∧ St w0 F0 [boxC b1 31 [.int .i64 a0.1, .slice A1 a0.2.1.length c_1, .slice A2 a0.2.2.1.length c_2, .slice A3 a0.2.2.2.1.length c_3, .slice A4 a0.2.2.2.2.length c_4], mapC .i64 Value.bool b3 x3, ownC 3 (.int .i64) r5 (.slice A5 r5.length c_5), ownC 3 (.int .i64) r6 (.slice A6 r6.length c_6)] [rdC 46 (.int .u32) a0.2.1 (.slice A1 a0.2.1.length c_1), rdC 9 .str a0.2.2.1 (.slice A2 a0.2.2.1.length c_2), rdC 48 (.pair .str (.pair .bool .str)) a0.2.2.2.1 (.slice A3 a0.2.2.2.1.length c_3), rdC 50 (.pair .str .str) a0.2.2.2.2 (.slice A4 a0.2.2.2.2.length c_4)] w ∧ sluicegatelaw13_NodeLoads.l1 k a0 r5 r6 x3 x4 = some r) (k := k) ⟨([] : List (Int × Bool)), 0, rfl, h49, H⟩ ?_
                rintro k2 env w18 ⟨x3, x4, rfl, h34, H⟩
                cases k2 with
                | zero => exact nomatch (show none = some r from H)
                | succ k2 =>
                  rw [sluicegatelaw13_NodeLoads.l1] at H
                  refine J.seq ?_
                  refine J.seq ?_
                  refine J.region ?_
                  refine RJ.run ttok 4 rfl ?_
                  refine RJ.fin [(1, .pointer (some ⟨b1, 0, none⟩)), (3, .slice A5 r5.length c_5), (4, .slice A6 r6.length c_6), (9, .map (some b3)), (10, .int .i64 x4), (72, .bool (decide (x4 < (r5.length : Int))))] rfl ?_
                  refine J.cond rfl (fun c16 => ?_) (fun c16 => ?_)
                  · replace H := ite_t c16 H
                    refine J.skip ?_
                    refine J.seq ?_
                    refine J.block ?_
                    refine J.seq ?_
                    refine J.seq ?_
                    refine J.heldSt mix h34 ?_
                    have h35 := h34.drew
                    refine HJ.run ttok rfl [0, 1, 5] rfl ?_
                    obtain ⟨⟨p8, p9⟩, H⟩ := guard_t H
                    have e3 := elem_A h35.wh (Gives.of 2 rfl own_rd) p8 p9
                    refine HJ.q (i := 2) rfl rfl rfl rfl rfl rfl (q_index ttok rfl rfl rfl rfl rfl e3 p8 p9) ?_
                    refine HJ.q (i := 3) rfl rfl rfl rfl rfl rfl (q_load_elem (f := 0) ttok rfl (fun w e => e) (Gives.of 2 rfl own_rd) p8 p9 rfl rfl rfl rfl rfl) ?_
                    refine HJ.q (i := 4) rfl rfl rfl rfl rfl rfl (q_load_box ttok 0 (fun w e => e) rfl rfl rfl rfl rfl) ?_
                    obtain ⟨r12, q12, H⟩ := bind_t H
                    refine HJ.op (i := 6) rfl rfl rfl rfl rfl (op_call [] (sluicegateref13_Load.spec q12) rfl rfl rfl h35 rfl (gcons (Gives.self 4 rfl) (gcons (Gives.self 5 rfl) (gcons (Gives.self 6 rfl) (gcons (Gives.self 7 rfl) gnil))))) ?_
                    rintro _ w19 ⟨_, ⟨rfl, rfl⟩, h36⟩
                    replace h36 : St w0 F0 [boxC b1 31 [.int .i64 a0.1, .slice A1 a0.2.1.length c_1, .slice A2 a0.2.2.1.length c_2, .slice A3 a0.2.2.2.1.length c_3, .slice A4 a0.2.2.2.2.length c_4], mapC .i64 Value.bool b3 x3, ownC 3 (.int .i64) r5 (.slice A5 r5.length c_5), ownC 3 (.int .i64) r6 (.slice A6 r6.length c_6)] _ _ := h36
                    refine ⟨⟨[], h36⟩, ?_⟩
                    refine HJ.run ttok rfl [7, 8] rfl ?_
                    rcases Bool.eq_false_or_eq_true (!decide ((gt r5 x4) = r12)) with c17 | c17
                    · replace H := ite_t c17 H
                      refine HJ.know (t := 83) rfl (congrArg Value.bool c17) ?_
                      refine HJ.run ttok rfl [9, 10, 11, 12, 13, 14, 15, 16, 17, 18, 19, 20, 21, 22, 23, 24, 25, 26, 27, 28, 29, 30, 31, 32, 33, 34, 35, 36, 37, 38, 39, 40, 41, 42, 43, 44, 45, 46, 47, 48, 49] rfl ?_
                      refine HJ.fin [(1, .pointer (some ⟨b1, 0, none⟩)), (3, .slice A5 r5.length c_5), (4, .slice A6 r6.length c_6), (9, .map (some b3)), (10, .int .i64 x4), (124, .bool true)] rfl rfl ?_
                      refine J.condT rfl ?_
                      refine J.seq ?_
                      refine J.region ?_
                      refine RJ.run ttok 1 rfl ?_
                      refine RJ.fin [(2, .bool false)] rfl ?_
                      have h37 := h36.only [] rfl
                      replace h37 : St w0 F0 [] _ _ := h37
                      refine J.ret ?_
                      obtain rfl := Option.some.inj H
                      exact ⟨_, _, _, (results_slots rfl), ⟨rfl, rfl⟩, h37.only [] rfl⟩
                    · replace H := ite_f c17 H
                      refine HJ.know (t := 83) rfl (congrArg Value.bool c17) ?_
                      refine HJ.run ttok rfl [9, 10, 11] rfl ?_
                      obtain ⟨⟨p10, p11⟩, H⟩ := guard_t H
                      have e4 := elem_A h36.wh (Gives.of 3 rfl own_rd) p10 p11
                      refine HJ.q (i := 12) rfl rfl rfl rfl rfl rfl (q_index ttok rfl rfl rfl rfl rfl e4 p10 p11) ?_
                      refine HJ.q (i := 13) rfl rfl rfl rfl rfl rfl (q_load_elem (f := 0) ttok rfl (fun w e => e) (Gives.of 3 rfl own_rd) p10 p11 rfl rfl rfl rfl rfl) ?_
                      refine HJ.q (i := 14) rfl rfl rfl rfl rfl rfl (q_lookup ttok false 1 (fun w e => e) rfl rfl rfl rfl rfl rfl rfl rfl rfl rfl) ?_
                      refine HJ.run ttok rfl [15, 16] rfl ?_
                      rcases Bool.eq_false_or_eq_true (mget false x3 (gt r6 x4)) with c18 | c18
                      · replace H := ite_t c18 H
                        refine HJ.know (t := 91) rfl (congrArg Value.bool c18) ?_
                        refine HJ.run ttok rfl [17, 18, 19, 20, 21, 22, 23, 24, 25, 26, 27, 28, 29, 30, 31, 32, 33, 34, 35, 36, 37, 38, 39, 40, 41, 42, 43, 44, 45, 46, 47, 48, 49] rfl ?_
                        refine HJ.fin [(1, .pointer (some ⟨b1, 0, none⟩)), (3, .slice A5 r5.length c_5), (4, .slice A6 r6.length c_6), (9, .map (some b3)), (10, .int .i64 x4), (124, .bool true)] rfl rfl ?_
                        refine J.condT rfl ?_
                        refine J.seq ?_
                        refine J.region ?_
                        refine RJ.run ttok 1 rfl ?_
                        refine RJ.fin [(2, .bool false)] rfl ?_
                        have h38 := h36.only [] rfl
                        replace h38 : St w0 F0 [] _ _ := h38
                        refine J.ret ?_
                        obtain rfl := Option.some.inj H
                        exact ⟨_, _, _, (results_slots rfl), ⟨rfl, rfl⟩, h38.only [] rfl⟩
                      · replace H := ite_f c18 H
                        refine HJ.know (t := 91) rfl (congrArg Value.bool c18) ?_
                        refine HJ.run ttok rfl [17, 18] rfl ?_
                        refine HJ.q (i := 19) rfl rfl rfl rfl rfl rfl (q_index ttok rfl rfl rfl rfl rfl e4 p10 p11) ?_
                        refine HJ.q (i := 20) rfl rfl rfl rfl rfl rfl (q_load_elem (f := 0) ttok rfl (fun w e => e) (Gives.of 3 rfl own_rd) p10 p11 rfl rfl rfl rfl rfl) ?_
                        refine HJ.run ttok rfl [21, 22, 23] rfl ?_
                        rcases Bool.eq_false_or_eq_true (decide ((gt r6 x4) < 0)) with c19 | c19
                        · replace H := ite_t c19 H
                          refine HJ.know (t := 98) rfl (congrArg Value.bool c19) ?_
                          refine HJ.run ttok rfl [24, 25, 26, 27, 28, 29, 30, 31, 32, 33, 34, 35, 36, 37, 38, 39, 40, 41, 42, 43, 44, 45, 46, 47, 48, 49] rfl ?_
                          refine HJ.fin [(1, .pointer (some ⟨b1, 0, none⟩)), (3, .slice A5 r5.length c_5), (4, .slice A6 r6.length c_6), (9, .map (some b3)), (10, .int .i64 x4), (124, .bool true)] rfl rfl ?_
                          refine J.condT rfl ?_
                          refine J.seq ?_
                          refine J.region ?_
                          refine RJ.run ttok 1 rfl ?_
                          refine RJ.fin [(2, .bool false)] rfl ?_
                          have h39 := h36.only [] rfl
                          replace h39 : St w0 F0 [] _ _ := h39
                          refine J.ret ?_
                          obtain rfl := Option.some.inj H
                          exact ⟨_, _, _, (results_slots rfl), ⟨rfl, rfl⟩, h39.only [] rfl⟩
                        · replace H := ite_f c19 H
                          refine HJ.know (t := 98) rfl (congrArg Value.bool c19) ?_
                          refine HJ.run ttok rfl [24, 25, 28, 29] rfl ?_
                          refine HJ.q (i := 26) rfl rfl rfl rfl rfl rfl (q_index ttok rfl rfl rfl rfl rfl e4 p10 p11) ?_
                          refine HJ.q (i := 27) rfl rfl rfl rfl rfl rfl (q_load_elem (f := 0) ttok rfl (fun w e => e) (Gives.of 3 rfl own_rd) p10 p11 rfl rfl rfl rfl rfl) ?_
                          refine HJ.run ttok rfl [30, 31, 32] rfl ?_
                          rcases Bool.eq_false_or_eq_true (decide ((r5.length : Int) ≤ (gt r6 x4))) with c20 | c20
                          · replace H := ite_t c20 H
                            refine HJ.know (t := 107) rfl (congrArg Value.bool c20) ?_
                            refine HJ.run ttok rfl [33, 34, 35, 36, 37, 38, 39, 40, 41, 42, 43, 44, 45, 46, 47, 48, 49] rfl ?_
                            refine HJ.fin [(1, .pointer (some ⟨b1, 0, none⟩)), (3, .slice A5 r5.length c_5), (4, .slice A6 r6.length c_6), (9, .map (some b3)), (10, .int .i64 x4), (124, .bool true)] rfl rfl ?_
                            refine J.condT rfl ?_
                            refine J.seq ?_
                            refine J.region ?_
                            refine RJ.run ttok 1 rfl ?_
                            refine RJ.fin [(2, .bool false)] rfl ?_
                            have h40 := h36.only [] rfl
                            replace h40 : St w0 F0 [] _ _ := h40
                            refine J.ret ?_
                            obtain rfl := Option.some.inj H
                            exact ⟨_, _, _, (results_slots rfl), ⟨rfl, rfl⟩, h40.only [] rfl⟩
                          · replace H := ite_f c20 H
                            refine HJ.know (t := 107) rfl (congrArg Value.bool c20) ?_
                            refine HJ.run ttok rfl [33, 34, 35] rfl ?_
                            rcases Bool.eq_false_or_eq_true (decide (0 < x4)) with c21 | c21
                            · replace H := ite_t c21 H
                              refine HJ.know (t := 110) rfl (congrArg Value.bool c21) ?_
                              refine HJ.run ttok rfl [37, 38, 39, 42, 43] rfl ?_
                              refine HJ.q (i := 36) rfl rfl rfl rfl rfl rfl (q_load_box ttok 0 (fun w e => e) rfl rfl rfl rfl rfl) ?_
                              obtain ⟨⟨p12, p13⟩, H⟩ := guard_t H
                              refine HJ.q (i := 40) rfl rfl rfl rfl rfl rfl (q_index ttok rfl rfl rfl rfl rfl e4 p12 p13) ?_
                              refine HJ.q (i := 41) rfl rfl rfl rfl rfl rfl (q_load_elem (f := 0) ttok rfl (fun w e => e) (Gives.of 3 rfl own_rd) p12 p13 rfl rfl rfl rfl rfl) ?_
                              refine HJ.q (i := 44) rfl rfl rfl rfl rfl rfl (q_index ttok rfl rfl rfl rfl rfl e4 p10 p11) ?_
                              refine HJ.q (i := 45) rfl rfl rfl rfl rfl rfl (q_load_elem (f := 0) ttok rfl (fun w e => e) (Gives.of 3 rfl own_rd) p10 p11 rfl rfl rfl rfl rfl) ?_
                              obtain ⟨r13, q13, H⟩ := bind_t H
                              refine HJ.op (i := 46) rfl rfl rfl rfl rfl (op_call [] (sluicegateref13_Ahead.spec q13) rfl rfl rfl h36 rfl (gcons (Gives.self 4 rfl) (gcons (Gives.self 5 rfl) (gcons (Gives.self 6 rfl) (gcons (Gives.self 7 rfl) gnil))))) ?_
                              rintro _ w20 ⟨_, ⟨rfl, rfl⟩, h41⟩
                              replace h41 : St w0 F0 [boxC b1 31 [.int .i64 a0.1, .slice A1 a0.2.1.length c_1, .slice A2 a0.2.2.1.length c_2, .slice A3 a0.2.2.2.1.length c_3, .slice A4 a0.2.2.2.2.length c_4], mapC .i64 Value.bool b3 x3, ownC 3 (.int .i64) r5 (.slice A5 r5.length c_5), ownC 3 (.int .i64) r6 (.slice A6 r6.length c_6)] _ _ := h41
                              refine ⟨⟨[], h41⟩, ?_⟩
                              refine HJ.run ttok rfl [47, 48, 49] rfl ?_
                              refine HJ.fin [(1, .pointer (some ⟨b1, 0, none⟩)), (3, .slice A5 r5.length c_5), (4, .slice A6 r6.length c_6), (9, .map (some b3)), (10, .int .i64 x4), (124, .bool (!r13))] rfl rfl ?_
                              refine J.cond rfl (fun c22 => ?_) (fun c22 => ?_)
                              · replace H := ite_t c22 H
                                refine J.seq ?_
                                refine J.region ?_
                                refine RJ.run ttok 1 rfl ?_
                                refine RJ.fin [(2, .bool false)] rfl ?_
                                have h42 := h41.only [] rfl
                                replace h42 : St w0 F0 [] _ _ := h42
                                refine J.ret ?_
                                obtain rfl := Option.some.inj H
                                exact ⟨_, _, _, (results_slots rfl), ⟨rfl, rfl⟩, h42.only [] rfl⟩
                              · replace H := ite_f c22 H
                                refine J.skip ?_
                                refine J.region ?_
                                refine RJ.run ttok 3 rfl ?_
                                refine RJ.q rfl rfl (q_index ttok rfl rfl rfl rfl rfl e4 p10 p11) ?_
                                refine RJ.q rfl rfl (q_load_elem (f := 0) ttok rfl h41.wht (Gives.of 3 rfl own_rd) p10 p11 rfl rfl rfl rfl rfl) ?_
                                refine RJ.op rfl rfl (op_mapupd ttok (v := true) (ix := (gt r6 x4)) 1 rfl h41 rfl rfl rfl rfl rfl rfl rfl rfl rfl) ?_
                                intro _ w21 h43
                                replace h43 : St w0 F0 [mapC .i64 Value.bool b3 (mput (gt r6 x4) true x3), boxC b1 31 [.int .i64 a0.1, .slice A1 a0.2.1.length c_1, .slice A2 a0.2.2.1.length c_2, .slice A3 a0.2.2.2.1.length c_3, .slice A4 a0.2.2.2.2.length c_4], ownC 3 (.int .i64) r5 (.slice A5 r5.length c_5), ownC 3 (.int .i64) r6 (.slice A6 r6.length c_6)] _ _ := h43
                                refine RJ.fin [(1, .pointer (some ⟨b1, 0, none⟩)), (3, .slice A5 r5.length c_5), (4, .slice A6 r6.length c_6), (9, .map (some b3)), (10, .int .i64 x4)] rfl ?_
                                refine J.region ?_
                                refine RJ.run ttok 3 rfl ?_
                                refine RJ.fin [(1, .pointer (some ⟨b1, 0, none⟩)), (3, .slice A5 r5.length c_5), (4, .slice A6 r6.length c_6), (9, .map (some b3)), (10, .int .i64 (w64 (x4 + 1)))] rfl ?_
                                have h44 := ((h43.only [1, 0, 0, 0] rfl).rds [0, 1, 2, 3] rfl)
                                exact ⟨k2, by omega, (mput (gt r6 x4) true x3), (w64 (x4 + 1)), rfl, h44, H⟩
                            · replace H := ite_f c21 H
                              refine HJ.know (t := 110) rfl (congrArg Value.bool c21) ?_
                              refine HJ.run ttok rfl [36, 37, 38, 39, 40, 41, 42, 43, 44, 45, 46, 47, 48, 49] rfl ?_
                              refine HJ.fin [(1, .pointer (some ⟨b1, 0, none⟩)), (3, .slice A5 r5.length c_5), (4, .slice A6 r6.length c_6), (9, .map (some b3)), (10, .int .i64 x4), (124, .bool false)] rfl rfl ?_
                              refine J.condF rfl ?_
                              refine J.skip ?_
                              refine J.region ?_
                              refine RJ.run ttok 3 rfl ?_
                              refine RJ.q rfl rfl (q_index ttok rfl rfl rfl rfl rfl e4 p10 p11) ?_
                              refine RJ.q rfl rfl (q_load_elem (f := 0) ttok rfl h36.wht (Gives.of 3 rfl own_rd) p10 p11 rfl rfl rfl rfl rfl) ?_
                              refine RJ.op rfl rfl (op_mapupd ttok (v := true) (ix := (gt r6 x4)) 1 rfl h36 rfl rfl rfl rfl rfl rfl rfl rfl rfl) ?_
                              intro _ w22 h45
                              replace h45 : St w0 F0 [mapC .i64 Value.bool b3 (mput (gt r6 x4) true x3), boxC b1 31 [.int .i64 a0.1, .slice A1 a0.2.1.length c_1, .slice A2 a0.2.2.1.length c_2, .slice A3 a0.2.2.2.1.length c_3, .slice A4 a0.2.2.2.2.length c_4], ownC 3 (.int .i64) r5 (.slice A5 r5.length c_5), ownC 3 (.int .i64) r6 (.slice A6 r6.length c_6)] _ _ := h45
                              refine RJ.fin [(1, .pointer (some ⟨b1, 0, none⟩)), (3, .slice A5 r5.length c_5), (4, .slice A6 r6.length c_6), (9, .map (some b3)), (10, .int .i64 x4)] rfl ?_
                              refine J.region ?_
                              refine RJ.run ttok 3 rfl ?_
                              refine RJ.fin [(1, .pointer (some ⟨b1, 0, none⟩)), (3, .slice A5 r5.length c_5), (4, .slice A6 r6.length c_6), (9, .map (some b3)), (10, .int .i64 (w64 (x4 + 1)))] rfl ?_
                              have h46 := ((h45.only [1, 0, 0, 0] rfl).rds [0, 1, 2, 3] rfl)
                              exact ⟨k2, by omega, (mput (gt r6 x4) true x3), (w64 (x4 + 1)), rfl, h46, H⟩
                  · replace H := ite_f c16 H
                    refine J.exit ?_
                    refine J.seq ?_
                    refine J.region ?_
                    obtain ⟨r14, q14, H⟩ := bind_t H
                    refine RJ.op rfl rfl (op_call [] (sluicegatelaw13_awake.spec q14) rfl rfl rfl h34 rfl gnil) ?_
                    rintro _ w23 ⟨_, ⟨rfl, rfl⟩, h47⟩
                    replace h47 : St w0 F0 [boxC b1 31 [.int .i64 a0.1, .slice A1 a0.2.1.length c_1, .slice A2 a0.2.2.1.length c_2, .slice A3 a0.2.2.2.1.length c_3, .slice A4 a0.2.2.2.2.length c_4], mapC .i64 Value.bool b3 x3, ownC 3 (.int .i64) r5 (.slice A5 r5.length c_5), ownC 3 (.int .i64) r6 (.slice A6 r6.length c_6)] _ _ := h47
                    refine RJ.run ttok 1 rfl ?_
                    refine RJ.fin [(2, .bool r14)] rfl ?_
                    have h48 := h47.only [] rfl
                    replace h48 : St w0 F0 [] _ _ := h48
                    refine J.ret ?_
                    obtain rfl := Option.some.inj H
                    exact ⟨_, _, _, (results_slots rfl), ⟨rfl, rfl⟩, h48.only [] rfl⟩

end Go.SK.T
