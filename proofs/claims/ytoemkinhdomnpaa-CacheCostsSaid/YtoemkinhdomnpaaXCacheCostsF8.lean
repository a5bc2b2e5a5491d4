/- The functions, further. -/
import Derived.Test.YtoemkinhdomnpaaXCacheCostsF7
set_option linter.unusedVariables false
set_option linter.unusedSimpArgs false
set_option maxRecDepth 20000
set_option maxHeartbeats 40000000
namespace Go.SK.T
open Go Go.SK Go.Proofs
def Q2.l0 : Nat → ((Int × List (Int) × (Int × Int)) × (List (Int × List (Int) × Bool × Int)) × (List (Int × Int)) × List (Int) × ((List (Int × Int × Bool)) × Int)) → (List (Int)) → (List (Int)) → (Int) → Option (List (Int))
  | 0, _, _, _, _ => none
  | k + 1, a0, r2, x1, x2 => if (decide (x2 < (r2.length : Int))) = true then (if 0 ≤ x2 ∧ x2 < (r2.length : Int) then (if 0 ≤ (mget (0 : Int) a0.2.2.1 (gt r2 x2)) ∧ (mget (0 : Int) a0.2.2.1 (gt r2 x2)) < (a0.2.1.length : Int) then (if (gt a0.2.1 (mget (0 : Int) a0.2.2.1 (gt r2 x2))).2.2.1 = true then (if (x1.length + ([(gt r2 x2)] : List (Int)).length) * 4 ≤ 140737488355328 then (Q2.l0 k a0 r2 (x1 ++ ([(gt r2 x2)] : List (Int))) (w64 (x2 + 1))) else none) else (Q2.l0 k a0 r2 x1 (w64 (x2 + 1)))) else none) else none) else (some x1)
def Q2.f (k : Nat) (a0 : (Int × List (Int) × (Int × Int)) × (List (Int × List (Int) × Bool × Int)) × (List (Int × Int)) × List (Int) × ((List (Int × Int × Bool)) × Int)) : Option (List (Int)) := (Q12.f ((a0.1.1, a0.1.2.1, (a0.1.2.2.1, a0.1.2.2.2)), a0.2.1, a0.2.2.1, a0.2.2.2.1, (a0.2.2.2.2.1, a0.2.2.2.2.2))).bind fun r1 => (if r1 = true then (some ([] : List (Int))) else ((Q53.f a0.2.2.1).bind fun r2 => (Q2.l0 k a0 r2 ([] : List (Int)) 0)))
theorem Q2.spec {k : Nat} {a0 : (Int × List (Int) × (Int × Int)) × (List (Int × List (Int) × Bool × Int)) × (List (Int × Int)) × List (Int) × ((List (Int × Int × Bool)) × Int)} {b1 : Nat} {b2 : Nat} {b3 : Nat} {b4 : Nat} {A1 : Option Addr} {c_1 : Nat} {A2 : Option Addr} {c_2 : Nat} {A3 : Option Addr} {c_3 : Nat} {A4 : Option Addr} {c_4 : Nat} {r : List (Int)} (H : Q2.f k a0 = some r) :
    Spec Try.prog 55 [.pointer (some ⟨b1, 0, none⟩)] [boxC b1 113 [.pointer (some ⟨b2, 0, none⟩), .slice A2 a0.2.1.length c_2, .map (some b3), .slice A3 a0.2.2.2.1.length c_3, .pointer (some ⟨b4, 0, none⟩)], boxC b2 51 [.int .i64 a0.1.1, .slice A1 a0.1.2.1.length c_1, .int .u64 a0.1.2.2.1, .int .u64 a0.1.2.2.2], ownC 5 (.int .u8) a0.1.2.1 (.slice A1 a0.1.2.1.length c_1), ownC 162 (.pair (.int .u32) (.pair (.slice 5 (.int .u8)) (.pair .bool (.int .i64)))) a0.2.1 (.slice A2 a0.2.1.length c_2), mapC .u32 (Value.int .i64) b3 a0.2.2.1, ownC 3 (.int .i64) a0.2.2.2.1 (.slice A3 a0.2.2.2.1.length c_3), boxC b4 203 [.slice A4 a0.2.2.2.2.1.length c_4, .int .i64 a0.2.2.2.2.2], ownC 205 (.pair (.int .i64) (.pair (.int .i64) .bool)) a0.2.2.2.2.1 (.slice A4 a0.2.2.2.2.1.length c_4)] [] (fun v l => ∃ (A_0 : Option Addr) (c_0 : Nat), v = .slice A_0 r.length c_0 ∧ l = [ownC 23 (.int .u32) r (.slice A_0 r.length c_0), boxC b1 113 [.pointer (some ⟨b2, 0, none⟩), .slice A2 a0.2.1.length c_2, .map (some b3), .slice A3 a0.2.2.2.1.length c_3, .pointer (some ⟨b4, 0, none⟩)], boxC b2 51 [.int .i64 a0.1.1, .slice A1 a0.1.2.1.length c_1, .int .u64 a0.1.2.2.1, .int .u64 a0.1.2.2.2], ownC 5 (.int .u8) a0.1.2.1 (.slice A1 a0.1.2.1.length c_1), ownC 162 (.pair (.int .u32) (.pair (.slice 5 (.int .u8)) (.pair .bool (.int .i64)))) a0.2.1 (.slice A2 a0.2.1.length c_2), mapC .u32 (Value.int .i64) b3 a0.2.2.1, ownC 3 (.int .i64) a0.2.2.2.1 (.slice A3 a0.2.2.2.1.length c_3), boxC b4 203 [.slice A4 a0.2.2.2.2.1.length c_4, .int .i64 a0.2.2.2.2.2], ownC 205 (.pair (.int .i64) (.pair (.int .i64) .bool)) a0.2.2.2.2.1 (.slice A4 a0.2.2.2.2.1.length c_4)]) := by
  refine Spec.enter Try.func55 rfl (by kernel_rfl) (by kernel_rfl) fun w0 F0 h0 => ?_
  unfold Q2.f at H
  refine J.seq (J.region ?_)
  refine RJ.run ttok 1 rfl ?_
  refine RJ.fin [(0, .pointer (some ⟨b1, 0, none⟩))] rfl ?_
  refine J.seq (J.seq (J.region ?_))
  refine RJ.run ttok 1 rfl ?_
  obtain ⟨r1, q1, H⟩ := bind_t H
  refine RJ.op rfl rfl (op_call [0, 0, 0, 0, 0, 0, 0, 0] (Q12.spec q1) rfl rfl rfl h0 rfl gnil) ?_
  rintro _ w1 ⟨_, ⟨rfl, rfl⟩, h1⟩
  replace h1 : St w0 F0 [boxC b1 113 [.pointer (some ⟨b2, 0, none⟩), .slice A2 a0.2.1.length c_2, .map (some b3), .slice A3 a0.2.2.2.1.length c_3, .pointer (some ⟨b4, 0, none⟩)], boxC b2 51 [.int .i64 a0.1.1, .slice A1 a0.1.2.1.length c_1, .int .u64 a0.1.2.2.1, .int .u64 a0.1.2.2.2], ownC 5 (.int .u8) a0.1.2.1 (.slice A1 a0.1.2.1.length c_1), ownC 162 (.pair (.int .u32) (.pair (.slice 5 (.int .u8)) (.pair .bool (.int .i64)))) a0.2.1 (.slice A2 a0.2.1.length c_2), mapC .u32 (Value.int .i64) b3 a0.2.2.1, ownC 3 (.int .i64) a0.2.2.2.1 (.slice A3 a0.2.2.2.1.length c_3), boxC b4 203 [.slice A4 a0.2.2.2.2.1.length c_4, .int .i64 a0.2.2.2.2.2], ownC 205 (.pair (.int .i64) (.pair (.int .i64) .bool)) a0.2.2.2.2.1 (.slice A4 a0.2.2.2.2.1.length c_4)] _ _ := h1
  refine RJ.fin [(0, _), (7, .bool r1)] rfl ?_
  refine J.cond rfl (fun c1 => ?_) (fun c1 => ?_)
  · replace H := ite_t c1 H
    refine J.seq (J.region ?_)
    refine RJ.run ttok 1 rfl ?_
    refine RJ.fin [(2, .slice none ([] : List (Int)).length 0)] rfl ?_
    refine J.ret ?_
    have h2 := h1.addNil 23 (.int .u32)
    obtain rfl := Option.some.inj H
    exact ⟨_, _, _, (results_slots rfl), ⟨_, _, rfl, rfl⟩, h2.only [0, 0, 0, 0, 0, 0, 0, 0, 0] rfl⟩
  replace H := ite_f c1 H
  refine J.skip ?_
  refine J.seq (J.region ?_)
  refine RJ.run ttok 1 rfl ?_
  refine RJ.fin [(0, _), (3, .slice none ([] : List (Int)).length 0)] rfl ?_
  refine J.seq (J.seq (J.region ?_))
  refine RJ.run ttok 3 rfl ?_
  refine RJ.q rfl rfl (q_load_box ttok 0 h1.wht rfl rfl rfl rfl rfl) ?_
  refine RJ.op rfl rfl (op_call [] keys.spec rfl rfl rfl h1 rfl gnil) ?_
  rintro _ w2 ⟨_, ⟨b5, rfl, rfl⟩, h3⟩
  replace h3 : St w0 F0 [boxC b5 109 [.map (some b3)], _, _, _, _, _, _, _, _] _ _ := h3
  obtain ⟨r2, q2, H⟩ := bind_t H
  refine RJ.op rfl rfl (op_call [0, 4] (Q53.spec q2) rfl rfl rfl h3 rfl gnil) ?_
  rintro _ w3 ⟨_, ⟨A5, c_5, rfl, rfl⟩, h4⟩
  replace h4 : St w0 F0 [ownC 23 (.int .u32) r2 (.slice A5 r2.length c_5), _, _, _, _, _, _, _, _, _] _ _ := h4
  refine RJ.run ttok 2 rfl ?_
  refine RJ.fin [(0, _), (3, _), (13, .slice A5 r2.length c_5), (14, .int .i64 (r2.length : Int)), (15, .int .i64 0)] rfl ?_
  refine J.block ?_
  have h11 := h4.addNil 23 (.int .u32)
  have h12 := ((h11.only [4, 4, 3, 6, 3, 3, 3, 3, 0, 0] rfl).rds [] rfl)
  refine J.loop (fun kk env w => ∃ (x1 : List (Int)) (A6 : Option Addr) (c_6 : Nat) (x2 : Int), env = [(0, .pointer (some ⟨b1, 0, none⟩)), (3, .slice A6 x1.length c_6), (13, .slice A5 r2.length c_5), (14, .int .i64 (r2.length : Int)), (15, .int .i64 x2)] ∧ St w0 F0 [boxC b1 113 [.pointer (some ⟨b2, 0, none⟩), .slice A2 a0.2.1.length c_2, .map (some b3), .slice A3 a0.2.2.2.1.length c_3, .pointer (some ⟨b4, 0, none⟩)], boxC b2 51 [.int .i64 a0.1.1, .slice A1 a0.1.2.1.length c_1, .int .u64 a0.1.2.2.1, .int .u64 a0.1.2.2.2], mapC .u32 (Value.int .i64) b3 a0.2.2.1, boxC b4 203 [.slice A4 a0.2.2.2.2.1.length c_4, .int .i64 a0.2.2.2.2.2], ownC 5 (.int .u8) a0.1.2.1 (.slice A1 a0.1.2.1.length c_1), ownC 162 (.pair (.int .u32) (.pair (.slice 5 (.int .u8)) (.pair .bool (.int .i64)))) a0.2.1 (.slice A2 a0.2.1.length c_2), ownC 3 (.int .i64) a0.2.2.2.1 (.slice A3 a0.2.2.2.1.length c_3), ownC 205 (.pair (.int .i64) (.pair (.int .i64) .bool)) a0.2.2.2.2.1 (.slice A4 a0.2.2.2.2.1.length c_4), ownC 23 (.int .u32) x1 (.slice A6 x1.length c_6), ownC 23 (.int .u32) r2 (.slice A5 r2.length c_5)] [] w ∧ Q2.l0 kk a0 r2 x1 x2 = some r) (k := k) ⟨([] : List (Int)), none, 0, 0, rfl, h12, H⟩ ?_
  rintro k1 env w4 ⟨x1, A6, c_6, x2, rfl, h5, H⟩
  cases k1 with
  | zero => exact nomatch (show none = some r from H)
  | succ k1 =>
    rw [Q2.l0] at H
    refine J.seq (J.region ?_)
    refine RJ.run ttok 1 rfl ?_
    refine RJ.fin [(0, _), (3, _), (13, _), (14, _), (15, _), (16, .bool (decide (x2 < (r2.length : Int))))] rfl ?_
    refine J.seq ?_
    refine J.cond rfl (fun c2 => ?_) (fun c2 => ?_)
    · replace H := ite_t c2 H
      refine J.skip ?_
      refine J.seq (J.block (J.seq (J.region ?_)))
      obtain ⟨⟨p1, p2⟩, H⟩ := guard_t H
      have e1 := elem_A h5.wh (Gives.of 9 rfl own_rd) p1 p2
      refine RJ.q rfl rfl (q_index ttok rfl rfl rfl rfl rfl e1 p1 p2) ?_
      refine RJ.q rfl rfl (q_load_elem (f := 0) ttok rfl h5.wht (Gives.of 9 rfl own_rd) p1 p2 rfl rfl rfl rfl rfl) ?_
      refine RJ.run ttok 1 rfl ?_
      refine RJ.fin [(0, _), (3, _), (5, .int .u32 (gt r2 x2)), (13, _), (14, _), (15, _)] rfl ?_
      refine J.seq ?_
      refine J.heldSt mix h5 ?_
      have h6 := h5.drew
      refine HJ.run ttok rfl [0, 1, 2, 4, 5, 6, 8] rfl ?_
      refine HJ.q (i := 3) rfl rfl rfl rfl rfl rfl (q_load_box ttok 0 (fun w e => e) rfl rfl rfl rfl rfl) ?_
      refine HJ.q (i := 7) rfl rfl rfl rfl rfl rfl (q_load_box ttok 0 (fun w e => e) rfl rfl rfl rfl rfl) ?_
      refine HJ.q (i := 9) rfl rfl rfl rfl rfl rfl (q_lookup ttok (0 : Int) 2 (fun w e => e) rfl rfl rfl rfl rfl rfl rfl rfl rfl rfl) ?_
      obtain ⟨⟨p3, p4⟩, H⟩ := guard_t H
      have e2 := elem_A h6.wh (Gives.of 5 rfl own_rd) p3 p4
      refine HJ.q (i := 10) rfl rfl rfl rfl rfl rfl (q_index ttok rfl rfl rfl rfl rfl e2 p3 p4) ?_
      refine HJ.run ttok rfl [11] rfl ?_
      refine HJ.q (i := 12) rfl rfl rfl rfl rfl rfl (q_load_deep (f := 2) ttok (fun w e => e) (Gives.of 5 rfl own_rd) p3 p4 rfl rfl rfl rfl rfl rfl) ?_
      refine HJ.fin [(0, _), (3, _), (5, _), (13, _), (14, _), (15, _), (31, .bool ((gt a0.2.1 (mget (0 : Int) a0.2.2.1 (gt r2 x2))).2.2.1))] rfl rfl ?_
      refine J.cond rfl (fun c3 => ?_) (fun c3 => ?_)
      · replace H := ite_t c3 H
        refine J.region ?_
        refine RJ.run ttok 2 rfl ?_
        refine RJ.op rfl rfl (op_lit ttok (.int .u32) rfl ([(gt r2 x2)] : List (Int)) rfl h6 rfl rfl (by decide) rfl rfl rfl rfl rfl rfl rfl) ?_
        rintro _ w5 ⟨b6, rfl, h7⟩
        replace h7 : St w0 F0 [ownC 23 (.int .u32) ([(gt r2 x2)] : List (Int)) (.slice (some ⟨b6, 0, none⟩) ([(gt r2 x2)] : List (Int)).length 1), _, _, _, _, _, _, _, _, _, _] _ _ := h7
        obtain ⟨p5, H⟩ := guard_t H
        refine RJ.op rfl rfl (op_append ttok rfl 9 rfl h7 rfl (Gives.of 0 rfl own_rd) rfl rfl rfl rfl rfl rfl (by decide) (by decide) p5) ?_
        rintro _ w6 ⟨A7, c_7, rfl, h8⟩
        replace h8 : St w0 F0 [ownC 23 (.int .u32) (x1 ++ ([(gt r2 x2)] : List (Int))) (.slice A7 (x1 ++ ([(gt r2 x2)] : List (Int))).length c_7), _, _, _, _, _, _, _, _, _, _] _ _ := h8
        refine RJ.run ttok 1 rfl ?_
        refine RJ.fin [(0, _), (3, .slice A7 (x1 ++ ([(gt r2 x2)] : List (Int))).length c_7), (13, _), (14, _), (15, _)] rfl ?_
        refine J.region ?_
        refine RJ.run ttok 2 rfl ?_
        refine RJ.fin [(0, _), (3, _), (13, _), (14, _), (15, .int .i64 (w64 (x2 + 1)))] rfl ?_
        have h9 := ((h8.only [2, 2, 2, 2, 2, 2, 2, 2, 0, 1] rfl).rds [] rfl)
        exact ⟨k1, by omega, (x1 ++ ([(gt r2 x2)] : List (Int))), A7, c_7, (w64 (x2 + 1)), rfl, h9, H⟩
      replace H := ite_f c3 H
      refine J.skip ?_
      refine J.region ?_
      refine RJ.run ttok 2 rfl ?_
      refine RJ.fin [(0, _), (3, _), (13, _), (14, _), (15, .int .i64 (w64 (x2 + 1)))] rfl ?_
      have h10 := ((h6.only [0, 0, 0, 0, 0, 0, 0, 0, 0, 0] rfl).rds [] rfl)
      exact ⟨k1, by omega, x1, A6, c_6, (w64 (x2 + 1)), rfl, h10, H⟩
    replace H := ite_f c2 H
    refine J.exit ?_
    refine J.seq (J.region ?_)
    refine RJ.run ttok 2 rfl ?_
    refine RJ.fin [(2, .slice A6 x1.length c_6)] rfl ?_
    refine J.ret ?_
    obtain rfl := Option.some.inj H
    exact ⟨_, _, _, (results_slots rfl), ⟨_, _, rfl, rfl⟩, h5.only [8, 0, 0, 2, 2, 0, 1, 0, 0] rfl⟩

def Q4.l0 : Nat → ((Int × List (Int) × (Int × Int)) × (List (Int × List (Int) × Bool × Int)) × (List (Int × Int)) × List (Int) × ((List (Int × Int × Bool)) × Int)) → (List (Int)) → (Int) → (List (Int)) → (Int) → (Int) → (List (Int × List (Int) × Bool × Int)) → (Int) → Option (Int × ((Int × List (Int) × (Int × Int)) × (List (Int × List (Int) × Bool × Int)) × (List (Int × Int)) × List (Int) × ((List (Int × Int × Bool)) × Int)))
  | 0, _, _, _, _, _, _, _, _ => none
  | k + 1, a0, r2, x1, x2, x3, x4, x5, x6 => if (decide (x6 < (r2.length : Int))) = true then (if 0 ≤ x6 ∧ x6 < (r2.length : Int) then (if 0 ≤ (mget (0 : Int) a0.2.2.1 (gt r2 x6)) ∧ (mget (0 : Int) a0.2.2.1 (gt r2 x6)) < (x5.length : Int) then (if (gt x5 (mget (0 : Int) a0.2.2.1 (gt r2 x6))).2.2.1 = true then ((Q30.f (x1, x2, (x3, x4)) ((gt x5 (mget (0 : Int) a0.2.2.1 (gt r2 x6))).1) ((gt x5 (mget (0 : Int) a0.2.2.1 (gt r2 x6))).2.1)).bind fun r3 => (Q4.l0 k a0 r2 r3.2.1 r3.2.2.1 r3.2.2.2.1 r3.2.2.2.2 (x5.set (mget (0 : Int) a0.2.2.1 (gt r2 x6)).toNat ((gt x5 (mget (0 : Int) a0.2.2.1 (gt r2 x6))).1, (gt x5 (mget (0 : Int) a0.2.2.1 (gt r2 x6))).2.1, false, (gt x5 (mget (0 : Int) a0.2.2.1 (gt r2 x6))).2.2.2)) (w64 (x6 + 1)))) else (Q4.l0 k a0 r2 x1 x2 x3 x4 x5 (w64 (x6 + 1)))) else none) else none) else (some (0, ((x1, x2, (x3, x4)), x5, a0.2.2.1, a0.2.2.2.1, (a0.2.2.2.2.1, a0.2.2.2.2.2))))
def Q4.f (k : Nat) (a0 : (Int × List (Int) × (Int × Int)) × (List (Int × List (Int) × Bool × Int)) × (List (Int × Int)) × List (Int) × ((List (Int × Int × Bool)) × Int)) : Option (Int × ((Int × List (Int) × (Int × Int)) × (List (Int × List (Int) × Bool × Int)) × (List (Int × Int)) × List (Int) × ((List (Int × Int × Bool)) × Int))) := (Q12.f ((a0.1.1, a0.1.2.1, (a0.1.2.2.1, a0.1.2.2.2)), a0.2.1, a0.2.2.1, a0.2.2.2.1, (a0.2.2.2.2.1, a0.2.2.2.2.2))).bind fun r1 => (if r1 = true then (some (1, ((a0.1.1, a0.1.2.1, (a0.1.2.2.1, a0.1.2.2.2)), a0.2.1, a0.2.2.1, a0.2.2.2.1, (a0.2.2.2.2.1, a0.2.2.2.2.2)))) else ((Q2.f k ((a0.1.1, a0.1.2.1, (a0.1.2.2.1, a0.1.2.2.2)), a0.2.1, a0.2.2.1, a0.2.2.2.1, (a0.2.2.2.2.1, a0.2.2.2.2.2))).bind fun r2 => (Q4.l0 k a0 r2 a0.1.1 a0.1.2.1 a0.1.2.2.1 a0.1.2.2.2 a0.2.1 0)))
theorem Q4.spec {k : Nat} {a0 : (Int × List (Int) × (Int × Int)) × (List (Int × List (Int) × Bool × Int)) × (List (Int × Int)) × List (Int) × ((List (Int × Int × Bool)) × Int)} {b1 : Nat} {b2 : Nat} {b3 : Nat} {b4 : Nat} {A1 : Option Addr} {c_1 : Nat} {A2 : Option Addr} {c_2 : Nat} {A3 : Option Addr} {c_3 : Nat} {A4 : Option Addr} {c_4 : Nat} {r : Int × ((Int × List (Int) × (Int × Int)) × (List (Int × List (Int) × Bool × Int)) × (List (Int × Int)) × List (Int) × ((List (Int × Int × Bool)) × Int))} (H : Q4.f k a0 = some r) :
    Spec Try.prog 54 [.pointer (some ⟨b1, 0, none⟩)] [boxC b1 113 [.pointer (some ⟨b2, 0, none⟩), .slice A2 a0.2.1.length c_2, .map (some b3), .slice A3 a0.2.2.2.1.length c_3, .pointer (some ⟨b4, 0, none⟩)], boxC b2 51 [.int .i64 a0.1.1, .slice A1 a0.1.2.1.length c_1, .int .u64 a0.1.2.2.1, .int .u64 a0.1.2.2.2], ownC 5 (.int .u8) a0.1.2.1 (.slice A1 a0.1.2.1.length c_1), ownC 162 (.pair (.int .u32) (.pair (.slice 5 (.int .u8)) (.pair .bool (.int .i64)))) a0.2.1 (.slice A2 a0.2.1.length c_2), mapC .u32 (Value.int .i64) b3 a0.2.2.1, ownC 3 (.int .i64) a0.2.2.2.1 (.slice A3 a0.2.2.2.1.length c_3), boxC b4 203 [.slice A4 a0.2.2.2.2.1.length c_4, .int .i64 a0.2.2.2.2.2], ownC 205 (.pair (.int .i64) (.pair (.int .i64) .bool)) a0.2.2.2.2.1 (.slice A4 a0.2.2.2.2.1.length c_4)] [] (fun v l => ∃ (A_0 : Option Addr) (c_0 : Nat) (A_1 : Option Addr) (c_1 : Nat) (A_2 : Option Addr) (c_2 : Nat) (A_3 : Option Addr) (c_3 : Nat), v = .int .i64 r.1 ∧ l = [boxC b1 113 [.pointer (some ⟨b2, 0, none⟩), .slice A_1 r.2.2.1.length c_1, .map (some b3), .slice A_2 r.2.2.2.2.1.length c_2, .pointer (some ⟨b4, 0, none⟩)], boxC b2 51 [.int .i64 r.2.1.1, .slice A_0 r.2.1.2.1.length c_0, .int .u64 r.2.1.2.2.1, .int .u64 r.2.1.2.2.2], ownC 5 (.int .u8) r.2.1.2.1 (.slice A_0 r.2.1.2.1.length c_0), ownC 162 (.pair (.int .u32) (.pair (.slice 5 (.int .u8)) (.pair .bool (.int .i64)))) r.2.2.1 (.slice A_1 r.2.2.1.length c_1), mapC .u32 (Value.int .i64) b3 r.2.2.2.1, ownC 3 (.int .i64) r.2.2.2.2.1 (.slice A_2 r.2.2.2.2.1.length c_2), boxC b4 203 [.slice A_3 r.2.2.2.2.2.1.length c_3, .int .i64 r.2.2.2.2.2.2], ownC 205 (.pair (.int .i64) (.pair (.int .i64) .bool)) r.2.2.2.2.2.1 (.slice A_3 r.2.2.2.2.2.1.length c_3)]) := by
  refine Spec.enter Try.func54 rfl (by kernel_rfl) (by kernel_rfl) fun w0 F0 h0 => ?_
  unfold Q4.f at H
  refine J.seq (J.region ?_)
  refine RJ.run ttok 1 rfl ?_
  refine RJ.fin [(0, .pointer (some ⟨b1, 0, none⟩))] rfl ?_
  refine J.seq (J.seq (J.region ?_))
  refine RJ.run ttok 1 rfl ?_
  obtain ⟨r1, q1, H⟩ := bind_t H
  refine RJ.op rfl rfl (op_call [0, 0, 0, 0, 0, 0, 0, 0] (Q12.spec q1) rfl rfl rfl h0 rfl gnil) ?_
  rintro _ w1 ⟨_, ⟨rfl, rfl⟩, h1⟩
  replace h1 : St w0 F0 [boxC b1 113 [.pointer (some ⟨b2, 0, none⟩), .slice A2 a0.2.1.length c_2, .map (some b3), .slice A3 a0.2.2.2.1.length c_3, .pointer (some ⟨b4, 0, none⟩)], boxC b2 51 [.int .i64 a0.1.1, .slice A1 a0.1.2.1.length c_1, .int .u64 a0.1.2.2.1, .int .u64 a0.1.2.2.2], ownC 5 (.int .u8) a0.1.2.1 (.slice A1 a0.1.2.1.length c_1), ownC 162 (.pair (.int .u32) (.pair (.slice 5 (.int .u8)) (.pair .bool (.int .i64)))) a0.2.1 (.slice A2 a0.2.1.length c_2), mapC .u32 (Value.int .i64) b3 a0.2.2.1, ownC 3 (.int .i64) a0.2.2.2.1 (.slice A3 a0.2.2.2.1.length c_3), boxC b4 203 [.slice A4 a0.2.2.2.2.1.length c_4, .int .i64 a0.2.2.2.2.2], ownC 205 (.pair (.int .i64) (.pair (.int .i64) .bool)) a0.2.2.2.2.1 (.slice A4 a0.2.2.2.2.1.length c_4)] _ _ := h1
  refine RJ.fin [(0, _), (6, .bool r1)] rfl ?_
  refine J.cond rfl (fun c1 => ?_) (fun c1 => ?_)
  · replace H := ite_t c1 H
    refine J.seq (J.region ?_)
    refine RJ.run ttok 1 rfl ?_
    refine RJ.fin [(2, .int .i64 1)] rfl ?_
    refine J.ret ?_
    obtain rfl := Option.some.inj H
    exact ⟨_, _, _, (results_slots rfl), ⟨_, _, _, _, _, _, _, _, rfl, rfl⟩, h1.only [0, 0, 0, 0, 0, 0, 0, 0] rfl⟩
  replace H := ite_f c1 H
  refine J.skip ?_
  refine J.seq (J.seq (J.region ?_))
  refine RJ.run ttok 1 rfl ?_
  obtain ⟨r2, q2, H⟩ := bind_t H
  refine RJ.op rfl rfl (op_call [0, 0, 0, 0, 0, 0, 0, 0] (Q2.spec q2) rfl rfl rfl h1 rfl gnil) ?_
  rintro _ w2 ⟨_, ⟨A5, c_5, rfl, rfl⟩, h2⟩
  replace h2 : St w0 F0 [ownC 23 (.int .u32) r2 (.slice A5 r2.length c_5), _, _, _, _, _, _, _, _] _ _ := h2
  refine RJ.run ttok 2 rfl ?_
  refine RJ.fin [(0, _), (8, .slice A5 r2.length c_5), (9, .int .i64 (r2.length : Int)), (10, .int .i64 0)] rfl ?_
  refine J.block ?_
  have h12 := ((h2.only [1, 1, 3, 4, 1, 1, 1, 1, 0] rfl).rds [] rfl)
  refine J.loop (fun kk env w => ∃ (x1 : Int) (x2 : List (Int)) (A6 : Option Addr) (c_6 : Nat) (x3 : Int) (x4 : Int) (x5 : List (Int × List (Int) × Bool × Int)) (A7 : Option Addr) (c_7 : Nat) (x6 : Int), env = [(0, .pointer (some ⟨b1, 0, none⟩)), (8, .slice A5 r2.length c_5), (9, .int .i64 (r2.length : Int)), (10, .int .i64 x6)] ∧ St w0 F0 [boxC b1 113 [.pointer (some ⟨b2, 0, none⟩), .slice A7 x5.length c_7, .map (some b3), .slice A3 a0.2.2.2.1.length c_3, .pointer (some ⟨b4, 0, none⟩)], boxC b2 51 [.int .i64 x1, .slice A6 x2.length c_6, .int .u64 x3, .int .u64 x4], mapC .u32 (Value.int .i64) b3 a0.2.2.1, boxC b4 203 [.slice A4 a0.2.2.2.2.1.length c_4, .int .i64 a0.2.2.2.2.2], ownC 5 (.int .u8) x2 (.slice A6 x2.length c_6), ownC 162 (.pair (.int .u32) (.pair (.slice 5 (.int .u8)) (.pair .bool (.int .i64)))) x5 (.slice A7 x5.length c_7), ownC 3 (.int .i64) a0.2.2.2.1 (.slice A3 a0.2.2.2.1.length c_3), ownC 205 (.pair (.int .i64) (.pair (.int .i64) .bool)) a0.2.2.2.2.1 (.slice A4 a0.2.2.2.2.1.length c_4), ownC 23 (.int .u32) r2 (.slice A5 r2.length c_5)] [] w ∧ Q4.l0 kk a0 r2 x1 x2 x3 x4 x5 x6 = some r) (k := k) ⟨a0.1.1, a0.1.2.1, A1, c_1, a0.1.2.2.1, a0.1.2.2.2, a0.2.1, A2, c_2, 0, rfl, h12, H⟩ ?_
  rintro k1 env w3 ⟨x1, x2, A6, c_6, x3, x4, x5, A7, c_7, x6, rfl, h3, H⟩
  cases k1 with
  | zero => exact nomatch (show none = some r from H)
  | succ k1 =>
    rw [Q4.l0] at H
    refine J.seq (J.region ?_)
    refine RJ.run ttok 1 rfl ?_
    refine RJ.fin [(0, _), (8, _), (9, _), (10, _), (11, .bool (decide (x6 < (r2.length : Int))))] rfl ?_
    refine J.seq ?_
    refine J.cond rfl (fun c2 => ?_) (fun c2 => ?_)
    · replace H := ite_t c2 H
      refine J.skip ?_
      refine J.seq (J.block (J.seq (J.region ?_)))
      obtain ⟨⟨p1, p2⟩, H⟩ := guard_t H
      have e1 := elem_A h3.wh (Gives.of 8 rfl own_rd) p1 p2
      refine RJ.q rfl rfl (q_index ttok rfl rfl rfl rfl rfl e1 p1 p2) ?_
      refine RJ.q rfl rfl (q_load_elem (f := 0) ttok rfl h3.wht (Gives.of 8 rfl own_rd) p1 p2 rfl rfl rfl rfl rfl) ?_
      refine RJ.run ttok 1 rfl ?_
      refine RJ.fin [(0, _), (4, .int .u32 (gt r2 x6)), (8, _), (9, _), (10, _)] rfl ?_
      refine J.heldSt mix (h3.only [0, 1, 1, 3, 3, 3] rfl) ?_
      have h4 := h3.drew
      refine HJ.run ttok rfl [0, 1, 2, 3, 5, 6, 7, 9] rfl ?_
      refine HJ.q (i := 4) rfl rfl rfl rfl rfl rfl (q_load_box ttok 0 (fun w e => e) rfl rfl rfl rfl rfl) ?_
      refine HJ.q (i := 8) rfl rfl rfl rfl rfl rfl (q_load_box ttok 0 (fun w e => e) rfl rfl rfl rfl rfl) ?_
      refine HJ.q (i := 10) rfl rfl rfl rfl rfl rfl (q_lookup ttok (0 : Int) 1 (fun w e => e) rfl rfl rfl rfl rfl rfl rfl rfl rfl rfl) ?_
      obtain ⟨⟨p3, p4⟩, H⟩ := guard_t H
      have e2 := elem_A h4.wh (Gives.of 5 rfl own_rd) p3 p4
      refine HJ.q (i := 11) rfl rfl rfl rfl rfl rfl (q_index ttok rfl rfl rfl rfl rfl e2 p3 p4) ?_
      refine HJ.inline (i := 12) rfl rfl rfl rfl rfl rfl rfl rfl Try.func100 rfl (by kernel_rfl) (by kernel_rfl) ?_
      refine J.seq (J.region ?_)
      refine RJ.run ttok 3 rfl ?_
      refine RJ.q rfl rfl (q_load_deep (f := 2) ttok h4.wht (Gives.of 5 rfl own_rd) p3 p4 rfl rfl rfl rfl rfl rfl) ?_
      refine RJ.fin [(0, _), (1, .pointer (some ⟨blk A7, ofs A7 + (mget (0 : Int) a0.2.2.1 (gt r2 x6)).toNat * 4, none⟩)), (7, .bool ((gt x5 (mget (0 : Int) a0.2.2.1 (gt r2 x6))).2.2.1))] rfl ?_
      refine J.cond rfl (fun c3 => ?_) (fun c3 => ?_)
      · replace H := ite_t c3 H
        refine J.seq ?_
        obtain ⟨A8, c_8, h5⟩ := h4.openI 5 rfl p3 p4
        refine J.heldSt mix (h5.only [0, 0, 1, 1, 2, 2, 2] rfl) ?_
        have h6 := h5.drew
        refine HJ.run ttok rfl [0, 1, 2, 4, 5, 6, 8, 9, 10] rfl ?_
        refine HJ.q (i := 3) rfl rfl rfl rfl rfl rfl (q_load_box ttok 1 (fun w e => e) rfl rfl rfl rfl rfl) ?_
        refine HJ.q (i := 7) rfl rfl rfl rfl rfl rfl (q_load_deep (f := 0) ttok (fun w e => e) (Gives.of 0 rfl ownI_rd) p3 p4 rfl rfl rfl rfl rfl rfl) ?_
        refine HJ.q (i := 11) rfl rfl rfl rfl rfl rfl (q_load_I ttok (fun w e => e) (Gives.self 0 rfl) rfl rfl rfl rfl rfl) ?_
        obtain ⟨r3, q3, H⟩ := bind_t H
        refine HJ.op (i := 12) rfl rfl rfl rfl rfl (op_call [2, 4] (Q30.spec q3) rfl rfl rfl h6 rfl (gcons (Gives.of 0 rfl ownI_in) gnil)) ?_
        rintro _ w4 ⟨_, ⟨A9, c_9, rfl, rfl⟩, h7⟩
        replace h7 : St w0 F0 [boxC b2 51 [.int .i64 r3.2.1, .slice A9 r3.2.2.1.length c_9, .int .u64 r3.2.2.2.1, .int .u64 r3.2.2.2.2], ownC 5 (.int .u8) r3.2.2.1 (.slice A9 r3.2.2.1.length c_9), ownI 162 (.pair (.int .u32) (.pair (.slice 5 (.int .u8)) (.pair .bool (.int .i64)))) x5 A7 c_7 (mget (0 : Int) a0.2.2.1 (gt r2 x6)) 1 5 (.int .u8) ((gt x5 (mget (0 : Int) a0.2.2.1 (gt r2 x6))).2.1) A8 c_8, _, _, _, _, _, _] _ _ := h7
        refine ⟨⟨[_, _], h7⟩, ?_⟩
        refine HJ.fin [(1, _)] rfl rfl ?_
        have h8 := h7.closeI 2 rfl
        refine J.region ?_
        refine RJ.run ttok 3 rfl ?_
        refine RJ.op rfl rfl (op_store_deep (ty := (.pair (.int .u32) (.pair (.slice 5 (.int .u8)) (.pair .bool (.int .i64))))) (f := 2) (ix := (mget (0 : Int) a0.2.2.1 (gt r2 x6))) ttok ((gt x5 (mget (0 : Int) a0.2.2.1 (gt r2 x6))).1, (gt x5 (mget (0 : Int) a0.2.2.1 (gt r2 x6))).2.1, false, (gt x5 (mget (0 : Int) a0.2.2.1 (gt r2 x6))).2.2.2) 0 rfl h8 rfl rfl p3 p4 rfl rfl rfl rfl rfl rfl (hnew_put rfl rfl)) ?_
        intro _ w5 h9
        replace h9 : St w0 F0 [ownC 162 (.pair (.int .u32) (.pair (.slice 5 (.int .u8)) (.pair .bool (.int .i64)))) (x5.set (mget (0 : Int) a0.2.2.1 (gt r2 x6)).toNat ((gt x5 (mget (0 : Int) a0.2.2.1 (gt r2 x6))).1, (gt x5 (mget (0 : Int) a0.2.2.1 (gt r2 x6))).2.1, false, (gt x5 (mget (0 : Int) a0.2.2.1 (gt r2 x6))).2.2.2)) (.slice A7 (x5.set (mget (0 : Int) a0.2.2.1 (gt r2 x6)).toNat ((gt x5 (mget (0 : Int) a0.2.2.1 (gt r2 x6))).1, (gt x5 (mget (0 : Int) a0.2.2.1 (gt r2 x6))).2.1, false, (gt x5 (mget (0 : Int) a0.2.2.1 (gt r2 x6))).2.2.2)).length c_7), _, _, _, _, _, _, _, _] _ _ := h9
        replace h9 : St w0 F0 [ownC 162 (.pair (.int .u32) (.pair (.slice 5 (.int .u8)) (.pair .bool (.int .i64)))) (x5.set (mget (0 : Int) a0.2.2.1 (gt r2 x6)).toNat ((gt x5 (mget (0 : Int) a0.2.2.1 (gt r2 x6))).1, (gt x5 (mget (0 : Int) a0.2.2.1 (gt r2 x6))).2.1, false, (gt x5 (mget (0 : Int) a0.2.2.1 (gt r2 x6))).2.2.2)) (.slice A7 (x5.set (mget (0 : Int) a0.2.2.1 (gt r2 x6)).toNat ((gt x5 (mget (0 : Int) a0.2.2.1 (gt r2 x6))).1, (gt x5 (mget (0 : Int) a0.2.2.1 (gt r2 x6))).2.1, false, (gt x5 (mget (0 : Int) a0.2.2.1 (gt r2 x6))).2.2.2)).length c_7), boxC b2 51 [.int .i64 r3.2.1, .slice A9 r3.2.2.1.length c_9, .int .u64 r3.2.2.2.1, .int .u64 r3.2.2.2.2], ownC 5 (.int .u8) r3.2.2.1 (.slice A9 r3.2.2.1.length c_9), boxC b1 113 [.pointer (some ⟨b2, 0, none⟩), .slice A7 (x5.set (mget (0 : Int) a0.2.2.1 (gt r2 x6)).toNat ((gt x5 (mget (0 : Int) a0.2.2.1 (gt r2 x6))).1, (gt x5 (mget (0 : Int) a0.2.2.1 (gt r2 x6))).2.1, false, (gt x5 (mget (0 : Int) a0.2.2.1 (gt r2 x6))).2.2.2)).length c_7, .map (some b3), .slice A3 a0.2.2.2.1.length c_3, .pointer (some ⟨b4, 0, none⟩)], mapC .u32 (Value.int .i64) b3 a0.2.2.1, boxC b4 203 [.slice A4 a0.2.2.2.2.1.length c_4, .int .i64 a0.2.2.2.2.2], ownC 3 (.int .i64) a0.2.2.2.1 (.slice A3 a0.2.2.2.1.length c_3), ownC 205 (.pair (.int .i64) (.pair (.int .i64) .bool)) a0.2.2.2.2.1 (.slice A4 a0.2.2.2.2.1.length c_4), ownC 23 (.int .u32) r2 (.slice A5 r2.length c_5)] _ _ := h9.retell (by simp only [List.length_set])
        refine RJ.fin [] rfl ?_
        refine ⟨_, results_slots rfl, ?_⟩
        replace h9 : St w0 F0 [_, _, _, boxC b1 113 [.pointer (some ⟨b2, 0, none⟩), .slice A7 (x5.set (mget (0 : Int) a0.2.2.1 (gt r2 x6)).toNat ((gt x5 (mget (0 : Int) a0.2.2.1 (gt r2 x6))).1, (gt x5 (mget (0 : Int) a0.2.2.1 (gt r2 x6))).2.1, false, (gt x5 (mget (0 : Int) a0.2.2.1 (gt r2 x6))).2.2.2)).length c_7, .map (some b3), .slice A3 a0.2.2.2.1.length c_3, .pointer (some ⟨b4, 0, none⟩)], _, _, _, _, _] _ _ := h9
        refine ⟨⟨[ownC 162 (.pair (.int .u32) (.pair (.slice 5 (.int .u8)) (.pair .bool (.int .i64)))) (x5.set (mget (0 : Int) a0.2.2.1 (gt r2 x6)).toNat ((gt x5 (mget (0 : Int) a0.2.2.1 (gt r2 x6))).1, (gt x5 (mget (0 : Int) a0.2.2.1 (gt r2 x6))).2.1, false, (gt x5 (mget (0 : Int) a0.2.2.1 (gt r2 x6))).2.2.2)) (.slice A7 (x5.set (mget (0 : Int) a0.2.2.1 (gt r2 x6)).toNat ((gt x5 (mget (0 : Int) a0.2.2.1 (gt r2 x6))).1, (gt x5 (mget (0 : Int) a0.2.2.1 (gt r2 x6))).2.1, false, (gt x5 (mget (0 : Int) a0.2.2.1 (gt r2 x6))).2.2.2)).length c_7), boxC b2 51 [.int .i64 r3.2.1, .slice A9 r3.2.2.1.length c_9, .int .u64 r3.2.2.2.1, .int .u64 r3.2.2.2.2], ownC 5 (.int .u8) r3.2.2.1 (.slice A9 r3.2.2.1.length c_9)], (h9.retell (by simp only [List.length_set, List.cons_append, List.nil_append]))⟩, ?_⟩
        refine HJ.fin [(0, .pointer (some ⟨b1, 0, none⟩)), (8, .slice A5 r2.length c_5), (9, .int .i64 (r2.length : Int)), (10, .int .i64 x6)] rfl rfl ?_
        refine J.region ?_
        refine RJ.run ttok 2 rfl ?_
        refine RJ.fin [(0, _), (8, _), (9, _), (10, .int .i64 (w64 (x6 + 1)))] rfl ?_
        have h10 := ((h9.only [3, 1, 2, 2, 1, 0, 0, 0, 0] rfl).rds [] rfl)
        exact ⟨k1, by omega, r3.2.1, r3.2.2.1, A9, c_9, r3.2.2.2.1, r3.2.2.2.2, (x5.set (mget (0 : Int) a0.2.2.1 (gt r2 x6)).toNat ((gt x5 (mget (0 : Int) a0.2.2.1 (gt r2 x6))).1, (gt x5 (mget (0 : Int) a0.2.2.1 (gt r2 x6))).2.1, false, (gt x5 (mget (0 : Int) a0.2.2.1 (gt r2 x6))).2.2.2)), A7, c_7, (w64 (x6 + 1)), rfl, h10, H⟩
      replace H := ite_f c3 H
      refine J.skip ?_
      refine ⟨_, results_slots rfl, ?_⟩
      replace h4 : St w0 F0 [_, _, _, _, _, _, _, _, _] _ _ := h4
      refine ⟨⟨[_, _, _], (h4.only [1, 3, 3, 0, 0, 0, 0, 0, 0] rfl)⟩, ?_⟩
      refine HJ.fin [(0, _), (8, .slice A5 r2.length c_5), (9, .int .i64 (r2.length : Int)), (10, .int .i64 x6)] rfl rfl ?_
      refine J.region ?_
      refine RJ.run ttok 2 rfl ?_
      refine RJ.fin [(0, _), (8, _), (9, _), (10, .int .i64 (w64 (x6 + 1)))] rfl ?_
      have h11 := ((h4.only [0, 0, 0, 0, 0, 0, 0, 0, 0] rfl).rds [] rfl)
      exact ⟨k1, by omega, x1, x2, A6, c_6, x3, x4, x5, A7, c_7, (w64 (x6 + 1)), rfl, h11, H⟩
    replace H := ite_f c2 H
    refine J.exit ?_
    refine J.seq (J.region ?_)
    refine RJ.run ttok 1 rfl ?_
    refine RJ.fin [(2, .int .i64 0)] rfl ?_
    refine J.ret ?_
    obtain rfl := Option.some.inj H
    exact ⟨_, _, _, (results_slots rfl), ⟨_, _, _, _, _, _, _, _, rfl, rfl⟩, h3.only [0, 0, 2, 2, 0, 1, 0, 0] rfl⟩

def Q7.f (a0 : (Int × List (Int) × (Int × Int)) × (List (Int × List (Int) × Bool × Int)) × (List (Int × Int)) × List (Int) × ((List (Int × Int × Bool)) × Int)) (a1 : Int) : Option (List (Int) × Int) := (Q12.f ((a0.1.1, a0.1.2.1, (a0.1.2.2.1, a0.1.2.2.2)), a0.2.1, a0.2.2.1, a0.2.2.2.1, (a0.2.2.2.2.1, a0.2.2.2.2.2))).bind fun r1 => (if r1 = true then (some (([] : List (Int)), 1)) else (if (!(mhas a0.2.2.1 a1)) = true then (some (([] : List (Int)), 8)) else (if 0 ≤ (mget (0 : Int) a0.2.2.1 a1) ∧ (mget (0 : Int) a0.2.2.1 a1) < (a0.2.1.length : Int) then (if (decide (((gt a0.2.1 (mget (0 : Int) a0.2.2.1 a1)).2.2.2) = 0)) = true then (some (([] : List (Int)), 8)) else ((Q33.f ((gt a0.2.1 (mget (0 : Int) a0.2.2.1 a1)).2.1)).bind fun r2 => (some (r2, 0)))) else none)))
theorem Q7.spec {a0 : (Int × List (Int) × (Int × Int)) × (List (Int × List (Int) × Bool × Int)) × (List (Int × Int)) × List (Int) × ((List (Int × Int × Bool)) × Int)} {a1 : Int} {b1 : Nat} {b2 : Nat} {b3 : Nat} {b4 : Nat} {A1 : Option Addr} {c_1 : Nat} {A2 : Option Addr} {c_2 : Nat} {A3 : Option Addr} {c_3 : Nat} {A4 : Option Addr} {c_4 : Nat} {r : List (Int) × Int} (H : Q7.f a0 a1 = some r) :
    Spec Try.prog 53 [.pointer (some ⟨b1, 0, none⟩), .int .u32 a1] [boxC b1 113 [.pointer (some ⟨b2, 0, none⟩), .slice A2 a0.2.1.length c_2, .map (some b3), .slice A3 a0.2.2.2.1.length c_3, .pointer (some ⟨b4, 0, none⟩)], boxC b2 51 [.int .i64 a0.1.1, .slice A1 a0.1.2.1.length c_1, .int .u64 a0.1.2.2.1, .int .u64 a0.1.2.2.2], ownC 5 (.int .u8) a0.1.2.1 (.slice A1 a0.1.2.1.length c_1), ownC 162 (.pair (.int .u32) (.pair (.slice 5 (.int .u8)) (.pair .bool (.int .i64)))) a0.2.1 (.slice A2 a0.2.1.length c_2), mapC .u32 (Value.int .i64) b3 a0.2.2.1, ownC 3 (.int .i64) a0.2.2.2.1 (.slice A3 a0.2.2.2.1.length c_3), boxC b4 203 [.slice A4 a0.2.2.2.2.1.length c_4, .int .i64 a0.2.2.2.2.2], ownC 205 (.pair (.int .i64) (.pair (.int .i64) .bool)) a0.2.2.2.2.1 (.slice A4 a0.2.2.2.2.1.length c_4)] [] (fun v l => ∃ (A_0 : Option Addr) (c_0 : Nat), v = .tuple #[.slice A_0 r.1.length c_0, .int .i64 r.2] ∧ l = [ownC 5 (.int .u8) r.1 (.slice A_0 r.1.length c_0), boxC b1 113 [.pointer (some ⟨b2, 0, none⟩), .slice A2 a0.2.1.length c_2, .map (some b3), .slice A3 a0.2.2.2.1.length c_3, .pointer (some ⟨b4, 0, none⟩)], boxC b2 51 [.int .i64 a0.1.1, .slice A1 a0.1.2.1.length c_1, .int .u64 a0.1.2.2.1, .int .u64 a0.1.2.2.2], ownC 5 (.int .u8) a0.1.2.1 (.slice A1 a0.1.2.1.length c_1), ownC 162 (.pair (.int .u32) (.pair (.slice 5 (.int .u8)) (.pair .bool (.int .i64)))) a0.2.1 (.slice A2 a0.2.1.length c_2), mapC .u32 (Value.int .i64) b3 a0.2.2.1, ownC 3 (.int .i64) a0.2.2.2.1 (.slice A3 a0.2.2.2.1.length c_3), boxC b4 203 [.slice A4 a0.2.2.2.2.1.length c_4, .int .i64 a0.2.2.2.2.2], ownC 205 (.pair (.int .i64) (.pair (.int .i64) .bool)) a0.2.2.2.2.1 (.slice A4 a0.2.2.2.2.1.length c_4)]) := by
  refine Spec.enter Try.func53 rfl (by kernel_rfl) (by kernel_rfl) fun w0 F0 h0 => ?_
  unfold Q7.f at H
  refine J.seq (J.region ?_)
  refine RJ.run ttok 2 rfl ?_
  refine RJ.fin [(0, .pointer (some ⟨b1, 0, none⟩)), (1, .int .u32 a1)] rfl ?_
  refine J.seq (J.region ?_)
  refine RJ.run ttok 2 rfl ?_
  refine RJ.inline rfl rfl rfl rfl rfl Try.func99 rfl (by kernel_rfl) (by kernel_rfl) ?_
  refine J.seq (J.region ?_)
  refine RJ.run ttok 2 rfl ?_
  refine RJ.fin [(0, _), (1, _)] rfl ?_
  refine J.seq (J.seq (J.region ?_))
  refine RJ.run ttok 1 rfl ?_
  obtain ⟨r1, q1, H⟩ := bind_t H
  refine RJ.op rfl rfl (op_call [0, 0, 0, 0, 0, 0, 0, 0] (Q12.spec q1) rfl rfl rfl h0 rfl gnil) ?_
  rintro _ w1 ⟨_, ⟨rfl, rfl⟩, h1⟩
  replace h1 : St w0 F0 [boxC b1 113 [.pointer (some ⟨b2, 0, none⟩), .slice A2 a0.2.1.length c_2, .map (some b3), .slice A3 a0.2.2.2.1.length c_3, .pointer (some ⟨b4, 0, none⟩)], boxC b2 51 [.int .i64 a0.1.1, .slice A1 a0.1.2.1.length c_1, .int .u64 a0.1.2.2.1, .int .u64 a0.1.2.2.2], ownC 5 (.int .u8) a0.1.2.1 (.slice A1 a0.1.2.1.length c_1), ownC 162 (.pair (.int .u32) (.pair (.slice 5 (.int .u8)) (.pair .bool (.int .i64)))) a0.2.1 (.slice A2 a0.2.1.length c_2), mapC .u32 (Value.int .i64) b3 a0.2.2.1, ownC 3 (.int .i64) a0.2.2.2.1 (.slice A3 a0.2.2.2.1.length c_3), boxC b4 203 [.slice A4 a0.2.2.2.2.1.length c_4, .int .i64 a0.2.2.2.2.2], ownC 205 (.pair (.int .i64) (.pair (.int .i64) .bool)) a0.2.2.2.2.1 (.slice A4 a0.2.2.2.2.1.length c_4)] _ _ := h1
  refine RJ.fin [(0, _), (1, _), (9, .bool r1)] rfl ?_
  refine J.cond rfl (fun c1 => ?_) (fun c1 => ?_)
  · replace H := ite_t c1 H
    refine J.seq (J.region ?_)
    refine RJ.run ttok 2 rfl ?_
    refine RJ.fin [(4, .pointer none), (5, .int .i64 1)] rfl ?_
    refine J.ret ?_
    refine ⟨_, results_slots rfl, ?_⟩
    refine RJ.run ttok 5 rfl ?_
    refine RJ.fin [(6, .pointer none), (7, .int .i64 1)] rfl ?_
    refine J.seq (J.seq (J.region ?_))
    refine RJ.run ttok 2 rfl ?_
    refine RJ.fin [(6, _), (7, _), (15, .bool true)] rfl ?_
    refine J.condT rfl ?_
    refine J.seq (J.region ?_)
    refine RJ.run ttok 3 rfl ?_
    refine RJ.fin [(4, .slice none ([] : List (Int)).length 0), (5, .int .i64 1)] rfl ?_
    refine J.ret ?_
    have h2 := h1.addNil 5 (.int .u8)
    obtain rfl := Option.some.inj H
    exact ⟨_, _, _, (results_slots rfl), ⟨_, _, rfl, rfl⟩, h2.only [0, 0, 0, 0, 0, 0, 0, 0, 0] rfl⟩
  replace H := ite_f c1 H
  refine J.skip ?_
  refine J.seq (J.region ?_)
  refine RJ.run ttok 3 rfl ?_
  refine RJ.q rfl rfl (q_load_box ttok 0 h1.wht rfl rfl rfl rfl rfl) ?_
  refine RJ.run ttok 1 rfl ?_
  refine RJ.q rfl rfl (q_lookup_ok ttok (0 : Int) 4 h1.wht rfl rfl rfl rfl rfl rfl rfl rfl rfl rfl) ?_
  refine RJ.run ttok 5 rfl ?_
  refine RJ.fin [(0, _), (6, .int .i64 (mget (0 : Int) a0.2.2.1 a1)), (7, .bool (mhas a0.2.2.1 a1))] rfl ?_
  refine J.seq (J.seq (J.region ?_))
  refine RJ.run ttok 3 rfl ?_
  rcases Bool.eq_false_or_eq_true (!(mhas a0.2.2.1 a1)) with c2 | c2
  · replace H := ite_t c2 H
    refine RJ.know (t := 21) rfl (congrArg Value.bool c2) ?_
    refine RJ.run ttok 10 rfl ?_
    refine RJ.fin [(0, _), (6, _), (31, .bool true)] rfl ?_
    refine J.condT rfl ?_
    refine J.seq (J.region ?_)
    refine RJ.run ttok 2 rfl ?_
    refine RJ.fin [(4, .pointer none), (5, .int .i64 8)] rfl ?_
    refine J.ret ?_
    refine ⟨_, results_slots rfl, ?_⟩
    refine RJ.run ttok 5 rfl ?_
    refine RJ.fin [(6, .pointer none), (7, .int .i64 8)] rfl ?_
    refine J.seq (J.seq (J.region ?_))
    refine RJ.run ttok 2 rfl ?_
    refine RJ.fin [(6, _), (7, _), (15, .bool true)] rfl ?_
    refine J.condT rfl ?_
    refine J.seq (J.region ?_)
    refine RJ.run ttok 3 rfl ?_
    refine RJ.fin [(4, .slice none ([] : List (Int)).length 0), (5, .int .i64 8)] rfl ?_
    refine J.ret ?_
    have h3 := h1.addNil 5 (.int .u8)
    obtain rfl := Option.some.inj H
    exact ⟨_, _, _, (results_slots rfl), ⟨_, _, rfl, rfl⟩, h3.only [0, 0, 0, 0, 0, 0, 0, 0, 0] rfl⟩
  replace H := ite_f c2 H
  refine RJ.know (t := 21) rfl (congrArg Value.bool c2) ?_
  refine RJ.run ttok 3 rfl ?_
  refine RJ.q rfl rfl (q_load_box ttok 0 h1.wht rfl rfl rfl rfl rfl) ?_
  refine RJ.run ttok 1 rfl ?_
  obtain ⟨⟨p1, p2⟩, H⟩ := guard_t H
  have e1 := elem_A h1.wh (Gives.of 3 rfl own_rd) p1 p2
  refine RJ.q rfl rfl (q_index ttok rfl rfl rfl rfl rfl e1 p1 p2) ?_
  refine RJ.run ttok 1 rfl ?_
  refine RJ.q rfl rfl (q_load_deep (f := 3) ttok h1.wht (Gives.of 3 rfl own_rd) p1 p2 rfl rfl rfl rfl rfl rfl) ?_
  refine RJ.run ttok 2 rfl ?_
  refine RJ.fin [(0, _), (6, _), (31, .bool (decide (((gt a0.2.1 (mget (0 : Int) a0.2.2.1 a1)).2.2.2) = 0)))] rfl ?_
  refine J.cond rfl (fun c3 => ?_) (fun c3 => ?_)
  · replace H := ite_t c3 H
    refine J.seq (J.region ?_)
    refine RJ.run ttok 2 rfl ?_
    refine RJ.fin [(4, .pointer none), (5, .int .i64 8)] rfl ?_
    refine J.ret ?_
    refine ⟨_, results_slots rfl, ?_⟩
    refine RJ.run ttok 5 rfl ?_
    refine RJ.fin [(6, .pointer none), (7, .int .i64 8)] rfl ?_
    refine J.seq (J.seq (J.region ?_))
    refine RJ.run ttok 2 rfl ?_
    refine RJ.fin [(6, _), (7, _), (15, .bool true)] rfl ?_
    refine J.condT rfl ?_
    refine J.seq (J.region ?_)
    refine RJ.run ttok 3 rfl ?_
    refine RJ.fin [(4, .slice none ([] : List (Int)).length 0), (5, .int .i64 8)] rfl ?_
    refine J.ret ?_
    have h4 := h1.addNil 5 (.int .u8)
    obtain rfl := Option.some.inj H
    exact ⟨_, _, _, (results_slots rfl), ⟨_, _, rfl, rfl⟩, h4.only [0, 0, 0, 0, 0, 0, 0, 0, 0] rfl⟩
  replace H := ite_f c3 H
  refine J.skip ?_
  refine J.seq (J.region ?_)
  refine RJ.run ttok 3 rfl ?_
  refine RJ.q rfl rfl (q_load_box ttok 0 h1.wht rfl rfl rfl rfl rfl) ?_
  refine RJ.run ttok 1 rfl ?_
  refine RJ.q rfl rfl (q_index ttok rfl rfl rfl rfl rfl e1 p1 p2) ?_
  refine RJ.run ttok 2 rfl ?_
  refine RJ.fin [(4, .pointer (some ⟨blk A2, ofs A2 + (mget (0 : Int) a0.2.2.1 a1).toNat * 4, none⟩)), (5, .int .i64 0)] rfl ?_
  refine J.ret ?_
  refine ⟨_, results_slots rfl, ?_⟩
  refine RJ.run ttok 5 rfl ?_
  refine RJ.fin [(6, .pointer (some ⟨blk A2, ofs A2 + (mget (0 : Int) a0.2.2.1 a1).toNat * 4, none⟩)), (7, .int .i64 0)] rfl ?_
  refine J.seq (J.seq (J.region ?_))
  refine RJ.run ttok 2 rfl ?_
  refine RJ.fin [(6, _), (7, _), (15, .bool false)] rfl ?_
  refine J.condF rfl ?_
  refine J.skip ?_
  refine J.seq ?_
  obtain ⟨A5, c_5, h5⟩ := h1.openI 3 rfl p1 p2
  refine J.region ?_
  refine RJ.run ttok 3 rfl ?_
  refine RJ.q rfl rfl (q_load_I ttok h5.wht (Gives.self 0 rfl) rfl rfl rfl rfl rfl) ?_
  obtain ⟨r2, q2, H⟩ := bind_t H
  refine RJ.op rfl rfl (op_call [] (Q33.spec q2) rfl rfl rfl h5 rfl (gcons (Gives.of 0 rfl ownI_in) gnil)) ?_
  rintro _ w2 ⟨_, ⟨A6, c_6, rfl, rfl⟩, h6⟩
  replace h6 : St w0 F0 [ownC 5 (.int .u8) r2 (.slice A6 r2.length c_6), ownI 162 (.pair (.int .u32) (.pair (.slice 5 (.int .u8)) (.pair .bool (.int .i64)))) a0.2.1 A2 c_2 (mget (0 : Int) a0.2.2.1 a1) 1 5 (.int .u8) ((gt a0.2.1 (mget (0 : Int) a0.2.2.1 a1)).2.1) A5 c_5, _, _, _, _, _, _, _] _ _ := h6
  refine RJ.run ttok 2 rfl ?_
  refine RJ.fin [(4, .slice A6 r2.length c_6), (5, .int .i64 0)] rfl ?_
  have h7 := h6.closeI 1 rfl
  refine J.ret ?_
  obtain rfl := Option.some.inj H
  exact ⟨_, _, _, (results_slots rfl), ⟨_, _, rfl, rfl⟩, h7.only [1, 1, 1, 1, 0, 0, 0, 0, 0] rfl⟩

def Q52.f (k : Nat) (a0 : (Int × List (Int) × (Int × Int)) × (List (Int × List (Int) × Bool × Int)) × (List (Int × Int)) × List (Int) × ((List (Int × Int × Bool)) × Int)) (a1 : Int × Int × List (Int)) : Option (Int × ((Int × List (Int) × (Int × Int)) × (List (Int × List (Int) × Bool × Int)) × (List (Int × Int)) × List (Int) × ((List (Int × Int × Bool)) × Int))) := if (decide (a1.1 = 0)) = true then ((Q6.f ((a0.1.1, a0.1.2.1, (a0.1.2.2.1, a0.1.2.2.2)), a0.2.1, a0.2.2.1, a0.2.2.2.1, (a0.2.2.2.2.1, a0.2.2.2.2.2)) a1.2.1).bind fun r1 => (some (r1.1, ((r1.2.1.1, r1.2.1.2.1, (r1.2.1.2.2.1, r1.2.1.2.2.2)), r1.2.2.1, r1.2.2.2.1, r1.2.2.2.2.1, (r1.2.2.2.2.2.1, r1.2.2.2.2.2.2))))) else (if (decide (a1.1 = 1)) = true then ((Q6.f ((a0.1.1, a0.1.2.1, (a0.1.2.2.1, a0.1.2.2.2)), a0.2.1, a0.2.2.1, a0.2.2.2.1, (a0.2.2.2.2.1, a0.2.2.2.2.2)) a1.2.1).bind fun r2 => (some (r2.1, ((r2.2.1.1, r2.2.1.2.1, (r2.2.1.2.2.1, r2.2.1.2.2.2)), r2.2.2.1, r2.2.2.2.1, r2.2.2.2.2.1, (r2.2.2.2.2.2.1, r2.2.2.2.2.2.2))))) else (if (decide (a1.1 = 2)) = true then ((Q5.f ((a0.1.1, a0.1.2.1, (a0.1.2.2.1, a0.1.2.2.2)), a0.2.1, a0.2.2.1, a0.2.2.2.1, (a0.2.2.2.2.1, a0.2.2.2.2.2)) a1.2.1).bind fun r3 => (some (r3.1, ((r3.2.1.1, r3.2.1.2.1, (r3.2.1.2.2.1, r3.2.1.2.2.2)), r3.2.2.1, r3.2.2.2.1, r3.2.2.2.2.1, (r3.2.2.2.2.2.1, r3.2.2.2.2.2.2))))) else (if (decide (a1.1 = 3)) = true then ((Q8.f ((a0.1.1, a0.1.2.1, (a0.1.2.2.1, a0.1.2.2.2)), a0.2.1, a0.2.2.1, a0.2.2.2.1, (a0.2.2.2.2.1, a0.2.2.2.2.2)) a1.2.1).bind fun r4 => (some (r4.1, ((r4.2.1.1, r4.2.1.2.1, (r4.2.1.2.2.1, r4.2.1.2.2.2)), r4.2.2.1, r4.2.2.2.1, r4.2.2.2.2.1, (r4.2.2.2.2.2.1, r4.2.2.2.2.2.2))))) else (if (decide (a1.1 = 4)) = true then ((Q8.f ((a0.1.1, a0.1.2.1, (a0.1.2.2.1, a0.1.2.2.2)), a0.2.1, a0.2.2.1, a0.2.2.2.1, (a0.2.2.2.2.1, a0.2.2.2.2.2)) a1.2.1).bind fun r5 => (some (r5.1, ((r5.2.1.1, r5.2.1.2.1, (r5.2.1.2.2.1, r5.2.1.2.2.2)), r5.2.2.1, r5.2.2.2.1, r5.2.2.2.2.1, (r5.2.2.2.2.2.1, r5.2.2.2.2.2.2))))) else (if (decide (a1.1 = 5)) = true then ((Q10.f ((a0.1.1, a0.1.2.1, (a0.1.2.2.1, a0.1.2.2.2)), a0.2.1, a0.2.2.1, a0.2.2.2.1, (a0.2.2.2.2.1, a0.2.2.2.2.2)) a1.2.1 a1.2.2).bind fun r6 => (some (r6.1, ((r6.2.1.1, r6.2.1.2.1, (r6.2.1.2.2.1, r6.2.1.2.2.2)), r6.2.2.1, r6.2.2.2.1, r6.2.2.2.2.1, (r6.2.2.2.2.2.1, r6.2.2.2.2.2.2))))) else (if (decide (a1.1 = 6)) = true then ((Q10.f ((a0.1.1, a0.1.2.1, (a0.1.2.2.1, a0.1.2.2.2)), a0.2.1, a0.2.2.1, a0.2.2.2.1, (a0.2.2.2.2.1, a0.2.2.2.2.2)) a1.2.1 a1.2.2).bind fun r7 => (some (r7.1, ((r7.2.1.1, r7.2.1.2.1, (r7.2.1.2.2.1, r7.2.1.2.2.2)), r7.2.2.1, r7.2.2.2.1, r7.2.2.2.2.1, (r7.2.2.2.2.2.1, r7.2.2.2.2.2.2))))) else (if (decide (a1.1 = 7)) = true then ((Q3.f ((a0.1.1, a0.1.2.1, (a0.1.2.2.1, a0.1.2.2.2)), a0.2.1, a0.2.2.1, a0.2.2.2.1, (a0.2.2.2.2.1, a0.2.2.2.2.2)) a1.2.1).bind fun r8 => (some (r8.1, ((r8.2.1.1, r8.2.1.2.1, (r8.2.1.2.2.1, r8.2.1.2.2.2)), r8.2.2.1, r8.2.2.2.1, r8.2.2.2.2.1, (r8.2.2.2.2.2.1, r8.2.2.2.2.2.2))))) else (if (decide (a1.1 = 8)) = true then ((Q4.f k ((a0.1.1, a0.1.2.1, (a0.1.2.2.1, a0.1.2.2.2)), a0.2.1, a0.2.2.1, a0.2.2.2.1, (a0.2.2.2.2.1, a0.2.2.2.2.2))).bind fun r9 => (some (r9.1, ((r9.2.1.1, r9.2.1.2.1, (r9.2.1.2.2.1, r9.2.1.2.2.2)), r9.2.2.1, r9.2.2.2.1, r9.2.2.2.2.1, (r9.2.2.2.2.2.1, r9.2.2.2.2.2.2))))) else (if (decide (a1.1 = 9)) = true then ((Q7.f ((a0.1.1, a0.1.2.1, (a0.1.2.2.1, a0.1.2.2.2)), a0.2.1, a0.2.2.1, a0.2.2.2.1, (a0.2.2.2.2.1, a0.2.2.2.2.2)) a1.2.1).bind fun r10 => (some (r10.2, ((a0.1.1, a0.1.2.1, (a0.1.2.2.1, a0.1.2.2.2)), a0.2.1, a0.2.2.1, a0.2.2.2.1, (a0.2.2.2.2.1, a0.2.2.2.2.2))))) else (some (0, ((a0.1.1, a0.1.2.1, (a0.1.2.2.1, a0.1.2.2.2)), a0.2.1, a0.2.2.1, a0.2.2.2.1, (a0.2.2.2.2.1, a0.2.2.2.2.2)))))))))))))
theorem Q52.spec {k : Nat} {a0 : (Int × List (Int) × (Int × Int)) × (List (Int × List (Int) × Bool × Int)) × (List (Int × Int)) × List (Int) × ((List (Int × Int × Bool)) × Int)} {a1 : Int × Int × List (Int)} {A5 : Option Addr} {c_5 : Nat} {b1 : Nat} {b2 : Nat} {b3 : Nat} {b4 : Nat} {A1 : Option Addr} {c_1 : Nat} {A2 : Option Addr} {c_2 : Nat} {A3 : Option Addr} {c_3 : Nat} {A4 : Option Addr} {c_4 : Nat} {r : Int × ((Int × List (Int) × (Int × Int)) × (List (Int × List (Int) × Bool × Int)) × (List (Int × Int)) × List (Int) × ((List (Int × Int × Bool)) × Int))} (H : Q52.f k a0 a1 = some r) :
    Spec Try.prog 50 [.pointer (some ⟨b1, 0, none⟩), .agg #[.int .i64 a1.1, .int .u32 a1.2.1, .slice A5 a1.2.2.length c_5]] [boxC b1 113 [.pointer (some ⟨b2, 0, none⟩), .slice A2 a0.2.1.length c_2, .map (some b3), .slice A3 a0.2.2.2.1.length c_3, .pointer (some ⟨b4, 0, none⟩)], boxC b2 51 [.int .i64 a0.1.1, .slice A1 a0.1.2.1.length c_1, .int .u64 a0.1.2.2.1, .int .u64 a0.1.2.2.2], ownC 5 (.int .u8) a0.1.2.1 (.slice A1 a0.1.2.1.length c_1), ownC 162 (.pair (.int .u32) (.pair (.slice 5 (.int .u8)) (.pair .bool (.int .i64)))) a0.2.1 (.slice A2 a0.2.1.length c_2), mapC .u32 (Value.int .i64) b3 a0.2.2.1, ownC 3 (.int .i64) a0.2.2.2.1 (.slice A3 a0.2.2.2.1.length c_3), boxC b4 203 [.slice A4 a0.2.2.2.2.1.length c_4, .int .i64 a0.2.2.2.2.2], ownC 205 (.pair (.int .i64) (.pair (.int .i64) .bool)) a0.2.2.2.2.1 (.slice A4 a0.2.2.2.2.1.length c_4)] [rdC 5 (.int .u8) a1.2.2 (.slice A5 a1.2.2.length c_5)] (fun v l => ∃ (A_0 : Option Addr) (c_0 : Nat) (A_1 : Option Addr) (c_1 : Nat) (A_2 : Option Addr) (c_2 : Nat) (A_3 : Option Addr) (c_3 : Nat), v = .int .i64 r.1 ∧ l = [boxC b1 113 [.pointer (some ⟨b2, 0, none⟩), .slice A_1 r.2.2.1.length c_1, .map (some b3), .slice A_2 r.2.2.2.2.1.length c_2, .pointer (some ⟨b4, 0, none⟩)], boxC b2 51 [.int .i64 r.2.1.1, .slice A_0 r.2.1.2.1.length c_0, .int .u64 r.2.1.2.2.1, .int .u64 r.2.1.2.2.2], ownC 5 (.int .u8) r.2.1.2.1 (.slice A_0 r.2.1.2.1.length c_0), ownC 162 (.pair (.int .u32) (.pair (.slice 5 (.int .u8)) (.pair .bool (.int .i64)))) r.2.2.1 (.slice A_1 r.2.2.1.length c_1), mapC .u32 (Value.int .i64) b3 r.2.2.2.1, ownC 3 (.int .i64) r.2.2.2.2.1 (.slice A_2 r.2.2.2.2.1.length c_2), boxC b4 203 [.slice A_3 r.2.2.2.2.2.1.length c_3, .int .i64 r.2.2.2.2.2.2], ownC 205 (.pair (.int .i64) (.pair (.int .i64) .bool)) r.2.2.2.2.2.1 (.slice A_3 r.2.2.2.2.2.1.length c_3)]) := by
  refine Spec.enter Try.func50 rfl (by kernel_rfl) (by kernel_rfl) fun w0 F0 h0 => ?_
  unfold Q52.f at H
  refine J.seq (J.region ?_)
  refine RJ.op rfl rfl (op_box rfl rfl h0) ?_
  rintro _ w1 ⟨b5, rfl, h1⟩
  replace h1 : St w0 F0 [boxC b5 102 [.int .i64 a1.1, .int .u32 a1.2.1, .slice A5 a1.2.2.length c_5], boxC b1 113 [.pointer (some ⟨b2, 0, none⟩), .slice A2 a0.2.1.length c_2, .map (some b3), .slice A3 a0.2.2.2.1.length c_3, .pointer (some ⟨b4, 0, none⟩)], boxC b2 51 [.int .i64 a0.1.1, .slice A1 a0.1.2.1.length c_1, .int .u64 a0.1.2.2.1, .int .u64 a0.1.2.2.2], ownC 5 (.int .u8) a0.1.2.1 (.slice A1 a0.1.2.1.length c_1), ownC 162 (.pair (.int .u32) (.pair (.slice 5 (.int .u8)) (.pair .bool (.int .i64)))) a0.2.1 (.slice A2 a0.2.1.length c_2), mapC .u32 (Value.int .i64) b3 a0.2.2.1, ownC 3 (.int .i64) a0.2.2.2.1 (.slice A3 a0.2.2.2.1.length c_3), boxC b4 203 [.slice A4 a0.2.2.2.2.1.length c_4, .int .i64 a0.2.2.2.2.2], ownC 205 (.pair (.int .i64) (.pair (.int .i64) .bool)) a0.2.2.2.2.1 (.slice A4 a0.2.2.2.2.1.length c_4)] _ _ := h1
  refine RJ.run ttok 1 rfl ?_
  refine RJ.fin [(0, .pointer (some ⟨b1, 0, none⟩)), (3, .pointer (some ⟨b5, 0, none⟩))] rfl ?_
  refine J.seq (J.region ?_)
  refine RJ.run ttok 1 rfl ?_
  refine RJ.q rfl rfl (q_load_box ttok 0 h1.wht rfl rfl rfl rfl rfl) ?_
  refine RJ.fin [(0, _), (3, _), (8, .int .i64 a1.1)] rfl ?_
  refine J.block (J.seq (J.seq (J.region ?_)))
  refine RJ.run ttok 2 rfl ?_
  refine RJ.fin [(0, _), (3, _), (8, _), (9, .bool (decide (a1.1 = 0)))] rfl ?_
  refine J.cond rfl (fun c1 => ?_) (fun c1 => ?_)
  · replace H := ite_t c1 H
    refine J.skip ?_
    refine J.cond rfl (fun e => ?_) (fun e => by rw [c1] at e; cases e)
    refine J.seq (J.region ?_)
    refine RJ.run ttok 2 rfl ?_
    refine RJ.q rfl rfl (q_load_box ttok 0 h1.wht rfl rfl rfl rfl rfl) ?_
    obtain ⟨r1, q1, H⟩ := bind_t H
    refine RJ.op rfl rfl (op_call [1, 1, 1, 1, 1, 1, 1, 1] (Q6.spec q1) rfl rfl rfl h1 rfl gnil) ?_
    rintro _ w2 ⟨_, ⟨A6, c_6, A7, c_7, A8, c_8, A9, c_9, rfl, rfl⟩, h2⟩
    replace h2 : St w0 F0 [boxC b1 113 [.pointer (some ⟨b2, 0, none⟩), .slice A7 r1.2.2.1.length c_7, .map (some b3), .slice A8 r1.2.2.2.2.1.length c_8, .pointer (some ⟨b4, 0, none⟩)], boxC b2 51 [.int .i64 r1.2.1.1, .slice A6 r1.2.1.2.1.length c_6, .int .u64 r1.2.1.2.2.1, .int .u64 r1.2.1.2.2.2], ownC 5 (.int .u8) r1.2.1.2.1 (.slice A6 r1.2.1.2.1.length c_6), ownC 162 (.pair (.int .u32) (.pair (.slice 5 (.int .u8)) (.pair .bool (.int .i64)))) r1.2.2.1 (.slice A7 r1.2.2.1.length c_7), mapC .u32 (Value.int .i64) b3 r1.2.2.2.1, ownC 3 (.int .i64) r1.2.2.2.2.1 (.slice A8 r1.2.2.2.2.1.length c_8), boxC b4 203 [.slice A9 r1.2.2.2.2.2.1.length c_9, .int .i64 r1.2.2.2.2.2.2], ownC 205 (.pair (.int .i64) (.pair (.int .i64) .bool)) r1.2.2.2.2.2.1 (.slice A9 r1.2.2.2.2.2.1.length c_9), _] _ _ := h2
    refine RJ.run ttok 1 rfl ?_
    refine RJ.fin [(4, .int .i64 r1.1)] rfl ?_
    refine J.ret ?_
    obtain rfl := Option.some.inj H
    exact ⟨_, _, _, (results_slots rfl), ⟨_, _, _, _, _, _, _, _, rfl, rfl⟩, h2.only [0, 0, 0, 0, 0, 0, 0, 0] rfl⟩
  replace H := ite_f c1 H
  refine J.region ?_
  refine RJ.run ttok 2 rfl ?_
  refine RJ.fin [(0, _), (3, _), (8, _), (9, .bool (decide (a1.1 = 1)))] rfl ?_
  refine J.cond rfl (fun c2 => ?_) (fun c2 => ?_)
  · replace H := ite_t c2 H
    refine J.seq (J.region ?_)
    refine RJ.run ttok 2 rfl ?_
    refine RJ.q rfl rfl (q_load_box ttok 0 h1.wht rfl rfl rfl rfl rfl) ?_
    obtain ⟨r2, q2, H⟩ := bind_t H
    refine RJ.op rfl rfl (op_call [1, 1, 1, 1, 1, 1, 1, 1] (Q6.spec q2) rfl rfl rfl h1 rfl gnil) ?_
    rintro _ w3 ⟨_, ⟨A10, c_10, A11, c_11, A12, c_12, A13, c_13, rfl, rfl⟩, h3⟩
    replace h3 : St w0 F0 [boxC b1 113 [.pointer (some ⟨b2, 0, none⟩), .slice A11 r2.2.2.1.length c_11, .map (some b3), .slice A12 r2.2.2.2.2.1.length c_12, .pointer (some ⟨b4, 0, none⟩)], boxC b2 51 [.int .i64 r2.2.1.1, .slice A10 r2.2.1.2.1.length c_10, .int .u64 r2.2.1.2.2.1, .int .u64 r2.2.1.2.2.2], ownC 5 (.int .u8) r2.2.1.2.1 (.slice A10 r2.2.1.2.1.length c_10), ownC 162 (.pair (.int .u32) (.pair (.slice 5 (.int .u8)) (.pair .bool (.int .i64)))) r2.2.2.1 (.slice A11 r2.2.2.1.length c_11), mapC .u32 (Value.int .i64) b3 r2.2.2.2.1, ownC 3 (.int .i64) r2.2.2.2.2.1 (.slice A12 r2.2.2.2.2.1.length c_12), boxC b4 203 [.slice A13 r2.2.2.2.2.2.1.length c_13, .int .i64 r2.2.2.2.2.2.2], ownC 205 (.pair (.int .i64) (.pair (.int .i64) .bool)) r2.2.2.2.2.2.1 (.slice A13 r2.2.2.2.2.2.1.length c_13), _] _ _ := h3
    refine RJ.run ttok 1 rfl ?_
    refine RJ.fin [(4, .int .i64 r2.1)] rfl ?_
    refine J.ret ?_
    obtain rfl := Option.some.inj H
    exact ⟨_, _, _, (results_slots rfl), ⟨_, _, _, _, _, _, _, _, rfl, rfl⟩, h3.only [0, 0, 0, 0, 0, 0, 0, 0] rfl⟩
  replace H := ite_f c2 H
  refine J.seq (J.region ?_)
  refine RJ.run ttok 2 rfl ?_
  refine RJ.fin [(0, _), (3, _), (8, _), (16, .bool (decide (a1.1 = 2)))] rfl ?_
  refine J.cond rfl (fun c3 => ?_) (fun c3 => ?_)
  · replace H := ite_t c3 H
    refine J.seq (J.region ?_)
    refine RJ.run ttok 2 rfl ?_
    refine RJ.q rfl rfl (q_load_box ttok 0 h1.wht rfl rfl rfl rfl rfl) ?_
    obtain ⟨r3, q3, H⟩ := bind_t H
    refine RJ.op rfl rfl (op_call [1, 1, 1, 1, 1, 1, 1, 1] (Q5.spec q3) rfl rfl rfl h1 rfl gnil) ?_
    rintro _ w4 ⟨_, ⟨A14, c_14, A15, c_15, A16, c_16, A17, c_17, rfl, rfl⟩, h4⟩
    replace h4 : St w0 F0 [boxC b1 113 [.pointer (some ⟨b2, 0, none⟩), .slice A15 r3.2.2.1.length c_15, .map (some b3), .slice A16 r3.2.2.2.2.1.length c_16, .pointer (some ⟨b4, 0, none⟩)], boxC b2 51 [.int .i64 r3.2.1.1, .slice A14 r3.2.1.2.1.length c_14, .int .u64 r3.2.1.2.2.1, .int .u64 r3.2.1.2.2.2], ownC 5 (.int .u8) r3.2.1.2.1 (.slice A14 r3.2.1.2.1.length c_14), ownC 162 (.pair (.int .u32) (.pair (.slice 5 (.int .u8)) (.pair .bool (.int .i64)))) r3.2.2.1 (.slice A15 r3.2.2.1.length c_15), mapC .u32 (Value.int .i64) b3 r3.2.2.2.1, ownC 3 (.int .i64) r3.2.2.2.2.1 (.slice A16 r3.2.2.2.2.1.length c_16), boxC b4 203 [.slice A17 r3.2.2.2.2.2.1.length c_17, .int .i64 r3.2.2.2.2.2.2], ownC 205 (.pair (.int .i64) (.pair (.int .i64) .bool)) r3.2.2.2.2.2.1 (.slice A17 r3.2.2.2.2.2.1.length c_17), _] _ _ := h4
    refine RJ.run ttok 1 rfl ?_
    refine RJ.fin [(4, .int .i64 r3.1)] rfl ?_
    refine J.ret ?_
    obtain rfl := Option.some.inj H
    exact ⟨_, _, _, (results_slots rfl), ⟨_, _, _, _, _, _, _, _, rfl, rfl⟩, h4.only [0, 0, 0, 0, 0, 0, 0, 0] rfl⟩
  replace H := ite_f c3 H
  refine J.seq (J.seq (J.region ?_))
  refine RJ.run ttok 2 rfl ?_
  refine RJ.fin [(0, _), (3, _), (8, _), (22, .bool (decide (a1.1 = 3)))] rfl ?_
  refine J.cond rfl (fun c4 => ?_) (fun c4 => ?_)
  · replace H := ite_t c4 H
    refine J.skip ?_
    refine J.cond rfl (fun e => ?_) (fun e => by rw [c4] at e; cases e)
    refine J.seq (J.region ?_)
    refine RJ.run ttok 2 rfl ?_
    refine RJ.q rfl rfl (q_load_box ttok 0 h1.wht rfl rfl rfl rfl rfl) ?_
    obtain ⟨r4, q4, H⟩ := bind_t H
    refine RJ.op rfl rfl (op_call [1, 1, 1, 1, 1, 1, 1, 1] (Q8.spec q4) rfl rfl rfl h1 rfl gnil) ?_
    rintro _ w5 ⟨_, ⟨A18, c_18, A19, c_19, A20, c_20, A21, c_21, rfl, rfl⟩, h5⟩
    replace h5 : St w0 F0 [boxC b1 113 [.pointer (some ⟨b2, 0, none⟩), .slice A19 r4.2.2.1.length c_19, .map (some b3), .slice A20 r4.2.2.2.2.1.length c_20, .pointer (some ⟨b4, 0, none⟩)], boxC b2 51 [.int .i64 r4.2.1.1, .slice A18 r4.2.1.2.1.length c_18, .int .u64 r4.2.1.2.2.1, .int .u64 r4.2.1.2.2.2], ownC 5 (.int .u8) r4.2.1.2.1 (.slice A18 r4.2.1.2.1.length c_18), ownC 162 (.pair (.int .u32) (.pair (.slice 5 (.int .u8)) (.pair .bool (.int .i64)))) r4.2.2.1 (.slice A19 r4.2.2.1.length c_19), mapC .u32 (Value.int .i64) b3 r4.2.2.2.1, ownC 3 (.int .i64) r4.2.2.2.2.1 (.slice A20 r4.2.2.2.2.1.length c_20), boxC b4 203 [.slice A21 r4.2.2.2.2.2.1.length c_21, .int .i64 r4.2.2.2.2.2.2], ownC 205 (.pair (.int .i64) (.pair (.int .i64) .bool)) r4.2.2.2.2.2.1 (.slice A21 r4.2.2.2.2.2.1.length c_21), _] _ _ := h5
    refine RJ.run ttok 1 rfl ?_
    refine RJ.fin [(4, .int .i64 r4.1)] rfl ?_
    refine J.ret ?_
    obtain rfl := Option.some.inj H
    exact ⟨_, _, _, (results_slots rfl), ⟨_, _, _, _, _, _, _, _, rfl, rfl⟩, h5.only [0, 0, 0, 0, 0, 0, 0, 0] rfl⟩
  replace H := ite_f c4 H
  refine J.region ?_
  refine RJ.run ttok 2 rfl ?_
  refine RJ.fin [(0, _), (3, _), (8, _), (22, .bool (decide (a1.1 = 4)))] rfl ?_
  refine J.cond rfl (fun c5 => ?_) (fun c5 => ?_)
  · replace H := ite_t c5 H
    refine J.seq (J.region ?_)
    refine RJ.run ttok 2 rfl ?_
    refine RJ.q rfl rfl (q_load_box ttok 0 h1.wht rfl rfl rfl rfl rfl) ?_
    obtain ⟨r5, q5, H⟩ := bind_t H
    refine RJ.op rfl rfl (op_call [1, 1, 1, 1, 1, 1, 1, 1] (Q8.spec q5) rfl rfl rfl h1 rfl gnil) ?_
    rintro _ w6 ⟨_, ⟨A22, c_22, A23, c_23, A24, c_24, A25, c_25, rfl, rfl⟩, h6⟩
    replace h6 : St w0 F0 [boxC b1 113 [.pointer (some ⟨b2, 0, none⟩), .slice A23 r5.2.2.1.length c_23, .map (some b3), .slice A24 r5.2.2.2.2.1.length c_24, .pointer (some ⟨b4, 0, none⟩)], boxC b2 51 [.int .i64 r5.2.1.1, .slice A22 r5.2.1.2.1.length c_22, .int .u64 r5.2.1.2.2.1, .int .u64 r5.2.1.2.2.2], ownC 5 (.int .u8) r5.2.1.2.1 (.slice A22 r5.2.1.2.1.length c_22), ownC 162 (.pair (.int .u32) (.pair (.slice 5 (.int .u8)) (.pair .bool (.int .i64)))) r5.2.2.1 (.slice A23 r5.2.2.1.length c_23), mapC .u32 (Value.int .i64) b3 r5.2.2.2.1, ownC 3 (.int .i64) r5.2.2.2.2.1 (.slice A24 r5.2.2.2.2.1.length c_24), boxC b4 203 [.slice A25 r5.2.2.2.2.2.1.length c_25, .int .i64 r5.2.2.2.2.2.2], ownC 205 (.pair (.int .i64) (.pair (.int .i64) .bool)) r5.2.2.2.2.2.1 (.slice A25 r5.2.2.2.2.2.1.length c_25), _] _ _ := h6
    refine RJ.run ttok 1 rfl ?_
    refine RJ.fin [(4, .int .i64 r5.1)] rfl ?_
    refine J.ret ?_
    obtain rfl := Option.some.inj H
    exact ⟨_, _, _, (results_slots rfl), ⟨_, _, _, _, _, _, _, _, rfl, rfl⟩, h6.only [0, 0, 0, 0, 0, 0, 0, 0] rfl⟩
  replace H := ite_f c5 H
  refine J.seq (J.seq (J.region ?_))
  refine RJ.run ttok 2 rfl ?_
  refine RJ.fin [(0, _), (3, _), (8, _), (29, .bool (decide (a1.1 = 5)))] rfl ?_
  refine J.cond rfl (fun c6 => ?_) (fun c6 => ?_)
  · replace H := ite_t c6 H
    refine J.skip ?_
    refine J.cond rfl (fun e => ?_) (fun e => by rw [c6] at e; cases e)
    refine J.seq (J.region ?_)
    refine RJ.run ttok 2 rfl ?_
    refine RJ.q rfl rfl (q_load_box ttok 0 h1.wht rfl rfl rfl rfl rfl) ?_
    refine RJ.run ttok 1 rfl ?_
    refine RJ.q rfl rfl (q_load_box ttok 0 h1.wht rfl rfl rfl rfl rfl) ?_
    obtain ⟨r6, q6, H⟩ := bind_t H
    refine RJ.op rfl rfl (op_call [1, 1, 1, 1, 1, 1, 1, 1] (Q10.spec q6) rfl rfl rfl h1 rfl (gcons (Gives.self 1 rfl) gnil)) ?_
    rintro _ w7 ⟨_, ⟨A26, c_26, A27, c_27, A28, c_28, A29, c_29, rfl, rfl⟩, h7⟩
    replace h7 : St w0 F0 [boxC b1 113 [.pointer (some ⟨b2, 0, none⟩), .slice A27 r6.2.2.1.length c_27, .map (some b3), .slice A28 r6.2.2.2.2.1.length c_28, .pointer (some ⟨b4, 0, none⟩)], boxC b2 51 [.int .i64 r6.2.1.1, .slice A26 r6.2.1.2.1.length c_26, .int .u64 r6.2.1.2.2.1, .int .u64 r6.2.1.2.2.2], ownC 5 (.int .u8) r6.2.1.2.1 (.slice A26 r6.2.1.2.1.length c_26), ownC 162 (.pair (.int .u32) (.pair (.slice 5 (.int .u8)) (.pair .bool (.int .i64)))) r6.2.2.1 (.slice A27 r6.2.2.1.length c_27), mapC .u32 (Value.int .i64) b3 r6.2.2.2.1, ownC 3 (.int .i64) r6.2.2.2.2.1 (.slice A28 r6.2.2.2.2.1.length c_28), boxC b4 203 [.slice A29 r6.2.2.2.2.2.1.length c_29, .int .i64 r6.2.2.2.2.2.2], ownC 205 (.pair (.int .i64) (.pair (.int .i64) .bool)) r6.2.2.2.2.2.1 (.slice A29 r6.2.2.2.2.2.1.length c_29), _] _ _ := h7
    refine RJ.run ttok 1 rfl ?_
    refine RJ.fin [(4, .int .i64 r6.1)] rfl ?_
    refine J.ret ?_
    obtain rfl := Option.some.inj H
    exact ⟨_, _, _, (results_slots rfl), ⟨_, _, _, _, _, _, _, _, rfl, rfl⟩, h7.only [0, 0, 0, 0, 0, 0, 0, 0] rfl⟩
  replace H := ite_f c6 H
  refine J.region ?_
  refine RJ.run ttok 2 rfl ?_
  refine RJ.fin [(0, _), (3, _), (8, _), (29, .bool (decide (a1.1 = 6)))] rfl ?_
  refine J.cond rfl (fun c7 => ?_) (fun c7 => ?_)
  · replace H := ite_t c7 H
    refine J.seq (J.region ?_)
    refine RJ.run ttok 2 rfl ?_
    refine RJ.q rfl rfl (q_load_box ttok 0 h1.wht rfl rfl rfl rfl rfl) ?_
    refine RJ.run ttok 1 rfl ?_
    refine RJ.q rfl rfl (q_load_box ttok 0 h1.wht rfl rfl rfl rfl rfl) ?_
    obtain ⟨r7, q7, H⟩ := bind_t H
    refine RJ.op rfl rfl (op_call [1, 1, 1, 1, 1, 1, 1, 1] (Q10.spec q7) rfl rfl rfl h1 rfl (gcons (Gives.self 1 rfl) gnil)) ?_
    rintro _ w8 ⟨_, ⟨A30, c_30, A31, c_31, A32, c_32, A33, c_33, rfl, rfl⟩, h8⟩
    replace h8 : St w0 F0 [boxC b1 113 [.pointer (some ⟨b2, 0, none⟩), .slice A31 r7.2.2.1.length c_31, .map (some b3), .slice A32 r7.2.2.2.2.1.length c_32, .pointer (some ⟨b4, 0, none⟩)], boxC b2 51 [.int .i64 r7.2.1.1, .slice A30 r7.2.1.2.1.length c_30, .int .u64 r7.2.1.2.2.1, .int .u64 r7.2.1.2.2.2], ownC 5 (.int .u8) r7.2.1.2.1 (.slice A30 r7.2.1.2.1.length c_30), ownC 162 (.pair (.int .u32) (.pair (.slice 5 (.int .u8)) (.pair .bool (.int .i64)))) r7.2.2.1 (.slice A31 r7.2.2.1.length c_31), mapC .u32 (Value.int .i64) b3 r7.2.2.2.1, ownC 3 (.int .i64) r7.2.2.2.2.1 (.slice A32 r7.2.2.2.2.1.length c_32), boxC b4 203 [.slice A33 r7.2.2.2.2.2.1.length c_33, .int .i64 r7.2.2.2.2.2.2], ownC 205 (.pair (.int .i64) (.pair (.int .i64) .bool)) r7.2.2.2.2.2.1 (.slice A33 r7.2.2.2.2.2.1.length c_33), _] _ _ := h8
    refine RJ.run ttok 1 rfl ?_
    refine RJ.fin [(4, .int .i64 r7.1)] rfl ?_
    refine J.ret ?_
    obtain rfl := Option.some.inj H
    exact ⟨_, _, _, (results_slots rfl), ⟨_, _, _, _, _, _, _, _, rfl, rfl⟩, h8.only [0, 0, 0, 0, 0, 0, 0, 0] rfl⟩
  replace H := ite_f c7 H
  refine J.seq (J.region ?_)
  refine RJ.run ttok 2 rfl ?_
  refine RJ.fin [(0, _), (3, _), (8, _), (38, .bool (decide (a1.1 = 7)))] rfl ?_
  refine J.cond rfl (fun c8 => ?_) (fun c8 => ?_)
  · replace H := ite_t c8 H
    refine J.seq (J.region ?_)
    refine RJ.run ttok 2 rfl ?_
    refine RJ.q rfl rfl (q_load_box ttok 0 h1.wht rfl rfl rfl rfl rfl) ?_
    obtain ⟨r8, q8, H⟩ := bind_t H
    refine RJ.op rfl rfl (op_call [1, 1, 1, 1, 1, 1, 1, 1] (Q3.spec q8) rfl rfl rfl h1 rfl gnil) ?_
    rintro _ w9 ⟨_, ⟨A34, c_34, A35, c_35, A36, c_36, A37, c_37, rfl, rfl⟩, h9⟩
    replace h9 : St w0 F0 [boxC b1 113 [.pointer (some ⟨b2, 0, none⟩), .slice A35 r8.2.2.1.length c_35, .map (some b3), .slice A36 r8.2.2.2.2.1.length c_36, .pointer (some ⟨b4, 0, none⟩)], boxC b2 51 [.int .i64 r8.2.1.1, .slice A34 r8.2.1.2.1.length c_34, .int .u64 r8.2.1.2.2.1, .int .u64 r8.2.1.2.2.2], ownC 5 (.int .u8) r8.2.1.2.1 (.slice A34 r8.2.1.2.1.length c_34), ownC 162 (.pair (.int .u32) (.pair (.slice 5 (.int .u8)) (.pair .bool (.int .i64)))) r8.2.2.1 (.slice A35 r8.2.2.1.length c_35), mapC .u32 (Value.int .i64) b3 r8.2.2.2.1, ownC 3 (.int .i64) r8.2.2.2.2.1 (.slice A36 r8.2.2.2.2.1.length c_36), boxC b4 203 [.slice A37 r8.2.2.2.2.2.1.length c_37, .int .i64 r8.2.2.2.2.2.2], ownC 205 (.pair (.int .i64) (.pair (.int .i64) .bool)) r8.2.2.2.2.2.1 (.slice A37 r8.2.2.2.2.2.1.length c_37), _] _ _ := h9
    refine RJ.run ttok 1 rfl ?_
    refine RJ.fin [(4, .int .i64 r8.1)] rfl ?_
    refine J.ret ?_
    obtain rfl := Option.some.inj H
    exact ⟨_, _, _, (results_slots rfl), ⟨_, _, _, _, _, _, _, _, rfl, rfl⟩, h9.only [0, 0, 0, 0, 0, 0, 0, 0] rfl⟩
  replace H := ite_f c8 H
  refine J.seq (J.region ?_)
  refine RJ.run ttok 2 rfl ?_
  refine RJ.fin [(0, _), (3, _), (8, _), (44, .bool (decide (a1.1 = 8)))] rfl ?_
  refine J.cond rfl (fun c9 => ?_) (fun c9 => ?_)
  · replace H := ite_t c9 H
    refine J.seq (J.region ?_)
    refine RJ.run ttok 1 rfl ?_
    obtain ⟨r9, q9, H⟩ := bind_t H
    refine RJ.op rfl rfl (op_call [1, 1, 1, 1, 1, 1, 1, 1] (Q4.spec q9) rfl rfl rfl h1 rfl gnil) ?_
    rintro _ w10 ⟨_, ⟨A38, c_38, A39, c_39, A40, c_40, A41, c_41, rfl, rfl⟩, h10⟩
    replace h10 : St w0 F0 [boxC b1 113 [.pointer (some ⟨b2, 0, none⟩), .slice A39 r9.2.2.1.length c_39, .map (some b3), .slice A40 r9.2.2.2.2.1.length c_40, .pointer (some ⟨b4, 0, none⟩)], boxC b2 51 [.int .i64 r9.2.1.1, .slice A38 r9.2.1.2.1.length c_38, .int .u64 r9.2.1.2.2.1, .int .u64 r9.2.1.2.2.2], ownC 5 (.int .u8) r9.2.1.2.1 (.slice A38 r9.2.1.2.1.length c_38), ownC 162 (.pair (.int .u32) (.pair (.slice 5 (.int .u8)) (.pair .bool (.int .i64)))) r9.2.2.1 (.slice A39 r9.2.2.1.length c_39), mapC .u32 (Value.int .i64) b3 r9.2.2.2.1, ownC 3 (.int .i64) r9.2.2.2.2.1 (.slice A40 r9.2.2.2.2.1.length c_40), boxC b4 203 [.slice A41 r9.2.2.2.2.2.1.length c_41, .int .i64 r9.2.2.2.2.2.2], ownC 205 (.pair (.int .i64) (.pair (.int .i64) .bool)) r9.2.2.2.2.2.1 (.slice A41 r9.2.2.2.2.2.1.length c_41), _] _ _ := h10
    refine RJ.run ttok 1 rfl ?_
    refine RJ.fin [(4, .int .i64 r9.1)] rfl ?_
    refine J.ret ?_
    obtain rfl := Option.some.inj H
    exact ⟨_, _, _, (results_slots rfl), ⟨_, _, _, _, _, _, _, _, rfl, rfl⟩, h10.only [0, 0, 0, 0, 0, 0, 0, 0] rfl⟩
  replace H := ite_f c9 H
  refine J.seq (J.region ?_)
  refine RJ.run ttok 2 rfl ?_
  refine RJ.fin [(0, _), (3, _), (48, .bool (decide (a1.1 = 9)))] rfl ?_
  refine J.cond rfl (fun c10 => ?_) (fun c10 => ?_)
  · replace H := ite_t c10 H
    refine J.seq (J.region ?_)
    refine RJ.run ttok 2 rfl ?_
    refine RJ.q rfl rfl (q_load_box ttok 0 h1.wht rfl rfl rfl rfl rfl) ?_
    obtain ⟨r10, q10, H⟩ := bind_t H
    refine RJ.op rfl rfl (op_call [1, 1, 1, 1, 1, 1, 1, 1] (Q7.spec q10) rfl rfl rfl h1 rfl gnil) ?_
    rintro _ w11 ⟨_, ⟨A42, c_42, rfl, rfl⟩, h11⟩
    replace h11 : St w0 F0 [ownC 5 (.int .u8) r10.1 (.slice A42 r10.1.length c_42), _, _, _, _, _, _, _, _, _] _ _ := h11
    refine RJ.run ttok 5 rfl ?_
    refine RJ.fin [(6, .int .i64 r10.2)] rfl ?_
    have h12 := h11.only [1, 1, 1, 1, 1, 1, 1, 1] rfl
    replace h12 : St w0 F0 [_, _, _, _, _, _, _, _] _ _ := h12
    refine J.seq (J.region ?_)
    refine RJ.run ttok 2 rfl ?_
    refine RJ.fin [(4, .int .i64 r10.2)] rfl ?_
    refine J.ret ?_
    obtain rfl := Option.some.inj H
    exact ⟨_, _, _, (results_slots rfl), ⟨_, _, _, _, _, _, _, _, rfl, rfl⟩, h12.only [0, 0, 0, 0, 0, 0, 0, 0] rfl⟩
  replace H := ite_f c10 H
  refine J.seq (J.region ?_)
  refine RJ.run ttok 1 rfl ?_
  refine RJ.fin [(4, .int .i64 0)] rfl ?_
  refine J.ret ?_
  obtain rfl := Option.some.inj H
  exact ⟨_, _, _, (results_slots rfl), ⟨_, _, _, _, _, _, _, _, rfl, rfl⟩, h1.only [1, 1, 1, 1, 1, 1, 1, 1] rfl⟩

def Q9.f (a0 : (Int × List (Int) × (Int × Int)) × (List (Int × List (Int) × Bool × Int)) × (List (Int × Int)) × List (Int) × ((List (Int × Int × Bool)) × Int)) : Option (Int) := (Q12.f ((a0.1.1, a0.1.2.1, (a0.1.2.2.1, a0.1.2.2.2)), a0.2.1, a0.2.2.1, a0.2.2.2.1, (a0.2.2.2.2.1, a0.2.2.2.2.2))).bind fun r1 => (if r1 = true then (some 0) else (some (a0.2.2.1.length : Int)))
theorem Q9.spec {a0 : (Int × List (Int) × (Int × Int)) × (List (Int × List (Int) × Bool × Int)) × (List (Int × Int)) × List (Int) × ((List (Int × Int × Bool)) × Int)} {b1 : Nat} {b2 : Nat} {b3 : Nat} {b4 : Nat} {A1 : Option Addr} {c_1 : Nat} {A2 : Option Addr} {c_2 : Nat} {A3 : Option Addr} {c_3 : Nat} {A4 : Option Addr} {c_4 : Nat} {r : Int} (H : Q9.f a0 = some r) :
    Spec Try.prog 51 [.pointer (some ⟨b1, 0, none⟩)] [boxC b1 113 [.pointer (some ⟨b2, 0, none⟩), .slice A2 a0.2.1.length c_2, .map (some b3), .slice A3 a0.2.2.2.1.length c_3, .pointer (some ⟨b4, 0, none⟩)], boxC b2 51 [.int .i64 a0.1.1, .slice A1 a0.1.2.1.length c_1, .int .u64 a0.1.2.2.1, .int .u64 a0.1.2.2.2], ownC 5 (.int .u8) a0.1.2.1 (.slice A1 a0.1.2.1.length c_1), ownC 162 (.pair (.int .u32) (.pair (.slice 5 (.int .u8)) (.pair .bool (.int .i64)))) a0.2.1 (.slice A2 a0.2.1.length c_2), mapC .u32 (Value.int .i64) b3 a0.2.2.1, ownC 3 (.int .i64) a0.2.2.2.1 (.slice A3 a0.2.2.2.1.length c_3), boxC b4 203 [.slice A4 a0.2.2.2.2.1.length c_4, .int .i64 a0.2.2.2.2.2], ownC 205 (.pair (.int .i64) (.pair (.int .i64) .bool)) a0.2.2.2.2.1 (.slice A4 a0.2.2.2.2.1.length c_4)] [] (fun v l => v = .int .i64 r ∧ l = [boxC b1 113 [.pointer (some ⟨b2, 0, none⟩), .slice A2 a0.2.1.length c_2, .map (some b3), .slice A3 a0.2.2.2.1.length c_3, .pointer (some ⟨b4, 0, none⟩)], boxC b2 51 [.int .i64 a0.1.1, .slice A1 a0.1.2.1.length c_1, .int .u64 a0.1.2.2.1, .int .u64 a0.1.2.2.2], ownC 5 (.int .u8) a0.1.2.1 (.slice A1 a0.1.2.1.length c_1), ownC 162 (.pair (.int .u32) (.pair (.slice 5 (.int .u8)) (.pair .bool (.int .i64)))) a0.2.1 (.slice A2 a0.2.1.length c_2), mapC .u32 (Value.int .i64) b3 a0.2.2.1, ownC 3 (.int .i64) a0.2.2.2.1 (.slice A3 a0.2.2.2.1.length c_3), boxC b4 203 [.slice A4 a0.2.2.2.2.1.length c_4, .int .i64 a0.2.2.2.2.2], ownC 205 (.pair (.int .i64) (.pair (.int .i64) .bool)) a0.2.2.2.2.1 (.slice A4 a0.2.2.2.2.1.length c_4)]) := by
  refine Spec.enter Try.func51 rfl (by kernel_rfl) (by kernel_rfl) fun w0 F0 h0 => ?_
  unfold Q9.f at H
  refine J.seq (J.region ?_)
  refine RJ.run ttok 1 rfl ?_
  refine RJ.fin [(0, .pointer (some ⟨b1, 0, none⟩))] rfl ?_
  refine J.seq (J.seq (J.region ?_))
  refine RJ.run ttok 1 rfl ?_
  obtain ⟨r1, q1, H⟩ := bind_t H
  refine RJ.op rfl rfl (op_call [0, 0, 0, 0, 0, 0, 0, 0] (Q12.spec q1) rfl rfl rfl h0 rfl gnil) ?_
  rintro _ w1 ⟨_, ⟨rfl, rfl⟩, h1⟩
  replace h1 : St w0 F0 [boxC b1 113 [.pointer (some ⟨b2, 0, none⟩), .slice A2 a0.2.1.length c_2, .map (some b3), .slice A3 a0.2.2.2.1.length c_3, .pointer (some ⟨b4, 0, none⟩)], boxC b2 51 [.int .i64 a0.1.1, .slice A1 a0.1.2.1.length c_1, .int .u64 a0.1.2.2.1, .int .u64 a0.1.2.2.2], ownC 5 (.int .u8) a0.1.2.1 (.slice A1 a0.1.2.1.length c_1), ownC 162 (.pair (.int .u32) (.pair (.slice 5 (.int .u8)) (.pair .bool (.int .i64)))) a0.2.1 (.slice A2 a0.2.1.length c_2), mapC .u32 (Value.int .i64) b3 a0.2.2.1, ownC 3 (.int .i64) a0.2.2.2.1 (.slice A3 a0.2.2.2.1.length c_3), boxC b4 203 [.slice A4 a0.2.2.2.2.1.length c_4, .int .i64 a0.2.2.2.2.2], ownC 205 (.pair (.int .i64) (.pair (.int .i64) .bool)) a0.2.2.2.2.1 (.slice A4 a0.2.2.2.2.1.length c_4)] _ _ := h1
  refine RJ.fin [(0, _), (4, .bool r1)] rfl ?_
  refine J.cond rfl (fun c1 => ?_) (fun c1 => ?_)
  · replace H := ite_t c1 H
    refine J.seq (J.region ?_)
    refine RJ.run ttok 1 rfl ?_
    refine RJ.fin [(2, .int .i64 0)] rfl ?_
    refine J.ret ?_
    obtain rfl := Option.some.inj H
    exact ⟨_, _, _, (results_slots rfl), ⟨rfl, rfl⟩, h1.only [0, 0, 0, 0, 0, 0, 0, 0] rfl⟩
  replace H := ite_f c1 H
  refine J.skip ?_
  refine J.seq (J.region ?_)
  refine RJ.run ttok 3 rfl ?_
  refine RJ.q rfl rfl (q_load_box ttok 0 h1.wht rfl rfl rfl rfl rfl) ?_
  refine RJ.q rfl rfl (q_maplen ttok 4 h1.wht rfl rfl rfl rfl rfl) ?_
  refine RJ.run ttok 1 rfl ?_
  refine RJ.fin [(2, .int .i64 (a0.2.2.1.length : Int))] rfl ?_
  refine J.ret ?_
  obtain rfl := Option.some.inj H
  exact ⟨_, _, _, (results_slots rfl), ⟨rfl, rfl⟩, h1.only [0, 0, 0, 0, 0, 0, 0, 0] rfl⟩

def Q51.l0 : Nat → (Int × List (Int) × (Int × Int)) → ((List (Int × Int × Bool)) × Int) → (List (Int)) → (Int) → Option (Bool)
  | 0, _, _, _, _ => none
  | k + 1, r2, r5, x1, x2 => if (decide (x2 < 1)) = true then (if (x1.length + ([x2] : List (Int)).length) * 8 ≤ 140737488355328 then (Q51.l0 k r2 r5 (x1 ++ ([x2] : List (Int))) (w64 (x2 + 1))) else none) else ((Q6.f ((r2.1, r2.2.1, (r2.2.2.1, r2.2.2.2)), (List.replicate ((1 : Int).toNat) ((0, ([] : List (Int)), false, 0) : Int × List (Int) × Bool × Int)), ([] : List (Int × Int)), x1, (r5.1, r5.2)) 1).bind fun r6 => ((Q10.f ((r6.2.1.1, r6.2.1.2.1, (r6.2.1.2.2.1, r6.2.1.2.2.2)), r6.2.2.1, r6.2.2.2.1, r6.2.2.2.2.1, (r6.2.2.2.2.2.1, r6.2.2.2.2.2.2)) 1 ([7] : List (Int))).bind fun r7 => ((Q8.f ((r7.2.1.1, r7.2.1.2.1, (r7.2.1.2.2.1, r7.2.1.2.2.2)), r7.2.2.1, r7.2.2.2.1, r7.2.2.2.2.1, (r7.2.2.2.2.2.1, r7.2.2.2.2.2.2)) 1).bind fun r8 => ((Q6.f ((r8.2.1.1, r8.2.1.2.1, (r8.2.1.2.2.1, r8.2.1.2.2.2)), r8.2.2.1, r8.2.2.2.1, r8.2.2.2.2.1, (r8.2.2.2.2.2.1, r8.2.2.2.2.2.2)) 2).bind fun r9 => (if (decide (r6.1 = 0)) = true then (if (decide (r7.1 = 0)) = true then (if (decide (r8.1 = 0)) = true then (if (decide (r9.1 = 0)) = true then ((Q29.f (r9.2.1.1, r9.2.1.2.1, (r9.2.1.2.2.1, r9.2.1.2.2.2))).bind fun r10 => (if ((decide (r10.1 = 2)) && ((decide (r10.2 = 1)) && true)) = true then ((Q6.f ((r9.2.1.1, r9.2.1.2.1, (r9.2.1.2.2.1, r9.2.1.2.2.2)), r9.2.2.1, r9.2.2.2.1, r9.2.2.2.2.1, (r9.2.2.2.2.2.1, r9.2.2.2.2.2.2)) 3).bind fun r11 => (some (decide (r11.1 = 7)))) else (some false))) else (some false)) else (some false)) else (some false)) else (some false))))))
def Q51.f (k : Nat)  : Option (Bool) := (Q31.f 5 1).bind fun r1 => (ocase r1.1 (if (!decide (r1.2 = 0)) = true then (some false) else none) (fun r2 => (if (!decide (r1.2 = 0)) = false then ((Q26.f (r2.1, r2.2.1, (r2.2.2.1, r2.2.2.2))).bind fun r3 => (if (decide (r3 = 0)) = true then (some false) else ((Q23.f 1).bind fun r4 => (ocase r4.1 (if (!decide (r4.2 = 0)) = true then (some false) else none) (fun r5 => (if (!decide (r4.2 = 0)) = false then (if (1 : Int) * 48 ≤ 281474976710656 then (Q51.l0 k r2 r5 ([] : List (Int)) 0) else none) else none)))))) else none)))
theorem Q51.spec {k : Nat}   {r : Bool} (H : Q51.f k  = some r) :
    Spec Try.prog 52 [] [] [] (fun v l => v = .bool r ∧ l = []) := by
  refine Spec.enter Try.func52 rfl (by kernel_rfl) (by kernel_rfl) fun w0 F0 h0 => ?_
  unfold Q51.f at H
  refine J.seq (J.region ?_)
  refine RJ.run ttok 1 rfl ?_
  refine RJ.fin [] rfl ?_
  refine J.seq (J.region ?_)
  obtain ⟨r1, q1, H⟩ := bind_t H
  refine RJ.op rfl rfl (op_call [] (Q31.spec q1) rfl rfl rfl h0 rfl gnil) ?_
  rintro _ w1 ⟨_, ⟨v1, l1, ho1, rfl, rfl⟩, h1⟩
  rcases ho2 : r1.1 with _ | r2
  · rw [ho2] at ho1
    obtain ⟨rfl, rfl⟩ := ho1
    replace H := ocase_n ho2 H
    obtain ⟨c1, H⟩ := guard_t H
    replace h1 : St w0 F0 [] _ _ := h1
    refine RJ.run ttok 5 rfl ?_
    refine RJ.fin [(1, .pointer none), (2, .int .i64 r1.2)] rfl ?_
    refine J.seq (J.region ?_)
    refine RJ.run ttok 1 rfl ?_
    refine RJ.inline rfl rfl rfl rfl rfl Try.func49 rfl (by kernel_rfl) (by kernel_rfl) ?_
    refine J.seq (J.region ?_)
    refine RJ.run ttok 2 rfl ?_
    refine RJ.fin [(0, .pointer none), (1, .int .i64 1)] rfl ?_
    refine J.seq (J.block (J.seq (J.region ?_)))
    refine RJ.run ttok 1 rfl ?_
    refine RJ.inline rfl rfl rfl rfl rfl Try.func24 rfl (by kernel_rfl) (by kernel_rfl) ?_
    refine J.seq (J.region ?_)
    refine RJ.run ttok 1 rfl ?_
    refine RJ.fin [(0, _)] rfl ?_
    refine J.seq (J.seq (J.region ?_))
    refine RJ.run ttok 9 rfl ?_
    refine RJ.fin [(0, _), (11, .bool true)] rfl ?_
    refine J.condT rfl ?_
    refine J.seq (J.region ?_)
    refine RJ.run ttok 1 rfl ?_
    refine RJ.fin [(2, .int .i64 0)] rfl ?_
    refine J.ret ?_
    refine ⟨_, results_slots rfl, ?_⟩
    refine RJ.run ttok 2 rfl ?_
    refine RJ.fin [(0, .pointer none), (1, .int .i64 1), (10, .bool true)] rfl ?_
    refine J.condT rfl ?_
    refine J.seq (J.region ?_)
    refine RJ.run ttok 2 rfl ?_
    refine RJ.fin [(4, .pointer none), (5, .int .i64 1)] rfl ?_
    refine J.ret ?_
    refine ⟨_, results_slots rfl, ?_⟩
    refine RJ.run ttok 5 rfl ?_
    refine RJ.fin [(1, .pointer none), (2, .int .i64 r1.2), (3, .pointer none), (4, .int .i64 1)] rfl ?_
    refine J.seq (J.seq (J.region ?_))
    refine RJ.run ttok 3 rfl ?_
    refine RJ.know (t := 20) rfl (congrArg Value.bool c1) ?_
    refine RJ.run ttok 7 rfl ?_
    refine RJ.fin [(1, _), (3, _), (27, .bool true)] rfl ?_
    refine J.condT rfl ?_
    refine J.seq (J.region ?_)
    refine RJ.run ttok 1 rfl ?_
    refine RJ.fin [(0, .bool false)] rfl ?_
    refine J.ret ?_
    obtain rfl := Option.some.inj H
    exact ⟨_, _, _, (results_slots rfl), ⟨rfl, rfl⟩, h1.only [] rfl⟩
  rw [ho2] at ho1
  obtain ⟨b1, A1, c_1, rfl, rfl⟩ := ho1
  replace H := ocase_s ho2 H
  obtain ⟨c2, H⟩ := guard_t H
  replace h1 : St w0 F0 [boxC b1 51 [.int .i64 r2.1, .slice A1 r2.2.1.length c_1, .int .u64 r2.2.2.1, .int .u64 r2.2.2.2], ownC 5 (.int .u8) r2.2.1 (.slice A1 r2.2.1.length c_1)] _ _ := h1
  refine RJ.run ttok 5 rfl ?_
  refine RJ.fin [(1, .pointer (some ⟨b1, 0, none⟩)), (2, .int .i64 r1.2)] rfl ?_
  refine J.seq (J.region ?_)
  refine RJ.run ttok 1 rfl ?_
  refine RJ.inline rfl rfl rfl rfl rfl Try.func49 rfl (by kernel_rfl) (by kernel_rfl) ?_
  refine J.seq (J.region ?_)
  refine RJ.run ttok 2 rfl ?_
  refine RJ.fin [(0, .pointer (some ⟨b1, 0, none⟩)), (1, .int .i64 1)] rfl ?_
  refine J.seq (J.block (J.seq (J.region ?_)))
  refine RJ.run ttok 1 rfl ?_
  obtain ⟨r3, q2, H⟩ := bind_t H
  refine RJ.op rfl rfl (op_call [0, 0] (Q26.spec q2) rfl rfl rfl h1 rfl gnil) ?_
  rintro _ w2 ⟨_, ⟨rfl, rfl⟩, h2⟩
  replace h2 : St w0 F0 [_, _] _ _ := h2
  refine RJ.run ttok 2 rfl ?_
  refine RJ.fin [(0, _), (1, _), (10, .bool (decide (r3 = 0)))] rfl ?_
  refine J.cond rfl (fun c3 => ?_) (fun c3 => ?_)
  · replace H := ite_t c3 H
    refine J.seq (J.region ?_)
    refine RJ.run ttok 2 rfl ?_
    refine RJ.fin [(4, .pointer none), (5, .int .i64 1)] rfl ?_
    refine J.ret ?_
    refine ⟨_, results_slots rfl, ?_⟩
    refine RJ.run ttok 5 rfl ?_
    refine RJ.fin [(1, .pointer (some ⟨b1, 0, none⟩)), (2, .int .i64 r1.2), (3, .pointer none), (4, .int .i64 1)] rfl ?_
    refine J.seq (J.seq (J.region ?_))
    refine RJ.run ttok 3 rfl ?_
    refine RJ.know (t := 20) rfl (congrArg Value.bool c2) ?_
    refine RJ.run ttok 7 rfl ?_
    refine RJ.fin [(1, _), (3, _), (27, .bool true)] rfl ?_
    refine J.condT rfl ?_
    refine J.seq (J.region ?_)
    refine RJ.run ttok 1 rfl ?_
    refine RJ.fin [(0, .bool false)] rfl ?_
    have h3 := h2.only [] rfl
    replace h3 : St w0 F0 [] _ _ := h3
    refine J.ret ?_
    obtain rfl := Option.some.inj H
    exact ⟨_, _, _, (results_slots rfl), ⟨rfl, rfl⟩, h3.only [] rfl⟩
  replace H := ite_f c3 H
  refine J.seq (J.region ?_)
  refine RJ.run ttok 7 rfl ?_
  refine RJ.fin [(0, _), (1, _), (14, .bool false)] rfl ?_
  refine J.condF rfl ?_
  refine J.skip ?_
  refine J.seq (J.region ?_)
  refine RJ.run ttok 1 rfl ?_
  obtain ⟨r4, q3, H⟩ := bind_t H
  refine RJ.op rfl rfl (op_call [] (Q23.spec q3) rfl rfl rfl h2 rfl gnil) ?_
  rintro _ w3 ⟨_, ⟨v2, l2, ho3, rfl, rfl⟩, h4⟩
  rcases ho4 : r4.1 with _ | r5
  · rw [ho4] at ho3
    obtain ⟨rfl, rfl⟩ := ho3
    replace H := ocase_n ho4 H
    obtain ⟨c4, H⟩ := guard_t H
    replace h4 : St w0 F0 [_, _] _ _ := h4
    refine RJ.run ttok 5 rfl ?_
    refine RJ.fin [(0, _), (1, _), (6, .pointer none), (7, .int .i64 r4.2)] rfl ?_
    refine J.seq (J.seq (J.region ?_))
    refine RJ.run ttok 2 rfl ?_
    refine RJ.fin [(0, _), (1, _), (6, _), (7, _), (27, .bool (!decide (r4.2 = 0)))] rfl ?_
    refine J.cond rfl (fun e => ?_) (fun e => by rw [c4] at e; cases e)
    refine J.seq (J.region ?_)
    refine RJ.run ttok 3 rfl ?_
    refine RJ.fin [(4, .pointer none), (5, .int .i64 r4.2)] rfl ?_
    refine J.ret ?_
    refine ⟨_, results_slots rfl, ?_⟩
    refine RJ.run ttok 5 rfl ?_
    refine RJ.fin [(1, .pointer (some ⟨b1, 0, none⟩)), (2, .int .i64 r1.2), (3, .pointer none), (4, .int .i64 r4.2)] rfl ?_
    refine J.seq (J.seq (J.region ?_))
    refine RJ.run ttok 3 rfl ?_
    refine RJ.know (t := 20) rfl (congrArg Value.bool c2) ?_
    refine RJ.run ttok 4 rfl ?_
    refine RJ.know (t := 24) rfl (congrArg Value.bool c4) ?_
    refine RJ.run ttok 3 rfl ?_
    refine RJ.fin [(1, _), (3, _), (27, .bool true)] rfl ?_
    refine J.condT rfl ?_
    refine J.seq (J.region ?_)
    refine RJ.run ttok 1 rfl ?_
    refine RJ.fin [(0, .bool false)] rfl ?_
    have h5 := h4.only [] rfl
    replace h5 : St w0 F0 [] _ _ := h5
    refine J.ret ?_
    obtain rfl := Option.some.inj H
    exact ⟨_, _, _, (results_slots rfl), ⟨rfl, rfl⟩, h5.only [] rfl⟩
  rw [ho4] at ho3
  obtain ⟨b2, A2, c_2, rfl, rfl⟩ := ho3
  replace H := ocase_s ho4 H
  obtain ⟨c5, H⟩ := guard_t H
  replace h4 : St w0 F0 [boxC b2 203 [.slice A2 r5.1.length c_2, .int .i64 r5.2], ownC 205 (.pair (.int .i64) (.pair (.int .i64) .bool)) r5.1 (.slice A2 r5.1.length c_2), _, _] _ _ := h4
  refine RJ.run ttok 5 rfl ?_
  refine RJ.fin [(0, _), (1, _), (6, .pointer (some ⟨b2, 0, none⟩)), (7, .int .i64 r4.2)] rfl ?_
  refine J.seq (J.seq (J.region ?_))
  refine RJ.run ttok 2 rfl ?_
  refine RJ.fin [(0, _), (1, _), (6, _), (7, _), (27, .bool (!decide (r4.2 = 0)))] rfl ?_
  refine J.cond rfl (fun e => by rw [c5] at e; cases e) (fun e => ?_)
  refine J.skip ?_
  refine J.seq (J.region ?_)
  refine RJ.run ttok 2 rfl ?_
  obtain ⟨p1, H⟩ := guard_t H
  refine RJ.op rfl rfl (op_make_deep ttok (ty := (.pair (.int .u32) (.pair (.slice 5 (.int .u8)) (.pair .bool (.int .i64))))) ((0, ([] : List (Int)), false, 0) : Int × List (Int) × Bool × Int) rfl rfl rfl rfl rfl rfl (fun _ _ => fr_ok ⟨none, 0, rfl, Nat.le_refl _, .inl rfl⟩) (by decide) h4 (by decide) p1) ?_
  rintro _ w4 ⟨b3, rfl, h6⟩
  replace h6 : St w0 F0 [ownC 162 (.pair (.int .u32) (.pair (.slice 5 (.int .u8)) (.pair .bool (.int .i64)))) (List.replicate ((1 : Int).toNat) ((0, ([] : List (Int)), false, 0) : Int × List (Int) × Bool × Int)) (.slice (some ⟨b3, 0, none⟩) (List.replicate ((1 : Int).toNat) ((0, ([] : List (Int)), false, 0) : Int × List (Int) × Bool × Int)).length ((1 : Int).toNat)), _, _, _, _] _ _ := h6
  refine RJ.op rfl rfl (op_makemap .u32 (Value.int .i64) rfl h6) ?_
  rintro _ w5 ⟨b4, rfl, h7⟩
  replace h7 : St w0 F0 [mapC .u32 (Value.int .i64) b4 ([] : List (Int × Int)), _, _, _, _, _] _ _ := h7
  refine RJ.run ttok 2 rfl ?_
  refine RJ.op rfl rfl (op_box rfl rfl h7) ?_
  rintro _ w6 ⟨b5, rfl, h8⟩
  replace h8 : St w0 F0 [boxC b5 113 [.pointer (some ⟨b1, 0, none⟩), .slice (some ⟨b3, 0, none⟩) (List.replicate ((1 : Int).toNat) ((0, ([] : List (Int)), false, 0) : Int × List (Int) × Bool × Int)).length ((1 : Int).toNat), .map (some b4), .slice none ([] : List (Int)).length 0, .pointer (some ⟨b2, 0, none⟩)], _, _, _, _, _, _] _ _ := h8
  refine RJ.run ttok 1 rfl ?_
  refine RJ.fin [(1, _), (8, .pointer (some ⟨b5, 0, none⟩))] rfl ?_
  refine J.seq (J.seq (J.region ?_))
  refine RJ.run ttok 2 rfl ?_
  refine RJ.fin [(8, _), (36, .int .i64 1), (37, .int .i64 0)] rfl ?_
  refine J.block ?_
  have h14 := h8.addNil 3 (.int .i64)
  have h15 := ((h14.only [1, 5, 1, 2, 3, 1, 0, 0] rfl).rds [] rfl)
  refine J.loop (fun kk env w => ∃ (x1 : List (Int)) (A3 : Option Addr) (c_3 : Nat) (x2 : Int), env = [(8, .pointer (some ⟨b5, 0, none⟩)), (36, .int .i64 1), (37, .int .i64 x2)] ∧ St w0 F0 [boxC b5 113 [.pointer (some ⟨b1, 0, none⟩), .slice (some ⟨b3, 0, none⟩) (List.replicate ((1 : Int).toNat) ((0, ([] : List (Int)), false, 0) : Int × List (Int) × Bool × Int)).length ((1 : Int).toNat), .map (some b4), .slice A3 x1.length c_3, .pointer (some ⟨b2, 0, none⟩)], boxC b1 51 [.int .i64 r2.1, .slice A1 r2.2.1.length c_1, .int .u64 r2.2.2.1, .int .u64 r2.2.2.2], mapC .u32 (Value.int .i64) b4 ([] : List (Int × Int)), boxC b2 203 [.slice A2 r5.1.length c_2, .int .i64 r5.2], ownC 5 (.int .u8) r2.2.1 (.slice A1 r2.2.1.length c_1), ownC 162 (.pair (.int .u32) (.pair (.slice 5 (.int .u8)) (.pair .bool (.int .i64)))) (List.replicate ((1 : Int).toNat) ((0, ([] : List (Int)), false, 0) : Int × List (Int) × Bool × Int)) (.slice (some ⟨b3, 0, none⟩) (List.replicate ((1 : Int).toNat) ((0, ([] : List (Int)), false, 0) : Int × List (Int) × Bool × Int)).length ((1 : Int).toNat)), ownC 3 (.int .i64) x1 (.slice A3 x1.length c_3), ownC 205 (.pair (.int .i64) (.pair (.int .i64) .bool)) r5.1 (.slice A2 r5.1.length c_2)] [] w ∧ Q51.l0 kk r2 r5 x1 x2 = some r) (k := k) ⟨([] : List (Int)), none, 0, 0, rfl, h15, H⟩ ?_
  rintro k1 env w7 ⟨x1, A3, c_3, x2, rfl, h9, H⟩
  cases k1 with
  | zero => exact nomatch (show none = some r from H)
  | succ k1 =>
    rw [Q51.l0] at H
    refine J.seq (J.region ?_)
    refine RJ.run ttok 1 rfl ?_
    refine RJ.fin [(8, _), (36, _), (37, _), (38, .bool (decide (x2 < 1)))] rfl ?_
    refine J.seq ?_
    refine J.cond rfl (fun c6 => ?_) (fun c6 => ?_)
    · replace H := ite_t c6 H
      refine J.skip ?_
      refine J.seq (J.block (J.seq (J.region ?_)))
      refine RJ.run ttok 2 rfl ?_
      refine RJ.fin [(8, _), (9, .int .i64 x2), (36, _), (37, _)] rfl ?_
      refine J.region ?_
      refine RJ.run ttok 4 rfl ?_
      refine RJ.q rfl rfl (q_load_box ttok 0 h9.wht rfl rfl rfl rfl rfl) ?_
      refine RJ.run ttok 1 rfl ?_
      refine RJ.op rfl rfl (op_lit ttok (.int .i64) rfl ([x2] : List (Int)) rfl h9 rfl rfl (by decide) rfl rfl rfl rfl rfl rfl rfl) ?_
      rintro _ w8 ⟨b6, rfl, h10⟩
      replace h10 : St w0 F0 [ownC 3 (.int .i64) ([x2] : List (Int)) (.slice (some ⟨b6, 0, none⟩) ([x2] : List (Int)).length 1), _, _, _, _, _, _, _, _] _ _ := h10
      obtain ⟨p2, H⟩ := guard_t H
      refine RJ.op rfl rfl (op_append ttok rfl 7 rfl h10 rfl (Gives.of 0 rfl own_rd) rfl rfl rfl rfl rfl rfl (by decide) (by decide) p2) ?_
      rintro _ w9 ⟨A4, c_4, rfl, h11⟩
      replace h11 : St w0 F0 [ownC 3 (.int .i64) (x1 ++ ([x2] : List (Int))) (.slice A4 (x1 ++ ([x2] : List (Int))).length c_4), _, _, _, _, _, _, _, _] _ _ := h11
      refine RJ.run ttok 2 rfl ?_
      refine RJ.op rfl rfl (op_store ttok 2 rfl h11 rfl rfl rfl rfl rfl rfl rfl) ?_
      intro _ w10 h12
      replace h12 : St w0 F0 [boxC b5 113 [.pointer (some ⟨b1, 0, none⟩), .slice (some ⟨b3, 0, none⟩) (List.replicate ((1 : Int).toNat) ((0, ([] : List (Int)), false, 0) : Int × List (Int) × Bool × Int)).length ((1 : Int).toNat), .map (some b4), .slice A4 (x1 ++ ([x2] : List (Int))).length c_4, .pointer (some ⟨b2, 0, none⟩)], _, _, _, _, _, _, _, _] _ _ := h12
      refine RJ.fin [(8, _), (36, _), (37, _)] rfl ?_
      refine J.region ?_
      refine RJ.run ttok 2 rfl ?_
      refine RJ.fin [(8, _), (36, _), (37, .int .i64 (w64 (x2 + 1)))] rfl ?_
      have h13 := ((h12.only [0, 2, 2, 2, 2, 2, 0, 1] rfl).rds [] rfl)
      exact ⟨k1, by omega, (x1 ++ ([x2] : List (Int))), A4, c_4, (w64 (x2 + 1)), rfl, h13, H⟩
    replace H := ite_f c6 H
    refine J.exit ?_
    refine J.seq (J.region ?_)
    refine RJ.run ttok 3 rfl ?_
    refine RJ.fin [(4, .pointer (some ⟨b5, 0, none⟩)), (5, .int .i64 0)] rfl ?_
    refine J.ret ?_
    refine ⟨_, results_slots rfl, ?_⟩
    refine RJ.run ttok 5 rfl ?_
    refine RJ.fin [(1, .pointer (some ⟨b1, 0, none⟩)), (2, .int .i64 r1.2), (3, .pointer (some ⟨b5, 0, none⟩)), (4, .int .i64 0)] rfl ?_
    refine J.seq (J.seq (J.region ?_))
    refine RJ.run ttok 3 rfl ?_
    refine RJ.know (t := 20) rfl (congrArg Value.bool c2) ?_
    refine RJ.run ttok 7 rfl ?_
    refine RJ.fin [(1, _), (3, _), (27, .bool false)] rfl ?_
    refine J.condF rfl ?_
    refine J.skip ?_
    refine J.seq (J.region ?_)
    refine RJ.run ttok 1 rfl ?_
    obtain ⟨r6, q4, H⟩ := bind_t H
    refine RJ.op rfl rfl (op_call [0, 0, 2, 2, 0, 1, 0, 0] (Q6.spec q4) rfl rfl rfl h9 rfl gnil) ?_
    rintro _ w7 ⟨_, ⟨A3, c_3, A4, c_4, A5, c_5, A6, c_6, rfl, rfl⟩, h9⟩
    replace h9 : St w0 F0 [boxC b5 113 [.pointer (some ⟨b1, 0, none⟩), .slice A4 r6.2.2.1.length c_4, .map (some b4), .slice A5 r6.2.2.2.2.1.length c_5, .pointer (some ⟨b2, 0, none⟩)], boxC b1 51 [.int .i64 r6.2.1.1, .slice A3 r6.2.1.2.1.length c_3, .int .u64 r6.2.1.2.2.1, .int .u64 r6.2.1.2.2.2], ownC 5 (.int .u8) r6.2.1.2.1 (.slice A3 r6.2.1.2.1.length c_3), ownC 162 (.pair (.int .u32) (.pair (.slice 5 (.int .u8)) (.pair .bool (.int .i64)))) r6.2.2.1 (.slice A4 r6.2.2.1.length c_4), mapC .u32 (Value.int .i64) b4 r6.2.2.2.1, ownC 3 (.int .i64) r6.2.2.2.2.1 (.slice A5 r6.2.2.2.2.1.length c_5), boxC b2 203 [.slice A6 r6.2.2.2.2.2.1.length c_6, .int .i64 r6.2.2.2.2.2.2], ownC 205 (.pair (.int .i64) (.pair (.int .i64) .bool)) r6.2.2.2.2.2.1 (.slice A6 r6.2.2.2.2.2.1.length c_6)] _ _ := h9
    refine RJ.run ttok 1 rfl ?_
    refine RJ.op rfl rfl (op_lit ttok (.int .u8) rfl ([7] : List (Int)) rfl h9 rfl rfl (by decide) rfl rfl rfl rfl rfl rfl rfl) ?_
    rintro _ w8 ⟨b6, rfl, h10⟩
    replace h10 : St w0 F0 [ownC 5 (.int .u8) ([7] : List (Int)) (.slice (some ⟨b6, 0, none⟩) ([7] : List (Int)).length 1), _, _, _, _, _, _, _, _] _ _ := h10
    obtain ⟨r7, q5, H⟩ := bind_t H
    refine RJ.op rfl rfl (op_call [1, 1, 1, 1, 1, 1, 1, 1] (Q10.spec q5) rfl rfl rfl h10 rfl (gcons (Gives.of 0 rfl own_rd) gnil)) ?_
    rintro _ w9 ⟨_, ⟨A7, c_7, A8, c_8, A9, c_9, A10, c_10, rfl, rfl⟩, h11⟩
    replace h11 : St w0 F0 [boxC b5 113 [.pointer (some ⟨b1, 0, none⟩), .slice A8 r7.2.2.1.length c_8, .map (some b4), .slice A9 r7.2.2.2.2.1.length c_9, .pointer (some ⟨b2, 0, none⟩)], boxC b1 51 [.int .i64 r7.2.1.1, .slice A7 r7.2.1.2.1.length c_7, .int .u64 r7.2.1.2.2.1, .int .u64 r7.2.1.2.2.2], ownC 5 (.int .u8) r7.2.1.2.1 (.slice A7 r7.2.1.2.1.length c_7), ownC 162 (.pair (.int .u32) (.pair (.slice 5 (.int .u8)) (.pair .bool (.int .i64)))) r7.2.2.1 (.slice A8 r7.2.2.1.length c_8), mapC .u32 (Value.int .i64) b4 r7.2.2.2.1, ownC 3 (.int .i64) r7.2.2.2.2.1 (.slice A9 r7.2.2.2.2.1.length c_9), boxC b2 203 [.slice A10 r7.2.2.2.2.2.1.length c_10, .int .i64 r7.2.2.2.2.2.2], ownC 205 (.pair (.int .i64) (.pair (.int .i64) .bool)) r7.2.2.2.2.2.1 (.slice A10 r7.2.2.2.2.2.1.length c_10), _] _ _ := h11
    refine RJ.run ttok 1 rfl ?_
    obtain ⟨r8, q6, H⟩ := bind_t H
    refine RJ.op rfl rfl (op_call [0, 0, 0, 0, 0, 0, 0, 0] (Q8.spec q6) rfl rfl rfl h11 rfl gnil) ?_
    rintro _ w10 ⟨_, ⟨A11, c_11, A12, c_12, A13, c_13, A14, c_14, rfl, rfl⟩, h12⟩
    replace h12 : St w0 F0 [boxC b5 113 [.pointer (some ⟨b1, 0, none⟩), .slice A12 r8.2.2.1.length c_12, .map (some b4), .slice A13 r8.2.2.2.2.1.length c_13, .pointer (some ⟨b2, 0, none⟩)], boxC b1 51 [.int .i64 r8.2.1.1, .slice A11 r8.2.1.2.1.length c_11, .int .u64 r8.2.1.2.2.1, .int .u64 r8.2.1.2.2.2], ownC 5 (.int .u8) r8.2.1.2.1 (.slice A11 r8.2.1.2.1.length c_11), ownC 162 (.pair (.int .u32) (.pair (.slice 5 (.int .u8)) (.pair .bool (.int .i64)))) r8.2.2.1 (.slice A12 r8.2.2.1.length c_12), mapC .u32 (Value.int .i64) b4 r8.2.2.2.1, ownC 3 (.int .i64) r8.2.2.2.2.1 (.slice A13 r8.2.2.2.2.1.length c_13), boxC b2 203 [.slice A14 r8.2.2.2.2.2.1.length c_14, .int .i64 r8.2.2.2.2.2.2], ownC 205 (.pair (.int .i64) (.pair (.int .i64) .bool)) r8.2.2.2.2.2.1 (.slice A14 r8.2.2.2.2.2.1.length c_14), _] _ _ := h12
    refine RJ.run ttok 1 rfl ?_
    obtain ⟨r9, q7, H⟩ := bind_t H
    refine RJ.op rfl rfl (op_call [0, 0, 0, 0, 0, 0, 0, 0] (Q6.spec q7) rfl rfl rfl h12 rfl gnil) ?_
    rintro _ w11 ⟨_, ⟨A15, c_15, A16, c_16, A17, c_17, A18, c_18, rfl, rfl⟩, h13⟩
    replace h13 : St w0 F0 [boxC b5 113 [.pointer (some ⟨b1, 0, none⟩), .slice A16 r9.2.2.1.length c_16, .map (some b4), .slice A17 r9.2.2.2.2.1.length c_17, .pointer (some ⟨b2, 0, none⟩)], boxC b1 51 [.int .i64 r9.2.1.1, .slice A15 r9.2.1.2.1.length c_15, .int .u64 r9.2.1.2.2.1, .int .u64 r9.2.1.2.2.2], ownC 5 (.int .u8) r9.2.1.2.1 (.slice A15 r9.2.1.2.1.length c_15), ownC 162 (.pair (.int .u32) (.pair (.slice 5 (.int .u8)) (.pair .bool (.int .i64)))) r9.2.2.1 (.slice A16 r9.2.2.1.length c_16), mapC .u32 (Value.int .i64) b4 r9.2.2.2.1, ownC 3 (.int .i64) r9.2.2.2.2.1 (.slice A17 r9.2.2.2.2.1.length c_17), boxC b2 203 [.slice A18 r9.2.2.2.2.2.1.length c_18, .int .i64 r9.2.2.2.2.2.2], ownC 205 (.pair (.int .i64) (.pair (.int .i64) .bool)) r9.2.2.2.2.2.1 (.slice A18 r9.2.2.2.2.2.1.length c_18), _] _ _ := h13
    refine RJ.run ttok 4 rfl ?_
    refine RJ.fin [(1, _), (3, _), (5, .int .i64 r6.1), (6, .int .i64 r7.1), (7, .int .i64 r8.1), (8, .int .i64 r9.1)] rfl ?_
    refine J.seq (J.region ?_)
    refine RJ.run ttok 3 rfl ?_
    rcases Bool.eq_false_or_eq_true (decide (r6.1 = 0)) with c6 | c6
    · replace H := ite_t c6 H
      refine RJ.know (t := 39) rfl (congrArg Value.bool c6) ?_
      refine RJ.run ttok 4 rfl ?_
      rcases Bool.eq_false_or_eq_true (decide (r7.1 = 0)) with c7 | c7
      · replace H := ite_t c7 H
        refine RJ.know (t := 43) rfl (congrArg Value.bool c7) ?_
        refine RJ.run ttok 4 rfl ?_
        rcases Bool.eq_false_or_eq_true (decide (r8.1 = 0)) with c8 | c8
        · replace H := ite_t c8 H
          refine RJ.know (t := 47) rfl (congrArg Value.bool c8) ?_
          refine RJ.run ttok 4 rfl ?_
          rcases Bool.eq_false_or_eq_true (decide (r9.1 = 0)) with c9 | c9
          · replace H := ite_t c9 H
            refine RJ.know (t := 51) rfl (congrArg Value.bool c9) ?_
            refine RJ.run ttok 1 rfl ?_
            obtain ⟨r10, q8, H⟩ := bind_t H
            refine RJ.op rfl rfl (op_call [1, 1] (Q29.spec q8) rfl rfl rfl h13 rfl gnil) ?_
            rintro _ w12 ⟨_, ⟨rfl, rfl⟩, h14⟩
            replace h14 : St w0 F0 [_, _, _, _, _, _, _, _, _] _ _ := h14
            refine RJ.run ttok 4 rfl ?_
            rcases Bool.eq_false_or_eq_true ((decide (r10.1 = 2)) && ((decide (r10.2 = 1)) && true)) with c10 | c10
            · replace H := ite_t c10 H
              refine RJ.know (t := 57) rfl (congrArg Value.bool c10) ?_
              refine RJ.run ttok 1 rfl ?_
              obtain ⟨r11, q9, H⟩ := bind_t H
              refine RJ.op rfl rfl (op_call [2, 0, 0, 0, 0, 0, 0, 0] (Q6.spec q9) rfl rfl rfl h14 rfl gnil) ?_
              rintro _ w13 ⟨_, ⟨A19, c_19, A20, c_20, A21, c_21, A22, c_22, rfl, rfl⟩, h15⟩
              replace h15 : St w0 F0 [boxC b5 113 [.pointer (some ⟨b1, 0, none⟩), .slice A20 r11.2.2.1.length c_20, .map (some b4), .slice A21 r11.2.2.2.2.1.length c_21, .pointer (some ⟨b2, 0, none⟩)], boxC b1 51 [.int .i64 r11.2.1.1, .slice A19 r11.2.1.2.1.length c_19, .int .u64 r11.2.1.2.2.1, .int .u64 r11.2.1.2.2.2], ownC 5 (.int .u8) r11.2.1.2.1 (.slice A19 r11.2.1.2.1.length c_19), ownC 162 (.pair (.int .u32) (.pair (.slice 5 (.int .u8)) (.pair .bool (.int .i64)))) r11.2.2.1 (.slice A20 r11.2.2.1.length c_20), mapC .u32 (Value.int .i64) b4 r11.2.2.2.1, ownC 3 (.int .i64) r11.2.2.2.2.1 (.slice A21 r11.2.2.2.2.1.length c_21), boxC b2 203 [.slice A22 r11.2.2.2.2.2.1.length c_22, .int .i64 r11.2.2.2.2.2.2], ownC 205 (.pair (.int .i64) (.pair (.int .i64) .bool)) r11.2.2.2.2.2.1 (.slice A22 r11.2.2.2.2.2.1.length c_22), _] _ _ := h15
              refine RJ.run ttok 3 rfl ?_
              refine RJ.fin [(0, .bool (decide (r11.1 = 7)))] rfl ?_
              have h16 := h15.only [] rfl
              replace h16 : St w0 F0 [] _ _ := h16
              refine J.ret ?_
              obtain rfl := Option.some.inj H
              exact ⟨_, _, _, (results_slots rfl), ⟨rfl, rfl⟩, h16.only [] rfl⟩
            replace H := ite_f c10 H
            refine RJ.know (t := 57) rfl (congrArg Value.bool c10) ?_
            refine RJ.run ttok 5 rfl ?_
            refine RJ.fin [(0, .bool false)] rfl ?_
            have h17 := h14.only [] rfl
            replace h17 : St w0 F0 [] _ _ := h17
            refine J.ret ?_
            obtain rfl := Option.some.inj H
            exact ⟨_, _, _, (results_slots rfl), ⟨rfl, rfl⟩, h17.only [] rfl⟩
          replace H := ite_f c9 H
          refine RJ.know (t := 51) rfl (congrArg Value.bool c9) ?_
          refine RJ.run ttok 11 rfl ?_
          refine RJ.fin [(0, .bool false)] rfl ?_
          have h18 := h13.only [] rfl
          replace h18 : St w0 F0 [] _ _ := h18
          refine J.ret ?_
          obtain rfl := Option.some.inj H
          exact ⟨_, _, _, (results_slots rfl), ⟨rfl, rfl⟩, h18.only [] rfl⟩
        replace H := ite_f c8 H
        refine RJ.know (t := 47) rfl (congrArg Value.bool c8) ?_
        refine RJ.run ttok 15 rfl ?_
        refine RJ.fin [(0, .bool false)] rfl ?_
        have h19 := h13.only [] rfl
        replace h19 : St w0 F0 [] _ _ := h19
        refine J.ret ?_
        obtain rfl := Option.some.inj H
        exact ⟨_, _, _, (results_slots rfl), ⟨rfl, rfl⟩, h19.only [] rfl⟩
      replace H := ite_f c7 H
      refine RJ.know (t := 43) rfl (congrArg Value.bool c7) ?_
      refine RJ.run ttok 19 rfl ?_
      refine RJ.fin [(0, .bool false)] rfl ?_
      have h20 := h13.only [] rfl
      replace h20 : St w0 F0 [] _ _ := h20
      refine J.ret ?_
      obtain rfl := Option.some.inj H
      exact ⟨_, _, _, (results_slots rfl), ⟨rfl, rfl⟩, h20.only [] rfl⟩
    replace H := ite_f c6 H
    refine RJ.know (t := 39) rfl (congrArg Value.bool c6) ?_
    refine RJ.run ttok 23 rfl ?_
    refine RJ.fin [(0, .bool false)] rfl ?_
    have h21 := h13.only [] rfl
    replace h21 : St w0 F0 [] _ _ := h21
    refine J.ret ?_
    obtain rfl := Option.some.inj H
    exact ⟨_, _, _, (results_slots rfl), ⟨rfl, rfl⟩, h21.only [] rfl⟩

def Q50.l1 : Nat → (Int) → (List (Int × Int × List (Int))) → (Int) → (List (Int)) → (Int) → (Int) → (List (Int × List (Int) × Bool × Int)) → (List (Int × Int)) → (List (Int)) → (List (Int × Int × Bool)) → (Int) → (Int) → Option (Bool)
  | 0, _, _, _, _, _, _, _, _, _, _, _, _ => none
  | k + 1, a0, a1, x11, x12, x13, x14, x15, x16, x17, x18, x19, x20 => if (decide (x20 < (a1.length : Int))) = true then (if (decide (x20 < 80)) = true then ((Q29.f (x11, x12, (x13, x14))).bind fun r16 => (if 0 ≤ x20 ∧ x20 < (a1.length : Int) then ((Q52.f k ((x11, x12, (x13, x14)), x15, x16, x17, (x18, x19)) ((gt a1 x20).1, (gt a1 x20).2.1, (gt a1 x20).2.2)).bind fun r17 => ((Q29.f (r17.2.1.1, r17.2.1.2.1, (r17.2.1.2.2.1, r17.2.1.2.2.2))).bind fun r18 => (if (decide (((gt a1 x20).1) = 0)) = true then (if (decide ((w64 ((IntKind.u64.wrap (r18.1 - r16.1)))) ≤ 1)) = true then (if (!(decide ((w64 ((IntKind.u64.wrap (r18.2 - r16.2)))) ≤ 1))) = true then (some false) else ((Q9.f ((r17.2.1.1, r17.2.1.2.1, (r17.2.1.2.2.1, r17.2.1.2.2.2)), r17.2.2.1, r17.2.2.2.1, r17.2.2.2.2.1, (r17.2.2.2.2.2.1, r17.2.2.2.2.2.2))).bind fun r19 => (if (decide ((w64 (1 + (Int.tmod (w64 (a0)) 12))) < r19)) = true then (some false) else (Q50.l1 k a0 a1 r17.2.1.1 r17.2.1.2.1 r17.2.1.2.2.1 r17.2.1.2.2.2 r17.2.2.1 r17.2.2.2.1 r17.2.2.2.2.1 r17.2.2.2.2.2.1 r17.2.2.2.2.2.2 (w64 (x20 + 1)))))) else (some false)) else (if (decide (((gt a1 x20).1) = 1)) = true then (if (decide ((w64 ((IntKind.u64.wrap (r18.1 - r16.1)))) ≤ 1)) = true then (if (!(decide ((w64 ((IntKind.u64.wrap (r18.2 - r16.2)))) ≤ 1))) = true then (some false) else ((Q9.f ((r17.2.1.1, r17.2.1.2.1, (r17.2.1.2.2.1, r17.2.1.2.2.2)), r17.2.2.1, r17.2.2.2.1, r17.2.2.2.2.1, (r17.2.2.2.2.2.1, r17.2.2.2.2.2.2))).bind fun r20 => (if (decide ((w64 (1 + (Int.tmod (w64 (a0)) 12))) < r20)) = true then (some false) else (Q50.l1 k a0 a1 r17.2.1.1 r17.2.1.2.1 r17.2.1.2.2.1 r17.2.1.2.2.2 r17.2.2.1 r17.2.2.2.1 r17.2.2.2.2.1 r17.2.2.2.2.2.1 r17.2.2.2.2.2.2 (w64 (x20 + 1)))))) else (some false)) else (if (decide (((gt a1 x20).1) = 2)) = true then (if (decide ((w64 ((IntKind.u64.wrap (r18.1 - r16.1)))) = 0)) = true then (if (!(decide ((w64 ((IntKind.u64.wrap (r18.2 - r16.2)))) ≤ 1))) = true then (some false) else ((Q9.f ((r17.2.1.1, r17.2.1.2.1, (r17.2.1.2.2.1, r17.2.1.2.2.2)), r17.2.2.1, r17.2.2.2.1, r17.2.2.2.2.1, (r17.2.2.2.2.2.1, r17.2.2.2.2.2.2))).bind fun r21 => (if (decide ((w64 (1 + (Int.tmod (w64 (a0)) 12))) < r21)) = true then (some false) else (Q50.l1 k a0 a1 r17.2.1.1 r17.2.1.2.1 r17.2.1.2.2.1 r17.2.1.2.2.2 r17.2.2.1 r17.2.2.2.1 r17.2.2.2.2.1 r17.2.2.2.2.2.1 r17.2.2.2.2.2.2 (w64 (x20 + 1)))))) else (some false)) else (if (decide (((gt a1 x20).1) = 8)) = true then (if (decide ((w64 ((IntKind.u64.wrap (r18.1 - r16.1)))) = 0)) = true then (if (!(decide ((w64 ((IntKind.u64.wrap (r18.2 - r16.2)))) ≤ (w64 (1 + (Int.tmod (w64 (a0)) 12)))))) = true then (some false) else ((Q9.f ((r17.2.1.1, r17.2.1.2.1, (r17.2.1.2.2.1, r17.2.1.2.2.2)), r17.2.2.1, r17.2.2.2.1, r17.2.2.2.2.1, (r17.2.2.2.2.2.1, r17.2.2.2.2.2.2))).bind fun r22 => (if (decide ((w64 (1 + (Int.tmod (w64 (a0)) 12))) < r22)) = true then (some false) else (Q50.l1 k a0 a1 r17.2.1.1 r17.2.1.2.1 r17.2.1.2.2.1 r17.2.1.2.2.2 r17.2.2.1 r17.2.2.2.1 r17.2.2.2.2.1 r17.2.2.2.2.2.1 r17.2.2.2.2.2.2 (w64 (x20 + 1)))))) else (some false)) else (if (!(decide ((w64 ((w64 ((IntKind.u64.wrap (r18.1 - r16.1)))) + (w64 ((IntKind.u64.wrap (r18.2 - r16.2)))))) = 0))) = true then (some false) else ((Q9.f ((r17.2.1.1, r17.2.1.2.1, (r17.2.1.2.2.1, r17.2.1.2.2.2)), r17.2.2.1, r17.2.2.2.1, r17.2.2.2.2.1, (r17.2.2.2.2.2.1, r17.2.2.2.2.2.2))).bind fun r23 => (if (decide ((w64 (1 + (Int.tmod (w64 (a0)) 12))) < r23)) = true then (some false) else (Q50.l1 k a0 a1 r17.2.1.1 r17.2.1.2.1 r17.2.1.2.2.1 r17.2.1.2.2.2 r17.2.2.1 r17.2.2.2.1 r17.2.2.2.2.1 r17.2.2.2.2.2.1 r17.2.2.2.2.2.2 (w64 (x20 + 1)))))))))))) else none)) else ((Q51.f k).bind fun r24 => (some r24))) else ((Q51.f k).bind fun r25 => (some r25))
def Q50.l0 : Nat → (Int) → (List (Int × Int × List (Int))) → (Int × List (Int) × (Int × Int)) → ((List (Int × Int × Bool)) × Int) → (List (Int)) → (Int) → Option (Bool)
  | 0, _, _, _, _, _, _ => none
  | k + 1, a0, a1, r2, r5, x1, x2 => if (decide (x2 < (w64 (1 + (Int.tmod (w64 (a0)) 12))))) = true then (if (x1.length + ([x2] : List (Int)).length) * 8 ≤ 140737488355328 then (Q50.l0 k a0 a1 r2 r5 (x1 ++ ([x2] : List (Int))) (w64 (x2 + 1))) else none) else (Q50.l1 k a0 a1 r2.1 r2.2.1 r2.2.2.1 r2.2.2.2 (List.replicate ((w64 (1 + (Int.tmod (w64 (a0)) 12))).toNat) ((0, ([] : List (Int)), false, 0) : Int × List (Int) × Bool × Int)) ([] : List (Int × Int)) x1 r5.1 r5.2 0)
def Q50.f (k : Nat) (a0 : Int) (a1 : List (Int × Int × List (Int))) : Option (Bool) := (Q31.f 9 2).bind fun r1 => (ocase r1.1 (if (!decide (r1.2 = 0)) = true then (some false) else none) (fun r2 => (if (!decide (r1.2 = 0)) = false then ((Q26.f (r2.1, r2.2.1, (r2.2.2.1, r2.2.2.2))).bind fun r3 => (if (decide (r3 = 0)) = true then (some false) else (if (decide ((w64 (1 + (Int.tmod (w64 (a0)) 12))) < 1)) = true then (some false) else (if (decide (64 < (w64 (1 + (Int.tmod (w64 (a0)) 12))))) = true then (some false) else ((Q23.f (w64 (1 + (Int.tmod (w64 (a0)) 12)))).bind fun r4 => (ocase r4.1 (if (!decide (r4.2 = 0)) = true then (some false) else none) (fun r5 => (if (!decide (r4.2 = 0)) = false then (if 0 ≤ (w64 (1 + (Int.tmod (w64 (a0)) 12))) ∧ (w64 (1 + (Int.tmod (w64 (a0)) 12))) * 48 ≤ 281474976710656 then (Q50.l0 k a0 a1 r2 r5 ([] : List (Int)) 0) else none) else none)))))))) else none)))
theorem Q50.spec {k : Nat} {a0 : Int} {a1 : List (Int × Int × List (Int))} {A1 : Option Addr} {c_1 : Nat} {r : Bool} (H : Q50.f k a0 a1 = some r) :
    Spec Try.prog 11 [.int .u8 a0, .slice A1 a1.length c_1] [] [rdC 102 (.pair (.int .i64) (.pair (.int .u32) (.slice 5 (.int .u8)))) a1 (.slice A1 a1.length c_1)] (fun v l => v = .bool r ∧ l = []) := by
  refine Spec.enter Try.func11 rfl (by kernel_rfl) (by kernel_rfl) fun w0 F0 h0 => ?_
  unfold Q50.f at H
  refine J.seq (J.region ?_)
  refine RJ.run ttok 1 rfl ?_
  refine RJ.fin [(0, .int .u8 a0), (1, .slice A1 a1.length c_1)] rfl ?_
  refine J.seq (J.region ?_)
  refine RJ.run ttok 5 rfl ?_
  refine RJ.fin [(1, _), (5, .int .i64 (w64 (1 + (Int.tmod (w64 (a0)) 12))))] rfl ?_
  refine J.seq (J.region ?_)
  obtain ⟨r1, q1, H⟩ := bind_t H
  refine RJ.op rfl rfl (op_call [] (Q31.spec q1) rfl rfl rfl h0 rfl gnil) ?_
  rintro _ w1 ⟨_, ⟨v1, l1, ho1, rfl, rfl⟩, h1⟩
  rcases ho2 : r1.1 with _ | r2
  · rw [ho2] at ho1
    obtain ⟨rfl, rfl⟩ := ho1
    replace H := ocase_n ho2 H
    obtain ⟨c1, H⟩ := guard_t H
    replace h1 : St w0 F0 [] _ _ := h1
    refine RJ.run ttok 5 rfl ?_
    refine RJ.fin [(1, _), (5, _), (6, .pointer none), (7, .int .i64 r1.2)] rfl ?_
    refine J.seq (J.region ?_)
    refine RJ.run ttok 2 rfl ?_
    refine RJ.inline rfl rfl rfl rfl rfl Try.func49 rfl (by kernel_rfl) (by kernel_rfl) ?_
    refine J.seq (J.region ?_)
    refine RJ.run ttok 2 rfl ?_
    refine RJ.fin [(0, .pointer none), (1, .int .i64 (w64 (1 + (Int.tmod (w64 (a0)) 12))))] rfl ?_
    refine J.seq (J.block (J.seq (J.region ?_)))
    refine RJ.run ttok 1 rfl ?_
    refine RJ.inline rfl rfl rfl rfl rfl Try.func24 rfl (by kernel_rfl) (by kernel_rfl) ?_
    refine J.seq (J.region ?_)
    refine RJ.run ttok 1 rfl ?_
    refine RJ.fin [(0, _)] rfl ?_
    refine J.seq (J.seq (J.region ?_))
    refine RJ.run ttok 9 rfl ?_
    refine RJ.fin [(0, _), (11, .bool true)] rfl ?_
    refine J.condT rfl ?_
    refine J.seq (J.region ?_)
    refine RJ.run ttok 1 rfl ?_
    refine RJ.fin [(2, .int .i64 0)] rfl ?_
    refine J.ret ?_
    refine ⟨_, results_slots rfl, ?_⟩
    refine RJ.run ttok 2 rfl ?_
    refine RJ.fin [(0, .pointer none), (1, .int .i64 (w64 (1 + (Int.tmod (w64 (a0)) 12)))), (10, .bool true)] rfl ?_
    refine J.condT rfl ?_
    refine J.seq (J.region ?_)
    refine RJ.run ttok 2 rfl ?_
    refine RJ.fin [(4, .pointer none), (5, .int .i64 1)] rfl ?_
    refine J.ret ?_
    refine ⟨_, results_slots rfl, ?_⟩
    refine RJ.run ttok 5 rfl ?_
    refine RJ.fin [(1, .slice A1 a1.length c_1), (5, .int .i64 (w64 (1 + (Int.tmod (w64 (a0)) 12)))), (6, .pointer none), (7, .int .i64 r1.2), (8, .pointer none), (9, .int .i64 1)] rfl ?_
    refine J.seq (J.seq (J.region ?_))
    refine RJ.run ttok 3 rfl ?_
    refine RJ.know (t := 32) rfl (congrArg Value.bool c1) ?_
    refine RJ.run ttok 7 rfl ?_
    refine RJ.fin [(1, _), (5, _), (6, _), (8, _), (39, .bool true)] rfl ?_
    refine J.condT rfl ?_
    refine J.seq (J.region ?_)
    refine RJ.run ttok 1 rfl ?_
    refine RJ.fin [(4, .bool false)] rfl ?_
    refine J.ret ?_
    obtain rfl := Option.some.inj H
    exact ⟨_, _, _, (results_slots rfl), ⟨rfl, rfl⟩, h1.only [] rfl⟩
  rw [ho2] at ho1
  obtain ⟨b1, A2, c_2, rfl, rfl⟩ := ho1
  replace H := ocase_s ho2 H
  obtain ⟨c2, H⟩ := guard_t H
  replace h1 : St w0 F0 [boxC b1 51 [.int .i64 r2.1, .slice A2 r2.2.1.length c_2, .int .u64 r2.2.2.1, .int .u64 r2.2.2.2], ownC 5 (.int .u8) r2.2.1 (.slice A2 r2.2.1.length c_2)] _ _ := h1
  refine RJ.run ttok 5 rfl ?_
  refine RJ.fin [(1, _), (5, _), (6, .pointer (some ⟨b1, 0, none⟩)), (7, .int .i64 r1.2)] rfl ?_
  refine J.seq (J.region ?_)
  refine RJ.run ttok 2 rfl ?_
  refine RJ.inline rfl rfl rfl rfl rfl Try.func49 rfl (by kernel_rfl) (by kernel_rfl) ?_
  refine J.seq (J.region ?_)
  refine RJ.run ttok 2 rfl ?_
  refine RJ.fin [(0, .pointer (some ⟨b1, 0, none⟩)), (1, .int .i64 (w64 (1 + (Int.tmod (w64 (a0)) 12))))] rfl ?_
  refine J.seq (J.block (J.seq (J.region ?_)))
  refine RJ.run ttok 1 rfl ?_
  obtain ⟨r3, q2, H⟩ := bind_t H
  refine RJ.op rfl rfl (op_call [0, 0] (Q26.spec q2) rfl rfl rfl h1 rfl gnil) ?_
  rintro _ w2 ⟨_, ⟨rfl, rfl⟩, h2⟩
  replace h2 : St w0 F0 [_, _] _ _ := h2
  refine RJ.run ttok 2 rfl ?_
  refine RJ.fin [(0, _), (1, _), (10, .bool (decide (r3 = 0)))] rfl ?_
  refine J.cond rfl (fun c3 => ?_) (fun c3 => ?_)
  · replace H := ite_t c3 H
    refine J.seq (J.region ?_)
    refine RJ.run ttok 2 rfl ?_
    refine RJ.fin [(4, .pointer none), (5, .int .i64 1)] rfl ?_
    refine J.ret ?_
    refine ⟨_, results_slots rfl, ?_⟩
    refine RJ.run ttok 5 rfl ?_
    refine RJ.fin [(1, .slice A1 a1.length c_1), (5, .int .i64 (w64 (1 + (Int.tmod (w64 (a0)) 12)))), (6, .pointer (some ⟨b1, 0, none⟩)), (7, .int .i64 r1.2), (8, .pointer none), (9, .int .i64 1)] rfl ?_
    refine J.seq (J.seq (J.region ?_))
    refine RJ.run ttok 3 rfl ?_
    refine RJ.know (t := 32) rfl (congrArg Value.bool c2) ?_
    refine RJ.run ttok 7 rfl ?_
    refine RJ.fin [(1, _), (5, _), (6, _), (8, _), (39, .bool true)] rfl ?_
    refine J.condT rfl ?_
    refine J.seq (J.region ?_)
    refine RJ.run ttok 1 rfl ?_
    refine RJ.fin [(4, .bool false)] rfl ?_
    have h3 := h2.only [] rfl
    replace h3 : St w0 F0 [] _ _ := h3
    refine J.ret ?_
    obtain rfl := Option.some.inj H
    exact ⟨_, _, _, (results_slots rfl), ⟨rfl, rfl⟩, h3.only [] rfl⟩
  replace H := ite_f c3 H
  refine J.seq (J.region ?_)
  refine RJ.run ttok 3 rfl ?_
  rcases Bool.eq_false_or_eq_true (decide ((w64 (1 + (Int.tmod (w64 (a0)) 12))) < 1)) with c4 | c4
  · replace H := ite_t c4 H
    refine RJ.know (t := 17) rfl (congrArg Value.bool c4) ?_
    refine RJ.run ttok 4 rfl ?_
    refine RJ.fin [(0, _), (1, _), (14, .bool true)] rfl ?_
    refine J.condT rfl ?_
    refine J.seq (J.region ?_)
    refine RJ.run ttok 2 rfl ?_
    refine RJ.fin [(4, .pointer none), (5, .int .i64 2)] rfl ?_
    refine J.ret ?_
    refine ⟨_, results_slots rfl, ?_⟩
    refine RJ.run ttok 5 rfl ?_
    refine RJ.fin [(1, .slice A1 a1.length c_1), (5, .int .i64 (w64 (1 + (Int.tmod (w64 (a0)) 12)))), (6, .pointer (some ⟨b1, 0, none⟩)), (7, .int .i64 r1.2), (8, .pointer none), (9, .int .i64 2)] rfl ?_
    refine J.seq (J.seq (J.region ?_))
    refine RJ.run ttok 3 rfl ?_
    refine RJ.know (t := 32) rfl (congrArg Value.bool c2) ?_
    refine RJ.run ttok 7 rfl ?_
    refine RJ.fin [(1, _), (5, _), (6, _), (8, _), (39, .bool true)] rfl ?_
    refine J.condT rfl ?_
    refine J.seq (J.region ?_)
    refine RJ.run ttok 1 rfl ?_
    refine RJ.fin [(4, .bool false)] rfl ?_
    have h4 := h2.only [] rfl
    replace h4 : St w0 F0 [] _ _ := h4
    refine J.ret ?_
    obtain rfl := Option.some.inj H
    exact ⟨_, _, _, (results_slots rfl), ⟨rfl, rfl⟩, h4.only [] rfl⟩
  replace H := ite_f c4 H
  refine RJ.know (t := 17) rfl (congrArg Value.bool c4) ?_
  refine RJ.run ttok 4 rfl ?_
  refine RJ.fin [(0, _), (1, _), (14, .bool (decide (64 < (w64 (1 + (Int.tmod (w64 (a0)) 12))))))] rfl ?_
  refine J.cond rfl (fun c5 => ?_) (fun c5 => ?_)
  · replace H := ite_t c5 H
    refine J.seq (J.region ?_)
    refine RJ.run ttok 2 rfl ?_
    refine RJ.fin [(4, .pointer none), (5, .int .i64 2)] rfl ?_
    refine J.ret ?_
    refine ⟨_, results_slots rfl, ?_⟩
    refine RJ.run ttok 5 rfl ?_
    refine RJ.fin [(1, .slice A1 a1.length c_1), (5, .int .i64 (w64 (1 + (Int.tmod (w64 (a0)) 12)))), (6, .pointer (some ⟨b1, 0, none⟩)), (7, .int .i64 r1.2), (8, .pointer none), (9, .int .i64 2)] rfl ?_
    refine J.seq (J.seq (J.region ?_))
    refine RJ.run ttok 3 rfl ?_
    refine RJ.know (t := 32) rfl (congrArg Value.bool c2) ?_
    refine RJ.run ttok 7 rfl ?_
    refine RJ.fin [(1, _), (5, _), (6, _), (8, _), (39, .bool true)] rfl ?_
    refine J.condT rfl ?_
    refine J.seq (J.region ?_)
    refine RJ.run ttok 1 rfl ?_
    refine RJ.fin [(4, .bool false)] rfl ?_
    have h5 := h2.only [] rfl
    replace h5 : St w0 F0 [] _ _ := h5
    refine J.ret ?_
    obtain rfl := Option.some.inj H
    exact ⟨_, _, _, (results_slots rfl), ⟨rfl, rfl⟩, h5.only [] rfl⟩
  replace H := ite_f c5 H
  refine J.skip ?_
  refine J.seq (J.region ?_)
  refine RJ.run ttok 1 rfl ?_
  obtain ⟨r4, q3, H⟩ := bind_t H
  refine RJ.op rfl rfl (op_call [] (Q23.spec q3) rfl rfl rfl h2 rfl gnil) ?_
  rintro _ w3 ⟨_, ⟨v2, l2, ho3, rfl, rfl⟩, h6⟩
  rcases ho4 : r4.1 with _ | r5
  · rw [ho4] at ho3
    obtain ⟨rfl, rfl⟩ := ho3
    replace H := ocase_n ho4 H
    obtain ⟨c6, H⟩ := guard_t H
    replace h6 : St w0 F0 [_, _] _ _ := h6
    refine RJ.run ttok 5 rfl ?_
    refine RJ.fin [(0, _), (1, _), (6, .pointer none), (7, .int .i64 r4.2)] rfl ?_
    refine J.seq (J.seq (J.region ?_))
    refine RJ.run ttok 2 rfl ?_
    refine RJ.fin [(0, _), (1, _), (6, _), (7, _), (27, .bool (!decide (r4.2 = 0)))] rfl ?_
    refine J.cond rfl (fun e => ?_) (fun e => by rw [c6] at e; cases e)
    refine J.seq (J.region ?_)
    refine RJ.run ttok 3 rfl ?_
    refine RJ.fin [(4, .pointer none), (5, .int .i64 r4.2)] rfl ?_
    refine J.ret ?_
    refine ⟨_, results_slots rfl, ?_⟩
    refine RJ.run ttok 5 rfl ?_
    refine RJ.fin [(1, .slice A1 a1.length c_1), (5, .int .i64 (w64 (1 + (Int.tmod (w64 (a0)) 12)))), (6, .pointer (some ⟨b1, 0, none⟩)), (7, .int .i64 r1.2), (8, .pointer none), (9, .int .i64 r4.2)] rfl ?_
    refine J.seq (J.seq (J.region ?_))
    refine RJ.run ttok 3 rfl ?_
    refine RJ.know (t := 32) rfl (congrArg Value.bool c2) ?_
    refine RJ.run ttok 4 rfl ?_
    refine RJ.know (t := 36) rfl (congrArg Value.bool c6) ?_
    refine RJ.run ttok 3 rfl ?_
    refine RJ.fin [(1, _), (5, _), (6, _), (8, _), (39, .bool true)] rfl ?_
    refine J.condT rfl ?_
    refine J.seq (J.region ?_)
    refine RJ.run ttok 1 rfl ?_
    refine RJ.fin [(4, .bool false)] rfl ?_
    have h7 := h6.only [] rfl
    replace h7 : St w0 F0 [] _ _ := h7
    refine J.ret ?_
    obtain rfl := Option.some.inj H
    exact ⟨_, _, _, (results_slots rfl), ⟨rfl, rfl⟩, h7.only [] rfl⟩
  rw [ho4] at ho3
  obtain ⟨b2, A3, c_3, rfl, rfl⟩ := ho3
  replace H := ocase_s ho4 H
  obtain ⟨c7, H⟩ := guard_t H
  replace h6 : St w0 F0 [boxC b2 203 [.slice A3 r5.1.length c_3, .int .i64 r5.2], ownC 205 (.pair (.int .i64) (.pair (.int .i64) .bool)) r5.1 (.slice A3 r5.1.length c_3), _, _] _ _ := h6
  refine RJ.run ttok 5 rfl ?_
  refine RJ.fin [(0, _), (1, _), (6, .pointer (some ⟨b2, 0, none⟩)), (7, .int .i64 r4.2)] rfl ?_
  refine J.seq (J.seq (J.region ?_))
  refine RJ.run ttok 2 rfl ?_
  refine RJ.fin [(0, _), (1, _), (6, _), (7, _), (27, .bool (!decide (r4.2 = 0)))] rfl ?_
  refine J.cond rfl (fun e => by rw [c7] at e; cases e) (fun e => ?_)
  refine J.skip ?_
  refine J.seq (J.region ?_)
  refine RJ.run ttok 2 rfl ?_
  obtain ⟨⟨p1, p2⟩, H⟩ := guard_t H
  refine RJ.op rfl rfl (op_make_deep ttok (ty := (.pair (.int .u32) (.pair (.slice 5 (.int .u8)) (.pair .bool (.int .i64))))) ((0, ([] : List (Int)), false, 0) : Int × List (Int) × Bool × Int) rfl rfl rfl rfl rfl rfl (fun _ _ => fr_ok ⟨none, 0, rfl, Nat.le_refl _, .inl rfl⟩) (by decide) h6 p1 p2) ?_
  rintro _ w4 ⟨b3, rfl, h8⟩
  replace h8 : St w0 F0 [ownC 162 (.pair (.int .u32) (.pair (.slice 5 (.int .u8)) (.pair .bool (.int .i64)))) (List.replicate ((w64 (1 + (Int.tmod (w64 (a0)) 12))).toNat) ((0, ([] : List (Int)), false, 0) : Int × List (Int) × Bool × Int)) (.slice (some ⟨b3, 0, none⟩) (List.replicate ((w64 (1 + (Int.tmod (w64 (a0)) 12))).toNat) ((0, ([] : List (Int)), false, 0) : Int × List (Int) × Bool × Int)).length ((w64 (1 + (Int.tmod (w64 (a0)) 12))).toNat)), _, _, _, _] _ _ := h8
  refine RJ.op rfl rfl (op_makemap .u32 (Value.int .i64) rfl h8) ?_
  rintro _ w5 ⟨b4, rfl, h9⟩
  replace h9 : St w0 F0 [mapC .u32 (Value.int .i64) b4 ([] : List (Int × Int)), _, _, _, _, _] _ _ := h9
  refine RJ.run ttok 2 rfl ?_
  refine RJ.op rfl rfl (op_box rfl rfl h9) ?_
  rintro _ w6 ⟨b5, rfl, h10⟩
  replace h10 : St w0 F0 [boxC b5 113 [.pointer (some ⟨b1, 0, none⟩), .slice (some ⟨b3, 0, none⟩) (List.replicate ((w64 (1 + (Int.tmod (w64 (a0)) 12))).toNat) ((0, ([] : List (Int)), false, 0) : Int × List (Int) × Bool × Int)).length ((w64 (1 + (Int.tmod (w64 (a0)) 12))).toNat), .map (some b4), .slice none ([] : List (Int)).length 0, .pointer (some ⟨b2, 0, none⟩)], _, _, _, _, _, _] _ _ := h10
  refine RJ.run ttok 1 rfl ?_
  refine RJ.fin [(1, _), (8, .pointer (some ⟨b5, 0, none⟩))] rfl ?_
  refine J.seq (J.seq (J.region ?_))
  refine RJ.run ttok 2 rfl ?_
  refine RJ.fin [(8, _), (36, .int .i64 (w64 (1 + (Int.tmod (w64 (a0)) 12)))), (37, .int .i64 0)] rfl ?_
  refine J.block ?_
  have h16 := h10.addNil 3 (.int .i64)
  have h17 := ((h16.only [1, 5, 1, 2, 3, 1, 0, 0] rfl).rds [0] rfl)
  refine J.loop (fun kk env w => ∃ (x1 : List (Int)) (A4 : Option Addr) (c_4 : Nat) (x2 : Int), env = [(8, .pointer (some ⟨b5, 0, none⟩)), (36, .int .i64 (w64 (1 + (Int.tmod (w64 (a0)) 12)))), (37, .int .i64 x2)] ∧ St w0 F0 [boxC b5 113 [.pointer (some ⟨b1, 0, none⟩), .slice (some ⟨b3, 0, none⟩) (List.replicate ((w64 (1 + (Int.tmod (w64 (a0)) 12))).toNat) ((0, ([] : List (Int)), false, 0) : Int × List (Int) × Bool × Int)).length ((w64 (1 + (Int.tmod (w64 (a0)) 12))).toNat), .map (some b4), .slice A4 x1.length c_4, .pointer (some ⟨b2, 0, none⟩)], boxC b1 51 [.int .i64 r2.1, .slice A2 r2.2.1.length c_2, .int .u64 r2.2.2.1, .int .u64 r2.2.2.2], mapC .u32 (Value.int .i64) b4 ([] : List (Int × Int)), boxC b2 203 [.slice A3 r5.1.length c_3, .int .i64 r5.2], ownC 5 (.int .u8) r2.2.1 (.slice A2 r2.2.1.length c_2), ownC 162 (.pair (.int .u32) (.pair (.slice 5 (.int .u8)) (.pair .bool (.int .i64)))) (List.replicate ((w64 (1 + (Int.tmod (w64 (a0)) 12))).toNat) ((0, ([] : List (Int)), false, 0) : Int × List (Int) × Bool × Int)) (.slice (some ⟨b3, 0, none⟩) (List.replicate ((w64 (1 + (Int.tmod (w64 (a0)) 12))).toNat) ((0, ([] : List (Int)), false, 0) : Int × List (Int) × Bool × Int)).length ((w64 (1 + (Int.tmod (w64 (a0)) 12))).toNat)), ownC 3 (.int .i64) x1 (.slice A4 x1.length c_4), ownC 205 (.pair (.int .i64) (.pair (.int .i64) .bool)) r5.1 (.slice A3 r5.1.length c_3)] [rdC 102 (.pair (.int .i64) (.pair (.int .u32) (.slice 5 (.int .u8)))) a1 (.slice A1 a1.length c_1)] w ∧ Q50.l0 kk a0 a1 r2 r5 x1 x2 = some r) (k := k) ⟨([] : List (Int)), none, 0, 0, rfl, h17, H⟩ ?_
  rintro k1 env w7 ⟨x1, A4, c_4, x2, rfl, h11, H⟩
  cases k1 with
  | zero => exact nomatch (show none = some r from H)
  | succ k1 =>
    rw [Q50.l0] at H
    refine J.seq (J.region ?_)
    refine RJ.run ttok 1 rfl ?_
    refine RJ.fin [(8, _), (36, _), (37, _), (38, .bool (decide (x2 < (w64 (1 + (Int.tmod (w64 (a0)) 12))))))] rfl ?_
    refine J.seq ?_
    refine J.cond rfl (fun c8 => ?_) (fun c8 => ?_)
    · replace H := ite_t c8 H
      refine J.skip ?_
      refine J.seq (J.block (J.seq (J.region ?_)))
      refine RJ.run ttok 2 rfl ?_
      refine RJ.fin [(8, _), (9, .int .i64 x2), (36, _), (37, _)] rfl ?_
      refine J.region ?_
      refine RJ.run ttok 4 rfl ?_
      refine RJ.q rfl rfl (q_load_box ttok 0 h11.wht rfl rfl rfl rfl rfl) ?_
      refine RJ.run ttok 1 rfl ?_
      refine RJ.op rfl rfl (op_lit ttok (.int .i64) rfl ([x2] : List (Int)) rfl h11 rfl rfl (by decide) rfl rfl rfl rfl rfl rfl rfl) ?_
      rintro _ w8 ⟨b6, rfl, h12⟩
      replace h12 : St w0 F0 [ownC 3 (.int .i64) ([x2] : List (Int)) (.slice (some ⟨b6, 0, none⟩) ([x2] : List (Int)).length 1), _, _, _, _, _, _, _, _] _ _ := h12
      obtain ⟨p3, H⟩ := guard_t H
      refine RJ.op rfl rfl (op_append ttok rfl 7 rfl h12 rfl (Gives.of 0 rfl own_rd) rfl rfl rfl rfl rfl rfl (by decide) (by decide) p3) ?_
      rintro _ w9 ⟨A5, c_5, rfl, h13⟩
      replace h13 : St w0 F0 [ownC 3 (.int .i64) (x1 ++ ([x2] : List (Int))) (.slice A5 (x1 ++ ([x2] : List (Int))).length c_5), _, _, _, _, _, _, _, _] _ _ := h13
      refine RJ.run ttok 2 rfl ?_
      refine RJ.op rfl rfl (op_store ttok 2 rfl h13 rfl rfl rfl rfl rfl rfl rfl) ?_
      intro _ w10 h14
      replace h14 : St w0 F0 [boxC b5 113 [.pointer (some ⟨b1, 0, none⟩), .slice (some ⟨b3, 0, none⟩) (List.replicate ((w64 (1 + (Int.tmod (w64 (a0)) 12))).toNat) ((0, ([] : List (Int)), false, 0) : Int × List (Int) × Bool × Int)).length ((w64 (1 + (Int.tmod (w64 (a0)) 12))).toNat), .map (some b4), .slice A5 (x1 ++ ([x2] : List (Int))).length c_5, .pointer (some ⟨b2, 0, none⟩)], _, _, _, _, _, _, _, _] _ _ := h14
      refine RJ.fin [(8, _), (36, _), (37, _)] rfl ?_
      refine J.region ?_
      refine RJ.run ttok 2 rfl ?_
      refine RJ.fin [(8, _), (36, _), (37, .int .i64 (w64 (x2 + 1)))] rfl ?_
      have h15 := ((h14.only [0, 2, 2, 2, 2, 2, 0, 1] rfl).rds [0] rfl)
      exact ⟨k1, by omega, (x1 ++ ([x2] : List (Int))), A5, c_5, (w64 (x2 + 1)), rfl, h15, H⟩
    replace H := ite_f c8 H
    refine J.exit ?_
    refine J.seq (J.region ?_)
    refine RJ.run ttok 3 rfl ?_
    refine RJ.fin [(4, .pointer (some ⟨b5, 0, none⟩)), (5, .int .i64 0)] rfl ?_
    refine J.ret ?_
    refine ⟨_, results_slots rfl, ?_⟩
    refine RJ.run ttok 5 rfl ?_
    refine RJ.fin [(1, .slice A1 a1.length c_1), (5, .int .i64 (w64 (1 + (Int.tmod (w64 (a0)) 12)))), (6, .pointer (some ⟨b1, 0, none⟩)), (7, .int .i64 r1.2), (8, .pointer (some ⟨b5, 0, none⟩)), (9, .int .i64 0)] rfl ?_
    refine J.seq (J.seq (J.region ?_))
    refine RJ.run ttok 3 rfl ?_
    refine RJ.know (t := 32) rfl (congrArg Value.bool c2) ?_
    refine RJ.run ttok 7 rfl ?_
    refine RJ.fin [(1, _), (5, _), (6, _), (8, _), (39, .bool false)] rfl ?_
    refine J.condF rfl ?_
    refine J.skip ?_
    refine J.seq (J.seq (J.region ?_))
    refine RJ.run ttok 1 rfl ?_
    refine RJ.fin [(1, _), (5, _), (6, _), (8, _), (10, .int .i64 0)] rfl ?_
    refine J.block ?_
    have h95 := ((h11.only [1, 0, 0, 0, 0, 0, 0, 0] rfl).rds [0] rfl)
    refine J.loop (fun kk env w => ∃ (x11 : Int) (x12 : List (Int)) (A13 : Option Addr) (c_13 : Nat) (x13 : Int) (x14 : Int) (x15 : List (Int × List (Int) × Bool × Int)) (A14 : Option Addr) (c_14 : Nat) (x16 : List (Int × Int)) (x17 : List (Int)) (A15 : Option Addr) (c_15 : Nat) (x18 : List (Int × Int × Bool)) (A16 : Option Addr) (c_16 : Nat) (x19 : Int) (x20 : Int), env = [(1, .slice A1 a1.length c_1), (5, .int .i64 (w64 (1 + (Int.tmod (w64 (a0)) 12)))), (6, .pointer (some ⟨b1, 0, none⟩)), (8, .pointer (some ⟨b5, 0, none⟩)), (10, .int .i64 x20)] ∧ St w0 F0 [boxC b1 51 [.int .i64 x11, .slice A13 x12.length c_13, .int .u64 x13, .int .u64 x14], boxC b5 113 [.pointer (some ⟨b1, 0, none⟩), .slice A14 x15.length c_14, .map (some b4), .slice A15 x17.length c_15, .pointer (some ⟨b2, 0, none⟩)], mapC .u32 (Value.int .i64) b4 x16, boxC b2 203 [.slice A16 x18.length c_16, .int .i64 x19], ownC 5 (.int .u8) x12 (.slice A13 x12.length c_13), ownC 162 (.pair (.int .u32) (.pair (.slice 5 (.int .u8)) (.pair .bool (.int .i64)))) x15 (.slice A14 x15.length c_14), ownC 3 (.int .i64) x17 (.slice A15 x17.length c_15), ownC 205 (.pair (.int .i64) (.pair (.int .i64) .bool)) x18 (.slice A16 x18.length c_16)] [rdC 102 (.pair (.int .i64) (.pair (.int .u32) (.slice 5 (.int .u8)))) a1 (.slice A1 a1.length c_1)] w ∧ Q50.l1 kk a0 a1 x11 x12 x13 x14 x15 x16 x17 x18 x19 x20 = some r) (k := k1) ⟨r2.1, r2.2.1, A2, c_2, r2.2.2.1, r2.2.2.2, (List.replicate ((w64 (1 + (Int.tmod (w64 (a0)) 12))).toNat) ((0, ([] : List (Int)), false, 0) : Int × List (Int) × Bool × Int)), (some ⟨b3, 0, none⟩), ((w64 (1 + (Int.tmod (w64 (a0)) 12))).toNat), ([] : List (Int × Int)), x1, A4, c_4, r5.1, A3, c_3, r5.2, 0, rfl, h95, H⟩ ?_
    rintro k2 env w22 ⟨x11, x12, A13, c_13, x13, x14, x15, A14, c_14, x16, x17, A15, c_15, x18, A16, c_16, x19, x20, rfl, h54, H⟩
    cases k2 with
    | zero => exact nomatch (show none = some r from H)
    | succ k2 =>
      rw [Q50.l1] at H
      refine J.seq (J.seq (J.region ?_))
      refine RJ.run ttok 5 rfl ?_
      rcases Bool.eq_false_or_eq_true (decide (x20 < (a1.length : Int))) with c28 | c28
      · replace H := ite_t c28 H
        refine RJ.know (t := 44) rfl (congrArg Value.bool c28) ?_
        refine RJ.run ttok 3 rfl ?_
        refine RJ.fin [(1, _), (5, _), (6, _), (8, _), (10, _), (47, .bool (decide (x20 < 80)))] rfl ?_
        refine J.cond rfl (fun c29 => ?_) (fun c29 => ?_)
        · replace H := ite_t c29 H
          refine J.skip ?_
          refine J.seq (J.block (J.seq (J.region ?_)))
          refine RJ.run ttok 1 rfl ?_
          obtain ⟨r16, q14, H⟩ := bind_t H
          refine RJ.op rfl rfl (op_call [0, 3] (Q29.spec q14) rfl rfl rfl h54 rfl gnil) ?_
          rintro _ w23 ⟨_, ⟨rfl, rfl⟩, h55⟩
          replace h55 : St w0 F0 [_, _, _, _, _, _, _, _] _ _ := h55
          refine RJ.op rfl rfl (op_alloc ttok rfl rfl h55) ?_
          rintro _ w24 ⟨b8, rfl, h56⟩
          replace h56 : St w0 F0 [boxC b8 49 [.int .u64 0, .int .u64 0], _, _, _, _, _, _, _, _] _ _ := h56
          refine RJ.op rfl rfl (op_store ttok 0 rfl h56 rfl rfl rfl rfl rfl rfl rfl) ?_
          intro _ w25 h57
          replace h57 : St w0 F0 [boxC b8 49 [.int .u64 r16.1, .int .u64 r16.2], _, _, _, _, _, _, _, _] _ _ := h57
          refine RJ.fin [(1, _), (5, _), (6, _), (8, _), (10, _), (11, .pointer (some ⟨b8, 0, none⟩))] rfl ?_
          refine J.seq (J.region ?_)
          refine RJ.run ttok 3 rfl ?_
          obtain ⟨⟨p5, p6⟩, H⟩ := guard_t H
          have e2 := elem_A h57.wh (Gives.self 9 rfl) p5 p6
          refine RJ.q rfl rfl (q_index ttok rfl rfl rfl rfl rfl e2 p5 p6) ?_
          obtain ⟨cs6, h58⟩ := h57.elem 0 rfl p5 p6
          obtain ⟨cs7, cs8, rfl, h59⟩ := St.okpr 0 h58 rfl
          obtain ⟨cs9, cs10, rfl, h60⟩ := St.okpr 1 h59 rfl
          obtain rfl := St.okflat (t := (.int .i64)) rfl 2 h60 rfl
          obtain rfl := St.okflat (t := (.int .u32)) rfl 0 h60 rfl
          obtain ⟨A17, c_17, rfl⟩ := St.okslice 1 h60 rfl
          refine RJ.q rfl rfl (q_load_el (f := 0) ttok h60.wht (Gives.self 14 rfl) rfl rfl rfl rfl) ?_
          obtain ⟨r17, q15, H⟩ := bind_t H
          refine RJ.op rfl rfl (op_call [3, 1, 1, 3, 1, 2, 1, 1] (Q52.spec q15) rfl rfl rfl h60 rfl (gcons (Gives.self 2 rfl) gnil)) ?_
          rintro _ w26 ⟨_, ⟨A18, c_18, A19, c_19, A20, c_20, A21, c_21, rfl, rfl⟩, h61⟩
          replace h61 : St w0 F0 [boxC b5 113 [.pointer (some ⟨b1, 0, none⟩), .slice A19 r17.2.2.1.length c_19, .map (some b4), .slice A20 r17.2.2.2.2.1.length c_20, .pointer (some ⟨b2, 0, none⟩)], boxC b1 51 [.int .i64 r17.2.1.1, .slice A18 r17.2.1.2.1.length c_18, .int .u64 r17.2.1.2.2.1, .int .u64 r17.2.1.2.2.2], ownC 5 (.int .u8) r17.2.1.2.1 (.slice A18 r17.2.1.2.1.length c_18), ownC 162 (.pair (.int .u32) (.pair (.slice 5 (.int .u8)) (.pair .bool (.int .i64)))) r17.2.2.1 (.slice A19 r17.2.2.1.length c_19), mapC .u32 (Value.int .i64) b4 r17.2.2.2.1, ownC 3 (.int .i64) r17.2.2.2.2.1 (.slice A20 r17.2.2.2.2.1.length c_20), boxC b2 203 [.slice A21 r17.2.2.2.2.2.1.length c_21, .int .i64 r17.2.2.2.2.2.2], ownC 205 (.pair (.int .i64) (.pair (.int .i64) .bool)) r17.2.2.2.2.2.1 (.slice A21 r17.2.2.2.2.2.1.length c_21), _] _ _ := h61
          refine RJ.fin [(1, _), (5, _), (6, _), (8, _), (10, _), (11, _)] rfl ?_
          refine J.seq (J.region ?_)
          refine RJ.run ttok 1 rfl ?_
          obtain ⟨r18, q16, H⟩ := bind_t H
          refine RJ.op rfl rfl (op_call [1, 1] (Q29.spec q16) rfl rfl rfl h61 rfl gnil) ?_
          rintro _ w27 ⟨_, ⟨rfl, rfl⟩, h62⟩
          replace h62 : St w0 F0 [_, _, _, _, _, _, _, _, _] _ _ := h62
          refine RJ.op rfl rfl (op_alloc ttok rfl rfl h62) ?_
          rintro _ w28 ⟨b9, rfl, h63⟩
          replace h63 : St w0 F0 [boxC b9 49 [.int .u64 0, .int .u64 0], _, _, _, _, _, _, _, _, _] _ _ := h63
          refine RJ.op rfl rfl (op_store ttok 0 rfl h63 rfl rfl rfl rfl rfl rfl rfl) ?_
          intro _ w29 h64
          replace h64 : St w0 F0 [boxC b9 49 [.int .u64 r18.1, .int .u64 r18.2], _, _, _, _, _, _, _, _, _] _ _ := h64
          refine RJ.fin [(1, _), (5, _), (6, _), (8, _), (10, _), (11, _), (12, .pointer (some ⟨b9, 0, none⟩))] rfl ?_
          refine J.seq ?_
          refine J.heldSt mix h64 ?_
          have h65 := h64.drew
          refine HJ.run ttok rfl [0, 2, 6, 8] rfl ?_
          refine HJ.q (i := 1) rfl rfl rfl rfl rfl rfl (q_load_box ttok 0 (fun w e => e) rfl rfl rfl rfl rfl) ?_
          refine HJ.q (i := 3) rfl rfl rfl rfl rfl rfl (q_load_box ttok 9 (fun w e => e) rfl rfl rfl rfl rfl) ?_
          refine HJ.run ttok rfl [4, 5, 12] rfl ?_
          refine HJ.q (i := 7) rfl rfl rfl rfl rfl rfl (q_load_box ttok 0 (fun w e => e) rfl rfl rfl rfl rfl) ?_
          refine HJ.q (i := 9) rfl rfl rfl rfl rfl rfl (q_load_box ttok 9 (fun w e => e) rfl rfl rfl rfl rfl) ?_
          refine HJ.run ttok rfl [10, 11, 13] rfl ?_
          refine HJ.fin [(1, _), (5, _), (6, _), (8, _), (10, _), (13, .int .i64 (w64 ((IntKind.u64.wrap (r18.1 - r16.1))))), (14, .int .i64 (w64 ((IntKind.u64.wrap (r18.2 - r16.2)))))] rfl rfl ?_
          have h66 := h65.only [1, 1, 1, 1, 1, 1, 1, 1] rfl
          replace h66 : St w0 F0 [_, _, _, _, _, _, _, _] _ _ := h66
          refine J.seq (J.region ?_)
          refine RJ.run ttok 5 rfl ?_
          refine RJ.fin [(1, _), (5, _), (6, _), (8, _), (10, _), (13, _), (14, _), (15, .bool (decide ((w64 ((w64 ((IntKind.u64.wrap (r18.1 - r16.1)))) + (w64 ((IntKind.u64.wrap (r18.2 - r16.2)))))) = 0)))] rfl ?_
          refine J.seq (J.seq (J.region ?_))
          refine RJ.run ttok 2 rfl ?_
          refine RJ.q rfl rfl (q_index ttok rfl rfl rfl rfl rfl e2 p5 p6) ?_
          refine RJ.run ttok 1 rfl ?_
          refine RJ.q rfl rfl (q_load_el (f := 0) ttok h66.wht (Gives.self 13 rfl) rfl rfl rfl rfl) ?_
          refine RJ.fin [(1, _), (5, _), (6, _), (8, _), (10, _), (13, _), (14, _), (15, _), (80, .int .i64 ((gt a1 x20).1))] rfl ?_
          refine J.block (J.seq (J.seq (J.region ?_)))
          refine RJ.run ttok 2 rfl ?_
          refine RJ.fin [(1, _), (5, _), (6, _), (8, _), (10, _), (13, _), (14, _), (15, _), (80, _), (81, .bool (decide (((gt a1 x20).1) = 0)))] rfl ?_
          refine J.cond rfl (fun c30 => ?_) (fun c30 => ?_)
          · replace H := ite_t c30 H
            refine J.skip ?_
            refine J.cond rfl (fun e => ?_) (fun e => by rw [c30] at e; cases e)
            refine J.region ?_
            refine RJ.run ttok 3 rfl ?_
            rcases Bool.eq_false_or_eq_true (decide ((w64 ((IntKind.u64.wrap (r18.1 - r16.1)))) ≤ 1)) with c31 | c31
            · replace H := ite_t c31 H
              refine RJ.know (t := 86) rfl (congrArg Value.bool c31) ?_
              refine RJ.run ttok 4 rfl ?_
              refine RJ.fin [(1, _), (5, _), (6, _), (8, _), (10, _), (15, .bool (decide ((w64 ((IntKind.u64.wrap (r18.2 - r16.2)))) ≤ 1)))] rfl ?_
              refine J.seq (J.region ?_)
              refine RJ.run ttok 3 rfl ?_
              rcases Bool.eq_false_or_eq_true (!(decide ((w64 ((IntKind.u64.wrap (r18.2 - r16.2)))) ≤ 1))) with c32 | c32
              · replace H := ite_t c32 H
                refine RJ.know (t := 109) rfl (congrArg Value.bool c32) ?_
                refine RJ.run ttok 5 rfl ?_
                refine RJ.fin [(1, _), (5, _), (6, _), (8, _), (10, _), (114, .bool true)] rfl ?_
                refine J.condT rfl ?_
                refine J.seq (J.region ?_)
                refine RJ.run ttok 1 rfl ?_
                refine RJ.fin [(4, .bool false)] rfl ?_
                have h67 := h66.only [] rfl
                replace h67 : St w0 F0 [] _ _ := h67
                refine J.ret ?_
                obtain rfl := Option.some.inj H
                exact ⟨_, _, _, (results_slots rfl), ⟨rfl, rfl⟩, h67.only [] rfl⟩
              replace H := ite_f c32 H
              refine RJ.know (t := 109) rfl (congrArg Value.bool c32) ?_
              refine RJ.run ttok 1 rfl ?_
              obtain ⟨r19, q17, H⟩ := bind_t H
              refine RJ.op rfl rfl (op_call [2, 0, 0, 0, 0, 0, 0, 0] (Q9.spec q17) rfl rfl rfl h66 rfl gnil) ?_
              rintro _ w30 ⟨_, ⟨rfl, rfl⟩, h68⟩
              replace h68 : St w0 F0 [_, _, _, _, _, _, _, _] _ _ := h68
              refine RJ.run ttok 3 rfl ?_
              refine RJ.fin [(1, _), (5, _), (6, _), (8, _), (10, _), (114, .bool (decide ((w64 (1 + (Int.tmod (w64 (a0)) 12))) < r19)))] rfl ?_
              refine J.cond rfl (fun c33 => ?_) (fun c33 => ?_)
              · replace H := ite_t c33 H
                refine J.seq (J.region ?_)
                refine RJ.run ttok 1 rfl ?_
                refine RJ.fin [(4, .bool false)] rfl ?_
                have h69 := h68.only [] rfl
                replace h69 : St w0 F0 [] _ _ := h69
                refine J.ret ?_
                obtain rfl := Option.some.inj H
                exact ⟨_, _, _, (results_slots rfl), ⟨rfl, rfl⟩, h69.only [] rfl⟩
              replace H := ite_f c33 H
              refine J.skip ?_
              refine J.region ?_
              refine RJ.run ttok 3 rfl ?_
              refine RJ.fin [(1, _), (5, _), (6, _), (8, _), (10, .int .i64 (w64 (x20 + 1)))] rfl ?_
              have h70 := ((h68.only [1, 0, 2, 3, 0, 0, 0, 0] rfl).rds [6] rfl)
              exact ⟨k2, by omega, r17.2.1.1, r17.2.1.2.1, A18, c_18, r17.2.1.2.2.1, r17.2.1.2.2.2, r17.2.2.1, A19, c_19, r17.2.2.2.1, r17.2.2.2.2.1, A20, c_20, r17.2.2.2.2.2.1, A21, c_21, r17.2.2.2.2.2.2, (w64 (x20 + 1)), rfl, h70, H⟩
            replace H := ite_f c31 H
            refine RJ.know (t := 86) rfl (congrArg Value.bool c31) ?_
            refine RJ.run ttok 4 rfl ?_
            refine RJ.fin [(1, _), (5, _), (6, _), (8, _), (10, _), (15, .bool false)] rfl ?_
            refine J.seq (J.region ?_)
            refine RJ.run ttok 8 rfl ?_
            refine RJ.fin [(1, _), (5, _), (6, _), (8, _), (10, _), (114, .bool true)] rfl ?_
            refine J.condT rfl ?_
            refine J.seq (J.region ?_)
            refine RJ.run ttok 1 rfl ?_
            refine RJ.fin [(4, .bool false)] rfl ?_
            have h71 := h66.only [] rfl
            replace h71 : St w0 F0 [] _ _ := h71
            refine J.ret ?_
            obtain rfl := Option.some.inj H
            exact ⟨_, _, _, (results_slots rfl), ⟨rfl, rfl⟩, h71.only [] rfl⟩
          replace H := ite_f c30 H
          refine J.region ?_
          refine RJ.run ttok 2 rfl ?_
          refine RJ.fin [(1, _), (5, _), (6, _), (8, _), (10, _), (13, _), (14, _), (15, _), (80, _), (81, .bool (decide (((gt a1 x20).1) = 1)))] rfl ?_
          refine J.cond rfl (fun c34 => ?_) (fun c34 => ?_)
          · replace H := ite_t c34 H
            refine J.region ?_
            refine RJ.run ttok 3 rfl ?_
            rcases Bool.eq_false_or_eq_true (decide ((w64 ((IntKind.u64.wrap (r18.1 - r16.1)))) ≤ 1)) with c35 | c35
            · replace H := ite_t c35 H
              refine RJ.know (t := 86) rfl (congrArg Value.bool c35) ?_
              refine RJ.run ttok 4 rfl ?_
              refine RJ.fin [(1, _), (5, _), (6, _), (8, _), (10, _), (15, .bool (decide ((w64 ((IntKind.u64.wrap (r18.2 - r16.2)))) ≤ 1)))] rfl ?_
              refine J.seq (J.region ?_)
              refine RJ.run ttok 3 rfl ?_
              rcases Bool.eq_false_or_eq_true (!(decide ((w64 ((IntKind.u64.wrap (r18.2 - r16.2)))) ≤ 1))) with c36 | c36
              · replace H := ite_t c36 H
                refine RJ.know (t := 109) rfl (congrArg Value.bool c36) ?_
                refine RJ.run ttok 5 rfl ?_
                refine RJ.fin [(1, _), (5, _), (6, _), (8, _), (10, _), (114, .bool true)] rfl ?_
                refine J.condT rfl ?_
                refine J.seq (J.region ?_)
                refine RJ.run ttok 1 rfl ?_
                refine RJ.fin [(4, .bool false)] rfl ?_
                have h72 := h66.only [] rfl
                replace h72 : St w0 F0 [] _ _ := h72
                refine J.ret ?_
                obtain rfl := Option.some.inj H
                exact ⟨_, _, _, (results_slots rfl), ⟨rfl, rfl⟩, h72.only [] rfl⟩
              replace H := ite_f c36 H
              refine RJ.know (t := 109) rfl (congrArg Value.bool c36) ?_
              refine RJ.run ttok 1 rfl ?_
              obtain ⟨r20, q18, H⟩ := bind_t H
              refine RJ.op rfl rfl (op_call [2, 0, 0, 0, 0, 0, 0, 0] (Q9.spec q18) rfl rfl rfl h66 rfl gnil) ?_
              rintro _ w31 ⟨_, ⟨rfl, rfl⟩, h73⟩
              replace h73 : St w0 F0 [_, _, _, _, _, _, _, _] _ _ := h73
              refine RJ.run ttok 3 rfl ?_
              refine RJ.fin [(1, _), (5, _), (6, _), (8, _), (10, _), (114, .bool (decide ((w64 (1 + (Int.tmod (w64 (a0)) 12))) < r20)))] rfl ?_
              refine J.cond rfl (fun c37 => ?_) (fun c37 => ?_)
              · replace H := ite_t c37 H
                refine J.seq (J.region ?_)
                refine RJ.run ttok 1 rfl ?_
                refine RJ.fin [(4, .bool false)] rfl ?_
                have h74 := h73.only [] rfl
                replace h74 : St w0 F0 [] _ _ := h74
                refine J.ret ?_
                obtain rfl := Option.some.inj H
                exact ⟨_, _, _, (results_slots rfl), ⟨rfl, rfl⟩, h74.only [] rfl⟩
              replace H := ite_f c37 H
              refine J.skip ?_
              refine J.region ?_
              refine RJ.run ttok 3 rfl ?_
              refine RJ.fin [(1, _), (5, _), (6, _), (8, _), (10, .int .i64 (w64 (x20 + 1)))] rfl ?_
              have h75 := ((h73.only [1, 0, 2, 3, 0, 0, 0, 0] rfl).rds [6] rfl)
              exact ⟨k2, by omega, r17.2.1.1, r17.2.1.2.1, A18, c_18, r17.2.1.2.2.1, r17.2.1.2.2.2, r17.2.2.1, A19, c_19, r17.2.2.2.1, r17.2.2.2.2.1, A20, c_20, r17.2.2.2.2.2.1, A21, c_21, r17.2.2.2.2.2.2, (w64 (x20 + 1)), rfl, h75, H⟩
            replace H := ite_f c35 H
            refine RJ.know (t := 86) rfl (congrArg Value.bool c35) ?_
            refine RJ.run ttok 4 rfl ?_
            refine RJ.fin [(1, _), (5, _), (6, _), (8, _), (10, _), (15, .bool false)] rfl ?_
            refine J.seq (J.region ?_)
            refine RJ.run ttok 8 rfl ?_
            refine RJ.fin [(1, _), (5, _), (6, _), (8, _), (10, _), (114, .bool true)] rfl ?_
            refine J.condT rfl ?_
            refine J.seq (J.region ?_)
            refine RJ.run ttok 1 rfl ?_
            refine RJ.fin [(4, .bool false)] rfl ?_
            have h76 := h66.only [] rfl
            replace h76 : St w0 F0 [] _ _ := h76
            refine J.ret ?_
            obtain rfl := Option.some.inj H
            exact ⟨_, _, _, (results_slots rfl), ⟨rfl, rfl⟩, h76.only [] rfl⟩
          replace H := ite_f c34 H
          refine J.seq (J.region ?_)
          refine RJ.run ttok 2 rfl ?_
          refine RJ.fin [(1, _), (5, _), (6, _), (8, _), (10, _), (13, _), (14, _), (15, _), (80, _), (90, .bool (decide (((gt a1 x20).1) = 2)))] rfl ?_
          refine J.cond rfl (fun c38 => ?_) (fun c38 => ?_)
          · replace H := ite_t c38 H
            refine J.region ?_
            refine RJ.run ttok 3 rfl ?_
            rcases Bool.eq_false_or_eq_true (decide ((w64 ((IntKind.u64.wrap (r18.1 - r16.1)))) = 0)) with c39 | c39
            · replace H := ite_t c39 H
              refine RJ.know (t := 94) rfl (congrArg Value.bool c39) ?_
              refine RJ.run ttok 4 rfl ?_
              refine RJ.fin [(1, _), (5, _), (6, _), (8, _), (10, _), (15, .bool (decide ((w64 ((IntKind.u64.wrap (r18.2 - r16.2)))) ≤ 1)))] rfl ?_
              refine J.seq (J.region ?_)
              refine RJ.run ttok 3 rfl ?_
              rcases Bool.eq_false_or_eq_true (!(decide ((w64 ((IntKind.u64.wrap (r18.2 - r16.2)))) ≤ 1))) with c40 | c40
              · replace H := ite_t c40 H
                refine RJ.know (t := 109) rfl (congrArg Value.bool c40) ?_
                refine RJ.run ttok 5 rfl ?_
                refine RJ.fin [(1, _), (5, _), (6, _), (8, _), (10, _), (114, .bool true)] rfl ?_
                refine J.condT rfl ?_
                refine J.seq (J.region ?_)
                refine RJ.run ttok 1 rfl ?_
                refine RJ.fin [(4, .bool false)] rfl ?_
                have h77 := h66.only [] rfl
                replace h77 : St w0 F0 [] _ _ := h77
                refine J.ret ?_
                obtain rfl := Option.some.inj H
                exact ⟨_, _, _, (results_slots rfl), ⟨rfl, rfl⟩, h77.only [] rfl⟩
              replace H := ite_f c40 H
              refine RJ.know (t := 109) rfl (congrArg Value.bool c40) ?_
              refine RJ.run ttok 1 rfl ?_
              obtain ⟨r21, q19, H⟩ := bind_t H
              refine RJ.op rfl rfl (op_call [2, 0, 0, 0, 0, 0, 0, 0] (Q9.spec q19) rfl rfl rfl h66 rfl gnil) ?_
              rintro _ w32 ⟨_, ⟨rfl, rfl⟩, h78⟩
              replace h78 : St w0 F0 [_, _, _, _, _, _, _, _] _ _ := h78
              refine RJ.run ttok 3 rfl ?_
              refine RJ.fin [(1, _), (5, _), (6, _), (8, _), (10, _), (114, .bool (decide ((w64 (1 + (Int.tmod (w64 (a0)) 12))) < r21)))] rfl ?_
              refine J.cond rfl (fun c41 => ?_) (fun c41 => ?_)
              · replace H := ite_t c41 H
                refine J.seq (J.region ?_)
                refine RJ.run ttok 1 rfl ?_
                refine RJ.fin [(4, .bool false)] rfl ?_
                have h79 := h78.only [] rfl
                replace h79 : St w0 F0 [] _ _ := h79
                refine J.ret ?_
                obtain rfl := Option.some.inj H
                exact ⟨_, _, _, (results_slots rfl), ⟨rfl, rfl⟩, h79.only [] rfl⟩
              replace H := ite_f c41 H
              refine J.skip ?_
              refine J.region ?_
              refine RJ.run ttok 3 rfl ?_
              refine RJ.fin [(1, _), (5, _), (6, _), (8, _), (10, .int .i64 (w64 (x20 + 1)))] rfl ?_
              have h80 := ((h78.only [1, 0, 2, 3, 0, 0, 0, 0] rfl).rds [6] rfl)
              exact ⟨k2, by omega, r17.2.1.1, r17.2.1.2.1, A18, c_18, r17.2.1.2.2.1, r17.2.1.2.2.2, r17.2.2.1, A19, c_19, r17.2.2.2.1, r17.2.2.2.2.1, A20, c_20, r17.2.2.2.2.2.1, A21, c_21, r17.2.2.2.2.2.2, (w64 (x20 + 1)), rfl, h80, H⟩
            replace H := ite_f c39 H
            refine RJ.know (t := 94) rfl (congrArg Value.bool c39) ?_
            refine RJ.run ttok 4 rfl ?_
            refine RJ.fin [(1, _), (5, _), (6, _), (8, _), (10, _), (15, .bool false)] rfl ?_
            refine J.seq (J.region ?_)
            refine RJ.run ttok 8 rfl ?_
            refine RJ.fin [(1, _), (5, _), (6, _), (8, _), (10, _), (114, .bool true)] rfl ?_
            refine J.condT rfl ?_
            refine J.seq (J.region ?_)
            refine RJ.run ttok 1 rfl ?_
            refine RJ.fin [(4, .bool false)] rfl ?_
            have h81 := h66.only [] rfl
            replace h81 : St w0 F0 [] _ _ := h81
            refine J.ret ?_
            obtain rfl := Option.some.inj H
            exact ⟨_, _, _, (results_slots rfl), ⟨rfl, rfl⟩, h81.only [] rfl⟩
          replace H := ite_f c38 H
          refine J.seq (J.region ?_)
          refine RJ.run ttok 2 rfl ?_
          refine RJ.fin [(1, _), (5, _), (6, _), (8, _), (10, _), (13, _), (14, _), (15, _), (98, .bool (decide (((gt a1 x20).1) = 8)))] rfl ?_
          refine J.cond rfl (fun c42 => ?_) (fun c42 => ?_)
          · replace H := ite_t c42 H
            refine J.region ?_
            refine RJ.run ttok 3 rfl ?_
            rcases Bool.eq_false_or_eq_true (decide ((w64 ((IntKind.u64.wrap (r18.1 - r16.1)))) = 0)) with c43 | c43
            · replace H := ite_t c43 H
              refine RJ.know (t := 102) rfl (congrArg Value.bool c43) ?_
              refine RJ.run ttok 5 rfl ?_
              refine RJ.fin [(1, _), (5, _), (6, _), (8, _), (10, _), (15, .bool (decide ((w64 ((IntKind.u64.wrap (r18.2 - r16.2)))) ≤ (w64 (1 + (Int.tmod (w64 (a0)) 12))))))] rfl ?_
              refine J.seq (J.region ?_)
              refine RJ.run ttok 3 rfl ?_
              rcases Bool.eq_false_or_eq_true (!(decide ((w64 ((IntKind.u64.wrap (r18.2 - r16.2)))) ≤ (w64 (1 + (Int.tmod (w64 (a0)) 12)))))) with c44 | c44
              · replace H := ite_t c44 H
                refine RJ.know (t := 109) rfl (congrArg Value.bool c44) ?_
                refine RJ.run ttok 5 rfl ?_
                refine RJ.fin [(1, _), (5, _), (6, _), (8, _), (10, _), (114, .bool true)] rfl ?_
                refine J.condT rfl ?_
                refine J.seq (J.region ?_)
                refine RJ.run ttok 1 rfl ?_
                refine RJ.fin [(4, .bool false)] rfl ?_
                have h82 := h66.only [] rfl
                replace h82 : St w0 F0 [] _ _ := h82
                refine J.ret ?_
                obtain rfl := Option.some.inj H
                exact ⟨_, _, _, (results_slots rfl), ⟨rfl, rfl⟩, h82.only [] rfl⟩
              replace H := ite_f c44 H
              refine RJ.know (t := 109) rfl (congrArg Value.bool c44) ?_
              refine RJ.run ttok 1 rfl ?_
              obtain ⟨r22, q20, H⟩ := bind_t H
              refine RJ.op rfl rfl (op_call [2, 0, 0, 0, 0, 0, 0, 0] (Q9.spec q20) rfl rfl rfl h66 rfl gnil) ?_
              rintro _ w33 ⟨_, ⟨rfl, rfl⟩, h83⟩
              replace h83 : St w0 F0 [_, _, _, _, _, _, _, _] _ _ := h83
              refine RJ.run ttok 3 rfl ?_
              refine RJ.fin [(1, _), (5, _), (6, _), (8, _), (10, _), (114, .bool (decide ((w64 (1 + (Int.tmod (w64 (a0)) 12))) < r22)))] rfl ?_
              refine J.cond rfl (fun c45 => ?_) (fun c45 => ?_)
              · replace H := ite_t c45 H
                refine J.seq (J.region ?_)
                refine RJ.run ttok 1 rfl ?_
                refine RJ.fin [(4, .bool false)] rfl ?_
                have h84 := h83.only [] rfl
                replace h84 : St w0 F0 [] _ _ := h84
                refine J.ret ?_
                obtain rfl := Option.some.inj H
                exact ⟨_, _, _, (results_slots rfl), ⟨rfl, rfl⟩, h84.only [] rfl⟩
              replace H := ite_f c45 H
              refine J.skip ?_
              refine J.region ?_
              refine RJ.run ttok 3 rfl ?_
              refine RJ.fin [(1, _), (5, _), (6, _), (8, _), (10, .int .i64 (w64 (x20 + 1)))] rfl ?_
              have h85 := ((h83.only [1, 0, 2, 3, 0, 0, 0, 0] rfl).rds [6] rfl)
              exact ⟨k2, by omega, r17.2.1.1, r17.2.1.2.1, A18, c_18, r17.2.1.2.2.1, r17.2.1.2.2.2, r17.2.2.1, A19, c_19, r17.2.2.2.1, r17.2.2.2.2.1, A20, c_20, r17.2.2.2.2.2.1, A21, c_21, r17.2.2.2.2.2.2, (w64 (x20 + 1)), rfl, h85, H⟩
            replace H := ite_f c43 H
            refine RJ.know (t := 102) rfl (congrArg Value.bool c43) ?_
            refine RJ.run ttok 5 rfl ?_
            refine RJ.fin [(1, _), (5, _), (6, _), (8, _), (10, _), (15, .bool false)] rfl ?_
            refine J.seq (J.region ?_)
            refine RJ.run ttok 8 rfl ?_
            refine RJ.fin [(1, _), (5, _), (6, _), (8, _), (10, _), (114, .bool true)] rfl ?_
            refine J.condT rfl ?_
            refine J.seq (J.region ?_)
            refine RJ.run ttok 1 rfl ?_
            refine RJ.fin [(4, .bool false)] rfl ?_
            have h86 := h66.only [] rfl
            replace h86 : St w0 F0 [] _ _ := h86
            refine J.ret ?_
            obtain rfl := Option.some.inj H
            exact ⟨_, _, _, (results_slots rfl), ⟨rfl, rfl⟩, h86.only [] rfl⟩
          replace H := ite_f c42 H
          refine J.skip ?_
          refine J.seq (J.region ?_)
          refine RJ.run ttok 3 rfl ?_
          rcases Bool.eq_false_or_eq_true (!(decide ((w64 ((w64 ((IntKind.u64.wrap (r18.1 - r16.1)))) + (w64 ((IntKind.u64.wrap (r18.2 - r16.2)))))) = 0))) with c46 | c46
          · replace H := ite_t c46 H
            refine RJ.know (t := 109) rfl (congrArg Value.bool c46) ?_
            refine RJ.run ttok 5 rfl ?_
            refine RJ.fin [(1, _), (5, _), (6, _), (8, _), (10, _), (114, .bool true)] rfl ?_
            refine J.condT rfl ?_
            refine J.seq (J.region ?_)
            refine RJ.run ttok 1 rfl ?_
            refine RJ.fin [(4, .bool false)] rfl ?_
            have h87 := h66.only [] rfl
            replace h87 : St w0 F0 [] _ _ := h87
            refine J.ret ?_
            obtain rfl := Option.some.inj H
            exact ⟨_, _, _, (results_slots rfl), ⟨rfl, rfl⟩, h87.only [] rfl⟩
          replace H := ite_f c46 H
          refine RJ.know (t := 109) rfl (congrArg Value.bool c46) ?_
          refine RJ.run ttok 1 rfl ?_
          obtain ⟨r23, q21, H⟩ := bind_t H
          refine RJ.op rfl rfl (op_call [2, 0, 0, 0, 0, 0, 0, 0] (Q9.spec q21) rfl rfl rfl h66 rfl gnil) ?_
          rintro _ w34 ⟨_, ⟨rfl, rfl⟩, h88⟩
          replace h88 : St w0 F0 [_, _, _, _, _, _, _, _] _ _ := h88
          refine RJ.run ttok 3 rfl ?_
          refine RJ.fin [(1, _), (5, _), (6, _), (8, _), (10, _), (114, .bool (decide ((w64 (1 + (Int.tmod (w64 (a0)) 12))) < r23)))] rfl ?_
          refine J.cond rfl (fun c47 => ?_) (fun c47 => ?_)
          · replace H := ite_t c47 H
            refine J.seq (J.region ?_)
            refine RJ.run ttok 1 rfl ?_
            refine RJ.fin [(4, .bool false)] rfl ?_
            have h89 := h88.only [] rfl
            replace h89 : St w0 F0 [] _ _ := h89
            refine J.ret ?_
            obtain rfl := Option.some.inj H
            exact ⟨_, _, _, (results_slots rfl), ⟨rfl, rfl⟩, h89.only [] rfl⟩
          replace H := ite_f c47 H
          refine J.skip ?_
          refine J.region ?_
          refine RJ.run ttok 3 rfl ?_
          refine RJ.fin [(1, _), (5, _), (6, _), (8, _), (10, .int .i64 (w64 (x20 + 1)))] rfl ?_
          have h90 := ((h88.only [1, 0, 2, 3, 0, 0, 0, 0] rfl).rds [6] rfl)
          exact ⟨k2, by omega, r17.2.1.1, r17.2.1.2.1, A18, c_18, r17.2.1.2.2.1, r17.2.1.2.2.2, r17.2.2.1, A19, c_19, r17.2.2.2.1, r17.2.2.2.2.1, A20, c_20, r17.2.2.2.2.2.1, A21, c_21, r17.2.2.2.2.2.2, (w64 (x20 + 1)), rfl, h90, H⟩
        replace H := ite_f c29 H
        refine J.exit ?_
        refine J.seq (J.region ?_)
        obtain ⟨r24, q22, H⟩ := bind_t H
        refine RJ.op rfl rfl (op_call [] (Q51.spec q22) rfl rfl rfl h54 rfl gnil) ?_
        rintro _ w35 ⟨_, ⟨rfl, rfl⟩, h91⟩
        replace h91 : St w0 F0 [_, _, _, _, _, _, _, _] _ _ := h91
        refine RJ.run ttok 1 rfl ?_
        refine RJ.fin [(4, .bool r24)] rfl ?_
        have h92 := h91.only [] rfl
        replace h92 : St w0 F0 [] _ _ := h92
        refine J.ret ?_
        obtain rfl := Option.some.inj H
        exact ⟨_, _, _, (results_slots rfl), ⟨rfl, rfl⟩, h92.only [] rfl⟩
      replace H := ite_f c28 H
      refine RJ.know (t := 44) rfl (congrArg Value.bool c28) ?_
      refine RJ.run ttok 3 rfl ?_
      refine RJ.fin [(1, _), (5, _), (6, _), (8, _), (10, _), (47, .bool false)] rfl ?_
      refine J.condF rfl ?_
      refine J.exit ?_
      refine J.seq (J.region ?_)
      obtain ⟨r25, q23, H⟩ := bind_t H
      refine RJ.op rfl rfl (op_call [] (Q51.spec q23) rfl rfl rfl h54 rfl gnil) ?_
      rintro _ w36 ⟨_, ⟨rfl, rfl⟩, h93⟩
      replace h93 : St w0 F0 [_, _, _, _, _, _, _, _] _ _ := h93
      refine RJ.run ttok 1 rfl ?_
      refine RJ.fin [(4, .bool r25)] rfl ?_
      have h94 := h93.only [] rfl
      replace h94 : St w0 F0 [] _ _ := h94
      refine J.ret ?_
      obtain rfl := Option.some.inj H
      exact ⟨_, _, _, (results_slots rfl), ⟨rfl, rfl⟩, h94.only [] rfl⟩

end Go.SK.T
