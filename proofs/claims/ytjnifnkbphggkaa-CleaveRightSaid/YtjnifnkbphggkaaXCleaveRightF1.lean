/- The functions, further. -/
import Derived.Test.YtjnifnkbphggkaaXCleaveRightF0
set_option linter.unusedVariables false
set_option linter.unusedSimpArgs false
namespace Go.SK.T
open Go Go.SK Go.Proofs
/-! sluicegate/sluicegateref12.Same -/
def sluicegateref12_Same.l0 : Nat → (List (List UInt8)) → (List (List UInt8)) → (Int) → Option (Bool)
  | 0, _, _, _ => none
  | k + 1, a0, a1, x1 => if (decide (x1 < (a0.length : Int))) = true then (if 0 ≤ x1 ∧ x1 < (a0.length : Int) then (if 0 ≤ x1 ∧ x1 < (a1.length : Int) then (if (!decide ((gt a0 x1) = (gt a1 x1))) = true then (some false) else (sluicegateref12_Same.l0 k a0 a1 (w64 (x1 + 1)))) else none) else none) else (some true)
def sluicegateref12_Same.f (k : Nat) (a0 : List (List UInt8)) (a1 : List (List UInt8)) : Option (Bool) := if (!decide ((a0.length : Int) = (a1.length : Int))) = true then (some false) else (sluicegateref12_Same.l0 k a0 a1 0)
set_option maxRecDepth 20000 in
set_option maxHeartbeats 4000000 in
theorem sluicegateref12_Same.spec {k : Nat} {a0 : List (List UInt8)} {a1 : List (List UInt8)} {A1 : Option Addr} {c_1 : Nat} {A2 : Option Addr} {c_2 : Nat} {r : Bool} (H : sluicegateref12_Same.f k a0 a1 = some r) :
    Spec Try.prog 61 [.slice A1 a0.length c_1, .slice A2 a1.length c_2] [] [rdC 9 .str a0 (.slice A1 a0.length c_1), rdC 9 .str a1 (.slice A2 a1.length c_2)] (fun v l => v = .bool r ∧ l = []) := by
  refine Spec.enter Try.func61 rfl (by kernel_rfl) (by kernel_rfl) fun w0 F0 h0 => ?_
  unfold sluicegateref12_Same.f at H
  refine J.seq ?_
  refine J.region ?_
  refine RJ.run ttok 1 rfl ?_
  refine RJ.fin [(0, .slice A1 a0.length c_1), (1, .slice A2 a1.length c_2)] rfl ?_
  refine J.seq ?_
  refine J.seq ?_
  refine J.region ?_
  refine RJ.run ttok 5 rfl ?_
  refine RJ.fin [(0, .slice A1 a0.length c_1), (1, .slice A2 a1.length c_2), (10, .bool (!decide ((a0.length : Int) = (a1.length : Int))))] rfl ?_
  refine J.cond rfl (fun c1 => ?_) (fun c1 => ?_)
  · replace H := ite_t c1 H
    refine J.seq ?_
    refine J.region ?_
    refine RJ.run ttok 1 rfl ?_
    refine RJ.fin [(4, .bool false)] rfl ?_
    refine J.ret ?_
    obtain rfl := Option.some.inj H
    exact ⟨_, _, _, (results_slots rfl), ⟨rfl, rfl⟩, h0.only [] rfl⟩
  · replace H := ite_f c1 H
    refine J.skip ?_
    refine J.seq ?_
    refine J.seq ?_
    refine J.region ?_
    refine RJ.run ttok 1 rfl ?_
    refine RJ.fin [(0, .slice A1 a0.length c_1), (1, .slice A2 a1.length c_2), (5, .int .i64 0)] rfl ?_
    refine J.block ?_
    have h4 := ((h0.only [] rfl).rds [0, 1] rfl)
    refine J.loop (fun k env w => ∃ (x1 : Int), env = [(0, .slice A1 a0.length c_1), (1, .slice A2 a1.length c_2), (5, .int .i64 x1)] ∧ St w0 F0 [] [rdC 9 .str a0 (.slice A1 a0.length c_1), rdC 9 .str a1 (.slice A2 a1.length c_2)] w ∧ sluicegateref12_Same.l0 k a0 a1 x1 = some r) (k := k) ⟨0, rfl, h4, H⟩ ?_
    rintro k1 env w1 ⟨x1, rfl, h1, H⟩
    cases k1 with
    | zero => exact nomatch (show none = some r from H)
    | succ k1 =>
      rw [sluicegateref12_Same.l0] at H
      refine J.seq ?_
      refine J.seq ?_
      refine J.region ?_
      refine RJ.run ttok 4 rfl ?_
      refine RJ.fin [(0, .slice A1 a0.length c_1), (1, .slice A2 a1.length c_2), (5, .int .i64 x1), (14, .bool (decide (x1 < (a0.length : Int))))] rfl ?_
      refine J.cond rfl (fun c2 => ?_) (fun c2 => ?_)
      · replace H := ite_t c2 H
        refine J.skip ?_
        refine J.seq ?_
        refine J.block ?_
        refine J.seq ?_
        refine J.heldSt mix h1 ?_
        have h2 := h1.drew
        refine HJ.run ttok rfl [0, 1, 4, 5] rfl ?_
        obtain ⟨⟨p1, p2⟩, H⟩ := guard_t H
        have e1 := elem_A h2.wh (Gives.self 0 rfl) p1 p2
        refine HJ.q (i := 2) rfl rfl rfl rfl rfl rfl (q_index ttok rfl rfl rfl rfl rfl e1 p1 p2) ?_
        refine HJ.q (i := 3) rfl rfl rfl rfl rfl rfl (q_load_elem (f := 0) ttok rfl (fun w e => e) (Gives.self 0 rfl) p1 p2 rfl rfl rfl rfl rfl) ?_
        obtain ⟨⟨p3, p4⟩, H⟩ := guard_t H
        have e2 := elem_A h2.wh (Gives.self 1 rfl) p3 p4
        refine HJ.q (i := 6) rfl rfl rfl rfl rfl rfl (q_index ttok rfl rfl rfl rfl rfl e2 p3 p4) ?_
        refine HJ.q (i := 7) rfl rfl rfl rfl rfl rfl (q_load_elem (f := 0) ttok rfl (fun w e => e) (Gives.self 1 rfl) p3 p4 rfl rfl rfl rfl rfl) ?_
        refine HJ.run ttok rfl [8] rfl ?_
        refine HJ.fin [(0, .slice A1 a0.length c_1), (1, .slice A2 a1.length c_2), (5, .int .i64 x1), (25, .bool (!decide ((gt a0 x1) = (gt a1 x1))))] rfl rfl ?_
        refine J.cond rfl (fun c3 => ?_) (fun c3 => ?_)
        · replace H := ite_t c3 H
          refine J.seq ?_
          refine J.region ?_
          refine RJ.run ttok 1 rfl ?_
          refine RJ.fin [(4, .bool false)] rfl ?_
          refine J.ret ?_
          obtain rfl := Option.some.inj H
          exact ⟨_, _, _, (results_slots rfl), ⟨rfl, rfl⟩, h2.only [] rfl⟩
        · replace H := ite_f c3 H
          refine J.skip ?_
          refine J.region ?_
          refine RJ.run ttok 3 rfl ?_
          refine RJ.fin [(0, .slice A1 a0.length c_1), (1, .slice A2 a1.length c_2), (5, .int .i64 (w64 (x1 + 1)))] rfl ?_
          have h3 := ((h2.only [] rfl).rds [0, 1] rfl)
          exact ⟨k1, by omega, (w64 (x1 + 1)), rfl, h3, H⟩
      · replace H := ite_f c2 H
        refine J.exit ?_
        refine J.seq ?_
        refine J.region ?_
        refine RJ.run ttok 1 rfl ?_
        refine RJ.fin [(4, .bool true)] rfl ?_
        refine J.ret ?_
        obtain rfl := Option.some.inj H
        exact ⟨_, _, _, (results_slots rfl), ⟨rfl, rfl⟩, h1.only [] rfl⟩

/-! sluicegate/sluicegateref10.Same -/
def sluicegateref10_Same.l0 : Nat → (List (List UInt8 × Bool × List UInt8)) → (List (List UInt8 × Bool × List UInt8)) → (Int) → Option (Bool)
  | 0, _, _, _ => none
  | k + 1, a0, a1, x1 => if (decide (x1 < (a0.length : Int))) = true then (if 0 ≤ x1 ∧ x1 < (a0.length : Int) then (if 0 ≤ x1 ∧ x1 < (a1.length : Int) then (if (!((decide (((gt a0 x1).1) = ((gt a1 x1).1))) && ((((gt a0 x1).2.1) == ((gt a1 x1).2.1)) && ((decide (((gt a0 x1).2.2) = ((gt a1 x1).2.2))) && true)))) = true then (some false) else (sluicegateref10_Same.l0 k a0 a1 (w64 (x1 + 1)))) else none) else none) else (some true)
def sluicegateref10_Same.f (k : Nat) (a0 : List (List UInt8 × Bool × List UInt8)) (a1 : List (List UInt8 × Bool × List UInt8)) : Option (Bool) := if (!decide ((a0.length : Int) = (a1.length : Int))) = true then (some false) else (sluicegateref10_Same.l0 k a0 a1 0)
set_option maxRecDepth 20000 in
set_option maxHeartbeats 4000000 in
theorem sluicegateref10_Same.spec {k : Nat} {a0 : List (List UInt8 × Bool × List UInt8)} {a1 : List (List UInt8 × Bool × List UInt8)} {A1 : Option Addr} {c_1 : Nat} {A2 : Option Addr} {c_2 : Nat} {r : Bool} (H : sluicegateref10_Same.f k a0 a1 = some r) :
    Spec Try.prog 62 [.slice A1 a0.length c_1, .slice A2 a1.length c_2] [] [rdC 48 (.pair .str (.pair .bool .str)) a0 (.slice A1 a0.length c_1), rdC 48 (.pair .str (.pair .bool .str)) a1 (.slice A2 a1.length c_2)] (fun v l => v = .bool r ∧ l = []) := by
  refine Spec.enter Try.func62 rfl (by kernel_rfl) (by kernel_rfl) fun w0 F0 h0 => ?_
  unfold sluicegateref10_Same.f at H
  refine J.seq ?_
  refine J.region ?_
  refine RJ.run ttok 1 rfl ?_
  refine RJ.fin [(0, .slice A1 a0.length c_1), (1, .slice A2 a1.length c_2)] rfl ?_
  refine J.seq ?_
  refine J.seq ?_
  refine J.region ?_
  refine RJ.run ttok 5 rfl ?_
  refine RJ.fin [(0, .slice A1 a0.length c_1), (1, .slice A2 a1.length c_2), (10, .bool (!decide ((a0.length : Int) = (a1.length : Int))))] rfl ?_
  refine J.cond rfl (fun c1 => ?_) (fun c1 => ?_)
  · replace H := ite_t c1 H
    refine J.seq ?_
    refine J.region ?_
    refine RJ.run ttok 1 rfl ?_
    refine RJ.fin [(4, .bool false)] rfl ?_
    refine J.ret ?_
    obtain rfl := Option.some.inj H
    exact ⟨_, _, _, (results_slots rfl), ⟨rfl, rfl⟩, h0.only [] rfl⟩
  · replace H := ite_f c1 H
    refine J.skip ?_
    refine J.seq ?_
    refine J.seq ?_
    refine J.region ?_
    refine RJ.run ttok 1 rfl ?_
    refine RJ.fin [(0, .slice A1 a0.length c_1), (1, .slice A2 a1.length c_2), (5, .int .i64 0)] rfl ?_
    refine J.block ?_
    have h4 := ((h0.only [] rfl).rds [0, 1] rfl)
    refine J.loop (fun k env w => ∃ (x1 : Int), env = [(0, .slice A1 a0.length c_1), (1, .slice A2 a1.length c_2), (5, .int .i64 x1)] ∧ St w0 F0 [] [rdC 48 (.pair .str (.pair .bool .str)) a0 (.slice A1 a0.length c_1), rdC 48 (.pair .str (.pair .bool .str)) a1 (.slice A2 a1.length c_2)] w ∧ sluicegateref10_Same.l0 k a0 a1 x1 = some r) (k := k) ⟨0, rfl, h4, H⟩ ?_
    rintro k1 env w1 ⟨x1, rfl, h1, H⟩
    cases k1 with
    | zero => exact nomatch (show none = some r from H)
    | succ k1 =>
      rw [sluicegateref10_Same.l0] at H
      refine J.seq ?_
      refine J.seq ?_
      refine J.region ?_
      refine RJ.run ttok 4 rfl ?_
      refine RJ.fin [(0, .slice A1 a0.length c_1), (1, .slice A2 a1.length c_2), (5, .int .i64 x1), (14, .bool (decide (x1 < (a0.length : Int))))] rfl ?_
      refine J.cond rfl (fun c2 => ?_) (fun c2 => ?_)
      · replace H := ite_t c2 H
        refine J.skip ?_
        refine J.seq ?_
        refine J.block ?_
        refine J.seq ?_
        refine J.heldSt mix h1 ?_
        have h2 := h1.drew
        refine HJ.run ttok rfl [0, 1, 4, 5] rfl ?_
        obtain ⟨⟨p1, p2⟩, H⟩ := guard_t H
        have e1 := elem_A h2.wh (Gives.self 0 rfl) p1 p2
        refine HJ.q (i := 2) rfl rfl rfl rfl rfl rfl (q_index ttok rfl rfl rfl rfl rfl e1 p1 p2) ?_
        refine HJ.q (i := 3) rfl rfl rfl rfl rfl rfl (q_load_elem (f := 0) ttok rfl (fun w e => e) (Gives.self 0 rfl) p1 p2 rfl rfl rfl rfl rfl) ?_
        obtain ⟨⟨p3, p4⟩, H⟩ := guard_t H
        have e2 := elem_A h2.wh (Gives.self 1 rfl) p3 p4
        refine HJ.q (i := 6) rfl rfl rfl rfl rfl rfl (q_index ttok rfl rfl rfl rfl rfl e2 p3 p4) ?_
        refine HJ.q (i := 7) rfl rfl rfl rfl rfl rfl (q_load_elem (f := 0) ttok rfl (fun w e => e) (Gives.self 1 rfl) p3 p4 rfl rfl rfl rfl rfl) ?_
        refine HJ.run ttok rfl [8] rfl ?_
        refine HJ.fin [(0, .slice A1 a0.length c_1), (1, .slice A2 a1.length c_2), (5, .int .i64 x1), (25, .bool (!((decide (((gt a0 x1).1) = ((gt a1 x1).1))) && ((((gt a0 x1).2.1) == ((gt a1 x1).2.1)) && ((decide (((gt a0 x1).2.2) = ((gt a1 x1).2.2))) && true)))))] rfl rfl ?_
        refine J.cond rfl (fun c3 => ?_) (fun c3 => ?_)
        · replace H := ite_t c3 H
          refine J.seq ?_
          refine J.region ?_
          refine RJ.run ttok 1 rfl ?_
          refine RJ.fin [(4, .bool false)] rfl ?_
          refine J.ret ?_
          obtain rfl := Option.some.inj H
          exact ⟨_, _, _, (results_slots rfl), ⟨rfl, rfl⟩, h2.only [] rfl⟩
        · replace H := ite_f c3 H
          refine J.skip ?_
          refine J.region ?_
          refine RJ.run ttok 3 rfl ?_
          refine RJ.fin [(0, .slice A1 a0.length c_1), (1, .slice A2 a1.length c_2), (5, .int .i64 (w64 (x1 + 1)))] rfl ?_
          have h3 := ((h2.only [] rfl).rds [0, 1] rfl)
          exact ⟨k1, by omega, (w64 (x1 + 1)), rfl, h3, H⟩
      · replace H := ite_f c2 H
        refine J.exit ?_
        refine J.seq ?_
        refine J.region ?_
        refine RJ.run ttok 1 rfl ?_
        refine RJ.fin [(4, .bool true)] rfl ?_
        refine J.ret ?_
        obtain rfl := Option.some.inj H
        exact ⟨_, _, _, (results_slots rfl), ⟨rfl, rfl⟩, h1.only [] rfl⟩

/-! sluicegate/sluicegateref11.Same -/
def sluicegateref11_Same.l0 : Nat → (List (List UInt8 × List UInt8)) → (List (List UInt8 × List UInt8)) → (Int) → Option (Bool)
  | 0, _, _, _ => none
  | k + 1, a0, a1, x1 => if (decide (x1 < (a0.length : Int))) = true then (if 0 ≤ x1 ∧ x1 < (a0.length : Int) then (if 0 ≤ x1 ∧ x1 < (a1.length : Int) then (if (!((decide (((gt a0 x1).1) = ((gt a1 x1).1))) && ((decide (((gt a0 x1).2) = ((gt a1 x1).2))) && true))) = true then (some false) else (sluicegateref11_Same.l0 k a0 a1 (w64 (x1 + 1)))) else none) else none) else (some true)
def sluicegateref11_Same.f (k : Nat) (a0 : List (List UInt8 × List UInt8)) (a1 : List (List UInt8 × List UInt8)) : Option (Bool) := if (!decide ((a0.length : Int) = (a1.length : Int))) = true then (some false) else (sluicegateref11_Same.l0 k a0 a1 0)
set_option maxRecDepth 20000 in
set_option maxHeartbeats 4000000 in
theorem sluicegateref11_Same.spec {k : Nat} {a0 : List (List UInt8 × List UInt8)} {a1 : List (List UInt8 × List UInt8)} {A1 : Option Addr} {c_1 : Nat} {A2 : Option Addr} {c_2 : Nat} {r : Bool} (H : sluicegateref11_Same.f k a0 a1 = some r) :
    Spec Try.prog 44 [.slice A1 a0.length c_1, .slice A2 a1.length c_2] [] [rdC 50 (.pair .str .str) a0 (.slice A1 a0.length c_1), rdC 50 (.pair .str .str) a1 (.slice A2 a1.length c_2)] (fun v l => v = .bool r ∧ l = []) := by
  refine Spec.enter Try.func44 rfl (by kernel_rfl) (by kernel_rfl) fun w0 F0 h0 => ?_
  unfold sluicegateref11_Same.f at H
  refine J.seq ?_
  refine J.region ?_
  refine RJ.run ttok 1 rfl ?_
  refine RJ.fin [(0, .slice A1 a0.length c_1), (1, .slice A2 a1.length c_2)] rfl ?_
  refine J.seq ?_
  refine J.seq ?_
  refine J.region ?_
  refine RJ.run ttok 5 rfl ?_
  refine RJ.fin [(0, .slice A1 a0.length c_1), (1, .slice A2 a1.length c_2), (10, .bool (!decide ((a0.length : Int) = (a1.length : Int))))] rfl ?_
  refine J.cond rfl (fun c1 => ?_) (fun c1 => ?_)
  · replace H := ite_t c1 H
    refine J.seq ?_
    refine J.region ?_
    refine RJ.run ttok 1 rfl ?_
    refine RJ.fin [(4, .bool false)] rfl ?_
    refine J.ret ?_
    obtain rfl := Option.some.inj H
    exact ⟨_, _, _, (results_slots rfl), ⟨rfl, rfl⟩, h0.only [] rfl⟩
  · replace H := ite_f c1 H
    refine J.skip ?_
    refine J.seq ?_
    refine J.seq ?_
    refine J.region ?_
    refine RJ.run ttok 1 rfl ?_
    refine RJ.fin [(0, .slice A1 a0.length c_1), (1, .slice A2 a1.length c_2), (5, .int .i64 0)] rfl ?_
    refine J.block ?_
    have h4 := ((h0.only [] rfl).rds [0, 1] rfl)
    refine J.loop (fun k env w => ∃ (x1 : Int), env = [(0, .slice A1 a0.length c_1), (1, .slice A2 a1.length c_2), (5, .int .i64 x1)] ∧ St w0 F0 [] [rdC 50 (.pair .str .str) a0 (.slice A1 a0.length c_1), rdC 50 (.pair .str .str) a1 (.slice A2 a1.length c_2)] w ∧ sluicegateref11_Same.l0 k a0 a1 x1 = some r) (k := k) ⟨0, rfl, h4, H⟩ ?_
    rintro k1 env w1 ⟨x1, rfl, h1, H⟩
    cases k1 with
    | zero => exact nomatch (show none = some r from H)
    | succ k1 =>
      rw [sluicegateref11_Same.l0] at H
      refine J.seq ?_
      refine J.seq ?_
      refine J.region ?_
      refine RJ.run ttok 4 rfl ?_
      refine RJ.fin [(0, .slice A1 a0.length c_1), (1, .slice A2 a1.length c_2), (5, .int .i64 x1), (14, .bool (decide (x1 < (a0.length : Int))))] rfl ?_
      refine J.cond rfl (fun c2 => ?_) (fun c2 => ?_)
      · replace H := ite_t c2 H
        refine J.skip ?_
        refine J.seq ?_
        refine J.block ?_
        refine J.seq ?_
        refine J.heldSt mix h1 ?_
        have h2 := h1.drew
        refine HJ.run ttok rfl [0, 1, 4, 5] rfl ?_
        obtain ⟨⟨p1, p2⟩, H⟩ := guard_t H
        have e1 := elem_A h2.wh (Gives.self 0 rfl) p1 p2
        refine HJ.q (i := 2) rfl rfl rfl rfl rfl rfl (q_index ttok rfl rfl rfl rfl rfl e1 p1 p2) ?_
        refine HJ.q (i := 3) rfl rfl rfl rfl rfl rfl (q_load_elem (f := 0) ttok rfl (fun w e => e) (Gives.self 0 rfl) p1 p2 rfl rfl rfl rfl rfl) ?_
        obtain ⟨⟨p3, p4⟩, H⟩ := guard_t H
        have e2 := elem_A h2.wh (Gives.self 1 rfl) p3 p4
        refine HJ.q (i := 6) rfl rfl rfl rfl rfl rfl (q_index ttok rfl rfl rfl rfl rfl e2 p3 p4) ?_
        refine HJ.q (i := 7) rfl rfl rfl rfl rfl rfl (q_load_elem (f := 0) ttok rfl (fun w e => e) (Gives.self 1 rfl) p3 p4 rfl rfl rfl rfl rfl) ?_
        refine HJ.run ttok rfl [8] rfl ?_
        refine HJ.fin [(0, .slice A1 a0.length c_1), (1, .slice A2 a1.length c_2), (5, .int .i64 x1), (25, .bool (!((decide (((gt a0 x1).1) = ((gt a1 x1).1))) && ((decide (((gt a0 x1).2) = ((gt a1 x1).2))) && true))))] rfl rfl ?_
        refine J.cond rfl (fun c3 => ?_) (fun c3 => ?_)
        · replace H := ite_t c3 H
          refine J.seq ?_
          refine J.region ?_
          refine RJ.run ttok 1 rfl ?_
          refine RJ.fin [(4, .bool false)] rfl ?_
          refine J.ret ?_
          obtain rfl := Option.some.inj H
          exact ⟨_, _, _, (results_slots rfl), ⟨rfl, rfl⟩, h2.only [] rfl⟩
        · replace H := ite_f c3 H
          refine J.skip ?_
          refine J.region ?_
          refine RJ.run ttok 3 rfl ?_
          refine RJ.fin [(0, .slice A1 a0.length c_1), (1, .slice A2 a1.length c_2), (5, .int .i64 (w64 (x1 + 1)))] rfl ?_
          have h3 := ((h2.only [] rfl).rds [0, 1] rfl)
          exact ⟨k1, by omega, (w64 (x1 + 1)), rfl, h3, H⟩
      · replace H := ite_f c2 H
        refine J.exit ?_
        refine J.seq ?_
        refine J.region ?_
        refine RJ.run ttok 1 rfl ?_
        refine RJ.fin [(4, .bool true)] rfl ?_
        refine J.ret ?_
        obtain rfl := Option.some.inj H
        exact ⟨_, _, _, (results_slots rfl), ⟨rfl, rfl⟩, h1.only [] rfl⟩

/-! sluicegate/sluicegateref13.Same -/
def sluicegateref13_Same.f (k : Nat) (a0 : Int × List (Int) × List (List UInt8) × (List (List UInt8 × Bool × List UInt8)) × (List (List UInt8 × List UInt8))) (a1 : Int × List (Int) × List (List UInt8) × (List (List UInt8 × Bool × List UInt8)) × (List (List UInt8 × List UInt8))) : Option (Bool) := if (decide (a0.1 = a1.1)) = true then ((sluicegateref13_Blocks.f k a0.2.1 a1.2.1).bind fun r1 => (if r1 = true then ((sluicegateref12_Same.f k a0.2.2.1 a1.2.2.1).bind fun r2 => (if r2 = true then ((sluicegateref10_Same.f k a0.2.2.2.1 a1.2.2.2.1).bind fun r3 => (if r3 = true then ((sluicegateref11_Same.f k a0.2.2.2.2 a1.2.2.2.2).bind fun r4 => (some r4)) else (some false))) else (some false))) else (some false))) else (some false)
set_option maxRecDepth 20000 in
set_option maxHeartbeats 4000000 in
theorem sluicegateref13_Same.spec {k : Nat} {a0 : Int × List (Int) × List (List UInt8) × (List (List UInt8 × Bool × List UInt8)) × (List (List UInt8 × List UInt8))} {a1 : Int × List (Int) × List (List UInt8) × (List (List UInt8 × Bool × List UInt8)) × (List (List UInt8 × List UInt8))} {A1 : Option Addr} {c_1 : Nat} {A2 : Option Addr} {c_2 : Nat} {A3 : Option Addr} {c_3 : Nat} {A4 : Option Addr} {c_4 : Nat} {A5 : Option Addr} {c_5 : Nat} {A6 : Option Addr} {c_6 : Nat} {A7 : Option Addr} {c_7 : Nat} {A8 : Option Addr} {c_8 : Nat} {r : Bool} (H : sluicegateref13_Same.f k a0 a1 = some r) :
    Spec Try.prog 20 [.agg #[.int .i64 a0.1, .slice A1 a0.2.1.length c_1, .slice A2 a0.2.2.1.length c_2, .slice A3 a0.2.2.2.1.length c_3, .slice A4 a0.2.2.2.2.length c_4], .agg #[.int .i64 a1.1, .slice A5 a1.2.1.length c_5, .slice A6 a1.2.2.1.length c_6, .slice A7 a1.2.2.2.1.length c_7, .slice A8 a1.2.2.2.2.length c_8]] [] [rdC 46 (.int .u32) a0.2.1 (.slice A1 a0.2.1.length c_1), rdC 9 .str a0.2.2.1 (.slice A2 a0.2.2.1.length c_2), rdC 48 (.pair .str (.pair .bool .str)) a0.2.2.2.1 (.slice A3 a0.2.2.2.1.length c_3), rdC 50 (.pair .str .str) a0.2.2.2.2 (.slice A4 a0.2.2.2.2.length c_4), rdC 46 (.int .u32) a1.2.1 (.slice A5 a1.2.1.length c_5), rdC 9 .str a1.2.2.1 (.slice A6 a1.2.2.1.length c_6), rdC 48 (.pair .str (.pair .bool .str)) a1.2.2.2.1 (.slice A7 a1.2.2.2.1.length c_7), rdC 50 (.pair .str .str) a1.2.2.2.2 (.slice A8 a1.2.2.2.2.length c_8)] (fun v l => v = .bool r ∧ l = []) := by
  refine Spec.enter Try.func20 rfl (by kernel_rfl) (by kernel_rfl) fun w0 F0 h0 => ?_
  unfold sluicegateref13_Same.f at H
  refine J.seq ?_
  refine J.region ?_
  refine RJ.op rfl rfl (op_box rfl rfl h0) ?_
  rintro _ w1 ⟨b1, rfl, h1⟩
  refine RJ.op rfl rfl (op_box rfl rfl h1) ?_
  rintro _ w2 ⟨b2, rfl, h2⟩
  refine RJ.run ttok 1 rfl ?_
  refine RJ.fin [(2, .pointer (some ⟨b1, 0, none⟩)), (3, .pointer (some ⟨b2, 0, none⟩))] rfl ?_
  refine J.seq ?_
  refine J.region ?_
  refine RJ.run ttok 1 rfl ?_
  refine RJ.q rfl rfl (q_load_box ttok 1 (fun w e => e ▸ h2.wh) rfl rfl rfl rfl rfl) ?_
  refine RJ.run ttok 1 rfl ?_
  refine RJ.q rfl rfl (q_load_box ttok 0 (fun w e => e ▸ h2.wh) rfl rfl rfl rfl rfl) ?_
  refine RJ.run ttok 2 rfl ?_
  rcases Bool.eq_false_or_eq_true (decide (a0.1 = a1.1)) with c1 | c1
  · replace H := ite_t c1 H
    refine RJ.know (t := 10) rfl (congrArg Value.bool c1) ?_
    refine RJ.run ttok 1 rfl ?_
    refine RJ.q rfl rfl (q_load_box ttok 1 (fun w e => e ▸ h2.wh) rfl rfl rfl rfl rfl) ?_
    refine RJ.run ttok 1 rfl ?_
    refine RJ.q rfl rfl (q_load_box ttok 0 (fun w e => e ▸ h2.wh) rfl rfl rfl rfl rfl) ?_
    obtain ⟨r1, q1, H⟩ := bind_t H
    refine RJ.op rfl rfl (op_call [] (sluicegateref13_Blocks.spec q1) rfl rfl rfl h2 rfl (gcons (Gives.self 2 rfl) (gcons (Gives.self 6 rfl) gnil))) ?_
    rintro _ w3 ⟨_, ⟨rfl, rfl⟩, h3⟩
    refine RJ.run ttok 2 rfl ?_
    rcases Bool.eq_false_or_eq_true r1 with c2 | c2
    · replace H := ite_t c2 H
      refine RJ.know (t := 17) rfl (congrArg Value.bool c2) ?_
      refine RJ.run ttok 1 rfl ?_
      refine RJ.q rfl rfl (q_load_box ttok 1 (fun w e => e ▸ h3.wh) rfl rfl rfl rfl rfl) ?_
      refine RJ.run ttok 1 rfl ?_
      refine RJ.q rfl rfl (q_load_box ttok 0 (fun w e => e ▸ h3.wh) rfl rfl rfl rfl rfl) ?_
      obtain ⟨r2, q2, H⟩ := bind_t H
      refine RJ.op rfl rfl (op_call [] (sluicegateref12_Same.spec q2) rfl rfl rfl h3 rfl (gcons (Gives.self 3 rfl) (gcons (Gives.self 7 rfl) gnil))) ?_
      rintro _ w4 ⟨_, ⟨rfl, rfl⟩, h4⟩
      refine RJ.run ttok 2 rfl ?_
      rcases Bool.eq_false_or_eq_true r2 with c3 | c3
      · replace H := ite_t c3 H
        refine RJ.know (t := 24) rfl (congrArg Value.bool c3) ?_
        refine RJ.run ttok 1 rfl ?_
        refine RJ.q rfl rfl (q_load_box ttok 1 (fun w e => e ▸ h4.wh) rfl rfl rfl rfl rfl) ?_
        refine RJ.run ttok 1 rfl ?_
        refine RJ.q rfl rfl (q_load_box ttok 0 (fun w e => e ▸ h4.wh) rfl rfl rfl rfl rfl) ?_
        obtain ⟨r3, q3, H⟩ := bind_t H
        refine RJ.op rfl rfl (op_call [] (sluicegateref10_Same.spec q3) rfl rfl rfl h4 rfl (gcons (Gives.self 4 rfl) (gcons (Gives.self 8 rfl) gnil))) ?_
        rintro _ w5 ⟨_, ⟨rfl, rfl⟩, h5⟩
        refine RJ.run ttok 2 rfl ?_
        rcases Bool.eq_false_or_eq_true r3 with c4 | c4
        · replace H := ite_t c4 H
          refine RJ.know (t := 31) rfl (congrArg Value.bool c4) ?_
          refine RJ.run ttok 1 rfl ?_
          refine RJ.q rfl rfl (q_load_box ttok 1 (fun w e => e ▸ h5.wh) rfl rfl rfl rfl rfl) ?_
          refine RJ.run ttok 1 rfl ?_
          refine RJ.q rfl rfl (q_load_box ttok 0 (fun w e => e ▸ h5.wh) rfl rfl rfl rfl rfl) ?_
          obtain ⟨r4, q4, H⟩ := bind_t H
          refine RJ.op rfl rfl (op_call [] (sluicegateref11_Same.spec q4) rfl rfl rfl h5 rfl (gcons (Gives.self 5 rfl) (gcons (Gives.self 9 rfl) gnil))) ?_
          rintro _ w6 ⟨_, ⟨rfl, rfl⟩, h6⟩
          refine RJ.run ttok 2 rfl ?_
          refine RJ.fin [(4, .bool r4)] rfl ?_
          refine J.ret ?_
          obtain rfl := Option.some.inj H
          exact ⟨_, _, _, (results_slots rfl), ⟨rfl, rfl⟩, h6.only [] rfl⟩
        · replace H := ite_f c4 H
          refine RJ.know (t := 31) rfl (congrArg Value.bool c4) ?_
          refine RJ.run ttok 7 rfl ?_
          refine RJ.fin [(4, .bool false)] rfl ?_
          refine J.ret ?_
          obtain rfl := Option.some.inj H
          exact ⟨_, _, _, (results_slots rfl), ⟨rfl, rfl⟩, h5.only [] rfl⟩
      · replace H := ite_f c3 H
        refine RJ.know (t := 24) rfl (congrArg Value.bool c3) ?_
        refine RJ.run ttok 14 rfl ?_
        refine RJ.fin [(4, .bool false)] rfl ?_
        refine J.ret ?_
        obtain rfl := Option.some.inj H
        exact ⟨_, _, _, (results_slots rfl), ⟨rfl, rfl⟩, h4.only [] rfl⟩
    · replace H := ite_f c2 H
      refine RJ.know (t := 17) rfl (congrArg Value.bool c2) ?_
      refine RJ.run ttok 21 rfl ?_
      refine RJ.fin [(4, .bool false)] rfl ?_
      refine J.ret ?_
      obtain rfl := Option.some.inj H
      exact ⟨_, _, _, (results_slots rfl), ⟨rfl, rfl⟩, h3.only [] rfl⟩
  · replace H := ite_f c1 H
    refine RJ.know (t := 10) rfl (congrArg Value.bool c1) ?_
    refine RJ.run ttok 28 rfl ?_
    refine RJ.fin [(4, .bool false)] rfl ?_
    refine J.ret ?_
    obtain rfl := Option.some.inj H
    exact ⟨_, _, _, (results_slots rfl), ⟨rfl, rfl⟩, h2.only [] rfl⟩

/-! sluicegate/cleave.Fits -/
def cleave_Fits.f (a0 : Int × Int × Int × Int × Int × Int × Int × Int) (a1 : Int × List (Int) × List (List UInt8) × (List (List UInt8 × Bool × List UInt8)) × (List (List UInt8 × List UInt8))) (a2 : Int × List (Int) × List (List UInt8) × (List (List UInt8 × Bool × List UInt8)) × (List (List UInt8 × List UInt8))) : Option (Bool) := if (!decide (a1.1 = a2.1)) = true then (some false) else (if (decide (a1.1 = 0)) = true then (some (decide ((w64 ((a1.2.2.2.2.length : Int) + (a2.2.2.2.2.length : Int))) ≤ (w64 (Int.tdiv a0.2.2.2.2.2.1 2))))) else (if (decide ((w64 ((a1.2.1.length : Int) + (a2.2.1.length : Int))) ≤ (w64 (Int.tdiv a0.2.2.2.1 2)))) = true then (some (decide ((w64 ((a1.2.2.2.1.length : Int) + (a2.2.2.2.1.length : Int))) ≤ a0.2.2.2.2.1))) else (some false)))
set_option maxRecDepth 20000 in
set_option maxHeartbeats 4000000 in
theorem cleave_Fits.spec {a0 : Int × Int × Int × Int × Int × Int × Int × Int} {a1 : Int × List (Int) × List (List UInt8) × (List (List UInt8 × Bool × List UInt8)) × (List (List UInt8 × List UInt8))} {a2 : Int × List (Int) × List (List UInt8) × (List (List UInt8 × Bool × List UInt8)) × (List (List UInt8 × List UInt8))} {A1 : Option Addr} {c_1 : Nat} {A2 : Option Addr} {c_2 : Nat} {A3 : Option Addr} {c_3 : Nat} {A4 : Option Addr} {c_4 : Nat} {A5 : Option Addr} {c_5 : Nat} {A6 : Option Addr} {c_6 : Nat} {A7 : Option Addr} {c_7 : Nat} {A8 : Option Addr} {c_8 : Nat} {r : Bool} (H : cleave_Fits.f a0 a1 a2 = some r) :
    Spec Try.prog 23 [.agg #[.int .i64 a0.1, .int .i64 a0.2.1, .int .i64 a0.2.2.1, .int .i64 a0.2.2.2.1, .int .i64 a0.2.2.2.2.1, .int .i64 a0.2.2.2.2.2.1, .int .i64 a0.2.2.2.2.2.2.1, .int .i64 a0.2.2.2.2.2.2.2], .agg #[.int .i64 a1.1, .slice A1 a1.2.1.length c_1, .slice A2 a1.2.2.1.length c_2, .slice A3 a1.2.2.2.1.length c_3, .slice A4 a1.2.2.2.2.length c_4], .agg #[.int .i64 a2.1, .slice A5 a2.2.1.length c_5, .slice A6 a2.2.2.1.length c_6, .slice A7 a2.2.2.2.1.length c_7, .slice A8 a2.2.2.2.2.length c_8]] [] [rdC 46 (.int .u32) a1.2.1 (.slice A1 a1.2.1.length c_1), rdC 9 .str a1.2.2.1 (.slice A2 a1.2.2.1.length c_2), rdC 48 (.pair .str (.pair .bool .str)) a1.2.2.2.1 (.slice A3 a1.2.2.2.1.length c_3), rdC 50 (.pair .str .str) a1.2.2.2.2 (.slice A4 a1.2.2.2.2.length c_4), rdC 46 (.int .u32) a2.2.1 (.slice A5 a2.2.1.length c_5), rdC 9 .str a2.2.2.1 (.slice A6 a2.2.2.1.length c_6), rdC 48 (.pair .str (.pair .bool .str)) a2.2.2.2.1 (.slice A7 a2.2.2.2.1.length c_7), rdC 50 (.pair .str .str) a2.2.2.2.2 (.slice A8 a2.2.2.2.2.length c_8)] (fun v l => v = .bool r ∧ l = []) := by
  refine Spec.enter Try.func23 rfl (by kernel_rfl) (by kernel_rfl) fun w0 F0 h0 => ?_
  unfold cleave_Fits.f at H
  refine J.seq ?_
  refine J.region ?_
  refine RJ.op rfl rfl (op_box rfl rfl h0) ?_
  rintro _ w1 ⟨b1, rfl, h1⟩
  refine RJ.op rfl rfl (op_box rfl rfl h1) ?_
  rintro _ w2 ⟨b2, rfl, h2⟩
  refine RJ.op rfl rfl (op_box rfl rfl h2) ?_
  rintro _ w3 ⟨b3, rfl, h3⟩
  refine RJ.run ttok 1 rfl ?_
  refine RJ.fin [(3, .pointer (some ⟨b1, 0, none⟩)), (4, .pointer (some ⟨b2, 0, none⟩)), (5, .pointer (some ⟨b3, 0, none⟩))] rfl ?_
  refine J.seq ?_
  refine J.seq ?_
  refine J.region ?_
  refine RJ.run ttok 1 rfl ?_
  refine RJ.q rfl rfl (q_load_box ttok 1 (fun w e => e ▸ h3.wh) rfl rfl rfl rfl rfl) ?_
  refine RJ.run ttok 1 rfl ?_
  refine RJ.q rfl rfl (q_load_box ttok 0 (fun w e => e ▸ h3.wh) rfl rfl rfl rfl rfl) ?_
  refine RJ.run ttok 1 rfl ?_
  refine RJ.fin [(3, .pointer (some ⟨b1, 0, none⟩)), (4, .pointer (some ⟨b2, 0, none⟩)), (5, .pointer (some ⟨b3, 0, none⟩)), (11, .bool (!decide (a1.1 = a2.1)))] rfl ?_
  refine J.cond rfl (fun c1 => ?_) (fun c1 => ?_)
  · replace H := ite_t c1 H
    refine J.seq ?_
    refine J.region ?_
    refine RJ.run ttok 1 rfl ?_
    refine RJ.fin [(6, .bool false)] rfl ?_
    refine J.ret ?_
    obtain rfl := Option.some.inj H
    exact ⟨_, _, _, (results_slots rfl), ⟨rfl, rfl⟩, h3.only [] rfl⟩
  · replace H := ite_f c1 H
    refine J.skip ?_
    refine J.seq ?_
    refine J.seq ?_
    refine J.region ?_
    refine RJ.run ttok 1 rfl ?_
    refine RJ.q rfl rfl (q_load_box ttok 1 (fun w e => e ▸ h3.wh) rfl rfl rfl rfl rfl) ?_
    refine RJ.run ttok 1 rfl ?_
    refine RJ.fin [(3, .pointer (some ⟨b1, 0, none⟩)), (4, .pointer (some ⟨b2, 0, none⟩)), (5, .pointer (some ⟨b3, 0, none⟩)), (14, .bool (decide (a1.1 = 0)))] rfl ?_
    refine J.cond rfl (fun c2 => ?_) (fun c2 => ?_)
    · replace H := ite_t c2 H
      refine J.seq ?_
      refine J.region ?_
      refine RJ.run ttok 1 rfl ?_
      refine RJ.q rfl rfl (q_load_box ttok 1 (fun w e => e ▸ h3.wh) rfl rfl rfl rfl rfl) ?_
      refine RJ.run ttok 2 rfl ?_
      refine RJ.q rfl rfl (q_load_box ttok 0 (fun w e => e ▸ h3.wh) rfl rfl rfl rfl rfl) ?_
      refine RJ.run ttok 3 rfl ?_
      refine RJ.q rfl rfl (q_load_box ttok 2 (fun w e => e ▸ h3.wh) rfl rfl rfl rfl rfl) ?_
      refine RJ.run ttok 3 rfl ?_
      refine RJ.fin [(6, .bool (decide ((w64 ((a1.2.2.2.2.length : Int) + (a2.2.2.2.2.length : Int))) ≤ (w64 (Int.tdiv a0.2.2.2.2.2.1 2)))))] rfl ?_
      refine J.ret ?_
      obtain rfl := Option.some.inj H
      exact ⟨_, _, _, (results_slots rfl), ⟨rfl, rfl⟩, h3.only [] rfl⟩
    · replace H := ite_f c2 H
      refine J.skip ?_
      refine J.seq ?_
      refine J.region ?_
      refine RJ.run ttok 1 rfl ?_
      refine RJ.q rfl rfl (q_load_box ttok 1 (fun w e => e ▸ h3.wh) rfl rfl rfl rfl rfl) ?_
      refine RJ.run ttok 2 rfl ?_
      refine RJ.q rfl rfl (q_load_box ttok 0 (fun w e => e ▸ h3.wh) rfl rfl rfl rfl rfl) ?_
      refine RJ.run ttok 3 rfl ?_
      refine RJ.q rfl rfl (q_load_box ttok 2 (fun w e => e ▸ h3.wh) rfl rfl rfl rfl rfl) ?_
      refine RJ.run ttok 3 rfl ?_
      rcases Bool.eq_false_or_eq_true (decide ((w64 ((a1.2.1.length : Int) + (a2.2.1.length : Int))) ≤ (w64 (Int.tdiv a0.2.2.2.1 2)))) with c3 | c3
      · replace H := ite_t c3 H
        refine RJ.know (t := 37) rfl (congrArg Value.bool c3) ?_
        refine RJ.run ttok 1 rfl ?_
        refine RJ.q rfl rfl (q_load_box ttok 1 (fun w e => e ▸ h3.wh) rfl rfl rfl rfl rfl) ?_
        refine RJ.run ttok 2 rfl ?_
        refine RJ.q rfl rfl (q_load_box ttok 0 (fun w e => e ▸ h3.wh) rfl rfl rfl rfl rfl) ?_
        refine RJ.run ttok 3 rfl ?_
        refine RJ.q rfl rfl (q_load_box ttok 2 (fun w e => e ▸ h3.wh) rfl rfl rfl rfl rfl) ?_
        refine RJ.run ttok 3 rfl ?_
        refine RJ.fin [(6, .bool (decide ((w64 ((a1.2.2.2.1.length : Int) + (a2.2.2.2.1.length : Int))) ≤ a0.2.2.2.2.1)))] rfl ?_
        refine J.ret ?_
        obtain rfl := Option.some.inj H
        exact ⟨_, _, _, (results_slots rfl), ⟨rfl, rfl⟩, h3.only [] rfl⟩
      · replace H := ite_f c3 H
        refine RJ.know (t := 37) rfl (congrArg Value.bool c3) ?_
        refine RJ.run ttok 12 rfl ?_
        refine RJ.fin [(6, .bool false)] rfl ?_
        refine J.ret ?_
        obtain rfl := Option.some.inj H
        exact ⟨_, _, _, (results_slots rfl), ⟨rfl, rfl⟩, h3.only [] rfl⟩

/-! sluicegate/sluicegatelaw14.awake -/
def sluicegatelaw14_awake.f (k : Nat)  : Option (Bool) := (cleave_Halve.f k (1, ([4, 7, 2] : List (Int)), ([([98] : List UInt8), ([100] : List UInt8)] : List (List UInt8)), ([(([97] : List UInt8), false, ([] : List UInt8)), (([99] : List UInt8), false, ([] : List UInt8)), (([101] : List UInt8), false, ([] : List UInt8))] : List (List UInt8 × Bool × List UInt8)), ([] : List (List UInt8 × List UInt8)))).bind fun r1 => ((cleave_Join.f (r1.1.1, r1.1.2.1, r1.1.2.2.1, r1.1.2.2.2.1, r1.1.2.2.2.2) r1.2.2.1 (r1.2.1.1, r1.2.1.2.1, r1.2.1.2.2.1, r1.2.1.2.2.2.1, r1.2.1.2.2.2.2)).bind fun r2 => (if r1.2.2.2 = true then (if (decide (r1.2.2.1 = ([100] : List UInt8))) = true then (if (decide ((r1.1.2.1.length : Int) = 2)) = true then (if (decide ((r1.1.2.2.2.1.length : Int) = 2)) = true then (if (decide ((r1.2.1.2.1.length : Int) = 1)) = true then (if (decide ((r1.2.1.2.2.2.1.length : Int) = 1)) = true then (if r2.2 = true then ((sluicegateref13_Same.f k (r2.1.1, r2.1.2.1, r2.1.2.2.1, r2.1.2.2.2.1, r2.1.2.2.2.2) (1, ([4, 7, 2] : List (Int)), ([([98] : List UInt8), ([100] : List UInt8)] : List (List UInt8)), ([(([97] : List UInt8), false, ([] : List UInt8)), (([99] : List UInt8), false, ([] : List UInt8)), (([101] : List UInt8), false, ([] : List UInt8))] : List (List UInt8 × Bool × List UInt8)), ([] : List (List UInt8 × List UInt8)))).bind fun r3 => (if r3 = true then ((cleave_Fits.f (0, 0, 0, 8, 16, 0, 0, 0) (r1.1.1, r1.1.2.1, r1.1.2.2.1, r1.1.2.2.2.1, r1.1.2.2.2.2) (r1.2.1.1, r1.2.1.2.1, r1.2.1.2.2.1, r1.2.1.2.2.2.1, r1.2.1.2.2.2.2)).bind fun r4 => (some r4)) else (some false))) else (some false)) else (some false)) else (some false)) else (some false)) else (some false)) else (some false)) else (some false)))
set_option maxRecDepth 20000 in
set_option maxHeartbeats 4000000 in
theorem sluicegatelaw14_awake.spec {k : Nat}   {r : Bool} (H : sluicegatelaw14_awake.f k  = some r) :
    Spec Try.prog 16 [] [] [] (fun v l => v = .bool r ∧ l = []) := by
  refine Spec.enter Try.func16 rfl (by kernel_rfl) (by kernel_rfl) fun w0 F0 h0 => ?_
  unfold sluicegatelaw14_awake.f at H
  refine J.seq ?_
  refine J.region ?_
  refine RJ.run ttok 1 rfl ?_
  refine RJ.fin [] rfl ?_
  refine J.seq ?_
  refine J.region ?_
  refine RJ.op rfl rfl (op_lit ttok (.int .u32) rfl ([4, 7, 2] : List (Int)) rfl h0 rfl rfl (by decide) rfl rfl rfl rfl rfl rfl rfl) ?_
  rintro _ w1 ⟨b1, rfl, h1⟩
  refine RJ.op rfl rfl (op_lit ttok .str rfl ([([98] : List UInt8), ([100] : List UInt8)] : List (List UInt8)) rfl h1 rfl rfl (by decide) rfl rfl rfl rfl rfl rfl rfl) ?_
  rintro _ w2 ⟨b2, rfl, h2⟩
  refine RJ.run ttok 3 rfl ?_
  refine RJ.op rfl rfl (op_lit ttok (.pair .str (.pair .bool .str)) rfl ([(([97] : List UInt8), false, ([] : List UInt8)), (([99] : List UInt8), false, ([] : List UInt8)), (([101] : List UInt8), false, ([] : List UInt8))] : List (List UInt8 × Bool × List UInt8)) rfl h2 rfl rfl (by decide) rfl rfl rfl rfl rfl rfl rfl) ?_
  rintro _ w3 ⟨b3, rfl, h3⟩
  refine RJ.run ttok 1 rfl ?_
  refine RJ.op rfl rfl (op_alloc ttok rfl rfl h3) ?_
  rintro _ w4 ⟨b4, rfl, h4⟩
  refine RJ.op rfl rfl (op_store ttok 0 rfl h4 rfl rfl rfl rfl rfl rfl rfl) ?_
  intro _ w5 h5
  replace h5 : St w0 F0 (boxC b4 31 [.int .i64 1, .slice (some ⟨b1, 0, none⟩) ([4, 7, 2] : List (Int)).length 3, .slice (some ⟨b2, 0, none⟩) ([([98] : List UInt8), ([100] : List UInt8)] : List (List UInt8)).length 2, .slice (some ⟨b3, 0, none⟩) ([(([97] : List UInt8), false, ([] : List UInt8)), (([99] : List UInt8), false, ([] : List UInt8)), (([101] : List UInt8), false, ([] : List UInt8))] : List (List UInt8 × Bool × List UInt8)).length 3, .slice none ([] : List (List UInt8 × List UInt8)).length 0] :: _) _ w5 := h5
  refine RJ.fin [(1, .pointer (some ⟨b4, 0, none⟩))] rfl ?_
  refine J.seq ?_
  refine J.region ?_
  refine RJ.q rfl rfl (q_load_box ttok 0 (fun w e => e ▸ h5.wh) rfl rfl rfl rfl rfl) ?_
  have h6 := h5.addNil 50 (.pair .str .str)
  obtain ⟨r1, q1, H⟩ := bind_t H
  refine RJ.op rfl rfl (op_call [] (cleave_Halve.spec q1) rfl rfl rfl h6 rfl (gcons (Gives.of 4 rfl own_rd) (gcons (Gives.of 3 rfl own_rd) (gcons (Gives.of 2 rfl own_rd) (gcons (Gives.of 0 rfl own_rd) gnil))))) ?_
  rintro _ w6 ⟨_, ⟨A1, c_1, A2, c_2, A3, c_3, A4, c_4, A5, c_5, A6, c_6, A7, c_7, A8, c_8, rfl, rfl⟩, h7⟩
  refine RJ.run ttok 5 rfl ?_
  refine RJ.op rfl rfl (op_alloc ttok rfl rfl h7) ?_
  rintro _ w7 ⟨b5, rfl, h8⟩
  refine RJ.op rfl rfl (op_alloc ttok rfl rfl h8) ?_
  rintro _ w8 ⟨b6, rfl, h9⟩
  refine RJ.op rfl rfl (op_store ttok 1 rfl h9 rfl rfl rfl rfl rfl rfl rfl) ?_
  intro _ w9 h10
  replace h10 : St w0 F0 (boxC b5 31 [.int .i64 r1.1.1, .slice A1 r1.1.2.1.length c_1, .slice A2 r1.1.2.2.1.length c_2, .slice A3 r1.1.2.2.2.1.length c_3, .slice A4 r1.1.2.2.2.2.length c_4] :: _) _ w9 := h10
  refine RJ.op rfl rfl (op_store ttok 1 rfl h10 rfl rfl rfl rfl rfl rfl rfl) ?_
  intro _ w10 h11
  replace h11 : St w0 F0 (boxC b6 31 [.int .i64 r1.2.1.1, .slice A5 r1.2.1.2.1.length c_5, .slice A6 r1.2.1.2.2.1.length c_6, .slice A7 r1.2.1.2.2.2.1.length c_7, .slice A8 r1.2.1.2.2.2.2.length c_8] :: _) _ w10 := h11
  refine RJ.run ttok 2 rfl ?_
  refine RJ.fin [(1, .pointer (some ⟨b4, 0, none⟩)), (2, .pointer (some ⟨b5, 0, none⟩)), (3, .pointer (some ⟨b6, 0, none⟩)), (4, .string ⟨⟨r1.2.2.1⟩⟩), (5, .bool r1.2.2.2)] rfl ?_
  refine J.seq ?_
  refine J.region ?_
  refine RJ.q rfl rfl (q_load_box ttok 1 (fun w e => e ▸ h11.wh) rfl rfl rfl rfl rfl) ?_
  refine RJ.run ttok 1 rfl ?_
  refine RJ.q rfl rfl (q_load_box ttok 0 (fun w e => e ▸ h11.wh) rfl rfl rfl rfl rfl) ?_
  obtain ⟨r2, q2, H⟩ := bind_t H
  refine RJ.op rfl rfl (op_call [] (cleave_Join.spec q2) rfl rfl rfl h11 rfl (gcons (Gives.of 2 rfl own_rd) (gcons (Gives.of 3 rfl own_rd) (gcons (Gives.of 4 rfl own_rd) (gcons (Gives.of 5 rfl own_rd) (gcons (Gives.of 6 rfl own_rd) (gcons (Gives.of 7 rfl own_rd) (gcons (Gives.of 8 rfl own_rd) (gcons (Gives.of 9 rfl own_rd) gnil))))))))) ?_
  rintro _ w11 ⟨_, ⟨A9, c_9, A10, c_10, A11, c_11, A12, c_12, rfl, rfl⟩, h12⟩
  refine RJ.run ttok 3 rfl ?_
  refine RJ.op rfl rfl (op_alloc ttok rfl rfl h12) ?_
  rintro _ w12 ⟨b7, rfl, h13⟩
  refine RJ.op rfl rfl (op_store ttok 0 rfl h13 rfl rfl rfl rfl rfl rfl rfl) ?_
  intro _ w13 h14
  replace h14 : St w0 F0 (boxC b7 31 [.int .i64 r2.1.1, .slice A9 r2.1.2.1.length c_9, .slice A10 r2.1.2.2.1.length c_10, .slice A11 r2.1.2.2.2.1.length c_11, .slice A12 r2.1.2.2.2.2.length c_12] :: _) _ w13 := h14
  refine RJ.run ttok 1 rfl ?_
  refine RJ.fin [(1, .pointer (some ⟨b4, 0, none⟩)), (2, .pointer (some ⟨b5, 0, none⟩)), (3, .pointer (some ⟨b6, 0, none⟩)), (4, .string ⟨⟨r1.2.2.1⟩⟩), (5, .bool r1.2.2.2), (6, .pointer (some ⟨b7, 0, none⟩)), (7, .bool r2.2)] rfl ?_
  refine J.seq ?_
  refine J.region ?_
  refine RJ.run ttok 2 rfl ?_
  rcases Bool.eq_false_or_eq_true r1.2.2.2 with c1 | c1
  · replace H := ite_t c1 H
    refine RJ.know (t := 30) rfl (congrArg Value.bool c1) ?_
    refine RJ.run ttok 4 rfl ?_
    rcases Bool.eq_false_or_eq_true (decide (r1.2.2.1 = ([100] : List UInt8))) with c2 | c2
    · replace H := ite_t c2 H
      refine RJ.know (t := 34) rfl (congrArg Value.bool c2) ?_
      refine RJ.run ttok 1 rfl ?_
      refine RJ.q rfl rfl (q_load_box ttok 6 (fun w e => e ▸ h14.wh) rfl rfl rfl rfl rfl) ?_
      refine RJ.run ttok 4 rfl ?_
      rcases Bool.eq_false_or_eq_true (decide ((r1.1.2.1.length : Int) = 2)) with c3 | c3
      · replace H := ite_t c3 H
        refine RJ.know (t := 40) rfl (congrArg Value.bool c3) ?_
        refine RJ.run ttok 1 rfl ?_
        refine RJ.q rfl rfl (q_load_box ttok 6 (fun w e => e ▸ h14.wh) rfl rfl rfl rfl rfl) ?_
        refine RJ.run ttok 4 rfl ?_
        rcases Bool.eq_false_or_eq_true (decide ((r1.1.2.2.2.1.length : Int) = 2)) with c4 | c4
        · replace H := ite_t c4 H
          refine RJ.know (t := 46) rfl (congrArg Value.bool c4) ?_
          refine RJ.run ttok 1 rfl ?_
          refine RJ.q rfl rfl (q_load_box ttok 5 (fun w e => e ▸ h14.wh) rfl rfl rfl rfl rfl) ?_
          refine RJ.run ttok 4 rfl ?_
          rcases Bool.eq_false_or_eq_true (decide ((r1.2.1.2.1.length : Int) = 1)) with c5 | c5
          · replace H := ite_t c5 H
            refine RJ.know (t := 52) rfl (congrArg Value.bool c5) ?_
            refine RJ.run ttok 1 rfl ?_
            refine RJ.q rfl rfl (q_load_box ttok 5 (fun w e => e ▸ h14.wh) rfl rfl rfl rfl rfl) ?_
            refine RJ.run ttok 4 rfl ?_
            rcases Bool.eq_false_or_eq_true (decide ((r1.2.1.2.2.2.1.length : Int) = 1)) with c6 | c6
            · replace H := ite_t c6 H
              refine RJ.know (t := 58) rfl (congrArg Value.bool c6) ?_
              refine RJ.run ttok 3 rfl ?_
              rcases Bool.eq_false_or_eq_true r2.2 with c7 | c7
              · replace H := ite_t c7 H
                refine RJ.know (t := 61) rfl (congrArg Value.bool c7) ?_
                refine RJ.q rfl rfl (q_load_box ttok 0 (fun w e => e ▸ h14.wh) rfl rfl rfl rfl rfl) ?_
                refine RJ.q rfl rfl (q_load_box ttok 16 (fun w e => e ▸ h14.wh) rfl rfl rfl rfl rfl) ?_
                obtain ⟨r3, q3, H⟩ := bind_t H
                refine RJ.op rfl rfl (op_call [] (sluicegateref13_Same.spec q3) rfl rfl rfl h14 rfl (gcons (Gives.of 1 rfl own_rd) (gcons (Gives.of 2 rfl own_rd) (gcons (Gives.of 3 rfl own_rd) (gcons (Gives.of 4 rfl own_rd) (gcons (Gives.of 19 rfl own_rd) (gcons (Gives.of 18 rfl own_rd) (gcons (Gives.of 17 rfl own_rd) (gcons (Gives.of 15 rfl own_rd) gnil))))))))) ?_
                rintro _ w14 ⟨_, ⟨rfl, rfl⟩, h15⟩
                refine RJ.run ttok 2 rfl ?_
                rcases Bool.eq_false_or_eq_true r3 with c8 | c8
                · replace H := ite_t c8 H
                  refine RJ.know (t := 66) rfl (congrArg Value.bool c8) ?_
                  refine RJ.run ttok 1 rfl ?_
                  refine RJ.q rfl rfl (q_load_box ttok 6 (fun w e => e ▸ h15.wh) rfl rfl rfl rfl rfl) ?_
                  refine RJ.q rfl rfl (q_load_box ttok 5 (fun w e => e ▸ h15.wh) rfl rfl rfl rfl rfl) ?_
                  obtain ⟨r4, q4, H⟩ := bind_t H
                  refine RJ.op rfl rfl (op_call [] (cleave_Fits.spec q4) rfl rfl rfl h15 rfl (gcons (Gives.of 7 rfl own_rd) (gcons (Gives.of 8 rfl own_rd) (gcons (Gives.of 9 rfl own_rd) (gcons (Gives.of 10 rfl own_rd) (gcons (Gives.of 11 rfl own_rd) (gcons (Gives.of 12 rfl own_rd) (gcons (Gives.of 13 rfl own_rd) (gcons (Gives.of 14 rfl own_rd) gnil))))))))) ?_
                  rintro _ w15 ⟨_, ⟨rfl, rfl⟩, h16⟩
                  refine RJ.run ttok 2 rfl ?_
                  refine RJ.fin [(0, .bool r4)] rfl ?_
                  refine J.ret ?_
                  obtain rfl := Option.some.inj H
                  exact ⟨_, _, _, (results_slots rfl), ⟨rfl, rfl⟩, h16.only [] rfl⟩
                · replace H := ite_f c8 H
                  refine RJ.know (t := 66) rfl (congrArg Value.bool c8) ?_
                  refine RJ.run ttok 6 rfl ?_
                  refine RJ.fin [(0, .bool false)] rfl ?_
                  refine J.ret ?_
                  obtain rfl := Option.some.inj H
                  exact ⟨_, _, _, (results_slots rfl), ⟨rfl, rfl⟩, h15.only [] rfl⟩
              · replace H := ite_f c7 H
                refine RJ.know (t := 61) rfl (congrArg Value.bool c7) ?_
                refine RJ.run ttok 11 rfl ?_
                refine RJ.fin [(0, .bool false)] rfl ?_
                refine J.ret ?_
                obtain rfl := Option.some.inj H
                exact ⟨_, _, _, (results_slots rfl), ⟨rfl, rfl⟩, h14.only [] rfl⟩
            · replace H := ite_f c6 H
              refine RJ.know (t := 58) rfl (congrArg Value.bool c6) ?_
              refine RJ.run ttok 14 rfl ?_
              refine RJ.fin [(0, .bool false)] rfl ?_
              refine J.ret ?_
              obtain rfl := Option.some.inj H
              exact ⟨_, _, _, (results_slots rfl), ⟨rfl, rfl⟩, h14.only [] rfl⟩
          · replace H := ite_f c5 H
            refine RJ.know (t := 52) rfl (congrArg Value.bool c5) ?_
            refine RJ.run ttok 20 rfl ?_
            refine RJ.fin [(0, .bool false)] rfl ?_
            refine J.ret ?_
            obtain rfl := Option.some.inj H
            exact ⟨_, _, _, (results_slots rfl), ⟨rfl, rfl⟩, h14.only [] rfl⟩
        · replace H := ite_f c4 H
          refine RJ.know (t := 46) rfl (congrArg Value.bool c4) ?_
          refine RJ.run ttok 26 rfl ?_
          refine RJ.fin [(0, .bool false)] rfl ?_
          refine J.ret ?_
          obtain rfl := Option.some.inj H
          exact ⟨_, _, _, (results_slots rfl), ⟨rfl, rfl⟩, h14.only [] rfl⟩
      · replace H := ite_f c3 H
        refine RJ.know (t := 40) rfl (congrArg Value.bool c3) ?_
        refine RJ.run ttok 32 rfl ?_
        refine RJ.fin [(0, .bool false)] rfl ?_
        refine J.ret ?_
        obtain rfl := Option.some.inj H
        exact ⟨_, _, _, (results_slots rfl), ⟨rfl, rfl⟩, h14.only [] rfl⟩
    · replace H := ite_f c2 H
      refine RJ.know (t := 34) rfl (congrArg Value.bool c2) ?_
      refine RJ.run ttok 38 rfl ?_
      refine RJ.fin [(0, .bool false)] rfl ?_
      refine J.ret ?_
      obtain rfl := Option.some.inj H
      exact ⟨_, _, _, (results_slots rfl), ⟨rfl, rfl⟩, h14.only [] rfl⟩
  · replace H := ite_f c1 H
    refine RJ.know (t := 30) rfl (congrArg Value.bool c1) ?_
    refine RJ.run ttok 42 rfl ?_
    refine RJ.fin [(0, .bool false)] rfl ?_
    refine J.ret ?_
    obtain rfl := Option.some.inj H
    exact ⟨_, _, _, (results_slots rfl), ⟨rfl, rfl⟩, h14.only [] rfl⟩

/-! sluicegate/sluicegatelaw14.CleaveRight -/
def sluicegatelaw14_CleaveRight.f (k : Nat) (a0 : Int × Int × Int × Int × Int × Int × Int × Int) (a1 : List UInt8 × List UInt8 × Bool) (a2 : Int × List (Int) × List (List UInt8) × (List (List UInt8 × Bool × List UInt8)) × (List (List UInt8 × List UInt8))) : Option (Bool) := (sluicegatelaw14_right.f k (a0.1, a0.2.1, a0.2.2.1, a0.2.2.2.1, a0.2.2.2.2.1, a0.2.2.2.2.2.1, a0.2.2.2.2.2.2.1, a0.2.2.2.2.2.2.2) (a1.1, a1.2.1, a1.2.2) (a2.1, a2.2.1, a2.2.2.1, a2.2.2.2.1, a2.2.2.2.2)).bind fun r1 => (if (!r1) = true then ((sluicegatelaw14_awake.f k).bind fun r2 => (some r2)) else ((cleave_Halve.f k (a2.1, a2.2.1, a2.2.2.1, a2.2.2.2.1, a2.2.2.2.2)).bind fun r3 => (if (!r3.2.2.2) = true then ((sluicegatelaw14_awake.f k).bind fun r4 => (some r4)) else ((sluicegateref01_In.f k (a1.1, a1.2.1, a1.2.2) r3.2.2.1).bind fun r5 => (if (!r5) = true then (some false) else (if (decide (r3.2.2.1 = a1.1)) = true then (some false) else ((sluicegateref13_Key.f (a0.1, a0.2.1, a0.2.2.1, a0.2.2.2.1, a0.2.2.2.2.1, a0.2.2.2.2.2.1, a0.2.2.2.2.2.2.1, a0.2.2.2.2.2.2.2) r3.2.2.1).bind fun r6 => (if (!r6) = true then (some false) else ((sluicegateref13_Right.f k (a0.1, a0.2.1, a0.2.2.1, a0.2.2.2.1, a0.2.2.2.2.1, a0.2.2.2.2.2.1, a0.2.2.2.2.2.2.1, a0.2.2.2.2.2.2.2) (a1.1, r3.2.2.1, false) (r3.1.1, r3.1.2.1, r3.1.2.2.1, r3.1.2.2.2.1, r3.1.2.2.2.2)).bind fun r7 => (if (!r7) = true then (some false) else ((sluicegateref13_Right.f k (a0.1, a0.2.1, a0.2.2.1, a0.2.2.2.1, a0.2.2.2.2.1, a0.2.2.2.2.2.1, a0.2.2.2.2.2.2.1, a0.2.2.2.2.2.2.2) (r3.2.2.1, a1.2.1, a1.2.2) (r3.2.1.1, r3.2.1.2.1, r3.2.1.2.2.1, r3.2.1.2.2.2.1, r3.2.1.2.2.2.2)).bind fun r8 => (if (!r8) = true then (some false) else ((cleave_Join.f (r3.1.1, r3.1.2.1, r3.1.2.2.1, r3.1.2.2.2.1, r3.1.2.2.2.2) r3.2.2.1 (r3.2.1.1, r3.2.1.2.1, r3.2.1.2.2.1, r3.2.1.2.2.2.1, r3.2.1.2.2.2.2)).bind fun r9 => ((cleave_Fits.f (a0.1, a0.2.1, a0.2.2.1, a0.2.2.2.1, a0.2.2.2.2.1, a0.2.2.2.2.2.1, a0.2.2.2.2.2.2.1, a0.2.2.2.2.2.2.2) (r3.1.1, r3.1.2.1, r3.1.2.2.1, r3.1.2.2.2.1, r3.1.2.2.2.2) (r3.2.1.1, r3.2.1.2.1, r3.2.1.2.2.1, r3.2.1.2.2.2.1, r3.2.1.2.2.2.2)).bind fun r10 => (if (!r10) = true then ((sluicegatelaw14_awake.f k).bind fun r11 => (some r11)) else (if r9.2 = true then ((sluicegateref13_Right.f k (a0.1, a0.2.1, a0.2.2.1, a0.2.2.2.1, a0.2.2.2.2.1, a0.2.2.2.2.2.1, a0.2.2.2.2.2.2.1, a0.2.2.2.2.2.2.2) (a1.1, a1.2.1, a1.2.2) (r9.1.1, r9.1.2.1, r9.1.2.2.1, r9.1.2.2.2.1, r9.1.2.2.2.2)).bind fun r12 => (if r12 = true then ((sluicegatelaw14_awake.f k).bind fun r13 => (some r13)) else (some false))) else (some false)))))))))))))))))
set_option maxRecDepth 20000 in
set_option maxHeartbeats 4000000 in
theorem sluicegatelaw14_CleaveRight.spec {k : Nat} {a0 : Int × Int × Int × Int × Int × Int × Int × Int} {a1 : List UInt8 × List UInt8 × Bool} {a2 : Int × List (Int) × List (List UInt8) × (List (List UInt8 × Bool × List UInt8)) × (List (List UInt8 × List UInt8))} {A1 : Option Addr} {c_1 : Nat} {A2 : Option Addr} {c_2 : Nat} {A3 : Option Addr} {c_3 : Nat} {A4 : Option Addr} {c_4 : Nat} {r : Bool} (H : sluicegatelaw14_CleaveRight.f k a0 a1 a2 = some r) :
    Spec Try.prog 6 [.agg #[.int .i64 a0.1, .int .i64 a0.2.1, .int .i64 a0.2.2.1, .int .i64 a0.2.2.2.1, .int .i64 a0.2.2.2.2.1, .int .i64 a0.2.2.2.2.2.1, .int .i64 a0.2.2.2.2.2.2.1, .int .i64 a0.2.2.2.2.2.2.2], .agg #[.string ⟨⟨a1.1⟩⟩, .string ⟨⟨a1.2.1⟩⟩, .bool a1.2.2], .agg #[.int .i64 a2.1, .slice A1 a2.2.1.length c_1, .slice A2 a2.2.2.1.length c_2, .slice A3 a2.2.2.2.1.length c_3, .slice A4 a2.2.2.2.2.length c_4]] [] [rdC 46 (.int .u32) a2.2.1 (.slice A1 a2.2.1.length c_1), rdC 9 .str a2.2.2.1 (.slice A2 a2.2.2.1.length c_2), rdC 48 (.pair .str (.pair .bool .str)) a2.2.2.2.1 (.slice A3 a2.2.2.2.1.length c_3), rdC 50 (.pair .str .str) a2.2.2.2.2 (.slice A4 a2.2.2.2.2.length c_4)] (fun v l => v = .bool r ∧ l = []) := by
  refine Spec.enter Try.func6 rfl (by kernel_rfl) (by kernel_rfl) fun w0 F0 h0 => ?_
  unfold sluicegatelaw14_CleaveRight.f at H
  refine J.seq ?_
  refine J.region ?_
  refine RJ.op rfl rfl (op_box rfl rfl h0) ?_
  rintro _ w1 ⟨b1, rfl, h1⟩
  refine RJ.op rfl rfl (op_box rfl rfl h1) ?_
  rintro _ w2 ⟨b2, rfl, h2⟩
  refine RJ.op rfl rfl (op_box rfl rfl h2) ?_
  rintro _ w3 ⟨b3, rfl, h3⟩
  refine RJ.run ttok 1 rfl ?_
  refine RJ.fin [(3, .pointer (some ⟨b1, 0, none⟩)), (4, .pointer (some ⟨b2, 0, none⟩)), (5, .pointer (some ⟨b3, 0, none⟩))] rfl ?_
  refine J.seq ?_
  refine J.seq ?_
  refine J.region ?_
  refine RJ.q rfl rfl (q_load_box ttok 2 (fun w e => e ▸ h3.wh) rfl rfl rfl rfl rfl) ?_
  refine RJ.q rfl rfl (q_load_box ttok 1 (fun w e => e ▸ h3.wh) rfl rfl rfl rfl rfl) ?_
  refine RJ.q rfl rfl (q_load_box ttok 0 (fun w e => e ▸ h3.wh) rfl rfl rfl rfl rfl) ?_
  obtain ⟨r1, q1, H⟩ := bind_t H
  refine RJ.op rfl rfl (op_call [] (sluicegatelaw14_right.spec q1) rfl rfl rfl h3 rfl (gcons (Gives.self 3 rfl) (gcons (Gives.self 4 rfl) (gcons (Gives.self 5 rfl) (gcons (Gives.self 6 rfl) gnil))))) ?_
  rintro _ w4 ⟨_, ⟨rfl, rfl⟩, h4⟩
  refine RJ.run ttok 1 rfl ?_
  refine RJ.fin [(3, .pointer (some ⟨b1, 0, none⟩)), (4, .pointer (some ⟨b2, 0, none⟩)), (5, .pointer (some ⟨b3, 0, none⟩)), (19, .bool (!r1))] rfl ?_
  refine J.cond rfl (fun c1 => ?_) (fun c1 => ?_)
  · replace H := ite_t c1 H
    refine J.seq ?_
    refine J.region ?_
    obtain ⟨r2, q2, H⟩ := bind_t H
    refine RJ.op rfl rfl (op_call [] (sluicegatelaw14_awake.spec q2) rfl rfl rfl h4 rfl gnil) ?_
    rintro _ w5 ⟨_, ⟨rfl, rfl⟩, h5⟩
    refine RJ.run ttok 1 rfl ?_
    refine RJ.fin [(6, .bool r2)] rfl ?_
    refine J.ret ?_
    obtain rfl := Option.some.inj H
    exact ⟨_, _, _, (results_slots rfl), ⟨rfl, rfl⟩, h5.only [] rfl⟩
  · replace H := ite_f c1 H
    refine J.skip ?_
    refine J.seq ?_
    refine J.region ?_
    refine RJ.q rfl rfl (q_load_box ttok 0 (fun w e => e ▸ h4.wh) rfl rfl rfl rfl rfl) ?_
    obtain ⟨r3, q3, H⟩ := bind_t H
    refine RJ.op rfl rfl (op_call [] (cleave_Halve.spec q3) rfl rfl rfl h4 rfl (gcons (Gives.self 3 rfl) (gcons (Gives.self 4 rfl) (gcons (Gives.self 5 rfl) (gcons (Gives.self 6 rfl) gnil))))) ?_
    rintro _ w6 ⟨_, ⟨A5, c_5, A6, c_6, A7, c_7, A8, c_8, A9, c_9, A10, c_10, A11, c_11, A12, c_12, rfl, rfl⟩, h6⟩
    refine RJ.run ttok 5 rfl ?_
    refine RJ.op rfl rfl (op_alloc ttok rfl rfl h6) ?_
    rintro _ w7 ⟨b4, rfl, h7⟩
    refine RJ.op rfl rfl (op_alloc ttok rfl rfl h7) ?_
    rintro _ w8 ⟨b5, rfl, h8⟩
    refine RJ.op rfl rfl (op_store ttok 1 rfl h8 rfl rfl rfl rfl rfl rfl rfl) ?_
    intro _ w9 h9
    replace h9 : St w0 F0 (boxC b4 31 [.int .i64 r3.1.1, .slice A5 r3.1.2.1.length c_5, .slice A6 r3.1.2.2.1.length c_6, .slice A7 r3.1.2.2.2.1.length c_7, .slice A8 r3.1.2.2.2.2.length c_8] :: _) _ w9 := h9
    refine RJ.op rfl rfl (op_store ttok 1 rfl h9 rfl rfl rfl rfl rfl rfl rfl) ?_
    intro _ w10 h10
    replace h10 : St w0 F0 (boxC b5 31 [.int .i64 r3.2.1.1, .slice A9 r3.2.1.2.1.length c_9, .slice A10 r3.2.1.2.2.1.length c_10, .slice A11 r3.2.1.2.2.2.1.length c_11, .slice A12 r3.2.1.2.2.2.2.length c_12] :: _) _ w10 := h10
    refine RJ.run ttok 2 rfl ?_
    refine RJ.fin [(3, .pointer (some ⟨b1, 0, none⟩)), (4, .pointer (some ⟨b2, 0, none⟩)), (7, .pointer (some ⟨b4, 0, none⟩)), (8, .pointer (some ⟨b5, 0, none⟩)), (9, .string ⟨⟨r3.2.2.1⟩⟩), (10, .bool r3.2.2.2)] rfl ?_
    refine J.seq ?_
    refine J.seq ?_
    refine J.region ?_
    refine RJ.run ttok 2 rfl ?_
    refine RJ.fin [(3, .pointer (some ⟨b1, 0, none⟩)), (4, .pointer (some ⟨b2, 0, none⟩)), (7, .pointer (some ⟨b4, 0, none⟩)), (8, .pointer (some ⟨b5, 0, none⟩)), (9, .string ⟨⟨r3.2.2.1⟩⟩), (29, .bool (!r3.2.2.2))] rfl ?_
    refine J.cond rfl (fun c2 => ?_) (fun c2 => ?_)
    · replace H := ite_t c2 H
      refine J.seq ?_
      refine J.region ?_
      obtain ⟨r4, q4, H⟩ := bind_t H
      refine RJ.op rfl rfl (op_call [] (sluicegatelaw14_awake.spec q4) rfl rfl rfl h10 rfl gnil) ?_
      rintro _ w11 ⟨_, ⟨rfl, rfl⟩, h11⟩
      refine RJ.run ttok 1 rfl ?_
      refine RJ.fin [(6, .bool r4)] rfl ?_
      refine J.ret ?_
      obtain rfl := Option.some.inj H
      exact ⟨_, _, _, (results_slots rfl), ⟨rfl, rfl⟩, h11.only [] rfl⟩
    · replace H := ite_f c2 H
      refine J.skip ?_
      refine J.seq ?_
      refine J.midS (fun env w => ∃ (b6 : Nat) (b7 : Nat), env = [(3, .pointer (some ⟨b1, 0, none⟩)), (4, .pointer (some ⟨b2, 0, none⟩)), (7, .pointer (some ⟨b4, 0, none⟩)), (8, .pointer (some ⟨b5, 0, none⟩)), (9, .string ⟨⟨r3.2.2.1⟩⟩), (11, .pointer (some ⟨b6, 0, none⟩)), (12, .pointer (some ⟨b7, 0, none⟩))] ∧ St w0 F0 [boxC b6 25 [.string ⟨⟨a1.1⟩⟩, .string ⟨⟨r3.2.2.1⟩⟩, .bool false], boxC b7 25 [.string ⟨⟨r3.2.2.1⟩⟩, .string ⟨⟨a1.2.1⟩⟩, .bool a1.2.2], boxC b5 31 [.int .i64 r3.2.1.1, .slice A9 r3.2.1.2.1.length c_9, .slice A10 r3.2.1.2.2.1.length c_10, .slice A11 r3.2.1.2.2.2.1.length c_11, .slice A12 r3.2.1.2.2.2.2.length c_12], boxC b4 31 [.int .i64 r3.1.1, .slice A5 r3.1.2.1.length c_5, .slice A6 r3.1.2.2.1.length c_6, .slice A7 r3.1.2.2.2.1.length c_7, .slice A8 r3.1.2.2.2.2.length c_8], ownC 46 (.int .u32) r3.1.2.1 (.slice A5 r3.1.2.1.length c_5), ownC 9 .str r3.1.2.2.1 (.slice A6 r3.1.2.2.1.length c_6), ownC 48 (.pair .str (.pair .bool .str)) r3.1.2.2.2.1 (.slice A7 r3.1.2.2.2.1.length c_7), ownC 50 (.pair .str .str) r3.1.2.2.2.2 (.slice A8 r3.1.2.2.2.2.length c_8), ownC 46 (.int .u32) r3.2.1.2.1 (.slice A9 r3.2.1.2.1.length c_9), ownC 9 .str r3.2.1.2.2.1 (.slice A10 r3.2.1.2.2.1.length c_10), ownC 48 (.pair .str (.pair .bool .str)) r3.2.1.2.2.2.1 (.slice A11 r3.2.1.2.2.2.1.length c_11), ownC 50 (.pair .str .str) r3.2.1.2.2.2.2 (.slice A12 r3.2.1.2.2.2.2.length c_12), boxC b3 31 [.int .i64 a2.1, .slice A1 a2.2.1.length c_1, .slice A2 a2.2.2.1.length c_2, .slice A3 a2.2.2.2.1.length c_3, .slice A4 a2.2.2.2.2.length c_4], boxC b2 25 [.string ⟨⟨a1.1⟩⟩, .string ⟨⟨a1.2.1⟩⟩, .bool a1.2.2], boxC b1 23 [.int .i64 a0.1, .int .i64 a0.2.1, .int .i64 a0.2.2.1, .int .i64 a0.2.2.2.1, .int .i64 a0.2.2.2.2.1, .int .i64 a0.2.2.2.2.2.1, .int .i64 a0.2.2.2.2.2.2.1, .int .i64 a0.2.2.2.2.2.2.2]] [rdC 46 (.int .u32) a2.2.1 (.slice A1 a2.2.1.length c_1), rdC 9 .str a2.2.2.1 (.slice A2 a2.2.2.1.length c_2), rdC 48 (.pair .str (.pair .bool .str)) a2.2.2.2.1 (.slice A3 a2.2.2.2.1.length c_3), rdC 50 (.pair .str .str) a2.2.2.2.2 (.slice A4 a2.2.2.2.2.length c_4)] w) ?_ ?_
      · refine J.heldSt mix h10 ?_
        have h16 := h10.drew
        refine HJ.run ttok rfl [0, 2, 4, 5, 7] rfl ?_
        refine HJ.q (i := 1) rfl rfl rfl rfl rfl rfl (q_load_box ttok 11 (fun w e => e) rfl rfl rfl rfl rfl) ?_
        refine HJ.run ttok rfl [3] rfl ?_
        refine HJ.q (i := 6) rfl rfl rfl rfl rfl rfl (q_load_box ttok 11 (fun w e => e) rfl rfl rfl rfl rfl) ?_
        refine HJ.q (i := 8) rfl rfl rfl rfl rfl rfl (q_load_box ttok 11 (fun w e => e) rfl rfl rfl rfl rfl) ?_
        refine HJ.run ttok rfl [9] rfl ?_
        refine HJ.pick [10, 11] (i := 10) rfl rfl rfl rfl ?_
        refine (hscons ?_ (hscons ?_ hsnil))
        · refine HS.op (i := 10) rfl rfl rfl (op_alloc ttok rfl rfl h16) ?_
          rintro _ w16 ⟨b8, rfl, h17⟩
          refine ⟨⟨[_], h17⟩, ?_⟩
          refine HJ.op (i := 11) rfl rfl rfl rfl rfl (op_alloc ttok rfl rfl h17) ?_
          rintro _ w17 ⟨b9, rfl, h18⟩
          refine ⟨⟨[_, _], h18⟩, ?_⟩
          refine HJ.op (i := 12) rfl rfl rfl rfl rfl (op_store ttok 1 rfl h18 rfl rfl rfl rfl rfl rfl rfl) ?_
          intro _ w18 h19
          replace h19 : St w0 F0 (boxC b8 25 [.string ⟨⟨a1.1⟩⟩, .string ⟨⟨r3.2.2.1⟩⟩, .bool false] :: _) _ w18 := h19
          refine ⟨⟨[_, _], h19⟩, ?_⟩
          refine HJ.op (i := 13) rfl rfl rfl rfl rfl (op_store ttok 1 rfl h19 rfl rfl rfl rfl rfl rfl rfl) ?_
          intro _ w19 h20
          replace h20 : St w0 F0 (boxC b9 25 [.string ⟨⟨r3.2.2.1⟩⟩, .string ⟨⟨a1.2.1⟩⟩, .bool a1.2.2] :: _) _ w19 := h20
          refine ⟨⟨[_, _], h20⟩, ?_⟩
          refine HJ.fin [(3, .pointer (some ⟨b1, 0, none⟩)), (4, .pointer (some ⟨b2, 0, none⟩)), (7, .pointer (some ⟨b4, 0, none⟩)), (8, .pointer (some ⟨b5, 0, none⟩)), (9, .string ⟨⟨r3.2.2.1⟩⟩), (11, .pointer (some ⟨b8, 0, none⟩)), (12, .pointer (some ⟨b9, 0, none⟩))] rfl rfl ?_
          exact thenP_intro ⟨b8, b9, rfl, ((h20.only [1, 0, 0, 0, 0, 0, 0, 0, 0, 0, 0, 0, 0, 0, 0] rfl).rds [0, 1, 2, 3] rfl)⟩
        · refine HS.op (i := 11) rfl rfl rfl (op_alloc ttok rfl rfl h16) ?_
          rintro _ w20 ⟨b10, rfl, h21⟩
          refine ⟨⟨[_], h21⟩, ?_⟩
          refine HJ.op (i := 10) rfl rfl rfl rfl rfl (op_alloc ttok rfl rfl h21) ?_
          rintro _ w21 ⟨b11, rfl, h22⟩
          refine ⟨⟨[_, _], h22⟩, ?_⟩
          refine HJ.op (i := 12) rfl rfl rfl rfl rfl (op_store ttok 0 rfl h22 rfl rfl rfl rfl rfl rfl rfl) ?_
          intro _ w22 h23
          replace h23 : St w0 F0 (boxC b11 25 [.string ⟨⟨a1.1⟩⟩, .string ⟨⟨r3.2.2.1⟩⟩, .bool false] :: _) _ w22 := h23
          refine ⟨⟨[_, _], h23⟩, ?_⟩
          refine HJ.op (i := 13) rfl rfl rfl rfl rfl (op_store ttok 1 rfl h23 rfl rfl rfl rfl rfl rfl rfl) ?_
          intro _ w23 h24
          replace h24 : St w0 F0 (boxC b10 25 [.string ⟨⟨r3.2.2.1⟩⟩, .string ⟨⟨a1.2.1⟩⟩, .bool a1.2.2] :: _) _ w23 := h24
          refine ⟨⟨[_, _], h24⟩, ?_⟩
          refine HJ.fin [(3, .pointer (some ⟨b1, 0, none⟩)), (4, .pointer (some ⟨b2, 0, none⟩)), (7, .pointer (some ⟨b4, 0, none⟩)), (8, .pointer (some ⟨b5, 0, none⟩)), (9, .string ⟨⟨r3.2.2.1⟩⟩), (11, .pointer (some ⟨b11, 0, none⟩)), (12, .pointer (some ⟨b10, 0, none⟩))] rfl rfl ?_
          exact thenP_intro ⟨b11, b10, rfl, ((h24.only [1, 0, 0, 0, 0, 0, 0, 0, 0, 0, 0, 0, 0, 0, 0] rfl).rds [0, 1, 2, 3] rfl)⟩
      · rintro env w24 ⟨b6, b7, rfl, h25⟩
        refine J.seq ?_
        refine J.seq ?_
        refine J.region ?_
        refine RJ.q rfl rfl (q_load_box ttok 13 (fun w e => e ▸ h25.wh) rfl rfl rfl rfl rfl) ?_
        refine RJ.run ttok 1 rfl ?_
        obtain ⟨r5, q5, H⟩ := bind_t H
        refine RJ.op rfl rfl (op_call [] (sluicegateref01_In.spec q5) rfl rfl rfl h25 rfl gnil) ?_
        rintro _ w25 ⟨_, ⟨rfl, rfl⟩, h26⟩
        refine RJ.run ttok 2 rfl ?_
        rcases Bool.eq_false_or_eq_true (!r5) with c3 | c3
        · replace H := ite_t c3 H
          refine RJ.know (t := 45) rfl (congrArg Value.bool c3) ?_
          refine RJ.run ttok 25 rfl ?_
          refine RJ.fin [(3, .pointer (some ⟨b1, 0, none⟩)), (4, .pointer (some ⟨b2, 0, none⟩)), (7, .pointer (some ⟨b4, 0, none⟩)), (8, .pointer (some ⟨b5, 0, none⟩)), (9, .string ⟨⟨r3.2.2.1⟩⟩), (70, .bool true)] rfl ?_
          refine J.condT rfl ?_
          refine J.seq ?_
          refine J.region ?_
          refine RJ.run ttok 1 rfl ?_
          refine RJ.fin [(6, .bool false)] rfl ?_
          refine J.ret ?_
          obtain rfl := Option.some.inj H
          exact ⟨_, _, _, (results_slots rfl), ⟨rfl, rfl⟩, h26.only [] rfl⟩
        · replace H := ite_f c3 H
          refine RJ.know (t := 45) rfl (congrArg Value.bool c3) ?_
          refine RJ.run ttok 2 rfl ?_
          refine RJ.q rfl rfl (q_load_box ttok 13 (fun w e => e ▸ h26.wh) rfl rfl rfl rfl rfl) ?_
          refine RJ.run ttok 3 rfl ?_
          rcases Bool.eq_false_or_eq_true (decide (r3.2.2.1 = a1.1)) with c4 | c4
          · replace H := ite_t c4 H
            refine RJ.know (t := 51) rfl (congrArg Value.bool c4) ?_
            refine RJ.run ttok 19 rfl ?_
            refine RJ.fin [(3, .pointer (some ⟨b1, 0, none⟩)), (4, .pointer (some ⟨b2, 0, none⟩)), (7, .pointer (some ⟨b4, 0, none⟩)), (8, .pointer (some ⟨b5, 0, none⟩)), (9, .string ⟨⟨r3.2.2.1⟩⟩), (70, .bool true)] rfl ?_
            refine J.condT rfl ?_
            refine J.seq ?_
            refine J.region ?_
            refine RJ.run ttok 1 rfl ?_
            refine RJ.fin [(6, .bool false)] rfl ?_
            refine J.ret ?_
            obtain rfl := Option.some.inj H
            exact ⟨_, _, _, (results_slots rfl), ⟨rfl, rfl⟩, h26.only [] rfl⟩
          · replace H := ite_f c4 H
            refine RJ.know (t := 51) rfl (congrArg Value.bool c4) ?_
            refine RJ.q rfl rfl (q_load_box ttok 14 (fun w e => e ▸ h26.wh) rfl rfl rfl rfl rfl) ?_
            refine RJ.run ttok 1 rfl ?_
            obtain ⟨r6, q6, H⟩ := bind_t H
            refine RJ.op rfl rfl (op_call [] (sluicegateref13_Key.spec q6) rfl rfl rfl h26 rfl gnil) ?_
            rintro _ w26 ⟨_, ⟨rfl, rfl⟩, h27⟩
            refine RJ.run ttok 3 rfl ?_
            rcases Bool.eq_false_or_eq_true (!r6) with c5 | c5
            · replace H := ite_t c5 H
              refine RJ.know (t := 57) rfl (congrArg Value.bool c5) ?_
              refine RJ.run ttok 13 rfl ?_
              refine RJ.fin [(3, .pointer (some ⟨b1, 0, none⟩)), (4, .pointer (some ⟨b2, 0, none⟩)), (7, .pointer (some ⟨b4, 0, none⟩)), (8, .pointer (some ⟨b5, 0, none⟩)), (9, .string ⟨⟨r3.2.2.1⟩⟩), (70, .bool true)] rfl ?_
              refine J.condT rfl ?_
              refine J.seq ?_
              refine J.region ?_
              refine RJ.run ttok 1 rfl ?_
              refine RJ.fin [(6, .bool false)] rfl ?_
              refine J.ret ?_
              obtain rfl := Option.some.inj H
              exact ⟨_, _, _, (results_slots rfl), ⟨rfl, rfl⟩, h27.only [] rfl⟩
            · replace H := ite_f c5 H
              refine RJ.know (t := 57) rfl (congrArg Value.bool c5) ?_
              refine RJ.q rfl rfl (q_load_box ttok 14 (fun w e => e ▸ h27.wh) rfl rfl rfl rfl rfl) ?_
              refine RJ.q rfl rfl (q_load_box ttok 0 (fun w e => e ▸ h27.wh) rfl rfl rfl rfl rfl) ?_
              refine RJ.q rfl rfl (q_load_box ttok 3 (fun w e => e ▸ h27.wh) rfl rfl rfl rfl rfl) ?_
              obtain ⟨r7, q7, H⟩ := bind_t H
              refine RJ.op rfl rfl (op_call [] (sluicegateref13_Right.spec q7) rfl rfl rfl h27 rfl (gcons (Gives.of 4 rfl own_rd) (gcons (Gives.of 5 rfl own_rd) (gcons (Gives.of 6 rfl own_rd) (gcons (Gives.of 7 rfl own_rd) gnil))))) ?_
              rintro _ w27 ⟨_, ⟨rfl, rfl⟩, h28⟩
              refine RJ.run ttok 3 rfl ?_
              rcases Bool.eq_false_or_eq_true (!r7) with c6 | c6
              · replace H := ite_t c6 H
                refine RJ.know (t := 64) rfl (congrArg Value.bool c6) ?_
                refine RJ.run ttok 6 rfl ?_
                refine RJ.fin [(3, .pointer (some ⟨b1, 0, none⟩)), (4, .pointer (some ⟨b2, 0, none⟩)), (7, .pointer (some ⟨b4, 0, none⟩)), (8, .pointer (some ⟨b5, 0, none⟩)), (9, .string ⟨⟨r3.2.2.1⟩⟩), (70, .bool true)] rfl ?_
                refine J.condT rfl ?_
                refine J.seq ?_
                refine J.region ?_
                refine RJ.run ttok 1 rfl ?_
                refine RJ.fin [(6, .bool false)] rfl ?_
                refine J.ret ?_
                obtain rfl := Option.some.inj H
                exact ⟨_, _, _, (results_slots rfl), ⟨rfl, rfl⟩, h28.only [] rfl⟩
              · replace H := ite_f c6 H
                refine RJ.know (t := 64) rfl (congrArg Value.bool c6) ?_
                refine RJ.q rfl rfl (q_load_box ttok 14 (fun w e => e ▸ h28.wh) rfl rfl rfl rfl rfl) ?_
                refine RJ.q rfl rfl (q_load_box ttok 1 (fun w e => e ▸ h28.wh) rfl rfl rfl rfl rfl) ?_
                refine RJ.q rfl rfl (q_load_box ttok 2 (fun w e => e ▸ h28.wh) rfl rfl rfl rfl rfl) ?_
                obtain ⟨r8, q8, H⟩ := bind_t H
                refine RJ.op rfl rfl (op_call [] (sluicegateref13_Right.spec q8) rfl rfl rfl h28 rfl (gcons (Gives.of 8 rfl own_rd) (gcons (Gives.of 9 rfl own_rd) (gcons (Gives.of 10 rfl own_rd) (gcons (Gives.of 11 rfl own_rd) gnil))))) ?_
                rintro _ w28 ⟨_, ⟨rfl, rfl⟩, h29⟩
                refine RJ.run ttok 2 rfl ?_
                refine RJ.fin [(3, .pointer (some ⟨b1, 0, none⟩)), (4, .pointer (some ⟨b2, 0, none⟩)), (7, .pointer (some ⟨b4, 0, none⟩)), (8, .pointer (some ⟨b5, 0, none⟩)), (9, .string ⟨⟨r3.2.2.1⟩⟩), (70, .bool (!r8))] rfl ?_
                refine J.cond rfl (fun c7 => ?_) (fun c7 => ?_)
                · replace H := ite_t c7 H
                  refine J.seq ?_
                  refine J.region ?_
                  refine RJ.run ttok 1 rfl ?_
                  refine RJ.fin [(6, .bool false)] rfl ?_
                  refine J.ret ?_
                  obtain rfl := Option.some.inj H
                  exact ⟨_, _, _, (results_slots rfl), ⟨rfl, rfl⟩, h29.only [] rfl⟩
                · replace H := ite_f c7 H
                  refine J.skip ?_
                  refine J.seq ?_
                  refine J.region ?_
                  refine RJ.q rfl rfl (q_load_box ttok 3 (fun w e => e ▸ h29.wh) rfl rfl rfl rfl rfl) ?_
                  refine RJ.run ttok 1 rfl ?_
                  refine RJ.q rfl rfl (q_load_box ttok 2 (fun w e => e ▸ h29.wh) rfl rfl rfl rfl rfl) ?_
                  obtain ⟨r9, q9, H⟩ := bind_t H
                  refine RJ.op rfl rfl (op_call [] (cleave_Join.spec q9) rfl rfl rfl h29 rfl (gcons (Gives.of 4 rfl own_rd) (gcons (Gives.of 5 rfl own_rd) (gcons (Gives.of 6 rfl own_rd) (gcons (Gives.of 7 rfl own_rd) (gcons (Gives.of 8 rfl own_rd) (gcons (Gives.of 9 rfl own_rd) (gcons (Gives.of 10 rfl own_rd) (gcons (Gives.of 11 rfl own_rd) gnil))))))))) ?_
                  rintro _ w29 ⟨_, ⟨A13, c_13, A14, c_14, A15, c_15, A16, c_16, rfl, rfl⟩, h30⟩
                  refine RJ.run ttok 3 rfl ?_
                  refine RJ.op rfl rfl (op_alloc ttok rfl rfl h30) ?_
                  rintro _ w30 ⟨b12, rfl, h31⟩
                  refine RJ.op rfl rfl (op_store ttok 0 rfl h31 rfl rfl rfl rfl rfl rfl rfl) ?_
                  intro _ w31 h32
                  replace h32 : St w0 F0 (boxC b12 31 [.int .i64 r9.1.1, .slice A13 r9.1.2.1.length c_13, .slice A14 r9.1.2.2.1.length c_14, .slice A15 r9.1.2.2.2.1.length c_15, .slice A16 r9.1.2.2.2.2.length c_16] :: _) _ w31 := h32
                  refine RJ.run ttok 1 rfl ?_
                  refine RJ.fin [(3, .pointer (some ⟨b1, 0, none⟩)), (4, .pointer (some ⟨b2, 0, none⟩)), (7, .pointer (some ⟨b4, 0, none⟩)), (8, .pointer (some ⟨b5, 0, none⟩)), (13, .pointer (some ⟨b12, 0, none⟩)), (14, .bool r9.2)] rfl ?_
                  refine J.seq ?_
                  refine J.region ?_
                  refine RJ.q rfl rfl (q_load_box ttok 19 (fun w e => e ▸ h32.wh) rfl rfl rfl rfl rfl) ?_
                  refine RJ.q rfl rfl (q_load_box ttok 8 (fun w e => e ▸ h32.wh) rfl rfl rfl rfl rfl) ?_
                  refine RJ.q rfl rfl (q_load_box ttok 7 (fun w e => e ▸ h32.wh) rfl rfl rfl rfl rfl) ?_
                  obtain ⟨r10, q10, H⟩ := bind_t H
                  refine RJ.op rfl rfl (op_call [] (cleave_Fits.spec q10) rfl rfl rfl h32 rfl (gcons (Gives.of 9 rfl own_rd) (gcons (Gives.of 10 rfl own_rd) (gcons (Gives.of 11 rfl own_rd) (gcons (Gives.of 12 rfl own_rd) (gcons (Gives.of 13 rfl own_rd) (gcons (Gives.of 14 rfl own_rd) (gcons (Gives.of 15 rfl own_rd) (gcons (Gives.of 16 rfl own_rd) gnil))))))))) ?_
                  rintro _ w32 ⟨_, ⟨rfl, rfl⟩, h33⟩
                  refine RJ.run ttok 2 rfl ?_
                  rcases Bool.eq_false_or_eq_true (!r10) with c8 | c8
                  · replace H := ite_t c8 H
                    refine RJ.know (t := 83) rfl (congrArg Value.bool c8) ?_
                    refine RJ.run ttok 9 rfl ?_
                    obtain ⟨r11, q11, H⟩ := bind_t H
                    refine RJ.op rfl rfl (op_call [] (sluicegatelaw14_awake.spec q11) rfl rfl rfl h33 rfl gnil) ?_
                    rintro _ w33 ⟨_, ⟨rfl, rfl⟩, h34⟩
                    refine RJ.run ttok 2 rfl ?_
                    refine RJ.fin [(6, .bool r11)] rfl ?_
                    refine J.ret ?_
                    obtain rfl := Option.some.inj H
                    exact ⟨_, _, _, (results_slots rfl), ⟨rfl, rfl⟩, h34.only [] rfl⟩
                  · replace H := ite_f c8 H
                    refine RJ.know (t := 83) rfl (congrArg Value.bool c8) ?_
                    refine RJ.run ttok 2 rfl ?_
                    rcases Bool.eq_false_or_eq_true r9.2 with c9 | c9
                    · replace H := ite_t c9 H
                      refine RJ.know (t := 85) rfl (congrArg Value.bool c9) ?_
                      refine RJ.q rfl rfl (q_load_box ttok 19 (fun w e => e ▸ h33.wh) rfl rfl rfl rfl rfl) ?_
                      refine RJ.q rfl rfl (q_load_box ttok 18 (fun w e => e ▸ h33.wh) rfl rfl rfl rfl rfl) ?_
                      refine RJ.q rfl rfl (q_load_box ttok 0 (fun w e => e ▸ h33.wh) rfl rfl rfl rfl rfl) ?_
                      obtain ⟨r12, q12, H⟩ := bind_t H
                      refine RJ.op rfl rfl (op_call [] (sluicegateref13_Right.spec q12) rfl rfl rfl h33 rfl (gcons (Gives.of 1 rfl own_rd) (gcons (Gives.of 2 rfl own_rd) (gcons (Gives.of 3 rfl own_rd) (gcons (Gives.of 4 rfl own_rd) gnil))))) ?_
                      rintro _ w34 ⟨_, ⟨rfl, rfl⟩, h35⟩
                      refine RJ.run ttok 3 rfl ?_
                      rcases Bool.eq_false_or_eq_true r12 with c10 | c10
                      · replace H := ite_t c10 H
                        refine RJ.know (t := 92) rfl (congrArg Value.bool c10) ?_
                        obtain ⟨r13, q13, H⟩ := bind_t H
                        refine RJ.op rfl rfl (op_call [] (sluicegatelaw14_awake.spec q13) rfl rfl rfl h35 rfl gnil) ?_
                        rintro _ w35 ⟨_, ⟨rfl, rfl⟩, h36⟩
                        refine RJ.run ttok 2 rfl ?_
                        refine RJ.fin [(6, .bool r13)] rfl ?_
                        refine J.ret ?_
                        obtain rfl := Option.some.inj H
                        exact ⟨_, _, _, (results_slots rfl), ⟨rfl, rfl⟩, h36.only [] rfl⟩
                      · replace H := ite_f c10 H
                        refine RJ.know (t := 92) rfl (congrArg Value.bool c10) ?_
                        refine RJ.run ttok 3 rfl ?_
                        refine RJ.fin [(6, .bool false)] rfl ?_
                        refine J.ret ?_
                        obtain rfl := Option.some.inj H
                        exact ⟨_, _, _, (results_slots rfl), ⟨rfl, rfl⟩, h35.only [] rfl⟩
                    · replace H := ite_f c9 H
                      refine RJ.know (t := 85) rfl (congrArg Value.bool c9) ?_
                      refine RJ.run ttok 10 rfl ?_
                      refine RJ.fin [(6, .bool false)] rfl ?_
                      refine J.ret ?_
                      obtain rfl := Option.some.inj H
                      exact ⟨_, _, _, (results_slots rfl), ⟨rfl, rfl⟩, h33.only [] rfl⟩

end Go.SK.T
