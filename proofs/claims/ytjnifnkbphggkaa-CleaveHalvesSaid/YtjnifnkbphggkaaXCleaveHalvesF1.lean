/- The functions, further. -/
import Derived.Test.YtjnifnkbphggkaaXCleaveHalvesF0
set_option linter.unusedVariables false
set_option linter.unusedSimpArgs false
namespace Go.SK.T
open Go Go.SK Go.Proofs
/-! sluicegate/sluicegateref12.Same -/
def sluicegateref12_Same.l0 : Nat → (List (List UInt8)) → (List (List UInt8)) → (Int) → Option (Bool)
  | 0, _, _, _ => none
  | k + 1, a0, a1, x1 => if (decide (x1 < (a0.length : Int))) = true then (if 0 ≤ x1 ∧ x1 < (a0.length : Int) then (if 0 ≤ x1 ∧ x1 < (a1.length : Int) then (if (!decide ((gt a0 x1) = (gt a1 x1))) = true then (some false) else (sluicegateref12_Same.l0 k a0 a1 (w64 (x1 + 1)))) else none) else none) else (some true)
def sluicegateref12_Same.f (k : Nat) (a0 : List (List UInt8)) (a1 : List (List UInt8)) : Option (Bool) := if (!decide ((a0.length : Int) = (a1.length : Int))) = true then (some false) else (sluicegateref12_Same.l0 k a0 a1 0)
set_option maxRecDepth 20000 in
set_option maxHeartbeats 4000000 in
theorem sluicegateref12_Same.spec {k : Nat} {a0 : List (List UInt8)} {a1 : List (List UInt8)} {A1 : Option Addr} {c_1 : Nat} {A2 : Option Addr} {c_2 : Nat} {r : Bool} (H : sluicegateref12_Same.f k a0 a1 = some r) :
    Spec Try.prog 61 [.slice A1 a0.length c_1, .slice A2 a1.length c_2] [] [rdC 9 .str a0 (.slice A1 a0.length c_1), rdC 9 .str a1 (.slice A2 a1.length c_2)] (fun v l => v = .bool r ∧ l = []) := by
  refine Spec.enter Try.func61 rfl (by kernel_rfl) (by kernel_rfl) fun w0 F0 h0 => ?_
  unfold sluicegateref12_Same.f at H
  refine J.seq ?_
  refine J.region ?_
  refine RJ.run ttok 1 rfl ?_
  refine RJ.fin [(0, .slice A1 a0.length c_1), (1, .slice A2 a1.length c_2)] rfl ?_
  refine J.seq ?_
  refine J.seq ?_
  refine J.region ?_
  refine RJ.run ttok 5 rfl ?_
  refine RJ.fin [(0, .slice A1 a0.length c_1), (1, .slice A2 a1.length c_2), (10, .bool (!decide ((a0.length : Int) = (a1.length : Int))))] rfl ?_
  refine J.cond rfl (fun c1 => ?_) (fun c1 => ?_)
  · replace H := ite_t c1 H
    refine J.seq ?_
    refine J.region ?_
    refine RJ.run ttok 1 rfl ?_
    refine RJ.fin [(4, .bool false)] rfl ?_
    refine J.ret ?_
    obtain rfl := Option.some.inj H
    exact ⟨_, _, _, (results_slots rfl), ⟨rfl, rfl⟩, h0.only [] rfl⟩
  · replace H := ite_f c1 H
    refine J.skip ?_
    refine J.seq ?_
    refine J.seq ?_
    refine J.region ?_
    refine RJ.run ttok 1 rfl ?_
    refine RJ.fin [(0, .slice A1 a0.length c_1), (1, .slice A2 a1.length c_2), (5, .int .i64 0)] rfl ?_
    refine J.block ?_
    have h4 := ((h0.only [] rfl).rds [0, 1] rfl)
    refine J.loop (fun k env w => ∃ (x1 : Int), env = [(0, .slice A1 a0.length c_1), (1, .slice A2 a1.length c_2), (5, .int .i64 x1)] ∧ St w0 F0 [] [rdC 9 .str a0 (.slice A1 a0.length c_1), rdC 9 .str a1 (.slice A2 a1.length c_2)] w ∧ sluicegateref12_Same.l0 k a0 a1 x1 = some r) (k := k) ⟨0, rfl, h4, H⟩ ?_
    rintro k1 env w1 ⟨x1, rfl, h1, H⟩
    cases k1 with
    | zero => exact nomatch (show none = some r from H)
    | succ k1 =>
      rw [sluicegateref12_Same.l0] at H
      refine J.seq ?_
      refine J.seq ?_
      refine J.region ?_
      refine RJ.run ttok 4 rfl ?_
      refine RJ.fin [(0, .slice A1 a0.length c_1), (1, .slice A2 a1.length c_2), (5, .int .i64 x1), (14, .bool (decide (x1 < (a0.length : Int))))] rfl ?_
      refine J.cond rfl (fun c2 => ?_) (fun c2 => ?_)
      · replace H := ite_t c2 H
        refine J.skip ?_
        refine J.seq ?_
        refine J.block ?_
        refine J.seq ?_
        refine J.heldSt mix h1 ?_
        have h2 := h1.drew
        refine HJ.run ttok rfl [0, 1, 4, 5] rfl ?_
        obtain ⟨⟨p1, p2⟩, H⟩ := guard_t H
        have e1 := elem_A h2.wh (Gives.self 0 rfl) p1 p2
        refine HJ.q (i := 2) rfl rfl rfl rfl rfl rfl (q_index ttok rfl rfl rfl rfl rfl e1 p1 p2) ?_
        refine HJ.q (i := 3) rfl rfl rfl rfl rfl rfl (q_load_elem (f := 0) ttok rfl (fun w e => e) (Gives.self 0 rfl) p1 p2 rfl rfl rfl rfl rfl) ?_
        obtain ⟨⟨p3, p4⟩, H⟩ := guard_t H
        have e2 := elem_A h2.wh (Gives.self 1 rfl) p3 p4
        refine HJ.q (i := 6) rfl rfl rfl rfl rfl rfl (q_index ttok rfl rfl rfl rfl rfl e2 p3 p4) ?_
        refine HJ.q (i := 7) rfl rfl rfl rfl rfl rfl (q_load_elem (f := 0) ttok rfl (fun w e => e) (Gives.self 1 rfl) p3 p4 rfl rfl rfl rfl rfl) ?_
        refine HJ.run ttok rfl [8] rfl ?_
        refine HJ.fin [(0, .slice A1 a0.length c_1), (1, .slice A2 a1.length c_2), (5, .int .i64 x1), (25, .bool (!decide ((gt a0 x1) = (gt a1 x1))))] rfl rfl ?_
        refine J.cond rfl (fun c3 => ?_) (fun c3 => ?_)
        · replace H := ite_t c3 H
          refine J.seq ?_
          refine J.region ?_
          refine RJ.run ttok 1 rfl ?_
          refine RJ.fin [(4, .bool false)] rfl ?_
          refine J.ret ?_
          obtain rfl := Option.some.inj H
          exact ⟨_, _, _, (results_slots rfl), ⟨rfl, rfl⟩, h2.only [] rfl⟩
        · replace H := ite_f c3 H
          refine J.skip ?_
          refine J.region ?_
          refine RJ.run ttok 3 rfl ?_
          refine RJ.fin [(0, .slice A1 a0.length c_1), (1, .slice A2 a1.length c_2), (5, .int .i64 (w64 (x1 + 1)))] rfl ?_
          have h3 := ((h2.only [] rfl).rds [0, 1] rfl)
          exact ⟨k1, by omega, (w64 (x1 + 1)), rfl, h3, H⟩
      · replace H := ite_f c2 H
        refine J.exit ?_
        refine J.seq ?_
        refine J.region ?_
        refine RJ.run ttok 1 rfl ?_
        refine RJ.fin [(4, .bool true)] rfl ?_
        refine J.ret ?_
        obtain rfl := Option.some.inj H
        exact ⟨_, _, _, (results_slots rfl), ⟨rfl, rfl⟩, h1.only [] rfl⟩

/-! sluicegate/sluicegateref10.Same -/
def sluicegateref10_Same.l0 : Nat → (List (List UInt8 × Bool × List UInt8)) → (List (List UInt8 × Bool × List UInt8)) → (Int) → Option (Bool)
  | 0, _, _, _ => none
  | k + 1, a0, a1, x1 => if (decide (x1 < (a0.length : Int))) = true then (if 0 ≤ x1 ∧ x1 < (a0.length : Int) then (if 0 ≤ x1 ∧ x1 < (a1.length : Int) then (if (!((decide (((gt a0 x1).1) = ((gt a1 x1).1))) && ((((gt a0 x1).2.1) == ((gt a1 x1).2.1)) && ((decide (((gt a0 x1).2.2) = ((gt a1 x1).2.2))) && true)))) = true then (some false) else (sluicegateref10_Same.l0 k a0 a1 (w64 (x1 + 1)))) else none) else none) else (some true)
def sluicegateref10_Same.f (k : Nat) (a0 : List (List UInt8 × Bool × List UInt8)) (a1 : List (List UInt8 × Bool × List UInt8)) : Option (Bool) := if (!decide ((a0.length : Int) = (a1.length : Int))) = true then (some false) else (sluicegateref10_Same.l0 k a0 a1 0)
set_option maxRecDepth 20000 in
set_option maxHeartbeats 4000000 in
theorem sluicegateref10_Same.spec {k : Nat} {a0 : List (List UInt8 × Bool × List UInt8)} {a1 : List (List UInt8 × Bool × List UInt8)} {A1 : Option Addr} {c_1 : Nat} {A2 : Option Addr} {c_2 : Nat} {r : Bool} (H : sluicegateref10_Same.f k a0 a1 = some r) :
    Spec Try.prog 62 [.slice A1 a0.length c_1, .slice A2 a1.length c_2] [] [rdC 48 (.pair .str (.pair .bool .str)) a0 (.slice A1 a0.length c_1), rdC 48 (.pair .str (.pair .bool .str)) a1 (.slice A2 a1.length c_2)] (fun v l => v = .bool r ∧ l = []) := by
  refine Spec.enter Try.func62 rfl (by kernel_rfl) (by kernel_rfl) fun w0 F0 h0 => ?_
  unfold sluicegateref10_Same.f at H
  refine J.seq ?_
  refine J.region ?_
  refine RJ.run ttok 1 rfl ?_
  refine RJ.fin [(0, .slice A1 a0.length c_1), (1, .slice A2 a1.length c_2)] rfl ?_
  refine J.seq ?_
  refine J.seq ?_
  refine J.region ?_
  refine RJ.run ttok 5 rfl ?_
  refine RJ.fin [(0, .slice A1 a0.length c_1), (1, .slice A2 a1.length c_2), (10, .bool (!decide ((a0.length : Int) = (a1.length : Int))))] rfl ?_
  refine J.cond rfl (fun c1 => ?_) (fun c1 => ?_)
  · replace H := ite_t c1 H
    refine J.seq ?_
    refine J.region ?_
    refine RJ.run ttok 1 rfl ?_
    refine RJ.fin [(4, .bool false)] rfl ?_
    refine J.ret ?_
    obtain rfl := Option.some.inj H
    exact ⟨_, _, _, (results_slots rfl), ⟨rfl, rfl⟩, h0.only [] rfl⟩
  · replace H := ite_f c1 H
    refine J.skip ?_
    refine J.seq ?_
    refine J.seq ?_
    refine J.region ?_
    refine RJ.run ttok 1 rfl ?_
    refine RJ.fin [(0, .slice A1 a0.length c_1), (1, .slice A2 a1.length c_2), (5, .int .i64 0)] rfl ?_
    refine J.block ?_
    have h4 := ((h0.only [] rfl).rds [0, 1] rfl)
    refine J.loop (fun k env w => ∃ (x1 : Int), env = [(0, .slice A1 a0.length c_1), (1, .slice A2 a1.length c_2), (5, .int .i64 x1)] ∧ St w0 F0 [] [rdC 48 (.pair .str (.pair .bool .str)) a0 (.slice A1 a0.length c_1), rdC 48 (.pair .str (.pair .bool .str)) a1 (.slice A2 a1.length c_2)] w ∧ sluicegateref10_Same.l0 k a0 a1 x1 = some r) (k := k) ⟨0, rfl, h4, H⟩ ?_
    rintro k1 env w1 ⟨x1, rfl, h1, H⟩
    cases k1 with
    | zero => exact nomatch (show none = some r from H)
    | succ k1 =>
      rw [sluicegateref10_Same.l0] at H
      refine J.seq ?_
      refine J.seq ?_
      refine J.region ?_
      refine RJ.run ttok 4 rfl ?_
      refine RJ.fin [(0, .slice A1 a0.length c_1), (1, .slice A2 a1.length c_2), (5, .int .i64 x1), (14, .bool (decide (x1 < (a0.length : Int))))] rfl ?_
      refine J.cond rfl (fun c2 => ?_) (fun c2 => ?_)
      · replace H := ite_t c2 H
        refine J.skip ?_
        refine J.seq ?_
        refine J.block ?_
        refine J.seq ?_
        refine J.heldSt mix h1 ?_
        have h2 := h1.drew
        refine HJ.run ttok rfl [0, 1, 4, 5] rfl ?_
        obtain ⟨⟨p1, p2⟩, H⟩ := guard_t H
        have e1 := elem_A h2.wh (Gives.self 0 rfl) p1 p2
        refine HJ.q (i := 2) rfl rfl rfl rfl rfl rfl (q_index ttok rfl rfl rfl rfl rfl e1 p1 p2) ?_
        refine HJ.q (i := 3) rfl rfl rfl rfl rfl rfl (q_load_elem (f := 0) ttok rfl (fun w e => e) (Gives.self 0 rfl) p1 p2 rfl rfl rfl rfl rfl) ?_
        obtain ⟨⟨p3, p4⟩, H⟩ := guard_t H
        have e2 := elem_A h2.wh (Gives.self 1 rfl) p3 p4
        refine HJ.q (i := 6) rfl rfl rfl rfl rfl rfl (q_index ttok rfl rfl rfl rfl rfl e2 p3 p4) ?_
        refine HJ.q (i := 7) rfl rfl rfl rfl rfl rfl (q_load_elem (f := 0) ttok rfl (fun w e => e) (Gives.self 1 rfl) p3 p4 rfl rfl rfl rfl rfl) ?_
        refine HJ.run ttok rfl [8] rfl ?_
        refine HJ.fin [(0, .slice A1 a0.length c_1), (1, .slice A2 a1.length c_2), (5, .int .i64 x1), (25, .bool (!((decide (((gt a0 x1).1) = ((gt a1 x1).1))) && ((((gt a0 x1).2.1) == ((gt a1 x1).2.1)) && ((decide (((gt a0 x1).2.2) = ((gt a1 x1).2.2))) && true)))))] rfl rfl ?_
        refine J.cond rfl (fun c3 => ?_) (fun c3 => ?_)
        · replace H := ite_t c3 H
          refine J.seq ?_
          refine J.region ?_
          refine RJ.run ttok 1 rfl ?_
          refine RJ.fin [(4, .bool false)] rfl ?_
          refine J.ret ?_
          obtain rfl := Option.some.inj H
          exact ⟨_, _, _, (results_slots rfl), ⟨rfl, rfl⟩, h2.only [] rfl⟩
        · replace H := ite_f c3 H
          refine J.skip ?_
          refine J.region ?_
          refine RJ.run ttok 3 rfl ?_
          refine RJ.fin [(0, .slice A1 a0.length c_1), (1, .slice A2 a1.length c_2), (5, .int .i64 (w64 (x1 + 1)))] rfl ?_
          have h3 := ((h2.only [] rfl).rds [0, 1] rfl)
          exact ⟨k1, by omega, (w64 (x1 + 1)), rfl, h3, H⟩
      · replace H := ite_f c2 H
        refine J.exit ?_
        refine J.seq ?_
        refine J.region ?_
        refine RJ.run ttok 1 rfl ?_
        refine RJ.fin [(4, .bool true)] rfl ?_
        refine J.ret ?_
        obtain rfl := Option.some.inj H
        exact ⟨_, _, _, (results_slots rfl), ⟨rfl, rfl⟩, h1.only [] rfl⟩

/-! sluicegate/sluicegateref11.Same -/
def sluicegateref11_Same.l0 : Nat → (List (List UInt8 × List UInt8)) → (List (List UInt8 × List UInt8)) → (Int) → Option (Bool)
  | 0, _, _, _ => none
  | k + 1, a0, a1, x1 => if (decide (x1 < (a0.length : Int))) = true then (if 0 ≤ x1 ∧ x1 < (a0.length : Int) then (if 0 ≤ x1 ∧ x1 < (a1.length : Int) then (if (!((decide (((gt a0 x1).1) = ((gt a1 x1).1))) && ((decide (((gt a0 x1).2) = ((gt a1 x1).2))) && true))) = true then (some false) else (sluicegateref11_Same.l0 k a0 a1 (w64 (x1 + 1)))) else none) else none) else (some true)
def sluicegateref11_Same.f (k : Nat) (a0 : List (List UInt8 × List UInt8)) (a1 : List (List UInt8 × List UInt8)) : Option (Bool) := if (!decide ((a0.length : Int) = (a1.length : Int))) = true then (some false) else (sluicegateref11_Same.l0 k a0 a1 0)
set_option maxRecDepth 20000 in
set_option maxHeartbeats 4000000 in
theorem sluicegateref11_Same.spec {k : Nat} {a0 : List (List UInt8 × List UInt8)} {a1 : List (List UInt8 × List UInt8)} {A1 : Option Addr} {c_1 : Nat} {A2 : Option Addr} {c_2 : Nat} {r : Bool} (H : sluicegateref11_Same.f k a0 a1 = some r) :
    Spec Try.prog 44 [.slice A1 a0.length c_1, .slice A2 a1.length c_2] [] [rdC 50 (.pair .str .str) a0 (.slice A1 a0.length c_1), rdC 50 (.pair .str .str) a1 (.slice A2 a1.length c_2)] (fun v l => v = .bool r ∧ l = []) := by
  refine Spec.enter Try.func44 rfl (by kernel_rfl) (by kernel_rfl) fun w0 F0 h0 => ?_
  unfold sluicegateref11_Same.f at H
  refine J.seq ?_
  refine J.region ?_
  refine RJ.run ttok 1 rfl ?_
  refine RJ.fin [(0, .slice A1 a0.length c_1), (1, .slice A2 a1.length c_2)] rfl ?_
  refine J.seq ?_
  refine J.seq ?_
  refine J.region ?_
  refine RJ.run ttok 5 rfl ?_
  refine RJ.fin [(0, .slice A1 a0.length c_1), (1, .slice A2 a1.length c_2), (10, .bool (!decide ((a0.length : Int) = (a1.length : Int))))] rfl ?_
  refine J.cond rfl (fun c1 => ?_) (fun c1 => ?_)
  · replace H := ite_t c1 H
    refine J.seq ?_
    refine J.region ?_
    refine RJ.run ttok 1 rfl ?_
    refine RJ.fin [(4, .bool false)] rfl ?_
    refine J.ret ?_
    obtain rfl := Option.some.inj H
    exact ⟨_, _, _, (results_slots rfl), ⟨rfl, rfl⟩, h0.only [] rfl⟩
  · replace H := ite_f c1 H
    refine J.skip ?_
    refine J.seq ?_
    refine J.seq ?_
    refine J.region ?_
    refine RJ.run ttok 1 rfl ?_
    refine RJ.fin [(0, .slice A1 a0.length c_1), (1, .slice A2 a1.length c_2), (5, .int .i64 0)] rfl ?_
    refine J.block ?_
    have h4 := ((h0.only [] rfl).rds [0, 1] rfl)
    refine J.loop (fun k env w => ∃ (x1 : Int), env = [(0, .slice A1 a0.length c_1), (1, .slice A2 a1.length c_2), (5, .int .i64 x1)] ∧ St w0 F0 [] [rdC 50 (.pair .str .str) a0 (.slice A1 a0.length c_1), rdC 50 (.pair .str .str) a1 (.slice A2 a1.length c_2)] w ∧ sluicegateref11_Same.l0 k a0 a1 x1 = some r) (k := k) ⟨0, rfl, h4, H⟩ ?_
    rintro k1 env w1 ⟨x1, rfl, h1, H⟩
    cases k1 with
    | zero => exact nomatch (show none = some r from H)
    | succ k1 =>
      rw [sluicegateref11_Same.l0] at H
      refine J.seq ?_
      refine J.seq ?_
      refine J.region ?_
      refine RJ.run ttok 4 rfl ?_
      refine RJ.fin [(0, .slice A1 a0.length c_1), (1, .slice A2 a1.length c_2), (5, .int .i64 x1), (14, .bool (decide (x1 < (a0.length : Int))))] rfl ?_
      refine J.cond rfl (fun c2 => ?_) (fun c2 => ?_)
      · replace H := ite_t c2 H
        refine J.skip ?_
        refine J.seq ?_
        refine J.block ?_
        refine J.seq ?_
        refine J.heldSt mix h1 ?_
        have h2 := h1.drew
        refine HJ.run ttok rfl [0, 1, 4, 5] rfl ?_
        obtain ⟨⟨p1, p2⟩, H⟩ := guard_t H
        have e1 := elem_A h2.wh (Gives.self 0 rfl) p1 p2
        refine HJ.q (i := 2) rfl rfl rfl rfl rfl rfl (q_index ttok rfl rfl rfl rfl rfl e1 p1 p2) ?_
        refine HJ.q (i := 3) rfl rfl rfl rfl rfl rfl (q_load_elem (f := 0) ttok rfl (fun w e => e) (Gives.self 0 rfl) p1 p2 rfl rfl rfl rfl rfl) ?_
        obtain ⟨⟨p3, p4⟩, H⟩ := guard_t H
        have e2 := elem_A h2.wh (Gives.self 1 rfl) p3 p4
        refine HJ.q (i := 6) rfl rfl rfl rfl rfl rfl (q_index ttok rfl rfl rfl rfl rfl e2 p3 p4) ?_
        refine HJ.q (i := 7) rfl rfl rfl rfl rfl rfl (q_load_elem (f := 0) ttok rfl (fun w e => e) (Gives.self 1 rfl) p3 p4 rfl rfl rfl rfl rfl) ?_
        refine HJ.run ttok rfl [8] rfl ?_
        refine HJ.fin [(0, .slice A1 a0.length c_1), (1, .slice A2 a1.length c_2), (5, .int .i64 x1), (25, .bool (!((decide (((gt a0 x1).1) = ((gt a1 x1).1))) && ((decide (((gt a0 x1).2) = ((gt a1 x1).2))) && true))))] rfl rfl ?_
        refine J.cond rfl (fun c3 => ?_) (fun c3 => ?_)
        · replace H := ite_t c3 H
          refine J.seq ?_
          refine J.region ?_
          refine RJ.run ttok 1 rfl ?_
          refine RJ.fin [(4, .bool false)] rfl ?_
          refine J.ret ?_
          obtain rfl := Option.some.inj H
          exact ⟨_, _, _, (results_slots rfl), ⟨rfl, rfl⟩, h2.only [] rfl⟩
        · replace H := ite_f c3 H
          refine J.skip ?_
          refine J.region ?_
          refine RJ.run ttok 3 rfl ?_
          refine RJ.fin [(0, .slice A1 a0.length c_1), (1, .slice A2 a1.length c_2), (5, .int .i64 (w64 (x1 + 1)))] rfl ?_
          have h3 := ((h2.only [] rfl).rds [0, 1] rfl)
          exact ⟨k1, by omega, (w64 (x1 + 1)), rfl, h3, H⟩
      · replace H := ite_f c2 H
        refine J.exit ?_
        refine J.seq ?_
        refine J.region ?_
        refine RJ.run ttok 1 rfl ?_
        refine RJ.fin [(4, .bool true)] rfl ?_
        refine J.ret ?_
        obtain rfl := Option.some.inj H
        exact ⟨_, _, _, (results_slots rfl), ⟨rfl, rfl⟩, h1.only [] rfl⟩

/-! sluicegate/sluicegateref13.Same -/
def sluicegateref13_Same.f (k : Nat) (a0 : Int × List (Int) × List (List UInt8) × (List (List UInt8 × Bool × List UInt8)) × (List (List UInt8 × List UInt8))) (a1 : Int × List (Int) × List (List UInt8) × (List (List UInt8 × Bool × List UInt8)) × (List (List UInt8 × List UInt8))) : Option (Bool) := if (decide (a0.1 = a1.1)) = true then ((sluicegateref13_Blocks.f k a0.2.1 a1.2.1).bind fun r1 => (if r1 = true then ((sluicegateref12_Same.f k a0.2.2.1 a1.2.2.1).bind fun r2 => (if r2 = true then ((sluicegateref10_Same.f k a0.2.2.2.1 a1.2.2.2.1).bind fun r3 => (if r3 = true then ((sluicegateref11_Same.f k a0.2.2.2.2 a1.2.2.2.2).bind fun r4 => (some r4)) else (some false))) else (some false))) else (some false))) else (some false)
set_option maxRecDepth 20000 in
set_option maxHeartbeats 4000000 in
theorem sluicegateref13_Same.spec {k : Nat} {a0 : Int × List (Int) × List (List UInt8) × (List (List UInt8 × Bool × List UInt8)) × (List (List UInt8 × List UInt8))} {a1 : Int × List (Int) × List (List UInt8) × (List (List UInt8 × Bool × List UInt8)) × (List (List UInt8 × List UInt8))} {A1 : Option Addr} {c_1 : Nat} {A2 : Option Addr} {c_2 : Nat} {A3 : Option Addr} {c_3 : Nat} {A4 : Option Addr} {c_4 : Nat} {A5 : Option Addr} {c_5 : Nat} {A6 : Option Addr} {c_6 : Nat} {A7 : Option Addr} {c_7 : Nat} {A8 : Option Addr} {c_8 : Nat} {r : Bool} (H : sluicegateref13_Same.f k a0 a1 = some r) :
    Spec Try.prog 20 [.agg #[.int .i64 a0.1, .slice A1 a0.2.1.length c_1, .slice A2 a0.2.2.1.length c_2, .slice A3 a0.2.2.2.1.length c_3, .slice A4 a0.2.2.2.2.length c_4], .agg #[.int .i64 a1.1, .slice A5 a1.2.1.length c_5, .slice A6 a1.2.2.1.length c_6, .slice A7 a1.2.2.2.1.length c_7, .slice A8 a1.2.2.2.2.length c_8]] [] [rdC 46 (.int .u32) a0.2.1 (.slice A1 a0.2.1.length c_1), rdC 9 .str a0.2.2.1 (.slice A2 a0.2.2.1.length c_2), rdC 48 (.pair .str (.pair .bool .str)) a0.2.2.2.1 (.slice A3 a0.2.2.2.1.length c_3), rdC 50 (.pair .str .str) a0.2.2.2.2 (.slice A4 a0.2.2.2.2.length c_4), rdC 46 (.int .u32) a1.2.1 (.slice A5 a1.2.1.length c_5), rdC 9 .str a1.2.2.1 (.slice A6 a1.2.2.1.length c_6), rdC 48 (.pair .str (.pair .bool .str)) a1.2.2.2.1 (.slice A7 a1.2.2.2.1.length c_7), rdC 50 (.pair .str .str) a1.2.2.2.2 (.slice A8 a1.2.2.2.2.length c_8)] (fun v l => v = .bool r ∧ l = []) := by
  refine Spec.enter Try.func20 rfl (by kernel_rfl) (by kernel_rfl) fun w0 F0 h0 => ?_
  unfold sluicegateref13_Same.f at H
  refine J.seq ?_
  refine J.region ?_
  refine RJ.op rfl rfl (op_box rfl rfl h0) ?_
  rintro _ w1 ⟨b1, rfl, h1⟩
  refine RJ.op rfl rfl (op_box rfl rfl h1) ?_
  rintro _ w2 ⟨b2, rfl, h2⟩
  refine RJ.run ttok 1 rfl ?_
  refine RJ.fin [(2, .pointer (some ⟨b1, 0, none⟩)), (3, .pointer (some ⟨b2, 0, none⟩))] rfl ?_
  refine J.seq ?_
  refine J.region ?_
  refine RJ.run ttok 1 rfl ?_
  refine RJ.q rfl rfl (q_load_box ttok 1 (fun w e => e ▸ h2.wh) rfl rfl rfl rfl rfl) ?_
  refine RJ.run ttok 1 rfl ?_
  refine RJ.q rfl rfl (q_load_box ttok 0 (fun w e => e ▸ h2.wh) rfl rfl rfl rfl rfl) ?_
  refine RJ.run ttok 2 rfl ?_
  rcases Bool.eq_false_or_eq_true (decide (a0.1 = a1.1)) with c1 | c1
  · replace H := ite_t c1 H
    refine RJ.know (t := 10) rfl (congrArg Value.bool c1) ?_
    refine RJ.run ttok 1 rfl ?_
    refine RJ.q rfl rfl (q_load_box ttok 1 (fun w e => e ▸ h2.wh) rfl rfl rfl rfl rfl) ?_
    refine RJ.run ttok 1 rfl ?_
    refine RJ.q rfl rfl (q_load_box ttok 0 (fun w e => e ▸ h2.wh) rfl rfl rfl rfl rfl) ?_
    obtain ⟨r1, q1, H⟩ := bind_t H
    refine RJ.op rfl rfl (op_call [] (sluicegateref13_Blocks.spec q1) rfl rfl rfl h2 rfl (gcons (Gives.self 2 rfl) (gcons (Gives.self 6 rfl) gnil))) ?_
    rintro _ w3 ⟨_, ⟨rfl, rfl⟩, h3⟩
    refine RJ.run ttok 2 rfl ?_
    rcases Bool.eq_false_or_eq_true r1 with c2 | c2
    · replace H := ite_t c2 H
      refine RJ.know (t := 17) rfl (congrArg Value.bool c2) ?_
      refine RJ.run ttok 1 rfl ?_
      refine RJ.q rfl rfl (q_load_box ttok 1 (fun w e => e ▸ h3.wh) rfl rfl rfl rfl rfl) ?_
      refine RJ.run ttok 1 rfl ?_
      refine RJ.q rfl rfl (q_load_box ttok 0 (fun w e => e ▸ h3.wh) rfl rfl rfl rfl rfl) ?_
      obtain ⟨r2, q2, H⟩ := bind_t H
      refine RJ.op rfl rfl (op_call [] (sluicegateref12_Same.spec q2) rfl rfl rfl h3 rfl (gcons (Gives.self 3 rfl) (gcons (Gives.self 7 rfl) gnil))) ?_
      rintro _ w4 ⟨_, ⟨rfl, rfl⟩, h4⟩
      refine RJ.run ttok 2 rfl ?_
      rcases Bool.eq_false_or_eq_true r2 with c3 | c3
      · replace H := ite_t c3 H
        refine RJ.know (t := 24) rfl (congrArg Value.bool c3) ?_
        refine RJ.run ttok 1 rfl ?_
        refine RJ.q rfl rfl (q_load_box ttok 1 (fun w e => e ▸ h4.wh) rfl rfl rfl rfl rfl) ?_
        refine RJ.run ttok 1 rfl ?_
        refine RJ.q rfl rfl (q_load_box ttok 0 (fun w e => e ▸ h4.wh) rfl rfl rfl rfl rfl) ?_
        obtain ⟨r3, q3, H⟩ := bind_t H
        refine RJ.op rfl rfl (op_call [] (sluicegateref10_Same.spec q3) rfl rfl rfl h4 rfl (gcons (Gives.self 4 rfl) (gcons (Gives.self 8 rfl) gnil))) ?_
        rintro _ w5 ⟨_, ⟨rfl, rfl⟩, h5⟩
        refine RJ.run ttok 2 rfl ?_
        rcases Bool.eq_false_or_eq_true r3 with c4 | c4
        · replace H := ite_t c4 H
          refine RJ.know (t := 31) rfl (congrArg Value.bool c4) ?_
          refine RJ.run ttok 1 rfl ?_
          refine RJ.q rfl rfl (q_load_box ttok 1 (fun w e => e ▸ h5.wh) rfl rfl rfl rfl rfl) ?_
          refine RJ.run ttok 1 rfl ?_
          refine RJ.q rfl rfl (q_load_box ttok 0 (fun w e => e ▸ h5.wh) rfl rfl rfl rfl rfl) ?_
          obtain ⟨r4, q4, H⟩ := bind_t H
          refine RJ.op rfl rfl (op_call [] (sluicegateref11_Same.spec q4) rfl rfl rfl h5 rfl (gcons (Gives.self 5 rfl) (gcons (Gives.self 9 rfl) gnil))) ?_
          rintro _ w6 ⟨_, ⟨rfl, rfl⟩, h6⟩
          refine RJ.run ttok 2 rfl ?_
          refine RJ.fin [(4, .bool r4)] rfl ?_
          refine J.ret ?_
          obtain rfl := Option.some.inj H
          exact ⟨_, _, _, (results_slots rfl), ⟨rfl, rfl⟩, h6.only [] rfl⟩
        · replace H := ite_f c4 H
          refine RJ.know (t := 31) rfl (congrArg Value.bool c4) ?_
          refine RJ.run ttok 7 rfl ?_
          refine RJ.fin [(4, .bool false)] rfl ?_
          refine J.ret ?_
          obtain rfl := Option.some.inj H
          exact ⟨_, _, _, (results_slots rfl), ⟨rfl, rfl⟩, h5.only [] rfl⟩
      · replace H := ite_f c3 H
        refine RJ.know (t := 24) rfl (congrArg Value.bool c3) ?_
        refine RJ.run ttok 14 rfl ?_
        refine RJ.fin [(4, .bool false)] rfl ?_
        refine J.ret ?_
        obtain rfl := Option.some.inj H
        exact ⟨_, _, _, (results_slots rfl), ⟨rfl, rfl⟩, h4.only [] rfl⟩
    · replace H := ite_f c2 H
      refine RJ.know (t := 17) rfl (congrArg Value.bool c2) ?_
      refine RJ.run ttok 21 rfl ?_
      refine RJ.fin [(4, .bool false)] rfl ?_
      refine J.ret ?_
      obtain rfl := Option.some.inj H
      exact ⟨_, _, _, (results_slots rfl), ⟨rfl, rfl⟩, h3.only [] rfl⟩
  · replace H := ite_f c1 H
    refine RJ.know (t := 10) rfl (congrArg Value.bool c1) ?_
    refine RJ.run ttok 28 rfl ?_
    refine RJ.fin [(4, .bool false)] rfl ?_
    refine J.ret ?_
    obtain rfl := Option.some.inj H
    exact ⟨_, _, _, (results_slots rfl), ⟨rfl, rfl⟩, h2.only [] rfl⟩

/-! sluicegate/cleave.Fits -/
def cleave_Fits.f (a0 : Int × Int × Int × Int × Int × Int × Int × Int) (a1 : Int × List (Int) × List (List UInt8) × (List (List UInt8 × Bool × List UInt8)) × (List (List UInt8 × List UInt8))) (a2 : Int × List (Int) × List (List UInt8) × (List (List UInt8 × Bool × List UInt8)) × (List (List UInt8 × List UInt8))) : Option (Bool) := if (!decide (a1.1 = a2.1)) = true then (some false) else (if (decide (a1.1 = 0)) = true then (some (decide ((w64 ((a1.2.2.2.2.length : Int) + (a2.2.2.2.2.length : Int))) ≤ (w64 (Int.tdiv a0.2.2.2.2.2.1 2))))) else (if (decide ((w64 ((a1.2.1.length : Int) + (a2.2.1.length : Int))) ≤ (w64 (Int.tdiv a0.2.2.2.1 2)))) = true then (some (decide ((w64 ((a1.2.2.2.1.length : Int) + (a2.2.2.2.1.length : Int))) ≤ a0.2.2.2.2.1))) else (some false)))
set_option maxRecDepth 20000 in
set_option maxHeartbeats 4000000 in
theorem cleave_Fits.spec {a0 : Int × Int × Int × Int × Int × Int × Int × Int} {a1 : Int × List (Int) × List (List UInt8) × (List (List UInt8 × Bool × List UInt8)) × (List (List UInt8 × List UInt8))} {a2 : Int × List (Int) × List (List UInt8) × (List (List UInt8 × Bool × List UInt8)) × (List (List UInt8 × List UInt8))} {A1 : Option Addr} {c_1 : Nat} {A2 : Option Addr} {c_2 : Nat} {A3 : Option Addr} {c_3 : Nat} {A4 : Option Addr} {c_4 : Nat} {A5 : Option Addr} {c_5 : Nat} {A6 : Option Addr} {c_6 : Nat} {A7 : Option Addr} {c_7 : Nat} {A8 : Option Addr} {c_8 : Nat} {r : Bool} (H : cleave_Fits.f a0 a1 a2 = some r) :
    Spec Try.prog 23 [.agg #[.int .i64 a0.1, .int .i64 a0.2.1, .int .i64 a0.2.2.1, .int .i64 a0.2.2.2.1, .int .i64 a0.2.2.2.2.1, .int .i64 a0.2.2.2.2.2.1, .int .i64 a0.2.2.2.2.2.2.1, .int .i64 a0.2.2.2.2.2.2.2], .agg #[.int .i64 a1.1, .slice A1 a1.2.1.length c_1, .slice A2 a1.2.2.1.length c_2, .slice A3 a1.2.2.2.1.length c_3, .slice A4 a1.2.2.2.2.length c_4], .agg #[.int .i64 a2.1, .slice A5 a2.2.1.length c_5, .slice A6 a2.2.2.1.length c_6, .slice A7 a2.2.2.2.1.length c_7, .slice A8 a2.2.2.2.2.length c_8]] [] [rdC 46 (.int .u32) a1.2.1 (.slice A1 a1.2.1.length c_1), rdC 9 .str a1.2.2.1 (.slice A2 a1.2.2.1.length c_2), rdC 48 (.pair .str (.pair .bool .str)) a1.2.2.2.1 (.slice A3 a1.2.2.2.1.length c_3), rdC 50 (.pair .str .str) a1.2.2.2.2 (.slice A4 a1.2.2.2.2.length c_4), rdC 46 (.int .u32) a2.2.1 (.slice A5 a2.2.1.length c_5), rdC 9 .str a2.2.2.1 (.slice A6 a2.2.2.1.length c_6), rdC 48 (.pair .str (.pair .bool .str)) a2.2.2.2.1 (.slice A7 a2.2.2.2.1.length c_7), rdC 50 (.pair .str .str) a2.2.2.2.2 (.slice A8 a2.2.2.2.2.length c_8)] (fun v l => v = .bool r ∧ l = []) := by
  refine Spec.enter Try.func23 rfl (by kernel_rfl) (by kernel_rfl) fun w0 F0 h0 => ?_
  unfold cleave_Fits.f at H
  refine J.seq ?_
  refine J.region ?_
  refine RJ.op rfl rfl (op_box rfl rfl h0) ?_
  rintro _ w1 ⟨b1, rfl, h1⟩
  refine RJ.op rfl rfl (op_box rfl rfl h1) ?_
  rintro _ w2 ⟨b2, rfl, h2⟩
  refine RJ.op rfl rfl (op_box rfl rfl h2) ?_
  rintro _ w3 ⟨b3, rfl, h3⟩
  refine RJ.run ttok 1 rfl ?_
  refine RJ.fin [(3, .pointer (some ⟨b1, 0, none⟩)), (4, .pointer (some ⟨b2, 0, none⟩)), (5, .pointer (some ⟨b3, 0, none⟩))] rfl ?_
  refine J.seq ?_
  refine J.seq ?_
  refine J.region ?_
  refine RJ.run ttok 1 rfl ?_
  refine RJ.q rfl rfl (q_load_box ttok 1 (fun w e => e ▸ h3.wh) rfl rfl rfl rfl rfl) ?_
  refine RJ.run ttok 1 rfl ?_
  refine RJ.q rfl rfl (q_load_box ttok 0 (fun w e => e ▸ h3.wh) rfl rfl rfl rfl rfl) ?_
  refine RJ.run ttok 1 rfl ?_
  refine RJ.fin [(3, .pointer (some ⟨b1, 0, none⟩)), (4, .pointer (some ⟨b2, 0, none⟩)), (5, .pointer (some ⟨b3, 0, none⟩)), (11, .bool (!decide (a1.1 = a2.1)))] rfl ?_
  refine J.cond rfl (fun c1 => ?_) (fun c1 => ?_)
  · replace H := ite_t c1 H
    refine J.seq ?_
    refine J.region ?_
    refine RJ.run ttok 1 rfl ?_
    refine RJ.fin [(6, .bool false)] rfl ?_
    refine J.ret ?_
    obtain rfl := Option.some.inj H
    exact ⟨_, _, _, (results_slots rfl), ⟨rfl, rfl⟩, h3.only [] rfl⟩
  · replace H := ite_f c1 H
    refine J.skip ?_
    refine J.seq ?_
    refine J.seq ?_
    refine J.region ?_
    refine RJ.run ttok 1 rfl ?_
    refine RJ.q rfl rfl (q_load_box ttok 1 (fun w e => e ▸ h3.wh) rfl rfl rfl rfl rfl) ?_
    refine RJ.run ttok 1 rfl ?_
    refine RJ.fin [(3, .pointer (some ⟨b1, 0, none⟩)), (4, .pointer (some ⟨b2, 0, none⟩)), (5, .pointer (some ⟨b3, 0, none⟩)), (14, .bool (decide (a1.1 = 0)))] rfl ?_
    refine J.cond rfl (fun c2 => ?_) (fun c2 => ?_)
    · replace H := ite_t c2 H
      refine J.seq ?_
      refine J.region ?_
      refine RJ.run ttok 1 rfl ?_
      refine RJ.q rfl rfl (q_load_box ttok 1 (fun w e => e ▸ h3.wh) rfl rfl rfl rfl rfl) ?_
      refine RJ.run ttok 2 rfl ?_
      refine RJ.q rfl rfl (q_load_box ttok 0 (fun w e => e ▸ h3.wh) rfl rfl rfl rfl rfl) ?_
      refine RJ.run ttok 3 rfl ?_
      refine RJ.q rfl rfl (q_load_box ttok 2 (fun w e => e ▸ h3.wh) rfl rfl rfl rfl rfl) ?_
      refine RJ.run ttok 3 rfl ?_
      refine RJ.fin [(6, .bool (decide ((w64 ((a1.2.2.2.2.length : Int) + (a2.2.2.2.2.length : Int))) ≤ (w64 (Int.tdiv a0.2.2.2.2.2.1 2)))))] rfl ?_
      refine J.ret ?_
      obtain rfl := Option.some.inj H
      exact ⟨_, _, _, (results_slots rfl), ⟨rfl, rfl⟩, h3.only [] rfl⟩
    · replace H := ite_f c2 H
      refine J.skip ?_
      refine J.seq ?_
      refine J.region ?_
      refine RJ.run ttok 1 rfl ?_
      refine RJ.q rfl rfl (q_load_box ttok 1 (fun w e => e ▸ h3.wh) rfl rfl rfl rfl rfl) ?_
      refine RJ.run ttok 2 rfl ?_
      refine RJ.q rfl rfl (q_load_box ttok 0 (fun w e => e ▸ h3.wh) rfl rfl rfl rfl rfl) ?_
      refine RJ.run ttok 3 rfl ?_
      refine RJ.q rfl rfl (q_load_box ttok 2 (fun w e => e ▸ h3.wh) rfl rfl rfl rfl rfl) ?_
      refine RJ.run ttok 3 rfl ?_
      rcases Bool.eq_false_or_eq_true (decide ((w64 ((a1.2.1.length : Int) + (a2.2.1.length : Int))) ≤ (w64 (Int.tdiv a0.2.2.2.1 2)))) with c3 | c3
      · replace H := ite_t c3 H
        refine RJ.know (t := 37) rfl (congrArg Value.bool c3) ?_
        refine RJ.run ttok 1 rfl ?_
        refine RJ.q rfl rfl (q_load_box ttok 1 (fun w e => e ▸ h3.wh) rfl rfl rfl rfl rfl) ?_
        refine RJ.run ttok 2 rfl ?_
        refine RJ.q rfl rfl (q_load_box ttok 0 (fun w e => e ▸ h3.wh) rfl rfl rfl rfl rfl) ?_
        refine RJ.run ttok 3 rfl ?_
        refine RJ.q rfl rfl (q_load_box ttok 2 (fun w e => e ▸ h3.wh) rfl rfl rfl rfl rfl) ?_
        refine RJ.run ttok 3 rfl ?_
        refine RJ.fin [(6, .bool (decide ((w64 ((a1.2.2.2.1.length : Int) + (a2.2.2.2.1.length : Int))) ≤ a0.2.2.2.2.1)))] rfl ?_
        refine J.ret ?_
        obtain rfl := Option.some.inj H
        exact ⟨_, _, _, (results_slots rfl), ⟨rfl, rfl⟩, h3.only [] rfl⟩
      · replace H := ite_f c3 H
        refine RJ.know (t := 37) rfl (congrArg Value.bool c3) ?_
        refine RJ.run ttok 12 rfl ?_
        refine RJ.fin [(6, .bool false)] rfl ?_
        refine J.ret ?_
        obtain rfl := Option.some.inj H
        exact ⟨_, _, _, (results_slots rfl), ⟨rfl, rfl⟩, h3.only [] rfl⟩

/-! sluicegate/sluicegatelaw14.awake -/
def sluicegatelaw14_awake.f (k : Nat)  : Option (Bool) := (cleave_Halve.f k (1, ([4, 7, 2] : List (Int)), ([([98] : List UInt8), ([100] : List UInt8)] : List (List UInt8)), ([(([97] : List UInt8), false, ([] : List UInt8)), (([99] : List UInt8), false, ([] : List UInt8)), (([101] : List UInt8), false, ([] : List UInt8))] : List (List UInt8 × Bool × List UInt8)), ([] : List (List UInt8 × List UInt8)))).bind fun r1 => ((cleave_Join.f (r1.1.1, r1.1.2.1, r1.1.2.2.1, r1.1.2.2.2.1, r1.1.2.2.2.2) r1.2.2.1 (r1.2.1.1, r1.2.1.2.1, r1.2.1.2.2.1, r1.2.1.2.2.2.1, r1.2.1.2.2.2.2)).bind fun r2 => (if r1.2.2.2 = true then (if (decide (r1.2.2.1 = ([100] : List UInt8))) = true then (if (decide ((r1.1.2.1.length : Int) = 2)) = true then (if (decide ((r1.1.2.2.2.1.length : Int) = 2)) = true then (if (decide ((r1.2.1.2.1.length : Int) = 1)) = true then (if (decide ((r1.2.1.2.2.2.1.length : Int) = 1)) = true then (if r2.2 = true then ((sluicegateref13_Same.f k (r2.1.1, r2.1.2.1, r2.1.2.2.1, r2.1.2.2.2.1, r2.1.2.2.2.2) (1, ([4, 7, 2] : List (Int)), ([([98] : List UInt8), ([100] : List UInt8)] : List (List UInt8)), ([(([97] : List UInt8), false, ([] : List UInt8)), (([99] : List UInt8), false, ([] : List UInt8)), (([101] : List UInt8), false, ([] : List UInt8))] : List (List UInt8 × Bool × List UInt8)), ([] : List (List UInt8 × List UInt8)))).bind fun r3 => (if r3 = true then ((cleave_Fits.f (0, 0, 0, 8, 16, 0, 0, 0) (r1.1.1, r1.1.2.1, r1.1.2.2.1, r1.1.2.2.2.1, r1.1.2.2.2.2) (r1.2.1.1, r1.2.1.2.1, r1.2.1.2.2.1, r1.2.1.2.2.2.1, r1.2.1.2.2.2.2)).bind fun r4 => (some r4)) else (some false))) else (some false)) else (some false)) else (some false)) else (some false)) else (some false)) else (some false)) else (some false)))
set_option maxRecDepth 20000 in
set_option maxHeartbeats 4000000 in
theorem sluicegatelaw14_awake.spec {k : Nat}   {r : Bool} (H : sluicegatelaw14_awake.f k  = some r) :
    Spec Try.prog 16 [] [] [] (fun v l => v = .bool r ∧ l = []) := by
  refine Spec.enter Try.func16 rfl (by kernel_rfl) (by kernel_rfl) fun w0 F0 h0 => ?_
  unfold sluicegatelaw14_awake.f at H
  refine J.seq ?_
  refine J.region ?_
  refine RJ.run ttok 1 rfl ?_
  refine RJ.fin [] rfl ?_
  refine J.seq ?_
  refine J.region ?_
  refine RJ.op rfl rfl (op_lit ttok (.int .u32) rfl ([4, 7, 2] : List (Int)) rfl h0 rfl rfl (by decide) rfl rfl rfl rfl rfl rfl rfl) ?_
  rintro _ w1 ⟨b1, rfl, h1⟩
  refine RJ.op rfl rfl (op_lit ttok .str rfl ([([98] : List UInt8), ([100] : List UInt8)] : List (List UInt8)) rfl h1 rfl rfl (by decide) rfl rfl rfl rfl rfl rfl rfl) ?_
  rintro _ w2 ⟨b2, rfl, h2⟩
  refine RJ.run ttok 3 rfl ?_
  refine RJ.op rfl rfl (op_lit ttok (.pair .str (.pair .bool .str)) rfl ([(([97] : List UInt8), false, ([] : List UInt8)), (([99] : List UInt8), false, ([] : List UInt8)), (([101] : List UInt8), false, ([] : List UInt8))] : List (List UInt8 × Bool × List UInt8)) rfl h2 rfl rfl (by decide) rfl rfl rfl rfl rfl rfl rfl) ?_
  rintro _ w3 ⟨b3, rfl, h3⟩
  refine RJ.run ttok 1 rfl ?_
  refine RJ.op rfl rfl (op_alloc ttok rfl rfl h3) ?_
  rintro _ w4 ⟨b4, rfl, h4⟩
  refine RJ.op rfl rfl (op_store ttok 0 rfl h4 rfl rfl rfl rfl rfl rfl rfl) ?_
  intro _ w5 h5
  replace h5 : St w0 F0 (boxC b4 31 [.int .i64 1, .slice (some ⟨b1, 0, none⟩) ([4, 7, 2] : List (Int)).length 3, .slice (some ⟨b2, 0, none⟩) ([([98] : List UInt8), ([100] : List UInt8)] : List (List UInt8)).length 2, .slice (some ⟨b3, 0, none⟩) ([(([97] : List UInt8), false, ([] : List UInt8)), (([99] : List UInt8), false, ([] : List UInt8)), (([101] : List UInt8), false, ([] : List UInt8))] : List (List UInt8 × Bool × List UInt8)).length 3, .slice none ([] : List (List UInt8 × List UInt8)).length 0] :: _) _ w5 := h5
  refine RJ.fin [(1, .pointer (some ⟨b4, 0, none⟩))] rfl ?_
  refine J.seq ?_
  refine J.region ?_
  refine RJ.q rfl rfl (q_load_box ttok 0 (fun w e => e ▸ h5.wh) rfl rfl rfl rfl rfl) ?_
  have h6 := h5.addNil 50 (.pair .str .str)
  obtain ⟨r1, q1, H⟩ := bind_t H
  refine RJ.op rfl rfl (op_call [] (cleave_Halve.spec q1) rfl rfl rfl h6 rfl (gcons (Gives.of 4 rfl own_rd) (gcons (Gives.of 3 rfl own_rd) (gcons (Gives.of 2 rfl own_rd) (gcons (Gives.of 0 rfl own_rd) gnil))))) ?_
  rintro _ w6 ⟨_, ⟨A1, c_1, A2, c_2, A3, c_3, A4, c_4, A5, c_5, A6, c_6, A7, c_7, A8, c_8, rfl, rfl⟩, h7⟩
  refine RJ.run ttok 5 rfl ?_
  refine RJ.op rfl rfl (op_alloc ttok rfl rfl h7) ?_
  rintro _ w7 ⟨b5, rfl, h8⟩
  refine RJ.op rfl rfl (op_alloc ttok rfl rfl h8) ?_
  rintro _ w8 ⟨b6, rfl, h9⟩
  refine RJ.op rfl rfl (op_store ttok 1 rfl h9 rfl rfl rfl rfl rfl rfl rfl) ?_
  intro _ w9 h10
  replace h10 : St w0 F0 (boxC b5 31 [.int .i64 r1.1.1, .slice A1 r1.1.2.1.length c_1, .slice A2 r1.1.2.2.1.length c_2, .slice A3 r1.1.2.2.2.1.length c_3, .slice A4 r1.1.2.2.2.2.length c_4] :: _) _ w9 := h10
  refine RJ.op rfl rfl (op_store ttok 1 rfl h10 rfl rfl rfl rfl rfl rfl rfl) ?_
  intro _ w10 h11
  replace h11 : St w0 F0 (boxC b6 31 [.int .i64 r1.2.1.1, .slice A5 r1.2.1.2.1.length c_5, .slice A6 r1.2.1.2.2.1.length c_6, .slice A7 r1.2.1.2.2.2.1.length c_7, .slice A8 r1.2.1.2.2.2.2.length c_8] :: _) _ w10 := h11
  refine RJ.run ttok 2 rfl ?_
  refine RJ.fin [(1, .pointer (some ⟨b4, 0, none⟩)), (2, .pointer (some ⟨b5, 0, none⟩)), (3, .pointer (some ⟨b6, 0, none⟩)), (4, .string ⟨⟨r1.2.2.1⟩⟩), (5, .bool r1.2.2.2)] rfl ?_
  refine J.seq ?_
  refine J.region ?_
  refine RJ.q rfl rfl (q_load_box ttok 1 (fun w e => e ▸ h11.wh) rfl rfl rfl rfl rfl) ?_
  refine RJ.run ttok 1 rfl ?_
  refine RJ.q rfl rfl (q_load_box ttok 0 (fun w e => e ▸ h11.wh) rfl rfl rfl rfl rfl) ?_
  obtain ⟨r2, q2, H⟩ := bind_t H
  refine RJ.op rfl rfl (op_call [] (cleave_Join.spec q2) rfl rfl rfl h11 rfl (gcons (Gives.of 2 rfl own_rd) (gcons (Gives.of 3 rfl own_rd) (gcons (Gives.of 4 rfl own_rd) (gcons (Gives.of 5 rfl own_rd) (gcons (Gives.of 6 rfl own_rd) (gcons (Gives.of 7 rfl own_rd) (gcons (Gives.of 8 rfl own_rd) (gcons (Gives.of 9 rfl own_rd) gnil))))))))) ?_
  rintro _ w11 ⟨_, ⟨A9, c_9, A10, c_10, A11, c_11, A12, c_12, rfl, rfl⟩, h12⟩
  refine RJ.run ttok 3 rfl ?_
  refine RJ.op rfl rfl (op_alloc ttok rfl rfl h12) ?_
  rintro _ w12 ⟨b7, rfl, h13⟩
  refine RJ.op rfl rfl (op_store ttok 0 rfl h13 rfl rfl rfl rfl rfl rfl rfl) ?_
  intro _ w13 h14
  replace h14 : St w0 F0 (boxC b7 31 [.int .i64 r2.1.1, .slice A9 r2.1.2.1.length c_9, .slice A10 r2.1.2.2.1.length c_10, .slice A11 r2.1.2.2.2.1.length c_11, .slice A12 r2.1.2.2.2.2.length c_12] :: _) _ w13 := h14
  refine RJ.run ttok 1 rfl ?_
  refine RJ.fin [(1, .pointer (some ⟨b4, 0, none⟩)), (2, .pointer (some ⟨b5, 0, none⟩)), (3, .pointer (some ⟨b6, 0, none⟩)), (4, .string ⟨⟨r1.2.2.1⟩⟩), (5, .bool r1.2.2.2), (6, .pointer (some ⟨b7, 0, none⟩)), (7, .bool r2.2)] rfl ?_
  refine J.seq ?_
  refine J.region ?_
  refine RJ.run ttok 2 rfl ?_
  rcases Bool.eq_false_or_eq_true r1.2.2.2 with c1 | c1
  · replace H := ite_t c1 H
    refine RJ.know (t := 30) rfl (congrArg Value.bool c1) ?_
    refine RJ.run ttok 4 rfl ?_
    rcases Bool.eq_false_or_eq_true (decide (r1.2.2.1 = ([100] : List UInt8))) with c2 | c2
    · replace H := ite_t c2 H
      refine RJ.know (t := 34) rfl (congrArg Value.bool c2) ?_
      refine RJ.run ttok 1 rfl ?_
      refine RJ.q rfl rfl (q_load_box ttok 6 (fun w e => e ▸ h14.wh) rfl rfl rfl rfl rfl) ?_
      refine RJ.run ttok 4 rfl ?_
      rcases Bool.eq_false_or_eq_true (decide ((r1.1.2.1.length : Int) = 2)) with c3 | c3
      · replace H := ite_t c3 H
        refine RJ.know (t := 40) rfl (congrArg Value.bool c3) ?_
        refine RJ.run ttok 1 rfl ?_
        refine RJ.q rfl rfl (q_load_box ttok 6 (fun w e => e ▸ h14.wh) rfl rfl rfl rfl rfl) ?_
        refine RJ.run ttok 4 rfl ?_
        rcases Bool.eq_false_or_eq_true (decide ((r1.1.2.2.2.1.length : Int) = 2)) with c4 | c4
        · replace H := ite_t c4 H
          refine RJ.know (t := 46) rfl (congrArg Value.bool c4) ?_
          refine RJ.run ttok 1 rfl ?_
          refine RJ.q rfl rfl (q_load_box ttok 5 (fun w e => e ▸ h14.wh) rfl rfl rfl rfl rfl) ?_
          refine RJ.run ttok 4 rfl ?_
          rcases Bool.eq_false_or_eq_true (decide ((r1.2.1.2.1.length : Int) = 1)) with c5 | c5
          · replace H := ite_t c5 H
            refine RJ.know (t := 52) rfl (congrArg Value.bool c5) ?_
            refine RJ.run ttok 1 rfl ?_
            refine RJ.q rfl rfl (q_load_box ttok 5 (fun w e => e ▸ h14.wh) rfl rfl rfl rfl rfl) ?_
            refine RJ.run ttok 4 rfl ?_
            rcases Bool.eq_false_or_eq_true (decide ((r1.2.1.2.2.2.1.length : Int) = 1)) with c6 | c6
            · replace H := ite_t c6 H
              refine RJ.know (t := 58) rfl (congrArg Value.bool c6) ?_
              refine RJ.run ttok 3 rfl ?_
              rcases Bool.eq_false_or_eq_true r2.2 with c7 | c7
              · replace H := ite_t c7 H
                refine RJ.know (t := 61) rfl (congrArg Value.bool c7) ?_
                refine RJ.q rfl rfl (q_load_box ttok 0 (fun w e => e ▸ h14.wh) rfl rfl rfl rfl rfl) ?_
                refine RJ.q rfl rfl (q_load_box ttok 16 (fun w e => e ▸ h14.wh) rfl rfl rfl rfl rfl) ?_
                obtain ⟨r3, q3, H⟩ := bind_t H
                refine RJ.op rfl rfl (op_call [] (sluicegateref13_Same.spec q3) rfl rfl rfl h14 rfl (gcons (Gives.of 1 rfl own_rd) (gcons (Gives.of 2 rfl own_rd) (gcons (Gives.of 3 rfl own_rd) (gcons (Gives.of 4 rfl own_rd) (gcons (Gives.of 19 rfl own_rd) (gcons (Gives.of 18 rfl own_rd) (gcons (Gives.of 17 rfl own_rd) (gcons (Gives.of 15 rfl own_rd) gnil))))))))) ?_
                rintro _ w14 ⟨_, ⟨rfl, rfl⟩, h15⟩
                refine RJ.run ttok 2 rfl ?_
                rcases Bool.eq_false_or_eq_true r3 with c8 | c8
                · replace H := ite_t c8 H
                  refine RJ.know (t := 66) rfl (congrArg Value.bool c8) ?_
                  refine RJ.run ttok 1 rfl ?_
                  refine RJ.q rfl rfl (q_load_box ttok 6 (fun w e => e ▸ h15.wh) rfl rfl rfl rfl rfl) ?_
                  refine RJ.q rfl rfl (q_load_box ttok 5 (fun w e => e ▸ h15.wh) rfl rfl rfl rfl rfl) ?_
                  obtain ⟨r4, q4, H⟩ := bind_t H
                  refine RJ.op rfl rfl (op_call [] (cleave_Fits.spec q4) rfl rfl rfl h15 rfl (gcons (Gives.of 7 rfl own_rd) (gcons (Gives.of 8 rfl own_rd) (gcons (Gives.of 9 rfl own_rd) (gcons (Gives.of 10 rfl own_rd) (gcons (Gives.of 11 rfl own_rd) (gcons (Gives.of 12 rfl own_rd) (gcons (Gives.of 13 rfl own_rd) (gcons (Gives.of 14 rfl own_rd) gnil))))))))) ?_
                  rintro _ w15 ⟨_, ⟨rfl, rfl⟩, h16⟩
                  refine RJ.run ttok 2 rfl ?_
                  refine RJ.fin [(0, .bool r4)] rfl ?_
                  refine J.ret ?_
                  obtain rfl := Option.some.inj H
                  exact ⟨_, _, _, (results_slots rfl), ⟨rfl, rfl⟩, h16.only [] rfl⟩
                · replace H := ite_f c8 H
                  refine RJ.know (t := 66) rfl (congrArg Value.bool c8) ?_
                  refine RJ.run ttok 6 rfl ?_
                  refine RJ.fin [(0, .bool false)] rfl ?_
                  refine J.ret ?_
                  obtain rfl := Option.some.inj H
                  exact ⟨_, _, _, (results_slots rfl), ⟨rfl, rfl⟩, h15.only [] rfl⟩
              · replace H := ite_f c7 H
                refine RJ.know (t := 61) rfl (congrArg Value.bool c7) ?_
                refine RJ.run ttok 11 rfl ?_
                refine RJ.fin [(0, .bool false)] rfl ?_
                refine J.ret ?_
                obtain rfl := Option.some.inj H
                exact ⟨_, _, _, (results_slots rfl), ⟨rfl, rfl⟩, h14.only [] rfl⟩
            · replace H := ite_f c6 H
              refine RJ.know (t := 58) rfl (congrArg Value.bool c6) ?_
              refine RJ.run ttok 14 rfl ?_
              refine RJ.fin [(0, .bool false)] rfl ?_
              refine J.ret ?_
              obtain rfl := Option.some.inj H
              exact ⟨_, _, _, (results_slots rfl), ⟨rfl, rfl⟩, h14.only [] rfl⟩
          · replace H := ite_f c5 H
            refine RJ.know (t := 52) rfl (congrArg Value.bool c5) ?_
            refine RJ.run ttok 20 rfl ?_
            refine RJ.fin [(0, .bool false)] rfl ?_
            refine J.ret ?_
            obtain rfl := Option.some.inj H
            exact ⟨_, _, _, (results_slots rfl), ⟨rfl, rfl⟩, h14.only [] rfl⟩
        · replace H := ite_f c4 H
          refine RJ.know (t := 46) rfl (congrArg Value.bool c4) ?_
          refine RJ.run ttok 26 rfl ?_
          refine RJ.fin [(0, .bool false)] rfl ?_
          refine J.ret ?_
          obtain rfl := Option.some.inj H
          exact ⟨_, _, _, (results_slots rfl), ⟨rfl, rfl⟩, h14.only [] rfl⟩
      · replace H := ite_f c3 H
        refine RJ.know (t := 40) rfl (congrArg Value.bool c3) ?_
        refine RJ.run ttok 32 rfl ?_
        refine RJ.fin [(0, .bool false)] rfl ?_
        refine J.ret ?_
        obtain rfl := Option.some.inj H
        exact ⟨_, _, _, (results_slots rfl), ⟨rfl, rfl⟩, h14.only [] rfl⟩
    · replace H := ite_f c2 H
      refine RJ.know (t := 34) rfl (congrArg Value.bool c2) ?_
      refine RJ.run ttok 38 rfl ?_
      refine RJ.fin [(0, .bool false)] rfl ?_
      refine J.ret ?_
      obtain rfl := Option.some.inj H
      exact ⟨_, _, _, (results_slots rfl), ⟨rfl, rfl⟩, h14.only [] rfl⟩
  · replace H := ite_f c1 H
    refine RJ.know (t := 30) rfl (congrArg Value.bool c1) ?_
    refine RJ.run ttok 42 rfl ?_
    refine RJ.fin [(0, .bool false)] rfl ?_
    refine J.ret ?_
    obtain rfl := Option.some.inj H
    exact ⟨_, _, _, (results_slots rfl), ⟨rfl, rfl⟩, h14.only [] rfl⟩

/-! sluicegate/sluicegateref14.Join -/
def sluicegateref14_Join.f (a0 : Int × List (Int) × List (List UInt8) × (List (List UInt8 × Bool × List UInt8)) × (List (List UInt8 × List UInt8))) (a1 : List UInt8) (a2 : Int × List (Int) × List (List UInt8) × (List (List UInt8 × Bool × List UInt8)) × (List (List UInt8 × List UInt8))) : Option ((Int × List (Int) × List (List UInt8) × (List (List UInt8 × Bool × List UInt8)) × (List (List UInt8 × List UInt8))) × Bool) := if (!decide (a0.1 = a2.1)) = true then (some ((0, ([] : List (Int)), ([] : List (List UInt8)), ([] : List (List UInt8 × Bool × List UInt8)), ([] : List (List UInt8 × List UInt8))), false)) else (if (([] : List (Int)).length + a0.2.1.length) * 4 ≤ 140737488355328 then (if ((([] : List (Int)) ++ a0.2.1).length + a2.2.1.length) * 4 ≤ 140737488355328 then (if (([] : List (List UInt8 × Bool × List UInt8)).length + a0.2.2.2.1.length) * 40 ≤ 140737488355328 then (if ((([] : List (List UInt8 × Bool × List UInt8)) ++ a0.2.2.2.1).length + a2.2.2.2.1.length) * 40 ≤ 140737488355328 then (if (([] : List (List UInt8 × List UInt8)).length + a0.2.2.2.2.length) * 32 ≤ 140737488355328 then (if ((([] : List (List UInt8 × List UInt8)) ++ a0.2.2.2.2).length + a2.2.2.2.2.length) * 32 ≤ 140737488355328 then (if (decide (0 < a0.1)) = true then (if (([] : List (List UInt8)).length + a0.2.2.1.length) * 16 ≤ 140737488355328 then (if ((([] : List (List UInt8)) ++ a0.2.2.1).length + ([a1] : List (List UInt8)).length) * 16 ≤ 140737488355328 then (if (((([] : List (List UInt8)) ++ a0.2.2.1) ++ ([a1] : List (List UInt8))).length + a2.2.2.1.length) * 16 ≤ 140737488355328 then (some ((a0.1, ((([] : List (Int)) ++ a0.2.1) ++ a2.2.1), (((([] : List (List UInt8)) ++ a0.2.2.1) ++ ([a1] : List (List UInt8))) ++ a2.2.2.1), ((([] : List (List UInt8 × Bool × List UInt8)) ++ a0.2.2.2.1) ++ a2.2.2.2.1), ((([] : List (List UInt8 × List UInt8)) ++ a0.2.2.2.2) ++ a2.2.2.2.2)), true)) else none) else none) else none) else (some ((a0.1, ((([] : List (Int)) ++ a0.2.1) ++ a2.2.1), ([] : List (List UInt8)), ((([] : List (List UInt8 × Bool × List UInt8)) ++ a0.2.2.2.1) ++ a2.2.2.2.1), ((([] : List (List UInt8 × List UInt8)) ++ a0.2.2.2.2) ++ a2.2.2.2.2)), true))) else none) else none) else none) else none) else none) else none)
set_option maxRecDepth 20000 in
set_option maxHeartbeats 4000000 in
theorem sluicegateref14_Join.spec {a0 : Int × List (Int) × List (List UInt8) × (List (List UInt8 × Bool × List UInt8)) × (List (List UInt8 × List UInt8))} {a1 : List UInt8} {a2 : Int × List (Int) × List (List UInt8) × (List (List UInt8 × Bool × List UInt8)) × (List (List UInt8 × List UInt8))} {A1 : Option Addr} {c_1 : Nat} {A2 : Option Addr} {c_2 : Nat} {A3 : Option Addr} {c_3 : Nat} {A4 : Option Addr} {c_4 : Nat} {A5 : Option Addr} {c_5 : Nat} {A6 : Option Addr} {c_6 : Nat} {A7 : Option Addr} {c_7 : Nat} {A8 : Option Addr} {c_8 : Nat} {r : (Int × List (Int) × List (List UInt8) × (List (List UInt8 × Bool × List UInt8)) × (List (List UInt8 × List UInt8))) × Bool} (H : sluicegateref14_Join.f a0 a1 a2 = some r) :
    Spec Try.prog 17 [.agg #[.int .i64 a0.1, .slice A1 a0.2.1.length c_1, .slice A2 a0.2.2.1.length c_2, .slice A3 a0.2.2.2.1.length c_3, .slice A4 a0.2.2.2.2.length c_4], .string ⟨⟨a1⟩⟩, .agg #[.int .i64 a2.1, .slice A5 a2.2.1.length c_5, .slice A6 a2.2.2.1.length c_6, .slice A7 a2.2.2.2.1.length c_7, .slice A8 a2.2.2.2.2.length c_8]] [] [rdC 46 (.int .u32) a0.2.1 (.slice A1 a0.2.1.length c_1), rdC 9 .str a0.2.2.1 (.slice A2 a0.2.2.1.length c_2), rdC 48 (.pair .str (.pair .bool .str)) a0.2.2.2.1 (.slice A3 a0.2.2.2.1.length c_3), rdC 50 (.pair .str .str) a0.2.2.2.2 (.slice A4 a0.2.2.2.2.length c_4), rdC 46 (.int .u32) a2.2.1 (.slice A5 a2.2.1.length c_5), rdC 9 .str a2.2.2.1 (.slice A6 a2.2.2.1.length c_6), rdC 48 (.pair .str (.pair .bool .str)) a2.2.2.2.1 (.slice A7 a2.2.2.2.1.length c_7), rdC 50 (.pair .str .str) a2.2.2.2.2 (.slice A8 a2.2.2.2.2.length c_8)] (fun v l => ∃ (A_0 : Option Addr) (c_0 : Nat) (A_1 : Option Addr) (c_1 : Nat) (A_2 : Option Addr) (c_2 : Nat) (A_3 : Option Addr) (c_3 : Nat), v = .tuple #[.agg #[.int .i64 r.1.1, .slice A_0 r.1.2.1.length c_0, .slice A_1 r.1.2.2.1.length c_1, .slice A_2 r.1.2.2.2.1.length c_2, .slice A_3 r.1.2.2.2.2.length c_3], .bool r.2] ∧ l = [ownC 46 (.int .u32) r.1.2.1 (.slice A_0 r.1.2.1.length c_0), ownC 9 .str r.1.2.2.1 (.slice A_1 r.1.2.2.1.length c_1), ownC 48 (.pair .str (.pair .bool .str)) r.1.2.2.2.1 (.slice A_2 r.1.2.2.2.1.length c_2), ownC 50 (.pair .str .str) r.1.2.2.2.2 (.slice A_3 r.1.2.2.2.2.length c_3)]) := by
  refine Spec.enter Try.func17 rfl (by kernel_rfl) (by kernel_rfl) fun w0 F0 h0 => ?_
  unfold sluicegateref14_Join.f at H
  refine J.seq ?_
  refine J.region ?_
  refine RJ.op rfl rfl (op_box rfl rfl h0) ?_
  rintro _ w1 ⟨b1, rfl, h1⟩
  refine RJ.op rfl rfl (op_box rfl rfl h1) ?_
  rintro _ w2 ⟨b2, rfl, h2⟩
  refine RJ.op rfl rfl (op_alloc ttok rfl rfl h2) ?_
  rintro _ w3 ⟨b3, rfl, h3⟩
  refine RJ.run ttok 1 rfl ?_
  refine RJ.fin [(1, .string ⟨⟨a1⟩⟩), (3, .pointer (some ⟨b1, 0, none⟩)), (5, .pointer (some ⟨b2, 0, none⟩)), (6, .pointer (some ⟨b3, 0, none⟩))] rfl ?_
  refine J.seq ?_
  refine J.seq ?_
  refine J.region ?_
  refine RJ.run ttok 1 rfl ?_
  refine RJ.q rfl rfl (q_load_box ttok 2 (fun w e => e ▸ h3.wh) rfl rfl rfl rfl rfl) ?_
  refine RJ.run ttok 1 rfl ?_
  refine RJ.q rfl rfl (q_load_box ttok 1 (fun w e => e ▸ h3.wh) rfl rfl rfl rfl rfl) ?_
  refine RJ.run ttok 1 rfl ?_
  refine RJ.fin [(1, .string ⟨⟨a1⟩⟩), (3, .pointer (some ⟨b1, 0, none⟩)), (5, .pointer (some ⟨b2, 0, none⟩)), (6, .pointer (some ⟨b3, 0, none⟩)), (13, .bool (!decide (a0.1 = a2.1)))] rfl ?_
  refine J.cond rfl (fun c1 => ?_) (fun c1 => ?_)
  · replace H := ite_t c1 H
    refine J.seq ?_
    refine J.region ?_
    refine RJ.run ttok 1 rfl ?_
    refine RJ.op rfl rfl (op_store ttok 0 rfl h3 rfl rfl rfl rfl rfl rfl rfl) ?_
    intro _ w4 h4
    replace h4 : St w0 F0 (boxC b3 31 [.int .i64 0, .slice none ([] : List (Int)).length 0, .slice none ([] : List (List UInt8)).length 0, .slice none ([] : List (List UInt8 × Bool × List UInt8)).length 0, .slice none ([] : List (List UInt8 × List UInt8)).length 0] :: _) _ w4 := h4
    refine RJ.run ttok 1 rfl ?_
    refine RJ.fin [(6, .pointer (some ⟨b3, 0, none⟩)), (7, .bool false)] rfl ?_
    refine J.ret ?_
    have h5 := h4.addNil 46 (.int .u32)
    have h6 := h5.addNil 9 .str
    have h7 := h6.addNil 48 (.pair .str (.pair .bool .str))
    have h8 := h7.addNil 50 (.pair .str .str)
    obtain rfl := Option.some.inj H
    exact ⟨_, _, _, (results_two rfl (rvcons (RV.cell ttok 4 h8 rfl rfl rfl rfl) (rvcons (RV.tmp rfl) rvnil)) rfl), ⟨_, _, _, _, _, _, _, _, rfl, rfl⟩, h8.only [3, 2, 1, 0] rfl⟩
  · replace H := ite_f c1 H
    refine J.skip ?_
    refine J.seq ?_
    refine J.region ?_
    refine RJ.run ttok 1 rfl ?_
    refine RJ.q rfl rfl (q_load_box ttok 2 (fun w e => e ▸ h3.wh) rfl rfl rfl rfl rfl) ?_
    refine RJ.run ttok 1 rfl ?_
    refine RJ.op rfl rfl (op_alloc ttok rfl rfl h3) ?_
    rintro _ w5 ⟨b4, rfl, h9⟩
    refine RJ.op rfl rfl (op_store ttok 0 rfl h9 rfl rfl rfl rfl rfl rfl rfl) ?_
    intro _ w6 h10
    replace h10 : St w0 F0 (boxC b4 31 [.int .i64 a0.1, .slice none ([] : List (Int)).length 0, .slice none ([] : List (List UInt8)).length 0, .slice none ([] : List (List UInt8 × Bool × List UInt8)).length 0, .slice none ([] : List (List UInt8 × List UInt8)).length 0] :: _) _ w6 := h10
    refine RJ.fin [(1, .string ⟨⟨a1⟩⟩), (3, .pointer (some ⟨b1, 0, none⟩)), (5, .pointer (some ⟨b2, 0, none⟩)), (6, .pointer (some ⟨b3, 0, none⟩)), (8, .pointer (some ⟨b4, 0, none⟩))] rfl ?_
    refine J.seq ?_
    refine J.heldSt mix (h10.only [1, 1, 1] rfl) ?_
    have h11 := h10.drew
    refine HJ.run ttok rfl [0, 2, 5] rfl ?_
    refine HJ.q (i := 3) rfl rfl rfl rfl rfl rfl (q_load_box ttok 2 (fun w e => e) rfl rfl rfl rfl rfl) ?_
    refine HJ.q (i := 6) rfl rfl rfl rfl rfl rfl (q_load_box ttok 1 (fun w e => e) rfl rfl rfl rfl rfl) ?_
    refine HJ.op (i := 1) rfl rfl rfl rfl rfl (OpT.ofq (q_load_box ttok 0 (fun w e => e ▸ h11.wh) rfl rfl rfl rfl rfl)) ?_
    rintro _ _ ⟨rfl, rfl⟩
    refine ⟨⟨[_], h11⟩, ?_⟩
    obtain ⟨p1, H⟩ := guard_t H
    have h12 := h11.addNil 46 (.int .u32)
    refine HJ.op (i := 4) rfl rfl rfl rfl rfl (op_append ttok rfl 0 rfl h12 rfl (Gives.self 4 rfl) rfl rfl rfl rfl rfl rfl (by decide) (by decide) p1) ?_
    rintro _ w8 ⟨A9, c_9, rfl, h13⟩
    refine ⟨⟨[_, _], h13⟩, ?_⟩
    obtain ⟨p2, H⟩ := guard_t H
    refine HJ.op (i := 7) rfl rfl rfl rfl rfl (op_append ttok rfl 0 rfl h13 rfl (Gives.self 8 rfl) rfl rfl rfl rfl rfl rfl (by decide) (by decide) p2) ?_
    rintro _ w9 ⟨A10, c_10, rfl, h14⟩
    refine ⟨⟨[_, _], h14⟩, ?_⟩
    refine HJ.run ttok rfl [8] rfl ?_
    refine HJ.op (i := 9) rfl rfl rfl rfl rfl (op_store ttok 1 rfl h14 rfl rfl rfl rfl rfl rfl rfl) ?_
    intro _ w10 h15
    replace h15 : St w0 F0 (boxC b4 31 [.int .i64 a0.1, .slice A10 ((([] : List (Int)) ++ a0.2.1) ++ a2.2.1).length c_10, .slice none ([] : List (List UInt8)).length 0, .slice none ([] : List (List UInt8 × Bool × List UInt8)).length 0, .slice none ([] : List (List UInt8 × List UInt8)).length 0] :: _) _ w10 := h15
    refine ⟨⟨[_, _], h15⟩, ?_⟩
    refine HJ.fin [(1, .string ⟨⟨a1⟩⟩), (3, .pointer (some ⟨b1, 0, none⟩)), (5, .pointer (some ⟨b2, 0, none⟩)), (6, .pointer (some ⟨b3, 0, none⟩)), (8, .pointer (some ⟨b4, 0, none⟩))] rfl rfl ?_
    refine J.seq ?_
    refine J.heldSt mix (h15.only [2, 2, 2] rfl) ?_
    have h16 := h15.drew
    refine HJ.run ttok rfl [0, 2, 5] rfl ?_
    refine HJ.q (i := 3) rfl rfl rfl rfl rfl rfl (q_load_box ttok 2 (fun w e => e) rfl rfl rfl rfl rfl) ?_
    refine HJ.q (i := 6) rfl rfl rfl rfl rfl rfl (q_load_box ttok 1 (fun w e => e) rfl rfl rfl rfl rfl) ?_
    refine HJ.op (i := 1) rfl rfl rfl rfl rfl (OpT.ofq (q_load_box ttok 0 (fun w e => e ▸ h16.wh) rfl rfl rfl rfl rfl)) ?_
    rintro _ _ ⟨rfl, rfl⟩
    refine ⟨⟨[_, _], h16⟩, ?_⟩
    obtain ⟨p3, H⟩ := guard_t H
    have h17 := h16.addNil 48 (.pair .str (.pair .bool .str))
    refine HJ.op (i := 4) rfl rfl rfl rfl rfl (op_append ttok rfl 0 rfl h17 rfl (Gives.self 7 rfl) rfl rfl rfl rfl rfl rfl (by decide) (by decide) p3) ?_
    rintro _ w12 ⟨A11, c_11, rfl, h18⟩
    refine ⟨⟨[_, _, _], h18⟩, ?_⟩
    obtain ⟨p4, H⟩ := guard_t H
    refine HJ.op (i := 7) rfl rfl rfl rfl rfl (op_append ttok rfl 0 rfl h18 rfl (Gives.self 11 rfl) rfl rfl rfl rfl rfl rfl (by decide) (by decide) p4) ?_
    rintro _ w13 ⟨A12, c_12, rfl, h19⟩
    refine ⟨⟨[_, _, _], h19⟩, ?_⟩
    refine HJ.run ttok rfl [8] rfl ?_
    refine HJ.op (i := 9) rfl rfl rfl rfl rfl (op_store ttok 1 rfl h19 rfl rfl rfl rfl rfl rfl rfl) ?_
    intro _ w14 h20
    replace h20 : St w0 F0 (boxC b4 31 [.int .i64 a0.1, .slice A10 ((([] : List (Int)) ++ a0.2.1) ++ a2.2.1).length c_10, .slice none ([] : List (List UInt8)).length 0, .slice A12 ((([] : List (List UInt8 × Bool × List UInt8)) ++ a0.2.2.2.1) ++ a2.2.2.2.1).length c_12, .slice none ([] : List (List UInt8 × List UInt8)).length 0] :: _) _ w14 := h20
    refine ⟨⟨[_, _, _], h20⟩, ?_⟩
    refine HJ.fin [(1, .string ⟨⟨a1⟩⟩), (3, .pointer (some ⟨b1, 0, none⟩)), (5, .pointer (some ⟨b2, 0, none⟩)), (6, .pointer (some ⟨b3, 0, none⟩)), (8, .pointer (some ⟨b4, 0, none⟩))] rfl rfl ?_
    refine J.seq ?_
    refine J.heldSt mix (h20.only [3, 3, 3] rfl) ?_
    have h21 := h20.drew
    refine HJ.run ttok rfl [0, 2, 5] rfl ?_
    refine HJ.q (i := 3) rfl rfl rfl rfl rfl rfl (q_load_box ttok 2 (fun w e => e) rfl rfl rfl rfl rfl) ?_
    refine HJ.q (i := 6) rfl rfl rfl rfl rfl rfl (q_load_box ttok 1 (fun w e => e) rfl rfl rfl rfl rfl) ?_
    refine HJ.op (i := 1) rfl rfl rfl rfl rfl (OpT.ofq (q_load_box ttok 0 (fun w e => e ▸ h21.wh) rfl rfl rfl rfl rfl)) ?_
    rintro _ _ ⟨rfl, rfl⟩
    refine ⟨⟨[_, _, _], h21⟩, ?_⟩
    obtain ⟨p5, H⟩ := guard_t H
    have h22 := h21.addNil 50 (.pair .str .str)
    refine HJ.op (i := 4) rfl rfl rfl rfl rfl (op_append ttok rfl 0 rfl h22 rfl (Gives.self 9 rfl) rfl rfl rfl rfl rfl rfl (by decide) (by decide) p5) ?_
    rintro _ w16 ⟨A13, c_13, rfl, h23⟩
    refine ⟨⟨[_, _, _, _], h23⟩, ?_⟩
    obtain ⟨p6, H⟩ := guard_t H
    refine HJ.op (i := 7) rfl rfl rfl rfl rfl (op_append ttok rfl 0 rfl h23 rfl (Gives.self 13 rfl) rfl rfl rfl rfl rfl rfl (by decide) (by decide) p6) ?_
    rintro _ w17 ⟨A14, c_14, rfl, h24⟩
    refine ⟨⟨[_, _, _, _], h24⟩, ?_⟩
    refine HJ.run ttok rfl [8] rfl ?_
    refine HJ.op (i := 9) rfl rfl rfl rfl rfl (op_store ttok 1 rfl h24 rfl rfl rfl rfl rfl rfl rfl) ?_
    intro _ w18 h25
    replace h25 : St w0 F0 (boxC b4 31 [.int .i64 a0.1, .slice A10 ((([] : List (Int)) ++ a0.2.1) ++ a2.2.1).length c_10, .slice none ([] : List (List UInt8)).length 0, .slice A12 ((([] : List (List UInt8 × Bool × List UInt8)) ++ a0.2.2.2.1) ++ a2.2.2.2.1).length c_12, .slice A14 ((([] : List (List UInt8 × List UInt8)) ++ a0.2.2.2.2) ++ a2.2.2.2.2).length c_14] :: _) _ w18 := h25
    refine ⟨⟨[_, _, _, _], h25⟩, ?_⟩
    refine HJ.fin [(1, .string ⟨⟨a1⟩⟩), (3, .pointer (some ⟨b1, 0, none⟩)), (5, .pointer (some ⟨b2, 0, none⟩)), (6, .pointer (some ⟨b3, 0, none⟩)), (8, .pointer (some ⟨b4, 0, none⟩))] rfl rfl ?_
    refine J.seq ?_
    refine J.seq ?_
    refine J.region ?_
    refine RJ.run ttok 1 rfl ?_
    refine RJ.q rfl rfl (q_load_box ttok 6 (fun w e => e ▸ h25.wh) rfl rfl rfl rfl rfl) ?_
    refine RJ.run ttok 1 rfl ?_
    refine RJ.fin [(1, .string ⟨⟨a1⟩⟩), (3, .pointer (some ⟨b1, 0, none⟩)), (5, .pointer (some ⟨b2, 0, none⟩)), (6, .pointer (some ⟨b3, 0, none⟩)), (8, .pointer (some ⟨b4, 0, none⟩)), (47, .bool (decide (0 < a0.1)))] rfl ?_
    refine J.cond rfl (fun c2 => ?_) (fun c2 => ?_)
    · replace H := ite_t c2 H
      refine J.seq ?_
      refine J.region ?_
      refine RJ.run ttok 1 rfl ?_
      refine RJ.q rfl rfl (q_load_box ttok 0 (fun w e => e ▸ h25.wh) rfl rfl rfl rfl rfl) ?_
      refine RJ.run ttok 1 rfl ?_
      refine RJ.q rfl rfl (q_load_box ttok 6 (fun w e => e ▸ h25.wh) rfl rfl rfl rfl rfl) ?_
      obtain ⟨p7, H⟩ := guard_t H
      have h26 := h25.addNil 9 .str
      refine RJ.op rfl rfl (op_append ttok rfl 0 rfl h26 rfl (Gives.self 8 rfl) rfl rfl rfl rfl rfl rfl (by decide) (by decide) p7) ?_
      rintro _ w19 ⟨A15, c_15, rfl, h27⟩
      refine RJ.run ttok 1 rfl ?_
      refine RJ.op rfl rfl (op_lit ttok .str rfl ([a1] : List (List UInt8)) rfl h27 rfl rfl (by decide) rfl rfl rfl rfl rfl rfl rfl) ?_
      rintro _ w20 ⟨b5, rfl, h28⟩
      obtain ⟨p8, H⟩ := guard_t H
      refine RJ.op rfl rfl (op_append ttok rfl 1 rfl h28 rfl (Gives.of 0 rfl own_rd) rfl rfl rfl rfl rfl rfl (by decide) (by decide) p8) ?_
      rintro _ w21 ⟨A16, c_16, rfl, h29⟩
      refine RJ.run ttok 1 rfl ?_
      refine RJ.op rfl rfl (op_store ttok 2 rfl h29 rfl rfl rfl rfl rfl rfl rfl) ?_
      intro _ w22 h30
      replace h30 : St w0 F0 (boxC b4 31 [.int .i64 a0.1, .slice A10 ((([] : List (Int)) ++ a0.2.1) ++ a2.2.1).length c_10, .slice A16 ((([] : List (List UInt8)) ++ a0.2.2.1) ++ ([a1] : List (List UInt8))).length c_16, .slice A12 ((([] : List (List UInt8 × Bool × List UInt8)) ++ a0.2.2.2.1) ++ a2.2.2.2.1).length c_12, .slice A14 ((([] : List (List UInt8 × List UInt8)) ++ a0.2.2.2.2) ++ a2.2.2.2.2).length c_14] :: _) _ w22 := h30
      refine RJ.fin [(5, .pointer (some ⟨b2, 0, none⟩)), (6, .pointer (some ⟨b3, 0, none⟩)), (8, .pointer (some ⟨b4, 0, none⟩))] rfl ?_
      refine J.region ?_
      refine RJ.run ttok 1 rfl ?_
      refine RJ.q rfl rfl (q_load_box ttok 0 (fun w e => e ▸ h30.wh) rfl rfl rfl rfl rfl) ?_
      refine RJ.run ttok 1 rfl ?_
      refine RJ.q rfl rfl (q_load_box ttok 7 (fun w e => e ▸ h30.wh) rfl rfl rfl rfl rfl) ?_
      obtain ⟨p9, H⟩ := guard_t H
      refine RJ.op rfl rfl (op_append ttok rfl 1 rfl h30 rfl (Gives.self 13 rfl) rfl rfl rfl rfl rfl rfl (by decide) (by decide) p9) ?_
      rintro _ w23 ⟨A17, c_17, rfl, h31⟩
      refine RJ.run ttok 1 rfl ?_
      refine RJ.op rfl rfl (op_store ttok 1 rfl h31 rfl rfl rfl rfl rfl rfl rfl) ?_
      intro _ w24 h32
      replace h32 : St w0 F0 (boxC b4 31 [.int .i64 a0.1, .slice A10 ((([] : List (Int)) ++ a0.2.1) ++ a2.2.1).length c_10, .slice A17 (((([] : List (List UInt8)) ++ a0.2.2.1) ++ ([a1] : List (List UInt8))) ++ a2.2.2.1).length c_17, .slice A12 ((([] : List (List UInt8 × Bool × List UInt8)) ++ a0.2.2.2.1) ++ a2.2.2.2.1).length c_12, .slice A14 ((([] : List (List UInt8 × List UInt8)) ++ a0.2.2.2.2) ++ a2.2.2.2.2).length c_14] :: _) _ w24 := h32
      refine RJ.fin [(6, .pointer (some ⟨b3, 0, none⟩)), (8, .pointer (some ⟨b4, 0, none⟩))] rfl ?_
      refine J.seq ?_
      refine J.region ?_
      refine RJ.q rfl rfl (q_load_box ttok 0 (fun w e => e ▸ h32.wh) rfl rfl rfl rfl rfl) ?_
      refine RJ.op rfl rfl (op_store ttok 6 rfl h32 rfl rfl rfl rfl rfl rfl rfl) ?_
      intro _ w25 h33
      replace h33 : St w0 F0 (boxC b3 31 [.int .i64 a0.1, .slice A10 ((([] : List (Int)) ++ a0.2.1) ++ a2.2.1).length c_10, .slice A17 (((([] : List (List UInt8)) ++ a0.2.2.1) ++ ([a1] : List (List UInt8))) ++ a2.2.2.1).length c_17, .slice A12 ((([] : List (List UInt8 × Bool × List UInt8)) ++ a0.2.2.2.1) ++ a2.2.2.2.1).length c_12, .slice A14 ((([] : List (List UInt8 × List UInt8)) ++ a0.2.2.2.2) ++ a2.2.2.2.2).length c_14] :: _) _ w25 := h33
      refine RJ.run ttok 1 rfl ?_
      refine RJ.fin [(6, .pointer (some ⟨b3, 0, none⟩)), (7, .bool true)] rfl ?_
      refine J.ret ?_
      obtain rfl := Option.some.inj H
      exact ⟨_, _, _, (results_two rfl (rvcons (RV.cell ttok 0 h33 rfl rfl rfl rfl) (rvcons (RV.tmp rfl) rvnil)) rfl), ⟨_, _, _, _, _, _, _, _, rfl, rfl⟩, h33.only [6, 2, 4, 3] rfl⟩
    · replace H := ite_f c2 H
      refine J.skip ?_
      refine J.seq ?_
      refine J.region ?_
      refine RJ.q rfl rfl (q_load_box ttok 0 (fun w e => e ▸ h25.wh) rfl rfl rfl rfl rfl) ?_
      refine RJ.op rfl rfl (op_store ttok 4 rfl h25 rfl rfl rfl rfl rfl rfl rfl) ?_
      intro _ w26 h34
      replace h34 : St w0 F0 (boxC b3 31 [.int .i64 a0.1, .slice A10 ((([] : List (Int)) ++ a0.2.1) ++ a2.2.1).length c_10, .slice none ([] : List (List UInt8)).length 0, .slice A12 ((([] : List (List UInt8 × Bool × List UInt8)) ++ a0.2.2.2.1) ++ a2.2.2.2.1).length c_12, .slice A14 ((([] : List (List UInt8 × List UInt8)) ++ a0.2.2.2.2) ++ a2.2.2.2.2).length c_14] :: _) _ w26 := h34
      refine RJ.run ttok 1 rfl ?_
      refine RJ.fin [(6, .pointer (some ⟨b3, 0, none⟩)), (7, .bool true)] rfl ?_
      refine J.ret ?_
      have h35 := h34.addNil 9 .str
      obtain rfl := Option.some.inj H
      exact ⟨_, _, _, (results_two rfl (rvcons (RV.cell ttok 1 h35 rfl rfl rfl rfl) (rvcons (RV.tmp rfl) rvnil)) rfl), ⟨_, _, _, _, _, _, _, _, rfl, rfl⟩, h35.only [5, 0, 3, 2] rfl⟩

/-! sluicegate/sluicegateref01.Cut -/
def sluicegateref01_Cut.l0 : Nat → (List UInt8) → (List UInt8) → (Int) → Option (List UInt8 × Bool)
  | 0, _, _, _ => none
  | k + 1, a0, a1, x1 => if (decide (x1 ≤ (a1.length : Int))) = true then (if (0 : Int) ≤ x1 ∧ x1 ≤ (a1.length : Int) then ((sluicegateref01_Compare.f k a0 (a1.take x1.toNat)).bind fun r2 => (if (decide (r2 < 0)) = true then (some ((a1.take x1.toNat), true)) else (sluicegateref01_Cut.l0 k a0 a1 (w64 (x1 + 1))))) else none) else (some (([] : List UInt8), false))
def sluicegateref01_Cut.f (k : Nat) (a0 : List UInt8) (a1 : List UInt8) : Option (List UInt8 × Bool) := (sluicegateref01_Compare.f k a0 a1).bind fun r1 => (if (decide (0 ≤ r1)) = true then (some (([] : List UInt8), false)) else (sluicegateref01_Cut.l0 k a0 a1 0))
set_option maxRecDepth 20000 in
set_option maxHeartbeats 4000000 in
theorem sluicegateref01_Cut.spec {k : Nat} {a0 : List UInt8} {a1 : List UInt8}  {r : List UInt8 × Bool} (H : sluicegateref01_Cut.f k a0 a1 = some r) :
    Spec Try.prog 51 [.string ⟨⟨a0⟩⟩, .string ⟨⟨a1⟩⟩] [] [] (fun v l => v = .tuple #[.string ⟨⟨r.1⟩⟩, .bool r.2] ∧ l = []) := by
  refine Spec.enter Try.func51 rfl (by kernel_rfl) (by kernel_rfl) fun w0 F0 h0 => ?_
  unfold sluicegateref01_Cut.f at H
  refine J.seq ?_
  refine J.region ?_
  refine RJ.run ttok 2 rfl ?_
  refine RJ.fin [(0, .string ⟨⟨a0⟩⟩), (1, .string ⟨⟨a1⟩⟩)] rfl ?_
  refine J.seq ?_
  refine J.seq ?_
  refine J.region ?_
  refine RJ.run ttok 2 rfl ?_
  obtain ⟨r1, q1, H⟩ := bind_t H
  refine RJ.op rfl rfl (op_call [] (sluicegateref01_Compare.spec q1) rfl rfl rfl h0 rfl gnil) ?_
  rintro _ w1 ⟨_, ⟨rfl, rfl⟩, h1⟩
  refine RJ.run ttok 1 rfl ?_
  refine RJ.fin [(0, .string ⟨⟨a0⟩⟩), (1, .string ⟨⟨a1⟩⟩), (10, .bool (decide (0 ≤ r1)))] rfl ?_
  refine J.cond rfl (fun c1 => ?_) (fun c1 => ?_)
  · replace H := ite_t c1 H
    refine J.seq ?_
    refine J.region ?_
    refine RJ.run ttok 2 rfl ?_
    refine RJ.fin [(4, .string ⟨⟨([] : List UInt8)⟩⟩), (5, .bool false)] rfl ?_
    refine J.ret ?_
    obtain rfl := Option.some.inj H
    exact ⟨_, _, _, (results_slots rfl), ⟨rfl, rfl⟩, h1.only [] rfl⟩
  · replace H := ite_f c1 H
    refine J.skip ?_
    refine J.seq ?_
    refine J.seq ?_
    refine J.region ?_
    refine RJ.run ttok 1 rfl ?_
    refine RJ.fin [(0, .string ⟨⟨a0⟩⟩), (1, .string ⟨⟨a1⟩⟩), (6, .int .i64 0)] rfl ?_
    refine J.block ?_
    have h5 := ((h1.only [] rfl).rds [] rfl)
    refine J.loop (fun k env w => ∃ (x1 : Int), env = [(0, .string ⟨⟨a0⟩⟩), (1, .string ⟨⟨a1⟩⟩), (6, .int .i64 x1)] ∧ St w0 F0 [] [] w ∧ sluicegateref01_Cut.l0 k a0 a1 x1 = some r) (k := k) ⟨0, rfl, h5, H⟩ ?_
    rintro k1 env w2 ⟨x1, rfl, h2, H⟩
    cases k1 with
    | zero => exact nomatch (show none = some r from H)
    | succ k1 =>
      rw [sluicegateref01_Cut.l0] at H
      refine J.seq ?_
      refine J.seq ?_
      refine J.region ?_
      refine RJ.run ttok 4 rfl ?_
      refine RJ.fin [(0, .string ⟨⟨a0⟩⟩), (1, .string ⟨⟨a1⟩⟩), (6, .int .i64 x1), (14, .bool (decide (x1 ≤ (a1.length : Int))))] rfl ?_
      refine J.cond rfl (fun c2 => ?_) (fun c2 => ?_)
      · replace H := ite_t c2 H
        refine J.skip ?_
        refine J.seq ?_
        refine J.block ?_
        refine J.seq ?_
        refine J.region ?_
        refine RJ.run ttok 3 rfl ?_
        obtain ⟨⟨p1, p2⟩, H⟩ := guard_t H
        refine RJ.q rfl rfl (q_strcut (l := 0) (h := x1) ttok rfl rfl rfl rfl ⟨_, rfl⟩ (by decide) p1 p2 (cut_upto _ _)) ?_
        obtain ⟨r2, q2, H⟩ := bind_t H
        refine RJ.op rfl rfl (op_call [] (sluicegateref01_Compare.spec q2) rfl rfl rfl h2 rfl gnil) ?_
        rintro _ w3 ⟨_, ⟨rfl, rfl⟩, h3⟩
        refine RJ.run ttok 1 rfl ?_
        refine RJ.fin [(0, .string ⟨⟨a0⟩⟩), (1, .string ⟨⟨a1⟩⟩), (6, .int .i64 x1), (22, .bool (decide (r2 < 0)))] rfl ?_
        refine J.cond rfl (fun c3 => ?_) (fun c3 => ?_)
        · replace H := ite_t c3 H
          refine J.seq ?_
          refine J.region ?_
          refine RJ.run ttok 2 rfl ?_
          refine RJ.q rfl rfl (q_strcut (l := 0) (h := x1) ttok rfl rfl rfl rfl ⟨_, rfl⟩ (by decide) p1 p2 (cut_upto _ _)) ?_
          refine RJ.run ttok 2 rfl ?_
          refine RJ.fin [(4, .string ⟨⟨(a1.take x1.toNat)⟩⟩), (5, .bool true)] rfl ?_
          refine J.ret ?_
          obtain rfl := Option.some.inj H
          exact ⟨_, _, _, (results_slots rfl), ⟨rfl, rfl⟩, h3.only [] rfl⟩
        · replace H := ite_f c3 H
          refine J.skip ?_
          refine J.region ?_
          refine RJ.run ttok 3 rfl ?_
          refine RJ.fin [(0, .string ⟨⟨a0⟩⟩), (1, .string ⟨⟨a1⟩⟩), (6, .int .i64 (w64 (x1 + 1)))] rfl ?_
          have h4 := ((h3.only [] rfl).rds [] rfl)
          exact ⟨k1, by omega, (w64 (x1 + 1)), rfl, h4, H⟩
      · replace H := ite_f c2 H
        refine J.exit ?_
        refine J.seq ?_
        refine J.region ?_
        refine RJ.run ttok 2 rfl ?_
        refine RJ.fin [(4, .string ⟨⟨([] : List UInt8)⟩⟩), (5, .bool false)] rfl ?_
        refine J.ret ?_
        obtain rfl := Option.some.inj H
        exact ⟨_, _, _, (results_slots rfl), ⟨rfl, rfl⟩, h2.only [] rfl⟩

/-! sluicegate/sluicegateref14.Halve -/
def sluicegateref14_Halve.l0 : Nat → (Int × List (Int) × List (List UInt8) × (List (List UInt8 × Bool × List UInt8)) × (List (List UInt8 × List UInt8))) → (List (List UInt8 × List UInt8)) → (List (List UInt8 × List UInt8)) → (Int) → Option ((Int × List (Int) × List (List UInt8) × (List (List UInt8 × Bool × List UInt8)) × (List (List UInt8 × List UInt8))) × (Int × List (Int) × List (List UInt8) × (List (List UInt8 × Bool × List UInt8)) × (List (List UInt8 × List UInt8))) × List UInt8 × Bool)
  | 0, _, _, _, _ => none
  | k + 1, a0, x1, x2, x3 => if (decide (x3 < (a0.2.2.2.2.length : Int))) = true then (if (decide ((w64 (2 * x3)) < (a0.2.2.2.2.length : Int))) = true then (if 0 ≤ x3 ∧ x3 < (a0.2.2.2.2.length : Int) then (if (x1.length + ([((gt a0.2.2.2.2 x3).1, (gt a0.2.2.2.2 x3).2)] : List (List UInt8 × List UInt8)).length) * 32 ≤ 140737488355328 then (sluicegateref14_Halve.l0 k a0 (x1 ++ ([((gt a0.2.2.2.2 x3).1, (gt a0.2.2.2.2 x3).2)] : List (List UInt8 × List UInt8))) x2 (w64 (x3 + 1))) else none) else none) else (if 0 ≤ x3 ∧ x3 < (a0.2.2.2.2.length : Int) then (if (x2.length + ([((gt a0.2.2.2.2 x3).1, (gt a0.2.2.2.2 x3).2)] : List (List UInt8 × List UInt8)).length) * 32 ≤ 140737488355328 then (sluicegateref14_Halve.l0 k a0 x1 (x2 ++ ([((gt a0.2.2.2.2 x3).1, (gt a0.2.2.2.2 x3).2)] : List (List UInt8 × List UInt8))) (w64 (x3 + 1))) else none) else none)) else (if 0 ≤ (w64 ((x1.length : Int) - 1)) ∧ (w64 ((x1.length : Int) - 1)) < (x1.length : Int) then (if 0 < (x2.length : Int) then ((sluicegateref01_Cut.f k ((gt x1 (w64 ((x1.length : Int) - 1))).1) ((gt x2 0).1)).bind fun r1 => (some ((a0.1, ([] : List (Int)), ([] : List (List UInt8)), ([] : List (List UInt8 × Bool × List UInt8)), x1), (a0.1, ([] : List (Int)), ([] : List (List UInt8)), ([] : List (List UInt8 × Bool × List UInt8)), x2), r1.1, true))) else none) else none)
def sluicegateref14_Halve.l3 : Nat → (Int × List (Int) × List (List UInt8) × (List (List UInt8 × Bool × List UInt8)) × (List (List UInt8 × List UInt8))) → (List (Int)) → (List (Int)) → (List (List UInt8)) → (List (List UInt8)) → (List UInt8) → (List (List UInt8 × Bool × List UInt8)) → (List (List UInt8 × Bool × List UInt8)) → (Int) → Option ((Int × List (Int) × List (List UInt8) × (List (List UInt8 × Bool × List UInt8)) × (List (List UInt8 × List UInt8))) × (Int × List (Int) × List (List UInt8) × (List (List UInt8 × Bool × List UInt8)) × (List (List UInt8 × List UInt8))) × List UInt8 × Bool)
  | 0, _, _, _, _, _, _, _, _, _ => none
  | k + 1, a0, x4, x5, x7, x8, x9, x11, x12, x13 => if (decide (x13 < (a0.2.2.2.1.length : Int))) = true then (if 0 ≤ x13 ∧ x13 < (a0.2.2.2.1.length : Int) then ((sluicegateref01_Compare.f k ((gt a0.2.2.2.1 x13).1) x9).bind fun r2 => (if (decide (r2 < 0)) = true then (if (x11.length + ([((gt a0.2.2.2.1 x13).1, (gt a0.2.2.2.1 x13).2.1, (gt a0.2.2.2.1 x13).2.2)] : List (List UInt8 × Bool × List UInt8)).length) * 40 ≤ 140737488355328 then (sluicegateref14_Halve.l3 k a0 x4 x5 x7 x8 x9 (x11 ++ ([((gt a0.2.2.2.1 x13).1, (gt a0.2.2.2.1 x13).2.1, (gt a0.2.2.2.1 x13).2.2)] : List (List UInt8 × Bool × List UInt8))) x12 (w64 (x13 + 1))) else none) else (if (x12.length + ([((gt a0.2.2.2.1 x13).1, (gt a0.2.2.2.1 x13).2.1, (gt a0.2.2.2.1 x13).2.2)] : List (List UInt8 × Bool × List UInt8)).length) * 40 ≤ 140737488355328 then (sluicegateref14_Halve.l3 k a0 x4 x5 x7 x8 x9 x11 (x12 ++ ([((gt a0.2.2.2.1 x13).1, (gt a0.2.2.2.1 x13).2.1, (gt a0.2.2.2.1 x13).2.2)] : List (List UInt8 × Bool × List UInt8))) (w64 (x13 + 1))) else none))) else none) else (some ((a0.1, x4, x7, x11, ([] : List (List UInt8 × List UInt8))), (a0.1, x5, x8, x12, ([] : List (List UInt8 × List UInt8))), x9, true))
def sluicegateref14_Halve.l2 : Nat → (Int × List (Int) × List (List UInt8) × (List (List UInt8 × Bool × List UInt8)) × (List (List UInt8 × List UInt8))) → (List (Int)) → (List (Int)) → (List (List UInt8)) → (List (List UInt8)) → (List UInt8) → (Int) → Option ((Int × List (Int) × List (List UInt8) × (List (List UInt8 × Bool × List UInt8)) × (List (List UInt8 × List UInt8))) × (Int × List (Int) × List (List UInt8) × (List (List UInt8 × Bool × List UInt8)) × (List (List UInt8 × List UInt8))) × List UInt8 × Bool)
  | 0, _, _, _, _, _, _, _ => none
  | k + 1, a0, x4, x5, x7, x8, x9, x10 => if (decide (x10 < (a0.2.2.1.length : Int))) = true then (if (decide ((w64 (x10 + 1)) < (x4.length : Int))) = true then (if 0 ≤ x10 ∧ x10 < (a0.2.2.1.length : Int) then (if (x7.length + ([(gt a0.2.2.1 x10)] : List (List UInt8)).length) * 16 ≤ 140737488355328 then (sluicegateref14_Halve.l2 k a0 x4 x5 (x7 ++ ([(gt a0.2.2.1 x10)] : List (List UInt8))) x8 x9 (w64 (x10 + 1))) else none) else none) else (if (decide ((w64 (x10 + 1)) = (x4.length : Int))) = true then (if 0 ≤ x10 ∧ x10 < (a0.2.2.1.length : Int) then (sluicegateref14_Halve.l2 k a0 x4 x5 x7 x8 (gt a0.2.2.1 x10) (w64 (x10 + 1))) else none) else (if 0 ≤ x10 ∧ x10 < (a0.2.2.1.length : Int) then (if (x8.length + ([(gt a0.2.2.1 x10)] : List (List UInt8)).length) * 16 ≤ 140737488355328 then (sluicegateref14_Halve.l2 k a0 x4 x5 x7 (x8 ++ ([(gt a0.2.2.1 x10)] : List (List UInt8))) x9 (w64 (x10 + 1))) else none) else none))) else (sluicegateref14_Halve.l3 k a0 x4 x5 x7 x8 x9 ([] : List (List UInt8 × Bool × List UInt8)) ([] : List (List UInt8 × Bool × List UInt8)) 0)
def sluicegateref14_Halve.l1 : Nat → (Int × List (Int) × List (List UInt8) × (List (List UInt8 × Bool × List UInt8)) × (List (List UInt8 × List UInt8))) → (List (Int)) → (List (Int)) → (Int) → Option ((Int × List (Int) × List (List UInt8) × (List (List UInt8 × Bool × List UInt8)) × (List (List UInt8 × List UInt8))) × (Int × List (Int) × List (List UInt8) × (List (List UInt8 × Bool × List UInt8)) × (List (List UInt8 × List UInt8))) × List UInt8 × Bool)
  | 0, _, _, _, _ => none
  | k + 1, a0, x4, x5, x6 => if (decide (x6 < (a0.2.1.length : Int))) = true then (if (decide ((w64 (2 * x6)) < (a0.2.1.length : Int))) = true then (if 0 ≤ x6 ∧ x6 < (a0.2.1.length : Int) then (if (x4.length + ([(gt a0.2.1 x6)] : List (Int)).length) * 4 ≤ 140737488355328 then (sluicegateref14_Halve.l1 k a0 (x4 ++ ([(gt a0.2.1 x6)] : List (Int))) x5 (w64 (x6 + 1))) else none) else none) else (if 0 ≤ x6 ∧ x6 < (a0.2.1.length : Int) then (if (x5.length + ([(gt a0.2.1 x6)] : List (Int)).length) * 4 ≤ 140737488355328 then (sluicegateref14_Halve.l1 k a0 x4 (x5 ++ ([(gt a0.2.1 x6)] : List (Int))) (w64 (x6 + 1))) else none) else none)) else (sluicegateref14_Halve.l2 k a0 x4 x5 ([] : List (List UInt8)) ([] : List (List UInt8)) ([] : List UInt8) 0)
def sluicegateref14_Halve.f (k : Nat) (a0 : Int × List (Int) × List (List UInt8) × (List (List UInt8 × Bool × List UInt8)) × (List (List UInt8 × List UInt8))) : Option ((Int × List (Int) × List (List UInt8) × (List (List UInt8 × Bool × List UInt8)) × (List (List UInt8 × List UInt8))) × (Int × List (Int) × List (List UInt8) × (List (List UInt8 × Bool × List UInt8)) × (List (List UInt8 × List UInt8))) × List UInt8 × Bool) := if (decide (a0.1 = 0)) = true then (if (decide ((a0.2.2.2.2.length : Int) < 2)) = true then (some ((0, ([] : List (Int)), ([] : List (List UInt8)), ([] : List (List UInt8 × Bool × List UInt8)), ([] : List (List UInt8 × List UInt8))), (0, ([] : List (Int)), ([] : List (List UInt8)), ([] : List (List UInt8 × Bool × List UInt8)), ([] : List (List UInt8 × List UInt8))), ([] : List UInt8), false)) else (sluicegateref14_Halve.l0 k a0 ([] : List (List UInt8 × List UInt8)) ([] : List (List UInt8 × List UInt8)) 0)) else (if (decide ((a0.2.1.length : Int) < 2)) = true then (some ((0, ([] : List (Int)), ([] : List (List UInt8)), ([] : List (List UInt8 × Bool × List UInt8)), ([] : List (List UInt8 × List UInt8))), (0, ([] : List (Int)), ([] : List (List UInt8)), ([] : List (List UInt8 × Bool × List UInt8)), ([] : List (List UInt8 × List UInt8))), ([] : List UInt8), false)) else (sluicegateref14_Halve.l1 k a0 ([] : List (Int)) ([] : List (Int)) 0))
set_option maxRecDepth 20000 in
set_option maxHeartbeats 4000000 in
theorem sluicegateref14_Halve.spec {k : Nat} {a0 : Int × List (Int) × List (List UInt8) × (List (List UInt8 × Bool × List UInt8)) × (List (List UInt8 × List UInt8))} {A1 : Option Addr} {c_1 : Nat} {A2 : Option Addr} {c_2 : Nat} {A3 : Option Addr} {c_3 : Nat} {A4 : Option Addr} {c_4 : Nat} {r : (Int × List (Int) × List (List UInt8) × (List (List UInt8 × Bool × List UInt8)) × (List (List UInt8 × List UInt8))) × (Int × List (Int) × List (List UInt8) × (List (List UInt8 × Bool × List UInt8)) × (List (List UInt8 × List UInt8))) × List UInt8 × Bool} (H : sluicegateref14_Halve.f k a0 = some r) :
    Spec Try.prog 19 [.agg #[.int .i64 a0.1, .slice A1 a0.2.1.length c_1, .slice A2 a0.2.2.1.length c_2, .slice A3 a0.2.2.2.1.length c_3, .slice A4 a0.2.2.2.2.length c_4]] [] [rdC 46 (.int .u32) a0.2.1 (.slice A1 a0.2.1.length c_1), rdC 9 .str a0.2.2.1 (.slice A2 a0.2.2.1.length c_2), rdC 48 (.pair .str (.pair .bool .str)) a0.2.2.2.1 (.slice A3 a0.2.2.2.1.length c_3), rdC 50 (.pair .str .str) a0.2.2.2.2 (.slice A4 a0.2.2.2.2.length c_4)] (fun v l => ∃ (A_0 : Option Addr) (c_0 : Nat) (A_1 : Option Addr) (c_1 : Nat) (A_2 : Option Addr) (c_2 : Nat) (A_3 : Option Addr) (c_3 : Nat) (A_4 : Option Addr) (c_4 : Nat) (A_5 : Option Addr) (c_5 : Nat) (A_6 : Option Addr) (c_6 : Nat) (A_7 : Option Addr) (c_7 : Nat), v = .tuple #[.agg #[.int .i64 r.1.1, .slice A_0 r.1.2.1.length c_0, .slice A_1 r.1.2.2.1.length c_1, .slice A_2 r.1.2.2.2.1.length c_2, .slice A_3 r.1.2.2.2.2.length c_3], .agg #[.int .i64 r.2.1.1, .slice A_4 r.2.1.2.1.length c_4, .slice A_5 r.2.1.2.2.1.length c_5, .slice A_6 r.2.1.2.2.2.1.length c_6, .slice A_7 r.2.1.2.2.2.2.length c_7], .string ⟨⟨r.2.2.1⟩⟩, .bool r.2.2.2] ∧ l = [ownC 46 (.int .u32) r.1.2.1 (.slice A_0 r.1.2.1.length c_0), ownC 9 .str r.1.2.2.1 (.slice A_1 r.1.2.2.1.length c_1), ownC 48 (.pair .str (.pair .bool .str)) r.1.2.2.2.1 (.slice A_2 r.1.2.2.2.1.length c_2), ownC 50 (.pair .str .str) r.1.2.2.2.2 (.slice A_3 r.1.2.2.2.2.length c_3), ownC 46 (.int .u32) r.2.1.2.1 (.slice A_4 r.2.1.2.1.length c_4), ownC 9 .str r.2.1.2.2.1 (.slice A_5 r.2.1.2.2.1.length c_5), ownC 48 (.pair .str (.pair .bool .str)) r.2.1.2.2.2.1 (.slice A_6 r.2.1.2.2.2.1.length c_6), ownC 50 (.pair .str .str) r.2.1.2.2.2.2 (.slice A_7 r.2.1.2.2.2.2.length c_7)]) := by
  refine Spec.enter Try.func19 rfl (by kernel_rfl) (by kernel_rfl) fun w0 F0 h0 => ?_
  unfold sluicegateref14_Halve.f at H
  refine J.seq ?_
  refine J.region ?_
  refine RJ.op rfl rfl (op_box rfl rfl h0) ?_
  rintro _ w1 ⟨b1, rfl, h1⟩
  refine RJ.op rfl rfl (op_alloc ttok rfl rfl h1) ?_
  rintro _ w2 ⟨b2, rfl, h2⟩
  refine RJ.op rfl rfl (op_alloc ttok rfl rfl h2) ?_
  rintro _ w3 ⟨b3, rfl, h3⟩
  refine RJ.run ttok 2 rfl ?_
  refine RJ.fin [(1, .pointer (some ⟨b1, 0, none⟩)), (2, .pointer (some ⟨b2, 0, none⟩)), (3, .pointer (some ⟨b3, 0, none⟩))] rfl ?_
  refine J.seq ?_
  refine J.midS (fun env w => ∃ (b4 : Nat) (b5 : Nat), env = [(1, .pointer (some ⟨b1, 0, none⟩)), (2, .pointer (some ⟨b2, 0, none⟩)), (3, .pointer (some ⟨b3, 0, none⟩)), (6, .pointer (some ⟨b4, 0, none⟩)), (7, .pointer (some ⟨b5, 0, none⟩))] ∧ St w0 F0 [boxC b4 31 [.int .i64 a0.1, .slice none ([] : List (Int)).length 0, .slice none ([] : List (List UInt8)).length 0, .slice none ([] : List (List UInt8 × Bool × List UInt8)).length 0, .slice none ([] : List (List UInt8 × List UInt8)).length 0], boxC b5 31 [.int .i64 a0.1, .slice none ([] : List (Int)).length 0, .slice none ([] : List (List UInt8)).length 0, .slice none ([] : List (List UInt8 × Bool × List UInt8)).length 0, .slice none ([] : List (List UInt8 × List UInt8)).length 0], boxC b3 31 [.int .i64 0, .slice none ([] : List (Int)).length 0, .slice none ([] : List (List UInt8)).length 0, .slice none ([] : List (List UInt8 × Bool × List UInt8)).length 0, .slice none ([] : List (List UInt8 × List UInt8)).length 0], boxC b2 31 [.int .i64 0, .slice none ([] : List (Int)).length 0, .slice none ([] : List (List UInt8)).length 0, .slice none ([] : List (List UInt8 × Bool × List UInt8)).length 0, .slice none ([] : List (List UInt8 × List UInt8)).length 0], boxC b1 31 [.int .i64 a0.1, .slice A1 a0.2.1.length c_1, .slice A2 a0.2.2.1.length c_2, .slice A3 a0.2.2.2.1.length c_3, .slice A4 a0.2.2.2.2.length c_4]] [rdC 46 (.int .u32) a0.2.1 (.slice A1 a0.2.1.length c_1), rdC 9 .str a0.2.2.1 (.slice A2 a0.2.2.1.length c_2), rdC 48 (.pair .str (.pair .bool .str)) a0.2.2.2.1 (.slice A3 a0.2.2.2.1.length c_3), rdC 50 (.pair .str .str) a0.2.2.2.2 (.slice A4 a0.2.2.2.2.length c_4)] w) ?_ ?_
  · refine J.heldSt mix h3 ?_
    have h8 := h3.drew
    refine HJ.run ttok rfl [0, 3] rfl ?_
    refine HJ.q (i := 1) rfl rfl rfl rfl rfl rfl (q_load_box ttok 2 (fun w e => e) rfl rfl rfl rfl rfl) ?_
    refine HJ.run ttok rfl [2] rfl ?_
    refine HJ.q (i := 4) rfl rfl rfl rfl rfl rfl (q_load_box ttok 2 (fun w e => e) rfl rfl rfl rfl rfl) ?_
    refine HJ.run ttok rfl [5] rfl ?_
    refine HJ.pick [6, 7] (i := 6) rfl rfl rfl rfl ?_
    refine (hscons ?_ (hscons ?_ hsnil))
    · refine HS.op (i := 6) rfl rfl rfl (op_alloc ttok rfl rfl h8) ?_
      rintro _ w8 ⟨b6, rfl, h9⟩
      refine ⟨⟨[_], h9⟩, ?_⟩
      refine HJ.op (i := 7) rfl rfl rfl rfl rfl (op_alloc ttok rfl rfl h9) ?_
      rintro _ w9 ⟨b7, rfl, h10⟩
      refine ⟨⟨[_, _], h10⟩, ?_⟩
      refine HJ.op (i := 8) rfl rfl rfl rfl rfl (op_store ttok 1 rfl h10 rfl rfl rfl rfl rfl rfl rfl) ?_
      intro _ w10 h11
      replace h11 : St w0 F0 (boxC b6 31 [.int .i64 a0.1, .slice none ([] : List (Int)).length 0, .slice none ([] : List (List UInt8)).length 0, .slice none ([] : List (List UInt8 × Bool × List UInt8)).length 0, .slice none ([] : List (List UInt8 × List UInt8)).length 0] :: _) _ w10 := h11
      refine ⟨⟨[_, _], h11⟩, ?_⟩
      refine HJ.op (i := 9) rfl rfl rfl rfl rfl (op_store ttok 1 rfl h11 rfl rfl rfl rfl rfl rfl rfl) ?_
      intro _ w11 h12
      replace h12 : St w0 F0 (boxC b7 31 [.int .i64 a0.1, .slice none ([] : List (Int)).length 0, .slice none ([] : List (List UInt8)).length 0, .slice none ([] : List (List UInt8 × Bool × List UInt8)).length 0, .slice none ([] : List (List UInt8 × List UInt8)).length 0] :: _) _ w11 := h12
      refine ⟨⟨[_, _], h12⟩, ?_⟩
      refine HJ.fin [(1, .pointer (some ⟨b1, 0, none⟩)), (2, .pointer (some ⟨b2, 0, none⟩)), (3, .pointer (some ⟨b3, 0, none⟩)), (6, .pointer (some ⟨b6, 0, none⟩)), (7, .pointer (some ⟨b7, 0, none⟩))] rfl rfl ?_
      exact thenP_intro ⟨b6, b7, rfl, ((h12.only [1, 0, 0, 0, 0] rfl).rds [0, 1, 2, 3] rfl)⟩
    · refine HS.op (i := 7) rfl rfl rfl (op_alloc ttok rfl rfl h8) ?_
      rintro _ w12 ⟨b8, rfl, h13⟩
      refine ⟨⟨[_], h13⟩, ?_⟩
      refine HJ.op (i := 6) rfl rfl rfl rfl rfl (op_alloc ttok rfl rfl h13) ?_
      rintro _ w13 ⟨b9, rfl, h14⟩
      refine ⟨⟨[_, _], h14⟩, ?_⟩
      refine HJ.op (i := 8) rfl rfl rfl rfl rfl (op_store ttok 0 rfl h14 rfl rfl rfl rfl rfl rfl rfl) ?_
      intro _ w14 h15
      replace h15 : St w0 F0 (boxC b9 31 [.int .i64 a0.1, .slice none ([] : List (Int)).length 0, .slice none ([] : List (List UInt8)).length 0, .slice none ([] : List (List UInt8 × Bool × List UInt8)).length 0, .slice none ([] : List (List UInt8 × List UInt8)).length 0] :: _) _ w14 := h15
      refine ⟨⟨[_, _], h15⟩, ?_⟩
      refine HJ.op (i := 9) rfl rfl rfl rfl rfl (op_store ttok 1 rfl h15 rfl rfl rfl rfl rfl rfl rfl) ?_
      intro _ w15 h16
      replace h16 : St w0 F0 (boxC b8 31 [.int .i64 a0.1, .slice none ([] : List (Int)).length 0, .slice none ([] : List (List UInt8)).length 0, .slice none ([] : List (List UInt8 × Bool × List UInt8)).length 0, .slice none ([] : List (List UInt8 × List UInt8)).length 0] :: _) _ w15 := h16
      refine ⟨⟨[_, _], h16⟩, ?_⟩
      refine HJ.fin [(1, .pointer (some ⟨b1, 0, none⟩)), (2, .pointer (some ⟨b2, 0, none⟩)), (3, .pointer (some ⟨b3, 0, none⟩)), (6, .pointer (some ⟨b9, 0, none⟩)), (7, .pointer (some ⟨b8, 0, none⟩))] rfl rfl ?_
      exact thenP_intro ⟨b9, b8, rfl, ((h16.only [1, 0, 0, 0, 0] rfl).rds [0, 1, 2, 3] rfl)⟩
  · rintro env w16 ⟨b4, b5, rfl, h17⟩
    refine J.seq ?_
    refine J.seq ?_
    refine J.region ?_
    refine RJ.run ttok 1 rfl ?_
    refine RJ.q rfl rfl (q_load_box ttok 4 (fun w e => e ▸ h17.wh) rfl rfl rfl rfl rfl) ?_
    refine RJ.run ttok 1 rfl ?_
    refine RJ.fin [(1, .pointer (some ⟨b1, 0, none⟩)), (2, .pointer (some ⟨b2, 0, none⟩)), (3, .pointer (some ⟨b3, 0, none⟩)), (6, .pointer (some ⟨b4, 0, none⟩)), (7, .pointer (some ⟨b5, 0, none⟩)), (23, .bool (decide (a0.1 = 0)))] rfl ?_
    refine J.cond rfl (fun c1 => ?_) (fun c1 => ?_)
    · replace H := ite_t c1 H
      refine J.seq ?_
      refine J.seq ?_
      refine J.region ?_
      refine RJ.run ttok 1 rfl ?_
      refine RJ.q rfl rfl (q_load_box ttok 4 (fun w e => e ▸ h17.wh) rfl rfl rfl rfl rfl) ?_
      refine RJ.run ttok 2 rfl ?_
      refine RJ.fin [(1, .pointer (some ⟨b1, 0, none⟩)), (2, .pointer (some ⟨b2, 0, none⟩)), (3, .pointer (some ⟨b3, 0, none⟩)), (6, .pointer (some ⟨b4, 0, none⟩)), (7, .pointer (some ⟨b5, 0, none⟩)), (27, .bool (decide ((a0.2.2.2.2.length : Int) < 2)))] rfl ?_
      refine J.cond rfl (fun c2 => ?_) (fun c2 => ?_)
      · replace H := ite_t c2 H
        refine J.seq ?_
        refine J.region ?_
        refine RJ.run ttok 2 rfl ?_
        refine RJ.op rfl rfl (op_store ttok 3 rfl h17 rfl rfl rfl rfl rfl rfl rfl) ?_
        intro _ w17 h18
        replace h18 : St w0 F0 (boxC b2 31 [.int .i64 0, .slice none ([] : List (Int)).length 0, .slice none ([] : List (List UInt8)).length 0, .slice none ([] : List (List UInt8 × Bool × List UInt8)).length 0, .slice none ([] : List (List UInt8 × List UInt8)).length 0] :: _) _ w17 := h18
        refine RJ.op rfl rfl (op_store ttok 3 rfl h18 rfl rfl rfl rfl rfl rfl rfl) ?_
        intro _ w18 h19
        replace h19 : St w0 F0 (boxC b3 31 [.int .i64 0, .slice none ([] : List (Int)).length 0, .slice none ([] : List (List UInt8)).length 0, .slice none ([] : List (List UInt8 × Bool × List UInt8)).length 0, .slice none ([] : List (List UInt8 × List UInt8)).length 0] :: _) _ w18 := h19
        refine RJ.run ttok 2 rfl ?_
        refine RJ.fin [(2, .pointer (some ⟨b2, 0, none⟩)), (3, .pointer (some ⟨b3, 0, none⟩)), (4, .string ⟨⟨([] : List UInt8)⟩⟩), (5, .bool false)] rfl ?_
        refine J.ret ?_
        have h20 := h19.addNil 46 (.int .u32)
        have h21 := h20.addNil 9 .str
        have h22 := h21.addNil 48 (.pair .str (.pair .bool .str))
        have h23 := h22.addNil 50 (.pair .str .str)
        have h24 := h23.addNil 46 (.int .u32)
        have h25 := h24.addNil 9 .str
        have h26 := h25.addNil 48 (.pair .str (.pair .bool .str))
        have h27 := h26.addNil 50 (.pair .str .str)
        obtain rfl := Option.some.inj H
        exact ⟨_, _, _, (results_two rfl (rvcons (RV.cell ttok 9 h27 rfl rfl rfl rfl) (rvcons (RV.cell ttok 8 h27 rfl rfl rfl rfl) (rvcons (RV.tmp rfl) (rvcons (RV.tmp rfl) rvnil)))) rfl), ⟨_, _, _, _, _, _, _, _, _, _, _, _, _, _, _, _, rfl, rfl⟩, h27.only [7, 6, 5, 4, 3, 2, 1, 0] rfl⟩
      · replace H := ite_f c2 H
        refine J.skip ?_
        refine J.seq ?_
        refine J.seq ?_
        refine J.region ?_
        refine RJ.run ttok 1 rfl ?_
        refine RJ.fin [(1, .pointer (some ⟨b1, 0, none⟩)), (2, .pointer (some ⟨b2, 0, none⟩)), (3, .pointer (some ⟨b3, 0, none⟩)), (6, .pointer (some ⟨b4, 0, none⟩)), (7, .pointer (some ⟨b5, 0, none⟩)), (8, .int .i64 0)] rfl ?_
        refine J.block ?_
        have h64 := h17.addNil 50 (.pair .str .str)
        have h65 := h64.addNil 50 (.pair .str .str)
        have h66 := ((h65.only [6, 5, 4, 2, 2, 1, 0] rfl).rds [0, 1, 2, 3] rfl)
        refine J.loop (fun k env w => ∃ (x1 : List (List UInt8 × List UInt8)) (A5 : Option Addr) (c_5 : Nat) (x2 : List (List UInt8 × List UInt8)) (A6 : Option Addr) (c_6 : Nat) (x3 : Int), env = [(1, .pointer (some ⟨b1, 0, none⟩)), (2, .pointer (some ⟨b2, 0, none⟩)), (3, .pointer (some ⟨b3, 0, none⟩)), (6, .pointer (some ⟨b4, 0, none⟩)), (7, .pointer (some ⟨b5, 0, none⟩)), (8, .int .i64 x3)] ∧ St w0 F0 [boxC b1 31 [.int .i64 a0.1, .slice A1 a0.2.1.length c_1, .slice A2 a0.2.2.1.length c_2, .slice A3 a0.2.2.2.1.length c_3, .slice A4 a0.2.2.2.2.length c_4], boxC b2 31 [.int .i64 0, .slice none ([] : List (Int)).length 0, .slice none ([] : List (List UInt8)).length 0, .slice none ([] : List (List UInt8 × Bool × List UInt8)).length 0, .slice none ([] : List (List UInt8 × List UInt8)).length 0], boxC b3 31 [.int .i64 0, .slice none ([] : List (Int)).length 0, .slice none ([] : List (List UInt8)).length 0, .slice none ([] : List (List UInt8 × Bool × List UInt8)).length 0, .slice none ([] : List (List UInt8 × List UInt8)).length 0], boxC b4 31 [.int .i64 a0.1, .slice none ([] : List (Int)).length 0, .slice none ([] : List (List UInt8)).length 0, .slice none ([] : List (List UInt8 × Bool × List UInt8)).length 0, .slice A5 x1.length c_5], boxC b5 31 [.int .i64 a0.1, .slice none ([] : List (Int)).length 0, .slice none ([] : List (List UInt8)).length 0, .slice none ([] : List (List UInt8 × Bool × List UInt8)).length 0, .slice A6 x2.length c_6], ownC 50 (.pair .str .str) x1 (.slice A5 x1.length c_5), ownC 50 (.pair .str .str) x2 (.slice A6 x2.length c_6)] [rdC 46 (.int .u32) a0.2.1 (.slice A1 a0.2.1.length c_1), rdC 9 .str a0.2.2.1 (.slice A2 a0.2.2.1.length c_2), rdC 48 (.pair .str (.pair .bool .str)) a0.2.2.2.1 (.slice A3 a0.2.2.2.1.length c_3), rdC 50 (.pair .str .str) a0.2.2.2.2 (.slice A4 a0.2.2.2.2.length c_4)] w ∧ sluicegateref14_Halve.l0 k a0 x1 x2 x3 = some r) (k := k) ⟨([] : List (List UInt8 × List UInt8)), none, 0, ([] : List (List UInt8 × List UInt8)), none, 0, 0, rfl, h66, H⟩ ?_
        rintro k1 env w19 ⟨x1, A5, c_5, x2, A6, c_6, x3, rfl, h28, H⟩
        cases k1 with
        | zero => exact nomatch (show none = some r from H)
        | succ k1 =>
          rw [sluicegateref14_Halve.l0] at H
          refine J.seq ?_
          refine J.seq ?_
          refine J.region ?_
          refine RJ.run ttok 2 rfl ?_
          refine RJ.q rfl rfl (q_load_box ttok 0 (fun w e => e ▸ h28.wh) rfl rfl rfl rfl rfl) ?_
          refine RJ.run ttok 2 rfl ?_
          refine RJ.fin [(1, .pointer (some ⟨b1, 0, none⟩)), (2, .pointer (some ⟨b2, 0, none⟩)), (3, .pointer (some ⟨b3, 0, none⟩)), (6, .pointer (some ⟨b4, 0, none⟩)), (7, .pointer (some ⟨b5, 0, none⟩)), (8, .int .i64 x3), (34, .bool (decide (x3 < (a0.2.2.2.2.length : Int))))] rfl ?_
          refine J.cond rfl (fun c3 => ?_) (fun c3 => ?_)
          · replace H := ite_t c3 H
            refine J.skip ?_
            refine J.seq ?_
            refine J.block ?_
            refine J.seq ?_
            refine J.region ?_
            refine RJ.run ttok 3 rfl ?_
            refine RJ.q rfl rfl (q_load_box ttok 0 (fun w e => e ▸ h28.wh) rfl rfl rfl rfl rfl) ?_
            refine RJ.run ttok 2 rfl ?_
            refine RJ.fin [(1, .pointer (some ⟨b1, 0, none⟩)), (2, .pointer (some ⟨b2, 0, none⟩)), (3, .pointer (some ⟨b3, 0, none⟩)), (6, .pointer (some ⟨b4, 0, none⟩)), (7, .pointer (some ⟨b5, 0, none⟩)), (8, .int .i64 x3), (42, .bool (decide ((w64 (2 * x3)) < (a0.2.2.2.2.length : Int))))] rfl ?_
            refine J.cond rfl (fun c4 => ?_) (fun c4 => ?_)
            · replace H := ite_t c4 H
              obtain ⟨⟨p1, p2⟩, H⟩ := guard_t H
              obtain ⟨p3, H⟩ := guard_t H
              refine J.mid (fun env w => ∃ (A7 : Option Addr) (c_7 : Nat), env = [(1, .pointer (some ⟨b1, 0, none⟩)), (2, .pointer (some ⟨b2, 0, none⟩)), (3, .pointer (some ⟨b3, 0, none⟩)), (6, .pointer (some ⟨b4, 0, none⟩)), (7, .pointer (some ⟨b5, 0, none⟩)), (8, .int .i64 x3)] ∧ St w0 F0 [boxC b4 31 [.int .i64 a0.1, .slice none ([] : List (Int)).length 0, .slice none ([] : List (List UInt8)).length 0, .slice none ([] : List (List UInt8 × Bool × List UInt8)).length 0, .slice A7 (x1 ++ ([((gt a0.2.2.2.2 x3).1, (gt a0.2.2.2.2 x3).2)] : List (List UInt8 × List UInt8))).length c_7], ownC 50 (.pair .str .str) (x1 ++ ([((gt a0.2.2.2.2 x3).1, (gt a0.2.2.2.2 x3).2)] : List (List UInt8 × List UInt8))) (.slice A7 (x1 ++ ([((gt a0.2.2.2.2 x3).1, (gt a0.2.2.2.2 x3).2)] : List (List UInt8 × List UInt8))).length c_7), boxC b1 31 [.int .i64 a0.1, .slice A1 a0.2.1.length c_1, .slice A2 a0.2.2.1.length c_2, .slice A3 a0.2.2.2.1.length c_3, .slice A4 a0.2.2.2.2.length c_4], boxC b2 31 [.int .i64 0, .slice none ([] : List (Int)).length 0, .slice none ([] : List (List UInt8)).length 0, .slice none ([] : List (List UInt8 × Bool × List UInt8)).length 0, .slice none ([] : List (List UInt8 × List UInt8)).length 0], boxC b3 31 [.int .i64 0, .slice none ([] : List (Int)).length 0, .slice none ([] : List (List UInt8)).length 0, .slice none ([] : List (List UInt8 × Bool × List UInt8)).length 0, .slice none ([] : List (List UInt8 × List UInt8)).length 0], boxC b5 31 [.int .i64 a0.1, .slice none ([] : List (Int)).length 0, .slice none ([] : List (List UInt8)).length 0, .slice none ([] : List (List UInt8 × Bool × List UInt8)).length 0, .slice A6 x2.length c_6], ownC 50 (.pair .str .str) x2 (.slice A6 x2.length c_6)] [rdC 46 (.int .u32) a0.2.1 (.slice A1 a0.2.1.length c_1), rdC 9 .str a0.2.2.1 (.slice A2 a0.2.2.1.length c_2), rdC 48 (.pair .str (.pair .bool .str)) a0.2.2.2.1 (.slice A3 a0.2.2.2.1.length c_3), rdC 50 (.pair .str .str) a0.2.2.2.2 (.slice A4 a0.2.2.2.2.length c_4)] w) ?_ ?_
              · refine J.heldSt mix (h28.only [0, 0, 0, 1] rfl) ?_
                have h32 := h28.drew
                refine HJ.run ttok rfl [0, 2, 4] rfl ?_
                refine HJ.q (i := 3) rfl rfl rfl rfl rfl rfl (q_load_box ttok 0 (fun w e => e) rfl rfl rfl rfl rfl) ?_
                have e2 := elem_A h32.wh (Gives.self 10 rfl) p1 p2
                refine HJ.q (i := 5) rfl rfl rfl rfl rfl rfl (q_index ttok rfl rfl rfl rfl rfl e2 p1 p2) ?_
                refine HJ.q (i := 6) rfl rfl rfl rfl rfl rfl (q_load_elem (f := 0) ttok rfl (fun w e => e) (Gives.self 7 rfl) p1 p2 rfl rfl rfl rfl rfl) ?_
                refine HJ.pick [1, 7] (i := 1) rfl rfl rfl rfl ?_
                refine (hscons ?_ (hscons ?_ hsnil))
                · refine HS.op (i := 1) rfl rfl rfl (OpT.ofq (q_load_box ttok 3 (fun w e => e ▸ h32.wh) rfl rfl rfl rfl rfl)) ?_
                  rintro _ _ ⟨rfl, rfl⟩
                  refine ⟨⟨[_, _, _], (h32.only [3, 4, 4, 0, 0, 0, 0] rfl)⟩, ?_⟩
                  refine HJ.op (i := 7) rfl rfl rfl rfl rfl (op_lit ttok (.pair .str .str) rfl ([((gt a0.2.2.2.2 x3).1, (gt a0.2.2.2.2 x3).2)] : List (List UInt8 × List UInt8)) rfl h32 rfl rfl (by decide) rfl rfl rfl rfl rfl rfl rfl) ?_
                  rintro _ w25 ⟨b11, rfl, h33⟩
                  refine ⟨⟨[_, _, _, _], (h33.only [0, 3, 4, 4, 0, 0, 0, 0] rfl)⟩, ?_⟩
                  refine HJ.op (i := 8) rfl rfl rfl rfl rfl (op_append ttok rfl 6 rfl h33 rfl (Gives.of 0 rfl own_rd) rfl rfl rfl rfl rfl rfl (by decide) (by decide) p3) ?_
                  rintro _ w26 ⟨A8, c_8, rfl, h34⟩
                  refine ⟨⟨[_, _, _, _], (h34.only [0, 0, 3, 4, 0, 0, 0, 0] rfl)⟩, ?_⟩
                  refine HJ.run ttok rfl [9] rfl ?_
                  refine HJ.op (i := 10) rfl rfl rfl rfl rfl (op_store ttok 5 rfl h34 rfl rfl rfl rfl rfl rfl rfl) ?_
                  intro _ w27 h35
                  replace h35 : St w0 F0 (boxC b4 31 [.int .i64 a0.1, .slice none ([] : List (Int)).length 0, .slice none ([] : List (List UInt8)).length 0, .slice none ([] : List (List UInt8 × Bool × List UInt8)).length 0, .slice A8 (x1 ++ ([((gt a0.2.2.2.2 x3).1, (gt a0.2.2.2.2 x3).2)] : List (List UInt8 × List UInt8))).length c_8] :: _) _ w27 := h35
                  refine ⟨⟨[_, _, _, _], (h35.only [0, 0, 0, 4, 0, 0, 0, 0] rfl)⟩, ?_⟩
                  refine HJ.fin [(1, .pointer (some ⟨b1, 0, none⟩)), (2, .pointer (some ⟨b2, 0, none⟩)), (3, .pointer (some ⟨b3, 0, none⟩)), (6, .pointer (some ⟨b4, 0, none⟩)), (7, .pointer (some ⟨b5, 0, none⟩)), (8, .int .i64 x3)] rfl rfl ?_
                  exact thenP_intro ⟨A8, c_8, rfl, ((h35.only [0, 0, 1, 1, 1, 1, 1] rfl).rds [0, 1, 2, 3] rfl)⟩
                · refine HS.op (i := 7) rfl rfl rfl (op_lit ttok (.pair .str .str) rfl ([((gt a0.2.2.2.2 x3).1, (gt a0.2.2.2.2 x3).2)] : List (List UInt8 × List UInt8)) rfl h32 rfl rfl (by decide) rfl rfl rfl rfl rfl rfl rfl) ?_
                  rintro _ w28 ⟨b12, rfl, h36⟩
                  refine ⟨⟨[_, _, _, _], (h36.only [0, 3, 4, 4, 0, 0, 0, 0] rfl)⟩, ?_⟩
                  refine HJ.op (i := 1) rfl rfl rfl rfl rfl (OpT.ofq (q_load_box ttok 4 (fun w e => e ▸ h36.wh) rfl rfl rfl rfl rfl)) ?_
                  rintro _ _ ⟨rfl, rfl⟩
                  refine ⟨⟨[_, _, _, _], (h36.only [0, 3, 4, 4, 0, 0, 0, 0] rfl)⟩, ?_⟩
                  refine HJ.op (i := 8) rfl rfl rfl rfl rfl (op_append ttok rfl 6 rfl h36 rfl (Gives.of 0 rfl own_rd) rfl rfl rfl rfl rfl rfl (by decide) (by decide) p3) ?_
                  rintro _ w30 ⟨A9, c_9, rfl, h37⟩
                  refine ⟨⟨[_, _, _, _], (h37.only [0, 0, 3, 4, 0, 0, 0, 0] rfl)⟩, ?_⟩
                  refine HJ.run ttok rfl [9] rfl ?_
                  refine HJ.op (i := 10) rfl rfl rfl rfl rfl (op_store ttok 5 rfl h37 rfl rfl rfl rfl rfl rfl rfl) ?_
                  intro _ w31 h38
                  replace h38 : St w0 F0 (boxC b4 31 [.int .i64 a0.1, .slice none ([] : List (Int)).length 0, .slice none ([] : List (List UInt8)).length 0, .slice none ([] : List (List UInt8 × Bool × List UInt8)).length 0, .slice A9 (x1 ++ ([((gt a0.2.2.2.2 x3).1, (gt a0.2.2.2.2 x3).2)] : List (List UInt8 × List UInt8))).length c_9] :: _) _ w31 := h38
                  refine ⟨⟨[_, _, _, _], (h38.only [0, 0, 0, 4, 0, 0, 0, 0] rfl)⟩, ?_⟩
                  refine HJ.fin [(1, .pointer (some ⟨b1, 0, none⟩)), (2, .pointer (some ⟨b2, 0, none⟩)), (3, .pointer (some ⟨b3, 0, none⟩)), (6, .pointer (some ⟨b4, 0, none⟩)), (7, .pointer (some ⟨b5, 0, none⟩)), (8, .int .i64 x3)] rfl rfl ?_
                  exact thenP_intro ⟨A9, c_9, rfl, ((h38.only [0, 0, 1, 1, 1, 1, 1] rfl).rds [0, 1, 2, 3] rfl)⟩
              · rintro env w32 ⟨A7, c_7, rfl, h39⟩
                refine J.region ?_
                refine RJ.run ttok 3 rfl ?_
                refine RJ.fin [(1, .pointer (some ⟨b1, 0, none⟩)), (2, .pointer (some ⟨b2, 0, none⟩)), (3, .pointer (some ⟨b3, 0, none⟩)), (6, .pointer (some ⟨b4, 0, none⟩)), (7, .pointer (some ⟨b5, 0, none⟩)), (8, .int .i64 (w64 (x3 + 1)))] rfl ?_
                have h40 := ((h39.only [2, 2, 2, 0, 1, 0, 0] rfl).rds [0, 1, 2, 3] rfl)
                exact ⟨k1, by omega, (x1 ++ ([((gt a0.2.2.2.2 x3).1, (gt a0.2.2.2.2 x3).2)] : List (List UInt8 × List UInt8))), A7, c_7, x2, A6, c_6, (w64 (x3 + 1)), rfl, h40, H⟩
            · replace H := ite_f c4 H
              obtain ⟨⟨p4, p5⟩, H⟩ := guard_t H
              obtain ⟨p6, H⟩ := guard_t H
              refine J.mid (fun env w => ∃ (A10 : Option Addr) (c_10 : Nat), env = [(1, .pointer (some ⟨b1, 0, none⟩)), (2, .pointer (some ⟨b2, 0, none⟩)), (3, .pointer (some ⟨b3, 0, none⟩)), (6, .pointer (some ⟨b4, 0, none⟩)), (7, .pointer (some ⟨b5, 0, none⟩)), (8, .int .i64 x3)] ∧ St w0 F0 [boxC b5 31 [.int .i64 a0.1, .slice none ([] : List (Int)).length 0, .slice none ([] : List (List UInt8)).length 0, .slice none ([] : List (List UInt8 × Bool × List UInt8)).length 0, .slice A10 (x2 ++ ([((gt a0.2.2.2.2 x3).1, (gt a0.2.2.2.2 x3).2)] : List (List UInt8 × List UInt8))).length c_10], ownC 50 (.pair .str .str) (x2 ++ ([((gt a0.2.2.2.2 x3).1, (gt a0.2.2.2.2 x3).2)] : List (List UInt8 × List UInt8))) (.slice A10 (x2 ++ ([((gt a0.2.2.2.2 x3).1, (gt a0.2.2.2.2 x3).2)] : List (List UInt8 × List UInt8))).length c_10), boxC b1 31 [.int .i64 a0.1, .slice A1 a0.2.1.length c_1, .slice A2 a0.2.2.1.length c_2, .slice A3 a0.2.2.2.1.length c_3, .slice A4 a0.2.2.2.2.length c_4], boxC b2 31 [.int .i64 0, .slice none ([] : List (Int)).length 0, .slice none ([] : List (List UInt8)).length 0, .slice none ([] : List (List UInt8 × Bool × List UInt8)).length 0, .slice none ([] : List (List UInt8 × List UInt8)).length 0], boxC b3 31 [.int .i64 0, .slice none ([] : List (Int)).length 0, .slice none ([] : List (List UInt8)).length 0, .slice none ([] : List (List UInt8 × Bool × List UInt8)).length 0, .slice none ([] : List (List UInt8 × List UInt8)).length 0], boxC b4 31 [.int .i64 a0.1, .slice none ([] : List (Int)).length 0, .slice none ([] : List (List UInt8)).length 0, .slice none ([] : List (List UInt8 × Bool × List UInt8)).length 0, .slice A5 x1.length c_5], ownC 50 (.pair .str .str) x1 (.slice A5 x1.length c_5)] [rdC 46 (.int .u32) a0.2.1 (.slice A1 a0.2.1.length c_1), rdC 9 .str a0.2.2.1 (.slice A2 a0.2.2.1.length c_2), rdC 48 (.pair .str (.pair .bool .str)) a0.2.2.2.1 (.slice A3 a0.2.2.2.1.length c_3), rdC 50 (.pair .str .str) a0.2.2.2.2 (.slice A4 a0.2.2.2.2.length c_4)] w) ?_ ?_
              · refine J.heldSt mix (h28.only [0, 0, 0, 0] rfl) ?_
                have h44 := h28.drew
                refine HJ.run ttok rfl [0, 2, 4] rfl ?_
                refine HJ.q (i := 3) rfl rfl rfl rfl rfl rfl (q_load_box ttok 0 (fun w e => e) rfl rfl rfl rfl rfl) ?_
                have e4 := elem_A h44.wh (Gives.self 10 rfl) p4 p5
                refine HJ.q (i := 5) rfl rfl rfl rfl rfl rfl (q_index ttok rfl rfl rfl rfl rfl e4 p4 p5) ?_
                refine HJ.q (i := 6) rfl rfl rfl rfl rfl rfl (q_load_elem (f := 0) ttok rfl (fun w e => e) (Gives.self 7 rfl) p4 p5 rfl rfl rfl rfl rfl) ?_
                refine HJ.pick [1, 7] (i := 1) rfl rfl rfl rfl ?_
                refine (hscons ?_ (hscons ?_ hsnil))
                · refine HS.op (i := 1) rfl rfl rfl (OpT.ofq (q_load_box ttok 4 (fun w e => e ▸ h44.wh) rfl rfl rfl rfl rfl)) ?_
                  rintro _ _ ⟨rfl, rfl⟩
                  refine ⟨⟨[_, _, _], (h44.only [4, 4, 4, 0, 0, 0, 0] rfl)⟩, ?_⟩
                  refine HJ.op (i := 7) rfl rfl rfl rfl rfl (op_lit ttok (.pair .str .str) rfl ([((gt a0.2.2.2.2 x3).1, (gt a0.2.2.2.2 x3).2)] : List (List UInt8 × List UInt8)) rfl h44 rfl rfl (by decide) rfl rfl rfl rfl rfl rfl rfl) ?_
                  rintro _ w38 ⟨b14, rfl, h45⟩
                  refine ⟨⟨[_, _, _, _], (h45.only [0, 4, 4, 4, 0, 0, 0, 0] rfl)⟩, ?_⟩
                  refine HJ.op (i := 8) rfl rfl rfl rfl rfl (op_append ttok rfl 7 rfl h45 rfl (Gives.of 0 rfl own_rd) rfl rfl rfl rfl rfl rfl (by decide) (by decide) p6) ?_
                  rintro _ w39 ⟨A11, c_11, rfl, h46⟩
                  refine ⟨⟨[_, _, _, _], (h46.only [0, 0, 4, 4, 0, 0, 0, 0] rfl)⟩, ?_⟩
                  refine HJ.run ttok rfl [9] rfl ?_
                  refine HJ.op (i := 10) rfl rfl rfl rfl rfl (op_store ttok 6 rfl h46 rfl rfl rfl rfl rfl rfl rfl) ?_
                  intro _ w40 h47
                  replace h47 : St w0 F0 (boxC b5 31 [.int .i64 a0.1, .slice none ([] : List (Int)).length 0, .slice none ([] : List (List UInt8)).length 0, .slice none ([] : List (List UInt8 × Bool × List UInt8)).length 0, .slice A11 (x2 ++ ([((gt a0.2.2.2.2 x3).1, (gt a0.2.2.2.2 x3).2)] : List (List UInt8 × List UInt8))).length c_11] :: _) _ w40 := h47
                  refine ⟨⟨[_, _, _, _], (h47.only [0, 0, 0, 4, 0, 0, 0, 0] rfl)⟩, ?_⟩
                  refine HJ.fin [(1, .pointer (some ⟨b1, 0, none⟩)), (2, .pointer (some ⟨b2, 0, none⟩)), (3, .pointer (some ⟨b3, 0, none⟩)), (6, .pointer (some ⟨b4, 0, none⟩)), (7, .pointer (some ⟨b5, 0, none⟩)), (8, .int .i64 x3)] rfl rfl ?_
                  exact thenP_intro ⟨A11, c_11, rfl, ((h47.only [0, 0, 1, 1, 1, 1, 1] rfl).rds [0, 1, 2, 3] rfl)⟩
                · refine HS.op (i := 7) rfl rfl rfl (op_lit ttok (.pair .str .str) rfl ([((gt a0.2.2.2.2 x3).1, (gt a0.2.2.2.2 x3).2)] : List (List UInt8 × List UInt8)) rfl h44 rfl rfl (by decide) rfl rfl rfl rfl rfl rfl rfl) ?_
                  rintro _ w41 ⟨b15, rfl, h48⟩
                  refine ⟨⟨[_, _, _, _], (h48.only [0, 4, 4, 4, 0, 0, 0, 0] rfl)⟩, ?_⟩
                  refine HJ.op (i := 1) rfl rfl rfl rfl rfl (OpT.ofq (q_load_box ttok 5 (fun w e => e ▸ h48.wh) rfl rfl rfl rfl rfl)) ?_
                  rintro _ _ ⟨rfl, rfl⟩
                  refine ⟨⟨[_, _, _, _], (h48.only [0, 4, 4, 4, 0, 0, 0, 0] rfl)⟩, ?_⟩
                  refine HJ.op (i := 8) rfl rfl rfl rfl rfl (op_append ttok rfl 7 rfl h48 rfl (Gives.of 0 rfl own_rd) rfl rfl rfl rfl rfl rfl (by decide) (by decide) p6) ?_
                  rintro _ w43 ⟨A12, c_12, rfl, h49⟩
                  refine ⟨⟨[_, _, _, _], (h49.only [0, 0, 4, 4, 0, 0, 0, 0] rfl)⟩, ?_⟩
                  refine HJ.run ttok rfl [9] rfl ?_
                  refine HJ.op (i := 10) rfl rfl rfl rfl rfl (op_store ttok 6 rfl h49 rfl rfl rfl rfl rfl rfl rfl) ?_
                  intro _ w44 h50
                  replace h50 : St w0 F0 (boxC b5 31 [.int .i64 a0.1, .slice none ([] : List (Int)).length 0, .slice none ([] : List (List UInt8)).length 0, .slice none ([] : List (List UInt8 × Bool × List UInt8)).length 0, .slice A12 (x2 ++ ([((gt a0.2.2.2.2 x3).1, (gt a0.2.2.2.2 x3).2)] : List (List UInt8 × List UInt8))).length c_12] :: _) _ w44 := h50
                  refine ⟨⟨[_, _, _, _], (h50.only [0, 0, 0, 4, 0, 0, 0, 0] rfl)⟩, ?_⟩
                  refine HJ.fin [(1, .pointer (some ⟨b1, 0, none⟩)), (2, .pointer (some ⟨b2, 0, none⟩)), (3, .pointer (some ⟨b3, 0, none⟩)), (6, .pointer (some ⟨b4, 0, none⟩)), (7, .pointer (some ⟨b5, 0, none⟩)), (8, .int .i64 x3)] rfl rfl ?_
                  exact thenP_intro ⟨A12, c_12, rfl, ((h50.only [0, 0, 1, 1, 1, 1, 1] rfl).rds [0, 1, 2, 3] rfl)⟩
              · rintro env w45 ⟨A10, c_10, rfl, h51⟩
                refine J.region ?_
                refine RJ.run ttok 3 rfl ?_
                refine RJ.fin [(1, .pointer (some ⟨b1, 0, none⟩)), (2, .pointer (some ⟨b2, 0, none⟩)), (3, .pointer (some ⟨b3, 0, none⟩)), (6, .pointer (some ⟨b4, 0, none⟩)), (7, .pointer (some ⟨b5, 0, none⟩)), (8, .int .i64 (w64 (x3 + 1)))] rfl ?_
                have h52 := ((h51.only [2, 2, 2, 2, 0, 1, 0] rfl).rds [0, 1, 2, 3] rfl)
                exact ⟨k1, by omega, x1, A5, c_5, (x2 ++ ([((gt a0.2.2.2.2 x3).1, (gt a0.2.2.2.2 x3).2)] : List (List UInt8 × List UInt8))), A10, c_10, (w64 (x3 + 1)), rfl, h52, H⟩
          · replace H := ite_f c3 H
            refine J.exit ?_
            refine J.seq ?_
            refine J.heldSt mix h28 ?_
            have h53 := h28.drew
            refine HJ.run ttok rfl [0, 2, 9] rfl ?_
            refine HJ.q (i := 1) rfl rfl rfl rfl rfl rfl (q_load_box ttok 3 (fun w e => e) rfl rfl rfl rfl rfl) ?_
            refine HJ.q (i := 3) rfl rfl rfl rfl rfl rfl (q_load_box ttok 3 (fun w e => e) rfl rfl rfl rfl rfl) ?_
            refine HJ.run ttok rfl [4, 5] rfl ?_
            obtain ⟨⟨p7, p8⟩, H⟩ := guard_t H
            have e5 := elem_A h53.wh (Gives.of 5 rfl own_rd) p7 p8
            refine HJ.q (i := 6) rfl rfl rfl rfl rfl rfl (q_index ttok rfl rfl rfl rfl rfl e5 p7 p8) ?_
            refine HJ.run ttok rfl [7] rfl ?_
            refine HJ.q (i := 8) rfl rfl rfl rfl rfl rfl (q_load_elem (f := 0) ttok rfl (fun w e => e) (Gives.of 5 rfl own_rd) p7 p8 rfl rfl rfl rfl rfl) ?_
            refine HJ.q (i := 10) rfl rfl rfl rfl rfl rfl (q_load_box ttok 4 (fun w e => e) rfl rfl rfl rfl rfl) ?_
            obtain ⟨p9, H⟩ := guard_t H
            have e6 := elem_A h53.wh (Gives.of 6 rfl own_rd) (by decide) p9
            refine HJ.q (i := 11) rfl rfl rfl rfl rfl rfl (q_index ttok rfl rfl rfl rfl rfl e6 (by decide) p9) ?_
            refine HJ.run ttok rfl [12] rfl ?_
            refine HJ.q (i := 13) rfl rfl rfl rfl rfl rfl (q_load_elem (f := 0) ttok rfl (fun w e => e) (Gives.of 6 rfl own_rd) (by decide) p9 rfl rfl rfl rfl rfl) ?_
            obtain ⟨r1, q1, H⟩ := bind_t H
            refine HJ.op (i := 14) rfl rfl rfl rfl rfl (op_call [] (sluicegateref01_Cut.spec q1) rfl rfl rfl h53 rfl gnil) ?_
            rintro _ w46 ⟨_, ⟨rfl, rfl⟩, h54⟩
            refine ⟨⟨[], h54⟩, ?_⟩
            refine HJ.run ttok rfl [15, 16, 17, 18, 19] rfl ?_
            refine HJ.fin [(2, .pointer (some ⟨b2, 0, none⟩)), (3, .pointer (some ⟨b3, 0, none⟩)), (6, .pointer (some ⟨b4, 0, none⟩)), (7, .pointer (some ⟨b5, 0, none⟩)), (9, .string ⟨⟨r1.1⟩⟩)] rfl rfl ?_
            refine J.seq ?_
            refine J.heldSt mix (h54.only [0, 2, 2, 2, 2] rfl) ?_
            have h55 := h54.drew
            refine HJ.run ttok rfl [2] rfl ?_
            refine HJ.q (i := 0) rfl rfl rfl rfl rfl rfl (q_load_box ttok 1 (fun w e => e) rfl rfl rfl rfl rfl) ?_
            refine HJ.q (i := 1) rfl rfl rfl rfl rfl rfl (q_load_box ttok 2 (fun w e => e) rfl rfl rfl rfl rfl) ?_
            refine HJ.op (i := 3) rfl rfl rfl rfl rfl (op_store ttok 1 rfl h55 rfl rfl rfl rfl rfl rfl rfl) ?_
            intro _ w47 h56
            replace h56 : St w0 F0 (boxC b2 31 [.int .i64 a0.1, .slice none ([] : List (Int)).length 0, .slice none ([] : List (List UInt8)).length 0, .slice none ([] : List (List UInt8 × Bool × List UInt8)).length 0, .slice A5 x1.length c_5] :: _) _ w47 := h56
            refine ⟨⟨[_, _], (h56.only [0, 1, 0, 0, 0, 0, 0] rfl)⟩, ?_⟩
            refine HJ.op (i := 4) rfl rfl rfl rfl rfl (op_store ttok 2 rfl h56 rfl rfl rfl rfl rfl rfl rfl) ?_
            intro _ w48 h57
            replace h57 : St w0 F0 (boxC b3 31 [.int .i64 a0.1, .slice none ([] : List (Int)).length 0, .slice none ([] : List (List UInt8)).length 0, .slice none ([] : List (List UInt8 × Bool × List UInt8)).length 0, .slice A6 x2.length c_6] :: _) _ w48 := h57
            refine ⟨⟨[_, _], h57⟩, ?_⟩
            refine HJ.run ttok rfl [5, 6] rfl ?_
            refine HJ.fin [(2, .pointer (some ⟨b2, 0, none⟩)), (3, .pointer (some ⟨b3, 0, none⟩)), (4, .string ⟨⟨r1.1⟩⟩), (5, .bool true)] rfl rfl ?_
            refine J.ret ?_
            have h58 := h57.addNil 46 (.int .u32)
            have h59 := h58.addNil 9 .str
            have h60 := h59.addNil 48 (.pair .str (.pair .bool .str))
            have h61 := h60.addNil 46 (.int .u32)
            have h62 := h61.addNil 9 .str
            have h63 := h62.addNil 48 (.pair .str (.pair .bool .str))
            obtain rfl := Option.some.inj H
            exact ⟨_, _, _, (results_two rfl (rvcons (RV.cell ttok 7 h63 rfl rfl rfl rfl) (rvcons (RV.cell ttok 6 h63 rfl rfl rfl rfl) (rvcons (RV.tmp rfl) (rvcons (RV.tmp rfl) rvnil)))) rfl), ⟨_, _, _, _, _, _, _, _, _, _, _, _, _, _, _, _, rfl, rfl⟩, h63.only [5, 4, 3, 8, 2, 1, 0, 5] rfl⟩
    · replace H := ite_f c1 H
      refine J.skip ?_
      refine J.seq ?_
      refine J.seq ?_
      refine J.region ?_
      refine RJ.run ttok 1 rfl ?_
      refine RJ.q rfl rfl (q_load_box ttok 4 (fun w e => e ▸ h17.wh) rfl rfl rfl rfl rfl) ?_
      refine RJ.run ttok 2 rfl ?_
      refine RJ.fin [(1, .pointer (some ⟨b1, 0, none⟩)), (2, .pointer (some ⟨b2, 0, none⟩)), (3, .pointer (some ⟨b3, 0, none⟩)), (6, .pointer (some ⟨b4, 0, none⟩)), (7, .pointer (some ⟨b5, 0, none⟩)), (87, .bool (decide ((a0.2.1.length : Int) < 2)))] rfl ?_
      refine J.cond rfl (fun c5 => ?_) (fun c5 => ?_)
      · replace H := ite_t c5 H
        refine J.seq ?_
        refine J.region ?_
        refine RJ.run ttok 2 rfl ?_
        refine RJ.op rfl rfl (op_store ttok 3 rfl h17 rfl rfl rfl rfl rfl rfl rfl) ?_
        intro _ w49 h67
        replace h67 : St w0 F0 (boxC b2 31 [.int .i64 0, .slice none ([] : List (Int)).length 0, .slice none ([] : List (List UInt8)).length 0, .slice none ([] : List (List UInt8 × Bool × List UInt8)).length 0, .slice none ([] : List (List UInt8 × List UInt8)).length 0] :: _) _ w49 := h67
        refine RJ.op rfl rfl (op_store ttok 3 rfl h67 rfl rfl rfl rfl rfl rfl rfl) ?_
        intro _ w50 h68
        replace h68 : St w0 F0 (boxC b3 31 [.int .i64 0, .slice none ([] : List (Int)).length 0, .slice none ([] : List (List UInt8)).length 0, .slice none ([] : List (List UInt8 × Bool × List UInt8)).length 0, .slice none ([] : List (List UInt8 × List UInt8)).length 0] :: _) _ w50 := h68
        refine RJ.run ttok 2 rfl ?_
        refine RJ.fin [(2, .pointer (some ⟨b2, 0, none⟩)), (3, .pointer (some ⟨b3, 0, none⟩)), (4, .string ⟨⟨([] : List UInt8)⟩⟩), (5, .bool false)] rfl ?_
        refine J.ret ?_
        have h69 := h68.addNil 46 (.int .u32)
        have h70 := h69.addNil 9 .str
        have h71 := h70.addNil 48 (.pair .str (.pair .bool .str))
        have h72 := h71.addNil 50 (.pair .str .str)
        have h73 := h72.addNil 46 (.int .u32)
        have h74 := h73.addNil 9 .str
        have h75 := h74.addNil 48 (.pair .str (.pair .bool .str))
        have h76 := h75.addNil 50 (.pair .str .str)
        obtain rfl := Option.some.inj H
        exact ⟨_, _, _, (results_two rfl (rvcons (RV.cell ttok 9 h76 rfl rfl rfl rfl) (rvcons (RV.cell ttok 8 h76 rfl rfl rfl rfl) (rvcons (RV.tmp rfl) (rvcons (RV.tmp rfl) rvnil)))) rfl), ⟨_, _, _, _, _, _, _, _, _, _, _, _, _, _, _, _, rfl, rfl⟩, h76.only [7, 6, 5, 4, 3, 2, 1, 0] rfl⟩
      · replace H := ite_f c5 H
        refine J.skip ?_
        refine J.seq ?_
        refine J.region ?_
        refine RJ.run ttok 1 rfl ?_
        refine RJ.fin [(1, .pointer (some ⟨b1, 0, none⟩)), (2, .pointer (some ⟨b2, 0, none⟩)), (3, .pointer (some ⟨b3, 0, none⟩)), (6, .pointer (some ⟨b4, 0, none⟩)), (7, .pointer (some ⟨b5, 0, none⟩)), (11, .string ⟨⟨([] : List UInt8)⟩⟩)] rfl ?_
        refine J.seq ?_
        refine J.seq ?_
        refine J.region ?_
        refine RJ.run ttok 1 rfl ?_
        refine RJ.fin [(1, .pointer (some ⟨b1, 0, none⟩)), (2, .pointer (some ⟨b2, 0, none⟩)), (3, .pointer (some ⟨b3, 0, none⟩)), (6, .pointer (some ⟨b4, 0, none⟩)), (7, .pointer (some ⟨b5, 0, none⟩)), (11, .string ⟨⟨([] : List UInt8)⟩⟩), (12, .int .i64 0)] rfl ?_
        refine J.block ?_
        have h165 := h17.addNil 46 (.int .u32)
        have h166 := h165.addNil 46 (.int .u32)
        have h167 := ((h166.only [6, 5, 4, 2, 2, 1, 0] rfl).rds [0, 1, 2, 3] rfl)
        refine J.loop (fun k env w => ∃ (x4 : List (Int)) (A13 : Option Addr) (c_13 : Nat) (x5 : List (Int)) (A14 : Option Addr) (c_14 : Nat) (x6 : Int), env = [(1, .pointer (some ⟨b1, 0, none⟩)), (2, .pointer (some ⟨b2, 0, none⟩)), (3, .pointer (some ⟨b3, 0, none⟩)), (6, .pointer (some ⟨b4, 0, none⟩)), (7, .pointer (some ⟨b5, 0, none⟩)), (11, .string ⟨⟨([] : List UInt8)⟩⟩), (12, .int .i64 x6)] ∧ St w0 F0 [boxC b1 31 [.int .i64 a0.1, .slice A1 a0.2.1.length c_1, .slice A2 a0.2.2.1.length c_2, .slice A3 a0.2.2.2.1.length c_3, .slice A4 a0.2.2.2.2.length c_4], boxC b2 31 [.int .i64 0, .slice none ([] : List (Int)).length 0, .slice none ([] : List (List UInt8)).length 0, .slice none ([] : List (List UInt8 × Bool × List UInt8)).length 0, .slice none ([] : List (List UInt8 × List UInt8)).length 0], boxC b3 31 [.int .i64 0, .slice none ([] : List (Int)).length 0, .slice none ([] : List (List UInt8)).length 0, .slice none ([] : List (List UInt8 × Bool × List UInt8)).length 0, .slice none ([] : List (List UInt8 × List UInt8)).length 0], boxC b4 31 [.int .i64 a0.1, .slice A13 x4.length c_13, .slice none ([] : List (List UInt8)).length 0, .slice none ([] : List (List UInt8 × Bool × List UInt8)).length 0, .slice none ([] : List (List UInt8 × List UInt8)).length 0], boxC b5 31 [.int .i64 a0.1, .slice A14 x5.length c_14, .slice none ([] : List (List UInt8)).length 0, .slice none ([] : List (List UInt8 × Bool × List UInt8)).length 0, .slice none ([] : List (List UInt8 × List UInt8)).length 0], ownC 46 (.int .u32) x4 (.slice A13 x4.length c_13), ownC 46 (.int .u32) x5 (.slice A14 x5.length c_14)] [rdC 46 (.int .u32) a0.2.1 (.slice A1 a0.2.1.length c_1), rdC 9 .str a0.2.2.1 (.slice A2 a0.2.2.1.length c_2), rdC 48 (.pair .str (.pair .bool .str)) a0.2.2.2.1 (.slice A3 a0.2.2.2.1.length c_3), rdC 50 (.pair .str .str) a0.2.2.2.2 (.slice A4 a0.2.2.2.2.length c_4)] w ∧ sluicegateref14_Halve.l1 k a0 x4 x5 x6 = some r) (k := k) ⟨([] : List (Int)), none, 0, ([] : List (Int)), none, 0, 0, rfl, h167, H⟩ ?_
        rintro k2 env w51 ⟨x4, A13, c_13, x5, A14, c_14, x6, rfl, h77, H⟩
        cases k2 with
        | zero => exact nomatch (show none = some r from H)
        | succ k2 =>
          rw [sluicegateref14_Halve.l1] at H
          refine J.seq ?_
          refine J.seq ?_
          refine J.region ?_
          refine RJ.run ttok 2 rfl ?_
          refine RJ.q rfl rfl (q_load_box ttok 0 (fun w e => e ▸ h77.wh) rfl rfl rfl rfl rfl) ?_
          refine RJ.run ttok 2 rfl ?_
          refine RJ.fin [(1, .pointer (some ⟨b1, 0, none⟩)), (2, .pointer (some ⟨b2, 0, none⟩)), (3, .pointer (some ⟨b3, 0, none⟩)), (6, .pointer (some ⟨b4, 0, none⟩)), (7, .pointer (some ⟨b5, 0, none⟩)), (11, .string ⟨⟨([] : List UInt8)⟩⟩), (12, .int .i64 x6), (94, .bool (decide (x6 < (a0.2.1.length : Int))))] rfl ?_
          refine J.cond rfl (fun c6 => ?_) (fun c6 => ?_)
          · replace H := ite_t c6 H
            refine J.skip ?_
            refine J.seq ?_
            refine J.block ?_
            refine J.seq ?_
            refine J.region ?_
            refine RJ.run ttok 3 rfl ?_
            refine RJ.q rfl rfl (q_load_box ttok 0 (fun w e => e ▸ h77.wh) rfl rfl rfl rfl rfl) ?_
            refine RJ.run ttok 2 rfl ?_
            refine RJ.fin [(1, .pointer (some ⟨b1, 0, none⟩)), (2, .pointer (some ⟨b2, 0, none⟩)), (3, .pointer (some ⟨b3, 0, none⟩)), (6, .pointer (some ⟨b4, 0, none⟩)), (7, .pointer (some ⟨b5, 0, none⟩)), (11, .string ⟨⟨([] : List UInt8)⟩⟩), (12, .int .i64 x6), (102, .bool (decide ((w64 (2 * x6)) < (a0.2.1.length : Int))))] rfl ?_
            refine J.cond rfl (fun c7 => ?_) (fun c7 => ?_)
            · replace H := ite_t c7 H
              obtain ⟨⟨p10, p11⟩, H⟩ := guard_t H
              obtain ⟨p12, H⟩ := guard_t H
              refine J.mid (fun env w => ∃ (A15 : Option Addr) (c_15 : Nat), env = [(1, .pointer (some ⟨b1, 0, none⟩)), (2, .pointer (some ⟨b2, 0, none⟩)), (3, .pointer (some ⟨b3, 0, none⟩)), (6, .pointer (some ⟨b4, 0, none⟩)), (7, .pointer (some ⟨b5, 0, none⟩)), (11, .string ⟨⟨([] : List UInt8)⟩⟩), (12, .int .i64 x6)] ∧ St w0 F0 [boxC b4 31 [.int .i64 a0.1, .slice A15 (x4 ++ ([(gt a0.2.1 x6)] : List (Int))).length c_15, .slice none ([] : List (List UInt8)).length 0, .slice none ([] : List (List UInt8 × Bool × List UInt8)).length 0, .slice none ([] : List (List UInt8 × List UInt8)).length 0], ownC 46 (.int .u32) (x4 ++ ([(gt a0.2.1 x6)] : List (Int))) (.slice A15 (x4 ++ ([(gt a0.2.1 x6)] : List (Int))).length c_15), boxC b1 31 [.int .i64 a0.1, .slice A1 a0.2.1.length c_1, .slice A2 a0.2.2.1.length c_2, .slice A3 a0.2.2.2.1.length c_3, .slice A4 a0.2.2.2.2.length c_4], boxC b2 31 [.int .i64 0, .slice none ([] : List (Int)).length 0, .slice none ([] : List (List UInt8)).length 0, .slice none ([] : List (List UInt8 × Bool × List UInt8)).length 0, .slice none ([] : List (List UInt8 × List UInt8)).length 0], boxC b3 31 [.int .i64 0, .slice none ([] : List (Int)).length 0, .slice none ([] : List (List UInt8)).length 0, .slice none ([] : List (List UInt8 × Bool × List UInt8)).length 0, .slice none ([] : List (List UInt8 × List UInt8)).length 0], boxC b5 31 [.int .i64 a0.1, .slice A14 x5.length c_14, .slice none ([] : List (List UInt8)).length 0, .slice none ([] : List (List UInt8 × Bool × List UInt8)).length 0, .slice none ([] : List (List UInt8 × List UInt8)).length 0], ownC 46 (.int .u32) x5 (.slice A14 x5.length c_14)] [rdC 46 (.int .u32) a0.2.1 (.slice A1 a0.2.1.length c_1), rdC 9 .str a0.2.2.1 (.slice A2 a0.2.2.1.length c_2), rdC 48 (.pair .str (.pair .bool .str)) a0.2.2.2.1 (.slice A3 a0.2.2.2.1.length c_3), rdC 50 (.pair .str .str) a0.2.2.2.2 (.slice A4 a0.2.2.2.2.length c_4)] w) ?_ ?_
              · refine J.heldSt mix (h77.only [0, 0, 0, 1] rfl) ?_
                have h81 := h77.drew
                refine HJ.run ttok rfl [0, 2, 4] rfl ?_
                refine HJ.q (i := 3) rfl rfl rfl rfl rfl rfl (q_load_box ttok 0 (fun w e => e) rfl rfl rfl rfl rfl) ?_
                have e8 := elem_A h81.wh (Gives.self 7 rfl) p10 p11
                refine HJ.q (i := 5) rfl rfl rfl rfl rfl rfl (q_index ttok rfl rfl rfl rfl rfl e8 p10 p11) ?_
                refine HJ.q (i := 6) rfl rfl rfl rfl rfl rfl (q_load_elem (f := 0) ttok rfl (fun w e => e) (Gives.self 4 rfl) p10 p11 rfl rfl rfl rfl rfl) ?_
                refine HJ.pick [1, 7] (i := 1) rfl rfl rfl rfl ?_
                refine (hscons ?_ (hscons ?_ hsnil))
                · refine HS.op (i := 1) rfl rfl rfl (OpT.ofq (q_load_box ttok 3 (fun w e => e ▸ h81.wh) rfl rfl rfl rfl rfl)) ?_
                  rintro _ _ ⟨rfl, rfl⟩
                  refine ⟨⟨[_, _, _], (h81.only [3, 4, 4, 0, 0, 0, 0] rfl)⟩, ?_⟩
                  refine HJ.op (i := 7) rfl rfl rfl rfl rfl (op_lit ttok (.int .u32) rfl ([(gt a0.2.1 x6)] : List (Int)) rfl h81 rfl rfl (by decide) rfl rfl rfl rfl rfl rfl rfl) ?_
                  rintro _ w57 ⟨b17, rfl, h82⟩
                  refine ⟨⟨[_, _, _, _], (h82.only [0, 3, 4, 4, 0, 0, 0, 0] rfl)⟩, ?_⟩
                  refine HJ.op (i := 8) rfl rfl rfl rfl rfl (op_append ttok rfl 6 rfl h82 rfl (Gives.of 0 rfl own_rd) rfl rfl rfl rfl rfl rfl (by decide) (by decide) p12) ?_
                  rintro _ w58 ⟨A16, c_16, rfl, h83⟩
                  refine ⟨⟨[_, _, _, _], (h83.only [0, 0, 3, 4, 0, 0, 0, 0] rfl)⟩, ?_⟩
                  refine HJ.run ttok rfl [9] rfl ?_
                  refine HJ.op (i := 10) rfl rfl rfl rfl rfl (op_store ttok 5 rfl h83 rfl rfl rfl rfl rfl rfl rfl) ?_
                  intro _ w59 h84
                  replace h84 : St w0 F0 (boxC b4 31 [.int .i64 a0.1, .slice A16 (x4 ++ ([(gt a0.2.1 x6)] : List (Int))).length c_16, .slice none ([] : List (List UInt8)).length 0, .slice none ([] : List (List UInt8 × Bool × List UInt8)).length 0, .slice none ([] : List (List UInt8 × List UInt8)).length 0] :: _) _ w59 := h84
                  refine ⟨⟨[_, _, _, _], (h84.only [0, 0, 0, 4, 0, 0, 0, 0] rfl)⟩, ?_⟩
                  refine HJ.fin [(1, .pointer (some ⟨b1, 0, none⟩)), (2, .pointer (some ⟨b2, 0, none⟩)), (3, .pointer (some ⟨b3, 0, none⟩)), (6, .pointer (some ⟨b4, 0, none⟩)), (7, .pointer (some ⟨b5, 0, none⟩)), (11, .string ⟨⟨([] : List UInt8)⟩⟩), (12, .int .i64 x6)] rfl rfl ?_
                  exact thenP_intro ⟨A16, c_16, rfl, ((h84.only [0, 0, 1, 1, 1, 1, 1] rfl).rds [0, 1, 2, 3] rfl)⟩
                · refine HS.op (i := 7) rfl rfl rfl (op_lit ttok (.int .u32) rfl ([(gt a0.2.1 x6)] : List (Int)) rfl h81 rfl rfl (by decide) rfl rfl rfl rfl rfl rfl rfl) ?_
                  rintro _ w60 ⟨b18, rfl, h85⟩
                  refine ⟨⟨[_, _, _, _], (h85.only [0, 3, 4, 4, 0, 0, 0, 0] rfl)⟩, ?_⟩
                  refine HJ.op (i := 1) rfl rfl rfl rfl rfl (OpT.ofq (q_load_box ttok 4 (fun w e => e ▸ h85.wh) rfl rfl rfl rfl rfl)) ?_
                  rintro _ _ ⟨rfl, rfl⟩
                  refine ⟨⟨[_, _, _, _], (h85.only [0, 3, 4, 4, 0, 0, 0, 0] rfl)⟩, ?_⟩
                  refine HJ.op (i := 8) rfl rfl rfl rfl rfl (op_append ttok rfl 6 rfl h85 rfl (Gives.of 0 rfl own_rd) rfl rfl rfl rfl rfl rfl (by decide) (by decide) p12) ?_
                  rintro _ w62 ⟨A17, c_17, rfl, h86⟩
                  refine ⟨⟨[_, _, _, _], (h86.only [0, 0, 3, 4, 0, 0, 0, 0] rfl)⟩, ?_⟩
                  refine HJ.run ttok rfl [9] rfl ?_
                  refine HJ.op (i := 10) rfl rfl rfl rfl rfl (op_store ttok 5 rfl h86 rfl rfl rfl rfl rfl rfl rfl) ?_
                  intro _ w63 h87
                  replace h87 : St w0 F0 (boxC b4 31 [.int .i64 a0.1, .slice A17 (x4 ++ ([(gt a0.2.1 x6)] : List (Int))).length c_17, .slice none ([] : List (List UInt8)).length 0, .slice none ([] : List (List UInt8 × Bool × List UInt8)).length 0, .slice none ([] : List (List UInt8 × List UInt8)).length 0] :: _) _ w63 := h87
                  refine ⟨⟨[_, _, _, _], (h87.only [0, 0, 0, 4, 0, 0, 0, 0] rfl)⟩, ?_⟩
                  refine HJ.fin [(1, .pointer (some ⟨b1, 0, none⟩)), (2, .pointer (some ⟨b2, 0, none⟩)), (3, .pointer (some ⟨b3, 0, none⟩)), (6, .pointer (some ⟨b4, 0, none⟩)), (7, .pointer (some ⟨b5, 0, none⟩)), (11, .string ⟨⟨([] : List UInt8)⟩⟩), (12, .int .i64 x6)] rfl rfl ?_
                  exact thenP_intro ⟨A17, c_17, rfl, ((h87.only [0, 0, 1, 1, 1, 1, 1] rfl).rds [0, 1, 2, 3] rfl)⟩
              · rintro env w65 ⟨A15, c_15, rfl, h88⟩
                refine J.region ?_
                refine RJ.run ttok 3 rfl ?_
                refine RJ.fin [(1, .pointer (some ⟨b1, 0, none⟩)), (2, .pointer (some ⟨b2, 0, none⟩)), (3, .pointer (some ⟨b3, 0, none⟩)), (6, .pointer (some ⟨b4, 0, none⟩)), (7, .pointer (some ⟨b5, 0, none⟩)), (11, .string ⟨⟨([] : List UInt8)⟩⟩), (12, .int .i64 (w64 (x6 + 1)))] rfl ?_
                have h89 := ((h88.only [2, 2, 2, 0, 1, 0, 0] rfl).rds [0, 1, 2, 3] rfl)
                exact ⟨k2, by omega, (x4 ++ ([(gt a0.2.1 x6)] : List (Int))), A15, c_15, x5, A14, c_14, (w64 (x6 + 1)), rfl, h89, H⟩
            · replace H := ite_f c7 H
              obtain ⟨⟨p13, p14⟩, H⟩ := guard_t H
              obtain ⟨p15, H⟩ := guard_t H
              refine J.mid (fun env w => ∃ (A18 : Option Addr) (c_18 : Nat), env = [(1, .pointer (some ⟨b1, 0, none⟩)), (2, .pointer (some ⟨b2, 0, none⟩)), (3, .pointer (some ⟨b3, 0, none⟩)), (6, .pointer (some ⟨b4, 0, none⟩)), (7, .pointer (some ⟨b5, 0, none⟩)), (11, .string ⟨⟨([] : List UInt8)⟩⟩), (12, .int .i64 x6)] ∧ St w0 F0 [boxC b5 31 [.int .i64 a0.1, .slice A18 (x5 ++ ([(gt a0.2.1 x6)] : List (Int))).length c_18, .slice none ([] : List (List UInt8)).length 0, .slice none ([] : List (List UInt8 × Bool × List UInt8)).length 0, .slice none ([] : List (List UInt8 × List UInt8)).length 0], ownC 46 (.int .u32) (x5 ++ ([(gt a0.2.1 x6)] : List (Int))) (.slice A18 (x5 ++ ([(gt a0.2.1 x6)] : List (Int))).length c_18), boxC b1 31 [.int .i64 a0.1, .slice A1 a0.2.1.length c_1, .slice A2 a0.2.2.1.length c_2, .slice A3 a0.2.2.2.1.length c_3, .slice A4 a0.2.2.2.2.length c_4], boxC b2 31 [.int .i64 0, .slice none ([] : List (Int)).length 0, .slice none ([] : List (List UInt8)).length 0, .slice none ([] : List (List UInt8 × Bool × List UInt8)).length 0, .slice none ([] : List (List UInt8 × List UInt8)).length 0], boxC b3 31 [.int .i64 0, .slice none ([] : List (Int)).length 0, .slice none ([] : List (List UInt8)).length 0, .slice none ([] : List (List UInt8 × Bool × List UInt8)).length 0, .slice none ([] : List (List UInt8 × List UInt8)).length 0], boxC b4 31 [.int .i64 a0.1, .slice A13 x4.length c_13, .slice none ([] : List (List UInt8)).length 0, .slice none ([] : List (List UInt8 × Bool × List UInt8)).length 0, .slice none ([] : List (List UInt8 × List UInt8)).length 0], ownC 46 (.int .u32) x4 (.slice A13 x4.length c_13)] [rdC 46 (.int .u32) a0.2.1 (.slice A1 a0.2.1.length c_1), rdC 9 .str a0.2.2.1 (.slice A2 a0.2.2.1.length c_2), rdC 48 (.pair .str (.pair .bool .str)) a0.2.2.2.1 (.slice A3 a0.2.2.2.1.length c_3), rdC 50 (.pair .str .str) a0.2.2.2.2 (.slice A4 a0.2.2.2.2.length c_4)] w) ?_ ?_
              · refine J.heldSt mix (h77.only [0, 0, 0, 0] rfl) ?_
                have h93 := h77.drew
                refine HJ.run ttok rfl [0, 2, 4] rfl ?_
                refine HJ.q (i := 3) rfl rfl rfl rfl rfl rfl (q_load_box ttok 0 (fun w e => e) rfl rfl rfl rfl rfl) ?_
                have e10 := elem_A h93.wh (Gives.self 7 rfl) p13 p14
                refine HJ.q (i := 5) rfl rfl rfl rfl rfl rfl (q_index ttok rfl rfl rfl rfl rfl e10 p13 p14) ?_
                refine HJ.q (i := 6) rfl rfl rfl rfl rfl rfl (q_load_elem (f := 0) ttok rfl (fun w e => e) (Gives.self 4 rfl) p13 p14 rfl rfl rfl rfl rfl) ?_
                refine HJ.pick [1, 7] (i := 1) rfl rfl rfl rfl ?_
                refine (hscons ?_ (hscons ?_ hsnil))
                · refine HS.op (i := 1) rfl rfl rfl (OpT.ofq (q_load_box ttok 4 (fun w e => e ▸ h93.wh) rfl rfl rfl rfl rfl)) ?_
                  rintro _ _ ⟨rfl, rfl⟩
                  refine ⟨⟨[_, _, _], (h93.only [4, 4, 4, 0, 0, 0, 0] rfl)⟩, ?_⟩
                  refine HJ.op (i := 7) rfl rfl rfl rfl rfl (op_lit ttok (.int .u32) rfl ([(gt a0.2.1 x6)] : List (Int)) rfl h93 rfl rfl (by decide) rfl rfl rfl rfl rfl rfl rfl) ?_
                  rintro _ w71 ⟨b20, rfl, h94⟩
                  refine ⟨⟨[_, _, _, _], (h94.only [0, 4, 4, 4, 0, 0, 0, 0] rfl)⟩, ?_⟩
                  refine HJ.op (i := 8) rfl rfl rfl rfl rfl (op_append ttok rfl 7 rfl h94 rfl (Gives.of 0 rfl own_rd) rfl rfl rfl rfl rfl rfl (by decide) (by decide) p15) ?_
                  rintro _ w72 ⟨A19, c_19, rfl, h95⟩
                  refine ⟨⟨[_, _, _, _], (h95.only [0, 0, 4, 4, 0, 0, 0, 0] rfl)⟩, ?_⟩
                  refine HJ.run ttok rfl [9] rfl ?_
                  refine HJ.op (i := 10) rfl rfl rfl rfl rfl (op_store ttok 6 rfl h95 rfl rfl rfl rfl rfl rfl rfl) ?_
                  intro _ w73 h96
                  replace h96 : St w0 F0 (boxC b5 31 [.int .i64 a0.1, .slice A19 (x5 ++ ([(gt a0.2.1 x6)] : List (Int))).length c_19, .slice none ([] : List (List UInt8)).length 0, .slice none ([] : List (List UInt8 × Bool × List UInt8)).length 0, .slice none ([] : List (List UInt8 × List UInt8)).length 0] :: _) _ w73 := h96
                  refine ⟨⟨[_, _, _, _], (h96.only [0, 0, 0, 4, 0, 0, 0, 0] rfl)⟩, ?_⟩
                  refine HJ.fin [(1, .pointer (some ⟨b1, 0, none⟩)), (2, .pointer (some ⟨b2, 0, none⟩)), (3, .pointer (some ⟨b3, 0, none⟩)), (6, .pointer (some ⟨b4, 0, none⟩)), (7, .pointer (some ⟨b5, 0, none⟩)), (11, .string ⟨⟨([] : List UInt8)⟩⟩), (12, .int .i64 x6)] rfl rfl ?_
                  exact thenP_intro ⟨A19, c_19, rfl, ((h96.only [0, 0, 1, 1, 1, 1, 1] rfl).rds [0, 1, 2, 3] rfl)⟩
                · refine HS.op (i := 7) rfl rfl rfl (op_lit ttok (.int .u32) rfl ([(gt a0.2.1 x6)] : List (Int)) rfl h93 rfl rfl (by decide) rfl rfl rfl rfl rfl rfl rfl) ?_
                  rintro _ w74 ⟨b21, rfl, h97⟩
                  refine ⟨⟨[_, _, _, _], (h97.only [0, 4, 4, 4, 0, 0, 0, 0] rfl)⟩, ?_⟩
                  refine HJ.op (i := 1) rfl rfl rfl rfl rfl (OpT.ofq (q_load_box ttok 5 (fun w e => e ▸ h97.wh) rfl rfl rfl rfl rfl)) ?_
                  rintro _ _ ⟨rfl, rfl⟩
                  refine ⟨⟨[_, _, _, _], (h97.only [0, 4, 4, 4, 0, 0, 0, 0] rfl)⟩, ?_⟩
                  refine HJ.op (i := 8) rfl rfl rfl rfl rfl (op_append ttok rfl 7 rfl h97 rfl (Gives.of 0 rfl own_rd) rfl rfl rfl rfl rfl rfl (by decide) (by decide) p15) ?_
                  rintro _ w76 ⟨A20, c_20, rfl, h98⟩
                  refine ⟨⟨[_, _, _, _], (h98.only [0, 0, 4, 4, 0, 0, 0, 0] rfl)⟩, ?_⟩
                  refine HJ.run ttok rfl [9] rfl ?_
                  refine HJ.op (i := 10) rfl rfl rfl rfl rfl (op_store ttok 6 rfl h98 rfl rfl rfl rfl rfl rfl rfl) ?_
                  intro _ w77 h99
                  replace h99 : St w0 F0 (boxC b5 31 [.int .i64 a0.1, .slice A20 (x5 ++ ([(gt a0.2.1 x6)] : List (Int))).length c_20, .slice none ([] : List (List UInt8)).length 0, .slice none ([] : List (List UInt8 × Bool × List UInt8)).length 0, .slice none ([] : List (List UInt8 × List UInt8)).length 0] :: _) _ w77 := h99
                  refine ⟨⟨[_, _, _, _], (h99.only [0, 0, 0, 4, 0, 0, 0, 0] rfl)⟩, ?_⟩
                  refine HJ.fin [(1, .pointer (some ⟨b1, 0, none⟩)), (2, .pointer (some ⟨b2, 0, none⟩)), (3, .pointer (some ⟨b3, 0, none⟩)), (6, .pointer (some ⟨b4, 0, none⟩)), (7, .pointer (some ⟨b5, 0, none⟩)), (11, .string ⟨⟨([] : List UInt8)⟩⟩), (12, .int .i64 x6)] rfl rfl ?_
                  exact thenP_intro ⟨A20, c_20, rfl, ((h99.only [0, 0, 1, 1, 1, 1, 1] rfl).rds [0, 1, 2, 3] rfl)⟩
              · rintro env w78 ⟨A18, c_18, rfl, h100⟩
                refine J.region ?_
                refine RJ.run ttok 3 rfl ?_
                refine RJ.fin [(1, .pointer (some ⟨b1, 0, none⟩)), (2, .pointer (some ⟨b2, 0, none⟩)), (3, .pointer (some ⟨b3, 0, none⟩)), (6, .pointer (some ⟨b4, 0, none⟩)), (7, .pointer (some ⟨b5, 0, none⟩)), (11, .string ⟨⟨([] : List UInt8)⟩⟩), (12, .int .i64 (w64 (x6 + 1)))] rfl ?_
                have h101 := ((h100.only [2, 2, 2, 2, 0, 1, 0] rfl).rds [0, 1, 2, 3] rfl)
                exact ⟨k2, by omega, x4, A13, c_13, (x5 ++ ([(gt a0.2.1 x6)] : List (Int))), A18, c_18, (w64 (x6 + 1)), rfl, h101, H⟩
          · replace H := ite_f c6 H
            refine J.exit ?_
            refine J.seq ?_
            refine J.seq ?_
            refine J.region ?_
            refine RJ.run ttok 1 rfl ?_
            refine RJ.fin [(1, .pointer (some ⟨b1, 0, none⟩)), (2, .pointer (some ⟨b2, 0, none⟩)), (3, .pointer (some ⟨b3, 0, none⟩)), (6, .pointer (some ⟨b4, 0, none⟩)), (7, .pointer (some ⟨b5, 0, none⟩)), (11, .string ⟨⟨([] : List UInt8)⟩⟩), (13, .int .i64 0)] rfl ?_
            refine J.block ?_
            have h162 := h77.addNil 9 .str
            have h163 := h162.addNil 9 .str
            have h164 := ((h163.only [2, 2, 2, 2, 2, 2, 1, 1, 0] rfl).rds [0, 1, 2, 3] rfl)
            refine J.loop (fun k env w => ∃ (x7 : List (List UInt8)) (A21 : Option Addr) (c_21 : Nat) (x8 : List (List UInt8)) (A22 : Option Addr) (c_22 : Nat) (x9 : List UInt8) (x10 : Int), env = [(1, .pointer (some ⟨b1, 0, none⟩)), (2, .pointer (some ⟨b2, 0, none⟩)), (3, .pointer (some ⟨b3, 0, none⟩)), (6, .pointer (some ⟨b4, 0, none⟩)), (7, .pointer (some ⟨b5, 0, none⟩)), (11, .string ⟨⟨x9⟩⟩), (13, .int .i64 x10)] ∧ St w0 F0 [boxC b1 31 [.int .i64 a0.1, .slice A1 a0.2.1.length c_1, .slice A2 a0.2.2.1.length c_2, .slice A3 a0.2.2.2.1.length c_3, .slice A4 a0.2.2.2.2.length c_4], boxC b2 31 [.int .i64 0, .slice none ([] : List (Int)).length 0, .slice none ([] : List (List UInt8)).length 0, .slice none ([] : List (List UInt8 × Bool × List UInt8)).length 0, .slice none ([] : List (List UInt8 × List UInt8)).length 0], boxC b3 31 [.int .i64 0, .slice none ([] : List (Int)).length 0, .slice none ([] : List (List UInt8)).length 0, .slice none ([] : List (List UInt8 × Bool × List UInt8)).length 0, .slice none ([] : List (List UInt8 × List UInt8)).length 0], boxC b4 31 [.int .i64 a0.1, .slice A13 x4.length c_13, .slice A21 x7.length c_21, .slice none ([] : List (List UInt8 × Bool × List UInt8)).length 0, .slice none ([] : List (List UInt8 × List UInt8)).length 0], boxC b5 31 [.int .i64 a0.1, .slice A14 x5.length c_14, .slice A22 x8.length c_22, .slice none ([] : List (List UInt8 × Bool × List UInt8)).length 0, .slice none ([] : List (List UInt8 × List UInt8)).length 0], ownC 46 (.int .u32) x4 (.slice A13 x4.length c_13), ownC 9 .str x7 (.slice A21 x7.length c_21), ownC 46 (.int .u32) x5 (.slice A14 x5.length c_14), ownC 9 .str x8 (.slice A22 x8.length c_22)] [rdC 46 (.int .u32) a0.2.1 (.slice A1 a0.2.1.length c_1), rdC 9 .str a0.2.2.1 (.slice A2 a0.2.2.1.length c_2), rdC 48 (.pair .str (.pair .bool .str)) a0.2.2.2.1 (.slice A3 a0.2.2.2.1.length c_3), rdC 50 (.pair .str .str) a0.2.2.2.2 (.slice A4 a0.2.2.2.2.length c_4)] w ∧ sluicegateref14_Halve.l2 k a0 x4 x5 x7 x8 x9 x10 = some r) (k := k2) ⟨([] : List (List UInt8)), none, 0, ([] : List (List UInt8)), none, 0, ([] : List UInt8), 0, rfl, h164, H⟩ ?_
            rintro k3 env w79 ⟨x7, A21, c_21, x8, A22, c_22, x9, x10, rfl, h102, H⟩
            cases k3 with
            | zero => exact nomatch (show none = some r from H)
            | succ k3 =>
              rw [sluicegateref14_Halve.l2] at H
              refine J.seq ?_
              refine J.seq ?_
              refine J.region ?_
              refine RJ.run ttok 2 rfl ?_
              refine RJ.q rfl rfl (q_load_box ttok 0 (fun w e => e ▸ h102.wh) rfl rfl rfl rfl rfl) ?_
              refine RJ.run ttok 2 rfl ?_
              refine RJ.fin [(1, .pointer (some ⟨b1, 0, none⟩)), (2, .pointer (some ⟨b2, 0, none⟩)), (3, .pointer (some ⟨b3, 0, none⟩)), (6, .pointer (some ⟨b4, 0, none⟩)), (7, .pointer (some ⟨b5, 0, none⟩)), (11, .string ⟨⟨x9⟩⟩), (13, .int .i64 x10), (127, .bool (decide (x10 < (a0.2.2.1.length : Int))))] rfl ?_
              refine J.cond rfl (fun c8 => ?_) (fun c8 => ?_)
              · replace H := ite_t c8 H
                refine J.skip ?_
                refine J.seq ?_
                refine J.block ?_
                refine J.seq ?_
                refine J.region ?_
                refine RJ.run ttok 3 rfl ?_
                refine RJ.q rfl rfl (q_load_box ttok 3 (fun w e => e ▸ h102.wh) rfl rfl rfl rfl rfl) ?_
                refine RJ.run ttok 2 rfl ?_
                refine RJ.fin [(1, .pointer (some ⟨b1, 0, none⟩)), (2, .pointer (some ⟨b2, 0, none⟩)), (3, .pointer (some ⟨b3, 0, none⟩)), (6, .pointer (some ⟨b4, 0, none⟩)), (7, .pointer (some ⟨b5, 0, none⟩)), (11, .string ⟨⟨x9⟩⟩), (13, .int .i64 x10), (135, .bool (decide ((w64 (x10 + 1)) < (x4.length : Int))))] rfl ?_
                refine J.cond rfl (fun c9 => ?_) (fun c9 => ?_)
                · replace H := ite_t c9 H
                  obtain ⟨⟨p16, p17⟩, H⟩ := guard_t H
                  obtain ⟨p18, H⟩ := guard_t H
                  refine J.mid (fun env w => ∃ (A23 : Option Addr) (c_23 : Nat), env = [(1, .pointer (some ⟨b1, 0, none⟩)), (2, .pointer (some ⟨b2, 0, none⟩)), (3, .pointer (some ⟨b3, 0, none⟩)), (6, .pointer (some ⟨b4, 0, none⟩)), (7, .pointer (some ⟨b5, 0, none⟩)), (11, .string ⟨⟨x9⟩⟩), (13, .int .i64 x10)] ∧ St w0 F0 [boxC b4 31 [.int .i64 a0.1, .slice A13 x4.length c_13, .slice A23 (x7 ++ ([(gt a0.2.2.1 x10)] : List (List UInt8))).length c_23, .slice none ([] : List (List UInt8 × Bool × List UInt8)).length 0, .slice none ([] : List (List UInt8 × List UInt8)).length 0], ownC 9 .str (x7 ++ ([(gt a0.2.2.1 x10)] : List (List UInt8))) (.slice A23 (x7 ++ ([(gt a0.2.2.1 x10)] : List (List UInt8))).length c_23), boxC b1 31 [.int .i64 a0.1, .slice A1 a0.2.1.length c_1, .slice A2 a0.2.2.1.length c_2, .slice A3 a0.2.2.2.1.length c_3, .slice A4 a0.2.2.2.2.length c_4], boxC b2 31 [.int .i64 0, .slice none ([] : List (Int)).length 0, .slice none ([] : List (List UInt8)).length 0, .slice none ([] : List (List UInt8 × Bool × List UInt8)).length 0, .slice none ([] : List (List UInt8 × List UInt8)).length 0], boxC b3 31 [.int .i64 0, .slice none ([] : List (Int)).length 0, .slice none ([] : List (List UInt8)).length 0, .slice none ([] : List (List UInt8 × Bool × List UInt8)).length 0, .slice none ([] : List (List UInt8 × List UInt8)).length 0], boxC b5 31 [.int .i64 a0.1, .slice A14 x5.length c_14, .slice A22 x8.length c_22, .slice none ([] : List (List UInt8 × Bool × List UInt8)).length 0, .slice none ([] : List (List UInt8 × List UInt8)).length 0], ownC 46 (.int .u32) x4 (.slice A13 x4.length c_13), ownC 46 (.int .u32) x5 (.slice A14 x5.length c_14), ownC 9 .str x8 (.slice A22 x8.length c_22)] [rdC 46 (.int .u32) a0.2.1 (.slice A1 a0.2.1.length c_1), rdC 9 .str a0.2.2.1 (.slice A2 a0.2.2.1.length c_2), rdC 48 (.pair .str (.pair .bool .str)) a0.2.2.2.1 (.slice A3 a0.2.2.2.1.length c_3), rdC 50 (.pair .str .str) a0.2.2.2.2 (.slice A4 a0.2.2.2.2.length c_4)] w) ?_ ?_
                  · refine J.heldSt mix (h102.only [0, 0, 0, 1] rfl) ?_
                    have h106 := h102.drew
                    refine HJ.run ttok rfl [0, 2, 4] rfl ?_
                    refine HJ.q (i := 3) rfl rfl rfl rfl rfl rfl (q_load_box ttok 0 (fun w e => e) rfl rfl rfl rfl rfl) ?_
                    have e12 := elem_A h106.wh (Gives.self 10 rfl) p16 p17
                    refine HJ.q (i := 5) rfl rfl rfl rfl rfl rfl (q_index ttok rfl rfl rfl rfl rfl e12 p16 p17) ?_
                    refine HJ.q (i := 6) rfl rfl rfl rfl rfl rfl (q_load_elem (f := 0) ttok rfl (fun w e => e) (Gives.self 5 rfl) p16 p17 rfl rfl rfl rfl rfl) ?_
                    refine HJ.pick [1, 7] (i := 1) rfl rfl rfl rfl ?_
                    refine (hscons ?_ (hscons ?_ hsnil))
                    · refine HS.op (i := 1) rfl rfl rfl (OpT.ofq (q_load_box ttok 3 (fun w e => e ▸ h106.wh) rfl rfl rfl rfl rfl)) ?_
                      rintro _ _ ⟨rfl, rfl⟩
                      refine ⟨⟨[_, _, _, _, _], (h106.only [3, 4, 4, 4, 4, 0, 0, 0, 0] rfl)⟩, ?_⟩
                      refine HJ.op (i := 7) rfl rfl rfl rfl rfl (op_lit ttok .str rfl ([(gt a0.2.2.1 x10)] : List (List UInt8)) rfl h106 rfl rfl (by decide) rfl rfl rfl rfl rfl rfl rfl) ?_
                      rintro _ w85 ⟨b23, rfl, h107⟩
                      refine ⟨⟨[_, _, _, _, _, _], (h107.only [0, 3, 4, 4, 4, 4, 0, 0, 0, 0] rfl)⟩, ?_⟩
                      refine HJ.op (i := 8) rfl rfl rfl rfl rfl (op_append ttok rfl 7 rfl h107 rfl (Gives.of 0 rfl own_rd) rfl rfl rfl rfl rfl rfl (by decide) (by decide) p18) ?_
                      rintro _ w86 ⟨A24, c_24, rfl, h108⟩
                      refine ⟨⟨[_, _, _, _, _, _], (h108.only [0, 0, 3, 4, 4, 4, 0, 0, 0, 0] rfl)⟩, ?_⟩
                      refine HJ.run ttok rfl [9] rfl ?_
                      refine HJ.op (i := 10) rfl rfl rfl rfl rfl (op_store ttok 5 rfl h108 rfl rfl rfl rfl rfl rfl rfl) ?_
                      intro _ w87 h109
                      replace h109 : St w0 F0 (boxC b4 31 [.int .i64 a0.1, .slice A13 x4.length c_13, .slice A24 (x7 ++ ([(gt a0.2.2.1 x10)] : List (List UInt8))).length c_24, .slice none ([] : List (List UInt8 × Bool × List UInt8)).length 0, .slice none ([] : List (List UInt8 × List UInt8)).length 0] :: _) _ w87 := h109
                      refine ⟨⟨[_, _, _, _, _, _], (h109.only [0, 0, 0, 4, 4, 4, 0, 0, 0, 0] rfl)⟩, ?_⟩
                      refine HJ.fin [(1, .pointer (some ⟨b1, 0, none⟩)), (2, .pointer (some ⟨b2, 0, none⟩)), (3, .pointer (some ⟨b3, 0, none⟩)), (6, .pointer (some ⟨b4, 0, none⟩)), (7, .pointer (some ⟨b5, 0, none⟩)), (11, .string ⟨⟨x9⟩⟩), (13, .int .i64 x10)] rfl rfl ?_
                      exact thenP_intro ⟨A24, c_24, rfl, ((h109.only [0, 0, 1, 1, 1, 1, 1, 1, 1] rfl).rds [0, 1, 2, 3] rfl)⟩
                    · refine HS.op (i := 7) rfl rfl rfl (op_lit ttok .str rfl ([(gt a0.2.2.1 x10)] : List (List UInt8)) rfl h106 rfl rfl (by decide) rfl rfl rfl rfl rfl rfl rfl) ?_
                      rintro _ w88 ⟨b24, rfl, h110⟩
                      refine ⟨⟨[_, _, _, _, _, _], (h110.only [0, 3, 4, 4, 4, 4, 0, 0, 0, 0] rfl)⟩, ?_⟩
                      refine HJ.op (i := 1) rfl rfl rfl rfl rfl (OpT.ofq (q_load_box ttok 4 (fun w e => e ▸ h110.wh) rfl rfl rfl rfl rfl)) ?_
                      rintro _ _ ⟨rfl, rfl⟩
                      refine ⟨⟨[_, _, _, _, _, _], (h110.only [0, 3, 4, 4, 4, 4, 0, 0, 0, 0] rfl)⟩, ?_⟩
                      refine HJ.op (i := 8) rfl rfl rfl rfl rfl (op_append ttok rfl 7 rfl h110 rfl (Gives.of 0 rfl own_rd) rfl rfl rfl rfl rfl rfl (by decide) (by decide) p18) ?_
                      rintro _ w90 ⟨A25, c_25, rfl, h111⟩
                      refine ⟨⟨[_, _, _, _, _, _], (h111.only [0, 0, 3, 4, 4, 4, 0, 0, 0, 0] rfl)⟩, ?_⟩
                      refine HJ.run ttok rfl [9] rfl ?_
                      refine HJ.op (i := 10) rfl rfl rfl rfl rfl (op_store ttok 5 rfl h111 rfl rfl rfl rfl rfl rfl rfl) ?_
                      intro _ w91 h112
                      replace h112 : St w0 F0 (boxC b4 31 [.int .i64 a0.1, .slice A13 x4.length c_13, .slice A25 (x7 ++ ([(gt a0.2.2.1 x10)] : List (List UInt8))).length c_25, .slice none ([] : List (List UInt8 × Bool × List UInt8)).length 0, .slice none ([] : List (List UInt8 × List UInt8)).length 0] :: _) _ w91 := h112
                      refine ⟨⟨[_, _, _, _, _, _], (h112.only [0, 0, 0, 4, 4, 4, 0, 0, 0, 0] rfl)⟩, ?_⟩
                      refine HJ.fin [(1, .pointer (some ⟨b1, 0, none⟩)), (2, .pointer (some ⟨b2, 0, none⟩)), (3, .pointer (some ⟨b3, 0, none⟩)), (6, .pointer (some ⟨b4, 0, none⟩)), (7, .pointer (some ⟨b5, 0, none⟩)), (11, .string ⟨⟨x9⟩⟩), (13, .int .i64 x10)] rfl rfl ?_
                      exact thenP_intro ⟨A25, c_25, rfl, ((h112.only [0, 0, 1, 1, 1, 1, 1, 1, 1] rfl).rds [0, 1, 2, 3] rfl)⟩
                  · rintro env w92 ⟨A23, c_23, rfl, h113⟩
                    refine J.region ?_
                    refine RJ.run ttok 3 rfl ?_
                    refine RJ.fin [(1, .pointer (some ⟨b1, 0, none⟩)), (2, .pointer (some ⟨b2, 0, none⟩)), (3, .pointer (some ⟨b3, 0, none⟩)), (6, .pointer (some ⟨b4, 0, none⟩)), (7, .pointer (some ⟨b5, 0, none⟩)), (11, .string ⟨⟨x9⟩⟩), (13, .int .i64 (w64 (x10 + 1)))] rfl ?_
                    have h114 := ((h113.only [2, 2, 2, 0, 1, 1, 0, 0, 0] rfl).rds [0, 1, 2, 3] rfl)
                    exact ⟨k3, by omega, (x7 ++ ([(gt a0.2.2.1 x10)] : List (List UInt8))), A23, c_23, x8, A22, c_22, x9, (w64 (x10 + 1)), rfl, h114, H⟩
                · replace H := ite_f c9 H
                  refine J.seq ?_
                  refine J.region ?_
                  refine RJ.run ttok 3 rfl ?_
                  refine RJ.q rfl rfl (q_load_box ttok 3 (fun w e => e ▸ h102.wh) rfl rfl rfl rfl rfl) ?_
                  refine RJ.run ttok 2 rfl ?_
                  refine RJ.fin [(1, .pointer (some ⟨b1, 0, none⟩)), (2, .pointer (some ⟨b2, 0, none⟩)), (3, .pointer (some ⟨b3, 0, none⟩)), (6, .pointer (some ⟨b4, 0, none⟩)), (7, .pointer (some ⟨b5, 0, none⟩)), (11, .string ⟨⟨x9⟩⟩), (13, .int .i64 x10), (151, .bool (decide ((w64 (x10 + 1)) = (x4.length : Int))))] rfl ?_
                  refine J.cond rfl (fun c10 => ?_) (fun c10 => ?_)
                  · replace H := ite_t c10 H
                    refine J.region ?_
                    refine RJ.run ttok 1 rfl ?_
                    refine RJ.q rfl rfl (q_load_box ttok 0 (fun w e => e ▸ h102.wh) rfl rfl rfl rfl rfl) ?_
                    refine RJ.run ttok 1 rfl ?_
                    obtain ⟨⟨p19, p20⟩, H⟩ := guard_t H
                    have e13 := elem_A h102.wh (Gives.self 10 rfl) p19 p20
                    refine RJ.q rfl rfl (q_index ttok rfl rfl rfl rfl rfl e13 p19 p20) ?_
                    refine RJ.q rfl rfl (q_load_elem (f := 0) ttok rfl (fun w e => e ▸ h102.wh) (Gives.self 10 rfl) p19 p20 rfl rfl rfl rfl rfl) ?_
                    refine RJ.run ttok 1 rfl ?_
                    refine RJ.fin [(1, .pointer (some ⟨b1, 0, none⟩)), (2, .pointer (some ⟨b2, 0, none⟩)), (3, .pointer (some ⟨b3, 0, none⟩)), (6, .pointer (some ⟨b4, 0, none⟩)), (7, .pointer (some ⟨b5, 0, none⟩)), (11, .string ⟨⟨(gt a0.2.2.1 x10)⟩⟩), (13, .int .i64 x10)] rfl ?_
                    refine J.region ?_
                    refine RJ.run ttok 3 rfl ?_
                    refine RJ.fin [(1, .pointer (some ⟨b1, 0, none⟩)), (2, .pointer (some ⟨b2, 0, none⟩)), (3, .pointer (some ⟨b3, 0, none⟩)), (6, .pointer (some ⟨b4, 0, none⟩)), (7, .pointer (some ⟨b5, 0, none⟩)), (11, .string ⟨⟨(gt a0.2.2.1 x10)⟩⟩), (13, .int .i64 (w64 (x10 + 1)))] rfl ?_
                    have h115 := ((h102.only [0, 0, 0, 0, 0, 0, 0, 0, 0] rfl).rds [0, 1, 2, 3] rfl)
                    exact ⟨k3, by omega, x7, A21, c_21, x8, A22, c_22, (gt a0.2.2.1 x10), (w64 (x10 + 1)), rfl, h115, H⟩
                  · replace H := ite_f c10 H
                    obtain ⟨⟨p21, p22⟩, H⟩ := guard_t H
                    obtain ⟨p23, H⟩ := guard_t H
                    refine J.mid (fun env w => ∃ (A26 : Option Addr) (c_26 : Nat), env = [(1, .pointer (some ⟨b1, 0, none⟩)), (2, .pointer (some ⟨b2, 0, none⟩)), (3, .pointer (some ⟨b3, 0, none⟩)), (6, .pointer (some ⟨b4, 0, none⟩)), (7, .pointer (some ⟨b5, 0, none⟩)), (11, .string ⟨⟨x9⟩⟩), (13, .int .i64 x10)] ∧ St w0 F0 [boxC b5 31 [.int .i64 a0.1, .slice A14 x5.length c_14, .slice A26 (x8 ++ ([(gt a0.2.2.1 x10)] : List (List UInt8))).length c_26, .slice none ([] : List (List UInt8 × Bool × List UInt8)).length 0, .slice none ([] : List (List UInt8 × List UInt8)).length 0], ownC 9 .str (x8 ++ ([(gt a0.2.2.1 x10)] : List (List UInt8))) (.slice A26 (x8 ++ ([(gt a0.2.2.1 x10)] : List (List UInt8))).length c_26), boxC b1 31 [.int .i64 a0.1, .slice A1 a0.2.1.length c_1, .slice A2 a0.2.2.1.length c_2, .slice A3 a0.2.2.2.1.length c_3, .slice A4 a0.2.2.2.2.length c_4], boxC b2 31 [.int .i64 0, .slice none ([] : List (Int)).length 0, .slice none ([] : List (List UInt8)).length 0, .slice none ([] : List (List UInt8 × Bool × List UInt8)).length 0, .slice none ([] : List (List UInt8 × List UInt8)).length 0], boxC b3 31 [.int .i64 0, .slice none ([] : List (Int)).length 0, .slice none ([] : List (List UInt8)).length 0, .slice none ([] : List (List UInt8 × Bool × List UInt8)).length 0, .slice none ([] : List (List UInt8 × List UInt8)).length 0], boxC b4 31 [.int .i64 a0.1, .slice A13 x4.length c_13, .slice A21 x7.length c_21, .slice none ([] : List (List UInt8 × Bool × List UInt8)).length 0, .slice none ([] : List (List UInt8 × List UInt8)).length 0], ownC 46 (.int .u32) x4 (.slice A13 x4.length c_13), ownC 9 .str x7 (.slice A21 x7.length c_21), ownC 46 (.int .u32) x5 (.slice A14 x5.length c_14)] [rdC 46 (.int .u32) a0.2.1 (.slice A1 a0.2.1.length c_1), rdC 9 .str a0.2.2.1 (.slice A2 a0.2.2.1.length c_2), rdC 48 (.pair .str (.pair .bool .str)) a0.2.2.2.1 (.slice A3 a0.2.2.2.1.length c_3), rdC 50 (.pair .str .str) a0.2.2.2.2 (.slice A4 a0.2.2.2.2.length c_4)] w) ?_ ?_
                    · refine J.heldSt mix (h102.only [0, 0, 0, 0] rfl) ?_
                      have h119 := h102.drew
                      refine HJ.run ttok rfl [0, 2, 4] rfl ?_
                      refine HJ.q (i := 3) rfl rfl rfl rfl rfl rfl (q_load_box ttok 0 (fun w e => e) rfl rfl rfl rfl rfl) ?_
                      have e15 := elem_A h119.wh (Gives.self 10 rfl) p21 p22
                      refine HJ.q (i := 5) rfl rfl rfl rfl rfl rfl (q_index ttok rfl rfl rfl rfl rfl e15 p21 p22) ?_
                      refine HJ.q (i := 6) rfl rfl rfl rfl rfl rfl (q_load_elem (f := 0) ttok rfl (fun w e => e) (Gives.self 5 rfl) p21 p22 rfl rfl rfl rfl rfl) ?_
                      refine HJ.pick [1, 7] (i := 1) rfl rfl rfl rfl ?_
                      refine (hscons ?_ (hscons ?_ hsnil))
                      · refine HS.op (i := 1) rfl rfl rfl (OpT.ofq (q_load_box ttok 4 (fun w e => e ▸ h119.wh) rfl rfl rfl rfl rfl)) ?_
                        rintro _ _ ⟨rfl, rfl⟩
                        refine ⟨⟨[_, _, _, _, _], (h119.only [4, 4, 4, 4, 4, 0, 0, 0, 0] rfl)⟩, ?_⟩
                        refine HJ.op (i := 7) rfl rfl rfl rfl rfl (op_lit ttok .str rfl ([(gt a0.2.2.1 x10)] : List (List UInt8)) rfl h119 rfl rfl (by decide) rfl rfl rfl rfl rfl rfl rfl) ?_
                        rintro _ w98 ⟨b26, rfl, h120⟩
                        refine ⟨⟨[_, _, _, _, _, _], (h120.only [0, 4, 4, 4, 4, 4, 0, 0, 0, 0] rfl)⟩, ?_⟩
                        refine HJ.op (i := 8) rfl rfl rfl rfl rfl (op_append ttok rfl 9 rfl h120 rfl (Gives.of 0 rfl own_rd) rfl rfl rfl rfl rfl rfl (by decide) (by decide) p23) ?_
                        rintro _ w99 ⟨A27, c_27, rfl, h121⟩
                        refine ⟨⟨[_, _, _, _, _, _], (h121.only [0, 0, 4, 4, 4, 4, 0, 0, 0, 0] rfl)⟩, ?_⟩
                        refine HJ.run ttok rfl [9] rfl ?_
                        refine HJ.op (i := 10) rfl rfl rfl rfl rfl (op_store ttok 6 rfl h121 rfl rfl rfl rfl rfl rfl rfl) ?_
                        intro _ w100 h122
                        replace h122 : St w0 F0 (boxC b5 31 [.int .i64 a0.1, .slice A14 x5.length c_14, .slice A27 (x8 ++ ([(gt a0.2.2.1 x10)] : List (List UInt8))).length c_27, .slice none ([] : List (List UInt8 × Bool × List UInt8)).length 0, .slice none ([] : List (List UInt8 × List UInt8)).length 0] :: _) _ w100 := h122
                        refine ⟨⟨[_, _, _, _, _, _], (h122.only [0, 0, 0, 4, 4, 4, 0, 0, 0, 0] rfl)⟩, ?_⟩
                        refine HJ.fin [(1, .pointer (some ⟨b1, 0, none⟩)), (2, .pointer (some ⟨b2, 0, none⟩)), (3, .pointer (some ⟨b3, 0, none⟩)), (6, .pointer (some ⟨b4, 0, none⟩)), (7, .pointer (some ⟨b5, 0, none⟩)), (11, .string ⟨⟨x9⟩⟩), (13, .int .i64 x10)] rfl rfl ?_
                        exact thenP_intro ⟨A27, c_27, rfl, ((h122.only [0, 0, 1, 1, 1, 1, 1, 1, 1] rfl).rds [0, 1, 2, 3] rfl)⟩
                      · refine HS.op (i := 7) rfl rfl rfl (op_lit ttok .str rfl ([(gt a0.2.2.1 x10)] : List (List UInt8)) rfl h119 rfl rfl (by decide) rfl rfl rfl rfl rfl rfl rfl) ?_
                        rintro _ w101 ⟨b27, rfl, h123⟩
                        refine ⟨⟨[_, _, _, _, _, _], (h123.only [0, 4, 4, 4, 4, 4, 0, 0, 0, 0] rfl)⟩, ?_⟩
                        refine HJ.op (i := 1) rfl rfl rfl rfl rfl (OpT.ofq (q_load_box ttok 5 (fun w e => e ▸ h123.wh) rfl rfl rfl rfl rfl)) ?_
                        rintro _ _ ⟨rfl, rfl⟩
                        refine ⟨⟨[_, _, _, _, _, _], (h123.only [0, 4, 4, 4, 4, 4, 0, 0, 0, 0] rfl)⟩, ?_⟩
                        refine HJ.op (i := 8) rfl rfl rfl rfl rfl (op_append ttok rfl 9 rfl h123 rfl (Gives.of 0 rfl own_rd) rfl rfl rfl rfl rfl rfl (by decide) (by decide) p23) ?_
                        rintro _ w103 ⟨A28, c_28, rfl, h124⟩
                        refine ⟨⟨[_, _, _, _, _, _], (h124.only [0, 0, 4, 4, 4, 4, 0, 0, 0, 0] rfl)⟩, ?_⟩
                        refine HJ.run ttok rfl [9] rfl ?_
                        refine HJ.op (i := 10) rfl rfl rfl rfl rfl (op_store ttok 6 rfl h124 rfl rfl rfl rfl rfl rfl rfl) ?_
                        intro _ w104 h125
                        replace h125 : St w0 F0 (boxC b5 31 [.int .i64 a0.1, .slice A14 x5.length c_14, .slice A28 (x8 ++ ([(gt a0.2.2.1 x10)] : List (List UInt8))).length c_28, .slice none ([] : List (List UInt8 × Bool × List UInt8)).length 0, .slice none ([] : List (List UInt8 × List UInt8)).length 0] :: _) _ w104 := h125
                        refine ⟨⟨[_, _, _, _, _, _], (h125.only [0, 0, 0, 4, 4, 4, 0, 0, 0, 0] rfl)⟩, ?_⟩
                        refine HJ.fin [(1, .pointer (some ⟨b1, 0, none⟩)), (2, .pointer (some ⟨b2, 0, none⟩)), (3, .pointer (some ⟨b3, 0, none⟩)), (6, .pointer (some ⟨b4, 0, none⟩)), (7, .pointer (some ⟨b5, 0, none⟩)), (11, .string ⟨⟨x9⟩⟩), (13, .int .i64 x10)] rfl rfl ?_
                        exact thenP_intro ⟨A28, c_28, rfl, ((h125.only [0, 0, 1, 1, 1, 1, 1, 1, 1] rfl).rds [0, 1, 2, 3] rfl)⟩
                    · rintro env w105 ⟨A26, c_26, rfl, h126⟩
                      refine J.region ?_
                      refine RJ.run ttok 3 rfl ?_
                      refine RJ.fin [(1, .pointer (some ⟨b1, 0, none⟩)), (2, .pointer (some ⟨b2, 0, none⟩)), (3, .pointer (some ⟨b3, 0, none⟩)), (6, .pointer (some ⟨b4, 0, none⟩)), (7, .pointer (some ⟨b5, 0, none⟩)), (11, .string ⟨⟨x9⟩⟩), (13, .int .i64 (w64 (x10 + 1)))] rfl ?_
                      have h127 := ((h126.only [2, 2, 2, 2, 0, 1, 1, 1, 0] rfl).rds [0, 1, 2, 3] rfl)
                      exact ⟨k3, by omega, x7, A21, c_21, (x8 ++ ([(gt a0.2.2.1 x10)] : List (List UInt8))), A26, c_26, x9, (w64 (x10 + 1)), rfl, h127, H⟩
              · replace H := ite_f c8 H
                refine J.exit ?_
                refine J.seq ?_
                refine J.seq ?_
                refine J.region ?_
                refine RJ.run ttok 1 rfl ?_
                refine RJ.fin [(1, .pointer (some ⟨b1, 0, none⟩)), (2, .pointer (some ⟨b2, 0, none⟩)), (3, .pointer (some ⟨b3, 0, none⟩)), (6, .pointer (some ⟨b4, 0, none⟩)), (7, .pointer (some ⟨b5, 0, none⟩)), (11, .string ⟨⟨x9⟩⟩), (14, .int .i64 0)] rfl ?_
                refine J.block ?_
                have h159 := h102.addNil 48 (.pair .str (.pair .bool .str))
                have h160 := h159.addNil 48 (.pair .str (.pair .bool .str))
                have h161 := ((h160.only [2, 2, 2, 2, 2, 2, 2, 1, 1, 1, 0] rfl).rds [0, 1, 2, 3] rfl)
                refine J.loop (fun k env w => ∃ (x11 : List (List UInt8 × Bool × List UInt8)) (A29 : Option Addr) (c_29 : Nat) (x12 : List (List UInt8 × Bool × List UInt8)) (A30 : Option Addr) (c_30 : Nat) (x13 : Int), env = [(1, .pointer (some ⟨b1, 0, none⟩)), (2, .pointer (some ⟨b2, 0, none⟩)), (3, .pointer (some ⟨b3, 0, none⟩)), (6, .pointer (some ⟨b4, 0, none⟩)), (7, .pointer (some ⟨b5, 0, none⟩)), (11, .string ⟨⟨x9⟩⟩), (14, .int .i64 x13)] ∧ St w0 F0 [boxC b1 31 [.int .i64 a0.1, .slice A1 a0.2.1.length c_1, .slice A2 a0.2.2.1.length c_2, .slice A3 a0.2.2.2.1.length c_3, .slice A4 a0.2.2.2.2.length c_4], boxC b2 31 [.int .i64 0, .slice none ([] : List (Int)).length 0, .slice none ([] : List (List UInt8)).length 0, .slice none ([] : List (List UInt8 × Bool × List UInt8)).length 0, .slice none ([] : List (List UInt8 × List UInt8)).length 0], boxC b3 31 [.int .i64 0, .slice none ([] : List (Int)).length 0, .slice none ([] : List (List UInt8)).length 0, .slice none ([] : List (List UInt8 × Bool × List UInt8)).length 0, .slice none ([] : List (List UInt8 × List UInt8)).length 0], boxC b4 31 [.int .i64 a0.1, .slice A13 x4.length c_13, .slice A21 x7.length c_21, .slice A29 x11.length c_29, .slice none ([] : List (List UInt8 × List UInt8)).length 0], boxC b5 31 [.int .i64 a0.1, .slice A14 x5.length c_14, .slice A22 x8.length c_22, .slice A30 x12.length c_30, .slice none ([] : List (List UInt8 × List UInt8)).length 0], ownC 46 (.int .u32) x4 (.slice A13 x4.length c_13), ownC 9 .str x7 (.slice A21 x7.length c_21), ownC 48 (.pair .str (.pair .bool .str)) x11 (.slice A29 x11.length c_29), ownC 46 (.int .u32) x5 (.slice A14 x5.length c_14), ownC 9 .str x8 (.slice A22 x8.length c_22), ownC 48 (.pair .str (.pair .bool .str)) x12 (.slice A30 x12.length c_30)] [rdC 46 (.int .u32) a0.2.1 (.slice A1 a0.2.1.length c_1), rdC 9 .str a0.2.2.1 (.slice A2 a0.2.2.1.length c_2), rdC 48 (.pair .str (.pair .bool .str)) a0.2.2.2.1 (.slice A3 a0.2.2.2.1.length c_3), rdC 50 (.pair .str .str) a0.2.2.2.2 (.slice A4 a0.2.2.2.2.length c_4)] w ∧ sluicegateref14_Halve.l3 k a0 x4 x5 x7 x8 x9 x11 x12 x13 = some r) (k := k3) ⟨([] : List (List UInt8 × Bool × List UInt8)), none, 0, ([] : List (List UInt8 × Bool × List UInt8)), none, 0, 0, rfl, h161, H⟩ ?_
                rintro k4 env w106 ⟨x11, A29, c_29, x12, A30, c_30, x13, rfl, h128, H⟩
                cases k4 with
                | zero => exact nomatch (show none = some r from H)
                | succ k4 =>
                  rw [sluicegateref14_Halve.l3] at H
                  refine J.seq ?_
                  refine J.seq ?_
                  refine J.region ?_
                  refine RJ.run ttok 2 rfl ?_
                  refine RJ.q rfl rfl (q_load_box ttok 0 (fun w e => e ▸ h128.wh) rfl rfl rfl rfl rfl) ?_
                  refine RJ.run ttok 2 rfl ?_
                  refine RJ.fin [(1, .pointer (some ⟨b1, 0, none⟩)), (2, .pointer (some ⟨b2, 0, none⟩)), (3, .pointer (some ⟨b3, 0, none⟩)), (6, .pointer (some ⟨b4, 0, none⟩)), (7, .pointer (some ⟨b5, 0, none⟩)), (11, .string ⟨⟨x9⟩⟩), (14, .int .i64 x13), (171, .bool (decide (x13 < (a0.2.2.2.1.length : Int))))] rfl ?_
                  refine J.cond rfl (fun c11 => ?_) (fun c11 => ?_)
                  · replace H := ite_t c11 H
                    refine J.skip ?_
                    refine J.seq ?_
                    refine J.block ?_
                    refine J.seq ?_
                    refine J.region ?_
                    refine RJ.run ttok 1 rfl ?_
                    refine RJ.q rfl rfl (q_load_box ttok 0 (fun w e => e ▸ h128.wh) rfl rfl rfl rfl rfl) ?_
                    refine RJ.run ttok 1 rfl ?_
                    obtain ⟨⟨p24, p25⟩, H⟩ := guard_t H
                    have e16 := elem_A h128.wh (Gives.self 13 rfl) p24 p25
                    refine RJ.q rfl rfl (q_index ttok rfl rfl rfl rfl rfl e16 p24 p25) ?_
                    refine RJ.run ttok 1 rfl ?_
                    refine RJ.q rfl rfl (q_load_elem (f := 0) ttok rfl (fun w e => e ▸ h128.wh) (Gives.self 13 rfl) p24 p25 rfl rfl rfl rfl rfl) ?_
                    refine RJ.run ttok 1 rfl ?_
                    obtain ⟨r2, q2, H⟩ := bind_t H
                    refine RJ.op rfl rfl (op_call [] (sluicegateref01_Compare.spec q2) rfl rfl rfl h128 rfl gnil) ?_
                    rintro _ w107 ⟨_, ⟨rfl, rfl⟩, h129⟩
                    refine RJ.run ttok 1 rfl ?_
                    refine RJ.fin [(1, .pointer (some ⟨b1, 0, none⟩)), (2, .pointer (some ⟨b2, 0, none⟩)), (3, .pointer (some ⟨b3, 0, none⟩)), (6, .pointer (some ⟨b4, 0, none⟩)), (7, .pointer (some ⟨b5, 0, none⟩)), (11, .string ⟨⟨x9⟩⟩), (14, .int .i64 x13), (182, .bool (decide (r2 < 0)))] rfl ?_
                    refine J.cond rfl (fun c12 => ?_) (fun c12 => ?_)
                    · replace H := ite_t c12 H
                      obtain ⟨p26, H⟩ := guard_t H
                      refine J.mid (fun env w => ∃ (A31 : Option Addr) (c_31 : Nat), env = [(1, .pointer (some ⟨b1, 0, none⟩)), (2, .pointer (some ⟨b2, 0, none⟩)), (3, .pointer (some ⟨b3, 0, none⟩)), (6, .pointer (some ⟨b4, 0, none⟩)), (7, .pointer (some ⟨b5, 0, none⟩)), (11, .string ⟨⟨x9⟩⟩), (14, .int .i64 x13)] ∧ St w0 F0 [boxC b4 31 [.int .i64 a0.1, .slice A13 x4.length c_13, .slice A21 x7.length c_21, .slice A31 (x11 ++ ([((gt a0.2.2.2.1 x13).1, (gt a0.2.2.2.1 x13).2.1, (gt a0.2.2.2.1 x13).2.2)] : List (List UInt8 × Bool × List UInt8))).length c_31, .slice none ([] : List (List UInt8 × List UInt8)).length 0], ownC 48 (.pair .str (.pair .bool .str)) (x11 ++ ([((gt a0.2.2.2.1 x13).1, (gt a0.2.2.2.1 x13).2.1, (gt a0.2.2.2.1 x13).2.2)] : List (List UInt8 × Bool × List UInt8))) (.slice A31 (x11 ++ ([((gt a0.2.2.2.1 x13).1, (gt a0.2.2.2.1 x13).2.1, (gt a0.2.2.2.1 x13).2.2)] : List (List UInt8 × Bool × List UInt8))).length c_31), boxC b1 31 [.int .i64 a0.1, .slice A1 a0.2.1.length c_1, .slice A2 a0.2.2.1.length c_2, .slice A3 a0.2.2.2.1.length c_3, .slice A4 a0.2.2.2.2.length c_4], boxC b2 31 [.int .i64 0, .slice none ([] : List (Int)).length 0, .slice none ([] : List (List UInt8)).length 0, .slice none ([] : List (List UInt8 × Bool × List UInt8)).length 0, .slice none ([] : List (List UInt8 × List UInt8)).length 0], boxC b3 31 [.int .i64 0, .slice none ([] : List (Int)).length 0, .slice none ([] : List (List UInt8)).length 0, .slice none ([] : List (List UInt8 × Bool × List UInt8)).length 0, .slice none ([] : List (List UInt8 × List UInt8)).length 0], boxC b5 31 [.int .i64 a0.1, .slice A14 x5.length c_14, .slice A22 x8.length c_22, .slice A30 x12.length c_30, .slice none ([] : List (List UInt8 × List UInt8)).length 0], ownC 46 (.int .u32) x4 (.slice A13 x4.length c_13), ownC 9 .str x7 (.slice A21 x7.length c_21), ownC 46 (.int .u32) x5 (.slice A14 x5.length c_14), ownC 9 .str x8 (.slice A22 x8.length c_22), ownC 48 (.pair .str (.pair .bool .str)) x12 (.slice A30 x12.length c_30)] [rdC 46 (.int .u32) a0.2.1 (.slice A1 a0.2.1.length c_1), rdC 9 .str a0.2.2.1 (.slice A2 a0.2.2.1.length c_2), rdC 48 (.pair .str (.pair .bool .str)) a0.2.2.2.1 (.slice A3 a0.2.2.2.1.length c_3), rdC 50 (.pair .str .str) a0.2.2.2.2 (.slice A4 a0.2.2.2.2.length c_4)] w) ?_ ?_
                      · refine J.heldSt mix (h129.only [0, 0, 0, 1] rfl) ?_
                        have h133 := h129.drew
                        refine HJ.run ttok rfl [0, 2, 4] rfl ?_
                        refine HJ.q (i := 3) rfl rfl rfl rfl rfl rfl (q_load_box ttok 0 (fun w e => e) rfl rfl rfl rfl rfl) ?_
                        refine HJ.q (i := 5) rfl rfl rfl rfl rfl rfl (q_index ttok rfl rfl rfl rfl rfl e16 p24 p25) ?_
                        refine HJ.q (i := 6) rfl rfl rfl rfl rfl rfl (q_load_elem (f := 0) ttok rfl (fun w e => e) (Gives.self 6 rfl) p24 p25 rfl rfl rfl rfl rfl) ?_
                        refine HJ.pick [1, 7] (i := 1) rfl rfl rfl rfl ?_
                        refine (hscons ?_ (hscons ?_ hsnil))
                        · refine HS.op (i := 1) rfl rfl rfl (OpT.ofq (q_load_box ttok 3 (fun w e => e ▸ h133.wh) rfl rfl rfl rfl rfl)) ?_
                          rintro _ _ ⟨rfl, rfl⟩
                          refine ⟨⟨[_, _, _, _, _, _, _], (h133.only [3, 4, 4, 4, 4, 4, 4, 0, 0, 0, 0] rfl)⟩, ?_⟩
                          refine HJ.op (i := 7) rfl rfl rfl rfl rfl (op_lit ttok (.pair .str (.pair .bool .str)) rfl ([((gt a0.2.2.2.1 x13).1, (gt a0.2.2.2.1 x13).2.1, (gt a0.2.2.2.1 x13).2.2)] : List (List UInt8 × Bool × List UInt8)) rfl h133 rfl rfl (by decide) rfl rfl rfl rfl rfl rfl rfl) ?_
                          rintro _ w113 ⟨b29, rfl, h134⟩
                          refine ⟨⟨[_, _, _, _, _, _, _, _], (h134.only [0, 3, 4, 4, 4, 4, 4, 4, 0, 0, 0, 0] rfl)⟩, ?_⟩
                          refine HJ.op (i := 8) rfl rfl rfl rfl rfl (op_append ttok rfl 8 rfl h134 rfl (Gives.of 0 rfl own_rd) rfl rfl rfl rfl rfl rfl (by decide) (by decide) p26) ?_
                          rintro _ w114 ⟨A32, c_32, rfl, h135⟩
                          refine ⟨⟨[_, _, _, _, _, _, _, _], (h135.only [0, 0, 3, 4, 4, 4, 4, 4, 0, 0, 0, 0] rfl)⟩, ?_⟩
                          refine HJ.run ttok rfl [9] rfl ?_
                          refine HJ.op (i := 10) rfl rfl rfl rfl rfl (op_store ttok 5 rfl h135 rfl rfl rfl rfl rfl rfl rfl) ?_
                          intro _ w115 h136
                          replace h136 : St w0 F0 (boxC b4 31 [.int .i64 a0.1, .slice A13 x4.length c_13, .slice A21 x7.length c_21, .slice A32 (x11 ++ ([((gt a0.2.2.2.1 x13).1, (gt a0.2.2.2.1 x13).2.1, (gt a0.2.2.2.1 x13).2.2)] : List (List UInt8 × Bool × List UInt8))).length c_32, .slice none ([] : List (List UInt8 × List UInt8)).length 0] :: _) _ w115 := h136
                          refine ⟨⟨[_, _, _, _, _, _, _, _], (h136.only [0, 0, 0, 4, 4, 4, 4, 4, 0, 0, 0, 0] rfl)⟩, ?_⟩
                          refine HJ.fin [(1, .pointer (some ⟨b1, 0, none⟩)), (2, .pointer (some ⟨b2, 0, none⟩)), (3, .pointer (some ⟨b3, 0, none⟩)), (6, .pointer (some ⟨b4, 0, none⟩)), (7, .pointer (some ⟨b5, 0, none⟩)), (11, .string ⟨⟨x9⟩⟩), (14, .int .i64 x13)] rfl rfl ?_
                          exact thenP_intro ⟨A32, c_32, rfl, ((h136.only [0, 0, 1, 1, 1, 1, 1, 1, 1, 1, 1] rfl).rds [0, 1, 2, 3] rfl)⟩
                        · refine HS.op (i := 7) rfl rfl rfl (op_lit ttok (.pair .str (.pair .bool .str)) rfl ([((gt a0.2.2.2.1 x13).1, (gt a0.2.2.2.1 x13).2.1, (gt a0.2.2.2.1 x13).2.2)] : List (List UInt8 × Bool × List UInt8)) rfl h133 rfl rfl (by decide) rfl rfl rfl rfl rfl rfl rfl) ?_
                          rintro _ w116 ⟨b30, rfl, h137⟩
                          refine ⟨⟨[_, _, _, _, _, _, _, _], (h137.only [0, 3, 4, 4, 4, 4, 4, 4, 0, 0, 0, 0] rfl)⟩, ?_⟩
                          refine HJ.op (i := 1) rfl rfl rfl rfl rfl (OpT.ofq (q_load_box ttok 4 (fun w e => e ▸ h137.wh) rfl rfl rfl rfl rfl)) ?_
                          rintro _ _ ⟨rfl, rfl⟩
                          refine ⟨⟨[_, _, _, _, _, _, _, _], (h137.only [0, 3, 4, 4, 4, 4, 4, 4, 0, 0, 0, 0] rfl)⟩, ?_⟩
                          refine HJ.op (i := 8) rfl rfl rfl rfl rfl (op_append ttok rfl 8 rfl h137 rfl (Gives.of 0 rfl own_rd) rfl rfl rfl rfl rfl rfl (by decide) (by decide) p26) ?_
                          rintro _ w118 ⟨A33, c_33, rfl, h138⟩
                          refine ⟨⟨[_, _, _, _, _, _, _, _], (h138.only [0, 0, 3, 4, 4, 4, 4, 4, 0, 0, 0, 0] rfl)⟩, ?_⟩
                          refine HJ.run ttok rfl [9] rfl ?_
                          refine HJ.op (i := 10) rfl rfl rfl rfl rfl (op_store ttok 5 rfl h138 rfl rfl rfl rfl rfl rfl rfl) ?_
                          intro _ w119 h139
                          replace h139 : St w0 F0 (boxC b4 31 [.int .i64 a0.1, .slice A13 x4.length c_13, .slice A21 x7.length c_21, .slice A33 (x11 ++ ([((gt a0.2.2.2.1 x13).1, (gt a0.2.2.2.1 x13).2.1, (gt a0.2.2.2.1 x13).2.2)] : List (List UInt8 × Bool × List UInt8))).length c_33, .slice none ([] : List (List UInt8 × List UInt8)).length 0] :: _) _ w119 := h139
                          refine ⟨⟨[_, _, _, _, _, _, _, _], (h139.only [0, 0, 0, 4, 4, 4, 4, 4, 0, 0, 0, 0] rfl)⟩, ?_⟩
                          refine HJ.fin [(1, .pointer (some ⟨b1, 0, none⟩)), (2, .pointer (some ⟨b2, 0, none⟩)), (3, .pointer (some ⟨b3, 0, none⟩)), (6, .pointer (some ⟨b4, 0, none⟩)), (7, .pointer (some ⟨b5, 0, none⟩)), (11, .string ⟨⟨x9⟩⟩), (14, .int .i64 x13)] rfl rfl ?_
                          exact thenP_intro ⟨A33, c_33, rfl, ((h139.only [0, 0, 1, 1, 1, 1, 1, 1, 1, 1, 1] rfl).rds [0, 1, 2, 3] rfl)⟩
                      · rintro env w120 ⟨A31, c_31, rfl, h140⟩
                        refine J.region ?_
                        refine RJ.run ttok 3 rfl ?_
                        refine RJ.fin [(1, .pointer (some ⟨b1, 0, none⟩)), (2, .pointer (some ⟨b2, 0, none⟩)), (3, .pointer (some ⟨b3, 0, none⟩)), (6, .pointer (some ⟨b4, 0, none⟩)), (7, .pointer (some ⟨b5, 0, none⟩)), (11, .string ⟨⟨x9⟩⟩), (14, .int .i64 (w64 (x13 + 1)))] rfl ?_
                        have h141 := ((h140.only [2, 2, 2, 0, 1, 1, 1, 0, 0, 0, 0] rfl).rds [0, 1, 2, 3] rfl)
                        exact ⟨k4, by omega, (x11 ++ ([((gt a0.2.2.2.1 x13).1, (gt a0.2.2.2.1 x13).2.1, (gt a0.2.2.2.1 x13).2.2)] : List (List UInt8 × Bool × List UInt8))), A31, c_31, x12, A30, c_30, (w64 (x13 + 1)), rfl, h141, H⟩
                    · replace H := ite_f c12 H
                      obtain ⟨p27, H⟩ := guard_t H
                      refine J.mid (fun env w => ∃ (A34 : Option Addr) (c_34 : Nat), env = [(1, .pointer (some ⟨b1, 0, none⟩)), (2, .pointer (some ⟨b2, 0, none⟩)), (3, .pointer (some ⟨b3, 0, none⟩)), (6, .pointer (some ⟨b4, 0, none⟩)), (7, .pointer (some ⟨b5, 0, none⟩)), (11, .string ⟨⟨x9⟩⟩), (14, .int .i64 x13)] ∧ St w0 F0 [boxC b5 31 [.int .i64 a0.1, .slice A14 x5.length c_14, .slice A22 x8.length c_22, .slice A34 (x12 ++ ([((gt a0.2.2.2.1 x13).1, (gt a0.2.2.2.1 x13).2.1, (gt a0.2.2.2.1 x13).2.2)] : List (List UInt8 × Bool × List UInt8))).length c_34, .slice none ([] : List (List UInt8 × List UInt8)).length 0], ownC 48 (.pair .str (.pair .bool .str)) (x12 ++ ([((gt a0.2.2.2.1 x13).1, (gt a0.2.2.2.1 x13).2.1, (gt a0.2.2.2.1 x13).2.2)] : List (List UInt8 × Bool × List UInt8))) (.slice A34 (x12 ++ ([((gt a0.2.2.2.1 x13).1, (gt a0.2.2.2.1 x13).2.1, (gt a0.2.2.2.1 x13).2.2)] : List (List UInt8 × Bool × List UInt8))).length c_34), boxC b1 31 [.int .i64 a0.1, .slice A1 a0.2.1.length c_1, .slice A2 a0.2.2.1.length c_2, .slice A3 a0.2.2.2.1.length c_3, .slice A4 a0.2.2.2.2.length c_4], boxC b2 31 [.int .i64 0, .slice none ([] : List (Int)).length 0, .slice none ([] : List (List UInt8)).length 0, .slice none ([] : List (List UInt8 × Bool × List UInt8)).length 0, .slice none ([] : List (List UInt8 × List UInt8)).length 0], boxC b3 31 [.int .i64 0, .slice none ([] : List (Int)).length 0, .slice none ([] : List (List UInt8)).length 0, .slice none ([] : List (List UInt8 × Bool × List UInt8)).length 0, .slice none ([] : List (List UInt8 × List UInt8)).length 0], boxC b4 31 [.int .i64 a0.1, .slice A13 x4.length c_13, .slice A21 x7.length c_21, .slice A29 x11.length c_29, .slice none ([] : List (List UInt8 × List UInt8)).length 0], ownC 46 (.int .u32) x4 (.slice A13 x4.length c_13), ownC 9 .str x7 (.slice A21 x7.length c_21), ownC 48 (.pair .str (.pair .bool .str)) x11 (.slice A29 x11.length c_29), ownC 46 (.int .u32) x5 (.slice A14 x5.length c_14), ownC 9 .str x8 (.slice A22 x8.length c_22)] [rdC 46 (.int .u32) a0.2.1 (.slice A1 a0.2.1.length c_1), rdC 9 .str a0.2.2.1 (.slice A2 a0.2.2.1.length c_2), rdC 48 (.pair .str (.pair .bool .str)) a0.2.2.2.1 (.slice A3 a0.2.2.2.1.length c_3), rdC 50 (.pair .str .str) a0.2.2.2.2 (.slice A4 a0.2.2.2.2.length c_4)] w) ?_ ?_
                      · refine J.heldSt mix (h129.only [0, 0, 0, 0] rfl) ?_
                        have h145 := h129.drew
                        refine HJ.run ttok rfl [0, 2, 4] rfl ?_
                        refine HJ.q (i := 3) rfl rfl rfl rfl rfl rfl (q_load_box ttok 0 (fun w e => e) rfl rfl rfl rfl rfl) ?_
                        refine HJ.q (i := 5) rfl rfl rfl rfl rfl rfl (q_index ttok rfl rfl rfl rfl rfl e16 p24 p25) ?_
                        refine HJ.q (i := 6) rfl rfl rfl rfl rfl rfl (q_load_elem (f := 0) ttok rfl (fun w e => e) (Gives.self 6 rfl) p24 p25 rfl rfl rfl rfl rfl) ?_
                        refine HJ.pick [1, 7] (i := 1) rfl rfl rfl rfl ?_
                        refine (hscons ?_ (hscons ?_ hsnil))
                        · refine HS.op (i := 1) rfl rfl rfl (OpT.ofq (q_load_box ttok 4 (fun w e => e ▸ h145.wh) rfl rfl rfl rfl rfl)) ?_
                          rintro _ _ ⟨rfl, rfl⟩
                          refine ⟨⟨[_, _, _, _, _, _, _], (h145.only [4, 4, 4, 4, 4, 4, 4, 0, 0, 0, 0] rfl)⟩, ?_⟩
                          refine HJ.op (i := 7) rfl rfl rfl rfl rfl (op_lit ttok (.pair .str (.pair .bool .str)) rfl ([((gt a0.2.2.2.1 x13).1, (gt a0.2.2.2.1 x13).2.1, (gt a0.2.2.2.1 x13).2.2)] : List (List UInt8 × Bool × List UInt8)) rfl h145 rfl rfl (by decide) rfl rfl rfl rfl rfl rfl rfl) ?_
                          rintro _ w126 ⟨b32, rfl, h146⟩
                          refine ⟨⟨[_, _, _, _, _, _, _, _], (h146.only [0, 4, 4, 4, 4, 4, 4, 4, 0, 0, 0, 0] rfl)⟩, ?_⟩
                          refine HJ.op (i := 8) rfl rfl rfl rfl rfl (op_append ttok rfl 11 rfl h146 rfl (Gives.of 0 rfl own_rd) rfl rfl rfl rfl rfl rfl (by decide) (by decide) p27) ?_
                          rintro _ w127 ⟨A35, c_35, rfl, h147⟩
                          refine ⟨⟨[_, _, _, _, _, _, _, _], (h147.only [0, 0, 4, 4, 4, 4, 4, 4, 0, 0, 0, 0] rfl)⟩, ?_⟩
                          refine HJ.run ttok rfl [9] rfl ?_
                          refine HJ.op (i := 10) rfl rfl rfl rfl rfl (op_store ttok 6 rfl h147 rfl rfl rfl rfl rfl rfl rfl) ?_
                          intro _ w128 h148
                          replace h148 : St w0 F0 (boxC b5 31 [.int .i64 a0.1, .slice A14 x5.length c_14, .slice A22 x8.length c_22, .slice A35 (x12 ++ ([((gt a0.2.2.2.1 x13).1, (gt a0.2.2.2.1 x13).2.1, (gt a0.2.2.2.1 x13).2.2)] : List (List UInt8 × Bool × List UInt8))).length c_35, .slice none ([] : List (List UInt8 × List UInt8)).length 0] :: _) _ w128 := h148
                          refine ⟨⟨[_, _, _, _, _, _, _, _], (h148.only [0, 0, 0, 4, 4, 4, 4, 4, 0, 0, 0, 0] rfl)⟩, ?_⟩
                          refine HJ.fin [(1, .pointer (some ⟨b1, 0, none⟩)), (2, .pointer (some ⟨b2, 0, none⟩)), (3, .pointer (some ⟨b3, 0, none⟩)), (6, .pointer (some ⟨b4, 0, none⟩)), (7, .pointer (some ⟨b5, 0, none⟩)), (11, .string ⟨⟨x9⟩⟩), (14, .int .i64 x13)] rfl rfl ?_
                          exact thenP_intro ⟨A35, c_35, rfl, ((h148.only [0, 0, 1, 1, 1, 1, 1, 1, 1, 1, 1] rfl).rds [0, 1, 2, 3] rfl)⟩
                        · refine HS.op (i := 7) rfl rfl rfl (op_lit ttok (.pair .str (.pair .bool .str)) rfl ([((gt a0.2.2.2.1 x13).1, (gt a0.2.2.2.1 x13).2.1, (gt a0.2.2.2.1 x13).2.2)] : List (List UInt8 × Bool × List UInt8)) rfl h145 rfl rfl (by decide) rfl rfl rfl rfl rfl rfl rfl) ?_
                          rintro _ w129 ⟨b33, rfl, h149⟩
                          refine ⟨⟨[_, _, _, _, _, _, _, _], (h149.only [0, 4, 4, 4, 4, 4, 4, 4, 0, 0, 0, 0] rfl)⟩, ?_⟩
                          refine HJ.op (i := 1) rfl rfl rfl rfl rfl (OpT.ofq (q_load_box ttok 5 (fun w e => e ▸ h149.wh) rfl rfl rfl rfl rfl)) ?_
                          rintro _ _ ⟨rfl, rfl⟩
                          refine ⟨⟨[_, _, _, _, _, _, _, _], (h149.only [0, 4, 4, 4, 4, 4, 4, 4, 0, 0, 0, 0] rfl)⟩, ?_⟩
                          refine HJ.op (i := 8) rfl rfl rfl rfl rfl (op_append ttok rfl 11 rfl h149 rfl (Gives.of 0 rfl own_rd) rfl rfl rfl rfl rfl rfl (by decide) (by decide) p27) ?_
                          rintro _ w131 ⟨A36, c_36, rfl, h150⟩
                          refine ⟨⟨[_, _, _, _, _, _, _, _], (h150.only [0, 0, 4, 4, 4, 4, 4, 4, 0, 0, 0, 0] rfl)⟩, ?_⟩
                          refine HJ.run ttok rfl [9] rfl ?_
                          refine HJ.op (i := 10) rfl rfl rfl rfl rfl (op_store ttok 6 rfl h150 rfl rfl rfl rfl rfl rfl rfl) ?_
                          intro _ w132 h151
                          replace h151 : St w0 F0 (boxC b5 31 [.int .i64 a0.1, .slice A14 x5.length c_14, .slice A22 x8.length c_22, .slice A36 (x12 ++ ([((gt a0.2.2.2.1 x13).1, (gt a0.2.2.2.1 x13).2.1, (gt a0.2.2.2.1 x13).2.2)] : List (List UInt8 × Bool × List UInt8))).length c_36, .slice none ([] : List (List UInt8 × List UInt8)).length 0] :: _) _ w132 := h151
                          refine ⟨⟨[_, _, _, _, _, _, _, _], (h151.only [0, 0, 0, 4, 4, 4, 4, 4, 0, 0, 0, 0] rfl)⟩, ?_⟩
                          refine HJ.fin [(1, .pointer (some ⟨b1, 0, none⟩)), (2, .pointer (some ⟨b2, 0, none⟩)), (3, .pointer (some ⟨b3, 0, none⟩)), (6, .pointer (some ⟨b4, 0, none⟩)), (7, .pointer (some ⟨b5, 0, none⟩)), (11, .string ⟨⟨x9⟩⟩), (14, .int .i64 x13)] rfl rfl ?_
                          exact thenP_intro ⟨A36, c_36, rfl, ((h151.only [0, 0, 1, 1, 1, 1, 1, 1, 1, 1, 1] rfl).rds [0, 1, 2, 3] rfl)⟩
                      · rintro env w133 ⟨A34, c_34, rfl, h152⟩
                        refine J.region ?_
                        refine RJ.run ttok 3 rfl ?_
                        refine RJ.fin [(1, .pointer (some ⟨b1, 0, none⟩)), (2, .pointer (some ⟨b2, 0, none⟩)), (3, .pointer (some ⟨b3, 0, none⟩)), (6, .pointer (some ⟨b4, 0, none⟩)), (7, .pointer (some ⟨b5, 0, none⟩)), (11, .string ⟨⟨x9⟩⟩), (14, .int .i64 (w64 (x13 + 1)))] rfl ?_
                        have h153 := ((h152.only [2, 2, 2, 2, 0, 1, 1, 1, 1, 1, 0] rfl).rds [0, 1, 2, 3] rfl)
                        exact ⟨k4, by omega, x11, A29, c_29, (x12 ++ ([((gt a0.2.2.2.1 x13).1, (gt a0.2.2.2.1 x13).2.1, (gt a0.2.2.2.1 x13).2.2)] : List (List UInt8 × Bool × List UInt8))), A34, c_34, (w64 (x13 + 1)), rfl, h153, H⟩
                  · replace H := ite_f c11 H
                    refine J.exit ?_
                    refine J.seq ?_
                    refine J.heldSt mix (h128.only [0, 2, 2, 2, 2, 2, 2, 2, 2] rfl) ?_
                    have h154 := h128.drew
                    refine HJ.run ttok rfl [2] rfl ?_
                    refine HJ.q (i := 0) rfl rfl rfl rfl rfl rfl (q_load_box ttok 1 (fun w e => e) rfl rfl rfl rfl rfl) ?_
                    refine HJ.q (i := 1) rfl rfl rfl rfl rfl rfl (q_load_box ttok 2 (fun w e => e) rfl rfl rfl rfl rfl) ?_
                    refine HJ.op (i := 3) rfl rfl rfl rfl rfl (op_store ttok 1 rfl h154 rfl rfl rfl rfl rfl rfl rfl) ?_
                    intro _ w134 h155
                    replace h155 : St w0 F0 (boxC b2 31 [.int .i64 a0.1, .slice A13 x4.length c_13, .slice A21 x7.length c_21, .slice A29 x11.length c_29, .slice none ([] : List (List UInt8 × List UInt8)).length 0] :: _) _ w134 := h155
                    refine ⟨⟨[_, _], (h155.only [0, 1, 0, 0, 0, 0, 0, 0, 0, 0, 0] rfl)⟩, ?_⟩
                    refine HJ.op (i := 4) rfl rfl rfl rfl rfl (op_store ttok 2 rfl h155 rfl rfl rfl rfl rfl rfl rfl) ?_
                    intro _ w135 h156
                    replace h156 : St w0 F0 (boxC b3 31 [.int .i64 a0.1, .slice A14 x5.length c_14, .slice A22 x8.length c_22, .slice A30 x12.length c_30, .slice none ([] : List (List UInt8 × List UInt8)).length 0] :: _) _ w135 := h156
                    refine ⟨⟨[_, _], h156⟩, ?_⟩
                    refine HJ.run ttok rfl [5, 6] rfl ?_
                    refine HJ.fin [(2, .pointer (some ⟨b2, 0, none⟩)), (3, .pointer (some ⟨b3, 0, none⟩)), (4, .string ⟨⟨x9⟩⟩), (5, .bool true)] rfl rfl ?_
                    refine J.ret ?_
                    have h157 := h156.addNil 50 (.pair .str .str)
                    have h158 := h157.addNil 50 (.pair .str .str)
                    obtain rfl := Option.some.inj H
                    exact ⟨_, _, _, (results_two rfl (rvcons (RV.cell ttok 3 h158 rfl rfl rfl rfl) (rvcons (RV.cell ttok 2 h158 rfl rfl rfl rfl) (rvcons (RV.tmp rfl) (rvcons (RV.tmp rfl) rvnil)))) rfl), ⟨_, _, _, _, _, _, _, _, _, _, _, _, _, _, _, _, rfl, rfl⟩, h158.only [7, 7, 7, 1, 6, 6, 6, 0] rfl⟩

/-! sluicegate/sluicegatelaw14.CleaveHalves -/
def sluicegatelaw14_CleaveHalves.f (k : Nat) (a0 : Int × Int × Int × Int × Int × Int × Int × Int) (a1 : List UInt8 × List UInt8 × Bool) (a2 : Int × List (Int) × List (List UInt8) × (List (List UInt8 × Bool × List UInt8)) × (List (List UInt8 × List UInt8))) : Option (Bool) := (sluicegatelaw14_right.f k (a0.1, a0.2.1, a0.2.2.1, a0.2.2.2.1, a0.2.2.2.2.1, a0.2.2.2.2.2.1, a0.2.2.2.2.2.2.1, a0.2.2.2.2.2.2.2) (a1.1, a1.2.1, a1.2.2) (a2.1, a2.2.1, a2.2.2.1, a2.2.2.2.1, a2.2.2.2.2)).bind fun r1 => (if (!r1) = true then ((sluicegatelaw14_awake.f k).bind fun r2 => (some r2)) else ((sluicegateref14_Join.f (a2.1, a2.2.1, a2.2.2.1, a2.2.2.2.1, a2.2.2.2.2) ([] : List UInt8) (a2.1, ([] : List (Int)), ([] : List (List UInt8)), ([] : List (List UInt8 × Bool × List UInt8)), ([] : List (List UInt8 × List UInt8)))).bind fun r3 => ((cleave_Halve.f k (a2.1, a2.2.1, a2.2.2.1, a2.2.2.2.1, a2.2.2.2.2)).bind fun r4 => ((sluicegateref14_Halve.f k (a2.1, a2.2.1, a2.2.2.1, a2.2.2.2.1, a2.2.2.2.2)).bind fun r5 => ((sluicegateref13_Same.f k (r4.1.1, r4.1.2.1, r4.1.2.2.1, r4.1.2.2.2.1, r4.1.2.2.2.2) (r5.1.1, r5.1.2.1, r5.1.2.2.1, r5.1.2.2.2.1, r5.1.2.2.2.2)).bind fun r6 => (if r6 = true then ((sluicegateref13_Same.f k (r4.2.1.1, r4.2.1.2.1, r4.2.1.2.2.1, r4.2.1.2.2.2.1, r4.2.1.2.2.2.2) (r5.2.1.1, r5.2.1.2.1, r5.2.1.2.2.1, r5.2.1.2.2.2.1, r5.2.1.2.2.2.2)).bind fun r7 => (if r7 = true then (if (decide (r4.2.2.1 = r5.2.2.1)) = true then (if (r4.2.2.2 == r5.2.2.2) = true then ((sluicegateref13_Blocks.f k a2.2.1 r3.1.2.1).bind fun r8 => (if r8 = true then ((sluicegatelaw14_awake.f k).bind fun r9 => (some r9)) else (some false))) else (some false)) else (some false)) else (some false))) else (some false)))))))
set_option maxRecDepth 20000 in
set_option maxHeartbeats 4000000 in
theorem sluicegatelaw14_CleaveHalves.spec {k : Nat} {a0 : Int × Int × Int × Int × Int × Int × Int × Int} {a1 : List UInt8 × List UInt8 × Bool} {a2 : Int × List (Int) × List (List UInt8) × (List (List UInt8 × Bool × List UInt8)) × (List (List UInt8 × List UInt8))} {A1 : Option Addr} {c_1 : Nat} {A2 : Option Addr} {c_2 : Nat} {A3 : Option Addr} {c_3 : Nat} {A4 : Option Addr} {c_4 : Nat} {r : Bool} (H : sluicegatelaw14_CleaveHalves.f k a0 a1 a2 = some r) :
    Spec Try.prog 3 [.agg #[.int .i64 a0.1, .int .i64 a0.2.1, .int .i64 a0.2.2.1, .int .i64 a0.2.2.2.1, .int .i64 a0.2.2.2.2.1, .int .i64 a0.2.2.2.2.2.1, .int .i64 a0.2.2.2.2.2.2.1, .int .i64 a0.2.2.2.2.2.2.2], .agg #[.string ⟨⟨a1.1⟩⟩, .string ⟨⟨a1.2.1⟩⟩, .bool a1.2.2], .agg #[.int .i64 a2.1, .slice A1 a2.2.1.length c_1, .slice A2 a2.2.2.1.length c_2, .slice A3 a2.2.2.2.1.length c_3, .slice A4 a2.2.2.2.2.length c_4]] [] [rdC 46 (.int .u32) a2.2.1 (.slice A1 a2.2.1.length c_1), rdC 9 .str a2.2.2.1 (.slice A2 a2.2.2.1.length c_2), rdC 48 (.pair .str (.pair .bool .str)) a2.2.2.2.1 (.slice A3 a2.2.2.2.1.length c_3), rdC 50 (.pair .str .str) a2.2.2.2.2 (.slice A4 a2.2.2.2.2.length c_4)] (fun v l => v = .bool r ∧ l = []) := by
  refine Spec.enter Try.func3 rfl (by kernel_rfl) (by kernel_rfl) fun w0 F0 h0 => ?_
  unfold sluicegatelaw14_CleaveHalves.f at H
  refine J.seq ?_
  refine J.region ?_
  refine RJ.op rfl rfl (op_box rfl rfl h0) ?_
  rintro _ w1 ⟨b1, rfl, h1⟩
  refine RJ.op rfl rfl (op_box rfl rfl h1) ?_
  rintro _ w2 ⟨b2, rfl, h2⟩
  refine RJ.op rfl rfl (op_box rfl rfl h2) ?_
  rintro _ w3 ⟨b3, rfl, h3⟩
  refine RJ.run ttok 1 rfl ?_
  refine RJ.fin [(3, .pointer (some ⟨b1, 0, none⟩)), (4, .pointer (some ⟨b2, 0, none⟩)), (5, .pointer (some ⟨b3, 0, none⟩))] rfl ?_
  refine J.seq ?_
  refine J.seq ?_
  refine J.region ?_
  refine RJ.q rfl rfl (q_load_box ttok 2 (fun w e => e ▸ h3.wh) rfl rfl rfl rfl rfl) ?_
  refine RJ.q rfl rfl (q_load_box ttok 1 (fun w e => e ▸ h3.wh) rfl rfl rfl rfl rfl) ?_
  refine RJ.q rfl rfl (q_load_box ttok 0 (fun w e => e ▸ h3.wh) rfl rfl rfl rfl rfl) ?_
  obtain ⟨r1, q1, H⟩ := bind_t H
  refine RJ.op rfl rfl (op_call [] (sluicegatelaw14_right.spec q1) rfl rfl rfl h3 rfl (gcons (Gives.self 3 rfl) (gcons (Gives.self 4 rfl) (gcons (Gives.self 5 rfl) (gcons (Gives.self 6 rfl) gnil))))) ?_
  rintro _ w4 ⟨_, ⟨rfl, rfl⟩, h4⟩
  refine RJ.run ttok 1 rfl ?_
  refine RJ.fin [(5, .pointer (some ⟨b3, 0, none⟩)), (21, .bool (!r1))] rfl ?_
  refine J.cond rfl (fun c1 => ?_) (fun c1 => ?_)
  · replace H := ite_t c1 H
    refine J.seq ?_
    refine J.region ?_
    obtain ⟨r2, q2, H⟩ := bind_t H
    refine RJ.op rfl rfl (op_call [] (sluicegatelaw14_awake.spec q2) rfl rfl rfl h4 rfl gnil) ?_
    rintro _ w5 ⟨_, ⟨rfl, rfl⟩, h5⟩
    refine RJ.run ttok 1 rfl ?_
    refine RJ.fin [(6, .bool r2)] rfl ?_
    refine J.ret ?_
    obtain rfl := Option.some.inj H
    exact ⟨_, _, _, (results_slots rfl), ⟨rfl, rfl⟩, h5.only [] rfl⟩
  · replace H := ite_f c1 H
    refine J.skip ?_
    refine J.seq ?_
    refine J.region ?_
    refine RJ.q rfl rfl (q_load_box ttok 0 (fun w e => e ▸ h4.wh) rfl rfl rfl rfl rfl) ?_
    refine RJ.run ttok 1 rfl ?_
    refine RJ.q rfl rfl (q_load_box ttok 0 (fun w e => e ▸ h4.wh) rfl rfl rfl rfl rfl) ?_
    refine RJ.run ttok 1 rfl ?_
    have h6 := h4.addNil 46 (.int .u32)
    have h7 := h6.addNil 9 .str
    have h8 := h7.addNil 48 (.pair .str (.pair .bool .str))
    have h9 := h8.addNil 50 (.pair .str .str)
    obtain ⟨r3, q3, H⟩ := bind_t H
    refine RJ.op rfl rfl (op_call [] (sluicegateref14_Join.spec q3) rfl rfl rfl h9 rfl (gcons (Gives.self 7 rfl) (gcons (Gives.self 8 rfl) (gcons (Gives.self 9 rfl) (gcons (Gives.self 10 rfl) (gcons (Gives.of 3 rfl own_rd) (gcons (Gives.of 2 rfl own_rd) (gcons (Gives.of 1 rfl own_rd) (gcons (Gives.of 0 rfl own_rd) gnil))))))))) ?_
    rintro _ w6 ⟨_, ⟨A5, c_5, A6, c_6, A7, c_7, A8, c_8, rfl, rfl⟩, h10⟩
    refine RJ.run ttok 3 rfl ?_
    refine RJ.op rfl rfl (op_alloc ttok rfl rfl h10) ?_
    rintro _ w7 ⟨b4, rfl, h11⟩
    refine RJ.op rfl rfl (op_store ttok 0 rfl h11 rfl rfl rfl rfl rfl rfl rfl) ?_
    intro _ w8 h12
    replace h12 : St w0 F0 (boxC b4 31 [.int .i64 r3.1.1, .slice A5 r3.1.2.1.length c_5, .slice A6 r3.1.2.2.1.length c_6, .slice A7 r3.1.2.2.2.1.length c_7, .slice A8 r3.1.2.2.2.2.length c_8] :: _) _ w8 := h12
    refine RJ.run ttok 1 rfl ?_
    refine RJ.fin [(5, .pointer (some ⟨b3, 0, none⟩)), (7, .pointer (some ⟨b4, 0, none⟩))] rfl ?_
    refine J.seq ?_
    refine J.region ?_
    refine RJ.q rfl rfl (q_load_box ttok 9 (fun w e => e ▸ h12.wh) rfl rfl rfl rfl rfl) ?_
    obtain ⟨r4, q4, H⟩ := bind_t H
    refine RJ.op rfl rfl (op_call [] (cleave_Halve.spec q4) rfl rfl rfl h12 rfl (gcons (Gives.self 12 rfl) (gcons (Gives.self 13 rfl) (gcons (Gives.self 14 rfl) (gcons (Gives.self 15 rfl) gnil))))) ?_
    rintro _ w9 ⟨_, ⟨A9, c_9, A10, c_10, A11, c_11, A12, c_12, A13, c_13, A14, c_14, A15, c_15, A16, c_16, rfl, rfl⟩, h13⟩
    refine RJ.run ttok 5 rfl ?_
    refine RJ.op rfl rfl (op_alloc ttok rfl rfl h13) ?_
    rintro _ w10 ⟨b5, rfl, h14⟩
    refine RJ.op rfl rfl (op_alloc ttok rfl rfl h14) ?_
    rintro _ w11 ⟨b6, rfl, h15⟩
    refine RJ.op rfl rfl (op_store ttok 1 rfl h15 rfl rfl rfl rfl rfl rfl rfl) ?_
    intro _ w12 h16
    replace h16 : St w0 F0 (boxC b5 31 [.int .i64 r4.1.1, .slice A9 r4.1.2.1.length c_9, .slice A10 r4.1.2.2.1.length c_10, .slice A11 r4.1.2.2.2.1.length c_11, .slice A12 r4.1.2.2.2.2.length c_12] :: _) _ w12 := h16
    refine RJ.op rfl rfl (op_store ttok 1 rfl h16 rfl rfl rfl rfl rfl rfl rfl) ?_
    intro _ w13 h17
    replace h17 : St w0 F0 (boxC b6 31 [.int .i64 r4.2.1.1, .slice A13 r4.2.1.2.1.length c_13, .slice A14 r4.2.1.2.2.1.length c_14, .slice A15 r4.2.1.2.2.2.1.length c_15, .slice A16 r4.2.1.2.2.2.2.length c_16] :: _) _ w13 := h17
    refine RJ.run ttok 2 rfl ?_
    refine RJ.fin [(5, .pointer (some ⟨b3, 0, none⟩)), (7, .pointer (some ⟨b4, 0, none⟩)), (9, .pointer (some ⟨b5, 0, none⟩)), (10, .pointer (some ⟨b6, 0, none⟩)), (11, .string ⟨⟨r4.2.2.1⟩⟩), (12, .bool r4.2.2.2)] rfl ?_
    refine J.seq ?_
    refine J.region ?_
    refine RJ.q rfl rfl (q_load_box ttok 19 (fun w e => e ▸ h17.wh) rfl rfl rfl rfl rfl) ?_
    obtain ⟨r5, q5, H⟩ := bind_t H
    refine RJ.op rfl rfl (op_call [] (sluicegateref14_Halve.spec q5) rfl rfl rfl h17 rfl (gcons (Gives.self 22 rfl) (gcons (Gives.self 23 rfl) (gcons (Gives.self 24 rfl) (gcons (Gives.self 25 rfl) gnil))))) ?_
    rintro _ w14 ⟨_, ⟨A17, c_17, A18, c_18, A19, c_19, A20, c_20, A21, c_21, A22, c_22, A23, c_23, A24, c_24, rfl, rfl⟩, h18⟩
    refine RJ.run ttok 5 rfl ?_
    refine RJ.op rfl rfl (op_alloc ttok rfl rfl h18) ?_
    rintro _ w15 ⟨b7, rfl, h19⟩
    refine RJ.op rfl rfl (op_alloc ttok rfl rfl h19) ?_
    rintro _ w16 ⟨b8, rfl, h20⟩
    refine RJ.op rfl rfl (op_store ttok 1 rfl h20 rfl rfl rfl rfl rfl rfl rfl) ?_
    intro _ w17 h21
    replace h21 : St w0 F0 (boxC b7 31 [.int .i64 r5.1.1, .slice A17 r5.1.2.1.length c_17, .slice A18 r5.1.2.2.1.length c_18, .slice A19 r5.1.2.2.2.1.length c_19, .slice A20 r5.1.2.2.2.2.length c_20] :: _) _ w17 := h21
    refine RJ.op rfl rfl (op_store ttok 1 rfl h21 rfl rfl rfl rfl rfl rfl rfl) ?_
    intro _ w18 h22
    replace h22 : St w0 F0 (boxC b8 31 [.int .i64 r5.2.1.1, .slice A21 r5.2.1.2.1.length c_21, .slice A22 r5.2.1.2.2.1.length c_22, .slice A23 r5.2.1.2.2.2.1.length c_23, .slice A24 r5.2.1.2.2.2.2.length c_24] :: _) _ w18 := h22
    refine RJ.run ttok 2 rfl ?_
    refine RJ.fin [(5, .pointer (some ⟨b3, 0, none⟩)), (7, .pointer (some ⟨b4, 0, none⟩)), (9, .pointer (some ⟨b5, 0, none⟩)), (10, .pointer (some ⟨b6, 0, none⟩)), (11, .string ⟨⟨r4.2.2.1⟩⟩), (12, .bool r4.2.2.2), (13, .pointer (some ⟨b7, 0, none⟩)), (14, .pointer (some ⟨b8, 0, none⟩)), (15, .string ⟨⟨r5.2.2.1⟩⟩), (16, .bool r5.2.2.2)] rfl ?_
    refine J.seq ?_
    refine J.region ?_
    refine RJ.q rfl rfl (q_load_box ttok 11 (fun w e => e ▸ h22.wh) rfl rfl rfl rfl rfl) ?_
    refine RJ.q rfl rfl (q_load_box ttok 1 (fun w e => e ▸ h22.wh) rfl rfl rfl rfl rfl) ?_
    obtain ⟨r6, q6, H⟩ := bind_t H
    refine RJ.op rfl rfl (op_call [] (sluicegateref13_Same.spec q6) rfl rfl rfl h22 rfl (gcons (Gives.of 12 rfl own_rd) (gcons (Gives.of 13 rfl own_rd) (gcons (Gives.of 14 rfl own_rd) (gcons (Gives.of 15 rfl own_rd) (gcons (Gives.of 2 rfl own_rd) (gcons (Gives.of 3 rfl own_rd) (gcons (Gives.of 4 rfl own_rd) (gcons (Gives.of 5 rfl own_rd) gnil))))))))) ?_
    rintro _ w19 ⟨_, ⟨rfl, rfl⟩, h23⟩
    refine RJ.run ttok 1 rfl ?_
    rcases Bool.eq_false_or_eq_true r6 with c2 | c2
    · replace H := ite_t c2 H
      refine RJ.know (t := 48) rfl (congrArg Value.bool c2) ?_
      refine RJ.q rfl rfl (q_load_box ttok 10 (fun w e => e ▸ h23.wh) rfl rfl rfl rfl rfl) ?_
      refine RJ.q rfl rfl (q_load_box ttok 0 (fun w e => e ▸ h23.wh) rfl rfl rfl rfl rfl) ?_
      obtain ⟨r7, q7, H⟩ := bind_t H
      refine RJ.op rfl rfl (op_call [] (sluicegateref13_Same.spec q7) rfl rfl rfl h23 rfl (gcons (Gives.of 16 rfl own_rd) (gcons (Gives.of 17 rfl own_rd) (gcons (Gives.of 18 rfl own_rd) (gcons (Gives.of 19 rfl own_rd) (gcons (Gives.of 6 rfl own_rd) (gcons (Gives.of 7 rfl own_rd) (gcons (Gives.of 8 rfl own_rd) (gcons (Gives.of 9 rfl own_rd) gnil))))))))) ?_
      rintro _ w20 ⟨_, ⟨rfl, rfl⟩, h24⟩
      refine RJ.run ttok 2 rfl ?_
      rcases Bool.eq_false_or_eq_true r7 with c3 | c3
      · replace H := ite_t c3 H
        refine RJ.know (t := 53) rfl (congrArg Value.bool c3) ?_
        refine RJ.run ttok 5 rfl ?_
        rcases Bool.eq_false_or_eq_true (decide (r4.2.2.1 = r5.2.2.1)) with c4 | c4
        · replace H := ite_t c4 H
          refine RJ.know (t := 58) rfl (congrArg Value.bool c4) ?_
          refine RJ.run ttok 5 rfl ?_
          rcases Bool.eq_false_or_eq_true (r4.2.2.2 == r5.2.2.2) with c5 | c5
          · replace H := ite_t c5 H
            refine RJ.know (t := 63) rfl (congrArg Value.bool c5) ?_
            refine RJ.run ttok 1 rfl ?_
            refine RJ.q rfl rfl (q_load_box ttok 29 (fun w e => e ▸ h24.wh) rfl rfl rfl rfl rfl) ?_
            refine RJ.run ttok 1 rfl ?_
            refine RJ.q rfl rfl (q_load_box ttok 20 (fun w e => e ▸ h24.wh) rfl rfl rfl rfl rfl) ?_
            obtain ⟨r8, q8, H⟩ := bind_t H
            refine RJ.op rfl rfl (op_call [] (sluicegateref13_Blocks.spec q8) rfl rfl rfl h24 rfl (gcons (Gives.self 32 rfl) (gcons (Gives.of 21 rfl own_rd) gnil))) ?_
            rintro _ w21 ⟨_, ⟨rfl, rfl⟩, h25⟩
            refine RJ.run ttok 2 rfl ?_
            rcases Bool.eq_false_or_eq_true r8 with c6 | c6
            · replace H := ite_t c6 H
              refine RJ.know (t := 70) rfl (congrArg Value.bool c6) ?_
              obtain ⟨r9, q9, H⟩ := bind_t H
              refine RJ.op rfl rfl (op_call [] (sluicegatelaw14_awake.spec q9) rfl rfl rfl h25 rfl gnil) ?_
              rintro _ w22 ⟨_, ⟨rfl, rfl⟩, h26⟩
              refine RJ.run ttok 2 rfl ?_
              refine RJ.fin [(6, .bool r9)] rfl ?_
              refine J.ret ?_
              obtain rfl := Option.some.inj H
              exact ⟨_, _, _, (results_slots rfl), ⟨rfl, rfl⟩, h26.only [] rfl⟩
            · replace H := ite_f c6 H
              refine RJ.know (t := 70) rfl (congrArg Value.bool c6) ?_
              refine RJ.run ttok 3 rfl ?_
              refine RJ.fin [(6, .bool false)] rfl ?_
              refine J.ret ?_
              obtain rfl := Option.some.inj H
              exact ⟨_, _, _, (results_slots rfl), ⟨rfl, rfl⟩, h25.only [] rfl⟩
          · replace H := ite_f c5 H
            refine RJ.know (t := 63) rfl (congrArg Value.bool c5) ?_
            refine RJ.run ttok 10 rfl ?_
            refine RJ.fin [(6, .bool false)] rfl ?_
            refine J.ret ?_
            obtain rfl := Option.some.inj H
            exact ⟨_, _, _, (results_slots rfl), ⟨rfl, rfl⟩, h24.only [] rfl⟩
        · replace H := ite_f c4 H
          refine RJ.know (t := 58) rfl (congrArg Value.bool c4) ?_
          refine RJ.run ttok 15 rfl ?_
          refine RJ.fin [(6, .bool false)] rfl ?_
          refine J.ret ?_
          obtain rfl := Option.some.inj H
          exact ⟨_, _, _, (results_slots rfl), ⟨rfl, rfl⟩, h24.only [] rfl⟩
      · replace H := ite_f c3 H
        refine RJ.know (t := 53) rfl (congrArg Value.bool c3) ?_
        refine RJ.run ttok 20 rfl ?_
        refine RJ.fin [(6, .bool false)] rfl ?_
        refine J.ret ?_
        obtain rfl := Option.some.inj H
        exact ⟨_, _, _, (results_slots rfl), ⟨rfl, rfl⟩, h24.only [] rfl⟩
    · replace H := ite_f c2 H
      refine RJ.know (t := 48) rfl (congrArg Value.bool c2) ?_
      refine RJ.run ttok 25 rfl ?_
      refine RJ.fin [(6, .bool false)] rfl ?_
      refine J.ret ?_
      obtain rfl := Option.some.inj H
      exact ⟨_, _, _, (results_slots rfl), ⟨rfl, rfl⟩, h23.only [] rfl⟩

end Go.SK.T
