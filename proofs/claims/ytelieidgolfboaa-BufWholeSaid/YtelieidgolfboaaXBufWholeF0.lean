/- The types of the program, and its functions as the code computes them, each proved. -/
import Derived.Test.YtelieidgolfboaaKs
import Derived.Test.YtelieidgolfboaaProg
set_option linter.unusedVariables false
set_option linter.unusedSimpArgs false
namespace Go.SK.T
open Go Go.SK Go.Proofs
def tt : TT := [(1, ⟨.func, 1, 8, .nilFunc⟩),
  (2, ⟨.int .i64, 1, 8, .int .i64 0⟩),
  (3, ⟨.int .i64, 1, 8, .int .i64 0⟩),
  (4, ⟨.bool, 1, 1, .bool false⟩),
  (5, ⟨.int .u8, 1, 1, .int .u8 0⟩),
  (6, ⟨.int .u8, 1, 1, .int .u8 0⟩),
  (9, ⟨.str, 1, 16, .string ⟨⟨[]⟩⟩⟩),
  (10, ⟨.str, 1, 16, .string ⟨⟨[]⟩⟩⟩),
  (11, ⟨.str, 1, 16, .string ⟨⟨[]⟩⟩⟩),
  (12, ⟨.int .u64, 1, 8, .int .u64 0⟩),
  (15, ⟨.ptr 78, 1, 8, .pointer none⟩),
  (16, ⟨.ptr 81, 1, 8, .pointer none⟩),
  (17, ⟨.ptr 91, 1, 8, .pointer none⟩),
  (20, ⟨.iface, 1, 16, .nilIface⟩),
  (21, ⟨.int .i32, 1, 4, .int .i32 0⟩),
  (22, ⟨.struct [(9, 0, 1), (9, 1, 1), (4, 2, 1)], 3, 40, .agg #[.string ⟨⟨[]⟩⟩, .string ⟨⟨[]⟩⟩, .bool false]⟩),
  (23, ⟨.struct [(9, 0, 1), (9, 1, 1), (4, 2, 1)], 3, 40, .agg #[.string ⟨⟨[]⟩⟩, .string ⟨⟨[]⟩⟩, .bool false]⟩),
  (24, ⟨.func, 1, 8, .nilFunc⟩),
  (25, ⟨.func, 1, 8, .nilFunc⟩),
  (26, ⟨.func, 1, 8, .nilFunc⟩),
  (27, ⟨.func, 1, 8, .nilFunc⟩),
  (28, ⟨.func, 1, 8, .nilFunc⟩),
  (30, ⟨.func, 1, 8, .nilFunc⟩),
  (31, ⟨.func, 1, 8, .nilFunc⟩),
  (32, ⟨.func, 1, 8, .nilFunc⟩),
  (34, ⟨.func, 1, 8, .nilFunc⟩),
  (35, ⟨.func, 1, 8, .nilFunc⟩),
  (36, ⟨.func, 1, 8, .nilFunc⟩),
  (37, ⟨.func, 1, 8, .nilFunc⟩),
  (38, ⟨.slice 55, 1, 24, .slice none 0 0⟩),
  (39, ⟨.func, 1, 8, .nilFunc⟩),
  (40, ⟨.func, 1, 8, .nilFunc⟩),
  (41, ⟨.func, 1, 8, .nilFunc⟩),
  (42, ⟨.slice 9, 1, 24, .slice none 0 0⟩),
  (43, ⟨.func, 1, 8, .nilFunc⟩),
  (44, ⟨.func, 1, 8, .nilFunc⟩),
  (45, ⟨.func, 1, 8, .nilFunc⟩),
  (46, ⟨.func, 1, 8, .nilFunc⟩),
  (47, ⟨.func, 1, 8, .nilFunc⟩),
  (48, ⟨.func, 1, 8, .nilFunc⟩),
  (50, ⟨.func, 1, 8, .nilFunc⟩),
  (51, ⟨.func, 1, 8, .nilFunc⟩),
  (52, ⟨.func, 1, 8, .nilFunc⟩),
  (53, ⟨.func, 1, 8, .nilFunc⟩),
  (54, ⟨.struct [(9, 0, 1), (4, 1, 1), (9, 2, 1)], 3, 40, .agg #[.string ⟨⟨[]⟩⟩, .bool false, .string ⟨⟨[]⟩⟩]⟩),
  (55, ⟨.struct [(9, 0, 1), (4, 1, 1), (9, 2, 1)], 3, 40, .agg #[.string ⟨⟨[]⟩⟩, .bool false, .string ⟨⟨[]⟩⟩]⟩),
  (57, ⟨.func, 1, 8, .nilFunc⟩),
  (58, ⟨.func, 1, 8, .nilFunc⟩),
  (59, ⟨.func, 1, 8, .nilFunc⟩),
  (60, ⟨.func, 1, 8, .nilFunc⟩),
  (61, ⟨.func, 1, 8, .nilFunc⟩),
  (62, ⟨.slice 38, 1, 24, .slice none 0 0⟩),
  (64, ⟨.func, 1, 8, .nilFunc⟩),
  (66, ⟨.func, 1, 8, .nilFunc⟩),
  (67, ⟨.func, 1, 8, .nilFunc⟩),
  (68, ⟨.func, 1, 8, .nilFunc⟩),
  (69, ⟨.func, 1, 8, .nilFunc⟩),
  (70, ⟨.func, 1, 8, .nilFunc⟩),
  (71, ⟨.func, 1, 8, .nilFunc⟩),
  (72, ⟨.int .u64, 1, 8, .int .u64 0⟩),
  (73, ⟨.func, 1, 8, .nilFunc⟩),
  (74, ⟨.func, 1, 8, .nilFunc⟩),
  (75, ⟨.func, 1, 8, .nilFunc⟩),
  (76, ⟨.func, 1, 8, .nilFunc⟩),
  (82, ⟨.func, 1, 8, .nilFunc⟩),
  (83, ⟨.int .u32, 1, 4, .int .u32 0⟩),
  (84, ⟨.int .u8, 1, 1, .int .u8 0⟩),
  (85, ⟨.int .u8, 1, 1, .int .u8 0⟩),
  (86, ⟨.func, 1, 8, .nilFunc⟩),
  (87, ⟨.ptr 5, 1, 8, .pointer none⟩),
  (88, ⟨.int .i32, 1, 4, .int .i32 0⟩),
  (89, ⟨.int .i32, 1, 4, .int .i32 0⟩)]
theorem ttok : TTok Try.prog tt := by
  refine ttok_cons ⟨by kernel_rfl, ⟨_, _, _, Try.underlying1⟩⟩ ?_
  refine ttok_cons ⟨by kernel_rfl, Try.underlying2⟩ ?_
  refine ttok_cons ⟨by kernel_rfl, Try.underlying3⟩ ?_
  refine ttok_cons ⟨by kernel_rfl, Try.underlying4⟩ ?_
  refine ttok_cons ⟨by kernel_rfl, Try.underlying5⟩ ?_
  refine ttok_cons ⟨by kernel_rfl, Try.underlying6⟩ ?_
  refine ttok_cons ⟨by kernel_rfl, Try.underlying9⟩ ?_
  refine ttok_cons ⟨by kernel_rfl, Try.underlying10⟩ ?_
  refine ttok_cons ⟨by kernel_rfl, Try.underlying11⟩ ?_
  refine ttok_cons ⟨by kernel_rfl, Try.underlying12⟩ ?_
  refine ttok_cons ⟨by kernel_rfl, Try.underlying15⟩ ?_
  refine ttok_cons ⟨by kernel_rfl, Try.underlying16⟩ ?_
  refine ttok_cons ⟨by kernel_rfl, Try.underlying17⟩ ?_
  refine ttok_cons ⟨by kernel_rfl, ⟨_, Try.underlying20⟩⟩ ?_
  refine ttok_cons ⟨by kernel_rfl, Try.underlying21⟩ ?_
  refine ttok_cons ⟨by kernel_rfl, ⟨_, Try.underlying22, by kernel_rfl, by kernel_rfl, by kernel_rfl, by kernel_rfl, by kernel_rfl, by kernel_rfl⟩⟩ ?_
  refine ttok_cons ⟨by kernel_rfl, ⟨_, Try.underlying23, by kernel_rfl, by kernel_rfl, by kernel_rfl, by kernel_rfl, by kernel_rfl, by kernel_rfl⟩⟩ ?_
  refine ttok_cons ⟨by kernel_rfl, ⟨_, _, _, Try.underlying24⟩⟩ ?_
  refine ttok_cons ⟨by kernel_rfl, ⟨_, _, _, Try.underlying25⟩⟩ ?_
  refine ttok_cons ⟨by kernel_rfl, ⟨_, _, _, Try.underlying26⟩⟩ ?_
  refine ttok_cons ⟨by kernel_rfl, ⟨_, _, _, Try.underlying27⟩⟩ ?_
  refine ttok_cons ⟨by kernel_rfl, ⟨_, _, _, Try.underlying28⟩⟩ ?_
  refine ttok_cons ⟨by kernel_rfl, ⟨_, _, _, Try.underlying30⟩⟩ ?_
  refine ttok_cons ⟨by kernel_rfl, ⟨_, _, _, Try.underlying31⟩⟩ ?_
  refine ttok_cons ⟨by kernel_rfl, ⟨_, _, _, Try.underlying32⟩⟩ ?_
  refine ttok_cons ⟨by kernel_rfl, ⟨_, _, _, Try.underlying34⟩⟩ ?_
  refine ttok_cons ⟨by kernel_rfl, ⟨_, _, _, Try.underlying35⟩⟩ ?_
  refine ttok_cons ⟨by kernel_rfl, ⟨_, _, _, Try.underlying36⟩⟩ ?_
  refine ttok_cons ⟨by kernel_rfl, ⟨_, _, _, Try.underlying37⟩⟩ ?_
  refine ttok_cons ⟨by kernel_rfl, Try.underlying38⟩ ?_
  refine ttok_cons ⟨by kernel_rfl, ⟨_, _, _, Try.underlying39⟩⟩ ?_
  refine ttok_cons ⟨by kernel_rfl, ⟨_, _, _, Try.underlying40⟩⟩ ?_
  refine ttok_cons ⟨by kernel_rfl, ⟨_, _, _, Try.underlying41⟩⟩ ?_
  refine ttok_cons ⟨by kernel_rfl, Try.underlying42⟩ ?_
  refine ttok_cons ⟨by kernel_rfl, ⟨_, _, _, Try.underlying43⟩⟩ ?_
  refine ttok_cons ⟨by kernel_rfl, ⟨_, _, _, Try.underlying44⟩⟩ ?_
  refine ttok_cons ⟨by kernel_rfl, ⟨_, _, _, Try.underlying45⟩⟩ ?_
  refine ttok_cons ⟨by kernel_rfl, ⟨_, _, _, Try.underlying46⟩⟩ ?_
  refine ttok_cons ⟨by kernel_rfl, ⟨_, _, _, Try.underlying47⟩⟩ ?_
  refine ttok_cons ⟨by kernel_rfl, ⟨_, _, _, Try.underlying48⟩⟩ ?_
  refine ttok_cons ⟨by kernel_rfl, ⟨_, _, _, Try.underlying50⟩⟩ ?_
  refine ttok_cons ⟨by kernel_rfl, ⟨_, _, _, Try.underlying51⟩⟩ ?_
  refine ttok_cons ⟨by kernel_rfl, ⟨_, _, _, Try.underlying52⟩⟩ ?_
  refine ttok_cons ⟨by kernel_rfl, ⟨_, _, _, Try.underlying53⟩⟩ ?_
  refine ttok_cons ⟨by kernel_rfl, ⟨_, Try.underlying54, by kernel_rfl, by kernel_rfl, by kernel_rfl, by kernel_rfl, by kernel_rfl, by kernel_rfl⟩⟩ ?_
  refine ttok_cons ⟨by kernel_rfl, ⟨_, Try.underlying55, by kernel_rfl, by kernel_rfl, by kernel_rfl, by kernel_rfl, by kernel_rfl, by kernel_rfl⟩⟩ ?_
  refine ttok_cons ⟨by kernel_rfl, ⟨_, _, _, Try.underlying57⟩⟩ ?_
  refine ttok_cons ⟨by kernel_rfl, ⟨_, _, _, Try.underlying58⟩⟩ ?_
  refine ttok_cons ⟨by kernel_rfl, ⟨_, _, _, Try.underlying59⟩⟩ ?_
  refine ttok_cons ⟨by kernel_rfl, ⟨_, _, _, Try.underlying60⟩⟩ ?_
  refine ttok_cons ⟨by kernel_rfl, ⟨_, _, _, Try.underlying61⟩⟩ ?_
  refine ttok_cons ⟨by kernel_rfl, Try.underlying62⟩ ?_
  refine ttok_cons ⟨by kernel_rfl, ⟨_, _, _, Try.underlying64⟩⟩ ?_
  refine ttok_cons ⟨by kernel_rfl, ⟨_, _, _, Try.underlying66⟩⟩ ?_
  refine ttok_cons ⟨by kernel_rfl, ⟨_, _, _, Try.underlying67⟩⟩ ?_
  refine ttok_cons ⟨by kernel_rfl, ⟨_, _, _, Try.underlying68⟩⟩ ?_
  refine ttok_cons ⟨by kernel_rfl, ⟨_, _, _, Try.underlying69⟩⟩ ?_
  refine ttok_cons ⟨by kernel_rfl, ⟨_, _, _, Try.underlying70⟩⟩ ?_
  refine ttok_cons ⟨by kernel_rfl, ⟨_, _, _, Try.underlying71⟩⟩ ?_
  refine ttok_cons ⟨by kernel_rfl, Try.underlying72⟩ ?_
  refine ttok_cons ⟨by kernel_rfl, ⟨_, _, _, Try.underlying73⟩⟩ ?_
  refine ttok_cons ⟨by kernel_rfl, ⟨_, _, _, Try.underlying74⟩⟩ ?_
  refine ttok_cons ⟨by kernel_rfl, ⟨_, _, _, Try.underlying75⟩⟩ ?_
  refine ttok_cons ⟨by kernel_rfl, ⟨_, _, _, Try.underlying76⟩⟩ ?_
  refine ttok_cons ⟨by kernel_rfl, ⟨_, _, _, Try.underlying82⟩⟩ ?_
  refine ttok_cons ⟨by kernel_rfl, Try.underlying83⟩ ?_
  refine ttok_cons ⟨by kernel_rfl, Try.underlying84⟩ ?_
  refine ttok_cons ⟨by kernel_rfl, Try.underlying85⟩ ?_
  refine ttok_cons ⟨by kernel_rfl, ⟨_, _, _, Try.underlying86⟩⟩ ?_
  refine ttok_cons ⟨by kernel_rfl, Try.underlying87⟩ ?_
  refine ttok_cons ⟨by kernel_rfl, Try.underlying88⟩ ?_
  refine ttok_cons ⟨by kernel_rfl, Try.underlying89⟩ ?_
  exact ttok_nil _
theorem mix : Try.prog.follows .mixedOrders = true := by kernel_rfl
theorem cmpstr : CmpStr Try.prog 67 := CmpStr.of Try.func67 (by kernel_rfl) (by kernel_rfl) (by kernel_rfl) rfl
/-! sluicegate/sluicegatelaw10.great -/
mutual
def sluicegatelaw10_great.l0 : Nat → (List (List (List UInt8 × Bool × List UInt8))) → (Int) → Option (Bool)
  | 0, _, _ => none
  | k + 1, a0, x1 => if (decide (x1 < (a0.length : Int))) = true then (sluicegatelaw10_great.l1 k a0 x1 0) else (some false)
def sluicegatelaw10_great.l1 : Nat → (List (List (List UInt8 × Bool × List UInt8))) → (Int) → (Int) → Option (Bool)
  | 0, _, _, _ => none
  | k + 1, a0, x1, x2 => if 0 ≤ x1 ∧ x1 < (a0.length : Int) then (if (decide (x2 < ((gt a0 x1).length : Int))) = true then (if (decide (x2 < 200)) = true then (if 0 ≤ x2 ∧ x2 < ((gt a0 x1).length : Int) then (if (decide (300 < (((gt (gt a0 x1) x2).1).length : Int))) = true then (some true) else (sluicegatelaw10_great.l1 k a0 x1 (w64 (x2 + 1)))) else none) else (if (decide (150 < ((gt a0 x1).length : Int))) = true then (some true) else (sluicegatelaw10_great.l0 k a0 (w64 (x1 + 1))))) else (if (decide (150 < ((gt a0 x1).length : Int))) = true then (some true) else (sluicegatelaw10_great.l0 k a0 (w64 (x1 + 1))))) else none
end
def sluicegatelaw10_great.f (k : Nat) (a0 : List (List (List UInt8 × Bool × List UInt8))) : Option (Bool) := sluicegatelaw10_great.l0 k a0 0
set_option maxRecDepth 20000 in
set_option maxHeartbeats 4000000 in
theorem sluicegatelaw10_great.spec {k : Nat} {a0 : List (List (List UInt8 × Bool × List UInt8))} {A1 : Option Addr} {c_1 : Nat} {r : Bool} (H : sluicegatelaw10_great.f k a0 = some r) :
    Spec Try.prog 28 [.slice A1 a0.length c_1] [] [rdC 38 (.slice 55 (.pair .str (.pair .bool .str))) a0 (.slice A1 a0.length c_1)] (fun v l => v = .bool r ∧ l = []) := by
  refine Spec.enter Try.func28 rfl (by kernel_rfl) (by kernel_rfl) fun w0 F0 h0 => ?_
  unfold sluicegatelaw10_great.f at H
  refine J.seq ?_
  refine J.region ?_
  refine RJ.run ttok 1 rfl ?_
  refine RJ.fin [(0, .slice A1 a0.length c_1)] rfl ?_
  refine J.seq ?_
  refine J.seq ?_
  refine J.region ?_
  refine RJ.run ttok 1 rfl ?_
  refine RJ.fin [(0, .slice A1 a0.length c_1), (3, .int .i64 0)] rfl ?_
  refine J.block ?_
  have h8 := ((h0.only [] rfl).rds [0] rfl)
  refine J.loop (fun k env w => ∃ (x1 : Int), env = [(0, .slice A1 a0.length c_1), (3, .int .i64 x1)] ∧ St w0 F0 [] [rdC 38 (.slice 55 (.pair .str (.pair .bool .str))) a0 (.slice A1 a0.length c_1)] w ∧ sluicegatelaw10_great.l0 k a0 x1 = some r) (k := k) ⟨0, rfl, h8, H⟩ ?_
  rintro k1 env w1 ⟨x1, rfl, h1, H⟩
  cases k1 with
  | zero => exact nomatch (show none = some r from H)
  | succ k1 =>
    rw [sluicegatelaw10_great.l0] at H
    refine J.seq ?_
    refine J.seq ?_
    refine J.region ?_
    refine RJ.run ttok 4 rfl ?_
    refine RJ.fin [(0, .slice A1 a0.length c_1), (3, .int .i64 x1), (8, .bool (decide (x1 < (a0.length : Int))))] rfl ?_
    refine J.cond rfl (fun c1 => ?_) (fun c1 => ?_)
    · replace H := ite_t c1 H
      refine J.skip ?_
      refine J.seq ?_
      refine J.block ?_
      refine J.seq ?_
      refine J.seq ?_
      refine J.region ?_
      refine RJ.run ttok 1 rfl ?_
      refine RJ.fin [(0, .slice A1 a0.length c_1), (3, .int .i64 x1), (4, .int .i64 0)] rfl ?_
      refine J.block ?_
      have h7 := ((h1.only [] rfl).rds [0] rfl)
      refine J.loop (fun k env w => ∃ (x2 : Int), env = [(0, .slice A1 a0.length c_1), (3, .int .i64 x1), (4, .int .i64 x2)] ∧ St w0 F0 [] [rdC 38 (.slice 55 (.pair .str (.pair .bool .str))) a0 (.slice A1 a0.length c_1)] w ∧ sluicegatelaw10_great.l1 k a0 x1 x2 = some r ∧ k ≤ k1) (k := k1) ⟨0, rfl, h7, H, Nat.le_refl _⟩ ?_
      rintro k2 env w2 ⟨x2, rfl, h2, H, hk2⟩
      cases k2 with
      | zero => exact nomatch (show none = some r from H)
      | succ k2 =>
        rw [sluicegatelaw10_great.l1] at H
        refine J.seq ?_
        refine J.seq ?_
        refine J.region ?_
        refine RJ.run ttok 3 rfl ?_
        obtain ⟨⟨p1, p2⟩, H⟩ := guard_t H
        have e1 := elem_A h2.wh (Gives.self 0 rfl) p1 p2
        refine RJ.q rfl rfl (q_index ttok rfl rfl rfl rfl rfl e1 p1 p2) ?_
        obtain ⟨cs1, h3⟩ := h2.elem 0 rfl p1 p2
        obtain ⟨A2, c_2, rfl⟩ := St.okslice 0 h3 rfl
        refine RJ.q rfl rfl (q_load_el (f := 0) ttok (fun w e => e ▸ h3.wh) (Gives.self 1 rfl) rfl rfl rfl rfl) ?_
        refine RJ.run ttok 3 rfl ?_
        rcases Bool.eq_false_or_eq_true (decide (x2 < ((gt a0 x1).length : Int))) with c2 | c2
        · replace H := ite_t c2 H
          refine RJ.know (t := 18) rfl (congrArg Value.bool c2) ?_
          refine RJ.run ttok 3 rfl ?_
          refine RJ.fin [(0, .slice A1 a0.length c_1), (3, .int .i64 x1), (4, .int .i64 x2), (21, .bool (decide (x2 < 200)))] rfl ?_
          refine J.cond rfl (fun c3 => ?_) (fun c3 => ?_)
          · replace H := ite_t c3 H
            refine J.skip ?_
            refine J.seq ?_
            refine J.block ?_
            refine J.seq ?_
            refine J.region ?_
            refine RJ.run ttok 2 rfl ?_
            refine RJ.q rfl rfl (q_index ttok rfl rfl rfl rfl rfl e1 p1 p2) ?_
            refine RJ.q rfl rfl (q_load_el (f := 0) ttok (fun w e => e ▸ h3.wh) (Gives.self 1 rfl) rfl rfl rfl rfl) ?_
            refine RJ.run ttok 1 rfl ?_
            obtain ⟨⟨p3, p4⟩, H⟩ := guard_t H
            have e2 := elem_A h3.wh (Gives.self 0 rfl) p3 p4
            refine RJ.q rfl rfl (q_index ttok rfl rfl rfl rfl rfl e2 p3 p4) ?_
            refine RJ.run ttok 1 rfl ?_
            refine RJ.q rfl rfl (q_load_elem (f := 0) ttok rfl (fun w e => e ▸ h3.wh) (Gives.self 0 rfl) p3 p4 rfl rfl rfl rfl rfl) ?_
            refine RJ.run ttok 2 rfl ?_
            refine RJ.fin [(0, .slice A1 a0.length c_1), (3, .int .i64 x1), (4, .int .i64 x2), (33, .bool (decide (300 < (((gt (gt a0 x1) x2).1).length : Int))))] rfl ?_
            refine J.cond rfl (fun c4 => ?_) (fun c4 => ?_)
            · replace H := ite_t c4 H
              refine J.seq ?_
              refine J.region ?_
              refine RJ.run ttok 1 rfl ?_
              refine RJ.fin [(2, .bool true)] rfl ?_
              refine J.ret ?_
              obtain rfl := Option.some.inj H
              exact ⟨_, _, _, (results_slots rfl), ⟨rfl, rfl⟩, h3.only [] rfl⟩
            · replace H := ite_f c4 H
              refine J.skip ?_
              refine J.region ?_
              refine RJ.run ttok 3 rfl ?_
              refine RJ.fin [(0, .slice A1 a0.length c_1), (3, .int .i64 x1), (4, .int .i64 (w64 (x2 + 1)))] rfl ?_
              have h4 := ((h3.only [] rfl).rds [2] rfl)
              exact ⟨k2, by omega, (w64 (x2 + 1)), rfl, h4, H, by omega⟩
          · replace H := ite_f c3 H
            refine J.exit ?_
            refine J.seq ?_
            refine J.region ?_
            refine RJ.run ttok 2 rfl ?_
            refine RJ.q rfl rfl (q_index ttok rfl rfl rfl rfl rfl e1 p1 p2) ?_
            refine RJ.q rfl rfl (q_load_el (f := 0) ttok (fun w e => e ▸ h3.wh) (Gives.self 1 rfl) rfl rfl rfl rfl) ?_
            refine RJ.run ttok 2 rfl ?_
            refine RJ.fin [(0, .slice A1 a0.length c_1), (3, .int .i64 x1), (39, .bool (decide (150 < ((gt a0 x1).length : Int))))] rfl ?_
            refine J.cond rfl (fun c5 => ?_) (fun c5 => ?_)
            · replace H := ite_t c5 H
              refine J.seq ?_
              refine J.region ?_
              refine RJ.run ttok 1 rfl ?_
              refine RJ.fin [(2, .bool true)] rfl ?_
              refine J.ret ?_
              obtain rfl := Option.some.inj H
              exact ⟨_, _, _, (results_slots rfl), ⟨rfl, rfl⟩, h3.only [] rfl⟩
            · replace H := ite_f c5 H
              refine J.skip ?_
              refine J.region ?_
              refine RJ.run ttok 3 rfl ?_
              refine RJ.fin [(0, .slice A1 a0.length c_1), (3, .int .i64 (w64 (x1 + 1)))] rfl ?_
              have h5 := ((h3.only [] rfl).rds [2] rfl)
              exact ⟨k2, by omega, (w64 (x1 + 1)), rfl, h5, H⟩
        · replace H := ite_f c2 H
          refine RJ.know (t := 18) rfl (congrArg Value.bool c2) ?_
          refine RJ.run ttok 3 rfl ?_
          refine RJ.fin [(0, .slice A1 a0.length c_1), (3, .int .i64 x1), (4, .int .i64 x2), (21, .bool false)] rfl ?_
          refine J.condF rfl ?_
          refine J.exit ?_
          refine J.seq ?_
          refine J.region ?_
          refine RJ.run ttok 2 rfl ?_
          refine RJ.q rfl rfl (q_index ttok rfl rfl rfl rfl rfl e1 p1 p2) ?_
          refine RJ.q rfl rfl (q_load_el (f := 0) ttok (fun w e => e ▸ h3.wh) (Gives.self 1 rfl) rfl rfl rfl rfl) ?_
          refine RJ.run ttok 2 rfl ?_
          refine RJ.fin [(0, .slice A1 a0.length c_1), (3, .int .i64 x1), (39, .bool (decide (150 < ((gt a0 x1).length : Int))))] rfl ?_
          refine J.cond rfl (fun c6 => ?_) (fun c6 => ?_)
          · replace H := ite_t c6 H
            refine J.seq ?_
            refine J.region ?_
            refine RJ.run ttok 1 rfl ?_
            refine RJ.fin [(2, .bool true)] rfl ?_
            refine J.ret ?_
            obtain rfl := Option.some.inj H
            exact ⟨_, _, _, (results_slots rfl), ⟨rfl, rfl⟩, h3.only [] rfl⟩
          · replace H := ite_f c6 H
            refine J.skip ?_
            refine J.region ?_
            refine RJ.run ttok 3 rfl ?_
            refine RJ.fin [(0, .slice A1 a0.length c_1), (3, .int .i64 (w64 (x1 + 1)))] rfl ?_
            have h6 := ((h3.only [] rfl).rds [2] rfl)
            exact ⟨k2, by omega, (w64 (x1 + 1)), rfl, h6, H⟩
    · replace H := ite_f c1 H
      refine J.exit ?_
      refine J.seq ?_
      refine J.region ?_
      refine RJ.run ttok 1 rfl ?_
      refine RJ.fin [(2, .bool false)] rfl ?_
      refine J.ret ?_
      obtain rfl := Option.some.inj H
      exact ⟨_, _, _, (results_slots rfl), ⟨rfl, rfl⟩, h1.only [] rfl⟩

/-! internal/bytealg.CompareString -/
def bytealg_CompareString.f (a0 : List UInt8) (a1 : List UInt8) : Option (Int) := some (scmp a0 a1)
set_option maxRecDepth 20000 in
set_option maxHeartbeats 4000000 in
theorem bytealg_CompareString.spec {a0 : List UInt8} {a1 : List UInt8}  {r : Int} (H : bytealg_CompareString.f a0 a1 = some r) :
    Spec Try.prog 63 [.string ⟨⟨a0⟩⟩, .string ⟨⟨a1⟩⟩] [] [] (fun v l => v = .int .i64 r ∧ l = []) := by
  refine Spec.enter Try.func63 rfl (by kernel_rfl) (by kernel_rfl) fun w0 F0 h0 => ?_
  unfold bytealg_CompareString.f at H
  refine J.seq ?_
  refine J.region ?_
  refine RJ.run ttok 1 rfl ?_
  refine RJ.fin [(0, .string ⟨⟨a0⟩⟩), (1, .string ⟨⟨a1⟩⟩)] rfl ?_
  refine J.seq ?_
  refine J.region ?_
  refine RJ.run ttok 2 rfl ?_
  refine RJ.q rfl rfl (q_cmpstr cmpstr rfl rfl rfl) ?_
  refine RJ.run ttok 1 rfl ?_
  refine RJ.fin [(4, .int .i64 (scmp a0 a1))] rfl ?_
  refine J.ret ?_
  obtain rfl := Option.some.inj H
  exact ⟨_, _, _, (results_slots rfl), ⟨rfl, rfl⟩, h0.only [] rfl⟩

/-! strings.Compare -/
def strings_Compare.f (a0 : List UInt8) (a1 : List UInt8) : Option (Int) := (bytealg_CompareString.f a0 a1).bind fun r1 => (some r1)
set_option maxRecDepth 20000 in
set_option maxHeartbeats 4000000 in
theorem strings_Compare.spec {a0 : List UInt8} {a1 : List UInt8}  {r : Int} (H : strings_Compare.f a0 a1 = some r) :
    Spec Try.prog 54 [.string ⟨⟨a0⟩⟩, .string ⟨⟨a1⟩⟩] [] [] (fun v l => v = .int .i64 r ∧ l = []) := by
  refine Spec.enter Try.func54 rfl (by kernel_rfl) (by kernel_rfl) fun w0 F0 h0 => ?_
  unfold strings_Compare.f at H
  refine J.seq ?_
  refine J.region ?_
  refine RJ.run ttok 1 rfl ?_
  refine RJ.fin [(0, .string ⟨⟨a0⟩⟩), (1, .string ⟨⟨a1⟩⟩)] rfl ?_
  refine J.seq ?_
  refine J.region ?_
  refine RJ.run ttok 2 rfl ?_
  obtain ⟨r1, q1, H⟩ := bind_t H
  refine RJ.op rfl rfl (op_call [] (bytealg_CompareString.spec q1) rfl rfl rfl h0 rfl gnil) ?_
  rintro _ w1 ⟨_, ⟨rfl, rfl⟩, h1⟩
  refine RJ.run ttok 1 rfl ?_
  refine RJ.fin [(4, .int .i64 r1)] rfl ?_
  refine J.ret ?_
  obtain rfl := Option.some.inj H
  exact ⟨_, _, _, (results_slots rfl), ⟨rfl, rfl⟩, h1.only [] rfl⟩

/-! sluicegate/lex.Compare -/
def lex_Compare.f (a0 : List UInt8) (a1 : List UInt8) : Option (Int) := (strings_Compare.f a0 a1).bind fun r1 => (some r1)
set_option maxRecDepth 20000 in
set_option maxHeartbeats 4000000 in
theorem lex_Compare.spec {a0 : List UInt8} {a1 : List UInt8}  {r : Int} (H : lex_Compare.f a0 a1 = some r) :
    Spec Try.prog 24 [.string ⟨⟨a0⟩⟩, .string ⟨⟨a1⟩⟩] [] [] (fun v l => v = .int .i64 r ∧ l = []) := by
  refine Spec.enter Try.func24 rfl (by kernel_rfl) (by kernel_rfl) fun w0 F0 h0 => ?_
  unfold lex_Compare.f at H
  refine J.seq ?_
  refine J.region ?_
  refine RJ.run ttok 1 rfl ?_
  refine RJ.fin [(0, .string ⟨⟨a0⟩⟩), (1, .string ⟨⟨a1⟩⟩)] rfl ?_
  refine J.seq ?_
  refine J.region ?_
  refine RJ.run ttok 2 rfl ?_
  obtain ⟨r1, q1, H⟩ := bind_t H
  refine RJ.op rfl rfl (op_call [] (strings_Compare.spec q1) rfl rfl rfl h0 rfl gnil) ?_
  rintro _ w1 ⟨_, ⟨rfl, rfl⟩, h1⟩
  refine RJ.run ttok 1 rfl ?_
  refine RJ.fin [(4, .int .i64 r1)] rfl ?_
  refine J.ret ?_
  obtain rfl := Option.some.inj H
  exact ⟨_, _, _, (results_slots rfl), ⟨rfl, rfl⟩, h1.only [] rfl⟩

/-! sluicegate/buf.Merge -/
def buf_Merge.l0 : Nat → (List (List UInt8 × Bool × List UInt8)) → (List (List UInt8 × Bool × List UInt8)) → (List (List UInt8 × Bool × List UInt8)) → Option ((List (List UInt8 × Bool × List UInt8)))
  | 0, _, _, _ => none
  | k + 1, x1, x2, x3 => if (decide (0 < (x1.length : Int))) = true then (if (decide (0 < (x2.length : Int))) = true then (if 0 < (x1.length : Int) then (if 0 < (x2.length : Int) then ((lex_Compare.f ((gt x1 0).1) ((gt x2 0).1)).bind fun r1 => (if (decide (r1 = 1)) = true then (if (x3.length + ([((gt x2 0).1, (gt x2 0).2.1, (gt x2 0).2.2)] : List (List UInt8 × Bool × List UInt8)).length) * 40 ≤ 140737488355328 then (if (1 : Int) ≤ (x2.length : Int) then (buf_Merge.l0 k x1 (x2.drop 1) (x3 ++ ([((gt x2 0).1, (gt x2 0).2.1, (gt x2 0).2.2)] : List (List UInt8 × Bool × List UInt8)))) else none) else none) else (if (decide (r1 = 0)) = true then (if (1 : Int) ≤ (x2.length : Int) then (if (x3.length + ([((gt x1 0).1, (gt x1 0).2.1, (gt x1 0).2.2)] : List (List UInt8 × Bool × List UInt8)).length) * 40 ≤ 140737488355328 then (if (1 : Int) ≤ (x1.length : Int) then (buf_Merge.l0 k (x1.drop 1) (x2.drop 1) (x3 ++ ([((gt x1 0).1, (gt x1 0).2.1, (gt x1 0).2.2)] : List (List UInt8 × Bool × List UInt8)))) else none) else none) else none) else (if (x3.length + ([((gt x1 0).1, (gt x1 0).2.1, (gt x1 0).2.2)] : List (List UInt8 × Bool × List UInt8)).length) * 40 ≤ 140737488355328 then (if (1 : Int) ≤ (x1.length : Int) then (buf_Merge.l0 k (x1.drop 1) x2 (x3 ++ ([((gt x1 0).1, (gt x1 0).2.1, (gt x1 0).2.2)] : List (List UInt8 × Bool × List UInt8)))) else none) else none)))) else none) else none) else (if (x3.length + x1.length) * 40 ≤ 140737488355328 then (if ((x3 ++ x1).length + x2.length) * 40 ≤ 140737488355328 then (some ((x3 ++ x1) ++ x2)) else none) else none)) else (if (x3.length + x1.length) * 40 ≤ 140737488355328 then (if ((x3 ++ x1).length + x2.length) * 40 ≤ 140737488355328 then (some ((x3 ++ x1) ++ x2)) else none) else none)
def buf_Merge.f (k : Nat) (a0 : List (List UInt8 × Bool × List UInt8)) (a1 : List (List UInt8 × Bool × List UInt8)) : Option ((List (List UInt8 × Bool × List UInt8))) := if 0 ≤ (w64 ((a0.length : Int) + (a1.length : Int))) ∧ (w64 ((a0.length : Int) + (a1.length : Int))) * 40 ≤ 281474976710656 then (buf_Merge.l0 k a0 a1 ([] : List (List UInt8 × Bool × List UInt8))) else none
set_option maxRecDepth 20000 in
set_option maxHeartbeats 4000000 in
theorem buf_Merge.spec {k : Nat} {a0 : List (List UInt8 × Bool × List UInt8)} {a1 : List (List UInt8 × Bool × List UInt8)} {A1 : Option Addr} {c_1 : Nat} {A2 : Option Addr} {c_2 : Nat} {r : (List (List UInt8 × Bool × List UInt8))} (H : buf_Merge.f k a0 a1 = some r) :
    Spec Try.prog 51 [.slice A1 a0.length c_1, .slice A2 a1.length c_2] [] [rdC 55 (.pair .str (.pair .bool .str)) a0 (.slice A1 a0.length c_1), rdC 55 (.pair .str (.pair .bool .str)) a1 (.slice A2 a1.length c_2)] (fun v l => ∃ (A_0 : Option Addr) (c_0 : Nat), v = .slice A_0 r.length c_0 ∧ l = [ownC 55 (.pair .str (.pair .bool .str)) r (.slice A_0 r.length c_0)]) := by
  refine Spec.enter Try.func51 rfl (by kernel_rfl) (by kernel_rfl) fun w0 F0 h0 => ?_
  unfold buf_Merge.f at H
  refine J.seq ?_
  refine J.region ?_
  refine RJ.run ttok 1 rfl ?_
  refine RJ.fin [(0, .slice A1 a0.length c_1), (1, .slice A2 a1.length c_2)] rfl ?_
  refine J.seq ?_
  refine J.region ?_
  refine RJ.run ttok 5 rfl ?_
  obtain ⟨⟨p1, p2⟩, H⟩ := guard_t H
  refine RJ.op rfl rfl (op_make0 ttok (.pair .str (.pair .bool .str)) rfl rfl rfl rfl rfl rfl (by decide) h0 p1 p2) ?_
  rintro _ w1 ⟨b1, rfl, h1⟩
  refine RJ.run ttok 1 rfl ?_
  refine RJ.fin [(0, .slice A1 a0.length c_1), (1, .slice A2 a1.length c_2), (5, .slice (some ⟨b1, 0, none⟩) ([] : List (List UInt8 × Bool × List UInt8)).length ((w64 ((a0.length : Int) + (a1.length : Int))).toNat))] rfl ?_
  refine J.seq ?_
  refine J.block ?_
  have h22 := ((h1.only [0] rfl).rds [0, 1] rfl)
  refine J.loop (fun k env w => ∃ (x1 : List (List UInt8 × Bool × List UInt8)) (A3 : Option Addr) (c_3 : Nat) (x2 : List (List UInt8 × Bool × List UInt8)) (A4 : Option Addr) (c_4 : Nat) (x3 : List (List UInt8 × Bool × List UInt8)) (A5 : Option Addr) (c_5 : Nat), env = [(0, .slice A3 x1.length c_3), (1, .slice A4 x2.length c_4), (5, .slice A5 x3.length c_5)] ∧ St w0 F0 [ownC 55 (.pair .str (.pair .bool .str)) x3 (.slice A5 x3.length c_5)] [rdC 55 (.pair .str (.pair .bool .str)) x1 (.slice A3 x1.length c_3), rdC 55 (.pair .str (.pair .bool .str)) x2 (.slice A4 x2.length c_4)] w ∧ buf_Merge.l0 k x1 x2 x3 = some r) (k := k) ⟨a0, A1, c_1, a1, A2, c_2, ([] : List (List UInt8 × Bool × List UInt8)), (some ⟨b1, 0, none⟩), ((w64 ((a0.length : Int) + (a1.length : Int))).toNat), rfl, h22, H⟩ ?_
  rintro k1 env w2 ⟨x1, A3, c_3, x2, A4, c_4, x3, A5, c_5, rfl, h2, H⟩
  cases k1 with
  | zero => exact nomatch (show none = some r from H)
  | succ k1 =>
    rw [buf_Merge.l0] at H
    refine J.seq ?_
    refine J.seq ?_
    refine J.region ?_
    refine RJ.run ttok 4 rfl ?_
    rcases Bool.eq_false_or_eq_true (decide (0 < (x1.length : Int))) with c1 | c1
    · replace H := ite_t c1 H
      refine RJ.know (t := 15) rfl (congrArg Value.bool c1) ?_
      refine RJ.run ttok 4 rfl ?_
      refine RJ.fin [(0, .slice A3 x1.length c_3), (1, .slice A4 x2.length c_4), (5, .slice A5 x3.length c_5), (19, .bool (decide (0 < (x2.length : Int))))] rfl ?_
      refine J.cond rfl (fun c2 => ?_) (fun c2 => ?_)
      · replace H := ite_t c2 H
        refine J.skip ?_
        refine J.block ?_
        refine J.seq ?_
        refine J.seq ?_
        refine J.heldSt mix h2 ?_
        have h3 := h2.drew
        refine HJ.run ttok rfl [0, 4] rfl ?_
        obtain ⟨p3, H⟩ := guard_t H
        have e1 := elem_A h3.wh (Gives.self 1 rfl) (by decide) p3
        refine HJ.q (i := 1) rfl rfl rfl rfl rfl rfl (q_index ttok rfl rfl rfl rfl rfl e1 (by decide) p3) ?_
        refine HJ.run ttok rfl [2] rfl ?_
        refine HJ.q (i := 3) rfl rfl rfl rfl rfl rfl (q_load_elem (f := 0) ttok rfl (fun w e => e) (Gives.self 1 rfl) (by decide) p3 rfl rfl rfl rfl rfl) ?_
        obtain ⟨p4, H⟩ := guard_t H
        have e2 := elem_A h3.wh (Gives.self 2 rfl) (by decide) p4
        refine HJ.q (i := 5) rfl rfl rfl rfl rfl rfl (q_index ttok rfl rfl rfl rfl rfl e2 (by decide) p4) ?_
        refine HJ.run ttok rfl [6] rfl ?_
        refine HJ.q (i := 7) rfl rfl rfl rfl rfl rfl (q_load_elem (f := 0) ttok rfl (fun w e => e) (Gives.self 2 rfl) (by decide) p4 rfl rfl rfl rfl rfl) ?_
        obtain ⟨r1, q1, H⟩ := bind_t H
        refine HJ.op (i := 8) rfl rfl rfl rfl rfl (op_call [] (lex_Compare.spec q1) rfl rfl rfl h3 rfl gnil) ?_
        rintro _ w3 ⟨_, ⟨rfl, rfl⟩, h4⟩
        refine ⟨⟨[], h4⟩, ?_⟩
        refine HJ.fin [(0, .slice A3 x1.length c_3), (1, .slice A4 x2.length c_4), (5, .slice A5 x3.length c_5), (28, .int .i64 r1)] rfl rfl ?_
        refine J.block ?_
        refine J.seq ?_
        refine J.region ?_
        refine RJ.run ttok 2 rfl ?_
        refine RJ.fin [(0, .slice A3 x1.length c_3), (1, .slice A4 x2.length c_4), (5, .slice A5 x3.length c_5), (28, .int .i64 r1), (29, .bool (decide (r1 = 1)))] rfl ?_
        refine J.cond rfl (fun c3 => ?_) (fun c3 => ?_)
        · replace H := ite_t c3 H
          refine J.seq ?_
          refine J.region ?_
          refine RJ.run ttok 2 rfl ?_
          refine RJ.q rfl rfl (q_index ttok rfl rfl rfl rfl rfl e2 (by decide) p4) ?_
          refine RJ.q rfl rfl (q_load_elem (f := 0) ttok rfl (fun w e => e ▸ h4.wh) (Gives.self 2 rfl) (by decide) p4 rfl rfl rfl rfl rfl) ?_
          refine RJ.op rfl rfl (op_lit ttok (.pair .str (.pair .bool .str)) rfl ([((gt x2 0).1, (gt x2 0).2.1, (gt x2 0).2.2)] : List (List UInt8 × Bool × List UInt8)) rfl h4 rfl rfl (by decide) rfl rfl rfl rfl rfl rfl rfl) ?_
          rintro _ w4 ⟨b2, rfl, h5⟩
          obtain ⟨p5, H⟩ := guard_t H
          refine RJ.op rfl rfl (op_append ttok rfl 1 rfl h5 rfl (Gives.of 0 rfl own_rd) rfl rfl rfl rfl rfl rfl (by decide) (by decide) p5) ?_
          rintro _ w5 ⟨A6, c_6, rfl, h6⟩
          refine RJ.run ttok 1 rfl ?_
          refine RJ.fin [(0, .slice A3 x1.length c_3), (1, .slice A4 x2.length c_4), (5, .slice A6 (x3 ++ ([((gt x2 0).1, (gt x2 0).2.1, (gt x2 0).2.2)] : List (List UInt8 × Bool × List UInt8))).length c_6)] rfl ?_
          refine J.seq ?_
          refine J.region ?_
          refine RJ.run ttok 1 rfl ?_
          obtain ⟨p6, H⟩ := guard_t H
          have e3 := h6.cap (Gives.self 3 rfl)
          refine RJ.q rfl rfl (q_cut (l := 1) (h := (x2.length : Int)) (sub := (x2.drop 1)) ttok rfl rfl rfl rfl e3 ⟨_, rfl⟩ rfl (by decide) p6 (Int.le_refl _) (cut_from _ _)) ?_
          refine RJ.run ttok 1 rfl ?_
          refine RJ.fin [(0, .slice A3 x1.length c_3), (1, .slice (cutA A4 c_4 1 3) (x2.drop 1).length (c_4 - 1)), (5, .slice A6 (x3 ++ ([((gt x2 0).1, (gt x2 0).2.1, (gt x2 0).2.2)] : List (List UInt8 × Bool × List UInt8))).length c_6)] rfl ?_
          refine J.exit ?_
          have h7 := h6.read (k := 1) rfl (fun w F h => ((rd_cut (ty := (.pair .str (.pair .bool .str))) (l := 1) (h := (x2.length : Int)) (sub := (x2.drop 1)) rfl (by decide) p6 (Int.le_refl _) (cut_from _ _)) w F h))
          have h8 := ((h7.only [0] rfl).rds [1, 0] rfl)
          exact ⟨k1, by omega, x1, A3, c_3, (x2.drop 1), (cutA A4 c_4 1 3), (c_4 - 1), (x3 ++ ([((gt x2 0).1, (gt x2 0).2.1, (gt x2 0).2.2)] : List (List UInt8 × Bool × List UInt8))), A6, c_6, rfl, h8, H⟩
        · replace H := ite_f c3 H
          refine J.seq ?_
          refine J.region ?_
          refine RJ.run ttok 2 rfl ?_
          refine RJ.fin [(0, .slice A3 x1.length c_3), (1, .slice A4 x2.length c_4), (5, .slice A5 x3.length c_5), (39, .bool (decide (r1 = 0)))] rfl ?_
          refine J.cond rfl (fun c4 => ?_) (fun c4 => ?_)
          · replace H := ite_t c4 H
            refine J.region ?_
            refine RJ.run ttok 1 rfl ?_
            obtain ⟨p7, H⟩ := guard_t H
            have e4 := h4.cap (Gives.self 2 rfl)
            refine RJ.q rfl rfl (q_cut (l := 1) (h := (x2.length : Int)) (sub := (x2.drop 1)) ttok rfl rfl rfl rfl e4 ⟨_, rfl⟩ rfl (by decide) p7 (Int.le_refl _) (cut_from _ _)) ?_
            refine RJ.run ttok 1 rfl ?_
            refine RJ.fin [(0, .slice A3 x1.length c_3), (1, .slice (cutA A4 c_4 1 3) (x2.drop 1).length (c_4 - 1)), (5, .slice A5 x3.length c_5)] rfl ?_
            refine J.seq ?_
            refine J.region ?_
            refine RJ.run ttok 2 rfl ?_
            refine RJ.q rfl rfl (q_index ttok rfl rfl rfl rfl rfl e1 (by decide) p3) ?_
            refine RJ.q rfl rfl (q_load_elem (f := 0) ttok rfl (fun w e => e ▸ h4.wh) (Gives.self 1 rfl) (by decide) p3 rfl rfl rfl rfl rfl) ?_
            refine RJ.op rfl rfl (op_lit ttok (.pair .str (.pair .bool .str)) rfl ([((gt x1 0).1, (gt x1 0).2.1, (gt x1 0).2.2)] : List (List UInt8 × Bool × List UInt8)) rfl h4 rfl rfl (by decide) rfl rfl rfl rfl rfl rfl rfl) ?_
            rintro _ w6 ⟨b3, rfl, h9⟩
            obtain ⟨p8, H⟩ := guard_t H
            refine RJ.op rfl rfl (op_append ttok rfl 1 rfl h9 rfl (Gives.of 0 rfl own_rd) rfl rfl rfl rfl rfl rfl (by decide) (by decide) p8) ?_
            rintro _ w7 ⟨A7, c_7, rfl, h10⟩
            refine RJ.run ttok 1 rfl ?_
            refine RJ.fin [(0, .slice A3 x1.length c_3), (1, .slice (cutA A4 c_4 1 3) (x2.drop 1).length (c_4 - 1)), (5, .slice A7 (x3 ++ ([((gt x1 0).1, (gt x1 0).2.1, (gt x1 0).2.2)] : List (List UInt8 × Bool × List UInt8))).length c_7)] rfl ?_
            refine J.region ?_
            refine RJ.run ttok 1 rfl ?_
            obtain ⟨p9, H⟩ := guard_t H
            have e5 := h10.cap (Gives.self 2 rfl)
            refine RJ.q rfl rfl (q_cut (l := 1) (h := (x1.length : Int)) (sub := (x1.drop 1)) ttok rfl rfl rfl rfl e5 ⟨_, rfl⟩ rfl (by decide) p9 (Int.le_refl _) (cut_from _ _)) ?_
            refine RJ.run ttok 1 rfl ?_
            refine RJ.fin [(0, .slice (cutA A3 c_3 1 3) (x1.drop 1).length (c_3 - 1)), (1, .slice (cutA A4 c_4 1 3) (x2.drop 1).length (c_4 - 1)), (5, .slice A7 (x3 ++ ([((gt x1 0).1, (gt x1 0).2.1, (gt x1 0).2.2)] : List (List UInt8 × Bool × List UInt8))).length c_7)] rfl ?_
            have h11 := h10.read (k := 0) rfl (fun w F h => ((rd_cut (ty := (.pair .str (.pair .bool .str))) (l := 1) (h := (x1.length : Int)) (sub := (x1.drop 1)) rfl (by decide) p9 (Int.le_refl _) (cut_from _ _)) w F h))
            have h12 := h11.read (k := 2) rfl (fun w F h => ((rd_cut (ty := (.pair .str (.pair .bool .str))) (l := 1) (h := (x2.length : Int)) (sub := (x2.drop 1)) rfl (by decide) p7 (Int.le_refl _) (cut_from _ _)) w F h))
            have h13 := ((h12.only [0] rfl).rds [1, 0] rfl)
            exact ⟨k1, by omega, (x1.drop 1), (cutA A3 c_3 1 3), (c_3 - 1), (x2.drop 1), (cutA A4 c_4 1 3), (c_4 - 1), (x3 ++ ([((gt x1 0).1, (gt x1 0).2.1, (gt x1 0).2.2)] : List (List UInt8 × Bool × List UInt8))), A7, c_7, rfl, h13, H⟩
          · replace H := ite_f c4 H
            refine J.skip ?_
            refine J.seq ?_
            refine J.region ?_
            refine RJ.run ttok 2 rfl ?_
            refine RJ.q rfl rfl (q_index ttok rfl rfl rfl rfl rfl e1 (by decide) p3) ?_
            refine RJ.q rfl rfl (q_load_elem (f := 0) ttok rfl (fun w e => e ▸ h4.wh) (Gives.self 1 rfl) (by decide) p3 rfl rfl rfl rfl rfl) ?_
            refine RJ.op rfl rfl (op_lit ttok (.pair .str (.pair .bool .str)) rfl ([((gt x1 0).1, (gt x1 0).2.1, (gt x1 0).2.2)] : List (List UInt8 × Bool × List UInt8)) rfl h4 rfl rfl (by decide) rfl rfl rfl rfl rfl rfl rfl) ?_
            rintro _ w8 ⟨b4, rfl, h14⟩
            obtain ⟨p10, H⟩ := guard_t H
            refine RJ.op rfl rfl (op_append ttok rfl 1 rfl h14 rfl (Gives.of 0 rfl own_rd) rfl rfl rfl rfl rfl rfl (by decide) (by decide) p10) ?_
            rintro _ w9 ⟨A8, c_8, rfl, h15⟩
            refine RJ.run ttok 1 rfl ?_
            refine RJ.fin [(0, .slice A3 x1.length c_3), (1, .slice A4 x2.length c_4), (5, .slice A8 (x3 ++ ([((gt x1 0).1, (gt x1 0).2.1, (gt x1 0).2.2)] : List (List UInt8 × Bool × List UInt8))).length c_8)] rfl ?_
            refine J.region ?_
            refine RJ.run ttok 1 rfl ?_
            obtain ⟨p11, H⟩ := guard_t H
            have e6 := h15.cap (Gives.self 2 rfl)
            refine RJ.q rfl rfl (q_cut (l := 1) (h := (x1.length : Int)) (sub := (x1.drop 1)) ttok rfl rfl rfl rfl e6 ⟨_, rfl⟩ rfl (by decide) p11 (Int.le_refl _) (cut_from _ _)) ?_
            refine RJ.run ttok 1 rfl ?_
            refine RJ.fin [(0, .slice (cutA A3 c_3 1 3) (x1.drop 1).length (c_3 - 1)), (1, .slice A4 x2.length c_4), (5, .slice A8 (x3 ++ ([((gt x1 0).1, (gt x1 0).2.1, (gt x1 0).2.2)] : List (List UInt8 × Bool × List UInt8))).length c_8)] rfl ?_
            have h16 := h15.read (k := 0) rfl (fun w F h => ((rd_cut (ty := (.pair .str (.pair .bool .str))) (l := 1) (h := (x1.length : Int)) (sub := (x1.drop 1)) rfl (by decide) p11 (Int.le_refl _) (cut_from _ _)) w F h))
            have h17 := ((h16.only [0] rfl).rds [0, 2] rfl)
            exact ⟨k1, by omega, (x1.drop 1), (cutA A3 c_3 1 3), (c_3 - 1), x2, A4, c_4, (x3 ++ ([((gt x1 0).1, (gt x1 0).2.1, (gt x1 0).2.2)] : List (List UInt8 × Bool × List UInt8))), A8, c_8, rfl, h17, H⟩
      · replace H := ite_f c2 H
        refine J.exit ?_
        refine J.seq ?_
        refine J.region ?_
        refine RJ.run ttok 2 rfl ?_
        obtain ⟨p12, H⟩ := guard_t H
        refine RJ.op rfl rfl (op_append ttok rfl 0 rfl h2 rfl (Gives.self 0 rfl) rfl rfl rfl rfl rfl rfl (by decide) (by decide) p12) ?_
        rintro _ w10 ⟨A9, c_9, rfl, h18⟩
        refine RJ.run ttok 1 rfl ?_
        refine RJ.fin [(1, .slice A4 x2.length c_4), (5, .slice A9 (x3 ++ x1).length c_9)] rfl ?_
        refine J.seq ?_
        refine J.region ?_
        refine RJ.run ttok 2 rfl ?_
        obtain ⟨p13, H⟩ := guard_t H
        refine RJ.op rfl rfl (op_append ttok rfl 0 rfl h18 rfl (Gives.self 1 rfl) rfl rfl rfl rfl rfl rfl (by decide) (by decide) p13) ?_
        rintro _ w11 ⟨A10, c_10, rfl, h19⟩
        refine RJ.run ttok 1 rfl ?_
        refine RJ.fin [(4, .slice A10 ((x3 ++ x1) ++ x2).length c_10)] rfl ?_
        refine J.ret ?_
        obtain rfl := Option.some.inj H
        exact ⟨_, _, _, (results_slots rfl), ⟨_, _, rfl, rfl⟩, h19.only [0] rfl⟩
    · replace H := ite_f c1 H
      refine RJ.know (t := 15) rfl (congrArg Value.bool c1) ?_
      refine RJ.run ttok 4 rfl ?_
      refine RJ.fin [(0, .slice A3 x1.length c_3), (1, .slice A4 x2.length c_4), (5, .slice A5 x3.length c_5), (19, .bool false)] rfl ?_
      refine J.condF rfl ?_
      refine J.exit ?_
      refine J.seq ?_
      refine J.region ?_
      refine RJ.run ttok 2 rfl ?_
      obtain ⟨p14, H⟩ := guard_t H
      refine RJ.op rfl rfl (op_append ttok rfl 0 rfl h2 rfl (Gives.self 0 rfl) rfl rfl rfl rfl rfl rfl (by decide) (by decide) p14) ?_
      rintro _ w12 ⟨A11, c_11, rfl, h20⟩
      refine RJ.run ttok 1 rfl ?_
      refine RJ.fin [(1, .slice A4 x2.length c_4), (5, .slice A11 (x3 ++ x1).length c_11)] rfl ?_
      refine J.seq ?_
      refine J.region ?_
      refine RJ.run ttok 2 rfl ?_
      obtain ⟨p15, H⟩ := guard_t H
      refine RJ.op rfl rfl (op_append ttok rfl 0 rfl h20 rfl (Gives.self 1 rfl) rfl rfl rfl rfl rfl rfl (by decide) (by decide) p15) ?_
      rintro _ w13 ⟨A12, c_12, rfl, h21⟩
      refine RJ.run ttok 1 rfl ?_
      refine RJ.fin [(4, .slice A12 ((x3 ++ x1) ++ x2).length c_12)] rfl ?_
      refine J.ret ?_
      obtain rfl := Option.some.inj H
      exact ⟨_, _, _, (results_slots rfl), ⟨_, _, rfl, rfl⟩, h21.only [0] rfl⟩

/-! sluicegate/sluicegateref10.Same -/
def sluicegateref10_Same.l0 : Nat → (List (List UInt8 × Bool × List UInt8)) → (List (List UInt8 × Bool × List UInt8)) → (Int) → Option (Bool)
  | 0, _, _, _ => none
  | k + 1, a0, a1, x1 => if (decide (x1 < (a0.length : Int))) = true then (if 0 ≤ x1 ∧ x1 < (a0.length : Int) then (if 0 ≤ x1 ∧ x1 < (a1.length : Int) then (if (!((decide (((gt a0 x1).1) = ((gt a1 x1).1))) && ((((gt a0 x1).2.1) == ((gt a1 x1).2.1)) && ((decide (((gt a0 x1).2.2) = ((gt a1 x1).2.2))) && true)))) = true then (some false) else (sluicegateref10_Same.l0 k a0 a1 (w64 (x1 + 1)))) else none) else none) else (some true)
def sluicegateref10_Same.f (k : Nat) (a0 : List (List UInt8 × Bool × List UInt8)) (a1 : List (List UInt8 × Bool × List UInt8)) : Option (Bool) := if (!decide ((a0.length : Int) = (a1.length : Int))) = true then (some false) else (sluicegateref10_Same.l0 k a0 a1 0)
set_option maxRecDepth 20000 in
set_option maxHeartbeats 4000000 in
theorem sluicegateref10_Same.spec {k : Nat} {a0 : List (List UInt8 × Bool × List UInt8)} {a1 : List (List UInt8 × Bool × List UInt8)} {A1 : Option Addr} {c_1 : Nat} {A2 : Option Addr} {c_2 : Nat} {r : Bool} (H : sluicegateref10_Same.f k a0 a1 = some r) :
    Spec Try.prog 33 [.slice A1 a0.length c_1, .slice A2 a1.length c_2] [] [rdC 55 (.pair .str (.pair .bool .str)) a0 (.slice A1 a0.length c_1), rdC 55 (.pair .str (.pair .bool .str)) a1 (.slice A2 a1.length c_2)] (fun v l => v = .bool r ∧ l = []) := by
  refine Spec.enter Try.func33 rfl (by kernel_rfl) (by kernel_rfl) fun w0 F0 h0 => ?_
  unfold sluicegateref10_Same.f at H
  refine J.seq ?_
  refine J.region ?_
  refine RJ.run ttok 1 rfl ?_
  refine RJ.fin [(0, .slice A1 a0.length c_1), (1, .slice A2 a1.length c_2)] rfl ?_
  refine J.seq ?_
  refine J.seq ?_
  refine J.region ?_
  refine RJ.run ttok 5 rfl ?_
  refine RJ.fin [(0, .slice A1 a0.length c_1), (1, .slice A2 a1.length c_2), (10, .bool (!decide ((a0.length : Int) = (a1.length : Int))))] rfl ?_
  refine J.cond rfl (fun c1 => ?_) (fun c1 => ?_)
  · replace H := ite_t c1 H
    refine J.seq ?_
    refine J.region ?_
    refine RJ.run ttok 1 rfl ?_
    refine RJ.fin [(4, .bool false)] rfl ?_
    refine J.ret ?_
    obtain rfl := Option.some.inj H
    exact ⟨_, _, _, (results_slots rfl), ⟨rfl, rfl⟩, h0.only [] rfl⟩
  · replace H := ite_f c1 H
    refine J.skip ?_
    refine J.seq ?_
    refine J.seq ?_
    refine J.region ?_
    refine RJ.run ttok 1 rfl ?_
    refine RJ.fin [(0, .slice A1 a0.length c_1), (1, .slice A2 a1.length c_2), (5, .int .i64 0)] rfl ?_
    refine J.block ?_
    have h4 := ((h0.only [] rfl).rds [0, 1] rfl)
    refine J.loop (fun k env w => ∃ (x1 : Int), env = [(0, .slice A1 a0.length c_1), (1, .slice A2 a1.length c_2), (5, .int .i64 x1)] ∧ St w0 F0 [] [rdC 55 (.pair .str (.pair .bool .str)) a0 (.slice A1 a0.length c_1), rdC 55 (.pair .str (.pair .bool .str)) a1 (.slice A2 a1.length c_2)] w ∧ sluicegateref10_Same.l0 k a0 a1 x1 = some r) (k := k) ⟨0, rfl, h4, H⟩ ?_
    rintro k1 env w1 ⟨x1, rfl, h1, H⟩
    cases k1 with
    | zero => exact nomatch (show none = some r from H)
    | succ k1 =>
      rw [sluicegateref10_Same.l0] at H
      refine J.seq ?_
      refine J.seq ?_
      refine J.region ?_
      refine RJ.run ttok 4 rfl ?_
      refine RJ.fin [(0, .slice A1 a0.length c_1), (1, .slice A2 a1.length c_2), (5, .int .i64 x1), (14, .bool (decide (x1 < (a0.length : Int))))] rfl ?_
      refine J.cond rfl (fun c2 => ?_) (fun c2 => ?_)
      · replace H := ite_t c2 H
        refine J.skip ?_
        refine J.seq ?_
        refine J.block ?_
        refine J.seq ?_
        refine J.heldSt mix h1 ?_
        have h2 := h1.drew
        refine HJ.run ttok rfl [0, 1, 4, 5] rfl ?_
        obtain ⟨⟨p1, p2⟩, H⟩ := guard_t H
        have e1 := elem_A h2.wh (Gives.self 0 rfl) p1 p2
        refine HJ.q (i := 2) rfl rfl rfl rfl rfl rfl (q_index ttok rfl rfl rfl rfl rfl e1 p1 p2) ?_
        refine HJ.q (i := 3) rfl rfl rfl rfl rfl rfl (q_load_elem (f := 0) ttok rfl (fun w e => e) (Gives.self 0 rfl) p1 p2 rfl rfl rfl rfl rfl) ?_
        obtain ⟨⟨p3, p4⟩, H⟩ := guard_t H
        have e2 := elem_A h2.wh (Gives.self 1 rfl) p3 p4
        refine HJ.q (i := 6) rfl rfl rfl rfl rfl rfl (q_index ttok rfl rfl rfl rfl rfl e2 p3 p4) ?_
        refine HJ.q (i := 7) rfl rfl rfl rfl rfl rfl (q_load_elem (f := 0) ttok rfl (fun w e => e) (Gives.self 1 rfl) p3 p4 rfl rfl rfl rfl rfl) ?_
        refine HJ.run ttok rfl [8] rfl ?_
        refine HJ.fin [(0, .slice A1 a0.length c_1), (1, .slice A2 a1.length c_2), (5, .int .i64 x1), (25, .bool (!((decide (((gt a0 x1).1) = ((gt a1 x1).1))) && ((((gt a0 x1).2.1) == ((gt a1 x1).2.1)) && ((decide (((gt a0 x1).2.2) = ((gt a1 x1).2.2))) && true)))))] rfl rfl ?_
        refine J.cond rfl (fun c3 => ?_) (fun c3 => ?_)
        · replace H := ite_t c3 H
          refine J.seq ?_
          refine J.region ?_
          refine RJ.run ttok 1 rfl ?_
          refine RJ.fin [(4, .bool false)] rfl ?_
          refine J.ret ?_
          obtain rfl := Option.some.inj H
          exact ⟨_, _, _, (results_slots rfl), ⟨rfl, rfl⟩, h2.only [] rfl⟩
        · replace H := ite_f c3 H
          refine J.skip ?_
          refine J.region ?_
          refine RJ.run ttok 3 rfl ?_
          refine RJ.fin [(0, .slice A1 a0.length c_1), (1, .slice A2 a1.length c_2), (5, .int .i64 (w64 (x1 + 1)))] rfl ?_
          have h3 := ((h2.only [] rfl).rds [0, 1] rfl)
          exact ⟨k1, by omega, (w64 (x1 + 1)), rfl, h3, H⟩
      · replace H := ite_f c2 H
        refine J.exit ?_
        refine J.seq ?_
        refine J.region ?_
        refine RJ.run ttok 1 rfl ?_
        refine RJ.fin [(4, .bool true)] rfl ?_
        refine J.ret ?_
        obtain rfl := Option.some.inj H
        exact ⟨_, _, _, (results_slots rfl), ⟨rfl, rfl⟩, h1.only [] rfl⟩

/-! sluicegate/buf.Right -/
def buf_Right.l0 : Nat → (List (List UInt8 × Bool × List UInt8)) → (Int) → Option (Bool)
  | 0, _, _ => none
  | k + 1, a0, x1 => if (decide (x1 < (w64 ((a0.length : Int) - 1)))) = true then (if 0 ≤ x1 ∧ x1 < (a0.length : Int) then (if 0 ≤ (w64 (x1 + 1)) ∧ (w64 (x1 + 1)) < (a0.length : Int) then ((lex_Compare.f ((gt a0 x1).1) ((gt a0 (w64 (x1 + 1))).1)).bind fun r1 => (if (decide (0 ≤ r1)) = true then (some false) else (buf_Right.l0 k a0 (w64 (x1 + 1))))) else none) else none) else (some true)
def buf_Right.f (k : Nat) (a0 : List (List UInt8 × Bool × List UInt8)) : Option (Bool) := buf_Right.l0 k a0 0
set_option maxRecDepth 20000 in
set_option maxHeartbeats 4000000 in
theorem buf_Right.spec {k : Nat} {a0 : List (List UInt8 × Bool × List UInt8)} {A1 : Option Addr} {c_1 : Nat} {r : Bool} (H : buf_Right.f k a0 = some r) :
    Spec Try.prog 30 [.slice A1 a0.length c_1] [] [rdC 55 (.pair .str (.pair .bool .str)) a0 (.slice A1 a0.length c_1)] (fun v l => v = .bool r ∧ l = []) := by
  refine Spec.enter Try.func30 rfl (by kernel_rfl) (by kernel_rfl) fun w0 F0 h0 => ?_
  unfold buf_Right.f at H
  refine J.seq ?_
  refine J.region ?_
  refine RJ.run ttok 1 rfl ?_
  refine RJ.fin [(0, .slice A1 a0.length c_1)] rfl ?_
  refine J.seq ?_
  refine J.seq ?_
  refine J.region ?_
  refine RJ.run ttok 4 rfl ?_
  refine RJ.fin [(0, .slice A1 a0.length c_1), (6, .int .i64 (w64 ((a0.length : Int) - 1))), (7, .int .i64 0)] rfl ?_
  refine J.block ?_
  have h5 := ((h0.only [] rfl).rds [0] rfl)
  refine J.loop (fun k env w => ∃ (x1 : Int), env = [(0, .slice A1 a0.length c_1), (6, .int .i64 (w64 ((a0.length : Int) - 1))), (7, .int .i64 x1)] ∧ St w0 F0 [] [rdC 55 (.pair .str (.pair .bool .str)) a0 (.slice A1 a0.length c_1)] w ∧ buf_Right.l0 k a0 x1 = some r) (k := k) ⟨0, rfl, h5, H⟩ ?_
  rintro k1 env w1 ⟨x1, rfl, h1, H⟩
  cases k1 with
  | zero => exact nomatch (show none = some r from H)
  | succ k1 =>
    rw [buf_Right.l0] at H
    refine J.seq ?_
    refine J.region ?_
    refine RJ.run ttok 1 rfl ?_
    refine RJ.fin [(0, .slice A1 a0.length c_1), (6, .int .i64 (w64 ((a0.length : Int) - 1))), (7, .int .i64 x1), (8, .bool (decide (x1 < (w64 ((a0.length : Int) - 1)))))] rfl ?_
    refine J.seq ?_
    refine J.cond rfl (fun c1 => ?_) (fun c1 => ?_)
    · replace H := ite_t c1 H
      refine J.skip ?_
      refine J.seq ?_
      refine J.block ?_
      refine J.seq ?_
      refine J.region ?_
      refine RJ.run ttok 2 rfl ?_
      refine RJ.fin [(0, .slice A1 a0.length c_1), (3, .int .i64 x1), (6, .int .i64 (w64 ((a0.length : Int) - 1))), (7, .int .i64 x1)] rfl ?_
      refine J.seq ?_
      refine J.heldSt mix h1 ?_
      have h2 := h1.drew
      refine HJ.run ttok rfl [0, 1, 5, 6, 7] rfl ?_
      obtain ⟨⟨p1, p2⟩, H⟩ := guard_t H
      have e1 := elem_A h2.wh (Gives.self 0 rfl) p1 p2
      refine HJ.q (i := 2) rfl rfl rfl rfl rfl rfl (q_index ttok rfl rfl rfl rfl rfl e1 p1 p2) ?_
      refine HJ.run ttok rfl [3] rfl ?_
      refine HJ.q (i := 4) rfl rfl rfl rfl rfl rfl (q_load_elem (f := 0) ttok rfl (fun w e => e) (Gives.self 0 rfl) p1 p2 rfl rfl rfl rfl rfl) ?_
      obtain ⟨⟨p3, p4⟩, H⟩ := guard_t H
      refine HJ.q (i := 8) rfl rfl rfl rfl rfl rfl (q_index ttok rfl rfl rfl rfl rfl e1 p3 p4) ?_
      refine HJ.run ttok rfl [9] rfl ?_
      refine HJ.q (i := 10) rfl rfl rfl rfl rfl rfl (q_load_elem (f := 0) ttok rfl (fun w e => e) (Gives.self 0 rfl) p3 p4 rfl rfl rfl rfl rfl) ?_
      obtain ⟨r1, q1, H⟩ := bind_t H
      refine HJ.op (i := 11) rfl rfl rfl rfl rfl (op_call [] (lex_Compare.spec q1) rfl rfl rfl h2 rfl gnil) ?_
      rintro _ w2 ⟨_, ⟨rfl, rfl⟩, h3⟩
      refine ⟨⟨[], h3⟩, ?_⟩
      refine HJ.run ttok rfl [12] rfl ?_
      refine HJ.fin [(0, .slice A1 a0.length c_1), (6, .int .i64 (w64 ((a0.length : Int) - 1))), (7, .int .i64 x1), (22, .bool (decide (0 ≤ r1)))] rfl rfl ?_
      refine J.cond rfl (fun c2 => ?_) (fun c2 => ?_)
      · replace H := ite_t c2 H
        refine J.seq ?_
        refine J.region ?_
        refine RJ.run ttok 1 rfl ?_
        refine RJ.fin [(2, .bool false)] rfl ?_
        refine J.ret ?_
        obtain rfl := Option.some.inj H
        exact ⟨_, _, _, (results_slots rfl), ⟨rfl, rfl⟩, h3.only [] rfl⟩
      · replace H := ite_f c2 H
        refine J.skip ?_
        refine J.region ?_
        refine RJ.run ttok 2 rfl ?_
        refine RJ.fin [(0, .slice A1 a0.length c_1), (6, .int .i64 (w64 ((a0.length : Int) - 1))), (7, .int .i64 (w64 (x1 + 1)))] rfl ?_
        have h4 := ((h3.only [] rfl).rds [0] rfl)
        exact ⟨k1, by omega, (w64 (x1 + 1)), rfl, h4, H⟩
    · replace H := ite_f c1 H
      refine J.exit ?_
      refine J.seq ?_
      refine J.region ?_
      refine RJ.run ttok 1 rfl ?_
      refine RJ.fin [(2, .bool true)] rfl ?_
      refine J.ret ?_
      obtain rfl := Option.some.inj H
      exact ⟨_, _, _, (results_slots rfl), ⟨rfl, rfl⟩, h1.only [] rfl⟩

/-! sluicegate/sluicegatelaw10.awake -/
def sluicegatelaw10_awake.f (k : Nat)  : Option (Bool) := (buf_Merge.f k ([(([97] : List UInt8), false, ([49] : List UInt8)), (([99] : List UInt8), true, ([] : List UInt8))] : List (List UInt8 × Bool × List UInt8)) ([(([97] : List UInt8), false, ([48] : List UInt8)), (([98] : List UInt8), false, ([50] : List UInt8))] : List (List UInt8 × Bool × List UInt8))).bind fun r1 => ((sluicegateref10_Same.f k r1 ([(([97] : List UInt8), false, ([49] : List UInt8)), (([98] : List UInt8), false, ([50] : List UInt8)), (([99] : List UInt8), true, ([] : List UInt8))] : List (List UInt8 × Bool × List UInt8))).bind fun r2 => (if r2 = true then ((buf_Right.f k ([(([97] : List UInt8), false, ([49] : List UInt8)), (([99] : List UInt8), true, ([] : List UInt8))] : List (List UInt8 × Bool × List UInt8))).bind fun r3 => (if r3 = true then ((buf_Right.f k ([(([98] : List UInt8), false, ([] : List UInt8)), (([97] : List UInt8), false, ([] : List UInt8))] : List (List UInt8 × Bool × List UInt8))).bind fun r4 => (some (!r4))) else (some false))) else (some false)))
set_option maxRecDepth 20000 in
set_option maxHeartbeats 4000000 in
theorem sluicegatelaw10_awake.spec {k : Nat}   {r : Bool} (H : sluicegatelaw10_awake.f k  = some r) :
    Spec Try.prog 29 [] [] [] (fun v l => v = .bool r ∧ l = []) := by
  refine Spec.enter Try.func29 rfl (by kernel_rfl) (by kernel_rfl) fun w0 F0 h0 => ?_
  unfold sluicegatelaw10_awake.f at H
  refine J.seq ?_
  refine J.region ?_
  refine RJ.run ttok 1 rfl ?_
  refine RJ.fin [] rfl ?_
  refine J.seq ?_
  refine J.region ?_
  refine RJ.run ttok 2 rfl ?_
  refine RJ.op rfl rfl (op_lit ttok (.pair .str (.pair .bool .str)) rfl ([(([97] : List UInt8), false, ([49] : List UInt8)), (([99] : List UInt8), true, ([] : List UInt8))] : List (List UInt8 × Bool × List UInt8)) rfl h0 rfl rfl (by decide) rfl rfl rfl rfl rfl rfl rfl) ?_
  rintro _ w1 ⟨b1, rfl, h1⟩
  refine RJ.run ttok 1 rfl ?_
  refine RJ.fin [(1, .slice (some ⟨b1, 0, none⟩) ([(([97] : List UInt8), false, ([49] : List UInt8)), (([99] : List UInt8), true, ([] : List UInt8))] : List (List UInt8 × Bool × List UInt8)).length 2)] rfl ?_
  refine J.seq ?_
  refine J.region ?_
  refine RJ.run ttok 2 rfl ?_
  refine RJ.op rfl rfl (op_lit ttok (.pair .str (.pair .bool .str)) rfl ([(([97] : List UInt8), false, ([48] : List UInt8)), (([98] : List UInt8), false, ([50] : List UInt8))] : List (List UInt8 × Bool × List UInt8)) rfl h1 rfl rfl (by decide) rfl rfl rfl rfl rfl rfl rfl) ?_
  rintro _ w2 ⟨b2, rfl, h2⟩
  refine RJ.run ttok 1 rfl ?_
  refine RJ.fin [(1, .slice (some ⟨b1, 0, none⟩) ([(([97] : List UInt8), false, ([49] : List UInt8)), (([99] : List UInt8), true, ([] : List UInt8))] : List (List UInt8 × Bool × List UInt8)).length 2), (2, .slice (some ⟨b2, 0, none⟩) ([(([97] : List UInt8), false, ([48] : List UInt8)), (([98] : List UInt8), false, ([50] : List UInt8))] : List (List UInt8 × Bool × List UInt8)).length 2)] rfl ?_
  refine J.seq ?_
  refine J.region ?_
  refine RJ.run ttok 2 rfl ?_
  obtain ⟨r1, q1, H⟩ := bind_t H
  refine RJ.op rfl rfl (op_call [] (buf_Merge.spec q1) rfl rfl rfl h2 rfl (gcons (Gives.of 1 rfl own_rd) (gcons (Gives.of 0 rfl own_rd) gnil))) ?_
  rintro _ w3 ⟨_, ⟨A1, c_1, rfl, rfl⟩, h3⟩
  refine RJ.run ttok 3 rfl ?_
  refine RJ.op rfl rfl (op_lit ttok (.pair .str (.pair .bool .str)) rfl ([(([97] : List UInt8), false, ([49] : List UInt8)), (([98] : List UInt8), false, ([50] : List UInt8)), (([99] : List UInt8), true, ([] : List UInt8))] : List (List UInt8 × Bool × List UInt8)) rfl h3 rfl rfl (by decide) rfl rfl rfl rfl rfl rfl rfl) ?_
  rintro _ w4 ⟨b3, rfl, h4⟩
  obtain ⟨r2, q2, H⟩ := bind_t H
  refine RJ.op rfl rfl (op_call [] (sluicegateref10_Same.spec q2) rfl rfl rfl h4 rfl (gcons (Gives.of 1 rfl own_rd) (gcons (Gives.of 0 rfl own_rd) gnil))) ?_
  rintro _ w5 ⟨_, ⟨rfl, rfl⟩, h5⟩
  refine RJ.run ttok 1 rfl ?_
  rcases Bool.eq_false_or_eq_true r2 with c1 | c1
  · replace H := ite_t c1 H
    refine RJ.know (t := 17) rfl (congrArg Value.bool c1) ?_
    refine RJ.run ttok 1 rfl ?_
    obtain ⟨r3, q3, H⟩ := bind_t H
    refine RJ.op rfl rfl (op_call [] (buf_Right.spec q3) rfl rfl rfl h5 rfl (gcons (Gives.of 3 rfl own_rd) gnil)) ?_
    rintro _ w6 ⟨_, ⟨rfl, rfl⟩, h6⟩
    refine RJ.run ttok 2 rfl ?_
    rcases Bool.eq_false_or_eq_true r3 with c2 | c2
    · replace H := ite_t c2 H
      refine RJ.know (t := 21) rfl (congrArg Value.bool c2) ?_
      refine RJ.run ttok 2 rfl ?_
      refine RJ.op rfl rfl (op_lit ttok (.pair .str (.pair .bool .str)) rfl ([(([98] : List UInt8), false, ([] : List UInt8)), (([97] : List UInt8), false, ([] : List UInt8))] : List (List UInt8 × Bool × List UInt8)) rfl h6 rfl rfl (by decide) rfl rfl rfl rfl rfl rfl rfl) ?_
      rintro _ w7 ⟨b4, rfl, h7⟩
      obtain ⟨r4, q4, H⟩ := bind_t H
      refine RJ.op rfl rfl (op_call [] (buf_Right.spec q4) rfl rfl rfl h7 rfl (gcons (Gives.of 0 rfl own_rd) gnil)) ?_
      rintro _ w8 ⟨_, ⟨rfl, rfl⟩, h8⟩
      refine RJ.run ttok 3 rfl ?_
      refine RJ.fin [(0, .bool (!r4))] rfl ?_
      refine J.ret ?_
      obtain rfl := Option.some.inj H
      exact ⟨_, _, _, (results_slots rfl), ⟨rfl, rfl⟩, h8.only [] rfl⟩
    · replace H := ite_f c2 H
      refine RJ.know (t := 21) rfl (congrArg Value.bool c2) ?_
      refine RJ.run ttok 7 rfl ?_
      refine RJ.fin [(0, .bool false)] rfl ?_
      refine J.ret ?_
      obtain rfl := Option.some.inj H
      exact ⟨_, _, _, (results_slots rfl), ⟨rfl, rfl⟩, h6.only [] rfl⟩
  · replace H := ite_f c1 H
    refine RJ.know (t := 17) rfl (congrArg Value.bool c1) ?_
    refine RJ.run ttok 11 rfl ?_
    refine RJ.fin [(0, .bool false)] rfl ?_
    refine J.ret ?_
    obtain rfl := Option.some.inj H
    exact ⟨_, _, _, (results_slots rfl), ⟨rfl, rfl⟩, h5.only [] rfl⟩

/-! sluicegate/sluicegateref01.Compare -/
def sluicegateref01_Compare.l0 : Nat → (List UInt8) → (List UInt8) → (Int) → Option (Int)
  | 0, _, _, _ => none
  | k + 1, a0, a1, x1 => if (decide (x1 < (a0.length : Int))) = true then (if (decide (x1 < (a1.length : Int))) = true then (if 0 ≤ x1 ∧ x1 < (a0.length : Int) then (if 0 ≤ x1 ∧ x1 < (a1.length : Int) then (if (decide ((gtb a0 x1) < (gtb a1 x1))) = true then (some (-1)) else (if (decide ((gtb a1 x1) < (gtb a0 x1))) = true then (some 1) else (sluicegateref01_Compare.l0 k a0 a1 (w64 (x1 + 1))))) else none) else none) else (if (decide ((a0.length : Int) < (a1.length : Int))) = true then (some (-1)) else (if (decide ((a1.length : Int) < (a0.length : Int))) = true then (some 1) else (some 0)))) else (if (decide ((a0.length : Int) < (a1.length : Int))) = true then (some (-1)) else (if (decide ((a1.length : Int) < (a0.length : Int))) = true then (some 1) else (some 0)))
def sluicegateref01_Compare.f (k : Nat) (a0 : List UInt8) (a1 : List UInt8) : Option (Int) := sluicegateref01_Compare.l0 k a0 a1 0
set_option maxRecDepth 20000 in
set_option maxHeartbeats 4000000 in
theorem sluicegateref01_Compare.spec {k : Nat} {a0 : List UInt8} {a1 : List UInt8}  {r : Int} (H : sluicegateref01_Compare.f k a0 a1 = some r) :
    Spec Try.prog 21 [.string ⟨⟨a0⟩⟩, .string ⟨⟨a1⟩⟩] [] [] (fun v l => v = .int .i64 r ∧ l = []) := by
  refine Spec.enter Try.func21 rfl (by kernel_rfl) (by kernel_rfl) fun w0 F0 h0 => ?_
  unfold sluicegateref01_Compare.f at H
  refine J.seq ?_
  refine J.region ?_
  refine RJ.run ttok 1 rfl ?_
  refine RJ.fin [(0, .string ⟨⟨a0⟩⟩), (1, .string ⟨⟨a1⟩⟩)] rfl ?_
  refine J.seq ?_
  refine J.seq ?_
  refine J.region ?_
  refine RJ.run ttok 1 rfl ?_
  refine RJ.fin [(0, .string ⟨⟨a0⟩⟩), (1, .string ⟨⟨a1⟩⟩), (5, .int .i64 0)] rfl ?_
  refine J.block ?_
  have h5 := ((h0.only [] rfl).rds [] rfl)
  refine J.loop (fun k env w => ∃ (x1 : Int), env = [(0, .string ⟨⟨a0⟩⟩), (1, .string ⟨⟨a1⟩⟩), (5, .int .i64 x1)] ∧ St w0 F0 [] [] w ∧ sluicegateref01_Compare.l0 k a0 a1 x1 = some r) (k := k) ⟨0, rfl, h5, H⟩ ?_
  rintro k1 env w1 ⟨x1, rfl, h1, H⟩
  cases k1 with
  | zero => exact nomatch (show none = some r from H)
  | succ k1 =>
    rw [sluicegateref01_Compare.l0] at H
    refine J.seq ?_
    refine J.seq ?_
    refine J.region ?_
    refine RJ.run ttok 5 rfl ?_
    rcases Bool.eq_false_or_eq_true (decide (x1 < (a0.length : Int))) with c1 | c1
    · replace H := ite_t c1 H
      refine RJ.know (t := 10) rfl (congrArg Value.bool c1) ?_
      refine RJ.run ttok 5 rfl ?_
      refine RJ.fin [(0, .string ⟨⟨a0⟩⟩), (1, .string ⟨⟨a1⟩⟩), (5, .int .i64 x1), (15, .bool (decide (x1 < (a1.length : Int))))] rfl ?_
      refine J.cond rfl (fun c2 => ?_) (fun c2 => ?_)
      · replace H := ite_t c2 H
        refine J.skip ?_
        refine J.seq ?_
        refine J.block ?_
        refine J.seq ?_
        refine J.seq ?_
        refine J.heldSt mix h1 ?_
        have h2 := h1.drew
        refine HJ.run ttok rfl [0, 1, 3, 4] rfl ?_
        obtain ⟨⟨p1, p2⟩, H⟩ := guard_t H
        refine HJ.q (i := 2) rfl rfl rfl rfl rfl rfl (q_byte ttok rfl rfl rfl rfl p1 p2) ?_
        obtain ⟨⟨p3, p4⟩, H⟩ := guard_t H
        refine HJ.q (i := 5) rfl rfl rfl rfl rfl rfl (q_byte ttok rfl rfl rfl rfl p3 p4) ?_
        refine HJ.run ttok rfl [6] rfl ?_
        refine HJ.fin [(0, .string ⟨⟨a0⟩⟩), (1, .string ⟨⟨a1⟩⟩), (5, .int .i64 x1), (24, .bool (decide ((gtb a0 x1) < (gtb a1 x1))))] rfl rfl ?_
        refine J.cond rfl (fun c3 => ?_) (fun c3 => ?_)
        · replace H := ite_t c3 H
          refine J.seq ?_
          refine J.region ?_
          refine RJ.run ttok 1 rfl ?_
          refine RJ.fin [(4, .int .i64 (-1))] rfl ?_
          refine J.ret ?_
          obtain rfl := Option.some.inj H
          exact ⟨_, _, _, (results_slots rfl), ⟨rfl, rfl⟩, h2.only [] rfl⟩
        · replace H := ite_f c3 H
          refine J.skip ?_
          refine J.seq ?_
          refine J.heldSt mix h2 ?_
          have h3 := h2.drew
          refine HJ.run ttok rfl [0, 1, 3, 4] rfl ?_
          refine HJ.q (i := 2) rfl rfl rfl rfl rfl rfl (q_byte ttok rfl rfl rfl rfl p1 p2) ?_
          refine HJ.q (i := 5) rfl rfl rfl rfl rfl rfl (q_byte ttok rfl rfl rfl rfl p3 p4) ?_
          refine HJ.run ttok rfl [6] rfl ?_
          refine HJ.fin [(0, .string ⟨⟨a0⟩⟩), (1, .string ⟨⟨a1⟩⟩), (5, .int .i64 x1), (31, .bool (decide ((gtb a1 x1) < (gtb a0 x1))))] rfl rfl ?_
          refine J.cond rfl (fun c4 => ?_) (fun c4 => ?_)
          · replace H := ite_t c4 H
            refine J.seq ?_
            refine J.region ?_
            refine RJ.run ttok 1 rfl ?_
            refine RJ.fin [(4, .int .i64 1)] rfl ?_
            refine J.ret ?_
            obtain rfl := Option.some.inj H
            exact ⟨_, _, _, (results_slots rfl), ⟨rfl, rfl⟩, h3.only [] rfl⟩
          · replace H := ite_f c4 H
            refine J.skip ?_
            refine J.region ?_
            refine RJ.run ttok 3 rfl ?_
            refine RJ.fin [(0, .string ⟨⟨a0⟩⟩), (1, .string ⟨⟨a1⟩⟩), (5, .int .i64 (w64 (x1 + 1)))] rfl ?_
            have h4 := ((h3.only [] rfl).rds [] rfl)
            exact ⟨k1, by omega, (w64 (x1 + 1)), rfl, h4, H⟩
      · replace H := ite_f c2 H
        refine J.exit ?_
        refine J.seq ?_
        refine J.seq ?_
        refine J.region ?_
        refine RJ.run ttok 5 rfl ?_
        refine RJ.fin [(0, .string ⟨⟨a0⟩⟩), (1, .string ⟨⟨a1⟩⟩), (36, .bool (decide ((a0.length : Int) < (a1.length : Int))))] rfl ?_
        refine J.cond rfl (fun c5 => ?_) (fun c5 => ?_)
        · replace H := ite_t c5 H
          refine J.seq ?_
          refine J.region ?_
          refine RJ.run ttok 1 rfl ?_
          refine RJ.fin [(4, .int .i64 (-1))] rfl ?_
          refine J.ret ?_
          obtain rfl := Option.some.inj H
          exact ⟨_, _, _, (results_slots rfl), ⟨rfl, rfl⟩, h1.only [] rfl⟩
        · replace H := ite_f c5 H
          refine J.skip ?_
          refine J.seq ?_
          refine J.seq ?_
          refine J.region ?_
          refine RJ.run ttok 5 rfl ?_
          refine RJ.fin [(41, .bool (decide ((a1.length : Int) < (a0.length : Int))))] rfl ?_
          refine J.cond rfl (fun c6 => ?_) (fun c6 => ?_)
          · replace H := ite_t c6 H
            refine J.seq ?_
            refine J.region ?_
            refine RJ.run ttok 1 rfl ?_
            refine RJ.fin [(4, .int .i64 1)] rfl ?_
            refine J.ret ?_
            obtain rfl := Option.some.inj H
            exact ⟨_, _, _, (results_slots rfl), ⟨rfl, rfl⟩, h1.only [] rfl⟩
          · replace H := ite_f c6 H
            refine J.skip ?_
            refine J.seq ?_
            refine J.region ?_
            refine RJ.run ttok 1 rfl ?_
            refine RJ.fin [(4, .int .i64 0)] rfl ?_
            refine J.ret ?_
            obtain rfl := Option.some.inj H
            exact ⟨_, _, _, (results_slots rfl), ⟨rfl, rfl⟩, h1.only [] rfl⟩
    · replace H := ite_f c1 H
      refine RJ.know (t := 10) rfl (congrArg Value.bool c1) ?_
      refine RJ.run ttok 5 rfl ?_
      refine RJ.fin [(0, .string ⟨⟨a0⟩⟩), (1, .string ⟨⟨a1⟩⟩), (5, .int .i64 x1), (15, .bool false)] rfl ?_
      refine J.condF rfl ?_
      refine J.exit ?_
      refine J.seq ?_
      refine J.seq ?_
      refine J.region ?_
      refine RJ.run ttok 5 rfl ?_
      refine RJ.fin [(0, .string ⟨⟨a0⟩⟩), (1, .string ⟨⟨a1⟩⟩), (36, .bool (decide ((a0.length : Int) < (a1.length : Int))))] rfl ?_
      refine J.cond rfl (fun c7 => ?_) (fun c7 => ?_)
      · replace H := ite_t c7 H
        refine J.seq ?_
        refine J.region ?_
        refine RJ.run ttok 1 rfl ?_
        refine RJ.fin [(4, .int .i64 (-1))] rfl ?_
        refine J.ret ?_
        obtain rfl := Option.some.inj H
        exact ⟨_, _, _, (results_slots rfl), ⟨rfl, rfl⟩, h1.only [] rfl⟩
      · replace H := ite_f c7 H
        refine J.skip ?_
        refine J.seq ?_
        refine J.seq ?_
        refine J.region ?_
        refine RJ.run ttok 5 rfl ?_
        refine RJ.fin [(41, .bool (decide ((a1.length : Int) < (a0.length : Int))))] rfl ?_
        refine J.cond rfl (fun c8 => ?_) (fun c8 => ?_)
        · replace H := ite_t c8 H
          refine J.seq ?_
          refine J.region ?_
          refine RJ.run ttok 1 rfl ?_
          refine RJ.fin [(4, .int .i64 1)] rfl ?_
          refine J.ret ?_
          obtain rfl := Option.some.inj H
          exact ⟨_, _, _, (results_slots rfl), ⟨rfl, rfl⟩, h1.only [] rfl⟩
        · replace H := ite_f c8 H
          refine J.skip ?_
          refine J.seq ?_
          refine J.region ?_
          refine RJ.run ttok 1 rfl ?_
          refine RJ.fin [(4, .int .i64 0)] rfl ?_
          refine J.ret ?_
          obtain rfl := Option.some.inj H
          exact ⟨_, _, _, (results_slots rfl), ⟨rfl, rfl⟩, h1.only [] rfl⟩

/-! sluicegate/sluicegateref10.Right -/
def sluicegateref10_Right.l0 : Nat → (List (List UInt8 × Bool × List UInt8)) → (Int) → Option (Bool)
  | 0, _, _ => none
  | k + 1, a0, x1 => if (decide (x1 < (a0.length : Int))) = true then (if 0 ≤ (w64 (x1 - 1)) ∧ (w64 (x1 - 1)) < (a0.length : Int) then (if 0 ≤ x1 ∧ x1 < (a0.length : Int) then ((sluicegateref01_Compare.f k ((gt a0 (w64 (x1 - 1))).1) ((gt a0 x1).1)).bind fun r1 => (if (decide (0 ≤ r1)) = true then (some false) else (sluicegateref10_Right.l0 k a0 (w64 (x1 + 1))))) else none) else none) else (some true)
def sluicegateref10_Right.f (k : Nat) (a0 : List (List UInt8 × Bool × List UInt8)) : Option (Bool) := sluicegateref10_Right.l0 k a0 1
set_option maxRecDepth 20000 in
set_option maxHeartbeats 4000000 in
theorem sluicegateref10_Right.spec {k : Nat} {a0 : List (List UInt8 × Bool × List UInt8)} {A1 : Option Addr} {c_1 : Nat} {r : Bool} (H : sluicegateref10_Right.f k a0 = some r) :
    Spec Try.prog 31 [.slice A1 a0.length c_1] [] [rdC 55 (.pair .str (.pair .bool .str)) a0 (.slice A1 a0.length c_1)] (fun v l => v = .bool r ∧ l = []) := by
  refine Spec.enter Try.func31 rfl (by kernel_rfl) (by kernel_rfl) fun w0 F0 h0 => ?_
  unfold sluicegateref10_Right.f at H
  refine J.seq ?_
  refine J.region ?_
  refine RJ.run ttok 1 rfl ?_
  refine RJ.fin [(0, .slice A1 a0.length c_1)] rfl ?_
  refine J.seq ?_
  refine J.seq ?_
  refine J.region ?_
  refine RJ.run ttok 1 rfl ?_
  refine RJ.fin [(0, .slice A1 a0.length c_1), (3, .int .i64 1)] rfl ?_
  refine J.block ?_
  have h5 := ((h0.only [] rfl).rds [0] rfl)
  refine J.loop (fun k env w => ∃ (x1 : Int), env = [(0, .slice A1 a0.length c_1), (3, .int .i64 x1)] ∧ St w0 F0 [] [rdC 55 (.pair .str (.pair .bool .str)) a0 (.slice A1 a0.length c_1)] w ∧ sluicegateref10_Right.l0 k a0 x1 = some r) (k := k) ⟨1, rfl, h5, H⟩ ?_
  rintro k1 env w1 ⟨x1, rfl, h1, H⟩
  cases k1 with
  | zero => exact nomatch (show none = some r from H)
  | succ k1 =>
    rw [sluicegateref10_Right.l0] at H
    refine J.seq ?_
    refine J.seq ?_
    refine J.region ?_
    refine RJ.run ttok 4 rfl ?_
    refine RJ.fin [(0, .slice A1 a0.length c_1), (3, .int .i64 x1), (7, .bool (decide (x1 < (a0.length : Int))))] rfl ?_
    refine J.cond rfl (fun c1 => ?_) (fun c1 => ?_)
    · replace H := ite_t c1 H
      refine J.skip ?_
      refine J.seq ?_
      refine J.block ?_
      refine J.seq ?_
      refine J.heldSt mix h1 ?_
      have h2 := h1.drew
      refine HJ.run ttok rfl [0, 1, 2, 6, 7] rfl ?_
      obtain ⟨⟨p1, p2⟩, H⟩ := guard_t H
      have e1 := elem_A h2.wh (Gives.self 0 rfl) p1 p2
      refine HJ.q (i := 3) rfl rfl rfl rfl rfl rfl (q_index ttok rfl rfl rfl rfl rfl e1 p1 p2) ?_
      refine HJ.run ttok rfl [4] rfl ?_
      refine HJ.q (i := 5) rfl rfl rfl rfl rfl rfl (q_load_elem (f := 0) ttok rfl (fun w e => e) (Gives.self 0 rfl) p1 p2 rfl rfl rfl rfl rfl) ?_
      obtain ⟨⟨p3, p4⟩, H⟩ := guard_t H
      refine HJ.q (i := 8) rfl rfl rfl rfl rfl rfl (q_index ttok rfl rfl rfl rfl rfl e1 p3 p4) ?_
      refine HJ.run ttok rfl [9] rfl ?_
      refine HJ.q (i := 10) rfl rfl rfl rfl rfl rfl (q_load_elem (f := 0) ttok rfl (fun w e => e) (Gives.self 0 rfl) p3 p4 rfl rfl rfl rfl rfl) ?_
      obtain ⟨r1, q1, H⟩ := bind_t H
      refine HJ.op (i := 11) rfl rfl rfl rfl rfl (op_call [] (sluicegateref01_Compare.spec q1) rfl rfl rfl h2 rfl gnil) ?_
      rintro _ w2 ⟨_, ⟨rfl, rfl⟩, h3⟩
      refine ⟨⟨[], h3⟩, ?_⟩
      refine HJ.run ttok rfl [12] rfl ?_
      refine HJ.fin [(0, .slice A1 a0.length c_1), (3, .int .i64 x1), (22, .bool (decide (0 ≤ r1)))] rfl rfl ?_
      refine J.cond rfl (fun c2 => ?_) (fun c2 => ?_)
      · replace H := ite_t c2 H
        refine J.seq ?_
        refine J.region ?_
        refine RJ.run ttok 1 rfl ?_
        refine RJ.fin [(2, .bool false)] rfl ?_
        refine J.ret ?_
        obtain rfl := Option.some.inj H
        exact ⟨_, _, _, (results_slots rfl), ⟨rfl, rfl⟩, h3.only [] rfl⟩
      · replace H := ite_f c2 H
        refine J.skip ?_
        refine J.region ?_
        refine RJ.run ttok 3 rfl ?_
        refine RJ.fin [(0, .slice A1 a0.length c_1), (3, .int .i64 (w64 (x1 + 1)))] rfl ?_
        have h4 := ((h3.only [] rfl).rds [0] rfl)
        exact ⟨k1, by omega, (w64 (x1 + 1)), rfl, h4, H⟩
    · replace H := ite_f c1 H
      refine J.exit ?_
      refine J.seq ?_
      refine J.region ?_
      refine RJ.run ttok 1 rfl ?_
      refine RJ.fin [(2, .bool true)] rfl ?_
      refine J.ret ?_
      obtain rfl := Option.some.inj H
      exact ⟨_, _, _, (results_slots rfl), ⟨rfl, rfl⟩, h1.only [] rfl⟩

/-! sluicegate/lex.Empty -/
def lex_Empty.f (a0 : List UInt8 × List UInt8 × Bool) : Option (Bool) := if (!a0.2.2) = true then (some (Op.bytesLess a0.2.1 a0.1 || decide (a0.2.1 = a0.1))) else (some false)
set_option maxRecDepth 20000 in
set_option maxHeartbeats 4000000 in
theorem lex_Empty.spec {a0 : List UInt8 × List UInt8 × Bool}  {r : Bool} (H : lex_Empty.f a0 = some r) :
    Spec Try.prog 17 [.agg #[.string ⟨⟨a0.1⟩⟩, .string ⟨⟨a0.2.1⟩⟩, .bool a0.2.2]] [] [] (fun v l => v = .bool r ∧ l = []) := by
  refine Spec.enter Try.func17 rfl (by kernel_rfl) (by kernel_rfl) fun w0 F0 h0 => ?_
  unfold lex_Empty.f at H
  refine J.seq ?_
  refine J.region ?_
  refine RJ.op rfl rfl (op_box rfl rfl h0) ?_
  rintro _ w1 ⟨b1, rfl, h1⟩
  refine RJ.run ttok 1 rfl ?_
  refine RJ.fin [(1, .pointer (some ⟨b1, 0, none⟩))] rfl ?_
  refine J.seq ?_
  refine J.region ?_
  refine RJ.run ttok 1 rfl ?_
  refine RJ.q rfl rfl (q_load_box ttok 0 (fun w e => e ▸ h1.wh) rfl rfl rfl rfl rfl) ?_
  refine RJ.run ttok 2 rfl ?_
  rcases Bool.eq_false_or_eq_true (!a0.2.2) with c1 | c1
  · replace H := ite_t c1 H
    refine RJ.know (t := 6) rfl (congrArg Value.bool c1) ?_
    refine RJ.run ttok 1 rfl ?_
    refine RJ.q rfl rfl (q_load_box ttok 0 (fun w e => e ▸ h1.wh) rfl rfl rfl rfl rfl) ?_
    refine RJ.run ttok 1 rfl ?_
    refine RJ.q rfl rfl (q_load_box ttok 0 (fun w e => e ▸ h1.wh) rfl rfl rfl rfl rfl) ?_
    refine RJ.run ttok 3 rfl ?_
    refine RJ.fin [(2, .bool (Op.bytesLess a0.2.1 a0.1 || decide (a0.2.1 = a0.1)))] rfl ?_
    refine J.ret ?_
    obtain rfl := Option.some.inj H
    exact ⟨_, _, _, (results_slots rfl), ⟨rfl, rfl⟩, h1.only [] rfl⟩
  · replace H := ite_f c1 H
    refine RJ.know (t := 6) rfl (congrArg Value.bool c1) ?_
    refine RJ.run ttok 7 rfl ?_
    refine RJ.fin [(2, .bool false)] rfl ?_
    refine J.ret ?_
    obtain rfl := Option.some.inj H
    exact ⟨_, _, _, (results_slots rfl), ⟨rfl, rfl⟩, h1.only [] rfl⟩

/-! sluicegate/buf.compare -/
def buf_compare.f (a0 : List UInt8 × Bool × List UInt8) (a1 : List UInt8) : Option (Int) := (lex_Compare.f a0.1 a1).bind fun r1 => (some r1)
set_option maxRecDepth 20000 in
set_option maxHeartbeats 4000000 in
theorem buf_compare.spec {a0 : List UInt8 × Bool × List UInt8} {a1 : List UInt8}  {r : Int} (H : buf_compare.f a0 a1 = some r) :
    Spec Try.prog 61 [.agg #[.string ⟨⟨a0.1⟩⟩, .bool a0.2.1, .string ⟨⟨a0.2.2⟩⟩], .string ⟨⟨a1⟩⟩] [] [] (fun v l => v = .int .i64 r ∧ l = []) := by
  refine Spec.enter Try.func61 rfl (by kernel_rfl) (by kernel_rfl) fun w0 F0 h0 => ?_
  unfold buf_compare.f at H
  refine J.seq ?_
  refine J.region ?_
  refine RJ.op rfl rfl (op_box rfl rfl h0) ?_
  rintro _ w1 ⟨b1, rfl, h1⟩
  refine RJ.run ttok 1 rfl ?_
  refine RJ.fin [(1, .string ⟨⟨a1⟩⟩), (2, .pointer (some ⟨b1, 0, none⟩))] rfl ?_
  refine J.seq ?_
  refine J.region ?_
  refine RJ.run ttok 1 rfl ?_
  refine RJ.q rfl rfl (q_load_box ttok 0 (fun w e => e ▸ h1.wh) rfl rfl rfl rfl rfl) ?_
  refine RJ.run ttok 1 rfl ?_
  obtain ⟨r1, q1, H⟩ := bind_t H
  refine RJ.op rfl rfl (op_call [] (lex_Compare.spec q1) rfl rfl rfl h1 rfl gnil) ?_
  rintro _ w2 ⟨_, ⟨rfl, rfl⟩, h2⟩
  refine RJ.run ttok 1 rfl ?_
  refine RJ.fin [(4, .int .i64 r1)] rfl ?_
  refine J.ret ?_
  obtain rfl := Option.some.inj H
  exact ⟨_, _, _, (results_slots rfl), ⟨rfl, rfl⟩, h2.only [] rfl⟩

/-! slices.BinarySearchFunc[[]sluicegate/api.Msg,sluicegate/api.Msg,string] -/
def slices_BinarySearchFunc_api_Msg_api_Msg_string_buf_compare.l0 : Nat → (List (List UInt8 × Bool × List UInt8)) → (List UInt8) → (Int) → (Int) → Option (Int × Bool)
  | 0, _, _, _, _ => none
  | k + 1, a0, a1, x1, x2 => if (decide (x1 < x2)) = true then (if 0 ≤ (w64 ((Int.fdiv (IntKind.u64.wrap ((w64 (x1 + x2)))) (2 ^ 1)))) ∧ (w64 ((Int.fdiv (IntKind.u64.wrap ((w64 (x1 + x2)))) (2 ^ 1)))) < (a0.length : Int) then ((buf_compare.f ((gt a0 (w64 ((Int.fdiv (IntKind.u64.wrap ((w64 (x1 + x2)))) (2 ^ 1))))).1, (gt a0 (w64 ((Int.fdiv (IntKind.u64.wrap ((w64 (x1 + x2)))) (2 ^ 1))))).2.1, (gt a0 (w64 ((Int.fdiv (IntKind.u64.wrap ((w64 (x1 + x2)))) (2 ^ 1))))).2.2) a1).bind fun r1 => (if (decide (r1 < 0)) = true then (slices_BinarySearchFunc_api_Msg_api_Msg_string_buf_compare.l0 k a0 a1 (w64 ((w64 ((Int.fdiv (IntKind.u64.wrap ((w64 (x1 + x2)))) (2 ^ 1)))) + 1)) x2) else (slices_BinarySearchFunc_api_Msg_api_Msg_string_buf_compare.l0 k a0 a1 x1 (w64 ((Int.fdiv (IntKind.u64.wrap ((w64 (x1 + x2)))) (2 ^ 1))))))) else none) else (if (decide (x1 < (a0.length : Int))) = true then (if 0 ≤ x1 ∧ x1 < (a0.length : Int) then ((buf_compare.f ((gt a0 x1).1, (gt a0 x1).2.1, (gt a0 x1).2.2) a1).bind fun r2 => (some (x1, (decide (r2 = 0))))) else none) else (some (x1, false)))
def slices_BinarySearchFunc_api_Msg_api_Msg_string_buf_compare.f (k : Nat) (a0 : List (List UInt8 × Bool × List UInt8)) (a1 : List UInt8) : Option (Int × Bool) := slices_BinarySearchFunc_api_Msg_api_Msg_string_buf_compare.l0 k a0 a1 0 (a0.length : Int)
set_option maxRecDepth 20000 in
set_option maxHeartbeats 4000000 in
theorem slices_BinarySearchFunc_api_Msg_api_Msg_string_buf_compare.spec {k : Nat} {a0 : List (List UInt8 × Bool × List UInt8)} {a1 : List UInt8} {A1 : Option Addr} {c_1 : Nat} {r : Int × Bool} (H : slices_BinarySearchFunc_api_Msg_api_Msg_string_buf_compare.f k a0 a1 = some r) :
    Spec Try.prog 60 [.slice A1 a0.length c_1, .string ⟨⟨a1⟩⟩, .func (.func 61) #[] #[]] [] [rdC 55 (.pair .str (.pair .bool .str)) a0 (.slice A1 a0.length c_1)] (fun v l => v = .tuple #[.int .i64 r.1, .bool r.2] ∧ l = []) := by
  refine Spec.enter Try.func60 rfl (by kernel_rfl) (by kernel_rfl) fun w0 F0 h0 => ?_
  unfold slices_BinarySearchFunc_api_Msg_api_Msg_string_buf_compare.f at H
  refine J.seq ?_
  refine J.region ?_
  refine RJ.run ttok 2 rfl ?_
  refine RJ.fin [(0, .slice A1 a0.length c_1), (1, .string ⟨⟨a1⟩⟩), (2, .func (.func 61) #[] #[])] rfl ?_
  refine J.seq ?_
  refine J.region ?_
  refine RJ.run ttok 3 rfl ?_
  refine RJ.fin [(0, .slice A1 a0.length c_1), (1, .string ⟨⟨a1⟩⟩), (2, .func (.func 61) #[] #[]), (8, .int .i64 (a0.length : Int))] rfl ?_
  refine J.seq ?_
  refine J.region ?_
  refine RJ.run ttok 3 rfl ?_
  refine RJ.fin [(0, .slice A1 a0.length c_1), (1, .string ⟨⟨a1⟩⟩), (2, .func (.func 61) #[] #[]), (8, .int .i64 (a0.length : Int)), (9, .int .i64 0), (10, .int .i64 (a0.length : Int))] rfl ?_
  refine J.seq ?_
  refine J.block ?_
  have h6 := ((h0.only [] rfl).rds [0] rfl)
  refine J.loop (fun k env w => ∃ (x1 : Int) (x2 : Int), env = [(0, .slice A1 a0.length c_1), (1, .string ⟨⟨a1⟩⟩), (2, .func (.func 61) #[] #[]), (8, .int .i64 (a0.length : Int)), (9, .int .i64 x1), (10, .int .i64 x2)] ∧ St w0 F0 [] [rdC 55 (.pair .str (.pair .bool .str)) a0 (.slice A1 a0.length c_1)] w ∧ slices_BinarySearchFunc_api_Msg_api_Msg_string_buf_compare.l0 k a0 a1 x1 x2 = some r) (k := k) ⟨0, (a0.length : Int), rfl, h6, H⟩ ?_
  rintro k1 env w1 ⟨x1, x2, rfl, h1, H⟩
  cases k1 with
  | zero => exact nomatch (show none = some r from H)
  | succ k1 =>
    rw [slices_BinarySearchFunc_api_Msg_api_Msg_string_buf_compare.l0] at H
    refine J.seq ?_
    refine J.seq ?_
    refine J.region ?_
    refine RJ.run ttok 3 rfl ?_
    refine RJ.fin [(0, .slice A1 a0.length c_1), (1, .string ⟨⟨a1⟩⟩), (2, .func (.func 61) #[] #[]), (8, .int .i64 (a0.length : Int)), (9, .int .i64 x1), (10, .int .i64 x2), (17, .bool (decide (x1 < x2)))] rfl ?_
    refine J.cond rfl (fun c1 => ?_) (fun c1 => ?_)
    · replace H := ite_t c1 H
      refine J.skip ?_
      refine J.block ?_
      refine J.seq ?_
      refine J.region ?_
      refine RJ.run ttok 7 rfl ?_
      refine RJ.fin [(0, .slice A1 a0.length c_1), (1, .string ⟨⟨a1⟩⟩), (2, .func (.func 61) #[] #[]), (8, .int .i64 (a0.length : Int)), (9, .int .i64 x1), (10, .int .i64 x2), (11, .int .i64 (w64 ((Int.fdiv (IntKind.u64.wrap ((w64 (x1 + x2)))) (2 ^ 1)))))] rfl ?_
      refine J.seq ?_
      refine J.region ?_
      refine RJ.run ttok 3 rfl ?_
      obtain ⟨⟨p1, p2⟩, H⟩ := guard_t H
      have e1 := elem_A h1.wh (Gives.self 0 rfl) p1 p2
      refine RJ.q rfl rfl (q_index ttok rfl rfl rfl rfl rfl e1 p1 p2) ?_
      refine RJ.q rfl rfl (q_load_elem (f := 0) ttok rfl (fun w e => e ▸ h1.wh) (Gives.self 0 rfl) p1 p2 rfl rfl rfl rfl rfl) ?_
      refine RJ.run ttok 1 rfl ?_
      obtain ⟨r1, q1, H⟩ := bind_t H
      refine RJ.op rfl rfl (op_call [] (buf_compare.spec q1) rfl rfl rfl h1 rfl gnil) ?_
      rintro _ w2 ⟨_, ⟨rfl, rfl⟩, h2⟩
      refine RJ.run ttok 1 rfl ?_
      refine RJ.fin [(0, .slice A1 a0.length c_1), (1, .string ⟨⟨a1⟩⟩), (2, .func (.func 61) #[] #[]), (8, .int .i64 (a0.length : Int)), (9, .int .i64 x1), (10, .int .i64 x2), (11, .int .i64 (w64 ((Int.fdiv (IntKind.u64.wrap ((w64 (x1 + x2)))) (2 ^ 1))))), (31, .bool (decide (r1 < 0)))] rfl ?_
      refine J.cond rfl (fun c2 => ?_) (fun c2 => ?_)
      · replace H := ite_t c2 H
        refine J.region ?_
        refine RJ.run ttok 3 rfl ?_
        refine RJ.fin [(0, .slice A1 a0.length c_1), (1, .string ⟨⟨a1⟩⟩), (2, .func (.func 61) #[] #[]), (8, .int .i64 (a0.length : Int)), (9, .int .i64 (w64 ((w64 ((Int.fdiv (IntKind.u64.wrap ((w64 (x1 + x2)))) (2 ^ 1)))) + 1))), (10, .int .i64 x2)] rfl ?_
        have h3 := ((h2.only [] rfl).rds [0] rfl)
        exact ⟨k1, by omega, (w64 ((w64 ((Int.fdiv (IntKind.u64.wrap ((w64 (x1 + x2)))) (2 ^ 1)))) + 1)), x2, rfl, h3, H⟩
      · replace H := ite_f c2 H
        refine J.region ?_
        refine RJ.run ttok 2 rfl ?_
        refine RJ.fin [(0, .slice A1 a0.length c_1), (1, .string ⟨⟨a1⟩⟩), (2, .func (.func 61) #[] #[]), (8, .int .i64 (a0.length : Int)), (9, .int .i64 x1), (10, .int .i64 (w64 ((Int.fdiv (IntKind.u64.wrap ((w64 (x1 + x2)))) (2 ^ 1)))))] rfl ?_
        have h4 := ((h2.only [] rfl).rds [0] rfl)
        exact ⟨k1, by omega, x1, (w64 ((Int.fdiv (IntKind.u64.wrap ((w64 (x1 + x2)))) (2 ^ 1)))), rfl, h4, H⟩
    · replace H := ite_f c1 H
      refine J.exit ?_
      refine J.seq ?_
      refine J.region ?_
      refine RJ.run ttok 5 rfl ?_
      rcases Bool.eq_false_or_eq_true (decide (x1 < (a0.length : Int))) with c3 | c3
      · replace H := ite_t c3 H
        refine RJ.know (t := 39) rfl (congrArg Value.bool c3) ?_
        refine RJ.run ttok 3 rfl ?_
        obtain ⟨⟨p3, p4⟩, H⟩ := guard_t H
        have e2 := elem_A h1.wh (Gives.self 0 rfl) p3 p4
        refine RJ.q rfl rfl (q_index ttok rfl rfl rfl rfl rfl e2 p3 p4) ?_
        refine RJ.q rfl rfl (q_load_elem (f := 0) ttok rfl (fun w e => e ▸ h1.wh) (Gives.self 0 rfl) p3 p4 rfl rfl rfl rfl rfl) ?_
        refine RJ.run ttok 1 rfl ?_
        obtain ⟨r2, q2, H⟩ := bind_t H
        refine RJ.op rfl rfl (op_call [] (buf_compare.spec q2) rfl rfl rfl h1 rfl gnil) ?_
        rintro _ w3 ⟨_, ⟨rfl, rfl⟩, h5⟩
        refine RJ.run ttok 4 rfl ?_
        refine RJ.fin [(6, .int .i64 x1), (7, .bool (decide (r2 = 0)))] rfl ?_
        refine J.ret ?_
        obtain rfl := Option.some.inj H
        exact ⟨_, _, _, (results_slots rfl), ⟨rfl, rfl⟩, h5.only [] rfl⟩
      · replace H := ite_f c3 H
        refine RJ.know (t := 39) rfl (congrArg Value.bool c3) ?_
        refine RJ.run ttok 11 rfl ?_
        refine RJ.fin [(6, .int .i64 x1), (7, .bool false)] rfl ?_
        refine J.ret ?_
        obtain rfl := Option.some.inj H
        exact ⟨_, _, _, (results_slots rfl), ⟨rfl, rfl⟩, h1.only [] rfl⟩

/-! sluicegate/buf.part -/
def buf_part.f (k : Nat) (a0 : List (List UInt8 × Bool × List UInt8)) (a1 : List UInt8 × List UInt8 × Bool) : Option (Int × Int) := (lex_Empty.f (a1.1, a1.2.1, a1.2.2)).bind fun r1 => (if r1 = true then (some (0, 0)) else ((slices_BinarySearchFunc_api_Msg_api_Msg_string_buf_compare.f k a0 a1.1).bind fun r2 => (if (!a1.2.2) = true then ((slices_BinarySearchFunc_api_Msg_api_Msg_string_buf_compare.f k a0 a1.2.1).bind fun r3 => (some (r2.1, r3.1))) else (some (r2.1, (a0.length : Int))))))
set_option maxRecDepth 20000 in
set_option maxHeartbeats 4000000 in
theorem buf_part.spec {k : Nat} {a0 : List (List UInt8 × Bool × List UInt8)} {a1 : List UInt8 × List UInt8 × Bool} {A1 : Option Addr} {c_1 : Nat} {r : Int × Int} (H : buf_part.f k a0 a1 = some r) :
    Spec Try.prog 57 [.slice A1 a0.length c_1, .agg #[.string ⟨⟨a1.1⟩⟩, .string ⟨⟨a1.2.1⟩⟩, .bool a1.2.2]] [] [rdC 55 (.pair .str (.pair .bool .str)) a0 (.slice A1 a0.length c_1)] (fun v l => v = .tuple #[.int .i64 r.1, .int .i64 r.2] ∧ l = []) := by
  refine Spec.enter Try.func57 rfl (by kernel_rfl) (by kernel_rfl) fun w0 F0 h0 => ?_
  unfold buf_part.f at H
  refine J.seq ?_
  refine J.region ?_
  refine RJ.op rfl rfl (op_box rfl rfl h0) ?_
  rintro _ w1 ⟨b1, rfl, h1⟩
  refine RJ.run ttok 2 rfl ?_
  refine RJ.fin [(0, .slice A1 a0.length c_1), (3, .pointer (some ⟨b1, 0, none⟩))] rfl ?_
  refine J.seq ?_
  refine J.seq ?_
  refine J.region ?_
  refine RJ.q rfl rfl (q_load_box ttok 0 (fun w e => e ▸ h1.wh) rfl rfl rfl rfl rfl) ?_
  obtain ⟨r1, q1, H⟩ := bind_t H
  refine RJ.op rfl rfl (op_call [] (lex_Empty.spec q1) rfl rfl rfl h1 rfl gnil) ?_
  rintro _ w2 ⟨_, ⟨rfl, rfl⟩, h2⟩
  refine RJ.fin [(0, .slice A1 a0.length c_1), (3, .pointer (some ⟨b1, 0, none⟩)), (10, .bool r1)] rfl ?_
  refine J.cond rfl (fun c1 => ?_) (fun c1 => ?_)
  · replace H := ite_t c1 H
    refine J.seq ?_
    refine J.region ?_
    refine RJ.run ttok 2 rfl ?_
    refine RJ.fin [(4, .int .i64 0), (5, .int .i64 0)] rfl ?_
    refine J.ret ?_
    obtain rfl := Option.some.inj H
    exact ⟨_, _, _, (results_slots rfl), ⟨rfl, rfl⟩, h2.only [] rfl⟩
  · replace H := ite_f c1 H
    refine J.skip ?_
    refine J.seq ?_
    refine J.region ?_
    refine RJ.run ttok 2 rfl ?_
    refine RJ.q rfl rfl (q_load_box ttok 0 (fun w e => e ▸ h2.wh) rfl rfl rfl rfl rfl) ?_
    obtain ⟨r2, q2, H⟩ := bind_t H
    refine RJ.op rfl rfl (op_call [] (slices_BinarySearchFunc_api_Msg_api_Msg_string_buf_compare.spec q2) rfl rfl rfl h2 rfl (gcons (Gives.self 1 rfl) gnil)) ?_
    rintro _ w3 ⟨_, ⟨rfl, rfl⟩, h3⟩
    refine RJ.run ttok 5 rfl ?_
    refine RJ.fin [(0, .slice A1 a0.length c_1), (3, .pointer (some ⟨b1, 0, none⟩)), (6, .int .i64 r2.1)] rfl ?_
    refine J.seq ?_
    refine J.region ?_
    refine RJ.run ttok 3 rfl ?_
    refine RJ.fin [(0, .slice A1 a0.length c_1), (3, .pointer (some ⟨b1, 0, none⟩)), (6, .int .i64 r2.1), (8, .int .i64 (a0.length : Int))] rfl ?_
    refine J.seq ?_
    refine J.seq ?_
    refine J.region ?_
    refine RJ.run ttok 1 rfl ?_
    refine RJ.q rfl rfl (q_load_box ttok 0 (fun w e => e ▸ h3.wh) rfl rfl rfl rfl rfl) ?_
    refine RJ.run ttok 1 rfl ?_
    refine RJ.fin [(0, .slice A1 a0.length c_1), (3, .pointer (some ⟨b1, 0, none⟩)), (6, .int .i64 r2.1), (8, .int .i64 (a0.length : Int)), (22, .bool (!a1.2.2))] rfl ?_
    refine J.cond rfl (fun c2 => ?_) (fun c2 => ?_)
    · replace H := ite_t c2 H
      refine J.region ?_
      refine RJ.run ttok 2 rfl ?_
      refine RJ.q rfl rfl (q_load_box ttok 0 (fun w e => e ▸ h3.wh) rfl rfl rfl rfl rfl) ?_
      obtain ⟨r3, q3, H⟩ := bind_t H
      refine RJ.op rfl rfl (op_call [] (slices_BinarySearchFunc_api_Msg_api_Msg_string_buf_compare.spec q3) rfl rfl rfl h3 rfl (gcons (Gives.self 1 rfl) gnil)) ?_
      rintro _ w4 ⟨_, ⟨rfl, rfl⟩, h4⟩
      refine RJ.run ttok 4 rfl ?_
      refine RJ.fin [(6, .int .i64 r2.1), (8, .int .i64 r3.1)] rfl ?_
      refine J.seq ?_
      refine J.region ?_
      refine RJ.run ttok 4 rfl ?_
      refine RJ.fin [(4, .int .i64 r2.1), (5, .int .i64 r3.1)] rfl ?_
      refine J.ret ?_
      obtain rfl := Option.some.inj H
      exact ⟨_, _, _, (results_slots rfl), ⟨rfl, rfl⟩, h4.only [] rfl⟩
    · replace H := ite_f c2 H
      refine J.skip ?_
      refine J.seq ?_
      refine J.region ?_
      refine RJ.run ttok 4 rfl ?_
      refine RJ.fin [(4, .int .i64 r2.1), (5, .int .i64 (a0.length : Int))] rfl ?_
      refine J.ret ?_
      obtain rfl := Option.some.inj H
      exact ⟨_, _, _, (results_slots rfl), ⟨rfl, rfl⟩, h3.only [] rfl⟩

/-! slices.Clone[[]sluicegate/api.Msg,sluicegate/api.Msg] -/
def slices_Clone_api_Msg_api_Msg.f (a0 : List (List UInt8 × Bool × List UInt8)) : Option ((List (List UInt8 × Bool × List UInt8))) := if (([] : List (List UInt8 × Bool × List UInt8)).length + a0.length) * 40 ≤ 140737488355328 then (some (([] : List (List UInt8 × Bool × List UInt8)) ++ a0)) else none
set_option maxRecDepth 20000 in
set_option maxHeartbeats 4000000 in
theorem slices_Clone_api_Msg_api_Msg.spec {a0 : List (List UInt8 × Bool × List UInt8)} {A1 : Option Addr} {c_1 : Nat} {r : (List (List UInt8 × Bool × List UInt8))} (H : slices_Clone_api_Msg_api_Msg.f a0 = some r) :
    Spec Try.prog 58 [.slice A1 a0.length c_1] [] [rdC 55 (.pair .str (.pair .bool .str)) a0 (.slice A1 a0.length c_1)] (fun v l => ∃ (A_0 : Option Addr) (c_0 : Nat), v = .slice A_0 r.length c_0 ∧ l = [ownC 55 (.pair .str (.pair .bool .str)) r (.slice A_0 r.length c_0)]) := by
  refine Spec.enter Try.func58 rfl (by kernel_rfl) (by kernel_rfl) fun w0 F0 h0 => ?_
  unfold slices_Clone_api_Msg_api_Msg.f at H
  refine J.seq ?_
  refine J.region ?_
  refine RJ.run ttok 1 rfl ?_
  refine RJ.fin [(0, .slice A1 a0.length c_1)] rfl ?_
  refine J.seq ?_
  refine J.seq ?_
  refine J.region ?_
  refine RJ.run ttok 2 rfl ?_
  refine RJ.fin [(0, .slice A1 a0.length c_1), (4, .bool A1.isNone)] rfl ?_
  refine J.cond rfl (fun c1 => ?_) (fun c1 => ?_)
  · have e1 := h0.nilrow (Gives.self 0 rfl) (by simpa using c1)
    replace H : (some ([] : List (List UInt8 × Bool × List UInt8))) = some r := by rw [e1] at H; simpa using H
    refine J.seq ?_
    refine J.region ?_
    refine RJ.run ttok 1 rfl ?_
    refine RJ.fin [(2, .slice none ([] : List (List UInt8 × Bool × List UInt8)).length 0)] rfl ?_
    refine J.ret ?_
    have h1 := h0.addNil 55 (.pair .str (.pair .bool .str))
    obtain rfl := Option.some.inj H
    exact ⟨_, _, _, (results_slots rfl), ⟨_, _, rfl, rfl⟩, h1.only [0] rfl⟩
  · refine J.skip ?_
    refine J.seq ?_
    refine J.region ?_
    refine RJ.op rfl rfl (op_lit ttok (.pair .str (.pair .bool .str)) rfl ([] : List (List UInt8 × Bool × List UInt8)) rfl h0 rfl rfl (by decide) rfl rfl rfl rfl rfl rfl rfl) ?_
    rintro _ w1 ⟨b1, rfl, h2⟩
    refine RJ.run ttok 1 rfl ?_
    obtain ⟨p1, H⟩ := guard_t H
    refine RJ.op rfl rfl (op_append ttok rfl 0 rfl h2 rfl (Gives.self 0 rfl) rfl rfl rfl rfl rfl rfl (by decide) (by decide) p1) ?_
    rintro _ w2 ⟨A2, c_2, rfl, h3⟩
    refine RJ.run ttok 1 rfl ?_
    refine RJ.fin [(2, .slice A2 (([] : List (List UInt8 × Bool × List UInt8)) ++ a0).length c_2)] rfl ?_
    refine J.ret ?_
    obtain rfl := Option.some.inj H
    exact ⟨_, _, _, (results_slots rfl), ⟨_, _, rfl, rfl⟩, h3.only [0] rfl⟩

/-! slices.Grow[[]sluicegate/api.Msg,sluicegate/api.Msg] -/
def slices_Grow_api_Msg_api_Msg_nil.f (a1 : Int) : Option ((List (List UInt8 × Bool × List UInt8))) := if (decide (a1 < 0)) = true then (none) else (if (decide (0 < (w64 (a1 - (w64 ((0 : Int) - (([] : List (List UInt8 × Bool × List UInt8)).length : Int))))))) = true then (if (0 : Int) ≤ (0 : Int) ∧ (0 : Int) ≤ (([] : List (List UInt8 × Bool × List UInt8)).length : Int) then (if 0 ≤ (w64 (a1 - (w64 ((0 : Int) - (([] : List (List UInt8 × Bool × List UInt8)).length : Int))))) ∧ ((([] : List (List UInt8 × Bool × List UInt8)).length : Int) + (w64 (a1 - (w64 ((0 : Int) - (([] : List (List UInt8 × Bool × List UInt8)).length : Int)))))) * 40 ≤ 140737488355328 then (if (0 : Int) ≤ (([] : List (List UInt8 × Bool × List UInt8)).length : Int) ∧ (([] : List (List UInt8 × Bool × List UInt8)).length : Int) ≤ ((([] : List (List UInt8 × Bool × List UInt8)) ++ List.replicate (w64 (a1 - (w64 ((0 : Int) - (([] : List (List UInt8 × Bool × List UInt8)).length : Int))))).toNat (([] : List UInt8), false, ([] : List UInt8))).length : Int) then (some ((([] : List (List UInt8 × Bool × List UInt8)) ++ List.replicate (w64 (a1 - (w64 ((0 : Int) - (([] : List (List UInt8 × Bool × List UInt8)).length : Int))))).toNat (([] : List UInt8), false, ([] : List UInt8))).take ((([] : List (List UInt8 × Bool × List UInt8)).length : Int)).toNat)) else none) else none) else none) else (some ([] : List (List UInt8 × Bool × List UInt8))))
set_option maxRecDepth 20000 in
set_option maxHeartbeats 4000000 in
theorem slices_Grow_api_Msg_api_Msg_nil.spec {a1 : Int}  {r : (List (List UInt8 × Bool × List UInt8))} (H : slices_Grow_api_Msg_api_Msg_nil.f a1 = some r) :
    Spec Try.prog 64 [.slice none ([] : List (List UInt8 × Bool × List UInt8)).length 0, .int .i64 a1] [] [] (fun v l => ∃ (A_0 : Option Addr) (c_0 : Nat), v = .slice A_0 r.length c_0 ∧ l = [ownC 55 (.pair .str (.pair .bool .str)) r (.slice A_0 r.length c_0)]) := by
  refine Spec.enter Try.func64 rfl (by kernel_rfl) (by kernel_rfl) fun w0 F0 h0 => ?_
  unfold slices_Grow_api_Msg_api_Msg_nil.f at H
  refine J.seq ?_
  refine J.region ?_
  refine RJ.run ttok 1 rfl ?_
  refine RJ.fin [(0, .slice none ([] : List (List UInt8 × Bool × List UInt8)).length 0), (1, .int .i64 a1)] rfl ?_
  refine J.seq ?_
  refine J.seq ?_
  refine J.region ?_
  refine RJ.run ttok 2 rfl ?_
  refine RJ.fin [(0, .slice none ([] : List (List UInt8 × Bool × List UInt8)).length 0), (1, .int .i64 a1), (6, .bool (decide (a1 < 0)))] rfl ?_
  refine J.cond rfl (fun c1 => ?_) (fun c1 => ?_)
  · replace H := ite_t c1 H
    exact nomatch H
  · replace H := ite_f c1 H
    refine J.skip ?_
    refine J.seq ?_
    refine J.seq ?_
    refine J.region ?_
    refine RJ.run ttok 8 rfl ?_
    refine RJ.fin [(0, .slice none ([] : List (List UInt8 × Bool × List UInt8)).length 0), (1, .int .i64 (w64 (a1 - (w64 ((0 : Int) - (([] : List (List UInt8 × Bool × List UInt8)).length : Int))))))] rfl ?_
    refine J.seq ?_
    refine J.region ?_
    refine RJ.run ttok 2 rfl ?_
    refine RJ.fin [(0, .slice none ([] : List (List UInt8 × Bool × List UInt8)).length 0), (1, .int .i64 (w64 (a1 - (w64 ((0 : Int) - (([] : List (List UInt8 × Bool × List UInt8)).length : Int)))))), (16, .bool (decide (0 < (w64 (a1 - (w64 ((0 : Int) - (([] : List (List UInt8 × Bool × List UInt8)).length : Int))))))))] rfl ?_
    refine J.cond rfl (fun c2 => ?_) (fun c2 => ?_)
    · replace H := ite_t c2 H
      refine J.region ?_
      refine RJ.run ttok 3 rfl ?_
      obtain ⟨⟨p1, p2⟩, H⟩ := guard_t H
      have h1 := h0.addNil 55 (.pair .str (.pair .bool .str))
      have e1 := h1.cap (Gives.of 0 rfl own_rd)
      refine RJ.q rfl rfl (q_cut0 (h := (0 : Int)) (sub := ([] : List (List UInt8 × Bool × List UInt8))) ttok rfl rfl rfl rfl e1 ⟨_, rfl⟩ p1 p2 (List.take_nil)) ?_
      refine RJ.run ttok 1 rfl ?_
      obtain ⟨⟨p3, p4⟩, H⟩ := guard_t H
      refine RJ.op rfl rfl (op_append_zeros ttok (ty := (.pair .str (.pair .bool .str))) rfl (([] : List UInt8), false, ([] : List UInt8)) 0 rfl h1 rfl rfl rfl rfl rfl rfl rfl rfl (by decide) (by decide) p3 p4) ?_
      rintro _ w1 ⟨A1, c_1, rfl, h2⟩
      refine RJ.run ttok 2 rfl ?_
      obtain ⟨⟨p5, p6⟩, H⟩ := guard_t H
      have e2 := h2.cap (Gives.of 0 rfl own_rd)
      refine RJ.q rfl rfl (q_cut0 (h := (([] : List (List UInt8 × Bool × List UInt8)).length : Int)) (sub := ((([] : List (List UInt8 × Bool × List UInt8)) ++ List.replicate (w64 (a1 - (w64 ((0 : Int) - (([] : List (List UInt8 × Bool × List UInt8)).length : Int))))).toNat (([] : List UInt8), false, ([] : List UInt8))).take ((([] : List (List UInt8 × Bool × List UInt8)).length : Int)).toNat)) ttok rfl rfl rfl rfl e2 ⟨_, rfl⟩ p5 p6 rfl) ?_
      refine RJ.run ttok 1 rfl ?_
      refine RJ.fin [(0, .slice A1 ((([] : List (List UInt8 × Bool × List UInt8)) ++ List.replicate (w64 (a1 - (w64 ((0 : Int) - (([] : List (List UInt8 × Bool × List UInt8)).length : Int))))).toNat (([] : List UInt8), false, ([] : List UInt8))).take ((([] : List (List UInt8 × Bool × List UInt8)).length : Int)).toNat).length c_1)] rfl ?_
      refine J.seq ?_
      refine J.region ?_
      refine RJ.run ttok 2 rfl ?_
      refine RJ.fin [(4, .slice A1 ((([] : List (List UInt8 × Bool × List UInt8)) ++ List.replicate (w64 (a1 - (w64 ((0 : Int) - (([] : List (List UInt8 × Bool × List UInt8)).length : Int))))).toNat (([] : List UInt8), false, ([] : List UInt8))).take ((([] : List (List UInt8 × Bool × List UInt8)).length : Int)).toNat).length c_1)] rfl ?_
      refine J.ret ?_
      have h3 := h2.front (ty := (.pair .str (.pair .bool .str))) rfl 0 (([] : List (List UInt8 × Bool × List UInt8)).length : Int).toNat rfl (by omega)
      obtain rfl := Option.some.inj H
      exact ⟨_, _, _, (results_slots rfl), ⟨_, _, rfl, rfl⟩, h3.only [0] rfl⟩
    · replace H := ite_f c2 H
      refine J.skip ?_
      refine J.seq ?_
      refine J.region ?_
      refine RJ.run ttok 2 rfl ?_
      refine RJ.fin [(4, .slice none ([] : List (List UInt8 × Bool × List UInt8)).length 0)] rfl ?_
      refine J.ret ?_
      have h4 := h0.addNil 55 (.pair .str (.pair .bool .str))
      obtain rfl := Option.some.inj H
      exact ⟨_, _, _, (results_slots rfl), ⟨_, _, rfl, rfl⟩, h4.only [0] rfl⟩

/-! slices.Concat[[]sluicegate/api.Msg,sluicegate/api.Msg] -/
def slices_Concat_api_Msg_api_Msg.l1 : Nat → (List (List (List UInt8 × Bool × List UInt8))) → (List (List UInt8 × Bool × List UInt8)) → (Int) → Option ((List (List UInt8 × Bool × List UInt8)))
  | 0, _, _, _ => none
  | k + 1, a0, x3, x4 => if (decide (x4 < (a0.length : Int))) = true then (if 0 ≤ x4 ∧ x4 < (a0.length : Int) then (if (x3.length + (gt a0 x4).length) * 40 ≤ 140737488355328 then (slices_Concat_api_Msg_api_Msg.l1 k a0 (x3 ++ (gt a0 x4)) (w64 (x4 + 1))) else none) else none) else (some x3)
def slices_Concat_api_Msg_api_Msg.l0 : Nat → (List (List (List UInt8 × Bool × List UInt8))) → (Int) → (Int) → Option ((List (List UInt8 × Bool × List UInt8)))
  | 0, _, _, _ => none
  | k + 1, a0, x1, x2 => if (decide (x2 < (a0.length : Int))) = true then (if 0 ≤ x2 ∧ x2 < (a0.length : Int) then (if (decide ((w64 (x1 + ((gt a0 x2).length : Int))) < 0)) = true then (none) else (slices_Concat_api_Msg_api_Msg.l0 k a0 (w64 (x1 + ((gt a0 x2).length : Int))) (w64 (x2 + 1)))) else none) else ((slices_Grow_api_Msg_api_Msg_nil.f x1).bind fun r1 => (slices_Concat_api_Msg_api_Msg.l1 k a0 r1 0))
def slices_Concat_api_Msg_api_Msg.f (k : Nat) (a0 : List (List (List UInt8 × Bool × List UInt8))) : Option ((List (List UInt8 × Bool × List UInt8))) := slices_Concat_api_Msg_api_Msg.l0 k a0 0 0
set_option maxRecDepth 20000 in
set_option maxHeartbeats 4000000 in
theorem slices_Concat_api_Msg_api_Msg.spec {k : Nat} {a0 : List (List (List UInt8 × Bool × List UInt8))} {A1 : Option Addr} {c_1 : Nat} {r : (List (List UInt8 × Bool × List UInt8))} (H : slices_Concat_api_Msg_api_Msg.f k a0 = some r) :
    Spec Try.prog 59 [.slice A1 a0.length c_1] [] [rdC 38 (.slice 55 (.pair .str (.pair .bool .str))) a0 (.slice A1 a0.length c_1)] (fun v l => ∃ (A_0 : Option Addr) (c_0 : Nat), v = .slice A_0 r.length c_0 ∧ l = [ownC 55 (.pair .str (.pair .bool .str)) r (.slice A_0 r.length c_0)]) := by
  refine Spec.enter Try.func59 rfl (by kernel_rfl) (by kernel_rfl) fun w0 F0 h0 => ?_
  unfold slices_Concat_api_Msg_api_Msg.f at H
  refine J.seq ?_
  refine J.region ?_
  refine RJ.run ttok 1 rfl ?_
  refine RJ.fin [(0, .slice A1 a0.length c_1)] rfl ?_
  refine J.seq ?_
  refine J.region ?_
  refine RJ.run ttok 1 rfl ?_
  refine RJ.fin [(0, .slice A1 a0.length c_1), (3, .int .i64 0)] rfl ?_
  refine J.seq ?_
  refine J.seq ?_
  refine J.region ?_
  refine RJ.run ttok 3 rfl ?_
  refine RJ.fin [(0, .slice A1 a0.length c_1), (3, .int .i64 0), (9, .slice A1 a0.length c_1), (10, .int .i64 (a0.length : Int)), (11, .int .i64 0)] rfl ?_
  refine J.block ?_
  have h10 := ((h0.only [] rfl).rds [0] rfl)
  refine J.loop (fun k env w => ∃ (x1 : Int) (x2 : Int), env = [(0, .slice A1 a0.length c_1), (3, .int .i64 x1), (9, .slice A1 a0.length c_1), (10, .int .i64 (a0.length : Int)), (11, .int .i64 x2)] ∧ St w0 F0 [] [rdC 38 (.slice 55 (.pair .str (.pair .bool .str))) a0 (.slice A1 a0.length c_1)] w ∧ slices_Concat_api_Msg_api_Msg.l0 k a0 x1 x2 = some r) (k := k) ⟨0, 0, rfl, h10, H⟩ ?_
  rintro k1 env w1 ⟨x1, x2, rfl, h1, H⟩
  cases k1 with
  | zero => exact nomatch (show none = some r from H)
  | succ k1 =>
    rw [slices_Concat_api_Msg_api_Msg.l0] at H
    refine J.seq ?_
    refine J.region ?_
    refine RJ.run ttok 1 rfl ?_
    refine RJ.fin [(0, .slice A1 a0.length c_1), (3, .int .i64 x1), (9, .slice A1 a0.length c_1), (10, .int .i64 (a0.length : Int)), (11, .int .i64 x2), (12, .bool (decide (x2 < (a0.length : Int))))] rfl ?_
    refine J.seq ?_
    refine J.cond rfl (fun c1 => ?_) (fun c1 => ?_)
    · replace H := ite_t c1 H
      refine J.skip ?_
      refine J.seq ?_
      refine J.block ?_
      refine J.seq ?_
      refine J.region ?_
      obtain ⟨⟨p1, p2⟩, H⟩ := guard_t H
      have e1 := elem_A h1.wh (Gives.self 0 rfl) p1 p2
      refine RJ.q rfl rfl (q_index ttok rfl rfl rfl rfl rfl e1 p1 p2) ?_
      obtain ⟨cs1, h2⟩ := h1.elem 0 rfl p1 p2
      obtain ⟨A2, c_2, rfl⟩ := St.okslice 0 h2 rfl
      refine RJ.q rfl rfl (q_load_el (f := 0) ttok (fun w e => e ▸ h2.wh) (Gives.self 1 rfl) rfl rfl rfl rfl) ?_
      refine RJ.run ttok 1 rfl ?_
      refine RJ.fin [(0, .slice A1 a0.length c_1), (3, .int .i64 x1), (5, .slice A2 (gt a0 x2).length c_2), (9, .slice A1 a0.length c_1), (10, .int .i64 (a0.length : Int)), (11, .int .i64 x2)] rfl ?_
      refine J.seq ?_
      refine J.region ?_
      refine RJ.run ttok 5 rfl ?_
      refine RJ.fin [(0, .slice A1 a0.length c_1), (3, .int .i64 (w64 (x1 + ((gt a0 x2).length : Int)))), (9, .slice A1 a0.length c_1), (10, .int .i64 (a0.length : Int)), (11, .int .i64 x2)] rfl ?_
      refine J.seq ?_
      refine J.region ?_
      refine RJ.run ttok 2 rfl ?_
      refine RJ.fin [(0, .slice A1 a0.length c_1), (3, .int .i64 (w64 (x1 + ((gt a0 x2).length : Int)))), (9, .slice A1 a0.length c_1), (10, .int .i64 (a0.length : Int)), (11, .int .i64 x2), (20, .bool (decide ((w64 (x1 + ((gt a0 x2).length : Int))) < 0)))] rfl ?_
      refine J.cond rfl (fun c2 => ?_) (fun c2 => ?_)
      · replace H := ite_t c2 H
        exact nomatch H
      · replace H := ite_f c2 H
        refine J.skip ?_
        refine J.region ?_
        refine RJ.run ttok 2 rfl ?_
        refine RJ.fin [(0, .slice A1 a0.length c_1), (3, .int .i64 (w64 (x1 + ((gt a0 x2).length : Int)))), (9, .slice A1 a0.length c_1), (10, .int .i64 (a0.length : Int)), (11, .int .i64 (w64 (x2 + 1)))] rfl ?_
        have h3 := ((h2.only [] rfl).rds [2] rfl)
        exact ⟨k1, by omega, (w64 (x1 + ((gt a0 x2).length : Int))), (w64 (x2 + 1)), rfl, h3, H⟩
    · replace H := ite_f c1 H
      refine J.exit ?_
      refine J.seq ?_
      refine J.region ?_
      refine RJ.run ttok 1 rfl ?_
      obtain ⟨r1, q1, H⟩ := bind_t H
      refine RJ.op rfl rfl (op_call [] (slices_Grow_api_Msg_api_Msg_nil.spec q1) rfl rfl rfl h1 rfl gnil) ?_
      rintro _ w2 ⟨_, ⟨A3, c_3, rfl, rfl⟩, h4⟩
      refine RJ.run ttok 1 rfl ?_
      refine RJ.fin [(0, .slice A1 a0.length c_1), (6, .slice A3 r1.length c_3)] rfl ?_
      refine J.seq ?_
      refine J.seq ?_
      refine J.region ?_
      refine RJ.run ttok 3 rfl ?_
      refine RJ.fin [(6, .slice A3 r1.length c_3), (25, .slice A1 a0.length c_1), (26, .int .i64 (a0.length : Int)), (27, .int .i64 0)] rfl ?_
      refine J.block ?_
      have h9 := ((h4.only [0] rfl).rds [0] rfl)
      refine J.loop (fun k env w => ∃ (x3 : List (List UInt8 × Bool × List UInt8)) (A4 : Option Addr) (c_4 : Nat) (x4 : Int), env = [(6, .slice A4 x3.length c_4), (25, .slice A1 a0.length c_1), (26, .int .i64 (a0.length : Int)), (27, .int .i64 x4)] ∧ St w0 F0 [ownC 55 (.pair .str (.pair .bool .str)) x3 (.slice A4 x3.length c_4)] [rdC 38 (.slice 55 (.pair .str (.pair .bool .str))) a0 (.slice A1 a0.length c_1)] w ∧ slices_Concat_api_Msg_api_Msg.l1 k a0 x3 x4 = some r) (k := k1) ⟨r1, A3, c_3, 0, rfl, h9, H⟩ ?_
      rintro k2 env w3 ⟨x3, A4, c_4, x4, rfl, h5, H⟩
      cases k2 with
      | zero => exact nomatch (show none = some r from H)
      | succ k2 =>
        rw [slices_Concat_api_Msg_api_Msg.l1] at H
        refine J.seq ?_
        refine J.region ?_
        refine RJ.run ttok 1 rfl ?_
        refine RJ.fin [(6, .slice A4 x3.length c_4), (25, .slice A1 a0.length c_1), (26, .int .i64 (a0.length : Int)), (27, .int .i64 x4), (28, .bool (decide (x4 < (a0.length : Int))))] rfl ?_
        refine J.seq ?_
        refine J.cond rfl (fun c3 => ?_) (fun c3 => ?_)
        · replace H := ite_t c3 H
          refine J.skip ?_
          refine J.seq ?_
          refine J.block ?_
          refine J.seq ?_
          refine J.region ?_
          obtain ⟨⟨p3, p4⟩, H⟩ := guard_t H
          have e2 := elem_A h5.wh (Gives.self 1 rfl) p3 p4
          refine RJ.q rfl rfl (q_index ttok rfl rfl rfl rfl rfl e2 p3 p4) ?_
          obtain ⟨cs2, h6⟩ := h5.elem 0 rfl p3 p4
          obtain ⟨A5, c_5, rfl⟩ := St.okslice 0 h6 rfl
          refine RJ.q rfl rfl (q_load_el (f := 0) ttok (fun w e => e ▸ h6.wh) (Gives.self 2 rfl) rfl rfl rfl rfl) ?_
          refine RJ.run ttok 1 rfl ?_
          refine RJ.fin [(6, .slice A4 x3.length c_4), (8, .slice A5 (gt a0 x4).length c_5), (25, .slice A1 a0.length c_1), (26, .int .i64 (a0.length : Int)), (27, .int .i64 x4)] rfl ?_
          refine J.region ?_
          refine RJ.run ttok 2 rfl ?_
          obtain ⟨p5, H⟩ := guard_t H
          refine RJ.op rfl rfl (op_append ttok rfl 0 rfl h6 rfl (Gives.self 0 rfl) rfl rfl rfl rfl rfl rfl (by decide) (by decide) p5) ?_
          rintro _ w4 ⟨A6, c_6, rfl, h7⟩
          refine RJ.run ttok 1 rfl ?_
          refine RJ.fin [(6, .slice A6 (x3 ++ (gt a0 x4)).length c_6), (25, .slice A1 a0.length c_1), (26, .int .i64 (a0.length : Int)), (27, .int .i64 x4)] rfl ?_
          refine J.region ?_
          refine RJ.run ttok 2 rfl ?_
          refine RJ.fin [(6, .slice A6 (x3 ++ (gt a0 x4)).length c_6), (25, .slice A1 a0.length c_1), (26, .int .i64 (a0.length : Int)), (27, .int .i64 (w64 (x4 + 1)))] rfl ?_
          have h8 := ((h7.only [0] rfl).rds [2] rfl)
          exact ⟨k2, by omega, (x3 ++ (gt a0 x4)), A6, c_6, (w64 (x4 + 1)), rfl, h8, H⟩
        · replace H := ite_f c3 H
          refine J.exit ?_
          refine J.seq ?_
          refine J.region ?_
          refine RJ.run ttok 2 rfl ?_
          refine RJ.fin [(2, .slice A4 x3.length c_4)] rfl ?_
          refine J.ret ?_
          obtain rfl := Option.some.inj H
          exact ⟨_, _, _, (results_slots rfl), ⟨_, _, rfl, rfl⟩, h5.only [0] rfl⟩

/-! sluicegate/buf.Take -/
def buf_Take.f (k : Nat) (a0 : List (List UInt8 × Bool × List UInt8)) (a1 : List UInt8 × List UInt8 × Bool) (a2 : Int) : Option ((List (List UInt8 × Bool × List UInt8)) × (List (List UInt8 × Bool × List UInt8))) := (buf_part.f k a0 (a1.1, a1.2.1, a1.2.2)).bind fun r1 => (if 0 ≤ r1.1 ∧ r1.1 ≤ (w64 (r1.1 + (if (if a2 < (w64 (r1.2 - r1.1)) then a2 else (w64 (r1.2 - r1.1))) > 0 then (if a2 < (w64 (r1.2 - r1.1)) then a2 else (w64 (r1.2 - r1.1))) else 0))) ∧ (w64 (r1.1 + (if (if a2 < (w64 (r1.2 - r1.1)) then a2 else (w64 (r1.2 - r1.1))) > 0 then (if a2 < (w64 (r1.2 - r1.1)) then a2 else (w64 (r1.2 - r1.1))) else 0))) ≤ (a0.length : Int) then (if (0 : Int) ≤ r1.1 ∧ r1.1 ≤ (a0.length : Int) then (if 0 ≤ (w64 (r1.1 + (if (if a2 < (w64 (r1.2 - r1.1)) then a2 else (w64 (r1.2 - r1.1))) > 0 then (if a2 < (w64 (r1.2 - r1.1)) then a2 else (w64 (r1.2 - r1.1))) else 0))) ∧ (w64 (r1.1 + (if (if a2 < (w64 (r1.2 - r1.1)) then a2 else (w64 (r1.2 - r1.1))) > 0 then (if a2 < (w64 (r1.2 - r1.1)) then a2 else (w64 (r1.2 - r1.1))) else 0))) ≤ (a0.length : Int) then ((slices_Clone_api_Msg_api_Msg.f ((a0.drop (r1.1).toNat).take (((w64 (r1.1 + (if (if a2 < (w64 (r1.2 - r1.1)) then a2 else (w64 (r1.2 - r1.1))) > 0 then (if a2 < (w64 (r1.2 - r1.1)) then a2 else (w64 (r1.2 - r1.1))) else 0)))).toNat - (r1.1).toNat))).bind fun r2 => ((slices_Concat_api_Msg_api_Msg.f k ([(a0.take (r1.1).toNat), (a0.drop ((w64 (r1.1 + (if (if a2 < (w64 (r1.2 - r1.1)) then a2 else (w64 (r1.2 - r1.1))) > 0 then (if a2 < (w64 (r1.2 - r1.1)) then a2 else (w64 (r1.2 - r1.1))) else 0)))).toNat)] : List (List (List UInt8 × Bool × List UInt8)))).bind fun r3 => (some (r2, r3)))) else none) else none) else none)
set_option maxRecDepth 20000 in
set_option maxHeartbeats 4000000 in
theorem buf_Take.spec {k : Nat} {a0 : List (List UInt8 × Bool × List UInt8)} {a1 : List UInt8 × List UInt8 × Bool} {a2 : Int} {A1 : Option Addr} {c_1 : Nat} {r : (List (List UInt8 × Bool × List UInt8)) × (List (List UInt8 × Bool × List UInt8))} (H : buf_Take.f k a0 a1 a2 = some r) :
    Spec Try.prog 43 [.slice A1 a0.length c_1, .agg #[.string ⟨⟨a1.1⟩⟩, .string ⟨⟨a1.2.1⟩⟩, .bool a1.2.2], .int .i64 a2] [] [rdC 55 (.pair .str (.pair .bool .str)) a0 (.slice A1 a0.length c_1)] (fun v l => ∃ (A_0 : Option Addr) (c_0 : Nat) (A_1 : Option Addr) (c_1 : Nat), v = .tuple #[.slice A_0 r.1.length c_0, .slice A_1 r.2.length c_1] ∧ l = [ownC 55 (.pair .str (.pair .bool .str)) r.1 (.slice A_0 r.1.length c_0), ownC 55 (.pair .str (.pair .bool .str)) r.2 (.slice A_1 r.2.length c_1)]) := by
  refine Spec.enter Try.func43 rfl (by kernel_rfl) (by kernel_rfl) fun w0 F0 h0 => ?_
  unfold buf_Take.f at H
  refine J.seq ?_
  refine J.region ?_
  refine RJ.op rfl rfl (op_box rfl rfl h0) ?_
  rintro _ w1 ⟨b1, rfl, h1⟩
  refine RJ.run ttok 2 rfl ?_
  refine RJ.fin [(0, .slice A1 a0.length c_1), (2, .int .i64 a2), (4, .pointer (some ⟨b1, 0, none⟩))] rfl ?_
  refine J.seq ?_
  refine J.region ?_
  refine RJ.run ttok 1 rfl ?_
  refine RJ.q rfl rfl (q_load_box ttok 0 (fun w e => e ▸ h1.wh) rfl rfl rfl rfl rfl) ?_
  obtain ⟨r1, q1, H⟩ := bind_t H
  refine RJ.op rfl rfl (op_call [] (buf_part.spec q1) rfl rfl rfl h1 rfl (gcons (Gives.self 1 rfl) gnil)) ?_
  rintro _ w2 ⟨_, ⟨rfl, rfl⟩, h2⟩
  refine RJ.run ttok 5 rfl ?_
  refine RJ.fin [(0, .slice A1 a0.length c_1), (2, .int .i64 a2), (8, .int .i64 r1.1), (9, .int .i64 r1.2)] rfl ?_
  refine J.seq ?_
  refine J.region ?_
  refine RJ.run ttok 9 rfl ?_
  refine RJ.fin [(0, .slice A1 a0.length c_1), (8, .int .i64 r1.1), (9, .int .i64 (w64 (r1.1 + (if (if a2 < (w64 (r1.2 - r1.1)) then a2 else (w64 (r1.2 - r1.1))) > 0 then (if a2 < (w64 (r1.2 - r1.1)) then a2 else (w64 (r1.2 - r1.1))) else 0))))] rfl ?_
  refine J.seq ?_
  obtain ⟨⟨p1, p2, p3⟩, H⟩ := guard_t H
  obtain ⟨⟨p4, p5⟩, H⟩ := guard_t H
  obtain ⟨⟨p6, p7⟩, H⟩ := guard_t H
  obtain ⟨r2, q2, H⟩ := bind_t H
  obtain ⟨r3, q3, H⟩ := bind_t H
  refine J.midS (fun env w => ∃ (A2 : Option Addr) (c_2 : Nat) (A3 : Option Addr) (c_3 : Nat), env = [(6, .slice A2 r2.length c_2), (7, .slice A3 r3.length c_3)] ∧ St w0 F0 [ownC 55 (.pair .str (.pair .bool .str)) r2 (.slice A2 r2.length c_2), ownC 55 (.pair .str (.pair .bool .str)) r3 (.slice A3 r3.length c_3), boxC b1 23 [.string ⟨⟨a1.1⟩⟩, .string ⟨⟨a1.2.1⟩⟩, .bool a1.2.2]] [rdC 55 (.pair .str (.pair .bool .str)) a0 (.slice A1 a0.length c_1)] w) ?_ ?_
  · refine J.heldSt mix h2 ?_
    have h8 := h2.drew
    refine HJ.run ttok rfl [0, 1, 2, 5, 6, 8, 9] rfl ?_
    have e4 := h8.cap (Gives.self 1 rfl)
    refine HJ.q (i := 3) rfl rfl rfl rfl rfl rfl (q_cut (l := r1.1) (h := (w64 (r1.1 + (if (if a2 < (w64 (r1.2 - r1.1)) then a2 else (w64 (r1.2 - r1.1))) > 0 then (if a2 < (w64 (r1.2 - r1.1)) then a2 else (w64 (r1.2 - r1.1))) else 0)))) (sub := ((a0.drop (r1.1).toNat).take (((w64 (r1.1 + (if (if a2 < (w64 (r1.2 - r1.1)) then a2 else (w64 (r1.2 - r1.1))) > 0 then (if a2 < (w64 (r1.2 - r1.1)) then a2 else (w64 (r1.2 - r1.1))) else 0)))).toNat - (r1.1).toNat))) ttok rfl rfl rfl rfl e4 ⟨_, rfl⟩ ⟨_, rfl⟩ p1 p2 p3 rfl) ?_
    have e5 := h8.cap (Gives.self 1 rfl)
    refine HJ.q (i := 7) rfl rfl rfl rfl rfl rfl (q_cut0 (h := r1.1) (sub := (a0.take (r1.1).toNat)) ttok rfl rfl rfl rfl e5 ⟨_, rfl⟩ p4 p5 rfl) ?_
    have e6 := h8.cap (Gives.self 1 rfl)
    refine HJ.q (i := 10) rfl rfl rfl rfl rfl rfl (q_cut (l := (w64 (r1.1 + (if (if a2 < (w64 (r1.2 - r1.1)) then a2 else (w64 (r1.2 - r1.1))) > 0 then (if a2 < (w64 (r1.2 - r1.1)) then a2 else (w64 (r1.2 - r1.1))) else 0)))) (h := (a0.length : Int)) (sub := (a0.drop ((w64 (r1.1 + (if (if a2 < (w64 (r1.2 - r1.1)) then a2 else (w64 (r1.2 - r1.1))) > 0 then (if a2 < (w64 (r1.2 - r1.1)) then a2 else (w64 (r1.2 - r1.1))) else 0)))).toNat)) ttok rfl rfl rfl rfl e6 ⟨_, rfl⟩ rfl p6 p7 (Int.le_refl _) (cut_from _ _)) ?_
    refine HJ.pick [4, 11] (i := 4) rfl rfl rfl rfl ?_
    refine (hscons ?_ (hscons ?_ hsnil))
    · refine HS.op (i := 4) rfl rfl rfl (op_call [] (slices_Clone_api_Msg_api_Msg.spec q2) rfl rfl rfl h8 rfl (gcons ((Gives.self 1 rfl).trans (rd_cut (ty := (.pair .str (.pair .bool .str))) (l := r1.1) (h := (w64 (r1.1 + (if (if a2 < (w64 (r1.2 - r1.1)) then a2 else (w64 (r1.2 - r1.1))) > 0 then (if a2 < (w64 (r1.2 - r1.1)) then a2 else (w64 (r1.2 - r1.1))) else 0)))) (sub := ((a0.drop (r1.1).toNat).take (((w64 (r1.1 + (if (if a2 < (w64 (r1.2 - r1.1)) then a2 else (w64 (r1.2 - r1.1))) > 0 then (if a2 < (w64 (r1.2 - r1.1)) then a2 else (w64 (r1.2 - r1.1))) else 0)))).toNat - (r1.1).toNat))) rfl p1 p2 p3 rfl)) gnil)) ?_
      rintro _ w6 ⟨_, ⟨A4, c_4, rfl, rfl⟩, h9⟩
      refine ⟨⟨[_], h9⟩, ?_⟩
      have h10 := h9.read (k := 0) rfl (rd_cut0 (ty := (.pair .str (.pair .bool .str))) (h := r1.1) (sub := (a0.take (r1.1).toNat)) p4 p5 rfl)
      have h11 := h10.read (k := 1) rfl (rd_cut (ty := (.pair .str (.pair .bool .str))) (l := (w64 (r1.1 + (if (if a2 < (w64 (r1.2 - r1.1)) then a2 else (w64 (r1.2 - r1.1))) > 0 then (if a2 < (w64 (r1.2 - r1.1)) then a2 else (w64 (r1.2 - r1.1))) else 0)))) (h := (a0.length : Int)) (sub := (a0.drop ((w64 (r1.1 + (if (if a2 < (w64 (r1.2 - r1.1)) then a2 else (w64 (r1.2 - r1.1))) > 0 then (if a2 < (w64 (r1.2 - r1.1)) then a2 else (w64 (r1.2 - r1.1))) else 0)))).toNat)) rfl p6 p7 (Int.le_refl _) (cut_from _ _))
      refine HJ.op (i := 11) rfl rfl rfl rfl rfl (op_lit_rd ttok (.slice 55 (.pair .str (.pair .bool .str))) ([(a0.take (r1.1).toNat), (a0.drop ((w64 (r1.1 + (if (if a2 < (w64 (r1.2 - r1.1)) then a2 else (w64 (r1.2 - r1.1))) > 0 then (if a2 < (w64 (r1.2 - r1.1)) then a2 else (w64 (r1.2 - r1.1))) else 0)))).toNat)] : List (List (List UInt8 × Bool × List UInt8))) rfl h11 rfl rfl (by decide) rfl rfl rfl rfl rfl rfl ⟨(.inl (Gives.self 1 rfl)), ⟨(.inl (Gives.self 0 rfl)), trivial⟩⟩) ?_
      rintro _ w7 ⟨b3, rfl, h12⟩
      refine ⟨⟨[_], (h12.rds [3] rfl)⟩, ?_⟩
      refine HJ.op (i := 12) rfl rfl rfl rfl rfl (op_call [] (slices_Concat_api_Msg_api_Msg.spec q3) rfl rfl rfl h12 rfl (gcons (Gives.self 2 rfl) gnil)) ?_
      rintro _ w8 ⟨_, ⟨A5, c_5, rfl, rfl⟩, h13⟩
      refine ⟨⟨[_, _], (h13.rds [3] rfl)⟩, ?_⟩
      refine HJ.run ttok rfl [13, 14] rfl ?_
      refine HJ.fin [(6, .slice A4 r2.length c_4), (7, .slice A5 r3.length c_5)] rfl rfl ?_
      exact thenP_intro ⟨A4, c_4, A5, c_5, rfl, ((h13.only [1, 0, 0] rfl).rds [3] rfl)⟩
    · have h14 := h8.read (k := 0) rfl (rd_cut0 (ty := (.pair .str (.pair .bool .str))) (h := r1.1) (sub := (a0.take (r1.1).toNat)) p4 p5 rfl)
      have h15 := h14.read (k := 1) rfl (rd_cut (ty := (.pair .str (.pair .bool .str))) (l := (w64 (r1.1 + (if (if a2 < (w64 (r1.2 - r1.1)) then a2 else (w64 (r1.2 - r1.1))) > 0 then (if a2 < (w64 (r1.2 - r1.1)) then a2 else (w64 (r1.2 - r1.1))) else 0)))) (h := (a0.length : Int)) (sub := (a0.drop ((w64 (r1.1 + (if (if a2 < (w64 (r1.2 - r1.1)) then a2 else (w64 (r1.2 - r1.1))) > 0 then (if a2 < (w64 (r1.2 - r1.1)) then a2 else (w64 (r1.2 - r1.1))) else 0)))).toNat)) rfl p6 p7 (Int.le_refl _) (cut_from _ _))
      refine HS.op (i := 11) rfl rfl rfl (op_lit_rd ttok (.slice 55 (.pair .str (.pair .bool .str))) ([(a0.take (r1.1).toNat), (a0.drop ((w64 (r1.1 + (if (if a2 < (w64 (r1.2 - r1.1)) then a2 else (w64 (r1.2 - r1.1))) > 0 then (if a2 < (w64 (r1.2 - r1.1)) then a2 else (w64 (r1.2 - r1.1))) else 0)))).toNat)] : List (List (List UInt8 × Bool × List UInt8))) rfl h15 rfl rfl (by decide) rfl rfl rfl rfl rfl rfl ⟨(.inl (Gives.self 1 rfl)), ⟨(.inl (Gives.self 0 rfl)), trivial⟩⟩) ?_
      rintro _ w9 ⟨b4, rfl, h16⟩
      refine ⟨⟨[], (h16.rds [3] rfl)⟩, ?_⟩
      refine HJ.op (i := 4) rfl rfl rfl rfl rfl (op_call [] (slices_Clone_api_Msg_api_Msg.spec q2) rfl rfl rfl h16 rfl (gcons ((Gives.self 4 rfl).trans (rd_cut (ty := (.pair .str (.pair .bool .str))) (l := r1.1) (h := (w64 (r1.1 + (if (if a2 < (w64 (r1.2 - r1.1)) then a2 else (w64 (r1.2 - r1.1))) > 0 then (if a2 < (w64 (r1.2 - r1.1)) then a2 else (w64 (r1.2 - r1.1))) else 0)))) (sub := ((a0.drop (r1.1).toNat).take (((w64 (r1.1 + (if (if a2 < (w64 (r1.2 - r1.1)) then a2 else (w64 (r1.2 - r1.1))) > 0 then (if a2 < (w64 (r1.2 - r1.1)) then a2 else (w64 (r1.2 - r1.1))) else 0)))).toNat - (r1.1).toNat))) rfl p1 p2 p3 rfl)) gnil)) ?_
      rintro _ w10 ⟨_, ⟨A6, c_6, rfl, rfl⟩, h17⟩
      refine ⟨⟨[_], (h17.rds [3] rfl)⟩, ?_⟩
      refine HJ.op (i := 12) rfl rfl rfl rfl rfl (op_call [] (slices_Concat_api_Msg_api_Msg.spec q3) rfl rfl rfl h17 rfl (gcons (Gives.self 2 rfl) gnil)) ?_
      rintro _ w11 ⟨_, ⟨A7, c_7, rfl, rfl⟩, h18⟩
      refine ⟨⟨[_, _], (h18.rds [3] rfl)⟩, ?_⟩
      refine HJ.run ttok rfl [13, 14] rfl ?_
      refine HJ.fin [(6, .slice A6 r2.length c_6), (7, .slice A7 r3.length c_7)] rfl rfl ?_
      exact thenP_intro ⟨A6, c_6, A7, c_7, rfl, ((h18.only [1, 0, 0] rfl).rds [3] rfl)⟩
  · rintro env w12 ⟨A2, c_2, A3, c_3, rfl, h19⟩
    refine J.ret ?_
    obtain rfl := Option.some.inj H
    exact ⟨_, _, _, (results_slots rfl), ⟨_, _, _, _, rfl, rfl⟩, h19.only [0, 0] rfl⟩

/-! sluicegate/buf.Split -/
def buf_Split.f (k : Nat) (a0 : List (List UInt8 × Bool × List UInt8)) (a1 : List UInt8) : Option ((List (List UInt8 × Bool × List UInt8)) × (List (List UInt8 × Bool × List UInt8))) := (slices_BinarySearchFunc_api_Msg_api_Msg_string_buf_compare.f k a0 a1).bind fun r1 => (if (0 : Int) ≤ r1.1 ∧ r1.1 ≤ (a0.length : Int) then (if 0 ≤ r1.1 ∧ r1.1 ≤ (a0.length : Int) then ((slices_Clone_api_Msg_api_Msg.f (a0.take (r1.1).toNat)).bind fun r2 => ((slices_Clone_api_Msg_api_Msg.f (a0.drop (r1.1).toNat)).bind fun r3 => (some (r2, r3)))) else none) else none)
set_option maxRecDepth 20000 in
set_option maxHeartbeats 4000000 in
theorem buf_Split.spec {k : Nat} {a0 : List (List UInt8 × Bool × List UInt8)} {a1 : List UInt8} {A1 : Option Addr} {c_1 : Nat} {r : (List (List UInt8 × Bool × List UInt8)) × (List (List UInt8 × Bool × List UInt8))} (H : buf_Split.f k a0 a1 = some r) :
    Spec Try.prog 45 [.slice A1 a0.length c_1, .string ⟨⟨a1⟩⟩] [] [rdC 55 (.pair .str (.pair .bool .str)) a0 (.slice A1 a0.length c_1)] (fun v l => ∃ (A_0 : Option Addr) (c_0 : Nat) (A_1 : Option Addr) (c_1 : Nat), v = .tuple #[.slice A_0 r.1.length c_0, .slice A_1 r.2.length c_1] ∧ l = [ownC 55 (.pair .str (.pair .bool .str)) r.1 (.slice A_0 r.1.length c_0), ownC 55 (.pair .str (.pair .bool .str)) r.2 (.slice A_1 r.2.length c_1)]) := by
  refine Spec.enter Try.func45 rfl (by kernel_rfl) (by kernel_rfl) fun w0 F0 h0 => ?_
  unfold buf_Split.f at H
  refine J.seq ?_
  refine J.region ?_
  refine RJ.run ttok 2 rfl ?_
  refine RJ.fin [(0, .slice A1 a0.length c_1), (1, .string ⟨⟨a1⟩⟩)] rfl ?_
  refine J.seq ?_
  refine J.region ?_
  refine RJ.run ttok 2 rfl ?_
  obtain ⟨r1, q1, H⟩ := bind_t H
  refine RJ.op rfl rfl (op_call [] (slices_BinarySearchFunc_api_Msg_api_Msg_string_buf_compare.spec q1) rfl rfl rfl h0 rfl (gcons (Gives.self 0 rfl) gnil)) ?_
  rintro _ w1 ⟨_, ⟨rfl, rfl⟩, h1⟩
  refine RJ.run ttok 5 rfl ?_
  refine RJ.fin [(0, .slice A1 a0.length c_1), (6, .int .i64 r1.1)] rfl ?_
  refine J.seq ?_
  refine J.heldSt mix h1 ?_
  have h2 := h1.drew
  refine HJ.run ttok rfl [0, 1, 4, 5] rfl ?_
  obtain ⟨⟨p1, p2⟩, H⟩ := guard_t H
  have e1 := h2.cap (Gives.self 0 rfl)
  refine HJ.q (i := 2) rfl rfl rfl rfl rfl rfl (q_cut0 (h := r1.1) (sub := (a0.take (r1.1).toNat)) ttok rfl rfl rfl rfl e1 ⟨_, rfl⟩ p1 p2 rfl) ?_
  obtain ⟨⟨p3, p4⟩, H⟩ := guard_t H
  have e2 := h2.cap (Gives.self 0 rfl)
  refine HJ.q (i := 6) rfl rfl rfl rfl rfl rfl (q_cut (l := r1.1) (h := (a0.length : Int)) (sub := (a0.drop (r1.1).toNat)) ttok rfl rfl rfl rfl e2 ⟨_, rfl⟩ rfl p3 p4 (Int.le_refl _) (cut_from _ _)) ?_
  obtain ⟨r2, q2, H⟩ := bind_t H
  refine HJ.op (i := 3) rfl rfl rfl rfl rfl (op_call [] (slices_Clone_api_Msg_api_Msg.spec q2) rfl rfl rfl h2 rfl (gcons ((Gives.self 0 rfl).trans (rd_cut0 (ty := (.pair .str (.pair .bool .str))) (h := r1.1) (sub := (a0.take (r1.1).toNat)) p1 p2 rfl)) gnil)) ?_
  rintro _ w2 ⟨_, ⟨A2, c_2, rfl, rfl⟩, h3⟩
  refine ⟨⟨[_], h3⟩, ?_⟩
  obtain ⟨r3, q3, H⟩ := bind_t H
  refine HJ.op (i := 7) rfl rfl rfl rfl rfl (op_call [] (slices_Clone_api_Msg_api_Msg.spec q3) rfl rfl rfl h3 rfl (gcons ((Gives.self 1 rfl).trans (rd_cut (ty := (.pair .str (.pair .bool .str))) (l := r1.1) (h := (a0.length : Int)) (sub := (a0.drop (r1.1).toNat)) rfl p3 p4 (Int.le_refl _) (cut_from _ _))) gnil)) ?_
  rintro _ w3 ⟨_, ⟨A3, c_3, rfl, rfl⟩, h4⟩
  refine ⟨⟨[_, _], h4⟩, ?_⟩
  refine HJ.run ttok rfl [8, 9] rfl ?_
  refine HJ.fin [(4, .slice A2 r2.length c_2), (5, .slice A3 r3.length c_3)] rfl rfl ?_
  refine J.ret ?_
  obtain rfl := Option.some.inj H
  exact ⟨_, _, _, (results_slots rfl), ⟨_, _, _, _, rfl, rfl⟩, h4.only [1, 0] rfl⟩

/-! slices.Insert[[]sluicegate/api.Msg,sluicegate/api.Msg] -/
theorem slices_Insert_api_Msg_api_Msg.ov : Ov Try.prog 65 38 := Ov.of (rs := Try.f65.resultTypes) Try.func65 (by kernel_rfl) (by kernel_rfl) (by kernel_rfl) (by kernel_rfl)
def slices_Insert_api_Msg_api_Msg.f (a0 : List (List UInt8 × Bool × List UInt8)) (a1 : Int) (a2 : List (List UInt8 × Bool × List UInt8)) : Option (List (List UInt8 × Bool × List UInt8)) :=
  if 0 ≤ a1 ∧ a1 ≤ (a0.length : Int) then (if (a0.length + a2.length) * 40 ≤ 140737488355328 then some (a0.take a1.toNat ++ a2 ++ a0.drop a1.toNat) else none) else none
set_option maxRecDepth 20000 in
set_option maxHeartbeats 4000000 in
theorem slices_Insert_api_Msg_api_Msg.spec {a0 : List (List UInt8 × Bool × List UInt8)} {a1 : Int} {a2 : List (List UInt8 × Bool × List UInt8)} {A1 : Option Addr} {c_1 : Nat} {A2 : Option Addr} {c_2 : Nat} {r : List (List UInt8 × Bool × List UInt8)} (H : slices_Insert_api_Msg_api_Msg.f a0 a1 a2 = some r) :
    Spec Try.prog 62 [.slice A1 a0.length c_1, .int .i64 a1, .slice A2 a2.length c_2] [ownC 55 (.pair .str (.pair .bool .str)) a0 (.slice A1 a0.length c_1)] [rdC 55 (.pair .str (.pair .bool .str)) a2 (.slice A2 a2.length c_2)]
      (fun v l => ∃ (A_0 : Option Addr) (c_0 : Nat), v = .slice A_0 r.length c_0 ∧ l = [ownC 55 (.pair .str (.pair .bool .str)) r (.slice A_0 r.length c_0)]) := by
  refine Spec.enter Try.func62 rfl (by kernel_rfl) (by kernel_rfl) fun w0 F0 h0 => ?_
  unfold slices_Insert_api_Msg_api_Msg.f at H
  obtain ⟨⟨p0, p1⟩, H⟩ := guard_t H
  obtain ⟨p2, H⟩ := guard_t H
  obtain rfl := Option.some.inj H
  clear H
  obtain ⟨i, rfl⟩ := Int.eq_ofNat_of_zero_le p0
  have hi : i ≤ a0.length := by omega
  have hc1 := h0.cap (Gives.of 0 rfl own_rd)
  simp only [Int.toNat_natCast]
  refine J.seq ?_
  refine J.region ?_
  refine RJ.run ttok 1 rfl ?_
  refine RJ.fin [(0, .slice A1 a0.length c_1), (1, .int .i64 (i : Int)), (2, .slice A2 a2.length c_2)] rfl ?_
  refine J.seq ?_
  refine J.region ?_
  refine RJ.run ttok 2 rfl ?_
  refine RJ.q rfl rfl (q_cut (l := (i : Int)) (h := (a0.length : Int)) (sub := a0.drop i) ttok rfl rfl rfl rfl hc1 ⟨_, rfl⟩ rfl p0 p1 (Int.le_refl _) (by simpa using cut_from a0 (i : Int))) ?_
  refine RJ.fin [(0, .slice A1 a0.length c_1), (1, .int .i64 (i : Int)), (2, .slice A2 a2.length c_2)] rfl ?_
  refine J.seq ?_
  refine J.region ?_
  refine RJ.run ttok 3 rfl ?_
  refine RJ.fin [(0, .slice A1 a0.length c_1), (1, .int .i64 (i : Int)), (2, .slice A2 a2.length c_2), (7, .int .i64 (a2.length : Int))] rfl ?_
  refine J.seq ?_
  refine J.seq ?_
  refine J.region ?_
  refine RJ.run ttok 2 rfl ?_
  refine RJ.fin [(0, .slice A1 a0.length c_1), (1, .int .i64 (i : Int)), (2, .slice A2 a2.length c_2), (7, .int .i64 (a2.length : Int)), (16, .bool (decide ((a2.length : Int) = 0)))] rfl ?_
  refine J.cond rfl (fun c => ?_) (fun c => ?_)
  · have hz : a2 = [] := List.eq_nil_of_length_eq_zero (by have := of_decide_eq_true c; omega)
    subst hz
    refine J.seq ?_
    refine J.region ?_
    refine RJ.run ttok 2 rfl ?_
    refine RJ.fin [(6, .slice A1 a0.length c_1)] rfl ?_
    refine J.ret ?_
    have e : a0.take i ++ [] ++ a0.drop i = a0 := by simp
    rw [e]
    exact ⟨_, _, _, (results_slots rfl), ⟨_, _, rfl, rfl⟩, h0.only [0] rfl⟩
  · refine J.skip ?_
    have hm : a2.length ≠ 0 := by have := of_decide_eq_false c; omega
    refine J.seq ?_
    refine J.region ?_
    refine RJ.run ttok 3 rfl ?_
    refine RJ.fin [(0, .slice A1 a0.length c_1), (1, .int .i64 (i : Int)), (2, .slice A2 a2.length c_2), (7, .int .i64 (a2.length : Int)), (8, .int .i64 (a0.length : Int))] rfl ?_
    refine J.seq ?_
    refine J.seq ?_
    refine J.region ?_
    refine RJ.run ttok 3 rfl ?_
    refine RJ.fin [(0, .slice A1 a0.length c_1), (1, .int .i64 (i : Int)), (2, .slice A2 a2.length c_2), (7, .int .i64 (a2.length : Int)), (8, .int .i64 (a0.length : Int)), (22, .bool (decide ((i : Int) = (a0.length : Int))))] rfl ?_
    refine J.cond rfl (fun c => ?_) (fun c => ?_)
    · have hie : i = a0.length := by have := of_decide_eq_true c; omega
      refine J.seq ?_
      refine J.region ?_
      refine RJ.run ttok 2 rfl ?_
      refine RJ.op rfl rfl (op_append ttok (ty := (.pair .str (.pair .bool .str))) rfl 0 rfl h0 rfl (Gives.self 0 rfl) rfl rfl rfl rfl rfl rfl (by decide) (by decide) p2) ?_
      rintro _ w1 ⟨A, c_3, rfl, h1⟩
      refine RJ.run ttok 1 rfl ?_
      refine RJ.fin [(6, .slice A (a0 ++ a2).length c_3)] rfl ?_
      refine J.ret ?_
      have e : a0.take i ++ a2 ++ a0.drop i = a0 ++ a2 := by rw [hie]; simp
      rw [e]
      exact ⟨_, _, _, (results_slots rfl), ⟨_, _, rfl, rfl⟩, h1.only [0] rfl⟩
    · refine J.skip ?_
      have hlt : i < a0.length := by have := of_decide_eq_false c; omega
      have w1 : w64 ((a0.length : Int) + (a2.length : Int)) = ((a0.length + a2.length : Nat) : Int) := by rw [w64_id (by omega) (by omega)]; omega
      have wim : w64 ((i : Int) + (a2.length : Int)) = ((i + a2.length : Nat) : Int) := by rw [w64_id (by omega) (by omega)]; omega
      rcases h0.openRow (ty := (.pair .str (.pair .bool .str))) rfl 0 rfl with ⟨_, e, _⟩ | ⟨b, sp, rfl, hc, hcm, hsp, h1⟩
      · rw [e] at hlt; cases hlt
      have hX := flat_len (ty := (.pair .str (.pair .bool .str))) rfl a0
      have hY := flat_len (ty := (.pair .str (.pair .bool .str))) rfl a2
      have nn : Ty.n (.pair .str (.pair .bool .str)) = 3 := rfl
      have oX := scal_one (ty := (.pair .str (.pair .bool .str))) rfl a0
      have oY := scal_one (ty := (.pair .str (.pair .bool .str))) rfl a2
      have eT : (a0.flatMap (Ty.enc (.pair .str (.pair .bool .str)))).take (i * 3) = (a0.take i).flatMap (Ty.enc (.pair .str (.pair .bool .str))) := flat_take (ty := (.pair .str (.pair .bool .str))) rfl a0 i
      have eD : (a0.flatMap (Ty.enc (.pair .str (.pair .bool .str)))).drop (i * 3) = (a0.drop i).flatMap (Ty.enc (.pair .str (.pair .bool .str))) := flat_drop (ty := (.pair .str (.pair .bool .str))) rfl a0 i
      have eR : (a0.take i ++ a2 ++ a0.drop i).flatMap (Ty.enc (.pair .str (.pair .bool .str))) = (a0.flatMap (Ty.enc (.pair .str (.pair .bool .str)))).take (i * 3) ++ a2.flatMap (Ty.enc (.pair .str (.pair .bool .str))) ++ (a0.flatMap (Ty.enc (.pair .str (.pair .bool .str)))).drop (i * 3) := by rw [eT, eD, List.flatMap_append, List.flatMap_append]
      have lR : (a0.take i ++ a2 ++ a0.drop i).length = a0.length + a2.length := by simp only [List.length_append, List.length_take, List.length_drop]; omega
      rw [nn] at hX hY hsp
      obtain ⟨X, hXe⟩ : ∃ X, X = a0.flatMap (Ty.enc (.pair .str (.pair .bool .str))) := ⟨_, rfl⟩
      obtain ⟨Y, hYe⟩ : ∃ Y, Y = a2.flatMap (Ty.enc (.pair .str (.pair .bool .str))) := ⟨_, rfl⟩
      rw [← hXe] at hX eR h1 oX
      rw [← hYe] at hY eR oY
      refine J.seq ?_
      refine J.seq ?_
      refine J.region ?_
      refine RJ.run ttok 3 rfl ?_
      refine RJ.know (t := 28) rfl (congrArg (Value.int .i64) w1) ?_
      refine RJ.run ttok 3 rfl ?_
      refine RJ.fin [(0, .slice (some ⟨b, 0, none⟩) a0.length c_1), (1, .int .i64 (i : Int)), (2, .slice A2 a2.length c_2), (7, .int .i64 (a2.length : Int)), (8, .int .i64 (a0.length : Int)), (31, .bool (decide ((c_1 : Int) < ((a0.length + a2.length : Nat) : Int))))] rfl ?_
      refine J.cond rfl (fun c => ?_) (fun c => ?_)
      · -- a new row
        have hgr := of_decide_eq_true c
        have w2 : w64 (((a0.length + a2.length : Nat) : Int) - (i : Int)) = ((a0.length + a2.length - i : Nat) : Int) := by rw [w64_id (by omega) (by omega)]; omega
        refine J.seq ?_
        refine J.region ?_
        refine RJ.run ttok 2 rfl ?_
        refine RJ.q rfl rfl (q_cutRaw ttok 0 (i : Int) (0) (i) (c_1) rfl rfl rfl rfl hc rfl ⟨_, rfl⟩ (Int.le_refl _) p0 (by omega) (by omega) (by show 0 + 0 * 3 = 0; omega) (by omega) (by omega)) ?_
        refine RJ.run ttok 3 rfl ?_
        refine RJ.know (t := 37) rfl (congrArg (Value.int .i64) w1) ?_
        refine RJ.run ttok 2 rfl ?_
        refine RJ.know (t := 39) rfl (congrArg (Value.int .i64) w2) ?_
        refine RJ.op rfl rfl (op_growRaw ttok 0 rfl h1 rfl rfl rfl rfl rfl rfl rfl (by decide) (by decide) (by omega) (by omega) (by rw [List.length_append]; show i * 3 ≤ _; omega) (by show ((i : Int) + _) * (40 : Nat) ≤ _; omega)) ?_
        rintro _ w2' ⟨b2, cap, tail, rfl, hcap, hcap2, htail, h2⟩
        rw [Int.toNat_natCast] at hcap
        replace hcap : a0.length + a2.length ≤ cap := by omega
        replace htail : tail.length = (cap - i) * 3 := htail
        refine RJ.know (t := 40) (v := .slice (some ⟨b2, 0, none⟩) (a0.length + a2.length) cap) rfl (by rw [Int.toNat_natCast]; congr 1; omega) ?_
        have eX : (X ++ sp).take (i * 3) = X.take (i * 3) := List.take_append_of_le_length (by omega)
        have lX : (X.take (i * 3)).length = i * 3 := by rw [List.length_take]; omega
        replace h2 : St w0 F0 (boxC b2 55 (X.take (i * 3) ++ tail) :: [boxC b 55 (X ++ sp)]) [rdC 55 (.pair .str (.pair .bool .str)) a2 (.slice A2 a2.length c_2)] w2' := by rw [← eX]; exact h2
        obtain ⟨R, hR, _⟩ := h2.gives (c := rdC 55 (.pair .str (.pair .bool .str)) a2 (.slice A2 a2.length c_2)) (Gives.self 2 rfl)
        have lY := (rd_lies (ty := (.pair .str (.pair .bool .str))) rfl hR).2.1
        rw [← hYe] at lY
        refine RJ.run ttok 1 rfl ?_
        refine RJ.fin [(0, .slice (some ⟨b, 0, none⟩) a0.length c_1), (1, .int .i64 (i : Int)), (2, .slice A2 a2.length c_2), (7, .int .i64 (a2.length : Int)), (9, .slice (some ⟨b2, 0, none⟩) (a0.length + a2.length) cap)] rfl ?_
        refine J.seq ?_
        refine J.region ?_
        refine RJ.run ttok 2 rfl ?_
        refine RJ.q rfl rfl (q_cutRaw ttok (i : Int) ((a0.length + a2.length : Nat) : Int) (i * 3) (a0.length + a2.length - i) (cap - i) rfl rfl rfl rfl hcap ⟨_, rfl⟩ rfl p0 (by omega) (by omega) (by omega) (by show 0 + (i : Int).toNat * 3 = i * 3; omega) (by omega) (by omega)) ?_
        refine RJ.run ttok 1 rfl ?_
        refine RJ.op rfl rfl (op_copyRaw ttok (cs := Y) 0 rfl h2 rfl rfl rfl rfl rfl (by show Y.length = min a2.length (a0.length + a2.length - i) * 3; rw [Nat.min_eq_left (by omega)]; exact hY) (by rw [List.length_append]; omega) lY oY) ?_
        intro _ w3 h3
        refine RJ.fin [(0, .slice (some ⟨b, 0, none⟩) a0.length c_1), (1, .int .i64 (i : Int)), (7, .int .i64 (a2.length : Int)), (9, .slice (some ⟨b2, 0, none⟩) (a0.length + a2.length) cap)] rfl ?_
        obtain ⟨G, ⟨hG, hh⟩, _⟩ := h3.own (k := 1) (c := boxC b 55 (X ++ sp)) rfl
        have l3 : (layAt (i * 3) Y (X.take (i * 3) ++ tail)).length = cap * 3 := by simp only [layAt, List.length_append, List.length_take, List.length_drop]; omega
        refine J.seq ?_
        refine J.heldSt mix (h3.only [] rfl) ?_
        have h3 := h3.drew
        have lS : ∀ w', w'.heap[b]? = some (.cells (X ++ sp).toArray 55 (0, 0)) → Lies w' (some ⟨b, i * 3, none⟩) (X.drop (i * 3)) := fun w' hw => by
          have := (box_lies hw (i * 3)).take ((a0.length - i) * 3)
          rwa [List.drop_append_of_le_length (by omega), List.take_append_of_le_length (by rw [List.length_drop]; omega), List.take_of_length_le (by rw [List.length_drop]; omega)] at this
        refine HJ.run ttok rfl [0, 1, 2, 3] rfl ?_
        refine HJ.know (t := 49) rfl (congrArg (Value.int .i64) wim) ?_
        refine HJ.q (i := 4) rfl rfl rfl rfl rfl rfl (q_cutRaw ttok ((i + a2.length : Nat) : Int) ((a0.length + a2.length : Nat) : Int) ((i + a2.length) * 3) (a0.length - i) (cap - (i + a2.length)) rfl rfl rfl rfl hcap ⟨_, rfl⟩ rfl (by omega) (by omega) (by omega) (by omega) (by show 0 + ((i + a2.length : Nat) : Int).toNat * 3 = (i + a2.length) * 3; omega) (by omega) (by omega)) ?_
        refine HJ.run ttok rfl [5, 6] rfl ?_
        refine HJ.q (i := 7) rfl rfl rfl rfl rfl rfl (q_cutRaw ttok (i : Int) (a0.length : Int) (i * 3) (a0.length - i) (c_1 - i) rfl rfl rfl rfl hc ⟨_, rfl⟩ rfl p0 p1 (by omega) (by omega) (by show 0 + (i : Int).toNat * 3 = i * 3; omega) (by omega) (by omega)) ?_
        refine HJ.op (i := 8) rfl rfl rfl rfl rfl (op_copyRaw ttok (cs := X.drop (i * 3)) 0 rfl h3 rfl rfl rfl rfl rfl (by show (X.drop (i * 3)).length = min (a0.length - i) (a0.length - i) * 3; rw [List.length_drop, Nat.min_self]; omega) (by rw [l3, List.length_drop]; omega) (lS _ hh) (fun u hu => oX u (List.mem_of_mem_drop hu))) ?_
        intro _ w4 h4
        refine ⟨⟨[_, _], h4⟩, ?_⟩
        refine HJ.fin [(9, .slice (some ⟨b2, 0, none⟩) (a0.length + a2.length) cap)] rfl rfl ?_
        refine J.seq ?_
        refine J.region ?_
        refine RJ.run ttok 2 rfl ?_
        refine RJ.fin [(6, .slice (some ⟨b2, 0, none⟩) (a0.length + a2.length) cap)] rfl ?_
        refine J.ret ?_
        have q := ins_grow (X := X) (Y := Y) (tail := tail) (a := i * 3) (by omega) (by omega)
        have e1 : (i + a2.length) * 3 = i * 3 + Y.length := by omega
        rw [e1] at h4
        have h5 := h4.closeRow (ty := (.pair .str (.pair .bool .str))) (ys := a0.take i ++ a2 ++ a0.drop i) (c := cap) rfl 0 rfl (by rw [lR]; exact hcap) hcap2 (by rw [q.1, List.length_append, lX, nn]; omega) (by rw [eR, lR, nn, ← q.2]; congr 1; omega)
        exact ⟨_, _, _, (results_slots rfl), ⟨_, _, by rw [lR]; rfl, rfl⟩, h5.only [0] rfl⟩
      · -- in place
        have hroom : a0.length + a2.length ≤ c_1 := by have := of_decide_eq_false c; omega
        refine J.skip ?_
        refine J.seq ?_
        refine J.region ?_
        refine RJ.run ttok 4 rfl ?_
        refine RJ.know (t := 59) rfl (congrArg (Value.int .i64) w1) ?_
        refine RJ.q rfl rfl (q_cutRaw ttok 0 ((a0.length + a2.length : Nat) : Int) (0) (a0.length + a2.length) (c_1) rfl rfl rfl rfl hc rfl ⟨_, rfl⟩ (Int.le_refl _) (by omega) (by omega) (by omega) (by show 0 + 0 * 3 = 0; omega) (by omega) (by omega)) ?_
        refine RJ.run ttok 1 rfl ?_
        refine RJ.fin [(0, .slice (some ⟨b, 0, none⟩) (a0.length + a2.length) c_1), (1, .int .i64 (i : Int)), (2, .slice A2 a2.length c_2), (7, .int .i64 (a2.length : Int)), (8, .int .i64 (a0.length : Int))] rfl ?_
        refine J.seq ?_
        refine J.seq ?_
        refine J.region ?_
        refine RJ.run ttok 4 rfl ?_
        refine RJ.run ttok 1 rfl ?_
        refine RJ.know (t := 65) rfl (congrArg (Value.int .i64) wim) ?_
        refine RJ.q rfl rfl (q_cutRaw ttok ((i + a2.length : Nat) : Int) ((a0.length + a2.length : Nat) : Int) ((i + a2.length) * 3) (a0.length - i) (c_1 - (i + a2.length)) rfl rfl rfl rfl hroom ⟨_, rfl⟩ rfl (by omega) (by omega) (by omega) (by omega) (by show 0 + ((i + a2.length : Nat) : Int).toNat * 3 = (i + a2.length) * 3; omega) (by omega) (by omega)) ?_
        refine RJ.q rfl rfl (q_overlaps ttok (ty := (.pair .str (.pair .bool .str))) (ys := a2) rfl 0 slices_Insert_api_Msg_api_Msg.ov rfl rfl rfl h1 rfl (Gives.self 0 rfl) rfl rfl (by decide)) ?_
        refine RJ.run ttok 1 rfl ?_
        refine RJ.fin [(0, .slice (some ⟨b, 0, none⟩) (a0.length + a2.length) c_1), (1, .int .i64 (i : Int)), (2, .slice A2 a2.length c_2), (7, .int .i64 (a2.length : Int)), (8, .int .i64 (a0.length : Int)), (68, .bool true)] rfl ?_
        refine J.condT rfl ?_
        obtain ⟨G, ⟨hG, hh⟩, _⟩ := h1.own (k := 0) (c := boxC b 55 (X ++ sp)) rfl
        have lS : ∀ w', w'.heap[b]? = some (.cells (X ++ sp).toArray 55 (0, 0)) → Lies w' (some ⟨b, i * 3, none⟩) (X.drop (i * 3)) := fun w' hw => by
          have := (box_lies hw (i * 3)).take ((a0.length - i) * 3)
          rwa [List.drop_append_of_le_length (by omega), List.take_append_of_le_length (by rw [List.length_drop]; omega), List.take_of_length_le (by rw [List.length_drop]; omega)] at this
        refine J.seq ?_
        refine J.heldSt mix (h1.only [] rfl) ?_
        have h2 := h1.drew
        refine HJ.run ttok rfl [0, 1, 2, 3] rfl ?_
        refine HJ.know (t := 72) rfl (congrArg (Value.int .i64) wim) ?_
        refine HJ.q (i := 4) rfl rfl rfl rfl rfl rfl (q_cutRaw ttok ((i + a2.length : Nat) : Int) ((a0.length + a2.length : Nat) : Int) ((i + a2.length) * 3) (a0.length - i) (c_1 - (i + a2.length)) rfl rfl rfl rfl hroom ⟨_, rfl⟩ rfl (by omega) (by omega) (by omega) (by omega) (by show 0 + ((i + a2.length : Nat) : Int).toNat * 3 = (i + a2.length) * 3; omega) (by omega) (by omega)) ?_
        refine HJ.run ttok rfl [5, 6] rfl ?_
        refine HJ.q (i := 7) rfl rfl rfl rfl rfl rfl (q_cutRaw ttok (i : Int) ((a0.length + a2.length : Nat) : Int) (i * 3) (a0.length + a2.length - i) (c_1 - i) rfl rfl rfl rfl hroom ⟨_, rfl⟩ rfl p0 (by omega) (by omega) (by omega) (by show 0 + (i : Int).toNat * 3 = i * 3; omega) (by omega) (by omega)) ?_
        refine HJ.op (i := 8) rfl rfl rfl rfl rfl (op_copyRaw ttok (cs := X.drop (i * 3)) 0 rfl h2 rfl rfl rfl rfl rfl (by show (X.drop (i * 3)).length = min (a0.length + a2.length - i) (a0.length - i) * 3; rw [List.length_drop, Nat.min_eq_right (by omega)]; omega) (by rw [List.length_append, List.length_drop]; omega) (lS _ hh) (fun u hu => oX u (List.mem_of_mem_drop hu))) ?_
        intro _ w3 h3
        refine ⟨⟨[_], h3⟩, ?_⟩
        refine HJ.fin [(0, .slice (some ⟨b, 0, none⟩) (a0.length + a2.length) c_1), (1, .int .i64 (i : Int)), (2, .slice A2 a2.length c_2)] rfl rfl ?_
        obtain ⟨R, hR, _⟩ := h3.gives (c := rdC 55 (.pair .str (.pair .bool .str)) a2 (.slice A2 a2.length c_2)) (Gives.self 1 rfl)
        have lY := (rd_lies (ty := (.pair .str (.pair .bool .str))) rfl hR).2.1
        rw [← hYe] at lY
        have q := ins_room (X := X) (Y := Y) (sp := sp) (a := i * 3) (by omega) (by omega)
        have e1 : (i + a2.length) * 3 = i * 3 + Y.length := by omega
        rw [e1] at h3
        refine J.seq ?_
        refine J.region ?_
        refine RJ.run ttok 2 rfl ?_
        refine RJ.q rfl rfl (q_cutRaw ttok (i : Int) ((a0.length + a2.length : Nat) : Int) (i * 3) (a0.length + a2.length - i) (c_1 - i) rfl rfl rfl rfl hroom ⟨_, rfl⟩ rfl p0 (by omega) (by omega) (by omega) (by show 0 + (i : Int).toNat * 3 = i * 3; omega) (by omega) (by omega)) ?_
        refine RJ.run ttok 1 rfl ?_
        refine RJ.op rfl rfl (op_copyRaw ttok (cs := Y) 0 rfl h3 rfl rfl rfl rfl rfl (by show Y.length = min a2.length (a0.length + a2.length - i) * 3; rw [Nat.min_eq_left (by omega)]; exact hY) (by simp only [layAt, List.length_append, List.length_take, List.length_drop]; omega) lY oY) ?_
        intro _ w4 h4
        refine RJ.fin [(0, .slice (some ⟨b, 0, none⟩) (a0.length + a2.length) c_1)] rfl ?_
        refine J.seq ?_
        refine J.region ?_
        refine RJ.run ttok 2 rfl ?_
        refine RJ.fin [(6, .slice (some ⟨b, 0, none⟩) (a0.length + a2.length) c_1)] rfl ?_
        refine J.ret ?_
        have h5 := h4.closeRow (ty := (.pair .str (.pair .bool .str))) (ys := a0.take i ++ a2 ++ a0.drop i) (c := c_1) rfl 0 rfl (by rw [lR]; exact hroom) hcm (by rw [q.1, List.length_append, nn]; omega) (by rw [eR, lR, nn, ← q.2]; congr 1; omega)
        exact ⟨_, _, _, (results_slots rfl), ⟨_, _, by rw [lR]; rfl, rfl⟩, h5.only [0] rfl⟩

/-! sluicegate/buf.Put -/
def buf_Put.f (k : Nat) (a0 : List (List UInt8 × Bool × List UInt8)) (a1 : List UInt8 × Bool × List UInt8) : Option ((List (List UInt8 × Bool × List UInt8))) := (slices_BinarySearchFunc_api_Msg_api_Msg_string_buf_compare.f k a0 a1.1).bind fun r1 => ((slices_Clone_api_Msg_api_Msg.f a0).bind fun r2 => (if r1.2 = true then (if 0 ≤ r1.1 ∧ r1.1 < (r2.length : Int) then (some (r2.set r1.1.toNat (a1.1, a1.2.1, a1.2.2))) else none) else ((slices_Insert_api_Msg_api_Msg.f r2 r1.1 ([(a1.1, a1.2.1, a1.2.2)] : List (List UInt8 × Bool × List UInt8))).bind fun r3 => (some r3))))
set_option maxRecDepth 20000 in
set_option maxHeartbeats 4000000 in
theorem buf_Put.spec {k : Nat} {a0 : List (List UInt8 × Bool × List UInt8)} {a1 : List UInt8 × Bool × List UInt8} {A1 : Option Addr} {c_1 : Nat} {r : (List (List UInt8 × Bool × List UInt8))} (H : buf_Put.f k a0 a1 = some r) :
    Spec Try.prog 50 [.slice A1 a0.length c_1, .agg #[.string ⟨⟨a1.1⟩⟩, .bool a1.2.1, .string ⟨⟨a1.2.2⟩⟩]] [] [rdC 55 (.pair .str (.pair .bool .str)) a0 (.slice A1 a0.length c_1)] (fun v l => ∃ (A_0 : Option Addr) (c_0 : Nat), v = .slice A_0 r.length c_0 ∧ l = [ownC 55 (.pair .str (.pair .bool .str)) r (.slice A_0 r.length c_0)]) := by
  refine Spec.enter Try.func50 rfl (by kernel_rfl) (by kernel_rfl) fun w0 F0 h0 => ?_
  unfold buf_Put.f at H
  refine J.seq ?_
  refine J.region ?_
  refine RJ.op rfl rfl (op_box rfl rfl h0) ?_
  rintro _ w1 ⟨b1, rfl, h1⟩
  refine RJ.run ttok 1 rfl ?_
  refine RJ.fin [(0, .slice A1 a0.length c_1), (3, .pointer (some ⟨b1, 0, none⟩))] rfl ?_
  refine J.seq ?_
  refine J.region ?_
  refine RJ.run ttok 2 rfl ?_
  refine RJ.q rfl rfl (q_load_box ttok 0 (fun w e => e ▸ h1.wh) rfl rfl rfl rfl rfl) ?_
  obtain ⟨r1, q1, H⟩ := bind_t H
  refine RJ.op rfl rfl (op_call [] (slices_BinarySearchFunc_api_Msg_api_Msg_string_buf_compare.spec q1) rfl rfl rfl h1 rfl (gcons (Gives.self 1 rfl) gnil)) ?_
  rintro _ w2 ⟨_, ⟨rfl, rfl⟩, h2⟩
  refine RJ.run ttok 5 rfl ?_
  refine RJ.fin [(0, .slice A1 a0.length c_1), (3, .pointer (some ⟨b1, 0, none⟩)), (5, .int .i64 r1.1), (6, .bool r1.2)] rfl ?_
  refine J.seq ?_
  refine J.region ?_
  refine RJ.run ttok 1 rfl ?_
  obtain ⟨r2, q2, H⟩ := bind_t H
  refine RJ.op rfl rfl (op_call [] (slices_Clone_api_Msg_api_Msg.spec q2) rfl rfl rfl h2 rfl (gcons (Gives.self 1 rfl) gnil)) ?_
  rintro _ w3 ⟨_, ⟨A2, c_2, rfl, rfl⟩, h3⟩
  refine RJ.run ttok 1 rfl ?_
  refine RJ.fin [(3, .pointer (some ⟨b1, 0, none⟩)), (5, .int .i64 r1.1), (6, .bool r1.2), (7, .slice A2 r2.length c_2)] rfl ?_
  refine J.seq ?_
  refine J.seq ?_
  refine J.region ?_
  refine RJ.run ttok 1 rfl ?_
  refine RJ.fin [(3, .pointer (some ⟨b1, 0, none⟩)), (5, .int .i64 r1.1), (7, .slice A2 r2.length c_2), (17, .bool r1.2)] rfl ?_
  refine J.cond rfl (fun c1 => ?_) (fun c1 => ?_)
  · replace H := ite_t c1 H
    refine J.seq ?_
    refine J.region ?_
    refine RJ.run ttok 2 rfl ?_
    refine RJ.q rfl rfl (q_load_box ttok 1 (fun w e => e ▸ h3.wh) rfl rfl rfl rfl rfl) ?_
    obtain ⟨⟨p1, p2⟩, H⟩ := guard_t H
    have e1 := elem_A h3.wh (Gives.of 0 rfl own_rd) p1 p2
    refine RJ.q rfl rfl (q_index ttok rfl rfl rfl rfl rfl e1 p1 p2) ?_
    refine RJ.op rfl rfl (op_store_elem (f := 0) (ix := r1.1) ttok rfl (a1.1, a1.2.1, a1.2.2) 0 rfl h3 rfl rfl p1 p2 rfl rfl rfl rfl rfl rfl rfl) ?_
    intro _ w4 h4
    refine RJ.fin [(7, .slice A2 r2.length c_2)] rfl ?_
    refine J.envEq (env' := [(7, .slice A2 (r2.set r1.1.toNat (a1.1, a1.2.1, a1.2.2)).length c_2)]) (by simp only [List.length_set]) ?_
    refine J.seq ?_
    refine J.region ?_
    refine RJ.run ttok 2 rfl ?_
    refine RJ.fin [(4, .slice A2 (r2.set r1.1.toNat (a1.1, a1.2.1, a1.2.2)).length c_2)] rfl ?_
    refine J.ret ?_
    obtain rfl := Option.some.inj H
    exact ⟨_, _, _, (results_slots rfl), ⟨_, _, rfl, rfl⟩, h4.only [0] rfl⟩
  · replace H := ite_f c1 H
    refine J.skip ?_
    refine J.seq ?_
    refine J.region ?_
    refine RJ.run ttok 2 rfl ?_
    refine RJ.q rfl rfl (q_load_box ttok 1 (fun w e => e ▸ h3.wh) rfl rfl rfl rfl rfl) ?_
    refine RJ.op rfl rfl (op_lit ttok (.pair .str (.pair .bool .str)) rfl ([(a1.1, a1.2.1, a1.2.2)] : List (List UInt8 × Bool × List UInt8)) rfl h3 rfl rfl (by decide) rfl rfl rfl rfl rfl rfl rfl) ?_
    rintro _ w5 ⟨b2, rfl, h5⟩
    obtain ⟨r3, q3, H⟩ := bind_t H
    refine RJ.op rfl rfl (op_call [1] (slices_Insert_api_Msg_api_Msg.spec q3) rfl rfl rfl h5 rfl (gcons (Gives.of 0 rfl own_rd) gnil)) ?_
    rintro _ w6 ⟨_, ⟨A3, c_3, rfl, rfl⟩, h6⟩
    refine RJ.run ttok 1 rfl ?_
    refine RJ.fin [(4, .slice A3 r3.length c_3)] rfl ?_
    refine J.ret ?_
    obtain rfl := Option.some.inj H
    exact ⟨_, _, _, (results_slots rfl), ⟨_, _, rfl, rfl⟩, h6.only [0] rfl⟩

/-! sluicegate/sluicegatelaw10.BufWhole -/
def sluicegatelaw10_BufWhole.f (k : Nat) (a0 : List (List UInt8 × Bool × List UInt8)) (a1 : List UInt8 × List UInt8 × Bool) (a2 : Int) (a3 : List UInt8 × Bool × List UInt8) : Option (Bool) := (sluicegatelaw10_great.f k ([a0] : List (List (List UInt8 × Bool × List UInt8)))).bind fun r1 => (if r1 = true then ((sluicegatelaw10_awake.f k).bind fun r2 => (some r2)) else (if (decide (300 < (a1.1.length : Int))) = true then ((sluicegatelaw10_awake.f k).bind fun r3 => (some r3)) else (if (decide (300 < (a1.2.1.length : Int))) = true then ((sluicegatelaw10_awake.f k).bind fun r4 => (some r4)) else (if (decide (300 < (a3.1.length : Int))) = true then ((sluicegatelaw10_awake.f k).bind fun r5 => (some r5)) else ((sluicegateref10_Right.f k a0).bind fun r6 => (if (!r6) = true then ((sluicegatelaw10_awake.f k).bind fun r7 => (some r7)) else (if (([] : List (List UInt8 × Bool × List UInt8)).length + a0.length) * 40 ≤ 140737488355328 then ((buf_Take.f k a0 (a1.1, a1.2.1, a1.2.2) a2).bind fun r8 => ((buf_Split.f k a0 a3.1).bind fun r9 => ((buf_Merge.f k r8.1 r8.2).bind fun r10 => ((buf_Merge.f k r9.1 r9.2).bind fun r11 => ((buf_Put.f k a0 (a3.1, a3.2.1, a3.2.2)).bind fun r12 => (if (decide (0 < (r8.1.length : Int))) = true then (if 0 < (r8.1.length : Int) then ((sluicegateref10_Same.f k r10 a0).bind fun r13 => (if r13 = true then ((sluicegateref10_Same.f k r11 a0).bind fun r14 => (if r14 = true then ((sluicegateref10_Same.f k a0 (([] : List (List UInt8 × Bool × List UInt8)) ++ a0)).bind fun r15 => (if r15 = true then ((sluicegatelaw10_awake.f k).bind fun r16 => (some r16)) else (some false))) else (some false))) else (some false))) else none) else ((sluicegateref10_Same.f k r10 a0).bind fun r17 => (if r17 = true then ((sluicegateref10_Same.f k r11 a0).bind fun r18 => (if r18 = true then ((sluicegateref10_Same.f k a0 (([] : List (List UInt8 × Bool × List UInt8)) ++ a0)).bind fun r19 => (if r19 = true then ((sluicegatelaw10_awake.f k).bind fun r20 => (some r20)) else (some false))) else (some false))) else (some false))))))))) else none)))))))
set_option maxRecDepth 20000 in
set_option maxHeartbeats 4000000 in
theorem sluicegatelaw10_BufWhole.spec {k : Nat} {a0 : List (List UInt8 × Bool × List UInt8)} {a1 : List UInt8 × List UInt8 × Bool} {a2 : Int} {a3 : List UInt8 × Bool × List UInt8} {A1 : Option Addr} {c_1 : Nat} {r : Bool} (H : sluicegatelaw10_BufWhole.f k a0 a1 a2 a3 = some r) :
    Spec Try.prog 12 [.slice A1 a0.length c_1, .agg #[.string ⟨⟨a1.1⟩⟩, .string ⟨⟨a1.2.1⟩⟩, .bool a1.2.2], .int .i64 a2, .agg #[.string ⟨⟨a3.1⟩⟩, .bool a3.2.1, .string ⟨⟨a3.2.2⟩⟩]] [] [rdC 55 (.pair .str (.pair .bool .str)) a0 (.slice A1 a0.length c_1)] (fun v l => v = .bool r ∧ l = []) := by
  refine Spec.enter Try.func12 rfl (by kernel_rfl) (by kernel_rfl) fun w0 F0 h0 => ?_
  unfold sluicegatelaw10_BufWhole.f at H
  refine J.seq ?_
  refine J.region ?_
  refine RJ.op rfl rfl (op_box rfl rfl h0) ?_
  rintro _ w1 ⟨b1, rfl, h1⟩
  refine RJ.op rfl rfl (op_box rfl rfl h1) ?_
  rintro _ w2 ⟨b2, rfl, h2⟩
  refine RJ.run ttok 1 rfl ?_
  refine RJ.fin [(0, .slice A1 a0.length c_1), (2, .int .i64 a2), (5, .pointer (some ⟨b1, 0, none⟩)), (7, .pointer (some ⟨b2, 0, none⟩))] rfl ?_
  refine J.seq ?_
  refine J.seq ?_
  refine J.region ?_
  refine RJ.run ttok 1 rfl ?_
  refine RJ.op rfl rfl (op_lit_rd ttok (.slice 55 (.pair .str (.pair .bool .str))) ([a0] : List (List (List UInt8 × Bool × List UInt8))) rfl h2 rfl rfl (by decide) rfl rfl rfl rfl rfl rfl ⟨(.inl (Gives.self 0 rfl)), trivial⟩) ?_
  rintro _ w3 ⟨b3, rfl, h3⟩
  obtain ⟨r1, q1, H⟩ := bind_t H
  refine RJ.op rfl rfl (op_call [] (sluicegatelaw10_great.spec q1) rfl rfl rfl h3 rfl (gcons (Gives.self 2 rfl) gnil)) ?_
  rintro _ w4 ⟨_, ⟨rfl, rfl⟩, h4⟩
  refine RJ.run ttok 1 rfl ?_
  rcases Bool.eq_false_or_eq_true r1 with c1 | c1
  · replace H := ite_t c1 H
    refine RJ.know (t := 19) rfl (congrArg Value.bool c1) ?_
    refine RJ.run ttok 22 rfl ?_
    refine RJ.fin [(0, .slice A1 a0.length c_1), (2, .int .i64 a2), (5, .pointer (some ⟨b1, 0, none⟩)), (7, .pointer (some ⟨b2, 0, none⟩)), (41, .bool true)] rfl ?_
    refine J.condT rfl ?_
    refine J.seq ?_
    refine J.region ?_
    obtain ⟨r2, q2, H⟩ := bind_t H
    refine RJ.op rfl rfl (op_call [] (sluicegatelaw10_awake.spec q2) rfl rfl rfl h4 rfl gnil) ?_
    rintro _ w5 ⟨_, ⟨rfl, rfl⟩, h5⟩
    refine RJ.run ttok 1 rfl ?_
    refine RJ.fin [(8, .bool r2)] rfl ?_
    refine J.ret ?_
    obtain rfl := Option.some.inj H
    exact ⟨_, _, _, (results_slots rfl), ⟨rfl, rfl⟩, h5.only [] rfl⟩
  · replace H := ite_f c1 H
    refine RJ.know (t := 19) rfl (congrArg Value.bool c1) ?_
    refine RJ.run ttok 1 rfl ?_
    refine RJ.q rfl rfl (q_load_box ttok 1 (fun w e => e ▸ h4.wh) rfl rfl rfl rfl rfl) ?_
    refine RJ.run ttok 4 rfl ?_
    rcases Bool.eq_false_or_eq_true (decide (300 < (a1.1.length : Int))) with c2 | c2
    · replace H := ite_t c2 H
      refine RJ.know (t := 25) rfl (congrArg Value.bool c2) ?_
      refine RJ.run ttok 16 rfl ?_
      refine RJ.fin [(0, .slice A1 a0.length c_1), (2, .int .i64 a2), (5, .pointer (some ⟨b1, 0, none⟩)), (7, .pointer (some ⟨b2, 0, none⟩)), (41, .bool true)] rfl ?_
      refine J.condT rfl ?_
      refine J.seq ?_
      refine J.region ?_
      obtain ⟨r3, q3, H⟩ := bind_t H
      refine RJ.op rfl rfl (op_call [] (sluicegatelaw10_awake.spec q3) rfl rfl rfl h4 rfl gnil) ?_
      rintro _ w6 ⟨_, ⟨rfl, rfl⟩, h6⟩
      refine RJ.run ttok 1 rfl ?_
      refine RJ.fin [(8, .bool r3)] rfl ?_
      refine J.ret ?_
      obtain rfl := Option.some.inj H
      exact ⟨_, _, _, (results_slots rfl), ⟨rfl, rfl⟩, h6.only [] rfl⟩
    · replace H := ite_f c2 H
      refine RJ.know (t := 25) rfl (congrArg Value.bool c2) ?_
      refine RJ.run ttok 1 rfl ?_
      refine RJ.q rfl rfl (q_load_box ttok 1 (fun w e => e ▸ h4.wh) rfl rfl rfl rfl rfl) ?_
      refine RJ.run ttok 4 rfl ?_
      rcases Bool.eq_false_or_eq_true (decide (300 < (a1.2.1.length : Int))) with c3 | c3
      · replace H := ite_t c3 H
        refine RJ.know (t := 31) rfl (congrArg Value.bool c3) ?_
        refine RJ.run ttok 10 rfl ?_
        refine RJ.fin [(0, .slice A1 a0.length c_1), (2, .int .i64 a2), (5, .pointer (some ⟨b1, 0, none⟩)), (7, .pointer (some ⟨b2, 0, none⟩)), (41, .bool true)] rfl ?_
        refine J.condT rfl ?_
        refine J.seq ?_
        refine J.region ?_
        obtain ⟨r4, q4, H⟩ := bind_t H
        refine RJ.op rfl rfl (op_call [] (sluicegatelaw10_awake.spec q4) rfl rfl rfl h4 rfl gnil) ?_
        rintro _ w7 ⟨_, ⟨rfl, rfl⟩, h7⟩
        refine RJ.run ttok 1 rfl ?_
        refine RJ.fin [(8, .bool r4)] rfl ?_
        refine J.ret ?_
        obtain rfl := Option.some.inj H
        exact ⟨_, _, _, (results_slots rfl), ⟨rfl, rfl⟩, h7.only [] rfl⟩
      · replace H := ite_f c3 H
        refine RJ.know (t := 31) rfl (congrArg Value.bool c3) ?_
        refine RJ.run ttok 1 rfl ?_
        refine RJ.q rfl rfl (q_load_box ttok 0 (fun w e => e ▸ h4.wh) rfl rfl rfl rfl rfl) ?_
        refine RJ.run ttok 4 rfl ?_
        rcases Bool.eq_false_or_eq_true (decide (300 < (a3.1.length : Int))) with c4 | c4
        · replace H := ite_t c4 H
          refine RJ.know (t := 37) rfl (congrArg Value.bool c4) ?_
          refine RJ.run ttok 4 rfl ?_
          refine RJ.fin [(0, .slice A1 a0.length c_1), (2, .int .i64 a2), (5, .pointer (some ⟨b1, 0, none⟩)), (7, .pointer (some ⟨b2, 0, none⟩)), (41, .bool true)] rfl ?_
          refine J.condT rfl ?_
          refine J.seq ?_
          refine J.region ?_
          obtain ⟨r5, q5, H⟩ := bind_t H
          refine RJ.op rfl rfl (op_call [] (sluicegatelaw10_awake.spec q5) rfl rfl rfl h4 rfl gnil) ?_
          rintro _ w8 ⟨_, ⟨rfl, rfl⟩, h8⟩
          refine RJ.run ttok 1 rfl ?_
          refine RJ.fin [(8, .bool r5)] rfl ?_
          refine J.ret ?_
          obtain rfl := Option.some.inj H
          exact ⟨_, _, _, (results_slots rfl), ⟨rfl, rfl⟩, h8.only [] rfl⟩
        · replace H := ite_f c4 H
          refine RJ.know (t := 37) rfl (congrArg Value.bool c4) ?_
          refine RJ.run ttok 1 rfl ?_
          obtain ⟨r6, q6, H⟩ := bind_t H
          refine RJ.op rfl rfl (op_call [] (sluicegateref10_Right.spec q6) rfl rfl rfl h4 rfl (gcons (Gives.self 3 rfl) gnil)) ?_
          rintro _ w9 ⟨_, ⟨rfl, rfl⟩, h9⟩
          refine RJ.run ttok 2 rfl ?_
          refine RJ.fin [(0, .slice A1 a0.length c_1), (2, .int .i64 a2), (5, .pointer (some ⟨b1, 0, none⟩)), (7, .pointer (some ⟨b2, 0, none⟩)), (41, .bool (!r6))] rfl ?_
          refine J.cond rfl (fun c5 => ?_) (fun c5 => ?_)
          · replace H := ite_t c5 H
            refine J.seq ?_
            refine J.region ?_
            obtain ⟨r7, q7, H⟩ := bind_t H
            refine RJ.op rfl rfl (op_call [] (sluicegatelaw10_awake.spec q7) rfl rfl rfl h9 rfl gnil) ?_
            rintro _ w10 ⟨_, ⟨rfl, rfl⟩, h10⟩
            refine RJ.run ttok 1 rfl ?_
            refine RJ.fin [(8, .bool r7)] rfl ?_
            refine J.ret ?_
            obtain rfl := Option.some.inj H
            exact ⟨_, _, _, (results_slots rfl), ⟨rfl, rfl⟩, h10.only [] rfl⟩
          · replace H := ite_f c5 H
            refine J.skip ?_
            refine J.seq ?_
            refine J.region ?_
            refine RJ.op rfl rfl (op_lit ttok (.pair .str (.pair .bool .str)) rfl ([] : List (List UInt8 × Bool × List UInt8)) rfl h9 rfl rfl (by decide) rfl rfl rfl rfl rfl rfl rfl) ?_
            rintro _ w11 ⟨b4, rfl, h11⟩
            refine RJ.run ttok 1 rfl ?_
            obtain ⟨p1, H⟩ := guard_t H
            refine RJ.op rfl rfl (op_append ttok rfl 0 rfl h11 rfl (Gives.self 3 rfl) rfl rfl rfl rfl rfl rfl (by decide) (by decide) p1) ?_
            rintro _ w12 ⟨A2, c_2, rfl, h12⟩
            refine RJ.run ttok 1 rfl ?_
            refine RJ.fin [(0, .slice A1 a0.length c_1), (2, .int .i64 a2), (5, .pointer (some ⟨b1, 0, none⟩)), (7, .pointer (some ⟨b2, 0, none⟩)), (9, .slice A2 (([] : List (List UInt8 × Bool × List UInt8)) ++ a0).length c_2)] rfl ?_
            refine J.seq ?_
            refine J.region ?_
            refine RJ.run ttok 1 rfl ?_
            refine RJ.q rfl rfl (q_load_box ttok 2 (fun w e => e ▸ h12.wh) rfl rfl rfl rfl rfl) ?_
            refine RJ.run ttok 1 rfl ?_
            obtain ⟨r8, q8, H⟩ := bind_t H
            refine RJ.op rfl rfl (op_call [] (buf_Take.spec q8) rfl rfl rfl h12 rfl (gcons (Gives.self 4 rfl) gnil)) ?_
            rintro _ w13 ⟨_, ⟨A3, c_3, A4, c_4, rfl, rfl⟩, h13⟩
            refine RJ.run ttok 5 rfl ?_
            refine RJ.fin [(0, .slice A1 a0.length c_1), (7, .pointer (some ⟨b2, 0, none⟩)), (9, .slice A2 (([] : List (List UInt8 × Bool × List UInt8)) ++ a0).length c_2), (10, .slice A3 r8.1.length c_3), (11, .slice A4 r8.2.length c_4)] rfl ?_
            refine J.seq ?_
            refine J.region ?_
            refine RJ.run ttok 2 rfl ?_
            refine RJ.q rfl rfl (q_load_box ttok 3 (fun w e => e ▸ h13.wh) rfl rfl rfl rfl rfl) ?_
            obtain ⟨r9, q9, H⟩ := bind_t H
            refine RJ.op rfl rfl (op_call [] (buf_Split.spec q9) rfl rfl rfl h13 rfl (gcons (Gives.self 6 rfl) gnil)) ?_
            rintro _ w14 ⟨_, ⟨A5, c_5, A6, c_6, rfl, rfl⟩, h14⟩
            refine RJ.run ttok 5 rfl ?_
            refine RJ.fin [(0, .slice A1 a0.length c_1), (7, .pointer (some ⟨b2, 0, none⟩)), (9, .slice A2 (([] : List (List UInt8 × Bool × List UInt8)) ++ a0).length c_2), (10, .slice A3 r8.1.length c_3), (11, .slice A4 r8.2.length c_4), (12, .slice A5 r9.1.length c_5), (13, .slice A6 r9.2.length c_6)] rfl ?_
            refine J.seq ?_
            refine J.region ?_
            refine RJ.run ttok 2 rfl ?_
            obtain ⟨r10, q10, H⟩ := bind_t H
            refine RJ.op rfl rfl (op_call [] (buf_Merge.spec q10) rfl rfl rfl h14 rfl (gcons (Gives.of 2 rfl own_rd) (gcons (Gives.of 3 rfl own_rd) gnil))) ?_
            rintro _ w15 ⟨_, ⟨A7, c_7, rfl, rfl⟩, h15⟩
            refine RJ.run ttok 2 rfl ?_
            obtain ⟨r11, q11, H⟩ := bind_t H
            refine RJ.op rfl rfl (op_call [] (buf_Merge.spec q11) rfl rfl rfl h15 rfl (gcons (Gives.of 1 rfl own_rd) (gcons (Gives.of 2 rfl own_rd) gnil))) ?_
            rintro _ w16 ⟨_, ⟨A8, c_8, rfl, rfl⟩, h16⟩
            refine RJ.run ttok 2 rfl ?_
            refine RJ.fin [(0, .slice A1 a0.length c_1), (7, .pointer (some ⟨b2, 0, none⟩)), (9, .slice A2 (([] : List (List UInt8 × Bool × List UInt8)) ++ a0).length c_2), (10, .slice A3 r8.1.length c_3), (14, .slice A7 r10.length c_7), (15, .slice A8 r11.length c_8)] rfl ?_
            refine J.seq ?_
            refine J.region ?_
            refine RJ.run ttok 1 rfl ?_
            refine RJ.q rfl rfl (q_load_box ttok 7 (fun w e => e ▸ h16.wh) rfl rfl rfl rfl rfl) ?_
            obtain ⟨r12, q12, H⟩ := bind_t H
            refine RJ.op rfl rfl (op_call [] (buf_Put.spec q12) rfl rfl rfl h16 rfl (gcons (Gives.self 10 rfl) gnil)) ?_
            rintro _ w17 ⟨_, ⟨A9, c_9, rfl, rfl⟩, h17⟩
            refine RJ.fin [(0, .slice A1 a0.length c_1), (7, .pointer (some ⟨b2, 0, none⟩)), (9, .slice A2 (([] : List (List UInt8 × Bool × List UInt8)) ++ a0).length c_2), (10, .slice A3 r8.1.length c_3), (14, .slice A7 r10.length c_7), (15, .slice A8 r11.length c_8)] rfl ?_
            refine J.seq ?_
            refine J.seq ?_
            refine J.region ?_
            refine RJ.run ttok 3 rfl ?_
            refine RJ.fin [(0, .slice A1 a0.length c_1), (7, .pointer (some ⟨b2, 0, none⟩)), (9, .slice A2 (([] : List (List UInt8 × Bool × List UInt8)) ++ a0).length c_2), (10, .slice A3 r8.1.length c_3), (14, .slice A7 r10.length c_7), (15, .slice A8 r11.length c_8), (71, .bool (decide (0 < (r8.1.length : Int))))] rfl ?_
            refine J.cond rfl (fun c6 => ?_) (fun c6 => ?_)
            · replace H := ite_t c6 H
              refine J.region ?_
              refine RJ.run ttok 1 rfl ?_
              refine RJ.q rfl rfl (q_load_box ttok 8 (fun w e => e ▸ h17.wh) rfl rfl rfl rfl rfl) ?_
              obtain ⟨p2, H⟩ := guard_t H
              have e1 := elem_A h17.wh (Gives.of 5 rfl own_rd) (by decide) p2
              refine RJ.q rfl rfl (q_index ttok rfl rfl rfl rfl rfl e1 (by decide) p2) ?_
              refine RJ.op rfl rfl (op_store_elem (f := 0) (ix := 0) ttok rfl (a3.1, a3.2.1, a3.2.2) 5 rfl h17 rfl rfl (by decide) p2 rfl rfl rfl rfl rfl rfl rfl) ?_
              intro _ w18 h18
              refine RJ.fin [(0, .slice A1 a0.length c_1), (9, .slice A2 (([] : List (List UInt8 × Bool × List UInt8)) ++ a0).length c_2), (14, .slice A7 r10.length c_7), (15, .slice A8 r11.length c_8)] rfl ?_
              refine J.envEq (env' := [(0, .slice A1 a0.length c_1), (9, .slice A2 (([] : List (List UInt8 × Bool × List UInt8)) ++ a0).length c_2), (14, .slice A7 r10.length c_7), (15, .slice A8 r11.length c_8)]) (by simp only [List.length_set]) ?_
              refine J.seq ?_
              refine J.region ?_
              refine RJ.run ttok 2 rfl ?_
              obtain ⟨r13, q13, H⟩ := bind_t H
              refine RJ.op rfl rfl (op_call [] (sluicegateref10_Same.spec q13) rfl rfl rfl h18 rfl (gcons (Gives.of 3 rfl own_rd) (gcons (Gives.self 11 rfl) gnil))) ?_
              rintro _ w19 ⟨_, ⟨rfl, rfl⟩, h19⟩
              refine RJ.run ttok 1 rfl ?_
              rcases Bool.eq_false_or_eq_true r13 with c7 | c7
              · replace H := ite_t c7 H
                refine RJ.know (t := 78) rfl (congrArg Value.bool c7) ?_
                refine RJ.run ttok 2 rfl ?_
                obtain ⟨r14, q14, H⟩ := bind_t H
                refine RJ.op rfl rfl (op_call [] (sluicegateref10_Same.spec q14) rfl rfl rfl h19 rfl (gcons (Gives.of 2 rfl own_rd) (gcons (Gives.self 11 rfl) gnil))) ?_
                rintro _ w20 ⟨_, ⟨rfl, rfl⟩, h20⟩
                refine RJ.run ttok 2 rfl ?_
                rcases Bool.eq_false_or_eq_true r14 with c8 | c8
                · replace H := ite_t c8 H
                  refine RJ.know (t := 83) rfl (congrArg Value.bool c8) ?_
                  refine RJ.run ttok 2 rfl ?_
                  obtain ⟨r15, q15, H⟩ := bind_t H
                  refine RJ.op rfl rfl (op_call [] (sluicegateref10_Same.spec q15) rfl rfl rfl h20 rfl (gcons (Gives.self 11 rfl) (gcons (Gives.of 7 rfl own_rd) gnil))) ?_
                  rintro _ w21 ⟨_, ⟨rfl, rfl⟩, h21⟩
                  refine RJ.run ttok 2 rfl ?_
                  rcases Bool.eq_false_or_eq_true r15 with c9 | c9
                  · replace H := ite_t c9 H
                    refine RJ.know (t := 88) rfl (congrArg Value.bool c9) ?_
                    obtain ⟨r16, q16, H⟩ := bind_t H
                    refine RJ.op rfl rfl (op_call [] (sluicegatelaw10_awake.spec q16) rfl rfl rfl h21 rfl gnil) ?_
                    rintro _ w22 ⟨_, ⟨rfl, rfl⟩, h22⟩
                    refine RJ.run ttok 2 rfl ?_
                    refine RJ.fin [(8, .bool r16)] rfl ?_
                    refine J.ret ?_
                    obtain rfl := Option.some.inj H
                    exact ⟨_, _, _, (results_slots rfl), ⟨rfl, rfl⟩, h22.only [] rfl⟩
                  · replace H := ite_f c9 H
                    refine RJ.know (t := 88) rfl (congrArg Value.bool c9) ?_
                    refine RJ.run ttok 3 rfl ?_
                    refine RJ.fin [(8, .bool false)] rfl ?_
                    refine J.ret ?_
                    obtain rfl := Option.some.inj H
                    exact ⟨_, _, _, (results_slots rfl), ⟨rfl, rfl⟩, h21.only [] rfl⟩
                · replace H := ite_f c8 H
                  refine RJ.know (t := 83) rfl (congrArg Value.bool c8) ?_
                  refine RJ.run ttok 8 rfl ?_
                  refine RJ.fin [(8, .bool false)] rfl ?_
                  refine J.ret ?_
                  obtain rfl := Option.some.inj H
                  exact ⟨_, _, _, (results_slots rfl), ⟨rfl, rfl⟩, h20.only [] rfl⟩
              · replace H := ite_f c7 H
                refine RJ.know (t := 78) rfl (congrArg Value.bool c7) ?_
                refine RJ.run ttok 13 rfl ?_
                refine RJ.fin [(8, .bool false)] rfl ?_
                refine J.ret ?_
                obtain rfl := Option.some.inj H
                exact ⟨_, _, _, (results_slots rfl), ⟨rfl, rfl⟩, h19.only [] rfl⟩
            · replace H := ite_f c6 H
              refine J.skip ?_
              refine J.seq ?_
              refine J.region ?_
              refine RJ.run ttok 2 rfl ?_
              obtain ⟨r17, q17, H⟩ := bind_t H
              refine RJ.op rfl rfl (op_call [] (sluicegateref10_Same.spec q17) rfl rfl rfl h17 rfl (gcons (Gives.of 2 rfl own_rd) (gcons (Gives.self 11 rfl) gnil))) ?_
              rintro _ w23 ⟨_, ⟨rfl, rfl⟩, h23⟩
              refine RJ.run ttok 1 rfl ?_
              rcases Bool.eq_false_or_eq_true r17 with c10 | c10
              · replace H := ite_t c10 H
                refine RJ.know (t := 78) rfl (congrArg Value.bool c10) ?_
                refine RJ.run ttok 2 rfl ?_
                obtain ⟨r18, q18, H⟩ := bind_t H
                refine RJ.op rfl rfl (op_call [] (sluicegateref10_Same.spec q18) rfl rfl rfl h23 rfl (gcons (Gives.of 1 rfl own_rd) (gcons (Gives.self 11 rfl) gnil))) ?_
                rintro _ w24 ⟨_, ⟨rfl, rfl⟩, h24⟩
                refine RJ.run ttok 2 rfl ?_
                rcases Bool.eq_false_or_eq_true r18 with c11 | c11
                · replace H := ite_t c11 H
                  refine RJ.know (t := 83) rfl (congrArg Value.bool c11) ?_
                  refine RJ.run ttok 2 rfl ?_
                  obtain ⟨r19, q19, H⟩ := bind_t H
                  refine RJ.op rfl rfl (op_call [] (sluicegateref10_Same.spec q19) rfl rfl rfl h24 rfl (gcons (Gives.self 11 rfl) (gcons (Gives.of 7 rfl own_rd) gnil))) ?_
                  rintro _ w25 ⟨_, ⟨rfl, rfl⟩, h25⟩
                  refine RJ.run ttok 2 rfl ?_
                  rcases Bool.eq_false_or_eq_true r19 with c12 | c12
                  · replace H := ite_t c12 H
                    refine RJ.know (t := 88) rfl (congrArg Value.bool c12) ?_
                    obtain ⟨r20, q20, H⟩ := bind_t H
                    refine RJ.op rfl rfl (op_call [] (sluicegatelaw10_awake.spec q20) rfl rfl rfl h25 rfl gnil) ?_
                    rintro _ w26 ⟨_, ⟨rfl, rfl⟩, h26⟩
                    refine RJ.run ttok 2 rfl ?_
                    refine RJ.fin [(8, .bool r20)] rfl ?_
                    refine J.ret ?_
                    obtain rfl := Option.some.inj H
                    exact ⟨_, _, _, (results_slots rfl), ⟨rfl, rfl⟩, h26.only [] rfl⟩
                  · replace H := ite_f c12 H
                    refine RJ.know (t := 88) rfl (congrArg Value.bool c12) ?_
                    refine RJ.run ttok 3 rfl ?_
                    refine RJ.fin [(8, .bool false)] rfl ?_
                    refine J.ret ?_
                    obtain rfl := Option.some.inj H
                    exact ⟨_, _, _, (results_slots rfl), ⟨rfl, rfl⟩, h25.only [] rfl⟩
                · replace H := ite_f c11 H
                  refine RJ.know (t := 83) rfl (congrArg Value.bool c11) ?_
                  refine RJ.run ttok 8 rfl ?_
                  refine RJ.fin [(8, .bool false)] rfl ?_
                  refine J.ret ?_
                  obtain rfl := Option.some.inj H
                  exact ⟨_, _, _, (results_slots rfl), ⟨rfl, rfl⟩, h24.only [] rfl⟩
              · replace H := ite_f c10 H
                refine RJ.know (t := 78) rfl (congrArg Value.bool c10) ?_
                refine RJ.run ttok 13 rfl ?_
                refine RJ.fin [(8, .bool false)] rfl ?_
                refine J.ret ?_
                obtain rfl := Option.some.inj H
                exact ⟨_, _, _, (results_slots rfl), ⟨rfl, rfl⟩, h23.only [] rfl⟩

end Go.SK.T
