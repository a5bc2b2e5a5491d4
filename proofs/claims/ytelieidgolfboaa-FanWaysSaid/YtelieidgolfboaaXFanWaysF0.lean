/- The types of the program, and its functions as the code computes them, each proved. -/
import Derived.Test.YtelieidgolfboaaKp
import Derived.Test.YtelieidgolfboaaProg
set_option linter.unusedVariables false
set_option linter.unusedSimpArgs false
namespace Go.SK.T
open Go Go.SK Go.Proofs
def tt : TT := [(1, ⟨.func, 1, 8, .nilFunc⟩),
  (2, ⟨.int .i64, 1, 8, .int .i64 0⟩),
  (3, ⟨.int .i64, 1, 8, .int .i64 0⟩),
  (4, ⟨.bool, 1, 1, .bool false⟩),
  (5, ⟨.int .u8, 1, 1, .int .u8 0⟩),
  (6, ⟨.int .u8, 1, 1, .int .u8 0⟩),
  (9, ⟨.str, 1, 16, .string ⟨⟨[]⟩⟩⟩),
  (10, ⟨.str, 1, 16, .string ⟨⟨[]⟩⟩⟩),
  (11, ⟨.str, 1, 16, .string ⟨⟨[]⟩⟩⟩),
  (12, ⟨.int .u64, 1, 8, .int .u64 0⟩),
  (15, ⟨.ptr 78, 1, 8, .pointer none⟩),
  (16, ⟨.ptr 81, 1, 8, .pointer none⟩),
  (17, ⟨.ptr 91, 1, 8, .pointer none⟩),
  (20, ⟨.iface, 1, 16, .nilIface⟩),
  (21, ⟨.int .i32, 1, 4, .int .i32 0⟩),
  (22, ⟨.struct [(9, 0, 1), (9, 1, 1), (4, 2, 1)], 3, 40, .agg #[.string ⟨⟨[]⟩⟩, .string ⟨⟨[]⟩⟩, .bool false]⟩),
  (23, ⟨.struct [(9, 0, 1), (9, 1, 1), (4, 2, 1)], 3, 40, .agg #[.string ⟨⟨[]⟩⟩, .string ⟨⟨[]⟩⟩, .bool false]⟩),
  (24, ⟨.func, 1, 8, .nilFunc⟩),
  (25, ⟨.func, 1, 8, .nilFunc⟩),
  (26, ⟨.func, 1, 8, .nilFunc⟩),
  (27, ⟨.func, 1, 8, .nilFunc⟩),
  (28, ⟨.func, 1, 8, .nilFunc⟩),
  (30, ⟨.func, 1, 8, .nilFunc⟩),
  (31, ⟨.func, 1, 8, .nilFunc⟩),
  (32, ⟨.func, 1, 8, .nilFunc⟩),
  (34, ⟨.func, 1, 8, .nilFunc⟩),
  (35, ⟨.func, 1, 8, .nilFunc⟩),
  (36, ⟨.func, 1, 8, .nilFunc⟩),
  (37, ⟨.func, 1, 8, .nilFunc⟩),
  (38, ⟨.slice 55, 1, 24, .slice none 0 0⟩),
  (39, ⟨.func, 1, 8, .nilFunc⟩),
  (40, ⟨.func, 1, 8, .nilFunc⟩),
  (41, ⟨.func, 1, 8, .nilFunc⟩),
  (42, ⟨.slice 9, 1, 24, .slice none 0 0⟩),
  (43, ⟨.func, 1, 8, .nilFunc⟩),
  (44, ⟨.func, 1, 8, .nilFunc⟩),
  (45, ⟨.func, 1, 8, .nilFunc⟩),
  (46, ⟨.func, 1, 8, .nilFunc⟩),
  (47, ⟨.func, 1, 8, .nilFunc⟩),
  (48, ⟨.func, 1, 8, .nilFunc⟩),
  (50, ⟨.func, 1, 8, .nilFunc⟩),
  (51, ⟨.func, 1, 8, .nilFunc⟩),
  (52, ⟨.func, 1, 8, .nilFunc⟩),
  (53, ⟨.func, 1, 8, .nilFunc⟩),
  (54, ⟨.struct [(9, 0, 1), (4, 1, 1), (9, 2, 1)], 3, 40, .agg #[.string ⟨⟨[]⟩⟩, .bool false, .string ⟨⟨[]⟩⟩]⟩),
  (55, ⟨.struct [(9, 0, 1), (4, 1, 1), (9, 2, 1)], 3, 40, .agg #[.string ⟨⟨[]⟩⟩, .bool false, .string ⟨⟨[]⟩⟩]⟩),
  (57, ⟨.func, 1, 8, .nilFunc⟩),
  (58, ⟨.func, 1, 8, .nilFunc⟩),
  (59, ⟨.func, 1, 8, .nilFunc⟩),
  (60, ⟨.func, 1, 8, .nilFunc⟩),
  (61, ⟨.func, 1, 8, .nilFunc⟩),
  (62, ⟨.slice 38, 1, 24, .slice none 0 0⟩),
  (64, ⟨.func, 1, 8, .nilFunc⟩),
  (66, ⟨.func, 1, 8, .nilFunc⟩),
  (67, ⟨.func, 1, 8, .nilFunc⟩),
  (68, ⟨.func, 1, 8, .nilFunc⟩),
  (69, ⟨.func, 1, 8, .nilFunc⟩),
  (70, ⟨.func, 1, 8, .nilFunc⟩),
  (71, ⟨.func, 1, 8, .nilFunc⟩),
  (72, ⟨.int .u64, 1, 8, .int .u64 0⟩),
  (73, ⟨.func, 1, 8, .nilFunc⟩),
  (74, ⟨.func, 1, 8, .nilFunc⟩),
  (75, ⟨.func, 1, 8, .nilFunc⟩),
  (76, ⟨.func, 1, 8, .nilFunc⟩),
  (82, ⟨.func, 1, 8, .nilFunc⟩),
  (83, ⟨.int .u32, 1, 4, .int .u32 0⟩),
  (84, ⟨.int .u8, 1, 1, .int .u8 0⟩),
  (85, ⟨.int .u8, 1, 1, .int .u8 0⟩),
  (86, ⟨.func, 1, 8, .nilFunc⟩),
  (87, ⟨.ptr 5, 1, 8, .pointer none⟩),
  (88, ⟨.int .i32, 1, 4, .int .i32 0⟩),
  (89, ⟨.int .i32, 1, 4, .int .i32 0⟩)]
theorem ttok : TTok Try.prog tt := by
  refine ttok_cons ⟨by kernel_rfl, ⟨_, _, _, Try.underlying1⟩⟩ ?_
  refine ttok_cons ⟨by kernel_rfl, Try.underlying2⟩ ?_
  refine ttok_cons ⟨by kernel_rfl, Try.underlying3⟩ ?_
  refine ttok_cons ⟨by kernel_rfl, Try.underlying4⟩ ?_
  refine ttok_cons ⟨by kernel_rfl, Try.underlying5⟩ ?_
  refine ttok_cons ⟨by kernel_rfl, Try.underlying6⟩ ?_
  refine ttok_cons ⟨by kernel_rfl, Try.underlying9⟩ ?_
  refine ttok_cons ⟨by kernel_rfl, Try.underlying10⟩ ?_
  refine ttok_cons ⟨by kernel_rfl, Try.underlying11⟩ ?_
  refine ttok_cons ⟨by kernel_rfl, Try.underlying12⟩ ?_
  refine ttok_cons ⟨by kernel_rfl, Try.underlying15⟩ ?_
  refine ttok_cons ⟨by kernel_rfl, Try.underlying16⟩ ?_
  refine ttok_cons ⟨by kernel_rfl, Try.underlying17⟩ ?_
  refine ttok_cons ⟨by kernel_rfl, ⟨_, Try.underlying20⟩⟩ ?_
  refine ttok_cons ⟨by kernel_rfl, Try.underlying21⟩ ?_
  refine ttok_cons ⟨by kernel_rfl, ⟨_, Try.underlying22, by kernel_rfl, by kernel_rfl, by kernel_rfl, by kernel_rfl, by kernel_rfl, by kernel_rfl⟩⟩ ?_
  refine ttok_cons ⟨by kernel_rfl, ⟨_, Try.underlying23, by kernel_rfl, by kernel_rfl, by kernel_rfl, by kernel_rfl, by kernel_rfl, by kernel_rfl⟩⟩ ?_
  refine ttok_cons ⟨by kernel_rfl, ⟨_, _, _, Try.underlying24⟩⟩ ?_
  refine ttok_cons ⟨by kernel_rfl, ⟨_, _, _, Try.underlying25⟩⟩ ?_
  refine ttok_cons ⟨by kernel_rfl, ⟨_, _, _, Try.underlying26⟩⟩ ?_
  refine ttok_cons ⟨by kernel_rfl, ⟨_, _, _, Try.underlying27⟩⟩ ?_
  refine ttok_cons ⟨by kernel_rfl, ⟨_, _, _, Try.underlying28⟩⟩ ?_
  refine ttok_cons ⟨by kernel_rfl, ⟨_, _, _, Try.underlying30⟩⟩ ?_
  refine ttok_cons ⟨by kernel_rfl, ⟨_, _, _, Try.underlying31⟩⟩ ?_
  refine ttok_cons ⟨by kernel_rfl, ⟨_, _, _, Try.underlying32⟩⟩ ?_
  refine ttok_cons ⟨by kernel_rfl, ⟨_, _, _, Try.underlying34⟩⟩ ?_
  refine ttok_cons ⟨by kernel_rfl, ⟨_, _, _, Try.underlying35⟩⟩ ?_
  refine ttok_cons ⟨by kernel_rfl, ⟨_, _, _, Try.underlying36⟩⟩ ?_
  refine ttok_cons ⟨by kernel_rfl, ⟨_, _, _, Try.underlying37⟩⟩ ?_
  refine ttok_cons ⟨by kernel_rfl, Try.underlying38⟩ ?_
  refine ttok_cons ⟨by kernel_rfl, ⟨_, _, _, Try.underlying39⟩⟩ ?_
  refine ttok_cons ⟨by kernel_rfl, ⟨_, _, _, Try.underlying40⟩⟩ ?_
  refine ttok_cons ⟨by kernel_rfl, ⟨_, _, _, Try.underlying41⟩⟩ ?_
  refine ttok_cons ⟨by kernel_rfl, Try.underlying42⟩ ?_
  refine ttok_cons ⟨by kernel_rfl, ⟨_, _, _, Try.underlying43⟩⟩ ?_
  refine ttok_cons ⟨by kernel_rfl, ⟨_, _, _, Try.underlying44⟩⟩ ?_
  refine ttok_cons ⟨by kernel_rfl, ⟨_, _, _, Try.underlying45⟩⟩ ?_
  refine ttok_cons ⟨by kernel_rfl, ⟨_, _, _, Try.underlying46⟩⟩ ?_
  refine ttok_cons ⟨by kernel_rfl, ⟨_, _, _, Try.underlying47⟩⟩ ?_
  refine ttok_cons ⟨by kernel_rfl, ⟨_, _, _, Try.underlying48⟩⟩ ?_
  refine ttok_cons ⟨by kernel_rfl, ⟨_, _, _, Try.underlying50⟩⟩ ?_
  refine ttok_cons ⟨by kernel_rfl, ⟨_, _, _, Try.underlying51⟩⟩ ?_
  refine ttok_cons ⟨by kernel_rfl, ⟨_, _, _, Try.underlying52⟩⟩ ?_
  refine ttok_cons ⟨by kernel_rfl, ⟨_, _, _, Try.underlying53⟩⟩ ?_
  refine ttok_cons ⟨by kernel_rfl, ⟨_, Try.underlying54, by kernel_rfl, by kernel_rfl, by kernel_rfl, by kernel_rfl, by kernel_rfl, by kernel_rfl⟩⟩ ?_
  refine ttok_cons ⟨by kernel_rfl, ⟨_, Try.underlying55, by kernel_rfl, by kernel_rfl, by kernel_rfl, by kernel_rfl, by kernel_rfl, by kernel_rfl⟩⟩ ?_
  refine ttok_cons ⟨by kernel_rfl, ⟨_, _, _, Try.underlying57⟩⟩ ?_
  refine ttok_cons ⟨by kernel_rfl, ⟨_, _, _, Try.underlying58⟩⟩ ?_
  refine ttok_cons ⟨by kernel_rfl, ⟨_, _, _, Try.underlying59⟩⟩ ?_
  refine ttok_cons ⟨by kernel_rfl, ⟨_, _, _, Try.underlying60⟩⟩ ?_
  refine ttok_cons ⟨by kernel_rfl, ⟨_, _, _, Try.underlying61⟩⟩ ?_
  refine ttok_cons ⟨by kernel_rfl, Try.underlying62⟩ ?_
  refine ttok_cons ⟨by kernel_rfl, ⟨_, _, _, Try.underlying64⟩⟩ ?_
  refine ttok_cons ⟨by kernel_rfl, ⟨_, _, _, Try.underlying66⟩⟩ ?_
  refine ttok_cons ⟨by kernel_rfl, ⟨_, _, _, Try.underlying67⟩⟩ ?_
  refine ttok_cons ⟨by kernel_rfl, ⟨_, _, _, Try.underlying68⟩⟩ ?_
  refine ttok_cons ⟨by kernel_rfl, ⟨_, _, _, Try.underlying69⟩⟩ ?_
  refine ttok_cons ⟨by kernel_rfl, ⟨_, _, _, Try.underlying70⟩⟩ ?_
  refine ttok_cons ⟨by kernel_rfl, ⟨_, _, _, Try.underlying71⟩⟩ ?_
  refine ttok_cons ⟨by kernel_rfl, Try.underlying72⟩ ?_
  refine ttok_cons ⟨by kernel_rfl, ⟨_, _, _, Try.underlying73⟩⟩ ?_
  refine ttok_cons ⟨by kernel_rfl, ⟨_, _, _, Try.underlying74⟩⟩ ?_
  refine ttok_cons ⟨by kernel_rfl, ⟨_, _, _, Try.underlying75⟩⟩ ?_
  refine ttok_cons ⟨by kernel_rfl, ⟨_, _, _, Try.underlying76⟩⟩ ?_
  refine ttok_cons ⟨by kernel_rfl, ⟨_, _, _, Try.underlying82⟩⟩ ?_
  refine ttok_cons ⟨by kernel_rfl, Try.underlying83⟩ ?_
  refine ttok_cons ⟨by kernel_rfl, Try.underlying84⟩ ?_
  refine ttok_cons ⟨by kernel_rfl, Try.underlying85⟩ ?_
  refine ttok_cons ⟨by kernel_rfl, ⟨_, _, _, Try.underlying86⟩⟩ ?_
  refine ttok_cons ⟨by kernel_rfl, Try.underlying87⟩ ?_
  refine ttok_cons ⟨by kernel_rfl, Try.underlying88⟩ ?_
  refine ttok_cons ⟨by kernel_rfl, Try.underlying89⟩ ?_
  exact ttok_nil _
theorem mix : Try.prog.follows .mixedOrders = true := by kernel_rfl
theorem cmpstr : CmpStr Try.prog 67 := CmpStr.of Try.func67 (by kernel_rfl) (by kernel_rfl) (by kernel_rfl) rfl
/-! sluicegate/sluicegatelaw12.great -/
def sluicegatelaw12_great.l0 : Nat → (List (List UInt8)) → (List UInt8) → (List UInt8 × List UInt8 × Bool) → (Int) → Option (Bool)
  | 0, _, _, _, _ => none
  | k + 1, a0, a1, a2, x1 => if (decide (x1 < (a0.length : Int))) = true then (if (decide (x1 < 100)) = true then (if 0 ≤ x1 ∧ x1 < (a0.length : Int) then (if (decide (300 < ((gt a0 x1).length : Int))) = true then (some true) else (sluicegatelaw12_great.l0 k a0 a1 a2 (w64 (x1 + 1)))) else none) else (if (decide (80 < (a0.length : Int))) = true then (some true) else (if (decide (300 < (a1.length : Int))) = true then (some true) else (if (decide (300 < (a2.1.length : Int))) = true then (some true) else (some (decide (300 < (a2.2.1.length : Int)))))))) else (if (decide (80 < (a0.length : Int))) = true then (some true) else (if (decide (300 < (a1.length : Int))) = true then (some true) else (if (decide (300 < (a2.1.length : Int))) = true then (some true) else (some (decide (300 < (a2.2.1.length : Int)))))))
def sluicegatelaw12_great.f (k : Nat) (a0 : List (List UInt8)) (a1 : List UInt8) (a2 : List UInt8 × List UInt8 × Bool) : Option (Bool) := sluicegatelaw12_great.l0 k a0 a1 a2 0
set_option maxRecDepth 20000 in
theorem sluicegatelaw12_great.spec {k : Nat} {a0 : List (List UInt8)} {a1 : List UInt8} {a2 : List UInt8 × List UInt8 × Bool} {A1 : Option Addr} {c_1 : Nat} {r : Bool} (H : sluicegatelaw12_great.f k a0 a1 a2 = some r) :
    Spec Try.prog 34 [.slice A1 a0.length c_1, .string ⟨⟨a1⟩⟩, .agg #[.string ⟨⟨a2.1⟩⟩, .string ⟨⟨a2.2.1⟩⟩, .bool a2.2.2]] [] [rdC 9 .str a0 (.slice A1 a0.length c_1)] (fun v l => v = .bool r ∧ l = []) := by
  refine Spec.enter Try.func34 rfl (by kernel_rfl) (by kernel_rfl) fun w0 F0 h0 => ?_
  unfold sluicegatelaw12_great.f at H
  refine J.seq ?_
  refine J.region ?_
  refine RJ.op rfl rfl (op_box rfl rfl h0) ?_
  rintro _ w1 ⟨b1, rfl, h1⟩
  refine RJ.run ttok 1 rfl ?_
  refine RJ.fin [(0, .slice A1 a0.length c_1), (1, .string ⟨⟨a1⟩⟩), (5, .pointer (some ⟨b1, 0, none⟩))] rfl ?_
  refine J.seq ?_
  refine J.seq ?_
  refine J.region ?_
  refine RJ.run ttok 1 rfl ?_
  refine RJ.fin [(0, .slice A1 a0.length c_1), (1, .string ⟨⟨a1⟩⟩), (5, .pointer (some ⟨b1, 0, none⟩)), (7, .int .i64 0)] rfl ?_
  refine J.block ?_
  have h4 := ((h1.only [0] rfl).rds [0] rfl)
  refine J.loop (fun k env w => ∃ (x1 : Int), env = [(0, .slice A1 a0.length c_1), (1, .string ⟨⟨a1⟩⟩), (5, .pointer (some ⟨b1, 0, none⟩)), (7, .int .i64 x1)] ∧ St w0 F0 [boxC b1 23 [.string ⟨⟨a2.1⟩⟩, .string ⟨⟨a2.2.1⟩⟩, .bool a2.2.2]] [rdC 9 .str a0 (.slice A1 a0.length c_1)] w ∧ sluicegatelaw12_great.l0 k a0 a1 a2 x1 = some r) (k := k) ⟨0, rfl, h4, H⟩ ?_
  rintro k1 env w2 ⟨x1, rfl, h2, H⟩
  cases k1 with
  | zero => exact nomatch (show none = some r from H)
  | succ k1 =>
    rw [sluicegatelaw12_great.l0] at H
    refine J.seq ?_
    refine J.seq ?_
    refine J.region ?_
    refine RJ.run ttok 5 rfl ?_
    rcases Bool.eq_false_or_eq_true (decide (x1 < (a0.length : Int))) with c1 | c1
    · replace H := ite_t c1 H
      refine RJ.know (t := 12) rfl (congrArg Value.bool c1) ?_
      refine RJ.run ttok 3 rfl ?_
      refine RJ.fin [(0, .slice A1 a0.length c_1), (1, .string ⟨⟨a1⟩⟩), (5, .pointer (some ⟨b1, 0, none⟩)), (7, .int .i64 x1), (15, .bool (decide (x1 < 100)))] rfl ?_
      refine J.cond rfl (fun c2 => ?_) (fun c2 => ?_)
      · replace H := ite_t c2 H
        refine J.skip ?_
        refine J.seq ?_
        refine J.block ?_
        refine J.seq ?_
        refine J.region ?_
        refine RJ.run ttok 2 rfl ?_
        obtain ⟨⟨p1, p2⟩, H⟩ := guard_t H
        have e1 := elem_A h2.wh (Gives.self 1 rfl) p1 p2
        refine RJ.q rfl rfl (q_index ttok rfl rfl rfl rfl rfl e1 p1 p2) ?_
        refine RJ.q rfl rfl (q_load_elem (f := 0) ttok rfl (fun w e => e ▸ h2.wh) (Gives.self 1 rfl) p1 p2 rfl rfl rfl rfl rfl) ?_
        refine RJ.run ttok 2 rfl ?_
        refine RJ.fin [(0, .slice A1 a0.length c_1), (1, .string ⟨⟨a1⟩⟩), (5, .pointer (some ⟨b1, 0, none⟩)), (7, .int .i64 x1), (23, .bool (decide (300 < ((gt a0 x1).length : Int))))] rfl ?_
        refine J.cond rfl (fun c3 => ?_) (fun c3 => ?_)
        · replace H := ite_t c3 H
          refine J.seq ?_
          refine J.region ?_
          refine RJ.run ttok 1 rfl ?_
          refine RJ.fin [(6, .bool true)] rfl ?_
          refine J.ret ?_
          obtain rfl := Option.some.inj H
          exact ⟨_, _, _, (results_slots rfl), ⟨rfl, rfl⟩, h2.only [] rfl⟩
        · replace H := ite_f c3 H
          refine J.skip ?_
          refine J.region ?_
          refine RJ.run ttok 3 rfl ?_
          refine RJ.fin [(0, .slice A1 a0.length c_1), (1, .string ⟨⟨a1⟩⟩), (5, .pointer (some ⟨b1, 0, none⟩)), (7, .int .i64 (w64 (x1 + 1)))] rfl ?_
          have h3 := ((h2.only [0] rfl).rds [0] rfl)
          exact ⟨k1, by omega, (w64 (x1 + 1)), rfl, h3, H⟩
      · replace H := ite_f c2 H
        refine J.exit ?_
        refine J.seq ?_
        refine J.region ?_
        refine RJ.run ttok 4 rfl ?_
        rcases Bool.eq_false_or_eq_true (decide (80 < (a0.length : Int))) with c4 | c4
        · replace H := ite_t c4 H
          refine RJ.know (t := 27) rfl (congrArg Value.bool c4) ?_
          refine RJ.run ttok 17 rfl ?_
          refine RJ.fin [(6, .bool true)] rfl ?_
          refine J.ret ?_
          obtain rfl := Option.some.inj H
          exact ⟨_, _, _, (results_slots rfl), ⟨rfl, rfl⟩, h2.only [] rfl⟩
        · replace H := ite_f c4 H
          refine RJ.know (t := 27) rfl (congrArg Value.bool c4) ?_
          refine RJ.run ttok 5 rfl ?_
          rcases Bool.eq_false_or_eq_true (decide (300 < (a1.length : Int))) with c5 | c5
          · replace H := ite_t c5 H
            refine RJ.know (t := 32) rfl (congrArg Value.bool c5) ?_
            refine RJ.run ttok 12 rfl ?_
            refine RJ.fin [(6, .bool true)] rfl ?_
            refine J.ret ?_
            obtain rfl := Option.some.inj H
            exact ⟨_, _, _, (results_slots rfl), ⟨rfl, rfl⟩, h2.only [] rfl⟩
          · replace H := ite_f c5 H
            refine RJ.know (t := 32) rfl (congrArg Value.bool c5) ?_
            refine RJ.run ttok 1 rfl ?_
            refine RJ.q rfl rfl (q_load_box ttok 0 (fun w e => e ▸ h2.wh) rfl rfl rfl rfl rfl) ?_
            refine RJ.run ttok 4 rfl ?_
            rcases Bool.eq_false_or_eq_true (decide (300 < (a2.1.length : Int))) with c6 | c6
            · replace H := ite_t c6 H
              refine RJ.know (t := 38) rfl (congrArg Value.bool c6) ?_
              refine RJ.run ttok 6 rfl ?_
              refine RJ.fin [(6, .bool true)] rfl ?_
              refine J.ret ?_
              obtain rfl := Option.some.inj H
              exact ⟨_, _, _, (results_slots rfl), ⟨rfl, rfl⟩, h2.only [] rfl⟩
            · replace H := ite_f c6 H
              refine RJ.know (t := 38) rfl (congrArg Value.bool c6) ?_
              refine RJ.run ttok 1 rfl ?_
              refine RJ.q rfl rfl (q_load_box ttok 0 (fun w e => e ▸ h2.wh) rfl rfl rfl rfl rfl) ?_
              refine RJ.run ttok 4 rfl ?_
              refine RJ.fin [(6, .bool (decide (300 < (a2.2.1.length : Int))))] rfl ?_
              refine J.ret ?_
              obtain rfl := Option.some.inj H
              exact ⟨_, _, _, (results_slots rfl), ⟨rfl, rfl⟩, h2.only [] rfl⟩
    · replace H := ite_f c1 H
      refine RJ.know (t := 12) rfl (congrArg Value.bool c1) ?_
      refine RJ.run ttok 3 rfl ?_
      refine RJ.fin [(0, .slice A1 a0.length c_1), (1, .string ⟨⟨a1⟩⟩), (5, .pointer (some ⟨b1, 0, none⟩)), (7, .int .i64 x1), (15, .bool false)] rfl ?_
      refine J.condF rfl ?_
      refine J.exit ?_
      refine J.seq ?_
      refine J.region ?_
      refine RJ.run ttok 4 rfl ?_
      rcases Bool.eq_false_or_eq_true (decide (80 < (a0.length : Int))) with c7 | c7
      · replace H := ite_t c7 H
        refine RJ.know (t := 27) rfl (congrArg Value.bool c7) ?_
        refine RJ.run ttok 17 rfl ?_
        refine RJ.fin [(6, .bool true)] rfl ?_
        refine J.ret ?_
        obtain rfl := Option.some.inj H
        exact ⟨_, _, _, (results_slots rfl), ⟨rfl, rfl⟩, h2.only [] rfl⟩
      · replace H := ite_f c7 H
        refine RJ.know (t := 27) rfl (congrArg Value.bool c7) ?_
        refine RJ.run ttok 5 rfl ?_
        rcases Bool.eq_false_or_eq_true (decide (300 < (a1.length : Int))) with c8 | c8
        · replace H := ite_t c8 H
          refine RJ.know (t := 32) rfl (congrArg Value.bool c8) ?_
          refine RJ.run ttok 12 rfl ?_
          refine RJ.fin [(6, .bool true)] rfl ?_
          refine J.ret ?_
          obtain rfl := Option.some.inj H
          exact ⟨_, _, _, (results_slots rfl), ⟨rfl, rfl⟩, h2.only [] rfl⟩
        · replace H := ite_f c8 H
          refine RJ.know (t := 32) rfl (congrArg Value.bool c8) ?_
          refine RJ.run ttok 1 rfl ?_
          refine RJ.q rfl rfl (q_load_box ttok 0 (fun w e => e ▸ h2.wh) rfl rfl rfl rfl rfl) ?_
          refine RJ.run ttok 4 rfl ?_
          rcases Bool.eq_false_or_eq_true (decide (300 < (a2.1.length : Int))) with c9 | c9
          · replace H := ite_t c9 H
            refine RJ.know (t := 38) rfl (congrArg Value.bool c9) ?_
            refine RJ.run ttok 6 rfl ?_
            refine RJ.fin [(6, .bool true)] rfl ?_
            refine J.ret ?_
            obtain rfl := Option.some.inj H
            exact ⟨_, _, _, (results_slots rfl), ⟨rfl, rfl⟩, h2.only [] rfl⟩
          · replace H := ite_f c9 H
            refine RJ.know (t := 38) rfl (congrArg Value.bool c9) ?_
            refine RJ.run ttok 1 rfl ?_
            refine RJ.q rfl rfl (q_load_box ttok 0 (fun w e => e ▸ h2.wh) rfl rfl rfl rfl rfl) ?_
            refine RJ.run ttok 4 rfl ?_
            refine RJ.fin [(6, .bool (decide (300 < (a2.2.1.length : Int))))] rfl ?_
            refine J.ret ?_
            obtain rfl := Option.some.inj H
            exact ⟨_, _, _, (results_slots rfl), ⟨rfl, rfl⟩, h2.only [] rfl⟩

/-! internal/bytealg.CompareString -/
def bytealg_CompareString.f (a0 : List UInt8) (a1 : List UInt8) : Option (Int) := some (scmp a0 a1)
set_option maxRecDepth 20000 in
theorem bytealg_CompareString.spec {a0 : List UInt8} {a1 : List UInt8}  {r : Int} (H : bytealg_CompareString.f a0 a1 = some r) :
    Spec Try.prog 63 [.string ⟨⟨a0⟩⟩, .string ⟨⟨a1⟩⟩] [] [] (fun v l => v = .int .i64 r ∧ l = []) := by
  refine Spec.enter Try.func63 rfl (by kernel_rfl) (by kernel_rfl) fun w0 F0 h0 => ?_
  unfold bytealg_CompareString.f at H
  refine J.seq ?_
  refine J.region ?_
  refine RJ.run ttok 1 rfl ?_
  refine RJ.fin [(0, .string ⟨⟨a0⟩⟩), (1, .string ⟨⟨a1⟩⟩)] rfl ?_
  refine J.seq ?_
  refine J.region ?_
  refine RJ.run ttok 2 rfl ?_
  refine RJ.q rfl rfl (q_cmpstr cmpstr rfl rfl rfl) ?_
  refine RJ.run ttok 1 rfl ?_
  refine RJ.fin [(4, .int .i64 (scmp a0 a1))] rfl ?_
  refine J.ret ?_
  obtain rfl := Option.some.inj H
  exact ⟨_, _, _, (results_slots rfl), ⟨rfl, rfl⟩, h0.only [] rfl⟩

/-! strings.Compare -/
def strings_Compare.f (a0 : List UInt8) (a1 : List UInt8) : Option (Int) := (bytealg_CompareString.f a0 a1).bind fun r1 => (some r1)
set_option maxRecDepth 20000 in
theorem strings_Compare.spec {a0 : List UInt8} {a1 : List UInt8}  {r : Int} (H : strings_Compare.f a0 a1 = some r) :
    Spec Try.prog 54 [.string ⟨⟨a0⟩⟩, .string ⟨⟨a1⟩⟩] [] [] (fun v l => v = .int .i64 r ∧ l = []) := by
  refine Spec.enter Try.func54 rfl (by kernel_rfl) (by kernel_rfl) fun w0 F0 h0 => ?_
  unfold strings_Compare.f at H
  refine J.seq ?_
  refine J.region ?_
  refine RJ.run ttok 1 rfl ?_
  refine RJ.fin [(0, .string ⟨⟨a0⟩⟩), (1, .string ⟨⟨a1⟩⟩)] rfl ?_
  refine J.seq ?_
  refine J.region ?_
  refine RJ.run ttok 2 rfl ?_
  obtain ⟨r1, q1, H⟩ := bind_t H
  refine RJ.op rfl rfl (op_call [] (bytealg_CompareString.spec q1) rfl rfl rfl h0 rfl gnil) ?_
  rintro _ w1 ⟨_, ⟨rfl, rfl⟩, h1⟩
  refine RJ.run ttok 1 rfl ?_
  refine RJ.fin [(4, .int .i64 r1)] rfl ?_
  refine J.ret ?_
  obtain rfl := Option.some.inj H
  exact ⟨_, _, _, (results_slots rfl), ⟨rfl, rfl⟩, h1.only [] rfl⟩

/-! sluicegate/lex.Compare -/
def lex_Compare.f (a0 : List UInt8) (a1 : List UInt8) : Option (Int) := (strings_Compare.f a0 a1).bind fun r1 => (some r1)
set_option maxRecDepth 20000 in
theorem lex_Compare.spec {a0 : List UInt8} {a1 : List UInt8}  {r : Int} (H : lex_Compare.f a0 a1 = some r) :
    Spec Try.prog 24 [.string ⟨⟨a0⟩⟩, .string ⟨⟨a1⟩⟩] [] [] (fun v l => v = .int .i64 r ∧ l = []) := by
  refine Spec.enter Try.func24 rfl (by kernel_rfl) (by kernel_rfl) fun w0 F0 h0 => ?_
  unfold lex_Compare.f at H
  refine J.seq ?_
  refine J.region ?_
  refine RJ.run ttok 1 rfl ?_
  refine RJ.fin [(0, .string ⟨⟨a0⟩⟩), (1, .string ⟨⟨a1⟩⟩)] rfl ?_
  refine J.seq ?_
  refine J.region ?_
  refine RJ.run ttok 2 rfl ?_
  obtain ⟨r1, q1, H⟩ := bind_t H
  refine RJ.op rfl rfl (op_call [] (strings_Compare.spec q1) rfl rfl rfl h0 rfl gnil) ?_
  rintro _ w1 ⟨_, ⟨rfl, rfl⟩, h1⟩
  refine RJ.run ttok 1 rfl ?_
  refine RJ.fin [(4, .int .i64 r1)] rfl ?_
  refine J.ret ?_
  obtain rfl := Option.some.inj H
  exact ⟨_, _, _, (results_slots rfl), ⟨rfl, rfl⟩, h1.only [] rfl⟩

/-! slices.BinarySearchFunc[[]string,string,string] -/
def slices_BinarySearchFunc_string_string_string_lex_Compare.l0 : Nat → (List (List UInt8)) → (List UInt8) → (Int) → (Int) → Option (Int × Bool)
  | 0, _, _, _, _ => none
  | k + 1, a0, a1, x1, x2 => if (decide (x1 < x2)) = true then (if 0 ≤ (w64 ((Int.fdiv (IntKind.u64.wrap ((w64 (x1 + x2)))) (2 ^ 1)))) ∧ (w64 ((Int.fdiv (IntKind.u64.wrap ((w64 (x1 + x2)))) (2 ^ 1)))) < (a0.length : Int) then ((lex_Compare.f (gt a0 (w64 ((Int.fdiv (IntKind.u64.wrap ((w64 (x1 + x2)))) (2 ^ 1))))) a1).bind fun r1 => (if (decide (r1 < 0)) = true then (slices_BinarySearchFunc_string_string_string_lex_Compare.l0 k a0 a1 (w64 ((w64 ((Int.fdiv (IntKind.u64.wrap ((w64 (x1 + x2)))) (2 ^ 1)))) + 1)) x2) else (slices_BinarySearchFunc_string_string_string_lex_Compare.l0 k a0 a1 x1 (w64 ((Int.fdiv (IntKind.u64.wrap ((w64 (x1 + x2)))) (2 ^ 1))))))) else none) else (if (decide (x1 < (a0.length : Int))) = true then (if 0 ≤ x1 ∧ x1 < (a0.length : Int) then ((lex_Compare.f (gt a0 x1) a1).bind fun r2 => (some (x1, (decide (r2 = 0))))) else none) else (some (x1, false)))
def slices_BinarySearchFunc_string_string_string_lex_Compare.f (k : Nat) (a0 : List (List UInt8)) (a1 : List UInt8) : Option (Int × Bool) := slices_BinarySearchFunc_string_string_string_lex_Compare.l0 k a0 a1 0 (a0.length : Int)
set_option maxRecDepth 20000 in
theorem slices_BinarySearchFunc_string_string_string_lex_Compare.spec {k : Nat} {a0 : List (List UInt8)} {a1 : List UInt8} {A1 : Option Addr} {c_1 : Nat} {r : Int × Bool} (H : slices_BinarySearchFunc_string_string_string_lex_Compare.f k a0 a1 = some r) :
    Spec Try.prog 56 [.slice A1 a0.length c_1, .string ⟨⟨a1⟩⟩, .func (.func 24) #[] #[]] [] [rdC 9 .str a0 (.slice A1 a0.length c_1)] (fun v l => v = .tuple #[.int .i64 r.1, .bool r.2] ∧ l = []) := by
  refine Spec.enter Try.func56 rfl (by kernel_rfl) (by kernel_rfl) fun w0 F0 h0 => ?_
  unfold slices_BinarySearchFunc_string_string_string_lex_Compare.f at H
  refine J.seq ?_
  refine J.region ?_
  refine RJ.run ttok 2 rfl ?_
  refine RJ.fin [(0, .slice A1 a0.length c_1), (1, .string ⟨⟨a1⟩⟩), (2, .func (.func 24) #[] #[])] rfl ?_
  refine J.seq ?_
  refine J.region ?_
  refine RJ.run ttok 3 rfl ?_
  refine RJ.fin [(0, .slice A1 a0.length c_1), (1, .string ⟨⟨a1⟩⟩), (2, .func (.func 24) #[] #[]), (8, .int .i64 (a0.length : Int))] rfl ?_
  refine J.seq ?_
  refine J.region ?_
  refine RJ.run ttok 3 rfl ?_
  refine RJ.fin [(0, .slice A1 a0.length c_1), (1, .string ⟨⟨a1⟩⟩), (2, .func (.func 24) #[] #[]), (8, .int .i64 (a0.length : Int)), (9, .int .i64 0), (10, .int .i64 (a0.length : Int))] rfl ?_
  refine J.seq ?_
  refine J.block ?_
  have h6 := ((h0.only [] rfl).rds [0] rfl)
  refine J.loop (fun k env w => ∃ (x1 : Int) (x2 : Int), env = [(0, .slice A1 a0.length c_1), (1, .string ⟨⟨a1⟩⟩), (2, .func (.func 24) #[] #[]), (8, .int .i64 (a0.length : Int)), (9, .int .i64 x1), (10, .int .i64 x2)] ∧ St w0 F0 [] [rdC 9 .str a0 (.slice A1 a0.length c_1)] w ∧ slices_BinarySearchFunc_string_string_string_lex_Compare.l0 k a0 a1 x1 x2 = some r) (k := k) ⟨0, (a0.length : Int), rfl, h6, H⟩ ?_
  rintro k1 env w1 ⟨x1, x2, rfl, h1, H⟩
  cases k1 with
  | zero => exact nomatch (show none = some r from H)
  | succ k1 =>
    rw [slices_BinarySearchFunc_string_string_string_lex_Compare.l0] at H
    refine J.seq ?_
    refine J.seq ?_
    refine J.region ?_
    refine RJ.run ttok 3 rfl ?_
    refine RJ.fin [(0, .slice A1 a0.length c_1), (1, .string ⟨⟨a1⟩⟩), (2, .func (.func 24) #[] #[]), (8, .int .i64 (a0.length : Int)), (9, .int .i64 x1), (10, .int .i64 x2), (17, .bool (decide (x1 < x2)))] rfl ?_
    refine J.cond rfl (fun c1 => ?_) (fun c1 => ?_)
    · replace H := ite_t c1 H
      refine J.skip ?_
      refine J.block ?_
      refine J.seq ?_
      refine J.region ?_
      refine RJ.run ttok 7 rfl ?_
      refine RJ.fin [(0, .slice A1 a0.length c_1), (1, .string ⟨⟨a1⟩⟩), (2, .func (.func 24) #[] #[]), (8, .int .i64 (a0.length : Int)), (9, .int .i64 x1), (10, .int .i64 x2), (11, .int .i64 (w64 ((Int.fdiv (IntKind.u64.wrap ((w64 (x1 + x2)))) (2 ^ 1)))))] rfl ?_
      refine J.seq ?_
      refine J.region ?_
      refine RJ.run ttok 3 rfl ?_
      obtain ⟨⟨p1, p2⟩, H⟩ := guard_t H
      have e1 := elem_A h1.wh (Gives.self 0 rfl) p1 p2
      refine RJ.q rfl rfl (q_index ttok rfl rfl rfl rfl rfl e1 p1 p2) ?_
      refine RJ.q rfl rfl (q_load_elem (f := 0) ttok rfl (fun w e => e ▸ h1.wh) (Gives.self 0 rfl) p1 p2 rfl rfl rfl rfl rfl) ?_
      refine RJ.run ttok 1 rfl ?_
      obtain ⟨r1, q1, H⟩ := bind_t H
      refine RJ.op rfl rfl (op_call [] (lex_Compare.spec q1) rfl rfl rfl h1 rfl gnil) ?_
      rintro _ w2 ⟨_, ⟨rfl, rfl⟩, h2⟩
      refine RJ.run ttok 1 rfl ?_
      refine RJ.fin [(0, .slice A1 a0.length c_1), (1, .string ⟨⟨a1⟩⟩), (2, .func (.func 24) #[] #[]), (8, .int .i64 (a0.length : Int)), (9, .int .i64 x1), (10, .int .i64 x2), (11, .int .i64 (w64 ((Int.fdiv (IntKind.u64.wrap ((w64 (x1 + x2)))) (2 ^ 1))))), (31, .bool (decide (r1 < 0)))] rfl ?_
      refine J.cond rfl (fun c2 => ?_) (fun c2 => ?_)
      · replace H := ite_t c2 H
        refine J.region ?_
        refine RJ.run ttok 3 rfl ?_
        refine RJ.fin [(0, .slice A1 a0.length c_1), (1, .string ⟨⟨a1⟩⟩), (2, .func (.func 24) #[] #[]), (8, .int .i64 (a0.length : Int)), (9, .int .i64 (w64 ((w64 ((Int.fdiv (IntKind.u64.wrap ((w64 (x1 + x2)))) (2 ^ 1)))) + 1))), (10, .int .i64 x2)] rfl ?_
        have h3 := ((h2.only [] rfl).rds [0] rfl)
        exact ⟨k1, by omega, (w64 ((w64 ((Int.fdiv (IntKind.u64.wrap ((w64 (x1 + x2)))) (2 ^ 1)))) + 1)), x2, rfl, h3, H⟩
      · replace H := ite_f c2 H
        refine J.region ?_
        refine RJ.run ttok 2 rfl ?_
        refine RJ.fin [(0, .slice A1 a0.length c_1), (1, .string ⟨⟨a1⟩⟩), (2, .func (.func 24) #[] #[]), (8, .int .i64 (a0.length : Int)), (9, .int .i64 x1), (10, .int .i64 (w64 ((Int.fdiv (IntKind.u64.wrap ((w64 (x1 + x2)))) (2 ^ 1)))))] rfl ?_
        have h4 := ((h2.only [] rfl).rds [0] rfl)
        exact ⟨k1, by omega, x1, (w64 ((Int.fdiv (IntKind.u64.wrap ((w64 (x1 + x2)))) (2 ^ 1)))), rfl, h4, H⟩
    · replace H := ite_f c1 H
      refine J.exit ?_
      refine J.seq ?_
      refine J.region ?_
      refine RJ.run ttok 5 rfl ?_
      rcases Bool.eq_false_or_eq_true (decide (x1 < (a0.length : Int))) with c3 | c3
      · replace H := ite_t c3 H
        refine RJ.know (t := 39) rfl (congrArg Value.bool c3) ?_
        refine RJ.run ttok 3 rfl ?_
        obtain ⟨⟨p3, p4⟩, H⟩ := guard_t H
        have e2 := elem_A h1.wh (Gives.self 0 rfl) p3 p4
        refine RJ.q rfl rfl (q_index ttok rfl rfl rfl rfl rfl e2 p3 p4) ?_
        refine RJ.q rfl rfl (q_load_elem (f := 0) ttok rfl (fun w e => e ▸ h1.wh) (Gives.self 0 rfl) p3 p4 rfl rfl rfl rfl rfl) ?_
        refine RJ.run ttok 1 rfl ?_
        obtain ⟨r2, q2, H⟩ := bind_t H
        refine RJ.op rfl rfl (op_call [] (lex_Compare.spec q2) rfl rfl rfl h1 rfl gnil) ?_
        rintro _ w3 ⟨_, ⟨rfl, rfl⟩, h5⟩
        refine RJ.run ttok 4 rfl ?_
        refine RJ.fin [(6, .int .i64 x1), (7, .bool (decide (r2 = 0)))] rfl ?_
        refine J.ret ?_
        obtain rfl := Option.some.inj H
        exact ⟨_, _, _, (results_slots rfl), ⟨rfl, rfl⟩, h5.only [] rfl⟩
      · replace H := ite_f c3 H
        refine RJ.know (t := 39) rfl (congrArg Value.bool c3) ?_
        refine RJ.run ttok 11 rfl ?_
        refine RJ.fin [(6, .int .i64 x1), (7, .bool false)] rfl ?_
        refine J.ret ?_
        obtain rfl := Option.some.inj H
        exact ⟨_, _, _, (results_slots rfl), ⟨rfl, rfl⟩, h1.only [] rfl⟩

/-! sluicegate/fan.Way -/
def fan_Way.f (k : Nat) (a0 : List (List UInt8)) (a1 : List UInt8) : Option (Int) := (slices_BinarySearchFunc_string_string_string_lex_Compare.f k a0 a1).bind fun r1 => (if r1.2 = true then (some (w64 (r1.1 + 1))) else (some r1.1))
set_option maxRecDepth 20000 in
theorem fan_Way.spec {k : Nat} {a0 : List (List UInt8)} {a1 : List UInt8} {A1 : Option Addr} {c_1 : Nat} {r : Int} (H : fan_Way.f k a0 a1 = some r) :
    Spec Try.prog 41 [.slice A1 a0.length c_1, .string ⟨⟨a1⟩⟩] [] [rdC 9 .str a0 (.slice A1 a0.length c_1)] (fun v l => v = .int .i64 r ∧ l = []) := by
  refine Spec.enter Try.func41 rfl (by kernel_rfl) (by kernel_rfl) fun w0 F0 h0 => ?_
  unfold fan_Way.f at H
  refine J.seq ?_
  refine J.region ?_
  refine RJ.run ttok 1 rfl ?_
  refine RJ.fin [(0, .slice A1 a0.length c_1), (1, .string ⟨⟨a1⟩⟩)] rfl ?_
  refine J.seq ?_
  refine J.region ?_
  refine RJ.run ttok 2 rfl ?_
  obtain ⟨r1, q1, H⟩ := bind_t H
  refine RJ.op rfl rfl (op_call [] (slices_BinarySearchFunc_string_string_string_lex_Compare.spec q1) rfl rfl rfl h0 rfl (gcons (Gives.self 0 rfl) gnil)) ?_
  rintro _ w1 ⟨_, ⟨rfl, rfl⟩, h1⟩
  refine RJ.run ttok 5 rfl ?_
  refine RJ.fin [(5, .int .i64 r1.1), (6, .bool r1.2)] rfl ?_
  refine J.seq ?_
  refine J.seq ?_
  refine J.region ?_
  refine RJ.run ttok 1 rfl ?_
  refine RJ.fin [(5, .int .i64 r1.1), (13, .bool r1.2)] rfl ?_
  refine J.cond rfl (fun c1 => ?_) (fun c1 => ?_)
  · replace H := ite_t c1 H
    refine J.region ?_
    refine RJ.run ttok 3 rfl ?_
    refine RJ.fin [(5, .int .i64 (w64 (r1.1 + 1)))] rfl ?_
    refine J.seq ?_
    refine J.region ?_
    refine RJ.run ttok 2 rfl ?_
    refine RJ.fin [(4, .int .i64 (w64 (r1.1 + 1)))] rfl ?_
    refine J.ret ?_
    obtain rfl := Option.some.inj H
    exact ⟨_, _, _, (results_slots rfl), ⟨rfl, rfl⟩, h1.only [] rfl⟩
  · replace H := ite_f c1 H
    refine J.skip ?_
    refine J.seq ?_
    refine J.region ?_
    refine RJ.run ttok 2 rfl ?_
    refine RJ.fin [(4, .int .i64 r1.1)] rfl ?_
    refine J.ret ?_
    obtain rfl := Option.some.inj H
    exact ⟨_, _, _, (results_slots rfl), ⟨rfl, rfl⟩, h1.only [] rfl⟩

/-! sluicegate/lex.In -/
def lex_In.f (a0 : List UInt8 × List UInt8 × Bool) (a1 : List UInt8) : Option (Bool) := if (!Op.bytesLess a1 a0.1) = true then (if a0.2.2 = true then (some true) else (some (Op.bytesLess a1 a0.2.1))) else (some false)
set_option maxRecDepth 20000 in
theorem lex_In.spec {a0 : List UInt8 × List UInt8 × Bool} {a1 : List UInt8}  {r : Bool} (H : lex_In.f a0 a1 = some r) :
    Spec Try.prog 15 [.agg #[.string ⟨⟨a0.1⟩⟩, .string ⟨⟨a0.2.1⟩⟩, .bool a0.2.2], .string ⟨⟨a1⟩⟩] [] [] (fun v l => v = .bool r ∧ l = []) := by
  refine Spec.enter Try.func15 rfl (by kernel_rfl) (by kernel_rfl) fun w0 F0 h0 => ?_
  unfold lex_In.f at H
  refine J.seq ?_
  refine J.region ?_
  refine RJ.op rfl rfl (op_box rfl rfl h0) ?_
  rintro _ w1 ⟨b1, rfl, h1⟩
  refine RJ.run ttok 1 rfl ?_
  refine RJ.fin [(1, .string ⟨⟨a1⟩⟩), (2, .pointer (some ⟨b1, 0, none⟩))] rfl ?_
  refine J.seq ?_
  refine J.region ?_
  refine RJ.run ttok 2 rfl ?_
  refine RJ.q rfl rfl (q_load_box ttok 0 (fun w e => e ▸ h1.wh) rfl rfl rfl rfl rfl) ?_
  refine RJ.run ttok 2 rfl ?_
  rcases Bool.eq_false_or_eq_true (!Op.bytesLess a1 a0.1) with c1 | c1
  · replace H := ite_t c1 H
    refine RJ.know (t := 9) rfl (congrArg Value.bool c1) ?_
    refine RJ.run ttok 1 rfl ?_
    refine RJ.q rfl rfl (q_load_box ttok 0 (fun w e => e ▸ h1.wh) rfl rfl rfl rfl rfl) ?_
    refine RJ.run ttok 1 rfl ?_
    rcases Bool.eq_false_or_eq_true a0.2.2 with c2 | c2
    · replace H := ite_t c2 H
      refine RJ.know (t := 12) rfl (congrArg Value.bool c2) ?_
      refine RJ.run ttok 7 rfl ?_
      refine RJ.fin [(4, .bool true)] rfl ?_
      refine J.ret ?_
      obtain rfl := Option.some.inj H
      exact ⟨_, _, _, (results_slots rfl), ⟨rfl, rfl⟩, h1.only [] rfl⟩
    · replace H := ite_f c2 H
      refine RJ.know (t := 12) rfl (congrArg Value.bool c2) ?_
      refine RJ.run ttok 2 rfl ?_
      refine RJ.q rfl rfl (q_load_box ttok 0 (fun w e => e ▸ h1.wh) rfl rfl rfl rfl rfl) ?_
      refine RJ.run ttok 4 rfl ?_
      refine RJ.fin [(4, .bool (Op.bytesLess a1 a0.2.1))] rfl ?_
      refine J.ret ?_
      obtain rfl := Option.some.inj H
      exact ⟨_, _, _, (results_slots rfl), ⟨rfl, rfl⟩, h1.only [] rfl⟩
  · replace H := ite_f c1 H
    refine RJ.know (t := 9) rfl (congrArg Value.bool c1) ?_
    refine RJ.run ttok 10 rfl ?_
    refine RJ.fin [(4, .bool false)] rfl ?_
    refine J.ret ?_
    obtain rfl := Option.some.inj H
    exact ⟨_, _, _, (results_slots rfl), ⟨rfl, rfl⟩, h1.only [] rfl⟩

/-! sluicegate/fan.Right -/
def fan_Right.l0 : Nat → (List (List UInt8)) → (List UInt8 × List UInt8 × Bool) → (Int) → Option (Bool)
  | 0, _, _, _ => none
  | k + 1, a0, a1, x1 => if (decide (x1 < (a0.length : Int))) = true then (if 0 ≤ x1 ∧ x1 < (a0.length : Int) then ((lex_In.f (a1.1, a1.2.1, a1.2.2) (gt a0 x1)).bind fun r1 => (if (!r1) = true then (some false) else (if (decide ((gt a0 x1) = a1.1)) = true then (some false) else (if (decide (0 < x1)) = true then (if 0 ≤ (w64 (x1 - 1)) ∧ (w64 (x1 - 1)) < (a0.length : Int) then ((lex_Compare.f (gt a0 (w64 (x1 - 1))) (gt a0 x1)).bind fun r2 => (if (decide (0 ≤ r2)) = true then (some false) else (fan_Right.l0 k a0 a1 (w64 (x1 + 1))))) else none) else (fan_Right.l0 k a0 a1 (w64 (x1 + 1))))))) else none) else (some true)
def fan_Right.f (k : Nat) (a0 : List (List UInt8)) (a1 : List UInt8 × List UInt8 × Bool) : Option (Bool) := fan_Right.l0 k a0 a1 0
set_option maxRecDepth 20000 in
theorem fan_Right.spec {k : Nat} {a0 : List (List UInt8)} {a1 : List UInt8 × List UInt8 × Bool} {A1 : Option Addr} {c_1 : Nat} {r : Bool} (H : fan_Right.f k a0 a1 = some r) :
    Spec Try.prog 36 [.slice A1 a0.length c_1, .agg #[.string ⟨⟨a1.1⟩⟩, .string ⟨⟨a1.2.1⟩⟩, .bool a1.2.2]] [] [rdC 9 .str a0 (.slice A1 a0.length c_1)] (fun v l => v = .bool r ∧ l = []) := by
  refine Spec.enter Try.func36 rfl (by kernel_rfl) (by kernel_rfl) fun w0 F0 h0 => ?_
  unfold fan_Right.f at H
  refine J.seq ?_
  refine J.region ?_
  refine RJ.op rfl rfl (op_box rfl rfl h0) ?_
  rintro _ w1 ⟨b1, rfl, h1⟩
  refine RJ.run ttok 1 rfl ?_
  refine RJ.fin [(0, .slice A1 a0.length c_1), (3, .pointer (some ⟨b1, 0, none⟩))] rfl ?_
  refine J.seq ?_
  refine J.seq ?_
  refine J.region ?_
  refine RJ.run ttok 3 rfl ?_
  refine RJ.fin [(0, .slice A1 a0.length c_1), (3, .pointer (some ⟨b1, 0, none⟩)), (7, .slice A1 a0.length c_1), (8, .int .i64 (a0.length : Int)), (9, .int .i64 0)] rfl ?_
  refine J.block ?_
  have h7 := ((h1.only [0] rfl).rds [0] rfl)
  refine J.loop (fun k env w => ∃ (x1 : Int), env = [(0, .slice A1 a0.length c_1), (3, .pointer (some ⟨b1, 0, none⟩)), (7, .slice A1 a0.length c_1), (8, .int .i64 (a0.length : Int)), (9, .int .i64 x1)] ∧ St w0 F0 [boxC b1 23 [.string ⟨⟨a1.1⟩⟩, .string ⟨⟨a1.2.1⟩⟩, .bool a1.2.2]] [rdC 9 .str a0 (.slice A1 a0.length c_1)] w ∧ fan_Right.l0 k a0 a1 x1 = some r) (k := k) ⟨0, rfl, h7, H⟩ ?_
  rintro k1 env w2 ⟨x1, rfl, h2, H⟩
  cases k1 with
  | zero => exact nomatch (show none = some r from H)
  | succ k1 =>
    rw [fan_Right.l0] at H
    refine J.seq ?_
    refine J.region ?_
    refine RJ.run ttok 1 rfl ?_
    refine RJ.fin [(0, .slice A1 a0.length c_1), (3, .pointer (some ⟨b1, 0, none⟩)), (7, .slice A1 a0.length c_1), (8, .int .i64 (a0.length : Int)), (9, .int .i64 x1), (10, .bool (decide (x1 < (a0.length : Int))))] rfl ?_
    refine J.seq ?_
    refine J.cond rfl (fun c1 => ?_) (fun c1 => ?_)
    · replace H := ite_t c1 H
      refine J.skip ?_
      refine J.seq ?_
      refine J.block ?_
      refine J.seq ?_
      refine J.region ?_
      refine RJ.run ttok 1 rfl ?_
      obtain ⟨⟨p1, p2⟩, H⟩ := guard_t H
      have e1 := elem_A h2.wh (Gives.self 1 rfl) p1 p2
      refine RJ.q rfl rfl (q_index ttok rfl rfl rfl rfl rfl e1 p1 p2) ?_
      refine RJ.q rfl rfl (q_load_elem (f := 0) ttok rfl (fun w e => e ▸ h2.wh) (Gives.self 1 rfl) p1 p2 rfl rfl rfl rfl rfl) ?_
      refine RJ.run ttok 2 rfl ?_
      refine RJ.fin [(0, .slice A1 a0.length c_1), (3, .pointer (some ⟨b1, 0, none⟩)), (5, .int .i64 x1), (6, .string ⟨⟨(gt a0 x1)⟩⟩), (7, .slice A1 a0.length c_1), (8, .int .i64 (a0.length : Int)), (9, .int .i64 x1)] rfl ?_
      refine J.seq ?_
      refine J.region ?_
      refine RJ.q rfl rfl (q_load_box ttok 0 (fun w e => e ▸ h2.wh) rfl rfl rfl rfl rfl) ?_
      refine RJ.run ttok 1 rfl ?_
      obtain ⟨r1, q1, H⟩ := bind_t H
      refine RJ.op rfl rfl (op_call [] (lex_In.spec q1) rfl rfl rfl h2 rfl gnil) ?_
      rintro _ w3 ⟨_, ⟨rfl, rfl⟩, h3⟩
      refine RJ.run ttok 2 rfl ?_
      rcases Bool.eq_false_or_eq_true (!r1) with c2 | c2
      · replace H := ite_t c2 H
        refine RJ.know (t := 18) rfl (congrArg Value.bool c2) ?_
        refine RJ.run ttok 19 rfl ?_
        refine RJ.fin [(0, .slice A1 a0.length c_1), (3, .pointer (some ⟨b1, 0, none⟩)), (7, .slice A1 a0.length c_1), (8, .int .i64 (a0.length : Int)), (9, .int .i64 x1), (37, .bool true)] rfl ?_
        refine J.condT rfl ?_
        refine J.seq ?_
        refine J.region ?_
        refine RJ.run ttok 1 rfl ?_
        refine RJ.fin [(4, .bool false)] rfl ?_
        refine J.ret ?_
        obtain rfl := Option.some.inj H
        exact ⟨_, _, _, (results_slots rfl), ⟨rfl, rfl⟩, h3.only [] rfl⟩
      · replace H := ite_f c2 H
        refine RJ.know (t := 18) rfl (congrArg Value.bool c2) ?_
        refine RJ.run ttok 2 rfl ?_
        refine RJ.q rfl rfl (q_load_box ttok 0 (fun w e => e ▸ h3.wh) rfl rfl rfl rfl rfl) ?_
        refine RJ.run ttok 3 rfl ?_
        rcases Bool.eq_false_or_eq_true (decide ((gt a0 x1) = a1.1)) with c3 | c3
        · replace H := ite_t c3 H
          refine RJ.know (t := 24) rfl (congrArg Value.bool c3) ?_
          refine RJ.run ttok 13 rfl ?_
          refine RJ.fin [(0, .slice A1 a0.length c_1), (3, .pointer (some ⟨b1, 0, none⟩)), (7, .slice A1 a0.length c_1), (8, .int .i64 (a0.length : Int)), (9, .int .i64 x1), (37, .bool true)] rfl ?_
          refine J.condT rfl ?_
          refine J.seq ?_
          refine J.region ?_
          refine RJ.run ttok 1 rfl ?_
          refine RJ.fin [(4, .bool false)] rfl ?_
          refine J.ret ?_
          obtain rfl := Option.some.inj H
          exact ⟨_, _, _, (results_slots rfl), ⟨rfl, rfl⟩, h3.only [] rfl⟩
        · replace H := ite_f c3 H
          refine RJ.know (t := 24) rfl (congrArg Value.bool c3) ?_
          refine RJ.run ttok 3 rfl ?_
          rcases Bool.eq_false_or_eq_true (decide (0 < x1)) with c4 | c4
          · replace H := ite_t c4 H
            refine RJ.know (t := 27) rfl (congrArg Value.bool c4) ?_
            refine RJ.run ttok 3 rfl ?_
            obtain ⟨⟨p3, p4⟩, H⟩ := guard_t H
            refine RJ.q rfl rfl (q_index ttok rfl rfl rfl rfl rfl e1 p3 p4) ?_
            refine RJ.q rfl rfl (q_load_elem (f := 0) ttok rfl (fun w e => e ▸ h3.wh) (Gives.self 1 rfl) p3 p4 rfl rfl rfl rfl rfl) ?_
            refine RJ.run ttok 1 rfl ?_
            obtain ⟨r2, q2, H⟩ := bind_t H
            refine RJ.op rfl rfl (op_call [] (lex_Compare.spec q2) rfl rfl rfl h3 rfl gnil) ?_
            rintro _ w4 ⟨_, ⟨rfl, rfl⟩, h4⟩
            refine RJ.run ttok 3 rfl ?_
            refine RJ.fin [(0, .slice A1 a0.length c_1), (3, .pointer (some ⟨b1, 0, none⟩)), (7, .slice A1 a0.length c_1), (8, .int .i64 (a0.length : Int)), (9, .int .i64 x1), (37, .bool (decide (0 ≤ r2)))] rfl ?_
            refine J.cond rfl (fun c5 => ?_) (fun c5 => ?_)
            · replace H := ite_t c5 H
              refine J.seq ?_
              refine J.region ?_
              refine RJ.run ttok 1 rfl ?_
              refine RJ.fin [(4, .bool false)] rfl ?_
              refine J.ret ?_
              obtain rfl := Option.some.inj H
              exact ⟨_, _, _, (results_slots rfl), ⟨rfl, rfl⟩, h4.only [] rfl⟩
            · replace H := ite_f c5 H
              refine J.skip ?_
              refine J.region ?_
              refine RJ.run ttok 2 rfl ?_
              refine RJ.fin [(0, .slice A1 a0.length c_1), (3, .pointer (some ⟨b1, 0, none⟩)), (7, .slice A1 a0.length c_1), (8, .int .i64 (a0.length : Int)), (9, .int .i64 (w64 (x1 + 1)))] rfl ?_
              have h5 := ((h4.only [0] rfl).rds [0] rfl)
              exact ⟨k1, by omega, (w64 (x1 + 1)), rfl, h5, H⟩
          · replace H := ite_f c4 H
            refine RJ.know (t := 27) rfl (congrArg Value.bool c4) ?_
            refine RJ.run ttok 10 rfl ?_
            refine RJ.fin [(0, .slice A1 a0.length c_1), (3, .pointer (some ⟨b1, 0, none⟩)), (7, .slice A1 a0.length c_1), (8, .int .i64 (a0.length : Int)), (9, .int .i64 x1), (37, .bool false)] rfl ?_
            refine J.condF rfl ?_
            refine J.skip ?_
            refine J.region ?_
            refine RJ.run ttok 2 rfl ?_
            refine RJ.fin [(0, .slice A1 a0.length c_1), (3, .pointer (some ⟨b1, 0, none⟩)), (7, .slice A1 a0.length c_1), (8, .int .i64 (a0.length : Int)), (9, .int .i64 (w64 (x1 + 1)))] rfl ?_
            have h6 := ((h3.only [0] rfl).rds [0] rfl)
            exact ⟨k1, by omega, (w64 (x1 + 1)), rfl, h6, H⟩
    · replace H := ite_f c1 H
      refine J.exit ?_
      refine J.seq ?_
      refine J.region ?_
      refine RJ.run ttok 1 rfl ?_
      refine RJ.fin [(4, .bool true)] rfl ?_
      refine J.ret ?_
      obtain rfl := Option.some.inj H
      exact ⟨_, _, _, (results_slots rfl), ⟨rfl, rfl⟩, h2.only [] rfl⟩

/-! sluicegate/sluicegatelaw12.awake -/
def sluicegatelaw12_awake.f (k : Nat)  : Option (Bool) := (fan_Way.f k ([([98] : List UInt8), ([100] : List UInt8)] : List (List UInt8)) ([97] : List UInt8)).bind fun r1 => (if (decide (r1 = 0)) = true then ((fan_Way.f k ([([98] : List UInt8), ([100] : List UInt8)] : List (List UInt8)) ([98] : List UInt8)).bind fun r2 => (if (decide (r2 = 1)) = true then ((fan_Way.f k ([([98] : List UInt8), ([100] : List UInt8)] : List (List UInt8)) ([99] : List UInt8)).bind fun r3 => (if (decide (r3 = 1)) = true then ((fan_Way.f k ([([98] : List UInt8), ([100] : List UInt8)] : List (List UInt8)) ([100] : List UInt8)).bind fun r4 => (if (decide (r4 = 2)) = true then ((fan_Right.f k ([([98] : List UInt8), ([100] : List UInt8)] : List (List UInt8)) (([] : List UInt8), ([] : List UInt8), true)).bind fun r5 => (if r5 = true then ((fan_Right.f k ([([98] : List UInt8), ([100] : List UInt8)] : List (List UInt8)) (([98] : List UInt8), ([] : List UInt8), true)).bind fun r6 => (some (!r6))) else (some false))) else (some false))) else (some false))) else (some false))) else (some false))
set_option maxRecDepth 20000 in
theorem sluicegatelaw12_awake.spec {k : Nat}   {r : Bool} (H : sluicegatelaw12_awake.f k  = some r) :
    Spec Try.prog 35 [] [] [] (fun v l => v = .bool r ∧ l = []) := by
  refine Spec.enter Try.func35 rfl (by kernel_rfl) (by kernel_rfl) fun w0 F0 h0 => ?_
  unfold sluicegatelaw12_awake.f at H
  refine J.seq ?_
  refine J.region ?_
  refine RJ.run ttok 1 rfl ?_
  refine RJ.fin [] rfl ?_
  refine J.seq ?_
  refine J.region ?_
  refine RJ.op rfl rfl (op_lit ttok .str rfl ([([98] : List UInt8), ([100] : List UInt8)] : List (List UInt8)) rfl h0 rfl rfl (by decide) rfl rfl rfl rfl rfl rfl rfl) ?_
  rintro _ w1 ⟨b1, rfl, h1⟩
  refine RJ.run ttok 1 rfl ?_
  refine RJ.fin [(1, .slice (some ⟨b1, 0, none⟩) ([([98] : List UInt8), ([100] : List UInt8)] : List (List UInt8)).length 2)] rfl ?_
  refine J.seq ?_
  refine J.region ?_
  refine RJ.run ttok 1 rfl ?_
  obtain ⟨r1, q1, H⟩ := bind_t H
  refine RJ.op rfl rfl (op_call [] (fan_Way.spec q1) rfl rfl rfl h1 rfl (gcons (Gives.of 0 rfl own_rd) gnil)) ?_
  rintro _ w2 ⟨_, ⟨rfl, rfl⟩, h2⟩
  refine RJ.run ttok 2 rfl ?_
  rcases Bool.eq_false_or_eq_true (decide (r1 = 0)) with c1 | c1
  · replace H := ite_t c1 H
    refine RJ.know (t := 6) rfl (congrArg Value.bool c1) ?_
    refine RJ.run ttok 1 rfl ?_
    obtain ⟨r2, q2, H⟩ := bind_t H
    refine RJ.op rfl rfl (op_call [] (fan_Way.spec q2) rfl rfl rfl h2 rfl (gcons (Gives.of 0 rfl own_rd) gnil)) ?_
    rintro _ w3 ⟨_, ⟨rfl, rfl⟩, h3⟩
    refine RJ.run ttok 3 rfl ?_
    rcases Bool.eq_false_or_eq_true (decide (r2 = 1)) with c2 | c2
    · replace H := ite_t c2 H
      refine RJ.know (t := 11) rfl (congrArg Value.bool c2) ?_
      refine RJ.run ttok 1 rfl ?_
      obtain ⟨r3, q3, H⟩ := bind_t H
      refine RJ.op rfl rfl (op_call [] (fan_Way.spec q3) rfl rfl rfl h3 rfl (gcons (Gives.of 0 rfl own_rd) gnil)) ?_
      rintro _ w4 ⟨_, ⟨rfl, rfl⟩, h4⟩
      refine RJ.run ttok 3 rfl ?_
      rcases Bool.eq_false_or_eq_true (decide (r3 = 1)) with c3 | c3
      · replace H := ite_t c3 H
        refine RJ.know (t := 16) rfl (congrArg Value.bool c3) ?_
        refine RJ.run ttok 1 rfl ?_
        obtain ⟨r4, q4, H⟩ := bind_t H
        refine RJ.op rfl rfl (op_call [] (fan_Way.spec q4) rfl rfl rfl h4 rfl (gcons (Gives.of 0 rfl own_rd) gnil)) ?_
        rintro _ w5 ⟨_, ⟨rfl, rfl⟩, h5⟩
        refine RJ.run ttok 3 rfl ?_
        rcases Bool.eq_false_or_eq_true (decide (r4 = 2)) with c4 | c4
        · replace H := ite_t c4 H
          refine RJ.know (t := 21) rfl (congrArg Value.bool c4) ?_
          refine RJ.run ttok 2 rfl ?_
          obtain ⟨r5, q5, H⟩ := bind_t H
          refine RJ.op rfl rfl (op_call [] (fan_Right.spec q5) rfl rfl rfl h5 rfl (gcons (Gives.of 0 rfl own_rd) gnil)) ?_
          rintro _ w6 ⟨_, ⟨rfl, rfl⟩, h6⟩
          refine RJ.run ttok 2 rfl ?_
          rcases Bool.eq_false_or_eq_true r5 with c5 | c5
          · replace H := ite_t c5 H
            refine RJ.know (t := 26) rfl (congrArg Value.bool c5) ?_
            refine RJ.run ttok 2 rfl ?_
            obtain ⟨r6, q6, H⟩ := bind_t H
            refine RJ.op rfl rfl (op_call [] (fan_Right.spec q6) rfl rfl rfl h6 rfl (gcons (Gives.of 0 rfl own_rd) gnil)) ?_
            rintro _ w7 ⟨_, ⟨rfl, rfl⟩, h7⟩
            refine RJ.run ttok 3 rfl ?_
            refine RJ.fin [(0, .bool (!r6))] rfl ?_
            refine J.ret ?_
            obtain rfl := Option.some.inj H
            exact ⟨_, _, _, (results_slots rfl), ⟨rfl, rfl⟩, h7.only [] rfl⟩
          · replace H := ite_f c5 H
            refine RJ.know (t := 26) rfl (congrArg Value.bool c5) ?_
            refine RJ.run ttok 6 rfl ?_
            refine RJ.fin [(0, .bool false)] rfl ?_
            refine J.ret ?_
            obtain rfl := Option.some.inj H
            exact ⟨_, _, _, (results_slots rfl), ⟨rfl, rfl⟩, h6.only [] rfl⟩
        · replace H := ite_f c4 H
          refine RJ.know (t := 21) rfl (congrArg Value.bool c4) ?_
          refine RJ.run ttok 11 rfl ?_
          refine RJ.fin [(0, .bool false)] rfl ?_
          refine J.ret ?_
          obtain rfl := Option.some.inj H
          exact ⟨_, _, _, (results_slots rfl), ⟨rfl, rfl⟩, h5.only [] rfl⟩
      · replace H := ite_f c3 H
        refine RJ.know (t := 16) rfl (congrArg Value.bool c3) ?_
        refine RJ.run ttok 16 rfl ?_
        refine RJ.fin [(0, .bool false)] rfl ?_
        refine J.ret ?_
        obtain rfl := Option.some.inj H
        exact ⟨_, _, _, (results_slots rfl), ⟨rfl, rfl⟩, h4.only [] rfl⟩
    · replace H := ite_f c2 H
      refine RJ.know (t := 11) rfl (congrArg Value.bool c2) ?_
      refine RJ.run ttok 21 rfl ?_
      refine RJ.fin [(0, .bool false)] rfl ?_
      refine J.ret ?_
      obtain rfl := Option.some.inj H
      exact ⟨_, _, _, (results_slots rfl), ⟨rfl, rfl⟩, h3.only [] rfl⟩
  · replace H := ite_f c1 H
    refine RJ.know (t := 6) rfl (congrArg Value.bool c1) ?_
    refine RJ.run ttok 26 rfl ?_
    refine RJ.fin [(0, .bool false)] rfl ?_
    refine J.ret ?_
    obtain rfl := Option.some.inj H
    exact ⟨_, _, _, (results_slots rfl), ⟨rfl, rfl⟩, h2.only [] rfl⟩

/-! sluicegate/sluicegateref01.Compare -/
def sluicegateref01_Compare.l0 : Nat → (List UInt8) → (List UInt8) → (Int) → Option (Int)
  | 0, _, _, _ => none
  | k + 1, a0, a1, x1 => if (decide (x1 < (a0.length : Int))) = true then (if (decide (x1 < (a1.length : Int))) = true then (if 0 ≤ x1 ∧ x1 < (a0.length : Int) then (if 0 ≤ x1 ∧ x1 < (a1.length : Int) then (if (decide ((gtb a0 x1) < (gtb a1 x1))) = true then (some (-1)) else (if (decide ((gtb a1 x1) < (gtb a0 x1))) = true then (some 1) else (sluicegateref01_Compare.l0 k a0 a1 (w64 (x1 + 1))))) else none) else none) else (if (decide ((a0.length : Int) < (a1.length : Int))) = true then (some (-1)) else (if (decide ((a1.length : Int) < (a0.length : Int))) = true then (some 1) else (some 0)))) else (if (decide ((a0.length : Int) < (a1.length : Int))) = true then (some (-1)) else (if (decide ((a1.length : Int) < (a0.length : Int))) = true then (some 1) else (some 0)))
def sluicegateref01_Compare.f (k : Nat) (a0 : List UInt8) (a1 : List UInt8) : Option (Int) := sluicegateref01_Compare.l0 k a0 a1 0
set_option maxRecDepth 20000 in
theorem sluicegateref01_Compare.spec {k : Nat} {a0 : List UInt8} {a1 : List UInt8}  {r : Int} (H : sluicegateref01_Compare.f k a0 a1 = some r) :
    Spec Try.prog 21 [.string ⟨⟨a0⟩⟩, .string ⟨⟨a1⟩⟩] [] [] (fun v l => v = .int .i64 r ∧ l = []) := by
  refine Spec.enter Try.func21 rfl (by kernel_rfl) (by kernel_rfl) fun w0 F0 h0 => ?_
  unfold sluicegateref01_Compare.f at H
  refine J.seq ?_
  refine J.region ?_
  refine RJ.run ttok 1 rfl ?_
  refine RJ.fin [(0, .string ⟨⟨a0⟩⟩), (1, .string ⟨⟨a1⟩⟩)] rfl ?_
  refine J.seq ?_
  refine J.seq ?_
  refine J.region ?_
  refine RJ.run ttok 1 rfl ?_
  refine RJ.fin [(0, .string ⟨⟨a0⟩⟩), (1, .string ⟨⟨a1⟩⟩), (5, .int .i64 0)] rfl ?_
  refine J.block ?_
  have h5 := ((h0.only [] rfl).rds [] rfl)
  refine J.loop (fun k env w => ∃ (x1 : Int), env = [(0, .string ⟨⟨a0⟩⟩), (1, .string ⟨⟨a1⟩⟩), (5, .int .i64 x1)] ∧ St w0 F0 [] [] w ∧ sluicegateref01_Compare.l0 k a0 a1 x1 = some r) (k := k) ⟨0, rfl, h5, H⟩ ?_
  rintro k1 env w1 ⟨x1, rfl, h1, H⟩
  cases k1 with
  | zero => exact nomatch (show none = some r from H)
  | succ k1 =>
    rw [sluicegateref01_Compare.l0] at H
    refine J.seq ?_
    refine J.seq ?_
    refine J.region ?_
    refine RJ.run ttok 5 rfl ?_
    rcases Bool.eq_false_or_eq_true (decide (x1 < (a0.length : Int))) with c1 | c1
    · replace H := ite_t c1 H
      refine RJ.know (t := 10) rfl (congrArg Value.bool c1) ?_
      refine RJ.run ttok 5 rfl ?_
      refine RJ.fin [(0, .string ⟨⟨a0⟩⟩), (1, .string ⟨⟨a1⟩⟩), (5, .int .i64 x1), (15, .bool (decide (x1 < (a1.length : Int))))] rfl ?_
      refine J.cond rfl (fun c2 => ?_) (fun c2 => ?_)
      · replace H := ite_t c2 H
        refine J.skip ?_
        refine J.seq ?_
        refine J.block ?_
        refine J.seq ?_
        refine J.seq ?_
        refine J.heldSt mix h1 ?_
        have h2 := h1.drew
        refine HJ.run ttok rfl [0, 1, 3, 4] rfl ?_
        obtain ⟨⟨p1, p2⟩, H⟩ := guard_t H
        refine HJ.q (i := 2) rfl rfl rfl rfl rfl rfl (q_byte ttok rfl rfl rfl rfl p1 p2) ?_
        obtain ⟨⟨p3, p4⟩, H⟩ := guard_t H
        refine HJ.q (i := 5) rfl rfl rfl rfl rfl rfl (q_byte ttok rfl rfl rfl rfl p3 p4) ?_
        refine HJ.run ttok rfl [6] rfl ?_
        refine HJ.fin [(0, .string ⟨⟨a0⟩⟩), (1, .string ⟨⟨a1⟩⟩), (5, .int .i64 x1), (24, .bool (decide ((gtb a0 x1) < (gtb a1 x1))))] rfl rfl ?_
        refine J.cond rfl (fun c3 => ?_) (fun c3 => ?_)
        · replace H := ite_t c3 H
          refine J.seq ?_
          refine J.region ?_
          refine RJ.run ttok 1 rfl ?_
          refine RJ.fin [(4, .int .i64 (-1))] rfl ?_
          refine J.ret ?_
          obtain rfl := Option.some.inj H
          exact ⟨_, _, _, (results_slots rfl), ⟨rfl, rfl⟩, h2.only [] rfl⟩
        · replace H := ite_f c3 H
          refine J.skip ?_
          refine J.seq ?_
          refine J.heldSt mix h2 ?_
          have h3 := h2.drew
          refine HJ.run ttok rfl [0, 1, 3, 4] rfl ?_
          refine HJ.q (i := 2) rfl rfl rfl rfl rfl rfl (q_byte ttok rfl rfl rfl rfl p1 p2) ?_
          refine HJ.q (i := 5) rfl rfl rfl rfl rfl rfl (q_byte ttok rfl rfl rfl rfl p3 p4) ?_
          refine HJ.run ttok rfl [6] rfl ?_
          refine HJ.fin [(0, .string ⟨⟨a0⟩⟩), (1, .string ⟨⟨a1⟩⟩), (5, .int .i64 x1), (31, .bool (decide ((gtb a1 x1) < (gtb a0 x1))))] rfl rfl ?_
          refine J.cond rfl (fun c4 => ?_) (fun c4 => ?_)
          · replace H := ite_t c4 H
            refine J.seq ?_
            refine J.region ?_
            refine RJ.run ttok 1 rfl ?_
            refine RJ.fin [(4, .int .i64 1)] rfl ?_
            refine J.ret ?_
            obtain rfl := Option.some.inj H
            exact ⟨_, _, _, (results_slots rfl), ⟨rfl, rfl⟩, h3.only [] rfl⟩
          · replace H := ite_f c4 H
            refine J.skip ?_
            refine J.region ?_
            refine RJ.run ttok 3 rfl ?_
            refine RJ.fin [(0, .string ⟨⟨a0⟩⟩), (1, .string ⟨⟨a1⟩⟩), (5, .int .i64 (w64 (x1 + 1)))] rfl ?_
            have h4 := ((h3.only [] rfl).rds [] rfl)
            exact ⟨k1, by omega, (w64 (x1 + 1)), rfl, h4, H⟩
      · replace H := ite_f c2 H
        refine J.exit ?_
        refine J.seq ?_
        refine J.seq ?_
        refine J.region ?_
        refine RJ.run ttok 5 rfl ?_
        refine RJ.fin [(0, .string ⟨⟨a0⟩⟩), (1, .string ⟨⟨a1⟩⟩), (36, .bool (decide ((a0.length : Int) < (a1.length : Int))))] rfl ?_
        refine J.cond rfl (fun c5 => ?_) (fun c5 => ?_)
        · replace H := ite_t c5 H
          refine J.seq ?_
          refine J.region ?_
          refine RJ.run ttok 1 rfl ?_
          refine RJ.fin [(4, .int .i64 (-1))] rfl ?_
          refine J.ret ?_
          obtain rfl := Option.some.inj H
          exact ⟨_, _, _, (results_slots rfl), ⟨rfl, rfl⟩, h1.only [] rfl⟩
        · replace H := ite_f c5 H
          refine J.skip ?_
          refine J.seq ?_
          refine J.seq ?_
          refine J.region ?_
          refine RJ.run ttok 5 rfl ?_
          refine RJ.fin [(41, .bool (decide ((a1.length : Int) < (a0.length : Int))))] rfl ?_
          refine J.cond rfl (fun c6 => ?_) (fun c6 => ?_)
          · replace H := ite_t c6 H
            refine J.seq ?_
            refine J.region ?_
            refine RJ.run ttok 1 rfl ?_
            refine RJ.fin [(4, .int .i64 1)] rfl ?_
            refine J.ret ?_
            obtain rfl := Option.some.inj H
            exact ⟨_, _, _, (results_slots rfl), ⟨rfl, rfl⟩, h1.only [] rfl⟩
          · replace H := ite_f c6 H
            refine J.skip ?_
            refine J.seq ?_
            refine J.region ?_
            refine RJ.run ttok 1 rfl ?_
            refine RJ.fin [(4, .int .i64 0)] rfl ?_
            refine J.ret ?_
            obtain rfl := Option.some.inj H
            exact ⟨_, _, _, (results_slots rfl), ⟨rfl, rfl⟩, h1.only [] rfl⟩
    · replace H := ite_f c1 H
      refine RJ.know (t := 10) rfl (congrArg Value.bool c1) ?_
      refine RJ.run ttok 5 rfl ?_
      refine RJ.fin [(0, .string ⟨⟨a0⟩⟩), (1, .string ⟨⟨a1⟩⟩), (5, .int .i64 x1), (15, .bool false)] rfl ?_
      refine J.condF rfl ?_
      refine J.exit ?_
      refine J.seq ?_
      refine J.seq ?_
      refine J.region ?_
      refine RJ.run ttok 5 rfl ?_
      refine RJ.fin [(0, .string ⟨⟨a0⟩⟩), (1, .string ⟨⟨a1⟩⟩), (36, .bool (decide ((a0.length : Int) < (a1.length : Int))))] rfl ?_
      refine J.cond rfl (fun c7 => ?_) (fun c7 => ?_)
      · replace H := ite_t c7 H
        refine J.seq ?_
        refine J.region ?_
        refine RJ.run ttok 1 rfl ?_
        refine RJ.fin [(4, .int .i64 (-1))] rfl ?_
        refine J.ret ?_
        obtain rfl := Option.some.inj H
        exact ⟨_, _, _, (results_slots rfl), ⟨rfl, rfl⟩, h1.only [] rfl⟩
      · replace H := ite_f c7 H
        refine J.skip ?_
        refine J.seq ?_
        refine J.seq ?_
        refine J.region ?_
        refine RJ.run ttok 5 rfl ?_
        refine RJ.fin [(41, .bool (decide ((a1.length : Int) < (a0.length : Int))))] rfl ?_
        refine J.cond rfl (fun c8 => ?_) (fun c8 => ?_)
        · replace H := ite_t c8 H
          refine J.seq ?_
          refine J.region ?_
          refine RJ.run ttok 1 rfl ?_
          refine RJ.fin [(4, .int .i64 1)] rfl ?_
          refine J.ret ?_
          obtain rfl := Option.some.inj H
          exact ⟨_, _, _, (results_slots rfl), ⟨rfl, rfl⟩, h1.only [] rfl⟩
        · replace H := ite_f c8 H
          refine J.skip ?_
          refine J.seq ?_
          refine J.region ?_
          refine RJ.run ttok 1 rfl ?_
          refine RJ.fin [(4, .int .i64 0)] rfl ?_
          refine J.ret ?_
          obtain rfl := Option.some.inj H
          exact ⟨_, _, _, (results_slots rfl), ⟨rfl, rfl⟩, h1.only [] rfl⟩

/-! sluicegate/sluicegateref01.In -/
def sluicegateref01_In.f (k : Nat) (a0 : List UInt8 × List UInt8 × Bool) (a1 : List UInt8) : Option (Bool) := (sluicegateref01_Compare.f k a0.1 a1).bind fun r1 => (if (decide (r1 ≤ 0)) = true then (if a0.2.2 = true then (some true) else ((sluicegateref01_Compare.f k a1 a0.2.1).bind fun r2 => (some (decide (r2 < 0))))) else (some false))
set_option maxRecDepth 20000 in
theorem sluicegateref01_In.spec {k : Nat} {a0 : List UInt8 × List UInt8 × Bool} {a1 : List UInt8}  {r : Bool} (H : sluicegateref01_In.f k a0 a1 = some r) :
    Spec Try.prog 16 [.agg #[.string ⟨⟨a0.1⟩⟩, .string ⟨⟨a0.2.1⟩⟩, .bool a0.2.2], .string ⟨⟨a1⟩⟩] [] [] (fun v l => v = .bool r ∧ l = []) := by
  refine Spec.enter Try.func16 rfl (by kernel_rfl) (by kernel_rfl) fun w0 F0 h0 => ?_
  unfold sluicegateref01_In.f at H
  refine J.seq ?_
  refine J.region ?_
  refine RJ.op rfl rfl (op_box rfl rfl h0) ?_
  rintro _ w1 ⟨b1, rfl, h1⟩
  refine RJ.run ttok 1 rfl ?_
  refine RJ.fin [(1, .string ⟨⟨a1⟩⟩), (2, .pointer (some ⟨b1, 0, none⟩))] rfl ?_
  refine J.seq ?_
  refine J.region ?_
  refine RJ.run ttok 1 rfl ?_
  refine RJ.q rfl rfl (q_load_box ttok 0 (fun w e => e ▸ h1.wh) rfl rfl rfl rfl rfl) ?_
  refine RJ.run ttok 1 rfl ?_
  obtain ⟨r1, q1, H⟩ := bind_t H
  refine RJ.op rfl rfl (op_call [] (sluicegateref01_Compare.spec q1) rfl rfl rfl h1 rfl gnil) ?_
  rintro _ w2 ⟨_, ⟨rfl, rfl⟩, h2⟩
  refine RJ.run ttok 2 rfl ?_
  rcases Bool.eq_false_or_eq_true (decide (r1 ≤ 0)) with c1 | c1
  · replace H := ite_t c1 H
    refine RJ.know (t := 10) rfl (congrArg Value.bool c1) ?_
    refine RJ.run ttok 1 rfl ?_
    refine RJ.q rfl rfl (q_load_box ttok 0 (fun w e => e ▸ h2.wh) rfl rfl rfl rfl rfl) ?_
    refine RJ.run ttok 1 rfl ?_
    rcases Bool.eq_false_or_eq_true a0.2.2 with c2 | c2
    · replace H := ite_t c2 H
      refine RJ.know (t := 13) rfl (congrArg Value.bool c2) ?_
      refine RJ.run ttok 8 rfl ?_
      refine RJ.fin [(4, .bool true)] rfl ?_
      refine J.ret ?_
      obtain rfl := Option.some.inj H
      exact ⟨_, _, _, (results_slots rfl), ⟨rfl, rfl⟩, h2.only [] rfl⟩
    · replace H := ite_f c2 H
      refine RJ.know (t := 13) rfl (congrArg Value.bool c2) ?_
      refine RJ.run ttok 2 rfl ?_
      refine RJ.q rfl rfl (q_load_box ttok 0 (fun w e => e ▸ h2.wh) rfl rfl rfl rfl rfl) ?_
      obtain ⟨r2, q2, H⟩ := bind_t H
      refine RJ.op rfl rfl (op_call [] (sluicegateref01_Compare.spec q2) rfl rfl rfl h2 rfl gnil) ?_
      rintro _ w3 ⟨_, ⟨rfl, rfl⟩, h3⟩
      refine RJ.run ttok 4 rfl ?_
      refine RJ.fin [(4, .bool (decide (r2 < 0)))] rfl ?_
      refine J.ret ?_
      obtain rfl := Option.some.inj H
      exact ⟨_, _, _, (results_slots rfl), ⟨rfl, rfl⟩, h3.only [] rfl⟩
  · replace H := ite_f c1 H
    refine RJ.know (t := 10) rfl (congrArg Value.bool c1) ?_
    refine RJ.run ttok 11 rfl ?_
    refine RJ.fin [(4, .bool false)] rfl ?_
    refine J.ret ?_
    obtain rfl := Option.some.inj H
    exact ⟨_, _, _, (results_slots rfl), ⟨rfl, rfl⟩, h2.only [] rfl⟩

/-! sluicegate/sluicegateref12.Rise -/
def sluicegateref12_Rise.l0 : Nat → (List (List UInt8)) → (Int) → Option (Bool)
  | 0, _, _ => none
  | k + 1, a0, x1 => if (decide (x1 < (a0.length : Int))) = true then (if 0 ≤ (w64 (x1 - 1)) ∧ (w64 (x1 - 1)) < (a0.length : Int) then (if 0 ≤ x1 ∧ x1 < (a0.length : Int) then ((sluicegateref01_Compare.f k (gt a0 (w64 (x1 - 1))) (gt a0 x1)).bind fun r1 => (if (decide (0 ≤ r1)) = true then (some false) else (sluicegateref12_Rise.l0 k a0 (w64 (x1 + 1))))) else none) else none) else (some true)
def sluicegateref12_Rise.f (k : Nat) (a0 : List (List UInt8)) : Option (Bool) := sluicegateref12_Rise.l0 k a0 1
set_option maxRecDepth 20000 in
theorem sluicegateref12_Rise.spec {k : Nat} {a0 : List (List UInt8)} {A1 : Option Addr} {c_1 : Nat} {r : Bool} (H : sluicegateref12_Rise.f k a0 = some r) :
    Spec Try.prog 38 [.slice A1 a0.length c_1] [] [rdC 9 .str a0 (.slice A1 a0.length c_1)] (fun v l => v = .bool r ∧ l = []) := by
  refine Spec.enter Try.func38 rfl (by kernel_rfl) (by kernel_rfl) fun w0 F0 h0 => ?_
  unfold sluicegateref12_Rise.f at H
  refine J.seq ?_
  refine J.region ?_
  refine RJ.run ttok 1 rfl ?_
  refine RJ.fin [(0, .slice A1 a0.length c_1)] rfl ?_
  refine J.seq ?_
  refine J.seq ?_
  refine J.region ?_
  refine RJ.run ttok 1 rfl ?_
  refine RJ.fin [(0, .slice A1 a0.length c_1), (3, .int .i64 1)] rfl ?_
  refine J.block ?_
  have h5 := ((h0.only [] rfl).rds [0] rfl)
  refine J.loop (fun k env w => ∃ (x1 : Int), env = [(0, .slice A1 a0.length c_1), (3, .int .i64 x1)] ∧ St w0 F0 [] [rdC 9 .str a0 (.slice A1 a0.length c_1)] w ∧ sluicegateref12_Rise.l0 k a0 x1 = some r) (k := k) ⟨1, rfl, h5, H⟩ ?_
  rintro k1 env w1 ⟨x1, rfl, h1, H⟩
  cases k1 with
  | zero => exact nomatch (show none = some r from H)
  | succ k1 =>
    rw [sluicegateref12_Rise.l0] at H
    refine J.seq ?_
    refine J.seq ?_
    refine J.region ?_
    refine RJ.run ttok 4 rfl ?_
    refine RJ.fin [(0, .slice A1 a0.length c_1), (3, .int .i64 x1), (7, .bool (decide (x1 < (a0.length : Int))))] rfl ?_
    refine J.cond rfl (fun c1 => ?_) (fun c1 => ?_)
    · replace H := ite_t c1 H
      refine J.skip ?_
      refine J.seq ?_
      refine J.block ?_
      refine J.seq ?_
      refine J.heldSt mix h1 ?_
      have h2 := h1.drew
      refine HJ.run ttok rfl [0, 1, 2, 5, 6] rfl ?_
      obtain ⟨⟨p1, p2⟩, H⟩ := guard_t H
      have e1 := elem_A h2.wh (Gives.self 0 rfl) p1 p2
      refine HJ.q (i := 3) rfl rfl rfl rfl rfl rfl (q_index ttok rfl rfl rfl rfl rfl e1 p1 p2) ?_
      refine HJ.q (i := 4) rfl rfl rfl rfl rfl rfl (q_load_elem (f := 0) ttok rfl (fun w e => e) (Gives.self 0 rfl) p1 p2 rfl rfl rfl rfl rfl) ?_
      obtain ⟨⟨p3, p4⟩, H⟩ := guard_t H
      refine HJ.q (i := 7) rfl rfl rfl rfl rfl rfl (q_index ttok rfl rfl rfl rfl rfl e1 p3 p4) ?_
      refine HJ.q (i := 8) rfl rfl rfl rfl rfl rfl (q_load_elem (f := 0) ttok rfl (fun w e => e) (Gives.self 0 rfl) p3 p4 rfl rfl rfl rfl rfl) ?_
      obtain ⟨r1, q1, H⟩ := bind_t H
      refine HJ.op (i := 9) rfl rfl rfl rfl rfl (op_call [] (sluicegateref01_Compare.spec q1) rfl rfl rfl h2 rfl gnil) ?_
      rintro _ w2 ⟨_, ⟨rfl, rfl⟩, h3⟩
      refine ⟨⟨[], h3⟩, ?_⟩
      refine HJ.run ttok rfl [10] rfl ?_
      refine HJ.fin [(0, .slice A1 a0.length c_1), (3, .int .i64 x1), (20, .bool (decide (0 ≤ r1)))] rfl rfl ?_
      refine J.cond rfl (fun c2 => ?_) (fun c2 => ?_)
      · replace H := ite_t c2 H
        refine J.seq ?_
        refine J.region ?_
        refine RJ.run ttok 1 rfl ?_
        refine RJ.fin [(2, .bool false)] rfl ?_
        refine J.ret ?_
        obtain rfl := Option.some.inj H
        exact ⟨_, _, _, (results_slots rfl), ⟨rfl, rfl⟩, h3.only [] rfl⟩
      · replace H := ite_f c2 H
        refine J.skip ?_
        refine J.region ?_
        refine RJ.run ttok 3 rfl ?_
        refine RJ.fin [(0, .slice A1 a0.length c_1), (3, .int .i64 (w64 (x1 + 1)))] rfl ?_
        have h4 := ((h3.only [] rfl).rds [0] rfl)
        exact ⟨k1, by omega, (w64 (x1 + 1)), rfl, h4, H⟩
    · replace H := ite_f c1 H
      refine J.exit ?_
      refine J.seq ?_
      refine J.region ?_
      refine RJ.run ttok 1 rfl ?_
      refine RJ.fin [(2, .bool true)] rfl ?_
      refine J.ret ?_
      obtain rfl := Option.some.inj H
      exact ⟨_, _, _, (results_slots rfl), ⟨rfl, rfl⟩, h1.only [] rfl⟩

/-! sluicegate/sluicegateref12.Right -/
def sluicegateref12_Right.l0 : Nat → (List (List UInt8)) → (List UInt8 × List UInt8 × Bool) → (Int) → Option (Bool)
  | 0, _, _, _ => none
  | k + 1, a0, a1, x1 => if (decide (x1 < (a0.length : Int))) = true then (if 0 ≤ x1 ∧ x1 < (a0.length : Int) then ((sluicegateref01_In.f k (a1.1, a1.2.1, a1.2.2) (gt a0 x1)).bind fun r1 => (if (!r1) = true then (some false) else (if (decide ((gt a0 x1) = a1.1)) = true then (some false) else (sluicegateref12_Right.l0 k a0 a1 (w64 (x1 + 1)))))) else none) else ((sluicegateref12_Rise.f k a0).bind fun r2 => (some r2))
def sluicegateref12_Right.f (k : Nat) (a0 : List (List UInt8)) (a1 : List UInt8 × List UInt8 × Bool) : Option (Bool) := sluicegateref12_Right.l0 k a0 a1 0
set_option maxRecDepth 20000 in
theorem sluicegateref12_Right.spec {k : Nat} {a0 : List (List UInt8)} {a1 : List UInt8 × List UInt8 × Bool} {A1 : Option Addr} {c_1 : Nat} {r : Bool} (H : sluicegateref12_Right.f k a0 a1 = some r) :
    Spec Try.prog 37 [.slice A1 a0.length c_1, .agg #[.string ⟨⟨a1.1⟩⟩, .string ⟨⟨a1.2.1⟩⟩, .bool a1.2.2]] [] [rdC 9 .str a0 (.slice A1 a0.length c_1)] (fun v l => v = .bool r ∧ l = []) := by
  refine Spec.enter Try.func37 rfl (by kernel_rfl) (by kernel_rfl) fun w0 F0 h0 => ?_
  unfold sluicegateref12_Right.f at H
  refine J.seq ?_
  refine J.region ?_
  refine RJ.op rfl rfl (op_box rfl rfl h0) ?_
  rintro _ w1 ⟨b1, rfl, h1⟩
  refine RJ.run ttok 1 rfl ?_
  refine RJ.fin [(0, .slice A1 a0.length c_1), (3, .pointer (some ⟨b1, 0, none⟩))] rfl ?_
  refine J.seq ?_
  refine J.seq ?_
  refine J.region ?_
  refine RJ.run ttok 1 rfl ?_
  refine RJ.fin [(0, .slice A1 a0.length c_1), (3, .pointer (some ⟨b1, 0, none⟩)), (5, .int .i64 0)] rfl ?_
  refine J.block ?_
  have h7 := ((h1.only [0] rfl).rds [0] rfl)
  refine J.loop (fun k env w => ∃ (x1 : Int), env = [(0, .slice A1 a0.length c_1), (3, .pointer (some ⟨b1, 0, none⟩)), (5, .int .i64 x1)] ∧ St w0 F0 [boxC b1 23 [.string ⟨⟨a1.1⟩⟩, .string ⟨⟨a1.2.1⟩⟩, .bool a1.2.2]] [rdC 9 .str a0 (.slice A1 a0.length c_1)] w ∧ sluicegateref12_Right.l0 k a0 a1 x1 = some r) (k := k) ⟨0, rfl, h7, H⟩ ?_
  rintro k1 env w2 ⟨x1, rfl, h2, H⟩
  cases k1 with
  | zero => exact nomatch (show none = some r from H)
  | succ k1 =>
    rw [sluicegateref12_Right.l0] at H
    refine J.seq ?_
    refine J.seq ?_
    refine J.region ?_
    refine RJ.run ttok 4 rfl ?_
    refine RJ.fin [(0, .slice A1 a0.length c_1), (3, .pointer (some ⟨b1, 0, none⟩)), (5, .int .i64 x1), (9, .bool (decide (x1 < (a0.length : Int))))] rfl ?_
    refine J.cond rfl (fun c1 => ?_) (fun c1 => ?_)
    · replace H := ite_t c1 H
      refine J.skip ?_
      refine J.seq ?_
      refine J.block ?_
      refine J.seq ?_
      refine J.heldSt mix h2 ?_
      have h3 := h2.drew
      refine HJ.run ttok rfl [1, 2] rfl ?_
      refine HJ.q (i := 0) rfl rfl rfl rfl rfl rfl (q_load_box ttok 0 (fun w e => e) rfl rfl rfl rfl rfl) ?_
      obtain ⟨⟨p1, p2⟩, H⟩ := guard_t H
      have e1 := elem_A h3.wh (Gives.self 1 rfl) p1 p2
      refine HJ.q (i := 3) rfl rfl rfl rfl rfl rfl (q_index ttok rfl rfl rfl rfl rfl e1 p1 p2) ?_
      refine HJ.q (i := 4) rfl rfl rfl rfl rfl rfl (q_load_elem (f := 0) ttok rfl (fun w e => e) (Gives.self 1 rfl) p1 p2 rfl rfl rfl rfl rfl) ?_
      obtain ⟨r1, q1, H⟩ := bind_t H
      refine HJ.op (i := 5) rfl rfl rfl rfl rfl (op_call [] (sluicegateref01_In.spec q1) rfl rfl rfl h3 rfl gnil) ?_
      rintro _ w3 ⟨_, ⟨rfl, rfl⟩, h4⟩
      refine ⟨⟨[], h4⟩, ?_⟩
      refine HJ.run ttok rfl [6, 7] rfl ?_
      rcases Bool.eq_false_or_eq_true (!r1) with c2 | c2
      · replace H := ite_t c2 H
        refine HJ.know (t := 19) rfl (congrArg Value.bool c2) ?_
        refine HJ.run ttok rfl [8, 9, 10, 11, 12, 13, 14, 15] rfl ?_
        refine HJ.fin [(0, .slice A1 a0.length c_1), (3, .pointer (some ⟨b1, 0, none⟩)), (5, .int .i64 x1), (27, .bool true)] rfl rfl ?_
        refine J.condT rfl ?_
        refine J.seq ?_
        refine J.region ?_
        refine RJ.run ttok 1 rfl ?_
        refine RJ.fin [(4, .bool false)] rfl ?_
        refine J.ret ?_
        obtain rfl := Option.some.inj H
        exact ⟨_, _, _, (results_slots rfl), ⟨rfl, rfl⟩, h4.only [] rfl⟩
      · replace H := ite_f c2 H
        refine HJ.know (t := 19) rfl (congrArg Value.bool c2) ?_
        refine HJ.run ttok rfl [8, 9, 12] rfl ?_
        refine HJ.q (i := 10) rfl rfl rfl rfl rfl rfl (q_index ttok rfl rfl rfl rfl rfl e1 p1 p2) ?_
        refine HJ.q (i := 11) rfl rfl rfl rfl rfl rfl (q_load_elem (f := 0) ttok rfl (fun w e => e) (Gives.self 1 rfl) p1 p2 rfl rfl rfl rfl rfl) ?_
        refine HJ.q (i := 13) rfl rfl rfl rfl rfl rfl (q_load_box ttok 0 (fun w e => e) rfl rfl rfl rfl rfl) ?_
        refine HJ.run ttok rfl [14, 15] rfl ?_
        refine HJ.fin [(0, .slice A1 a0.length c_1), (3, .pointer (some ⟨b1, 0, none⟩)), (5, .int .i64 x1), (27, .bool (decide ((gt a0 x1) = a1.1)))] rfl rfl ?_
        refine J.cond rfl (fun c3 => ?_) (fun c3 => ?_)
        · replace H := ite_t c3 H
          refine J.seq ?_
          refine J.region ?_
          refine RJ.run ttok 1 rfl ?_
          refine RJ.fin [(4, .bool false)] rfl ?_
          refine J.ret ?_
          obtain rfl := Option.some.inj H
          exact ⟨_, _, _, (results_slots rfl), ⟨rfl, rfl⟩, h4.only [] rfl⟩
        · replace H := ite_f c3 H
          refine J.skip ?_
          refine J.region ?_
          refine RJ.run ttok 3 rfl ?_
          refine RJ.fin [(0, .slice A1 a0.length c_1), (3, .pointer (some ⟨b1, 0, none⟩)), (5, .int .i64 (w64 (x1 + 1)))] rfl ?_
          have h5 := ((h4.only [0] rfl).rds [0] rfl)
          exact ⟨k1, by omega, (w64 (x1 + 1)), rfl, h5, H⟩
    · replace H := ite_f c1 H
      refine J.exit ?_
      refine J.seq ?_
      refine J.region ?_
      refine RJ.run ttok 1 rfl ?_
      obtain ⟨r2, q2, H⟩ := bind_t H
      refine RJ.op rfl rfl (op_call [] (sluicegateref12_Rise.spec q2) rfl rfl rfl h2 rfl (gcons (Gives.self 1 rfl) gnil)) ?_
      rintro _ w4 ⟨_, ⟨rfl, rfl⟩, h6⟩
      refine RJ.run ttok 1 rfl ?_
      refine RJ.fin [(4, .bool r2)] rfl ?_
      refine J.ret ?_
      obtain rfl := Option.some.inj H
      exact ⟨_, _, _, (results_slots rfl), ⟨rfl, rfl⟩, h6.only [] rfl⟩

/-! sluicegate/lex.Empty -/
def lex_Empty.f (a0 : List UInt8 × List UInt8 × Bool) : Option (Bool) := if (!a0.2.2) = true then (some (Op.bytesLess a0.2.1 a0.1 || decide (a0.2.1 = a0.1))) else (some false)
set_option maxRecDepth 20000 in
theorem lex_Empty.spec {a0 : List UInt8 × List UInt8 × Bool}  {r : Bool} (H : lex_Empty.f a0 = some r) :
    Spec Try.prog 17 [.agg #[.string ⟨⟨a0.1⟩⟩, .string ⟨⟨a0.2.1⟩⟩, .bool a0.2.2]] [] [] (fun v l => v = .bool r ∧ l = []) := by
  refine Spec.enter Try.func17 rfl (by kernel_rfl) (by kernel_rfl) fun w0 F0 h0 => ?_
  unfold lex_Empty.f at H
  refine J.seq ?_
  refine J.region ?_
  refine RJ.op rfl rfl (op_box rfl rfl h0) ?_
  rintro _ w1 ⟨b1, rfl, h1⟩
  refine RJ.run ttok 1 rfl ?_
  refine RJ.fin [(1, .pointer (some ⟨b1, 0, none⟩))] rfl ?_
  refine J.seq ?_
  refine J.region ?_
  refine RJ.run ttok 1 rfl ?_
  refine RJ.q rfl rfl (q_load_box ttok 0 (fun w e => e ▸ h1.wh) rfl rfl rfl rfl rfl) ?_
  refine RJ.run ttok 2 rfl ?_
  rcases Bool.eq_false_or_eq_true (!a0.2.2) with c1 | c1
  · replace H := ite_t c1 H
    refine RJ.know (t := 6) rfl (congrArg Value.bool c1) ?_
    refine RJ.run ttok 1 rfl ?_
    refine RJ.q rfl rfl (q_load_box ttok 0 (fun w e => e ▸ h1.wh) rfl rfl rfl rfl rfl) ?_
    refine RJ.run ttok 1 rfl ?_
    refine RJ.q rfl rfl (q_load_box ttok 0 (fun w e => e ▸ h1.wh) rfl rfl rfl rfl rfl) ?_
    refine RJ.run ttok 3 rfl ?_
    refine RJ.fin [(2, .bool (Op.bytesLess a0.2.1 a0.1 || decide (a0.2.1 = a0.1)))] rfl ?_
    refine J.ret ?_
    obtain rfl := Option.some.inj H
    exact ⟨_, _, _, (results_slots rfl), ⟨rfl, rfl⟩, h1.only [] rfl⟩
  · replace H := ite_f c1 H
    refine RJ.know (t := 6) rfl (congrArg Value.bool c1) ?_
    refine RJ.run ttok 7 rfl ?_
    refine RJ.fin [(2, .bool false)] rfl ?_
    refine J.ret ?_
    obtain rfl := Option.some.inj H
    exact ⟨_, _, _, (results_slots rfl), ⟨rfl, rfl⟩, h1.only [] rfl⟩

/-! sluicegate/lex.Meet -/
def lex_Meet.f (a0 : List UInt8 × List UInt8 × Bool) (a1 : List UInt8 × List UInt8 × Bool) : Option ((List UInt8 × List UInt8 × Bool) × Bool) := if a0.2.2 = true then (if (!a1.2.2) = true then ((lex_Empty.f ((if (!Op.bytesLess a0.1 a1.1) = true then a0.1 else a1.1), a1.2.1, a1.2.2)).bind fun r1 => (if r1 = true then (some ((([] : List UInt8), ([] : List UInt8), false), false)) else (some (((if (!Op.bytesLess a0.1 a1.1) = true then a0.1 else a1.1), a1.2.1, a1.2.2), true)))) else (if a1.2.2 = true then (if (!a0.2.2) = true then ((lex_Empty.f ((if (!Op.bytesLess a0.1 a1.1) = true then a0.1 else a1.1), a0.2.1, a1.2.2)).bind fun r2 => (if r2 = true then (some ((([] : List UInt8), ([] : List UInt8), false), false)) else (some (((if (!Op.bytesLess a0.1 a1.1) = true then a0.1 else a1.1), a0.2.1, a1.2.2), true)))) else ((lex_Empty.f ((if (!Op.bytesLess a0.1 a1.1) = true then a0.1 else a1.1), ([] : List UInt8), a1.2.2)).bind fun r3 => (if r3 = true then (some ((([] : List UInt8), ([] : List UInt8), false), false)) else (some (((if (!Op.bytesLess a0.1 a1.1) = true then a0.1 else a1.1), ([] : List UInt8), a1.2.2), true))))) else (if (!a0.2.2) = true then ((lex_Empty.f ((if (!Op.bytesLess a0.1 a1.1) = true then a0.1 else a1.1), (if (Op.bytesLess a0.2.1 a1.2.1 || decide (a0.2.1 = a1.2.1)) = true then a0.2.1 else a1.2.1), a1.2.2)).bind fun r4 => (if r4 = true then (some ((([] : List UInt8), ([] : List UInt8), false), false)) else (some (((if (!Op.bytesLess a0.1 a1.1) = true then a0.1 else a1.1), (if (Op.bytesLess a0.2.1 a1.2.1 || decide (a0.2.1 = a1.2.1)) = true then a0.2.1 else a1.2.1), a1.2.2), true)))) else ((lex_Empty.f ((if (!Op.bytesLess a0.1 a1.1) = true then a0.1 else a1.1), ([] : List UInt8), a1.2.2)).bind fun r5 => (if r5 = true then (some ((([] : List UInt8), ([] : List UInt8), false), false)) else (some (((if (!Op.bytesLess a0.1 a1.1) = true then a0.1 else a1.1), ([] : List UInt8), a1.2.2), true))))))) else (if a1.2.2 = true then (if (!a0.2.2) = true then ((lex_Empty.f ((if (!Op.bytesLess a0.1 a1.1) = true then a0.1 else a1.1), a0.2.1, false)).bind fun r6 => (if r6 = true then (some ((([] : List UInt8), ([] : List UInt8), false), false)) else (some (((if (!Op.bytesLess a0.1 a1.1) = true then a0.1 else a1.1), a0.2.1, false), true)))) else ((lex_Empty.f ((if (!Op.bytesLess a0.1 a1.1) = true then a0.1 else a1.1), ([] : List UInt8), false)).bind fun r7 => (if r7 = true then (some ((([] : List UInt8), ([] : List UInt8), false), false)) else (some (((if (!Op.bytesLess a0.1 a1.1) = true then a0.1 else a1.1), ([] : List UInt8), false), true))))) else (if (!a0.2.2) = true then ((lex_Empty.f ((if (!Op.bytesLess a0.1 a1.1) = true then a0.1 else a1.1), (if (Op.bytesLess a0.2.1 a1.2.1 || decide (a0.2.1 = a1.2.1)) = true then a0.2.1 else a1.2.1), false)).bind fun r8 => (if r8 = true then (some ((([] : List UInt8), ([] : List UInt8), false), false)) else (some (((if (!Op.bytesLess a0.1 a1.1) = true then a0.1 else a1.1), (if (Op.bytesLess a0.2.1 a1.2.1 || decide (a0.2.1 = a1.2.1)) = true then a0.2.1 else a1.2.1), false), true)))) else ((lex_Empty.f ((if (!Op.bytesLess a0.1 a1.1) = true then a0.1 else a1.1), ([] : List UInt8), false)).bind fun r9 => (if r9 = true then (some ((([] : List UInt8), ([] : List UInt8), false), false)) else (some (((if (!Op.bytesLess a0.1 a1.1) = true then a0.1 else a1.1), ([] : List UInt8), false), true))))))
set_option maxRecDepth 20000 in
theorem lex_Meet.spec {a0 : List UInt8 × List UInt8 × Bool} {a1 : List UInt8 × List UInt8 × Bool}  {r : (List UInt8 × List UInt8 × Bool) × Bool} (H : lex_Meet.f a0 a1 = some r) :
    Spec Try.prog 20 [.agg #[.string ⟨⟨a0.1⟩⟩, .string ⟨⟨a0.2.1⟩⟩, .bool a0.2.2], .agg #[.string ⟨⟨a1.1⟩⟩, .string ⟨⟨a1.2.1⟩⟩, .bool a1.2.2]] [] [] (fun v l => v = .tuple #[.agg #[.string ⟨⟨r.1.1⟩⟩, .string ⟨⟨r.1.2.1⟩⟩, .bool r.1.2.2], .bool r.2] ∧ l = []) := by
  refine Spec.enter Try.func20 rfl (by kernel_rfl) (by kernel_rfl) fun w0 F0 h0 => ?_
  unfold lex_Meet.f at H
  refine J.seq ?_
  refine J.region ?_
  refine RJ.op rfl rfl (op_box rfl rfl h0) ?_
  rintro _ w1 ⟨b1, rfl, h1⟩
  refine RJ.op rfl rfl (op_box rfl rfl h1) ?_
  rintro _ w2 ⟨b2, rfl, h2⟩
  refine RJ.op rfl rfl (op_alloc ttok rfl rfl h2) ?_
  rintro _ w3 ⟨b3, rfl, h3⟩
  refine RJ.run ttok 1 rfl ?_
  refine RJ.fin [(2, .pointer (some ⟨b1, 0, none⟩)), (3, .pointer (some ⟨b2, 0, none⟩)), (4, .pointer (some ⟨b3, 0, none⟩))] rfl ?_
  refine J.seq ?_
  refine J.region ?_
  refine RJ.run ttok 1 rfl ?_
  refine RJ.q rfl rfl (q_load_box ttok 2 (fun w e => e ▸ h3.wh) rfl rfl rfl rfl rfl) ?_
  refine RJ.run ttok 1 rfl ?_
  refine RJ.q rfl rfl (q_load_box ttok 1 (fun w e => e ▸ h3.wh) rfl rfl rfl rfl rfl) ?_
  refine RJ.run ttok 2 rfl ?_
  refine RJ.q rfl rfl (q_load_box ttok 2 (fun w e => e ▸ h3.wh) rfl rfl rfl rfl rfl) ?_
  refine RJ.run ttok 1 rfl ?_
  rcases Bool.eq_false_or_eq_true a0.2.2 with c1 | c1
  · replace H := ite_t c1 H
    refine RJ.know (t := 14) rfl (congrArg Value.bool c1) ?_
    refine RJ.run ttok 1 rfl ?_
    refine RJ.q rfl rfl (q_load_box ttok 1 (fun w e => e ▸ h3.wh) rfl rfl rfl rfl rfl) ?_
    refine RJ.run ttok 2 rfl ?_
    refine RJ.op rfl rfl (op_alloc ttok rfl rfl h3) ?_
    rintro _ w4 ⟨b4, rfl, h4⟩
    refine RJ.op rfl rfl (op_store ttok 0 rfl h4 rfl rfl rfl rfl rfl rfl rfl) ?_
    intro _ w5 h5
    replace h5 : St w0 F0 (boxC b4 23 [.string ⟨⟨(if (!Op.bytesLess a0.1 a1.1) = true then a0.1 else a1.1)⟩⟩, .string ⟨⟨([] : List UInt8)⟩⟩, .bool a1.2.2] :: _) _ w5 := h5
    refine RJ.fin [(2, .pointer (some ⟨b1, 0, none⟩)), (3, .pointer (some ⟨b2, 0, none⟩)), (4, .pointer (some ⟨b3, 0, none⟩)), (6, .pointer (some ⟨b4, 0, none⟩))] rfl ?_
    refine J.seq ?_
    refine J.block ?_
    refine J.seq ?_
    refine J.region ?_
    refine RJ.run ttok 1 rfl ?_
    refine RJ.q rfl rfl (q_load_box ttok 3 (fun w e => e ▸ h5.wh) rfl rfl rfl rfl rfl) ?_
    refine RJ.run ttok 1 rfl ?_
    refine RJ.know (t := 22) rfl (congrArg Value.bool c1) ?_
    refine RJ.run ttok 1 rfl ?_
    refine RJ.q rfl rfl (q_load_box ttok 2 (fun w e => e ▸ h5.wh) rfl rfl rfl rfl rfl) ?_
    refine RJ.run ttok 3 rfl ?_
    refine RJ.fin [(2, .pointer (some ⟨b1, 0, none⟩)), (3, .pointer (some ⟨b2, 0, none⟩)), (4, .pointer (some ⟨b3, 0, none⟩)), (6, .pointer (some ⟨b4, 0, none⟩)), (19, .bool (!a1.2.2))] rfl ?_
    refine J.cond rfl (fun c2 => ?_) (fun c2 => ?_)
    · replace H := ite_t c2 H
      refine J.region ?_
      refine RJ.run ttok 1 rfl ?_
      refine RJ.q rfl rfl (q_load_box ttok 2 (fun w e => e ▸ h5.wh) rfl rfl rfl rfl rfl) ?_
      refine RJ.run ttok 1 rfl ?_
      refine RJ.op rfl rfl (op_store ttok 0 rfl h5 rfl rfl rfl rfl rfl rfl rfl) ?_
      intro _ w6 h6
      replace h6 : St w0 F0 (boxC b4 23 [.string ⟨⟨(if (!Op.bytesLess a0.1 a1.1) = true then a0.1 else a1.1)⟩⟩, .string ⟨⟨a1.2.1⟩⟩, .bool a1.2.2] :: _) _ w6 := h6
      refine RJ.fin [(4, .pointer (some ⟨b3, 0, none⟩)), (6, .pointer (some ⟨b4, 0, none⟩))] rfl ?_
      refine J.seq ?_
      refine J.seq ?_
      refine J.region ?_
      refine RJ.q rfl rfl (q_load_box ttok 0 (fun w e => e ▸ h6.wh) rfl rfl rfl rfl rfl) ?_
      obtain ⟨r1, q1, H⟩ := bind_t H
      refine RJ.op rfl rfl (op_call [] (lex_Empty.spec q1) rfl rfl rfl h6 rfl gnil) ?_
      rintro _ w7 ⟨_, ⟨rfl, rfl⟩, h7⟩
      refine RJ.fin [(4, .pointer (some ⟨b3, 0, none⟩)), (6, .pointer (some ⟨b4, 0, none⟩)), (52, .bool r1)] rfl ?_
      refine J.cond rfl (fun c3 => ?_) (fun c3 => ?_)
      · replace H := ite_t c3 H
        refine J.seq ?_
        refine J.region ?_
        refine RJ.run ttok 1 rfl ?_
        refine RJ.op rfl rfl (op_store ttok 1 rfl h7 rfl rfl rfl rfl rfl rfl rfl) ?_
        intro _ w8 h8
        replace h8 : St w0 F0 (boxC b3 23 [.string ⟨⟨([] : List UInt8)⟩⟩, .string ⟨⟨([] : List UInt8)⟩⟩, .bool false] :: _) _ w8 := h8
        refine RJ.run ttok 1 rfl ?_
        refine RJ.fin [(4, .pointer (some ⟨b3, 0, none⟩)), (5, .bool false)] rfl ?_
        refine J.ret ?_
        obtain rfl := Option.some.inj H
        exact ⟨_, _, _, (results_two rfl (rvcons (RV.cell ttok 0 h8 rfl rfl rfl rfl) (rvcons (RV.tmp rfl) rvnil)) rfl), ⟨rfl, rfl⟩, h8.only [] rfl⟩
      · replace H := ite_f c3 H
        refine J.skip ?_
        refine J.seq ?_
        refine J.region ?_
        refine RJ.q rfl rfl (q_load_box ttok 0 (fun w e => e ▸ h7.wh) rfl rfl rfl rfl rfl) ?_
        refine RJ.op rfl rfl (op_store ttok 1 rfl h7 rfl rfl rfl rfl rfl rfl rfl) ?_
        intro _ w9 h9
        replace h9 : St w0 F0 (boxC b3 23 [.string ⟨⟨(if (!Op.bytesLess a0.1 a1.1) = true then a0.1 else a1.1)⟩⟩, .string ⟨⟨a1.2.1⟩⟩, .bool a1.2.2] :: _) _ w9 := h9
        refine RJ.run ttok 1 rfl ?_
        refine RJ.fin [(4, .pointer (some ⟨b3, 0, none⟩)), (5, .bool true)] rfl ?_
        refine J.ret ?_
        obtain rfl := Option.some.inj H
        exact ⟨_, _, _, (results_two rfl (rvcons (RV.cell ttok 0 h9 rfl rfl rfl rfl) (rvcons (RV.tmp rfl) rvnil)) rfl), ⟨rfl, rfl⟩, h9.only [] rfl⟩
    · replace H := ite_f c2 H
      refine J.seq ?_
      refine J.region ?_
      refine RJ.run ttok 1 rfl ?_
      refine RJ.q rfl rfl (q_load_box ttok 2 (fun w e => e ▸ h5.wh) rfl rfl rfl rfl rfl) ?_
      refine RJ.run ttok 1 rfl ?_
      rcases Bool.eq_false_or_eq_true a1.2.2 with c4 | c4
      · replace H := ite_t c4 H
        refine RJ.know (t := 33) rfl (congrArg Value.bool c4) ?_
        refine RJ.run ttok 1 rfl ?_
        refine RJ.q rfl rfl (q_load_box ttok 3 (fun w e => e ▸ h5.wh) rfl rfl rfl rfl rfl) ?_
        refine RJ.run ttok 3 rfl ?_
        refine RJ.fin [(2, .pointer (some ⟨b1, 0, none⟩)), (3, .pointer (some ⟨b2, 0, none⟩)), (4, .pointer (some ⟨b3, 0, none⟩)), (6, .pointer (some ⟨b4, 0, none⟩)), (30, .bool (!a0.2.2))] rfl ?_
        refine J.cond rfl (fun c5 => ?_) (fun c5 => ?_)
        · replace H := ite_t c5 H
          refine J.region ?_
          refine RJ.run ttok 1 rfl ?_
          refine RJ.q rfl rfl (q_load_box ttok 3 (fun w e => e ▸ h5.wh) rfl rfl rfl rfl rfl) ?_
          refine RJ.run ttok 1 rfl ?_
          refine RJ.op rfl rfl (op_store ttok 0 rfl h5 rfl rfl rfl rfl rfl rfl rfl) ?_
          intro _ w10 h10
          replace h10 : St w0 F0 (boxC b4 23 [.string ⟨⟨(if (!Op.bytesLess a0.1 a1.1) = true then a0.1 else a1.1)⟩⟩, .string ⟨⟨a0.2.1⟩⟩, .bool a1.2.2] :: _) _ w10 := h10
          refine RJ.fin [(4, .pointer (some ⟨b3, 0, none⟩)), (6, .pointer (some ⟨b4, 0, none⟩))] rfl ?_
          refine J.seq ?_
          refine J.seq ?_
          refine J.region ?_
          refine RJ.q rfl rfl (q_load_box ttok 0 (fun w e => e ▸ h10.wh) rfl rfl rfl rfl rfl) ?_
          obtain ⟨r2, q2, H⟩ := bind_t H
          refine RJ.op rfl rfl (op_call [] (lex_Empty.spec q2) rfl rfl rfl h10 rfl gnil) ?_
          rintro _ w11 ⟨_, ⟨rfl, rfl⟩, h11⟩
          refine RJ.fin [(4, .pointer (some ⟨b3, 0, none⟩)), (6, .pointer (some ⟨b4, 0, none⟩)), (52, .bool r2)] rfl ?_
          refine J.cond rfl (fun c6 => ?_) (fun c6 => ?_)
          · replace H := ite_t c6 H
            refine J.seq ?_
            refine J.region ?_
            refine RJ.run ttok 1 rfl ?_
            refine RJ.op rfl rfl (op_store ttok 1 rfl h11 rfl rfl rfl rfl rfl rfl rfl) ?_
            intro _ w12 h12
            replace h12 : St w0 F0 (boxC b3 23 [.string ⟨⟨([] : List UInt8)⟩⟩, .string ⟨⟨([] : List UInt8)⟩⟩, .bool false] :: _) _ w12 := h12
            refine RJ.run ttok 1 rfl ?_
            refine RJ.fin [(4, .pointer (some ⟨b3, 0, none⟩)), (5, .bool false)] rfl ?_
            refine J.ret ?_
            obtain rfl := Option.some.inj H
            exact ⟨_, _, _, (results_two rfl (rvcons (RV.cell ttok 0 h12 rfl rfl rfl rfl) (rvcons (RV.tmp rfl) rvnil)) rfl), ⟨rfl, rfl⟩, h12.only [] rfl⟩
          · replace H := ite_f c6 H
            refine J.skip ?_
            refine J.seq ?_
            refine J.region ?_
            refine RJ.q rfl rfl (q_load_box ttok 0 (fun w e => e ▸ h11.wh) rfl rfl rfl rfl rfl) ?_
            refine RJ.op rfl rfl (op_store ttok 1 rfl h11 rfl rfl rfl rfl rfl rfl rfl) ?_
            intro _ w13 h13
            replace h13 : St w0 F0 (boxC b3 23 [.string ⟨⟨(if (!Op.bytesLess a0.1 a1.1) = true then a0.1 else a1.1)⟩⟩, .string ⟨⟨a0.2.1⟩⟩, .bool a1.2.2] :: _) _ w13 := h13
            refine RJ.run ttok 1 rfl ?_
            refine RJ.fin [(4, .pointer (some ⟨b3, 0, none⟩)), (5, .bool true)] rfl ?_
            refine J.ret ?_
            obtain rfl := Option.some.inj H
            exact ⟨_, _, _, (results_two rfl (rvcons (RV.cell ttok 0 h13 rfl rfl rfl rfl) (rvcons (RV.tmp rfl) rvnil)) rfl), ⟨rfl, rfl⟩, h13.only [] rfl⟩
        · replace H := ite_f c5 H
          refine J.seq ?_
          refine J.region ?_
          refine RJ.run ttok 1 rfl ?_
          refine RJ.q rfl rfl (q_load_box ttok 3 (fun w e => e ▸ h5.wh) rfl rfl rfl rfl rfl) ?_
          refine RJ.run ttok 2 rfl ?_
          refine RJ.fin [(2, .pointer (some ⟨b1, 0, none⟩)), (3, .pointer (some ⟨b2, 0, none⟩)), (4, .pointer (some ⟨b3, 0, none⟩)), (6, .pointer (some ⟨b4, 0, none⟩)), (41, .bool (!a0.2.2))] rfl ?_
          refine J.cond rfl (fun e => ?_) (fun e => ?_)
          · rw [c5] at e; cases e
          · refine J.skip ?_
            refine J.seq ?_
            refine J.seq ?_
            refine J.region ?_
            refine RJ.q rfl rfl (q_load_box ttok 0 (fun w e => e ▸ h5.wh) rfl rfl rfl rfl rfl) ?_
            obtain ⟨r3, q3, H⟩ := bind_t H
            refine RJ.op rfl rfl (op_call [] (lex_Empty.spec q3) rfl rfl rfl h5 rfl gnil) ?_
            rintro _ w14 ⟨_, ⟨rfl, rfl⟩, h14⟩
            refine RJ.fin [(4, .pointer (some ⟨b3, 0, none⟩)), (6, .pointer (some ⟨b4, 0, none⟩)), (52, .bool r3)] rfl ?_
            refine J.cond rfl (fun c7 => ?_) (fun c7 => ?_)
            · replace H := ite_t c7 H
              refine J.seq ?_
              refine J.region ?_
              refine RJ.run ttok 1 rfl ?_
              refine RJ.op rfl rfl (op_store ttok 1 rfl h14 rfl rfl rfl rfl rfl rfl rfl) ?_
              intro _ w15 h15
              replace h15 : St w0 F0 (boxC b3 23 [.string ⟨⟨([] : List UInt8)⟩⟩, .string ⟨⟨([] : List UInt8)⟩⟩, .bool false] :: _) _ w15 := h15
              refine RJ.run ttok 1 rfl ?_
              refine RJ.fin [(4, .pointer (some ⟨b3, 0, none⟩)), (5, .bool false)] rfl ?_
              refine J.ret ?_
              obtain rfl := Option.some.inj H
              exact ⟨_, _, _, (results_two rfl (rvcons (RV.cell ttok 0 h15 rfl rfl rfl rfl) (rvcons (RV.tmp rfl) rvnil)) rfl), ⟨rfl, rfl⟩, h15.only [] rfl⟩
            · replace H := ite_f c7 H
              refine J.skip ?_
              refine J.seq ?_
              refine J.region ?_
              refine RJ.q rfl rfl (q_load_box ttok 0 (fun w e => e ▸ h14.wh) rfl rfl rfl rfl rfl) ?_
              refine RJ.op rfl rfl (op_store ttok 1 rfl h14 rfl rfl rfl rfl rfl rfl rfl) ?_
              intro _ w16 h16
              replace h16 : St w0 F0 (boxC b3 23 [.string ⟨⟨(if (!Op.bytesLess a0.1 a1.1) = true then a0.1 else a1.1)⟩⟩, .string ⟨⟨([] : List UInt8)⟩⟩, .bool a1.2.2] :: _) _ w16 := h16
              refine RJ.run ttok 1 rfl ?_
              refine RJ.fin [(4, .pointer (some ⟨b3, 0, none⟩)), (5, .bool true)] rfl ?_
              refine J.ret ?_
              obtain rfl := Option.some.inj H
              exact ⟨_, _, _, (results_two rfl (rvcons (RV.cell ttok 0 h16 rfl rfl rfl rfl) (rvcons (RV.tmp rfl) rvnil)) rfl), ⟨rfl, rfl⟩, h16.only [] rfl⟩
      · replace H := ite_f c4 H
        refine RJ.know (t := 33) rfl (congrArg Value.bool c4) ?_
        refine RJ.run ttok 5 rfl ?_
        refine RJ.fin [(2, .pointer (some ⟨b1, 0, none⟩)), (3, .pointer (some ⟨b2, 0, none⟩)), (4, .pointer (some ⟨b3, 0, none⟩)), (6, .pointer (some ⟨b4, 0, none⟩)), (30, .bool false)] rfl ?_
        refine J.condF rfl ?_
        refine J.seq ?_
        refine J.region ?_
        refine RJ.run ttok 1 rfl ?_
        refine RJ.q rfl rfl (q_load_box ttok 3 (fun w e => e ▸ h5.wh) rfl rfl rfl rfl rfl) ?_
        refine RJ.run ttok 2 rfl ?_
        refine RJ.fin [(2, .pointer (some ⟨b1, 0, none⟩)), (3, .pointer (some ⟨b2, 0, none⟩)), (4, .pointer (some ⟨b3, 0, none⟩)), (6, .pointer (some ⟨b4, 0, none⟩)), (41, .bool (!a0.2.2))] rfl ?_
        refine J.cond rfl (fun c8 => ?_) (fun c8 => ?_)
        · replace H := ite_t c8 H
          refine J.region ?_
          refine RJ.run ttok 1 rfl ?_
          refine RJ.q rfl rfl (q_load_box ttok 3 (fun w e => e ▸ h5.wh) rfl rfl rfl rfl rfl) ?_
          refine RJ.run ttok 1 rfl ?_
          refine RJ.q rfl rfl (q_load_box ttok 2 (fun w e => e ▸ h5.wh) rfl rfl rfl rfl rfl) ?_
          refine RJ.run ttok 2 rfl ?_
          refine RJ.op rfl rfl (op_store ttok 0 rfl h5 rfl rfl rfl rfl rfl rfl rfl) ?_
          intro _ w17 h17
          replace h17 : St w0 F0 (boxC b4 23 [.string ⟨⟨(if (!Op.bytesLess a0.1 a1.1) = true then a0.1 else a1.1)⟩⟩, .string ⟨⟨(if (Op.bytesLess a0.2.1 a1.2.1 || decide (a0.2.1 = a1.2.1)) = true then a0.2.1 else a1.2.1)⟩⟩, .bool a1.2.2] :: _) _ w17 := h17
          refine RJ.fin [(4, .pointer (some ⟨b3, 0, none⟩)), (6, .pointer (some ⟨b4, 0, none⟩))] rfl ?_
          refine J.seq ?_
          refine J.seq ?_
          refine J.region ?_
          refine RJ.q rfl rfl (q_load_box ttok 0 (fun w e => e ▸ h17.wh) rfl rfl rfl rfl rfl) ?_
          obtain ⟨r4, q4, H⟩ := bind_t H
          refine RJ.op rfl rfl (op_call [] (lex_Empty.spec q4) rfl rfl rfl h17 rfl gnil) ?_
          rintro _ w18 ⟨_, ⟨rfl, rfl⟩, h18⟩
          refine RJ.fin [(4, .pointer (some ⟨b3, 0, none⟩)), (6, .pointer (some ⟨b4, 0, none⟩)), (52, .bool r4)] rfl ?_
          refine J.cond rfl (fun c9 => ?_) (fun c9 => ?_)
          · replace H := ite_t c9 H
            refine J.seq ?_
            refine J.region ?_
            refine RJ.run ttok 1 rfl ?_
            refine RJ.op rfl rfl (op_store ttok 1 rfl h18 rfl rfl rfl rfl rfl rfl rfl) ?_
            intro _ w19 h19
            replace h19 : St w0 F0 (boxC b3 23 [.string ⟨⟨([] : List UInt8)⟩⟩, .string ⟨⟨([] : List UInt8)⟩⟩, .bool false] :: _) _ w19 := h19
            refine RJ.run ttok 1 rfl ?_
            refine RJ.fin [(4, .pointer (some ⟨b3, 0, none⟩)), (5, .bool false)] rfl ?_
            refine J.ret ?_
            obtain rfl := Option.some.inj H
            exact ⟨_, _, _, (results_two rfl (rvcons (RV.cell ttok 0 h19 rfl rfl rfl rfl) (rvcons (RV.tmp rfl) rvnil)) rfl), ⟨rfl, rfl⟩, h19.only [] rfl⟩
          · replace H := ite_f c9 H
            refine J.skip ?_
            refine J.seq ?_
            refine J.region ?_
            refine RJ.q rfl rfl (q_load_box ttok 0 (fun w e => e ▸ h18.wh) rfl rfl rfl rfl rfl) ?_
            refine RJ.op rfl rfl (op_store ttok 1 rfl h18 rfl rfl rfl rfl rfl rfl rfl) ?_
            intro _ w20 h20
            replace h20 : St w0 F0 (boxC b3 23 [.string ⟨⟨(if (!Op.bytesLess a0.1 a1.1) = true then a0.1 else a1.1)⟩⟩, .string ⟨⟨(if (Op.bytesLess a0.2.1 a1.2.1 || decide (a0.2.1 = a1.2.1)) = true then a0.2.1 else a1.2.1)⟩⟩, .bool a1.2.2] :: _) _ w20 := h20
            refine RJ.run ttok 1 rfl ?_
            refine RJ.fin [(4, .pointer (some ⟨b3, 0, none⟩)), (5, .bool true)] rfl ?_
            refine J.ret ?_
            obtain rfl := Option.some.inj H
            exact ⟨_, _, _, (results_two rfl (rvcons (RV.cell ttok 0 h20 rfl rfl rfl rfl) (rvcons (RV.tmp rfl) rvnil)) rfl), ⟨rfl, rfl⟩, h20.only [] rfl⟩
        · replace H := ite_f c8 H
          refine J.skip ?_
          refine J.seq ?_
          refine J.seq ?_
          refine J.region ?_
          refine RJ.q rfl rfl (q_load_box ttok 0 (fun w e => e ▸ h5.wh) rfl rfl rfl rfl rfl) ?_
          obtain ⟨r5, q5, H⟩ := bind_t H
          refine RJ.op rfl rfl (op_call [] (lex_Empty.spec q5) rfl rfl rfl h5 rfl gnil) ?_
          rintro _ w21 ⟨_, ⟨rfl, rfl⟩, h21⟩
          refine RJ.fin [(4, .pointer (some ⟨b3, 0, none⟩)), (6, .pointer (some ⟨b4, 0, none⟩)), (52, .bool r5)] rfl ?_
          refine J.cond rfl (fun c10 => ?_) (fun c10 => ?_)
          · replace H := ite_t c10 H
            refine J.seq ?_
            refine J.region ?_
            refine RJ.run ttok 1 rfl ?_
            refine RJ.op rfl rfl (op_store ttok 1 rfl h21 rfl rfl rfl rfl rfl rfl rfl) ?_
            intro _ w22 h22
            replace h22 : St w0 F0 (boxC b3 23 [.string ⟨⟨([] : List UInt8)⟩⟩, .string ⟨⟨([] : List UInt8)⟩⟩, .bool false] :: _) _ w22 := h22
            refine RJ.run ttok 1 rfl ?_
            refine RJ.fin [(4, .pointer (some ⟨b3, 0, none⟩)), (5, .bool false)] rfl ?_
            refine J.ret ?_
            obtain rfl := Option.some.inj H
            exact ⟨_, _, _, (results_two rfl (rvcons (RV.cell ttok 0 h22 rfl rfl rfl rfl) (rvcons (RV.tmp rfl) rvnil)) rfl), ⟨rfl, rfl⟩, h22.only [] rfl⟩
          · replace H := ite_f c10 H
            refine J.skip ?_
            refine J.seq ?_
            refine J.region ?_
            refine RJ.q rfl rfl (q_load_box ttok 0 (fun w e => e ▸ h21.wh) rfl rfl rfl rfl rfl) ?_
            refine RJ.op rfl rfl (op_store ttok 1 rfl h21 rfl rfl rfl rfl rfl rfl rfl) ?_
            intro _ w23 h23
            replace h23 : St w0 F0 (boxC b3 23 [.string ⟨⟨(if (!Op.bytesLess a0.1 a1.1) = true then a0.1 else a1.1)⟩⟩, .string ⟨⟨([] : List UInt8)⟩⟩, .bool a1.2.2] :: _) _ w23 := h23
            refine RJ.run ttok 1 rfl ?_
            refine RJ.fin [(4, .pointer (some ⟨b3, 0, none⟩)), (5, .bool true)] rfl ?_
            refine J.ret ?_
            obtain rfl := Option.some.inj H
            exact ⟨_, _, _, (results_two rfl (rvcons (RV.cell ttok 0 h23 rfl rfl rfl rfl) (rvcons (RV.tmp rfl) rvnil)) rfl), ⟨rfl, rfl⟩, h23.only [] rfl⟩
  · replace H := ite_f c1 H
    refine RJ.know (t := 14) rfl (congrArg Value.bool c1) ?_
    refine RJ.run ttok 4 rfl ?_
    refine RJ.op rfl rfl (op_alloc ttok rfl rfl h3) ?_
    rintro _ w24 ⟨b5, rfl, h24⟩
    refine RJ.op rfl rfl (op_store ttok 0 rfl h24 rfl rfl rfl rfl rfl rfl rfl) ?_
    intro _ w25 h25
    replace h25 : St w0 F0 (boxC b5 23 [.string ⟨⟨(if (!Op.bytesLess a0.1 a1.1) = true then a0.1 else a1.1)⟩⟩, .string ⟨⟨([] : List UInt8)⟩⟩, .bool false] :: _) _ w25 := h25
    refine RJ.fin [(2, .pointer (some ⟨b1, 0, none⟩)), (3, .pointer (some ⟨b2, 0, none⟩)), (4, .pointer (some ⟨b3, 0, none⟩)), (6, .pointer (some ⟨b5, 0, none⟩))] rfl ?_
    refine J.seq ?_
    refine J.block ?_
    refine J.seq ?_
    refine J.region ?_
    refine RJ.run ttok 1 rfl ?_
    refine RJ.q rfl rfl (q_load_box ttok 3 (fun w e => e ▸ h25.wh) rfl rfl rfl rfl rfl) ?_
    refine RJ.run ttok 1 rfl ?_
    refine RJ.know (t := 22) rfl (congrArg Value.bool c1) ?_
    refine RJ.run ttok 5 rfl ?_
    refine RJ.fin [(2, .pointer (some ⟨b1, 0, none⟩)), (3, .pointer (some ⟨b2, 0, none⟩)), (4, .pointer (some ⟨b3, 0, none⟩)), (6, .pointer (some ⟨b5, 0, none⟩)), (19, .bool false)] rfl ?_
    refine J.condF rfl ?_
    refine J.seq ?_
    refine J.region ?_
    refine RJ.run ttok 1 rfl ?_
    refine RJ.q rfl rfl (q_load_box ttok 2 (fun w e => e ▸ h25.wh) rfl rfl rfl rfl rfl) ?_
    refine RJ.run ttok 1 rfl ?_
    rcases Bool.eq_false_or_eq_true a1.2.2 with c11 | c11
    · replace H := ite_t c11 H
      refine RJ.know (t := 33) rfl (congrArg Value.bool c11) ?_
      refine RJ.run ttok 1 rfl ?_
      refine RJ.q rfl rfl (q_load_box ttok 3 (fun w e => e ▸ h25.wh) rfl rfl rfl rfl rfl) ?_
      refine RJ.run ttok 3 rfl ?_
      refine RJ.fin [(2, .pointer (some ⟨b1, 0, none⟩)), (3, .pointer (some ⟨b2, 0, none⟩)), (4, .pointer (some ⟨b3, 0, none⟩)), (6, .pointer (some ⟨b5, 0, none⟩)), (30, .bool (!a0.2.2))] rfl ?_
      refine J.cond rfl (fun c12 => ?_) (fun c12 => ?_)
      · replace H := ite_t c12 H
        refine J.region ?_
        refine RJ.run ttok 1 rfl ?_
        refine RJ.q rfl rfl (q_load_box ttok 3 (fun w e => e ▸ h25.wh) rfl rfl rfl rfl rfl) ?_
        refine RJ.run ttok 1 rfl ?_
        refine RJ.op rfl rfl (op_store ttok 0 rfl h25 rfl rfl rfl rfl rfl rfl rfl) ?_
        intro _ w26 h26
        replace h26 : St w0 F0 (boxC b5 23 [.string ⟨⟨(if (!Op.bytesLess a0.1 a1.1) = true then a0.1 else a1.1)⟩⟩, .string ⟨⟨a0.2.1⟩⟩, .bool false] :: _) _ w26 := h26
        refine RJ.fin [(4, .pointer (some ⟨b3, 0, none⟩)), (6, .pointer (some ⟨b5, 0, none⟩))] rfl ?_
        refine J.seq ?_
        refine J.seq ?_
        refine J.region ?_
        refine RJ.q rfl rfl (q_load_box ttok 0 (fun w e => e ▸ h26.wh) rfl rfl rfl rfl rfl) ?_
        obtain ⟨r6, q6, H⟩ := bind_t H
        refine RJ.op rfl rfl (op_call [] (lex_Empty.spec q6) rfl rfl rfl h26 rfl gnil) ?_
        rintro _ w27 ⟨_, ⟨rfl, rfl⟩, h27⟩
        refine RJ.fin [(4, .pointer (some ⟨b3, 0, none⟩)), (6, .pointer (some ⟨b5, 0, none⟩)), (52, .bool r6)] rfl ?_
        refine J.cond rfl (fun c13 => ?_) (fun c13 => ?_)
        · replace H := ite_t c13 H
          refine J.seq ?_
          refine J.region ?_
          refine RJ.run ttok 1 rfl ?_
          refine RJ.op rfl rfl (op_store ttok 1 rfl h27 rfl rfl rfl rfl rfl rfl rfl) ?_
          intro _ w28 h28
          replace h28 : St w0 F0 (boxC b3 23 [.string ⟨⟨([] : List UInt8)⟩⟩, .string ⟨⟨([] : List UInt8)⟩⟩, .bool false] :: _) _ w28 := h28
          refine RJ.run ttok 1 rfl ?_
          refine RJ.fin [(4, .pointer (some ⟨b3, 0, none⟩)), (5, .bool false)] rfl ?_
          refine J.ret ?_
          obtain rfl := Option.some.inj H
          exact ⟨_, _, _, (results_two rfl (rvcons (RV.cell ttok 0 h28 rfl rfl rfl rfl) (rvcons (RV.tmp rfl) rvnil)) rfl), ⟨rfl, rfl⟩, h28.only [] rfl⟩
        · replace H := ite_f c13 H
          refine J.skip ?_
          refine J.seq ?_
          refine J.region ?_
          refine RJ.q rfl rfl (q_load_box ttok 0 (fun w e => e ▸ h27.wh) rfl rfl rfl rfl rfl) ?_
          refine RJ.op rfl rfl (op_store ttok 1 rfl h27 rfl rfl rfl rfl rfl rfl rfl) ?_
          intro _ w29 h29
          replace h29 : St w0 F0 (boxC b3 23 [.string ⟨⟨(if (!Op.bytesLess a0.1 a1.1) = true then a0.1 else a1.1)⟩⟩, .string ⟨⟨a0.2.1⟩⟩, .bool false] :: _) _ w29 := h29
          refine RJ.run ttok 1 rfl ?_
          refine RJ.fin [(4, .pointer (some ⟨b3, 0, none⟩)), (5, .bool true)] rfl ?_
          refine J.ret ?_
          obtain rfl := Option.some.inj H
          exact ⟨_, _, _, (results_two rfl (rvcons (RV.cell ttok 0 h29 rfl rfl rfl rfl) (rvcons (RV.tmp rfl) rvnil)) rfl), ⟨rfl, rfl⟩, h29.only [] rfl⟩
      · replace H := ite_f c12 H
        refine J.seq ?_
        refine J.region ?_
        refine RJ.run ttok 1 rfl ?_
        refine RJ.q rfl rfl (q_load_box ttok 3 (fun w e => e ▸ h25.wh) rfl rfl rfl rfl rfl) ?_
        refine RJ.run ttok 2 rfl ?_
        refine RJ.fin [(2, .pointer (some ⟨b1, 0, none⟩)), (3, .pointer (some ⟨b2, 0, none⟩)), (4, .pointer (some ⟨b3, 0, none⟩)), (6, .pointer (some ⟨b5, 0, none⟩)), (41, .bool (!a0.2.2))] rfl ?_
        refine J.cond rfl (fun e => ?_) (fun e => ?_)
        · rw [c12] at e; cases e
        · refine J.skip ?_
          refine J.seq ?_
          refine J.seq ?_
          refine J.region ?_
          refine RJ.q rfl rfl (q_load_box ttok 0 (fun w e => e ▸ h25.wh) rfl rfl rfl rfl rfl) ?_
          obtain ⟨r7, q7, H⟩ := bind_t H
          refine RJ.op rfl rfl (op_call [] (lex_Empty.spec q7) rfl rfl rfl h25 rfl gnil) ?_
          rintro _ w30 ⟨_, ⟨rfl, rfl⟩, h30⟩
          refine RJ.fin [(4, .pointer (some ⟨b3, 0, none⟩)), (6, .pointer (some ⟨b5, 0, none⟩)), (52, .bool r7)] rfl ?_
          refine J.cond rfl (fun c14 => ?_) (fun c14 => ?_)
          · replace H := ite_t c14 H
            refine J.seq ?_
            refine J.region ?_
            refine RJ.run ttok 1 rfl ?_
            refine RJ.op rfl rfl (op_store ttok 1 rfl h30 rfl rfl rfl rfl rfl rfl rfl) ?_
            intro _ w31 h31
            replace h31 : St w0 F0 (boxC b3 23 [.string ⟨⟨([] : List UInt8)⟩⟩, .string ⟨⟨([] : List UInt8)⟩⟩, .bool false] :: _) _ w31 := h31
            refine RJ.run ttok 1 rfl ?_
            refine RJ.fin [(4, .pointer (some ⟨b3, 0, none⟩)), (5, .bool false)] rfl ?_
            refine J.ret ?_
            obtain rfl := Option.some.inj H
            exact ⟨_, _, _, (results_two rfl (rvcons (RV.cell ttok 0 h31 rfl rfl rfl rfl) (rvcons (RV.tmp rfl) rvnil)) rfl), ⟨rfl, rfl⟩, h31.only [] rfl⟩
          · replace H := ite_f c14 H
            refine J.skip ?_
            refine J.seq ?_
            refine J.region ?_
            refine RJ.q rfl rfl (q_load_box ttok 0 (fun w e => e ▸ h30.wh) rfl rfl rfl rfl rfl) ?_
            refine RJ.op rfl rfl (op_store ttok 1 rfl h30 rfl rfl rfl rfl rfl rfl rfl) ?_
            intro _ w32 h32
            replace h32 : St w0 F0 (boxC b3 23 [.string ⟨⟨(if (!Op.bytesLess a0.1 a1.1) = true then a0.1 else a1.1)⟩⟩, .string ⟨⟨([] : List UInt8)⟩⟩, .bool false] :: _) _ w32 := h32
            refine RJ.run ttok 1 rfl ?_
            refine RJ.fin [(4, .pointer (some ⟨b3, 0, none⟩)), (5, .bool true)] rfl ?_
            refine J.ret ?_
            obtain rfl := Option.some.inj H
            exact ⟨_, _, _, (results_two rfl (rvcons (RV.cell ttok 0 h32 rfl rfl rfl rfl) (rvcons (RV.tmp rfl) rvnil)) rfl), ⟨rfl, rfl⟩, h32.only [] rfl⟩
    · replace H := ite_f c11 H
      refine RJ.know (t := 33) rfl (congrArg Value.bool c11) ?_
      refine RJ.run ttok 5 rfl ?_
      refine RJ.fin [(2, .pointer (some ⟨b1, 0, none⟩)), (3, .pointer (some ⟨b2, 0, none⟩)), (4, .pointer (some ⟨b3, 0, none⟩)), (6, .pointer (some ⟨b5, 0, none⟩)), (30, .bool false)] rfl ?_
      refine J.condF rfl ?_
      refine J.seq ?_
      refine J.region ?_
      refine RJ.run ttok 1 rfl ?_
      refine RJ.q rfl rfl (q_load_box ttok 3 (fun w e => e ▸ h25.wh) rfl rfl rfl rfl rfl) ?_
      refine RJ.run ttok 2 rfl ?_
      refine RJ.fin [(2, .pointer (some ⟨b1, 0, none⟩)), (3, .pointer (some ⟨b2, 0, none⟩)), (4, .pointer (some ⟨b3, 0, none⟩)), (6, .pointer (some ⟨b5, 0, none⟩)), (41, .bool (!a0.2.2))] rfl ?_
      refine J.cond rfl (fun c15 => ?_) (fun c15 => ?_)
      · replace H := ite_t c15 H
        refine J.region ?_
        refine RJ.run ttok 1 rfl ?_
        refine RJ.q rfl rfl (q_load_box ttok 3 (fun w e => e ▸ h25.wh) rfl rfl rfl rfl rfl) ?_
        refine RJ.run ttok 1 rfl ?_
        refine RJ.q rfl rfl (q_load_box ttok 2 (fun w e => e ▸ h25.wh) rfl rfl rfl rfl rfl) ?_
        refine RJ.run ttok 2 rfl ?_
        refine RJ.op rfl rfl (op_store ttok 0 rfl h25 rfl rfl rfl rfl rfl rfl rfl) ?_
        intro _ w33 h33
        replace h33 : St w0 F0 (boxC b5 23 [.string ⟨⟨(if (!Op.bytesLess a0.1 a1.1) = true then a0.1 else a1.1)⟩⟩, .string ⟨⟨(if (Op.bytesLess a0.2.1 a1.2.1 || decide (a0.2.1 = a1.2.1)) = true then a0.2.1 else a1.2.1)⟩⟩, .bool false] :: _) _ w33 := h33
        refine RJ.fin [(4, .pointer (some ⟨b3, 0, none⟩)), (6, .pointer (some ⟨b5, 0, none⟩))] rfl ?_
        refine J.seq ?_
        refine J.seq ?_
        refine J.region ?_
        refine RJ.q rfl rfl (q_load_box ttok 0 (fun w e => e ▸ h33.wh) rfl rfl rfl rfl rfl) ?_
        obtain ⟨r8, q8, H⟩ := bind_t H
        refine RJ.op rfl rfl (op_call [] (lex_Empty.spec q8) rfl rfl rfl h33 rfl gnil) ?_
        rintro _ w34 ⟨_, ⟨rfl, rfl⟩, h34⟩
        refine RJ.fin [(4, .pointer (some ⟨b3, 0, none⟩)), (6, .pointer (some ⟨b5, 0, none⟩)), (52, .bool r8)] rfl ?_
        refine J.cond rfl (fun c16 => ?_) (fun c16 => ?_)
        · replace H := ite_t c16 H
          refine J.seq ?_
          refine J.region ?_
          refine RJ.run ttok 1 rfl ?_
          refine RJ.op rfl rfl (op_store ttok 1 rfl h34 rfl rfl rfl rfl rfl rfl rfl) ?_
          intro _ w35 h35
          replace h35 : St w0 F0 (boxC b3 23 [.string ⟨⟨([] : List UInt8)⟩⟩, .string ⟨⟨([] : List UInt8)⟩⟩, .bool false] :: _) _ w35 := h35
          refine RJ.run ttok 1 rfl ?_
          refine RJ.fin [(4, .pointer (some ⟨b3, 0, none⟩)), (5, .bool false)] rfl ?_
          refine J.ret ?_
          obtain rfl := Option.some.inj H
          exact ⟨_, _, _, (results_two rfl (rvcons (RV.cell ttok 0 h35 rfl rfl rfl rfl) (rvcons (RV.tmp rfl) rvnil)) rfl), ⟨rfl, rfl⟩, h35.only [] rfl⟩
        · replace H := ite_f c16 H
          refine J.skip ?_
          refine J.seq ?_
          refine J.region ?_
          refine RJ.q rfl rfl (q_load_box ttok 0 (fun w e => e ▸ h34.wh) rfl rfl rfl rfl rfl) ?_
          refine RJ.op rfl rfl (op_store ttok 1 rfl h34 rfl rfl rfl rfl rfl rfl rfl) ?_
          intro _ w36 h36
          replace h36 : St w0 F0 (boxC b3 23 [.string ⟨⟨(if (!Op.bytesLess a0.1 a1.1) = true then a0.1 else a1.1)⟩⟩, .string ⟨⟨(if (Op.bytesLess a0.2.1 a1.2.1 || decide (a0.2.1 = a1.2.1)) = true then a0.2.1 else a1.2.1)⟩⟩, .bool false] :: _) _ w36 := h36
          refine RJ.run ttok 1 rfl ?_
          refine RJ.fin [(4, .pointer (some ⟨b3, 0, none⟩)), (5, .bool true)] rfl ?_
          refine J.ret ?_
          obtain rfl := Option.some.inj H
          exact ⟨_, _, _, (results_two rfl (rvcons (RV.cell ttok 0 h36 rfl rfl rfl rfl) (rvcons (RV.tmp rfl) rvnil)) rfl), ⟨rfl, rfl⟩, h36.only [] rfl⟩
      · replace H := ite_f c15 H
        refine J.skip ?_
        refine J.seq ?_
        refine J.seq ?_
        refine J.region ?_
        refine RJ.q rfl rfl (q_load_box ttok 0 (fun w e => e ▸ h25.wh) rfl rfl rfl rfl rfl) ?_
        obtain ⟨r9, q9, H⟩ := bind_t H
        refine RJ.op rfl rfl (op_call [] (lex_Empty.spec q9) rfl rfl rfl h25 rfl gnil) ?_
        rintro _ w37 ⟨_, ⟨rfl, rfl⟩, h37⟩
        refine RJ.fin [(4, .pointer (some ⟨b3, 0, none⟩)), (6, .pointer (some ⟨b5, 0, none⟩)), (52, .bool r9)] rfl ?_
        refine J.cond rfl (fun c17 => ?_) (fun c17 => ?_)
        · replace H := ite_t c17 H
          refine J.seq ?_
          refine J.region ?_
          refine RJ.run ttok 1 rfl ?_
          refine RJ.op rfl rfl (op_store ttok 1 rfl h37 rfl rfl rfl rfl rfl rfl rfl) ?_
          intro _ w38 h38
          replace h38 : St w0 F0 (boxC b3 23 [.string ⟨⟨([] : List UInt8)⟩⟩, .string ⟨⟨([] : List UInt8)⟩⟩, .bool false] :: _) _ w38 := h38
          refine RJ.run ttok 1 rfl ?_
          refine RJ.fin [(4, .pointer (some ⟨b3, 0, none⟩)), (5, .bool false)] rfl ?_
          refine J.ret ?_
          obtain rfl := Option.some.inj H
          exact ⟨_, _, _, (results_two rfl (rvcons (RV.cell ttok 0 h38 rfl rfl rfl rfl) (rvcons (RV.tmp rfl) rvnil)) rfl), ⟨rfl, rfl⟩, h38.only [] rfl⟩
        · replace H := ite_f c17 H
          refine J.skip ?_
          refine J.seq ?_
          refine J.region ?_
          refine RJ.q rfl rfl (q_load_box ttok 0 (fun w e => e ▸ h37.wh) rfl rfl rfl rfl rfl) ?_
          refine RJ.op rfl rfl (op_store ttok 1 rfl h37 rfl rfl rfl rfl rfl rfl rfl) ?_
          intro _ w39 h39
          replace h39 : St w0 F0 (boxC b3 23 [.string ⟨⟨(if (!Op.bytesLess a0.1 a1.1) = true then a0.1 else a1.1)⟩⟩, .string ⟨⟨([] : List UInt8)⟩⟩, .bool false] :: _) _ w39 := h39
          refine RJ.run ttok 1 rfl ?_
          refine RJ.fin [(4, .pointer (some ⟨b3, 0, none⟩)), (5, .bool true)] rfl ?_
          refine J.ret ?_
          obtain rfl := Option.some.inj H
          exact ⟨_, _, _, (results_two rfl (rvcons (RV.cell ttok 0 h39 rfl rfl rfl rfl) (rvcons (RV.tmp rfl) rvnil)) rfl), ⟨rfl, rfl⟩, h39.only [] rfl⟩

/-! sluicegate/fan.Span -/
def fan_Span.f (a0 : List (List UInt8)) (a1 : Int) (a2 : List UInt8 × List UInt8 × Bool) : Option ((List UInt8 × List UInt8 × Bool) × Bool) := if (decide (a1 < 0)) = true then (some ((([] : List UInt8), ([] : List UInt8), false), false)) else (if (decide ((a0.length : Int) < a1)) = true then (some ((([] : List UInt8), ([] : List UInt8), false), false)) else (if (decide (0 < a1)) = true then (if 0 ≤ (w64 (a1 - 1)) ∧ (w64 (a1 - 1)) < (a0.length : Int) then (if (!(decide (a1 = (a0.length : Int)))) = true then (if 0 ≤ a1 ∧ a1 < (a0.length : Int) then ((lex_Meet.f ((gt a0 (w64 (a1 - 1))), (gt a0 a1), (decide (a1 = (a0.length : Int)))) (a2.1, a2.2.1, a2.2.2)).bind fun r1 => (some ((r1.1.1, r1.1.2.1, r1.1.2.2), r1.2))) else none) else ((lex_Meet.f ((gt a0 (w64 (a1 - 1))), ([] : List UInt8), (decide (a1 = (a0.length : Int)))) (a2.1, a2.2.1, a2.2.2)).bind fun r2 => (some ((r2.1.1, r2.1.2.1, r2.1.2.2), r2.2)))) else none) else (if (!(decide (a1 = (a0.length : Int)))) = true then (if 0 ≤ a1 ∧ a1 < (a0.length : Int) then ((lex_Meet.f (([] : List UInt8), (gt a0 a1), (decide (a1 = (a0.length : Int)))) (a2.1, a2.2.1, a2.2.2)).bind fun r3 => (some ((r3.1.1, r3.1.2.1, r3.1.2.2), r3.2))) else none) else ((lex_Meet.f (([] : List UInt8), ([] : List UInt8), (decide (a1 = (a0.length : Int)))) (a2.1, a2.2.1, a2.2.2)).bind fun r4 => (some ((r4.1.1, r4.1.2.1, r4.1.2.2), r4.2))))))
set_option maxRecDepth 20000 in
theorem fan_Span.spec {a0 : List (List UInt8)} {a1 : Int} {a2 : List UInt8 × List UInt8 × Bool} {A1 : Option Addr} {c_1 : Nat} {r : (List UInt8 × List UInt8 × Bool) × Bool} (H : fan_Span.f a0 a1 a2 = some r) :
    Spec Try.prog 39 [.slice A1 a0.length c_1, .int .i64 a1, .agg #[.string ⟨⟨a2.1⟩⟩, .string ⟨⟨a2.2.1⟩⟩, .bool a2.2.2]] [] [rdC 9 .str a0 (.slice A1 a0.length c_1)] (fun v l => v = .tuple #[.agg #[.string ⟨⟨r.1.1⟩⟩, .string ⟨⟨r.1.2.1⟩⟩, .bool r.1.2.2], .bool r.2] ∧ l = []) := by
  refine Spec.enter Try.func39 rfl (by kernel_rfl) (by kernel_rfl) fun w0 F0 h0 => ?_
  unfold fan_Span.f at H
  refine J.seq ?_
  refine J.region ?_
  refine RJ.op rfl rfl (op_box rfl rfl h0) ?_
  rintro _ w1 ⟨b1, rfl, h1⟩
  refine RJ.op rfl rfl (op_alloc ttok rfl rfl h1) ?_
  rintro _ w2 ⟨b2, rfl, h2⟩
  refine RJ.run ttok 1 rfl ?_
  refine RJ.fin [(0, .slice A1 a0.length c_1), (1, .int .i64 a1), (5, .pointer (some ⟨b1, 0, none⟩)), (6, .pointer (some ⟨b2, 0, none⟩))] rfl ?_
  refine J.seq ?_
  refine J.seq ?_
  refine J.region ?_
  refine RJ.run ttok 3 rfl ?_
  rcases Bool.eq_false_or_eq_true (decide (a1 < 0)) with c1 | c1
  · replace H := ite_t c1 H
    refine RJ.know (t := 11) rfl (congrArg Value.bool c1) ?_
    refine RJ.run ttok 5 rfl ?_
    refine RJ.fin [(0, .slice A1 a0.length c_1), (1, .int .i64 a1), (5, .pointer (some ⟨b1, 0, none⟩)), (6, .pointer (some ⟨b2, 0, none⟩)), (16, .bool true)] rfl ?_
    refine J.condT rfl ?_
    refine J.seq ?_
    refine J.region ?_
    refine RJ.run ttok 1 rfl ?_
    refine RJ.op rfl rfl (op_store ttok 0 rfl h2 rfl rfl rfl rfl rfl rfl rfl) ?_
    intro _ w3 h3
    replace h3 : St w0 F0 (boxC b2 23 [.string ⟨⟨([] : List UInt8)⟩⟩, .string ⟨⟨([] : List UInt8)⟩⟩, .bool false] :: _) _ w3 := h3
    refine RJ.run ttok 1 rfl ?_
    refine RJ.fin [(6, .pointer (some ⟨b2, 0, none⟩)), (7, .bool false)] rfl ?_
    refine J.ret ?_
    obtain rfl := Option.some.inj H
    exact ⟨_, _, _, (results_two rfl (rvcons (RV.cell ttok 0 h3 rfl rfl rfl rfl) (rvcons (RV.tmp rfl) rvnil)) rfl), ⟨rfl, rfl⟩, h3.only [] rfl⟩
  · replace H := ite_f c1 H
    refine RJ.know (t := 11) rfl (congrArg Value.bool c1) ?_
    refine RJ.run ttok 5 rfl ?_
    refine RJ.fin [(0, .slice A1 a0.length c_1), (1, .int .i64 a1), (5, .pointer (some ⟨b1, 0, none⟩)), (6, .pointer (some ⟨b2, 0, none⟩)), (16, .bool (decide ((a0.length : Int) < a1)))] rfl ?_
    refine J.cond rfl (fun c2 => ?_) (fun c2 => ?_)
    · replace H := ite_t c2 H
      refine J.seq ?_
      refine J.region ?_
      refine RJ.run ttok 1 rfl ?_
      refine RJ.op rfl rfl (op_store ttok 0 rfl h2 rfl rfl rfl rfl rfl rfl rfl) ?_
      intro _ w4 h4
      replace h4 : St w0 F0 (boxC b2 23 [.string ⟨⟨([] : List UInt8)⟩⟩, .string ⟨⟨([] : List UInt8)⟩⟩, .bool false] :: _) _ w4 := h4
      refine RJ.run ttok 1 rfl ?_
      refine RJ.fin [(6, .pointer (some ⟨b2, 0, none⟩)), (7, .bool false)] rfl ?_
      refine J.ret ?_
      obtain rfl := Option.some.inj H
      exact ⟨_, _, _, (results_two rfl (rvcons (RV.cell ttok 0 h4 rfl rfl rfl rfl) (rvcons (RV.tmp rfl) rvnil)) rfl), ⟨rfl, rfl⟩, h4.only [] rfl⟩
    · replace H := ite_f c2 H
      refine J.skip ?_
      refine J.seq ?_
      refine J.region ?_
      refine RJ.run ttok 5 rfl ?_
      refine RJ.op rfl rfl (op_alloc ttok rfl rfl h2) ?_
      rintro _ w5 ⟨b3, rfl, h5⟩
      refine RJ.op rfl rfl (op_store ttok 0 rfl h5 rfl rfl rfl rfl rfl rfl rfl) ?_
      intro _ w6 h6
      replace h6 : St w0 F0 (boxC b3 23 [.string ⟨⟨([] : List UInt8)⟩⟩, .string ⟨⟨([] : List UInt8)⟩⟩, .bool (decide (a1 = (a0.length : Int)))] :: _) _ w6 := h6
      refine RJ.fin [(0, .slice A1 a0.length c_1), (1, .int .i64 a1), (5, .pointer (some ⟨b1, 0, none⟩)), (6, .pointer (some ⟨b2, 0, none⟩)), (8, .pointer (some ⟨b3, 0, none⟩))] rfl ?_
      refine J.seq ?_
      refine J.seq ?_
      refine J.region ?_
      refine RJ.run ttok 2 rfl ?_
      refine RJ.fin [(0, .slice A1 a0.length c_1), (1, .int .i64 a1), (5, .pointer (some ⟨b1, 0, none⟩)), (6, .pointer (some ⟨b2, 0, none⟩)), (8, .pointer (some ⟨b3, 0, none⟩)), (24, .bool (decide (0 < a1)))] rfl ?_
      refine J.cond rfl (fun c3 => ?_) (fun c3 => ?_)
      · replace H := ite_t c3 H
        refine J.region ?_
        refine RJ.run ttok 3 rfl ?_
        obtain ⟨⟨p1, p2⟩, H⟩ := guard_t H
        have e1 := elem_A h6.wh (Gives.self 3 rfl) p1 p2
        refine RJ.q rfl rfl (q_index ttok rfl rfl rfl rfl rfl e1 p1 p2) ?_
        refine RJ.q rfl rfl (q_load_elem (f := 0) ttok rfl (fun w e => e ▸ h6.wh) (Gives.self 3 rfl) p1 p2 rfl rfl rfl rfl rfl) ?_
        refine RJ.run ttok 1 rfl ?_
        refine RJ.op rfl rfl (op_store ttok 0 rfl h6 rfl rfl rfl rfl rfl rfl rfl) ?_
        intro _ w7 h7
        replace h7 : St w0 F0 (boxC b3 23 [.string ⟨⟨(gt a0 (w64 (a1 - 1)))⟩⟩, .string ⟨⟨([] : List UInt8)⟩⟩, .bool (decide (a1 = (a0.length : Int)))] :: _) _ w7 := h7
        refine RJ.fin [(0, .slice A1 a0.length c_1), (1, .int .i64 a1), (5, .pointer (some ⟨b1, 0, none⟩)), (6, .pointer (some ⟨b2, 0, none⟩)), (8, .pointer (some ⟨b3, 0, none⟩))] rfl ?_
        refine J.seq ?_
        refine J.seq ?_
        refine J.region ?_
        refine RJ.run ttok 1 rfl ?_
        refine RJ.q rfl rfl (q_load_box ttok 0 (fun w e => e ▸ h7.wh) rfl rfl rfl rfl rfl) ?_
        refine RJ.run ttok 1 rfl ?_
        refine RJ.fin [(0, .slice A1 a0.length c_1), (1, .int .i64 a1), (5, .pointer (some ⟨b1, 0, none⟩)), (6, .pointer (some ⟨b2, 0, none⟩)), (8, .pointer (some ⟨b3, 0, none⟩)), (33, .bool (!(decide (a1 = (a0.length : Int)))))] rfl ?_
        refine J.cond rfl (fun c4 => ?_) (fun c4 => ?_)
        · replace H := ite_t c4 H
          refine J.region ?_
          refine RJ.run ttok 2 rfl ?_
          obtain ⟨⟨p3, p4⟩, H⟩ := guard_t H
          refine RJ.q rfl rfl (q_index ttok rfl rfl rfl rfl rfl e1 p3 p4) ?_
          refine RJ.q rfl rfl (q_load_elem (f := 0) ttok rfl (fun w e => e ▸ h7.wh) (Gives.self 3 rfl) p3 p4 rfl rfl rfl rfl rfl) ?_
          refine RJ.run ttok 1 rfl ?_
          refine RJ.op rfl rfl (op_store ttok 0 rfl h7 rfl rfl rfl rfl rfl rfl rfl) ?_
          intro _ w8 h8
          replace h8 : St w0 F0 (boxC b3 23 [.string ⟨⟨(gt a0 (w64 (a1 - 1)))⟩⟩, .string ⟨⟨(gt a0 a1)⟩⟩, .bool (decide (a1 = (a0.length : Int)))] :: _) _ w8 := h8
          refine RJ.fin [(5, .pointer (some ⟨b1, 0, none⟩)), (6, .pointer (some ⟨b2, 0, none⟩)), (8, .pointer (some ⟨b3, 0, none⟩))] rfl ?_
          refine J.seq ?_
          refine J.region ?_
          refine RJ.q rfl rfl (q_load_box ttok 0 (fun w e => e ▸ h8.wh) rfl rfl rfl rfl rfl) ?_
          refine RJ.q rfl rfl (q_load_box ttok 2 (fun w e => e ▸ h8.wh) rfl rfl rfl rfl rfl) ?_
          obtain ⟨r1, q1, H⟩ := bind_t H
          refine RJ.op rfl rfl (op_call [] (lex_Meet.spec q1) rfl rfl rfl h8 rfl gnil) ?_
          rintro _ w9 ⟨_, ⟨rfl, rfl⟩, h9⟩
          refine RJ.run ttok 2 rfl ?_
          refine RJ.op rfl rfl (op_store ttok 1 rfl h9 rfl rfl rfl rfl rfl rfl rfl) ?_
          intro _ w10 h10
          replace h10 : St w0 F0 (boxC b2 23 [.string ⟨⟨r1.1.1⟩⟩, .string ⟨⟨r1.1.2.1⟩⟩, .bool r1.1.2.2] :: _) _ w10 := h10
          refine RJ.run ttok 1 rfl ?_
          refine RJ.fin [(6, .pointer (some ⟨b2, 0, none⟩)), (7, .bool r1.2)] rfl ?_
          refine J.ret ?_
          obtain rfl := Option.some.inj H
          exact ⟨_, _, _, (results_two rfl (rvcons (RV.cell ttok 0 h10 rfl rfl rfl rfl) (rvcons (RV.tmp rfl) rvnil)) rfl), ⟨rfl, rfl⟩, h10.only [] rfl⟩
        · replace H := ite_f c4 H
          refine J.skip ?_
          refine J.seq ?_
          refine J.region ?_
          refine RJ.q rfl rfl (q_load_box ttok 0 (fun w e => e ▸ h7.wh) rfl rfl rfl rfl rfl) ?_
          refine RJ.q rfl rfl (q_load_box ttok 2 (fun w e => e ▸ h7.wh) rfl rfl rfl rfl rfl) ?_
          obtain ⟨r2, q2, H⟩ := bind_t H
          refine RJ.op rfl rfl (op_call [] (lex_Meet.spec q2) rfl rfl rfl h7 rfl gnil) ?_
          rintro _ w11 ⟨_, ⟨rfl, rfl⟩, h11⟩
          refine RJ.run ttok 2 rfl ?_
          refine RJ.op rfl rfl (op_store ttok 1 rfl h11 rfl rfl rfl rfl rfl rfl rfl) ?_
          intro _ w12 h12
          replace h12 : St w0 F0 (boxC b2 23 [.string ⟨⟨r2.1.1⟩⟩, .string ⟨⟨r2.1.2.1⟩⟩, .bool r2.1.2.2] :: _) _ w12 := h12
          refine RJ.run ttok 1 rfl ?_
          refine RJ.fin [(6, .pointer (some ⟨b2, 0, none⟩)), (7, .bool r2.2)] rfl ?_
          refine J.ret ?_
          obtain rfl := Option.some.inj H
          exact ⟨_, _, _, (results_two rfl (rvcons (RV.cell ttok 0 h12 rfl rfl rfl rfl) (rvcons (RV.tmp rfl) rvnil)) rfl), ⟨rfl, rfl⟩, h12.only [] rfl⟩
      · replace H := ite_f c3 H
        refine J.skip ?_
        refine J.seq ?_
        refine J.seq ?_
        refine J.region ?_
        refine RJ.run ttok 1 rfl ?_
        refine RJ.q rfl rfl (q_load_box ttok 0 (fun w e => e ▸ h6.wh) rfl rfl rfl rfl rfl) ?_
        refine RJ.run ttok 1 rfl ?_
        refine RJ.fin [(0, .slice A1 a0.length c_1), (1, .int .i64 a1), (5, .pointer (some ⟨b1, 0, none⟩)), (6, .pointer (some ⟨b2, 0, none⟩)), (8, .pointer (some ⟨b3, 0, none⟩)), (33, .bool (!(decide (a1 = (a0.length : Int)))))] rfl ?_
        refine J.cond rfl (fun c5 => ?_) (fun c5 => ?_)
        · replace H := ite_t c5 H
          refine J.region ?_
          refine RJ.run ttok 2 rfl ?_
          obtain ⟨⟨p5, p6⟩, H⟩ := guard_t H
          have e2 := elem_A h6.wh (Gives.self 3 rfl) p5 p6
          refine RJ.q rfl rfl (q_index ttok rfl rfl rfl rfl rfl e2 p5 p6) ?_
          refine RJ.q rfl rfl (q_load_elem (f := 0) ttok rfl (fun w e => e ▸ h6.wh) (Gives.self 3 rfl) p5 p6 rfl rfl rfl rfl rfl) ?_
          refine RJ.run ttok 1 rfl ?_
          refine RJ.op rfl rfl (op_store ttok 0 rfl h6 rfl rfl rfl rfl rfl rfl rfl) ?_
          intro _ w13 h13
          replace h13 : St w0 F0 (boxC b3 23 [.string ⟨⟨([] : List UInt8)⟩⟩, .string ⟨⟨(gt a0 a1)⟩⟩, .bool (decide (a1 = (a0.length : Int)))] :: _) _ w13 := h13
          refine RJ.fin [(5, .pointer (some ⟨b1, 0, none⟩)), (6, .pointer (some ⟨b2, 0, none⟩)), (8, .pointer (some ⟨b3, 0, none⟩))] rfl ?_
          refine J.seq ?_
          refine J.region ?_
          refine RJ.q rfl rfl (q_load_box ttok 0 (fun w e => e ▸ h13.wh) rfl rfl rfl rfl rfl) ?_
          refine RJ.q rfl rfl (q_load_box ttok 2 (fun w e => e ▸ h13.wh) rfl rfl rfl rfl rfl) ?_
          obtain ⟨r3, q3, H⟩ := bind_t H
          refine RJ.op rfl rfl (op_call [] (lex_Meet.spec q3) rfl rfl rfl h13 rfl gnil) ?_
          rintro _ w14 ⟨_, ⟨rfl, rfl⟩, h14⟩
          refine RJ.run ttok 2 rfl ?_
          refine RJ.op rfl rfl (op_store ttok 1 rfl h14 rfl rfl rfl rfl rfl rfl rfl) ?_
          intro _ w15 h15
          replace h15 : St w0 F0 (boxC b2 23 [.string ⟨⟨r3.1.1⟩⟩, .string ⟨⟨r3.1.2.1⟩⟩, .bool r3.1.2.2] :: _) _ w15 := h15
          refine RJ.run ttok 1 rfl ?_
          refine RJ.fin [(6, .pointer (some ⟨b2, 0, none⟩)), (7, .bool r3.2)] rfl ?_
          refine J.ret ?_
          obtain rfl := Option.some.inj H
          exact ⟨_, _, _, (results_two rfl (rvcons (RV.cell ttok 0 h15 rfl rfl rfl rfl) (rvcons (RV.tmp rfl) rvnil)) rfl), ⟨rfl, rfl⟩, h15.only [] rfl⟩
        · replace H := ite_f c5 H
          refine J.skip ?_
          refine J.seq ?_
          refine J.region ?_
          refine RJ.q rfl rfl (q_load_box ttok 0 (fun w e => e ▸ h6.wh) rfl rfl rfl rfl rfl) ?_
          refine RJ.q rfl rfl (q_load_box ttok 2 (fun w e => e ▸ h6.wh) rfl rfl rfl rfl rfl) ?_
          obtain ⟨r4, q4, H⟩ := bind_t H
          refine RJ.op rfl rfl (op_call [] (lex_Meet.spec q4) rfl rfl rfl h6 rfl gnil) ?_
          rintro _ w16 ⟨_, ⟨rfl, rfl⟩, h16⟩
          refine RJ.run ttok 2 rfl ?_
          refine RJ.op rfl rfl (op_store ttok 1 rfl h16 rfl rfl rfl rfl rfl rfl rfl) ?_
          intro _ w17 h17
          replace h17 : St w0 F0 (boxC b2 23 [.string ⟨⟨r4.1.1⟩⟩, .string ⟨⟨r4.1.2.1⟩⟩, .bool r4.1.2.2] :: _) _ w17 := h17
          refine RJ.run ttok 1 rfl ?_
          refine RJ.fin [(6, .pointer (some ⟨b2, 0, none⟩)), (7, .bool r4.2)] rfl ?_
          refine J.ret ?_
          obtain rfl := Option.some.inj H
          exact ⟨_, _, _, (results_two rfl (rvcons (RV.cell ttok 0 h17 rfl rfl rfl rfl) (rvcons (RV.tmp rfl) rvnil)) rfl), ⟨rfl, rfl⟩, h17.only [] rfl⟩

/-! sluicegate/sluicegateref01.Empty -/
def sluicegateref01_Empty.f (k : Nat) (a0 : List UInt8 × List UInt8 × Bool) : Option (Bool) := (sluicegateref01_In.f k (a0.1, a0.2.1, a0.2.2) a0.1).bind fun r1 => (some (!r1))
set_option maxRecDepth 20000 in
theorem sluicegateref01_Empty.spec {k : Nat} {a0 : List UInt8 × List UInt8 × Bool}  {r : Bool} (H : sluicegateref01_Empty.f k a0 = some r) :
    Spec Try.prog 18 [.agg #[.string ⟨⟨a0.1⟩⟩, .string ⟨⟨a0.2.1⟩⟩, .bool a0.2.2]] [] [] (fun v l => v = .bool r ∧ l = []) := by
  refine Spec.enter Try.func18 rfl (by kernel_rfl) (by kernel_rfl) fun w0 F0 h0 => ?_
  unfold sluicegateref01_Empty.f at H
  refine J.seq ?_
  refine J.region ?_
  refine RJ.op rfl rfl (op_box rfl rfl h0) ?_
  rintro _ w1 ⟨b1, rfl, h1⟩
  refine RJ.run ttok 1 rfl ?_
  refine RJ.fin [(1, .pointer (some ⟨b1, 0, none⟩))] rfl ?_
  refine J.seq ?_
  refine J.region ?_
  refine RJ.q rfl rfl (q_load_box ttok 0 (fun w e => e ▸ h1.wh) rfl rfl rfl rfl rfl) ?_
  refine RJ.run ttok 1 rfl ?_
  refine RJ.q rfl rfl (q_load_box ttok 0 (fun w e => e ▸ h1.wh) rfl rfl rfl rfl rfl) ?_
  obtain ⟨r1, q1, H⟩ := bind_t H
  refine RJ.op rfl rfl (op_call [] (sluicegateref01_In.spec q1) rfl rfl rfl h1 rfl gnil) ?_
  rintro _ w2 ⟨_, ⟨rfl, rfl⟩, h2⟩
  refine RJ.run ttok 2 rfl ?_
  refine RJ.fin [(2, .bool (!r1))] rfl ?_
  refine J.ret ?_
  obtain rfl := Option.some.inj H
  exact ⟨_, _, _, (results_slots rfl), ⟨rfl, rfl⟩, h2.only [] rfl⟩

/-! sluicegate/sluicegateref12.Span -/
def sluicegateref12_Span.f (k : Nat) (a0 : List (List UInt8)) (a1 : Int) (a2 : List UInt8 × List UInt8 × Bool) : Option ((List UInt8 × List UInt8 × Bool) × Bool) := if (decide (a1 < 0)) = true then (some ((([] : List UInt8), ([] : List UInt8), false), false)) else (if (decide ((a0.length : Int) < a1)) = true then (some ((([] : List UInt8), ([] : List UInt8), false), false)) else (if (decide (0 < a1)) = true then (if 0 ≤ (w64 (a1 - 1)) ∧ (w64 (a1 - 1)) < (a0.length : Int) then ((sluicegateref01_Compare.f k (gt a0 (w64 (a1 - 1))) a2.1).bind fun r1 => (if (decide (0 < r1)) = true then (if (decide (a1 < (a0.length : Int))) = true then (if a2.2.2 = true then (if 0 ≤ a1 ∧ a1 < (a0.length : Int) then ((sluicegateref01_Empty.f k ((gt a0 (w64 (a1 - 1))), (gt a0 a1), false)).bind fun r2 => (if r2 = true then (some ((([] : List UInt8), ([] : List UInt8), false), false)) else (some (((gt a0 (w64 (a1 - 1))), (gt a0 a1), false), true)))) else none) else (if 0 ≤ a1 ∧ a1 < (a0.length : Int) then ((sluicegateref01_Compare.f k (gt a0 a1) a2.2.1).bind fun r3 => (if (decide (r3 < 0)) = true then ((sluicegateref01_Empty.f k ((gt a0 (w64 (a1 - 1))), (gt a0 a1), false)).bind fun r4 => (if r4 = true then (some ((([] : List UInt8), ([] : List UInt8), false), false)) else (some (((gt a0 (w64 (a1 - 1))), (gt a0 a1), false), true)))) else ((sluicegateref01_Empty.f k ((gt a0 (w64 (a1 - 1))), a2.2.1, a2.2.2)).bind fun r5 => (if r5 = true then (some ((([] : List UInt8), ([] : List UInt8), false), false)) else (some (((gt a0 (w64 (a1 - 1))), a2.2.1, a2.2.2), true)))))) else none)) else (if a2.2.2 = true then ((sluicegateref01_Empty.f k ((gt a0 (w64 (a1 - 1))), ([] : List UInt8), a2.2.2)).bind fun r6 => (if r6 = true then (some ((([] : List UInt8), ([] : List UInt8), false), false)) else (some (((gt a0 (w64 (a1 - 1))), ([] : List UInt8), a2.2.2), true)))) else ((sluicegateref01_Empty.f k ((gt a0 (w64 (a1 - 1))), a2.2.1, a2.2.2)).bind fun r7 => (if r7 = true then (some ((([] : List UInt8), ([] : List UInt8), false), false)) else (some (((gt a0 (w64 (a1 - 1))), a2.2.1, a2.2.2), true)))))) else (if (decide (a1 < (a0.length : Int))) = true then (if a2.2.2 = true then (if 0 ≤ a1 ∧ a1 < (a0.length : Int) then ((sluicegateref01_Empty.f k (a2.1, (gt a0 a1), false)).bind fun r8 => (if r8 = true then (some ((([] : List UInt8), ([] : List UInt8), false), false)) else (some ((a2.1, (gt a0 a1), false), true)))) else none) else (if 0 ≤ a1 ∧ a1 < (a0.length : Int) then ((sluicegateref01_Compare.f k (gt a0 a1) a2.2.1).bind fun r9 => (if (decide (r9 < 0)) = true then ((sluicegateref01_Empty.f k (a2.1, (gt a0 a1), false)).bind fun r10 => (if r10 = true then (some ((([] : List UInt8), ([] : List UInt8), false), false)) else (some ((a2.1, (gt a0 a1), false), true)))) else ((sluicegateref01_Empty.f k (a2.1, a2.2.1, a2.2.2)).bind fun r11 => (if r11 = true then (some ((([] : List UInt8), ([] : List UInt8), false), false)) else (some ((a2.1, a2.2.1, a2.2.2), true)))))) else none)) else (if a2.2.2 = true then ((sluicegateref01_Empty.f k (a2.1, ([] : List UInt8), a2.2.2)).bind fun r12 => (if r12 = true then (some ((([] : List UInt8), ([] : List UInt8), false), false)) else (some ((a2.1, ([] : List UInt8), a2.2.2), true)))) else ((sluicegateref01_Empty.f k (a2.1, a2.2.1, a2.2.2)).bind fun r13 => (if r13 = true then (some ((([] : List UInt8), ([] : List UInt8), false), false)) else (some ((a2.1, a2.2.1, a2.2.2), true)))))))) else none) else (if (decide (a1 < (a0.length : Int))) = true then (if a2.2.2 = true then (if 0 ≤ a1 ∧ a1 < (a0.length : Int) then ((sluicegateref01_Empty.f k (a2.1, (gt a0 a1), false)).bind fun r14 => (if r14 = true then (some ((([] : List UInt8), ([] : List UInt8), false), false)) else (some ((a2.1, (gt a0 a1), false), true)))) else none) else (if 0 ≤ a1 ∧ a1 < (a0.length : Int) then ((sluicegateref01_Compare.f k (gt a0 a1) a2.2.1).bind fun r15 => (if (decide (r15 < 0)) = true then ((sluicegateref01_Empty.f k (a2.1, (gt a0 a1), false)).bind fun r16 => (if r16 = true then (some ((([] : List UInt8), ([] : List UInt8), false), false)) else (some ((a2.1, (gt a0 a1), false), true)))) else ((sluicegateref01_Empty.f k (a2.1, a2.2.1, a2.2.2)).bind fun r17 => (if r17 = true then (some ((([] : List UInt8), ([] : List UInt8), false), false)) else (some ((a2.1, a2.2.1, a2.2.2), true)))))) else none)) else (if a2.2.2 = true then ((sluicegateref01_Empty.f k (a2.1, ([] : List UInt8), a2.2.2)).bind fun r18 => (if r18 = true then (some ((([] : List UInt8), ([] : List UInt8), false), false)) else (some ((a2.1, ([] : List UInt8), a2.2.2), true)))) else ((sluicegateref01_Empty.f k (a2.1, a2.2.1, a2.2.2)).bind fun r19 => (if r19 = true then (some ((([] : List UInt8), ([] : List UInt8), false), false)) else (some ((a2.1, a2.2.1, a2.2.2), true))))))))
set_option maxRecDepth 20000 in
theorem sluicegateref12_Span.spec {k : Nat} {a0 : List (List UInt8)} {a1 : Int} {a2 : List UInt8 × List UInt8 × Bool} {A1 : Option Addr} {c_1 : Nat} {r : (List UInt8 × List UInt8 × Bool) × Bool} (H : sluicegateref12_Span.f k a0 a1 a2 = some r) :
    Spec Try.prog 40 [.slice A1 a0.length c_1, .int .i64 a1, .agg #[.string ⟨⟨a2.1⟩⟩, .string ⟨⟨a2.2.1⟩⟩, .bool a2.2.2]] [] [rdC 9 .str a0 (.slice A1 a0.length c_1)] (fun v l => v = .tuple #[.agg #[.string ⟨⟨r.1.1⟩⟩, .string ⟨⟨r.1.2.1⟩⟩, .bool r.1.2.2], .bool r.2] ∧ l = []) := by
  refine Spec.enter Try.func40 rfl (by kernel_rfl) (by kernel_rfl) fun w0 F0 h0 => ?_
  unfold sluicegateref12_Span.f at H
  refine J.seq ?_
  refine J.region ?_
  refine RJ.op rfl rfl (op_box rfl rfl h0) ?_
  rintro _ w1 ⟨b1, rfl, h1⟩
  refine RJ.op rfl rfl (op_alloc ttok rfl rfl h1) ?_
  rintro _ w2 ⟨b2, rfl, h2⟩
  refine RJ.run ttok 1 rfl ?_
  refine RJ.fin [(0, .slice A1 a0.length c_1), (1, .int .i64 a1), (5, .pointer (some ⟨b1, 0, none⟩)), (6, .pointer (some ⟨b2, 0, none⟩))] rfl ?_
  refine J.seq ?_
  refine J.seq ?_
  refine J.region ?_
  refine RJ.run ttok 3 rfl ?_
  rcases Bool.eq_false_or_eq_true (decide (a1 < 0)) with c1 | c1
  · replace H := ite_t c1 H
    refine RJ.know (t := 10) rfl (congrArg Value.bool c1) ?_
    refine RJ.run ttok 5 rfl ?_
    refine RJ.fin [(0, .slice A1 a0.length c_1), (1, .int .i64 a1), (5, .pointer (some ⟨b1, 0, none⟩)), (6, .pointer (some ⟨b2, 0, none⟩)), (15, .bool true)] rfl ?_
    refine J.condT rfl ?_
    refine J.seq ?_
    refine J.region ?_
    refine RJ.run ttok 1 rfl ?_
    refine RJ.op rfl rfl (op_store ttok 0 rfl h2 rfl rfl rfl rfl rfl rfl rfl) ?_
    intro _ w3 h3
    replace h3 : St w0 F0 (boxC b2 23 [.string ⟨⟨([] : List UInt8)⟩⟩, .string ⟨⟨([] : List UInt8)⟩⟩, .bool false] :: _) _ w3 := h3
    refine RJ.run ttok 1 rfl ?_
    refine RJ.fin [(6, .pointer (some ⟨b2, 0, none⟩)), (7, .bool false)] rfl ?_
    refine J.ret ?_
    obtain rfl := Option.some.inj H
    exact ⟨_, _, _, (results_two rfl (rvcons (RV.cell ttok 0 h3 rfl rfl rfl rfl) (rvcons (RV.tmp rfl) rvnil)) rfl), ⟨rfl, rfl⟩, h3.only [] rfl⟩
  · replace H := ite_f c1 H
    refine RJ.know (t := 10) rfl (congrArg Value.bool c1) ?_
    refine RJ.run ttok 5 rfl ?_
    refine RJ.fin [(0, .slice A1 a0.length c_1), (1, .int .i64 a1), (5, .pointer (some ⟨b1, 0, none⟩)), (6, .pointer (some ⟨b2, 0, none⟩)), (15, .bool (decide ((a0.length : Int) < a1)))] rfl ?_
    refine J.cond rfl (fun c2 => ?_) (fun c2 => ?_)
    · replace H := ite_t c2 H
      refine J.seq ?_
      refine J.region ?_
      refine RJ.run ttok 1 rfl ?_
      refine RJ.op rfl rfl (op_store ttok 0 rfl h2 rfl rfl rfl rfl rfl rfl rfl) ?_
      intro _ w4 h4
      replace h4 : St w0 F0 (boxC b2 23 [.string ⟨⟨([] : List UInt8)⟩⟩, .string ⟨⟨([] : List UInt8)⟩⟩, .bool false] :: _) _ w4 := h4
      refine RJ.run ttok 1 rfl ?_
      refine RJ.fin [(6, .pointer (some ⟨b2, 0, none⟩)), (7, .bool false)] rfl ?_
      refine J.ret ?_
      obtain rfl := Option.some.inj H
      exact ⟨_, _, _, (results_two rfl (rvcons (RV.cell ttok 0 h4 rfl rfl rfl rfl) (rvcons (RV.tmp rfl) rvnil)) rfl), ⟨rfl, rfl⟩, h4.only [] rfl⟩
    · replace H := ite_f c2 H
      refine J.skip ?_
      refine J.seq ?_
      refine J.seq ?_
      refine J.heldSt mix h2 ?_
      have h5 := h2.drew
      refine HJ.run ttok rfl [0, 1, 2] rfl ?_
      rcases Bool.eq_false_or_eq_true (decide (0 < a1)) with c3 | c3
      · replace H := ite_t c3 H
        refine HJ.know (t := 19) rfl (congrArg Value.bool c3) ?_
        refine HJ.run ttok rfl [3, 4, 5, 8] rfl ?_
        obtain ⟨⟨p1, p2⟩, H⟩ := guard_t H
        have e1 := elem_A h5.wh (Gives.self 2 rfl) p1 p2
        refine HJ.q (i := 6) rfl rfl rfl rfl rfl rfl (q_index ttok rfl rfl rfl rfl rfl e1 p1 p2) ?_
        refine HJ.q (i := 7) rfl rfl rfl rfl rfl rfl (q_load_elem (f := 0) ttok rfl (fun w e => e) (Gives.self 2 rfl) p1 p2 rfl rfl rfl rfl rfl) ?_
        refine HJ.q (i := 9) rfl rfl rfl rfl rfl rfl (q_load_box ttok 1 (fun w e => e) rfl rfl rfl rfl rfl) ?_
        obtain ⟨r1, q1, H⟩ := bind_t H
        refine HJ.op (i := 10) rfl rfl rfl rfl rfl (op_call [] (sluicegateref01_Compare.spec q1) rfl rfl rfl h5 rfl gnil) ?_
        rintro _ w5 ⟨_, ⟨rfl, rfl⟩, h6⟩
        refine ⟨⟨[], h6⟩, ?_⟩
        refine HJ.run ttok rfl [11, 12] rfl ?_
        refine HJ.fin [(0, .slice A1 a0.length c_1), (1, .int .i64 a1), (5, .pointer (some ⟨b1, 0, none⟩)), (6, .pointer (some ⟨b2, 0, none⟩)), (29, .bool (decide (0 < r1)))] rfl rfl ?_
        refine J.cond rfl (fun c4 => ?_) (fun c4 => ?_)
        · replace H := ite_t c4 H
          refine J.region ?_
          refine RJ.run ttok 3 rfl ?_
          refine RJ.q rfl rfl (q_index ttok rfl rfl rfl rfl rfl e1 p1 p2) ?_
          refine RJ.q rfl rfl (q_load_elem (f := 0) ttok rfl (fun w e => e ▸ h6.wh) (Gives.self 2 rfl) p1 p2 rfl rfl rfl rfl rfl) ?_
          refine RJ.run ttok 1 rfl ?_
          refine RJ.op rfl rfl (op_store ttok 1 rfl h6 rfl rfl rfl rfl rfl rfl rfl) ?_
          intro _ w6 h7
          replace h7 : St w0 F0 (boxC b1 23 [.string ⟨⟨(gt a0 (w64 (a1 - 1)))⟩⟩, .string ⟨⟨a2.2.1⟩⟩, .bool a2.2.2] :: _) _ w6 := h7
          refine RJ.fin [(0, .slice A1 a0.length c_1), (1, .int .i64 a1), (5, .pointer (some ⟨b1, 0, none⟩)), (6, .pointer (some ⟨b2, 0, none⟩))] rfl ?_
          refine J.seq ?_
          refine J.seq ?_
          refine J.heldSt mix h7 ?_
          have h8 := h7.drew
          refine HJ.run ttok rfl [0, 1, 2, 3, 4] rfl ?_
          rcases Bool.eq_false_or_eq_true (decide (a1 < (a0.length : Int))) with c5 | c5
          · replace H := ite_t c5 H
            refine HJ.know (t := 40) rfl (congrArg Value.bool c5) ?_
            refine HJ.run ttok rfl [5] rfl ?_
            refine HJ.q (i := 6) rfl rfl rfl rfl rfl rfl (q_load_box ttok 0 (fun w e => e) rfl rfl rfl rfl rfl) ?_
            refine HJ.run ttok rfl [7] rfl ?_
            rcases Bool.eq_false_or_eq_true a2.2.2 with c6 | c6
            · replace H := ite_t c6 H
              refine HJ.know (t := 43) rfl (congrArg Value.bool c6) ?_
              refine HJ.run ttok rfl [8, 9, 10, 11, 12, 13, 14, 15, 16, 17] rfl ?_
              refine HJ.fin [(0, .slice A1 a0.length c_1), (1, .int .i64 a1), (5, .pointer (some ⟨b1, 0, none⟩)), (6, .pointer (some ⟨b2, 0, none⟩)), (53, .bool true)] rfl rfl ?_
              refine J.condT rfl ?_
              refine J.seq ?_
              refine J.region ?_
              refine RJ.run ttok 2 rfl ?_
              obtain ⟨⟨p3, p4⟩, H⟩ := guard_t H
              refine RJ.q rfl rfl (q_index ttok rfl rfl rfl rfl rfl e1 p3 p4) ?_
              refine RJ.q rfl rfl (q_load_elem (f := 0) ttok rfl (fun w e => e ▸ h8.wh) (Gives.self 2 rfl) p3 p4 rfl rfl rfl rfl rfl) ?_
              refine RJ.run ttok 1 rfl ?_
              refine RJ.op rfl rfl (op_store ttok 0 rfl h8 rfl rfl rfl rfl rfl rfl rfl) ?_
              intro _ w7 h9
              replace h9 : St w0 F0 (boxC b1 23 [.string ⟨⟨(gt a0 (w64 (a1 - 1)))⟩⟩, .string ⟨⟨(gt a0 a1)⟩⟩, .bool a2.2.2] :: _) _ w7 := h9
              refine RJ.fin [(5, .pointer (some ⟨b1, 0, none⟩)), (6, .pointer (some ⟨b2, 0, none⟩))] rfl ?_
              refine J.region ?_
              refine RJ.run ttok 1 rfl ?_
              refine RJ.op rfl rfl (op_store ttok 0 rfl h9 rfl rfl rfl rfl rfl rfl rfl) ?_
              intro _ w8 h10
              replace h10 : St w0 F0 (boxC b1 23 [.string ⟨⟨(gt a0 (w64 (a1 - 1)))⟩⟩, .string ⟨⟨(gt a0 a1)⟩⟩, .bool false] :: _) _ w8 := h10
              refine RJ.fin [(5, .pointer (some ⟨b1, 0, none⟩)), (6, .pointer (some ⟨b2, 0, none⟩))] rfl ?_
              refine J.seq ?_
              refine J.seq ?_
              refine J.region ?_
              refine RJ.run ttok 1 rfl ?_
              refine RJ.q rfl rfl (q_load_box ttok 0 (fun w e => e ▸ h10.wh) rfl rfl rfl rfl rfl) ?_
              refine RJ.fin [(5, .pointer (some ⟨b1, 0, none⟩)), (6, .pointer (some ⟨b2, 0, none⟩)), (61, .bool false)] rfl ?_
              refine J.condF rfl ?_
              refine J.skip ?_
              refine J.seq ?_
              refine J.seq ?_
              refine J.region ?_
              refine RJ.q rfl rfl (q_load_box ttok 0 (fun w e => e ▸ h10.wh) rfl rfl rfl rfl rfl) ?_
              obtain ⟨r2, q2, H⟩ := bind_t H
              refine RJ.op rfl rfl (op_call [] (sluicegateref01_Empty.spec q2) rfl rfl rfl h10 rfl gnil) ?_
              rintro _ w9 ⟨_, ⟨rfl, rfl⟩, h11⟩
              refine RJ.fin [(5, .pointer (some ⟨b1, 0, none⟩)), (6, .pointer (some ⟨b2, 0, none⟩)), (64, .bool r2)] rfl ?_
              refine J.cond rfl (fun c7 => ?_) (fun c7 => ?_)
              · replace H := ite_t c7 H
                refine J.seq ?_
                refine J.region ?_
                refine RJ.run ttok 1 rfl ?_
                refine RJ.op rfl rfl (op_store ttok 1 rfl h11 rfl rfl rfl rfl rfl rfl rfl) ?_
                intro _ w10 h12
                replace h12 : St w0 F0 (boxC b2 23 [.string ⟨⟨([] : List UInt8)⟩⟩, .string ⟨⟨([] : List UInt8)⟩⟩, .bool false] :: _) _ w10 := h12
                refine RJ.run ttok 1 rfl ?_
                refine RJ.fin [(6, .pointer (some ⟨b2, 0, none⟩)), (7, .bool false)] rfl ?_
                refine J.ret ?_
                obtain rfl := Option.some.inj H
                exact ⟨_, _, _, (results_two rfl (rvcons (RV.cell ttok 0 h12 rfl rfl rfl rfl) (rvcons (RV.tmp rfl) rvnil)) rfl), ⟨rfl, rfl⟩, h12.only [] rfl⟩
              · replace H := ite_f c7 H
                refine J.skip ?_
                refine J.seq ?_
                refine J.region ?_
                refine RJ.q rfl rfl (q_load_box ttok 0 (fun w e => e ▸ h11.wh) rfl rfl rfl rfl rfl) ?_
                refine RJ.op rfl rfl (op_store ttok 1 rfl h11 rfl rfl rfl rfl rfl rfl rfl) ?_
                intro _ w11 h13
                replace h13 : St w0 F0 (boxC b2 23 [.string ⟨⟨(gt a0 (w64 (a1 - 1)))⟩⟩, .string ⟨⟨(gt a0 a1)⟩⟩, .bool false] :: _) _ w11 := h13
                refine RJ.run ttok 1 rfl ?_
                refine RJ.fin [(6, .pointer (some ⟨b2, 0, none⟩)), (7, .bool true)] rfl ?_
                refine J.ret ?_
                obtain rfl := Option.some.inj H
                exact ⟨_, _, _, (results_two rfl (rvcons (RV.cell ttok 0 h13 rfl rfl rfl rfl) (rvcons (RV.tmp rfl) rvnil)) rfl), ⟨rfl, rfl⟩, h13.only [] rfl⟩
            · replace H := ite_f c6 H
              refine HJ.know (t := 43) rfl (congrArg Value.bool c6) ?_
              refine HJ.run ttok rfl [8, 9, 12] rfl ?_
              obtain ⟨⟨p5, p6⟩, H⟩ := guard_t H
              refine HJ.q (i := 10) rfl rfl rfl rfl rfl rfl (q_index ttok rfl rfl rfl rfl rfl e1 p5 p6) ?_
              refine HJ.q (i := 11) rfl rfl rfl rfl rfl rfl (q_load_elem (f := 0) ttok rfl (fun w e => e) (Gives.self 2 rfl) p5 p6 rfl rfl rfl rfl rfl) ?_
              refine HJ.q (i := 13) rfl rfl rfl rfl rfl rfl (q_load_box ttok 0 (fun w e => e) rfl rfl rfl rfl rfl) ?_
              obtain ⟨r3, q3, H⟩ := bind_t H
              refine HJ.op (i := 14) rfl rfl rfl rfl rfl (op_call [] (sluicegateref01_Compare.spec q3) rfl rfl rfl h8 rfl gnil) ?_
              rintro _ w12 ⟨_, ⟨rfl, rfl⟩, h14⟩
              refine ⟨⟨[], h14⟩, ?_⟩
              refine HJ.run ttok rfl [15, 16, 17] rfl ?_
              refine HJ.fin [(0, .slice A1 a0.length c_1), (1, .int .i64 a1), (5, .pointer (some ⟨b1, 0, none⟩)), (6, .pointer (some ⟨b2, 0, none⟩)), (53, .bool (decide (r3 < 0)))] rfl rfl ?_
              refine J.cond rfl (fun c8 => ?_) (fun c8 => ?_)
              · replace H := ite_t c8 H
                refine J.seq ?_
                refine J.region ?_
                refine RJ.run ttok 2 rfl ?_
                refine RJ.q rfl rfl (q_index ttok rfl rfl rfl rfl rfl e1 p5 p6) ?_
                refine RJ.q rfl rfl (q_load_elem (f := 0) ttok rfl (fun w e => e ▸ h14.wh) (Gives.self 2 rfl) p5 p6 rfl rfl rfl rfl rfl) ?_
                refine RJ.run ttok 1 rfl ?_
                refine RJ.op rfl rfl (op_store ttok 0 rfl h14 rfl rfl rfl rfl rfl rfl rfl) ?_
                intro _ w13 h15
                replace h15 : St w0 F0 (boxC b1 23 [.string ⟨⟨(gt a0 (w64 (a1 - 1)))⟩⟩, .string ⟨⟨(gt a0 a1)⟩⟩, .bool a2.2.2] :: _) _ w13 := h15
                refine RJ.fin [(5, .pointer (some ⟨b1, 0, none⟩)), (6, .pointer (some ⟨b2, 0, none⟩))] rfl ?_
                refine J.region ?_
                refine RJ.run ttok 1 rfl ?_
                refine RJ.op rfl rfl (op_store ttok 0 rfl h15 rfl rfl rfl rfl rfl rfl rfl) ?_
                intro _ w14 h16
                replace h16 : St w0 F0 (boxC b1 23 [.string ⟨⟨(gt a0 (w64 (a1 - 1)))⟩⟩, .string ⟨⟨(gt a0 a1)⟩⟩, .bool false] :: _) _ w14 := h16
                refine RJ.fin [(5, .pointer (some ⟨b1, 0, none⟩)), (6, .pointer (some ⟨b2, 0, none⟩))] rfl ?_
                refine J.seq ?_
                refine J.seq ?_
                refine J.region ?_
                refine RJ.run ttok 1 rfl ?_
                refine RJ.q rfl rfl (q_load_box ttok 0 (fun w e => e ▸ h16.wh) rfl rfl rfl rfl rfl) ?_
                refine RJ.fin [(5, .pointer (some ⟨b1, 0, none⟩)), (6, .pointer (some ⟨b2, 0, none⟩)), (61, .bool false)] rfl ?_
                refine J.condF rfl ?_
                refine J.skip ?_
                refine J.seq ?_
                refine J.seq ?_
                refine J.region ?_
                refine RJ.q rfl rfl (q_load_box ttok 0 (fun w e => e ▸ h16.wh) rfl rfl rfl rfl rfl) ?_
                obtain ⟨r4, q4, H⟩ := bind_t H
                refine RJ.op rfl rfl (op_call [] (sluicegateref01_Empty.spec q4) rfl rfl rfl h16 rfl gnil) ?_
                rintro _ w15 ⟨_, ⟨rfl, rfl⟩, h17⟩
                refine RJ.fin [(5, .pointer (some ⟨b1, 0, none⟩)), (6, .pointer (some ⟨b2, 0, none⟩)), (64, .bool r4)] rfl ?_
                refine J.cond rfl (fun c9 => ?_) (fun c9 => ?_)
                · replace H := ite_t c9 H
                  refine J.seq ?_
                  refine J.region ?_
                  refine RJ.run ttok 1 rfl ?_
                  refine RJ.op rfl rfl (op_store ttok 1 rfl h17 rfl rfl rfl rfl rfl rfl rfl) ?_
                  intro _ w16 h18
                  replace h18 : St w0 F0 (boxC b2 23 [.string ⟨⟨([] : List UInt8)⟩⟩, .string ⟨⟨([] : List UInt8)⟩⟩, .bool false] :: _) _ w16 := h18
                  refine RJ.run ttok 1 rfl ?_
                  refine RJ.fin [(6, .pointer (some ⟨b2, 0, none⟩)), (7, .bool false)] rfl ?_
                  refine J.ret ?_
                  obtain rfl := Option.some.inj H
                  exact ⟨_, _, _, (results_two rfl (rvcons (RV.cell ttok 0 h18 rfl rfl rfl rfl) (rvcons (RV.tmp rfl) rvnil)) rfl), ⟨rfl, rfl⟩, h18.only [] rfl⟩
                · replace H := ite_f c9 H
                  refine J.skip ?_
                  refine J.seq ?_
                  refine J.region ?_
                  refine RJ.q rfl rfl (q_load_box ttok 0 (fun w e => e ▸ h17.wh) rfl rfl rfl rfl rfl) ?_
                  refine RJ.op rfl rfl (op_store ttok 1 rfl h17 rfl rfl rfl rfl rfl rfl rfl) ?_
                  intro _ w17 h19
                  replace h19 : St w0 F0 (boxC b2 23 [.string ⟨⟨(gt a0 (w64 (a1 - 1)))⟩⟩, .string ⟨⟨(gt a0 a1)⟩⟩, .bool false] :: _) _ w17 := h19
                  refine RJ.run ttok 1 rfl ?_
                  refine RJ.fin [(6, .pointer (some ⟨b2, 0, none⟩)), (7, .bool true)] rfl ?_
                  refine J.ret ?_
                  obtain rfl := Option.some.inj H
                  exact ⟨_, _, _, (results_two rfl (rvcons (RV.cell ttok 0 h19 rfl rfl rfl rfl) (rvcons (RV.tmp rfl) rvnil)) rfl), ⟨rfl, rfl⟩, h19.only [] rfl⟩
              · replace H := ite_f c8 H
                refine J.skip ?_
                refine J.seq ?_
                refine J.seq ?_
                refine J.region ?_
                refine RJ.run ttok 1 rfl ?_
                refine RJ.q rfl rfl (q_load_box ttok 0 (fun w e => e ▸ h14.wh) rfl rfl rfl rfl rfl) ?_
                refine RJ.fin [(5, .pointer (some ⟨b1, 0, none⟩)), (6, .pointer (some ⟨b2, 0, none⟩)), (61, .bool a2.2.2)] rfl ?_
                refine J.cond rfl (fun e => ?_) (fun e => ?_)
                · rw [c6] at e; cases e
                · refine J.skip ?_
                  refine J.seq ?_
                  refine J.seq ?_
                  refine J.region ?_
                  refine RJ.q rfl rfl (q_load_box ttok 0 (fun w e => e ▸ h14.wh) rfl rfl rfl rfl rfl) ?_
                  obtain ⟨r5, q5, H⟩ := bind_t H
                  refine RJ.op rfl rfl (op_call [] (sluicegateref01_Empty.spec q5) rfl rfl rfl h14 rfl gnil) ?_
                  rintro _ w18 ⟨_, ⟨rfl, rfl⟩, h20⟩
                  refine RJ.fin [(5, .pointer (some ⟨b1, 0, none⟩)), (6, .pointer (some ⟨b2, 0, none⟩)), (64, .bool r5)] rfl ?_
                  refine J.cond rfl (fun c10 => ?_) (fun c10 => ?_)
                  · replace H := ite_t c10 H
                    refine J.seq ?_
                    refine J.region ?_
                    refine RJ.run ttok 1 rfl ?_
                    refine RJ.op rfl rfl (op_store ttok 1 rfl h20 rfl rfl rfl rfl rfl rfl rfl) ?_
                    intro _ w19 h21
                    replace h21 : St w0 F0 (boxC b2 23 [.string ⟨⟨([] : List UInt8)⟩⟩, .string ⟨⟨([] : List UInt8)⟩⟩, .bool false] :: _) _ w19 := h21
                    refine RJ.run ttok 1 rfl ?_
                    refine RJ.fin [(6, .pointer (some ⟨b2, 0, none⟩)), (7, .bool false)] rfl ?_
                    refine J.ret ?_
                    obtain rfl := Option.some.inj H
                    exact ⟨_, _, _, (results_two rfl (rvcons (RV.cell ttok 0 h21 rfl rfl rfl rfl) (rvcons (RV.tmp rfl) rvnil)) rfl), ⟨rfl, rfl⟩, h21.only [] rfl⟩
                  · replace H := ite_f c10 H
                    refine J.skip ?_
                    refine J.seq ?_
                    refine J.region ?_
                    refine RJ.q rfl rfl (q_load_box ttok 0 (fun w e => e ▸ h20.wh) rfl rfl rfl rfl rfl) ?_
                    refine RJ.op rfl rfl (op_store ttok 1 rfl h20 rfl rfl rfl rfl rfl rfl rfl) ?_
                    intro _ w20 h22
                    replace h22 : St w0 F0 (boxC b2 23 [.string ⟨⟨(gt a0 (w64 (a1 - 1)))⟩⟩, .string ⟨⟨a2.2.1⟩⟩, .bool a2.2.2] :: _) _ w20 := h22
                    refine RJ.run ttok 1 rfl ?_
                    refine RJ.fin [(6, .pointer (some ⟨b2, 0, none⟩)), (7, .bool true)] rfl ?_
                    refine J.ret ?_
                    obtain rfl := Option.some.inj H
                    exact ⟨_, _, _, (results_two rfl (rvcons (RV.cell ttok 0 h22 rfl rfl rfl rfl) (rvcons (RV.tmp rfl) rvnil)) rfl), ⟨rfl, rfl⟩, h22.only [] rfl⟩
          · replace H := ite_f c5 H
            refine HJ.know (t := 40) rfl (congrArg Value.bool c5) ?_
            refine HJ.run ttok rfl [5, 6, 7, 8, 9, 10, 11, 12, 13, 14, 15, 16, 17] rfl ?_
            refine HJ.fin [(0, .slice A1 a0.length c_1), (1, .int .i64 a1), (5, .pointer (some ⟨b1, 0, none⟩)), (6, .pointer (some ⟨b2, 0, none⟩)), (53, .bool false)] rfl rfl ?_
            refine J.condF rfl ?_
            refine J.skip ?_
            refine J.seq ?_
            refine J.seq ?_
            refine J.region ?_
            refine RJ.run ttok 1 rfl ?_
            refine RJ.q rfl rfl (q_load_box ttok 0 (fun w e => e ▸ h8.wh) rfl rfl rfl rfl rfl) ?_
            refine RJ.fin [(5, .pointer (some ⟨b1, 0, none⟩)), (6, .pointer (some ⟨b2, 0, none⟩)), (61, .bool a2.2.2)] rfl ?_
            refine J.cond rfl (fun c11 => ?_) (fun c11 => ?_)
            · replace H := ite_t c11 H
              refine J.region ?_
              refine RJ.run ttok 1 rfl ?_
              refine RJ.op rfl rfl (op_store ttok 0 rfl h8 rfl rfl rfl rfl rfl rfl rfl) ?_
              intro _ w21 h23
              replace h23 : St w0 F0 (boxC b1 23 [.string ⟨⟨(gt a0 (w64 (a1 - 1)))⟩⟩, .string ⟨⟨([] : List UInt8)⟩⟩, .bool a2.2.2] :: _) _ w21 := h23
              refine RJ.fin [(5, .pointer (some ⟨b1, 0, none⟩)), (6, .pointer (some ⟨b2, 0, none⟩))] rfl ?_
              refine J.seq ?_
              refine J.seq ?_
              refine J.region ?_
              refine RJ.q rfl rfl (q_load_box ttok 0 (fun w e => e ▸ h23.wh) rfl rfl rfl rfl rfl) ?_
              obtain ⟨r6, q6, H⟩ := bind_t H
              refine RJ.op rfl rfl (op_call [] (sluicegateref01_Empty.spec q6) rfl rfl rfl h23 rfl gnil) ?_
              rintro _ w22 ⟨_, ⟨rfl, rfl⟩, h24⟩
              refine RJ.fin [(5, .pointer (some ⟨b1, 0, none⟩)), (6, .pointer (some ⟨b2, 0, none⟩)), (64, .bool r6)] rfl ?_
              refine J.cond rfl (fun c12 => ?_) (fun c12 => ?_)
              · replace H := ite_t c12 H
                refine J.seq ?_
                refine J.region ?_
                refine RJ.run ttok 1 rfl ?_
                refine RJ.op rfl rfl (op_store ttok 1 rfl h24 rfl rfl rfl rfl rfl rfl rfl) ?_
                intro _ w23 h25
                replace h25 : St w0 F0 (boxC b2 23 [.string ⟨⟨([] : List UInt8)⟩⟩, .string ⟨⟨([] : List UInt8)⟩⟩, .bool false] :: _) _ w23 := h25
                refine RJ.run ttok 1 rfl ?_
                refine RJ.fin [(6, .pointer (some ⟨b2, 0, none⟩)), (7, .bool false)] rfl ?_
                refine J.ret ?_
                obtain rfl := Option.some.inj H
                exact ⟨_, _, _, (results_two rfl (rvcons (RV.cell ttok 0 h25 rfl rfl rfl rfl) (rvcons (RV.tmp rfl) rvnil)) rfl), ⟨rfl, rfl⟩, h25.only [] rfl⟩
              · replace H := ite_f c12 H
                refine J.skip ?_
                refine J.seq ?_
                refine J.region ?_
                refine RJ.q rfl rfl (q_load_box ttok 0 (fun w e => e ▸ h24.wh) rfl rfl rfl rfl rfl) ?_
                refine RJ.op rfl rfl (op_store ttok 1 rfl h24 rfl rfl rfl rfl rfl rfl rfl) ?_
                intro _ w24 h26
                replace h26 : St w0 F0 (boxC b2 23 [.string ⟨⟨(gt a0 (w64 (a1 - 1)))⟩⟩, .string ⟨⟨([] : List UInt8)⟩⟩, .bool a2.2.2] :: _) _ w24 := h26
                refine RJ.run ttok 1 rfl ?_
                refine RJ.fin [(6, .pointer (some ⟨b2, 0, none⟩)), (7, .bool true)] rfl ?_
                refine J.ret ?_
                obtain rfl := Option.some.inj H
                exact ⟨_, _, _, (results_two rfl (rvcons (RV.cell ttok 0 h26 rfl rfl rfl rfl) (rvcons (RV.tmp rfl) rvnil)) rfl), ⟨rfl, rfl⟩, h26.only [] rfl⟩
            · replace H := ite_f c11 H
              refine J.skip ?_
              refine J.seq ?_
              refine J.seq ?_
              refine J.region ?_
              refine RJ.q rfl rfl (q_load_box ttok 0 (fun w e => e ▸ h8.wh) rfl rfl rfl rfl rfl) ?_
              obtain ⟨r7, q7, H⟩ := bind_t H
              refine RJ.op rfl rfl (op_call [] (sluicegateref01_Empty.spec q7) rfl rfl rfl h8 rfl gnil) ?_
              rintro _ w25 ⟨_, ⟨rfl, rfl⟩, h27⟩
              refine RJ.fin [(5, .pointer (some ⟨b1, 0, none⟩)), (6, .pointer (some ⟨b2, 0, none⟩)), (64, .bool r7)] rfl ?_
              refine J.cond rfl (fun c13 => ?_) (fun c13 => ?_)
              · replace H := ite_t c13 H
                refine J.seq ?_
                refine J.region ?_
                refine RJ.run ttok 1 rfl ?_
                refine RJ.op rfl rfl (op_store ttok 1 rfl h27 rfl rfl rfl rfl rfl rfl rfl) ?_
                intro _ w26 h28
                replace h28 : St w0 F0 (boxC b2 23 [.string ⟨⟨([] : List UInt8)⟩⟩, .string ⟨⟨([] : List UInt8)⟩⟩, .bool false] :: _) _ w26 := h28
                refine RJ.run ttok 1 rfl ?_
                refine RJ.fin [(6, .pointer (some ⟨b2, 0, none⟩)), (7, .bool false)] rfl ?_
                refine J.ret ?_
                obtain rfl := Option.some.inj H
                exact ⟨_, _, _, (results_two rfl (rvcons (RV.cell ttok 0 h28 rfl rfl rfl rfl) (rvcons (RV.tmp rfl) rvnil)) rfl), ⟨rfl, rfl⟩, h28.only [] rfl⟩
              · replace H := ite_f c13 H
                refine J.skip ?_
                refine J.seq ?_
                refine J.region ?_
                refine RJ.q rfl rfl (q_load_box ttok 0 (fun w e => e ▸ h27.wh) rfl rfl rfl rfl rfl) ?_
                refine RJ.op rfl rfl (op_store ttok 1 rfl h27 rfl rfl rfl rfl rfl rfl rfl) ?_
                intro _ w27 h29
                replace h29 : St w0 F0 (boxC b2 23 [.string ⟨⟨(gt a0 (w64 (a1 - 1)))⟩⟩, .string ⟨⟨a2.2.1⟩⟩, .bool a2.2.2] :: _) _ w27 := h29
                refine RJ.run ttok 1 rfl ?_
                refine RJ.fin [(6, .pointer (some ⟨b2, 0, none⟩)), (7, .bool true)] rfl ?_
                refine J.ret ?_
                obtain rfl := Option.some.inj H
                exact ⟨_, _, _, (results_two rfl (rvcons (RV.cell ttok 0 h29 rfl rfl rfl rfl) (rvcons (RV.tmp rfl) rvnil)) rfl), ⟨rfl, rfl⟩, h29.only [] rfl⟩
        · replace H := ite_f c4 H
          refine J.skip ?_
          refine J.seq ?_
          refine J.seq ?_
          refine J.heldSt mix h6 ?_
          have h30 := h6.drew
          refine HJ.run ttok rfl [0, 1, 2, 3, 4] rfl ?_
          rcases Bool.eq_false_or_eq_true (decide (a1 < (a0.length : Int))) with c14 | c14
          · replace H := ite_t c14 H
            refine HJ.know (t := 40) rfl (congrArg Value.bool c14) ?_
            refine HJ.run ttok rfl [5] rfl ?_
            refine HJ.q (i := 6) rfl rfl rfl rfl rfl rfl (q_load_box ttok 1 (fun w e => e) rfl rfl rfl rfl rfl) ?_
            refine HJ.run ttok rfl [7] rfl ?_
            rcases Bool.eq_false_or_eq_true a2.2.2 with c15 | c15
            · replace H := ite_t c15 H
              refine HJ.know (t := 43) rfl (congrArg Value.bool c15) ?_
              refine HJ.run ttok rfl [8, 9, 10, 11, 12, 13, 14, 15, 16, 17] rfl ?_
              refine HJ.fin [(0, .slice A1 a0.length c_1), (1, .int .i64 a1), (5, .pointer (some ⟨b1, 0, none⟩)), (6, .pointer (some ⟨b2, 0, none⟩)), (53, .bool true)] rfl rfl ?_
              refine J.condT rfl ?_
              refine J.seq ?_
              refine J.region ?_
              refine RJ.run ttok 2 rfl ?_
              obtain ⟨⟨p7, p8⟩, H⟩ := guard_t H
              refine RJ.q rfl rfl (q_index ttok rfl rfl rfl rfl rfl e1 p7 p8) ?_
              refine RJ.q rfl rfl (q_load_elem (f := 0) ttok rfl (fun w e => e ▸ h30.wh) (Gives.self 2 rfl) p7 p8 rfl rfl rfl rfl rfl) ?_
              refine RJ.run ttok 1 rfl ?_
              refine RJ.op rfl rfl (op_store ttok 1 rfl h30 rfl rfl rfl rfl rfl rfl rfl) ?_
              intro _ w28 h31
              replace h31 : St w0 F0 (boxC b1 23 [.string ⟨⟨a2.1⟩⟩, .string ⟨⟨(gt a0 a1)⟩⟩, .bool a2.2.2] :: _) _ w28 := h31
              refine RJ.fin [(5, .pointer (some ⟨b1, 0, none⟩)), (6, .pointer (some ⟨b2, 0, none⟩))] rfl ?_
              refine J.region ?_
              refine RJ.run ttok 1 rfl ?_
              refine RJ.op rfl rfl (op_store ttok 0 rfl h31 rfl rfl rfl rfl rfl rfl rfl) ?_
              intro _ w29 h32
              replace h32 : St w0 F0 (boxC b1 23 [.string ⟨⟨a2.1⟩⟩, .string ⟨⟨(gt a0 a1)⟩⟩, .bool false] :: _) _ w29 := h32
              refine RJ.fin [(5, .pointer (some ⟨b1, 0, none⟩)), (6, .pointer (some ⟨b2, 0, none⟩))] rfl ?_
              refine J.seq ?_
              refine J.seq ?_
              refine J.region ?_
              refine RJ.run ttok 1 rfl ?_
              refine RJ.q rfl rfl (q_load_box ttok 0 (fun w e => e ▸ h32.wh) rfl rfl rfl rfl rfl) ?_
              refine RJ.fin [(5, .pointer (some ⟨b1, 0, none⟩)), (6, .pointer (some ⟨b2, 0, none⟩)), (61, .bool false)] rfl ?_
              refine J.condF rfl ?_
              refine J.skip ?_
              refine J.seq ?_
              refine J.seq ?_
              refine J.region ?_
              refine RJ.q rfl rfl (q_load_box ttok 0 (fun w e => e ▸ h32.wh) rfl rfl rfl rfl rfl) ?_
              obtain ⟨r8, q8, H⟩ := bind_t H
              refine RJ.op rfl rfl (op_call [] (sluicegateref01_Empty.spec q8) rfl rfl rfl h32 rfl gnil) ?_
              rintro _ w30 ⟨_, ⟨rfl, rfl⟩, h33⟩
              refine RJ.fin [(5, .pointer (some ⟨b1, 0, none⟩)), (6, .pointer (some ⟨b2, 0, none⟩)), (64, .bool r8)] rfl ?_
              refine J.cond rfl (fun c16 => ?_) (fun c16 => ?_)
              · replace H := ite_t c16 H
                refine J.seq ?_
                refine J.region ?_
                refine RJ.run ttok 1 rfl ?_
                refine RJ.op rfl rfl (op_store ttok 1 rfl h33 rfl rfl rfl rfl rfl rfl rfl) ?_
                intro _ w31 h34
                replace h34 : St w0 F0 (boxC b2 23 [.string ⟨⟨([] : List UInt8)⟩⟩, .string ⟨⟨([] : List UInt8)⟩⟩, .bool false] :: _) _ w31 := h34
                refine RJ.run ttok 1 rfl ?_
                refine RJ.fin [(6, .pointer (some ⟨b2, 0, none⟩)), (7, .bool false)] rfl ?_
                refine J.ret ?_
                obtain rfl := Option.some.inj H
                exact ⟨_, _, _, (results_two rfl (rvcons (RV.cell ttok 0 h34 rfl rfl rfl rfl) (rvcons (RV.tmp rfl) rvnil)) rfl), ⟨rfl, rfl⟩, h34.only [] rfl⟩
              · replace H := ite_f c16 H
                refine J.skip ?_
                refine J.seq ?_
                refine J.region ?_
                refine RJ.q rfl rfl (q_load_box ttok 0 (fun w e => e ▸ h33.wh) rfl rfl rfl rfl rfl) ?_
                refine RJ.op rfl rfl (op_store ttok 1 rfl h33 rfl rfl rfl rfl rfl rfl rfl) ?_
                intro _ w32 h35
                replace h35 : St w0 F0 (boxC b2 23 [.string ⟨⟨a2.1⟩⟩, .string ⟨⟨(gt a0 a1)⟩⟩, .bool false] :: _) _ w32 := h35
                refine RJ.run ttok 1 rfl ?_
                refine RJ.fin [(6, .pointer (some ⟨b2, 0, none⟩)), (7, .bool true)] rfl ?_
                refine J.ret ?_
                obtain rfl := Option.some.inj H
                exact ⟨_, _, _, (results_two rfl (rvcons (RV.cell ttok 0 h35 rfl rfl rfl rfl) (rvcons (RV.tmp rfl) rvnil)) rfl), ⟨rfl, rfl⟩, h35.only [] rfl⟩
            · replace H := ite_f c15 H
              refine HJ.know (t := 43) rfl (congrArg Value.bool c15) ?_
              refine HJ.run ttok rfl [8, 9, 12] rfl ?_
              obtain ⟨⟨p9, p10⟩, H⟩ := guard_t H
              refine HJ.q (i := 10) rfl rfl rfl rfl rfl rfl (q_index ttok rfl rfl rfl rfl rfl e1 p9 p10) ?_
              refine HJ.q (i := 11) rfl rfl rfl rfl rfl rfl (q_load_elem (f := 0) ttok rfl (fun w e => e) (Gives.self 2 rfl) p9 p10 rfl rfl rfl rfl rfl) ?_
              refine HJ.q (i := 13) rfl rfl rfl rfl rfl rfl (q_load_box ttok 1 (fun w e => e) rfl rfl rfl rfl rfl) ?_
              obtain ⟨r9, q9, H⟩ := bind_t H
              refine HJ.op (i := 14) rfl rfl rfl rfl rfl (op_call [] (sluicegateref01_Compare.spec q9) rfl rfl rfl h30 rfl gnil) ?_
              rintro _ w33 ⟨_, ⟨rfl, rfl⟩, h36⟩
              refine ⟨⟨[], h36⟩, ?_⟩
              refine HJ.run ttok rfl [15, 16, 17] rfl ?_
              refine HJ.fin [(0, .slice A1 a0.length c_1), (1, .int .i64 a1), (5, .pointer (some ⟨b1, 0, none⟩)), (6, .pointer (some ⟨b2, 0, none⟩)), (53, .bool (decide (r9 < 0)))] rfl rfl ?_
              refine J.cond rfl (fun c17 => ?_) (fun c17 => ?_)
              · replace H := ite_t c17 H
                refine J.seq ?_
                refine J.region ?_
                refine RJ.run ttok 2 rfl ?_
                refine RJ.q rfl rfl (q_index ttok rfl rfl rfl rfl rfl e1 p9 p10) ?_
                refine RJ.q rfl rfl (q_load_elem (f := 0) ttok rfl (fun w e => e ▸ h36.wh) (Gives.self 2 rfl) p9 p10 rfl rfl rfl rfl rfl) ?_
                refine RJ.run ttok 1 rfl ?_
                refine RJ.op rfl rfl (op_store ttok 1 rfl h36 rfl rfl rfl rfl rfl rfl rfl) ?_
                intro _ w34 h37
                replace h37 : St w0 F0 (boxC b1 23 [.string ⟨⟨a2.1⟩⟩, .string ⟨⟨(gt a0 a1)⟩⟩, .bool a2.2.2] :: _) _ w34 := h37
                refine RJ.fin [(5, .pointer (some ⟨b1, 0, none⟩)), (6, .pointer (some ⟨b2, 0, none⟩))] rfl ?_
                refine J.region ?_
                refine RJ.run ttok 1 rfl ?_
                refine RJ.op rfl rfl (op_store ttok 0 rfl h37 rfl rfl rfl rfl rfl rfl rfl) ?_
                intro _ w35 h38
                replace h38 : St w0 F0 (boxC b1 23 [.string ⟨⟨a2.1⟩⟩, .string ⟨⟨(gt a0 a1)⟩⟩, .bool false] :: _) _ w35 := h38
                refine RJ.fin [(5, .pointer (some ⟨b1, 0, none⟩)), (6, .pointer (some ⟨b2, 0, none⟩))] rfl ?_
                refine J.seq ?_
                refine J.seq ?_
                refine J.region ?_
                refine RJ.run ttok 1 rfl ?_
                refine RJ.q rfl rfl (q_load_box ttok 0 (fun w e => e ▸ h38.wh) rfl rfl rfl rfl rfl) ?_
                refine RJ.fin [(5, .pointer (some ⟨b1, 0, none⟩)), (6, .pointer (some ⟨b2, 0, none⟩)), (61, .bool false)] rfl ?_
                refine J.condF rfl ?_
                refine J.skip ?_
                refine J.seq ?_
                refine J.seq ?_
                refine J.region ?_
                refine RJ.q rfl rfl (q_load_box ttok 0 (fun w e => e ▸ h38.wh) rfl rfl rfl rfl rfl) ?_
                obtain ⟨r10, q10, H⟩ := bind_t H
                refine RJ.op rfl rfl (op_call [] (sluicegateref01_Empty.spec q10) rfl rfl rfl h38 rfl gnil) ?_
                rintro _ w36 ⟨_, ⟨rfl, rfl⟩, h39⟩
                refine RJ.fin [(5, .pointer (some ⟨b1, 0, none⟩)), (6, .pointer (some ⟨b2, 0, none⟩)), (64, .bool r10)] rfl ?_
                refine J.cond rfl (fun c18 => ?_) (fun c18 => ?_)
                · replace H := ite_t c18 H
                  refine J.seq ?_
                  refine J.region ?_
                  refine RJ.run ttok 1 rfl ?_
                  refine RJ.op rfl rfl (op_store ttok 1 rfl h39 rfl rfl rfl rfl rfl rfl rfl) ?_
                  intro _ w37 h40
                  replace h40 : St w0 F0 (boxC b2 23 [.string ⟨⟨([] : List UInt8)⟩⟩, .string ⟨⟨([] : List UInt8)⟩⟩, .bool false] :: _) _ w37 := h40
                  refine RJ.run ttok 1 rfl ?_
                  refine RJ.fin [(6, .pointer (some ⟨b2, 0, none⟩)), (7, .bool false)] rfl ?_
                  refine J.ret ?_
                  obtain rfl := Option.some.inj H
                  exact ⟨_, _, _, (results_two rfl (rvcons (RV.cell ttok 0 h40 rfl rfl rfl rfl) (rvcons (RV.tmp rfl) rvnil)) rfl), ⟨rfl, rfl⟩, h40.only [] rfl⟩
                · replace H := ite_f c18 H
                  refine J.skip ?_
                  refine J.seq ?_
                  refine J.region ?_
                  refine RJ.q rfl rfl (q_load_box ttok 0 (fun w e => e ▸ h39.wh) rfl rfl rfl rfl rfl) ?_
                  refine RJ.op rfl rfl (op_store ttok 1 rfl h39 rfl rfl rfl rfl rfl rfl rfl) ?_
                  intro _ w38 h41
                  replace h41 : St w0 F0 (boxC b2 23 [.string ⟨⟨a2.1⟩⟩, .string ⟨⟨(gt a0 a1)⟩⟩, .bool false] :: _) _ w38 := h41
                  refine RJ.run ttok 1 rfl ?_
                  refine RJ.fin [(6, .pointer (some ⟨b2, 0, none⟩)), (7, .bool true)] rfl ?_
                  refine J.ret ?_
                  obtain rfl := Option.some.inj H
                  exact ⟨_, _, _, (results_two rfl (rvcons (RV.cell ttok 0 h41 rfl rfl rfl rfl) (rvcons (RV.tmp rfl) rvnil)) rfl), ⟨rfl, rfl⟩, h41.only [] rfl⟩
              · replace H := ite_f c17 H
                refine J.skip ?_
                refine J.seq ?_
                refine J.seq ?_
                refine J.region ?_
                refine RJ.run ttok 1 rfl ?_
                refine RJ.q rfl rfl (q_load_box ttok 1 (fun w e => e ▸ h36.wh) rfl rfl rfl rfl rfl) ?_
                refine RJ.fin [(5, .pointer (some ⟨b1, 0, none⟩)), (6, .pointer (some ⟨b2, 0, none⟩)), (61, .bool a2.2.2)] rfl ?_
                refine J.cond rfl (fun e => ?_) (fun e => ?_)
                · rw [c15] at e; cases e
                · refine J.skip ?_
                  refine J.seq ?_
                  refine J.seq ?_
                  refine J.region ?_
                  refine RJ.q rfl rfl (q_load_box ttok 1 (fun w e => e ▸ h36.wh) rfl rfl rfl rfl rfl) ?_
                  obtain ⟨r11, q11, H⟩ := bind_t H
                  refine RJ.op rfl rfl (op_call [] (sluicegateref01_Empty.spec q11) rfl rfl rfl h36 rfl gnil) ?_
                  rintro _ w39 ⟨_, ⟨rfl, rfl⟩, h42⟩
                  refine RJ.fin [(5, .pointer (some ⟨b1, 0, none⟩)), (6, .pointer (some ⟨b2, 0, none⟩)), (64, .bool r11)] rfl ?_
                  refine J.cond rfl (fun c19 => ?_) (fun c19 => ?_)
                  · replace H := ite_t c19 H
                    refine J.seq ?_
                    refine J.region ?_
                    refine RJ.run ttok 1 rfl ?_
                    refine RJ.op rfl rfl (op_store ttok 0 rfl h42 rfl rfl rfl rfl rfl rfl rfl) ?_
                    intro _ w40 h43
                    replace h43 : St w0 F0 (boxC b2 23 [.string ⟨⟨([] : List UInt8)⟩⟩, .string ⟨⟨([] : List UInt8)⟩⟩, .bool false] :: _) _ w40 := h43
                    refine RJ.run ttok 1 rfl ?_
                    refine RJ.fin [(6, .pointer (some ⟨b2, 0, none⟩)), (7, .bool false)] rfl ?_
                    refine J.ret ?_
                    obtain rfl := Option.some.inj H
                    exact ⟨_, _, _, (results_two rfl (rvcons (RV.cell ttok 0 h43 rfl rfl rfl rfl) (rvcons (RV.tmp rfl) rvnil)) rfl), ⟨rfl, rfl⟩, h43.only [] rfl⟩
                  · replace H := ite_f c19 H
                    refine J.skip ?_
                    refine J.seq ?_
                    refine J.region ?_
                    refine RJ.q rfl rfl (q_load_box ttok 1 (fun w e => e ▸ h42.wh) rfl rfl rfl rfl rfl) ?_
                    refine RJ.op rfl rfl (op_store ttok 0 rfl h42 rfl rfl rfl rfl rfl rfl rfl) ?_
                    intro _ w41 h44
                    replace h44 : St w0 F0 (boxC b2 23 [.string ⟨⟨a2.1⟩⟩, .string ⟨⟨a2.2.1⟩⟩, .bool a2.2.2] :: _) _ w41 := h44
                    refine RJ.run ttok 1 rfl ?_
                    refine RJ.fin [(6, .pointer (some ⟨b2, 0, none⟩)), (7, .bool true)] rfl ?_
                    refine J.ret ?_
                    obtain rfl := Option.some.inj H
                    exact ⟨_, _, _, (results_two rfl (rvcons (RV.cell ttok 0 h44 rfl rfl rfl rfl) (rvcons (RV.tmp rfl) rvnil)) rfl), ⟨rfl, rfl⟩, h44.only [] rfl⟩
          · replace H := ite_f c14 H
            refine HJ.know (t := 40) rfl (congrArg Value.bool c14) ?_
            refine HJ.run ttok rfl [5, 6, 7, 8, 9, 10, 11, 12, 13, 14, 15, 16, 17] rfl ?_
            refine HJ.fin [(0, .slice A1 a0.length c_1), (1, .int .i64 a1), (5, .pointer (some ⟨b1, 0, none⟩)), (6, .pointer (some ⟨b2, 0, none⟩)), (53, .bool false)] rfl rfl ?_
            refine J.condF rfl ?_
            refine J.skip ?_
            refine J.seq ?_
            refine J.seq ?_
            refine J.region ?_
            refine RJ.run ttok 1 rfl ?_
            refine RJ.q rfl rfl (q_load_box ttok 1 (fun w e => e ▸ h30.wh) rfl rfl rfl rfl rfl) ?_
            refine RJ.fin [(5, .pointer (some ⟨b1, 0, none⟩)), (6, .pointer (some ⟨b2, 0, none⟩)), (61, .bool a2.2.2)] rfl ?_
            refine J.cond rfl (fun c20 => ?_) (fun c20 => ?_)
            · replace H := ite_t c20 H
              refine J.region ?_
              refine RJ.run ttok 1 rfl ?_
              refine RJ.op rfl rfl (op_store ttok 1 rfl h30 rfl rfl rfl rfl rfl rfl rfl) ?_
              intro _ w42 h45
              replace h45 : St w0 F0 (boxC b1 23 [.string ⟨⟨a2.1⟩⟩, .string ⟨⟨([] : List UInt8)⟩⟩, .bool a2.2.2] :: _) _ w42 := h45
              refine RJ.fin [(5, .pointer (some ⟨b1, 0, none⟩)), (6, .pointer (some ⟨b2, 0, none⟩))] rfl ?_
              refine J.seq ?_
              refine J.seq ?_
              refine J.region ?_
              refine RJ.q rfl rfl (q_load_box ttok 0 (fun w e => e ▸ h45.wh) rfl rfl rfl rfl rfl) ?_
              obtain ⟨r12, q12, H⟩ := bind_t H
              refine RJ.op rfl rfl (op_call [] (sluicegateref01_Empty.spec q12) rfl rfl rfl h45 rfl gnil) ?_
              rintro _ w43 ⟨_, ⟨rfl, rfl⟩, h46⟩
              refine RJ.fin [(5, .pointer (some ⟨b1, 0, none⟩)), (6, .pointer (some ⟨b2, 0, none⟩)), (64, .bool r12)] rfl ?_
              refine J.cond rfl (fun c21 => ?_) (fun c21 => ?_)
              · replace H := ite_t c21 H
                refine J.seq ?_
                refine J.region ?_
                refine RJ.run ttok 1 rfl ?_
                refine RJ.op rfl rfl (op_store ttok 1 rfl h46 rfl rfl rfl rfl rfl rfl rfl) ?_
                intro _ w44 h47
                replace h47 : St w0 F0 (boxC b2 23 [.string ⟨⟨([] : List UInt8)⟩⟩, .string ⟨⟨([] : List UInt8)⟩⟩, .bool false] :: _) _ w44 := h47
                refine RJ.run ttok 1 rfl ?_
                refine RJ.fin [(6, .pointer (some ⟨b2, 0, none⟩)), (7, .bool false)] rfl ?_
                refine J.ret ?_
                obtain rfl := Option.some.inj H
                exact ⟨_, _, _, (results_two rfl (rvcons (RV.cell ttok 0 h47 rfl rfl rfl rfl) (rvcons (RV.tmp rfl) rvnil)) rfl), ⟨rfl, rfl⟩, h47.only [] rfl⟩
              · replace H := ite_f c21 H
                refine J.skip ?_
                refine J.seq ?_
                refine J.region ?_
                refine RJ.q rfl rfl (q_load_box ttok 0 (fun w e => e ▸ h46.wh) rfl rfl rfl rfl rfl) ?_
                refine RJ.op rfl rfl (op_store ttok 1 rfl h46 rfl rfl rfl rfl rfl rfl rfl) ?_
                intro _ w45 h48
                replace h48 : St w0 F0 (boxC b2 23 [.string ⟨⟨a2.1⟩⟩, .string ⟨⟨([] : List UInt8)⟩⟩, .bool a2.2.2] :: _) _ w45 := h48
                refine RJ.run ttok 1 rfl ?_
                refine RJ.fin [(6, .pointer (some ⟨b2, 0, none⟩)), (7, .bool true)] rfl ?_
                refine J.ret ?_
                obtain rfl := Option.some.inj H
                exact ⟨_, _, _, (results_two rfl (rvcons (RV.cell ttok 0 h48 rfl rfl rfl rfl) (rvcons (RV.tmp rfl) rvnil)) rfl), ⟨rfl, rfl⟩, h48.only [] rfl⟩
            · replace H := ite_f c20 H
              refine J.skip ?_
              refine J.seq ?_
              refine J.seq ?_
              refine J.region ?_
              refine RJ.q rfl rfl (q_load_box ttok 1 (fun w e => e ▸ h30.wh) rfl rfl rfl rfl rfl) ?_
              obtain ⟨r13, q13, H⟩ := bind_t H
              refine RJ.op rfl rfl (op_call [] (sluicegateref01_Empty.spec q13) rfl rfl rfl h30 rfl gnil) ?_
              rintro _ w46 ⟨_, ⟨rfl, rfl⟩, h49⟩
              refine RJ.fin [(5, .pointer (some ⟨b1, 0, none⟩)), (6, .pointer (some ⟨b2, 0, none⟩)), (64, .bool r13)] rfl ?_
              refine J.cond rfl (fun c22 => ?_) (fun c22 => ?_)
              · replace H := ite_t c22 H
                refine J.seq ?_
                refine J.region ?_
                refine RJ.run ttok 1 rfl ?_
                refine RJ.op rfl rfl (op_store ttok 0 rfl h49 rfl rfl rfl rfl rfl rfl rfl) ?_
                intro _ w47 h50
                replace h50 : St w0 F0 (boxC b2 23 [.string ⟨⟨([] : List UInt8)⟩⟩, .string ⟨⟨([] : List UInt8)⟩⟩, .bool false] :: _) _ w47 := h50
                refine RJ.run ttok 1 rfl ?_
                refine RJ.fin [(6, .pointer (some ⟨b2, 0, none⟩)), (7, .bool false)] rfl ?_
                refine J.ret ?_
                obtain rfl := Option.some.inj H
                exact ⟨_, _, _, (results_two rfl (rvcons (RV.cell ttok 0 h50 rfl rfl rfl rfl) (rvcons (RV.tmp rfl) rvnil)) rfl), ⟨rfl, rfl⟩, h50.only [] rfl⟩
              · replace H := ite_f c22 H
                refine J.skip ?_
                refine J.seq ?_
                refine J.region ?_
                refine RJ.q rfl rfl (q_load_box ttok 1 (fun w e => e ▸ h49.wh) rfl rfl rfl rfl rfl) ?_
                refine RJ.op rfl rfl (op_store ttok 0 rfl h49 rfl rfl rfl rfl rfl rfl rfl) ?_
                intro _ w48 h51
                replace h51 : St w0 F0 (boxC b2 23 [.string ⟨⟨a2.1⟩⟩, .string ⟨⟨a2.2.1⟩⟩, .bool a2.2.2] :: _) _ w48 := h51
                refine RJ.run ttok 1 rfl ?_
                refine RJ.fin [(6, .pointer (some ⟨b2, 0, none⟩)), (7, .bool true)] rfl ?_
                refine J.ret ?_
                obtain rfl := Option.some.inj H
                exact ⟨_, _, _, (results_two rfl (rvcons (RV.cell ttok 0 h51 rfl rfl rfl rfl) (rvcons (RV.tmp rfl) rvnil)) rfl), ⟨rfl, rfl⟩, h51.only [] rfl⟩
      · replace H := ite_f c3 H
        refine HJ.know (t := 19) rfl (congrArg Value.bool c3) ?_
        refine HJ.run ttok rfl [3, 4, 5, 6, 7, 8, 9, 10, 11, 12] rfl ?_
        refine HJ.fin [(0, .slice A1 a0.length c_1), (1, .int .i64 a1), (5, .pointer (some ⟨b1, 0, none⟩)), (6, .pointer (some ⟨b2, 0, none⟩)), (29, .bool false)] rfl rfl ?_
        refine J.condF rfl ?_
        refine J.skip ?_
        refine J.seq ?_
        refine J.seq ?_
        refine J.heldSt mix h5 ?_
        have h52 := h5.drew
        refine HJ.run ttok rfl [0, 1, 2, 3, 4] rfl ?_
        rcases Bool.eq_false_or_eq_true (decide (a1 < (a0.length : Int))) with c23 | c23
        · replace H := ite_t c23 H
          refine HJ.know (t := 40) rfl (congrArg Value.bool c23) ?_
          refine HJ.run ttok rfl [5] rfl ?_
          refine HJ.q (i := 6) rfl rfl rfl rfl rfl rfl (q_load_box ttok 1 (fun w e => e) rfl rfl rfl rfl rfl) ?_
          refine HJ.run ttok rfl [7] rfl ?_
          rcases Bool.eq_false_or_eq_true a2.2.2 with c24 | c24
          · replace H := ite_t c24 H
            refine HJ.know (t := 43) rfl (congrArg Value.bool c24) ?_
            refine HJ.run ttok rfl [8, 9, 10, 11, 12, 13, 14, 15, 16, 17] rfl ?_
            refine HJ.fin [(0, .slice A1 a0.length c_1), (1, .int .i64 a1), (5, .pointer (some ⟨b1, 0, none⟩)), (6, .pointer (some ⟨b2, 0, none⟩)), (53, .bool true)] rfl rfl ?_
            refine J.condT rfl ?_
            refine J.seq ?_
            refine J.region ?_
            refine RJ.run ttok 2 rfl ?_
            obtain ⟨⟨p11, p12⟩, H⟩ := guard_t H
            have e2 := elem_A h52.wh (Gives.self 2 rfl) p11 p12
            refine RJ.q rfl rfl (q_index ttok rfl rfl rfl rfl rfl e2 p11 p12) ?_
            refine RJ.q rfl rfl (q_load_elem (f := 0) ttok rfl (fun w e => e ▸ h52.wh) (Gives.self 2 rfl) p11 p12 rfl rfl rfl rfl rfl) ?_
            refine RJ.run ttok 1 rfl ?_
            refine RJ.op rfl rfl (op_store ttok 1 rfl h52 rfl rfl rfl rfl rfl rfl rfl) ?_
            intro _ w49 h53
            replace h53 : St w0 F0 (boxC b1 23 [.string ⟨⟨a2.1⟩⟩, .string ⟨⟨(gt a0 a1)⟩⟩, .bool a2.2.2] :: _) _ w49 := h53
            refine RJ.fin [(5, .pointer (some ⟨b1, 0, none⟩)), (6, .pointer (some ⟨b2, 0, none⟩))] rfl ?_
            refine J.region ?_
            refine RJ.run ttok 1 rfl ?_
            refine RJ.op rfl rfl (op_store ttok 0 rfl h53 rfl rfl rfl rfl rfl rfl rfl) ?_
            intro _ w50 h54
            replace h54 : St w0 F0 (boxC b1 23 [.string ⟨⟨a2.1⟩⟩, .string ⟨⟨(gt a0 a1)⟩⟩, .bool false] :: _) _ w50 := h54
            refine RJ.fin [(5, .pointer (some ⟨b1, 0, none⟩)), (6, .pointer (some ⟨b2, 0, none⟩))] rfl ?_
            refine J.seq ?_
            refine J.seq ?_
            refine J.region ?_
            refine RJ.run ttok 1 rfl ?_
            refine RJ.q rfl rfl (q_load_box ttok 0 (fun w e => e ▸ h54.wh) rfl rfl rfl rfl rfl) ?_
            refine RJ.fin [(5, .pointer (some ⟨b1, 0, none⟩)), (6, .pointer (some ⟨b2, 0, none⟩)), (61, .bool false)] rfl ?_
            refine J.condF rfl ?_
            refine J.skip ?_
            refine J.seq ?_
            refine J.seq ?_
            refine J.region ?_
            refine RJ.q rfl rfl (q_load_box ttok 0 (fun w e => e ▸ h54.wh) rfl rfl rfl rfl rfl) ?_
            obtain ⟨r14, q14, H⟩ := bind_t H
            refine RJ.op rfl rfl (op_call [] (sluicegateref01_Empty.spec q14) rfl rfl rfl h54 rfl gnil) ?_
            rintro _ w51 ⟨_, ⟨rfl, rfl⟩, h55⟩
            refine RJ.fin [(5, .pointer (some ⟨b1, 0, none⟩)), (6, .pointer (some ⟨b2, 0, none⟩)), (64, .bool r14)] rfl ?_
            refine J.cond rfl (fun c25 => ?_) (fun c25 => ?_)
            · replace H := ite_t c25 H
              refine J.seq ?_
              refine J.region ?_
              refine RJ.run ttok 1 rfl ?_
              refine RJ.op rfl rfl (op_store ttok 1 rfl h55 rfl rfl rfl rfl rfl rfl rfl) ?_
              intro _ w52 h56
              replace h56 : St w0 F0 (boxC b2 23 [.string ⟨⟨([] : List UInt8)⟩⟩, .string ⟨⟨([] : List UInt8)⟩⟩, .bool false] :: _) _ w52 := h56
              refine RJ.run ttok 1 rfl ?_
              refine RJ.fin [(6, .pointer (some ⟨b2, 0, none⟩)), (7, .bool false)] rfl ?_
              refine J.ret ?_
              obtain rfl := Option.some.inj H
              exact ⟨_, _, _, (results_two rfl (rvcons (RV.cell ttok 0 h56 rfl rfl rfl rfl) (rvcons (RV.tmp rfl) rvnil)) rfl), ⟨rfl, rfl⟩, h56.only [] rfl⟩
            · replace H := ite_f c25 H
              refine J.skip ?_
              refine J.seq ?_
              refine J.region ?_
              refine RJ.q rfl rfl (q_load_box ttok 0 (fun w e => e ▸ h55.wh) rfl rfl rfl rfl rfl) ?_
              refine RJ.op rfl rfl (op_store ttok 1 rfl h55 rfl rfl rfl rfl rfl rfl rfl) ?_
              intro _ w53 h57
              replace h57 : St w0 F0 (boxC b2 23 [.string ⟨⟨a2.1⟩⟩, .string ⟨⟨(gt a0 a1)⟩⟩, .bool false] :: _) _ w53 := h57
              refine RJ.run ttok 1 rfl ?_
              refine RJ.fin [(6, .pointer (some ⟨b2, 0, none⟩)), (7, .bool true)] rfl ?_
              refine J.ret ?_
              obtain rfl := Option.some.inj H
              exact ⟨_, _, _, (results_two rfl (rvcons (RV.cell ttok 0 h57 rfl rfl rfl rfl) (rvcons (RV.tmp rfl) rvnil)) rfl), ⟨rfl, rfl⟩, h57.only [] rfl⟩
          · replace H := ite_f c24 H
            refine HJ.know (t := 43) rfl (congrArg Value.bool c24) ?_
            refine HJ.run ttok rfl [8, 9, 12] rfl ?_
            obtain ⟨⟨p13, p14⟩, H⟩ := guard_t H
            have e3 := elem_A h52.wh (Gives.self 2 rfl) p13 p14
            refine HJ.q (i := 10) rfl rfl rfl rfl rfl rfl (q_index ttok rfl rfl rfl rfl rfl e3 p13 p14) ?_
            refine HJ.q (i := 11) rfl rfl rfl rfl rfl rfl (q_load_elem (f := 0) ttok rfl (fun w e => e) (Gives.self 2 rfl) p13 p14 rfl rfl rfl rfl rfl) ?_
            refine HJ.q (i := 13) rfl rfl rfl rfl rfl rfl (q_load_box ttok 1 (fun w e => e) rfl rfl rfl rfl rfl) ?_
            obtain ⟨r15, q15, H⟩ := bind_t H
            refine HJ.op (i := 14) rfl rfl rfl rfl rfl (op_call [] (sluicegateref01_Compare.spec q15) rfl rfl rfl h52 rfl gnil) ?_
            rintro _ w54 ⟨_, ⟨rfl, rfl⟩, h58⟩
            refine ⟨⟨[], h58⟩, ?_⟩
            refine HJ.run ttok rfl [15, 16, 17] rfl ?_
            refine HJ.fin [(0, .slice A1 a0.length c_1), (1, .int .i64 a1), (5, .pointer (some ⟨b1, 0, none⟩)), (6, .pointer (some ⟨b2, 0, none⟩)), (53, .bool (decide (r15 < 0)))] rfl rfl ?_
            refine J.cond rfl (fun c26 => ?_) (fun c26 => ?_)
            · replace H := ite_t c26 H
              refine J.seq ?_
              refine J.region ?_
              refine RJ.run ttok 2 rfl ?_
              refine RJ.q rfl rfl (q_index ttok rfl rfl rfl rfl rfl e3 p13 p14) ?_
              refine RJ.q rfl rfl (q_load_elem (f := 0) ttok rfl (fun w e => e ▸ h58.wh) (Gives.self 2 rfl) p13 p14 rfl rfl rfl rfl rfl) ?_
              refine RJ.run ttok 1 rfl ?_
              refine RJ.op rfl rfl (op_store ttok 1 rfl h58 rfl rfl rfl rfl rfl rfl rfl) ?_
              intro _ w55 h59
              replace h59 : St w0 F0 (boxC b1 23 [.string ⟨⟨a2.1⟩⟩, .string ⟨⟨(gt a0 a1)⟩⟩, .bool a2.2.2] :: _) _ w55 := h59
              refine RJ.fin [(5, .pointer (some ⟨b1, 0, none⟩)), (6, .pointer (some ⟨b2, 0, none⟩))] rfl ?_
              refine J.region ?_
              refine RJ.run ttok 1 rfl ?_
              refine RJ.op rfl rfl (op_store ttok 0 rfl h59 rfl rfl rfl rfl rfl rfl rfl) ?_
              intro _ w56 h60
              replace h60 : St w0 F0 (boxC b1 23 [.string ⟨⟨a2.1⟩⟩, .string ⟨⟨(gt a0 a1)⟩⟩, .bool false] :: _) _ w56 := h60
              refine RJ.fin [(5, .pointer (some ⟨b1, 0, none⟩)), (6, .pointer (some ⟨b2, 0, none⟩))] rfl ?_
              refine J.seq ?_
              refine J.seq ?_
              refine J.region ?_
              refine RJ.run ttok 1 rfl ?_
              refine RJ.q rfl rfl (q_load_box ttok 0 (fun w e => e ▸ h60.wh) rfl rfl rfl rfl rfl) ?_
              refine RJ.fin [(5, .pointer (some ⟨b1, 0, none⟩)), (6, .pointer (some ⟨b2, 0, none⟩)), (61, .bool false)] rfl ?_
              refine J.condF rfl ?_
              refine J.skip ?_
              refine J.seq ?_
              refine J.seq ?_
              refine J.region ?_
              refine RJ.q rfl rfl (q_load_box ttok 0 (fun w e => e ▸ h60.wh) rfl rfl rfl rfl rfl) ?_
              obtain ⟨r16, q16, H⟩ := bind_t H
              refine RJ.op rfl rfl (op_call [] (sluicegateref01_Empty.spec q16) rfl rfl rfl h60 rfl gnil) ?_
              rintro _ w57 ⟨_, ⟨rfl, rfl⟩, h61⟩
              refine RJ.fin [(5, .pointer (some ⟨b1, 0, none⟩)), (6, .pointer (some ⟨b2, 0, none⟩)), (64, .bool r16)] rfl ?_
              refine J.cond rfl (fun c27 => ?_) (fun c27 => ?_)
              · replace H := ite_t c27 H
                refine J.seq ?_
                refine J.region ?_
                refine RJ.run ttok 1 rfl ?_
                refine RJ.op rfl rfl (op_store ttok 1 rfl h61 rfl rfl rfl rfl rfl rfl rfl) ?_
                intro _ w58 h62
                replace h62 : St w0 F0 (boxC b2 23 [.string ⟨⟨([] : List UInt8)⟩⟩, .string ⟨⟨([] : List UInt8)⟩⟩, .bool false] :: _) _ w58 := h62
                refine RJ.run ttok 1 rfl ?_
                refine RJ.fin [(6, .pointer (some ⟨b2, 0, none⟩)), (7, .bool false)] rfl ?_
                refine J.ret ?_
                obtain rfl := Option.some.inj H
                exact ⟨_, _, _, (results_two rfl (rvcons (RV.cell ttok 0 h62 rfl rfl rfl rfl) (rvcons (RV.tmp rfl) rvnil)) rfl), ⟨rfl, rfl⟩, h62.only [] rfl⟩
              · replace H := ite_f c27 H
                refine J.skip ?_
                refine J.seq ?_
                refine J.region ?_
                refine RJ.q rfl rfl (q_load_box ttok 0 (fun w e => e ▸ h61.wh) rfl rfl rfl rfl rfl) ?_
                refine RJ.op rfl rfl (op_store ttok 1 rfl h61 rfl rfl rfl rfl rfl rfl rfl) ?_
                intro _ w59 h63
                replace h63 : St w0 F0 (boxC b2 23 [.string ⟨⟨a2.1⟩⟩, .string ⟨⟨(gt a0 a1)⟩⟩, .bool false] :: _) _ w59 := h63
                refine RJ.run ttok 1 rfl ?_
                refine RJ.fin [(6, .pointer (some ⟨b2, 0, none⟩)), (7, .bool true)] rfl ?_
                refine J.ret ?_
                obtain rfl := Option.some.inj H
                exact ⟨_, _, _, (results_two rfl (rvcons (RV.cell ttok 0 h63 rfl rfl rfl rfl) (rvcons (RV.tmp rfl) rvnil)) rfl), ⟨rfl, rfl⟩, h63.only [] rfl⟩
            · replace H := ite_f c26 H
              refine J.skip ?_
              refine J.seq ?_
              refine J.seq ?_
              refine J.region ?_
              refine RJ.run ttok 1 rfl ?_
              refine RJ.q rfl rfl (q_load_box ttok 1 (fun w e => e ▸ h58.wh) rfl rfl rfl rfl rfl) ?_
              refine RJ.fin [(5, .pointer (some ⟨b1, 0, none⟩)), (6, .pointer (some ⟨b2, 0, none⟩)), (61, .bool a2.2.2)] rfl ?_
              refine J.cond rfl (fun e => ?_) (fun e => ?_)
              · rw [c24] at e; cases e
              · refine J.skip ?_
                refine J.seq ?_
                refine J.seq ?_
                refine J.region ?_
                refine RJ.q rfl rfl (q_load_box ttok 1 (fun w e => e ▸ h58.wh) rfl rfl rfl rfl rfl) ?_
                obtain ⟨r17, q17, H⟩ := bind_t H
                refine RJ.op rfl rfl (op_call [] (sluicegateref01_Empty.spec q17) rfl rfl rfl h58 rfl gnil) ?_
                rintro _ w60 ⟨_, ⟨rfl, rfl⟩, h64⟩
                refine RJ.fin [(5, .pointer (some ⟨b1, 0, none⟩)), (6, .pointer (some ⟨b2, 0, none⟩)), (64, .bool r17)] rfl ?_
                refine J.cond rfl (fun c28 => ?_) (fun c28 => ?_)
                · replace H := ite_t c28 H
                  refine J.seq ?_
                  refine J.region ?_
                  refine RJ.run ttok 1 rfl ?_
                  refine RJ.op rfl rfl (op_store ttok 0 rfl h64 rfl rfl rfl rfl rfl rfl rfl) ?_
                  intro _ w61 h65
                  replace h65 : St w0 F0 (boxC b2 23 [.string ⟨⟨([] : List UInt8)⟩⟩, .string ⟨⟨([] : List UInt8)⟩⟩, .bool false] :: _) _ w61 := h65
                  refine RJ.run ttok 1 rfl ?_
                  refine RJ.fin [(6, .pointer (some ⟨b2, 0, none⟩)), (7, .bool false)] rfl ?_
                  refine J.ret ?_
                  obtain rfl := Option.some.inj H
                  exact ⟨_, _, _, (results_two rfl (rvcons (RV.cell ttok 0 h65 rfl rfl rfl rfl) (rvcons (RV.tmp rfl) rvnil)) rfl), ⟨rfl, rfl⟩, h65.only [] rfl⟩
                · replace H := ite_f c28 H
                  refine J.skip ?_
                  refine J.seq ?_
                  refine J.region ?_
                  refine RJ.q rfl rfl (q_load_box ttok 1 (fun w e => e ▸ h64.wh) rfl rfl rfl rfl rfl) ?_
                  refine RJ.op rfl rfl (op_store ttok 0 rfl h64 rfl rfl rfl rfl rfl rfl rfl) ?_
                  intro _ w62 h66
                  replace h66 : St w0 F0 (boxC b2 23 [.string ⟨⟨a2.1⟩⟩, .string ⟨⟨a2.2.1⟩⟩, .bool a2.2.2] :: _) _ w62 := h66
                  refine RJ.run ttok 1 rfl ?_
                  refine RJ.fin [(6, .pointer (some ⟨b2, 0, none⟩)), (7, .bool true)] rfl ?_
                  refine J.ret ?_
                  obtain rfl := Option.some.inj H
                  exact ⟨_, _, _, (results_two rfl (rvcons (RV.cell ttok 0 h66 rfl rfl rfl rfl) (rvcons (RV.tmp rfl) rvnil)) rfl), ⟨rfl, rfl⟩, h66.only [] rfl⟩
        · replace H := ite_f c23 H
          refine HJ.know (t := 40) rfl (congrArg Value.bool c23) ?_
          refine HJ.run ttok rfl [5, 6, 7, 8, 9, 10, 11, 12, 13, 14, 15, 16, 17] rfl ?_
          refine HJ.fin [(0, .slice A1 a0.length c_1), (1, .int .i64 a1), (5, .pointer (some ⟨b1, 0, none⟩)), (6, .pointer (some ⟨b2, 0, none⟩)), (53, .bool false)] rfl rfl ?_
          refine J.condF rfl ?_
          refine J.skip ?_
          refine J.seq ?_
          refine J.seq ?_
          refine J.region ?_
          refine RJ.run ttok 1 rfl ?_
          refine RJ.q rfl rfl (q_load_box ttok 1 (fun w e => e ▸ h52.wh) rfl rfl rfl rfl rfl) ?_
          refine RJ.fin [(5, .pointer (some ⟨b1, 0, none⟩)), (6, .pointer (some ⟨b2, 0, none⟩)), (61, .bool a2.2.2)] rfl ?_
          refine J.cond rfl (fun c29 => ?_) (fun c29 => ?_)
          · replace H := ite_t c29 H
            refine J.region ?_
            refine RJ.run ttok 1 rfl ?_
            refine RJ.op rfl rfl (op_store ttok 1 rfl h52 rfl rfl rfl rfl rfl rfl rfl) ?_
            intro _ w63 h67
            replace h67 : St w0 F0 (boxC b1 23 [.string ⟨⟨a2.1⟩⟩, .string ⟨⟨([] : List UInt8)⟩⟩, .bool a2.2.2] :: _) _ w63 := h67
            refine RJ.fin [(5, .pointer (some ⟨b1, 0, none⟩)), (6, .pointer (some ⟨b2, 0, none⟩))] rfl ?_
            refine J.seq ?_
            refine J.seq ?_
            refine J.region ?_
            refine RJ.q rfl rfl (q_load_box ttok 0 (fun w e => e ▸ h67.wh) rfl rfl rfl rfl rfl) ?_
            obtain ⟨r18, q18, H⟩ := bind_t H
            refine RJ.op rfl rfl (op_call [] (sluicegateref01_Empty.spec q18) rfl rfl rfl h67 rfl gnil) ?_
            rintro _ w64 ⟨_, ⟨rfl, rfl⟩, h68⟩
            refine RJ.fin [(5, .pointer (some ⟨b1, 0, none⟩)), (6, .pointer (some ⟨b2, 0, none⟩)), (64, .bool r18)] rfl ?_
            refine J.cond rfl (fun c30 => ?_) (fun c30 => ?_)
            · replace H := ite_t c30 H
              refine J.seq ?_
              refine J.region ?_
              refine RJ.run ttok 1 rfl ?_
              refine RJ.op rfl rfl (op_store ttok 1 rfl h68 rfl rfl rfl rfl rfl rfl rfl) ?_
              intro _ w65 h69
              replace h69 : St w0 F0 (boxC b2 23 [.string ⟨⟨([] : List UInt8)⟩⟩, .string ⟨⟨([] : List UInt8)⟩⟩, .bool false] :: _) _ w65 := h69
              refine RJ.run ttok 1 rfl ?_
              refine RJ.fin [(6, .pointer (some ⟨b2, 0, none⟩)), (7, .bool false)] rfl ?_
              refine J.ret ?_
              obtain rfl := Option.some.inj H
              exact ⟨_, _, _, (results_two rfl (rvcons (RV.cell ttok 0 h69 rfl rfl rfl rfl) (rvcons (RV.tmp rfl) rvnil)) rfl), ⟨rfl, rfl⟩, h69.only [] rfl⟩
            · replace H := ite_f c30 H
              refine J.skip ?_
              refine J.seq ?_
              refine J.region ?_
              refine RJ.q rfl rfl (q_load_box ttok 0 (fun w e => e ▸ h68.wh) rfl rfl rfl rfl rfl) ?_
              refine RJ.op rfl rfl (op_store ttok 1 rfl h68 rfl rfl rfl rfl rfl rfl rfl) ?_
              intro _ w66 h70
              replace h70 : St w0 F0 (boxC b2 23 [.string ⟨⟨a2.1⟩⟩, .string ⟨⟨([] : List UInt8)⟩⟩, .bool a2.2.2] :: _) _ w66 := h70
              refine RJ.run ttok 1 rfl ?_
              refine RJ.fin [(6, .pointer (some ⟨b2, 0, none⟩)), (7, .bool true)] rfl ?_
              refine J.ret ?_
              obtain rfl := Option.some.inj H
              exact ⟨_, _, _, (results_two rfl (rvcons (RV.cell ttok 0 h70 rfl rfl rfl rfl) (rvcons (RV.tmp rfl) rvnil)) rfl), ⟨rfl, rfl⟩, h70.only [] rfl⟩
          · replace H := ite_f c29 H
            refine J.skip ?_
            refine J.seq ?_
            refine J.seq ?_
            refine J.region ?_
            refine RJ.q rfl rfl (q_load_box ttok 1 (fun w e => e ▸ h52.wh) rfl rfl rfl rfl rfl) ?_
            obtain ⟨r19, q19, H⟩ := bind_t H
            refine RJ.op rfl rfl (op_call [] (sluicegateref01_Empty.spec q19) rfl rfl rfl h52 rfl gnil) ?_
            rintro _ w67 ⟨_, ⟨rfl, rfl⟩, h71⟩
            refine RJ.fin [(5, .pointer (some ⟨b1, 0, none⟩)), (6, .pointer (some ⟨b2, 0, none⟩)), (64, .bool r19)] rfl ?_
            refine J.cond rfl (fun c31 => ?_) (fun c31 => ?_)
            · replace H := ite_t c31 H
              refine J.seq ?_
              refine J.region ?_
              refine RJ.run ttok 1 rfl ?_
              refine RJ.op rfl rfl (op_store ttok 0 rfl h71 rfl rfl rfl rfl rfl rfl rfl) ?_
              intro _ w68 h72
              replace h72 : St w0 F0 (boxC b2 23 [.string ⟨⟨([] : List UInt8)⟩⟩, .string ⟨⟨([] : List UInt8)⟩⟩, .bool false] :: _) _ w68 := h72
              refine RJ.run ttok 1 rfl ?_
              refine RJ.fin [(6, .pointer (some ⟨b2, 0, none⟩)), (7, .bool false)] rfl ?_
              refine J.ret ?_
              obtain rfl := Option.some.inj H
              exact ⟨_, _, _, (results_two rfl (rvcons (RV.cell ttok 0 h72 rfl rfl rfl rfl) (rvcons (RV.tmp rfl) rvnil)) rfl), ⟨rfl, rfl⟩, h72.only [] rfl⟩
            · replace H := ite_f c31 H
              refine J.skip ?_
              refine J.seq ?_
              refine J.region ?_
              refine RJ.q rfl rfl (q_load_box ttok 1 (fun w e => e ▸ h71.wh) rfl rfl rfl rfl rfl) ?_
              refine RJ.op rfl rfl (op_store ttok 0 rfl h71 rfl rfl rfl rfl rfl rfl rfl) ?_
              intro _ w69 h73
              replace h73 : St w0 F0 (boxC b2 23 [.string ⟨⟨a2.1⟩⟩, .string ⟨⟨a2.2.1⟩⟩, .bool a2.2.2] :: _) _ w69 := h73
              refine RJ.run ttok 1 rfl ?_
              refine RJ.fin [(6, .pointer (some ⟨b2, 0, none⟩)), (7, .bool true)] rfl ?_
              refine J.ret ?_
              obtain rfl := Option.some.inj H
              exact ⟨_, _, _, (results_two rfl (rvcons (RV.cell ttok 0 h73 rfl rfl rfl rfl) (rvcons (RV.tmp rfl) rvnil)) rfl), ⟨rfl, rfl⟩, h73.only [] rfl⟩

/-! sluicegate/sluicegateref12.Way -/
def sluicegateref12_Way.l0 : Nat → (List (List UInt8)) → (List UInt8) → (Int) → (Int) → Option (Int)
  | 0, _, _, _, _ => none
  | k + 1, a0, a1, x1, x2 => if (decide (x2 < (a0.length : Int))) = true then (if 0 ≤ x2 ∧ x2 < (a0.length : Int) then ((sluicegateref01_Compare.f k (gt a0 x2) a1).bind fun r1 => (if (decide (r1 ≤ 0)) = true then (sluicegateref12_Way.l0 k a0 a1 (w64 (x1 + 1)) (w64 (x2 + 1))) else (sluicegateref12_Way.l0 k a0 a1 x1 (w64 (x2 + 1))))) else none) else (some x1)
def sluicegateref12_Way.f (k : Nat) (a0 : List (List UInt8)) (a1 : List UInt8) : Option (Int) := sluicegateref12_Way.l0 k a0 a1 0 0
set_option maxRecDepth 20000 in
theorem sluicegateref12_Way.spec {k : Nat} {a0 : List (List UInt8)} {a1 : List UInt8} {A1 : Option Addr} {c_1 : Nat} {r : Int} (H : sluicegateref12_Way.f k a0 a1 = some r) :
    Spec Try.prog 42 [.slice A1 a0.length c_1, .string ⟨⟨a1⟩⟩] [] [rdC 9 .str a0 (.slice A1 a0.length c_1)] (fun v l => v = .int .i64 r ∧ l = []) := by
  refine Spec.enter Try.func42 rfl (by kernel_rfl) (by kernel_rfl) fun w0 F0 h0 => ?_
  unfold sluicegateref12_Way.f at H
  refine J.seq ?_
  refine J.region ?_
  refine RJ.run ttok 1 rfl ?_
  refine RJ.fin [(0, .slice A1 a0.length c_1), (1, .string ⟨⟨a1⟩⟩)] rfl ?_
  refine J.seq ?_
  refine J.region ?_
  refine RJ.run ttok 1 rfl ?_
  refine RJ.fin [(0, .slice A1 a0.length c_1), (1, .string ⟨⟨a1⟩⟩), (5, .int .i64 0)] rfl ?_
  refine J.seq ?_
  refine J.seq ?_
  refine J.region ?_
  refine RJ.run ttok 1 rfl ?_
  refine RJ.fin [(0, .slice A1 a0.length c_1), (1, .string ⟨⟨a1⟩⟩), (5, .int .i64 0), (6, .int .i64 0)] rfl ?_
  refine J.block ?_
  have h5 := ((h0.only [] rfl).rds [0] rfl)
  refine J.loop (fun k env w => ∃ (x1 : Int) (x2 : Int), env = [(0, .slice A1 a0.length c_1), (1, .string ⟨⟨a1⟩⟩), (5, .int .i64 x1), (6, .int .i64 x2)] ∧ St w0 F0 [] [rdC 9 .str a0 (.slice A1 a0.length c_1)] w ∧ sluicegateref12_Way.l0 k a0 a1 x1 x2 = some r) (k := k) ⟨0, 0, rfl, h5, H⟩ ?_
  rintro k1 env w1 ⟨x1, x2, rfl, h1, H⟩
  cases k1 with
  | zero => exact nomatch (show none = some r from H)
  | succ k1 =>
    rw [sluicegateref12_Way.l0] at H
    refine J.seq ?_
    refine J.seq ?_
    refine J.region ?_
    refine RJ.run ttok 4 rfl ?_
    refine RJ.fin [(0, .slice A1 a0.length c_1), (1, .string ⟨⟨a1⟩⟩), (5, .int .i64 x1), (6, .int .i64 x2), (10, .bool (decide (x2 < (a0.length : Int))))] rfl ?_
    refine J.cond rfl (fun c1 => ?_) (fun c1 => ?_)
    · replace H := ite_t c1 H
      refine J.skip ?_
      refine J.seq ?_
      refine J.block ?_
      refine J.seq ?_
      refine J.region ?_
      refine RJ.run ttok 2 rfl ?_
      obtain ⟨⟨p1, p2⟩, H⟩ := guard_t H
      have e1 := elem_A h1.wh (Gives.self 0 rfl) p1 p2
      refine RJ.q rfl rfl (q_index ttok rfl rfl rfl rfl rfl e1 p1 p2) ?_
      refine RJ.q rfl rfl (q_load_elem (f := 0) ttok rfl (fun w e => e ▸ h1.wh) (Gives.self 0 rfl) p1 p2 rfl rfl rfl rfl rfl) ?_
      refine RJ.run ttok 1 rfl ?_
      obtain ⟨r1, q1, H⟩ := bind_t H
      refine RJ.op rfl rfl (op_call [] (sluicegateref01_Compare.spec q1) rfl rfl rfl h1 rfl gnil) ?_
      rintro _ w2 ⟨_, ⟨rfl, rfl⟩, h2⟩
      refine RJ.run ttok 1 rfl ?_
      refine RJ.fin [(0, .slice A1 a0.length c_1), (1, .string ⟨⟨a1⟩⟩), (5, .int .i64 x1), (6, .int .i64 x2), (19, .bool (decide (r1 ≤ 0)))] rfl ?_
      refine J.cond rfl (fun c2 => ?_) (fun c2 => ?_)
      · replace H := ite_t c2 H
        refine J.region ?_
        refine RJ.run ttok 3 rfl ?_
        refine RJ.fin [(0, .slice A1 a0.length c_1), (1, .string ⟨⟨a1⟩⟩), (5, .int .i64 (w64 (x1 + 1))), (6, .int .i64 x2)] rfl ?_
        refine J.region ?_
        refine RJ.run ttok 3 rfl ?_
        refine RJ.fin [(0, .slice A1 a0.length c_1), (1, .string ⟨⟨a1⟩⟩), (5, .int .i64 (w64 (x1 + 1))), (6, .int .i64 (w64 (x2 + 1)))] rfl ?_
        have h3 := ((h2.only [] rfl).rds [0] rfl)
        exact ⟨k1, by omega, (w64 (x1 + 1)), (w64 (x2 + 1)), rfl, h3, H⟩
      · replace H := ite_f c2 H
        refine J.skip ?_
        refine J.region ?_
        refine RJ.run ttok 3 rfl ?_
        refine RJ.fin [(0, .slice A1 a0.length c_1), (1, .string ⟨⟨a1⟩⟩), (5, .int .i64 x1), (6, .int .i64 (w64 (x2 + 1)))] rfl ?_
        have h4 := ((h2.only [] rfl).rds [0] rfl)
        exact ⟨k1, by omega, x1, (w64 (x2 + 1)), rfl, h4, H⟩
    · replace H := ite_f c1 H
      refine J.exit ?_
      refine J.seq ?_
      refine J.region ?_
      refine RJ.run ttok 2 rfl ?_
      refine RJ.fin [(4, .int .i64 x1)] rfl ?_
      refine J.ret ?_
      obtain rfl := Option.some.inj H
      exact ⟨_, _, _, (results_slots rfl), ⟨rfl, rfl⟩, h1.only [] rfl⟩

/-! sluicegate/sluicegatelaw12.FanWays -/
def sluicegatelaw12_FanWays.f (k : Nat) (a0 : List (List UInt8)) (a1 : List UInt8) (a2 : List UInt8 × List UInt8 × Bool) (a3 : Int) : Option (Bool) := (sluicegatelaw12_great.f k a0 a1 (a2.1, a2.2.1, a2.2.2)).bind fun r1 => (if r1 = true then ((sluicegatelaw12_awake.f k).bind fun r2 => (some r2)) else ((fan_Right.f k a0 (a2.1, a2.2.1, a2.2.2)).bind fun r3 => ((sluicegateref12_Right.f k a0 (a2.1, a2.2.1, a2.2.2)).bind fun r4 => (if (!(r3 == r4)) = true then (some false) else ((sluicegateref12_Rise.f k a0).bind fun r5 => (if (!r5) = true then ((sluicegatelaw12_awake.f k).bind fun r6 => (some r6)) else ((fan_Span.f a0 a3 (a2.1, a2.2.1, a2.2.2)).bind fun r7 => ((sluicegateref12_Span.f k a0 a3 (a2.1, a2.2.1, a2.2.2)).bind fun r8 => ((fan_Way.f k a0 a1).bind fun r9 => ((sluicegateref12_Way.f k a0 a1).bind fun r10 => (if (decide (r9 = r10)) = true then (if ((decide (r7.1.1 = r8.1.1)) && ((decide (r7.1.2.1 = r8.1.2.1)) && ((r7.1.2.2 == r8.1.2.2) && true))) = true then (if (r7.2 == r8.2) = true then ((sluicegatelaw12_awake.f k).bind fun r11 => (some r11)) else (some false)) else (some false)) else (some false))))))))))))
set_option maxRecDepth 20000 in
theorem sluicegatelaw12_FanWays.spec {k : Nat} {a0 : List (List UInt8)} {a1 : List UInt8} {a2 : List UInt8 × List UInt8 × Bool} {a3 : Int} {A1 : Option Addr} {c_1 : Nat} {r : Bool} (H : sluicegatelaw12_FanWays.f k a0 a1 a2 a3 = some r) :
    Spec Try.prog 8 [.slice A1 a0.length c_1, .string ⟨⟨a1⟩⟩, .agg #[.string ⟨⟨a2.1⟩⟩, .string ⟨⟨a2.2.1⟩⟩, .bool a2.2.2], .int .i64 a3] [] [rdC 9 .str a0 (.slice A1 a0.length c_1)] (fun v l => v = .bool r ∧ l = []) := by
  refine Spec.enter Try.func8 rfl (by kernel_rfl) (by kernel_rfl) fun w0 F0 h0 => ?_
  unfold sluicegatelaw12_FanWays.f at H
  refine J.seq ?_
  refine J.region ?_
  refine RJ.op rfl rfl (op_box rfl rfl h0) ?_
  rintro _ w1 ⟨b1, rfl, h1⟩
  refine RJ.run ttok 1 rfl ?_
  refine RJ.fin [(0, .slice A1 a0.length c_1), (1, .string ⟨⟨a1⟩⟩), (3, .int .i64 a3), (6, .pointer (some ⟨b1, 0, none⟩))] rfl ?_
  refine J.seq ?_
  refine J.seq ?_
  refine J.region ?_
  refine RJ.run ttok 2 rfl ?_
  refine RJ.q rfl rfl (q_load_box ttok 0 (fun w e => e ▸ h1.wh) rfl rfl rfl rfl rfl) ?_
  obtain ⟨r1, q1, H⟩ := bind_t H
  refine RJ.op rfl rfl (op_call [] (sluicegatelaw12_great.spec q1) rfl rfl rfl h1 rfl (gcons (Gives.self 1 rfl) gnil)) ?_
  rintro _ w2 ⟨_, ⟨rfl, rfl⟩, h2⟩
  refine RJ.fin [(0, .slice A1 a0.length c_1), (1, .string ⟨⟨a1⟩⟩), (3, .int .i64 a3), (6, .pointer (some ⟨b1, 0, none⟩)), (16, .bool r1)] rfl ?_
  refine J.cond rfl (fun c1 => ?_) (fun c1 => ?_)
  · replace H := ite_t c1 H
    refine J.seq ?_
    refine J.region ?_
    obtain ⟨r2, q2, H⟩ := bind_t H
    refine RJ.op rfl rfl (op_call [] (sluicegatelaw12_awake.spec q2) rfl rfl rfl h2 rfl gnil) ?_
    rintro _ w3 ⟨_, ⟨rfl, rfl⟩, h3⟩
    refine RJ.run ttok 1 rfl ?_
    refine RJ.fin [(8, .bool r2)] rfl ?_
    refine J.ret ?_
    obtain rfl := Option.some.inj H
    exact ⟨_, _, _, (results_slots rfl), ⟨rfl, rfl⟩, h3.only [] rfl⟩
  · replace H := ite_f c1 H
    refine J.skip ?_
    refine J.seq ?_
    refine J.seq ?_
    refine J.heldSt mix h2 ?_
    have h4 := h2.drew
    refine HJ.run ttok rfl [0, 3] rfl ?_
    refine HJ.q (i := 1) rfl rfl rfl rfl rfl rfl (q_load_box ttok 0 (fun w e => e) rfl rfl rfl rfl rfl) ?_
    refine HJ.q (i := 4) rfl rfl rfl rfl rfl rfl (q_load_box ttok 0 (fun w e => e) rfl rfl rfl rfl rfl) ?_
    obtain ⟨r3, q3, H⟩ := bind_t H
    refine HJ.op (i := 2) rfl rfl rfl rfl rfl (op_call [] (fan_Right.spec q3) rfl rfl rfl h4 rfl (gcons (Gives.self 1 rfl) gnil)) ?_
    rintro _ w4 ⟨_, ⟨rfl, rfl⟩, h5⟩
    refine ⟨⟨[], h5⟩, ?_⟩
    obtain ⟨r4, q4, H⟩ := bind_t H
    refine HJ.op (i := 5) rfl rfl rfl rfl rfl (op_call [] (sluicegateref12_Right.spec q4) rfl rfl rfl h5 rfl (gcons (Gives.self 1 rfl) gnil)) ?_
    rintro _ w5 ⟨_, ⟨rfl, rfl⟩, h6⟩
    refine ⟨⟨[], h6⟩, ?_⟩
    refine HJ.run ttok rfl [6] rfl ?_
    refine HJ.fin [(0, .slice A1 a0.length c_1), (1, .string ⟨⟨a1⟩⟩), (3, .int .i64 a3), (6, .pointer (some ⟨b1, 0, none⟩)), (24, .bool (!(r3 == r4)))] rfl rfl ?_
    refine J.cond rfl (fun c2 => ?_) (fun c2 => ?_)
    · replace H := ite_t c2 H
      refine J.seq ?_
      refine J.region ?_
      refine RJ.run ttok 1 rfl ?_
      refine RJ.fin [(8, .bool false)] rfl ?_
      refine J.ret ?_
      obtain rfl := Option.some.inj H
      exact ⟨_, _, _, (results_slots rfl), ⟨rfl, rfl⟩, h6.only [] rfl⟩
    · replace H := ite_f c2 H
      refine J.skip ?_
      refine J.seq ?_
      refine J.seq ?_
      refine J.region ?_
      refine RJ.run ttok 1 rfl ?_
      obtain ⟨r5, q5, H⟩ := bind_t H
      refine RJ.op rfl rfl (op_call [] (sluicegateref12_Rise.spec q5) rfl rfl rfl h6 rfl (gcons (Gives.self 1 rfl) gnil)) ?_
      rintro _ w6 ⟨_, ⟨rfl, rfl⟩, h7⟩
      refine RJ.run ttok 1 rfl ?_
      refine RJ.fin [(0, .slice A1 a0.length c_1), (1, .string ⟨⟨a1⟩⟩), (3, .int .i64 a3), (6, .pointer (some ⟨b1, 0, none⟩)), (27, .bool (!r5))] rfl ?_
      refine J.cond rfl (fun c3 => ?_) (fun c3 => ?_)
      · replace H := ite_t c3 H
        refine J.seq ?_
        refine J.region ?_
        obtain ⟨r6, q6, H⟩ := bind_t H
        refine RJ.op rfl rfl (op_call [] (sluicegatelaw12_awake.spec q6) rfl rfl rfl h7 rfl gnil) ?_
        rintro _ w7 ⟨_, ⟨rfl, rfl⟩, h8⟩
        refine RJ.run ttok 1 rfl ?_
        refine RJ.fin [(8, .bool r6)] rfl ?_
        refine J.ret ?_
        obtain rfl := Option.some.inj H
        exact ⟨_, _, _, (results_slots rfl), ⟨rfl, rfl⟩, h8.only [] rfl⟩
      · replace H := ite_f c3 H
        refine J.skip ?_
        refine J.seq ?_
        refine J.region ?_
        refine RJ.run ttok 2 rfl ?_
        refine RJ.q rfl rfl (q_load_box ttok 0 (fun w e => e ▸ h7.wh) rfl rfl rfl rfl rfl) ?_
        obtain ⟨r7, q7, H⟩ := bind_t H
        refine RJ.op rfl rfl (op_call [] (fan_Span.spec q7) rfl rfl rfl h7 rfl (gcons (Gives.self 1 rfl) gnil)) ?_
        rintro _ w8 ⟨_, ⟨rfl, rfl⟩, h9⟩
        refine RJ.run ttok 3 rfl ?_
        refine RJ.op rfl rfl (op_alloc ttok rfl rfl h9) ?_
        rintro _ w9 ⟨b2, rfl, h10⟩
        refine RJ.op rfl rfl (op_store ttok 0 rfl h10 rfl rfl rfl rfl rfl rfl rfl) ?_
        intro _ w10 h11
        replace h11 : St w0 F0 (boxC b2 23 [.string ⟨⟨r7.1.1⟩⟩, .string ⟨⟨r7.1.2.1⟩⟩, .bool r7.1.2.2] :: _) _ w10 := h11
        refine RJ.run ttok 1 rfl ?_
        refine RJ.fin [(0, .slice A1 a0.length c_1), (1, .string ⟨⟨a1⟩⟩), (3, .int .i64 a3), (6, .pointer (some ⟨b1, 0, none⟩)), (9, .pointer (some ⟨b2, 0, none⟩)), (10, .bool r7.2)] rfl ?_
        refine J.seq ?_
        refine J.region ?_
        refine RJ.run ttok 2 rfl ?_
        refine RJ.q rfl rfl (q_load_box ttok 1 (fun w e => e ▸ h11.wh) rfl rfl rfl rfl rfl) ?_
        obtain ⟨r8, q8, H⟩ := bind_t H
        refine RJ.op rfl rfl (op_call [] (sluicegateref12_Span.spec q8) rfl rfl rfl h11 rfl (gcons (Gives.self 2 rfl) gnil)) ?_
        rintro _ w11 ⟨_, ⟨rfl, rfl⟩, h12⟩
        refine RJ.run ttok 3 rfl ?_
        refine RJ.op rfl rfl (op_alloc ttok rfl rfl h12) ?_
        rintro _ w12 ⟨b3, rfl, h13⟩
        refine RJ.op rfl rfl (op_store ttok 0 rfl h13 rfl rfl rfl rfl rfl rfl rfl) ?_
        intro _ w13 h14
        replace h14 : St w0 F0 (boxC b3 23 [.string ⟨⟨r8.1.1⟩⟩, .string ⟨⟨r8.1.2.1⟩⟩, .bool r8.1.2.2] :: _) _ w13 := h14
        refine RJ.run ttok 1 rfl ?_
        refine RJ.fin [(0, .slice A1 a0.length c_1), (1, .string ⟨⟨a1⟩⟩), (9, .pointer (some ⟨b2, 0, none⟩)), (10, .bool r7.2), (11, .pointer (some ⟨b3, 0, none⟩)), (12, .bool r8.2)] rfl ?_
        refine J.seq ?_
        refine J.region ?_
        refine RJ.run ttok 2 rfl ?_
        obtain ⟨r9, q9, H⟩ := bind_t H
        refine RJ.op rfl rfl (op_call [] (fan_Way.spec q9) rfl rfl rfl h14 rfl (gcons (Gives.self 3 rfl) gnil)) ?_
        rintro _ w14 ⟨_, ⟨rfl, rfl⟩, h15⟩
        refine RJ.run ttok 2 rfl ?_
        obtain ⟨r10, q10, H⟩ := bind_t H
        refine RJ.op rfl rfl (op_call [] (sluicegateref12_Way.spec q10) rfl rfl rfl h15 rfl (gcons (Gives.self 3 rfl) gnil)) ?_
        rintro _ w15 ⟨_, ⟨rfl, rfl⟩, h16⟩
        refine RJ.run ttok 2 rfl ?_
        rcases Bool.eq_false_or_eq_true (decide (r9 = r10)) with c4 | c4
        · replace H := ite_t c4 H
          refine RJ.know (t := 50) rfl (congrArg Value.bool c4) ?_
          refine RJ.q rfl rfl (q_load_box ttok 1 (fun w e => e ▸ h16.wh) rfl rfl rfl rfl rfl) ?_
          refine RJ.q rfl rfl (q_load_box ttok 0 (fun w e => e ▸ h16.wh) rfl rfl rfl rfl rfl) ?_
          refine RJ.run ttok 3 rfl ?_
          rcases Bool.eq_false_or_eq_true ((decide (r7.1.1 = r8.1.1)) && ((decide (r7.1.2.1 = r8.1.2.1)) && ((r7.1.2.2 == r8.1.2.2) && true))) with c5 | c5
          · replace H := ite_t c5 H
            refine RJ.know (t := 55) rfl (congrArg Value.bool c5) ?_
            refine RJ.run ttok 5 rfl ?_
            rcases Bool.eq_false_or_eq_true (r7.2 == r8.2) with c6 | c6
            · replace H := ite_t c6 H
              refine RJ.know (t := 60) rfl (congrArg Value.bool c6) ?_
              obtain ⟨r11, q11, H⟩ := bind_t H
              refine RJ.op rfl rfl (op_call [] (sluicegatelaw12_awake.spec q11) rfl rfl rfl h16 rfl gnil) ?_
              rintro _ w16 ⟨_, ⟨rfl, rfl⟩, h17⟩
              refine RJ.run ttok 2 rfl ?_
              refine RJ.fin [(8, .bool r11)] rfl ?_
              refine J.ret ?_
              obtain rfl := Option.some.inj H
              exact ⟨_, _, _, (results_slots rfl), ⟨rfl, rfl⟩, h17.only [] rfl⟩
            · replace H := ite_f c6 H
              refine RJ.know (t := 60) rfl (congrArg Value.bool c6) ?_
              refine RJ.run ttok 3 rfl ?_
              refine RJ.fin [(8, .bool false)] rfl ?_
              refine J.ret ?_
              obtain rfl := Option.some.inj H
              exact ⟨_, _, _, (results_slots rfl), ⟨rfl, rfl⟩, h16.only [] rfl⟩
          · replace H := ite_f c5 H
            refine RJ.know (t := 55) rfl (congrArg Value.bool c5) ?_
            refine RJ.run ttok 8 rfl ?_
            refine RJ.fin [(8, .bool false)] rfl ?_
            refine J.ret ?_
            obtain rfl := Option.some.inj H
            exact ⟨_, _, _, (results_slots rfl), ⟨rfl, rfl⟩, h16.only [] rfl⟩
        · replace H := ite_f c4 H
          refine RJ.know (t := 50) rfl (congrArg Value.bool c4) ?_
          refine RJ.run ttok 13 rfl ?_
          refine RJ.fin [(8, .bool false)] rfl ?_
          refine J.ret ?_
          obtain rfl := Option.some.inj H
          exact ⟨_, _, _, (results_slots rfl), ⟨rfl, rfl⟩, h16.only [] rfl⟩

end Go.SK.T
