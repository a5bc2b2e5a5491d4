/- The types of the program, and its functions as the code computes them, each proved. -/
import Derived.Test.YtelieidgolfboaaKp
import Derived.Test.YtelieidgolfboaaProg
set_option linter.unusedVariables false
set_option linter.unusedSimpArgs false
namespace Go.SK.T
open Go Go.SK Go.Proofs
def tt : TT := [(1, ⟨.func, 1, 8, .nilFunc⟩),
  (2, ⟨.int .i64, 1, 8, .int .i64 0⟩),
  (3, ⟨.int .i64, 1, 8, .int .i64 0⟩),
  (4, ⟨.bool, 1, 1, .bool false⟩),
  (5, ⟨.int .u8, 1, 1, .int .u8 0⟩),
  (6, ⟨.int .u8, 1, 1, .int .u8 0⟩),
  (9, ⟨.str, 1, 16, .string ⟨⟨[]⟩⟩⟩),
  (10, ⟨.str, 1, 16, .string ⟨⟨[]⟩⟩⟩),
  (11, ⟨.str, 1, 16, .string ⟨⟨[]⟩⟩⟩),
  (12, ⟨.int .u64, 1, 8, .int .u64 0⟩),
  (15, ⟨.ptr 78, 1, 8, .pointer none⟩),
  (16, ⟨.ptr 81, 1, 8, .pointer none⟩),
  (17, ⟨.ptr 91, 1, 8, .pointer none⟩),
  (20, ⟨.iface, 1, 16, .nilIface⟩),
  (21, ⟨.int .i32, 1, 4, .int .i32 0⟩),
  (22, ⟨.struct [(9, 0, 1), (9, 1, 1), (4, 2, 1)], 3, 40, .agg #[.string ⟨⟨[]⟩⟩, .string ⟨⟨[]⟩⟩, .bool false]⟩),
  (23, ⟨.struct [(9, 0, 1), (9, 1, 1), (4, 2, 1)], 3, 40, .agg #[.string ⟨⟨[]⟩⟩, .string ⟨⟨[]⟩⟩, .bool false]⟩),
  (24, ⟨.func, 1, 8, .nilFunc⟩),
  (25, ⟨.func, 1, 8, .nilFunc⟩),
  (26, ⟨.func, 1, 8, .nilFunc⟩),
  (27, ⟨.func, 1, 8, .nilFunc⟩),
  (28, ⟨.func, 1, 8, .nilFunc⟩),
  (30, ⟨.func, 1, 8, .nilFunc⟩),
  (31, ⟨.func, 1, 8, .nilFunc⟩),
  (32, ⟨.func, 1, 8, .nilFunc⟩),
  (34, ⟨.func, 1, 8, .nilFunc⟩),
  (35, ⟨.func, 1, 8, .nilFunc⟩),
  (36, ⟨.func, 1, 8, .nilFunc⟩),
  (37, ⟨.func, 1, 8, .nilFunc⟩),
  (38, ⟨.slice 55, 1, 24, .slice none 0 0⟩),
  (39, ⟨.func, 1, 8, .nilFunc⟩),
  (40, ⟨.func, 1, 8, .nilFunc⟩),
  (41, ⟨.func, 1, 8, .nilFunc⟩),
  (42, ⟨.slice 9, 1, 24, .slice none 0 0⟩),
  (43, ⟨.func, 1, 8, .nilFunc⟩),
  (44, ⟨.func, 1, 8, .nilFunc⟩),
  (45, ⟨.func, 1, 8, .nilFunc⟩),
  (46, ⟨.func, 1, 8, .nilFunc⟩),
  (47, ⟨.func, 1, 8, .nilFunc⟩),
  (48, ⟨.func, 1, 8, .nilFunc⟩),
  (50, ⟨.func, 1, 8, .nilFunc⟩),
  (51, ⟨.func, 1, 8, .nilFunc⟩),
  (52, ⟨.func, 1, 8, .nilFunc⟩),
  (53, ⟨.func, 1, 8, .nilFunc⟩),
  (54, ⟨.struct [(9, 0, 1), (4, 1, 1), (9, 2, 1)], 3, 40, .agg #[.string ⟨⟨[]⟩⟩, .bool false, .string ⟨⟨[]⟩⟩]⟩),
  (55, ⟨.struct [(9, 0, 1), (4, 1, 1), (9, 2, 1)], 3, 40, .agg #[.string ⟨⟨[]⟩⟩, .bool false, .string ⟨⟨[]⟩⟩]⟩),
  (57, ⟨.func, 1, 8, .nilFunc⟩),
  (58, ⟨.func, 1, 8, .nilFunc⟩),
  (59, ⟨.func, 1, 8, .nilFunc⟩),
  (60, ⟨.func, 1, 8, .nilFunc⟩),
  (61, ⟨.func, 1, 8, .nilFunc⟩),
  (62, ⟨.slice 38, 1, 24, .slice none 0 0⟩),
  (64, ⟨.func, 1, 8, .nilFunc⟩),
  (66, ⟨.func, 1, 8, .nilFunc⟩),
  (67, ⟨.func, 1, 8, .nilFunc⟩),
  (68, ⟨.func, 1, 8, .nilFunc⟩),
  (69, ⟨.func, 1, 8, .nilFunc⟩),
  (70, ⟨.func, 1, 8, .nilFunc⟩),
  (71, ⟨.func, 1, 8, .nilFunc⟩),
  (72, ⟨.int .u64, 1, 8, .int .u64 0⟩),
  (73, ⟨.func, 1, 8, .nilFunc⟩),
  (74, ⟨.func, 1, 8, .nilFunc⟩),
  (75, ⟨.func, 1, 8, .nilFunc⟩),
  (76, ⟨.func, 1, 8, .nilFunc⟩),
  (82, ⟨.func, 1, 8, .nilFunc⟩),
  (83, ⟨.int .u32, 1, 4, .int .u32 0⟩),
  (84, ⟨.int .u8, 1, 1, .int .u8 0⟩),
  (85, ⟨.int .u8, 1, 1, .int .u8 0⟩),
  (86, ⟨.func, 1, 8, .nilFunc⟩),
  (87, ⟨.ptr 5, 1, 8, .pointer none⟩),
  (88, ⟨.int .i32, 1, 4, .int .i32 0⟩),
  (89, ⟨.int .i32, 1, 4, .int .i32 0⟩)]
theorem ttok : TTok Try.prog tt := by
  refine ttok_cons ⟨by kernel_rfl, ⟨_, _, _, Try.underlying1⟩⟩ ?_
  refine ttok_cons ⟨by kernel_rfl, Try.underlying2⟩ ?_
  refine ttok_cons ⟨by kernel_rfl, Try.underlying3⟩ ?_
  refine ttok_cons ⟨by kernel_rfl, Try.underlying4⟩ ?_
  refine ttok_cons ⟨by kernel_rfl, Try.underlying5⟩ ?_
  refine ttok_cons ⟨by kernel_rfl, Try.underlying6⟩ ?_
  refine ttok_cons ⟨by kernel_rfl, Try.underlying9⟩ ?_
  refine ttok_cons ⟨by kernel_rfl, Try.underlying10⟩ ?_
  refine ttok_cons ⟨by kernel_rfl, Try.underlying11⟩ ?_
  refine ttok_cons ⟨by kernel_rfl, Try.underlying12⟩ ?_
  refine ttok_cons ⟨by kernel_rfl, Try.underlying15⟩ ?_
  refine ttok_cons ⟨by kernel_rfl, Try.underlying16⟩ ?_
  refine ttok_cons ⟨by kernel_rfl, Try.underlying17⟩ ?_
  refine ttok_cons ⟨by kernel_rfl, ⟨_, Try.underlying20⟩⟩ ?_
  refine ttok_cons ⟨by kernel_rfl, Try.underlying21⟩ ?_
  refine ttok_cons ⟨by kernel_rfl, ⟨_, Try.underlying22, by kernel_rfl, by kernel_rfl, by kernel_rfl, by kernel_rfl, by kernel_rfl, by kernel_rfl⟩⟩ ?_
  refine ttok_cons ⟨by kernel_rfl, ⟨_, Try.underlying23, by kernel_rfl, by kernel_rfl, by kernel_rfl, by kernel_rfl, by kernel_rfl, by kernel_rfl⟩⟩ ?_
  refine ttok_cons ⟨by kernel_rfl, ⟨_, _, _, Try.underlying24⟩⟩ ?_
  refine ttok_cons ⟨by kernel_rfl, ⟨_, _, _, Try.underlying25⟩⟩ ?_
  refine ttok_cons ⟨by kernel_rfl, ⟨_, _, _, Try.underlying26⟩⟩ ?_
  refine ttok_cons ⟨by kernel_rfl, ⟨_, _, _, Try.underlying27⟩⟩ ?_
  refine ttok_cons ⟨by kernel_rfl, ⟨_, _, _, Try.underlying28⟩⟩ ?_
  refine ttok_cons ⟨by kernel_rfl, ⟨_, _, _, Try.underlying30⟩⟩ ?_
  refine ttok_cons ⟨by kernel_rfl, ⟨_, _, _, Try.underlying31⟩⟩ ?_
  refine ttok_cons ⟨by kernel_rfl, ⟨_, _, _, Try.underlying32⟩⟩ ?_
  refine ttok_cons ⟨by kernel_rfl, ⟨_, _, _, Try.underlying34⟩⟩ ?_
  refine ttok_cons ⟨by kernel_rfl, ⟨_, _, _, Try.underlying35⟩⟩ ?_
  refine ttok_cons ⟨by kernel_rfl, ⟨_, _, _, Try.underlying36⟩⟩ ?_
  refine ttok_cons ⟨by kernel_rfl, ⟨_, _, _, Try.underlying37⟩⟩ ?_
  refine ttok_cons ⟨by kernel_rfl, Try.underlying38⟩ ?_
  refine ttok_cons ⟨by kernel_rfl, ⟨_, _, _, Try.underlying39⟩⟩ ?_
  refine ttok_cons ⟨by kernel_rfl, ⟨_, _, _, Try.underlying40⟩⟩ ?_
  refine ttok_cons ⟨by kernel_rfl, ⟨_, _, _, Try.underlying41⟩⟩ ?_
  refine ttok_cons ⟨by kernel_rfl, Try.underlying42⟩ ?_
  refine ttok_cons ⟨by kernel_rfl, ⟨_, _, _, Try.underlying43⟩⟩ ?_
  refine ttok_cons ⟨by kernel_rfl, ⟨_, _, _, Try.underlying44⟩⟩ ?_
  refine ttok_cons ⟨by kernel_rfl, ⟨_, _, _, Try.underlying45⟩⟩ ?_
  refine ttok_cons ⟨by kernel_rfl, ⟨_, _, _, Try.underlying46⟩⟩ ?_
  refine ttok_cons ⟨by kernel_rfl, ⟨_, _, _, Try.underlying47⟩⟩ ?_
  refine ttok_cons ⟨by kernel_rfl, ⟨_, _, _, Try.underlying48⟩⟩ ?_
  refine ttok_cons ⟨by kernel_rfl, ⟨_, _, _, Try.underlying50⟩⟩ ?_
  refine ttok_cons ⟨by kernel_rfl, ⟨_, _, _, Try.underlying51⟩⟩ ?_
  refine ttok_cons ⟨by kernel_rfl, ⟨_, _, _, Try.underlying52⟩⟩ ?_
  refine ttok_cons ⟨by kernel_rfl, ⟨_, _, _, Try.underlying53⟩⟩ ?_
  refine ttok_cons ⟨by kernel_rfl, ⟨_, Try.underlying54, by kernel_rfl, by kernel_rfl, by kernel_rfl, by kernel_rfl, by kernel_rfl, by kernel_rfl⟩⟩ ?_
  refine ttok_cons ⟨by kernel_rfl, ⟨_, Try.underlying55, by kernel_rfl, by kernel_rfl, by kernel_rfl, by kernel_rfl, by kernel_rfl, by kernel_rfl⟩⟩ ?_
  refine ttok_cons ⟨by kernel_rfl, ⟨_, _, _, Try.underlying57⟩⟩ ?_
  refine ttok_cons ⟨by kernel_rfl, ⟨_, _, _, Try.underlying58⟩⟩ ?_
  refine ttok_cons ⟨by kernel_rfl, ⟨_, _, _, Try.underlying59⟩⟩ ?_
  refine ttok_cons ⟨by kernel_rfl, ⟨_, _, _, Try.underlying60⟩⟩ ?_
  refine ttok_cons ⟨by kernel_rfl, ⟨_, _, _, Try.underlying61⟩⟩ ?_
  refine ttok_cons ⟨by kernel_rfl, Try.underlying62⟩ ?_
  refine ttok_cons ⟨by kernel_rfl, ⟨_, _, _, Try.underlying64⟩⟩ ?_
  refine ttok_cons ⟨by kernel_rfl, ⟨_, _, _, Try.underlying66⟩⟩ ?_
  refine ttok_cons ⟨by kernel_rfl, ⟨_, _, _, Try.underlying67⟩⟩ ?_
  refine ttok_cons ⟨by kernel_rfl, ⟨_, _, _, Try.underlying68⟩⟩ ?_
  refine ttok_cons ⟨by kernel_rfl, ⟨_, _, _, Try.underlying69⟩⟩ ?_
  refine ttok_cons ⟨by kernel_rfl, ⟨_, _, _, Try.underlying70⟩⟩ ?_
  refine ttok_cons ⟨by kernel_rfl, ⟨_, _, _, Try.underlying71⟩⟩ ?_
  refine ttok_cons ⟨by kernel_rfl, Try.underlying72⟩ ?_
  refine ttok_cons ⟨by kernel_rfl, ⟨_, _, _, Try.underlying73⟩⟩ ?_
  refine ttok_cons ⟨by kernel_rfl, ⟨_, _, _, Try.underlying74⟩⟩ ?_
  refine ttok_cons ⟨by kernel_rfl, ⟨_, _, _, Try.underlying75⟩⟩ ?_
  refine ttok_cons ⟨by kernel_rfl, ⟨_, _, _, Try.underlying76⟩⟩ ?_
  refine ttok_cons ⟨by kernel_rfl, ⟨_, _, _, Try.underlying82⟩⟩ ?_
  refine ttok_cons ⟨by kernel_rfl, Try.underlying83⟩ ?_
  refine ttok_cons ⟨by kernel_rfl, Try.underlying84⟩ ?_
  refine ttok_cons ⟨by kernel_rfl, Try.underlying85⟩ ?_
  refine ttok_cons ⟨by kernel_rfl, ⟨_, _, _, Try.underlying86⟩⟩ ?_
  refine ttok_cons ⟨by kernel_rfl, Try.underlying87⟩ ?_
  refine ttok_cons ⟨by kernel_rfl, Try.underlying88⟩ ?_
  refine ttok_cons ⟨by kernel_rfl, Try.underlying89⟩ ?_
  exact ttok_nil _
theorem mix : Try.prog.follows .mixedOrders = true := by kernel_rfl
theorem cmpstr : CmpStr Try.prog 67 := CmpStr.of Try.func67 (by kernel_rfl) (by kernel_rfl) (by kernel_rfl) rfl
/-! sluicegate/sluicegatelaw01.long -/
def sluicegatelaw01_long.l0 : Nat → (List (List UInt8)) → (Int) → Option (Bool)
  | 0, _, _ => none
  | k + 1, a0, x1 => if (decide (x1 < (a0.length : Int))) = true then (if 0 ≤ x1 ∧ x1 < (a0.length : Int) then (if (decide (2000 < ((gt a0 x1).length : Int))) = true then (some true) else (sluicegatelaw01_long.l0 k a0 (w64 (x1 + 1)))) else none) else (some false)
def sluicegatelaw01_long.f (k : Nat) (a0 : List (List UInt8)) : Option (Bool) := sluicegatelaw01_long.l0 k a0 0
set_option maxRecDepth 20000 in
theorem sluicegatelaw01_long.spec {k : Nat} {a0 : List (List UInt8)} {A1 : Option Addr} {c_1 : Nat} {r : Bool} (H : sluicegatelaw01_long.f k a0 = some r) :
    Spec Try.prog 13 [.slice A1 a0.length c_1] [] [rdC 9 .str a0 (.slice A1 a0.length c_1)] (fun v l => v = .bool r ∧ l = []) := by
  refine Spec.enter Try.func13 rfl (by kernel_rfl) (by kernel_rfl) fun w0 F0 h0 => ?_
  unfold sluicegatelaw01_long.f at H
  refine J.seq ?_
  refine J.region ?_
  refine RJ.run ttok 1 rfl ?_
  refine RJ.fin [(0, .slice A1 a0.length c_1)] rfl ?_
  refine J.seq ?_
  refine J.seq ?_
  refine J.region ?_
  refine RJ.run ttok 1 rfl ?_
  refine RJ.fin [(0, .slice A1 a0.length c_1), (3, .int .i64 0)] rfl ?_
  refine J.block ?_
  have h3 := ((h0.only [] rfl).rds [0] rfl)
  refine J.loop (fun k env w => ∃ (x1 : Int), env = [(0, .slice A1 a0.length c_1), (3, .int .i64 x1)] ∧ St w0 F0 [] [rdC 9 .str a0 (.slice A1 a0.length c_1)] w ∧ sluicegatelaw01_long.l0 k a0 x1 = some r) (k := k) ⟨0, rfl, h3, H⟩ ?_
  rintro k env w1 ⟨x1, rfl, h1, H⟩
  cases k with
  | zero => exact nomatch (show none = some r from H)
  | succ k =>
    rw [sluicegatelaw01_long.l0] at H
    refine J.seq ?_
    refine J.seq ?_
    refine J.region ?_
    refine RJ.run ttok 4 rfl ?_
    refine RJ.fin [(0, .slice A1 a0.length c_1), (3, .int .i64 x1), (7, .bool (decide (x1 < (a0.length : Int))))] rfl ?_
    refine J.cond rfl (fun c1 => ?_) (fun c1 => ?_)
    · replace H := ite_t c1 H
      refine J.skip ?_
      refine J.seq ?_
      refine J.block ?_
      refine J.seq ?_
      refine J.region ?_
      refine RJ.run ttok 2 rfl ?_
      obtain ⟨⟨p1, p2⟩, H⟩ := guard_t H
      have e1 := elem_A h1.wh (Gives.self 0 rfl) p1 p2
      refine RJ.q rfl rfl (q_index ttok rfl rfl rfl rfl rfl e1 p1 p2) ?_
      refine RJ.q rfl rfl (q_load_elem (f := 0) ttok rfl (fun w e => e ▸ h1.wh) (Gives.self 0 rfl) p1 p2 rfl rfl rfl rfl rfl) ?_
      refine RJ.run ttok 2 rfl ?_
      refine RJ.fin [(0, .slice A1 a0.length c_1), (3, .int .i64 x1), (15, .bool (decide (2000 < ((gt a0 x1).length : Int))))] rfl ?_
      refine J.cond rfl (fun c2 => ?_) (fun c2 => ?_)
      · replace H := ite_t c2 H
        refine J.seq ?_
        refine J.region ?_
        refine RJ.run ttok 1 rfl ?_
        refine RJ.fin [(2, .bool true)] rfl ?_
        refine J.ret ?_
        obtain rfl := Option.some.inj H
        exact ⟨_, _, _, (results_slots rfl), ⟨rfl, rfl⟩, h1.only [] rfl⟩
      · replace H := ite_f c2 H
        refine J.skip ?_
        refine J.region ?_
        refine RJ.run ttok 3 rfl ?_
        refine RJ.fin [(0, .slice A1 a0.length c_1), (3, .int .i64 (w64 (x1 + 1)))] rfl ?_
        have h2 := ((h1.only [] rfl).rds [0] rfl)
        exact ⟨k, Nat.lt_succ_self k, (w64 (x1 + 1)), rfl, h2, H⟩
    · replace H := ite_f c1 H
      refine J.exit ?_
      refine J.seq ?_
      refine J.region ?_
      refine RJ.run ttok 1 rfl ?_
      refine RJ.fin [(2, .bool false)] rfl ?_
      refine J.ret ?_
      obtain rfl := Option.some.inj H
      exact ⟨_, _, _, (results_slots rfl), ⟨rfl, rfl⟩, h1.only [] rfl⟩

/-! sluicegate/lex.Shared -/
def lex_Shared.l0 : Nat → (List UInt8) → (List UInt8) → (Int) → Option (Int)
  | 0, _, _, _ => none
  | k + 1, a0, a1, x1 => if (decide (x1 < (if (a1.length : Int) < (a0.length : Int) then (a1.length : Int) else (a0.length : Int)))) = true then (if 0 ≤ x1 ∧ x1 < (a0.length : Int) then (if 0 ≤ x1 ∧ x1 < (a1.length : Int) then (if (!decide ((gtb a0 x1) = (gtb a1 x1))) = true then (some x1) else (lex_Shared.l0 k a0 a1 (w64 (x1 + 1)))) else none) else none) else (some (if (a1.length : Int) < (a0.length : Int) then (a1.length : Int) else (a0.length : Int)))
def lex_Shared.f (k : Nat) (a0 : List UInt8) (a1 : List UInt8) : Option (Int) := lex_Shared.l0 k a0 a1 0
set_option maxRecDepth 20000 in
theorem lex_Shared.spec {k : Nat} {a0 : List UInt8} {a1 : List UInt8}  {r : Int} (H : lex_Shared.f k a0 a1 = some r) :
    Spec Try.prog 25 [.string ⟨⟨a0⟩⟩, .string ⟨⟨a1⟩⟩] [] [] (fun v l => v = .int .i64 r ∧ l = []) := by
  refine Spec.enter Try.func25 rfl (by kernel_rfl) (by kernel_rfl) fun w0 F0 h0 => ?_
  unfold lex_Shared.f at H
  refine J.seq ?_
  refine J.region ?_
  refine RJ.run ttok 1 rfl ?_
  refine RJ.fin [(0, .string ⟨⟨a0⟩⟩), (1, .string ⟨⟨a1⟩⟩)] rfl ?_
  refine J.seq ?_
  refine J.region ?_
  refine RJ.run ttok 6 rfl ?_
  refine RJ.fin [(0, .string ⟨⟨a0⟩⟩), (1, .string ⟨⟨a1⟩⟩), (5, .int .i64 (if (a1.length : Int) < (a0.length : Int) then (a1.length : Int) else (a0.length : Int)))] rfl ?_
  refine J.seq ?_
  refine J.seq ?_
  refine J.region ?_
  refine RJ.run ttok 2 rfl ?_
  refine RJ.fin [(0, .string ⟨⟨a0⟩⟩), (1, .string ⟨⟨a1⟩⟩), (5, .int .i64 (if (a1.length : Int) < (a0.length : Int) then (a1.length : Int) else (a0.length : Int))), (12, .int .i64 (if (a1.length : Int) < (a0.length : Int) then (a1.length : Int) else (a0.length : Int))), (13, .int .i64 0)] rfl ?_
  refine J.block ?_
  have h4 := ((h0.only [] rfl).rds [] rfl)
  refine J.loop (fun k env w => ∃ (x1 : Int), env = [(0, .string ⟨⟨a0⟩⟩), (1, .string ⟨⟨a1⟩⟩), (5, .int .i64 (if (a1.length : Int) < (a0.length : Int) then (a1.length : Int) else (a0.length : Int))), (12, .int .i64 (if (a1.length : Int) < (a0.length : Int) then (a1.length : Int) else (a0.length : Int))), (13, .int .i64 x1)] ∧ St w0 F0 [] [] w ∧ lex_Shared.l0 k a0 a1 x1 = some r) (k := k) ⟨0, rfl, h4, H⟩ ?_
  rintro k env w1 ⟨x1, rfl, h1, H⟩
  cases k with
  | zero => exact nomatch (show none = some r from H)
  | succ k =>
    rw [lex_Shared.l0] at H
    refine J.seq ?_
    refine J.region ?_
    refine RJ.run ttok 1 rfl ?_
    refine RJ.fin [(0, .string ⟨⟨a0⟩⟩), (1, .string ⟨⟨a1⟩⟩), (5, .int .i64 (if (a1.length : Int) < (a0.length : Int) then (a1.length : Int) else (a0.length : Int))), (12, .int .i64 (if (a1.length : Int) < (a0.length : Int) then (a1.length : Int) else (a0.length : Int))), (13, .int .i64 x1), (14, .bool (decide (x1 < (if (a1.length : Int) < (a0.length : Int) then (a1.length : Int) else (a0.length : Int)))))] rfl ?_
    refine J.seq ?_
    refine J.cond rfl (fun c1 => ?_) (fun c1 => ?_)
    · replace H := ite_t c1 H
      refine J.skip ?_
      refine J.seq ?_
      refine J.block ?_
      refine J.seq ?_
      refine J.region ?_
      refine RJ.run ttok 2 rfl ?_
      refine RJ.fin [(0, .string ⟨⟨a0⟩⟩), (1, .string ⟨⟨a1⟩⟩), (5, .int .i64 (if (a1.length : Int) < (a0.length : Int) then (a1.length : Int) else (a0.length : Int))), (6, .int .i64 x1), (12, .int .i64 (if (a1.length : Int) < (a0.length : Int) then (a1.length : Int) else (a0.length : Int))), (13, .int .i64 x1)] rfl ?_
      refine J.seq ?_
      refine J.heldSt mix h1 ?_
      have h2 := h1.drew
      refine HJ.run ttok rfl [0, 1, 3, 4] rfl ?_
      obtain ⟨⟨p1, p2⟩, H⟩ := guard_t H
      refine HJ.q (i := 2) rfl rfl rfl rfl rfl rfl (q_byte ttok rfl rfl rfl rfl p1 p2) ?_
      obtain ⟨⟨p3, p4⟩, H⟩ := guard_t H
      refine HJ.q (i := 5) rfl rfl rfl rfl rfl rfl (q_byte ttok rfl rfl rfl rfl p3 p4) ?_
      refine HJ.run ttok rfl [6] rfl ?_
      refine HJ.fin [(0, .string ⟨⟨a0⟩⟩), (1, .string ⟨⟨a1⟩⟩), (5, .int .i64 (if (a1.length : Int) < (a0.length : Int) then (a1.length : Int) else (a0.length : Int))), (6, .int .i64 x1), (12, .int .i64 (if (a1.length : Int) < (a0.length : Int) then (a1.length : Int) else (a0.length : Int))), (13, .int .i64 x1), (22, .bool (!decide ((gtb a0 x1) = (gtb a1 x1))))] rfl rfl ?_
      refine J.cond rfl (fun c2 => ?_) (fun c2 => ?_)
      · replace H := ite_t c2 H
        refine J.seq ?_
        refine J.region ?_
        refine RJ.run ttok 2 rfl ?_
        refine RJ.fin [(4, .int .i64 x1)] rfl ?_
        refine J.ret ?_
        obtain rfl := Option.some.inj H
        exact ⟨_, _, _, (results_slots rfl), ⟨rfl, rfl⟩, h2.only [] rfl⟩
      · replace H := ite_f c2 H
        refine J.skip ?_
        refine J.region ?_
        refine RJ.run ttok 2 rfl ?_
        refine RJ.fin [(0, .string ⟨⟨a0⟩⟩), (1, .string ⟨⟨a1⟩⟩), (5, .int .i64 (if (a1.length : Int) < (a0.length : Int) then (a1.length : Int) else (a0.length : Int))), (12, .int .i64 (if (a1.length : Int) < (a0.length : Int) then (a1.length : Int) else (a0.length : Int))), (13, .int .i64 (w64 (x1 + 1)))] rfl ?_
        have h3 := ((h2.only [] rfl).rds [] rfl)
        exact ⟨k, Nat.lt_succ_self k, (w64 (x1 + 1)), rfl, h3, H⟩
    · replace H := ite_f c1 H
      refine J.exit ?_
      refine J.seq ?_
      refine J.region ?_
      refine RJ.run ttok 2 rfl ?_
      refine RJ.fin [(4, .int .i64 (if (a1.length : Int) < (a0.length : Int) then (a1.length : Int) else (a0.length : Int)))] rfl ?_
      refine J.ret ?_
      obtain rfl := Option.some.inj H
      exact ⟨_, _, _, (results_slots rfl), ⟨rfl, rfl⟩, h1.only [] rfl⟩

/-! sluicegate/lex.Cut -/
def lex_Cut.f (k : Nat) (a0 : List UInt8) (a1 : List UInt8) : Option (List UInt8 × Bool) := if (!Op.bytesLess a0 a1) = true then (some (([] : List UInt8), false)) else ((lex_Shared.f k a0 a1).bind fun r1 => (if (0 : Int) ≤ (w64 (r1 + 1)) ∧ (w64 (r1 + 1)) ≤ (a1.length : Int) then (some ((a1.take ((w64 (r1 + 1))).toNat), true)) else none))
set_option maxRecDepth 20000 in
theorem lex_Cut.spec {k : Nat} {a0 : List UInt8} {a1 : List UInt8}  {r : List UInt8 × Bool} (H : lex_Cut.f k a0 a1 = some r) :
    Spec Try.prog 22 [.string ⟨⟨a0⟩⟩, .string ⟨⟨a1⟩⟩] [] [] (fun v l => v = .tuple #[.string ⟨⟨r.1⟩⟩, .bool r.2] ∧ l = []) := by
  refine Spec.enter Try.func22 rfl (by kernel_rfl) (by kernel_rfl) fun w0 F0 h0 => ?_
  unfold lex_Cut.f at H
  refine J.seq ?_
  refine J.region ?_
  refine RJ.run ttok 2 rfl ?_
  refine RJ.fin [(0, .string ⟨⟨a0⟩⟩), (1, .string ⟨⟨a1⟩⟩)] rfl ?_
  refine J.seq ?_
  refine J.seq ?_
  refine J.region ?_
  refine RJ.run ttok 3 rfl ?_
  refine RJ.fin [(0, .string ⟨⟨a0⟩⟩), (1, .string ⟨⟨a1⟩⟩), (8, .bool (!Op.bytesLess a0 a1))] rfl ?_
  refine J.cond rfl (fun c1 => ?_) (fun c1 => ?_)
  · replace H := ite_t c1 H
    refine J.seq ?_
    refine J.region ?_
    refine RJ.run ttok 2 rfl ?_
    refine RJ.fin [(4, .string ⟨⟨([] : List UInt8)⟩⟩), (5, .bool false)] rfl ?_
    refine J.ret ?_
    obtain rfl := Option.some.inj H
    exact ⟨_, _, _, (results_slots rfl), ⟨rfl, rfl⟩, h0.only [] rfl⟩
  · replace H := ite_f c1 H
    refine J.skip ?_
    refine J.seq ?_
    refine J.region ?_
    refine RJ.run ttok 3 rfl ?_
    obtain ⟨r1, q1, H⟩ := bind_t H
    refine RJ.op rfl rfl (op_call [] (lex_Shared.spec q1) rfl rfl rfl h0 rfl gnil) ?_
    rintro _ w1 ⟨_, ⟨rfl, rfl⟩, h1⟩
    refine RJ.run ttok 1 rfl ?_
    obtain ⟨⟨p1, p2⟩, H⟩ := guard_t H
    refine RJ.q rfl rfl (q_strcut (l := 0) (h := (w64 (r1 + 1))) ttok rfl rfl rfl rfl ⟨_, rfl⟩ (by decide) p1 p2 (cut_upto _ _)) ?_
    refine RJ.run ttok 2 rfl ?_
    refine RJ.fin [(4, .string ⟨⟨(a1.take ((w64 (r1 + 1))).toNat)⟩⟩), (5, .bool true)] rfl ?_
    refine J.ret ?_
    obtain rfl := Option.some.inj H
    exact ⟨_, _, _, (results_slots rfl), ⟨rfl, rfl⟩, h1.only [] rfl⟩

/-! sluicegate/lex.Empty -/
def lex_Empty.f (a0 : List UInt8 × List UInt8 × Bool) : Option (Bool) := if (!a0.2.2) = true then (some (Op.bytesLess a0.2.1 a0.1 || decide (a0.2.1 = a0.1))) else (some false)
set_option maxRecDepth 20000 in
theorem lex_Empty.spec {a0 : List UInt8 × List UInt8 × Bool}  {r : Bool} (H : lex_Empty.f a0 = some r) :
    Spec Try.prog 17 [.agg #[.string ⟨⟨a0.1⟩⟩, .string ⟨⟨a0.2.1⟩⟩, .bool a0.2.2]] [] [] (fun v l => v = .bool r ∧ l = []) := by
  refine Spec.enter Try.func17 rfl (by kernel_rfl) (by kernel_rfl) fun w0 F0 h0 => ?_
  unfold lex_Empty.f at H
  refine J.seq ?_
  refine J.region ?_
  refine RJ.op rfl rfl (op_box rfl rfl h0) ?_
  rintro _ w1 ⟨b1, rfl, h1⟩
  refine RJ.run ttok 1 rfl ?_
  refine RJ.fin [(1, .pointer (some ⟨b1, 0, none⟩))] rfl ?_
  refine J.seq ?_
  refine J.region ?_
  refine RJ.run ttok 1 rfl ?_
  refine RJ.q rfl rfl (q_load_box ttok 0 (fun w e => e ▸ h1.wh) rfl rfl rfl rfl rfl) ?_
  refine RJ.run ttok 2 rfl ?_
  rcases Bool.eq_false_or_eq_true (!a0.2.2) with c1 | c1
  · replace H := ite_t c1 H
    refine RJ.know (t := 6) rfl (congrArg Value.bool c1) ?_
    refine RJ.run ttok 1 rfl ?_
    refine RJ.q rfl rfl (q_load_box ttok 0 (fun w e => e ▸ h1.wh) rfl rfl rfl rfl rfl) ?_
    refine RJ.run ttok 1 rfl ?_
    refine RJ.q rfl rfl (q_load_box ttok 0 (fun w e => e ▸ h1.wh) rfl rfl rfl rfl rfl) ?_
    refine RJ.run ttok 3 rfl ?_
    refine RJ.fin [(2, .bool (Op.bytesLess a0.2.1 a0.1 || decide (a0.2.1 = a0.1)))] rfl ?_
    refine J.ret ?_
    obtain rfl := Option.some.inj H
    exact ⟨_, _, _, (results_slots rfl), ⟨rfl, rfl⟩, h1.only [] rfl⟩
  · replace H := ite_f c1 H
    refine RJ.know (t := 6) rfl (congrArg Value.bool c1) ?_
    refine RJ.run ttok 7 rfl ?_
    refine RJ.fin [(2, .bool false)] rfl ?_
    refine J.ret ?_
    obtain rfl := Option.some.inj H
    exact ⟨_, _, _, (results_slots rfl), ⟨rfl, rfl⟩, h1.only [] rfl⟩

/-! sluicegate/lex.Meet -/
def lex_Meet.f (a0 : List UInt8 × List UInt8 × Bool) (a1 : List UInt8 × List UInt8 × Bool) : Option ((List UInt8 × List UInt8 × Bool) × Bool) := if a0.2.2 = true then (if (!a1.2.2) = true then ((lex_Empty.f ((if (!Op.bytesLess a0.1 a1.1) = true then a0.1 else a1.1), a1.2.1, a1.2.2)).bind fun r1 => (if r1 = true then (some ((([] : List UInt8), ([] : List UInt8), false), false)) else (some (((if (!Op.bytesLess a0.1 a1.1) = true then a0.1 else a1.1), a1.2.1, a1.2.2), true)))) else (if a1.2.2 = true then (if (!a0.2.2) = true then ((lex_Empty.f ((if (!Op.bytesLess a0.1 a1.1) = true then a0.1 else a1.1), a0.2.1, a1.2.2)).bind fun r2 => (if r2 = true then (some ((([] : List UInt8), ([] : List UInt8), false), false)) else (some (((if (!Op.bytesLess a0.1 a1.1) = true then a0.1 else a1.1), a0.2.1, a1.2.2), true)))) else ((lex_Empty.f ((if (!Op.bytesLess a0.1 a1.1) = true then a0.1 else a1.1), ([] : List UInt8), a1.2.2)).bind fun r3 => (if r3 = true then (some ((([] : List UInt8), ([] : List UInt8), false), false)) else (some (((if (!Op.bytesLess a0.1 a1.1) = true then a0.1 else a1.1), ([] : List UInt8), a1.2.2), true))))) else (if (!a0.2.2) = true then ((lex_Empty.f ((if (!Op.bytesLess a0.1 a1.1) = true then a0.1 else a1.1), (if (Op.bytesLess a0.2.1 a1.2.1 || decide (a0.2.1 = a1.2.1)) = true then a0.2.1 else a1.2.1), a1.2.2)).bind fun r4 => (if r4 = true then (some ((([] : List UInt8), ([] : List UInt8), false), false)) else (some (((if (!Op.bytesLess a0.1 a1.1) = true then a0.1 else a1.1), (if (Op.bytesLess a0.2.1 a1.2.1 || decide (a0.2.1 = a1.2.1)) = true then a0.2.1 else a1.2.1), a1.2.2), true)))) else ((lex_Empty.f ((if (!Op.bytesLess a0.1 a1.1) = true then a0.1 else a1.1), ([] : List UInt8), a1.2.2)).bind fun r5 => (if r5 = true then (some ((([] : List UInt8), ([] : List UInt8), false), false)) else (some (((if (!Op.bytesLess a0.1 a1.1) = true then a0.1 else a1.1), ([] : List UInt8), a1.2.2), true))))))) else (if a1.2.2 = true then (if (!a0.2.2) = true then ((lex_Empty.f ((if (!Op.bytesLess a0.1 a1.1) = true then a0.1 else a1.1), a0.2.1, false)).bind fun r6 => (if r6 = true then (some ((([] : List UInt8), ([] : List UInt8), false), false)) else (some (((if (!Op.bytesLess a0.1 a1.1) = true then a0.1 else a1.1), a0.2.1, false), true)))) else ((lex_Empty.f ((if (!Op.bytesLess a0.1 a1.1) = true then a0.1 else a1.1), ([] : List UInt8), false)).bind fun r7 => (if r7 = true then (some ((([] : List UInt8), ([] : List UInt8), false), false)) else (some (((if (!Op.bytesLess a0.1 a1.1) = true then a0.1 else a1.1), ([] : List UInt8), false), true))))) else (if (!a0.2.2) = true then ((lex_Empty.f ((if (!Op.bytesLess a0.1 a1.1) = true then a0.1 else a1.1), (if (Op.bytesLess a0.2.1 a1.2.1 || decide (a0.2.1 = a1.2.1)) = true then a0.2.1 else a1.2.1), false)).bind fun r8 => (if r8 = true then (some ((([] : List UInt8), ([] : List UInt8), false), false)) else (some (((if (!Op.bytesLess a0.1 a1.1) = true then a0.1 else a1.1), (if (Op.bytesLess a0.2.1 a1.2.1 || decide (a0.2.1 = a1.2.1)) = true then a0.2.1 else a1.2.1), false), true)))) else ((lex_Empty.f ((if (!Op.bytesLess a0.1 a1.1) = true then a0.1 else a1.1), ([] : List UInt8), false)).bind fun r9 => (if r9 = true then (some ((([] : List UInt8), ([] : List UInt8), false), false)) else (some (((if (!Op.bytesLess a0.1 a1.1) = true then a0.1 else a1.1), ([] : List UInt8), false), true))))))
set_option maxRecDepth 20000 in
theorem lex_Meet.spec {a0 : List UInt8 × List UInt8 × Bool} {a1 : List UInt8 × List UInt8 × Bool}  {r : (List UInt8 × List UInt8 × Bool) × Bool} (H : lex_Meet.f a0 a1 = some r) :
    Spec Try.prog 20 [.agg #[.string ⟨⟨a0.1⟩⟩, .string ⟨⟨a0.2.1⟩⟩, .bool a0.2.2], .agg #[.string ⟨⟨a1.1⟩⟩, .string ⟨⟨a1.2.1⟩⟩, .bool a1.2.2]] [] [] (fun v l => v = .tuple #[.agg #[.string ⟨⟨r.1.1⟩⟩, .string ⟨⟨r.1.2.1⟩⟩, .bool r.1.2.2], .bool r.2] ∧ l = []) := by
  refine Spec.enter Try.func20 rfl (by kernel_rfl) (by kernel_rfl) fun w0 F0 h0 => ?_
  unfold lex_Meet.f at H
  refine J.seq ?_
  refine J.region ?_
  refine RJ.op rfl rfl (op_box rfl rfl h0) ?_
  rintro _ w1 ⟨b1, rfl, h1⟩
  refine RJ.op rfl rfl (op_box rfl rfl h1) ?_
  rintro _ w2 ⟨b2, rfl, h2⟩
  refine RJ.op rfl rfl (op_alloc ttok rfl rfl h2) ?_
  rintro _ w3 ⟨b3, rfl, h3⟩
  refine RJ.run ttok 1 rfl ?_
  refine RJ.fin [(2, .pointer (some ⟨b1, 0, none⟩)), (3, .pointer (some ⟨b2, 0, none⟩)), (4, .pointer (some ⟨b3, 0, none⟩))] rfl ?_
  refine J.seq ?_
  refine J.region ?_
  refine RJ.run ttok 1 rfl ?_
  refine RJ.q rfl rfl (q_load_box ttok 2 (fun w e => e ▸ h3.wh) rfl rfl rfl rfl rfl) ?_
  refine RJ.run ttok 1 rfl ?_
  refine RJ.q rfl rfl (q_load_box ttok 1 (fun w e => e ▸ h3.wh) rfl rfl rfl rfl rfl) ?_
  refine RJ.run ttok 2 rfl ?_
  refine RJ.q rfl rfl (q_load_box ttok 2 (fun w e => e ▸ h3.wh) rfl rfl rfl rfl rfl) ?_
  refine RJ.run ttok 1 rfl ?_
  rcases Bool.eq_false_or_eq_true a0.2.2 with c1 | c1
  · replace H := ite_t c1 H
    refine RJ.know (t := 14) rfl (congrArg Value.bool c1) ?_
    refine RJ.run ttok 1 rfl ?_
    refine RJ.q rfl rfl (q_load_box ttok 1 (fun w e => e ▸ h3.wh) rfl rfl rfl rfl rfl) ?_
    refine RJ.run ttok 2 rfl ?_
    refine RJ.op rfl rfl (op_alloc ttok rfl rfl h3) ?_
    rintro _ w4 ⟨b4, rfl, h4⟩
    refine RJ.op rfl rfl (op_store ttok 0 rfl h4 rfl rfl rfl rfl rfl rfl rfl) ?_
    intro _ w5 h5
    replace h5 : St w0 F0 (boxC b4 23 [.string ⟨⟨(if (!Op.bytesLess a0.1 a1.1) = true then a0.1 else a1.1)⟩⟩, .string ⟨⟨([] : List UInt8)⟩⟩, .bool a1.2.2] :: _) _ w5 := h5
    refine RJ.fin [(2, .pointer (some ⟨b1, 0, none⟩)), (3, .pointer (some ⟨b2, 0, none⟩)), (4, .pointer (some ⟨b3, 0, none⟩)), (6, .pointer (some ⟨b4, 0, none⟩))] rfl ?_
    refine J.seq ?_
    refine J.block ?_
    refine J.seq ?_
    refine J.region ?_
    refine RJ.run ttok 1 rfl ?_
    refine RJ.q rfl rfl (q_load_box ttok 3 (fun w e => e ▸ h5.wh) rfl rfl rfl rfl rfl) ?_
    refine RJ.run ttok 1 rfl ?_
    refine RJ.know (t := 22) rfl (congrArg Value.bool c1) ?_
    refine RJ.run ttok 1 rfl ?_
    refine RJ.q rfl rfl (q_load_box ttok 2 (fun w e => e ▸ h5.wh) rfl rfl rfl rfl rfl) ?_
    refine RJ.run ttok 3 rfl ?_
    refine RJ.fin [(2, .pointer (some ⟨b1, 0, none⟩)), (3, .pointer (some ⟨b2, 0, none⟩)), (4, .pointer (some ⟨b3, 0, none⟩)), (6, .pointer (some ⟨b4, 0, none⟩)), (19, .bool (!a1.2.2))] rfl ?_
    refine J.cond rfl (fun c2 => ?_) (fun c2 => ?_)
    · replace H := ite_t c2 H
      refine J.region ?_
      refine RJ.run ttok 1 rfl ?_
      refine RJ.q rfl rfl (q_load_box ttok 2 (fun w e => e ▸ h5.wh) rfl rfl rfl rfl rfl) ?_
      refine RJ.run ttok 1 rfl ?_
      refine RJ.op rfl rfl (op_store ttok 0 rfl h5 rfl rfl rfl rfl rfl rfl rfl) ?_
      intro _ w6 h6
      replace h6 : St w0 F0 (boxC b4 23 [.string ⟨⟨(if (!Op.bytesLess a0.1 a1.1) = true then a0.1 else a1.1)⟩⟩, .string ⟨⟨a1.2.1⟩⟩, .bool a1.2.2] :: _) _ w6 := h6
      refine RJ.fin [(4, .pointer (some ⟨b3, 0, none⟩)), (6, .pointer (some ⟨b4, 0, none⟩))] rfl ?_
      refine J.seq ?_
      refine J.seq ?_
      refine J.region ?_
      refine RJ.q rfl rfl (q_load_box ttok 0 (fun w e => e ▸ h6.wh) rfl rfl rfl rfl rfl) ?_
      obtain ⟨r1, q1, H⟩ := bind_t H
      refine RJ.op rfl rfl (op_call [] (lex_Empty.spec q1) rfl rfl rfl h6 rfl gnil) ?_
      rintro _ w7 ⟨_, ⟨rfl, rfl⟩, h7⟩
      refine RJ.fin [(4, .pointer (some ⟨b3, 0, none⟩)), (6, .pointer (some ⟨b4, 0, none⟩)), (52, .bool r1)] rfl ?_
      refine J.cond rfl (fun c3 => ?_) (fun c3 => ?_)
      · replace H := ite_t c3 H
        refine J.seq ?_
        refine J.region ?_
        refine RJ.run ttok 1 rfl ?_
        refine RJ.op rfl rfl (op_store ttok 1 rfl h7 rfl rfl rfl rfl rfl rfl rfl) ?_
        intro _ w8 h8
        replace h8 : St w0 F0 (boxC b3 23 [.string ⟨⟨([] : List UInt8)⟩⟩, .string ⟨⟨([] : List UInt8)⟩⟩, .bool false] :: _) _ w8 := h8
        refine RJ.run ttok 1 rfl ?_
        refine RJ.fin [(4, .pointer (some ⟨b3, 0, none⟩)), (5, .bool false)] rfl ?_
        refine J.ret ?_
        obtain rfl := Option.some.inj H
        exact ⟨_, _, _, (results_two rfl (rvcons (RV.cell ttok 0 h8 rfl rfl rfl rfl) (rvcons (RV.tmp rfl) rvnil)) rfl), ⟨rfl, rfl⟩, h8.only [] rfl⟩
      · replace H := ite_f c3 H
        refine J.skip ?_
        refine J.seq ?_
        refine J.region ?_
        refine RJ.q rfl rfl (q_load_box ttok 0 (fun w e => e ▸ h7.wh) rfl rfl rfl rfl rfl) ?_
        refine RJ.op rfl rfl (op_store ttok 1 rfl h7 rfl rfl rfl rfl rfl rfl rfl) ?_
        intro _ w9 h9
        replace h9 : St w0 F0 (boxC b3 23 [.string ⟨⟨(if (!Op.bytesLess a0.1 a1.1) = true then a0.1 else a1.1)⟩⟩, .string ⟨⟨a1.2.1⟩⟩, .bool a1.2.2] :: _) _ w9 := h9
        refine RJ.run ttok 1 rfl ?_
        refine RJ.fin [(4, .pointer (some ⟨b3, 0, none⟩)), (5, .bool true)] rfl ?_
        refine J.ret ?_
        obtain rfl := Option.some.inj H
        exact ⟨_, _, _, (results_two rfl (rvcons (RV.cell ttok 0 h9 rfl rfl rfl rfl) (rvcons (RV.tmp rfl) rvnil)) rfl), ⟨rfl, rfl⟩, h9.only [] rfl⟩
    · replace H := ite_f c2 H
      refine J.seq ?_
      refine J.region ?_
      refine RJ.run ttok 1 rfl ?_
      refine RJ.q rfl rfl (q_load_box ttok 2 (fun w e => e ▸ h5.wh) rfl rfl rfl rfl rfl) ?_
      refine RJ.run ttok 1 rfl ?_
      rcases Bool.eq_false_or_eq_true a1.2.2 with c4 | c4
      · replace H := ite_t c4 H
        refine RJ.know (t := 33) rfl (congrArg Value.bool c4) ?_
        refine RJ.run ttok 1 rfl ?_
        refine RJ.q rfl rfl (q_load_box ttok 3 (fun w e => e ▸ h5.wh) rfl rfl rfl rfl rfl) ?_
        refine RJ.run ttok 3 rfl ?_
        refine RJ.fin [(2, .pointer (some ⟨b1, 0, none⟩)), (3, .pointer (some ⟨b2, 0, none⟩)), (4, .pointer (some ⟨b3, 0, none⟩)), (6, .pointer (some ⟨b4, 0, none⟩)), (30, .bool (!a0.2.2))] rfl ?_
        refine J.cond rfl (fun c5 => ?_) (fun c5 => ?_)
        · replace H := ite_t c5 H
          refine J.region ?_
          refine RJ.run ttok 1 rfl ?_
          refine RJ.q rfl rfl (q_load_box ttok 3 (fun w e => e ▸ h5.wh) rfl rfl rfl rfl rfl) ?_
          refine RJ.run ttok 1 rfl ?_
          refine RJ.op rfl rfl (op_store ttok 0 rfl h5 rfl rfl rfl rfl rfl rfl rfl) ?_
          intro _ w10 h10
          replace h10 : St w0 F0 (boxC b4 23 [.string ⟨⟨(if (!Op.bytesLess a0.1 a1.1) = true then a0.1 else a1.1)⟩⟩, .string ⟨⟨a0.2.1⟩⟩, .bool a1.2.2] :: _) _ w10 := h10
          refine RJ.fin [(4, .pointer (some ⟨b3, 0, none⟩)), (6, .pointer (some ⟨b4, 0, none⟩))] rfl ?_
          refine J.seq ?_
          refine J.seq ?_
          refine J.region ?_
          refine RJ.q rfl rfl (q_load_box ttok 0 (fun w e => e ▸ h10.wh) rfl rfl rfl rfl rfl) ?_
          obtain ⟨r2, q2, H⟩ := bind_t H
          refine RJ.op rfl rfl (op_call [] (lex_Empty.spec q2) rfl rfl rfl h10 rfl gnil) ?_
          rintro _ w11 ⟨_, ⟨rfl, rfl⟩, h11⟩
          refine RJ.fin [(4, .pointer (some ⟨b3, 0, none⟩)), (6, .pointer (some ⟨b4, 0, none⟩)), (52, .bool r2)] rfl ?_
          refine J.cond rfl (fun c6 => ?_) (fun c6 => ?_)
          · replace H := ite_t c6 H
            refine J.seq ?_
            refine J.region ?_
            refine RJ.run ttok 1 rfl ?_
            refine RJ.op rfl rfl (op_store ttok 1 rfl h11 rfl rfl rfl rfl rfl rfl rfl) ?_
            intro _ w12 h12
            replace h12 : St w0 F0 (boxC b3 23 [.string ⟨⟨([] : List UInt8)⟩⟩, .string ⟨⟨([] : List UInt8)⟩⟩, .bool false] :: _) _ w12 := h12
            refine RJ.run ttok 1 rfl ?_
            refine RJ.fin [(4, .pointer (some ⟨b3, 0, none⟩)), (5, .bool false)] rfl ?_
            refine J.ret ?_
            obtain rfl := Option.some.inj H
            exact ⟨_, _, _, (results_two rfl (rvcons (RV.cell ttok 0 h12 rfl rfl rfl rfl) (rvcons (RV.tmp rfl) rvnil)) rfl), ⟨rfl, rfl⟩, h12.only [] rfl⟩
          · replace H := ite_f c6 H
            refine J.skip ?_
            refine J.seq ?_
            refine J.region ?_
            refine RJ.q rfl rfl (q_load_box ttok 0 (fun w e => e ▸ h11.wh) rfl rfl rfl rfl rfl) ?_
            refine RJ.op rfl rfl (op_store ttok 1 rfl h11 rfl rfl rfl rfl rfl rfl rfl) ?_
            intro _ w13 h13
            replace h13 : St w0 F0 (boxC b3 23 [.string ⟨⟨(if (!Op.bytesLess a0.1 a1.1) = true then a0.1 else a1.1)⟩⟩, .string ⟨⟨a0.2.1⟩⟩, .bool a1.2.2] :: _) _ w13 := h13
            refine RJ.run ttok 1 rfl ?_
            refine RJ.fin [(4, .pointer (some ⟨b3, 0, none⟩)), (5, .bool true)] rfl ?_
            refine J.ret ?_
            obtain rfl := Option.some.inj H
            exact ⟨_, _, _, (results_two rfl (rvcons (RV.cell ttok 0 h13 rfl rfl rfl rfl) (rvcons (RV.tmp rfl) rvnil)) rfl), ⟨rfl, rfl⟩, h13.only [] rfl⟩
        · replace H := ite_f c5 H
          refine J.seq ?_
          refine J.region ?_
          refine RJ.run ttok 1 rfl ?_
          refine RJ.q rfl rfl (q_load_box ttok 3 (fun w e => e ▸ h5.wh) rfl rfl rfl rfl rfl) ?_
          refine RJ.run ttok 2 rfl ?_
          refine RJ.fin [(2, .pointer (some ⟨b1, 0, none⟩)), (3, .pointer (some ⟨b2, 0, none⟩)), (4, .pointer (some ⟨b3, 0, none⟩)), (6, .pointer (some ⟨b4, 0, none⟩)), (41, .bool (!a0.2.2))] rfl ?_
          refine J.cond rfl (fun e => ?_) (fun e => ?_)
          · rw [c5] at e; cases e
          · refine J.skip ?_
            refine J.seq ?_
            refine J.seq ?_
            refine J.region ?_
            refine RJ.q rfl rfl (q_load_box ttok 0 (fun w e => e ▸ h5.wh) rfl rfl rfl rfl rfl) ?_
            obtain ⟨r3, q3, H⟩ := bind_t H
            refine RJ.op rfl rfl (op_call [] (lex_Empty.spec q3) rfl rfl rfl h5 rfl gnil) ?_
            rintro _ w14 ⟨_, ⟨rfl, rfl⟩, h14⟩
            refine RJ.fin [(4, .pointer (some ⟨b3, 0, none⟩)), (6, .pointer (some ⟨b4, 0, none⟩)), (52, .bool r3)] rfl ?_
            refine J.cond rfl (fun c7 => ?_) (fun c7 => ?_)
            · replace H := ite_t c7 H
              refine J.seq ?_
              refine J.region ?_
              refine RJ.run ttok 1 rfl ?_
              refine RJ.op rfl rfl (op_store ttok 1 rfl h14 rfl rfl rfl rfl rfl rfl rfl) ?_
              intro _ w15 h15
              replace h15 : St w0 F0 (boxC b3 23 [.string ⟨⟨([] : List UInt8)⟩⟩, .string ⟨⟨([] : List UInt8)⟩⟩, .bool false] :: _) _ w15 := h15
              refine RJ.run ttok 1 rfl ?_
              refine RJ.fin [(4, .pointer (some ⟨b3, 0, none⟩)), (5, .bool false)] rfl ?_
              refine J.ret ?_
              obtain rfl := Option.some.inj H
              exact ⟨_, _, _, (results_two rfl (rvcons (RV.cell ttok 0 h15 rfl rfl rfl rfl) (rvcons (RV.tmp rfl) rvnil)) rfl), ⟨rfl, rfl⟩, h15.only [] rfl⟩
            · replace H := ite_f c7 H
              refine J.skip ?_
              refine J.seq ?_
              refine J.region ?_
              refine RJ.q rfl rfl (q_load_box ttok 0 (fun w e => e ▸ h14.wh) rfl rfl rfl rfl rfl) ?_
              refine RJ.op rfl rfl (op_store ttok 1 rfl h14 rfl rfl rfl rfl rfl rfl rfl) ?_
              intro _ w16 h16
              replace h16 : St w0 F0 (boxC b3 23 [.string ⟨⟨(if (!Op.bytesLess a0.1 a1.1) = true then a0.1 else a1.1)⟩⟩, .string ⟨⟨([] : List UInt8)⟩⟩, .bool a1.2.2] :: _) _ w16 := h16
              refine RJ.run ttok 1 rfl ?_
              refine RJ.fin [(4, .pointer (some ⟨b3, 0, none⟩)), (5, .bool true)] rfl ?_
              refine J.ret ?_
              obtain rfl := Option.some.inj H
              exact ⟨_, _, _, (results_two rfl (rvcons (RV.cell ttok 0 h16 rfl rfl rfl rfl) (rvcons (RV.tmp rfl) rvnil)) rfl), ⟨rfl, rfl⟩, h16.only [] rfl⟩
      · replace H := ite_f c4 H
        refine RJ.know (t := 33) rfl (congrArg Value.bool c4) ?_
        refine RJ.run ttok 5 rfl ?_
        refine RJ.fin [(2, .pointer (some ⟨b1, 0, none⟩)), (3, .pointer (some ⟨b2, 0, none⟩)), (4, .pointer (some ⟨b3, 0, none⟩)), (6, .pointer (some ⟨b4, 0, none⟩)), (30, .bool false)] rfl ?_
        refine J.condF rfl ?_
        refine J.seq ?_
        refine J.region ?_
        refine RJ.run ttok 1 rfl ?_
        refine RJ.q rfl rfl (q_load_box ttok 3 (fun w e => e ▸ h5.wh) rfl rfl rfl rfl rfl) ?_
        refine RJ.run ttok 2 rfl ?_
        refine RJ.fin [(2, .pointer (some ⟨b1, 0, none⟩)), (3, .pointer (some ⟨b2, 0, none⟩)), (4, .pointer (some ⟨b3, 0, none⟩)), (6, .pointer (some ⟨b4, 0, none⟩)), (41, .bool (!a0.2.2))] rfl ?_
        refine J.cond rfl (fun c8 => ?_) (fun c8 => ?_)
        · replace H := ite_t c8 H
          refine J.region ?_
          refine RJ.run ttok 1 rfl ?_
          refine RJ.q rfl rfl (q_load_box ttok 3 (fun w e => e ▸ h5.wh) rfl rfl rfl rfl rfl) ?_
          refine RJ.run ttok 1 rfl ?_
          refine RJ.q rfl rfl (q_load_box ttok 2 (fun w e => e ▸ h5.wh) rfl rfl rfl rfl rfl) ?_
          refine RJ.run ttok 2 rfl ?_
          refine RJ.op rfl rfl (op_store ttok 0 rfl h5 rfl rfl rfl rfl rfl rfl rfl) ?_
          intro _ w17 h17
          replace h17 : St w0 F0 (boxC b4 23 [.string ⟨⟨(if (!Op.bytesLess a0.1 a1.1) = true then a0.1 else a1.1)⟩⟩, .string ⟨⟨(if (Op.bytesLess a0.2.1 a1.2.1 || decide (a0.2.1 = a1.2.1)) = true then a0.2.1 else a1.2.1)⟩⟩, .bool a1.2.2] :: _) _ w17 := h17
          refine RJ.fin [(4, .pointer (some ⟨b3, 0, none⟩)), (6, .pointer (some ⟨b4, 0, none⟩))] rfl ?_
          refine J.seq ?_
          refine J.seq ?_
          refine J.region ?_
          refine RJ.q rfl rfl (q_load_box ttok 0 (fun w e => e ▸ h17.wh) rfl rfl rfl rfl rfl) ?_
          obtain ⟨r4, q4, H⟩ := bind_t H
          refine RJ.op rfl rfl (op_call [] (lex_Empty.spec q4) rfl rfl rfl h17 rfl gnil) ?_
          rintro _ w18 ⟨_, ⟨rfl, rfl⟩, h18⟩
          refine RJ.fin [(4, .pointer (some ⟨b3, 0, none⟩)), (6, .pointer (some ⟨b4, 0, none⟩)), (52, .bool r4)] rfl ?_
          refine J.cond rfl (fun c9 => ?_) (fun c9 => ?_)
          · replace H := ite_t c9 H
            refine J.seq ?_
            refine J.region ?_
            refine RJ.run ttok 1 rfl ?_
            refine RJ.op rfl rfl (op_store ttok 1 rfl h18 rfl rfl rfl rfl rfl rfl rfl) ?_
            intro _ w19 h19
            replace h19 : St w0 F0 (boxC b3 23 [.string ⟨⟨([] : List UInt8)⟩⟩, .string ⟨⟨([] : List UInt8)⟩⟩, .bool false] :: _) _ w19 := h19
            refine RJ.run ttok 1 rfl ?_
            refine RJ.fin [(4, .pointer (some ⟨b3, 0, none⟩)), (5, .bool false)] rfl ?_
            refine J.ret ?_
            obtain rfl := Option.some.inj H
            exact ⟨_, _, _, (results_two rfl (rvcons (RV.cell ttok 0 h19 rfl rfl rfl rfl) (rvcons (RV.tmp rfl) rvnil)) rfl), ⟨rfl, rfl⟩, h19.only [] rfl⟩
          · replace H := ite_f c9 H
            refine J.skip ?_
            refine J.seq ?_
            refine J.region ?_
            refine RJ.q rfl rfl (q_load_box ttok 0 (fun w e => e ▸ h18.wh) rfl rfl rfl rfl rfl) ?_
            refine RJ.op rfl rfl (op_store ttok 1 rfl h18 rfl rfl rfl rfl rfl rfl rfl) ?_
            intro _ w20 h20
            replace h20 : St w0 F0 (boxC b3 23 [.string ⟨⟨(if (!Op.bytesLess a0.1 a1.1) = true then a0.1 else a1.1)⟩⟩, .string ⟨⟨(if (Op.bytesLess a0.2.1 a1.2.1 || decide (a0.2.1 = a1.2.1)) = true then a0.2.1 else a1.2.1)⟩⟩, .bool a1.2.2] :: _) _ w20 := h20
            refine RJ.run ttok 1 rfl ?_
            refine RJ.fin [(4, .pointer (some ⟨b3, 0, none⟩)), (5, .bool true)] rfl ?_
            refine J.ret ?_
            obtain rfl := Option.some.inj H
            exact ⟨_, _, _, (results_two rfl (rvcons (RV.cell ttok 0 h20 rfl rfl rfl rfl) (rvcons (RV.tmp rfl) rvnil)) rfl), ⟨rfl, rfl⟩, h20.only [] rfl⟩
        · replace H := ite_f c8 H
          refine J.skip ?_
          refine J.seq ?_
          refine J.seq ?_
          refine J.region ?_
          refine RJ.q rfl rfl (q_load_box ttok 0 (fun w e => e ▸ h5.wh) rfl rfl rfl rfl rfl) ?_
          obtain ⟨r5, q5, H⟩ := bind_t H
          refine RJ.op rfl rfl (op_call [] (lex_Empty.spec q5) rfl rfl rfl h5 rfl gnil) ?_
          rintro _ w21 ⟨_, ⟨rfl, rfl⟩, h21⟩
          refine RJ.fin [(4, .pointer (some ⟨b3, 0, none⟩)), (6, .pointer (some ⟨b4, 0, none⟩)), (52, .bool r5)] rfl ?_
          refine J.cond rfl (fun c10 => ?_) (fun c10 => ?_)
          · replace H := ite_t c10 H
            refine J.seq ?_
            refine J.region ?_
            refine RJ.run ttok 1 rfl ?_
            refine RJ.op rfl rfl (op_store ttok 1 rfl h21 rfl rfl rfl rfl rfl rfl rfl) ?_
            intro _ w22 h22
            replace h22 : St w0 F0 (boxC b3 23 [.string ⟨⟨([] : List UInt8)⟩⟩, .string ⟨⟨([] : List UInt8)⟩⟩, .bool false] :: _) _ w22 := h22
            refine RJ.run ttok 1 rfl ?_
            refine RJ.fin [(4, .pointer (some ⟨b3, 0, none⟩)), (5, .bool false)] rfl ?_
            refine J.ret ?_
            obtain rfl := Option.some.inj H
            exact ⟨_, _, _, (results_two rfl (rvcons (RV.cell ttok 0 h22 rfl rfl rfl rfl) (rvcons (RV.tmp rfl) rvnil)) rfl), ⟨rfl, rfl⟩, h22.only [] rfl⟩
          · replace H := ite_f c10 H
            refine J.skip ?_
            refine J.seq ?_
            refine J.region ?_
            refine RJ.q rfl rfl (q_load_box ttok 0 (fun w e => e ▸ h21.wh) rfl rfl rfl rfl rfl) ?_
            refine RJ.op rfl rfl (op_store ttok 1 rfl h21 rfl rfl rfl rfl rfl rfl rfl) ?_
            intro _ w23 h23
            replace h23 : St w0 F0 (boxC b3 23 [.string ⟨⟨(if (!Op.bytesLess a0.1 a1.1) = true then a0.1 else a1.1)⟩⟩, .string ⟨⟨([] : List UInt8)⟩⟩, .bool a1.2.2] :: _) _ w23 := h23
            refine RJ.run ttok 1 rfl ?_
            refine RJ.fin [(4, .pointer (some ⟨b3, 0, none⟩)), (5, .bool true)] rfl ?_
            refine J.ret ?_
            obtain rfl := Option.some.inj H
            exact ⟨_, _, _, (results_two rfl (rvcons (RV.cell ttok 0 h23 rfl rfl rfl rfl) (rvcons (RV.tmp rfl) rvnil)) rfl), ⟨rfl, rfl⟩, h23.only [] rfl⟩
  · replace H := ite_f c1 H
    refine RJ.know (t := 14) rfl (congrArg Value.bool c1) ?_
    refine RJ.run ttok 4 rfl ?_
    refine RJ.op rfl rfl (op_alloc ttok rfl rfl h3) ?_
    rintro _ w24 ⟨b5, rfl, h24⟩
    refine RJ.op rfl rfl (op_store ttok 0 rfl h24 rfl rfl rfl rfl rfl rfl rfl) ?_
    intro _ w25 h25
    replace h25 : St w0 F0 (boxC b5 23 [.string ⟨⟨(if (!Op.bytesLess a0.1 a1.1) = true then a0.1 else a1.1)⟩⟩, .string ⟨⟨([] : List UInt8)⟩⟩, .bool false] :: _) _ w25 := h25
    refine RJ.fin [(2, .pointer (some ⟨b1, 0, none⟩)), (3, .pointer (some ⟨b2, 0, none⟩)), (4, .pointer (some ⟨b3, 0, none⟩)), (6, .pointer (some ⟨b5, 0, none⟩))] rfl ?_
    refine J.seq ?_
    refine J.block ?_
    refine J.seq ?_
    refine J.region ?_
    refine RJ.run ttok 1 rfl ?_
    refine RJ.q rfl rfl (q_load_box ttok 3 (fun w e => e ▸ h25.wh) rfl rfl rfl rfl rfl) ?_
    refine RJ.run ttok 1 rfl ?_
    refine RJ.know (t := 22) rfl (congrArg Value.bool c1) ?_
    refine RJ.run ttok 5 rfl ?_
    refine RJ.fin [(2, .pointer (some ⟨b1, 0, none⟩)), (3, .pointer (some ⟨b2, 0, none⟩)), (4, .pointer (some ⟨b3, 0, none⟩)), (6, .pointer (some ⟨b5, 0, none⟩)), (19, .bool false)] rfl ?_
    refine J.condF rfl ?_
    refine J.seq ?_
    refine J.region ?_
    refine RJ.run ttok 1 rfl ?_
    refine RJ.q rfl rfl (q_load_box ttok 2 (fun w e => e ▸ h25.wh) rfl rfl rfl rfl rfl) ?_
    refine RJ.run ttok 1 rfl ?_
    rcases Bool.eq_false_or_eq_true a1.2.2 with c11 | c11
    · replace H := ite_t c11 H
      refine RJ.know (t := 33) rfl (congrArg Value.bool c11) ?_
      refine RJ.run ttok 1 rfl ?_
      refine RJ.q rfl rfl (q_load_box ttok 3 (fun w e => e ▸ h25.wh) rfl rfl rfl rfl rfl) ?_
      refine RJ.run ttok 3 rfl ?_
      refine RJ.fin [(2, .pointer (some ⟨b1, 0, none⟩)), (3, .pointer (some ⟨b2, 0, none⟩)), (4, .pointer (some ⟨b3, 0, none⟩)), (6, .pointer (some ⟨b5, 0, none⟩)), (30, .bool (!a0.2.2))] rfl ?_
      refine J.cond rfl (fun c12 => ?_) (fun c12 => ?_)
      · replace H := ite_t c12 H
        refine J.region ?_
        refine RJ.run ttok 1 rfl ?_
        refine RJ.q rfl rfl (q_load_box ttok 3 (fun w e => e ▸ h25.wh) rfl rfl rfl rfl rfl) ?_
        refine RJ.run ttok 1 rfl ?_
        refine RJ.op rfl rfl (op_store ttok 0 rfl h25 rfl rfl rfl rfl rfl rfl rfl) ?_
        intro _ w26 h26
        replace h26 : St w0 F0 (boxC b5 23 [.string ⟨⟨(if (!Op.bytesLess a0.1 a1.1) = true then a0.1 else a1.1)⟩⟩, .string ⟨⟨a0.2.1⟩⟩, .bool false] :: _) _ w26 := h26
        refine RJ.fin [(4, .pointer (some ⟨b3, 0, none⟩)), (6, .pointer (some ⟨b5, 0, none⟩))] rfl ?_
        refine J.seq ?_
        refine J.seq ?_
        refine J.region ?_
        refine RJ.q rfl rfl (q_load_box ttok 0 (fun w e => e ▸ h26.wh) rfl rfl rfl rfl rfl) ?_
        obtain ⟨r6, q6, H⟩ := bind_t H
        refine RJ.op rfl rfl (op_call [] (lex_Empty.spec q6) rfl rfl rfl h26 rfl gnil) ?_
        rintro _ w27 ⟨_, ⟨rfl, rfl⟩, h27⟩
        refine RJ.fin [(4, .pointer (some ⟨b3, 0, none⟩)), (6, .pointer (some ⟨b5, 0, none⟩)), (52, .bool r6)] rfl ?_
        refine J.cond rfl (fun c13 => ?_) (fun c13 => ?_)
        · replace H := ite_t c13 H
          refine J.seq ?_
          refine J.region ?_
          refine RJ.run ttok 1 rfl ?_
          refine RJ.op rfl rfl (op_store ttok 1 rfl h27 rfl rfl rfl rfl rfl rfl rfl) ?_
          intro _ w28 h28
          replace h28 : St w0 F0 (boxC b3 23 [.string ⟨⟨([] : List UInt8)⟩⟩, .string ⟨⟨([] : List UInt8)⟩⟩, .bool false] :: _) _ w28 := h28
          refine RJ.run ttok 1 rfl ?_
          refine RJ.fin [(4, .pointer (some ⟨b3, 0, none⟩)), (5, .bool false)] rfl ?_
          refine J.ret ?_
          obtain rfl := Option.some.inj H
          exact ⟨_, _, _, (results_two rfl (rvcons (RV.cell ttok 0 h28 rfl rfl rfl rfl) (rvcons (RV.tmp rfl) rvnil)) rfl), ⟨rfl, rfl⟩, h28.only [] rfl⟩
        · replace H := ite_f c13 H
          refine J.skip ?_
          refine J.seq ?_
          refine J.region ?_
          refine RJ.q rfl rfl (q_load_box ttok 0 (fun w e => e ▸ h27.wh) rfl rfl rfl rfl rfl) ?_
          refine RJ.op rfl rfl (op_store ttok 1 rfl h27 rfl rfl rfl rfl rfl rfl rfl) ?_
          intro _ w29 h29
          replace h29 : St w0 F0 (boxC b3 23 [.string ⟨⟨(if (!Op.bytesLess a0.1 a1.1) = true then a0.1 else a1.1)⟩⟩, .string ⟨⟨a0.2.1⟩⟩, .bool false] :: _) _ w29 := h29
          refine RJ.run ttok 1 rfl ?_
          refine RJ.fin [(4, .pointer (some ⟨b3, 0, none⟩)), (5, .bool true)] rfl ?_
          refine J.ret ?_
          obtain rfl := Option.some.inj H
          exact ⟨_, _, _, (results_two rfl (rvcons (RV.cell ttok 0 h29 rfl rfl rfl rfl) (rvcons (RV.tmp rfl) rvnil)) rfl), ⟨rfl, rfl⟩, h29.only [] rfl⟩
      · replace H := ite_f c12 H
        refine J.seq ?_
        refine J.region ?_
        refine RJ.run ttok 1 rfl ?_
        refine RJ.q rfl rfl (q_load_box ttok 3 (fun w e => e ▸ h25.wh) rfl rfl rfl rfl rfl) ?_
        refine RJ.run ttok 2 rfl ?_
        refine RJ.fin [(2, .pointer (some ⟨b1, 0, none⟩)), (3, .pointer (some ⟨b2, 0, none⟩)), (4, .pointer (some ⟨b3, 0, none⟩)), (6, .pointer (some ⟨b5, 0, none⟩)), (41, .bool (!a0.2.2))] rfl ?_
        refine J.cond rfl (fun e => ?_) (fun e => ?_)
        · rw [c12] at e; cases e
        · refine J.skip ?_
          refine J.seq ?_
          refine J.seq ?_
          refine J.region ?_
          refine RJ.q rfl rfl (q_load_box ttok 0 (fun w e => e ▸ h25.wh) rfl rfl rfl rfl rfl) ?_
          obtain ⟨r7, q7, H⟩ := bind_t H
          refine RJ.op rfl rfl (op_call [] (lex_Empty.spec q7) rfl rfl rfl h25 rfl gnil) ?_
          rintro _ w30 ⟨_, ⟨rfl, rfl⟩, h30⟩
          refine RJ.fin [(4, .pointer (some ⟨b3, 0, none⟩)), (6, .pointer (some ⟨b5, 0, none⟩)), (52, .bool r7)] rfl ?_
          refine J.cond rfl (fun c14 => ?_) (fun c14 => ?_)
          · replace H := ite_t c14 H
            refine J.seq ?_
            refine J.region ?_
            refine RJ.run ttok 1 rfl ?_
            refine RJ.op rfl rfl (op_store ttok 1 rfl h30 rfl rfl rfl rfl rfl rfl rfl) ?_
            intro _ w31 h31
            replace h31 : St w0 F0 (boxC b3 23 [.string ⟨⟨([] : List UInt8)⟩⟩, .string ⟨⟨([] : List UInt8)⟩⟩, .bool false] :: _) _ w31 := h31
            refine RJ.run ttok 1 rfl ?_
            refine RJ.fin [(4, .pointer (some ⟨b3, 0, none⟩)), (5, .bool false)] rfl ?_
            refine J.ret ?_
            obtain rfl := Option.some.inj H
            exact ⟨_, _, _, (results_two rfl (rvcons (RV.cell ttok 0 h31 rfl rfl rfl rfl) (rvcons (RV.tmp rfl) rvnil)) rfl), ⟨rfl, rfl⟩, h31.only [] rfl⟩
          · replace H := ite_f c14 H
            refine J.skip ?_
            refine J.seq ?_
            refine J.region ?_
            refine RJ.q rfl rfl (q_load_box ttok 0 (fun w e => e ▸ h30.wh) rfl rfl rfl rfl rfl) ?_
            refine RJ.op rfl rfl (op_store ttok 1 rfl h30 rfl rfl rfl rfl rfl rfl rfl) ?_
            intro _ w32 h32
            replace h32 : St w0 F0 (boxC b3 23 [.string ⟨⟨(if (!Op.bytesLess a0.1 a1.1) = true then a0.1 else a1.1)⟩⟩, .string ⟨⟨([] : List UInt8)⟩⟩, .bool false] :: _) _ w32 := h32
            refine RJ.run ttok 1 rfl ?_
            refine RJ.fin [(4, .pointer (some ⟨b3, 0, none⟩)), (5, .bool true)] rfl ?_
            refine J.ret ?_
            obtain rfl := Option.some.inj H
            exact ⟨_, _, _, (results_two rfl (rvcons (RV.cell ttok 0 h32 rfl rfl rfl rfl) (rvcons (RV.tmp rfl) rvnil)) rfl), ⟨rfl, rfl⟩, h32.only [] rfl⟩
    · replace H := ite_f c11 H
      refine RJ.know (t := 33) rfl (congrArg Value.bool c11) ?_
      refine RJ.run ttok 5 rfl ?_
      refine RJ.fin [(2, .pointer (some ⟨b1, 0, none⟩)), (3, .pointer (some ⟨b2, 0, none⟩)), (4, .pointer (some ⟨b3, 0, none⟩)), (6, .pointer (some ⟨b5, 0, none⟩)), (30, .bool false)] rfl ?_
      refine J.condF rfl ?_
      refine J.seq ?_
      refine J.region ?_
      refine RJ.run ttok 1 rfl ?_
      refine RJ.q rfl rfl (q_load_box ttok 3 (fun w e => e ▸ h25.wh) rfl rfl rfl rfl rfl) ?_
      refine RJ.run ttok 2 rfl ?_
      refine RJ.fin [(2, .pointer (some ⟨b1, 0, none⟩)), (3, .pointer (some ⟨b2, 0, none⟩)), (4, .pointer (some ⟨b3, 0, none⟩)), (6, .pointer (some ⟨b5, 0, none⟩)), (41, .bool (!a0.2.2))] rfl ?_
      refine J.cond rfl (fun c15 => ?_) (fun c15 => ?_)
      · replace H := ite_t c15 H
        refine J.region ?_
        refine RJ.run ttok 1 rfl ?_
        refine RJ.q rfl rfl (q_load_box ttok 3 (fun w e => e ▸ h25.wh) rfl rfl rfl rfl rfl) ?_
        refine RJ.run ttok 1 rfl ?_
        refine RJ.q rfl rfl (q_load_box ttok 2 (fun w e => e ▸ h25.wh) rfl rfl rfl rfl rfl) ?_
        refine RJ.run ttok 2 rfl ?_
        refine RJ.op rfl rfl (op_store ttok 0 rfl h25 rfl rfl rfl rfl rfl rfl rfl) ?_
        intro _ w33 h33
        replace h33 : St w0 F0 (boxC b5 23 [.string ⟨⟨(if (!Op.bytesLess a0.1 a1.1) = true then a0.1 else a1.1)⟩⟩, .string ⟨⟨(if (Op.bytesLess a0.2.1 a1.2.1 || decide (a0.2.1 = a1.2.1)) = true then a0.2.1 else a1.2.1)⟩⟩, .bool false] :: _) _ w33 := h33
        refine RJ.fin [(4, .pointer (some ⟨b3, 0, none⟩)), (6, .pointer (some ⟨b5, 0, none⟩))] rfl ?_
        refine J.seq ?_
        refine J.seq ?_
        refine J.region ?_
        refine RJ.q rfl rfl (q_load_box ttok 0 (fun w e => e ▸ h33.wh) rfl rfl rfl rfl rfl) ?_
        obtain ⟨r8, q8, H⟩ := bind_t H
        refine RJ.op rfl rfl (op_call [] (lex_Empty.spec q8) rfl rfl rfl h33 rfl gnil) ?_
        rintro _ w34 ⟨_, ⟨rfl, rfl⟩, h34⟩
        refine RJ.fin [(4, .pointer (some ⟨b3, 0, none⟩)), (6, .pointer (some ⟨b5, 0, none⟩)), (52, .bool r8)] rfl ?_
        refine J.cond rfl (fun c16 => ?_) (fun c16 => ?_)
        · replace H := ite_t c16 H
          refine J.seq ?_
          refine J.region ?_
          refine RJ.run ttok 1 rfl ?_
          refine RJ.op rfl rfl (op_store ttok 1 rfl h34 rfl rfl rfl rfl rfl rfl rfl) ?_
          intro _ w35 h35
          replace h35 : St w0 F0 (boxC b3 23 [.string ⟨⟨([] : List UInt8)⟩⟩, .string ⟨⟨([] : List UInt8)⟩⟩, .bool false] :: _) _ w35 := h35
          refine RJ.run ttok 1 rfl ?_
          refine RJ.fin [(4, .pointer (some ⟨b3, 0, none⟩)), (5, .bool false)] rfl ?_
          refine J.ret ?_
          obtain rfl := Option.some.inj H
          exact ⟨_, _, _, (results_two rfl (rvcons (RV.cell ttok 0 h35 rfl rfl rfl rfl) (rvcons (RV.tmp rfl) rvnil)) rfl), ⟨rfl, rfl⟩, h35.only [] rfl⟩
        · replace H := ite_f c16 H
          refine J.skip ?_
          refine J.seq ?_
          refine J.region ?_
          refine RJ.q rfl rfl (q_load_box ttok 0 (fun w e => e ▸ h34.wh) rfl rfl rfl rfl rfl) ?_
          refine RJ.op rfl rfl (op_store ttok 1 rfl h34 rfl rfl rfl rfl rfl rfl rfl) ?_
          intro _ w36 h36
          replace h36 : St w0 F0 (boxC b3 23 [.string ⟨⟨(if (!Op.bytesLess a0.1 a1.1) = true then a0.1 else a1.1)⟩⟩, .string ⟨⟨(if (Op.bytesLess a0.2.1 a1.2.1 || decide (a0.2.1 = a1.2.1)) = true then a0.2.1 else a1.2.1)⟩⟩, .bool false] :: _) _ w36 := h36
          refine RJ.run ttok 1 rfl ?_
          refine RJ.fin [(4, .pointer (some ⟨b3, 0, none⟩)), (5, .bool true)] rfl ?_
          refine J.ret ?_
          obtain rfl := Option.some.inj H
          exact ⟨_, _, _, (results_two rfl (rvcons (RV.cell ttok 0 h36 rfl rfl rfl rfl) (rvcons (RV.tmp rfl) rvnil)) rfl), ⟨rfl, rfl⟩, h36.only [] rfl⟩
      · replace H := ite_f c15 H
        refine J.skip ?_
        refine J.seq ?_
        refine J.seq ?_
        refine J.region ?_
        refine RJ.q rfl rfl (q_load_box ttok 0 (fun w e => e ▸ h25.wh) rfl rfl rfl rfl rfl) ?_
        obtain ⟨r9, q9, H⟩ := bind_t H
        refine RJ.op rfl rfl (op_call [] (lex_Empty.spec q9) rfl rfl rfl h25 rfl gnil) ?_
        rintro _ w37 ⟨_, ⟨rfl, rfl⟩, h37⟩
        refine RJ.fin [(4, .pointer (some ⟨b3, 0, none⟩)), (6, .pointer (some ⟨b5, 0, none⟩)), (52, .bool r9)] rfl ?_
        refine J.cond rfl (fun c17 => ?_) (fun c17 => ?_)
        · replace H := ite_t c17 H
          refine J.seq ?_
          refine J.region ?_
          refine RJ.run ttok 1 rfl ?_
          refine RJ.op rfl rfl (op_store ttok 1 rfl h37 rfl rfl rfl rfl rfl rfl rfl) ?_
          intro _ w38 h38
          replace h38 : St w0 F0 (boxC b3 23 [.string ⟨⟨([] : List UInt8)⟩⟩, .string ⟨⟨([] : List UInt8)⟩⟩, .bool false] :: _) _ w38 := h38
          refine RJ.run ttok 1 rfl ?_
          refine RJ.fin [(4, .pointer (some ⟨b3, 0, none⟩)), (5, .bool false)] rfl ?_
          refine J.ret ?_
          obtain rfl := Option.some.inj H
          exact ⟨_, _, _, (results_two rfl (rvcons (RV.cell ttok 0 h38 rfl rfl rfl rfl) (rvcons (RV.tmp rfl) rvnil)) rfl), ⟨rfl, rfl⟩, h38.only [] rfl⟩
        · replace H := ite_f c17 H
          refine J.skip ?_
          refine J.seq ?_
          refine J.region ?_
          refine RJ.q rfl rfl (q_load_box ttok 0 (fun w e => e ▸ h37.wh) rfl rfl rfl rfl rfl) ?_
          refine RJ.op rfl rfl (op_store ttok 1 rfl h37 rfl rfl rfl rfl rfl rfl rfl) ?_
          intro _ w39 h39
          replace h39 : St w0 F0 (boxC b3 23 [.string ⟨⟨(if (!Op.bytesLess a0.1 a1.1) = true then a0.1 else a1.1)⟩⟩, .string ⟨⟨([] : List UInt8)⟩⟩, .bool false] :: _) _ w39 := h39
          refine RJ.run ttok 1 rfl ?_
          refine RJ.fin [(4, .pointer (some ⟨b3, 0, none⟩)), (5, .bool true)] rfl ?_
          refine J.ret ?_
          obtain rfl := Option.some.inj H
          exact ⟨_, _, _, (results_two rfl (rvcons (RV.cell ttok 0 h39 rfl rfl rfl rfl) (rvcons (RV.tmp rfl) rvnil)) rfl), ⟨rfl, rfl⟩, h39.only [] rfl⟩

/-! sluicegate/lex.All -/
def lex_All.f  : Option ((List UInt8 × List UInt8 × Bool)) := some (([] : List UInt8), ([] : List UInt8), true)
set_option maxRecDepth 20000 in
theorem lex_All.spec   {r : (List UInt8 × List UInt8 × Bool)} (H : lex_All.f  = some r) :
    Spec Try.prog 19 [] [] [] (fun v l => v = .agg #[.string ⟨⟨r.1⟩⟩, .string ⟨⟨r.2.1⟩⟩, .bool r.2.2] ∧ l = []) := by
  refine Spec.enter Try.func19 rfl (by kernel_rfl) (by kernel_rfl) fun w0 F0 h0 => ?_
  unfold lex_All.f at H
  refine J.seq ?_
  refine J.region ?_
  refine RJ.op rfl rfl (op_alloc ttok rfl rfl h0) ?_
  rintro _ w1 ⟨b1, rfl, h1⟩
  refine RJ.fin [(0, .pointer (some ⟨b1, 0, none⟩))] rfl ?_
  refine J.seq ?_
  refine J.region ?_
  refine RJ.run ttok 1 rfl ?_
  refine RJ.op rfl rfl (op_store ttok 0 rfl h1 rfl rfl rfl rfl rfl rfl rfl) ?_
  intro _ w2 h2
  replace h2 : St w0 F0 (boxC b1 23 [.string ⟨⟨([] : List UInt8)⟩⟩, .string ⟨⟨([] : List UInt8)⟩⟩, .bool true] :: _) _ w2 := h2
  refine RJ.fin [(0, .pointer (some ⟨b1, 0, none⟩))] rfl ?_
  refine J.ret ?_
  obtain rfl := Option.some.inj H
  exact ⟨_, _, _, (results_two rfl (rvcons (RV.cell ttok 0 h2 rfl rfl rfl rfl) rvnil) rfl), ⟨rfl, rfl⟩, h2.only [] rfl⟩

/-! sluicegate/lex.In -/
def lex_In.f (a0 : List UInt8 × List UInt8 × Bool) (a1 : List UInt8) : Option (Bool) := if (!Op.bytesLess a1 a0.1) = true then (if a0.2.2 = true then (some true) else (some (Op.bytesLess a1 a0.2.1))) else (some false)
set_option maxRecDepth 20000 in
theorem lex_In.spec {a0 : List UInt8 × List UInt8 × Bool} {a1 : List UInt8}  {r : Bool} (H : lex_In.f a0 a1 = some r) :
    Spec Try.prog 15 [.agg #[.string ⟨⟨a0.1⟩⟩, .string ⟨⟨a0.2.1⟩⟩, .bool a0.2.2], .string ⟨⟨a1⟩⟩] [] [] (fun v l => v = .bool r ∧ l = []) := by
  refine Spec.enter Try.func15 rfl (by kernel_rfl) (by kernel_rfl) fun w0 F0 h0 => ?_
  unfold lex_In.f at H
  refine J.seq ?_
  refine J.region ?_
  refine RJ.op rfl rfl (op_box rfl rfl h0) ?_
  rintro _ w1 ⟨b1, rfl, h1⟩
  refine RJ.run ttok 1 rfl ?_
  refine RJ.fin [(1, .string ⟨⟨a1⟩⟩), (2, .pointer (some ⟨b1, 0, none⟩))] rfl ?_
  refine J.seq ?_
  refine J.region ?_
  refine RJ.run ttok 2 rfl ?_
  refine RJ.q rfl rfl (q_load_box ttok 0 (fun w e => e ▸ h1.wh) rfl rfl rfl rfl rfl) ?_
  refine RJ.run ttok 2 rfl ?_
  rcases Bool.eq_false_or_eq_true (!Op.bytesLess a1 a0.1) with c1 | c1
  · replace H := ite_t c1 H
    refine RJ.know (t := 9) rfl (congrArg Value.bool c1) ?_
    refine RJ.run ttok 1 rfl ?_
    refine RJ.q rfl rfl (q_load_box ttok 0 (fun w e => e ▸ h1.wh) rfl rfl rfl rfl rfl) ?_
    refine RJ.run ttok 1 rfl ?_
    rcases Bool.eq_false_or_eq_true a0.2.2 with c2 | c2
    · replace H := ite_t c2 H
      refine RJ.know (t := 12) rfl (congrArg Value.bool c2) ?_
      refine RJ.run ttok 7 rfl ?_
      refine RJ.fin [(4, .bool true)] rfl ?_
      refine J.ret ?_
      obtain rfl := Option.some.inj H
      exact ⟨_, _, _, (results_slots rfl), ⟨rfl, rfl⟩, h1.only [] rfl⟩
    · replace H := ite_f c2 H
      refine RJ.know (t := 12) rfl (congrArg Value.bool c2) ?_
      refine RJ.run ttok 2 rfl ?_
      refine RJ.q rfl rfl (q_load_box ttok 0 (fun w e => e ▸ h1.wh) rfl rfl rfl rfl rfl) ?_
      refine RJ.run ttok 4 rfl ?_
      refine RJ.fin [(4, .bool (Op.bytesLess a1 a0.2.1))] rfl ?_
      refine J.ret ?_
      obtain rfl := Option.some.inj H
      exact ⟨_, _, _, (results_slots rfl), ⟨rfl, rfl⟩, h1.only [] rfl⟩
  · replace H := ite_f c1 H
    refine RJ.know (t := 9) rfl (congrArg Value.bool c1) ?_
    refine RJ.run ttok 10 rfl ?_
    refine RJ.fin [(4, .bool false)] rfl ?_
    refine J.ret ?_
    obtain rfl := Option.some.inj H
    exact ⟨_, _, _, (results_slots rfl), ⟨rfl, rfl⟩, h1.only [] rfl⟩

/-! sluicegate/sluicegatelaw01.awake -/
def sluicegatelaw01_awake.f (k : Nat)  : Option (Bool) := (lex_Cut.f k ([97, 98, 99] : List UInt8) ([97, 98, 120] : List UInt8)).bind fun r1 => ((lex_Meet.f (([97] : List UInt8), ([99] : List UInt8), false) (([98] : List UInt8), ([] : List UInt8), true)).bind fun r2 => (if (decide (r1.1 = ([97, 98, 120] : List UInt8))) = true then (if r1.2 = true then ((lex_Shared.f k ([97, 98, 99] : List UInt8) ([97, 98, 120] : List UInt8)).bind fun r3 => (if (decide (r3 = 2)) = true then (if ((decide (r2.1.1 = ([98] : List UInt8))) && ((decide (r2.1.2.1 = ([99] : List UInt8))) && ((r2.1.2.2 == false) && true))) = true then (if r2.2 = true then ((lex_All.f).bind fun r4 => ((lex_In.f (r4.1, r4.2.1, r4.2.2) ([] : List UInt8)).bind fun r5 => (some r5))) else (some false)) else (some false)) else (some false))) else (some false)) else (some false)))
set_option maxRecDepth 20000 in
theorem sluicegatelaw01_awake.spec {k : Nat}   {r : Bool} (H : sluicegatelaw01_awake.f k  = some r) :
    Spec Try.prog 14 [] [] [] (fun v l => v = .bool r ∧ l = []) := by
  refine Spec.enter Try.func14 rfl (by kernel_rfl) (by kernel_rfl) fun w0 F0 h0 => ?_
  unfold sluicegatelaw01_awake.f at H
  refine J.seq ?_
  refine J.region ?_
  refine RJ.run ttok 1 rfl ?_
  refine RJ.fin [] rfl ?_
  refine J.seq ?_
  refine J.region ?_
  obtain ⟨r1, q1, H⟩ := bind_t H
  refine RJ.op rfl rfl (op_call [] (lex_Cut.spec q1) rfl rfl rfl h0 rfl gnil) ?_
  rintro _ w1 ⟨_, ⟨rfl, rfl⟩, h1⟩
  refine RJ.run ttok 5 rfl ?_
  refine RJ.fin [(1, .string ⟨⟨r1.1⟩⟩), (2, .bool r1.2)] rfl ?_
  refine J.seq ?_
  refine J.region ?_
  refine RJ.run ttok 2 rfl ?_
  obtain ⟨r2, q2, H⟩ := bind_t H
  refine RJ.op rfl rfl (op_call [] (lex_Meet.spec q2) rfl rfl rfl h1 rfl gnil) ?_
  rintro _ w2 ⟨_, ⟨rfl, rfl⟩, h2⟩
  refine RJ.run ttok 3 rfl ?_
  refine RJ.op rfl rfl (op_alloc ttok rfl rfl h2) ?_
  rintro _ w3 ⟨b1, rfl, h3⟩
  refine RJ.op rfl rfl (op_store ttok 0 rfl h3 rfl rfl rfl rfl rfl rfl rfl) ?_
  intro _ w4 h4
  replace h4 : St w0 F0 (boxC b1 23 [.string ⟨⟨r2.1.1⟩⟩, .string ⟨⟨r2.1.2.1⟩⟩, .bool r2.1.2.2] :: _) _ w4 := h4
  refine RJ.run ttok 1 rfl ?_
  refine RJ.fin [(1, .string ⟨⟨r1.1⟩⟩), (2, .bool r1.2), (3, .pointer (some ⟨b1, 0, none⟩)), (4, .bool r2.2)] rfl ?_
  refine J.seq ?_
  refine J.region ?_
  refine RJ.run ttok 3 rfl ?_
  rcases Bool.eq_false_or_eq_true (decide (r1.1 = ([97, 98, 120] : List UInt8))) with c1 | c1
  · replace H := ite_t c1 H
    refine RJ.know (t := 17) rfl (congrArg Value.bool c1) ?_
    refine RJ.run ttok 3 rfl ?_
    rcases Bool.eq_false_or_eq_true r1.2 with c2 | c2
    · replace H := ite_t c2 H
      refine RJ.know (t := 20) rfl (congrArg Value.bool c2) ?_
      obtain ⟨r3, q3, H⟩ := bind_t H
      refine RJ.op rfl rfl (op_call [] (lex_Shared.spec q3) rfl rfl rfl h4 rfl gnil) ?_
      rintro _ w5 ⟨_, ⟨rfl, rfl⟩, h5⟩
      refine RJ.run ttok 3 rfl ?_
      rcases Bool.eq_false_or_eq_true (decide (r3 = 2)) with c3 | c3
      · replace H := ite_t c3 H
        refine RJ.know (t := 24) rfl (congrArg Value.bool c3) ?_
        refine RJ.q rfl rfl (q_load_box ttok 0 (fun w e => e ▸ h5.wh) rfl rfl rfl rfl rfl) ?_
        refine RJ.run ttok 4 rfl ?_
        rcases Bool.eq_false_or_eq_true ((decide (r2.1.1 = ([98] : List UInt8))) && ((decide (r2.1.2.1 = ([99] : List UInt8))) && ((r2.1.2.2 == false) && true))) with c4 | c4
        · replace H := ite_t c4 H
          refine RJ.know (t := 29) rfl (congrArg Value.bool c4) ?_
          refine RJ.run ttok 3 rfl ?_
          rcases Bool.eq_false_or_eq_true r2.2 with c5 | c5
          · replace H := ite_t c5 H
            refine RJ.know (t := 32) rfl (congrArg Value.bool c5) ?_
            obtain ⟨r4, q4, H⟩ := bind_t H
            refine RJ.op rfl rfl (op_call [] (lex_All.spec q4) rfl rfl rfl h5 rfl gnil) ?_
            rintro _ w6 ⟨_, ⟨rfl, rfl⟩, h6⟩
            obtain ⟨r5, q5, H⟩ := bind_t H
            refine RJ.op rfl rfl (op_call [] (lex_In.spec q5) rfl rfl rfl h6 rfl gnil) ?_
            rintro _ w7 ⟨_, ⟨rfl, rfl⟩, h7⟩
            refine RJ.run ttok 2 rfl ?_
            refine RJ.fin [(0, .bool r5)] rfl ?_
            refine J.ret ?_
            obtain rfl := Option.some.inj H
            exact ⟨_, _, _, (results_slots rfl), ⟨rfl, rfl⟩, h7.only [] rfl⟩
          · replace H := ite_f c5 H
            refine RJ.know (t := 32) rfl (congrArg Value.bool c5) ?_
            refine RJ.run ttok 4 rfl ?_
            refine RJ.fin [(0, .bool false)] rfl ?_
            refine J.ret ?_
            obtain rfl := Option.some.inj H
            exact ⟨_, _, _, (results_slots rfl), ⟨rfl, rfl⟩, h5.only [] rfl⟩
        · replace H := ite_f c4 H
          refine RJ.know (t := 29) rfl (congrArg Value.bool c4) ?_
          refine RJ.run ttok 7 rfl ?_
          refine RJ.fin [(0, .bool false)] rfl ?_
          refine J.ret ?_
          obtain rfl := Option.some.inj H
          exact ⟨_, _, _, (results_slots rfl), ⟨rfl, rfl⟩, h5.only [] rfl⟩
      · replace H := ite_f c3 H
        refine RJ.know (t := 24) rfl (congrArg Value.bool c3) ?_
        refine RJ.run ttok 12 rfl ?_
        refine RJ.fin [(0, .bool false)] rfl ?_
        refine J.ret ?_
        obtain rfl := Option.some.inj H
        exact ⟨_, _, _, (results_slots rfl), ⟨rfl, rfl⟩, h5.only [] rfl⟩
    · replace H := ite_f c2 H
      refine RJ.know (t := 20) rfl (congrArg Value.bool c2) ?_
      refine RJ.run ttok 16 rfl ?_
      refine RJ.fin [(0, .bool false)] rfl ?_
      refine J.ret ?_
      obtain rfl := Option.some.inj H
      exact ⟨_, _, _, (results_slots rfl), ⟨rfl, rfl⟩, h4.only [] rfl⟩
  · replace H := ite_f c1 H
    refine RJ.know (t := 17) rfl (congrArg Value.bool c1) ?_
    refine RJ.run ttok 19 rfl ?_
    refine RJ.fin [(0, .bool false)] rfl ?_
    refine J.ret ?_
    obtain rfl := Option.some.inj H
    exact ⟨_, _, _, (results_slots rfl), ⟨rfl, rfl⟩, h4.only [] rfl⟩

/-! sluicegate/sluicegateref01.Compare -/
def sluicegateref01_Compare.l0 : Nat → (List UInt8) → (List UInt8) → (Int) → Option (Int)
  | 0, _, _, _ => none
  | k + 1, a0, a1, x1 => if (decide (x1 < (a0.length : Int))) = true then (if (decide (x1 < (a1.length : Int))) = true then (if 0 ≤ x1 ∧ x1 < (a0.length : Int) then (if 0 ≤ x1 ∧ x1 < (a1.length : Int) then (if (decide ((gtb a0 x1) < (gtb a1 x1))) = true then (some (-1)) else (if (decide ((gtb a1 x1) < (gtb a0 x1))) = true then (some 1) else (sluicegateref01_Compare.l0 k a0 a1 (w64 (x1 + 1))))) else none) else none) else (if (decide ((a0.length : Int) < (a1.length : Int))) = true then (some (-1)) else (if (decide ((a1.length : Int) < (a0.length : Int))) = true then (some 1) else (some 0)))) else (if (decide ((a0.length : Int) < (a1.length : Int))) = true then (some (-1)) else (if (decide ((a1.length : Int) < (a0.length : Int))) = true then (some 1) else (some 0)))
def sluicegateref01_Compare.f (k : Nat) (a0 : List UInt8) (a1 : List UInt8) : Option (Int) := sluicegateref01_Compare.l0 k a0 a1 0
set_option maxRecDepth 20000 in
theorem sluicegateref01_Compare.spec {k : Nat} {a0 : List UInt8} {a1 : List UInt8}  {r : Int} (H : sluicegateref01_Compare.f k a0 a1 = some r) :
    Spec Try.prog 21 [.string ⟨⟨a0⟩⟩, .string ⟨⟨a1⟩⟩] [] [] (fun v l => v = .int .i64 r ∧ l = []) := by
  refine Spec.enter Try.func21 rfl (by kernel_rfl) (by kernel_rfl) fun w0 F0 h0 => ?_
  unfold sluicegateref01_Compare.f at H
  refine J.seq ?_
  refine J.region ?_
  refine RJ.run ttok 1 rfl ?_
  refine RJ.fin [(0, .string ⟨⟨a0⟩⟩), (1, .string ⟨⟨a1⟩⟩)] rfl ?_
  refine J.seq ?_
  refine J.seq ?_
  refine J.region ?_
  refine RJ.run ttok 1 rfl ?_
  refine RJ.fin [(0, .string ⟨⟨a0⟩⟩), (1, .string ⟨⟨a1⟩⟩), (5, .int .i64 0)] rfl ?_
  refine J.block ?_
  have h5 := ((h0.only [] rfl).rds [] rfl)
  refine J.loop (fun k env w => ∃ (x1 : Int), env = [(0, .string ⟨⟨a0⟩⟩), (1, .string ⟨⟨a1⟩⟩), (5, .int .i64 x1)] ∧ St w0 F0 [] [] w ∧ sluicegateref01_Compare.l0 k a0 a1 x1 = some r) (k := k) ⟨0, rfl, h5, H⟩ ?_
  rintro k env w1 ⟨x1, rfl, h1, H⟩
  cases k with
  | zero => exact nomatch (show none = some r from H)
  | succ k =>
    rw [sluicegateref01_Compare.l0] at H
    refine J.seq ?_
    refine J.seq ?_
    refine J.region ?_
    refine RJ.run ttok 5 rfl ?_
    rcases Bool.eq_false_or_eq_true (decide (x1 < (a0.length : Int))) with c1 | c1
    · replace H := ite_t c1 H
      refine RJ.know (t := 10) rfl (congrArg Value.bool c1) ?_
      refine RJ.run ttok 5 rfl ?_
      refine RJ.fin [(0, .string ⟨⟨a0⟩⟩), (1, .string ⟨⟨a1⟩⟩), (5, .int .i64 x1), (15, .bool (decide (x1 < (a1.length : Int))))] rfl ?_
      refine J.cond rfl (fun c2 => ?_) (fun c2 => ?_)
      · replace H := ite_t c2 H
        refine J.skip ?_
        refine J.seq ?_
        refine J.block ?_
        refine J.seq ?_
        refine J.seq ?_
        refine J.heldSt mix h1 ?_
        have h2 := h1.drew
        refine HJ.run ttok rfl [0, 1, 3, 4] rfl ?_
        obtain ⟨⟨p1, p2⟩, H⟩ := guard_t H
        refine HJ.q (i := 2) rfl rfl rfl rfl rfl rfl (q_byte ttok rfl rfl rfl rfl p1 p2) ?_
        obtain ⟨⟨p3, p4⟩, H⟩ := guard_t H
        refine HJ.q (i := 5) rfl rfl rfl rfl rfl rfl (q_byte ttok rfl rfl rfl rfl p3 p4) ?_
        refine HJ.run ttok rfl [6] rfl ?_
        refine HJ.fin [(0, .string ⟨⟨a0⟩⟩), (1, .string ⟨⟨a1⟩⟩), (5, .int .i64 x1), (24, .bool (decide ((gtb a0 x1) < (gtb a1 x1))))] rfl rfl ?_
        refine J.cond rfl (fun c3 => ?_) (fun c3 => ?_)
        · replace H := ite_t c3 H
          refine J.seq ?_
          refine J.region ?_
          refine RJ.run ttok 1 rfl ?_
          refine RJ.fin [(4, .int .i64 (-1))] rfl ?_
          refine J.ret ?_
          obtain rfl := Option.some.inj H
          exact ⟨_, _, _, (results_slots rfl), ⟨rfl, rfl⟩, h2.only [] rfl⟩
        · replace H := ite_f c3 H
          refine J.skip ?_
          refine J.seq ?_
          refine J.heldSt mix h2 ?_
          have h3 := h2.drew
          refine HJ.run ttok rfl [0, 1, 3, 4] rfl ?_
          refine HJ.q (i := 2) rfl rfl rfl rfl rfl rfl (q_byte ttok rfl rfl rfl rfl p1 p2) ?_
          refine HJ.q (i := 5) rfl rfl rfl rfl rfl rfl (q_byte ttok rfl rfl rfl rfl p3 p4) ?_
          refine HJ.run ttok rfl [6] rfl ?_
          refine HJ.fin [(0, .string ⟨⟨a0⟩⟩), (1, .string ⟨⟨a1⟩⟩), (5, .int .i64 x1), (31, .bool (decide ((gtb a1 x1) < (gtb a0 x1))))] rfl rfl ?_
          refine J.cond rfl (fun c4 => ?_) (fun c4 => ?_)
          · replace H := ite_t c4 H
            refine J.seq ?_
            refine J.region ?_
            refine RJ.run ttok 1 rfl ?_
            refine RJ.fin [(4, .int .i64 1)] rfl ?_
            refine J.ret ?_
            obtain rfl := Option.some.inj H
            exact ⟨_, _, _, (results_slots rfl), ⟨rfl, rfl⟩, h3.only [] rfl⟩
          · replace H := ite_f c4 H
            refine J.skip ?_
            refine J.region ?_
            refine RJ.run ttok 3 rfl ?_
            refine RJ.fin [(0, .string ⟨⟨a0⟩⟩), (1, .string ⟨⟨a1⟩⟩), (5, .int .i64 (w64 (x1 + 1)))] rfl ?_
            have h4 := ((h3.only [] rfl).rds [] rfl)
            exact ⟨k, Nat.lt_succ_self k, (w64 (x1 + 1)), rfl, h4, H⟩
      · replace H := ite_f c2 H
        refine J.exit ?_
        refine J.seq ?_
        refine J.seq ?_
        refine J.region ?_
        refine RJ.run ttok 5 rfl ?_
        refine RJ.fin [(0, .string ⟨⟨a0⟩⟩), (1, .string ⟨⟨a1⟩⟩), (36, .bool (decide ((a0.length : Int) < (a1.length : Int))))] rfl ?_
        refine J.cond rfl (fun c5 => ?_) (fun c5 => ?_)
        · replace H := ite_t c5 H
          refine J.seq ?_
          refine J.region ?_
          refine RJ.run ttok 1 rfl ?_
          refine RJ.fin [(4, .int .i64 (-1))] rfl ?_
          refine J.ret ?_
          obtain rfl := Option.some.inj H
          exact ⟨_, _, _, (results_slots rfl), ⟨rfl, rfl⟩, h1.only [] rfl⟩
        · replace H := ite_f c5 H
          refine J.skip ?_
          refine J.seq ?_
          refine J.seq ?_
          refine J.region ?_
          refine RJ.run ttok 5 rfl ?_
          refine RJ.fin [(41, .bool (decide ((a1.length : Int) < (a0.length : Int))))] rfl ?_
          refine J.cond rfl (fun c6 => ?_) (fun c6 => ?_)
          · replace H := ite_t c6 H
            refine J.seq ?_
            refine J.region ?_
            refine RJ.run ttok 1 rfl ?_
            refine RJ.fin [(4, .int .i64 1)] rfl ?_
            refine J.ret ?_
            obtain rfl := Option.some.inj H
            exact ⟨_, _, _, (results_slots rfl), ⟨rfl, rfl⟩, h1.only [] rfl⟩
          · replace H := ite_f c6 H
            refine J.skip ?_
            refine J.seq ?_
            refine J.region ?_
            refine RJ.run ttok 1 rfl ?_
            refine RJ.fin [(4, .int .i64 0)] rfl ?_
            refine J.ret ?_
            obtain rfl := Option.some.inj H
            exact ⟨_, _, _, (results_slots rfl), ⟨rfl, rfl⟩, h1.only [] rfl⟩
    · replace H := ite_f c1 H
      refine RJ.know (t := 10) rfl (congrArg Value.bool c1) ?_
      refine RJ.run ttok 5 rfl ?_
      refine RJ.fin [(0, .string ⟨⟨a0⟩⟩), (1, .string ⟨⟨a1⟩⟩), (5, .int .i64 x1), (15, .bool false)] rfl ?_
      refine J.condF rfl ?_
      refine J.exit ?_
      refine J.seq ?_
      refine J.seq ?_
      refine J.region ?_
      refine RJ.run ttok 5 rfl ?_
      refine RJ.fin [(0, .string ⟨⟨a0⟩⟩), (1, .string ⟨⟨a1⟩⟩), (36, .bool (decide ((a0.length : Int) < (a1.length : Int))))] rfl ?_
      refine J.cond rfl (fun c7 => ?_) (fun c7 => ?_)
      · replace H := ite_t c7 H
        refine J.seq ?_
        refine J.region ?_
        refine RJ.run ttok 1 rfl ?_
        refine RJ.fin [(4, .int .i64 (-1))] rfl ?_
        refine J.ret ?_
        obtain rfl := Option.some.inj H
        exact ⟨_, _, _, (results_slots rfl), ⟨rfl, rfl⟩, h1.only [] rfl⟩
      · replace H := ite_f c7 H
        refine J.skip ?_
        refine J.seq ?_
        refine J.seq ?_
        refine J.region ?_
        refine RJ.run ttok 5 rfl ?_
        refine RJ.fin [(41, .bool (decide ((a1.length : Int) < (a0.length : Int))))] rfl ?_
        refine J.cond rfl (fun c8 => ?_) (fun c8 => ?_)
        · replace H := ite_t c8 H
          refine J.seq ?_
          refine J.region ?_
          refine RJ.run ttok 1 rfl ?_
          refine RJ.fin [(4, .int .i64 1)] rfl ?_
          refine J.ret ?_
          obtain rfl := Option.some.inj H
          exact ⟨_, _, _, (results_slots rfl), ⟨rfl, rfl⟩, h1.only [] rfl⟩
        · replace H := ite_f c8 H
          refine J.skip ?_
          refine J.seq ?_
          refine J.region ?_
          refine RJ.run ttok 1 rfl ?_
          refine RJ.fin [(4, .int .i64 0)] rfl ?_
          refine J.ret ?_
          obtain rfl := Option.some.inj H
          exact ⟨_, _, _, (results_slots rfl), ⟨rfl, rfl⟩, h1.only [] rfl⟩

/-! sluicegate/sluicegateref01.In -/
def sluicegateref01_In.f (k : Nat) (a0 : List UInt8 × List UInt8 × Bool) (a1 : List UInt8) : Option (Bool) := (sluicegateref01_Compare.f k a0.1 a1).bind fun r1 => (if (decide (r1 ≤ 0)) = true then (if a0.2.2 = true then (some true) else ((sluicegateref01_Compare.f k a1 a0.2.1).bind fun r2 => (some (decide (r2 < 0))))) else (some false))
set_option maxRecDepth 20000 in
theorem sluicegateref01_In.spec {k : Nat} {a0 : List UInt8 × List UInt8 × Bool} {a1 : List UInt8}  {r : Bool} (H : sluicegateref01_In.f k a0 a1 = some r) :
    Spec Try.prog 16 [.agg #[.string ⟨⟨a0.1⟩⟩, .string ⟨⟨a0.2.1⟩⟩, .bool a0.2.2], .string ⟨⟨a1⟩⟩] [] [] (fun v l => v = .bool r ∧ l = []) := by
  refine Spec.enter Try.func16 rfl (by kernel_rfl) (by kernel_rfl) fun w0 F0 h0 => ?_
  unfold sluicegateref01_In.f at H
  refine J.seq ?_
  refine J.region ?_
  refine RJ.op rfl rfl (op_box rfl rfl h0) ?_
  rintro _ w1 ⟨b1, rfl, h1⟩
  refine RJ.run ttok 1 rfl ?_
  refine RJ.fin [(1, .string ⟨⟨a1⟩⟩), (2, .pointer (some ⟨b1, 0, none⟩))] rfl ?_
  refine J.seq ?_
  refine J.region ?_
  refine RJ.run ttok 1 rfl ?_
  refine RJ.q rfl rfl (q_load_box ttok 0 (fun w e => e ▸ h1.wh) rfl rfl rfl rfl rfl) ?_
  refine RJ.run ttok 1 rfl ?_
  obtain ⟨r1, q1, H⟩ := bind_t H
  refine RJ.op rfl rfl (op_call [] (sluicegateref01_Compare.spec q1) rfl rfl rfl h1 rfl gnil) ?_
  rintro _ w2 ⟨_, ⟨rfl, rfl⟩, h2⟩
  refine RJ.run ttok 2 rfl ?_
  rcases Bool.eq_false_or_eq_true (decide (r1 ≤ 0)) with c1 | c1
  · replace H := ite_t c1 H
    refine RJ.know (t := 10) rfl (congrArg Value.bool c1) ?_
    refine RJ.run ttok 1 rfl ?_
    refine RJ.q rfl rfl (q_load_box ttok 0 (fun w e => e ▸ h2.wh) rfl rfl rfl rfl rfl) ?_
    refine RJ.run ttok 1 rfl ?_
    rcases Bool.eq_false_or_eq_true a0.2.2 with c2 | c2
    · replace H := ite_t c2 H
      refine RJ.know (t := 13) rfl (congrArg Value.bool c2) ?_
      refine RJ.run ttok 8 rfl ?_
      refine RJ.fin [(4, .bool true)] rfl ?_
      refine J.ret ?_
      obtain rfl := Option.some.inj H
      exact ⟨_, _, _, (results_slots rfl), ⟨rfl, rfl⟩, h2.only [] rfl⟩
    · replace H := ite_f c2 H
      refine RJ.know (t := 13) rfl (congrArg Value.bool c2) ?_
      refine RJ.run ttok 2 rfl ?_
      refine RJ.q rfl rfl (q_load_box ttok 0 (fun w e => e ▸ h2.wh) rfl rfl rfl rfl rfl) ?_
      obtain ⟨r2, q2, H⟩ := bind_t H
      refine RJ.op rfl rfl (op_call [] (sluicegateref01_Compare.spec q2) rfl rfl rfl h2 rfl gnil) ?_
      rintro _ w3 ⟨_, ⟨rfl, rfl⟩, h3⟩
      refine RJ.run ttok 4 rfl ?_
      refine RJ.fin [(4, .bool (decide (r2 < 0)))] rfl ?_
      refine J.ret ?_
      obtain rfl := Option.some.inj H
      exact ⟨_, _, _, (results_slots rfl), ⟨rfl, rfl⟩, h3.only [] rfl⟩
  · replace H := ite_f c1 H
    refine RJ.know (t := 10) rfl (congrArg Value.bool c1) ?_
    refine RJ.run ttok 11 rfl ?_
    refine RJ.fin [(4, .bool false)] rfl ?_
    refine J.ret ?_
    obtain rfl := Option.some.inj H
    exact ⟨_, _, _, (results_slots rfl), ⟨rfl, rfl⟩, h2.only [] rfl⟩

/-! sluicegate/sluicegateref01.Empty -/
def sluicegateref01_Empty.f (k : Nat) (a0 : List UInt8 × List UInt8 × Bool) : Option (Bool) := (sluicegateref01_In.f k (a0.1, a0.2.1, a0.2.2) a0.1).bind fun r1 => (some (!r1))
set_option maxRecDepth 20000 in
theorem sluicegateref01_Empty.spec {k : Nat} {a0 : List UInt8 × List UInt8 × Bool}  {r : Bool} (H : sluicegateref01_Empty.f k a0 = some r) :
    Spec Try.prog 18 [.agg #[.string ⟨⟨a0.1⟩⟩, .string ⟨⟨a0.2.1⟩⟩, .bool a0.2.2]] [] [] (fun v l => v = .bool r ∧ l = []) := by
  refine Spec.enter Try.func18 rfl (by kernel_rfl) (by kernel_rfl) fun w0 F0 h0 => ?_
  unfold sluicegateref01_Empty.f at H
  refine J.seq ?_
  refine J.region ?_
  refine RJ.op rfl rfl (op_box rfl rfl h0) ?_
  rintro _ w1 ⟨b1, rfl, h1⟩
  refine RJ.run ttok 1 rfl ?_
  refine RJ.fin [(1, .pointer (some ⟨b1, 0, none⟩))] rfl ?_
  refine J.seq ?_
  refine J.region ?_
  refine RJ.q rfl rfl (q_load_box ttok 0 (fun w e => e ▸ h1.wh) rfl rfl rfl rfl rfl) ?_
  refine RJ.run ttok 1 rfl ?_
  refine RJ.q rfl rfl (q_load_box ttok 0 (fun w e => e ▸ h1.wh) rfl rfl rfl rfl rfl) ?_
  obtain ⟨r1, q1, H⟩ := bind_t H
  refine RJ.op rfl rfl (op_call [] (sluicegateref01_In.spec q1) rfl rfl rfl h1 rfl gnil) ?_
  rintro _ w2 ⟨_, ⟨rfl, rfl⟩, h2⟩
  refine RJ.run ttok 2 rfl ?_
  refine RJ.fin [(2, .bool (!r1))] rfl ?_
  refine J.ret ?_
  obtain rfl := Option.some.inj H
  exact ⟨_, _, _, (results_slots rfl), ⟨rfl, rfl⟩, h2.only [] rfl⟩

/-! sluicegate/sluicegatelaw01.LexSpans -/
def sluicegatelaw01_LexSpans.f (k : Nat) (a0 : List UInt8 × List UInt8 × Bool) (a1 : List UInt8) : Option (Bool) := (sluicegatelaw01_long.f k ([a0.1, a0.2.1, a1] : List (List UInt8))).bind fun r1 => (if r1 = true then ((sluicegatelaw01_awake.f k).bind fun r2 => (some r2)) else ((lex_In.f (a0.1, a0.2.1, a0.2.2) a1).bind fun r3 => ((sluicegateref01_In.f k (a0.1, a0.2.1, a0.2.2) a1).bind fun r4 => (if (r3 == r4) = true then ((lex_Empty.f (a0.1, a0.2.1, a0.2.2)).bind fun r5 => ((sluicegateref01_Empty.f k (a0.1, a0.2.1, a0.2.2)).bind fun r6 => (if (r5 == r6) = true then ((lex_All.f).bind fun r7 => ((lex_In.f (r7.1, r7.2.1, r7.2.2) a1).bind fun r8 => (if r8 = true then ((lex_Empty.f (a0.1, a0.2.1, a0.2.2)).bind fun r9 => (if (!r9) = true then ((sluicegatelaw01_awake.f k).bind fun r10 => (some r10)) else ((lex_In.f (a0.1, a0.2.1, a0.2.2) a1).bind fun r11 => (if (!r11) = true then ((sluicegatelaw01_awake.f k).bind fun r12 => (some r12)) else (some false))))) else (some false)))) else (some false)))) else (some false)))))
set_option maxRecDepth 20000 in
theorem sluicegatelaw01_LexSpans.spec {k : Nat} {a0 : List UInt8 × List UInt8 × Bool} {a1 : List UInt8}  {r : Bool} (H : sluicegatelaw01_LexSpans.f k a0 a1 = some r) :
    Spec Try.prog 3 [.agg #[.string ⟨⟨a0.1⟩⟩, .string ⟨⟨a0.2.1⟩⟩, .bool a0.2.2], .string ⟨⟨a1⟩⟩] [] [] (fun v l => v = .bool r ∧ l = []) := by
  refine Spec.enter Try.func3 rfl (by kernel_rfl) (by kernel_rfl) fun w0 F0 h0 => ?_
  unfold sluicegatelaw01_LexSpans.f at H
  refine J.seq ?_
  refine J.region ?_
  refine RJ.op rfl rfl (op_box rfl rfl h0) ?_
  rintro _ w1 ⟨b1, rfl, h1⟩
  refine RJ.run ttok 1 rfl ?_
  refine RJ.fin [(1, .string ⟨⟨a1⟩⟩), (2, .pointer (some ⟨b1, 0, none⟩))] rfl ?_
  refine J.seq ?_
  refine J.seq ?_
  refine J.region ?_
  refine RJ.run ttok 1 rfl ?_
  refine RJ.q rfl rfl (q_load_box ttok 0 (fun w e => e ▸ h1.wh) rfl rfl rfl rfl rfl) ?_
  refine RJ.run ttok 1 rfl ?_
  refine RJ.q rfl rfl (q_load_box ttok 0 (fun w e => e ▸ h1.wh) rfl rfl rfl rfl rfl) ?_
  refine RJ.run ttok 1 rfl ?_
  refine RJ.op rfl rfl (op_lit ttok .str rfl ([a0.1, a0.2.1, a1] : List (List UInt8)) rfl h1 rfl rfl (by decide) rfl rfl rfl rfl rfl rfl rfl) ?_
  rintro _ w2 ⟨b2, rfl, h2⟩
  obtain ⟨r1, q1, H⟩ := bind_t H
  refine RJ.op rfl rfl (op_call [] (sluicegatelaw01_long.spec q1) rfl rfl rfl h2 rfl (gcons (Gives.of 0 rfl own_rd) gnil)) ?_
  rintro _ w3 ⟨_, ⟨rfl, rfl⟩, h3⟩
  refine RJ.fin [(1, .string ⟨⟨a1⟩⟩), (2, .pointer (some ⟨b1, 0, none⟩)), (11, .bool r1)] rfl ?_
  refine J.cond rfl (fun c1 => ?_) (fun c1 => ?_)
  · replace H := ite_t c1 H
    refine J.seq ?_
    refine J.region ?_
    obtain ⟨r2, q2, H⟩ := bind_t H
    refine RJ.op rfl rfl (op_call [] (sluicegatelaw01_awake.spec q2) rfl rfl rfl h3 rfl gnil) ?_
    rintro _ w4 ⟨_, ⟨rfl, rfl⟩, h4⟩
    refine RJ.run ttok 1 rfl ?_
    refine RJ.fin [(4, .bool r2)] rfl ?_
    refine J.ret ?_
    obtain rfl := Option.some.inj H
    exact ⟨_, _, _, (results_slots rfl), ⟨rfl, rfl⟩, h4.only [] rfl⟩
  · replace H := ite_f c1 H
    refine J.skip ?_
    refine J.seq ?_
    refine J.heldSt mix h3 ?_
    have h5 := h3.drew
    refine HJ.run ttok rfl [1, 4] rfl ?_
    refine HJ.q (i := 0) rfl rfl rfl rfl rfl rfl (q_load_box ttok 1 (fun w e => e) rfl rfl rfl rfl rfl) ?_
    refine HJ.q (i := 3) rfl rfl rfl rfl rfl rfl (q_load_box ttok 1 (fun w e => e) rfl rfl rfl rfl rfl) ?_
    obtain ⟨r3, q3, H⟩ := bind_t H
    refine HJ.op (i := 2) rfl rfl rfl rfl rfl (op_call [] (lex_In.spec q3) rfl rfl rfl h5 rfl gnil) ?_
    rintro _ w5 ⟨_, ⟨rfl, rfl⟩, h6⟩
    refine ⟨⟨[], h6⟩, ?_⟩
    obtain ⟨r4, q4, H⟩ := bind_t H
    refine HJ.op (i := 5) rfl rfl rfl rfl rfl (op_call [] (sluicegateref01_In.spec q4) rfl rfl rfl h6 rfl gnil) ?_
    rintro _ w6 ⟨_, ⟨rfl, rfl⟩, h7⟩
    refine ⟨⟨[], h7⟩, ?_⟩
    refine HJ.run ttok rfl [6, 7] rfl ?_
    rcases Bool.eq_false_or_eq_true (r3 == r4) with c2 | c2
    · replace H := ite_t c2 H
      refine HJ.know (t := 20) rfl (congrArg Value.bool c2) ?_
      refine HJ.q (i := 8) rfl rfl rfl rfl rfl rfl (q_load_box ttok 1 (fun w e => e) rfl rfl rfl rfl rfl) ?_
      refine HJ.q (i := 10) rfl rfl rfl rfl rfl rfl (q_load_box ttok 1 (fun w e => e) rfl rfl rfl rfl rfl) ?_
      obtain ⟨r5, q5, H⟩ := bind_t H
      refine HJ.op (i := 9) rfl rfl rfl rfl rfl (op_call [] (lex_Empty.spec q5) rfl rfl rfl h7 rfl gnil) ?_
      rintro _ w7 ⟨_, ⟨rfl, rfl⟩, h8⟩
      refine ⟨⟨[], h8⟩, ?_⟩
      obtain ⟨r6, q6, H⟩ := bind_t H
      refine HJ.op (i := 11) rfl rfl rfl rfl rfl (op_call [] (sluicegateref01_Empty.spec q6) rfl rfl rfl h8 rfl gnil) ?_
      rintro _ w8 ⟨_, ⟨rfl, rfl⟩, h9⟩
      refine ⟨⟨[], h9⟩, ?_⟩
      refine HJ.run ttok rfl [12, 13, 14] rfl ?_
      rcases Bool.eq_false_or_eq_true (r5 == r6) with c3 | c3
      · replace H := ite_t c3 H
        refine HJ.know (t := 27) rfl (congrArg Value.bool c3) ?_
        refine HJ.run ttok rfl [16] rfl ?_
        obtain ⟨r7, q7, H⟩ := bind_t H
        refine HJ.op (i := 15) rfl rfl rfl rfl rfl (op_call [] (lex_All.spec q7) rfl rfl rfl h9 rfl gnil) ?_
        rintro _ w9 ⟨_, ⟨rfl, rfl⟩, h10⟩
        refine ⟨⟨[], h10⟩, ?_⟩
        obtain ⟨r8, q8, H⟩ := bind_t H
        refine HJ.op (i := 17) rfl rfl rfl rfl rfl (op_call [] (lex_In.spec q8) rfl rfl rfl h10 rfl gnil) ?_
        rintro _ w10 ⟨_, ⟨rfl, rfl⟩, h11⟩
        refine ⟨⟨[], h11⟩, ?_⟩
        refine HJ.run ttok rfl [18, 19] rfl ?_
        rcases Bool.eq_false_or_eq_true r8 with c4 | c4
        · replace H := ite_t c4 H
          refine HJ.know (t := 32) rfl (congrArg Value.bool c4) ?_
          refine HJ.q (i := 20) rfl rfl rfl rfl rfl rfl (q_load_box ttok 1 (fun w e => e) rfl rfl rfl rfl rfl) ?_
          obtain ⟨r9, q9, H⟩ := bind_t H
          refine HJ.op (i := 21) rfl rfl rfl rfl rfl (op_call [] (lex_Empty.spec q9) rfl rfl rfl h11 rfl gnil) ?_
          rintro _ w11 ⟨_, ⟨rfl, rfl⟩, h12⟩
          refine ⟨⟨[], h12⟩, ?_⟩
          refine HJ.run ttok rfl [22, 23] rfl ?_
          rcases Bool.eq_false_or_eq_true (!r9) with c5 | c5
          · replace H := ite_t c5 H
            refine HJ.know (t := 36) rfl (congrArg Value.bool c5) ?_
            refine HJ.run ttok rfl [24, 25, 26, 27, 28, 29, 30] rfl ?_
            obtain ⟨r10, q10, H⟩ := bind_t H
            refine HJ.op (i := 31) rfl rfl rfl rfl rfl (op_call [] (sluicegatelaw01_awake.spec q10) rfl rfl rfl h12 rfl gnil) ?_
            rintro _ w12 ⟨_, ⟨rfl, rfl⟩, h13⟩
            refine ⟨⟨[], h13⟩, ?_⟩
            refine HJ.run ttok rfl [32, 33] rfl ?_
            refine HJ.fin [(4, .bool r10)] rfl rfl ?_
            refine J.ret ?_
            obtain rfl := Option.some.inj H
            exact ⟨_, _, _, (results_slots rfl), ⟨rfl, rfl⟩, h13.only [] rfl⟩
          · replace H := ite_f c5 H
            refine HJ.know (t := 36) rfl (congrArg Value.bool c5) ?_
            refine HJ.run ttok rfl [25] rfl ?_
            refine HJ.q (i := 24) rfl rfl rfl rfl rfl rfl (q_load_box ttok 1 (fun w e => e) rfl rfl rfl rfl rfl) ?_
            obtain ⟨r11, q11, H⟩ := bind_t H
            refine HJ.op (i := 26) rfl rfl rfl rfl rfl (op_call [] (lex_In.spec q11) rfl rfl rfl h12 rfl gnil) ?_
            rintro _ w13 ⟨_, ⟨rfl, rfl⟩, h14⟩
            refine ⟨⟨[], h14⟩, ?_⟩
            refine HJ.run ttok rfl [27, 28, 29, 30] rfl ?_
            rcases Bool.eq_false_or_eq_true (!r11) with c6 | c6
            · replace H := ite_t c6 H
              refine HJ.know (t := 43) rfl (congrArg Value.bool c6) ?_
              obtain ⟨r12, q12, H⟩ := bind_t H
              refine HJ.op (i := 31) rfl rfl rfl rfl rfl (op_call [] (sluicegatelaw01_awake.spec q12) rfl rfl rfl h14 rfl gnil) ?_
              rintro _ w14 ⟨_, ⟨rfl, rfl⟩, h15⟩
              refine ⟨⟨[], h15⟩, ?_⟩
              refine HJ.run ttok rfl [32, 33] rfl ?_
              refine HJ.fin [(4, .bool r12)] rfl rfl ?_
              refine J.ret ?_
              obtain rfl := Option.some.inj H
              exact ⟨_, _, _, (results_slots rfl), ⟨rfl, rfl⟩, h15.only [] rfl⟩
            · replace H := ite_f c6 H
              refine HJ.know (t := 43) rfl (congrArg Value.bool c6) ?_
              refine HJ.run ttok rfl [31, 32, 33] rfl ?_
              refine HJ.fin [(4, .bool false)] rfl rfl ?_
              refine J.ret ?_
              obtain rfl := Option.some.inj H
              exact ⟨_, _, _, (results_slots rfl), ⟨rfl, rfl⟩, h14.only [] rfl⟩
        · replace H := ite_f c4 H
          refine HJ.know (t := 32) rfl (congrArg Value.bool c4) ?_
          refine HJ.run ttok rfl [20, 21, 22, 23, 24, 25, 26, 27, 28, 29, 30, 31, 32, 33] rfl ?_
          refine HJ.fin [(4, .bool false)] rfl rfl ?_
          refine J.ret ?_
          obtain rfl := Option.some.inj H
          exact ⟨_, _, _, (results_slots rfl), ⟨rfl, rfl⟩, h11.only [] rfl⟩
      · replace H := ite_f c3 H
        refine HJ.know (t := 27) rfl (congrArg Value.bool c3) ?_
        refine HJ.run ttok rfl [15, 16, 17, 18, 19, 20, 21, 22, 23, 24, 25, 26, 27, 28, 29, 30, 31, 32, 33] rfl ?_
        refine HJ.fin [(4, .bool false)] rfl rfl ?_
        refine J.ret ?_
        obtain rfl := Option.some.inj H
        exact ⟨_, _, _, (results_slots rfl), ⟨rfl, rfl⟩, h9.only [] rfl⟩
    · replace H := ite_f c2 H
      refine HJ.know (t := 20) rfl (congrArg Value.bool c2) ?_
      refine HJ.run ttok rfl [8, 9, 10, 11, 12, 13, 14, 15, 16, 17, 18, 19, 20, 21, 22, 23, 24, 25, 26, 27, 28, 29, 30, 31, 32, 33] rfl ?_
      refine HJ.fin [(4, .bool false)] rfl rfl ?_
      refine J.ret ?_
      obtain rfl := Option.some.inj H
      exact ⟨_, _, _, (results_slots rfl), ⟨rfl, rfl⟩, h7.only [] rfl⟩

end Go.SK.T
