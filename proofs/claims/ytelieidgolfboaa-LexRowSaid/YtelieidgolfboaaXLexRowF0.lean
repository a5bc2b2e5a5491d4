/- The types of the program, and its functions as the code computes them, each proved. -/
import Derived.Test.YtelieidgolfboaaKp
import Derived.Test.YtelieidgolfboaaProg
set_option linter.unusedVariables false
set_option linter.unusedSimpArgs false
namespace Go.SK.T
open Go Go.SK Go.Proofs
def tt : TT := [(1, ⟨.func, 1, 8, .nilFunc⟩),
  (2, ⟨.int .i64, 1, 8, .int .i64 0⟩),
  (3, ⟨.int .i64, 1, 8, .int .i64 0⟩),
  (4, ⟨.bool, 1, 1, .bool false⟩),
  (5, ⟨.int .u8, 1, 1, .int .u8 0⟩),
  (6, ⟨.int .u8, 1, 1, .int .u8 0⟩),
  (9, ⟨.str, 1, 16, .string ⟨⟨[]⟩⟩⟩),
  (10, ⟨.str, 1, 16, .string ⟨⟨[]⟩⟩⟩),
  (11, ⟨.str, 1, 16, .string ⟨⟨[]⟩⟩⟩),
  (12, ⟨.int .u64, 1, 8, .int .u64 0⟩),
  (15, ⟨.ptr 78, 1, 8, .pointer none⟩),
  (16, ⟨.ptr 81, 1, 8, .pointer none⟩),
  (17, ⟨.ptr 91, 1, 8, .pointer none⟩),
  (20, ⟨.iface, 1, 16, .nilIface⟩),
  (21, ⟨.int .i32, 1, 4, .int .i32 0⟩),
  (22, ⟨.struct [(9, 0, 1), (9, 1, 1), (4, 2, 1)], 3, 40, .agg #[.string ⟨⟨[]⟩⟩, .string ⟨⟨[]⟩⟩, .bool false]⟩),
  (23, ⟨.struct [(9, 0, 1), (9, 1, 1), (4, 2, 1)], 3, 40, .agg #[.string ⟨⟨[]⟩⟩, .string ⟨⟨[]⟩⟩, .bool false]⟩),
  (24, ⟨.func, 1, 8, .nilFunc⟩),
  (25, ⟨.func, 1, 8, .nilFunc⟩),
  (26, ⟨.func, 1, 8, .nilFunc⟩),
  (27, ⟨.func, 1, 8, .nilFunc⟩),
  (28, ⟨.func, 1, 8, .nilFunc⟩),
  (30, ⟨.func, 1, 8, .nilFunc⟩),
  (31, ⟨.func, 1, 8, .nilFunc⟩),
  (32, ⟨.func, 1, 8, .nilFunc⟩),
  (34, ⟨.func, 1, 8, .nilFunc⟩),
  (35, ⟨.func, 1, 8, .nilFunc⟩),
  (36, ⟨.func, 1, 8, .nilFunc⟩),
  (37, ⟨.func, 1, 8, .nilFunc⟩),
  (38, ⟨.slice 55, 1, 24, .slice none 0 0⟩),
  (39, ⟨.func, 1, 8, .nilFunc⟩),
  (40, ⟨.func, 1, 8, .nilFunc⟩),
  (41, ⟨.func, 1, 8, .nilFunc⟩),
  (42, ⟨.slice 9, 1, 24, .slice none 0 0⟩),
  (43, ⟨.func, 1, 8, .nilFunc⟩),
  (44, ⟨.func, 1, 8, .nilFunc⟩),
  (45, ⟨.func, 1, 8, .nilFunc⟩),
  (46, ⟨.func, 1, 8, .nilFunc⟩),
  (47, ⟨.func, 1, 8, .nilFunc⟩),
  (48, ⟨.func, 1, 8, .nilFunc⟩),
  (50, ⟨.func, 1, 8, .nilFunc⟩),
  (51, ⟨.func, 1, 8, .nilFunc⟩),
  (52, ⟨.func, 1, 8, .nilFunc⟩),
  (53, ⟨.func, 1, 8, .nilFunc⟩),
  (54, ⟨.struct [(9, 0, 1), (4, 1, 1), (9, 2, 1)], 3, 40, .agg #[.string ⟨⟨[]⟩⟩, .bool false, .string ⟨⟨[]⟩⟩]⟩),
  (55, ⟨.struct [(9, 0, 1), (4, 1, 1), (9, 2, 1)], 3, 40, .agg #[.string ⟨⟨[]⟩⟩, .bool false, .string ⟨⟨[]⟩⟩]⟩),
  (57, ⟨.func, 1, 8, .nilFunc⟩),
  (58, ⟨.func, 1, 8, .nilFunc⟩),
  (59, ⟨.func, 1, 8, .nilFunc⟩),
  (60, ⟨.func, 1, 8, .nilFunc⟩),
  (61, ⟨.func, 1, 8, .nilFunc⟩),
  (62, ⟨.slice 38, 1, 24, .slice none 0 0⟩),
  (64, ⟨.func, 1, 8, .nilFunc⟩),
  (66, ⟨.func, 1, 8, .nilFunc⟩),
  (67, ⟨.func, 1, 8, .nilFunc⟩),
  (68, ⟨.func, 1, 8, .nilFunc⟩),
  (69, ⟨.func, 1, 8, .nilFunc⟩),
  (70, ⟨.func, 1, 8, .nilFunc⟩),
  (71, ⟨.func, 1, 8, .nilFunc⟩),
  (72, ⟨.int .u64, 1, 8, .int .u64 0⟩),
  (73, ⟨.func, 1, 8, .nilFunc⟩),
  (74, ⟨.func, 1, 8, .nilFunc⟩),
  (75, ⟨.func, 1, 8, .nilFunc⟩),
  (76, ⟨.func, 1, 8, .nilFunc⟩),
  (82, ⟨.func, 1, 8, .nilFunc⟩),
  (83, ⟨.int .u32, 1, 4, .int .u32 0⟩),
  (84, ⟨.int .u8, 1, 1, .int .u8 0⟩),
  (85, ⟨.int .u8, 1, 1, .int .u8 0⟩),
  (86, ⟨.func, 1, 8, .nilFunc⟩),
  (87, ⟨.ptr 5, 1, 8, .pointer none⟩),
  (88, ⟨.int .i32, 1, 4, .int .i32 0⟩),
  (89, ⟨.int .i32, 1, 4, .int .i32 0⟩)]
theorem ttok : TTok Try.prog tt := by
  refine ttok_cons ⟨by kernel_rfl, ⟨_, _, _, Try.underlying1⟩⟩ ?_
  refine ttok_cons ⟨by kernel_rfl, Try.underlying2⟩ ?_
  refine ttok_cons ⟨by kernel_rfl, Try.underlying3⟩ ?_
  refine ttok_cons ⟨by kernel_rfl, Try.underlying4⟩ ?_
  refine ttok_cons ⟨by kernel_rfl, Try.underlying5⟩ ?_
  refine ttok_cons ⟨by kernel_rfl, Try.underlying6⟩ ?_
  refine ttok_cons ⟨by kernel_rfl, Try.underlying9⟩ ?_
  refine ttok_cons ⟨by kernel_rfl, Try.underlying10⟩ ?_
  refine ttok_cons ⟨by kernel_rfl, Try.underlying11⟩ ?_
  refine ttok_cons ⟨by kernel_rfl, Try.underlying12⟩ ?_
  refine ttok_cons ⟨by kernel_rfl, Try.underlying15⟩ ?_
  refine ttok_cons ⟨by kernel_rfl, Try.underlying16⟩ ?_
  refine ttok_cons ⟨by kernel_rfl, Try.underlying17⟩ ?_
  refine ttok_cons ⟨by kernel_rfl, ⟨_, Try.underlying20⟩⟩ ?_
  refine ttok_cons ⟨by kernel_rfl, Try.underlying21⟩ ?_
  refine ttok_cons ⟨by kernel_rfl, ⟨_, Try.underlying22, by kernel_rfl, by kernel_rfl, by kernel_rfl, by kernel_rfl, by kernel_rfl, by kernel_rfl⟩⟩ ?_
  refine ttok_cons ⟨by kernel_rfl, ⟨_, Try.underlying23, by kernel_rfl, by kernel_rfl, by kernel_rfl, by kernel_rfl, by kernel_rfl, by kernel_rfl⟩⟩ ?_
  refine ttok_cons ⟨by kernel_rfl, ⟨_, _, _, Try.underlying24⟩⟩ ?_
  refine ttok_cons ⟨by kernel_rfl, ⟨_, _, _, Try.underlying25⟩⟩ ?_
  refine ttok_cons ⟨by kernel_rfl, ⟨_, _, _, Try.underlying26⟩⟩ ?_
  refine ttok_cons ⟨by kernel_rfl, ⟨_, _, _, Try.underlying27⟩⟩ ?_
  refine ttok_cons ⟨by kernel_rfl, ⟨_, _, _, Try.underlying28⟩⟩ ?_
  refine ttok_cons ⟨by kernel_rfl, ⟨_, _, _, Try.underlying30⟩⟩ ?_
  refine ttok_cons ⟨by kernel_rfl, ⟨_, _, _, Try.underlying31⟩⟩ ?_
  refine ttok_cons ⟨by kernel_rfl, ⟨_, _, _, Try.underlying32⟩⟩ ?_
  refine ttok_cons ⟨by kernel_rfl, ⟨_, _, _, Try.underlying34⟩⟩ ?_
  refine ttok_cons ⟨by kernel_rfl, ⟨_, _, _, Try.underlying35⟩⟩ ?_
  refine ttok_cons ⟨by kernel_rfl, ⟨_, _, _, Try.underlying36⟩⟩ ?_
  refine ttok_cons ⟨by kernel_rfl, ⟨_, _, _, Try.underlying37⟩⟩ ?_
  refine ttok_cons ⟨by kernel_rfl, Try.underlying38⟩ ?_
  refine ttok_cons ⟨by kernel_rfl, ⟨_, _, _, Try.underlying39⟩⟩ ?_
  refine ttok_cons ⟨by kernel_rfl, ⟨_, _, _, Try.underlying40⟩⟩ ?_
  refine ttok_cons ⟨by kernel_rfl, ⟨_, _, _, Try.underlying41⟩⟩ ?_
  refine ttok_cons ⟨by kernel_rfl, Try.underlying42⟩ ?_
  refine ttok_cons ⟨by kernel_rfl, ⟨_, _, _, Try.underlying43⟩⟩ ?_
  refine ttok_cons ⟨by kernel_rfl, ⟨_, _, _, Try.underlying44⟩⟩ ?_
  refine ttok_cons ⟨by kernel_rfl, ⟨_, _, _, Try.underlying45⟩⟩ ?_
  refine ttok_cons ⟨by kernel_rfl, ⟨_, _, _, Try.underlying46⟩⟩ ?_
  refine ttok_cons ⟨by kernel_rfl, ⟨_, _, _, Try.underlying47⟩⟩ ?_
  refine ttok_cons ⟨by kernel_rfl, ⟨_, _, _, Try.underlying48⟩⟩ ?_
  refine ttok_cons ⟨by kernel_rfl, ⟨_, _, _, Try.underlying50⟩⟩ ?_
  refine ttok_cons ⟨by kernel_rfl, ⟨_, _, _, Try.underlying51⟩⟩ ?_
  refine ttok_cons ⟨by kernel_rfl, ⟨_, _, _, Try.underlying52⟩⟩ ?_
  refine ttok_cons ⟨by kernel_rfl, ⟨_, _, _, Try.underlying53⟩⟩ ?_
  refine ttok_cons ⟨by kernel_rfl, ⟨_, Try.underlying54, by kernel_rfl, by kernel_rfl, by kernel_rfl, by kernel_rfl, by kernel_rfl, by kernel_rfl⟩⟩ ?_
  refine ttok_cons ⟨by kernel_rfl, ⟨_, Try.underlying55, by kernel_rfl, by kernel_rfl, by kernel_rfl, by kernel_rfl, by kernel_rfl, by kernel_rfl⟩⟩ ?_
  refine ttok_cons ⟨by kernel_rfl, ⟨_, _, _, Try.underlying57⟩⟩ ?_
  refine ttok_cons ⟨by kernel_rfl, ⟨_, _, _, Try.underlying58⟩⟩ ?_
  refine ttok_cons ⟨by kernel_rfl, ⟨_, _, _, Try.underlying59⟩⟩ ?_
  refine ttok_cons ⟨by kernel_rfl, ⟨_, _, _, Try.underlying60⟩⟩ ?_
  refine ttok_cons ⟨by kernel_rfl, ⟨_, _, _, Try.underlying61⟩⟩ ?_
  refine ttok_cons ⟨by kernel_rfl, Try.underlying62⟩ ?_
  refine ttok_cons ⟨by kernel_rfl, ⟨_, _, _, Try.underlying64⟩⟩ ?_
  refine ttok_cons ⟨by kernel_rfl, ⟨_, _, _, Try.underlying66⟩⟩ ?_
  refine ttok_cons ⟨by kernel_rfl, ⟨_, _, _, Try.underlying67⟩⟩ ?_
  refine ttok_cons ⟨by kernel_rfl, ⟨_, _, _, Try.underlying68⟩⟩ ?_
  refine ttok_cons ⟨by kernel_rfl, ⟨_, _, _, Try.underlying69⟩⟩ ?_
  refine ttok_cons ⟨by kernel_rfl, ⟨_, _, _, Try.underlying70⟩⟩ ?_
  refine ttok_cons ⟨by kernel_rfl, ⟨_, _, _, Try.underlying71⟩⟩ ?_
  refine ttok_cons ⟨by kernel_rfl, Try.underlying72⟩ ?_
  refine ttok_cons ⟨by kernel_rfl, ⟨_, _, _, Try.underlying73⟩⟩ ?_
  refine ttok_cons ⟨by kernel_rfl, ⟨_, _, _, Try.underlying74⟩⟩ ?_
  refine ttok_cons ⟨by kernel_rfl, ⟨_, _, _, Try.underlying75⟩⟩ ?_
  refine ttok_cons ⟨by kernel_rfl, ⟨_, _, _, Try.underlying76⟩⟩ ?_
  refine ttok_cons ⟨by kernel_rfl, ⟨_, _, _, Try.underlying82⟩⟩ ?_
  refine ttok_cons ⟨by kernel_rfl, Try.underlying83⟩ ?_
  refine ttok_cons ⟨by kernel_rfl, Try.underlying84⟩ ?_
  refine ttok_cons ⟨by kernel_rfl, Try.underlying85⟩ ?_
  refine ttok_cons ⟨by kernel_rfl, ⟨_, _, _, Try.underlying86⟩⟩ ?_
  refine ttok_cons ⟨by kernel_rfl, Try.underlying87⟩ ?_
  refine ttok_cons ⟨by kernel_rfl, Try.underlying88⟩ ?_
  refine ttok_cons ⟨by kernel_rfl, Try.underlying89⟩ ?_
  exact ttok_nil _
theorem mix : Try.prog.follows .mixedOrders = true := by kernel_rfl
theorem cmpstr : CmpStr Try.prog 67 := CmpStr.of Try.func67 (by kernel_rfl) (by kernel_rfl) (by kernel_rfl) rfl
/-! internal/bytealg.CompareString -/
def bytealg_CompareString.f (a0 : List UInt8) (a1 : List UInt8) : Option (Int) := some (scmp a0 a1)
set_option maxRecDepth 20000 in
theorem bytealg_CompareString.spec {a0 : List UInt8} {a1 : List UInt8}  {r : Int} (H : bytealg_CompareString.f a0 a1 = some r) :
    Spec Try.prog 63 [.string ⟨⟨a0⟩⟩, .string ⟨⟨a1⟩⟩] [] [] (fun v l => v = .int .i64 r ∧ l = []) := by
  refine Spec.enter Try.func63 rfl (by kernel_rfl) (by kernel_rfl) fun w0 F0 h0 => ?_
  unfold bytealg_CompareString.f at H
  refine J.seq ?_
  refine J.region ?_
  refine RJ.run ttok 1 rfl ?_
  refine RJ.fin [(0, .string ⟨⟨a0⟩⟩), (1, .string ⟨⟨a1⟩⟩)] rfl ?_
  refine J.seq ?_
  refine J.region ?_
  refine RJ.run ttok 2 rfl ?_
  refine RJ.q rfl rfl (q_cmpstr cmpstr rfl rfl rfl) ?_
  refine RJ.run ttok 1 rfl ?_
  refine RJ.fin [(4, .int .i64 (scmp a0 a1))] rfl ?_
  refine J.ret ?_
  obtain rfl := Option.some.inj H
  exact ⟨_, _, _, (results_slots rfl), ⟨rfl, rfl⟩, h0.only [] rfl⟩

/-! strings.Compare -/
def strings_Compare.f (a0 : List UInt8) (a1 : List UInt8) : Option (Int) := (bytealg_CompareString.f a0 a1).bind fun r1 => (some r1)
set_option maxRecDepth 20000 in
theorem strings_Compare.spec {a0 : List UInt8} {a1 : List UInt8}  {r : Int} (H : strings_Compare.f a0 a1 = some r) :
    Spec Try.prog 54 [.string ⟨⟨a0⟩⟩, .string ⟨⟨a1⟩⟩] [] [] (fun v l => v = .int .i64 r ∧ l = []) := by
  refine Spec.enter Try.func54 rfl (by kernel_rfl) (by kernel_rfl) fun w0 F0 h0 => ?_
  unfold strings_Compare.f at H
  refine J.seq ?_
  refine J.region ?_
  refine RJ.run ttok 1 rfl ?_
  refine RJ.fin [(0, .string ⟨⟨a0⟩⟩), (1, .string ⟨⟨a1⟩⟩)] rfl ?_
  refine J.seq ?_
  refine J.region ?_
  refine RJ.run ttok 2 rfl ?_
  obtain ⟨r1, q1, H⟩ := bind_t H
  refine RJ.op rfl rfl (op_call [] (bytealg_CompareString.spec q1) rfl rfl rfl h0 rfl gnil) ?_
  rintro _ w1 ⟨_, ⟨rfl, rfl⟩, h1⟩
  refine RJ.run ttok 1 rfl ?_
  refine RJ.fin [(4, .int .i64 r1)] rfl ?_
  refine J.ret ?_
  obtain rfl := Option.some.inj H
  exact ⟨_, _, _, (results_slots rfl), ⟨rfl, rfl⟩, h1.only [] rfl⟩

/-! sluicegate/lex.Compare -/
def lex_Compare.f (a0 : List UInt8) (a1 : List UInt8) : Option (Int) := (strings_Compare.f a0 a1).bind fun r1 => (some r1)
set_option maxRecDepth 20000 in
theorem lex_Compare.spec {a0 : List UInt8} {a1 : List UInt8}  {r : Int} (H : lex_Compare.f a0 a1 = some r) :
    Spec Try.prog 24 [.string ⟨⟨a0⟩⟩, .string ⟨⟨a1⟩⟩] [] [] (fun v l => v = .int .i64 r ∧ l = []) := by
  refine Spec.enter Try.func24 rfl (by kernel_rfl) (by kernel_rfl) fun w0 F0 h0 => ?_
  unfold lex_Compare.f at H
  refine J.seq ?_
  refine J.region ?_
  refine RJ.run ttok 1 rfl ?_
  refine RJ.fin [(0, .string ⟨⟨a0⟩⟩), (1, .string ⟨⟨a1⟩⟩)] rfl ?_
  refine J.seq ?_
  refine J.region ?_
  refine RJ.run ttok 2 rfl ?_
  obtain ⟨r1, q1, H⟩ := bind_t H
  refine RJ.op rfl rfl (op_call [] (strings_Compare.spec q1) rfl rfl rfl h0 rfl gnil) ?_
  rintro _ w1 ⟨_, ⟨rfl, rfl⟩, h1⟩
  refine RJ.run ttok 1 rfl ?_
  refine RJ.fin [(4, .int .i64 r1)] rfl ?_
  refine J.ret ?_
  obtain rfl := Option.some.inj H
  exact ⟨_, _, _, (results_slots rfl), ⟨rfl, rfl⟩, h1.only [] rfl⟩

/-! sluicegate/lex.Next -/
def lex_Next.f (a0 : List UInt8) : Option (List UInt8) := if a0.length + ([0] : List UInt8).length ≤ 9223372036854775807 then (some (a0 ++ ([0] : List UInt8))) else none
set_option maxRecDepth 20000 in
theorem lex_Next.spec {a0 : List UInt8}  {r : List UInt8} (H : lex_Next.f a0 = some r) :
    Spec Try.prog 27 [.string ⟨⟨a0⟩⟩] [] [] (fun v l => v = .string ⟨⟨r⟩⟩ ∧ l = []) := by
  refine Spec.enter Try.func27 rfl (by kernel_rfl) (by kernel_rfl) fun w0 F0 h0 => ?_
  unfold lex_Next.f at H
  refine J.seq ?_
  refine J.region ?_
  refine RJ.run ttok 1 rfl ?_
  refine RJ.fin [(0, .string ⟨⟨a0⟩⟩)] rfl ?_
  refine J.seq ?_
  refine J.region ?_
  refine RJ.run ttok 1 rfl ?_
  obtain ⟨p1, H⟩ := guard_t H
  refine RJ.q rfl rfl (q_concat rfl rfl rfl p1) ?_
  refine RJ.run ttok 1 rfl ?_
  refine RJ.fin [(2, .string ⟨⟨(a0 ++ ([0] : List UInt8))⟩⟩)] rfl ?_
  refine J.ret ?_
  obtain rfl := Option.some.inj H
  exact ⟨_, _, _, (results_slots rfl), ⟨rfl, rfl⟩, h0.only [] rfl⟩

/-! sluicegate/lex.Shared -/
def lex_Shared.l0 : Nat → (List UInt8) → (List UInt8) → (Int) → Option (Int)
  | 0, _, _, _ => none
  | k + 1, a0, a1, x1 => if (decide (x1 < (if (a1.length : Int) < (a0.length : Int) then (a1.length : Int) else (a0.length : Int)))) = true then (if 0 ≤ x1 ∧ x1 < (a0.length : Int) then (if 0 ≤ x1 ∧ x1 < (a1.length : Int) then (if (!decide ((gtb a0 x1) = (gtb a1 x1))) = true then (some x1) else (lex_Shared.l0 k a0 a1 (w64 (x1 + 1)))) else none) else none) else (some (if (a1.length : Int) < (a0.length : Int) then (a1.length : Int) else (a0.length : Int)))
def lex_Shared.f (k : Nat) (a0 : List UInt8) (a1 : List UInt8) : Option (Int) := lex_Shared.l0 k a0 a1 0
set_option maxRecDepth 20000 in
theorem lex_Shared.spec {k : Nat} {a0 : List UInt8} {a1 : List UInt8}  {r : Int} (H : lex_Shared.f k a0 a1 = some r) :
    Spec Try.prog 25 [.string ⟨⟨a0⟩⟩, .string ⟨⟨a1⟩⟩] [] [] (fun v l => v = .int .i64 r ∧ l = []) := by
  refine Spec.enter Try.func25 rfl (by kernel_rfl) (by kernel_rfl) fun w0 F0 h0 => ?_
  unfold lex_Shared.f at H
  refine J.seq ?_
  refine J.region ?_
  refine RJ.run ttok 1 rfl ?_
  refine RJ.fin [(0, .string ⟨⟨a0⟩⟩), (1, .string ⟨⟨a1⟩⟩)] rfl ?_
  refine J.seq ?_
  refine J.region ?_
  refine RJ.run ttok 6 rfl ?_
  refine RJ.fin [(0, .string ⟨⟨a0⟩⟩), (1, .string ⟨⟨a1⟩⟩), (5, .int .i64 (if (a1.length : Int) < (a0.length : Int) then (a1.length : Int) else (a0.length : Int)))] rfl ?_
  refine J.seq ?_
  refine J.seq ?_
  refine J.region ?_
  refine RJ.run ttok 2 rfl ?_
  refine RJ.fin [(0, .string ⟨⟨a0⟩⟩), (1, .string ⟨⟨a1⟩⟩), (5, .int .i64 (if (a1.length : Int) < (a0.length : Int) then (a1.length : Int) else (a0.length : Int))), (12, .int .i64 (if (a1.length : Int) < (a0.length : Int) then (a1.length : Int) else (a0.length : Int))), (13, .int .i64 0)] rfl ?_
  refine J.block ?_
  have h4 := ((h0.only [] rfl).rds [] rfl)
  refine J.loop (fun k env w => ∃ (x1 : Int), env = [(0, .string ⟨⟨a0⟩⟩), (1, .string ⟨⟨a1⟩⟩), (5, .int .i64 (if (a1.length : Int) < (a0.length : Int) then (a1.length : Int) else (a0.length : Int))), (12, .int .i64 (if (a1.length : Int) < (a0.length : Int) then (a1.length : Int) else (a0.length : Int))), (13, .int .i64 x1)] ∧ St w0 F0 [] [] w ∧ lex_Shared.l0 k a0 a1 x1 = some r) (k := k) ⟨0, rfl, h4, H⟩ ?_
  rintro k env w1 ⟨x1, rfl, h1, H⟩
  cases k with
  | zero => exact nomatch (show none = some r from H)
  | succ k =>
    rw [lex_Shared.l0] at H
    refine J.seq ?_
    refine J.region ?_
    refine RJ.run ttok 1 rfl ?_
    refine RJ.fin [(0, .string ⟨⟨a0⟩⟩), (1, .string ⟨⟨a1⟩⟩), (5, .int .i64 (if (a1.length : Int) < (a0.length : Int) then (a1.length : Int) else (a0.length : Int))), (12, .int .i64 (if (a1.length : Int) < (a0.length : Int) then (a1.length : Int) else (a0.length : Int))), (13, .int .i64 x1), (14, .bool (decide (x1 < (if (a1.length : Int) < (a0.length : Int) then (a1.length : Int) else (a0.length : Int)))))] rfl ?_
    refine J.seq ?_
    refine J.cond rfl (fun c1 => ?_) (fun c1 => ?_)
    · replace H := ite_t c1 H
      refine J.skip ?_
      refine J.seq ?_
      refine J.block ?_
      refine J.seq ?_
      refine J.region ?_
      refine RJ.run ttok 2 rfl ?_
      refine RJ.fin [(0, .string ⟨⟨a0⟩⟩), (1, .string ⟨⟨a1⟩⟩), (5, .int .i64 (if (a1.length : Int) < (a0.length : Int) then (a1.length : Int) else (a0.length : Int))), (6, .int .i64 x1), (12, .int .i64 (if (a1.length : Int) < (a0.length : Int) then (a1.length : Int) else (a0.length : Int))), (13, .int .i64 x1)] rfl ?_
      refine J.seq ?_
      refine J.heldSt mix h1 ?_
      have h2 := h1.drew
      refine HJ.run ttok rfl [0, 1, 3, 4] rfl ?_
      obtain ⟨⟨p1, p2⟩, H⟩ := guard_t H
      refine HJ.q (i := 2) rfl rfl rfl rfl rfl rfl (q_byte ttok rfl rfl rfl rfl p1 p2) ?_
      obtain ⟨⟨p3, p4⟩, H⟩ := guard_t H
      refine HJ.q (i := 5) rfl rfl rfl rfl rfl rfl (q_byte ttok rfl rfl rfl rfl p3 p4) ?_
      refine HJ.run ttok rfl [6] rfl ?_
      refine HJ.fin [(0, .string ⟨⟨a0⟩⟩), (1, .string ⟨⟨a1⟩⟩), (5, .int .i64 (if (a1.length : Int) < (a0.length : Int) then (a1.length : Int) else (a0.length : Int))), (6, .int .i64 x1), (12, .int .i64 (if (a1.length : Int) < (a0.length : Int) then (a1.length : Int) else (a0.length : Int))), (13, .int .i64 x1), (22, .bool (!decide ((gtb a0 x1) = (gtb a1 x1))))] rfl rfl ?_
      refine J.cond rfl (fun c2 => ?_) (fun c2 => ?_)
      · replace H := ite_t c2 H
        refine J.seq ?_
        refine J.region ?_
        refine RJ.run ttok 2 rfl ?_
        refine RJ.fin [(4, .int .i64 x1)] rfl ?_
        refine J.ret ?_
        obtain rfl := Option.some.inj H
        exact ⟨_, _, _, (results_slots rfl), ⟨rfl, rfl⟩, h2.only [] rfl⟩
      · replace H := ite_f c2 H
        refine J.skip ?_
        refine J.region ?_
        refine RJ.run ttok 2 rfl ?_
        refine RJ.fin [(0, .string ⟨⟨a0⟩⟩), (1, .string ⟨⟨a1⟩⟩), (5, .int .i64 (if (a1.length : Int) < (a0.length : Int) then (a1.length : Int) else (a0.length : Int))), (12, .int .i64 (if (a1.length : Int) < (a0.length : Int) then (a1.length : Int) else (a0.length : Int))), (13, .int .i64 (w64 (x1 + 1)))] rfl ?_
        have h3 := ((h2.only [] rfl).rds [] rfl)
        exact ⟨k, Nat.lt_succ_self k, (w64 (x1 + 1)), rfl, h3, H⟩
    · replace H := ite_f c1 H
      refine J.exit ?_
      refine J.seq ?_
      refine J.region ?_
      refine RJ.run ttok 2 rfl ?_
      refine RJ.fin [(4, .int .i64 (if (a1.length : Int) < (a0.length : Int) then (a1.length : Int) else (a0.length : Int)))] rfl ?_
      refine J.ret ?_
      obtain rfl := Option.some.inj H
      exact ⟨_, _, _, (results_slots rfl), ⟨rfl, rfl⟩, h1.only [] rfl⟩

/-! sluicegate/lex.Cut -/
def lex_Cut.f (k : Nat) (a0 : List UInt8) (a1 : List UInt8) : Option (List UInt8 × Bool) := if (!Op.bytesLess a0 a1) = true then (some (([] : List UInt8), false)) else ((lex_Shared.f k a0 a1).bind fun r1 => (if (0 : Int) ≤ (w64 (r1 + 1)) ∧ (w64 (r1 + 1)) ≤ (a1.length : Int) then (some ((a1.take ((w64 (r1 + 1))).toNat), true)) else none))
set_option maxRecDepth 20000 in
theorem lex_Cut.spec {k : Nat} {a0 : List UInt8} {a1 : List UInt8}  {r : List UInt8 × Bool} (H : lex_Cut.f k a0 a1 = some r) :
    Spec Try.prog 22 [.string ⟨⟨a0⟩⟩, .string ⟨⟨a1⟩⟩] [] [] (fun v l => v = .tuple #[.string ⟨⟨r.1⟩⟩, .bool r.2] ∧ l = []) := by
  refine Spec.enter Try.func22 rfl (by kernel_rfl) (by kernel_rfl) fun w0 F0 h0 => ?_
  unfold lex_Cut.f at H
  refine J.seq ?_
  refine J.region ?_
  refine RJ.run ttok 2 rfl ?_
  refine RJ.fin [(0, .string ⟨⟨a0⟩⟩), (1, .string ⟨⟨a1⟩⟩)] rfl ?_
  refine J.seq ?_
  refine J.seq ?_
  refine J.region ?_
  refine RJ.run ttok 3 rfl ?_
  refine RJ.fin [(0, .string ⟨⟨a0⟩⟩), (1, .string ⟨⟨a1⟩⟩), (8, .bool (!Op.bytesLess a0 a1))] rfl ?_
  refine J.cond rfl (fun c1 => ?_) (fun c1 => ?_)
  · replace H := ite_t c1 H
    refine J.seq ?_
    refine J.region ?_
    refine RJ.run ttok 2 rfl ?_
    refine RJ.fin [(4, .string ⟨⟨([] : List UInt8)⟩⟩), (5, .bool false)] rfl ?_
    refine J.ret ?_
    obtain rfl := Option.some.inj H
    exact ⟨_, _, _, (results_slots rfl), ⟨rfl, rfl⟩, h0.only [] rfl⟩
  · replace H := ite_f c1 H
    refine J.skip ?_
    refine J.seq ?_
    refine J.region ?_
    refine RJ.run ttok 3 rfl ?_
    obtain ⟨r1, q1, H⟩ := bind_t H
    refine RJ.op rfl rfl (op_call [] (lex_Shared.spec q1) rfl rfl rfl h0 rfl gnil) ?_
    rintro _ w1 ⟨_, ⟨rfl, rfl⟩, h1⟩
    refine RJ.run ttok 1 rfl ?_
    obtain ⟨⟨p1, p2⟩, H⟩ := guard_t H
    refine RJ.q rfl rfl (q_strcut (l := 0) (h := (w64 (r1 + 1))) ttok rfl rfl rfl rfl ⟨_, rfl⟩ (by decide) p1 p2 (cut_upto _ _)) ?_
    refine RJ.run ttok 2 rfl ?_
    refine RJ.fin [(4, .string ⟨⟨(a1.take ((w64 (r1 + 1))).toNat)⟩⟩), (5, .bool true)] rfl ?_
    refine J.ret ?_
    obtain rfl := Option.some.inj H
    exact ⟨_, _, _, (results_slots rfl), ⟨rfl, rfl⟩, h1.only [] rfl⟩

/-! sluicegate/lex.Empty -/
def lex_Empty.f (a0 : List UInt8 × List UInt8 × Bool) : Option (Bool) := if (!a0.2.2) = true then (some (Op.bytesLess a0.2.1 a0.1 || decide (a0.2.1 = a0.1))) else (some false)
set_option maxRecDepth 20000 in
theorem lex_Empty.spec {a0 : List UInt8 × List UInt8 × Bool}  {r : Bool} (H : lex_Empty.f a0 = some r) :
    Spec Try.prog 17 [.agg #[.string ⟨⟨a0.1⟩⟩, .string ⟨⟨a0.2.1⟩⟩, .bool a0.2.2]] [] [] (fun v l => v = .bool r ∧ l = []) := by
  refine Spec.enter Try.func17 rfl (by kernel_rfl) (by kernel_rfl) fun w0 F0 h0 => ?_
  unfold lex_Empty.f at H
  refine J.seq ?_
  refine J.region ?_
  refine RJ.op rfl rfl (op_box rfl rfl h0) ?_
  rintro _ w1 ⟨b1, rfl, h1⟩
  refine RJ.run ttok 1 rfl ?_
  refine RJ.fin [(1, .pointer (some ⟨b1, 0, none⟩))] rfl ?_
  refine J.seq ?_
  refine J.region ?_
  refine RJ.run ttok 1 rfl ?_
  refine RJ.q rfl rfl (q_load_box ttok 0 (fun w e => e ▸ h1.wh) rfl rfl rfl rfl rfl) ?_
  refine RJ.run ttok 2 rfl ?_
  rcases Bool.eq_false_or_eq_true (!a0.2.2) with c1 | c1
  · replace H := ite_t c1 H
    refine RJ.know (t := 6) rfl (congrArg Value.bool c1) ?_
    refine RJ.run ttok 1 rfl ?_
    refine RJ.q rfl rfl (q_load_box ttok 0 (fun w e => e ▸ h1.wh) rfl rfl rfl rfl rfl) ?_
    refine RJ.run ttok 1 rfl ?_
    refine RJ.q rfl rfl (q_load_box ttok 0 (fun w e => e ▸ h1.wh) rfl rfl rfl rfl rfl) ?_
    refine RJ.run ttok 3 rfl ?_
    refine RJ.fin [(2, .bool (Op.bytesLess a0.2.1 a0.1 || decide (a0.2.1 = a0.1)))] rfl ?_
    refine J.ret ?_
    obtain rfl := Option.some.inj H
    exact ⟨_, _, _, (results_slots rfl), ⟨rfl, rfl⟩, h1.only [] rfl⟩
  · replace H := ite_f c1 H
    refine RJ.know (t := 6) rfl (congrArg Value.bool c1) ?_
    refine RJ.run ttok 7 rfl ?_
    refine RJ.fin [(2, .bool false)] rfl ?_
    refine J.ret ?_
    obtain rfl := Option.some.inj H
    exact ⟨_, _, _, (results_slots rfl), ⟨rfl, rfl⟩, h1.only [] rfl⟩

/-! sluicegate/lex.Meet -/
def lex_Meet.f (a0 : List UInt8 × List UInt8 × Bool) (a1 : List UInt8 × List UInt8 × Bool) : Option ((List UInt8 × List UInt8 × Bool) × Bool) := if a0.2.2 = true then (if (!a1.2.2) = true then ((lex_Empty.f ((if (!Op.bytesLess a0.1 a1.1) = true then a0.1 else a1.1), a1.2.1, a1.2.2)).bind fun r1 => (if r1 = true then (some ((([] : List UInt8), ([] : List UInt8), false), false)) else (some (((if (!Op.bytesLess a0.1 a1.1) = true then a0.1 else a1.1), a1.2.1, a1.2.2), true)))) else (if a1.2.2 = true then (if (!a0.2.2) = true then ((lex_Empty.f ((if (!Op.bytesLess a0.1 a1.1) = true then a0.1 else a1.1), a0.2.1, a1.2.2)).bind fun r2 => (if r2 = true then (some ((([] : List UInt8), ([] : List UInt8), false), false)) else (some (((if (!Op.bytesLess a0.1 a1.1) = true then a0.1 else a1.1), a0.2.1, a1.2.2), true)))) else ((lex_Empty.f ((if (!Op.bytesLess a0.1 a1.1) = true then a0.1 else a1.1), ([] : List UInt8), a1.2.2)).bind fun r3 => (if r3 = true then (some ((([] : List UInt8), ([] : List UInt8), false), false)) else (some (((if (!Op.bytesLess a0.1 a1.1) = true then a0.1 else a1.1), ([] : List UInt8), a1.2.2), true))))) else (if (!a0.2.2) = true then ((lex_Empty.f ((if (!Op.bytesLess a0.1 a1.1) = true then a0.1 else a1.1), (if (Op.bytesLess a0.2.1 a1.2.1 || decide (a0.2.1 = a1.2.1)) = true then a0.2.1 else a1.2.1), a1.2.2)).bind fun r4 => (if r4 = true then (some ((([] : List UInt8), ([] : List UInt8), false), false)) else (some (((if (!Op.bytesLess a0.1 a1.1) = true then a0.1 else a1.1), (if (Op.bytesLess a0.2.1 a1.2.1 || decide (a0.2.1 = a1.2.1)) = true then a0.2.1 else a1.2.1), a1.2.2), true)))) else ((lex_Empty.f ((if (!Op.bytesLess a0.1 a1.1) = true then a0.1 else a1.1), ([] : List UInt8), a1.2.2)).bind fun r5 => (if r5 = true then (some ((([] : List UInt8), ([] : List UInt8), false), false)) else (some (((if (!Op.bytesLess a0.1 a1.1) = true then a0.1 else a1.1), ([] : List UInt8), a1.2.2), true))))))) else (if a1.2.2 = true then (if (!a0.2.2) = true then ((lex_Empty.f ((if (!Op.bytesLess a0.1 a1.1) = true then a0.1 else a1.1), a0.2.1, false)).bind fun r6 => (if r6 = true then (some ((([] : List UInt8), ([] : List UInt8), false), false)) else (some (((if (!Op.bytesLess a0.1 a1.1) = true then a0.1 else a1.1), a0.2.1, false), true)))) else ((lex_Empty.f ((if (!Op.bytesLess a0.1 a1.1) = true then a0.1 else a1.1), ([] : List UInt8), false)).bind fun r7 => (if r7 = true then (some ((([] : List UInt8), ([] : List UInt8), false), false)) else (some (((if (!Op.bytesLess a0.1 a1.1) = true then a0.1 else a1.1), ([] : List UInt8), false), true))))) else (if (!a0.2.2) = true then ((lex_Empty.f ((if (!Op.bytesLess a0.1 a1.1) = true then a0.1 else a1.1), (if (Op.bytesLess a0.2.1 a1.2.1 || decide (a0.2.1 = a1.2.1)) = true then a0.2.1 else a1.2.1), false)).bind fun r8 => (if r8 = true then (some ((([] : List UInt8), ([] : List UInt8), false), false)) else (some (((if (!Op.bytesLess a0.1 a1.1) = true then a0.1 else a1.1), (if (Op.bytesLess a0.2.1 a1.2.1 || decide (a0.2.1 = a1.2.1)) = true then a0.2.1 else a1.2.1), false), true)))) else ((lex_Empty.f ((if (!Op.bytesLess a0.1 a1.1) = true then a0.1 else a1.1), ([] : List UInt8), false)).bind fun r9 => (if r9 = true then (some ((([] : List UInt8), ([] : List UInt8), false), false)) else (some (((if (!Op.bytesLess a0.1 a1.1) = true then a0.1 else a1.1), ([] : List UInt8), false), true))))))
set_option maxRecDepth 20000 in
theorem lex_Meet.spec {a0 : List UInt8 × List UInt8 × Bool} {a1 : List UInt8 × List UInt8 × Bool}  {r : (List UInt8 × List UInt8 × Bool) × Bool} (H : lex_Meet.f a0 a1 = some r) :
    Spec Try.prog 20 [.agg #[.string ⟨⟨a0.1⟩⟩, .string ⟨⟨a0.2.1⟩⟩, .bool a0.2.2], .agg #[.string ⟨⟨a1.1⟩⟩, .string ⟨⟨a1.2.1⟩⟩, .bool a1.2.2]] [] [] (fun v l => v = .tuple #[.agg #[.string ⟨⟨r.1.1⟩⟩, .string ⟨⟨r.1.2.1⟩⟩, .bool r.1.2.2], .bool r.2] ∧ l = []) := by
  refine Spec.enter Try.func20 rfl (by kernel_rfl) (by kernel_rfl) fun w0 F0 h0 => ?_
  unfold lex_Meet.f at H
  refine J.seq ?_
  refine J.region ?_
  refine RJ.op rfl rfl (op_box rfl rfl h0) ?_
  rintro _ w1 ⟨b1, rfl, h1⟩
  refine RJ.op rfl rfl (op_box rfl rfl h1) ?_
  rintro _ w2 ⟨b2, rfl, h2⟩
  refine RJ.op rfl rfl (op_alloc ttok rfl rfl h2) ?_
  rintro _ w3 ⟨b3, rfl, h3⟩
  refine RJ.run ttok 1 rfl ?_
  refine RJ.fin [(2, .pointer (some ⟨b1, 0, none⟩)), (3, .pointer (some ⟨b2, 0, none⟩)), (4, .pointer (some ⟨b3, 0, none⟩))] rfl ?_
  refine J.seq ?_
  refine J.region ?_
  refine RJ.run ttok 1 rfl ?_
  refine RJ.q rfl rfl (q_load_box ttok 2 (fun w e => e ▸ h3.wh) rfl rfl rfl rfl rfl) ?_
  refine RJ.run ttok 1 rfl ?_
  refine RJ.q rfl rfl (q_load_box ttok 1 (fun w e => e ▸ h3.wh) rfl rfl rfl rfl rfl) ?_
  refine RJ.run ttok 2 rfl ?_
  refine RJ.q rfl rfl (q_load_box ttok 2 (fun w e => e ▸ h3.wh) rfl rfl rfl rfl rfl) ?_
  refine RJ.run ttok 1 rfl ?_
  rcases Bool.eq_false_or_eq_true a0.2.2 with c1 | c1
  · replace H := ite_t c1 H
    refine RJ.know (t := 14) rfl (congrArg Value.bool c1) ?_
    refine RJ.run ttok 1 rfl ?_
    refine RJ.q rfl rfl (q_load_box ttok 1 (fun w e => e ▸ h3.wh) rfl rfl rfl rfl rfl) ?_
    refine RJ.run ttok 2 rfl ?_
    refine RJ.op rfl rfl (op_alloc ttok rfl rfl h3) ?_
    rintro _ w4 ⟨b4, rfl, h4⟩
    refine RJ.op rfl rfl (op_store ttok 0 rfl h4 rfl rfl rfl rfl rfl rfl rfl) ?_
    intro _ w5 h5
    replace h5 : St w0 F0 (boxC b4 23 [.string ⟨⟨(if (!Op.bytesLess a0.1 a1.1) = true then a0.1 else a1.1)⟩⟩, .string ⟨⟨([] : List UInt8)⟩⟩, .bool a1.2.2] :: _) _ w5 := h5
    refine RJ.fin [(2, .pointer (some ⟨b1, 0, none⟩)), (3, .pointer (some ⟨b2, 0, none⟩)), (4, .pointer (some ⟨b3, 0, none⟩)), (6, .pointer (some ⟨b4, 0, none⟩))] rfl ?_
    refine J.seq ?_
    refine J.block ?_
    refine J.seq ?_
    refine J.region ?_
    refine RJ.run ttok 1 rfl ?_
    refine RJ.q rfl rfl (q_load_box ttok 3 (fun w e => e ▸ h5.wh) rfl rfl rfl rfl rfl) ?_
    refine RJ.run ttok 1 rfl ?_
    refine RJ.know (t := 22) rfl (congrArg Value.bool c1) ?_
    refine RJ.run ttok 1 rfl ?_
    refine RJ.q rfl rfl (q_load_box ttok 2 (fun w e => e ▸ h5.wh) rfl rfl rfl rfl rfl) ?_
    refine RJ.run ttok 3 rfl ?_
    refine RJ.fin [(2, .pointer (some ⟨b1, 0, none⟩)), (3, .pointer (some ⟨b2, 0, none⟩)), (4, .pointer (some ⟨b3, 0, none⟩)), (6, .pointer (some ⟨b4, 0, none⟩)), (19, .bool (!a1.2.2))] rfl ?_
    refine J.cond rfl (fun c2 => ?_) (fun c2 => ?_)
    · replace H := ite_t c2 H
      refine J.region ?_
      refine RJ.run ttok 1 rfl ?_
      refine RJ.q rfl rfl (q_load_box ttok 2 (fun w e => e ▸ h5.wh) rfl rfl rfl rfl rfl) ?_
      refine RJ.run ttok 1 rfl ?_
      refine RJ.op rfl rfl (op_store ttok 0 rfl h5 rfl rfl rfl rfl rfl rfl rfl) ?_
      intro _ w6 h6
      replace h6 : St w0 F0 (boxC b4 23 [.string ⟨⟨(if (!Op.bytesLess a0.1 a1.1) = true then a0.1 else a1.1)⟩⟩, .string ⟨⟨a1.2.1⟩⟩, .bool a1.2.2] :: _) _ w6 := h6
      refine RJ.fin [(4, .pointer (some ⟨b3, 0, none⟩)), (6, .pointer (some ⟨b4, 0, none⟩))] rfl ?_
      refine J.seq ?_
      refine J.seq ?_
      refine J.region ?_
      refine RJ.q rfl rfl (q_load_box ttok 0 (fun w e => e ▸ h6.wh) rfl rfl rfl rfl rfl) ?_
      obtain ⟨r1, q1, H⟩ := bind_t H
      refine RJ.op rfl rfl (op_call [] (lex_Empty.spec q1) rfl rfl rfl h6 rfl gnil) ?_
      rintro _ w7 ⟨_, ⟨rfl, rfl⟩, h7⟩
      refine RJ.fin [(4, .pointer (some ⟨b3, 0, none⟩)), (6, .pointer (some ⟨b4, 0, none⟩)), (52, .bool r1)] rfl ?_
      refine J.cond rfl (fun c3 => ?_) (fun c3 => ?_)
      · replace H := ite_t c3 H
        refine J.seq ?_
        refine J.region ?_
        refine RJ.run ttok 1 rfl ?_
        refine RJ.op rfl rfl (op_store ttok 1 rfl h7 rfl rfl rfl rfl rfl rfl rfl) ?_
        intro _ w8 h8
        replace h8 : St w0 F0 (boxC b3 23 [.string ⟨⟨([] : List UInt8)⟩⟩, .string ⟨⟨([] : List UInt8)⟩⟩, .bool false] :: _) _ w8 := h8
        refine RJ.run ttok 1 rfl ?_
        refine RJ.fin [(4, .pointer (some ⟨b3, 0, none⟩)), (5, .bool false)] rfl ?_
        refine J.ret ?_
        obtain rfl := Option.some.inj H
        exact ⟨_, _, _, (results_two rfl (rvcons (RV.cell ttok 0 h8 rfl rfl rfl rfl) (rvcons (RV.tmp rfl) rvnil)) rfl), ⟨rfl, rfl⟩, h8.only [] rfl⟩
      · replace H := ite_f c3 H
        refine J.skip ?_
        refine J.seq ?_
        refine J.region ?_
        refine RJ.q rfl rfl (q_load_box ttok 0 (fun w e => e ▸ h7.wh) rfl rfl rfl rfl rfl) ?_
        refine RJ.op rfl rfl (op_store ttok 1 rfl h7 rfl rfl rfl rfl rfl rfl rfl) ?_
        intro _ w9 h9
        replace h9 : St w0 F0 (boxC b3 23 [.string ⟨⟨(if (!Op.bytesLess a0.1 a1.1) = true then a0.1 else a1.1)⟩⟩, .string ⟨⟨a1.2.1⟩⟩, .bool a1.2.2] :: _) _ w9 := h9
        refine RJ.run ttok 1 rfl ?_
        refine RJ.fin [(4, .pointer (some ⟨b3, 0, none⟩)), (5, .bool true)] rfl ?_
        refine J.ret ?_
        obtain rfl := Option.some.inj H
        exact ⟨_, _, _, (results_two rfl (rvcons (RV.cell ttok 0 h9 rfl rfl rfl rfl) (rvcons (RV.tmp rfl) rvnil)) rfl), ⟨rfl, rfl⟩, h9.only [] rfl⟩
    · replace H := ite_f c2 H
      refine J.seq ?_
      refine J.region ?_
      refine RJ.run ttok 1 rfl ?_
      refine RJ.q rfl rfl (q_load_box ttok 2 (fun w e => e ▸ h5.wh) rfl rfl rfl rfl rfl) ?_
      refine RJ.run ttok 1 rfl ?_
      rcases Bool.eq_false_or_eq_true a1.2.2 with c4 | c4
      · replace H := ite_t c4 H
        refine RJ.know (t := 33) rfl (congrArg Value.bool c4) ?_
        refine RJ.run ttok 1 rfl ?_
        refine RJ.q rfl rfl (q_load_box ttok 3 (fun w e => e ▸ h5.wh) rfl rfl rfl rfl rfl) ?_
        refine RJ.run ttok 3 rfl ?_
        refine RJ.fin [(2, .pointer (some ⟨b1, 0, none⟩)), (3, .pointer (some ⟨b2, 0, none⟩)), (4, .pointer (some ⟨b3, 0, none⟩)), (6, .pointer (some ⟨b4, 0, none⟩)), (30, .bool (!a0.2.2))] rfl ?_
        refine J.cond rfl (fun c5 => ?_) (fun c5 => ?_)
        · replace H := ite_t c5 H
          refine J.region ?_
          refine RJ.run ttok 1 rfl ?_
          refine RJ.q rfl rfl (q_load_box ttok 3 (fun w e => e ▸ h5.wh) rfl rfl rfl rfl rfl) ?_
          refine RJ.run ttok 1 rfl ?_
          refine RJ.op rfl rfl (op_store ttok 0 rfl h5 rfl rfl rfl rfl rfl rfl rfl) ?_
          intro _ w10 h10
          replace h10 : St w0 F0 (boxC b4 23 [.string ⟨⟨(if (!Op.bytesLess a0.1 a1.1) = true then a0.1 else a1.1)⟩⟩, .string ⟨⟨a0.2.1⟩⟩, .bool a1.2.2] :: _) _ w10 := h10
          refine RJ.fin [(4, .pointer (some ⟨b3, 0, none⟩)), (6, .pointer (some ⟨b4, 0, none⟩))] rfl ?_
          refine J.seq ?_
          refine J.seq ?_
          refine J.region ?_
          refine RJ.q rfl rfl (q_load_box ttok 0 (fun w e => e ▸ h10.wh) rfl rfl rfl rfl rfl) ?_
          obtain ⟨r2, q2, H⟩ := bind_t H
          refine RJ.op rfl rfl (op_call [] (lex_Empty.spec q2) rfl rfl rfl h10 rfl gnil) ?_
          rintro _ w11 ⟨_, ⟨rfl, rfl⟩, h11⟩
          refine RJ.fin [(4, .pointer (some ⟨b3, 0, none⟩)), (6, .pointer (some ⟨b4, 0, none⟩)), (52, .bool r2)] rfl ?_
          refine J.cond rfl (fun c6 => ?_) (fun c6 => ?_)
          · replace H := ite_t c6 H
            refine J.seq ?_
            refine J.region ?_
            refine RJ.run ttok 1 rfl ?_
            refine RJ.op rfl rfl (op_store ttok 1 rfl h11 rfl rfl rfl rfl rfl rfl rfl) ?_
            intro _ w12 h12
            replace h12 : St w0 F0 (boxC b3 23 [.string ⟨⟨([] : List UInt8)⟩⟩, .string ⟨⟨([] : List UInt8)⟩⟩, .bool false] :: _) _ w12 := h12
            refine RJ.run ttok 1 rfl ?_
            refine RJ.fin [(4, .pointer (some ⟨b3, 0, none⟩)), (5, .bool false)] rfl ?_
            refine J.ret ?_
            obtain rfl := Option.some.inj H
            exact ⟨_, _, _, (results_two rfl (rvcons (RV.cell ttok 0 h12 rfl rfl rfl rfl) (rvcons (RV.tmp rfl) rvnil)) rfl), ⟨rfl, rfl⟩, h12.only [] rfl⟩
          · replace H := ite_f c6 H
            refine J.skip ?_
            refine J.seq ?_
            refine J.region ?_
            refine RJ.q rfl rfl (q_load_box ttok 0 (fun w e => e ▸ h11.wh) rfl rfl rfl rfl rfl) ?_
            refine RJ.op rfl rfl (op_store ttok 1 rfl h11 rfl rfl rfl rfl rfl rfl rfl) ?_
            intro _ w13 h13
            replace h13 : St w0 F0 (boxC b3 23 [.string ⟨⟨(if (!Op.bytesLess a0.1 a1.1) = true then a0.1 else a1.1)⟩⟩, .string ⟨⟨a0.2.1⟩⟩, .bool a1.2.2] :: _) _ w13 := h13
            refine RJ.run ttok 1 rfl ?_
            refine RJ.fin [(4, .pointer (some ⟨b3, 0, none⟩)), (5, .bool true)] rfl ?_
            refine J.ret ?_
            obtain rfl := Option.some.inj H
            exact ⟨_, _, _, (results_two rfl (rvcons (RV.cell ttok 0 h13 rfl rfl rfl rfl) (rvcons (RV.tmp rfl) rvnil)) rfl), ⟨rfl, rfl⟩, h13.only [] rfl⟩
        · replace H := ite_f c5 H
          refine J.seq ?_
          refine J.region ?_
          refine RJ.run ttok 1 rfl ?_
          refine RJ.q rfl rfl (q_load_box ttok 3 (fun w e => e ▸ h5.wh) rfl rfl rfl rfl rfl) ?_
          refine RJ.run ttok 2 rfl ?_
          refine RJ.fin [(2, .pointer (some ⟨b1, 0, none⟩)), (3, .pointer (some ⟨b2, 0, none⟩)), (4, .pointer (some ⟨b3, 0, none⟩)), (6, .pointer (some ⟨b4, 0, none⟩)), (41, .bool (!a0.2.2))] rfl ?_
          refine J.cond rfl (fun e => ?_) (fun e => ?_)
          · rw [c5] at e; cases e
          · refine J.skip ?_
            refine J.seq ?_
            refine J.seq ?_
            refine J.region ?_
            refine RJ.q rfl rfl (q_load_box ttok 0 (fun w e => e ▸ h5.wh) rfl rfl rfl rfl rfl) ?_
            obtain ⟨r3, q3, H⟩ := bind_t H
            refine RJ.op rfl rfl (op_call [] (lex_Empty.spec q3) rfl rfl rfl h5 rfl gnil) ?_
            rintro _ w14 ⟨_, ⟨rfl, rfl⟩, h14⟩
            refine RJ.fin [(4, .pointer (some ⟨b3, 0, none⟩)), (6, .pointer (some ⟨b4, 0, none⟩)), (52, .bool r3)] rfl ?_
            refine J.cond rfl (fun c7 => ?_) (fun c7 => ?_)
            · replace H := ite_t c7 H
              refine J.seq ?_
              refine J.region ?_
              refine RJ.run ttok 1 rfl ?_
              refine RJ.op rfl rfl (op_store ttok 1 rfl h14 rfl rfl rfl rfl rfl rfl rfl) ?_
              intro _ w15 h15
              replace h15 : St w0 F0 (boxC b3 23 [.string ⟨⟨([] : List UInt8)⟩⟩, .string ⟨⟨([] : List UInt8)⟩⟩, .bool false] :: _) _ w15 := h15
              refine RJ.run ttok 1 rfl ?_
              refine RJ.fin [(4, .pointer (some ⟨b3, 0, none⟩)), (5, .bool false)] rfl ?_
              refine J.ret ?_
              obtain rfl := Option.some.inj H
              exact ⟨_, _, _, (results_two rfl (rvcons (RV.cell ttok 0 h15 rfl rfl rfl rfl) (rvcons (RV.tmp rfl) rvnil)) rfl), ⟨rfl, rfl⟩, h15.only [] rfl⟩
            · replace H := ite_f c7 H
              refine J.skip ?_
              refine J.seq ?_
              refine J.region ?_
              refine RJ.q rfl rfl (q_load_box ttok 0 (fun w e => e ▸ h14.wh) rfl rfl rfl rfl rfl) ?_
              refine RJ.op rfl rfl (op_store ttok 1 rfl h14 rfl rfl rfl rfl rfl rfl rfl) ?_
              intro _ w16 h16
              replace h16 : St w0 F0 (boxC b3 23 [.string ⟨⟨(if (!Op.bytesLess a0.1 a1.1) = true then a0.1 else a1.1)⟩⟩, .string ⟨⟨([] : List UInt8)⟩⟩, .bool a1.2.2] :: _) _ w16 := h16
              refine RJ.run ttok 1 rfl ?_
              refine RJ.fin [(4, .pointer (some ⟨b3, 0, none⟩)), (5, .bool true)] rfl ?_
              refine J.ret ?_
              obtain rfl := Option.some.inj H
              exact ⟨_, _, _, (results_two rfl (rvcons (RV.cell ttok 0 h16 rfl rfl rfl rfl) (rvcons (RV.tmp rfl) rvnil)) rfl), ⟨rfl, rfl⟩, h16.only [] rfl⟩
      · replace H := ite_f c4 H
        refine RJ.know (t := 33) rfl (congrArg Value.bool c4) ?_
        refine RJ.run ttok 5 rfl ?_
        refine RJ.fin [(2, .pointer (some ⟨b1, 0, none⟩)), (3, .pointer (some ⟨b2, 0, none⟩)), (4, .pointer (some ⟨b3, 0, none⟩)), (6, .pointer (some ⟨b4, 0, none⟩)), (30, .bool false)] rfl ?_
        refine J.condF rfl ?_
        refine J.seq ?_
        refine J.region ?_
        refine RJ.run ttok 1 rfl ?_
        refine RJ.q rfl rfl (q_load_box ttok 3 (fun w e => e ▸ h5.wh) rfl rfl rfl rfl rfl) ?_
        refine RJ.run ttok 2 rfl ?_
        refine RJ.fin [(2, .pointer (some ⟨b1, 0, none⟩)), (3, .pointer (some ⟨b2, 0, none⟩)), (4, .pointer (some ⟨b3, 0, none⟩)), (6, .pointer (some ⟨b4, 0, none⟩)), (41, .bool (!a0.2.2))] rfl ?_
        refine J.cond rfl (fun c8 => ?_) (fun c8 => ?_)
        · replace H := ite_t c8 H
          refine J.region ?_
          refine RJ.run ttok 1 rfl ?_
          refine RJ.q rfl rfl (q_load_box ttok 3 (fun w e => e ▸ h5.wh) rfl rfl rfl rfl rfl) ?_
          refine RJ.run ttok 1 rfl ?_
          refine RJ.q rfl rfl (q_load_box ttok 2 (fun w e => e ▸ h5.wh) rfl rfl rfl rfl rfl) ?_
          refine RJ.run ttok 2 rfl ?_
          refine RJ.op rfl rfl (op_store ttok 0 rfl h5 rfl rfl rfl rfl rfl rfl rfl) ?_
          intro _ w17 h17
          replace h17 : St w0 F0 (boxC b4 23 [.string ⟨⟨(if (!Op.bytesLess a0.1 a1.1) = true then a0.1 else a1.1)⟩⟩, .string ⟨⟨(if (Op.bytesLess a0.2.1 a1.2.1 || decide (a0.2.1 = a1.2.1)) = true then a0.2.1 else a1.2.1)⟩⟩, .bool a1.2.2] :: _) _ w17 := h17
          refine RJ.fin [(4, .pointer (some ⟨b3, 0, none⟩)), (6, .pointer (some ⟨b4, 0, none⟩))] rfl ?_
          refine J.seq ?_
          refine J.seq ?_
          refine J.region ?_
          refine RJ.q rfl rfl (q_load_box ttok 0 (fun w e => e ▸ h17.wh) rfl rfl rfl rfl rfl) ?_
          obtain ⟨r4, q4, H⟩ := bind_t H
          refine RJ.op rfl rfl (op_call [] (lex_Empty.spec q4) rfl rfl rfl h17 rfl gnil) ?_
          rintro _ w18 ⟨_, ⟨rfl, rfl⟩, h18⟩
          refine RJ.fin [(4, .pointer (some ⟨b3, 0, none⟩)), (6, .pointer (some ⟨b4, 0, none⟩)), (52, .bool r4)] rfl ?_
          refine J.cond rfl (fun c9 => ?_) (fun c9 => ?_)
          · replace H := ite_t c9 H
            refine J.seq ?_
            refine J.region ?_
            refine RJ.run ttok 1 rfl ?_
            refine RJ.op rfl rfl (op_store ttok 1 rfl h18 rfl rfl rfl rfl rfl rfl rfl) ?_
            intro _ w19 h19
            replace h19 : St w0 F0 (boxC b3 23 [.string ⟨⟨([] : List UInt8)⟩⟩, .string ⟨⟨([] : List UInt8)⟩⟩, .bool false] :: _) _ w19 := h19
            refine RJ.run ttok 1 rfl ?_
            refine RJ.fin [(4, .pointer (some ⟨b3, 0, none⟩)), (5, .bool false)] rfl ?_
            refine J.ret ?_
            obtain rfl := Option.some.inj H
            exact ⟨_, _, _, (results_two rfl (rvcons (RV.cell ttok 0 h19 rfl rfl rfl rfl) (rvcons (RV.tmp rfl) rvnil)) rfl), ⟨rfl, rfl⟩, h19.only [] rfl⟩
          · replace H := ite_f c9 H
            refine J.skip ?_
            refine J.seq ?_
            refine J.region ?_
            refine RJ.q rfl rfl (q_load_box ttok 0 (fun w e => e ▸ h18.wh) rfl rfl rfl rfl rfl) ?_
            refine RJ.op rfl rfl (op_store ttok 1 rfl h18 rfl rfl rfl rfl rfl rfl rfl) ?_
            intro _ w20 h20
            replace h20 : St w0 F0 (boxC b3 23 [.string ⟨⟨(if (!Op.bytesLess a0.1 a1.1) = true then a0.1 else a1.1)⟩⟩, .string ⟨⟨(if (Op.bytesLess a0.2.1 a1.2.1 || decide (a0.2.1 = a1.2.1)) = true then a0.2.1 else a1.2.1)⟩⟩, .bool a1.2.2] :: _) _ w20 := h20
            refine RJ.run ttok 1 rfl ?_
            refine RJ.fin [(4, .pointer (some ⟨b3, 0, none⟩)), (5, .bool true)] rfl ?_
            refine J.ret ?_
            obtain rfl := Option.some.inj H
            exact ⟨_, _, _, (results_two rfl (rvcons (RV.cell ttok 0 h20 rfl rfl rfl rfl) (rvcons (RV.tmp rfl) rvnil)) rfl), ⟨rfl, rfl⟩, h20.only [] rfl⟩
        · replace H := ite_f c8 H
          refine J.skip ?_
          refine J.seq ?_
          refine J.seq ?_
          refine J.region ?_
          refine RJ.q rfl rfl (q_load_box ttok 0 (fun w e => e ▸ h5.wh) rfl rfl rfl rfl rfl) ?_
          obtain ⟨r5, q5, H⟩ := bind_t H
          refine RJ.op rfl rfl (op_call [] (lex_Empty.spec q5) rfl rfl rfl h5 rfl gnil) ?_
          rintro _ w21 ⟨_, ⟨rfl, rfl⟩, h21⟩
          refine RJ.fin [(4, .pointer (some ⟨b3, 0, none⟩)), (6, .pointer (some ⟨b4, 0, none⟩)), (52, .bool r5)] rfl ?_
          refine J.cond rfl (fun c10 => ?_) (fun c10 => ?_)
          · replace H := ite_t c10 H
            refine J.seq ?_
            refine J.region ?_
            refine RJ.run ttok 1 rfl ?_
            refine RJ.op rfl rfl (op_store ttok 1 rfl h21 rfl rfl rfl rfl rfl rfl rfl) ?_
            intro _ w22 h22
            replace h22 : St w0 F0 (boxC b3 23 [.string ⟨⟨([] : List UInt8)⟩⟩, .string ⟨⟨([] : List UInt8)⟩⟩, .bool false] :: _) _ w22 := h22
            refine RJ.run ttok 1 rfl ?_
            refine RJ.fin [(4, .pointer (some ⟨b3, 0, none⟩)), (5, .bool false)] rfl ?_
            refine J.ret ?_
            obtain rfl := Option.some.inj H
            exact ⟨_, _, _, (results_two rfl (rvcons (RV.cell ttok 0 h22 rfl rfl rfl rfl) (rvcons (RV.tmp rfl) rvnil)) rfl), ⟨rfl, rfl⟩, h22.only [] rfl⟩
          · replace H := ite_f c10 H
            refine J.skip ?_
            refine J.seq ?_
            refine J.region ?_
            refine RJ.q rfl rfl (q_load_box ttok 0 (fun w e => e ▸ h21.wh) rfl rfl rfl rfl rfl) ?_
            refine RJ.op rfl rfl (op_store ttok 1 rfl h21 rfl rfl rfl rfl rfl rfl rfl) ?_
            intro _ w23 h23
            replace h23 : St w0 F0 (boxC b3 23 [.string ⟨⟨(if (!Op.bytesLess a0.1 a1.1) = true then a0.1 else a1.1)⟩⟩, .string ⟨⟨([] : List UInt8)⟩⟩, .bool a1.2.2] :: _) _ w23 := h23
            refine RJ.run ttok 1 rfl ?_
            refine RJ.fin [(4, .pointer (some ⟨b3, 0, none⟩)), (5, .bool true)] rfl ?_
            refine J.ret ?_
            obtain rfl := Option.some.inj H
            exact ⟨_, _, _, (results_two rfl (rvcons (RV.cell ttok 0 h23 rfl rfl rfl rfl) (rvcons (RV.tmp rfl) rvnil)) rfl), ⟨rfl, rfl⟩, h23.only [] rfl⟩
  · replace H := ite_f c1 H
    refine RJ.know (t := 14) rfl (congrArg Value.bool c1) ?_
    refine RJ.run ttok 4 rfl ?_
    refine RJ.op rfl rfl (op_alloc ttok rfl rfl h3) ?_
    rintro _ w24 ⟨b5, rfl, h24⟩
    refine RJ.op rfl rfl (op_store ttok 0 rfl h24 rfl rfl rfl rfl rfl rfl rfl) ?_
    intro _ w25 h25
    replace h25 : St w0 F0 (boxC b5 23 [.string ⟨⟨(if (!Op.bytesLess a0.1 a1.1) = true then a0.1 else a1.1)⟩⟩, .string ⟨⟨([] : List UInt8)⟩⟩, .bool false] :: _) _ w25 := h25
    refine RJ.fin [(2, .pointer (some ⟨b1, 0, none⟩)), (3, .pointer (some ⟨b2, 0, none⟩)), (4, .pointer (some ⟨b3, 0, none⟩)), (6, .pointer (some ⟨b5, 0, none⟩))] rfl ?_
    refine J.seq ?_
    refine J.block ?_
    refine J.seq ?_
    refine J.region ?_
    refine RJ.run ttok 1 rfl ?_
    refine RJ.q rfl rfl (q_load_box ttok 3 (fun w e => e ▸ h25.wh) rfl rfl rfl rfl rfl) ?_
    refine RJ.run ttok 1 rfl ?_
    refine RJ.know (t := 22) rfl (congrArg Value.bool c1) ?_
    refine RJ.run ttok 5 rfl ?_
    refine RJ.fin [(2, .pointer (some ⟨b1, 0, none⟩)), (3, .pointer (some ⟨b2, 0, none⟩)), (4, .pointer (some ⟨b3, 0, none⟩)), (6, .pointer (some ⟨b5, 0, none⟩)), (19, .bool false)] rfl ?_
    refine J.condF rfl ?_
    refine J.seq ?_
    refine J.region ?_
    refine RJ.run ttok 1 rfl ?_
    refine RJ.q rfl rfl (q_load_box ttok 2 (fun w e => e ▸ h25.wh) rfl rfl rfl rfl rfl) ?_
    refine RJ.run ttok 1 rfl ?_
    rcases Bool.eq_false_or_eq_true a1.2.2 with c11 | c11
    · replace H := ite_t c11 H
      refine RJ.know (t := 33) rfl (congrArg Value.bool c11) ?_
      refine RJ.run ttok 1 rfl ?_
      refine RJ.q rfl rfl (q_load_box ttok 3 (fun w e => e ▸ h25.wh) rfl rfl rfl rfl rfl) ?_
      refine RJ.run ttok 3 rfl ?_
      refine RJ.fin [(2, .pointer (some ⟨b1, 0, none⟩)), (3, .pointer (some ⟨b2, 0, none⟩)), (4, .pointer (some ⟨b3, 0, none⟩)), (6, .pointer (some ⟨b5, 0, none⟩)), (30, .bool (!a0.2.2))] rfl ?_
      refine J.cond rfl (fun c12 => ?_) (fun c12 => ?_)
      · replace H := ite_t c12 H
        refine J.region ?_
        refine RJ.run ttok 1 rfl ?_
        refine RJ.q rfl rfl (q_load_box ttok 3 (fun w e => e ▸ h25.wh) rfl rfl rfl rfl rfl) ?_
        refine RJ.run ttok 1 rfl ?_
        refine RJ.op rfl rfl (op_store ttok 0 rfl h25 rfl rfl rfl rfl rfl rfl rfl) ?_
        intro _ w26 h26
        replace h26 : St w0 F0 (boxC b5 23 [.string ⟨⟨(if (!Op.bytesLess a0.1 a1.1) = true then a0.1 else a1.1)⟩⟩, .string ⟨⟨a0.2.1⟩⟩, .bool false] :: _) _ w26 := h26
        refine RJ.fin [(4, .pointer (some ⟨b3, 0, none⟩)), (6, .pointer (some ⟨b5, 0, none⟩))] rfl ?_
        refine J.seq ?_
        refine J.seq ?_
        refine J.region ?_
        refine RJ.q rfl rfl (q_load_box ttok 0 (fun w e => e ▸ h26.wh) rfl rfl rfl rfl rfl) ?_
        obtain ⟨r6, q6, H⟩ := bind_t H
        refine RJ.op rfl rfl (op_call [] (lex_Empty.spec q6) rfl rfl rfl h26 rfl gnil) ?_
        rintro _ w27 ⟨_, ⟨rfl, rfl⟩, h27⟩
        refine RJ.fin [(4, .pointer (some ⟨b3, 0, none⟩)), (6, .pointer (some ⟨b5, 0, none⟩)), (52, .bool r6)] rfl ?_
        refine J.cond rfl (fun c13 => ?_) (fun c13 => ?_)
        · replace H := ite_t c13 H
          refine J.seq ?_
          refine J.region ?_
          refine RJ.run ttok 1 rfl ?_
          refine RJ.op rfl rfl (op_store ttok 1 rfl h27 rfl rfl rfl rfl rfl rfl rfl) ?_
          intro _ w28 h28
          replace h28 : St w0 F0 (boxC b3 23 [.string ⟨⟨([] : List UInt8)⟩⟩, .string ⟨⟨([] : List UInt8)⟩⟩, .bool false] :: _) _ w28 := h28
          refine RJ.run ttok 1 rfl ?_
          refine RJ.fin [(4, .pointer (some ⟨b3, 0, none⟩)), (5, .bool false)] rfl ?_
          refine J.ret ?_
          obtain rfl := Option.some.inj H
          exact ⟨_, _, _, (results_two rfl (rvcons (RV.cell ttok 0 h28 rfl rfl rfl rfl) (rvcons (RV.tmp rfl) rvnil)) rfl), ⟨rfl, rfl⟩, h28.only [] rfl⟩
        · replace H := ite_f c13 H
          refine J.skip ?_
          refine J.seq ?_
          refine J.region ?_
          refine RJ.q rfl rfl (q_load_box ttok 0 (fun w e => e ▸ h27.wh) rfl rfl rfl rfl rfl) ?_
          refine RJ.op rfl rfl (op_store ttok 1 rfl h27 rfl rfl rfl rfl rfl rfl rfl) ?_
          intro _ w29 h29
          replace h29 : St w0 F0 (boxC b3 23 [.string ⟨⟨(if (!Op.bytesLess a0.1 a1.1) = true then a0.1 else a1.1)⟩⟩, .string ⟨⟨a0.2.1⟩⟩, .bool false] :: _) _ w29 := h29
          refine RJ.run ttok 1 rfl ?_
          refine RJ.fin [(4, .pointer (some ⟨b3, 0, none⟩)), (5, .bool true)] rfl ?_
          refine J.ret ?_
          obtain rfl := Option.some.inj H
          exact ⟨_, _, _, (results_two rfl (rvcons (RV.cell ttok 0 h29 rfl rfl rfl rfl) (rvcons (RV.tmp rfl) rvnil)) rfl), ⟨rfl, rfl⟩, h29.only [] rfl⟩
      · replace H := ite_f c12 H
        refine J.seq ?_
        refine J.region ?_
        refine RJ.run ttok 1 rfl ?_
        refine RJ.q rfl rfl (q_load_box ttok 3 (fun w e => e ▸ h25.wh) rfl rfl rfl rfl rfl) ?_
        refine RJ.run ttok 2 rfl ?_
        refine RJ.fin [(2, .pointer (some ⟨b1, 0, none⟩)), (3, .pointer (some ⟨b2, 0, none⟩)), (4, .pointer (some ⟨b3, 0, none⟩)), (6, .pointer (some ⟨b5, 0, none⟩)), (41, .bool (!a0.2.2))] rfl ?_
        refine J.cond rfl (fun e => ?_) (fun e => ?_)
        · rw [c12] at e; cases e
        · refine J.skip ?_
          refine J.seq ?_
          refine J.seq ?_
          refine J.region ?_
          refine RJ.q rfl rfl (q_load_box ttok 0 (fun w e => e ▸ h25.wh) rfl rfl rfl rfl rfl) ?_
          obtain ⟨r7, q7, H⟩ := bind_t H
          refine RJ.op rfl rfl (op_call [] (lex_Empty.spec q7) rfl rfl rfl h25 rfl gnil) ?_
          rintro _ w30 ⟨_, ⟨rfl, rfl⟩, h30⟩
          refine RJ.fin [(4, .pointer (some ⟨b3, 0, none⟩)), (6, .pointer (some ⟨b5, 0, none⟩)), (52, .bool r7)] rfl ?_
          refine J.cond rfl (fun c14 => ?_) (fun c14 => ?_)
          · replace H := ite_t c14 H
            refine J.seq ?_
            refine J.region ?_
            refine RJ.run ttok 1 rfl ?_
            refine RJ.op rfl rfl (op_store ttok 1 rfl h30 rfl rfl rfl rfl rfl rfl rfl) ?_
            intro _ w31 h31
            replace h31 : St w0 F0 (boxC b3 23 [.string ⟨⟨([] : List UInt8)⟩⟩, .string ⟨⟨([] : List UInt8)⟩⟩, .bool false] :: _) _ w31 := h31
            refine RJ.run ttok 1 rfl ?_
            refine RJ.fin [(4, .pointer (some ⟨b3, 0, none⟩)), (5, .bool false)] rfl ?_
            refine J.ret ?_
            obtain rfl := Option.some.inj H
            exact ⟨_, _, _, (results_two rfl (rvcons (RV.cell ttok 0 h31 rfl rfl rfl rfl) (rvcons (RV.tmp rfl) rvnil)) rfl), ⟨rfl, rfl⟩, h31.only [] rfl⟩
          · replace H := ite_f c14 H
            refine J.skip ?_
            refine J.seq ?_
            refine J.region ?_
            refine RJ.q rfl rfl (q_load_box ttok 0 (fun w e => e ▸ h30.wh) rfl rfl rfl rfl rfl) ?_
            refine RJ.op rfl rfl (op_store ttok 1 rfl h30 rfl rfl rfl rfl rfl rfl rfl) ?_
            intro _ w32 h32
            replace h32 : St w0 F0 (boxC b3 23 [.string ⟨⟨(if (!Op.bytesLess a0.1 a1.1) = true then a0.1 else a1.1)⟩⟩, .string ⟨⟨([] : List UInt8)⟩⟩, .bool false] :: _) _ w32 := h32
            refine RJ.run ttok 1 rfl ?_
            refine RJ.fin [(4, .pointer (some ⟨b3, 0, none⟩)), (5, .bool true)] rfl ?_
            refine J.ret ?_
            obtain rfl := Option.some.inj H
            exact ⟨_, _, _, (results_two rfl (rvcons (RV.cell ttok 0 h32 rfl rfl rfl rfl) (rvcons (RV.tmp rfl) rvnil)) rfl), ⟨rfl, rfl⟩, h32.only [] rfl⟩
    · replace H := ite_f c11 H
      refine RJ.know (t := 33) rfl (congrArg Value.bool c11) ?_
      refine RJ.run ttok 5 rfl ?_
      refine RJ.fin [(2, .pointer (some ⟨b1, 0, none⟩)), (3, .pointer (some ⟨b2, 0, none⟩)), (4, .pointer (some ⟨b3, 0, none⟩)), (6, .pointer (some ⟨b5, 0, none⟩)), (30, .bool false)] rfl ?_
      refine J.condF rfl ?_
      refine J.seq ?_
      refine J.region ?_
      refine RJ.run ttok 1 rfl ?_
      refine RJ.q rfl rfl (q_load_box ttok 3 (fun w e => e ▸ h25.wh) rfl rfl rfl rfl rfl) ?_
      refine RJ.run ttok 2 rfl ?_
      refine RJ.fin [(2, .pointer (some ⟨b1, 0, none⟩)), (3, .pointer (some ⟨b2, 0, none⟩)), (4, .pointer (some ⟨b3, 0, none⟩)), (6, .pointer (some ⟨b5, 0, none⟩)), (41, .bool (!a0.2.2))] rfl ?_
      refine J.cond rfl (fun c15 => ?_) (fun c15 => ?_)
      · replace H := ite_t c15 H
        refine J.region ?_
        refine RJ.run ttok 1 rfl ?_
        refine RJ.q rfl rfl (q_load_box ttok 3 (fun w e => e ▸ h25.wh) rfl rfl rfl rfl rfl) ?_
        refine RJ.run ttok 1 rfl ?_
        refine RJ.q rfl rfl (q_load_box ttok 2 (fun w e => e ▸ h25.wh) rfl rfl rfl rfl rfl) ?_
        refine RJ.run ttok 2 rfl ?_
        refine RJ.op rfl rfl (op_store ttok 0 rfl h25 rfl rfl rfl rfl rfl rfl rfl) ?_
        intro _ w33 h33
        replace h33 : St w0 F0 (boxC b5 23 [.string ⟨⟨(if (!Op.bytesLess a0.1 a1.1) = true then a0.1 else a1.1)⟩⟩, .string ⟨⟨(if (Op.bytesLess a0.2.1 a1.2.1 || decide (a0.2.1 = a1.2.1)) = true then a0.2.1 else a1.2.1)⟩⟩, .bool false] :: _) _ w33 := h33
        refine RJ.fin [(4, .pointer (some ⟨b3, 0, none⟩)), (6, .pointer (some ⟨b5, 0, none⟩))] rfl ?_
        refine J.seq ?_
        refine J.seq ?_
        refine J.region ?_
        refine RJ.q rfl rfl (q_load_box ttok 0 (fun w e => e ▸ h33.wh) rfl rfl rfl rfl rfl) ?_
        obtain ⟨r8, q8, H⟩ := bind_t H
        refine RJ.op rfl rfl (op_call [] (lex_Empty.spec q8) rfl rfl rfl h33 rfl gnil) ?_
        rintro _ w34 ⟨_, ⟨rfl, rfl⟩, h34⟩
        refine RJ.fin [(4, .pointer (some ⟨b3, 0, none⟩)), (6, .pointer (some ⟨b5, 0, none⟩)), (52, .bool r8)] rfl ?_
        refine J.cond rfl (fun c16 => ?_) (fun c16 => ?_)
        · replace H := ite_t c16 H
          refine J.seq ?_
          refine J.region ?_
          refine RJ.run ttok 1 rfl ?_
          refine RJ.op rfl rfl (op_store ttok 1 rfl h34 rfl rfl rfl rfl rfl rfl rfl) ?_
          intro _ w35 h35
          replace h35 : St w0 F0 (boxC b3 23 [.string ⟨⟨([] : List UInt8)⟩⟩, .string ⟨⟨([] : List UInt8)⟩⟩, .bool false] :: _) _ w35 := h35
          refine RJ.run ttok 1 rfl ?_
          refine RJ.fin [(4, .pointer (some ⟨b3, 0, none⟩)), (5, .bool false)] rfl ?_
          refine J.ret ?_
          obtain rfl := Option.some.inj H
          exact ⟨_, _, _, (results_two rfl (rvcons (RV.cell ttok 0 h35 rfl rfl rfl rfl) (rvcons (RV.tmp rfl) rvnil)) rfl), ⟨rfl, rfl⟩, h35.only [] rfl⟩
        · replace H := ite_f c16 H
          refine J.skip ?_
          refine J.seq ?_
          refine J.region ?_
          refine RJ.q rfl rfl (q_load_box ttok 0 (fun w e => e ▸ h34.wh) rfl rfl rfl rfl rfl) ?_
          refine RJ.op rfl rfl (op_store ttok 1 rfl h34 rfl rfl rfl rfl rfl rfl rfl) ?_
          intro _ w36 h36
          replace h36 : St w0 F0 (boxC b3 23 [.string ⟨⟨(if (!Op.bytesLess a0.1 a1.1) = true then a0.1 else a1.1)⟩⟩, .string ⟨⟨(if (Op.bytesLess a0.2.1 a1.2.1 || decide (a0.2.1 = a1.2.1)) = true then a0.2.1 else a1.2.1)⟩⟩, .bool false] :: _) _ w36 := h36
          refine RJ.run ttok 1 rfl ?_
          refine RJ.fin [(4, .pointer (some ⟨b3, 0, none⟩)), (5, .bool true)] rfl ?_
          refine J.ret ?_
          obtain rfl := Option.some.inj H
          exact ⟨_, _, _, (results_two rfl (rvcons (RV.cell ttok 0 h36 rfl rfl rfl rfl) (rvcons (RV.tmp rfl) rvnil)) rfl), ⟨rfl, rfl⟩, h36.only [] rfl⟩
      · replace H := ite_f c15 H
        refine J.skip ?_
        refine J.seq ?_
        refine J.seq ?_
        refine J.region ?_
        refine RJ.q rfl rfl (q_load_box ttok 0 (fun w e => e ▸ h25.wh) rfl rfl rfl rfl rfl) ?_
        obtain ⟨r9, q9, H⟩ := bind_t H
        refine RJ.op rfl rfl (op_call [] (lex_Empty.spec q9) rfl rfl rfl h25 rfl gnil) ?_
        rintro _ w37 ⟨_, ⟨rfl, rfl⟩, h37⟩
        refine RJ.fin [(4, .pointer (some ⟨b3, 0, none⟩)), (6, .pointer (some ⟨b5, 0, none⟩)), (52, .bool r9)] rfl ?_
        refine J.cond rfl (fun c17 => ?_) (fun c17 => ?_)
        · replace H := ite_t c17 H
          refine J.seq ?_
          refine J.region ?_
          refine RJ.run ttok 1 rfl ?_
          refine RJ.op rfl rfl (op_store ttok 1 rfl h37 rfl rfl rfl rfl rfl rfl rfl) ?_
          intro _ w38 h38
          replace h38 : St w0 F0 (boxC b3 23 [.string ⟨⟨([] : List UInt8)⟩⟩, .string ⟨⟨([] : List UInt8)⟩⟩, .bool false] :: _) _ w38 := h38
          refine RJ.run ttok 1 rfl ?_
          refine RJ.fin [(4, .pointer (some ⟨b3, 0, none⟩)), (5, .bool false)] rfl ?_
          refine J.ret ?_
          obtain rfl := Option.some.inj H
          exact ⟨_, _, _, (results_two rfl (rvcons (RV.cell ttok 0 h38 rfl rfl rfl rfl) (rvcons (RV.tmp rfl) rvnil)) rfl), ⟨rfl, rfl⟩, h38.only [] rfl⟩
        · replace H := ite_f c17 H
          refine J.skip ?_
          refine J.seq ?_
          refine J.region ?_
          refine RJ.q rfl rfl (q_load_box ttok 0 (fun w e => e ▸ h37.wh) rfl rfl rfl rfl rfl) ?_
          refine RJ.op rfl rfl (op_store ttok 1 rfl h37 rfl rfl rfl rfl rfl rfl rfl) ?_
          intro _ w39 h39
          replace h39 : St w0 F0 (boxC b3 23 [.string ⟨⟨(if (!Op.bytesLess a0.1 a1.1) = true then a0.1 else a1.1)⟩⟩, .string ⟨⟨([] : List UInt8)⟩⟩, .bool false] :: _) _ w39 := h39
          refine RJ.run ttok 1 rfl ?_
          refine RJ.fin [(4, .pointer (some ⟨b3, 0, none⟩)), (5, .bool true)] rfl ?_
          refine J.ret ?_
          obtain rfl := Option.some.inj H
          exact ⟨_, _, _, (results_two rfl (rvcons (RV.cell ttok 0 h39 rfl rfl rfl rfl) (rvcons (RV.tmp rfl) rvnil)) rfl), ⟨rfl, rfl⟩, h39.only [] rfl⟩

/-! sluicegate/lex.All -/
def lex_All.f  : Option ((List UInt8 × List UInt8 × Bool)) := some (([] : List UInt8), ([] : List UInt8), true)
set_option maxRecDepth 20000 in
theorem lex_All.spec   {r : (List UInt8 × List UInt8 × Bool)} (H : lex_All.f  = some r) :
    Spec Try.prog 19 [] [] [] (fun v l => v = .agg #[.string ⟨⟨r.1⟩⟩, .string ⟨⟨r.2.1⟩⟩, .bool r.2.2] ∧ l = []) := by
  refine Spec.enter Try.func19 rfl (by kernel_rfl) (by kernel_rfl) fun w0 F0 h0 => ?_
  unfold lex_All.f at H
  refine J.seq ?_
  refine J.region ?_
  refine RJ.op rfl rfl (op_alloc ttok rfl rfl h0) ?_
  rintro _ w1 ⟨b1, rfl, h1⟩
  refine RJ.fin [(0, .pointer (some ⟨b1, 0, none⟩))] rfl ?_
  refine J.seq ?_
  refine J.region ?_
  refine RJ.run ttok 1 rfl ?_
  refine RJ.op rfl rfl (op_store ttok 0 rfl h1 rfl rfl rfl rfl rfl rfl rfl) ?_
  intro _ w2 h2
  replace h2 : St w0 F0 (boxC b1 23 [.string ⟨⟨([] : List UInt8)⟩⟩, .string ⟨⟨([] : List UInt8)⟩⟩, .bool true] :: _) _ w2 := h2
  refine RJ.fin [(0, .pointer (some ⟨b1, 0, none⟩))] rfl ?_
  refine J.ret ?_
  obtain rfl := Option.some.inj H
  exact ⟨_, _, _, (results_two rfl (rvcons (RV.cell ttok 0 h2 rfl rfl rfl rfl) rvnil) rfl), ⟨rfl, rfl⟩, h2.only [] rfl⟩

/-! sluicegate/lex.In -/
def lex_In.f (a0 : List UInt8 × List UInt8 × Bool) (a1 : List UInt8) : Option (Bool) := if (!Op.bytesLess a1 a0.1) = true then (if a0.2.2 = true then (some true) else (some (Op.bytesLess a1 a0.2.1))) else (some false)
set_option maxRecDepth 20000 in
theorem lex_In.spec {a0 : List UInt8 × List UInt8 × Bool} {a1 : List UInt8}  {r : Bool} (H : lex_In.f a0 a1 = some r) :
    Spec Try.prog 15 [.agg #[.string ⟨⟨a0.1⟩⟩, .string ⟨⟨a0.2.1⟩⟩, .bool a0.2.2], .string ⟨⟨a1⟩⟩] [] [] (fun v l => v = .bool r ∧ l = []) := by
  refine Spec.enter Try.func15 rfl (by kernel_rfl) (by kernel_rfl) fun w0 F0 h0 => ?_
  unfold lex_In.f at H
  refine J.seq ?_
  refine J.region ?_
  refine RJ.op rfl rfl (op_box rfl rfl h0) ?_
  rintro _ w1 ⟨b1, rfl, h1⟩
  refine RJ.run ttok 1 rfl ?_
  refine RJ.fin [(1, .string ⟨⟨a1⟩⟩), (2, .pointer (some ⟨b1, 0, none⟩))] rfl ?_
  refine J.seq ?_
  refine J.region ?_
  refine RJ.run ttok 2 rfl ?_
  refine RJ.q rfl rfl (q_load_box ttok 0 (fun w e => e ▸ h1.wh) rfl rfl rfl rfl rfl) ?_
  refine RJ.run ttok 2 rfl ?_
  rcases Bool.eq_false_or_eq_true (!Op.bytesLess a1 a0.1) with c1 | c1
  · replace H := ite_t c1 H
    refine RJ.know (t := 9) rfl (congrArg Value.bool c1) ?_
    refine RJ.run ttok 1 rfl ?_
    refine RJ.q rfl rfl (q_load_box ttok 0 (fun w e => e ▸ h1.wh) rfl rfl rfl rfl rfl) ?_
    refine RJ.run ttok 1 rfl ?_
    rcases Bool.eq_false_or_eq_true a0.2.2 with c2 | c2
    · replace H := ite_t c2 H
      refine RJ.know (t := 12) rfl (congrArg Value.bool c2) ?_
      refine RJ.run ttok 7 rfl ?_
      refine RJ.fin [(4, .bool true)] rfl ?_
      refine J.ret ?_
      obtain rfl := Option.some.inj H
      exact ⟨_, _, _, (results_slots rfl), ⟨rfl, rfl⟩, h1.only [] rfl⟩
    · replace H := ite_f c2 H
      refine RJ.know (t := 12) rfl (congrArg Value.bool c2) ?_
      refine RJ.run ttok 2 rfl ?_
      refine RJ.q rfl rfl (q_load_box ttok 0 (fun w e => e ▸ h1.wh) rfl rfl rfl rfl rfl) ?_
      refine RJ.run ttok 4 rfl ?_
      refine RJ.fin [(4, .bool (Op.bytesLess a1 a0.2.1))] rfl ?_
      refine J.ret ?_
      obtain rfl := Option.some.inj H
      exact ⟨_, _, _, (results_slots rfl), ⟨rfl, rfl⟩, h1.only [] rfl⟩
  · replace H := ite_f c1 H
    refine RJ.know (t := 9) rfl (congrArg Value.bool c1) ?_
    refine RJ.run ttok 10 rfl ?_
    refine RJ.fin [(4, .bool false)] rfl ?_
    refine J.ret ?_
    obtain rfl := Option.some.inj H
    exact ⟨_, _, _, (results_slots rfl), ⟨rfl, rfl⟩, h1.only [] rfl⟩

/-! sluicegate/sluicegatelaw01.awake -/
def sluicegatelaw01_awake.f (k : Nat)  : Option (Bool) := (lex_Cut.f k ([97, 98, 99] : List UInt8) ([97, 98, 120] : List UInt8)).bind fun r1 => ((lex_Meet.f (([97] : List UInt8), ([99] : List UInt8), false) (([98] : List UInt8), ([] : List UInt8), true)).bind fun r2 => (if (decide (r1.1 = ([97, 98, 120] : List UInt8))) = true then (if r1.2 = true then ((lex_Shared.f k ([97, 98, 99] : List UInt8) ([97, 98, 120] : List UInt8)).bind fun r3 => (if (decide (r3 = 2)) = true then (if ((decide (r2.1.1 = ([98] : List UInt8))) && ((decide (r2.1.2.1 = ([99] : List UInt8))) && ((r2.1.2.2 == false) && true))) = true then (if r2.2 = true then ((lex_All.f).bind fun r4 => ((lex_In.f (r4.1, r4.2.1, r4.2.2) ([] : List UInt8)).bind fun r5 => (some r5))) else (some false)) else (some false)) else (some false))) else (some false)) else (some false)))
set_option maxRecDepth 20000 in
theorem sluicegatelaw01_awake.spec {k : Nat}   {r : Bool} (H : sluicegatelaw01_awake.f k  = some r) :
    Spec Try.prog 14 [] [] [] (fun v l => v = .bool r ∧ l = []) := by
  refine Spec.enter Try.func14 rfl (by kernel_rfl) (by kernel_rfl) fun w0 F0 h0 => ?_
  unfold sluicegatelaw01_awake.f at H
  refine J.seq ?_
  refine J.region ?_
  refine RJ.run ttok 1 rfl ?_
  refine RJ.fin [] rfl ?_
  refine J.seq ?_
  refine J.region ?_
  obtain ⟨r1, q1, H⟩ := bind_t H
  refine RJ.op rfl rfl (op_call [] (lex_Cut.spec q1) rfl rfl rfl h0 rfl gnil) ?_
  rintro _ w1 ⟨_, ⟨rfl, rfl⟩, h1⟩
  refine RJ.run ttok 5 rfl ?_
  refine RJ.fin [(1, .string ⟨⟨r1.1⟩⟩), (2, .bool r1.2)] rfl ?_
  refine J.seq ?_
  refine J.region ?_
  refine RJ.run ttok 2 rfl ?_
  obtain ⟨r2, q2, H⟩ := bind_t H
  refine RJ.op rfl rfl (op_call [] (lex_Meet.spec q2) rfl rfl rfl h1 rfl gnil) ?_
  rintro _ w2 ⟨_, ⟨rfl, rfl⟩, h2⟩
  refine RJ.run ttok 3 rfl ?_
  refine RJ.op rfl rfl (op_alloc ttok rfl rfl h2) ?_
  rintro _ w3 ⟨b1, rfl, h3⟩
  refine RJ.op rfl rfl (op_store ttok 0 rfl h3 rfl rfl rfl rfl rfl rfl rfl) ?_
  intro _ w4 h4
  replace h4 : St w0 F0 (boxC b1 23 [.string ⟨⟨r2.1.1⟩⟩, .string ⟨⟨r2.1.2.1⟩⟩, .bool r2.1.2.2] :: _) _ w4 := h4
  refine RJ.run ttok 1 rfl ?_
  refine RJ.fin [(1, .string ⟨⟨r1.1⟩⟩), (2, .bool r1.2), (3, .pointer (some ⟨b1, 0, none⟩)), (4, .bool r2.2)] rfl ?_
  refine J.seq ?_
  refine J.region ?_
  refine RJ.run ttok 3 rfl ?_
  rcases Bool.eq_false_or_eq_true (decide (r1.1 = ([97, 98, 120] : List UInt8))) with c1 | c1
  · replace H := ite_t c1 H
    refine RJ.know (t := 17) rfl (congrArg Value.bool c1) ?_
    refine RJ.run ttok 3 rfl ?_
    rcases Bool.eq_false_or_eq_true r1.2 with c2 | c2
    · replace H := ite_t c2 H
      refine RJ.know (t := 20) rfl (congrArg Value.bool c2) ?_
      obtain ⟨r3, q3, H⟩ := bind_t H
      refine RJ.op rfl rfl (op_call [] (lex_Shared.spec q3) rfl rfl rfl h4 rfl gnil) ?_
      rintro _ w5 ⟨_, ⟨rfl, rfl⟩, h5⟩
      refine RJ.run ttok 3 rfl ?_
      rcases Bool.eq_false_or_eq_true (decide (r3 = 2)) with c3 | c3
      · replace H := ite_t c3 H
        refine RJ.know (t := 24) rfl (congrArg Value.bool c3) ?_
        refine RJ.q rfl rfl (q_load_box ttok 0 (fun w e => e ▸ h5.wh) rfl rfl rfl rfl rfl) ?_
        refine RJ.run ttok 4 rfl ?_
        rcases Bool.eq_false_or_eq_true ((decide (r2.1.1 = ([98] : List UInt8))) && ((decide (r2.1.2.1 = ([99] : List UInt8))) && ((r2.1.2.2 == false) && true))) with c4 | c4
        · replace H := ite_t c4 H
          refine RJ.know (t := 29) rfl (congrArg Value.bool c4) ?_
          refine RJ.run ttok 3 rfl ?_
          rcases Bool.eq_false_or_eq_true r2.2 with c5 | c5
          · replace H := ite_t c5 H
            refine RJ.know (t := 32) rfl (congrArg Value.bool c5) ?_
            obtain ⟨r4, q4, H⟩ := bind_t H
            refine RJ.op rfl rfl (op_call [] (lex_All.spec q4) rfl rfl rfl h5 rfl gnil) ?_
            rintro _ w6 ⟨_, ⟨rfl, rfl⟩, h6⟩
            obtain ⟨r5, q5, H⟩ := bind_t H
            refine RJ.op rfl rfl (op_call [] (lex_In.spec q5) rfl rfl rfl h6 rfl gnil) ?_
            rintro _ w7 ⟨_, ⟨rfl, rfl⟩, h7⟩
            refine RJ.run ttok 2 rfl ?_
            refine RJ.fin [(0, .bool r5)] rfl ?_
            refine J.ret ?_
            obtain rfl := Option.some.inj H
            exact ⟨_, _, _, (results_slots rfl), ⟨rfl, rfl⟩, h7.only [] rfl⟩
          · replace H := ite_f c5 H
            refine RJ.know (t := 32) rfl (congrArg Value.bool c5) ?_
            refine RJ.run ttok 4 rfl ?_
            refine RJ.fin [(0, .bool false)] rfl ?_
            refine J.ret ?_
            obtain rfl := Option.some.inj H
            exact ⟨_, _, _, (results_slots rfl), ⟨rfl, rfl⟩, h5.only [] rfl⟩
        · replace H := ite_f c4 H
          refine RJ.know (t := 29) rfl (congrArg Value.bool c4) ?_
          refine RJ.run ttok 7 rfl ?_
          refine RJ.fin [(0, .bool false)] rfl ?_
          refine J.ret ?_
          obtain rfl := Option.some.inj H
          exact ⟨_, _, _, (results_slots rfl), ⟨rfl, rfl⟩, h5.only [] rfl⟩
      · replace H := ite_f c3 H
        refine RJ.know (t := 24) rfl (congrArg Value.bool c3) ?_
        refine RJ.run ttok 12 rfl ?_
        refine RJ.fin [(0, .bool false)] rfl ?_
        refine J.ret ?_
        obtain rfl := Option.some.inj H
        exact ⟨_, _, _, (results_slots rfl), ⟨rfl, rfl⟩, h5.only [] rfl⟩
    · replace H := ite_f c2 H
      refine RJ.know (t := 20) rfl (congrArg Value.bool c2) ?_
      refine RJ.run ttok 16 rfl ?_
      refine RJ.fin [(0, .bool false)] rfl ?_
      refine J.ret ?_
      obtain rfl := Option.some.inj H
      exact ⟨_, _, _, (results_slots rfl), ⟨rfl, rfl⟩, h4.only [] rfl⟩
  · replace H := ite_f c1 H
    refine RJ.know (t := 17) rfl (congrArg Value.bool c1) ?_
    refine RJ.run ttok 19 rfl ?_
    refine RJ.fin [(0, .bool false)] rfl ?_
    refine J.ret ?_
    obtain rfl := Option.some.inj H
    exact ⟨_, _, _, (results_slots rfl), ⟨rfl, rfl⟩, h4.only [] rfl⟩

/-! sluicegate/sluicegatelaw01.LexRow -/
def sluicegatelaw01_LexRow.f (k : Nat) (a0 : List UInt8) (a1 : List UInt8) (a2 : List UInt8) : Option (Bool) := (lex_Compare.f a0 a1).bind fun r1 => ((lex_Compare.f a1 a2).bind fun r2 => ((lex_Compare.f a0 a2).bind fun r3 => ((lex_Compare.f a1 a0).bind fun r4 => (if (!decide (r1 = (w64 (0 - r4)))) = true then (some false) else (if (decide (r1 ≤ 0)) = true then (if (decide (r2 ≤ 0)) = true then (if (decide (0 < r3)) = true then (some false) else (if (decide (r1 < 0)) = true then (if (decide (r2 < 0)) = true then (if (decide (0 ≤ r3)) = true then (some false) else (if (!((decide (r1 = 0)) == (decide (a0 = a1)))) = true then (some false) else ((lex_Next.f a0).bind fun r5 => ((lex_Compare.f a0 r5).bind fun r6 => (if (!decide (r6 = (-1))) = true then (some false) else ((lex_Compare.f a0 a1).bind fun r7 => (if (decide (r7 < 0)) = true then ((lex_Compare.f a1 r5).bind fun r8 => (if (decide (r8 < 0)) = true then (some false) else ((lex_Cut.f k a0 a1).bind fun r9 => (if (r9.2 == (decide (r1 < 0))) = true then (if (!r9.2) = true then ((sluicegatelaw01_awake.f k).bind fun r10 => (some r10)) else ((lex_Compare.f a0 r9.1).bind fun r11 => (if (decide (r11 < 0)) = true then ((lex_Compare.f r9.1 a1).bind fun r12 => (if (decide (r12 ≤ 0)) = true then (if (decide ((r9.1.length : Int) ≤ (a1.length : Int))) = true then ((sluicegatelaw01_awake.f k).bind fun r13 => (some r13)) else (some false)) else (some false))) else (some false)))) else (some false))))) else ((lex_Cut.f k a0 a1).bind fun r14 => (if (r14.2 == (decide (r1 < 0))) = true then (if (!r14.2) = true then ((sluicegatelaw01_awake.f k).bind fun r15 => (some r15)) else ((lex_Compare.f a0 r14.1).bind fun r16 => (if (decide (r16 < 0)) = true then ((lex_Compare.f r14.1 a1).bind fun r17 => (if (decide (r17 ≤ 0)) = true then (if (decide ((r14.1.length : Int) ≤ (a1.length : Int))) = true then ((sluicegatelaw01_awake.f k).bind fun r18 => (some r18)) else (some false)) else (some false))) else (some false)))) else (some false)))))))))) else (if (!((decide (r1 = 0)) == (decide (a0 = a1)))) = true then (some false) else ((lex_Next.f a0).bind fun r19 => ((lex_Compare.f a0 r19).bind fun r20 => (if (!decide (r20 = (-1))) = true then (some false) else ((lex_Compare.f a0 a1).bind fun r21 => (if (decide (r21 < 0)) = true then ((lex_Compare.f a1 r19).bind fun r22 => (if (decide (r22 < 0)) = true then (some false) else ((lex_Cut.f k a0 a1).bind fun r23 => (if (r23.2 == (decide (r1 < 0))) = true then (if (!r23.2) = true then ((sluicegatelaw01_awake.f k).bind fun r24 => (some r24)) else ((lex_Compare.f a0 r23.1).bind fun r25 => (if (decide (r25 < 0)) = true then ((lex_Compare.f r23.1 a1).bind fun r26 => (if (decide (r26 ≤ 0)) = true then (if (decide ((r23.1.length : Int) ≤ (a1.length : Int))) = true then ((sluicegatelaw01_awake.f k).bind fun r27 => (some r27)) else (some false)) else (some false))) else (some false)))) else (some false))))) else ((lex_Cut.f k a0 a1).bind fun r28 => (if (r28.2 == (decide (r1 < 0))) = true then (if (!r28.2) = true then ((sluicegatelaw01_awake.f k).bind fun r29 => (some r29)) else ((lex_Compare.f a0 r28.1).bind fun r30 => (if (decide (r30 < 0)) = true then ((lex_Compare.f r28.1 a1).bind fun r31 => (if (decide (r31 ≤ 0)) = true then (if (decide ((r28.1.length : Int) ≤ (a1.length : Int))) = true then ((sluicegatelaw01_awake.f k).bind fun r32 => (some r32)) else (some false)) else (some false))) else (some false)))) else (some false)))))))))) else (if (!((decide (r1 = 0)) == (decide (a0 = a1)))) = true then (some false) else ((lex_Next.f a0).bind fun r33 => ((lex_Compare.f a0 r33).bind fun r34 => (if (!decide (r34 = (-1))) = true then (some false) else ((lex_Compare.f a0 a1).bind fun r35 => (if (decide (r35 < 0)) = true then ((lex_Compare.f a1 r33).bind fun r36 => (if (decide (r36 < 0)) = true then (some false) else ((lex_Cut.f k a0 a1).bind fun r37 => (if (r37.2 == (decide (r1 < 0))) = true then (if (!r37.2) = true then ((sluicegatelaw01_awake.f k).bind fun r38 => (some r38)) else ((lex_Compare.f a0 r37.1).bind fun r39 => (if (decide (r39 < 0)) = true then ((lex_Compare.f r37.1 a1).bind fun r40 => (if (decide (r40 ≤ 0)) = true then (if (decide ((r37.1.length : Int) ≤ (a1.length : Int))) = true then ((sluicegatelaw01_awake.f k).bind fun r41 => (some r41)) else (some false)) else (some false))) else (some false)))) else (some false))))) else ((lex_Cut.f k a0 a1).bind fun r42 => (if (r42.2 == (decide (r1 < 0))) = true then (if (!r42.2) = true then ((sluicegatelaw01_awake.f k).bind fun r43 => (some r43)) else ((lex_Compare.f a0 r42.1).bind fun r44 => (if (decide (r44 < 0)) = true then ((lex_Compare.f r42.1 a1).bind fun r45 => (if (decide (r45 ≤ 0)) = true then (if (decide ((r42.1.length : Int) ≤ (a1.length : Int))) = true then ((sluicegatelaw01_awake.f k).bind fun r46 => (some r46)) else (some false)) else (some false))) else (some false)))) else (some false))))))))))) else (if (decide (r1 < 0)) = true then (if (decide (r2 < 0)) = true then (if (decide (0 ≤ r3)) = true then (some false) else (if (!((decide (r1 = 0)) == (decide (a0 = a1)))) = true then (some false) else ((lex_Next.f a0).bind fun r47 => ((lex_Compare.f a0 r47).bind fun r48 => (if (!decide (r48 = (-1))) = true then (some false) else ((lex_Compare.f a0 a1).bind fun r49 => (if (decide (r49 < 0)) = true then ((lex_Compare.f a1 r47).bind fun r50 => (if (decide (r50 < 0)) = true then (some false) else ((lex_Cut.f k a0 a1).bind fun r51 => (if (r51.2 == (decide (r1 < 0))) = true then (if (!r51.2) = true then ((sluicegatelaw01_awake.f k).bind fun r52 => (some r52)) else ((lex_Compare.f a0 r51.1).bind fun r53 => (if (decide (r53 < 0)) = true then ((lex_Compare.f r51.1 a1).bind fun r54 => (if (decide (r54 ≤ 0)) = true then (if (decide ((r51.1.length : Int) ≤ (a1.length : Int))) = true then ((sluicegatelaw01_awake.f k).bind fun r55 => (some r55)) else (some false)) else (some false))) else (some false)))) else (some false))))) else ((lex_Cut.f k a0 a1).bind fun r56 => (if (r56.2 == (decide (r1 < 0))) = true then (if (!r56.2) = true then ((sluicegatelaw01_awake.f k).bind fun r57 => (some r57)) else ((lex_Compare.f a0 r56.1).bind fun r58 => (if (decide (r58 < 0)) = true then ((lex_Compare.f r56.1 a1).bind fun r59 => (if (decide (r59 ≤ 0)) = true then (if (decide ((r56.1.length : Int) ≤ (a1.length : Int))) = true then ((sluicegatelaw01_awake.f k).bind fun r60 => (some r60)) else (some false)) else (some false))) else (some false)))) else (some false)))))))))) else (if (!((decide (r1 = 0)) == (decide (a0 = a1)))) = true then (some false) else ((lex_Next.f a0).bind fun r61 => ((lex_Compare.f a0 r61).bind fun r62 => (if (!decide (r62 = (-1))) = true then (some false) else ((lex_Compare.f a0 a1).bind fun r63 => (if (decide (r63 < 0)) = true then ((lex_Compare.f a1 r61).bind fun r64 => (if (decide (r64 < 0)) = true then (some false) else ((lex_Cut.f k a0 a1).bind fun r65 => (if (r65.2 == (decide (r1 < 0))) = true then (if (!r65.2) = true then ((sluicegatelaw01_awake.f k).bind fun r66 => (some r66)) else ((lex_Compare.f a0 r65.1).bind fun r67 => (if (decide (r67 < 0)) = true then ((lex_Compare.f r65.1 a1).bind fun r68 => (if (decide (r68 ≤ 0)) = true then (if (decide ((r65.1.length : Int) ≤ (a1.length : Int))) = true then ((sluicegatelaw01_awake.f k).bind fun r69 => (some r69)) else (some false)) else (some false))) else (some false)))) else (some false))))) else ((lex_Cut.f k a0 a1).bind fun r70 => (if (r70.2 == (decide (r1 < 0))) = true then (if (!r70.2) = true then ((sluicegatelaw01_awake.f k).bind fun r71 => (some r71)) else ((lex_Compare.f a0 r70.1).bind fun r72 => (if (decide (r72 < 0)) = true then ((lex_Compare.f r70.1 a1).bind fun r73 => (if (decide (r73 ≤ 0)) = true then (if (decide ((r70.1.length : Int) ≤ (a1.length : Int))) = true then ((sluicegatelaw01_awake.f k).bind fun r74 => (some r74)) else (some false)) else (some false))) else (some false)))) else (some false)))))))))) else (if (!((decide (r1 = 0)) == (decide (a0 = a1)))) = true then (some false) else ((lex_Next.f a0).bind fun r75 => ((lex_Compare.f a0 r75).bind fun r76 => (if (!decide (r76 = (-1))) = true then (some false) else ((lex_Compare.f a0 a1).bind fun r77 => (if (decide (r77 < 0)) = true then ((lex_Compare.f a1 r75).bind fun r78 => (if (decide (r78 < 0)) = true then (some false) else ((lex_Cut.f k a0 a1).bind fun r79 => (if (r79.2 == (decide (r1 < 0))) = true then (if (!r79.2) = true then ((sluicegatelaw01_awake.f k).bind fun r80 => (some r80)) else ((lex_Compare.f a0 r79.1).bind fun r81 => (if (decide (r81 < 0)) = true then ((lex_Compare.f r79.1 a1).bind fun r82 => (if (decide (r82 ≤ 0)) = true then (if (decide ((r79.1.length : Int) ≤ (a1.length : Int))) = true then ((sluicegatelaw01_awake.f k).bind fun r83 => (some r83)) else (some false)) else (some false))) else (some false)))) else (some false))))) else ((lex_Cut.f k a0 a1).bind fun r84 => (if (r84.2 == (decide (r1 < 0))) = true then (if (!r84.2) = true then ((sluicegatelaw01_awake.f k).bind fun r85 => (some r85)) else ((lex_Compare.f a0 r84.1).bind fun r86 => (if (decide (r86 < 0)) = true then ((lex_Compare.f r84.1 a1).bind fun r87 => (if (decide (r87 ≤ 0)) = true then (if (decide ((r84.1.length : Int) ≤ (a1.length : Int))) = true then ((sluicegatelaw01_awake.f k).bind fun r88 => (some r88)) else (some false)) else (some false))) else (some false)))) else (some false))))))))))) else (if (decide (r1 < 0)) = true then (if (decide (r2 < 0)) = true then (if (decide (0 ≤ r3)) = true then (some false) else (if (!((decide (r1 = 0)) == (decide (a0 = a1)))) = true then (some false) else ((lex_Next.f a0).bind fun r89 => ((lex_Compare.f a0 r89).bind fun r90 => (if (!decide (r90 = (-1))) = true then (some false) else ((lex_Compare.f a0 a1).bind fun r91 => (if (decide (r91 < 0)) = true then ((lex_Compare.f a1 r89).bind fun r92 => (if (decide (r92 < 0)) = true then (some false) else ((lex_Cut.f k a0 a1).bind fun r93 => (if (r93.2 == (decide (r1 < 0))) = true then (if (!r93.2) = true then ((sluicegatelaw01_awake.f k).bind fun r94 => (some r94)) else ((lex_Compare.f a0 r93.1).bind fun r95 => (if (decide (r95 < 0)) = true then ((lex_Compare.f r93.1 a1).bind fun r96 => (if (decide (r96 ≤ 0)) = true then (if (decide ((r93.1.length : Int) ≤ (a1.length : Int))) = true then ((sluicegatelaw01_awake.f k).bind fun r97 => (some r97)) else (some false)) else (some false))) else (some false)))) else (some false))))) else ((lex_Cut.f k a0 a1).bind fun r98 => (if (r98.2 == (decide (r1 < 0))) = true then (if (!r98.2) = true then ((sluicegatelaw01_awake.f k).bind fun r99 => (some r99)) else ((lex_Compare.f a0 r98.1).bind fun r100 => (if (decide (r100 < 0)) = true then ((lex_Compare.f r98.1 a1).bind fun r101 => (if (decide (r101 ≤ 0)) = true then (if (decide ((r98.1.length : Int) ≤ (a1.length : Int))) = true then ((sluicegatelaw01_awake.f k).bind fun r102 => (some r102)) else (some false)) else (some false))) else (some false)))) else (some false)))))))))) else (if (!((decide (r1 = 0)) == (decide (a0 = a1)))) = true then (some false) else ((lex_Next.f a0).bind fun r103 => ((lex_Compare.f a0 r103).bind fun r104 => (if (!decide (r104 = (-1))) = true then (some false) else ((lex_Compare.f a0 a1).bind fun r105 => (if (decide (r105 < 0)) = true then ((lex_Compare.f a1 r103).bind fun r106 => (if (decide (r106 < 0)) = true then (some false) else ((lex_Cut.f k a0 a1).bind fun r107 => (if (r107.2 == (decide (r1 < 0))) = true then (if (!r107.2) = true then ((sluicegatelaw01_awake.f k).bind fun r108 => (some r108)) else ((lex_Compare.f a0 r107.1).bind fun r109 => (if (decide (r109 < 0)) = true then ((lex_Compare.f r107.1 a1).bind fun r110 => (if (decide (r110 ≤ 0)) = true then (if (decide ((r107.1.length : Int) ≤ (a1.length : Int))) = true then ((sluicegatelaw01_awake.f k).bind fun r111 => (some r111)) else (some false)) else (some false))) else (some false)))) else (some false))))) else ((lex_Cut.f k a0 a1).bind fun r112 => (if (r112.2 == (decide (r1 < 0))) = true then (if (!r112.2) = true then ((sluicegatelaw01_awake.f k).bind fun r113 => (some r113)) else ((lex_Compare.f a0 r112.1).bind fun r114 => (if (decide (r114 < 0)) = true then ((lex_Compare.f r112.1 a1).bind fun r115 => (if (decide (r115 ≤ 0)) = true then (if (decide ((r112.1.length : Int) ≤ (a1.length : Int))) = true then ((sluicegatelaw01_awake.f k).bind fun r116 => (some r116)) else (some false)) else (some false))) else (some false)))) else (some false)))))))))) else (if (!((decide (r1 = 0)) == (decide (a0 = a1)))) = true then (some false) else ((lex_Next.f a0).bind fun r117 => ((lex_Compare.f a0 r117).bind fun r118 => (if (!decide (r118 = (-1))) = true then (some false) else ((lex_Compare.f a0 a1).bind fun r119 => (if (decide (r119 < 0)) = true then ((lex_Compare.f a1 r117).bind fun r120 => (if (decide (r120 < 0)) = true then (some false) else ((lex_Cut.f k a0 a1).bind fun r121 => (if (r121.2 == (decide (r1 < 0))) = true then (if (!r121.2) = true then ((sluicegatelaw01_awake.f k).bind fun r122 => (some r122)) else ((lex_Compare.f a0 r121.1).bind fun r123 => (if (decide (r123 < 0)) = true then ((lex_Compare.f r121.1 a1).bind fun r124 => (if (decide (r124 ≤ 0)) = true then (if (decide ((r121.1.length : Int) ≤ (a1.length : Int))) = true then ((sluicegatelaw01_awake.f k).bind fun r125 => (some r125)) else (some false)) else (some false))) else (some false)))) else (some false))))) else ((lex_Cut.f k a0 a1).bind fun r126 => (if (r126.2 == (decide (r1 < 0))) = true then (if (!r126.2) = true then ((sluicegatelaw01_awake.f k).bind fun r127 => (some r127)) else ((lex_Compare.f a0 r126.1).bind fun r128 => (if (decide (r128 < 0)) = true then ((lex_Compare.f r126.1 a1).bind fun r129 => (if (decide (r129 ≤ 0)) = true then (if (decide ((r126.1.length : Int) ≤ (a1.length : Int))) = true then ((sluicegatelaw01_awake.f k).bind fun r130 => (some r130)) else (some false)) else (some false))) else (some false)))) else (some false)))))))))))))))
set_option maxRecDepth 20000 in
theorem sluicegatelaw01_LexRow.spec {k : Nat} {a0 : List UInt8} {a1 : List UInt8} {a2 : List UInt8}  {r : Bool} (H : sluicegatelaw01_LexRow.f k a0 a1 a2 = some r) :
    Spec Try.prog 6 [.string ⟨⟨a0⟩⟩, .string ⟨⟨a1⟩⟩, .string ⟨⟨a2⟩⟩] [] [] (fun v l => v = .bool r ∧ l = []) := by
  refine Spec.enter Try.func6 rfl (by kernel_rfl) (by kernel_rfl) fun w0 F0 h0 => ?_
  unfold sluicegatelaw01_LexRow.f at H
  refine J.seq ?_
  refine J.region ?_
  refine RJ.run ttok 1 rfl ?_
  refine RJ.fin [(0, .string ⟨⟨a0⟩⟩), (1, .string ⟨⟨a1⟩⟩), (2, .string ⟨⟨a2⟩⟩)] rfl ?_
  refine J.seq ?_
  refine J.region ?_
  refine RJ.run ttok 2 rfl ?_
  obtain ⟨r1, q1, H⟩ := bind_t H
  refine RJ.op rfl rfl (op_call [] (lex_Compare.spec q1) rfl rfl rfl h0 rfl gnil) ?_
  rintro _ w1 ⟨_, ⟨rfl, rfl⟩, h1⟩
  refine RJ.run ttok 2 rfl ?_
  obtain ⟨r2, q2, H⟩ := bind_t H
  refine RJ.op rfl rfl (op_call [] (lex_Compare.spec q2) rfl rfl rfl h1 rfl gnil) ?_
  rintro _ w2 ⟨_, ⟨rfl, rfl⟩, h2⟩
  refine RJ.run ttok 2 rfl ?_
  obtain ⟨r3, q3, H⟩ := bind_t H
  refine RJ.op rfl rfl (op_call [] (lex_Compare.spec q3) rfl rfl rfl h2 rfl gnil) ?_
  rintro _ w3 ⟨_, ⟨rfl, rfl⟩, h3⟩
  refine RJ.run ttok 3 rfl ?_
  refine RJ.fin [(0, .string ⟨⟨a0⟩⟩), (1, .string ⟨⟨a1⟩⟩), (7, .int .i64 r1), (8, .int .i64 r2), (9, .int .i64 r3)] rfl ?_
  refine J.seq ?_
  refine J.seq ?_
  refine J.region ?_
  refine RJ.run ttok 3 rfl ?_
  obtain ⟨r4, q4, H⟩ := bind_t H
  refine RJ.op rfl rfl (op_call [] (lex_Compare.spec q4) rfl rfl rfl h3 rfl gnil) ?_
  rintro _ w4 ⟨_, ⟨rfl, rfl⟩, h4⟩
  refine RJ.run ttok 3 rfl ?_
  rcases Bool.eq_false_or_eq_true (!decide (r1 = (w64 (0 - r4)))) with c1 | c1
  · replace H := ite_t c1 H
    refine RJ.know (t := 28) rfl (congrArg Value.bool c1) ?_
    refine RJ.run ttok 31 rfl ?_
    refine RJ.fin [(0, .string ⟨⟨a0⟩⟩), (1, .string ⟨⟨a1⟩⟩), (7, .int .i64 r1), (59, .bool true)] rfl ?_
    refine J.condT rfl ?_
    refine J.seq ?_
    refine J.region ?_
    refine RJ.run ttok 1 rfl ?_
    refine RJ.fin [(6, .bool false)] rfl ?_
    refine J.ret ?_
    obtain rfl := Option.some.inj H
    exact ⟨_, _, _, (results_slots rfl), ⟨rfl, rfl⟩, h4.only [] rfl⟩
  · replace H := ite_f c1 H
    refine RJ.know (t := 28) rfl (congrArg Value.bool c1) ?_
    refine RJ.run ttok 3 rfl ?_
    rcases Bool.eq_false_or_eq_true (decide (r1 ≤ 0)) with c2 | c2
    · replace H := ite_t c2 H
      refine RJ.know (t := 31) rfl (congrArg Value.bool c2) ?_
      refine RJ.run ttok 4 rfl ?_
      rcases Bool.eq_false_or_eq_true (decide (r2 ≤ 0)) with c3 | c3
      · replace H := ite_t c3 H
        refine RJ.know (t := 35) rfl (congrArg Value.bool c3) ?_
        refine RJ.run ttok 5 rfl ?_
        rcases Bool.eq_false_or_eq_true (decide (0 < r3)) with c4 | c4
        · replace H := ite_t c4 H
          refine RJ.know (t := 40) rfl (congrArg Value.bool c4) ?_
          refine RJ.run ttok 19 rfl ?_
          refine RJ.fin [(0, .string ⟨⟨a0⟩⟩), (1, .string ⟨⟨a1⟩⟩), (7, .int .i64 r1), (59, .bool true)] rfl ?_
          refine J.condT rfl ?_
          refine J.seq ?_
          refine J.region ?_
          refine RJ.run ttok 1 rfl ?_
          refine RJ.fin [(6, .bool false)] rfl ?_
          refine J.ret ?_
          obtain rfl := Option.some.inj H
          exact ⟨_, _, _, (results_slots rfl), ⟨rfl, rfl⟩, h4.only [] rfl⟩
        · replace H := ite_f c4 H
          refine RJ.know (t := 40) rfl (congrArg Value.bool c4) ?_
          refine RJ.run ttok 3 rfl ?_
          rcases Bool.eq_false_or_eq_true (decide (r1 < 0)) with c5 | c5
          · replace H := ite_t c5 H
            refine RJ.know (t := 43) rfl (congrArg Value.bool c5) ?_
            refine RJ.run ttok 4 rfl ?_
            rcases Bool.eq_false_or_eq_true (decide (r2 < 0)) with c6 | c6
            · replace H := ite_t c6 H
              refine RJ.know (t := 47) rfl (congrArg Value.bool c6) ?_
              refine RJ.run ttok 5 rfl ?_
              rcases Bool.eq_false_or_eq_true (decide (0 ≤ r3)) with c7 | c7
              · replace H := ite_t c7 H
                refine RJ.know (t := 52) rfl (congrArg Value.bool c7) ?_
                refine RJ.run ttok 7 rfl ?_
                refine RJ.fin [(0, .string ⟨⟨a0⟩⟩), (1, .string ⟨⟨a1⟩⟩), (7, .int .i64 r1), (59, .bool true)] rfl ?_
                refine J.condT rfl ?_
                refine J.seq ?_
                refine J.region ?_
                refine RJ.run ttok 1 rfl ?_
                refine RJ.fin [(6, .bool false)] rfl ?_
                refine J.ret ?_
                obtain rfl := Option.some.inj H
                exact ⟨_, _, _, (results_slots rfl), ⟨rfl, rfl⟩, h4.only [] rfl⟩
              · replace H := ite_f c7 H
                refine RJ.know (t := 52) rfl (congrArg Value.bool c7) ?_
                refine RJ.run ttok 7 rfl ?_
                refine RJ.fin [(0, .string ⟨⟨a0⟩⟩), (1, .string ⟨⟨a1⟩⟩), (7, .int .i64 r1), (59, .bool (!((decide (r1 = 0)) == (decide (a0 = a1)))))] rfl ?_
                refine J.cond rfl (fun c8 => ?_) (fun c8 => ?_)
                · replace H := ite_t c8 H
                  refine J.seq ?_
                  refine J.region ?_
                  refine RJ.run ttok 1 rfl ?_
                  refine RJ.fin [(6, .bool false)] rfl ?_
                  refine J.ret ?_
                  obtain rfl := Option.some.inj H
                  exact ⟨_, _, _, (results_slots rfl), ⟨rfl, rfl⟩, h4.only [] rfl⟩
                · replace H := ite_f c8 H
                  refine J.skip ?_
                  refine J.seq ?_
                  refine J.region ?_
                  refine RJ.run ttok 1 rfl ?_
                  obtain ⟨r5, q5, H⟩ := bind_t H
                  refine RJ.op rfl rfl (op_call [] (lex_Next.spec q5) rfl rfl rfl h4 rfl gnil) ?_
                  rintro _ w5 ⟨_, ⟨rfl, rfl⟩, h5⟩
                  refine RJ.run ttok 1 rfl ?_
                  refine RJ.fin [(0, .string ⟨⟨a0⟩⟩), (1, .string ⟨⟨a1⟩⟩), (7, .int .i64 r1), (10, .string ⟨⟨r5⟩⟩)] rfl ?_
                  refine J.seq ?_
                  refine J.seq ?_
                  refine J.region ?_
                  refine RJ.run ttok 2 rfl ?_
                  obtain ⟨r6, q6, H⟩ := bind_t H
                  refine RJ.op rfl rfl (op_call [] (lex_Compare.spec q6) rfl rfl rfl h5 rfl gnil) ?_
                  rintro _ w6 ⟨_, ⟨rfl, rfl⟩, h6⟩
                  refine RJ.run ttok 2 rfl ?_
                  rcases Bool.eq_false_or_eq_true (!decide (r6 = (-1))) with c9 | c9
                  · replace H := ite_t c9 H
                    refine RJ.know (t := 66) rfl (congrArg Value.bool c9) ?_
                    refine RJ.run ttok 11 rfl ?_
                    refine RJ.fin [(0, .string ⟨⟨a0⟩⟩), (1, .string ⟨⟨a1⟩⟩), (7, .int .i64 r1), (77, .bool true)] rfl ?_
                    refine J.condT rfl ?_
                    refine J.seq ?_
                    refine J.region ?_
                    refine RJ.run ttok 1 rfl ?_
                    refine RJ.fin [(6, .bool false)] rfl ?_
                    refine J.ret ?_
                    obtain rfl := Option.some.inj H
                    exact ⟨_, _, _, (results_slots rfl), ⟨rfl, rfl⟩, h6.only [] rfl⟩
                  · replace H := ite_f c9 H
                    refine RJ.know (t := 66) rfl (congrArg Value.bool c9) ?_
                    refine RJ.run ttok 2 rfl ?_
                    obtain ⟨r7, q7, H⟩ := bind_t H
                    refine RJ.op rfl rfl (op_call [] (lex_Compare.spec q7) rfl rfl rfl h6 rfl gnil) ?_
                    rintro _ w7 ⟨_, ⟨rfl, rfl⟩, h7⟩
                    refine RJ.run ttok 2 rfl ?_
                    rcases Bool.eq_false_or_eq_true (decide (r7 < 0)) with c10 | c10
                    · replace H := ite_t c10 H
                      refine RJ.know (t := 71) rfl (congrArg Value.bool c10) ?_
                      refine RJ.run ttok 2 rfl ?_
                      obtain ⟨r8, q8, H⟩ := bind_t H
                      refine RJ.op rfl rfl (op_call [] (lex_Compare.spec q8) rfl rfl rfl h7 rfl gnil) ?_
                      rintro _ w8 ⟨_, ⟨rfl, rfl⟩, h8⟩
                      refine RJ.run ttok 3 rfl ?_
                      refine RJ.fin [(0, .string ⟨⟨a0⟩⟩), (1, .string ⟨⟨a1⟩⟩), (7, .int .i64 r1), (77, .bool (decide (r8 < 0)))] rfl ?_
                      refine J.cond rfl (fun c11 => ?_) (fun c11 => ?_)
                      · replace H := ite_t c11 H
                        refine J.seq ?_
                        refine J.region ?_
                        refine RJ.run ttok 1 rfl ?_
                        refine RJ.fin [(6, .bool false)] rfl ?_
                        refine J.ret ?_
                        obtain rfl := Option.some.inj H
                        exact ⟨_, _, _, (results_slots rfl), ⟨rfl, rfl⟩, h8.only [] rfl⟩
                      · replace H := ite_f c11 H
                        refine J.skip ?_
                        refine J.seq ?_
                        refine J.region ?_
                        refine RJ.run ttok 2 rfl ?_
                        obtain ⟨r9, q9, H⟩ := bind_t H
                        refine RJ.op rfl rfl (op_call [] (lex_Cut.spec q9) rfl rfl rfl h8 rfl gnil) ?_
                        rintro _ w9 ⟨_, ⟨rfl, rfl⟩, h9⟩
                        refine RJ.run ttok 5 rfl ?_
                        refine RJ.fin [(0, .string ⟨⟨a0⟩⟩), (1, .string ⟨⟨a1⟩⟩), (7, .int .i64 r1), (11, .string ⟨⟨r9.1⟩⟩), (12, .bool r9.2)] rfl ?_
                        refine J.seq ?_
                        refine J.region ?_
                        refine RJ.run ttok 5 rfl ?_
                        rcases Bool.eq_false_or_eq_true (r9.2 == (decide (r1 < 0))) with c12 | c12
                        · replace H := ite_t c12 H
                          refine RJ.know (t := 88) rfl (congrArg Value.bool c12) ?_
                          refine RJ.run ttok 3 rfl ?_
                          rcases Bool.eq_false_or_eq_true (!r9.2) with c13 | c13
                          · replace H := ite_t c13 H
                            refine RJ.know (t := 91) rfl (congrArg Value.bool c13) ?_
                            refine RJ.run ttok 20 rfl ?_
                            obtain ⟨r10, q10, H⟩ := bind_t H
                            refine RJ.op rfl rfl (op_call [] (sluicegatelaw01_awake.spec q10) rfl rfl rfl h9 rfl gnil) ?_
                            rintro _ w10 ⟨_, ⟨rfl, rfl⟩, h10⟩
                            refine RJ.run ttok 2 rfl ?_
                            refine RJ.fin [(6, .bool r10)] rfl ?_
                            refine J.ret ?_
                            obtain rfl := Option.some.inj H
                            exact ⟨_, _, _, (results_slots rfl), ⟨rfl, rfl⟩, h10.only [] rfl⟩
                          · replace H := ite_f c13 H
                            refine RJ.know (t := 91) rfl (congrArg Value.bool c13) ?_
                            refine RJ.run ttok 2 rfl ?_
                            obtain ⟨r11, q11, H⟩ := bind_t H
                            refine RJ.op rfl rfl (op_call [] (lex_Compare.spec q11) rfl rfl rfl h9 rfl gnil) ?_
                            rintro _ w11 ⟨_, ⟨rfl, rfl⟩, h11⟩
                            refine RJ.run ttok 2 rfl ?_
                            rcases Bool.eq_false_or_eq_true (decide (r11 < 0)) with c14 | c14
                            · replace H := ite_t c14 H
                              refine RJ.know (t := 96) rfl (congrArg Value.bool c14) ?_
                              refine RJ.run ttok 2 rfl ?_
                              obtain ⟨r12, q12, H⟩ := bind_t H
                              refine RJ.op rfl rfl (op_call [] (lex_Compare.spec q12) rfl rfl rfl h11 rfl gnil) ?_
                              rintro _ w12 ⟨_, ⟨rfl, rfl⟩, h12⟩
                              refine RJ.run ttok 3 rfl ?_
                              rcases Bool.eq_false_or_eq_true (decide (r12 ≤ 0)) with c15 | c15
                              · replace H := ite_t c15 H
                                refine RJ.know (t := 102) rfl (congrArg Value.bool c15) ?_
                                refine RJ.run ttok 9 rfl ?_
                                rcases Bool.eq_false_or_eq_true (decide ((r9.1.length : Int) ≤ (a1.length : Int))) with c16 | c16
                                · replace H := ite_t c16 H
                                  refine RJ.know (t := 111) rfl (congrArg Value.bool c16) ?_
                                  obtain ⟨r13, q13, H⟩ := bind_t H
                                  refine RJ.op rfl rfl (op_call [] (sluicegatelaw01_awake.spec q13) rfl rfl rfl h12 rfl gnil) ?_
                                  rintro _ w13 ⟨_, ⟨rfl, rfl⟩, h13⟩
                                  refine RJ.run ttok 2 rfl ?_
                                  refine RJ.fin [(6, .bool r13)] rfl ?_
                                  refine J.ret ?_
                                  obtain rfl := Option.some.inj H
                                  exact ⟨_, _, _, (results_slots rfl), ⟨rfl, rfl⟩, h13.only [] rfl⟩
                                · replace H := ite_f c16 H
                                  refine RJ.know (t := 111) rfl (congrArg Value.bool c16) ?_
                                  refine RJ.run ttok 3 rfl ?_
                                  refine RJ.fin [(6, .bool false)] rfl ?_
                                  refine J.ret ?_
                                  obtain rfl := Option.some.inj H
                                  exact ⟨_, _, _, (results_slots rfl), ⟨rfl, rfl⟩, h12.only [] rfl⟩
                              · replace H := ite_f c15 H
                                refine RJ.know (t := 102) rfl (congrArg Value.bool c15) ?_
                                refine RJ.run ttok 12 rfl ?_
                                refine RJ.fin [(6, .bool false)] rfl ?_
                                refine J.ret ?_
                                obtain rfl := Option.some.inj H
                                exact ⟨_, _, _, (results_slots rfl), ⟨rfl, rfl⟩, h12.only [] rfl⟩
                            · replace H := ite_f c14 H
                              refine RJ.know (t := 96) rfl (congrArg Value.bool c14) ?_
                              refine RJ.run ttok 18 rfl ?_
                              refine RJ.fin [(6, .bool false)] rfl ?_
                              refine J.ret ?_
                              obtain rfl := Option.some.inj H
                              exact ⟨_, _, _, (results_slots rfl), ⟨rfl, rfl⟩, h11.only [] rfl⟩
                        · replace H := ite_f c12 H
                          refine RJ.know (t := 88) rfl (congrArg Value.bool c12) ?_
                          refine RJ.run ttok 26 rfl ?_
                          refine RJ.fin [(6, .bool false)] rfl ?_
                          refine J.ret ?_
                          obtain rfl := Option.some.inj H
                          exact ⟨_, _, _, (results_slots rfl), ⟨rfl, rfl⟩, h9.only [] rfl⟩
                    · replace H := ite_f c10 H
                      refine RJ.know (t := 71) rfl (congrArg Value.bool c10) ?_
                      refine RJ.run ttok 6 rfl ?_
                      refine RJ.fin [(0, .string ⟨⟨a0⟩⟩), (1, .string ⟨⟨a1⟩⟩), (7, .int .i64 r1), (77, .bool false)] rfl ?_
                      refine J.condF rfl ?_
                      refine J.skip ?_
                      refine J.seq ?_
                      refine J.region ?_
                      refine RJ.run ttok 2 rfl ?_
                      obtain ⟨r14, q14, H⟩ := bind_t H
                      refine RJ.op rfl rfl (op_call [] (lex_Cut.spec q14) rfl rfl rfl h7 rfl gnil) ?_
                      rintro _ w14 ⟨_, ⟨rfl, rfl⟩, h14⟩
                      refine RJ.run ttok 5 rfl ?_
                      refine RJ.fin [(0, .string ⟨⟨a0⟩⟩), (1, .string ⟨⟨a1⟩⟩), (7, .int .i64 r1), (11, .string ⟨⟨r14.1⟩⟩), (12, .bool r14.2)] rfl ?_
                      refine J.seq ?_
                      refine J.region ?_
                      refine RJ.run ttok 5 rfl ?_
                      rcases Bool.eq_false_or_eq_true (r14.2 == (decide (r1 < 0))) with c17 | c17
                      · replace H := ite_t c17 H
                        refine RJ.know (t := 88) rfl (congrArg Value.bool c17) ?_
                        refine RJ.run ttok 3 rfl ?_
                        rcases Bool.eq_false_or_eq_true (!r14.2) with c18 | c18
                        · replace H := ite_t c18 H
                          refine RJ.know (t := 91) rfl (congrArg Value.bool c18) ?_
                          refine RJ.run ttok 20 rfl ?_
                          obtain ⟨r15, q15, H⟩ := bind_t H
                          refine RJ.op rfl rfl (op_call [] (sluicegatelaw01_awake.spec q15) rfl rfl rfl h14 rfl gnil) ?_
                          rintro _ w15 ⟨_, ⟨rfl, rfl⟩, h15⟩
                          refine RJ.run ttok 2 rfl ?_
                          refine RJ.fin [(6, .bool r15)] rfl ?_
                          refine J.ret ?_
                          obtain rfl := Option.some.inj H
                          exact ⟨_, _, _, (results_slots rfl), ⟨rfl, rfl⟩, h15.only [] rfl⟩
                        · replace H := ite_f c18 H
                          refine RJ.know (t := 91) rfl (congrArg Value.bool c18) ?_
                          refine RJ.run ttok 2 rfl ?_
                          obtain ⟨r16, q16, H⟩ := bind_t H
                          refine RJ.op rfl rfl (op_call [] (lex_Compare.spec q16) rfl rfl rfl h14 rfl gnil) ?_
                          rintro _ w16 ⟨_, ⟨rfl, rfl⟩, h16⟩
                          refine RJ.run ttok 2 rfl ?_
                          rcases Bool.eq_false_or_eq_true (decide (r16 < 0)) with c19 | c19
                          · replace H := ite_t c19 H
                            refine RJ.know (t := 96) rfl (congrArg Value.bool c19) ?_
                            refine RJ.run ttok 2 rfl ?_
                            obtain ⟨r17, q17, H⟩ := bind_t H
                            refine RJ.op rfl rfl (op_call [] (lex_Compare.spec q17) rfl rfl rfl h16 rfl gnil) ?_
                            rintro _ w17 ⟨_, ⟨rfl, rfl⟩, h17⟩
                            refine RJ.run ttok 3 rfl ?_
                            rcases Bool.eq_false_or_eq_true (decide (r17 ≤ 0)) with c20 | c20
                            · replace H := ite_t c20 H
                              refine RJ.know (t := 102) rfl (congrArg Value.bool c20) ?_
                              refine RJ.run ttok 9 rfl ?_
                              rcases Bool.eq_false_or_eq_true (decide ((r14.1.length : Int) ≤ (a1.length : Int))) with c21 | c21
                              · replace H := ite_t c21 H
                                refine RJ.know (t := 111) rfl (congrArg Value.bool c21) ?_
                                obtain ⟨r18, q18, H⟩ := bind_t H
                                refine RJ.op rfl rfl (op_call [] (sluicegatelaw01_awake.spec q18) rfl rfl rfl h17 rfl gnil) ?_
                                rintro _ w18 ⟨_, ⟨rfl, rfl⟩, h18⟩
                                refine RJ.run ttok 2 rfl ?_
                                refine RJ.fin [(6, .bool r18)] rfl ?_
                                refine J.ret ?_
                                obtain rfl := Option.some.inj H
                                exact ⟨_, _, _, (results_slots rfl), ⟨rfl, rfl⟩, h18.only [] rfl⟩
                              · replace H := ite_f c21 H
                                refine RJ.know (t := 111) rfl (congrArg Value.bool c21) ?_
                                refine RJ.run ttok 3 rfl ?_
                                refine RJ.fin [(6, .bool false)] rfl ?_
                                refine J.ret ?_
                                obtain rfl := Option.some.inj H
                                exact ⟨_, _, _, (results_slots rfl), ⟨rfl, rfl⟩, h17.only [] rfl⟩
                            · replace H := ite_f c20 H
                              refine RJ.know (t := 102) rfl (congrArg Value.bool c20) ?_
                              refine RJ.run ttok 12 rfl ?_
                              refine RJ.fin [(6, .bool false)] rfl ?_
                              refine J.ret ?_
                              obtain rfl := Option.some.inj H
                              exact ⟨_, _, _, (results_slots rfl), ⟨rfl, rfl⟩, h17.only [] rfl⟩
                          · replace H := ite_f c19 H
                            refine RJ.know (t := 96) rfl (congrArg Value.bool c19) ?_
                            refine RJ.run ttok 18 rfl ?_
                            refine RJ.fin [(6, .bool false)] rfl ?_
                            refine J.ret ?_
                            obtain rfl := Option.some.inj H
                            exact ⟨_, _, _, (results_slots rfl), ⟨rfl, rfl⟩, h16.only [] rfl⟩
                      · replace H := ite_f c17 H
                        refine RJ.know (t := 88) rfl (congrArg Value.bool c17) ?_
                        refine RJ.run ttok 26 rfl ?_
                        refine RJ.fin [(6, .bool false)] rfl ?_
                        refine J.ret ?_
                        obtain rfl := Option.some.inj H
                        exact ⟨_, _, _, (results_slots rfl), ⟨rfl, rfl⟩, h14.only [] rfl⟩
            · replace H := ite_f c6 H
              refine RJ.know (t := 47) rfl (congrArg Value.bool c6) ?_
              refine RJ.run ttok 12 rfl ?_
              refine RJ.fin [(0, .string ⟨⟨a0⟩⟩), (1, .string ⟨⟨a1⟩⟩), (7, .int .i64 r1), (59, .bool (!((decide (r1 = 0)) == (decide (a0 = a1)))))] rfl ?_
              refine J.cond rfl (fun c22 => ?_) (fun c22 => ?_)
              · replace H := ite_t c22 H
                refine J.seq ?_
                refine J.region ?_
                refine RJ.run ttok 1 rfl ?_
                refine RJ.fin [(6, .bool false)] rfl ?_
                refine J.ret ?_
                obtain rfl := Option.some.inj H
                exact ⟨_, _, _, (results_slots rfl), ⟨rfl, rfl⟩, h4.only [] rfl⟩
              · replace H := ite_f c22 H
                refine J.skip ?_
                refine J.seq ?_
                refine J.region ?_
                refine RJ.run ttok 1 rfl ?_
                obtain ⟨r19, q19, H⟩ := bind_t H
                refine RJ.op rfl rfl (op_call [] (lex_Next.spec q19) rfl rfl rfl h4 rfl gnil) ?_
                rintro _ w19 ⟨_, ⟨rfl, rfl⟩, h19⟩
                refine RJ.run ttok 1 rfl ?_
                refine RJ.fin [(0, .string ⟨⟨a0⟩⟩), (1, .string ⟨⟨a1⟩⟩), (7, .int .i64 r1), (10, .string ⟨⟨r19⟩⟩)] rfl ?_
                refine J.seq ?_
                refine J.seq ?_
                refine J.region ?_
                refine RJ.run ttok 2 rfl ?_
                obtain ⟨r20, q20, H⟩ := bind_t H
                refine RJ.op rfl rfl (op_call [] (lex_Compare.spec q20) rfl rfl rfl h19 rfl gnil) ?_
                rintro _ w20 ⟨_, ⟨rfl, rfl⟩, h20⟩
                refine RJ.run ttok 2 rfl ?_
                rcases Bool.eq_false_or_eq_true (!decide (r20 = (-1))) with c23 | c23
                · replace H := ite_t c23 H
                  refine RJ.know (t := 66) rfl (congrArg Value.bool c23) ?_
                  refine RJ.run ttok 11 rfl ?_
                  refine RJ.fin [(0, .string ⟨⟨a0⟩⟩), (1, .string ⟨⟨a1⟩⟩), (7, .int .i64 r1), (77, .bool true)] rfl ?_
                  refine J.condT rfl ?_
                  refine J.seq ?_
                  refine J.region ?_
                  refine RJ.run ttok 1 rfl ?_
                  refine RJ.fin [(6, .bool false)] rfl ?_
                  refine J.ret ?_
                  obtain rfl := Option.some.inj H
                  exact ⟨_, _, _, (results_slots rfl), ⟨rfl, rfl⟩, h20.only [] rfl⟩
                · replace H := ite_f c23 H
                  refine RJ.know (t := 66) rfl (congrArg Value.bool c23) ?_
                  refine RJ.run ttok 2 rfl ?_
                  obtain ⟨r21, q21, H⟩ := bind_t H
                  refine RJ.op rfl rfl (op_call [] (lex_Compare.spec q21) rfl rfl rfl h20 rfl gnil) ?_
                  rintro _ w21 ⟨_, ⟨rfl, rfl⟩, h21⟩
                  refine RJ.run ttok 2 rfl ?_
                  rcases Bool.eq_false_or_eq_true (decide (r21 < 0)) with c24 | c24
                  · replace H := ite_t c24 H
                    refine RJ.know (t := 71) rfl (congrArg Value.bool c24) ?_
                    refine RJ.run ttok 2 rfl ?_
                    obtain ⟨r22, q22, H⟩ := bind_t H
                    refine RJ.op rfl rfl (op_call [] (lex_Compare.spec q22) rfl rfl rfl h21 rfl gnil) ?_
                    rintro _ w22 ⟨_, ⟨rfl, rfl⟩, h22⟩
                    refine RJ.run ttok 3 rfl ?_
                    refine RJ.fin [(0, .string ⟨⟨a0⟩⟩), (1, .string ⟨⟨a1⟩⟩), (7, .int .i64 r1), (77, .bool (decide (r22 < 0)))] rfl ?_
                    refine J.cond rfl (fun c25 => ?_) (fun c25 => ?_)
                    · replace H := ite_t c25 H
                      refine J.seq ?_
                      refine J.region ?_
                      refine RJ.run ttok 1 rfl ?_
                      refine RJ.fin [(6, .bool false)] rfl ?_
                      refine J.ret ?_
                      obtain rfl := Option.some.inj H
                      exact ⟨_, _, _, (results_slots rfl), ⟨rfl, rfl⟩, h22.only [] rfl⟩
                    · replace H := ite_f c25 H
                      refine J.skip ?_
                      refine J.seq ?_
                      refine J.region ?_
                      refine RJ.run ttok 2 rfl ?_
                      obtain ⟨r23, q23, H⟩ := bind_t H
                      refine RJ.op rfl rfl (op_call [] (lex_Cut.spec q23) rfl rfl rfl h22 rfl gnil) ?_
                      rintro _ w23 ⟨_, ⟨rfl, rfl⟩, h23⟩
                      refine RJ.run ttok 5 rfl ?_
                      refine RJ.fin [(0, .string ⟨⟨a0⟩⟩), (1, .string ⟨⟨a1⟩⟩), (7, .int .i64 r1), (11, .string ⟨⟨r23.1⟩⟩), (12, .bool r23.2)] rfl ?_
                      refine J.seq ?_
                      refine J.region ?_
                      refine RJ.run ttok 5 rfl ?_
                      rcases Bool.eq_false_or_eq_true (r23.2 == (decide (r1 < 0))) with c26 | c26
                      · replace H := ite_t c26 H
                        refine RJ.know (t := 88) rfl (congrArg Value.bool c26) ?_
                        refine RJ.run ttok 3 rfl ?_
                        rcases Bool.eq_false_or_eq_true (!r23.2) with c27 | c27
                        · replace H := ite_t c27 H
                          refine RJ.know (t := 91) rfl (congrArg Value.bool c27) ?_
                          refine RJ.run ttok 20 rfl ?_
                          obtain ⟨r24, q24, H⟩ := bind_t H
                          refine RJ.op rfl rfl (op_call [] (sluicegatelaw01_awake.spec q24) rfl rfl rfl h23 rfl gnil) ?_
                          rintro _ w24 ⟨_, ⟨rfl, rfl⟩, h24⟩
                          refine RJ.run ttok 2 rfl ?_
                          refine RJ.fin [(6, .bool r24)] rfl ?_
                          refine J.ret ?_
                          obtain rfl := Option.some.inj H
                          exact ⟨_, _, _, (results_slots rfl), ⟨rfl, rfl⟩, h24.only [] rfl⟩
                        · replace H := ite_f c27 H
                          refine RJ.know (t := 91) rfl (congrArg Value.bool c27) ?_
                          refine RJ.run ttok 2 rfl ?_
                          obtain ⟨r25, q25, H⟩ := bind_t H
                          refine RJ.op rfl rfl (op_call [] (lex_Compare.spec q25) rfl rfl rfl h23 rfl gnil) ?_
                          rintro _ w25 ⟨_, ⟨rfl, rfl⟩, h25⟩
                          refine RJ.run ttok 2 rfl ?_
                          rcases Bool.eq_false_or_eq_true (decide (r25 < 0)) with c28 | c28
                          · replace H := ite_t c28 H
                            refine RJ.know (t := 96) rfl (congrArg Value.bool c28) ?_
                            refine RJ.run ttok 2 rfl ?_
                            obtain ⟨r26, q26, H⟩ := bind_t H
                            refine RJ.op rfl rfl (op_call [] (lex_Compare.spec q26) rfl rfl rfl h25 rfl gnil) ?_
                            rintro _ w26 ⟨_, ⟨rfl, rfl⟩, h26⟩
                            refine RJ.run ttok 3 rfl ?_
                            rcases Bool.eq_false_or_eq_true (decide (r26 ≤ 0)) with c29 | c29
                            · replace H := ite_t c29 H
                              refine RJ.know (t := 102) rfl (congrArg Value.bool c29) ?_
                              refine RJ.run ttok 9 rfl ?_
                              rcases Bool.eq_false_or_eq_true (decide ((r23.1.length : Int) ≤ (a1.length : Int))) with c30 | c30
                              · replace H := ite_t c30 H
                                refine RJ.know (t := 111) rfl (congrArg Value.bool c30) ?_
                                obtain ⟨r27, q27, H⟩ := bind_t H
                                refine RJ.op rfl rfl (op_call [] (sluicegatelaw01_awake.spec q27) rfl rfl rfl h26 rfl gnil) ?_
                                rintro _ w27 ⟨_, ⟨rfl, rfl⟩, h27⟩
                                refine RJ.run ttok 2 rfl ?_
                                refine RJ.fin [(6, .bool r27)] rfl ?_
                                refine J.ret ?_
                                obtain rfl := Option.some.inj H
                                exact ⟨_, _, _, (results_slots rfl), ⟨rfl, rfl⟩, h27.only [] rfl⟩
                              · replace H := ite_f c30 H
                                refine RJ.know (t := 111) rfl (congrArg Value.bool c30) ?_
                                refine RJ.run ttok 3 rfl ?_
                                refine RJ.fin [(6, .bool false)] rfl ?_
                                refine J.ret ?_
                                obtain rfl := Option.some.inj H
                                exact ⟨_, _, _, (results_slots rfl), ⟨rfl, rfl⟩, h26.only [] rfl⟩
                            · replace H := ite_f c29 H
                              refine RJ.know (t := 102) rfl (congrArg Value.bool c29) ?_
                              refine RJ.run ttok 12 rfl ?_
                              refine RJ.fin [(6, .bool false)] rfl ?_
                              refine J.ret ?_
                              obtain rfl := Option.some.inj H
                              exact ⟨_, _, _, (results_slots rfl), ⟨rfl, rfl⟩, h26.only [] rfl⟩
                          · replace H := ite_f c28 H
                            refine RJ.know (t := 96) rfl (congrArg Value.bool c28) ?_
                            refine RJ.run ttok 18 rfl ?_
                            refine RJ.fin [(6, .bool false)] rfl ?_
                            refine J.ret ?_
                            obtain rfl := Option.some.inj H
                            exact ⟨_, _, _, (results_slots rfl), ⟨rfl, rfl⟩, h25.only [] rfl⟩
                      · replace H := ite_f c26 H
                        refine RJ.know (t := 88) rfl (congrArg Value.bool c26) ?_
                        refine RJ.run ttok 26 rfl ?_
                        refine RJ.fin [(6, .bool false)] rfl ?_
                        refine J.ret ?_
                        obtain rfl := Option.some.inj H
                        exact ⟨_, _, _, (results_slots rfl), ⟨rfl, rfl⟩, h23.only [] rfl⟩
                  · replace H := ite_f c24 H
                    refine RJ.know (t := 71) rfl (congrArg Value.bool c24) ?_
                    refine RJ.run ttok 6 rfl ?_
                    refine RJ.fin [(0, .string ⟨⟨a0⟩⟩), (1, .string ⟨⟨a1⟩⟩), (7, .int .i64 r1), (77, .bool false)] rfl ?_
                    refine J.condF rfl ?_
                    refine J.skip ?_
                    refine J.seq ?_
                    refine J.region ?_
                    refine RJ.run ttok 2 rfl ?_
                    obtain ⟨r28, q28, H⟩ := bind_t H
                    refine RJ.op rfl rfl (op_call [] (lex_Cut.spec q28) rfl rfl rfl h21 rfl gnil) ?_
                    rintro _ w28 ⟨_, ⟨rfl, rfl⟩, h28⟩
                    refine RJ.run ttok 5 rfl ?_
                    refine RJ.fin [(0, .string ⟨⟨a0⟩⟩), (1, .string ⟨⟨a1⟩⟩), (7, .int .i64 r1), (11, .string ⟨⟨r28.1⟩⟩), (12, .bool r28.2)] rfl ?_
                    refine J.seq ?_
                    refine J.region ?_
                    refine RJ.run ttok 5 rfl ?_
                    rcases Bool.eq_false_or_eq_true (r28.2 == (decide (r1 < 0))) with c31 | c31
                    · replace H := ite_t c31 H
                      refine RJ.know (t := 88) rfl (congrArg Value.bool c31) ?_
                      refine RJ.run ttok 3 rfl ?_
                      rcases Bool.eq_false_or_eq_true (!r28.2) with c32 | c32
                      · replace H := ite_t c32 H
                        refine RJ.know (t := 91) rfl (congrArg Value.bool c32) ?_
                        refine RJ.run ttok 20 rfl ?_
                        obtain ⟨r29, q29, H⟩ := bind_t H
                        refine RJ.op rfl rfl (op_call [] (sluicegatelaw01_awake.spec q29) rfl rfl rfl h28 rfl gnil) ?_
                        rintro _ w29 ⟨_, ⟨rfl, rfl⟩, h29⟩
                        refine RJ.run ttok 2 rfl ?_
                        refine RJ.fin [(6, .bool r29)] rfl ?_
                        refine J.ret ?_
                        obtain rfl := Option.some.inj H
                        exact ⟨_, _, _, (results_slots rfl), ⟨rfl, rfl⟩, h29.only [] rfl⟩
                      · replace H := ite_f c32 H
                        refine RJ.know (t := 91) rfl (congrArg Value.bool c32) ?_
                        refine RJ.run ttok 2 rfl ?_
                        obtain ⟨r30, q30, H⟩ := bind_t H
                        refine RJ.op rfl rfl (op_call [] (lex_Compare.spec q30) rfl rfl rfl h28 rfl gnil) ?_
                        rintro _ w30 ⟨_, ⟨rfl, rfl⟩, h30⟩
                        refine RJ.run ttok 2 rfl ?_
                        rcases Bool.eq_false_or_eq_true (decide (r30 < 0)) with c33 | c33
                        · replace H := ite_t c33 H
                          refine RJ.know (t := 96) rfl (congrArg Value.bool c33) ?_
                          refine RJ.run ttok 2 rfl ?_
                          obtain ⟨r31, q31, H⟩ := bind_t H
                          refine RJ.op rfl rfl (op_call [] (lex_Compare.spec q31) rfl rfl rfl h30 rfl gnil) ?_
                          rintro _ w31 ⟨_, ⟨rfl, rfl⟩, h31⟩
                          refine RJ.run ttok 3 rfl ?_
                          rcases Bool.eq_false_or_eq_true (decide (r31 ≤ 0)) with c34 | c34
                          · replace H := ite_t c34 H
                            refine RJ.know (t := 102) rfl (congrArg Value.bool c34) ?_
                            refine RJ.run ttok 9 rfl ?_
                            rcases Bool.eq_false_or_eq_true (decide ((r28.1.length : Int) ≤ (a1.length : Int))) with c35 | c35
                            · replace H := ite_t c35 H
                              refine RJ.know (t := 111) rfl (congrArg Value.bool c35) ?_
                              obtain ⟨r32, q32, H⟩ := bind_t H
                              refine RJ.op rfl rfl (op_call [] (sluicegatelaw01_awake.spec q32) rfl rfl rfl h31 rfl gnil) ?_
                              rintro _ w32 ⟨_, ⟨rfl, rfl⟩, h32⟩
                              refine RJ.run ttok 2 rfl ?_
                              refine RJ.fin [(6, .bool r32)] rfl ?_
                              refine J.ret ?_
                              obtain rfl := Option.some.inj H
                              exact ⟨_, _, _, (results_slots rfl), ⟨rfl, rfl⟩, h32.only [] rfl⟩
                            · replace H := ite_f c35 H
                              refine RJ.know (t := 111) rfl (congrArg Value.bool c35) ?_
                              refine RJ.run ttok 3 rfl ?_
                              refine RJ.fin [(6, .bool false)] rfl ?_
                              refine J.ret ?_
                              obtain rfl := Option.some.inj H
                              exact ⟨_, _, _, (results_slots rfl), ⟨rfl, rfl⟩, h31.only [] rfl⟩
                          · replace H := ite_f c34 H
                            refine RJ.know (t := 102) rfl (congrArg Value.bool c34) ?_
                            refine RJ.run ttok 12 rfl ?_
                            refine RJ.fin [(6, .bool false)] rfl ?_
                            refine J.ret ?_
                            obtain rfl := Option.some.inj H
                            exact ⟨_, _, _, (results_slots rfl), ⟨rfl, rfl⟩, h31.only [] rfl⟩
                        · replace H := ite_f c33 H
                          refine RJ.know (t := 96) rfl (congrArg Value.bool c33) ?_
                          refine RJ.run ttok 18 rfl ?_
                          refine RJ.fin [(6, .bool false)] rfl ?_
                          refine J.ret ?_
                          obtain rfl := Option.some.inj H
                          exact ⟨_, _, _, (results_slots rfl), ⟨rfl, rfl⟩, h30.only [] rfl⟩
                    · replace H := ite_f c31 H
                      refine RJ.know (t := 88) rfl (congrArg Value.bool c31) ?_
                      refine RJ.run ttok 26 rfl ?_
                      refine RJ.fin [(6, .bool false)] rfl ?_
                      refine J.ret ?_
                      obtain rfl := Option.some.inj H
                      exact ⟨_, _, _, (results_slots rfl), ⟨rfl, rfl⟩, h28.only [] rfl⟩
          · replace H := ite_f c5 H
            refine RJ.know (t := 43) rfl (congrArg Value.bool c5) ?_
            refine RJ.run ttok 16 rfl ?_
            refine RJ.fin [(0, .string ⟨⟨a0⟩⟩), (1, .string ⟨⟨a1⟩⟩), (7, .int .i64 r1), (59, .bool (!((decide (r1 = 0)) == (decide (a0 = a1)))))] rfl ?_
            refine J.cond rfl (fun c36 => ?_) (fun c36 => ?_)
            · replace H := ite_t c36 H
              refine J.seq ?_
              refine J.region ?_
              refine RJ.run ttok 1 rfl ?_
              refine RJ.fin [(6, .bool false)] rfl ?_
              refine J.ret ?_
              obtain rfl := Option.some.inj H
              exact ⟨_, _, _, (results_slots rfl), ⟨rfl, rfl⟩, h4.only [] rfl⟩
            · replace H := ite_f c36 H
              refine J.skip ?_
              refine J.seq ?_
              refine J.region ?_
              refine RJ.run ttok 1 rfl ?_
              obtain ⟨r33, q33, H⟩ := bind_t H
              refine RJ.op rfl rfl (op_call [] (lex_Next.spec q33) rfl rfl rfl h4 rfl gnil) ?_
              rintro _ w33 ⟨_, ⟨rfl, rfl⟩, h33⟩
              refine RJ.run ttok 1 rfl ?_
              refine RJ.fin [(0, .string ⟨⟨a0⟩⟩), (1, .string ⟨⟨a1⟩⟩), (7, .int .i64 r1), (10, .string ⟨⟨r33⟩⟩)] rfl ?_
              refine J.seq ?_
              refine J.seq ?_
              refine J.region ?_
              refine RJ.run ttok 2 rfl ?_
              obtain ⟨r34, q34, H⟩ := bind_t H
              refine RJ.op rfl rfl (op_call [] (lex_Compare.spec q34) rfl rfl rfl h33 rfl gnil) ?_
              rintro _ w34 ⟨_, ⟨rfl, rfl⟩, h34⟩
              refine RJ.run ttok 2 rfl ?_
              rcases Bool.eq_false_or_eq_true (!decide (r34 = (-1))) with c37 | c37
              · replace H := ite_t c37 H
                refine RJ.know (t := 66) rfl (congrArg Value.bool c37) ?_
                refine RJ.run ttok 11 rfl ?_
                refine RJ.fin [(0, .string ⟨⟨a0⟩⟩), (1, .string ⟨⟨a1⟩⟩), (7, .int .i64 r1), (77, .bool true)] rfl ?_
                refine J.condT rfl ?_
                refine J.seq ?_
                refine J.region ?_
                refine RJ.run ttok 1 rfl ?_
                refine RJ.fin [(6, .bool false)] rfl ?_
                refine J.ret ?_
                obtain rfl := Option.some.inj H
                exact ⟨_, _, _, (results_slots rfl), ⟨rfl, rfl⟩, h34.only [] rfl⟩
              · replace H := ite_f c37 H
                refine RJ.know (t := 66) rfl (congrArg Value.bool c37) ?_
                refine RJ.run ttok 2 rfl ?_
                obtain ⟨r35, q35, H⟩ := bind_t H
                refine RJ.op rfl rfl (op_call [] (lex_Compare.spec q35) rfl rfl rfl h34 rfl gnil) ?_
                rintro _ w35 ⟨_, ⟨rfl, rfl⟩, h35⟩
                refine RJ.run ttok 2 rfl ?_
                rcases Bool.eq_false_or_eq_true (decide (r35 < 0)) with c38 | c38
                · replace H := ite_t c38 H
                  refine RJ.know (t := 71) rfl (congrArg Value.bool c38) ?_
                  refine RJ.run ttok 2 rfl ?_
                  obtain ⟨r36, q36, H⟩ := bind_t H
                  refine RJ.op rfl rfl (op_call [] (lex_Compare.spec q36) rfl rfl rfl h35 rfl gnil) ?_
                  rintro _ w36 ⟨_, ⟨rfl, rfl⟩, h36⟩
                  refine RJ.run ttok 3 rfl ?_
                  refine RJ.fin [(0, .string ⟨⟨a0⟩⟩), (1, .string ⟨⟨a1⟩⟩), (7, .int .i64 r1), (77, .bool (decide (r36 < 0)))] rfl ?_
                  refine J.cond rfl (fun c39 => ?_) (fun c39 => ?_)
                  · replace H := ite_t c39 H
                    refine J.seq ?_
                    refine J.region ?_
                    refine RJ.run ttok 1 rfl ?_
                    refine RJ.fin [(6, .bool false)] rfl ?_
                    refine J.ret ?_
                    obtain rfl := Option.some.inj H
                    exact ⟨_, _, _, (results_slots rfl), ⟨rfl, rfl⟩, h36.only [] rfl⟩
                  · replace H := ite_f c39 H
                    refine J.skip ?_
                    refine J.seq ?_
                    refine J.region ?_
                    refine RJ.run ttok 2 rfl ?_
                    obtain ⟨r37, q37, H⟩ := bind_t H
                    refine RJ.op rfl rfl (op_call [] (lex_Cut.spec q37) rfl rfl rfl h36 rfl gnil) ?_
                    rintro _ w37 ⟨_, ⟨rfl, rfl⟩, h37⟩
                    refine RJ.run ttok 5 rfl ?_
                    refine RJ.fin [(0, .string ⟨⟨a0⟩⟩), (1, .string ⟨⟨a1⟩⟩), (7, .int .i64 r1), (11, .string ⟨⟨r37.1⟩⟩), (12, .bool r37.2)] rfl ?_
                    refine J.seq ?_
                    refine J.region ?_
                    refine RJ.run ttok 5 rfl ?_
                    rcases Bool.eq_false_or_eq_true (r37.2 == (decide (r1 < 0))) with c40 | c40
                    · replace H := ite_t c40 H
                      refine RJ.know (t := 88) rfl (congrArg Value.bool c40) ?_
                      refine RJ.run ttok 3 rfl ?_
                      rcases Bool.eq_false_or_eq_true (!r37.2) with c41 | c41
                      · replace H := ite_t c41 H
                        refine RJ.know (t := 91) rfl (congrArg Value.bool c41) ?_
                        refine RJ.run ttok 20 rfl ?_
                        obtain ⟨r38, q38, H⟩ := bind_t H
                        refine RJ.op rfl rfl (op_call [] (sluicegatelaw01_awake.spec q38) rfl rfl rfl h37 rfl gnil) ?_
                        rintro _ w38 ⟨_, ⟨rfl, rfl⟩, h38⟩
                        refine RJ.run ttok 2 rfl ?_
                        refine RJ.fin [(6, .bool r38)] rfl ?_
                        refine J.ret ?_
                        obtain rfl := Option.some.inj H
                        exact ⟨_, _, _, (results_slots rfl), ⟨rfl, rfl⟩, h38.only [] rfl⟩
                      · replace H := ite_f c41 H
                        refine RJ.know (t := 91) rfl (congrArg Value.bool c41) ?_
                        refine RJ.run ttok 2 rfl ?_
                        obtain ⟨r39, q39, H⟩ := bind_t H
                        refine RJ.op rfl rfl (op_call [] (lex_Compare.spec q39) rfl rfl rfl h37 rfl gnil) ?_
                        rintro _ w39 ⟨_, ⟨rfl, rfl⟩, h39⟩
                        refine RJ.run ttok 2 rfl ?_
                        rcases Bool.eq_false_or_eq_true (decide (r39 < 0)) with c42 | c42
                        · replace H := ite_t c42 H
                          refine RJ.know (t := 96) rfl (congrArg Value.bool c42) ?_
                          refine RJ.run ttok 2 rfl ?_
                          obtain ⟨r40, q40, H⟩ := bind_t H
                          refine RJ.op rfl rfl (op_call [] (lex_Compare.spec q40) rfl rfl rfl h39 rfl gnil) ?_
                          rintro _ w40 ⟨_, ⟨rfl, rfl⟩, h40⟩
                          refine RJ.run ttok 3 rfl ?_
                          rcases Bool.eq_false_or_eq_true (decide (r40 ≤ 0)) with c43 | c43
                          · replace H := ite_t c43 H
                            refine RJ.know (t := 102) rfl (congrArg Value.bool c43) ?_
                            refine RJ.run ttok 9 rfl ?_
                            rcases Bool.eq_false_or_eq_true (decide ((r37.1.length : Int) ≤ (a1.length : Int))) with c44 | c44
                            · replace H := ite_t c44 H
                              refine RJ.know (t := 111) rfl (congrArg Value.bool c44) ?_
                              obtain ⟨r41, q41, H⟩ := bind_t H
                              refine RJ.op rfl rfl (op_call [] (sluicegatelaw01_awake.spec q41) rfl rfl rfl h40 rfl gnil) ?_
                              rintro _ w41 ⟨_, ⟨rfl, rfl⟩, h41⟩
                              refine RJ.run ttok 2 rfl ?_
                              refine RJ.fin [(6, .bool r41)] rfl ?_
                              refine J.ret ?_
                              obtain rfl := Option.some.inj H
                              exact ⟨_, _, _, (results_slots rfl), ⟨rfl, rfl⟩, h41.only [] rfl⟩
                            · replace H := ite_f c44 H
                              refine RJ.know (t := 111) rfl (congrArg Value.bool c44) ?_
                              refine RJ.run ttok 3 rfl ?_
                              refine RJ.fin [(6, .bool false)] rfl ?_
                              refine J.ret ?_
                              obtain rfl := Option.some.inj H
                              exact ⟨_, _, _, (results_slots rfl), ⟨rfl, rfl⟩, h40.only [] rfl⟩
                          · replace H := ite_f c43 H
                            refine RJ.know (t := 102) rfl (congrArg Value.bool c43) ?_
                            refine RJ.run ttok 12 rfl ?_
                            refine RJ.fin [(6, .bool false)] rfl ?_
                            refine J.ret ?_
                            obtain rfl := Option.some.inj H
                            exact ⟨_, _, _, (results_slots rfl), ⟨rfl, rfl⟩, h40.only [] rfl⟩
                        · replace H := ite_f c42 H
                          refine RJ.know (t := 96) rfl (congrArg Value.bool c42) ?_
                          refine RJ.run ttok 18 rfl ?_
                          refine RJ.fin [(6, .bool false)] rfl ?_
                          refine J.ret ?_
                          obtain rfl := Option.some.inj H
                          exact ⟨_, _, _, (results_slots rfl), ⟨rfl, rfl⟩, h39.only [] rfl⟩
                    · replace H := ite_f c40 H
                      refine RJ.know (t := 88) rfl (congrArg Value.bool c40) ?_
                      refine RJ.run ttok 26 rfl ?_
                      refine RJ.fin [(6, .bool false)] rfl ?_
                      refine J.ret ?_
                      obtain rfl := Option.some.inj H
                      exact ⟨_, _, _, (results_slots rfl), ⟨rfl, rfl⟩, h37.only [] rfl⟩
                · replace H := ite_f c38 H
                  refine RJ.know (t := 71) rfl (congrArg Value.bool c38) ?_
                  refine RJ.run ttok 6 rfl ?_
                  refine RJ.fin [(0, .string ⟨⟨a0⟩⟩), (1, .string ⟨⟨a1⟩⟩), (7, .int .i64 r1), (77, .bool false)] rfl ?_
                  refine J.condF rfl ?_
                  refine J.skip ?_
                  refine J.seq ?_
                  refine J.region ?_
                  refine RJ.run ttok 2 rfl ?_
                  obtain ⟨r42, q42, H⟩ := bind_t H
                  refine RJ.op rfl rfl (op_call [] (lex_Cut.spec q42) rfl rfl rfl h35 rfl gnil) ?_
                  rintro _ w42 ⟨_, ⟨rfl, rfl⟩, h42⟩
                  refine RJ.run ttok 5 rfl ?_
                  refine RJ.fin [(0, .string ⟨⟨a0⟩⟩), (1, .string ⟨⟨a1⟩⟩), (7, .int .i64 r1), (11, .string ⟨⟨r42.1⟩⟩), (12, .bool r42.2)] rfl ?_
                  refine J.seq ?_
                  refine J.region ?_
                  refine RJ.run ttok 5 rfl ?_
                  rcases Bool.eq_false_or_eq_true (r42.2 == (decide (r1 < 0))) with c45 | c45
                  · replace H := ite_t c45 H
                    refine RJ.know (t := 88) rfl (congrArg Value.bool c45) ?_
                    refine RJ.run ttok 3 rfl ?_
                    rcases Bool.eq_false_or_eq_true (!r42.2) with c46 | c46
                    · replace H := ite_t c46 H
                      refine RJ.know (t := 91) rfl (congrArg Value.bool c46) ?_
                      refine RJ.run ttok 20 rfl ?_
                      obtain ⟨r43, q43, H⟩ := bind_t H
                      refine RJ.op rfl rfl (op_call [] (sluicegatelaw01_awake.spec q43) rfl rfl rfl h42 rfl gnil) ?_
                      rintro _ w43 ⟨_, ⟨rfl, rfl⟩, h43⟩
                      refine RJ.run ttok 2 rfl ?_
                      refine RJ.fin [(6, .bool r43)] rfl ?_
                      refine J.ret ?_
                      obtain rfl := Option.some.inj H
                      exact ⟨_, _, _, (results_slots rfl), ⟨rfl, rfl⟩, h43.only [] rfl⟩
                    · replace H := ite_f c46 H
                      refine RJ.know (t := 91) rfl (congrArg Value.bool c46) ?_
                      refine RJ.run ttok 2 rfl ?_
                      obtain ⟨r44, q44, H⟩ := bind_t H
                      refine RJ.op rfl rfl (op_call [] (lex_Compare.spec q44) rfl rfl rfl h42 rfl gnil) ?_
                      rintro _ w44 ⟨_, ⟨rfl, rfl⟩, h44⟩
                      refine RJ.run ttok 2 rfl ?_
                      rcases Bool.eq_false_or_eq_true (decide (r44 < 0)) with c47 | c47
                      · replace H := ite_t c47 H
                        refine RJ.know (t := 96) rfl (congrArg Value.bool c47) ?_
                        refine RJ.run ttok 2 rfl ?_
                        obtain ⟨r45, q45, H⟩ := bind_t H
                        refine RJ.op rfl rfl (op_call [] (lex_Compare.spec q45) rfl rfl rfl h44 rfl gnil) ?_
                        rintro _ w45 ⟨_, ⟨rfl, rfl⟩, h45⟩
                        refine RJ.run ttok 3 rfl ?_
                        rcases Bool.eq_false_or_eq_true (decide (r45 ≤ 0)) with c48 | c48
                        · replace H := ite_t c48 H
                          refine RJ.know (t := 102) rfl (congrArg Value.bool c48) ?_
                          refine RJ.run ttok 9 rfl ?_
                          rcases Bool.eq_false_or_eq_true (decide ((r42.1.length : Int) ≤ (a1.length : Int))) with c49 | c49
                          · replace H := ite_t c49 H
                            refine RJ.know (t := 111) rfl (congrArg Value.bool c49) ?_
                            obtain ⟨r46, q46, H⟩ := bind_t H
                            refine RJ.op rfl rfl (op_call [] (sluicegatelaw01_awake.spec q46) rfl rfl rfl h45 rfl gnil) ?_
                            rintro _ w46 ⟨_, ⟨rfl, rfl⟩, h46⟩
                            refine RJ.run ttok 2 rfl ?_
                            refine RJ.fin [(6, .bool r46)] rfl ?_
                            refine J.ret ?_
                            obtain rfl := Option.some.inj H
                            exact ⟨_, _, _, (results_slots rfl), ⟨rfl, rfl⟩, h46.only [] rfl⟩
                          · replace H := ite_f c49 H
                            refine RJ.know (t := 111) rfl (congrArg Value.bool c49) ?_
                            refine RJ.run ttok 3 rfl ?_
                            refine RJ.fin [(6, .bool false)] rfl ?_
                            refine J.ret ?_
                            obtain rfl := Option.some.inj H
                            exact ⟨_, _, _, (results_slots rfl), ⟨rfl, rfl⟩, h45.only [] rfl⟩
                        · replace H := ite_f c48 H
                          refine RJ.know (t := 102) rfl (congrArg Value.bool c48) ?_
                          refine RJ.run ttok 12 rfl ?_
                          refine RJ.fin [(6, .bool false)] rfl ?_
                          refine J.ret ?_
                          obtain rfl := Option.some.inj H
                          exact ⟨_, _, _, (results_slots rfl), ⟨rfl, rfl⟩, h45.only [] rfl⟩
                      · replace H := ite_f c47 H
                        refine RJ.know (t := 96) rfl (congrArg Value.bool c47) ?_
                        refine RJ.run ttok 18 rfl ?_
                        refine RJ.fin [(6, .bool false)] rfl ?_
                        refine J.ret ?_
                        obtain rfl := Option.some.inj H
                        exact ⟨_, _, _, (results_slots rfl), ⟨rfl, rfl⟩, h44.only [] rfl⟩
                  · replace H := ite_f c45 H
                    refine RJ.know (t := 88) rfl (congrArg Value.bool c45) ?_
                    refine RJ.run ttok 26 rfl ?_
                    refine RJ.fin [(6, .bool false)] rfl ?_
                    refine J.ret ?_
                    obtain rfl := Option.some.inj H
                    exact ⟨_, _, _, (results_slots rfl), ⟨rfl, rfl⟩, h42.only [] rfl⟩
      · replace H := ite_f c3 H
        refine RJ.know (t := 35) rfl (congrArg Value.bool c3) ?_
        refine RJ.run ttok 8 rfl ?_
        rcases Bool.eq_false_or_eq_true (decide (r1 < 0)) with c50 | c50
        · replace H := ite_t c50 H
          refine RJ.know (t := 43) rfl (congrArg Value.bool c50) ?_
          refine RJ.run ttok 4 rfl ?_
          rcases Bool.eq_false_or_eq_true (decide (r2 < 0)) with c51 | c51
          · replace H := ite_t c51 H
            refine RJ.know (t := 47) rfl (congrArg Value.bool c51) ?_
            refine RJ.run ttok 5 rfl ?_
            rcases Bool.eq_false_or_eq_true (decide (0 ≤ r3)) with c52 | c52
            · replace H := ite_t c52 H
              refine RJ.know (t := 52) rfl (congrArg Value.bool c52) ?_
              refine RJ.run ttok 7 rfl ?_
              refine RJ.fin [(0, .string ⟨⟨a0⟩⟩), (1, .string ⟨⟨a1⟩⟩), (7, .int .i64 r1), (59, .bool true)] rfl ?_
              refine J.condT rfl ?_
              refine J.seq ?_
              refine J.region ?_
              refine RJ.run ttok 1 rfl ?_
              refine RJ.fin [(6, .bool false)] rfl ?_
              refine J.ret ?_
              obtain rfl := Option.some.inj H
              exact ⟨_, _, _, (results_slots rfl), ⟨rfl, rfl⟩, h4.only [] rfl⟩
            · replace H := ite_f c52 H
              refine RJ.know (t := 52) rfl (congrArg Value.bool c52) ?_
              refine RJ.run ttok 7 rfl ?_
              refine RJ.fin [(0, .string ⟨⟨a0⟩⟩), (1, .string ⟨⟨a1⟩⟩), (7, .int .i64 r1), (59, .bool (!((decide (r1 = 0)) == (decide (a0 = a1)))))] rfl ?_
              refine J.cond rfl (fun c53 => ?_) (fun c53 => ?_)
              · replace H := ite_t c53 H
                refine J.seq ?_
                refine J.region ?_
                refine RJ.run ttok 1 rfl ?_
                refine RJ.fin [(6, .bool false)] rfl ?_
                refine J.ret ?_
                obtain rfl := Option.some.inj H
                exact ⟨_, _, _, (results_slots rfl), ⟨rfl, rfl⟩, h4.only [] rfl⟩
              · replace H := ite_f c53 H
                refine J.skip ?_
                refine J.seq ?_
                refine J.region ?_
                refine RJ.run ttok 1 rfl ?_
                obtain ⟨r47, q47, H⟩ := bind_t H
                refine RJ.op rfl rfl (op_call [] (lex_Next.spec q47) rfl rfl rfl h4 rfl gnil) ?_
                rintro _ w47 ⟨_, ⟨rfl, rfl⟩, h47⟩
                refine RJ.run ttok 1 rfl ?_
                refine RJ.fin [(0, .string ⟨⟨a0⟩⟩), (1, .string ⟨⟨a1⟩⟩), (7, .int .i64 r1), (10, .string ⟨⟨r47⟩⟩)] rfl ?_
                refine J.seq ?_
                refine J.seq ?_
                refine J.region ?_
                refine RJ.run ttok 2 rfl ?_
                obtain ⟨r48, q48, H⟩ := bind_t H
                refine RJ.op rfl rfl (op_call [] (lex_Compare.spec q48) rfl rfl rfl h47 rfl gnil) ?_
                rintro _ w48 ⟨_, ⟨rfl, rfl⟩, h48⟩
                refine RJ.run ttok 2 rfl ?_
                rcases Bool.eq_false_or_eq_true (!decide (r48 = (-1))) with c54 | c54
                · replace H := ite_t c54 H
                  refine RJ.know (t := 66) rfl (congrArg Value.bool c54) ?_
                  refine RJ.run ttok 11 rfl ?_
                  refine RJ.fin [(0, .string ⟨⟨a0⟩⟩), (1, .string ⟨⟨a1⟩⟩), (7, .int .i64 r1), (77, .bool true)] rfl ?_
                  refine J.condT rfl ?_
                  refine J.seq ?_
                  refine J.region ?_
                  refine RJ.run ttok 1 rfl ?_
                  refine RJ.fin [(6, .bool false)] rfl ?_
                  refine J.ret ?_
                  obtain rfl := Option.some.inj H
                  exact ⟨_, _, _, (results_slots rfl), ⟨rfl, rfl⟩, h48.only [] rfl⟩
                · replace H := ite_f c54 H
                  refine RJ.know (t := 66) rfl (congrArg Value.bool c54) ?_
                  refine RJ.run ttok 2 rfl ?_
                  obtain ⟨r49, q49, H⟩ := bind_t H
                  refine RJ.op rfl rfl (op_call [] (lex_Compare.spec q49) rfl rfl rfl h48 rfl gnil) ?_
                  rintro _ w49 ⟨_, ⟨rfl, rfl⟩, h49⟩
                  refine RJ.run ttok 2 rfl ?_
                  rcases Bool.eq_false_or_eq_true (decide (r49 < 0)) with c55 | c55
                  · replace H := ite_t c55 H
                    refine RJ.know (t := 71) rfl (congrArg Value.bool c55) ?_
                    refine RJ.run ttok 2 rfl ?_
                    obtain ⟨r50, q50, H⟩ := bind_t H
                    refine RJ.op rfl rfl (op_call [] (lex_Compare.spec q50) rfl rfl rfl h49 rfl gnil) ?_
                    rintro _ w50 ⟨_, ⟨rfl, rfl⟩, h50⟩
                    refine RJ.run ttok 3 rfl ?_
                    refine RJ.fin [(0, .string ⟨⟨a0⟩⟩), (1, .string ⟨⟨a1⟩⟩), (7, .int .i64 r1), (77, .bool (decide (r50 < 0)))] rfl ?_
                    refine J.cond rfl (fun c56 => ?_) (fun c56 => ?_)
                    · replace H := ite_t c56 H
                      refine J.seq ?_
                      refine J.region ?_
                      refine RJ.run ttok 1 rfl ?_
                      refine RJ.fin [(6, .bool false)] rfl ?_
                      refine J.ret ?_
                      obtain rfl := Option.some.inj H
                      exact ⟨_, _, _, (results_slots rfl), ⟨rfl, rfl⟩, h50.only [] rfl⟩
                    · replace H := ite_f c56 H
                      refine J.skip ?_
                      refine J.seq ?_
                      refine J.region ?_
                      refine RJ.run ttok 2 rfl ?_
                      obtain ⟨r51, q51, H⟩ := bind_t H
                      refine RJ.op rfl rfl (op_call [] (lex_Cut.spec q51) rfl rfl rfl h50 rfl gnil) ?_
                      rintro _ w51 ⟨_, ⟨rfl, rfl⟩, h51⟩
                      refine RJ.run ttok 5 rfl ?_
                      refine RJ.fin [(0, .string ⟨⟨a0⟩⟩), (1, .string ⟨⟨a1⟩⟩), (7, .int .i64 r1), (11, .string ⟨⟨r51.1⟩⟩), (12, .bool r51.2)] rfl ?_
                      refine J.seq ?_
                      refine J.region ?_
                      refine RJ.run ttok 5 rfl ?_
                      rcases Bool.eq_false_or_eq_true (r51.2 == (decide (r1 < 0))) with c57 | c57
                      · replace H := ite_t c57 H
                        refine RJ.know (t := 88) rfl (congrArg Value.bool c57) ?_
                        refine RJ.run ttok 3 rfl ?_
                        rcases Bool.eq_false_or_eq_true (!r51.2) with c58 | c58
                        · replace H := ite_t c58 H
                          refine RJ.know (t := 91) rfl (congrArg Value.bool c58) ?_
                          refine RJ.run ttok 20 rfl ?_
                          obtain ⟨r52, q52, H⟩ := bind_t H
                          refine RJ.op rfl rfl (op_call [] (sluicegatelaw01_awake.spec q52) rfl rfl rfl h51 rfl gnil) ?_
                          rintro _ w52 ⟨_, ⟨rfl, rfl⟩, h52⟩
                          refine RJ.run ttok 2 rfl ?_
                          refine RJ.fin [(6, .bool r52)] rfl ?_
                          refine J.ret ?_
                          obtain rfl := Option.some.inj H
                          exact ⟨_, _, _, (results_slots rfl), ⟨rfl, rfl⟩, h52.only [] rfl⟩
                        · replace H := ite_f c58 H
                          refine RJ.know (t := 91) rfl (congrArg Value.bool c58) ?_
                          refine RJ.run ttok 2 rfl ?_
                          obtain ⟨r53, q53, H⟩ := bind_t H
                          refine RJ.op rfl rfl (op_call [] (lex_Compare.spec q53) rfl rfl rfl h51 rfl gnil) ?_
                          rintro _ w53 ⟨_, ⟨rfl, rfl⟩, h53⟩
                          refine RJ.run ttok 2 rfl ?_
                          rcases Bool.eq_false_or_eq_true (decide (r53 < 0)) with c59 | c59
                          · replace H := ite_t c59 H
                            refine RJ.know (t := 96) rfl (congrArg Value.bool c59) ?_
                            refine RJ.run ttok 2 rfl ?_
                            obtain ⟨r54, q54, H⟩ := bind_t H
                            refine RJ.op rfl rfl (op_call [] (lex_Compare.spec q54) rfl rfl rfl h53 rfl gnil) ?_
                            rintro _ w54 ⟨_, ⟨rfl, rfl⟩, h54⟩
                            refine RJ.run ttok 3 rfl ?_
                            rcases Bool.eq_false_or_eq_true (decide (r54 ≤ 0)) with c60 | c60
                            · replace H := ite_t c60 H
                              refine RJ.know (t := 102) rfl (congrArg Value.bool c60) ?_
                              refine RJ.run ttok 9 rfl ?_
                              rcases Bool.eq_false_or_eq_true (decide ((r51.1.length : Int) ≤ (a1.length : Int))) with c61 | c61
                              · replace H := ite_t c61 H
                                refine RJ.know (t := 111) rfl (congrArg Value.bool c61) ?_
                                obtain ⟨r55, q55, H⟩ := bind_t H
                                refine RJ.op rfl rfl (op_call [] (sluicegatelaw01_awake.spec q55) rfl rfl rfl h54 rfl gnil) ?_
                                rintro _ w55 ⟨_, ⟨rfl, rfl⟩, h55⟩
                                refine RJ.run ttok 2 rfl ?_
                                refine RJ.fin [(6, .bool r55)] rfl ?_
                                refine J.ret ?_
                                obtain rfl := Option.some.inj H
                                exact ⟨_, _, _, (results_slots rfl), ⟨rfl, rfl⟩, h55.only [] rfl⟩
                              · replace H := ite_f c61 H
                                refine RJ.know (t := 111) rfl (congrArg Value.bool c61) ?_
                                refine RJ.run ttok 3 rfl ?_
                                refine RJ.fin [(6, .bool false)] rfl ?_
                                refine J.ret ?_
                                obtain rfl := Option.some.inj H
                                exact ⟨_, _, _, (results_slots rfl), ⟨rfl, rfl⟩, h54.only [] rfl⟩
                            · replace H := ite_f c60 H
                              refine RJ.know (t := 102) rfl (congrArg Value.bool c60) ?_
                              refine RJ.run ttok 12 rfl ?_
                              refine RJ.fin [(6, .bool false)] rfl ?_
                              refine J.ret ?_
                              obtain rfl := Option.some.inj H
                              exact ⟨_, _, _, (results_slots rfl), ⟨rfl, rfl⟩, h54.only [] rfl⟩
                          · replace H := ite_f c59 H
                            refine RJ.know (t := 96) rfl (congrArg Value.bool c59) ?_
                            refine RJ.run ttok 18 rfl ?_
                            refine RJ.fin [(6, .bool false)] rfl ?_
                            refine J.ret ?_
                            obtain rfl := Option.some.inj H
                            exact ⟨_, _, _, (results_slots rfl), ⟨rfl, rfl⟩, h53.only [] rfl⟩
                      · replace H := ite_f c57 H
                        refine RJ.know (t := 88) rfl (congrArg Value.bool c57) ?_
                        refine RJ.run ttok 26 rfl ?_
                        refine RJ.fin [(6, .bool false)] rfl ?_
                        refine J.ret ?_
                        obtain rfl := Option.some.inj H
                        exact ⟨_, _, _, (results_slots rfl), ⟨rfl, rfl⟩, h51.only [] rfl⟩
                  · replace H := ite_f c55 H
                    refine RJ.know (t := 71) rfl (congrArg Value.bool c55) ?_
                    refine RJ.run ttok 6 rfl ?_
                    refine RJ.fin [(0, .string ⟨⟨a0⟩⟩), (1, .string ⟨⟨a1⟩⟩), (7, .int .i64 r1), (77, .bool false)] rfl ?_
                    refine J.condF rfl ?_
                    refine J.skip ?_
                    refine J.seq ?_
                    refine J.region ?_
                    refine RJ.run ttok 2 rfl ?_
                    obtain ⟨r56, q56, H⟩ := bind_t H
                    refine RJ.op rfl rfl (op_call [] (lex_Cut.spec q56) rfl rfl rfl h49 rfl gnil) ?_
                    rintro _ w56 ⟨_, ⟨rfl, rfl⟩, h56⟩
                    refine RJ.run ttok 5 rfl ?_
                    refine RJ.fin [(0, .string ⟨⟨a0⟩⟩), (1, .string ⟨⟨a1⟩⟩), (7, .int .i64 r1), (11, .string ⟨⟨r56.1⟩⟩), (12, .bool r56.2)] rfl ?_
                    refine J.seq ?_
                    refine J.region ?_
                    refine RJ.run ttok 5 rfl ?_
                    rcases Bool.eq_false_or_eq_true (r56.2 == (decide (r1 < 0))) with c62 | c62
                    · replace H := ite_t c62 H
                      refine RJ.know (t := 88) rfl (congrArg Value.bool c62) ?_
                      refine RJ.run ttok 3 rfl ?_
                      rcases Bool.eq_false_or_eq_true (!r56.2) with c63 | c63
                      · replace H := ite_t c63 H
                        refine RJ.know (t := 91) rfl (congrArg Value.bool c63) ?_
                        refine RJ.run ttok 20 rfl ?_
                        obtain ⟨r57, q57, H⟩ := bind_t H
                        refine RJ.op rfl rfl (op_call [] (sluicegatelaw01_awake.spec q57) rfl rfl rfl h56 rfl gnil) ?_
                        rintro _ w57 ⟨_, ⟨rfl, rfl⟩, h57⟩
                        refine RJ.run ttok 2 rfl ?_
                        refine RJ.fin [(6, .bool r57)] rfl ?_
                        refine J.ret ?_
                        obtain rfl := Option.some.inj H
                        exact ⟨_, _, _, (results_slots rfl), ⟨rfl, rfl⟩, h57.only [] rfl⟩
                      · replace H := ite_f c63 H
                        refine RJ.know (t := 91) rfl (congrArg Value.bool c63) ?_
                        refine RJ.run ttok 2 rfl ?_
                        obtain ⟨r58, q58, H⟩ := bind_t H
                        refine RJ.op rfl rfl (op_call [] (lex_Compare.spec q58) rfl rfl rfl h56 rfl gnil) ?_
                        rintro _ w58 ⟨_, ⟨rfl, rfl⟩, h58⟩
                        refine RJ.run ttok 2 rfl ?_
                        rcases Bool.eq_false_or_eq_true (decide (r58 < 0)) with c64 | c64
                        · replace H := ite_t c64 H
                          refine RJ.know (t := 96) rfl (congrArg Value.bool c64) ?_
                          refine RJ.run ttok 2 rfl ?_
                          obtain ⟨r59, q59, H⟩ := bind_t H
                          refine RJ.op rfl rfl (op_call [] (lex_Compare.spec q59) rfl rfl rfl h58 rfl gnil) ?_
                          rintro _ w59 ⟨_, ⟨rfl, rfl⟩, h59⟩
                          refine RJ.run ttok 3 rfl ?_
                          rcases Bool.eq_false_or_eq_true (decide (r59 ≤ 0)) with c65 | c65
                          · replace H := ite_t c65 H
                            refine RJ.know (t := 102) rfl (congrArg Value.bool c65) ?_
                            refine RJ.run ttok 9 rfl ?_
                            rcases Bool.eq_false_or_eq_true (decide ((r56.1.length : Int) ≤ (a1.length : Int))) with c66 | c66
                            · replace H := ite_t c66 H
                              refine RJ.know (t := 111) rfl (congrArg Value.bool c66) ?_
                              obtain ⟨r60, q60, H⟩ := bind_t H
                              refine RJ.op rfl rfl (op_call [] (sluicegatelaw01_awake.spec q60) rfl rfl rfl h59 rfl gnil) ?_
                              rintro _ w60 ⟨_, ⟨rfl, rfl⟩, h60⟩
                              refine RJ.run ttok 2 rfl ?_
                              refine RJ.fin [(6, .bool r60)] rfl ?_
                              refine J.ret ?_
                              obtain rfl := Option.some.inj H
                              exact ⟨_, _, _, (results_slots rfl), ⟨rfl, rfl⟩, h60.only [] rfl⟩
                            · replace H := ite_f c66 H
                              refine RJ.know (t := 111) rfl (congrArg Value.bool c66) ?_
                              refine RJ.run ttok 3 rfl ?_
                              refine RJ.fin [(6, .bool false)] rfl ?_
                              refine J.ret ?_
                              obtain rfl := Option.some.inj H
                              exact ⟨_, _, _, (results_slots rfl), ⟨rfl, rfl⟩, h59.only [] rfl⟩
                          · replace H := ite_f c65 H
                            refine RJ.know (t := 102) rfl (congrArg Value.bool c65) ?_
                            refine RJ.run ttok 12 rfl ?_
                            refine RJ.fin [(6, .bool false)] rfl ?_
                            refine J.ret ?_
                            obtain rfl := Option.some.inj H
                            exact ⟨_, _, _, (results_slots rfl), ⟨rfl, rfl⟩, h59.only [] rfl⟩
                        · replace H := ite_f c64 H
                          refine RJ.know (t := 96) rfl (congrArg Value.bool c64) ?_
                          refine RJ.run ttok 18 rfl ?_
                          refine RJ.fin [(6, .bool false)] rfl ?_
                          refine J.ret ?_
                          obtain rfl := Option.some.inj H
                          exact ⟨_, _, _, (results_slots rfl), ⟨rfl, rfl⟩, h58.only [] rfl⟩
                    · replace H := ite_f c62 H
                      refine RJ.know (t := 88) rfl (congrArg Value.bool c62) ?_
                      refine RJ.run ttok 26 rfl ?_
                      refine RJ.fin [(6, .bool false)] rfl ?_
                      refine J.ret ?_
                      obtain rfl := Option.some.inj H
                      exact ⟨_, _, _, (results_slots rfl), ⟨rfl, rfl⟩, h56.only [] rfl⟩
          · replace H := ite_f c51 H
            refine RJ.know (t := 47) rfl (congrArg Value.bool c51) ?_
            refine RJ.run ttok 12 rfl ?_
            refine RJ.fin [(0, .string ⟨⟨a0⟩⟩), (1, .string ⟨⟨a1⟩⟩), (7, .int .i64 r1), (59, .bool (!((decide (r1 = 0)) == (decide (a0 = a1)))))] rfl ?_
            refine J.cond rfl (fun c67 => ?_) (fun c67 => ?_)
            · replace H := ite_t c67 H
              refine J.seq ?_
              refine J.region ?_
              refine RJ.run ttok 1 rfl ?_
              refine RJ.fin [(6, .bool false)] rfl ?_
              refine J.ret ?_
              obtain rfl := Option.some.inj H
              exact ⟨_, _, _, (results_slots rfl), ⟨rfl, rfl⟩, h4.only [] rfl⟩
            · replace H := ite_f c67 H
              refine J.skip ?_
              refine J.seq ?_
              refine J.region ?_
              refine RJ.run ttok 1 rfl ?_
              obtain ⟨r61, q61, H⟩ := bind_t H
              refine RJ.op rfl rfl (op_call [] (lex_Next.spec q61) rfl rfl rfl h4 rfl gnil) ?_
              rintro _ w61 ⟨_, ⟨rfl, rfl⟩, h61⟩
              refine RJ.run ttok 1 rfl ?_
              refine RJ.fin [(0, .string ⟨⟨a0⟩⟩), (1, .string ⟨⟨a1⟩⟩), (7, .int .i64 r1), (10, .string ⟨⟨r61⟩⟩)] rfl ?_
              refine J.seq ?_
              refine J.seq ?_
              refine J.region ?_
              refine RJ.run ttok 2 rfl ?_
              obtain ⟨r62, q62, H⟩ := bind_t H
              refine RJ.op rfl rfl (op_call [] (lex_Compare.spec q62) rfl rfl rfl h61 rfl gnil) ?_
              rintro _ w62 ⟨_, ⟨rfl, rfl⟩, h62⟩
              refine RJ.run ttok 2 rfl ?_
              rcases Bool.eq_false_or_eq_true (!decide (r62 = (-1))) with c68 | c68
              · replace H := ite_t c68 H
                refine RJ.know (t := 66) rfl (congrArg Value.bool c68) ?_
                refine RJ.run ttok 11 rfl ?_
                refine RJ.fin [(0, .string ⟨⟨a0⟩⟩), (1, .string ⟨⟨a1⟩⟩), (7, .int .i64 r1), (77, .bool true)] rfl ?_
                refine J.condT rfl ?_
                refine J.seq ?_
                refine J.region ?_
                refine RJ.run ttok 1 rfl ?_
                refine RJ.fin [(6, .bool false)] rfl ?_
                refine J.ret ?_
                obtain rfl := Option.some.inj H
                exact ⟨_, _, _, (results_slots rfl), ⟨rfl, rfl⟩, h62.only [] rfl⟩
              · replace H := ite_f c68 H
                refine RJ.know (t := 66) rfl (congrArg Value.bool c68) ?_
                refine RJ.run ttok 2 rfl ?_
                obtain ⟨r63, q63, H⟩ := bind_t H
                refine RJ.op rfl rfl (op_call [] (lex_Compare.spec q63) rfl rfl rfl h62 rfl gnil) ?_
                rintro _ w63 ⟨_, ⟨rfl, rfl⟩, h63⟩
                refine RJ.run ttok 2 rfl ?_
                rcases Bool.eq_false_or_eq_true (decide (r63 < 0)) with c69 | c69
                · replace H := ite_t c69 H
                  refine RJ.know (t := 71) rfl (congrArg Value.bool c69) ?_
                  refine RJ.run ttok 2 rfl ?_
                  obtain ⟨r64, q64, H⟩ := bind_t H
                  refine RJ.op rfl rfl (op_call [] (lex_Compare.spec q64) rfl rfl rfl h63 rfl gnil) ?_
                  rintro _ w64 ⟨_, ⟨rfl, rfl⟩, h64⟩
                  refine RJ.run ttok 3 rfl ?_
                  refine RJ.fin [(0, .string ⟨⟨a0⟩⟩), (1, .string ⟨⟨a1⟩⟩), (7, .int .i64 r1), (77, .bool (decide (r64 < 0)))] rfl ?_
                  refine J.cond rfl (fun c70 => ?_) (fun c70 => ?_)
                  · replace H := ite_t c70 H
                    refine J.seq ?_
                    refine J.region ?_
                    refine RJ.run ttok 1 rfl ?_
                    refine RJ.fin [(6, .bool false)] rfl ?_
                    refine J.ret ?_
                    obtain rfl := Option.some.inj H
                    exact ⟨_, _, _, (results_slots rfl), ⟨rfl, rfl⟩, h64.only [] rfl⟩
                  · replace H := ite_f c70 H
                    refine J.skip ?_
                    refine J.seq ?_
                    refine J.region ?_
                    refine RJ.run ttok 2 rfl ?_
                    obtain ⟨r65, q65, H⟩ := bind_t H
                    refine RJ.op rfl rfl (op_call [] (lex_Cut.spec q65) rfl rfl rfl h64 rfl gnil) ?_
                    rintro _ w65 ⟨_, ⟨rfl, rfl⟩, h65⟩
                    refine RJ.run ttok 5 rfl ?_
                    refine RJ.fin [(0, .string ⟨⟨a0⟩⟩), (1, .string ⟨⟨a1⟩⟩), (7, .int .i64 r1), (11, .string ⟨⟨r65.1⟩⟩), (12, .bool r65.2)] rfl ?_
                    refine J.seq ?_
                    refine J.region ?_
                    refine RJ.run ttok 5 rfl ?_
                    rcases Bool.eq_false_or_eq_true (r65.2 == (decide (r1 < 0))) with c71 | c71
                    · replace H := ite_t c71 H
                      refine RJ.know (t := 88) rfl (congrArg Value.bool c71) ?_
                      refine RJ.run ttok 3 rfl ?_
                      rcases Bool.eq_false_or_eq_true (!r65.2) with c72 | c72
                      · replace H := ite_t c72 H
                        refine RJ.know (t := 91) rfl (congrArg Value.bool c72) ?_
                        refine RJ.run ttok 20 rfl ?_
                        obtain ⟨r66, q66, H⟩ := bind_t H
                        refine RJ.op rfl rfl (op_call [] (sluicegatelaw01_awake.spec q66) rfl rfl rfl h65 rfl gnil) ?_
                        rintro _ w66 ⟨_, ⟨rfl, rfl⟩, h66⟩
                        refine RJ.run ttok 2 rfl ?_
                        refine RJ.fin [(6, .bool r66)] rfl ?_
                        refine J.ret ?_
                        obtain rfl := Option.some.inj H
                        exact ⟨_, _, _, (results_slots rfl), ⟨rfl, rfl⟩, h66.only [] rfl⟩
                      · replace H := ite_f c72 H
                        refine RJ.know (t := 91) rfl (congrArg Value.bool c72) ?_
                        refine RJ.run ttok 2 rfl ?_
                        obtain ⟨r67, q67, H⟩ := bind_t H
                        refine RJ.op rfl rfl (op_call [] (lex_Compare.spec q67) rfl rfl rfl h65 rfl gnil) ?_
                        rintro _ w67 ⟨_, ⟨rfl, rfl⟩, h67⟩
                        refine RJ.run ttok 2 rfl ?_
                        rcases Bool.eq_false_or_eq_true (decide (r67 < 0)) with c73 | c73
                        · replace H := ite_t c73 H
                          refine RJ.know (t := 96) rfl (congrArg Value.bool c73) ?_
                          refine RJ.run ttok 2 rfl ?_
                          obtain ⟨r68, q68, H⟩ := bind_t H
                          refine RJ.op rfl rfl (op_call [] (lex_Compare.spec q68) rfl rfl rfl h67 rfl gnil) ?_
                          rintro _ w68 ⟨_, ⟨rfl, rfl⟩, h68⟩
                          refine RJ.run ttok 3 rfl ?_
                          rcases Bool.eq_false_or_eq_true (decide (r68 ≤ 0)) with c74 | c74
                          · replace H := ite_t c74 H
                            refine RJ.know (t := 102) rfl (congrArg Value.bool c74) ?_
                            refine RJ.run ttok 9 rfl ?_
                            rcases Bool.eq_false_or_eq_true (decide ((r65.1.length : Int) ≤ (a1.length : Int))) with c75 | c75
                            · replace H := ite_t c75 H
                              refine RJ.know (t := 111) rfl (congrArg Value.bool c75) ?_
                              obtain ⟨r69, q69, H⟩ := bind_t H
                              refine RJ.op rfl rfl (op_call [] (sluicegatelaw01_awake.spec q69) rfl rfl rfl h68 rfl gnil) ?_
                              rintro _ w69 ⟨_, ⟨rfl, rfl⟩, h69⟩
                              refine RJ.run ttok 2 rfl ?_
                              refine RJ.fin [(6, .bool r69)] rfl ?_
                              refine J.ret ?_
                              obtain rfl := Option.some.inj H
                              exact ⟨_, _, _, (results_slots rfl), ⟨rfl, rfl⟩, h69.only [] rfl⟩
                            · replace H := ite_f c75 H
                              refine RJ.know (t := 111) rfl (congrArg Value.bool c75) ?_
                              refine RJ.run ttok 3 rfl ?_
                              refine RJ.fin [(6, .bool false)] rfl ?_
                              refine J.ret ?_
                              obtain rfl := Option.some.inj H
                              exact ⟨_, _, _, (results_slots rfl), ⟨rfl, rfl⟩, h68.only [] rfl⟩
                          · replace H := ite_f c74 H
                            refine RJ.know (t := 102) rfl (congrArg Value.bool c74) ?_
                            refine RJ.run ttok 12 rfl ?_
                            refine RJ.fin [(6, .bool false)] rfl ?_
                            refine J.ret ?_
                            obtain rfl := Option.some.inj H
                            exact ⟨_, _, _, (results_slots rfl), ⟨rfl, rfl⟩, h68.only [] rfl⟩
                        · replace H := ite_f c73 H
                          refine RJ.know (t := 96) rfl (congrArg Value.bool c73) ?_
                          refine RJ.run ttok 18 rfl ?_
                          refine RJ.fin [(6, .bool false)] rfl ?_
                          refine J.ret ?_
                          obtain rfl := Option.some.inj H
                          exact ⟨_, _, _, (results_slots rfl), ⟨rfl, rfl⟩, h67.only [] rfl⟩
                    · replace H := ite_f c71 H
                      refine RJ.know (t := 88) rfl (congrArg Value.bool c71) ?_
                      refine RJ.run ttok 26 rfl ?_
                      refine RJ.fin [(6, .bool false)] rfl ?_
                      refine J.ret ?_
                      obtain rfl := Option.some.inj H
                      exact ⟨_, _, _, (results_slots rfl), ⟨rfl, rfl⟩, h65.only [] rfl⟩
                · replace H := ite_f c69 H
                  refine RJ.know (t := 71) rfl (congrArg Value.bool c69) ?_
                  refine RJ.run ttok 6 rfl ?_
                  refine RJ.fin [(0, .string ⟨⟨a0⟩⟩), (1, .string ⟨⟨a1⟩⟩), (7, .int .i64 r1), (77, .bool false)] rfl ?_
                  refine J.condF rfl ?_
                  refine J.skip ?_
                  refine J.seq ?_
                  refine J.region ?_
                  refine RJ.run ttok 2 rfl ?_
                  obtain ⟨r70, q70, H⟩ := bind_t H
                  refine RJ.op rfl rfl (op_call [] (lex_Cut.spec q70) rfl rfl rfl h63 rfl gnil) ?_
                  rintro _ w70 ⟨_, ⟨rfl, rfl⟩, h70⟩
                  refine RJ.run ttok 5 rfl ?_
                  refine RJ.fin [(0, .string ⟨⟨a0⟩⟩), (1, .string ⟨⟨a1⟩⟩), (7, .int .i64 r1), (11, .string ⟨⟨r70.1⟩⟩), (12, .bool r70.2)] rfl ?_
                  refine J.seq ?_
                  refine J.region ?_
                  refine RJ.run ttok 5 rfl ?_
                  rcases Bool.eq_false_or_eq_true (r70.2 == (decide (r1 < 0))) with c76 | c76
                  · replace H := ite_t c76 H
                    refine RJ.know (t := 88) rfl (congrArg Value.bool c76) ?_
                    refine RJ.run ttok 3 rfl ?_
                    rcases Bool.eq_false_or_eq_true (!r70.2) with c77 | c77
                    · replace H := ite_t c77 H
                      refine RJ.know (t := 91) rfl (congrArg Value.bool c77) ?_
                      refine RJ.run ttok 20 rfl ?_
                      obtain ⟨r71, q71, H⟩ := bind_t H
                      refine RJ.op rfl rfl (op_call [] (sluicegatelaw01_awake.spec q71) rfl rfl rfl h70 rfl gnil) ?_
                      rintro _ w71 ⟨_, ⟨rfl, rfl⟩, h71⟩
                      refine RJ.run ttok 2 rfl ?_
                      refine RJ.fin [(6, .bool r71)] rfl ?_
                      refine J.ret ?_
                      obtain rfl := Option.some.inj H
                      exact ⟨_, _, _, (results_slots rfl), ⟨rfl, rfl⟩, h71.only [] rfl⟩
                    · replace H := ite_f c77 H
                      refine RJ.know (t := 91) rfl (congrArg Value.bool c77) ?_
                      refine RJ.run ttok 2 rfl ?_
                      obtain ⟨r72, q72, H⟩ := bind_t H
                      refine RJ.op rfl rfl (op_call [] (lex_Compare.spec q72) rfl rfl rfl h70 rfl gnil) ?_
                      rintro _ w72 ⟨_, ⟨rfl, rfl⟩, h72⟩
                      refine RJ.run ttok 2 rfl ?_
                      rcases Bool.eq_false_or_eq_true (decide (r72 < 0)) with c78 | c78
                      · replace H := ite_t c78 H
                        refine RJ.know (t := 96) rfl (congrArg Value.bool c78) ?_
                        refine RJ.run ttok 2 rfl ?_
                        obtain ⟨r73, q73, H⟩ := bind_t H
                        refine RJ.op rfl rfl (op_call [] (lex_Compare.spec q73) rfl rfl rfl h72 rfl gnil) ?_
                        rintro _ w73 ⟨_, ⟨rfl, rfl⟩, h73⟩
                        refine RJ.run ttok 3 rfl ?_
                        rcases Bool.eq_false_or_eq_true (decide (r73 ≤ 0)) with c79 | c79
                        · replace H := ite_t c79 H
                          refine RJ.know (t := 102) rfl (congrArg Value.bool c79) ?_
                          refine RJ.run ttok 9 rfl ?_
                          rcases Bool.eq_false_or_eq_true (decide ((r70.1.length : Int) ≤ (a1.length : Int))) with c80 | c80
                          · replace H := ite_t c80 H
                            refine RJ.know (t := 111) rfl (congrArg Value.bool c80) ?_
                            obtain ⟨r74, q74, H⟩ := bind_t H
                            refine RJ.op rfl rfl (op_call [] (sluicegatelaw01_awake.spec q74) rfl rfl rfl h73 rfl gnil) ?_
                            rintro _ w74 ⟨_, ⟨rfl, rfl⟩, h74⟩
                            refine RJ.run ttok 2 rfl ?_
                            refine RJ.fin [(6, .bool r74)] rfl ?_
                            refine J.ret ?_
                            obtain rfl := Option.some.inj H
                            exact ⟨_, _, _, (results_slots rfl), ⟨rfl, rfl⟩, h74.only [] rfl⟩
                          · replace H := ite_f c80 H
                            refine RJ.know (t := 111) rfl (congrArg Value.bool c80) ?_
                            refine RJ.run ttok 3 rfl ?_
                            refine RJ.fin [(6, .bool false)] rfl ?_
                            refine J.ret ?_
                            obtain rfl := Option.some.inj H
                            exact ⟨_, _, _, (results_slots rfl), ⟨rfl, rfl⟩, h73.only [] rfl⟩
                        · replace H := ite_f c79 H
                          refine RJ.know (t := 102) rfl (congrArg Value.bool c79) ?_
                          refine RJ.run ttok 12 rfl ?_
                          refine RJ.fin [(6, .bool false)] rfl ?_
                          refine J.ret ?_
                          obtain rfl := Option.some.inj H
                          exact ⟨_, _, _, (results_slots rfl), ⟨rfl, rfl⟩, h73.only [] rfl⟩
                      · replace H := ite_f c78 H
                        refine RJ.know (t := 96) rfl (congrArg Value.bool c78) ?_
                        refine RJ.run ttok 18 rfl ?_
                        refine RJ.fin [(6, .bool false)] rfl ?_
                        refine J.ret ?_
                        obtain rfl := Option.some.inj H
                        exact ⟨_, _, _, (results_slots rfl), ⟨rfl, rfl⟩, h72.only [] rfl⟩
                  · replace H := ite_f c76 H
                    refine RJ.know (t := 88) rfl (congrArg Value.bool c76) ?_
                    refine RJ.run ttok 26 rfl ?_
                    refine RJ.fin [(6, .bool false)] rfl ?_
                    refine J.ret ?_
                    obtain rfl := Option.some.inj H
                    exact ⟨_, _, _, (results_slots rfl), ⟨rfl, rfl⟩, h70.only [] rfl⟩
        · replace H := ite_f c50 H
          refine RJ.know (t := 43) rfl (congrArg Value.bool c50) ?_
          refine RJ.run ttok 16 rfl ?_
          refine RJ.fin [(0, .string ⟨⟨a0⟩⟩), (1, .string ⟨⟨a1⟩⟩), (7, .int .i64 r1), (59, .bool (!((decide (r1 = 0)) == (decide (a0 = a1)))))] rfl ?_
          refine J.cond rfl (fun c81 => ?_) (fun c81 => ?_)
          · replace H := ite_t c81 H
            refine J.seq ?_
            refine J.region ?_
            refine RJ.run ttok 1 rfl ?_
            refine RJ.fin [(6, .bool false)] rfl ?_
            refine J.ret ?_
            obtain rfl := Option.some.inj H
            exact ⟨_, _, _, (results_slots rfl), ⟨rfl, rfl⟩, h4.only [] rfl⟩
          · replace H := ite_f c81 H
            refine J.skip ?_
            refine J.seq ?_
            refine J.region ?_
            refine RJ.run ttok 1 rfl ?_
            obtain ⟨r75, q75, H⟩ := bind_t H
            refine RJ.op rfl rfl (op_call [] (lex_Next.spec q75) rfl rfl rfl h4 rfl gnil) ?_
            rintro _ w75 ⟨_, ⟨rfl, rfl⟩, h75⟩
            refine RJ.run ttok 1 rfl ?_
            refine RJ.fin [(0, .string ⟨⟨a0⟩⟩), (1, .string ⟨⟨a1⟩⟩), (7, .int .i64 r1), (10, .string ⟨⟨r75⟩⟩)] rfl ?_
            refine J.seq ?_
            refine J.seq ?_
            refine J.region ?_
            refine RJ.run ttok 2 rfl ?_
            obtain ⟨r76, q76, H⟩ := bind_t H
            refine RJ.op rfl rfl (op_call [] (lex_Compare.spec q76) rfl rfl rfl h75 rfl gnil) ?_
            rintro _ w76 ⟨_, ⟨rfl, rfl⟩, h76⟩
            refine RJ.run ttok 2 rfl ?_
            rcases Bool.eq_false_or_eq_true (!decide (r76 = (-1))) with c82 | c82
            · replace H := ite_t c82 H
              refine RJ.know (t := 66) rfl (congrArg Value.bool c82) ?_
              refine RJ.run ttok 11 rfl ?_
              refine RJ.fin [(0, .string ⟨⟨a0⟩⟩), (1, .string ⟨⟨a1⟩⟩), (7, .int .i64 r1), (77, .bool true)] rfl ?_
              refine J.condT rfl ?_
              refine J.seq ?_
              refine J.region ?_
              refine RJ.run ttok 1 rfl ?_
              refine RJ.fin [(6, .bool false)] rfl ?_
              refine J.ret ?_
              obtain rfl := Option.some.inj H
              exact ⟨_, _, _, (results_slots rfl), ⟨rfl, rfl⟩, h76.only [] rfl⟩
            · replace H := ite_f c82 H
              refine RJ.know (t := 66) rfl (congrArg Value.bool c82) ?_
              refine RJ.run ttok 2 rfl ?_
              obtain ⟨r77, q77, H⟩ := bind_t H
              refine RJ.op rfl rfl (op_call [] (lex_Compare.spec q77) rfl rfl rfl h76 rfl gnil) ?_
              rintro _ w77 ⟨_, ⟨rfl, rfl⟩, h77⟩
              refine RJ.run ttok 2 rfl ?_
              rcases Bool.eq_false_or_eq_true (decide (r77 < 0)) with c83 | c83
              · replace H := ite_t c83 H
                refine RJ.know (t := 71) rfl (congrArg Value.bool c83) ?_
                refine RJ.run ttok 2 rfl ?_
                obtain ⟨r78, q78, H⟩ := bind_t H
                refine RJ.op rfl rfl (op_call [] (lex_Compare.spec q78) rfl rfl rfl h77 rfl gnil) ?_
                rintro _ w78 ⟨_, ⟨rfl, rfl⟩, h78⟩
                refine RJ.run ttok 3 rfl ?_
                refine RJ.fin [(0, .string ⟨⟨a0⟩⟩), (1, .string ⟨⟨a1⟩⟩), (7, .int .i64 r1), (77, .bool (decide (r78 < 0)))] rfl ?_
                refine J.cond rfl (fun c84 => ?_) (fun c84 => ?_)
                · replace H := ite_t c84 H
                  refine J.seq ?_
                  refine J.region ?_
                  refine RJ.run ttok 1 rfl ?_
                  refine RJ.fin [(6, .bool false)] rfl ?_
                  refine J.ret ?_
                  obtain rfl := Option.some.inj H
                  exact ⟨_, _, _, (results_slots rfl), ⟨rfl, rfl⟩, h78.only [] rfl⟩
                · replace H := ite_f c84 H
                  refine J.skip ?_
                  refine J.seq ?_
                  refine J.region ?_
                  refine RJ.run ttok 2 rfl ?_
                  obtain ⟨r79, q79, H⟩ := bind_t H
                  refine RJ.op rfl rfl (op_call [] (lex_Cut.spec q79) rfl rfl rfl h78 rfl gnil) ?_
                  rintro _ w79 ⟨_, ⟨rfl, rfl⟩, h79⟩
                  refine RJ.run ttok 5 rfl ?_
                  refine RJ.fin [(0, .string ⟨⟨a0⟩⟩), (1, .string ⟨⟨a1⟩⟩), (7, .int .i64 r1), (11, .string ⟨⟨r79.1⟩⟩), (12, .bool r79.2)] rfl ?_
                  refine J.seq ?_
                  refine J.region ?_
                  refine RJ.run ttok 5 rfl ?_
                  rcases Bool.eq_false_or_eq_true (r79.2 == (decide (r1 < 0))) with c85 | c85
                  · replace H := ite_t c85 H
                    refine RJ.know (t := 88) rfl (congrArg Value.bool c85) ?_
                    refine RJ.run ttok 3 rfl ?_
                    rcases Bool.eq_false_or_eq_true (!r79.2) with c86 | c86
                    · replace H := ite_t c86 H
                      refine RJ.know (t := 91) rfl (congrArg Value.bool c86) ?_
                      refine RJ.run ttok 20 rfl ?_
                      obtain ⟨r80, q80, H⟩ := bind_t H
                      refine RJ.op rfl rfl (op_call [] (sluicegatelaw01_awake.spec q80) rfl rfl rfl h79 rfl gnil) ?_
                      rintro _ w80 ⟨_, ⟨rfl, rfl⟩, h80⟩
                      refine RJ.run ttok 2 rfl ?_
                      refine RJ.fin [(6, .bool r80)] rfl ?_
                      refine J.ret ?_
                      obtain rfl := Option.some.inj H
                      exact ⟨_, _, _, (results_slots rfl), ⟨rfl, rfl⟩, h80.only [] rfl⟩
                    · replace H := ite_f c86 H
                      refine RJ.know (t := 91) rfl (congrArg Value.bool c86) ?_
                      refine RJ.run ttok 2 rfl ?_
                      obtain ⟨r81, q81, H⟩ := bind_t H
                      refine RJ.op rfl rfl (op_call [] (lex_Compare.spec q81) rfl rfl rfl h79 rfl gnil) ?_
                      rintro _ w81 ⟨_, ⟨rfl, rfl⟩, h81⟩
                      refine RJ.run ttok 2 rfl ?_
                      rcases Bool.eq_false_or_eq_true (decide (r81 < 0)) with c87 | c87
                      · replace H := ite_t c87 H
                        refine RJ.know (t := 96) rfl (congrArg Value.bool c87) ?_
                        refine RJ.run ttok 2 rfl ?_
                        obtain ⟨r82, q82, H⟩ := bind_t H
                        refine RJ.op rfl rfl (op_call [] (lex_Compare.spec q82) rfl rfl rfl h81 rfl gnil) ?_
                        rintro _ w82 ⟨_, ⟨rfl, rfl⟩, h82⟩
                        refine RJ.run ttok 3 rfl ?_
                        rcases Bool.eq_false_or_eq_true (decide (r82 ≤ 0)) with c88 | c88
                        · replace H := ite_t c88 H
                          refine RJ.know (t := 102) rfl (congrArg Value.bool c88) ?_
                          refine RJ.run ttok 9 rfl ?_
                          rcases Bool.eq_false_or_eq_true (decide ((r79.1.length : Int) ≤ (a1.length : Int))) with c89 | c89
                          · replace H := ite_t c89 H
                            refine RJ.know (t := 111) rfl (congrArg Value.bool c89) ?_
                            obtain ⟨r83, q83, H⟩ := bind_t H
                            refine RJ.op rfl rfl (op_call [] (sluicegatelaw01_awake.spec q83) rfl rfl rfl h82 rfl gnil) ?_
                            rintro _ w83 ⟨_, ⟨rfl, rfl⟩, h83⟩
                            refine RJ.run ttok 2 rfl ?_
                            refine RJ.fin [(6, .bool r83)] rfl ?_
                            refine J.ret ?_
                            obtain rfl := Option.some.inj H
                            exact ⟨_, _, _, (results_slots rfl), ⟨rfl, rfl⟩, h83.only [] rfl⟩
                          · replace H := ite_f c89 H
                            refine RJ.know (t := 111) rfl (congrArg Value.bool c89) ?_
                            refine RJ.run ttok 3 rfl ?_
                            refine RJ.fin [(6, .bool false)] rfl ?_
                            refine J.ret ?_
                            obtain rfl := Option.some.inj H
                            exact ⟨_, _, _, (results_slots rfl), ⟨rfl, rfl⟩, h82.only [] rfl⟩
                        · replace H := ite_f c88 H
                          refine RJ.know (t := 102) rfl (congrArg Value.bool c88) ?_
                          refine RJ.run ttok 12 rfl ?_
                          refine RJ.fin [(6, .bool false)] rfl ?_
                          refine J.ret ?_
                          obtain rfl := Option.some.inj H
                          exact ⟨_, _, _, (results_slots rfl), ⟨rfl, rfl⟩, h82.only [] rfl⟩
                      · replace H := ite_f c87 H
                        refine RJ.know (t := 96) rfl (congrArg Value.bool c87) ?_
                        refine RJ.run ttok 18 rfl ?_
                        refine RJ.fin [(6, .bool false)] rfl ?_
                        refine J.ret ?_
                        obtain rfl := Option.some.inj H
                        exact ⟨_, _, _, (results_slots rfl), ⟨rfl, rfl⟩, h81.only [] rfl⟩
                  · replace H := ite_f c85 H
                    refine RJ.know (t := 88) rfl (congrArg Value.bool c85) ?_
                    refine RJ.run ttok 26 rfl ?_
                    refine RJ.fin [(6, .bool false)] rfl ?_
                    refine J.ret ?_
                    obtain rfl := Option.some.inj H
                    exact ⟨_, _, _, (results_slots rfl), ⟨rfl, rfl⟩, h79.only [] rfl⟩
              · replace H := ite_f c83 H
                refine RJ.know (t := 71) rfl (congrArg Value.bool c83) ?_
                refine RJ.run ttok 6 rfl ?_
                refine RJ.fin [(0, .string ⟨⟨a0⟩⟩), (1, .string ⟨⟨a1⟩⟩), (7, .int .i64 r1), (77, .bool false)] rfl ?_
                refine J.condF rfl ?_
                refine J.skip ?_
                refine J.seq ?_
                refine J.region ?_
                refine RJ.run ttok 2 rfl ?_
                obtain ⟨r84, q84, H⟩ := bind_t H
                refine RJ.op rfl rfl (op_call [] (lex_Cut.spec q84) rfl rfl rfl h77 rfl gnil) ?_
                rintro _ w84 ⟨_, ⟨rfl, rfl⟩, h84⟩
                refine RJ.run ttok 5 rfl ?_
                refine RJ.fin [(0, .string ⟨⟨a0⟩⟩), (1, .string ⟨⟨a1⟩⟩), (7, .int .i64 r1), (11, .string ⟨⟨r84.1⟩⟩), (12, .bool r84.2)] rfl ?_
                refine J.seq ?_
                refine J.region ?_
                refine RJ.run ttok 5 rfl ?_
                rcases Bool.eq_false_or_eq_true (r84.2 == (decide (r1 < 0))) with c90 | c90
                · replace H := ite_t c90 H
                  refine RJ.know (t := 88) rfl (congrArg Value.bool c90) ?_
                  refine RJ.run ttok 3 rfl ?_
                  rcases Bool.eq_false_or_eq_true (!r84.2) with c91 | c91
                  · replace H := ite_t c91 H
                    refine RJ.know (t := 91) rfl (congrArg Value.bool c91) ?_
                    refine RJ.run ttok 20 rfl ?_
                    obtain ⟨r85, q85, H⟩ := bind_t H
                    refine RJ.op rfl rfl (op_call [] (sluicegatelaw01_awake.spec q85) rfl rfl rfl h84 rfl gnil) ?_
                    rintro _ w85 ⟨_, ⟨rfl, rfl⟩, h85⟩
                    refine RJ.run ttok 2 rfl ?_
                    refine RJ.fin [(6, .bool r85)] rfl ?_
                    refine J.ret ?_
                    obtain rfl := Option.some.inj H
                    exact ⟨_, _, _, (results_slots rfl), ⟨rfl, rfl⟩, h85.only [] rfl⟩
                  · replace H := ite_f c91 H
                    refine RJ.know (t := 91) rfl (congrArg Value.bool c91) ?_
                    refine RJ.run ttok 2 rfl ?_
                    obtain ⟨r86, q86, H⟩ := bind_t H
                    refine RJ.op rfl rfl (op_call [] (lex_Compare.spec q86) rfl rfl rfl h84 rfl gnil) ?_
                    rintro _ w86 ⟨_, ⟨rfl, rfl⟩, h86⟩
                    refine RJ.run ttok 2 rfl ?_
                    rcases Bool.eq_false_or_eq_true (decide (r86 < 0)) with c92 | c92
                    · replace H := ite_t c92 H
                      refine RJ.know (t := 96) rfl (congrArg Value.bool c92) ?_
                      refine RJ.run ttok 2 rfl ?_
                      obtain ⟨r87, q87, H⟩ := bind_t H
                      refine RJ.op rfl rfl (op_call [] (lex_Compare.spec q87) rfl rfl rfl h86 rfl gnil) ?_
                      rintro _ w87 ⟨_, ⟨rfl, rfl⟩, h87⟩
                      refine RJ.run ttok 3 rfl ?_
                      rcases Bool.eq_false_or_eq_true (decide (r87 ≤ 0)) with c93 | c93
                      · replace H := ite_t c93 H
                        refine RJ.know (t := 102) rfl (congrArg Value.bool c93) ?_
                        refine RJ.run ttok 9 rfl ?_
                        rcases Bool.eq_false_or_eq_true (decide ((r84.1.length : Int) ≤ (a1.length : Int))) with c94 | c94
                        · replace H := ite_t c94 H
                          refine RJ.know (t := 111) rfl (congrArg Value.bool c94) ?_
                          obtain ⟨r88, q88, H⟩ := bind_t H
                          refine RJ.op rfl rfl (op_call [] (sluicegatelaw01_awake.spec q88) rfl rfl rfl h87 rfl gnil) ?_
                          rintro _ w88 ⟨_, ⟨rfl, rfl⟩, h88⟩
                          refine RJ.run ttok 2 rfl ?_
                          refine RJ.fin [(6, .bool r88)] rfl ?_
                          refine J.ret ?_
                          obtain rfl := Option.some.inj H
                          exact ⟨_, _, _, (results_slots rfl), ⟨rfl, rfl⟩, h88.only [] rfl⟩
                        · replace H := ite_f c94 H
                          refine RJ.know (t := 111) rfl (congrArg Value.bool c94) ?_
                          refine RJ.run ttok 3 rfl ?_
                          refine RJ.fin [(6, .bool false)] rfl ?_
                          refine J.ret ?_
                          obtain rfl := Option.some.inj H
                          exact ⟨_, _, _, (results_slots rfl), ⟨rfl, rfl⟩, h87.only [] rfl⟩
                      · replace H := ite_f c93 H
                        refine RJ.know (t := 102) rfl (congrArg Value.bool c93) ?_
                        refine RJ.run ttok 12 rfl ?_
                        refine RJ.fin [(6, .bool false)] rfl ?_
                        refine J.ret ?_
                        obtain rfl := Option.some.inj H
                        exact ⟨_, _, _, (results_slots rfl), ⟨rfl, rfl⟩, h87.only [] rfl⟩
                    · replace H := ite_f c92 H
                      refine RJ.know (t := 96) rfl (congrArg Value.bool c92) ?_
                      refine RJ.run ttok 18 rfl ?_
                      refine RJ.fin [(6, .bool false)] rfl ?_
                      refine J.ret ?_
                      obtain rfl := Option.some.inj H
                      exact ⟨_, _, _, (results_slots rfl), ⟨rfl, rfl⟩, h86.only [] rfl⟩
                · replace H := ite_f c90 H
                  refine RJ.know (t := 88) rfl (congrArg Value.bool c90) ?_
                  refine RJ.run ttok 26 rfl ?_
                  refine RJ.fin [(6, .bool false)] rfl ?_
                  refine J.ret ?_
                  obtain rfl := Option.some.inj H
                  exact ⟨_, _, _, (results_slots rfl), ⟨rfl, rfl⟩, h84.only [] rfl⟩
    · replace H := ite_f c2 H
      refine RJ.know (t := 31) rfl (congrArg Value.bool c2) ?_
      refine RJ.run ttok 12 rfl ?_
      rcases Bool.eq_false_or_eq_true (decide (r1 < 0)) with c95 | c95
      · replace H := ite_t c95 H
        refine RJ.know (t := 43) rfl (congrArg Value.bool c95) ?_
        refine RJ.run ttok 4 rfl ?_
        rcases Bool.eq_false_or_eq_true (decide (r2 < 0)) with c96 | c96
        · replace H := ite_t c96 H
          refine RJ.know (t := 47) rfl (congrArg Value.bool c96) ?_
          refine RJ.run ttok 5 rfl ?_
          rcases Bool.eq_false_or_eq_true (decide (0 ≤ r3)) with c97 | c97
          · replace H := ite_t c97 H
            refine RJ.know (t := 52) rfl (congrArg Value.bool c97) ?_
            refine RJ.run ttok 7 rfl ?_
            refine RJ.fin [(0, .string ⟨⟨a0⟩⟩), (1, .string ⟨⟨a1⟩⟩), (7, .int .i64 r1), (59, .bool true)] rfl ?_
            refine J.condT rfl ?_
            refine J.seq ?_
            refine J.region ?_
            refine RJ.run ttok 1 rfl ?_
            refine RJ.fin [(6, .bool false)] rfl ?_
            refine J.ret ?_
            obtain rfl := Option.some.inj H
            exact ⟨_, _, _, (results_slots rfl), ⟨rfl, rfl⟩, h4.only [] rfl⟩
          · replace H := ite_f c97 H
            refine RJ.know (t := 52) rfl (congrArg Value.bool c97) ?_
            refine RJ.run ttok 7 rfl ?_
            refine RJ.fin [(0, .string ⟨⟨a0⟩⟩), (1, .string ⟨⟨a1⟩⟩), (7, .int .i64 r1), (59, .bool (!((decide (r1 = 0)) == (decide (a0 = a1)))))] rfl ?_
            refine J.cond rfl (fun c98 => ?_) (fun c98 => ?_)
            · replace H := ite_t c98 H
              refine J.seq ?_
              refine J.region ?_
              refine RJ.run ttok 1 rfl ?_
              refine RJ.fin [(6, .bool false)] rfl ?_
              refine J.ret ?_
              obtain rfl := Option.some.inj H
              exact ⟨_, _, _, (results_slots rfl), ⟨rfl, rfl⟩, h4.only [] rfl⟩
            · replace H := ite_f c98 H
              refine J.skip ?_
              refine J.seq ?_
              refine J.region ?_
              refine RJ.run ttok 1 rfl ?_
              obtain ⟨r89, q89, H⟩ := bind_t H
              refine RJ.op rfl rfl (op_call [] (lex_Next.spec q89) rfl rfl rfl h4 rfl gnil) ?_
              rintro _ w89 ⟨_, ⟨rfl, rfl⟩, h89⟩
              refine RJ.run ttok 1 rfl ?_
              refine RJ.fin [(0, .string ⟨⟨a0⟩⟩), (1, .string ⟨⟨a1⟩⟩), (7, .int .i64 r1), (10, .string ⟨⟨r89⟩⟩)] rfl ?_
              refine J.seq ?_
              refine J.seq ?_
              refine J.region ?_
              refine RJ.run ttok 2 rfl ?_
              obtain ⟨r90, q90, H⟩ := bind_t H
              refine RJ.op rfl rfl (op_call [] (lex_Compare.spec q90) rfl rfl rfl h89 rfl gnil) ?_
              rintro _ w90 ⟨_, ⟨rfl, rfl⟩, h90⟩
              refine RJ.run ttok 2 rfl ?_
              rcases Bool.eq_false_or_eq_true (!decide (r90 = (-1))) with c99 | c99
              · replace H := ite_t c99 H
                refine RJ.know (t := 66) rfl (congrArg Value.bool c99) ?_
                refine RJ.run ttok 11 rfl ?_
                refine RJ.fin [(0, .string ⟨⟨a0⟩⟩), (1, .string ⟨⟨a1⟩⟩), (7, .int .i64 r1), (77, .bool true)] rfl ?_
                refine J.condT rfl ?_
                refine J.seq ?_
                refine J.region ?_
                refine RJ.run ttok 1 rfl ?_
                refine RJ.fin [(6, .bool false)] rfl ?_
                refine J.ret ?_
                obtain rfl := Option.some.inj H
                exact ⟨_, _, _, (results_slots rfl), ⟨rfl, rfl⟩, h90.only [] rfl⟩
              · replace H := ite_f c99 H
                refine RJ.know (t := 66) rfl (congrArg Value.bool c99) ?_
                refine RJ.run ttok 2 rfl ?_
                obtain ⟨r91, q91, H⟩ := bind_t H
                refine RJ.op rfl rfl (op_call [] (lex_Compare.spec q91) rfl rfl rfl h90 rfl gnil) ?_
                rintro _ w91 ⟨_, ⟨rfl, rfl⟩, h91⟩
                refine RJ.run ttok 2 rfl ?_
                rcases Bool.eq_false_or_eq_true (decide (r91 < 0)) with c100 | c100
                · replace H := ite_t c100 H
                  refine RJ.know (t := 71) rfl (congrArg Value.bool c100) ?_
                  refine RJ.run ttok 2 rfl ?_
                  obtain ⟨r92, q92, H⟩ := bind_t H
                  refine RJ.op rfl rfl (op_call [] (lex_Compare.spec q92) rfl rfl rfl h91 rfl gnil) ?_
                  rintro _ w92 ⟨_, ⟨rfl, rfl⟩, h92⟩
                  refine RJ.run ttok 3 rfl ?_
                  refine RJ.fin [(0, .string ⟨⟨a0⟩⟩), (1, .string ⟨⟨a1⟩⟩), (7, .int .i64 r1), (77, .bool (decide (r92 < 0)))] rfl ?_
                  refine J.cond rfl (fun c101 => ?_) (fun c101 => ?_)
                  · replace H := ite_t c101 H
                    refine J.seq ?_
                    refine J.region ?_
                    refine RJ.run ttok 1 rfl ?_
                    refine RJ.fin [(6, .bool false)] rfl ?_
                    refine J.ret ?_
                    obtain rfl := Option.some.inj H
                    exact ⟨_, _, _, (results_slots rfl), ⟨rfl, rfl⟩, h92.only [] rfl⟩
                  · replace H := ite_f c101 H
                    refine J.skip ?_
                    refine J.seq ?_
                    refine J.region ?_
                    refine RJ.run ttok 2 rfl ?_
                    obtain ⟨r93, q93, H⟩ := bind_t H
                    refine RJ.op rfl rfl (op_call [] (lex_Cut.spec q93) rfl rfl rfl h92 rfl gnil) ?_
                    rintro _ w93 ⟨_, ⟨rfl, rfl⟩, h93⟩
                    refine RJ.run ttok 5 rfl ?_
                    refine RJ.fin [(0, .string ⟨⟨a0⟩⟩), (1, .string ⟨⟨a1⟩⟩), (7, .int .i64 r1), (11, .string ⟨⟨r93.1⟩⟩), (12, .bool r93.2)] rfl ?_
                    refine J.seq ?_
                    refine J.region ?_
                    refine RJ.run ttok 5 rfl ?_
                    rcases Bool.eq_false_or_eq_true (r93.2 == (decide (r1 < 0))) with c102 | c102
                    · replace H := ite_t c102 H
                      refine RJ.know (t := 88) rfl (congrArg Value.bool c102) ?_
                      refine RJ.run ttok 3 rfl ?_
                      rcases Bool.eq_false_or_eq_true (!r93.2) with c103 | c103
                      · replace H := ite_t c103 H
                        refine RJ.know (t := 91) rfl (congrArg Value.bool c103) ?_
                        refine RJ.run ttok 20 rfl ?_
                        obtain ⟨r94, q94, H⟩ := bind_t H
                        refine RJ.op rfl rfl (op_call [] (sluicegatelaw01_awake.spec q94) rfl rfl rfl h93 rfl gnil) ?_
                        rintro _ w94 ⟨_, ⟨rfl, rfl⟩, h94⟩
                        refine RJ.run ttok 2 rfl ?_
                        refine RJ.fin [(6, .bool r94)] rfl ?_
                        refine J.ret ?_
                        obtain rfl := Option.some.inj H
                        exact ⟨_, _, _, (results_slots rfl), ⟨rfl, rfl⟩, h94.only [] rfl⟩
                      · replace H := ite_f c103 H
                        refine RJ.know (t := 91) rfl (congrArg Value.bool c103) ?_
                        refine RJ.run ttok 2 rfl ?_
                        obtain ⟨r95, q95, H⟩ := bind_t H
                        refine RJ.op rfl rfl (op_call [] (lex_Compare.spec q95) rfl rfl rfl h93 rfl gnil) ?_
                        rintro _ w95 ⟨_, ⟨rfl, rfl⟩, h95⟩
                        refine RJ.run ttok 2 rfl ?_
                        rcases Bool.eq_false_or_eq_true (decide (r95 < 0)) with c104 | c104
                        · replace H := ite_t c104 H
                          refine RJ.know (t := 96) rfl (congrArg Value.bool c104) ?_
                          refine RJ.run ttok 2 rfl ?_
                          obtain ⟨r96, q96, H⟩ := bind_t H
                          refine RJ.op rfl rfl (op_call [] (lex_Compare.spec q96) rfl rfl rfl h95 rfl gnil) ?_
                          rintro _ w96 ⟨_, ⟨rfl, rfl⟩, h96⟩
                          refine RJ.run ttok 3 rfl ?_
                          rcases Bool.eq_false_or_eq_true (decide (r96 ≤ 0)) with c105 | c105
                          · replace H := ite_t c105 H
                            refine RJ.know (t := 102) rfl (congrArg Value.bool c105) ?_
                            refine RJ.run ttok 9 rfl ?_
                            rcases Bool.eq_false_or_eq_true (decide ((r93.1.length : Int) ≤ (a1.length : Int))) with c106 | c106
                            · replace H := ite_t c106 H
                              refine RJ.know (t := 111) rfl (congrArg Value.bool c106) ?_
                              obtain ⟨r97, q97, H⟩ := bind_t H
                              refine RJ.op rfl rfl (op_call [] (sluicegatelaw01_awake.spec q97) rfl rfl rfl h96 rfl gnil) ?_
                              rintro _ w97 ⟨_, ⟨rfl, rfl⟩, h97⟩
                              refine RJ.run ttok 2 rfl ?_
                              refine RJ.fin [(6, .bool r97)] rfl ?_
                              refine J.ret ?_
                              obtain rfl := Option.some.inj H
                              exact ⟨_, _, _, (results_slots rfl), ⟨rfl, rfl⟩, h97.only [] rfl⟩
                            · replace H := ite_f c106 H
                              refine RJ.know (t := 111) rfl (congrArg Value.bool c106) ?_
                              refine RJ.run ttok 3 rfl ?_
                              refine RJ.fin [(6, .bool false)] rfl ?_
                              refine J.ret ?_
                              obtain rfl := Option.some.inj H
                              exact ⟨_, _, _, (results_slots rfl), ⟨rfl, rfl⟩, h96.only [] rfl⟩
                          · replace H := ite_f c105 H
                            refine RJ.know (t := 102) rfl (congrArg Value.bool c105) ?_
                            refine RJ.run ttok 12 rfl ?_
                            refine RJ.fin [(6, .bool false)] rfl ?_
                            refine J.ret ?_
                            obtain rfl := Option.some.inj H
                            exact ⟨_, _, _, (results_slots rfl), ⟨rfl, rfl⟩, h96.only [] rfl⟩
                        · replace H := ite_f c104 H
                          refine RJ.know (t := 96) rfl (congrArg Value.bool c104) ?_
                          refine RJ.run ttok 18 rfl ?_
                          refine RJ.fin [(6, .bool false)] rfl ?_
                          refine J.ret ?_
                          obtain rfl := Option.some.inj H
                          exact ⟨_, _, _, (results_slots rfl), ⟨rfl, rfl⟩, h95.only [] rfl⟩
                    · replace H := ite_f c102 H
                      refine RJ.know (t := 88) rfl (congrArg Value.bool c102) ?_
                      refine RJ.run ttok 26 rfl ?_
                      refine RJ.fin [(6, .bool false)] rfl ?_
                      refine J.ret ?_
                      obtain rfl := Option.some.inj H
                      exact ⟨_, _, _, (results_slots rfl), ⟨rfl, rfl⟩, h93.only [] rfl⟩
                · replace H := ite_f c100 H
                  refine RJ.know (t := 71) rfl (congrArg Value.bool c100) ?_
                  refine RJ.run ttok 6 rfl ?_
                  refine RJ.fin [(0, .string ⟨⟨a0⟩⟩), (1, .string ⟨⟨a1⟩⟩), (7, .int .i64 r1), (77, .bool false)] rfl ?_
                  refine J.condF rfl ?_
                  refine J.skip ?_
                  refine J.seq ?_
                  refine J.region ?_
                  refine RJ.run ttok 2 rfl ?_
                  obtain ⟨r98, q98, H⟩ := bind_t H
                  refine RJ.op rfl rfl (op_call [] (lex_Cut.spec q98) rfl rfl rfl h91 rfl gnil) ?_
                  rintro _ w98 ⟨_, ⟨rfl, rfl⟩, h98⟩
                  refine RJ.run ttok 5 rfl ?_
                  refine RJ.fin [(0, .string ⟨⟨a0⟩⟩), (1, .string ⟨⟨a1⟩⟩), (7, .int .i64 r1), (11, .string ⟨⟨r98.1⟩⟩), (12, .bool r98.2)] rfl ?_
                  refine J.seq ?_
                  refine J.region ?_
                  refine RJ.run ttok 5 rfl ?_
                  rcases Bool.eq_false_or_eq_true (r98.2 == (decide (r1 < 0))) with c107 | c107
                  · replace H := ite_t c107 H
                    refine RJ.know (t := 88) rfl (congrArg Value.bool c107) ?_
                    refine RJ.run ttok 3 rfl ?_
                    rcases Bool.eq_false_or_eq_true (!r98.2) with c108 | c108
                    · replace H := ite_t c108 H
                      refine RJ.know (t := 91) rfl (congrArg Value.bool c108) ?_
                      refine RJ.run ttok 20 rfl ?_
                      obtain ⟨r99, q99, H⟩ := bind_t H
                      refine RJ.op rfl rfl (op_call [] (sluicegatelaw01_awake.spec q99) rfl rfl rfl h98 rfl gnil) ?_
                      rintro _ w99 ⟨_, ⟨rfl, rfl⟩, h99⟩
                      refine RJ.run ttok 2 rfl ?_
                      refine RJ.fin [(6, .bool r99)] rfl ?_
                      refine J.ret ?_
                      obtain rfl := Option.some.inj H
                      exact ⟨_, _, _, (results_slots rfl), ⟨rfl, rfl⟩, h99.only [] rfl⟩
                    · replace H := ite_f c108 H
                      refine RJ.know (t := 91) rfl (congrArg Value.bool c108) ?_
                      refine RJ.run ttok 2 rfl ?_
                      obtain ⟨r100, q100, H⟩ := bind_t H
                      refine RJ.op rfl rfl (op_call [] (lex_Compare.spec q100) rfl rfl rfl h98 rfl gnil) ?_
                      rintro _ w100 ⟨_, ⟨rfl, rfl⟩, h100⟩
                      refine RJ.run ttok 2 rfl ?_
                      rcases Bool.eq_false_or_eq_true (decide (r100 < 0)) with c109 | c109
                      · replace H := ite_t c109 H
                        refine RJ.know (t := 96) rfl (congrArg Value.bool c109) ?_
                        refine RJ.run ttok 2 rfl ?_
                        obtain ⟨r101, q101, H⟩ := bind_t H
                        refine RJ.op rfl rfl (op_call [] (lex_Compare.spec q101) rfl rfl rfl h100 rfl gnil) ?_
                        rintro _ w101 ⟨_, ⟨rfl, rfl⟩, h101⟩
                        refine RJ.run ttok 3 rfl ?_
                        rcases Bool.eq_false_or_eq_true (decide (r101 ≤ 0)) with c110 | c110
                        · replace H := ite_t c110 H
                          refine RJ.know (t := 102) rfl (congrArg Value.bool c110) ?_
                          refine RJ.run ttok 9 rfl ?_
                          rcases Bool.eq_false_or_eq_true (decide ((r98.1.length : Int) ≤ (a1.length : Int))) with c111 | c111
                          · replace H := ite_t c111 H
                            refine RJ.know (t := 111) rfl (congrArg Value.bool c111) ?_
                            obtain ⟨r102, q102, H⟩ := bind_t H
                            refine RJ.op rfl rfl (op_call [] (sluicegatelaw01_awake.spec q102) rfl rfl rfl h101 rfl gnil) ?_
                            rintro _ w102 ⟨_, ⟨rfl, rfl⟩, h102⟩
                            refine RJ.run ttok 2 rfl ?_
                            refine RJ.fin [(6, .bool r102)] rfl ?_
                            refine J.ret ?_
                            obtain rfl := Option.some.inj H
                            exact ⟨_, _, _, (results_slots rfl), ⟨rfl, rfl⟩, h102.only [] rfl⟩
                          · replace H := ite_f c111 H
                            refine RJ.know (t := 111) rfl (congrArg Value.bool c111) ?_
                            refine RJ.run ttok 3 rfl ?_
                            refine RJ.fin [(6, .bool false)] rfl ?_
                            refine J.ret ?_
                            obtain rfl := Option.some.inj H
                            exact ⟨_, _, _, (results_slots rfl), ⟨rfl, rfl⟩, h101.only [] rfl⟩
                        · replace H := ite_f c110 H
                          refine RJ.know (t := 102) rfl (congrArg Value.bool c110) ?_
                          refine RJ.run ttok 12 rfl ?_
                          refine RJ.fin [(6, .bool false)] rfl ?_
                          refine J.ret ?_
                          obtain rfl := Option.some.inj H
                          exact ⟨_, _, _, (results_slots rfl), ⟨rfl, rfl⟩, h101.only [] rfl⟩
                      · replace H := ite_f c109 H
                        refine RJ.know (t := 96) rfl (congrArg Value.bool c109) ?_
                        refine RJ.run ttok 18 rfl ?_
                        refine RJ.fin [(6, .bool false)] rfl ?_
                        refine J.ret ?_
                        obtain rfl := Option.some.inj H
                        exact ⟨_, _, _, (results_slots rfl), ⟨rfl, rfl⟩, h100.only [] rfl⟩
                  · replace H := ite_f c107 H
                    refine RJ.know (t := 88) rfl (congrArg Value.bool c107) ?_
                    refine RJ.run ttok 26 rfl ?_
                    refine RJ.fin [(6, .bool false)] rfl ?_
                    refine J.ret ?_
                    obtain rfl := Option.some.inj H
                    exact ⟨_, _, _, (results_slots rfl), ⟨rfl, rfl⟩, h98.only [] rfl⟩
        · replace H := ite_f c96 H
          refine RJ.know (t := 47) rfl (congrArg Value.bool c96) ?_
          refine RJ.run ttok 12 rfl ?_
          refine RJ.fin [(0, .string ⟨⟨a0⟩⟩), (1, .string ⟨⟨a1⟩⟩), (7, .int .i64 r1), (59, .bool (!((decide (r1 = 0)) == (decide (a0 = a1)))))] rfl ?_
          refine J.cond rfl (fun c112 => ?_) (fun c112 => ?_)
          · replace H := ite_t c112 H
            refine J.seq ?_
            refine J.region ?_
            refine RJ.run ttok 1 rfl ?_
            refine RJ.fin [(6, .bool false)] rfl ?_
            refine J.ret ?_
            obtain rfl := Option.some.inj H
            exact ⟨_, _, _, (results_slots rfl), ⟨rfl, rfl⟩, h4.only [] rfl⟩
          · replace H := ite_f c112 H
            refine J.skip ?_
            refine J.seq ?_
            refine J.region ?_
            refine RJ.run ttok 1 rfl ?_
            obtain ⟨r103, q103, H⟩ := bind_t H
            refine RJ.op rfl rfl (op_call [] (lex_Next.spec q103) rfl rfl rfl h4 rfl gnil) ?_
            rintro _ w103 ⟨_, ⟨rfl, rfl⟩, h103⟩
            refine RJ.run ttok 1 rfl ?_
            refine RJ.fin [(0, .string ⟨⟨a0⟩⟩), (1, .string ⟨⟨a1⟩⟩), (7, .int .i64 r1), (10, .string ⟨⟨r103⟩⟩)] rfl ?_
            refine J.seq ?_
            refine J.seq ?_
            refine J.region ?_
            refine RJ.run ttok 2 rfl ?_
            obtain ⟨r104, q104, H⟩ := bind_t H
            refine RJ.op rfl rfl (op_call [] (lex_Compare.spec q104) rfl rfl rfl h103 rfl gnil) ?_
            rintro _ w104 ⟨_, ⟨rfl, rfl⟩, h104⟩
            refine RJ.run ttok 2 rfl ?_
            rcases Bool.eq_false_or_eq_true (!decide (r104 = (-1))) with c113 | c113
            · replace H := ite_t c113 H
              refine RJ.know (t := 66) rfl (congrArg Value.bool c113) ?_
              refine RJ.run ttok 11 rfl ?_
              refine RJ.fin [(0, .string ⟨⟨a0⟩⟩), (1, .string ⟨⟨a1⟩⟩), (7, .int .i64 r1), (77, .bool true)] rfl ?_
              refine J.condT rfl ?_
              refine J.seq ?_
              refine J.region ?_
              refine RJ.run ttok 1 rfl ?_
              refine RJ.fin [(6, .bool false)] rfl ?_
              refine J.ret ?_
              obtain rfl := Option.some.inj H
              exact ⟨_, _, _, (results_slots rfl), ⟨rfl, rfl⟩, h104.only [] rfl⟩
            · replace H := ite_f c113 H
              refine RJ.know (t := 66) rfl (congrArg Value.bool c113) ?_
              refine RJ.run ttok 2 rfl ?_
              obtain ⟨r105, q105, H⟩ := bind_t H
              refine RJ.op rfl rfl (op_call [] (lex_Compare.spec q105) rfl rfl rfl h104 rfl gnil) ?_
              rintro _ w105 ⟨_, ⟨rfl, rfl⟩, h105⟩
              refine RJ.run ttok 2 rfl ?_
              rcases Bool.eq_false_or_eq_true (decide (r105 < 0)) with c114 | c114
              · replace H := ite_t c114 H
                refine RJ.know (t := 71) rfl (congrArg Value.bool c114) ?_
                refine RJ.run ttok 2 rfl ?_
                obtain ⟨r106, q106, H⟩ := bind_t H
                refine RJ.op rfl rfl (op_call [] (lex_Compare.spec q106) rfl rfl rfl h105 rfl gnil) ?_
                rintro _ w106 ⟨_, ⟨rfl, rfl⟩, h106⟩
                refine RJ.run ttok 3 rfl ?_
                refine RJ.fin [(0, .string ⟨⟨a0⟩⟩), (1, .string ⟨⟨a1⟩⟩), (7, .int .i64 r1), (77, .bool (decide (r106 < 0)))] rfl ?_
                refine J.cond rfl (fun c115 => ?_) (fun c115 => ?_)
                · replace H := ite_t c115 H
                  refine J.seq ?_
                  refine J.region ?_
                  refine RJ.run ttok 1 rfl ?_
                  refine RJ.fin [(6, .bool false)] rfl ?_
                  refine J.ret ?_
                  obtain rfl := Option.some.inj H
                  exact ⟨_, _, _, (results_slots rfl), ⟨rfl, rfl⟩, h106.only [] rfl⟩
                · replace H := ite_f c115 H
                  refine J.skip ?_
                  refine J.seq ?_
                  refine J.region ?_
                  refine RJ.run ttok 2 rfl ?_
                  obtain ⟨r107, q107, H⟩ := bind_t H
                  refine RJ.op rfl rfl (op_call [] (lex_Cut.spec q107) rfl rfl rfl h106 rfl gnil) ?_
                  rintro _ w107 ⟨_, ⟨rfl, rfl⟩, h107⟩
                  refine RJ.run ttok 5 rfl ?_
                  refine RJ.fin [(0, .string ⟨⟨a0⟩⟩), (1, .string ⟨⟨a1⟩⟩), (7, .int .i64 r1), (11, .string ⟨⟨r107.1⟩⟩), (12, .bool r107.2)] rfl ?_
                  refine J.seq ?_
                  refine J.region ?_
                  refine RJ.run ttok 5 rfl ?_
                  rcases Bool.eq_false_or_eq_true (r107.2 == (decide (r1 < 0))) with c116 | c116
                  · replace H := ite_t c116 H
                    refine RJ.know (t := 88) rfl (congrArg Value.bool c116) ?_
                    refine RJ.run ttok 3 rfl ?_
                    rcases Bool.eq_false_or_eq_true (!r107.2) with c117 | c117
                    · replace H := ite_t c117 H
                      refine RJ.know (t := 91) rfl (congrArg Value.bool c117) ?_
                      refine RJ.run ttok 20 rfl ?_
                      obtain ⟨r108, q108, H⟩ := bind_t H
                      refine RJ.op rfl rfl (op_call [] (sluicegatelaw01_awake.spec q108) rfl rfl rfl h107 rfl gnil) ?_
                      rintro _ w108 ⟨_, ⟨rfl, rfl⟩, h108⟩
                      refine RJ.run ttok 2 rfl ?_
                      refine RJ.fin [(6, .bool r108)] rfl ?_
                      refine J.ret ?_
                      obtain rfl := Option.some.inj H
                      exact ⟨_, _, _, (results_slots rfl), ⟨rfl, rfl⟩, h108.only [] rfl⟩
                    · replace H := ite_f c117 H
                      refine RJ.know (t := 91) rfl (congrArg Value.bool c117) ?_
                      refine RJ.run ttok 2 rfl ?_
                      obtain ⟨r109, q109, H⟩ := bind_t H
                      refine RJ.op rfl rfl (op_call [] (lex_Compare.spec q109) rfl rfl rfl h107 rfl gnil) ?_
                      rintro _ w109 ⟨_, ⟨rfl, rfl⟩, h109⟩
                      refine RJ.run ttok 2 rfl ?_
                      rcases Bool.eq_false_or_eq_true (decide (r109 < 0)) with c118 | c118
                      · replace H := ite_t c118 H
                        refine RJ.know (t := 96) rfl (congrArg Value.bool c118) ?_
                        refine RJ.run ttok 2 rfl ?_
                        obtain ⟨r110, q110, H⟩ := bind_t H
                        refine RJ.op rfl rfl (op_call [] (lex_Compare.spec q110) rfl rfl rfl h109 rfl gnil) ?_
                        rintro _ w110 ⟨_, ⟨rfl, rfl⟩, h110⟩
                        refine RJ.run ttok 3 rfl ?_
                        rcases Bool.eq_false_or_eq_true (decide (r110 ≤ 0)) with c119 | c119
                        · replace H := ite_t c119 H
                          refine RJ.know (t := 102) rfl (congrArg Value.bool c119) ?_
                          refine RJ.run ttok 9 rfl ?_
                          rcases Bool.eq_false_or_eq_true (decide ((r107.1.length : Int) ≤ (a1.length : Int))) with c120 | c120
                          · replace H := ite_t c120 H
                            refine RJ.know (t := 111) rfl (congrArg Value.bool c120) ?_
                            obtain ⟨r111, q111, H⟩ := bind_t H
                            refine RJ.op rfl rfl (op_call [] (sluicegatelaw01_awake.spec q111) rfl rfl rfl h110 rfl gnil) ?_
                            rintro _ w111 ⟨_, ⟨rfl, rfl⟩, h111⟩
                            refine RJ.run ttok 2 rfl ?_
                            refine RJ.fin [(6, .bool r111)] rfl ?_
                            refine J.ret ?_
                            obtain rfl := Option.some.inj H
                            exact ⟨_, _, _, (results_slots rfl), ⟨rfl, rfl⟩, h111.only [] rfl⟩
                          · replace H := ite_f c120 H
                            refine RJ.know (t := 111) rfl (congrArg Value.bool c120) ?_
                            refine RJ.run ttok 3 rfl ?_
                            refine RJ.fin [(6, .bool false)] rfl ?_
                            refine J.ret ?_
                            obtain rfl := Option.some.inj H
                            exact ⟨_, _, _, (results_slots rfl), ⟨rfl, rfl⟩, h110.only [] rfl⟩
                        · replace H := ite_f c119 H
                          refine RJ.know (t := 102) rfl (congrArg Value.bool c119) ?_
                          refine RJ.run ttok 12 rfl ?_
                          refine RJ.fin [(6, .bool false)] rfl ?_
                          refine J.ret ?_
                          obtain rfl := Option.some.inj H
                          exact ⟨_, _, _, (results_slots rfl), ⟨rfl, rfl⟩, h110.only [] rfl⟩
                      · replace H := ite_f c118 H
                        refine RJ.know (t := 96) rfl (congrArg Value.bool c118) ?_
                        refine RJ.run ttok 18 rfl ?_
                        refine RJ.fin [(6, .bool false)] rfl ?_
                        refine J.ret ?_
                        obtain rfl := Option.some.inj H
                        exact ⟨_, _, _, (results_slots rfl), ⟨rfl, rfl⟩, h109.only [] rfl⟩
                  · replace H := ite_f c116 H
                    refine RJ.know (t := 88) rfl (congrArg Value.bool c116) ?_
                    refine RJ.run ttok 26 rfl ?_
                    refine RJ.fin [(6, .bool false)] rfl ?_
                    refine J.ret ?_
                    obtain rfl := Option.some.inj H
                    exact ⟨_, _, _, (results_slots rfl), ⟨rfl, rfl⟩, h107.only [] rfl⟩
              · replace H := ite_f c114 H
                refine RJ.know (t := 71) rfl (congrArg Value.bool c114) ?_
                refine RJ.run ttok 6 rfl ?_
                refine RJ.fin [(0, .string ⟨⟨a0⟩⟩), (1, .string ⟨⟨a1⟩⟩), (7, .int .i64 r1), (77, .bool false)] rfl ?_
                refine J.condF rfl ?_
                refine J.skip ?_
                refine J.seq ?_
                refine J.region ?_
                refine RJ.run ttok 2 rfl ?_
                obtain ⟨r112, q112, H⟩ := bind_t H
                refine RJ.op rfl rfl (op_call [] (lex_Cut.spec q112) rfl rfl rfl h105 rfl gnil) ?_
                rintro _ w112 ⟨_, ⟨rfl, rfl⟩, h112⟩
                refine RJ.run ttok 5 rfl ?_
                refine RJ.fin [(0, .string ⟨⟨a0⟩⟩), (1, .string ⟨⟨a1⟩⟩), (7, .int .i64 r1), (11, .string ⟨⟨r112.1⟩⟩), (12, .bool r112.2)] rfl ?_
                refine J.seq ?_
                refine J.region ?_
                refine RJ.run ttok 5 rfl ?_
                rcases Bool.eq_false_or_eq_true (r112.2 == (decide (r1 < 0))) with c121 | c121
                · replace H := ite_t c121 H
                  refine RJ.know (t := 88) rfl (congrArg Value.bool c121) ?_
                  refine RJ.run ttok 3 rfl ?_
                  rcases Bool.eq_false_or_eq_true (!r112.2) with c122 | c122
                  · replace H := ite_t c122 H
                    refine RJ.know (t := 91) rfl (congrArg Value.bool c122) ?_
                    refine RJ.run ttok 20 rfl ?_
                    obtain ⟨r113, q113, H⟩ := bind_t H
                    refine RJ.op rfl rfl (op_call [] (sluicegatelaw01_awake.spec q113) rfl rfl rfl h112 rfl gnil) ?_
                    rintro _ w113 ⟨_, ⟨rfl, rfl⟩, h113⟩
                    refine RJ.run ttok 2 rfl ?_
                    refine RJ.fin [(6, .bool r113)] rfl ?_
                    refine J.ret ?_
                    obtain rfl := Option.some.inj H
                    exact ⟨_, _, _, (results_slots rfl), ⟨rfl, rfl⟩, h113.only [] rfl⟩
                  · replace H := ite_f c122 H
                    refine RJ.know (t := 91) rfl (congrArg Value.bool c122) ?_
                    refine RJ.run ttok 2 rfl ?_
                    obtain ⟨r114, q114, H⟩ := bind_t H
                    refine RJ.op rfl rfl (op_call [] (lex_Compare.spec q114) rfl rfl rfl h112 rfl gnil) ?_
                    rintro _ w114 ⟨_, ⟨rfl, rfl⟩, h114⟩
                    refine RJ.run ttok 2 rfl ?_
                    rcases Bool.eq_false_or_eq_true (decide (r114 < 0)) with c123 | c123
                    · replace H := ite_t c123 H
                      refine RJ.know (t := 96) rfl (congrArg Value.bool c123) ?_
                      refine RJ.run ttok 2 rfl ?_
                      obtain ⟨r115, q115, H⟩ := bind_t H
                      refine RJ.op rfl rfl (op_call [] (lex_Compare.spec q115) rfl rfl rfl h114 rfl gnil) ?_
                      rintro _ w115 ⟨_, ⟨rfl, rfl⟩, h115⟩
                      refine RJ.run ttok 3 rfl ?_
                      rcases Bool.eq_false_or_eq_true (decide (r115 ≤ 0)) with c124 | c124
                      · replace H := ite_t c124 H
                        refine RJ.know (t := 102) rfl (congrArg Value.bool c124) ?_
                        refine RJ.run ttok 9 rfl ?_
                        rcases Bool.eq_false_or_eq_true (decide ((r112.1.length : Int) ≤ (a1.length : Int))) with c125 | c125
                        · replace H := ite_t c125 H
                          refine RJ.know (t := 111) rfl (congrArg Value.bool c125) ?_
                          obtain ⟨r116, q116, H⟩ := bind_t H
                          refine RJ.op rfl rfl (op_call [] (sluicegatelaw01_awake.spec q116) rfl rfl rfl h115 rfl gnil) ?_
                          rintro _ w116 ⟨_, ⟨rfl, rfl⟩, h116⟩
                          refine RJ.run ttok 2 rfl ?_
                          refine RJ.fin [(6, .bool r116)] rfl ?_
                          refine J.ret ?_
                          obtain rfl := Option.some.inj H
                          exact ⟨_, _, _, (results_slots rfl), ⟨rfl, rfl⟩, h116.only [] rfl⟩
                        · replace H := ite_f c125 H
                          refine RJ.know (t := 111) rfl (congrArg Value.bool c125) ?_
                          refine RJ.run ttok 3 rfl ?_
                          refine RJ.fin [(6, .bool false)] rfl ?_
                          refine J.ret ?_
                          obtain rfl := Option.some.inj H
                          exact ⟨_, _, _, (results_slots rfl), ⟨rfl, rfl⟩, h115.only [] rfl⟩
                      · replace H := ite_f c124 H
                        refine RJ.know (t := 102) rfl (congrArg Value.bool c124) ?_
                        refine RJ.run ttok 12 rfl ?_
                        refine RJ.fin [(6, .bool false)] rfl ?_
                        refine J.ret ?_
                        obtain rfl := Option.some.inj H
                        exact ⟨_, _, _, (results_slots rfl), ⟨rfl, rfl⟩, h115.only [] rfl⟩
                    · replace H := ite_f c123 H
                      refine RJ.know (t := 96) rfl (congrArg Value.bool c123) ?_
                      refine RJ.run ttok 18 rfl ?_
                      refine RJ.fin [(6, .bool false)] rfl ?_
                      refine J.ret ?_
                      obtain rfl := Option.some.inj H
                      exact ⟨_, _, _, (results_slots rfl), ⟨rfl, rfl⟩, h114.only [] rfl⟩
                · replace H := ite_f c121 H
                  refine RJ.know (t := 88) rfl (congrArg Value.bool c121) ?_
                  refine RJ.run ttok 26 rfl ?_
                  refine RJ.fin [(6, .bool false)] rfl ?_
                  refine J.ret ?_
                  obtain rfl := Option.some.inj H
                  exact ⟨_, _, _, (results_slots rfl), ⟨rfl, rfl⟩, h112.only [] rfl⟩
      · replace H := ite_f c95 H
        refine RJ.know (t := 43) rfl (congrArg Value.bool c95) ?_
        refine RJ.run ttok 16 rfl ?_
        refine RJ.fin [(0, .string ⟨⟨a0⟩⟩), (1, .string ⟨⟨a1⟩⟩), (7, .int .i64 r1), (59, .bool (!((decide (r1 = 0)) == (decide (a0 = a1)))))] rfl ?_
        refine J.cond rfl (fun c126 => ?_) (fun c126 => ?_)
        · replace H := ite_t c126 H
          refine J.seq ?_
          refine J.region ?_
          refine RJ.run ttok 1 rfl ?_
          refine RJ.fin [(6, .bool false)] rfl ?_
          refine J.ret ?_
          obtain rfl := Option.some.inj H
          exact ⟨_, _, _, (results_slots rfl), ⟨rfl, rfl⟩, h4.only [] rfl⟩
        · replace H := ite_f c126 H
          refine J.skip ?_
          refine J.seq ?_
          refine J.region ?_
          refine RJ.run ttok 1 rfl ?_
          obtain ⟨r117, q117, H⟩ := bind_t H
          refine RJ.op rfl rfl (op_call [] (lex_Next.spec q117) rfl rfl rfl h4 rfl gnil) ?_
          rintro _ w117 ⟨_, ⟨rfl, rfl⟩, h117⟩
          refine RJ.run ttok 1 rfl ?_
          refine RJ.fin [(0, .string ⟨⟨a0⟩⟩), (1, .string ⟨⟨a1⟩⟩), (7, .int .i64 r1), (10, .string ⟨⟨r117⟩⟩)] rfl ?_
          refine J.seq ?_
          refine J.seq ?_
          refine J.region ?_
          refine RJ.run ttok 2 rfl ?_
          obtain ⟨r118, q118, H⟩ := bind_t H
          refine RJ.op rfl rfl (op_call [] (lex_Compare.spec q118) rfl rfl rfl h117 rfl gnil) ?_
          rintro _ w118 ⟨_, ⟨rfl, rfl⟩, h118⟩
          refine RJ.run ttok 2 rfl ?_
          rcases Bool.eq_false_or_eq_true (!decide (r118 = (-1))) with c127 | c127
          · replace H := ite_t c127 H
            refine RJ.know (t := 66) rfl (congrArg Value.bool c127) ?_
            refine RJ.run ttok 11 rfl ?_
            refine RJ.fin [(0, .string ⟨⟨a0⟩⟩), (1, .string ⟨⟨a1⟩⟩), (7, .int .i64 r1), (77, .bool true)] rfl ?_
            refine J.condT rfl ?_
            refine J.seq ?_
            refine J.region ?_
            refine RJ.run ttok 1 rfl ?_
            refine RJ.fin [(6, .bool false)] rfl ?_
            refine J.ret ?_
            obtain rfl := Option.some.inj H
            exact ⟨_, _, _, (results_slots rfl), ⟨rfl, rfl⟩, h118.only [] rfl⟩
          · replace H := ite_f c127 H
            refine RJ.know (t := 66) rfl (congrArg Value.bool c127) ?_
            refine RJ.run ttok 2 rfl ?_
            obtain ⟨r119, q119, H⟩ := bind_t H
            refine RJ.op rfl rfl (op_call [] (lex_Compare.spec q119) rfl rfl rfl h118 rfl gnil) ?_
            rintro _ w119 ⟨_, ⟨rfl, rfl⟩, h119⟩
            refine RJ.run ttok 2 rfl ?_
            rcases Bool.eq_false_or_eq_true (decide (r119 < 0)) with c128 | c128
            · replace H := ite_t c128 H
              refine RJ.know (t := 71) rfl (congrArg Value.bool c128) ?_
              refine RJ.run ttok 2 rfl ?_
              obtain ⟨r120, q120, H⟩ := bind_t H
              refine RJ.op rfl rfl (op_call [] (lex_Compare.spec q120) rfl rfl rfl h119 rfl gnil) ?_
              rintro _ w120 ⟨_, ⟨rfl, rfl⟩, h120⟩
              refine RJ.run ttok 3 rfl ?_
              refine RJ.fin [(0, .string ⟨⟨a0⟩⟩), (1, .string ⟨⟨a1⟩⟩), (7, .int .i64 r1), (77, .bool (decide (r120 < 0)))] rfl ?_
              refine J.cond rfl (fun c129 => ?_) (fun c129 => ?_)
              · replace H := ite_t c129 H
                refine J.seq ?_
                refine J.region ?_
                refine RJ.run ttok 1 rfl ?_
                refine RJ.fin [(6, .bool false)] rfl ?_
                refine J.ret ?_
                obtain rfl := Option.some.inj H
                exact ⟨_, _, _, (results_slots rfl), ⟨rfl, rfl⟩, h120.only [] rfl⟩
              · replace H := ite_f c129 H
                refine J.skip ?_
                refine J.seq ?_
                refine J.region ?_
                refine RJ.run ttok 2 rfl ?_
                obtain ⟨r121, q121, H⟩ := bind_t H
                refine RJ.op rfl rfl (op_call [] (lex_Cut.spec q121) rfl rfl rfl h120 rfl gnil) ?_
                rintro _ w121 ⟨_, ⟨rfl, rfl⟩, h121⟩
                refine RJ.run ttok 5 rfl ?_
                refine RJ.fin [(0, .string ⟨⟨a0⟩⟩), (1, .string ⟨⟨a1⟩⟩), (7, .int .i64 r1), (11, .string ⟨⟨r121.1⟩⟩), (12, .bool r121.2)] rfl ?_
                refine J.seq ?_
                refine J.region ?_
                refine RJ.run ttok 5 rfl ?_
                rcases Bool.eq_false_or_eq_true (r121.2 == (decide (r1 < 0))) with c130 | c130
                · replace H := ite_t c130 H
                  refine RJ.know (t := 88) rfl (congrArg Value.bool c130) ?_
                  refine RJ.run ttok 3 rfl ?_
                  rcases Bool.eq_false_or_eq_true (!r121.2) with c131 | c131
                  · replace H := ite_t c131 H
                    refine RJ.know (t := 91) rfl (congrArg Value.bool c131) ?_
                    refine RJ.run ttok 20 rfl ?_
                    obtain ⟨r122, q122, H⟩ := bind_t H
                    refine RJ.op rfl rfl (op_call [] (sluicegatelaw01_awake.spec q122) rfl rfl rfl h121 rfl gnil) ?_
                    rintro _ w122 ⟨_, ⟨rfl, rfl⟩, h122⟩
                    refine RJ.run ttok 2 rfl ?_
                    refine RJ.fin [(6, .bool r122)] rfl ?_
                    refine J.ret ?_
                    obtain rfl := Option.some.inj H
                    exact ⟨_, _, _, (results_slots rfl), ⟨rfl, rfl⟩, h122.only [] rfl⟩
                  · replace H := ite_f c131 H
                    refine RJ.know (t := 91) rfl (congrArg Value.bool c131) ?_
                    refine RJ.run ttok 2 rfl ?_
                    obtain ⟨r123, q123, H⟩ := bind_t H
                    refine RJ.op rfl rfl (op_call [] (lex_Compare.spec q123) rfl rfl rfl h121 rfl gnil) ?_
                    rintro _ w123 ⟨_, ⟨rfl, rfl⟩, h123⟩
                    refine RJ.run ttok 2 rfl ?_
                    rcases Bool.eq_false_or_eq_true (decide (r123 < 0)) with c132 | c132
                    · replace H := ite_t c132 H
                      refine RJ.know (t := 96) rfl (congrArg Value.bool c132) ?_
                      refine RJ.run ttok 2 rfl ?_
                      obtain ⟨r124, q124, H⟩ := bind_t H
                      refine RJ.op rfl rfl (op_call [] (lex_Compare.spec q124) rfl rfl rfl h123 rfl gnil) ?_
                      rintro _ w124 ⟨_, ⟨rfl, rfl⟩, h124⟩
                      refine RJ.run ttok 3 rfl ?_
                      rcases Bool.eq_false_or_eq_true (decide (r124 ≤ 0)) with c133 | c133
                      · replace H := ite_t c133 H
                        refine RJ.know (t := 102) rfl (congrArg Value.bool c133) ?_
                        refine RJ.run ttok 9 rfl ?_
                        rcases Bool.eq_false_or_eq_true (decide ((r121.1.length : Int) ≤ (a1.length : Int))) with c134 | c134
                        · replace H := ite_t c134 H
                          refine RJ.know (t := 111) rfl (congrArg Value.bool c134) ?_
                          obtain ⟨r125, q125, H⟩ := bind_t H
                          refine RJ.op rfl rfl (op_call [] (sluicegatelaw01_awake.spec q125) rfl rfl rfl h124 rfl gnil) ?_
                          rintro _ w125 ⟨_, ⟨rfl, rfl⟩, h125⟩
                          refine RJ.run ttok 2 rfl ?_
                          refine RJ.fin [(6, .bool r125)] rfl ?_
                          refine J.ret ?_
                          obtain rfl := Option.some.inj H
                          exact ⟨_, _, _, (results_slots rfl), ⟨rfl, rfl⟩, h125.only [] rfl⟩
                        · replace H := ite_f c134 H
                          refine RJ.know (t := 111) rfl (congrArg Value.bool c134) ?_
                          refine RJ.run ttok 3 rfl ?_
                          refine RJ.fin [(6, .bool false)] rfl ?_
                          refine J.ret ?_
                          obtain rfl := Option.some.inj H
                          exact ⟨_, _, _, (results_slots rfl), ⟨rfl, rfl⟩, h124.only [] rfl⟩
                      · replace H := ite_f c133 H
                        refine RJ.know (t := 102) rfl (congrArg Value.bool c133) ?_
                        refine RJ.run ttok 12 rfl ?_
                        refine RJ.fin [(6, .bool false)] rfl ?_
                        refine J.ret ?_
                        obtain rfl := Option.some.inj H
                        exact ⟨_, _, _, (results_slots rfl), ⟨rfl, rfl⟩, h124.only [] rfl⟩
                    · replace H := ite_f c132 H
                      refine RJ.know (t := 96) rfl (congrArg Value.bool c132) ?_
                      refine RJ.run ttok 18 rfl ?_
                      refine RJ.fin [(6, .bool false)] rfl ?_
                      refine J.ret ?_
                      obtain rfl := Option.some.inj H
                      exact ⟨_, _, _, (results_slots rfl), ⟨rfl, rfl⟩, h123.only [] rfl⟩
                · replace H := ite_f c130 H
                  refine RJ.know (t := 88) rfl (congrArg Value.bool c130) ?_
                  refine RJ.run ttok 26 rfl ?_
                  refine RJ.fin [(6, .bool false)] rfl ?_
                  refine J.ret ?_
                  obtain rfl := Option.some.inj H
                  exact ⟨_, _, _, (results_slots rfl), ⟨rfl, rfl⟩, h121.only [] rfl⟩
            · replace H := ite_f c128 H
              refine RJ.know (t := 71) rfl (congrArg Value.bool c128) ?_
              refine RJ.run ttok 6 rfl ?_
              refine RJ.fin [(0, .string ⟨⟨a0⟩⟩), (1, .string ⟨⟨a1⟩⟩), (7, .int .i64 r1), (77, .bool false)] rfl ?_
              refine J.condF rfl ?_
              refine J.skip ?_
              refine J.seq ?_
              refine J.region ?_
              refine RJ.run ttok 2 rfl ?_
              obtain ⟨r126, q126, H⟩ := bind_t H
              refine RJ.op rfl rfl (op_call [] (lex_Cut.spec q126) rfl rfl rfl h119 rfl gnil) ?_
              rintro _ w126 ⟨_, ⟨rfl, rfl⟩, h126⟩
              refine RJ.run ttok 5 rfl ?_
              refine RJ.fin [(0, .string ⟨⟨a0⟩⟩), (1, .string ⟨⟨a1⟩⟩), (7, .int .i64 r1), (11, .string ⟨⟨r126.1⟩⟩), (12, .bool r126.2)] rfl ?_
              refine J.seq ?_
              refine J.region ?_
              refine RJ.run ttok 5 rfl ?_
              rcases Bool.eq_false_or_eq_true (r126.2 == (decide (r1 < 0))) with c135 | c135
              · replace H := ite_t c135 H
                refine RJ.know (t := 88) rfl (congrArg Value.bool c135) ?_
                refine RJ.run ttok 3 rfl ?_
                rcases Bool.eq_false_or_eq_true (!r126.2) with c136 | c136
                · replace H := ite_t c136 H
                  refine RJ.know (t := 91) rfl (congrArg Value.bool c136) ?_
                  refine RJ.run ttok 20 rfl ?_
                  obtain ⟨r127, q127, H⟩ := bind_t H
                  refine RJ.op rfl rfl (op_call [] (sluicegatelaw01_awake.spec q127) rfl rfl rfl h126 rfl gnil) ?_
                  rintro _ w127 ⟨_, ⟨rfl, rfl⟩, h127⟩
                  refine RJ.run ttok 2 rfl ?_
                  refine RJ.fin [(6, .bool r127)] rfl ?_
                  refine J.ret ?_
                  obtain rfl := Option.some.inj H
                  exact ⟨_, _, _, (results_slots rfl), ⟨rfl, rfl⟩, h127.only [] rfl⟩
                · replace H := ite_f c136 H
                  refine RJ.know (t := 91) rfl (congrArg Value.bool c136) ?_
                  refine RJ.run ttok 2 rfl ?_
                  obtain ⟨r128, q128, H⟩ := bind_t H
                  refine RJ.op rfl rfl (op_call [] (lex_Compare.spec q128) rfl rfl rfl h126 rfl gnil) ?_
                  rintro _ w128 ⟨_, ⟨rfl, rfl⟩, h128⟩
                  refine RJ.run ttok 2 rfl ?_
                  rcases Bool.eq_false_or_eq_true (decide (r128 < 0)) with c137 | c137
                  · replace H := ite_t c137 H
                    refine RJ.know (t := 96) rfl (congrArg Value.bool c137) ?_
                    refine RJ.run ttok 2 rfl ?_
                    obtain ⟨r129, q129, H⟩ := bind_t H
                    refine RJ.op rfl rfl (op_call [] (lex_Compare.spec q129) rfl rfl rfl h128 rfl gnil) ?_
                    rintro _ w129 ⟨_, ⟨rfl, rfl⟩, h129⟩
                    refine RJ.run ttok 3 rfl ?_
                    rcases Bool.eq_false_or_eq_true (decide (r129 ≤ 0)) with c138 | c138
                    · replace H := ite_t c138 H
                      refine RJ.know (t := 102) rfl (congrArg Value.bool c138) ?_
                      refine RJ.run ttok 9 rfl ?_
                      rcases Bool.eq_false_or_eq_true (decide ((r126.1.length : Int) ≤ (a1.length : Int))) with c139 | c139
                      · replace H := ite_t c139 H
                        refine RJ.know (t := 111) rfl (congrArg Value.bool c139) ?_
                        obtain ⟨r130, q130, H⟩ := bind_t H
                        refine RJ.op rfl rfl (op_call [] (sluicegatelaw01_awake.spec q130) rfl rfl rfl h129 rfl gnil) ?_
                        rintro _ w130 ⟨_, ⟨rfl, rfl⟩, h130⟩
                        refine RJ.run ttok 2 rfl ?_
                        refine RJ.fin [(6, .bool r130)] rfl ?_
                        refine J.ret ?_
                        obtain rfl := Option.some.inj H
                        exact ⟨_, _, _, (results_slots rfl), ⟨rfl, rfl⟩, h130.only [] rfl⟩
                      · replace H := ite_f c139 H
                        refine RJ.know (t := 111) rfl (congrArg Value.bool c139) ?_
                        refine RJ.run ttok 3 rfl ?_
                        refine RJ.fin [(6, .bool false)] rfl ?_
                        refine J.ret ?_
                        obtain rfl := Option.some.inj H
                        exact ⟨_, _, _, (results_slots rfl), ⟨rfl, rfl⟩, h129.only [] rfl⟩
                    · replace H := ite_f c138 H
                      refine RJ.know (t := 102) rfl (congrArg Value.bool c138) ?_
                      refine RJ.run ttok 12 rfl ?_
                      refine RJ.fin [(6, .bool false)] rfl ?_
                      refine J.ret ?_
                      obtain rfl := Option.some.inj H
                      exact ⟨_, _, _, (results_slots rfl), ⟨rfl, rfl⟩, h129.only [] rfl⟩
                  · replace H := ite_f c137 H
                    refine RJ.know (t := 96) rfl (congrArg Value.bool c137) ?_
                    refine RJ.run ttok 18 rfl ?_
                    refine RJ.fin [(6, .bool false)] rfl ?_
                    refine J.ret ?_
                    obtain rfl := Option.some.inj H
                    exact ⟨_, _, _, (results_slots rfl), ⟨rfl, rfl⟩, h128.only [] rfl⟩
              · replace H := ite_f c135 H
                refine RJ.know (t := 88) rfl (congrArg Value.bool c135) ?_
                refine RJ.run ttok 26 rfl ?_
                refine RJ.fin [(6, .bool false)] rfl ?_
                refine J.ret ?_
                obtain rfl := Option.some.inj H
                exact ⟨_, _, _, (results_slots rfl), ⟨rfl, rfl⟩, h126.only [] rfl⟩

end Go.SK.T
