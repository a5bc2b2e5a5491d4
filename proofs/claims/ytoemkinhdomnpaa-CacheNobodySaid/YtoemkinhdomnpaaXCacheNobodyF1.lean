/- The functions, further. -/
import Derived.Test.YtoemkinhdomnpaaXCacheNobodyF0
set_option linter.unusedVariables false
set_option linter.unusedSimpArgs false
set_option maxRecDepth 20000
set_option maxHeartbeats 40000000
namespace Go.SK.T
open Go Go.SK Go.Proofs
def Q24.f (k : Nat) (a0 : Int) (a1 : List (Int)) (a2 : Int) : Option (Bool) := if (decide (0 < (([] : List (Int)).length : Int))) = true then (some false) else (if (!decide ((w64 ((([] : List (Int)).length : Int) + (([] : List (Int)).length : Int))) = 0)) = true then (some false) else ((Q25.f k).bind fun r1 => (some r1)))
theorem Q24.spec {k : Nat} {a0 : Int} {a1 : List (Int)} {a2 : Int} {A1 : Option Addr} {c_1 : Nat} {r : Bool} (H : Q24.f k a0 a1 a2 = some r) :
    Spec Try.prog 13 [.int .u32 a0, .slice A1 a1.length c_1, .int .i64 a2] [] [rdC 5 (.int .u8) a1 (.slice A1 a1.length c_1)] (fun v l => v = .bool r ∧ l = []) := by
  refine Spec.enter Try.func13 rfl (by kernel_rfl) (by kernel_rfl) fun w0 F0 h0 => ?_
  unfold Q24.f at H
  refine J.seq (J.region ?_)
  refine RJ.run ttok 1 rfl ?_
  refine RJ.fin [(0, .int .u32 a0), (1, .slice A1 a1.length c_1), (2, .int .i64 a2)] rfl ?_
  refine J.seq (J.region ?_)
  refine RJ.run ttok 1 rfl ?_
  refine RJ.fin [(0, _), (1, _), (2, _), (7, .pointer none)] rfl ?_
  refine J.seq (J.region ?_)
  refine RJ.run ttok 2 rfl ?_
  refine RJ.op rfl rfl (op_box rfl rfl h0) ?_
  rintro _ w1 ⟨b1, rfl, h1⟩
  replace h1 : St w0 F0 [boxC b1 113 [.pointer none, .slice none ([] : List (Int × List (Int) × Bool × Int)).length 0, .map none, .slice none ([] : List (Int)).length 0, .pointer none]] _ _ := h1
  refine RJ.op rfl rfl (op_lit_val ttok ([.pointer none, .pointer (some ⟨b1, 0, none⟩)] : List Value) rfl rfl h1 rfl rfl (by decide) rfl rfl rfl rfl rfl rfl rfl) ?_
  rintro _ w2 ⟨b2, rfl, h2⟩
  replace h2 : St w0 F0 [ownC 98 .val ([.pointer none, .pointer (some ⟨b1, 0, none⟩)] : List Value) (.slice (some ⟨b2, 0, none⟩) ([.pointer none, .pointer (some ⟨b1, 0, none⟩)] : List Value).length 2), _] _ _ := h2
  refine RJ.run ttok 1 rfl ?_
  refine RJ.fin [(0, _), (1, _), (2, _), (8, .slice (some ⟨b2, 0, none⟩) ([.pointer none, .pointer (some ⟨b1, 0, none⟩)] : List Value).length 2)] rfl ?_
  refine J.seq (J.seq (J.region ?_))
  refine RJ.run ttok 1 rfl ?_
  refine RJ.fin [(0, _), (1, _), (2, _), (8, _), (9, .int .i64 0)] rfl ?_
  refine J.block ?_
  refine J.rounds 3 ?_
  refine J.roundN ?_
  refine J.seq (J.seq (J.region ?_))
  refine RJ.run ttok 4 rfl ?_
  refine RJ.fin [(0, _), (1, _), (2, _), (8, _), (9, _), (22, .bool true)] rfl ?_
  refine J.condT rfl ?_
  refine J.skip ?_
  refine J.seq (J.block (J.seq (J.region ?_)))
  refine RJ.run ttok 2 rfl ?_
  have e1 := elem_A h2.wh (Gives.of 0 rfl own_rd) (by decide : (0 : Int) ≤ 0) (by decide : (0 : Int) < ((2 : Nat) : Int))
  refine RJ.q rfl rfl (q_index ttok rfl rfl rfl rfl rfl e1 (by decide : (0 : Int) ≤ 0) (by decide : (0 : Int) < ((2 : Nat) : Int))) ?_
  refine RJ.q rfl rfl (q_load_elem (f := 0) ttok rfl h2.wht (Gives.of 0 rfl own_rd) (by decide : (0 : Int) ≤ 0) (by decide : (0 : Int) < ((2 : Nat) : Int)) rfl rfl rfl rfl rfl) ?_
  refine RJ.run ttok 1 rfl ?_
  refine RJ.fin [(0, _), (1, _), (2, _), (8, _), (9, _), (10, .pointer none)] rfl ?_
  refine J.seq (J.region ?_)
  refine RJ.run ttok 2 rfl ?_
  refine RJ.inline rfl rfl rfl rfl rfl Try.func53 rfl (by kernel_rfl) (by kernel_rfl) ?_
  refine J.seq (J.region ?_)
  refine RJ.run ttok 2 rfl ?_
  refine RJ.fin [(0, .pointer none), (1, .int .u32 a0)] rfl ?_
  refine J.seq (J.region ?_)
  refine RJ.run ttok 2 rfl ?_
  refine RJ.inline rfl rfl rfl rfl rfl Try.func99 rfl (by kernel_rfl) (by kernel_rfl) ?_
  refine J.seq (J.region ?_)
  refine RJ.run ttok 2 rfl ?_
  refine RJ.fin [(0, _), (1, _)] rfl ?_
  refine J.seq (J.seq (J.region ?_))
  refine RJ.run ttok 1 rfl ?_
  refine RJ.inline rfl rfl rfl rfl rfl Try.func98 rfl (by kernel_rfl) (by kernel_rfl) ?_
  refine J.seq (J.region ?_)
  refine RJ.run ttok 1 rfl ?_
  refine RJ.fin [(0, _)] rfl ?_
  refine J.seq (J.region ?_)
  refine RJ.run ttok 10 rfl ?_
  refine RJ.fin [(2, .bool true)] rfl ?_
  refine J.ret ?_
  refine ⟨_, results_slots rfl, ?_⟩
  refine RJ.fin [(0, .pointer none), (1, .int .u32 a0), (9, .bool true)] rfl ?_
  refine J.condT rfl ?_
  refine J.seq (J.region ?_)
  refine RJ.run ttok 2 rfl ?_
  refine RJ.fin [(4, .pointer none), (5, .int .i64 1)] rfl ?_
  refine J.ret ?_
  refine ⟨_, results_slots rfl, ?_⟩
  refine RJ.run ttok 5 rfl ?_
  refine RJ.fin [(6, .pointer none), (7, .int .i64 1)] rfl ?_
  refine J.seq (J.seq (J.region ?_))
  refine RJ.run ttok 2 rfl ?_
  refine RJ.fin [(6, _), (7, _), (15, .bool true)] rfl ?_
  refine J.condT rfl ?_
  refine J.seq (J.region ?_)
  refine RJ.run ttok 3 rfl ?_
  refine RJ.fin [(4, .slice none ([] : List (Int)).length 0), (5, .int .i64 1)] rfl ?_
  refine J.ret ?_
  refine ⟨_, results_slots rfl, ?_⟩
  refine RJ.run ttok 5 rfl ?_
  refine RJ.fin [(0, .int .u32 a0), (1, .slice A1 a1.length c_1), (2, .int .i64 a2), (8, .slice (some ⟨b2, 0, none⟩) ([.pointer none, .pointer (some ⟨b1, 0, none⟩)] : List Value).length 2), (9, .int .i64 0), (10, .pointer none), (11, .slice none ([] : List (Int)).length 0), (12, .int .i64 1)] rfl ?_
  refine J.seq (J.region ?_)
  refine RJ.run ttok 2 rfl ?_
  refine RJ.inline rfl rfl rfl rfl rfl Try.func56 rfl (by kernel_rfl) (by kernel_rfl) ?_
  refine J.seq (J.region ?_)
  refine RJ.run ttok 1 rfl ?_
  refine RJ.fin [(0, .pointer none), (1, .int .u32 a0)] rfl ?_
  refine J.seq (J.seq (J.region ?_))
  refine RJ.run ttok 2 rfl ?_
  refine RJ.inline rfl rfl rfl rfl rfl Try.func103 rfl (by kernel_rfl) (by kernel_rfl) ?_
  refine J.seq (J.region ?_)
  refine RJ.run ttok 1 rfl ?_
  refine RJ.fin [(0, _), (1, _)] rfl ?_
  refine J.seq (J.block (J.seq (J.region ?_)))
  refine RJ.run ttok 1 rfl ?_
  refine RJ.inline rfl rfl rfl rfl rfl Try.func98 rfl (by kernel_rfl) (by kernel_rfl) ?_
  refine J.seq (J.region ?_)
  refine RJ.run ttok 1 rfl ?_
  refine RJ.fin [(0, _)] rfl ?_
  refine J.seq (J.region ?_)
  refine RJ.run ttok 10 rfl ?_
  refine RJ.fin [(2, .bool true)] rfl ?_
  refine J.ret ?_
  refine ⟨_, results_slots rfl, ?_⟩
  refine RJ.run ttok 1 rfl ?_
  refine RJ.fin [(0, .pointer none), (1, .int .u32 a0), (5, .bool true)] rfl ?_
  refine J.condT rfl ?_
  refine J.seq (J.region ?_)
  refine RJ.run ttok 1 rfl ?_
  refine RJ.fin [(4, .int .i64 1)] rfl ?_
  refine J.ret ?_
  refine ⟨_, results_slots rfl, ?_⟩
  refine RJ.run ttok 1 rfl ?_
  refine RJ.fin [(0, .pointer none), (1, .int .u32 a0), (5, .int .i64 1)] rfl ?_
  refine J.seq (J.region ?_)
  refine RJ.run ttok 2 rfl ?_
  refine RJ.fin [(0, _), (1, _), (5, _), (16, .bool true)] rfl ?_
  refine J.condT rfl ?_
  refine J.seq (J.region ?_)
  refine RJ.run ttok 2 rfl ?_
  refine RJ.fin [(4, .int .i64 1)] rfl ?_
  refine J.ret ?_
  refine ⟨_, results_slots rfl, ?_⟩
  refine RJ.run ttok 4 rfl ?_
  refine RJ.inline rfl rfl rfl rfl rfl Try.func57 rfl (by kernel_rfl) (by kernel_rfl) ?_
  refine J.seq (J.region ?_)
  refine RJ.run ttok 1 rfl ?_
  refine RJ.fin [(0, .pointer none), (1, .int .u32 a0)] rfl ?_
  refine J.seq (J.seq (J.region ?_))
  refine RJ.run ttok 2 rfl ?_
  refine RJ.inline rfl rfl rfl rfl rfl Try.func103 rfl (by kernel_rfl) (by kernel_rfl) ?_
  refine J.seq (J.region ?_)
  refine RJ.run ttok 1 rfl ?_
  refine RJ.fin [(0, _), (1, _)] rfl ?_
  refine J.seq (J.block (J.seq (J.region ?_)))
  refine RJ.run ttok 1 rfl ?_
  refine RJ.inline rfl rfl rfl rfl rfl Try.func98 rfl (by kernel_rfl) (by kernel_rfl) ?_
  refine J.seq (J.region ?_)
  refine RJ.run ttok 1 rfl ?_
  refine RJ.fin [(0, _)] rfl ?_
  refine J.seq (J.region ?_)
  refine RJ.run ttok 10 rfl ?_
  refine RJ.fin [(2, .bool true)] rfl ?_
  refine J.ret ?_
  refine ⟨_, results_slots rfl, ?_⟩
  refine RJ.run ttok 1 rfl ?_
  refine RJ.fin [(0, .pointer none), (1, .int .u32 a0), (5, .bool true)] rfl ?_
  refine J.condT rfl ?_
  refine J.seq (J.region ?_)
  refine RJ.run ttok 1 rfl ?_
  refine RJ.fin [(4, .int .i64 1)] rfl ?_
  refine J.ret ?_
  refine ⟨_, results_slots rfl, ?_⟩
  refine RJ.run ttok 1 rfl ?_
  refine RJ.fin [(0, .pointer none), (1, .int .u32 a0), (5, .int .i64 1)] rfl ?_
  refine J.seq (J.region ?_)
  refine RJ.run ttok 2 rfl ?_
  refine RJ.fin [(0, _), (1, _), (5, _), (12, .bool true)] rfl ?_
  refine J.condT rfl ?_
  refine J.seq (J.region ?_)
  refine RJ.run ttok 2 rfl ?_
  refine RJ.fin [(4, .int .i64 1)] rfl ?_
  refine J.ret ?_
  refine ⟨_, results_slots rfl, ?_⟩
  refine RJ.run ttok 5 rfl ?_
  refine RJ.inline rfl rfl rfl rfl rfl Try.func58 rfl (by kernel_rfl) (by kernel_rfl) ?_
  refine J.seq (J.region ?_)
  refine RJ.run ttok 1 rfl ?_
  refine RJ.fin [(0, .pointer none), (1, .int .u32 a0)] rfl ?_
  refine J.seq (J.region ?_)
  refine RJ.run ttok 2 rfl ?_
  refine RJ.inline rfl rfl rfl rfl rfl Try.func99 rfl (by kernel_rfl) (by kernel_rfl) ?_
  refine J.seq (J.region ?_)
  refine RJ.run ttok 2 rfl ?_
  refine RJ.fin [(0, _), (1, _)] rfl ?_
  refine J.seq (J.seq (J.region ?_))
  refine RJ.run ttok 1 rfl ?_
  refine RJ.inline rfl rfl rfl rfl rfl Try.func98 rfl (by kernel_rfl) (by kernel_rfl) ?_
  refine J.seq (J.region ?_)
  refine RJ.run ttok 1 rfl ?_
  refine RJ.fin [(0, _)] rfl ?_
  refine J.seq (J.region ?_)
  refine RJ.run ttok 10 rfl ?_
  refine RJ.fin [(2, .bool true)] rfl ?_
  refine J.ret ?_
  refine ⟨_, results_slots rfl, ?_⟩
  refine RJ.fin [(0, .pointer none), (1, .int .u32 a0), (9, .bool true)] rfl ?_
  refine J.condT rfl ?_
  refine J.seq (J.region ?_)
  refine RJ.run ttok 2 rfl ?_
  refine RJ.fin [(4, .pointer none), (5, .int .i64 1)] rfl ?_
  refine J.ret ?_
  refine ⟨_, results_slots rfl, ?_⟩
  refine RJ.run ttok 5 rfl ?_
  refine RJ.fin [(0, .pointer none), (1, .int .u32 a0), (5, .pointer none), (6, .int .i64 1)] rfl ?_
  refine J.seq (J.seq (J.region ?_))
  refine RJ.run ttok 2 rfl ?_
  refine RJ.fin [(0, _), (1, _), (5, _), (6, _), (14, .bool true)] rfl ?_
  refine J.condT rfl ?_
  refine J.seq (J.region ?_)
  refine RJ.run ttok 2 rfl ?_
  refine RJ.fin [(4, .int .i64 1)] rfl ?_
  refine J.ret ?_
  refine ⟨_, results_slots rfl, ?_⟩
  refine RJ.run ttok 8 rfl ?_
  rcases Bool.eq_false_or_eq_true (decide (0 < (([] : List (Int)).length : Int))) with c1 | c1
  · replace H := ite_t c1 H
    refine RJ.know (t := 56) rfl (congrArg Value.bool c1) ?_
    refine RJ.run ttok 40 rfl ?_
    refine RJ.fin [(0, .int .u32 a0), (1, .slice A1 a1.length c_1), (2, .int .i64 a2), (8, .slice (some ⟨b2, 0, none⟩) ([.pointer none, .pointer (some ⟨b1, 0, none⟩)] : List Value).length 2), (9, .int .i64 0), (96, .bool true)] rfl ?_
    refine J.condT rfl ?_
    refine J.seq (J.region ?_)
    refine RJ.run ttok 1 rfl ?_
    refine RJ.fin [(6, .bool false)] rfl ?_
    have h3 := h2.only [] rfl
    replace h3 : St w0 F0 [] _ _ := h3
    refine J.ret ?_
    obtain rfl := Option.some.inj H
    exact ⟨_, _, _, (results_slots rfl), ⟨rfl, rfl⟩, h3.only [] rfl⟩
  replace H := ite_f c1 H
  refine RJ.know (t := 56) rfl (congrArg Value.bool c1) ?_
  refine RJ.run ttok 7 rfl ?_
  refine RJ.inline rfl rfl rfl rfl rfl Try.func59 rfl (by kernel_rfl) (by kernel_rfl) ?_
  refine J.seq (J.region ?_)
  refine RJ.run ttok 1 rfl ?_
  refine RJ.fin [(0, .pointer none), (1, .int .u32 a0), (2, .slice A1 a1.length c_1)] rfl ?_
  refine J.seq (J.region ?_)
  refine RJ.run ttok 2 rfl ?_
  refine RJ.inline rfl rfl rfl rfl rfl Try.func99 rfl (by kernel_rfl) (by kernel_rfl) ?_
  refine J.seq (J.region ?_)
  refine RJ.run ttok 2 rfl ?_
  refine RJ.fin [(0, _), (1, _)] rfl ?_
  refine J.seq (J.seq (J.region ?_))
  refine RJ.run ttok 1 rfl ?_
  refine RJ.inline rfl rfl rfl rfl rfl Try.func98 rfl (by kernel_rfl) (by kernel_rfl) ?_
  refine J.seq (J.region ?_)
  refine RJ.run ttok 1 rfl ?_
  refine RJ.fin [(0, _)] rfl ?_
  refine J.seq (J.region ?_)
  refine RJ.run ttok 10 rfl ?_
  refine RJ.fin [(2, .bool true)] rfl ?_
  refine J.ret ?_
  refine ⟨_, results_slots rfl, ?_⟩
  refine RJ.fin [(0, .pointer none), (1, .int .u32 a0), (9, .bool true)] rfl ?_
  refine J.condT rfl ?_
  refine J.seq (J.region ?_)
  refine RJ.run ttok 2 rfl ?_
  refine RJ.fin [(4, .pointer none), (5, .int .i64 1)] rfl ?_
  refine J.ret ?_
  refine ⟨_, results_slots rfl, ?_⟩
  refine RJ.run ttok 5 rfl ?_
  refine RJ.fin [(0, .pointer none), (2, .slice A1 a1.length c_1), (7, .pointer none), (8, .int .i64 1)] rfl ?_
  refine J.seq (J.block (J.seq (J.region ?_)))
  refine RJ.run ttok 3 rfl ?_
  refine RJ.fin [(0, _), (2, _), (7, _), (8, _), (15, .bool true)] rfl ?_
  refine J.condT rfl ?_
  refine J.seq (J.region ?_)
  refine RJ.run ttok 2 rfl ?_
  refine RJ.fin [(6, .int .i64 1)] rfl ?_
  refine J.ret ?_
  refine ⟨_, results_slots rfl, ?_⟩
  refine RJ.run ttok 5 rfl ?_
  refine RJ.inline rfl rfl rfl rfl rfl Try.func60 rfl (by kernel_rfl) (by kernel_rfl) ?_
  refine J.seq (J.region ?_)
  refine RJ.run ttok 1 rfl ?_
  refine RJ.fin [(0, .pointer none), (1, .int .u32 a0)] rfl ?_
  refine J.seq (J.seq (J.region ?_))
  refine RJ.run ttok 1 rfl ?_
  refine RJ.inline rfl rfl rfl rfl rfl Try.func98 rfl (by kernel_rfl) (by kernel_rfl) ?_
  refine J.seq (J.region ?_)
  refine RJ.run ttok 1 rfl ?_
  refine RJ.fin [(0, _)] rfl ?_
  refine J.seq (J.region ?_)
  refine RJ.run ttok 10 rfl ?_
  refine RJ.fin [(2, .bool true)] rfl ?_
  refine J.ret ?_
  refine ⟨_, results_slots rfl, ?_⟩
  refine RJ.fin [(0, .pointer none), (1, .int .u32 a0), (8, .bool true)] rfl ?_
  refine J.condT rfl ?_
  refine J.seq (J.region ?_)
  refine RJ.run ttok 1 rfl ?_
  refine RJ.fin [(4, .int .i64 1)] rfl ?_
  refine J.ret ?_
  refine ⟨_, results_slots rfl, ?_⟩
  refine RJ.run ttok 4 rfl ?_
  refine RJ.inline rfl rfl rfl rfl rfl Try.func54 rfl (by kernel_rfl) (by kernel_rfl) ?_
  refine J.seq (J.region ?_)
  refine RJ.run ttok 1 rfl ?_
  refine RJ.fin [(0, .pointer none)] rfl ?_
  refine J.seq (J.seq (J.region ?_))
  refine RJ.run ttok 1 rfl ?_
  refine RJ.inline rfl rfl rfl rfl rfl Try.func98 rfl (by kernel_rfl) (by kernel_rfl) ?_
  refine J.seq (J.region ?_)
  refine RJ.run ttok 1 rfl ?_
  refine RJ.fin [(0, _)] rfl ?_
  refine J.seq (J.region ?_)
  refine RJ.run ttok 10 rfl ?_
  refine RJ.fin [(2, .bool true)] rfl ?_
  refine J.ret ?_
  refine ⟨_, results_slots rfl, ?_⟩
  refine RJ.fin [(0, .pointer none), (6, .bool true)] rfl ?_
  refine J.condT rfl ?_
  refine J.seq (J.region ?_)
  refine RJ.run ttok 1 rfl ?_
  refine RJ.fin [(2, .int .i64 1)] rfl ?_
  refine J.ret ?_
  refine ⟨_, results_slots rfl, ?_⟩
  refine RJ.run ttok 5 rfl ?_
  refine RJ.inline rfl rfl rfl rfl rfl Try.func61 rfl (by kernel_rfl) (by kernel_rfl) ?_
  refine J.seq (J.region ?_)
  refine RJ.run ttok 1 rfl ?_
  refine RJ.fin [(0, .pointer none), (1, .int .u32 a0)] rfl ?_
  refine J.seq (J.region ?_)
  refine RJ.run ttok 2 rfl ?_
  refine RJ.inline rfl rfl rfl rfl rfl Try.func99 rfl (by kernel_rfl) (by kernel_rfl) ?_
  refine J.seq (J.region ?_)
  refine RJ.run ttok 2 rfl ?_
  refine RJ.fin [(0, _), (1, _)] rfl ?_
  refine J.seq (J.seq (J.region ?_))
  refine RJ.run ttok 1 rfl ?_
  refine RJ.inline rfl rfl rfl rfl rfl Try.func98 rfl (by kernel_rfl) (by kernel_rfl) ?_
  refine J.seq (J.region ?_)
  refine RJ.run ttok 1 rfl ?_
  refine RJ.fin [(0, _)] rfl ?_
  refine J.seq (J.region ?_)
  refine RJ.run ttok 10 rfl ?_
  refine RJ.fin [(2, .bool true)] rfl ?_
  refine J.ret ?_
  refine ⟨_, results_slots rfl, ?_⟩
  refine RJ.fin [(0, .pointer none), (1, .int .u32 a0), (9, .bool true)] rfl ?_
  refine J.condT rfl ?_
  refine J.seq (J.region ?_)
  refine RJ.run ttok 2 rfl ?_
  refine RJ.fin [(4, .pointer none), (5, .int .i64 1)] rfl ?_
  refine J.ret ?_
  refine ⟨_, results_slots rfl, ?_⟩
  refine RJ.run ttok 5 rfl ?_
  refine RJ.fin [(5, .pointer none), (6, .int .i64 1)] rfl ?_
  refine J.seq (J.seq (J.region ?_))
  refine RJ.run ttok 2 rfl ?_
  refine RJ.fin [(5, _), (14, .bool true)] rfl ?_
  refine J.condT rfl ?_
  refine J.seq (J.region ?_)
  refine RJ.run ttok 1 rfl ?_
  refine RJ.fin [(4, .int .i64 0)] rfl ?_
  refine J.ret ?_
  refine ⟨_, results_slots rfl, ?_⟩
  refine RJ.run ttok 1 rfl ?_
  refine RJ.inline rfl rfl rfl rfl rfl Try.func51 rfl (by kernel_rfl) (by kernel_rfl) ?_
  refine J.seq (J.region ?_)
  refine RJ.run ttok 1 rfl ?_
  refine RJ.fin [(0, .pointer none)] rfl ?_
  refine J.seq (J.seq (J.region ?_))
  refine RJ.run ttok 1 rfl ?_
  refine RJ.inline rfl rfl rfl rfl rfl Try.func98 rfl (by kernel_rfl) (by kernel_rfl) ?_
  refine J.seq (J.region ?_)
  refine RJ.run ttok 1 rfl ?_
  refine RJ.fin [(0, _)] rfl ?_
  refine J.seq (J.region ?_)
  refine RJ.run ttok 10 rfl ?_
  refine RJ.fin [(2, .bool true)] rfl ?_
  refine J.ret ?_
  refine ⟨_, results_slots rfl, ?_⟩
  refine RJ.fin [(0, .pointer none), (4, .bool true)] rfl ?_
  refine J.condT rfl ?_
  refine J.seq (J.region ?_)
  refine RJ.run ttok 1 rfl ?_
  refine RJ.fin [(2, .int .i64 0)] rfl ?_
  refine J.ret ?_
  refine ⟨_, results_slots rfl, ?_⟩
  refine RJ.run ttok 5 rfl ?_
  refine RJ.inline rfl rfl rfl rfl rfl Try.func55 rfl (by kernel_rfl) (by kernel_rfl) ?_
  refine J.seq (J.region ?_)
  refine RJ.run ttok 1 rfl ?_
  refine RJ.fin [(0, .pointer none)] rfl ?_
  refine J.seq (J.seq (J.region ?_))
  refine RJ.run ttok 1 rfl ?_
  refine RJ.inline rfl rfl rfl rfl rfl Try.func98 rfl (by kernel_rfl) (by kernel_rfl) ?_
  refine J.seq (J.region ?_)
  refine RJ.run ttok 1 rfl ?_
  refine RJ.fin [(0, _)] rfl ?_
  refine J.seq (J.region ?_)
  refine RJ.run ttok 10 rfl ?_
  refine RJ.fin [(2, .bool true)] rfl ?_
  refine J.ret ?_
  refine ⟨_, results_slots rfl, ?_⟩
  refine RJ.fin [(0, .pointer none), (7, .bool true)] rfl ?_
  refine J.condT rfl ?_
  refine J.seq (J.region ?_)
  refine RJ.run ttok 1 rfl ?_
  refine RJ.fin [(2, .slice none ([] : List (Int)).length 0)] rfl ?_
  refine J.ret ?_
  refine ⟨_, results_slots rfl, ?_⟩
  refine RJ.run ttok 2 rfl ?_
  refine RJ.inline rfl rfl rfl rfl rfl Try.func62 rfl (by kernel_rfl) (by kernel_rfl) ?_
  refine J.seq (J.region ?_)
  refine RJ.run ttok 1 rfl ?_
  refine RJ.fin [(0, .pointer none)] rfl ?_
  refine J.seq (J.seq (J.region ?_))
  refine RJ.run ttok 1 rfl ?_
  refine RJ.inline rfl rfl rfl rfl rfl Try.func98 rfl (by kernel_rfl) (by kernel_rfl) ?_
  refine J.seq (J.region ?_)
  refine RJ.run ttok 1 rfl ?_
  refine RJ.fin [(0, _)] rfl ?_
  refine J.seq (J.region ?_)
  refine RJ.run ttok 10 rfl ?_
  refine RJ.fin [(2, .bool true)] rfl ?_
  refine J.ret ?_
  refine ⟨_, results_slots rfl, ?_⟩
  refine RJ.fin [(0, .pointer none), (7, .bool true)] rfl ?_
  refine J.condT rfl ?_
  refine J.seq (J.region ?_)
  refine RJ.run ttok 1 rfl ?_
  refine RJ.fin [(2, .slice none ([] : List (Int)).length 0)] rfl ?_
  refine J.ret ?_
  refine ⟨_, results_slots rfl, ?_⟩
  refine RJ.run ttok 4 rfl ?_
  refine RJ.fin [(0, .int .u32 a0), (1, .slice A1 a1.length c_1), (2, .int .i64 a2), (8, .slice (some ⟨b2, 0, none⟩) ([.pointer none, .pointer (some ⟨b1, 0, none⟩)] : List Value).length 2), (9, .int .i64 0), (96, .bool (!decide ((w64 ((([] : List (Int)).length : Int) + (([] : List (Int)).length : Int))) = 0)))] rfl ?_
  refine J.cond rfl (fun c2 => ?_) (fun c2 => ?_)
  · replace H := ite_t c2 H
    refine J.seq (J.region ?_)
    refine RJ.run ttok 1 rfl ?_
    refine RJ.fin [(6, .bool false)] rfl ?_
    have h4 := h2.only [] rfl
    replace h4 : St w0 F0 [] _ _ := h4
    refine J.ret ?_
    obtain rfl := Option.some.inj H
    exact ⟨_, _, _, (results_slots rfl), ⟨rfl, rfl⟩, h4.only [] rfl⟩
  replace H := ite_f c2 H
  refine J.skip ?_
  refine J.region ?_
  refine RJ.run ttok 3 rfl ?_
  refine RJ.fin [(0, _), (1, _), (2, _), (8, _), (9, .int .i64 1)] rfl ?_
  refine J.roundN ?_
  refine J.seq (J.seq (J.region ?_))
  refine RJ.run ttok 4 rfl ?_
  refine RJ.fin [(0, _), (1, _), (2, _), (8, _), (9, _), (22, .bool true)] rfl ?_
  refine J.condT rfl ?_
  refine J.skip ?_
  refine J.seq (J.block (J.seq (J.region ?_)))
  refine RJ.run ttok 2 rfl ?_
  refine RJ.q rfl rfl (q_index ttok rfl rfl rfl rfl rfl e1 (by decide : (0 : Int) ≤ 1) (by decide : (1 : Int) < ((2 : Nat) : Int))) ?_
  refine RJ.q rfl rfl (q_load_elem (f := 0) ttok rfl h2.wht (Gives.of 0 rfl own_rd) (by decide : (0 : Int) ≤ 1) (by decide : (1 : Int) < ((2 : Nat) : Int)) rfl rfl rfl rfl rfl) ?_
  refine RJ.run ttok 1 rfl ?_
  refine RJ.fin [(0, _), (1, _), (2, _), (8, _), (9, _), (10, .pointer (some ⟨b1, 0, none⟩))] rfl ?_
  refine J.seq (J.region ?_)
  refine RJ.run ttok 2 rfl ?_
  refine RJ.inline rfl rfl rfl rfl rfl Try.func53 rfl (by kernel_rfl) (by kernel_rfl) ?_
  refine J.seq (J.region ?_)
  refine RJ.run ttok 2 rfl ?_
  refine RJ.fin [(0, .pointer (some ⟨b1, 0, none⟩)), (1, .int .u32 a0)] rfl ?_
  refine J.seq (J.region ?_)
  refine RJ.run ttok 2 rfl ?_
  refine RJ.inline rfl rfl rfl rfl rfl Try.func99 rfl (by kernel_rfl) (by kernel_rfl) ?_
  refine J.seq (J.region ?_)
  refine RJ.run ttok 2 rfl ?_
  refine RJ.fin [(0, _), (1, _)] rfl ?_
  refine J.seq (J.seq (J.region ?_))
  refine RJ.run ttok 1 rfl ?_
  refine RJ.inline rfl rfl rfl rfl rfl Try.func98 rfl (by kernel_rfl) (by kernel_rfl) ?_
  refine J.seq (J.region ?_)
  refine RJ.run ttok 1 rfl ?_
  refine RJ.fin [(0, _)] rfl ?_
  refine J.seq (J.region ?_)
  refine RJ.run ttok 6 rfl ?_
  refine RJ.q rfl rfl (q_load_box ttok 1 h2.wht rfl rfl rfl rfl rfl) ?_
  refine RJ.run ttok 3 rfl ?_
  refine RJ.fin [(2, .bool true)] rfl ?_
  refine J.ret ?_
  refine ⟨_, results_slots rfl, ?_⟩
  refine RJ.fin [(0, .pointer (some ⟨b1, 0, none⟩)), (1, .int .u32 a0), (9, .bool true)] rfl ?_
  refine J.condT rfl ?_
  refine J.seq (J.region ?_)
  refine RJ.run ttok 2 rfl ?_
  refine RJ.fin [(4, .pointer none), (5, .int .i64 1)] rfl ?_
  refine J.ret ?_
  refine ⟨_, results_slots rfl, ?_⟩
  refine RJ.run ttok 5 rfl ?_
  refine RJ.fin [(6, .pointer none), (7, .int .i64 1)] rfl ?_
  refine J.seq (J.seq (J.region ?_))
  refine RJ.run ttok 2 rfl ?_
  refine RJ.fin [(6, _), (7, _), (15, .bool true)] rfl ?_
  refine J.condT rfl ?_
  refine J.seq (J.region ?_)
  refine RJ.run ttok 3 rfl ?_
  refine RJ.fin [(4, .slice none ([] : List (Int)).length 0), (5, .int .i64 1)] rfl ?_
  refine J.ret ?_
  refine ⟨_, results_slots rfl, ?_⟩
  refine RJ.run ttok 5 rfl ?_
  refine RJ.fin [(0, .int .u32 a0), (1, .slice A1 a1.length c_1), (2, .int .i64 a2), (8, .slice (some ⟨b2, 0, none⟩) ([.pointer none, .pointer (some ⟨b1, 0, none⟩)] : List Value).length 2), (9, .int .i64 1), (10, .pointer (some ⟨b1, 0, none⟩)), (11, .slice none ([] : List (Int)).length 0), (12, .int .i64 1)] rfl ?_
  refine J.seq (J.region ?_)
  refine RJ.run ttok 2 rfl ?_
  refine RJ.inline rfl rfl rfl rfl rfl Try.func56 rfl (by kernel_rfl) (by kernel_rfl) ?_
  refine J.seq (J.region ?_)
  refine RJ.run ttok 1 rfl ?_
  refine RJ.fin [(0, .pointer (some ⟨b1, 0, none⟩)), (1, .int .u32 a0)] rfl ?_
  refine J.seq (J.seq (J.region ?_))
  refine RJ.run ttok 2 rfl ?_
  refine RJ.inline rfl rfl rfl rfl rfl Try.func103 rfl (by kernel_rfl) (by kernel_rfl) ?_
  refine J.seq (J.region ?_)
  refine RJ.run ttok 1 rfl ?_
  refine RJ.fin [(0, _), (1, _)] rfl ?_
  refine J.seq (J.block (J.seq (J.region ?_)))
  refine RJ.run ttok 1 rfl ?_
  refine RJ.inline rfl rfl rfl rfl rfl Try.func98 rfl (by kernel_rfl) (by kernel_rfl) ?_
  refine J.seq (J.region ?_)
  refine RJ.run ttok 1 rfl ?_
  refine RJ.fin [(0, _)] rfl ?_
  refine J.seq (J.region ?_)
  refine RJ.run ttok 6 rfl ?_
  refine RJ.q rfl rfl (q_load_box ttok 1 h2.wht rfl rfl rfl rfl rfl) ?_
  refine RJ.run ttok 3 rfl ?_
  refine RJ.fin [(2, .bool true)] rfl ?_
  refine J.ret ?_
  refine ⟨_, results_slots rfl, ?_⟩
  refine RJ.run ttok 1 rfl ?_
  refine RJ.fin [(0, .pointer (some ⟨b1, 0, none⟩)), (1, .int .u32 a0), (5, .bool true)] rfl ?_
  refine J.condT rfl ?_
  refine J.seq (J.region ?_)
  refine RJ.run ttok 1 rfl ?_
  refine RJ.fin [(4, .int .i64 1)] rfl ?_
  refine J.ret ?_
  refine ⟨_, results_slots rfl, ?_⟩
  refine RJ.run ttok 1 rfl ?_
  refine RJ.fin [(0, .pointer (some ⟨b1, 0, none⟩)), (1, .int .u32 a0), (5, .int .i64 1)] rfl ?_
  refine J.seq (J.region ?_)
  refine RJ.run ttok 2 rfl ?_
  refine RJ.fin [(0, _), (1, _), (5, _), (16, .bool true)] rfl ?_
  refine J.condT rfl ?_
  refine J.seq (J.region ?_)
  refine RJ.run ttok 2 rfl ?_
  refine RJ.fin [(4, .int .i64 1)] rfl ?_
  refine J.ret ?_
  refine ⟨_, results_slots rfl, ?_⟩
  refine RJ.run ttok 4 rfl ?_
  refine RJ.inline rfl rfl rfl rfl rfl Try.func57 rfl (by kernel_rfl) (by kernel_rfl) ?_
  refine J.seq (J.region ?_)
  refine RJ.run ttok 1 rfl ?_
  refine RJ.fin [(0, .pointer (some ⟨b1, 0, none⟩)), (1, .int .u32 a0)] rfl ?_
  refine J.seq (J.seq (J.region ?_))
  refine RJ.run ttok 2 rfl ?_
  refine RJ.inline rfl rfl rfl rfl rfl Try.func103 rfl (by kernel_rfl) (by kernel_rfl) ?_
  refine J.seq (J.region ?_)
  refine RJ.run ttok 1 rfl ?_
  refine RJ.fin [(0, _), (1, _)] rfl ?_
  refine J.seq (J.block (J.seq (J.region ?_)))
  refine RJ.run ttok 1 rfl ?_
  refine RJ.inline rfl rfl rfl rfl rfl Try.func98 rfl (by kernel_rfl) (by kernel_rfl) ?_
  refine J.seq (J.region ?_)
  refine RJ.run ttok 1 rfl ?_
  refine RJ.fin [(0, _)] rfl ?_
  refine J.seq (J.region ?_)
  refine RJ.run ttok 6 rfl ?_
  refine RJ.q rfl rfl (q_load_box ttok 1 h2.wht rfl rfl rfl rfl rfl) ?_
  refine RJ.run ttok 3 rfl ?_
  refine RJ.fin [(2, .bool true)] rfl ?_
  refine J.ret ?_
  refine ⟨_, results_slots rfl, ?_⟩
  refine RJ.run ttok 1 rfl ?_
  refine RJ.fin [(0, .pointer (some ⟨b1, 0, none⟩)), (1, .int .u32 a0), (5, .bool true)] rfl ?_
  refine J.condT rfl ?_
  refine J.seq (J.region ?_)
  refine RJ.run ttok 1 rfl ?_
  refine RJ.fin [(4, .int .i64 1)] rfl ?_
  refine J.ret ?_
  refine ⟨_, results_slots rfl, ?_⟩
  refine RJ.run ttok 1 rfl ?_
  refine RJ.fin [(0, .pointer (some ⟨b1, 0, none⟩)), (1, .int .u32 a0), (5, .int .i64 1)] rfl ?_
  refine J.seq (J.region ?_)
  refine RJ.run ttok 2 rfl ?_
  refine RJ.fin [(0, _), (1, _), (5, _), (12, .bool true)] rfl ?_
  refine J.condT rfl ?_
  refine J.seq (J.region ?_)
  refine RJ.run ttok 2 rfl ?_
  refine RJ.fin [(4, .int .i64 1)] rfl ?_
  refine J.ret ?_
  refine ⟨_, results_slots rfl, ?_⟩
  refine RJ.run ttok 5 rfl ?_
  refine RJ.inline rfl rfl rfl rfl rfl Try.func58 rfl (by kernel_rfl) (by kernel_rfl) ?_
  refine J.seq (J.region ?_)
  refine RJ.run ttok 1 rfl ?_
  refine RJ.fin [(0, .pointer (some ⟨b1, 0, none⟩)), (1, .int .u32 a0)] rfl ?_
  refine J.seq (J.region ?_)
  refine RJ.run ttok 2 rfl ?_
  refine RJ.inline rfl rfl rfl rfl rfl Try.func99 rfl (by kernel_rfl) (by kernel_rfl) ?_
  refine J.seq (J.region ?_)
  refine RJ.run ttok 2 rfl ?_
  refine RJ.fin [(0, _), (1, _)] rfl ?_
  refine J.seq (J.seq (J.region ?_))
  refine RJ.run ttok 1 rfl ?_
  refine RJ.inline rfl rfl rfl rfl rfl Try.func98 rfl (by kernel_rfl) (by kernel_rfl) ?_
  refine J.seq (J.region ?_)
  refine RJ.run ttok 1 rfl ?_
  refine RJ.fin [(0, _)] rfl ?_
  refine J.seq (J.region ?_)
  refine RJ.run ttok 6 rfl ?_
  refine RJ.q rfl rfl (q_load_box ttok 1 h2.wht rfl rfl rfl rfl rfl) ?_
  refine RJ.run ttok 3 rfl ?_
  refine RJ.fin [(2, .bool true)] rfl ?_
  refine J.ret ?_
  refine ⟨_, results_slots rfl, ?_⟩
  refine RJ.fin [(0, .pointer (some ⟨b1, 0, none⟩)), (1, .int .u32 a0), (9, .bool true)] rfl ?_
  refine J.condT rfl ?_
  refine J.seq (J.region ?_)
  refine RJ.run ttok 2 rfl ?_
  refine RJ.fin [(4, .pointer none), (5, .int .i64 1)] rfl ?_
  refine J.ret ?_
  refine ⟨_, results_slots rfl, ?_⟩
  refine RJ.run ttok 5 rfl ?_
  refine RJ.fin [(0, .pointer (some ⟨b1, 0, none⟩)), (1, .int .u32 a0), (5, .pointer none), (6, .int .i64 1)] rfl ?_
  refine J.seq (J.seq (J.region ?_))
  refine RJ.run ttok 2 rfl ?_
  refine RJ.fin [(0, _), (1, _), (5, _), (6, _), (14, .bool true)] rfl ?_
  refine J.condT rfl ?_
  refine J.seq (J.region ?_)
  refine RJ.run ttok 2 rfl ?_
  refine RJ.fin [(4, .int .i64 1)] rfl ?_
  refine J.ret ?_
  refine ⟨_, results_slots rfl, ?_⟩
  refine RJ.run ttok 8 rfl ?_
  refine RJ.know (t := 56) rfl (congrArg Value.bool c1) ?_
  refine RJ.run ttok 7 rfl ?_
  refine RJ.inline rfl rfl rfl rfl rfl Try.func59 rfl (by kernel_rfl) (by kernel_rfl) ?_
  refine J.seq (J.region ?_)
  refine RJ.run ttok 1 rfl ?_
  refine RJ.fin [(0, .pointer (some ⟨b1, 0, none⟩)), (1, .int .u32 a0), (2, .slice A1 a1.length c_1)] rfl ?_
  refine J.seq (J.region ?_)
  refine RJ.run ttok 2 rfl ?_
  refine RJ.inline rfl rfl rfl rfl rfl Try.func99 rfl (by kernel_rfl) (by kernel_rfl) ?_
  refine J.seq (J.region ?_)
  refine RJ.run ttok 2 rfl ?_
  refine RJ.fin [(0, _), (1, _)] rfl ?_
  refine J.seq (J.seq (J.region ?_))
  refine RJ.run ttok 1 rfl ?_
  refine RJ.inline rfl rfl rfl rfl rfl Try.func98 rfl (by kernel_rfl) (by kernel_rfl) ?_
  refine J.seq (J.region ?_)
  refine RJ.run ttok 1 rfl ?_
  refine RJ.fin [(0, _)] rfl ?_
  refine J.seq (J.region ?_)
  refine RJ.run ttok 6 rfl ?_
  refine RJ.q rfl rfl (q_load_box ttok 1 h2.wht rfl rfl rfl rfl rfl) ?_
  refine RJ.run ttok 3 rfl ?_
  refine RJ.fin [(2, .bool true)] rfl ?_
  refine J.ret ?_
  refine ⟨_, results_slots rfl, ?_⟩
  refine RJ.fin [(0, .pointer (some ⟨b1, 0, none⟩)), (1, .int .u32 a0), (9, .bool true)] rfl ?_
  refine J.condT rfl ?_
  refine J.seq (J.region ?_)
  refine RJ.run ttok 2 rfl ?_
  refine RJ.fin [(4, .pointer none), (5, .int .i64 1)] rfl ?_
  refine J.ret ?_
  refine ⟨_, results_slots rfl, ?_⟩
  refine RJ.run ttok 5 rfl ?_
  refine RJ.fin [(0, .pointer (some ⟨b1, 0, none⟩)), (2, .slice A1 a1.length c_1), (7, .pointer none), (8, .int .i64 1)] rfl ?_
  refine J.seq (J.block (J.seq (J.region ?_)))
  refine RJ.run ttok 3 rfl ?_
  refine RJ.fin [(0, _), (2, _), (7, _), (8, _), (15, .bool true)] rfl ?_
  refine J.condT rfl ?_
  refine J.seq (J.region ?_)
  refine RJ.run ttok 2 rfl ?_
  refine RJ.fin [(6, .int .i64 1)] rfl ?_
  refine J.ret ?_
  refine ⟨_, results_slots rfl, ?_⟩
  refine RJ.run ttok 5 rfl ?_
  refine RJ.inline rfl rfl rfl rfl rfl Try.func60 rfl (by kernel_rfl) (by kernel_rfl) ?_
  refine J.seq (J.region ?_)
  refine RJ.run ttok 1 rfl ?_
  refine RJ.fin [(0, .pointer (some ⟨b1, 0, none⟩)), (1, .int .u32 a0)] rfl ?_
  refine J.seq (J.seq (J.region ?_))
  refine RJ.run ttok 1 rfl ?_
  refine RJ.inline rfl rfl rfl rfl rfl Try.func98 rfl (by kernel_rfl) (by kernel_rfl) ?_
  refine J.seq (J.region ?_)
  refine RJ.run ttok 1 rfl ?_
  refine RJ.fin [(0, _)] rfl ?_
  refine J.seq (J.region ?_)
  refine RJ.run ttok 6 rfl ?_
  refine RJ.q rfl rfl (q_load_box ttok 1 h2.wht rfl rfl rfl rfl rfl) ?_
  refine RJ.run ttok 3 rfl ?_
  refine RJ.fin [(2, .bool true)] rfl ?_
  refine J.ret ?_
  refine ⟨_, results_slots rfl, ?_⟩
  refine RJ.fin [(0, .pointer (some ⟨b1, 0, none⟩)), (1, .int .u32 a0), (8, .bool true)] rfl ?_
  refine J.condT rfl ?_
  refine J.seq (J.region ?_)
  refine RJ.run ttok 1 rfl ?_
  refine RJ.fin [(4, .int .i64 1)] rfl ?_
  refine J.ret ?_
  refine ⟨_, results_slots rfl, ?_⟩
  refine RJ.run ttok 4 rfl ?_
  refine RJ.inline rfl rfl rfl rfl rfl Try.func54 rfl (by kernel_rfl) (by kernel_rfl) ?_
  refine J.seq (J.region ?_)
  refine RJ.run ttok 1 rfl ?_
  refine RJ.fin [(0, .pointer (some ⟨b1, 0, none⟩))] rfl ?_
  refine J.seq (J.seq (J.region ?_))
  refine RJ.run ttok 1 rfl ?_
  refine RJ.inline rfl rfl rfl rfl rfl Try.func98 rfl (by kernel_rfl) (by kernel_rfl) ?_
  refine J.seq (J.region ?_)
  refine RJ.run ttok 1 rfl ?_
  refine RJ.fin [(0, _)] rfl ?_
  refine J.seq (J.region ?_)
  refine RJ.run ttok 6 rfl ?_
  refine RJ.q rfl rfl (q_load_box ttok 1 h2.wht rfl rfl rfl rfl rfl) ?_
  refine RJ.run ttok 3 rfl ?_
  refine RJ.fin [(2, .bool true)] rfl ?_
  refine J.ret ?_
  refine ⟨_, results_slots rfl, ?_⟩
  refine RJ.fin [(0, .pointer (some ⟨b1, 0, none⟩)), (6, .bool true)] rfl ?_
  refine J.condT rfl ?_
  refine J.seq (J.region ?_)
  refine RJ.run ttok 1 rfl ?_
  refine RJ.fin [(2, .int .i64 1)] rfl ?_
  refine J.ret ?_
  refine ⟨_, results_slots rfl, ?_⟩
  refine RJ.run ttok 5 rfl ?_
  refine RJ.inline rfl rfl rfl rfl rfl Try.func61 rfl (by kernel_rfl) (by kernel_rfl) ?_
  refine J.seq (J.region ?_)
  refine RJ.run ttok 1 rfl ?_
  refine RJ.fin [(0, .pointer (some ⟨b1, 0, none⟩)), (1, .int .u32 a0)] rfl ?_
  refine J.seq (J.region ?_)
  refine RJ.run ttok 2 rfl ?_
  refine RJ.inline rfl rfl rfl rfl rfl Try.func99 rfl (by kernel_rfl) (by kernel_rfl) ?_
  refine J.seq (J.region ?_)
  refine RJ.run ttok 2 rfl ?_
  refine RJ.fin [(0, _), (1, _)] rfl ?_
  refine J.seq (J.seq (J.region ?_))
  refine RJ.run ttok 1 rfl ?_
  refine RJ.inline rfl rfl rfl rfl rfl Try.func98 rfl (by kernel_rfl) (by kernel_rfl) ?_
  refine J.seq (J.region ?_)
  refine RJ.run ttok 1 rfl ?_
  refine RJ.fin [(0, _)] rfl ?_
  refine J.seq (J.region ?_)
  refine RJ.run ttok 6 rfl ?_
  refine RJ.q rfl rfl (q_load_box ttok 1 h2.wht rfl rfl rfl rfl rfl) ?_
  refine RJ.run ttok 3 rfl ?_
  refine RJ.fin [(2, .bool true)] rfl ?_
  refine J.ret ?_
  refine ⟨_, results_slots rfl, ?_⟩
  refine RJ.fin [(0, .pointer (some ⟨b1, 0, none⟩)), (1, .int .u32 a0), (9, .bool true)] rfl ?_
  refine J.condT rfl ?_
  refine J.seq (J.region ?_)
  refine RJ.run ttok 2 rfl ?_
  refine RJ.fin [(4, .pointer none), (5, .int .i64 1)] rfl ?_
  refine J.ret ?_
  refine ⟨_, results_slots rfl, ?_⟩
  refine RJ.run ttok 5 rfl ?_
  refine RJ.fin [(5, .pointer none), (6, .int .i64 1)] rfl ?_
  refine J.seq (J.seq (J.region ?_))
  refine RJ.run ttok 2 rfl ?_
  refine RJ.fin [(5, _), (14, .bool true)] rfl ?_
  refine J.condT rfl ?_
  refine J.seq (J.region ?_)
  refine RJ.run ttok 1 rfl ?_
  refine RJ.fin [(4, .int .i64 0)] rfl ?_
  refine J.ret ?_
  refine ⟨_, results_slots rfl, ?_⟩
  refine RJ.run ttok 1 rfl ?_
  refine RJ.inline rfl rfl rfl rfl rfl Try.func51 rfl (by kernel_rfl) (by kernel_rfl) ?_
  refine J.seq (J.region ?_)
  refine RJ.run ttok 1 rfl ?_
  refine RJ.fin [(0, .pointer (some ⟨b1, 0, none⟩))] rfl ?_
  refine J.seq (J.seq (J.region ?_))
  refine RJ.run ttok 1 rfl ?_
  refine RJ.inline rfl rfl rfl rfl rfl Try.func98 rfl (by kernel_rfl) (by kernel_rfl) ?_
  refine J.seq (J.region ?_)
  refine RJ.run ttok 1 rfl ?_
  refine RJ.fin [(0, _)] rfl ?_
  refine J.seq (J.region ?_)
  refine RJ.run ttok 6 rfl ?_
  refine RJ.q rfl rfl (q_load_box ttok 1 h2.wht rfl rfl rfl rfl rfl) ?_
  refine RJ.run ttok 3 rfl ?_
  refine RJ.fin [(2, .bool true)] rfl ?_
  refine J.ret ?_
  refine ⟨_, results_slots rfl, ?_⟩
  refine RJ.fin [(0, .pointer (some ⟨b1, 0, none⟩)), (4, .bool true)] rfl ?_
  refine J.condT rfl ?_
  refine J.seq (J.region ?_)
  refine RJ.run ttok 1 rfl ?_
  refine RJ.fin [(2, .int .i64 0)] rfl ?_
  refine J.ret ?_
  refine ⟨_, results_slots rfl, ?_⟩
  refine RJ.run ttok 5 rfl ?_
  refine RJ.inline rfl rfl rfl rfl rfl Try.func55 rfl (by kernel_rfl) (by kernel_rfl) ?_
  refine J.seq (J.region ?_)
  refine RJ.run ttok 1 rfl ?_
  refine RJ.fin [(0, .pointer (some ⟨b1, 0, none⟩))] rfl ?_
  refine J.seq (J.seq (J.region ?_))
  refine RJ.run ttok 1 rfl ?_
  refine RJ.inline rfl rfl rfl rfl rfl Try.func98 rfl (by kernel_rfl) (by kernel_rfl) ?_
  refine J.seq (J.region ?_)
  refine RJ.run ttok 1 rfl ?_
  refine RJ.fin [(0, _)] rfl ?_
  refine J.seq (J.region ?_)
  refine RJ.run ttok 6 rfl ?_
  refine RJ.q rfl rfl (q_load_box ttok 1 h2.wht rfl rfl rfl rfl rfl) ?_
  refine RJ.run ttok 3 rfl ?_
  refine RJ.fin [(2, .bool true)] rfl ?_
  refine J.ret ?_
  refine ⟨_, results_slots rfl, ?_⟩
  refine RJ.fin [(0, .pointer (some ⟨b1, 0, none⟩)), (7, .bool true)] rfl ?_
  refine J.condT rfl ?_
  refine J.seq (J.region ?_)
  refine RJ.run ttok 1 rfl ?_
  refine RJ.fin [(2, .slice none ([] : List (Int)).length 0)] rfl ?_
  refine J.ret ?_
  refine ⟨_, results_slots rfl, ?_⟩
  refine RJ.run ttok 2 rfl ?_
  refine RJ.inline rfl rfl rfl rfl rfl Try.func62 rfl (by kernel_rfl) (by kernel_rfl) ?_
  refine J.seq (J.region ?_)
  refine RJ.run ttok 1 rfl ?_
  refine RJ.fin [(0, .pointer (some ⟨b1, 0, none⟩))] rfl ?_
  refine J.seq (J.seq (J.region ?_))
  refine RJ.run ttok 1 rfl ?_
  refine RJ.inline rfl rfl rfl rfl rfl Try.func98 rfl (by kernel_rfl) (by kernel_rfl) ?_
  refine J.seq (J.region ?_)
  refine RJ.run ttok 1 rfl ?_
  refine RJ.fin [(0, _)] rfl ?_
  refine J.seq (J.region ?_)
  refine RJ.run ttok 6 rfl ?_
  refine RJ.q rfl rfl (q_load_box ttok 1 h2.wht rfl rfl rfl rfl rfl) ?_
  refine RJ.run ttok 3 rfl ?_
  refine RJ.fin [(2, .bool true)] rfl ?_
  refine J.ret ?_
  refine ⟨_, results_slots rfl, ?_⟩
  refine RJ.fin [(0, .pointer (some ⟨b1, 0, none⟩)), (7, .bool true)] rfl ?_
  refine J.condT rfl ?_
  refine J.seq (J.region ?_)
  refine RJ.run ttok 1 rfl ?_
  refine RJ.fin [(2, .slice none ([] : List (Int)).length 0)] rfl ?_
  refine J.ret ?_
  refine ⟨_, results_slots rfl, ?_⟩
  refine RJ.run ttok 4 rfl ?_
  refine RJ.fin [(0, .int .u32 a0), (1, .slice A1 a1.length c_1), (2, .int .i64 a2), (8, .slice (some ⟨b2, 0, none⟩) ([.pointer none, .pointer (some ⟨b1, 0, none⟩)] : List Value).length 2), (9, .int .i64 1), (96, .bool (!decide ((w64 ((([] : List (Int)).length : Int) + (([] : List (Int)).length : Int))) = 0)))] rfl ?_
  refine J.cond rfl (fun e => by rw [c2] at e; cases e) (fun e => ?_)
  refine J.skip ?_
  refine J.region ?_
  refine RJ.run ttok 3 rfl ?_
  refine RJ.fin [(0, _), (1, _), (2, _), (8, _), (9, .int .i64 2)] rfl ?_
  refine J.roundN ?_
  refine J.seq (J.seq (J.region ?_))
  refine RJ.run ttok 4 rfl ?_
  refine RJ.fin [(0, _), (1, _), (2, _), (8, _), (9, _), (22, .bool false)] rfl ?_
  refine J.condF rfl ?_
  refine J.exit ?_
  refine J.seq (J.region ?_)
  refine RJ.run ttok 1 rfl ?_
  refine RJ.inline rfl rfl rfl rfl rfl Try.func49 rfl (by kernel_rfl) (by kernel_rfl) ?_
  refine J.seq (J.region ?_)
  refine RJ.run ttok 2 rfl ?_
  refine RJ.fin [(0, .pointer none), (1, .int .i64 a2)] rfl ?_
  refine J.seq (J.block (J.seq (J.region ?_)))
  refine RJ.run ttok 1 rfl ?_
  refine RJ.inline rfl rfl rfl rfl rfl Try.func24 rfl (by kernel_rfl) (by kernel_rfl) ?_
  refine J.seq (J.region ?_)
  refine RJ.run ttok 1 rfl ?_
  refine RJ.fin [(0, _)] rfl ?_
  refine J.seq (J.seq (J.region ?_))
  refine RJ.run ttok 9 rfl ?_
  refine RJ.fin [(0, _), (11, .bool true)] rfl ?_
  refine J.condT rfl ?_
  refine J.seq (J.region ?_)
  refine RJ.run ttok 1 rfl ?_
  refine RJ.fin [(2, .int .i64 0)] rfl ?_
  refine J.ret ?_
  refine ⟨_, results_slots rfl, ?_⟩
  refine RJ.run ttok 2 rfl ?_
  refine RJ.fin [(0, .pointer none), (1, .int .i64 a2), (10, .bool true)] rfl ?_
  refine J.condT rfl ?_
  refine J.seq (J.region ?_)
  refine RJ.run ttok 2 rfl ?_
  refine RJ.fin [(4, .pointer none), (5, .int .i64 1)] rfl ?_
  refine J.ret ?_
  refine ⟨_, results_slots rfl, ?_⟩
  refine RJ.run ttok 5 rfl ?_
  refine RJ.fin [(13, .pointer none), (14, .int .i64 1)] rfl ?_
  have h5 := h2.only [] rfl
  replace h5 : St w0 F0 [] _ _ := h5
  refine J.seq (J.region ?_)
  refine RJ.run ttok 7 rfl ?_
  obtain ⟨r1, q1, H⟩ := bind_t H
  refine RJ.op rfl rfl (op_call [] (Q25.spec q1) rfl rfl rfl h5 rfl gnil) ?_
  rintro _ w3 ⟨_, ⟨rfl, rfl⟩, h6⟩
  replace h6 : St w0 F0 [] _ _ := h6
  refine RJ.run ttok 2 rfl ?_
  refine RJ.fin [(6, .bool r1)] rfl ?_
  refine J.ret ?_
  obtain rfl := Option.some.inj H
  exact ⟨_, _, _, (results_slots rfl), ⟨rfl, rfl⟩, h6.only [] rfl⟩

end Go.SK.T
