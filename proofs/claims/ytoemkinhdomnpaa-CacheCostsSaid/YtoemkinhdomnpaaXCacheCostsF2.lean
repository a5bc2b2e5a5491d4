/- The functions, further. -/
import Derived.Test.YtoemkinhdomnpaaXCacheCostsF1
set_option linter.unusedVariables false
set_option linter.unusedSimpArgs false
set_option maxRecDepth 20000
set_option maxHeartbeats 40000000
namespace Go.SK.T
open Go Go.SK Go.Proofs
def Q49.f (a0 : Int) : Option (Int × Int) := some ((IntKind.u64.wrap (((BitVec.ofInt IntKind.u64.bits (IntKind.u64.wrap (((BitVec.ofInt IntKind.u64.bits (IntKind.u64.wrap (((BitVec.ofInt IntKind.u64.bits a0 ^^^ (BitVec.ofInt IntKind.u64.bits (IntKind.u64.wrap (a0 * 2 ^ 13)))).toNat : Int))) ^^^ (BitVec.ofInt IntKind.u64.bits (Int.fdiv (IntKind.u64.wrap (((BitVec.ofInt IntKind.u64.bits a0 ^^^ (BitVec.ofInt IntKind.u64.bits (IntKind.u64.wrap (a0 * 2 ^ 13)))).toNat : Int))) (2 ^ 7)))).toNat : Int))) ^^^ (BitVec.ofInt IntKind.u64.bits (IntKind.u64.wrap ((IntKind.u64.wrap (((BitVec.ofInt IntKind.u64.bits (IntKind.u64.wrap (((BitVec.ofInt IntKind.u64.bits a0 ^^^ (BitVec.ofInt IntKind.u64.bits (IntKind.u64.wrap (a0 * 2 ^ 13)))).toNat : Int))) ^^^ (BitVec.ofInt IntKind.u64.bits (Int.fdiv (IntKind.u64.wrap (((BitVec.ofInt IntKind.u64.bits a0 ^^^ (BitVec.ofInt IntKind.u64.bits (IntKind.u64.wrap (a0 * 2 ^ 13)))).toNat : Int))) (2 ^ 7)))).toNat : Int))) * 2 ^ 17)))).toNat : Int))), (IntKind.u64.wrap (((BitVec.ofInt IntKind.u64.bits (IntKind.u64.wrap (((BitVec.ofInt IntKind.u64.bits (IntKind.u64.wrap (((BitVec.ofInt IntKind.u64.bits a0 ^^^ (BitVec.ofInt IntKind.u64.bits (IntKind.u64.wrap (a0 * 2 ^ 13)))).toNat : Int))) ^^^ (BitVec.ofInt IntKind.u64.bits (Int.fdiv (IntKind.u64.wrap (((BitVec.ofInt IntKind.u64.bits a0 ^^^ (BitVec.ofInt IntKind.u64.bits (IntKind.u64.wrap (a0 * 2 ^ 13)))).toNat : Int))) (2 ^ 7)))).toNat : Int))) ^^^ (BitVec.ofInt IntKind.u64.bits (IntKind.u64.wrap ((IntKind.u64.wrap (((BitVec.ofInt IntKind.u64.bits (IntKind.u64.wrap (((BitVec.ofInt IntKind.u64.bits a0 ^^^ (BitVec.ofInt IntKind.u64.bits (IntKind.u64.wrap (a0 * 2 ^ 13)))).toNat : Int))) ^^^ (BitVec.ofInt IntKind.u64.bits (Int.fdiv (IntKind.u64.wrap (((BitVec.ofInt IntKind.u64.bits a0 ^^^ (BitVec.ofInt IntKind.u64.bits (IntKind.u64.wrap (a0 * 2 ^ 13)))).toNat : Int))) (2 ^ 7)))).toNat : Int))) * 2 ^ 17)))).toNat : Int))))
theorem Q49.spec {a0 : Int} {b1 : Nat} {r : Int × Int} (H : Q49.f a0 = some r) :
    Spec Try.prog 182 [.pointer (some ⟨b1, 0, none⟩)] [boxC b1 234 [.int .u64 a0]] [] (fun v l => v = .int .u64 r.1 ∧ l = [boxC b1 234 [.int .u64 r.2]]) := by
  refine Spec.enter Try.func182 rfl (by kernel_rfl) (by kernel_rfl) fun w0 F0 h0 => ?_
  unfold Q49.f at H
  refine J.seq (J.region ?_)
  refine RJ.run ttok 1 rfl ?_
  refine RJ.fin [(0, .pointer (some ⟨b1, 0, none⟩))] rfl ?_
  refine J.seq ?_
  refine J.midS (fun env w => env = [(0, .pointer (some ⟨b1, 0, none⟩))] ∧ St w0 F0 [boxC b1 234 [.int .u64 (IntKind.u64.wrap (((BitVec.ofInt IntKind.u64.bits a0 ^^^ (BitVec.ofInt IntKind.u64.bits (IntKind.u64.wrap (a0 * 2 ^ 13)))).toNat : Int)))]] [] w) ?_ ?_
  · refine J.heldSt mix (h0.only [] rfl) ?_
    have h2 := h0.drew
    refine HJ.run ttok rfl [0, 1, 3, 4] rfl ?_
    refine HJ.pick [2, 5] (i := 2) rfl rfl rfl rfl ?_
    refine (hscons ?_ (hscons ?_ hsnil))
    · refine HS.op (i := 2) rfl rfl rfl (OpT.ofq (q_load_box ttok 0 h2.wht rfl rfl rfl rfl rfl)) ?_
      rintro _ _ ⟨rfl, rfl⟩
      replace h2 : St w0 F0 [boxC b1 234 [.int .u64 a0]] _ _ := h2
      refine ⟨⟨[_], h2⟩, ?_⟩
      refine HJ.op (i := 5) rfl rfl rfl rfl rfl (OpT.ofq (q_load_box ttok 0 h2.wht rfl rfl rfl rfl rfl)) ?_
      rintro _ _ ⟨rfl, rfl⟩
      replace h2 : St w0 F0 [_] _ _ := h2
      refine ⟨⟨[_], h2⟩, ?_⟩
      refine HJ.run ttok rfl [6, 7, 8] rfl ?_
      refine HJ.op (i := 9) rfl rfl rfl rfl rfl (op_store ttok 0 rfl h2 rfl rfl rfl rfl rfl rfl rfl) ?_
      intro _ w6 h3
      replace h3 : St w0 F0 [boxC b1 234 [.int .u64 (IntKind.u64.wrap (((BitVec.ofInt IntKind.u64.bits a0 ^^^ (BitVec.ofInt IntKind.u64.bits (IntKind.u64.wrap (a0 * 2 ^ 13)))).toNat : Int)))]] _ _ := h3
      refine ⟨⟨[_], h3⟩, ?_⟩
      refine HJ.fin [(0, .pointer (some ⟨b1, 0, none⟩))] rfl rfl ?_
      exact thenP_intro ⟨rfl, ((h3.only [0] rfl).rds [] rfl)⟩
    · refine HS.op (i := 5) rfl rfl rfl (OpT.ofq (q_load_box ttok 0 h2.wht rfl rfl rfl rfl rfl)) ?_
      rintro _ _ ⟨rfl, rfl⟩
      replace h2 : St w0 F0 [boxC b1 234 [.int .u64 a0]] _ _ := h2
      refine ⟨⟨[_], h2⟩, ?_⟩
      refine HJ.run ttok rfl [6] rfl ?_
      refine HJ.op (i := 2) rfl rfl rfl rfl rfl (OpT.ofq (q_load_box ttok 0 h2.wht rfl rfl rfl rfl rfl)) ?_
      rintro _ _ ⟨rfl, rfl⟩
      replace h2 : St w0 F0 [_] _ _ := h2
      refine ⟨⟨[_], h2⟩, ?_⟩
      refine HJ.run ttok rfl [7, 8] rfl ?_
      refine HJ.op (i := 9) rfl rfl rfl rfl rfl (op_store ttok 0 rfl h2 rfl rfl rfl rfl rfl rfl rfl) ?_
      intro _ w9 h4
      replace h4 : St w0 F0 [boxC b1 234 [.int .u64 (IntKind.u64.wrap (((BitVec.ofInt IntKind.u64.bits a0 ^^^ (BitVec.ofInt IntKind.u64.bits (IntKind.u64.wrap (a0 * 2 ^ 13)))).toNat : Int)))]] _ _ := h4
      refine ⟨⟨[_], h4⟩, ?_⟩
      refine HJ.fin [(0, .pointer (some ⟨b1, 0, none⟩))] rfl rfl ?_
      exact thenP_intro ⟨rfl, ((h4.only [0] rfl).rds [] rfl)⟩
  rintro env w10 ⟨rfl, h5⟩
  refine J.seq ?_
  refine J.midS (fun env w => env = [(0, .pointer (some ⟨b1, 0, none⟩))] ∧ St w0 F0 [boxC b1 234 [.int .u64 (IntKind.u64.wrap (((BitVec.ofInt IntKind.u64.bits (IntKind.u64.wrap (((BitVec.ofInt IntKind.u64.bits a0 ^^^ (BitVec.ofInt IntKind.u64.bits (IntKind.u64.wrap (a0 * 2 ^ 13)))).toNat : Int))) ^^^ (BitVec.ofInt IntKind.u64.bits (Int.fdiv (IntKind.u64.wrap (((BitVec.ofInt IntKind.u64.bits a0 ^^^ (BitVec.ofInt IntKind.u64.bits (IntKind.u64.wrap (a0 * 2 ^ 13)))).toNat : Int))) (2 ^ 7)))).toNat : Int)))]] [] w) ?_ ?_
  · refine J.heldSt mix (h5.only [] rfl) ?_
    have h7 := h5.drew
    refine HJ.run ttok rfl [0, 1, 3, 4] rfl ?_
    refine HJ.pick [2, 5] (i := 2) rfl rfl rfl rfl ?_
    refine (hscons ?_ (hscons ?_ hsnil))
    · refine HS.op (i := 2) rfl rfl rfl (OpT.ofq (q_load_box ttok 0 h7.wht rfl rfl rfl rfl rfl)) ?_
      rintro _ _ ⟨rfl, rfl⟩
      replace h7 : St w0 F0 [boxC b1 234 [.int .u64 (IntKind.u64.wrap (((BitVec.ofInt IntKind.u64.bits a0 ^^^ (BitVec.ofInt IntKind.u64.bits (IntKind.u64.wrap (a0 * 2 ^ 13)))).toNat : Int)))]] _ _ := h7
      refine ⟨⟨[_], h7⟩, ?_⟩
      refine HJ.op (i := 5) rfl rfl rfl rfl rfl (OpT.ofq (q_load_box ttok 0 h7.wht rfl rfl rfl rfl rfl)) ?_
      rintro _ _ ⟨rfl, rfl⟩
      replace h7 : St w0 F0 [_] _ _ := h7
      refine ⟨⟨[_], h7⟩, ?_⟩
      refine HJ.run ttok rfl [6, 7, 8] rfl ?_
      refine HJ.op (i := 9) rfl rfl rfl rfl rfl (op_store ttok 0 rfl h7 rfl rfl rfl rfl rfl rfl rfl) ?_
      intro _ w16 h8
      replace h8 : St w0 F0 [boxC b1 234 [.int .u64 (IntKind.u64.wrap (((BitVec.ofInt IntKind.u64.bits (IntKind.u64.wrap (((BitVec.ofInt IntKind.u64.bits a0 ^^^ (BitVec.ofInt IntKind.u64.bits (IntKind.u64.wrap (a0 * 2 ^ 13)))).toNat : Int))) ^^^ (BitVec.ofInt IntKind.u64.bits (Int.fdiv (IntKind.u64.wrap (((BitVec.ofInt IntKind.u64.bits a0 ^^^ (BitVec.ofInt IntKind.u64.bits (IntKind.u64.wrap (a0 * 2 ^ 13)))).toNat : Int))) (2 ^ 7)))).toNat : Int)))]] _ _ := h8
      refine ⟨⟨[_], h8⟩, ?_⟩
      refine HJ.fin [(0, .pointer (some ⟨b1, 0, none⟩))] rfl rfl ?_
      exact thenP_intro ⟨rfl, ((h8.only [0] rfl).rds [] rfl)⟩
    · refine HS.op (i := 5) rfl rfl rfl (OpT.ofq (q_load_box ttok 0 h7.wht rfl rfl rfl rfl rfl)) ?_
      rintro _ _ ⟨rfl, rfl⟩
      replace h7 : St w0 F0 [boxC b1 234 [.int .u64 (IntKind.u64.wrap (((BitVec.ofInt IntKind.u64.bits a0 ^^^ (BitVec.ofInt IntKind.u64.bits (IntKind.u64.wrap (a0 * 2 ^ 13)))).toNat : Int)))]] _ _ := h7
      refine ⟨⟨[_], h7⟩, ?_⟩
      refine HJ.run ttok rfl [6] rfl ?_
      refine HJ.op (i := 2) rfl rfl rfl rfl rfl (OpT.ofq (q_load_box ttok 0 h7.wht rfl rfl rfl rfl rfl)) ?_
      rintro _ _ ⟨rfl, rfl⟩
      replace h7 : St w0 F0 [_] _ _ := h7
      refine ⟨⟨[_], h7⟩, ?_⟩
      refine HJ.run ttok rfl [7, 8] rfl ?_
      refine HJ.op (i := 9) rfl rfl rfl rfl rfl (op_store ttok 0 rfl h7 rfl rfl rfl rfl rfl rfl rfl) ?_
      intro _ w19 h9
      replace h9 : St w0 F0 [boxC b1 234 [.int .u64 (IntKind.u64.wrap (((BitVec.ofInt IntKind.u64.bits (IntKind.u64.wrap (((BitVec.ofInt IntKind.u64.bits a0 ^^^ (BitVec.ofInt IntKind.u64.bits (IntKind.u64.wrap (a0 * 2 ^ 13)))).toNat : Int))) ^^^ (BitVec.ofInt IntKind.u64.bits (Int.fdiv (IntKind.u64.wrap (((BitVec.ofInt IntKind.u64.bits a0 ^^^ (BitVec.ofInt IntKind.u64.bits (IntKind.u64.wrap (a0 * 2 ^ 13)))).toNat : Int))) (2 ^ 7)))).toNat : Int)))]] _ _ := h9
      refine ⟨⟨[_], h9⟩, ?_⟩
      refine HJ.fin [(0, .pointer (some ⟨b1, 0, none⟩))] rfl rfl ?_
      exact thenP_intro ⟨rfl, ((h9.only [0] rfl).rds [] rfl)⟩
  rintro env w20 ⟨rfl, h10⟩
  refine J.seq ?_
  refine J.midS (fun env w => env = [(0, .pointer (some ⟨b1, 0, none⟩))] ∧ St w0 F0 [boxC b1 234 [.int .u64 (IntKind.u64.wrap (((BitVec.ofInt IntKind.u64.bits (IntKind.u64.wrap (((BitVec.ofInt IntKind.u64.bits (IntKind.u64.wrap (((BitVec.ofInt IntKind.u64.bits a0 ^^^ (BitVec.ofInt IntKind.u64.bits (IntKind.u64.wrap (a0 * 2 ^ 13)))).toNat : Int))) ^^^ (BitVec.ofInt IntKind.u64.bits (Int.fdiv (IntKind.u64.wrap (((BitVec.ofInt IntKind.u64.bits a0 ^^^ (BitVec.ofInt IntKind.u64.bits (IntKind.u64.wrap (a0 * 2 ^ 13)))).toNat : Int))) (2 ^ 7)))).toNat : Int))) ^^^ (BitVec.ofInt IntKind.u64.bits (IntKind.u64.wrap ((IntKind.u64.wrap (((BitVec.ofInt IntKind.u64.bits (IntKind.u64.wrap (((BitVec.ofInt IntKind.u64.bits a0 ^^^ (BitVec.ofInt IntKind.u64.bits (IntKind.u64.wrap (a0 * 2 ^ 13)))).toNat : Int))) ^^^ (BitVec.ofInt IntKind.u64.bits (Int.fdiv (IntKind.u64.wrap (((BitVec.ofInt IntKind.u64.bits a0 ^^^ (BitVec.ofInt IntKind.u64.bits (IntKind.u64.wrap (a0 * 2 ^ 13)))).toNat : Int))) (2 ^ 7)))).toNat : Int))) * 2 ^ 17)))).toNat : Int)))]] [] w) ?_ ?_
  · refine J.heldSt mix (h10.only [] rfl) ?_
    have h12 := h10.drew
    refine HJ.run ttok rfl [0, 1, 3, 4] rfl ?_
    refine HJ.pick [2, 5] (i := 2) rfl rfl rfl rfl ?_
    refine (hscons ?_ (hscons ?_ hsnil))
    · refine HS.op (i := 2) rfl rfl rfl (OpT.ofq (q_load_box ttok 0 h12.wht rfl rfl rfl rfl rfl)) ?_
      rintro _ _ ⟨rfl, rfl⟩
      replace h12 : St w0 F0 [boxC b1 234 [.int .u64 (IntKind.u64.wrap (((BitVec.ofInt IntKind.u64.bits (IntKind.u64.wrap (((BitVec.ofInt IntKind.u64.bits a0 ^^^ (BitVec.ofInt IntKind.u64.bits (IntKind.u64.wrap (a0 * 2 ^ 13)))).toNat : Int))) ^^^ (BitVec.ofInt IntKind.u64.bits (Int.fdiv (IntKind.u64.wrap (((BitVec.ofInt IntKind.u64.bits a0 ^^^ (BitVec.ofInt IntKind.u64.bits (IntKind.u64.wrap (a0 * 2 ^ 13)))).toNat : Int))) (2 ^ 7)))).toNat : Int)))]] _ _ := h12
      refine ⟨⟨[_], h12⟩, ?_⟩
      refine HJ.op (i := 5) rfl rfl rfl rfl rfl (OpT.ofq (q_load_box ttok 0 h12.wht rfl rfl rfl rfl rfl)) ?_
      rintro _ _ ⟨rfl, rfl⟩
      replace h12 : St w0 F0 [_] _ _ := h12
      refine ⟨⟨[_], h12⟩, ?_⟩
      refine HJ.run ttok rfl [6, 7, 8] rfl ?_
      refine HJ.op (i := 9) rfl rfl rfl rfl rfl (op_store ttok 0 rfl h12 rfl rfl rfl rfl rfl rfl rfl) ?_
      intro _ w26 h13
      replace h13 : St w0 F0 [boxC b1 234 [.int .u64 (IntKind.u64.wrap (((BitVec.ofInt IntKind.u64.bits (IntKind.u64.wrap (((BitVec.ofInt IntKind.u64.bits (IntKind.u64.wrap (((BitVec.ofInt IntKind.u64.bits a0 ^^^ (BitVec.ofInt IntKind.u64.bits (IntKind.u64.wrap (a0 * 2 ^ 13)))).toNat : Int))) ^^^ (BitVec.ofInt IntKind.u64.bits (Int.fdiv (IntKind.u64.wrap (((BitVec.ofInt IntKind.u64.bits a0 ^^^ (BitVec.ofInt IntKind.u64.bits (IntKind.u64.wrap (a0 * 2 ^ 13)))).toNat : Int))) (2 ^ 7)))).toNat : Int))) ^^^ (BitVec.ofInt IntKind.u64.bits (IntKind.u64.wrap ((IntKind.u64.wrap (((BitVec.ofInt IntKind.u64.bits (IntKind.u64.wrap (((BitVec.ofInt IntKind.u64.bits a0 ^^^ (BitVec.ofInt IntKind.u64.bits (IntKind.u64.wrap (a0 * 2 ^ 13)))).toNat : Int))) ^^^ (BitVec.ofInt IntKind.u64.bits (Int.fdiv (IntKind.u64.wrap (((BitVec.ofInt IntKind.u64.bits a0 ^^^ (BitVec.ofInt IntKind.u64.bits (IntKind.u64.wrap (a0 * 2 ^ 13)))).toNat : Int))) (2 ^ 7)))).toNat : Int))) * 2 ^ 17)))).toNat : Int)))]] _ _ := h13
      refine ⟨⟨[_], h13⟩, ?_⟩
      refine HJ.fin [(0, .pointer (some ⟨b1, 0, none⟩))] rfl rfl ?_
      exact thenP_intro ⟨rfl, ((h13.only [0] rfl).rds [] rfl)⟩
    · refine HS.op (i := 5) rfl rfl rfl (OpT.ofq (q_load_box ttok 0 h12.wht rfl rfl rfl rfl rfl)) ?_
      rintro _ _ ⟨rfl, rfl⟩
      replace h12 : St w0 F0 [boxC b1 234 [.int .u64 (IntKind.u64.wrap (((BitVec.ofInt IntKind.u64.bits (IntKind.u64.wrap (((BitVec.ofInt IntKind.u64.bits a0 ^^^ (BitVec.ofInt IntKind.u64.bits (IntKind.u64.wrap (a0 * 2 ^ 13)))).toNat : Int))) ^^^ (BitVec.ofInt IntKind.u64.bits (Int.fdiv (IntKind.u64.wrap (((BitVec.ofInt IntKind.u64.bits a0 ^^^ (BitVec.ofInt IntKind.u64.bits (IntKind.u64.wrap (a0 * 2 ^ 13)))).toNat : Int))) (2 ^ 7)))).toNat : Int)))]] _ _ := h12
      refine ⟨⟨[_], h12⟩, ?_⟩
      refine HJ.run ttok rfl [6] rfl ?_
      refine HJ.op (i := 2) rfl rfl rfl rfl rfl (OpT.ofq (q_load_box ttok 0 h12.wht rfl rfl rfl rfl rfl)) ?_
      rintro _ _ ⟨rfl, rfl⟩
      replace h12 : St w0 F0 [_] _ _ := h12
      refine ⟨⟨[_], h12⟩, ?_⟩
      refine HJ.run ttok rfl [7, 8] rfl ?_
      refine HJ.op (i := 9) rfl rfl rfl rfl rfl (op_store ttok 0 rfl h12 rfl rfl rfl rfl rfl rfl rfl) ?_
      intro _ w29 h14
      replace h14 : St w0 F0 [boxC b1 234 [.int .u64 (IntKind.u64.wrap (((BitVec.ofInt IntKind.u64.bits (IntKind.u64.wrap (((BitVec.ofInt IntKind.u64.bits (IntKind.u64.wrap (((BitVec.ofInt IntKind.u64.bits a0 ^^^ (BitVec.ofInt IntKind.u64.bits (IntKind.u64.wrap (a0 * 2 ^ 13)))).toNat : Int))) ^^^ (BitVec.ofInt IntKind.u64.bits (Int.fdiv (IntKind.u64.wrap (((BitVec.ofInt IntKind.u64.bits a0 ^^^ (BitVec.ofInt IntKind.u64.bits (IntKind.u64.wrap (a0 * 2 ^ 13)))).toNat : Int))) (2 ^ 7)))).toNat : Int))) ^^^ (BitVec.ofInt IntKind.u64.bits (IntKind.u64.wrap ((IntKind.u64.wrap (((BitVec.ofInt IntKind.u64.bits (IntKind.u64.wrap (((BitVec.ofInt IntKind.u64.bits a0 ^^^ (BitVec.ofInt IntKind.u64.bits (IntKind.u64.wrap (a0 * 2 ^ 13)))).toNat : Int))) ^^^ (BitVec.ofInt IntKind.u64.bits (Int.fdiv (IntKind.u64.wrap (((BitVec.ofInt IntKind.u64.bits a0 ^^^ (BitVec.ofInt IntKind.u64.bits (IntKind.u64.wrap (a0 * 2 ^ 13)))).toNat : Int))) (2 ^ 7)))).toNat : Int))) * 2 ^ 17)))).toNat : Int)))]] _ _ := h14
      refine ⟨⟨[_], h14⟩, ?_⟩
      refine HJ.fin [(0, .pointer (some ⟨b1, 0, none⟩))] rfl rfl ?_
      exact thenP_intro ⟨rfl, ((h14.only [0] rfl).rds [] rfl)⟩
  rintro env w30 ⟨rfl, h15⟩
  refine J.seq (J.region ?_)
  refine RJ.run ttok 2 rfl ?_
  refine RJ.q rfl rfl (q_load_box ttok 0 h15.wht rfl rfl rfl rfl rfl) ?_
  refine RJ.run ttok 1 rfl ?_
  refine RJ.fin [(2, .int .u64 (IntKind.u64.wrap (((BitVec.ofInt IntKind.u64.bits (IntKind.u64.wrap (((BitVec.ofInt IntKind.u64.bits (IntKind.u64.wrap (((BitVec.ofInt IntKind.u64.bits a0 ^^^ (BitVec.ofInt IntKind.u64.bits (IntKind.u64.wrap (a0 * 2 ^ 13)))).toNat : Int))) ^^^ (BitVec.ofInt IntKind.u64.bits (Int.fdiv (IntKind.u64.wrap (((BitVec.ofInt IntKind.u64.bits a0 ^^^ (BitVec.ofInt IntKind.u64.bits (IntKind.u64.wrap (a0 * 2 ^ 13)))).toNat : Int))) (2 ^ 7)))).toNat : Int))) ^^^ (BitVec.ofInt IntKind.u64.bits (IntKind.u64.wrap ((IntKind.u64.wrap (((BitVec.ofInt IntKind.u64.bits (IntKind.u64.wrap (((BitVec.ofInt IntKind.u64.bits a0 ^^^ (BitVec.ofInt IntKind.u64.bits (IntKind.u64.wrap (a0 * 2 ^ 13)))).toNat : Int))) ^^^ (BitVec.ofInt IntKind.u64.bits (Int.fdiv (IntKind.u64.wrap (((BitVec.ofInt IntKind.u64.bits a0 ^^^ (BitVec.ofInt IntKind.u64.bits (IntKind.u64.wrap (a0 * 2 ^ 13)))).toNat : Int))) (2 ^ 7)))).toNat : Int))) * 2 ^ 17)))).toNat : Int))))] rfl ?_
  refine J.ret ?_
  obtain rfl := Option.some.inj H
  exact ⟨_, _, _, (results_slots rfl), ⟨rfl, rfl⟩, h15.only [0] rfl⟩

def Q35.l0 : Nat → (Int) → (Int) → (Int) → (List (Int)) → (Int) → (Int) → Option (List (Int))
  | 0, _, _, _, _, _, _ => none
  | k + 1, a1, a2, r1, x1, x2, x3 => if (decide (x3 ≤ (w64 ((w64 (a1 + (w64 ((w64 (Int.tdiv (w64 (a2 - a1)) 4)) * 2)))) + 1)))) = true then ((Q49.f x2).bind fun r2 => (if (decide ((w64 (a2 - a1)) ≤ (w64 ((IntKind.u64.wrap (((BitVec.ofInt IntKind.u64.bits r2.1 &&& (BitVec.ofInt IntKind.u64.bits (IntKind.u64.wrap (r1 - 1)))).toNat : Int))))))) = true then (if 0 ≤ (w64 (a1 + (w64 ((w64 ((IntKind.u64.wrap (((BitVec.ofInt IntKind.u64.bits r2.1 &&& (BitVec.ofInt IntKind.u64.bits (IntKind.u64.wrap (r1 - 1)))).toNat : Int))))) - (w64 (a2 - a1)))))) ∧ (w64 (a1 + (w64 ((w64 ((IntKind.u64.wrap (((BitVec.ofInt IntKind.u64.bits r2.1 &&& (BitVec.ofInt IntKind.u64.bits (IntKind.u64.wrap (r1 - 1)))).toNat : Int))))) - (w64 (a2 - a1)))))) < (x1.length : Int) then (if 0 ≤ x3 ∧ x3 < (x1.length : Int) then (Q35.l0 k a1 a2 r1 ((x1.set x3.toNat (gt x1 (w64 (a1 + (w64 ((w64 ((IntKind.u64.wrap (((BitVec.ofInt IntKind.u64.bits r2.1 &&& (BitVec.ofInt IntKind.u64.bits (IntKind.u64.wrap (r1 - 1)))).toNat : Int))))) - (w64 (a2 - a1)))))))).set (w64 (a1 + (w64 ((w64 ((IntKind.u64.wrap (((BitVec.ofInt IntKind.u64.bits r2.1 &&& (BitVec.ofInt IntKind.u64.bits (IntKind.u64.wrap (r1 - 1)))).toNat : Int))))) - (w64 (a2 - a1)))))).toNat (gt x1 x3)) r2.2 (w64 (x3 + 1))) else none) else none) else (if 0 ≤ (w64 (a1 + (w64 ((IntKind.u64.wrap (((BitVec.ofInt IntKind.u64.bits r2.1 &&& (BitVec.ofInt IntKind.u64.bits (IntKind.u64.wrap (r1 - 1)))).toNat : Int))))))) ∧ (w64 (a1 + (w64 ((IntKind.u64.wrap (((BitVec.ofInt IntKind.u64.bits r2.1 &&& (BitVec.ofInt IntKind.u64.bits (IntKind.u64.wrap (r1 - 1)))).toNat : Int))))))) < (x1.length : Int) then (if 0 ≤ x3 ∧ x3 < (x1.length : Int) then (Q35.l0 k a1 a2 r1 ((x1.set x3.toNat (gt x1 (w64 (a1 + (w64 ((IntKind.u64.wrap (((BitVec.ofInt IntKind.u64.bits r2.1 &&& (BitVec.ofInt IntKind.u64.bits (IntKind.u64.wrap (r1 - 1)))).toNat : Int))))))))).set (w64 (a1 + (w64 ((IntKind.u64.wrap (((BitVec.ofInt IntKind.u64.bits r2.1 &&& (BitVec.ofInt IntKind.u64.bits (IntKind.u64.wrap (r1 - 1)))).toNat : Int))))))).toNat (gt x1 x3)) r2.2 (w64 (x3 + 1))) else none) else none))) else (some x1)
def Q35.f (k : Nat) (a0 : List (Int)) (a1 : Int) (a2 : Int) : Option (List (Int)) := if (decide (8 ≤ (w64 (a2 - a1)))) = true then ((Q41.f (w64 (a2 - a1))).bind fun r1 => (Q35.l0 k a1 a2 r1 a0 (IntKind.u64.wrap ((w64 (a2 - a1)))) (w64 ((w64 (a1 + (w64 ((w64 (Int.tdiv (w64 (a2 - a1)) 4)) * 2)))) - 1)))) else (some a0)
theorem Q35.spec {k : Nat} {a0 : List (Int)} {a1 : Int} {a2 : Int} {A1 : Option Addr} {c_1 : Nat} {r : List (Int)} (H : Q35.f k a0 a1 a2 = some r) :
    Spec Try.prog 170 [.slice A1 a0.length c_1, .int .i64 a1, .int .i64 a2] [ownC 23 (.int .u32) a0 (.slice A1 a0.length c_1)] [] (fun v l => v = .tuple #[] ∧ l = [ownC 23 (.int .u32) r (.slice A1 r.length c_1)] ∧ r.length = a0.length) := by
  refine Spec.enter Try.func170 rfl (by kernel_rfl) (by kernel_rfl) fun w0 F0 h0 => ?_
  unfold Q35.f at H
  refine J.seq (J.region ?_)
  refine RJ.run ttok 4 rfl ?_
  refine RJ.fin [(0, .slice A1 a0.length c_1), (1, .int .i64 a1), (6, .int .i64 (w64 (a2 - a1)))] rfl ?_
  refine J.seq (J.region ?_)
  refine RJ.run ttok 2 rfl ?_
  refine RJ.fin [(0, _), (1, _), (6, _), (15, .bool (decide (8 ≤ (w64 (a2 - a1)))))] rfl ?_
  refine J.cond rfl (fun c1 => ?_) (fun c1 => ?_)
  · replace H := ite_t c1 H
    refine J.seq (J.region ?_)
    refine RJ.run ttok 2 rfl ?_
    refine RJ.op rfl rfl (op_alloc ttok rfl rfl h0) ?_
    rintro _ w1 ⟨b1, rfl, h1⟩
    replace h1 : St w0 F0 [boxC b1 234 [.int .u64 0], ownC 23 (.int .u32) a0 (.slice A1 a0.length c_1)] _ _ := h1
    refine RJ.op rfl rfl (op_store ttok 0 rfl h1 rfl rfl rfl rfl rfl rfl rfl) ?_
    intro _ w2 h2
    replace h2 : St w0 F0 [boxC b1 234 [.int .u64 (IntKind.u64.wrap ((w64 (a2 - a1))))], _] _ _ := h2
    refine RJ.fin [(0, _), (1, _), (6, _), (7, .pointer (some ⟨b1, 0, none⟩))] rfl ?_
    refine J.seq (J.region ?_)
    refine RJ.run ttok 1 rfl ?_
    obtain ⟨r1, q1, H⟩ := bind_t H
    refine RJ.op rfl rfl (op_call [] (Q41.spec q1) rfl rfl rfl h2 rfl gnil) ?_
    rintro _ w3 ⟨_, ⟨rfl, rfl⟩, h3⟩
    replace h3 : St w0 F0 [_, _] _ _ := h3
    refine RJ.run ttok 1 rfl ?_
    refine RJ.fin [(0, _), (1, _), (6, _), (7, _), (8, .int .u64 r1)] rfl ?_
    refine J.seq (J.region ?_)
    refine RJ.run ttok 7 rfl ?_
    refine RJ.fin [(0, _), (1, _), (6, _), (7, _), (8, _), (9, .int .i64 (w64 ((w64 (a1 + (w64 ((w64 (Int.tdiv (w64 (a2 - a1)) 4)) * 2)))) - 1)))] rfl ?_
    refine J.block ?_
    have h24 := ((h3.only [0, 0] rfl).rds [] rfl)
    refine J.loop (fun kk env w => ∃ (x1 : List (Int)) (x2 : Int) (x3 : Int), env = [(0, .slice A1 x1.length c_1), (1, .int .i64 a1), (6, .int .i64 (w64 (a2 - a1))), (7, .pointer (some ⟨b1, 0, none⟩)), (8, .int .u64 r1), (9, .int .i64 x3)] ∧ St w0 F0 [boxC b1 234 [.int .u64 x2], ownC 23 (.int .u32) x1 (.slice A1 x1.length c_1)] [] w ∧ Q35.l0 kk a1 a2 r1 x1 x2 x3 = some r ∧ x1.length = a0.length) (k := k) ⟨a0, (IntKind.u64.wrap ((w64 (a2 - a1)))), (w64 ((w64 (a1 + (w64 ((w64 (Int.tdiv (w64 (a2 - a1)) 4)) * 2)))) - 1)), rfl, h24, H, (rfl : a0.length = a0.length)⟩ ?_
    rintro k1 env w4 ⟨x1, x2, x3, rfl, h4, H, e1⟩
    cases k1 with
    | zero => exact nomatch (show none = some r from H)
    | succ k1 =>
      rw [Q35.l0] at H
      refine J.seq (J.seq (J.region ?_))
      refine RJ.run ttok 8 rfl ?_
      refine RJ.fin [(0, _), (1, _), (6, _), (7, _), (8, _), (9, _), (33, .bool (decide (x3 ≤ (w64 ((w64 (a1 + (w64 ((w64 (Int.tdiv (w64 (a2 - a1)) 4)) * 2)))) + 1)))))] rfl ?_
      refine J.cond rfl (fun c2 => ?_) (fun c2 => ?_)
      · replace H := ite_t c2 H
        refine J.skip ?_
        refine J.seq (J.block (J.seq (J.region ?_)))
        obtain ⟨r2, q2, H⟩ := bind_t H
        refine RJ.op rfl rfl (op_call [0] (Q49.spec q2) rfl rfl rfl h4 rfl gnil) ?_
        rintro _ w5 ⟨_, ⟨rfl, rfl⟩, h5⟩
        replace h5 : St w0 F0 [boxC b1 234 [.int .u64 r2.2], _] _ _ := h5
        refine RJ.run ttok 5 rfl ?_
        refine RJ.fin [(0, _), (1, _), (6, _), (7, _), (8, _), (9, _), (10, .int .i64 (w64 ((IntKind.u64.wrap (((BitVec.ofInt IntKind.u64.bits r2.1 &&& (BitVec.ofInt IntKind.u64.bits (IntKind.u64.wrap (r1 - 1)))).toNat : Int))))))] rfl ?_
        refine J.seq (J.seq (J.region ?_))
        refine RJ.run ttok 3 rfl ?_
        refine RJ.fin [(0, _), (1, _), (6, _), (7, _), (8, _), (9, _), (10, _), (43, .bool (decide ((w64 (a2 - a1)) ≤ (w64 ((IntKind.u64.wrap (((BitVec.ofInt IntKind.u64.bits r2.1 &&& (BitVec.ofInt IntKind.u64.bits (IntKind.u64.wrap (r1 - 1)))).toNat : Int))))))))] rfl ?_
        refine J.cond rfl (fun c3 => ?_) (fun c3 => ?_)
        · replace H := ite_t c3 H
          refine J.region ?_
          refine RJ.run ttok 4 rfl ?_
          refine RJ.fin [(0, _), (1, _), (6, _), (7, _), (8, _), (9, _), (10, .int .i64 (w64 ((w64 ((IntKind.u64.wrap (((BitVec.ofInt IntKind.u64.bits r2.1 &&& (BitVec.ofInt IntKind.u64.bits (IntKind.u64.wrap (r1 - 1)))).toNat : Int))))) - (w64 (a2 - a1)))))] rfl ?_
          obtain ⟨⟨p1, p2⟩, H⟩ := guard_t H
          obtain ⟨⟨p3, p4⟩, H⟩ := guard_t H
          refine J.mid (fun env w => env = [(0, .slice A1 ((x1.set x3.toNat (gt x1 (w64 (a1 + (w64 ((w64 ((IntKind.u64.wrap (((BitVec.ofInt IntKind.u64.bits r2.1 &&& (BitVec.ofInt IntKind.u64.bits (IntKind.u64.wrap (r1 - 1)))).toNat : Int))))) - (w64 (a2 - a1)))))))).set (w64 (a1 + (w64 ((w64 ((IntKind.u64.wrap (((BitVec.ofInt IntKind.u64.bits r2.1 &&& (BitVec.ofInt IntKind.u64.bits (IntKind.u64.wrap (r1 - 1)))).toNat : Int))))) - (w64 (a2 - a1)))))).toNat (gt x1 x3)).length c_1), (1, .int .i64 a1), (6, .int .i64 (w64 (a2 - a1))), (7, .pointer (some ⟨b1, 0, none⟩)), (8, .int .u64 r1), (9, .int .i64 x3)] ∧ St w0 F0 [ownC 23 (.int .u32) ((x1.set x3.toNat (gt x1 (w64 (a1 + (w64 ((w64 ((IntKind.u64.wrap (((BitVec.ofInt IntKind.u64.bits r2.1 &&& (BitVec.ofInt IntKind.u64.bits (IntKind.u64.wrap (r1 - 1)))).toNat : Int))))) - (w64 (a2 - a1)))))))).set (w64 (a1 + (w64 ((w64 ((IntKind.u64.wrap (((BitVec.ofInt IntKind.u64.bits r2.1 &&& (BitVec.ofInt IntKind.u64.bits (IntKind.u64.wrap (r1 - 1)))).toNat : Int))))) - (w64 (a2 - a1)))))).toNat (gt x1 x3)) (.slice A1 ((x1.set x3.toNat (gt x1 (w64 (a1 + (w64 ((w64 ((IntKind.u64.wrap (((BitVec.ofInt IntKind.u64.bits r2.1 &&& (BitVec.ofInt IntKind.u64.bits (IntKind.u64.wrap (r1 - 1)))).toNat : Int))))) - (w64 (a2 - a1)))))))).set (w64 (a1 + (w64 ((w64 ((IntKind.u64.wrap (((BitVec.ofInt IntKind.u64.bits r2.1 &&& (BitVec.ofInt IntKind.u64.bits (IntKind.u64.wrap (r1 - 1)))).toNat : Int))))) - (w64 (a2 - a1)))))).toNat (gt x1 x3)).length c_1), boxC b1 234 [.int .u64 r2.2]] [] w) ?_ ?_
          · refine J.heldSt mix (h5.only [0] rfl) ?_
            have h8 := h5.drew
            refine HJ.run ttok rfl [0, 1, 2, 3, 4, 5, 6, 7, 8, 9, 12, 13] rfl ?_
            have e5 := elem_A h8.wh (Gives.of 1 rfl own_rd) p1 p2
            refine HJ.q (i := 10) rfl rfl rfl rfl rfl rfl (q_index ttok rfl rfl rfl rfl rfl e5 p1 p2) ?_
            refine HJ.q (i := 14) rfl rfl rfl rfl rfl rfl (q_index ttok rfl rfl rfl rfl rfl e5 p3 p4) ?_
            refine HJ.pick [11, 15] (i := 11) rfl rfl rfl rfl ?_
            refine (hscons ?_ (hscons ?_ hsnil))
            · refine HS.op (i := 11) rfl rfl rfl (OpT.ofq (q_load_elem (f := 0) ttok rfl h8.wht (Gives.of 1 rfl own_rd) p1 p2 rfl rfl rfl rfl rfl)) ?_
              rintro _ _ ⟨rfl, rfl⟩
              replace h8 : St w0 F0 [_, _] _ _ := h8
              refine ⟨⟨[_], (h8.only [1, 0] rfl)⟩, ?_⟩
              refine HJ.op (i := 15) rfl rfl rfl rfl rfl (OpT.ofq (q_load_elem (f := 0) ttok rfl h8.wht (Gives.of 1 rfl own_rd) p3 p4 rfl rfl rfl rfl rfl)) ?_
              rintro _ _ ⟨rfl, rfl⟩
              replace h8 : St w0 F0 [_, _] _ _ := h8
              refine ⟨⟨[_], (h8.only [1, 0] rfl)⟩, ?_⟩
              refine HJ.q (i := 16) rfl rfl rfl rfl rfl rfl (q_index ttok rfl rfl rfl rfl rfl e5 p3 p4) ?_
              refine HJ.op (i := 17) rfl rfl rfl rfl rfl (op_store_elem (ty := (.int .u32)) (f := 0) (ix := x3) ttok rfl (gt x1 (w64 (a1 + (w64 ((w64 ((IntKind.u64.wrap (((BitVec.ofInt IntKind.u64.bits r2.1 &&& (BitVec.ofInt IntKind.u64.bits (IntKind.u64.wrap (r1 - 1)))).toNat : Int))))) - (w64 (a2 - a1))))))) 1 rfl h8 rfl rfl p3 p4 rfl rfl rfl rfl rfl rfl rfl) ?_
              intro _ w8 h9
              replace h9 : St w0 F0 [ownC 23 (.int .u32) (x1.set x3.toNat (gt x1 (w64 (a1 + (w64 ((w64 ((IntKind.u64.wrap (((BitVec.ofInt IntKind.u64.bits r2.1 &&& (BitVec.ofInt IntKind.u64.bits (IntKind.u64.wrap (r1 - 1)))).toNat : Int))))) - (w64 (a2 - a1)))))))) (.slice A1 (x1.set x3.toNat (gt x1 (w64 (a1 + (w64 ((w64 ((IntKind.u64.wrap (((BitVec.ofInt IntKind.u64.bits r2.1 &&& (BitVec.ofInt IntKind.u64.bits (IntKind.u64.wrap (r1 - 1)))).toNat : Int))))) - (w64 (a2 - a1)))))))).length c_1), _] _ _ := h9
              refine ⟨⟨[_], h9⟩, ?_⟩
              have e6 : (x1.set x3.toNat (gt x1 (w64 (a1 + (w64 ((w64 ((IntKind.u64.wrap (((BitVec.ofInt IntKind.u64.bits r2.1 &&& (BitVec.ofInt IntKind.u64.bits (IntKind.u64.wrap (r1 - 1)))).toNat : Int))))) - (w64 (a2 - a1)))))))).length = a0.length := List.length_set.trans e1
              refine HJ.q (i := 18) rfl rfl rfl rfl rfl rfl (q_index ttok rfl rfl rfl rfl rfl e5 p1 p2) ?_
              refine HJ.op (i := 19) rfl rfl rfl rfl rfl (op_store_elem (ty := (.int .u32)) (f := 0) (ix := (w64 (a1 + (w64 ((w64 ((IntKind.u64.wrap (((BitVec.ofInt IntKind.u64.bits r2.1 &&& (BitVec.ofInt IntKind.u64.bits (IntKind.u64.wrap (r1 - 1)))).toNat : Int))))) - (w64 (a2 - a1))))))) ttok rfl (gt x1 x3) 0 rfl h9 rfl rfl p1 (by simpa only [List.length_set] using p2) rfl rfl rfl rfl rfl rfl rfl) ?_
              intro _ w9 h10
              replace h10 : St w0 F0 [ownC 23 (.int .u32) ((x1.set x3.toNat (gt x1 (w64 (a1 + (w64 ((w64 ((IntKind.u64.wrap (((BitVec.ofInt IntKind.u64.bits r2.1 &&& (BitVec.ofInt IntKind.u64.bits (IntKind.u64.wrap (r1 - 1)))).toNat : Int))))) - (w64 (a2 - a1)))))))).set (w64 (a1 + (w64 ((w64 ((IntKind.u64.wrap (((BitVec.ofInt IntKind.u64.bits r2.1 &&& (BitVec.ofInt IntKind.u64.bits (IntKind.u64.wrap (r1 - 1)))).toNat : Int))))) - (w64 (a2 - a1)))))).toNat (gt x1 x3)) (.slice A1 ((x1.set x3.toNat (gt x1 (w64 (a1 + (w64 ((w64 ((IntKind.u64.wrap (((BitVec.ofInt IntKind.u64.bits r2.1 &&& (BitVec.ofInt IntKind.u64.bits (IntKind.u64.wrap (r1 - 1)))).toNat : Int))))) - (w64 (a2 - a1)))))))).set (w64 (a1 + (w64 ((w64 ((IntKind.u64.wrap (((BitVec.ofInt IntKind.u64.bits r2.1 &&& (BitVec.ofInt IntKind.u64.bits (IntKind.u64.wrap (r1 - 1)))).toNat : Int))))) - (w64 (a2 - a1)))))).toNat (gt x1 x3)).length c_1), _] _ _ := h10
              refine ⟨⟨[_], h10⟩, ?_⟩
              have e7 : ((x1.set x3.toNat (gt x1 (w64 (a1 + (w64 ((w64 ((IntKind.u64.wrap (((BitVec.ofInt IntKind.u64.bits r2.1 &&& (BitVec.ofInt IntKind.u64.bits (IntKind.u64.wrap (r1 - 1)))).toNat : Int))))) - (w64 (a2 - a1)))))))).set (w64 (a1 + (w64 ((w64 ((IntKind.u64.wrap (((BitVec.ofInt IntKind.u64.bits r2.1 &&& (BitVec.ofInt IntKind.u64.bits (IntKind.u64.wrap (r1 - 1)))).toNat : Int))))) - (w64 (a2 - a1)))))).toNat (gt x1 x3)).length = a0.length := List.length_set.trans e6
              refine HJ.fin [(0, .slice A1 x1.length c_1), (1, .int .i64 a1), (6, .int .i64 (w64 (a2 - a1))), (7, .pointer (some ⟨b1, 0, none⟩)), (8, .int .u64 r1), (9, .int .i64 x3)] rfl rfl ?_
              exact thenP_intro ⟨(by simp only [List.length_set]), ((h10.only [0, 0] rfl).rds [] rfl)⟩
            · refine HS.op (i := 15) rfl rfl rfl (OpT.ofq (q_load_elem (f := 0) ttok rfl h8.wht (Gives.of 1 rfl own_rd) p3 p4 rfl rfl rfl rfl rfl)) ?_
              rintro _ _ ⟨rfl, rfl⟩
              replace h8 : St w0 F0 [_, _] _ _ := h8
              refine ⟨⟨[_], (h8.only [1, 0] rfl)⟩, ?_⟩
              refine HJ.op (i := 11) rfl rfl rfl rfl rfl (OpT.ofq (q_load_elem (f := 0) ttok rfl h8.wht (Gives.of 1 rfl own_rd) p1 p2 rfl rfl rfl rfl rfl)) ?_
              rintro _ _ ⟨rfl, rfl⟩
              replace h8 : St w0 F0 [_, _] _ _ := h8
              refine ⟨⟨[_], (h8.only [1, 0] rfl)⟩, ?_⟩
              refine HJ.q (i := 16) rfl rfl rfl rfl rfl rfl (q_index ttok rfl rfl rfl rfl rfl e5 p3 p4) ?_
              refine HJ.op (i := 17) rfl rfl rfl rfl rfl (op_store_elem (ty := (.int .u32)) (f := 0) (ix := x3) ttok rfl (gt x1 (w64 (a1 + (w64 ((w64 ((IntKind.u64.wrap (((BitVec.ofInt IntKind.u64.bits r2.1 &&& (BitVec.ofInt IntKind.u64.bits (IntKind.u64.wrap (r1 - 1)))).toNat : Int))))) - (w64 (a2 - a1))))))) 1 rfl h8 rfl rfl p3 p4 rfl rfl rfl rfl rfl rfl rfl) ?_
              intro _ w10 h11
              replace h11 : St w0 F0 [ownC 23 (.int .u32) (x1.set x3.toNat (gt x1 (w64 (a1 + (w64 ((w64 ((IntKind.u64.wrap (((BitVec.ofInt IntKind.u64.bits r2.1 &&& (BitVec.ofInt IntKind.u64.bits (IntKind.u64.wrap (r1 - 1)))).toNat : Int))))) - (w64 (a2 - a1)))))))) (.slice A1 (x1.set x3.toNat (gt x1 (w64 (a1 + (w64 ((w64 ((IntKind.u64.wrap (((BitVec.ofInt IntKind.u64.bits r2.1 &&& (BitVec.ofInt IntKind.u64.bits (IntKind.u64.wrap (r1 - 1)))).toNat : Int))))) - (w64 (a2 - a1)))))))).length c_1), _] _ _ := h11
              refine ⟨⟨[_], h11⟩, ?_⟩
              have e8 : (x1.set x3.toNat (gt x1 (w64 (a1 + (w64 ((w64 ((IntKind.u64.wrap (((BitVec.ofInt IntKind.u64.bits r2.1 &&& (BitVec.ofInt IntKind.u64.bits (IntKind.u64.wrap (r1 - 1)))).toNat : Int))))) - (w64 (a2 - a1)))))))).length = a0.length := List.length_set.trans e1
              refine HJ.q (i := 18) rfl rfl rfl rfl rfl rfl (q_index ttok rfl rfl rfl rfl rfl e5 p1 p2) ?_
              refine HJ.op (i := 19) rfl rfl rfl rfl rfl (op_store_elem (ty := (.int .u32)) (f := 0) (ix := (w64 (a1 + (w64 ((w64 ((IntKind.u64.wrap (((BitVec.ofInt IntKind.u64.bits r2.1 &&& (BitVec.ofInt IntKind.u64.bits (IntKind.u64.wrap (r1 - 1)))).toNat : Int))))) - (w64 (a2 - a1))))))) ttok rfl (gt x1 x3) 0 rfl h11 rfl rfl p1 (by simpa only [List.length_set] using p2) rfl rfl rfl rfl rfl rfl rfl) ?_
              intro _ w11 h12
              replace h12 : St w0 F0 [ownC 23 (.int .u32) ((x1.set x3.toNat (gt x1 (w64 (a1 + (w64 ((w64 ((IntKind.u64.wrap (((BitVec.ofInt IntKind.u64.bits r2.1 &&& (BitVec.ofInt IntKind.u64.bits (IntKind.u64.wrap (r1 - 1)))).toNat : Int))))) - (w64 (a2 - a1)))))))).set (w64 (a1 + (w64 ((w64 ((IntKind.u64.wrap (((BitVec.ofInt IntKind.u64.bits r2.1 &&& (BitVec.ofInt IntKind.u64.bits (IntKind.u64.wrap (r1 - 1)))).toNat : Int))))) - (w64 (a2 - a1)))))).toNat (gt x1 x3)) (.slice A1 ((x1.set x3.toNat (gt x1 (w64 (a1 + (w64 ((w64 ((IntKind.u64.wrap (((BitVec.ofInt IntKind.u64.bits r2.1 &&& (BitVec.ofInt IntKind.u64.bits (IntKind.u64.wrap (r1 - 1)))).toNat : Int))))) - (w64 (a2 - a1)))))))).set (w64 (a1 + (w64 ((w64 ((IntKind.u64.wrap (((BitVec.ofInt IntKind.u64.bits r2.1 &&& (BitVec.ofInt IntKind.u64.bits (IntKind.u64.wrap (r1 - 1)))).toNat : Int))))) - (w64 (a2 - a1)))))).toNat (gt x1 x3)).length c_1), _] _ _ := h12
              refine ⟨⟨[_], h12⟩, ?_⟩
              have e9 : ((x1.set x3.toNat (gt x1 (w64 (a1 + (w64 ((w64 ((IntKind.u64.wrap (((BitVec.ofInt IntKind.u64.bits r2.1 &&& (BitVec.ofInt IntKind.u64.bits (IntKind.u64.wrap (r1 - 1)))).toNat : Int))))) - (w64 (a2 - a1)))))))).set (w64 (a1 + (w64 ((w64 ((IntKind.u64.wrap (((BitVec.ofInt IntKind.u64.bits r2.1 &&& (BitVec.ofInt IntKind.u64.bits (IntKind.u64.wrap (r1 - 1)))).toNat : Int))))) - (w64 (a2 - a1)))))).toNat (gt x1 x3)).length = a0.length := List.length_set.trans e8
              refine HJ.fin [(0, .slice A1 x1.length c_1), (1, .int .i64 a1), (6, .int .i64 (w64 (a2 - a1))), (7, .pointer (some ⟨b1, 0, none⟩)), (8, .int .u64 r1), (9, .int .i64 x3)] rfl rfl ?_
              exact thenP_intro ⟨(by simp only [List.length_set]), ((h12.only [0, 0] rfl).rds [] rfl)⟩
          rintro env w12 ⟨rfl, h13⟩
          have e10 : ((x1.set x3.toNat (gt x1 (w64 (a1 + (w64 ((w64 ((IntKind.u64.wrap (((BitVec.ofInt IntKind.u64.bits r2.1 &&& (BitVec.ofInt IntKind.u64.bits (IntKind.u64.wrap (r1 - 1)))).toNat : Int))))) - (w64 (a2 - a1)))))))).set (w64 (a1 + (w64 ((w64 ((IntKind.u64.wrap (((BitVec.ofInt IntKind.u64.bits r2.1 &&& (BitVec.ofInt IntKind.u64.bits (IntKind.u64.wrap (r1 - 1)))).toNat : Int))))) - (w64 (a2 - a1)))))).toNat (gt x1 x3)).length = a0.length := by first | (simp only [List.length_set]; done) | (simp only [List.length_set]; exact e1)
          refine J.region ?_
          refine RJ.run ttok 3 rfl ?_
          refine RJ.fin [(0, .slice A1 ((x1.set x3.toNat (gt x1 (w64 (a1 + (w64 ((w64 ((IntKind.u64.wrap (((BitVec.ofInt IntKind.u64.bits r2.1 &&& (BitVec.ofInt IntKind.u64.bits (IntKind.u64.wrap (r1 - 1)))).toNat : Int))))) - (w64 (a2 - a1)))))))).set (w64 (a1 + (w64 ((w64 ((IntKind.u64.wrap (((BitVec.ofInt IntKind.u64.bits r2.1 &&& (BitVec.ofInt IntKind.u64.bits (IntKind.u64.wrap (r1 - 1)))).toNat : Int))))) - (w64 (a2 - a1)))))).toNat (gt x1 x3)).length c_1), (1, _), (6, _), (7, _), (8, _), (9, .int .i64 (w64 (x3 + 1)))] rfl ?_
          have h14 := ((h13.only [1, 0] rfl).rds [] rfl)
          exact ⟨k1, by omega, ((x1.set x3.toNat (gt x1 (w64 (a1 + (w64 ((w64 ((IntKind.u64.wrap (((BitVec.ofInt IntKind.u64.bits r2.1 &&& (BitVec.ofInt IntKind.u64.bits (IntKind.u64.wrap (r1 - 1)))).toNat : Int))))) - (w64 (a2 - a1)))))))).set (w64 (a1 + (w64 ((w64 ((IntKind.u64.wrap (((BitVec.ofInt IntKind.u64.bits r2.1 &&& (BitVec.ofInt IntKind.u64.bits (IntKind.u64.wrap (r1 - 1)))).toNat : Int))))) - (w64 (a2 - a1)))))).toNat (gt x1 x3)), r2.2, (w64 (x3 + 1)), rfl, h14, H, e10⟩
        replace H := ite_f c3 H
        refine J.skip ?_
        obtain ⟨⟨p5, p6⟩, H⟩ := guard_t H
        obtain ⟨⟨p7, p8⟩, H⟩ := guard_t H
        refine J.mid (fun env w => env = [(0, .slice A1 ((x1.set x3.toNat (gt x1 (w64 (a1 + (w64 ((IntKind.u64.wrap (((BitVec.ofInt IntKind.u64.bits r2.1 &&& (BitVec.ofInt IntKind.u64.bits (IntKind.u64.wrap (r1 - 1)))).toNat : Int))))))))).set (w64 (a1 + (w64 ((IntKind.u64.wrap (((BitVec.ofInt IntKind.u64.bits r2.1 &&& (BitVec.ofInt IntKind.u64.bits (IntKind.u64.wrap (r1 - 1)))).toNat : Int))))))).toNat (gt x1 x3)).length c_1), (1, .int .i64 a1), (6, .int .i64 (w64 (a2 - a1))), (7, .pointer (some ⟨b1, 0, none⟩)), (8, .int .u64 r1), (9, .int .i64 x3)] ∧ St w0 F0 [ownC 23 (.int .u32) ((x1.set x3.toNat (gt x1 (w64 (a1 + (w64 ((IntKind.u64.wrap (((BitVec.ofInt IntKind.u64.bits r2.1 &&& (BitVec.ofInt IntKind.u64.bits (IntKind.u64.wrap (r1 - 1)))).toNat : Int))))))))).set (w64 (a1 + (w64 ((IntKind.u64.wrap (((BitVec.ofInt IntKind.u64.bits r2.1 &&& (BitVec.ofInt IntKind.u64.bits (IntKind.u64.wrap (r1 - 1)))).toNat : Int))))))).toNat (gt x1 x3)) (.slice A1 ((x1.set x3.toNat (gt x1 (w64 (a1 + (w64 ((IntKind.u64.wrap (((BitVec.ofInt IntKind.u64.bits r2.1 &&& (BitVec.ofInt IntKind.u64.bits (IntKind.u64.wrap (r1 - 1)))).toNat : Int))))))))).set (w64 (a1 + (w64 ((IntKind.u64.wrap (((BitVec.ofInt IntKind.u64.bits r2.1 &&& (BitVec.ofInt IntKind.u64.bits (IntKind.u64.wrap (r1 - 1)))).toNat : Int))))))).toNat (gt x1 x3)).length c_1), boxC b1 234 [.int .u64 r2.2]] [] w) ?_ ?_
        · refine J.heldSt mix (h5.only [0] rfl) ?_
          have h17 := h5.drew
          refine HJ.run ttok rfl [0, 1, 2, 3, 4, 5, 6, 7, 8, 9, 12, 13] rfl ?_
          have e14 := elem_A h17.wh (Gives.of 1 rfl own_rd) p5 p6
          refine HJ.q (i := 10) rfl rfl rfl rfl rfl rfl (q_index ttok rfl rfl rfl rfl rfl e14 p5 p6) ?_
          refine HJ.q (i := 14) rfl rfl rfl rfl rfl rfl (q_index ttok rfl rfl rfl rfl rfl e14 p7 p8) ?_
          refine HJ.pick [11, 15] (i := 11) rfl rfl rfl rfl ?_
          refine (hscons ?_ (hscons ?_ hsnil))
          · refine HS.op (i := 11) rfl rfl rfl (OpT.ofq (q_load_elem (f := 0) ttok rfl h17.wht (Gives.of 1 rfl own_rd) p5 p6 rfl rfl rfl rfl rfl)) ?_
            rintro _ _ ⟨rfl, rfl⟩
            replace h17 : St w0 F0 [_, _] _ _ := h17
            refine ⟨⟨[_], (h17.only [1, 0] rfl)⟩, ?_⟩
            refine HJ.op (i := 15) rfl rfl rfl rfl rfl (OpT.ofq (q_load_elem (f := 0) ttok rfl h17.wht (Gives.of 1 rfl own_rd) p7 p8 rfl rfl rfl rfl rfl)) ?_
            rintro _ _ ⟨rfl, rfl⟩
            replace h17 : St w0 F0 [_, _] _ _ := h17
            refine ⟨⟨[_], (h17.only [1, 0] rfl)⟩, ?_⟩
            refine HJ.q (i := 16) rfl rfl rfl rfl rfl rfl (q_index ttok rfl rfl rfl rfl rfl e14 p7 p8) ?_
            refine HJ.op (i := 17) rfl rfl rfl rfl rfl (op_store_elem (ty := (.int .u32)) (f := 0) (ix := x3) ttok rfl (gt x1 (w64 (a1 + (w64 ((IntKind.u64.wrap (((BitVec.ofInt IntKind.u64.bits r2.1 &&& (BitVec.ofInt IntKind.u64.bits (IntKind.u64.wrap (r1 - 1)))).toNat : Int)))))))) 1 rfl h17 rfl rfl p7 p8 rfl rfl rfl rfl rfl rfl rfl) ?_
            intro _ w15 h18
            replace h18 : St w0 F0 [ownC 23 (.int .u32) (x1.set x3.toNat (gt x1 (w64 (a1 + (w64 ((IntKind.u64.wrap (((BitVec.ofInt IntKind.u64.bits r2.1 &&& (BitVec.ofInt IntKind.u64.bits (IntKind.u64.wrap (r1 - 1)))).toNat : Int))))))))) (.slice A1 (x1.set x3.toNat (gt x1 (w64 (a1 + (w64 ((IntKind.u64.wrap (((BitVec.ofInt IntKind.u64.bits r2.1 &&& (BitVec.ofInt IntKind.u64.bits (IntKind.u64.wrap (r1 - 1)))).toNat : Int))))))))).length c_1), _] _ _ := h18
            refine ⟨⟨[_], h18⟩, ?_⟩
            have e15 : (x1.set x3.toNat (gt x1 (w64 (a1 + (w64 ((IntKind.u64.wrap (((BitVec.ofInt IntKind.u64.bits r2.1 &&& (BitVec.ofInt IntKind.u64.bits (IntKind.u64.wrap (r1 - 1)))).toNat : Int))))))))).length = a0.length := List.length_set.trans e1
            refine HJ.q (i := 18) rfl rfl rfl rfl rfl rfl (q_index ttok rfl rfl rfl rfl rfl e14 p5 p6) ?_
            refine HJ.op (i := 19) rfl rfl rfl rfl rfl (op_store_elem (ty := (.int .u32)) (f := 0) (ix := (w64 (a1 + (w64 ((IntKind.u64.wrap (((BitVec.ofInt IntKind.u64.bits r2.1 &&& (BitVec.ofInt IntKind.u64.bits (IntKind.u64.wrap (r1 - 1)))).toNat : Int)))))))) ttok rfl (gt x1 x3) 0 rfl h18 rfl rfl p5 (by simpa only [List.length_set] using p6) rfl rfl rfl rfl rfl rfl rfl) ?_
            intro _ w16 h19
            replace h19 : St w0 F0 [ownC 23 (.int .u32) ((x1.set x3.toNat (gt x1 (w64 (a1 + (w64 ((IntKind.u64.wrap (((BitVec.ofInt IntKind.u64.bits r2.1 &&& (BitVec.ofInt IntKind.u64.bits (IntKind.u64.wrap (r1 - 1)))).toNat : Int))))))))).set (w64 (a1 + (w64 ((IntKind.u64.wrap (((BitVec.ofInt IntKind.u64.bits r2.1 &&& (BitVec.ofInt IntKind.u64.bits (IntKind.u64.wrap (r1 - 1)))).toNat : Int))))))).toNat (gt x1 x3)) (.slice A1 ((x1.set x3.toNat (gt x1 (w64 (a1 + (w64 ((IntKind.u64.wrap (((BitVec.ofInt IntKind.u64.bits r2.1 &&& (BitVec.ofInt IntKind.u64.bits (IntKind.u64.wrap (r1 - 1)))).toNat : Int))))))))).set (w64 (a1 + (w64 ((IntKind.u64.wrap (((BitVec.ofInt IntKind.u64.bits r2.1 &&& (BitVec.ofInt IntKind.u64.bits (IntKind.u64.wrap (r1 - 1)))).toNat : Int))))))).toNat (gt x1 x3)).length c_1), _] _ _ := h19
            refine ⟨⟨[_], h19⟩, ?_⟩
            have e16 : ((x1.set x3.toNat (gt x1 (w64 (a1 + (w64 ((IntKind.u64.wrap (((BitVec.ofInt IntKind.u64.bits r2.1 &&& (BitVec.ofInt IntKind.u64.bits (IntKind.u64.wrap (r1 - 1)))).toNat : Int))))))))).set (w64 (a1 + (w64 ((IntKind.u64.wrap (((BitVec.ofInt IntKind.u64.bits r2.1 &&& (BitVec.ofInt IntKind.u64.bits (IntKind.u64.wrap (r1 - 1)))).toNat : Int))))))).toNat (gt x1 x3)).length = a0.length := List.length_set.trans e15
            refine HJ.fin [(0, .slice A1 x1.length c_1), (1, .int .i64 a1), (6, .int .i64 (w64 (a2 - a1))), (7, .pointer (some ⟨b1, 0, none⟩)), (8, .int .u64 r1), (9, .int .i64 x3)] rfl rfl ?_
            exact thenP_intro ⟨(by simp only [List.length_set]), ((h19.only [0, 0] rfl).rds [] rfl)⟩
          · refine HS.op (i := 15) rfl rfl rfl (OpT.ofq (q_load_elem (f := 0) ttok rfl h17.wht (Gives.of 1 rfl own_rd) p7 p8 rfl rfl rfl rfl rfl)) ?_
            rintro _ _ ⟨rfl, rfl⟩
            replace h17 : St w0 F0 [_, _] _ _ := h17
            refine ⟨⟨[_], (h17.only [1, 0] rfl)⟩, ?_⟩
            refine HJ.op (i := 11) rfl rfl rfl rfl rfl (OpT.ofq (q_load_elem (f := 0) ttok rfl h17.wht (Gives.of 1 rfl own_rd) p5 p6 rfl rfl rfl rfl rfl)) ?_
            rintro _ _ ⟨rfl, rfl⟩
            replace h17 : St w0 F0 [_, _] _ _ := h17
            refine ⟨⟨[_], (h17.only [1, 0] rfl)⟩, ?_⟩
            refine HJ.q (i := 16) rfl rfl rfl rfl rfl rfl (q_index ttok rfl rfl rfl rfl rfl e14 p7 p8) ?_
            refine HJ.op (i := 17) rfl rfl rfl rfl rfl (op_store_elem (ty := (.int .u32)) (f := 0) (ix := x3) ttok rfl (gt x1 (w64 (a1 + (w64 ((IntKind.u64.wrap (((BitVec.ofInt IntKind.u64.bits r2.1 &&& (BitVec.ofInt IntKind.u64.bits (IntKind.u64.wrap (r1 - 1)))).toNat : Int)))))))) 1 rfl h17 rfl rfl p7 p8 rfl rfl rfl rfl rfl rfl rfl) ?_
            intro _ w17 h20
            replace h20 : St w0 F0 [ownC 23 (.int .u32) (x1.set x3.toNat (gt x1 (w64 (a1 + (w64 ((IntKind.u64.wrap (((BitVec.ofInt IntKind.u64.bits r2.1 &&& (BitVec.ofInt IntKind.u64.bits (IntKind.u64.wrap (r1 - 1)))).toNat : Int))))))))) (.slice A1 (x1.set x3.toNat (gt x1 (w64 (a1 + (w64 ((IntKind.u64.wrap (((BitVec.ofInt IntKind.u64.bits r2.1 &&& (BitVec.ofInt IntKind.u64.bits (IntKind.u64.wrap (r1 - 1)))).toNat : Int))))))))).length c_1), _] _ _ := h20
            refine ⟨⟨[_], h20⟩, ?_⟩
            have e17 : (x1.set x3.toNat (gt x1 (w64 (a1 + (w64 ((IntKind.u64.wrap (((BitVec.ofInt IntKind.u64.bits r2.1 &&& (BitVec.ofInt IntKind.u64.bits (IntKind.u64.wrap (r1 - 1)))).toNat : Int))))))))).length = a0.length := List.length_set.trans e1
            refine HJ.q (i := 18) rfl rfl rfl rfl rfl rfl (q_index ttok rfl rfl rfl rfl rfl e14 p5 p6) ?_
            refine HJ.op (i := 19) rfl rfl rfl rfl rfl (op_store_elem (ty := (.int .u32)) (f := 0) (ix := (w64 (a1 + (w64 ((IntKind.u64.wrap (((BitVec.ofInt IntKind.u64.bits r2.1 &&& (BitVec.ofInt IntKind.u64.bits (IntKind.u64.wrap (r1 - 1)))).toNat : Int)))))))) ttok rfl (gt x1 x3) 0 rfl h20 rfl rfl p5 (by simpa only [List.length_set] using p6) rfl rfl rfl rfl rfl rfl rfl) ?_
            intro _ w18 h21
            replace h21 : St w0 F0 [ownC 23 (.int .u32) ((x1.set x3.toNat (gt x1 (w64 (a1 + (w64 ((IntKind.u64.wrap (((BitVec.ofInt IntKind.u64.bits r2.1 &&& (BitVec.ofInt IntKind.u64.bits (IntKind.u64.wrap (r1 - 1)))).toNat : Int))))))))).set (w64 (a1 + (w64 ((IntKind.u64.wrap (((BitVec.ofInt IntKind.u64.bits r2.1 &&& (BitVec.ofInt IntKind.u64.bits (IntKind.u64.wrap (r1 - 1)))).toNat : Int))))))).toNat (gt x1 x3)) (.slice A1 ((x1.set x3.toNat (gt x1 (w64 (a1 + (w64 ((IntKind.u64.wrap (((BitVec.ofInt IntKind.u64.bits r2.1 &&& (BitVec.ofInt IntKind.u64.bits (IntKind.u64.wrap (r1 - 1)))).toNat : Int))))))))).set (w64 (a1 + (w64 ((IntKind.u64.wrap (((BitVec.ofInt IntKind.u64.bits r2.1 &&& (BitVec.ofInt IntKind.u64.bits (IntKind.u64.wrap (r1 - 1)))).toNat : Int))))))).toNat (gt x1 x3)).length c_1), _] _ _ := h21
            refine ⟨⟨[_], h21⟩, ?_⟩
            have e18 : ((x1.set x3.toNat (gt x1 (w64 (a1 + (w64 ((IntKind.u64.wrap (((BitVec.ofInt IntKind.u64.bits r2.1 &&& (BitVec.ofInt IntKind.u64.bits (IntKind.u64.wrap (r1 - 1)))).toNat : Int))))))))).set (w64 (a1 + (w64 ((IntKind.u64.wrap (((BitVec.ofInt IntKind.u64.bits r2.1 &&& (BitVec.ofInt IntKind.u64.bits (IntKind.u64.wrap (r1 - 1)))).toNat : Int))))))).toNat (gt x1 x3)).length = a0.length := List.length_set.trans e17
            refine HJ.fin [(0, .slice A1 x1.length c_1), (1, .int .i64 a1), (6, .int .i64 (w64 (a2 - a1))), (7, .pointer (some ⟨b1, 0, none⟩)), (8, .int .u64 r1), (9, .int .i64 x3)] rfl rfl ?_
            exact thenP_intro ⟨(by simp only [List.length_set]), ((h21.only [0, 0] rfl).rds [] rfl)⟩
        rintro env w19 ⟨rfl, h22⟩
        have e19 : ((x1.set x3.toNat (gt x1 (w64 (a1 + (w64 ((IntKind.u64.wrap (((BitVec.ofInt IntKind.u64.bits r2.1 &&& (BitVec.ofInt IntKind.u64.bits (IntKind.u64.wrap (r1 - 1)))).toNat : Int))))))))).set (w64 (a1 + (w64 ((IntKind.u64.wrap (((BitVec.ofInt IntKind.u64.bits r2.1 &&& (BitVec.ofInt IntKind.u64.bits (IntKind.u64.wrap (r1 - 1)))).toNat : Int))))))).toNat (gt x1 x3)).length = a0.length := by first | (simp only [List.length_set]; done) | (simp only [List.length_set]; exact e1)
        refine J.region ?_
        refine RJ.run ttok 3 rfl ?_
        refine RJ.fin [(0, .slice A1 ((x1.set x3.toNat (gt x1 (w64 (a1 + (w64 ((IntKind.u64.wrap (((BitVec.ofInt IntKind.u64.bits r2.1 &&& (BitVec.ofInt IntKind.u64.bits (IntKind.u64.wrap (r1 - 1)))).toNat : Int))))))))).set (w64 (a1 + (w64 ((IntKind.u64.wrap (((BitVec.ofInt IntKind.u64.bits r2.1 &&& (BitVec.ofInt IntKind.u64.bits (IntKind.u64.wrap (r1 - 1)))).toNat : Int))))))).toNat (gt x1 x3)).length c_1), (1, _), (6, _), (7, _), (8, _), (9, .int .i64 (w64 (x3 + 1)))] rfl ?_
        have h23 := ((h22.only [1, 0] rfl).rds [] rfl)
        exact ⟨k1, by omega, ((x1.set x3.toNat (gt x1 (w64 (a1 + (w64 ((IntKind.u64.wrap (((BitVec.ofInt IntKind.u64.bits r2.1 &&& (BitVec.ofInt IntKind.u64.bits (IntKind.u64.wrap (r1 - 1)))).toNat : Int))))))))).set (w64 (a1 + (w64 ((IntKind.u64.wrap (((BitVec.ofInt IntKind.u64.bits r2.1 &&& (BitVec.ofInt IntKind.u64.bits (IntKind.u64.wrap (r1 - 1)))).toNat : Int))))))).toNat (gt x1 x3)), r2.2, (w64 (x3 + 1)), rfl, h23, H, e19⟩
      replace H := ite_f c2 H
      refine J.exit ?_
      obtain rfl := Option.some.inj H
      exact ⟨_, _, _, (results_slots rfl), ⟨rfl, rfl, e1⟩, h4.only [1] rfl⟩
  replace H := ite_f c1 H
  refine J.skip ?_
  obtain rfl := Option.some.inj H
  exact ⟨_, _, _, (results_slots rfl), ⟨rfl, rfl, (rfl : a0.length = a0.length)⟩, h0.only [0] rfl⟩

mutual
def Q46.l0 : Nat → (List (Int)) → (Int) → (Int) → (Int) → (Bool) → (Bool) → Option (List (Int))
  | 0, _, _, _, _, _, _ => none
  | k + 1, x1, x2, x3, x4, x5, x6 => if (decide ((w64 (x3 - x2)) ≤ 12)) = true then ((Q38.f k x1 x2 x3).bind fun r1 => (some r1)) else (if (decide (x4 = 0)) = true then ((Q37.f k x1 x2 x3).bind fun r2 => (some r2)) else (if (!x5) = true then ((Q35.f k x1 x2 x3).bind fun r30 => ((Q36.f r30 x2 x3).bind fun r3 => (if (decide (r3.2 = 2)) = true then ((Q47.f k r30 x2 x3).bind fun r29 => (if x5 = true then (if x6 = true then (if (decide (1 = 1)) = true then ((Q43.f k r29 x2 x3).bind fun r12 => (if r12.1 = true then (some r12.2) else (if (decide (0 < x2)) = true then (if 0 ≤ (w64 (x2 - 1)) ∧ (w64 (x2 - 1)) < (r12.2.length : Int) then (if 0 ≤ (w64 ((w64 (x3 - 1)) - (w64 (r3.1 - x2)))) ∧ (w64 ((w64 (x3 - 1)) - (w64 (r3.1 - x2)))) < (r12.2.length : Int) then ((Q24.f (gt r12.2 (w64 (x2 - 1))) (gt r12.2 (w64 ((w64 (x3 - 1)) - (w64 (r3.1 - x2)))))).bind fun r4 => (if (!r4) = true then ((Q44.f k r12.2 x2 x3 (w64 ((w64 (x3 - 1)) - (w64 (r3.1 - x2))))).bind fun r5 => (Q46.l0 k r5.2 r5.1 x3 (w64 (x4 - 1)) x5 x6)) else ((Q45.f k r12.2 x2 x3 (w64 ((w64 (x3 - 1)) - (w64 (r3.1 - x2))))).bind fun r6 => (if (decide ((w64 (r6.1 - x2)) < (w64 (x3 - r6.1)))) = true then ((Q46.f k r6.2.2 x2 r6.1 (w64 (x4 - 1))).bind fun r7 => (Q46.l0 k r7 (w64 (r6.1 + 1)) x3 (w64 (x4 - 1)) (decide ((w64 (Int.tdiv (w64 (x3 - x2)) 8)) ≤ (w64 (r6.1 - x2)))) r6.2.1)) else ((Q46.f k r6.2.2 (w64 (r6.1 + 1)) x3 (w64 (x4 - 1))).bind fun r8 => (Q46.l0 k r8 x2 r6.1 (w64 (x4 - 1)) (decide ((w64 (Int.tdiv (w64 (x3 - x2)) 8)) ≤ (w64 (x3 - r6.1)))) r6.2.1)))))) else none) else none) else ((Q45.f k r12.2 x2 x3 (w64 ((w64 (x3 - 1)) - (w64 (r3.1 - x2))))).bind fun r9 => (if (decide ((w64 (r9.1 - x2)) < (w64 (x3 - r9.1)))) = true then ((Q46.f k r9.2.2 x2 r9.1 (w64 (x4 - 1))).bind fun r10 => (Q46.l0 k r10 (w64 (r9.1 + 1)) x3 (w64 (x4 - 1)) (decide ((w64 (Int.tdiv (w64 (x3 - x2)) 8)) ≤ (w64 (r9.1 - x2)))) r9.2.1)) else ((Q46.f k r9.2.2 (w64 (r9.1 + 1)) x3 (w64 (x4 - 1))).bind fun r11 => (Q46.l0 k r11 x2 r9.1 (w64 (x4 - 1)) (decide ((w64 (Int.tdiv (w64 (x3 - x2)) 8)) ≤ (w64 (x3 - r9.1)))) r9.2.1))))))) else (if (decide (0 < x2)) = true then (if 0 ≤ (w64 (x2 - 1)) ∧ (w64 (x2 - 1)) < (r29.length : Int) then (if 0 ≤ (w64 ((w64 (x3 - 1)) - (w64 (r3.1 - x2)))) ∧ (w64 ((w64 (x3 - 1)) - (w64 (r3.1 - x2)))) < (r29.length : Int) then ((Q24.f (gt r29 (w64 (x2 - 1))) (gt r29 (w64 ((w64 (x3 - 1)) - (w64 (r3.1 - x2)))))).bind fun r4 => (if (!r4) = true then ((Q44.f k r29 x2 x3 (w64 ((w64 (x3 - 1)) - (w64 (r3.1 - x2))))).bind fun r5 => (Q46.l0 k r5.2 r5.1 x3 (w64 (x4 - 1)) x5 x6)) else ((Q45.f k r29 x2 x3 (w64 ((w64 (x3 - 1)) - (w64 (r3.1 - x2))))).bind fun r6 => (if (decide ((w64 (r6.1 - x2)) < (w64 (x3 - r6.1)))) = true then ((Q46.f k r6.2.2 x2 r6.1 (w64 (x4 - 1))).bind fun r7 => (Q46.l0 k r7 (w64 (r6.1 + 1)) x3 (w64 (x4 - 1)) (decide ((w64 (Int.tdiv (w64 (x3 - x2)) 8)) ≤ (w64 (r6.1 - x2)))) r6.2.1)) else ((Q46.f k r6.2.2 (w64 (r6.1 + 1)) x3 (w64 (x4 - 1))).bind fun r8 => (Q46.l0 k r8 x2 r6.1 (w64 (x4 - 1)) (decide ((w64 (Int.tdiv (w64 (x3 - x2)) 8)) ≤ (w64 (x3 - r6.1)))) r6.2.1)))))) else none) else none) else ((Q45.f k r29 x2 x3 (w64 ((w64 (x3 - 1)) - (w64 (r3.1 - x2))))).bind fun r9 => (if (decide ((w64 (r9.1 - x2)) < (w64 (x3 - r9.1)))) = true then ((Q46.f k r9.2.2 x2 r9.1 (w64 (x4 - 1))).bind fun r10 => (Q46.l0 k r10 (w64 (r9.1 + 1)) x3 (w64 (x4 - 1)) (decide ((w64 (Int.tdiv (w64 (x3 - x2)) 8)) ≤ (w64 (r9.1 - x2)))) r9.2.1)) else ((Q46.f k r9.2.2 (w64 (r9.1 + 1)) x3 (w64 (x4 - 1))).bind fun r11 => (Q46.l0 k r11 x2 r9.1 (w64 (x4 - 1)) (decide ((w64 (Int.tdiv (w64 (x3 - x2)) 8)) ≤ (w64 (x3 - r9.1)))) r9.2.1)))))) else (if (decide (0 < x2)) = true then (if 0 ≤ (w64 (x2 - 1)) ∧ (w64 (x2 - 1)) < (r29.length : Int) then (if 0 ≤ (w64 ((w64 (x3 - 1)) - (w64 (r3.1 - x2)))) ∧ (w64 ((w64 (x3 - 1)) - (w64 (r3.1 - x2)))) < (r29.length : Int) then ((Q24.f (gt r29 (w64 (x2 - 1))) (gt r29 (w64 ((w64 (x3 - 1)) - (w64 (r3.1 - x2)))))).bind fun r13 => (if (!r13) = true then ((Q44.f k r29 x2 x3 (w64 ((w64 (x3 - 1)) - (w64 (r3.1 - x2))))).bind fun r14 => (Q46.l0 k r14.2 r14.1 x3 (w64 (x4 - 1)) x5 x6)) else ((Q45.f k r29 x2 x3 (w64 ((w64 (x3 - 1)) - (w64 (r3.1 - x2))))).bind fun r15 => (if (decide ((w64 (r15.1 - x2)) < (w64 (x3 - r15.1)))) = true then ((Q46.f k r15.2.2 x2 r15.1 (w64 (x4 - 1))).bind fun r16 => (Q46.l0 k r16 (w64 (r15.1 + 1)) x3 (w64 (x4 - 1)) (decide ((w64 (Int.tdiv (w64 (x3 - x2)) 8)) ≤ (w64 (r15.1 - x2)))) r15.2.1)) else ((Q46.f k r15.2.2 (w64 (r15.1 + 1)) x3 (w64 (x4 - 1))).bind fun r17 => (Q46.l0 k r17 x2 r15.1 (w64 (x4 - 1)) (decide ((w64 (Int.tdiv (w64 (x3 - x2)) 8)) ≤ (w64 (x3 - r15.1)))) r15.2.1)))))) else none) else none) else ((Q45.f k r29 x2 x3 (w64 ((w64 (x3 - 1)) - (w64 (r3.1 - x2))))).bind fun r18 => (if (decide ((w64 (r18.1 - x2)) < (w64 (x3 - r18.1)))) = true then ((Q46.f k r18.2.2 x2 r18.1 (w64 (x4 - 1))).bind fun r19 => (Q46.l0 k r19 (w64 (r18.1 + 1)) x3 (w64 (x4 - 1)) (decide ((w64 (Int.tdiv (w64 (x3 - x2)) 8)) ≤ (w64 (r18.1 - x2)))) r18.2.1)) else ((Q46.f k r18.2.2 (w64 (r18.1 + 1)) x3 (w64 (x4 - 1))).bind fun r20 => (Q46.l0 k r20 x2 r18.1 (w64 (x4 - 1)) (decide ((w64 (Int.tdiv (w64 (x3 - x2)) 8)) ≤ (w64 (x3 - r18.1)))) r18.2.1)))))) else (if (decide (0 < x2)) = true then (if 0 ≤ (w64 (x2 - 1)) ∧ (w64 (x2 - 1)) < (r29.length : Int) then (if 0 ≤ (w64 ((w64 (x3 - 1)) - (w64 (r3.1 - x2)))) ∧ (w64 ((w64 (x3 - 1)) - (w64 (r3.1 - x2)))) < (r29.length : Int) then ((Q24.f (gt r29 (w64 (x2 - 1))) (gt r29 (w64 ((w64 (x3 - 1)) - (w64 (r3.1 - x2)))))).bind fun r21 => (if (!r21) = true then ((Q44.f k r29 x2 x3 (w64 ((w64 (x3 - 1)) - (w64 (r3.1 - x2))))).bind fun r22 => (Q46.l0 k r22.2 r22.1 x3 (w64 (x4 - 1)) x5 x6)) else ((Q45.f k r29 x2 x3 (w64 ((w64 (x3 - 1)) - (w64 (r3.1 - x2))))).bind fun r23 => (if (decide ((w64 (r23.1 - x2)) < (w64 (x3 - r23.1)))) = true then ((Q46.f k r23.2.2 x2 r23.1 (w64 (x4 - 1))).bind fun r24 => (Q46.l0 k r24 (w64 (r23.1 + 1)) x3 (w64 (x4 - 1)) (decide ((w64 (Int.tdiv (w64 (x3 - x2)) 8)) ≤ (w64 (r23.1 - x2)))) r23.2.1)) else ((Q46.f k r23.2.2 (w64 (r23.1 + 1)) x3 (w64 (x4 - 1))).bind fun r25 => (Q46.l0 k r25 x2 r23.1 (w64 (x4 - 1)) (decide ((w64 (Int.tdiv (w64 (x3 - x2)) 8)) ≤ (w64 (x3 - r23.1)))) r23.2.1)))))) else none) else none) else ((Q45.f k r29 x2 x3 (w64 ((w64 (x3 - 1)) - (w64 (r3.1 - x2))))).bind fun r26 => (if (decide ((w64 (r26.1 - x2)) < (w64 (x3 - r26.1)))) = true then ((Q46.f k r26.2.2 x2 r26.1 (w64 (x4 - 1))).bind fun r27 => (Q46.l0 k r27 (w64 (r26.1 + 1)) x3 (w64 (x4 - 1)) (decide ((w64 (Int.tdiv (w64 (x3 - x2)) 8)) ≤ (w64 (r26.1 - x2)))) r26.2.1)) else ((Q46.f k r26.2.2 (w64 (r26.1 + 1)) x3 (w64 (x4 - 1))).bind fun r28 => (Q46.l0 k r28 x2 r26.1 (w64 (x4 - 1)) (decide ((w64 (Int.tdiv (w64 (x3 - x2)) 8)) ≤ (w64 (x3 - r26.1)))) r26.2.1))))))) else (if x5 = true then (if x6 = true then (if (decide (r3.2 = 1)) = true then ((Q43.f k r30 x2 x3).bind fun r12 => (if r12.1 = true then (some r12.2) else (if (decide (0 < x2)) = true then (if 0 ≤ (w64 (x2 - 1)) ∧ (w64 (x2 - 1)) < (r12.2.length : Int) then (if 0 ≤ r3.1 ∧ r3.1 < (r12.2.length : Int) then ((Q24.f (gt r12.2 (w64 (x2 - 1))) (gt r12.2 r3.1)).bind fun r4 => (if (!r4) = true then ((Q44.f k r12.2 x2 x3 r3.1).bind fun r5 => (Q46.l0 k r5.2 r5.1 x3 (w64 (x4 - 1)) x5 x6)) else ((Q45.f k r12.2 x2 x3 r3.1).bind fun r6 => (if (decide ((w64 (r6.1 - x2)) < (w64 (x3 - r6.1)))) = true then ((Q46.f k r6.2.2 x2 r6.1 (w64 (x4 - 1))).bind fun r7 => (Q46.l0 k r7 (w64 (r6.1 + 1)) x3 (w64 (x4 - 1)) (decide ((w64 (Int.tdiv (w64 (x3 - x2)) 8)) ≤ (w64 (r6.1 - x2)))) r6.2.1)) else ((Q46.f k r6.2.2 (w64 (r6.1 + 1)) x3 (w64 (x4 - 1))).bind fun r8 => (Q46.l0 k r8 x2 r6.1 (w64 (x4 - 1)) (decide ((w64 (Int.tdiv (w64 (x3 - x2)) 8)) ≤ (w64 (x3 - r6.1)))) r6.2.1)))))) else none) else none) else ((Q45.f k r12.2 x2 x3 r3.1).bind fun r9 => (if (decide ((w64 (r9.1 - x2)) < (w64 (x3 - r9.1)))) = true then ((Q46.f k r9.2.2 x2 r9.1 (w64 (x4 - 1))).bind fun r10 => (Q46.l0 k r10 (w64 (r9.1 + 1)) x3 (w64 (x4 - 1)) (decide ((w64 (Int.tdiv (w64 (x3 - x2)) 8)) ≤ (w64 (r9.1 - x2)))) r9.2.1)) else ((Q46.f k r9.2.2 (w64 (r9.1 + 1)) x3 (w64 (x4 - 1))).bind fun r11 => (Q46.l0 k r11 x2 r9.1 (w64 (x4 - 1)) (decide ((w64 (Int.tdiv (w64 (x3 - x2)) 8)) ≤ (w64 (x3 - r9.1)))) r9.2.1))))))) else (if (decide (0 < x2)) = true then (if 0 ≤ (w64 (x2 - 1)) ∧ (w64 (x2 - 1)) < (r30.length : Int) then (if 0 ≤ r3.1 ∧ r3.1 < (r30.length : Int) then ((Q24.f (gt r30 (w64 (x2 - 1))) (gt r30 r3.1)).bind fun r4 => (if (!r4) = true then ((Q44.f k r30 x2 x3 r3.1).bind fun r5 => (Q46.l0 k r5.2 r5.1 x3 (w64 (x4 - 1)) x5 x6)) else ((Q45.f k r30 x2 x3 r3.1).bind fun r6 => (if (decide ((w64 (r6.1 - x2)) < (w64 (x3 - r6.1)))) = true then ((Q46.f k r6.2.2 x2 r6.1 (w64 (x4 - 1))).bind fun r7 => (Q46.l0 k r7 (w64 (r6.1 + 1)) x3 (w64 (x4 - 1)) (decide ((w64 (Int.tdiv (w64 (x3 - x2)) 8)) ≤ (w64 (r6.1 - x2)))) r6.2.1)) else ((Q46.f k r6.2.2 (w64 (r6.1 + 1)) x3 (w64 (x4 - 1))).bind fun r8 => (Q46.l0 k r8 x2 r6.1 (w64 (x4 - 1)) (decide ((w64 (Int.tdiv (w64 (x3 - x2)) 8)) ≤ (w64 (x3 - r6.1)))) r6.2.1)))))) else none) else none) else ((Q45.f k r30 x2 x3 r3.1).bind fun r9 => (if (decide ((w64 (r9.1 - x2)) < (w64 (x3 - r9.1)))) = true then ((Q46.f k r9.2.2 x2 r9.1 (w64 (x4 - 1))).bind fun r10 => (Q46.l0 k r10 (w64 (r9.1 + 1)) x3 (w64 (x4 - 1)) (decide ((w64 (Int.tdiv (w64 (x3 - x2)) 8)) ≤ (w64 (r9.1 - x2)))) r9.2.1)) else ((Q46.f k r9.2.2 (w64 (r9.1 + 1)) x3 (w64 (x4 - 1))).bind fun r11 => (Q46.l0 k r11 x2 r9.1 (w64 (x4 - 1)) (decide ((w64 (Int.tdiv (w64 (x3 - x2)) 8)) ≤ (w64 (x3 - r9.1)))) r9.2.1)))))) else (if (decide (0 < x2)) = true then (if 0 ≤ (w64 (x2 - 1)) ∧ (w64 (x2 - 1)) < (r30.length : Int) then (if 0 ≤ r3.1 ∧ r3.1 < (r30.length : Int) then ((Q24.f (gt r30 (w64 (x2 - 1))) (gt r30 r3.1)).bind fun r13 => (if (!r13) = true then ((Q44.f k r30 x2 x3 r3.1).bind fun r14 => (Q46.l0 k r14.2 r14.1 x3 (w64 (x4 - 1)) x5 x6)) else ((Q45.f k r30 x2 x3 r3.1).bind fun r15 => (if (decide ((w64 (r15.1 - x2)) < (w64 (x3 - r15.1)))) = true then ((Q46.f k r15.2.2 x2 r15.1 (w64 (x4 - 1))).bind fun r16 => (Q46.l0 k r16 (w64 (r15.1 + 1)) x3 (w64 (x4 - 1)) (decide ((w64 (Int.tdiv (w64 (x3 - x2)) 8)) ≤ (w64 (r15.1 - x2)))) r15.2.1)) else ((Q46.f k r15.2.2 (w64 (r15.1 + 1)) x3 (w64 (x4 - 1))).bind fun r17 => (Q46.l0 k r17 x2 r15.1 (w64 (x4 - 1)) (decide ((w64 (Int.tdiv (w64 (x3 - x2)) 8)) ≤ (w64 (x3 - r15.1)))) r15.2.1)))))) else none) else none) else ((Q45.f k r30 x2 x3 r3.1).bind fun r18 => (if (decide ((w64 (r18.1 - x2)) < (w64 (x3 - r18.1)))) = true then ((Q46.f k r18.2.2 x2 r18.1 (w64 (x4 - 1))).bind fun r19 => (Q46.l0 k r19 (w64 (r18.1 + 1)) x3 (w64 (x4 - 1)) (decide ((w64 (Int.tdiv (w64 (x3 - x2)) 8)) ≤ (w64 (r18.1 - x2)))) r18.2.1)) else ((Q46.f k r18.2.2 (w64 (r18.1 + 1)) x3 (w64 (x4 - 1))).bind fun r20 => (Q46.l0 k r20 x2 r18.1 (w64 (x4 - 1)) (decide ((w64 (Int.tdiv (w64 (x3 - x2)) 8)) ≤ (w64 (x3 - r18.1)))) r18.2.1)))))) else (if (decide (0 < x2)) = true then (if 0 ≤ (w64 (x2 - 1)) ∧ (w64 (x2 - 1)) < (r30.length : Int) then (if 0 ≤ r3.1 ∧ r3.1 < (r30.length : Int) then ((Q24.f (gt r30 (w64 (x2 - 1))) (gt r30 r3.1)).bind fun r21 => (if (!r21) = true then ((Q44.f k r30 x2 x3 r3.1).bind fun r22 => (Q46.l0 k r22.2 r22.1 x3 (w64 (x4 - 1)) x5 x6)) else ((Q45.f k r30 x2 x3 r3.1).bind fun r23 => (if (decide ((w64 (r23.1 - x2)) < (w64 (x3 - r23.1)))) = true then ((Q46.f k r23.2.2 x2 r23.1 (w64 (x4 - 1))).bind fun r24 => (Q46.l0 k r24 (w64 (r23.1 + 1)) x3 (w64 (x4 - 1)) (decide ((w64 (Int.tdiv (w64 (x3 - x2)) 8)) ≤ (w64 (r23.1 - x2)))) r23.2.1)) else ((Q46.f k r23.2.2 (w64 (r23.1 + 1)) x3 (w64 (x4 - 1))).bind fun r25 => (Q46.l0 k r25 x2 r23.1 (w64 (x4 - 1)) (decide ((w64 (Int.tdiv (w64 (x3 - x2)) 8)) ≤ (w64 (x3 - r23.1)))) r23.2.1)))))) else none) else none) else ((Q45.f k r30 x2 x3 r3.1).bind fun r26 => (if (decide ((w64 (r26.1 - x2)) < (w64 (x3 - r26.1)))) = true then ((Q46.f k r26.2.2 x2 r26.1 (w64 (x4 - 1))).bind fun r27 => (Q46.l0 k r27 (w64 (r26.1 + 1)) x3 (w64 (x4 - 1)) (decide ((w64 (Int.tdiv (w64 (x3 - x2)) 8)) ≤ (w64 (r26.1 - x2)))) r26.2.1)) else ((Q46.f k r26.2.2 (w64 (r26.1 + 1)) x3 (w64 (x4 - 1))).bind fun r28 => (Q46.l0 k r28 x2 r26.1 (w64 (x4 - 1)) (decide ((w64 (Int.tdiv (w64 (x3 - x2)) 8)) ≤ (w64 (x3 - r26.1)))) r26.2.1))))))))) else ((Q36.f x1 x2 x3).bind fun r3 => (if (decide (r3.2 = 2)) = true then ((Q47.f k x1 x2 x3).bind fun r29 => (if x5 = true then (if x6 = true then (if (decide (1 = 1)) = true then ((Q43.f k r29 x2 x3).bind fun r12 => (if r12.1 = true then (some r12.2) else (if (decide (0 < x2)) = true then (if 0 ≤ (w64 (x2 - 1)) ∧ (w64 (x2 - 1)) < (r12.2.length : Int) then (if 0 ≤ (w64 ((w64 (x3 - 1)) - (w64 (r3.1 - x2)))) ∧ (w64 ((w64 (x3 - 1)) - (w64 (r3.1 - x2)))) < (r12.2.length : Int) then ((Q24.f (gt r12.2 (w64 (x2 - 1))) (gt r12.2 (w64 ((w64 (x3 - 1)) - (w64 (r3.1 - x2)))))).bind fun r4 => (if (!r4) = true then ((Q44.f k r12.2 x2 x3 (w64 ((w64 (x3 - 1)) - (w64 (r3.1 - x2))))).bind fun r5 => (Q46.l0 k r5.2 r5.1 x3 x4 x5 x6)) else ((Q45.f k r12.2 x2 x3 (w64 ((w64 (x3 - 1)) - (w64 (r3.1 - x2))))).bind fun r6 => (if (decide ((w64 (r6.1 - x2)) < (w64 (x3 - r6.1)))) = true then ((Q46.f k r6.2.2 x2 r6.1 x4).bind fun r7 => (Q46.l0 k r7 (w64 (r6.1 + 1)) x3 x4 (decide ((w64 (Int.tdiv (w64 (x3 - x2)) 8)) ≤ (w64 (r6.1 - x2)))) r6.2.1)) else ((Q46.f k r6.2.2 (w64 (r6.1 + 1)) x3 x4).bind fun r8 => (Q46.l0 k r8 x2 r6.1 x4 (decide ((w64 (Int.tdiv (w64 (x3 - x2)) 8)) ≤ (w64 (x3 - r6.1)))) r6.2.1)))))) else none) else none) else ((Q45.f k r12.2 x2 x3 (w64 ((w64 (x3 - 1)) - (w64 (r3.1 - x2))))).bind fun r9 => (if (decide ((w64 (r9.1 - x2)) < (w64 (x3 - r9.1)))) = true then ((Q46.f k r9.2.2 x2 r9.1 x4).bind fun r10 => (Q46.l0 k r10 (w64 (r9.1 + 1)) x3 x4 (decide ((w64 (Int.tdiv (w64 (x3 - x2)) 8)) ≤ (w64 (r9.1 - x2)))) r9.2.1)) else ((Q46.f k r9.2.2 (w64 (r9.1 + 1)) x3 x4).bind fun r11 => (Q46.l0 k r11 x2 r9.1 x4 (decide ((w64 (Int.tdiv (w64 (x3 - x2)) 8)) ≤ (w64 (x3 - r9.1)))) r9.2.1))))))) else (if (decide (0 < x2)) = true then (if 0 ≤ (w64 (x2 - 1)) ∧ (w64 (x2 - 1)) < (r29.length : Int) then (if 0 ≤ (w64 ((w64 (x3 - 1)) - (w64 (r3.1 - x2)))) ∧ (w64 ((w64 (x3 - 1)) - (w64 (r3.1 - x2)))) < (r29.length : Int) then ((Q24.f (gt r29 (w64 (x2 - 1))) (gt r29 (w64 ((w64 (x3 - 1)) - (w64 (r3.1 - x2)))))).bind fun r4 => (if (!r4) = true then ((Q44.f k r29 x2 x3 (w64 ((w64 (x3 - 1)) - (w64 (r3.1 - x2))))).bind fun r5 => (Q46.l0 k r5.2 r5.1 x3 x4 x5 x6)) else ((Q45.f k r29 x2 x3 (w64 ((w64 (x3 - 1)) - (w64 (r3.1 - x2))))).bind fun r6 => (if (decide ((w64 (r6.1 - x2)) < (w64 (x3 - r6.1)))) = true then ((Q46.f k r6.2.2 x2 r6.1 x4).bind fun r7 => (Q46.l0 k r7 (w64 (r6.1 + 1)) x3 x4 (decide ((w64 (Int.tdiv (w64 (x3 - x2)) 8)) ≤ (w64 (r6.1 - x2)))) r6.2.1)) else ((Q46.f k r6.2.2 (w64 (r6.1 + 1)) x3 x4).bind fun r8 => (Q46.l0 k r8 x2 r6.1 x4 (decide ((w64 (Int.tdiv (w64 (x3 - x2)) 8)) ≤ (w64 (x3 - r6.1)))) r6.2.1)))))) else none) else none) else ((Q45.f k r29 x2 x3 (w64 ((w64 (x3 - 1)) - (w64 (r3.1 - x2))))).bind fun r9 => (if (decide ((w64 (r9.1 - x2)) < (w64 (x3 - r9.1)))) = true then ((Q46.f k r9.2.2 x2 r9.1 x4).bind fun r10 => (Q46.l0 k r10 (w64 (r9.1 + 1)) x3 x4 (decide ((w64 (Int.tdiv (w64 (x3 - x2)) 8)) ≤ (w64 (r9.1 - x2)))) r9.2.1)) else ((Q46.f k r9.2.2 (w64 (r9.1 + 1)) x3 x4).bind fun r11 => (Q46.l0 k r11 x2 r9.1 x4 (decide ((w64 (Int.tdiv (w64 (x3 - x2)) 8)) ≤ (w64 (x3 - r9.1)))) r9.2.1)))))) else (if (decide (0 < x2)) = true then (if 0 ≤ (w64 (x2 - 1)) ∧ (w64 (x2 - 1)) < (r29.length : Int) then (if 0 ≤ (w64 ((w64 (x3 - 1)) - (w64 (r3.1 - x2)))) ∧ (w64 ((w64 (x3 - 1)) - (w64 (r3.1 - x2)))) < (r29.length : Int) then ((Q24.f (gt r29 (w64 (x2 - 1))) (gt r29 (w64 ((w64 (x3 - 1)) - (w64 (r3.1 - x2)))))).bind fun r13 => (if (!r13) = true then ((Q44.f k r29 x2 x3 (w64 ((w64 (x3 - 1)) - (w64 (r3.1 - x2))))).bind fun r14 => (Q46.l0 k r14.2 r14.1 x3 x4 x5 x6)) else ((Q45.f k r29 x2 x3 (w64 ((w64 (x3 - 1)) - (w64 (r3.1 - x2))))).bind fun r15 => (if (decide ((w64 (r15.1 - x2)) < (w64 (x3 - r15.1)))) = true then ((Q46.f k r15.2.2 x2 r15.1 x4).bind fun r16 => (Q46.l0 k r16 (w64 (r15.1 + 1)) x3 x4 (decide ((w64 (Int.tdiv (w64 (x3 - x2)) 8)) ≤ (w64 (r15.1 - x2)))) r15.2.1)) else ((Q46.f k r15.2.2 (w64 (r15.1 + 1)) x3 x4).bind fun r17 => (Q46.l0 k r17 x2 r15.1 x4 (decide ((w64 (Int.tdiv (w64 (x3 - x2)) 8)) ≤ (w64 (x3 - r15.1)))) r15.2.1)))))) else none) else none) else ((Q45.f k r29 x2 x3 (w64 ((w64 (x3 - 1)) - (w64 (r3.1 - x2))))).bind fun r18 => (if (decide ((w64 (r18.1 - x2)) < (w64 (x3 - r18.1)))) = true then ((Q46.f k r18.2.2 x2 r18.1 x4).bind fun r19 => (Q46.l0 k r19 (w64 (r18.1 + 1)) x3 x4 (decide ((w64 (Int.tdiv (w64 (x3 - x2)) 8)) ≤ (w64 (r18.1 - x2)))) r18.2.1)) else ((Q46.f k r18.2.2 (w64 (r18.1 + 1)) x3 x4).bind fun r20 => (Q46.l0 k r20 x2 r18.1 x4 (decide ((w64 (Int.tdiv (w64 (x3 - x2)) 8)) ≤ (w64 (x3 - r18.1)))) r18.2.1)))))) else (if (decide (0 < x2)) = true then (if 0 ≤ (w64 (x2 - 1)) ∧ (w64 (x2 - 1)) < (r29.length : Int) then (if 0 ≤ (w64 ((w64 (x3 - 1)) - (w64 (r3.1 - x2)))) ∧ (w64 ((w64 (x3 - 1)) - (w64 (r3.1 - x2)))) < (r29.length : Int) then ((Q24.f (gt r29 (w64 (x2 - 1))) (gt r29 (w64 ((w64 (x3 - 1)) - (w64 (r3.1 - x2)))))).bind fun r21 => (if (!r21) = true then ((Q44.f k r29 x2 x3 (w64 ((w64 (x3 - 1)) - (w64 (r3.1 - x2))))).bind fun r22 => (Q46.l0 k r22.2 r22.1 x3 x4 x5 x6)) else ((Q45.f k r29 x2 x3 (w64 ((w64 (x3 - 1)) - (w64 (r3.1 - x2))))).bind fun r23 => (if (decide ((w64 (r23.1 - x2)) < (w64 (x3 - r23.1)))) = true then ((Q46.f k r23.2.2 x2 r23.1 x4).bind fun r24 => (Q46.l0 k r24 (w64 (r23.1 + 1)) x3 x4 (decide ((w64 (Int.tdiv (w64 (x3 - x2)) 8)) ≤ (w64 (r23.1 - x2)))) r23.2.1)) else ((Q46.f k r23.2.2 (w64 (r23.1 + 1)) x3 x4).bind fun r25 => (Q46.l0 k r25 x2 r23.1 x4 (decide ((w64 (Int.tdiv (w64 (x3 - x2)) 8)) ≤ (w64 (x3 - r23.1)))) r23.2.1)))))) else none) else none) else ((Q45.f k r29 x2 x3 (w64 ((w64 (x3 - 1)) - (w64 (r3.1 - x2))))).bind fun r26 => (if (decide ((w64 (r26.1 - x2)) < (w64 (x3 - r26.1)))) = true then ((Q46.f k r26.2.2 x2 r26.1 x4).bind fun r27 => (Q46.l0 k r27 (w64 (r26.1 + 1)) x3 x4 (decide ((w64 (Int.tdiv (w64 (x3 - x2)) 8)) ≤ (w64 (r26.1 - x2)))) r26.2.1)) else ((Q46.f k r26.2.2 (w64 (r26.1 + 1)) x3 x4).bind fun r28 => (Q46.l0 k r28 x2 r26.1 x4 (decide ((w64 (Int.tdiv (w64 (x3 - x2)) 8)) ≤ (w64 (x3 - r26.1)))) r26.2.1))))))) else (if x5 = true then (if x6 = true then (if (decide (r3.2 = 1)) = true then ((Q43.f k x1 x2 x3).bind fun r12 => (if r12.1 = true then (some r12.2) else (if (decide (0 < x2)) = true then (if 0 ≤ (w64 (x2 - 1)) ∧ (w64 (x2 - 1)) < (r12.2.length : Int) then (if 0 ≤ r3.1 ∧ r3.1 < (r12.2.length : Int) then ((Q24.f (gt r12.2 (w64 (x2 - 1))) (gt r12.2 r3.1)).bind fun r4 => (if (!r4) = true then ((Q44.f k r12.2 x2 x3 r3.1).bind fun r5 => (Q46.l0 k r5.2 r5.1 x3 x4 x5 x6)) else ((Q45.f k r12.2 x2 x3 r3.1).bind fun r6 => (if (decide ((w64 (r6.1 - x2)) < (w64 (x3 - r6.1)))) = true then ((Q46.f k r6.2.2 x2 r6.1 x4).bind fun r7 => (Q46.l0 k r7 (w64 (r6.1 + 1)) x3 x4 (decide ((w64 (Int.tdiv (w64 (x3 - x2)) 8)) ≤ (w64 (r6.1 - x2)))) r6.2.1)) else ((Q46.f k r6.2.2 (w64 (r6.1 + 1)) x3 x4).bind fun r8 => (Q46.l0 k r8 x2 r6.1 x4 (decide ((w64 (Int.tdiv (w64 (x3 - x2)) 8)) ≤ (w64 (x3 - r6.1)))) r6.2.1)))))) else none) else none) else ((Q45.f k r12.2 x2 x3 r3.1).bind fun r9 => (if (decide ((w64 (r9.1 - x2)) < (w64 (x3 - r9.1)))) = true then ((Q46.f k r9.2.2 x2 r9.1 x4).bind fun r10 => (Q46.l0 k r10 (w64 (r9.1 + 1)) x3 x4 (decide ((w64 (Int.tdiv (w64 (x3 - x2)) 8)) ≤ (w64 (r9.1 - x2)))) r9.2.1)) else ((Q46.f k r9.2.2 (w64 (r9.1 + 1)) x3 x4).bind fun r11 => (Q46.l0 k r11 x2 r9.1 x4 (decide ((w64 (Int.tdiv (w64 (x3 - x2)) 8)) ≤ (w64 (x3 - r9.1)))) r9.2.1))))))) else (if (decide (0 < x2)) = true then (if 0 ≤ (w64 (x2 - 1)) ∧ (w64 (x2 - 1)) < (x1.length : Int) then (if 0 ≤ r3.1 ∧ r3.1 < (x1.length : Int) then ((Q24.f (gt x1 (w64 (x2 - 1))) (gt x1 r3.1)).bind fun r4 => (if (!r4) = true then ((Q44.f k x1 x2 x3 r3.1).bind fun r5 => (Q46.l0 k r5.2 r5.1 x3 x4 x5 x6)) else ((Q45.f k x1 x2 x3 r3.1).bind fun r6 => (if (decide ((w64 (r6.1 - x2)) < (w64 (x3 - r6.1)))) = true then ((Q46.f k r6.2.2 x2 r6.1 x4).bind fun r7 => (Q46.l0 k r7 (w64 (r6.1 + 1)) x3 x4 (decide ((w64 (Int.tdiv (w64 (x3 - x2)) 8)) ≤ (w64 (r6.1 - x2)))) r6.2.1)) else ((Q46.f k r6.2.2 (w64 (r6.1 + 1)) x3 x4).bind fun r8 => (Q46.l0 k r8 x2 r6.1 x4 (decide ((w64 (Int.tdiv (w64 (x3 - x2)) 8)) ≤ (w64 (x3 - r6.1)))) r6.2.1)))))) else none) else none) else ((Q45.f k x1 x2 x3 r3.1).bind fun r9 => (if (decide ((w64 (r9.1 - x2)) < (w64 (x3 - r9.1)))) = true then ((Q46.f k r9.2.2 x2 r9.1 x4).bind fun r10 => (Q46.l0 k r10 (w64 (r9.1 + 1)) x3 x4 (decide ((w64 (Int.tdiv (w64 (x3 - x2)) 8)) ≤ (w64 (r9.1 - x2)))) r9.2.1)) else ((Q46.f k r9.2.2 (w64 (r9.1 + 1)) x3 x4).bind fun r11 => (Q46.l0 k r11 x2 r9.1 x4 (decide ((w64 (Int.tdiv (w64 (x3 - x2)) 8)) ≤ (w64 (x3 - r9.1)))) r9.2.1)))))) else (if (decide (0 < x2)) = true then (if 0 ≤ (w64 (x2 - 1)) ∧ (w64 (x2 - 1)) < (x1.length : Int) then (if 0 ≤ r3.1 ∧ r3.1 < (x1.length : Int) then ((Q24.f (gt x1 (w64 (x2 - 1))) (gt x1 r3.1)).bind fun r13 => (if (!r13) = true then ((Q44.f k x1 x2 x3 r3.1).bind fun r14 => (Q46.l0 k r14.2 r14.1 x3 x4 x5 x6)) else ((Q45.f k x1 x2 x3 r3.1).bind fun r15 => (if (decide ((w64 (r15.1 - x2)) < (w64 (x3 - r15.1)))) = true then ((Q46.f k r15.2.2 x2 r15.1 x4).bind fun r16 => (Q46.l0 k r16 (w64 (r15.1 + 1)) x3 x4 (decide ((w64 (Int.tdiv (w64 (x3 - x2)) 8)) ≤ (w64 (r15.1 - x2)))) r15.2.1)) else ((Q46.f k r15.2.2 (w64 (r15.1 + 1)) x3 x4).bind fun r17 => (Q46.l0 k r17 x2 r15.1 x4 (decide ((w64 (Int.tdiv (w64 (x3 - x2)) 8)) ≤ (w64 (x3 - r15.1)))) r15.2.1)))))) else none) else none) else ((Q45.f k x1 x2 x3 r3.1).bind fun r18 => (if (decide ((w64 (r18.1 - x2)) < (w64 (x3 - r18.1)))) = true then ((Q46.f k r18.2.2 x2 r18.1 x4).bind fun r19 => (Q46.l0 k r19 (w64 (r18.1 + 1)) x3 x4 (decide ((w64 (Int.tdiv (w64 (x3 - x2)) 8)) ≤ (w64 (r18.1 - x2)))) r18.2.1)) else ((Q46.f k r18.2.2 (w64 (r18.1 + 1)) x3 x4).bind fun r20 => (Q46.l0 k r20 x2 r18.1 x4 (decide ((w64 (Int.tdiv (w64 (x3 - x2)) 8)) ≤ (w64 (x3 - r18.1)))) r18.2.1)))))) else (if (decide (0 < x2)) = true then (if 0 ≤ (w64 (x2 - 1)) ∧ (w64 (x2 - 1)) < (x1.length : Int) then (if 0 ≤ r3.1 ∧ r3.1 < (x1.length : Int) then ((Q24.f (gt x1 (w64 (x2 - 1))) (gt x1 r3.1)).bind fun r21 => (if (!r21) = true then ((Q44.f k x1 x2 x3 r3.1).bind fun r22 => (Q46.l0 k r22.2 r22.1 x3 x4 x5 x6)) else ((Q45.f k x1 x2 x3 r3.1).bind fun r23 => (if (decide ((w64 (r23.1 - x2)) < (w64 (x3 - r23.1)))) = true then ((Q46.f k r23.2.2 x2 r23.1 x4).bind fun r24 => (Q46.l0 k r24 (w64 (r23.1 + 1)) x3 x4 (decide ((w64 (Int.tdiv (w64 (x3 - x2)) 8)) ≤ (w64 (r23.1 - x2)))) r23.2.1)) else ((Q46.f k r23.2.2 (w64 (r23.1 + 1)) x3 x4).bind fun r25 => (Q46.l0 k r25 x2 r23.1 x4 (decide ((w64 (Int.tdiv (w64 (x3 - x2)) 8)) ≤ (w64 (x3 - r23.1)))) r23.2.1)))))) else none) else none) else ((Q45.f k x1 x2 x3 r3.1).bind fun r26 => (if (decide ((w64 (r26.1 - x2)) < (w64 (x3 - r26.1)))) = true then ((Q46.f k r26.2.2 x2 r26.1 x4).bind fun r27 => (Q46.l0 k r27 (w64 (r26.1 + 1)) x3 x4 (decide ((w64 (Int.tdiv (w64 (x3 - x2)) 8)) ≤ (w64 (r26.1 - x2)))) r26.2.1)) else ((Q46.f k r26.2.2 (w64 (r26.1 + 1)) x3 x4).bind fun r28 => (Q46.l0 k r28 x2 r26.1 x4 (decide ((w64 (Int.tdiv (w64 (x3 - x2)) 8)) ≤ (w64 (x3 - r26.1)))) r26.2.1))))))))))
def Q46.f : Nat → (List (Int)) → (Int) → (Int) → (Int) → Option (List (Int))
  | 0, _, _, _, _ => none
  | k + 1, a0, a1, a2, a3 => Q46.l0 k a0 a1 a2 a3 true true
end
theorem Q46.spec : ∀ {k : Nat} {a0 : List (Int)} {a1 : Int} {a2 : Int} {a3 : Int} {A1 : Option Addr} {c_1 : Nat} {r : List (Int)}, Q46.f k a0 a1 a2 a3 = some r →
    Spec Try.prog 164 [.slice A1 a0.length c_1, .int .i64 a1, .int .i64 a2, .int .i64 a3] [ownC 23 (.int .u32) a0 (.slice A1 a0.length c_1)] [] (fun v l => v = .tuple #[] ∧ l = [ownC 23 (.int .u32) r (.slice A1 r.length c_1)] ∧ r.length = a0.length) := by
  intro k
  induction k using Nat.strongRecOn with
  | _ k ih =>
  intro a0 a1 a2 a3 A1 c_1 r H
  cases k with
  | zero => rw [Q46.f] at H; cases H
  | succ kr =>
  refine Spec.enter Try.func164 rfl (by kernel_rfl) (by kernel_rfl) fun w0 F0 h0 => ?_
  rw [Q46.f] at H
  refine J.seq (J.region ?_)
  refine RJ.run ttok 1 rfl ?_
  refine RJ.fin [(0, .slice A1 a0.length c_1), (1, .int .i64 a1), (2, .int .i64 a2), (3, .int .i64 a3), (8, .bool true)] rfl ?_
  refine J.seq (J.region ?_)
  refine RJ.run ttok 1 rfl ?_
  refine RJ.fin [(0, _), (1, _), (2, _), (3, _), (8, _), (9, .bool true)] rfl ?_
  refine J.block ?_
  have h59 := ((h0.only [0] rfl).rds [] rfl)
  refine J.loop (fun kk env w => ∃ (x1 : List (Int)) (x2 : Int) (x3 : Int) (x4 : Int) (x5 : Bool) (x6 : Bool), env = [(0, .slice A1 x1.length c_1), (1, .int .i64 x2), (2, .int .i64 x3), (3, .int .i64 x4), (8, .bool x5), (9, .bool x6)] ∧ St w0 F0 [ownC 23 (.int .u32) x1 (.slice A1 x1.length c_1)] [] w ∧ Q46.l0 kk x1 x2 x3 x4 x5 x6 = some r ∧ kk ≤ kr ∧ x1.length = a0.length) (k := kr) ⟨a0, a1, a2, a3, true, true, rfl, h59, H, Nat.le_refl _, (rfl : a0.length = a0.length)⟩ ?_
  rintro k1 env w1 ⟨x1, x2, x3, x4, x5, x6, rfl, h1, H, hk1, e1⟩
  cases k1 with
  | zero => exact nomatch (show none = some r from H)
  | succ k1 =>
    rw [Q46.l0] at H
    refine J.block (J.seq (J.region ?_))
    refine RJ.run ttok 4 rfl ?_
    refine RJ.fin [(0, _), (1, _), (2, _), (3, _), (8, _), (9, _), (10, .int .i64 (w64 (x3 - x2)))] rfl ?_
    refine J.seq (J.seq (J.region ?_))
    refine RJ.run ttok 2 rfl ?_
    refine RJ.fin [(0, _), (1, _), (2, _), (3, _), (8, _), (9, _), (10, _), (23, .bool (decide ((w64 (x3 - x2)) ≤ 12)))] rfl ?_
    refine J.cond rfl (fun c1 => ?_) (fun c1 => ?_)
    · replace H := ite_t c1 H
      refine J.seq (J.region ?_)
      refine RJ.run ttok 3 rfl ?_
      obtain ⟨r1, q1, H⟩ := bind_t H
      refine RJ.op rfl rfl (op_call [0] (Q38.spec q1) rfl rfl rfl h1 rfl gnil) ?_
      rintro _ w2 ⟨_, ⟨rfl, rfl, q2⟩, h2⟩
      replace h2 : St w0 F0 [ownC 23 (.int .u32) r1 (.slice A1 r1.length c_1)] _ _ := h2
      have e2 : r1.length = a0.length := q2.trans e1
      refine RJ.fin [] rfl ?_
      refine J.ret ?_
      obtain rfl := Option.some.inj H
      exact ⟨_, _, _, (results_slots rfl), ⟨rfl, rfl, e2⟩, h2.only [0] rfl⟩
    replace H := ite_f c1 H
    refine J.skip ?_
    refine J.seq (J.seq (J.region ?_))
    refine RJ.run ttok 2 rfl ?_
    refine RJ.fin [(0, _), (1, _), (2, _), (3, _), (8, _), (9, _), (10, _), (29, .bool (decide (x4 = 0)))] rfl ?_
    refine J.cond rfl (fun c2 => ?_) (fun c2 => ?_)
    · replace H := ite_t c2 H
      refine J.seq (J.region ?_)
      refine RJ.run ttok 3 rfl ?_
      obtain ⟨r2, q3, H⟩ := bind_t H
      refine RJ.op rfl rfl (op_call [0] (Q37.spec q3) rfl rfl rfl h1 rfl gnil) ?_
      rintro _ w3 ⟨_, ⟨rfl, rfl, q4⟩, h3⟩
      replace h3 : St w0 F0 [ownC 23 (.int .u32) r2 (.slice A1 r2.length c_1)] _ _ := h3
      have e3 : r2.length = a0.length := q4.trans e1
      refine RJ.fin [] rfl ?_
      refine J.ret ?_
      obtain rfl := Option.some.inj H
      exact ⟨_, _, _, (results_slots rfl), ⟨rfl, rfl, e3⟩, h3.only [0] rfl⟩
    replace H := ite_f c2 H
    refine J.skip ?_
    refine J.seq (J.seq (J.region ?_))
    refine RJ.run ttok 2 rfl ?_
    refine RJ.fin [(0, _), (1, _), (2, _), (3, _), (8, _), (9, _), (10, _), (35, .bool (!x5))] rfl ?_
    refine J.midS (fun env w => ∃ (k2 : Nat) (x7 : List (Int)) (x8 : Int), env = [(0, .slice A1 x7.length c_1), (1, .int .i64 x2), (2, .int .i64 x3), (3, .int .i64 x8), (8, .bool x5), (9, .bool x6), (10, .int .i64 (w64 (x3 - x2)))] ∧ St w0 F0 [ownC 23 (.int .u32) x7 (.slice A1 x7.length c_1)] [] w ∧ ((Q36.f x7 x2 x3).bind fun r3 => (if (decide (r3.2 = 2)) = true then ((Q47.f k2 x7 x2 x3).bind fun r29 => (if x5 = true then (if x6 = true then (if (decide (1 = 1)) = true then ((Q43.f k2 r29 x2 x3).bind fun r12 => (if r12.1 = true then (some r12.2) else (if (decide (0 < x2)) = true then (if 0 ≤ (w64 (x2 - 1)) ∧ (w64 (x2 - 1)) < (r12.2.length : Int) then (if 0 ≤ (w64 ((w64 (x3 - 1)) - (w64 (r3.1 - x2)))) ∧ (w64 ((w64 (x3 - 1)) - (w64 (r3.1 - x2)))) < (r12.2.length : Int) then ((Q24.f (gt r12.2 (w64 (x2 - 1))) (gt r12.2 (w64 ((w64 (x3 - 1)) - (w64 (r3.1 - x2)))))).bind fun r4 => (if (!r4) = true then ((Q44.f k2 r12.2 x2 x3 (w64 ((w64 (x3 - 1)) - (w64 (r3.1 - x2))))).bind fun r5 => (Q46.l0 k2 r5.2 r5.1 x3 x8 x5 x6)) else ((Q45.f k2 r12.2 x2 x3 (w64 ((w64 (x3 - 1)) - (w64 (r3.1 - x2))))).bind fun r6 => (if (decide ((w64 (r6.1 - x2)) < (w64 (x3 - r6.1)))) = true then ((Q46.f k2 r6.2.2 x2 r6.1 x8).bind fun r7 => (Q46.l0 k2 r7 (w64 (r6.1 + 1)) x3 x8 (decide ((w64 (Int.tdiv (w64 (x3 - x2)) 8)) ≤ (w64 (r6.1 - x2)))) r6.2.1)) else ((Q46.f k2 r6.2.2 (w64 (r6.1 + 1)) x3 x8).bind fun r8 => (Q46.l0 k2 r8 x2 r6.1 x8 (decide ((w64 (Int.tdiv (w64 (x3 - x2)) 8)) ≤ (w64 (x3 - r6.1)))) r6.2.1)))))) else none) else none) else ((Q45.f k2 r12.2 x2 x3 (w64 ((w64 (x3 - 1)) - (w64 (r3.1 - x2))))).bind fun r9 => (if (decide ((w64 (r9.1 - x2)) < (w64 (x3 - r9.1)))) = true then ((Q46.f k2 r9.2.2 x2 r9.1 x8).bind fun r10 => (Q46.l0 k2 r10 (w64 (r9.1 + 1)) x3 x8 (decide ((w64 (Int.tdiv (w64 (x3 - x2)) 8)) ≤ (w64 (r9.1 - x2)))) r9.2.1)) else ((Q46.f k2 r9.2.2 (w64 (r9.1 + 1)) x3 x8).bind fun r11 => (Q46.l0 k2 r11 x2 r9.1 x8 (decide ((w64 (Int.tdiv (w64 (x3 - x2)) 8)) ≤ (w64 (x3 - r9.1)))) r9.2.1))))))) else (if (decide (0 < x2)) = true then (if 0 ≤ (w64 (x2 - 1)) ∧ (w64 (x2 - 1)) < (r29.length : Int) then (if 0 ≤ (w64 ((w64 (x3 - 1)) - (w64 (r3.1 - x2)))) ∧ (w64 ((w64 (x3 - 1)) - (w64 (r3.1 - x2)))) < (r29.length : Int) then ((Q24.f (gt r29 (w64 (x2 - 1))) (gt r29 (w64 ((w64 (x3 - 1)) - (w64 (r3.1 - x2)))))).bind fun r4 => (if (!r4) = true then ((Q44.f k2 r29 x2 x3 (w64 ((w64 (x3 - 1)) - (w64 (r3.1 - x2))))).bind fun r5 => (Q46.l0 k2 r5.2 r5.1 x3 x8 x5 x6)) else ((Q45.f k2 r29 x2 x3 (w64 ((w64 (x3 - 1)) - (w64 (r3.1 - x2))))).bind fun r6 => (if (decide ((w64 (r6.1 - x2)) < (w64 (x3 - r6.1)))) = true then ((Q46.f k2 r6.2.2 x2 r6.1 x8).bind fun r7 => (Q46.l0 k2 r7 (w64 (r6.1 + 1)) x3 x8 (decide ((w64 (Int.tdiv (w64 (x3 - x2)) 8)) ≤ (w64 (r6.1 - x2)))) r6.2.1)) else ((Q46.f k2 r6.2.2 (w64 (r6.1 + 1)) x3 x8).bind fun r8 => (Q46.l0 k2 r8 x2 r6.1 x8 (decide ((w64 (Int.tdiv (w64 (x3 - x2)) 8)) ≤ (w64 (x3 - r6.1)))) r6.2.1)))))) else none) else none) else ((Q45.f k2 r29 x2 x3 (w64 ((w64 (x3 - 1)) - (w64 (r3.1 - x2))))).bind fun r9 => (if (decide ((w64 (r9.1 - x2)) < (w64 (x3 - r9.1)))) = true then ((Q46.f k2 r9.2.2 x2 r9.1 x8).bind fun r10 => (Q46.l0 k2 r10 (w64 (r9.1 + 1)) x3 x8 (decide ((w64 (Int.tdiv (w64 (x3 - x2)) 8)) ≤ (w64 (r9.1 - x2)))) r9.2.1)) else ((Q46.f k2 r9.2.2 (w64 (r9.1 + 1)) x3 x8).bind fun r11 => (Q46.l0 k2 r11 x2 r9.1 x8 (decide ((w64 (Int.tdiv (w64 (x3 - x2)) 8)) ≤ (w64 (x3 - r9.1)))) r9.2.1)))))) else (if (decide (0 < x2)) = true then (if 0 ≤ (w64 (x2 - 1)) ∧ (w64 (x2 - 1)) < (r29.length : Int) then (if 0 ≤ (w64 ((w64 (x3 - 1)) - (w64 (r3.1 - x2)))) ∧ (w64 ((w64 (x3 - 1)) - (w64 (r3.1 - x2)))) < (r29.length : Int) then ((Q24.f (gt r29 (w64 (x2 - 1))) (gt r29 (w64 ((w64 (x3 - 1)) - (w64 (r3.1 - x2)))))).bind fun r13 => (if (!r13) = true then ((Q44.f k2 r29 x2 x3 (w64 ((w64 (x3 - 1)) - (w64 (r3.1 - x2))))).bind fun r14 => (Q46.l0 k2 r14.2 r14.1 x3 x8 x5 x6)) else ((Q45.f k2 r29 x2 x3 (w64 ((w64 (x3 - 1)) - (w64 (r3.1 - x2))))).bind fun r15 => (if (decide ((w64 (r15.1 - x2)) < (w64 (x3 - r15.1)))) = true then ((Q46.f k2 r15.2.2 x2 r15.1 x8).bind fun r16 => (Q46.l0 k2 r16 (w64 (r15.1 + 1)) x3 x8 (decide ((w64 (Int.tdiv (w64 (x3 - x2)) 8)) ≤ (w64 (r15.1 - x2)))) r15.2.1)) else ((Q46.f k2 r15.2.2 (w64 (r15.1 + 1)) x3 x8).bind fun r17 => (Q46.l0 k2 r17 x2 r15.1 x8 (decide ((w64 (Int.tdiv (w64 (x3 - x2)) 8)) ≤ (w64 (x3 - r15.1)))) r15.2.1)))))) else none) else none) else ((Q45.f k2 r29 x2 x3 (w64 ((w64 (x3 - 1)) - (w64 (r3.1 - x2))))).bind fun r18 => (if (decide ((w64 (r18.1 - x2)) < (w64 (x3 - r18.1)))) = true then ((Q46.f k2 r18.2.2 x2 r18.1 x8).bind fun r19 => (Q46.l0 k2 r19 (w64 (r18.1 + 1)) x3 x8 (decide ((w64 (Int.tdiv (w64 (x3 - x2)) 8)) ≤ (w64 (r18.1 - x2)))) r18.2.1)) else ((Q46.f k2 r18.2.2 (w64 (r18.1 + 1)) x3 x8).bind fun r20 => (Q46.l0 k2 r20 x2 r18.1 x8 (decide ((w64 (Int.tdiv (w64 (x3 - x2)) 8)) ≤ (w64 (x3 - r18.1)))) r18.2.1)))))) else (if (decide (0 < x2)) = true then (if 0 ≤ (w64 (x2 - 1)) ∧ (w64 (x2 - 1)) < (r29.length : Int) then (if 0 ≤ (w64 ((w64 (x3 - 1)) - (w64 (r3.1 - x2)))) ∧ (w64 ((w64 (x3 - 1)) - (w64 (r3.1 - x2)))) < (r29.length : Int) then ((Q24.f (gt r29 (w64 (x2 - 1))) (gt r29 (w64 ((w64 (x3 - 1)) - (w64 (r3.1 - x2)))))).bind fun r21 => (if (!r21) = true then ((Q44.f k2 r29 x2 x3 (w64 ((w64 (x3 - 1)) - (w64 (r3.1 - x2))))).bind fun r22 => (Q46.l0 k2 r22.2 r22.1 x3 x8 x5 x6)) else ((Q45.f k2 r29 x2 x3 (w64 ((w64 (x3 - 1)) - (w64 (r3.1 - x2))))).bind fun r23 => (if (decide ((w64 (r23.1 - x2)) < (w64 (x3 - r23.1)))) = true then ((Q46.f k2 r23.2.2 x2 r23.1 x8).bind fun r24 => (Q46.l0 k2 r24 (w64 (r23.1 + 1)) x3 x8 (decide ((w64 (Int.tdiv (w64 (x3 - x2)) 8)) ≤ (w64 (r23.1 - x2)))) r23.2.1)) else ((Q46.f k2 r23.2.2 (w64 (r23.1 + 1)) x3 x8).bind fun r25 => (Q46.l0 k2 r25 x2 r23.1 x8 (decide ((w64 (Int.tdiv (w64 (x3 - x2)) 8)) ≤ (w64 (x3 - r23.1)))) r23.2.1)))))) else none) else none) else ((Q45.f k2 r29 x2 x3 (w64 ((w64 (x3 - 1)) - (w64 (r3.1 - x2))))).bind fun r26 => (if (decide ((w64 (r26.1 - x2)) < (w64 (x3 - r26.1)))) = true then ((Q46.f k2 r26.2.2 x2 r26.1 x8).bind fun r27 => (Q46.l0 k2 r27 (w64 (r26.1 + 1)) x3 x8 (decide ((w64 (Int.tdiv (w64 (x3 - x2)) 8)) ≤ (w64 (r26.1 - x2)))) r26.2.1)) else ((Q46.f k2 r26.2.2 (w64 (r26.1 + 1)) x3 x8).bind fun r28 => (Q46.l0 k2 r28 x2 r26.1 x8 (decide ((w64 (Int.tdiv (w64 (x3 - x2)) 8)) ≤ (w64 (x3 - r26.1)))) r26.2.1))))))) else (if x5 = true then (if x6 = true then (if (decide (r3.2 = 1)) = true then ((Q43.f k2 x7 x2 x3).bind fun r12 => (if r12.1 = true then (some r12.2) else (if (decide (0 < x2)) = true then (if 0 ≤ (w64 (x2 - 1)) ∧ (w64 (x2 - 1)) < (r12.2.length : Int) then (if 0 ≤ r3.1 ∧ r3.1 < (r12.2.length : Int) then ((Q24.f (gt r12.2 (w64 (x2 - 1))) (gt r12.2 r3.1)).bind fun r4 => (if (!r4) = true then ((Q44.f k2 r12.2 x2 x3 r3.1).bind fun r5 => (Q46.l0 k2 r5.2 r5.1 x3 x8 x5 x6)) else ((Q45.f k2 r12.2 x2 x3 r3.1).bind fun r6 => (if (decide ((w64 (r6.1 - x2)) < (w64 (x3 - r6.1)))) = true then ((Q46.f k2 r6.2.2 x2 r6.1 x8).bind fun r7 => (Q46.l0 k2 r7 (w64 (r6.1 + 1)) x3 x8 (decide ((w64 (Int.tdiv (w64 (x3 - x2)) 8)) ≤ (w64 (r6.1 - x2)))) r6.2.1)) else ((Q46.f k2 r6.2.2 (w64 (r6.1 + 1)) x3 x8).bind fun r8 => (Q46.l0 k2 r8 x2 r6.1 x8 (decide ((w64 (Int.tdiv (w64 (x3 - x2)) 8)) ≤ (w64 (x3 - r6.1)))) r6.2.1)))))) else none) else none) else ((Q45.f k2 r12.2 x2 x3 r3.1).bind fun r9 => (if (decide ((w64 (r9.1 - x2)) < (w64 (x3 - r9.1)))) = true then ((Q46.f k2 r9.2.2 x2 r9.1 x8).bind fun r10 => (Q46.l0 k2 r10 (w64 (r9.1 + 1)) x3 x8 (decide ((w64 (Int.tdiv (w64 (x3 - x2)) 8)) ≤ (w64 (r9.1 - x2)))) r9.2.1)) else ((Q46.f k2 r9.2.2 (w64 (r9.1 + 1)) x3 x8).bind fun r11 => (Q46.l0 k2 r11 x2 r9.1 x8 (decide ((w64 (Int.tdiv (w64 (x3 - x2)) 8)) ≤ (w64 (x3 - r9.1)))) r9.2.1))))))) else (if (decide (0 < x2)) = true then (if 0 ≤ (w64 (x2 - 1)) ∧ (w64 (x2 - 1)) < (x7.length : Int) then (if 0 ≤ r3.1 ∧ r3.1 < (x7.length : Int) then ((Q24.f (gt x7 (w64 (x2 - 1))) (gt x7 r3.1)).bind fun r4 => (if (!r4) = true then ((Q44.f k2 x7 x2 x3 r3.1).bind fun r5 => (Q46.l0 k2 r5.2 r5.1 x3 x8 x5 x6)) else ((Q45.f k2 x7 x2 x3 r3.1).bind fun r6 => (if (decide ((w64 (r6.1 - x2)) < (w64 (x3 - r6.1)))) = true then ((Q46.f k2 r6.2.2 x2 r6.1 x8).bind fun r7 => (Q46.l0 k2 r7 (w64 (r6.1 + 1)) x3 x8 (decide ((w64 (Int.tdiv (w64 (x3 - x2)) 8)) ≤ (w64 (r6.1 - x2)))) r6.2.1)) else ((Q46.f k2 r6.2.2 (w64 (r6.1 + 1)) x3 x8).bind fun r8 => (Q46.l0 k2 r8 x2 r6.1 x8 (decide ((w64 (Int.tdiv (w64 (x3 - x2)) 8)) ≤ (w64 (x3 - r6.1)))) r6.2.1)))))) else none) else none) else ((Q45.f k2 x7 x2 x3 r3.1).bind fun r9 => (if (decide ((w64 (r9.1 - x2)) < (w64 (x3 - r9.1)))) = true then ((Q46.f k2 r9.2.2 x2 r9.1 x8).bind fun r10 => (Q46.l0 k2 r10 (w64 (r9.1 + 1)) x3 x8 (decide ((w64 (Int.tdiv (w64 (x3 - x2)) 8)) ≤ (w64 (r9.1 - x2)))) r9.2.1)) else ((Q46.f k2 r9.2.2 (w64 (r9.1 + 1)) x3 x8).bind fun r11 => (Q46.l0 k2 r11 x2 r9.1 x8 (decide ((w64 (Int.tdiv (w64 (x3 - x2)) 8)) ≤ (w64 (x3 - r9.1)))) r9.2.1)))))) else (if (decide (0 < x2)) = true then (if 0 ≤ (w64 (x2 - 1)) ∧ (w64 (x2 - 1)) < (x7.length : Int) then (if 0 ≤ r3.1 ∧ r3.1 < (x7.length : Int) then ((Q24.f (gt x7 (w64 (x2 - 1))) (gt x7 r3.1)).bind fun r13 => (if (!r13) = true then ((Q44.f k2 x7 x2 x3 r3.1).bind fun r14 => (Q46.l0 k2 r14.2 r14.1 x3 x8 x5 x6)) else ((Q45.f k2 x7 x2 x3 r3.1).bind fun r15 => (if (decide ((w64 (r15.1 - x2)) < (w64 (x3 - r15.1)))) = true then ((Q46.f k2 r15.2.2 x2 r15.1 x8).bind fun r16 => (Q46.l0 k2 r16 (w64 (r15.1 + 1)) x3 x8 (decide ((w64 (Int.tdiv (w64 (x3 - x2)) 8)) ≤ (w64 (r15.1 - x2)))) r15.2.1)) else ((Q46.f k2 r15.2.2 (w64 (r15.1 + 1)) x3 x8).bind fun r17 => (Q46.l0 k2 r17 x2 r15.1 x8 (decide ((w64 (Int.tdiv (w64 (x3 - x2)) 8)) ≤ (w64 (x3 - r15.1)))) r15.2.1)))))) else none) else none) else ((Q45.f k2 x7 x2 x3 r3.1).bind fun r18 => (if (decide ((w64 (r18.1 - x2)) < (w64 (x3 - r18.1)))) = true then ((Q46.f k2 r18.2.2 x2 r18.1 x8).bind fun r19 => (Q46.l0 k2 r19 (w64 (r18.1 + 1)) x3 x8 (decide ((w64 (Int.tdiv (w64 (x3 - x2)) 8)) ≤ (w64 (r18.1 - x2)))) r18.2.1)) else ((Q46.f k2 r18.2.2 (w64 (r18.1 + 1)) x3 x8).bind fun r20 => (Q46.l0 k2 r20 x2 r18.1 x8 (decide ((w64 (Int.tdiv (w64 (x3 - x2)) 8)) ≤ (w64 (x3 - r18.1)))) r18.2.1)))))) else (if (decide (0 < x2)) = true then (if 0 ≤ (w64 (x2 - 1)) ∧ (w64 (x2 - 1)) < (x7.length : Int) then (if 0 ≤ r3.1 ∧ r3.1 < (x7.length : Int) then ((Q24.f (gt x7 (w64 (x2 - 1))) (gt x7 r3.1)).bind fun r21 => (if (!r21) = true then ((Q44.f k2 x7 x2 x3 r3.1).bind fun r22 => (Q46.l0 k2 r22.2 r22.1 x3 x8 x5 x6)) else ((Q45.f k2 x7 x2 x3 r3.1).bind fun r23 => (if (decide ((w64 (r23.1 - x2)) < (w64 (x3 - r23.1)))) = true then ((Q46.f k2 r23.2.2 x2 r23.1 x8).bind fun r24 => (Q46.l0 k2 r24 (w64 (r23.1 + 1)) x3 x8 (decide ((w64 (Int.tdiv (w64 (x3 - x2)) 8)) ≤ (w64 (r23.1 - x2)))) r23.2.1)) else ((Q46.f k2 r23.2.2 (w64 (r23.1 + 1)) x3 x8).bind fun r25 => (Q46.l0 k2 r25 x2 r23.1 x8 (decide ((w64 (Int.tdiv (w64 (x3 - x2)) 8)) ≤ (w64 (x3 - r23.1)))) r23.2.1)))))) else none) else none) else ((Q45.f k2 x7 x2 x3 r3.1).bind fun r26 => (if (decide ((w64 (r26.1 - x2)) < (w64 (x3 - r26.1)))) = true then ((Q46.f k2 r26.2.2 x2 r26.1 x8).bind fun r27 => (Q46.l0 k2 r27 (w64 (r26.1 + 1)) x3 x8 (decide ((w64 (Int.tdiv (w64 (x3 - x2)) 8)) ≤ (w64 (r26.1 - x2)))) r26.2.1)) else ((Q46.f k2 r26.2.2 (w64 (r26.1 + 1)) x3 x8).bind fun r28 => (Q46.l0 k2 r28 x2 r26.1 x8 (decide ((w64 (Int.tdiv (w64 (x3 - x2)) 8)) ≤ (w64 (x3 - r26.1)))) r26.2.1)))))))) = some r ∧ k2 ≤ k1 ∧ x7.length = a0.length) ?_ ?_
    · refine J.cond rfl (fun c20 => ?_) (fun c20 => ?_)
      · replace H := ite_t c20 H
        refine J.seq (J.region ?_)
        refine RJ.run ttok 3 rfl ?_
        obtain ⟨r30, q55, H⟩ := bind_t H
        refine RJ.op rfl rfl (op_call [0] (Q35.spec q55) rfl rfl rfl h1 rfl gnil) ?_
        rintro _ w37 ⟨_, ⟨rfl, rfl, q56⟩, h56⟩
        replace h56 : St w0 F0 [ownC 23 (.int .u32) r30 (.slice A1 r30.length c_1)] _ _ := h56
        have e33 : r30.length = a0.length := q56.trans e1
        refine RJ.fin [(0, _), (1, _), (2, _), (3, _), (8, _), (9, _), (10, _)] rfl ?_
        refine J.envEq (env' := [(0, .slice A1 r30.length c_1), (1, .int .i64 x2), (2, .int .i64 x3), (3, .int .i64 x4), (8, .bool x5), (9, .bool x6), (10, .int .i64 (w64 (x3 - x2)))]) (by simp only [q56]) ?_
        refine J.region ?_
        refine RJ.run ttok 3 rfl ?_
        refine RJ.fin [(0, _), (1, _), (2, _), (3, .int .i64 (w64 (x4 - 1))), (8, _), (9, _), (10, _)] rfl ?_
        have h57 := ((h56.only [0] rfl).rds [] rfl)
        exact ⟨k1, r30, (w64 (x4 - 1)), rfl, h57, H, Nat.le_refl _, e33⟩
      replace H := ite_f c20 H
      refine J.narrow [(0, _), (1, _), (2, _), (3, _), (8, _), (9, _), (10, _)] rfl ?_
      refine J.skip ?_
      have h58 := ((h1.only [0] rfl).rds [] rfl)
      exact ⟨k1, x1, x4, rfl, h58, H, Nat.le_refl _, e1⟩
    rintro env w5 ⟨k2, x7, x8, rfl, h4, H, hk2, e4⟩
    refine J.seq (J.region ?_)
    refine RJ.run ttok 3 rfl ?_
    obtain ⟨r3, q5, H⟩ := bind_t H
    refine RJ.op rfl rfl (op_call [] (Q36.spec q5) rfl rfl rfl h4 rfl (gcons (Gives.of 0 rfl own_rd) gnil)) ?_
    rintro _ w6 ⟨_, ⟨rfl, rfl⟩, h5⟩
    replace h5 : St w0 F0 [_] _ _ := h5
    refine RJ.run ttok 5 rfl ?_
    refine RJ.fin [(0, _), (1, _), (2, _), (3, _), (8, _), (9, _), (10, _), (11, .int .i64 r3.1), (12, .int .i64 r3.2)] rfl ?_
    refine J.seq (J.seq (J.region ?_))
    refine RJ.run ttok 2 rfl ?_
    refine RJ.fin [(0, _), (1, _), (2, _), (3, _), (8, _), (9, _), (10, _), (11, _), (12, _), (50, .bool (decide (r3.2 = 2)))] rfl ?_
    refine J.midS (fun env w => ∃ (k3 : Nat) (x9 : List (Int)) (x10 : Int) (x11 : Int), env = [(0, .slice A1 x9.length c_1), (1, .int .i64 x2), (2, .int .i64 x3), (3, .int .i64 x8), (8, .bool x5), (9, .bool x6), (10, .int .i64 (w64 (x3 - x2))), (11, .int .i64 x10), (12, .int .i64 x11)] ∧ St w0 F0 [ownC 23 (.int .u32) x9 (.slice A1 x9.length c_1)] [] w ∧ (if x5 = true then (if x6 = true then (if (decide (x11 = 1)) = true then ((Q43.f k3 x9 x2 x3).bind fun r12 => (if r12.1 = true then (some r12.2) else (if (decide (0 < x2)) = true then (if 0 ≤ (w64 (x2 - 1)) ∧ (w64 (x2 - 1)) < (r12.2.length : Int) then (if 0 ≤ x10 ∧ x10 < (r12.2.length : Int) then ((Q24.f (gt r12.2 (w64 (x2 - 1))) (gt r12.2 x10)).bind fun r4 => (if (!r4) = true then ((Q44.f k3 r12.2 x2 x3 x10).bind fun r5 => (Q46.l0 k3 r5.2 r5.1 x3 x8 x5 x6)) else ((Q45.f k3 r12.2 x2 x3 x10).bind fun r6 => (if (decide ((w64 (r6.1 - x2)) < (w64 (x3 - r6.1)))) = true then ((Q46.f k3 r6.2.2 x2 r6.1 x8).bind fun r7 => (Q46.l0 k3 r7 (w64 (r6.1 + 1)) x3 x8 (decide ((w64 (Int.tdiv (w64 (x3 - x2)) 8)) ≤ (w64 (r6.1 - x2)))) r6.2.1)) else ((Q46.f k3 r6.2.2 (w64 (r6.1 + 1)) x3 x8).bind fun r8 => (Q46.l0 k3 r8 x2 r6.1 x8 (decide ((w64 (Int.tdiv (w64 (x3 - x2)) 8)) ≤ (w64 (x3 - r6.1)))) r6.2.1)))))) else none) else none) else ((Q45.f k3 r12.2 x2 x3 x10).bind fun r9 => (if (decide ((w64 (r9.1 - x2)) < (w64 (x3 - r9.1)))) = true then ((Q46.f k3 r9.2.2 x2 r9.1 x8).bind fun r10 => (Q46.l0 k3 r10 (w64 (r9.1 + 1)) x3 x8 (decide ((w64 (Int.tdiv (w64 (x3 - x2)) 8)) ≤ (w64 (r9.1 - x2)))) r9.2.1)) else ((Q46.f k3 r9.2.2 (w64 (r9.1 + 1)) x3 x8).bind fun r11 => (Q46.l0 k3 r11 x2 r9.1 x8 (decide ((w64 (Int.tdiv (w64 (x3 - x2)) 8)) ≤ (w64 (x3 - r9.1)))) r9.2.1))))))) else (if (decide (0 < x2)) = true then (if 0 ≤ (w64 (x2 - 1)) ∧ (w64 (x2 - 1)) < (x9.length : Int) then (if 0 ≤ x10 ∧ x10 < (x9.length : Int) then ((Q24.f (gt x9 (w64 (x2 - 1))) (gt x9 x10)).bind fun r4 => (if (!r4) = true then ((Q44.f k3 x9 x2 x3 x10).bind fun r5 => (Q46.l0 k3 r5.2 r5.1 x3 x8 x5 x6)) else ((Q45.f k3 x9 x2 x3 x10).bind fun r6 => (if (decide ((w64 (r6.1 - x2)) < (w64 (x3 - r6.1)))) = true then ((Q46.f k3 r6.2.2 x2 r6.1 x8).bind fun r7 => (Q46.l0 k3 r7 (w64 (r6.1 + 1)) x3 x8 (decide ((w64 (Int.tdiv (w64 (x3 - x2)) 8)) ≤ (w64 (r6.1 - x2)))) r6.2.1)) else ((Q46.f k3 r6.2.2 (w64 (r6.1 + 1)) x3 x8).bind fun r8 => (Q46.l0 k3 r8 x2 r6.1 x8 (decide ((w64 (Int.tdiv (w64 (x3 - x2)) 8)) ≤ (w64 (x3 - r6.1)))) r6.2.1)))))) else none) else none) else ((Q45.f k3 x9 x2 x3 x10).bind fun r9 => (if (decide ((w64 (r9.1 - x2)) < (w64 (x3 - r9.1)))) = true then ((Q46.f k3 r9.2.2 x2 r9.1 x8).bind fun r10 => (Q46.l0 k3 r10 (w64 (r9.1 + 1)) x3 x8 (decide ((w64 (Int.tdiv (w64 (x3 - x2)) 8)) ≤ (w64 (r9.1 - x2)))) r9.2.1)) else ((Q46.f k3 r9.2.2 (w64 (r9.1 + 1)) x3 x8).bind fun r11 => (Q46.l0 k3 r11 x2 r9.1 x8 (decide ((w64 (Int.tdiv (w64 (x3 - x2)) 8)) ≤ (w64 (x3 - r9.1)))) r9.2.1)))))) else (if (decide (0 < x2)) = true then (if 0 ≤ (w64 (x2 - 1)) ∧ (w64 (x2 - 1)) < (x9.length : Int) then (if 0 ≤ x10 ∧ x10 < (x9.length : Int) then ((Q24.f (gt x9 (w64 (x2 - 1))) (gt x9 x10)).bind fun r13 => (if (!r13) = true then ((Q44.f k3 x9 x2 x3 x10).bind fun r14 => (Q46.l0 k3 r14.2 r14.1 x3 x8 x5 x6)) else ((Q45.f k3 x9 x2 x3 x10).bind fun r15 => (if (decide ((w64 (r15.1 - x2)) < (w64 (x3 - r15.1)))) = true then ((Q46.f k3 r15.2.2 x2 r15.1 x8).bind fun r16 => (Q46.l0 k3 r16 (w64 (r15.1 + 1)) x3 x8 (decide ((w64 (Int.tdiv (w64 (x3 - x2)) 8)) ≤ (w64 (r15.1 - x2)))) r15.2.1)) else ((Q46.f k3 r15.2.2 (w64 (r15.1 + 1)) x3 x8).bind fun r17 => (Q46.l0 k3 r17 x2 r15.1 x8 (decide ((w64 (Int.tdiv (w64 (x3 - x2)) 8)) ≤ (w64 (x3 - r15.1)))) r15.2.1)))))) else none) else none) else ((Q45.f k3 x9 x2 x3 x10).bind fun r18 => (if (decide ((w64 (r18.1 - x2)) < (w64 (x3 - r18.1)))) = true then ((Q46.f k3 r18.2.2 x2 r18.1 x8).bind fun r19 => (Q46.l0 k3 r19 (w64 (r18.1 + 1)) x3 x8 (decide ((w64 (Int.tdiv (w64 (x3 - x2)) 8)) ≤ (w64 (r18.1 - x2)))) r18.2.1)) else ((Q46.f k3 r18.2.2 (w64 (r18.1 + 1)) x3 x8).bind fun r20 => (Q46.l0 k3 r20 x2 r18.1 x8 (decide ((w64 (Int.tdiv (w64 (x3 - x2)) 8)) ≤ (w64 (x3 - r18.1)))) r18.2.1)))))) else (if (decide (0 < x2)) = true then (if 0 ≤ (w64 (x2 - 1)) ∧ (w64 (x2 - 1)) < (x9.length : Int) then (if 0 ≤ x10 ∧ x10 < (x9.length : Int) then ((Q24.f (gt x9 (w64 (x2 - 1))) (gt x9 x10)).bind fun r21 => (if (!r21) = true then ((Q44.f k3 x9 x2 x3 x10).bind fun r22 => (Q46.l0 k3 r22.2 r22.1 x3 x8 x5 x6)) else ((Q45.f k3 x9 x2 x3 x10).bind fun r23 => (if (decide ((w64 (r23.1 - x2)) < (w64 (x3 - r23.1)))) = true then ((Q46.f k3 r23.2.2 x2 r23.1 x8).bind fun r24 => (Q46.l0 k3 r24 (w64 (r23.1 + 1)) x3 x8 (decide ((w64 (Int.tdiv (w64 (x3 - x2)) 8)) ≤ (w64 (r23.1 - x2)))) r23.2.1)) else ((Q46.f k3 r23.2.2 (w64 (r23.1 + 1)) x3 x8).bind fun r25 => (Q46.l0 k3 r25 x2 r23.1 x8 (decide ((w64 (Int.tdiv (w64 (x3 - x2)) 8)) ≤ (w64 (x3 - r23.1)))) r23.2.1)))))) else none) else none) else ((Q45.f k3 x9 x2 x3 x10).bind fun r26 => (if (decide ((w64 (r26.1 - x2)) < (w64 (x3 - r26.1)))) = true then ((Q46.f k3 r26.2.2 x2 r26.1 x8).bind fun r27 => (Q46.l0 k3 r27 (w64 (r26.1 + 1)) x3 x8 (decide ((w64 (Int.tdiv (w64 (x3 - x2)) 8)) ≤ (w64 (r26.1 - x2)))) r26.2.1)) else ((Q46.f k3 r26.2.2 (w64 (r26.1 + 1)) x3 x8).bind fun r28 => (Q46.l0 k3 r28 x2 r26.1 x8 (decide ((w64 (Int.tdiv (w64 (x3 - x2)) 8)) ≤ (w64 (x3 - r26.1)))) r26.2.1)))))) = some r ∧ k3 ≤ k2 ∧ x9.length = a0.length) ?_ ?_
    · refine J.cond rfl (fun c19 => ?_) (fun c19 => ?_)
      · replace H := ite_t c19 H
        refine J.seq (J.region ?_)
        refine RJ.run ttok 3 rfl ?_
        obtain ⟨r29, q53, H⟩ := bind_t H
        refine RJ.op rfl rfl (op_call [0] (Q47.spec q53) rfl rfl rfl h5 rfl gnil) ?_
        rintro _ w36 ⟨_, ⟨rfl, rfl, q54⟩, h53⟩
        replace h53 : St w0 F0 [ownC 23 (.int .u32) r29 (.slice A1 r29.length c_1)] _ _ := h53
        have e32 : r29.length = a0.length := q54.trans e4
        refine RJ.fin [(0, _), (1, _), (2, _), (3, _), (8, _), (9, _), (10, _), (11, _)] rfl ?_
        refine J.envEq (env' := [(0, .slice A1 r29.length c_1), (1, .int .i64 x2), (2, .int .i64 x3), (3, .int .i64 x8), (8, .bool x5), (9, .bool x6), (10, .int .i64 (w64 (x3 - x2))), (11, .int .i64 r3.1)]) (by simp only [q54]) ?_
        refine J.seq (J.region ?_)
        refine RJ.run ttok 7 rfl ?_
        refine RJ.fin [(0, _), (1, _), (2, _), (3, _), (8, _), (9, _), (10, _), (11, .int .i64 (w64 ((w64 (x3 - 1)) - (w64 (r3.1 - x2)))))] rfl ?_
        refine J.region ?_
        refine RJ.run ttok 1 rfl ?_
        refine RJ.fin [(0, _), (1, _), (2, _), (3, _), (8, _), (9, _), (10, _), (11, _), (12, .int .i64 1)] rfl ?_
        have h54 := ((h53.only [0] rfl).rds [] rfl)
        exact ⟨k2, r29, (w64 ((w64 (x3 - 1)) - (w64 (r3.1 - x2)))), 1, rfl, h54, H, Nat.le_refl _, e32⟩
      replace H := ite_f c19 H
      refine J.narrow [(0, _), (1, _), (2, _), (3, _), (8, _), (9, _), (10, _), (11, _), (12, _)] rfl ?_
      refine J.skip ?_
      have h55 := ((h5.only [0] rfl).rds [] rfl)
      exact ⟨k2, x7, r3.1, r3.2, rfl, h55, H, Nat.le_refl _, e4⟩
    rintro env w8 ⟨k3, x9, x10, x11, rfl, h6, H, hk3, e5⟩
    refine J.seq (J.seq (J.region ?_))
    refine RJ.run ttok 2 rfl ?_
    rcases Bool.eq_false_or_eq_true x5 with c3 | c3
    · replace H := ite_t c3 H
      refine RJ.know (t := 62) rfl (congrArg Value.bool c3) ?_
      refine RJ.run ttok 3 rfl ?_
      rcases Bool.eq_false_or_eq_true x6 with c4 | c4
      · replace H := ite_t c4 H
        refine RJ.know (t := 65) rfl (congrArg Value.bool c4) ?_
        refine RJ.run ttok 3 rfl ?_
        refine RJ.fin [(0, _), (1, _), (2, _), (3, _), (8, _), (9, _), (10, _), (11, _), (68, .bool (decide (x11 = 1)))] rfl ?_
        refine J.midS (fun env w => ∃ (k4 : Nat) (x12 : List (Int)), env = [(0, .slice A1 x12.length c_1), (1, .int .i64 x2), (2, .int .i64 x3), (3, .int .i64 x8), (8, .bool x5), (9, .bool x6), (10, .int .i64 (w64 (x3 - x2))), (11, .int .i64 x10)] ∧ St w0 F0 [ownC 23 (.int .u32) x12 (.slice A1 x12.length c_1)] [] w ∧ (if (decide (0 < x2)) = true then (if 0 ≤ (w64 (x2 - 1)) ∧ (w64 (x2 - 1)) < (x12.length : Int) then (if 0 ≤ x10 ∧ x10 < (x12.length : Int) then ((Q24.f (gt x12 (w64 (x2 - 1))) (gt x12 x10)).bind fun r4 => (if (!r4) = true then ((Q44.f k4 x12 x2 x3 x10).bind fun r5 => (Q46.l0 k4 r5.2 r5.1 x3 x8 x5 x6)) else ((Q45.f k4 x12 x2 x3 x10).bind fun r6 => (if (decide ((w64 (r6.1 - x2)) < (w64 (x3 - r6.1)))) = true then ((Q46.f k4 r6.2.2 x2 r6.1 x8).bind fun r7 => (Q46.l0 k4 r7 (w64 (r6.1 + 1)) x3 x8 (decide ((w64 (Int.tdiv (w64 (x3 - x2)) 8)) ≤ (w64 (r6.1 - x2)))) r6.2.1)) else ((Q46.f k4 r6.2.2 (w64 (r6.1 + 1)) x3 x8).bind fun r8 => (Q46.l0 k4 r8 x2 r6.1 x8 (decide ((w64 (Int.tdiv (w64 (x3 - x2)) 8)) ≤ (w64 (x3 - r6.1)))) r6.2.1)))))) else none) else none) else ((Q45.f k4 x12 x2 x3 x10).bind fun r9 => (if (decide ((w64 (r9.1 - x2)) < (w64 (x3 - r9.1)))) = true then ((Q46.f k4 r9.2.2 x2 r9.1 x8).bind fun r10 => (Q46.l0 k4 r10 (w64 (r9.1 + 1)) x3 x8 (decide ((w64 (Int.tdiv (w64 (x3 - x2)) 8)) ≤ (w64 (r9.1 - x2)))) r9.2.1)) else ((Q46.f k4 r9.2.2 (w64 (r9.1 + 1)) x3 x8).bind fun r11 => (Q46.l0 k4 r11 x2 r9.1 x8 (decide ((w64 (Int.tdiv (w64 (x3 - x2)) 8)) ≤ (w64 (x3 - r9.1)))) r9.2.1))))) = some r ∧ k4 ≤ k3 ∧ x12.length = a0.length) ?_ ?_
        · refine J.cond rfl (fun c9 => ?_) (fun c9 => ?_)
          · replace H := ite_t c9 H
            refine J.seq (J.region ?_)
            refine RJ.run ttok 3 rfl ?_
            obtain ⟨r12, q21, H⟩ := bind_t H
            refine RJ.op rfl rfl (op_call [0] (Q43.spec q21) rfl rfl rfl h6 rfl gnil) ?_
            rintro _ w19 ⟨_, ⟨rfl, rfl, q22⟩, h22⟩
            replace h22 : St w0 F0 [ownC 23 (.int .u32) r12.2 (.slice A1 r12.2.length c_1)] _ _ := h22
            have e15 : r12.2.length = a0.length := q22.trans e5
            refine RJ.fin [(0, _), (1, _), (2, _), (3, _), (8, _), (9, _), (10, _), (11, _), (72, .bool r12.1)] rfl ?_
            refine J.envEq (env' := [(0, .slice A1 r12.2.length c_1), (1, .int .i64 x2), (2, .int .i64 x3), (3, .int .i64 x8), (8, .bool x5), (9, .bool x6), (10, .int .i64 (w64 (x3 - x2))), (11, .int .i64 x10), (72, .bool r12.1)]) (by simp only [q22]) ?_
            refine J.cond rfl (fun c10 => ?_) (fun c10 => ?_)
            · replace H := ite_t c10 H
              refine J.ret ?_
              obtain rfl := Option.some.inj H
              exact ⟨_, _, _, (results_slots rfl), ⟨rfl, rfl, e15⟩, h22.only [0] rfl⟩
            replace H := ite_f c10 H
            refine J.narrow [(0, _), (1, _), (2, _), (3, _), (8, _), (9, _), (10, _), (11, _)] rfl ?_
            refine J.skip ?_
            have h23 := ((h22.only [0] rfl).rds [] rfl)
            exact ⟨k3, r12.2, rfl, h23, H, Nat.le_refl _, e15⟩
          replace H := ite_f c9 H
          refine J.narrow [(0, _), (1, _), (2, _), (3, _), (8, _), (9, _), (10, _), (11, _)] rfl ?_
          refine J.skip ?_
          have h24 := ((h6.only [0] rfl).rds [] rfl)
          exact ⟨k3, x9, rfl, h24, H, Nat.le_refl _, e5⟩
        rintro env w10 ⟨k4, x12, rfl, h7, H, hk4, e6⟩
        refine J.seq (J.seq ?_)
        refine J.heldSt mix h7 ?_
        have h8 := h7.drew
        refine HJ.run ttok rfl [0, 1, 2] rfl ?_
        rcases Bool.eq_false_or_eq_true (decide (0 < x2)) with c5 | c5
        · replace H := ite_t c5 H
          refine HJ.know (t := 75) rfl (congrArg Value.bool c5) ?_
          refine HJ.run ttok rfl [3, 4, 5, 8, 9] rfl ?_
          obtain ⟨⟨p1, p2⟩, H⟩ := guard_t H
          have e7 := elem_A h8.wh (Gives.of 0 rfl own_rd) p1 p2
          refine HJ.q (i := 6) rfl rfl rfl rfl rfl rfl (q_index ttok rfl rfl rfl rfl rfl e7 p1 p2) ?_
          refine HJ.q (i := 7) rfl rfl rfl rfl rfl rfl (q_load_elem (f := 0) ttok rfl (fun w e => e) (Gives.of 0 rfl own_rd) p1 p2 rfl rfl rfl rfl rfl) ?_
          obtain ⟨⟨p3, p4⟩, H⟩ := guard_t H
          refine HJ.q (i := 10) rfl rfl rfl rfl rfl rfl (q_index ttok rfl rfl rfl rfl rfl e7 p3 p4) ?_
          refine HJ.q (i := 11) rfl rfl rfl rfl rfl rfl (q_load_elem (f := 0) ttok rfl (fun w e => e) (Gives.of 0 rfl own_rd) p3 p4 rfl rfl rfl rfl rfl) ?_
          obtain ⟨r4, q6, H⟩ := bind_t H
          refine HJ.op (i := 12) rfl rfl rfl rfl rfl (op_call [] (Q24.spec q6) rfl rfl rfl h8 rfl gnil) ?_
          rintro _ w11 ⟨_, ⟨rfl, rfl⟩, h9⟩
          replace h9 : St w0 F0 [_] _ _ := h9
          refine ⟨⟨[], h9⟩, ?_⟩
          refine HJ.run ttok rfl [13, 14] rfl ?_
          refine HJ.fin [(0, _), (1, _), (2, _), (3, _), (8, _), (9, _), (10, _), (11, _), (87, .bool (!r4))] rfl rfl ?_
          refine J.cond rfl (fun c6 => ?_) (fun c6 => ?_)
          · replace H := ite_t c6 H
            refine J.seq (J.region ?_)
            refine RJ.run ttok 4 rfl ?_
            obtain ⟨r5, q7, H⟩ := bind_t H
            refine RJ.op rfl rfl (op_call [0] (Q44.spec q7) rfl rfl rfl h9 rfl gnil) ?_
            rintro _ w12 ⟨_, ⟨rfl, rfl, q8⟩, h10⟩
            replace h10 : St w0 F0 [ownC 23 (.int .u32) r5.2 (.slice A1 r5.2.length c_1)] _ _ := h10
            have e8 : r5.2.length = a0.length := q8.trans e6
            refine RJ.run ttok 1 rfl ?_
            refine RJ.fin [(0, _), (2, _), (3, _), (8, _), (9, _), (13, .int .i64 r5.1)] rfl ?_
            refine J.envEq (env' := [(0, .slice A1 r5.2.length c_1), (2, .int .i64 x3), (3, .int .i64 x8), (8, .bool x5), (9, .bool x6), (13, .int .i64 r5.1)]) (by simp only [q8]) ?_
            refine J.seq (J.region ?_)
            refine RJ.run ttok 2 rfl ?_
            refine RJ.fin [(0, _), (1, .int .i64 r5.1), (2, _), (3, _), (8, _), (9, _)] rfl ?_
            refine J.exit ?_
            have h11 := ((h10.only [0] rfl).rds [] rfl)
            exact ⟨k4, by omega, r5.2, r5.1, x3, x8, x5, x6, rfl, h11, H, by omega, e8⟩
          replace H := ite_f c6 H
          refine J.skip ?_
          refine J.seq (J.region ?_)
          refine RJ.run ttok 4 rfl ?_
          obtain ⟨r6, q9, H⟩ := bind_t H
          refine RJ.op rfl rfl (op_call [0] (Q45.spec q9) rfl rfl rfl h9 rfl gnil) ?_
          rintro _ w13 ⟨_, ⟨rfl, rfl, q10⟩, h12⟩
          replace h12 : St w0 F0 [ownC 23 (.int .u32) r6.2.2 (.slice A1 r6.2.2.length c_1)] _ _ := h12
          have e9 : r6.2.2.length = a0.length := q10.trans e6
          refine RJ.run ttok 5 rfl ?_
          refine RJ.fin [(0, _), (1, _), (2, _), (3, _), (10, _), (14, .int .i64 r6.1), (15, .bool r6.2.1)] rfl ?_
          refine J.envEq (env' := [(0, .slice A1 r6.2.2.length c_1), (1, .int .i64 x2), (2, .int .i64 x3), (3, .int .i64 x8), (10, .int .i64 (w64 (x3 - x2))), (14, .int .i64 r6.1), (15, .bool r6.2.1)]) (by simp only [q10]) ?_
          refine J.seq (J.region ?_)
          refine RJ.run ttok 2 rfl ?_
          refine RJ.fin [(0, _), (1, _), (2, _), (3, _), (9, .bool r6.2.1), (10, _), (14, _)] rfl ?_
          refine J.seq (J.region ?_)
          refine RJ.run ttok 8 rfl ?_
          refine RJ.fin [(0, _), (1, _), (2, _), (3, _), (9, _), (10, _), (14, _), (16, .int .i64 (w64 (r6.1 - x2))), (17, .int .i64 (w64 (x3 - r6.1)))] rfl ?_
          refine J.seq (J.region ?_)
          refine RJ.run ttok 3 rfl ?_
          refine RJ.fin [(0, _), (1, _), (2, _), (3, _), (9, _), (14, _), (16, _), (17, _), (18, .int .i64 (w64 (Int.tdiv (w64 (x3 - x2)) 8)))] rfl ?_
          refine J.seq (J.region ?_)
          refine RJ.run ttok 3 rfl ?_
          refine RJ.fin [(0, _), (1, _), (2, _), (3, _), (9, _), (14, _), (16, _), (17, _), (18, _), (113, .bool (decide ((w64 (r6.1 - x2)) < (w64 (x3 - r6.1)))))] rfl ?_
          refine J.cond rfl (fun c7 => ?_) (fun c7 => ?_)
          · replace H := ite_t c7 H
            refine J.seq (J.region ?_)
            refine RJ.run ttok 4 rfl ?_
            refine RJ.fin [(0, _), (1, _), (2, _), (3, _), (8, .bool (decide ((w64 (Int.tdiv (w64 (x3 - x2)) 8)) ≤ (w64 (r6.1 - x2))))), (9, _), (14, _)] rfl ?_
            refine J.seq (J.region ?_)
            refine RJ.run ttok 4 rfl ?_
            obtain ⟨r7, q11, H⟩ := bind_t H
            refine RJ.op rfl rfl (op_call [0] (ih k4 (by omega) q11) rfl rfl rfl h12 rfl gnil) ?_
            rintro _ w14 ⟨_, ⟨rfl, rfl, q12⟩, h13⟩
            replace h13 : St w0 F0 [ownC 23 (.int .u32) r7 (.slice A1 r7.length c_1)] _ _ := h13
            have e10 : r7.length = a0.length := q12.trans e9
            refine RJ.fin [(0, _), (2, _), (3, _), (8, _), (9, _), (14, _)] rfl ?_
            refine J.envEq (env' := [(0, .slice A1 r7.length c_1), (2, .int .i64 x3), (3, .int .i64 x8), (8, .bool (decide ((w64 (Int.tdiv (w64 (x3 - x2)) 8)) ≤ (w64 (r6.1 - x2))))), (9, .bool r6.2.1), (14, .int .i64 r6.1)]) (by simp only [q12]) ?_
            refine J.region ?_
            refine RJ.run ttok 3 rfl ?_
            refine RJ.fin [(0, _), (1, .int .i64 (w64 (r6.1 + 1))), (2, _), (3, _), (8, _), (9, _)] rfl ?_
            have h14 := ((h13.only [0] rfl).rds [] rfl)
            exact ⟨k4, by omega, r7, (w64 (r6.1 + 1)), x3, x8, (decide ((w64 (Int.tdiv (w64 (x3 - x2)) 8)) ≤ (w64 (r6.1 - x2)))), r6.2.1, rfl, h14, H, by omega, e10⟩
          replace H := ite_f c7 H
          refine J.seq (J.region ?_)
          refine RJ.run ttok 4 rfl ?_
          refine RJ.fin [(0, _), (1, _), (2, _), (3, _), (8, .bool (decide ((w64 (Int.tdiv (w64 (x3 - x2)) 8)) ≤ (w64 (x3 - r6.1))))), (9, _), (14, _)] rfl ?_
          refine J.seq (J.region ?_)
          refine RJ.run ttok 5 rfl ?_
          obtain ⟨r8, q13, H⟩ := bind_t H
          refine RJ.op rfl rfl (op_call [0] (ih k4 (by omega) q13) rfl rfl rfl h12 rfl gnil) ?_
          rintro _ w15 ⟨_, ⟨rfl, rfl, q14⟩, h15⟩
          replace h15 : St w0 F0 [ownC 23 (.int .u32) r8 (.slice A1 r8.length c_1)] _ _ := h15
          have e11 : r8.length = a0.length := q14.trans e9
          refine RJ.fin [(0, _), (1, _), (3, _), (8, _), (9, _), (14, _)] rfl ?_
          refine J.envEq (env' := [(0, .slice A1 r8.length c_1), (1, .int .i64 x2), (3, .int .i64 x8), (8, .bool (decide ((w64 (Int.tdiv (w64 (x3 - x2)) 8)) ≤ (w64 (x3 - r6.1))))), (9, .bool r6.2.1), (14, .int .i64 r6.1)]) (by simp only [q14]) ?_
          refine J.region ?_
          refine RJ.run ttok 2 rfl ?_
          refine RJ.fin [(0, _), (1, _), (2, .int .i64 r6.1), (3, _), (8, _), (9, _)] rfl ?_
          have h16 := ((h15.only [0] rfl).rds [] rfl)
          exact ⟨k4, by omega, r8, x2, r6.1, x8, (decide ((w64 (Int.tdiv (w64 (x3 - x2)) 8)) ≤ (w64 (x3 - r6.1)))), r6.2.1, rfl, h16, H, by omega, e11⟩
        replace H := ite_f c5 H
        refine HJ.know (t := 75) rfl (congrArg Value.bool c5) ?_
        refine HJ.run ttok rfl [3, 4, 5, 6, 7, 8, 9, 10, 11, 12, 13, 14] rfl ?_
        refine HJ.fin [(0, _), (1, _), (2, _), (3, _), (8, _), (9, _), (10, _), (11, _), (87, .bool false)] rfl rfl ?_
        refine J.condF rfl ?_
        refine J.skip ?_
        refine J.seq (J.region ?_)
        refine RJ.run ttok 4 rfl ?_
        obtain ⟨r9, q15, H⟩ := bind_t H
        refine RJ.op rfl rfl (op_call [0] (Q45.spec q15) rfl rfl rfl h8 rfl gnil) ?_
        rintro _ w16 ⟨_, ⟨rfl, rfl, q16⟩, h17⟩
        replace h17 : St w0 F0 [ownC 23 (.int .u32) r9.2.2 (.slice A1 r9.2.2.length c_1)] _ _ := h17
        have e12 : r9.2.2.length = a0.length := q16.trans e6
        refine RJ.run ttok 5 rfl ?_
        refine RJ.fin [(0, _), (1, _), (2, _), (3, _), (10, _), (14, .int .i64 r9.1), (15, .bool r9.2.1)] rfl ?_
        refine J.envEq (env' := [(0, .slice A1 r9.2.2.length c_1), (1, .int .i64 x2), (2, .int .i64 x3), (3, .int .i64 x8), (10, .int .i64 (w64 (x3 - x2))), (14, .int .i64 r9.1), (15, .bool r9.2.1)]) (by simp only [q16]) ?_
        refine J.seq (J.region ?_)
        refine RJ.run ttok 2 rfl ?_
        refine RJ.fin [(0, _), (1, _), (2, _), (3, _), (9, .bool r9.2.1), (10, _), (14, _)] rfl ?_
        refine J.seq (J.region ?_)
        refine RJ.run ttok 8 rfl ?_
        refine RJ.fin [(0, _), (1, _), (2, _), (3, _), (9, _), (10, _), (14, _), (16, .int .i64 (w64 (r9.1 - x2))), (17, .int .i64 (w64 (x3 - r9.1)))] rfl ?_
        refine J.seq (J.region ?_)
        refine RJ.run ttok 3 rfl ?_
        refine RJ.fin [(0, _), (1, _), (2, _), (3, _), (9, _), (14, _), (16, _), (17, _), (18, .int .i64 (w64 (Int.tdiv (w64 (x3 - x2)) 8)))] rfl ?_
        refine J.seq (J.region ?_)
        refine RJ.run ttok 3 rfl ?_
        refine RJ.fin [(0, _), (1, _), (2, _), (3, _), (9, _), (14, _), (16, _), (17, _), (18, _), (113, .bool (decide ((w64 (r9.1 - x2)) < (w64 (x3 - r9.1)))))] rfl ?_
        refine J.cond rfl (fun c8 => ?_) (fun c8 => ?_)
        · replace H := ite_t c8 H
          refine J.seq (J.region ?_)
          refine RJ.run ttok 4 rfl ?_
          refine RJ.fin [(0, _), (1, _), (2, _), (3, _), (8, .bool (decide ((w64 (Int.tdiv (w64 (x3 - x2)) 8)) ≤ (w64 (r9.1 - x2))))), (9, _), (14, _)] rfl ?_
          refine J.seq (J.region ?_)
          refine RJ.run ttok 4 rfl ?_
          obtain ⟨r10, q17, H⟩ := bind_t H
          refine RJ.op rfl rfl (op_call [0] (ih k4 (by omega) q17) rfl rfl rfl h17 rfl gnil) ?_
          rintro _ w17 ⟨_, ⟨rfl, rfl, q18⟩, h18⟩
          replace h18 : St w0 F0 [ownC 23 (.int .u32) r10 (.slice A1 r10.length c_1)] _ _ := h18
          have e13 : r10.length = a0.length := q18.trans e12
          refine RJ.fin [(0, _), (2, _), (3, _), (8, _), (9, _), (14, _)] rfl ?_
          refine J.envEq (env' := [(0, .slice A1 r10.length c_1), (2, .int .i64 x3), (3, .int .i64 x8), (8, .bool (decide ((w64 (Int.tdiv (w64 (x3 - x2)) 8)) ≤ (w64 (r9.1 - x2))))), (9, .bool r9.2.1), (14, .int .i64 r9.1)]) (by simp only [q18]) ?_
          refine J.region ?_
          refine RJ.run ttok 3 rfl ?_
          refine RJ.fin [(0, _), (1, .int .i64 (w64 (r9.1 + 1))), (2, _), (3, _), (8, _), (9, _)] rfl ?_
          have h19 := ((h18.only [0] rfl).rds [] rfl)
          exact ⟨k4, by omega, r10, (w64 (r9.1 + 1)), x3, x8, (decide ((w64 (Int.tdiv (w64 (x3 - x2)) 8)) ≤ (w64 (r9.1 - x2)))), r9.2.1, rfl, h19, H, by omega, e13⟩
        replace H := ite_f c8 H
        refine J.seq (J.region ?_)
        refine RJ.run ttok 4 rfl ?_
        refine RJ.fin [(0, _), (1, _), (2, _), (3, _), (8, .bool (decide ((w64 (Int.tdiv (w64 (x3 - x2)) 8)) ≤ (w64 (x3 - r9.1))))), (9, _), (14, _)] rfl ?_
        refine J.seq (J.region ?_)
        refine RJ.run ttok 5 rfl ?_
        obtain ⟨r11, q19, H⟩ := bind_t H
        refine RJ.op rfl rfl (op_call [0] (ih k4 (by omega) q19) rfl rfl rfl h17 rfl gnil) ?_
        rintro _ w18 ⟨_, ⟨rfl, rfl, q20⟩, h20⟩
        replace h20 : St w0 F0 [ownC 23 (.int .u32) r11 (.slice A1 r11.length c_1)] _ _ := h20
        have e14 : r11.length = a0.length := q20.trans e12
        refine RJ.fin [(0, _), (1, _), (3, _), (8, _), (9, _), (14, _)] rfl ?_
        refine J.envEq (env' := [(0, .slice A1 r11.length c_1), (1, .int .i64 x2), (3, .int .i64 x8), (8, .bool (decide ((w64 (Int.tdiv (w64 (x3 - x2)) 8)) ≤ (w64 (x3 - r9.1))))), (9, .bool r9.2.1), (14, .int .i64 r9.1)]) (by simp only [q20]) ?_
        refine J.region ?_
        refine RJ.run ttok 2 rfl ?_
        refine RJ.fin [(0, _), (1, _), (2, .int .i64 r9.1), (3, _), (8, _), (9, _)] rfl ?_
        have h21 := ((h20.only [0] rfl).rds [] rfl)
        exact ⟨k4, by omega, r11, x2, r9.1, x8, (decide ((w64 (Int.tdiv (w64 (x3 - x2)) 8)) ≤ (w64 (x3 - r9.1)))), r9.2.1, rfl, h21, H, by omega, e14⟩
      replace H := ite_f c4 H
      refine RJ.know (t := 65) rfl (congrArg Value.bool c4) ?_
      refine RJ.run ttok 3 rfl ?_
      refine RJ.fin [(0, _), (1, _), (2, _), (3, _), (8, _), (9, _), (10, _), (11, _), (68, .bool false)] rfl ?_
      refine J.condF rfl ?_
      refine J.skip ?_
      refine J.seq (J.seq ?_)
      refine J.heldSt mix h6 ?_
      have h25 := h6.drew
      refine HJ.run ttok rfl [0, 1, 2] rfl ?_
      rcases Bool.eq_false_or_eq_true (decide (0 < x2)) with c11 | c11
      · replace H := ite_t c11 H
        refine HJ.know (t := 75) rfl (congrArg Value.bool c11) ?_
        refine HJ.run ttok rfl [3, 4, 5, 8, 9] rfl ?_
        obtain ⟨⟨p5, p6⟩, H⟩ := guard_t H
        have e16 := elem_A h25.wh (Gives.of 0 rfl own_rd) p5 p6
        refine HJ.q (i := 6) rfl rfl rfl rfl rfl rfl (q_index ttok rfl rfl rfl rfl rfl e16 p5 p6) ?_
        refine HJ.q (i := 7) rfl rfl rfl rfl rfl rfl (q_load_elem (f := 0) ttok rfl (fun w e => e) (Gives.of 0 rfl own_rd) p5 p6 rfl rfl rfl rfl rfl) ?_
        obtain ⟨⟨p7, p8⟩, H⟩ := guard_t H
        refine HJ.q (i := 10) rfl rfl rfl rfl rfl rfl (q_index ttok rfl rfl rfl rfl rfl e16 p7 p8) ?_
        refine HJ.q (i := 11) rfl rfl rfl rfl rfl rfl (q_load_elem (f := 0) ttok rfl (fun w e => e) (Gives.of 0 rfl own_rd) p7 p8 rfl rfl rfl rfl rfl) ?_
        obtain ⟨r13, q23, H⟩ := bind_t H
        refine HJ.op (i := 12) rfl rfl rfl rfl rfl (op_call [] (Q24.spec q23) rfl rfl rfl h25 rfl gnil) ?_
        rintro _ w20 ⟨_, ⟨rfl, rfl⟩, h26⟩
        replace h26 : St w0 F0 [_] _ _ := h26
        refine ⟨⟨[], h26⟩, ?_⟩
        refine HJ.run ttok rfl [13, 14] rfl ?_
        refine HJ.fin [(0, _), (1, _), (2, _), (3, _), (8, _), (9, _), (10, _), (11, _), (87, .bool (!r13))] rfl rfl ?_
        refine J.cond rfl (fun c12 => ?_) (fun c12 => ?_)
        · replace H := ite_t c12 H
          refine J.seq (J.region ?_)
          refine RJ.run ttok 4 rfl ?_
          obtain ⟨r14, q24, H⟩ := bind_t H
          refine RJ.op rfl rfl (op_call [0] (Q44.spec q24) rfl rfl rfl h26 rfl gnil) ?_
          rintro _ w21 ⟨_, ⟨rfl, rfl, q25⟩, h27⟩
          replace h27 : St w0 F0 [ownC 23 (.int .u32) r14.2 (.slice A1 r14.2.length c_1)] _ _ := h27
          have e17 : r14.2.length = a0.length := q25.trans e5
          refine RJ.run ttok 1 rfl ?_
          refine RJ.fin [(0, _), (2, _), (3, _), (8, _), (9, _), (13, .int .i64 r14.1)] rfl ?_
          refine J.envEq (env' := [(0, .slice A1 r14.2.length c_1), (2, .int .i64 x3), (3, .int .i64 x8), (8, .bool x5), (9, .bool x6), (13, .int .i64 r14.1)]) (by simp only [q25]) ?_
          refine J.seq (J.region ?_)
          refine RJ.run ttok 2 rfl ?_
          refine RJ.fin [(0, _), (1, .int .i64 r14.1), (2, _), (3, _), (8, _), (9, _)] rfl ?_
          refine J.exit ?_
          have h28 := ((h27.only [0] rfl).rds [] rfl)
          exact ⟨k3, by omega, r14.2, r14.1, x3, x8, x5, x6, rfl, h28, H, by omega, e17⟩
        replace H := ite_f c12 H
        refine J.skip ?_
        refine J.seq (J.region ?_)
        refine RJ.run ttok 4 rfl ?_
        obtain ⟨r15, q26, H⟩ := bind_t H
        refine RJ.op rfl rfl (op_call [0] (Q45.spec q26) rfl rfl rfl h26 rfl gnil) ?_
        rintro _ w22 ⟨_, ⟨rfl, rfl, q27⟩, h29⟩
        replace h29 : St w0 F0 [ownC 23 (.int .u32) r15.2.2 (.slice A1 r15.2.2.length c_1)] _ _ := h29
        have e18 : r15.2.2.length = a0.length := q27.trans e5
        refine RJ.run ttok 5 rfl ?_
        refine RJ.fin [(0, _), (1, _), (2, _), (3, _), (10, _), (14, .int .i64 r15.1), (15, .bool r15.2.1)] rfl ?_
        refine J.envEq (env' := [(0, .slice A1 r15.2.2.length c_1), (1, .int .i64 x2), (2, .int .i64 x3), (3, .int .i64 x8), (10, .int .i64 (w64 (x3 - x2))), (14, .int .i64 r15.1), (15, .bool r15.2.1)]) (by simp only [q27]) ?_
        refine J.seq (J.region ?_)
        refine RJ.run ttok 2 rfl ?_
        refine RJ.fin [(0, _), (1, _), (2, _), (3, _), (9, .bool r15.2.1), (10, _), (14, _)] rfl ?_
        refine J.seq (J.region ?_)
        refine RJ.run ttok 8 rfl ?_
        refine RJ.fin [(0, _), (1, _), (2, _), (3, _), (9, _), (10, _), (14, _), (16, .int .i64 (w64 (r15.1 - x2))), (17, .int .i64 (w64 (x3 - r15.1)))] rfl ?_
        refine J.seq (J.region ?_)
        refine RJ.run ttok 3 rfl ?_
        refine RJ.fin [(0, _), (1, _), (2, _), (3, _), (9, _), (14, _), (16, _), (17, _), (18, .int .i64 (w64 (Int.tdiv (w64 (x3 - x2)) 8)))] rfl ?_
        refine J.seq (J.region ?_)
        refine RJ.run ttok 3 rfl ?_
        refine RJ.fin [(0, _), (1, _), (2, _), (3, _), (9, _), (14, _), (16, _), (17, _), (18, _), (113, .bool (decide ((w64 (r15.1 - x2)) < (w64 (x3 - r15.1)))))] rfl ?_
        refine J.cond rfl (fun c13 => ?_) (fun c13 => ?_)
        · replace H := ite_t c13 H
          refine J.seq (J.region ?_)
          refine RJ.run ttok 4 rfl ?_
          refine RJ.fin [(0, _), (1, _), (2, _), (3, _), (8, .bool (decide ((w64 (Int.tdiv (w64 (x3 - x2)) 8)) ≤ (w64 (r15.1 - x2))))), (9, _), (14, _)] rfl ?_
          refine J.seq (J.region ?_)
          refine RJ.run ttok 4 rfl ?_
          obtain ⟨r16, q28, H⟩ := bind_t H
          refine RJ.op rfl rfl (op_call [0] (ih k3 (by omega) q28) rfl rfl rfl h29 rfl gnil) ?_
          rintro _ w23 ⟨_, ⟨rfl, rfl, q29⟩, h30⟩
          replace h30 : St w0 F0 [ownC 23 (.int .u32) r16 (.slice A1 r16.length c_1)] _ _ := h30
          have e19 : r16.length = a0.length := q29.trans e18
          refine RJ.fin [(0, _), (2, _), (3, _), (8, _), (9, _), (14, _)] rfl ?_
          refine J.envEq (env' := [(0, .slice A1 r16.length c_1), (2, .int .i64 x3), (3, .int .i64 x8), (8, .bool (decide ((w64 (Int.tdiv (w64 (x3 - x2)) 8)) ≤ (w64 (r15.1 - x2))))), (9, .bool r15.2.1), (14, .int .i64 r15.1)]) (by simp only [q29]) ?_
          refine J.region ?_
          refine RJ.run ttok 3 rfl ?_
          refine RJ.fin [(0, _), (1, .int .i64 (w64 (r15.1 + 1))), (2, _), (3, _), (8, _), (9, _)] rfl ?_
          have h31 := ((h30.only [0] rfl).rds [] rfl)
          exact ⟨k3, by omega, r16, (w64 (r15.1 + 1)), x3, x8, (decide ((w64 (Int.tdiv (w64 (x3 - x2)) 8)) ≤ (w64 (r15.1 - x2)))), r15.2.1, rfl, h31, H, by omega, e19⟩
        replace H := ite_f c13 H
        refine J.seq (J.region ?_)
        refine RJ.run ttok 4 rfl ?_
        refine RJ.fin [(0, _), (1, _), (2, _), (3, _), (8, .bool (decide ((w64 (Int.tdiv (w64 (x3 - x2)) 8)) ≤ (w64 (x3 - r15.1))))), (9, _), (14, _)] rfl ?_
        refine J.seq (J.region ?_)
        refine RJ.run ttok 5 rfl ?_
        obtain ⟨r17, q30, H⟩ := bind_t H
        refine RJ.op rfl rfl (op_call [0] (ih k3 (by omega) q30) rfl rfl rfl h29 rfl gnil) ?_
        rintro _ w24 ⟨_, ⟨rfl, rfl, q31⟩, h32⟩
        replace h32 : St w0 F0 [ownC 23 (.int .u32) r17 (.slice A1 r17.length c_1)] _ _ := h32
        have e20 : r17.length = a0.length := q31.trans e18
        refine RJ.fin [(0, _), (1, _), (3, _), (8, _), (9, _), (14, _)] rfl ?_
        refine J.envEq (env' := [(0, .slice A1 r17.length c_1), (1, .int .i64 x2), (3, .int .i64 x8), (8, .bool (decide ((w64 (Int.tdiv (w64 (x3 - x2)) 8)) ≤ (w64 (x3 - r15.1))))), (9, .bool r15.2.1), (14, .int .i64 r15.1)]) (by simp only [q31]) ?_
        refine J.region ?_
        refine RJ.run ttok 2 rfl ?_
        refine RJ.fin [(0, _), (1, _), (2, .int .i64 r15.1), (3, _), (8, _), (9, _)] rfl ?_
        have h33 := ((h32.only [0] rfl).rds [] rfl)
        exact ⟨k3, by omega, r17, x2, r15.1, x8, (decide ((w64 (Int.tdiv (w64 (x3 - x2)) 8)) ≤ (w64 (x3 - r15.1)))), r15.2.1, rfl, h33, H, by omega, e20⟩
      replace H := ite_f c11 H
      refine HJ.know (t := 75) rfl (congrArg Value.bool c11) ?_
      refine HJ.run ttok rfl [3, 4, 5, 6, 7, 8, 9, 10, 11, 12, 13, 14] rfl ?_
      refine HJ.fin [(0, _), (1, _), (2, _), (3, _), (8, _), (9, _), (10, _), (11, _), (87, .bool false)] rfl rfl ?_
      refine J.condF rfl ?_
      refine J.skip ?_
      refine J.seq (J.region ?_)
      refine RJ.run ttok 4 rfl ?_
      obtain ⟨r18, q32, H⟩ := bind_t H
      refine RJ.op rfl rfl (op_call [0] (Q45.spec q32) rfl rfl rfl h25 rfl gnil) ?_
      rintro _ w25 ⟨_, ⟨rfl, rfl, q33⟩, h34⟩
      replace h34 : St w0 F0 [ownC 23 (.int .u32) r18.2.2 (.slice A1 r18.2.2.length c_1)] _ _ := h34
      have e21 : r18.2.2.length = a0.length := q33.trans e5
      refine RJ.run ttok 5 rfl ?_
      refine RJ.fin [(0, _), (1, _), (2, _), (3, _), (10, _), (14, .int .i64 r18.1), (15, .bool r18.2.1)] rfl ?_
      refine J.envEq (env' := [(0, .slice A1 r18.2.2.length c_1), (1, .int .i64 x2), (2, .int .i64 x3), (3, .int .i64 x8), (10, .int .i64 (w64 (x3 - x2))), (14, .int .i64 r18.1), (15, .bool r18.2.1)]) (by simp only [q33]) ?_
      refine J.seq (J.region ?_)
      refine RJ.run ttok 2 rfl ?_
      refine RJ.fin [(0, _), (1, _), (2, _), (3, _), (9, .bool r18.2.1), (10, _), (14, _)] rfl ?_
      refine J.seq (J.region ?_)
      refine RJ.run ttok 8 rfl ?_
      refine RJ.fin [(0, _), (1, _), (2, _), (3, _), (9, _), (10, _), (14, _), (16, .int .i64 (w64 (r18.1 - x2))), (17, .int .i64 (w64 (x3 - r18.1)))] rfl ?_
      refine J.seq (J.region ?_)
      refine RJ.run ttok 3 rfl ?_
      refine RJ.fin [(0, _), (1, _), (2, _), (3, _), (9, _), (14, _), (16, _), (17, _), (18, .int .i64 (w64 (Int.tdiv (w64 (x3 - x2)) 8)))] rfl ?_
      refine J.seq (J.region ?_)
      refine RJ.run ttok 3 rfl ?_
      refine RJ.fin [(0, _), (1, _), (2, _), (3, _), (9, _), (14, _), (16, _), (17, _), (18, _), (113, .bool (decide ((w64 (r18.1 - x2)) < (w64 (x3 - r18.1)))))] rfl ?_
      refine J.cond rfl (fun c14 => ?_) (fun c14 => ?_)
      · replace H := ite_t c14 H
        refine J.seq (J.region ?_)
        refine RJ.run ttok 4 rfl ?_
        refine RJ.fin [(0, _), (1, _), (2, _), (3, _), (8, .bool (decide ((w64 (Int.tdiv (w64 (x3 - x2)) 8)) ≤ (w64 (r18.1 - x2))))), (9, _), (14, _)] rfl ?_
        refine J.seq (J.region ?_)
        refine RJ.run ttok 4 rfl ?_
        obtain ⟨r19, q34, H⟩ := bind_t H
        refine RJ.op rfl rfl (op_call [0] (ih k3 (by omega) q34) rfl rfl rfl h34 rfl gnil) ?_
        rintro _ w26 ⟨_, ⟨rfl, rfl, q35⟩, h35⟩
        replace h35 : St w0 F0 [ownC 23 (.int .u32) r19 (.slice A1 r19.length c_1)] _ _ := h35
        have e22 : r19.length = a0.length := q35.trans e21
        refine RJ.fin [(0, _), (2, _), (3, _), (8, _), (9, _), (14, _)] rfl ?_
        refine J.envEq (env' := [(0, .slice A1 r19.length c_1), (2, .int .i64 x3), (3, .int .i64 x8), (8, .bool (decide ((w64 (Int.tdiv (w64 (x3 - x2)) 8)) ≤ (w64 (r18.1 - x2))))), (9, .bool r18.2.1), (14, .int .i64 r18.1)]) (by simp only [q35]) ?_
        refine J.region ?_
        refine RJ.run ttok 3 rfl ?_
        refine RJ.fin [(0, _), (1, .int .i64 (w64 (r18.1 + 1))), (2, _), (3, _), (8, _), (9, _)] rfl ?_
        have h36 := ((h35.only [0] rfl).rds [] rfl)
        exact ⟨k3, by omega, r19, (w64 (r18.1 + 1)), x3, x8, (decide ((w64 (Int.tdiv (w64 (x3 - x2)) 8)) ≤ (w64 (r18.1 - x2)))), r18.2.1, rfl, h36, H, by omega, e22⟩
      replace H := ite_f c14 H
      refine J.seq (J.region ?_)
      refine RJ.run ttok 4 rfl ?_
      refine RJ.fin [(0, _), (1, _), (2, _), (3, _), (8, .bool (decide ((w64 (Int.tdiv (w64 (x3 - x2)) 8)) ≤ (w64 (x3 - r18.1))))), (9, _), (14, _)] rfl ?_
      refine J.seq (J.region ?_)
      refine RJ.run ttok 5 rfl ?_
      obtain ⟨r20, q36, H⟩ := bind_t H
      refine RJ.op rfl rfl (op_call [0] (ih k3 (by omega) q36) rfl rfl rfl h34 rfl gnil) ?_
      rintro _ w27 ⟨_, ⟨rfl, rfl, q37⟩, h37⟩
      replace h37 : St w0 F0 [ownC 23 (.int .u32) r20 (.slice A1 r20.length c_1)] _ _ := h37
      have e23 : r20.length = a0.length := q37.trans e21
      refine RJ.fin [(0, _), (1, _), (3, _), (8, _), (9, _), (14, _)] rfl ?_
      refine J.envEq (env' := [(0, .slice A1 r20.length c_1), (1, .int .i64 x2), (3, .int .i64 x8), (8, .bool (decide ((w64 (Int.tdiv (w64 (x3 - x2)) 8)) ≤ (w64 (x3 - r18.1))))), (9, .bool r18.2.1), (14, .int .i64 r18.1)]) (by simp only [q37]) ?_
      refine J.region ?_
      refine RJ.run ttok 2 rfl ?_
      refine RJ.fin [(0, _), (1, _), (2, .int .i64 r18.1), (3, _), (8, _), (9, _)] rfl ?_
      have h38 := ((h37.only [0] rfl).rds [] rfl)
      exact ⟨k3, by omega, r20, x2, r18.1, x8, (decide ((w64 (Int.tdiv (w64 (x3 - x2)) 8)) ≤ (w64 (x3 - r18.1)))), r18.2.1, rfl, h38, H, by omega, e23⟩
    replace H := ite_f c3 H
    refine RJ.know (t := 62) rfl (congrArg Value.bool c3) ?_
    refine RJ.run ttok 6 rfl ?_
    refine RJ.fin [(0, _), (1, _), (2, _), (3, _), (8, _), (9, _), (10, _), (11, _), (68, .bool false)] rfl ?_
    refine J.condF rfl ?_
    refine J.skip ?_
    refine J.seq (J.seq ?_)
    refine J.heldSt mix h6 ?_
    have h39 := h6.drew
    refine HJ.run ttok rfl [0, 1, 2] rfl ?_
    rcases Bool.eq_false_or_eq_true (decide (0 < x2)) with c15 | c15
    · replace H := ite_t c15 H
      refine HJ.know (t := 75) rfl (congrArg Value.bool c15) ?_
      refine HJ.run ttok rfl [3, 4, 5, 8, 9] rfl ?_
      obtain ⟨⟨p9, p10⟩, H⟩ := guard_t H
      have e24 := elem_A h39.wh (Gives.of 0 rfl own_rd) p9 p10
      refine HJ.q (i := 6) rfl rfl rfl rfl rfl rfl (q_index ttok rfl rfl rfl rfl rfl e24 p9 p10) ?_
      refine HJ.q (i := 7) rfl rfl rfl rfl rfl rfl (q_load_elem (f := 0) ttok rfl (fun w e => e) (Gives.of 0 rfl own_rd) p9 p10 rfl rfl rfl rfl rfl) ?_
      obtain ⟨⟨p11, p12⟩, H⟩ := guard_t H
      refine HJ.q (i := 10) rfl rfl rfl rfl rfl rfl (q_index ttok rfl rfl rfl rfl rfl e24 p11 p12) ?_
      refine HJ.q (i := 11) rfl rfl rfl rfl rfl rfl (q_load_elem (f := 0) ttok rfl (fun w e => e) (Gives.of 0 rfl own_rd) p11 p12 rfl rfl rfl rfl rfl) ?_
      obtain ⟨r21, q38, H⟩ := bind_t H
      refine HJ.op (i := 12) rfl rfl rfl rfl rfl (op_call [] (Q24.spec q38) rfl rfl rfl h39 rfl gnil) ?_
      rintro _ w28 ⟨_, ⟨rfl, rfl⟩, h40⟩
      replace h40 : St w0 F0 [_] _ _ := h40
      refine ⟨⟨[], h40⟩, ?_⟩
      refine HJ.run ttok rfl [13, 14] rfl ?_
      refine HJ.fin [(0, _), (1, _), (2, _), (3, _), (8, _), (9, _), (10, _), (11, _), (87, .bool (!r21))] rfl rfl ?_
      refine J.cond rfl (fun c16 => ?_) (fun c16 => ?_)
      · replace H := ite_t c16 H
        refine J.seq (J.region ?_)
        refine RJ.run ttok 4 rfl ?_
        obtain ⟨r22, q39, H⟩ := bind_t H
        refine RJ.op rfl rfl (op_call [0] (Q44.spec q39) rfl rfl rfl h40 rfl gnil) ?_
        rintro _ w29 ⟨_, ⟨rfl, rfl, q40⟩, h41⟩
        replace h41 : St w0 F0 [ownC 23 (.int .u32) r22.2 (.slice A1 r22.2.length c_1)] _ _ := h41
        have e25 : r22.2.length = a0.length := q40.trans e5
        refine RJ.run ttok 1 rfl ?_
        refine RJ.fin [(0, _), (2, _), (3, _), (8, _), (9, _), (13, .int .i64 r22.1)] rfl ?_
        refine J.envEq (env' := [(0, .slice A1 r22.2.length c_1), (2, .int .i64 x3), (3, .int .i64 x8), (8, .bool x5), (9, .bool x6), (13, .int .i64 r22.1)]) (by simp only [q40]) ?_
        refine J.seq (J.region ?_)
        refine RJ.run ttok 2 rfl ?_
        refine RJ.fin [(0, _), (1, .int .i64 r22.1), (2, _), (3, _), (8, _), (9, _)] rfl ?_
        refine J.exit ?_
        have h42 := ((h41.only [0] rfl).rds [] rfl)
        exact ⟨k3, by omega, r22.2, r22.1, x3, x8, x5, x6, rfl, h42, H, by omega, e25⟩
      replace H := ite_f c16 H
      refine J.skip ?_
      refine J.seq (J.region ?_)
      refine RJ.run ttok 4 rfl ?_
      obtain ⟨r23, q41, H⟩ := bind_t H
      refine RJ.op rfl rfl (op_call [0] (Q45.spec q41) rfl rfl rfl h40 rfl gnil) ?_
      rintro _ w30 ⟨_, ⟨rfl, rfl, q42⟩, h43⟩
      replace h43 : St w0 F0 [ownC 23 (.int .u32) r23.2.2 (.slice A1 r23.2.2.length c_1)] _ _ := h43
      have e26 : r23.2.2.length = a0.length := q42.trans e5
      refine RJ.run ttok 5 rfl ?_
      refine RJ.fin [(0, _), (1, _), (2, _), (3, _), (10, _), (14, .int .i64 r23.1), (15, .bool r23.2.1)] rfl ?_
      refine J.envEq (env' := [(0, .slice A1 r23.2.2.length c_1), (1, .int .i64 x2), (2, .int .i64 x3), (3, .int .i64 x8), (10, .int .i64 (w64 (x3 - x2))), (14, .int .i64 r23.1), (15, .bool r23.2.1)]) (by simp only [q42]) ?_
      refine J.seq (J.region ?_)
      refine RJ.run ttok 2 rfl ?_
      refine RJ.fin [(0, _), (1, _), (2, _), (3, _), (9, .bool r23.2.1), (10, _), (14, _)] rfl ?_
      refine J.seq (J.region ?_)
      refine RJ.run ttok 8 rfl ?_
      refine RJ.fin [(0, _), (1, _), (2, _), (3, _), (9, _), (10, _), (14, _), (16, .int .i64 (w64 (r23.1 - x2))), (17, .int .i64 (w64 (x3 - r23.1)))] rfl ?_
      refine J.seq (J.region ?_)
      refine RJ.run ttok 3 rfl ?_
      refine RJ.fin [(0, _), (1, _), (2, _), (3, _), (9, _), (14, _), (16, _), (17, _), (18, .int .i64 (w64 (Int.tdiv (w64 (x3 - x2)) 8)))] rfl ?_
      refine J.seq (J.region ?_)
      refine RJ.run ttok 3 rfl ?_
      refine RJ.fin [(0, _), (1, _), (2, _), (3, _), (9, _), (14, _), (16, _), (17, _), (18, _), (113, .bool (decide ((w64 (r23.1 - x2)) < (w64 (x3 - r23.1)))))] rfl ?_
      refine J.cond rfl (fun c17 => ?_) (fun c17 => ?_)
      · replace H := ite_t c17 H
        refine J.seq (J.region ?_)
        refine RJ.run ttok 4 rfl ?_
        refine RJ.fin [(0, _), (1, _), (2, _), (3, _), (8, .bool (decide ((w64 (Int.tdiv (w64 (x3 - x2)) 8)) ≤ (w64 (r23.1 - x2))))), (9, _), (14, _)] rfl ?_
        refine J.seq (J.region ?_)
        refine RJ.run ttok 4 rfl ?_
        obtain ⟨r24, q43, H⟩ := bind_t H
        refine RJ.op rfl rfl (op_call [0] (ih k3 (by omega) q43) rfl rfl rfl h43 rfl gnil) ?_
        rintro _ w31 ⟨_, ⟨rfl, rfl, q44⟩, h44⟩
        replace h44 : St w0 F0 [ownC 23 (.int .u32) r24 (.slice A1 r24.length c_1)] _ _ := h44
        have e27 : r24.length = a0.length := q44.trans e26
        refine RJ.fin [(0, _), (2, _), (3, _), (8, _), (9, _), (14, _)] rfl ?_
        refine J.envEq (env' := [(0, .slice A1 r24.length c_1), (2, .int .i64 x3), (3, .int .i64 x8), (8, .bool (decide ((w64 (Int.tdiv (w64 (x3 - x2)) 8)) ≤ (w64 (r23.1 - x2))))), (9, .bool r23.2.1), (14, .int .i64 r23.1)]) (by simp only [q44]) ?_
        refine J.region ?_
        refine RJ.run ttok 3 rfl ?_
        refine RJ.fin [(0, _), (1, .int .i64 (w64 (r23.1 + 1))), (2, _), (3, _), (8, _), (9, _)] rfl ?_
        have h45 := ((h44.only [0] rfl).rds [] rfl)
        exact ⟨k3, by omega, r24, (w64 (r23.1 + 1)), x3, x8, (decide ((w64 (Int.tdiv (w64 (x3 - x2)) 8)) ≤ (w64 (r23.1 - x2)))), r23.2.1, rfl, h45, H, by omega, e27⟩
      replace H := ite_f c17 H
      refine J.seq (J.region ?_)
      refine RJ.run ttok 4 rfl ?_
      refine RJ.fin [(0, _), (1, _), (2, _), (3, _), (8, .bool (decide ((w64 (Int.tdiv (w64 (x3 - x2)) 8)) ≤ (w64 (x3 - r23.1))))), (9, _), (14, _)] rfl ?_
      refine J.seq (J.region ?_)
      refine RJ.run ttok 5 rfl ?_
      obtain ⟨r25, q45, H⟩ := bind_t H
      refine RJ.op rfl rfl (op_call [0] (ih k3 (by omega) q45) rfl rfl rfl h43 rfl gnil) ?_
      rintro _ w32 ⟨_, ⟨rfl, rfl, q46⟩, h46⟩
      replace h46 : St w0 F0 [ownC 23 (.int .u32) r25 (.slice A1 r25.length c_1)] _ _ := h46
      have e28 : r25.length = a0.length := q46.trans e26
      refine RJ.fin [(0, _), (1, _), (3, _), (8, _), (9, _), (14, _)] rfl ?_
      refine J.envEq (env' := [(0, .slice A1 r25.length c_1), (1, .int .i64 x2), (3, .int .i64 x8), (8, .bool (decide ((w64 (Int.tdiv (w64 (x3 - x2)) 8)) ≤ (w64 (x3 - r23.1))))), (9, .bool r23.2.1), (14, .int .i64 r23.1)]) (by simp only [q46]) ?_
      refine J.region ?_
      refine RJ.run ttok 2 rfl ?_
      refine RJ.fin [(0, _), (1, _), (2, .int .i64 r23.1), (3, _), (8, _), (9, _)] rfl ?_
      have h47 := ((h46.only [0] rfl).rds [] rfl)
      exact ⟨k3, by omega, r25, x2, r23.1, x8, (decide ((w64 (Int.tdiv (w64 (x3 - x2)) 8)) ≤ (w64 (x3 - r23.1)))), r23.2.1, rfl, h47, H, by omega, e28⟩
    replace H := ite_f c15 H
    refine HJ.know (t := 75) rfl (congrArg Value.bool c15) ?_
    refine HJ.run ttok rfl [3, 4, 5, 6, 7, 8, 9, 10, 11, 12, 13, 14] rfl ?_
    refine HJ.fin [(0, _), (1, _), (2, _), (3, _), (8, _), (9, _), (10, _), (11, _), (87, .bool false)] rfl rfl ?_
    refine J.condF rfl ?_
    refine J.skip ?_
    refine J.seq (J.region ?_)
    refine RJ.run ttok 4 rfl ?_
    obtain ⟨r26, q47, H⟩ := bind_t H
    refine RJ.op rfl rfl (op_call [0] (Q45.spec q47) rfl rfl rfl h39 rfl gnil) ?_
    rintro _ w33 ⟨_, ⟨rfl, rfl, q48⟩, h48⟩
    replace h48 : St w0 F0 [ownC 23 (.int .u32) r26.2.2 (.slice A1 r26.2.2.length c_1)] _ _ := h48
    have e29 : r26.2.2.length = a0.length := q48.trans e5
    refine RJ.run ttok 5 rfl ?_
    refine RJ.fin [(0, _), (1, _), (2, _), (3, _), (10, _), (14, .int .i64 r26.1), (15, .bool r26.2.1)] rfl ?_
    refine J.envEq (env' := [(0, .slice A1 r26.2.2.length c_1), (1, .int .i64 x2), (2, .int .i64 x3), (3, .int .i64 x8), (10, .int .i64 (w64 (x3 - x2))), (14, .int .i64 r26.1), (15, .bool r26.2.1)]) (by simp only [q48]) ?_
    refine J.seq (J.region ?_)
    refine RJ.run ttok 2 rfl ?_
    refine RJ.fin [(0, _), (1, _), (2, _), (3, _), (9, .bool r26.2.1), (10, _), (14, _)] rfl ?_
    refine J.seq (J.region ?_)
    refine RJ.run ttok 8 rfl ?_
    refine RJ.fin [(0, _), (1, _), (2, _), (3, _), (9, _), (10, _), (14, _), (16, .int .i64 (w64 (r26.1 - x2))), (17, .int .i64 (w64 (x3 - r26.1)))] rfl ?_
    refine J.seq (J.region ?_)
    refine RJ.run ttok 3 rfl ?_
    refine RJ.fin [(0, _), (1, _), (2, _), (3, _), (9, _), (14, _), (16, _), (17, _), (18, .int .i64 (w64 (Int.tdiv (w64 (x3 - x2)) 8)))] rfl ?_
    refine J.seq (J.region ?_)
    refine RJ.run ttok 3 rfl ?_
    refine RJ.fin [(0, _), (1, _), (2, _), (3, _), (9, _), (14, _), (16, _), (17, _), (18, _), (113, .bool (decide ((w64 (r26.1 - x2)) < (w64 (x3 - r26.1)))))] rfl ?_
    refine J.cond rfl (fun c18 => ?_) (fun c18 => ?_)
    · replace H := ite_t c18 H
      refine J.seq (J.region ?_)
      refine RJ.run ttok 4 rfl ?_
      refine RJ.fin [(0, _), (1, _), (2, _), (3, _), (8, .bool (decide ((w64 (Int.tdiv (w64 (x3 - x2)) 8)) ≤ (w64 (r26.1 - x2))))), (9, _), (14, _)] rfl ?_
      refine J.seq (J.region ?_)
      refine RJ.run ttok 4 rfl ?_
      obtain ⟨r27, q49, H⟩ := bind_t H
      refine RJ.op rfl rfl (op_call [0] (ih k3 (by omega) q49) rfl rfl rfl h48 rfl gnil) ?_
      rintro _ w34 ⟨_, ⟨rfl, rfl, q50⟩, h49⟩
      replace h49 : St w0 F0 [ownC 23 (.int .u32) r27 (.slice A1 r27.length c_1)] _ _ := h49
      have e30 : r27.length = a0.length := q50.trans e29
      refine RJ.fin [(0, _), (2, _), (3, _), (8, _), (9, _), (14, _)] rfl ?_
      refine J.envEq (env' := [(0, .slice A1 r27.length c_1), (2, .int .i64 x3), (3, .int .i64 x8), (8, .bool (decide ((w64 (Int.tdiv (w64 (x3 - x2)) 8)) ≤ (w64 (r26.1 - x2))))), (9, .bool r26.2.1), (14, .int .i64 r26.1)]) (by simp only [q50]) ?_
      refine J.region ?_
      refine RJ.run ttok 3 rfl ?_
      refine RJ.fin [(0, _), (1, .int .i64 (w64 (r26.1 + 1))), (2, _), (3, _), (8, _), (9, _)] rfl ?_
      have h50 := ((h49.only [0] rfl).rds [] rfl)
      exact ⟨k3, by omega, r27, (w64 (r26.1 + 1)), x3, x8, (decide ((w64 (Int.tdiv (w64 (x3 - x2)) 8)) ≤ (w64 (r26.1 - x2)))), r26.2.1, rfl, h50, H, by omega, e30⟩
    replace H := ite_f c18 H
    refine J.seq (J.region ?_)
    refine RJ.run ttok 4 rfl ?_
    refine RJ.fin [(0, _), (1, _), (2, _), (3, _), (8, .bool (decide ((w64 (Int.tdiv (w64 (x3 - x2)) 8)) ≤ (w64 (x3 - r26.1))))), (9, _), (14, _)] rfl ?_
    refine J.seq (J.region ?_)
    refine RJ.run ttok 5 rfl ?_
    obtain ⟨r28, q51, H⟩ := bind_t H
    refine RJ.op rfl rfl (op_call [0] (ih k3 (by omega) q51) rfl rfl rfl h48 rfl gnil) ?_
    rintro _ w35 ⟨_, ⟨rfl, rfl, q52⟩, h51⟩
    replace h51 : St w0 F0 [ownC 23 (.int .u32) r28 (.slice A1 r28.length c_1)] _ _ := h51
    have e31 : r28.length = a0.length := q52.trans e29
    refine RJ.fin [(0, _), (1, _), (3, _), (8, _), (9, _), (14, _)] rfl ?_
    refine J.envEq (env' := [(0, .slice A1 r28.length c_1), (1, .int .i64 x2), (3, .int .i64 x8), (8, .bool (decide ((w64 (Int.tdiv (w64 (x3 - x2)) 8)) ≤ (w64 (x3 - r26.1))))), (9, .bool r26.2.1), (14, .int .i64 r26.1)]) (by simp only [q52]) ?_
    refine J.region ?_
    refine RJ.run ttok 2 rfl ?_
    refine RJ.fin [(0, _), (1, _), (2, .int .i64 r26.1), (3, _), (8, _), (9, _)] rfl ?_
    have h52 := ((h51.only [0] rfl).rds [] rfl)
    exact ⟨k3, by omega, r28, x2, r26.1, x8, (decide ((w64 (Int.tdiv (w64 (x3 - x2)) 8)) ≤ (w64 (x3 - r26.1)))), r26.2.1, rfl, h52, H, by omega, e31⟩

def Q34.f (k : Nat) (a0 : List (Int)) : Option (List (Int)) := (Q0.f (IntKind.u64.wrap ((a0.length : Int)))).bind fun r1 => ((Q46.f k a0 0 (a0.length : Int) r1).bind fun r2 => (some r2))
theorem Q34.spec {k : Nat} {a0 : List (Int)} {A1 : Option Addr} {c_1 : Nat} {r : List (Int)} (H : Q34.f k a0 = some r) :
    Spec Try.prog 144 [.slice A1 a0.length c_1] [ownC 23 (.int .u32) a0 (.slice A1 a0.length c_1)] [] (fun v l => v = .tuple #[] ∧ l = [ownC 23 (.int .u32) r (.slice A1 r.length c_1)] ∧ r.length = a0.length) := by
  refine Spec.enter Try.func144 rfl (by kernel_rfl) (by kernel_rfl) fun w0 F0 h0 => ?_
  unfold Q34.f at H
  refine J.seq (J.region ?_)
  refine RJ.run ttok 3 rfl ?_
  refine RJ.fin [(0, .slice A1 a0.length c_1), (2, .int .i64 (a0.length : Int))] rfl ?_
  refine J.region ?_
  refine RJ.run ttok 4 rfl ?_
  obtain ⟨r1, q1, H⟩ := bind_t H
  refine RJ.op rfl rfl (op_call [] (Q0.spec q1) rfl rfl rfl h0 rfl gnil) ?_
  rintro _ w1 ⟨_, ⟨rfl, rfl⟩, h1⟩
  replace h1 : St w0 F0 [ownC 23 (.int .u32) a0 (.slice A1 a0.length c_1)] _ _ := h1
  obtain ⟨r2, q2, H⟩ := bind_t H
  refine RJ.op rfl rfl (op_call [0] (Q46.spec q2) rfl rfl rfl h1 rfl gnil) ?_
  rintro _ w2 ⟨_, ⟨rfl, rfl, q3⟩, h2⟩
  replace h2 : St w0 F0 [ownC 23 (.int .u32) r2 (.slice A1 r2.length c_1)] _ _ := h2
  have e1 : r2.length = a0.length := q3.trans (rfl : a0.length = a0.length)
  refine RJ.fin [] rfl ?_
  obtain rfl := Option.some.inj H
  exact ⟨_, _, _, (results_slots rfl), ⟨rfl, rfl, e1⟩, h2.only [0] rfl⟩

end Go.SK.T
