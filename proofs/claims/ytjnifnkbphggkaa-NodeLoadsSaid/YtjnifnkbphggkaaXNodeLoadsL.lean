/- The law sluicegate/sluicegatelaw13.NodeLoads: for every input it returns true, and each argument reads as it read. No condition. -/
import Derived.Test.YtjnifnkbphggkaaRows
import Derived.Test.YtjnifnkbphggkaaXNodeLoadsF1
import Derived.Test.YtjnifnkbphggkaaXNodeLoadsP
import Derived.WalkKit
import Derived.ProofKit
import Derived.OpenShut
import Derived.ShutString
import Derived.ChangeOld
import Derived.Below
import Derived.SizedLaws
namespace Go.Proofs.Ytjnifnkbphggkaa.nodeLoads
open Go Go.SK Go.ChangeShapes Go.WideShapes Go.ChangeAt Go.RowKit
set_option linter.unusedVariables false
set_option linter.unusedSimpArgs false
theorem own : ownKnob Try.prog.godebug = none := by kernel_rfl
theorem laidOut : laidOutB Try.prog = true := by kernel_rfl
theorem opens0 : Opens Try.prog (bytesIn Go.SK.T.tt) (.pair (.int .i64) (.pair (.slice 46 (.int .u32)) (.pair (.slice 9 .str) (.pair (.slice 48 (.pair .str (.pair .bool .str))) (.slice 50 (.pair .str .str)))))) 31 true := (Opens.struct (ts := [(.int .i64), (.slice 46 (.int .u32)), (.slice 9 .str), (.slice 48 (.pair .str (.pair .bool .str))), (.slice 50 (.pair .str .str))]) Try.underlying31 (by kernel_rfl) ⟨rfl, ⟨_, (Opens.int Try.underlying3 (by kernel_rfl))⟩, ⟨rfl, ⟨_, (Opens.slice Try.underlying26 (by kernel_rfl) (by kernel_rfl) rfl (Opens.int Try.underlying46 (by kernel_rfl)))⟩, ⟨rfl, ⟨_, (Opens.slice Try.underlying27 (by kernel_rfl) (by kernel_rfl) rfl (Opens.str Try.underlying9 (by kernel_rfl)))⟩, ⟨rfl, ⟨_, (Opens.slice Try.underlying28 (by kernel_rfl) (by kernel_rfl) rfl (Opens.struct (ts := [.str, .bool, .str]) Try.underlying48 (by kernel_rfl) ⟨rfl, ⟨_, (Opens.str Try.underlying9 (by kernel_rfl))⟩, ⟨rfl, ⟨_, (Opens.bool Try.underlying4 (by kernel_rfl))⟩, ⟨rfl, ⟨_, (Opens.str Try.underlying9 (by kernel_rfl))⟩, trivial⟩⟩⟩))⟩, ⟨rfl, ⟨_, (Opens.slice Try.underlying29 (by kernel_rfl) (by kernel_rfl) rfl (Opens.struct (ts := [.str, .str]) Try.underlying50 (by kernel_rfl) ⟨rfl, ⟨_, (Opens.str Try.underlying9 (by kernel_rfl))⟩, ⟨rfl, ⟨_, (Opens.str Try.underlying9 (by kernel_rfl))⟩, trivial⟩⟩))⟩, trivial⟩⟩⟩⟩⟩)
set_option maxRecDepth 100000 in
theorem lifted (os : Os) (started : os.Started) (H : Type) (enc : TypeId × Value → H) :
    ReturnsInHanded {} Try.checked os 8 .any (Rows.nodeLoadsSpec.pre6 enc Try.prog Try.f8 Rows.nodeLoadsRow.domain false) (Rows.nodeLoadsSpec.post enc Try.prog Try.f8 false true false false) := by
  refine returnsInHanded_of_change_sized (C := Try.checked) own started (by kernel_rfl) Try.func8
    (ChangeSpec.witness6 (enc := enc) (C := Try.checked) false ⟨#[], #[.agg #[.int .i64 0, .slice none 0 0, .slice none 0 0, .slice none 0 0, .slice none 0 0]], []⟩ 8 (by kernel_rfl) (by kernel_rfl) (by kernel_rfl) (by kernel_rfl)) ?_
  intro W base args ds gs before hval0 hW hcnd hsz0 _
  have hsz : (DataW.weightsEach Try.prog (Try.f8.params.toList ++ Rows.nodeLoadsSpec.plain.varTypes Try.prog) (ds ++ gs)).all (· ≤ reachBytes) = true := hsz0
  have hval : ∀ (j : Nat) t v, Try.f8.params[j]? = some t → args[j]? = some v → Value.okWide Try.prog W .any base t v := hval0
  have hW' := hW
  obtain ⟨p, q, hA0, hV, rfl, hfz, hnd⟩ := hW
  have hA : DataW.TrodAll enc Try.prog W 0 (fun _ => true) true Try.f8.params.toList args.toList ds p := hA0
  rw [Try.params8] at hA hval hsz
  obtain ⟨v0, vs0, d0, ds0, p0, q0, hargs, rfl, rfl, h0, r0⟩ := trodAll_cons hA
  obtain ⟨rfl, rfl, rfl⟩ := trodAll_nil r0
  obtain rfl : args = #[v0] := by cases args; simp_all
  obtain ⟨rfl, rfl⟩ := trodVars_none hV
  have k0 := h0
  have lt0 : ∀ x ∈ p0, x.block < W.heap.size := by obtain ⟨m, hm⟩ := k0; exact DataW.trod_lt m _ _ _ hm
  obtain ⟨x0, cs0, ok0, fit0, rfl⟩ := opens0.arg (hval 0 31 v0 rfl rfl) h0 hsz (j := 0) rfl rfl
  obtain ⟨u2a, u2b, rfl, u2p, u2r⟩ := ok0
  obtain rfl := Ty.ok_enc (t := (.int .i64)) rfl u2p
  obtain ⟨u4a, u4b, rfl, u4p, u4r⟩ := u2r
  obtain ⟨Aq5, cq5, rfl, rlq5⟩ := u4p
  have rdq5 : (rdC 46 (.int .u32) x0.2.1 (.slice Aq5 x0.2.1.length cq5)).ok W (fun b => b < W.heap.size) := ⟨Aq5, cq5, rfl, rlq5⟩
  obtain ⟨u6a, u6b, rfl, u6p, u6r⟩ := u4r
  obtain ⟨Aq7, cq7, rfl, rlq7⟩ := u6p
  have rdq7 : (rdC 9 .str x0.2.2.1 (.slice Aq7 x0.2.2.1.length cq7)).ok W (fun b => b < W.heap.size) := ⟨Aq7, cq7, rfl, rlq7⟩
  obtain ⟨u8a, u8b, rfl, u8p, u8r⟩ := u6r
  obtain ⟨Aq9, cq9, rfl, rlq9⟩ := u8p
  have rdq9 : (rdC 48 (.pair .str (.pair .bool .str)) x0.2.2.2.1 (.slice Aq9 x0.2.2.2.1.length cq9)).ok W (fun b => b < W.heap.size) := ⟨Aq9, cq9, rfl, rlq9⟩
  obtain ⟨Aq10, cq10, rfl, rlq10⟩ := u8r
  have rdq10 : (rdC 50 (.pair .str .str) x0.2.2.2.2 (.slice Aq10 x0.2.2.2.2.length cq10)).ok W (fun b => b < W.heap.size) := ⟨Aq10, cq10, rfl, rlq10⟩
  clear hA0 hval0 hsz0 hsz hval
  obtain ⟨k, r⟩ := Go.SK.T.NodeLoads_pure x0 fit0
  refine (Spec.law (W := W) (Go.SK.T.sluicegatelaw13_NodeLoads.spec r) ?_).mono fun e W' ⟨he, bel⟩ => ?_
  · intro c hc; simp only [List.mem_cons, List.mem_nil_iff, or_false] at hc
    rcases hc with rfl | rfl | rfl | rfl
    · exact ⟨_, rdq5, fun b hb => hb⟩
    · exact ⟨_, rdq7, fun b hb => hb⟩
    · exact ⟨_, rdq9, fun b hb => hb⟩
    · exact ⟨_, rdq10, fun b hb => hb⟩
  subst he
  exact ⟨_, rfl, _, _, _, [], _, [], hW', trodAll_mk1 (shut_bool Try.underlying4 _), (trodAll_cons_mk (Below.trod laidOut (by kernel_rfl) (of_decide_eq_true (by kernel_rfl)) k0 bel lt0) trodAll_mk0), rfl, bel.frame _, fun h => by cases h⟩
theorem over : Rows.nodeLoadsRow.holds Try.pinned (OpenSpec.ofChange Rows.nodeLoadsSpec) :=
  OpenClaim.holds_of_wide 8 Try.f8 rfl rfl rfl rfl rfl rfl rfl ⟨rfl, rfl, rfl, rfl, rfl⟩ rfl rfl rfl rfl rfl (by kernel_rfl) Try.func8 (by kernel_rfl)
    (of_decide_eq_true (by kernel_rfl)) (by unfold Func.isWrapper; first | (rw [if_pos (by decide +kernel)]; kernel_rfl) | (rw [if_neg (by decide +kernel)]; exact ⟨rfl, rfl⟩))
    (fun os started H enc _ => lifted os started H enc)
theorem proved : Rows.NodeLoadsSaid := over
#print axioms proved
end Go.Proofs.Ytjnifnkbphggkaa.nodeLoads
namespace Go.Proofs.Ytjnifnkbphggkaa
/-- The row, under a short name, for the claim. -/
theorem nodeLoads_holds : Rows.NodeLoadsSaid := nodeLoads.proved
end Go.Proofs.Ytjnifnkbphggkaa
