/- The law sluicegate/sluicegatelaw13.NodeRights: for every input it returns true, and each argument reads as it read. No condition. -/
import Derived.Test.YtjnifnkbphggkaaRows
import Derived.Test.YtjnifnkbphggkaaXNodeRightsF3
import Derived.Test.YtjnifnkbphggkaaXNodeRightsP
import Derived.WalkKit
import Derived.ProofKit
import Derived.OpenShut
import Derived.ShutString
import Derived.ChangeOld
import Derived.Below
import Derived.SizedLaws
namespace Go.Proofs.Ytjnifnkbphggkaa.nodeRights
open Go Go.SK Go.ChangeShapes Go.WideShapes Go.ChangeAt Go.RowKit
set_option linter.unusedVariables false
set_option linter.unusedSimpArgs false
theorem own : ownKnob Try.prog.godebug = none := by kernel_rfl
theorem laidOut : laidOutB Try.prog = true := by kernel_rfl
theorem opens0 : Opens Try.prog (bytesIn Go.SK.T.tt) (.pair (.int .i64) (.pair (.int .i64) (.pair (.int .i64) (.pair (.int .i64) (.pair (.int .i64) (.pair (.int .i64) (.pair (.int .i64) (.int .i64)))))))) 23 true := (Opens.struct (ts := [(.int .i64), (.int .i64), (.int .i64), (.int .i64), (.int .i64), (.int .i64), (.int .i64), (.int .i64)]) Try.underlying23 (by kernel_rfl) ⟨rfl, ⟨_, (Opens.int Try.underlying3 (by kernel_rfl))⟩, ⟨rfl, ⟨_, (Opens.int Try.underlying3 (by kernel_rfl))⟩, ⟨rfl, ⟨_, (Opens.int Try.underlying3 (by kernel_rfl))⟩, ⟨rfl, ⟨_, (Opens.int Try.underlying3 (by kernel_rfl))⟩, ⟨rfl, ⟨_, (Opens.int Try.underlying3 (by kernel_rfl))⟩, ⟨rfl, ⟨_, (Opens.int Try.underlying3 (by kernel_rfl))⟩, ⟨rfl, ⟨_, (Opens.int Try.underlying3 (by kernel_rfl))⟩, ⟨rfl, ⟨_, (Opens.int Try.underlying3 (by kernel_rfl))⟩, trivial⟩⟩⟩⟩⟩⟩⟩⟩)
theorem opens1 : Opens Try.prog (bytesIn Go.SK.T.tt) (.pair .str (.pair .str .bool)) 25 true := (Opens.struct (ts := [.str, .str, .bool]) Try.underlying25 (by kernel_rfl) ⟨rfl, ⟨_, (Opens.str Try.underlying9 (by kernel_rfl))⟩, ⟨rfl, ⟨_, (Opens.str Try.underlying9 (by kernel_rfl))⟩, ⟨rfl, ⟨_, (Opens.bool Try.underlying4 (by kernel_rfl))⟩, trivial⟩⟩⟩)
theorem opens2 : Opens Try.prog (bytesIn Go.SK.T.tt) (.pair (.int .i64) (.pair (.slice 46 (.int .u32)) (.pair (.slice 9 .str) (.pair (.slice 48 (.pair .str (.pair .bool .str))) (.slice 50 (.pair .str .str)))))) 31 true := (Opens.struct (ts := [(.int .i64), (.slice 46 (.int .u32)), (.slice 9 .str), (.slice 48 (.pair .str (.pair .bool .str))), (.slice 50 (.pair .str .str))]) Try.underlying31 (by kernel_rfl) ⟨rfl, ⟨_, (Opens.int Try.underlying3 (by kernel_rfl))⟩, ⟨rfl, ⟨_, (Opens.slice Try.underlying26 (by kernel_rfl) (by kernel_rfl) rfl (Opens.int Try.underlying46 (by kernel_rfl)))⟩, ⟨rfl, ⟨_, (Opens.slice Try.underlying27 (by kernel_rfl) (by kernel_rfl) rfl (Opens.str Try.underlying9 (by kernel_rfl)))⟩, ⟨rfl, ⟨_, (Opens.slice Try.underlying28 (by kernel_rfl) (by kernel_rfl) rfl (Opens.struct (ts := [.str, .bool, .str]) Try.underlying48 (by kernel_rfl) ⟨rfl, ⟨_, (Opens.str Try.underlying9 (by kernel_rfl))⟩, ⟨rfl, ⟨_, (Opens.bool Try.underlying4 (by kernel_rfl))⟩, ⟨rfl, ⟨_, (Opens.str Try.underlying9 (by kernel_rfl))⟩, trivial⟩⟩⟩))⟩, ⟨rfl, ⟨_, (Opens.slice Try.underlying29 (by kernel_rfl) (by kernel_rfl) rfl (Opens.struct (ts := [.str, .str]) Try.underlying50 (by kernel_rfl) ⟨rfl, ⟨_, (Opens.str Try.underlying9 (by kernel_rfl))⟩, ⟨rfl, ⟨_, (Opens.str Try.underlying9 (by kernel_rfl))⟩, trivial⟩⟩))⟩, trivial⟩⟩⟩⟩⟩)
set_option maxRecDepth 100000 in
theorem lifted (os : Os) (started : os.Started) (H : Type) (enc : TypeId × Value → H) :
    ReturnsInHanded {} Try.checked os 14 .any (Rows.nodeRightsSpec.pre6 enc Try.prog Try.f14 Rows.nodeRightsRow.domain false) (Rows.nodeRightsSpec.post enc Try.prog Try.f14 false true false false) := by
  refine returnsInHanded_of_change_sized (C := Try.checked) own started (by kernel_rfl) Try.func14
    (ChangeSpec.witness6 (enc := enc) (C := Try.checked) false ⟨#[], #[.agg #[.int .i64 0, .int .i64 0, .int .i64 0, .int .i64 0, .int .i64 0, .int .i64 0, .int .i64 0, .int .i64 0], .agg #[.string ByteArray.empty, .string ByteArray.empty, .bool false], .agg #[.int .i64 0, .slice none 0 0, .slice none 0 0, .slice none 0 0, .slice none 0 0]], []⟩ 8 (by kernel_rfl) (by kernel_rfl) (by kernel_rfl) (by kernel_rfl)) ?_
  intro W base args ds gs before hval0 hW hcnd hsz0 _
  have hsz : (DataW.weightsEach Try.prog (Try.f14.params.toList ++ Rows.nodeRightsSpec.plain.varTypes Try.prog) (ds ++ gs)).all (· ≤ reachBytes) = true := hsz0
  have hval : ∀ (j : Nat) t v, Try.f14.params[j]? = some t → args[j]? = some v → Value.okWide Try.prog W .any base t v := hval0
  have hW' := hW
  obtain ⟨p, q, hA0, hV, rfl, hfz, hnd⟩ := hW
  have hA : DataW.TrodAll enc Try.prog W 0 (fun _ => true) true Try.f14.params.toList args.toList ds p := hA0
  rw [Try.params14] at hA hval hsz
  obtain ⟨v0, vs0, d0, ds0, p0, q0, hargs, rfl, rfl, h0, r0⟩ := trodAll_cons hA
  obtain ⟨v1, vs1, d1, ds1, p1, q1, rfl, rfl, rfl, h1, r1⟩ := trodAll_cons r0
  obtain ⟨v2, vs2, d2, ds2, p2, q2, rfl, rfl, rfl, h2, r2⟩ := trodAll_cons r1
  obtain ⟨rfl, rfl, rfl⟩ := trodAll_nil r2
  obtain rfl : args = #[v0, v1, v2] := by cases args; simp_all
  obtain ⟨rfl, rfl⟩ := trodVars_none hV
  have k0 := h0
  have lt0 : ∀ x ∈ p0, x.block < W.heap.size := by obtain ⟨m, hm⟩ := k0; exact DataW.trod_lt m _ _ _ hm
  obtain ⟨x0, cs0, ok0, fit0, rfl⟩ := opens0.arg (hval 0 23 v0 rfl rfl) h0 hsz (j := 0) rfl rfl
  have k1 := h1
  have lt1 : ∀ x ∈ p1, x.block < W.heap.size := by obtain ⟨m, hm⟩ := k1; exact DataW.trod_lt m _ _ _ hm
  obtain ⟨x1, cs1, ok1, fit1, rfl⟩ := opens1.arg (hval 1 25 v1 rfl rfl) h1 hsz (j := 1) rfl rfl
  have k2 := h2
  have lt2 : ∀ x ∈ p2, x.block < W.heap.size := by obtain ⟨m, hm⟩ := k2; exact DataW.trod_lt m _ _ _ hm
  obtain ⟨x2, cs2, ok2, fit2, rfl⟩ := opens2.arg (hval 2 31 v2 rfl rfl) h2 hsz (j := 2) rfl rfl
  obtain rfl := Ty.ok_enc (t := (.pair (.int .i64) (.pair (.int .i64) (.pair (.int .i64) (.pair (.int .i64) (.pair (.int .i64) (.pair (.int .i64) (.pair (.int .i64) (.int .i64))))))))) rfl ok0
  obtain rfl := Ty.ok_enc (t := (.pair .str (.pair .str .bool))) rfl ok1
  obtain ⟨u4a, u4b, rfl, u4p, u4r⟩ := ok2
  obtain rfl := Ty.ok_enc (t := (.int .i64)) rfl u4p
  obtain ⟨u6a, u6b, rfl, u6p, u6r⟩ := u4r
  obtain ⟨Aq7, cq7, rfl, rlq7⟩ := u6p
  have rdq7 : (rdC 46 (.int .u32) x2.2.1 (.slice Aq7 x2.2.1.length cq7)).ok W (fun b => b < W.heap.size) := ⟨Aq7, cq7, rfl, rlq7⟩
  obtain ⟨u8a, u8b, rfl, u8p, u8r⟩ := u6r
  obtain ⟨Aq9, cq9, rfl, rlq9⟩ := u8p
  have rdq9 : (rdC 9 .str x2.2.2.1 (.slice Aq9 x2.2.2.1.length cq9)).ok W (fun b => b < W.heap.size) := ⟨Aq9, cq9, rfl, rlq9⟩
  obtain ⟨u10a, u10b, rfl, u10p, u10r⟩ := u8r
  obtain ⟨Aq11, cq11, rfl, rlq11⟩ := u10p
  have rdq11 : (rdC 48 (.pair .str (.pair .bool .str)) x2.2.2.2.1 (.slice Aq11 x2.2.2.2.1.length cq11)).ok W (fun b => b < W.heap.size) := ⟨Aq11, cq11, rfl, rlq11⟩
  obtain ⟨Aq12, cq12, rfl, rlq12⟩ := u10r
  have rdq12 : (rdC 50 (.pair .str .str) x2.2.2.2.2 (.slice Aq12 x2.2.2.2.2.length cq12)).ok W (fun b => b < W.heap.size) := ⟨Aq12, cq12, rfl, rlq12⟩
  clear hA0 hval0 hsz0 hsz hval
  obtain ⟨k, r⟩ := Go.SK.T.NodeRights_pure x0 x1 x2 fit0 fit1 fit2
  refine (Spec.law (W := W) (Go.SK.T.sluicegatelaw13_NodeRights.spec r) ?_).mono fun e W' ⟨he, bel⟩ => ?_
  · intro c hc; simp only [List.mem_cons, List.mem_nil_iff, or_false] at hc
    rcases hc with rfl | rfl | rfl | rfl
    · exact ⟨_, rdq7, fun b hb => hb⟩
    · exact ⟨_, rdq9, fun b hb => hb⟩
    · exact ⟨_, rdq11, fun b hb => hb⟩
    · exact ⟨_, rdq12, fun b hb => hb⟩
  subst he
  exact ⟨_, rfl, _, _, _, [], _, [], hW', trodAll_mk1 (shut_bool Try.underlying4 _), (trodAll_cons_mk (Below.trod laidOut (by kernel_rfl) (of_decide_eq_true (by kernel_rfl)) k0 bel lt0) (trodAll_cons_mk (Below.trod laidOut (by kernel_rfl) (of_decide_eq_true (by kernel_rfl)) k1 bel lt1) (trodAll_cons_mk (Below.trod laidOut (by kernel_rfl) (of_decide_eq_true (by kernel_rfl)) k2 bel lt2) trodAll_mk0))), rfl, bel.frame _, fun h => by cases h⟩
theorem over : Rows.nodeRightsRow.holds Try.pinned (OpenSpec.ofChange Rows.nodeRightsSpec) :=
  OpenClaim.holds_of_wide 14 Try.f14 rfl rfl rfl rfl rfl rfl rfl ⟨rfl, rfl, rfl, rfl, rfl⟩ rfl rfl rfl rfl rfl (by kernel_rfl) Try.func14 (by kernel_rfl)
    (of_decide_eq_true (by kernel_rfl)) (by unfold Func.isWrapper; first | (rw [if_pos (by decide +kernel)]; kernel_rfl) | (rw [if_neg (by decide +kernel)]; exact ⟨rfl, rfl⟩))
    (fun os started H enc _ => lifted os started H enc)
theorem proved : Rows.NodeRightsSaid := over
#print axioms proved
end Go.Proofs.Ytjnifnkbphggkaa.nodeRights
namespace Go.Proofs.Ytjnifnkbphggkaa
/-- The row, under a short name, for the claim. -/
theorem nodeRights_holds : Rows.NodeRightsSaid := nodeRights.proved
end Go.Proofs.Ytjnifnkbphggkaa
