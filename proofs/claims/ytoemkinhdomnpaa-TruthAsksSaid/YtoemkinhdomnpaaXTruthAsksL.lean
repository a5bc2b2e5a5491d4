/- The law sluicegate/sluicegatelaw28.TruthAsks: for every input it returns true, and each argument reads as it read. No condition. -/
import Derived.Test.YtoemkinhdomnpaaRows
import Derived.Test.YtoemkinhdomnpaaXTruthAsksF1
import Derived.Test.YtoemkinhdomnpaaXTruthAsksP
import Derived.WalkKit
import Derived.ProofKit
import Derived.OpenShut
import Derived.ShutString
import Derived.ChangeOld
import Derived.Below
import Derived.SizedLaws
namespace Go.Proofs.Ytoemkinhdomnpaa.truthAsks
open Go Go.SK Go.ChangeShapes Go.WideShapes Go.ChangeAt Go.RowKit
set_option linter.unusedVariables false
set_option linter.unusedSimpArgs false
theorem own : ownKnob Try.prog.godebug = none := by kernel_rfl
theorem laidOut : laidOutB Try.prog = true := by kernel_rfl
theorem opens0 : Opens Try.prog (bytesIn Go.SK.T.tt) (.pair (.int .i64) (.pair (.int .i64) (.pair (.int .i64) (.pair (.int .i64) (.pair (.int .i64) (.pair (.int .i64) (.pair (.int .i64) (.int .i64)))))))) 61 true := (Opens.struct (ts := [(.int .i64), (.int .i64), (.int .i64), (.int .i64), (.int .i64), (.int .i64), (.int .i64), (.int .i64)]) Try.underlying61 (by kernel_rfl) ⟨rfl, ⟨_, (Opens.int Try.underlying3 (by kernel_rfl))⟩, ⟨rfl, ⟨_, (Opens.int Try.underlying3 (by kernel_rfl))⟩, ⟨rfl, ⟨_, (Opens.int Try.underlying3 (by kernel_rfl))⟩, ⟨rfl, ⟨_, (Opens.int Try.underlying3 (by kernel_rfl))⟩, ⟨rfl, ⟨_, (Opens.int Try.underlying3 (by kernel_rfl))⟩, ⟨rfl, ⟨_, (Opens.int Try.underlying3 (by kernel_rfl))⟩, ⟨rfl, ⟨_, (Opens.int Try.underlying3 (by kernel_rfl))⟩, ⟨rfl, ⟨_, (Opens.int Try.underlying3 (by kernel_rfl))⟩, trivial⟩⟩⟩⟩⟩⟩⟩⟩)
theorem opens1 : Opens Try.prog (bytesIn Go.SK.T.tt) (.slice 64 (.pair (.int .i64) (.pair .str (.pair .str (.int .i64))))) 62 false := (Opens.slice Try.underlying62 (by kernel_rfl) (by kernel_rfl) rfl (Opens.struct (ts := [(.int .i64), .str, .str, (.int .i64)]) Try.underlying64 (by kernel_rfl) ⟨rfl, ⟨_, (Opens.int Try.underlying3 (by kernel_rfl))⟩, ⟨rfl, ⟨_, (Opens.str Try.underlying9 (by kernel_rfl))⟩, ⟨rfl, ⟨_, (Opens.str Try.underlying9 (by kernel_rfl))⟩, ⟨rfl, ⟨_, (Opens.int Try.underlying3 (by kernel_rfl))⟩, trivial⟩⟩⟩⟩))
theorem opens2 : Opens Try.prog (bytesIn Go.SK.T.tt) (.pair (.int .i64) (.pair .str (.pair .str (.int .i64)))) 64 true := (Opens.struct (ts := [(.int .i64), .str, .str, (.int .i64)]) Try.underlying64 (by kernel_rfl) ⟨rfl, ⟨_, (Opens.int Try.underlying3 (by kernel_rfl))⟩, ⟨rfl, ⟨_, (Opens.str Try.underlying9 (by kernel_rfl))⟩, ⟨rfl, ⟨_, (Opens.str Try.underlying9 (by kernel_rfl))⟩, ⟨rfl, ⟨_, (Opens.int Try.underlying3 (by kernel_rfl))⟩, trivial⟩⟩⟩⟩)
set_option maxRecDepth 100000 in
theorem lifted (os : Os) (started : os.Started) (H : Type) (enc : TypeId × Value → H) :
    ReturnsInHanded {} Try.checked os 7 .any (Rows.truthAsksSpec.pre6 enc Try.prog Try.f7 Rows.truthAsksRow.domain false) (Rows.truthAsksSpec.post enc Try.prog Try.f7 false true false false) := by
  refine returnsInHanded_of_change_sized (C := Try.checked) own started (by kernel_rfl) Try.func7
    (ChangeSpec.witness6 (enc := enc) (C := Try.checked) false ⟨#[], #[.agg #[.int .i64 0, .int .i64 0, .int .i64 0, .int .i64 0, .int .i64 0, .int .i64 0, .int .i64 0, .int .i64 0], .slice none 0 0, .agg #[.int .i64 0, .string ByteArray.empty, .string ByteArray.empty, .int .i64 0]], []⟩ 8 (by kernel_rfl) (by kernel_rfl) (by kernel_rfl) (by kernel_rfl)) ?_
  intro W base args ds gs before hval0 hW hcnd hsz0 _
  have hsz : (DataW.weightsEach Try.prog (Try.f7.params.toList ++ Rows.truthAsksSpec.plain.varTypes Try.prog) (ds ++ gs)).all (· ≤ reachBytes) = true := hsz0
  have hval : ∀ (j : Nat) t v, Try.f7.params[j]? = some t → args[j]? = some v → Value.okWide Try.prog W .any base t v := hval0
  have hW' := hW
  obtain ⟨p, q, hA0, hV, rfl, hfz, hnd⟩ := hW
  have hA : DataW.TrodAll enc Try.prog W 0 (fun _ => true) true Try.f7.params.toList args.toList ds p := hA0
  rw [Try.params7] at hA hval hsz
  obtain ⟨v0, vs0, d0, ds0, p0, q0, hargs, rfl, rfl, h0, r0⟩ := trodAll_cons hA
  obtain ⟨v1, vs1, d1, ds1, p1, q1, rfl, rfl, rfl, h1, r1⟩ := trodAll_cons r0
  obtain ⟨v2, vs2, d2, ds2, p2, q2, rfl, rfl, rfl, h2, r2⟩ := trodAll_cons r1
  obtain ⟨rfl, rfl, rfl⟩ := trodAll_nil r2
  obtain rfl : args = #[v0, v1, v2] := by cases args; simp_all
  obtain ⟨rfl, rfl⟩ := trodVars_none hV
  have k0 := h0
  have lt0 : ∀ x ∈ p0, x.block < W.heap.size := by obtain ⟨m, hm⟩ := k0; exact DataW.trod_lt m _ _ _ hm
  obtain ⟨x0, cs0, ok0, fit0, rfl⟩ := opens0.arg (hval 0 61 v0 rfl rfl) h0 hsz (j := 0) rfl rfl
  have k1 := h1
  have lt1 : ∀ x ∈ p1, x.block < W.heap.size := by obtain ⟨m, hm⟩ := k1; exact DataW.trod_lt m _ _ _ hm
  obtain ⟨x1, cs1, ok1, fit1, rfl⟩ := opens1.arg (hval 1 62 v1 rfl rfl) h1 hsz (j := 1) rfl rfl
  have k2 := h2
  have lt2 : ∀ x ∈ p2, x.block < W.heap.size := by obtain ⟨m, hm⟩ := k2; exact DataW.trod_lt m _ _ _ hm
  obtain ⟨x2, cs2, ok2, fit2, rfl⟩ := opens2.arg (hval 2 64 v2 rfl rfl) h2 hsz (j := 2) rfl rfl
  obtain rfl := Ty.ok_enc (t := (.pair (.int .i64) (.pair (.int .i64) (.pair (.int .i64) (.pair (.int .i64) (.pair (.int .i64) (.pair (.int .i64) (.pair (.int .i64) (.int .i64))))))))) rfl ok0
  obtain ⟨Aq2, cq2, rfl, rlq2⟩ := ok1
  have rdq2 : (rdC 64 (.pair (.int .i64) (.pair .str (.pair .str (.int .i64)))) x1 (.slice Aq2 x1.length cq2)).ok W (fun b => b < W.heap.size) := ⟨Aq2, cq2, rfl, rlq2⟩
  obtain rfl := Ty.ok_enc (t := (.pair (.int .i64) (.pair .str (.pair .str (.int .i64))))) rfl ok2
  clear hA0 hval0 hsz0 hsz hval
  obtain ⟨k, r⟩ := Go.SK.T.TruthAsks_pure x0 x1 x2 fit0 fit1 fit2
  refine (Spec.law (W := W) (Go.SK.T.sluicegatelaw28_TruthAsks.spec r) ?_).mono fun e W' ⟨he, bel⟩ => ?_
  · intro c hc; simp only [List.mem_cons, List.mem_nil_iff, or_false] at hc
    rcases hc with rfl
    · exact ⟨_, rdq2, fun b hb => hb⟩
  subst he
  exact ⟨_, rfl, _, _, _, [], _, [], hW', trodAll_mk1 (shut_bool Try.underlying4 _), (trodAll_cons_mk (Below.trod laidOut (by kernel_rfl) (of_decide_eq_true (by kernel_rfl)) k0 bel lt0) (trodAll_cons_mk (Below.trod laidOut (by kernel_rfl) (of_decide_eq_true (by kernel_rfl)) k1 bel lt1) (trodAll_cons_mk (Below.trod laidOut (by kernel_rfl) (of_decide_eq_true (by kernel_rfl)) k2 bel lt2) trodAll_mk0))), rfl, bel.frame _, fun h => by cases h⟩
theorem over : Rows.truthAsksRow.holds Try.pinned (OpenSpec.ofChange Rows.truthAsksSpec) :=
  OpenClaim.holds_of_wide 7 Try.f7 rfl rfl rfl rfl rfl rfl rfl ⟨rfl, rfl, rfl, rfl, rfl⟩ rfl rfl rfl rfl rfl (by kernel_rfl) Try.func7 (by kernel_rfl)
    (of_decide_eq_true (by kernel_rfl)) (by unfold Func.isWrapper; first | (rw [if_pos (by decide +kernel)]; kernel_rfl) | (rw [if_neg (by decide +kernel)]; exact ⟨rfl, rfl⟩))
    (fun os started H enc _ => lifted os started H enc)
theorem proved : Rows.TruthAsksSaid := over
#print axioms proved
end Go.Proofs.Ytoemkinhdomnpaa.truthAsks
namespace Go.Proofs.Ytoemkinhdomnpaa
/-- The row, under a short name, for the claim. -/
theorem truthAsks_holds : Rows.TruthAsksSaid := truthAsks.proved
end Go.Proofs.Ytoemkinhdomnpaa
