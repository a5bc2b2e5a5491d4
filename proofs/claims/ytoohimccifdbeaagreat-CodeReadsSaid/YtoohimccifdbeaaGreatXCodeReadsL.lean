/- The law sluicegate/sluicegatelaw16.CodeReads: for every input it returns true, and each argument reads as it read. No condition. -/
import Derived.Test.YtoohimccifdbeaaGreatRows
import Derived.Test.YtoohimccifdbeaaGreatXCodeReadsF4
import Derived.Test.YtoohimccifdbeaaGreatXCodeReadsP
import Derived.WalkKit
import Derived.ProofKit
import Derived.OpenShut
import Derived.ShutString
import Derived.ChangeOld
import Derived.Below
import Derived.SizedLaws
namespace Go.Proofs.YtoohimccifdbeaaGreat.codeReads
open Go Go.SK Go.ChangeShapes Go.WideShapes Go.ChangeAt Go.RowKit
set_option linter.unusedVariables false
set_option linter.unusedSimpArgs false
theorem own : ownKnob Tryz.prog.godebug = none := by kernel_rfl
theorem laidOut : laidOutB Tryz.prog = true := by kernel_rfl
theorem opens0 : Opens Tryz.prog (Gt Go.SK.T.tt) (.pair (.int .i64) (.pair (.int .i64) (.pair (.int .i64) (.pair (.int .i64) (.pair (.int .i64) (.pair (.int .i64) (.pair (.int .i64) (.int .i64)))))))) 23 true := (Opens.struct (ts := [(.int .i64), (.int .i64), (.int .i64), (.int .i64), (.int .i64), (.int .i64), (.int .i64), (.int .i64)]) Tryz.underlying23 (by kernel_rfl) ⟨rfl, ⟨_, (Opens.int Tryz.underlying3 (by kernel_rfl))⟩, ⟨rfl, ⟨_, (Opens.int Tryz.underlying3 (by kernel_rfl))⟩, ⟨rfl, ⟨_, (Opens.int Tryz.underlying3 (by kernel_rfl))⟩, ⟨rfl, ⟨_, (Opens.int Tryz.underlying3 (by kernel_rfl))⟩, ⟨rfl, ⟨_, (Opens.int Tryz.underlying3 (by kernel_rfl))⟩, ⟨rfl, ⟨_, (Opens.int Tryz.underlying3 (by kernel_rfl))⟩, ⟨rfl, ⟨_, (Opens.int Tryz.underlying3 (by kernel_rfl))⟩, ⟨rfl, ⟨_, (Opens.int Tryz.underlying3 (by kernel_rfl))⟩, trivial⟩⟩⟩⟩⟩⟩⟩⟩)
theorem opens1 : Opens Tryz.prog (Gt Go.SK.T.tt) (.slice 5 (.int .u8)) 33 false := (Opens.slice Tryz.underlying33 (by kernel_rfl) (by kernel_rfl) rfl (Opens.int Tryz.underlying5 (by kernel_rfl)))
set_option maxRecDepth 100000 in
theorem lifted (os : Os) (started : os.Started) (H : Type) (enc : TypeId × Value → H) :
  ReturnsInHanded {} Tryz.checked os 4 .any (Rows.codeReadsSpec.pre6 enc Tryz.prog Tryz.f4 Rows.codeReadsRow.domain false) (Rows.codeReadsSpec.post enc Tryz.prog Tryz.f4 false true false false) := by
 refine returnsInHanded_of_change_sized (C := Tryz.checked) own started (by kernel_rfl) Tryz.func4
  (ChangeSpec.witness6 (enc := enc) (C := Tryz.checked) false ⟨#[], #[.agg #[.int .i64 0, .int .i64 0, .int .i64 0, .int .i64 0, .int .i64 0, .int .i64 0, .int .i64 0, .int .i64 0], .slice none 0 0], []⟩ 8 (by kernel_rfl) (by kernel_rfl) (by kernel_rfl) (by kernel_rfl)) ?_
 intro W base args ds gs before hval0 hW hcnd hsz0 _
 have hsz : (DataW.weightsEach Tryz.prog (Tryz.f4.params.toList ++ Rows.codeReadsSpec.plain.varTypes Tryz.prog) (ds ++ gs)).all (· ≤ reachBytes) = true := hsz0
 have hval : ∀ (j : Nat) t v, Tryz.f4.params[j]? = some t → args[j]? = some v → Value.okWide Tryz.prog W .any base t v := hval0
 have hW' := hW
 obtain ⟨p, q, hA0, hV, rfl, hfz, hnd⟩ := hW
 have hA : DataW.TrodAll enc Tryz.prog W 0 (fun _ => true) true Tryz.f4.params.toList args.toList ds p := hA0
 rw [Tryz.params4] at hA hval hsz
 obtain ⟨v0, vs0, d0, ds0, p0, q0, hargs, rfl, rfl, h0, r0⟩ := trodAll_cons hA
 obtain ⟨v1, vs1, d1, ds1, p1, q1, rfl, rfl, rfl, h1, r1⟩ := trodAll_cons r0
 obtain ⟨rfl, rfl, rfl⟩ := trodAll_nil r1
 obtain rfl : args = #[v0, v1] := by cases args; simp_all
 obtain ⟨rfl, rfl⟩ := trodVars_none hV
 have k0 := h0
 have lt0 : ∀ x ∈ p0, x.block < W.heap.size := by obtain ⟨m, hm⟩ := k0; exact DataW.trod_lt m _ _ _ hm
 obtain ⟨x0, cs0, ok0, fit0, rfl⟩ := opens0.arg (hval 0 23 v0 rfl rfl) h0 hsz (j := 0) rfl rfl
 have k1 := h1
 have lt1 : ∀ x ∈ p1, x.block < W.heap.size := by obtain ⟨m, hm⟩ := k1; exact DataW.trod_lt m _ _ _ hm
 obtain ⟨x1, cs1, ok1, fit1, rfl⟩ := opens1.arg (hval 1 33 v1 rfl rfl) h1 hsz (j := 1) rfl rfl
 obtain rfl := Ty.ok_enc (t := (.pair (.int .i64) (.pair (.int .i64) (.pair (.int .i64) (.pair (.int .i64) (.pair (.int .i64) (.pair (.int .i64) (.pair (.int .i64) (.int .i64))))))))) rfl ok0
 obtain ⟨Aq2, cq2, rfl, rlq2⟩ := ok1
 have rdq2 : (rdC 5 (.int .u8) x1 (.slice Aq2 x1.length cq2)).ok W (fun b => b < W.heap.size) := ⟨Aq2, cq2, rfl, rlq2⟩
 clear hA0 hval0 hsz0 hsz hval
 obtain ⟨k, r⟩ := Go.SK.T.CodeReads_pure x0 x1 fit0 fit1
 refine (Spec.law (W := W) (Go.SK.T.Q65.spec r) ?_).mono fun e W' ⟨he, bel⟩ => ?_
 ·intro c hc; simp only [List.mem_cons, List.mem_nil_iff, or_false] at hc
  rcases hc with rfl
  ·exact ⟨_, rdq2, fun b hb => hb⟩
 subst he
 exact ⟨_, rfl, _, _, _, [], _, [], hW', trodAll_mk1 (shut_bool Tryz.underlying4 _), (trodAll_cons_mk (Below.trod laidOut (by kernel_rfl) (of_decide_eq_true (by kernel_rfl)) k0 bel lt0) (trodAll_cons_mk (Below.trod laidOut (by kernel_rfl) (of_decide_eq_true (by kernel_rfl)) k1 bel lt1) trodAll_mk0)), rfl, bel.frame _, fun h => by cases h⟩
theorem over : Rows.codeReadsRow.holds Tryz.pinned (OpenSpec.ofChange Rows.codeReadsSpec) :=
 OpenClaim.holds_of_wide 4 Tryz.f4 rfl rfl rfl rfl rfl rfl rfl ⟨rfl, rfl, rfl, rfl, rfl⟩ rfl rfl rfl rfl rfl (by kernel_rfl) Tryz.func4 (by kernel_rfl)
  (of_decide_eq_true (by kernel_rfl)) (by unfold Func.isWrapper; first | (rw [if_pos (by decide +kernel)]; kernel_rfl) | (rw [if_neg (by decide +kernel)]; exact ⟨rfl, rfl⟩))
  (fun os started H enc _ => lifted os started H enc)
theorem proved : Rows.CodeReadsSaid := over
#print axioms proved
end Go.Proofs.YtoohimccifdbeaaGreat.codeReads
namespace Go.Proofs.YtoohimccifdbeaaGreat
theorem codeReads_holds : Rows.CodeReadsSaid := codeReads.proved
end Go.Proofs.YtoohimccifdbeaaGreat
