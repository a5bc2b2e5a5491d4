/- The law sluicegate/sluicegatelaw08.CacheCosts: for every input it returns true, and each argument reads as it read. No condition. -/
import Derived.Test.YtoemkinhdomnpaaRows
import Derived.Test.YtoemkinhdomnpaaXCacheCostsF8
import Derived.Test.YtoemkinhdomnpaaXCacheCostsP
import Derived.WalkKit
import Derived.ProofKit
import Derived.OpenShut
import Derived.ShutString
import Derived.ChangeOld
import Derived.Below
import Derived.SizedLaws
namespace Go.Proofs.Ytoemkinhdomnpaa.cacheCosts
open Go Go.SK Go.ChangeShapes Go.WideShapes Go.ChangeAt Go.RowKit
set_option linter.unusedVariables false
set_option linter.unusedSimpArgs false
theorem own : ownKnob Try.prog.godebug = none := by kernel_rfl
theorem laidOut : laidOutB Try.prog = true := by kernel_rfl
theorem opens0 : Opens Try.prog (bytesIn Go.SK.T.tt) (.int .u8) 5 false := (Opens.int Try.underlying5 (by kernel_rfl))
theorem opens1 : Opens Try.prog (bytesIn Go.SK.T.tt) (.slice 102 (.pair (.int .i64) (.pair (.int .u32) (.slice 5 (.int .u8))))) 97 false := (Opens.slice Try.underlying97 (by kernel_rfl) (by kernel_rfl) rfl (Opens.struct (ts := [(.int .i64), (.int .u32), (.slice 5 (.int .u8))]) Try.underlying102 (by kernel_rfl) ⟨rfl, ⟨_, (Opens.int Try.underlying3 (by kernel_rfl))⟩, ⟨rfl, ⟨_, (Opens.int Try.underlying23 (by kernel_rfl))⟩, ⟨rfl, ⟨_, (Opens.slice Try.underlying28 (by kernel_rfl) (by kernel_rfl) rfl (Opens.int Try.underlying5 (by kernel_rfl)))⟩, trivial⟩⟩⟩))
set_option maxRecDepth 100000 in
theorem lifted (os : Os) (started : os.Started) (H : Type) (enc : TypeId × Value → H) :
    ReturnsInHanded {} Try.checked os 11 .any (Rows.cacheCostsSpec.pre6 enc Try.prog Try.f11 Rows.cacheCostsRow.domain false) (Rows.cacheCostsSpec.post enc Try.prog Try.f11 false true false false) := by
  refine returnsInHanded_of_change_sized (C := Try.checked) own started (by kernel_rfl) Try.func11
    (ChangeSpec.witness6 (enc := enc) (C := Try.checked) false ⟨#[], #[.int .u8 0, .slice none 0 0], []⟩ 8 (by kernel_rfl) (by kernel_rfl) (by kernel_rfl) (by kernel_rfl)) ?_
  intro W base args ds gs before hval0 hW hcnd hsz0 _
  have hsz : (DataW.weightsEach Try.prog (Try.f11.params.toList ++ Rows.cacheCostsSpec.plain.varTypes Try.prog) (ds ++ gs)).all (· ≤ reachBytes) = true := hsz0
  have hval : ∀ (j : Nat) t v, Try.f11.params[j]? = some t → args[j]? = some v → Value.okWide Try.prog W .any base t v := hval0
  have hW' := hW
  obtain ⟨p, q, hA0, hV, rfl, hfz, hnd⟩ := hW
  have hA : DataW.TrodAll enc Try.prog W 0 (fun _ => true) true Try.f11.params.toList args.toList ds p := hA0
  rw [Try.params11] at hA hval hsz
  obtain ⟨v0, vs0, d0, ds0, p0, q0, hargs, rfl, rfl, h0, r0⟩ := trodAll_cons hA
  obtain ⟨v1, vs1, d1, ds1, p1, q1, rfl, rfl, rfl, h1, r1⟩ := trodAll_cons r0
  obtain ⟨rfl, rfl, rfl⟩ := trodAll_nil r1
  obtain rfl : args = #[v0, v1] := by cases args; simp_all
  obtain ⟨rfl, rfl⟩ := trodVars_none hV
  have k0 := h0
  have lt0 : ∀ x ∈ p0, x.block < W.heap.size := by obtain ⟨m, hm⟩ := k0; exact DataW.trod_lt m _ _ _ hm
  obtain ⟨x0, cs0, ok0, fit0, rfl⟩ := opens0.arg (hval 0 5 v0 rfl rfl) h0 hsz (j := 0) rfl rfl
  have k1 := h1
  have lt1 : ∀ x ∈ p1, x.block < W.heap.size := by obtain ⟨m, hm⟩ := k1; exact DataW.trod_lt m _ _ _ hm
  obtain ⟨x1, cs1, ok1, fit1, rfl⟩ := opens1.arg (hval 1 97 v1 rfl rfl) h1 hsz (j := 1) rfl rfl
  obtain rfl := Ty.ok_enc (t := (.int .u8)) rfl ok0
  obtain ⟨Aq2, cq2, rfl, rlq2⟩ := ok1
  have rdq2 : (rdC 102 (.pair (.int .i64) (.pair (.int .u32) (.slice 5 (.int .u8)))) x1 (.slice Aq2 x1.length cq2)).ok W (fun b => b < W.heap.size) := ⟨Aq2, cq2, rfl, rlq2⟩
  clear hA0 hval0 hsz0 hsz hval
  obtain ⟨k, r⟩ := Go.SK.T.CacheCosts_pure x0 x1 fit0 fit1
  refine (Spec.law (W := W) (Go.SK.T.Q50.spec r) ?_).mono fun e W' ⟨he, bel⟩ => ?_
  · intro c hc; simp only [List.mem_cons, List.mem_nil_iff, or_false] at hc
    rcases hc with rfl
    · exact ⟨_, rdq2, fun b hb => hb⟩
  subst he
  exact ⟨_, rfl, _, _, _, [], _, [], hW', trodAll_mk1 (shut_bool Try.underlying4 _), (trodAll_cons_mk (Below.trod laidOut (by kernel_rfl) (of_decide_eq_true (by kernel_rfl)) k0 bel lt0) (trodAll_cons_mk (Below.trod laidOut (by kernel_rfl) (of_decide_eq_true (by kernel_rfl)) k1 bel lt1) trodAll_mk0)), rfl, bel.frame _, fun h => by cases h⟩
theorem over : Rows.cacheCostsRow.holds Try.pinned (OpenSpec.ofChange Rows.cacheCostsSpec) :=
  OpenClaim.holds_of_wide 11 Try.f11 rfl rfl rfl rfl rfl rfl rfl ⟨rfl, rfl, rfl, rfl, rfl⟩ rfl rfl rfl rfl rfl (by kernel_rfl) Try.func11 (by kernel_rfl)
    (of_decide_eq_true (by kernel_rfl)) (by unfold Func.isWrapper; first | (rw [if_pos (by decide +kernel)]; kernel_rfl) | (rw [if_neg (by decide +kernel)]; exact ⟨rfl, rfl⟩))
    (fun os started H enc _ => lifted os started H enc)
theorem proved : Rows.CacheCostsSaid := over
#print axioms proved
end Go.Proofs.Ytoemkinhdomnpaa.cacheCosts
namespace Go.Proofs.Ytoemkinhdomnpaa
theorem cacheCosts_holds : Rows.CacheCostsSaid := cacheCosts.proved
end Go.Proofs.Ytoemkinhdomnpaa
