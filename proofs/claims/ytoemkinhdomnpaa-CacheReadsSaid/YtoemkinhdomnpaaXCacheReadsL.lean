/- The law sluicegate/sluicegatelaw08.CacheReads: for every input it returns true, and each argument reads as it read. No condition. -/
import Derived.Test.YtoemkinhdomnpaaRows
import Derived.Test.YtoemkinhdomnpaaXCacheReadsF7
import Derived.Test.YtoemkinhdomnpaaXCacheReadsP
import Derived.WalkKit
import Derived.ProofKit
import Derived.OpenShut
import Derived.ShutString
import Derived.ChangeOld
import Derived.Below
import Derived.SizedLaws
namespace Go.Proofs.Ytoemkinhdomnpaa.cacheReads
open Go Go.SK Go.ChangeShapes Go.WideShapes Go.ChangeAt Go.RowKit
set_option linter.unusedVariables false
set_option linter.unusedSimpArgs false
theorem own : ownKnob Try.prog.godebug = none := by kernel_rfl
theorem laidOut : laidOutB Try.prog = true := by kernel_rfl
theorem opens0 : Opens Try.prog (Xw Go.SK.T.tt) (.int .u8) 5 false := (Opens.int Try.underlying5 (by kernel_rfl))
theorem opens1 : Opens Try.prog (Xw Go.SK.T.tt) (.slice 102 (.pair (.int .i64) (.pair (.int .u32) (.slice 5 (.int .u8))))) 97 false := (Opens.slice Try.underlying97 (by kernel_rfl) (by kernel_rfl) rfl (Opens.struct (ts := [(.int .i64), (.int .u32), (.slice 5 (.int .u8))]) Try.underlying102 (by kernel_rfl) ⟨rfl, ⟨_, (Opens.int Try.underlying3 (by kernel_rfl))⟩, ⟨rfl, ⟨_, (Opens.int Try.underlying23 (by kernel_rfl))⟩, ⟨rfl, ⟨_, (Opens.slice Try.underlying28 (by kernel_rfl) (by kernel_rfl) rfl (Opens.int Try.underlying5 (by kernel_rfl)))⟩, trivial⟩⟩⟩))
theorem opens2 : Opens Try.prog (Xw Go.SK.T.tt) (.slice 5 (.int .u8)) 28 false := (Opens.slice Try.underlying28 (by kernel_rfl) (by kernel_rfl) rfl (Opens.int Try.underlying5 (by kernel_rfl)))
set_option maxRecDepth 100000 in
theorem lifted (os : Os) (started : os.Started) (H : Type) (enc : TypeId × Value → H) :
  ReturnsInHanded {} Try.checked os 12 .any (Rows.cacheReadsSpec.pre6 enc Try.prog Try.f12 Rows.cacheReadsRow.domain false) (Rows.cacheReadsSpec.post enc Try.prog Try.f12 false true false false) := by
 refine returnsInHanded_of_change_sized (C := Try.checked) own started (by kernel_rfl) Try.func12
  (ChangeSpec.witness6 (enc := enc) (C := Try.checked) false ⟨#[], #[.int .u8 0, .slice none 0 0, .slice none 0 0], []⟩ 8 (by kernel_rfl) (by kernel_rfl) (by kernel_rfl) (by kernel_rfl)) ?_
 intro W base args ds gs before hval0 hW hcnd hsz0 _
 have hsz : (DataW.weightsEach Try.prog (Try.f12.params.toList ++ Rows.cacheReadsSpec.plain.varTypes Try.prog) (ds ++ gs)).all (· ≤ reachBytes) = true := hsz0
 have hval : ∀ (j : Nat) t v, Try.f12.params[j]? = some t → args[j]? = some v → Value.okWide Try.prog W .any base t v := hval0
 have hW' := hW
 obtain ⟨p, q, hA0, hV, rfl, hfz, hnd⟩ := hW
 have hA : DataW.TrodAll enc Try.prog W 0 (fun _ => true) true Try.f12.params.toList args.toList ds p := hA0
 rw [Try.params12] at hA hval hsz
 obtain ⟨v0, vs0, d0, ds0, p0, q0, hargs, rfl, rfl, h0, r0⟩ := trodAll_cons hA
 obtain ⟨v1, vs1, d1, ds1, p1, q1, rfl, rfl, rfl, h1, r1⟩ := trodAll_cons r0
 obtain ⟨v2, vs2, d2, ds2, p2, q2, rfl, rfl, rfl, h2, r2⟩ := trodAll_cons r1
 obtain ⟨rfl, rfl, rfl⟩ := trodAll_nil r2
 obtain rfl : args = #[v0, v1, v2] := by cases args; simp_all
 obtain ⟨rfl, rfl⟩ := trodVars_none hV
 have k0 := h0
 have lt0 : ∀ x ∈ p0, x.block < W.heap.size := by obtain ⟨m, hm⟩ := k0; exact DataW.trod_lt m _ _ _ hm
 obtain ⟨x0, cs0, ok0, fit0, rfl⟩ := opens0.arg (hval 0 5 v0 rfl rfl) h0 hsz (j := 0) rfl rfl
 have k1 := h1
 have lt1 : ∀ x ∈ p1, x.block < W.heap.size := by obtain ⟨m, hm⟩ := k1; exact DataW.trod_lt m _ _ _ hm
 obtain ⟨x1, cs1, ok1, fit1, rfl⟩ := opens1.arg (hval 1 97 v1 rfl rfl) h1 hsz (j := 1) rfl rfl
 have k2 := h2
 have lt2 : ∀ x ∈ p2, x.block < W.heap.size := by obtain ⟨m, hm⟩ := k2; exact DataW.trod_lt m _ _ _ hm
 obtain ⟨x2, cs2, ok2, fit2, rfl⟩ := opens2.arg (hval 2 28 v2 rfl rfl) h2 hsz (j := 2) rfl rfl
 obtain rfl := Ty.ok_enc (t := (.int .u8)) rfl ok0
 obtain ⟨Aq2, cq2, rfl, rlq2⟩ := ok1
 have rdq2 : (rdC 102 (.pair (.int .i64) (.pair (.int .u32) (.slice 5 (.int .u8)))) x1 (.slice Aq2 x1.length cq2)).ok W (fun b => b < W.heap.size) := ⟨Aq2, cq2, rfl, rlq2⟩
 obtain ⟨Aq3, cq3, rfl, rlq3⟩ := ok2
 have rdq3 : (rdC 5 (.int .u8) x2 (.slice Aq3 x2.length cq3)).ok W (fun b => b < W.heap.size) := ⟨Aq3, cq3, rfl, rlq3⟩
 clear hA0 hval0 hsz0 hsz hval
 obtain ⟨k, r⟩ := Go.SK.T.CacheReads_pure x0 x1 x2 fit0 fit1 fit2
 refine (Spec.law (W := W) (Go.SK.T.Q51.spec r) ?_).mono fun e W' ⟨he, bel⟩ => ?_
 ·intro c hc; simp only [List.mem_cons, List.mem_nil_iff, or_false] at hc
  rcases hc with rfl | rfl
  ·exact ⟨_, rdq2, fun b hb => hb⟩
  ·exact ⟨_, rdq3, fun b hb => hb⟩
 subst he
 exact ⟨_, rfl, _, _, _, [], _, [], hW', trodAll_mk1 (shut_bool Try.underlying4 _), (trodAll_cons_mk (Below.trod laidOut (by kernel_rfl) (of_decide_eq_true (by kernel_rfl)) k0 bel lt0) (trodAll_cons_mk (Below.trod laidOut (by kernel_rfl) (of_decide_eq_true (by kernel_rfl)) k1 bel lt1) (trodAll_cons_mk (Below.trod laidOut (by kernel_rfl) (of_decide_eq_true (by kernel_rfl)) k2 bel lt2) trodAll_mk0))), rfl, bel.frame _, fun h => by cases h⟩
theorem over : Rows.cacheReadsRow.holds Try.pinned (OpenSpec.ofChange Rows.cacheReadsSpec) :=
 OpenClaim.holds_of_wide 12 Try.f12 rfl rfl rfl rfl rfl rfl rfl ⟨rfl, rfl, rfl, rfl, rfl⟩ rfl rfl rfl rfl rfl (by kernel_rfl) Try.func12 (by kernel_rfl)
  (of_decide_eq_true (by kernel_rfl)) (by unfold Func.isWrapper; first | (rw [if_pos (by decide +kernel)]; kernel_rfl) | (rw [if_neg (by decide +kernel)]; exact ⟨rfl, rfl⟩))
  (fun os started H enc _ => lifted os started H enc)
theorem proved : Rows.CacheReadsSaid := over
#print axioms proved
end Go.Proofs.Ytoemkinhdomnpaa.cacheReads
namespace Go.Proofs.Ytoemkinhdomnpaa
theorem cacheReads_holds : Rows.CacheReadsSaid := cacheReads.proved
end Go.Proofs.Ytoemkinhdomnpaa
