/- The law sluicegate/sluicegatelaw28.TruthSame: for every input it returns true, and each argument reads as it read. No condition. -/
import Derived.Test.YtoemkinhdomnpaaRows
import Derived.Test.YtoemkinhdomnpaaXTruthSameF1
import Derived.Test.YtoemkinhdomnpaaXTruthSameP
import Derived.WalkKit
import Derived.ProofKit
import Derived.OpenShut
import Derived.ShutString
import Derived.ChangeOld
import Derived.Below
import Derived.SizedLaws
namespace Go.Proofs.Ytoemkinhdomnpaa.truthSame
open Go Go.SK Go.ChangeShapes Go.WideShapes Go.ChangeAt Go.RowKit
set_option linter.unusedVariables false
set_option linter.unusedSimpArgs false
theorem own : ownKnob Try.prog.godebug = none := by kernel_rfl
theorem laidOut : laidOutB Try.prog = true := by kernel_rfl
theorem opens0 : Opens Try.prog (bytesIn Go.SK.T.tt) (.pair (.int .i64) (.pair .str (.slice 75 (.pair .str .str)))) 70 true := (Opens.struct (ts := [(.int .i64), .str, (.slice 75 (.pair .str .str))]) Try.underlying70 (by kernel_rfl) ⟨rfl, ⟨_, (Opens.int Try.underlying25 (by kernel_rfl))⟩, ⟨rfl, ⟨_, (Opens.str Try.underlying9 (by kernel_rfl))⟩, ⟨rfl, ⟨_, (Opens.slice Try.underlying68 (by kernel_rfl) (by kernel_rfl) rfl (Opens.struct (ts := [.str, .str]) Try.underlying75 (by kernel_rfl) ⟨rfl, ⟨_, (Opens.str Try.underlying9 (by kernel_rfl))⟩, ⟨rfl, ⟨_, (Opens.str Try.underlying9 (by kernel_rfl))⟩, trivial⟩⟩))⟩, trivial⟩⟩⟩)
theorem opens1 : Opens Try.prog (bytesIn Go.SK.T.tt) (.pair (.int .i64) (.pair .str (.slice 75 (.pair .str .str)))) 70 true := (Opens.struct (ts := [(.int .i64), .str, (.slice 75 (.pair .str .str))]) Try.underlying70 (by kernel_rfl) ⟨rfl, ⟨_, (Opens.int Try.underlying25 (by kernel_rfl))⟩, ⟨rfl, ⟨_, (Opens.str Try.underlying9 (by kernel_rfl))⟩, ⟨rfl, ⟨_, (Opens.slice Try.underlying68 (by kernel_rfl) (by kernel_rfl) rfl (Opens.struct (ts := [.str, .str]) Try.underlying75 (by kernel_rfl) ⟨rfl, ⟨_, (Opens.str Try.underlying9 (by kernel_rfl))⟩, ⟨rfl, ⟨_, (Opens.str Try.underlying9 (by kernel_rfl))⟩, trivial⟩⟩))⟩, trivial⟩⟩⟩)
theorem opens2 : Opens Try.prog (bytesIn Go.SK.T.tt) (.pair (.int .i64) (.pair .str (.pair .str (.int .i64)))) 64 true := (Opens.struct (ts := [(.int .i64), .str, .str, (.int .i64)]) Try.underlying64 (by kernel_rfl) ⟨rfl, ⟨_, (Opens.int Try.underlying3 (by kernel_rfl))⟩, ⟨rfl, ⟨_, (Opens.str Try.underlying9 (by kernel_rfl))⟩, ⟨rfl, ⟨_, (Opens.str Try.underlying9 (by kernel_rfl))⟩, ⟨rfl, ⟨_, (Opens.int Try.underlying3 (by kernel_rfl))⟩, trivial⟩⟩⟩⟩)
set_option maxRecDepth 100000 in
theorem lifted (os : Os) (started : os.Started) (H : Type) (enc : TypeId × Value → H) :
    ReturnsInHanded {} Try.checked os 8 .any (Rows.truthSameSpec.pre6 enc Try.prog Try.f8 Rows.truthSameRow.domain false) (Rows.truthSameSpec.post enc Try.prog Try.f8 false true false false) := by
  refine returnsInHanded_of_change_sized (C := Try.checked) own started (by kernel_rfl) Try.func8
    (ChangeSpec.witness6 (enc := enc) (C := Try.checked) false ⟨#[], #[.agg #[.int .i64 0, .string ByteArray.empty, .slice none 0 0], .agg #[.int .i64 0, .string ByteArray.empty, .slice none 0 0], .agg #[.int .i64 0, .string ByteArray.empty, .string ByteArray.empty, .int .i64 0]], []⟩ 8 (by kernel_rfl) (by kernel_rfl) (by kernel_rfl) (by kernel_rfl)) ?_
  intro W base args ds gs before hval0 hW hcnd hsz0 _
  have hsz : (DataW.weightsEach Try.prog (Try.f8.params.toList ++ Rows.truthSameSpec.plain.varTypes Try.prog) (ds ++ gs)).all (· ≤ reachBytes) = true := hsz0
  have hval : ∀ (j : Nat) t v, Try.f8.params[j]? = some t → args[j]? = some v → Value.okWide Try.prog W .any base t v := hval0
  have hW' := hW
  obtain ⟨p, q, hA0, hV, rfl, hfz, hnd⟩ := hW
  have hA : DataW.TrodAll enc Try.prog W 0 (fun _ => true) true Try.f8.params.toList args.toList ds p := hA0
  rw [Try.params8] at hA hval hsz
  obtain ⟨v0, vs0, d0, ds0, p0, q0, hargs, rfl, rfl, h0, r0⟩ := trodAll_cons hA
  obtain ⟨v1, vs1, d1, ds1, p1, q1, rfl, rfl, rfl, h1, r1⟩ := trodAll_cons r0
  obtain ⟨v2, vs2, d2, ds2, p2, q2, rfl, rfl, rfl, h2, r2⟩ := trodAll_cons r1
  obtain ⟨rfl, rfl, rfl⟩ := trodAll_nil r2
  obtain rfl : args = #[v0, v1, v2] := by cases args; simp_all
  obtain ⟨rfl, rfl⟩ := trodVars_none hV
  have k0 := h0
  have lt0 : ∀ x ∈ p0, x.block < W.heap.size := by obtain ⟨m, hm⟩ := k0; exact DataW.trod_lt m _ _ _ hm
  obtain ⟨x0, cs0, ok0, fit0, rfl⟩ := opens0.arg (hval 0 70 v0 rfl rfl) h0 hsz (j := 0) rfl rfl
  have k1 := h1
  have lt1 : ∀ x ∈ p1, x.block < W.heap.size := by obtain ⟨m, hm⟩ := k1; exact DataW.trod_lt m _ _ _ hm
  obtain ⟨x1, cs1, ok1, fit1, rfl⟩ := opens1.arg (hval 1 70 v1 rfl rfl) h1 hsz (j := 1) rfl rfl
  have k2 := h2
  have lt2 : ∀ x ∈ p2, x.block < W.heap.size := by obtain ⟨m, hm⟩ := k2; exact DataW.trod_lt m _ _ _ hm
  obtain ⟨x2, cs2, ok2, fit2, rfl⟩ := opens2.arg (hval 2 64 v2 rfl rfl) h2 hsz (j := 2) rfl rfl
  obtain ⟨u2a, u2b, rfl, u2p, u2r⟩ := ok0
  obtain rfl := Ty.ok_enc (t := (.int .i64)) rfl u2p
  obtain ⟨u4a, u4b, rfl, u4p, u4r⟩ := u2r
  obtain rfl := Ty.ok_enc (t := .str) rfl u4p
  obtain ⟨Aq6, cq6, rfl, rlq6⟩ := u4r
  have rdq6 : (rdC 75 (.pair .str .str) x0.2.2 (.slice Aq6 x0.2.2.length cq6)).ok W (fun b => b < W.heap.size) := ⟨Aq6, cq6, rfl, rlq6⟩
  obtain ⟨u8a, u8b, rfl, u8p, u8r⟩ := ok1
  obtain rfl := Ty.ok_enc (t := (.int .i64)) rfl u8p
  obtain ⟨u10a, u10b, rfl, u10p, u10r⟩ := u8r
  obtain rfl := Ty.ok_enc (t := .str) rfl u10p
  obtain ⟨Aq12, cq12, rfl, rlq12⟩ := u10r
  have rdq12 : (rdC 75 (.pair .str .str) x1.2.2 (.slice Aq12 x1.2.2.length cq12)).ok W (fun b => b < W.heap.size) := ⟨Aq12, cq12, rfl, rlq12⟩
  obtain rfl := Ty.ok_enc (t := (.pair (.int .i64) (.pair .str (.pair .str (.int .i64))))) rfl ok2
  clear hA0 hval0 hsz0 hsz hval
  obtain ⟨k, r⟩ := Go.SK.T.TruthSame_pure x0 x1 x2 fit0 fit1 fit2
  refine (Spec.law (W := W) (Go.SK.T.sluicegatelaw28_TruthSame.spec r) ?_).mono fun e W' ⟨he, bel⟩ => ?_
  · intro c hc; simp only [List.mem_cons, List.mem_nil_iff, or_false] at hc
    rcases hc with rfl | rfl
    · exact ⟨_, rdq6, fun b hb => hb⟩
    · exact ⟨_, rdq12, fun b hb => hb⟩
  subst he
  exact ⟨_, rfl, _, _, _, [], _, [], hW', trodAll_mk1 (shut_bool Try.underlying4 _), (trodAll_cons_mk (Below.trod laidOut (by kernel_rfl) (of_decide_eq_true (by kernel_rfl)) k0 bel lt0) (trodAll_cons_mk (Below.trod laidOut (by kernel_rfl) (of_decide_eq_true (by kernel_rfl)) k1 bel lt1) (trodAll_cons_mk (Below.trod laidOut (by kernel_rfl) (of_decide_eq_true (by kernel_rfl)) k2 bel lt2) trodAll_mk0))), rfl, bel.frame _, fun h => by cases h⟩
theorem over : Rows.truthSameRow.holds Try.pinned (OpenSpec.ofChange Rows.truthSameSpec) :=
  OpenClaim.holds_of_wide 8 Try.f8 rfl rfl rfl rfl rfl rfl rfl ⟨rfl, rfl, rfl, rfl, rfl⟩ rfl rfl rfl rfl rfl (by kernel_rfl) Try.func8 (by kernel_rfl)
    (of_decide_eq_true (by kernel_rfl)) (by unfold Func.isWrapper; first | (rw [if_pos (by decide +kernel)]; kernel_rfl) | (rw [if_neg (by decide +kernel)]; exact ⟨rfl, rfl⟩))
    (fun os started H enc _ => lifted os started H enc)
theorem proved : Rows.TruthSameSaid := over
#print axioms proved
end Go.Proofs.Ytoemkinhdomnpaa.truthSame
namespace Go.Proofs.Ytoemkinhdomnpaa
/-- The row, under a short name, for the claim. -/
theorem truthSame_holds : Rows.TruthSameSaid := truthSame.proved
end Go.Proofs.Ytoemkinhdomnpaa
