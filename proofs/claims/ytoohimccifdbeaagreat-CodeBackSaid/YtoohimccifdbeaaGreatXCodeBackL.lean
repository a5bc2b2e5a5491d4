/- The law sluicegate/sluicegatelaw16.CodeBack: for every input it returns true, and each argument reads as it read. No condition. -/
import Derived.Test.YtoohimccifdbeaaGreatRows
import Derived.Test.YtoohimccifdbeaaGreatXCodeBackF3
import Derived.Test.YtoohimccifdbeaaGreatXCodeBackP
import Derived.WalkKit
import Derived.ProofKit
import Derived.OpenShut
import Derived.ShutString
import Derived.ChangeOld
import Derived.Below
import Derived.SizedLaws
namespace Go.Proofs.YtoohimccifdbeaaGreat.codeBack
open Go Go.SK Go.ChangeShapes Go.WideShapes Go.ChangeAt Go.RowKit
set_option linter.unusedVariables false
set_option linter.unusedSimpArgs false
theorem own : ownKnob Tryz.prog.godebug = none := by kernel_rfl
theorem laidOut : laidOutB Tryz.prog = true := by kernel_rfl
theorem opens0 : Opens Tryz.prog (bytesIn Go.SK.T.tt) (.pair (.int .i64) (.pair (.int .i64) (.pair (.int .i64) (.pair (.int .i64) (.pair (.int .i64) (.pair (.int .i64) (.pair (.int .i64) (.int .i64)))))))) 23 true := (Opens.struct (ts := [(.int .i64), (.int .i64), (.int .i64), (.int .i64), (.int .i64), (.int .i64), (.int .i64), (.int .i64)]) Tryz.underlying23 (by kernel_rfl) ⟨rfl, ⟨_, (Opens.int Tryz.underlying3 (by kernel_rfl))⟩, ⟨rfl, ⟨_, (Opens.int Tryz.underlying3 (by kernel_rfl))⟩, ⟨rfl, ⟨_, (Opens.int Tryz.underlying3 (by kernel_rfl))⟩, ⟨rfl, ⟨_, (Opens.int Tryz.underlying3 (by kernel_rfl))⟩, ⟨rfl, ⟨_, (Opens.int Tryz.underlying3 (by kernel_rfl))⟩, ⟨rfl, ⟨_, (Opens.int Tryz.underlying3 (by kernel_rfl))⟩, ⟨rfl, ⟨_, (Opens.int Tryz.underlying3 (by kernel_rfl))⟩, ⟨rfl, ⟨_, (Opens.int Tryz.underlying3 (by kernel_rfl))⟩, trivial⟩⟩⟩⟩⟩⟩⟩⟩)
theorem opens1 : Opens Tryz.prog (bytesIn Go.SK.T.tt) (.pair (.int .i64) (.pair (.slice 70 (.int .u32)) (.pair (.slice 9 .str) (.pair (.slice 49 (.pair .str (.pair .bool .str))) (.slice 51 (.pair .str .str)))))) 29 true := (Opens.struct (ts := [(.int .i64), (.slice 70 (.int .u32)), (.slice 9 .str), (.slice 49 (.pair .str (.pair .bool .str))), (.slice 51 (.pair .str .str))]) Tryz.underlying29 (by kernel_rfl) ⟨rfl, ⟨_, (Opens.int Tryz.underlying3 (by kernel_rfl))⟩, ⟨rfl, ⟨_, (Opens.slice Tryz.underlying24 (by kernel_rfl) (by kernel_rfl) rfl (Opens.int Tryz.underlying70 (by kernel_rfl)))⟩, ⟨rfl, ⟨_, (Opens.slice Tryz.underlying25 (by kernel_rfl) (by kernel_rfl) rfl (Opens.str Tryz.underlying9 (by kernel_rfl)))⟩, ⟨rfl, ⟨_, (Opens.slice Tryz.underlying26 (by kernel_rfl) (by kernel_rfl) rfl (Opens.struct (ts := [.str, .bool, .str]) Tryz.underlying49 (by kernel_rfl) ⟨rfl, ⟨_, (Opens.str Tryz.underlying9 (by kernel_rfl))⟩, ⟨rfl, ⟨_, (Opens.bool Tryz.underlying4 (by kernel_rfl))⟩, ⟨rfl, ⟨_, (Opens.str Tryz.underlying9 (by kernel_rfl))⟩, trivial⟩⟩⟩))⟩, ⟨rfl, ⟨_, (Opens.slice Tryz.underlying27 (by kernel_rfl) (by kernel_rfl) rfl (Opens.struct (ts := [.str, .str]) Tryz.underlying51 (by kernel_rfl) ⟨rfl, ⟨_, (Opens.str Tryz.underlying9 (by kernel_rfl))⟩, ⟨rfl, ⟨_, (Opens.str Tryz.underlying9 (by kernel_rfl))⟩, trivial⟩⟩))⟩, trivial⟩⟩⟩⟩⟩)
theorem opens2 : Opens Tryz.prog (bytesIn Go.SK.T.tt) (.int .u16) 46 false := (Opens.int Tryz.underlying46 (by kernel_rfl))
theorem opens3 : Opens Tryz.prog (bytesIn Go.SK.T.tt) (.int .u8) 5 false := (Opens.int Tryz.underlying5 (by kernel_rfl))
set_option maxRecDepth 100000 in
theorem lifted (os : Os) (started : os.Started) (H : Type) (enc : TypeId × Value → H) :
    ReturnsInHanded {} Tryz.checked os 5 .any (Rows.codeBackSpec.pre6 enc Tryz.prog Tryz.f5 Rows.codeBackRow.domain false) (Rows.codeBackSpec.post enc Tryz.prog Tryz.f5 false true false false) := by
  refine returnsInHanded_of_change_sized (C := Tryz.checked) own started (by kernel_rfl) Tryz.func5
    (ChangeSpec.witness6 (enc := enc) (C := Tryz.checked) false ⟨#[], #[.agg #[.int .i64 0, .int .i64 0, .int .i64 0, .int .i64 0, .int .i64 0, .int .i64 0, .int .i64 0, .int .i64 0], .agg #[.int .i64 0, .slice none 0 0, .slice none 0 0, .slice none 0 0, .slice none 0 0], .int .u16 0, .int .u8 0], []⟩ 8 (by kernel_rfl) (by kernel_rfl) (by kernel_rfl) (by kernel_rfl)) ?_
  intro W base args ds gs before hval0 hW hcnd hsz0 _
  have hsz : (DataW.weightsEach Tryz.prog (Tryz.f5.params.toList ++ Rows.codeBackSpec.plain.varTypes Tryz.prog) (ds ++ gs)).all (· ≤ reachBytes) = true := hsz0
  have hval : ∀ (j : Nat) t v, Tryz.f5.params[j]? = some t → args[j]? = some v → Value.okWide Tryz.prog W .any base t v := hval0
  have hW' := hW
  obtain ⟨p, q, hA0, hV, rfl, hfz, hnd⟩ := hW
  have hA : DataW.TrodAll enc Tryz.prog W 0 (fun _ => true) true Tryz.f5.params.toList args.toList ds p := hA0
  rw [Tryz.params5] at hA hval hsz
  obtain ⟨v0, vs0, d0, ds0, p0, q0, hargs, rfl, rfl, h0, r0⟩ := trodAll_cons hA
  obtain ⟨v1, vs1, d1, ds1, p1, q1, rfl, rfl, rfl, h1, r1⟩ := trodAll_cons r0
  obtain ⟨v2, vs2, d2, ds2, p2, q2, rfl, rfl, rfl, h2, r2⟩ := trodAll_cons r1
  obtain ⟨v3, vs3, d3, ds3, p3, q3, rfl, rfl, rfl, h3, r3⟩ := trodAll_cons r2
  obtain ⟨rfl, rfl, rfl⟩ := trodAll_nil r3
  obtain rfl : args = #[v0, v1, v2, v3] := by cases args; simp_all
  obtain ⟨rfl, rfl⟩ := trodVars_none hV
  have k0 := h0
  have lt0 : ∀ x ∈ p0, x.block < W.heap.size := by obtain ⟨m, hm⟩ := k0; exact DataW.trod_lt m _ _ _ hm
  obtain ⟨x0, cs0, ok0, fit0, rfl⟩ := opens0.arg (hval 0 23 v0 rfl rfl) h0 hsz (j := 0) rfl rfl
  have k1 := h1
  have lt1 : ∀ x ∈ p1, x.block < W.heap.size := by obtain ⟨m, hm⟩ := k1; exact DataW.trod_lt m _ _ _ hm
  obtain ⟨x1, cs1, ok1, fit1, rfl⟩ := opens1.arg (hval 1 29 v1 rfl rfl) h1 hsz (j := 1) rfl rfl
  have k2 := h2
  have lt2 : ∀ x ∈ p2, x.block < W.heap.size := by obtain ⟨m, hm⟩ := k2; exact DataW.trod_lt m _ _ _ hm
  obtain ⟨x2, cs2, ok2, fit2, rfl⟩ := opens2.arg (hval 2 46 v2 rfl rfl) h2 hsz (j := 2) rfl rfl
  have k3 := h3
  have lt3 : ∀ x ∈ p3, x.block < W.heap.size := by obtain ⟨m, hm⟩ := k3; exact DataW.trod_lt m _ _ _ hm
  obtain ⟨x3, cs3, ok3, fit3, rfl⟩ := opens3.arg (hval 3 5 v3 rfl rfl) h3 hsz (j := 3) rfl rfl
  obtain rfl := Ty.ok_enc (t := (.pair (.int .i64) (.pair (.int .i64) (.pair (.int .i64) (.pair (.int .i64) (.pair (.int .i64) (.pair (.int .i64) (.pair (.int .i64) (.int .i64))))))))) rfl ok0
  obtain ⟨u3a, u3b, rfl, u3p, u3r⟩ := ok1
  obtain rfl := Ty.ok_enc (t := (.int .i64)) rfl u3p
  obtain ⟨u5a, u5b, rfl, u5p, u5r⟩ := u3r
  obtain ⟨Aq6, cq6, rfl, rlq6⟩ := u5p
  have rdq6 : (rdC 70 (.int .u32) x1.2.1 (.slice Aq6 x1.2.1.length cq6)).ok W (fun b => b < W.heap.size) := ⟨Aq6, cq6, rfl, rlq6⟩
  obtain ⟨u7a, u7b, rfl, u7p, u7r⟩ := u5r
  obtain ⟨Aq8, cq8, rfl, rlq8⟩ := u7p
  have rdq8 : (rdC 9 .str x1.2.2.1 (.slice Aq8 x1.2.2.1.length cq8)).ok W (fun b => b < W.heap.size) := ⟨Aq8, cq8, rfl, rlq8⟩
  obtain ⟨u9a, u9b, rfl, u9p, u9r⟩ := u7r
  obtain ⟨Aq10, cq10, rfl, rlq10⟩ := u9p
  have rdq10 : (rdC 49 (.pair .str (.pair .bool .str)) x1.2.2.2.1 (.slice Aq10 x1.2.2.2.1.length cq10)).ok W (fun b => b < W.heap.size) := ⟨Aq10, cq10, rfl, rlq10⟩
  obtain ⟨Aq11, cq11, rfl, rlq11⟩ := u9r
  have rdq11 : (rdC 51 (.pair .str .str) x1.2.2.2.2 (.slice Aq11 x1.2.2.2.2.length cq11)).ok W (fun b => b < W.heap.size) := ⟨Aq11, cq11, rfl, rlq11⟩
  obtain rfl := Ty.ok_enc (t := (.int .u16)) rfl ok2
  obtain rfl := Ty.ok_enc (t := (.int .u8)) rfl ok3
  clear hA0 hval0 hsz0 hsz hval
  obtain ⟨k, r⟩ := Go.SK.T.CodeBack_pure x0 x1 x2 x3 fit0 fit1 fit2 fit3
  refine (Spec.law (W := W) (Go.SK.T.Q66.spec r) ?_).mono fun e W' ⟨he, bel⟩ => ?_
  · intro c hc; simp only [List.mem_cons, List.mem_nil_iff, or_false] at hc
    rcases hc with rfl | rfl | rfl | rfl
    · exact ⟨_, rdq6, fun b hb => hb⟩
    · exact ⟨_, rdq8, fun b hb => hb⟩
    · exact ⟨_, rdq10, fun b hb => hb⟩
    · exact ⟨_, rdq11, fun b hb => hb⟩
  subst he
  exact ⟨_, rfl, _, _, _, [], _, [], hW', trodAll_mk1 (shut_bool Tryz.underlying4 _), (trodAll_cons_mk (Below.trod laidOut (by kernel_rfl) (of_decide_eq_true (by kernel_rfl)) k0 bel lt0) (trodAll_cons_mk (Below.trod laidOut (by kernel_rfl) (of_decide_eq_true (by kernel_rfl)) k1 bel lt1) (trodAll_cons_mk (Below.trod laidOut (by kernel_rfl) (of_decide_eq_true (by kernel_rfl)) k2 bel lt2) (trodAll_cons_mk (Below.trod laidOut (by kernel_rfl) (of_decide_eq_true (by kernel_rfl)) k3 bel lt3) trodAll_mk0)))), rfl, bel.frame _, fun h => by cases h⟩
theorem over : Rows.codeBackRow.holds Tryz.pinned (OpenSpec.ofChange Rows.codeBackSpec) :=
  OpenClaim.holds_of_wide 5 Tryz.f5 rfl rfl rfl rfl rfl rfl rfl ⟨rfl, rfl, rfl, rfl, rfl⟩ rfl rfl rfl rfl rfl (by kernel_rfl) Tryz.func5 (by kernel_rfl)
    (of_decide_eq_true (by kernel_rfl)) (by unfold Func.isWrapper; first | (rw [if_pos (by decide +kernel)]; kernel_rfl) | (rw [if_neg (by decide +kernel)]; exact ⟨rfl, rfl⟩))
    (fun os started H enc _ => lifted os started H enc)
theorem proved : Rows.CodeBackSaid := over
#print axioms proved
end Go.Proofs.YtoohimccifdbeaaGreat.codeBack
namespace Go.Proofs.YtoohimccifdbeaaGreat
theorem codeBack_holds : Rows.CodeBackSaid := codeBack.proved
end Go.Proofs.YtoohimccifdbeaaGreat
