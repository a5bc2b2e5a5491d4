/- The law sluicegate/sluicegatelaw20.WalkNobody: for every input it returns true, and each argument reads as it read. No condition. -/
import Derived.Test.YtbalmcdgclcimaaGreatDoorRows
import Derived.Test.YtbalmcdgclcimaaGreatDoorCards
import Derived.Test.YtbalmcdgclcimaaGreatDoorTie
import Derived.Test.YtbalmcdgclcimaaGreatDoorXWalkNobodyF3
import Derived.Test.YtbalmcdgclcimaaGreatDoorXWalkNobodyP
import Derived.WalkKit
import Derived.ProofKit
import Derived.OpenShut
import Derived.ShutString
import Derived.ChangeOld
import Derived.Below
import Derived.SizedLaws
import Derived.Handed
import Derived.LaidMore
import Derived.Stop.Joined
import Derived.Lib.LaidTab
import Derived.MakeChecks
import Derived.SevenTiedAt
namespace Go.Proofs.YtbalmcdgclcimaaGreatDoor.walkNobody
open Go Go.SK Go.ChangeShapes Go.WideShapes Go.ChangeAt Go.RowKit
set_option linter.unusedVariables false
set_option linter.unusedSimpArgs false
theorem own:ownKnob Tryz.prog.godebug=none:=by kernel_rfl
theorem laidOut:laidOutB Tryz.prog=true:=by kernel_rfl
abbrev Zcx : List (String × DataW Unit) := [("math/bits.deBruijn64tab", Rows.laid_math_bits_deBruijn64tab)]
theorem laidTab : Zcx = [("math/bits.deBruijn64tab", Lib.tabData .u8 (Lib.deBruijn64tab.map fun (z : Nat) => (z : Int)))] := rfl
theorem gTab : Tryz.prog.globalNamed "math/bits.deBruijn64tab" = some 1 := by kernel_rfl
theorem door_met (os:Os) (args:Array Value):laidMetH Tryz.prog Zcx ((World.doorLaid Tryz.prog 400 os).forCall (fun _ _=>0) ⟨#[],args,[]⟩).memory:=
 laidMetH_of_parts3 (fuel:=8) (laidMet_of_run' 8 (by kernel_rfl) (by kernel_rfl)) (by kernel_rfl) (by kernel_rfl)
theorem tab_of {W:World} (h:laidMetH Tryz.prog Zcx W):(Go.SK.T.tabC 1).ok W (fun b=>b<W.heap.size):=by
 rw [MakeChecks.laidMetH_plain _ _ _ (by kernel_rfl),laidTab] at h
 have tb:=Lib.tabIs_of_head gTab (t:=226) (e:=5) (by kernel_rfl) Tryz.underlying226 Tryz.underlying5 (by kernel_rfl) (by kernel_rfl) h
 refine ⟨?_,fun j hj=>?_⟩
 rotate_left
 ·rw [tb.cell gTab j (by rw [List.length_map]; exact hj)]
  simp [List.getD_eq_getElem?_getD,List.getElem?_map,List.getElem?_eq_getElem hj]
 have h0:=tb.cell gTab 0 (by decide)
 apply Classical.byContradiction
 intro hn
 have hg:W.heap[1]?=none:=Array.getElem?_eq_none (by omega)
 unfold World.cell? at h0
 rw [hg] at h0
 cases h0
theorem opens0:Opens Tryz.prog (Zcg Go.SK.T.tt) (.pair (.int .i64) (.pair (.int .i64) (.pair (.int .i64) (.pair (.int .i64) (.pair (.int .i64) (.pair (.int .i64) (.pair (.int .i64) (.int .i64)))))))) 23 true:=(Opens.struct (ts:=[(.int .i64),(.int .i64),(.int .i64),(.int .i64),(.int .i64),(.int .i64),(.int .i64),(.int .i64)]) Tryz.underlying23 (by kernel_rfl) ⟨rfl,⟨_,(Opens.int Tryz.underlying3 (by kernel_rfl))⟩,⟨rfl,⟨_,(Opens.int Tryz.underlying3 (by kernel_rfl))⟩,⟨rfl,⟨_,(Opens.int Tryz.underlying3 (by kernel_rfl))⟩,⟨rfl,⟨_,(Opens.int Tryz.underlying3 (by kernel_rfl))⟩,⟨rfl,⟨_,(Opens.int Tryz.underlying3 (by kernel_rfl))⟩,⟨rfl,⟨_,(Opens.int Tryz.underlying3 (by kernel_rfl))⟩,⟨rfl,⟨_,(Opens.int Tryz.underlying3 (by kernel_rfl))⟩,⟨rfl,⟨_,(Opens.int Tryz.underlying3 (by kernel_rfl))⟩,trivial⟩⟩⟩⟩⟩⟩⟩⟩)
theorem opens1:Opens Tryz.prog (Zcg Go.SK.T.tt) (.int .u32) 24 false:=(Opens.int Tryz.underlying24 (by kernel_rfl))
set_option maxRecDepth 100000 in
theorem lifted (os:Os) (started:os.Started) (H:Type) (enc:TypeId×Value->H) :
  ReturnsInHanded {} Tryz.checked os 3 .any (fun w args=>(Rows.walkNobodySpec.pre enc Tryz.prog Tryz.f3 [] false w args/\laidMetH Tryz.prog Zcx w)/\sizedMet enc Tryz.prog Tryz.f3 (OpenSpec.ofChange Rows.walkNobodySpec) false w args) (Rows.walkNobodySpec.post enc Tryz.prog Tryz.f3 false true false false):=by
 refine returnsInHanded_of_change_and (C:=Tryz.checked) (X:=fun w _=>laidMetH Tryz.prog Zcx w) (fun _ _ _ hh h=>h.of_heap hh) own started (by kernel_rfl) Tryz.func3
  (ChangeSpec.witness_shaped (enc:=enc) (C:=Tryz.checked) (os:=os) (X:=fun w _=>laidMetH Tryz.prog Zcx w) false (World.doorLaid Tryz.prog 400 os) #[.agg #[.int .i64 0,.int .i64 0,.int .i64 0,.int .i64 0,.int .i64 0,.int .i64 0,.int .i64 0,.int .i64 0],.int .u32 0] 8 rfl (World.shaped_of_RefB (by kernel_rfl) (by kernel_rfl)) (by kernel_rfl) (by kernel_rfl) (by kernel_rfl) (door_met os _)) ?_
 intro W base args ds gs before hval0 hW hcnd hsz0 hL _
 have hsz:(DataW.weightsEach Tryz.prog (Tryz.f3.params.toList ++ Rows.walkNobodySpec.plain.varTypes Tryz.prog) (ds ++ gs)).all (·<=reachBytes)=true:=hsz0
 have hval:∀(j:Nat) t v,Tryz.f3.params[j]?=some t->args[j]?=some v->Value.okWide Tryz.prog W .any base t v:=hval0
 have hW':=hW
 obtain ⟨p,q,hA0,hV,rfl,hfz,hnd⟩:=hW
 have hA:DataW.TrodAll enc Tryz.prog W 0 (fun _=>true) true Tryz.f3.params.toList args.toList ds p:=hA0
 rw [Tryz.params3] at hA hval hsz
 obtain ⟨v0,vs0,d0,ds0,p0,q0,hargs,rfl,rfl,h0,r0⟩:=trodAll_cons hA
 obtain ⟨v1,vs1,d1,ds1,p1,q1,rfl,rfl,rfl,h1,r1⟩:=trodAll_cons r0
 obtain ⟨rfl,rfl,rfl⟩:=trodAll_nil r1
 obtain rfl:args=#[v0,v1]:=by cases args; simp_all
 obtain ⟨rfl,rfl⟩:=trodVars_none hV
 have k0:=h0
 have lt0:∀ x∈p0,x.block<W.heap.size:=by obtain ⟨m,hm⟩:=k0; exact DataW.trod_lt m _ _ _ hm
 obtain ⟨x0,cs0,ok0,fit0,rfl⟩:=opens0.arg (hval 0 23 v0 rfl rfl) h0 hsz (j:=0) rfl rfl
 have k1:=h1
 have lt1:∀ x∈p1,x.block<W.heap.size:=by obtain ⟨m,hm⟩:=k1; exact DataW.trod_lt m _ _ _ hm
 obtain ⟨x1,cs1,ok1,fit1,rfl⟩:=opens1.arg (hval 1 24 v1 rfl rfl) h1 hsz (j:=1) rfl rfl
 obtain rfl:=Ty.ok_enc (t:=(.pair (.int .i64) (.pair (.int .i64) (.pair (.int .i64) (.pair (.int .i64) (.pair (.int .i64) (.pair (.int .i64) (.pair (.int .i64) (.int .i64))))))))) rfl ok0
 obtain rfl:=Ty.ok_enc (t:=(.int .u32)) rfl ok1
 clear hA0 hval0 hsz0 hsz hval
 obtain ⟨k,r⟩:=Go.SK.T.WalkNobody_pure x0 x1 fit0 fit1
 refine (Spec.law (W:=W) (Go.SK.T.Q126.spec r) ?_).mono fun e W' ⟨he,bel⟩=>?_
 ·intro c hc; simp only [List.mem_cons,List.mem_nil_iff,or_false] at hc
  rcases hc with rfl
  ·exact ⟨_,tab_of hL,fun b hb=>hb⟩
 subst he
 exact ⟨_,rfl,_,_,_,[],_,[],hW',trodAll_mk1 (shut_bool Tryz.underlying4 _),(trodAll_cons_mk (Below.trod laidOut (by kernel_rfl) (of_decide_eq_true (by kernel_rfl)) k0 bel lt0) (trodAll_cons_mk (Below.trod laidOut (by kernel_rfl) (of_decide_eq_true (by kernel_rfl)) k1 bel lt1) trodAll_mk0)),rfl,bel.frame _,fun h=>by cases h⟩
theorem over:Rows.walkNobodyRow.holds Tryz.pinned (OpenSpec.ofChange Rows.walkNobodySpec):=
 OpenClaim.holds_of_wide 3 Tryz.f3 rfl rfl rfl rfl rfl rfl rfl ⟨rfl,rfl,rfl,rfl,rfl⟩ rfl rfl rfl rfl rfl (by kernel_rfl) Tryz.func3 (by kernel_rfl)
  (of_decide_eq_true (by kernel_rfl)) (by unfold Func.isWrapper; first | (rw [if_pos (by decide +kernel)]; kernel_rfl) | (rw [if_neg (by decide +kernel)]; exact ⟨rfl,rfl⟩))
  (fun os started H enc _=>lifted os started H enc)
theorem proved:Rows.WalkNobodyCardSaid:=
 Claim7.holds_tied_plain_at .later [] [.data] true (true, "043e0fadef959702d195ca240e37df5e647889f4bfe986c88bd018e6ca10cbec") false
  over (fun _ h=>by cases h) (by kernel_rfl) (fun _ h=>by cases h) walkNobody_row_tie rfl ⟨rfl,rfl⟩ (by kernel_rfl) rfl
  (fun f fn hf hfn=>by
   obtain rfl:f=3:=Option.some.inj ((show Tryz.prog.funcNamed Rows.walkNobodyRow.func=some 3 by kernel_rfl).symm.trans hf) |>.symm
   obtain rfl:fn=Tryz.f3:=(Option.some.inj (Tryz.func3.symm.trans hfn)).symm
   refine ⟨by kernel_rfl,fun j t ht=>?_⟩
   rw [Tryz.params3] at ht
   have hx:t∈(#[23,24]:Array Nat).toList:=List.mem_of_getElem? (by simpa using ht)
   simp only [List.mem_cons,List.mem_nil_iff,or_false] at hx
   rcases hx with rfl | rfl
   ·exact (show Tryz.prog.wantsStandIn 23=false by kernel_rfl)
   ·exact (show Tryz.prog.wantsStandIn 24=false by kernel_rfl)
  )
  (by kernel_rfl)
#print axioms proved
end Go.Proofs.YtbalmcdgclcimaaGreatDoor.walkNobody
namespace Go.Proofs.YtbalmcdgclcimaaGreatDoor
theorem walkNobody_holds:Rows.WalkNobodyCardSaid:=walkNobody.proved
end Go.Proofs.YtbalmcdgclcimaaGreatDoor
