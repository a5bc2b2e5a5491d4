/- The law sluicegate/sluicegatelaw20.WalkCorrupt: for every input it returns true, and each argument reads as it read. No condition. -/
import Derived.Test.YtolapahaeipgfaaGreatDoorRows
import Derived.Test.YtolapahaeipgfaaGreatDoorCards
import Derived.Test.YtolapahaeipgfaaGreatDoorTie
import Derived.Test.YtolapahaeipgfaaGreatDoorXWalkCorruptF3
import Derived.Test.YtolapahaeipgfaaGreatDoorXWalkCorruptP
import Derived.WalkKit
import Derived.ProofKit
import Derived.OpenShut
import Derived.ShutString
import Derived.ChangeOld
import Derived.Below
import Derived.SizedLaws
import Derived.Handed
import Derived.LaidMore
import Derived.Stop.Joined
import Derived.Lib.LaidTab
import Derived.MakeChecks
import Derived.SevenTiedAt
namespace Go.Proofs.YtolapahaeipgfaaGreatDoor.walkCorrupt
open Go Go.SK Go.ChangeShapes Go.WideShapes Go.ChangeAt Go.RowKit
set_option linter.unusedVariables false
set_option linter.unusedSimpArgs false
theorem own:ownKnob Tryz.prog.godebug=none:=by kernel_rfl
theorem laidOut:laidOutB Tryz.prog=true:=by kernel_rfl
abbrev Zd9 : List (String × DataW Unit) := [("math/bits.deBruijn64tab", Rows.laid_math_bits_deBruijn64tab)]
theorem laidTab : Zd9 = [("math/bits.deBruijn64tab", Lib.tabData .u8 (Lib.deBruijn64tab.map fun (z : Nat) => (z : Int)))] := rfl
theorem gTab : Tryz.prog.globalNamed "math/bits.deBruijn64tab" = some 0 := by kernel_rfl
theorem door_met (os:Os) (args:Array Value):laidMetH Tryz.prog Zd9 ((World.doorLaid Tryz.prog 400 os).forCall (fun _ _=>0) ⟨#[],args,[]⟩).memory:=
 laidMetH_of_parts3 (fuel:=8) (laidMet_of_run' 8 (by kernel_rfl) (by kernel_rfl)) (by kernel_rfl) (by kernel_rfl)
theorem tab_of {W:World} (h:laidMetH Tryz.prog Zd9 W):(Go.SK.T.tabC 0).ok W (fun b=>b<W.heap.size):=by
 rw [MakeChecks.laidMetH_plain _ _ _ (by kernel_rfl),laidTab] at h
 have tb:=Lib.tabIs_of_head gTab (t:=246) (e:=5) (by kernel_rfl) Tryz.underlying246 Tryz.underlying5 (by kernel_rfl) (by kernel_rfl) h
 refine ⟨?_,fun j hj=>?_⟩
 rotate_left
 ·rw [tb.cell gTab j (by rw [List.length_map]; exact hj)]
  simp [List.getD_eq_getElem?_getD,List.getElem?_map,List.getElem?_eq_getElem hj]
 have h0:=tb.cell gTab 0 (by decide)
 apply Classical.byContradiction
 intro hn
 have hg:W.heap[0]?=none:=Array.getElem?_eq_none (by omega)
 unfold World.cell? at h0
 rw [hg] at h0
 cases h0
theorem opens0:Opens Tryz.prog (Vu Go.SK.T.tt) (.pair (.int .i64) (.pair (.int .i64) (.pair (.int .i64) (.pair (.int .i64) (.pair (.int .i64) (.pair (.int .i64) (.pair (.int .i64) (.int .i64)))))))) 23 true:=(Opens.struct (ts:=[(.int .i64),(.int .i64),(.int .i64),(.int .i64),(.int .i64),(.int .i64),(.int .i64),(.int .i64)]) Tryz.underlying23 (by kernel_rfl) ⟨rfl,⟨_,(Opens.int Tryz.underlying3 (by kernel_rfl))⟩,⟨rfl,⟨_,(Opens.int Tryz.underlying3 (by kernel_rfl))⟩,⟨rfl,⟨_,(Opens.int Tryz.underlying3 (by kernel_rfl))⟩,⟨rfl,⟨_,(Opens.int Tryz.underlying3 (by kernel_rfl))⟩,⟨rfl,⟨_,(Opens.int Tryz.underlying3 (by kernel_rfl))⟩,⟨rfl,⟨_,(Opens.int Tryz.underlying3 (by kernel_rfl))⟩,⟨rfl,⟨_,(Opens.int Tryz.underlying3 (by kernel_rfl))⟩,⟨rfl,⟨_,(Opens.int Tryz.underlying3 (by kernel_rfl))⟩,trivial⟩⟩⟩⟩⟩⟩⟩⟩)
theorem opens1:Opens Tryz.prog (Vu Go.SK.T.tt) (.pair (.slice 78 (.pair .str .str)) (.pair (.slice 80 (.pair .str (.pair .bool .str))) (.pair (.slice 5 (.int .u8)) (.slice 5 (.int .u8))))) 28 true:=(Opens.struct (ts:=[(.slice 78 (.pair .str .str)),(.slice 80 (.pair .str (.pair .bool .str))),(.slice 5 (.int .u8)),(.slice 5 (.int .u8))]) Tryz.underlying28 (by kernel_rfl) ⟨rfl,⟨_,(Opens.slice Tryz.underlying24 (by kernel_rfl) (by kernel_rfl) rfl (Opens.struct (ts:=[.str,.str]) Tryz.underlying78 (by kernel_rfl) ⟨rfl,⟨_,(Opens.str Tryz.underlying9 (by kernel_rfl))⟩,⟨rfl,⟨_,(Opens.str Tryz.underlying9 (by kernel_rfl))⟩,trivial⟩⟩))⟩,⟨rfl,⟨_,(Opens.slice Tryz.underlying25 (by kernel_rfl) (by kernel_rfl) rfl (Opens.struct (ts:=[.str,.bool,.str]) Tryz.underlying80 (by kernel_rfl) ⟨rfl,⟨_,(Opens.str Tryz.underlying9 (by kernel_rfl))⟩,⟨rfl,⟨_,(Opens.bool Tryz.underlying4 (by kernel_rfl))⟩,⟨rfl,⟨_,(Opens.str Tryz.underlying9 (by kernel_rfl))⟩,trivial⟩⟩⟩))⟩,⟨rfl,⟨_,(Opens.slice Tryz.underlying26 (by kernel_rfl) (by kernel_rfl) rfl (Opens.int Tryz.underlying5 (by kernel_rfl)))⟩,⟨rfl,⟨_,(Opens.slice Tryz.underlying26 (by kernel_rfl) (by kernel_rfl) rfl (Opens.int Tryz.underlying5 (by kernel_rfl)))⟩,trivial⟩⟩⟩⟩)
theorem opens2:Opens Tryz.prog (Vu Go.SK.T.tt) (.int .u16) 53 false:=(Opens.int Tryz.underlying53 (by kernel_rfl))
theorem opens3:Opens Tryz.prog (Vu Go.SK.T.tt) (.pair (.int .i64) (.pair (.slice 30 (.int .u32)) (.pair (.slice 9 .str) (.pair (.slice 80 (.pair .str (.pair .bool .str))) (.slice 78 (.pair .str .str)))))) 42 true:=(Opens.struct (ts:=[(.int .i64),(.slice 30 (.int .u32)),(.slice 9 .str),(.slice 80 (.pair .str (.pair .bool .str))),(.slice 78 (.pair .str .str))]) Tryz.underlying42 (by kernel_rfl) ⟨rfl,⟨_,(Opens.int Tryz.underlying3 (by kernel_rfl))⟩,⟨rfl,⟨_,(Opens.slice Tryz.underlying39 (by kernel_rfl) (by kernel_rfl) rfl (Opens.int Tryz.underlying30 (by kernel_rfl)))⟩,⟨rfl,⟨_,(Opens.slice Tryz.underlying40 (by kernel_rfl) (by kernel_rfl) rfl (Opens.str Tryz.underlying9 (by kernel_rfl)))⟩,⟨rfl,⟨_,(Opens.slice Tryz.underlying25 (by kernel_rfl) (by kernel_rfl) rfl (Opens.struct (ts:=[.str,.bool,.str]) Tryz.underlying80 (by kernel_rfl) ⟨rfl,⟨_,(Opens.str Tryz.underlying9 (by kernel_rfl))⟩,⟨rfl,⟨_,(Opens.bool Tryz.underlying4 (by kernel_rfl))⟩,⟨rfl,⟨_,(Opens.str Tryz.underlying9 (by kernel_rfl))⟩,trivial⟩⟩⟩))⟩,⟨rfl,⟨_,(Opens.slice Tryz.underlying24 (by kernel_rfl) (by kernel_rfl) rfl (Opens.struct (ts:=[.str,.str]) Tryz.underlying78 (by kernel_rfl) ⟨rfl,⟨_,(Opens.str Tryz.underlying9 (by kernel_rfl))⟩,⟨rfl,⟨_,(Opens.str Tryz.underlying9 (by kernel_rfl))⟩,trivial⟩⟩))⟩,trivial⟩⟩⟩⟩⟩)
theorem opens4:Opens Tryz.prog (Vu Go.SK.T.tt) .bool 4 false:=(Opens.bool Tryz.underlying4 (by kernel_rfl))
set_option maxRecDepth 100000 in
theorem lifted (os:Os) (started:os.Started) (H:Type) (enc:TypeId×Value->H) :
  ReturnsInHanded {} Tryz.checked os 4 .any (fun w args=>(Rows.walkCorruptSpec.pre enc Tryz.prog Tryz.f4 [] false w args/\laidMetH Tryz.prog Zd9 w)/\sizedMet enc Tryz.prog Tryz.f4 (OpenSpec.ofChange Rows.walkCorruptSpec) false w args) (Rows.walkCorruptSpec.post enc Tryz.prog Tryz.f4 false true false false):=by
 refine returnsInHanded_of_change_and (C:=Tryz.checked) (X:=fun w _=>laidMetH Tryz.prog Zd9 w) (fun _ _ _ hh h=>h.of_heap hh) own started (by kernel_rfl) Tryz.func4
  (ChangeSpec.witness_shaped (enc:=enc) (C:=Tryz.checked) (os:=os) (X:=fun w _=>laidMetH Tryz.prog Zd9 w) false (World.doorLaid Tryz.prog 400 os) #[.agg #[.int .i64 0,.int .i64 0,.int .i64 0,.int .i64 0,.int .i64 0,.int .i64 0,.int .i64 0,.int .i64 0],.agg #[.slice none 0 0,.slice none 0 0,.slice none 0 0,.slice none 0 0],.int .u16 0,.agg #[.int .i64 0,.slice none 0 0,.slice none 0 0,.slice none 0 0,.slice none 0 0],.bool false] 8 rfl (World.shaped_of_RefB (by kernel_rfl) (by kernel_rfl)) (by kernel_rfl) (by kernel_rfl) (by kernel_rfl) (door_met os _)) ?_
 intro W base args ds gs before hval0 hW hcnd hsz0 hL _
 have hsz:(DataW.weightsEach Tryz.prog (Tryz.f4.params.toList ++ Rows.walkCorruptSpec.plain.varTypes Tryz.prog) (ds ++ gs)).all (·<=reachBytes)=true:=hsz0
 have hval:∀(j:Nat) t v,Tryz.f4.params[j]?=some t->args[j]?=some v->Value.okWide Tryz.prog W .any base t v:=hval0
 have hW':=hW
 obtain ⟨p,q,hA0,hV,rfl,hfz,hnd⟩:=hW
 have hA:DataW.TrodAll enc Tryz.prog W 0 (fun _=>true) true Tryz.f4.params.toList args.toList ds p:=hA0
 rw [Tryz.params4] at hA hval hsz
 obtain ⟨v0,vs0,d0,ds0,p0,q0,hargs,rfl,rfl,h0,r0⟩:=trodAll_cons hA
 obtain ⟨v1,vs1,d1,ds1,p1,q1,rfl,rfl,rfl,h1,r1⟩:=trodAll_cons r0
 obtain ⟨v2,vs2,d2,ds2,p2,q2,rfl,rfl,rfl,h2,r2⟩:=trodAll_cons r1
 obtain ⟨v3,vs3,d3,ds3,p3,q3,rfl,rfl,rfl,h3,r3⟩:=trodAll_cons r2
 obtain ⟨v4,vs4,d4,ds4,p4,q4,rfl,rfl,rfl,h4,r4⟩:=trodAll_cons r3
 obtain ⟨rfl,rfl,rfl⟩:=trodAll_nil r4
 obtain rfl:args=#[v0,v1,v2,v3,v4]:=by cases args; simp_all
 obtain ⟨rfl,rfl⟩:=trodVars_none hV
 have k0:=h0
 have lt0:∀ x∈p0,x.block<W.heap.size:=by obtain ⟨m,hm⟩:=k0; exact DataW.trod_lt m _ _ _ hm
 obtain ⟨x0,cs0,ok0,fit0,rfl⟩:=opens0.arg (hval 0 23 v0 rfl rfl) h0 hsz (j:=0) rfl rfl
 have k1:=h1
 have lt1:∀ x∈p1,x.block<W.heap.size:=by obtain ⟨m,hm⟩:=k1; exact DataW.trod_lt m _ _ _ hm
 obtain ⟨x1,cs1,ok1,fit1,rfl⟩:=opens1.arg (hval 1 28 v1 rfl rfl) h1 hsz (j:=1) rfl rfl
 have k2:=h2
 have lt2:∀ x∈p2,x.block<W.heap.size:=by obtain ⟨m,hm⟩:=k2; exact DataW.trod_lt m _ _ _ hm
 obtain ⟨x2,cs2,ok2,fit2,rfl⟩:=opens2.arg (hval 2 53 v2 rfl rfl) h2 hsz (j:=2) rfl rfl
 have k3:=h3
 have lt3:∀ x∈p3,x.block<W.heap.size:=by obtain ⟨m,hm⟩:=k3; exact DataW.trod_lt m _ _ _ hm
 obtain ⟨x3,cs3,ok3,fit3,rfl⟩:=opens3.arg (hval 3 42 v3 rfl rfl) h3 hsz (j:=3) rfl rfl
 have k4:=h4
 have lt4:∀ x∈p4,x.block<W.heap.size:=by obtain ⟨m,hm⟩:=k4; exact DataW.trod_lt m _ _ _ hm
 obtain ⟨x4,cs4,ok4,fit4,rfl⟩:=opens4.arg (hval 4 4 v4 rfl rfl) h4 hsz (j:=4) rfl rfl
 obtain rfl:=Ty.ok_enc (t:=(.pair (.int .i64) (.pair (.int .i64) (.pair (.int .i64) (.pair (.int .i64) (.pair (.int .i64) (.pair (.int .i64) (.pair (.int .i64) (.int .i64))))))))) rfl ok0
 obtain ⟨u3a,u3b,rfl,u3p,u3r⟩:=ok1
 obtain ⟨Aq4,cq4,rfl,rlq4⟩:=u3p
 have rdq4:(rdC 78 (.pair .str .str) x1.1 (.slice Aq4 x1.1.length cq4)).ok W (fun b=>b<W.heap.size):=⟨Aq4,cq4,rfl,rlq4⟩
 obtain ⟨u5a,u5b,rfl,u5p,u5r⟩:=u3r
 obtain ⟨Aq6,cq6,rfl,rlq6⟩:=u5p
 have rdq6:(rdC 80 (.pair .str (.pair .bool .str)) x1.2.1 (.slice Aq6 x1.2.1.length cq6)).ok W (fun b=>b<W.heap.size):=⟨Aq6,cq6,rfl,rlq6⟩
 obtain ⟨u7a,u7b,rfl,u7p,u7r⟩:=u5r
 obtain ⟨Aq8,cq8,rfl,rlq8⟩:=u7p
 have rdq8:(rdC 5 (.int .u8) x1.2.2.1 (.slice Aq8 x1.2.2.1.length cq8)).ok W (fun b=>b<W.heap.size):=⟨Aq8,cq8,rfl,rlq8⟩
 obtain ⟨Aq9,cq9,rfl,rlq9⟩:=u7r
 have rdq9:(rdC 5 (.int .u8) x1.2.2.2 (.slice Aq9 x1.2.2.2.length cq9)).ok W (fun b=>b<W.heap.size):=⟨Aq9,cq9,rfl,rlq9⟩
 obtain rfl:=Ty.ok_enc (t:=(.int .u16)) rfl ok2
 obtain ⟨u12a,u12b,rfl,u12p,u12r⟩:=ok3
 obtain rfl:=Ty.ok_enc (t:=(.int .i64)) rfl u12p
 obtain ⟨u14a,u14b,rfl,u14p,u14r⟩:=u12r
 obtain ⟨Aq15,cq15,rfl,rlq15⟩:=u14p
 have rdq15:(rdC 30 (.int .u32) x3.2.1 (.slice Aq15 x3.2.1.length cq15)).ok W (fun b=>b<W.heap.size):=⟨Aq15,cq15,rfl,rlq15⟩
 obtain ⟨u16a,u16b,rfl,u16p,u16r⟩:=u14r
 obtain ⟨Aq17,cq17,rfl,rlq17⟩:=u16p
 have rdq17:(rdC 9 .str x3.2.2.1 (.slice Aq17 x3.2.2.1.length cq17)).ok W (fun b=>b<W.heap.size):=⟨Aq17,cq17,rfl,rlq17⟩
 obtain ⟨u18a,u18b,rfl,u18p,u18r⟩:=u16r
 obtain ⟨Aq19,cq19,rfl,rlq19⟩:=u18p
 have rdq19:(rdC 80 (.pair .str (.pair .bool .str)) x3.2.2.2.1 (.slice Aq19 x3.2.2.2.1.length cq19)).ok W (fun b=>b<W.heap.size):=⟨Aq19,cq19,rfl,rlq19⟩
 obtain ⟨Aq20,cq20,rfl,rlq20⟩:=u18r
 have rdq20:(rdC 78 (.pair .str .str) x3.2.2.2.2 (.slice Aq20 x3.2.2.2.2.length cq20)).ok W (fun b=>b<W.heap.size):=⟨Aq20,cq20,rfl,rlq20⟩
 obtain rfl:=Ty.ok_enc (t:=.bool) rfl ok4
 clear hA0 hval0 hsz0 hsz hval
 obtain ⟨k,r⟩:=Go.SK.T.WalkCorrupt_pure x0 x1 x2 x3 x4 fit0 fit1 fit2 fit3 fit4
 refine (Spec.law (W:=W) (Go.SK.T.Q128.spec r) ?_).mono fun e W' ⟨he,bel⟩=>?_
 ·intro c hc; simp only [List.mem_cons,List.mem_nil_iff,or_false] at hc
  rcases hc with rfl | rfl | rfl | rfl | rfl | rfl | rfl | rfl | rfl
  ·exact ⟨_,rdq4,fun b hb=>hb⟩
  ·exact ⟨_,rdq6,fun b hb=>hb⟩
  ·exact ⟨_,rdq8,fun b hb=>hb⟩
  ·exact ⟨_,rdq9,fun b hb=>hb⟩
  ·exact ⟨_,rdq15,fun b hb=>hb⟩
  ·exact ⟨_,rdq17,fun b hb=>hb⟩
  ·exact ⟨_,rdq19,fun b hb=>hb⟩
  ·exact ⟨_,rdq20,fun b hb=>hb⟩
  ·exact ⟨_,tab_of hL,fun b hb=>hb⟩
 subst he
 exact ⟨_,rfl,_,_,_,[],_,[],hW',trodAll_mk1 (shut_bool Tryz.underlying4 _),(trodAll_cons_mk (Below.trod laidOut (by kernel_rfl) (of_decide_eq_true (by kernel_rfl)) k0 bel lt0) (trodAll_cons_mk (Below.trod laidOut (by kernel_rfl) (of_decide_eq_true (by kernel_rfl)) k1 bel lt1) (trodAll_cons_mk (Below.trod laidOut (by kernel_rfl) (of_decide_eq_true (by kernel_rfl)) k2 bel lt2) (trodAll_cons_mk (Below.trod laidOut (by kernel_rfl) (of_decide_eq_true (by kernel_rfl)) k3 bel lt3) (trodAll_cons_mk (Below.trod laidOut (by kernel_rfl) (of_decide_eq_true (by kernel_rfl)) k4 bel lt4) trodAll_mk0))))),rfl,bel.frame _,fun h=>by cases h⟩
theorem over:Rows.walkCorruptRow.holds Tryz.pinned (OpenSpec.ofChange Rows.walkCorruptSpec):=
 OpenClaim.holds_of_wide 4 Tryz.f4 rfl rfl rfl rfl rfl rfl rfl ⟨rfl,rfl,rfl,rfl,rfl⟩ rfl rfl rfl rfl rfl (by kernel_rfl) Tryz.func4 (by kernel_rfl)
  (of_decide_eq_true (by kernel_rfl)) (by unfold Func.isWrapper; first | (rw [if_pos (by decide +kernel)]; kernel_rfl) | (rw [if_neg (by decide +kernel)]; exact ⟨rfl,rfl⟩))
  (fun os started H enc _=>lifted os started H enc)
theorem proved:Rows.WalkCorruptCardSaid:=
 Claim7.holds_tied_plain_at .later [] [.data] true (true, "bee84b5f15d91c0e94d23119547a26dcdc5a729ed9950a1d91c2c3203abd4c8c") false
  over (fun _ h=>by cases h) (by kernel_rfl) (fun _ h=>by cases h) walkCorrupt_row_tie rfl ⟨rfl,rfl⟩ (by kernel_rfl) rfl
  (fun f fn hf hfn=>by
   obtain rfl:f=4:=Option.some.inj ((show Tryz.prog.funcNamed Rows.walkCorruptRow.func=some 4 by kernel_rfl).symm.trans hf) |>.symm
   obtain rfl:fn=Tryz.f4:=(Option.some.inj (Tryz.func4.symm.trans hfn)).symm
   refine ⟨by kernel_rfl,fun j t ht=>?_⟩
   rw [Tryz.params4] at ht
   have hx:t∈(#[23,28,53,42,4]:Array Nat).toList:=List.mem_of_getElem? (by simpa using ht)
   simp only [List.mem_cons,List.mem_nil_iff,or_false] at hx
   rcases hx with rfl | rfl | rfl | rfl | rfl
   ·exact (show Tryz.prog.wantsStandIn 23=false by kernel_rfl)
   ·exact (show Tryz.prog.wantsStandIn 28=false by kernel_rfl)
   ·exact (show Tryz.prog.wantsStandIn 53=false by kernel_rfl)
   ·exact (show Tryz.prog.wantsStandIn 42=false by kernel_rfl)
   ·exact (show Tryz.prog.wantsStandIn 4=false by kernel_rfl)
  )
  (by kernel_rfl)
#print axioms proved
end Go.Proofs.YtolapahaeipgfaaGreatDoor.walkCorrupt
namespace Go.Proofs.YtolapahaeipgfaaGreatDoor
theorem walkCorrupt_holds:Rows.WalkCorruptCardSaid:=walkCorrupt.proved
end Go.Proofs.YtolapahaeipgfaaGreatDoor
