/- keytexts -/
import Derived.Test.YtgdmpkhmedbnpaaGreatDoorXShelfFlushedF4
import Derived.KernelRfl
import Derived.RangeFuncGives
import Derived.RangeFuncBound
import Derived.Sort.MapsRangeIn
import Derived.Lib.SlKeysI
import Derived.WalkKit
import Derived.OwnWalkIn
import Derived.TacticsInMore
import Derived.RegionIn
import Derived.LoopNIn
import Derived.LoopIn
import Derived.Maps.AppendAt
import Derived.Shelf.Abstract
import Derived.Shelf.AbstractIn
set_option linter.unusedVariables false
set_option linter.unusedSimpArgs false
namespace Go.SK.T
open Go Go.SK Go.Proofs Go.RowKit Go.Maps Go.Sort Go.Shelf
abbrev Wj:Int→Value:=Value.int .u32
theorem Zl5 {x y:Int} (h:Wj x=Wj y):x=y:=by simpa [Wj] using h
theorem Za1 {k:TypeId} (hk:Tryz.prog.underlying k=some (.int .u32)) {key:Value} {kl:Lit} (h:keyOf Tryz.prog k key=some kl):∃ x:Int,key=Wj x∧kl=.int .u32 x∧(Lit.int .u32 x).wf=true:=by
  cases key <;> simp [keyOf,hk,mapKey] at h
  rename_i q a
  obtain ⟨⟨rfl,hw⟩,rfl⟩:=h
  exact ⟨a,rfl,rfl,hw⟩
theorem Zge {H:Type} {es:List (Lit×DataW H)} (hp:es.Pairwise (fun p q=>p.1≠q.1)) (hk:∀ p∈es,∃ x,p.1=.int .u32 x) {ss:TU} (hnd:ss.Nodup) (hm:∀ x,x∈ss↔has (.map es) (.int .u32 x)=true) :
    ss.Perm (intKeys (.map es)):=by
  refine (List.perm_ext_iff_of_nodup hnd ?_).2 fun x=>?_
  · show (es.map fun p=>intOf p.1).Nodup
    refine List.pairwise_map.2 (hp.imp_of_mem fun {p q} hp' hq' hne e=>hne ?_)
    obtain ⟨a,ha⟩:=hk p hp'
    obtain ⟨b,hb⟩:=hk q hq'
    rw [ha,hb] at e ⊢
    exact congrArg _ e
  · rw [hm x,has_eq,List.any_eq_true]
    show _↔x∈es.map fun p=>intOf p.1
    rw [List.mem_map]
    constructor
    · rintro ⟨p,hp',hs⟩
      obtain ⟨a,ha⟩:=hk p hp'
      rw [ha] at hs
      exact ⟨p,hp',by rw [ha]; simpa [Lit.sameKey,intOf] using hs⟩
    · rintro ⟨p,hp',rfl⟩
      obtain ⟨a,ha⟩:=hk p hp'
      exact ⟨p,hp',by rw [ha]; simp [Lit.sameKey,intOf]⟩

def CollectedU {H:Type} (D0:DataW H) (left:Lit→Bool) (ss:TU):Prop:=ss.Nodup∧∀ x,x∈ss↔(has D0 (.int .u32 x)=true∧left (.int .u32 x)=false)

section
variable {H:Type} {D0:DataW H} {left:Lit→Bool} {ss:TU}

theorem CollectedU.start (D0:DataW H):CollectedU D0 (has D0) []:=⟨List.nodup_nil,fun x=>by cases has D0 (.int .u32 x) <;> simp⟩

theorem CollectedU.step (h:CollectedU D0 left ss) {x:Int} {y:DataW H} (hlk:left (.int .u32 x)=true) (hat:∀ zd,D0.atKey (.int .u32 x) zd=y):CollectedU D0 (fun z=>left z && !z.sameKey (.int .u32 x)) (ss ++ [x]):=by
  have hhas:has D0 (.int .u32 x)=true:=has_true_of_atKey hat
  have hnew:x∉ss:=fun hx=>by have:=((h.2 x).1 hx).2; rw [hlk] at this; cases this
  refine ⟨List.nodup_append.2 ⟨h.1,by simp,fun a ha b hb=>by simp at hb; subst hb; exact fun e=>hnew (e ▸ ha)⟩,fun y=>?_⟩
  by_cases hy:y=x
  · subst hy; simp [hhas,Lit.sameKey]
  · simp [h.2 y,hy,Lit.sameKey]

variable {k:TypeId} {R:Value→Option (DataW H×List MemPlace)} {w:World} {b n:Nat}

theorem CollectedU.perm (h:CollectedU D0 left ss) (hown:w.ownsMap Tryz.prog k R b n D0) (K:Keyed Tryz.prog k) (hk:Tryz.prog.underlying k=some (.int .u32)) (hl:∀ kl,left kl=false):ss.Perm (intKeys D0):=by
  obtain ⟨es,hD,hpw,_⟩:=hown.entries K
  obtain ⟨es',hD',hko⟩:=hown.keysOf
  obtain rfl:es=es':=by rw [hD] at hD'; simpa using hD'
  subst hD
  exact Zge hpw (fun p hp=>by obtain ⟨v,hv⟩:=hko p hp; obtain ⟨x,_,hx,_⟩:=Za1 hk hv; exact ⟨x,hx⟩) h.1 (fun x=>by rw [h.2 x,hl]; simp)


end
theorem Znr:(Tryz.prog.info? 33).map (fun i=>(i.zero,i.size,i.bytes))=some (some (.int .u32 0),1,4):=by kernel_rfl
theorem Zb5 {W W':World} {row:Option Nat} {base:Nat} {e:TypeId} {size:Nat} {v:Value} {k:Nat} {xs:List Value} (h:W.ownsRow base e size v k xs) (hg:W.grownBy W' row)
    (hrow:∀ r,row=some r→∃ o:Obj,W.heap[r]?=some o∧o.isWalk=true):W'.ownsRow base e size v k xs:=by
  refine h.kept hg ?_
  rcases h.2 with ⟨rfl,_⟩ | ⟨g,cap,cur,rfl,_,hgb,_⟩
  · exact .inl rfl
  · refine .inr fun e'=>?_
    obtain ⟨o,ho,hw⟩:=hrow g (by simpa [Value.ownBlock] using e'.symm)
    rw [hgb] at ho; cases ho; cases hw

theorem X2 (W:World) (l:Nat) (o:Obj):W.grownBy (W.putObj l o) (some l):=
  ⟨rfl,rfl,rfl,by simp,fun k _ hk=>World.putObj_heap_other (fun e=>hk (by rw [e]))⟩
theorem Zac (W:World) (b:Nat) (v:Value):W.grownBy (W.setCell ⟨b,0,none⟩ v) (some b):=
  ⟨rfl,rfl,rfl,(KeepsWalks.setCell W _ v).size,fun k _ hk=>Below.heap_setCell _ _ _ k (fun e=>hk (by rw [e]))⟩
theorem Vc {W:World} {base:Nat} {e:TypeId} {size:Nat} {v:Value} {k:Nat} {xs:List Value} (h:W.ownsRow base e size v k xs) {j:Nat} {o:Obj} (hj:W.heap[j]?=some o) (hno:∀ cur,o≠.cells cur e (0,0)) :
    v.ownBlock=none∨v.ownBlock≠some j:=by
  rcases h.2 with ⟨rfl,_⟩ | ⟨g,cap,cur,rfl,_,hgb,_⟩
  · exact .inl rfl
  · refine .inr fun e'=>?_
    have:g=j:=by simpa [Value.ownBlock] using e'
    subst this; rw [hgb] at hj; cases hj; exact hno cur rfl
theorem V8 {W:World} {B:Nat} {v:Value} {t:TypeId} (h:W.heap[B]?=some (.cells #[v] t (0,0))):W.cell? ⟨B,0,none⟩=some v∧W.frozen? ⟨B,0,none⟩=false:=by
  constructor <;> simp [World.cell?,World.frozen?,h]

theorem Zaz {W:World} {B:Nat} {v:Value} {t:TypeId} (v':Value) (h:W.heap[B]?=some (.cells #[v] t (0,0))):(W.setCell ⟨B,0,none⟩ v').heap[B]?=some (.cells #[v'] t (0,0)):=by
  obtain ⟨hlt,hk⟩:=Array.getElem?_eq_some_iff.1 h
  show (W.heap.modify B _)[B]?=_
  rw [Array.getElem?_eq_getElem (by rw [Array.size_modify]; exact hlt),Array.getElem_modify_self,hk]
  rfl
theorem Zaj {W:World} {base:Nat} {e:TypeId} {size:Nat} {v:Value} {k:Nat} {xs:List Value} (h:W.ownsRow base e size v k xs):∀(j:Nat) (o:Obj),v.ownBlock=some j→W.heap[j]?=some o→o.isWalk=false:=by
  intro j o hj ho
  rcases h.2 with ⟨rfl,_⟩ | ⟨g,cap,cur,rfl,_,hgb,_⟩
  · simp [Value.ownBlock] at hj
  · have:g=j:=by simpa [Value.ownBlock] using hj
    subst this; rw [hgb] at ho; cases ho; rfl

set_option maxRecDepth 100000 in
set_option maxHeartbeats 1000000 in
theorem Zgh {H:Type} (F:Fence) (n:Nat) (h10:F.fn 197) (hro:F.round=none) (hn:1≤n) (l Bm b nn:Nat) (D0:DataW H) {R:Value→Option (DataW H×List MemPlace)} (J:List Int→World→Prop)
    (hY:∀ pre x W,J pre W→pre.length<Maps.size D0→YieldAt F (n - 1) Tryz.prog l #[Wj x] W fun e W'=>e=.returned (.bool true)∧J (pre ++ [x]) W'∧KeepsWalks W W')
    (W:World) (hJ:AbidesFrom W.heap.size J) (hm:W.cell? ⟨Bm,0,none⟩=some (.map (some b))) (hown:W.ownsMap Tryz.prog 33 R b nn D0) (h0:J [] W) :
    CallsIn F n Tryz.prog 197 #[.func (.yield l) #[] #[],.pointer (some ⟨Bm,0,none⟩)] W fun e W'=>(∃ v,e=.returned v)∧∃ ss:List Int,ss.Perm (intKeys D0)∧J ss W':=by
  refine callsIn_of_wp Tryz.func197 rfl h10 ?_ hro
  simp only [Tryz.ntmps197,List.size_toArray,List.length_cons,List.length_nil,Nat.reduceAdd,Nat.reduceSub,Array.replicate_succ,Array.replicate_zero,List.push_toArray,List.append_toArray,List.nil_append,List.cons_append]
  gi_wp2_with (first
    | (gi_at_range; refine wpListIn_range_own _ rfl _ 165 rfl 33 3 (int_keyed Tryz.underlying33) Tryz.underlying165 _ b nn _ rfl hown ?_; intro w0 hrg0 hg0 hs0)
    | gi_in)
  go_frame
  gi_loopw [3] (fun _ wr=>∃(left:Lit→Bool) (cnt:Nat) (ss:TU),wr.ranges Tryz.prog 33 R b W.heap.size nn D0 left cnt∧ss.length+cnt≤Maps.size D0∧CollectedU D0 left ss∧J ss wr)
    (fun _ wr=>wr.rangeLeft b W.heap.size)
  case atStart=>
    exact ⟨_,_,[],hrg0,by simp,CollectedU.start D0,hJ [] W w0 none h0 hg0 (fun r e=>by cases e)⟩
  case round=>
    obtain ⟨left,cnt,ss,hrg,hcs,hC,hJs⟩:=hrel
    gi_wp2_with (first
      | (gi_at_next; refine wpListIn_next_ranges _ rfl _ rfl 33 (int_keyed Tryz.underlying33) R Wj id (fun key kl hk=>by obtain ⟨x,hx,_⟩:=Za1 Tryz.underlying33 hk; exact ⟨x,hx⟩) (fun v _ _=>⟨v,rfl⟩) b W.heap.size nn _ _ _ rfl hrg ?_ ?_)
      | gi_in)
    · -- NOTHING IS LEFT
      intro hc0 hl0
      gi_wp2
      go_end0
      exact ⟨⟨_,rfl⟩,ss,hC.perm hown (int_keyed Tryz.underlying33) Tryz.underlying33 hl0,hJs⟩
    · -- AN ENTRY HAS COME: yield(k)
      intro x c kl yd yp w2 cnt2 hkey hlk hv hat hrg2 hlt hg2 hs2 hen
      obtain ⟨x',ex,rfl,_⟩:=Za1 Tryz.underlying33 hkey
      obtain rfl:x=x':=Zl5 ex
      have hJ2:J ss w2:=hJ ss wr w2 (some W.heap.size) hJs hg2 (fun r e=>by cases e; exact ⟨T6 _,hrg.iter_walk⟩)
      obtain ⟨fn,tmps,assign,body,hy,hR⟩:=hY ss x w2 hJ2 (by omega)
      clear hs2
      gi_wp2
      refine hR.mono ?_
      rintro e W3 ⟨rfl,hJ3,hk3⟩
      gi_wp2
      have hrg3:=hrg2.of_walks hk3
      go_roundw
      case rel=>exact ⟨_,cnt2,ss ++ [x],hrg3,by simp; omega,hC.step hlk hat,hJ3⟩
      case measure=>rw [hrg3.left_eq,hrg.left_eq]; exact hlt


theorem Zfc {H:Type} (F:Fence) (n:Nat) (h10:F.fn 197) (hro:F.round=none) (hn:1≤n) (Bm b nn:Nat) (D0:DataW H) {R:Value→Option (DataW H×List MemPlace)} (w:World) (hBm:Bm<w.heap.size)
    (hm:w.cell? ⟨Bm,0,none⟩=some (.map (some b))) (hown:w.ownsMap Tryz.prog 33 R b nn D0) :
    SeqGives F n Tryz.prog 197 #[.pointer (some ⟨Bm,0,none⟩)] Wj (fun ss=>ss.Perm (intKeys D0)) (Maps.size D0) w:=fun l J W hW hJ hY h0=>by
  have hown':W.ownsMap Tryz.prog 33 R b nn D0:=by
    have hbl:=hown.lt
    obtain ⟨es,clock,hb,Ft,hs,hD⟩:=hown
    exact ⟨es,clock,(hW.block b hbl).trans hb,Ft,hs,hD⟩
  exact Zgh F n h10 hro hn l Bm b nn D0 J hY W hJ ((hW.cell (p:=⟨Bm,0,none⟩) hBm).trans hm) hown' h0

def Gu : Code := (Code.region 2 #[{ dst := some 5, op := Op.assign (Operand.tmp 7), type := 33, pos := "iter.go:51", after := #[], guard := none }] false)
def B6 : Code := (Code.block 1 (Code.region 3 #[{ dst := some 8, op := Op.load 38 (Operand.tmp 2), type := 38, pos := "iter.go:52", after := #[], guard := none }, { dst := some 9, op := Op.move (Operand.tmp 5), type := 33, pos := "iter.go:52", after := #[], guard := none }, { dst := some 10, op := Op.buildSlice 38 1 #[(0, Operand.tmp 9)], type := 38, pos := "iter.go:52", after := #[{ on := 1, ground := Ground.data }], guard := none }, { dst := some 11, op := Op.call { callee := Callee.builtin Builtin.append, args := #[Operand.tmp 8, Operand.tmp 10], argTypes := #[38, 38] }, type := 38, pos := "iter.go:52", after := #[{ on := 0, ground := Ground.data }, { on := 2, ground := Ground.data }], guard := none }, { dst := none, op := Op.store 38 (Operand.tmp 2) (Operand.tmp 11), type := 0, pos := "iter.go:52", after := #[{ on := 3, ground := Ground.data }, { on := 3, ground := Ground.chain }, { on := 0, ground := Ground.phase }, { on := 1, ground := Ground.phase }, { on := 2, ground := Ground.phase }, { on := 3, ground := Ground.phase }], guard := none }] false))
def Wo (fn:FuncId) (sv:Value) (Bs D:Nat) (st:LoopState) (pend:Option Code):Loop:=
  { state:=st,pending:=pend,fn,tmps:=#[.slice none 0 0,sv,.pointer (some ⟨Bs,0,none⟩),undef,.slice none 0 0,undef,sv,undef,undef,undef,undef,undef,undef],params:=#[7],assign:=Gu,body:=B6,defers:=D }

structure it_ApAt (w0:World) (fn:FuncId) (sv:Value) (Bs l D:Nat) (ss:TU) (W:World):Prop where
  box:∃ v,W.heap[Bs]?=some (.cells #[v] 38 (0,0))∧W.ownsRow w0.heap.size 33 1 v ss.length (ss.map Wj)∧(v=.slice none 0 0↔ss=[])
  L:W.heap[l]?=some (.loop (Wo fn sv Bs D .ready none))
  K:W.heap[D]?=some (.deferred (some []))
  below:Below w0.heap.size w0 W

theorem Zgf (w0:World) (fn:FuncId) (sv:Value) (Bs l D B:Nat) (hB:w0.heap.size≤B):AbidesFrom B (it_ApAt w0 fn sv Bs l D):=fun s W W' row h hg hrow=>by
  have hrow':∀ r,row=some r→∃ o:Obj,W.heap[r]?=some o∧o.isWalk=true:=fun r e=>(hrow r e).2
  obtain ⟨v,hv,hr,hn⟩:=h.box
  exact ⟨⟨v,(grownBy_keeps hg hrow' hv rfl).trans hv,Zb5 hr hg hrow',hn⟩,(grownBy_keeps hg hrow' h.L rfl).trans h.L,(grownBy_keeps hg hrow' h.K rfl).trans h.K,
    h.below.grown hg h.below.size (fun k e=>Nat.le_trans hB (hrow k e).1)⟩

set_option maxRecDepth 100000 in
set_option maxHeartbeats 2000000 in
theorem Ziz (F:Fence) (m:Nat) (w0:World) (fn:FuncId) (hfn:F.fn fn) (sv:Value) (Bs l D:Nat) (hBl:Bs≠l) (hDl:D≠l) (hDB:D≠Bs) (h0B:w0.heap.size≤Bs) (h0l:w0.heap.size≤l)
    (N:Nat) (hN:N≤maxLen) (hNb:N*8≤140737488355328) (ss:TU) (x:Int) (W:World) (h:it_ApAt w0 fn sv Bs l D ss W) (hlen:ss.length<N) :
    YieldAt F m Tryz.prog l #[Wj x] W fun e W'=>e=.returned (.bool true)∧it_ApAt w0 fn sv Bs l D (ss ++ [x]) W'∧KeepsWalks W W':=by
  have hne:38≠33:=fun e=>by have h:=Tryz.underlying38; rw [e,Tryz.underlying33] at h; cases h
  obtain ⟨i0,hi,hz0,hz1,hz2⟩:=info_parts Znr
  obtain ⟨v,hv,hrow,_⟩:=h.box
  refine ⟨fn,#[.slice none 0 0,sv,.pointer (some ⟨Bs,0,none⟩),undef,.slice none 0 0,undef,sv,Wj x,undef,undef,undef,undef,undef],Gu,B6,by simpa [Wo] using run_yield (P:=Tryz.prog) (args:=#[Wj x]) h.L rfl,roundIn_of_wpIn hfn ?_⟩
  have hl:l<W.heap.size:=(Array.getElem?_eq_some_iff.1 h.L).1
  have hbr:=run_beginRound (P:=Tryz.prog) h.L rfl
  obtain ⟨W2,hW2⟩:∃ W2,W.putObj l (.loop { Wo fn sv Bs D .ready none with state:=.busy })=W2:=⟨_,rfl⟩
  rw [hW2] at hbr
  have hg2:W.grownBy W2 (some l):=by rw [← hW2]; exact X2 _ _ _
  have hk2:KeepsWalks W W2:=by rw [← hW2]; exact KeepsWalks.putObj _ h.L rfl
  have hv2:W2.heap[Bs]?=some (.cells #[v] 38 (0,0)):=by rw [← hW2]; exact (World.putObj_heap_other hBl).trans hv
  have hK2:W2.heap[D]?=some (.deferred (some [])):=by rw [← hW2]; exact (World.putObj_heap_other hDl).trans h.K
  have hL2:W2.heap[l]?=some (.loop { Wo fn sv Bs D .ready none with state:=.busy }):=by rw [← hW2]; exact World.putObj_heap_same hl
  have hrow2:W2.ownsRow w0.heap.size 33 1 v ss.length (ss.map Wj):=hrow.kept hg2 (Vc hrow h.L (fun cur e=>by first | cases e | exact hne (Obj.cells.inj e).2.1))
  have hb2:Below w0.heap.size w0 W2:=h.below.grown hg2 h.below.size (fun k e=>by cases e; exact h0l)
  obtain ⟨hc2,hf2⟩:=V8 hv2
  have hBlt:Bs<W2.heap.size:=(Array.getElem?_eq_some_iff.1 hv2).1
  have hl2:l<W2.heap.size:=(Array.getElem?_eq_some_iff.1 hL2).1
  have hDlt:D<W2.heap.size:=(Array.getElem?_eq_some_iff.1 hK2).1
  have ne_of:∀ {j:Nat} {o:Obj},W2.heap[j]?=some o→(∀ cur,o≠.cells cur 33 (0,0))→some j≠v.ownBlock:=fun hj hno=>by
    rcases Vc hrow2 hj hno with e | e
    · rw [e]; simp
    · exact fun e'=>e e'.symm
  clear hW2
  unfold Gu
  gi_wp2_with (rw [Oper.semAt_eq _ _ _ (fun c h=>by cases h)]; go_simp; try go_bits)
  unfold B6
  gi_wp2_with (first
    | (gi_at_builtin; refine wpListIn_append_own _ rfl _ _ 38 rfl w0.heap.size 33 i0 (.int .u32 0) 1 4 Tryz.underlying38 hi hz0 hz1 hz2 rfl (by decide) _ _ _ rfl (hrow2.alloc _) ⟨W2.heap.size,0,none⟩ 1 1 [Wj x] rfl rfl (cell_one_new _ _ _) (by simp [Value.oneCell',Wj]) (by omega) (by omega) (by have:=hb2.size; simp; omega) ?_; intro v' w3 hown' hg3 hnil3
       have hv3:w3.heap[Bs]?=some (.cells #[v] 38 (0,0)):=(hg3.block Bs (by simp; omega) (ne_of hv2 (fun cur e=>by first | cases e | exact hne (Obj.cells.inj e).2.1))).trans ((Below.heap_alloc _ _ Bs hBlt).trans hv2)
       obtain ⟨hc3,hf3⟩:=V8 hv3
       obtain ⟨g',cap',cur',rfl,hbase',hgb',hr1,hr2,hr3,hr4⟩:∃ g' cap' cur',v'=.slice (some ⟨g',0,none⟩) (ss.length+1) cap'∧w0.heap.size≤g'∧w3.heap[g']?=some (.cells cur' 33 (0,0))∧ss.length+1≤cap'∧cap'≤maxLen∧cur'.size=cap'*1∧cur'.toList.take ((ss.length+1)*1)=ss.map Wj ++ [Wj x]:=by
         rcases hown'.2 with ⟨_,h0⟩ | h'
         · exact absurd h0 (by omega)
         · exact h'
       go_frame)
    | (rw [Oper.semAt_eq _ _ _ (fun c h=>by cases h)]; go_simp; try go_bits))
  have hg3':(W2.alloc (.cells #[Wj x] 33)).grownBy w3 v.ownBlock:=hg3
  have hL3:w3.heap[l]?=some (.loop { Wo fn sv Bs D .ready none with state:=.busy }):=(hg3'.block l (by simp; omega) (ne_of hL2 (fun cur e=>by first | cases e | exact hne (Obj.cells.inj e).2.1))).trans ((Below.heap_alloc _ _ l hl2).trans hL2)
  have hK3:w3.heap[D]?=some (.deferred (some [])):=(hg3'.block D (by simp; omega) (ne_of hK2 (fun cur e=>by first | cases e | exact hne (Obj.cells.inj e).2.1))).trans ((Below.heap_alloc _ _ D hDlt).trans hK2)
  obtain ⟨w4,hw4⟩:∃ w4,w3.setCell ⟨Bs,0,none⟩ (.slice (some ⟨g',0,none⟩) (ss.length+1) cap')=w4:=⟨_,rfl⟩
  rw [hw4]
  have hg4:w3.grownBy w4 (some Bs):=by rw [← hw4]; exact Zac _ _ _
  have hv4:w4.heap[Bs]?=some (.cells #[.slice (some ⟨g',0,none⟩) (ss.length+1) cap'] 38 (0,0)):=by rw [← hw4]; exact Zaz _ hv3
  have hL4:w4.heap[l]?=some (.loop { Wo fn sv Bs D .ready none with state:=.busy }):=(hg4.block l (Array.getElem?_eq_some_iff.1 hL3).1 (fun e=>hBl (by cases e; rfl))).trans hL3
  have hK4:w4.heap[D]?=some (.deferred (some [])):=(hg4.block D (Array.getElem?_eq_some_iff.1 hK3).1 (fun e=>hDB (by cases e; rfl))).trans hK3
  have hrow4:=hown'.kept hg4 (Vc hown' hv3 (fun cur e=>by first | cases e | exact hne (Obj.cells.inj e).2.1))
  have hl4:l<w4.heap.size:=(Array.getElem?_eq_some_iff.1 hL4).1
  have hb3:Below w0.heap.size w0 w3:=(hb2.alloc hb2.size _).grown hg3' (by have:=hb2.size; simp; omega) (fun k e=>(hrow2.lt k e).1)
  have hb4:Below w0.heap.size w0 w4:=hb3.grown hg4 hb3.size (fun k e=>by cases e; exact h0B)
  have hk4:KeepsWalks W w4:=((hk2.trans (KeepsWalks.alloc _ _)).trans (KeepsWalks.of_grownBy hg3' (Zaj (hrow2.alloc _)))).trans (by rw [← hw4]; exact KeepsWalks.setCell _ _ _)
  clear hw4
  refine ⟨_,_,run_endRound none hL4,rfl,⟨⟨_,(World.putObj_heap_other hBl).trans hv4,?_,by simp⟩,World.putObj_heap_same hl4,(World.putObj_heap_other hDl).trans hK4,hb4.grown (X2 _ _ _) hb4.size (fun k e=>by cases e; exact h0l)⟩,hk4.trans (KeepsWalks.putObj _ hL4 rfl)⟩
  have:=hrow4.kept (X2 w4 l (.loop { { Wo fn sv Bs D .ready none with state:=.busy } with state:=if (none:Option Code).isNone then .ready else .done,pending:=none })) (Vc hrow4 hL4 (fun cur e=>by first | cases e | exact hne (Obj.cells.inj e).2.1))
  simpa using this


set_option maxRecDepth 100000 in
set_option maxHeartbeats 2000000 in
theorem Zcz (F:Fence) (n:Nat) (h11:F.fn 223) (hro:F.round=none) (hn:2≤n) (g:Nat) (lb:Array Value) (hFg:F.fn g) (eg:∀ args w,(callFunc g args).run Tryz.prog w=.ok (.enter g args) w)
    (S:List Int→Prop) (N:Nat) (hN:N≤maxLen) (hNb:N*8≤140737488355328) (w:World) (hseq:SeqGives F (n - 1) Tryz.prog g lb Wj S N w) :
    CallsIn F n Tryz.prog 223 #[.slice none 0 0,.func (.func g) #[] lb] w fun e w'=>∃(v:Value) (ss:TU),e=.returned v∧S ss∧w'.ownsRow w.heap.size 33 1 v ss.length (ss.map Wj)∧(v=.slice none 0 0↔ss=[])∧Below w.heap.size w w':=by
  have h1:1≤n:=by omega
  have hne:38≠33:=fun e=>by have h:=Tryz.underlying38; rw [e,Tryz.underlying33] at h; cases h
  refine callsIn_of_wp_marks Tryz.func223 rfl h11 ?_ hro
  simp only [Tryz.ntmps223,List.size_toArray,List.length_cons,List.length_nil,Nat.reduceAdd,Nat.reduceSub,Array.replicate_succ,Array.replicate_zero,List.push_toArray,List.append_toArray,List.nil_append,List.cons_append]
  gi_wp2
  refine wpIn_rangeFunc ?_
  intro fn hfn
  rw [hro]
  obtain ⟨W0,hW0⟩:∃ W0,w.alloc (.cells #[.slice none 0 0] 38)=W0:=⟨_,rfl⟩
  have hs0:W0.heap.size=w.heap.size+1:=by rw [← hW0]; simp
  have hv0:W0.heap[w.heap.size]?=some (.cells #[.slice none 0 0] 38 (0,0)):=by rw [← hW0]; exact World.alloc_heap_new w _
  have hb0:Below w.heap.size w W0:=by rw [← hW0]; exact (Below.refl _ w).alloc (T6 _) _
  rw [hW0]
  obtain ⟨W1,hW1⟩:∃ W1,(W0.alloc (.deferred (some []))).alloc (.loop (Wo fn (.func (.func g) #[] lb) w.heap.size W0.heap.size .ready none))=W1:=⟨_,rfl⟩
  have hold:∀ k,k<W0.heap.size→W1.heap[k]?=W0.heap[k]?:=fun k hk=>by
    rw [← hW1]; exact (Below.heap_alloc _ _ k (by simp; omega)).trans (Below.heap_alloc _ _ k hk)
  have hb1:Below w.heap.size w W1:=by rw [← hW1]; exact (hb0.alloc hb0.size _).alloc (by have:=hb0.size; simp; omega) _
  have hs1:W1.heap.size=W0.heap.size+2:=by rw [← hW1]; simp
  have hM:it_ApAt w fn (.func (.func g) #[] lb) w.heap.size (W0.heap.size+1) W0.heap.size [] W1:=
    ⟨⟨_,(hold w.heap.size (by omega)).trans hv0,⟨rfl,.inl ⟨rfl,rfl⟩⟩,by simp⟩,
     by rw [← hW1]; have:=World.alloc_heap_new (W0.alloc (.deferred (some []))) (.loop (Wo fn (.func (.func g) #[] lb) w.heap.size W0.heap.size .ready none)); rwa [World.size_alloc] at this,
     by rw [← hW1]; exact (Below.heap_alloc _ _ _ (by simp)).trans (World.alloc_heap_new W0 _),hb1⟩
  refine ⟨W0.heap.size+1,[{ target:=.collected W0.heap.size,args:=#[] }],W1,{ target:=.fn (.func g) lb,args:=#[.func (.yield (W0.heap.size+1)) #[] #[]] },W1,g,
    #[.func (.yield (W0.heap.size+1)) #[] #[]] ++ lb,W1,?_,?_,?_,?_,fun _=>h1,?_⟩
  · rw [← hW1]; exact run_enterLoop_outer _ _ _ _ _
  · simp [resolve,go_sem]
  · intro f' hf'; simp [Target.leads] at hf'; subst hf'; exact hFg
  · simp [invoke,go_sem,eg]
  · refine (hseq (W0.heap.size+1) (it_ApAt w fn (.func (.func g) #[] lb) w.heap.size (W0.heap.size+1) W0.heap.size) W1 hb1 (Zgf _ _ _ _ _ _ _ hb1.size)
      (fun pre x W hJ hl=>Ziz F (n - 1 - 1) w fn hfn _ w.heap.size (W0.heap.size+1) W0.heap.size (by omega) (by omega) (by omega) (T6 _) (by omega) N hN hNb pre x W hJ hl) hM).mono ?_
    rintro e W2 ⟨⟨v0,rfl⟩,ss,hS,h2⟩
    obtain ⟨v,hv,hrow,hnil⟩:=h2.box
    have hend:=run_endLoop (P:=Tryz.prog) h2.L (by simp [Wo])
    obtain ⟨W3,hW3⟩:∃ W3,W2.putObj (W0.heap.size+1) (.loop { Wo fn (.func (.func g) #[] lb) w.heap.size W0.heap.size .ready none with state:=.exhausted })=W3:=⟨_,rfl⟩
    rw [hW3] at hend
    have hg3:W2.grownBy W3 (some (W0.heap.size+1)):=by rw [← hW3]; exact X2 _ _ _
    have hv3:W3.heap[w.heap.size]?=some (.cells #[v] 38 (0,0)):=by rw [← hW3]; exact (World.putObj_heap_other (by omega)).trans hv
    have hK3:W3.heap[W0.heap.size]?=some (.deferred (some [])):=by rw [← hW3]; exact (World.putObj_heap_other (by omega)).trans h2.K
    have hrow3:=hrow.kept hg3 (Vc hrow h2.L (fun cur e=>by first | cases e | exact hne (Obj.cells.inj e).2.1))
    have hb3:Below w.heap.size w W3:=h2.below.grown hg3 h2.below.size (fun k e=>by cases e; omega)
    obtain ⟨hc3,hf3⟩:=V8 hv3
    clear hW3
    refine ⟨none,W3,hend,?_⟩
    gi_wp2
    rw [← hs0]
    refine ⟨by simp,.inl ⟨_,_,rfl,run_takeDeferred hK3,?_⟩⟩
    exact ⟨_,results_tmp rfl _ _ _,v,ss,rfl,hS,hrow3.kept (X2 _ _ _) (Vc hrow3 hK3 (fun cur e=>by first | cases e | exact hne (Obj.cells.inj e).2.1)),hnil,hb3.grown (X2 _ _ _) hb3.size (fun k e=>by cases e; omega)⟩


set_option maxHeartbeats 1000000 in
theorem Zfa (F:Fence) (n:Nat) (h8:F.fn 195) (h11:F.fn 223) (hro:F.round=none) (hn:3≤n) (g:Nat) (lb:Array Value) (hFg:F.fn g) (eg:∀ args w,(callFunc g args).run Tryz.prog w=.ok (.enter g args) w)
    (S:List Int→Prop) (N:Nat) (hN:N≤maxLen) (hNb:N*8≤140737488355328) (w:World) (hseq:SeqGives F (n - 1 - 1) Tryz.prog g lb Wj S N w) :
    CallsIn F n Tryz.prog 195 #[.func (.func g) #[] lb] w fun e w'=>∃(v:Value) (ss:TU),e=.returned v∧S ss∧w'.ownsRow w.heap.size 33 1 v ss.length (ss.map Wj)∧(v=.slice none 0 0↔ss=[])∧Below w.heap.size w w':=by
  have h1:1≤n:=by omega
  have e11:∀ args w,(callFunc 223 args).run Tryz.prog w=.ok (.enter 223 args) w:=enters_of Tryz.func223 (by kernel_rfl) rfl
  refine callsIn_of_wp Tryz.func195 rfl h8 ?_ hro
  simp only [Tryz.ntmps195,List.size_toArray,List.length_cons,List.length_nil,Nat.reduceAdd,Nat.reduceSub,Array.replicate_succ,Array.replicate_zero,List.push_toArray,List.append_toArray,List.nil_append,List.cons_append]
  gi_wp2_with (gi_at_fn 223; refine (Zcz F (n - 1) h11 hro (by omega) g lb hFg eg S N hN hNb _ hseq).mono ?_; rintro e w' ⟨v,ss,rfl,hS,hrow,hnil,hb⟩)
  go_ret
  exact ⟨v,ss,rfl,hS,hrow,hnil,hb⟩


def U7 (es:TJ):Bool:=decide (es.length<200) && (decide (es.map Prod.fst).Nodup && es.all fun p=>(Lit.int .u32 p.1).wf && (Lit.int .i64 p.2).wf)
def Zf6:Value→Int | .int _ a=>a | _=>0
theorem Zjf {P:Program} {k:TypeId} {R:Value→Option (DataW Unit×List MemPlace)} {l:List MapEntry} {ks:TU} (h:l.map (fun x=>intOf (WideElems.rg P k R x).1)=ks):(intKeys (.map ((l.map (WideElems.rg P k R)).foldr DataW.insert []))).Perm ks:=by
  show (((l.map (WideElems.rg P k R)).foldr DataW.insert []).map fun p=>intOf p.1).Perm _
  refine ((WideShapes.sorted_perm _).map _).trans ?_
  rw [List.map_map]
  exact List.Perm.of_eq h
theorem Zjn {P:Program} {k:TypeId} {R:Value→Option (DataW Unit×List MemPlace)} {l:List MapEntry}:Maps.size (DataW.map ((l.map (WideElems.rg P k R)).foldr DataW.insert []))=l.length:=by
  show ((l.map (WideElems.rg P k R)).foldr DataW.insert []).length=_
  rw [length_sorted,List.length_map]
theorem Zjm {w:World} {F:Nat→Prop} {b:Nat} {es:TJ} (h:(Y2 .u32 (Value.int .i64) b es).ok w F) (hok:U7 es=true) :
    ∃ D:DataW Unit,w.ownsMap Tryz.prog 33 (plainElem Tryz.prog 3) b es.length D∧(intKeys D).Perm (es.map Prod.fst)∧Maps.size D=es.length:=by
  obtain ⟨hFb,M,clock,hh,hm,hst⟩:=h
  simp only [U7,Bool.and_eq_true,decide_eq_true_eq,List.all_eq_true] at hok
  obtain ⟨h1,h2,h3⟩:=hok
  have hl:M.toList.length=es.length:=by simpa using congrArg List.length hm
  have hmem:∀ x∈M.toList,∃ p∈es,x.key=.int .u32 p.1∧x.val=.int .i64 p.2:=fun x hx=>by
    have:kv x∈es.map (V3 .u32 (Value.int .i64)):=hm ▸ List.mem_map_of_mem hx
    obtain ⟨p,hp,e⟩:=List.mem_map.1 this
    simp only [V3,kv,Prod.mk.injEq] at e
    exact ⟨p,hp,e.1.symm,e.2.symm⟩
  have hrd:∀ x∈M.toList,∃ y:DataW Unit,WideElems.rd Tryz.prog 33 (plainElem Tryz.prog 3) x=some (.int .u32 (Zf6 x.key),y):=fun x hx=>by
    obtain ⟨p,hp,e1,e2⟩:=hmem x hx
    obtain ⟨g1,g2⟩:=h3 p hp
    refine ⟨.lit (.int .i64 p.2),?_⟩
    unfold WideElems.rd
    rw [e1,keyOf_int_mk Tryz.underlying33 g1,e2,plainElem_int Tryz.underlying3 g2]
    rfl
  have hrg:∀ x∈M.toList,intOf (WideElems.rg (H:=Unit) Tryz.prog 33 (plainElem Tryz.prog 3) x).1=Zf6 x.key:=fun x hx=>by
    obtain ⟨y,hy⟩:=hrd x hx
    rw [WideElems.rg_of hy]; rfl
  have hmap:M.toList.map (fun x=>intOf (WideElems.rg (H:=Unit) Tryz.prog 33 (plainElem Tryz.prog 3) x).1)=es.map Prod.fst:=by
    have e1:M.toList.map (fun x=>intOf (WideElems.rg (H:=Unit) Tryz.prog 33 (plainElem Tryz.prog 3) x).1)=M.toList.map (fun x=>Zf6 x.key):=List.map_congr_left hrg
    rw [e1]
    have:=congrArg (List.map fun p:Value×Value=>Zf6 p.1) hm
    simpa [List.map_map,Function.comp_def,kv,V3,Zf6] using this
  refine ⟨.map ((M.toList.map (WideElems.rg Tryz.prog 33 (plainElem Tryz.prog 3))).foldr DataW.insert []),⟨M,clock,hh,⟨?_,⟨hst.1,hst.2,?_⟩,fun x hx=>?_⟩,?_,rfl⟩,?_,?_⟩
  · have:M.size=es.length:=by simpa using hl
    rw [this]
    have:(200:Nat)≤maxLen:=by unfold maxLen; omega
    omega
  · have e:M.toList.map (·.key)=(es.map Prod.fst).map (Value.int .u32):=by
      have:=congrArg (List.map Prod.fst) hm
      simpa [List.map_map,Function.comp_def,kv,V3] using this
    rw [e]
    exact List.Pairwise.map _ (fun a b hne e=>hne (by simpa using e)) h2
  · obtain ⟨y,hy⟩:=hrd x hx
    exact ⟨_,hy⟩
  · have:M.size=es.length:=by simpa using hl
    omega
  · exact Zjf hmap
  · rw [Zjn]; exact hl
theorem Zh6:∀ ss:List Int,ss.map Wj=ss.flatMap (Ty.int .u32).enc
  | []=>rfl
  | x :: l=>by rw [List.map_cons,List.flatMap_cons,Zh6 l]; rfl
theorem collect.spec {kb mb:Nat} {es:TJ} (hok:U7 es=true):Spec Tryz.prog 195 [.func (.func 197) #[] #[.pointer (some ⟨kb,0,none⟩)]] [Ys kb 165 [.map (some mb)],Y2 .u32 (Value.int .i64) mb es] []
    (fun v l=>∃(ss:TU) (A:Option Addr) (c:Nat),ss.Perm (es.map Prod.fst)∧v=.slice A ss.length c∧l=[Yh 33 (.int .u32) ss (.slice A ss.length c),Ys kb 165 [.map (some mb)],Y2 .u32 (Value.int .i64) mb es]):=by
  refine ⟨⟨_,Tryz.func195,by kernel_rfl,by kernel_rfl⟩,fun w F hF hlt hR=>?_⟩
  have hF0:=hF
  obtain ⟨F1,F2,h1,⟨F3,F4,h2,_,h3,h4⟩,h5,h6⟩:=hF
  obtain ⟨D,hown,hperm,hsize⟩:=Zjm h2 hok
  have hcell:=(V8 h1.2).1
  have hl:es.length<200:=by
    simp only [U7,Bool.and_eq_true,decide_eq_true_eq] at hok
    exact hok.1
  have hmax:(200:Nat)≤maxLen:=by unfold maxLen; omega
  have hseq:=Zfc (H:=Unit) Fence.wide 1 trivial rfl (by omega) kb mb es.length D w (hlt kb (h5 kb h1.1).1) hcell hown
  have hc:=Zfa Fence.wide 3 trivial trivial rfl (by omega) 197 #[.pointer (some ⟨kb,0,none⟩)] trivial (enters_of Tryz.func197 (by kernel_rfl) rfl) _ (Maps.size D) (by omega) (by omega) w hseq
  refine (callsIn_wide.1 hc).mono ?_
  rintro e w' ⟨v,ss,rfl,hS,hrow,hnil,hb⟩
  have hst:∀ b,F b→w'.heap[b]?=w.heap[b]?:=fun b hb'=>hb.block b (hlt b hb')
  have hsat:=SatH.stable hst hF0
  obtain ⟨A,c,rfl⟩:∃ A c,v=.slice A ss.length c:=by
    rcases hrow.2 with ⟨rfl,hz⟩ | ⟨g,cap,cur,rfl,_⟩
    · exact ⟨none,0,by rw [hz]⟩
    · exact ⟨_,_,rfl⟩
  refine ⟨_,_,fun b=>(∃ g,A=some ⟨g,0,none⟩∧g=b)∨F b,rfl,⟨ss,A,c,hS.trans hperm,rfl,rfl⟩,Chg.of_below hb F,?_,?_⟩
  · refine ⟨fun b=>∃ g,A=some ⟨g,0,none⟩∧g=b,F,⟨ss.map Wj,fun _=>False,?_,?_,fun b hb=>hb.elim,fun b hb'=>?_⟩,hsat,fun b hb'=>⟨.inl hb',?_⟩,fun b hb'=>.inr hb'⟩
    · refine ⟨hrow.1,hrow.2.imp id ?_⟩
      rintro ⟨g,cap,cur,e,_,hh,r⟩
      exact ⟨g,cap,cur,e,Nat.zero_le _,hh,r⟩
    · rw [Zh6]
      exact Elems.scal (t:=.int .u32) rfl _ _ ss
    · rcases hrow.2 with ⟨e,hz⟩ | ⟨g,cap,cur,e,_⟩
      · rw [Value.slice.injEq] at e
        obtain ⟨rfl,_,_⟩:=e
        cases hb'
      · rw [Value.slice.injEq] at e
        obtain ⟨rfl,_,_⟩:=e
        simp only [Value.ownBlock,Option.some.injEq] at hb'
        exact ⟨⟨g,rfl,hb'⟩,fun e=>e⟩
    · obtain ⟨g,rfl,rfl⟩:=hb'
      rcases hrow.2 with ⟨e,hz⟩ | ⟨g',cap,cur,e,hge,_⟩
      · cases e
      · rw [Value.slice.injEq,Option.some.injEq,Addr.mk.injEq] at e
        obtain ⟨⟨rfl,_⟩,_⟩:=e
        intro hF'
        have:=hlt _ hF'
        omega
  · rintro b (⟨g,rfl,rfl⟩ | hb')
    · rcases hrow.2 with ⟨e,hz⟩ | ⟨g',cap,cur,e,hge,hh,_⟩
      · cases e
      · rw [Value.slice.injEq,Option.some.injEq,Addr.mk.injEq] at e
        obtain ⟨⟨rfl,_⟩,_⟩:=e
        exact ⟨.inr hge,(Array.getElem?_eq_some_iff.1 hh).1⟩
    · exact ⟨.inl hb',Nat.lt_of_lt_of_le (hlt b hb') hb.size⟩
end Go.SK.T
