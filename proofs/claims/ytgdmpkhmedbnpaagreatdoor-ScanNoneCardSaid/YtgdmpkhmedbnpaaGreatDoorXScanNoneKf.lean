/- Part of the library of this claim: how code is stepped through. -/
import Derived.Test.YtgdmpkhmedbnpaaGreatDoorXScanNoneKe
set_option linter.unusedVariables false
set_option linter.unusedSimpArgs false
namespace Go.SK
open Go Go.RowKit

structure Ch where
  ok:World→(Nat→Prop)→Prop
  stable:∀ {w w':World} {F:Nat→Prop},(∀ b,F b→w'.heap[b]?=w.heap[b]?)→ok w F→ok w' F

def SatH:List Ch→World→(Nat→Prop)→Prop
  | [],_,_=>True
  | c :: cs,w,F=>∃ F1 F2,c.ok w F1∧SatH cs w F2∧(∀ b,F1 b→F b∧¬ F2 b)∧(∀ b,F2 b→F b)
theorem SatH.stable:∀ {Hs:List Ch} {w w':World} {F:Nat→Prop},(∀ b,F b→w'.heap[b]?=w.heap[b]?)→SatH Hs w F→SatH Hs w' F
  | [],_,_,_,_,_=>trivial
  | c :: cs,w,w',F,h,⟨F1,F2,h1,h2,h3,h4⟩=>⟨F1,F2,c.stable (fun b hb=>h b (h3 b hb).1) h1,SatH.stable (fun b hb=>h b (h4 b hb)) h2,h3,h4⟩
theorem SatH.mono:∀ {Hs:List Ch} {w:World} {F F':Nat→Prop},(∀ b,F b→F' b)→SatH Hs w F→SatH Hs w F'
  | [],_,_,_,_,_=>trivial
  | _ :: _,_,_,_,h,⟨F1,F2,h1,h2,h3,h4⟩=>⟨F1,F2,h1,h2,fun b hb=>⟨h b (h3 b hb).1,(h3 b hb).2⟩,fun b hb=>h b (h4 b hb)⟩
theorem SatH.join:∀ {Hs Gs:List Ch} {w:World} {F G:Nat→Prop},SatH Hs w F→SatH Gs w G→(∀ b,F b→¬ G b)→SatH (Hs ++ Gs) w (fun b=>F b∨G b)
  | [],_,_,_,_,_,h,_=>h.mono fun b hb=>.inr hb
  | c :: cs,Gs,w,F,G,⟨F1,F2,h1,h2,h3,h4⟩,h,hd=>⟨F1,fun b=>F2 b∨G b,h1,SatH.join h2 h (fun b hb=>hd b (h4 b hb)),
      fun b hb=>⟨.inl (h3 b hb).1,fun e=>e.elim (h3 b hb).2 (hd b (h3 b hb).1)⟩,fun b hb=>hb.imp (h4 b) id⟩
theorem SatH.out:∀ {Hs:List Ch} {w:World} {F:Nat→Prop} {k:Nat} {c:Ch},SatH Hs w F→nth Hs k=some c→
    ∃ F1 F2,c.ok w F1∧SatH (Hs.eraseIdx k) w F2∧(∀ b,F1 b→F b∧¬ F2 b)∧(∀ b,F2 b→F b)
  | [],_,_,_,_,_,hk=>by cases hk
  | d :: cs,w,F,0,c,⟨F1,F2,h1,h2,h3,h4⟩,hk=>by
    simp only [nth,Option.some.injEq] at hk
    subst hk
    exact ⟨F1,F2,h1,h2,h3,h4⟩
  | d :: cs,w,F,k+1,c,⟨F1,F2,h1,h2,h3,h4⟩,hk=>by
    obtain ⟨G1,G2,g1,g2,g3,g4⟩:=SatH.out h2 (k:=k) hk
    exact ⟨G1,fun b=>F1 b∨G2 b,g1,⟨F1,G2,h1,g2,fun b hb=>⟨.inl hb,fun e=>(h3 b hb).2 (g4 b e)⟩,fun b hb=>.inr hb⟩,
      fun b hb=>⟨h4 b (g3 b hb).1,fun e=>e.elim (fun e=>(h3 b e).2 (g3 b hb).1) (g3 b hb).2⟩,fun b hb=>hb.elim (fun e=>(h3 b e).1) (fun e=>h4 b (g4 b e))⟩
theorem SatH.at:∀ {Hs:List Ch} {w:World} {F:Nat→Prop} {k:Nat} {c:Ch},SatH Hs w F→nth Hs k=some c→∃ F1,c.ok w F1∧∀ b,F1 b→F b:=fun h hk=>by
  obtain ⟨F1,F2,h1,_,h3,_⟩:=h.out hk
  exact ⟨F1,h1,fun b hb=>(h3 b hb).1⟩
def pick:List Nat→List Ch→Option (List Ch×List Ch)
  | [],Hs=>some ([],Hs)
  | k :: ks,Hs=>match nth Hs k with
    | some c=>match pick ks (Hs.eraseIdx k) with
      | some (ps,rest)=>some (c :: ps,rest)
      | none=>none
    | none=>none
theorem SatH.pick:∀ {ks:List Nat} {Hs ps rest:List Ch} {w:World} {F:Nat→Prop},SatH Hs w F→SK.pick ks Hs=some (ps,rest)→
    ∃ F1 F2,SatH ps w F1∧SatH rest w F2∧(∀ b,F1 b→F b∧¬ F2 b)∧(∀ b,F2 b→F b)
  | [],Hs,ps,rest,w,F,h,hp=>by
    simp only [SK.pick,Option.some.injEq,Prod.mk.injEq] at hp
    obtain ⟨rfl,rfl⟩:=hp
    exact ⟨fun _=>False,F,trivial,h,fun b hb=>hb.elim,fun b hb=>hb⟩
  | k :: ks,Hs,ps,rest,w,F,h,hp=>by
    simp only [SK.pick] at hp
    split at hp
    · rename_i c hk
      split at hp
      · rename_i ps' rest' hp'
        simp only [Option.some.injEq,Prod.mk.injEq] at hp
        obtain ⟨rfl,rfl⟩:=hp
        obtain ⟨F1,F2,h1,h2,h3,h4⟩:=h.out hk
        obtain ⟨G1,G2,g1,g2,g3,g4⟩:=SatH.pick h2 hp'
        exact ⟨fun b=>F1 b∨G1 b,G2,⟨F1,G1,h1,g1,fun b hb=>⟨.inl hb,fun e=>(h3 b hb).2 (g3 b e).1⟩,fun b hb=>.inr hb⟩,g2,
          fun b hb=>⟨hb.elim (fun e=>(h3 b e).1) (fun e=>h4 b (g3 b e).1),fun e=>hb.elim (fun e'=>(h3 b e').2 (g4 b e)) (fun e'=>(g3 b e').2 e)⟩,fun b hb=>h4 b (g4 b hb)⟩
      · cases hp
    · cases hp

structure Chg (w w':World) (F:Nat→Prop):Prop where
  os:w'.os=w.os
  tape:w'.tape=w.tape
  output:w'.output=w.output
  size:w.heap.size≤w'.heap.size
  block:∀ b,b<w.heap.size→¬ F b→w'.heap[b]?=w.heap[b]?
theorem Chg.refl (w:World) (F:Nat→Prop):Chg w w F:=⟨rfl,rfl,rfl,Nat.le_refl _,fun _ _ _=>rfl⟩
theorem Chg.mono {w w':World} {F F':Nat→Prop} (h:Chg w w' F) (hF:∀ b,F b→F' b):Chg w w' F':=⟨h.os,h.tape,h.output,h.size,fun b hb hn=>h.block b hb fun e=>hn (hF b e)⟩
theorem Chg.trans {w w1 w2:World} {F F1:Nat→Prop} (h:Chg w w1 F) (k:Chg w1 w2 F1) (hF:∀ b,F1 b→F b∨w.heap.size≤b):Chg w w2 F:=
  ⟨k.os.trans h.os,k.tape.trans h.tape,k.output.trans h.output,Nat.le_trans h.size k.size,fun b hb hn=>(k.block b (Nat.lt_of_lt_of_le hb h.size) fun e=>(hF b e).elim hn (by omega)).trans (h.block b hb hn)⟩
theorem Chg.below {w w':World} (h:Chg w w' (fun _=>False)):Below w.heap.size w w':=⟨h.os,h.tape,h.output,h.size,fun b hb=>h.block b hb (fun e=>e)⟩
theorem Chg.of_below {w w':World} (h:Below w.heap.size w w') (F:Nat→Prop):Chg w w' F:=⟨h.os,h.tape,h.output,h.size,fun b hb _=>h.block b hb⟩
theorem Chg.drew (w:World) (F:Nat→Prop):Chg w { w with drawn:=w.drawn+1 } F:=⟨rfl,rfl,rfl,Nat.le_refl _,fun _ _ _=>rfl⟩
theorem Chg.of_grown {w w':World} {row:Option Nat} (h:w.grownBy w' row) {F:Nat→Prop} (hF:∀ b,row=some b→F b):Chg w w' F:=
  ⟨h.os,h.tape,h.output,h.size,fun b hb hn=>h.block b hb fun e=>hn (hF b e.symm)⟩
theorem Chg.alloc (w:World) (o:Obj) (F:Nat→Prop):Chg w (w.alloc o) F:=Chg.of_below ((Below.refl _ _).alloc (Nat.le_refl _) o) F
structure Ft where
  own:Nat→Prop
  rd:Nat→Prop
def Ft.has (F0:Ft) (w0:World) (b:Nat):Prop:=F0.rd b∨F0.own b∨w0.heap.size≤b
structure St (w0:World) (F0:Ft) (Hs Rs:List Ch) (w:World):Prop where
  chg:Chg w0 w F0.own
  sat:∃ F,SatH Hs w F∧(∀ b,F b→b<w.heap.size∧(F0.own b∨w0.heap.size≤b))∧∀ c∈Rs,∃ R,c.ok w R∧∀ b,R b→(b<w.heap.size∧¬ F b)∧F0.has w0 b

def Gives (l:List Ch) (c:Ch):Prop:=∃ c'∈l,∀ w F,c'.ok w F→c.ok w F
theorem Gives.self {l:List Ch} {c:Ch} (k:Nat) (h:nth l k=some c):Gives l c:=⟨c,by rw [Yu] at h; exact List.mem_of_getElem? h,fun _ _ h=>h⟩
theorem Gives.of {l:List Ch} {c c':Ch} (k:Nat) (h:nth l k=some c') (hc:∀ w F,c'.ok w F→c.ok w F):Gives l c:=⟨c',by rw [Yu] at h; exact List.mem_of_getElem? h,hc⟩

section
variable {w0 w:World} {F0:Ft} {Hs Rs:List Ch}
theorem SatH.mem:∀ {Hs:List Ch} {w:World} {F:Nat→Prop} {c:Ch},SatH Hs w F→c∈Hs→∃ F1,c.ok w F1∧∀ b,F1 b→F b
  | [],_,_,_,_,h=>by cases h
  | d :: cs,w,F,c,⟨F1,F2,h1,h2,h3,h4⟩,h=>by
    rcases List.mem_cons.1 h with rfl | h
    · exact ⟨F1,h1,fun b hb=>(h3 b hb).1⟩
    · obtain ⟨G,g,hG⟩:=SatH.mem h2 h
      exact ⟨G,g,fun b hb=>h4 b (hG b hb)⟩
theorem St.step (h:St w0 F0 Hs Rs w) {ks:List Nat} {pre rest:List Ch} (hp:pick ks Hs=some (pre,rest)) :
    ∃ F,SatH pre w F∧(∀ b,F b→b<w.heap.size)∧(∀ c,Gives (rest ++ Rs) c→∃ R,c.ok w R∧∀ b,R b→b<w.heap.size∧¬ F b)∧
      ∀ w' post F',Chg w w' F→SatH post w' F'→(∀ b,F' b→(F b∨w.heap.size≤b)∧b<w'.heap.size)→St w0 F0 (post ++ rest) Rs w':=by
  obtain ⟨F,hF,hb,hR⟩:=h.sat
  obtain ⟨F1,F2,h1,h2,h3,h4⟩:=hF.pick hp
  refine ⟨F1,h1,fun b hb'=>(hb b (h3 b hb').1).1,?_,?_⟩
  · rintro c ⟨c',hm,hc⟩
    rcases List.mem_append.1 hm with hm | hm
    · obtain ⟨G,g,hG⟩:=h2.mem hm
      exact ⟨G,hc _ _ g,fun b hb'=>⟨(hb b (h4 b (hG b hb'))).1,fun e=>(h3 b e).2 (hG b hb')⟩⟩
    · obtain ⟨R,r,hRb⟩:=hR c' hm
      exact ⟨R,hc _ _ r,fun b hb'=>⟨(hRb b hb').1.1,fun e=>(hRb b hb').1.2 (h3 b e).1⟩⟩
  · intro w' post F' hchg hpost hF'
    have hsame:∀ b,F2 b→w'.heap[b]?=w.heap[b]?:=fun b hb'=>hchg.block b (hb b (h4 b hb')).1 fun e=>(h3 b e).2 hb'
    refine ⟨h.chg.trans hchg fun b hb'=>(hb b (h3 b hb').1).2,fun b=>F' b∨F2 b,SatH.join hpost (h2.stable hsame) ?_,?_,?_⟩
    · intro b hb' e
      rcases (hF' b hb').1 with q | q
      · exact (h3 b q).2 e
      · have:=(hb b (h4 b e)).1; omega
    · intro b hb'
      rcases hb' with q | q
      · refine ⟨(hF' b q).2,?_⟩
        rcases (hF' b q).1 with q' | q'
        · exact (hb b (h3 b q').1).2
        · exact .inr (Nat.le_trans h.chg.size q')
      · exact ⟨Nat.lt_of_lt_of_le (hb b (h4 b q)).1 hchg.size,(hb b (h4 b q)).2⟩
    · intro c hc
      obtain ⟨R,r,hRb⟩:=hR c hc
      have hnF:∀ b,R b→¬ F1 b:=fun b hb' e=>(hRb b hb').1.2 (h3 b e).1
      refine ⟨R,c.stable (fun b hb'=>hchg.block b (hRb b hb').1.1 (hnF b hb')) r,fun b hb'=>⟨⟨Nat.lt_of_lt_of_le (hRb b hb').1.1 hchg.size,fun e=>?_⟩,(hRb b hb').2⟩⟩
      rcases e with e | e
      · rcases (hF' b e).1 with q | q
        · exact hnF b hb' q
        · have:=(hRb b hb').1.1; omega
      · exact (hRb b hb').1.2 (h4 b e)
theorem St.add (h:St w0 F0 Hs Rs w) {w':World} {c:Ch} {F':Nat→Prop} (hchg:Chg w w' (fun _=>False)) (hc:c.ok w' F') (hF:∀ b,F' b→w.heap.size≤b∧b<w'.heap.size):St w0 F0 (c :: Hs) Rs w':=by
  obtain ⟨F,_,_,_,hk⟩:=h.step (ks:=[]) rfl
  exact hk w' [c] F' (hchg.mono fun b hb=>hb.elim) ⟨F',fun _=>False,hc,trivial,fun b hb=>⟨hb,fun e=>e⟩,fun b hb=>hb.elim⟩ (fun b hb=>⟨.inr (hF b hb).1,(hF b hb).2⟩)
theorem St.same (h:St w0 F0 Hs Rs w) {w':World} (hchg:Chg w w' (fun _=>False)):St w0 F0 Hs Rs w':=by
  obtain ⟨F,_,_,_,hk⟩:=h.step (ks:=[]) rfl
  exact hk w' [] (fun _=>False) (hchg.mono fun b hb=>hb.elim) trivial (fun b hb=>hb.elim)
theorem St.drew (h:St w0 F0 Hs Rs w):St w0 F0 Hs Rs { w with drawn:=w.drawn+1 }:=h.same (Chg.drew w _)
theorem St.turn (h:St w0 F0 Hs Rs w) {k:Nat} {c:Ch} (hk:nth Hs k=some c) :
    ∃ F,c.ok w F∧(∀ b,F b→b<w.heap.size)∧∀ w' c' F',Chg w w' F→c'.ok w' F'→(∀ b,F' b→(F b∨w.heap.size≤b)∧b<w'.heap.size)→St w0 F0 (c' :: Hs.eraseIdx k) Rs w':=by
  have hp:pick [k] Hs=some ([c],Hs.eraseIdx k):=by simp [pick,hk]
  obtain ⟨F,⟨F1,F2,h1,_,h3,_⟩,hb,_,hs⟩:=h.step hp
  exact ⟨F1,h1,fun b hb'=>hb b (h3 b hb').1,fun w' c' F' hchg hc hF'=>hs w' [c'] F' (hchg.mono fun b hb'=>(h3 b hb').1)
    ⟨F',fun _=>False,hc,trivial,fun b hb'=>⟨hb',fun e=>e⟩,fun b hb'=>hb'.elim⟩ (fun b hb'=>⟨(hF' b hb').1.imp (fun e=>(h3 b e).1) id,(hF' b hb').2⟩)⟩
theorem St.own (h:St w0 F0 Hs Rs w) {k:Nat} {c:Ch} (hk:nth Hs k=some c):∃ F,c.ok w F∧∀ b,F b→b<w.heap.size:=by
  obtain ⟨F,h1,h2,_⟩:=h.turn hk
  exact ⟨F,h1,h2⟩
theorem St.rd (h:St w0 F0 Hs Rs w) {k:Nat} {c:Ch} (hk:nth Rs k=some c):∃ F,c.ok w F∧∀ b,F b→b<w.heap.size:=by
  obtain ⟨F,hF,hb,hR⟩:=h.sat
  rw [Yu] at hk
  obtain ⟨R,r,hRb⟩:=hR c (List.mem_of_getElem? hk)
  exact ⟨R,r,fun b hb'=>(hRb b hb').1.1⟩
theorem St.gives (h:St w0 F0 Hs Rs w) {c:Ch} (hc:Gives (Hs ++ Rs) c):∃ F,c.ok w F∧∀ b,F b→b<w.heap.size:=by
  obtain ⟨F,_,_,hg,_⟩:=h.step (ks:=[]) rfl
  obtain ⟨R,r,hb⟩:=hg c hc
  exact ⟨R,r,fun b hb'=>(hb b hb').1⟩
theorem St.read (h:St w0 F0 Hs Rs w) {c:Ch} {k:Nat} {c0:Ch} (hk:nth Rs k=some c0) (hc:∀ w F,c0.ok w F→c.ok w F):St w0 F0 Hs (c :: Rs) w:=by
  obtain ⟨F,hF,hb,hR⟩:=h.sat
  refine ⟨h.chg,F,hF,hb,fun d hd=>?_⟩
  rcases List.mem_cons.1 hd with rfl | hd
  · rw [Yu] at hk
    obtain ⟨R,r,hRb⟩:=hR c0 (List.mem_of_getElem? hk)
    exact ⟨R,hc _ _ r,hRb⟩
  · exact hR d hd
theorem St.freeze (h:St w0 F0 Hs Rs w) {k:Nat} {c c':Ch} (hk:nth Hs k=some c) (hc:∀ w F,c.ok w F→c'.ok w F):St w0 F0 (Hs.eraseIdx k) (c' :: Rs) w:=by
  obtain ⟨F,hF,hb,hR⟩:=h.sat
  obtain ⟨F1,F2,h1,h2,h3,h4⟩:=hF.out hk
  refine ⟨h.chg,F2,h2,fun b hb'=>hb b (h4 b hb'),fun d hd=>?_⟩
  rcases List.mem_cons.1 hd with rfl | hd
  · exact ⟨F1,hc _ _ h1,fun b hb'=>⟨⟨(hb b (h3 b hb').1).1,(h3 b hb').2⟩,.inr (hb b (h3 b hb').1).2⟩⟩
  · obtain ⟨R,r,hRb⟩:=hR d hd
    exact ⟨R,r,fun b hb'=>⟨⟨(hRb b hb').1.1,fun e=>(hRb b hb').1.2 (h4 b e)⟩,(hRb b hb').2⟩⟩
theorem St.only (h:St w0 F0 Hs Rs w) (ks:List Nat) {ps rest:List Ch} (hp:pick ks Hs=some (ps,rest)):St w0 F0 ps Rs w:=by
  obtain ⟨F,hF,hb,hR⟩:=h.sat
  obtain ⟨F1,F2,h1,h2,h3,h4⟩:=hF.pick hp
  exact ⟨h.chg,F1,h1,fun b hb'=>hb b (h3 b hb').1,fun d hd=>by
    obtain ⟨R,r,hRb⟩:=hR d hd
    exact ⟨R,r,fun b hb'=>⟨⟨(hRb b hb').1.1,fun e=>(hRb b hb').1.2 (h3 b e).1⟩,(hRb b hb').2⟩⟩⟩
theorem St.reads (h:St w0 F0 Hs Rs w) (Rs':List Ch) (hs:∀ c∈Rs',c∈Rs):St w0 F0 Hs Rs' w:=by
  obtain ⟨F,hF,hb,hR⟩:=h.sat
  exact ⟨h.chg,F,hF,hb,fun d hd=>hR d (hs d hd)⟩
end

def Zbb (P : Program) (f : Nat) : Prop := ∃ fn, P.funcs[f]? = some fn ∧ (fn.name == "runtime.NumGoroutine") = false ∧ fn.body.isNone = false
def Spec (P:Program) (f:Nat) (args:List Value) (pre rd:List Ch) (Post:Value→List Ch→Prop):Prop:=
  Zbb P f∧∀ w F,SatH pre w F→(∀ b,F b→b<w.heap.size)→(∀ c∈rd,∃ R,c.ok w R∧∀ b,R b→b<w.heap.size∧¬ F b)→
    Calls P f args.toArray w fun e w'=>∃ v post F',e=.returned v∧Post v post∧Chg w w' F∧SatH post w' F'∧∀ b,F' b→(F b∨w.heap.size≤b)∧b<w'.heap.size
theorem Ud {P:Program} {f:Nat} (h:Zbb P f) (args:Array Value) (w:World):(callFunc f args).run P w=.ok (.enter f args) w:=by
  obtain ⟨fn,hf,hn,hb⟩:=h
  have hn' : ¬ fn.name = "runtime.NumGoroutine" := by simpa using hn
  have hb':¬ fn.body=none:=by intro e; rw [e] at hb; cases hb
  simp [callFunc,hf,hn',hb']
theorem Spec.mono {P:Program} {f:Nat} {args:List Value} {pre rd:List Ch} {Post Post':Value→List Ch→Prop} (h:Spec P f args pre rd Post) (hp:∀ v l,Post v l→Post' v l):Spec P f args pre rd Post':=
  ⟨h.1,fun w F h1 h2 h3=>(h.2 w F h1 h2 h3).mono fun e w' ⟨v,post,F',e1,e2,r⟩=>⟨v,post,F',e1,hp _ _ e2,r⟩⟩

def Uo (env:Env):List ResultVar→Option (List Value)
  | []=>some []
  | .tmp t :: r=>match X2 env t,Uo env r with | some v,some vs=>some (v :: vs) | _,_=>none
  | .cell _ _ :: _=>none
def Ul:List Value→Value | [v]=>v | vs=>.tuple vs.toArray
def Zcv (P:Program) (fn:Func) (w0:World) (F0:Ft) (Post:Value→List Ch→Prop):Xd
  | .ret,env,w | .normal,env,w=>∃ v post Rs,(∀ n a,Fr n env a→(results fn a.tmps).run P w=.ok v w)∧Post v post∧St w0 F0 post Rs w
  | _,_,_=>False

def Wz:Nat→List Value→Env
  | _,[]=>[]
  | k,v :: vs=>(k,v) :: Wz (k+1) vs
theorem V6:∀(vs:List Value) (k t:Nat) (v:Value),X2 (Wz k vs) t=some v→k≤t∧vs[t - k]?=some v
  | [],k,t,v,h=>by cases h
  | u :: vs,k,t,v,h=>by
    simp only [Wz,X2] at h
    cases hb:Nat.beq k t with
    | true=>
      rw [hb] at h
      have:=Nat.eq_of_beq_eq_true hb
      subst this
      simp only [cond_true,Option.some.injEq] at h
      subst h
      exact ⟨Nat.le_refl _,by simp⟩
    | false=>
      rw [hb] at h
      obtain ⟨h1,h2⟩:=V6 vs (k+1) t v h
      refine ⟨by omega,?_⟩
      rw [show t - k=(t - (k+1))+1 from by omega]
      simpa using h2
theorem Spec.enter {P:Program} {f:Nat} {fn:Func} {c:Code} {args:List Value} {pre rd:List Ch} {Post:Value→List Ch→Prop}
    (hf : P.funcs[f]? = some fn) (hb : fn.body = some c) (hn : (fn.name == "runtime.NumGoroutine") = false) (hs : Nat.ble args.length fn.ntmps = true)
    (h:∀ w0 F0,St w0 F0 pre rd w0→J P fn.ntmps c (Zcv P fn w0 F0 Post) (Wz 0 args) w0):Spec P f args pre rd Post:=by
  refine ⟨⟨fn,hf,hn,by simp [hb]⟩,fun w F hF hlt hR=>?_⟩
  have hst:St w ⟨F,fun b=>b<w.heap.size∧¬ F b⟩ pre rd w:=⟨Chg.refl _ _,F,hF,fun b hb=>⟨hlt b hb,.inl hb⟩,fun c hc=>by
    obtain ⟨R,r,hRb⟩:=hR c hc
    exact ⟨R,r,fun b hb=>⟨hRb b hb,.inl (hRb b hb)⟩⟩⟩
  have hj:=h w _ hst
  refine calls_of_wp hf hb ?_
  have hsz:args.length≤fn.ntmps:=Nat.le_of_ble_eq_true hs
  refine hj.go _ _ ⟨by simp; omega,rfl,fun t v hl=>?_⟩ fun e env a w' hfr hp=>?_
  · obtain ⟨_,hv⟩:=V6 args 0 t v hl
    simp only [Nat.sub_zero] at hv
    have hlt:t<args.length:=(List.getElem?_eq_some_iff.1 hv).1
    simpa [Array.getElem?_append,hlt] using hv
  · cases e <;> simp only [Zcv] at hp <;> first
      | exact hp.elim
      | (obtain ⟨v,post,Rs,hres,hpost,hst⟩:=hp
         obtain ⟨F',hF',hb',_⟩:=hst.sat
         exact ⟨hfr.defers,v,hres _ _ hfr,v,post,F',rfl,hpost,hst.chg,hF',fun b hb=>⟨(hb' b hb).2,(hb' b hb).1⟩⟩)

def SpecA (P:Program) (f:Nat) (args:List Value) (pre rd:List Ch) (Post:Value→List Ch→List Ch→Prop):Prop:=
  Zbb P f∧∀ w F (RR:Nat→Prop),SatH pre w F→(∀ b,F b→b<w.heap.size)→(∀ b,RR b→b<w.heap.size∧¬ F b)→(∀ c∈rd,∃ R,c.ok w R∧∀ b,R b→RR b)→
    Calls P f args.toArray w fun e w'=>∃ v post rp F',e=.returned v∧Post v post rp∧Chg w w' F∧SatH post w' F'∧(∀ b,F' b→(F b∨w.heap.size≤b)∧b<w'.heap.size)∧
      ∀ c∈rp,∃ R,c.ok w' R∧∀ b,R b→(b<w'.heap.size∧¬ F' b)∧(RR b∨F b∨w.heap.size≤b)
def Zb4 (P:Program) (fn:Func) (w0:World) (F0:Ft) (Post:Value→List Ch→List Ch→Prop):Xd
  | .ret,env,w | .normal,env,w=>∃ v post rp,(∀ n a,Fr n env a→(results fn a.tmps).run P w=.ok v w)∧Post v post rp∧St w0 F0 post rp w
  | _,_,_=>False
theorem SpecA.enter {P:Program} {f:Nat} {fn:Func} {c:Code} {args:List Value} {pre rd:List Ch} {Post:Value→List Ch→List Ch→Prop}
    (hf : P.funcs[f]? = some fn) (hb : fn.body = some c) (hn : (fn.name == "runtime.NumGoroutine") = false) (hs : Nat.ble args.length fn.ntmps = true)
    (h:∀ w0 F0,St w0 F0 pre rd w0→J P fn.ntmps c (Zb4 P fn w0 F0 Post) (Wz 0 args) w0):SpecA P f args pre rd Post:=by
  refine ⟨⟨fn,hf,hn,by simp [hb]⟩,fun w F RR hF hlt hRR hR=>?_⟩
  have hst:St w ⟨F,RR⟩ pre rd w:=⟨Chg.refl _ _,F,hF,fun b hb=>⟨hlt b hb,.inl hb⟩,fun c hc=>by
    obtain ⟨R,r,hRb⟩:=hR c hc
    exact ⟨R,r,fun b hb=>⟨hRR b (hRb b hb),.inl (hRb b hb)⟩⟩⟩
  have hj:=h w _ hst
  refine calls_of_wp hf hb ?_
  have hsz:args.length≤fn.ntmps:=Nat.le_of_ble_eq_true hs
  refine hj.go _ _ ⟨by simp; omega,rfl,fun t v hl=>?_⟩ fun e env a w' hfr hp=>?_
  · obtain ⟨_,hv⟩:=V6 args 0 t v hl
    simp only [Nat.sub_zero] at hv
    have hlt:t<args.length:=(List.getElem?_eq_some_iff.1 hv).1
    simpa [Array.getElem?_append,hlt] using hv
  · cases e <;> simp only [Zb4] at hp <;> first
      | exact hp.elim
      | (obtain ⟨v,post,rp,hres,hpost,hst⟩:=hp
         obtain ⟨F',hF',hb',hrp⟩:=hst.sat
         exact ⟨hfr.defers,v,hres _ _ hfr,v,post,rp,F',rfl,hpost,hst.chg,hF',fun b hb=>⟨(hb' b hb).2,(hb' b hb).1⟩,hrp⟩)
theorem St.stepA {w0 w:World} {F0:Ft} {Hs Rs:List Ch} (h:St w0 F0 Hs Rs w) {ks:List Nat} {pre rest:List Ch} (hp:pick ks Hs=some (pre,rest)) :
    ∃(F RR:Nat→Prop),SatH pre w F∧(∀ b,F b→b<w.heap.size)∧(∀ b,RR b→b<w.heap.size∧¬ F b)∧(∀ c,Gives Rs c→∃ R,c.ok w R∧∀ b,R b→RR b)∧
      ∀ w' post rp F',Chg w w' F→SatH post w' F'→(∀ b,F' b→(F b∨w.heap.size≤b)∧b<w'.heap.size)→(∀ c∈rp,∃ R,c.ok w' R∧∀ b,R b→(b<w'.heap.size∧¬ F' b)∧(RR b∨F b∨w.heap.size≤b))→St w0 F0 (post ++ rest) (rp ++ Rs) w':=by
  obtain ⟨F,hF,hb,hR⟩:=h.sat
  obtain ⟨F1,F2,h1,h2,h3,h4⟩:=hF.pick hp
  refine ⟨F1,fun b=>(b<w.heap.size∧¬ F b)∧F0.has w0 b,h1,fun b hb'=>(hb b (h3 b hb').1).1,fun b hb'=>⟨hb'.1.1,fun e=>hb'.1.2 (h3 b e).1⟩,?_,?_⟩
  · rintro c ⟨c',hm,hc⟩
    obtain ⟨R,r,hRb⟩:=hR c' hm
    exact ⟨R,hc _ _ r,hRb⟩
  · intro w' post rp F' hchg hpost hF' hrp
    have hsame:∀ b,F2 b→w'.heap[b]?=w.heap[b]?:=fun b hb'=>hchg.block b (hb b (h4 b hb')).1 fun e=>(h3 b e).2 hb'
    refine ⟨h.chg.trans hchg fun b hb'=>(hb b (h3 b hb').1).2,fun b=>F' b∨F2 b,SatH.join hpost (h2.stable hsame) ?_,?_,?_⟩
    · intro b hb' e
      rcases (hF' b hb').1 with q | q
      · exact (h3 b q).2 e
      · have:=(hb b (h4 b e)).1; omega
    · intro b hb'
      rcases hb' with q | q
      · refine ⟨(hF' b q).2,?_⟩
        rcases (hF' b q).1 with q' | q'
        · exact (hb b (h3 b q').1).2
        · exact .inr (Nat.le_trans h.chg.size q')
      · exact ⟨Nat.lt_of_lt_of_le (hb b (h4 b q)).1 hchg.size,(hb b (h4 b q)).2⟩
    · intro c hc
      rcases List.mem_append.1 hc with hc | hc
      · obtain ⟨R,r,hRb⟩:=hrp c hc
        refine ⟨R,r,fun b hb'=>⟨⟨(hRb b hb').1.1,fun e=>?_⟩,?_⟩⟩
        · rcases e with e | e
          · exact (hRb b hb').1.2 e
          · rcases (hRb b hb').2 with q | q | q
            · exact q.1.2 (h4 b e)
            · exact (h3 b q).2 e
            · have:=(hb b (h4 b e)).1; omega
        · rcases (hRb b hb').2 with q | q | q
          · exact q.2
          · exact .inr (hb b (h3 b q).1).2
          · exact .inr (.inr (Nat.le_trans h.chg.size q))
      · obtain ⟨R,r,hRb⟩:=hR c hc
        have hnF:∀ b,R b→¬ F1 b:=fun b hb' e=>(hRb b hb').1.2 (h3 b e).1
        refine ⟨R,c.stable (fun b hb'=>hchg.block b (hRb b hb').1.1 (hnF b hb')) r,fun b hb'=>⟨⟨Nat.lt_of_lt_of_le (hRb b hb').1.1 hchg.size,fun e=>?_⟩,(hRb b hb').2⟩⟩
        rcases e with e | e
        · rcases (hF' b e).1 with q | q
          · exact hnF b hb' q
          · have:=(hRb b hb').1.1; omega
        · exact (hRb b hb').1.2 (h4 b e)

theorem Xn {P:Program} {fn:Func} {env:Env} {w:World} {vs:List Value} (h:Uo env fn.results.toList=some vs):∀ n a,Fr n env a→(results fn a.tmps).run P w=.ok (Ul vs) w:=by
  intro n a hf
  have key:∀(rs:List ResultVar) (vs:List Value),Uo env rs=some vs→
      (rs.mapM (fun x=>match x with | .tmp t=>pure (a.tmps.getD t undef) | .cell q t=>do loadVar t (← asAddr (a.tmps.getD q undef))):Sem (List Value)).run P w=.ok vs w:=by
    intro rs
    induction rs with
    | nil=>intro vs h; simp only [Uo,Option.some.injEq] at h; subst h; simp
    | cons r rs ih=>
      intro vs h
      cases r with
      | cell q t=>cases h
      | tmp t=>
        simp only [Uo] at h
        split at h
        · rename_i v us hv hus
          simp only [Option.some.injEq] at h
          subst h
          have hg:=hf.get _ _ hv
          have:=ih us hus
          simp only [List.mapM_cons,Sem.run_bind,Sem.run_pure,Result.andThen_ok]
          rw [this]
          simp [hg]
        · cases h
  have hk:=key _ _ h
  have hm:(fn.results.mapM (fun x=>match x with | .tmp t=>pure (a.tmps.getD t undef) | .cell q t=>do loadVar t (← asAddr (a.tmps.getD q undef))):Sem (Array Value)).run P w=.ok vs.toArray w:=by
    have e:fn.results=fn.results.toList.toArray:=by simp
    rw [e,List.mapM_toArray]
    simp only [Sem.run_map,hk,Result.andThen_ok]
  unfold results
  rw [Sem.run_bind]
  refine (congrArg (fun r=>Result.andThen r _) hm).trans ?_
  simp only [Result.andThen_ok,Sem.run_pure]
  congr 1
  match vs with
  | []=>rfl
  | [v]=>rfl
  | v :: u :: r=>simp [Ul]
end Go.SK
