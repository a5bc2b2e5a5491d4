/- Part of the library of this claim: how code is stepped through. -/
import Derived.Test.YtgdmpkhmedbnpaaGreatDoorXScanNoneKv
set_option linter.unusedVariables false
set_option linter.unusedSimpArgs false
namespace Go.SK
open Go Go.RowKit

section
variable {α:Type}
def Zv (d:α):List (Int×α)→Int→α
 | [],_=>d
 | p :: es,x=>if p.1=x then p.2 else Zv d es x
def Y9:List (Int×α)→Int→Bool
 | [],_=>false
 | p :: es,x=>if p.1=x then true else Y9 es x
def Vs (x:Int) (v:α):List (Int×α)→List (Int×α)
 | []=>[(x,v)]
 | p :: es=>if p.1=x then (x,v) :: es else p :: Vs x v es
def X7 (x:Int):List (Int×α)→List (Int×α)
 | []=>[]
 | p :: es=>if p.1=x then es else p :: X7 x es
def Ux (k:IntKind) (f:α→Value) (p:Int×α):Value×Value:=(.int k p.1,f p.2)
def kv (e:MapEntry):Value×Value:=(e.key,e.val)
def Xa (k:IntKind) (f:α→Value) (b:Nat) (es:List (Int×α)):Ch where
 ok w F:=F b∧∃ M clock,w.heap[b]?=some (.map M clock)∧M.toList.map kv=es.map (Ux k f)∧(∀ x∈M.toList,x.born<clock)∧(M.toList.map (·.born)).Nodup
 stable hs h:=⟨h.1,by rw [hs b h.1]; exact h.2⟩
theorem G5 {k:IntKind} {f:α→Value} (x:Int):∀(M:List MapEntry) (es:List (Int×α)) (i:Nat),M.map kv=es.map (Ux k f)→
  Instr.findNow (.int k) (.int k x) M i=some (if Y9 es x=true then some (i+(es.findIdx fun p=>decide (p.1=x)),(es.find? fun p=>decide (p.1=x)).elim undef (fun p=>f p.2)) else none)
 | [],[],i,h=>rfl
 | [],_ :: _,i,h=>by simp at h
 | _ :: _,[],i,h=>by simp at h
 | e :: M,p :: es,i,h=>by
  simp only [List.map_cons,List.cons.injEq,kv,Ux,Prod.mk.injEq] at h
  obtain ⟨⟨h1,h2⟩,h3⟩:=h
  unfold Instr.findNow Instr.sameNow
  rw [h1]
  by_cases c:p.1=x
  ·subst c
   simp [Y9,List.findIdx_cons,h2]
  ·have c':(x == p.1)=false:=by simpa using fun e=>c e.symm
   simp only [if_true,c',Y9,if_neg c,List.findIdx_cons,List.find?_cons,decide_eq_false c]
   rw [G5 x M es (i+1) h3]
   simp only [cond_false]
   split <;> simp <;> omega
theorem Zc6 (d:α) (x:Int):∀(es:List (Int×α)),Zv d es x=match es.find? fun p=>decide (p.1=x) with | some p=>p.2 | none=>d
 | []=>rfl
 | p :: es=>by
  unfold Zv
  by_cases c:p.1=x
  ·rw [if_pos c,List.find?_cons,decide_eq_true c]
  ·rw [if_neg c,List.find?_cons,decide_eq_false c]
   exact Zc6 d x es
theorem B7 (x:Int):∀(es:List (Int×α)),Y9 es x=(es.find? fun p=>decide (p.1=x)).isSome
 | []=>rfl
 | p :: es=>by
  unfold Y9
  by_cases c:p.1=x
  ·rw [if_pos c,List.find?_cons,decide_eq_true c]; rfl
  ·rw [if_neg c,List.find?_cons,decide_eq_false c]
   exact B7 x es
theorem J8 {k:IntKind} {f:α→Value} (d:α) (x:Int) {M:List MapEntry} {es:List (Int×α)} (h:M.map kv=es.map (Ux k f)) :
  (Y9 es x=true∧∃ i,Instr.findNow (.int k) (.int k x) M 0=some (some (i,f (Zv d es x)))∧i=es.findIdx fun p=>decide (p.1=x))∨Y9 es x=false∧Instr.findNow (.int k) (.int k x) M 0=some none∧Zv d es x=d:=by
 have h1:=G5 x M es 0 h
 have h2:=Zc6 d x es
 have h3:=B7 x es
 cases hf:es.find? fun p=>decide (p.1=x) with
 | none=>
  rw [hf] at h2 h3
  rw [h3] at h1
  exact .inr ⟨h3,by simpa using h1,h2⟩
 | some p=>
  rw [hf] at h2 h3 h1
  rw [h3] at h1
  exact .inl ⟨h3,_,by rw [h1,h2]; rfl,by simp⟩
theorem Zbe {x:Int} {v:α}:∀ {es:List (Int×α)},Y9 es x=false→Vs x v es=es ++ [(x,v)]
 | [],_=>rfl
 | p :: es,h=>by
  unfold Y9 at h
  unfold Vs
  split at h
  ·cases h
  ·rename_i c
   rw [if_neg c,Zbe h]; rfl
theorem Ze7 {x:Int} {v:α}:∀ {es:List (Int×α)},Y9 es x=true→Vs x v es=es.modify (es.findIdx fun p=>decide (p.1=x)) (fun _=>(x,v))
 | [],h=>by cases h
 | p :: es,h=>by
  unfold Y9 at h
  unfold Vs
  by_cases c:p.1=x
  ·rw [if_pos c,List.findIdx_cons,decide_eq_true c]; rfl
  ·rw [if_neg c] at h
   rw [if_neg c,List.findIdx_cons,decide_eq_false c,Ze7 h]; rfl
theorem Zfe {x:Int}:∀ {es:List (Int×α)},Y9 es x=true→X7 x es=es.eraseIdx (es.findIdx fun p=>decide (p.1=x))
 | [],h=>by cases h
 | p :: es,h=>by
  unfold Y9 at h
  unfold X7
  by_cases c:p.1=x
  ·rw [if_pos c,List.findIdx_cons,decide_eq_true c]; rfl
  ·rw [if_neg c] at h
   rw [if_neg c,List.findIdx_cons,decide_eq_false c,Zfe h]; rfl
theorem Zeg {x:Int}:∀ {es:List (Int×α)},Y9 es x=false→X7 x es=es
 | [],_=>rfl
 | p :: es,h=>by
  unfold Y9 at h
  unfold X7
  split at h
  ·cases h
  ·rename_i c
   rw [if_neg c,Zeg h]
theorem Zdx {k:IntKind} {f:α→Value} {x:Int} {v:α} {g:MapEntry→MapEntry} (hg:∀ e,kv (g e)=Ux k f (x,v)):∀(i:Nat) (M:List MapEntry) (es:List (Int×α)),M.map kv=es.map (Ux k f)→
  (M.modify i g).map kv=(es.modify i fun _=>(x,v)).map (Ux k f)
 | i,[],[],h=>by cases i <;> rfl
 | i,[],_ :: _,h=>by simp at h
 | i,_ :: _,[],h=>by simp at h
 | 0,e :: M,p :: es,h=>by
  simp only [List.map_cons,List.cons.injEq] at h
  simp [hg,h.2]
 | i+1,e :: M,p :: es,h=>by
  simp only [List.map_cons,List.cons.injEq] at h
  simp [h.1,Zdx hg i M es h.2]
theorem Zfs {k:IntKind} {f:α→Value}:∀(i:Nat) (M:List MapEntry) (es:List (Int×α)),M.map kv=es.map (Ux k f)→(M.eraseIdx i).map kv=(es.eraseIdx i).map (Ux k f)
 | i,[],[],h=>rfl
 | i,[],_ :: _,h=>by simp at h
 | i,_ :: _,[],h=>by simp at h
 | 0,e :: M,p :: es,h=>by
  simp only [List.map_cons,List.cons.injEq] at h
  exact h.2
 | i+1,e :: M,p :: es,h=>by
  simp only [List.map_cons,List.cons.injEq] at h
  simp [h.1,Zfs i M es h.2]
end
section
variable {P:Program} {tt:TT} {env:Env} {S:World→Prop} {o:Oper} {w0 w:World} {F0:Ft} {Hs Rs:List Ch} {α:Type} {k:IntKind} {f:α→Value}
theorem Ze5 (x:Int):Instr.sameBits 10000 (.int k x) (.int k x)=true:=by
 rw [Instr.sameBits]; simp
theorem Zhl {t:Nat} (k:IntKind) (f:α→Value) (ho:o.op=.makeMap t none) (hS:St w0 F0 Hs Rs w) :
  OpT P o env w (fun v' w'=>∃ b,v'=.map (some b)∧St w0 F0 (Xa k f b [] :: Hs) Rs w'):=
 OpT.value fun n a hf=>⟨_,w.alloc (.map #[] 0),by simp [execOp,ho,Instr.makeMap],w.heap.size,rfl,hS.add (F':=fun b=>b=w.heap.size) (Chg.alloc w _ _) ⟨rfl,_,_,Gq w _,rfl,by simp,by simp⟩ (fun b hb=>by simp [hb])⟩
theorem Wn {b:Nat} {M:Array MapEntry} {c:Nat} (hb:w.heap[b]?=some (.map M c)):(getObj b).run P w=.ok (.map M c) w:=by simp [getObj,Sem.run,hb]
theorem Ws {b:Nat} {M:Array MapEntry} {c:Nat} (o:Obj) (hb:w.heap[b]?=some (.map M c)):(setObj b o).run P w=.ok () { w with heap:=w.heap.setIfInBounds b o }:=by simp [setObj,Sem.run,hb]
theorem Zd3 {t:Nat} {x:Int} (e:Bool) (h:P.underlying t=some (.int k)) (n:Nat):(Instr.checkKey e (n+1) t (.int k x)).run P w=.ok () w:=by
 unfold Instr.checkKey
 simp [Z2 w h]
theorem X5 {t:Nat} {x:Int} (e:Bool) (h:P.underlying t=some (.int k)):(Instr.checkKey e 10000 t (.int k x)).run P w=.ok () w:=Zd3 e h 9999
theorem Wd {t:Nat} {x:Int} {M:List MapEntry} {r:Option (Nat×Value)} (h:P.underlying t=some (.int k)) (hr:Instr.findNow (.int k) (.int k x) M 0=some r):(Instr.findKey t (.int k x) M).run P w=.ok r w:=by
 simp [Instr.findKey,Z2 w h,hr]
theorem Zjw (hT:Yk P tt) {t kt et:Nat} {x y:Operand} {b:Nat} {ix:Int} {es:List (Int×α)} {it ik ie:TI} (d:α) (n:Nat) (hS:∀ w,S w→Wh w0 F0 Hs Rs w) (hk:nth Hs n=some (Xa k f b es)) (ho:o.op=.lookup t x y false)
  (hi:find tt t=some it) (hkm:it.kind=.map kt et) (hki:find tt kt=some ik) (hkk:ik.kind=.int k) (hei:find tt et=some ie) (hz:ie.zero=f d) (hx:Zq env x=some (.map (some b))) (hy:Zq env y=some (.int k ix)) :
  QOp P o env S (f (Zv d es ix)):=by
 intro nn a w hf hw
 obtain ⟨F,⟨hFb,M,clock,hh,hm,hst⟩,_⟩:=(hS w hw).gives (c:=Xa k f b es) ⟨_,List.mem_append_left _ (by rw [Yu] at hk; exact List.mem_of_getElem? hk),fun _ _ h=>h⟩
 have h1:=(hT _ _ hi).kind
 have h2:=(hT _ _ hki).kind
 have h3:=Wx w (hT _ _ hei)
 rw [hkm] at h1
 rw [hkk] at h2
 simp only [TK.ok] at h1 h2
 rcases J8 (k:=k) (f:=f) d ix hm with ⟨_,i,hr,_⟩ | ⟨_,hr,hd⟩
 ·simp [execOp,ho,hf.eval hx,hf.eval hy,Instr.lookup,Z2 w h1,Wn hh,Ws _ hh,X5 _ h2,Wd h2 hr]
 ·rw [hd,← hz]
  simp [execOp,ho,hf.eval hx,hf.eval hy,Instr.lookup,Z2 w h1,Wn hh,Ws _ hh,X5 _ h2,Wd h2 hr,h3]
theorem Zfz (hT:Yk P tt) {t kt et:Nat} {x y:Operand} {b:Nat} {ix:Int} {es:List (Int×α)} {it ik ie:TI} (d:α) (n:Nat) (hS:∀ w,S w→Wh w0 F0 Hs Rs w) (hk:nth Hs n=some (Xa k f b es)) (ho:o.op=.lookup t x y true)
  (hi:find tt t=some it) (hkm:it.kind=.map kt et) (hki:find tt kt=some ik) (hkk:ik.kind=.int k) (hei:find tt et=some ie) (hz:ie.zero=f d) (hx:Zq env x=some (.map (some b))) (hy:Zq env y=some (.int k ix)) :
  QOp P o env S (.tuple #[f (Zv d es ix),.bool (Y9 es ix)]):=by
 intro nn a w hf hw
 obtain ⟨F,⟨hFb,M,clock,hh,hm,hst⟩,_⟩:=(hS w hw).gives (c:=Xa k f b es) ⟨_,List.mem_append_left _ (by rw [Yu] at hk; exact List.mem_of_getElem? hk),fun _ _ h=>h⟩
 have h1:=(hT _ _ hi).kind
 have h2:=(hT _ _ hki).kind
 have h3:=Wx w (hT _ _ hei)
 rw [hkm] at h1
 rw [hkk] at h2
 simp only [TK.ok] at h1 h2
 rcases J8 (k:=k) (f:=f) d ix hm with ⟨he,i,hr,_⟩ | ⟨he,hr,hd⟩
 ·rw [he]
  simp [execOp,ho,hf.eval hx,hf.eval hy,Instr.lookup,Z2 w h1,Wn hh,Ws _ hh,X5 _ h2,Wd h2 hr]
 ·rw [hd,he,← hz]
  simp [execOp,ho,hf.eval hx,hf.eval hy,Instr.lookup,Z2 w h1,Wn hh,Ws _ hh,X5 _ h2,Wd h2 hr,h3]
theorem U9 (w:World) (b:Nat) (ob:Obj) {F:Nat→Prop} (h:F b):Chg w { w with heap:=w.heap.setIfInBounds b ob } F:=
 ⟨rfl,rfl,rfl,by simp,fun c hc hn=>by
  show (w.heap.setIfInBounds b ob)[c]?=w.heap[c]?
  rw [Array.getElem?_setIfInBounds,if_neg (fun e:b=c=>hn (e ▸ h))]⟩
theorem Zfy {M:Array MapEntry} {clock:Nat} {g:MapEntry→MapEntry} (hg:∀ e,(g e).born=e.born) (i:Nat) (h:(∀ x∈M.toList,x.born<clock)∧(M.toList.map (·.born)).Nodup):(∀ x∈(M.modify i g).toList,x.born<clock)∧((M.modify i g).toList.map (·.born)).Nodup:=by
 have e:∀(l:List MapEntry) (i:Nat),(l.modify i g).map (·.born)=l.map (·.born):=by
  intro l
  induction l with
  | nil=>intro i; cases i <;> rfl
  | cons x l ih=>intro i; cases i with
   | zero=>simp [hg]
   | succ i=>simp [ih]
 rw [Array.toList_modify]
 refine ⟨fun x hx=>?_,by rw [e]; exact h.2⟩
 have:x.born∈(M.toList.modify i g).map (·.born):=List.mem_map_of_mem hx
 rw [e] at this
 obtain ⟨y,hy,hb⟩:=List.mem_map.1 this
 rw [← hb]; exact h.1 y hy
theorem Zie {M:Array MapEntry} {clock:Nat} {u v:Value} (h:(∀ x∈M.toList,x.born<clock)∧(M.toList.map (·.born)).Nodup):(∀ x∈(M.push { key:=u,val:=v,born:=clock }).toList,x.born<clock+1)∧((M.push { key:=u,val:=v,born:=clock }).toList.map (·.born)).Nodup:=by
 rw [Array.toList_push]
 refine ⟨fun x hx=>?_,?_⟩
 ·rcases List.mem_append.1 hx with hx | hx
  ·have:=h.1 x hx; omega
  ·rw [List.mem_singleton] at hx; subst hx; exact Nat.lt_succ_self _
 ·rw [List.map_append,List.nodup_append]
  refine ⟨h.2,by simp,fun a ha b hb e=>?_⟩
  obtain ⟨y,hy,rfl⟩:=List.mem_map.1 ha
  simp only [List.map_cons,List.map_nil,List.mem_singleton] at hb
  have:=h.1 y hy
  omega
theorem Zgs {M:Array MapEntry} {clock:Nat} (i:Nat) (h:(∀ x∈M.toList,x.born<clock)∧(M.toList.map (·.born)).Nodup):(∀ x∈(M.eraseIdxIfInBounds i).toList,x.born<clock)∧((M.eraseIdxIfInBounds i).toList.map (·.born)).Nodup:=by
 rw [Array.toList_eraseIdxIfInBounds]
 have hs:=List.eraseIdx_sublist M.toList i
 exact ⟨fun x hx=>h.1 x (hs.subset hx),(hs.map _).nodup h.2⟩
theorem Zdn (hT:Yk P tt) {t kt et:Nat} {x y z:Operand} {b:Nat} {ix:Int} {v:α} {es:List (Int×α)} {it ik:TI} {u:Value} (n:Nat) (ho:o.op=.mapUpdate t x y z) (hS:St w0 F0 Hs Rs w) (hk:nth Hs n=some (Xa k f b es))
  (hi:find tt t=some it) (hkm:it.kind=.map kt et) (hki:find tt kt=some ik) (hkk:ik.kind=.int k) (hx:Zq env x=some (.map (some b))) (hy:Zq env y=some (.int k ix)) (hz:Zq env z=some u) (hv:u=f v) :
  OpT P o env w (fun _ w'=>St w0 F0 (Xa k f b (Vs ix v es) :: Hs.eraseIdx n) Rs w'):=
 OpT.skip fun nn a hf=>by
  obtain ⟨F,⟨hFb,M,clock,hh,hm,hst⟩,hlt,hs⟩:=hS.turn hk
  have h1:=(hT _ _ hi).kind
  have h2:=(hT _ _ hki).kind
  rw [hkm] at h1
  rw [hkk] at h2
  simp only [TK.ok] at h1 h2
  have hb:=hlt b hFb
  have hset:∀ ob,({ w with heap:=w.heap.setIfInBounds b ob }:World).heap[b]?=some ob:=fun ob=>by
   show (w.heap.setIfInBounds b ob)[b]?=some ob
   rw [Array.getElem?_setIfInBounds]; simp [hb]
  subst hv
  rcases J8 (k:=k) (f:=f) v ix hm with ⟨he,i,hr,hix⟩ | ⟨he,hr,hd⟩
  ·have hM:i<M.toList.length:=by
    have hl:M.toList.length=es.length:=by simpa using congrArg List.length hm
    rw [hl,hix]
    rw [B7] at he
    exact List.findIdx_lt_length.2 (by
     obtain ⟨p,hp⟩:=Option.isSome_iff_exists.1 he
     exact ⟨p,List.mem_of_find?_eq_some hp,by have:=List.find?_some hp; exact this⟩)
   have hkey:((M[i]?).map (·.key)).getD (.int k ix)=.int k ix:=by
    have hl:M.toList.length=es.length:=by simpa using congrArg List.length hm
    have e1:(M.toList.map kv)[i]?=(es.map (Ux k f))[i]?:=by rw [hm]
    rw [List.getElem?_map,List.getElem?_map] at e1
    have hes:i<es.length:=hl ▸ hM
    have e2:decide ((es[i]'hes).1=ix)=true:=by
     subst hix
     exact List.findIdx_getElem (p:=fun p:Int×α=>decide (p.1=ix)) (w:=hes)
    have e3:M.toList[i]?=M[i]?:=by simp
    rw [List.getElem?_eq_getElem hes,e3] at e1
    cases hmi:M[i]? with
    | none=>rfl
    | some en=>
     rw [hmi] at e1
     simp only [Option.map_some,Option.some.injEq,kv,Ux,Prod.mk.injEq] at e1
     simp only [Option.map_some,Option.getD_some,e1.1,of_decide_eq_true e2]
   refine ⟨{ w with heap:=w.heap.setIfInBounds b (.map (M.modify i fun e=>{ e with key:=.int k ix,val:=f v }) clock) },?_,?_⟩
   ·simp [execOp,ho,hf.eval hx,hf.eval hy,hf.eval hz,Instr.mapUpdate,Z2 w h1,Wn hh,Ws _ hh,X5 _ h2,Wd h2 hr,hkey,Instr.keyThatStays,Ze5]
   ·refine hs _ (Xa k f b (Vs ix v es)) F (U9 w b _ hFb) ⟨hFb,_,_,hset _,?_,Zfy (g:=fun e=>{ e with key:=.int k ix,val:=f v }) (fun e=>rfl) i hst⟩ (fun c hc=>⟨.inl hc,by simpa using hlt c hc⟩)
    rw [Ze7 he,← hix,Array.toList_modify]
    exact Zdx (fun e=>rfl) i _ _ hm
  ·refine ⟨{ w with heap:=w.heap.setIfInBounds b (.map (M.push { key:=.int k ix,val:=f v,born:=clock }) (clock+1)) },?_,?_⟩
   ·simp [execOp,ho,hf.eval hx,hf.eval hy,hf.eval hz,Instr.mapUpdate,Z2 w h1,Wn hh,Ws _ hh,X5 _ h2,Wd h2 hr]
   ·refine hs _ (Xa k f b (Vs ix v es)) F (U9 w b _ hFb) ⟨hFb,_,_,hset _,?_,Zie hst⟩ (fun c hc=>⟨.inl hc,by simpa using hlt c hc⟩)
    rw [Zbe he]
    simp [hm,kv,Ux]
end
end Go.SK
