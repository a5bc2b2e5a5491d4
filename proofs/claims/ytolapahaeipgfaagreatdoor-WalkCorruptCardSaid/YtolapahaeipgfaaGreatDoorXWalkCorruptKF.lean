/- Part of the library of this claim: how code is stepped through. -/
import Derived.Test.YtolapahaeipgfaaGreatDoorXWalkCorruptKv
import Derived.Lib.AppendStr
set_option linter.unusedVariables false
set_option linter.unusedSimpArgs false
set_option linter.unusedSectionVars false
namespace Go.SK
open Go Go.RowKit

section
variable {α:Type}
def Zm (d:α):List (Int×α)->Int->α
 | [],_=>d
 | p :: es,x=>if p.1=x then p.2 else Zm d es x
def Y6:List (Int×α)->Int->Bool
 | [],_=>false
 | p :: es,x=>if p.1=x then true else Y6 es x
def Yz (x:Int) (v:α):List (Int×α)->List (Int×α)
 | []=>[(x,v)]
 | p :: es=>if p.1=x then (x,v) :: es else p :: Yz x v es
def Wm (x:Int):List (Int×α)->List (Int×α)
 | []=>[]
 | p :: es=>if p.1=x then es else p :: Wm x es
def Jv (k:IntKind) (f:α->Value) (p:Int×α):Value×Value:=(.int k p.1,f p.2)
def kv (e:MapEntry):Value×Value:=(e.key,e.val)
def Yh (k:IntKind) (f:α->Value) (b:Nat) (es:List (Int×α)):Ch where
 ok w F:=F b/\∃ M clock,w.heap[b]?=some (.map M clock)/\M.toList.map kv=es.map (Jv k f)/\(∀ x∈M.toList,x.born<clock)/\(M.toList.map (·.born)).Nodup
 stable hs h:=⟨h.1,by rw [hs b h.1]; exact h.2⟩
theorem B6 {k} {f:α->Value} (x):∀(M:List MapEntry) (es:List (Int×α)) (i),M.map kv=es.map (Jv k f)->
  Instr.findNow (.int k) (.int k x) M i=some (if Y6 es x=true then some (i+(es.findIdx fun p=>decide (p.1=x)),(es.find? fun p=>decide (p.1=x)).elim undef (fun p=>f p.2)) else none)
 | [],[],i,h=>rfl
 | [],_ :: _,i,h=>by simp at h
 | _ :: _,[],i,h=>by simp at h
 | e :: M,p :: es,i,h=>by
  simp only [List.map_cons,List.cons.injEq,kv,Jv,Prod.mk.injEq] at h;obtain ⟨⟨h1,h2⟩,h3⟩:=h;unfold Instr.findNow Instr.sameNow;rw [h1];by_cases c:p.1=x
  ·subst c;simp [Y6,List.findIdx_cons,h2]
  ·have c':(x == p.1)=false:=by simpa using fun e=>c e.symm
   simp only [if_true,c',Y6,if_neg c,List.findIdx_cons,List.find?_cons,decide_eq_false c];rw [B6 x M es (i+1) h3];simp only [cond_false];split <;> simp <;> omega
theorem Zfg (d:α) (x):∀(es:List (Int×α)),Zm d es x=match es.find? fun p=>decide (p.1=x) with | some p=>p.2 | none=>d
 | []=>rfl
 | p :: es=>by
  unfold Zm;by_cases c:p.1=x
  ·rw [if_pos c,List.find?_cons,decide_eq_true c]
  ·rw [if_neg c,List.find?_cons,decide_eq_false c];exact Zfg d x es
theorem Zbd (x):∀(es:List (Int×α)),Y6 es x=(es.find? fun p=>decide (p.1=x)).isSome
 | []=>rfl
 | p :: es=>by
  unfold Y6;by_cases c:p.1=x
  ·rw [if_pos c,List.find?_cons,decide_eq_true c]; rfl
  ·rw [if_neg c,List.find?_cons,decide_eq_false c];exact Zbd x es
theorem Bi {k} {f:α->Value} (d:α) (x) {M:List MapEntry} {es:List (Int×α)} (h:M.map kv=es.map (Jv k f)) :
  (Y6 es x=true/\∃ i,Instr.findNow (.int k) (.int k x) M 0=some (some (i,f (Zm d es x)))/\i=es.findIdx fun p=>decide (p.1=x))\/Y6 es x=false/\Instr.findNow (.int k) (.int k x) M 0=some none/\Zm d es x=d:=by
 have h1:=B6 x M es 0 h;have h2:=Zfg d x es;have h3:=Zbd x es;cases hf:es.find? fun p=>decide (p.1=x) with
 | none=>
  rw [hf] at h2 h3;rw [h3] at h1;exact .inr ⟨h3,by simpa using h1,h2⟩
 | some p=>
  rw [hf] at h2 h3 h1;rw [h3] at h1;exact .inl ⟨h3,_,by rw [h1,h2]; rfl,by simp⟩
theorem Zdb {x} {v:α}:∀ {es:List (Int×α)},Y6 es x=false->Yz x v es=es ++ [(x,v)]
 | [],_=>rfl
 | p :: es,h=>by
  unfold Y6 at h;unfold Yz;split at h
  ·cases h
  ·rename_i c;rw [if_neg c,Zdb h]; rfl
theorem Zht {x} {v:α}:∀ {es:List (Int×α)},Y6 es x=true->Yz x v es=es.modify (es.findIdx fun p=>decide (p.1=x)) (fun _=>(x,v))
 | [],h=>by cases h
 | p :: es,h=>by
  unfold Y6 at h;unfold Yz;by_cases c:p.1=x
  ·rw [if_pos c,List.findIdx_cons,decide_eq_true c]; rfl
  ·rw [if_neg c] at h;rw [if_neg c,List.findIdx_cons,decide_eq_false c,Zht h]; rfl
theorem Zgv {x}:∀ {es:List (Int×α)},Y6 es x=true->Wm x es=es.eraseIdx (es.findIdx fun p=>decide (p.1=x))
 | [],h=>by cases h
 | p :: es,h=>by
  unfold Y6 at h;unfold Wm;by_cases c:p.1=x
  ·rw [if_pos c,List.findIdx_cons,decide_eq_true c]; rfl
  ·rw [if_neg c] at h;rw [if_neg c,List.findIdx_cons,decide_eq_false c,Zgv h]; rfl
theorem Zia {x}:∀ {es:List (Int×α)},Y6 es x=false->Wm x es=es
 | [],_=>rfl
 | p :: es,h=>by
  unfold Y6 at h;unfold Wm;split at h
  ·cases h
  ·rename_i c;rw [if_neg c,Zia h]
theorem Zfh {k} {f:α->Value} {x} {v:α} {g:MapEntry->MapEntry} (hg:∀ e,kv (g e)=Jv k f (x,v)):∀(i) (M:List MapEntry) (es:List (Int×α)),M.map kv=es.map (Jv k f)->
  (M.modify i g).map kv=(es.modify i fun _=>(x,v)).map (Jv k f)
 | i,[],[],h=>by cases i <;> rfl
 | i,[],_ :: _,h=>by simp at h
 | i,_ :: _,[],h=>by simp at h
 | 0,e :: M,p :: es,h=>by
  simp only [List.map_cons,List.cons.injEq] at h;simp [hg,h.2]
 | i+1,e :: M,p :: es,h=>by
  simp only [List.map_cons,List.cons.injEq] at h;simp [h.1,Zfh hg i M es h.2]
theorem Zgs {k} {f:α->Value}:∀(i) (M:List MapEntry) (es:List (Int×α)),M.map kv=es.map (Jv k f)->(M.eraseIdx i).map kv=(es.eraseIdx i).map (Jv k f)
 | i,[],[],h=>rfl
 | i,[],_ :: _,h=>by simp at h
 | i,_ :: _,[],h=>by simp at h
 | 0,e :: M,p :: es,h=>by
  simp only [List.map_cons,List.cons.injEq] at h;exact h.2
 | i+1,e :: M,p :: es,h=>by
  simp only [List.map_cons,List.cons.injEq] at h;simp [h.1,Zgs i M es h.2]
end
section
variable {P:Program} {tt:TT} {env:Env} {S:World->Prop} {o:Oper} {w0 w:World} {F0:Ft} {Hs Rs:List Ch} {α:Type} {k:IntKind} {f:α->Value}
theorem Zh6 (x):Instr.sameBits 10000 (.int k x) (.int k x)=true:=by
 rw [Instr.sameBits]; simp
theorem Zk4 {t:Nat} (k:IntKind) (f:α->Value) (ho:o.op=.makeMap t none) (hS:St w0 F0 Hs Rs w) :
  OpT P o env w (fun v' w'=>∃ b,v'=.map (some b)/\St w0 F0 (Yh k f b [] :: Hs) Rs w'):=
 OpT.value fun n a hf=>⟨_,w.alloc (.map #[] 0),by simp [execOp,ho,Instr.makeMap],w.heap.size,rfl,hS.add (F':=fun b=>b=w.heap.size) (Chg.alloc w _ _) ⟨rfl,_,_,B0 w _,rfl,by simp,by simp⟩ (fun b hb=>by simp [hb])⟩
theorem W3 {b} {M:Array MapEntry} {c} (hb:w.heap[b]?=some (.map M c)):(getObj b).run P w=.ok (.map M c) w:=by simp [getObj,Sem.run,hb]
theorem Wz {b} {M:Array MapEntry} {c} (o) (hb:w.heap[b]?=some (.map M c)):(setObj b o).run P w=.ok () { w with heap:=w.heap.setIfInBounds b o }:=by simp [setObj,Sem.run,hb]
theorem Zgd {t:Nat} {x:Int} (e:Bool) (h:P.underlying t=some (.int k)) (n:Nat):(Instr.checkKey e (n+1) t (.int k x)).run P w=.ok () w:=by
 unfold Instr.checkKey;simp [Zw w h]
theorem Wg {t:Nat} {x:Int} (e:Bool) (h:P.underlying t=some (.int k)):(Instr.checkKey e 10000 t (.int k x)).run P w=.ok () w:=Zgd e h 9999
theorem Ws {t:Nat} {x:Int} {M:List MapEntry} {r:Option (Nat×Value)} (h:P.underlying t=some (.int k)) (hr:Instr.findNow (.int k) (.int k x) M 0=some r):(Instr.findKey t (.int k x) M).run P w=.ok r w:=by
 simp [Instr.findKey,Zw w h,hr]
theorem Znr (hT:Yq P tt) {t kt et:Nat} {x y:Operand} {b:Nat} {ix:Int} {es:List (Int×α)} {it ik ie:TI} (d:α) (n:Nat) (hS:∀ w,S w->Wh w0 F0 Hs Rs w) (hk:nth Hs n=some (Yh k f b es)) (ho:o.op=.lookup t x y false)
  (hi:find tt t=some it) (hkm:it.kind=.map kt et) (hki:find tt kt=some ik) (hkk:ik.kind=.int k) (hei:find tt et=some ie) (hz:ie.zero=f d) (hx:Zl env x=some (.map (some b))) (hy:Zl env y=some (.int k ix)) :
  QOp P o env S (f (Zm d es ix)):=by
 intro nn a w hf hw;obtain ⟨F,⟨hFb,M,clock,hh,hm,hst⟩,_⟩:=(hS w hw).gives (c:=Yh k f b es) ⟨_,List.mem_append_left _ (by rw [Yk] at hk; exact List.mem_of_getElem? hk),fun _ _ h=>h⟩;have h1:=(hT _ _ hi).kind;have h2:=(hT _ _ hki).kind;have h3:=Vd w (hT _ _ hei);rw [hkm] at h1;rw [hkk] at h2;simp only [TK.ok] at h1 h2;rcases Bi (k:=k) (f:=f) d ix hm with ⟨_,i,hr,_⟩ | ⟨_,hr,hd⟩
 ·simp [execOp,ho,hf.eval hx,hf.eval hy,Instr.lookup,Zw w h1,W3 hh,Wz _ hh,Wg _ h2,Ws h2 hr]
 ·rw [hd,<- hz];simp [execOp,ho,hf.eval hx,hf.eval hy,Instr.lookup,Zw w h1,W3 hh,Wz _ hh,Wg _ h2,Ws h2 hr,h3]
theorem Zi0 (hT:Yq P tt) {t kt et:Nat} {x y:Operand} {b:Nat} {ix:Int} {es:List (Int×α)} {it ik ie:TI} (d:α) (n:Nat) (hS:∀ w,S w->Wh w0 F0 Hs Rs w) (hk:nth Hs n=some (Yh k f b es)) (ho:o.op=.lookup t x y true)
  (hi:find tt t=some it) (hkm:it.kind=.map kt et) (hki:find tt kt=some ik) (hkk:ik.kind=.int k) (hei:find tt et=some ie) (hz:ie.zero=f d) (hx:Zl env x=some (.map (some b))) (hy:Zl env y=some (.int k ix)) :
  QOp P o env S (.tuple #[f (Zm d es ix),.bool (Y6 es ix)]):=by
 intro nn a w hf hw;obtain ⟨F,⟨hFb,M,clock,hh,hm,hst⟩,_⟩:=(hS w hw).gives (c:=Yh k f b es) ⟨_,List.mem_append_left _ (by rw [Yk] at hk; exact List.mem_of_getElem? hk),fun _ _ h=>h⟩;have h1:=(hT _ _ hi).kind;have h2:=(hT _ _ hki).kind;have h3:=Vd w (hT _ _ hei);rw [hkm] at h1;rw [hkk] at h2;simp only [TK.ok] at h1 h2;rcases Bi (k:=k) (f:=f) d ix hm with ⟨he,i,hr,_⟩ | ⟨he,hr,hd⟩
 ·rw [he];simp [execOp,ho,hf.eval hx,hf.eval hy,Instr.lookup,Zw w h1,W3 hh,Wz _ hh,Wg _ h2,Ws h2 hr]
 ·rw [hd,he,<- hz];simp [execOp,ho,hf.eval hx,hf.eval hy,Instr.lookup,Zw w h1,W3 hh,Wz _ hh,Wg _ h2,Ws h2 hr,h3]
theorem J3 (w) (b) (ob) {F} (h:F b):Chg w { w with heap:=w.heap.setIfInBounds b ob } F:=
 ⟨rfl,rfl,rfl,by simp,fun c hc hn=>by
  show (w.heap.setIfInBounds b ob)[c]?=w.heap[c]?;rw [Array.getElem?_setIfInBounds,if_neg (fun e:b=c=>hn (e ▸ h))]⟩
theorem Ziw {M:Array MapEntry} {clock} {g:MapEntry->MapEntry} (hg:∀ e,(g e).born=e.born) (i) (h:(∀ x∈M.toList,x.born<clock)/\(M.toList.map (·.born)).Nodup):(∀ x∈(M.modify i g).toList,x.born<clock)/\((M.modify i g).toList.map (·.born)).Nodup:=by
 have e:∀(l:List MapEntry) (i:Nat),(l.modify i g).map (·.born)=l.map (·.born):=by
  intro l
  induction l with
  | nil=>intro i; cases i <;> rfl
  | cons x l ih=>intro i; cases i with
   | zero=>simp [hg]
   | succ i=>simp [ih]
 rw [Array.toList_modify];refine ⟨fun x hx=>?_,by rw [e]; exact h.2⟩;have:x.born∈(M.toList.modify i g).map (·.born):=List.mem_map_of_mem hx;rw [e] at this;obtain ⟨y,hy,hb⟩:=List.mem_map.1 this;rw [<- hb]; exact h.1 y hy
theorem Zlx {M:Array MapEntry} {clock} {u v} (h:(∀ x∈M.toList,x.born<clock)/\(M.toList.map (·.born)).Nodup):(∀ x∈(M.push { key:=u,val:=v,born:=clock }).toList,x.born<clock+1)/\((M.push { key:=u,val:=v,born:=clock }).toList.map (·.born)).Nodup:=by
 rw [Array.toList_push];refine ⟨fun x hx=>?_,?_⟩
 ·rcases List.mem_append.1 hx with hx | hx
  ·have:=h.1 x hx; omega
  ·rw [List.mem_singleton] at hx; subst hx; exact Nat.lt_succ_self _
 ·rw [List.map_append,List.nodup_append];refine ⟨h.2,by simp,fun a ha b hb e=>?_⟩;obtain ⟨y,hy,rfl⟩:=List.mem_map.1 ha;simp only [List.map_cons,List.map_nil,List.mem_singleton] at hb;have:=h.1 y hy;omega
theorem Zkt {M:Array MapEntry} {clock} (i) (h:(∀ x∈M.toList,x.born<clock)/\(M.toList.map (·.born)).Nodup):(∀ x∈(M.eraseIdxIfInBounds i).toList,x.born<clock)/\((M.eraseIdxIfInBounds i).toList.map (·.born)).Nodup:=by
 rw [Array.toList_eraseIdxIfInBounds];have hs:=List.eraseIdx_sublist M.toList i;exact ⟨fun x hx=>h.1 x (hs.subset hx),(hs.map _).nodup h.2⟩
theorem Uo (hT:Yq P tt) {t kt et:Nat} {x y z:Operand} {b:Nat} {ix:Int} {v:α} {es:List (Int×α)} {it ik:TI} {u:Value} (n:Nat) (ho:o.op=.mapUpdate t x y z) (hS:St w0 F0 Hs Rs w) (hk:nth Hs n=some (Yh k f b es))
  (hi:find tt t=some it) (hkm:it.kind=.map kt et) (hki:find tt kt=some ik) (hkk:ik.kind=.int k) (hx:Zl env x=some (.map (some b))) (hy:Zl env y=some (.int k ix)) (hz:Zl env z=some u) (hv:u=f v) :
  OpT P o env w (fun _ w'=>St w0 F0 (Yh k f b (Yz ix v es) :: Hs.eraseIdx n) Rs w'):=
 OpT.skip fun nn a hf=>by
  obtain ⟨F,⟨hFb,M,clock,hh,hm,hst⟩,hlt,hs⟩:=hS.turn hk;have h1:=(hT _ _ hi).kind;have h2:=(hT _ _ hki).kind;rw [hkm] at h1;rw [hkk] at h2;simp only [TK.ok] at h1 h2;have hb:=hlt b hFb;have hset:∀ ob,({ w with heap:=w.heap.setIfInBounds b ob }:World).heap[b]?=some ob:=fun ob=>by
   show (w.heap.setIfInBounds b ob)[b]?=some ob;rw [Array.getElem?_setIfInBounds]; simp [hb]
  subst hv;rcases Bi (k:=k) (f:=f) v ix hm with ⟨he,i,hr,hix⟩ | ⟨he,hr,hd⟩
  ·have hM:i<M.toList.length:=by
    have hl:M.toList.length=es.length:=by simpa using congrArg List.length hm
    rw [hl,hix];rw [Zbd] at he;exact List.findIdx_lt_length.2 (by
     obtain ⟨p,hp⟩:=Option.isSome_iff_exists.1 he;exact ⟨p,List.mem_of_find?_eq_some hp,by have:=List.find?_some hp; exact this⟩)
   have hkey:((M[i]?).map (·.key)).getD (.int k ix)=.int k ix:=by
    have hl:M.toList.length=es.length:=by simpa using congrArg List.length hm
    have e1:(M.toList.map kv)[i]?=(es.map (Jv k f))[i]?:=by rw [hm]
    rw [List.getElem?_map,List.getElem?_map] at e1;have hes:i<es.length:=hl ▸ hM;have e2:decide ((es[i]'hes).1=ix)=true:=by
     subst hix;exact List.findIdx_getElem (p:=fun p:Int×α=>decide (p.1=ix)) (w:=hes)
    have e3:M.toList[i]?=M[i]?:=by simp
    rw [List.getElem?_eq_getElem hes,e3] at e1;cases hmi:M[i]? with
    | none=>rfl
    | some en=>
     rw [hmi] at e1;simp only [Option.map_some,Option.some.injEq,kv,Jv,Prod.mk.injEq] at e1;simp only [Option.map_some,Option.getD_some,e1.1,of_decide_eq_true e2]
   refine ⟨{ w with heap:=w.heap.setIfInBounds b (.map (M.modify i fun e=>{ e with key:=.int k ix,val:=f v }) clock) },?_,?_⟩
   ·simp [execOp,ho,hf.eval hx,hf.eval hy,hf.eval hz,Instr.mapUpdate,Zw w h1,W3 hh,Wz _ hh,Wg _ h2,Ws h2 hr,hkey,Instr.keyThatStays,Zh6]
   ·refine hs _ (Yh k f b (Yz ix v es)) F (J3 w b _ hFb) ⟨hFb,_,_,hset _,?_,Ziw (g:=fun e=>{ e with key:=.int k ix,val:=f v }) (fun e=>rfl) i hst⟩ (fun c hc=>⟨.inl hc,by simpa using hlt c hc⟩);rw [Zht he,<- hix,Array.toList_modify];exact Zfh (fun e=>rfl) i _ _ hm
  ·refine ⟨{ w with heap:=w.heap.setIfInBounds b (.map (M.push { key:=.int k ix,val:=f v,born:=clock }) (clock+1)) },?_,?_⟩
   ·simp [execOp,ho,hf.eval hx,hf.eval hy,hf.eval hz,Instr.mapUpdate,Zw w h1,W3 hh,Wz _ hh,Wg _ h2,Ws h2 hr]
   ·refine hs _ (Yh k f b (Yz ix v es)) F (J3 w b _ hFb) ⟨hFb,_,_,hset _,?_,Zlx hst⟩ (fun c hc=>⟨.inl hc,by simpa using hlt c hc⟩);rw [Zdb he];simp [hm,kv,Jv]
end
end Go.SK

namespace Go.SK
open Go Go.RowKit Go.Lib

section
variable {P:Program} {w:World}
theorem Zer (t u ty e:TypeId) (i:TypeInfo) (ht:P.underlying t=some (.slice e)) (hu:P.underlying u=some .string) (hi:P.info? e=some i) (hz:i.zero=some (.int .u8 0))
  (hsize:i.size=1) (hby:i.bytes=1) (v) (n) (xs) (hown:w.ownsRow 0 e 1 v n xs) (s:ByteArray) (hbytes:n+s.size<=140737488355328) :
  ∃ v' w',(Builtin.append_ #[t,u] ty #[v,.string s]).run P w=.ok v' w'/\w'.ownsRow 0 e 1 v' (n+s.size) (xs ++ strCells s)/\w.grownBy w' v.ownBlock/\(v'.ownBlock=v.ownBlock\/∀ q,v'.ownBlock=some q->w.heap.size<=q):=by
 have h63:n+s.size<=maxLen:=by simp only [maxLen]; omega
 obtain ⟨v',w',h1,h2,h3,h4⟩:=run_append_own_string (P:=P) w 0 t u ty e i ht hu hi hz hsize hby v n xs hown s h63 hbytes (Nat.zero_le _);refine ⟨v',w',h1,h2,h3,?_⟩;rcases hown.2 with ⟨rfl,rfl⟩ | ⟨g,cap,cur,rfl,hbg,hg,hnc,hcm,hcs,htake⟩
 ·obtain ⟨v2,w2,g1,g2,g3,g4⟩:=run_append_own_string (P:=P) w w.heap.size t u ty e i ht hu hi hz hsize hby (.slice none 0 0) 0 xs ⟨hown.1,.inl ⟨rfl,rfl⟩⟩ s h63 hbytes (Nat.le_refl _);rw [h1] at g1;obtain ⟨rfl,rfl⟩:v'=v2/\w'=w2:=by injection g1 with a b; exact ⟨a,b⟩
  refine .inr fun q hq=>?_;exact (g2.lt q hq).1
 ·by_cases hroom:n+s.size<=cap
  ·have hcs':cur.size=cap:=by simpa using hcs
   have hr:=run_append_room_string (P:=P) w t u ty e i ht hu hi hsize g n cap cur hg s hroom (by omega);rw [h1] at hr;injection hr with a b;exact .inl (by rw [a]; rfl)
  ·have holds:∀ j u,xs[j]?=some u->w.cell? ((⟨g,0,none⟩:Addr).add j)=some u:=hown.cells (g:=g) rfl;have hr:=run_append_grow_string (P:=P) w t u ty e i (.int .u8 0) ht hu hi hz ⟨g,0,none⟩ n cap xs (by rw [hsize]; simpa using hown.1) holds s (by omega) (by omega) (by rw [hby]; exact growslice_fits (by omega) (by omega));rw [h1] at hr;injection hr with a b;refine .inr fun q hq=>?_;rw [a] at hq;simp only [Value.ownBlock,Option.some.injEq] at hq;omega
end
section
variable {P:Program} {tt:TT} {env:Env} {o:Oper} {w0 w:World} {F0:Ft} {Hs Rs:List Ch}
theorem Za7:∀ s,strCells ⟨⟨s⟩⟩=(toB s).flatMap (Ty.int .u8).enc
 | []=>rfl
 | x :: r=>by
  have ih:=Za7 r;simp only [strCells,toB,List.map_cons,List.flatMap_cons] at ih ⊢;rw [ih];rfl
theorem Zgi (hT:Yq P tt) {t ts e:Nat} {xa ya:Operand} {z1 z2 z3 z4:Nat} {z zs:Value} {xs:List Int} {s:List UInt8} {v:Value} (k:Nat) (ho:o.op=.call { callee:=.builtin .append,args:=#[xa,ya],argTypes:=#[t,ts] })
  (hS:St w0 F0 Hs Rs w) (hk:nth Hs k=some (Yg e (.int .u8) xs v)) (hx:Zl env xa=some v) (hy:Zl env ya=some (.string ⟨⟨s⟩⟩))
  (ht:find tt t=some ⟨.slice e,z1,z2,z⟩) (hts:find tt ts=some ⟨.str,z3,z4,zs⟩) (hi:find tt e=some ⟨.int .u8,1,1,.int .u8 0⟩) (hl:xs.length+s.length<=140737488355328) :
  OpT P o env w (fun v' w'=>∃ A' c',v'=.slice A' (xs ++ toB s).length c'/\St w0 F0 (Yg e (.int .u8) (xs ++ toB s) (.slice A' (xs ++ toB s).length c') :: Hs.eraseIdx k) Rs w'):=
 OpT.value fun n a hf=>by
  have hkk:=(hT _ _ ht).kind;have hks:=(hT _ _ hts).kind;simp only [TK.ok] at hkk hks;obtain ⟨i0,hi0,hs0,hb0,hz0⟩:=(hT _ _ hi).info';obtain ⟨F,⟨inner,F',hown,hel,hF'1,hF'2⟩,hlt,hs⟩:=hS.turn hk;have hsc:(Ty.int .u8).scal=true:=rfl;have hin:=Vj hsc hel;subst hin;have hss:(⟨⟨s⟩⟩:ByteArray).size=s.length:=rfl;obtain ⟨v',w',hr,ho',hg,hb⟩:=Zer (P:=P) (w:=w) t ts o.type e i0 hkk hks hi0 hz0 hs0 hb0 v xs.length _ hown ⟨⟨s⟩⟩ (by rw [hss]; exact hl);have hsc2:=Za7 s;rw [hsc2] at ho';have hlen:(xs ++ toB s).length=xs.length+s.length:=by simp [toB]
  rw [hss] at ho';have hrun:(execOp a.eval o).run P w=.ok (.value v') w':=by simp [execOp,ho,resolve,invoke,builtin,hf.eval hx,hf.eval hy,hr]
  have hfm:(xs ++ toB s).flatMap (Ty.int .u8).enc=xs.flatMap (Ty.int .u8).enc ++ (toB s).flatMap (Ty.int .u8).enc:=by simp
  have hshape:∃ A' c',v'=.slice A' (xs.length+s.length) c':=by
   rcases ho'.2 with ⟨h,h2⟩ | ⟨g,cap,cur,h,_⟩
   ·exact ⟨none,0,by rw [h,h2]⟩
   ·exact ⟨_,_,h⟩
  obtain ⟨A',c',rfl⟩:=hshape;refine ⟨_,w',hrun,A',c',by simp [hlen],?_⟩;have hFv:∀ b,v.ownBlock=some b->F b:=fun b hb=>(hF'2 b hb).1;have hown2:w'.ownsRow 0 e (Ty.int .u8).n (.slice A' (xs.length+s.length) c') (xs ++ toB s).length ((xs ++ toB s).flatMap (Ty.int .u8).enc):=by rw [hlen,hfm]; exact ho'
  have hlive:∀ b,(Value.slice A' (xs.length+s.length) c').ownBlock=some b->b<w'.heap.size:=fun b hb=>by
   rcases ho'.2 with ⟨h,h2⟩ | ⟨g,cap,cur,h,_,hh,_⟩
   ·rw [h] at hb; cases hb
   ·rw [h] at hb;simp only [Value.ownBlock,Option.some.injEq] at hb;subst hb;exact (Array.getElem?_eq_some_iff.1 hh).1
  rw [show (Value.slice A' (xs ++ toB s).length c')=.slice A' (xs.length+s.length) c' by rw [hlen]];refine hs w' (Yg e (.int .u8) (xs ++ toB s) (.slice A' (xs.length+s.length) c')) (fun b=>(Value.slice A' (xs.length+s.length) c').ownBlock=some b) (Chg.of_grown hg hFv) ⟨_,fun _=>False,hown2,Elems.scal hsc _ _ _,fun b hb=>hb.elim,fun b hb=>⟨hb,fun e=>e⟩⟩ fun b hb'=>⟨?_,hlive b hb'⟩;rcases hb with hb | hb
  ·exact .inl (hFv b (by rw [<- hb]; exact hb'))
  ·exact .inr (hb b hb')
end
end Go.SK
namespace Go.SK
open Go Go.RowKit Go.Lib
section
variable {P:Program} {env:Env} {S:World->Prop} {o:Oper}
theorem Zqq {xa ya za} {ts:Array TypeId} {k} {x y z} (ho:o.op=.call { callee:=.builtin .max,args:=#[xa,ya,za],argTypes:=ts }) (hx:Zl env xa=some (.int k x)) (hy:Zl env ya=some (.int k y)) (hz:Zl env za=some (.int k z)) :
  QOp P o env S (.int k (if z>(if y>x then y else x) then z else (if y>x then y else x))):=by
 intro n a w hf _;simp [execOp,ho,resolve,invoke,builtin,hf.eval hx,hf.eval hy,hf.eval hz,Builtin.max_,Builtin.max2]
end
end Go.SK

namespace Go.SK
open Go Go.RowKit

def Zq3 (P:Program) (n:Nat) (c:Code) (PQ:Xg):Nat->Env->World->Prop
 | 0,_,_=>False
 | k+1,env,w=>J P n c (Zaf (Zq3 P n c PQ k) PQ) env w
end Go.SK

namespace Go.SK
open Go Go.RowKit

def Ty.at?:(t:Ty)->t.D->Nat->Option Value
 | .int k,x,0=>some (.int k x)
 | .bool,x,0=>some (.bool x)
 | .str,x,0=>some (.string ⟨⟨x⟩⟩)
 | .pair a b,x,f=>if f<a.n then a.at? x.1 f else b.at? x.2 (f - a.n)
 | _,_,_=>none
theorem Ty.ok_at:∀(t:Ty) {w:World} {F:Nat->Prop} {x:t.D} {cs:List Value} {f:Nat} {u:Value},t.ok w F x cs->t.at? x f=some u->cs[f]?=some u
 | .int k,w,F,x,cs,f,u,h,hu=>by
  cases f with
  | zero=>simp only [Ty.at?,Option.some.injEq] at hu; rw [h,<- hu]; rfl
  | succ f=>simp [Ty.at?] at hu
 | .bool,w,F,x,cs,f,u,h,hu=>by
  cases f with
  | zero=>simp only [Ty.at?,Option.some.injEq] at hu; rw [h,<- hu]; rfl
  | succ f=>simp [Ty.at?] at hu
 | .str,w,F,x,cs,f,u,h,hu=>by
  cases f with
  | zero=>simp only [Ty.at?,Option.some.injEq] at hu; rw [h,<- hu]; rfl
  | succ f=>simp [Ty.at?] at hu
 | .val,_,_,_,_,_,_,_,hu=>by simp [Ty.at?] at hu
 | .unit,_,_,_,_,_,_,_,hu=>by simp [Ty.at?] at hu
 | .slice _ _,_,_,_,_,_,_,_,hu=>by simp [Ty.at?] at hu
 | .pair a b,w,F,x,cs,f,u,⟨c1,c2,e,h1,h2⟩,hu=>by
  have l1:=a.ok_len h1;rw [Ty.at?] at hu;split at hu
  ·rw [e,List.getElem?_append_left (by omega)]; exact a.ok_at h1 hu
  ·rw [e,List.getElem?_append_right (by omega),l1]; exact b.ok_at h2 hu
def Ty.put?:(t:Ty)->t.D->Nat->Value->Option t.D
 | .int k,x,0,.int k' y=>if Zeh k k'=true then some y else none
 | .bool,x,0,.bool y=>some y
 | .pair a b,x,f,u=>if f<a.n then (a.put? x.1 f u).map fun y=>(y,x.2) else (b.put? x.2 (f - a.n) u).map fun y=>(x.1,y)
 | _,_,_,_=>none
theorem Zfs (f) (u) (cs) (h:f<cs.length):Z0 f [u] cs=cs.set f u:=by
 unfold Z0;rw [List.set_eq_take_append_cons_drop,if_pos h]; simp
theorem Ty.ok_put:∀(t:Ty) {w:World} {F:Nat->Prop} {x new:t.D} {cs:List Value} {f:Nat} {u:Value},t.ok w F x cs->t.put? x f u=some new->t.ok w F new (cs.set f u)
 | .int k,w,F,x,new,cs,f,u,h,hu=>by
  cases f with
  | zero=>
   cases u <;> simp only [Ty.put?] at hu <;> try cases hu
   split at hu
   ·rename_i k' y e;simp only [Option.some.injEq] at hu;rw [h,<- hu,Zei e]; rfl
   ·cases hu
  | succ f=>simp [Ty.put?] at hu
 | .bool,w,F,x,new,cs,f,u,h,hu=>by
  cases f with
  | zero=>
   cases u <;> simp only [Ty.put?] at hu <;> try cases hu
   rw [h]; rfl
  | succ f=>simp [Ty.put?] at hu
 | .str,_,_,_,_,_,_,_,_,hu=>by simp [Ty.put?] at hu
 | .val,_,_,_,_,_,_,_,_,hu=>by simp [Ty.put?] at hu
 | .unit,_,_,_,_,_,_,_,_,hu=>by simp [Ty.put?] at hu
 | .slice _ _,_,_,_,_,_,_,_,_,hu=>by simp [Ty.put?] at hu
 | .pair a b,w,F,x,new,cs,f,u,⟨c1,c2,e,h1,h2⟩,hu=>by
  have l1:=a.ok_len h1;rw [Ty.put?] at hu;split at hu
  ·cases hp:a.put? x.1 f u with
   | none=>rw [hp] at hu; simp at hu
   | some y=>
    rw [hp] at hu;simp only [Option.map_some,Option.some.injEq] at hu;subst hu;exact ⟨c1.set f u,c2,by rw [e,List.set_append_left _ _ (by omega)],a.ok_put h1 hp,h2⟩
  ·cases hp:b.put? x.2 (f - a.n) u with
   | none=>rw [hp] at hu; simp at hu
   | some y=>
    rw [hp] at hu;simp only [Option.map_some,Option.some.injEq] at hu;subst hu;exact ⟨c1,c2.set (f - a.n) u,by rw [e,List.set_append_right _ _ (by omega),l1],h1,b.ok_put h2 hp⟩
theorem Elems.rep {α:Type} {ok:α->List Value->Prop} {z:α} {c} (h:ok z c):∀ n,Elems ok (List.replicate n z) (List.replicate n c).flatten
 | 0=>rfl
 | n+1=>⟨c,(List.replicate n c).flatten,by rw [List.replicate_succ,List.flatten_cons],h,Elems.rep h n⟩
theorem Elems.lay {α:Type} {ok ok':α->List Value->Prop} {m} (hl:∀ x c,ok x c->c.length=m) (hm:∀ x c,ok x c->ok' x c) {y:α} {f} {vs} (hf:f+vs.length<=m) :
  ∀ {xs:List α} {inner} {i} {x:α},Elems ok xs inner->xs[i]?=some x->(∀ c,ok x c->ok' y (Z0 f vs c))->Elems ok' (xs.set i y) (Z0 (i*m+f) vs inner)
 | [],_,_,_,_,h,_=>by simp at h
 | x :: xs,inner,0,x',⟨c,r,e,h1,h2⟩,h,hy=>by
  simp only [List.getElem?_cons_zero,Option.some.injEq] at h;subst h;have lc:=hl _ _ h1;refine ⟨Z0 f vs c,r,?_,hy c h1,h2.imp hm⟩;rw [e,Nat.zero_mul,Nat.zero_add];unfold Z0;rw [List.take_append_of_le_length (by omega),List.drop_append_of_le_length (by omega)];simp
 | x :: xs,inner,i+1,x',⟨c,r,e,h1,h2⟩,h,hy=>by
  have lc:=hl _ _ h1;have ih:=Elems.lay hl hm hf h2 (i:=i) (by simpa using h) hy;refine ⟨c,Z0 (i*m+f) vs r,?_,hm _ _ h1,ih⟩;rw [e];unfold Z0;rw [show (i+1)*m+f=c.length+(i*m+f) by rw [lc,Nat.succ_mul]; omega,show c.length+(i*m+f)+vs.length=c.length+(i*m+f+vs.length) by omega,List.take_length_add_append,List.drop_length_add_append];simp
section
variable {P:Program} {tt:TT} {env:Env} {S:World->Prop} {o:Oper} {w0 w:World} {F0:Ft} {Hs Rs:List Ch}
theorem Ziu (hT:Yq P tt) {E:Nat} {t:Ty} [Inhabited t.D] {xs:List t.D} {A:Option Addr} {m c:Nat} {ty:Nat} {x:Operand} {i:TI} {ix:Int} {f sz:Nat} {u v:Value}
  (hS:∀ w,S w->Wh w0 F0 Hs Rs w) (hg:Gives (Hs ++ Rs) (rdC E t xs (.slice A m c))) (h0:0<=ix) (h1:ix<xs.length) (ho:o.op=.load ty x) (hsz:t.n=sz)
  (hi:find tt ty=some i) (ha:Zl env x=some (.pointer (some ⟨blk A,ofs A+ix.toNat*sz+f,none⟩))) (hu:t.at? (gt xs ix) f=some u) (hp:Wv i [u]=some v):QOp P o env S v:=
 Gj hT ho hi ha (fun w h=>by
  obtain ⟨F,hF,_⟩:=(hS w h).gives hg;obtain ⟨_,_,cs,hcs,hc⟩:=Zd5 hF h0 h1;intro j u' hu';cases j with
  | zero=>
   simp only [List.getElem?_cons_zero,Option.some.injEq] at hu';subst hu';have:=hc _ _ (t.ok_at hcs hu);rw [hsz] at this;exact this
  | succ j=>simp at hu') hp
def Zgp (c1 c2:Ch):Ch where
 ok w F:=∃ F1 F2,c1.ok w F1/\c2.ok w F2/\(∀ b,F1 b->F b/\¬ F2 b)/\∀ b,F2 b->F b
 stable hs:=fun ⟨F1,F2,h1,h2,h3,h4⟩=>⟨F1,F2,c1.stable (fun b hb=>hs b (h3 b hb).1) h1,c2.stable (fun b hb=>hs b (h4 b hb)) h2,h3,h4⟩
theorem St.both {c1 c2} (h:St w0 F0 (c1 :: c2 :: Hs) Rs w):St w0 F0 (Zgp c1 c2 :: Hs) Rs w:=by
 obtain ⟨F,⟨F1,F2,h1,⟨G1,G2,g1,g2,g3,g4⟩,h3,h4⟩,hb,hR⟩:=h.sat
 exact ⟨h.chg,F,⟨fun b=>F1 b\/G1 b,G2,⟨F1,G1,h1,g1,fun b hb=>⟨.inl hb,fun e=>(h3 b hb).2 (g3 b e).1⟩,fun b hb=>.inr hb⟩,g2,
  fun b hb=>⟨hb.elim (fun e=>(h3 b e).1) (fun e=>h4 b (g3 b e).1),fun e=>hb.elim (fun e'=>(h3 b e').2 (g4 b e)) (fun e'=>(g3 b e').2 e)⟩,fun b hb=>h4 b (g4 b hb)⟩,hb,hR⟩
theorem Zgf (hT:Yq P tt) {t e f sz c:Nat} {x y:Operand} {i:TI} {ty:Ty} [Inhabited ty.D] {xs:List ty.D} {A:Option Addr} {ix:Int} {v:Value} (new:ty.D) (k:Nat) (ho:o.op=.store t x y) (hS:St w0 F0 Hs Rs w)
  (hk:nth Hs k=some (Yg e ty xs (.slice A xs.length c))) (hi:find tt t=some i) (h0:0<=ix) (h1:ix<xs.length) (ha:Zl env x=some (.pointer (some ⟨blk A,ofs A+ix.toNat*sz+f,none⟩))) (hv:Zl env y=some v)
  (hn:ty.n=sz) (hsz:Nat.beq v.cells.toList.length i.size=true) (hle:Nat.ble (f+i.size) sz=true) (hc1:v.cells.toList.all (fun u=>u.oneCell')=true) (hnew:∀ w F cs,ty.ok w F (gt xs ix) cs->ty.ok w F new (Z0 f v.cells.toList cs)) :
  OpT P o env w (fun _ w'=>St w0 F0 (Yg e ty (xs.set ix.toNat new) (.slice A (xs.set ix.toNat new).length c) :: Hs.eraseIdx k) Rs w'):=
 OpT.skip fun n a hf=>by
  obtain ⟨F,⟨inner,F',hown,hel,hF'1,hF'2⟩,hlt,hs⟩:=hS.turn hk;rcases hown.2 with ⟨hnil,hz⟩ | ⟨g,cap,cur,hA,_,hh,hnc,hcm,hcs,htk⟩
  ·omega
  ·simp only [Value.slice.injEq] at hA;obtain ⟨rfl,_,rfl⟩:=hA;have hb:=hF'2 g rfl;have hsz':v.cells.toList.length=i.size:=Nat.eq_of_beq_eq_true hsz;have hle':f+i.size<=ty.n:=by rw [hn]; exact Nat.le_of_ble_eq_true hle
   have hix:ix.toNat<xs.length:=by omega
   have hmul:ix.toNat*ty.n+ty.n<=xs.length*ty.n:=by rw [<- Nat.succ_mul]; exact Nat.mul_le_mul_right _ hix
   have hmul2:xs.length*ty.n<=c*ty.n:=Nat.mul_le_mul_right _ hnc;have hil:inner.length=xs.length*ty.n:=hel.length fun x c h=>ty.ok_len h;have hst:=run_storeCells_at P g (ix.toNat*ty.n+f) e v.cells.toList 0 cur w hh (by rw [hcs,Nat.add_zero]; omega) (by rw [List.all_eq_true] at hc1; exact hc1);have haddr:Zl env x=some (.pointer (some ⟨g,ix.toNat*ty.n+f,none⟩)):=by rw [ha,hn]; simp [blk,ofs]
   rw [Nat.add_zero] at hst;have hsz2:v.cells.size=i.size:=by simpa using hsz'
   refine ⟨w.setRow g (cur.toList.take (ix.toNat*ty.n+f) ++ v.cells.toList ++ cur.toList.drop (ix.toNat*ty.n+f+v.cells.toList.length)).toArray,by simp [execOp,ho,hf.eval haddr,hf.eval hv,Instr.storeAt,Instr.sureAddr,storeVar,X1 w (hT _ _ hi),hsz2,hst],?_⟩;have hstab:∀ b,F' b->(w.setRow g (cur.toList.take (ix.toNat*ty.n+f) ++ v.cells.toList ++ cur.toList.drop (ix.toNat*ty.n+f+v.cells.toList.length)).toArray).heap[b]?=w.heap[b]?:=fun b hb'=>setRow_other w g b _ (fun e=>hb.2 (e ▸ hb'));have hel':=Elems.lay (ok:=ty.ok w F') (ok':=ty.ok (w.setRow g (cur.toList.take (ix.toNat*ty.n+f) ++ v.cells.toList ++ cur.toList.drop (ix.toNat*ty.n+f+v.cells.toList.length)).toArray) F') (m:=ty.n) (fun x c h=>ty.ok_len h) (fun x c h=>ty.ok_stable hstab h) (y:=new) (f:=f) (vs:=v.cells.toList) (by omega) hel (Je h0 h1) (fun cs h=>ty.ok_stable hstab (hnew _ _ _ h));refine hs _ (Yg e ty (xs.set ix.toNat new) (.slice (some ⟨g,0,none⟩) (xs.set ix.toNat new).length c)) F (W1 w g _ hb.1) ⟨_,F',?_,hel',hF'1,hF'2⟩ (fun b hb=>⟨.inl hb,by simpa using hlt b hb⟩);have ll:(Z0 (ix.toNat*ty.n+f) v.cells.toList inner).length=xs.length*ty.n:=by
    unfold Z0;rw [List.length_append,List.length_append,List.length_take,List.length_drop,hil]; omega
   refine ⟨by rw [ll,List.length_set],.inr ⟨g,c,_,rfl,Nat.zero_le _,setRow_heap w g _ _ _ _ hh,by simpa using hnc,hcm,?_,?_⟩⟩
   ·simp only [List.size_toArray,List.length_append,List.length_take,List.length_drop,Array.length_toList,hcs];omega
   ·rw [List.length_set];have hcl:cur.toList.length=c*ty.n:=by rw [Array.length_toList,hcs]
    have e1:inner=cur.toList.take (xs.length*ty.n):=htk.symm;show ((cur.toList.take (ix.toNat*ty.n+f) ++ v.cells.toList ++ cur.toList.drop (ix.toNat*ty.n+f+v.cells.toList.length)).toArray.toList).take (xs.length*ty.n)=_;unfold Z0;rw [e1,List.take_take,List.drop_take,show min (ix.toNat*ty.n+f) (xs.length*ty.n)=ix.toNat*ty.n+f by omega];rw [List.toList_toArray,List.take_append,List.take_of_length_le (by rw [List.length_append,List.length_take]; omega)];congr 1;rw [List.length_append,List.length_take,show min (ix.toNat*ty.n+f) cur.toList.length=ix.toNat*ty.n+f by omega]
theorem Zah {t:Ty} {x new:t.D} {f:Nat} {u:Value} (hf:Nat.ble (f+1) t.n=true) (h:t.put? x f u=some new):∀(w:World) (F:Nat->Prop) (cs:List Value),t.ok w F x cs->t.ok w F new (Z0 f [u] cs):=fun w F cs hc=>by
 rw [Zfs f u cs (by rw [t.ok_len hc]; exact Nat.le_of_ble_eq_true hf)];exact t.ok_put hc h
abbrev FrT (k:IntKind) (e:Nat) (t:Ty) (k2:IntKind):Ty:=.pair (.int k) (.pair (.slice e t) (.pair .bool (.int k2)))
theorem Zo9 {t:Ty} {w:World} {F:Nat->Prop} {x:t.D} {cs vs:List Value} (h:t.ok w F x cs) (hl:vs.length=t.n):Z0 0 vs cs=vs:=by
 unfold Z0;rw [List.take_zero,List.nil_append,List.drop_eq_nil_of_le (by rw [t.ok_len h]; omega),List.append_nil]
theorem Zop {k k2:IntKind} {e:Nat} {t:Ty} {w:World} {F:Nat->Prop} {x p:Int} {d:Bool} {ys:List t.D} {s:Value} (h:(Ty.slice e t).ok w F ys [s]):(FrT k e t k2).ok w F (x,ys,d,p) [.int k x,s,.bool d,.int k2 p]:=
 ⟨[_],_,rfl,rfl,[_],_,rfl,h,[_],[_],rfl,rfl,rfl⟩
theorem Zee {k k2:IntKind} {e:Nat} {t:Ty} {old:(FrT k e t k2).D} {x p:Int} {d:Bool} {ys:List t.D} {s:Value}:∀(w:World) (F:Nat->Prop) (cs:List Value),(FrT k e t k2).ok w F old cs->(rdC e t ys s).ok w F->(FrT k e t k2).ok w F (x,ys,d,p) (Z0 0 [.int k x,s,.bool d,.int k2 p] cs):=fun w F cs h hr=>by
 rw [Zo9 h rfl];exact Zop hr
theorem Zrb {k k2} {e} {t} {old:(FrT k e t k2).D} {ys:List t.D} {s}:∀ w F cs,(FrT k e t k2).ok w F old cs->(rdC e t ys s).ok w F->(FrT k e t k2).ok w F (old.1,ys,old.2.2) (Z0 1 [s] cs):=fun w F cs h hr=>by
 obtain ⟨c1,c2,rfl,h1,c3,c4,rfl,⟨A,c,h3,_⟩,h4⟩:=h;rw [Zfs 1 s _ (by rw [h1,h3]; simp),h1,h3];exact ⟨[_],[s] ++ c4,rfl,rfl,[s],c4,rfl,hr,h4⟩
theorem Zha (hT:Yq P tt) {t e f sz c e2:Nat} {x y:Operand} {i:TI} {ty t2:Ty} [Inhabited ty.D] {xs:List ty.D} {A:Option Addr} {ix:Int} {v sv:Value} {ys:List t2.D} (new:ty.D) (ho:o.op=.store t x y) (hS:St w0 F0 (Zgp (Yg e ty xs (.slice A xs.length c)) (Yg e2 t2 ys sv) :: Hs) Rs w)
  (hi:find tt t=some i) (h0:0<=ix) (h1:ix<xs.length) (ha:Zl env x=some (.pointer (some ⟨blk A,ofs A+ix.toNat*sz+f,none⟩))) (hv:Zl env y=some v)
  (hn:ty.n=sz) (hsz:Nat.beq v.cells.toList.length i.size=true) (hle:Nat.ble (f+i.size) sz=true) (hc1:v.cells.toList.all (fun u=>u.oneCell')=true) (hnew:∀ w F cs,ty.ok w F (gt xs ix) cs->(rdC e2 t2 ys sv).ok w F->ty.ok w F new (Z0 f v.cells.toList cs)) :
  OpT P o env w (fun _ w'=>St w0 F0 (Yg e ty (xs.set ix.toNat new) (.slice A (xs.set ix.toNat new).length c) :: Hs) Rs w'):=
 OpT.skip fun n a hf=>by
  obtain ⟨F,⟨F1,F2,⟨inner,F',hown,hel,hF'1,hF'2⟩,hro,hd1,hd2⟩,hlt,hs⟩:=hS.turn (k:=0) rfl;rcases hown.2 with ⟨hnil,hz⟩ | ⟨g,cap,cur,hA,_,hh,hnc,hcm,hcs,htk⟩
  ·omega
  ·simp only [Value.slice.injEq] at hA;obtain ⟨rfl,_,rfl⟩:=hA;have hb:=hF'2 g rfl;have hg2:=hd1 g hb.1;have hsz':v.cells.toList.length=i.size:=Nat.eq_of_beq_eq_true hsz;have hle':f+i.size<=ty.n:=by rw [hn]; exact Nat.le_of_ble_eq_true hle
   have hix:ix.toNat<xs.length:=by omega
   have hmul:ix.toNat*ty.n+ty.n<=xs.length*ty.n:=by rw [<- Nat.succ_mul]; exact Nat.mul_le_mul_right _ hix
   have hmul2:xs.length*ty.n<=c*ty.n:=Nat.mul_le_mul_right _ hnc;have hil:inner.length=xs.length*ty.n:=hel.length fun x c h=>ty.ok_len h;have hst:=run_storeCells_at P g (ix.toNat*ty.n+f) e v.cells.toList 0 cur w hh (by rw [hcs,Nat.add_zero]; omega) (by rw [List.all_eq_true] at hc1; exact hc1);have haddr:Zl env x=some (.pointer (some ⟨g,ix.toNat*ty.n+f,none⟩)):=by rw [ha,hn]; simp [blk,ofs]
   rw [Nat.add_zero] at hst;have hsz2:v.cells.size=i.size:=by simpa using hsz'
   refine ⟨w.setRow g (cur.toList.take (ix.toNat*ty.n+f) ++ v.cells.toList ++ cur.toList.drop (ix.toNat*ty.n+f+v.cells.toList.length)).toArray,by simp [execOp,ho,hf.eval haddr,hf.eval hv,Instr.storeAt,Instr.sureAddr,storeVar,X1 w (hT _ _ hi),hsz2,hst],?_⟩;have hstab:∀ b,(F' b\/F2 b)->(w.setRow g (cur.toList.take (ix.toNat*ty.n+f) ++ v.cells.toList ++ cur.toList.drop (ix.toNat*ty.n+f+v.cells.toList.length)).toArray).heap[b]?=w.heap[b]?:=fun b hb'=>setRow_other w g b _ (fun e=>by
    subst e;exact hb'.elim hb.2 hg2.2)
   have hrd:(rdC e2 t2 ys sv).ok w (fun b=>F' b\/F2 b):=Ty.ok_mono _ (fun b hb=>.inr hb) (Yj w F2 hro);have hel':=Elems.lay (ok:=ty.ok w (fun b=>F' b\/F2 b)) (ok':=ty.ok (w.setRow g (cur.toList.take (ix.toNat*ty.n+f) ++ v.cells.toList ++ cur.toList.drop (ix.toNat*ty.n+f+v.cells.toList.length)).toArray) (fun b=>F' b\/F2 b)) (m:=ty.n) (fun x c h=>ty.ok_len h) (fun x c h=>ty.ok_stable hstab h) (y:=new) (f:=f) (vs:=v.cells.toList) (by omega) (hel.imp fun x c h=>ty.ok_mono (fun b hb=>.inl hb) h) (Je h0 h1) (fun cs h=>ty.ok_stable hstab (hnew _ _ _ h hrd));refine hs _ (Yg e ty (xs.set ix.toNat new) (.slice (some ⟨g,0,none⟩) (xs.set ix.toNat new).length c)) F (W1 w g _ hg2.1) ⟨_,fun b=>F' b\/F2 b,?_,hel',fun b hb'=>hb'.elim (fun e=>(hd1 b (hF'1 b e)).1) (hd2 b),fun b hb'=>?_⟩ (fun b hb=>⟨.inl hb,by simpa using hlt b hb⟩)
   ·have ll:(Z0 (ix.toNat*ty.n+f) v.cells.toList inner).length=xs.length*ty.n:=by
     unfold Z0;rw [List.length_append,List.length_append,List.length_take,List.length_drop,hil]; omega
    refine ⟨by rw [ll,List.length_set],.inr ⟨g,c,_,rfl,Nat.zero_le _,setRow_heap w g _ _ _ _ hh,by simpa using hnc,hcm,?_,?_⟩⟩
    ·simp only [List.size_toArray,List.length_append,List.length_take,List.length_drop,Array.length_toList,hcs];omega
    ·rw [List.length_set];have hcl:cur.toList.length=c*ty.n:=by rw [Array.length_toList,hcs]
     have e1:inner=cur.toList.take (xs.length*ty.n):=htk.symm;show ((cur.toList.take (ix.toNat*ty.n+f) ++ v.cells.toList ++ cur.toList.drop (ix.toNat*ty.n+f+v.cells.toList.length)).toArray.toList).take (xs.length*ty.n)=_;unfold Z0;rw [e1,List.take_take,List.drop_take,show min (ix.toNat*ty.n+f) (xs.length*ty.n)=ix.toNat*ty.n+f by omega];rw [List.toList_toArray,List.take_append,List.take_of_length_le (by rw [List.length_append,List.length_take]; omega)];congr 1;rw [List.length_append,List.length_take,show min (ix.toNat*ty.n+f) cur.toList.length=ix.toNat*ty.n+f by omega]
   ·simp only [Value.ownBlock,Option.some.injEq] at hb';subst hb';exact ⟨hg2.1,fun e=>e.elim hb.2 hg2.2⟩
theorem Znd (z) (m):(madeCells z (m*z.size)).toList=(List.replicate m z.toList).flatten:=by
 have h2:∀(z:Array Value),(List.range z.size).map (fun i=>z[i % z.size]!)=z.toList:=fun z=>by
  apply List.ext_getElem
  ·simp
  ·intro i hi hj;simp only [List.length_map,List.length_range] at hi;simp [Nat.mod_eq_of_lt hi,hi]
 have h3:∀(z:Array Value) (m:Nat),(List.range (m*z.size)).map (fun i=>z[i % z.size]!)=(List.replicate m z.toList).flatten:=fun z m=>by
  induction m with
  | zero=>simp
  | succ m ih=>
   rw [List.replicate_succ',List.flatten_append,Nat.succ_mul,List.range_add,List.map_append,ih,List.map_map];congr 1;simp only [List.flatten_cons,List.flatten_nil,List.append_nil];rw [<- h2 z];apply List.map_congr_left;intro i hi;simp [Nat.mul_add_mod_self_right,Nat.add_comm]
 rw [<- h3];simp [madeCells]
theorem Zh5 (hT:Yq P tt) {T e:Nat} {z1 z2:Nat} {z:Value} {ie:TI} {l c:Operand} {kl kc:IntKind} {n:Int} {ty:Ty} (zero:ty.D) (ho:o.op=.makeSlice T l c) (ht:find tt T=some ⟨.slice e,z1,z2,z⟩) (hi:find tt e=some ie)
  (hl:Zl env l=some (.int kl n)) (hc:Zl env c=some (.int kc n)) (hsz:ty.n=ie.size) (hz:∀ w F,ty.ok w F zero ie.zero.cells.toList) (hby:0<ie.bytes) (hS:St w0 F0 Hs Rs w) (h0:0<=n) (hb:n*ie.bytes<=281474976710656) :
  OpT P o env w (fun v w'=>∃ b,v=.slice (some ⟨b,0,none⟩) (List.replicate n.toNat zero).length n.toNat/\St w0 F0 (Yg e ty (List.replicate n.toNat zero) (.slice (some ⟨b,0,none⟩) (List.replicate n.toNat zero).length n.toNat) :: Hs) Rs w'):=
 OpT.value fun nn a hf=>by
  have hk:=(hT _ _ ht).kind;simp only [TK.ok] at hk;obtain ⟨j,hj,h1,h2,h3⟩:=(hT _ _ hi).info';obtain ⟨m,rfl⟩:∃ m:Nat,n=(m:Int):=⟨n.toNat,by omega⟩;have hle:m*ie.bytes<=281474976710656:=by
   have:((m*ie.bytes:Nat):Int)<=281474976710656:=by rw [Int.natCast_mul]; exact hb
   omega
  have hm:m<=maxLen:=by
   have:m<=m*ie.bytes:=Nat.le_mul_of_pos_right _ hby
   simp only [maxLen]; omega
  have hzs:ie.zero.cells.size=ie.size:=by rw [<- Array.length_toList,ty.ok_len (hz w fun _=>False),hsz]
  obtain ⟨w',hr,hown,hgr⟩:=run_make_full (P:=P) w 0 T e j ie.zero ie.size hk hj h3 h1 kl kc m (by rw [h2,Nat.mul_comm]; exact hle) hm (Nat.zero_le _);have hmade:(madeCells ie.zero.cells (m*ie.zero.cells.size)).toList=(List.replicate m ie.zero.cells.toList).flatten:=by
   exact Znd _ _
  rw [<- hzs,hmade,hzs,<- hsz] at hown;have hlen:(List.replicate m zero).length=m:=by simp
  refine ⟨.slice (some ⟨w.heap.size,0,none⟩) m m,w',by simp [execOp,ho,hf.eval hl,hf.eval hc,hr],w.heap.size,by simp,?_⟩;have hlt:w.heap.size<w'.heap.size:=by
   rcases hown.2 with ⟨h,_⟩ | ⟨g,cap,cur,hv,_,hg,_⟩
   ·cases h
   ·simp only [Value.slice.injEq,Option.some.injEq,Addr.mk.injEq] at hv;rw [<- hv.1.1] at hg;exact (Array.getElem?_eq_some_iff.1 hg).1
  refine hS.add (F':=fun b=>b=w.heap.size) (Chg.of_grown hgr fun b hb=>by cases hb) ⟨_,fun _=>False,?_,Elems.rep (hz _ _) _,fun b hb=>hb.elim,fun b hb=>?_⟩ fun b hb=>?_
  ·simpa using hown
  ·simp [Value.ownBlock] at hb;exact ⟨hb.symm,fun e=>e⟩
  ·subst hb;exact ⟨Nat.le_refl _,hlt⟩
def Zet (E:Nat) (t:Ty) (xs:List t.D) (A:Option Addr) (c:Nat) (ix:Int) (f E2:Nat) (t2:Ty) (ys:List t2.D) (A2:Option Addr) (c2:Nat):Ch where
 ok w F:=(Yg E t xs (.slice A xs.length c)).ok w F/\(rdC E2 t2 ys (.slice A2 ys.length c2)).ok w F/\F (blk A)/\w.cell? ⟨blk A,ofs A+ix.toNat*t.n+f,none⟩=some (.slice A2 ys.length c2)
 stable hs h:=⟨(Yg _ _ _ _).stable hs h.1,(rdC _ _ _ _).stable hs h.2.1,h.2.2.1,(Gq (a:=⟨blk A,ofs A+ix.toNat*t.n+f,none⟩) (hs (blk A) h.2.2.1)).trans h.2.2.2⟩
theorem Zo4 {E} {t} {xs:List t.D} {A} {c} {ix} {f E2} {t2} {ys:List t2.D} {A2} {c2} (w) (F) (h:(Zet E t xs A c ix f E2 t2 ys A2 c2).ok w F):(rdC E t xs (.slice A xs.length c)).ok w F:=Yj w F h.1
theorem Zjz {E} {t} {xs:List t.D} {A} {c} {ix} {f E2} {t2} {ys:List t2.D} {A2} {c2} (w) (F) (h:(Zet E t xs A c ix f E2 t2 ys A2 c2).ok w F):(rdC E2 t2 ys (.slice A2 ys.length c2)).ok w F:=h.2.1
theorem St.openI (h:St w0 F0 Hs Rs w) (k:Nat) {E c E2:Nat} {a t2 b:Ty} [Inhabited (Ty.pair a (.pair (.slice E2 t2) b)).D] {xs:List (Ty.pair a (.pair (.slice E2 t2) b)).D} {A:Option Addr} {ix:Int} (hk:nth Hs k=some (Yg E (.pair a (.pair (.slice E2 t2) b)) xs (.slice A xs.length c))) (h0:0<=ix) (h1:ix<xs.length) :
  ∃ A2 c2,St w0 F0 (Zet E (.pair a (.pair (.slice E2 t2) b)) xs A c ix a.n E2 t2 (gt xs ix).2.1 A2 c2 :: Hs.eraseIdx k) Rs w:=by
 obtain ⟨F,hF,hlt,hs⟩:=h.turn hk;obtain ⟨_,hb,cs,hcs,hc⟩:=Zd5 (Yj w F hF) h0 h1;obtain ⟨c1,c2,rfl,g1,c3,c4,rfl,⟨A2,c5,rfl,g3⟩,g4⟩:=hcs;have l1:=a.ok_len g1;refine ⟨A2,c5,hs w _ F (Chg.refl _ _) ⟨hF,⟨A2,c5,rfl,g3⟩,hb,hc _ _ ?_⟩ fun b hb=>⟨.inl hb,hlt b hb⟩⟩;rw [List.getElem?_append_right (by omega),l1]; simp
theorem St.closeI (h:St w0 F0 Hs Rs w) (k) {E c E2 f} {t t2} {xs:List t.D} {A A2} {ix} {ys:List t2.D} {c2} (hk:nth Hs k=some (Zet E t xs A c ix f E2 t2 ys A2 c2)):St w0 F0 (Yg E t xs (.slice A xs.length c) :: Hs.eraseIdx k) Rs w:=by
 obtain ⟨F,hF,hlt,hs⟩:=h.turn hk;exact hs w _ F (Chg.refl _ _) hF.1 fun b hb=>⟨.inl hb,hlt b hb⟩
theorem Zm9 (hT:Yq P tt) {E:Nat} {t t2:Ty} {xs:List t.D} {A A2:Option Addr} {c c2 E2:Nat} {ys:List t2.D} {ty:Nat} {x:Operand} {i:TI} {ix:Int} {f sz:Nat} {v:Value}
  (hS:∀ w,S w->Wh w0 F0 Hs Rs w) (hg:Gives (Hs ++ Rs) (Zet E t xs A c ix f E2 t2 ys A2 c2)) (ho:o.op=.load ty x) (hsz:t.n=sz)
  (hi:find tt ty=some i) (ha:Zl env x=some (.pointer (some ⟨blk A,ofs A+ix.toNat*sz+f,none⟩))) (hp:Wv i [.slice A2 ys.length c2]=some v):QOp P o env S v:=
 Gj hT ho hi ha (fun w h=>by
  obtain ⟨F,hF,_⟩:=(hS w h).gives hg;intro j u' hu';cases j with
  | zero=>
   simp only [List.getElem?_cons_zero,Option.some.injEq] at hu';subst hu';have:=hF.2.2.2;rw [hsz] at this;exact this
  | succ j=>simp at hu') hp
theorem Zl7 (hT:Yq P tt) {α:Type} {k:IntKind} {f:α->Value} {t t' kt et:Nat} {x y:Operand} {b:Nat} {ix:Int} {es:List (Int×α)} {it ik:TI} (n:Nat) (ho:o.op=.call { callee:=.builtin .delete,args:=#[x,y],argTypes:=#[t,t'] }) (hS:St w0 F0 Hs Rs w) (hk:nth Hs n=some (Yh k f b es))
  (hi:find tt t=some it) (hkm:it.kind=.map kt et) (hki:find tt kt=some ik) (hkk:ik.kind=.int k) (hx:Zl env x=some (.map (some b))) (hy:Zl env y=some (.int k ix)) :
  OpT P o env w (fun _ w'=>St w0 F0 (Yh k f b (Wm ix es) :: Hs.eraseIdx n) Rs w'):=
 OpT.value fun nn a hf=>by
  obtain ⟨F,⟨hFb,M,clock,hh,hm,hst⟩,hlt,hs⟩:=hS.turn hk;have h1:=(hT _ _ hi).kind;have h2:=(hT _ _ hki).kind;rw [hkm] at h1;rw [hkk] at h2;simp only [TK.ok] at h1 h2;have hb:=hlt b hFb;have hset:∀ ob,({ w with heap:=w.heap.setIfInBounds b ob }:World).heap[b]?=some ob:=fun ob=>by
   show (w.heap.setIfInBounds b ob)[b]?=some ob;rw [Array.getElem?_setIfInBounds]; simp [hb]
  have hr:=B6 (k:=k) (f:=f) ix M.toList es 0 hm;by_cases he:Y6 es ix=true
  ·rw [if_pos he,Nat.zero_add] at hr;refine ⟨.tuple #[],{ w with heap:=w.heap.setIfInBounds b (.map (M.eraseIdxIfInBounds (es.findIdx fun p=>decide (p.1=ix))) clock) },?_,?_⟩
   ·simp [execOp,ho,resolve,invoke,builtin,hf.eval hx,hf.eval hy,Builtin.delete_,Zw w h1,W3 hh,Wz _ hh,Wg _ h2,Ws h2 hr]
   ·refine hs _ (Yh k f b (Wm ix es)) F (J3 w b _ hFb) ⟨hFb,_,_,hset _,?_,Zkt _ hst⟩ (fun c hc=>⟨.inl hc,by simpa using hlt c hc⟩);rw [Zgv he,Array.toList_eraseIdxIfInBounds];exact Zgs _ _ _ hm
  ·have he':Y6 es ix=false:=by simpa using he
   rw [if_neg he] at hr;refine ⟨.tuple #[],{ w with heap:=w.heap.setIfInBounds b (.map M clock) },?_,?_⟩
   ·simp [execOp,ho,resolve,invoke,builtin,hf.eval hx,hf.eval hy,Builtin.delete_,Zw w h1,W3 hh,Wz _ hh,Wg _ h2,Ws h2 hr]
   ·refine hs _ (Yh k f b (Wm ix es)) F (J3 w b _ hFb) ⟨hFb,_,_,hset _,?_,hst⟩ (fun c hc=>⟨.inl hc,by simpa using hlt c hc⟩);rw [Zia he',hm]
end
end Go.SK

namespace Go.SK
open Go Go.RowKit

class TTI (P:Program) (tt:outParam TT):Prop where
 ok:Yq P tt
 mix:P.follows .mixedOrders=true
def nfK {α R:Type}:List α->(List α->Option R)->Option R
 | [],k=>k []
 | c :: l,k=>nfK l fun t=>k (c :: t)
theorem Jo {α R:Type}:∀(l:List α) (k:List α->Option R),nfK l k=k l
 | [],_=>rfl
 | c :: l,k=>Jo l fun t=>k (c :: t)
def nfV {R:Type} (v:Value) (k:Value->Option R):Option R:=match v with
 | .agg a=>nfK a.toList fun l=>k (.agg l.toArray)
 | v=>k v
theorem Zrm {R:Type} (v) (k:Value->Option R):nfV v k=k v:=by
 unfold nfV;split
 ·rw [Jo]
 ·rfl
def Zac {R:Type}:List Nat->Env->(Env->Option R)->Option R
 | [],_,k=>k []
 | t :: ts,env,k=>match Z8 env t with
  | some v=>nfV v fun v'=>Zac ts env fun e=>k ((t,v') :: e)
  | none=>none
theorem Zan {R:Type} {r:R}:∀ {ts} {env} {k:Env->Option R},Zac ts env k=some r->k (keep ts env)=some r
 | [],_,_,h=>h
 | t :: ts,env,k,h=>by
  unfold Zac at h;unfold keep;split at h
  ·rename_i v hv;rw [Zrm] at h;rw [hv];exact Zan h
  ·cases h
def Bz (tt:TT) (n:Nat) (ops:List Oper) (ts:List Nat):List Oper->Env->Option Env
 | [],env=>Zac ts env some
 | o :: l,env=>match Ye ops env o with
  | some true=>match pv tt env o with
   | some v=>match o.dst with
    | some t=>cond (Nat.ble (t+1) n) (Bz tt n ops ts l ((t,v) :: env)) none
    | none=>Bz tt n ops ts l env
   | none=>none
  | some false=>match o.dst with
   | some t=>cond (Nat.ble (t+1) n) (Bz tt n ops ts l ((t,undef) :: env)) none
   | none=>Bz tt n ops ts l env
  | none=>none
theorem Zf1 {env} {t} {v} (h:Z8 env t=some v) (ts):keep (t :: ts) env=(t,v) :: keep ts env:=by simp only [keep,h]
theorem Zmx {env} {t} (h:Z8 env t=none) (ts):keep (t :: ts) env=keep ts env:=by simp only [keep,h]
theorem Gy (env):∀ ts:List Nat,keep ((keep ts env).map (·.1)) env=keep ts env
 | []=>rfl
 | t :: ts=>by
  cases h:Z8 env t with
  | none=>rw [Zmx h]; exact Gy env ts
  | some v=>
   rw [Zf1 h,List.map_cons];show keep (t :: (keep ts env).map (·.1)) env=_;rw [Zf1 h,Gy env ts]
def npE {β:Type}:Nat->List Ch->(Ch->List Ch->Option β)->Option β
 | 0,c :: l,f=>f c l
 | n+1,x :: l,f=>npE n l fun c r=>f c (x :: r)
 | _,[],_=>none
def Vi {β:Type}:List Nat->List Ch->(List Ch->List Ch->Option β)->Option β
 | [],Hs,f=>f [] Hs
 | k :: ks,Hs,f=>npE k Hs fun c r=>Vi ks r fun ps rest=>f (c :: ps) rest
section
variable {P:Program} {tt:TT} {n:Nat} {env:Env} {w w0:World} {F0:Ft} {Hs Rs:List Ch} {ops:List Oper} {K:Env->World->Prop} {o:Oper} {l:List Oper} {PQ:Xg} {S:World->Prop} {done:List Nat}
theorem nf (h:St w0 F0 Hs Rs w) {Hs'} (e:nfK Hs some=some Hs':=by exact rfl):St w0 F0 Hs' Rs w:=by
 rw [Jo] at e;injection e with e;exact e ▸ h
theorem Zes [i:TTI P tt]:∀ {l} (ts) {env E},Bz tt n ops ts l env=some E->K E w->RJ P n ops l K env w
 | [],ts,env,E,h,hk=>by
  have:=Zan h;injection this with this;subst this;exact RJ.keep ts (RJ.done hk)
 | o :: l,ts,env,E,h,hk=>by
  unfold Bz at h;split at h
  ·rename_i hw;split at h
   ·rename_i v hv;split at h
    ·rename_i t hd;cases hb:Nat.ble (t+1) n with
     | false=>rw [hb] at h; cases h
     | true=>
      rw [hb] at h;refine RJ.q hw (by rw [hd]; exact hb) (QOp.of_pv i.ok hv _) ?_;rw [hd];exact Zes ts h hk
    ·rename_i hd;refine RJ.q hw (by rw [hd]; rfl) (QOp.of_pv i.ok hv _) ?_;rw [hd];exact Zes ts h hk
   ·cases h
  ·rename_i hw;split at h
   ·rename_i t hd;cases hb:Nat.ble (t+1) n with
    | false=>rw [hb] at h; cases h
    | true=>
     rw [hb] at h;refine RJ.off hw (by rw [hd]; exact hb) ?_;rw [hd];exact Zes ts h hk
   ·rename_i hd;refine RJ.off hw (by rw [hd]; rfl) ?_;rw [hd];exact Zes ts h hk
  ·cases h
theorem Zsv [i:TTI P tt] {id} (ts) {E} (h:Bz tt n ops ts ops env=some E) (hk:PQ .normal E w):J P n (.region id ops.toArray false) PQ env w:=J.region (Zes ts h hk)
theorem Y7 (ts) {E} (hk:K E w) (hr:(Bo ops && U7 done 0 ops)=true:=by exact rfl) (h:Zac ts env some=some E:=by exact rfl):HJ P n ops S K done env w:=by
 have:=Zan h;injection this with this;subst this;refine HJ.fin (keep ts env) hr ?_ hk;exact Gy env ts
theorem Z4 (t) {b} {α:Type} {x y r:α} (H:(if b=true then x else y)=r) (ht:b=true->x=r->RJ P n ops l K ((t,.bool true) :: env) w) (hn:b=false->y=r->RJ P n ops l K ((t,.bool false) :: env) w) (hl:Z8 env t=some (.bool b):=by exact rfl):RJ P n ops l K env w:=by
 cases b with
 | true=>exact RJ.know hl rfl (ht rfl (by simpa using H))
 | false=>exact RJ.know hl rfl (hn rfl (by simpa using H))
theorem Xy (t) {b} {α:Type} {x y r:α} (H:(if b=true then x else y)=r) (ht:b=true->x=r->HJ P n ops S K done ((t,.bool true) :: env) w) (hn:b=false->y=r->HJ P n ops S K done ((t,.bool false) :: env) w) (hl:Z8 env t=some (.bool b):=by exact rfl):HJ P n ops S K done env w:=by
 cases b with
 | true=>exact HJ.know hl rfl (ht rfl (by simpa using H))
 | false=>exact HJ.know hl rfl (hn rfl (by simpa using H))
theorem jIf {c} {u v} {b} {α:Type} {x y r:α} (H:(if b=true then x else y)=r) (ht:b=true->x=r->J P n u PQ env w) (hn:b=false->y=r->J P n v PQ env w) (hc:Zl env c=some (.bool b):=by exact rfl):J P n (.cond c u v) PQ env w:=
 J.cond hc (fun e=>ht e (by subst e; simpa using H)) (fun e=>hn e (by subst e; simpa using H))
theorem X7 {c} (ts) {E} (hj:J P n c PQ E w) (h:Zac ts env some=some E:=by exact rfl):J P n c PQ env w:=by
 have:=Zan h;injection this with this;subst this;exact J.narrow (keep ts env) (Gy env ts) hj
theorem Zmh {β:Type}:∀(k) (Hs) (f:Ch->List Ch->Option β),npE k Hs f=(nth Hs k).bind fun c=>f c (Hs.eraseIdx k)
 | 0,[],f=>rfl
 | 0,c :: l,f=>rfl
 | n+1,[],f=>rfl
 | n+1,x :: l,f=>by
  unfold npE;rw [Zmh n l];rfl
theorem Zc7 {β:Type}:∀(ks) (Hs) (f:List Ch->List Ch->Option β),Vi ks Hs f=(pick ks Hs).bind fun p=>f p.1 p.2
 | [],Hs,f=>rfl
 | k :: ks,Hs,f=>by
  unfold Vi pick;rw [Zmh];cases nth Hs k with
  | none=>rfl
  | some c=>
   rw [Option.bind_some,Zc7 ks];dsimp only;cases pick ks (Hs.eraseIdx k) <;> rfl
theorem Zb1 {ks} {ps rest} (h:Vi ks Hs (fun p r=>some (p,r))=some (ps,rest)):pick ks Hs=some (ps,rest):=by
 rw [Zc7] at h;cases e:pick ks Hs with
 | none=>rw [e] at h; cases h
 | some p=>rw [e] at h; exact h
theorem sO (h:St w0 F0 Hs Rs w) (ks) {ps} (hp:Vi ks Hs (fun p _=>some p)=some ps:=by exact rfl):St w0 F0 ps Rs w:=by
 rw [Zc7] at hp;cases e:pick ks Hs with
 | none=>rw [e] at hp; cases hp
 | some p=>rw [e] at hp; injection hp with hp; subst hp; exact h.only ks e
theorem sOR (h:St w0 F0 Hs Rs w) (ks js) {ps cs} (hp:Vi ks Hs (fun p _=>some p)=some ps:=by exact rfl) (hc:sel js Rs=some cs:=by exact rfl):St w0 F0 ps cs w:=(sO h ks hp).rds js hc
theorem gO {E} {t} {xs:List t.D} {v} {l} (k) (h:nth l k=some (Yg E t xs v):=by exact rfl):Gives l (rdC E t xs v):=Gives.of k h Yj
theorem Z1 (hS:St w0 F0 Hs Rs w) {t:Nat} {x:Operand} {v:Value} {cs:List Value} (ho:o.op=.box t x:=by exact rfl) (hx:Zl env x=some v:=by exact rfl) (hc:nfK v.cells.toList some=some cs:=by exact rfl) :
  OpT P o env w (fun v' w'=>∃ b,v'=.pointer (some ⟨b,0,none⟩)/\St w0 F0 (Yx b t cs :: Hs) Rs w'):=by
 rw [Jo] at hc;injection hc with hc;subst hc;exact Zqp ho hx hS
theorem Z9 [q:TTI P tt] (hS:St w0 F0 Hs Rs w) {t:Nat} {i:TI} {cs:List Value} (ho:o.op=.alloc t:=by exact rfl) (hi:find tt t=some i:=by exact rfl) (hc:nfK i.zero.cells.toList some=some cs:=by exact rfl) :
  OpT P o env w (fun v' w'=>∃ b,v'=.pointer (some ⟨b,0,none⟩)/\St w0 F0 (Yx b t cs :: Hs) Rs w'):=by
 rw [Jo] at hc;injection hc with hc;subst hc;exact Zn2 q.ok ho hi hS
theorem Zr [q:TTI P tt] {t:Nat} {x y:Operand} {i:TI} {b off tb:Nat} {cs cs':List Value} {v:Value} (k:Nat) (hS:St w0 F0 Hs Rs w) (ho:o.op=.store t x y:=by exact rfl) (hk:nth Hs k=some (Yx b tb cs):=by exact rfl)
  (hi:find tt t=some i:=by exact rfl) (ha:Zl env x=some (.pointer (some ⟨b,off,none⟩)):=by exact rfl) (hv:Zl env y=some v:=by exact rfl) (hsz:Nat.beq v.cells.toList.length i.size=true:=by exact rfl) (hle:Nat.ble (off+i.size) cs.length=true:=by exact rfl) (h1:v.cells.toList.all (fun u=>u.oneCell')=true:=by exact rfl)
  (hc:nfK (Z0 off v.cells.toList cs) some=some cs':=by exact rfl):OpT P o env w (fun _ w'=>St w0 F0 (Yx b tb cs' :: Hs.eraseIdx k) Rs w'):=by
 rw [Jo] at hc;injection hc with hc;subst hc;exact Zn8 q.ok k ho hS hk hi ha hv hsz hle h1
theorem Zd [q:TTI P tt] (k) {l'} {env'} (hr:RJ P n ops l' K env' w) (h:B2 tt n ops k l env=some (l',env'):=by exact rfl):RJ P n ops l K env w:=RJ.run q.ok k h hr
theorem Zq [q:TTI P tt] (is) {done'} {env'} (hr:HJ P n ops S K done' env' w) (hs:X0 ops=true:=by exact rfl) (h:SK.runH tt n ops is done env=some (done',env'):=by exact rfl):HJ P n ops S K done env w:=HJ.run q.ok hs is h hr
theorem wI {S:World->Prop}:∀ w,S w->S w:=fun _ h=>h
theorem ttC {t:Nat} {i:TI} (hk:i.kind.ok P t) (ht:Yq P tt) (hi:(P.info? t).map (fun j=>(j.size,j.bytes,j.zero))=some (i.size,i.bytes,some i.zero):=by kernel_rfl):Yq P ((t,i) :: tt):=Zfa ⟨hi,hk⟩ ht
theorem ttS {t a b : Nat} {z : Value} {fs : List (Nat × Nat × Nat)} {fields : List Field} (hu : P.underlying t = some (.struct fields.toArray)) (ht : Yq P tt) (h1 : fields.map (fun f => (f.type, f.offset, P.cellsOf f.type)) = fs := by kernel_rfl) (h2 : (fs.all fun f => (P.info? f.1).isSome) = true := by kernel_rfl) (h3 : (fs.all fun f => !Nat.beq f.2.2 0) = true := by kernel_rfl) (h4 : P.stoodInHeld t = false := by kernel_rfl) (h5 : P.eqGuardType P.depth t = false := by kernel_rfl) (h6 : (fields.all fun f => f.name != "_") = true := by kernel_rfl)
  (hi:(P.info? t).map (fun j=>(j.size,j.bytes,j.zero))=some (a,b,some z):=by kernel_rfl):Yq P ((t,⟨.struct fs,a,b,z⟩) :: tt):=Zfa ⟨hi,⟨fields,hu,h1,h2,h3,h4,h5,h6⟩⟩ ht
theorem z0 {α:Type} {r:α} {p:Prop} (h:(none:Option α)=some r):p:=by cases h
end
def mnI (a b:Int):Int:=if a<b then a else b
def mxI (a b:Int):Int:=if a>b then a else b
end Go.SK

namespace Go.SK
open Go Go.RowKit

section
theorem Zg {P} {f} {fn} {c} {args} {pre} {rd} {Post} (hf : P.funcs[f]? = some fn) (h : ∀ w0 F0, St w0 F0 pre rd w0 → J P fn.ntmps c (Zde P fn w0 F0 Post) (Ww 0 args) w0) (hb : fn.body = some c := by exact rfl) (hn : (fn.name == "runtime.NumGoroutine") = false := by kernel_rfl) (hs : Nat.ble args.length fn.ntmps = true := by kernel_rfl) :
  Spec P f args pre rd Post:=
 Spec.enter hf hb hn hs h
end
section
variable {P:Program} {tt:TT} {n:Nat} {env:Env} {w w0:World} {F0:Ft} {Hs Rs:List Ch} {ops:List Oper} {K:Env->World->Prop} {o:Oper} {l:List Oper} {PQ:Xg} {S:World->Prop} {done:List Nat}
theorem Za [i:TTI P tt] {id} {E} (ts) (hk:PQ .normal E w) (h:Bz tt n ops ts ops env=some E:=by exact rfl) :
  J P n (.region id ops.toArray false) PQ env w:=
 Zsv ts h hk
end
section
theorem Zi {P} {fn} {env} {w} {vs} (h:Jd env fn.results.toList=some vs:=by exact rfl) :
  ∀ n a,Fr n env a->(results fn a.tmps).run P w=.ok (Jg vs) w:=
 Ue h
end
section
variable {P:Program} {n:Nat} {env:Env} {w:World} {ops:List Oper} {K:Env->World->Prop} {o:Oper} {l:List Oper}
theorem Yd {K'} (ho:OpT P o env w K') (h:∀ v w',K' v w'->RJ P n ops l K (Xe o.dst v env) w') (hw:Ye ops env o=some true:=by exact rfl) (hd:Xs n o.dst=true:=by exact rfl) :
  RJ P n ops (o :: l) K env w:=
 RJ.op hw hd ho h
end
section
variable {P:Program} {n:Nat} {env:Env} {w:World} {ops:List Oper} {K:Env->World->Prop} {o:Oper} {l:List Oper}
theorem Zh {v} (ho:QOp P o env (·=w) v) (h:RJ P n ops l K (Xe o.dst v env) w) (hw:Ye ops env o=some true:=by exact rfl) (hd:Xs n o.dst=true:=by exact rfl) :
  RJ P n ops (o :: l) K env w:=
 RJ.q hw hd ho h
end
section
variable {P:Program} {tt:TT} {env:Env} {S:World->Prop} {o:Oper} {w0:World} {F0:Ft} {Hs Rs:List Ch}
theorem Ze {t:Nat} {x:Operand} {i:TI} {b:Nat} {off:Nat} {tb:Nat} {cs:List Value} {v:Value} [q_:TTI P tt] (k:Nat) (hS:∀ w,S w->Wh w0 F0 Hs Rs w) (hk:nth Hs k=some (Yx b tb cs):=by exact rfl) (ho:o.op=.load t x:=by exact rfl) (hi:find tt t=some i:=by exact rfl) (ha:Zl env x=some (.pointer (some ⟨b,off,none⟩)):=by exact rfl) (hp:Wv i ((cs.drop off).take i.size)=some v:=by exact rfl) :
  QOp P o env S v:=
 Jz q_.ok k hS hk ho hi ha hp
end
section
variable {P:Program} {tt:TT} {env:Env} {o:Oper} {w0 w:World} {F0:Ft} {Hs Rs:List Ch}
theorem Ub {f} {xs} {ts:Array TypeId} {fx} {vs} {pre} {rd} {rest} {Post} (ks) (hsp:Spec P f vs pre rd Post) (hS:St w0 F0 Hs Rs w) (hp:pick ks Hs=some (pre,rest)) (hr:∀ c∈rd,Gives (rest ++ Rs) c) (ho:o.op=.call { callee:=.value fx,args:=xs,argTypes:=ts }:=by exact rfl) (hfx:Zl env fx=some (.func (.func f) #[] #[]):=by exact rfl) (hv:Yt env xs.toList=some vs:=by exact rfl) :
  OpT P o env w (fun v w'=>∃ post,Post v post/\St w0 F0 (post ++ rest) Rs w'):=
 Bl ks hsp ho hfx hv hS hp hr
end
section
theorem Zn {P} {n} {PQ:Xg} {env} {w} {c} {x} {y} (h:J P n x PQ env w) (hc:Zl env c=some (.bool true):=by exact rfl) :
  J P n (.cond c x y) PQ env w:=
 J.condT hc h
end
section
theorem Zs {P} {n} {ops} {id} {PQ:Xg} {env} {w0} {w} {F0} {Hs} {Rs} {tt_:TT} [q_:TTI P tt_] (h0:St w0 F0 Hs Rs w) (h:HJ P n ops (Wh w0 F0 Hs Rs) (PQ .normal) [] env { w with drawn:=w.drawn+1 }) :
  J P n (.region id ops.toArray true) PQ env w:=
 J.heldSt q_.mix h0 h
end
section
variable {P:Program} {n:Nat} {env:Env} {w:World} {ops:List Oper} {K:Env->World->Prop} {S:World->Prop} {o:Oper} {done:List Nat}
theorem Zc {v:Value} (i:Nat) {t:Nat} (hi:nth ops i=some o) (ho:QOp P o env S v) (h:HJ P n ops S K (i :: done) ((t,v) :: env) w) (hs:X0 ops=true:=by exact rfl) (ht:Jx ops done i o=true:=by exact rfl) (hw:Ye ops env o=some true:=by exact rfl) (hd:o.dst=some t:=by exact rfl) (hn:Nat.ble (t+1) n=true:=by exact rfl) :
  HJ P n ops S K done env w:=
 HJ.q hs hi ht hw hd hn ho h (i:=i)
end
section
variable {P:Program} {n:Nat} {env:Env} {w:World} {ops:List Oper} {K:Env->World->Prop} {S:World->Prop} {o:Oper} {done:List Nat}
theorem Yi {K'} (i) (hi:nth ops i=some o) (ho:OpT P o env w K') (h:∀ v w',K' v w'->S w'/\HJ P n ops S K (i :: done) (Xe o.dst v env) w') (hs:X0 ops=true:=by exact rfl) (hr:J1 ops done i o=true:=by exact rfl) (hw:Ye ops env o=some true:=by exact rfl) (hd:Xs n o.dst=true:=by exact rfl) :
  HJ P n ops S K done env w:=
 HJ.op hs hi hr hw hd ho h (i:=i)
end
section
variable {P:Program} {env:Env} {S:World->Prop} {o:Oper}
theorem Zkq {xa} {ya} {za} {ts:Array TypeId} {k} {x} {y} {z} (ho:o.op=.call { callee:=.builtin .max,args:=#[xa,ya,za],argTypes:=ts }:=by exact rfl) (hx:Zl env xa=some (.int k x):=by exact rfl) (hy:Zl env ya=some (.int k y):=by exact rfl) (hz:Zl env za=some (.int k z):=by exact rfl) :
  QOp P o env S (.int k (if z>(if y>x then y else x) then z else (if y>x then y else x))):=
 Zqq ho hx hy hz
end
section
variable {P:Program} {n:Nat} {env:Env} {w:World} {ops:List Oper} {K:Env->World->Prop} {S:World->Prop} {o:Oper} {done:List Nat}
theorem Xt {K'} (i) (hi:nth ops i=some o) (ho:OpT P o env w K') (h:∀ v w',K' v w'->S w'/\HJ P n ops S K (i :: done) (Xe o.dst v env) w') (hw:Ye ops env o=some true:=by exact rfl) (hd:Xs n o.dst=true:=by exact rfl) :
  HS P n ops S K done env w i:=
 HS.op hi hw hd ho h (i:=i)
end
section
variable {P:Program} {tt:TT} {o:Oper} {env:Env}
theorem Zmt {t:Nat} {yt:Nat} {k:IntKind} {x:Operand} {y:Operand} {a:Int} {b:Int} {S:World->Prop} (hb:0<b) (ho:o.op=.binOp .quo t x y yt:=by exact rfl) (hx:Zl env x=some (.int k a):=by exact rfl) (hy:Zl env y=some (.int k b):=by exact rfl) :
  QOp P o env S (.int k (k.wrap (a.tdiv b))):=
 Zr0 ho hx hy hb
end
section
variable {P:Program} {tt:TT} {env:Env} {S:World->Prop} {o:Oper} {w0:World} {F0:Ft} {Hs Rs:List Ch}
theorem Zj {t:Nat} {e:Nat} {x:Operand} {ix:Operand} {A:Option Addr} {n:Nat} {c:Nat} {i:Int} {ki:IntKind} {z1:Nat} {z2:Nat} {z:Value} {ie:TI} [q_:TTI P tt] (hA:A=some ⟨blk A,ofs A,none⟩) (h0:0<=i) (h1:i<n) (ho:o.op=.indexAddr t x ix:=by exact rfl) (ht:find tt t=some ⟨.slice e,z1,z2,z⟩:=by exact rfl) (he:find tt e=some ie:=by exact rfl) (hv:Zl env x=some (.slice A n c):=by exact rfl) (hx:Zl env ix=some (.int ki i):=by exact rfl) :
  QOp P o env S (.pointer (some ⟨blk A,ofs A+i.toNat*ie.size,none⟩)):=
 Zb5 q_.ok ho ht he hv hx hA h0 h1
end
section
variable {P:Program} {tt:TT} {env:Env} {o:Oper} {w0 w:World} {F0:Ft} {Hs Rs:List Ch}
theorem Zo {t:Nat} {e:Nat} (f:Nat) {sz:Nat} {c:Nat} {x:Operand} {y:Operand} {i:TI} (ty:Ty) [Inhabited ty.D] {xs:List ty.D} {A:Option Addr} (ix:Int) {v:Value} [q_:TTI P tt] (new:ty.D) (k:Nat) (hS:St w0 F0 Hs Rs w) (hk:nth Hs k=some (Yg e ty xs (.slice A xs.length c))) (h0:0<=ix) (h1:ix<xs.length) (hsc:ty.scal=true:=by exact rfl) (ho:o.op=.store t x y:=by exact rfl) (hi:find tt t=some i:=by exact rfl) (ha:Zl env x=some (.pointer (some ⟨blk A,ofs A+ix.toNat*sz+f,none⟩)):=by exact rfl) (hv:Zl env y=some v:=by exact rfl) (hn:ty.n=sz:=by exact rfl) (hsz:Nat.beq v.cells.toList.length i.size=true:=by exact rfl) (hle:Nat.ble (f+i.size) sz=true:=by exact rfl) (hc1:v.cells.toList.all (fun u=>u.oneCell')=true:=by exact rfl) (hnew:Z0 f v.cells.toList (ty.enc (gt xs ix))=ty.enc new:=by exact rfl) :
  OpT P o env w (fun _ w'=>St w0 F0 (Yg e ty (xs.set ix.toNat new) (.slice A (xs.set ix.toNat new).length c) :: Hs.eraseIdx k) Rs w'):=
 Zgk q_.ok hsc new k ho hS hk hi h0 h1 ha hv hn hsz hle hc1 hnew (f:=f) (ty:=ty) (ix:=ix)
end
section
theorem Zz {P} {n} {PQ:Xg} {env} {w} {c} {x} {y} (h:J P n y PQ env w) (hc:Zl env c=some (.bool false):=by exact rfl) :
  J P n (.cond c x y) PQ env w:=
 J.condF hc h
end
section
variable {P:Program} {tt:TT} {env:Env} {S:World->Prop} {o:Oper} {w0:World} {F0:Ft} {Hs Rs:List Ch}
theorem Zb {E:Nat} {t:Ty} [Inhabited t.D] {xs:List t.D} {A:Option Addr} {m:Nat} {c:Nat} {ty:Nat} {x:Operand} {i:TI} {ix:Int} (f:Nat) {sz:Nat} {v:Value} [q_:TTI P tt] (hS:∀ w,S w->Wh w0 F0 Hs Rs w) (hg:Gives (Hs ++ Rs) (rdC E t xs (.slice A m c))) (h0:0<=ix) (h1:ix<xs.length) (hfl:t.flat=true:=by exact rfl) (ho:o.op=.load ty x:=by exact rfl) (hsz:t.n=sz:=by exact rfl) (hi:find tt ty=some i:=by exact rfl) (ha:Zl env x=some (.pointer (some ⟨blk A,ofs A+ix.toNat*sz+f,none⟩)):=by exact rfl) (hp:Wv i (((t.enc (gt xs ix)).drop f).take i.size)=some v:=by exact rfl) :
  QOp P o env S v:=
 Zck q_.ok hfl hS hg h0 h1 ho hsz hi ha hp (f:=f)
end
section
variable {P:Program} {tt:TT} {o:Oper} {env:Env}
theorem Zft {t:Nat} {yt:Nat} {k:IntKind} {k':IntKind} {x:Operand} {y:Operand} {a:Int} {b:Int} {S:World->Prop} (hb:0<=b) (ho:o.op=.binOp .shr t x y yt:=by exact rfl) (hx:Zl env x=some (.int k a):=by exact rfl) (hy:Zl env y=some (.int k' b):=by exact rfl) :
  QOp P o env S (.int k (a.fdiv (2 ^ (min b.toNat k.bits)))):=
 Zr8 ho hx hy hb
end
section
variable {P:Program} {tt:TT} {o:Oper} {env:Env}
theorem G8 {t:Nat} {yt:Nat} {k:IntKind} {k':IntKind} {x:Operand} {y:Operand} {a:Int} {b:Int} {S:World->Prop} (hb:0<=b) (ho:o.op=.binOp .shl t x y yt:=by exact rfl) (hx:Zl env x=some (.int k a):=by exact rfl) (hy:Zl env y=some (.int k' b):=by exact rfl) :
  QOp P o env S (.int k (k.wrap (a*2 ^ (min b.toNat k.bits)))):=
 Zkd ho hx hy hb
end
section
variable {P:Program} {tt:TT} {env:Env} {o:Oper} {w0 w:World} {F0:Ft} {Hs Rs:List Ch}
theorem Zu {T:Nat} {e:Nat} {m:Nat} {z1:Nat} {z2:Nat} {z:Value} {ie:TI} {ps:Array (Nat×Operand)} {vs:List Value} [q_:TTI P tt] (ty:Ty) (xs:List ty.D) (hS:St w0 F0 Hs Rs w) (hsc:ty.scal=true:=by exact rfl) (ho:o.op=.buildSlice T m ps:=by exact rfl) (ht:find tt T=some ⟨.slice e,z1,z2,z⟩:=by exact rfl) (hi:find tt e=some ie:=by exact rfl) (hpos:0<ie.size:=by decide) (hv:Yt env (ps.toList.map (·.2))=some vs:=by exact rfl) (hm:vs.length=m:=by exact rfl) (hx:xs.length=m:=by exact rfl) (hm2:Nat.ble (m*ie.size) 16777216=true:=by exact rfl) (hix:ps.toList.map (·.1)=List.range' 0 vs.length:=by exact rfl) (hsz:vs.all (fun v=>Nat.beq v.cells.toList.length ie.size)=true:=by exact rfl) (hin:vs.flatMap (fun v=>v.cells.toList)=xs.flatMap ty.enc:=by exact rfl) :
  OpT P o env w (fun v w'=>∃ b,v=.slice (some ⟨b,0,none⟩) xs.length m/\St w0 F0 (Yg e ty xs (.slice (some ⟨b,0,none⟩) xs.length m) :: Hs) Rs w'):=
 Zqw q_.ok ty hsc xs ho hS ht hi hpos hv hm hx hm2 hix hsz hin
end
section
theorem Zf {l} {c} (k) (h:nth l k=some c:=by exact rfl) :
  Gives l c:=
 Gives.self k h
end
section
variable {P:Program} {tt:TT} {env:Env} {S:World->Prop} {o:Oper} {w0 w:World} {F0:Ft} {Hs Rs:List Ch}
theorem Zt {t:Nat} {e:Nat} {xa:Operand} {ya:Operand} {z1:Nat} {z2:Nat} {z:Value} {ie:TI} {ty:Ty} {xs:List ty.D} {ys:List ty.D} {v:Value} {A:Option Addr} {m:Nat} {c:Nat} [q_:TTI P tt] (k:Nat) (hS:St w0 F0 Hs Rs w) (hg:Gives (Hs.eraseIdx k ++ Rs) (rdC e ty ys (.slice A m c))) (hl:(xs.length+ys.length)*ie.bytes<=140737488355328) (hsc:ty.scal=true:=by exact rfl) (ho:o.op=.call { callee:=.builtin .append,args:=#[xa,ya],argTypes:=#[t,t] }:=by exact rfl) (hk:nth Hs k=some (Yg e ty xs v):=by exact rfl) (hx:Zl env xa=some v:=by exact rfl) (hy:Zl env ya=some (.slice A m c):=by exact rfl) (ht:find tt t=some ⟨.slice e,z1,z2,z⟩:=by exact rfl) (hi:find tt e=some ie:=by exact rfl) (hn:ty.n=ie.size:=by exact rfl) (hz:Nat.beq ie.zero.cells.toList.length ie.size=true:=by exact rfl) (hpos:0<ie.size:=by decide) (hby:0<ie.bytes:=by decide) :
  OpT P o env w (fun v' w'=>∃ A' c',v'=.slice A' (xs ++ ys).length c'/\St w0 F0 (Yg e ty (xs ++ ys) (.slice A' (xs ++ ys).length c') :: Hs.eraseIdx k) Rs w'):=
 Zmu q_.ok hsc k ho hS hk hg hx hy ht hi hn hz hpos hby hl
end
section
variable {P:Program} {tt:TT} {env:Env} {S:World->Prop} {o:Oper} {w0:World} {F0:Ft} {Hs Rs:List Ch}
theorem Xx {t:Nat} {x:Operand} {ix:Operand} {l:List UInt8} {i:Int} {ki:IntKind} {z1:Nat} {z2:Nat} {z:Value} [q_:TTI P tt] (h0:0<=i) (h1:i<l.length) (ho:o.op=.index t x ix:=by exact rfl) (ht:find tt t=some ⟨.str,z1,z2,z⟩:=by exact rfl) (hv:Zl env x=some (.string ⟨⟨l⟩⟩):=by exact rfl) (hx:Zl env ix=some (.int ki i):=by exact rfl) :
  QOp P o env S (.int .u8 (gtb l i)):=
 Zp9 q_.ok ho ht hv hx h0 h1
end
section
variable {P:Program} {tt:TT} {env:Env} {S:World->Prop} {o:Oper} {w0 w:World} {F0:Ft} {Hs Rs:List Ch}
theorem Vk {α:Type} {t:Nat} {e:Nat} {x:Operand} {hi:Option Operand} {xs:List α} (sub:List α) {A:Option Addr} {c:Nat} (h:Int) {z1:Nat} {z2:Nat} {z:Value} {ie:TI} [q_:TTI P tt] (hlc:xs.length<=c) (h1:0<=h) (h2:h<=(xs.length:Nat)) (ho:o.op=.slice t x none hi none:=by exact rfl) (ht:find tt t=some ⟨.slice e,z1,z2,z⟩:=by exact rfl) (he:find tt e=some ie:=by exact rfl) (hx:Zl env x=some (.slice A xs.length c):=by exact rfl) (hhi:Uk env hi (xs.length:Nat) h:=by exact ⟨_,rfl⟩) (hs:xs.take h.toNat=sub:=by exact rfl) :
  QOp P o env S (.slice A sub.length c):=
 Zqh q_.ok ho ht he hx hlc hhi h1 h2 hs (sub:=sub) (h:=h)
end
section
variable {P:Program} {tt:TT} {env:Env} {S:World->Prop} {o:Oper} {w0 w:World} {F0:Ft} {Hs Rs:List Ch}
theorem Jf {E:Nat} (ty:Ty) {xs:List ty.D} (sub:List ty.D) {A:Option Addr} {n:Nat} {c:Nat} (h:Int) (h1:0<=h) (h2:h<=(xs.length:Nat)) (hs:xs.take h.toNat=sub:=by exact rfl) (w:World) (F:Nat->Prop) (hr:(rdC E ty xs (.slice A n c)).ok w F) :
  (rdC E ty sub (.slice A sub.length c)).ok w F:=
 Zo8 h1 h2 hs w F hr (ty:=ty) (sub:=sub) (h:=h)
end
section
variable {P:Program} {tt:TT} {env:Env} {S:World->Prop} {o:Oper} {w0 w:World} {F0:Ft} {Hs Rs:List Ch}
theorem V1 {α:Type} {t:Nat} {e:Nat} {x:Operand} {lo:Option Operand} {hi:Option Operand} {xs:List α} (sub:List α) {A:Option Addr} {c:Nat} (l:Int) (h:Int) {z1:Nat} {z2:Nat} {z:Value} {ie:TI} [q_:TTI P tt] (hlc:xs.length<=c) (h0:0<=l) (h1:l<=h) (h2:h<=(xs.length:Nat)) (hs:(xs.drop l.toNat).take (h.toNat - l.toNat)=sub) (ho:o.op=.slice t x lo hi none:=by exact rfl) (ht:find tt t=some ⟨.slice e,z1,z2,z⟩:=by exact rfl) (he:find tt e=some ie:=by exact rfl) (hx:Zl env x=some (.slice A xs.length c):=by exact rfl) (hlo:Uk env lo 0 l:=by exact ⟨_,rfl⟩) (hhi:Uk env hi (xs.length:Nat) h:=by exact rfl) :
  QOp P o env S (.slice (Vn A c l.toNat ie.size) sub.length (c - l.toNat)):=
 Zj7 q_.ok ho ht he hx hlc hlo hhi h0 h1 h2 hs (sub:=sub) (l:=l) (h:=h)
end
section
theorem Vl {E:Nat} (ty:Ty) {xs:List ty.D} (sub:List ty.D) {A:Option Addr} {n:Nat} {c:Nat} (l:Int) (h:Int) {sz:Nat} (h0:0<=l) (h1:l<=h) (h2:h<=(xs.length:Nat)) (hs:(xs.drop l.toNat).take (h.toNat - l.toNat)=sub) (hsz:ty.n=sz:=by exact rfl) (w:World) (F:Nat->Prop) (hr:(rdC E ty xs (.slice A n c)).ok w F) :
  (rdC E ty sub (.slice (Vn A c l.toNat sz) sub.length (c - l.toNat))).ok w F:=
 Zbq hsz h0 h1 h2 hs w F hr (ty:=ty) (sub:=sub) (l:=l) (h:=h)
end
section
variable {P:Program} {tt:TT} {o:Oper} {env:Env}
theorem W2 {t:Nat} {yt:Nat} {k:IntKind} {x:Operand} {y:Operand} {a:Int} {b:Int} {S:World->Prop} (hb:0<b) (ho:o.op=.binOp .rem t x y yt:=by exact rfl) (hx:Zl env x=some (.int k a):=by exact rfl) (hy:Zl env y=some (.int k b):=by exact rfl) :
  QOp P o env S (.int k (a.tmod b)):=
 Zrw ho hx hy hb
end
section
variable {P:Program} {tt:TT} {env:Env} {S:World->Prop} {o:Oper}
theorem Zbe {t:Nat} {x:Operand} {lo:Option Operand} {hi:Option Operand} {xs:List UInt8} {sub:List UInt8} (l:Int) (h:Int) {z1:Nat} {z2:Nat} {z:Value} [q_:TTI P tt] (h1:l<=h) (h2:h<=(xs.length:Nat)) (hs:(xs.drop l.toNat).take (h.toNat - l.toNat)=sub) (ho:o.op=.slice t x lo hi none:=by exact rfl) (ht:find tt t=some ⟨.str,z1,z2,z⟩:=by exact rfl) (hx:Zl env x=some (.string ⟨⟨xs⟩⟩):=by exact rfl) (hlo:Uk env lo 0 l:=by exact rfl) (hhi:Uk env hi (xs.length:Nat) h:=by exact ⟨_,rfl⟩) (h0:0<=l:=by decide) :
  QOp P o env S (.string ⟨⟨sub⟩⟩):=
 Zob q_.ok ho ht hx hlo hhi h0 h1 h2 hs (l:=l) (h:=h)
end
section
theorem Yr {P} {f} {fn} {c} {args} {pre} {rd} {Post} (hf : P.funcs[f]? = some fn) (h : ∀ w0 F0, St w0 F0 pre rd w0 → J P fn.ntmps c (Zdz P fn w0 F0 Post) (Ww 0 args) w0) (hb : fn.body = some c := by exact rfl) (hn : (fn.name == "runtime.NumGoroutine") = false := by kernel_rfl) (hs : Nat.ble args.length fn.ntmps = true := by kernel_rfl) :
  SpecA P f args pre rd Post:=
 SpecA.enter hf hb hn hs h
end
section
variable {P:Program} {tt:TT} {env:Env} {S:World->Prop} {o:Oper} {w0 w:World} {F0:Ft} {Hs Rs:List Ch}
theorem Wr {a} {b} {x:(Ty.pair a b).D} {cs} (k) (h:St w0 F0 Hs Rs w) (hk:nth Rs k=some (okC (.pair a b) x cs):=by exact rfl) :
  ∃ c1 c2,cs=c1 ++ c2/\St w0 F0 Hs (okC a x.1 c1 :: okC b x.2 c2 :: Rs) w:=
 St.okpr k h hk
end
section
variable {P:Program} {tt:TT} {env:Env} {S:World->Prop} {o:Oper} {w0 w:World} {F0:Ft} {Hs Rs:List Ch}
theorem Zaw (t) {x:t.D} {cs} (k) (h:St w0 F0 Hs Rs w) (hfl:t.flat=true:=by exact rfl) (hk:nth Rs k=some (okC t x cs):=by exact rfl) :
  cs=t.enc x:=
 St.okflat hfl k h hk (t:=t)
end
section
variable {P:Program} {tt:TT} {env:Env} {S:World->Prop} {o:Oper} {w0 w:World} {F0:Ft} {Hs Rs:List Ch}
theorem Xn {E} {t} {xs:List t.D} {cs} (k) (h:St w0 F0 Hs Rs w) (hk:nth Rs k=some (okC (.slice E t) xs cs):=by exact rfl) :
  ∃ A c,cs=[.slice A xs.length c]:=
 St.okslice k h hk
end
section
variable {P:Program} {tt:TT} {env:Env} {o:Oper} {w0 w:World} {F0:Ft} {Hs Rs:List Ch}
theorem Zy {f} {xs} {ts:Array TypeId} {fx} {vs} {pre} {rd} {rest} {Post} (ks) (hsp:SpecA P f vs pre rd Post) (hS:St w0 F0 Hs Rs w) (hp:pick ks Hs=some (pre,rest)) (hr:∀ c∈rd,Gives Rs c) (ho:o.op=.call { callee:=.value fx,args:=xs,argTypes:=ts }:=by exact rfl) (hfx:Zl env fx=some (.func (.func f) #[] #[]):=by exact rfl) (hv:Yt env xs.toList=some vs:=by exact rfl) :
  OpT P o env w (fun v w'=>∃ post rp,Post v post rp/\St w0 F0 (post ++ rest) (rp ++ Rs) w'):=
 Zof ks hsp ho hfx hv hS hp hr
end
section
variable {P:Program} {tt:TT} {env:Env} {S:World->Prop} {o:Oper} {w0:World} {F0:Ft} {Hs Rs:List Ch}
theorem V9 {E:Nat} {t:Ty} [Inhabited t.D] {xs:List t.D} {A:Option Addr} {m:Nat} {c:Nat} {w:World} {i:Int} (hS:Wh w0 F0 Hs Rs w) (hg:Gives (Hs ++ Rs) (rdC E t xs (.slice A m c))) (h1:i<xs.length) (h0:0<=i:=by decide) :
  A=some ⟨blk A,ofs A,none⟩:=
 J9 hS hg h0 h1
end
section
variable {P:Program} {tt:TT} {env:Env} {S:World->Prop} {o:Oper} {w0:World} {F0:Ft} {Hs Rs:List Ch}
theorem Vt {t:Nat} {e:Nat} {x:Operand} {ix:Operand} {A:Option Addr} {n:Nat} {c:Nat} {i:Int} {ki:IntKind} {z1:Nat} {z2:Nat} {z:Value} {ie:TI} [q_:TTI P tt] (hA:A=some ⟨blk A,ofs A,none⟩) (h1:i<n) (ho:o.op=.indexAddr t x ix:=by exact rfl) (ht:find tt t=some ⟨.slice e,z1,z2,z⟩:=by exact rfl) (he:find tt e=some ie:=by exact rfl) (hv:Zl env x=some (.slice A n c):=by exact rfl) (hx:Zl env ix=some (.int ki i):=by exact rfl) (h0:0<=i:=by decide) :
  QOp P o env S (.pointer (some ⟨blk A,ofs A+i.toNat*ie.size,none⟩)):=
 Zb5 q_.ok ho ht he hv hx hA h0 h1
end
section
variable {P:Program} {tt:TT} {env:Env} {S:World->Prop} {o:Oper} {w0:World} {F0:Ft} {Hs Rs:List Ch}
theorem Wi {E:Nat} {t:Ty} [Inhabited t.D] {xs:List t.D} {A:Option Addr} {m:Nat} {c:Nat} {ty:Nat} {x:Operand} {i:TI} {ix:Int} (f:Nat) {sz:Nat} {v:Value} [q_:TTI P tt] (hS:∀ w,S w->Wh w0 F0 Hs Rs w) (hg:Gives (Hs ++ Rs) (rdC E t xs (.slice A m c))) (h1:ix<xs.length) (hfl:t.flat=true:=by exact rfl) (h0:0<=ix:=by decide) (ho:o.op=.load ty x:=by exact rfl) (hsz:t.n=sz:=by exact rfl) (hi:find tt ty=some i:=by exact rfl) (ha:Zl env x=some (.pointer (some ⟨blk A,ofs A+ix.toNat*sz+f,none⟩)):=by exact rfl) (hp:Wv i (((t.enc (gt xs ix)).drop f).take i.size)=some v:=by exact rfl) :
  QOp P o env S v:=
 Zck q_.ok hfl hS hg h0 h1 ho hsz hi ha hp (f:=f)
end
section
theorem Uy {w0} {w} {F0} {Hs} {Rs} {cs} (h:St w0 F0 Hs Rs w) (ks) (hc:sel ks Rs=some cs:=by exact rfl) :
  St w0 F0 Hs cs w:=
 St.rds h ks hc
end
section
theorem Zgy {P} {env} {S} {o} {f} {xs} {ts:Array TypeId} {fx} {a} {b} (hc:CmpStr P f) (ho:o.op=.call { callee:=.value fx,args:=xs,argTypes:=ts }:=by exact rfl) (hfx:Zl env fx=some (.func (.func f) #[] #[]):=by exact rfl) (hv:Yt env xs.toList=some [.string ⟨⟨a⟩⟩,.string ⟨⟨b⟩⟩]:=by exact rfl) :
  QOp P o env S (.int .i64 (Xm a b)):=
 Znn hc ho hfx hv
end
section
variable {P:Program} {tt:TT} {env:Env} {o:Oper} {w0 w:World} {F0:Ft} {Hs Rs:List Ch}
theorem V4 {f} {xs} {ts:Array TypeId} {fx} (vs) (cs) {pre} {rd} {rest} {Post} (ks) (hsp:Spec P f (vs ++ cs) pre rd Post) (hS:St w0 F0 Hs Rs w) (hp:pick ks Hs=some (pre,rest)) (hr:∀ c∈rd,Gives (rest ++ Rs) c) (ho:o.op=.call { callee:=.value fx,args:=xs,argTypes:=ts }:=by exact rfl) (hfx:Zl env fx=some (.func (.func f) #[] cs.toArray):=by exact rfl) (hv:Yt env xs.toList=some vs:=by exact rfl) :
  OpT P o env w (fun v w'=>∃ post,Post v post/\St w0 F0 (post ++ rest) Rs w'):=
 Znw ks hsp ho hfx hv hS hp hr (vs:=vs) (cs:=cs)
end
section
variable {P:Program} {n:Nat} {PQ:Xg} {env:Env} {w:World}
theorem U1 {c} {x} {y} {b} (ht:b=true->J P n x PQ env w) (hn:b=false->J P n y PQ env w) (hc:Zl env c=some (.bool b):=by exact rfl) :
  J P n (.cond c x y) PQ env w:=
 J.cond hc ht hn
end
section
variable {P:Program} {n:Nat} {env:Env} {w:World} {ops:List Oper} {K:Env->World->Prop} {S:World->Prop} {o:Oper} {done:List Nat}
theorem Zin (t) {u} {v} (hv:u=v) (h:HJ P n ops S K done ((t,v) :: env) w) (hl:Z8 env t=some u:=by exact rfl) :
  HJ P n ops S K done env w:=
 HJ.know hl hv h (t:=t)
end
section
variable {P:Program} {tt:TT} {env:Env} {o:Oper} {w0 w:World} {F0:Ft} {Hs Rs:List Ch}
theorem Zcc {t:Nat} {ts:Nat} {e:Nat} {xa:Operand} {ya:Operand} {z1:Nat} {z2:Nat} {z3:Nat} {z4:Nat} {z:Value} {zs:Value} {xs:List Int} {s:List UInt8} {v:Value} [q_:TTI P tt] (k:Nat) (hS:St w0 F0 Hs Rs w) (hl:xs.length+s.length<=140737488355328) (ho:o.op=.call { callee:=.builtin .append,args:=#[xa,ya],argTypes:=#[t,ts] }:=by exact rfl) (hk:nth Hs k=some (Yg e (.int .u8) xs v):=by exact rfl) (hx:Zl env xa=some v:=by exact rfl) (hy:Zl env ya=some (.string ⟨⟨s⟩⟩):=by exact rfl) (ht:find tt t=some ⟨.slice e,z1,z2,z⟩:=by exact rfl) (hts:find tt ts=some ⟨.str,z3,z4,zs⟩:=by exact rfl) (hi:find tt e=some ⟨.int .u8,1,1,.int .u8 0⟩:=by exact rfl) :
  OpT P o env w (fun v' w'=>∃ A' c',v'=.slice A' (xs ++ toB s).length c'/\St w0 F0 (Yg e (.int .u8) (xs ++ toB s) (.slice A' (xs ++ toB s).length c') :: Hs.eraseIdx k) Rs w'):=
 Zgi q_.ok k ho hS hk hx hy ht hts hi hl
end
section
variable {P:Program} {tt:TT} {env:Env} {o:Oper} {w0 w:World} {F0:Ft} {Hs Rs:List Ch}
theorem Xd {n : Nat} {ops : List Oper} {l : List Oper} {K : Env → World → Prop} {f : Nat} {fn : Func} {c : Code} {xs : Array Operand} {ts : Array TypeId} {fx : Operand} {vs : List Value} (hf : P.funcs[f]? = some fn) (hj : J P fn.ntmps c (Zdu P fn (fun v w' => RJ P n ops l K (Xe o.dst v env) w')) (Ww 0 vs) w) (hw : Ye ops env o = some true := by exact rfl) (hd : Xs n o.dst = true := by exact rfl) (ho : o.op = .call { callee := .value fx, args := xs, argTypes := ts } := by exact rfl) (hfx : Zl env fx = some (.func (.func f) #[] #[]) := by exact rfl) (hv : Yt env xs.toList = some vs := by exact rfl) (hb : fn.body = some c := by exact rfl) (hn : (fn.name == "runtime.NumGoroutine") = false := by kernel_rfl) (hs : Nat.ble vs.length fn.ntmps = true := by kernel_rfl) :
  RJ P n ops (o :: l) K env w:=
 RJ.inline hw hd ho hfx hv hf hb hn hs hj
end
section
variable {P:Program} {tt:TT} {env:Env} {S:World->Prop} {o:Oper} {w0 w:World} {F0:Ft} {Hs Rs:List Ch} {α:Type} {k:IntKind} {f:α->Value}
theorem W5 {t:Nat} {kt:Nat} {et:Nat} {x:Operand} {y:Operand} {b:Nat} {ix:Int} {es:List (Int×α)} {it:TI} {ik:TI} {ie:TI} [q_:TTI P tt] (d:α) (n:Nat) (hS:∀ w,S w->Wh w0 F0 Hs Rs w) (hk:nth Hs n=some (Yh k f b es):=by exact rfl) (ho:o.op=.lookup t x y true:=by exact rfl) (hi:find tt t=some it:=by exact rfl) (hkm:it.kind=.map kt et:=by exact rfl) (hki:find tt kt=some ik:=by exact rfl) (hkk:ik.kind=.int k:=by exact rfl) (hei:find tt et=some ie:=by exact rfl) (hz:ie.zero=f d:=by exact rfl) (hx:Zl env x=some (.map (some b)):=by exact rfl) (hy:Zl env y=some (.int k ix):=by exact rfl) :
  QOp P o env S (.tuple #[f (Zm d es ix),.bool (Y6 es ix)]):=
 Zi0 q_.ok d n hS hk ho hi hkm hki hkk hei hz hx hy
end
section
variable {P:Program} {tt:TT} {env:Env} {S:World->Prop} {o:Oper} {w0 w:World} {F0:Ft} {Hs Rs:List Ch}
theorem Xa {E:Nat} {t:Ty} [Inhabited t.D] {xs:List t.D} {A:Option Addr} {m:Nat} {c:Nat} {ty:Nat} {x:Operand} {i:TI} {ix:Int} (f:Nat) {sz:Nat} {u:Value} {v:Value} [q_:TTI P tt] (hS:∀ w,S w->Wh w0 F0 Hs Rs w) (hg:Gives (Hs ++ Rs) (rdC E t xs (.slice A m c))) (h0:0<=ix) (h1:ix<xs.length) (ho:o.op=.load ty x:=by exact rfl) (hsz:t.n=sz:=by exact rfl) (hi:find tt ty=some i:=by exact rfl) (ha:Zl env x=some (.pointer (some ⟨blk A,ofs A+ix.toNat*sz+f,none⟩)):=by exact rfl) (hu:t.at? (gt xs ix) f=some u:=by exact rfl) (hp:Wv i [u]=some v:=by exact rfl) :
  QOp P o env S v:=
 Ziu q_.ok hS hg h0 h1 ho hsz hi ha hu hp (f:=f)
end
section
variable {P:Program} {tt:TT} {env:Env} {S:World->Prop} {o:Oper} {w0 w:World} {F0:Ft} {Hs Rs:List Ch}
theorem Vp {t:Nat} {e:Nat} (f:Nat) {sz:Nat} {c:Nat} {e2:Nat} {x:Operand} {y:Operand} {i:TI} (ty:Ty) {t2:Ty} [Inhabited ty.D] {xs:List ty.D} {A:Option Addr} (ix:Int) {v:Value} {sv:Value} {ys:List t2.D} [q_:TTI P tt] (new:ty.D) (hS:St w0 F0 (Zgp (Yg e ty xs (.slice A xs.length c)) (Yg e2 t2 ys sv) :: Hs) Rs w) (h0:0<=ix) (h1:ix<xs.length) (hnew:∀ w F cs,ty.ok w F (gt xs ix) cs->(rdC e2 t2 ys sv).ok w F->ty.ok w F new (Z0 f v.cells.toList cs)) (ho:o.op=.store t x y:=by exact rfl) (hi:find tt t=some i:=by exact rfl) (ha:Zl env x=some (.pointer (some ⟨blk A,ofs A+ix.toNat*sz+f,none⟩)):=by exact rfl) (hv:Zl env y=some v:=by exact rfl) (hn:ty.n=sz:=by exact rfl) (hsz:Nat.beq v.cells.toList.length i.size=true:=by exact rfl) (hle:Nat.ble (f+i.size) sz=true:=by exact rfl) (hc1:v.cells.toList.all (fun u=>u.oneCell')=true:=by exact rfl) :
  OpT P o env w (fun _ w'=>St w0 F0 (Yg e ty (xs.set ix.toNat new) (.slice A (xs.set ix.toNat new).length c) :: Hs) Rs w'):=
 Zha q_.ok new ho hS hi h0 h1 ha hv hn hsz hle hc1 hnew (f:=f) (ty:=ty) (ix:=ix)
end
section
variable {P:Program} {tt:TT} {env:Env} {S:World->Prop} {o:Oper} {w0 w:World} {F0:Ft} {Hs Rs:List Ch}
theorem Vc {t:Nat} {e:Nat} (f:Nat) {sz:Nat} {c:Nat} {x:Operand} {y:Operand} {i:TI} (ty:Ty) [Inhabited ty.D] {xs:List ty.D} {A:Option Addr} (ix:Int) {v:Value} [q_:TTI P tt] (new:ty.D) (k:Nat) (hS:St w0 F0 Hs Rs w) (hk:nth Hs k=some (Yg e ty xs (.slice A xs.length c))) (h0:0<=ix) (h1:ix<xs.length) (hnew:∀ w F cs,ty.ok w F (gt xs ix) cs->ty.ok w F new (Z0 f v.cells.toList cs)) (ho:o.op=.store t x y:=by exact rfl) (hi:find tt t=some i:=by exact rfl) (ha:Zl env x=some (.pointer (some ⟨blk A,ofs A+ix.toNat*sz+f,none⟩)):=by exact rfl) (hv:Zl env y=some v:=by exact rfl) (hn:ty.n=sz:=by exact rfl) (hsz:Nat.beq v.cells.toList.length i.size=true:=by exact rfl) (hle:Nat.ble (f+i.size) sz=true:=by exact rfl) (hc1:v.cells.toList.all (fun u=>u.oneCell')=true:=by exact rfl) :
  OpT P o env w (fun _ w'=>St w0 F0 (Yg e ty (xs.set ix.toNat new) (.slice A (xs.set ix.toNat new).length c) :: Hs.eraseIdx k) Rs w'):=
 Zgf q_.ok new k ho hS hk hi h0 h1 ha hv hn hsz hle hc1 hnew (f:=f) (ty:=ty) (ix:=ix)
end
section
variable {P:Program} {tt:TT} {env:Env} {S:World->Prop} {o:Oper} {w0 w:World} {F0:Ft} {Hs Rs:List Ch}
theorem Zf5 {α:Type} {t:Nat} {e:Nat} {x:Operand} {lo:Option Operand} {hi:Option Operand} {xs:List α} (sub:List α) {A:Option Addr} {c:Nat} (l:Int) (h:Int) {z1:Nat} {z2:Nat} {z:Value} {ie:TI} [q_:TTI P tt] (hlc:xs.length<=c) (h0:0<=l) (h1:l<=h) (h2:h<=(xs.length:Nat)) (ho:o.op=.slice t x lo hi none:=by exact rfl) (ht:find tt t=some ⟨.slice e,z1,z2,z⟩:=by exact rfl) (he:find tt e=some ie:=by exact rfl) (hx:Zl env x=some (.slice A xs.length c):=by exact rfl) (hlo:Uk env lo 0 l:=by exact ⟨_,rfl⟩) (hhi:Uk env hi (xs.length:Nat) h:=by exact ⟨_,rfl⟩) (hs:(xs.drop l.toNat).take (h.toNat - l.toNat)=sub:=by exact rfl) :
  QOp P o env S (.slice (Vn A c l.toNat ie.size) sub.length (c - l.toNat)):=
 Zj7 q_.ok ho ht he hx hlc hlo hhi h0 h1 h2 hs (sub:=sub) (l:=l) (h:=h)
end
section
theorem Gg {l} {c} {c'} (k) (hc:∀ w F,c'.ok w F->c.ok w F) (h:nth l k=some c':=by exact rfl) :
  Gives l c:=
 Gives.of k h hc
end
section
variable {P:Program} {tt:TT} {env:Env} {S:World->Prop} {o:Oper} {w0 w:World} {F0:Ft} {Hs Rs:List Ch}
theorem Zbj {E:Nat} {t:Ty} {t2:Ty} {xs:List t.D} {A:Option Addr} {A2:Option Addr} {c:Nat} {c2:Nat} {E2:Nat} {ys:List t2.D} {ty:Nat} {x:Operand} {i:TI} {ix:Int} {f:Nat} {sz:Nat} {v:Value} [q_:TTI P tt] (hS:∀ w,S w->Wh w0 F0 Hs Rs w) (hg:Gives (Hs ++ Rs) (Zet E t xs A c ix f E2 t2 ys A2 c2)) (ho:o.op=.load ty x:=by exact rfl) (hsz:t.n=sz:=by exact rfl) (hi:find tt ty=some i:=by exact rfl) (ha:Zl env x=some (.pointer (some ⟨blk A,ofs A+ix.toNat*sz+f,none⟩)):=by exact rfl) (hp:Wv i [.slice A2 ys.length c2]=some v:=by exact rfl) :
  QOp P o env S v:=
 Zm9 q_.ok hS hg ho hsz hi ha hp
end
section
variable {P:Program} {tt:TT} {env:Env} {S:World->Prop} {o:Oper} {w0 w:World} {F0:Ft} {Hs Rs:List Ch} {α:Type} {k:IntKind} {f:α->Value}
theorem Vf {t:Nat} {kt:Nat} {et:Nat} {x:Operand} {y:Operand} {b:Nat} {ix:Int} {es:List (Int×α)} {it:TI} {ik:TI} {ie:TI} [q_:TTI P tt] (d:α) (n:Nat) (hS:∀ w,S w->Wh w0 F0 Hs Rs w) (hk:nth Hs n=some (Yh k f b es):=by exact rfl) (ho:o.op=.lookup t x y false:=by exact rfl) (hi:find tt t=some it:=by exact rfl) (hkm:it.kind=.map kt et:=by exact rfl) (hki:find tt kt=some ik:=by exact rfl) (hkk:ik.kind=.int k:=by exact rfl) (hei:find tt et=some ie:=by exact rfl) (hz:ie.zero=f d:=by exact rfl) (hx:Zl env x=some (.map (some b)):=by exact rfl) (hy:Zl env y=some (.int k ix):=by exact rfl) :
  QOp P o env S (f (Zm d es ix)):=
 Znr q_.ok d n hS hk ho hi hkm hki hkk hei hz hx hy
end
section
variable {P:Program} {tt:TT} {env:Env} {S:World->Prop} {o:Oper} {w0 w:World} {F0:Ft} {Hs Rs:List Ch}
theorem Jt {ty:Nat} {x:Operand} {i:TI} {A:Option Addr} {off:Nat} (f:Nat) {cs:List Value} {v:Value} [q_:TTI P tt] (hS:∀ w,S w->Wh w0 F0 Hs Rs w) (hg:Gives (Hs ++ Rs) (elC A off cs)) (ho:o.op=.load ty x:=by exact rfl) (hi:find tt ty=some i:=by exact rfl) (ha:Zl env x=some (.pointer (some ⟨blk A,off+f,none⟩)):=by exact rfl) (hp:Wv i ((cs.drop f).take i.size)=some v:=by exact rfl) :
  QOp P o env S v:=
 Zl0 q_.ok hS hg ho hi ha hp (f:=f)
end
section
variable {P:Program} {n:Nat} {env:Env} {w:World} {ops:List Oper} {K:Env->World->Prop} {o:Oper} {l:List Oper}
theorem Xw (t) {u} {v} (hv:u=v) (h:RJ P n ops l K ((t,v) :: env) w) (hl:Z8 env t=some u:=by exact rfl) :
  RJ P n ops l K env w:=
 RJ.know hl hv h (t:=t)
end
section
variable {P:Program} {tt:TT} {env:Env} {S:World->Prop} {o:Oper} {w0 w:World} {F0:Ft} {Hs Rs:List Ch} {α:Type} {k:IntKind} {f:α->Value}
theorem V7 {t:Nat} (k:IntKind) (f:α->Value) (hS:St w0 F0 Hs Rs w) (ho:o.op=.makeMap t none:=by exact rfl) :
  OpT P o env w (fun v' w'=>∃ b,v'=.map (some b)/\St w0 F0 (Yh k f b [] :: Hs) Rs w'):=
 Zk4 k f ho hS
end
section
theorem Zj8 {E:Nat} (ty:Ty) {xs:List ty.D} (sub:List ty.D) {A:Option Addr} {n:Nat} {c:Nat} (l:Int) (h:Int) {sz:Nat} (h0:0<=l) (h1:l<=h) (h2:h<=(xs.length:Nat)) (hsz:ty.n=sz:=by exact rfl) (hs:(xs.drop l.toNat).take (h.toNat - l.toNat)=sub:=by exact rfl) (w:World) (F:Nat->Prop) (hr:(rdC E ty xs (.slice A n c)).ok w F) :
  (rdC E ty sub (.slice (Vn A c l.toNat sz) sub.length (c - l.toNat))).ok w F:=
 Zbq hsz h0 h1 h2 hs w F hr (ty:=ty) (sub:=sub) (l:=l) (h:=h)
end
section
variable {P:Program} {tt:TT} {env:Env} {o:Oper} {w0 w:World} {F0:Ft} {Hs Rs:List Ch}
theorem Ziv {s:Nat} {d:Nat} {e:Nat} {x:Operand} {z1:Nat} {z2:Nat} {z3:Nat} {z4:Nat} {z5:Nat} {z6:Nat} {z:Value} {z':Value} {z'':Value} {xs:List Int} {A:Option Addr} {n:Nat} {c:Nat} {S:World->Prop} [q_:TTI P tt] (hS:∀ w,S w->Wh w0 F0 Hs Rs w) (hg:Gives (Hs ++ Rs) (rdC e (.int .u8) xs (.slice A n c))) (ho:o.op=.convert s d x:=by exact rfl) (hs:find tt s=some ⟨.slice e,z1,z2,z⟩:=by exact rfl) (he:find tt e=some ⟨.int .u8,z5,z6,z''⟩:=by exact rfl) (hd:find tt d=some ⟨.str,z3,z4,z'⟩:=by exact rfl) (hx:Zl env x=some (.slice A n c):=by exact rfl) :
  QOp P o env S (.string ⟨⟨toS xs⟩⟩):=
 Zpn q_.ok hS hg ho hs he hd hx
end
end Go.SK

namespace Go.SK
open Go Go.RowKit

def X2 (E n m:Nat) (cs:List Value) (v:Value):Ch where
 ok w F:=w.ownsRow 0 E n v m cs/\(∀ b,v.ownBlock=some b->F b)/\∀ u∈cs,u.oneCell'=true
 stable:=fun {w w' F} hs ⟨h1,h2,h3⟩=>⟨⟨h1.1,h1.2.imp id (by
   rintro ⟨g,cap,cur,rfl,hg,hh,r⟩;exact ⟨g,cap,cur,rfl,hg,by rw [hs g (h2 g rfl)]; exact hh,r⟩)⟩,h2,h3⟩
def esC (t:Ty) (xs:List t.D) (cs:List Value):Ch where
 ok w F:=Elems (t.ok w F) xs cs
 stable hs h:=h.imp fun x c h=>t.ok_stable hs h
def Zhw (t:Ty) (ys:List t.D) (inner:List Value) (A:Option Addr):Ch where
 ok w F:=Elems (t.ok w F) ys inner/\(ys=[]\/∃ b off,A=some ⟨b,off,none⟩/\F b/\∀ j v,inner[j]?=some v->w.cell? ⟨b,off+j,none⟩=some v)
 stable:=fun {w w' F} hs ⟨h1,h2⟩=>⟨h1.imp fun x c h=>t.ok_stable hs h,h2.imp id fun ⟨b,off,e,hb,hc⟩=>⟨b,off,e,hb,fun j v hj=>by rw [Gq (hs b hb)]; exact hc j v hj⟩⟩
theorem Elems.ones {t:Ty} {w:World} {F:Nat->Prop}:∀ {xs:List t.D} {cs:List Value},Elems (t.ok w F) xs cs->∀ u∈cs,u.oneCell'=true
 | [],_,e,u,hu=>by rw [show _=[] from e] at hu; cases hu
 | x :: xs,_,⟨c,r,e,h1,h2⟩,u,hu=>by
  rw [e] at hu;rcases List.mem_append.1 hu with hu | hu
  ·exact t.ok_one h1 u hu
  ·exact Elems.ones h2 u hu
section
variable {P:Program} {tt:TT} {env:Env} {o:Oper} {w0 w:World} {F0:Ft} {Hs Rs:List Ch}
theorem St.read2 (h:St w0 F0 Hs Rs w) {c c1 c2} (i j) (h1:nth Rs i=some c1) (h2:nth Rs j=some c2) (hc:∀ w F1 F2,c1.ok w F1->c2.ok w F2->c.ok w (fun b=>F1 b\/F2 b)):St w0 F0 Hs (c :: Rs) w:=by
 obtain ⟨F,hF,hb,hR⟩:=h.sat
 refine ⟨h.chg,F,hF,hb,fun d hd=>?_⟩;rcases List.mem_cons.1 hd with rfl | hd
 ·rw [Yk] at h1 h2;obtain ⟨R1,r1,g1⟩:=hR c1 (List.mem_of_getElem? h1);obtain ⟨R2,r2,g2⟩:=hR c2 (List.mem_of_getElem? h2);exact ⟨_,hc _ _ _ r1 r2,fun b hb'=>hb'.elim (g1 b) (g2 b)⟩
 ·exact hR d hd
theorem St.openRd {E m c} {t} {ys:List t.D} {A} (k) (h:St w0 F0 Hs Rs w) (hk:nth Rs k=some (rdC E t ys (.slice A m c)):=by exact rfl):∃ inner,St w0 F0 Hs (Zhw t ys inner A :: Rs) w:=by
 obtain ⟨F,hF,hb,hR⟩:=h.sat
 rw [Yk] at hk;obtain ⟨R,r,g⟩:=hR _ (List.mem_of_getElem? hk);obtain ⟨A',c',e,_,hr⟩:=r;simp only [List.cons.injEq,and_true,Value.slice.injEq] at e;obtain ⟨rfl,_,_⟩:=e;rcases hr with rfl | ⟨b,off,inner,hA,hbR,hel,hc⟩
 ·refine ⟨[],h.chg,F,hF,hb,fun d hd=>?_⟩;rcases List.mem_cons.1 hd with rfl | hd
  ·exact ⟨fun _=>False,⟨rfl,.inl rfl⟩,fun _ hb=>hb.elim⟩
  ·exact hR d hd
 ·refine ⟨inner,h.chg,F,hF,hb,fun d hd=>?_⟩;rcases List.mem_cons.1 hd with rfl | hd
  ·exact ⟨R,⟨hel,.inr ⟨b,off,hA,hbR,hc⟩⟩,g⟩
  ·exact hR d hd
theorem St.esApp {t} {xs ys:List t.D} {cs inner} {A} (i j) (h:St w0 F0 Hs Rs w) (h1:nth Rs i=some (esC t xs cs):=by exact rfl) (h2:nth Rs j=some (Zhw t ys inner A):=by exact rfl):St w0 F0 Hs (esC t (xs ++ ys) (cs ++ inner) :: Rs) w:=
 h.read2 i j h1 h2 fun w F1 F2 a b=>Elems.append (a.imp fun x c h=>t.ok_mono (fun _ h=>.inl h) h) (b.1.imp fun x c h=>t.ok_mono (fun _ h=>.inr h) h)
theorem Zcm [q:TTI P tt] {t e:Nat} {xa ya:Operand} {z1 z2:Nat} {z:Value} {ie:TI} {ty:Ty} {ys:List ty.D} {v:Value} {A:Option Addr} {m c n:Nat} {cs inner:List Value} (k i:Nat) (hS:St w0 F0 Hs Rs w) (hl:(m+ys.length)*ie.bytes<=140737488355328)
  (ho:o.op=.call { callee:=.builtin .append,args:=#[xa,ya],argTypes:=#[t,t] }:=by exact rfl) (hk:nth Hs k=some (X2 e n m cs v):=by exact rfl) (hg:nth Rs i=some (Zhw ty ys inner A):=by exact rfl) (hx:Zl env xa=some v:=by exact rfl) (hy:Zl env ya=some (.slice A ys.length c):=by exact rfl)
  (ht:find tt t=some ⟨.slice e,z1,z2,z⟩:=by exact rfl) (hi:find tt e=some ie:=by exact rfl) (hn:n=ie.size:=by exact rfl) (hty:ty.n=n:=by exact rfl) (hz:Nat.beq ie.zero.cells.toList.length ie.size=true:=by exact rfl) (hpos:0<ie.size:=by decide) (hby:0<ie.bytes:=by decide) :
  OpT P o env w (fun v' w'=>∃ A' c',v'=.slice A' (m+ys.length) c'/\St w0 F0 (X2 e n (m+ys.length) (cs ++ inner) (.slice A' (m+ys.length) c') :: Hs.eraseIdx k) Rs w'):=
 OpT.value fun nn a hf=>by
  have hkk:=(q.ok _ _ ht).kind;simp only [TK.ok] at hkk;obtain ⟨i0,hi0,hs0,hb0,hz0⟩:=(q.ok _ _ hi).info';have hpk:pick [k] Hs=some ([X2 e n m cs v],Hs.eraseIdx k):=by simp [pick,hk]
  obtain ⟨F,hF,hlt,hgv,hst⟩:=hS.step hpk;obtain ⟨F1,F2,⟨hown,hown2,hones⟩,_,h3,_⟩:=hF;obtain ⟨R,hR,hRb⟩:=hgv _ ⟨Zhw ty ys inner A,List.mem_append_right _ (by rw [Yk] at hg; exact List.mem_of_getElem? hg),fun _ _ h=>h⟩;obtain ⟨hel,hr⟩:=hR;have hlen:m+ys.length<=140737488355328:=Nat.le_trans (Nat.le_mul_of_pos_right _ hby) hl;have hml:m+ys.length<=maxLen:=by simp only [maxLen]; omega
  have hll:inner.length=ys.length*n:=by rw [<- hty]; exact hel.length (fun x c h=>ty.ok_len h)
  have main:∃ v' w',(Builtin.append_ #[t,t] o.type #[v,.slice A ys.length c]).run P w=.ok v' w'/\w'.ownsRow 0 e n v' (m+ys.length) (cs ++ inner)/\w.grownBy w' v.ownBlock/\(v'.ownBlock=v.ownBlock\/v'.ownBlock=some w.heap.size):=by
   rcases hr with rfl | ⟨b,off,rfl,hbR,hc2⟩
   ·have hin:inner=[]:=hel;subst hin;refine ⟨v,w,?_,by simpa using hown,World.grownBy.refl w _,.inl rfl⟩;have hfc:(Builtin.firstCells ie.size 0 (.slice A 0 c)).run P w=.ok #[] w:=by
     cases A with
     | none=>simp [Builtin.firstCells]
     | some ad=>simp [Builtin.firstCells,loadCells,loadCellsFrom]
    rcases hown.2 with ⟨rfl,hn0⟩ | ⟨g,cap,cur,rfl,_,_,hnc,_⟩
    ·simp [Builtin.append_,Zw w hkk,sizeOf,typeInfo,hi0,Builtin.lenOf,hs0,hfc]
    ·simp [Builtin.append_,Zw w hkk,sizeOf,typeInfo,hi0,Builtin.lenOf,hnc,storeCells,hs0,hfc]
   ·obtain ⟨v1,w1,hr1,h2,h3',_,h5⟩:=run_append_own_at (P:=P) w 0 t o.type e i0 ie.zero n ie.bytes hkk hi0 hz0 (by rw [hs0,hn]) hb0 (by have:=Nat.eq_of_beq_eq_true hz; rw [hn]; simpa using this) (by rw [hn]; exact hpos) v m cs hown
     ⟨b,off,none⟩ ys.length c inner hll (fun j u hj=>by rw [Xz]; exact hc2 j u hj) (Elems.ones hel) hml hl (Nat.zero_le _)
    exact ⟨v1,w1,hr1,h2,h3',h5⟩
  obtain ⟨v1,w1,hr1,hown1,hg1,hat⟩:=main;have hshape:∃ A' c',v1=.slice A' (m+ys.length) c':=by
   rcases hown1.2 with ⟨rfl,hn0⟩ | ⟨g,cap,cur,rfl,_⟩
   ·exact ⟨none,0,by rw [hn0]⟩
   ·exact ⟨_,_,rfl⟩
  obtain ⟨A1,c1,rfl⟩:=hshape;refine ⟨.slice A1 (m+ys.length) c1,w1,by simp [execOp,ho,resolve,invoke,builtin,hf.eval hx,hf.eval hy,hr1],A1,c1,rfl,?_⟩;have hsz:=hg1.size;refine hst w1 [X2 e n (m+ys.length) (cs ++ inner) (.slice A1 (m+ys.length) c1)] (fun q=>F1 q\/(w.heap.size<=q/\q<w1.heap.size)) (Chg.of_grown hg1 fun q hq=>(h3 q (hown2 q hq)).1) ⟨fun q=>F1 q\/(w.heap.size<=q/\q<w1.heap.size),fun _=>False,⟨hown1,fun q hq=>?_,fun u hu=>?_⟩,trivial,fun q hq=>⟨hq,fun e=>e⟩,fun q hq=>hq.elim⟩ (fun q hq=>?_)
  ·rcases hat with hat | hat
   ·have:v.ownBlock=some q:=by rw [<- hat]; exact hq
    exact .inl (hown2 q this)
   ·have hq':q=w.heap.size:=by
     rw [hat] at hq; exact (Option.some.inj hq).symm
    have hlt2:q<w1.heap.size:=(hown1.lt q hq).2;exact .inr ⟨by omega,hlt2⟩
  ·rcases List.mem_append.1 hu with hu | hu
   ·exact hones u hu
   ·exact Elems.ones hel u hu
  ·rcases hq with hq | hq
   ·exact ⟨.inl (h3 q hq).1,Nat.lt_of_lt_of_le (hlt q (h3 q hq).1) hsz⟩
   ·exact ⟨.inr hq.1,hq.2⟩
def cut (cs:List Value) (i n:Nat):List Value:=(cs.drop (i*n)).take n
theorem Elems.cut {α:Type} {ok:α->List Value->Prop} {m} (h:∀ x c,ok x c->c.length=m):∀ {xs:List α} {inner},Elems ok xs inner->∀ {i} {x:α},xs[i]?=some x->ok x (SK.cut inner i m)
 | [],_,_,i,x,hx=>by simp at hx
 | y :: ys,inner,⟨c,r,e,h1,h2⟩,0,x,hx=>by
  simp only [List.getElem?_cons_zero,Option.some.injEq] at hx;subst hx;unfold SK.cut;rw [e,Nat.zero_mul,List.drop_zero,<- h _ _ h1,List.take_left']
  ·exact h1
  ·rfl
 | y :: ys,inner,⟨c,r,e,h1,h2⟩,i+1,x,hx=>by
  have:=Elems.cut h h2 (i:=i) (x:=x) (by simpa using hx);unfold SK.cut at this ⊢;rw [e,show (i+1)*m=c.length+i*m by rw [h _ _ h1,Nat.succ_mul,Nat.add_comm],List.drop_length_add_append];exact this
theorem Elems.set {α:Type} {ok:α->List Value->Prop} {m} (h:∀ x c,ok x c->c.length=m):∀ {xs:List α} {inner},Elems ok xs inner->∀ {i} {x:α} {c},i<xs.length->ok x c->Elems ok (xs.set i x) (Z0 (i*m) c inner)
 | [],_,_,i,x,c,hi,_=>by simp at hi
 | y :: ys,inner,⟨c1,r,e,h1,h2⟩,0,x,c,hi,hc=>by
  refine ⟨c,r,?_,hc,h2⟩;have l1:=h _ _ h1;have l2:=h _ _ hc;unfold Z0;rw [e,Nat.zero_mul,List.take_zero,List.nil_append,Nat.zero_add,l2,<- l1,List.drop_left'];rfl
 | y :: ys,inner,⟨c1,r,e,h1,h2⟩,i+1,x,c,hi,hc=>by
  have ih:=Elems.set h h2 (i:=i) (x:=x) (c:=c) (by simpa using hi) hc;refine ⟨c1,Z0 (i*m) c r,?_,h1,ih⟩;have l1:=h _ _ h1;unfold Z0;rw [e,show (i+1)*m=c1.length+i*m by rw [l1,Nat.succ_mul,Nat.add_comm],List.take_length_add_append,show c1.length+i*m+c.length=c1.length+(i*m+c.length) by omega,List.drop_length_add_append];simp
theorem Zk1 [q:TTI P tt] {t E n m c:Nat} {x y:Operand} {i:TI} {A:Option Addr} {cs:List Value} {v:Value} {ix f:Nat} (k:Nat) (hS:St w0 F0 Hs Rs w) (hix:ix<m) (hA:A=some ⟨blk A,ofs A,none⟩) (ho:o.op=.store t x y:=by exact rfl) (hk:nth Hs k=some (X2 E n m cs (.slice A m c)):=by exact rfl) (hi:find tt t=some i:=by exact rfl)
  (ha:Zl env x=some (.pointer (some ⟨blk A,ofs A+ix*n+f,none⟩)):=by exact rfl) (hv:Zl env y=some v:=by exact rfl) (hsz:Nat.beq v.cells.toList.length i.size=true:=by exact rfl) (hle:Nat.ble (f+i.size) n=true:=by exact rfl) (hc1:v.cells.toList.all (fun u=>u.oneCell')=true:=by exact rfl) :
  OpT P o env w (fun _ w'=>St w0 F0 (X2 E n m (Z0 (ix*n+f) v.cells.toList cs) (.slice A m c) :: Hs.eraseIdx k) Rs w'):=
 OpT.skip fun nn a hf=>by
  obtain ⟨F,⟨hown,hF,hones⟩,hlt,hs⟩:=hS.turn hk;rcases hown.2 with ⟨e,_⟩ | ⟨g,cap,cur,e,_,hh,hnc,hcm,hcs,htk⟩
  ·simp only [Value.slice.injEq] at e;rw [e.1] at hA; cases hA
  ·simp only [Value.slice.injEq] at e;obtain ⟨rfl,_,rfl⟩:=e;have hb:=hF g rfl;have hsz':v.cells.size=i.size:=by have:=Nat.eq_of_beq_eq_true hsz; simpa using this
   have hle':f+i.size<=n:=Nat.le_of_ble_eq_true hle;have hmul:ix*n+n<=m*n:=by rw [<- Nat.succ_mul]; exact Nat.mul_le_mul_right _ hix
   have hmul2:m*n<=c*n:=Nat.mul_le_mul_right _ hnc;have hall:∀ u∈v.cells.toList,u.oneCell'=true:=by rw [List.all_eq_true] at hc1; exact hc1
   have hst:=run_storeCells_at P g (ix*n+f) E v.cells.toList 0 cur w hh (by rw [hcs]; simp [hsz']; omega) hall;have hcl:cs.length=m*n:=hown.1;have hsplit:cur.toList=cs ++ cur.toList.drop (m*n):=by rw [<- htk,List.take_append_drop]
   have hlay:cur.toList.take (ix*n+f) ++ v.cells.toList ++ cur.toList.drop (ix*n+f+v.cells.toList.length)=Z0 (ix*n+f) v.cells.toList cs ++ cur.toList.drop (m*n):=by
    unfold Z0;rw [hsplit,List.take_append_of_le_length (by rw [hcl]; omega),List.drop_append_of_le_length (by rw [hcl]; simp [hsz']; omega)];simp [List.append_assoc,hcl]
   rw [Nat.add_zero,hlay] at hst;have haddr:Zl env x=some (.pointer (some ⟨g,ix*n+f,none⟩)):=by rw [ha]; simp [blk,ofs]
   refine ⟨_,by simp [execOp,ho,hf.eval haddr,hf.eval hv,Instr.storeAt,Instr.sureAddr,storeVar,X1 w (q.ok _ _ hi),hsz',hst]; rfl,?_⟩;have hll:(Z0 (ix*n+f) v.cells.toList cs).length=m*n:=by
    unfold Z0;simp only [List.length_append,List.length_take,List.length_drop,Array.length_toList,hcl,hsz'];omega
   refine hs _ (X2 E n m (Z0 (ix*n+f) v.cells.toList cs) (.slice (some ⟨g,0,none⟩) m c)) F (W1 w g _ hb) ⟨⟨hll,.inr ⟨g,c,_,rfl,Nat.zero_le _,setRow_heap w g _ _ _ _ hh,hnc,hcm,?_,?_⟩⟩,hF,fun u hu=>?_⟩ (fun b hb=>⟨.inl hb,by simpa using hlt b hb⟩)
   ·simp only [List.size_toArray,List.length_append,hll,List.length_drop,Array.length_toList,hcs];omega
   ·rw [List.take_append_of_le_length (by rw [hll]; simp),List.take_of_length_le (by rw [hll]; simp)]
   ·unfold Z0 at hu;rcases List.mem_append.1 hu with hu | hu
    ·rcases List.mem_append.1 hu with hu | hu
     ·exact hones u (List.mem_of_mem_take hu)
     ·exact hall u hu
    ·exact hones u (List.mem_of_mem_drop hu)
end
def Zqa:Nat->Code->Option Code
 | 0,.seq _ b=>some b
 | k+1,.seq _ b=>Zqa k b
 | _,_=>none
section
variable {P:Program} {tt:TT} {env:Env} {o:Oper} {w0 w:World} {F0:Ft} {Hs Rs:List Ch}
theorem OpT.imp {K K'} (h:OpT P o env w K) (hk:∀ v w',K v w'->K' v w'):OpT P o env w K':=fun n a next Q hf hn=>h n a next Q hf fun v w' hv=>hn v w' (hk v w' hv)
theorem St.drop1 {c d} (h:St w0 F0 Hs (c :: d :: Rs) w):St w0 F0 Hs (c :: Rs) w:=h.reads _ fun x hx=>by
 rcases List.mem_cons.1 hx with rfl | hx
 ·exact List.mem_cons_self
 ·exact List.mem_cons_of_mem _ (List.mem_cons_of_mem _ hx)
theorem Zhi [q:TTI P tt] {t e:Nat} {xa ya:Operand} {z1 z2:Nat} {z:Value} {ie:TI} {ty:Ty} {xs ys:List ty.D} {v:Value} {A:Option Addr} {c n e2:Nat} {cs:List Value} (k i j:Nat) (hS:St w0 F0 Hs Rs w) (hl:(xs.length+ys.length)*ie.bytes<=140737488355328)
  (ho:o.op=.call { callee:=.builtin .append,args:=#[xa,ya],argTypes:=#[t,t] }:=by exact rfl) (hi:nth Rs i=some (esC ty xs cs):=by exact rfl) (hk:nth Hs k=some (X2 e n xs.length cs v):=by exact rfl) (hj:nth Rs j=some (rdC e2 ty ys (.slice A ys.length c)):=by exact rfl) (hx:Zl env xa=some v:=by exact rfl) (hy:Zl env ya=some (.slice A ys.length c):=by exact rfl)
  (ht:find tt t=some ⟨.slice e,z1,z2,z⟩:=by exact rfl) (hie:find tt e=some ie:=by exact rfl) (hn:n=ie.size:=by exact rfl) (hty:ty.n=n:=by exact rfl) (hz:Nat.beq ie.zero.cells.toList.length ie.size=true:=by exact rfl) (hpos:0<ie.size:=by decide) (hby:0<ie.bytes:=by decide) :
  OpT P o env w (fun v' w'=>∃ A' c' cs',v'=.slice A' (xs ++ ys).length c'/\St w0 F0 (X2 e n (xs ++ ys).length cs' (.slice A' (xs ++ ys).length c') :: Hs.eraseIdx k) (esC ty (xs ++ ys) cs' :: Rs) w'):=by
 obtain ⟨inner,h1⟩:=hS.openRd j hj;have h2:=h1.esApp (i:=i+1) (j:=0) (by simpa [nth] using hi) rfl;have h3:=Zcm (P:=P) (o:=o) (env:=env) (ty:=ty) (ys:=ys) k 1 h2 hl ho hk rfl hx hy ht hie hn hty hz hpos hby
 refine h3.imp fun v' w' ⟨A',c',e,h⟩=>⟨A',c',cs ++ inner,by rw [e,List.length_append],?_⟩;rw [List.length_append];exact h.drop1
theorem Zhj [q:TTI P tt] {T e:Nat} {z1 z2:Nat} {z:Value} {ie:TI} (ty:Ty) (hS:St w0 F0 Hs Rs w) (ho:o.op=.buildSlice T 0 #[]:=by exact rfl)
  (ht:find tt T=some ⟨.slice e,z1,z2,z⟩:=by exact rfl) (hi:find tt e=some ie:=by exact rfl) :
  OpT P o env w (fun v w'=>∃ b,v=.slice (some ⟨b,0,none⟩) ([]:List ty.D).length 0/\St w0 F0 (X2 e ty.n ([]:List ty.D).length [] (.slice (some ⟨b,0,none⟩) ([]:List ty.D).length 0) :: Hs) (esC ty [] [] :: Rs) w'):=
 OpT.value fun n a hf=>⟨_,_,Zbt q.ok ho ht hi (vs:=[]) rfl (by simp) rfl rfl rfl hf,w.heap.size,rfl,by
  have hown:=World.ownsRow_lit (base:=0) (e:=e) (size:=ty.n) w #[] 0 (Nat.zero_le _) (Nat.zero_le _) (by simp);have h1:St w0 F0 (X2 e ty.n ([]:List ty.D).length [] (.slice (some ⟨w.heap.size,0,none⟩) ([]:List ty.D).length 0) :: Hs) Rs (w.alloc (.cells (([]:List Value).flatMap (fun v=>v.cells.toList)).toArray e)):=hS.add (F':=fun b=>b=w.heap.size) (Chg.alloc w _ _) ⟨by simpa using hown,fun b hb=>by simp [Value.ownBlock] at hb; exact hb.symm,fun u hu=>by cases hu⟩ (fun b hb=>by subst hb; simp);obtain ⟨F,hF,hb,hR⟩:=h1.sat
  refine ⟨h1.chg,F,hF,hb,fun d hd=>?_⟩;rcases List.mem_cons.1 hd with rfl | hd
  ·exact ⟨fun _=>False,rfl,fun _ hb=>hb.elim⟩
  ·exact hR d hd⟩
theorem Zmg {cs cl vs} {i n f} (hc:cut cs i n=cl) (hf:f+vs.length<=n) (hl:i*n+n<=cs.length):Z0 (i*n+f) vs cs=Z0 (i*n) (Z0 f vs cl) cs:=by
 subst hc;have hlen:(cut cs i n).length=n:=by unfold cut; rw [List.length_take,List.length_drop]; omega
 unfold Z0;rw [show (i*n+(List.take f (cut cs i n) ++ vs ++ List.drop (f+vs.length) (cut cs i n)).length)=i*n+n by
  simp only [List.length_append,List.length_take,List.length_drop,hlen]; omega]
 unfold cut;have e1:cs.take (i*n+f)=cs.take (i*n) ++ ((cs.drop (i*n)).take n).take f:=by
  rw [List.take_add,List.take_take,Nat.min_eq_left (by omega)]
 have e2:cs.drop (i*n+f+vs.length)=((cs.drop (i*n)).take n).drop (f+vs.length) ++ cs.drop (i*n+n):=by
  have e3:cs.drop (i*n+f+vs.length)=(cs.drop (i*n)).drop (f+vs.length):=by rw [List.drop_drop]; congr 1; omega
  rw [e3];generalize hX:cs.drop (i*n)=X;have hX2:cs.drop (i*n+n)=X.drop n:=by rw [<- hX,List.drop_drop]
  rw [hX2]
  conv=>lhs; rw [<- List.take_append_drop n X]
  rw [List.drop_append_of_le_length];rw [List.length_take,<- hX,List.length_drop]; omega
 rw [e1,e2];simp only [List.append_assoc]
theorem Zry {t} {x:t.D} {cs} (h:St w0 F0 Hs Rs w) (hg:Za5 Rs t x cs):St w0 F0 Hs (okC t x cs :: Rs) w:=by
 obtain ⟨F,hF,hb,hR⟩:=h.sat
 refine ⟨h.chg,F,hF,hb,fun d hd=>?_⟩;rcases List.mem_cons.1 hd with rfl | hd
 ·refine ⟨fun b=>(b<w.heap.size/\¬ F b)/\F0.has w0 b,?_,fun b hb=>hb⟩;exact Zbv hR (fun b hb=>hb.1.1) (fun b _=>rfl) hg
 ·exact hR d hd
end
end Go.SK

namespace Go.SK
open Go Go.RowKit

def rws (E n:Nat):List Value->List Nat->List (List Value)->List Ch
 | u :: us,m :: ms,cs :: css=>X2 E n m cs u :: rws E n us ms css
 | _,_,_=>[]
theorem Zdj {E n}:∀ {us} {ms} {css} {us'} {ms'} {css'},us.length=ms.length->css.length=ms.length->rws E n (us ++ us') (ms ++ ms') (css ++ css')=rws E n us ms css ++ rws E n us' ms' css'
 | [],[],[],_,_,_,_,_=>rfl
 | u :: us,m :: ms,cs :: css,us',ms',css',h1,h2=>by
  simp only [List.cons_append,rws];rw [Zdj (by simpa using h1) (by simpa using h2)]
theorem Zb4 {E n} (us):∀ {ms} {css} {i} {u} {m} {cs},us[i]?=some u->ms[i]?=some m->css[i]?=some cs->nth (rws E n us ms css) i=some (X2 E n m cs u):=by
 induction us with
 | nil=>intro _ _ _ _ _ _ h; simp at h
 | cons u0 us ih=>
  intro ms css i u m cs h1 h2 h3;cases ms with
  | nil=>simp at h2
  | cons m0 ms=>cases css with
   | nil=>simp at h3
   | cons c0 css=>cases i with
    | zero=>
     simp only [List.getElem?_cons_zero,Option.some.injEq] at h1 h2 h3;subst h1; subst h2; subst h3; rfl
    | succ i=>
     simp only [List.getElem?_cons_succ] at h1 h2 h3;exact ih h1 h2 h3
theorem SatH.split:∀ {A B} {w} {F},SatH (A ++ B) w F->∃ F1 F2,SatH A w F1/\SatH B w F2/\(∀ b,F1 b->F b/\¬ F2 b)/\(∀ b,F2 b->F b)
 | [],B,w,F,h=>⟨fun _=>False,F,trivial,h,fun b hb=>hb.elim,fun b hb=>hb⟩
 | c :: A,B,w,F,⟨G1,G2,h1,h2,h3,h4⟩=>by
  obtain ⟨F1,F2,a,b,d,e⟩:=SatH.split h2;exact ⟨fun x=>G1 x\/F1 x,F2,⟨G1,F1,h1,a,fun x hx=>⟨.inl hx,fun q=>(h3 x hx).2 (d x q).1⟩,fun x hx=>.inr hx⟩,b,fun x hx=>hx.elim (fun q=>⟨(h3 x q).1,fun z=>(h3 x q).2 (e x z)⟩) (fun q=>⟨h4 x (d x q).1,(d x q).2⟩),fun x hx=>h4 x (e x hx)⟩
section
variable {w0 w:World} {F0:Ft} {Hs Rs:List Ch}
theorem St.unpack {α:Type} {c} {l:α->List Ch} {p:α->Prop} (hc:∀ w F,c.ok w F->∃ x,p x/\SatH (l x) w F) (h:St w0 F0 (c :: Hs) Rs w):∃ x,p x/\St w0 F0 (l x ++ Hs) Rs w:=by
 obtain ⟨F,⟨F1,F2,h1,h2,h3,h4⟩,hb,hR⟩:=h.sat
 obtain ⟨x,hp,hx⟩:=hc _ _ h1;refine ⟨x,hp,h.chg,fun b=>F1 b\/F2 b,SatH.join hx h2 fun b hb'=>(h3 b hb').2,fun b hb'=>hb b (hb'.elim (fun q=>(h3 b q).1) (h4 b)),fun d hd=>?_⟩;obtain ⟨R,r,hRb⟩:=hR d hd;exact ⟨R,r,fun b hb'=>⟨⟨(hRb b hb').1.1,fun q=>(hRb b hb').1.2 (q.elim (fun q=>(h3 b q).1) (h4 b))⟩,(hRb b hb').2⟩⟩
theorem St.pack {c} {l} (hc:∀ w F,SatH l w F->c.ok w F) (h:St w0 F0 (l ++ Hs) Rs w):St w0 F0 (c :: Hs) Rs w:=by
 obtain ⟨F,hF,hb,hR⟩:=h.sat
 obtain ⟨F1,F2,h1,h2,h3,h4⟩:=hF.split;exact ⟨h.chg,F,⟨F1,F2,hc _ _ h1,h2,h3,h4⟩,hb,hR⟩
theorem St.swap (h:St w0 F0 Hs Rs w) {k} {c} (hk:nth Hs k=some c):St w0 F0 (c :: Hs.eraseIdx k) Rs w:=by
 obtain ⟨F,hF,hb,hR⟩:=h.sat
 obtain ⟨F1,F2,h1,h2,h3,h4⟩:=hF.out hk;exact ⟨h.chg,F,⟨F1,F2,h1,h2,h3,h4⟩,hb,hR⟩
end
theorem St.swap2 {w0 w} {F0} {Hs Rs} {c d} {k} (h:St w0 F0 (d :: Hs) Rs w) (hk:nth Hs k=some c):St w0 F0 (d :: c :: Hs.eraseIdx k) Rs w:=by
 obtain ⟨F,⟨G1,G2,g1,g2,g3,g4⟩,hb,hR⟩:=h.sat
 obtain ⟨F1,F2,h1,h2,h3,h4⟩:=g2.out hk;exact ⟨h.chg,F,⟨G1,fun b=>F1 b\/F2 b,g1,⟨F1,F2,h1,h2,fun b hb=>⟨.inl hb,(h3 b hb).2⟩,fun b hb=>.inr hb⟩,fun b hb=>⟨(g3 b hb).1,fun q=>(g3 b hb).2 (q.elim (fun q=>(h3 b q).1) (h4 b))⟩,fun b hb=>g4 b (hb.elim (fun q=>(h3 b q).1) (h4 b))⟩,hb,hR⟩
def Vq (E1 E2 n:Nat) (ms:List Nat) (css:List (List Value)) (v:Value):Ch where
 ok w F:=∃ us:List Value,(us.length=ms.length/\css.length=ms.length)/\SatH (X2 E1 1 ms.length us v :: rws E2 n us ms css) w F
 stable hs h:=⟨h.choose,h.choose_spec.1,SatH.stable hs h.choose_spec.2⟩
def Uc (E1 E2 n:Nat) (ms:List Nat) (css:List (List Value)) (v:Value) (ix:Int) (m:Nat) (A2:Option Addr) (c2:Nat):Ch where
 ok w F:=∃ us:List Value,((us.length=ms.length/\css.length=ms.length)/\us[ix.toNat]?=some (.slice A2 m c2))/\SatH (X2 E1 1 ms.length us v :: rws E2 n us ms css) w F
 stable hs h:=⟨h.choose,h.choose_spec.1,SatH.stable hs h.choose_spec.2⟩
def Elems2 {α:Type} (ok:α->List Value->Prop):List (List α)->List (List Value)->Prop
 | [],[]=>True
 | xs :: xss,cs :: css=>Elems ok xs cs/\Elems2 ok xss css
 | _,_=>False
theorem Elems2.imp {α:Type} {ok ok':α->List Value->Prop} (h:∀ x c,ok x c->ok' x c):∀ {xss:List (List α)} {css},Elems2 ok xss css->Elems2 ok' xss css
 | [],[],_=>trivial
 | _ :: _,_ :: _,⟨a,b⟩=>⟨a.imp h,Elems2.imp h b⟩
theorem Elems2.append {α:Type} {ok:α->List Value->Prop}:∀ {xss yss:List (List α)} {css dss},Elems2 ok xss css->Elems2 ok yss dss->Elems2 ok (xss ++ yss) (css ++ dss)
 | [],_,[],_,_,h=>h
 | _ :: _,_,_ :: _,_,⟨a,b⟩,h=>⟨a,Elems2.append b h⟩
theorem Elems2.length {α:Type} {ok:α->List Value->Prop}:∀ {xss:List (List α)} {css},Elems2 ok xss css->css.length=xss.length
 | [],[],_=>rfl
 | _ :: _,_ :: _,⟨_,b⟩=>by simp [Elems2.length b]
theorem Elems2.get {α:Type} {ok:α->List Value->Prop}:∀ {xss:List (List α)} {css:List (List Value)},Elems2 ok xss css->∀ {i:Nat} {xs:List α},xss[i]?=some xs->∃ cs,css[i]?=some cs/\Elems ok xs cs
 | [],_,_,_,_,hx=>by simp at hx
 | _ :: _,cs :: _,⟨a,b⟩,0,xs,hx=>by
  simp only [List.getElem?_cons_zero,Option.some.injEq] at hx;subst hx;exact ⟨cs,rfl,a⟩
 | _ :: _,_ :: _,⟨a,b⟩,i+1,xs,hx=>by
  simp only [List.getElem?_cons_succ] at hx ⊢;exact Elems2.get b hx
theorem Elems2.set {α:Type} {ok:α->List Value->Prop}:∀ {xss:List (List α)} {css},Elems2 ok xss css->∀(i) {xs:List α} {cs},Elems ok xs cs->Elems2 ok (xss.set i xs) (css.set i cs)
 | [],[],_,_,_,_,_=>trivial
 | _ :: _,_ :: _,⟨a,b⟩,0,_,_,h=>⟨h,b⟩
 | _ :: _,_ :: _,⟨a,b⟩,i+1,_,_,h=>⟨a,Elems2.set b i h⟩
def Bj (t:Ty) (xss:List (List t.D)) (css:List (List Value)):Ch where
 ok w F:=Elems2 (t.ok w F) xss css
 stable hs h:=h.imp fun x c h=>t.ok_stable hs h
section
variable {P:Program} {tt:TT} {env:Env} {o:Oper} {w0 w:World} {F0:Ft} {Hs Rs:List Ch}
abbrev Y0 {α:Type} (xss:List (List α)):List Nat:=xss.map List.length
theorem St.know (h:St w0 F0 Hs Rs w) {c} (hc:∀ w,c.ok w fun _=>False):St w0 F0 Hs (c :: Rs) w:=by
 obtain ⟨F,hF,hb,hR⟩:=h.sat
 refine ⟨h.chg,F,hF,hb,fun d hd=>?_⟩;rcases List.mem_cons.1 hd with rfl | hd
 ·exact ⟨fun _=>False,hc w,fun _ hb=>hb.elim⟩
 ·exact hR d hd
theorem Zf7 [q:TTI P tt] {T e:Nat} {z1 z2:Nat} {z:Value} {ie:TI} {x:Operand} {E2 n c:Nat} {A:Option Addr} {t:Ty} {xs:List t.D} {cs:List Value} (k i:Nat) (hS:St w0 F0 Hs Rs w) (hi:nth Rs i=some (esC t xs cs):=by exact rfl) (hk:nth Hs k=some (X2 E2 n xs.length cs (.slice A xs.length c)):=by exact rfl) (ho:o.op=.buildSlice T 1 #[(0,x)]:=by exact rfl) (hx:Zl env x=some (.slice A xs.length c):=by exact rfl)
  (ht:find tt T=some ⟨.slice e,z1,z2,z⟩:=by exact rfl) (hie:find tt e=some ie:=by exact rfl) (hz:ie.size=1:=by exact rfl) :
  OpT P o env w (fun v w'=>∃ b css,v=.slice (some ⟨b,0,none⟩) [xs].length 1/\St w0 F0 (Vq e E2 n (Y0 [xs]) css (.slice (some ⟨b,0,none⟩) [xs].length 1) :: Hs.eraseIdx k) (Bj t [xs] css :: Rs) w'):=
 OpT.value fun nn a hf=>⟨_,_,Zbt q.ok ho ht hie (vs:=[.slice A xs.length c]) rfl (by rw [hz]; rfl) (by simp [Yt,hx]) rfl (by rw [hz]; rfl) hf,w.heap.size,[cs],rfl,by
  have hfl:([Value.slice A xs.length c].flatMap (fun v=>v.cells.toList))=[.slice A xs.length c]:=rfl;rw [hfl];have hown:=World.ownsRow_lit (base:=0) (e:=e) (size:=1) w #[.slice A xs.length c] 1 (Nat.zero_le _) (by decide) (by simp);have h1:St w0 F0 (X2 e 1 1 [.slice A xs.length c] (.slice (some ⟨w.heap.size,0,none⟩) 1 1) :: Hs) Rs (w.alloc (.cells #[.slice A xs.length c] e)):=hS.add (F':=fun b=>b=w.heap.size) (Chg.alloc w _ _) ⟨by simpa using hown,fun b hb=>by simp [Value.ownBlock] at hb; exact hb.symm,fun u hu=>by
   simp only [List.mem_singleton] at hu;subst hu; rfl⟩ (fun b hb=>by subst hb; simp)
  have h2:St w0 F0 ([X2 e 1 1 [.slice A xs.length c] (.slice (some ⟨w.heap.size,0,none⟩) 1 1),X2 E2 n xs.length cs (.slice A xs.length c)] ++ Hs.eraseIdx k) Rs (w.alloc (.cells #[.slice A xs.length c] e)):=by
   exact h1.swap2 hk
  have h3:=h2.pack (c:=Vq e E2 n (Y0 [xs]) [cs] (.slice (some ⟨w.heap.size,0,none⟩) [xs].length 1)) (fun w F hF=>⟨[.slice A xs.length c],⟨rfl,rfl⟩,hF⟩);exact h3.read (k:=i) hi fun w F h=>⟨h,trivial⟩⟩
theorem Zpb {E n} (us):∀ {ms} {css},us.length=ms.length->css.length=ms.length->(rws E n us ms css).length=us.length:=by
 induction us with
 | nil=>intro ms css _ _; cases ms <;> cases css <;> rfl
 | cons u us ih=>
  intro ms css h1 h2;cases ms with
  | nil=>simp at h1
  | cons m ms=>cases css with
   | nil=>simp at h2
   | cons c css=>simp only [rws,List.length_cons]; rw [ih (by simpa using h1) (by simpa using h2)]
theorem Zlj {E n:Nat} (us:List Value):∀ {ms:List Nat} {css:List (List Value)} {i:Nat} {cs:List Value} {u:Value} {m:Nat},us[i]?=some u->ms[i]?=some m->i<css.length->∀ {X:List Ch},(∀ w F,SatH (X2 E n m cs u :: (rws E n us ms css).eraseIdx i) w F->SatH (rws E n us ms (css.set i cs)) w F):=by
 induction us with
 | nil=>intro _ _ _ _ _ _ h; simp at h
 | cons u0 us ih=>
  intro ms css i cs u m h1 h2 h3 X;cases ms with
  | nil=>simp at h2
  | cons m0 ms=>cases css with
   | nil=>simp at h3
   | cons c0 css=>cases i with
    | zero=>
     simp only [List.getElem?_cons_zero,Option.some.injEq] at h1 h2;subst h1; subst h2;exact fun w F h=>h
    | succ i=>
     simp only [List.getElem?_cons_succ] at h1 h2;have hi:=ih (cs:=cs) h1 h2 (by simpa using h3) (X:=X);intro w F h;simp only [rws,List.eraseIdx_cons_succ,List.set_cons_succ] at h ⊢;obtain ⟨F1,F2,a1,⟨F3,F4,b1,b2,b3,b4⟩,a3,a4⟩:=h;exact ⟨F3,fun b=>F1 b\/F4 b,b1,hi w _ ⟨F1,F4,a1,b2,fun b hb=>⟨.inl hb,fun q=>(a3 b hb).2 (b4 b q)⟩,fun b hb=>.inr hb⟩,fun b hb=>⟨a4 b (b3 b hb).1,fun q=>q.elim (fun q=>(a3 b q).2 (b3 b hb).1) (b3 b hb).2⟩,fun b hb=>hb.elim (fun q=>(a3 b q).1) (fun q=>a4 b (b4 b q))⟩
theorem Zc0 {α:Type} [Inhabited α] {xss:List (List α)} {ix:Int} (h0:0<=ix) (h1:ix<xss.length):(Y0 xss)[ix.toNat]?=some (gt xss ix).length:=by
 rw [List.getElem?_map,Je h0 h1]; rfl
theorem St.openN {E1 E2 n c:Nat} {α:Type} [Inhabited α] {xss:List (List α)} {css:List (List Value)} {A:Option Addr} (k:Nat) (h:St w0 F0 Hs Rs w) {ix:Int} (h0:0<=ix) (h1:ix<xss.length) (hk:nth Hs k=some (Vq E1 E2 n (Y0 xss) css (.slice A xss.length c)):=by exact rfl) :
  ∃ A2 c2,St w0 F0 (Uc E1 E2 n (Y0 xss) css (.slice A xss.length c) ix (gt xss ix).length A2 c2 :: Hs.eraseIdx k) Rs w:=by
 have h2:=h.swap hk;obtain ⟨F,⟨F1,F2,⟨us,⟨l1,l2⟩,hs⟩,s2,s3,s4⟩,hb,hR⟩:=h2.sat
 have hi:ix.toNat<us.length:=by rw [l1,List.length_map]; omega
 have hc:ix.toNat<css.length:=by rw [l2,List.length_map]; omega
 obtain ⟨G1,G2,g1,g2,g3,g4⟩:=hs;obtain ⟨K,kk,_⟩:=g2.at (Zb4 us (List.getElem?_eq_getElem hi) (Zc0 h0 h1) (List.getElem?_eq_getElem hc));have hsh:∃ A2 c2,us[ix.toNat]=.slice A2 (gt xss ix).length c2:=by
  rcases kk.1.2 with ⟨e,hn⟩ | ⟨g,cap,cur,e,_⟩
  ·exact ⟨none,0,by rw [e,hn]⟩
  ·exact ⟨_,_,e⟩
 obtain ⟨A2,c2,e⟩:=hsh;exact ⟨A2,c2,h2.chg,F,⟨F1,F2,⟨us,⟨⟨l1,l2⟩,by rw [List.getElem?_eq_getElem hi,e]⟩,⟨G1,G2,g1,g2,g3,g4⟩⟩,s2,s3,s4⟩,hb,hR⟩
theorem Zkf {E1 E2 n m c2} {ms} {css} {v} {ix} {A2} (w) (F) (h:(Uc E1 E2 n ms css v ix m A2 c2).ok w F):(Vq E1 E2 n ms css v).ok w F:=by
 obtain ⟨us,⟨a,b⟩,c⟩:=h;exact ⟨us,a,c⟩
theorem St.closeN {E1 E2 n m c2} {ms} {css} {v} {ix} {A2} (k) (h:St w0 F0 Hs Rs w) (hk:nth Hs k=some (Uc E1 E2 n ms css v ix m A2 c2):=by exact rfl):St w0 F0 (Vq E1 E2 n ms css v :: Hs.eraseIdx k) Rs w:=by
 have h2:=h.swap hk;obtain ⟨F,⟨F1,F2,s1,s2,s3,s4⟩,hb,hR⟩:=h2.sat
 exact ⟨h2.chg,F,⟨F1,F2,Zkf _ _ s1,s2,s3,s4⟩,hb,hR⟩
theorem St.nestA {E1 E2 n c:Nat} {α:Type} {xss:List (List α)} {css:List (List Value)} {A:Option Addr} (k:Nat) (h:St w0 F0 Hs Rs w) {ix:Int} (h0:0<=ix) (h1:ix<xss.length) (hk:nth Hs k=some (Vq E1 E2 n (Y0 xss) css (.slice A xss.length c)):=by exact rfl):A=some ⟨blk A,ofs A,none⟩:=by
 obtain ⟨F,hF,_⟩:=h.own hk;obtain ⟨us,_,G1,G2,g1,_⟩:=hF;rcases g1.1.2 with ⟨e,hn⟩ | ⟨g,cap,cur,e,_⟩
 ·rw [List.length_map] at hn; omega
 ·simp only [Value.slice.injEq] at e;rw [e.1]; rfl
theorem St.nestA2 {E1 E2 n m c2:Nat} {ms:List Nat} {css:List (List Value)} {v:Value} {ix jx:Int} {A2:Option Addr} (k:Nat) (h:St w0 F0 Hs Rs w) (h0:0<=jx) (h1:jx<m) (hk:nth Hs k=some (Uc E1 E2 n ms css v ix m A2 c2):=by exact rfl):A2=some ⟨blk A2,ofs A2,none⟩:=by
 obtain ⟨F,hF,_⟩:=h.own hk;obtain ⟨us,⟨⟨l1,l2⟩,hu⟩,G1,G2,g1,g2,_⟩:=hF;have hi:ix.toNat<us.length:=(List.getElem?_eq_some_iff.1 hu).1;obtain ⟨K,kk,_⟩:=g2.at (Zb4 us hu (List.getElem?_eq_getElem (by omega)) (List.getElem?_eq_getElem (by omega)));rcases kk.1.2 with ⟨e,hn⟩ | ⟨g,cap,cur,e,_⟩
 ·simp only [Value.slice.injEq] at e;omega
 ·simp only [Value.slice.injEq] at e;rw [e.1]; rfl
theorem Zij [q:TTI P tt] {S:World->Prop} {ty E1 E2 n m mm c c2:Nat} {x:Operand} {i:TI} {A A2:Option Addr} {ms:List Nat} {css:List (List Value)} {v:Value} {ix:Int} (k:Nat) (hS:∀ w,S w->Wh w0 F0 Hs Rs w) (hA:A=some ⟨blk A,ofs A,none⟩) (hk:nth Hs k=some (Uc E1 E2 n ms css (.slice A mm c) ix m A2 c2):=by exact rfl) (ho:o.op=.load ty x:=by exact rfl)
  (hi:find tt ty=some i:=by exact rfl) (ha:Zl env x=some (.pointer (some ⟨blk A,ofs A+ix.toNat*1+0,none⟩)):=by exact rfl) (hn:i.size=1:=by exact rfl) (hp:Wv i [.slice A2 m c2]=some v:=by exact rfl):QOp P o env S v:=
 Gj q.ok ho hi ha (cs:=[.slice A2 m c2]) (fun w h=>by
  obtain ⟨F,hF,_⟩:=(hS w h).gives (c:=Uc E1 E2 n ms css (.slice A mm c) ix m A2 c2) ⟨_,List.mem_append_left _ (by rw [Yk] at hk; exact List.mem_of_getElem? hk),fun _ _ h=>h⟩;obtain ⟨us,⟨⟨l1,l2⟩,hu⟩,G1,G2,g1,_⟩:=hF;intro j u hj;have hob:(Value.slice A mm c).ownBlock=some (blk A):=by rw [hA]; rfl
  have hof:ofs A=0:=by
   rcases g1.1.2 with ⟨e,_⟩ | ⟨g,cap,cur,e,_⟩
   ·simp only [Value.slice.injEq] at e;rw [e.1] at hA; cases hA
   ·simp only [Value.slice.injEq] at e;rw [e.1]; rfl
  cases j with
  | succ j=>simp at hj
  | zero=>
   simp only [List.getElem?_cons_zero,Option.some.injEq] at hj;subst hj;have hmm:ms.length=mm:=by
    rcases g1.1.2 with ⟨e,hn⟩ | ⟨g,cap,cur,e,_⟩
    ·simp only [Value.slice.injEq] at e; omega
    ·simp only [Value.slice.injEq] at e; omega
   have:=g1.1.cells hob ix.toNat _ hu;rw [Xz] at this;rw [hof,show 0+ix.toNat*1+0+0=0+ix.toNat by omega];exact this) hp
theorem St.essEl {t:Ty} [Inhabited t.D] {xss:List (List t.D)} {css:List (List Value)} (i:Nat) (h:St w0 F0 Hs Rs w) {ix jx:Int} (h0:0<=ix) (h1:ix<xss.length) (j0:0<=jx) (j1:jx<(gt xss ix).length) (hi:nth Rs i=some (Bj t xss css):=by exact rfl):∃ cl,cut (gt css ix) jx.toNat t.n=cl/\St w0 F0 Hs (okC t (gt (gt xss ix) jx) cl :: Rs) w:=by
 refine ⟨_,rfl,h.read (k:=i) hi fun w F hF=>?_⟩;obtain ⟨cs,e,he⟩:=hF.get (Je h0 h1);have hcs:gt css ix=cs:=by unfold gt; rw [List.getD_eq_getElem?_getD,e]; rfl
 rw [hcs];exact Elems.cut (fun x c h=>t.ok_len h) he (Je j0 j1)
theorem Zpg [q:TTI P tt] {S:World->Prop} {ty E1 E2 n m c2:Nat} {x:Operand} {i:TI} {A2:Option Addr} {ms:List Nat} {css:List (List Value)} {cl:List Value} {v vv:Value} {ix jx:Int} {f:Nat} (k:Nat) (hS:∀ w,S w->Wh w0 F0 Hs Rs w) (hA:A2=some ⟨blk A2,ofs A2,none⟩) (hc:cut (gt css ix) jx.toNat n=cl) (hk:nth Hs k=some (Uc E1 E2 n ms css vv ix m A2 c2):=by exact rfl) (ho:o.op=.load ty x:=by exact rfl)
  (hi:find tt ty=some i:=by exact rfl) (ha:Zl env x=some (.pointer (some ⟨blk A2,ofs A2+jx.toNat*n+f,none⟩)):=by exact rfl) (hn:f+i.size<=n:=by decide) (hp:Wv i ((cl.drop f).take i.size)=some v:=by exact rfl):QOp P o env S v:=
 Gj q.ok ho hi ha (fun w h=>by
  obtain ⟨F,hF,_⟩:=(hS w h).gives (c:=Uc E1 E2 n ms css vv ix m A2 c2) ⟨_,List.mem_append_left _ (by rw [Yk] at hk; exact List.mem_of_getElem? hk),fun _ _ h=>h⟩;obtain ⟨us,⟨⟨l1,l2⟩,hu⟩,G1,G2,g1,g2,_⟩:=hF;have hiu:ix.toNat<us.length:=(List.getElem?_eq_some_iff.1 hu).1;have hcc:css[ix.toNat]?=some (gt css ix):=by unfold gt; rw [List.getD_eq_getElem?_getD,List.getElem?_eq_getElem (show ix.toNat<css.length by omega)]; rfl
  obtain ⟨K,kk,_⟩:=g2.at (Zb4 us hu (List.getElem?_eq_getElem (show ix.toNat<ms.length by omega)) hcc);intro j u hj;have hob:(Value.slice A2 m c2).ownBlock=some (blk A2):=by rw [hA]; rfl
  have hof:ofs A2=0:=by
   rcases kk.1.2 with ⟨e,_⟩ | ⟨g,cap,cur,e,_⟩
   ·simp only [Value.slice.injEq] at e;rw [e.1] at hA; cases hA
   ·simp only [Value.slice.injEq] at e;rw [e.1]; rfl
  rw [List.getElem?_take] at hj;split at hj
  ·rename_i hjj;rw [List.getElem?_drop,<- hc] at hj;unfold cut at hj;rw [List.getElem?_take] at hj;split at hj
   ·rw [List.getElem?_drop] at hj;have:=kk.1.cells hob _ u hj;rw [Xz] at this;rw [hof,show 0+jx.toNat*n+f+j=0+(jx.toNat*n+(f+j)) by omega];exact this
   ·cases hj
  ·cases hj) hp
theorem SatH.flip {a b} {L} {w} {F} (h:SatH (a :: b :: L) w F):SatH (b :: a :: L) w F:=by
 obtain ⟨F1,F2,a1,⟨F3,F4,b1,b2,b3,b4⟩,a3,a4⟩:=h;exact ⟨F3,fun b=>F1 b\/F4 b,b1,⟨F1,F4,a1,b2,fun b hb=>⟨.inl hb,fun q=>(a3 b hb).2 (b4 b q)⟩,fun b hb=>.inr hb⟩,fun b hb=>⟨a4 b (b3 b hb).1,fun q=>q.elim (fun q=>(a3 b q).2 (b3 b hb).1) (b3 b hb).2⟩,fun b hb=>hb.elim (fun q=>(a3 b q).1) (fun q=>a4 b (b4 b q))⟩
theorem Znj {α:Type} [Inhabited α] {xss:List (List α)} {ix:Int} (h0:0<=ix) (h1:ix<xss.length) {ys:List α} (h:ys.length=(gt xss ix).length):Y0 (xss.set ix.toNat ys)=Y0 xss:=by
 apply List.ext_getElem?;intro j;rw [List.getElem?_map,List.getElem?_map,List.getElem?_set];by_cases e:ix.toNat=j
 ·subst e;rw [if_pos rfl,if_pos (by omega),Je h0 h1];simp [h]
 ·rw [if_neg e]
theorem Zp7 {α:Type} [Inhabited α] {xs:List α} {ix:Int} (h0:0<=ix) (h1:ix<xs.length) (y:α):gt (xs.set ix.toNat y) ix=y:=by
 have:=Je (xs:=xs.set ix.toNat y) h0 (by rw [List.length_set]; exact h1);rw [List.getElem?_set,if_pos rfl,if_pos (by omega)] at this;exact (Option.some.inj this).symm
theorem Zh2 [q:TTI P tt] {t E1 E2 n c c2:Nat} {x y:Operand} {i:TI} {ty:Ty} [Inhabited ty.D] {xss:List (List ty.D)} {A A2:Option Addr} {css:List (List Value)} {cl:List Value} {v:Value} {ix jx:Int} {f:Nat} (new:ty.D) (k j:Nat) (hS:St w0 F0 Hs Rs w) (h0:0<=ix) (h1:ix<xss.length) (j0:0<=jx) (j1:jx<(gt xss ix).length) (hA:A2=some ⟨blk A2,ofs A2,none⟩) (hc:cut (gt css ix) jx.toNat n=cl) {cl':List Value} (hel:Za5 Rs ty new cl') (ho:o.op=.store t x y:=by exact rfl) (hj:nth Rs j=some (Bj ty xss css):=by exact rfl) (hk:nth Hs k=some (Uc E1 E2 n (Y0 xss) css (.slice A xss.length c) ix (gt xss ix).length A2 c2):=by exact rfl) (hi:find tt t=some i:=by exact rfl)
  (ha:Zl env x=some (.pointer (some ⟨blk A2,ofs A2+jx.toNat*n+f,none⟩)):=by exact rfl) (hv:Zl env y=some v:=by exact rfl) (hsz:Nat.beq v.cells.toList.length i.size=true:=by exact rfl) (hle:Nat.ble (f+i.size) n=true:=by exact rfl) (hc1:v.cells.toList.all (fun u=>u.oneCell')=true:=by exact rfl) (hty:ty.n=n:=by exact rfl) (hl:nfK (Z0 f v.cells.toList cl) some=nfK cl' some:=by exact rfl) :
  OpT P o env w (fun _ w'=>∃ css',St w0 F0 (Uc E1 E2 n (Y0 (xss.set ix.toNat ((gt xss ix).set jx.toNat new))) css' (.slice A (xss.set ix.toNat ((gt xss ix).set jx.toNat new)).length c) ix (gt (xss.set ix.toNat ((gt xss ix).set jx.toNat new)) ix).length A2 c2 :: Hs.eraseIdx k) (Bj ty (xss.set ix.toNat ((gt xss ix).set jx.toNat new)) css' :: Rs) w'):=by
 rw [Jo,Jo] at hl;injection hl with hl;rw [<- hl] at hel;have h2:=(Zry hS hel).swap hk;obtain ⟨us,⟨⟨l1,l2⟩,hu⟩,h3⟩:=St.unpack (l:=fun us=>X2 E1 1 (Y0 xss).length us (.slice A xss.length c) :: rws E2 n us (Y0 xss) css) (p:=fun us=>(us.length=(Y0 xss).length/\css.length=(Y0 xss).length)/\us[ix.toNat]?=some (.slice A2 (gt xss ix).length c2)) (fun w F h=>h) h2;have hiu:ix.toNat<us.length:=(List.getElem?_eq_some_iff.1 hu).1;have hcl:ix.toNat<css.length:=by omega
 have hcc:css[ix.toNat]?=some (gt css ix):=by unfold gt; rw [List.getD_eq_getElem?_getD,List.getElem?_eq_getElem hcl]; rfl
 have hr:=Zb4 (E:=E2) (n:=n) us hu (Zc0 h0 h1) hcc;have hlenr:(rws E2 n us (Y0 xss) css).length=us.length:=Zpb us l1 l2;have hk3:nth ((X2 E1 1 (Y0 xss).length us (.slice A xss.length c) :: rws E2 n us (Y0 xss) css) ++ Hs.eraseIdx k) (ix.toNat+1)=some (X2 E2 n (gt xss ix).length (gt css ix) (.slice A2 (gt xss ix).length c2)):=by
  rw [Yk] at hr ⊢;rw [List.cons_append,List.getElem?_cons_succ,List.getElem?_append_left (by omega),hr]
 obtain ⟨F,hF,_⟩:=h3.own hk3;have hlen:(gt css ix).length=(gt xss ix).length*n:=hF.1.1;have hmul:jx.toNat*n+n<=(gt css ix).length:=by rw [hlen,<- Nat.succ_mul]; exact Nat.mul_le_mul_right _ (by omega)
 have hle':f+v.cells.toList.length<=n:=by rw [Nat.eq_of_beq_eq_true hsz]; exact Nat.le_of_ble_eq_true hle
 have h4:=Zk1 (P:=P) (o:=o) (env:=env) (w:=w) (ix:=jx.toNat) (f:=f) (ix.toNat+1) h3 (by omega) hA ho hk3 hi ha hv hsz hle hc1;refine h4.imp fun v' w' h=>?_;rw [Zmg hc hle' hmul] at h;have hel2:(gt xss ix).length=((gt xss ix).set jx.toNat new).length:=by rw [List.length_set]
 refine ⟨css.set ix.toNat (Z0 (jx.toNat*n) (Z0 f v.cells.toList cl) (gt css ix)),?_⟩;rw [Znj h0 h1 hel2.symm,List.length_set,Zp7 h0 h1,List.length_set];rw [List.cons_append,List.eraseIdx_cons_succ,List.eraseIdx_append_of_lt_length (by omega),<- List.cons_append,<- List.cons_append] at h;have h5:=h.pack (c:=Uc E1 E2 n (Y0 xss) (css.set ix.toNat (Z0 (jx.toNat*n) (Z0 f v.cells.toList cl) (gt css ix))) (.slice A xss.length c) ix (gt xss ix).length A2 c2) (fun w F hF=>by
  obtain ⟨F1,F2,a1,a2,a3,a4⟩:=SatH.flip hF;exact ⟨us,⟨⟨l1,by rw [List.length_set]; exact l2⟩,hu⟩,⟨F1,F2,a1,Zlj us hu (Zc0 h0 h1) hcl (X:=[]) _ _ a2,a3,a4⟩⟩)
 have h6:=h5.read2 (c:=Bj ty (xss.set ix.toNat ((gt xss ix).set jx.toNat new)) (css.set ix.toNat (Z0 (jx.toNat*n) (Z0 f v.cells.toList cl) (gt css ix)))) (j+1) 0 (by simpa [nth] using hj) rfl fun w F1 F2 a b=>by
  have a':Elems2 (ty.ok w fun b=>F1 b\/F2 b) xss css:=Elems2.imp (fun x c h=>ty.ok_mono (fun _ h=>.inl h) h) a;obtain ⟨cs,e,he⟩:=a'.get (Je h0 h1);have hcs:gt css ix=cs:=by rw [hcc] at e; exact Option.some.inj e
  rw [hcs];refine a'.set ix.toNat ?_;rw [<- hty];exact Elems.set (fun x c h=>ty.ok_len h) he (by omega) (ty.ok_mono (fun _ h=>.inr h) b)
 exact h6.drop1
theorem Zq2 {E m} {t} {xs:List t.D} {cs} {v} {w} {F1 F2} (a:(X2 E t.n m cs v).ok w F1) (b:Elems (t.ok w F2) xs cs) (hm:m=xs.length):(rdC E t xs v).ok w (fun b=>F1 b\/F2 b):=by
 subst hm;obtain ⟨⟨hlen,hown⟩,hF,_⟩:=a;rcases hown with ⟨rfl,hn⟩ | ⟨g,cap,cur,rfl,_,hh,hnc,_,hsz,htake⟩
 ·have:xs=[]:=List.eq_nil_of_length_eq_zero hn;subst this;exact ⟨none,0,rfl,Nat.le_refl _,.inl rfl⟩
 ·refine ⟨some ⟨g,0,none⟩,cap,rfl,hnc,.inr ⟨g,0,cs,rfl,.inl (hF g rfl),b.imp fun x c h=>t.ok_mono (fun _ h=>.inr h) h,fun j u hu=>?_⟩⟩;have:=World.ownsRow.cells (base:=0) (e:=E) (size:=t.n) (v:=.slice (some ⟨g,0,none⟩) xs.length cap) (n:=xs.length) (xs:=cs) ⟨hlen,.inr ⟨g,cap,cur,rfl,Nat.zero_le _,hh,hnc,by assumption,hsz,htake⟩⟩ (g:=g) rfl j u hu;rw [Xz] at this;exact this
theorem Zq8 {E} {t} {w} {F2} (xss:List (List t.D)):∀ {us} {css} {F1},us.length=(Y0 xss).length->SatH (rws E t.n us (Y0 xss) css) w F1->Elems2 (t.ok w F2) xss css->Elems ((Ty.slice E t).ok w fun b=>F1 b\/F2 b) xss us:=by
 induction xss with
 | nil=>
  intro us css F1 hl _ _;exact List.eq_nil_of_length_eq_zero (by simpa using hl)
 | cons xs xss ih=>
  intro us css F1 hl hs he;cases us with
  | nil=>simp at hl
  | cons u us=>cases css with
   | nil=>exact he.elim
   | cons cs css=>
    obtain ⟨G1,G2,g1,g2,g3,g4⟩:=hs;exact ⟨[u],us,rfl,(Ty.slice E t).ok_mono (fun b hb=>hb.imp (fun q=>(g3 b q).1) id) (Zq2 g1 he.1 rfl),(ih (by simpa using hl) g2 he.2).imp fun x c h=>(Ty.slice E t).ok_mono (fun b hb=>hb.imp (g4 b) id) h⟩
theorem St.nestFreeze {E1 E2 c} {t} {xss:List (List t.D)} {css} {A} (k i) (h:St w0 F0 Hs Rs w) (hi:nth Rs i=some (Bj t xss css):=by exact rfl) (hk:nth Hs k=some (Vq E1 E2 t.n (Y0 xss) css (.slice A xss.length c)):=by exact rfl):St w0 F0 (Hs.eraseIdx k) (rdC E1 (.slice E2 t) xss (.slice A xss.length c) :: Rs) w:=by
 have h1:=h.freeze (c':=Vq E1 E2 t.n (Y0 xss) css (.slice A xss.length c)) hk (fun _ _ h=>h);refine (h1.read2 (c:=rdC E1 (.slice E2 t) xss (.slice A xss.length c)) 0 (i+1) rfl (by simpa [nth] using hi) fun w F1 F2 a b=>?_).drop1;obtain ⟨us,⟨l1,l2⟩,G1,G2,g1,g2,g3,g4⟩:=a;have hel:=Zq8 xss l1 g2 b;obtain ⟨⟨hlen,hown⟩,hF,hones⟩:=g1;rcases hown with ⟨e,hn⟩ | ⟨g,cap,cur,e,_,hh,hnc,_,hsz,htake⟩
 ·have:xss=[]:=List.eq_nil_of_length_eq_zero (by rw [<- List.length_map (f:=List.length)]; exact hn);subst this;simp only [Value.slice.injEq] at e;obtain ⟨rfl,_,rfl⟩:=e;exact ⟨none,0,rfl,Nat.le_refl _,.inl rfl⟩
 ·simp only [Value.slice.injEq] at e;obtain ⟨rfl,_,rfl⟩:=e;refine ⟨some ⟨g,0,none⟩,c,rfl,by simpa using hnc,.inr ⟨g,0,us,rfl,.inl (g3 g (hF g rfl)).1,hel.imp fun x c h=>(Ty.slice E2 t).ok_mono (fun b hb=>hb.imp (g4 b) id) h,fun j u hu=>?_⟩⟩;have:=World.ownsRow.cells (base:=0) (e:=E1) (size:=1) (v:=.slice (some ⟨g,0,none⟩) xss.length c) (n:=(Y0 xss).length) (xs:=us) ⟨hlen,.inr ⟨g,c,cur,by rw [List.length_map],Nat.zero_le _,hh,hnc,by assumption,hsz,htake⟩⟩ (g:=g) rfl j u hu;rw [Xz] at this;exact this
theorem Zjo {w:World} {F:Nat->Prop}:∀ {us:List Value},(∀ u∈us,u.oneCell'=true)->Elems (Ty.val.ok w F) us us
 | [],_=>rfl
 | u :: us,h=>⟨[u],us,rfl,⟨rfl,h u List.mem_cons_self⟩,Zjo fun x hx=>h x (List.mem_cons_of_mem _ hx)⟩
theorem Zm3 [q:TTI P tt] {t e:Nat} {xa ya:Operand} {z1 z2:Nat} {z:Value} {ie:TI} {ty:Ty} {xss yss:List (List ty.D)} {A B:Option Addr} {c d E2 n:Nat} {css dss:List (List Value)} (k1 k2 i1 i2:Nat) (hS:St w0 F0 Hs Rs w) (hl:(xss.length+yss.length)*ie.bytes<=140737488355328)
  (ho:o.op=.call { callee:=.builtin .append,args:=#[xa,ya],argTypes:=#[t,t] }:=by exact rfl) (hi1:nth Rs i1=some (Bj ty xss css):=by exact rfl) (hi2:nth Rs i2=some (Bj ty yss dss):=by exact rfl) (h1:nth Hs k1=some (Vq e E2 n (Y0 xss) css (.slice A xss.length c)):=by exact rfl) (h2:nth (Hs.eraseIdx k1) k2=some (Vq e E2 n (Y0 yss) dss (.slice B yss.length d)):=by exact rfl) (hx:Zl env xa=some (.slice A xss.length c):=by exact rfl) (hy:Zl env ya=some (.slice B yss.length d):=by exact rfl)
  (ht:find tt t=some ⟨.slice e,z1,z2,z⟩:=by exact rfl) (hie:find tt e=some ie:=by exact rfl) (hn:ie.size=1:=by exact rfl) (hz:Nat.beq ie.zero.cells.toList.length ie.size=true:=by exact rfl) (hby:0<ie.bytes:=by decide) :
  OpT P o env w (fun v' w'=>∃ A' c' css',v'=.slice A' (xss ++ yss).length c'/\St w0 F0 (Vq e E2 n (Y0 (xss ++ yss)) css' (.slice A' (xss ++ yss).length c') :: (Hs.eraseIdx k1).eraseIdx k2) (Bj ty (xss ++ yss) css' :: Rs) w'):=by
 have g1:=(hS.swap h1).swap2 h2;have g2:=g1.both;obtain ⟨⟨us,vs⟩,⟨⟨l1,l2⟩,l3,l4⟩,g3⟩:=St.unpack (c:=Zgp (Vq e E2 n (Y0 xss) css (.slice A xss.length c)) (Vq e E2 n (Y0 yss) dss (.slice B yss.length d))) (l:=fun p:List Value×List Value=>X2 e 1 (Y0 xss).length p.1 (.slice A xss.length c) :: X2 e 1 (Y0 yss).length p.2 (.slice B yss.length d) :: (rws E2 n p.1 (Y0 xss) css ++ rws E2 n p.2 (Y0 yss) dss)) (p:=fun p=>(p.1.length=(Y0 xss).length/\css.length=(Y0 xss).length)/\p.2.length=(Y0 yss).length/\dss.length=(Y0 yss).length) (fun w F ⟨F1,F2,⟨us,a1,G1,G2,b1,b2,b3,b4⟩,⟨vs,a2,K1,K2,d1,d2,d3,d4⟩,a3,a4⟩=>by
  refine ⟨(us,vs),⟨a1,a2⟩,G1,fun b=>K1 b\/G2 b\/K2 b,b1,⟨K1,fun b=>G2 b\/K2 b,d1,SatH.join b2 d2 fun b hb q=>(a3 b (b4 b hb)).2 (d4 b q),fun b hb=>⟨.inl hb,fun q=>q.elim (fun q=>(a3 b (b4 b q)).2 (d3 b hb).1) (d3 b hb).2⟩,fun b hb=>.inr hb⟩,fun b hb=>⟨(a3 b (b3 b hb).1).1,fun q=>q.elim (fun q=>(a3 b (b3 b hb).1).2 (d3 b q).1) fun q=>q.elim (b3 b hb).2 fun q=>(a3 b (b3 b hb).1).2 (d4 b q)⟩,fun b hb=>hb.elim (fun q=>a4 b (d3 b q).1) fun q=>q.elim (fun q=>(a3 b (b4 b q)).1) fun q=>a4 b (d4 b q)⟩) g2
 have e1:(Y0 xss).length=xss.length:=List.length_map ..;have e2:(Y0 yss).length=yss.length:=List.length_map ..;rw [e1,e2] at g3;have g4:=g3.freeze (k:=1) (c':=X2 e 1 yss.length vs (.slice B yss.length d)) rfl fun _ _ h=>h;have g5:=g4.read (k:=0) (c:=Zhw .val vs vs B) rfl fun w F hF=>by
  obtain ⟨⟨hlen,hown⟩,hF2,hones⟩:=hF;refine ⟨Zjo hones,?_⟩;rcases hown with ⟨e,hn0⟩ | ⟨g,cap,cur,e,hg0,hh,hnc,hcm,hsz,htake⟩
  ·left;exact List.eq_nil_of_length_eq_zero (by rw [hlen,hn0,Nat.zero_mul])
  ·right;simp only [Value.slice.injEq] at e;obtain ⟨rfl,_,rfl⟩:=e;refine ⟨g,0,rfl,hF2 g rfl,fun j u hu=>?_⟩;have:=World.ownsRow.cells (base:=0) (e:=e) (size:=1) (v:=.slice (some ⟨g,0,none⟩) yss.length d) (n:=yss.length) (xs:=vs) ⟨hlen,.inr ⟨g,d,cur,rfl,hg0,hh,hnc,hcm,hsz,htake⟩⟩ (g:=g) rfl j u hu;rw [Xz] at this;exact this
 have lv:vs.length=yss.length:=by rw [l3,e2]
 have g6:=Zcm (P:=P) (o:=o) (env:=env) (tt:=tt) (w:=w) (ty:=.val) (ys:=vs) (n:=1) (c:=d) 0 0 g5 (by rw [lv]; exact hl) ho rfl rfl hx (by rw [lv]; exact hy) ht hie hn.symm rfl hz (by rw [hn]; decide) hby
 refine g6.imp fun v' w' ⟨A',c',ev,h⟩=>?_;rw [lv] at ev h;refine ⟨A',c',css ++ dss,by rw [ev,List.length_append],?_⟩;have h5:St w0 F0 ((X2 e 1 (xss.length+yss.length) (us ++ vs) (.slice A' (xss.length+yss.length) c') :: (rws E2 n us (Y0 xss) css ++ rws E2 n vs (Y0 yss) dss)) ++ (Hs.eraseIdx k1).eraseIdx k2) _ w':=h;have h6:=h5.pack (c:=Vq e E2 n (Y0 (xss ++ yss)) (css ++ dss) (.slice A' (xss ++ yss).length c')) fun w F hF=>by
  have em:Y0 (xss ++ yss)=Y0 xss ++ Y0 yss:=List.map_append ..;refine ⟨us ++ vs,⟨by rw [em,List.length_append,List.length_append,l1,l3],by rw [em,List.length_append,List.length_append,l2,l4]⟩,?_⟩;rw [em,List.length_append,List.length_append,e1,e2,Zdj l1 l2];exact hF
 have h7:=h6.reads Rs fun x hx=>List.mem_cons_of_mem _ (List.mem_cons_of_mem _ hx);exact h7.read2 i1 i2 hi1 hi2 fun w F1 F2 a b=>Elems2.append (a.imp fun x c h=>ty.ok_mono (fun _ h=>.inl h) h) (b.imp fun x c h=>ty.ok_mono (fun _ h=>.inr h) h)
end
section
variable {P:Program} {tt:TT} {env:Env} {o:Oper} {w0 w:World} {F0:Ft} {Hs Rs:List Ch}
theorem Zgn {l:List Ch} {t:Ty}:Zc9 l ([]:List t.D) []:=trivial
theorem Zd7 {l} {t} {x:t.D} {xs:List t.D} {cs} {css} (h:Za5 l t x cs) (hs:Zc9 l xs css):Zc9 l (x :: xs) (cs :: css):=⟨h,hs⟩
theorem Zb8 [q:TTI P tt] {T e m:Nat} {z1 z2:Nat} {z:Value} {ie:TI} {ps:Array (Nat×Operand)} {vs:List Value} (ty:Ty) (xs:List ty.D) {css:List (List Value)} (hS:St w0 F0 Hs Rs w) (hel:Zc9 Rs xs css) (ho:o.op=.buildSlice T m ps:=by exact rfl)
  (ht:find tt T=some ⟨.slice e,z1,z2,z⟩:=by exact rfl) (hi:find tt e=some ie:=by exact rfl) (hpos:0<ie.size:=by decide) (hv:Yt env (ps.toList.map (·.2))=some vs:=by exact rfl) (hm:vs.length=m:=by exact rfl) (hx:xs.length=m:=by exact rfl) (hm2:Nat.ble (m*ie.size) 16777216=true:=by exact rfl)
  (hix:ps.toList.map (·.1)=List.range' 0 vs.length:=by exact rfl) (hsz:vs.all (fun v=>Nat.beq v.cells.toList.length ie.size)=true:=by exact rfl) (hc:vs.map (fun v=>v.cells.toList)=css:=by exact rfl) :
  OpT P o env w (fun v w'=>∃ b,v=.slice (some ⟨b,0,none⟩) xs.length m/\St w0 F0 Hs (rdC e ty xs (.slice (some ⟨b,0,none⟩) xs.length m) :: Rs) w'):=
 Zmk q.ok ty xs ho hS ht hi hpos hv hm hx hm2 hix hsz (by rw [hc]; exact hel)
end
end Go.SK

namespace Go.SK
open Go Go.RowKit

section
variable {P:Program} {tt:TT} {n:Nat} {env:Env} {w w0:World} {F0:Ft} {Hs Rs HsS:List Ch} {ops:List Oper} {K:Env->World->Prop} {o:Oper} {l:List Oper} {PQ:Xg} {done:List Nat}
theorem cS {ρ α:Type} {c:Option α} {f:α->Option ρ} {r:ρ} {fno} {xs} {ts:Array TypeId} {fx} {vs} {pre rd rest} {V:α->Value} {L Hs':α->List Ch} (H:c.bind f=some r) (ks) (hS:St w0 F0 Hs Rs w) (hp:Vi ks Hs (fun p r=>some (p,r))=some (pre,rest))
  (hsp:∀ {x},c=some x->Spec P fno vs pre rd (fun v l=>v=V x/\l=L x)) (hr:∀ c∈rd,Gives (rest ++ Rs) c)
  (hk:∀ x w',f x=some r->St w0 F0 (Hs' x) Rs w'->RJ P n ops l K (Xe o.dst (V x) env) w') (hn:∀ x,nfK (L x ++ rest) some=some (Hs' x):=by exact fun _=>rfl)
  (hw:Ye ops env o=some true:=by exact rfl) (hd:Xs n o.dst=true:=by exact rfl) (ho:o.op=.call { callee:=.value fx,args:=xs,argTypes:=ts }:=by exact rfl) (hfx:Zl env fx=some (.func (.func fno) #[] #[]):=by exact rfl) (hv:Yt env xs.toList=some vs:=by exact rfl):RJ P n ops (o :: l) K env w:=by
 obtain ⟨x,q,H⟩:=Yc H;refine RJ.op hw hd (Bl ks (hsp q) ho hfx hv hS (Zb1 hp) hr) ?_;rintro _ w' ⟨_,⟨rfl,rfl⟩,h⟩;exact hk x w' H (nf h (hn x))
theorem cE {ρ α:Type} {c:Option α} {f:α->Option ρ} {r:ρ} {fno} {xs} {ts:Array TypeId} {fx} {vs} {pre rd rest} {Post:α->Value->List Ch->Prop} (H:c.bind f=some r) (ks) (hS:St w0 F0 Hs Rs w) (hp:Vi ks Hs (fun p r=>some (p,r))=some (pre,rest))
  (hsp:∀ {x},c=some x->Spec P fno vs pre rd (Post x)) (hr:∀ c∈rd,Gives (rest ++ Rs) c)
  (hk:∀ x w' v post,f x=some r->Post x v post->St w0 F0 (post ++ rest) Rs w'->RJ P n ops l K (Xe o.dst v env) w')
  (hw:Ye ops env o=some true:=by exact rfl) (hd:Xs n o.dst=true:=by exact rfl) (ho:o.op=.call { callee:=.value fx,args:=xs,argTypes:=ts }:=by exact rfl) (hfx:Zl env fx=some (.func (.func fno) #[] #[]):=by exact rfl) (hv:Yt env xs.toList=some vs:=by exact rfl):RJ P n ops (o :: l) K env w:=by
 obtain ⟨x,q,H⟩:=Yc H;refine RJ.op hw hd (Bl ks (hsp q) ho hfx hv hS (Zb1 hp) hr) ?_;rintro v w' ⟨post,hp,h⟩;exact hk x w' v post H hp h
theorem rS {Hs1 Hs'} (ho:OpT P o env w (fun _ w'=>St w0 F0 Hs1 Rs w')) (hk:∀ v w',St w0 F0 Hs' Rs w'->RJ P n ops l K (Xe o.dst v env) w') (hn:nfK Hs1 some=some Hs':=by exact rfl)
  (hw:Ye ops env o=some true:=by exact rfl) (hd:Xs n o.dst=true:=by exact rfl):RJ P n ops (o :: l) K env w:=
 RJ.op hw hd ho fun v w' h=>hk v w' (nf h hn)
theorem rB {V:Nat->Value} {Hs1 Hs':Nat->List Ch} (ho:OpT P o env w (fun v w'=>∃ b,v=V b/\St w0 F0 (Hs1 b) Rs w')) (hk:∀ b w',St w0 F0 (Hs' b) Rs w'->RJ P n ops l K (Xe o.dst (V b) env) w') (hn:∀ b,nfK (Hs1 b) some=some (Hs' b):=by exact fun _=>rfl)
  (hw:Ye ops env o=some true:=by exact rfl) (hd:Xs n o.dst=true:=by exact rfl):RJ P n ops (o :: l) K env w:=
 RJ.op hw hd ho (by rintro _ w' ⟨b,rfl,h⟩; exact hk b w' (nf h (hn b)))
theorem cSJ {ρ α:Type} {c:Option α} {f:α->Option ρ} {r:ρ} {fno} {xs} {ts:Array TypeId} {fx} {vs} {pre rd rest} {V:α->Value} {L Hs':α->List Ch} (i) (hi:nth ops i=some o) (H:c.bind f=some r) (ks) (hS:St w0 F0 Hs Rs w) (hp:Vi ks Hs (fun p r=>some (p,r))=some (pre,rest))
  (hsp:∀ {x},c=some x->Spec P fno vs pre rd (fun v l=>v=V x/\l=L x)) (hr:∀ c∈rd,Gives (rest ++ Rs) c) (d)
  (hk:∀ x w',f x=some r->St w0 F0 (Hs' x) Rs w'->HJ P n ops (Wh w0 F0 HsS Rs) K (i :: done) (Xe o.dst (V x) env) w') (hn:∀ x,nfK (L x ++ rest) some=some (Hs' x):=by exact fun _=>rfl) (hW:∀ x,(Hs' x).drop d=HsS:=by exact fun _=>rfl)
  (hs:X0 ops=true:=by exact rfl) (hl:J1 ops done i o=true:=by exact rfl) (hw:Ye ops env o=some true:=by exact rfl) (hd:Xs n o.dst=true:=by exact rfl) (ho:o.op=.call { callee:=.value fx,args:=xs,argTypes:=ts }:=by exact rfl) (hfx:Zl env fx=some (.func (.func fno) #[] #[]):=by exact rfl) (hv:Yt env xs.toList=some vs:=by exact rfl):HJ P n ops (Wh w0 F0 HsS Rs) K done env w:=by
 obtain ⟨x,q,H⟩:=Yc H;refine HJ.op hs hi hl hw hd (Bl ks (hsp q) ho hfx hv hS (Zb1 hp) hr) ?_;rintro _ w' ⟨_,⟨rfl,rfl⟩,h⟩;have h2:=nf h (hn x);exact ⟨⟨(Hs' x).take d,by rw [<- hW x,List.take_append_drop]; exact h2⟩,hk x w' H h2⟩
theorem cEJ {ρ α:Type} {c:Option α} {f:α->Option ρ} {r:ρ} {fno} {xs} {ts:Array TypeId} {fx} {vs} {pre rd rest} {Post:α->Value->List Ch->Prop} (i) (hi:nth ops i=some o) (H:c.bind f=some r) (ks) (hS:St w0 F0 Hs Rs w) (hp:Vi ks Hs (fun p r=>some (p,r))=some (pre,rest)) {S}
  (hsp:∀ {x},c=some x->Spec P fno vs pre rd (Post x)) (hr:∀ c∈rd,Gives (rest ++ Rs) c)
  (hk:∀ x w' v post,f x=some r->Post x v post->St w0 F0 (post ++ rest) Rs w'->S w'/\HJ P n ops S K (i :: done) (Xe o.dst v env) w')
  (hs:X0 ops=true:=by exact rfl) (hl:J1 ops done i o=true:=by exact rfl) (hw:Ye ops env o=some true:=by exact rfl) (hd:Xs n o.dst=true:=by exact rfl) (ho:o.op=.call { callee:=.value fx,args:=xs,argTypes:=ts }:=by exact rfl) (hfx:Zl env fx=some (.func (.func fno) #[] #[]):=by exact rfl) (hv:Yt env xs.toList=some vs:=by exact rfl):HJ P n ops S K done env w:=by
 obtain ⟨x,q,H⟩:=Yc H;refine HJ.op hs hi hl hw hd (Bl ks (hsp q) ho hfx hv hS (Zb1 hp) hr) ?_;rintro v w' ⟨post,hp,h⟩;exact hk x w' v post H hp h
theorem hS {Hs1 Hs'} (i) (hi:nth ops i=some o) (ho:OpT P o env w (fun _ w'=>St w0 F0 Hs1 Rs w')) (d) (hk:∀ v w',St w0 F0 Hs' Rs w'->HJ P n ops (Wh w0 F0 HsS Rs) K (i :: done) (Xe o.dst v env) w') (hn:nfK Hs1 some=some Hs':=by exact rfl) (hW:Hs'.drop d=HsS:=by exact rfl)
  (hs:X0 ops=true:=by exact rfl) (hl:J1 ops done i o=true:=by exact rfl) (hw:Ye ops env o=some true:=by exact rfl) (hd:Xs n o.dst=true:=by exact rfl):HJ P n ops (Wh w0 F0 HsS Rs) K done env w:=
 HJ.op hs hi hl hw hd ho fun v w' h=>⟨⟨Hs'.take d,by rw [<- hW,List.take_append_drop]; exact nf h hn⟩,hk v w' (nf h hn)⟩
theorem hB {V:Nat->Value} {Hs1 Hs':Nat->List Ch} (i:Nat) (hi:nth ops i=some o) (ho:OpT P o env w (fun v w'=>∃ b,v=V b/\St w0 F0 (Hs1 b) Rs w')) (d:Nat) (hk:∀ b w',St w0 F0 (Hs' b) Rs w'->HJ P n ops (Wh w0 F0 HsS Rs) K (i :: done) (Xe o.dst (V b) env) w') (hn:∀ b,nfK (Hs1 b) some=some (Hs' b):=by exact fun _=>rfl) (hW:∀ b,(Hs' b).drop d=HsS:=by exact fun _=>rfl)
  (hs:X0 ops=true:=by exact rfl) (hl:J1 ops done i o=true:=by exact rfl) (hw:Ye ops env o=some true:=by exact rfl) (hd:Xs n o.dst=true:=by exact rfl):HJ P n ops (Wh w0 F0 HsS Rs) K done env w:=
 HJ.op hs hi hl hw hd ho (by rintro _ w' ⟨b,rfl,h⟩; exact ⟨⟨(Hs' b).take d,by rw [<- hW b,List.take_append_drop]; exact nf h (hn b)⟩,hk b w' (nf h (hn b))⟩)
theorem hQ {v} {Hs'} (i) (hi:nth ops i=some o) (hq:QOp P o env (fun w'=>w'=w) v) (h:St w0 F0 Hs Rs w) (d) (hk:St w0 F0 Hs' Rs w->HJ P n ops (Wh w0 F0 HsS Rs) K (i :: done) (Xe o.dst v env) w) (hn:nfK Hs some=some Hs':=by exact rfl) (hW:Hs'.drop d=HsS:=by exact rfl)
  (hs:X0 ops=true:=by exact rfl) (hl:J1 ops done i o=true:=by exact rfl) (hw:Ye ops env o=some true:=by exact rfl) (hd:Xs n o.dst=true:=by exact rfl):HJ P n ops (Wh w0 F0 HsS Rs) K done env w:=
 HJ.op hs hi hl hw hd (OpT.ofq hq) (by rintro _ _ ⟨rfl,rfl⟩; exact ⟨⟨Hs'.take d,by rw [<- hW,List.take_append_drop]; exact nf h hn⟩,hk (nf h hn)⟩)
theorem hQS {v} {Hs'} (i) (hi:nth ops i=some o) (hq:QOp P o env (fun w'=>w'=w) v) (h:St w0 F0 Hs Rs w) (d) (hk:St w0 F0 Hs' Rs w->HJ P n ops (Wh w0 F0 HsS Rs) K (i :: done) (Xe o.dst v env) w) (hn:nfK Hs some=some Hs':=by exact rfl) (hW:Hs'.drop d=HsS:=by exact rfl)
  (hw:Ye ops env o=some true:=by exact rfl) (hd:Xs n o.dst=true:=by exact rfl):HS P n ops (Wh w0 F0 HsS Rs) K done env w i:=
 HS.op hi hw hd (OpT.ofq hq) (by rintro _ _ ⟨rfl,rfl⟩; exact ⟨⟨Hs'.take d,by rw [<- hW,List.take_append_drop]; exact nf h hn⟩,hk (nf h hn)⟩)
theorem jH {id} {tt_} [q_:TTI P tt_] (h0:St w0 F0 Hs Rs w) (h:St w0 F0 Hs Rs { w with drawn:=w.drawn+1 }->HJ P n ops (Wh w0 F0 Hs Rs) (PQ .normal) [] env { w with drawn:=w.drawn+1 }):J P n (.region id ops.toArray true) PQ env w:=
 J.heldSt q_.mix h0 (h h0.drew)
def Zkg:List Nat->List Ch->Option (List Ch)
 | [],_=>some []
 | k :: ks,l=>match nth l k with | none=>none | some c=>(Zkg ks l).map (c :: ·)
theorem gS {l}:∀ {cs} (ks) (h:Zkg ks l=some cs:=by exact rfl),∀ c∈cs,Gives l c
 | cs,[],h=>by injection h with h; subst h; exact Zk
 | cs,k :: ks,h=>by
  unfold Zkg at h;split at h
  ·cases h
  ·rename_i c hc;cases h2:Zkg ks l with
   | none=>rw [h2] at h; cases h
   | some cs2=>rw [h2] at h; injection h with h; subst h; exact Ya (Gives.self k hc) (gS ks h2)
theorem jR0 {fn} {V} {post} (h:St w0 F0 Hs Rs w) (ks) (e:Vi ks Hs (fun p _=>some p)=some post:=by exact rfl) (hr:(Jd env fn.results.toList).map Jg=some V:=by exact rfl):Zde P fn w0 F0 (fun v l=>v=V/\l=post) .ret env w:=by
 cases h1:Jd env fn.results.toList with
 | none=>rw [h1] at hr; cases hr
 | some vs=>
  rw [h1] at hr;exact ⟨_,_,_,Ue h1,⟨by injection hr,rfl⟩,sO h ks e⟩
theorem jR {fn} {Post} {vs} {post} (hp:Post (Jg vs) post) (h:St w0 F0 Hs Rs w) (ks) (e:Vi ks Hs (fun p _=>some p)=some post:=by exact rfl) (hr:Jd env fn.results.toList=some vs:=by exact rfl):Zde P fn w0 F0 Post .ret env w:=
 ⟨_,_,_,Ue hr,hp,sO h ks e⟩
theorem jRA {fn} {Post} {vs} {post rp} (hp:Post (Jg vs) post rp) (h:St w0 F0 post rp w) (hr:Jd env fn.results.toList=some vs:=by exact rfl):Zdz P fn w0 F0 Post .ret env w:=
 ⟨_,_,_,Ue hr,hp,h⟩
theorem jR2 {fn} {Post} {rs:List ResultVar} {vs} {post} (hv:∀ p∈rs.zip vs,RV P w env p.1 p.2) (hp:Post (Jg vs) post) (h:St w0 F0 Hs Rs w) (ks) (e:Vi ks Hs (fun p _=>some p)=some post:=by exact rfl) (hr:fn.results.toList=rs:=by exact rfl) (hl:Nat.beq rs.length vs.length=true:=by exact rfl):Zde P fn w0 F0 Post .ret env w:=
 ⟨_,_,_,Zcj hr hv hl,hp,sO h ks e⟩
theorem Zqz {fn} {Post} {rs:List ResultVar} {vs} {post rp} (hv:∀ p∈rs.zip vs,RV P w env p.1 p.2) (hp:Post (Jg vs) post rp) (h:St w0 F0 post rp w) (hr:fn.results.toList=rs:=by exact rfl) (hl:Nat.beq rs.length vs.length=true:=by exact rfl):Zdz P fn w0 F0 Post .ret env w:=
 ⟨_,_,_,Zcj hr hv hl,hp,h⟩
end
end Go.SK

namespace Go.SK
open Go Go.RowKit

section
variable {P:Program} {n:Nat} {env env':Env} {w:World} {ops:List Oper} {K:Env->World->Prop} {S:World->Prop} {o:Oper} {done done':List Nat}
theorem Fr.sub {a:Act} (h:Fr n env a) (hl:∀ t v,Z8 env' t=some v->Z8 env t=some v):Fr n env' a:=⟨h.size,h.defers,fun t v hv=>h.get t v (hl t v hv)⟩
theorem QOp.sub {v} (h:QOp P o env' S v) (hl:∀ t v,Z8 env' t=some v->Z8 env t=some v):QOp P o env S v:=fun n a w hf hS=>h n a w (hf.sub hl) hS
theorem Zkz (hd:∀ i,Z3 i done=Z3 i done') (m):Gz m done=Gz m done':=by
 unfold Gz;congr 2;funext j;rw [hd]
theorem Zj1 (hd:∀ i,Z3 i done=Z3 i done') (m):Vb m done=Vb m done':=by
 unfold Vb;congr 2;funext i;rw [<- Wb,<- Wb,hd]
theorem HJ.perm (h:HJ P n ops S K done' env' w) (hd:∀ i,Z3 i done=Z3 i done') (hl:∀ t v,Z8 env' t=some v->Z8 env t=some v):HJ P n ops S K done env w:=⟨fun fuel hS a Q hf hQ hfu=>by
 rw [Zj1 hd];exact h.go fuel hS a Q (hf.sub hl) hQ (by rw [<- Zkz hd]; exact hfu)⟩
theorem Za8 {L} (h:Wk done o=true) (hs:∀ i,Z3 i done=true->Z3 i L=true):Wk L o=true:=by
 unfold Wk at *;rw [List.all_eq_true] at *;intro e he;have:=h e he;rw [Bool.or_eq_true] at *;exact this.imp id fun q=>hs _ q
def Zh8 (ops:List Oper):Nat->Nat->Nat->Bool
 | 0,_,_=>false
 | m+1,j,b=>match nth ops j with
  | none=>false
  | some o=>o.after.toList.any fun e=>Region.binds .any e && (Nat.beq e.on b || Zh8 ops m e.on b)
def Zg4 (ops:List Oper) (L:List Nat):Prop:=∀ i o,nth ops i=some o->Z3 i L=true->Wk L o=true
theorem Zjh {L} (hc:Zg4 ops L) {b} (hb:Z3 b L=false):∀ m j,Zh8 ops m j b=true->Z3 j L=false/\∀ o,nth ops j=some o->Wk L o=false
 | 0,j,h=>by cases h
 | m+1,j,h=>by
  unfold Zh8 at h;cases hj:nth ops j with
  | none=>rw [hj] at h; cases h
  | some o=>
   rw [hj] at h;dsimp only at h;rw [List.any_eq_true] at h;obtain ⟨e,he,h⟩:=h;rw [Bool.and_eq_true,Bool.or_eq_true] at h;have hon:Z3 e.on L=false:=by
    rcases h.2 with q | q
    ·rw [Nat.eq_of_beq_eq_true q]; exact hb
    ·exact (Zjh hc hb m e.on q).1
   have hr:Wk L o=false:=by
    cases hq:Wk L o with
    | false=>rfl
    | true=>
     unfold Wk at hq;have:=List.all_eq_true.1 hq e he;rw [h.1,hon] at this;cases this
   refine ⟨?_,fun o' ho'=>by injection ho' with ho'; subst ho'; exact hr⟩;cases hm:Z3 j L with
   | false=>rfl
   | true=>rw [hc j o hj hm] at hr; cases hr
def Zh0 (ops:List Oper):List Nat->List (Nat×Nat×Value)->Bool
 | _,[]=>true
 | pre,p :: B=>(match nth ops p.1 with | some o=>Wk pre o | none=>false) && Zh0 ops (p.1 :: pre) B
theorem Zfm {L}:∀ B pre,Zh0 ops pre B=true->(∀ i,Z3 i pre=true->Z3 i L=true)->(∃ p∈B,Z3 p.1 L=false)->∃ p∈B,Z3 p.1 L=false/\∃ o,nth ops p.1=some o/\Wk L o=true
 | [],_,_,_,⟨p,hp,_⟩=>by cases hp
 | p :: B,pre,h,hs,hx=>by
  unfold Zh0 at h;rw [Bool.and_eq_true] at h;cases hm:Z3 p.1 L with
  | false=>
   cases ho:nth ops p.1 with
   | none=>rw [ho] at h; cases h.1
   | some o=>rw [ho] at h; exact ⟨p,List.mem_cons_self,hm,o,ho,Za8 h.1 hs⟩
  | true=>
   obtain ⟨q,hq,h1⟩:=hx;have hq':q∈B:=by
    rcases List.mem_cons.1 hq with rfl | q'
    ·rw [hm] at h1; cases h1
    ·exact q'
   obtain ⟨r,hr,h2⟩:=Zfm B (p.1 :: pre) h.2 (fun i hi=>by
    unfold Z3 at hi;cases hb:Nat.beq i p.1 with
    | true=>rw [Nat.eq_of_beq_eq_true hb]; exact hm
    | false=>rw [hb] at hi; exact hs i hi) ⟨q,hq',h1⟩
   exact ⟨r,List.mem_cons_of_mem _ hr,h2⟩
abbrev Bd:=Nat×Nat×Value
def Wc (D:List Bd):List Nat:=D.map (·.1)
def binds (D:List Bd):Env:=D.map fun p=>(p.2.1,p.2.2)
theorem memN_idx {D:List Bd} {i}:Z3 i (Wc D)=true↔∃ p∈D,p.1=i:=by
 rw [Wb,List.contains_iff_mem];unfold Wc;rw [List.mem_map]
theorem Ui {i} {l m}:Z3 i (l ++ m)=(Z3 i l || Z3 i m):=by
 rw [Wb,Wb,Wb,List.contains_append]
theorem Zcx {t} {v}:∀ {D:List Bd},Z8 (binds D ++ env) t=some v->(∃ p∈D,p.2.1=t/\p.2.2=v)\/Z8 env t=some v
 | [],h=>.inr h
 | p :: D,h=>by
  have h':Z8 ((p.2.1,p.2.2) :: (binds D ++ env)) t=some v:=h;simp only [Z8] at h';cases hb:Nat.beq p.2.1 t with
  | true=>
   rw [hb] at h';simp only [cond_true,Option.some.injEq] at h';exact .inl ⟨p,List.mem_cons_self,Nat.eq_of_beq_eq_true hb,h'⟩
  | false=>
   rw [hb] at h';exact (Zcx h').imp (fun ⟨q,hq,e⟩=>⟨q,List.mem_cons_of_mem _ hq,e⟩) id
theorem Zda {t} {v}:∀ {D:List Bd},(∀ p∈D,Z8 env p.2.1=none)->Z8 env t=some v->Z8 (binds D ++ env) t=some v
 | [],_,h=>h
 | p :: D,hn,h=>by
  show Z8 ((p.2.1,p.2.2) :: (binds D ++ env)) t=some v;simp only [Z8];cases hb:Nat.beq p.2.1 t with
  | true=>
   rw [<- Nat.eq_of_beq_eq_true hb,hn p List.mem_cons_self] at h;cases h
  | false=>exact Zda (fun q hq=>hn q (List.mem_cons_of_mem _ hq)) h
theorem Zeo:∀ {D:List Bd},(∀ p∈D,∀ q∈D,p.2.1=q.2.1->p=q)->∀ p∈D,Z8 (binds D ++ env) p.2.1=some p.2.2
 | [],_,p,hp=>by cases hp
 | q :: D,hd,p,hp=>by
  show Z8 ((q.2.1,q.2.2) :: (binds D ++ env)) p.2.1=some p.2.2;simp only [Z8];cases hb:Nat.beq q.2.1 p.2.1 with
  | true=>rw [hd q List.mem_cons_self p hp (Nat.eq_of_beq_eq_true hb)]; rfl
  | false=>
   rcases List.mem_cons.1 hp with rfl | hp'
   ·rw [Nat.beq_refl] at hb; cases hb
   ·exact Zeo (fun a ha b hb=>hd a (List.mem_cons_of_mem _ ha) b (List.mem_cons_of_mem _ hb)) p hp'
def Zbs (o:Oper) (i:Nat):Bool:=o.after.toList.any fun e=>Region.binds .any e && Nat.beq e.on i
theorem Zli {L} {i} (h:Wk L o=true) (hn:Zbs o i=true):Z3 i L=true:=by
 unfold Zbs at hn;rw [List.any_eq_true] at hn;obtain ⟨e,he,h2⟩:=hn;rw [Bool.and_eq_true] at h2;unfold Wk at h;have:=List.all_eq_true.1 h e he;rw [h2.1,Nat.eq_of_beq_eq_true h2.2] at this;simpa using this
theorem Zfc {α:Type} {f g:α->Bool} (hfg:∀ x,f x=true->g x=true):∀(l:List α) (p:α),p∈l->g p=true->f p=false->(l.filter f).length<(l.filter g).length
 | [],p,hp,_,_=>by cases hp
 | x :: l,p,hp,hg,hf=>by
  have hle:(l.filter f).length<=(l.filter g).length:=by
   clear hp
   induction l with
   | nil=>exact Nat.le_refl _
   | cons y l ih=>
    simp only [List.filter_cons];cases h1:f y with
    | true=>rw [hfg y h1]; simpa using ih
    | false=>cases g y <;> simp <;> omega
  simp only [List.filter_cons];rcases List.mem_cons.1 hp with rfl | hp'
  ·rw [hg,hf];simp;omega
  ·have:=Zfc hfg l p hp' hg hf;cases h1:f x with
   | true=>rw [hfg x h1]; simpa using this
   | false=>cases g x <;> simp <;> omega
theorem HJ.bundle {B:List Bd} (hs:X0 ops=true)
  (hB:∀ p∈B,∃ o,nth ops p.1=some o/\o.dst=some p.2.1/\Nat.ble (p.2.1+1) n=true/\∀ E:Env,(∀ t v,Z8 env t=some v->Z8 E t=some v)->(∀ q∈B,Zbs o q.1=true->Z8 E q.2.1=some q.2.2)->Ye ops E o=some true/\QOp P o E (fun w'=>w'=w) p.2.2)
  (hfr:∀ p∈B,Z3 p.1 done=false) (hord:Zh0 ops done B=true) (hcl:Zg4 ops done)
  (hlate:∀ j o,nth ops j=some o->Z3 j done=false->Z3 j (Wc B)=false->∀ p∈B,Zh8 ops ops.length j p.1=true)
  (hen:∀ p∈B,Z8 env p.2.1=none) (hsl:∀ p∈B,∀ q∈B,p.2.1=q.2.1->p=q) (hix:∀ p∈B,∀ q∈B,p.1=q.1->p=q)
  (h:HJ P n ops S K (Wc B ++ done) (binds B ++ env) w):HJ P n ops S K done env w:=by
 have key:∀(m:Nat) (D:List Bd),(∀ p∈D,p∈B)->(B.filter fun p=>!Z3 p.1 (Wc D)).length<=m->Zg4 ops (Wc D ++ done)->HJ P n ops S K (Wc D ++ done) (binds D ++ env) w:=by
  intro m
  induction m with
  | zero=>
   intro D hD hm _;have hall:∀ p∈B,Z3 p.1 (Wc D)=true:=fun p hp=>by
    have:=List.filter_eq_nil_iff.1 (List.eq_nil_of_length_eq_zero (Nat.le_zero.1 hm)) p hp;simpa using this
   refine h.perm (fun i=>?_) (fun t v hv=>?_)
   ·rw [Ui,Ui];congr 1;rw [Bool.eq_iff_iff,memN_idx,memN_idx];refine ⟨fun ⟨p,hp,e⟩=>⟨p,hD p hp,e⟩,fun ⟨p,hp,e⟩=>?_⟩;exact memN_idx.1 (e ▸ hall p hp)
   ·rcases Zcx hv with ⟨p,hp,e1,e2⟩ | hv'
    ·obtain ⟨q,hq,e⟩:=memN_idx.1 (hall p hp);have:=hix q (hD q hq) p hp e;subst this;subst e1; subst e2;exact Zeo (fun a ha b hb=>hsl a (hD a ha) b (hD b hb)) q hq
    ·exact Zda (fun p hp=>hen p (hD p hp)) hv'
  | succ m ih=>
   intro D hD hm hc;by_cases hall:∀ p∈B,Z3 p.1 (Wc D)=true
   ·exact ih D hD (by rw [List.filter_eq_nil_iff.2 (fun p hp=>by simp [hall p hp])]; exact Nat.zero_le _) hc
   refine ⟨fun fuel hS a Q hf hQ hfu=>?_⟩;have hs':=hs;simp only [X0,Bool.and_eq_true] at hs';have hnot:∀ p∈B,Z3 p.1 (Wc D)=false->Z3 p.1 (Wc D ++ done)=false:=fun p hp e=>by rw [Ui,e,hfr p hp]; rfl
   have hx:∃ p∈B,Z3 p.1 (Wc D ++ done)=false:=by
    refine Classical.byContradiction fun hno=>hall fun p hp=>?_;cases e:Z3 p.1 (Wc D) with
    | true=>rfl
    | false=>exact absurd ⟨p,hp,hnot p hp e⟩ hno
   obtain ⟨p0,hp0,hm0,o0,ho0,hr0⟩:=Zfm B done hord (fun i hi=>by rw [Ui,hi,Bool.or_true]) hx;have ho0':ops[p0.1]?=some o0:=by rw [<- Yk]; exact ho0
   have hrdy:=(Um (done:=Wc D ++ done) hs'.1).2 ⟨o0,ho0',hm0,hr0⟩;have hless0:=Up (List.getElem?_eq_some_iff.1 ho0').1 hm0;cases fuel with
   | zero=>omega
   | succ fuel=>
    refine ⟨fun h0=>(by rw [h0] at hrdy; cases hrdy),fun j hj=>?_⟩;obtain ⟨oj,h1,h2,h3⟩:=(Um hs'.1).1 hj;have hj':nth ops j=some oj:=by rw [Yk]; exact h1
    have hin:∃ p∈B,p.1=j:=by
     cases hmb:Z3 j (Wc B) with
     | true=>exact memN_idx.1 hmb
     | false=>
      rw [Ui,Bool.or_eq_false_iff] at h2;have:=(Zjh hc hm0 ops.length j (hlate j oj hj' h2.2 hmb p0 hp0)).2 oj hj';rw [h3] at this;cases this
    obtain ⟨p,hp,rfl⟩:=hin;obtain ⟨o,ho,hd,hn,hq⟩:=hB p hp;rw [hj'] at ho;injection ho with ho;subst ho;obtain ⟨hw,hq⟩:=hq (binds D ++ env) (fun t v hv=>Zda (fun q hq=>hen q (hD q hq)) hv) (fun q hq hne=>by
     have:=Zli h3 hne;rw [Ui,hfr q hq,Bool.or_false] at this;obtain ⟨q',hq',e⟩:=memN_idx.1 this;have:=hix q' (hD q' hq') q hq e;subst this;exact Zeo (fun a ha b hb=>hsl a (hD a ha) b (hD b hb)) q' hq')
    have hlt:p.1<ops.length:=(List.getElem?_eq_some_iff.1 h1).1;have hless:=Up hlt h2;have hi':ops.toArray[p.1]?=some oj:=by simpa using h1
    unfold wpOp;simp only [hi'];rw [if_pos (Wx (ops:=ops.toArray) hf (by simpa using hw))];refine .inl (OpT.ofq hq n a _ _ hf ?_);rintro v w' ⟨rfl,rfl⟩;refine ⟨hS,?_⟩;rw [Gx hlt];have hmem:∀ q∈p :: D,q∈B:=fun q hq=>by
     rcases List.mem_cons.1 hq with rfl | hq
     ·exact hp
     ·exact hD q hq
    refine (ih (p :: D) hmem ?_ ?_).go fuel hS _ Q (by rw [hd]; exact hf.put p.2.2 hn) hQ (by show Gz ops.length (p.1 :: (Wc D ++ done))<=fuel; omega)
    ·have hlt2:(B.filter fun q=>!Z3 q.1 (Wc (p :: D))).length<(B.filter fun q=>!Z3 q.1 (Wc D)).length:=by
      refine Zfc (fun x hx=>?_) B p hp ?_ ?_
      ·simp only [Bool.not_eq_true',<- Bool.not_eq_true] at hx ⊢;exact fun e=>hx (by
        show Z3 x.1 (p.1 :: Wc D)=true;unfold Z3;cases Nat.beq x.1 p.1 with
        | true=>rfl
        | false=>exact e)
      ·rw [Ui,Bool.or_eq_false_iff] at h2;simp [h2.1]
      ·have:Z3 p.1 (Wc (p :: D))=true:=memN_idx.2 ⟨p,List.mem_cons_self,rfl⟩;simp [this]
     omega
    ·intro i oi hi hmi;have hmi':Z3 i (p.1 :: (Wc D ++ done))=true:=hmi;have sub:∀ k,Z3 k (Wc D ++ done)=true->Z3 k (Wc (p :: D) ++ done)=true:=fun k hk=>by
      show Z3 k (p.1 :: (Wc D ++ done))=true;unfold Z3;cases Nat.beq k p.1 with
      | true=>rfl
      | false=>exact hk
     unfold Z3 at hmi';cases hb:Nat.beq i p.1 with
     | true=>
      have:=Nat.eq_of_beq_eq_true hb;subst this;rw [hj'] at hi;injection hi with hi;subst hi;exact Za8 h3 sub
     | false=>
      rw [hb] at hmi';exact Za8 (hc i oi hi hmi') sub
 exact key _ [] (fun p hp=>by cases hp) (Nat.le_refl _) hcl
def AllQ (P:Program) (n:Nat) (ops:List Oper) (env:Env) (w:World):List Bd->List Bd->Prop
 | _,[]=>True
 | pre,p :: rest=>(∃ o,nth ops p.1=some o/\o.dst=some p.2.1/\Nat.ble (p.2.1+1) n=true/\o.guard=none/\QOp P o (binds (pre.filter fun q=>Zbs o q.1) ++ env) (fun w'=>w'=w) p.2.2)/\AllQ P n ops env w (p :: pre) rest
theorem Vm {pre:List Bd}:AllQ P n ops env w pre []:=trivial
theorem Yv {pre rest:List Bd} {t} {v} (i) (hi:nth ops i=some o) (hq:QOp P o (binds (pre.filter fun q=>Zbs o q.1) ++ env) (fun w'=>w'=w) v) (h:AllQ P n ops env w ((i,t,v) :: pre) rest) (hd:o.dst=some t:=by exact rfl) (hn:Nat.ble (t+1) n=true:=by exact rfl) (hg:o.guard=none:=by exact rfl):AllQ P n ops env w pre ((i,t,v) :: rest):=
 ⟨⟨o,hi,hd,hn,hg,hq⟩,h⟩
theorem AllQ.at:∀ {pre B:List Bd},AllQ P n ops env w pre B->∀ p∈B,∃(o:Oper) (pre':List Bd),(∀ q∈pre',q∈pre\/q∈B)/\nth ops p.1=some o/\o.dst=some p.2.1/\Nat.ble (p.2.1+1) n=true/\o.guard=none/\QOp P o (binds (pre'.filter fun q=>Zbs o q.1) ++ env) (fun w'=>w'=w) p.2.2
 | _,[],_,p,hp=>by cases hp
 | pre,b :: B,h,p,hp=>by
  rcases List.mem_cons.1 hp with rfl | hp'
  ·obtain ⟨o,h1⟩:=h.1;exact ⟨o,pre,fun q hq=>.inl hq,h1⟩
  ·obtain ⟨o,pre',hs,h1⟩:=AllQ.at h.2 p hp';refine ⟨o,pre',fun q hq=>?_,h1⟩;rcases hs q hq with e | e
   ·rcases List.mem_cons.1 e with rfl | e
    ·exact .inr List.mem_cons_self
    ·exact .inl e
   ·exact .inr (List.mem_cons_of_mem _ e)
def Zid (f:Nat->Oper->Bool):Nat->List Oper->Bool
 | _,[]=>true
 | k,o :: r=>f k o && Zid f (k+1) r
theorem Zbf {f}:∀ r k,Zid f k r=true->∀ j o,r[j]?=some o->f (k+j) o=true
 | [],k,_,j,o,hj=>by simp at hj
 | x :: r,k,h,j,o,hj=>by
  unfold Zid at h;rw [Bool.and_eq_true] at h;cases j with
  | zero=>
   simp only [List.getElem?_cons_zero,Option.some.injEq] at hj;subst hj;exact h.1
  | succ j=>
   simp only [List.getElem?_cons_succ] at hj;have:=Zbf r (k+1) h.2 j o hj
   rwa [show k+1+j=k+(j+1) by omega] at this
def Zhp:List Nat->Bool
 | []=>true
 | x :: l=>!Z3 x l && Zhp l
theorem Zbg {f:Bd->Nat}:∀ {B:List Bd},Zhp (B.map f)=true->∀ p∈B,∀ q∈B,f p=f q->p=q
 | [],_,p,hp,_,_,_=>by cases hp
 | b :: B,h,p,hp,q,hq,e=>by
  have h':(!Z3 (f b) (B.map f) && Zhp (B.map f))=true:=h;rw [Bool.and_eq_true,Bool.not_eq_true'] at h';have no:∀ x∈B,f x≠f b:=fun x hx e=>by
   have:=h'.1;rw [Wb,<- Bool.not_eq_true,List.contains_iff_mem] at this;exact this (List.mem_map.2 ⟨x,hx,e⟩)
  rcases List.mem_cons.1 hp with rfl | hp' <;> rcases List.mem_cons.1 hq with rfl | hq'
  ·rfl
  ·exact absurd e.symm (no q hq')
  ·exact absurd e (no p hp')
  ·exact Zbg h'.2 p hp' q hq' e
def Zol (ops:List Oper) (done:List Nat) (env:Env) (B:List Bd):Bool:=
 Zh0 ops done B && Zid (fun i o=>!Z3 i done || Wk done o) 0 ops && Zid (fun j _=>Z3 j done || Z3 j (Wc B) || (Wc B).all (Zh8 ops ops.length j)) 0 ops && Zhp (B.map (·.1)) && Zhp (B.map (·.2.1)) && B.all fun p=>!Z3 p.1 done && (Z8 env p.2.1).isNone
theorem HJ.loads {B:List Bd} {done'} {env'} (hq:AllQ P n ops env w [] B) (h:HJ P n ops S K done' env' w) (hs:X0 ops=true:=by exact rfl) (hb:Zol ops done env B=true:=by exact rfl) (hd:Wc B ++ done=done':=by exact rfl) (he:binds B ++ env=env':=by exact rfl):HJ P n ops S K done env w:=by
 subst hd; subst he;unfold Zol at hb;simp only [Bool.and_eq_true] at hb;obtain ⟨⟨⟨⟨⟨b1,b2⟩,b3⟩,b4⟩,b5⟩,b6⟩:=hb;have b6':=fun p hp=>List.all_eq_true.1 b6 p hp;refine HJ.bundle hs (fun p hp=>?_) (fun p hp=>?_) b1 (fun i o hi hm=>?_) (fun j o hj h1 h2 p hp=>?_) (fun p hp=>?_) (Zbg (f:=fun p=>p.2.1) b5) (Zbg (f:=fun p=>p.1) b4) h
 ·obtain ⟨o,pre,hpre,h1,h2,h3,h4,h5⟩:=hq.at p hp;refine ⟨o,h1,h2,h3,fun E hE hN=>⟨by unfold Ye; rw [h4],h5.sub fun t v hv=>?_⟩⟩;rcases Zcx hv with ⟨q,hq',e1,e2⟩ | hv'
  ·rw [List.mem_filter] at hq';rcases hpre q hq'.1 with e | e
   ·cases e
   ·subst e1; subst e2;exact hN q e hq'.2
  ·exact hE t v hv'
 ·have:=b6' p hp;rw [Bool.and_eq_true,Bool.not_eq_true'] at this;exact this.1
 ·have:=Zbf ops 0 b2 i o (by rw [<- Yk]; exact hi);rw [Nat.zero_add,hm] at this;simpa using this
 ·have:=Zbf ops 0 b3 j o (by rw [<- Yk]; exact hj);rw [Nat.zero_add,h1,h2] at this;rw [Bool.false_or,Bool.false_or] at this;exact List.all_eq_true.1 this p.1 (List.mem_map.2 ⟨p,hp,rfl⟩)
 ·have:=b6' p hp;rw [Bool.and_eq_true] at this;simpa using this.2
end
section
variable {P:Program} {n:Nat} {env env':Env} {w:World} {ops:List Oper} {K:Env->World->Prop} {S:World->Prop} {done done':List Nat}
theorem HJ.named (h:∀(G:List Nat->Env->World->Prop) (E:Env),E=env->(∀ d e w,HJ P n ops S K d e w↔G d e w)->G done env w):HJ P n ops S K done env w:=h (fun d e w=>HJ P n ops S K d e w) env rfl fun _ _ _=>Iff.rfl
def Zab (e:Env):List Nat->Env
 | []=>[]
 | i :: is=>match nth e i with
  | some p=>p :: Zab e is
  | none=>Zab e is
def Jk (t:Nat):Env->Bool
 | []=>false
 | p :: e=>cond (Nat.beq p.1 t) true (Jk t e)
def Zdm:Env->Bool
 | []=>true
 | p :: e=>cond (Jk p.1 e) false (Zdm e)
theorem Zc1 {t:Nat} {v:Value}:∀ {e:Env},Z8 e t=some v->(t,v)∈e
 | [],h=>by cases h
 | p :: e,h=>by
  have h':Z8 ((p.1,p.2) :: e) t=some v:=h;simp only [Z8] at h';cases hb:Nat.beq p.1 t with
  | true=>
   rw [hb] at h';simp only [cond_true,Option.some.injEq] at h';rw [<- Nat.eq_of_beq_eq_true hb,<- h'];exact List.mem_cons_self
  | false=>rw [hb] at h'; exact List.mem_cons_of_mem _ (Zc1 h')
theorem Zdi {t:Nat} {v:Value}:∀ {e:Env},(t,v)∈e->Jk t e=true
 | p :: e,h=>by
  simp only [Jk];cases hb:Nat.beq p.1 t with
  | true=>rfl
  | false=>
   rcases List.mem_cons.1 h with rfl | h
   ·rw [Nat.beq_refl] at hb; cases hb
   ·exact Zdi h
theorem Zhk {t:Nat} {v:Value}:∀ {e:Env},Zdm e=true->(t,v)∈e->Z8 e t=some v
 | p :: e,hs,h=>by
  show Z8 ((p.1,p.2) :: e) t=some v;simp only [Z8];simp only [Zdm] at hs;cases hi:Jk p.1 e with
  | true=>rw [hi] at hs; cases hs
  | false=>
   rw [hi] at hs;rcases List.mem_cons.1 h with rfl | h
   ·rw [Nat.beq_refl]; rfl
   ·cases hb:Nat.beq p.1 t with
    | true=>rw [Nat.eq_of_beq_eq_true hb,Zdi h] at hi; cases hi
    | false=>exact Zhk hs h
theorem Zbn {e:Env} {m:Nat} {p:Nat×Value}:∀ {is:List Nat},is.all (Nat.blt · m)=true->p∈Zab e is->p∈e.take m
 | i :: is,hi,h=>by
  rw [List.all_cons,Bool.and_eq_true] at hi;unfold Zab at h;cases hn:nth e i with
  | none=>rw [hn] at h; exact Zbn hi.2 h
  | some q=>
   rw [hn] at h;rcases List.mem_cons.1 h with rfl | h
   ·rw [Yk] at hn;refine List.mem_of_getElem? (i:=i) ?_;rw [List.getElem?_take_of_lt (by simpa [Nat.blt_eq] using hi.1)];exact hn
   ·exact Zbn hi.2 h
theorem Zcp {t:Nat} {b:Env}:∀ {a:Env},Z8 (a ++ b) t=(Z8 a t).or (Z8 b t)
 | []=>rfl
 | p :: a=>by
  show Z8 ((p.1,p.2) :: (a ++ b)) t=(Z8 ((p.1,p.2) :: a) t).or (Z8 b t);simp only [Z8];cases Nat.beq p.1 t with
  | true=>rfl
  | false=>exact Zcp
theorem HJ.re (is:List Nat) (m:Nat) (h:HJ P n ops S K done' env' w) (he:Zab env is ++ env.drop m=env':=by exact rfl) (hd:(done.all (Z3 · done') && done'.all (Z3 · done))=true:=by exact rfl) (hk:Zdm (env.take m)=true:=by exact rfl) (hi:is.all (Nat.blt · m)=true:=by exact rfl) (hs:(env.take m).all (fun p=>Jk p.1 (Zab env is))=true:=by exact rfl):HJ P n ops S K done env w:=by
 subst he;rw [Bool.and_eq_true,List.all_eq_true,List.all_eq_true] at hd;have mm:∀(i:Nat) (d:List Nat),Z3 i d=true↔i∈d:=fun i d=>by rw [Wb,List.contains_iff_mem]
 refine h.perm (fun i=>?_) fun t v hv=>?_
 ·rw [Bool.eq_iff_iff];exact ⟨fun z=>hd.1 i ((mm i _).1 z),fun z=>hd.2 i ((mm i _).1 z)⟩
 ·have e:Z8 env t=(Z8 (env.take m) t).or (Z8 (env.drop m) t):=by rw [<- Zcp,List.take_append_drop]
  rw [Zcp] at hv;rw [e];cases hp:Z8 (Zab env is) t with
  | some u=>
   rw [hp] at hv;rw [Zhk hk (Zbn hi (Zc1 hp))];exact hv
  | none=>
   rw [hp] at hv;cases ht:Z8 (env.take m) t with
   | none=>exact hv
   | some u=>
    have:=List.all_eq_true.1 hs _ (Zc1 ht);have hx:∀ {e:Env},Jk t e=true->Z8 e t≠none:=fun {e}=>by
     induction e with
     | nil=>intro q; cases q
     | cons p e ih=>
      intro q;show Z8 ((p.1,p.2) :: e) t≠none;simp only [Z8];simp only [Jk] at q;cases hb:Nat.beq p.1 t with
      | true=>intro z; cases z
      | false=>rw [hb] at q; exact ih q
    exact absurd hp (hx this)
end
end Go.SK
