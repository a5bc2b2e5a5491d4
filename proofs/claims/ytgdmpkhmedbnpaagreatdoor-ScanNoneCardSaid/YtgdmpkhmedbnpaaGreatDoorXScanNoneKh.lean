/- Part of the library of this claim: how code is stepped through. -/
import Derived.Test.YtgdmpkhmedbnpaaGreatDoorXScanNoneKg
set_option linter.unusedVariables false
set_option linter.unusedSimpArgs false
namespace Go.SK
open Go Go.RowKit

def two (A:List Ch):List Ch:=A
section
variable {P:Program} {tt:TT} {env:Env} {o:Oper} {w0 w:World} {F0:Ft} {Hs Rs:List Ch}

theorem Gq (w:World) (ob:Obj):(w.alloc ob).heap[w.heap.size]?=some ob:=heap_alloc_new w ob
theorem OpT.value {K:Value→World→Prop} (h:∀ n a,Fr n env a→∃ v w',(execOp a.eval o).run P w=.ok (.value v) w'∧K v w'):OpT P o env w K:=by
 intro n a next Q hf hk
 obtain ⟨v,w',hr,hK⟩:=h n a hf
 unfold Oper.wp
 rw [hr]
 exact hk v w' hK
theorem OpT.skip {K:Value→World→Prop} (h:∀ n a,Fr n env a→∃ w',(execOp a.eval o).run P w=.ok .skip w'∧K undef w'):OpT P o env w K:=by
 intro n a next Q hf hk
 obtain ⟨w',hr,hK⟩:=h n a hf
 unfold Oper.wp
 rw [hr]
 exact hk _ w' hK
theorem St.box (hS:St w0 F0 Hs Rs w) (t:Nat) (cs:Array Value):St w0 F0 (Yr w.heap.size t cs.toList :: Hs) Rs (w.alloc (.cells cs t)):=
 hS.add (F':=fun b=>b=w.heap.size) (Chg.alloc w _ _) ⟨rfl,by rw [Array.toArray_toList]; exact Gq w _⟩ (fun b hb=>by simp [hb])
theorem Zmz {t:Nat} {x:Operand} {v:Value} (ho:o.op=.box t x) (hx:Zq env x=some v) (hS:St w0 F0 Hs Rs w) :
  OpT P o env w (fun v' w'=>∃ b,v'=.pointer (some ⟨b,0,none⟩)∧St w0 F0 (Yr b t v.cells.toList :: Hs) Rs w'):=
 OpT.value fun n a hf=>⟨_,w.alloc (.cells v.cells t),by simp [execOp,ho,hf.eval hx,Instr.box,newVar,newRow],w.heap.size,rfl,hS.box t v.cells⟩
theorem Zjv (hT:Yk P tt) {t:Nat} {i:TI} (ho:o.op=.alloc t) (hi:find tt t=some i) (hS:St w0 F0 Hs Rs w) :
  OpT P o env w (fun v' w'=>∃ b,v'=.pointer (some ⟨b,0,none⟩)∧St w0 F0 (Yr b t i.zero.cells.toList :: Hs) Rs w'):=
 OpT.value fun n a hf=>⟨_,w.alloc (.cells i.zero.cells t),by simp [execOp,ho,Instr.alloc,Wx w (hT _ _ hi),newVar,newRow],w.heap.size,rfl,hS.box t i.zero.cells⟩
theorem X9 (w:World) (g:Nat) (cs:Array Value) {F:Nat→Prop} (h:F g):Chg w (w.setRow g cs) F:=
 ⟨rfl,rfl,rfl,by simp,fun b _ hn=>setRow_other w g b cs (fun e=>hn (e ▸ h))⟩
theorem Zj3 (hT:Yk P tt) {t:Nat} {x y:Operand} {i:TI} {b off tb:Nat} {cs:List Value} {v:Value} (k:Nat) (ho:o.op=.store t x y) (hS:St w0 F0 Hs Rs w) (hk:nth Hs k=some (Yr b tb cs))
  (hi:find tt t=some i) (ha:Zq env x=some (.pointer (some ⟨b,off,none⟩))) (hv:Zq env y=some v) (hsz:Nat.beq v.cells.toList.length i.size=true) (hle:Nat.ble (off+i.size) cs.length=true) (h1:v.cells.toList.all (fun u=>u.oneCell')=true) :
  OpT P o env w (fun _ w'=>St w0 F0 (Yr b tb (Zy off v.cells.toList cs) :: Hs.eraseIdx k) Rs w'):=
 OpT.skip fun n a hf=>by
  obtain ⟨F,⟨hFb,hh⟩,hlt,hs⟩:=hS.turn hk
  have hsz':v.cells.size=i.size:=by have:=Nat.eq_of_beq_eq_true hsz; simpa using this
  have hle':off+i.size≤cs.length:=Nat.le_of_ble_eq_true hle
  have hst:=run_storeCells_at P b off tb v.cells.toList 0 cs.toArray w hh (by simp; omega) (by rw [List.all_eq_true] at h1; exact h1)
  have hlist:cs.toArray.toList.take (off+0) ++ v.cells.toList ++ cs.toArray.toList.drop (off+0+v.cells.toList.length)=Zy off v.cells.toList cs:=by simp [Zy]
  rw [hlist] at hst
  refine ⟨w.setRow b (Zy off v.cells.toList cs).toArray,by simp [execOp,ho,hf.eval ha,hf.eval hv,Instr.storeAt,Instr.sureAddr,storeVar,Xe w (hT _ _ hi),hsz',hst],?_⟩
  exact hs _ (Yr b tb (Zy off v.cells.toList cs)) F (X9 w b _ hFb) ⟨hFb,setRow_heap w b _ _ _ _ hh⟩ (fun c hc=>⟨.inl hc,by simpa using hlt c hc⟩)
theorem Ze4 (sz:Nat):∀(vs:List Value) (k:Nat) (done rest:List Value),(∀ v∈vs,v.cells.size=sz)→done.length=k*sz→rest.length=vs.length*sz→
  Instr.fill (fun i=>some (i*sz,sz)) (done ++ rest).toArray ((List.range' k vs.length).zip vs)=some (done ++ vs.flatMap (fun v=>v.cells.toList)).toArray
 | [],k,done,rest,_,_,hr=>by
  have:rest=[]:=List.eq_nil_of_length_eq_zero (by simpa using hr)
  subst this
  simp [Instr.fill]
 | v :: vs,k,done,rest,h,hd,hr=>by
  have hv:=h v (by simp)
  simp only [List.length_cons,Nat.add_mul,Nat.one_mul] at hr
  simp only [List.length_cons,List.range'_succ,List.zip_cons_cons,Instr.fill]
  rw [if_neg (by simp [hv,hd]; omega)]
  have hf:(v.cells.zipIdx.foldl (fun(cs:Array Value) (x:Value×Nat)=>cs.setIfInBounds (k*sz+x.2) x.1) (done ++ rest).toArray)=((done ++ v.cells.toList) ++ rest.drop sz).toArray:=by
   apply Array.ext'
   rw [← Array.foldl_toList,Bf]
   have:=Zdk v.cells.toList (k*sz) 0 (done ++ rest).toArray (by simp [hv,hd]; omega)
   simp only [Nat.add_zero] at this
   rw [this]
   simp only [Zy]
   rw [List.take_append_of_le_length (by omega),List.take_of_length_le (by omega),List.drop_append]
   rw [List.drop_of_length_le (by simp [hv]; omega)]
   simp only [Array.length_toList,hv,hd,List.nil_append]
   congr 2; omega
  have:=Ze4 sz vs (k+1) (done ++ v.cells.toList) (rest.drop sz) (fun u hu=>h u (by simp [hu])) (by simp [hv,hd,Nat.add_mul]) (by simp; omega)
  simp only [List.flatMap_cons,← List.append_assoc]
  rw [← this]
  exact congrArg (fun cs=>Instr.fill _ cs _) hf
theorem Zat (hT:Yk P tt) {T e m:Nat} {z1 z2:Nat} {z:Value} {ie:TI} {ps:Array (Nat×Operand)} {vs:List Value} (ho:o.op=.buildSlice T m ps)
  (ht:find tt T=some ⟨.slice e,z1,z2,z⟩) (hi:find tt e=some ie) (hm:vs.length=m) (hm2:Nat.ble (m*ie.size) 16777216=true)
  (hv:Yv env (ps.toList.map (·.2))=some vs) (hix:ps.toList.map (·.1)=List.range' 0 vs.length) (hsz:vs.all (fun v=>Nat.beq v.cells.toList.length ie.size)=true) {n:Nat} {a:Act} (hf:Fr n env a) :
  (execOp a.eval o).run P w=.ok (.value (.slice (some ⟨w.heap.size,0,none⟩) m m)) (w.alloc (.cells (vs.flatMap (fun v=>v.cells.toList)).toArray e)):=by
 have hk:=(hT _ _ ht).kind
 simp only [TK.ok] at hk
 have hszr:=Xe w (hT _ _ hi)
 have hz:=Wx w (hT _ _ hi)
 have hmap:ps.map (fun x=>(x.1,a.eval x.2))=((List.range' 0 vs.length).zip vs).toArray:=by
  apply Array.ext'
  rw [Array.toList_map,← hix]
  exact Zbq hf _ _ hv
 have hne:¬ (m*ie.size>2 ^ 24):=by
  have:=Nat.le_of_ble_eq_true hm2
  have:(2:Nat) ^ 24=16777216:=by decide
  omega
 have hall:∀ v∈vs,v.cells.size=ie.size:=fun v hv=>by
  have:=List.all_eq_true.1 hsz v hv
  simpa using Nat.eq_of_beq_eq_true this
 have hfill:∀ zs:Array Value,zs.size=m*ie.size→Instr.fill (fun i=>some (i*ie.size,ie.size)) zs ((List.range' 0 vs.length).zip vs)=some (vs.flatMap (fun v=>v.cells.toList)).toArray:=fun zs hzs=>by
  have:=Ze4 ie.size vs 0 [] zs.toList hall (by simp) (by simp [hzs,hm])
  simpa using this
 by_cases h0:m*ie.size=0
 ·have h1:=hfill ((Array.range (m*ie.size)).map fun i=>(#[]:Array Value)[i % (#[]:Array Value).size]!) (by simp)
  simp only [execOp,ho,hmap,Instr.buildSlice,Sem.run_bind,Z2 w hk,Result.andThen_ok,hszr,Sem.run_ite,if_neg hne,Sem.run_pure,if_pos h0]
  simp only [h1]
  simp [newRow]
 ·have h1:=hfill ((Array.range (m*ie.size)).map fun i=>ie.zero.cells[i % ie.zero.cells.size]!) (by simp)
  simp only [execOp,ho,hmap,Instr.buildSlice,Sem.run_bind,Z2 w hk,Result.andThen_ok,hszr,Sem.run_ite,if_neg hne,Sem.run_pure,if_neg h0,hz]
  simp only [h1]
  simp [newRow]
theorem Zk2 (w:World) {e m:Nat} {ty:Ty} {xs:List ty.D} {inner:List Value} {F':Nat→Prop} (he:Elems (ty.ok (w.alloc (.cells inner.toArray e)) F') xs inner) (hm:xs.length=m) (hm2:m≤maxLen) (hF:∀ b,F' b→b<w.heap.size) :
  (Yg e ty xs (.slice (some ⟨w.heap.size,0,none⟩) m m)).ok (w.alloc (.cells inner.toArray e)) (fun b=>F' b∨b=w.heap.size):=by
 have hlen:=he.length (m:=ty.n) (fun x c h=>ty.ok_len h)
 have hown:=World.ownsRow_lit (base:=0) (e:=e) (size:=ty.n) w inner.toArray m (Nat.zero_le _) hm2 (by simp [hlen,hm])
 refine ⟨inner,F',by rw [hm]; simpa using hown,he,fun b hb=>.inl hb,fun b hb=>?_⟩
 simp [Value.ownBlock] at hb
 exact ⟨.inr hb.symm,fun e=>by have:=hF b e; omega⟩
theorem Zh7 {m s:Nat} (h:Nat.ble (m*s) 16777216=true) (hs:0<s):m≤maxLen:=by
 have:=Nat.le_of_ble_eq_true h
 have:m≤m*s:=Nat.le_mul_of_pos_right _ hs
 simp only [maxLen]; omega
theorem Zma (hT:Yk P tt) {T e m:Nat} {z1 z2:Nat} {z:Value} {ie:TI} {ps:Array (Nat×Operand)} {vs:List Value} (ty:Ty) (hsc:ty.scal=true) (xs:List ty.D) (ho:o.op=.buildSlice T m ps) (hS:St w0 F0 Hs Rs w)
  (ht:find tt T=some ⟨.slice e,z1,z2,z⟩) (hi:find tt e=some ie) (hpos:0<ie.size) (hv:Yv env (ps.toList.map (·.2))=some vs) (hm:vs.length=m) (hx:xs.length=m) (hm2:Nat.ble (m*ie.size) 16777216=true)
  (hix:ps.toList.map (·.1)=List.range' 0 vs.length) (hsz:vs.all (fun v=>Nat.beq v.cells.toList.length ie.size)=true) (hin:vs.flatMap (fun v=>v.cells.toList)=xs.flatMap ty.enc) :
  OpT P o env w (fun v w'=>∃ b,v=.slice (some ⟨b,0,none⟩) xs.length m∧St w0 F0 (Yg e ty xs (.slice (some ⟨b,0,none⟩) xs.length m) :: Hs) Rs w'):=
 OpT.value fun n a hf=>⟨_,_,Zat hT ho ht hi hm hm2 hv hix hsz hf,w.heap.size,by rw [hx],by
  rw [hin,hx]
  refine hS.add (Chg.alloc w _ _) (Zk2 (F':=fun _=>False) w (Elems.scal hsc _ _ xs) hx (Zh7 hm2 hpos) (fun b hb=>hb.elim)) (fun b hb=>?_)
  rcases hb with hb | hb
  ·exact hb.elim
  ·simp [hb]⟩
theorem Gi {f:Nat} {xs:Array Operand} {ts:Array TypeId} {fx:Operand} {vs:List Value} {pre rd rest:List Ch} {Post:Value→List Ch→Prop} (ks:List Nat) (hsp:Spec P f vs pre rd Post)
  (ho:o.op=.call { callee:=.value fx,args:=xs,argTypes:=ts }) (hfx:Zq env fx=some (.func (.func f) #[] #[])) (hv:Yv env xs.toList=some vs) (hS:St w0 F0 Hs Rs w) (hp:pick ks Hs=some (pre,rest))
  (hr:∀ c∈rd,Gives (rest ++ Rs) c):OpT P o env w (fun v w'=>∃ post,Post v post∧St w0 F0 (post ++ rest) Rs w'):=by
 intro n a next Q hf hk
 obtain ⟨F,hF,hlt,hg,hs⟩:=hS.step hp
 have hm:xs.map a.eval=vs.toArray:=Wb hf hv
 have hcall:=hsp.2 w F hF hlt (fun c hc=>hg c (hr c hc))
 have hrun:(execOp a.eval o).run P w=.ok (.enter f vs.toArray) w:=by
  have:=Ud hsp.1 vs.toArray w
  simp [execOp,ho,resolve,hf.eval hfx,Deferred.ofValue,invoke,hm,this]
 unfold Oper.wp
 rw [hrun]
 refine hcall.mono ?_
 rintro e w' ⟨v,post,F',rfl,hP,hchg,hpost,hF'⟩
 exact hk v w' ⟨post,hP,hs w' post F' hchg hpost hF'⟩
theorem Zj8 {f:Nat} {xs:Array Operand} {ts:Array TypeId} {fx:Operand} {vs:List Value} {pre rd rest:List Ch} {Post:Value→List Ch→List Ch→Prop} (ks:List Nat) (hsp:SpecA P f vs pre rd Post)
  (ho:o.op=.call { callee:=.value fx,args:=xs,argTypes:=ts }) (hfx:Zq env fx=some (.func (.func f) #[] #[])) (hv:Yv env xs.toList=some vs) (hS:St w0 F0 Hs Rs w) (hp:pick ks Hs=some (pre,rest))
  (hr:∀ c∈rd,Gives Rs c):OpT P o env w (fun v w'=>∃ post rp,Post v post rp∧St w0 F0 (post ++ rest) (rp ++ Rs) w'):=by
 intro n a next Q hf hk
 obtain ⟨F,RR,hF,hlt,hRR,hg,hs⟩:=hS.stepA hp
 have hm:xs.map a.eval=vs.toArray:=Wb hf hv
 have hcall:=hsp.2 w F RR hF hlt hRR (fun c hc=>hg c (hr c hc))
 have hrun:(execOp a.eval o).run P w=.ok (.enter f vs.toArray) w:=by
  have:=Ud hsp.1 vs.toArray w
  simp [execOp,ho,resolve,hf.eval hfx,Deferred.ofValue,invoke,hm,this]
 unfold Oper.wp
 rw [hrun]
 refine hcall.mono ?_
 rintro e w' ⟨v,post,rp,F',rfl,hP,hchg,hpost,hF',hrp⟩
 exact hk v w' ⟨post,rp,hP,hs w' post rp F' hchg hpost hF' hrp⟩
end
end Go.SK
namespace Go.SK
open Go Go.RowKit
@[reducible] def w64 (x:Int):Int:=IntKind.i64.wrap x
theorem Zk {α:Type} {p:Prop} [Decidable p] {x:Option α} {r:α} (h:(if p then x else none)=some r):p∧x=some r:=by
 by_cases c:p
 ·rw [if_pos c] at h; exact ⟨c,h⟩
 ·rw [if_neg c] at h; cases h
theorem Yj {α β:Type} {o:Option α} {f:α→Option β} {r:β} (h:(o.bind f)=some r):∃ x,o=some x∧f x=some r:=by
 cases o with
 | none=>cases h
 | some x=>exact ⟨x,rfl,h⟩
theorem Zp {l:List Ch}:∀ c∈([]:List Ch),Gives l c:=fun _ h=>by cases h
theorem Y5 {l cs:List Ch} {c:Ch} (h:Gives l c) (hs:∀ c∈cs,Gives l c):∀ d∈c :: cs,Gives l d:=fun d hd=>by
 rcases List.mem_cons.1 hd with rfl | hd
 ·exact h
 ·exact hs d hd
theorem J.condT {P:Program} {n:Nat} {PQ:Xd} {env:Env} {w:World} {c:Operand} {x y:Code} (hc:Zq env c=some (.bool true)) (h:J P n x PQ env w):J P n (.cond c x y) PQ env w:=J.cond hc (fun _=>h) (fun e=>by cases e)
theorem J.condF {P:Program} {n:Nat} {PQ:Xd} {env:Env} {w:World} {c:Operand} {x y:Code} (hc:Zq env c=some (.bool false)) (h:J P n y PQ env w):J P n (.cond c x y) PQ env w:=J.cond hc (fun e=>by cases e) (fun _=>h)
theorem St.addNil {w0 w:World} {F0:Ft} {Hs Rs:List Ch} (h:St w0 F0 Hs Rs w) (E:Nat) (ty:Ty):St w0 F0 (Yg E ty [] (.slice none 0 0) :: Hs) Rs w:=
 h.add (F':=fun _=>False) (Chg.refl _ _) ⟨[],fun _=>False,World.ownsRow_nil w 0 E ty.n,rfl,fun _ hb=>hb.elim,fun b hb=>by simp [Value.ownBlock] at hb⟩ (fun _ hb=>hb.elim)
def sel:List Nat→List Ch→Option (List Ch)
 | [],_=>some []
 | k :: ks,Hs=>match nth Hs k,sel ks Hs with | some c,some cs=>some (c :: cs) | _,_=>none
theorem Zgd:∀ {ks:List Nat} {Hs cs:List Ch},sel ks Hs=some cs→∀ c∈cs,c∈Hs
 | [],Hs,cs,h,c,hc=>by simp only [sel,Option.some.injEq] at h; subst h; cases hc
 | k :: ks,Hs,cs,h,c,hc=>by
  simp only [sel] at h
  split at h
  ·rename_i d ds h1 h2
   simp only [Option.some.injEq] at h
   subst h
   rcases List.mem_cons.1 hc with rfl | hc
   ·rw [Yu] at h1; exact List.mem_of_getElem? h1
   ·exact Zgd h2 c hc
  ·cases h
theorem St.rds {w0 w:World} {F0:Ft} {Hs Rs:List Ch} (h:St w0 F0 Hs Rs w) (ks:List Nat) {cs:List Ch} (hc:sel ks Rs=some cs):St w0 F0 Hs cs w:=h.reads cs (Zgd hc)
def RV (P:Program) (w:World) (env:Env) (r:ResultVar) (v:Value):Prop:=∀ n a,Fr n env a→((match r with | .tmp t=>pure (a.tmps.getD t undef) | .cell q t=>do loadVar t (← asAddr (a.tmps.getD q undef))):Sem Value).run P w=.ok v w
theorem RV.tmp {P:Program} {w:World} {env:Env} {t:Nat} {v:Value} (h:X2 env t=some v):RV P w env (.tmp t) v:=fun n a hf=>by
 have:=hf.get _ _ h
 simp [this]
theorem RV.cell {P:Program} {tt:TT} (hT:Yk P tt) {w0 w:World} {F0:Ft} {Hs Rs:List Ch} {env:Env} {q t b tb:Nat} {i:TI} {cs:List Value} {v:Value} (k:Nat) (hS:St w0 F0 Hs Rs w) (hk:nth Hs k=some (Yr b tb cs))
  (hi:find tt t=some i) (ha:X2 env q=some (.pointer (some ⟨b,0,none⟩))) (hp:Wu i ((cs.drop 0).take i.size)=some v):RV P w env (.cell q t) v:=fun n a hf=>by
 have h1 := Zb6 (P := P) (tt := tt) (env := env) (S := fun w' => w' = w) (o := { dst := none, op := .load t (.tmp q), type := 0, pos := "", after := #[], guard := none }) hT k (fun w' e => e ▸ hS.wh) hk rfl hi (by simpa [Zq] using ha) hp n a w hf rfl
 have h2:=hf.get _ _ ha
 have h3:a.eval (.tmp q)=.pointer (some ⟨b,0,none⟩):=hf.eval (x:=.tmp q) ha
 simp only [execOp,Instr.loadAt,h3,Instr.sureAddr,Sem.run_bind,Sem.run_pure,Result.andThen_ok] at h1
 have h4:a.tmps.getD q undef=.pointer (some ⟨b,0,none⟩):=by simp [h2]
 simp only [h4,asAddr,Sem.run_bind,Sem.run_pure,Result.andThen_ok]
 cases hl:(loadVar t ⟨b,0,none⟩).run P w with
 | ok u w'=>rw [hl] at h1; simp at h1; obtain ⟨rfl,rfl⟩:=h1; rfl
 | halt x w'=>rw [hl] at h1; cases h1
theorem J7 {P:Program} {fn:Func} {env:Env} {w:World} {rs:List ResultVar} {vs:List Value} (h:fn.results.toList=rs) (hv:∀ p∈rs.zip vs,RV P w env p.1 p.2) (hl:Nat.beq rs.length vs.length=true):∀ n a,Fr n env a→(results fn a.tmps).run P w=.ok (Ul vs) w:=by
 intro n a hf
 have key:∀(rs:List ResultVar) (vs:List Value),(∀ p∈rs.zip vs,RV P w env p.1 p.2)→rs.length=vs.length→
   (rs.mapM (fun x=>match x with | .tmp t=>pure (a.tmps.getD t undef) | .cell q t=>do loadVar t (← asAddr (a.tmps.getD q undef))):Sem (List Value)).run P w=.ok vs w:=by
  intro rs
  induction rs with
  | nil=>intro vs _ hl; have:vs=[]:=List.eq_nil_of_length_eq_zero hl.symm; subst this; simp
  | cons r rs ih=>
   intro vs hv hl
   cases vs with
   | nil=>cases hl
   | cons v vs=>
    have h1:=hv (r,v) (by simp) n a hf
    have:=ih vs (fun p hp=>hv p (by simp [hp])) (by simpa using hl)
    simp only [List.mapM_cons,Sem.run_bind]
    rw [h1]
    simp only [Result.andThen_ok]
    rw [this]
    rfl
 have hk:=key rs vs hv (Nat.eq_of_beq_eq_true hl)
 have hm:(fn.results.mapM (fun x=>match x with | .tmp t=>pure (a.tmps.getD t undef) | .cell q t=>do loadVar t (← asAddr (a.tmps.getD q undef))):Sem (Array Value)).run P w=.ok vs.toArray w:=by
  have e:fn.results=rs.toArray:=by rw [← h]
  rw [e,List.mapM_toArray]
  simp only [Sem.run_map,hk,Result.andThen_ok]
 unfold results
 rw [Sem.run_bind]
 refine (congrArg (fun r=>Result.andThen r _) hm).trans ?_
 simp only [Result.andThen_ok,Sem.run_pure]
 congr 1
 match vs with
 | []=>rfl
 | [v]=>rfl
 | v :: u :: r=>simp [Ul]
theorem Y1 {P:Program} {w:World} {env:Env}:∀ p∈([]:List ResultVar).zip ([]:List Value),RV P w env p.1 p.2:=fun p hp=>by simp at hp
theorem Z8 {P:Program} {w:World} {env:Env} {r:ResultVar} {rs:List ResultVar} {v:Value} {vs:List Value} (h:RV P w env r v) (hs:∀ p∈rs.zip vs,RV P w env p.1 p.2):∀ p∈(r :: rs).zip (v :: vs),RV P w env p.1 p.2:=fun p hp=>by
 simp only [List.zip_cons_cons,List.mem_cons] at hp
 rcases hp with rfl | hp
 ·exact h
 ·exact hs p hp
end Go.SK
