/- Part of the library of this claim: how code is stepped through. -/
import Derived.Test.YtgdmpkhmedbnpaaGreatDoorXScanNoneKd
import Derived.Deep.RegionHeld3
set_option linter.unusedVariables false
set_option linter.unusedSimpArgs false
namespace Go.SK
open Go

abbrev Xd:=Exit→Env→World→Prop
def Znr (n:Nat) (PQ:Xd) (Q:Exit→Act→World→Prop):Prop:=∀ e env a w,Fr n env a→PQ e env w→Q e a w
structure J (P:Program) (n:Nat) (c:Code) (PQ:Xd) (env:Env) (w:World):Prop where
 go:∀ a Q,Fr n env a→Znr n PQ Q→c.wp P Q a w

def Gy (next:Env→World→Prop) (PQ:Xd):Xd
 | .normal,env,w=>next env w
 | e,env,w=>PQ e env w
def Zit (id:Nat) (PQ:Xd):Xd
 | .exit id',env,w=>cond (Nat.beq id' id) (PQ .normal env w) (PQ (.exit id') env w)
 | e,env,w=>PQ e env w

section
variable {P:Program} {n:Nat} {PQ:Xd} {env:Env} {w:World}
theorem J.mono {c:Code} {PQ':Xd} (h:J P n c PQ' env w) (hq:∀ e env w,PQ' e env w→PQ e env w):J P n c PQ env w:=
 ⟨fun a Q hf hQ=>h.go a Q hf fun e env a w hf h=>hQ e env a w hf (hq _ _ _ h)⟩
theorem J.keep (ts:List Nat) {c:Code} (h:J P n c PQ (keep ts env) w):J P n c PQ env w:=⟨fun a Q hf hQ=>h.go a Q (hf.keep ts) hQ⟩
theorem J.seq {c d:Code} (h:J P n c (Gy (fun env w=>J P n d PQ env w) PQ) env w):J P n (.seq c d) PQ env w:=⟨fun a Q hf hQ=>
 wp_seq (h.go a _ hf fun e env' a' w' hf' hp=>by cases e <;> first | exact hp.go a' Q hf' hQ | exact hQ _ _ _ _ hf' hp)⟩
theorem J.cond {c:Operand} {x y:Code} {b:Bool} (hc:Zq env c=some (.bool b)) (ht:b=true→J P n x PQ env w) (hn:b=false→J P n y PQ env w):J P n (.cond c x y) PQ env w:=
 ⟨fun a Q hf hQ=>wp_cond_split (hf.eval hc) (fun e=>(ht e).go a Q hf hQ) (fun e=>(hn e).go a Q hf hQ)⟩
theorem J.block {id:Nat} {c:Code} (h:J P n c (Zit id PQ) env w):J P n (.block id c) PQ env w:=⟨fun a Q hf hQ=>
 wp_block (h.go a _ hf fun e env' a' w' hf' hp=>by
  cases e with
  | exit id'=>
   simp only [Zit] at hp
   by_cases hid:id'=id
   ·subst hid; rw [Nat.beq_refl] at hp; simp only [Exit.inBlock,if_true]; exact hQ _ _ _ _ hf' hp
   ·have:Nat.beq id' id=false:=by
     cases hb:Nat.beq id' id with
     | false=>rfl
     | true=>exact absurd (Nat.eq_of_beq_eq_true hb) hid
    rw [this] at hp; simp only [Exit.inBlock,hid,if_false]; exact hQ _ _ _ _ hf' hp
  | normal=>exact hQ _ _ _ _ hf' hp
  | goto l=>exact hQ _ _ _ _ hf' hp
  | ret=>exact hQ _ _ _ _ hf' hp
  | panic c=>exact hQ _ _ _ _ hf' hp
  | outgrown=>exact hQ _ _ _ _ hf' hp)⟩
theorem J.skip (h:PQ .normal env w):J P n .skip PQ env w:=⟨fun a Q hf hQ=>wp_skip (hQ _ _ _ _ hf h)⟩
theorem J.exit {id:Nat} (h:PQ (.exit id) env w):J P n (.exit id) PQ env w:=⟨fun a Q hf hQ=>wp_exit (hQ _ _ _ _ hf h)⟩
theorem J.ret (h:PQ .ret env w):J P n .ret PQ env w:=⟨fun a Q hf hQ=>wp_ret (hQ _ _ _ _ hf h)⟩
theorem J.loop {c:Code} (I:Nat→Env→World→Prop) {k:Nat} (h0:I k env w)
  (round:∀ k env w,I k env w→J P n c (Gy (fun env' w'=>∃ k',k'<k∧I k' env' w') PQ) env w):J P n (.loop c) PQ env w:=by
 refine ⟨fun a Q hf hQ=>?_⟩
 have key:∀ k env w a,I k env w→Fr n env a→∀(b:Frame) (kk:List Item) (cs:List Frame),
   ∃ e a' w',Q e a' w'∧Arrives P (lone (b.at a (.code c :: .inLoop c :: kk)) cs w) b kk cs e a' w':=by
  intro k
  induction k using Nat.strongRecOn with
  | _ k ih=>
   intro env w a hI hf b kk cs
   obtain ⟨e,a₁,w₁,hq,harr⟩:=(round k env w hI).go a (Exit.then (fun a' w'=>∃ k' env',k'<k∧I k' env' w'∧Fr n env' a') Q) hf (fun e env' a' w' hf' hp=>by
    cases e <;> first
     | (obtain ⟨k',hk,hi⟩:=hp; exact ⟨k',env',hk,hi,hf'⟩)
     | exact hQ _ _ _ _ hf' hp) b (.inLoop c :: kk) cs
   cases e with
   | normal=>
    obtain ⟨k',env',hk,hi,hf'⟩:=hq
    obtain ⟨e₂,a₂,w₂,hq₂,harr₂⟩:=ih k' hk env' w₁ a₁ hi hf' b kk cs
    exact ⟨e₂,a₂,w₂,hq₂,.of_steps (Steps.trans harr (.one step_inLoop)) harr₂⟩
   | exit id=>exact ⟨_,a₁,w₁,hq,.pass (x:=.inLoop c) rfl (fun _ _=>.inl (by simp)) harr⟩
   | goto l=>exact ⟨_,a₁,w₁,hq,.pass (x:=.inLoop c) rfl (fun _ _=>.inl (by simp)) harr⟩
   | ret=>exact ⟨_,a₁,w₁,hq,.pass (x:=.inLoop c) rfl (fun _ _=>.inl (by simp)) harr⟩
   | panic ch=>exact ⟨_,a₁,w₁,hq,.pass (x:=.inLoop c) rfl (fun _ _=>.inl (by simp)) harr⟩
   | outgrown=>exact ⟨_,a₁,w₁,hq,.pass (x:=.inLoop c) rfl (fun _ _=>.inl (by simp)) harr⟩
 intro b kk cs
 obtain ⟨e,a',w',hq,harr⟩:=key k env w a h0 hf b kk cs
 exact ⟨e,a',w',hq,.of_steps (.one step_loop) harr⟩
end

def Yq (ops:List Oper) (env:Env) (o:Oper):Option Bool:=
 match o.guard with
 | none=>some true
 | some (j,want)=>match nth ops j with
  | some g=>match g.dst with
   | some t=>match X2 env t with
    | some (.bool b)=>some (cond want b (!b))
    | some (.tuple _)=>some false
    | _=>none
   | none=>none
  | none=>none
theorem W1 {ops:Array Oper} {n:Nat} {env:Env} {a:Act} (hf:Fr n env a) {o:Oper} {b:Bool} (h:Yq ops.toList env o=some b):Region.wanted o (yielded ops a.tmps)=b:=by
 unfold Yq at h
 unfold Region.wanted
 split at h
 ·rename_i hg; rw [hg]; simpa using h
 ·rename_i j want hg
  rw [hg]
  split at h
  ·rename_i g hn
   split at h
   ·rename_i t ht
    split at h
    ·rename_i c hl
     have hget:=hf.get _ _ hl
     rw [Yu] at hn
     have hn':ops[j]?=some g:=by simpa using hn
     have hy:yielded ops a.tmps j=some c:=by simp [yielded,hn',ht,hget]
     simp only [Option.some.injEq] at h
     subst h
     simp only [hy]
     cases want <;> cases c <;> rfl
    ·rename_i c hl
     have hget:=hf.get _ _ hl
     rw [Yu] at hn
     have hn':ops[j]?=some g:=by simpa using hn
     have hy:yielded ops a.tmps j=none:=by simp [yielded,hn',ht,hget]
     simp only [Option.some.injEq] at h
     subst h
     simp only [hy]
     cases want <;> rfl
    ·cases h
   ·cases h
  ·cases h

def QOp (P:Program) (o:Oper) (env:Env) (S:World→Prop) (v:Value):Prop:=∀ n a w,Fr n env a→S w→(execOp a.eval o).run P w=.ok (.value v) w
def OpT (P:Program) (o:Oper) (env:Env) (w:World) (K:Value→World→Prop):Prop:=
 ∀ n a next Q,Fr n env a→(∀ v w',K v w'→next (a.put o.dst v) w')→o.wp P a w next Q

theorem QOp.of_pv {P:Program} {tt:TT} (hT:Yk P tt) {o:Oper} {env:Env} {v:Value} (h:pv tt env o=some v) (S:World→Prop):QOp P o env S v:=fun n a w hf _=>Zju hT hf h w

structure RJ (P:Program) (n:Nat) (ops:List Oper) (l:List Oper) (K:Env→World→Prop) (env:Env) (w:World):Prop where
 go:∀ a Q,Fr n env a→(∀ env a w,Fr n env a→K env w→Q .normal a w)→wpList P ops.toArray Q l a w

section
variable {P:Program} {n:Nat} {env:Env} {w:World} {ops:List Oper} {K:Env→World→Prop} {o:Oper} {l:List Oper}
theorem J.region {id:Nat} {PQ:Xd} (h:RJ P n ops ops (PQ .normal) env w):J P n (.region id ops.toArray false) PQ env w:=⟨fun a Q hf hQ=>
 wp_region_list (by simpa using h.go a Q hf fun env a w hf h=>hQ _ _ _ _ hf h)⟩
theorem RJ.done (h:K env w):RJ P n ops [] K env w:=⟨fun a Q hf hQ=>hQ _ _ _ hf h⟩
theorem RJ.keep (ts:List Nat) (h:RJ P n ops l K (keep ts env) w):RJ P n ops l K env w:=⟨fun a Q hf hQ=>h.go a Q (hf.keep ts) hQ⟩
theorem RJ.op {K':Value→World→Prop} (hw:Yq ops env o=some true) (hd:Xw n o.dst=true) (ho:OpT P o env w K') (h:∀ v w',K' v w'→RJ P n ops l K (Xu o.dst v env) w'):RJ P n ops (o :: l) K env w:=⟨fun a Q hf hQ=>by
 unfold wpList
 rw [if_pos (W1 (ops:=ops.toArray) hf (by simpa using hw))]
 exact .inl (ho n a _ Q hf fun v w' hk=>(h v w' hk).go _ Q (hf.putD v hd) hQ)⟩
theorem RJ.q {v:Value} (hw:Yq ops env o=some true) (hd:Xw n o.dst=true) (ho:QOp P o env (·=w) v) (h:RJ P n ops l K (Xu o.dst v env) w):RJ P n ops (o :: l) K env w:=
 RJ.op (K':=fun v' w'=>v'=v∧w'=w) hw hd (fun n a next Q hf hk=>by unfold Oper.wp; rw [ho n a w hf rfl]; exact hk v w ⟨rfl,rfl⟩) (by rintro _ _ ⟨rfl,rfl⟩; exact h)
theorem RJ.off (hw:Yq ops env o=some false) (hd:Xw n o.dst=true) (h:RJ P n ops l K (Xu o.dst undef env) w):RJ P n ops (o :: l) K env w:=⟨fun a Q hf hQ=>by
 unfold wpList
 rw [if_neg (by rw [W1 (ops:=ops.toArray) hf (by simpa using hw)]; simp)]
 exact h.go _ Q (hf.putD _ hd) hQ⟩
theorem RJ.know {t:Nat} {u v:Value} (hl:X2 env t=some u) (hv:u=v) (h:RJ P n ops l K ((t,v) :: env) w):RJ P n ops l K env w:=⟨fun a Q hf hQ=>
 h.go a Q ⟨hf.size,hf.defers,fun s x hx=>by
  simp only [X2] at hx
  cases hb:Nat.beq t s with
  | true=>rw [hb] at hx; have:=Nat.eq_of_beq_eq_true hb; subst this; simp only [cond_true,Option.some.injEq] at hx; subst hx; subst hv; exact hf.get _ _ hl
  | false=>rw [hb] at hx; exact hf.get _ _ hx⟩ hQ⟩
def B3 (tt:TT) (n:Nat) (ops:List Oper):Nat→List Oper→Env→Option (List Oper×Env)
 | 0,l,env=>some (l,env)
 | _+1,[],env=>none
 | k+1,o :: l,env=>match Yq ops env o with
  | some true=>match pv tt env o with
   | some v=>match o.dst with
    | some t=>cond (Nat.ble (t+1) n) (B3 tt n ops k l ((t,v) :: env)) none
    | none=>B3 tt n ops k l env
   | none=>none
  | some false=>match o.dst with
   | some t=>cond (Nat.ble (t+1) n) (B3 tt n ops k l ((t,undef) :: env)) none
   | none=>B3 tt n ops k l env
  | none=>none
theorem RJ.run {tt:TT} (hT:Yk P tt):∀(k:Nat) {l l':List Oper} {env env':Env},B3 tt n ops k l env=some (l',env')→RJ P n ops l' K env' w→RJ P n ops l K env w
 | 0,l,l',env,env',h,hr=>by simp only [B3,Option.some.injEq,Prod.mk.injEq] at h; obtain ⟨rfl,rfl⟩:=h; exact hr
 | k+1,[],l',env,env',h,hr=>by cases h
 | k+1,o :: l,l',env,env',h,hr=>by
  simp only [B3] at h
  split at h
  ·rename_i hw
   split at h
   ·rename_i v hv
    split at h
    ·rename_i t hd
     cases hb:Nat.ble (t+1) n with
     | false=>rw [hb] at h; cases h
     | true=>
      rw [hb] at h
      refine RJ.q hw (by rw [hd]; exact hb) (QOp.of_pv hT hv _) ?_
      rw [hd]
      exact RJ.run hT k h hr
    ·rename_i hd
     refine RJ.q hw (by rw [hd]; rfl) (QOp.of_pv hT hv _) ?_
     rw [hd]
     exact RJ.run hT k h hr
   ·cases h
  ·rename_i hw
   split at h
   ·rename_i t hd
    cases hb:Nat.ble (t+1) n with
    | false=>rw [hb] at h; cases h
    | true=>
     rw [hb] at h
     refine RJ.off hw (by rw [hd]; exact hb) ?_
     rw [hd]
     exact RJ.run hT k h hr
   ·rename_i hd
    refine RJ.off hw (by rw [hd]; rfl) ?_
    rw [hd]
    exact RJ.run hT k h hr
  ·cases h
theorem RJ.fin (E:Env) (h:SK.keep (E.map (·.1)) env=E) (hk:K E w):RJ P n ops [] K env w:=⟨fun a Q hf hQ=>hQ E a w (by rw [← h]; exact hf.keep _) hk⟩
theorem Zd5 {P:Program} {opsA:Array Oper} {Q:Exit→Act→World→Prop}:∀(l1 l2:List Oper) (a:Act) (w:World),wpList P opsA (fun e a w=>match e with | .normal=>wpList P opsA Q l2 a w | e=>Q e a w) l1 a w→wpList P opsA Q (l1 ++ l2) a w:=by
 intro l1
 induction l1 with
 | nil=>intro l2 a w h; exact h
 | cons o l1 ih=>
  intro l2 a w h
  simp only [List.cons_append]
  unfold wpList at h ⊢
  split at h
  ·rename_i hw
   rw [if_pos hw]
   rcases h with h | ⟨h,a0,w0,hq⟩
   ·refine .inl ?_
    have h1:=Oper.wp_mono (fun a w h=>ih l2 a w h) h
    unfold Oper.wp at *
    generalize (execOp a.eval o).run P w=r at *
    cases r with
    | ok nx w'=>
     cases nx <;> simp only [Oper.upon] at h1 ⊢ <;> first
      | exact h1
      | exact Calls.mono h1 (fun e w'' he=>by cases e <;> first | exact he | (obtain ⟨a0,w0,hq⟩:=he; exact ⟨a0,w0,hq⟩))
    | halt x w'=>cases x <;> simp only [Oper.upon] at h1 ⊢ <;> exact h1
   ·exact .inr ⟨h,a0,w0,hq⟩
  ·rename_i hw
   rw [if_neg hw]
   exact ih l2 _ w h
theorem RJ.join {l l1 l2:List Oper} (k:Nat) (E:Env) (h1:l.take k=l1) (h2:l.drop k=l2) (ha:RJ P n ops l1 (fun env' w'=>env'=E∧w'=w) env w) (hb:RJ P n ops l2 K E w):RJ P n ops l K env w:=⟨fun a Q hf hQ=>by
 rw [← List.take_append_drop k l,h1,h2]
 refine Zd5 l1 l2 a w (ha.go a _ hf ?_)
 rintro env' a' w' hf' ⟨rfl,rfl⟩
 exact hb.go a' Q hf' hQ⟩
end

def Vf (n:Nat) (done:List Nat):Array Bool:=((List.range n).map fun i=>done.contains i).toArray
theorem Zi2 (n:Nat):Vf n []=Array.replicate n false:=by
 apply Array.ext'
 simp [Vf,List.map_const']
theorem B4 {n i:Nat} {done:List Nat} (h:i<n):(Vf n done).setIfInBounds i true=Vf n (i :: done):=by
 apply Array.ext'
 apply List.ext_getElem?
 intro j
 simp only [Vf,Array.toList_setIfInBounds,List.getElem?_set,List.getElem?_map,List.length_map,List.length_range]
 by_cases hij:i=j
 ·subst hij
  simp [h]
 ·rw [if_neg hij]
  cases hj:(List.range n)[j]? with
  | none=>rfl
  | some k=>
   have:k=j:=by
    have hlt:j<n:=by
     have:=(List.getElem?_eq_some_iff.1 hj).1
     simpa using this
    simp [List.getElem?_range,hlt] at hj
    exact hj.symm
   subst this
   simp only [Option.map_some,List.contains_cons]
   have:(k == i)=false:=by simp; exact fun e=>hij e.symm
   rw [this]; rfl
theorem Uu {n j:Nat} {done:List Nat} (h:j<n) (d:Bool):(Vf n done).getD j d=done.contains j:=by
 simp [Vf,Array.getD,h]
def Xc:Nat→List Nat→Bool
 | _,[]=>false
 | i,j :: l=>cond (Nat.beq i j) true (Xc i l)
theorem Uf (i:Nat) (l:List Nat):Xc i l=l.contains i:=by
 induction l with
 | nil=>rfl
 | cons j l ih=>
  simp only [Xc,List.contains_cons,ih]
  by_cases h:i=j
  ·subst h; simp
  ·have h1:Nat.beq i j=false:=by
    cases hb:Nat.beq i j with
    | false=>rfl
    | true=>exact absurd (Nat.eq_of_beq_eq_true hb) h
   simp [h1,h]
def Wr:Operand→List Nat | .tmp t=>[t] | _=>[]
def Gb:Option Operand→List Nat | some x=>Wr x | none=>[]
def W7:List Operand→List Nat | []=>[] | x :: r=>Wr x ++ W7 r
def Zau (c:Call):List Nat:=(match c.callee with | .value f=>Wr f | .invoke r _=>Wr r | .builtin _=>[]) ++ W7 c.args.toList
def Uc:Op→List Nat
 | .alloc _ | .ready _ | .waits _=>[]
 | .move x | .assign x | .box _ x | .load _ x | .nilCheck x | .unOp _ _ x | .convert _ _ x | .sliceToArrayPointer _ x | .makeInterface _ x
 | .makeChan _ x | .fieldAddr _ x _ | .field _ x _ | .range _ x | .next x _ | .entry x | .typeAssert x _ _ _ | .extract x _ | .panic x | .recv _ x _=>Wr x
 | .pick c a b=>Wr c ++ (Wr a ++ Wr b)
 | .build _ ps | .buildSlice _ _ ps=>W7 (ps.toList.map (·.2))
 | .store _ a v | .binOp _ _ a v _ | .makeSlice _ a v | .indexAddr _ a v | .index _ a v | .lookup _ a v _ | .mapEntry _ a v | .send a v=>Wr a ++ Wr v
 | .makeFunc _ first captured=>W7 first.toList ++ W7 captured.toList
 | .makeMap _ r=>Gb r
 | .slice _ x l h m=>Wr x ++ (Gb l ++ (Gb h ++ Gb m))
 | .mapUpdate _ m k v | .entryStore _ m k v | .insert _ m k v=>Wr m ++ (Wr k ++ Wr v)
 | .call c | .go c | .defer c=>Zau c
 | .select _ _=>[]
def Zai:Op→Bool | .select _ _=>true | _=>false
def Zbp:Operand→Option Nat:=fun | .tmp t=>some t | _=>none
theorem Zg5 (x:Operand) (l:List Operand):(x :: l).filterMap Zbp=Wr x ++ l.filterMap Zbp:=by
 cases x <;> simp [List.filterMap_cons,Zbp,Wr]
theorem Xj:∀ l:List Operand,l.filterMap Zbp=W7 l
 | []=>rfl
 | x :: l=>by rw [Zg5,Xj l]; rfl
theorem Zij (op:Op) (h:Zai op=false):op.operands.toList.filterMap Zbp=Uc op:=by
 cases op
 case select cs b=>cases h
 case build t ps=>show (ps.toList.map (·.2)).toArray.toList.filterMap Zbp=_; rw [List.toList_toArray,Xj]; rfl
 case buildSlice t n ps=>show (ps.toList.map (·.2)).toArray.toList.filterMap Zbp=_; rw [List.toList_toArray,Xj]; rfl
 case makeFunc fn a b=>simp only [Op.operands,Uc]; rw [Array.toList_append,List.filterMap_append,Xj,Xj]
 case makeMap t r=>cases r <;> simp [Op.operands,Uc,Gb,Wr,Xj,W7]
 case slice t x lo hi mx=>cases lo <;> cases hi <;> cases mx <;> simp [Op.operands,Uc,Gb,Xj,W7]
 case call c=>obtain ⟨cal,xs,ts⟩:=c; cases cal <;> (simp only [Op.operands,Call.operands,Uc,Zau]; rw [Array.toList_append,List.filterMap_append,Xj,Xj]; simp [W7])
 case go c=>obtain ⟨cal,xs,ts⟩:=c; cases cal <;> (simp only [Op.operands,Call.operands,Uc,Zau]; rw [Array.toList_append,List.filterMap_append,Xj,Xj]; simp [W7])
 case defer c=>obtain ⟨cal,xs,ts⟩:=c; cases cal <;> (simp only [Op.operands,Call.operands,Uc,Zau]; rw [Array.toList_append,List.filterMap_append,Xj,Xj]; simp [W7])
 all_goals (simp only [Op.operands,Uc]; rw [Xj]; simp [W7])
def Zez (ops:List Oper) (o:Oper):List Nat:=match o.guard with
 | some (g,_)=>(match nth ops g with | some og=>(match og.dst with | some t=>[t] | none=>[]) | none=>[])
 | none=>[]
def Zb5 (ops:List Oper) (o:Oper):List Nat:=Uc o.op ++ Zez ops o
theorem Zdf (ops:List Oper) (o:Oper) (h:Zai o.op=false):o.looksAt ops.toArray=Zb5 ops o:=by
 unfold Oper.looksAt Zb5
 have:=Zij o.op h
 refine congr (congrArg _ this) ?_
 unfold Zez
 cases hg:o.guard with
 | none=>rfl
 | some g=>
  obtain ⟨g,u⟩:=g
  simp only [Yu]
  cases hn:ops[g]? with
  | none=>simp [hn]
  | some og=>cases hd:og.dst <;> simp [hn,hd]
def Zns:List Nat→List Nat→Bool
 | [],_=>true
 | x :: l,m=>cond (Xc x m) false (Zns l m)
def Zik:Option Nat→Nat→Bool | some a,b=>Nat.beq a b | none,_=>false
def Zev (ops:List Oper) (x y:Oper):Bool:=
 !Zai x.op && !Zai y.op && (match x.dst with | some d=>!Xc d (Zb5 ops y) && !Zik y.dst d | none=>true) && (match y.dst with | some d=>!Xc d (Zb5 ops x) | none=>true)
theorem Zim {ops:List Oper} {x y:Oper} (h:Zev ops x y=true):x.apart ops.toArray y=true:=by
 simp only [Zev,Bool.and_eq_true,Bool.not_eq_true'] at h
 obtain ⟨⟨⟨h1,h2⟩,h3⟩,h4⟩:=h
 unfold Oper.apart
 rw [Zdf _ _ h1,Zdf _ _ h2]
 cases hx:x.dst <;> cases hy:y.dst <;> simp_all [Uf,Zik]
 intro e; subst e; simp at h3

def Uz (done:List Nat) (o:Oper):Bool:=o.after.toList.all fun e=>!Region.binds .any e || Xc e.on done
def Gt (ops:List Oper) (done:List Nat) (i:Nat) (oi:Oper):Nat→List Oper→Bool
 | _,[]=>true
 | j,oj :: r=>(Nat.beq j i || Xc j done || oj.after.toList.any (fun e=>Region.binds .any e && Nat.beq e.on i) || Zev ops oi oj) && Gt ops done i oi (j+1) r
def Jp (ops:List Oper) (done:List Nat) (i:Nat) (oi:Oper):Bool:=!Xc i done && Uz done oi && Gt ops done i oi 0 ops
def Gu (done:List Nat) (i:Nat):Nat→List Oper→Bool
 | _,[]=>true
 | j,oj :: r=>(Nat.beq j i || Xc j done || !Uz done oj) && Gu done i (j+1) r
def U3 (ops:List Oper) (done:List Nat) (i:Nat) (oi:Oper):Bool:=!Xc i done && Uz done oi && Gu done i 0 ops
def Jj (done:List Nat):Nat→List Oper→Bool
 | _,[]=>true
 | j,oj :: r=>(Xc j done || !Uz done oj) && Jj done (j+1) r
def Zah (ops:List Oper):Bool:=ops.all fun o=>o.after.toList.all fun e=>Nat.ble (e.on+1) ops.length

section
variable {ops:List Oper} {done:List Nat}
theorem Ja (he:Zah ops=true) {i:Nat}:i∈Region.ready .any ops.toArray (Vf ops.length done)↔∃ o,ops[i]?=some o∧Xc i done=false∧Uz done o=true:=by
 rw [mem_ready]
 have key:∀ o,ops[i]?=some o→((∀ e∈o.after,Region.binds .any e=true→(Vf ops.length done).getD e.on false=true)↔Uz done o=true):=by
  intro o ho
  have hm:=List.mem_of_getElem? ho
  have hall:=List.all_eq_true.1 (List.all_eq_true.1 he o hm)
  simp only [Uz,List.all_eq_true,Bool.or_eq_true,Bool.not_eq_true']
  constructor
  ·intro h e hmem
   have hlt:e.on<ops.length:=Nat.le_of_ble_eq_true (hall e hmem)
   cases hb:Region.binds .any e with
   | false=>exact .inl rfl
   | true=>right; rw [Uf,← Uu hlt false]; exact h e (by simpa using hmem) hb
  ·intro h e hmem hb
   have hlt:e.on<ops.length:=Nat.le_of_ble_eq_true (hall e (by simpa using hmem))
   rw [Uu hlt,← Uf]
   exact (h e (by simpa using hmem)).resolve_left (by simp [hb])
 constructor
 ·rintro ⟨h1,o,ho,h2⟩
  have ho':ops[i]?=some o:=by simpa using ho
  have hlt:i<ops.length:=(List.getElem?_eq_some_iff.1 ho').1
  rw [Uu hlt,← Uf] at h1
  exact ⟨o,ho',h1,(key o ho').1 h2⟩
 ·rintro ⟨o,ho,h1,h2⟩
  have hlt:i<ops.length:=(List.getElem?_eq_some_iff.1 ho).1
  exact ⟨by rw [Uu hlt,← Uf]; exact h1,o,by simpa using ho,(key o ho).2 h2⟩
theorem Bg {i:Nat} {oi:Oper}:∀(r:List Oper) (k:Nat),Gt ops done i oi k r=true→∀ j oj,r[j]?=some oj→k+j≠i→Xc (k+j) done=false→(∀ e∈oj.after,Region.binds .any e=true→e.on≠i)→oi.apart ops.toArray oj=true
 | [],_,_,j,oj,hj,_,_,_=>by simp at hj
 | o :: r,k,h,j,oj,hj,hne,hun,hno=>by
  simp only [Gt,Bool.and_eq_true] at h
  cases j with
  | zero=>
   simp only [List.getElem?_cons_zero,Option.some.injEq] at hj
   subst hj
   simp only [Nat.add_zero] at hne hun
   have h1:=h.1
   simp only [Bool.or_eq_true,hun,Bool.false_eq_true,or_false] at h1
   rcases h1 with (h1 | h1) | h1
   ·exact absurd (Nat.eq_of_beq_eq_true h1) hne
   ·obtain ⟨e,hm,hb⟩:=List.any_eq_true.1 h1
    simp only [Bool.and_eq_true] at hb
    exact absurd (Nat.eq_of_beq_eq_true hb.2) (hno e (by simpa using hm) hb.1)
   ·exact Zim h1
  | succ j=>
   refine Bg r (k+1) h.2 j oj (by simpa using hj) ?_ ?_ hno
   ·rw [show k+1+j=k+(j+1) from by omega]; exact hne
   ·rw [show k+1+j=k+(j+1) from by omega]; exact hun
theorem Bd {i:Nat}:∀(r:List Oper) (k:Nat),Gu done i k r=true→∀ j oj,r[j]?=some oj→Xc (k+j) done=false→Uz done oj=true→k+j=i
 | [],_,_,j,oj,hj,_,_=>by simp at hj
 | o :: r,k,h,j,oj,hj,hun,hr=>by
  simp only [Gu,Bool.and_eq_true] at h
  cases j with
  | zero=>
   simp only [List.getElem?_cons_zero,Option.some.injEq] at hj
   subst hj
   have h1:=h.1
   simp only [Nat.add_zero] at hun
   simp only [Bool.or_eq_true,hun,hr,Bool.false_eq_true,or_false,Bool.not_true] at h1
   exact Nat.eq_of_beq_eq_true h1
  | succ j=>
   have:=Bd r (k+1) h.2 j oj (by simpa using hj) (by rw [show k+1+j=k+(j+1) from by omega]; exact hun) hr
   omega
theorem Bi:∀(r:List Oper) (k:Nat),Jj done k r=true→∀ j oj,r[j]?=some oj→Xc (k+j) done=false→Uz done oj=true→False
 | [],_,_,j,oj,hj,_,_=>by simp at hj
 | o :: r,k,h,j,oj,hj,hun,hr=>by
  simp only [Jj,Bool.and_eq_true] at h
  cases j with
  | zero=>
   simp only [List.getElem?_cons_zero,Option.some.injEq] at hj
   subst hj
   have h1:=h.1
   simp only [Nat.add_zero] at hun
   simp [hun,hr] at h1
  | succ j=>exact Bi r (k+1) h.2 j oj (by simpa using hj) (by rw [show k+1+j=k+(j+1) from by omega]; exact hun) hr
end

def Zd9 (n:Nat) (done:List Nat):Nat:=((List.range n).filter fun j=>!Xc j done).length
theorem Zaz {i:Nat} {done:List Nat}:∀(l:List Nat),i∈l→Xc i done=false→(l.filter fun j=>!Xc j (i :: done)).length+1≤(l.filter fun j=>!Xc j done).length
 | [],h,_=>by cases h
 | j :: l,h,hn=>by
  have mono:∀ l:List Nat,(l.filter fun j=>!Xc j (i :: done)).length≤(l.filter fun j=>!Xc j done).length:=by
   intro l
   induction l with
   | nil=>simp
   | cons k l ih=>
    simp only [List.filter_cons]
    by_cases hk:Xc k done=true
    ·have:Xc k (i :: done)=true:=by simp only [Xc]; rw [hk]; cases Nat.beq k i <;> rfl
     simp [hk,this]; exact ih
    ·have hk':Xc k done=false:=by simpa using hk
     rw [hk']
     simp only [Bool.not_false,if_true,List.length_cons]
     split
     ·simp only [List.length_cons]; omega
     ·omega
  simp only [List.filter_cons]
  rcases List.mem_cons.1 h with rfl | h
  ·have h1:Xc i (i :: done)=true:=by simp [Xc]
   rw [h1,hn]
   simp only [Bool.not_true,Bool.false_eq_true,if_false,Bool.not_false,if_true,List.length_cons]
   have:=mono l
   omega
  ·have ih:=Zaz l h hn
   by_cases hk:Xc j done=true
   ·have:Xc j (i :: done)=true:=by simp only [Xc]; rw [hk]; cases Nat.beq j i <;> rfl
    simp [hk,this]; exact ih
   ·have hk':Xc j done=false:=by simpa using hk
    rw [hk']
    simp only [Bool.not_false,if_true,List.length_cons]
    split
    ·simp only [List.length_cons]; omega
    ·omega
theorem J2 {n i:Nat} {done:List Nat} (h:i<n) (hn:Xc i done=false):Zd9 n (i :: done)+1≤Zd9 n done:=Zaz _ (List.mem_range.2 h) hn

structure HJ (P:Program) (n:Nat) (ops:List Oper) (S:World→Prop) (K:Env→World→Prop) (done:List Nat) (env:Env) (w:World):Prop where
 go:∀ fuel,S w→∀ a Q,Fr n env a→(∀ env a w,Fr n env a→K env w→Q .normal a w)→Zd9 ops.length done≤fuel→wpAnyH P .any ops.toArray (NoPanic Q) S fuel (Vf ops.length done) a w
def Zkf (ops:List Oper):Bool:=ops.all fun o=>!Zai o.op
theorem Zg4 {ops:List Oper} (h:Zkf ops=true):Region.noSelect ops.toArray=true:=by
 unfold Region.noSelect
 rw [Array.all_eq_true_iff_forall_mem]
 intro o ho
 have:=List.all_eq_true.1 h o (by simpa using ho)
 cases hop:o.op <;> simp_all [Zai]
def Wa (ops:List Oper):Bool:=Zah ops && Zkf ops
section
variable {P:Program} {n:Nat} {env:Env} {w:World} {ops:List Oper} {K:Env→World→Prop} {S:World→Prop} {o:Oper} {done:List Nat}
theorem J.held {id:Nat} {PQ:Xd} (hm:P.follows .mixedOrders=true) (S:World→Prop) (hS:S { w with drawn:=w.drawn+1 })
  (h:HJ P n ops S (PQ .normal) [] env { w with drawn:=w.drawn+1 }):J P n (.region id ops.toArray true) PQ env w:=⟨fun a Q hf hQ=>
 wp_region_noPanic (wp_region_held hm (by
  have:=h.go ops.length hS a Q hf (fun env a w hf h=>hQ _ _ _ _ hf h) (Nat.le_trans (List.length_filter_le _ _) (by simp))
  rw [Zi2] at this
  simpa using this))⟩
theorem HJ.fin (E:Env) (hr:(Zah ops && Jj done 0 ops)=true) (h:SK.keep (E.map (·.1)) env=E) (hk:K E w):HJ P n ops S K done env w:=⟨fun fuel _ a Q hf hQ _=>
 wpAnyH_done (by
  simp only [Bool.and_eq_true] at hr
  apply List.eq_nil_iff_forall_not_mem.2
  intro j hj
  obtain ⟨oj,h1,h2,h3⟩:=(Ja hr.1).1 hj
  exact Bi ops 0 hr.2 j oj h1 (by simpa using h2) h3) (NoPanic.normal (hQ E a w (by rw [← h]; exact hf.keep _) hk)) fuel⟩
theorem HJ.take {v:Value} {i:Nat} (hs:Wa ops=true) (hi:nth ops i=some o) (ht:Jp ops done i o=true)
  (hy:∀ n a,Fr n env a→YieldsIf P ops.toArray S o v a) {env':Env} (hd:∀ a,Fr n env a→Fr n env' (a.put o.dst v))
  (h:HJ P n ops S K (i :: done) env' w):HJ P n ops S K done env w:=⟨fun fuel hS a Q hf hQ hfu=>by
 simp only [Wa,Bool.and_eq_true] at hs
 simp only [Jp,Bool.and_eq_true,Bool.not_eq_true'] at ht
 rw [Yu] at hi
 have hi':ops.toArray[i]?=some o:=by simpa using hi
 have hlt:i<ops.length:=(List.getElem?_eq_some_iff.1 hi).1
 have hrdy:=(Ja (done:=done) hs.1).2 ⟨o,hi,ht.1.1,ht.1.2⟩
 have hless:=J2 hlt ht.1.1
 cases fuel with
 | zero=>omega
 | succ fuel=>
  refine wpAnyH_first hi' (Region.noSelect_spec (Zg4 hs.2)) (fun c a w h=>h) fuel (Vf ops.length done) a w ?_ hrdy (hy n a hf) hS ?_
  ·intro j oj hj hne hun hno
   have hj':ops[j]?=some oj:=by simpa using hj
   have hjl:j<ops.length:=(List.getElem?_eq_some_iff.1 hj').1
   rw [Uu hjl,← Uf] at hun
   exact Bg ops 0 ht.2 j oj hj' (by simpa using hne) (by simpa using hun) hno
  ·rw [B4 hlt]
   exact h.go fuel hS _ Q (hd a hf) hQ (by omega)⟩
theorem HJ.q {v:Value} {i t:Nat} (hs:Wa ops=true) (hi:nth ops i=some o) (ht:Jp ops done i o=true) (hw:Yq ops env o=some true) (hd:o.dst=some t) (hn:Nat.ble (t+1) n=true) (ho:QOp P o env S v)
  (h:HJ P n ops S K (i :: done) ((t,v) :: env) w):HJ P n ops S K done env w:=
 HJ.take hs hi ht (fun n a hf=>.inl ⟨W1 (ops:=ops.toArray) hf (by simpa using hw),fun w hS=>ho n a w hf hS⟩) (fun a hf=>by rw [hd]; exact hf.put v hn) h
theorem HJ.off {i t:Nat} (hs:Wa ops=true) (hi:nth ops i=some o) (ht:Jp ops done i o=true) (hw:Yq ops env o=some false) (hd:o.dst=some t) (hn:Nat.ble (t+1) n=true)
  (h:HJ P n ops S K (i :: done) ((t,undef) :: env) w):HJ P n ops S K done env w:=
 HJ.take hs hi ht (fun n a hf=>.inr ⟨W1 (ops:=ops.toArray) hf (by simpa using hw),rfl⟩) (fun a hf=>by rw [hd]; exact hf.put _ hn) h
theorem HJ.off0 {i:Nat} (hs:Wa ops=true) (hi:nth ops i=some o) (ht:Jp ops done i o=true) (hw:Yq ops env o=some false) (hd:o.dst=none)
  (h:HJ P n ops S K (i :: done) env w):HJ P n ops S K done env w:=
 HJ.take hs hi ht (fun n a hf=>.inr ⟨W1 (ops:=ops.toArray) hf (by simpa using hw),rfl⟩) (fun a hf=>by rw [hd]; exact hf) h
theorem HJ.op {K':Value→World→Prop} {i:Nat} (hs:Wa ops=true) (hi:nth ops i=some o) (hr:U3 ops done i o=true) (hw:Yq ops env o=some true) (hd:Xw n o.dst=true) (ho:OpT P o env w K')
  (h:∀ v w',K' v w'→S w'∧HJ P n ops S K (i :: done) (Xu o.dst v env) w'):HJ P n ops S K done env w:=⟨fun fuel hS a Q hf hQ hfu=>by
 simp only [Wa,Bool.and_eq_true] at hs
 simp only [U3,Bool.and_eq_true,Bool.not_eq_true'] at hr
 rw [Yu] at hi
 have hi':ops.toArray[i]?=some o:=by simpa using hi
 have hlt:i<ops.length:=(List.getElem?_eq_some_iff.1 hi).1
 have hless:=J2 hlt hr.1.1
 have honly:∀ j,j∈Region.ready .any ops.toArray (Vf ops.length done)→j=i:=fun j hj=>by
  obtain ⟨oj,h1,h2,h3⟩:=(Ja hs.1).1 hj
  have:=Bd ops 0 hr.2 j oj h1 (by simpa using h2) h3
  omega
 have hrdy:=(Ja (done:=done) hs.1).2 ⟨o,hi,hr.1.1,hr.1.2⟩
 cases fuel with
 | zero=>omega
 | succ fuel=>
  refine ⟨fun h0=>(by rw [h0] at hrdy; cases hrdy),fun j hj=>?_⟩
  have:=honly j hj
  subst this
  unfold wpOp
  simp only [hi']
  rw [if_pos (W1 (ops:=ops.toArray) hf (by simpa using hw))]
  refine .inl (ho n a _ _ hf fun v w' hk=>⟨(h v w' hk).1,?_⟩)
  rw [B4 hlt]
  exact (h v w' hk).2.go fuel (h v w' hk).1 _ Q (hf.putD v hd) hQ (by omega)⟩
theorem HJ.know {t:Nat} {u v:Value} (hl:X2 env t=some u) (hv:u=v) (h:HJ P n ops S K done ((t,v) :: env) w):HJ P n ops S K done env w:=⟨fun fuel hS a Q hf hQ hfu=>
 h.go fuel hS a Q ⟨hf.size,hf.defers,fun s x hx=>by
  simp only [X2] at hx
  cases hb:Nat.beq t s with
  | true=>rw [hb] at hx; have:=Nat.eq_of_beq_eq_true hb; subst this; simp only [cond_true,Option.some.injEq] at hx; subst hx; subst hv; exact hf.get _ _ hl
  | false=>rw [hb] at hx; exact hf.get _ _ hx⟩ hQ hfu⟩
def runH (tt:TT) (n:Nat) (ops:List Oper):List Nat→List Nat→Env→Option (List Nat×Env)
 | [],done,env=>some (done,env)
 | i :: is,done,env=>match nth ops i with
  | none=>none
  | some o=>cond (Jp ops done i o) (match Yq ops env o with
   | some true=>match pv tt env o with
    | some v=>match o.dst with
     | some t=>cond (Nat.ble (t+1) n) (runH tt n ops is (i :: done) ((t,v) :: env)) none
     | none=>none
    | none=>none
   | some false=>match o.dst with
    | some t=>cond (Nat.ble (t+1) n) (runH tt n ops is (i :: done) ((t,undef) :: env)) none
    | none=>runH tt n ops is (i :: done) env
   | none=>none) none
theorem HJ.run {tt:TT} (hT:Yk P tt) (hs:Wa ops=true):∀(is:List Nat) {done done':List Nat} {env env':Env},SK.runH tt n ops is done env=some (done',env')→
  HJ P n ops S K done' env' w→HJ P n ops S K done env w
 | [],done,done',env,env',h,hr=>by simp only [SK.runH,Option.some.injEq,Prod.mk.injEq] at h; obtain ⟨rfl,rfl⟩:=h; exact hr
 | i :: is,done,done',env,env',h,hr=>by
  simp only [SK.runH] at h
  split at h
  ·cases h
  ·rename_i o hi
   cases ht:Jp ops done i o with
   | false=>rw [ht] at h; cases h
   | true=>
    rw [ht] at h
    simp only [cond_true] at h
    split at h
    ·rename_i hw
     split at h
     ·rename_i v hv
      split at h
      ·rename_i t hd
       cases hb:Nat.ble (t+1) n with
       | false=>rw [hb] at h; cases h
       | true=>rw [hb] at h; exact HJ.q hs hi ht hw hd hb (QOp.of_pv hT hv S) (HJ.run hT hs is h hr)
      ·cases h
     ·cases h
    ·rename_i hw
     split at h
     ·rename_i t hd
      cases hb:Nat.ble (t+1) n with
      | false=>rw [hb] at h; cases h
      | true=>rw [hb] at h; exact HJ.off hs hi ht hw hd hb (HJ.run hT hs is h hr)
     ·rename_i hd; exact HJ.off0 hs hi ht hw hd (HJ.run hT hs is h hr)
    ·cases h
end
end Go.SK
