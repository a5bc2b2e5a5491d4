/- Part of the library of this claim: how code is stepped through. -/
import Derived.Test.YtgdmpkhmedbnpaaGreatDoorXScanNoneKz
set_option linter.unusedVariables false
set_option linter.unusedSimpArgs false
namespace Go.SK
open Go Go.RowKit

class TTI (P:Program) (tt:outParam TT):Prop where
 ok:Yk P tt
 mix:P.follows .mixedOrders=true
def nfK {α R:Type}:List α→(List α→Option R)→Option R
 | [],k=>k []
 | c :: l,k=>nfK l fun t=>k (c :: t)
theorem Ur {α R:Type}:∀(l:List α) (k:List α→Option R),nfK l k=k l
 | [],_=>rfl
 | c :: l,k=>Ur l fun t=>k (c :: t)
def nfV {R:Type} (v:Value) (k:Value→Option R):Option R:=match v with
 | .agg a=>nfK a.toList fun l=>k (.agg l.toArray)
 | v=>k v
theorem Zmd {R:Type} (v:Value) (k:Value→Option R):nfV v k=k v:=by
 unfold nfV
 split
 ·rw [Ur]
 ·rfl
def Zaf {R:Type}:List Nat→Env→(Env→Option R)→Option R
 | [],_,k=>k []
 | t :: ts,env,k=>match X2 env t with
  | some v=>nfV v fun v'=>Zaf ts env fun e=>k ((t,v') :: e)
  | none=>none
theorem G4 {R:Type} {r:R}:∀ {ts:List Nat} {env:Env} {k:Env→Option R},Zaf ts env k=some r→k (keep ts env)=some r
 | [],_,_,h=>h
 | t :: ts,env,k,h=>by
  unfold Zaf at h
  unfold keep
  split at h
  ·rename_i v hv
   rw [Zmd] at h
   rw [hv]
   exact G4 h
  ·cases h
def Zab (tt:TT) (n:Nat) (ops:List Oper) (ts:List Nat):List Oper→Env→Option Env
 | [],env=>Zaf ts env some
 | o :: l,env=>match Yq ops env o with
  | some true=>match pv tt env o with
   | some v=>match o.dst with
    | some t=>cond (Nat.ble (t+1) n) (Zab tt n ops ts l ((t,v) :: env)) none
    | none=>Zab tt n ops ts l env
   | none=>none
  | some false=>match o.dst with
   | some t=>cond (Nat.ble (t+1) n) (Zab tt n ops ts l ((t,undef) :: env)) none
   | none=>Zab tt n ops ts l env
  | none=>none
theorem Zdi {env:Env} {t:Nat} {v:Value} (h:X2 env t=some v) (ts:List Nat):keep (t :: ts) env=(t,v) :: keep ts env:=by simp only [keep,h]
theorem Zh0 {env:Env} {t:Nat} (h:X2 env t=none) (ts:List Nat):keep (t :: ts) env=keep ts env:=by simp only [keep,h]
theorem J0 (env:Env):∀ ts:List Nat,keep ((keep ts env).map (·.1)) env=keep ts env
 | []=>rfl
 | t :: ts=>by
  cases h:X2 env t with
  | none=>rw [Zh0 h]; exact J0 env ts
  | some v=>
   rw [Zdi h,List.map_cons]
   show keep (t :: (keep ts env).map (·.1)) env=_
   rw [Zdi h,J0 env ts]
def npE {β:Type}:Nat→List Ch→(Ch→List Ch→Option β)→Option β
 | 0,c :: l,f=>f c l
 | n+1,x :: l,f=>npE n l fun c r=>f c (x :: r)
 | _,[],_=>none
def Vi {β:Type}:List Nat→List Ch→(List Ch→List Ch→Option β)→Option β
 | [],Hs,f=>f [] Hs
 | k :: ks,Hs,f=>npE k Hs fun c r=>Vi ks r fun ps rest=>f (c :: ps) rest
section
variable {P:Program} {tt:TT} {n:Nat} {env:Env} {w w0:World} {F0:Ft} {Hs Rs:List Ch} {ops:List Oper} {K:Env→World→Prop} {o:Oper} {l:List Oper} {PQ:Xd} {S:World→Prop} {done:List Nat}
theorem nf (h:St w0 F0 Hs Rs w) {Hs':List Ch} (e:nfK Hs some=some Hs':=by exact rfl):St w0 F0 Hs' Rs w:=by
 rw [Ur] at e
 injection e with e
 exact e ▸ h
theorem Ze [i:TTI P tt]:∀ {l:List Oper} (ts:List Nat) {env E:Env},Zab tt n ops ts l env=some E→K E w→RJ P n ops l K env w
 | [],ts,env,E,h,hk=>by
  have:=G4 h
  injection this with this
  subst this
  exact RJ.keep ts (RJ.done hk)
 | o :: l,ts,env,E,h,hk=>by
  unfold Zab at h
  split at h
  ·rename_i hw
   split at h
   ·rename_i v hv
    split at h
    ·rename_i t hd
     cases hb:Nat.ble (t+1) n with
     | false=>rw [hb] at h; cases h
     | true=>
      rw [hb] at h
      refine RJ.q hw (by rw [hd]; exact hb) (QOp.of_pv i.ok hv _) ?_
      rw [hd]
      exact Ze ts h hk
    ·rename_i hd
     refine RJ.q hw (by rw [hd]; rfl) (QOp.of_pv i.ok hv _) ?_
     rw [hd]
     exact Ze ts h hk
   ·cases h
  ·rename_i hw
   split at h
   ·rename_i t hd
    cases hb:Nat.ble (t+1) n with
    | false=>rw [hb] at h; cases h
    | true=>
     rw [hb] at h
     refine RJ.off hw (by rw [hd]; exact hb) ?_
     rw [hd]
     exact Ze ts h hk
   ·rename_i hd
    refine RJ.off hw (by rw [hd]; rfl) ?_
    rw [hd]
    exact Ze ts h hk
  ·cases h
theorem Zn1 [i:TTI P tt] {id:Nat} (ts:List Nat) {E:Env} (h:Zab tt n ops ts ops env=some E) (hk:PQ .normal E w):J P n (.region id ops.toArray false) PQ env w:=J.region (Ze ts h hk)
theorem Zw (ts:List Nat) {E:Env} (hk:K E w) (hr:(Zah ops && Jj done 0 ops)=true:=by exact rfl) (h:Zaf ts env some=some E:=by exact rfl):HJ P n ops S K done env w:=by
 have:=G4 h
 injection this with this
 subst this
 refine HJ.fin (keep ts env) hr ?_ hk
 exact J0 env ts
theorem Yb (t:Nat) {b:Bool} {α:Type} {x y r:α} (H:(if b=true then x else y)=r) (ht:b=true→x=r→RJ P n ops l K ((t,.bool true) :: env) w) (hn:b=false→y=r→RJ P n ops l K ((t,.bool false) :: env) w) (hl:X2 env t=some (.bool b):=by exact rfl):RJ P n ops l K env w:=by
 cases b with
 | true=>exact RJ.know hl rfl (ht rfl (by simpa using H))
 | false=>exact RJ.know hl rfl (hn rfl (by simpa using H))
theorem X8 (t:Nat) {b:Bool} {α:Type} {x y r:α} (H:(if b=true then x else y)=r) (ht:b=true→x=r→HJ P n ops S K done ((t,.bool true) :: env) w) (hn:b=false→y=r→HJ P n ops S K done ((t,.bool false) :: env) w) (hl:X2 env t=some (.bool b):=by exact rfl):HJ P n ops S K done env w:=by
 cases b with
 | true=>exact HJ.know hl rfl (ht rfl (by simpa using H))
 | false=>exact HJ.know hl rfl (hn rfl (by simpa using H))
theorem jIf {c:Operand} {u v:Code} {b:Bool} {α:Type} {x y r:α} (H:(if b=true then x else y)=r) (ht:b=true→x=r→J P n u PQ env w) (hn:b=false→y=r→J P n v PQ env w) (hc:Zq env c=some (.bool b):=by exact rfl):J P n (.cond c u v) PQ env w:=
 J.cond hc (fun e=>ht e (by subst e; simpa using H)) (fun e=>hn e (by subst e; simpa using H))
theorem Wk {c:Code} (ts:List Nat) {E:Env} (hj:J P n c PQ E w) (h:Zaf ts env some=some E:=by exact rfl):J P n c PQ env w:=by
 have:=G4 h
 injection this with this
 subst this
 exact J.narrow (keep ts env) (J0 env ts) hj
theorem Zi1 {β:Type}:∀(k:Nat) (Hs:List Ch) (f:Ch→List Ch→Option β),npE k Hs f=(nth Hs k).bind fun c=>f c (Hs.eraseIdx k)
 | 0,[],f=>rfl
 | 0,c :: l,f=>rfl
 | n+1,[],f=>rfl
 | n+1,x :: l,f=>by
  unfold npE
  rw [Zi1 n l]
  rfl
theorem Zbd {β:Type}:∀(ks:List Nat) (Hs:List Ch) (f:List Ch→List Ch→Option β),Vi ks Hs f=(pick ks Hs).bind fun p=>f p.1 p.2
 | [],Hs,f=>rfl
 | k :: ks,Hs,f=>by
  unfold Vi pick
  rw [Zi1]
  cases nth Hs k with
  | none=>rfl
  | some c=>
   rw [Option.bind_some,Zbd ks]
   dsimp only
   cases pick ks (Hs.eraseIdx k) <;> rfl
theorem Zan {ks:List Nat} {ps rest:List Ch} (h:Vi ks Hs (fun p r=>some (p,r))=some (ps,rest)):pick ks Hs=some (ps,rest):=by
 rw [Zbd] at h
 cases e:pick ks Hs with
 | none=>rw [e] at h; cases h
 | some p=>rw [e] at h; exact h
theorem sO (h:St w0 F0 Hs Rs w) (ks:List Nat) {ps:List Ch} (hp:Vi ks Hs (fun p _=>some p)=some ps:=by exact rfl):St w0 F0 ps Rs w:=by
 rw [Zbd] at hp
 cases e:pick ks Hs with
 | none=>rw [e] at hp; cases hp
 | some p=>rw [e] at hp; injection hp with hp; subst hp; exact h.only ks e
theorem sOR (h:St w0 F0 Hs Rs w) (ks js:List Nat) {ps cs:List Ch} (hp:Vi ks Hs (fun p _=>some p)=some ps:=by exact rfl) (hc:sel js Rs=some cs:=by exact rfl):St w0 F0 ps cs w:=(sO h ks hp).rds js hc
theorem gO {E:Nat} {t:Ty} {xs:List t.D} {v:Value} {l:List Ch} (k:Nat) (h:nth l k=some (Yg E t xs v):=by exact rfl):Gives l (rdC E t xs v):=Gives.of k h Yc
theorem Z9 (hS:St w0 F0 Hs Rs w) {t:Nat} {x:Operand} {v:Value} {cs:List Value} (ho:o.op=.box t x:=by exact rfl) (hx:Zq env x=some v:=by exact rfl) (hc:nfK v.cells.toList some=some cs:=by exact rfl) :
  OpT P o env w (fun v' w'=>∃ b,v'=.pointer (some ⟨b,0,none⟩)∧St w0 F0 (Yr b t cs :: Hs) Rs w'):=by
 rw [Ur] at hc
 injection hc with hc
 subst hc
 exact Zmz ho hx hS
theorem Yt [q:TTI P tt] (hS:St w0 F0 Hs Rs w) {t:Nat} {i:TI} {cs:List Value} (ho:o.op=.alloc t:=by exact rfl) (hi:find tt t=some i:=by exact rfl) (hc:nfK i.zero.cells.toList some=some cs:=by exact rfl) :
  OpT P o env w (fun v' w'=>∃ b,v'=.pointer (some ⟨b,0,none⟩)∧St w0 F0 (Yr b t cs :: Hs) Rs w'):=by
 rw [Ur] at hc
 injection hc with hc
 subst hc
 exact Zjv q.ok ho hi hS
theorem Zt [q:TTI P tt] {t:Nat} {x y:Operand} {i:TI} {b off tb:Nat} {cs cs':List Value} {v:Value} (k:Nat) (hS:St w0 F0 Hs Rs w) (ho:o.op=.store t x y:=by exact rfl) (hk:nth Hs k=some (Yr b tb cs):=by exact rfl)
  (hi:find tt t=some i:=by exact rfl) (ha:Zq env x=some (.pointer (some ⟨b,off,none⟩)):=by exact rfl) (hv:Zq env y=some v:=by exact rfl) (hsz:Nat.beq v.cells.toList.length i.size=true:=by exact rfl) (hle:Nat.ble (off+i.size) cs.length=true:=by exact rfl) (h1:v.cells.toList.all (fun u=>u.oneCell')=true:=by exact rfl)
  (hc:nfK (Zy off v.cells.toList cs) some=some cs':=by exact rfl):OpT P o env w (fun _ w'=>St w0 F0 (Yr b tb cs' :: Hs.eraseIdx k) Rs w'):=by
 rw [Ur] at hc
 injection hc with hc
 subst hc
 exact Zj3 q.ok k ho hS hk hi ha hv hsz hle h1
theorem Zd [q:TTI P tt] (k:Nat) {l':List Oper} {env':Env} (hr:RJ P n ops l' K env' w) (h:B3 tt n ops k l env=some (l',env'):=by exact rfl):RJ P n ops l K env w:=RJ.run q.ok k h hr
theorem Zo [q:TTI P tt] (is:List Nat) {done':List Nat} {env':Env} (hr:HJ P n ops S K done' env' w) (hs:Wa ops=true:=by exact rfl) (h:SK.runH tt n ops is done env=some (done',env'):=by exact rfl):HJ P n ops S K done env w:=HJ.run q.ok hs is h hr
theorem wI {S:World→Prop}:∀ w,S w→S w:=fun _ h=>h
theorem ttC {t:Nat} {i:TI} (hk:i.kind.ok P t) (ht:Yk P tt) (hi:(P.info? t).map (fun j=>(j.size,j.bytes,j.zero))=some (i.size,i.bytes,some i.zero):=by kernel_rfl):Yk P ((t,i) :: tt):=Zdm ⟨hi,hk⟩ ht
theorem ttS {t a b : Nat} {z : Value} {fs : List (Nat × Nat × Nat)} {fields : List Field} (hu : P.underlying t = some (.struct fields.toArray)) (ht : Yk P tt) (h1 : fields.map (fun f => (f.type, f.offset, P.cellsOf f.type)) = fs := by kernel_rfl) (h2 : (fs.all fun f => (P.info? f.1).isSome) = true := by kernel_rfl) (h3 : (fs.all fun f => !Nat.beq f.2.2 0) = true := by kernel_rfl) (h4 : P.stoodInHeld t = false := by kernel_rfl) (h5 : P.eqGuardType P.depth t = false := by kernel_rfl) (h6 : (fields.all fun f => f.name != "_") = true := by kernel_rfl)
  (hi:(P.info? t).map (fun j=>(j.size,j.bytes,j.zero))=some (a,b,some z):=by kernel_rfl):Yk P ((t,⟨.struct fs,a,b,z⟩) :: tt):=Zdm ⟨hi,⟨fields,hu,h1,h2,h3,h4,h5,h6⟩⟩ ht
theorem z0 {α:Type} {r:α} {p:Prop} (h:(none:Option α)=some r):p:=by cases h
end
end Go.SK
