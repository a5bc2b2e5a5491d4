/- Part of the library of this claim: how code is stepped through. -/
import Derived.Test.YtgdmpkhmedbnpaaGreatDoorXShelfFlushedKz
set_option linter.unusedVariables false
set_option linter.unusedSimpArgs false
namespace Go.SK
open Go Go.RowKit

class TTI (P:Program) (tt:outParam TT):Prop where
 ok:Yr P tt
 mix:P.follows .mixedOrders=true
def nfK {α R:Type}:List α→(List α→Option R)→Option R
 | [],k=>k []
 | c :: l,k=>nfK l fun t=>k (c :: t)
theorem Ja {α R:Type}:∀(l:List α) (k:List α→Option R),nfK l k=k l
 | [],_=>rfl
 | c :: l,k=>Ja l fun t=>k (c :: t)
def nfV {R:Type} (v:Value) (k:Value→Option R):Option R:=match v with
 | .agg a=>nfK a.toList fun l=>k (.agg l.toArray)
 | v=>k v
theorem Zoh {R:Type} (v:Value) (k:Value→Option R):nfV v k=k v:=by
 unfold nfV
 split
 ·rw [Ja]
 ·rfl
def Gd {R:Type}:List Nat→Env→(Env→Option R)→Option R
 | [],_,k=>k []
 | t :: ts,env,k=>match Xz env t with
  | some v=>nfV v fun v'=>Gd ts env fun e=>k ((t,v') :: e)
  | none=>none
theorem Bp {R:Type} {r:R}:∀ {ts:List Nat} {env:Env} {k:Env→Option R},Gd ts env k=some r→k (keep ts env)=some r
 | [],_,_,h=>h
 | t :: ts,env,k,h=>by
  unfold Gd at h
  unfold keep
  split at h
  ·rename_i v hv
   rw [Zoh] at h
   rw [hv]
   exact Bp h
  ·cases h
def Zan (tt:TT) (n:Nat) (ops:List Oper) (ts:List Nat):List Oper→Env→Option Env
 | [],env=>Gd ts env some
 | o :: l,env=>match Ym ops env o with
  | some true=>match pv tt env o with
   | some v=>match o.dst with
    | some t=>cond (Nat.ble (t+1) n) (Zan tt n ops ts l ((t,v) :: env)) none
    | none=>Zan tt n ops ts l env
   | none=>none
  | some false=>match o.dst with
   | some t=>cond (Nat.ble (t+1) n) (Zan tt n ops ts l ((t,undef) :: env)) none
   | none=>Zan tt n ops ts l env
  | none=>none
theorem Zei {env:Env} {t:Nat} {v:Value} (h:Xz env t=some v) (ts:List Nat):keep (t :: ts) env=(t,v) :: keep ts env:=by simp only [keep,h]
theorem Zkq {env:Env} {t:Nat} (h:Xz env t=none) (ts:List Nat):keep (t :: ts) env=keep ts env:=by simp only [keep,h]
theorem Gb (env:Env):∀ ts:List Nat,keep ((keep ts env).map (·.1)) env=keep ts env
 | []=>rfl
 | t :: ts=>by
  cases h:Xz env t with
  | none=>rw [Zkq h]; exact Gb env ts
  | some v=>
   rw [Zei h,List.map_cons]
   show keep (t :: (keep ts env).map (·.1)) env=_
   rw [Zei h,Gb env ts]
def npE {β:Type}:Nat→List Ch→(Ch→List Ch→Option β)→Option β
 | 0,c :: l,f=>f c l
 | n+1,x :: l,f=>npE n l fun c r=>f c (x :: r)
 | _,[],_=>none
def Vz {β:Type}:List Nat→List Ch→(List Ch→List Ch→Option β)→Option β
 | [],Hs,f=>f [] Hs
 | k :: ks,Hs,f=>npE k Hs fun c r=>Vz ks r fun ps rest=>f (c :: ps) rest
section
variable {P:Program} {tt:TT} {n:Nat} {env:Env} {w w0:World} {F0:Ft} {Hs Rs:List Ch} {ops:List Oper} {K:Env→World→Prop} {o:Oper} {l:List Oper} {PQ:Xb} {S:World→Prop} {done:List Nat}
theorem nf (h:St w0 F0 Hs Rs w) {Hs':List Ch} (e:nfK Hs some=some Hs':=by exact rfl):St w0 F0 Hs' Rs w:=by
 rw [Ja] at e
 injection e with e
 exact e ▸ h
theorem Ze [i:TTI P tt]:∀ {l:List Oper} (ts:List Nat) {env E:Env},Zan tt n ops ts l env=some E→K E w→RJ P n ops l K env w
 | [],ts,env,E,h,hk=>by
  have:=Bp h
  injection this with this
  subst this
  exact RJ.keep ts (RJ.done hk)
 | o :: l,ts,env,E,h,hk=>by
  unfold Zan at h
  split at h
  ·rename_i hw
   split at h
   ·rename_i v hv
    split at h
    ·rename_i t hd
     cases hb:Nat.ble (t+1) n with
     | false=>rw [hb] at h; cases h
     | true=>
      rw [hb] at h
      refine RJ.q hw (by rw [hd]; exact hb) (QOp.of_pv i.ok hv _) ?_
      rw [hd]
      exact Ze ts h hk
    ·rename_i hd
     refine RJ.q hw (by rw [hd]; rfl) (QOp.of_pv i.ok hv _) ?_
     rw [hd]
     exact Ze ts h hk
   ·cases h
  ·rename_i hw
   split at h
   ·rename_i t hd
    cases hb:Nat.ble (t+1) n with
    | false=>rw [hb] at h; cases h
    | true=>
     rw [hb] at h
     refine RJ.off hw (by rw [hd]; exact hb) ?_
     rw [hd]
     exact Ze ts h hk
   ·rename_i hd
    refine RJ.off hw (by rw [hd]; rfl) ?_
    rw [hd]
    exact Ze ts h hk
  ·cases h
theorem Zp1 [i:TTI P tt] {id:Nat} (ts:List Nat) {E:Env} (h:Zan tt n ops ts ops env=some E) (hk:PQ .normal E w):J P n (.region id ops.toArray false) PQ env w:=J.region (Ze ts h hk)
theorem Zt (ts:List Nat) {E:Env} (hk:K E w) (hr:(Za5 ops && J2 done 0 ops)=true:=by exact rfl) (h:Gd ts env some=some E:=by exact rfl):HJ P n ops S K done env w:=by
 have:=Bp h
 injection this with this
 subst this
 refine HJ.fin (keep ts env) hr ?_ hk
 exact Gb env ts
theorem Z7 (t:Nat) {b:Bool} {α:Type} {x y r:α} (H:(if b=true then x else y)=r) (ht:b=true→x=r→RJ P n ops l K ((t,.bool true) :: env) w) (hn:b=false→y=r→RJ P n ops l K ((t,.bool false) :: env) w) (hl:Xz env t=some (.bool b):=by exact rfl):RJ P n ops l K env w:=by
 cases b with
 | true=>exact RJ.know hl rfl (ht rfl (by simpa using H))
 | false=>exact RJ.know hl rfl (hn rfl (by simpa using H))
theorem X1 (t:Nat) {b:Bool} {α:Type} {x y r:α} (H:(if b=true then x else y)=r) (ht:b=true→x=r→HJ P n ops S K done ((t,.bool true) :: env) w) (hn:b=false→y=r→HJ P n ops S K done ((t,.bool false) :: env) w) (hl:Xz env t=some (.bool b):=by exact rfl):HJ P n ops S K done env w:=by
 cases b with
 | true=>exact HJ.know hl rfl (ht rfl (by simpa using H))
 | false=>exact HJ.know hl rfl (hn rfl (by simpa using H))
theorem jIf {c:Operand} {u v:Code} {b:Bool} {α:Type} {x y r:α} (H:(if b=true then x else y)=r) (ht:b=true→x=r→J P n u PQ env w) (hn:b=false→y=r→J P n v PQ env w) (hc:Zr env c=some (.bool b):=by exact rfl):J P n (.cond c u v) PQ env w:=
 J.cond hc (fun e=>ht e (by subst e; simpa using H)) (fun e=>hn e (by subst e; simpa using H))
theorem Ws {c:Code} (ts:List Nat) {E:Env} (hj:J P n c PQ E w) (h:Gd ts env some=some E:=by exact rfl):J P n c PQ env w:=by
 have:=Bp h
 injection this with this
 subst this
 exact J.narrow (keep ts env) (Gb env ts) hj
theorem Zkh {β:Type}:∀(k:Nat) (Hs:List Ch) (f:Ch→List Ch→Option β),npE k Hs f=(nth Hs k).bind fun c=>f c (Hs.eraseIdx k)
 | 0,[],f=>rfl
 | 0,c :: l,f=>rfl
 | n+1,[],f=>rfl
 | n+1,x :: l,f=>by
  unfold npE
  rw [Zkh n l]
  rfl
theorem Zcf {β:Type}:∀(ks:List Nat) (Hs:List Ch) (f:List Ch→List Ch→Option β),Vz ks Hs f=(pick ks Hs).bind fun p=>f p.1 p.2
 | [],Hs,f=>rfl
 | k :: ks,Hs,f=>by
  unfold Vz pick
  rw [Zkh]
  cases nth Hs k with
  | none=>rfl
  | some c=>
   rw [Option.bind_some,Zcf ks]
   dsimp only
   cases pick ks (Hs.eraseIdx k) <;> rfl
theorem Zbb {ks:List Nat} {ps rest:List Ch} (h:Vz ks Hs (fun p r=>some (p,r))=some (ps,rest)):pick ks Hs=some (ps,rest):=by
 rw [Zcf] at h
 cases e:pick ks Hs with
 | none=>rw [e] at h; cases h
 | some p=>rw [e] at h; exact h
theorem sO (h:St w0 F0 Hs Rs w) (ks:List Nat) {ps:List Ch} (hp:Vz ks Hs (fun p _=>some p)=some ps:=by exact rfl):St w0 F0 ps Rs w:=by
 rw [Zcf] at hp
 cases e:pick ks Hs with
 | none=>rw [e] at hp; cases hp
 | some p=>rw [e] at hp; injection hp with hp; subst hp; exact h.only ks e
theorem sOR (h:St w0 F0 Hs Rs w) (ks js:List Nat) {ps cs:List Ch} (hp:Vz ks Hs (fun p _=>some p)=some ps:=by exact rfl) (hc:sel js Rs=some cs:=by exact rfl):St w0 F0 ps cs w:=(sO h ks hp).rds js hc
theorem gO {E:Nat} {t:Ty} {xs:List t.D} {v:Value} {l:List Ch} (k:Nat) (h:nth l k=some (Yh E t xs v):=by exact rfl):Gives l (rdC E t xs v):=Gives.of k h Yz
theorem Z4 (hS:St w0 F0 Hs Rs w) {t:Nat} {x:Operand} {v:Value} {cs:List Value} (ho:o.op=.box t x:=by exact rfl) (hx:Zr env x=some v:=by exact rfl) (hc:nfK v.cells.toList some=some cs:=by exact rfl) :
  OpT P o env w (fun v' w'=>∃ b,v'=.pointer (some ⟨b,0,none⟩)∧St w0 F0 (Ys b t cs :: Hs) Rs w'):=by
 rw [Ja] at hc
 injection hc with hc
 subst hc
 exact Zlc ho hx hS
theorem Yp [q:TTI P tt] (hS:St w0 F0 Hs Rs w) {t:Nat} {i:TI} {cs:List Value} (ho:o.op=.alloc t:=by exact rfl) (hi:find tt t=some i:=by exact rfl) (hc:nfK i.zero.cells.toList some=some cs:=by exact rfl) :
  OpT P o env w (fun v' w'=>∃ b,v'=.pointer (some ⟨b,0,none⟩)∧St w0 F0 (Ys b t cs :: Hs) Rs w'):=by
 rw [Ja] at hc
 injection hc with hc
 subst hc
 exact Zmg q.ok ho hi hS
theorem Zs [q:TTI P tt] {t:Nat} {x y:Operand} {i:TI} {b off tb:Nat} {cs cs':List Value} {v:Value} (k:Nat) (hS:St w0 F0 Hs Rs w) (ho:o.op=.store t x y:=by exact rfl) (hk:nth Hs k=some (Ys b tb cs):=by exact rfl)
  (hi:find tt t=some i:=by exact rfl) (ha:Zr env x=some (.pointer (some ⟨b,off,none⟩)):=by exact rfl) (hv:Zr env y=some v:=by exact rfl) (hsz:Nat.beq v.cells.toList.length i.size=true:=by exact rfl) (hle:Nat.ble (off+i.size) cs.length=true:=by exact rfl) (h1:v.cells.toList.all (fun u=>u.oneCell')=true:=by exact rfl)
  (hc:nfK (Z6 off v.cells.toList cs) some=some cs':=by exact rfl):OpT P o env w (fun _ w'=>St w0 F0 (Ys b tb cs' :: Hs.eraseIdx k) Rs w'):=by
 rw [Ja] at hc
 injection hc with hc
 subst hc
 exact Zl9 q.ok k ho hS hk hi ha hv hsz hle h1
theorem Zd [q:TTI P tt] (k:Nat) {l':List Oper} {env':Env} (hr:RJ P n ops l' K env' w) (h:Zaq tt n ops k l env=some (l',env'):=by exact rfl):RJ P n ops l K env w:=RJ.run q.ok k h hr
theorem Zo [q:TTI P tt] (is:List Nat) {done':List Nat} {env':Env} (hr:HJ P n ops S K done' env' w) (hs:Wb ops=true:=by exact rfl) (h:SK.runH tt n ops is done env=some (done',env'):=by exact rfl):HJ P n ops S K done env w:=HJ.run q.ok hs is h hr
theorem wI {S:World→Prop}:∀ w,S w→S w:=fun _ h=>h
theorem ttC {t:Nat} {i:TI} (hk:i.kind.ok P t) (ht:Yr P tt) (hi:(P.info? t).map (fun j=>(j.size,j.bytes,j.zero))=some (i.size,i.bytes,some i.zero):=by kernel_rfl):Yr P ((t,i) :: tt):=Zeu ⟨hi,hk⟩ ht
theorem ttS {t a b : Nat} {z : Value} {fs : List (Nat × Nat × Nat)} {fields : List Field} (hu : P.underlying t = some (.struct fields.toArray)) (ht : Yr P tt) (h1 : fields.map (fun f => (f.type, f.offset, P.cellsOf f.type)) = fs := by kernel_rfl) (h2 : (fs.all fun f => (P.info? f.1).isSome) = true := by kernel_rfl) (h3 : (fs.all fun f => !Nat.beq f.2.2 0) = true := by kernel_rfl) (h4 : P.stoodInHeld t = false := by kernel_rfl) (h5 : P.eqGuardType P.depth t = false := by kernel_rfl) (h6 : (fields.all fun f => f.name != "_") = true := by kernel_rfl)
  (hi:(P.info? t).map (fun j=>(j.size,j.bytes,j.zero))=some (a,b,some z):=by kernel_rfl):Yr P ((t,⟨.struct fs,a,b,z⟩) :: tt):=Zeu ⟨hi,⟨fields,hu,h1,h2,h3,h4,h5,h6⟩⟩ ht
theorem z0 {α:Type} {r:α} {p:Prop} (h:(none:Option α)=some r):p:=by cases h
end
end Go.SK
