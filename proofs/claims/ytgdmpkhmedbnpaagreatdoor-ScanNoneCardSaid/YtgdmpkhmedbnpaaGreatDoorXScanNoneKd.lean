/- Part of the library of this claim: how code is stepped through. -/
import Derived.Test.YtgdmpkhmedbnpaaGreatDoorXScanNoneKc
set_option linter.unusedVariables false
set_option linter.unusedSimpArgs false
namespace Go.SK
open Go

theorem Zja {P:Program} {op:BinOp} {t:Nat} {x y:Operand} {a b v:Value} {tt:TT} (hT:Yk P tt) (w:World) (h:Zek tt op t a b=some v) :
  (eqGuard op t x y a b).run P w=.ok () w:=by
 by_cases hop:op=.eql∨op=.neq
 ·have agg:∀ p q,a=.agg p→b=.agg q→(∃ fs z1 z2 z,find tt t=some ⟨.struct fs,z1,z2,z⟩)→(eqGuard op t x y a b).run P w=.ok () w:=by
   rintro p q rfl rfl ⟨fs,z1,z2,z,hf⟩
   obtain ⟨fields,hu,hfs,_,_,_,hg,_⟩:=(hT _ _ hf).kind
   rcases hop with rfl | rfl <;> exact run_eqGuard_agg w _ t x y p q hg
  have other:∀ r,peq tt t a b=some r→(eqGuard op t x y a b).run P w=.ok () w:=by
   intro r he
   unfold peq at he
   split at he <;> first | (cases he; done) | (simp [eqGuard]; done)
  unfold Zek at h
  split at h
  ·rename_i k p k' q; simp [eqGuard]
  ·simp [eqGuard]
  ·have:∃ r,Ug tt 6 t a b=some r:=by
    rcases hop with rfl | rfl <;> (simp only at h; cases he:Ug tt 6 t a b with
     | none=>rw [he] at h; cases h
     | some r=>exact ⟨r,rfl⟩)
   obtain ⟨r,he⟩:=this
   rcases Zb0 he with ⟨k,p,k',q,rfl,rfl⟩ | ⟨p,q,rfl,rfl⟩ | ⟨p,q,e1,e2,hf⟩ | he
   ·simp [eqGuard]
   ·simp [eqGuard]
   ·exact agg p q e1 e2 hf
   ·exact other r he
 ·unfold eqGuard
  cases op <;> first | (simp; done) | exact absurd (Or.inl rfl) hop | exact absurd (Or.inr rfl) hop

theorem Jx {P:Program} (w:World):∀(fields:List Field),(∀ f∈fields,∃ i,P.info? f.type=some i)→
  (fields.mapM (fun f=>Prod.mk f.offset <$> sizeOf f.type):Sem (List (Nat×Nat))).run P w=.ok (fields.map fun f=>(f.offset,P.cellsOf f.type)) w
 | [],_=>by simp
 | f :: fs,h=>by
  obtain ⟨i,hi⟩:=h f (by simp)
  have hs:(sizeOf f.type).run P w=.ok (P.cellsOf f.type) w:=by simp [sizeOf,typeInfo,hi,Program.cellsOf]
  have ih:=Jx w fs (fun g hg=>h g (by simp [hg]))
  simp only [List.mapM_cons,Sem.run_bind,Sem.run_map,hs,Result.andThen_ok,Sem.run_pure,List.map_cons]
  rw [ih]; rfl

theorem Zbq {n:Nat} {env:Env} {a:Act} (hf:Fr n env a):∀(parts:List (Nat×Operand)) (vs:List Value),Yv env (parts.map (·.2))=some vs→parts.map (fun x=>(x.1,a.eval x.2))=(parts.map (·.1)).zip vs
 | [],vs,h=>by simp
 | p :: ps,vs,h=>by
  simp only [List.map_cons,Yv] at h
  split at h
  ·rename_i v us h1 h2
   simp only [Option.some.injEq] at h; subst h
   simp [hf.eval h1,Zbq hf ps us h2]
  ·cases h

set_option maxHeartbeats 1000000 in
theorem Zju {P:Program} {tt:TT} (hT:Yk P tt) {n:Nat} {env:Env} {a:Act} (hf:Fr n env a) {o:Oper} {v:Value} (h:pv tt env o=some v) (w:World) :
  (execOp a.eval o).run P w=.ok (.value v) w:=by
 obtain ⟨dst,op,ty,pos,after,guard⟩:=o
 cases op <;> simp only [pv] at h <;> try (cases h; done)
 case move x=>simp [execOp,hf.eval h]
 case assign x=>simp [execOp,hf.eval h]
 case pick c x y=>
  split at h
  ·rename_i hc; simp [execOp,hf.eval hc,hf.eval h,asBool]
  ·rename_i hc; simp [execOp,hf.eval hc,hf.eval h,asBool]
  ·cases h
 case nilCheck x=>
  split at h
  ·rename_i hx; simp only [Option.some.injEq] at h; subst h; simp [execOp,hf.eval hx]
  ·rename_i hx; simp only [Option.some.injEq] at h; subst h; simp [execOp,hf.eval hx]
  ·cases h
 case binOp op t x y yt=>
  split at h
  ·rename_i p q hp hq
   simp [execOp,hf.eval hp,hf.eval hq,Zja hT w h,Zj2 hT w h]
  ·cases h
 case unOp op t x=>
  split at h
  ·rename_i hx; simp only [Option.some.injEq] at h; subst h; simp [execOp,hf.eval hx,Op.unary]
  ·rename_i hx; simp only [Option.some.injEq] at h; subst h; simp [execOp,hf.eval hx,Op.unary,Op.intArith]
  ·rename_i hx; simp only [Option.some.injEq] at h; subst h; simp [execOp,hf.eval hx,Op.unary,Op.intBits]
  ·cases h
 case convert s d x=>
  split at h
  ·rename_i hs hd hx
   have h1:=(hT _ _ hs).kind; have h2:=(hT _ _ hd).kind
   simp only [TK.ok] at h1 h2
   simp only [Option.some.injEq] at h; subst h
   simp [execOp,hf.eval hx,convert,Z2 w h1,Z2 w h2,Conv.intToInt]
  ·rename_i hs hd hx
   have h1:=(hT _ _ hs).kind; have h2:=(hT _ _ hd).kind
   simp only [TK.ok] at h1 h2
   simp only [Option.some.injEq] at h; subst h
   simp [execOp,hf.eval hx,convert,Z2 w h1,Z2 w h2]
  ·cases h
 case extract x i=>
  split at h
  ·rename_i vs hx
   rw [Yu] at h
   have h':vs[i]?=some v:=by simpa using h
   simp [execOp,hf.eval hx,Instr.extract,h']
  ·cases h
 case fieldAddr s x f=>
  split at h
  ·rename_i fs _ _ _ b off hs hx
   split at h
   ·rename_i ft fo sz hn
    obtain ⟨fields,hu,hfs,hinf,hsz,_⟩:=(hT _ _ hs).kind
    simp only [Option.some.injEq] at h; subst h
    rw [Yu] at hn
    have hmem:=List.mem_of_getElem? hn
    rw [← hfs,List.getElem?_map] at hn
    obtain ⟨g,hg,hge⟩:=Option.map_eq_some_iff.1 hn
    simp only [Prod.mk.injEq] at hge
    obtain ⟨rfl,rfl,rfl⟩:=hge
    obtain ⟨j,hj⟩:=Option.isSome_iff_exists.1 (List.all_eq_true.1 hinf _ hmem)
    have hs0:P.cellsOf g.type≠0:=fun e=>by
     have:=List.all_eq_true.1 hsz _ hmem
     simp only [e] at this
     cases this
    have hjs:(sizeOf g.type).run P w=.ok j.size w:=by simp [sizeOf,typeInfo,hj]
    have hj0:¬ j.size=0:=by simpa [Program.cellsOf,hj] using hs0
    have hadd:(⟨b,off,none⟩:Addr).add g.offset=⟨b,off+g.offset,none⟩:=by unfold Addr.add; split <;> simp_all
    simp [execOp,hf.eval hx,Instr.fieldAt,Z2 w hu,hg,Instr.sureAddr,fieldPlace,hjs,hj0,hadd]
   ·cases h
  ·cases h
 case field s x f=>
  split at h
  ·rename_i fs _ _ _ cs hs hx
   split at h
   ·rename_i ft fo sz hn
    obtain ⟨fields,hu,hfs,hinf,hsz,_⟩:=(hT _ _ hs).kind
    rw [Yu] at hn
    rw [← hfs,List.getElem?_map] at hn
    obtain ⟨g,hg,hge⟩:=Option.map_eq_some_iff.1 hn
    simp only [Prod.mk.injEq] at hge
    obtain ⟨rfl,rfl,rfl⟩:=hge
    split at h
    ·rename_i hft
     have hp:=Za7 hT hft w cs g.offset (v:=v) (by rw [← (hT _ _ hft).cellsOf]; simpa using h)
     simp [execOp,hf.eval hx,Instr.field,Z2 w hu,hg,asAgg,hp]
    ·cases h
    ·rename_i i hno hso hft
     have hp:=Za7 hT hft w cs g.offset (v:=v) (by
      cases hk:i.kind <;> first
       | exact h
       | (exfalso; obtain ⟨ik,a1,a2,a3⟩:=i; simp only at hk; subst hk; first | exact hno _ _ _ _ rfl | exact hso _ _ _ rfl))
     simp [execOp,hf.eval hx,Instr.field,Z2 w hu,hg,asAgg,hp]
    ·cases h
   ·cases h
  ·cases h
 case makeFunc fn first captured=>
  split at h
  ·rename_i x y hx hy
   simp only [Option.some.injEq] at h; subst h
   simp [execOp,Instr.makeFunc,Wb hf hx,Wb hf hy]
  ·cases h
 case makeInterface t x=>
  split at h
  ·cases h
  ·cases h
  ·rename_i i u hno1 hno2 ht hx
   simp only [Option.some.injEq] at h; subst h
   have hk:=(hT _ _ ht).kind
   cases hkk:i.kind with
   | iface=>exfalso; obtain ⟨ik,a1,a2,a3⟩:=i; simp only at hkk; subst hkk; exact hno1 _ _ _ rfl
   | other=>exfalso; obtain ⟨ik,a1,a2,a3⟩:=i; simp only at hkk; subst hkk; exact hno2 _ _ _ rfl
   | int k=>rw [hkk] at hk; simp only [TK.ok] at hk; simp [execOp,Instr.makeInterface,Z2 w hk,hf.eval hx]
   | bool=>rw [hkk] at hk; simp only [TK.ok] at hk; simp [execOp,Instr.makeInterface,Z2 w hk,hf.eval hx]
   | str=>rw [hkk] at hk; simp only [TK.ok] at hk; simp [execOp,Instr.makeInterface,Z2 w hk,hf.eval hx]
   | slice e=>rw [hkk] at hk; simp only [TK.ok] at hk; simp [execOp,Instr.makeInterface,Z2 w hk,hf.eval hx]
   | ptr e=>rw [hkk] at hk; simp only [TK.ok] at hk; simp [execOp,Instr.makeInterface,Z2 w hk,hf.eval hx]
   | map k e=>rw [hkk] at hk; simp only [TK.ok] at hk; simp [execOp,Instr.makeInterface,Z2 w hk,hf.eval hx]
   | func=>rw [hkk] at hk; obtain ⟨ps,rs,vv,hk⟩:=hk; simp [execOp,Instr.makeInterface,Z2 w hk,hf.eval hx]
   | struct fs=>rw [hkk] at hk; obtain ⟨fields,hk,_⟩:=hk; simp [execOp,Instr.makeInterface,Z2 w hk,hf.eval hx]
  ·cases h
 case build t parts=>
  split at h
  ·rename_i fs z0 z1 z vs hs hvs
   split at h
   ·rename_i cs hl
    simp only [Option.some.injEq] at h; subst h
    have hok:=hT _ _ hs
    obtain ⟨fields,hu,hfs,hinf,hsz,_⟩:=hok.kind
    have hz:=Wx w hok
    have hmap:parts.map (fun x=>(x.1,a.eval x.2))=((parts.toList.map (·.1)).zip vs).toArray:=by
     apply Array.ext'
     rw [Array.toList_map]
     exact Zbq hf _ _ hvs
    have hinf':∀ f∈fields,∃ i,P.info? f.type=some i:=fun f hm=>Option.isSome_iff_exists.1 (List.all_eq_true.1 hinf (f.type,f.offset,P.cellsOf f.type) (by rw [← hfs]; exact List.mem_map.2 ⟨f,hm,rfl⟩))
    have hm:=Jx w fields hinf'
    have hfill:=Zel (P:=P) fs (fun i=>(fields[i]?).map fun f=>(f.offset,P.cellsOf f.type)) (fun i=>by rw [← hfs]; simp [List.getElem?_map]; try (cases fields[i]? <;> rfl)) _ z.cells cs hl
    simp [execOp,Instr.build,hz,Z2 w hu,hmap,hm,hfill]
   ·cases h
  ·cases h
 case call c=>
  obtain ⟨cal,xs,ts⟩:=c
  cases cal with
  | value f=>cases h
  | invoke r m=>cases h
  | builtin b=>
   simp only at h
   have hresolve:∀ us:List Value,Yv env xs.toList=some us→xs.map a.eval=us.toArray:=fun us hu=>Wb hf hu
   have hts:∀ t l,ts.toList=t :: l→ts[0]?=some t:=fun t l e=>by rw [← Array.getElem?_toList,e]; rfl
   split at h
   ·rename_i t l x n c htl hx
    have hm:=hresolve _ hx
    split at h
    ·rename_i ht
     have hk:=(hT _ _ ht).kind
     simp only [TK.ok] at hk
     simp only [Option.some.injEq] at h; subst h
     simp [execOp,resolve,invoke,builtin,hm,Builtin.len_,hts _ _ htl,Z2 w hk,goInt]
    ·cases h
   ·rename_i t l s htl hx
    have hm:=hresolve _ hx
    split at h
    ·rename_i ht
     have hk:=(hT _ _ ht).kind
     simp only [TK.ok] at hk
     simp only [Option.some.injEq] at h; subst h
     simp [execOp,resolve,invoke,builtin,hm,Builtin.len_,hts _ _ htl,Z2 w hk,goInt]
    ·cases h
   ·rename_i t l x n c htl hx
    have hm:=hresolve _ hx
    split at h
    ·rename_i ht
     have hk:=(hT _ _ ht).kind
     simp only [TK.ok] at hk
     simp only [Option.some.injEq] at h; subst h
     simp [execOp,resolve,invoke,builtin,hm,Builtin.cap_,hts _ _ htl,Z2 w hk,goInt]
    ·cases h
   ·rename_i k x k' y hx
    have hm:=hresolve _ hx
    simp only [Option.some.injEq] at h; subst h
    simp [execOp,resolve,invoke,builtin,hm,Builtin.max_,Builtin.max2]
   ·rename_i k x k' y hx
    have hm:=hresolve _ hx
    simp only [Option.some.injEq] at h; subst h
    simp [execOp,resolve,invoke,builtin,hm,Builtin.min_,Builtin.min2]
   ·rename_i x y hx
    have hm:=hresolve _ hx
    simp only [Option.some.injEq] at h; subst h
    have:=Zbl (P:=P) (op:=.geq) (x:=x) (y:=y) w 0 rfl
    simp only [binOp] at this
    simp only [execOp,resolve,invoke,builtin,hm,Builtin.max_,List.foldlM,Builtin.max2,Sem.run_bind,Sem.run_pure,Result.andThen_ok,this,asBool]
    congr 3
    split <;> rfl
   ·rename_i x y hx
    have hm:=hresolve _ hx
    simp only [Option.some.injEq] at h; subst h
    have:=Zbl (P:=P) (op:=.leq) (x:=x) (y:=y) w 0 rfl
    simp only [binOp] at this
    simp only [execOp,resolve,invoke,builtin,hm,Builtin.min_,List.foldlM,Builtin.min2,Sem.run_bind,Sem.run_pure,Result.andThen_ok,this,asBool]
    congr 3
    split <;> rfl
   ·cases h
end Go.SK
