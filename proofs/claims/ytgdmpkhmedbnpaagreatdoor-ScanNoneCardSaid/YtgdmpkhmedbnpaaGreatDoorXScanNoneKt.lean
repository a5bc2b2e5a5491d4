/- Part of the library of this claim: how code is stepped through. -/
import Derived.Test.YtgdmpkhmedbnpaaGreatDoorXScanNoneKs
import Derived.Laws.BytesArg
import Derived.Lib.ConvBytes
set_option linter.unusedVariables false
set_option linter.unusedSimpArgs false
namespace Go.SK
open Go Go.RowKit

def Zcg (P:Program) (fn:Func) (K:Value→World→Prop):Xd
  | .ret,env,w | .normal,env,w=>∃ v,(∀ n a,Fr n env a→(results fn a.tmps).run P w=.ok v w)∧K v w
  | _,_,_=>False
section
variable {P:Program} {tt:TT} {env:Env} {o:Oper} {w0 w:World} {F0:Ft} {Hs Rs:List Ch}
theorem Zdh {f:Nat} {fn:Func} {c:Code} {xs:Array Operand} {ts:Array TypeId} {fx:Operand} {vs:List Value} {K:Value→World→Prop}
    (ho:o.op=.call { callee:=.value fx,args:=xs,argTypes:=ts }) (hfx:Zq env fx=some (.func (.func f) #[] #[])) (hv:Yv env xs.toList=some vs)
    (hf : P.funcs[f]? = some fn) (hb : fn.body = some c) (hn : (fn.name == "runtime.NumGoroutine") = false) (hs : Nat.ble vs.length fn.ntmps = true)
    (hj:J P fn.ntmps c (Zcg P fn K) (Wz 0 vs) w):OpT P o env w K:=by
  intro n a next Q hfr hk
  have hm:xs.map a.eval=vs.toArray:=Wb hfr hv
  have hrun:(execOp a.eval o).run P w=.ok (.enter f vs.toArray) w:=by
    have:=Ud (P:=P) (f:=f) ⟨fn,hf,hn,by simp [hb]⟩ vs.toArray w
    simp [execOp,ho,resolve,hfr.eval hfx,Deferred.ofValue,invoke,hm,this]
  have hcall:Calls P f vs.toArray w fun e w'=>∃ v,e=.returned v∧K v w':=by
    refine calls_of_wp hf hb ?_
    have hsz:vs.length≤fn.ntmps:=Nat.le_of_ble_eq_true hs
    refine hj.go _ _ ⟨by simp; omega,rfl,fun t v hl=>?_⟩ fun e env a w' hfr hp=>?_
    · obtain ⟨_,hv⟩:=V6 vs 0 t v hl
      simp only [Nat.sub_zero] at hv
      have hlt:t<vs.length:=(List.getElem?_eq_some_iff.1 hv).1
      simpa [Array.getElem?_append,hlt] using hv
    · cases e <;> simp only [Zcg] at hp <;> first
        | exact hp.elim
        | (obtain ⟨v,hres,hK⟩:=hp
           exact ⟨hfr.defers,v,hres _ _ hfr,v,rfl,hK⟩)
  unfold Oper.wp
  rw [hrun]
  refine hcall.mono ?_
  rintro e w' ⟨v,rfl,hK⟩
  exact hk v w' hK
theorem RJ.inline {n:Nat} {ops l:List Oper} {K:Env→World→Prop} {f:Nat} {fn:Func} {c:Code} {xs:Array Operand} {ts:Array TypeId} {fx:Operand} {vs:List Value} (hw:Yq ops env o=some true) (hd:Xw n o.dst=true)
    (ho:o.op=.call { callee:=.value fx,args:=xs,argTypes:=ts }) (hfx:Zq env fx=some (.func (.func f) #[] #[])) (hv:Yv env xs.toList=some vs)
    (hf : P.funcs[f]? = some fn) (hb : fn.body = some c) (hn : (fn.name == "runtime.NumGoroutine") = false) (hs : Nat.ble vs.length fn.ntmps = true)
    (hj:J P fn.ntmps c (Zcg P fn (fun v w'=>RJ P n ops l K (Xu o.dst v env) w')) (Wz 0 vs) w):RJ P n ops (o :: l) K env w:=
  RJ.op hw hd (Zdh ho hfx hv hf hb hn hs hj) fun _ _ h=>h
theorem HJ.inline {n:Nat} {ops:List Oper} {S:World→Prop} {done:List Nat} {K:Env→World→Prop} {i f:Nat} {fn:Func} {c:Code} {xs:Array Operand} {ts:Array TypeId} {fx:Operand} {vs:List Value}
    (hs:Wa ops=true) (hi:nth ops i=some o) (hr:U3 ops done i o=true) (hw:Yq ops env o=some true) (hd:Xw n o.dst=true)
    (ho:o.op=.call { callee:=.value fx,args:=xs,argTypes:=ts }) (hfx:Zq env fx=some (.func (.func f) #[] #[])) (hv:Yv env xs.toList=some vs)
    (hf : P.funcs[f]? = some fn) (hb : fn.body = some c) (hn : (fn.name == "runtime.NumGoroutine") = false) (hsz : Nat.ble vs.length fn.ntmps = true)
    (hj:J P fn.ntmps c (Zcg P fn (fun v w'=>S w'∧HJ P n ops S K (i :: done) (Xu o.dst v env) w')) (Wz 0 vs) w):HJ P n ops S K done env w:=
  HJ.op hs hi hr hw hd (Zdh ho hfx hv hf hb hn hsz hj) fun _ _ h=>h
theorem St.retell {Hs':List Ch} (h:St w0 F0 Hs Rs w) (e:Hs'=Hs):St w0 F0 Hs' Rs w:=e ▸ h

def patch {α:Type} (xs:List α) (l m:Nat) (ys:List α):List α:=xs.take l ++ ys.take m ++ xs.drop (l+min m ys.length)
theorem Xx {α:Type} {xs ys:List α} {l m:Nat} (h:l+m≤xs.length):(patch xs l m ys).length=xs.length:=by
  simp only [patch,List.length_append,List.length_take,List.length_drop]
  omega
theorem Za3 (hT:Yk P tt) {d s e l m c c2 n2 c3:Nat} {sz:Nat} {xa ya:Operand} {z1 z2:Nat} {z:Value} {ie:TI} {ty:Ty} (hsc:ty.scal=true) {xs ys:List ty.D} {A B:Option Addr} (k:Nat)
    (ho:o.op=.call { callee:=.builtin .copy,args:=#[xa,ya],argTypes:=#[d,s] }) (hS:St w0 F0 Hs Rs w) (hk:nth Hs k=some (Yg e ty xs (.slice A xs.length c))) (hg:Gives (Hs.eraseIdx k ++ Rs) (rdC e ty ys (.slice B n2 c3)))
    (hx:Zq env xa=some (.slice (Wf A c l sz) m c2)) (hy:Zq env ya=some (.slice B n2 c3)) (ht:find tt d=some ⟨.slice e,z1,z2,z⟩) (hi:find tt e=some ie) (hn:ty.n=sz) (hsz:ie.size=sz) (hle:l+m≤xs.length) :
    OpT P o env w (fun v w'=>v=.int .i64 ((min m ys.length:Nat):Int)∧St w0 F0 (Yg e ty (patch xs l m ys) (.slice A (patch xs l m ys).length c) :: Hs.eraseIdx k) Rs w'):=by
  have hpl:=Xx (ys:=ys) hle
  have hpk:pick [k] Hs=some ([Yg e ty xs (.slice A xs.length c)],Hs.eraseIdx k):=by simp [pick,hk]
  obtain ⟨F,hF,hlt,hgv,hst⟩:=hS.step hpk
  obtain ⟨R,hR,hRb⟩:=hgv _ hg
  obtain ⟨rfl,hl,hRB⟩:=Gg hsc hR
  have hkk:=(hT _ _ ht).kind
  simp only [TK.ok] at hkk
  obtain ⟨i0,hi0,hs0,hb0,hz0⟩:=(hT _ _ hi).info'
  have hly:(ys.flatMap ty.enc).length=ys.length*ty.n:=Yw hsc ys
  have hfc:(Builtin.firstCells ie.size (min ys.length m) (.slice B ys.length c3)).run P w=.ok ((ys.take m).flatMap ty.enc).toArray w:=by
    refine J1 (cs:=(ys.take m).flatMap ty.enc) ?_ ?_
    · have:=hl.take (m*ty.n)
      rwa [Vx hsc] at this
    · rw [Yw hsc,List.length_take,hsz,hn,Nat.min_comm]
  have hmin:(min m ys.length)=min ys.length m:=Nat.min_comm _ _
  by_cases h0:m=0∨ys=[]
  · -- nothing is copied
    have hpe:patch xs l m ys=xs:=by
      rcases h0 with rfl | rfl <;> simp [patch]
    have he:ys.take m=[]:=by rcases h0 with rfl | rfl <;> simp
    refine OpT.value fun n a hf=>⟨.int .i64 ((min m ys.length:Nat):Int),w,?_,rfl,?_⟩
    · rw [he] at hfc
      have hst0:∀ ad:Addr,(storeCells ad ([]:List Value)).run P w=.ok () w:=fun ad=>by simp [storeCells]
      cases hq:Wf A c l sz with
      | none=>simp [execOp,ho,resolve,invoke,builtin,hf.eval hx,hf.eval hy,hq,Builtin.copy_,Z2 w hkk,Builtin.lenOf,sizeOf,typeInfo,hi0,hs0,hfc,goInt,hmin]
      | some ad=>simp [execOp,ho,resolve,invoke,builtin,hf.eval hx,hf.eval hy,hq,Builtin.copy_,Z2 w hkk,Builtin.lenOf,sizeOf,typeInfo,hi0,hs0,hfc,goInt,hst0,hmin]
    · rw [hpe]
      obtain ⟨_,_,_,hs'⟩:=hS.turn hk
      have:=hS.only (ks:=[]) (ps:=[]) (rest:=Hs) rfl
      obtain ⟨F1,h1,h2,h3⟩:=hS.turn hk
      exact h3 w _ F1 (Chg.refl _ _) h1 fun b hb=>⟨.inl hb,h2 b hb⟩
  · have hm0:m≠0:=fun e=>h0 (.inl e)
    rcases hS.openRow hsc k hk with ⟨_,e,_⟩ | ⟨b,sp,rfl,hc,hcm,hsp,h1⟩
    · subst e; simp at hle; omega
    · have hcl:¬ c=l:=by omega
      have hxa:Zq env xa=some (.slice (some ⟨b,l*sz,none⟩) m c2):=by
        rw [hx]
        simp [Wf,hcl,Xg]
      have lX:=Yw hsc xs
      have lYm:((ys.take m).flatMap ty.enc).length=min ys.length m*sz:=by rw [Yw hsc,List.length_take,hn,Nat.min_comm]
      have hmul:(l+m)*sz≤xs.length*sz:=Nat.mul_le_mul_right _ hle
      have hmm:min ys.length m*sz≤m*sz:=Nat.mul_le_mul_right _ (Nat.min_le_right _ _)
      rw [Nat.add_mul] at hmul
      rw [hn] at lX hly
      have hop:=V4 (env:=env) (o:=o) hT (cs:=(ys.take m).flatMap ty.enc) 0 ho h1 rfl hxa hy ht hi (by rw [lYm,hsz]) (by rw [List.length_append,lX,lYm]; omega) (by have:=hl.take (m*ty.n); rwa [Vx hsc] at this) (Vv hsc _)
      intro n a next Q hf hk'
      have hval:∀ w',(∃ v,(execOp a.eval o).run P w=.ok (.value v) w')→True:=fun _ _=>trivial
      refine (OpT.value (K:=fun v w'=>v=.int .i64 ((min m ys.length:Nat):Int)∧St w0 F0 (Yr b e (Zy (l*sz) ((ys.take m).flatMap ty.enc) (xs.flatMap ty.enc ++ sp)) :: Hs.eraseIdx k) Rs w') fun n a hf=>?_) n a next Q hf fun v w' ⟨hv,h2⟩=>hk' v w' ⟨hv,?_⟩
      · obtain ⟨F2,⟨hFb,hh⟩,hlt2,hs2⟩:=h1.turn (k:=0) rfl
        have hst':=run_storeCells_at P b (l*sz) e ((ys.take m).flatMap ty.enc) 0 (xs.flatMap ty.enc ++ sp).toArray w hh (by rw [lYm]; simp only [List.size_toArray,List.length_append,lX]; omega) (Vv hsc _)
        have hlist:(xs.flatMap ty.enc ++ sp).toArray.toList.take (l*sz+0) ++ ((ys.take m).flatMap ty.enc) ++ (xs.flatMap ty.enc ++ sp).toArray.toList.drop (l*sz+0+((ys.take m).flatMap ty.enc).length)=Zy (l*sz) ((ys.take m).flatMap ty.enc) (xs.flatMap ty.enc ++ sp):=by simp [Zy]
        rw [hlist] at hst'
        refine ⟨.int .i64 ((min m ys.length:Nat):Int),w.setRow b (Zy (l*sz) ((ys.take m).flatMap ty.enc) (xs.flatMap ty.enc ++ sp)).toArray,?_,rfl,?_⟩
        · simp [execOp,ho,resolve,invoke,builtin,hf.eval hxa,hf.eval hy,Builtin.copy_,Z2 w hkk,Builtin.lenOf,sizeOf,typeInfo,hi0,hs0,hfc,hst',goInt,hmin]
        · exact hs2 _ (Yr b e (Zy (l*sz) ((ys.take m).flatMap ty.enc) (xs.flatMap ty.enc ++ sp))) F2 (X9 w b _ hFb) ⟨hFb,setRow_heap w b _ _ _ _ hh⟩ (fun c hc=>⟨.inl hc,by simpa using hlt2 c hc⟩)
      · have eP:(patch xs l m ys).flatMap ty.enc=(xs.flatMap ty.enc).take (l*sz) ++ (ys.take m).flatMap ty.enc ++ (xs.flatMap ty.enc).drop ((l+min m ys.length)*sz):=by
          unfold patch
          rw [List.flatMap_append,List.flatMap_append,← hn,Vx hsc,Jv hsc]
        have lT:((xs.flatMap ty.enc).take (l*sz)).length=l*sz:=by rw [List.length_take]; omega
        have e1:Zy (l*sz) ((ys.take m).flatMap ty.enc) (xs.flatMap ty.enc ++ sp)=(patch xs l m ys).flatMap ty.enc ++ sp:=by
          rw [eP,Zy,List.take_append_of_le_length (by omega),List.drop_append_of_le_length (by rw [lYm,lX]; omega),lYm,hmin,Nat.add_mul]
          simp only [List.append_assoc]
        rw [e1] at h2
        have lP:((patch xs l m ys).flatMap ty.enc).length=xs.length*sz:=by rw [Yw hsc,hpl,hn]
        exact h2.closeRow hsc 0 rfl (by rw [hpl]; exact hc) hcm (by rw [List.length_append,lP,hsp,hn,Nat.sub_mul]; have:=Nat.mul_le_mul_right sz hc; omega) (by rw [hpl,hn,← lP,List.take_left])

def toS (xs:List Int):List UInt8:=xs.map fun n=>UInt8.ofNat n.toNat
def toB (s:List UInt8):List Int:=s.map fun b=>(b.toNat:Int)
theorem Zf8:∀ xs:List Int,xs.flatMap (Ty.enc (.int .u8))=xs.map (Value.int .u8)
  | []=>rfl
  | y :: ys=>by rw [List.flatMap_cons,Zf8 ys]; rfl
theorem Zkz (hT:Yk P tt) {s d e:Nat} {x:Operand} {z1 z2 z3 z4 z5 z6:Nat} {z z' z'':Value} {xs:List Int} {A:Option Addr} {n c:Nat} {S:World→Prop} (hS:∀ w,S w→Wh w0 F0 Hs Rs w) (hg:Gives (Hs ++ Rs) (rdC e (.int .u8) xs (.slice A n c)))
    (ho:o.op=.convert s d x) (hs:find tt s=some ⟨.slice e,z1,z2,z⟩) (he:find tt e=some ⟨.int .u8,z5,z6,z''⟩) (hd:find tt d=some ⟨.str,z3,z4,z'⟩) (hx:Zq env x=some (.slice A n c)):QOp P o env S (.string ⟨⟨toS xs⟩⟩):=by
  intro n' a w hf hw
  have k1:=(hT _ _ hs).kind
  have k2:=(hT _ _ he).kind
  have k3:=(hT _ _ hd).kind
  simp only [TK.ok] at k1 k2 k3
  obtain ⟨F,hR,_⟩:=(hS w hw).gives hg
  obtain ⟨rfl,hl,_⟩:=Gg (ty:=.int .u8) rfl hR
  have main:(convert s d (.slice A xs.length c)).run P w=.ok (.string ⟨⟨toS xs⟩⟩) w:=by
    cases A with
    | none=>
      rcases hl with hl | ⟨b,off,e',_⟩
      · have hx0:xs=[]:=by
          cases xs with
          | nil=>rfl
          | cons y ys=>simp [Ty.enc] at hl
        subst hx0
        exact run_convert_bytes_nil (P:=P) w s e k1 k2 0 c d k3
      · cases e'
    | some ad=>
      rcases hl with hl | ⟨b,off,e',hc⟩
      · have hx0:xs=[]:=by
          cases xs with
          | nil=>rfl
          | cons y ys=>simp [Ty.enc] at hl
        subst hx0
        obtain ⟨b,off,sp⟩:=ad
        rw [run_convert_bytes_string (P:=P) w s d e _ _ _ k1 k2 k3]
        simp only [Conv.bytesToString,loadCells,List.length_nil]
        simp [loadCellsFrom]
        rfl
      · simp only [Option.some.injEq] at e'
        subst e'
        have hcell:∀ i,i<xs.length→w.cell? ⟨b,off+i,none⟩=some (.int .u8 (xs.getD i 0)):=fun i hi=>by
          refine hc i _ ?_
          have:=Zf8 xs
          rw [this]
          simp [hi]
        have:=run_convert_bytes_arg (P:=P) w s e k1 k2 b off xs.length c xs rfl hcell d k3
        rw [this]
        rfl
  simp [execOp,ho,hf.eval hx,main]
end

def OptC {α:Type} (o:Option α) (K:α→Value→List Ch→Prop) (v:Value) (l:List Ch):Prop:=match o with | none=>v=.pointer none∧l=[] | some d=>K d v l
@[reducible] def Vb {α β:Type} (o:Option α) (x:β) (f:α→β):β:=match o with | none=>x | some d=>f d
theorem Vz {α β:Type} {o:Option α} {x:β} {f:α→β} {r:β} (h:o=none) (H:Vb o x f=r):x=r:=by subst h; exact H
theorem Vw {α β:Type} {o:Option α} {d:α} {x:β} {f:α→β} {r:β} (h:o=some d) (H:Vb o x f=r):f d=r:=by subst h; exact H
end Go.SK
namespace Go.SK
open Go Go.RowKit
theorem OptC.no {α:Type} {K:α→Value→List Ch→Prop}:OptC none K (.pointer none) []:=⟨rfl,rfl⟩
theorem OptC.yes {α:Type} {d:α} {K:α→Value→List Ch→Prop} {v:Value} {l:List Ch} (h:K d v l):OptC (some d) K v l:=h
theorem Zes {P:Program} {tt:TT} {env:Env} {o:Oper} {w0 w:World} {F0:Ft} {Hs Rs:List Ch} (hT:Yk P tt) {d s e m c c2 n2 c3:Nat} {sz:Nat} {xa ya:Operand} {z1 z2:Nat} {z:Value} {ie:TI} {ty:Ty} (hsc:ty.scal=true) {xs ys:List ty.D} {A B:Option Addr} (k:Nat)
    (ho:o.op=.call { callee:=.builtin .copy,args:=#[xa,ya],argTypes:=#[d,s] }) (hS:St w0 F0 Hs Rs w) (hk:nth Hs k=some (Yg e ty xs (.slice A xs.length c))) (hg:Gives (Hs.eraseIdx k ++ Rs) (rdC e ty ys (.slice B n2 c3)))
    (hx:Zq env xa=some (.slice A m c2)) (hy:Zq env ya=some (.slice B n2 c3)) (ht:find tt d=some ⟨.slice e,z1,z2,z⟩) (hi:find tt e=some ie) (hn:ty.n=sz) (hsz:ie.size=sz) (hle:0+m≤xs.length) :
    OpT P o env w (fun v w'=>v=.int .i64 ((min m ys.length:Nat):Int)∧St w0 F0 (Yg e ty (patch xs 0 m ys) (.slice A (patch xs 0 m ys).length c) :: Hs.eraseIdx k) Rs w'):=
  Za3 hT (l:=0) hsc k ho hS hk hg (by rw [Bn]; exact hx) hy ht hi hn hsz hle
end Go.SK
