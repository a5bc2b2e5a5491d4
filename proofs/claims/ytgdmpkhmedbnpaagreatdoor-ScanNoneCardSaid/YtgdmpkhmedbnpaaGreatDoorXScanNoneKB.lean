/- Part of the library of this claim: how code is stepped through. -/
import Derived.Test.YtgdmpkhmedbnpaaGreatDoorXScanNoneKA
set_option linter.unusedVariables false
set_option linter.unusedSimpArgs false
set_option linter.unusedSectionVars false
namespace Go.SK
open Go Go.RowKit

section
theorem Zi {P : Program} {f : Nat} {fn : Func} {c : Code} {args : List Value} {pre : List Ch} {rd : List Ch} {Post : Value → List Ch → Prop} (hf : P.funcs[f]? = some fn) (h : ∀ w0 F0, St w0 F0 pre rd w0 → J P fn.ntmps c (Zcv P fn w0 F0 Post) (Wz 0 args) w0) (hb : fn.body = some c := by exact rfl) (hn : (fn.name == "runtime.NumGoroutine") = false := by kernel_rfl) (hs : Nat.ble args.length fn.ntmps = true := by kernel_rfl) :
  Spec P f args pre rd Post:=
 Spec.enter hf hb hn hs h
end
section
variable {P:Program} {n:Nat} {env:Env} {w:World} {ops:List Oper} {K:Env→World→Prop} {o:Oper} {l:List Oper}
theorem Zs {K':Value→World→Prop} (ho:OpT P o env w K') (h:∀ v w',K' v w'→RJ P n ops l K (Xu o.dst v env) w') (hw:Yq ops env o=some true:=by exact rfl) (hd:Xw n o.dst=true:=by exact rfl) :
  RJ P n ops (o :: l) K env w:=
 RJ.op hw hd ho h
end
section
variable {P:Program} {n:Nat} {env:Env} {w:World} {ops:List Oper} {K:Env→World→Prop} {o:Oper} {l:List Oper}
theorem Zc {v:Value} (ho:QOp P o env (·=w) v) (h:RJ P n ops l K (Xu o.dst v env) w) (hw:Yq ops env o=some true:=by exact rfl) (hd:Xw n o.dst=true:=by exact rfl) :
  RJ P n ops (o :: l) K env w:=
 RJ.q hw hd ho h
end
section
variable {P:Program} {tt:TT} {env:Env} {S:World→Prop} {o:Oper} {w0:World} {F0:Ft} {Hs Rs:List Ch}
theorem Za {t:Nat} {x:Operand} {i:TI} {b:Nat} {off:Nat} {tb:Nat} {cs:List Value} {v:Value} [q_:TTI P tt] (k:Nat) (hS:∀ w,S w→Wh w0 F0 Hs Rs w) (hk:nth Hs k=some (Yr b tb cs):=by exact rfl) (ho:o.op=.load t x:=by exact rfl) (hi:find tt t=some i:=by exact rfl) (ha:Zq env x=some (.pointer (some ⟨b,off,none⟩)):=by exact rfl) (hp:Wu i ((cs.drop off).take i.size)=some v:=by exact rfl) :
  QOp P o env S v:=
 Zb6 q_.ok k hS hk ho hi ha hp
end
section
theorem Zl {P:Program} {fn:Func} {env:Env} {w:World} {vs:List Value} (h:Uo env fn.results.toList=some vs:=by exact rfl) :
  ∀ n a,Fr n env a→(results fn a.tmps).run P w=.ok (Ul vs) w:=
 Xn h
end
section
variable {w0 w:World} {F0:Ft} {Hs Rs:List Ch}
end
section
theorem Zn {P:Program} {n:Nat} {PQ:Xd} {env:Env} {w:World} {c:Operand} {x:Code} {y:Code} (h:J P n x PQ env w) (hc:Zq env c=some (.bool true):=by exact rfl) :
  J P n (.cond c x y) PQ env w:=
 J.condT hc h
end
section
variable {P:Program} {tt:TT} {n:Nat} {env:Env} {w w0:World} {F0:Ft} {Hs Rs:List Ch} {ops:List Oper} {K:Env→World→Prop} {o:Oper} {l:List Oper} {PQ:Xd} {S:World→Prop} {done:List Nat}
theorem Zb [i:TTI P tt] {id:Nat} {E:Env} (ts:List Nat) (hk:PQ .normal E w) (h:Zab tt n ops ts ops env=some E:=by exact rfl) :
  J P n (.region id ops.toArray false) PQ env w:=
 Zn1 ts h hk
end
section
variable {P:Program} {tt:TT} {env:Env} {o:Oper} {w0 w:World} {F0:Ft} {Hs Rs:List Ch}
theorem We {f:Nat} {xs:Array Operand} {ts:Array TypeId} {fx:Operand} {vs:List Value} {pre:List Ch} {rd:List Ch} {rest:List Ch} {Post:Value→List Ch→Prop} (ks:List Nat) (hsp:Spec P f vs pre rd Post) (hS:St w0 F0 Hs Rs w) (hp:pick ks Hs=some (pre,rest)) (hr:∀ c∈rd,Gives (rest ++ Rs) c) (ho:o.op=.call { callee:=.value fx,args:=xs,argTypes:=ts }:=by exact rfl) (hfx:Zq env fx=some (.func (.func f) #[] #[]):=by exact rfl) (hv:Yv env xs.toList=some vs:=by exact rfl) :
  OpT P o env w (fun v w'=>∃ post,Post v post∧St w0 F0 (post ++ rest) Rs w'):=
 Gi ks hsp ho hfx hv hS hp hr
end
section
variable {P:Program} {tt:TT} {env:Env} {o:Oper} {w0 w:World} {F0:Ft} {Hs Rs:List Ch}
theorem Ye {n : Nat} {ops : List Oper} {l : List Oper} {K : Env → World → Prop} {f : Nat} {fn : Func} {c : Code} {xs : Array Operand} {ts : Array TypeId} {fx : Operand} {vs : List Value} (hf : P.funcs[f]? = some fn) (hj : J P fn.ntmps c (Zcg P fn (fun v w' => RJ P n ops l K (Xu o.dst v env) w')) (Wz 0 vs) w) (hw : Yq ops env o = some true := by exact rfl) (hd : Xw n o.dst = true := by exact rfl) (ho : o.op = .call { callee := .value fx, args := xs, argTypes := ts } := by exact rfl) (hfx : Zq env fx = some (.func (.func f) #[] #[]) := by exact rfl) (hv : Yv env xs.toList = some vs := by exact rfl) (hb : fn.body = some c := by exact rfl) (hn : (fn.name == "runtime.NumGoroutine") = false := by kernel_rfl) (hs : Nat.ble vs.length fn.ntmps = true := by kernel_rfl) :
  RJ P n ops (o :: l) K env w:=
 RJ.inline hw hd ho hfx hv hf hb hn hs hj
end
section
theorem Zz {P:Program} {n:Nat} {ops:List Oper} {id:Nat} {PQ:Xd} {env:Env} {w0:World} {w:World} {F0:Ft} {Hs:List Ch} {Rs:List Ch} {tt_:TT} [q_:TTI P tt_] (h0:St w0 F0 Hs Rs w) (h:HJ P n ops (Wh w0 F0 Hs Rs) (PQ .normal) [] env { w with drawn:=w.drawn+1 }) :
  J P n (.region id ops.toArray true) PQ env w:=
 J.heldSt q_.mix h0 h
end
section
variable {P:Program} {n:Nat} {env:Env} {w:World} {ops:List Oper} {K:Env→World→Prop} {S:World→Prop} {o:Oper} {done:List Nat}
theorem Zf {v:Value} (i:Nat) {t:Nat} (hi:nth ops i=some o) (ho:QOp P o env S v) (h:HJ P n ops S K (i :: done) ((t,v) :: env) w) (hs:Wa ops=true:=by exact rfl) (ht:Jp ops done i o=true:=by exact rfl) (hw:Yq ops env o=some true:=by exact rfl) (hd:o.dst=some t:=by exact rfl) (hn:Nat.ble (t+1) n=true:=by exact rfl) :
  HJ P n ops S K done env w:=
 HJ.q hs hi ht hw hd hn ho h (i:=i)
end
section
variable {P:Program} {tt:TT} {env:Env} {S:World→Prop} {o:Oper} {w0:World} {F0:Ft} {Hs Rs:List Ch}
theorem Xs {t:Nat} {x:Operand} {ix:Operand} {l:List UInt8} {i:Int} {ki:IntKind} {z1:Nat} {z2:Nat} {z:Value} [q_:TTI P tt] (h0:0≤i) (h1:i<l.length) (ho:o.op=.index t x ix:=by exact rfl) (ht:find tt t=some ⟨.str,z1,z2,z⟩:=by exact rfl) (hv:Zq env x=some (.string ⟨⟨l⟩⟩):=by exact rfl) (hx:Zq env ix=some (.int ki i):=by exact rfl) :
  QOp P o env S (.int .u8 (gtb l i)):=
 Zmo q_.ok ho ht hv hx h0 h1
end
section
theorem Z6 {P:Program} {n:Nat} {PQ:Xd} {env:Env} {w:World} {c:Operand} {x:Code} {y:Code} (h:J P n y PQ env w) (hc:Zq env c=some (.bool false):=by exact rfl) :
  J P n (.cond c x y) PQ env w:=
 J.condF hc h
end
section
variable {P:Program} {n:Nat} {env:Env} {w:World} {ops:List Oper} {K:Env→World→Prop} {S:World→Prop} {o:Oper} {done:List Nat}
theorem Zx {K':Value→World→Prop} (i:Nat) (hi:nth ops i=some o) (ho:OpT P o env w K') (h:∀ v w',K' v w'→S w'∧HJ P n ops S K (i :: done) (Xu o.dst v env) w') (hs:Wa ops=true:=by exact rfl) (hr:U3 ops done i o=true:=by exact rfl) (hw:Yq ops env o=some true:=by exact rfl) (hd:Xw n o.dst=true:=by exact rfl) :
  HJ P n ops S K done env w:=
 HJ.op hs hi hr hw hd ho h (i:=i)
end
section
variable {P:Program} {n:Nat} {env:Env} {w:World} {ops:List Oper} {K:Env→World→Prop} {S:World→Prop} {o:Oper} {done:List Nat}
theorem Yf {K':Value→World→Prop} (i:Nat) (hi:nth ops i=some o) (ho:OpT P o env w K') (h:∀ v w',K' v w'→S w'∧HJ P n ops S K (i :: done) (Xu o.dst v env) w') (hw:Yq ops env o=some true:=by exact rfl) (hd:Xw n o.dst=true:=by exact rfl) :
  HS P n ops S K done env w i:=
 HS.op hi hw hd ho h (i:=i)
end
section
variable {P:Program} {env:Env} {S:World→Prop} {o:Oper}
theorem G8 {xa:Operand} {ya:Operand} {za:Operand} {ts:Array TypeId} {k:IntKind} {x:Int} {y:Int} {z:Int} (ho:o.op=.call { callee:=.builtin .max,args:=#[xa,ya,za],argTypes:=ts }:=by exact rfl) (hx:Zq env xa=some (.int k x):=by exact rfl) (hy:Zq env ya=some (.int k y):=by exact rfl) (hz:Zq env za=some (.int k z):=by exact rfl) :
  QOp P o env S (.int k (if z>(if y>x then y else x) then z else (if y>x then y else x))):=
 Zl6 ho hx hy hz
end
section
variable {P:Program} {tt:TT} {o:Oper} {env:Env}
theorem Ziv {t:Nat} {yt:Nat} {k:IntKind} {x:Operand} {y:Operand} {a:Int} {b:Int} {S:World→Prop} (hb:0<b) (ho:o.op=.binOp .quo t x y yt:=by exact rfl) (hx:Zq env x=some (.int k a):=by exact rfl) (hy:Zq env y=some (.int k b):=by exact rfl) :
  QOp P o env S (.int k (k.wrap (a.tdiv b))):=
 Znh ho hx hy hb
end
section
variable {P:Program} {tt:TT} {env:Env} {S:World→Prop} {o:Oper} {w0:World} {F0:Ft} {Hs Rs:List Ch}
theorem Zg {t:Nat} {e:Nat} {x:Operand} {ix:Operand} {A:Option Addr} {n:Nat} {c:Nat} {i:Int} {ki:IntKind} {z1:Nat} {z2:Nat} {z:Value} {ie:TI} [q_:TTI P tt] (hA:A=some ⟨blk A,ofs A,none⟩) (h0:0≤i) (h1:i<n) (ho:o.op=.indexAddr t x ix:=by exact rfl) (ht:find tt t=some ⟨.slice e,z1,z2,z⟩:=by exact rfl) (he:find tt e=some ie:=by exact rfl) (hv:Zq env x=some (.slice A n c):=by exact rfl) (hx:Zq env ix=some (.int ki i):=by exact rfl) :
  QOp P o env S (.pointer (some ⟨blk A,ofs A+i.toNat*ie.size,none⟩)):=
 Zgb q_.ok ho ht he hv hx hA h0 h1
end
section
variable {P:Program} {tt:TT} {env:Env} {o:Oper} {w0 w:World} {F0:Ft} {Hs Rs:List Ch}
theorem Zm {t:Nat} {e:Nat} (f:Nat) {sz:Nat} {c:Nat} {x:Operand} {y:Operand} {i:TI} (ty:Ty) [Inhabited ty.D] {xs:List ty.D} {A:Option Addr} (ix:Int) {v:Value} [q_:TTI P tt] (new:ty.D) (k:Nat) (hS:St w0 F0 Hs Rs w) (hk:nth Hs k=some (Yg e ty xs (.slice A xs.length c))) (h0:0≤ix) (h1:ix<xs.length) (hsc:ty.scal=true:=by exact rfl) (ho:o.op=.store t x y:=by exact rfl) (hi:find tt t=some i:=by exact rfl) (ha:Zq env x=some (.pointer (some ⟨blk A,ofs A+ix.toNat*sz+f,none⟩)):=by exact rfl) (hv:Zq env y=some v:=by exact rfl) (hn:ty.n=sz:=by exact rfl) (hsz:Nat.beq v.cells.toList.length i.size=true:=by exact rfl) (hle:Nat.ble (f+i.size) sz=true:=by exact rfl) (hc1:v.cells.toList.all (fun u=>u.oneCell')=true:=by exact rfl) (hnew:Zy f v.cells.toList (ty.enc (gt xs ix))=ty.enc new:=by exact rfl) :
  OpT P o env w (fun _ w'=>St w0 F0 (Yg e ty (xs.set ix.toNat new) (.slice A (xs.set ix.toNat new).length c) :: Hs.eraseIdx k) Rs w'):=
 Zd0 q_.ok hsc new k ho hS hk hi h0 h1 ha hv hn hsz hle hc1 hnew (f:=f) (ty:=ty) (ix:=ix)
end
section
variable {P:Program} {tt:TT} {env:Env} {S:World→Prop} {o:Oper} {w0:World} {F0:Ft} {Hs Rs:List Ch}
theorem Zh {E:Nat} {t:Ty} [Inhabited t.D] {xs:List t.D} {A:Option Addr} {m:Nat} {c:Nat} {ty:Nat} {x:Operand} {i:TI} {ix:Int} (f:Nat) {sz:Nat} {v:Value} [q_:TTI P tt] (hS:∀ w,S w→Wh w0 F0 Hs Rs w) (hg:Gives (Hs ++ Rs) (rdC E t xs (.slice A m c))) (h0:0≤ix) (h1:ix<xs.length) (hfl:t.flat=true:=by exact rfl) (ho:o.op=.load ty x:=by exact rfl) (hsz:t.n=sz:=by exact rfl) (hi:find tt ty=some i:=by exact rfl) (ha:Zq env x=some (.pointer (some ⟨blk A,ofs A+ix.toNat*sz+f,none⟩)):=by exact rfl) (hp:Wu i (((t.enc (gt xs ix)).drop f).take i.size)=some v:=by exact rfl) :
  QOp P o env S v:=
 Zay q_.ok hfl hS hg h0 h1 ho hsz hi ha hp (f:=f)
end
section
variable {P:Program} {tt:TT} {o:Oper} {env:Env}
theorem Zc3 {t:Nat} {yt:Nat} {k:IntKind} {k':IntKind} {x:Operand} {y:Operand} {a:Int} {b:Int} {S:World→Prop} (hb:0≤b) (ho:o.op=.binOp .shr t x y yt:=by exact rfl) (hx:Zq env x=some (.int k a):=by exact rfl) (hy:Zq env y=some (.int k' b):=by exact rfl) :
  QOp P o env S (.int k (a.fdiv (2 ^ (min b.toNat k.bits)))):=
 Zne ho hx hy hb
end
section
variable {P:Program} {tt:TT} {o:Oper} {env:Env}
theorem Jz {t:Nat} {yt:Nat} {k:IntKind} {k':IntKind} {x:Operand} {y:Operand} {a:Int} {b:Int} {S:World→Prop} (hb:0≤b) (ho:o.op=.binOp .shl t x y yt:=by exact rfl) (hx:Zq env x=some (.int k a):=by exact rfl) (hy:Zq env y=some (.int k' b):=by exact rfl) :
  QOp P o env S (.int k (k.wrap (a*2 ^ (min b.toNat k.bits)))):=
 Zhg ho hx hy hb
end
section
variable {P:Program} {tt:TT} {env:Env} {o:Oper} {w0 w:World} {F0:Ft} {Hs Rs:List Ch}
theorem Z1 {T:Nat} {e:Nat} {m:Nat} {z1:Nat} {z2:Nat} {z:Value} {ie:TI} {ps:Array (Nat×Operand)} {vs:List Value} [q_:TTI P tt] (ty:Ty) (xs:List ty.D) (hS:St w0 F0 Hs Rs w) (hsc:ty.scal=true:=by exact rfl) (ho:o.op=.buildSlice T m ps:=by exact rfl) (ht:find tt T=some ⟨.slice e,z1,z2,z⟩:=by exact rfl) (hi:find tt e=some ie:=by exact rfl) (hpos:0<ie.size:=by decide) (hv:Yv env (ps.toList.map (·.2))=some vs:=by exact rfl) (hm:vs.length=m:=by exact rfl) (hx:xs.length=m:=by exact rfl) (hm2:Nat.ble (m*ie.size) 16777216=true:=by exact rfl) (hix:ps.toList.map (·.1)=List.range' 0 vs.length:=by exact rfl) (hsz:vs.all (fun v=>Nat.beq v.cells.toList.length ie.size)=true:=by exact rfl) (hin:vs.flatMap (fun v=>v.cells.toList)=xs.flatMap ty.enc:=by exact rfl) :
  OpT P o env w (fun v w'=>∃ b,v=.slice (some ⟨b,0,none⟩) xs.length m∧St w0 F0 (Yg e ty xs (.slice (some ⟨b,0,none⟩) xs.length m) :: Hs) Rs w'):=
 Zma q_.ok ty hsc xs ho hS ht hi hpos hv hm hx hm2 hix hsz hin
end
section
theorem Zj {l:List Ch} {c:Ch} (k:Nat) (h:nth l k=some c:=by exact rfl) :
  Gives l c:=
 Gives.self k h
end
section
variable {P:Program} {tt:TT} {env:Env} {S:World→Prop} {o:Oper} {w0 w:World} {F0:Ft} {Hs Rs:List Ch}
theorem Zr {t:Nat} {e:Nat} {xa:Operand} {ya:Operand} {z1:Nat} {z2:Nat} {z:Value} {ie:TI} {ty:Ty} {xs:List ty.D} {ys:List ty.D} {v:Value} {A:Option Addr} {m:Nat} {c:Nat} [q_:TTI P tt] (k:Nat) (hS:St w0 F0 Hs Rs w) (hg:Gives (Hs.eraseIdx k ++ Rs) (rdC e ty ys (.slice A m c))) (hl:(xs.length+ys.length)*ie.bytes≤140737488355328) (hsc:ty.scal=true:=by exact rfl) (ho:o.op=.call { callee:=.builtin .append,args:=#[xa,ya],argTypes:=#[t,t] }:=by exact rfl) (hk:nth Hs k=some (Yg e ty xs v):=by exact rfl) (hx:Zq env xa=some v:=by exact rfl) (hy:Zq env ya=some (.slice A m c):=by exact rfl) (ht:find tt t=some ⟨.slice e,z1,z2,z⟩:=by exact rfl) (hi:find tt e=some ie:=by exact rfl) (hn:ty.n=ie.size:=by exact rfl) (hz:Nat.beq ie.zero.cells.toList.length ie.size=true:=by exact rfl) (hpos:0<ie.size:=by decide) (hby:0<ie.bytes:=by decide) :
  OpT P o env w (fun v' w'=>∃ A' c',v'=.slice A' (xs ++ ys).length c'∧St w0 F0 (Yg e ty (xs ++ ys) (.slice A' (xs ++ ys).length c') :: Hs.eraseIdx k) Rs w'):=
 Zdq q_.ok hsc k ho hS hk hg hx hy ht hi hn hz hpos hby hl
end
section
variable {P:Program} {tt:TT} {env:Env} {S:World→Prop} {o:Oper} {w0 w:World} {F0:Ft} {Hs Rs:List Ch}
theorem Yy {α:Type} {t:Nat} {e:Nat} {x:Operand} {hi:Option Operand} {xs:List α} (sub:List α) {A:Option Addr} {c:Nat} (h:Int) {z1:Nat} {z2:Nat} {z:Value} {ie:TI} [q_:TTI P tt] (hlc:xs.length≤c) (h1:0≤h) (h2:h≤(xs.length:Nat)) (ho:o.op=.slice t x none hi none:=by exact rfl) (ht:find tt t=some ⟨.slice e,z1,z2,z⟩:=by exact rfl) (he:find tt e=some ie:=by exact rfl) (hx:Zq env x=some (.slice A xs.length c):=by exact rfl) (hhi:W5 env hi (xs.length:Nat) h:=by exact ⟨_,rfl⟩) (hs:xs.take h.toNat=sub:=by exact rfl) :
  QOp P o env S (.slice A sub.length c):=
 Zl0 q_.ok ho ht he hx hlc hhi h1 h2 hs (sub:=sub) (h:=h)
end
section
variable {P:Program} {tt:TT} {env:Env} {S:World→Prop} {o:Oper} {w0 w:World} {F0:Ft} {Hs Rs:List Ch}
theorem Y3 {E:Nat} (ty:Ty) {xs:List ty.D} (sub:List ty.D) {A:Option Addr} {n:Nat} {c:Nat} (h:Int) (h1:0≤h) (h2:h≤(xs.length:Nat)) (hs:xs.take h.toNat=sub:=by exact rfl) (w:World) (F:Nat→Prop) (hr:(rdC E ty xs (.slice A n c)).ok w F) :
  (rdC E ty sub (.slice A sub.length c)).ok w F:=
 Zli h1 h2 hs w F hr (ty:=ty) (sub:=sub) (h:=h)
end
section
variable {P:Program} {tt:TT} {env:Env} {S:World→Prop} {o:Oper} {w0 w:World} {F0:Ft} {Hs Rs:List Ch}
theorem W0 {α:Type} {t:Nat} {e:Nat} {x:Operand} {lo:Option Operand} {hi:Option Operand} {xs:List α} (sub:List α) {A:Option Addr} {c:Nat} (l:Int) (h:Int) {z1:Nat} {z2:Nat} {z:Value} {ie:TI} [q_:TTI P tt] (hlc:xs.length≤c) (h0:0≤l) (h1:l≤h) (h2:h≤(xs.length:Nat)) (hs:(xs.drop l.toNat).take (h.toNat - l.toNat)=sub) (ho:o.op=.slice t x lo hi none:=by exact rfl) (ht:find tt t=some ⟨.slice e,z1,z2,z⟩:=by exact rfl) (he:find tt e=some ie:=by exact rfl) (hx:Zq env x=some (.slice A xs.length c):=by exact rfl) (hlo:W5 env lo 0 l:=by exact ⟨_,rfl⟩) (hhi:W5 env hi (xs.length:Nat) h:=by exact rfl) :
  QOp P o env S (.slice (Wf A c l.toNat ie.size) sub.length (c - l.toNat)):=
 Zak q_.ok ho ht he hx hlc hlo hhi h0 h1 h2 hs (sub:=sub) (l:=l) (h:=h)
end
section
theorem Wq {E:Nat} (ty:Ty) {xs:List ty.D} (sub:List ty.D) {A:Option Addr} {n:Nat} {c:Nat} (l:Int) (h:Int) {sz:Nat} (h0:0≤l) (h1:l≤h) (h2:h≤(xs.length:Nat)) (hs:(xs.drop l.toNat).take (h.toNat - l.toNat)=sub) (hsz:ty.n=sz:=by exact rfl) (w:World) (F:Nat→Prop) (hr:(rdC E ty xs (.slice A n c)).ok w F) :
  (rdC E ty sub (.slice (Wf A c l.toNat sz) sub.length (c - l.toNat))).ok w F:=
 V8 hsz h0 h1 h2 hs w F hr (ty:=ty) (sub:=sub) (l:=l) (h:=h)
end
section
variable {P:Program} {tt:TT} {o:Oper} {env:Env}
theorem Bu {t:Nat} {yt:Nat} {k:IntKind} {x:Operand} {y:Operand} {a:Int} {b:Int} {S:World→Prop} (hb:0<b) (ho:o.op=.binOp .rem t x y yt:=by exact rfl) (hx:Zq env x=some (.int k a):=by exact rfl) (hy:Zq env y=some (.int k b):=by exact rfl) :
  QOp P o env S (.int k (a.tmod b)):=
 Znj ho hx hy hb
end
section
variable {P:Program} {tt:TT} {env:Env} {S:World→Prop} {o:Oper}
theorem B5 {t:Nat} {x:Operand} {lo:Option Operand} {hi:Option Operand} {xs:List UInt8} {sub:List UInt8} (l:Int) (h:Int) {z1:Nat} {z2:Nat} {z:Value} [q_:TTI P tt] (h1:l≤h) (h2:h≤(xs.length:Nat)) (hs:(xs.drop l.toNat).take (h.toNat - l.toNat)=sub) (ho:o.op=.slice t x lo hi none:=by exact rfl) (ht:find tt t=some ⟨.str,z1,z2,z⟩:=by exact rfl) (hx:Zq env x=some (.string ⟨⟨xs⟩⟩):=by exact rfl) (hlo:W5 env lo 0 l:=by exact rfl) (hhi:W5 env hi (xs.length:Nat) h:=by exact ⟨_,rfl⟩) (h0:0≤l:=by decide) :
  QOp P o env S (.string ⟨⟨sub⟩⟩):=
 Zjx q_.ok ho ht hx hlo hhi h0 h1 h2 hs (l:=l) (h:=h)
end
section
theorem Yp {P : Program} {f : Nat} {fn : Func} {c : Code} {args : List Value} {pre : List Ch} {rd : List Ch} {Post : Value → List Ch → List Ch → Prop} (hf : P.funcs[f]? = some fn) (h : ∀ w0 F0, St w0 F0 pre rd w0 → J P fn.ntmps c (Zb4 P fn w0 F0 Post) (Wz 0 args) w0) (hb : fn.body = some c := by exact rfl) (hn : (fn.name == "runtime.NumGoroutine") = false := by kernel_rfl) (hs : Nat.ble args.length fn.ntmps = true := by kernel_rfl) :
  SpecA P f args pre rd Post:=
 SpecA.enter hf hb hn hs h
end
section
variable {P:Program} {tt:TT} {env:Env} {S:World→Prop} {o:Oper} {w0 w:World} {F0:Ft} {Hs Rs:List Ch}
theorem Wc {a:Ty} {b:Ty} {x:(Ty.pair a b).D} {cs:List Value} (k:Nat) (h:St w0 F0 Hs Rs w) (hk:nth Rs k=some (okC (.pair a b) x cs):=by exact rfl) :
  ∃ c1 c2,cs=c1 ++ c2∧St w0 F0 Hs (okC a x.1 c1 :: okC b x.2 c2 :: Rs) w:=
 St.okpr k h hk
end
section
variable {P:Program} {tt:TT} {env:Env} {S:World→Prop} {o:Oper} {w0 w:World} {F0:Ft} {Hs Rs:List Ch}
theorem Bh (t:Ty) {x:t.D} {cs:List Value} (k:Nat) (h:St w0 F0 Hs Rs w) (hfl:t.flat=true:=by exact rfl) (hk:nth Rs k=some (okC t x cs):=by exact rfl) :
  cs=t.enc x:=
 St.okflat hfl k h hk (t:=t)
end
section
variable {P:Program} {tt:TT} {env:Env} {S:World→Prop} {o:Oper} {w0 w:World} {F0:Ft} {Hs Rs:List Ch}
theorem Xo {E:Nat} {t:Ty} {xs:List t.D} {cs:List Value} (k:Nat) (h:St w0 F0 Hs Rs w) (hk:nth Rs k=some (okC (.slice E t) xs cs):=by exact rfl) :
  ∃ A c,cs=[.slice A xs.length c]:=
 St.okslice k h hk
end
section
variable {P:Program} {tt:TT} {env:Env} {o:Oper} {w0 w:World} {F0:Ft} {Hs Rs:List Ch}
theorem Ya {f:Nat} {xs:Array Operand} {ts:Array TypeId} {fx:Operand} {vs:List Value} {pre:List Ch} {rd:List Ch} {rest:List Ch} {Post:Value→List Ch→List Ch→Prop} (ks:List Nat) (hsp:SpecA P f vs pre rd Post) (hS:St w0 F0 Hs Rs w) (hp:pick ks Hs=some (pre,rest)) (hr:∀ c∈rd,Gives Rs c) (ho:o.op=.call { callee:=.value fx,args:=xs,argTypes:=ts }:=by exact rfl) (hfx:Zq env fx=some (.func (.func f) #[] #[]):=by exact rfl) (hv:Yv env xs.toList=some vs:=by exact rfl) :
  OpT P o env w (fun v w'=>∃ post rp,Post v post rp∧St w0 F0 (post ++ rest) (rp ++ Rs) w'):=
 Zj8 ks hsp ho hfx hv hS hp hr
end
section
variable {P:Program} {tt:TT} {env:Env} {S:World→Prop} {o:Oper} {w0:World} {F0:Ft} {Hs Rs:List Ch}
theorem Wl {E:Nat} {t:Ty} [Inhabited t.D] {xs:List t.D} {A:Option Addr} {m:Nat} {c:Nat} {w:World} {i:Int} (hS:Wh w0 F0 Hs Rs w) (hg:Gives (Hs ++ Rs) (rdC E t xs (.slice A m c))) (h1:i<xs.length) (h0:0≤i:=by decide) :
  A=some ⟨blk A,ofs A,none⟩:=
 Z0 hS hg h0 h1
end
section
variable {P:Program} {tt:TT} {env:Env} {S:World→Prop} {o:Oper} {w0:World} {F0:Ft} {Hs Rs:List Ch}
theorem Xr {t:Nat} {e:Nat} {x:Operand} {ix:Operand} {A:Option Addr} {n:Nat} {c:Nat} {i:Int} {ki:IntKind} {z1:Nat} {z2:Nat} {z:Value} {ie:TI} [q_:TTI P tt] (hA:A=some ⟨blk A,ofs A,none⟩) (h1:i<n) (ho:o.op=.indexAddr t x ix:=by exact rfl) (ht:find tt t=some ⟨.slice e,z1,z2,z⟩:=by exact rfl) (he:find tt e=some ie:=by exact rfl) (hv:Zq env x=some (.slice A n c):=by exact rfl) (hx:Zq env ix=some (.int ki i):=by exact rfl) (h0:0≤i:=by decide) :
  QOp P o env S (.pointer (some ⟨blk A,ofs A+i.toNat*ie.size,none⟩)):=
 Zgb q_.ok ho ht he hv hx hA h0 h1
end
section
variable {P:Program} {tt:TT} {env:Env} {S:World→Prop} {o:Oper} {w0:World} {F0:Ft} {Hs Rs:List Ch}
theorem Y7 {E:Nat} {t:Ty} [Inhabited t.D] {xs:List t.D} {A:Option Addr} {m:Nat} {c:Nat} {ty:Nat} {x:Operand} {i:TI} {ix:Int} (f:Nat) {sz:Nat} {v:Value} [q_:TTI P tt] (hS:∀ w,S w→Wh w0 F0 Hs Rs w) (hg:Gives (Hs ++ Rs) (rdC E t xs (.slice A m c))) (h1:ix<xs.length) (hfl:t.flat=true:=by exact rfl) (h0:0≤ix:=by decide) (ho:o.op=.load ty x:=by exact rfl) (hsz:t.n=sz:=by exact rfl) (hi:find tt ty=some i:=by exact rfl) (ha:Zq env x=some (.pointer (some ⟨blk A,ofs A+ix.toNat*sz+f,none⟩)):=by exact rfl) (hp:Wu i (((t.enc (gt xs ix)).drop f).take i.size)=some v:=by exact rfl) :
  QOp P o env S v:=
 Zay q_.ok hfl hS hg h0 h1 ho hsz hi ha hp (f:=f)
end
section
theorem Ua {w0:World} {w:World} {F0:Ft} {Hs:List Ch} {Rs:List Ch} {cs:List Ch} (h:St w0 F0 Hs Rs w) (ks:List Nat) (hc:sel ks Rs=some cs:=by exact rfl) :
  St w0 F0 Hs cs w:=
 St.rds h ks hc
end
section
theorem Zen {P:Program} {env:Env} {S:World→Prop} {o:Oper} {f:Nat} {xs:Array Operand} {ts:Array TypeId} {fx:Operand} {a:List UInt8} {b:List UInt8} (hc:CmpStr P f) (ho:o.op=.call { callee:=.value fx,args:=xs,argTypes:=ts }:=by exact rfl) (hfx:Zq env fx=some (.func (.func f) #[] #[]):=by exact rfl) (hv:Yv env xs.toList=some [.string ⟨⟨a⟩⟩,.string ⟨⟨b⟩⟩]:=by exact rfl) :
  QOp P o env S (.int .i64 (Xm a b)):=
 Zjn hc ho hfx hv
end
section
variable {P:Program} {tt:TT} {env:Env} {o:Oper} {w0 w:World} {F0:Ft} {Hs Rs:List Ch}
theorem Jo {f:Nat} {xs:Array Operand} {ts:Array TypeId} {fx:Operand} (vs:List Value) (cs:List Value) {pre:List Ch} {rd:List Ch} {rest:List Ch} {Post:Value→List Ch→Prop} (ks:List Nat) (hsp:Spec P f (vs ++ cs) pre rd Post) (hS:St w0 F0 Hs Rs w) (hp:pick ks Hs=some (pre,rest)) (hr:∀ c∈rd,Gives (rest ++ Rs) c) (ho:o.op=.call { callee:=.value fx,args:=xs,argTypes:=ts }:=by exact rfl) (hfx:Zq env fx=some (.func (.func f) #[] cs.toArray):=by exact rfl) (hv:Yv env xs.toList=some vs:=by exact rfl) :
  OpT P o env w (fun v w'=>∃ post,Post v post∧St w0 F0 (post ++ rest) Rs w'):=
 Zji ks hsp ho hfx hv hS hp hr (vs:=vs) (cs:=cs)
end
section
variable {P:Program} {n:Nat} {PQ:Xd} {env:Env} {w:World}
theorem U2 {c:Operand} {x:Code} {y:Code} {b:Bool} (ht:b=true→J P n x PQ env w) (hn:b=false→J P n y PQ env w) (hc:Zq env c=some (.bool b):=by exact rfl) :
  J P n (.cond c x y) PQ env w:=
 J.cond hc ht hn
end
section
variable {P:Program} {n:Nat} {env:Env} {w:World} {ops:List Oper} {K:Env→World→Prop} {S:World→Prop} {o:Oper} {done:List Nat}
theorem Zf0 (t:Nat) {u:Value} {v:Value} (hv:u=v) (h:HJ P n ops S K done ((t,v) :: env) w) (hl:X2 env t=some u:=by exact rfl) :
  HJ P n ops S K done env w:=
 HJ.know hl hv h (t:=t)
end
section
variable {P:Program} {tt:TT} {env:Env} {o:Oper} {w0 w:World} {F0:Ft} {Hs Rs:List Ch}
theorem Zax {t:Nat} {ts:Nat} {e:Nat} {xa:Operand} {ya:Operand} {z1:Nat} {z2:Nat} {z3:Nat} {z4:Nat} {z:Value} {zs:Value} {xs:List Int} {s:List UInt8} {v:Value} [q_:TTI P tt] (k:Nat) (hS:St w0 F0 Hs Rs w) (hl:xs.length+s.length≤140737488355328) (ho:o.op=.call { callee:=.builtin .append,args:=#[xa,ya],argTypes:=#[t,ts] }:=by exact rfl) (hk:nth Hs k=some (Yg e (.int .u8) xs v):=by exact rfl) (hx:Zq env xa=some v:=by exact rfl) (hy:Zq env ya=some (.string ⟨⟨s⟩⟩):=by exact rfl) (ht:find tt t=some ⟨.slice e,z1,z2,z⟩:=by exact rfl) (hts:find tt ts=some ⟨.str,z3,z4,zs⟩:=by exact rfl) (hi:find tt e=some ⟨.int .u8,1,1,.int .u8 0⟩:=by exact rfl) :
  OpT P o env w (fun v' w'=>∃ A' c',v'=.slice A' (xs ++ toB s).length c'∧St w0 F0 (Yg e (.int .u8) (xs ++ toB s) (.slice A' (xs ++ toB s).length c') :: Hs.eraseIdx k) Rs w'):=
 Zd2 q_.ok k ho hS hk hx hy ht hts hi hl
end
section
variable {P:Program} {tt:TT} {env:Env} {S:World→Prop} {o:Oper} {w0 w:World} {F0:Ft} {Hs Rs:List Ch} {α:Type} {k:IntKind} {f:α→Value}
theorem Wp {t:Nat} {kt:Nat} {et:Nat} {x:Operand} {y:Operand} {b:Nat} {ix:Int} {es:List (Int×α)} {it:TI} {ik:TI} {ie:TI} [q_:TTI P tt] (d:α) (n:Nat) (hS:∀ w,S w→Wh w0 F0 Hs Rs w) (hk:nth Hs n=some (Xa k f b es):=by exact rfl) (ho:o.op=.lookup t x y true:=by exact rfl) (hi:find tt t=some it:=by exact rfl) (hkm:it.kind=.map kt et:=by exact rfl) (hki:find tt kt=some ik:=by exact rfl) (hkk:ik.kind=.int k:=by exact rfl) (hei:find tt et=some ie:=by exact rfl) (hz:ie.zero=f d:=by exact rfl) (hx:Zq env x=some (.map (some b)):=by exact rfl) (hy:Zq env y=some (.int k ix):=by exact rfl) :
  QOp P o env S (.tuple #[f (Zv d es ix),.bool (Y9 es ix)]):=
 Zfz q_.ok d n hS hk ho hi hkm hki hkk hei hz hx hy
end
section
variable {P:Program} {tt:TT} {env:Env} {S:World→Prop} {o:Oper} {w0 w:World} {F0:Ft} {Hs Rs:List Ch}
theorem Xb {E:Nat} {t:Ty} [Inhabited t.D] {xs:List t.D} {A:Option Addr} {m:Nat} {c:Nat} {ty:Nat} {x:Operand} {i:TI} {ix:Int} (f:Nat) {sz:Nat} {u:Value} {v:Value} [q_:TTI P tt] (hS:∀ w,S w→Wh w0 F0 Hs Rs w) (hg:Gives (Hs ++ Rs) (rdC E t xs (.slice A m c))) (h0:0≤ix) (h1:ix<xs.length) (ho:o.op=.load ty x:=by exact rfl) (hsz:t.n=sz:=by exact rfl) (hi:find tt ty=some i:=by exact rfl) (ha:Zq env x=some (.pointer (some ⟨blk A,ofs A+ix.toNat*sz+f,none⟩)):=by exact rfl) (hu:t.at? (gt xs ix) f=some u:=by exact rfl) (hp:Wu i [u]=some v:=by exact rfl) :
  QOp P o env S v:=
 Zfw q_.ok hS hg h0 h1 ho hsz hi ha hu hp (f:=f)
end
section
variable {P:Program} {tt:TT} {env:Env} {S:World→Prop} {o:Oper} {w0 w:World} {F0:Ft} {Hs Rs:List Ch}
theorem W2 {t:Nat} {e:Nat} (f:Nat) {sz:Nat} {c:Nat} {e2:Nat} {x:Operand} {y:Operand} {i:TI} (ty:Ty) {t2:Ty} [Inhabited ty.D] {xs:List ty.D} {A:Option Addr} (ix:Int) {v:Value} {sv:Value} {ys:List t2.D} [q_:TTI P tt] (new:ty.D) (hS:St w0 F0 (Zd7 (Yg e ty xs (.slice A xs.length c)) (Yg e2 t2 ys sv) :: Hs) Rs w) (h0:0≤ix) (h1:ix<xs.length) (hnew:∀ w F cs,ty.ok w F (gt xs ix) cs→(rdC e2 t2 ys sv).ok w F→ty.ok w F new (Zy f v.cells.toList cs)) (ho:o.op=.store t x y:=by exact rfl) (hi:find tt t=some i:=by exact rfl) (ha:Zq env x=some (.pointer (some ⟨blk A,ofs A+ix.toNat*sz+f,none⟩)):=by exact rfl) (hv:Zq env y=some v:=by exact rfl) (hn:ty.n=sz:=by exact rfl) (hsz:Nat.beq v.cells.toList.length i.size=true:=by exact rfl) (hle:Nat.ble (f+i.size) sz=true:=by exact rfl) (hc1:v.cells.toList.all (fun u=>u.oneCell')=true:=by exact rfl) :
  OpT P o env w (fun _ w'=>St w0 F0 (Yg e ty (xs.set ix.toNat new) (.slice A (xs.set ix.toNat new).length c) :: Hs) Rs w'):=
 Ze6 q_.ok new ho hS hi h0 h1 ha hv hn hsz hle hc1 hnew (f:=f) (ty:=ty) (ix:=ix)
end
section
variable {P:Program} {tt:TT} {env:Env} {S:World→Prop} {o:Oper} {w0 w:World} {F0:Ft} {Hs Rs:List Ch}
theorem Ww {t:Nat} {e:Nat} (f:Nat) {sz:Nat} {c:Nat} {x:Operand} {y:Operand} {i:TI} (ty:Ty) [Inhabited ty.D] {xs:List ty.D} {A:Option Addr} (ix:Int) {v:Value} [q_:TTI P tt] (new:ty.D) (k:Nat) (hS:St w0 F0 Hs Rs w) (hk:nth Hs k=some (Yg e ty xs (.slice A xs.length c))) (h0:0≤ix) (h1:ix<xs.length) (hnew:∀ w F cs,ty.ok w F (gt xs ix) cs→ty.ok w F new (Zy f v.cells.toList cs)) (ho:o.op=.store t x y:=by exact rfl) (hi:find tt t=some i:=by exact rfl) (ha:Zq env x=some (.pointer (some ⟨blk A,ofs A+ix.toNat*sz+f,none⟩)):=by exact rfl) (hv:Zq env y=some v:=by exact rfl) (hn:ty.n=sz:=by exact rfl) (hsz:Nat.beq v.cells.toList.length i.size=true:=by exact rfl) (hle:Nat.ble (f+i.size) sz=true:=by exact rfl) (hc1:v.cells.toList.all (fun u=>u.oneCell')=true:=by exact rfl) :
  OpT P o env w (fun _ w'=>St w0 F0 (Yg e ty (xs.set ix.toNat new) (.slice A (xs.set ix.toNat new).length c) :: Hs.eraseIdx k) Rs w'):=
 Zd1 q_.ok new k ho hS hk hi h0 h1 ha hv hn hsz hle hc1 hnew (f:=f) (ty:=ty) (ix:=ix)
end
section
variable {P:Program} {tt:TT} {env:Env} {S:World→Prop} {o:Oper} {w0 w:World} {F0:Ft} {Hs Rs:List Ch}
theorem Uq {α:Type} {t:Nat} {e:Nat} {x:Operand} {lo:Option Operand} {hi:Option Operand} {xs:List α} (sub:List α) {A:Option Addr} {c:Nat} (l:Int) (h:Int) {z1:Nat} {z2:Nat} {z:Value} {ie:TI} [q_:TTI P tt] (hlc:xs.length≤c) (h0:0≤l) (h1:l≤h) (h2:h≤(xs.length:Nat)) (ho:o.op=.slice t x lo hi none:=by exact rfl) (ht:find tt t=some ⟨.slice e,z1,z2,z⟩:=by exact rfl) (he:find tt e=some ie:=by exact rfl) (hx:Zq env x=some (.slice A xs.length c):=by exact rfl) (hlo:W5 env lo 0 l:=by exact ⟨_,rfl⟩) (hhi:W5 env hi (xs.length:Nat) h:=by exact ⟨_,rfl⟩) (hs:(xs.drop l.toNat).take (h.toNat - l.toNat)=sub:=by exact rfl) :
  QOp P o env S (.slice (Wf A c l.toNat ie.size) sub.length (c - l.toNat)):=
 Zak q_.ok ho ht he hx hlc hlo hhi h0 h1 h2 hs (sub:=sub) (l:=l) (h:=h)
end
section
theorem Je {l:List Ch} {c:Ch} {c':Ch} (k:Nat) (hc:∀ w F,c'.ok w F→c.ok w F) (h:nth l k=some c':=by exact rfl) :
  Gives l c:=
 Gives.of k h hc
end
section
variable {P:Program} {tt:TT} {env:Env} {S:World→Prop} {o:Oper} {w0 w:World} {F0:Ft} {Hs Rs:List Ch}
theorem Bs {E:Nat} {t:Ty} {t2:Ty} {xs:List t.D} {A:Option Addr} {A2:Option Addr} {c:Nat} {c2:Nat} {E2:Nat} {ys:List t2.D} {ty:Nat} {x:Operand} {i:TI} {ix:Int} {f:Nat} {sz:Nat} {v:Value} [q_:TTI P tt] (hS:∀ w,S w→Wh w0 F0 Hs Rs w) (hg:Gives (Hs ++ Rs) (Zc0 E t xs A c ix f E2 t2 ys A2 c2)) (ho:o.op=.load ty x:=by exact rfl) (hsz:t.n=sz:=by exact rfl) (hi:find tt ty=some i:=by exact rfl) (ha:Zq env x=some (.pointer (some ⟨blk A,ofs A+ix.toNat*sz+f,none⟩)):=by exact rfl) (hp:Wu i [.slice A2 ys.length c2]=some v:=by exact rfl) :
  QOp P o env S v:=
 Zj7 q_.ok hS hg ho hsz hi ha hp
end
section
variable {P:Program} {tt:TT} {env:Env} {S:World→Prop} {o:Oper} {w0 w:World} {F0:Ft} {Hs Rs:List Ch} {α:Type} {k:IntKind} {f:α→Value}
theorem Zfk {t:Nat} {kt:Nat} {et:Nat} {x:Operand} {y:Operand} {b:Nat} {ix:Int} {es:List (Int×α)} {it:TI} {ik:TI} {ie:TI} [q_:TTI P tt] (d:α) (n:Nat) (hS:∀ w,S w→Wh w0 F0 Hs Rs w) (hk:nth Hs n=some (Xa k f b es):=by exact rfl) (ho:o.op=.lookup t x y false:=by exact rfl) (hi:find tt t=some it:=by exact rfl) (hkm:it.kind=.map kt et:=by exact rfl) (hki:find tt kt=some ik:=by exact rfl) (hkk:ik.kind=.int k:=by exact rfl) (hei:find tt et=some ie:=by exact rfl) (hz:ie.zero=f d:=by exact rfl) (hx:Zq env x=some (.map (some b)):=by exact rfl) (hy:Zq env y=some (.int k ix):=by exact rfl) :
  QOp P o env S (f (Zv d es ix)):=
 Zjw q_.ok d n hS hk ho hi hkm hki hkk hei hz hx hy
end
section
variable {P:Program} {tt:TT} {env:Env} {S:World→Prop} {o:Oper} {w0 w:World} {F0:Ft} {Hs Rs:List Ch}
theorem Uy {ty:Nat} {x:Operand} {i:TI} {A:Option Addr} {off:Nat} (f:Nat) {cs:List Value} {v:Value} [q_:TTI P tt] (hS:∀ w,S w→Wh w0 F0 Hs Rs w) (hg:Gives (Hs ++ Rs) (elC A off cs)) (ho:o.op=.load ty x:=by exact rfl) (hi:find tt ty=some i:=by exact rfl) (ha:Zq env x=some (.pointer (some ⟨blk A,off+f,none⟩)):=by exact rfl) (hp:Wu i ((cs.drop f).take i.size)=some v:=by exact rfl) :
  QOp P o env S v:=
 Zh4 q_.ok hS hg ho hi ha hp (f:=f)
end
section
variable {P:Program} {n:Nat} {env:Env} {w:World} {ops:List Oper} {K:Env→World→Prop} {o:Oper} {l:List Oper}
theorem Yh (t:Nat) {u:Value} {v:Value} (hv:u=v) (h:RJ P n ops l K ((t,v) :: env) w) (hl:X2 env t=some u:=by exact rfl) :
  RJ P n ops l K env w:=
 RJ.know hl hv h (t:=t)
end
section
variable {P:Program} {tt:TT} {env:Env} {S:World→Prop} {o:Oper} {w0 w:World} {F0:Ft} {Hs Rs:List Ch} {α:Type} {k:IntKind} {f:α→Value}
theorem Gd {t:Nat} (k:IntKind) (f:α→Value) (hS:St w0 F0 Hs Rs w) (ho:o.op=.makeMap t none:=by exact rfl) :
  OpT P o env w (fun v' w'=>∃ b,v'=.map (some b)∧St w0 F0 (Xa k f b [] :: Hs) Rs w'):=
 Zhl k f ho hS
end
section
theorem U5 {E:Nat} (ty:Ty) {xs:List ty.D} (sub:List ty.D) {A:Option Addr} {n:Nat} {c:Nat} (l:Int) (h:Int) {sz:Nat} (h0:0≤l) (h1:l≤h) (h2:h≤(xs.length:Nat)) (hsz:ty.n=sz:=by exact rfl) (hs:(xs.drop l.toNat).take (h.toNat - l.toNat)=sub:=by exact rfl) (w:World) (F:Nat→Prop) (hr:(rdC E ty xs (.slice A n c)).ok w F) :
  (rdC E ty sub (.slice (Wf A c l.toNat sz) sub.length (c - l.toNat))).ok w F:=
 V8 hsz h0 h1 h2 hs w F hr (ty:=ty) (sub:=sub) (l:=l) (h:=h)
end
section
variable {P:Program} {tt:TT} {env:Env} {o:Oper} {w0 w:World} {F0:Ft} {Hs Rs:List Ch}
theorem Zft {s:Nat} {d:Nat} {e:Nat} {x:Operand} {z1:Nat} {z2:Nat} {z3:Nat} {z4:Nat} {z5:Nat} {z6:Nat} {z:Value} {z':Value} {z'':Value} {xs:List Int} {A:Option Addr} {n:Nat} {c:Nat} {S:World→Prop} [q_:TTI P tt] (hS:∀ w,S w→Wh w0 F0 Hs Rs w) (hg:Gives (Hs ++ Rs) (rdC e (.int .u8) xs (.slice A n c))) (ho:o.op=.convert s d x:=by exact rfl) (hs:find tt s=some ⟨.slice e,z1,z2,z⟩:=by exact rfl) (he:find tt e=some ⟨.int .u8,z5,z6,z''⟩:=by exact rfl) (hd:find tt d=some ⟨.str,z3,z4,z'⟩:=by exact rfl) (hx:Zq env x=some (.slice A n c):=by exact rfl) :
  QOp P o env S (.string ⟨⟨toS xs⟩⟩):=
 Zkz q_.ok hS hg ho hs he hd hx
end
section
variable {P:Program} {tt:TT} {env:Env} {o:Oper} {w0 w:World} {F0:Ft} {Hs Rs:List Ch}
theorem Zfm {T:Nat} {e:Nat} {z1:Nat} {z2:Nat} {z:Value} {ie:TI} {l:Operand} {c:Operand} {kl:IntKind} {kc:IntKind} {n:Int} [q_:TTI P tt] (ty:Ty) (hS:St w0 F0 Hs Rs w) (h0:0≤n) (hb:n*ie.bytes≤281474976710656) (ho:o.op=.makeSlice T l c:=by exact rfl) (ht:find tt T=some ⟨.slice e,z1,z2,z⟩:=by exact rfl) (hi:find tt e=some ie:=by exact rfl) (hl:Zq env l=some (.int kl 0):=by exact rfl) (hc:Zq env c=some (.int kc n):=by exact rfl) (hsz:Nat.beq ty.n ie.size=true:=by exact rfl) (hby:0<ie.bytes:=by decide) :
  OpT P o env w (fun v w'=>∃ b,v=.slice (some ⟨b,0,none⟩) ([]:List ty.D).length n.toNat∧St w0 F0 (Yg e ty ([]:List ty.D) (.slice (some ⟨b,0,none⟩) ([]:List ty.D).length n.toNat) :: Hs) Rs w'):=
 Zjs q_.ok ty ho ht hi hl hc hsz hby hS h0 hb
end
section
variable {P:Program} {tt:TT} {env:Env} {S:World→Prop} {o:Oper} {w0 w:World} {F0:Ft} {Hs Rs:List Ch}
theorem Jr {α:Type} {t:Nat} {e:Nat} {x:Operand} {lo:Option Operand} {hi:Option Operand} {xs:List α} (sub:List α) {A:Option Addr} {c:Nat} (l:Int) (h:Int) {z1:Nat} {z2:Nat} {z:Value} {ie:TI} [q_:TTI P tt] (hlc:xs.length≤c) (h1:l≤h) (h2:h≤(xs.length:Nat)) (hs:(xs.drop l.toNat).take (h.toNat - l.toNat)=sub) (ho:o.op=.slice t x lo hi none:=by exact rfl) (ht:find tt t=some ⟨.slice e,z1,z2,z⟩:=by exact rfl) (he:find tt e=some ie:=by exact rfl) (hx:Zq env x=some (.slice A xs.length c):=by exact rfl) (hlo:W5 env lo 0 l:=by exact ⟨_,rfl⟩) (hhi:W5 env hi (xs.length:Nat) h:=by exact rfl) (h0:0≤l:=by decide) :
  QOp P o env S (.slice (Wf A c l.toNat ie.size) sub.length (c - l.toNat)):=
 Zak q_.ok ho ht he hx hlc hlo hhi h0 h1 h2 hs (sub:=sub) (l:=l) (h:=h)
end
end Go.SK
