/- Part of the library of this claim: how code is stepped through. -/
import Derived.Test.YtgdmpkhmedbnpaaGreatDoorXShelfFlushedKA
set_option linter.unusedVariables false
set_option linter.unusedSimpArgs false
set_option linter.unusedSectionVars false
namespace Go.SK
open Go Go.RowKit

section
theorem Zi {P : Program} {f : Nat} {fn : Func} {c : Code} {args : List Value} {pre : List Ch} {rd : List Ch} {Post : Value → List Ch → Prop} (hf : P.funcs[f]? = some fn) (h : ∀ w0 F0, St w0 F0 pre rd w0 → J P fn.ntmps c (Zde P fn w0 F0 Post) (Wu 0 args) w0) (hb : fn.body = some c := by exact rfl) (hn : (fn.name == "runtime.NumGoroutine") = false := by kernel_rfl) (hs : Nat.ble args.length fn.ntmps = true := by kernel_rfl) :
  Spec P f args pre rd Post:=
 Spec.enter hf hb hn hs h
end
section
variable {P:Program} {tt:TT} {n:Nat} {env:Env} {w w0:World} {F0:Ft} {Hs Rs:List Ch} {ops:List Oper} {K:Env→World→Prop} {o:Oper} {l:List Oper} {PQ:Xb} {S:World→Prop} {done:List Nat}
theorem Za [i:TTI P tt] {id:Nat} {E:Env} (ts:List Nat) (hk:PQ .normal E w) (h:Zan tt n ops ts ops env=some E:=by exact rfl) :
  J P n (.region id ops.toArray false) PQ env w:=
 Zp1 ts h hk
end
section
theorem Zj {P:Program} {fn:Func} {env:Env} {w:World} {vs:List Value} (h:U1 env fn.results.toList=some vs:=by exact rfl) :
  ∀ n a,Fr n env a→(results fn a.tmps).run P w=.ok (U3 vs) w:=
 Wt h
end
section
variable {w0 w:World} {F0:Ft} {Hs Rs:List Ch}
end
section
variable {P:Program} {n:Nat} {env:Env} {w:World} {ops:List Oper} {K:Env→World→Prop} {o:Oper} {l:List Oper}
theorem Zv {K':Value→World→Prop} (ho:OpT P o env w K') (h:∀ v w',K' v w'→RJ P n ops l K (Xn o.dst v env) w') (hw:Ym ops env o=some true:=by exact rfl) (hd:Xo n o.dst=true:=by exact rfl) :
  RJ P n ops (o :: l) K env w:=
 RJ.op hw hd ho h
end
section
variable {P:Program} {n:Nat} {env:Env} {w:World} {ops:List Oper} {K:Env→World→Prop} {o:Oper} {l:List Oper}
theorem Zc {v:Value} (ho:QOp P o env (·=w) v) (h:RJ P n ops l K (Xn o.dst v env) w) (hw:Ym ops env o=some true:=by exact rfl) (hd:Xo n o.dst=true:=by exact rfl) :
  RJ P n ops (o :: l) K env w:=
 RJ.q hw hd ho h
end
section
variable {P:Program} {tt:TT} {env:Env} {S:World→Prop} {o:Oper} {w0:World} {F0:Ft} {Hs Rs:List Ch}
theorem Zb {t:Nat} {x:Operand} {i:TI} {b:Nat} {off:Nat} {tb:Nat} {cs:List Value} {v:Value} [q_:TTI P tt] (k:Nat) (hS:∀ w,S w→Wh w0 F0 Hs Rs w) (hk:nth Hs k=some (Ys b tb cs):=by exact rfl) (ho:o.op=.load t x:=by exact rfl) (hi:find tt t=some i:=by exact rfl) (ha:Zr env x=some (.pointer (some ⟨b,off,none⟩)):=by exact rfl) (hp:Vo i ((cs.drop off).take i.size)=some v:=by exact rfl) :
  QOp P o env S v:=
 Zco q_.ok k hS hk ho hi ha hp
end
section
variable {P:Program} {tt:TT} {env:Env} {o:Oper} {w0 w:World} {F0:Ft} {Hs Rs:List Ch}
theorem Xk {f:Nat} {xs:Array Operand} {ts:Array TypeId} {fx:Operand} {vs:List Value} {pre:List Ch} {rd:List Ch} {rest:List Ch} {Post:Value→List Ch→Prop} (ks:List Nat) (hsp:Spec P f vs pre rd Post) (hS:St w0 F0 Hs Rs w) (hp:pick ks Hs=some (pre,rest)) (hr:∀ c∈rd,Gives (rest ++ Rs) c) (ho:o.op=.call { callee:=.value fx,args:=xs,argTypes:=ts }:=by exact rfl) (hfx:Zr env fx=some (.func (.func f) #[] #[]):=by exact rfl) (hv:Yv env xs.toList=some vs:=by exact rfl) :
  OpT P o env w (fun v w'=>∃ post,Post v post∧St w0 F0 (post ++ rest) Rs w'):=
 Uv ks hsp ho hfx hv hS hp hr
end
section
theorem Zn {P:Program} {n:Nat} {PQ:Xb} {env:Env} {w:World} {c:Operand} {x:Code} {y:Code} (h:J P n x PQ env w) (hc:Zr env c=some (.bool true):=by exact rfl) :
  J P n (.cond c x y) PQ env w:=
 J.condT hc h
end
section
theorem Zw {P:Program} {n:Nat} {ops:List Oper} {id:Nat} {PQ:Xb} {env:Env} {w0:World} {w:World} {F0:Ft} {Hs:List Ch} {Rs:List Ch} {tt_:TT} [q_:TTI P tt_] (h0:St w0 F0 Hs Rs w) (h:HJ P n ops (Wh w0 F0 Hs Rs) (PQ .normal) [] env { w with drawn:=w.drawn+1 }) :
  J P n (.region id ops.toArray true) PQ env w:=
 J.heldSt q_.mix h0 h
end
section
variable {P:Program} {n:Nat} {env:Env} {w:World} {ops:List Oper} {K:Env→World→Prop} {S:World→Prop} {o:Oper} {done:List Nat}
theorem Zf {v:Value} (i:Nat) {t:Nat} (hi:nth ops i=some o) (ho:QOp P o env S v) (h:HJ P n ops S K (i :: done) ((t,v) :: env) w) (hs:Wb ops=true:=by exact rfl) (ht:Gf ops done i o=true:=by exact rfl) (hw:Ym ops env o=some true:=by exact rfl) (hd:o.dst=some t:=by exact rfl) (hn:Nat.ble (t+1) n=true:=by exact rfl) :
  HJ P n ops S K done env w:=
 HJ.q hs hi ht hw hd hn ho h (i:=i)
end
section
variable {P:Program} {n:Nat} {env:Env} {w:World} {ops:List Oper} {K:Env→World→Prop} {S:World→Prop} {o:Oper} {done:List Nat}
theorem Yl {K':Value→World→Prop} (i:Nat) (hi:nth ops i=some o) (ho:OpT P o env w K') (h:∀ v w',K' v w'→S w'∧HJ P n ops S K (i :: done) (Xn o.dst v env) w') (hs:Wb ops=true:=by exact rfl) (hr:U2 ops done i o=true:=by exact rfl) (hw:Ym ops env o=some true:=by exact rfl) (hd:Xo n o.dst=true:=by exact rfl) :
  HJ P n ops S K done env w:=
 HJ.op hs hi hr hw hd ho h (i:=i)
end
section
variable {P:Program} {n:Nat} {env:Env} {w:World} {ops:List Oper} {K:Env→World→Prop} {S:World→Prop} {o:Oper} {done:List Nat}
theorem Xv {K':Value→World→Prop} (i:Nat) (hi:nth ops i=some o) (ho:OpT P o env w K') (h:∀ v w',K' v w'→S w'∧HJ P n ops S K (i :: done) (Xn o.dst v env) w') (hw:Ym ops env o=some true:=by exact rfl) (hd:Xo n o.dst=true:=by exact rfl) :
  HS P n ops S K done env w i:=
 HS.op hi hw hd ho h (i:=i)
end
section
variable {P:Program} {env:Env} {S:World→Prop} {o:Oper}
theorem Bd {xa:Operand} {ya:Operand} {za:Operand} {ts:Array TypeId} {k:IntKind} {x:Int} {y:Int} {z:Int} (ho:o.op=.call { callee:=.builtin .max,args:=#[xa,ya,za],argTypes:=ts }:=by exact rfl) (hx:Zr env xa=some (.int k x):=by exact rfl) (hy:Zr env ya=some (.int k y):=by exact rfl) (hz:Zr env za=some (.int k z):=by exact rfl) :
  QOp P o env S (.int k (if z>(if y>x then y else x) then z else (if y>x then y else x))):=
 Zog ho hx hy hz
end
section
variable {P:Program} {tt:TT} {env:Env} {o:Oper} {w0 w:World} {F0:Ft} {Hs Rs:List Ch}
theorem Yg {n : Nat} {ops : List Oper} {l : List Oper} {K : Env → World → Prop} {f : Nat} {fn : Func} {c : Code} {xs : Array Operand} {ts : Array TypeId} {fx : Operand} {vs : List Value} (hf : P.funcs[f]? = some fn) (hj : J P fn.ntmps c (Za6 P fn (fun v w' => RJ P n ops l K (Xn o.dst v env) w')) (Wu 0 vs) w) (hw : Ym ops env o = some true := by exact rfl) (hd : Xo n o.dst = true := by exact rfl) (ho : o.op = .call { callee := .value fx, args := xs, argTypes := ts } := by exact rfl) (hfx : Zr env fx = some (.func (.func f) #[] #[]) := by exact rfl) (hv : Yv env xs.toList = some vs := by exact rfl) (hb : fn.body = some c := by exact rfl) (hn : (fn.name == "runtime.NumGoroutine") = false := by kernel_rfl) (hs : Nat.ble vs.length fn.ntmps = true := by kernel_rfl) :
  RJ P n ops (o :: l) K env w:=
 RJ.inline hw hd ho hfx hv hf hb hn hs hj
end
section
variable {P:Program} {tt:TT} {o:Oper} {env:Env}
theorem Zlg {t:Nat} {yt:Nat} {k:IntKind} {x:Operand} {y:Operand} {a:Int} {b:Int} {S:World→Prop} (hb:0<b) (ho:o.op=.binOp .quo t x y yt:=by exact rfl) (hx:Zr env x=some (.int k a):=by exact rfl) (hy:Zr env y=some (.int k b):=by exact rfl) :
  QOp P o env S (.int k (k.wrap (a.tdiv b))):=
 Zpg ho hx hy hb
end
section
variable {P:Program} {tt:TT} {env:Env} {S:World→Prop} {o:Oper} {w0:World} {F0:Ft} {Hs Rs:List Ch}
theorem Zg {t:Nat} {e:Nat} {x:Operand} {ix:Operand} {A:Option Addr} {n:Nat} {c:Nat} {i:Int} {ki:IntKind} {z1:Nat} {z2:Nat} {z:Value} {ie:TI} [q_:TTI P tt] (hA:A=some ⟨blk A,ofs A,none⟩) (h0:0≤i) (h1:i<n) (ho:o.op=.indexAddr t x ix:=by exact rfl) (ht:find tt t=some ⟨.slice e,z1,z2,z⟩:=by exact rfl) (he:find tt e=some ie:=by exact rfl) (hv:Zr env x=some (.slice A n c):=by exact rfl) (hx:Zr env ix=some (.int ki i):=by exact rfl) :
  QOp P o env S (.pointer (some ⟨blk A,ofs A+i.toNat*ie.size,none⟩)):=
 Zhy q_.ok ho ht he hv hx hA h0 h1
end
section
variable {P:Program} {tt:TT} {env:Env} {o:Oper} {w0 w:World} {F0:Ft} {Hs Rs:List Ch}
theorem Zm {t:Nat} {e:Nat} (f:Nat) {sz:Nat} {c:Nat} {x:Operand} {y:Operand} {i:TI} (ty:Ty) [Inhabited ty.D] {xs:List ty.D} {A:Option Addr} (ix:Int) {v:Value} [q_:TTI P tt] (new:ty.D) (k:Nat) (hS:St w0 F0 Hs Rs w) (hk:nth Hs k=some (Yh e ty xs (.slice A xs.length c))) (h0:0≤ix) (h1:ix<xs.length) (hsc:ty.scal=true:=by exact rfl) (ho:o.op=.store t x y:=by exact rfl) (hi:find tt t=some i:=by exact rfl) (ha:Zr env x=some (.pointer (some ⟨blk A,ofs A+ix.toNat*sz+f,none⟩)):=by exact rfl) (hv:Zr env y=some v:=by exact rfl) (hn:ty.n=sz:=by exact rfl) (hsz:Nat.beq v.cells.toList.length i.size=true:=by exact rfl) (hle:Nat.ble (f+i.size) sz=true:=by exact rfl) (hc1:v.cells.toList.all (fun u=>u.oneCell')=true:=by exact rfl) (hnew:Z6 f v.cells.toList (ty.enc (gt xs ix))=ty.enc new:=by exact rfl) :
  OpT P o env w (fun _ w'=>St w0 F0 (Yh e ty (xs.set ix.toNat new) (.slice A (xs.set ix.toNat new).length c) :: Hs.eraseIdx k) Rs w'):=
 Bz q_.ok hsc new k ho hS hk hi h0 h1 ha hv hn hsz hle hc1 hnew (f:=f) (ty:=ty) (ix:=ix)
end
section
theorem Z5 {P:Program} {n:Nat} {PQ:Xb} {env:Env} {w:World} {c:Operand} {x:Code} {y:Code} (h:J P n y PQ env w) (hc:Zr env c=some (.bool false):=by exact rfl) :
  J P n (.cond c x y) PQ env w:=
 J.condF hc h
end
section
variable {P:Program} {tt:TT} {env:Env} {S:World→Prop} {o:Oper} {w0:World} {F0:Ft} {Hs Rs:List Ch}
theorem Zh {E:Nat} {t:Ty} [Inhabited t.D] {xs:List t.D} {A:Option Addr} {m:Nat} {c:Nat} {ty:Nat} {x:Operand} {i:TI} {ix:Int} (f:Nat) {sz:Nat} {v:Value} [q_:TTI P tt] (hS:∀ w,S w→Wh w0 F0 Hs Rs w) (hg:Gives (Hs ++ Rs) (rdC E t xs (.slice A m c))) (h0:0≤ix) (h1:ix<xs.length) (hfl:t.flat=true:=by exact rfl) (ho:o.op=.load ty x:=by exact rfl) (hsz:t.n=sz:=by exact rfl) (hi:find tt ty=some i:=by exact rfl) (ha:Zr env x=some (.pointer (some ⟨blk A,ofs A+ix.toNat*sz+f,none⟩)):=by exact rfl) (hp:Vo i (((t.enc (gt xs ix)).drop f).take i.size)=some v:=by exact rfl) :
  QOp P o env S v:=
 Zby q_.ok hfl hS hg h0 h1 ho hsz hi ha hp (f:=f)
end
section
variable {P:Program} {tt:TT} {o:Oper} {env:Env}
theorem Zd6 {t:Nat} {yt:Nat} {k:IntKind} {k':IntKind} {x:Operand} {y:Operand} {a:Int} {b:Int} {S:World→Prop} (hb:0≤b) (ho:o.op=.binOp .shr t x y yt:=by exact rfl) (hx:Zr env x=some (.int k a):=by exact rfl) (hy:Zr env y=some (.int k' b):=by exact rfl) :
  QOp P o env S (.int k (a.fdiv (2 ^ (min b.toNat k.bits)))):=
 Zpt ho hx hy hb
end
section
variable {P:Program} {tt:TT} {o:Oper} {env:Env}
theorem Gc {t:Nat} {yt:Nat} {k:IntKind} {k':IntKind} {x:Operand} {y:Operand} {a:Int} {b:Int} {S:World→Prop} (hb:0≤b) (ho:o.op=.binOp .shl t x y yt:=by exact rfl) (hx:Zr env x=some (.int k a):=by exact rfl) (hy:Zr env y=some (.int k' b):=by exact rfl) :
  QOp P o env S (.int k (k.wrap (a*2 ^ (min b.toNat k.bits)))):=
 Zjq ho hx hy hb
end
section
theorem Zgz {P:Program} {env:Env} {S:World→Prop} {o:Oper} {f:Nat} {xs:Array Operand} {ts:Array TypeId} {fx:Operand} {a:List UInt8} {b:List UInt8} (hc:CmpStr P f) (ho:o.op=.call { callee:=.value fx,args:=xs,argTypes:=ts }:=by exact rfl) (hfx:Zr env fx=some (.func (.func f) #[] #[]):=by exact rfl) (hv:Yv env xs.toList=some [.string ⟨⟨a⟩⟩,.string ⟨⟨b⟩⟩]:=by exact rfl) :
  QOp P o env S (.int .i64 (Xh a b)):=
 Zll hc ho hfx hv
end
section
theorem Zk {l:List Ch} {c:Ch} (k:Nat) (h:nth l k=some c:=by exact rfl) :
  Gives l c:=
 Gives.self k h
end
section
variable {P:Program} {tt:TT} {env:Env} {o:Oper} {w0 w:World} {F0:Ft} {Hs Rs:List Ch}
theorem J5 {f:Nat} {xs:Array Operand} {ts:Array TypeId} {fx:Operand} (vs:List Value) (cs:List Value) {pre:List Ch} {rd:List Ch} {rest:List Ch} {Post:Value→List Ch→Prop} (ks:List Nat) (hsp:Spec P f (vs ++ cs) pre rd Post) (hS:St w0 F0 Hs Rs w) (hp:pick ks Hs=some (pre,rest)) (hr:∀ c∈rd,Gives (rest ++ Rs) c) (ho:o.op=.call { callee:=.value fx,args:=xs,argTypes:=ts }:=by exact rfl) (hfx:Zr env fx=some (.func (.func f) #[] cs.toArray):=by exact rfl) (hv:Yv env xs.toList=some vs:=by exact rfl) :
  OpT P o env w (fun v w'=>∃ post,Post v post∧St w0 F0 (post ++ rest) Rs w'):=
 Zln ks hsp ho hfx hv hS hp hr (vs:=vs) (cs:=cs)
end
section
variable {P:Program} {n:Nat} {PQ:Xb} {env:Env} {w:World}
theorem Zc1 {c:Operand} {x:Code} {y:Code} {b:Bool} (ht:b=true→J P n x PQ env w) (hn:b=false→J P n y PQ env w) (hc:Zr env c=some (.bool b):=by exact rfl) :
  J P n (.cond c x y) PQ env w:=
 J.cond hc ht hn
end
section
variable {P:Program} {tt:TT} {env:Env} {o:Oper} {w0 w:World} {F0:Ft} {Hs Rs:List Ch}
theorem Y6 {T:Nat} {e:Nat} {m:Nat} {z1:Nat} {z2:Nat} {z:Value} {ie:TI} {ps:Array (Nat×Operand)} {vs:List Value} [q_:TTI P tt] (ty:Ty) (xs:List ty.D) (hS:St w0 F0 Hs Rs w) (hsc:ty.scal=true:=by exact rfl) (ho:o.op=.buildSlice T m ps:=by exact rfl) (ht:find tt T=some ⟨.slice e,z1,z2,z⟩:=by exact rfl) (hi:find tt e=some ie:=by exact rfl) (hpos:0<ie.size:=by decide) (hv:Yv env (ps.toList.map (·.2))=some vs:=by exact rfl) (hm:vs.length=m:=by exact rfl) (hx:xs.length=m:=by exact rfl) (hm2:Nat.ble (m*ie.size) 16777216=true:=by exact rfl) (hix:ps.toList.map (·.1)=List.range' 0 vs.length:=by exact rfl) (hsz:vs.all (fun v=>Nat.beq v.cells.toList.length ie.size)=true:=by exact rfl) (hin:vs.flatMap (fun v=>v.cells.toList)=xs.flatMap ty.enc:=by exact rfl) :
  OpT P o env w (fun v w'=>∃ b,v=.slice (some ⟨b,0,none⟩) xs.length m∧St w0 F0 (Yh e ty xs (.slice (some ⟨b,0,none⟩) xs.length m) :: Hs) Rs w'):=
 Zn7 q_.ok ty hsc xs ho hS ht hi hpos hv hm hx hm2 hix hsz hin
end
section
variable {P:Program} {tt:TT} {env:Env} {S:World→Prop} {o:Oper} {w0 w:World} {F0:Ft} {Hs Rs:List Ch}
theorem Yq {t:Nat} {e:Nat} {xa:Operand} {ya:Operand} {z1:Nat} {z2:Nat} {z:Value} {ie:TI} {ty:Ty} {xs:List ty.D} {ys:List ty.D} {v:Value} {A:Option Addr} {m:Nat} {c:Nat} [q_:TTI P tt] (k:Nat) (hS:St w0 F0 Hs Rs w) (hg:Gives (Hs.eraseIdx k ++ Rs) (rdC e ty ys (.slice A m c))) (hl:(xs.length+ys.length)*ie.bytes≤140737488355328) (hsc:ty.scal=true:=by exact rfl) (ho:o.op=.call { callee:=.builtin .append,args:=#[xa,ya],argTypes:=#[t,t] }:=by exact rfl) (hk:nth Hs k=some (Yh e ty xs v):=by exact rfl) (hx:Zr env xa=some v:=by exact rfl) (hy:Zr env ya=some (.slice A m c):=by exact rfl) (ht:find tt t=some ⟨.slice e,z1,z2,z⟩:=by exact rfl) (hi:find tt e=some ie:=by exact rfl) (hn:ty.n=ie.size:=by exact rfl) (hz:Nat.beq ie.zero.cells.toList.length ie.size=true:=by exact rfl) (hpos:0<ie.size:=by decide) (hby:0<ie.bytes:=by decide) :
  OpT P o env w (fun v' w'=>∃ A' c',v'=.slice A' (xs ++ ys).length c'∧St w0 F0 (Yh e ty (xs ++ ys) (.slice A' (xs ++ ys).length c') :: Hs.eraseIdx k) Rs w'):=
 Zki q_.ok hsc k ho hS hk hg hx hy ht hi hn hz hpos hby hl
end
section
variable {P:Program} {tt:TT} {env:Env} {S:World→Prop} {o:Oper} {w0:World} {F0:Ft} {Hs Rs:List Ch}
theorem Xl {t:Nat} {x:Operand} {ix:Operand} {l:List UInt8} {i:Int} {ki:IntKind} {z1:Nat} {z2:Nat} {z:Value} [q_:TTI P tt] (h0:0≤i) (h1:i<l.length) (ho:o.op=.index t x ix:=by exact rfl) (ht:find tt t=some ⟨.str,z1,z2,z⟩:=by exact rfl) (hv:Zr env x=some (.string ⟨⟨l⟩⟩):=by exact rfl) (hx:Zr env ix=some (.int ki i):=by exact rfl) :
  QOp P o env S (.int .u8 (gtb l i)):=
 Zo1 q_.ok ho ht hv hx h0 h1
end
section
variable {P:Program} {n:Nat} {env:Env} {w:World} {ops:List Oper} {K:Env→World→Prop} {S:World→Prop} {o:Oper} {done:List Nat}
theorem Zhw (t:Nat) {u:Value} {v:Value} (hv:u=v) (h:HJ P n ops S K done ((t,v) :: env) w) (hl:Xz env t=some u:=by exact rfl) :
  HJ P n ops S K done env w:=
 HJ.know hl hv h (t:=t)
end
section
theorem Yd {P : Program} {f : Nat} {fn : Func} {c : Code} {args : List Value} {pre : List Ch} {rd : List Ch} {Post : Value → List Ch → List Ch → Prop} (hf : P.funcs[f]? = some fn) (h : ∀ w0 F0, St w0 F0 pre rd w0 → J P fn.ntmps c (Zc9 P fn w0 F0 Post) (Wu 0 args) w0) (hb : fn.body = some c := by exact rfl) (hn : (fn.name == "runtime.NumGoroutine") = false := by kernel_rfl) (hs : Nat.ble args.length fn.ntmps = true := by kernel_rfl) :
  SpecA P f args pre rd Post:=
 SpecA.enter hf hb hn hs h
end
section
variable {P:Program} {tt:TT} {env:Env} {S:World→Prop} {o:Oper} {w0 w:World} {F0:Ft} {Hs Rs:List Ch}
theorem J9 {α:Type} {t:Nat} {e:Nat} {x:Operand} {lo:Option Operand} {hi:Option Operand} {xs:List α} (sub:List α) {A:Option Addr} {c:Nat} (l:Int) (h:Int) {z1:Nat} {z2:Nat} {z:Value} {ie:TI} [q_:TTI P tt] (hlc:xs.length≤c) (h0:0≤l) (h1:l≤h) (h2:h≤(xs.length:Nat)) (hs:(xs.drop l.toNat).take (h.toNat - l.toNat)=sub) (ho:o.op=.slice t x lo hi none:=by exact rfl) (ht:find tt t=some ⟨.slice e,z1,z2,z⟩:=by exact rfl) (he:find tt e=some ie:=by exact rfl) (hx:Zr env x=some (.slice A xs.length c):=by exact rfl) (hlo:Js env lo 0 l:=by exact ⟨_,rfl⟩) (hhi:Js env hi (xs.length:Nat) h:=by exact rfl) :
  QOp P o env S (.slice (Ve A c l.toNat ie.size) sub.length (c - l.toNat)):=
 Zjv q_.ok ho ht he hx hlc hlo hhi h0 h1 h2 hs (sub:=sub) (l:=l) (h:=h)
end
section
theorem Vw {E:Nat} (ty:Ty) {xs:List ty.D} (sub:List ty.D) {A:Option Addr} {n:Nat} {c:Nat} (l:Int) (h:Int) {sz:Nat} (h0:0≤l) (h1:l≤h) (h2:h≤(xs.length:Nat)) (hs:(xs.drop l.toNat).take (h.toNat - l.toNat)=sub) (hsz:ty.n=sz:=by exact rfl) (w:World) (F:Nat→Prop) (hr:(rdC E ty xs (.slice A n c)).ok w F) :
  (rdC E ty sub (.slice (Ve A c l.toNat sz) sub.length (c - l.toNat))).ok w F:=
 Zhg hsz h0 h1 h2 hs w F hr (ty:=ty) (sub:=sub) (l:=l) (h:=h)
end
section
variable {P:Program} {tt:TT} {env:Env} {S:World→Prop} {o:Oper} {w0 w:World} {F0:Ft} {Hs Rs:List Ch}
theorem Uj {α:Type} {t:Nat} {e:Nat} {x:Operand} {hi:Option Operand} {xs:List α} (sub:List α) {A:Option Addr} {c:Nat} (h:Int) {z1:Nat} {z2:Nat} {z:Value} {ie:TI} [q_:TTI P tt] (hlc:xs.length≤c) (h1:0≤h) (h2:h≤(xs.length:Nat)) (ho:o.op=.slice t x none hi none:=by exact rfl) (ht:find tt t=some ⟨.slice e,z1,z2,z⟩:=by exact rfl) (he:find tt e=some ie:=by exact rfl) (hx:Zr env x=some (.slice A xs.length c):=by exact rfl) (hhi:Js env hi (xs.length:Nat) h:=by exact ⟨_,rfl⟩) (hs:xs.take h.toNat=sub:=by exact rfl) :
  QOp P o env S (.slice A sub.length c):=
 Zol q_.ok ho ht he hx hlc hhi h1 h2 hs (sub:=sub) (h:=h)
end
section
variable {P:Program} {tt:TT} {env:Env} {S:World→Prop} {o:Oper} {w0 w:World} {F0:Ft} {Hs Rs:List Ch}
theorem Zbt {E:Nat} (ty:Ty) {xs:List ty.D} (sub:List ty.D) {A:Option Addr} {n:Nat} {c:Nat} (h:Int) (h1:0≤h) (h2:h≤(xs.length:Nat)) (hs:xs.take h.toNat=sub:=by exact rfl) (w:World) (F:Nat→Prop) (hr:(rdC E ty xs (.slice A n c)).ok w F) :
  (rdC E ty sub (.slice A sub.length c)).ok w F:=
 Zm7 h1 h2 hs w F hr (ty:=ty) (sub:=sub) (h:=h)
end
section
variable {P:Program} {tt:TT} {env:Env} {S:World→Prop} {o:Oper} {w0:World} {F0:Ft} {Hs Rs:List Ch}
theorem Jo {E:Nat} {t:Ty} [Inhabited t.D] {xs:List t.D} {A:Option Addr} {m:Nat} {c:Nat} {w:World} {i:Int} (hS:Wh w0 F0 Hs Rs w) (hg:Gives (Hs ++ Rs) (rdC E t xs (.slice A m c))) (h1:i<xs.length) (h0:0≤i:=by decide) :
  A=some ⟨blk A,ofs A,none⟩:=
 Zx hS hg h0 h1
end
section
variable {P:Program} {tt:TT} {env:Env} {S:World→Prop} {o:Oper} {w0:World} {F0:Ft} {Hs Rs:List Ch}
theorem V4 {t:Nat} {e:Nat} {x:Operand} {ix:Operand} {A:Option Addr} {n:Nat} {c:Nat} {i:Int} {ki:IntKind} {z1:Nat} {z2:Nat} {z:Value} {ie:TI} [q_:TTI P tt] (hA:A=some ⟨blk A,ofs A,none⟩) (h1:i<n) (ho:o.op=.indexAddr t x ix:=by exact rfl) (ht:find tt t=some ⟨.slice e,z1,z2,z⟩:=by exact rfl) (he:find tt e=some ie:=by exact rfl) (hv:Zr env x=some (.slice A n c):=by exact rfl) (hx:Zr env ix=some (.int ki i):=by exact rfl) (h0:0≤i:=by decide) :
  QOp P o env S (.pointer (some ⟨blk A,ofs A+i.toNat*ie.size,none⟩)):=
 Zhy q_.ok ho ht he hv hx hA h0 h1
end
section
variable {P:Program} {tt:TT} {env:Env} {S:World→Prop} {o:Oper} {w0:World} {F0:Ft} {Hs Rs:List Ch}
theorem Vp {E:Nat} {t:Ty} [Inhabited t.D] {xs:List t.D} {A:Option Addr} {m:Nat} {c:Nat} {ty:Nat} {x:Operand} {i:TI} {ix:Int} (f:Nat) {sz:Nat} {v:Value} [q_:TTI P tt] (hS:∀ w,S w→Wh w0 F0 Hs Rs w) (hg:Gives (Hs ++ Rs) (rdC E t xs (.slice A m c))) (h1:ix<xs.length) (hfl:t.flat=true:=by exact rfl) (h0:0≤ix:=by decide) (ho:o.op=.load ty x:=by exact rfl) (hsz:t.n=sz:=by exact rfl) (hi:find tt ty=some i:=by exact rfl) (ha:Zr env x=some (.pointer (some ⟨blk A,ofs A+ix.toNat*sz+f,none⟩)):=by exact rfl) (hp:Vo i (((t.enc (gt xs ix)).drop f).take i.size)=some v:=by exact rfl) :
  QOp P o env S v:=
 Zby q_.ok hfl hS hg h0 h1 ho hsz hi ha hp (f:=f)
end
section
variable {P:Program} {tt:TT} {env:Env} {o:Oper} {w0 w:World} {F0:Ft} {Hs Rs:List Ch}
theorem Zz {f:Nat} {xs:Array Operand} {ts:Array TypeId} {fx:Operand} {vs:List Value} {pre:List Ch} {rd:List Ch} {rest:List Ch} {Post:Value→List Ch→List Ch→Prop} (ks:List Nat) (hsp:SpecA P f vs pre rd Post) (hS:St w0 F0 Hs Rs w) (hp:pick ks Hs=some (pre,rest)) (hr:∀ c∈rd,Gives Rs c) (ho:o.op=.call { callee:=.value fx,args:=xs,argTypes:=ts }:=by exact rfl) (hfx:Zr env fx=some (.func (.func f) #[] #[]):=by exact rfl) (hv:Yv env xs.toList=some vs:=by exact rfl) :
  OpT P o env w (fun v w'=>∃ post rp,Post v post rp∧St w0 F0 (post ++ rest) (rp ++ Rs) w'):=
 Zmo ks hsp ho hfx hv hS hp hr
end
section
variable {P:Program} {tt:TT} {env:Env} {o:Oper} {w0 w:World} {F0:Ft} {Hs Rs:List Ch}
theorem Zbo {t:Nat} {ts:Nat} {e:Nat} {xa:Operand} {ya:Operand} {z1:Nat} {z2:Nat} {z3:Nat} {z4:Nat} {z:Value} {zs:Value} {xs:List Int} {s:List UInt8} {v:Value} [q_:TTI P tt] (k:Nat) (hS:St w0 F0 Hs Rs w) (hl:xs.length+s.length≤140737488355328) (ho:o.op=.call { callee:=.builtin .append,args:=#[xa,ya],argTypes:=#[t,ts] }:=by exact rfl) (hk:nth Hs k=some (Yh e (.int .u8) xs v):=by exact rfl) (hx:Zr env xa=some v:=by exact rfl) (hy:Zr env ya=some (.string ⟨⟨s⟩⟩):=by exact rfl) (ht:find tt t=some ⟨.slice e,z1,z2,z⟩:=by exact rfl) (hts:find tt ts=some ⟨.str,z3,z4,zs⟩:=by exact rfl) (hi:find tt e=some ⟨.int .u8,1,1,.int .u8 0⟩:=by exact rfl) :
  OpT P o env w (fun v' w'=>∃ A' c',v'=.slice A' (xs ++ toB s).length c'∧St w0 F0 (Yh e (.int .u8) (xs ++ toB s) (.slice A' (xs ++ toB s).length c') :: Hs.eraseIdx k) Rs w'):=
 Zfi q_.ok k ho hS hk hx hy ht hts hi hl
end
section
variable {P:Program} {tt:TT} {env:Env} {S:World→Prop} {o:Oper} {w0 w:World} {F0:Ft} {Hs Rs:List Ch} {α:Type} {k:IntKind} {f:α→Value}
theorem Wa {t:Nat} {kt:Nat} {et:Nat} {x:Operand} {y:Operand} {b:Nat} {ix:Int} {es:List (Int×α)} {it:TI} {ik:TI} {ie:TI} [q_:TTI P tt] (d:α) (n:Nat) (hS:∀ w,S w→Wh w0 F0 Hs Rs w) (hk:nth Hs n=some (Y2 k f b es):=by exact rfl) (ho:o.op=.lookup t x y true:=by exact rfl) (hi:find tt t=some it:=by exact rfl) (hkm:it.kind=.map kt et:=by exact rfl) (hki:find tt kt=some ik:=by exact rfl) (hkk:ik.kind=.int k:=by exact rfl) (hei:find tt et=some ie:=by exact rfl) (hz:ie.zero=f d:=by exact rfl) (hx:Zr env x=some (.map (some b)):=by exact rfl) (hy:Zr env y=some (.int k ix):=by exact rfl) :
  QOp P o env S (.tuple #[f (Zq d es ix),.bool (Y1 es ix)]):=
 Zho q_.ok d n hS hk ho hi hkm hki hkk hei hz hx hy
end
section
variable {P:Program} {tt:TT} {env:Env} {S:World→Prop} {o:Oper} {w0 w:World} {F0:Ft} {Hs Rs:List Ch}
theorem Yn {E:Nat} {t:Ty} [Inhabited t.D] {xs:List t.D} {A:Option Addr} {m:Nat} {c:Nat} {ty:Nat} {x:Operand} {i:TI} {ix:Int} (f:Nat) {sz:Nat} {u:Value} {v:Value} [q_:TTI P tt] (hS:∀ w,S w→Wh w0 F0 Hs Rs w) (hg:Gives (Hs ++ Rs) (rdC E t xs (.slice A m c))) (h0:0≤ix) (h1:ix<xs.length) (ho:o.op=.load ty x:=by exact rfl) (hsz:t.n=sz:=by exact rfl) (hi:find tt ty=some i:=by exact rfl) (ha:Zr env x=some (.pointer (some ⟨blk A,ofs A+ix.toNat*sz+f,none⟩)):=by exact rfl) (hu:t.at? (gt xs ix) f=some u:=by exact rfl) (hp:Vo i [u]=some v:=by exact rfl) :
  QOp P o env S v:=
 Zhx q_.ok hS hg h0 h1 ho hsz hi ha hu hp (f:=f)
end
section
variable {P:Program} {tt:TT} {env:Env} {S:World→Prop} {o:Oper} {w0 w:World} {F0:Ft} {Hs Rs:List Ch}
theorem Vg {t:Nat} {e:Nat} (f:Nat) {sz:Nat} {c:Nat} {e2:Nat} {x:Operand} {y:Operand} {i:TI} (ty:Ty) {t2:Ty} [Inhabited ty.D] {xs:List ty.D} {A:Option Addr} (ix:Int) {v:Value} {sv:Value} {ys:List t2.D} [q_:TTI P tt] (new:ty.D) (hS:St w0 F0 (Zi6 (Yh e ty xs (.slice A xs.length c)) (Yh e2 t2 ys sv) :: Hs) Rs w) (h0:0≤ix) (h1:ix<xs.length) (hnew:∀ w F cs,ty.ok w F (gt xs ix) cs→(rdC e2 t2 ys sv).ok w F→ty.ok w F new (Z6 f v.cells.toList cs)) (ho:o.op=.store t x y:=by exact rfl) (hi:find tt t=some i:=by exact rfl) (ha:Zr env x=some (.pointer (some ⟨blk A,ofs A+ix.toNat*sz+f,none⟩)):=by exact rfl) (hv:Zr env y=some v:=by exact rfl) (hn:ty.n=sz:=by exact rfl) (hsz:Nat.beq v.cells.toList.length i.size=true:=by exact rfl) (hle:Nat.ble (f+i.size) sz=true:=by exact rfl) (hc1:v.cells.toList.all (fun u=>u.oneCell')=true:=by exact rfl) :
  OpT P o env w (fun _ w'=>St w0 F0 (Yh e ty (xs.set ix.toNat new) (.slice A (xs.set ix.toNat new).length c) :: Hs) Rs w'):=
 Zg3 q_.ok new ho hS hi h0 h1 ha hv hn hsz hle hc1 hnew (f:=f) (ty:=ty) (ix:=ix)
end
section
variable {P:Program} {tt:TT} {env:Env} {S:World→Prop} {o:Oper} {w0 w:World} {F0:Ft} {Hs Rs:List Ch}
theorem Wd {t:Nat} {e:Nat} (f:Nat) {sz:Nat} {c:Nat} {x:Operand} {y:Operand} {i:TI} (ty:Ty) [Inhabited ty.D] {xs:List ty.D} {A:Option Addr} (ix:Int) {v:Value} [q_:TTI P tt] (new:ty.D) (k:Nat) (hS:St w0 F0 Hs Rs w) (hk:nth Hs k=some (Yh e ty xs (.slice A xs.length c))) (h0:0≤ix) (h1:ix<xs.length) (hnew:∀ w F cs,ty.ok w F (gt xs ix) cs→ty.ok w F new (Z6 f v.cells.toList cs)) (ho:o.op=.store t x y:=by exact rfl) (hi:find tt t=some i:=by exact rfl) (ha:Zr env x=some (.pointer (some ⟨blk A,ofs A+ix.toNat*sz+f,none⟩)):=by exact rfl) (hv:Zr env y=some v:=by exact rfl) (hn:ty.n=sz:=by exact rfl) (hsz:Nat.beq v.cells.toList.length i.size=true:=by exact rfl) (hle:Nat.ble (f+i.size) sz=true:=by exact rfl) (hc1:v.cells.toList.all (fun u=>u.oneCell')=true:=by exact rfl) :
  OpT P o env w (fun _ w'=>St w0 F0 (Yh e ty (xs.set ix.toNat new) (.slice A (xs.set ix.toNat new).length c) :: Hs.eraseIdx k) Rs w'):=
 Zfb q_.ok new k ho hS hk hi h0 h1 ha hv hn hsz hle hc1 hnew (f:=f) (ty:=ty) (ix:=ix)
end
section
variable {P:Program} {tt:TT} {env:Env} {S:World→Prop} {o:Oper} {w0 w:World} {F0:Ft} {Hs Rs:List Ch}
theorem Ze8 {α:Type} {t:Nat} {e:Nat} {x:Operand} {lo:Option Operand} {hi:Option Operand} {xs:List α} (sub:List α) {A:Option Addr} {c:Nat} (l:Int) (h:Int) {z1:Nat} {z2:Nat} {z:Value} {ie:TI} [q_:TTI P tt] (hlc:xs.length≤c) (h0:0≤l) (h1:l≤h) (h2:h≤(xs.length:Nat)) (ho:o.op=.slice t x lo hi none:=by exact rfl) (ht:find tt t=some ⟨.slice e,z1,z2,z⟩:=by exact rfl) (he:find tt e=some ie:=by exact rfl) (hx:Zr env x=some (.slice A xs.length c):=by exact rfl) (hlo:Js env lo 0 l:=by exact ⟨_,rfl⟩) (hhi:Js env hi (xs.length:Nat) h:=by exact ⟨_,rfl⟩) (hs:(xs.drop l.toNat).take (h.toNat - l.toNat)=sub:=by exact rfl) :
  QOp P o env S (.slice (Ve A c l.toNat ie.size) sub.length (c - l.toNat)):=
 Zjv q_.ok ho ht he hx hlc hlo hhi h0 h1 h2 hs (sub:=sub) (l:=l) (h:=h)
end
section
theorem Vr {l:List Ch} {c:Ch} {c':Ch} (k:Nat) (hc:∀ w F,c'.ok w F→c.ok w F) (h:nth l k=some c':=by exact rfl) :
  Gives l c:=
 Gives.of k h hc
end
section
variable {P:Program} {tt:TT} {env:Env} {S:World→Prop} {o:Oper} {w0 w:World} {F0:Ft} {Hs Rs:List Ch}
theorem J1 {E:Nat} {t:Ty} {t2:Ty} {xs:List t.D} {A:Option Addr} {A2:Option Addr} {c:Nat} {c2:Nat} {E2:Nat} {ys:List t2.D} {ty:Nat} {x:Operand} {i:TI} {ix:Int} {f:Nat} {sz:Nat} {v:Value} [q_:TTI P tt] (hS:∀ w,S w→Wh w0 F0 Hs Rs w) (hg:Gives (Hs ++ Rs) (Zdc E t xs A c ix f E2 t2 ys A2 c2)) (ho:o.op=.load ty x:=by exact rfl) (hsz:t.n=sz:=by exact rfl) (hi:find tt ty=some i:=by exact rfl) (ha:Zr env x=some (.pointer (some ⟨blk A,ofs A+ix.toNat*sz+f,none⟩)):=by exact rfl) (hp:Vo i [.slice A2 ys.length c2]=some v:=by exact rfl) :
  QOp P o env S v:=
 Zlk q_.ok hS hg ho hsz hi ha hp
end
section
variable {P:Program} {tt:TT} {env:Env} {S:World→Prop} {o:Oper} {w0 w:World} {F0:Ft} {Hs Rs:List Ch} {α:Type} {k:IntKind} {f:α→Value}
theorem J0 {t:Nat} {kt:Nat} {et:Nat} {x:Operand} {y:Operand} {b:Nat} {ix:Int} {es:List (Int×α)} {it:TI} {ik:TI} {ie:TI} [q_:TTI P tt] (d:α) (n:Nat) (hS:∀ w,S w→Wh w0 F0 Hs Rs w) (hk:nth Hs n=some (Y2 k f b es):=by exact rfl) (ho:o.op=.lookup t x y false:=by exact rfl) (hi:find tt t=some it:=by exact rfl) (hkm:it.kind=.map kt et:=by exact rfl) (hki:find tt kt=some ik:=by exact rfl) (hkk:ik.kind=.int k:=by exact rfl) (hei:find tt et=some ie:=by exact rfl) (hz:ie.zero=f d:=by exact rfl) (hx:Zr env x=some (.map (some b)):=by exact rfl) (hy:Zr env y=some (.int k ix):=by exact rfl) :
  QOp P o env S (f (Zq d es ix)):=
 Zmh q_.ok d n hS hk ho hi hkm hki hkk hei hz hx hy
end
section
theorem Zjk {E:Nat} (ty:Ty) {xs:List ty.D} (sub:List ty.D) {A:Option Addr} {n:Nat} {c:Nat} (l:Int) (h:Int) {sz:Nat} (h0:0≤l) (h1:l≤h) (h2:h≤(xs.length:Nat)) (hsz:ty.n=sz:=by exact rfl) (hs:(xs.drop l.toNat).take (h.toNat - l.toNat)=sub:=by exact rfl) (w:World) (F:Nat→Prop) (hr:(rdC E ty xs (.slice A n c)).ok w F) :
  (rdC E ty sub (.slice (Ve A c l.toNat sz) sub.length (c - l.toNat))).ok w F:=
 Zhg hsz h0 h1 h2 hs w F hr (ty:=ty) (sub:=sub) (l:=l) (h:=h)
end
section
variable {P:Program} {tt:TT} {env:Env} {o:Oper} {w0 w:World} {F0:Ft} {Hs Rs:List Ch}
theorem Zhj {s:Nat} {d:Nat} {e:Nat} {x:Operand} {z1:Nat} {z2:Nat} {z3:Nat} {z4:Nat} {z5:Nat} {z6:Nat} {z:Value} {z':Value} {z'':Value} {xs:List Int} {A:Option Addr} {n:Nat} {c:Nat} {S:World→Prop} [q_:TTI P tt] (hS:∀ w,S w→Wh w0 F0 Hs Rs w) (hg:Gives (Hs ++ Rs) (rdC e (.int .u8) xs (.slice A n c))) (ho:o.op=.convert s d x:=by exact rfl) (hs:find tt s=some ⟨.slice e,z1,z2,z⟩:=by exact rfl) (he:find tt e=some ⟨.int .u8,z5,z6,z''⟩:=by exact rfl) (hd:find tt d=some ⟨.str,z3,z4,z'⟩:=by exact rfl) (hx:Zr env x=some (.slice A n c):=by exact rfl) :
  QOp P o env S (.string ⟨⟨toS xs⟩⟩):=
 Znn q_.ok hS hg ho hs he hd hx
end
section
theorem Y9 {w0:World} {w:World} {F0:Ft} {Hs:List Ch} {Rs:List Ch} {cs:List Ch} (h:St w0 F0 Hs Rs w) (ks:List Nat) (hc:sel ks Rs=some cs:=by exact rfl) :
  St w0 F0 Hs cs w:=
 St.rds h ks hc
end
section
variable {P:Program} {n:Nat} {env:Env} {w:World} {ops:List Oper} {K:Env→World→Prop} {o:Oper} {l:List Oper}
theorem Yk (t:Nat) {u:Value} {v:Value} (hv:u=v) (h:RJ P n ops l K ((t,v) :: env) w) (hl:Xz env t=some u:=by exact rfl) :
  RJ P n ops l K env w:=
 RJ.know hl hv h (t:=t)
end
section
variable {P:Program} {tt:TT} {env:Env} {S:World→Prop} {o:Oper} {w0 w:World} {F0:Ft} {Hs Rs:List Ch} {α:Type} {k:IntKind} {f:α→Value}
theorem G6 {t:Nat} (k:IntKind) (f:α→Value) (hS:St w0 F0 Hs Rs w) (ho:o.op=.makeMap t none:=by exact rfl) :
  OpT P o env w (fun v' w'=>∃ b,v'=.map (some b)∧St w0 F0 (Y2 k f b [] :: Hs) Rs w'):=
 Zj0 k f ho hS
end
section
variable {P:Program} {tt:TT} {env:Env} {o:Oper} {w0 w:World} {F0:Ft} {Hs Rs:List Ch}
theorem Zbp {t:Nat} {e:Nat} (f:Nat) (sz:Nat) {c:Nat} {x:Operand} {y:Operand} {i:TI} (ty:Ty) [Inhabited ty.D] {xs:List ty.D} {A:Option Addr} (ix:Int) {v:Value} [q_:TTI P tt] (new:ty.D) (k:Nat) (hS:St w0 F0 Hs Rs w) (hk:nth Hs k=some (Yh e ty xs (.slice A xs.length c))) (h1:ix<xs.length) (hsc:ty.scal=true:=by exact rfl) (ho:o.op=.store t x y:=by exact rfl) (hi:find tt t=some i:=by exact rfl) (h0:0≤ix:=by decide) (ha:Zr env x=some (.pointer (some ⟨blk A,ofs A+ix.toNat*sz+f,none⟩)):=by exact rfl) (hv:Zr env y=some v:=by exact rfl) (hn:ty.n=sz:=by exact rfl) (hsz:Nat.beq v.cells.toList.length i.size=true:=by exact rfl) (hle:Nat.ble (f+i.size) sz=true:=by exact rfl) (hc1:v.cells.toList.all (fun u=>u.oneCell')=true:=by exact rfl) (hnew:Z6 f v.cells.toList (ty.enc (gt xs ix))=ty.enc new:=by exact rfl) :
  OpT P o env w (fun _ w'=>St w0 F0 (Yh e ty (xs.set ix.toNat new) (.slice A (xs.set ix.toNat new).length c) :: Hs.eraseIdx k) Rs w'):=
 Bz q_.ok hsc new k ho hS hk hi h0 h1 ha hv hn hsz hle hc1 hnew (f:=f) (sz:=sz) (ty:=ty) (ix:=ix)
end
section
variable {P:Program} {tt:TT} {env:Env} {o:Oper} {w0 w:World} {F0:Ft} {Hs Rs:List Ch}
theorem Zfg {n : Nat} {ops : List Oper} {S : World → Prop} {done : List Nat} {K : Env → World → Prop} (i : Nat) {f : Nat} {fn : Func} {c : Code} {xs : Array Operand} {ts : Array TypeId} {fx : Operand} {vs : List Value} (hi : nth ops i = some o) (hf : P.funcs[f]? = some fn) (hj : J P fn.ntmps c (Za6 P fn (fun v w' => S w' ∧ HJ P n ops S K (i :: done) (Xn o.dst v env) w')) (Wu 0 vs) w) (hs : Wb ops = true := by exact rfl) (hr : U2 ops done i o = true := by exact rfl) (hw : Ym ops env o = some true := by exact rfl) (hd : Xo n o.dst = true := by exact rfl) (ho : o.op = .call { callee := .value fx, args := xs, argTypes := ts } := by exact rfl) (hfx : Zr env fx = some (.func (.func f) #[] #[]) := by exact rfl) (hv : Yv env xs.toList = some vs := by exact rfl) (hb : fn.body = some c := by exact rfl) (hn : (fn.name == "runtime.NumGoroutine") = false := by kernel_rfl) (hsz : Nat.ble vs.length fn.ntmps = true := by kernel_rfl) :
  HJ P n ops S K done env w:=
 HJ.inline hs hi hr hw hd ho hfx hv hf hb hn hsz hj (i:=i)
end
section
variable {P:Program} {tt:TT} {env:Env} {S:World→Prop} {o:Oper} {w0 w:World} {F0:Ft} {Hs Rs:List Ch}
theorem Yw {a:Ty} {b:Ty} {x:(Ty.pair a b).D} {cs:List Value} (k:Nat) (h:St w0 F0 Hs Rs w) (hk:nth Rs k=some (okC (.pair a b) x cs):=by exact rfl) :
  ∃ c1 c2,cs=c1 ++ c2∧St w0 F0 Hs (okC a x.1 c1 :: okC b x.2 c2 :: Rs) w:=
 St.okpr k h hk
end
section
variable {P:Program} {tt:TT} {env:Env} {S:World→Prop} {o:Oper} {w0 w:World} {F0:Ft} {Hs Rs:List Ch}
theorem Xw (t:Ty) {x:t.D} {cs:List Value} (k:Nat) (h:St w0 F0 Hs Rs w) (hfl:t.flat=true:=by exact rfl) (hk:nth Rs k=some (okC t x cs):=by exact rfl) :
  cs=t.enc x:=
 St.okflat hfl k h hk (t:=t)
end
section
variable {P:Program} {tt:TT} {env:Env} {S:World→Prop} {o:Oper} {w0 w:World} {F0:Ft} {Hs Rs:List Ch}
theorem Y0 {E:Nat} {t:Ty} {xs:List t.D} {cs:List Value} (k:Nat) (h:St w0 F0 Hs Rs w) (hk:nth Rs k=some (okC (.slice E t) xs cs):=by exact rfl) :
  ∃ A c,cs=[.slice A xs.length c]:=
 St.okslice k h hk
end
section
variable {P:Program} {tt:TT} {env:Env} {S:World→Prop} {o:Oper} {w0 w:World} {F0:Ft} {Hs Rs:List Ch}
theorem Vk {ty:Nat} {x:Operand} {i:TI} {A:Option Addr} {off:Nat} (f:Nat) {cs:List Value} {v:Value} [q_:TTI P tt] (hS:∀ w,S w→Wh w0 F0 Hs Rs w) (hg:Gives (Hs ++ Rs) (elC A off cs)) (ho:o.op=.load ty x:=by exact rfl) (hi:find tt ty=some i:=by exact rfl) (ha:Zr env x=some (.pointer (some ⟨blk A,off+f,none⟩)):=by exact rfl) (hp:Vo i ((cs.drop f).take i.size)=some v:=by exact rfl) :
  QOp P o env S v:=
 Zk3 q_.ok hS hg ho hi ha hp (f:=f)
end
end Go.SK
