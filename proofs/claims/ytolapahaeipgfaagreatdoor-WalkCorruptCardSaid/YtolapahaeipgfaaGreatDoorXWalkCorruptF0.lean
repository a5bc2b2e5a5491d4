/- The types of the program, and its functions as the code computes them, each proved. -/
import Derived.Test.YtolapahaeipgfaaGreatDoorXWalkCorruptKF
import Derived.Test.YtolapahaeipgfaaGreatDoorProg
import Derived.Shelf.Spec.TrailingZeros
set_option linter.unusedVariables false
set_option linter.unusedSimpArgs false
set_option maxRecDepth 20000
set_option maxHeartbeats 40000000
namespace Go.SK.T
open Go Go.SK Go.Proofs
abbrev zV8 (c:Int×Int×Int×Int×Int×Int×Int×Int):Array Value:=#[.int .i64 c.1,.int .i64 c.2.1,.int .i64 c.2.2.1,.int .i64 c.2.2.2.1,.int .i64 c.2.2.2.2.1,.int .i64 c.2.2.2.2.2.1,.int .i64 c.2.2.2.2.2.2.1,.int .i64 c.2.2.2.2.2.2.2]
abbrev uA:=IntKind.u8
abbrev uD:=IntKind.u32
abbrev uH:=IntKind.u64
abbrev iH:=IntKind.i64
open BitVec (ofInt)
open List (length_set length_nil append_assoc length_cons drop_eq_nil_of_le length_take length_drop length_map length_range length_replicate)
open Tryz (prog)
abbrev T2:=List Int
abbrev T1:=Int×Int
abbrev T0:=Int×Bool
abbrev TZ:=List Value
abbrev TY:=List UInt8
abbrev TX:=List Int×Int
abbrev TW:=Int×List Int
abbrev TV:=Bool×List Int
abbrev TU:=List UInt8×Int
abbrev TS:=List T1
abbrev TR:=List T0
abbrev TQ:=List TY
abbrev TP:=Int×Int×List Int
abbrev TO:=Int×Bool×List Int
abbrev TN:=TP
abbrev TM:=List (Int×Int×Bool)
abbrev TL:=List UInt8×List UInt8
abbrev TJ:=Int×Int×Int×Int×Int
abbrev TH:=Int×List Int×T1
abbrev TG:=TM×Int
abbrev TF:=List UInt8×Bool×List UInt8
abbrev TE:=List UInt8×List UInt8×Bool
abbrev TD:=List TL
abbrev TC:=TD
abbrev TA:=List (Int×List Int×Bool×Int)
abbrev Tz:=Int×TG
abbrev Tx:=List TF
abbrev Tw:=TE×Bool
abbrev Tv:=Tx
abbrev Tu:=List Int×Int×TN
abbrev Tt:=Int×Int×Int×Int×Int×Int×Int×Int
abbrev Ts:=Tt
abbrev Tr:=TD×Tx×List Int×List Int
abbrev Tq:=Int×List Int×List TY×Tx×TD
abbrev Tp:=List Tq
abbrev Tn:=List Tp
abbrev Tm:=Tn
abbrev Tl:=Tq×TX
abbrev Tk:=TH×TA×TS×List Int×TG
abbrev Tj:=Int×Tk
abbrev Ti:=Tt×Tk×TN×Int
abbrev Th:=Int×Ti
abbrev Tg:=List Int×Ti
abbrev Tf:=Int×Bool×Ti
abbrev Te:=Ti×TR×Bool
abbrev Td:=Int×Bool×TR×Te
abbrev Tc:=Int×TJ×Te
abbrev Tb:=Tq×Int×Ti
abbrev Ta:=Option Ti×Int×Tn×Bool
abbrev T3:=@HJ.loads
abbrev T4:=@HJ.pick
abbrev T5:=@J.block
abbrev T6:=@J.cond
abbrev T7:=@J.envEq
abbrev T8:=@J.exit
abbrev T9:=@J.loop
abbrev Sa:=@J.midS
abbrev Sb:=@J.region
abbrev Sc:=@J.ret
abbrev Sd:=@J.seq
abbrev Se:=@J.skip
abbrev Sf:=@Nat.le_refl
abbrev Sg:=@OpT.ofq
abbrev Sh:=@OptC.no
abbrev Si:=@OptC.yes
abbrev Sj:=@RV.cell
abbrev Sk:=@RV.tmp
theorem rRL {P:Program} {tt:TT} {n:Nat} {ops l l' K env env' w0 w F0 Hs Rs} {o:Oper} {t x} {i:TI} {b off tb cs v} [q:TTI P tt] (k j:Nat) (hS:St w0 F0 Hs Rs w) (hr:RJ P n ops l' K (Xe o.dst v env') w) (h:B2 tt n ops k l env=some (o :: l',env'):=by exact rfl) (hw:Ye ops env' o=some true:=by exact rfl) (hd:Xs n o.dst=true:=by exact rfl) (hk:nth Hs j=some (Yx b tb cs):=by exact rfl) (ho:o.op=.load t x:=by exact rfl) (hi:find tt t=some i:=by exact rfl) (ha:Zl env' x=some (.pointer (some ⟨b,off,none⟩)):=by exact rfl) (hp:Wv i ((cs.drop off).take i.size)=some v:=by exact rfl):RJ P n ops l K env w:=RJ.run q.ok k h (RJ.q hw hd (Jz q.ok j hS.wht hk ho hi ha hp) hr)
theorem rLo {P:Program} {tt:TT} {n:Nat} {ops l K env w0 w F0 Hs Rs} {o:Oper} {t x} {i:TI} {b off tb cs v} [q:TTI P tt] (j:Nat) (hS:St w0 F0 Hs Rs w) (hr:RJ P n ops l K (Xe o.dst v env) w) (hw:Ye ops env o=some true:=by exact rfl) (hd:Xs n o.dst=true:=by exact rfl) (hk:nth Hs j=some (Yx b tb cs):=by exact rfl) (ho:o.op=.load t x:=by exact rfl) (hi:find tt t=some i:=by exact rfl) (ha:Zl env x=some (.pointer (some ⟨b,off,none⟩)):=by exact rfl) (hp:Wv i ((cs.drop off).take i.size)=some v:=by exact rfl):RJ P n ops (o :: l) K env w:=RJ.q hw hd (Jz q.ok j hS.wht hk ho hi ha hp) hr
theorem rFi {P:Program} {tt:TT} {n:Nat} {ops K} {w:World} [q:TTI P tt] {l env E} (ts) (hk:K E w) (h:Bz tt n ops ts l env=some E:=by exact rfl):RJ P n ops l K env w:=Zes ts h hk
theorem hRF {P:Program} {tt:TT} {n:Nat} {ops done K S} {w:World} [q:TTI P tt] {env done' env' E} (is ts) (hk:K E w) (hs:X0 ops=true:=by exact rfl) (h:SK.runH tt n ops is done env=some (done',env'):=by exact rfl) (hr:(Bo ops && U7 done' 0 ops)=true:=by exact rfl) (h2:Zac ts env' some=some E:=by exact rfl):HJ P n ops S K done env w:=Zq is (Y7 ts hk hr h2) hs h
section
variable {P:Program} {tt:TT} {n:Nat} {ops l:List Oper} {K:Env->World->Prop} {S:World->Prop} {done:List Nat} {env:Env} {w w0 w2:World} {F0:Ft} {Hs Rs rest:List Ch} {o:Oper} {t e m c d E mm c2:Nat} {x ix:Operand} {A:Option Addr} {i:Int} {ki:IntKind} {z1 z2:Nat} {z:Value} {ie:TI} {ρ α:Type} {X:Option ρ} {r:ρ} {ty:Ty} [Inhabited ty.D] {xs:List ty.D} [q_:TTI P tt]
abbrev RjO (ops:List Oper) (env:Env) (n:Nat) (o:Oper):Prop:=Ye ops env o=some true/\Xs n o.dst=true
abbrev HjO (ops:List Oper) (env:Env) (n:Nat) (done:List Nat) (j:Nat) (o:Oper) (d:Nat):Prop:=X0 ops=true/\nth ops j=some o/\Jx ops done j o=true/\Ye ops env o=some true/\o.dst=some d/\Nat.ble (d+1) n=true
abbrev IxO (tt:TT) (env:Env) (o:Oper) (t e m c:Nat) (x ix:Operand) (A:Option Addr) (i:Int) (ki:IntKind) (z1 z2:Nat) (z:Value) (ie:TI):Prop:=o.op=.indexAddr t x ix/\find tt t=some ⟨.slice e,z1,z2,z⟩/\find tt e=some ie/\Zl env x=some (.slice A m c)/\Zl env ix=some (.int ki i)
theorem nO (h:St w0 F0 Hs Rs w) (ks) {ps Hs'} (hp:Vi ks Hs (fun p _=>some p)=some ps:=by exact rfl) (e:nfK ps some=some Hs':=by exact rfl):St w0 F0 Hs' Rs w:=nf (sO h ks hp) e
theorem cA {c:Option α} {f:α->Option ρ} {fno} {xs} {ts:Array TypeId} {fx} {vs} {pre rd} {V:α->Option Addr->Nat->Value} {L Hs':α->Option Addr->Nat->List Ch} (H:c.bind f=some r) (ks) (hS:St w0 F0 Hs Rs w) (hp:Vi ks Hs (fun p r=>some (p,r))=some (pre,rest)) (hsp:∀ {x},c=some x->Spec P fno vs pre rd (fun v l=>∃ A k,v=V x A k/\l=L x A k)) (hr:∀ c∈rd,Gives (rest ++ Rs) c) (hk:∀ x A k w',f x=some r->St w0 F0 (Hs' x A k) Rs w'->RJ P n ops l K (Xe o.dst (V x A k) env) w') (hn:∀ x A k,nfK (L x A k ++ rest) some=some (Hs' x A k):=by exact fun _ _ _=>rfl) (q:RjO ops env n o:=by exact ⟨rfl,rfl⟩) (ho:o.op=.call { callee:=.value fx,args:=xs,argTypes:=ts }:=by exact rfl) (hfx:Zl env fx=some (.func (.func fno) #[] #[]):=by exact rfl) (hv:Yt env xs.toList=some vs:=by exact rfl):RJ P n ops (o :: l) K env w:=by
 refine cE H ks hS hp hsp hr ?_ q.1 q.2 ho hfx hv;rintro x w' _ _ H ⟨A,k,rfl,rfl⟩ h;exact hk x A k w' H (nf h (hn x A k))
theorem rA {V:Option Addr->Nat->Value} {Hs1 Hs':Option Addr->Nat->List Ch} (ho:OpT P o env w (fun v w'=>∃ A k,v=V A k/\St w0 F0 (Hs1 A k) Rs w')) (hk:∀ A k w',St w0 F0 (Hs' A k) Rs w'->RJ P n ops l K (Xe o.dst (V A k) env) w') (hn:∀ A k,nfK (Hs1 A k) some=some (Hs' A k):=by exact fun _ _=>rfl) (q:RjO ops env n o:=by exact ⟨rfl,rfl⟩):RJ P n ops (o :: l) K env w:=RJ.op q.1 q.2 ho (by rintro _ w' ⟨A,k,rfl,h⟩; exact hk A k w' (nf h (hn A k)))
theorem rC {V:Option Addr->Nat->Value} {L M Hs':Option Addr->Nat->List Ch} (ho:OpT P o env w (fun v w'=>∃ post rp,(∃ A k,v=V A k/\post=L A k/\rp=M A k)/\St w0 F0 (post ++ rest) (rp ++ Rs) w')) (hk:∀ A k w',St w0 F0 (Hs' A k) (M A k ++ Rs) w'->RJ P n ops l K (Xe o.dst (V A k) env) w') (hn:∀ A k,nfK (L A k ++ rest) some=some (Hs' A k):=by exact fun _ _=>rfl) (q:RjO ops env n o:=by exact ⟨rfl,rfl⟩):RJ P n ops (o :: l) K env w:=RJ.op q.1 q.2 ho (by rintro _ w' ⟨_,_,⟨A,k,rfl,rfl,rfl⟩,h⟩; exact hk A k w' (nf h (hn A k)))
theorem eN {f} {fn} {c} {args} {pre} {rd} {Post} {Hs'} (hf : P.funcs[f]? = some fn) (h : ∀ w0 F0, St w0 F0 Hs' rd w0 → J P fn.ntmps c (Zde P fn w0 F0 Post) (Ww 0 args) w0) (e : nfK pre some = some Hs' := by exact rfl) (hb : fn.body = some c := by exact rfl) (hn : (fn.name == "runtime.NumGoroutine") = false := by kernel_rfl) (hs : Nat.ble args.length fn.ntmps = true := by kernel_rfl) : Spec P f args pre rd Post := Spec.enter hf hb hn hs fun w0 F0 h0 => h w0 F0 (nf h0 e)
theorem rX (H:(if 0<=i/\i<(m:Int) then X else none)=some r) (hA:A=some ⟨blk A,ofs A,none⟩) (h:0<=i->i<(m:Int)->X=some r->RJ P n ops l K (Xe o.dst (.pointer (some ⟨blk A,ofs A+i.toNat*ie.size,none⟩)) env) w) (g:RjO ops env n o:=by exact ⟨rfl,rfl⟩) (v:IxO tt env o t e m c x ix A i ki z1 z2 z ie:=by exact ⟨rfl,rfl,rfl,rfl,rfl⟩):RJ P n ops (o :: l) K env w:=by
 obtain ⟨⟨p,q⟩,H⟩:=Zp H;exact RJ.q g.1 g.2 (Zb5 q_.ok v.1 v.2.1 v.2.2.1 v.2.2.2.1 v.2.2.2.2 hA p q) (h p q H)
theorem rI (H:(if 0<=i/\i<(m:Int) then X else none)=some r) (hS:St w0 F0 Hs Rs w2) (hg:Gives (Hs ++ Rs) (rdC E ty xs (.slice A mm c2))) (h:0<=i->i<(m:Int)->A=some ⟨blk A,ofs A,none⟩->X=some r->RJ P n ops l K (Xe o.dst (.pointer (some ⟨blk A,ofs A+i.toNat*ie.size,none⟩)) env) w) (hm:xs.length=m:=by exact rfl) (g:RjO ops env n o:=by exact ⟨rfl,rfl⟩) (v:IxO tt env o t e m c x ix A i ki z1 z2 z ie:=by exact ⟨rfl,rfl,rfl,rfl,rfl⟩):RJ P n ops (o :: l) K env w:=by
 obtain ⟨⟨p,q⟩,_⟩:=Zp H;have a:=J9 hS.wh hg p (hm ▸ q);exact rX H a (fun p q=>h p q a) g v
theorem hX (j:Nat) (H:(if 0<=i/\i<(m:Int) then X else none)=some r) (hA:A=some ⟨blk A,ofs A,none⟩) (h:0<=i->i<(m:Int)->X=some r->HJ P n ops S K (j :: done) ((d,.pointer (some ⟨blk A,ofs A+i.toNat*ie.size,none⟩)) :: env) w) (g:HjO ops env n done j o d:=by exact ⟨rfl,rfl,rfl,rfl,rfl,rfl⟩) (v:IxO tt env o t e m c x ix A i ki z1 z2 z ie:=by exact ⟨rfl,rfl,rfl,rfl,rfl⟩):HJ P n ops S K done env w:=by
 obtain ⟨⟨p,q⟩,H⟩:=Zp H;exact HJ.q g.1 g.2.1 g.2.2.1 g.2.2.2.1 g.2.2.2.2.1 g.2.2.2.2.2 (Zb5 q_.ok v.1 v.2.1 v.2.2.1 v.2.2.2.1 v.2.2.2.2 hA p q) (h p q H)
theorem hI (j:Nat) (H:(if 0<=i/\i<(m:Int) then X else none)=some r) (hS:St w0 F0 Hs Rs w2) (hg:Gives (Hs ++ Rs) (rdC E ty xs (.slice A mm c2))) (h:0<=i->i<(m:Int)->A=some ⟨blk A,ofs A,none⟩->X=some r->HJ P n ops S K (j :: done) ((d,.pointer (some ⟨blk A,ofs A+i.toNat*ie.size,none⟩)) :: env) w) (hm:xs.length=m:=by exact rfl) (g:HjO ops env n done j o d:=by exact ⟨rfl,rfl,rfl,rfl,rfl,rfl⟩) (v:IxO tt env o t e m c x ix A i ki z1 z2 z ie:=by exact ⟨rfl,rfl,rfl,rfl,rfl⟩):HJ P n ops S K done env w:=by
 obtain ⟨⟨p,q⟩,_⟩:=Zp H;have a:=J9 hS.wh hg p (hm ▸ q);exact hX j H a (fun p q=>h p q a) g v
end
def tt:TT:=[(1,⟨.func,1,8,.nilFunc⟩),
 (2,⟨.int .i64,1,8,.int .i64 0⟩),
 (3,⟨.int .i64,1,8,.int .i64 0⟩),
 (4,⟨.bool,1,1,.bool false⟩),
 (5,⟨.int .u8,1,1,.int .u8 0⟩),
 (6,⟨.int .u8,1,1,.int .u8 0⟩),
 (9,⟨.str,1,16,.string ⟨⟨[]⟩⟩⟩),
 (12,⟨.int .u64,1,8,.int .u64 0⟩),
 (17,⟨.ptr 260,1,8,.pointer none⟩),
 (23,⟨.struct [(3,0,1),(3,1,1),(3,2,1),(3,3,1),(3,4,1),(3,5,1),(3,6,1),(3,7,1)],8,64,.agg #[.int .i64 0,.int .i64 0,.int .i64 0,.int .i64 0,.int .i64 0,.int .i64 0,.int .i64 0,.int .i64 0]⟩),
 (24,⟨.slice 78,1,24,.slice none 0 0⟩),
 (25,⟨.slice 80,1,24,.slice none 0 0⟩),
 (26,⟨.slice 5,1,24,.slice none 0 0⟩),
 (28,⟨.struct [(24,0,1),(25,1,1),(26,2,1),(26,3,1)],4,96,.agg #[.slice none 0 0,.slice none 0 0,.slice none 0 0,.slice none 0 0]⟩),
 (29,⟨.ptr 97,1,8,.pointer none⟩),
 (30,⟨.int .u32,1,4,.int .u32 0⟩),
 (31,⟨.slice 47,1,24,.slice none 0 0⟩),
 (37,⟨.int .i64,1,8,.int .i64 0⟩),
 (39,⟨.slice 30,1,24,.slice none 0 0⟩),
 (40,⟨.slice 9,1,24,.slice none 0 0⟩),
 (42,⟨.struct [(3,0,1),(39,1,1),(40,2,1),(25,3,1),(24,4,1)],5,104,.agg #[.int .i64 0,.slice none 0 0,.slice none 0 0,.slice none 0 0,.slice none 0 0]⟩),
 (43,⟨.struct [(9,0,1),(9,1,1),(4,2,1)],3,40,.agg #[.string ⟨⟨[]⟩⟩,.string ⟨⟨[]⟩⟩,.bool false]⟩),
 (44,⟨.struct [(9,0,1),(9,1,1),(4,2,1)],3,40,.agg #[.string ⟨⟨[]⟩⟩,.string ⟨⟨[]⟩⟩,.bool false]⟩),
 (47,⟨.slice 42,1,24,.slice none 0 0⟩),
 (51,⟨.func,1,8,.nilFunc⟩),
 (53,⟨.int .u16,1,2,.int .u16 0⟩),
 (60,⟨.struct [(3,0,1),(3,1,1),(3,2,1),(3,3,1),(3,4,1)],5,40,.agg #[.int .i64 0,.int .i64 0,.int .i64 0,.int .i64 0,.int .i64 0]⟩),
 (63,⟨.map 30 4,1,8,.map none⟩),
 (78,⟨.struct [(9,0,1),(9,1,1)],2,32,.agg #[.string ⟨⟨[]⟩⟩,.string ⟨⟨[]⟩⟩]⟩),
 (80,⟨.struct [(9,0,1),(4,1,1),(9,2,1)],3,40,.agg #[.string ⟨⟨[]⟩⟩,.bool false,.string ⟨⟨[]⟩⟩]⟩),
 (81,⟨.ptr 168,1,8,.pointer none⟩),
 (87,⟨.ptr 89,1,8,.pointer none⟩),
 (89,⟨.struct [(29,0,1),(63,1,1),(51,2,1),(4,3,1)],4,32,.agg #[.pointer none,.map none,.nilFunc,.bool false]⟩),
 (94,⟨.ptr 132,1,8,.pointer none⟩),
 (95,⟨.ptr 124,1,8,.pointer none⟩),
 (97,⟨.struct [(23,0,8),(81,8,1),(94,9,1),(95,10,1),(30,11,1)],12,96,.agg #[.int .i64 0,.int .i64 0,.int .i64 0,.int .i64 0,.int .i64 0,.int .i64 0,.int .i64 0,.int .i64 0,.pointer none,.pointer none,.pointer none,.int .u32 0]⟩),
 (122,⟨.ptr 184,1,8,.pointer none⟩),
 (124,⟨.struct [(122,0,1)],1,8,.agg #[.pointer none]⟩),
 (127,⟨.slice 134,1,24,.slice none 0 0⟩),
 (128,⟨.map 30 3,1,8,.map none⟩),
 (129,⟨.slice 3,1,24,.slice none 0 0⟩),
 (130,⟨.ptr 189,1,8,.pointer none⟩),
 (132,⟨.struct [(81,0,1),(127,1,1),(128,2,1),(129,3,1),(130,4,1)],5,72,.agg #[.pointer none,.slice none 0 0,.map none,.slice none 0 0,.pointer none]⟩),
 (134,⟨.struct [(30,0,1),(26,1,1),(4,2,1),(3,3,1)],4,48,.agg #[.int .u32 0,.slice none 0 0,.bool false,.int .i64 0]⟩),
 (138,⟨.ptr 134,1,8,.pointer none⟩),
 (142,⟨.ptr 193,1,8,.pointer none⟩),
 (144,⟨.int .u64,1,8,.int .u64 0⟩),
 (151,⟨.func,1,8,.nilFunc⟩),
 (154,⟨.int .u64,1,8,.int .u64 0⟩),
 (165,⟨.struct [(144,0,1),(144,1,1)],2,16,.agg #[.int .u64 0,.int .u64 0]⟩),
 (166,⟨.struct [(144,0,1),(144,1,1)],2,16,.agg #[.int .u64 0,.int .u64 0]⟩),
 (168,⟨.struct [(3,0,1),(26,1,1),(166,2,2)],4,48,.agg #[.int .i64 0,.slice none 0 0,.int .u64 0,.int .u64 0]⟩),
 (171,⟨.func,1,8,.nilFunc⟩),
 (174,⟨.func,1,8,.nilFunc⟩),
 (182,⟨.slice 144,1,24,.slice none 0 0⟩),
 (184,⟨.struct [(3,0,1),(3,1,1),(182,2,1)],3,40,.agg #[.int .i64 0,.int .i64 0,.slice none 0 0]⟩),
 (186,⟨.struct [(3,0,1),(3,1,1),(4,2,1)],3,24,.agg #[.int .i64 0,.int .i64 0,.bool false]⟩),
 (187,⟨.slice 186,1,24,.slice none 0 0⟩),
 (189,⟨.struct [(187,0,1),(3,1,1)],2,32,.agg #[.slice none 0 0,.int .i64 0]⟩),
 (193,⟨.struct [(26,0,1),(37,1,1)],2,32,.agg #[.slice none 0 0,.int .i64 0]⟩),
 (196,⟨.func,1,8,.nilFunc⟩),
 (206,⟨.int .i64,1,8,.int .i64 0⟩),
 (227,⟨.func,1,8,.nilFunc⟩),
 (230,⟨.func,1,8,.nilFunc⟩),
 (232,⟨.func,1,8,.nilFunc⟩),
 (234,⟨.int .u64,1,8,.int .u64 0⟩),
 (238,⟨.ptr 3,1,8,.pointer none⟩),
 (243,⟨.ptr 234,1,8,.pointer none⟩),
 (253,⟨.int .u8,1,1,.int .u8 0⟩),
 (254,⟨.int .u8,1,1,.int .u8 0⟩),
 (255,⟨.func,1,8,.nilFunc⟩),
 (256,⟨.ptr 5,1,8,.pointer none⟩),
 (257,⟨.int .i32,1,4,.int .i32 0⟩),
 (258,⟨.int .i32,1,4,.int .i32 0⟩)]
theorem Yy:Yq prog tt:=by
 refine ttC ⟨_,_,_,Tryz.underlying1⟩ ?_;refine ttC Tryz.underlying2 ?_;refine ttC Tryz.underlying3 ?_;refine ttC Tryz.underlying4 ?_;refine ttC Tryz.underlying5 ?_;refine ttC Tryz.underlying6 ?_;refine ttC Tryz.underlying9 ?_;refine ttC Tryz.underlying12 ?_;refine ttC Tryz.underlying17 ?_;refine ttS Tryz.underlying23 ?_;refine ttC Tryz.underlying24 ?_;refine ttC Tryz.underlying25 ?_;refine ttC Tryz.underlying26 ?_;refine ttS Tryz.underlying28 ?_;refine ttC Tryz.underlying29 ?_;refine ttC Tryz.underlying30 ?_;refine ttC Tryz.underlying31 ?_;refine ttC Tryz.underlying37 ?_;refine ttC Tryz.underlying39 ?_;refine ttC Tryz.underlying40 ?_;refine ttS Tryz.underlying42 ?_;refine ttS Tryz.underlying43 ?_;refine ttS Tryz.underlying44 ?_;refine ttC Tryz.underlying47 ?_;refine ttC ⟨_,_,_,Tryz.underlying51⟩ ?_;refine ttC Tryz.underlying53 ?_;refine ttS Tryz.underlying60 ?_;refine ttC Tryz.underlying63 ?_;refine ttS Tryz.underlying78 ?_;refine ttS Tryz.underlying80 ?_;refine ttC Tryz.underlying81 ?_;refine ttC Tryz.underlying87 ?_;refine ttS Tryz.underlying89 ?_;refine ttC Tryz.underlying94 ?_;refine ttC Tryz.underlying95 ?_;refine ttS Tryz.underlying97 ?_;refine ttC Tryz.underlying122 ?_;refine ttS Tryz.underlying124 ?_;refine ttC Tryz.underlying127 ?_;refine ttC Tryz.underlying128 ?_;refine ttC Tryz.underlying129 ?_;refine ttC Tryz.underlying130 ?_;refine ttS Tryz.underlying132 ?_;refine ttS Tryz.underlying134 ?_;refine ttC Tryz.underlying138 ?_;refine ttC Tryz.underlying142 ?_;refine ttC Tryz.underlying144 ?_;refine ttC ⟨_,_,_,Tryz.underlying151⟩ ?_;refine ttC Tryz.underlying154 ?_;refine ttS Tryz.underlying165 ?_;refine ttS Tryz.underlying166 ?_;refine ttS Tryz.underlying168 ?_;refine ttC ⟨_,_,_,Tryz.underlying171⟩ ?_;refine ttC ⟨_,_,_,Tryz.underlying174⟩ ?_;refine ttC Tryz.underlying182 ?_;refine ttS Tryz.underlying184 ?_;refine ttS Tryz.underlying186 ?_;refine ttC Tryz.underlying187 ?_;refine ttS Tryz.underlying189 ?_;refine ttS Tryz.underlying193 ?_;refine ttC ⟨_,_,_,Tryz.underlying196⟩ ?_;refine ttC Tryz.underlying206 ?_;refine ttC ⟨_,_,_,Tryz.underlying227⟩ ?_;refine ttC ⟨_,_,_,Tryz.underlying230⟩ ?_;refine ttC ⟨_,_,_,Tryz.underlying232⟩ ?_;refine ttC Tryz.underlying234 ?_;refine ttC Tryz.underlying238 ?_;refine ttC Tryz.underlying243 ?_;refine ttC Tryz.underlying253 ?_;refine ttC Tryz.underlying254 ?_;refine ttC ⟨_,_,_,Tryz.underlying255⟩ ?_;refine ttC Tryz.underlying256 ?_;refine ttC Tryz.underlying257 ?_;refine ttC Tryz.underlying258 ?_;exact Zns _
theorem mix:prog.follows .mixedOrders=true:=by kernel_rfl
instance:TTI prog tt:=⟨Yy,mix⟩
abbrev X23 (b:Nat) (p0:Int) (p1:Int) (p2:Int) (p3:Int) (p4:Int) (p5:Int) (p6:Int) (p7:Int):Ch:=Yx b 23 [.int .i64 p0,.int .i64 p1,.int .i64 p2,.int .i64 p3,.int .i64 p4,.int .i64 p5,.int .i64 p6,.int .i64 p7]
abbrev zX23 (b:Nat) (c:Int×Int×Int×Int×Int×Int×Int×Int):=X23 b c.1 c.2.1 c.2.2.1 c.2.2.2.1 c.2.2.2.2.1 c.2.2.2.2.2.1 c.2.2.2.2.2.2.1 c.2.2.2.2.2.2.2
abbrev X28 (b:Nat) (p0:TD) (A0:Option Addr) (c0:Nat) (p1:Tx) (A1:Option Addr) (c1:Nat) (p2:T2) (A2:Option Addr) (c2:Nat) (p3:T2) (A3:Option Addr) (c3:Nat):Ch:=Yx b 28 [.slice A0 p0.length c0,.slice A1 p1.length c1,.slice A2 p2.length c2,.slice A3 p3.length c3]
abbrev X42 (b:Nat) (p0:Int) (p1:T2) (A1:Option Addr) (c1:Nat) (p2:TQ) (A2:Option Addr) (c2:Nat) (p3:Tx) (A3:Option Addr) (c3:Nat) (p4:TD) (A4:Option Addr) (c4:Nat):Ch:=Yx b 42 [.int .i64 p0,.slice A1 p1.length c1,.slice A2 p2.length c2,.slice A3 p3.length c3,.slice A4 p4.length c4]
abbrev R78 (x:TD) (A:Option Addr) (c:Nat):Ch:=rdC 78 (.pair .str .str) x (.slice A x.length c)
abbrev R80 (x:Tx) (A:Option Addr) (c:Nat):Ch:=rdC 80 (.pair .str (.pair .bool .str)) x (.slice A x.length c)
abbrev R5 (x:T2) (A:Option Addr) (c:Nat):Ch:=rdC 5 (.int .u8) x (.slice A x.length c)
abbrev O5 (x:T2) (A:Option Addr) (c:Nat):Ch:=Yg 5 (.int .u8) x (.slice A x.length c)
abbrev Y1 (b:Nat) (p0:Int) (p1:T2) (A1:Option Addr) (c1:Nat) (p2:Int) (p3:Int):Ch:=Yx b 168 [.int .i64 p0,.slice A1 p1.length c1,.int .u64 p2,.int .u64 p3]
abbrev Zbl (x:TH) (b1:Nat) (A1:Option Addr) (c1:Nat):List Ch:=[Y1 b1 x.1 x.2.1 A1 c1 x.2.2.1 x.2.2.2,O5 x.2.1 A1 c1]
abbrev Yo (x:TM) (A:Option Addr) (c:Nat):Ch:=Yg 186 (.pair (.int .i64) (.pair (.int .i64) .bool)) x (.slice A x.length c)
abbrev Yn (b:Nat) (p0:TM) (A0:Option Addr) (c0:Nat) (p1:Int):Ch:=Yx b 189 [.slice A0 p0.length c0,.int .i64 p1]
abbrev Y9 (x:TA) (A:Option Addr) (c:Nat):Ch:=Yg 134 (.pair (.int .u32) (.pair (.slice 5 (.int .u8)) (.pair .bool (.int .i64)))) x (.slice A x.length c)
abbrev Y8 (b:Nat) (p0:Value) (p1:TA) (A1:Option Addr) (c1:Nat) (p2:Value) (p3:T2) (A3:Option Addr) (c3:Nat) (p4:Value):Ch:=Yx b 132 [p0,.slice A1 p1.length c1,p2,.slice A3 p3.length c3,p4]
abbrev O3 (x:T2) (A:Option Addr) (c:Nat):Ch:=Yg 3 (.int .i64) x (.slice A x.length c)
abbrev Xk (x:T2) (A:Option Addr) (c:Nat):Ch:=Yg 144 (.int .u64) x (.slice A x.length c)
abbrev Xj (b:Nat) (p0:Int) (p1:Int) (p2:T2) (A2:Option Addr) (c2:Nat):Ch:=Yx b 184 [.int .i64 p0,.int .i64 p1,.slice A2 p2.length c2]
abbrev W9 (x:TP) (b1:Nat) (A1:Option Addr) (c1:Nat):List Ch:=[Xj b1 x.1 x.2.1 x.2.2 A1 c1,Xk x.2.2 A1 c1]
abbrev Wj (b:Nat) (p0:Value):Ch:=Yx b 124 [p0]
abbrev X97 (b:Nat) (p0:Int) (p1:Int) (p2:Int) (p3:Int) (p4:Int) (p5:Int) (p6:Int) (p7:Int) (p8:Value) (p9:Value) (p10:Value) (p11:Int):Ch:=Yx b 97 [.int .i64 p0,.int .i64 p1,.int .i64 p2,.int .i64 p3,.int .i64 p4,.int .i64 p5,.int .i64 p6,.int .i64 p7,p8,p9,p10,.int .u32 p11]
abbrev zX97 (b:Nat) (c:Int×Int×Int×Int×Int×Int×Int×Int):=X97 b c.1 c.2.1 c.2.2.1 c.2.2.2.1 c.2.2.2.2.1 c.2.2.2.2.2.1 c.2.2.2.2.2.2.1 c.2.2.2.2.2.2.2
abbrev O78 (x:TD) (A:Option Addr) (c:Nat):Ch:=Yg 78 (.pair .str .str) x (.slice A x.length c)
abbrev M42 (x:Tp) (A:Option Addr) (c:Nat) (l:TZ):Ch:=X2 42 5 x.length l (.slice A x.length c)
abbrev O9 (x:TQ) (A:Option Addr) (c:Nat):Ch:=Yg 9 .str x (.slice A x.length c)
abbrev E42 (x:Tp) (l:TZ):Ch:=esC (.pair (.int .i64) (.pair (.slice 30 (.int .u32)) (.pair (.slice 9 .str) (.pair (.slice 80 (.pair .str (.pair .bool .str))) (.slice 78 (.pair .str .str)))))) x l
abbrev R42 (x:Tp) (A:Option Addr) (c:Nat):Ch:=rdC 42 (.pair (.int .i64) (.pair (.slice 30 (.int .u32)) (.pair (.slice 9 .str) (.pair (.slice 80 (.pair .str (.pair .bool .str))) (.slice 78 (.pair .str .str)))))) x (.slice A x.length c)
abbrev N47 (x:Tn) (A:Option Addr) (c:Nat) (l:List TZ):Ch:=Vq 47 42 5 (Y0 x) l (.slice A x.length c)
abbrev O30 (x:T2) (A:Option Addr) (c:Nat):Ch:=Yg 30 (.int .u32) x (.slice A x.length c)
abbrev V47 (x:Tn) (l:List TZ):Ch:=Bj (.pair (.int .i64) (.pair (.slice 30 (.int .u32)) (.pair (.slice 9 .str) (.pair (.slice 80 (.pair .str (.pair .bool .str))) (.slice 78 (.pair .str .str)))))) x l
abbrev R9 (x:TQ) (A:Option Addr) (c:Nat):Ch:=rdC 9 .str x (.slice A x.length c)
abbrev R30 (x:T2) (A:Option Addr) (c:Nat):Ch:=rdC 30 (.int .u32) x (.slice A x.length c)
abbrev O80 (x:Tx) (A:Option Addr) (c:Nat):Ch:=Yg 80 (.pair .str (.pair .bool .str)) x (.slice A x.length c)
abbrev X80 (b:Nat) (p0:TY) (p1:Bool) (p2:TY):Ch:=Yx b 80 [.string ⟨⟨p0⟩⟩,.bool p1,.string ⟨⟨p2⟩⟩]
abbrev W47 (x:Tn) (A:Option Addr) (c:Nat) (l:List TZ) (i:Int) (A2:Option Addr) (c2:Nat):Ch:=Uc 47 42 5 (Y0 x) l (.slice A x.length c) i (gt x i).length A2 c2
abbrev R47 (x:Tn) (A:Option Addr) (c:Nat):Ch:=rdC 47 (.slice 42 (.pair (.int .i64) (.pair (.slice 30 (.int .u32)) (.pair (.slice 9 .str) (.pair (.slice 80 (.pair .str (.pair .bool .str))) (.slice 78 (.pair .str .str))))))) x (.slice A x.length c)
abbrev Wq (x:Ti) (b1 b2 b3 b4 b5 b6 b7:Nat) (A1 A2 A3 A4 A5:Option Addr) (c1 c2 c3 c4 c5:Nat):List Ch:=[X97 b1 x.1.1 x.1.2.1 x.1.2.2.1 x.1.2.2.2.1 x.1.2.2.2.2.1 x.1.2.2.2.2.2.1 x.1.2.2.2.2.2.2.1 x.1.2.2.2.2.2.2.2 (.pointer (some ⟨b3,0,none⟩)) (.pointer (some ⟨b2,0,none⟩)) (.pointer (some ⟨b6,0,none⟩)) x.2.2.2,Y8 b2 (.pointer (some ⟨b3,0,none⟩)) x.2.1.2.1 A2 c2 (.map (some b4)) x.2.1.2.2.2.1 A3 c3 (.pointer (some ⟨b5,0,none⟩)),Y1 b3 x.2.1.1.1 x.2.1.1.2.1 A1 c1 x.2.1.1.2.2.1 x.2.1.1.2.2.2,O5 x.2.1.1.2.1 A1 c1,Y9 x.2.1.2.1 A2 c2,Yh .u32 (Value.int .i64) b4 x.2.1.2.2.1,O3 x.2.1.2.2.2.1 A3 c3,Yn b5 x.2.1.2.2.2.2.1 A4 c4 x.2.1.2.2.2.2.2,Yo x.2.1.2.2.2.2.1 A4 c4,Wj b6 (.pointer (some ⟨b7,0,none⟩)),Xj b7 x.2.2.1.1 x.2.2.1.2.1 x.2.2.1.2.2 A5 c5,Xk x.2.2.1.2.2 A5 c5]
abbrev X44 (b:Nat) (p0:TY) (p1:TY) (p2:Bool):Ch:=Yx b 44 [.string ⟨⟨p0⟩⟩,.string ⟨⟨p1⟩⟩,.bool p2]
abbrev X78 (b:Nat) (p0:TY) (p1:TY):Ch:=Yx b 78 [.string ⟨⟨p0⟩⟩,.string ⟨⟨p1⟩⟩]
abbrev X3 (b:Nat) (p0:Int):Ch:=Yx b 3 [.int .i64 p0]
abbrev Zc8 (b:Nat) (p0:Int):Ch:=Yx b 234 [.int .u64 p0]
abbrev Bg (x:TN) (b1 b2:Nat) (A1:Option Addr) (c1:Nat):List Ch:=[Wj b1 (.pointer (some ⟨b2,0,none⟩)),Xj b2 x.1 x.2.1 x.2.2 A1 c1,Xk x.2.2 A1 c1]
abbrev Vx (x:Tk) (b1 b2 b3 b4:Nat) (A1 A2 A3 A4:Option Addr) (c1 c2 c3 c4:Nat):List Ch:=[Y8 b1 (.pointer (some ⟨b2,0,none⟩)) x.2.1 A2 c2 (.map (some b3)) x.2.2.2.1 A3 c3 (.pointer (some ⟨b4,0,none⟩)),Y1 b2 x.1.1 x.1.2.1 A1 c1 x.1.2.2.1 x.1.2.2.2,O5 x.1.2.1 A1 c1,Y9 x.2.1 A2 c2,Yh .u32 (Value.int .i64) b3 x.2.2.1,O3 x.2.2.2.1 A3 c3,Yn b4 x.2.2.2.2.1 A4 c4 x.2.2.2.2.2,Yo x.2.2.2.2.1 A4 c4]
abbrev W7 (x:TG) (b1:Nat) (A1:Option Addr) (c1:Nat):List Ch:=[Yn b1 x.1 A1 c1 x.2,Yo x.1 A1 c1]
abbrev Zew (b:Nat) (p0:Int) (p1:Int) (p2:Bool):Ch:=Yx b 186 [.int .i64 p0,.int .i64 p1,.bool p2]
abbrev Zk5 (b:Nat) (p0:Int) (p1:T2) (A1:Option Addr) (c1:Nat) (p2:Bool) (p3:Int):Ch:=Yx b 134 [.int .u32 p0,.slice A1 p1.length c1,.bool p2,.int .i64 p3]
abbrev X60 (b:Nat) (p0:Int) (p1:Int) (p2:Int) (p3:Int) (p4:Int):Ch:=Yx b 60 [.int .i64 p0,.int .i64 p1,.int .i64 p2,.int .i64 p3,.int .i64 p4]
abbrev X89 (b:Nat) (p0:Value) (p1:Value) (p2:Value) (p3:Bool):Ch:=Yx b 89 [p0,p1,p2,.bool p3]
abbrev Wf (b:Nat) (p0:T2) (A0:Option Addr) (c0:Nat) (p1:Int):Ch:=Yx b 193 [.slice A0 p0.length c0,.int .i64 p1]
abbrev X63 (b:Nat) (p0:Value):Ch:=Yx b 63 [p0]
abbrev X4 (b:Nat) (p0:Bool):Ch:=Yx b 4 [.bool p0]
abbrev Zbz (x:TR) (b1 b2:Nat):List Ch:=[X63 b1 (.map (some b2)),Yh .u32 Value.bool b2 x]
def tzR:Go.Shelf.Ren:={ f:=fun _=>187,t:=fun n=>if n=3 then 3 else if n=4 then 4 else if n=5 then 5 else if n=22 then 144 else if n=25 then 154 else if n=54 then 246 else 0,g:=fun _=>0 }
theorem tzL:Go.Proofs.Lays7.n29 prog tzR where
 mixed:=mix
 f29:=by kernel_rfl
 t0:=by kernel_rfl
 a0:=fun _=>by kernel_rfl
 z0:=fun _=>by kernel_rfl
 v0:=fun _=>by kernel_rfl
 i0:=by kernel_rfl
 t3:=by kernel_rfl
 a3:=fun _=>by kernel_rfl
 z3:=fun _=>by kernel_rfl
 v3:=fun _=>by kernel_rfl
 i3:=by kernel_rfl
 t4:=by kernel_rfl
 a4:=fun _=>by kernel_rfl
 z4:=fun _=>by kernel_rfl
 v4:=fun _=>by kernel_rfl
 i4:=by kernel_rfl
 t5:=by kernel_rfl
 a5:=fun _=>by kernel_rfl
 z5:=fun _=>by kernel_rfl
 v5:=fun _=>by kernel_rfl
 i5:=by kernel_rfl
 t22:=by kernel_rfl
 a22:=fun _=>by kernel_rfl
 z22:=fun _=>by kernel_rfl
 v22:=fun _=>by kernel_rfl
 i22:=by kernel_rfl
 t25:=by kernel_rfl
 a25:=fun _=>by kernel_rfl
 z25:=fun _=>by kernel_rfl
 v25:=fun _=>by kernel_rfl
 i25:=by kernel_rfl
 t54:=by kernel_rfl
 a54:=fun _=>by kernel_rfl
 z54:=fun _=>by kernel_rfl
 g1:=by kernel_rfl
def tzI (x:Int):Int:=((Go.Lib.ctz 64 x.toNat:Nat):Int)
def tabC (g:Nat):Ch where
 ok w F:=F g/\Go.Proofs.TabAt g Go.Lib.deBruijn64tab w
 stable:=fun {w w' F} hs h=>⟨h.1,fun j hj=>by
  have:=h.2 j hj;unfold World.cell? at this ⊢;rw [hs g h.1];exact this⟩
theorem tz64.spec {x:Int} (h0:0<=x) (h1:x<18446744073709551616):Spec prog 187 [.int .u64 x] [] [tabC 0] (fun v l=>v=.int .i64 (tzI x)/\l=[]):=by
 refine ⟨⟨_,Tryz.func187,by kernel_rfl,by kernel_rfl⟩,fun w F hs hb hrd=>?_⟩;obtain ⟨n,rfl⟩:=Int.eq_ofNat_of_zero_le h0;obtain ⟨R,hR,_⟩:=hrd _ (List.mem_singleton.2 rfl);have:=Go.Proofs.Any7.bits_TrailingZeros64 tzL n (by omega) w (fun _=>hR.2);refine this.mono fun e w' ⟨he,hw⟩=>?_;subst hw;refine ⟨_,[],fun _=>False,he,⟨rfl,rfl⟩,Chg.refl _ _,?_,fun b h=>h.elim⟩;trivial

theorem Zqv:CmpStr prog 199:=CmpStr.of Tryz.func199 (by kernel_rfl) (by kernel_rfl) (by kernel_rfl) rfl
def Q139.f (a0:Int) (a1:Int) (a2:Int):Option (Bool):=if (decide (a1<=a0))=true then (some (decide (a0<=a2))) else (some false)
theorem Q139.spec {a0 a1 a2 r} (H:Q139.f a0 a1 a2=some r) :
  Spec prog 96 [.int .i64 a0,.int .i64 a1,.int .i64 a2] [] [] (fun v l=>v=.bool r/\l=[]):=by
 refine Zg Tryz.func96 fun w0 F0 h0=>?_;unfold Q139.f at H;refine Sd (Za [0,1,2] ?_);refine Sd (Sb (Zd 4 ?_));refine Z4 10 H (fun c1 H=>?_) fun c1 H=>?_
 ·refine rFi [6] ?_;cases H;exact Sc (jR0 h0 [])
 refine rFi [6] ?_;cases H;exact Sc (jR0 h0 [])

def Q138.f (a0:Tt):Option (Bool):=(Q139.f a0.2.2.2.1 8 64).bind fun r1=>(if (!r1)=true then (some false) else ((Q139.f a0.2.2.2.2.2.2.1 1 64).bind fun r2=>(if (!r2)=true then (some false) else ((Q139.f a0.2.2.2.2.2.2.2 0 256).bind fun r3=>(if (!r3)=true then (some false) else ((Q139.f a0.2.2.2.2.1 (w64 (2*a0.2.2.2.1)) 512).bind fun r4=>(if r4=true then ((Q139.f a0.2.2.2.2.2.1 a0.2.2.2.2.1 1024).bind fun r5=>(some r5)) else (some false))))))))
theorem Q138.spec {a0 r} (H:Q138.f a0=some r) :
  Spec prog 95 [.agg (zV8 a0)] [] [] (fun v l=>v=.bool r/\l=[]):=by
 refine Zg Tryz.func95 fun w0 F0 h0=>?_;unfold Q138.f at H;refine Sd (Sb (rB (Z1 h0) fun b1 w1 h1=>?_));refine rFi [1] ?_;refine Sd (Sd (Sb (rRL 1 0 h1 ?_)));refine cS H [] h1 rfl Q139.spec Zk fun r1 w2 H h2=>?_;refine Zd 2 ?_;refine Z4 7 H (fun c1 H=>?_) fun c1 H=>?_
 ·refine rFi [1,18] ?_;refine Zn ?_;refine Sd (Za [2] ?_);cases H;exact Sc (jR0 h2 [])
 refine rRL 1 0 h2 ?_;refine cS H [] h2 rfl Q139.spec Zk fun r2 w3 H h3=>?_;refine Zd 3 ?_;refine Z4 13 H (fun c2 H=>?_) fun c2 H=>?_
 ·refine rFi [1,18] ?_;refine Zn ?_;refine Sd (Za [2] ?_);cases H;exact Sc (jR0 h3 [])
 refine rRL 1 0 h3 ?_;refine cS H [] h3 rfl Q139.spec Zk fun r3 w4 H h4=>?_;refine rFi [1,18] ?_;refine jIf H (fun c3 H=>?_) fun c3 H=>?_
 ·refine Sd (Za [2] ?_);cases H;exact Sc (jR0 h4 [])
 refine Se (Sd (Sb (rRL 1 0 h4 ?_)));refine rRL 1 0 h4 ?_;refine Zd 1 ?_;refine cS H [] h4 rfl Q139.spec Zk fun r4 w5 H h5=>?_;refine Zd 1 ?_;refine Z4 25 H (fun c4 H=>?_) fun c4 H=>?_
 ·refine rRL 1 0 h5 ?_;refine rRL 1 0 h5 ?_;refine cS H [] h5 rfl Q139.spec Zk fun r5 w6 H h6=>?_;refine rFi [2] ?_;cases H;exact Sc (jR0 h6 [])
 refine rFi [2] ?_;cases H;exact Sc (jR0 h5 [])

def Q135.l1:Nat->Tt->(Int)->(Int)->Option (Int)
 | 0,_,_,_=>none
 | k+1,a0,x3,x4=>if (decide (x4<a0.2.2.2.2.1))=true then (Q135.l1 k a0 (w64 ((w64 ((w64 (x3+4))+a0.2.2.2.2.2.2.1))+a0.2.2.2.2.2.2.2)) (w64 (x4+1))) else (some x3)
def Q135.l0:Nat->Tt->(Int)->(Int)->Option (Int)
 | 0,_,_,_=>none
 | k+1,a0,x1,x2=>if (decide (x2<a0.2.2.2.1))=true then (if (decide (0<x2))=true then (Q135.l0 k a0 (w64 ((w64 ((w64 (x1+4))+1))+a0.2.2.2.2.2.2.1)) (w64 (x2+1))) else (Q135.l0 k a0 (w64 (x1+4)) (w64 (x2+1)))) else (Q135.l1 k a0 x1 0)
def Q135.f (k:Nat) (a0:Tt):Option (Int):=(Q138.f a0).bind fun r1=>(if (!r1)=true then (some 0) else (Q135.l0 k a0 8 0))
theorem Q135.spec {k a0 r} (H:Q135.f k a0=some r) :
  Spec prog 97 [.agg (zV8 a0)] [] [] (fun v l=>v=.int .i64 r/\l=[]):=by
 refine Zg Tryz.func97 fun w0 F0 h0=>?_;unfold Q135.f at H;refine Sd (Sb (rB (Z1 h0) fun b1 w1 h1=>?_));refine rFi [1] ?_;refine Sd (Sd (Sb (rLo 0 h1 ?_)));refine cS H [] h1 rfl Q138.spec Zk fun r1 w2 H h2=>?_;refine rFi [1,8] ?_;refine jIf H (fun c1 H=>?_) fun c1 H=>?_
 ·refine Sd (Za [2] ?_);cases H;exact Sc (jR0 h2 [])
 refine Se (Sd (Za [1,3] ?_));refine Sd (Sd (Za [1,3,4] ?_));refine T5 ?_;have h9:=(sOR h2 [0] []);refine T9 (fun kk env w=>∃ x1 x2,Q135.l0 kk a0 x1 x2=some r/\env=[(1,.pointer (some ⟨b1,0,none⟩)),(3,.int .i64 x1),(4,.int .i64 x2)]/\St w0 F0 [zX23 b1 a0] [] w) (k:=k) ⟨_,_,H,rfl,h9⟩ ?_;rintro k1 env w3 ⟨x1,x2,H,rfl,h3⟩;rcases k1 with _ | k1
 ·exact z0 H
 rw [Q135.l0] at H;refine Sd (Sd (Sb (rRL 2 0 h3 ?_)));refine rFi [1,3,4,12] ?_;refine jIf H (fun c2 H=>?_) fun c2 H=>?_
 ·refine Se (Sd (T5 (Sd (Za [1,3,4] ?_))));refine Sd (Za [1,3,4,18] ?_);refine jIf H (fun c3 H=>?_) fun c3 H=>?_
  ·refine Sb (rRL 3 0 h3 ?_);refine rFi [1,3,4] ?_;refine Za [1,3,4] ?_;have h4:=(sOR h3 [0] []);exact ⟨k1,by omega,_,_,H,rfl,h4⟩
  refine Se (Za [1,3,4] ?_);have h5:=(sOR h3 [0] []);exact ⟨k1,by omega,_,_,H,rfl,h5⟩
 refine T8 (Sd (Sd (Za [1,3,5] ?_)));refine T5 ?_;have h8:=(sOR h3 [0] []);refine T9 (fun kk env w=>∃ x3 x4,Q135.l1 kk a0 x3 x4=some r/\env=[(1,.pointer (some ⟨b1,0,none⟩)),(3,.int .i64 x3),(5,.int .i64 x4)]/\St w0 F0 [zX23 b1 a0] [] w) (k:=k1) ⟨_,_,H,rfl,h8⟩ ?_;rintro k2 env w4 ⟨x3,x4,H,rfl,h6⟩;rcases k2 with _ | k2
 ·exact z0 H
 rw [Q135.l1] at H;refine Sd (Sd (Sb (rRL 2 0 h6 ?_)));refine rFi [1,3,5,27] ?_;refine jIf H (fun c4 H=>?_) fun c4 H=>?_
 ·refine Se (Sd (T5 (Sb (rRL 3 0 h6 ?_))));refine rRL 2 0 h6 ?_;refine rFi [1,3,5] ?_;refine Za [1,3,5] ?_;have h7:=(sOR h6 [0] []);exact ⟨k2,by omega,_,_,H,rfl,h7⟩
 refine T8 (Sd (Za [2] ?_));cases H;exact Sc (jR0 h6 [])

def Q136.l0:Nat->Tt->(Int)->(Int)->Option (Int)
 | 0,_,_,_=>none
 | k+1,a0,x1,x2=>if (decide (x2<a0.2.2.2.2.2.1))=true then (Q136.l0 k a0 (w64 ((w64 ((w64 (x1+3))+a0.2.2.2.2.2.2.1))+a0.2.2.2.2.2.2.2)) (w64 (x2+1))) else (some x1)
def Q136.f (k:Nat) (a0:Tt):Option (Int):=(Q138.f a0).bind fun r1=>(if (!r1)=true then (some 0) else (Q136.l0 k a0 8 0))
theorem Q136.spec {k a0 r} (H:Q136.f k a0=some r) :
  Spec prog 98 [.agg (zV8 a0)] [] [] (fun v l=>v=.int .i64 r/\l=[]):=by
 refine Zg Tryz.func98 fun w0 F0 h0=>?_;unfold Q136.f at H;refine Sd (Sb (rB (Z1 h0) fun b1 w1 h1=>?_));refine rFi [1] ?_;refine Sd (Sd (Sb (rLo 0 h1 ?_)));refine cS H [] h1 rfl Q138.spec Zk fun r1 w2 H h2=>?_;refine rFi [1,7] ?_;refine jIf H (fun c1 H=>?_) fun c1 H=>?_
 ·refine Sd (Za [2] ?_);cases H;exact Sc (jR0 h2 [])
 refine Se (Sd (Za [1,3] ?_));refine Sd (Sd (Za [1,3,4] ?_));refine T5 ?_;have h5:=(sOR h2 [0] []);refine T9 (fun kk env w=>∃ x1 x2,Q136.l0 kk a0 x1 x2=some r/\env=[(1,.pointer (some ⟨b1,0,none⟩)),(3,.int .i64 x1),(4,.int .i64 x2)]/\St w0 F0 [zX23 b1 a0] [] w) (k:=k) ⟨_,_,H,rfl,h5⟩ ?_;rintro k1 env w3 ⟨x1,x2,H,rfl,h3⟩;rcases k1 with _ | k1
 ·exact z0 H
 rw [Q136.l0] at H;refine Sd (Sd (Sb (rRL 2 0 h3 ?_)));refine rFi [1,3,4,11] ?_;refine jIf H (fun c2 H=>?_) fun c2 H=>?_
 ·refine Se (Sd (T5 (Sb (rRL 3 0 h3 ?_))));refine rRL 2 0 h3 ?_;refine rFi [1,3,4] ?_;refine Za [1,3,4] ?_;have h4:=(sOR h3 [0] []);exact ⟨k1,by omega,_,_,H,rfl,h4⟩
 refine T8 (Sd (Za [2] ?_));cases H;exact Sc (jR0 h3 [])

def Q137.f (k:Nat) (a0:Tt):Option (Bool):=(Q138.f a0).bind fun r1=>(if r1=true then ((Q139.f a0.1 5 65536).bind fun r2=>(if r2=true then ((Q139.f a0.2.2.1 8 64).bind fun r3=>(if r3=true then ((Q139.f a0.2.1 64 65536).bind fun r4=>(if r4=true then ((Q135.f k a0).bind fun r5=>(if (decide (r5<=a0.2.1))=true then ((Q136.f k a0).bind fun r6=>(some (decide (r6<=a0.2.1)))) else (some false))) else (some false))) else (some false))) else (some false))) else (some false))
theorem Q137.spec {k a0 r} (H:Q137.f k a0=some r) :
  Spec prog 49 [.agg (zV8 a0)] [] [] (fun v l=>v=.bool r/\l=[]):=by
 refine Zg Tryz.func49 fun w0 F0 h0=>?_;unfold Q137.f at H;refine Sd (Sb (rB (Z1 h0) fun b1 w1 h1=>?_));refine rFi [1] ?_;refine Sd (jH h1 fun h2=>?_);refine Zc 0 rfl (Ze 0 wI) ?_;refine cSJ 1 rfl H [] h2 rfl Q138.spec Zk 0 fun r1 w2 H h3=>?_;refine Zq [2] ?_;refine Xy 5 H (fun c1 H=>?_) fun c1 H=>?_
 ·refine Zq [3] ?_;refine Zc 4 rfl (Ze 0 wI) ?_;refine cSJ 5 rfl H [] h3 rfl Q139.spec Zk 0 fun r2 w3 H h4=>?_;refine Zq [6,7] ?_;refine Xy 10 H (fun c2 H=>?_) fun c2 H=>?_
  ·refine Zq [8] ?_;refine Zc 9 rfl (Ze 0 wI) ?_;refine cSJ 10 rfl H [] h4 rfl Q139.spec Zk 0 fun r3 w4 H h5=>?_;refine Zq [11,12] ?_;refine Xy 15 H (fun c3 H=>?_) fun c3 H=>?_
   ·refine Zq [13] ?_;refine Zc 14 rfl (Ze 0 wI) ?_;refine cSJ 15 rfl H [] h5 rfl Q139.spec Zk 0 fun r4 w5 H h6=>?_;refine Zq [16,17] ?_;refine Xy 20 H (fun c4 H=>?_) fun c4 H=>?_
    ·refine Zq [18] ?_;refine Zc 19 rfl (Ze 0 wI) ?_;refine Zc 20 rfl (Ze 0 wI) ?_;refine cSJ 21 rfl H [] h6 rfl Q135.spec Zk 0 fun r5 w6 H h7=>?_;refine Zq [22,23,24] ?_;refine Xy 27 H (fun c5 H=>?_) fun c5 H=>?_
     ·refine Zq [25] ?_;refine Zc 26 rfl (Ze 0 wI) ?_;refine Zc 27 rfl (Ze 0 wI) ?_;refine cSJ 28 rfl H [] h7 rfl Q136.spec Zk 0 fun r6 w7 H h8=>?_;refine hRF [29,30,31] [2] ?_;cases H;exact Sc (jR0 h8 [])
     refine hRF [25,26,27,28,29,30,31] [2] ?_;cases H;exact Sc (jR0 h7 [])
    refine hRF [18,19,20,21,22,23,24,25,26,27,28,29,30,31] [2] ?_;cases H;exact Sc (jR0 h6 [])
   refine hRF [13,14,15,16,17,18,19,20,21,22,23,24,25,26,27,28,29,30,31] [2] ?_;cases H;exact Sc (jR0 h5 [])
  refine hRF [8,9,10,11,12,13,14,15,16,17,18,19,20,21,22,23,24,25,26,27,28,29,30,31] [2] ?_;cases H;exact Sc (jR0 h4 [])
 refine hRF [3,4,5,6,7,8,9,10,11,12,13,14,15,16,17,18,19,20,21,22,23,24,25,26,27,28,29,30,31] [2] ?_;cases H;exact Sc (jR0 h3 [])

def Q121.f (k:Nat) (a0:Tt):Option (Bool):=(Q137.f k a0).bind fun r1=>(if r1=true then (if (decide (a0.2.1<=3000))=true then (some (decide (a0.1<=400))) else (some false)) else (some false))
theorem Q121.spec {k a0 r} (H:Q121.f k a0=some r) :
  Spec prog 28 [.agg (zV8 a0)] [] [] (fun v l=>v=.bool r/\l=[]):=by
 refine Zg Tryz.func28 fun w0 F0 h0=>?_;unfold Q121.f at H;refine Sd (Sb (rB (Z1 h0) fun b1 w1 h1=>?_));refine rFi [1] ?_;refine Sd (Sb (rLo 0 h1 ?_));refine cS H [] h1 rfl Q137.spec Zk fun r1 w2 H h2=>?_;refine Zd 1 ?_;refine Z4 5 H (fun c1 H=>?_) fun c1 H=>?_
 ·refine rRL 1 0 h2 ?_;refine Zd 3 ?_;refine Z4 10 H (fun c2 H=>?_) fun c2 H=>?_
  ·refine rRL 1 0 h2 ?_;refine rFi [2] ?_;cases H;exact Sc (jR0 h2 [])
  refine rFi [2] ?_;cases H;exact Sc (jR0 h2 [])
 refine rFi [2] ?_;cases H;exact Sc (jR0 h2 [])

def Q55.f (a0:Int) (a1:Int):Option (Bool):=if (decide (5<=a0))=true then (if (decide (a0<=65536))=true then (if (decide (1<=a1))=true then (some (decide (a1<=65536))) else (some false)) else (some false)) else (some false)
theorem Q55.spec {a0 a1 r} (H:Q55.f a0 a1=some r) :
  Spec prog 100 [.int .i64 a0,.int .i64 a1] [] [] (fun v l=>v=.bool r/\l=[]):=by
 refine Zg Tryz.func100 fun w0 F0 h0=>?_;unfold Q55.f at H;refine Sd (Za [0,1] ?_);refine Sd (Sb (Zd 3 ?_));refine Z4 7 H (fun c1 H=>?_) fun c1 H=>?_
 ·refine Zd 4 ?_;refine Z4 11 H (fun c2 H=>?_) fun c2 H=>?_
  ·refine Zd 4 ?_;refine Z4 15 H (fun c3 H=>?_) fun c3 H=>?_
   ·refine rFi [4] ?_;cases H;exact Sc (jR0 h0 [])
   refine rFi [4] ?_;cases H;exact Sc (jR0 h0 [])
  refine rFi [4] ?_;cases H;exact Sc (jR0 h0 [])
 refine rFi [4] ?_;cases H;exact Sc (jR0 h0 [])

def Q54.f (a0:Int) (a1:Int):Option (Option TH×Int):=(Q55.f a0 a1).bind fun r1=>(if (!r1)=true then (some (none,2)) else (if 0<=(w64 (a0*a1))/\(w64 (a0*a1))*1<=281474976710656 then (some ((some (a1,(List.replicate ((w64 (a0*a1)).toNat) (0:Int)),(0,0))),0)) else none))
theorem Q54.spec {a0 a1 r} (H:Q54.f a0 a1=some r) :
  Spec prog 51 [.int .i64 a0,.int .i64 a1] [] [] (fun v l=>∃(pv:Value) (lp:List Ch),OptC r.1 (fun d pv lp=>∃ b_0 A_1 c_1,pv=.pointer (some ⟨b_0,0,none⟩)/\lp=[Y1 b_0 d.1 d.2.1 A_1 c_1 d.2.2.1 d.2.2.2,O5 d.2.1 A_1 c_1]) pv lp/\v=.tuple #[pv,.int .i64 r.2]/\l=lp ++ []):=by
 refine Zg Tryz.func51 fun w0 F0 h0=>?_;unfold Q54.f at H;refine Sd (Za [0,1] ?_);refine Sd (Sd (Sb (Zd 2 ?_)));refine cS H [] h0 rfl Q55.spec Zk fun r1 w1 H h1=>?_;refine rFi [0,1,9] ?_;refine jIf H (fun c1 H=>?_) fun c1 H=>?_
 ·refine Sd (Za [4,5] ?_);cases H;exact Sc (jR ⟨_,_,Sh,rfl,rfl⟩ h1 [])
 refine Se (Sd (Sb (Zd 4 ?_)));obtain ⟨⟨p1,p2⟩,H⟩:=Zp H;refine rB (Bn Yy (ty:=(.int .u8)) rfl (0:Int) rfl rfl rfl rfl rfl rfl rfl (by decide) h1 p1 p2) fun b1 w2 h2=>?_;refine Zd 1 ?_;refine rB (Z1 h2) fun b2 w3 h3=>?_;refine rFi [4,5] ?_;cases H;exact Sc (jR ⟨_,_,(Si ⟨_,_,_,rfl,rfl⟩),rfl,rfl⟩ h3 [0,0])

def Q49.f (a0:Tt):Option (Bool):=if (decide (a0.2.2.2.1<8))=true then (some false) else (if (decide (64<a0.2.2.2.1))=true then (some false) else (if (decide (a0.2.2.2.2.1<(w64 (2*a0.2.2.2.1))))=true then (some false) else (if (decide (512<a0.2.2.2.2.1))=true then (some false) else (if (decide (a0.2.2.2.2.2.1<a0.2.2.2.2.1))=true then (some false) else (if (decide (1024<a0.2.2.2.2.2.1))=true then (some false) else (if (decide (a0.2.2.2.2.2.2.1<1))=true then (some false) else (if (decide (64<a0.2.2.2.2.2.2.1))=true then (some false) else (if (decide (a0.2.2.2.2.2.2.2<0))=true then (some false) else (if (decide (256<a0.2.2.2.2.2.2.2))=true then (some false) else (some true))))))))))
theorem Q49.spec {a0 r} (H:Q49.f a0=some r) :
  Spec prog 93 [.agg (zV8 a0)] [] [] (fun v l=>v=.bool r/\l=[]):=by
 refine Zg Tryz.func93 fun w0 F0 h0=>?_;unfold Q49.f at H;refine Sd (Sb (rB (Z1 h0) fun b1 w1 h1=>?_));refine rFi [1] ?_;refine Sd (T5 (Sd (Sb (rRL 1 0 h1 ?_))));refine Zd 2 ?_;refine Z4 7 H (fun c1 H=>?_) fun c1 H=>?_
 ·refine rFi [1,3] ?_;refine Zn ?_;refine Se (Sd (Za [2] ?_));cases H;exact Sc (jR0 h1 [])
 refine rRL 1 0 h1 ?_;refine rFi [1,3] ?_;refine jIf H (fun c2 H=>?_) fun c2 H=>?_
 ·refine Se (Sd (Za [2] ?_));cases H;exact Sc (jR0 h1 [])
 refine Sd (Sb (rRL 1 0 h1 ?_));refine rRL 1 0 h1 ?_;refine Zd 3 ?_;refine Z4 19 H (fun c3 H=>?_) fun c3 H=>?_
 ·refine rFi [1,12] ?_;refine Zn ?_;refine Se (Sd (Za [2] ?_));cases H;exact Sc (jR0 h1 [])
 refine rRL 1 0 h1 ?_;refine rFi [1,12] ?_;refine jIf H (fun c4 H=>?_) fun c4 H=>?_
 ·refine Se (Sd (Za [2] ?_));cases H;exact Sc (jR0 h1 [])
 refine Sd (Sb (rRL 1 0 h1 ?_));refine rRL 1 0 h1 ?_;refine Zd 2 ?_;refine Z4 30 H (fun c5 H=>?_) fun c5 H=>?_
 ·refine rFi [1,24] ?_;refine Zn ?_;refine Se (Sd (Za [2] ?_));cases H;exact Sc (jR0 h1 [])
 refine rRL 1 0 h1 ?_;refine rFi [1,24] ?_;refine jIf H (fun c6 H=>?_) fun c6 H=>?_
 ·refine Se (Sd (Za [2] ?_));cases H;exact Sc (jR0 h1 [])
 refine Sd (Sb (rRL 1 0 h1 ?_));refine Zd 2 ?_;refine Z4 39 H (fun c7 H=>?_) fun c7 H=>?_
 ·refine rFi [1,35] ?_;refine Zn ?_;refine Se (Sd (Za [2] ?_));cases H;exact Sc (jR0 h1 [])
 refine rRL 1 0 h1 ?_;refine rFi [1,35] ?_;refine jIf H (fun c8 H=>?_) fun c8 H=>?_
 ·refine Se (Sd (Za [2] ?_));cases H;exact Sc (jR0 h1 [])
 refine Sd (Sb (rRL 1 0 h1 ?_));refine Zd 2 ?_;refine Z4 48 H (fun c9 H=>?_) fun c9 H=>?_
 ·refine rFi [44] ?_;refine Zn ?_;refine Se (Sd (Za [2] ?_));cases H;exact Sc (jR0 h1 [])
 refine rRL 1 0 h1 ?_;refine rFi [44] ?_;refine jIf H (fun c10 H=>?_) fun c10 H=>?_
 ·refine Se (Sd (Za [2] ?_));cases H;exact Sc (jR0 h1 [])
 refine Sd (Za [2] ?_);cases H;exact Sc (jR0 h1 [])

def Q46.f (a0:Tt):Option (Int):=(Q49.f a0).bind fun r1=>(if (!r1)=true then (some 0) else (some (w64 ((w64 ((w64 (8+(w64 (4*a0.2.2.2.1))))+(w64 ((w64 (a0.2.2.2.1 - 1))*(w64 (1+a0.2.2.2.2.2.2.1))))))+(w64 (a0.2.2.2.2.1*(w64 ((w64 (4+a0.2.2.2.2.2.2.1))+a0.2.2.2.2.2.2.2))))))))
theorem Q46.spec {a0 r} (H:Q46.f a0=some r) :
  Spec prog 150 [.agg (zV8 a0)] [] [] (fun v l=>v=.int .i64 r/\l=[]):=by
 refine Zg Tryz.func150 fun w0 F0 h0=>?_;unfold Q46.f at H;refine Sd (Sb (rB (Z1 h0) fun b1 w1 h1=>?_));refine rFi [1] ?_;refine Sd (Sd (Sb (rLo 0 h1 ?_)));refine cS H [] h1 rfl Q49.spec Zk fun r1 w2 H h2=>?_;refine rFi [1,5] ?_;refine jIf H (fun c1 H=>?_) fun c1 H=>?_
 ·refine Sd (Za [2] ?_);cases H;exact Sc (jR0 h2 [])
 refine Se (Sd (Sb (rRL 1 0 h2 ?_)));refine rRL 3 0 h2 ?_;refine rRL 2 0 h2 ?_;refine rRL 4 0 h2 ?_;refine rRL 1 0 h2 ?_;refine rRL 2 0 h2 ?_;refine rFi [2] ?_;cases H;exact Sc (jR0 h2 [])

def Q48.f (a0:Tt):Option (Int):=(Q49.f a0).bind fun r1=>(if (!r1)=true then (some 0) else (some (w64 (8+(w64 (a0.2.2.2.2.2.1*(w64 ((w64 (3+a0.2.2.2.2.2.2.1))+a0.2.2.2.2.2.2.2))))))))
theorem Q48.spec {a0 r} (H:Q48.f a0=some r) :
  Spec prog 151 [.agg (zV8 a0)] [] [] (fun v l=>v=.int .i64 r/\l=[]):=by
 refine Zg Tryz.func151 fun w0 F0 h0=>?_;unfold Q48.f at H;refine Sd (Sb (rB (Z1 h0) fun b1 w1 h1=>?_));refine rFi [1] ?_;refine Sd (Sd (Sb (rLo 0 h1 ?_)));refine cS H [] h1 rfl Q49.spec Zk fun r1 w2 H h2=>?_;refine rFi [1,5] ?_;refine jIf H (fun c1 H=>?_) fun c1 H=>?_
 ·refine Sd (Za [2] ?_);cases H;exact Sc (jR0 h2 [])
 refine Se (Sd (Sb (rRL 1 0 h2 ?_)));refine rRL 1 0 h2 ?_;refine rRL 2 0 h2 ?_;refine rFi [2] ?_;cases H;exact Sc (jR0 h2 [])

def Q47.f (a0:Tt):Option Ts:=(Q49.f a0).bind fun r1=>(if r1=true then ((Q46.f a0).bind fun r2=>((Q48.f a0).bind fun r3=>(some (a0.1,(if r3>(if r2>(64:Int) then r2 else (64:Int)) then r3 else (if r2>(64:Int) then r2 else (64:Int))),a0.2.2.1,a0.2.2.2.1,a0.2.2.2.2.1,a0.2.2.2.2.2.1,a0.2.2.2.2.2.2.1,a0.2.2.2.2.2.2.2)))) else (some a0))
theorem Q47.spec {a0 r} (H:Q47.f a0=some r) :
  Spec prog 94 [.agg (zV8 a0)] [] [] (fun v l=>v=.agg #[.int .i64 r.1,.int .i64 r.2.1,.int .i64 r.2.2.1,.int .i64 r.2.2.2.1,.int .i64 r.2.2.2.2.1,.int .i64 r.2.2.2.2.2.1,.int .i64 r.2.2.2.2.2.2.1,.int .i64 r.2.2.2.2.2.2.2]/\l=[]):=by
 refine Zg Tryz.func94 fun w0 F0 h0=>?_;unfold Q47.f at H;refine Sd (Sb (rB (Z1 h0) fun b1 w1 h1=>?_));refine rB (Z9 h1) fun b2 w2 h2=>?_;refine rFi [1,2] ?_;refine Sd (Sd (Sb (rLo 1 h2 ?_)));refine cS H [] h2 rfl Q49.spec Zk fun r1 w3 H h3=>?_;refine rFi [1,2,4] ?_;refine jIf H (fun c1 H=>?_) fun c1 H=>?_
 ·obtain ⟨r2,q2,H⟩:=Yc H;obtain ⟨r3,q3,H⟩:=Yc H;refine Sa (fun env w=>env=[(1,.pointer (some ⟨b1,0,none⟩)),(2,.pointer (some ⟨b2,0,none⟩))]/\St w0 F0 [X23 b1 a0.1 (if r3>(if r2>(64:Int) then r2 else (64:Int)) then r3 else (if r2>(64:Int) then r2 else (64:Int))) a0.2.2.1 a0.2.2.2.1 a0.2.2.2.2.1 a0.2.2.2.2.2.1 a0.2.2.2.2.2.2.1 a0.2.2.2.2.2.2.2,X23 b2 0 0 0 0 0 0 0 0] [] w) ?_ ?_
  ·refine Zs (sO h3 [0]) ?_;have h7:=h3.drew;refine HJ.named fun G E hE hG=>?_;have j13:∀ w33,St w0 F0 [X23 b2 0 0 0 0 0 0 0 0,zX23 b1 a0] [] w33->G [2,1,0] ((7,.agg (zV8 a0)) :: (6,.int .i64 r2) :: (5,.agg (zV8 a0)) :: E) w33:=by
    intro w33 h21;subst hE;refine (hG _ _ _).1 ?_;refine Yi 3 rfl (Ub [] (Q48.spec q3) h21 rfl Zk) ?_;rintro _ w38 ⟨_,⟨rfl,rfl⟩,h22⟩;replace h22:=nf h22;refine ⟨⟨[_],(sO h22 [1,0])⟩,?_⟩;refine Zc 4 rfl Zkq ?_;refine Zq [5] ?_;refine hS 6 rfl (Zr 1 h22) 1 fun _ w39 h23=>?_;refine Y7 [1,2] ?_;exact Y3 ⟨rfl,(sOR h23 [0,0] [])⟩
   have j14:∀ w3,St w0 F0 [X23 b2 0 0 0 0 0 0 0 0,zX23 b1 a0] [] w3->G [2,0] ((7,.agg (zV8 a0)) :: (5,.agg (zV8 a0)) :: E) w3:=by
    intro w3 h7;subst hE;refine (hG _ _ _).1 ?_;refine Yi 1 rfl (Ub [] (Q46.spec q2) h7 rfl Zk) ?_;rintro _ w40 ⟨_,⟨rfl,rfl⟩,h24⟩;replace h24:=nf h24;refine ⟨⟨[_],(sO h24 [1,0])⟩,?_⟩;exact ((hG _ _ _).2 (j13 _ h24)).re [1,0,2] 3
   subst hE;refine (hG _ _ _).1 ?_;refine T4 [0,2] (i:=0) rfl rfl rfl rfl ?_;refine (Xo ?_ (Xo ?_ Uu))
   ·refine Xt 0 rfl (Sg (Ze 1 h7.wht)) ?_;rintro _ _ ⟨rfl,rfl⟩;replace h7:=nf h7;refine ⟨⟨[_],(sO h7 [1,0])⟩,?_⟩;refine T4 [1,2] (i:=1) rfl rfl rfl rfl ?_;refine (Xo ?_ (Xo ?_ Uu))
    ·refine Xt 1 rfl (Ub [] (Q46.spec q2) h7 rfl Zk) ?_;rintro _ w33 ⟨_,⟨rfl,rfl⟩,h21⟩;replace h21:=nf h21;refine ⟨⟨[_],(sO h21 [1,0])⟩,?_⟩;refine Yi 2 rfl (Sg (Ze 1 h21.wht)) ?_;rintro _ _ ⟨rfl,rfl⟩;replace h21:=nf h21;refine ⟨⟨[_],(sO h21 [1,0])⟩,?_⟩;exact (hG _ _ _).2 (j13 _ h21)
    ·refine Xt 2 rfl (Sg (Ze 1 h7.wht)) ?_;rintro _ _ ⟨rfl,rfl⟩;replace h7:=nf h7;refine ⟨⟨[_],(sO h7 [1,0])⟩,?_⟩;exact (hG _ _ _).2 (j14 _ h7)
   ·refine Xt 2 rfl (Sg (Ze 1 h7.wht)) ?_;rintro _ _ ⟨rfl,rfl⟩;replace h7:=nf h7;refine ⟨⟨[_],(sO h7 [1,0])⟩,?_⟩;refine Yi 0 rfl (Sg (Ze 1 h7.wht)) ?_;rintro _ _ ⟨rfl,rfl⟩;replace h7:=nf h7;refine ⟨⟨[_],(sO h7 [1,0])⟩,?_⟩;exact ((hG _ _ _).2 (j14 _ h7)).re [1,0] 2
  rintro env w55 ⟨rfl,h34⟩;refine Sd (Sb (rLo 0 h34 ?_));refine rS (Zr 1 h34) fun _ w56 h35=>?_;refine rFi [2] ?_;cases H;exact Sc (jR2 (Yb (Sj Yy 0 h35 rfl rfl rfl rfl) Xu) ⟨rfl,rfl⟩ h35 [])
 refine Se (Sd (Sb (rLo 1 h3 ?_)));refine rS (Zr 0 h3) fun _ w57 h36=>?_;refine rFi [2] ?_;cases H;exact Sc (jR2 (Yb (Sj Yy 0 h36 rfl rfl rfl rfl) Xu) ⟨rfl,rfl⟩ h36 [])

def Q45.f (a0:Tt):Option (Int):=(Q49.f a0).bind fun r1=>(if r1=true then (if (decide (5<=a0.1))=true then (if (decide (a0.1<=65536))=true then (if (decide (8<=a0.2.2.1))=true then (if (!(decide (a0.2.2.1<=64)))=true then (some 2) else (if (decide (65536<a0.2.1))=true then (some 2) else ((Q47.f a0).bind fun r2=>(if (decide (a0.2.1<r2.2.1))=true then (some 2) else (some 0))))) else (some 2)) else (some 2)) else (some 2)) else (some 2))
theorem Q45.spec {a0 r} (H:Q45.f a0=some r) :
  Spec prog 48 [.agg (zV8 a0)] [] [] (fun v l=>v=.int .i64 r/\l=[]):=by
 refine Zg Tryz.func48 fun w0 F0 h0=>?_;unfold Q45.f at H;refine Sd (Sb (rB (Z1 h0) fun b1 w1 h1=>?_));refine rFi [1] ?_;refine Sd (Sb (rLo 0 h1 ?_));refine cS H [] h1 rfl Q49.spec Zk fun r1 w2 H h2=>?_;refine Zd 1 ?_;refine Z4 6 H (fun c1 H=>?_) fun c1 H=>?_
 ·refine rRL 1 0 h2 ?_;refine Zd 3 ?_;refine Z4 11 H (fun c2 H=>?_) fun c2 H=>?_
  ·refine rRL 1 0 h2 ?_;refine Zd 3 ?_;refine Z4 16 H (fun c3 H=>?_) fun c3 H=>?_
   ·refine rRL 1 0 h2 ?_;refine Zd 3 ?_;refine Z4 21 H (fun c4 H=>?_) fun c4 H=>?_
    ·refine rRL 1 0 h2 ?_;refine rFi [1,3] ?_;refine Sd (Sd (jH h2 fun h3=>?_));refine Zq [0,1,2] ?_;refine Xy 28 H (fun c5 H=>?_) fun c5 H=>?_
     ·refine hRF [3,4,5,6,7,8,9,10,11,12,13,14] [40] ?_;refine Zn ?_;refine Sd (Za [2] ?_);cases H;exact Sc (jR0 h3 [])
     refine Zq [3] ?_;refine Zc 4 rfl (Ze 0 wI) ?_;refine Zq [5,6,7] ?_;refine Xy 33 H (fun c6 H=>?_) fun c6 H=>?_
     ·refine hRF [8,9,10,11,12,13,14] [40] ?_;refine Zn ?_;refine Sd (Za [2] ?_);cases H;exact Sc (jR0 h3 [])
     refine Zq [8] ?_;refine Zc 9 rfl (Ze 0 wI) ?_;refine Zc 10 rfl (Ze 0 wI) ?_;refine cSJ 11 rfl H [] h3 rfl Q47.spec Zk 0 fun r2 w3 H h4=>?_;refine hRF [12,13,14] [40] ?_;refine jIf H (fun c7 H=>?_) fun c7 H=>?_
     ·refine Sd (Za [2] ?_);cases H;exact Sc (jR0 h4 [])
     refine Se (Sd (Za [2] ?_));cases H;exact Sc (jR0 h4 [])
    refine rFi [1,3] ?_;refine Sd (Sd (jH h2 fun h5=>?_));refine hRF [0,1,2,3,4,5,6,7,8,9,10,11,12,13,14] [40] ?_;refine Zn ?_;refine Sd (Za [2] ?_);cases H;exact Sc (jR0 h5 [])
   refine rFi [1,3] ?_;refine Sd (Sd (jH h2 fun h6=>?_));refine hRF [0,1,2,3,4,5,6,7,8,9,10,11,12,13,14] [40] ?_;refine Zn ?_;refine Sd (Za [2] ?_);cases H;exact Sc (jR0 h6 [])
  refine rFi [1,3] ?_;refine Sd (Sd (jH h2 fun h7=>?_));refine hRF [0,1,2,3,4,5,6,7,8,9,10,11,12,13,14] [40] ?_;refine Zn ?_;refine Sd (Za [2] ?_);cases H;exact Sc (jR0 h7 [])
 refine rFi [1,3] ?_;refine Sd (Sd (jH h2 fun h8=>?_));refine hRF [0,1,2,3,4,5,6,7,8,9,10,11,12,13,14] [40] ?_;refine Zn ?_;refine Sd (Za [2] ?_);cases H;exact Sc (jR0 h8 [])

def Q50.f (a0:TH):Option (Int):=if (decide (a0.1=0))=true then (some 0) else (if 0<a0.1 then (some (w64 (Int.tdiv (a0.2.1.length:Int) a0.1))) else none)
theorem Q50.spec {a0 b1 A1 c_1 r} (H:Q50.f a0=some r) :
  Spec prog 102 [.pointer (some ⟨b1,0,none⟩)] (Zbl a0 b1 A1 c_1) [] (fun v l=>v=.int .i64 r/\l=Zbl a0 b1 A1 c_1):=by
 refine eN Tryz.func102 fun w0 F0 h0=>?_;unfold Q50.f at H;refine Sd (Za [0] ?_);refine Sd (Sd (Sb (rRL 6 0 h0 ?_)));refine rFi [0,11] ?_;refine jIf H (fun c1 H=>?_) fun c1 H=>?_
 ·refine Sd (Za [2] ?_);cases H;exact Sc (jR0 h0 [0,0])
 refine Se (Sd (jH h0 fun h1=>?_));refine Zq [0,1,2,5,6,7] ?_;refine Zc 3 rfl (Ze 0 wI) ?_;refine Zq [4] ?_;refine Zc 8 rfl (Ze 0 wI) ?_;obtain ⟨p1,H⟩:=Zp H;refine Zc 9 rfl (Zmt p1) ?_;refine hRF [10] [2] ?_;cases H;exact Sc (jR0 h1 [0,0])

def Q31.f (a0:Int):Option (Option TG×Int):=if (decide (a0<1))=true then (some (none,2)) else (if (decide (4096<a0))=true then (some (none,2)) else (if 0<=(w64 (a0+1))/\(w64 (a0+1))*24<=281474976710656 then (if 0<=a0/\a0<((List.replicate ((w64 (a0+1)).toNat) ((0,0,false):Int×Int×Bool)).length:Int) then (some ((some (((List.replicate ((w64 (a0+1)).toNat) ((0,0,false):Int×Int×Bool)).set a0.toNat (a0,a0,false)),0)),0)) else none) else none))
theorem Q31.spec {a0 r} (H:Q31.f a0=some r) :
  Spec prog 155 [.int .i64 a0] [] [] (fun v l=>∃(pv:Value) (lp:List Ch),OptC r.1 (fun d pv lp=>∃ b_0 A_1 c_1,pv=.pointer (some ⟨b_0,0,none⟩)/\lp=[Yn b_0 d.1 A_1 c_1 d.2,Yo d.1 A_1 c_1]) pv lp/\v=.tuple #[pv,.int .i64 r.2]/\l=lp ++ []):=by
 refine Zg Tryz.func155 fun w0 F0 h0=>?_;unfold Q31.f at H;refine Sd (Za [0] ?_);refine Sd (Sd (Sb (Zd 3 ?_)));refine Z4 7 H (fun c1 H=>?_) fun c1 H=>?_
 ·refine rFi [0,10] ?_;refine Zn ?_;refine Sd (Za [2,3] ?_);cases H;exact Sc (jR ⟨_,_,Sh,rfl,rfl⟩ h0 [])
 refine rFi [0,10] ?_;refine jIf H (fun c2 H=>?_) fun c2 H=>?_
 ·refine Sd (Za [2,3] ?_);cases H;exact Sc (jR ⟨_,_,Sh,rfl,rfl⟩ h0 [])
 refine Se (Sd (Sb (Zd 2 ?_)));obtain ⟨⟨p1,p2⟩,H⟩:=Zp H;refine rB (Bn Yy (ty:=(.pair (.int .i64) (.pair (.int .i64) .bool))) rfl ((0,0,false):Int×Int×Bool) rfl rfl rfl rfl rfl rfl rfl (by decide) h0 p1 p2) fun b1 w1 h1=>?_;refine Zd 1 ?_;refine rB (Z1 h1) fun b2 w2 h2=>?_;refine rFi [0,4] ?_;refine Sd (Sb (rRL 3 0 h2 ?_));refine Zd 4 ?_;refine rI H h2 (gO 1) fun p3 p4 e1 H=>?_;refine rS (Zo 0 (.pair (.int .i64) (.pair (.int .i64) .bool)) a0 (a0,a0,false) 1 h2 rfl p3 p4) fun _ w3 h3=>?_;replace h3:St w0 F0 [Yo ((List.replicate ((w64 (a0+1)).toNat) ((0,0,false):Int×Int×Bool)).set a0.toNat (a0,a0,false)) (some ⟨b1,0,none⟩) ((w64 (a0+1)).toNat),Yn b2 ((List.replicate ((w64 (a0+1)).toNat) ((0,0,false):Int×Int×Bool)).set a0.toNat (a0,a0,false)) (some ⟨b1,0,none⟩) ((w64 (a0+1)).toNat) 0] _ _:=h3.retell (by simp only [length_set,length_nil,Yo,Yn] <;> rfl);refine rFi [4] ?_;refine Sd (Za [2,3] ?_);cases H;exact Sc (jR ⟨_,_,(Si ⟨_,_,_,rfl,rfl⟩),rfl,rfl⟩ h3 [1,0])

def Q51.f (a0:TH):Option (Int):=some a0.1
theorem Q51.spec {a0 b1 A1 c_1 r} (H:Q51.f a0=some r) :
  Spec prog 103 [.pointer (some ⟨b1,0,none⟩)] (Zbl a0 b1 A1 c_1) [] (fun v l=>v=.int .i64 r/\l=Zbl a0 b1 A1 c_1):=by
 refine eN Tryz.func103 fun w0 F0 h0=>?_;unfold Q51.f at H;refine Sd (Za [0] ?_);refine Sd (Sd (Za [0,4] ?_));refine Zz ?_;refine Se (Sd (Sb (rRL 3 0 h0 ?_)));refine rFi [2] ?_;cases H;exact Sc (jR0 h0 [0,0])

def Q2.f (a0:Int):Option (Option TP×Int):=if (decide (a0<1))=true then (some (none,2)) else (if (decide (65536<a0))=true then (some (none,2)) else (if 0<=(w64 (Int.tdiv (w64 ((w64 (a0+64)) - 1)) 64))/\(w64 (Int.tdiv (w64 ((w64 (a0+64)) - 1)) 64))*8<=281474976710656 then (some ((some (a0,0,(List.replicate ((w64 (Int.tdiv (w64 ((w64 (a0+64)) - 1)) 64)).toNat) (0:Int)))),0)) else none))
theorem Q2.spec {a0 r} (H:Q2.f a0=some r) :
  Spec prog 156 [.int .i64 a0] [] [] (fun v l=>∃(pv:Value) (lp:List Ch),OptC r.1 (fun d pv lp=>∃ b_0 A_1 c_1,pv=.pointer (some ⟨b_0,0,none⟩)/\lp=[Xj b_0 d.1 d.2.1 d.2.2 A_1 c_1,Xk d.2.2 A_1 c_1]) pv lp/\v=.tuple #[pv,.int .i64 r.2]/\l=lp ++ []):=by
 refine Zg Tryz.func156 fun w0 F0 h0=>?_;unfold Q2.f at H;refine Sd (Za [0] ?_);refine Sd (Sd (Sb (Zd 3 ?_)));refine Z4 6 H (fun c1 H=>?_) fun c1 H=>?_
 ·refine rFi [0,9] ?_;refine Zn ?_;refine Sd (Za [2,3] ?_);cases H;exact Sc (jR ⟨_,_,Sh,rfl,rfl⟩ h0 [])
 refine rFi [0,9] ?_;refine jIf H (fun c2 H=>?_) fun c2 H=>?_
 ·refine Sd (Za [2,3] ?_);cases H;exact Sc (jR ⟨_,_,Sh,rfl,rfl⟩ h0 [])
 refine Se (Sd (Sb (Zd 5 ?_)));obtain ⟨⟨p1,p2⟩,H⟩:=Zp H;refine rB (Bn Yy (ty:=(.int .u64)) rfl (0:Int) rfl rfl rfl rfl rfl rfl rfl (by decide) h0 p1 p2) fun b1 w1 h1=>?_;refine Zd 1 ?_;refine rB (Z1 h1) fun b2 w2 h2=>?_;refine rFi [2,3] ?_;cases H;exact Sc (jR ⟨_,_,(Si ⟨_,_,_,rfl,rfl⟩),rfl,rfl⟩ h2 [0,0])

def Q7.f (a0:TP):Option (Int):=some a0.1
theorem Q7.spec {a0 b1 A1 c_1 r} (H:Q7.f a0=some r) :
  Spec prog 152 [.pointer (some ⟨b1,0,none⟩)] (W9 a0 b1 A1 c_1) [] (fun v l=>v=.int .i64 r/\l=W9 a0 b1 A1 c_1):=by
 refine eN Tryz.func152 fun w0 F0 h0=>?_;unfold Q7.f at H;refine Sd (Za [0] ?_);refine Sd (Sd (Za [0,4] ?_));refine Zz ?_;refine Se (Sd (Sb (rRL 3 0 h0 ?_)));refine rFi [2] ?_;cases H;exact Sc (jR0 h0 [0,0])

def Q10.f (a0:TP) (a1:Int):Option (Int):=(Q7.f a0).bind fun r1=>(if (decide (r1=0))=true then (some 1) else (if (decide (a1<0))=true then (some 4) else (if (decide (a0.1<=a1))=true then (some 4) else (some 0))))
theorem Q10.spec {a0 a1 b1 A1 c_1 r} (H:Q10.f a0 a1=some r) :
  Spec prog 117 [.pointer (some ⟨b1,0,none⟩),.int .i64 a1] (W9 a0 b1 A1 c_1) [] (fun v l=>v=.int .i64 r/\l=W9 a0 b1 A1 c_1):=by
 refine eN Tryz.func117 fun w0 F0 h0=>?_;unfold Q10.f at H;refine Sd (Za [0,1] ?_);refine Sd (T5 (Sd (Sb (Zd 1 ?_))));refine cS H [0,0] h0 rfl Q7.spec Zk fun r1 w1 H h1=>?_;refine rFi [0,1,5] ?_;refine jIf H (fun c1 H=>?_) fun c1 H=>?_
 ·refine Sd (Za [4] ?_);cases H;exact Sc (jR0 h1 [0,0])
 refine Sd (Sb (Zd 3 ?_));refine Z4 12 H (fun c2 H=>?_) fun c2 H=>?_
 ·refine rFi [9] ?_;refine Zn ?_;refine Sd (Za [4] ?_);cases H;exact Sc (jR0 h1 [0,0])
 refine rRL 4 0 h1 ?_;refine rFi [9] ?_;refine jIf H (fun c3 H=>?_) fun c3 H=>?_
 ·refine Sd (Za [4] ?_);cases H;exact Sc (jR0 h1 [0,0])
 refine Se (Sd (Za [4] ?_));cases H;exact Sc (jR0 h1 [0,0])

def Q6.f (a0:TP) (a1:Int):Option (Bool):=(Q10.f a0 a1).bind fun r1=>(if (decide (r1=0))=true then (if 0<=(w64 (Int.tdiv a1 64))/\(w64 (Int.tdiv a1 64))<(a0.2.2.length:Int) then (if 0<=(Int.tmod a1 64) then (some (decide ((uH.wrap (((ofInt uH.bits (Int.fdiv (gt a0.2.2 (w64 (Int.tdiv a1 64))) (2 ^ (min (Int.tmod a1 64).toNat 64))) &&& (ofInt uH.bits 1)).toNat:Int)))=1))) else none) else none) else (some false))
theorem Q6.spec {a0 a1 b1 A1 c_1 r} (H:Q6.f a0 a1=some r) :
  Spec prog 66 [.pointer (some ⟨b1,0,none⟩),.int .i64 a1] (W9 a0 b1 A1 c_1) [] (fun v l=>v=.bool r/\l=W9 a0 b1 A1 c_1):=by
 refine eN Tryz.func66 fun w0 F0 h0=>?_;unfold Q6.f at H;refine Sd (Za [0,1] ?_);refine Sd (Sb (Zd 2 ?_));refine cS H [0,0] h0 rfl Q10.spec Zk fun r1 w1 H h1=>?_;refine Zd 2 ?_;refine Z4 9 H (fun c1 H=>?_) fun c1 H=>?_
 ·refine rRL 3 0 h1 ?_;refine Zd 2 ?_;refine rI H h1 (gO 1) fun p1 p2 e1 H=>?_;refine Zh (Zb 0 h1.wht (gO 1) p1 p2) ?_;refine Zd 2 ?_;obtain ⟨p3,H⟩:=Zp H;refine Zh (Zft p3) ?_;refine rFi [4] ?_;cases H;exact Sc (jR0 h1 [0,0])
 refine rFi [4] ?_;cases H;exact Sc (jR0 h1 [0,0])

def Q8.f (a0:TP) (a1:Int):Option (Int×TP):=(Q10.f a0 a1).bind fun r1=>(if (!decide (r1=0))=true then (some (r1,a0)) else ((Q6.f a0 a1).bind fun r2=>(if r2=true then (some (10,a0)) else (if 0<=(w64 (Int.tdiv a1 64))/\(w64 (Int.tdiv a1 64))<(a0.2.2.length:Int) then (if 0<=(Int.tmod a1 64) then (some (0,(a0.1,(w64 (a0.2.1+1)),(a0.2.2.set (w64 (Int.tdiv a1 64)).toNat (uH.wrap (((ofInt uH.bits (gt a0.2.2 (w64 (Int.tdiv a1 64))) ||| (ofInt uH.bits (uH.wrap ((1:Int)*2 ^ (min (Int.tmod a1 64).toNat 64))))).toNat:Int))))))) else none) else none))))
theorem Q8.spec {a0 a1 b1 A1 c_1 r} (H:Q8.f a0 a1=some r) :
  Spec prog 157 [.pointer (some ⟨b1,0,none⟩),.int .i64 a1] (W9 a0 b1 A1 c_1) [] (fun v l=>∃ A_0 c_0,v=.int .i64 r.1/\l=W9 r.2 b1 A_0 c_0):=by
 refine eN Tryz.func157 fun w0 F0 h0=>?_;unfold Q8.f at H;refine Sd (Za [0,1] ?_);refine Sd (Sd (Sb (Zd 2 ?_)));refine cS H [0,0] h0 rfl Q10.spec Zk fun r1 w1 H h1=>?_;refine rFi [0,1,5] ?_;refine Sd (Za [0,1,5,10] ?_);refine jIf H (fun c1 H=>?_) fun c1 H=>?_
 ·refine Sd (Za [4] ?_);cases H;exact Sc (jR ⟨_,_,rfl,rfl⟩ h1 [0,0])
 refine Se (Sd (Sd (Sb (Zd 2 ?_))));refine cS H [0,0] h1 rfl Q6.spec Zk fun r2 w2 H h2=>?_;refine rFi [0,1,14] ?_;refine jIf H (fun c2 H=>?_) fun c2 H=>?_
 ·refine Sd (Za [4] ?_);cases H;exact Sc (jR ⟨_,_,rfl,rfl⟩ h2 [0,0])
 refine Se (Sd ?_);obtain ⟨⟨p1,p2⟩,H⟩:=Zp H;obtain ⟨p3,H⟩:=Zp H;refine Sa (fun env w=>env=[(0,.pointer (some ⟨b1,0,none⟩))]/\St w0 F0 [Xj b1 a0.1 a0.2.1 (a0.2.2.set (w64 (Int.tdiv a1 64)).toNat (uH.wrap (((ofInt uH.bits (gt a0.2.2 (w64 (Int.tdiv a1 64))) ||| (ofInt uH.bits (uH.wrap ((1:Int)*2 ^ (min (Int.tmod a1 64).toNat 64))))).toNat:Int)))) A1 c_1,Xk (a0.2.2.set (w64 (Int.tdiv a1 64)).toNat (uH.wrap (((ofInt uH.bits (gt a0.2.2 (w64 (Int.tdiv a1 64))) ||| (ofInt uH.bits (uH.wrap ((1:Int)*2 ^ (min (Int.tmod a1 64).toNat 64))))).toNat:Int)))) A1 c_1] [] w) ?_ ?_
 ·refine Zs (sO h2 [0]) ?_;have h4:=h2.drew;refine Zq [0,1,2,4,5,8,9] ?_;refine Zc 3 rfl (Ze 0 wI) ?_;have e2:=J9 h4.wh (gO 1) p1 p2;refine Zc 6 rfl (Zj e2 p1 p2) ?_;refine HJ.named fun G E hE hG=>?_;have j7:∀ w2,St w0 F0 [Xj b1 a0.1 a0.2.1 a0.2.2 A1 c_1,Xk a0.2.2 A1 c_1] [] w2->G [12,11,10,7,6,3,9,8,5,4,2,1,0] ((27,.pointer (some ⟨blk A1,ofs A1+(w64 (Int.tdiv a1 64)).toNat*1,none⟩)) :: (26,.int .u64 (uH.wrap (((ofInt uH.bits (gt a0.2.2 (w64 (Int.tdiv a1 64))) ||| (ofInt uH.bits (uH.wrap ((1:Int)*2 ^ (min (Int.tmod a1 64).toNat 64))))).toNat:Int)))) :: (25,.int .u64 (uH.wrap ((1:Int)*2 ^ (min (Int.tmod a1 64).toNat 64)))) :: (22,.int .u64 (gt a0.2.2 (w64 (Int.tdiv a1 64)))) :: E) w2:=by
   intro w2 h4;subst hE;refine (hG _ _ _).1 ?_;refine hS 13 rfl (Zo 0 (.int .u64) (w64 (Int.tdiv a1 64)) (uH.wrap (((ofInt uH.bits (gt a0.2.2 (w64 (Int.tdiv a1 64))) ||| (ofInt uH.bits (uH.wrap ((1:Int)*2 ^ (min (Int.tmod a1 64).toNat 64))))).toNat:Int))) 1 h4 rfl p1 p2) 1 fun _ w7 h8=>?_;replace h8:St w0 F0 [Xk (a0.2.2.set (w64 (Int.tdiv a1 64)).toNat (uH.wrap (((ofInt uH.bits (gt a0.2.2 (w64 (Int.tdiv a1 64))) ||| (ofInt uH.bits (uH.wrap ((1:Int)*2 ^ (min (Int.tmod a1 64).toNat 64))))).toNat:Int)))) A1 c_1,Xj b1 a0.1 a0.2.1 (a0.2.2.set (w64 (Int.tdiv a1 64)).toNat (uH.wrap (((ofInt uH.bits (gt a0.2.2 (w64 (Int.tdiv a1 64))) ||| (ofInt uH.bits (uH.wrap ((1:Int)*2 ^ (min (Int.tmod a1 64).toNat 64))))).toNat:Int)))) A1 c_1] _ _:=h8.retell (by simp only [length_set,length_nil,Xk,Xj] <;> rfl);refine Y7 [0] ?_;exact Y3 ⟨(by simp only [length_set,length_nil] <;> rfl),((h8.only [1,0] rfl).rds [] rfl)⟩
  subst hE;refine (hG _ _ _).1 ?_;refine T4 [7,10] (i:=7) rfl rfl rfl rfl ?_;refine (Xo ?_ (Xo ?_ Uu))
  ·refine Xt 7 rfl (Sg (Zb 0 h4.wht (gO 1) p1 p2)) ?_;rintro _ _ ⟨rfl,rfl⟩;replace h4:=nf h4;refine ⟨⟨[_],(sO h4 [1,0])⟩,?_⟩;refine Zc 10 rfl (G8 p3) ?_;refine Zq [11] ?_;refine Zc 12 rfl (Zj e2 p1 p2) ?_;exact (hG _ _ _).2 (j7 _ h4)
  ·refine HS.op (i:=10) rfl rfl rfl (Sg (Zkd rfl rfl rfl p3)) ?_; rintro _ _ ⟨rfl,rfl⟩; replace h4:St w0 F0 [_,_] _ _:=h4; refine ⟨⟨[_],(h4.only [1,0] rfl)⟩,?_⟩;refine Yi 7 rfl (Sg (Zb 0 h4.wht (gO 1) p1 p2)) ?_;rintro _ _ ⟨rfl,rfl⟩;replace h4:=nf h4;refine ⟨⟨[_],(sO h4 [1,0])⟩,?_⟩;refine Zq [11] ?_;refine Zc 12 rfl (Zj e2 p1 p2) ?_;exact ((hG _ _ _).2 (j7 _ h4)).re [0,1,3,2] 4
 rintro env w10 ⟨rfl,h11⟩;refine Sd (Sb (rRL 3 0 h11 ?_));refine Zd 3 ?_;refine rS (Zr 0 h11) fun _ w11 h12=>?_;refine rFi [] ?_;refine Sd (Za [4] ?_);cases H;exact Sc (jR ⟨_,_,rfl,rfl⟩ h12 [0,0])

def Q73.f (a0:Int):Option (Option TN×Int):=if (decide (a0<5))=true then (some (none,2)) else ((Q2.f a0).bind fun r1=>(Vo r1.1 (if (!decide (r1.2=0))=true then (some (none,r1.2)) else none) (fun r2=>(if (!decide (r1.2=0))=false then ((Q8.f r2 0).bind fun r3=>(some ((some r3.2),0))) else none))))
theorem Q73.spec {a0 r} (H:Q73.f a0=some r) :
  Spec prog 104 [.int .i64 a0] [] [] (fun v l=>∃(pv:Value) (lp:List Ch),OptC r.1 (fun d pv lp=>∃ b_0 b_1 A_2 c_2,pv=.pointer (some ⟨b_0,0,none⟩)/\lp=[Wj b_0 (.pointer (some ⟨b_1,0,none⟩)),Xj b_1 d.1 d.2.1 d.2.2 A_2 c_2,Xk d.2.2 A_2 c_2]) pv lp/\v=.tuple #[pv,.int .i64 r.2]/\l=lp ++ []):=by
 refine Zg Tryz.func104 fun w0 F0 h0=>?_;unfold Q73.f at H;refine Sd (Za [0] ?_);refine Sd (Sd (Za [0,7] ?_));refine jIf H (fun c1 H=>?_) fun c1 H=>?_
 ·refine Sd (Za [2,3] ?_);cases H;exact Sc (jR ⟨_,_,Sh,rfl,rfl⟩ h0 [])
 refine Se (Sd (Sb (Zd 1 ?_)));refine cE H [] h0 rfl Q2.spec Zk ?_;rintro r1 w1 _ _ H ⟨v1,l1,ho1,rfl,rfl⟩ h1;rcases ho2:r1.1 with _ | r2
 ·rw [ho2] at ho1;obtain ⟨rfl,rfl⟩:=ho1;replace H:=J7 ho2 H;obtain ⟨c2,H⟩:=Zp H;replace h1:=nf h1;refine rFi [4,5] ?_;refine Sd (Sd (Za [4,5,14] ?_));refine T6 rfl (fun e=>?_) (fun e=>by rw [c2] at e; cases e);refine Sd (Za [2,3] ?_);cases H;exact Sc (jR ⟨_,_,Sh,rfl,rfl⟩ h1 [])
 rw [ho2] at ho1;obtain ⟨b1,A1,c_1,rfl,rfl⟩:=ho1;replace H:=J6 ho2 H;obtain ⟨c3,H⟩:=Zp H;replace h1:=nf h1;refine rFi [4,5] ?_;refine Sd (Sd (Za [4,5,14] ?_));refine T6 rfl (fun e=>by rw [c3] at e; cases e) (fun e=>?_);refine Se (Sd (Sb (Zd 1 ?_)));refine cA H [0,0] h1 rfl Q8.spec Zk fun r3 A2 c_2 w2 H h2=>?_;refine rFi [4] ?_;refine Sd (Sb (Zd 2 ?_));refine rB (Z1 h2) fun b2 w3 h3=>?_;refine rFi [2,3] ?_;cases H;exact Sc (jR ⟨_,_,(Si ⟨_,_,_,_,rfl,rfl⟩),rfl,rfl⟩ h3 [0,0,0])

def Q144.f (a0:Tt) (a1:TY):Option (Bool):=if (decide (1<=(a1.length:Int)))=true then (some (decide ((a1.length:Int)<=a0.2.2.2.2.2.2.1))) else (some false)
theorem Q144.spec {a0 a1 r} (H:Q144.f a0 a1=some r) :
  Spec prog 88 [.agg (zV8 a0),.string ⟨⟨a1⟩⟩] [] [] (fun v l=>v=.bool r/\l=[]):=by
 refine Zg Tryz.func88 fun w0 F0 h0=>?_;unfold Q144.f at H;refine Sd (Sb (rB (Z1 h0) fun b1 w1 h1=>?_));refine rFi [1,2] ?_;refine Sd (Sb (Zd 4 ?_));refine Z4 8 H (fun c1 H=>?_) fun c1 H=>?_
 ·refine rRL 3 0 h1 ?_;refine rFi [4] ?_;cases H;exact Sc (jR0 h1 [])
 refine rFi [4] ?_;cases H;exact Sc (jR0 h1 [])

def Q141.l0:Nat->TD->TY->TD->(Int)->Option TC
 | 0,_,_,_,_=>none
 | k+1,a0,a1,x1,x2=>if (decide (x2<(a0.length:Int)))=true then (if 0<=x2/\x2<(a0.length:Int) then (if (!decide (((gt a0 x2).1)=a1))=true then (if (x1.length+([(gt a0 x2)]:List TL).length)*32<=140737488355328 then (Q141.l0 k a0 a1 (x1 ++ [(gt a0 x2)]) (w64 (x2+1))) else none) else (Q141.l0 k a0 a1 x1 (w64 (x2+1)))) else none) else (some x1)
def Q141.f (k:Nat) (a0:TD) (a1:TY):Option TC:=Q141.l0 k a0 a1 [] 0
theorem Q141.spec {k a0 a1 A1 c_1 r} (H:Q141.f k a0 a1=some r) :
  Spec prog 158 [.slice A1 a0.length c_1,.string ⟨⟨a1⟩⟩] [] [R78 a0 A1 c_1] (fun v l=>∃ A_0 c_0,v=.slice A_0 r.length c_0/\l=[O78 r A_0 c_0]):=by
 refine Zg Tryz.func158 fun w0 F0 h0=>?_;unfold Q141.f at H;refine Sd (Za [0,1] ?_);refine Sd (Sb (rB (Zu (.pair .str .str) [] h0) fun b1 w1 h1=>?_));refine rFi [0,1,5] ?_;refine Sd (Sd (Za [0,1,5,6] ?_));refine T5 ?_;have h7:=(sOR h1 [0] [0]);refine T9 (fun kk env w=>∃ x1 A2 c_2 x2,Q141.l0 kk a0 a1 x1 x2=some r/\env=[(0,.slice A1 a0.length c_1),(1,.string ⟨⟨a1⟩⟩),(5,.slice A2 x1.length c_2),(6,.int .i64 x2)]/\St w0 F0 [O78 x1 A2 c_2] [R78 a0 A1 c_1] w) (k:=k) ⟨_,_,_,_,H,rfl,h7⟩ ?_;rintro k1 env w2 ⟨x1,A2,c_2,x2,H,rfl,h2⟩;rcases k1 with _ | k1
 ·exact z0 H
 rw [Q141.l0] at H;refine Sd (Sd (Za [0,1,5,6,11] ?_));refine jIf H (fun c1 H=>?_) fun c1 H=>?_
 ·refine Se (Sd (T5 (Sd (Sb (Zd 2 ?_)))));refine rI H h2 (Zf 1) fun p1 p2 e1 H=>?_;refine Zd 1 ?_;refine Zh (Zb 0 h2.wht (Zf 1) p1 p2) ?_;refine rFi [0,1,5,6,20] ?_;refine jIf H (fun c2 H=>?_) fun c2 H=>?_
  ·refine Sb (Zd 3 ?_);refine Zh (Zj e1 p1 p2) ?_;refine Zh (Zb 0 h2.wht (Zf 1) p1 p2) ?_;refine rB (Zu (.pair .str .str) [(gt a0 x2)] h2) fun b2 w3 h3=>?_;obtain ⟨p3,H⟩:=Zp H;refine rA (Zt 1 h3 (gO 0) p3) fun A3 c_3 w4 h4=>?_;refine rFi [0,1,5,6] ?_;refine Za [0,1,5,6] ?_;have h5:=(sOR h4 [0] [0]);exact ⟨k1,by omega,_,_,_,_,H,rfl,h5⟩
  refine Se (Za [0,1,5,6] ?_);have h6:=(sOR h2 [0] [0]);exact ⟨k1,by omega,_,_,_,_,H,rfl,h6⟩
 refine T8 (Sd (Za [4] ?_));cases H;exact Sc (jR ⟨_,_,rfl,rfl⟩ h2 [0])

def Q133.l0:Nat->TY->TY->(Int)->Option (Int)
 | 0,_,_,_=>none
 | k+1,a0,a1,x1=>if (decide (x1<(a0.length:Int)))=true then (if (decide (x1<(a1.length:Int)))=true then (if 0<=x1/\x1<(a0.length:Int) then (if 0<=x1/\x1<(a1.length:Int) then (if (decide ((gtb a0 x1)<(gtb a1 x1)))=true then (some (-1)) else (if (decide ((gtb a1 x1)<(gtb a0 x1)))=true then (some 1) else (Q133.l0 k a0 a1 (w64 (x1+1))))) else none) else none) else (if (decide ((a0.length:Int)<(a1.length:Int)))=true then (some (-1)) else (if (decide ((a1.length:Int)<(a0.length:Int)))=true then (some 1) else (some 0)))) else (if (decide ((a0.length:Int)<(a1.length:Int)))=true then (some (-1)) else (if (decide ((a1.length:Int)<(a0.length:Int)))=true then (some 1) else (some 0)))
def Q133.f (k:Nat) (a0:TY) (a1:TY):Option (Int):=Q133.l0 k a0 a1 0
theorem Q133.spec {k a0 a1 r} (H:Q133.f k a0 a1=some r) :
  Spec prog 63 [.string ⟨⟨a0⟩⟩,.string ⟨⟨a1⟩⟩] [] [] (fun v l=>v=.int .i64 r/\l=[]):=by
 refine Zg Tryz.func63 fun w0 F0 h0=>?_;unfold Q133.f at H;refine Sd (Za [0,1] ?_);refine Sd (Sd (Za [0,1,5] ?_));refine T5 ?_;have h5:=(sOR h0 [] []);refine T9 (fun kk env w=>∃ x1,Q133.l0 kk a0 a1 x1=some r/\env=[(0,.string ⟨⟨a0⟩⟩),(1,.string ⟨⟨a1⟩⟩),(5,.int .i64 x1)]/\St w0 F0 [] [] w) (k:=k) ⟨_,H,rfl,h5⟩ ?_;rintro k1 env w1 ⟨x1,H,rfl,h1⟩;rcases k1 with _ | k1
 ·exact z0 H
 rw [Q133.l0] at H;refine Sd (Sd (Sb (Zd 5 ?_)));refine Z4 10 H (fun c1 H=>?_) fun c1 H=>?_
 ·refine rFi [0,1,5,15] ?_;refine jIf H (fun c2 H=>?_) fun c2 H=>?_
  ·refine Se (Sd (T5 (Sd (Sd (jH h1 fun h2=>?_)))));refine Zq [0,1,3,4] ?_;obtain ⟨⟨p1,p2⟩,H⟩:=Zp H;refine Zc 2 rfl (Xx p1 p2) ?_;obtain ⟨⟨p3,p4⟩,H⟩:=Zp H;refine Zc 5 rfl (Xx p3 p4) ?_;refine hRF [6] [0,1,5,24] ?_;refine jIf H (fun c3 H=>?_) fun c3 H=>?_
   ·refine Sd (Za [4] ?_);cases H;exact Sc (jR0 h2 [])
   refine Se (Sd (jH h2 fun h3=>?_));refine Zq [0,1,3,4] ?_;refine Zc 2 rfl (Xx p1 p2) ?_;refine Zc 5 rfl (Xx p3 p4) ?_;refine hRF [6] [0,1,5,31] ?_;refine jIf H (fun c4 H=>?_) fun c4 H=>?_
   ·refine Sd (Za [4] ?_);cases H;exact Sc (jR0 h3 [])
   refine Se (Za [0,1,5] ?_);have h4:=(sOR h3 [] []);exact ⟨k1,by omega,_,H,rfl,h4⟩
  refine T8 (Sd (Sd (Za [0,1,36] ?_)));refine jIf H (fun c5 H=>?_) fun c5 H=>?_
  ·refine Sd (Za [4] ?_);cases H;exact Sc (jR0 h1 [])
  refine Se (Sd (Sd (Za [41] ?_)));refine jIf H (fun c6 H=>?_) fun c6 H=>?_
  ·refine Sd (Za [4] ?_);cases H;exact Sc (jR0 h1 [])
  refine Se (Sd (Za [4] ?_));cases H;exact Sc (jR0 h1 [])
 refine rFi [0,1,5,15] ?_;refine Zz ?_;refine T8 (Sd (Sd (Za [0,1,36] ?_)));refine jIf H (fun c7 H=>?_) fun c7 H=>?_
 ·refine Sd (Za [4] ?_);cases H;exact Sc (jR0 h1 [])
 refine Se (Sd (Sd (Za [41] ?_)));refine jIf H (fun c8 H=>?_) fun c8 H=>?_
 ·refine Sd (Za [4] ?_);cases H;exact Sc (jR0 h1 [])
 refine Se (Sd (Za [4] ?_));cases H;exact Sc (jR0 h1 [])

def Q142.l0:Nat->TY->TY->TC->(Int)->Option TC
 | 0,_,_,_,_=>none
 | k+1,a1,a2,r1,x3=>if (decide (x3<(r1.length:Int)))=true then (if 0<=x3/\x3<(r1.length:Int) then ((Q133.f k ((gt r1 x3).1) a1).bind fun r2=>(if (decide (r2<0))=true then (Q142.l0 k a1 a2 r1 (w64 (x3+1))) else (if (0:Int)<=x3/\x3<=(r1.length:Int) then (if (([]:List TL).length+(r1.take x3.toNat).length)*32<=140737488355328 then (if (([] ++ (r1.take x3.toNat)).length+([(a1,a2)]:List TL).length)*32<=140737488355328 then (if 0<=x3/\x3<=(r1.length:Int) then (if ((([] ++ (r1.take x3.toNat)) ++ [(a1,a2)]).length+(r1.drop x3.toNat).length)*32<=140737488355328 then (some ((([] ++ (r1.take x3.toNat)) ++ [(a1,a2)]) ++ (r1.drop x3.toNat))) else none) else none) else none) else none) else none))) else none) else (if (0:Int)<=x3/\x3<=(r1.length:Int) then (if (([]:List TL).length+(r1.take x3.toNat).length)*32<=140737488355328 then (if (([] ++ (r1.take x3.toNat)).length+([(a1,a2)]:List TL).length)*32<=140737488355328 then (if 0<=x3/\x3<=(r1.length:Int) then (if ((([] ++ (r1.take x3.toNat)) ++ [(a1,a2)]).length+(r1.drop x3.toNat).length)*32<=140737488355328 then (some ((([] ++ (r1.take x3.toNat)) ++ [(a1,a2)]) ++ (r1.drop x3.toNat))) else none) else none) else none) else none) else none)
def Q142.f (k:Nat) (a0:TD) (a1:TY) (a2:TY):Option TC:=(Q141.f k a0 a1).bind fun r1=>(Q142.l0 k a1 a2 r1 0)
theorem Q142.spec {k a0 a1 a2 A1 c_1 r} (H:Q142.f k a0 a1 a2=some r) :
  Spec prog 105 [.slice A1 a0.length c_1,.string ⟨⟨a1⟩⟩,.string ⟨⟨a2⟩⟩] [] [R78 a0 A1 c_1] (fun v l=>∃ A_0 c_0,v=.slice A_0 r.length c_0/\l=[O78 r A_0 c_0]):=by
 refine Zg Tryz.func105 fun w0 F0 h0=>?_;unfold Q142.f at H;refine Sd (Za [0,1,2] ?_);refine Sd (Sb (Zd 2 ?_));refine cA H [] h0 rfl Q141.spec (gS [0]) fun r1 A2 c_2 w1 H h1=>?_;refine rFi [0,1,2] ?_;refine Sd (Za [0,1,2,7] ?_);refine Sd (Sa (fun env w=>∃(x1:Int) (x2:Bool),env=[(0,.slice A2 r1.length c_2),(1,.string ⟨⟨a1⟩⟩),(2,.string ⟨⟨a2⟩⟩),(7,.int .i64 x1),(25,.bool x2)]/\St w0 F0 [O78 r1 A2 c_2] [] w/\(if (0:Int)<=x1/\x1<=(r1.length:Int) then (if (([]:List TL).length+(r1.take x1.toNat).length)*32<=140737488355328 then (if (([] ++ (r1.take x1.toNat)).length+([(a1,a2)]:List TL).length)*32<=140737488355328 then (if 0<=x1/\x1<=(r1.length:Int) then (if ((([] ++ (r1.take x1.toNat)) ++ [(a1,a2)]).length+(r1.drop x1.toNat).length)*32<=140737488355328 then (some ((([] ++ (r1.take x1.toNat)) ++ [(a1,a2)]) ++ (r1.drop x1.toNat))) else none) else none) else none) else none) else none)=some r) ?_ ?_)
 ·refine T5 ?_;have h14:=(sOR h1 [0] []);refine T9 (fun kk env w=>∃ x3,Q142.l0 kk a1 a2 r1 x3=some r/\env=[(0,.slice A2 r1.length c_2),(1,.string ⟨⟨a1⟩⟩),(2,.string ⟨⟨a2⟩⟩),(7,.int .i64 x3)]/\St w0 F0 [O78 r1 A2 c_2] [] w/\kk<=k) (k:=k) ⟨_,H,rfl,h14,Sf _⟩ ?_;rintro k2 env w9 ⟨x3,H,rfl,h9,hk2⟩;rcases k2 with _ | k2
  ·exact z0 H
  rw [Q142.l0] at H;refine Sd (Sd (Sb (Zd 5 ?_)));refine Z4 16 H (fun c1 H=>?_) fun c1 H=>?_
  ·refine Zd 2 ?_;refine rI H h9 (gO 0) fun p8 p9 e3 H=>?_;refine Zd 1 ?_;refine Zh (Zb 0 h9.wht (gO 0) p8 p9) ?_;refine Zd 1 ?_;refine cS H [] h9 rfl Q133.spec Zk fun r2 w10 H h10=>?_;refine rFi [0,1,2,7,25] ?_;refine jIf H (fun c2 H=>?_) fun c2 H=>?_
   ·refine Se (T5 (Za [0,1,2,7] ?_));have h11:=(sOR h10 [0] []);exact ⟨k2,by omega,_,H,rfl,h11,by omega⟩
   refine T8 ?_;have h12:=(sOR h10 [0] []);exact ⟨x3,(decide (r2<0)),rfl,h12,H⟩
  refine rFi [0,1,2,7,25] ?_;refine Zz ?_;refine T8 ?_;have h13:=(sOR h9 [0] []);exact ⟨x3,false,rfl,h13,H⟩
 rintro env w3 ⟨x1,x2,rfl,h2,H⟩;refine Sd (Sb (rB (Zu (.pair .str .str) [] h2) fun b1 w4 h3=>?_));refine Zd 2 ?_;obtain ⟨⟨p1,p2⟩,H⟩:=Zp H;have e1:=h3.cap (gO 1);refine Zh (Vk (r1.take x1.toNat) x1 e1 p1 p2) ?_;obtain ⟨p3,H⟩:=Zp H;refine rA (Zt 0 h3 ((Gives.of 0 rfl Yj).trans (Jf (.pair .str .str) (r1.take x1.toNat) x1 p1 p2)) p3) fun A3 c_3 w5 h4=>?_;refine rFi [0,1,2,7,8] ?_;refine Sd (Sb (Zd 4 ?_));refine rB (Zu (.pair .str .str) [(a1,a2)] h4) fun b2 w6 h5=>?_;obtain ⟨p4,H⟩:=Zp H;refine rA (Zt 1 h5 (gO 0) p4) fun A4 c_4 w7 h6=>?_;refine rFi [0,7,8] ?_;refine Sd (Sb (Zd 3 ?_));obtain ⟨⟨p5,p6⟩,H⟩:=Zp H;have e2:=h6.cap (gO 2);refine Zh (V1 (r1.drop x1.toNat) x1 (r1.length:Int) e2 p5 p6 (Int.le_refl _) (Xp _ _)) ?_;obtain ⟨p7,H⟩:=Zp H;refine rA (Zt 0 h6 ((Gives.of 1 rfl Yj).trans (Vl (.pair .str .str) (r1.drop x1.toNat) x1 (r1.length:Int) p5 p6 (Int.le_refl _) (Xp _ _))) p7) fun A5 c_5 w8 h7=>?_;refine rFi [6] ?_;have h8:=nO h7 [0];cases H;exact Sc (jR ⟨_,_,rfl,rfl⟩ h8 [0])

mutual
def Q126.l0:Nat->Tt->Tr->TD->(Int)->Option TC
 | 0,_,_,_,_=>none
 | k+1,a0,a1,x1,x2=>if (decide (x2<(a1.1.length:Int)))=true then (Q126.l1 k a0 a1 x1 x2 (decide (x2<150))) else (Q126.l1 k a0 a1 x1 x2 false)
def Q126.l1:Nat->Tt->Tr->TD->(Int)->(Bool)->Option TC
 | 0,_,_,_,_,_=>none
 | k+1,a0,a1,x1,x2,x3=>if x3=true then (if 0<=x2/\x2<(a1.1.length:Int) then ((Q144.f a0 ((gt a1.1 x2).1)).bind fun r2=>(if r2=true then (Q126.l2 k a0 a1 x1 x2 (decide ((((gt a1.1 x2).2).length:Int)<=a0.2.2.2.2.2.2.2))) else (Q126.l2 k a0 a1 x1 x2 false))) else none) else (some x1)
def Q126.l2:Nat->Tt->Tr->TD->(Int)->(Bool)->Option TC
 | 0,_,_,_,_,_=>none
 | k+1,a0,a1,x1,x2,x4=>if x4=true then (if 0<=x2/\x2<(a1.1.length:Int) then ((Q142.f k x1 ((gt a1.1 x2).1) ((gt a1.1 x2).2)).bind fun r1=>(Q126.l0 k a0 a1 r1 (w64 (x2+1)))) else none) else (Q126.l0 k a0 a1 x1 (w64 (x2+1)))
end
def Q126.f (k:Nat) (a0:Tt) (a1:Tr):Option TC:=Q126.l0 k a0 a1 [] 0
theorem Q126.spec {k a0 a1 A1 c_1 A2 c_2 A3 c_3 A4 c_4 r} (H:Q126.f k a0 a1=some r) :
  Spec prog 53 [.agg (zV8 a0),.agg #[.slice A1 a1.1.length c_1,.slice A2 a1.2.1.length c_2,.slice A3 a1.2.2.1.length c_3,.slice A4 a1.2.2.2.length c_4]] [] [R78 a1.1 A1 c_1,R80 a1.2.1 A2 c_2,R5 a1.2.2.1 A3 c_3,R5 a1.2.2.2 A4 c_4] (fun v l=>∃ A_0 c_0,v=.slice A_0 r.length c_0/\l=[O78 r A_0 c_0]):=by
 refine Zg Tryz.func53 fun w0 F0 h0=>?_;unfold Q126.f at H;refine Sd (Sb (rB (Z1 h0) fun b1 w1 h1=>?_));refine rB (Z1 h1) fun b2 w2 h2=>?_;refine rFi [2,3] ?_;refine Sd (Sb (rB (Zu (.pair .str .str) [] h2) fun b3 w3 h3=>?_));refine rFi [2,3,5] ?_;refine Sd (Sd (Za [2,3,5,6] ?_));refine T5 ?_;have h18:=(sOR h3 [2,1,0] [0,1,2,3]);refine T9 (fun kk env w=>∃ x1 A5 c_5 x2,Q126.l0 kk a0 a1 x1 x2=some r/\env=[(2,.pointer (some ⟨b1,0,none⟩)),(3,.pointer (some ⟨b2,0,none⟩)),(5,.slice A5 x1.length c_5),(6,.int .i64 x2)]/\St w0 F0 [zX23 b1 a0,X28 b2 a1.1 A1 c_1 a1.2.1 A2 c_2 a1.2.2.1 A3 c_3 a1.2.2.2 A4 c_4,O78 x1 A5 c_5] [R78 a1.1 A1 c_1,R80 a1.2.1 A2 c_2,R5 a1.2.2.1 A3 c_3,R5 a1.2.2.2 A4 c_4] w) (k:=k) ⟨_,_,_,_,H,rfl,h18⟩ ?_;rintro k1 env w4 ⟨x1,A5,c_5,x2,H,rfl,h4⟩;rcases k1 with _ | k1
 ·exact z0 H
 rw [Q126.l0] at H;refine Sd (Sd (Sa (fun env w=>∃ k2 x3,Q126.l1 k2 a0 a1 x1 x2 x3=some r/\env=[(2,.pointer (some ⟨b1,0,none⟩)),(3,.pointer (some ⟨b2,0,none⟩)),(5,.slice A5 x1.length c_5),(6,.int .i64 x2),(16,.bool x3)]/\St w0 F0 [zX23 b1 a0,X28 b2 a1.1 A1 c_1 a1.2.1 A2 c_2 a1.2.2.1 A3 c_3 a1.2.2.2 A4 c_4,O78 x1 A5 c_5] [R78 a1.1 A1 c_1,R80 a1.2.1 A2 c_2,R5 a1.2.2.1 A3 c_3,R5 a1.2.2.2 A4 c_4] w/\k2<=k1) ?_ ?_))
 ·refine Sb (rRL 2 1 h4 ?_);refine Zd 3 ?_;refine Z4 13 H (fun c4 H=>?_) fun c4 H=>?_
  ·refine rFi [2,3,5,6,16] ?_;have h16:=(sOR h4 [0,0,0] [0,1,2,3]);exact ⟨k1,_,H,rfl,h16,Sf _⟩
  refine rFi [2,3,5,6,16] ?_;have h17:=(sOR h4 [0,0,0] [0,1,2,3]);exact ⟨k1,_,H,rfl,h17,Sf _⟩
 rintro env w6 ⟨k2,x3,H,rfl,h5,hk2⟩;rcases k2 with _ | k2
 ·exact z0 H
 rw [Q126.l1] at H;refine jIf H (fun c1 H=>?_) fun c1 H=>?_
 ·refine Se (Sd (T5 (Sd (Sa (fun env w=>∃ k3 x4,Q126.l2 k3 a0 a1 x1 x2 x4=some r/\env=[(2,.pointer (some ⟨b1,0,none⟩)),(3,.pointer (some ⟨b2,0,none⟩)),(5,.slice A5 x1.length c_5),(6,.int .i64 x2),(38,.bool x4)]/\St w0 F0 [zX23 b1 a0,X28 b2 a1.1 A1 c_1 a1.2.1 A2 c_2 a1.2.2.1 A3 c_3 a1.2.2.2 A4 c_4,O78 x1 A5 c_5] [R78 a1.1 A1 c_1,R80 a1.2.1 A2 c_2,R5 a1.2.2.1 A3 c_3,R5 a1.2.2.2 A4 c_4] w/\k3<=k2) ?_ ?_))))
  ·refine jH h5 fun h11=>?_;refine Zq [1,3] ?_;refine Zc 0 rfl (Ze 0 wI) ?_;refine Zc 2 rfl (Ze 1 wI) ?_;refine hI 4 H h11 (Zf 3) fun p3 p4 e2 H=>?_;refine Zq [5] ?_;refine Zc 6 rfl (Zb 0 wI (Zf 3) p3 p4) ?_;refine cSJ 7 rfl H [] h11 rfl Q144.spec Zk 0 fun r2 w10 H h12=>?_;refine Zq [8] ?_;refine Xy 27 H (fun c3 H=>?_) fun c3 H=>?_
   ·refine Zq [9,11,16] ?_;refine Zc 10 rfl (Ze 1 wI) ?_;refine Zc 12 rfl (Zj e2 p3 p4) ?_;refine Zq [13] ?_;refine Zc 14 rfl (Zb 1 wI (Zf 3) p3 p4) ?_;refine Zq [15] ?_;refine Zc 17 rfl (Ze 0 wI) ?_;refine hRF [18,19] [2,3,5,6,38] ?_;have h13:=(sOR h12 [0,0,0] [0,1,2,3]);exact ⟨k2,_,H,rfl,h13,Sf _⟩
   refine hRF [9,10,11,12,13,14,15,16,17,18,19] [2,3,5,6,38] ?_;have h14:=(sOR h12 [0,0,0] [0,1,2,3]);exact ⟨k2,_,H,rfl,h14,Sf _⟩
  rintro env w8 ⟨k3,x4,H,rfl,h6,hk3⟩;rcases k3 with _ | k3
  ·exact z0 H
  rw [Q126.l2] at H;refine jIf H (fun c2 H=>?_) fun c2 H=>?_
  ·refine jH h6 fun h7=>?_;refine Zq [0,1,3,7,9] ?_;refine Zc 2 rfl (Ze 1 wI) ?_;refine hI 4 H h7 (Zf 3) fun p1 p2 e1 H=>?_;refine Zq [5] ?_;refine Zc 6 rfl (Zb 0 wI (Zf 3) p1 p2) ?_;refine Zc 8 rfl (Ze 1 wI) ?_;refine Zc 10 rfl (Zj e1 p1 p2) ?_;refine Zq [11] ?_;refine Zc 12 rfl (Zb 1 wI (Zf 3) p1 p2) ?_;refine cEJ 13 rfl H [] h7 rfl Q142.spec (Ya (gO 2) Zk) ?_;rintro r1 w9 _ _ H ⟨A6,c_6,rfl,rfl⟩ h8;replace h8:=nf h8;refine ⟨⟨[_],h8⟩,?_⟩;refine hRF [14] [2,3,5,6] ?_;refine Za [2,3,5,6] ?_;have h9:=(sOR h8 [1,1,0] [0,1,2,3]);exact ⟨k3,by omega,_,_,_,_,H,rfl,h9⟩
  refine Se (Za [2,3,5,6] ?_);have h10:=(sOR h6 [0,0,0] [0,1,2,3]);exact ⟨k3,by omega,_,_,_,_,H,rfl,h10⟩
 refine T8 (Sd (Za [4] ?_));have h15:=nO h5 [2];cases H;exact Sc (jR ⟨_,_,rfl,rfl⟩ h15 [0])

def Q125.f (a0:Tr) (a1:Int) (a2:Int):Option (Int):=if (decide ((a0.2.2.2.length:Int)=0))=true then (some a2) else (if 0<(a0.2.2.2.length:Int) then (if 0<=(Int.tmod a1 (a0.2.2.2.length:Int))/\(Int.tmod a1 (a0.2.2.2.length:Int))<(a0.2.2.2.length:Int) then (if 0<a2 then (some (w64 (1+(Int.tmod (w64 ((gt a0.2.2.2 (Int.tmod a1 (a0.2.2.2.length:Int))))) a2)))) else none) else none) else none)
theorem Q125.spec {a0 a1 a2 A1 c_1 A2 c_2 A3 c_3 A4 c_4 r} (H:Q125.f a0 a1 a2=some r) :
  Spec prog 54 [.agg #[.slice A1 a0.1.length c_1,.slice A2 a0.2.1.length c_2,.slice A3 a0.2.2.1.length c_3,.slice A4 a0.2.2.2.length c_4],.int .i64 a1,.int .i64 a2] [] [R78 a0.1 A1 c_1,R80 a0.2.1 A2 c_2,R5 a0.2.2.1 A3 c_3,R5 a0.2.2.2 A4 c_4] (fun v l=>v=.int .i64 r/\l=[]):=by
 refine Zg Tryz.func54 fun w0 F0 h0=>?_;unfold Q125.f at H;refine Sd (Sb (rB (Z1 h0) fun b1 w1 h1=>?_));refine rFi [1,2,3] ?_;refine Sd (Sd (Sb (rRL 1 0 h1 ?_)));refine rFi [1,2,3,10] ?_;refine jIf H (fun c1 H=>?_) fun c1 H=>?_
 ·refine Sd (Za [6] ?_);cases H;exact Sc (jR0 h1 [])
 refine Se (Sd (jH h1 fun h2=>?_));refine Zq [0,2,3,10] ?_;refine Zc 1 rfl (Ze 0 wI) ?_;refine Zc 4 rfl (Ze 0 wI) ?_;refine Zq [5] ?_;obtain ⟨p1,H⟩:=Zp H;refine Zc 6 rfl (W2 p1) ?_;refine hI 7 H h2 (Zf 4) fun p2 p3 e1 H=>?_;refine Zc 8 rfl (Zb 0 wI (Zf 4) p2 p3) ?_;refine Zq [9] ?_;obtain ⟨p4,H⟩:=Zp H;refine Zc 11 rfl (W2 p4) ?_;refine hRF [12,13] [6] ?_;cases H;exact Sc (jR0 h2 [])

def Q134.l0:Nat->TY->TY->(Int)->Option (List UInt8×Bool)
 | 0,_,_,_=>none
 | k+1,a0,a1,x1=>if (decide (x1<=(a1.length:Int)))=true then (if (0:Int)<=x1/\x1<=(a1.length:Int) then ((Q133.f k a0 (a1.take x1.toNat)).bind fun r2=>(if (decide (r2<0))=true then (some ((a1.take x1.toNat),true)) else (Q134.l0 k a0 a1 (w64 (x1+1))))) else none) else (some ([],false))
def Q134.f (k:Nat) (a0:TY) (a1:TY):Option (List UInt8×Bool):=(Q133.f k a0 a1).bind fun r1=>(if (decide (0<=r1))=true then (some ([],false)) else (Q134.l0 k a0 a1 0))
theorem Q134.spec {k a0 a1 r} (H:Q134.f k a0 a1=some r) :
  Spec prog 55 [.string ⟨⟨a0⟩⟩,.string ⟨⟨a1⟩⟩] [] [] (fun v l=>v=.tuple #[.string ⟨⟨r.1⟩⟩,.bool r.2]/\l=[]):=by
 refine Zg Tryz.func55 fun w0 F0 h0=>?_;unfold Q134.f at H;refine Sd (Za [0,1] ?_);refine Sd (Sd (Sb (Zd 2 ?_)));refine cS H [] h0 rfl Q133.spec Zk fun r1 w1 H h1=>?_;refine rFi [0,1,10] ?_;refine jIf H (fun c1 H=>?_) fun c1 H=>?_
 ·refine Sd (Za [4,5] ?_);cases H;exact Sc (jR0 h1 [])
 refine Se (Sd (Sd (Za [0,1,6] ?_)));refine T5 ?_;have h5:=(sOR h1 [] []);refine T9 (fun kk env w=>∃ x1,Q134.l0 kk a0 a1 x1=some r/\env=[(0,.string ⟨⟨a0⟩⟩),(1,.string ⟨⟨a1⟩⟩),(6,.int .i64 x1)]/\St w0 F0 [] [] w) (k:=k) ⟨_,H,rfl,h5⟩ ?_;rintro k1 env w2 ⟨x1,H,rfl,h2⟩;rcases k1 with _ | k1
 ·exact z0 H
 rw [Q134.l0] at H;refine Sd (Sd (Za [0,1,6,14] ?_));refine jIf H (fun c2 H=>?_) fun c2 H=>?_
 ·refine Se (Sd (T5 (Sd (Sb (Zd 3 ?_)))));obtain ⟨⟨p1,p2⟩,H⟩:=Zp H;refine Zh (Zbe 0 x1 p1 p2 (Zgx _ _)) ?_;refine cS H [] h2 rfl Q133.spec Zk fun r2 w3 H h3=>?_;refine rFi [0,1,6,22] ?_;refine jIf H (fun c3 H=>?_) fun c3 H=>?_
  ·refine Sd (Sb (Zd 2 ?_));refine Zh (Zbe 0 x1 p1 p2 (Zgx _ _)) ?_;refine rFi [4,5] ?_;cases H;exact Sc (jR0 h3 [])
  refine Se (Za [0,1,6] ?_);have h4:=(sOR h3 [] []);exact ⟨k1,by omega,_,H,rfl,h4⟩
 refine T8 (Sd (Za [4,5] ?_));cases H;exact Sc (jR0 h2 [])

mutual
def Q127.l0:Nat->Tt->Tr->Tx->(Int)->Option Tv
 | 0,_,_,_,_=>none
 | k+1,a0,a1,x1,x2=>if (decide (x2<(a1.2.1.length:Int)))=true then (Q127.l1 k a0 a1 x1 x2 (decide (x2<100))) else (Q127.l1 k a0 a1 x1 x2 false)
def Q127.l1:Nat->Tt->Tr->Tx->(Int)->(Bool)->Option Tv
 | 0,_,_,_,_,_=>none
 | k+1,a0,a1,x1,x2,x3=>if x3=true then (if 0<=x2/\x2<(a1.2.1.length:Int) then ((Q144.f a0 ((gt a1.2.1 x2).1)).bind fun r1=>(if r1=true then (if (decide ((((gt a1.2.1 x2).2.2).length:Int)<=a0.2.2.2.2.2.2.2))=true then (if (!((gt a1.2.1 x2).2.1))=true then (Q127.l2 k a0 a1 x1 x2 true) else (Q127.l2 k a0 a1 x1 x2 (decide (((gt a1.2.1 x2).2.2)=[])))) else (Q127.l2 k a0 a1 x1 x2 false)) else (Q127.l2 k a0 a1 x1 x2 false))) else none) else (some x1)
def Q127.l2:Nat->Tt->Tr->Tx->(Int)->(Bool)->Option Tv
 | 0,_,_,_,_,_=>none
 | k+1,a0,a1,x1,x2,x4=>if x4=true then (if (x1.length+([(gt a1.2.1 x2)]:List TF).length)*40<=140737488355328 then (Q127.l0 k a0 a1 (x1 ++ [(gt a1.2.1 x2)]) (w64 (x2+1))) else none) else (Q127.l0 k a0 a1 x1 (w64 (x2+1)))
end
def Q127.f (k:Nat) (a0:Tt) (a1:Tr):Option Tv:=Q127.l0 k a0 a1 [] 0
theorem Q127.spec {k a0 a1 A1 c_1 A2 c_2 A3 c_3 A4 c_4 r} (H:Q127.f k a0 a1=some r) :
  Spec prog 57 [.agg (zV8 a0),.agg #[.slice A1 a1.1.length c_1,.slice A2 a1.2.1.length c_2,.slice A3 a1.2.2.1.length c_3,.slice A4 a1.2.2.2.length c_4]] [] [R78 a1.1 A1 c_1,R80 a1.2.1 A2 c_2,R5 a1.2.2.1 A3 c_3,R5 a1.2.2.2 A4 c_4] (fun v l=>∃ A_0 c_0,v=.slice A_0 r.length c_0/\l=[O80 r A_0 c_0]):=by
 refine Zg Tryz.func57 fun w0 F0 h0=>?_;unfold Q127.f at H;refine Sd (Sb (rB (Z1 h0) fun b1 w1 h1=>?_));refine rB (Z1 h1) fun b2 w2 h2=>?_;refine rFi [2,3] ?_;refine Sd (Sb (rB (Zu (.pair .str (.pair .bool .str)) [] h2) fun b3 w3 h3=>?_));refine rFi [2,3,5] ?_;refine Sd (Sd (Za [2,3,5,6] ?_));refine T5 ?_;have h22:=(sOR h3 [2,1,0] [0,1,2,3]);refine T9 (fun kk env w=>∃ x1 A5 c_5 x2,Q127.l0 kk a0 a1 x1 x2=some r/\env=[(2,.pointer (some ⟨b1,0,none⟩)),(3,.pointer (some ⟨b2,0,none⟩)),(5,.slice A5 x1.length c_5),(6,.int .i64 x2)]/\St w0 F0 [zX23 b1 a0,X28 b2 a1.1 A1 c_1 a1.2.1 A2 c_2 a1.2.2.1 A3 c_3 a1.2.2.2 A4 c_4,O80 x1 A5 c_5] [R78 a1.1 A1 c_1,R80 a1.2.1 A2 c_2,R5 a1.2.2.1 A3 c_3,R5 a1.2.2.2 A4 c_4] w) (k:=k) ⟨_,_,_,_,H,rfl,h22⟩ ?_;rintro k1 env w4 ⟨x1,A5,c_5,x2,H,rfl,h4⟩;rcases k1 with _ | k1
 ·exact z0 H
 rw [Q127.l0] at H;refine Sd (Sd (Sa (fun env w=>∃ k2 x3,Q127.l1 k2 a0 a1 x1 x2 x3=some r/\env=[(2,.pointer (some ⟨b1,0,none⟩)),(3,.pointer (some ⟨b2,0,none⟩)),(5,.slice A5 x1.length c_5),(6,.int .i64 x2),(17,.bool x3)]/\St w0 F0 [zX23 b1 a0,X28 b2 a1.1 A1 c_1 a1.2.1 A2 c_2 a1.2.2.1 A3 c_3 a1.2.2.2 A4 c_4,O80 x1 A5 c_5] [R78 a1.1 A1 c_1,R80 a1.2.1 A2 c_2,R5 a1.2.2.1 A3 c_3,R5 a1.2.2.2 A4 c_4] w/\k2<=k1) ?_ ?_))
 ·refine Sb (rRL 2 1 h4 ?_);refine Zd 3 ?_;refine Z4 14 H (fun c6 H=>?_) fun c6 H=>?_
  ·refine rFi [2,3,5,6,17] ?_;have h20:=(sOR h4 [0,0,0] [0,1,2,3]);exact ⟨k1,_,H,rfl,h20,Sf _⟩
  refine rFi [2,3,5,6,17] ?_;have h21:=(sOR h4 [0,0,0] [0,1,2,3]);exact ⟨k1,_,H,rfl,h21,Sf _⟩
 rintro env w6 ⟨k2,x3,H,rfl,h5,hk2⟩;rcases k2 with _ | k2
 ·exact z0 H
 rw [Q127.l1] at H;refine jIf H (fun c1 H=>?_) fun c1 H=>?_
 ·refine Se (Sd (T5 (Sd (Sb (rRL 1 1 h5 ?_)))));refine Zd 1 ?_;refine rI H h5 (Zf 4) fun p1 p2 e1 H=>?_;refine Zh (Zb 0 h5.wht (Zf 4) p1 p2) ?_;refine rB (Z9 h5) fun b4 w7 h6=>?_;refine rS (Zr 0 h6) fun _ w8 h7=>?_;refine rFi [2,3,5,6,7] ?_;refine Sd (Sa (fun env w=>∃ k3 x4,Q127.l2 k3 a0 a1 x1 x2 x4=some r/\env=[(2,.pointer (some ⟨b1,0,none⟩)),(3,.pointer (some ⟨b2,0,none⟩)),(5,.slice A5 x1.length c_5),(6,.int .i64 x2),(7,.pointer (some ⟨b4,0,none⟩)),(46,.bool x4)]/\St w0 F0 [zX23 b1 a0,X28 b2 a1.1 A1 c_1 a1.2.1 A2 c_2 a1.2.2.1 A3 c_3 a1.2.2.2 A4 c_4,X80 b4 ((gt a1.2.1 x2).1) ((gt a1.2.1 x2).2.1) ((gt a1.2.1 x2).2.2),O80 x1 A5 c_5] [R78 a1.1 A1 c_1,R80 a1.2.1 A2 c_2,R5 a1.2.2.1 A3 c_3,R5 a1.2.2.2 A4 c_4] w/\k3<=k2) ?_ ?_)
  ·refine Sb (rLo 1 h7 ?_);refine rRL 1 0 h7 ?_;refine cS H [] h7 rfl Q144.spec Zk fun r1 w13 H h14=>?_;refine Zd 1 ?_;refine Z4 29 H (fun c3 H=>?_) fun c3 H=>?_
   ·refine rRL 1 0 h14 ?_;refine rRL 2 1 h14 ?_;refine Zd 3 ?_;refine Z4 37 H (fun c4 H=>?_) fun c4 H=>?_
    ·refine rRL 1 0 h14 ?_;refine Zd 2 ?_;refine Z4 41 H (fun c5 H=>?_) fun c5 H=>?_
     ·refine rFi [2,3,5,6,7,46] ?_;have h15:=(sOR h14 [1,1,0,0] [0,1,2,3]);exact ⟨k2,_,H,rfl,h15,Sf _⟩
     refine rRL 1 0 h14 ?_;refine rFi [2,3,5,6,7,46] ?_;have h16:=(sOR h14 [1,1,0,0] [0,1,2,3]);exact ⟨k2,_,H,rfl,h16,Sf _⟩
    refine rFi [2,3,5,6,7,46] ?_;have h17:=(sOR h14 [1,1,0,0] [0,1,2,3]);exact ⟨k2,_,H,rfl,h17,Sf _⟩
   refine rFi [2,3,5,6,7,46] ?_;have h18:=(sOR h14 [1,1,0,0] [0,1,2,3]);exact ⟨k2,_,H,rfl,h18,Sf _⟩
  rintro env w10 ⟨k3,x4,H,rfl,h8,hk3⟩;rcases k3 with _ | k3
  ·exact z0 H
  rw [Q127.l2] at H;refine jIf H (fun c2 H=>?_) fun c2 H=>?_
  ·refine Sb (rRL 1 2 h8 ?_);refine rB (Zu (.pair .str (.pair .bool .str)) [(gt a1.2.1 x2)] h8) fun b5 w11 h9=>?_;obtain ⟨p3,H⟩:=Zp H;refine rA (Zt 4 h9 (gO 0) p3) fun A6 c_6 w12 h10=>?_;refine rFi [2,3,5,6] ?_;have h11:=nO h10 [0,1,1];refine Za [2,3,5,6] ?_;have h12:=(sOR h11 [1,1,0] [0,1,2,3]);exact ⟨k3,by omega,_,_,_,_,H,rfl,h12⟩
  refine Se (Za [2,3,5,6] ?_);have h13:=(sOR h8 [0,0,1] [0,1,2,3]);exact ⟨k3,by omega,_,_,_,_,H,rfl,h13⟩
 refine T8 (Sd (Za [4] ?_));have h19:=nO h5 [2];cases H;exact Sc (jR ⟨_,_,rfl,rfl⟩ h19 [0])

def Q140.l0:Nat->Tx->TF->Tx->(Bool)->(Int)->Option Tv
 | 0,_,_,_,_,_=>none
 | k+1,a0,a1,x1,x2,x3=>if (decide (x3<(a0.length:Int)))=true then (if (!x2)=true then (if 0<=x3/\x3<(a0.length:Int) then ((Q133.f k a1.1 ((gt a0 x3).1)).bind fun r1=>(if (decide (r1<=0))=true then (if (x1.length+([a1]:List TF).length)*40<=140737488355328 then (if (!decide (((gt a0 x3).1)=a1.1))=true then (if ((x1 ++ [a1]).length+([(gt a0 x3)]:List TF).length)*40<=140737488355328 then (Q140.l0 k a0 a1 ((x1 ++ [a1]) ++ [(gt a0 x3)]) true (w64 (x3+1))) else none) else (Q140.l0 k a0 a1 (x1 ++ [a1]) true (w64 (x3+1)))) else none) else (if (!decide (((gt a0 x3).1)=a1.1))=true then (if (x1.length+([(gt a0 x3)]:List TF).length)*40<=140737488355328 then (Q140.l0 k a0 a1 (x1 ++ [(gt a0 x3)]) x2 (w64 (x3+1))) else none) else (Q140.l0 k a0 a1 x1 x2 (w64 (x3+1)))))) else none) else (if 0<=x3/\x3<(a0.length:Int) then (if (!decide (((gt a0 x3).1)=a1.1))=true then (if (x1.length+([(gt a0 x3)]:List TF).length)*40<=140737488355328 then (Q140.l0 k a0 a1 (x1 ++ [(gt a0 x3)]) x2 (w64 (x3+1))) else none) else (Q140.l0 k a0 a1 x1 x2 (w64 (x3+1)))) else none)) else (if (!x2)=true then (if (x1.length+([a1]:List TF).length)*40<=140737488355328 then (some (x1 ++ [a1])) else none) else (some x1))
def Q140.f (k:Nat) (a0:Tx) (a1:TF):Option Tv:=Q140.l0 k a0 a1 [] false 0
theorem Q140.spec {k a0 a1 A1 c_1 r} (H:Q140.f k a0 a1=some r) :
  Spec prog 159 [.slice A1 a0.length c_1,.agg #[.string ⟨⟨a1.1⟩⟩,.bool a1.2.1,.string ⟨⟨a1.2.2⟩⟩]] [] [R80 a0 A1 c_1] (fun v l=>∃ A_0 c_0,v=.slice A_0 r.length c_0/\l=[O80 r A_0 c_0]):=by
 refine Zg Tryz.func159 fun w0 F0 h0=>?_;unfold Q140.f at H;refine Sd (Sb (rB (Z1 h0) fun b1 w1 h1=>?_));refine rFi [0,3] ?_;refine Sd (Sb (rB (Zu (.pair .str (.pair .bool .str)) [] h1) fun b2 w2 h2=>?_));refine rFi [0,3,5] ?_;refine Sd (Za [0,3,5,6] ?_);refine Sd (Sd (Za [0,3,5,6,7] ?_));refine T5 ?_;have h27:=(sOR h2 [1,0] [0]);refine T9 (fun kk env w=>∃ x1 A2 c_2 x2 x3,Q140.l0 kk a0 a1 x1 x2 x3=some r/\env=[(0,.slice A1 a0.length c_1),(3,.pointer (some ⟨b1,0,none⟩)),(5,.slice A2 x1.length c_2),(6,.bool x2),(7,.int .i64 x3)]/\St w0 F0 [X80 b1 a1.1 a1.2.1 a1.2.2,O80 x1 A2 c_2] [R80 a0 A1 c_1] w) (k:=k) ⟨_,_,_,_,_,H,rfl,h27⟩ ?_;rintro k1 env w3 ⟨x1,A2,c_2,x2,x3,H,rfl,h3⟩;rcases k1 with _ | k1
 ·exact z0 H
 rw [Q140.l0] at H;refine Sd (Sd (Za [0,3,5,6,7,12] ?_));refine jIf H (fun c1 H=>?_) fun c1 H=>?_
 ·refine Se (Sd (T5 (Sd (Sd (jH h3 fun h4=>?_)))));refine Zq [0,1,2] ?_;refine Xy 17 H (fun c2 H=>?_) fun c2 H=>?_
  ·refine Zq [3,5,6] ?_;refine Zc 4 rfl (Ze 0 wI) ?_;refine hI 7 H h4 (Zf 2) fun p1 p2 e1 H=>?_;refine Zq [8] ?_;refine Zc 9 rfl (Zb 0 wI (Zf 2) p1 p2) ?_;refine cSJ 10 rfl H [] h4 rfl Q133.spec Zk 0 fun r1 w4 H h5=>?_;refine hRF [11,12] [0,3,5,6,7,27] ?_;refine jIf H (fun c3 H=>?_) fun c3 H=>?_
   ·refine Sd (Sb (rRL 1 0 h5 ?_));refine rB (Zu (.pair .str (.pair .bool .str)) [a1] h5) fun b3 w5 h6=>?_;obtain ⟨p3,H⟩:=Zp H;refine rA (Zt 2 h6 (gO 0) p3) fun A3 c_3 w6 h7=>?_;refine rFi [0,3,5,7] ?_;refine Za [0,3,5,6,7] ?_;refine Sd (jH h7 fun h8=>?_);refine Zq [0,1,5] ?_;refine Zc 2 rfl (Zj e1 p1 p2) ?_;refine Zq [3] ?_;refine Zc 4 rfl (Zb 0 wI (Zf 3) p1 p2) ?_;refine Zc 6 rfl (Ze 2 wI) ?_;refine hRF [7] [0,3,5,6,7,39] ?_;refine jIf H (fun c4 H=>?_) fun c4 H=>?_
    ·refine Sb (Zd 3 ?_);refine Zh (Zj e1 p1 p2) ?_;refine Zh (Zb 0 h8.wht (Zf 3) p1 p2) ?_;refine rB (Zu (.pair .str (.pair .bool .str)) [(gt a0 x3)] h8) fun b4 w7 h9=>?_;obtain ⟨p4,H⟩:=Zp H;refine rA (Zt 1 h9 (gO 0) p4) fun A4 c_4 w8 h10=>?_;refine rFi [0,3,5,6,7] ?_;have h11:=nO h10 [0,2];refine Za [0,3,5,6,7] ?_;have h12:=(sOR h11 [1,0] [0]);exact ⟨k1,by omega,_,_,_,_,_,H,rfl,h12⟩
    refine Se (Za [0,3,5,6,7] ?_);have h13:=(sOR h8 [2,0] [0]);exact ⟨k1,by omega,_,_,_,_,_,H,rfl,h13⟩
   refine Se (Sd (jH h5 fun h14=>?_));refine Zq [0,1,5] ?_;refine Zc 2 rfl (Zj e1 p1 p2) ?_;refine Zq [3] ?_;refine Zc 4 rfl (Zb 0 wI (Zf 2) p1 p2) ?_;refine Zc 6 rfl (Ze 0 wI) ?_;refine hRF [7] [0,3,5,6,7,39] ?_;refine jIf H (fun c5 H=>?_) fun c5 H=>?_
   ·refine Sb (Zd 3 ?_);refine Zh (Zj e1 p1 p2) ?_;refine Zh (Zb 0 h14.wht (Zf 2) p1 p2) ?_;refine rB (Zu (.pair .str (.pair .bool .str)) [(gt a0 x3)] h14) fun b5 w9 h15=>?_;obtain ⟨p5,H⟩:=Zp H;refine rA (Zt 2 h15 (gO 0) p5) fun A5 c_5 w10 h16=>?_;refine rFi [0,3,5,6,7] ?_;refine Za [0,3,5,6,7] ?_;have h17:=(sOR h16 [2,0] [0]);exact ⟨k1,by omega,_,_,_,_,_,H,rfl,h17⟩
   refine Se (Za [0,3,5,6,7] ?_);have h18:=(sOR h14 [0,0] [0]);exact ⟨k1,by omega,_,_,_,_,_,H,rfl,h18⟩
  refine hRF [3,4,5,6,7,8,9,10,11,12] [0,3,5,6,7,27] ?_;refine Zz ?_;refine Se (Sd (jH h4 fun h19=>?_));refine Zq [0,1,5] ?_;refine hI 2 H h19 (Zf 2) fun p6 p7 e2 H=>?_;refine Zq [3] ?_;refine Zc 4 rfl (Zb 0 wI (Zf 2) p6 p7) ?_;refine Zc 6 rfl (Ze 0 wI) ?_;refine hRF [7] [0,3,5,6,7,39] ?_;refine jIf H (fun c6 H=>?_) fun c6 H=>?_
  ·refine Sb (Zd 3 ?_);refine Zh (Zj e2 p6 p7) ?_;refine Zh (Zb 0 h19.wht (Zf 2) p6 p7) ?_;refine rB (Zu (.pair .str (.pair .bool .str)) [(gt a0 x3)] h19) fun b6 w11 h20=>?_;obtain ⟨p8,H⟩:=Zp H;refine rA (Zt 2 h20 (gO 0) p8) fun A6 c_6 w12 h21=>?_;refine rFi [0,3,5,6,7] ?_;refine Za [0,3,5,6,7] ?_;have h22:=(sOR h21 [2,0] [0]);exact ⟨k1,by omega,_,_,_,_,_,H,rfl,h22⟩
  refine Se (Za [0,3,5,6,7] ?_);have h23:=(sOR h19 [0,0] [0]);exact ⟨k1,by omega,_,_,_,_,_,H,rfl,h23⟩
 refine T8 (Sd (Sd (Za [3,5,48] ?_)));refine jIf H (fun c7 H=>?_) fun c7 H=>?_
 ·refine Sb (rRL 1 0 h3 ?_);refine rB (Zu (.pair .str (.pair .bool .str)) [a1] h3) fun b7 w13 h24=>?_;obtain ⟨p9,H⟩:=Zp H;refine rA (Zt 2 h24 (gO 0) p9) fun A7 c_7 w14 h25=>?_;refine rFi [5] ?_;have h26:=nO h25 [0];refine Sd (Za [4] ?_);cases H;exact Sc (jR ⟨_,_,rfl,rfl⟩ h26 [0])
 refine Se (Sd (Za [4] ?_));cases H;exact Sc (jR ⟨_,_,rfl,rfl⟩ h3 [1])

def Q143.l0:Nat->TQ->TY->(Int)->(Int)->Option (Int)
 | 0,_,_,_,_=>none
 | k+1,a0,a1,x1,x2=>if (decide (x2<(a0.length:Int)))=true then (if 0<=x2/\x2<(a0.length:Int) then ((Q133.f k (gt a0 x2) a1).bind fun r1=>(if (decide (r1<=0))=true then (Q143.l0 k a0 a1 (w64 (x1+1)) (w64 (x2+1))) else (Q143.l0 k a0 a1 x1 (w64 (x2+1))))) else none) else (some x1)
def Q143.f (k:Nat) (a0:TQ) (a1:TY):Option (Int):=Q143.l0 k a0 a1 0 0
theorem Q143.spec {k a0 a1 A1 c_1 r} (H:Q143.f k a0 a1=some r) :
  Spec prog 160 [.slice A1 a0.length c_1,.string ⟨⟨a1⟩⟩] [] [R9 a0 A1 c_1] (fun v l=>v=.int .i64 r/\l=[]):=by
 refine Zg Tryz.func160 fun w0 F0 h0=>?_;unfold Q143.f at H;refine Sd (Za [0,1] ?_);refine Sd (Za [0,1,5] ?_);refine Sd (Sd (Za [0,1,5,6] ?_));refine T5 ?_;have h5:=(sOR h0 [] [0]);refine T9 (fun kk env w=>∃ x1 x2,Q143.l0 kk a0 a1 x1 x2=some r/\env=[(0,.slice A1 a0.length c_1),(1,.string ⟨⟨a1⟩⟩),(5,.int .i64 x1),(6,.int .i64 x2)]/\St w0 F0 [] [R9 a0 A1 c_1] w) (k:=k) ⟨_,_,H,rfl,h5⟩ ?_;rintro k1 env w1 ⟨x1,x2,H,rfl,h1⟩;rcases k1 with _ | k1
 ·exact z0 H
 rw [Q143.l0] at H;refine Sd (Sd (Za [0,1,5,6,10] ?_));refine jIf H (fun c1 H=>?_) fun c1 H=>?_
 ·refine Se (Sd (T5 (Sd (Sb (Zd 2 ?_)))));refine rI H h1 (Zf 0) fun p1 p2 e1 H=>?_;refine Zh (Zb 0 h1.wht (Zf 0) p1 p2) ?_;refine Zd 1 ?_;refine cS H [] h1 rfl Q133.spec Zk fun r1 w2 H h2=>?_;refine rFi [0,1,5,6,19] ?_;refine jIf H (fun c2 H=>?_) fun c2 H=>?_
  ·refine Za [0,1,5,6] ?_;refine Za [0,1,5,6] ?_;have h3:=(sOR h2 [] [0]);exact ⟨k1,by omega,_,_,H,rfl,h3⟩
  refine Se (Za [0,1,5,6] ?_);have h4:=(sOR h2 [] [0]);exact ⟨k1,by omega,_,_,H,rfl,h4⟩
 refine T8 (Sd (Za [4] ?_));cases H;exact Sc (jR0 h1 [])

def Q146.l0:Nat->Tn->TF->(Int)->(Int)->(Int)->(Int)->Option Tm
 | 0,_,_,_,_,_,_=>none
 | k+1,a0,a1,a3,x1,x2,x3=>if (decide (0<x3))=true then (if 0<=x3/\x3<(a0.length:Int) then (if 0<=x2/\x2<((gt a0 x3).length:Int) then (if (decide (x1=0))=true then ((Q140.f k ((gt (gt a0 x3) x2).2.2.2.1) a1).bind fun r1=>(if (decide ((r1.length:Int)<=a3))=true then (some (a0.set x3.toNat ((gt a0 x3).set x2.toNat ((gt (gt a0 x3) x2).1,(gt (gt a0 x3) x2).2.1,(gt (gt a0 x3) x2).2.2.1,r1,(gt (gt a0 x3) x2).2.2.2.2)))) else (some a0))) else (if (decide (x3=1))=true then ((Q140.f k ((gt (gt a0 x3) x2).2.2.2.1) a1).bind fun r2=>(if (decide ((r2.length:Int)<=a3))=true then (some (a0.set x3.toNat ((gt a0 x3).set x2.toNat ((gt (gt a0 x3) x2).1,(gt (gt a0 x3) x2).2.1,(gt (gt a0 x3) x2).2.2.1,r2,(gt (gt a0 x3) x2).2.2.2.2)))) else (some a0))) else ((Q143.f k ((gt (gt a0 x3) x2).2.2.1) a1.1).bind fun r3=>(if 0<=r3/\r3<(((gt (gt a0 x3) x2).2.1).length:Int) then (Q146.l0 k a0 a1 a3 (w64 (x1 - 1)) (w64 ((w64 ((gt ((gt (gt a0 x3) x2).2.1) r3))) - 1)) (w64 (x3 - 1))) else none)))) else none) else none) else (some a0)
def Q146.f (k:Nat) (a0:Tn) (a1:TF) (a2:Int) (a3:Int):Option Tm:=Q146.l0 k a0 a1 a3 a2 0 (w64 ((a0.length:Int) - 1))
theorem Q146.spec {k a0 a1 a2 a3 cs1 A1 c_1 r} (H:Q146.f k a0 a1 a2 a3=some r) :
  SpecA prog 106 [.slice A1 a0.length c_1,.agg #[.string ⟨⟨a1.1⟩⟩,.bool a1.2.1,.string ⟨⟨a1.2.2⟩⟩],.int .i64 a2,.int .i64 a3] [N47 a0 A1 c_1 cs1] [V47 a0 cs1] (fun v l lr=>∃ A_0 c_0 cs_0,v=.slice A_0 r.length c_0/\l=[N47 r A_0 c_0 cs_0]/\lr=[V47 r cs_0]):=by
 refine Yr Tryz.func106 fun w0 F0 h0=>?_;unfold Q146.f at H;refine Sd (Sb (rB (Z1 h0) fun b1 w1 h1=>?_));refine rFi [0,2,3,5] ?_;refine Sd (Za [0,2,3,5,9] ?_);refine Sd (Sd (Za [0,2,3,5,9,10] ?_));refine T5 ?_;have h27:=(sOR h1 [0,0] [0]);refine T9 (fun kk env w=>∃ x1 x2 x3,Q146.l0 kk a0 a1 a3 x1 x2 x3=some r/\env=[(0,.slice A1 a0.length c_1),(2,.int .i64 x1),(3,.int .i64 a3),(5,.pointer (some ⟨b1,0,none⟩)),(9,.int .i64 x2),(10,.int .i64 x3)]/\St w0 F0 [X80 b1 a1.1 a1.2.1 a1.2.2,N47 a0 A1 c_1 cs1] [V47 a0 cs1] w) (k:=k) ⟨_,_,_,H,rfl,h27⟩ ?_;rintro k1 env w2 ⟨x1,x2,x3,H,rfl,h2⟩;rcases k1 with _ | k1
 ·exact z0 H
 rw [Q146.l0] at H;refine Sd (Sd (Za [0,2,3,5,9,10,17] ?_));refine jIf H (fun c1 H=>?_) fun c1 H=>?_
 ·refine Se (Sd (T5 (Sd ?_)));obtain ⟨⟨p1,p2⟩,H⟩:=Zp H;have e1:=St.nestA 1 h2 p1 p2;obtain ⟨A2,c_2,h3⟩:=St.openN 1 h2 p1 p2;refine Sb (Zd 2 ?_);refine Zh (Zj e1 p1 p2) ?_;refine Zh (Zij 0 h3.wht e1) ?_;refine Zd 1 ?_;obtain ⟨⟨p3,p4⟩,H⟩:=Zp H;have e2:=St.nestA2 0 h3 p3 p4;refine Zh (Zj e2 p3 p4) ?_;obtain ⟨cs2,e3,h4⟩:=St.essEl (t:=(.pair (.int .i64) (.pair (.slice 30 (.int .u32)) (.pair (.slice 9 .str) (.pair (.slice 80 (.pair .str (.pair .bool .str))) (.slice 78 (.pair .str .str))))))) 0 h3 p1 p2 p3 p4;obtain ⟨cs3,cs4,rfl,h5⟩:=Wr 0 h4;obtain ⟨cs5,cs6,rfl,h6⟩:=Wr 1 h5;obtain ⟨cs7,cs8,rfl,h7⟩:=Wr 1 h6;obtain ⟨cs9,cs10,rfl,h8⟩:=Wr 1 h7;obtain rfl:=Zaw (.int .i64) 6 h8;obtain ⟨A3,c_3,rfl⟩:=Xn 4 h8;obtain ⟨A4,c_4,rfl⟩:=Xn 2 h8;obtain ⟨A5,c_5,rfl⟩:=Xn 0 h8;obtain ⟨A6,c_6,rfl⟩:=Xn 1 h8;refine Zh (Zpg (f:=0) 0 h8.wht e2 e3) ?_;refine rB (Z9 h8) fun b2 w3 h9=>?_;refine rS (Zr 0 h9) fun _ w4 h10=>?_;refine rFi [0,2,3,5,9,10,11] ?_;have h11:=St.closeN 1 h10;refine Sd (Sd (Sb (Zd 3 ?_)));refine Z4 29 H (fun c2 H=>?_) fun c2 H=>?_
  ·refine rFi [0,2,3,5,9,10,11,32] ?_;refine Zn ?_;refine Sd (Sb (rRL 1 1 h11 ?_));refine rLo 2 h11 ?_;refine cA H [] h11 rfl Q140.spec (gS [3]) fun r1 A7 c_7 w5 H h12=>?_;refine rFi [0,3,9,10,12] ?_;have h13:=nO h12 [0,0];refine Sd (Sd (Za [0,9,10,12,40] ?_));refine jIf H (fun c3 H=>?_) fun c3 H=>?_
   ·obtain ⟨A8,c_8,h14⟩:=St.openN 1 h13 p1 p2;refine Sb (Zd 2 ?_);refine Zh (Zj e1 p1 p2) ?_;refine Zh (Zij 0 h14.wht e1) ?_;refine Zd 2 ?_;have e4:=St.nestA2 0 h14 p3 p4;refine Zh (Zj e4 p3 p4) ?_;refine Zd 1 ?_;have h15:=h14.freeze (k:=1) rfl Yj;refine Yd (Zh2 (ty:=(.pair (.int .i64) (.pair (.slice 30 (.int .u32)) (.pair (.slice 9 .str) (.pair (.slice 80 (.pair .str (.pair .bool .str))) (.slice 78 (.pair .str .str))))))) (ix:=x3) (jx:=x2) (f:=3) ((gt (gt a0 x3) x2).1,(gt (gt a0 x3) x2).2.1,(gt (gt a0 x3) x2).2.2.1,r1,(gt (gt a0 x3) x2).2.2.2.2) 0 10 h15 p1 p2 p3 p4 e4 e3 ⟨_,_,rfl,(V2 rfl _),⟨_,_,rfl,(.inl (Zf 5)),⟨_,_,rfl,(.inl (Zf 3)),⟨_,_,rfl,(.inl (Zf 0)),(.inl (Zf 2))⟩⟩⟩⟩) ?_;rintro _ w6 ⟨cs11,h16⟩;replace h16:=nf h16;have e5:(a0.set x3.toNat ((gt a0 x3).set x2.toNat ((gt (gt a0 x3) x2).1,(gt (gt a0 x3) x2).2.1,(gt (gt a0 x3) x2).2.2.1,r1,(gt (gt a0 x3) x2).2.2.2.2))).length=a0.length:=length_set.trans (rfl:a0.length=a0.length);refine rFi [0] ?_;refine T7 (env':=[(0,.slice A1 (a0.set x3.toNat ((gt a0 x3).set x2.toNat ((gt (gt a0 x3) x2).1,(gt (gt a0 x3) x2).2.1,(gt (gt a0 x3) x2).2.2.1,r1,(gt (gt a0 x3) x2).2.2.2.2))).length c_1)]) (by simp only [length_set,length_nil] <;> rfl) ?_;have h17:=St.closeN 0 h16;refine Sd (Za [8] ?_);cases H;exact Sc (jRA ⟨_,_,_,rfl,rfl,rfl⟩ (sOR h17 [0] [0]))
   refine Se (Sd (Za [8] ?_));cases H;exact Sc (jRA ⟨_,_,_,rfl,rfl,rfl⟩ (sOR h13 [1] [9]))
  refine rFi [0,2,3,5,9,10,11,32] ?_;refine jIf H (fun c4 H=>?_) fun c4 H=>?_
  ·refine Sd (Sb (rRL 1 1 h11 ?_));refine rLo 2 h11 ?_;refine cA H [] h11 rfl Q140.spec (gS [3]) fun r2 A9 c_9 w7 H h18=>?_;refine rFi [0,3,9,10,12] ?_;have h19:=nO h18 [0,0];refine Sd (Sd (Za [0,9,10,12,40] ?_));refine jIf H (fun c5 H=>?_) fun c5 H=>?_
   ·obtain ⟨A10,c_10,h20⟩:=St.openN 1 h19 p1 p2;refine Sb (Zd 2 ?_);refine Zh (Zj e1 p1 p2) ?_;refine Zh (Zij 0 h20.wht e1) ?_;refine Zd 2 ?_;have e6:=St.nestA2 0 h20 p3 p4;refine Zh (Zj e6 p3 p4) ?_;refine Zd 1 ?_;have h21:=h20.freeze (k:=1) rfl Yj;refine Yd (Zh2 (ty:=(.pair (.int .i64) (.pair (.slice 30 (.int .u32)) (.pair (.slice 9 .str) (.pair (.slice 80 (.pair .str (.pair .bool .str))) (.slice 78 (.pair .str .str))))))) (ix:=x3) (jx:=x2) (f:=3) ((gt (gt a0 x3) x2).1,(gt (gt a0 x3) x2).2.1,(gt (gt a0 x3) x2).2.2.1,r2,(gt (gt a0 x3) x2).2.2.2.2) 0 10 h21 p1 p2 p3 p4 e6 e3 ⟨_,_,rfl,(V2 rfl _),⟨_,_,rfl,(.inl (Zf 5)),⟨_,_,rfl,(.inl (Zf 3)),⟨_,_,rfl,(.inl (Zf 0)),(.inl (Zf 2))⟩⟩⟩⟩) ?_;rintro _ w8 ⟨cs12,h22⟩;replace h22:=nf h22;have e7:(a0.set x3.toNat ((gt a0 x3).set x2.toNat ((gt (gt a0 x3) x2).1,(gt (gt a0 x3) x2).2.1,(gt (gt a0 x3) x2).2.2.1,r2,(gt (gt a0 x3) x2).2.2.2.2))).length=a0.length:=length_set.trans (rfl:a0.length=a0.length);refine rFi [0] ?_;refine T7 (env':=[(0,.slice A1 (a0.set x3.toNat ((gt a0 x3).set x2.toNat ((gt (gt a0 x3) x2).1,(gt (gt a0 x3) x2).2.1,(gt (gt a0 x3) x2).2.2.1,r2,(gt (gt a0 x3) x2).2.2.2.2))).length c_1)]) (by simp only [length_set,length_nil] <;> rfl) ?_;have h23:=St.closeN 0 h22;refine Sd (Za [8] ?_);cases H;exact Sc (jRA ⟨_,_,_,rfl,rfl,rfl⟩ (sOR h23 [0] [0]))
   refine Se (Sd (Za [8] ?_));cases H;exact Sc (jRA ⟨_,_,_,rfl,rfl,rfl⟩ (sOR h19 [1] [9]))
  refine Se (Sd (Za [0,2,3,5,10,11] ?_));refine jH h11 fun h24=>?_;refine Zq [0,2,4] ?_;refine Zc 1 rfl (Ze 1 wI) ?_;refine Zc 3 rfl (Ze 1 wI) ?_;refine Zc 5 rfl (Ze 2 wI) ?_;refine cSJ 6 rfl H [] h24 rfl Q143.spec (gS [5]) 0 fun r3 w9 H h25=>?_;refine hI 7 H h25 (Zf 7) fun p5 p6 e8 H=>?_;refine Zc 8 rfl (Zb 0 wI (Zf 7) p5 p6) ?_;refine hRF [9,10,11] [0,2,3,5,9,10] ?_;refine Za [0,2,3,5,9,10] ?_;have h26:=(sOR h25 [2,0] [9]);exact ⟨k1,by omega,_,_,_,H,rfl,h26⟩
 refine T8 (Sd (Za [8] ?_));cases H;exact Sc (jRA ⟨_,_,_,rfl,rfl,rfl⟩ (sOR h2 [1] [0]))

def Q145.l0:Nat->Tx->T2->(Int)->Tn->(Int)->Option Tm
 | 0,_,_,_,_,_=>none
 | k+1,a1,a2,a3,x1,x2=>if (decide (x2<(a1.length:Int)))=true then (if (decide (x2<(a2.length:Int)))=true then (if 0<=x2/\x2<(a2.length:Int) then (if 0<(x1.length:Int) then (if 0<=x2/\x2<(a1.length:Int) then ((Q146.f k x1 (gt a1 x2) (Int.tmod (w64 ((gt a2 x2))) (x1.length:Int)) a3).bind fun r1=>(Q145.l0 k a1 a2 a3 r1 (w64 (x2+1)))) else none) else none) else none) else (if 0<=x2/\x2<(a1.length:Int) then ((Q146.f k x1 (gt a1 x2) 0 a3).bind fun r2=>(Q145.l0 k a1 a2 a3 r2 (w64 (x2+1)))) else none)) else (some x1)
def Q145.f (k:Nat) (a0:Tn) (a1:Tx) (a2:T2) (a3:Int):Option Tm:=Q145.l0 k a1 a2 a3 a0 0
theorem Q145.spec {k a0 a1 a2 a3 cs1 A2 c_2 A3 c_3 A1 c_1 r} (H:Q145.f k a0 a1 a2 a3=some r) :
  SpecA prog 56 [.slice A1 a0.length c_1,.slice A2 a1.length c_2,.slice A3 a2.length c_3,.int .i64 a3] [N47 a0 A1 c_1 cs1] [V47 a0 cs1,R80 a1 A2 c_2,R5 a2 A3 c_3] (fun v l lr=>∃ A_0 c_0 cs_0,v=.slice A_0 r.length c_0/\l=[N47 r A_0 c_0 cs_0]/\lr=[V47 r cs_0]):=by
 refine Yr Tryz.func56 fun w0 F0 h0=>?_;unfold Q145.f at H;refine Sd (Za [0,1,2,3] ?_);refine Sd (Sd (Za [0,1,2,3,9] ?_));refine T5 ?_;have h6:=(sOR h0 [0] [1,2,0]);refine T9 (fun kk env w=>∃ x1 A4 c_4 x2 cs2,Q145.l0 kk a1 a2 a3 x1 x2=some r/\env=[(0,.slice A4 x1.length c_4),(1,.slice A2 a1.length c_2),(2,.slice A3 a2.length c_3),(3,.int .i64 a3),(9,.int .i64 x2)]/\St w0 F0 [N47 x1 A4 c_4 cs2] [R80 a1 A2 c_2,R5 a2 A3 c_3,V47 x1 cs2] w) (k:=k) ⟨_,_,_,_,_,H,rfl,h6⟩ ?_;rintro k1 env w1 ⟨x1,A4,c_4,x2,cs2,H,rfl,h1⟩;rcases k1 with _ | k1
 ·exact z0 H
 rw [Q145.l0] at H;refine Sd (Sd (Za [0,1,2,3,9,14] ?_));refine jIf H (fun c1 H=>?_) fun c1 H=>?_
 ·refine Se (Sd (T5 (Sd (Za [0,1,2,3,9,10] ?_))));refine Sd (Sd (Za [0,1,2,3,9,10,20] ?_));refine jIf H (fun c2 H=>?_) fun c2 H=>?_
  ·refine Sb (Zd 2 ?_);refine rI H h1 (Zf 2) fun p1 p2 e1 H=>?_;refine Zh (Zb 0 h1.wht (Zf 2) p1 p2) ?_;refine Zd 3 ?_;obtain ⟨p3,H⟩:=Zp H;refine Zh (W2 p3) ?_;refine rFi [0,1,2,3,9,10] ?_;refine Sb (Zd 3 ?_);refine rI H h1 (Zf 1) fun p4 p5 e2 H=>?_;refine Zh (Zb 0 h1.wht (Zf 1) p4 p5) ?_;refine Zd 2 ?_;obtain ⟨r1,q1,H⟩:=Yc H;refine Yd (Zy [0] (Q146.spec q1) h1 rfl (gS [2])) ?_;rintro _ w2 ⟨_,_,⟨A5,c_5,cs3,rfl,rfl,rfl⟩,h2⟩;replace h2:=nf h2;refine rFi [0,1,2,3,9] ?_;refine Za [0,1,2,3,9] ?_;have h3:=(sOR h2 [0] [1,2,0]);exact ⟨k1,by omega,_,_,_,_,_,H,rfl,h3⟩
  refine Se (Sb (Zd 3 ?_));refine rI H h1 (Zf 1) fun p6 p7 e3 H=>?_;refine Zh (Zb 0 h1.wht (Zf 1) p6 p7) ?_;refine Zd 2 ?_;obtain ⟨r2,q2,H⟩:=Yc H;refine Yd (Zy [0] (Q146.spec q2) h1 rfl (gS [2])) ?_;rintro _ w3 ⟨_,_,⟨A6,c_6,cs4,rfl,rfl,rfl⟩,h4⟩;replace h4:=nf h4;refine rFi [0,1,2,3,9] ?_;refine Za [0,1,2,3,9] ?_;have h5:=(sOR h4 [0] [1,2,0]);exact ⟨k1,by omega,_,_,_,_,_,H,rfl,h5⟩
 refine T8 (Sd (Za [8] ?_));cases H;exact Sc (jRA ⟨_,_,_,rfl,rfl,rfl⟩ (sOR h1 [0] [2]))

def Q123.l2:Nat->Tt->Tr->Tp->TQ->TQ->(Int)->Tn->(Bool)->Option Tm
 | 0,_,_,_,_,_,_,_,_=>none
 | k+1,a0,a1,x7,x8,x9,x10,x11,x12=>if (decide (1<(x7.length:Int)))=true then (some [[(0,[],[],[],[])]]) else ((Q127.f k a0 a1).bind fun r3=>((Q145.f k x11 r3 a1.2.2.1 a0.2.2.2.2.1).bind fun r4=>(some r4)))
mutual
def Q123.l3:Nat->Tt->Tr->Tp->TQ->TQ->(Int)->Tn->Option Tm
 | 0,_,_,_,_,_,_,_=>none
 | k+1,a0,a1,x13,x14,x15,x16,x17=>if (decide (1<(x13.length:Int)))=true then (Q123.l4 k a0 a1 x13 x14 x15 x16 x17 (decide ((x17.length:Int)<6))) else (Q123.l4 k a0 a1 x13 x14 x15 x16 x17 false)
def Q123.l4:Nat->Tt->Tr->Tp->TQ->TQ->(Int)->Tn->(Bool)->Option Tm
 | 0,_,_,_,_,_,_,_,_=>none
 | k+1,a0,a1,x13,x14,x15,x16,x17,x18=>if x18=true then (Q123.l6 k a0 a1 x13 x14 x15 x17 x16 [] [] [] 0) else (Q123.l2 k a0 a1 x13 x14 x15 x16 x17 x18)
def Q123.l5:Nat->Tt->Tr->Tn->(Int)->Tp->TQ->TQ->(Int)->(Bool)->Option Tm
 | 0,_,_,_,_,_,_,_,_,_=>none
 | k+1,a0,a1,x17,x19,x20,x21,x22,x23,x24=>if (x17.length+([x20]:List Tp).length)*24<=140737488355328 then (Q123.l3 k a0 a1 x20 x21 x22 x19 (x17 ++ [x20])) else none
def Q123.l6:Nat->Tt->Tr->Tp->TQ->TQ->Tn->(Int)->Tp->TQ->TQ->(Int)->Option Tm
 | 0,_,_,_,_,_,_,_,_,_,_,_=>none
 | k+1,a0,a1,x13,x14,x15,x17,x25,x26,x27,x28,x29=>if (decide (x29<(x13.length:Int)))=true then ((Q125.f a1 x25 a0.2.2.2.1).bind fun r5=>(Q123.l8 k a0 a1 r5 x13 x14 x15 x17 x25 x26 x27 x28 x29 [] [] 0)) else (Q123.l5 k a0 a1 x17 x25 x26 x27 x28 x29 (decide (x29<(x13.length:Int))))
def Q123.l7:Nat->Tt->Tr->(Int)->Tp->TQ->TQ->Tn->(Int)->Tp->TQ->TQ->(Int)->T2->TQ->(Int)->(Bool)->Option Tm
 | 0,_,_,_,_,_,_,_,_,_,_,_,_,_,_,_,_=>none
 | k+1,a0,a1,r5,x13,x14,x15,x17,x25,x26,x27,x28,x29,x30,x31,x32,x33=>if (x26.length+([((x17.length:Int),x30,x31,[],[])]:List Tq).length)*104<=140737488355328 then (if 0<=x29/\x29<(x14.length:Int) then (if 0<=(w64 ((w64 (x29+(mnI (mxI r5 2) (w64 ((x13.length:Int) - x29))))) - 1))/\(w64 ((w64 (x29+(mnI (mxI r5 2) (w64 ((x13.length:Int) - x29))))) - 1))<(x15.length:Int) then (if (x27.length+([(gt x14 x29)]:List TY).length)*16<=140737488355328 then (if (x28.length+([(gt x15 (w64 ((w64 (x29+(mnI (mxI r5 2) (w64 ((x13.length:Int) - x29))))) - 1)))]:List TY).length)*16<=140737488355328 then (Q123.l6 k a0 a1 x13 x14 x15 x17 (w64 (x25+1)) (x26 ++ [((x17.length:Int),x30,x31,[],[])]) (x27 ++ [(gt x14 x29)]) (x28 ++ [(gt x15 (w64 ((w64 (x29+(mnI (mxI r5 2) (w64 ((x13.length:Int) - x29))))) - 1)))]) (w64 (x29+(mnI (mxI r5 2) (w64 ((x13.length:Int) - x29)))))) else none) else none) else none) else none) else none
def Q123.l8:Nat->Tt->Tr->(Int)->Tp->TQ->TQ->Tn->(Int)->Tp->TQ->TQ->(Int)->T2->TQ->(Int)->Option Tm
 | 0,_,_,_,_,_,_,_,_,_,_,_,_,_,_,_=>none
 | k+1,a0,a1,r5,x13,x14,x15,x17,x25,x26,x27,x28,x29,x34,x35,x36=>if (decide (x36<(mnI (mxI r5 2) (w64 ((x13.length:Int) - x29)))))=true then (if (x34.length+([(uD.wrap ((w64 ((w64 (x29+x36))+1))))]:List Int).length)*4<=140737488355328 then (if (decide (0<x36))=true then (if 0<=(w64 ((w64 (x29+x36)) - 1))/\(w64 ((w64 (x29+x36)) - 1))<(x15.length:Int) then (if 0<=(w64 (x29+x36))/\(w64 (x29+x36))<(x14.length:Int) then ((Q134.f k (gt x15 (w64 ((w64 (x29+x36)) - 1))) (gt x14 (w64 (x29+x36)))).bind fun r6=>(if (x35.length+([r6.1]:List TY).length)*16<=140737488355328 then (Q123.l8 k a0 a1 r5 x13 x14 x15 x17 x25 x26 x27 x28 x29 (x34 ++ [(uD.wrap ((w64 ((w64 (x29+x36))+1))))]) (x35 ++ [r6.1]) (w64 (x36+1))) else none)) else none) else none) else (Q123.l8 k a0 a1 r5 x13 x14 x15 x17 x25 x26 x27 x28 x29 (x34 ++ [(uD.wrap ((w64 ((w64 (x29+x36))+1))))]) x35 (w64 (x36+1)))) else none) else (Q123.l7 k a0 a1 r5 x13 x14 x15 x17 x25 x26 x27 x28 x29 x34 x35 x36 (decide (x36<(mnI (mxI r5 2) (w64 ((x13.length:Int) - x29))))))
end
mutual
def Q123.l0:Nat->Tt->Tr->TD->Tp->TQ->TQ->(Int)->Option Tm
 | 0,_,_,_,_,_,_,_=>none
 | k+1,a0,a1,x1,x2,x3,x4,x5=>if (decide (0<(x1.length:Int)))=true then (Q123.l1 k a0 a1 x1 x2 x3 x4 x5 true) else (Q123.l1 k a0 a1 x1 x2 x3 x4 x5 (decide ((x2.length:Int)=0)))
def Q123.l1:Nat->Tt->Tr->TD->Tp->TQ->TQ->(Int)->(Bool)->Option Tm
 | 0,_,_,_,_,_,_,_,_=>none
 | k+1,a0,a1,x1,x2,x3,x4,x5,x6=>if x6=true then ((Q125.f a1 x5 a0.2.2.2.2.2.1).bind fun r2=>(if (0:Int)<=(mnI r2 (x1.length:Int))/\(mnI r2 (x1.length:Int))<=(x1.length:Int) then (if (x2.length+([(0,[],[],[],(x1.take ((mnI r2 (x1.length:Int))).toNat))]:List Tq).length)*104<=140737488355328 then (if (decide (0<(mnI r2 (x1.length:Int))))=true then (if 0<(x1.length:Int) then (if 0<=(w64 ((mnI r2 (x1.length:Int)) - 1))/\(w64 ((mnI r2 (x1.length:Int)) - 1))<(x1.length:Int) then (if (x3.length+([(gt x1 0).1]:List TY).length)*16<=140737488355328 then (if (x4.length+([(gt x1 (w64 ((mnI r2 (x1.length:Int)) - 1))).1]:List TY).length)*16<=140737488355328 then (if 0<=(mnI r2 (x1.length:Int))/\(mnI r2 (x1.length:Int))<=(x1.length:Int) then (Q123.l0 k a0 a1 (x1.drop ((mnI r2 (x1.length:Int))).toNat) (x2 ++ [(0,[],[],[],(x1.take ((mnI r2 (x1.length:Int))).toNat))]) (x3 ++ [(gt x1 0).1]) (x4 ++ [(gt x1 (w64 ((mnI r2 (x1.length:Int)) - 1))).1]) (w64 (x5+1))) else none) else none) else none) else none) else none) else (if (x3.length+([[]]:List TY).length)*16<=140737488355328 then (if (x4.length+([[]]:List TY).length)*16<=140737488355328 then (if 0<=(mnI r2 (x1.length:Int))/\(mnI r2 (x1.length:Int))<=(x1.length:Int) then (Q123.l0 k a0 a1 (x1.drop ((mnI r2 (x1.length:Int))).toNat) (x2 ++ [(0,[],[],[],(x1.take ((mnI r2 (x1.length:Int))).toNat))]) (x3 ++ [[]]) (x4 ++ [[]]) (w64 (x5+1))) else none) else none) else none)) else none) else none)) else (Q123.l3 k a0 a1 x2 x3 x4 x5 [x2])
end
def Q123.f (k:Nat) (a0:Tt) (a1:Tr):Option Tm:=(Q126.f k a0 a1).bind fun r1=>(Q123.l0 k a0 a1 r1 [] [] [] 0)
theorem Q123.spec {k a0 a1 A1 c_1 A2 c_2 A3 c_3 A4 c_4 r} (H:Q123.f k a0 a1=some r) :
  SpecA prog 30 [.agg (zV8 a0),.agg #[.slice A1 a1.1.length c_1,.slice A2 a1.2.1.length c_2,.slice A3 a1.2.2.1.length c_3,.slice A4 a1.2.2.2.length c_4]] [] [R78 a1.1 A1 c_1,R80 a1.2.1 A2 c_2,R5 a1.2.2.1 A3 c_3,R5 a1.2.2.2 A4 c_4] (fun v l lr=>∃ A_0 c_0,v=.slice A_0 r.length c_0/\l=[]/\lr=[R47 r A_0 c_0]):=by
 refine Yr Tryz.func30 fun w0 F0 h0=>?_;unfold Q123.f at H;refine Sd (Sb (rB (Z1 h0) fun b1 w1 h1=>?_));refine rB (Z1 h1) fun b2 w2 h2=>?_;refine rFi [2,3] ?_;refine Sd (Sb (rLo 1 h2 ?_));refine rLo 0 h2 ?_;refine cA H [] h2 rfl Q126.spec (gS [2,3,4,5]) fun r1 A5 c_5 w3 H h3=>?_;refine rFi [2,3,5] ?_;refine Sd (Sb (rB (Zhj (.pair (.int .i64) (.pair (.slice 30 (.int .u32)) (.pair (.slice 9 .str) (.pair (.slice 80 (.pair .str (.pair .bool .str))) (.slice 78 (.pair .str .str)))))) h3) fun b3 w4 h4=>?_));refine rFi [2,3,5,6] ?_;refine Sd (Sb (rB (Zu .str [] h4) fun b4 w5 h5=>?_));refine rB (Zu .str [] h5) fun b5 w6 h6=>?_;refine rFi [2,3,5,6,7,8] ?_;refine Sd (Za [2,3,5,6,7,8,9] ?_);refine Sd (T5 ?_);have h166:=h6.freeze (k:=3) rfl Yj;have h167:=(sOR h166 [4,3,2,1,0] [2,3,4,5,0,1]);refine T9 (fun kk env w=>∃ x1 A6 c_6 x2 A7 c_7 x3 A8 c_8 x4 A9 c_9 x5 cs1,Q123.l0 kk a0 a1 x1 x2 x3 x4 x5=some r/\env=[(2,.pointer (some ⟨b1,0,none⟩)),(3,.pointer (some ⟨b2,0,none⟩)),(5,.slice A6 x1.length c_6),(6,.slice A7 x2.length c_7),(7,.slice A8 x3.length c_8),(8,.slice A9 x4.length c_9),(9,.int .i64 x5)]/\St w0 F0 [zX23 b1 a0,X28 b2 a1.1 A1 c_1 a1.2.1 A2 c_2 a1.2.2.1 A3 c_3 a1.2.2.2 A4 c_4,M42 x2 A7 c_7 cs1,O9 x3 A8 c_8,O9 x4 A9 c_9] [R78 a1.1 A1 c_1,R80 a1.2.1 A2 c_2,R5 a1.2.2.1 A3 c_3,R5 a1.2.2.2 A4 c_4,R78 x1 A6 c_6,E42 x2 cs1] w) (k:=k) ⟨_,_,_,_,_,_,_,_,_,_,_,_,_,_,H,rfl,h167⟩ ?_;rintro k1 env w7 ⟨x1,A6,c_6,x2,A7,c_7,x3,A8,c_8,x4,A9,c_9,x5,cs1,H,rfl,h7⟩;rcases k1 with _ | k1
 ·exact z0 H
 rw [Q123.l0] at H;refine Sd (Sd (Sa (fun env w=>∃ k2 x6,Q123.l1 k2 a0 a1 x1 x2 x3 x4 x5 x6=some r/\env=[(2,.pointer (some ⟨b1,0,none⟩)),(3,.pointer (some ⟨b2,0,none⟩)),(5,.slice A6 x1.length c_6),(6,.slice A7 x2.length c_7),(7,.slice A8 x3.length c_8),(8,.slice A9 x4.length c_9),(9,.int .i64 x5),(34,.bool x6)]/\St w0 F0 [zX23 b1 a0,X28 b2 a1.1 A1 c_1 a1.2.1 A2 c_2 a1.2.2.1 A3 c_3 a1.2.2.2 A4 c_4,M42 x2 A7 c_7 cs1,O9 x3 A8 c_8,O9 x4 A9 c_9] [R78 a1.1 A1 c_1,R80 a1.2.1 A2 c_2,R5 a1.2.2.1 A3 c_3,R5 a1.2.2.2 A4 c_4,R78 x1 A6 c_6,E42 x2 cs1] w/\k2<=k1) ?_ ?_))
 ·refine Sb (Zd 4 ?_);refine Z4 30 H (fun c9 H=>?_) fun c9 H=>?_
  ·refine rFi [2,3,5,6,7,8,9,34] ?_;have h164:=(sOR h7 [0,0,0,0,0] [0,1,2,3,4,5]);exact ⟨k1,_,H,rfl,h164,Sf _⟩
  refine rFi [2,3,5,6,7,8,9,34] ?_;have h165:=(sOR h7 [0,0,0,0,0] [0,1,2,3,4,5]);exact ⟨k1,_,H,rfl,h165,Sf _⟩
 rintro env w9 ⟨k2,x6,H,rfl,h8,hk2⟩;rcases k2 with _ | k2
 ·exact z0 H
 rw [Q123.l1] at H;refine jIf H (fun c1 H=>?_) fun c1 H=>?_
 ·refine Se (T5 (Sd (Sb (rRL 2 1 h8 ?_))));refine rRL 2 0 h8 ?_;refine cS H [] h8 rfl Q125.spec (gS [5,6,7,8]) fun r2 w10 H h9=>?_;refine rFi [2,3,5,6,7,8,9,10] ?_;refine Sd (Za [2,3,5,6,7,8,9,10] ?_);refine Sd (Sb (Zd 3 ?_));obtain ⟨⟨p1,p2⟩,H⟩:=Zp H;have e1:=h9.cap (Zf 9);refine Zh (Vk (x1.take ((mnI r2 (x1.length:Int))).toNat) (mnI r2 (x1.length:Int)) e1 p1 p2) ?_;refine Zd 1 ?_;have h10:=h9.read (k:=4) rfl (Jf (.pair .str .str) (x1.take ((mnI r2 (x1.length:Int))).toNat) (mnI r2 (x1.length:Int)) p1 p2);refine Yd (Zb8 (.pair (.int .i64) (.pair (.slice 30 (.int .u32)) (.pair (.slice 9 .str) (.pair (.slice 80 (.pair .str (.pair .bool .str))) (.slice 78 (.pair .str .str)))))) [(0,[],[],[],(x1.take ((mnI r2 (x1.length:Int))).toNat))] h10 (Zd7 ⟨_,_,rfl,(V2 rfl _),⟨_,_,rfl,(.inr Ua),⟨_,_,rfl,(.inr Ua),⟨_,_,rfl,(.inr Ua),(.inl (Zf 0))⟩⟩⟩⟩ Zgn)) ?_;rintro _ w11 ⟨b6,rfl,h11⟩;replace h11:=nf h11;obtain ⟨p3,H⟩:=Zp H;refine Yd (Zhi 2 7 0 h11 p3) ?_;rintro _ w12 ⟨A10,c_10,cs2,rfl,h12⟩;replace h12:=nf h12;refine rFi [2,3,5,6,7,8,9,10] ?_;refine Sd (Sd (Za [2,3,5,6,7,8,9,10,53] ?_));refine jIf H (fun c2 H=>?_) fun c2 H=>?_
  ·obtain ⟨p4,H⟩:=Zp H;obtain ⟨⟨p5,p6⟩,H⟩:=Zp H;obtain ⟨p7,H⟩:=Zp H;obtain ⟨p8,H⟩:=Zp H;refine Sa (fun env w=>∃(A11:_) (c_11:_) (A12:_) (c_12:_),env=[(2,.pointer (some ⟨b1,0,none⟩)),(3,.pointer (some ⟨b2,0,none⟩)),(5,.slice A6 x1.length c_6),(6,.slice A10 (x2 ++ [(0,[],[],[],(x1.take ((mnI r2 (x1.length:Int))).toNat))]).length c_10),(7,.slice A11 (x3 ++ [(gt x1 0).1]).length c_11),(8,.slice A12 (x4 ++ [(gt x1 (w64 ((mnI r2 (x1.length:Int)) - 1))).1]).length c_12),(9,.int .i64 (w64 (x5+1))),(10,.int .i64 (mnI r2 (x1.length:Int)))]/\St w0 F0 [O9 (x3 ++ [(gt x1 0).1]) A11 c_11,O9 (x4 ++ [(gt x1 (w64 ((mnI r2 (x1.length:Int)) - 1))).1]) A12 c_12,M42 (x2 ++ [(0,[],[],[],(x1.take ((mnI r2 (x1.length:Int))).toNat))]) A10 c_10 cs2,zX23 b1 a0,X28 b2 a1.1 A1 c_1 a1.2.1 A2 c_2 a1.2.2.1 A3 c_3 a1.2.2.2 A4 c_4] [E42 (x2 ++ [(0,[],[],[],(x1.take ((mnI r2 (x1.length:Int))).toNat))]) cs2,R42 [(0,[],[],[],(x1.take ((mnI r2 (x1.length:Int))).toNat))] (some ⟨b6,0,none⟩) 1,R78 (x1.take ((mnI r2 (x1.length:Int))).toNat) A6 c_6,R78 a1.1 A1 c_1,R80 a1.2.1 A2 c_2,R5 a1.2.2.1 A3 c_3,R5 a1.2.2.2 A4 c_4,R78 x1 A6 c_6,E42 x2 cs1] w) ?_ ?_
   ·refine Zs (sO h12 [1,1]) ?_;have h17:=h12.drew;refine Zq [0,1,7,8,9,10] ?_;have e3:=V9 h17.wh (Zf 12) p4;refine Zc 2 rfl (Vt e3 p4) ?_;refine Zq [3] ?_;refine Zc 4 rfl (Wi 0 wI (Zf 9) p4) ?_;refine Zc 11 rfl (Zj e3 p5 p6) ?_;refine Zq [12] ?_;refine Zc 13 rfl (Zb 0 wI (Zf 9) p5 p6) ?_;refine T4 [5,14] (i:=5) rfl rfl rfl rfl ?_;refine (Xo ?_ (Xo ?_ Uu))
    ·refine Xt 5 rfl (Zu .str [(gt x1 0).1] h17) ?_;rintro _ w44 ⟨b24,rfl,h45⟩;replace h45:=nf h45;refine ⟨⟨[_,_,_,_],(sO h45 [0,0,2,2,0,0])⟩,?_⟩;refine T4 [6,14] (i:=6) rfl rfl rfl rfl ?_;refine (Xo ?_ (Xo ?_ Uu))
     ·refine Xt 6 rfl (Zt 4 h45 (gO 0) p7) ?_;rintro _ w45 ⟨A25,c_25,rfl,h46⟩;replace h46:=nf h46;refine ⟨⟨[_,_,_,_],(sO h46 [0,0,0,2,0,0])⟩,?_⟩;refine Yi 14 rfl (Zu .str [(gt x1 (w64 ((mnI r2 (x1.length:Int)) - 1))).1] h46) ?_;rintro _ w46 ⟨b25,rfl,h47⟩;replace h47:=nf h47;refine ⟨⟨[_,_,_,_,_],(sO h47 [0,0,0,0,2,0,0])⟩,?_⟩;refine Yi 15 rfl (Zt 6 h47 (gO 0) p8) ?_;rintro _ w47 ⟨A26,c_26,rfl,h48⟩;replace h48:=nf h48;refine ⟨⟨[_,_,_,_,_],h48⟩,?_⟩;refine hRF [16,17] [2,3,5,6,7,8,9,10] ?_;exact Y3 ⟨A25,c_25,A26,c_26,rfl,(sOR h48 [2,0,2,2,2] [0,1,2,3,4,5,6,7,8])⟩
     ·refine Xt 14 rfl (Zu .str [(gt x1 (w64 ((mnI r2 (x1.length:Int)) - 1))).1] h45) ?_;rintro _ w48 ⟨b26,rfl,h49⟩;replace h49:=nf h49;refine ⟨⟨[_,_,_,_,_],(sO h49 [0,0,0,2,2,0,0])⟩,?_⟩;refine Yi 6 rfl (Zt 5 h49 (gO 1) p7) ?_;rintro _ w49 ⟨A27,c_27,rfl,h50⟩;replace h50:=nf h50;refine ⟨⟨[_,_,_,_,_],(sO h50 [0,0,0,0,2,0,0])⟩,?_⟩;refine Yi 15 rfl (Zt 6 h50 (gO 1) p8) ?_;rintro _ w50 ⟨A28,c_28,rfl,h51⟩;replace h51:=nf h51;refine ⟨⟨[_,_,_,_,_],h51⟩,?_⟩;refine hRF [16,17] [2,3,5,6,7,8,9,10] ?_;exact Y3 ⟨A27,c_27,A28,c_28,rfl,(sOR h51 [1,0,2,2,2] [0,1,2,3,4,5,6,7,8])⟩
    ·refine Xt 14 rfl (Zu .str [(gt x1 (w64 ((mnI r2 (x1.length:Int)) - 1))).1] h17) ?_;rintro _ w51 ⟨b27,rfl,h52⟩;replace h52:=nf h52;refine ⟨⟨[_,_,_,_],(sO h52 [0,0,2,2,0,0])⟩,?_⟩;refine Yi 5 rfl (Zu .str [(gt x1 0).1] h52) ?_;rintro _ w52 ⟨b28,rfl,h53⟩;replace h53:=nf h53;refine ⟨⟨[_,_,_,_,_],(sO h53 [0,0,0,2,2,0,0])⟩,?_⟩;refine Yi 6 rfl (Zt 5 h53 (gO 0) p7) ?_;rintro _ w53 ⟨A29,c_29,rfl,h54⟩;replace h54:=nf h54;refine ⟨⟨[_,_,_,_,_],(sO h54 [0,0,0,0,2,0,0])⟩,?_⟩;refine Yi 15 rfl (Zt 6 h54 (gO 2) p8) ?_;rintro _ w54 ⟨A30,c_30,rfl,h55⟩;replace h55:=nf h55;refine ⟨⟨[_,_,_,_,_],h55⟩,?_⟩;refine hRF [16,17] [2,3,5,6,7,8,9,10] ?_;exact Y3 ⟨A29,c_29,A30,c_30,rfl,(sOR h55 [1,0,2,2,2] [0,1,2,3,4,5,6,7,8])⟩
   rintro env w55 ⟨A11,c_11,A12,c_12,rfl,h56⟩;refine Sb (Zd 2 ?_);obtain ⟨⟨p9,p10⟩,H⟩:=Zp H;have e4:=h56.cap (Zf 12);refine Zh (V1 (x1.drop ((mnI r2 (x1.length:Int))).toNat) (mnI r2 (x1.length:Int)) (x1.length:Int) e4 p9 p10 (Int.le_refl _) (Xp _ _)) ?_;refine rFi [2,3,5,6,7,8,9] ?_;have h57:=h56.read (k:=7) rfl (fun w F h=>((Zbq (ty:=(.pair .str .str)) (l:=(mnI r2 (x1.length:Int))) (h:=(x1.length:Int)) (sub:=(x1.drop ((mnI r2 (x1.length:Int))).toNat)) rfl p9 p10 (Int.le_refl _) (Xp _ _)) w F h));have h58:=(sOR h57 [3,3,2,0,0] [4,5,6,7,0,1]);exact ⟨k2,by omega,_,_,_,_,_,_,_,_,_,_,_,_,_,_,H,rfl,h58⟩
  refine Sb (Zd 1 ?_);refine rB (Zu .str [[]] h12) fun b29 w56 h59=>?_;obtain ⟨p11,H⟩:=Zp H;refine rA (Zt 4 h59 (gO 0) p11) fun A31 c_31 w57 h60=>?_;refine Zd 1 ?_;refine rB (Zu .str [[]] h60) fun b30 w58 h61=>?_;obtain ⟨p12,H⟩:=Zp H;refine rA (Zt 6 h61 (gO 0) p12) fun A32 c_32 w59 h62=>?_;refine rFi [2,3,5,6,7,8,9,10] ?_;have h63:=nO h62 [0,1,2,2,2];refine Sb (Zd 2 ?_);obtain ⟨⟨p13,p14⟩,H⟩:=Zp H;have e5:=h63.cap (Zf 12);refine Zh (V1 (x1.drop ((mnI r2 (x1.length:Int))).toNat) (mnI r2 (x1.length:Int)) (x1.length:Int) e5 p13 p14 (Int.le_refl _) (Xp _ _)) ?_;refine rFi [2,3,5,6,7,8,9] ?_;have h64:=h63.read (k:=7) rfl (fun w F h=>((Zbq (ty:=(.pair .str .str)) (l:=(mnI r2 (x1.length:Int))) (h:=(x1.length:Int)) (sub:=(x1.drop ((mnI r2 (x1.length:Int))).toNat)) rfl p13 p14 (Int.le_refl _) (Xp _ _)) w F h));have h65:=(sOR h64 [3,3,2,1,0] [4,5,6,7,0,1]);exact ⟨k2,by omega,_,_,_,_,_,_,_,_,_,_,_,_,_,_,H,rfl,h65⟩
 refine T8 (Sd (Sb (Zd 1 ?_)));refine Yd (Zf7 (t:=(.pair (.int .i64) (.pair (.slice 30 (.int .u32)) (.pair (.slice 9 .str) (.pair (.slice 80 (.pair .str (.pair .bool .str))) (.slice 78 (.pair .str .str))))))) (xs:=x2) 2 5 h8) ?_;rintro _ w60 ⟨b31,cs3,rfl,h66⟩;replace h66:=nf h66;refine rFi [2,3,6,7,8,9,11] ?_;refine Sd (Sa (fun env w=>∃ k3 x7 A33 c_33 x8 A34 c_34 x9 A35 c_35 x10 x11 A36 c_36 x12 cs4,Q123.l2 k3 a0 a1 x7 x8 x9 x10 x11 x12=some r/\env=[(2,.pointer (some ⟨b1,0,none⟩)),(3,.pointer (some ⟨b2,0,none⟩)),(6,.slice A33 x7.length c_33),(7,.slice A34 x8.length c_34),(8,.slice A35 x9.length c_35),(9,.int .i64 x10),(11,.slice A36 x11.length c_36),(88,.bool x12)]/\St w0 F0 [zX23 b1 a0,X28 b2 a1.1 A1 c_1 a1.2.1 A2 c_2 a1.2.2.1 A3 c_3 a1.2.2.2 A4 c_4,O9 x8 A34 c_34,O9 x9 A35 c_35,N47 x11 A36 c_36 cs4] [R78 a1.1 A1 c_1,R80 a1.2.1 A2 c_2,R5 a1.2.2.1 A3 c_3,R5 a1.2.2.2 A4 c_4,V47 x11 cs4] w/\k3<=k2) ?_ ?_)
 ·refine T5 ?_;have h163:=(sOR h66 [1,1,1,1,0] [1,2,3,4,0]);refine T9 (fun kk env w=>∃ x13 A39 c_39 x14 A40 c_40 x15 A41 c_41 x16 x17 A42 c_42 cs6,Q123.l3 kk a0 a1 x13 x14 x15 x16 x17=some r/\env=[(2,.pointer (some ⟨b1,0,none⟩)),(3,.pointer (some ⟨b2,0,none⟩)),(6,.slice A39 x13.length c_39),(7,.slice A40 x14.length c_40),(8,.slice A41 x15.length c_41),(9,.int .i64 x16),(11,.slice A42 x17.length c_42)]/\St w0 F0 [zX23 b1 a0,X28 b2 a1.1 A1 c_1 a1.2.1 A2 c_2 a1.2.2.1 A3 c_3 a1.2.2.2 A4 c_4,O9 x14 A40 c_40,O9 x15 A41 c_41,N47 x17 A42 c_42 cs6] [R78 a1.1 A1 c_1,R80 a1.2.1 A2 c_2,R5 a1.2.2.1 A3 c_3,R5 a1.2.2.2 A4 c_4,V47 x17 cs6] w/\kk<=k2) (k:=k2) ⟨_,_,_,_,_,_,_,_,_,_,_,_,_,_,H,rfl,h163,Sf _⟩ ?_;rintro k4 env w68 ⟨x13,A39,c_39,x14,A40,c_40,x15,A41,c_41,x16,x17,A42,c_42,cs6,H,rfl,h78,hk4⟩;rcases k4 with _ | k4
  ·exact z0 H
  rw [Q123.l3] at H;refine Sd (Sd (Sa (fun env w=>∃ k5 x18,Q123.l4 k5 a0 a1 x13 x14 x15 x16 x17 x18=some r/\env=[(2,.pointer (some ⟨b1,0,none⟩)),(3,.pointer (some ⟨b2,0,none⟩)),(6,.slice A39 x13.length c_39),(7,.slice A40 x14.length c_40),(8,.slice A41 x15.length c_41),(9,.int .i64 x16),(11,.slice A42 x17.length c_42),(88,.bool x18)]/\St w0 F0 [zX23 b1 a0,X28 b2 a1.1 A1 c_1 a1.2.1 A2 c_2 a1.2.2.1 A3 c_3 a1.2.2.2 A4 c_4,O9 x14 A40 c_40,O9 x15 A41 c_41,N47 x17 A42 c_42 cs6] [R78 a1.1 A1 c_1,R80 a1.2.1 A2 c_2,R5 a1.2.2.1 A3 c_3,R5 a1.2.2.2 A4 c_4,V47 x17 cs6] w/\k5<=k4) ?_ ?_))
  ·refine Sb (Zd 4 ?_);refine Z4 84 H (fun c8 H=>?_) fun c8 H=>?_
   ·refine rFi [2,3,6,7,8,9,11,88] ?_;have h161:=(sOR h78 [0,0,0,0,0] [0,1,2,3,4]);exact ⟨k4,_,H,rfl,h161,Sf _⟩
   refine rFi [2,3,6,7,8,9,11,88] ?_;have h162:=(sOR h78 [0,0,0,0,0] [0,1,2,3,4]);exact ⟨k4,_,H,rfl,h162,Sf _⟩
  rintro env w70 ⟨k5,x18,H,rfl,h79,hk5⟩;rcases k5 with _ | k5
  ·exact z0 H
  rw [Q123.l4] at H;refine jIf H (fun c4 H=>?_) fun c4 H=>?_
  ·refine Se (T5 (Sd (Sb (rB (Zhj (.pair (.int .i64) (.pair (.slice 30 (.int .u32)) (.pair (.slice 9 .str) (.pair (.slice 80 (.pair .str (.pair .bool .str))) (.slice 78 (.pair .str .str)))))) h79) fun b34 w71 h80=>?_))));refine rFi [2,3,6,7,8,9,11,12] ?_;refine Sd (Sb (rB (Zu .str [] h80) fun b35 w72 h81=>?_));refine rB (Zu .str [] h81) fun b36 w73 h82=>?_;refine rFi [2,3,6,7,8,9,11,12,13,14] ?_;refine Sd (Sd (Za [2,3,6,7,8,9,11,12,13,14,15] ?_));refine Sa (fun env w=>∃ k6 x19 x20 A43 c_43 x21 A44 c_44 x22 A45 c_45 x23 x24 cs7,Q123.l5 k6 a0 a1 x17 x19 x20 x21 x22 x23 x24=some r/\env=[(2,.pointer (some ⟨b1,0,none⟩)),(3,.pointer (some ⟨b2,0,none⟩)),(6,.slice A39 x13.length c_39),(7,.slice A40 x14.length c_40),(8,.slice A41 x15.length c_41),(9,.int .i64 x19),(11,.slice A42 x17.length c_42),(12,.slice A43 x20.length c_43),(13,.slice A44 x21.length c_44),(14,.slice A45 x22.length c_45),(15,.int .i64 x23),(95,.bool x24)]/\St w0 F0 [zX23 b1 a0,X28 b2 a1.1 A1 c_1 a1.2.1 A2 c_2 a1.2.2.1 A3 c_3 a1.2.2.2 A4 c_4,O9 x14 A40 c_40,O9 x15 A41 c_41,N47 x17 A42 c_42 cs6,M42 x20 A43 c_43 cs7,O9 x21 A44 c_44,O9 x22 A45 c_45] [R78 a1.1 A1 c_1,R80 a1.2.1 A2 c_2,R5 a1.2.2.1 A3 c_3,R5 a1.2.2.2 A4 c_4,V47 x17 cs6,E42 x20 cs7] w/\k6<=k5) ?_ ?_
   ·refine T5 ?_;have h159:=(sOR h82 [3,3,3,3,3,2,1,0] [1,2,3,4,5,0]);refine T9 (fun kk env w=>∃ x25 x26 A47 c_47 x27 A48 c_48 x28 A49 c_49 x29 cs10,Q123.l6 kk a0 a1 x13 x14 x15 x17 x25 x26 x27 x28 x29=some r/\env=[(2,.pointer (some ⟨b1,0,none⟩)),(3,.pointer (some ⟨b2,0,none⟩)),(6,.slice A39 x13.length c_39),(7,.slice A40 x14.length c_40),(8,.slice A41 x15.length c_41),(9,.int .i64 x25),(11,.slice A42 x17.length c_42),(12,.slice A47 x26.length c_47),(13,.slice A48 x27.length c_48),(14,.slice A49 x28.length c_49),(15,.int .i64 x29)]/\St w0 F0 [zX23 b1 a0,X28 b2 a1.1 A1 c_1 a1.2.1 A2 c_2 a1.2.2.1 A3 c_3 a1.2.2.2 A4 c_4,O9 x14 A40 c_40,O9 x15 A41 c_41,N47 x17 A42 c_42 cs6,M42 x26 A47 c_47 cs10,O9 x27 A48 c_48,O9 x28 A49 c_49] [R78 a1.1 A1 c_1,R80 a1.2.1 A2 c_2,R5 a1.2.2.1 A3 c_3,R5 a1.2.2.2 A4 c_4,V47 x17 cs6,E42 x26 cs10] w/\kk<=k5) (k:=k5) ⟨_,_,_,_,_,_,_,_,_,_,_,_,H,rfl,h159,Sf _⟩ ?_;rintro k7 env w78 ⟨x25,x26,A47,c_47,x27,A48,c_48,x28,A49,c_49,x29,cs10,H,rfl,h88,hk7⟩;rcases k7 with _ | k7
    ·exact z0 H
    rw [Q123.l6] at H;refine Sd (Sd (Za [2,3,6,7,8,9,11,12,13,14,15,95] ?_));refine jIf H (fun c5 H=>?_) fun c5 H=>?_
    ·refine Se (T5 (Sd (Sb (rRL 4 1 h88 ?_))));refine rRL 2 0 h88 ?_;refine cS H [] h88 rfl Q125.spec (gS [8,9,10,11]) fun r5 w79 H h89=>?_;refine rFi [2,3,6,7,8,9,11,12,13,14,15,16] ?_;refine Sd (Za [2,3,6,7,8,9,11,12,13,14,15,16] ?_);refine Sd (Sb (Zd 3 ?_));refine rB (Z9 h89) fun b38 w80 h90=>?_;refine rS (Zr 0 h90) fun _ w81 h91=>?_;refine rFi [2,3,6,7,8,9,11,12,13,14,15,16,17] ?_;refine Sd (Sd (Za [2,3,6,7,8,9,11,12,13,14,15,16,17,18] ?_));refine Sa (fun env w=>∃ k8 x30 A50 c_50 x31 A51 c_51 x32 x33,Q123.l7 k8 a0 a1 r5 x13 x14 x15 x17 x25 x26 x27 x28 x29 x30 x31 x32 x33=some r/\env=[(2,.pointer (some ⟨b1,0,none⟩)),(3,.pointer (some ⟨b2,0,none⟩)),(6,.slice A39 x13.length c_39),(7,.slice A40 x14.length c_40),(8,.slice A41 x15.length c_41),(9,.int .i64 (w64 (x25+1))),(11,.slice A42 x17.length c_42),(12,.slice A47 x26.length c_47),(13,.slice A48 x27.length c_48),(14,.slice A49 x28.length c_49),(15,.int .i64 x29),(16,.int .i64 (mnI (mxI r5 2) (w64 ((x13.length:Int) - x29)))),(17,.pointer (some ⟨b38,0,none⟩)),(18,.int .i64 x32),(114,.bool x33)]/\St w0 F0 [zX23 b1 a0,X28 b2 a1.1 A1 c_1 a1.2.1 A2 c_2 a1.2.2.1 A3 c_3 a1.2.2.2 A4 c_4,X42 b38 (x17.length:Int) x30 A50 c_50 x31 A51 c_51 [] none 0 [] none 0,O9 x14 A40 c_40,O9 x15 A41 c_41,N47 x17 A42 c_42 cs6,M42 x26 A47 c_47 cs10,O9 x27 A48 c_48,O9 x28 A49 c_49,O30 x30 A50 c_50,O9 x31 A51 c_51] [R78 a1.1 A1 c_1,R80 a1.2.1 A2 c_2,R5 a1.2.2.1 A3 c_3,R5 a1.2.2.2 A4 c_4,V47 x17 cs6,E42 x26 cs10] w/\k8<=k7) ?_ ?_
     ·refine T5 ?_;have h155:=h91.addNil 30 (.int .u32);have h156:=h155.addNil 9 .str;have h157:=(sOR h156 [3,3,2,2,2,2,2,2,2,1,0] [0,1,2,3,4,5]);refine T9 (fun kk env w=>∃ x34 A73 c_73 x35 A74 c_74 x36,Q123.l8 kk a0 a1 r5 x13 x14 x15 x17 x25 x26 x27 x28 x29 x34 x35 x36=some r/\env=[(2,.pointer (some ⟨b1,0,none⟩)),(3,.pointer (some ⟨b2,0,none⟩)),(6,.slice A39 x13.length c_39),(7,.slice A40 x14.length c_40),(8,.slice A41 x15.length c_41),(9,.int .i64 (w64 (x25+1))),(11,.slice A42 x17.length c_42),(12,.slice A47 x26.length c_47),(13,.slice A48 x27.length c_48),(14,.slice A49 x28.length c_49),(15,.int .i64 x29),(16,.int .i64 (mnI (mxI r5 2) (w64 ((x13.length:Int) - x29)))),(17,.pointer (some ⟨b38,0,none⟩)),(18,.int .i64 x36)]/\St w0 F0 [zX23 b1 a0,X28 b2 a1.1 A1 c_1 a1.2.1 A2 c_2 a1.2.2.1 A3 c_3 a1.2.2.2 A4 c_4,X42 b38 (x17.length:Int) x34 A73 c_73 x35 A74 c_74 [] none 0 [] none 0,O9 x14 A40 c_40,O9 x15 A41 c_41,N47 x17 A42 c_42 cs6,M42 x26 A47 c_47 cs10,O9 x27 A48 c_48,O9 x28 A49 c_49,O30 x34 A73 c_73,O9 x35 A74 c_74] [R78 a1.1 A1 c_1,R80 a1.2.1 A2 c_2,R5 a1.2.2.1 A3 c_3,R5 a1.2.2.2 A4 c_4,V47 x17 cs6,E42 x26 cs10] w/\kk<=k7) (k:=k7) ⟨_,_,_,_,_,_,_,H,rfl,h157,Sf _⟩ ?_;rintro k9 env w129 ⟨x34,A73,c_73,x35,A74,c_74,x36,H,rfl,h142,hk9⟩;rcases k9 with _ | k9
      ·exact z0 H
      rw [Q123.l8] at H;refine Sd (Sd (Za [2,3,6,7,8,9,11,12,13,14,15,16,17,18,114] ?_));refine jIf H (fun c6 H=>?_) fun c6 H=>?_
      ·refine Se (Sd (T5 (Sd (Sb (rRL 1 2 h142 ?_)))));refine Zd 5 ?_;refine rB (Zu (.int .u32) [(uD.wrap ((w64 ((w64 (x29+x36))+1))))] h142) fun b62 w130 h143=>?_;obtain ⟨p23,H⟩:=Zp H;refine rA (Zt 10 h143 (gO 0) p23) fun A75 c_75 w131 h144=>?_;refine Zd 1 ?_;refine rS (Zr 4 h144) fun _ w132 h145=>?_;refine rFi [2,3,6,7,8,9,11,12,13,14,15,16,17,18] ?_;refine Sd (Za [2,3,6,7,8,9,11,12,13,14,15,16,17,18,128] ?_);refine jIf H (fun c7 H=>?_) fun c7 H=>?_
       ·refine Sd (jH h145 fun h146=>?_);refine Zq [0,1,2,3,4,7,8,9,10] ?_;refine hI 5 H h146 (gO 6) fun p24 p25 e10 H=>?_;refine Zc 6 rfl (Zb 0 wI (gO 6) p24 p25) ?_;refine hI 11 H h146 (gO 5) fun p26 p27 e11 H=>?_;refine Zc 12 rfl (Zb 0 wI (gO 5) p26 p27) ?_;refine cSJ 13 rfl H [] h146 rfl Q134.spec Zk 0 fun r6 w133 H h147=>?_;refine hRF [14,15,16,17,18] [2,3,6,7,8,9,11,12,13,14,15,16,17,18,19] ?_;refine Sb (rRL 1 0 h147 ?_);refine Zd 1 ?_;refine rB (Zu .str [r6.1] h147) fun b63 w134 h148=>?_;obtain ⟨p28,H⟩:=Zp H;refine rA (Zt 12 h148 (gO 0) p28) fun A76 c_76 w135 h149=>?_;refine Zd 1 ?_;refine rS (Zr 2 h149) fun _ w136 h150=>?_;refine rFi [2,3,6,7,8,9,11,12,13,14,15,16,17,18] ?_;have h151:=nO h150 [0,0,1,2,2,2,2,2,2,2,2];refine Za [2,3,6,7,8,9,11,12,13,14,15,16,17,18] ?_;have h152:=(sOR h151 [3,3,0,2,2,2,2,2,2,1,0] [0,1,2,3,4,5]);exact ⟨k9,by omega,_,_,_,_,_,_,_,H,rfl,h152,by omega⟩
       refine Se (Za [2,3,6,7,8,9,11,12,13,14,15,16,17,18] ?_);have h153:=(sOR h145 [3,3,0,2,2,2,2,2,2,0,1] [0,1,2,3,4,5]);exact ⟨k9,by omega,_,_,_,_,_,_,_,H,rfl,h153,by omega⟩
      refine T8 ?_;have h154:=(sOR h142 [0,0,0,0,0,0,0,0,0,0,0] [0,1,2,3,4,5]);exact ⟨k9,_,_,_,_,_,_,_,_,H,rfl,h154,by omega⟩
     rintro env w83 ⟨k8,x30,A50,c_50,x31,A51,c_51,x32,x33,H,rfl,h92,hk8⟩;rcases k8 with _ | k8
     ·exact z0 H
     rw [Q123.l7] at H;refine Sd (Sb (rRL 1 2 h92 ?_));have h93:=h92.freeze (k:=9) rfl Yj;have h94:=h93.freeze (k:=9) rfl Yj;refine Yd (Zb8 (.pair (.int .i64) (.pair (.slice 30 (.int .u32)) (.pair (.slice 9 .str) (.pair (.slice 80 (.pair .str (.pair .bool .str))) (.slice 78 (.pair .str .str)))))) [((x17.length:Int),x30,x31,[],[])] h94 (Zd7 ⟨_,_,rfl,(V2 rfl _),⟨_,_,rfl,(.inl (Zf 1)),⟨_,_,rfl,(.inl (Zf 0)),⟨_,_,rfl,(.inr Ua),(.inr Ua)⟩⟩⟩⟩ Zgn)) ?_;rintro _ w84 ⟨b39,rfl,h95⟩;replace h95:=nf h95;obtain ⟨p16,H⟩:=Zp H;refine Yd (Zhi 6 8 0 h95 p16) ?_;rintro _ w85 ⟨A52,c_52,cs11,rfl,h96⟩;replace h96:=nf h96;refine rFi [2,3,6,7,8,9,11,12,13,14,15,16] ?_;refine Sd ?_;obtain ⟨⟨p17,p18⟩,H⟩:=Zp H;obtain ⟨⟨p19,p20⟩,H⟩:=Zp H;obtain ⟨p21,H⟩:=Zp H;obtain ⟨p22,H⟩:=Zp H;refine Sa (fun env w=>∃(A53:_) (c_53:_) (A54:_) (c_54:_),env=[(2,.pointer (some ⟨b1,0,none⟩)),(3,.pointer (some ⟨b2,0,none⟩)),(6,.slice A39 x13.length c_39),(7,.slice A40 x14.length c_40),(8,.slice A41 x15.length c_41),(9,.int .i64 (w64 (x25+1))),(11,.slice A42 x17.length c_42),(12,.slice A52 (x26 ++ [((x17.length:Int),x30,x31,[],[])]).length c_52),(13,.slice A53 (x27 ++ [(gt x14 x29)]).length c_53),(14,.slice A54 (x28 ++ [(gt x15 (w64 ((w64 (x29+(mnI (mxI r5 2) (w64 ((x13.length:Int) - x29))))) - 1)))]).length c_54),(15,.int .i64 x29),(16,.int .i64 (mnI (mxI r5 2) (w64 ((x13.length:Int) - x29))))]/\St w0 F0 [O9 (x27 ++ [(gt x14 x29)]) A53 c_53,O9 (x28 ++ [(gt x15 (w64 ((w64 (x29+(mnI (mxI r5 2) (w64 ((x13.length:Int) - x29))))) - 1)))]) A54 c_54,M42 (x26 ++ [((x17.length:Int),x30,x31,[],[])]) A52 c_52 cs11,zX23 b1 a0,X28 b2 a1.1 A1 c_1 a1.2.1 A2 c_2 a1.2.2.1 A3 c_3 a1.2.2.2 A4 c_4,X42 b38 (x17.length:Int) x30 A50 c_50 x31 A51 c_51 [] none 0 [] none 0,O9 x14 A40 c_40,O9 x15 A41 c_41,N47 x17 A42 c_42 cs6] [E42 (x26 ++ [((x17.length:Int),x30,x31,[],[])]) cs11,R42 [((x17.length:Int),x30,x31,[],[])] (some ⟨b39,0,none⟩) 1,R9 x31 A51 c_51,R30 x30 A50 c_50,R78 a1.1 A1 c_1,R80 a1.2.1 A2 c_2,R5 a1.2.2.1 A3 c_3,R5 a1.2.2.2 A4 c_4,V47 x17 cs6,E42 x26 cs10] w) ?_ ?_
     ·refine Zs (sO h96 [1,1,1]) ?_;have h101:=h96.drew;refine Zq [0,1,2,7,8,9,10,11,12] ?_;have e8:=J9 h101.wh (gO 4) p17 p18;refine Zc 3 rfl (Zj e8 p17 p18) ?_;refine HJ.more ⟨[_,_,_,_,_],(sO h101 [0,4,4,4,4,3,0,0,0])⟩ ?_;refine Zc 4 rfl (Zb 0 wI (gO 0) p17 p18) ?_;have e9:=J9 h101.wh (gO 5) p19 p20;refine Zc 13 rfl (Zj e9 p19 p20) ?_;refine HJ.more ⟨[_,_,_,_],(sO h101 [0,5,5,5,4,3,0,0,0])⟩ ?_;refine Zc 14 rfl (Zb 0 wI (gO 0) p19 p20) ?_;refine T4 [5,15] (i:=5) rfl rfl rfl rfl ?_;refine (Xo ?_ (Xo ?_ Uu))
      ·refine Xt 5 rfl (Zu .str [(gt x14 x29)] h101) ?_;rintro _ w117 ⟨b57,rfl,h129⟩;replace h129:=nf h129;refine ⟨⟨[_,_,_,_,_],(sO h129 [0,0,5,5,5,4,3,0,0,0])⟩,?_⟩;refine T4 [6,15] (i:=6) rfl rfl rfl rfl ?_;refine (Xo ?_ (Xo ?_ Uu))
       ·refine Xt 6 rfl (Zt 8 h129 (gO 0) p21) ?_;rintro _ w118 ⟨A67,c_67,rfl,h130⟩;replace h130:=nf h130;refine ⟨⟨[_,_,_,_,_],(sO h130 [0,0,0,5,5,4,3,0,0,0])⟩,?_⟩;refine Yi 15 rfl (Zu .str [(gt x15 (w64 ((w64 (x29+(mnI (mxI r5 2) (w64 ((x13.length:Int) - x29))))) - 1)))] h130) ?_;rintro _ w119 ⟨b58,rfl,h131⟩;replace h131:=nf h131;refine ⟨⟨[_,_,_,_,_,_],(sO h131 [0,0,0,0,5,5,4,3,0,0,0])⟩,?_⟩;refine Yi 16 rfl (Zt 10 h131 (gO 0) p22) ?_;rintro _ w120 ⟨A68,c_68,rfl,h132⟩;replace h132:=nf h132;refine ⟨⟨[_,_,_,_,_,_],(sO h132 [0,0,0,0,0,5,4,3,0,0,0])⟩,?_⟩;refine hRF [17,18] [2,3,6,7,8,9,11,12,13,14,15,16] ?_;exact Y3 ⟨A67,c_67,A68,c_68,rfl,(sOR h132 [2,0,2,2,2,2,2,2,2] [0,1,2,3,4,5,6,7,8,9])⟩
       ·refine Xt 15 rfl (Zu .str [(gt x15 (w64 ((w64 (x29+(mnI (mxI r5 2) (w64 ((x13.length:Int) - x29))))) - 1)))] h129) ?_;rintro _ w121 ⟨b59,rfl,h133⟩;replace h133:=nf h133;refine ⟨⟨[_,_,_,_,_,_],(sO h133 [0,0,0,5,5,5,4,3,0,0,0])⟩,?_⟩;refine Yi 6 rfl (Zt 9 h133 (gO 1) p21) ?_;rintro _ w122 ⟨A69,c_69,rfl,h134⟩;replace h134:=nf h134;refine ⟨⟨[_,_,_,_,_,_],(sO h134 [0,0,0,0,5,5,4,3,0,0,0])⟩,?_⟩;refine Yi 16 rfl (Zt 10 h134 (gO 1) p22) ?_;rintro _ w123 ⟨A70,c_70,rfl,h135⟩;replace h135:=nf h135;refine ⟨⟨[_,_,_,_,_,_],(sO h135 [0,0,0,0,0,5,4,3,0,0,0])⟩,?_⟩;refine hRF [17,18] [2,3,6,7,8,9,11,12,13,14,15,16] ?_;exact Y3 ⟨A69,c_69,A70,c_70,rfl,(sOR h135 [1,0,2,2,2,2,2,2,2] [0,1,2,3,4,5,6,7,8,9])⟩
      ·refine Xt 15 rfl (Zu .str [(gt x15 (w64 ((w64 (x29+(mnI (mxI r5 2) (w64 ((x13.length:Int) - x29))))) - 1)))] h101) ?_;rintro _ w124 ⟨b60,rfl,h136⟩;replace h136:=nf h136;refine ⟨⟨[_,_,_,_,_],(sO h136 [0,0,5,5,5,4,3,0,0,0])⟩,?_⟩;refine Yi 5 rfl (Zu .str [(gt x14 x29)] h136) ?_;rintro _ w125 ⟨b61,rfl,h137⟩;replace h137:=nf h137;refine ⟨⟨[_,_,_,_,_,_],(sO h137 [0,0,0,5,5,5,4,3,0,0,0])⟩,?_⟩;refine Yi 6 rfl (Zt 9 h137 (gO 0) p21) ?_;rintro _ w126 ⟨A71,c_71,rfl,h138⟩;replace h138:=nf h138;refine ⟨⟨[_,_,_,_,_,_],(sO h138 [0,0,0,0,5,5,4,3,0,0,0])⟩,?_⟩;refine Yi 16 rfl (Zt 10 h138 (gO 2) p22) ?_;rintro _ w127 ⟨A72,c_72,rfl,h139⟩;replace h139:=nf h139;refine ⟨⟨[_,_,_,_,_,_],(sO h139 [0,0,0,0,0,5,4,3,0,0,0])⟩,?_⟩;refine hRF [17,18] [2,3,6,7,8,9,11,12,13,14,15,16] ?_;exact Y3 ⟨A71,c_71,A72,c_72,rfl,(sOR h139 [1,0,2,2,2,2,2,2,2] [0,1,2,3,4,5,6,7,8,9])⟩
     rintro env w128 ⟨A53,c_53,A54,c_54,rfl,h140⟩;refine Za [2,3,6,7,8,9,11,12,13,14,15] ?_;have h141:=(sOR h140 [3,3,4,4,4,2,0,0] [4,5,6,7,8,0]);exact ⟨k8,by omega,_,_,_,_,_,_,_,_,_,_,_,_,H,rfl,h141,by omega⟩
    refine T8 ?_;have h158:=(sOR h88 [0,0,0,0,0,0,0,0] [0,1,2,3,4,5]);exact ⟨k7,_,_,_,_,_,_,_,_,_,_,_,_,_,H,rfl,h158,by omega⟩
   rintro env w75 ⟨k6,x19,x20,A43,c_43,x21,A44,c_44,x22,A45,c_45,x23,x24,cs7,H,rfl,h83,hk6⟩;rcases k6 with _ | k6
   ·exact z0 H
   rw [Q123.l5] at H;refine Sd (Za [2,3,6,7,8,9,11] ?_);have h84:=nO h83 [0,0,2,2,2,2];refine Sb (Zd 2 ?_);refine Yd (Zf7 (t:=(.pair (.int .i64) (.pair (.slice 30 (.int .u32)) (.pair (.slice 9 .str) (.pair (.slice 80 (.pair .str (.pair .bool .str))) (.slice 78 (.pair .str .str))))))) (xs:=x20) 3 5 h84) ?_;rintro _ w76 ⟨b37,cs8,rfl,h85⟩;replace h85:=nf h85;obtain ⟨p15,H⟩:=Zp H;refine Yd (Zm3 3 0 5 0 h85 p15) ?_;rintro _ w77 ⟨A46,c_46,cs9,rfl,h86⟩;replace h86:=nf h86;refine rFi [2,3,6,7,8,9,11] ?_;have h87:=(sOR h86 [1,1,1,1,0] [2,3,4,5,0]);exact ⟨k6,by omega,_,_,_,_,_,_,_,_,_,_,_,_,_,_,H,rfl,h87,by omega⟩
  refine T8 ?_;have h160:=(sOR h79 [0,0,0,0,0] [0,1,2,3,4]);exact ⟨k5,_,_,_,_,_,_,_,_,_,_,_,_,_,_,_,H,rfl,h160,by omega⟩
 rintro env w62 ⟨k3,x7,A33,c_33,x8,A34,c_34,x9,A35,c_35,x10,x11,A36,c_36,x12,cs4,H,rfl,h67,hk3⟩;rcases k3 with _ | k3
 ·exact z0 H
 rw [Q123.l2] at H;refine Sd (Sd (Za [2,3,11,185] ?_));have h68:=nO h67 [0,0,2];refine jIf H (fun c3 H=>?_) fun c3 H=>?_
 ·refine Sd (Sb (Zd 1 ?_));refine Yd (Zb8 (.pair (.int .i64) (.pair (.slice 30 (.int .u32)) (.pair (.slice 9 .str) (.pair (.slice 80 (.pair .str (.pair .bool .str))) (.slice 78 (.pair .str .str)))))) [(0,[],[],[],[])] h68 (Zd7 ⟨_,_,rfl,(V2 rfl _),⟨_,_,rfl,(.inr Ua),⟨_,_,rfl,(.inr Ua),⟨_,_,rfl,(.inr Ua),(.inr Ua)⟩⟩⟩⟩ Zgn)) ?_;rintro _ w63 ⟨b32,rfl,h69⟩;replace h69:=nf h69;refine Yd (Zb8 (.slice 42 (.pair (.int .i64) (.pair (.slice 30 (.int .u32)) (.pair (.slice 9 .str) (.pair (.slice 80 (.pair .str (.pair .bool .str))) (.slice 78 (.pair .str .str))))))) [[(0,[],[],[],[])]] h69 (Zd7 (.inl (Zf 0)) Zgn)) ?_;rintro _ w65 ⟨b33,rfl,h70⟩;replace h70:=nf h70;refine rFi [4] ?_;have h71:=nO h70 [];cases H;exact Sc (jRA ⟨_,_,rfl,rfl,rfl⟩ (sOR h71 [] [0]))
 refine Se (Sd (Zs (sO h68 [0,0]) ?_));have h72:=h68.drew;refine Zq [0,4,6] ?_;refine Zc 1 rfl (Ze 0 wI) ?_;refine Zc 2 rfl (Ze 1 wI) ?_;refine Zc 5 rfl (Ze 1 wI) ?_;refine Zc 7 rfl (Ze 0 wI) ?_;refine cEJ 3 rfl H [] h72 rfl Q127.spec (gS [3,4,5,6]) ?_;rintro r3 w66 _ _ H ⟨A37,c_37,rfl,rfl⟩ h73;replace h73:=nf h73;refine ⟨⟨[_,_],(sO h73 [0,2,0,0])⟩,?_⟩;have h74:=h73.freeze (k:=0) rfl Yj;obtain ⟨r4,q4,H⟩:=Yc H;refine Yi 8 rfl (Zy [2] (Q145.spec q4) h74 rfl (gS [5,0,3])) ?_;rintro _ w67 ⟨_,_,⟨A38,c_38,cs5,rfl,rfl,rfl⟩,h75⟩;replace h75:=nf h75;refine ⟨⟨[_],(Uy h75 [2,3,4,5,6])⟩,?_⟩;refine hRF [9] [4] ?_;have h76:=nO h75 [0];have h77:=St.nestFreeze 0 0 h76;cases H;exact Sc (jRA ⟨_,_,rfl,rfl,rfl⟩ (sOR h77 [] [0]))

def Q85.f (a0:Ti):Option (Int):=some 0
theorem Q85.spec {a0 b1 b2 b3 b4 b5 b6 b7 A1 c_1 A2 c_2 A3 c_3 A4 c_4 A5 c_5 r} (H:Q85.f a0=some r) :
  Spec prog 107 [.pointer (some ⟨b1,0,none⟩)] (Wq a0 b1 b2 b3 b4 b5 b6 b7 A1 A2 A3 A4 A5 c_1 c_2 c_3 c_4 c_5) [] (fun v l=>v=.int .i64 r/\l=Wq a0 b1 b2 b3 b4 b5 b6 b7 A1 A2 A3 A4 A5 c_1 c_2 c_3 c_4 c_5):=by
 refine eN Tryz.func107 fun w0 F0 h0=>?_;unfold Q85.f at H;refine Sd (Za [0] ?_);refine Sd (Sd (Sb (rRL 6 0 h0 ?_)));refine rFi [11] ?_;refine Zz ?_;refine Se (Sd (Za [2] ?_));cases H;exact Sc (jR0 h0 [0,0,0,0,0,0,0,0,0,0,0,0])

def Q59.f:Option (TE):=some ([],[],true)
theorem Q59.spec {r} (H:Q59.f=some r) :
  Spec prog 33 [] [] [] (fun v l=>v=.agg #[.string ⟨⟨r.1⟩⟩,.string ⟨⟨r.2.1⟩⟩,.bool r.2.2]/\l=[]):=by
 refine Zg Tryz.func33 fun w0 F0 h0=>?_;unfold Q59.f at H;refine Sd (Sb (rB (Z9 h0) fun b1 w1 h1=>?_));refine rFi [0] ?_;refine Sd (Sb (Zd 1 ?_));refine rS (Zr 0 h1) fun _ w2 h2=>?_;refine rFi [0] ?_;cases H;exact Sc (jR2 (Yb (Sj Yy 0 h2 rfl rfl rfl rfl) Xu) ⟨rfl,rfl⟩ h2 [])

def Q13.f (a0:TY) (a1:TY):Option (Int):=some (Xm a0 a1)
theorem Q13.spec {a0 a1 r} (H:Q13.f a0 a1=some r) :
  Spec prog 198 [.string ⟨⟨a0⟩⟩,.string ⟨⟨a1⟩⟩] [] [] (fun v l=>v=.int .i64 r/\l=[]):=by
 refine Zg Tryz.func198 fun w0 F0 h0=>?_;unfold Q13.f at H;refine Sd (Za [0,1] ?_);refine Sd (Sb (Zd 2 ?_));refine Zh (Zgy Zqv) ?_;refine rFi [4] ?_;cases H;exact Sc (jR0 h0 [])

def Q147.f (a0:TY) (a1:TY):Option (Int):=(Q13.f a0 a1).bind fun r1=>(some r1)
theorem Q147.spec {a0 a1 r} (H:Q147.f a0 a1=some r) :
  Spec prog 197 [.string ⟨⟨a0⟩⟩,.string ⟨⟨a1⟩⟩] [] [] (fun v l=>v=.int .i64 r/\l=[]):=by
 refine Zg Tryz.func197 fun w0 F0 h0=>?_;unfold Q147.f at H;refine Sd (Za [0,1] ?_);refine Sd (Sb (Zd 2 ?_));refine cS H [] h0 rfl Q13.spec Zk fun r1 w1 H h1=>?_;refine rFi [4] ?_;cases H;exact Sc (jR0 h1 [])

def Q60.f (a0:TY) (a1:TY):Option (Int):=(Q147.f a0 a1).bind fun r1=>(some r1)
theorem Q60.spec {a0 a1 r} (H:Q60.f a0 a1=some r) :
  Spec prog 190 [.string ⟨⟨a0⟩⟩,.string ⟨⟨a1⟩⟩] [] [] (fun v l=>v=.int .i64 r/\l=[]):=by
 refine Zg Tryz.func190 fun w0 F0 h0=>?_;unfold Q60.f at H;refine Sd (Za [0,1] ?_);refine Sd (Sb (Zd 2 ?_));refine cS H [] h0 rfl Q147.spec Zk fun r1 w1 H h1=>?_;refine rFi [4] ?_;cases H;exact Sc (jR0 h1 [])

def Q58.l0:Nat->TD->(Int)->Option (Bool)
 | 0,_,_=>none
 | k+1,a0,x1=>if (decide (x1<(w64 ((a0.length:Int) - 1))))=true then (if 0<=x1/\x1<(a0.length:Int) then (if 0<=(w64 (x1+1))/\(w64 (x1+1))<(a0.length:Int) then ((Q60.f ((gt a0 x1).1) ((gt a0 (w64 (x1+1))).1)).bind fun r1=>(if (decide (0<=r1))=true then (some false) else (Q58.l0 k a0 (w64 (x1+1))))) else none) else none) else (some true)
def Q58.f (k:Nat) (a0:TD):Option (Bool):=Q58.l0 k a0 0
theorem Q58.spec {k a0 A1 c_1 r} (H:Q58.f k a0=some r) :
  Spec prog 163 [.slice A1 a0.length c_1] [] [R78 a0 A1 c_1] (fun v l=>v=.bool r/\l=[]):=by
 refine Zg Tryz.func163 fun w0 F0 h0=>?_;unfold Q58.f at H;refine Sd (Za [0] ?_);refine Sd (Sd (Za [0,6,7] ?_));refine T5 ?_;have h5:=(sOR h0 [] [0]);refine T9 (fun kk env w=>∃ x1,Q58.l0 kk a0 x1=some r/\env=[(0,.slice A1 a0.length c_1),(6,.int .i64 (w64 ((a0.length:Int) - 1))),(7,.int .i64 x1)]/\St w0 F0 [] [R78 a0 A1 c_1] w) (k:=k) ⟨_,H,rfl,h5⟩ ?_;rintro k1 env w1 ⟨x1,H,rfl,h1⟩;rcases k1 with _ | k1
 ·exact z0 H
 rw [Q58.l0] at H;refine Sd (Za [0,6,7,8] ?_);refine Sd (jIf H (fun c1 H=>?_) fun c1 H=>?_)
 ·refine Se (Sd (T5 (Sd (Za [0,3,6,7] ?_))));refine Sd (jH h1 fun h2=>?_);refine Zq [0,1,5,6,7] ?_;refine hI 2 H h2 (Zf 0) fun p1 p2 e1 H=>?_;refine Zq [3] ?_;refine Zc 4 rfl (Zb 0 wI (Zf 0) p1 p2) ?_;refine hX 8 H e1 fun p3 p4 H=>?_;refine Zq [9] ?_;refine Zc 10 rfl (Zb 0 wI (Zf 0) p3 p4) ?_;refine cSJ 11 rfl H [] h2 rfl Q60.spec Zk 0 fun r1 w2 H h3=>?_;refine hRF [12] [0,6,7,22] ?_;refine jIf H (fun c2 H=>?_) fun c2 H=>?_
  ·refine Sd (Za [2] ?_);cases H;exact Sc (jR0 h3 [])
  refine Se (Za [0,6,7] ?_);have h4:=(sOR h3 [] [0]);exact ⟨k1,by omega,_,H,rfl,h4⟩
 refine T8 (Sd (Za [2] ?_));cases H;exact Sc (jR0 h1 [])

def Q65.f (a0:Tt) (a1:TY):Option (Bool):=if (decide (1<=(a1.length:Int)))=true then (some (decide ((a1.length:Int)<=a0.2.2.2.2.2.2.1))) else (some false)
theorem Q65.spec {a0 a1 r} (H:Q65.f a0 a1=some r) :
  Spec prog 166 [.agg (zV8 a0),.string ⟨⟨a1⟩⟩] [] [] (fun v l=>v=.bool r/\l=[]):=by
 refine Zg Tryz.func166 fun w0 F0 h0=>?_;unfold Q65.f at H;refine Sd (Sb (rB (Z1 h0) fun b1 w1 h1=>?_));refine rFi [1,2] ?_;refine Sd (Sb (Zd 4 ?_));refine Z4 8 H (fun c1 H=>?_) fun c1 H=>?_
 ·refine rRL 3 0 h1 ?_;refine rFi [4] ?_;cases H;exact Sc (jR0 h1 [])
 refine rFi [4] ?_;cases H;exact Sc (jR0 h1 [])

def Q62.f (a0:TE) (a1:TY):Option (Bool):=if (!Op.bytesLess a1 a0.1)=true then (if a0.2.2=true then (some true) else (some (Op.bytesLess a1 a0.2.1))) else (some false)
theorem Q62.spec {a0 a1 r} (H:Q62.f a0 a1=some r) :
  Spec prog 167 [.agg #[.string ⟨⟨a0.1⟩⟩,.string ⟨⟨a0.2.1⟩⟩,.bool a0.2.2],.string ⟨⟨a1⟩⟩] [] [] (fun v l=>v=.bool r/\l=[]):=by
 refine Zg Tryz.func167 fun w0 F0 h0=>?_;unfold Q62.f at H;refine Sd (Sb (rB (Z1 h0) fun b1 w1 h1=>?_));refine rFi [1,2] ?_;refine Sd (Sb (rRL 2 0 h1 ?_));refine Zd 2 ?_;refine Z4 9 H (fun c1 H=>?_) fun c1 H=>?_
 ·refine rRL 1 0 h1 ?_;refine Zd 1 ?_;refine Z4 12 H (fun c2 H=>?_) fun c2 H=>?_
  ·refine rFi [4] ?_;cases H;exact Sc (jR0 h1 [])
  refine rRL 2 0 h1 ?_;refine rFi [4] ?_;cases H;exact Sc (jR0 h1 [])
 refine rFi [4] ?_;cases H;exact Sc (jR0 h1 [])

def Q72.f (a0:TL) (a1:Tt) (a2:TE):Option (Bool):=(Q65.f a1 a0.1).bind fun r1=>(if (!r1)=true then (some true) else ((Q62.f a2 a0.1).bind fun r2=>(if (!r2)=true then (some true) else (some (decide (a1.2.2.2.2.2.2.2<(a0.2.length:Int)))))))
theorem Q72.spec {a0 a1 a2 b1 b2 r} (H:Q72.f a0 a1 a2=some r) :
  Spec prog 165 [.agg #[.string ⟨⟨a0.1⟩⟩,.string ⟨⟨a0.2⟩⟩],.pointer (some ⟨b1,0,none⟩),.pointer (some ⟨b2,0,none⟩)] [zX23 b1 a1,X44 b2 a2.1 a2.2.1 a2.2.2] [] (fun v l=>v=.bool r/\l=[zX23 b1 a1,X44 b2 a2.1 a2.2.1 a2.2.2]):=by
 refine Zg Tryz.func165 fun w0 F0 h0=>?_;unfold Q72.f at H;refine Sd (Sb (rB (Z1 h0) fun b3 w1 h1=>?_));refine rFi [1,2,3] ?_;refine Sd (Sb (rLo 1 h1 ?_));refine rRL 1 0 h1 ?_;refine cS H [] h1 rfl Q65.spec Zk fun r1 w2 H h2=>?_;refine Zd 2 ?_;refine Z4 10 H (fun c1 H=>?_) fun c1 H=>?_
 ·refine rFi [4] ?_;cases H;exact Sc (jR0 h2 [1,1])
 refine rLo 2 h2 ?_;refine rRL 1 0 h2 ?_;refine cS H [] h2 rfl Q62.spec Zk fun r2 w3 H h3=>?_;refine Zd 3 ?_;refine Z4 17 H (fun c2 H=>?_) fun c2 H=>?_
 ·refine rFi [4] ?_;cases H;exact Sc (jR0 h3 [1,1])
 refine rRL 1 0 h3 ?_;refine rRL 2 1 h3 ?_;refine rFi [4] ?_;cases H;exact Sc (jR0 h3 [1,1])

def Q100.l0:Nat->TD->Tt->TE->(Int)->Option (Int)
 | 0,_,_,_,_=>none
 | k+1,a0,a2,a3,x1=>if (decide (x1<(a0.length:Int)))=true then (if 0<=x1/\x1<(a0.length:Int) then ((Q72.f (gt a0 x1) a2 a3).bind fun r1=>(if r1=true then (some x1) else (Q100.l0 k a0 a2 a3 (w64 (x1+1))))) else none) else (some (-1))
def Q100.f (k:Nat) (a0:TD) (a2:Tt) (a3:TE):Option (Int):=Q100.l0 k a0 a2 a3 0
theorem Q100.spec {k a0 a2 a3 A1 c_1 b1 b2 r} (H:Q100.f k a0 a2 a3=some r) :
  Spec prog 191 [.slice A1 a0.length c_1,.func (.func 165) #[] #[.pointer (some ⟨b1,0,none⟩),.pointer (some ⟨b2,0,none⟩)]] [zX23 b1 a2,X44 b2 a3.1 a3.2.1 a3.2.2] [R78 a0 A1 c_1] (fun v l=>v=.int .i64 r/\l=[zX23 b1 a2,X44 b2 a3.1 a3.2.1 a3.2.2]):=by
 refine Zg Tryz.func191 fun w0 F0 h0=>?_;unfold Q100.f at H;refine Sd (Za [0,1] ?_);refine Sd (Sd (Za [0,1,7,8] ?_));refine T5 ?_;have h4:=(sOR h0 [0,0] [0]);refine T9 (fun kk env w=>∃ x1,Q100.l0 kk a0 a2 a3 x1=some r/\env=[(0,.slice A1 a0.length c_1),(1,.func (.func 165) #[] #[.pointer (some ⟨b1,0,none⟩),.pointer (some ⟨b2,0,none⟩)]),(7,.int .i64 (a0.length:Int)),(8,.int .i64 x1)]/\St w0 F0 [zX23 b1 a2,X44 b2 a3.1 a3.2.1 a3.2.2] [R78 a0 A1 c_1] w) (k:=k) ⟨_,H,rfl,h4⟩ ?_;rintro k1 env w1 ⟨x1,H,rfl,h1⟩;rcases k1 with _ | k1
 ·exact z0 H
 rw [Q100.l0] at H;refine Sd (Za [0,1,7,8,9] ?_);refine Sd (jIf H (fun c1 H=>?_) fun c1 H=>?_)
 ·refine Se (Sd (T5 (Sd (Za [0,1,5,7,8] ?_))));refine Sd (Sb (Zd 3 ?_));refine rI H h1 (Zf 2) fun p1 p2 e1 H=>?_;refine Zh (Zb 0 h1.wht (Zf 2) p1 p2) ?_;obtain ⟨r1,q1,H⟩:=Yc H;refine Yd (V4 [.agg #[.string ⟨⟨(gt a0 x1).1⟩⟩,.string ⟨⟨(gt a0 x1).2⟩⟩]] [.pointer (some ⟨b1,0,none⟩),.pointer (some ⟨b2,0,none⟩)] [0,0] (Q72.spec q1) h1 rfl Zk) ?_;rintro _ w2 ⟨_,⟨rfl,rfl⟩,h2⟩;replace h2:=nf h2;refine rFi [0,1,5,7,8,16] ?_;refine jIf H (fun c2 H=>?_) fun c2 H=>?_
  ·refine Sd (Za [4] ?_);cases H;exact Sc (jR0 h2 [0,0])
  refine Se (Za [0,1,7,8] ?_);have h3:=(sOR h2 [0,0] [0]);exact ⟨k1,by omega,_,H,rfl,h3⟩
 refine T8 (Sd (Za [4] ?_));cases H;exact Sc (jR0 h1 [0,0])

def Q94.f (k:Nat) (a0:TD) (a2:Tt) (a3:TE):Option (Bool):=(Q100.f k a0 a2 a3).bind fun r1=>(some (decide (0<=r1)))
theorem Q94.spec {k a0 a2 a3 A1 c_1 b1 b2 r} (H:Q94.f k a0 a2 a3=some r) :
  Spec prog 164 [.slice A1 a0.length c_1,.func (.func 165) #[] #[.pointer (some ⟨b1,0,none⟩),.pointer (some ⟨b2,0,none⟩)]] [zX23 b1 a2,X44 b2 a3.1 a3.2.1 a3.2.2] [R78 a0 A1 c_1] (fun v l=>v=.bool r/\l=[zX23 b1 a2,X44 b2 a3.1 a3.2.1 a3.2.2]):=by
 refine Zg Tryz.func164 fun w0 F0 h0=>?_;unfold Q94.f at H;refine Sd (Za [0,1] ?_);refine Sd (Sb (Zd 2 ?_));refine cS H [0,0] h0 rfl Q100.spec (gS [0]) fun r1 w1 H h1=>?_;refine rFi [4] ?_;cases H;exact Sc (jR0 h1 [0,0])

def Q71.f (k:Nat) (a0:Tt) (a1:TE) (a2:Tq):Option (Bool):=if (decide (0<(w64 ((w64 ((a2.2.1.length:Int)+(a2.2.2.1.length:Int)))+(a2.2.2.2.1.length:Int)))))=true then (some false) else (if (decide (a0.2.2.2.2.2.1<(a2.2.2.2.2.length:Int)))=true then (some false) else ((Q58.f k a2.2.2.2.2).bind fun r1=>(if (!r1)=true then (some false) else ((Q94.f k a2.2.2.2.2 a0 a1).bind fun r2=>(some (!r2))))))
theorem Q71.spec {k a0 a1 a2 A1 c_1 A2 c_2 A3 c_3 A4 c_4 r} (H:Q71.f k a0 a1 a2=some r) :
  Spec prog 110 [.agg (zV8 a0),.agg #[.string ⟨⟨a1.1⟩⟩,.string ⟨⟨a1.2.1⟩⟩,.bool a1.2.2],.agg #[.int .i64 a2.1,.slice A1 a2.2.1.length c_1,.slice A2 a2.2.2.1.length c_2,.slice A3 a2.2.2.2.1.length c_3,.slice A4 a2.2.2.2.2.length c_4]] [] [R30 a2.2.1 A1 c_1,R9 a2.2.2.1 A2 c_2,R80 a2.2.2.2.1 A3 c_3,R78 a2.2.2.2.2 A4 c_4] (fun v l=>v=.bool r/\l=[]):=by
 refine Zg Tryz.func110 fun w0 F0 h0=>?_;unfold Q71.f at H;refine Sd (Sb (rB (Z1 h0) fun b1 w1 h1=>?_));refine rB (Z1 h1) fun b2 w2 h2=>?_;refine rB (Z1 h2) fun b3 w3 h3=>?_;refine rFi [3,4,5] ?_;refine Sd (Sd (Sb (rRL 1 0 h3 ?_)));refine rRL 2 0 h3 ?_;refine rRL 3 0 h3 ?_;refine Zd 4 ?_;refine Z4 19 H (fun c1 H=>?_) fun c1 H=>?_
 ·refine rFi [3,4,5,32] ?_;refine Zn ?_;refine Sd (Za [6] ?_);have h4:=nO h3 [];cases H;exact Sc (jR0 h4 [])
 refine rRL 1 0 h3 ?_;refine rRL 2 2 h3 ?_;refine Zd 3 ?_;refine Z4 27 H (fun c2 H=>?_) fun c2 H=>?_
 ·refine rFi [3,4,5,32] ?_;refine Zn ?_;refine Sd (Za [6] ?_);have h5:=nO h3 [];cases H;exact Sc (jR0 h5 [])
 refine rRL 1 0 h3 ?_;refine cS H [] h3 rfl Q58.spec (gS [6]) fun r1 w4 H h6=>?_;refine rFi [3,4,5,32] ?_;refine jIf H (fun c3 H=>?_) fun c3 H=>?_
 ·refine Sd (Za [6] ?_);have h7:=nO h6 [];cases H;exact Sc (jR0 h7 [])
 refine Se (Sd (Sb (rRL 1 0 h6 ?_)));refine Zd 1 ?_;refine cS H [2,1] h6 rfl Q94.spec (gS [4]) fun r2 w5 H h8=>?_;refine rFi [6] ?_;have h9:=nO h8 [];cases H;exact Sc (jR0 h9 [])

def Q91.f (a0:T2):Option T2:=if (([]:List Int).length+a0.length)*4<=140737488355328 then (some ([] ++ a0)) else none
theorem Q91.spec {a0 A1 c_1 r} (H:Q91.f a0=some r) :
  Spec prog 112 [.slice A1 a0.length c_1] [] [R30 a0 A1 c_1] (fun v l=>∃ A_0 c_0,v=.slice A_0 r.length c_0/\l=[O30 r A_0 c_0]):=by
 refine Zg Tryz.func112 fun w0 F0 h0=>?_;unfold Q91.f at H;refine Sd (Za [0] ?_);refine Sd (Sd (Za [0,4] ?_));refine U1 (fun c1=>?_) (fun c1=>?_)
 ·have e1:=h0.nilrow (Zf 0) (by simpa using c1);replace H:(some [])=some r:=by rw [e1] at H; simpa using H
  refine Sd (Za [2] ?_);have h1:=h0.addNil 30 (.int .u32);cases H;exact Sc (jR ⟨_,_,rfl,rfl⟩ h1 [0])
 refine Se (Sd (Sb (rB (Zu (.int .u32) [] h0) fun b1 w1 h2=>?_)));refine Zd 1 ?_;obtain ⟨p1,H⟩:=Zp H;refine rA (Zt 0 h2 (Zf 0) p1) fun A2 c_2 w2 h3=>?_;refine rFi [2] ?_;cases H;exact Sc (jR ⟨_,_,rfl,rfl⟩ h3 [0])

def tb0:List UInt8:=[0,1,2,2,3,3,3,3,4,4,4,4,4,4,4,4,5,5,5,5,5,5,5,5,5,5,5,5,5,5,5,5,6,6,6,6,6,6,6,6,6,6,6,6,6,6,6,6,6,6,6,6,6,6,6,6,6,6,6,6,6,6,6,6,7,7,7,7,7,7,7,7,7,7,7,7,7,7,7,7,7,7,7,7,7,7,7,7,7,7,7,7,7,7,7,7,7,7,7,7,7,7,7,7,7,7,7,7,7,7,7,7,7,7,7,7,7,7,7,7,7,7,7,7,7,7,7,7,8,8,8,8,8,8,8,8,8,8,8,8,8,8,8,8,8,8,8,8,8,8,8,8,8,8,8,8,8,8,8,8,8,8,8,8,8,8,8,8,8,8,8,8,8,8,8,8,8,8,8,8,8,8,8,8,8,8,8,8,8,8,8,8,8,8,8,8,8,8,8,8,8,8,8,8,8,8,8,8,8,8,8,8,8,8,8,8,8,8,8,8,8,8,8,8,8,8,8,8,8,8,8,8,8,8,8,8,8,8,8,8,8,8,8,8,8,8,8,8,8,8,8,8,8,8,8,8]
def Q1.f (a0:Int):Option (Int):=if (decide (4294967296<=a0))=true then (if (decide (65536<=(Int.fdiv a0 (2 ^ 32))))=true then (if (decide (256<=(Int.fdiv (Int.fdiv a0 (2 ^ 32)) (2 ^ 16))))=true then (if 0<=(uA.wrap ((Int.fdiv (Int.fdiv (Int.fdiv a0 (2 ^ 32)) (2 ^ 16)) (2 ^ 8))))/\(uA.wrap ((Int.fdiv (Int.fdiv (Int.fdiv a0 (2 ^ 32)) (2 ^ 16)) (2 ^ 8))))<(tb0.length:Int) then (some (w64 (56+(w64 ((gtb [0,1,2,2,3,3,3,3,4,4,4,4,4,4,4,4,5,5,5,5,5,5,5,5,5,5,5,5,5,5,5,5,6,6,6,6,6,6,6,6,6,6,6,6,6,6,6,6,6,6,6,6,6,6,6,6,6,6,6,6,6,6,6,6,7,7,7,7,7,7,7,7,7,7,7,7,7,7,7,7,7,7,7,7,7,7,7,7,7,7,7,7,7,7,7,7,7,7,7,7,7,7,7,7,7,7,7,7,7,7,7,7,7,7,7,7,7,7,7,7,7,7,7,7,7,7,7,7,8,8,8,8,8,8,8,8,8,8,8,8,8,8,8,8,8,8,8,8,8,8,8,8,8,8,8,8,8,8,8,8,8,8,8,8,8,8,8,8,8,8,8,8,8,8,8,8,8,8,8,8,8,8,8,8,8,8,8,8,8,8,8,8,8,8,8,8,8,8,8,8,8,8,8,8,8,8,8,8,8,8,8,8,8,8,8,8,8,8,8,8,8,8,8,8,8,8,8,8,8,8,8,8,8,8,8,8,8,8,8,8,8,8,8,8,8,8,8,8,8,8,8,8,8,8,8,8] (uA.wrap ((Int.fdiv (Int.fdiv (Int.fdiv a0 (2 ^ 32)) (2 ^ 16)) (2 ^ 8)))))))))) else none) else (if 0<=(uA.wrap ((Int.fdiv (Int.fdiv a0 (2 ^ 32)) (2 ^ 16))))/\(uA.wrap ((Int.fdiv (Int.fdiv a0 (2 ^ 32)) (2 ^ 16))))<(tb0.length:Int) then (some (w64 (48+(w64 ((gtb [0,1,2,2,3,3,3,3,4,4,4,4,4,4,4,4,5,5,5,5,5,5,5,5,5,5,5,5,5,5,5,5,6,6,6,6,6,6,6,6,6,6,6,6,6,6,6,6,6,6,6,6,6,6,6,6,6,6,6,6,6,6,6,6,7,7,7,7,7,7,7,7,7,7,7,7,7,7,7,7,7,7,7,7,7,7,7,7,7,7,7,7,7,7,7,7,7,7,7,7,7,7,7,7,7,7,7,7,7,7,7,7,7,7,7,7,7,7,7,7,7,7,7,7,7,7,7,7,8,8,8,8,8,8,8,8,8,8,8,8,8,8,8,8,8,8,8,8,8,8,8,8,8,8,8,8,8,8,8,8,8,8,8,8,8,8,8,8,8,8,8,8,8,8,8,8,8,8,8,8,8,8,8,8,8,8,8,8,8,8,8,8,8,8,8,8,8,8,8,8,8,8,8,8,8,8,8,8,8,8,8,8,8,8,8,8,8,8,8,8,8,8,8,8,8,8,8,8,8,8,8,8,8,8,8,8,8,8,8,8,8,8,8,8,8,8,8,8,8,8,8,8,8,8,8,8] (uA.wrap ((Int.fdiv (Int.fdiv a0 (2 ^ 32)) (2 ^ 16)))))))))) else none)) else (if (decide (256<=(Int.fdiv a0 (2 ^ 32))))=true then (if 0<=(uA.wrap ((Int.fdiv (Int.fdiv a0 (2 ^ 32)) (2 ^ 8))))/\(uA.wrap ((Int.fdiv (Int.fdiv a0 (2 ^ 32)) (2 ^ 8))))<(tb0.length:Int) then (some (w64 (40+(w64 ((gtb [0,1,2,2,3,3,3,3,4,4,4,4,4,4,4,4,5,5,5,5,5,5,5,5,5,5,5,5,5,5,5,5,6,6,6,6,6,6,6,6,6,6,6,6,6,6,6,6,6,6,6,6,6,6,6,6,6,6,6,6,6,6,6,6,7,7,7,7,7,7,7,7,7,7,7,7,7,7,7,7,7,7,7,7,7,7,7,7,7,7,7,7,7,7,7,7,7,7,7,7,7,7,7,7,7,7,7,7,7,7,7,7,7,7,7,7,7,7,7,7,7,7,7,7,7,7,7,7,8,8,8,8,8,8,8,8,8,8,8,8,8,8,8,8,8,8,8,8,8,8,8,8,8,8,8,8,8,8,8,8,8,8,8,8,8,8,8,8,8,8,8,8,8,8,8,8,8,8,8,8,8,8,8,8,8,8,8,8,8,8,8,8,8,8,8,8,8,8,8,8,8,8,8,8,8,8,8,8,8,8,8,8,8,8,8,8,8,8,8,8,8,8,8,8,8,8,8,8,8,8,8,8,8,8,8,8,8,8,8,8,8,8,8,8,8,8,8,8,8,8,8,8,8,8,8,8] (uA.wrap ((Int.fdiv (Int.fdiv a0 (2 ^ 32)) (2 ^ 8)))))))))) else none) else (if 0<=(uA.wrap ((Int.fdiv a0 (2 ^ 32))))/\(uA.wrap ((Int.fdiv a0 (2 ^ 32))))<(tb0.length:Int) then (some (w64 (32+(w64 ((gtb [0,1,2,2,3,3,3,3,4,4,4,4,4,4,4,4,5,5,5,5,5,5,5,5,5,5,5,5,5,5,5,5,6,6,6,6,6,6,6,6,6,6,6,6,6,6,6,6,6,6,6,6,6,6,6,6,6,6,6,6,6,6,6,6,7,7,7,7,7,7,7,7,7,7,7,7,7,7,7,7,7,7,7,7,7,7,7,7,7,7,7,7,7,7,7,7,7,7,7,7,7,7,7,7,7,7,7,7,7,7,7,7,7,7,7,7,7,7,7,7,7,7,7,7,7,7,7,7,8,8,8,8,8,8,8,8,8,8,8,8,8,8,8,8,8,8,8,8,8,8,8,8,8,8,8,8,8,8,8,8,8,8,8,8,8,8,8,8,8,8,8,8,8,8,8,8,8,8,8,8,8,8,8,8,8,8,8,8,8,8,8,8,8,8,8,8,8,8,8,8,8,8,8,8,8,8,8,8,8,8,8,8,8,8,8,8,8,8,8,8,8,8,8,8,8,8,8,8,8,8,8,8,8,8,8,8,8,8,8,8,8,8,8,8,8,8,8,8,8,8,8,8,8,8,8,8] (uA.wrap ((Int.fdiv a0 (2 ^ 32)))))))))) else none))) else (if (decide (65536<=a0))=true then (if (decide (256<=(Int.fdiv a0 (2 ^ 16))))=true then (if 0<=(uA.wrap ((Int.fdiv (Int.fdiv a0 (2 ^ 16)) (2 ^ 8))))/\(uA.wrap ((Int.fdiv (Int.fdiv a0 (2 ^ 16)) (2 ^ 8))))<(tb0.length:Int) then (some (w64 (24+(w64 ((gtb [0,1,2,2,3,3,3,3,4,4,4,4,4,4,4,4,5,5,5,5,5,5,5,5,5,5,5,5,5,5,5,5,6,6,6,6,6,6,6,6,6,6,6,6,6,6,6,6,6,6,6,6,6,6,6,6,6,6,6,6,6,6,6,6,7,7,7,7,7,7,7,7,7,7,7,7,7,7,7,7,7,7,7,7,7,7,7,7,7,7,7,7,7,7,7,7,7,7,7,7,7,7,7,7,7,7,7,7,7,7,7,7,7,7,7,7,7,7,7,7,7,7,7,7,7,7,7,7,8,8,8,8,8,8,8,8,8,8,8,8,8,8,8,8,8,8,8,8,8,8,8,8,8,8,8,8,8,8,8,8,8,8,8,8,8,8,8,8,8,8,8,8,8,8,8,8,8,8,8,8,8,8,8,8,8,8,8,8,8,8,8,8,8,8,8,8,8,8,8,8,8,8,8,8,8,8,8,8,8,8,8,8,8,8,8,8,8,8,8,8,8,8,8,8,8,8,8,8,8,8,8,8,8,8,8,8,8,8,8,8,8,8,8,8,8,8,8,8,8,8,8,8,8,8,8,8] (uA.wrap ((Int.fdiv (Int.fdiv a0 (2 ^ 16)) (2 ^ 8)))))))))) else none) else (if 0<=(uA.wrap ((Int.fdiv a0 (2 ^ 16))))/\(uA.wrap ((Int.fdiv a0 (2 ^ 16))))<(tb0.length:Int) then (some (w64 (16+(w64 ((gtb [0,1,2,2,3,3,3,3,4,4,4,4,4,4,4,4,5,5,5,5,5,5,5,5,5,5,5,5,5,5,5,5,6,6,6,6,6,6,6,6,6,6,6,6,6,6,6,6,6,6,6,6,6,6,6,6,6,6,6,6,6,6,6,6,7,7,7,7,7,7,7,7,7,7,7,7,7,7,7,7,7,7,7,7,7,7,7,7,7,7,7,7,7,7,7,7,7,7,7,7,7,7,7,7,7,7,7,7,7,7,7,7,7,7,7,7,7,7,7,7,7,7,7,7,7,7,7,7,8,8,8,8,8,8,8,8,8,8,8,8,8,8,8,8,8,8,8,8,8,8,8,8,8,8,8,8,8,8,8,8,8,8,8,8,8,8,8,8,8,8,8,8,8,8,8,8,8,8,8,8,8,8,8,8,8,8,8,8,8,8,8,8,8,8,8,8,8,8,8,8,8,8,8,8,8,8,8,8,8,8,8,8,8,8,8,8,8,8,8,8,8,8,8,8,8,8,8,8,8,8,8,8,8,8,8,8,8,8,8,8,8,8,8,8,8,8,8,8,8,8,8,8,8,8,8,8] (uA.wrap ((Int.fdiv a0 (2 ^ 16)))))))))) else none)) else (if (decide (256<=a0))=true then (if 0<=(uA.wrap ((Int.fdiv a0 (2 ^ 8))))/\(uA.wrap ((Int.fdiv a0 (2 ^ 8))))<(tb0.length:Int) then (some (w64 (8+(w64 ((gtb [0,1,2,2,3,3,3,3,4,4,4,4,4,4,4,4,5,5,5,5,5,5,5,5,5,5,5,5,5,5,5,5,6,6,6,6,6,6,6,6,6,6,6,6,6,6,6,6,6,6,6,6,6,6,6,6,6,6,6,6,6,6,6,6,7,7,7,7,7,7,7,7,7,7,7,7,7,7,7,7,7,7,7,7,7,7,7,7,7,7,7,7,7,7,7,7,7,7,7,7,7,7,7,7,7,7,7,7,7,7,7,7,7,7,7,7,7,7,7,7,7,7,7,7,7,7,7,7,8,8,8,8,8,8,8,8,8,8,8,8,8,8,8,8,8,8,8,8,8,8,8,8,8,8,8,8,8,8,8,8,8,8,8,8,8,8,8,8,8,8,8,8,8,8,8,8,8,8,8,8,8,8,8,8,8,8,8,8,8,8,8,8,8,8,8,8,8,8,8,8,8,8,8,8,8,8,8,8,8,8,8,8,8,8,8,8,8,8,8,8,8,8,8,8,8,8,8,8,8,8,8,8,8,8,8,8,8,8,8,8,8,8,8,8,8,8,8,8,8,8,8,8,8,8,8,8] (uA.wrap ((Int.fdiv a0 (2 ^ 8)))))))))) else none) else (if 0<=(uA.wrap (a0))/\(uA.wrap (a0))<(tb0.length:Int) then (some (w64 (0+(w64 ((gtb [0,1,2,2,3,3,3,3,4,4,4,4,4,4,4,4,5,5,5,5,5,5,5,5,5,5,5,5,5,5,5,5,6,6,6,6,6,6,6,6,6,6,6,6,6,6,6,6,6,6,6,6,6,6,6,6,6,6,6,6,6,6,6,6,7,7,7,7,7,7,7,7,7,7,7,7,7,7,7,7,7,7,7,7,7,7,7,7,7,7,7,7,7,7,7,7,7,7,7,7,7,7,7,7,7,7,7,7,7,7,7,7,7,7,7,7,7,7,7,7,7,7,7,7,7,7,7,7,8,8,8,8,8,8,8,8,8,8,8,8,8,8,8,8,8,8,8,8,8,8,8,8,8,8,8,8,8,8,8,8,8,8,8,8,8,8,8,8,8,8,8,8,8,8,8,8,8,8,8,8,8,8,8,8,8,8,8,8,8,8,8,8,8,8,8,8,8,8,8,8,8,8,8,8,8,8,8,8,8,8,8,8,8,8,8,8,8,8,8,8,8,8,8,8,8,8,8,8,8,8,8,8,8,8,8,8,8,8,8,8,8,8,8,8,8,8,8,8,8,8,8,8,8,8,8,8] (uA.wrap (a0)))))))) else none)))
theorem Q1.spec {a0 r} (H:Q1.f a0=some r) :
  Spec prog 148 [.int .u64 a0] [] [] (fun v l=>v=.int .i64 r/\l=[]):=by
 refine Zg Tryz.func148 fun w0 F0 h0=>?_;unfold Q1.f at H;refine Sd (Za [0,2] ?_);refine Sd (Sd (Za [0,2,4] ?_));refine jIf H (fun c1 H=>?_) fun c1 H=>?_
 ·refine Sd (Za [0] ?_);refine Za [0,2] ?_;refine Sd (Sd (Za [0,2,8] ?_));refine jIf H (fun c2 H=>?_) fun c2 H=>?_
  ·refine Sd (Za [0,2] ?_);refine Za [0,2] ?_;refine Sd (Sd (Za [0,2,14] ?_));refine jIf H (fun c3 H=>?_) fun c3 H=>?_
   ·refine Sd (Za [0,2] ?_);refine Za [0,2] ?_;refine Sd (Sb (Zd 3 ?_));obtain ⟨⟨p1,p2⟩,H⟩:=Zp H;refine Zh (Xx p1 p2) ?_;refine rFi [2] ?_;cases H;exact Sc (jR0 h0 [])
   refine Se (Sd (Sb (Zd 3 ?_)));obtain ⟨⟨p3,p4⟩,H⟩:=Zp H;refine Zh (Xx p3 p4) ?_;refine rFi [2] ?_;cases H;exact Sc (jR0 h0 [])
  refine Se (Sd (Sd (Za [0,2,14] ?_)));refine jIf H (fun c4 H=>?_) fun c4 H=>?_
  ·refine Sd (Za [0,2] ?_);refine Za [0,2] ?_;refine Sd (Sb (Zd 3 ?_));obtain ⟨⟨p5,p6⟩,H⟩:=Zp H;refine Zh (Xx p5 p6) ?_;refine rFi [2] ?_;cases H;exact Sc (jR0 h0 [])
  refine Se (Sd (Sb (Zd 3 ?_)));obtain ⟨⟨p7,p8⟩,H⟩:=Zp H;refine Zh (Xx p7 p8) ?_;refine rFi [2] ?_;cases H;exact Sc (jR0 h0 [])
 refine Se (Sd (Sd (Za [0,2,8] ?_)));refine jIf H (fun c5 H=>?_) fun c5 H=>?_
 ·refine Sd (Za [0,2] ?_);refine Za [0,2] ?_;refine Sd (Sd (Za [0,2,14] ?_));refine jIf H (fun c6 H=>?_) fun c6 H=>?_
  ·refine Sd (Za [0,2] ?_);refine Za [0,2] ?_;refine Sd (Sb (Zd 3 ?_));obtain ⟨⟨p9,p10⟩,H⟩:=Zp H;refine Zh (Xx p9 p10) ?_;refine rFi [2] ?_;cases H;exact Sc (jR0 h0 [])
  refine Se (Sd (Sb (Zd 3 ?_)));obtain ⟨⟨p11,p12⟩,H⟩:=Zp H;refine Zh (Xx p11 p12) ?_;refine rFi [2] ?_;cases H;exact Sc (jR0 h0 [])
 refine Se (Sd (Sd (Za [0,2,14] ?_)));refine jIf H (fun c7 H=>?_) fun c7 H=>?_
 ·refine Sd (Za [0,2] ?_);refine Za [0,2] ?_;refine Sd (Sb (Zd 3 ?_));obtain ⟨⟨p13,p14⟩,H⟩:=Zp H;refine Zh (Xx p13 p14) ?_;refine rFi [2] ?_;cases H;exact Sc (jR0 h0 [])
 refine Se (Sd (Sb (Zd 3 ?_)));obtain ⟨⟨p15,p16⟩,H⟩:=Zp H;refine Zh (Xx p15 p16) ?_;refine rFi [2] ?_;cases H;exact Sc (jR0 h0 [])

def Q0.f (a0:Int):Option (Int):=(Q1.f a0).bind fun r1=>(some r1)
theorem Q0.spec {a0 r} (H:Q0.f a0=some r) :
  Spec prog 87 [.int .u64 a0] [] [] (fun v l=>v=.int .i64 r/\l=[]):=by
 refine Zg Tryz.func87 fun w0 F0 h0=>?_;unfold Q0.f at H;refine Sd (Za [0] ?_);refine Sd (Zz ?_);refine Se (Sd (Sb (Zd 1 ?_)));refine cS H [] h0 rfl Q1.spec Zk fun r1 w1 H h1=>?_;refine rFi [2] ?_;cases H;exact Sc (jR0 h1 [])

def Q33.f (a0:Int):Option (Bool):=some (!decide (a0=a0))
theorem Q33.spec {a0 r} (H:Q33.f a0=some r) :
  Spec prog 186 [.int .u32 a0] [] [] (fun v l=>v=.bool r/\l=[]):=by
 refine Zg Tryz.func186 fun w0 F0 h0=>?_;unfold Q33.f at H;refine Sd (Za [0] ?_);refine Sd (Za [2] ?_);cases H;exact Sc (jR0 h0 [])

def Q32.f (a0:Int) (a1:Int):Option (Bool):=(Q33.f a0).bind fun r1=>(if r1=true then ((Q33.f a1).bind fun r2=>(if (!r2)=true then (some true) else (some (decide (a0<a1))))) else (some (decide (a0<a1))))
theorem Q32.spec {a0 a1 r} (H:Q32.f a0 a1=some r) :
  Spec prog 144 [.int .u32 a0,.int .u32 a1] [] [] (fun v l=>v=.bool r/\l=[]):=by
 refine Zg Tryz.func144 fun w0 F0 h0=>?_;unfold Q32.f at H;refine Sd (Za [0,1] ?_);refine Sd (Sb (Zd 1 ?_));refine cS H [] h0 rfl Q33.spec Zk fun r1 w1 H h1=>?_;refine Zd 1 ?_;refine Z4 7 H (fun c1 H=>?_) fun c1 H=>?_
 ·refine Zd 1 ?_;refine cS H [] h1 rfl Q33.spec Zk fun r2 w2 H h2=>?_;refine Zd 3 ?_;refine Z4 12 H (fun c2 H=>?_) fun c2 H=>?_
  ·refine rFi [4] ?_;cases H;exact Sc (jR0 h2 [])
  refine rFi [4] ?_;cases H;exact Sc (jR0 h2 [])
 refine rFi [4] ?_;cases H;exact Sc (jR0 h1 [])

mutual
def Q108.l0:Nat->(Int)->(Int)->T2->(Int)->Option T2
 | 0,_,_,_,_=>none
 | k+1,a1,a2,x1,x2=>if (decide (x2<a2))=true then (Q108.l1 k a1 a2 x2 x1 x2) else (some x1)
def Q108.l1:Nat->(Int)->(Int)->(Int)->T2->(Int)->Option T2
 | 0,_,_,_,_,_=>none
 | k+1,a1,a2,x2,x3,x4=>if (decide (a1<x4))=true then (if 0<=x4/\x4<(x3.length:Int) then (if 0<=(w64 (x4 - 1))/\(w64 (x4 - 1))<(x3.length:Int) then ((Q32.f (gt x3 x4) (gt x3 (w64 (x4 - 1)))).bind fun r1=>(if r1=true then (Q108.l1 k a1 a2 x2 ((x3.set x4.toNat (gt x3 (w64 (x4 - 1)))).set (w64 (x4 - 1)).toNat (gt x3 x4)) (w64 (x4 - 1))) else (Q108.l0 k a1 a2 x3 (w64 (x2+1))))) else none) else none) else (Q108.l0 k a1 a2 x3 (w64 (x2+1)))
end
def Q108.f (k:Nat) (a0:T2) (a1:Int) (a2:Int):Option T2:=Q108.l0 k a1 a2 a0 (w64 (a1+1))
theorem Q108.spec {k a0 a1 a2 A1 c_1 r} (H:Q108.f k a0 a1 a2=some r) :
  Spec prog 138 [.slice A1 a0.length c_1,.int .i64 a1,.int .i64 a2] [O30 a0 A1 c_1] [] (fun v l=>v=.tuple #[]/\l=[O30 r A1 c_1]/\r.length=a0.length):=by
 refine Zg Tryz.func138 fun w0 F0 h0=>?_;unfold Q108.f at H;refine Sd (Za [0,1,2,6] ?_);refine T5 ?_;have h12:=(sOR h0 [0] []);refine T9 (fun kk env w=>∃ x1 x2,Q108.l0 kk a1 a2 x1 x2=some r/\env=[(0,.slice A1 x1.length c_1),(1,.int .i64 a1),(2,.int .i64 a2),(6,.int .i64 x2)]/\St w0 F0 [O30 x1 A1 c_1] [] w/\x1.length=a0.length) (k:=k) ⟨_,_,H,rfl,h12,(rfl:a0.length=a0.length)⟩ ?_;rintro k1 env w1 ⟨x1,x2,H,rfl,h1,e1⟩;rcases k1 with _ | k1
 ·exact z0 H
 rw [Q108.l0] at H;refine Sd (Sd (Za [0,1,2,6,12] ?_));refine jIf H (fun c1 H=>?_) fun c1 H=>?_
 ·refine Se (Sd (T5 (Sd (Za [0,1,2,6,7] ?_))));refine T5 ?_;have h11:=(sOR h1 [0] []);refine T9 (fun kk env w=>∃ x3 x4,Q108.l1 kk a1 a2 x2 x3 x4=some r/\env=[(0,.slice A1 x3.length c_1),(1,.int .i64 a1),(2,.int .i64 a2),(6,.int .i64 x2),(7,.int .i64 x4)]/\St w0 F0 [O30 x3 A1 c_1] [] w/\kk<=k1/\x3.length=a0.length) (k:=k1) ⟨_,_,H,rfl,h11,Sf _,e1⟩ ?_;rintro k2 env w2 ⟨x3,x4,H,rfl,h2,hk2,e2⟩;rcases k2 with _ | k2
  ·exact z0 H
  rw [Q108.l1] at H;refine Sd (Sd (jH h2 fun h3=>?_));refine Zq [0,1,2,3] ?_;refine Xy 19 H (fun c2 H=>?_) fun c2 H=>?_
  ·refine Zq [4,5,8,9,10] ?_;refine hI 6 H h3 (gO 0) fun p1 p2 e3 H=>?_;refine Zc 7 rfl (Zb 0 wI (gO 0) p1 p2) ?_;refine hX 11 H e3 fun p3 p4 H=>?_;refine Zc 12 rfl (Zb 0 wI (gO 0) p3 p4) ?_;refine cSJ 13 rfl H [] h3 rfl Q32.spec Zk 0 fun r1 w3 H h4=>?_;refine hRF [14] [0,1,2,6,7,30] ?_;refine jIf H (fun c3 H=>?_) fun c3 H=>?_
   ·refine Se (Sd (T5 (Zs (sO h4 []) ?_)));have h5:=h4.drew;refine Zq [0,1,2,3,4,5,6,7,10,11] ?_;refine Zc 8 rfl (Zj e3 p3 p4) ?_;refine Zc 12 rfl (Zj e3 p1 p2) ?_;refine T3 (Yv 9 rfl (Zb 0 h5.wht (gO 0) p3 p4) (Yv 13 rfl (Zb 0 h5.wht (gO 0) p1 p2) Vm)) ?_;refine Zc 14 rfl (Zj e3 p1 p2) ?_;refine hS 15 rfl (Zo 0 (.int .u32) x4 (gt x3 (w64 (x4 - 1))) 0 h5 rfl p1 p2) 1 fun _ w4 h6=>?_;have e4:(x3.set x4.toNat (gt x3 (w64 (x4 - 1)))).length=a0.length:=length_set.trans e2;refine Zc 16 rfl (Zj e3 p3 p4) ?_;refine hS 17 rfl (Zo 0 (.int .u32) (w64 (x4 - 1)) (gt x3 x4) 0 h6 rfl p3 (by simpa only [length_set] using p4)) 1 fun _ w5 h7=>?_;have e5:((x3.set x4.toNat (gt x3 (w64 (x4 - 1)))).set (w64 (x4 - 1)).toNat (gt x3 x4)).length=a0.length:=length_set.trans e4;refine Y7 [0,1,2,6,7] ?_;refine T7 (env':=[(0,.slice A1 ((x3.set x4.toNat (gt x3 (w64 (x4 - 1)))).set (w64 (x4 - 1)).toNat (gt x3 x4)).length c_1),(1,.int .i64 a1),(2,.int .i64 a2),(6,.int .i64 x2),(7,.int .i64 x4)]) (by simp only [length_set,length_nil] <;> rfl) ?_;refine Za [0,1,2,6,7] ?_;have h8:=(sOR h7 [0] []);exact ⟨k2,by omega,_,_,H,rfl,h8,by omega,e5⟩
   refine T8 (Za [0,1,2,6] ?_);have h9:=(sOR h4 [0] []);exact ⟨k2,by omega,_,_,H,rfl,h9,e2⟩
  refine hRF [4,5,6,7,8,9,10,11,12,13,14] [0,1,2,6,7,30] ?_;refine Zz ?_;refine T8 (Za [0,1,2,6] ?_);have h10:=(sOR h3 [0] []);exact ⟨k2,by omega,_,_,H,rfl,h10,e2⟩
 refine T8 ?_;cases H;exact ⟨_,_,_,Zi,⟨rfl,rfl,e1⟩,sO h1 [0]⟩

def Q118.l0:Nat->(Int)->(Int)->T2->(Int)->Option T2
 | 0,_,_,_,_=>none
 | k+1,a2,a3,x1,x2=>if (decide (a2<=(w64 ((w64 (2*x2))+1))))=true then (some x1) else (if (decide ((w64 ((w64 ((w64 (2*x2))+1))+1))<a2))=true then (if 0<=(w64 (a3+(w64 ((w64 (2*x2))+1))))/\(w64 (a3+(w64 ((w64 (2*x2))+1))))<(x1.length:Int) then (if 0<=(w64 ((w64 (a3+(w64 ((w64 (2*x2))+1))))+1))/\(w64 ((w64 (a3+(w64 ((w64 (2*x2))+1))))+1))<(x1.length:Int) then ((Q32.f (gt x1 (w64 (a3+(w64 ((w64 (2*x2))+1))))) (gt x1 (w64 ((w64 (a3+(w64 ((w64 (2*x2))+1))))+1)))).bind fun r1=>(if r1=true then (if 0<=(w64 (a3+x2))/\(w64 (a3+x2))<(x1.length:Int) then (if 0<=(w64 (a3+(w64 ((w64 ((w64 (2*x2))+1))+1))))/\(w64 (a3+(w64 ((w64 ((w64 (2*x2))+1))+1))))<(x1.length:Int) then ((Q32.f (gt x1 (w64 (a3+x2))) (gt x1 (w64 (a3+(w64 ((w64 ((w64 (2*x2))+1))+1)))))).bind fun r2=>(if (!r2)=true then (some x1) else (Q118.l0 k a2 a3 ((x1.set (w64 (a3+x2)).toNat (gt x1 (w64 (a3+(w64 ((w64 ((w64 (2*x2))+1))+1)))))).set (w64 (a3+(w64 ((w64 ((w64 (2*x2))+1))+1)))).toNat (gt x1 (w64 (a3+x2)))) (w64 ((w64 ((w64 (2*x2))+1))+1))))) else none) else none) else (if 0<=(w64 (a3+x2))/\(w64 (a3+x2))<(x1.length:Int) then ((Q32.f (gt x1 (w64 (a3+x2))) (gt x1 (w64 (a3+(w64 ((w64 (2*x2))+1)))))).bind fun r3=>(if (!r3)=true then (some x1) else (Q118.l0 k a2 a3 ((x1.set (w64 (a3+x2)).toNat (gt x1 (w64 (a3+(w64 ((w64 (2*x2))+1)))))).set (w64 (a3+(w64 ((w64 (2*x2))+1)))).toNat (gt x1 (w64 (a3+x2)))) (w64 ((w64 (2*x2))+1))))) else none))) else none) else none) else (if 0<=(w64 (a3+x2))/\(w64 (a3+x2))<(x1.length:Int) then (if 0<=(w64 (a3+(w64 ((w64 (2*x2))+1))))/\(w64 (a3+(w64 ((w64 (2*x2))+1))))<(x1.length:Int) then ((Q32.f (gt x1 (w64 (a3+x2))) (gt x1 (w64 (a3+(w64 ((w64 (2*x2))+1)))))).bind fun r4=>(if (!r4)=true then (some x1) else (Q118.l0 k a2 a3 ((x1.set (w64 (a3+x2)).toNat (gt x1 (w64 (a3+(w64 ((w64 (2*x2))+1)))))).set (w64 (a3+(w64 ((w64 (2*x2))+1)))).toNat (gt x1 (w64 (a3+x2)))) (w64 ((w64 (2*x2))+1))))) else none) else none))
def Q118.f (k:Nat) (a0:T2) (a1:Int) (a2:Int) (a3:Int):Option T2:=Q118.l0 k a2 a3 a0 a1
theorem Q118.spec {k a0 a1 a2 a3 A1 c_1 r} (H:Q118.f k a0 a1 a2 a3=some r) :
  Spec prog 181 [.slice A1 a0.length c_1,.int .i64 a1,.int .i64 a2,.int .i64 a3] [O30 a0 A1 c_1] [] (fun v l=>v=.tuple #[]/\l=[O30 r A1 c_1]/\r.length=a0.length):=by
 refine Zg Tryz.func181 fun w0 F0 h0=>?_;unfold Q118.f at H;refine Sd (Za [0,2,3,8] ?_);refine T5 ?_;have h22:=(sOR h0 [0] []);refine T9 (fun kk env w=>∃ x1 x2,Q118.l0 kk a2 a3 x1 x2=some r/\env=[(0,.slice A1 x1.length c_1),(2,.int .i64 a2),(3,.int .i64 a3),(8,.int .i64 x2)]/\St w0 F0 [O30 x1 A1 c_1] [] w/\x1.length=a0.length) (k:=k) ⟨_,_,H,rfl,h22,(rfl:a0.length=a0.length)⟩ ?_;rintro k1 env w1 ⟨x1,x2,H,rfl,h1,e1⟩;rcases k1 with _ | k1
 ·exact z0 H
 rw [Q118.l0] at H;refine T5 (Sd (Za [0,2,3,8,9] ?_));refine Sd (Sd (Za [0,2,3,8,9,16] ?_));refine jIf H (fun c1 H=>?_) fun c1 H=>?_
 ·refine T8 ?_;cases H;exact ⟨_,_,_,Zi,⟨rfl,rfl,e1⟩,sO h1 [0]⟩
 refine Se (Sd (Sd (jH h1 fun h2=>?_)));refine Zq [0,1,2,3,4] ?_;refine Xy 21 H (fun c2 H=>?_) fun c2 H=>?_
 ·refine Zq [5,6,7,8,11,12,13,14,15] ?_;refine hI 9 H h2 (gO 0) fun p1 p2 e2 H=>?_;refine Zc 10 rfl (Zb 0 wI (gO 0) p1 p2) ?_;refine hX 16 H e2 fun p3 p4 H=>?_;refine Zc 17 rfl (Zb 0 wI (gO 0) p3 p4) ?_;refine cSJ 18 rfl H [] h2 rfl Q32.spec Zk 0 fun r1 w2 H h3=>?_;refine hRF [19] [0,2,3,8,9,36] ?_;refine jIf H (fun c3 H=>?_) fun c3 H=>?_
  ·refine Za [0,2,3,8,9] ?_;refine Sd (Sd (jH h3 fun h4=>?_));refine Zq [0,1,2,3,6,7,8,9] ?_;refine hX 4 H e2 fun p5 p6 H=>?_;refine Zc 5 rfl (Zb 0 wI (gO 0) p5 p6) ?_;refine hX 10 H e2 fun p7 p8 H=>?_;refine Zc 11 rfl (Zb 0 wI (gO 0) p7 p8) ?_;refine cSJ 12 rfl H [] h4 rfl Q32.spec Zk 0 fun r2 w3 H h5=>?_;refine hRF [13] [0,2,3,8,9,52] ?_;refine jIf H (fun c4 H=>?_) fun c4 H=>?_
   ·cases H;exact Sc (jR ⟨rfl,rfl,e1⟩ h5 [0])
   refine Se (Sd (Zs (sO h5 []) ?_));have h6:=h5.drew;refine Zq [0,1,2,3,4,5,6,7,8,9,10,11,14,15,16,17] ?_;refine Zc 12 rfl (Zj e2 p7 p8) ?_;refine Zc 18 rfl (Zj e2 p5 p6) ?_;refine T3 (Yv 13 rfl (Zb 0 h6.wht (gO 0) p7 p8) (Yv 19 rfl (Zb 0 h6.wht (gO 0) p5 p6) Vm)) ?_;refine Zc 20 rfl (Zj e2 p5 p6) ?_;refine hS 21 rfl (Zo 0 (.int .u32) (w64 (a3+x2)) (gt x1 (w64 (a3+(w64 ((w64 ((w64 (2*x2))+1))+1))))) 0 h6 rfl p5 p6) 1 fun _ w4 h7=>?_;have e3:(x1.set (w64 (a3+x2)).toNat (gt x1 (w64 (a3+(w64 ((w64 ((w64 (2*x2))+1))+1)))))).length=a0.length:=length_set.trans e1;refine Zc 22 rfl (Zj e2 p7 p8) ?_;refine hS 23 rfl (Zo 0 (.int .u32) (w64 (a3+(w64 ((w64 ((w64 (2*x2))+1))+1)))) (gt x1 (w64 (a3+x2))) 0 h7 rfl p7 (by simpa only [length_set] using p8)) 1 fun _ w5 h8=>?_;have e4:((x1.set (w64 (a3+x2)).toNat (gt x1 (w64 (a3+(w64 ((w64 ((w64 (2*x2))+1))+1)))))).set (w64 (a3+(w64 ((w64 ((w64 (2*x2))+1))+1)))).toNat (gt x1 (w64 (a3+x2)))).length=a0.length:=length_set.trans e3;refine Y7 [0,2,3,9] ?_;refine T7 (env':=[(0,.slice A1 ((x1.set (w64 (a3+x2)).toNat (gt x1 (w64 (a3+(w64 ((w64 ((w64 (2*x2))+1))+1)))))).set (w64 (a3+(w64 ((w64 ((w64 (2*x2))+1))+1)))).toNat (gt x1 (w64 (a3+x2)))).length c_1),(2,.int .i64 a2),(3,.int .i64 a3),(9,.int .i64 (w64 ((w64 ((w64 (2*x2))+1))+1)))]) (by simp only [length_set,length_nil] <;> rfl) ?_;refine Za [0,2,3,8] ?_;have h9:=(sOR h8 [0] []);exact ⟨k1,by omega,_,_,H,rfl,h9,e4⟩
  refine Se (Sd (Sd (jH h3 fun h10=>?_)));refine Zq [0,1,2,3,6,7,8,9] ?_;refine hX 4 H e2 fun p9 p10 H=>?_;refine Zc 5 rfl (Zb 0 wI (gO 0) p9 p10) ?_;refine Zc 10 rfl (Zj e2 p1 p2) ?_;refine Zc 11 rfl (Zb 0 wI (gO 0) p1 p2) ?_;refine cSJ 12 rfl H [] h10 rfl Q32.spec Zk 0 fun r3 w6 H h11=>?_;refine hRF [13] [0,2,3,8,9,52] ?_;refine jIf H (fun c5 H=>?_) fun c5 H=>?_
  ·cases H;exact Sc (jR ⟨rfl,rfl,e1⟩ h11 [0])
  refine Se (Sd (Zs (sO h11 []) ?_));have h12:=h11.drew;refine Zq [0,1,2,3,4,5,6,7,8,9,10,11,14,15,16,17] ?_;refine Zc 12 rfl (Zj e2 p1 p2) ?_;refine Zc 18 rfl (Zj e2 p9 p10) ?_;refine T3 (Yv 13 rfl (Zb 0 h12.wht (gO 0) p1 p2) (Yv 19 rfl (Zb 0 h12.wht (gO 0) p9 p10) Vm)) ?_;refine Zc 20 rfl (Zj e2 p9 p10) ?_;refine hS 21 rfl (Zo 0 (.int .u32) (w64 (a3+x2)) (gt x1 (w64 (a3+(w64 ((w64 (2*x2))+1))))) 0 h12 rfl p9 p10) 1 fun _ w7 h13=>?_;have e5:(x1.set (w64 (a3+x2)).toNat (gt x1 (w64 (a3+(w64 ((w64 (2*x2))+1)))))).length=a0.length:=length_set.trans e1;refine Zc 22 rfl (Zj e2 p1 p2) ?_;refine hS 23 rfl (Zo 0 (.int .u32) (w64 (a3+(w64 ((w64 (2*x2))+1)))) (gt x1 (w64 (a3+x2))) 0 h13 rfl p1 (by simpa only [length_set] using p2)) 1 fun _ w8 h14=>?_;have e6:((x1.set (w64 (a3+x2)).toNat (gt x1 (w64 (a3+(w64 ((w64 (2*x2))+1)))))).set (w64 (a3+(w64 ((w64 (2*x2))+1)))).toNat (gt x1 (w64 (a3+x2)))).length=a0.length:=length_set.trans e5;refine Y7 [0,2,3,9] ?_;refine T7 (env':=[(0,.slice A1 ((x1.set (w64 (a3+x2)).toNat (gt x1 (w64 (a3+(w64 ((w64 (2*x2))+1)))))).set (w64 (a3+(w64 ((w64 (2*x2))+1)))).toNat (gt x1 (w64 (a3+x2)))).length c_1),(2,.int .i64 a2),(3,.int .i64 a3),(9,.int .i64 (w64 ((w64 (2*x2))+1)))]) (by simp only [length_set,length_nil] <;> rfl) ?_;refine Za [0,2,3,8] ?_;have h15:=(sOR h14 [0] []);exact ⟨k1,by omega,_,_,H,rfl,h15,e6⟩
 refine hRF [5,6,7,8,9,10,11,12,13,14,15,16,17,18,19] [0,2,3,8,9,36] ?_;refine Zz ?_;refine Se (Sd (Sd (jH h2 fun h16=>?_)));refine Zq [0,1,2,3,6,7,8,9] ?_;refine hI 4 H h16 (gO 0) fun p11 p12 e7 H=>?_;refine Zc 5 rfl (Zb 0 wI (gO 0) p11 p12) ?_;refine hX 10 H e7 fun p13 p14 H=>?_;refine Zc 11 rfl (Zb 0 wI (gO 0) p13 p14) ?_;refine cSJ 12 rfl H [] h16 rfl Q32.spec Zk 0 fun r4 w9 H h17=>?_;refine hRF [13] [0,2,3,8,9,52] ?_;refine jIf H (fun c6 H=>?_) fun c6 H=>?_
 ·cases H;exact Sc (jR ⟨rfl,rfl,e1⟩ h17 [0])
 refine Se (Sd (Zs (sO h17 []) ?_));have h18:=h17.drew;refine Zq [0,1,2,3,4,5,6,7,8,9,10,11,14,15,16,17] ?_;refine Zc 12 rfl (Zj e7 p13 p14) ?_;refine Zc 18 rfl (Zj e7 p11 p12) ?_;refine T3 (Yv 13 rfl (Zb 0 h18.wht (gO 0) p13 p14) (Yv 19 rfl (Zb 0 h18.wht (gO 0) p11 p12) Vm)) ?_;refine Zc 20 rfl (Zj e7 p11 p12) ?_;refine hS 21 rfl (Zo 0 (.int .u32) (w64 (a3+x2)) (gt x1 (w64 (a3+(w64 ((w64 (2*x2))+1))))) 0 h18 rfl p11 p12) 1 fun _ w10 h19=>?_;have e8:(x1.set (w64 (a3+x2)).toNat (gt x1 (w64 (a3+(w64 ((w64 (2*x2))+1)))))).length=a0.length:=length_set.trans e1;refine Zc 22 rfl (Zj e7 p13 p14) ?_;refine hS 23 rfl (Zo 0 (.int .u32) (w64 (a3+(w64 ((w64 (2*x2))+1)))) (gt x1 (w64 (a3+x2))) 0 h19 rfl p13 (by simpa only [length_set] using p14)) 1 fun _ w11 h20=>?_;have e9:((x1.set (w64 (a3+x2)).toNat (gt x1 (w64 (a3+(w64 ((w64 (2*x2))+1)))))).set (w64 (a3+(w64 ((w64 (2*x2))+1)))).toNat (gt x1 (w64 (a3+x2)))).length=a0.length:=length_set.trans e8;refine Y7 [0,2,3,9] ?_;refine T7 (env':=[(0,.slice A1 ((x1.set (w64 (a3+x2)).toNat (gt x1 (w64 (a3+(w64 ((w64 (2*x2))+1)))))).set (w64 (a3+(w64 ((w64 (2*x2))+1)))).toNat (gt x1 (w64 (a3+x2)))).length c_1),(2,.int .i64 a2),(3,.int .i64 a3),(9,.int .i64 (w64 ((w64 (2*x2))+1)))]) (by simp only [length_set,length_nil] <;> rfl) ?_;refine Za [0,2,3,8] ?_;have h21:=(sOR h20 [0] []);exact ⟨k1,by omega,_,_,H,rfl,h21,e9⟩

def Q107.l1:Nat->(Int)->T2->(Int)->Option T2
 | 0,_,_,_=>none
 | k+1,a1,x3,x4=>if (decide (0<=x4))=true then (if 0<=(w64 (a1+x4))/\(w64 (a1+x4))<(x3.length:Int) then (if 0<=a1/\a1<(x3.length:Int) then ((Q118.f k ((x3.set a1.toNat (gt x3 (w64 (a1+x4)))).set (w64 (a1+x4)).toNat (gt x3 a1)) 0 x4 a1).bind fun r2=>(Q107.l1 k a1 r2 (w64 (x4 - 1)))) else none) else none) else (some x3)
def Q107.l0:Nat->(Int)->(Int)->T2->(Int)->Option T2
 | 0,_,_,_,_=>none
 | k+1,a1,a2,x1,x2=>if (decide (0<=x2))=true then ((Q118.f k x1 x2 (w64 (a2 - a1)) a1).bind fun r1=>(Q107.l0 k a1 a2 r1 (w64 (x2 - 1)))) else (Q107.l1 k a1 x1 (w64 ((w64 (a2 - a1)) - 1)))
def Q107.f (k:Nat) (a0:T2) (a1:Int) (a2:Int):Option T2:=Q107.l0 k a1 a2 a0 (w64 (Int.tdiv (w64 ((w64 (a2 - a1)) - 1)) 2))
theorem Q107.spec {k a0 a1 a2 A1 c_1 r} (H:Q107.f k a0 a1 a2=some r) :
  Spec prog 139 [.slice A1 a0.length c_1,.int .i64 a1,.int .i64 a2] [O30 a0 A1 c_1] [] (fun v l=>v=.tuple #[]/\l=[O30 r A1 c_1]/\r.length=a0.length):=by
 refine Zg Tryz.func139 fun w0 F0 h0=>?_;unfold Q107.f at H;refine Sd (Za [0,1,2,6] ?_);refine Sd (Za [0,1,2,6,7] ?_);refine Sd (Za [0,6,7,8] ?_);refine Sd (Sd (Za [0,6,7,8,9] ?_));refine T5 ?_;have h11:=(sOR h0 [0] []);refine T9 (fun kk env w=>∃ x1 x2,Q107.l0 kk a1 a2 x1 x2=some r/\env=[(0,.slice A1 x1.length c_1),(6,.int .i64 a1),(7,.int .i64 0),(8,.int .i64 (w64 (a2 - a1))),(9,.int .i64 x2)]/\St w0 F0 [O30 x1 A1 c_1] [] w/\x1.length=a0.length) (k:=k) ⟨_,_,H,rfl,h11,(rfl:a0.length=a0.length)⟩ ?_;rintro k1 env w1 ⟨x1,x2,H,rfl,h1,e1⟩;rcases k1 with _ | k1
 ·exact z0 H
 rw [Q107.l0] at H;refine Sd (Sd (Za [0,6,7,8,9,19] ?_));refine jIf H (fun c1 H=>?_) fun c1 H=>?_
 ·refine Se (Sd (T5 (Sb (Zd 4 ?_))));refine cE H [0] h1 rfl Q118.spec Zk ?_;rintro r1 w2 _ _ H ⟨rfl,rfl,q2⟩ h2;replace h2:=nf h2;have e2:r1.length=a0.length:=q2.trans e1;refine rFi [0,6,7,8,9] ?_;refine T7 (env':=[(0,.slice A1 r1.length c_1),(6,.int .i64 a1),(7,.int .i64 0),(8,.int .i64 (w64 (a2 - a1))),(9,.int .i64 x2)]) (by simp only [q2,length_nil] <;> rfl) ?_;refine Za [0,6,7,8,9] ?_;have h3:=(sOR h2 [0] []);exact ⟨k1,by omega,_,_,H,rfl,h3,e2⟩
 refine T8 (Sd (Za [0,6,7,10] ?_));refine T5 ?_;have h10:=(sOR h1 [0] []);refine T9 (fun kk env w=>∃ x3 x4,Q107.l1 kk a1 x3 x4=some r/\env=[(0,.slice A1 x3.length c_1),(6,.int .i64 a1),(7,.int .i64 0),(10,.int .i64 x4)]/\St w0 F0 [O30 x3 A1 c_1] [] w/\x3.length=a0.length) (k:=k1) ⟨_,_,H,rfl,h10,e1⟩ ?_;rintro k2 env w3 ⟨x3,x4,H,rfl,h4,e3⟩;rcases k2 with _ | k2
 ·exact z0 H
 rw [Q107.l1] at H;refine Sd (Sd (Za [0,6,7,10,30] ?_));refine jIf H (fun c2 H=>?_) fun c2 H=>?_
 ·refine Se (Sd (T5 (Sd (Zs (sO h4 []) ?_))));have h5:=h4.drew;refine Zq [0,1,2,3,4,5,6,7,8,9,12,13] ?_;refine hI 10 H h5 (gO 0) fun p1 p2 e4 H=>?_;refine hX 14 H e4 fun p3 p4 H=>?_;refine T3 (Yv 11 rfl (Zb 0 h5.wht (gO 0) p1 p2) (Yv 15 rfl (Zb 0 h5.wht (gO 0) p3 p4) Vm)) ?_;refine Zc 16 rfl (Zj e4 p3 p4) ?_;refine hS 17 rfl (Zo 0 (.int .u32) a1 (gt x3 (w64 (a1+x4))) 0 h5 rfl p3 p4) 1 fun _ w4 h6=>?_;have e5:(x3.set a1.toNat (gt x3 (w64 (a1+x4)))).length=a0.length:=length_set.trans e3;refine Zc 18 rfl (Zj e4 p1 p2) ?_;refine hS 19 rfl (Zo 0 (.int .u32) (w64 (a1+x4)) (gt x3 a1) 0 h6 rfl p1 (by simpa only [length_set] using p2)) 1 fun _ w5 h7=>?_;have e6:((x3.set a1.toNat (gt x3 (w64 (a1+x4)))).set (w64 (a1+x4)).toNat (gt x3 a1)).length=a0.length:=length_set.trans e5;refine Y7 [0,6,7,10] ?_;refine T7 (env':=[(0,.slice A1 ((x3.set a1.toNat (gt x3 (w64 (a1+x4)))).set (w64 (a1+x4)).toNat (gt x3 a1)).length c_1),(6,.int .i64 a1),(7,.int .i64 0),(10,.int .i64 x4)]) (by simp only [length_set,length_nil] <;> rfl) ?_;refine Sb (Zd 4 ?_);refine cE H [0] h7 rfl Q118.spec Zk ?_;rintro r2 w6 _ _ H ⟨rfl,rfl,q4⟩ h8;replace h8:=nf h8;have e7:r2.length=a0.length:=q4.trans e6;refine rFi [0,6,7,10] ?_;refine T7 (env':=[(0,.slice A1 r2.length c_1),(6,.int .i64 a1),(7,.int .i64 0),(10,.int .i64 x4)]) (by simp only [q4,length_nil] <;> rfl) ?_;refine Za [0,6,7,10] ?_;have h9:=(sOR h8 [0] []);exact ⟨k2,by omega,_,_,H,rfl,h9,e7⟩
 refine T8 ?_;cases H;exact ⟨_,_,_,Zi,⟨rfl,rfl,e3⟩,sO h4 [0]⟩

def Q112.f (a0:T2) (a1:Int) (a2:Int) (a3:Int):Option (Int×Int×Int):=if 0<=a2/\a2<(a0.length:Int) then (if 0<=a1/\a1<(a0.length:Int) then ((Q32.f (gt a0 a2) (gt a0 a1)).bind fun r1=>(if r1=true then (some (a2,a1,(w64 (a3+1)))) else (some (a1,a2,a3)))) else none) else none
theorem Q112.spec {a0 a1 a2 a3 A1 c_1 b1 r} (H:Q112.f a0 a1 a2 a3=some r) :
  Spec prog 195 [.slice A1 a0.length c_1,.int .i64 a1,.int .i64 a2,.pointer (some ⟨b1,0,none⟩)] [X3 b1 a3] [R30 a0 A1 c_1] (fun v l=>v=.tuple #[.int .i64 r.1,.int .i64 r.2.1]/\l=[X3 b1 r.2.2]):=by
 refine Zg Tryz.func195 fun w0 F0 h0=>?_;unfold Q112.f at H;refine Sd (Za [0,1,2,3] ?_);refine Sd (Sd (jH h0 fun h1=>?_));refine Zq [0,1,4,5] ?_;refine hI 2 H h1 (Zf 1) fun p1 p2 e1 H=>?_;refine Zc 3 rfl (Zb 0 wI (Zf 1) p1 p2) ?_;refine hX 6 H e1 fun p3 p4 H=>?_;refine Zc 7 rfl (Zb 0 wI (Zf 1) p3 p4) ?_;refine cSJ 8 rfl H [] h1 rfl Q32.spec Zk 0 fun r1 w1 H h2=>?_;refine Y7 [1,2,3,18] ?_;refine jIf H (fun c1 H=>?_) fun c1 H=>?_
 ·refine Sd (Sb (rRL 2 0 h2 ?_));refine Zd 2 ?_;refine rS (Zr 0 h2) fun _ w2 h3=>?_;refine rFi [1,2] ?_;refine Sd (Za [8,9] ?_);cases H;exact Sc (jR0 h3 [0])
 refine Se (Sd (Za [8,9] ?_));cases H;exact Sc (jR0 h2 [0])

def Q110.f (a0:T2) (a1:Int) (a2:Int) (a3:Int) (a4:Int):Option T1:=(Q112.f a0 a1 a2 a4).bind fun r1=>((Q112.f a0 r1.2.1 a3 r1.2.2).bind fun r2=>((Q112.f a0 r1.1 r2.1 r2.2.2).bind fun r3=>(some r3.2)))
theorem Q110.spec {a0 a1 a2 a3 a4 A1 c_1 b1 r} (H:Q110.f a0 a1 a2 a3 a4=some r) :
  Spec prog 185 [.slice A1 a0.length c_1,.int .i64 a1,.int .i64 a2,.int .i64 a3,.pointer (some ⟨b1,0,none⟩)] [X3 b1 a4] [R30 a0 A1 c_1] (fun v l=>v=.int .i64 r.1/\l=[X3 b1 r.2]):=by
 refine Zg Tryz.func185 fun w0 F0 h0=>?_;unfold Q110.f at H;refine Sd (Za [0,1,2,3,4] ?_);refine Sd (Sb (Zd 4 ?_));refine cS H [0] h0 rfl Q112.spec (gS [0]) fun r1 w1 H h1=>?_;refine rFi [0,1,2,3,4] ?_;refine Sd (Sb (Zd 4 ?_));refine cS H [0] h1 rfl Q112.spec (gS [0]) fun r2 w2 H h2=>?_;refine rFi [0,1,2,4] ?_;refine Sd (Sb (Zd 4 ?_));refine cS H [0] h2 rfl Q112.spec (gS [0]) fun r3 w3 H h3=>?_;refine rFi [2] ?_;refine Sd (Za [10] ?_);cases H;exact Sc (jR0 h3 [0])

def Q109.f (a0:T2) (a1:Int) (a2:Int):Option T1:=(Q110.f a0 (w64 (a1 - 1)) a1 (w64 (a1+1)) a2).bind fun r1=>(some r1)
theorem Q109.spec {a0 a1 a2 A1 c_1 b1 r} (H:Q109.f a0 a1 a2=some r) :
  Spec prog 184 [.slice A1 a0.length c_1,.int .i64 a1,.pointer (some ⟨b1,0,none⟩)] [X3 b1 a2] [R30 a0 A1 c_1] (fun v l=>v=.int .i64 r.1/\l=[X3 b1 r.2]):=by
 refine Zg Tryz.func184 fun w0 F0 h0=>?_;unfold Q109.f at H;refine Sd (Za [0,1,2] ?_);refine Sd (Sb (Zd 7 ?_));refine cS H [0] h0 rfl Q110.spec (gS [0]) fun r1 w1 H h1=>?_;refine rFi [6] ?_;cases H;exact Sc (jR0 h1 [0])

end Go.SK.T
