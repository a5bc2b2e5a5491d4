/- The types of the program, and its functions as the code computes them, each proved. -/
import Derived.Test.YtimakogjahobeaaGreatDoorXScanRangesKF
import Derived.Test.YtimakogjahobeaaGreatDoorProg
import Derived.Shelf.Spec.TrailingZeros
set_option linter.unusedVariables false
set_option linter.unusedSimpArgs false
set_option maxRecDepth 20000
set_option maxHeartbeats 40000000
namespace Go.SK.T
open Go Go.SK Go.Proofs
abbrev uA:=IntKind.u8
abbrev uD:=IntKind.u32
abbrev uH:=IntKind.u64
abbrev iH:=IntKind.i64
open BitVec (ofInt)
open List (length_set length_nil append_assoc length_cons drop_eq_nil_of_le length_take length_drop length_map length_range length_replicate)
open Tryz (prog)
abbrev TX:=List Int
abbrev TW:=Int×Int
abbrev TV:=Int×Bool
abbrev TU:=List Value
abbrev TS:=List UInt8
abbrev TR:=Int×List Int
abbrev TQ:=List Int×Int
abbrev TP:=Bool×List Int
abbrev TO:=List UInt8×Int
abbrev TN:=List TW
abbrev TM:=List TS
abbrev TL:=Int×Int×List Int
abbrev TJ:=Int×Bool×List Int
abbrev TH:=TL
abbrev TG:=List (Int×Int×Bool)
abbrev TF:=List UInt8×List UInt8
abbrev TE:=Int×List Int×TW
abbrev TD:=List UInt8×List UInt8×Bool
abbrev TC:=TG×Int
abbrev TB:=List UInt8×Bool×List UInt8
abbrev TA:=List TF
abbrev Tz:=TA
abbrev Tx:=List (Int×List Int×Bool×Int)
abbrev Tw:=Int×TC
abbrev Tv:=List TB
abbrev Tu:=TD×Bool
abbrev Tt:=List Int×Int×TH
abbrev Ts:=Tv
abbrev Tr:=Int×Int×Int×Int×Int×Int×Int×Int
abbrev Tq:=TA×Tv×List Int×List Int
abbrev Tp:=Int×List Int×List TS×Tv×TA
abbrev Tn:=List Tp
abbrev Tm:=List Tn
abbrev Tl:=Tm
abbrev Tk:=Tp×TQ
abbrev Tj:=TE×Tx×TN×List Int×TC
abbrev Ti:=Int×Tj
abbrev Th:=Tr×Tj×TH×Int
abbrev Tg:=Int×Int×Th
abbrev Tf:=Int×Bool×Th
abbrev Te:=TF×Bool×Int×Th
abbrev Td:=Th×Int×TA
abbrev Tc:=Int×Td
abbrev Tb:=Tp×Int×Th
abbrev Ta:=Option Th×Int×Tm×Bool
abbrev TY:=@HJ.loads
abbrev TZ:=@HJ.pick
abbrev T0:=@HJ.run
abbrev T1:=@J.block
abbrev T2:=@J.cond
abbrev T3:=@J.envEq
abbrev T4:=@J.exit
abbrev T5:=@J.loop
abbrev T6:=@J.midS
abbrev T7:=@J.region
abbrev T8:=@J.ret
abbrev T9:=@J.seq
abbrev Sa:=@J.skip
abbrev Sb:=@Nat.le_refl
abbrev Sc:=@OpT.ofq
abbrev Sd:=@OptC.no
abbrev Se:=@OptC.yes
abbrev Sf:=@RJ.fin
abbrev Sg:=@RJ.know
abbrev Sh:=@RJ.run
abbrev Si:=@RV.cell
abbrev Sj:=@RV.tmp
theorem rRL {P:Program} {tt:TT} {n:Nat} {ops l l' K env env' w0 w F0 Hs Rs} {o:Oper} {t x} {i:TI} {b off tb cs v} [q:TTI P tt] (k j:Nat) (hS:St w0 F0 Hs Rs w) (hr:RJ P n ops l' K (Xj o.dst v env') w) (h:Zbf tt n ops k l env=some (o :: l',env'):=by exact rfl) (hw:Yg ops env' o=some true:=by exact rfl) (hd:Xz n o.dst=true:=by exact rfl) (hk:nth Hs j=some (Yn b tb cs):=by exact rfl) (ho:o.op=.load t x:=by exact rfl) (hi:find tt t=some i:=by exact rfl) (ha:Zl env' x=some (.pointer (some ⟨b,off,none⟩)):=by exact rfl) (hp:W9 i ((cs.drop off).take i.size)=some v:=by exact rfl):RJ P n ops l K env w:=RJ.run q.ok k h (RJ.q hw hd (Gi q.ok j hS.wht hk ho hi ha hp) hr)
theorem rLo {P:Program} {tt:TT} {n:Nat} {ops l K env w0 w F0 Hs Rs} {o:Oper} {t x} {i:TI} {b off tb cs v} [q:TTI P tt] (j:Nat) (hS:St w0 F0 Hs Rs w) (hr:RJ P n ops l K (Xj o.dst v env) w) (hw:Yg ops env o=some true:=by exact rfl) (hd:Xz n o.dst=true:=by exact rfl) (hk:nth Hs j=some (Yn b tb cs):=by exact rfl) (ho:o.op=.load t x:=by exact rfl) (hi:find tt t=some i:=by exact rfl) (ha:Zl env x=some (.pointer (some ⟨b,off,none⟩)):=by exact rfl) (hp:W9 i ((cs.drop off).take i.size)=some v:=by exact rfl):RJ P n ops (o :: l) K env w:=RJ.q hw hd (Gi q.ok j hS.wht hk ho hi ha hp) hr
theorem rFi {P:Program} {tt:TT} {n:Nat} {ops K} {w:World} [q:TTI P tt] {l env E} (ts) (hk:K E w) (h:Zbb tt n ops ts l env=some E:=by exact rfl):RJ P n ops l K env w:=Zfo ts h hk
theorem hRF {P:Program} {tt:TT} {n:Nat} {ops done K S} {w:World} [q:TTI P tt] {env done' env' E} (is ts) (hk:K E w) (hs:X5 ops=true:=by exact rfl) (h:SK.runH tt n ops is done env=some (done',env'):=by exact rfl) (hr:(Zaq ops && Jp done' 0 ops)=true:=by exact rfl) (h2:Zaz ts env' some=some E:=by exact rfl):HJ P n ops S K done env w:=Zp is (Y8 ts hk hr h2) hs h
section
variable {P:Program} {tt:TT} {n:Nat} {ops l:List Oper} {K:Env->World->Prop} {S:World->Prop} {done:List Nat} {env:Env} {w w0 w2:World} {F0:Ft} {Hs Rs rest:List Ch} {o:Oper} {t e m c d E mm c2:Nat} {x ix:Operand} {A:Option Addr} {i:Int} {ki:IntKind} {z1 z2:Nat} {z:Value} {ie:TI} {ρ α:Type} {X:Option ρ} {r:ρ} {ty:Ty} [Inhabited ty.D] {xs:List ty.D} [q_:TTI P tt]
abbrev RjO (ops:List Oper) (env:Env) (n:Nat) (o:Oper):Prop:=Yg ops env o=some true/\Xz n o.dst=true
abbrev HjO (ops:List Oper) (env:Env) (n:Nat) (done:List Nat) (j:Nat) (o:Oper) (d:Nat):Prop:=X5 ops=true/\nth ops j=some o/\Gp ops done j o=true/\Yg ops env o=some true/\o.dst=some d/\Nat.ble (d+1) n=true
abbrev IxO (tt:TT) (env:Env) (o:Oper) (t e m c:Nat) (x ix:Operand) (A:Option Addr) (i:Int) (ki:IntKind) (z1 z2:Nat) (z:Value) (ie:TI):Prop:=o.op=.indexAddr t x ix/\find tt t=some ⟨.slice e,z1,z2,z⟩/\find tt e=some ie/\Zl env x=some (.slice A m c)/\Zl env ix=some (.int ki i)
theorem nO (h:St w0 F0 Hs Rs w) (ks) {ps Hs'} (hp:V2 ks Hs (fun p _=>some p)=some ps:=by exact rfl) (e:nfK ps some=some Hs':=by exact rfl):St w0 F0 Hs' Rs w:=nf (sO h ks hp) e
theorem cA {c:Option α} {f:α->Option ρ} {fno} {xs} {ts:Array TypeId} {fx} {vs} {pre rd} {V:α->Option Addr->Nat->Value} {L Hs':α->Option Addr->Nat->List Ch} (H:c.bind f=some r) (ks) (hS:St w0 F0 Hs Rs w) (hp:V2 ks Hs (fun p r=>some (p,r))=some (pre,rest)) (hsp:∀ {x},c=some x->Spec P fno vs pre rd (fun v l=>∃ A k,v=V x A k/\l=L x A k)) (hr:∀ c∈rd,Gives (rest ++ Rs) c) (hk:∀ x A k w',f x=some r->St w0 F0 (Hs' x A k) Rs w'->RJ P n ops l K (Xj o.dst (V x A k) env) w') (hn:∀ x A k,nfK (L x A k ++ rest) some=some (Hs' x A k):=by exact fun _ _ _=>rfl) (q:RjO ops env n o:=by exact ⟨rfl,rfl⟩) (ho:o.op=.call { callee:=.value fx,args:=xs,argTypes:=ts }:=by exact rfl) (hfx:Zl env fx=some (.func (.func fno) #[] #[]):=by exact rfl) (hv:Yr env xs.toList=some vs:=by exact rfl):RJ P n ops (o :: l) K env w:=by
 refine cE H ks hS hp hsp hr ?_ q.1 q.2 ho hfx hv;rintro x w' _ _ H ⟨A,k,rfl,rfl⟩ h;exact hk x A k w' H (nf h (hn x A k))
theorem rA {V:Option Addr->Nat->Value} {Hs1 Hs':Option Addr->Nat->List Ch} (ho:OpT P o env w (fun v w'=>∃ A k,v=V A k/\St w0 F0 (Hs1 A k) Rs w')) (hk:∀ A k w',St w0 F0 (Hs' A k) Rs w'->RJ P n ops l K (Xj o.dst (V A k) env) w') (hn:∀ A k,nfK (Hs1 A k) some=some (Hs' A k):=by exact fun _ _=>rfl) (q:RjO ops env n o:=by exact ⟨rfl,rfl⟩):RJ P n ops (o :: l) K env w:=RJ.op q.1 q.2 ho (by rintro _ w' ⟨A,k,rfl,h⟩; exact hk A k w' (nf h (hn A k)))
theorem rC {V:Option Addr->Nat->Value} {L M Hs':Option Addr->Nat->List Ch} (ho:OpT P o env w (fun v w'=>∃ post rp,(∃ A k,v=V A k/\post=L A k/\rp=M A k)/\St w0 F0 (post ++ rest) (rp ++ Rs) w')) (hk:∀ A k w',St w0 F0 (Hs' A k) (M A k ++ Rs) w'->RJ P n ops l K (Xj o.dst (V A k) env) w') (hn:∀ A k,nfK (L A k ++ rest) some=some (Hs' A k):=by exact fun _ _=>rfl) (q:RjO ops env n o:=by exact ⟨rfl,rfl⟩):RJ P n ops (o :: l) K env w:=RJ.op q.1 q.2 ho (by rintro _ w' ⟨_,_,⟨A,k,rfl,rfl,rfl⟩,h⟩; exact hk A k w' (nf h (hn A k)))
theorem eN {f} {fn} {c} {args} {pre} {rd} {Post} {Hs'} (hf : P.funcs[f]? = some fn) (h : ∀ w0 F0, St w0 F0 Hs' rd w0 → J P fn.ntmps c (Zea P fn w0 F0 Post) (Va 0 args) w0) (e : nfK pre some = some Hs' := by exact rfl) (hb : fn.body = some c := by exact rfl) (hn : (fn.name == "runtime.NumGoroutine") = false := by kernel_rfl) (hs : Nat.ble args.length fn.ntmps = true := by kernel_rfl) : Spec P f args pre rd Post := Spec.enter hf hb hn hs fun w0 F0 h0 => h w0 F0 (nf h0 e)
theorem rX (H:(if 0<=i/\i<(m:Int) then X else none)=some r) (hA:A=some ⟨blk A,ofs A,none⟩) (h:0<=i->i<(m:Int)->X=some r->RJ P n ops l K (Xj o.dst (.pointer (some ⟨blk A,ofs A+i.toNat*ie.size,none⟩)) env) w) (g:RjO ops env n o:=by exact ⟨rfl,rfl⟩) (v:IxO tt env o t e m c x ix A i ki z1 z2 z ie:=by exact ⟨rfl,rfl,rfl,rfl,rfl⟩):RJ P n ops (o :: l) K env w:=by
 obtain ⟨⟨p,q⟩,H⟩:=Zk H;exact RJ.q g.1 g.2 (Zct q_.ok v.1 v.2.1 v.2.2.1 v.2.2.2.1 v.2.2.2.2 hA p q) (h p q H)
theorem rI (H:(if 0<=i/\i<(m:Int) then X else none)=some r) (hS:St w0 F0 Hs Rs w2) (hg:Gives (Hs ++ Rs) (rdC E ty xs (.slice A mm c2))) (h:0<=i->i<(m:Int)->A=some ⟨blk A,ofs A,none⟩->X=some r->RJ P n ops l K (Xj o.dst (.pointer (some ⟨blk A,ofs A+i.toNat*ie.size,none⟩)) env) w) (hm:xs.length=m:=by exact rfl) (g:RjO ops env n o:=by exact ⟨rfl,rfl⟩) (v:IxO tt env o t e m c x ix A i ki z1 z2 z ie:=by exact ⟨rfl,rfl,rfl,rfl,rfl⟩):RJ P n ops (o :: l) K env w:=by
 obtain ⟨⟨p,q⟩,_⟩:=Zk H;have a:=G8 hS.wh hg p (hm ▸ q);exact rX H a (fun p q=>h p q a) g v
theorem hX (j:Nat) (H:(if 0<=i/\i<(m:Int) then X else none)=some r) (hA:A=some ⟨blk A,ofs A,none⟩) (h:0<=i->i<(m:Int)->X=some r->HJ P n ops S K (j :: done) ((d,.pointer (some ⟨blk A,ofs A+i.toNat*ie.size,none⟩)) :: env) w) (g:HjO ops env n done j o d:=by exact ⟨rfl,rfl,rfl,rfl,rfl,rfl⟩) (v:IxO tt env o t e m c x ix A i ki z1 z2 z ie:=by exact ⟨rfl,rfl,rfl,rfl,rfl⟩):HJ P n ops S K done env w:=by
 obtain ⟨⟨p,q⟩,H⟩:=Zk H;exact HJ.q g.1 g.2.1 g.2.2.1 g.2.2.2.1 g.2.2.2.2.1 g.2.2.2.2.2 (Zct q_.ok v.1 v.2.1 v.2.2.1 v.2.2.2.1 v.2.2.2.2 hA p q) (h p q H)
theorem hI (j:Nat) (H:(if 0<=i/\i<(m:Int) then X else none)=some r) (hS:St w0 F0 Hs Rs w2) (hg:Gives (Hs ++ Rs) (rdC E ty xs (.slice A mm c2))) (h:0<=i->i<(m:Int)->A=some ⟨blk A,ofs A,none⟩->X=some r->HJ P n ops S K (j :: done) ((d,.pointer (some ⟨blk A,ofs A+i.toNat*ie.size,none⟩)) :: env) w) (hm:xs.length=m:=by exact rfl) (g:HjO ops env n done j o d:=by exact ⟨rfl,rfl,rfl,rfl,rfl,rfl⟩) (v:IxO tt env o t e m c x ix A i ki z1 z2 z ie:=by exact ⟨rfl,rfl,rfl,rfl,rfl⟩):HJ P n ops S K done env w:=by
 obtain ⟨⟨p,q⟩,_⟩:=Zk H;have a:=G8 hS.wh hg p (hm ▸ q);exact hX j H a (fun p q=>h p q a) g v
end
def tt:TT:=[(1,⟨.func,1,8,.nilFunc⟩),
 (2,⟨.int .i64,1,8,.int .i64 0⟩),
 (3,⟨.int .i64,1,8,.int .i64 0⟩),
 (4,⟨.bool,1,1,.bool false⟩),
 (5,⟨.int .u8,1,1,.int .u8 0⟩),
 (6,⟨.int .u8,1,1,.int .u8 0⟩),
 (9,⟨.str,1,16,.string ⟨⟨[]⟩⟩⟩),
 (23,⟨.struct [(3,0,1),(3,1,1),(3,2,1),(3,3,1),(3,4,1),(3,5,1),(3,6,1),(3,7,1)],8,64,.agg #[.int .i64 0,.int .i64 0,.int .i64 0,.int .i64 0,.int .i64 0,.int .i64 0,.int .i64 0,.int .i64 0]⟩),
 (24,⟨.slice 44,1,24,.slice none 0 0⟩),
 (25,⟨.slice 52,1,24,.slice none 0 0⟩),
 (26,⟨.slice 5,1,24,.slice none 0 0⟩),
 (28,⟨.struct [(24,0,1),(25,1,1),(26,2,1),(26,3,1)],4,96,.agg #[.slice none 0 0,.slice none 0 0,.slice none 0 0,.slice none 0 0]⟩),
 (30,⟨.struct [(9,0,1),(9,1,1),(4,2,1)],3,40,.agg #[.string ⟨⟨[]⟩⟩,.string ⟨⟨[]⟩⟩,.bool false]⟩),
 (31,⟨.ptr 108,1,8,.pointer none⟩),
 (32,⟨.int .u32,1,4,.int .u32 0⟩),
 (33,⟨.slice 70,1,24,.slice none 0 0⟩),
 (38,⟨.int .i64,1,8,.int .i64 0⟩),
 (44,⟨.struct [(9,0,1),(9,1,1)],2,32,.agg #[.string ⟨⟨[]⟩⟩,.string ⟨⟨[]⟩⟩]⟩),
 (52,⟨.struct [(9,0,1),(4,1,1),(9,2,1)],3,40,.agg #[.string ⟨⟨[]⟩⟩,.bool false,.string ⟨⟨[]⟩⟩]⟩),
 (53,⟨.ptr 98,1,8,.pointer none⟩),
 (59,⟨.ptr 61,1,8,.pointer none⟩),
 (61,⟨.struct [(31,0,1),(3,1,1),(24,2,1)],3,40,.agg #[.pointer none,.int .i64 0,.slice none 0 0]⟩),
 (70,⟨.slice 75,1,24,.slice none 0 0⟩),
 (71,⟨.slice 9,1,24,.slice none 0 0⟩),
 (73,⟨.slice 32,1,24,.slice none 0 0⟩),
 (75,⟨.struct [(3,0,1),(73,1,1),(71,2,1),(25,3,1),(24,4,1)],5,104,.agg #[.int .i64 0,.slice none 0 0,.slice none 0 0,.slice none 0 0,.slice none 0 0]⟩),
 (94,⟨.int .u64,1,8,.int .u64 0⟩),
 (96,⟨.struct [(94,0,1),(94,1,1)],2,16,.agg #[.int .u64 0,.int .u64 0]⟩),
 (98,⟨.struct [(3,0,1),(26,1,1),(96,2,2)],4,48,.agg #[.int .i64 0,.slice none 0 0,.int .u64 0,.int .u64 0]⟩),
 (100,⟨.ptr 140,1,8,.pointer none⟩),
 (104,⟨.ptr 146,1,8,.pointer none⟩),
 (108,⟨.struct [(23,0,8),(53,8,1),(100,9,1),(104,10,1),(32,11,1)],12,96,.agg #[.int .i64 0,.int .i64 0,.int .i64 0,.int .i64 0,.int .i64 0,.int .i64 0,.int .i64 0,.int .i64 0,.pointer none,.pointer none,.pointer none,.int .u32 0]⟩),
 (124,⟨.func,1,8,.nilFunc⟩),
 (133,⟨.ptr 175,1,8,.pointer none⟩),
 (136,⟨.slice 155,1,24,.slice none 0 0⟩),
 (137,⟨.map 32 3,1,8,.map none⟩),
 (138,⟨.slice 3,1,24,.slice none 0 0⟩),
 (140,⟨.struct [(53,0,1),(136,1,1),(137,2,1),(138,3,1),(133,4,1)],5,72,.agg #[.pointer none,.slice none 0 0,.map none,.slice none 0 0,.pointer none]⟩),
 (141,⟨.ptr 180,1,8,.pointer none⟩),
 (146,⟨.struct [(141,0,1)],1,8,.agg #[.pointer none]⟩),
 (147,⟨.func,1,8,.nilFunc⟩),
 (150,⟨.func,1,8,.nilFunc⟩),
 (151,⟨.func,1,8,.nilFunc⟩),
 (155,⟨.struct [(32,0,1),(26,1,1),(4,2,1),(3,3,1)],4,48,.agg #[.int .u32 0,.slice none 0 0,.bool false,.int .i64 0]⟩),
 (158,⟨.ptr 155,1,8,.pointer none⟩),
 (162,⟨.ptr 190,1,8,.pointer none⟩),
 (169,⟨.int .u64,1,8,.int .u64 0⟩),
 (172,⟨.func,1,8,.nilFunc⟩),
 (173,⟨.slice 177,1,24,.slice none 0 0⟩),
 (175,⟨.struct [(173,0,1),(3,1,1)],2,32,.agg #[.slice none 0 0,.int .i64 0]⟩),
 (177,⟨.struct [(3,0,1),(3,1,1),(4,2,1)],3,24,.agg #[.int .i64 0,.int .i64 0,.bool false]⟩),
 (178,⟨.slice 94,1,24,.slice none 0 0⟩),
 (180,⟨.struct [(3,0,1),(3,1,1),(178,2,1)],3,40,.agg #[.int .i64 0,.int .i64 0,.slice none 0 0]⟩),
 (190,⟨.struct [(26,0,1),(38,1,1)],2,32,.agg #[.slice none 0 0,.int .i64 0]⟩),
 (193,⟨.func,1,8,.nilFunc⟩),
 (200,⟨.func,1,8,.nilFunc⟩),
 (204,⟨.func,1,8,.nilFunc⟩),
 (207,⟨.func,1,8,.nilFunc⟩),
 (222,⟨.int .i64,1,8,.int .i64 0⟩),
 (230,⟨.int .u64,1,8,.int .u64 0⟩),
 (234,⟨.ptr 3,1,8,.pointer none⟩),
 (237,⟨.ptr 230,1,8,.pointer none⟩)]
theorem Z0:Yi prog tt:=by
 refine ttC ⟨_,_,_,Tryz.underlying1⟩ ?_;refine ttC Tryz.underlying2 ?_;refine ttC Tryz.underlying3 ?_;refine ttC Tryz.underlying4 ?_;refine ttC Tryz.underlying5 ?_;refine ttC Tryz.underlying6 ?_;refine ttC Tryz.underlying9 ?_;refine ttS Tryz.underlying23 ?_;refine ttC Tryz.underlying24 ?_;refine ttC Tryz.underlying25 ?_;refine ttC Tryz.underlying26 ?_;refine ttS Tryz.underlying28 ?_;refine ttS Tryz.underlying30 ?_;refine ttC Tryz.underlying31 ?_;refine ttC Tryz.underlying32 ?_;refine ttC Tryz.underlying33 ?_;refine ttC Tryz.underlying38 ?_;refine ttS Tryz.underlying44 ?_;refine ttS Tryz.underlying52 ?_;refine ttC Tryz.underlying53 ?_;refine ttC Tryz.underlying59 ?_;refine ttS Tryz.underlying61 ?_;refine ttC Tryz.underlying70 ?_;refine ttC Tryz.underlying71 ?_;refine ttC Tryz.underlying73 ?_;refine ttS Tryz.underlying75 ?_;refine ttC Tryz.underlying94 ?_;refine ttS Tryz.underlying96 ?_;refine ttS Tryz.underlying98 ?_;refine ttC Tryz.underlying100 ?_;refine ttC Tryz.underlying104 ?_;refine ttS Tryz.underlying108 ?_;refine ttC ⟨_,_,_,Tryz.underlying124⟩ ?_;refine ttC Tryz.underlying133 ?_;refine ttC Tryz.underlying136 ?_;refine ttC Tryz.underlying137 ?_;refine ttC Tryz.underlying138 ?_;refine ttS Tryz.underlying140 ?_;refine ttC Tryz.underlying141 ?_;refine ttS Tryz.underlying146 ?_;refine ttC ⟨_,_,_,Tryz.underlying147⟩ ?_;refine ttC ⟨_,_,_,Tryz.underlying150⟩ ?_;refine ttC ⟨_,_,_,Tryz.underlying151⟩ ?_;refine ttS Tryz.underlying155 ?_;refine ttC Tryz.underlying158 ?_;refine ttC Tryz.underlying162 ?_;refine ttC Tryz.underlying169 ?_;refine ttC ⟨_,_,_,Tryz.underlying172⟩ ?_;refine ttC Tryz.underlying173 ?_;refine ttS Tryz.underlying175 ?_;refine ttS Tryz.underlying177 ?_;refine ttC Tryz.underlying178 ?_;refine ttS Tryz.underlying180 ?_;refine ttS Tryz.underlying190 ?_;refine ttC ⟨_,_,_,Tryz.underlying193⟩ ?_;refine ttC ⟨_,_,_,Tryz.underlying200⟩ ?_;refine ttC ⟨_,_,_,Tryz.underlying204⟩ ?_;refine ttC ⟨_,_,_,Tryz.underlying207⟩ ?_;refine ttC Tryz.underlying222 ?_;refine ttC Tryz.underlying230 ?_;refine ttC Tryz.underlying234 ?_;refine ttC Tryz.underlying237 ?_;exact Zpb _
theorem mix:prog.follows .mixedOrders=true:=by kernel_rfl
instance:TTI prog tt:=⟨Z0,mix⟩
abbrev X23 (b:Nat) (p0:Int) (p1:Int) (p2:Int) (p3:Int) (p4:Int) (p5:Int) (p6:Int) (p7:Int):Ch:=Yn b 23 [.int .i64 p0,.int .i64 p1,.int .i64 p2,.int .i64 p3,.int .i64 p4,.int .i64 p5,.int .i64 p6,.int .i64 p7]
abbrev X28 (b:Nat) (p0:TA) (A0:Option Addr) (c0:Nat) (p1:Tv) (A1:Option Addr) (c1:Nat) (p2:TX) (A2:Option Addr) (c2:Nat) (p3:TX) (A3:Option Addr) (c3:Nat):Ch:=Yn b 28 [.slice A0 p0.length c0,.slice A1 p1.length c1,.slice A2 p2.length c2,.slice A3 p3.length c3]
abbrev X30 (b:Nat) (p0:TS) (p1:TS) (p2:Bool):Ch:=Yn b 30 [.string ⟨⟨p0⟩⟩,.string ⟨⟨p1⟩⟩,.bool p2]
abbrev R44 (x:TA) (A:Option Addr) (c:Nat):Ch:=rdC 44 (.pair .str .str) x (.slice A x.length c)
abbrev R52 (x:Tv) (A:Option Addr) (c:Nat):Ch:=rdC 52 (.pair .str (.pair .bool .str)) x (.slice A x.length c)
abbrev R5 (x:TX) (A:Option Addr) (c:Nat):Ch:=rdC 5 (.int .u8) x (.slice A x.length c)
abbrev O5 (x:TX) (A:Option Addr) (c:Nat):Ch:=Yb 5 (.int .u8) x (.slice A x.length c)
abbrev X98 (b:Nat) (p0:Int) (p1:TX) (A1:Option Addr) (c1:Nat) (p2:Int) (p3:Int):Ch:=Yn b 98 [.int .i64 p0,.slice A1 p1.length c1,.int .u64 p2,.int .u64 p3]
abbrev Zb6 (x:TE) (b1:Nat) (A1:Option Addr) (c1:Nat):List Ch:=[X98 b1 x.1 x.2.1 A1 c1 x.2.2.1 x.2.2.2,O5 x.2.1 A1 c1]
abbrev Y0 (x:TG) (A:Option Addr) (c:Nat):Ch:=Yb 177 (.pair (.int .i64) (.pair (.int .i64) .bool)) x (.slice A x.length c)
abbrev Yz (b:Nat) (p0:TG) (A0:Option Addr) (c0:Nat) (p1:Int):Ch:=Yn b 175 [.slice A0 p0.length c0,.int .i64 p1]
abbrev Xv (x:Tx) (A:Option Addr) (c:Nat):Ch:=Yb 155 (.pair (.int .u32) (.pair (.slice 5 (.int .u8)) (.pair .bool (.int .i64)))) x (.slice A x.length c)
abbrev Xw (b:Nat) (p0:Value) (p1:Tx) (A1:Option Addr) (c1:Nat) (p2:Value) (p3:TX) (A3:Option Addr) (c3:Nat) (p4:Value):Ch:=Yn b 140 [p0,.slice A1 p1.length c1,p2,.slice A3 p3.length c3,p4]
abbrev O3 (x:TX) (A:Option Addr) (c:Nat):Ch:=Yb 3 (.int .i64) x (.slice A x.length c)
abbrev O94 (x:TX) (A:Option Addr) (c:Nat):Ch:=Yb 94 (.int .u64) x (.slice A x.length c)
abbrev X8 (b:Nat) (p0:Int) (p1:Int) (p2:TX) (A2:Option Addr) (c2:Nat):Ch:=Yn b 180 [.int .i64 p0,.int .i64 p1,.slice A2 p2.length c2]
abbrev Vp (x:TL) (b1:Nat) (A1:Option Addr) (c1:Nat):List Ch:=[X8 b1 x.1 x.2.1 x.2.2 A1 c1,O94 x.2.2 A1 c1]
abbrev Ua (b:Nat) (p0:Value):Ch:=Yn b 146 [p0]
abbrev U0 (b:Nat) (p0:Int) (p1:Int) (p2:Int) (p3:Int) (p4:Int) (p5:Int) (p6:Int) (p7:Int) (p8:Value) (p9:Value) (p10:Value) (p11:Int):Ch:=Yn b 108 [.int .i64 p0,.int .i64 p1,.int .i64 p2,.int .i64 p3,.int .i64 p4,.int .i64 p5,.int .i64 p6,.int .i64 p7,p8,p9,p10,.int .u32 p11]
abbrev O44 (x:TA) (A:Option Addr) (c:Nat):Ch:=Yb 44 (.pair .str .str) x (.slice A x.length c)
abbrev M75 (x:Tn) (A:Option Addr) (c:Nat) (l:TU):Ch:=X7 75 5 x.length l (.slice A x.length c)
abbrev O9 (x:TM) (A:Option Addr) (c:Nat):Ch:=Yb 9 .str x (.slice A x.length c)
abbrev E75 (x:Tn) (l:TU):Ch:=esC (.pair (.int .i64) (.pair (.slice 32 (.int .u32)) (.pair (.slice 9 .str) (.pair (.slice 52 (.pair .str (.pair .bool .str))) (.slice 44 (.pair .str .str)))))) x l
abbrev R75 (x:Tn) (A:Option Addr) (c:Nat):Ch:=rdC 75 (.pair (.int .i64) (.pair (.slice 32 (.int .u32)) (.pair (.slice 9 .str) (.pair (.slice 52 (.pair .str (.pair .bool .str))) (.slice 44 (.pair .str .str)))))) x (.slice A x.length c)
abbrev N70 (x:Tm) (A:Option Addr) (c:Nat) (l:List TU):Ch:=V1 70 75 5 (Y4 x) l (.slice A x.length c)
abbrev X75 (b:Nat) (p0:Int) (p1:TX) (A1:Option Addr) (c1:Nat) (p2:TM) (A2:Option Addr) (c2:Nat) (p3:Tv) (A3:Option Addr) (c3:Nat) (p4:TA) (A4:Option Addr) (c4:Nat):Ch:=Yn b 75 [.int .i64 p0,.slice A1 p1.length c1,.slice A2 p2.length c2,.slice A3 p3.length c3,.slice A4 p4.length c4]
abbrev O32 (x:TX) (A:Option Addr) (c:Nat):Ch:=Yb 32 (.int .u32) x (.slice A x.length c)
abbrev V70 (x:Tm) (l:List TU):Ch:=B8 (.pair (.int .i64) (.pair (.slice 32 (.int .u32)) (.pair (.slice 9 .str) (.pair (.slice 52 (.pair .str (.pair .bool .str))) (.slice 44 (.pair .str .str)))))) x l
abbrev R9 (x:TM) (A:Option Addr) (c:Nat):Ch:=rdC 9 .str x (.slice A x.length c)
abbrev R32 (x:TX) (A:Option Addr) (c:Nat):Ch:=rdC 32 (.int .u32) x (.slice A x.length c)
abbrev O52 (x:Tv) (A:Option Addr) (c:Nat):Ch:=Yb 52 (.pair .str (.pair .bool .str)) x (.slice A x.length c)
abbrev X52 (b:Nat) (p0:TS) (p1:Bool) (p2:TS):Ch:=Yn b 52 [.string ⟨⟨p0⟩⟩,.bool p1,.string ⟨⟨p2⟩⟩]
abbrev W70 (x:Tm) (A:Option Addr) (c:Nat) (l:List TU) (i:Int) (A2:Option Addr) (c2:Nat):Ch:=Ux 70 75 5 (Y4 x) l (.slice A x.length c) i (gt x i).length A2 c2
abbrev R70 (x:Tm) (A:Option Addr) (c:Nat):Ch:=rdC 70 (.slice 75 (.pair (.int .i64) (.pair (.slice 32 (.int .u32)) (.pair (.slice 9 .str) (.pair (.slice 52 (.pair .str (.pair .bool .str))) (.slice 44 (.pair .str .str))))))) x (.slice A x.length c)
abbrev V9 (x:Th) (b1 b2 b3 b4 b5 b6 b7:Nat) (A1 A2 A3 A4 A5:Option Addr) (c1 c2 c3 c4 c5:Nat):List Ch:=[U0 b1 x.1.1 x.1.2.1 x.1.2.2.1 x.1.2.2.2.1 x.1.2.2.2.2.1 x.1.2.2.2.2.2.1 x.1.2.2.2.2.2.2.1 x.1.2.2.2.2.2.2.2 (.pointer (some ⟨b3,0,none⟩)) (.pointer (some ⟨b2,0,none⟩)) (.pointer (some ⟨b6,0,none⟩)) x.2.2.2,Xw b2 (.pointer (some ⟨b3,0,none⟩)) x.2.1.2.1 A2 c2 (.map (some b4)) x.2.1.2.2.2.1 A3 c3 (.pointer (some ⟨b5,0,none⟩)),X98 b3 x.2.1.1.1 x.2.1.1.2.1 A1 c1 x.2.1.1.2.2.1 x.2.1.1.2.2.2,O5 x.2.1.1.2.1 A1 c1,Xv x.2.1.2.1 A2 c2,Xa .u32 (Value.int .i64) b4 x.2.1.2.2.1,O3 x.2.1.2.2.2.1 A3 c3,Yz b5 x.2.1.2.2.2.2.1 A4 c4 x.2.1.2.2.2.2.2,Y0 x.2.1.2.2.2.2.1 A4 c4,Ua b6 (.pointer (some ⟨b7,0,none⟩)),X8 b7 x.2.2.1.1 x.2.2.1.2.1 x.2.2.1.2.2 A5 c5,O94 x.2.2.1.2.2 A5 c5]
abbrev X44 (b:Nat) (p0:TS) (p1:TS):Ch:=Yn b 44 [.string ⟨⟨p0⟩⟩,.string ⟨⟨p1⟩⟩]
abbrev X3 (b:Nat) (p0:Int):Ch:=Yn b 3 [.int .i64 p0]
abbrev Zek (b:Nat) (p0:Int):Ch:=Yn b 230 [.int .u64 p0]
abbrev Jv (x:TH) (b1 b2:Nat) (A1:Option Addr) (c1:Nat):List Ch:=[Ua b1 (.pointer (some ⟨b2,0,none⟩)),X8 b2 x.1 x.2.1 x.2.2 A1 c1,O94 x.2.2 A1 c1]
abbrev W8 (x:Tj) (b1 b2 b3 b4:Nat) (A1 A2 A3 A4:Option Addr) (c1 c2 c3 c4:Nat):List Ch:=[Xw b1 (.pointer (some ⟨b2,0,none⟩)) x.2.1 A2 c2 (.map (some b3)) x.2.2.2.1 A3 c3 (.pointer (some ⟨b4,0,none⟩)),X98 b2 x.1.1 x.1.2.1 A1 c1 x.1.2.2.1 x.1.2.2.2,O5 x.1.2.1 A1 c1,Xv x.2.1 A2 c2,Xa .u32 (Value.int .i64) b3 x.2.2.1,O3 x.2.2.2.1 A3 c3,Yz b4 x.2.2.2.2.1 A4 c4 x.2.2.2.2.2,Y0 x.2.2.2.2.1 A4 c4]
abbrev Vn (x:TC) (b1:Nat) (A1:Option Addr) (c1:Nat):List Ch:=[Yz b1 x.1 A1 c1 x.2,Y0 x.1 A1 c1]
abbrev Zfv (b:Nat) (p0:Int) (p1:Int) (p2:Bool):Ch:=Yn b 177 [.int .i64 p0,.int .i64 p1,.bool p2]
abbrev Zls (b:Nat) (p0:Int) (p1:TX) (A1:Option Addr) (c1:Nat) (p2:Bool) (p3:Int):Ch:=Yn b 155 [.int .u32 p0,.slice A1 p1.length c1,.bool p2,.int .i64 p3]
abbrev X61 (b:Nat) (p0:Value) (p1:Int) (p2:TA) (A2:Option Addr) (c2:Nat):Ch:=Yn b 61 [p0,.int .i64 p1,.slice A2 p2.length c2]
abbrev Zl1 (x:Td) (b1 b2 b3 b4 b5 b6 b7 b8:Nat) (A1 A2 A3 A4 A5 A6:Option Addr) (c1 c2 c3 c4 c5 c6:Nat):List Ch:=[X61 b1 (.pointer (some ⟨b2,0,none⟩)) x.2.1 x.2.2 A6 c6,U0 b2 x.1.1.1 x.1.1.2.1 x.1.1.2.2.1 x.1.1.2.2.2.1 x.1.1.2.2.2.2.1 x.1.1.2.2.2.2.2.1 x.1.1.2.2.2.2.2.2.1 x.1.1.2.2.2.2.2.2.2 (.pointer (some ⟨b4,0,none⟩)) (.pointer (some ⟨b3,0,none⟩)) (.pointer (some ⟨b7,0,none⟩)) x.1.2.2.2,Xw b3 (.pointer (some ⟨b4,0,none⟩)) x.1.2.1.2.1 A2 c2 (.map (some b5)) x.1.2.1.2.2.2.1 A3 c3 (.pointer (some ⟨b6,0,none⟩)),X98 b4 x.1.2.1.1.1 x.1.2.1.1.2.1 A1 c1 x.1.2.1.1.2.2.1 x.1.2.1.1.2.2.2,O5 x.1.2.1.1.2.1 A1 c1,Xv x.1.2.1.2.1 A2 c2,Xa .u32 (Value.int .i64) b5 x.1.2.1.2.2.1,O3 x.1.2.1.2.2.2.1 A3 c3,Yz b6 x.1.2.1.2.2.2.2.1 A4 c4 x.1.2.1.2.2.2.2.2,Y0 x.1.2.1.2.2.2.2.1 A4 c4,Ua b7 (.pointer (some ⟨b8,0,none⟩)),X8 b8 x.1.2.2.1.1 x.1.2.2.1.2.1 x.1.2.2.1.2.2 A5 c5,O94 x.1.2.2.1.2.2 A5 c5,O44 x.2.2 A6 c6]
abbrev Wr (b:Nat) (p0:TX) (A0:Option Addr) (c0:Nat) (p1:Int):Ch:=Yn b 190 [.slice A0 p0.length c0,.int .i64 p1]
theorem Zrw:CmpStr prog 160:=CmpStr.of Tryz.func160 (by kernel_rfl) (by kernel_rfl) (by kernel_rfl) rfl
def tzR:Go.Shelf.Ren:={ f:=fun _=>167,t:=fun n=>if n=3 then 3 else if n=4 then 4 else if n=5 then 5 else if n=22 then 94 else if n=25 then 169 else if n=54 then 220 else 0,g:=fun _=>1 }
theorem tzL:Go.Proofs.Lays7.n29 prog tzR where
 mixed:=mix
 f29:=by kernel_rfl
 t0:=by kernel_rfl
 a0:=fun _=>by kernel_rfl
 z0:=fun _=>by kernel_rfl
 v0:=fun _=>by kernel_rfl
 i0:=by kernel_rfl
 t3:=by kernel_rfl
 a3:=fun _=>by kernel_rfl
 z3:=fun _=>by kernel_rfl
 v3:=fun _=>by kernel_rfl
 i3:=by kernel_rfl
 t4:=by kernel_rfl
 a4:=fun _=>by kernel_rfl
 z4:=fun _=>by kernel_rfl
 v4:=fun _=>by kernel_rfl
 i4:=by kernel_rfl
 t5:=by kernel_rfl
 a5:=fun _=>by kernel_rfl
 z5:=fun _=>by kernel_rfl
 v5:=fun _=>by kernel_rfl
 i5:=by kernel_rfl
 t22:=by kernel_rfl
 a22:=fun _=>by kernel_rfl
 z22:=fun _=>by kernel_rfl
 v22:=fun _=>by kernel_rfl
 i22:=by kernel_rfl
 t25:=by kernel_rfl
 a25:=fun _=>by kernel_rfl
 z25:=fun _=>by kernel_rfl
 v25:=fun _=>by kernel_rfl
 i25:=by kernel_rfl
 t54:=by kernel_rfl
 a54:=fun _=>by kernel_rfl
 z54:=fun _=>by kernel_rfl
 g1:=by kernel_rfl
def tzI (x:Int):Int:=((Go.Lib.ctz 64 x.toNat:Nat):Int)
def tabC (g:Nat):Ch where
 ok w F:=F g/\Go.Proofs.TabAt g Go.Lib.deBruijn64tab w
 stable:=fun {w w' F} hs h=>⟨h.1,fun j hj=>by
  have:=h.2 j hj;unfold World.cell? at this ⊢;rw [hs g h.1];exact this⟩
theorem tz64.spec {x:Int} (h0:0<=x) (h1:x<18446744073709551616):Spec prog 167 [.int .u64 x] [] [tabC 1] (fun v l=>v=.int .i64 (tzI x)/\l=[]):=by
 refine ⟨⟨_,Tryz.func167,by kernel_rfl,by kernel_rfl⟩,fun w F hs hb hrd=>?_⟩;obtain ⟨n,rfl⟩:=Int.eq_ofNat_of_zero_le h0;obtain ⟨R,hR,_⟩:=hrd _ (List.mem_singleton.2 rfl);have:=Go.Proofs.Any7.bits_TrailingZeros64 tzL n (by omega) w (fun _=>hR.2);refine this.mono fun e w' ⟨he,hw⟩=>?_;subst hw;refine ⟨_,[],fun _=>False,he,⟨rfl,rfl⟩,Chg.refl _ _,?_,fun b h=>h.elim⟩;trivial

def Q148.f (a0:Int) (a1:Int) (a2:Int):Option (Bool):=if (decide (a1<=a0))=true then (some (decide (a0<=a2))) else (some false)
theorem Q148.spec {a0 a1 a2 r} (H:Q148.f a0 a1 a2=some r) :
  Spec prog 39 [.int .i64 a0,.int .i64 a1,.int .i64 a2] [] [] (fun v l=>v=.bool r/\l=[]):=by
 refine Zg Tryz.func39 fun w0 F0 h0=>?_;unfold Q148.f at H;refine T9 (Za [0,1,2] ?_);refine T9 (T7 (Zd 4 ?_));refine Z3 10 H (fun c1 H=>?_) fun c1 H=>?_
 ·refine rFi [6] ?_;cases H;exact T8 (jR0 h0 [])
 refine rFi [6] ?_;cases H;exact T8 (jR0 h0 [])

def Q147.f (a0:Tr):Option (Bool):=(Q148.f a0.2.2.2.1 8 64).bind fun r1=>(if (!r1)=true then (some false) else ((Q148.f a0.2.2.2.2.2.2.1 1 64).bind fun r2=>(if (!r2)=true then (some false) else ((Q148.f a0.2.2.2.2.2.2.2 0 256).bind fun r3=>(if (!r3)=true then (some false) else ((Q148.f a0.2.2.2.2.1 (w64 (2*a0.2.2.2.1)) 512).bind fun r4=>(if r4=true then ((Q148.f a0.2.2.2.2.2.1 a0.2.2.2.2.1 1024).bind fun r5=>(some r5)) else (some false))))))))
theorem Q147.spec {a0 r} (H:Q147.f a0=some r) :
  Spec prog 38 [.agg #[.int .i64 a0.1,.int .i64 a0.2.1,.int .i64 a0.2.2.1,.int .i64 a0.2.2.2.1,.int .i64 a0.2.2.2.2.1,.int .i64 a0.2.2.2.2.2.1,.int .i64 a0.2.2.2.2.2.2.1,.int .i64 a0.2.2.2.2.2.2.2]] [] [] (fun v l=>v=.bool r/\l=[]):=by
 refine Zg Tryz.func38 fun w0 F0 h0=>?_;unfold Q147.f at H;refine T9 (T7 (rB (Z2 h0) fun b1 w1 h1=>?_));refine rFi [1] ?_;refine T9 (T9 (T7 (rRL 1 0 h1 ?_)));refine cS H [] h1 rfl Q148.spec Zm fun r1 w2 H h2=>?_;refine Zd 2 ?_;refine Z3 7 H (fun c1 H=>?_) fun c1 H=>?_
 ·refine rFi [1,18] ?_;refine Zo ?_;refine T9 (Za [2] ?_);cases H;exact T8 (jR0 h2 [])
 refine rRL 1 0 h2 ?_;refine cS H [] h2 rfl Q148.spec Zm fun r2 w3 H h3=>?_;refine Zd 3 ?_;refine Z3 13 H (fun c2 H=>?_) fun c2 H=>?_
 ·refine rFi [1,18] ?_;refine Zo ?_;refine T9 (Za [2] ?_);cases H;exact T8 (jR0 h3 [])
 refine rRL 1 0 h3 ?_;refine cS H [] h3 rfl Q148.spec Zm fun r3 w4 H h4=>?_;refine rFi [1,18] ?_;refine jIf H (fun c3 H=>?_) fun c3 H=>?_
 ·refine T9 (Za [2] ?_);cases H;exact T8 (jR0 h4 [])
 refine Sa (T9 (T7 (rRL 1 0 h4 ?_)));refine rRL 1 0 h4 ?_;refine Zd 1 ?_;refine cS H [] h4 rfl Q148.spec Zm fun r4 w5 H h5=>?_;refine Zd 1 ?_;refine Z3 25 H (fun c4 H=>?_) fun c4 H=>?_
 ·refine rRL 1 0 h5 ?_;refine rRL 1 0 h5 ?_;refine cS H [] h5 rfl Q148.spec Zm fun r5 w6 H h6=>?_;refine rFi [2] ?_;cases H;exact T8 (jR0 h6 [])
 refine rFi [2] ?_;cases H;exact T8 (jR0 h5 [])

def Q144.l1:Nat->Tr->(Int)->(Int)->Option (Int)
 | 0,_,_,_=>none
 | k+1,a0,x3,x4=>if (decide (x4<a0.2.2.2.2.1))=true then (Q144.l1 k a0 (w64 ((w64 ((w64 (x3+4))+a0.2.2.2.2.2.2.1))+a0.2.2.2.2.2.2.2)) (w64 (x4+1))) else (some x3)
def Q144.l0:Nat->Tr->(Int)->(Int)->Option (Int)
 | 0,_,_,_=>none
 | k+1,a0,x1,x2=>if (decide (x2<a0.2.2.2.1))=true then (if (decide (0<x2))=true then (Q144.l0 k a0 (w64 ((w64 ((w64 (x1+4))+1))+a0.2.2.2.2.2.2.1)) (w64 (x2+1))) else (Q144.l0 k a0 (w64 (x1+4)) (w64 (x2+1)))) else (Q144.l1 k a0 x1 0)
def Q144.f (k:Nat) (a0:Tr):Option (Int):=(Q147.f a0).bind fun r1=>(if (!r1)=true then (some 0) else (Q144.l0 k a0 8 0))
theorem Q144.spec {k a0 r} (H:Q144.f k a0=some r) :
  Spec prog 40 [.agg #[.int .i64 a0.1,.int .i64 a0.2.1,.int .i64 a0.2.2.1,.int .i64 a0.2.2.2.1,.int .i64 a0.2.2.2.2.1,.int .i64 a0.2.2.2.2.2.1,.int .i64 a0.2.2.2.2.2.2.1,.int .i64 a0.2.2.2.2.2.2.2]] [] [] (fun v l=>v=.int .i64 r/\l=[]):=by
 refine Zg Tryz.func40 fun w0 F0 h0=>?_;unfold Q144.f at H;refine T9 (T7 (rB (Z2 h0) fun b1 w1 h1=>?_));refine rFi [1] ?_;refine T9 (T9 (T7 (rLo 0 h1 ?_)));refine cS H [] h1 rfl Q147.spec Zm fun r1 w2 H h2=>?_;refine rFi [1,8] ?_;refine jIf H (fun c1 H=>?_) fun c1 H=>?_
 ·refine T9 (Za [2] ?_);cases H;exact T8 (jR0 h2 [])
 refine Sa (T9 (Za [1,3] ?_));refine T9 (T9 (Za [1,3,4] ?_));refine T1 ?_;have h9:=(sOR h2 [0] []);refine T5 (fun kk env w=>∃ x1 x2,Q144.l0 kk a0 x1 x2=some r/\env=[(1,.pointer (some ⟨b1,0,none⟩)),(3,.int .i64 x1),(4,.int .i64 x2)]/\St w0 F0 [X23 b1 a0.1 a0.2.1 a0.2.2.1 a0.2.2.2.1 a0.2.2.2.2.1 a0.2.2.2.2.2.1 a0.2.2.2.2.2.2.1 a0.2.2.2.2.2.2.2] [] w) (k:=k) ⟨_,_,H,rfl,h9⟩ ?_;rintro k1 env w3 ⟨x1,x2,H,rfl,h3⟩;rcases k1 with _ | k1
 ·exact z0 H
 rw [Q144.l0] at H;refine T9 (T9 (T7 (rRL 2 0 h3 ?_)));refine rFi [1,3,4,12] ?_;refine jIf H (fun c2 H=>?_) fun c2 H=>?_
 ·refine Sa (T9 (T1 (T9 (Za [1,3,4] ?_))));refine T9 (Za [1,3,4,18] ?_);refine jIf H (fun c3 H=>?_) fun c3 H=>?_
  ·refine T7 (rRL 3 0 h3 ?_);refine rFi [1,3,4] ?_;refine Za [1,3,4] ?_;have h4:=(sOR h3 [0] []);exact ⟨k1,by omega,_,_,H,rfl,h4⟩
  refine Sa (Za [1,3,4] ?_);have h5:=(sOR h3 [0] []);exact ⟨k1,by omega,_,_,H,rfl,h5⟩
 refine T4 (T9 (T9 (Za [1,3,5] ?_)));refine T1 ?_;have h8:=(sOR h3 [0] []);refine T5 (fun kk env w=>∃ x3 x4,Q144.l1 kk a0 x3 x4=some r/\env=[(1,.pointer (some ⟨b1,0,none⟩)),(3,.int .i64 x3),(5,.int .i64 x4)]/\St w0 F0 [X23 b1 a0.1 a0.2.1 a0.2.2.1 a0.2.2.2.1 a0.2.2.2.2.1 a0.2.2.2.2.2.1 a0.2.2.2.2.2.2.1 a0.2.2.2.2.2.2.2] [] w) (k:=k1) ⟨_,_,H,rfl,h8⟩ ?_;rintro k2 env w4 ⟨x3,x4,H,rfl,h6⟩;rcases k2 with _ | k2
 ·exact z0 H
 rw [Q144.l1] at H;refine T9 (T9 (T7 (rRL 2 0 h6 ?_)));refine rFi [1,3,5,27] ?_;refine jIf H (fun c4 H=>?_) fun c4 H=>?_
 ·refine Sa (T9 (T1 (T7 (rRL 3 0 h6 ?_))));refine rRL 2 0 h6 ?_;refine rFi [1,3,5] ?_;refine Za [1,3,5] ?_;have h7:=(sOR h6 [0] []);exact ⟨k2,by omega,_,_,H,rfl,h7⟩
 refine T4 (T9 (Za [2] ?_));cases H;exact T8 (jR0 h6 [])

def Q145.l0:Nat->Tr->(Int)->(Int)->Option (Int)
 | 0,_,_,_=>none
 | k+1,a0,x1,x2=>if (decide (x2<a0.2.2.2.2.2.1))=true then (Q145.l0 k a0 (w64 ((w64 ((w64 (x1+3))+a0.2.2.2.2.2.2.1))+a0.2.2.2.2.2.2.2)) (w64 (x2+1))) else (some x1)
def Q145.f (k:Nat) (a0:Tr):Option (Int):=(Q147.f a0).bind fun r1=>(if (!r1)=true then (some 0) else (Q145.l0 k a0 8 0))
theorem Q145.spec {k a0 r} (H:Q145.f k a0=some r) :
  Spec prog 41 [.agg #[.int .i64 a0.1,.int .i64 a0.2.1,.int .i64 a0.2.2.1,.int .i64 a0.2.2.2.1,.int .i64 a0.2.2.2.2.1,.int .i64 a0.2.2.2.2.2.1,.int .i64 a0.2.2.2.2.2.2.1,.int .i64 a0.2.2.2.2.2.2.2]] [] [] (fun v l=>v=.int .i64 r/\l=[]):=by
 refine Zg Tryz.func41 fun w0 F0 h0=>?_;unfold Q145.f at H;refine T9 (T7 (rB (Z2 h0) fun b1 w1 h1=>?_));refine rFi [1] ?_;refine T9 (T9 (T7 (rLo 0 h1 ?_)));refine cS H [] h1 rfl Q147.spec Zm fun r1 w2 H h2=>?_;refine rFi [1,7] ?_;refine jIf H (fun c1 H=>?_) fun c1 H=>?_
 ·refine T9 (Za [2] ?_);cases H;exact T8 (jR0 h2 [])
 refine Sa (T9 (Za [1,3] ?_));refine T9 (T9 (Za [1,3,4] ?_));refine T1 ?_;have h5:=(sOR h2 [0] []);refine T5 (fun kk env w=>∃ x1 x2,Q145.l0 kk a0 x1 x2=some r/\env=[(1,.pointer (some ⟨b1,0,none⟩)),(3,.int .i64 x1),(4,.int .i64 x2)]/\St w0 F0 [X23 b1 a0.1 a0.2.1 a0.2.2.1 a0.2.2.2.1 a0.2.2.2.2.1 a0.2.2.2.2.2.1 a0.2.2.2.2.2.2.1 a0.2.2.2.2.2.2.2] [] w) (k:=k) ⟨_,_,H,rfl,h5⟩ ?_;rintro k1 env w3 ⟨x1,x2,H,rfl,h3⟩;rcases k1 with _ | k1
 ·exact z0 H
 rw [Q145.l0] at H;refine T9 (T9 (T7 (rRL 2 0 h3 ?_)));refine rFi [1,3,4,11] ?_;refine jIf H (fun c2 H=>?_) fun c2 H=>?_
 ·refine Sa (T9 (T1 (T7 (rRL 3 0 h3 ?_))));refine rRL 2 0 h3 ?_;refine rFi [1,3,4] ?_;refine Za [1,3,4] ?_;have h4:=(sOR h3 [0] []);exact ⟨k1,by omega,_,_,H,rfl,h4⟩
 refine T4 (T9 (Za [2] ?_));cases H;exact T8 (jR0 h3 [])

def Q146.f (k:Nat) (a0:Tr):Option (Bool):=(Q147.f a0).bind fun r1=>(if r1=true then ((Q148.f a0.1 5 65536).bind fun r2=>(if r2=true then ((Q148.f a0.2.2.1 8 64).bind fun r3=>(if r3=true then ((Q148.f a0.2.1 64 65536).bind fun r4=>(if r4=true then ((Q144.f k a0).bind fun r5=>(if (decide (r5<=a0.2.1))=true then ((Q145.f k a0).bind fun r6=>(some (decide (r6<=a0.2.1)))) else (some false))) else (some false))) else (some false))) else (some false))) else (some false))
theorem Q146.spec {k a0 r} (H:Q146.f k a0=some r) :
  Spec prog 20 [.agg #[.int .i64 a0.1,.int .i64 a0.2.1,.int .i64 a0.2.2.1,.int .i64 a0.2.2.2.1,.int .i64 a0.2.2.2.2.1,.int .i64 a0.2.2.2.2.2.1,.int .i64 a0.2.2.2.2.2.2.1,.int .i64 a0.2.2.2.2.2.2.2]] [] [] (fun v l=>v=.bool r/\l=[]):=by
 refine Zg Tryz.func20 fun w0 F0 h0=>?_;unfold Q146.f at H;refine T9 (T7 (rB (Z2 h0) fun b1 w1 h1=>?_));refine rFi [1] ?_;refine T9 (jH h1 fun h2=>?_);refine Ze 0 rfl (Zf 0 wI) ?_;refine cSJ 1 rfl H [] h2 rfl Q147.spec Zm 0 fun r1 w2 H h3=>?_;refine Zp [2] ?_;refine Wa 5 H (fun c1 H=>?_) fun c1 H=>?_
 ·refine Zp [3] ?_;refine Ze 4 rfl (Zf 0 wI) ?_;refine cSJ 5 rfl H [] h3 rfl Q148.spec Zm 0 fun r2 w3 H h4=>?_;refine Zp [6,7] ?_;refine Wa 10 H (fun c2 H=>?_) fun c2 H=>?_
  ·refine Zp [8] ?_;refine Ze 9 rfl (Zf 0 wI) ?_;refine cSJ 10 rfl H [] h4 rfl Q148.spec Zm 0 fun r3 w4 H h5=>?_;refine Zp [11,12] ?_;refine Wa 15 H (fun c3 H=>?_) fun c3 H=>?_
   ·refine Zp [13] ?_;refine Ze 14 rfl (Zf 0 wI) ?_;refine cSJ 15 rfl H [] h5 rfl Q148.spec Zm 0 fun r4 w5 H h6=>?_;refine Zp [16,17] ?_;refine Wa 20 H (fun c4 H=>?_) fun c4 H=>?_
    ·refine Zp [18] ?_;refine Ze 19 rfl (Zf 0 wI) ?_;refine Ze 20 rfl (Zf 0 wI) ?_;refine cSJ 21 rfl H [] h6 rfl Q144.spec Zm 0 fun r5 w6 H h7=>?_;refine Zp [22,23,24] ?_;refine Wa 27 H (fun c5 H=>?_) fun c5 H=>?_
     ·refine Zp [25] ?_;refine Ze 26 rfl (Zf 0 wI) ?_;refine Ze 27 rfl (Zf 0 wI) ?_;refine cSJ 28 rfl H [] h7 rfl Q145.spec Zm 0 fun r6 w7 H h8=>?_;refine hRF [29,30,31] [2] ?_;cases H;exact T8 (jR0 h8 [])
     refine hRF [25,26,27,28,29,30,31] [2] ?_;cases H;exact T8 (jR0 h7 [])
    refine hRF [18,19,20,21,22,23,24,25,26,27,28,29,30,31] [2] ?_;cases H;exact T8 (jR0 h6 [])
   refine hRF [13,14,15,16,17,18,19,20,21,22,23,24,25,26,27,28,29,30,31] [2] ?_;cases H;exact T8 (jR0 h5 [])
  refine hRF [8,9,10,11,12,13,14,15,16,17,18,19,20,21,22,23,24,25,26,27,28,29,30,31] [2] ?_;cases H;exact T8 (jR0 h4 [])
 refine hRF [3,4,5,6,7,8,9,10,11,12,13,14,15,16,17,18,19,20,21,22,23,24,25,26,27,28,29,30,31] [2] ?_;cases H;exact T8 (jR0 h3 [])

def Q131.f (k:Nat) (a0:Tr):Option (Bool):=(Q146.f k a0).bind fun r1=>(if r1=true then (if (decide (a0.2.1<=3000))=true then (some (decide (a0.1<=400))) else (some false)) else (some false))
theorem Q131.spec {k a0 r} (H:Q131.f k a0=some r) :
  Spec prog 12 [.agg #[.int .i64 a0.1,.int .i64 a0.2.1,.int .i64 a0.2.2.1,.int .i64 a0.2.2.2.1,.int .i64 a0.2.2.2.2.1,.int .i64 a0.2.2.2.2.2.1,.int .i64 a0.2.2.2.2.2.2.1,.int .i64 a0.2.2.2.2.2.2.2]] [] [] (fun v l=>v=.bool r/\l=[]):=by
 refine Zg Tryz.func12 fun w0 F0 h0=>?_;unfold Q131.f at H;refine T9 (T7 (rB (Z2 h0) fun b1 w1 h1=>?_));refine rFi [1] ?_;refine T9 (T7 (rLo 0 h1 ?_));refine cS H [] h1 rfl Q146.spec Zm fun r1 w2 H h2=>?_;refine Zd 1 ?_;refine Z3 5 H (fun c1 H=>?_) fun c1 H=>?_
 ·refine rRL 1 0 h2 ?_;refine Zd 3 ?_;refine Z3 10 H (fun c2 H=>?_) fun c2 H=>?_
  ·refine rRL 1 0 h2 ?_;refine rFi [2] ?_;cases H;exact T8 (jR0 h2 [])
  refine rFi [2] ?_;cases H;exact T8 (jR0 h2 [])
 refine rFi [2] ?_;cases H;exact T8 (jR0 h2 [])

def Q59.f (a0:Int) (a1:Int):Option (Bool):=if (decide (5<=a0))=true then (if (decide (a0<=65536))=true then (if (decide (1<=a1))=true then (some (decide (a1<=65536))) else (some false)) else (some false)) else (some false)
theorem Q59.spec {a0 a1 r} (H:Q59.f a0 a1=some r) :
  Spec prog 42 [.int .i64 a0,.int .i64 a1] [] [] (fun v l=>v=.bool r/\l=[]):=by
 refine Zg Tryz.func42 fun w0 F0 h0=>?_;unfold Q59.f at H;refine T9 (Za [0,1] ?_);refine T9 (T7 (Zd 3 ?_));refine Z3 7 H (fun c1 H=>?_) fun c1 H=>?_
 ·refine Zd 4 ?_;refine Z3 11 H (fun c2 H=>?_) fun c2 H=>?_
  ·refine Zd 4 ?_;refine Z3 15 H (fun c3 H=>?_) fun c3 H=>?_
   ·refine rFi [4] ?_;cases H;exact T8 (jR0 h0 [])
   refine rFi [4] ?_;cases H;exact T8 (jR0 h0 [])
  refine rFi [4] ?_;cases H;exact T8 (jR0 h0 [])
 refine rFi [4] ?_;cases H;exact T8 (jR0 h0 [])

def Q58.f (a0:Int) (a1:Int):Option (Option TE×Int):=(Q59.f a0 a1).bind fun r1=>(if (!r1)=true then (some (none,2)) else (if 0<=(w64 (a0*a1))/\(w64 (a0*a1))*1<=281474976710656 then (some ((some (a1,(List.replicate ((w64 (a0*a1)).toNat) (0:Int)),(0,0))),0)) else none))
theorem Q58.spec {a0 a1 r} (H:Q58.f a0 a1=some r) :
  Spec prog 21 [.int .i64 a0,.int .i64 a1] [] [] (fun v l=>∃(pv:Value) (lp:List Ch),OptC r.1 (fun d pv lp=>∃ b_0 A_1 c_1,pv=.pointer (some ⟨b_0,0,none⟩)/\lp=[X98 b_0 d.1 d.2.1 A_1 c_1 d.2.2.1 d.2.2.2,O5 d.2.1 A_1 c_1]) pv lp/\v=.tuple #[pv,.int .i64 r.2]/\l=lp ++ []):=by
 refine Zg Tryz.func21 fun w0 F0 h0=>?_;unfold Q58.f at H;refine T9 (Za [0,1] ?_);refine T9 (T9 (T7 (Zd 2 ?_)));refine cS H [] h0 rfl Q59.spec Zm fun r1 w1 H h1=>?_;refine rFi [0,1,9] ?_;refine jIf H (fun c1 H=>?_) fun c1 H=>?_
 ·refine T9 (Za [4,5] ?_);cases H;exact T8 (jR ⟨_,_,Sd,rfl,rfl⟩ h1 [])
 refine Sa (T9 (T7 (Zd 4 ?_)));obtain ⟨⟨p1,p2⟩,H⟩:=Zk H;refine rB (Zag Z0 (ty:=(.int .u8)) rfl (0:Int) rfl rfl rfl rfl rfl rfl rfl (by decide) h1 p1 p2) fun b1 w2 h2=>?_;refine Zd 1 ?_;refine rB (Z2 h2) fun b2 w3 h3=>?_;refine rFi [4,5] ?_;cases H;exact T8 (jR ⟨_,_,(Se ⟨_,_,_,rfl,rfl⟩),rfl,rfl⟩ h3 [0,0])

def Q53.f (a0:Tr):Option (Bool):=if (decide (a0.2.2.2.1<8))=true then (some false) else (if (decide (64<a0.2.2.2.1))=true then (some false) else (if (decide (a0.2.2.2.2.1<(w64 (2*a0.2.2.2.1))))=true then (some false) else (if (decide (512<a0.2.2.2.2.1))=true then (some false) else (if (decide (a0.2.2.2.2.2.1<a0.2.2.2.2.1))=true then (some false) else (if (decide (1024<a0.2.2.2.2.2.1))=true then (some false) else (if (decide (a0.2.2.2.2.2.2.1<1))=true then (some false) else (if (decide (64<a0.2.2.2.2.2.2.1))=true then (some false) else (if (decide (a0.2.2.2.2.2.2.2<0))=true then (some false) else (if (decide (256<a0.2.2.2.2.2.2.2))=true then (some false) else (some true))))))))))
theorem Q53.spec {a0 r} (H:Q53.f a0=some r) :
  Spec prog 72 [.agg #[.int .i64 a0.1,.int .i64 a0.2.1,.int .i64 a0.2.2.1,.int .i64 a0.2.2.2.1,.int .i64 a0.2.2.2.2.1,.int .i64 a0.2.2.2.2.2.1,.int .i64 a0.2.2.2.2.2.2.1,.int .i64 a0.2.2.2.2.2.2.2]] [] [] (fun v l=>v=.bool r/\l=[]):=by
 refine Zg Tryz.func72 fun w0 F0 h0=>?_;unfold Q53.f at H;refine T9 (T7 (rB (Z2 h0) fun b1 w1 h1=>?_));refine rFi [1] ?_;refine T9 (T1 (T9 (T7 (rRL 1 0 h1 ?_))));refine Zd 2 ?_;refine Z3 7 H (fun c1 H=>?_) fun c1 H=>?_
 ·refine rFi [1,3] ?_;refine Zo ?_;refine Sa (T9 (Za [2] ?_));cases H;exact T8 (jR0 h1 [])
 refine rRL 1 0 h1 ?_;refine rFi [1,3] ?_;refine jIf H (fun c2 H=>?_) fun c2 H=>?_
 ·refine Sa (T9 (Za [2] ?_));cases H;exact T8 (jR0 h1 [])
 refine T9 (T7 (rRL 1 0 h1 ?_));refine rRL 1 0 h1 ?_;refine Zd 3 ?_;refine Z3 19 H (fun c3 H=>?_) fun c3 H=>?_
 ·refine rFi [1,12] ?_;refine Zo ?_;refine Sa (T9 (Za [2] ?_));cases H;exact T8 (jR0 h1 [])
 refine rRL 1 0 h1 ?_;refine rFi [1,12] ?_;refine jIf H (fun c4 H=>?_) fun c4 H=>?_
 ·refine Sa (T9 (Za [2] ?_));cases H;exact T8 (jR0 h1 [])
 refine T9 (T7 (rRL 1 0 h1 ?_));refine rRL 1 0 h1 ?_;refine Zd 2 ?_;refine Z3 30 H (fun c5 H=>?_) fun c5 H=>?_
 ·refine rFi [1,24] ?_;refine Zo ?_;refine Sa (T9 (Za [2] ?_));cases H;exact T8 (jR0 h1 [])
 refine rRL 1 0 h1 ?_;refine rFi [1,24] ?_;refine jIf H (fun c6 H=>?_) fun c6 H=>?_
 ·refine Sa (T9 (Za [2] ?_));cases H;exact T8 (jR0 h1 [])
 refine T9 (T7 (rRL 1 0 h1 ?_));refine Zd 2 ?_;refine Z3 39 H (fun c7 H=>?_) fun c7 H=>?_
 ·refine rFi [1,35] ?_;refine Zo ?_;refine Sa (T9 (Za [2] ?_));cases H;exact T8 (jR0 h1 [])
 refine rRL 1 0 h1 ?_;refine rFi [1,35] ?_;refine jIf H (fun c8 H=>?_) fun c8 H=>?_
 ·refine Sa (T9 (Za [2] ?_));cases H;exact T8 (jR0 h1 [])
 refine T9 (T7 (rRL 1 0 h1 ?_));refine Zd 2 ?_;refine Z3 48 H (fun c9 H=>?_) fun c9 H=>?_
 ·refine rFi [44] ?_;refine Zo ?_;refine Sa (T9 (Za [2] ?_));cases H;exact T8 (jR0 h1 [])
 refine rRL 1 0 h1 ?_;refine rFi [44] ?_;refine jIf H (fun c10 H=>?_) fun c10 H=>?_
 ·refine Sa (T9 (Za [2] ?_));cases H;exact T8 (jR0 h1 [])
 refine T9 (Za [2] ?_);cases H;exact T8 (jR0 h1 [])

def Q50.f (a0:Tr):Option (Int):=(Q53.f a0).bind fun r1=>(if (!r1)=true then (some 0) else (some (w64 ((w64 ((w64 (8+(w64 (4*a0.2.2.2.1))))+(w64 ((w64 (a0.2.2.2.1 - 1))*(w64 (1+a0.2.2.2.2.2.2.1))))))+(w64 (a0.2.2.2.2.1*(w64 ((w64 (4+a0.2.2.2.2.2.2.1))+a0.2.2.2.2.2.2.2))))))))
theorem Q50.spec {a0 r} (H:Q50.f a0=some r) :
  Spec prog 108 [.agg #[.int .i64 a0.1,.int .i64 a0.2.1,.int .i64 a0.2.2.1,.int .i64 a0.2.2.2.1,.int .i64 a0.2.2.2.2.1,.int .i64 a0.2.2.2.2.2.1,.int .i64 a0.2.2.2.2.2.2.1,.int .i64 a0.2.2.2.2.2.2.2]] [] [] (fun v l=>v=.int .i64 r/\l=[]):=by
 refine Zg Tryz.func108 fun w0 F0 h0=>?_;unfold Q50.f at H;refine T9 (T7 (rB (Z2 h0) fun b1 w1 h1=>?_));refine rFi [1] ?_;refine T9 (T9 (T7 (rLo 0 h1 ?_)));refine cS H [] h1 rfl Q53.spec Zm fun r1 w2 H h2=>?_;refine rFi [1,5] ?_;refine jIf H (fun c1 H=>?_) fun c1 H=>?_
 ·refine T9 (Za [2] ?_);cases H;exact T8 (jR0 h2 [])
 refine Sa (T9 (T7 (rRL 1 0 h2 ?_)));refine rRL 3 0 h2 ?_;refine rRL 2 0 h2 ?_;refine rRL 4 0 h2 ?_;refine rRL 1 0 h2 ?_;refine rRL 2 0 h2 ?_;refine rFi [2] ?_;cases H;exact T8 (jR0 h2 [])

def Q52.f (a0:Tr):Option (Int):=(Q53.f a0).bind fun r1=>(if (!r1)=true then (some 0) else (some (w64 (8+(w64 (a0.2.2.2.2.2.1*(w64 ((w64 (3+a0.2.2.2.2.2.2.1))+a0.2.2.2.2.2.2.2))))))))
theorem Q52.spec {a0 r} (H:Q52.f a0=some r) :
  Spec prog 109 [.agg #[.int .i64 a0.1,.int .i64 a0.2.1,.int .i64 a0.2.2.1,.int .i64 a0.2.2.2.1,.int .i64 a0.2.2.2.2.1,.int .i64 a0.2.2.2.2.2.1,.int .i64 a0.2.2.2.2.2.2.1,.int .i64 a0.2.2.2.2.2.2.2]] [] [] (fun v l=>v=.int .i64 r/\l=[]):=by
 refine Zg Tryz.func109 fun w0 F0 h0=>?_;unfold Q52.f at H;refine T9 (T7 (rB (Z2 h0) fun b1 w1 h1=>?_));refine rFi [1] ?_;refine T9 (T9 (T7 (rLo 0 h1 ?_)));refine cS H [] h1 rfl Q53.spec Zm fun r1 w2 H h2=>?_;refine rFi [1,5] ?_;refine jIf H (fun c1 H=>?_) fun c1 H=>?_
 ·refine T9 (Za [2] ?_);cases H;exact T8 (jR0 h2 [])
 refine Sa (T9 (T7 (rRL 1 0 h2 ?_)));refine rRL 1 0 h2 ?_;refine rRL 2 0 h2 ?_;refine rFi [2] ?_;cases H;exact T8 (jR0 h2 [])

def Q51.f (a0:Tr):Option (Tr):=(Q53.f a0).bind fun r1=>(if r1=true then ((Q50.f a0).bind fun r2=>((Q52.f a0).bind fun r3=>(some (a0.1,(if r3>(if r2>(64:Int) then r2 else (64:Int)) then r3 else (if r2>(64:Int) then r2 else (64:Int))),a0.2.2.1,a0.2.2.2.1,a0.2.2.2.2.1,a0.2.2.2.2.2.1,a0.2.2.2.2.2.2.1,a0.2.2.2.2.2.2.2)))) else (some a0))
theorem Q51.spec {a0 r} (H:Q51.f a0=some r) :
  Spec prog 73 [.agg #[.int .i64 a0.1,.int .i64 a0.2.1,.int .i64 a0.2.2.1,.int .i64 a0.2.2.2.1,.int .i64 a0.2.2.2.2.1,.int .i64 a0.2.2.2.2.2.1,.int .i64 a0.2.2.2.2.2.2.1,.int .i64 a0.2.2.2.2.2.2.2]] [] [] (fun v l=>v=.agg #[.int .i64 r.1,.int .i64 r.2.1,.int .i64 r.2.2.1,.int .i64 r.2.2.2.1,.int .i64 r.2.2.2.2.1,.int .i64 r.2.2.2.2.2.1,.int .i64 r.2.2.2.2.2.2.1,.int .i64 r.2.2.2.2.2.2.2]/\l=[]):=by
 refine Zg Tryz.func73 fun w0 F0 h0=>?_;unfold Q51.f at H;refine T9 (T7 (rB (Z2 h0) fun b1 w1 h1=>?_));refine rB (Yw h1) fun b2 w2 h2=>?_;refine rFi [1,2] ?_;refine T9 (T9 (T7 (rLo 1 h2 ?_)));refine cS H [] h2 rfl Q53.spec Zm fun r1 w3 H h3=>?_;refine rFi [1,2,4] ?_;refine jIf H (fun c1 H=>?_) fun c1 H=>?_
 ·obtain ⟨r2,q2,H⟩:=Yh H;obtain ⟨r3,q3,H⟩:=Yh H;refine T6 (fun env w=>env=[(1,.pointer (some ⟨b1,0,none⟩)),(2,.pointer (some ⟨b2,0,none⟩))]/\St w0 F0 [X23 b1 a0.1 (if r3>(if r2>(64:Int) then r2 else (64:Int)) then r3 else (if r2>(64:Int) then r2 else (64:Int))) a0.2.2.1 a0.2.2.2.1 a0.2.2.2.2.1 a0.2.2.2.2.2.1 a0.2.2.2.2.2.2.1 a0.2.2.2.2.2.2.2,X23 b2 0 0 0 0 0 0 0 0] [] w) ?_ ?_
  ·refine Zw (sO h3 [0]) ?_;have h7:=h3.drew;refine HJ.named fun G E hE hG=>?_;have j13:∀ w33,St w0 F0 [X23 b2 0 0 0 0 0 0 0 0,X23 b1 a0.1 a0.2.1 a0.2.2.1 a0.2.2.2.1 a0.2.2.2.2.1 a0.2.2.2.2.2.1 a0.2.2.2.2.2.2.1 a0.2.2.2.2.2.2.2] [] w33->G [2,1,0] ((7,.agg #[.int .i64 a0.1,.int .i64 a0.2.1,.int .i64 a0.2.2.1,.int .i64 a0.2.2.2.1,.int .i64 a0.2.2.2.2.1,.int .i64 a0.2.2.2.2.2.1,.int .i64 a0.2.2.2.2.2.2.1,.int .i64 a0.2.2.2.2.2.2.2]) :: (6,.int .i64 r2) :: (5,.agg #[.int .i64 a0.1,.int .i64 a0.2.1,.int .i64 a0.2.2.1,.int .i64 a0.2.2.2.1,.int .i64 a0.2.2.2.2.1,.int .i64 a0.2.2.2.2.2.1,.int .i64 a0.2.2.2.2.2.2.1,.int .i64 a0.2.2.2.2.2.2.2]) :: E) w33:=by
    intro w33 h21;subst hE;refine (hG _ _ _).1 ?_;refine Yc 3 rfl (Ut [] (Q52.spec q3) h21 rfl Zm) ?_;rintro _ w38 ⟨_,⟨rfl,rfl⟩,h22⟩;replace h22:=nf h22;refine ⟨⟨[_],(sO h22 [1,0])⟩,?_⟩;refine Ze 4 rfl Zlj ?_;refine Zp [5] ?_;refine hS 6 rfl (Zs 1 h22) 1 fun _ w39 h23=>?_;refine Y8 [1,2] ?_;exact Y5 ⟨rfl,(sOR h23 [0,0] [])⟩
   have j14:∀ w3,St w0 F0 [X23 b2 0 0 0 0 0 0 0 0,X23 b1 a0.1 a0.2.1 a0.2.2.1 a0.2.2.2.1 a0.2.2.2.2.1 a0.2.2.2.2.2.1 a0.2.2.2.2.2.2.1 a0.2.2.2.2.2.2.2] [] w3->G [2,0] ((7,.agg #[.int .i64 a0.1,.int .i64 a0.2.1,.int .i64 a0.2.2.1,.int .i64 a0.2.2.2.1,.int .i64 a0.2.2.2.2.1,.int .i64 a0.2.2.2.2.2.1,.int .i64 a0.2.2.2.2.2.2.1,.int .i64 a0.2.2.2.2.2.2.2]) :: (5,.agg #[.int .i64 a0.1,.int .i64 a0.2.1,.int .i64 a0.2.2.1,.int .i64 a0.2.2.2.1,.int .i64 a0.2.2.2.2.1,.int .i64 a0.2.2.2.2.2.1,.int .i64 a0.2.2.2.2.2.2.1,.int .i64 a0.2.2.2.2.2.2.2]) :: E) w3:=by
    intro w3 h7;subst hE;refine (hG _ _ _).1 ?_;refine Yc 1 rfl (Ut [] (Q50.spec q2) h7 rfl Zm) ?_;rintro _ w40 ⟨_,⟨rfl,rfl⟩,h24⟩;replace h24:=nf h24;refine ⟨⟨[_],(sO h24 [1,0])⟩,?_⟩;exact ((hG _ _ _).2 (j13 _ h24)).re [1,0,2] 3
   subst hE;refine (hG _ _ _).1 ?_;refine TZ [0,2] (i:=0) rfl rfl rfl rfl ?_;refine (Y3 ?_ (Y3 ?_ V5))
   ·refine Yt 0 rfl (Sc (Zf 1 h7.wht)) ?_;rintro _ _ ⟨rfl,rfl⟩;replace h7:=nf h7;refine ⟨⟨[_],(sO h7 [1,0])⟩,?_⟩;refine TZ [1,2] (i:=1) rfl rfl rfl rfl ?_;refine (Y3 ?_ (Y3 ?_ V5))
    ·refine Yt 1 rfl (Ut [] (Q50.spec q2) h7 rfl Zm) ?_;rintro _ w33 ⟨_,⟨rfl,rfl⟩,h21⟩;replace h21:=nf h21;refine ⟨⟨[_],(sO h21 [1,0])⟩,?_⟩;refine Yc 2 rfl (Sc (Zf 1 h21.wht)) ?_;rintro _ _ ⟨rfl,rfl⟩;replace h21:=nf h21;refine ⟨⟨[_],(sO h21 [1,0])⟩,?_⟩;exact (hG _ _ _).2 (j13 _ h21)
    ·refine Yt 2 rfl (Sc (Zf 1 h7.wht)) ?_;rintro _ _ ⟨rfl,rfl⟩;replace h7:=nf h7;refine ⟨⟨[_],(sO h7 [1,0])⟩,?_⟩;exact (hG _ _ _).2 (j14 _ h7)
   ·refine Yt 2 rfl (Sc (Zf 1 h7.wht)) ?_;rintro _ _ ⟨rfl,rfl⟩;replace h7:=nf h7;refine ⟨⟨[_],(sO h7 [1,0])⟩,?_⟩;refine Yc 0 rfl (Sc (Zf 1 h7.wht)) ?_;rintro _ _ ⟨rfl,rfl⟩;replace h7:=nf h7;refine ⟨⟨[_],(sO h7 [1,0])⟩,?_⟩;exact ((hG _ _ _).2 (j14 _ h7)).re [1,0] 2
  rintro env w55 ⟨rfl,h34⟩;refine T9 (T7 (rLo 0 h34 ?_));refine rS (Zs 1 h34) fun _ w56 h35=>?_;refine rFi [2] ?_;cases H;exact T8 (jR2 (Z9 (Si Z0 0 h35 rfl rfl rfl rfl) X1) ⟨rfl,rfl⟩ h35 [])
 refine Sa (T9 (T7 (rLo 1 h3 ?_)));refine rS (Zs 0 h3) fun _ w57 h36=>?_;refine rFi [2] ?_;cases H;exact T8 (jR2 (Z9 (Si Z0 0 h36 rfl rfl rfl rfl) X1) ⟨rfl,rfl⟩ h36 [])

def Q49.f (a0:Tr):Option (Int):=(Q53.f a0).bind fun r1=>(if r1=true then (if (decide (5<=a0.1))=true then (if (decide (a0.1<=65536))=true then (if (decide (8<=a0.2.2.1))=true then (if (!(decide (a0.2.2.1<=64)))=true then (some 2) else (if (decide (65536<a0.2.1))=true then (some 2) else ((Q51.f a0).bind fun r2=>(if (decide (a0.2.1<r2.2.1))=true then (some 2) else (some 0))))) else (some 2)) else (some 2)) else (some 2)) else (some 2))
theorem Q49.spec {a0 r} (H:Q49.f a0=some r) :
  Spec prog 43 [.agg #[.int .i64 a0.1,.int .i64 a0.2.1,.int .i64 a0.2.2.1,.int .i64 a0.2.2.2.1,.int .i64 a0.2.2.2.2.1,.int .i64 a0.2.2.2.2.2.1,.int .i64 a0.2.2.2.2.2.2.1,.int .i64 a0.2.2.2.2.2.2.2]] [] [] (fun v l=>v=.int .i64 r/\l=[]):=by
 refine Zg Tryz.func43 fun w0 F0 h0=>?_;unfold Q49.f at H;refine T9 (T7 (rB (Z2 h0) fun b1 w1 h1=>?_));refine rFi [1] ?_;refine T9 (T7 (rLo 0 h1 ?_));refine cS H [] h1 rfl Q53.spec Zm fun r1 w2 H h2=>?_;refine Zd 1 ?_;refine Z3 6 H (fun c1 H=>?_) fun c1 H=>?_
 ·refine rRL 1 0 h2 ?_;refine Zd 3 ?_;refine Z3 11 H (fun c2 H=>?_) fun c2 H=>?_
  ·refine rRL 1 0 h2 ?_;refine Zd 3 ?_;refine Z3 16 H (fun c3 H=>?_) fun c3 H=>?_
   ·refine rRL 1 0 h2 ?_;refine Zd 3 ?_;refine Z3 21 H (fun c4 H=>?_) fun c4 H=>?_
    ·refine rRL 1 0 h2 ?_;refine rFi [1,3] ?_;refine T9 (T9 (jH h2 fun h3=>?_));refine Zp [0,1,2] ?_;refine Wa 28 H (fun c5 H=>?_) fun c5 H=>?_
     ·refine hRF [3,4,5,6,7,8,9,10,11,12,13,14] [40] ?_;refine Zo ?_;refine T9 (Za [2] ?_);cases H;exact T8 (jR0 h3 [])
     refine Zp [3] ?_;refine Ze 4 rfl (Zf 0 wI) ?_;refine Zp [5,6,7] ?_;refine Wa 33 H (fun c6 H=>?_) fun c6 H=>?_
     ·refine hRF [8,9,10,11,12,13,14] [40] ?_;refine Zo ?_;refine T9 (Za [2] ?_);cases H;exact T8 (jR0 h3 [])
     refine Zp [8] ?_;refine Ze 9 rfl (Zf 0 wI) ?_;refine Ze 10 rfl (Zf 0 wI) ?_;refine cSJ 11 rfl H [] h3 rfl Q51.spec Zm 0 fun r2 w3 H h4=>?_;refine hRF [12,13,14] [40] ?_;refine jIf H (fun c7 H=>?_) fun c7 H=>?_
     ·refine T9 (Za [2] ?_);cases H;exact T8 (jR0 h4 [])
     refine Sa (T9 (Za [2] ?_));cases H;exact T8 (jR0 h4 [])
    refine rFi [1,3] ?_;refine T9 (T9 (jH h2 fun h5=>?_));refine hRF [0,1,2,3,4,5,6,7,8,9,10,11,12,13,14] [40] ?_;refine Zo ?_;refine T9 (Za [2] ?_);cases H;exact T8 (jR0 h5 [])
   refine rFi [1,3] ?_;refine T9 (T9 (jH h2 fun h6=>?_));refine hRF [0,1,2,3,4,5,6,7,8,9,10,11,12,13,14] [40] ?_;refine Zo ?_;refine T9 (Za [2] ?_);cases H;exact T8 (jR0 h6 [])
  refine rFi [1,3] ?_;refine T9 (T9 (jH h2 fun h7=>?_));refine hRF [0,1,2,3,4,5,6,7,8,9,10,11,12,13,14] [40] ?_;refine Zo ?_;refine T9 (Za [2] ?_);cases H;exact T8 (jR0 h7 [])
 refine rFi [1,3] ?_;refine T9 (T9 (jH h2 fun h8=>?_));refine hRF [0,1,2,3,4,5,6,7,8,9,10,11,12,13,14] [40] ?_;refine Zo ?_;refine T9 (Za [2] ?_);cases H;exact T8 (jR0 h8 [])

def Q54.f (a0:TE):Option (Int):=if (decide (a0.1=0))=true then (some 0) else (if 0<a0.1 then (some (w64 (Int.tdiv (a0.2.1.length:Int) a0.1))) else none)
theorem Q54.spec {a0 b1 A1 c_1 r} (H:Q54.f a0=some r) :
  Spec prog 45 [.pointer (some ⟨b1,0,none⟩)] (Zb6 a0 b1 A1 c_1) [] (fun v l=>v=.int .i64 r/\l=Zb6 a0 b1 A1 c_1):=by
 refine eN Tryz.func45 fun w0 F0 h0=>?_;unfold Q54.f at H;refine T9 (Za [0] ?_);refine T9 (T9 (T7 (rRL 6 0 h0 ?_)));refine rFi [0,11] ?_;refine jIf H (fun c1 H=>?_) fun c1 H=>?_
 ·refine T9 (Za [2] ?_);cases H;exact T8 (jR0 h0 [0,0])
 refine Sa (T9 (jH h0 fun h1=>?_));refine Zp [0,1,2,5,6,7] ?_;refine Ze 3 rfl (Zf 0 wI) ?_;refine Zp [4] ?_;refine Ze 8 rfl (Zf 0 wI) ?_;obtain ⟨p1,H⟩:=Zk H;refine Ze 9 rfl (Zmo p1) ?_;refine hRF [10] [2] ?_;cases H;exact T8 (jR0 h1 [0,0])

def Q35.f (a0:Int):Option (Option TC×Int):=if (decide (a0<1))=true then (some (none,2)) else (if (decide (4096<a0))=true then (some (none,2)) else (if 0<=(w64 (a0+1))/\(w64 (a0+1))*24<=281474976710656 then (if 0<=a0/\a0<((List.replicate ((w64 (a0+1)).toNat) ((0,0,false):Int×Int×Bool)).length:Int) then (some ((some (((List.replicate ((w64 (a0+1)).toNat) ((0,0,false):Int×Int×Bool)).set a0.toNat (a0,a0,false)),0)),0)) else none) else none))
theorem Q35.spec {a0 r} (H:Q35.f a0=some r) :
  Spec prog 74 [.int .i64 a0] [] [] (fun v l=>∃(pv:Value) (lp:List Ch),OptC r.1 (fun d pv lp=>∃ b_0 A_1 c_1,pv=.pointer (some ⟨b_0,0,none⟩)/\lp=[Yz b_0 d.1 A_1 c_1 d.2,Y0 d.1 A_1 c_1]) pv lp/\v=.tuple #[pv,.int .i64 r.2]/\l=lp ++ []):=by
 refine Zg Tryz.func74 fun w0 F0 h0=>?_;unfold Q35.f at H;refine T9 (Za [0] ?_);refine T9 (T9 (T7 (Zd 3 ?_)));refine Z3 7 H (fun c1 H=>?_) fun c1 H=>?_
 ·refine rFi [0,10] ?_;refine Zo ?_;refine T9 (Za [2,3] ?_);cases H;exact T8 (jR ⟨_,_,Sd,rfl,rfl⟩ h0 [])
 refine rFi [0,10] ?_;refine jIf H (fun c2 H=>?_) fun c2 H=>?_
 ·refine T9 (Za [2,3] ?_);cases H;exact T8 (jR ⟨_,_,Sd,rfl,rfl⟩ h0 [])
 refine Sa (T9 (T7 (Zd 2 ?_)));obtain ⟨⟨p1,p2⟩,H⟩:=Zk H;refine rB (Zag Z0 (ty:=(.pair (.int .i64) (.pair (.int .i64) .bool))) rfl ((0,0,false):Int×Int×Bool) rfl rfl rfl rfl rfl rfl rfl (by decide) h0 p1 p2) fun b1 w1 h1=>?_;refine Zd 1 ?_;refine rB (Z2 h1) fun b2 w2 h2=>?_;refine rFi [0,4] ?_;refine T9 (T7 (rRL 3 0 h2 ?_));refine Zd 4 ?_;refine rI H h2 (gO 1) fun p3 p4 e1 H=>?_;refine rS (Zn 0 (.pair (.int .i64) (.pair (.int .i64) .bool)) a0 (a0,a0,false) 1 h2 rfl p3 p4) fun _ w3 h3=>?_;replace h3:St w0 F0 [Y0 ((List.replicate ((w64 (a0+1)).toNat) ((0,0,false):Int×Int×Bool)).set a0.toNat (a0,a0,false)) (some ⟨b1,0,none⟩) ((w64 (a0+1)).toNat),Yz b2 ((List.replicate ((w64 (a0+1)).toNat) ((0,0,false):Int×Int×Bool)).set a0.toNat (a0,a0,false)) (some ⟨b1,0,none⟩) ((w64 (a0+1)).toNat) 0] _ _:=h3.retell (by simp only [length_set,length_nil,Y0,Yz] <;> rfl);refine rFi [4] ?_;refine T9 (Za [2,3] ?_);cases H;exact T8 (jR ⟨_,_,(Se ⟨_,_,_,rfl,rfl⟩),rfl,rfl⟩ h3 [1,0])

def Q55.f (a0:TE):Option (Int):=some a0.1
theorem Q55.spec {a0 b1 A1 c_1 r} (H:Q55.f a0=some r) :
  Spec prog 46 [.pointer (some ⟨b1,0,none⟩)] (Zb6 a0 b1 A1 c_1) [] (fun v l=>v=.int .i64 r/\l=Zb6 a0 b1 A1 c_1):=by
 refine eN Tryz.func46 fun w0 F0 h0=>?_;unfold Q55.f at H;refine T9 (Za [0] ?_);refine T9 (T9 (Za [0,4] ?_));refine Zz ?_;refine Sa (T9 (T7 (rRL 3 0 h0 ?_)));refine rFi [2] ?_;cases H;exact T8 (jR0 h0 [0,0])

def Q2.f (a0:Int):Option (Option TL×Int):=if (decide (a0<1))=true then (some (none,2)) else (if (decide (65536<a0))=true then (some (none,2)) else (if 0<=(w64 (Int.tdiv (w64 ((w64 (a0+64)) - 1)) 64))/\(w64 (Int.tdiv (w64 ((w64 (a0+64)) - 1)) 64))*8<=281474976710656 then (some ((some (a0,0,(List.replicate ((w64 (Int.tdiv (w64 ((w64 (a0+64)) - 1)) 64)).toNat) (0:Int)))),0)) else none))
theorem Q2.spec {a0 r} (H:Q2.f a0=some r) :
  Spec prog 75 [.int .i64 a0] [] [] (fun v l=>∃(pv:Value) (lp:List Ch),OptC r.1 (fun d pv lp=>∃ b_0 A_1 c_1,pv=.pointer (some ⟨b_0,0,none⟩)/\lp=[X8 b_0 d.1 d.2.1 d.2.2 A_1 c_1,O94 d.2.2 A_1 c_1]) pv lp/\v=.tuple #[pv,.int .i64 r.2]/\l=lp ++ []):=by
 refine Zg Tryz.func75 fun w0 F0 h0=>?_;unfold Q2.f at H;refine T9 (Za [0] ?_);refine T9 (T9 (T7 (Zd 3 ?_)));refine Z3 6 H (fun c1 H=>?_) fun c1 H=>?_
 ·refine rFi [0,9] ?_;refine Zo ?_;refine T9 (Za [2,3] ?_);cases H;exact T8 (jR ⟨_,_,Sd,rfl,rfl⟩ h0 [])
 refine rFi [0,9] ?_;refine jIf H (fun c2 H=>?_) fun c2 H=>?_
 ·refine T9 (Za [2,3] ?_);cases H;exact T8 (jR ⟨_,_,Sd,rfl,rfl⟩ h0 [])
 refine Sa (T9 (T7 (Zd 5 ?_)));obtain ⟨⟨p1,p2⟩,H⟩:=Zk H;refine rB (Zag Z0 (ty:=(.int .u64)) rfl (0:Int) rfl rfl rfl rfl rfl rfl rfl (by decide) h0 p1 p2) fun b1 w1 h1=>?_;refine Zd 1 ?_;refine rB (Z2 h1) fun b2 w2 h2=>?_;refine rFi [2,3] ?_;cases H;exact T8 (jR ⟨_,_,(Se ⟨_,_,_,rfl,rfl⟩),rfl,rfl⟩ h2 [0,0])

def Q7.f (a0:TL):Option (Int):=some a0.1
theorem Q7.spec {a0 b1 A1 c_1 r} (H:Q7.f a0=some r) :
  Spec prog 138 [.pointer (some ⟨b1,0,none⟩)] (Vp a0 b1 A1 c_1) [] (fun v l=>v=.int .i64 r/\l=Vp a0 b1 A1 c_1):=by
 refine eN Tryz.func138 fun w0 F0 h0=>?_;unfold Q7.f at H;refine T9 (Za [0] ?_);refine T9 (T9 (Za [0,4] ?_));refine Zz ?_;refine Sa (T9 (T7 (rRL 3 0 h0 ?_)));refine rFi [2] ?_;cases H;exact T8 (jR0 h0 [0,0])

def Q10.f (a0:TL) (a1:Int):Option (Int):=(Q7.f a0).bind fun r1=>(if (decide (r1=0))=true then (some 1) else (if (decide (a1<0))=true then (some 4) else (if (decide (a0.1<=a1))=true then (some 4) else (some 0))))
theorem Q10.spec {a0 a1 b1 A1 c_1 r} (H:Q10.f a0 a1=some r) :
  Spec prog 110 [.pointer (some ⟨b1,0,none⟩),.int .i64 a1] (Vp a0 b1 A1 c_1) [] (fun v l=>v=.int .i64 r/\l=Vp a0 b1 A1 c_1):=by
 refine eN Tryz.func110 fun w0 F0 h0=>?_;unfold Q10.f at H;refine T9 (Za [0,1] ?_);refine T9 (T1 (T9 (T7 (Zd 1 ?_))));refine cS H [0,0] h0 rfl Q7.spec Zm fun r1 w1 H h1=>?_;refine rFi [0,1,5] ?_;refine jIf H (fun c1 H=>?_) fun c1 H=>?_
 ·refine T9 (Za [4] ?_);cases H;exact T8 (jR0 h1 [0,0])
 refine T9 (T7 (Zd 3 ?_));refine Z3 12 H (fun c2 H=>?_) fun c2 H=>?_
 ·refine rFi [9] ?_;refine Zo ?_;refine T9 (Za [4] ?_);cases H;exact T8 (jR0 h1 [0,0])
 refine rRL 4 0 h1 ?_;refine rFi [9] ?_;refine jIf H (fun c3 H=>?_) fun c3 H=>?_
 ·refine T9 (Za [4] ?_);cases H;exact T8 (jR0 h1 [0,0])
 refine Sa (T9 (Za [4] ?_));cases H;exact T8 (jR0 h1 [0,0])

def Q6.f (a0:TL) (a1:Int):Option (Bool):=(Q10.f a0 a1).bind fun r1=>(if (decide (r1=0))=true then (if 0<=(w64 (Int.tdiv a1 64))/\(w64 (Int.tdiv a1 64))<(a0.2.2.length:Int) then (if 0<=(Int.tmod a1 64) then (some (decide ((uH.wrap (((ofInt uH.bits (Int.fdiv (gt a0.2.2 (w64 (Int.tdiv a1 64))) (2 ^ (min (Int.tmod a1 64).toNat 64))) &&& (ofInt uH.bits 1)).toNat:Int)))=1))) else none) else none) else (some false))
theorem Q6.spec {a0 a1 b1 A1 c_1 r} (H:Q6.f a0 a1=some r) :
  Spec prog 111 [.pointer (some ⟨b1,0,none⟩),.int .i64 a1] (Vp a0 b1 A1 c_1) [] (fun v l=>v=.bool r/\l=Vp a0 b1 A1 c_1):=by
 refine eN Tryz.func111 fun w0 F0 h0=>?_;unfold Q6.f at H;refine T9 (Za [0,1] ?_);refine T9 (T7 (Zd 2 ?_));refine cS H [0,0] h0 rfl Q10.spec Zm fun r1 w1 H h1=>?_;refine Zd 2 ?_;refine Z3 9 H (fun c1 H=>?_) fun c1 H=>?_
 ·refine rRL 3 0 h1 ?_;refine Zd 2 ?_;refine rI H h1 (gO 1) fun p1 p2 e1 H=>?_;refine Zh (Zb 0 h1.wht (gO 1) p1 p2) ?_;refine Zd 2 ?_;obtain ⟨p3,H⟩:=Zk H;refine Zh (Zhf p3) ?_;refine rFi [4] ?_;cases H;exact T8 (jR0 h1 [0,0])
 refine rFi [4] ?_;cases H;exact T8 (jR0 h1 [0,0])

def Q8.f (a0:TL) (a1:Int):Option (Int×TL):=(Q10.f a0 a1).bind fun r1=>(if (!decide (r1=0))=true then (some (r1,a0)) else ((Q6.f a0 a1).bind fun r2=>(if r2=true then (some (10,a0)) else (if 0<=(w64 (Int.tdiv a1 64))/\(w64 (Int.tdiv a1 64))<(a0.2.2.length:Int) then (if 0<=(Int.tmod a1 64) then (some (0,(a0.1,(w64 (a0.2.1+1)),(a0.2.2.set (w64 (Int.tdiv a1 64)).toNat (uH.wrap (((ofInt uH.bits (gt a0.2.2 (w64 (Int.tdiv a1 64))) ||| (ofInt uH.bits (uH.wrap ((1:Int)*2 ^ (min (Int.tmod a1 64).toNat 64))))).toNat:Int))))))) else none) else none))))
theorem Q8.spec {a0 a1 b1 A1 c_1 r} (H:Q8.f a0 a1=some r) :
  Spec prog 76 [.pointer (some ⟨b1,0,none⟩),.int .i64 a1] (Vp a0 b1 A1 c_1) [] (fun v l=>∃ A_0 c_0,v=.int .i64 r.1/\l=Vp r.2 b1 A_0 c_0):=by
 refine eN Tryz.func76 fun w0 F0 h0=>?_;unfold Q8.f at H;refine T9 (Za [0,1] ?_);refine T9 (T9 (T7 (Zd 2 ?_)));refine cS H [0,0] h0 rfl Q10.spec Zm fun r1 w1 H h1=>?_;refine rFi [0,1,5] ?_;refine T9 (Za [0,1,5,10] ?_);refine jIf H (fun c1 H=>?_) fun c1 H=>?_
 ·refine T9 (Za [4] ?_);cases H;exact T8 (jR ⟨_,_,rfl,rfl⟩ h1 [0,0])
 refine Sa (T9 (T9 (T7 (Zd 2 ?_))));refine cS H [0,0] h1 rfl Q6.spec Zm fun r2 w2 H h2=>?_;refine rFi [0,1,14] ?_;refine jIf H (fun c2 H=>?_) fun c2 H=>?_
 ·refine T9 (Za [4] ?_);cases H;exact T8 (jR ⟨_,_,rfl,rfl⟩ h2 [0,0])
 refine Sa (T9 ?_);obtain ⟨⟨p1,p2⟩,H⟩:=Zk H;obtain ⟨p3,H⟩:=Zk H;refine T6 (fun env w=>env=[(0,.pointer (some ⟨b1,0,none⟩))]/\St w0 F0 [X8 b1 a0.1 a0.2.1 (a0.2.2.set (w64 (Int.tdiv a1 64)).toNat (uH.wrap (((ofInt uH.bits (gt a0.2.2 (w64 (Int.tdiv a1 64))) ||| (ofInt uH.bits (uH.wrap ((1:Int)*2 ^ (min (Int.tmod a1 64).toNat 64))))).toNat:Int)))) A1 c_1,O94 (a0.2.2.set (w64 (Int.tdiv a1 64)).toNat (uH.wrap (((ofInt uH.bits (gt a0.2.2 (w64 (Int.tdiv a1 64))) ||| (ofInt uH.bits (uH.wrap ((1:Int)*2 ^ (min (Int.tmod a1 64).toNat 64))))).toNat:Int)))) A1 c_1] [] w) ?_ ?_
 ·refine Zw (sO h2 [0]) ?_;have h4:=h2.drew;refine Zp [0,1,2,4,5,8,9] ?_;refine Ze 3 rfl (Zf 0 wI) ?_;have e2:=G8 h4.wh (gO 1) p1 p2;refine Ze 6 rfl (Zi e2 p1 p2) ?_;refine HJ.named fun G E hE hG=>?_;have j7:∀ w2,St w0 F0 [X8 b1 a0.1 a0.2.1 a0.2.2 A1 c_1,O94 a0.2.2 A1 c_1] [] w2->G [12,11,10,7,6,3,9,8,5,4,2,1,0] ((27,.pointer (some ⟨blk A1,ofs A1+(w64 (Int.tdiv a1 64)).toNat*1,none⟩)) :: (26,.int .u64 (uH.wrap (((ofInt uH.bits (gt a0.2.2 (w64 (Int.tdiv a1 64))) ||| (ofInt uH.bits (uH.wrap ((1:Int)*2 ^ (min (Int.tmod a1 64).toNat 64))))).toNat:Int)))) :: (25,.int .u64 (uH.wrap ((1:Int)*2 ^ (min (Int.tmod a1 64).toNat 64)))) :: (22,.int .u64 (gt a0.2.2 (w64 (Int.tdiv a1 64)))) :: E) w2:=by
   intro w2 h4;subst hE;refine (hG _ _ _).1 ?_;refine hS 13 rfl (Zn 0 (.int .u64) (w64 (Int.tdiv a1 64)) (uH.wrap (((ofInt uH.bits (gt a0.2.2 (w64 (Int.tdiv a1 64))) ||| (ofInt uH.bits (uH.wrap ((1:Int)*2 ^ (min (Int.tmod a1 64).toNat 64))))).toNat:Int))) 1 h4 rfl p1 p2) 1 fun _ w7 h8=>?_;replace h8:St w0 F0 [O94 (a0.2.2.set (w64 (Int.tdiv a1 64)).toNat (uH.wrap (((ofInt uH.bits (gt a0.2.2 (w64 (Int.tdiv a1 64))) ||| (ofInt uH.bits (uH.wrap ((1:Int)*2 ^ (min (Int.tmod a1 64).toNat 64))))).toNat:Int)))) A1 c_1,X8 b1 a0.1 a0.2.1 (a0.2.2.set (w64 (Int.tdiv a1 64)).toNat (uH.wrap (((ofInt uH.bits (gt a0.2.2 (w64 (Int.tdiv a1 64))) ||| (ofInt uH.bits (uH.wrap ((1:Int)*2 ^ (min (Int.tmod a1 64).toNat 64))))).toNat:Int)))) A1 c_1] _ _:=h8.retell (by simp only [length_set,length_nil,O94,X8] <;> rfl);refine Y8 [0] ?_;exact Y5 ⟨(by simp only [length_set,length_nil] <;> rfl),((h8.only [1,0] rfl).rds [] rfl)⟩
  subst hE;refine (hG _ _ _).1 ?_;refine TZ [7,10] (i:=7) rfl rfl rfl rfl ?_;refine (Y3 ?_ (Y3 ?_ V5))
  ·refine Yt 7 rfl (Sc (Zb 0 h4.wht (gO 1) p1 p2)) ?_;rintro _ _ ⟨rfl,rfl⟩;replace h4:=nf h4;refine ⟨⟨[_],(sO h4 [1,0])⟩,?_⟩;refine Ze 10 rfl (B0 p3) ?_;refine Zp [11] ?_;refine Ze 12 rfl (Zi e2 p1 p2) ?_;exact (hG _ _ _).2 (j7 _ h4)
  ·refine HS.op (i:=10) rfl rfl rfl (Sc (Zmj rfl rfl rfl p3)) ?_; rintro _ _ ⟨rfl,rfl⟩; replace h4:St w0 F0 [_,_] _ _:=h4; refine ⟨⟨[_],(h4.only [1,0] rfl)⟩,?_⟩;refine Yc 7 rfl (Sc (Zb 0 h4.wht (gO 1) p1 p2)) ?_;rintro _ _ ⟨rfl,rfl⟩;replace h4:=nf h4;refine ⟨⟨[_],(sO h4 [1,0])⟩,?_⟩;refine Zp [11] ?_;refine Ze 12 rfl (Zi e2 p1 p2) ?_;exact ((hG _ _ _).2 (j7 _ h4)).re [0,1,3,2] 4
 rintro env w10 ⟨rfl,h11⟩;refine T9 (T7 (rRL 3 0 h11 ?_));refine Zd 3 ?_;refine rS (Zs 0 h11) fun _ w11 h12=>?_;refine rFi [] ?_;refine T9 (Za [4] ?_);cases H;exact T8 (jR ⟨_,_,rfl,rfl⟩ h12 [0,0])

def Q79.f (a0:Int):Option (Option TH×Int):=if (decide (a0<5))=true then (some (none,2)) else ((Q2.f a0).bind fun r1=>(Vv r1.1 (if (!decide (r1.2=0))=true then (some (none,r1.2)) else none) (fun r2=>(if (!decide (r1.2=0))=false then ((Q8.f r2 0).bind fun r3=>(some ((some r3.2),0))) else none))))
theorem Q79.spec {a0 r} (H:Q79.f a0=some r) :
  Spec prog 47 [.int .i64 a0] [] [] (fun v l=>∃(pv:Value) (lp:List Ch),OptC r.1 (fun d pv lp=>∃ b_0 b_1 A_2 c_2,pv=.pointer (some ⟨b_0,0,none⟩)/\lp=[Ua b_0 (.pointer (some ⟨b_1,0,none⟩)),X8 b_1 d.1 d.2.1 d.2.2 A_2 c_2,O94 d.2.2 A_2 c_2]) pv lp/\v=.tuple #[pv,.int .i64 r.2]/\l=lp ++ []):=by
 refine Zg Tryz.func47 fun w0 F0 h0=>?_;unfold Q79.f at H;refine T9 (Za [0] ?_);refine T9 (T9 (Za [0,7] ?_));refine jIf H (fun c1 H=>?_) fun c1 H=>?_
 ·refine T9 (Za [2,3] ?_);cases H;exact T8 (jR ⟨_,_,Sd,rfl,rfl⟩ h0 [])
 refine Sa (T9 (T7 (Zd 1 ?_)));refine cE H [] h0 rfl Q2.spec Zm ?_;rintro r1 w1 _ _ H ⟨v1,l1,ho1,rfl,rfl⟩ h1;rcases ho2:r1.1 with _ | r2
 ·rw [ho2] at ho1;obtain ⟨rfl,rfl⟩:=ho1;replace H:=Gu ho2 H;obtain ⟨c2,H⟩:=Zk H;replace h1:=nf h1;refine rFi [4,5] ?_;refine T9 (T9 (Za [4,5,14] ?_));refine T2 rfl (fun e=>?_) (fun e=>by rw [c2] at e; cases e);refine T9 (Za [2,3] ?_);cases H;exact T8 (jR ⟨_,_,Sd,rfl,rfl⟩ h1 [])
 rw [ho2] at ho1;obtain ⟨b1,A1,c_1,rfl,rfl⟩:=ho1;replace H:=Gt ho2 H;obtain ⟨c3,H⟩:=Zk H;replace h1:=nf h1;refine rFi [4,5] ?_;refine T9 (T9 (Za [4,5,14] ?_));refine T2 rfl (fun e=>by rw [c3] at e; cases e) (fun e=>?_);refine Sa (T9 (T7 (Zd 1 ?_)));refine cA H [0,0] h1 rfl Q8.spec Zm fun r3 A2 c_2 w2 H h2=>?_;refine rFi [4] ?_;refine T9 (T7 (Zd 2 ?_));refine rB (Z2 h2) fun b2 w3 h3=>?_;refine rFi [2,3] ?_;cases H;exact T8 (jR ⟨_,_,(Se ⟨_,_,_,_,rfl,rfl⟩),rfl,rfl⟩ h3 [0,0,0])

def Q156.f (a0:Tr) (a1:TS):Option (Bool):=if (decide (1<=(a1.length:Int)))=true then (some (decide ((a1.length:Int)<=a0.2.2.2.2.2.2.1))) else (some false)
theorem Q156.spec {a0 a1 r} (H:Q156.f a0 a1=some r) :
  Spec prog 48 [.agg #[.int .i64 a0.1,.int .i64 a0.2.1,.int .i64 a0.2.2.1,.int .i64 a0.2.2.2.1,.int .i64 a0.2.2.2.2.1,.int .i64 a0.2.2.2.2.2.1,.int .i64 a0.2.2.2.2.2.2.1,.int .i64 a0.2.2.2.2.2.2.2],.string ⟨⟨a1⟩⟩] [] [] (fun v l=>v=.bool r/\l=[]):=by
 refine Zg Tryz.func48 fun w0 F0 h0=>?_;unfold Q156.f at H;refine T9 (T7 (rB (Z2 h0) fun b1 w1 h1=>?_));refine rFi [1,2] ?_;refine T9 (T7 (Zd 4 ?_));refine Z3 8 H (fun c1 H=>?_) fun c1 H=>?_
 ·refine rRL 3 0 h1 ?_;refine rFi [4] ?_;cases H;exact T8 (jR0 h1 [])
 refine rFi [4] ?_;cases H;exact T8 (jR0 h1 [])

def Q151.l0:Nat->TA->TS->TA->(Int)->Option Tz
 | 0,_,_,_,_=>none
 | k+1,a0,a1,x1,x2=>if (decide (x2<(a0.length:Int)))=true then (if 0<=x2/\x2<(a0.length:Int) then (if (!decide (((gt a0 x2).1)=a1))=true then (if (x1.length+([(gt a0 x2)]:List TF).length)*32<=140737488355328 then (Q151.l0 k a0 a1 (x1 ++ [(gt a0 x2)]) (w64 (x2+1))) else none) else (Q151.l0 k a0 a1 x1 (w64 (x2+1)))) else none) else (some x1)
def Q151.f (k:Nat) (a0:TA) (a1:TS):Option Tz:=Q151.l0 k a0 a1 [] 0
theorem Q151.spec {k a0 a1 A1 c_1 r} (H:Q151.f k a0 a1=some r) :
  Spec prog 71 [.slice A1 a0.length c_1,.string ⟨⟨a1⟩⟩] [] [R44 a0 A1 c_1] (fun v l=>∃ A_0 c_0,v=.slice A_0 r.length c_0/\l=[O44 r A_0 c_0]):=by
 refine Zg Tryz.func71 fun w0 F0 h0=>?_;unfold Q151.f at H;refine T9 (Za [0,1] ?_);refine T9 (T7 (rB (Zu (.pair .str .str) [] h0) fun b1 w1 h1=>?_));refine rFi [0,1,5] ?_;refine T9 (T9 (Za [0,1,5,6] ?_));refine T1 ?_;have h7:=(sOR h1 [0] [0]);refine T5 (fun kk env w=>∃ x1 A2 c_2 x2,Q151.l0 kk a0 a1 x1 x2=some r/\env=[(0,.slice A1 a0.length c_1),(1,.string ⟨⟨a1⟩⟩),(5,.slice A2 x1.length c_2),(6,.int .i64 x2)]/\St w0 F0 [O44 x1 A2 c_2] [R44 a0 A1 c_1] w) (k:=k) ⟨_,_,_,_,H,rfl,h7⟩ ?_;rintro k1 env w2 ⟨x1,A2,c_2,x2,H,rfl,h2⟩;rcases k1 with _ | k1
 ·exact z0 H
 rw [Q151.l0] at H;refine T9 (T9 (Za [0,1,5,6,11] ?_));refine jIf H (fun c1 H=>?_) fun c1 H=>?_
 ·refine Sa (T9 (T1 (T9 (T7 (Zd 2 ?_)))));refine rI H h2 (Zc 1) fun p1 p2 e1 H=>?_;refine Zd 1 ?_;refine Zh (Zb 0 h2.wht (Zc 1) p1 p2) ?_;refine rFi [0,1,5,6,20] ?_;refine jIf H (fun c2 H=>?_) fun c2 H=>?_
  ·refine T7 (Zd 3 ?_);refine Zh (Zi e1 p1 p2) ?_;refine Zh (Zb 0 h2.wht (Zc 1) p1 p2) ?_;refine rB (Zu (.pair .str .str) [(gt a0 x2)] h2) fun b2 w3 h3=>?_;obtain ⟨p3,H⟩:=Zk H;refine rA (Zr 1 h3 (gO 0) p3) fun A3 c_3 w4 h4=>?_;refine rFi [0,1,5,6] ?_;refine Za [0,1,5,6] ?_;have h5:=(sOR h4 [0] [0]);exact ⟨k1,by omega,_,_,_,_,H,rfl,h5⟩
  refine Sa (Za [0,1,5,6] ?_);have h6:=(sOR h2 [0] [0]);exact ⟨k1,by omega,_,_,_,_,H,rfl,h6⟩
 refine T4 (T9 (Za [4] ?_));cases H;exact T8 (jR ⟨_,_,rfl,rfl⟩ h2 [0])

def Q141.l0:Nat->TS->TS->(Int)->Option (Int)
 | 0,_,_,_=>none
 | k+1,a0,a1,x1=>if (decide (x1<(a0.length:Int)))=true then (if (decide (x1<(a1.length:Int)))=true then (if 0<=x1/\x1<(a0.length:Int) then (if 0<=x1/\x1<(a1.length:Int) then (if (decide ((gtb a0 x1)<(gtb a1 x1)))=true then (some (-1)) else (if (decide ((gtb a1 x1)<(gtb a0 x1)))=true then (some 1) else (Q141.l0 k a0 a1 (w64 (x1+1))))) else none) else none) else (if (decide ((a0.length:Int)<(a1.length:Int)))=true then (some (-1)) else (if (decide ((a1.length:Int)<(a0.length:Int)))=true then (some 1) else (some 0)))) else (if (decide ((a0.length:Int)<(a1.length:Int)))=true then (some (-1)) else (if (decide ((a1.length:Int)<(a0.length:Int)))=true then (some 1) else (some 0)))
def Q141.f (k:Nat) (a0:TS) (a1:TS):Option (Int):=Q141.l0 k a0 a1 0
theorem Q141.spec {k a0 a1 r} (H:Q141.f k a0 a1=some r) :
  Spec prog 50 [.string ⟨⟨a0⟩⟩,.string ⟨⟨a1⟩⟩] [] [] (fun v l=>v=.int .i64 r/\l=[]):=by
 refine Zg Tryz.func50 fun w0 F0 h0=>?_;unfold Q141.f at H;refine T9 (Za [0,1] ?_);refine T9 (T9 (Za [0,1,5] ?_));refine T1 ?_;have h5:=(sOR h0 [] []);refine T5 (fun kk env w=>∃ x1,Q141.l0 kk a0 a1 x1=some r/\env=[(0,.string ⟨⟨a0⟩⟩),(1,.string ⟨⟨a1⟩⟩),(5,.int .i64 x1)]/\St w0 F0 [] [] w) (k:=k) ⟨_,H,rfl,h5⟩ ?_;rintro k1 env w1 ⟨x1,H,rfl,h1⟩;rcases k1 with _ | k1
 ·exact z0 H
 rw [Q141.l0] at H;refine T9 (T9 (T7 (Zd 5 ?_)));refine Z3 10 H (fun c1 H=>?_) fun c1 H=>?_
 ·refine rFi [0,1,5,15] ?_;refine jIf H (fun c2 H=>?_) fun c2 H=>?_
  ·refine Sa (T9 (T1 (T9 (T9 (jH h1 fun h2=>?_)))));refine Zp [0,1,3,4] ?_;obtain ⟨⟨p1,p2⟩,H⟩:=Zk H;refine Ze 2 rfl (X2 p1 p2) ?_;obtain ⟨⟨p3,p4⟩,H⟩:=Zk H;refine Ze 5 rfl (X2 p3 p4) ?_;refine hRF [6] [0,1,5,24] ?_;refine jIf H (fun c3 H=>?_) fun c3 H=>?_
   ·refine T9 (Za [4] ?_);cases H;exact T8 (jR0 h2 [])
   refine Sa (T9 (jH h2 fun h3=>?_));refine Zp [0,1,3,4] ?_;refine Ze 2 rfl (X2 p1 p2) ?_;refine Ze 5 rfl (X2 p3 p4) ?_;refine hRF [6] [0,1,5,31] ?_;refine jIf H (fun c4 H=>?_) fun c4 H=>?_
   ·refine T9 (Za [4] ?_);cases H;exact T8 (jR0 h3 [])
   refine Sa (Za [0,1,5] ?_);have h4:=(sOR h3 [] []);exact ⟨k1,by omega,_,H,rfl,h4⟩
  refine T4 (T9 (T9 (Za [0,1,36] ?_)));refine jIf H (fun c5 H=>?_) fun c5 H=>?_
  ·refine T9 (Za [4] ?_);cases H;exact T8 (jR0 h1 [])
  refine Sa (T9 (T9 (Za [41] ?_)));refine jIf H (fun c6 H=>?_) fun c6 H=>?_
  ·refine T9 (Za [4] ?_);cases H;exact T8 (jR0 h1 [])
  refine Sa (T9 (Za [4] ?_));cases H;exact T8 (jR0 h1 [])
 refine rFi [0,1,5,15] ?_;refine Zz ?_;refine T4 (T9 (T9 (Za [0,1,36] ?_)));refine jIf H (fun c7 H=>?_) fun c7 H=>?_
 ·refine T9 (Za [4] ?_);cases H;exact T8 (jR0 h1 [])
 refine Sa (T9 (T9 (Za [41] ?_)));refine jIf H (fun c8 H=>?_) fun c8 H=>?_
 ·refine T9 (Za [4] ?_);cases H;exact T8 (jR0 h1 [])
 refine Sa (T9 (Za [4] ?_));cases H;exact T8 (jR0 h1 [])

def Q153.l0:Nat->TS->TS->Tz->(Int)->Option Tz
 | 0,_,_,_,_=>none
 | k+1,a1,a2,r1,x3=>if (decide (x3<(r1.length:Int)))=true then (if 0<=x3/\x3<(r1.length:Int) then ((Q141.f k ((gt r1 x3).1) a1).bind fun r2=>(if (decide (r2<0))=true then (Q153.l0 k a1 a2 r1 (w64 (x3+1))) else (if (0:Int)<=x3/\x3<=(r1.length:Int) then (if (([]:List TF).length+(r1.take x3.toNat).length)*32<=140737488355328 then (if (([] ++ (r1.take x3.toNat)).length+([(a1,a2)]:List TF).length)*32<=140737488355328 then (if 0<=x3/\x3<=(r1.length:Int) then (if ((([] ++ (r1.take x3.toNat)) ++ [(a1,a2)]).length+(r1.drop x3.toNat).length)*32<=140737488355328 then (some ((([] ++ (r1.take x3.toNat)) ++ [(a1,a2)]) ++ (r1.drop x3.toNat))) else none) else none) else none) else none) else none))) else none) else (if (0:Int)<=x3/\x3<=(r1.length:Int) then (if (([]:List TF).length+(r1.take x3.toNat).length)*32<=140737488355328 then (if (([] ++ (r1.take x3.toNat)).length+([(a1,a2)]:List TF).length)*32<=140737488355328 then (if 0<=x3/\x3<=(r1.length:Int) then (if ((([] ++ (r1.take x3.toNat)) ++ [(a1,a2)]).length+(r1.drop x3.toNat).length)*32<=140737488355328 then (some ((([] ++ (r1.take x3.toNat)) ++ [(a1,a2)]) ++ (r1.drop x3.toNat))) else none) else none) else none) else none) else none)
def Q153.f (k:Nat) (a0:TA) (a1:TS) (a2:TS):Option Tz:=(Q151.f k a0 a1).bind fun r1=>(Q153.l0 k a1 a2 r1 0)
theorem Q153.spec {k a0 a1 a2 A1 c_1 r} (H:Q153.f k a0 a1 a2=some r) :
  Spec prog 49 [.slice A1 a0.length c_1,.string ⟨⟨a1⟩⟩,.string ⟨⟨a2⟩⟩] [] [R44 a0 A1 c_1] (fun v l=>∃ A_0 c_0,v=.slice A_0 r.length c_0/\l=[O44 r A_0 c_0]):=by
 refine Zg Tryz.func49 fun w0 F0 h0=>?_;unfold Q153.f at H;refine T9 (Za [0,1,2] ?_);refine T9 (T7 (Zd 2 ?_));refine cA H [] h0 rfl Q151.spec (gS [0]) fun r1 A2 c_2 w1 H h1=>?_;refine rFi [0,1,2] ?_;refine T9 (Za [0,1,2,7] ?_);refine T9 (T6 (fun env w=>∃(x1:Int) (x2:Bool),env=[(0,.slice A2 r1.length c_2),(1,.string ⟨⟨a1⟩⟩),(2,.string ⟨⟨a2⟩⟩),(7,.int .i64 x1),(25,.bool x2)]/\St w0 F0 [O44 r1 A2 c_2] [] w/\(if (0:Int)<=x1/\x1<=(r1.length:Int) then (if (([]:List TF).length+(r1.take x1.toNat).length)*32<=140737488355328 then (if (([] ++ (r1.take x1.toNat)).length+([(a1,a2)]:List TF).length)*32<=140737488355328 then (if 0<=x1/\x1<=(r1.length:Int) then (if ((([] ++ (r1.take x1.toNat)) ++ [(a1,a2)]).length+(r1.drop x1.toNat).length)*32<=140737488355328 then (some ((([] ++ (r1.take x1.toNat)) ++ [(a1,a2)]) ++ (r1.drop x1.toNat))) else none) else none) else none) else none) else none)=some r) ?_ ?_)
 ·refine T1 ?_;have h14:=(sOR h1 [0] []);refine T5 (fun kk env w=>∃ x3,Q153.l0 kk a1 a2 r1 x3=some r/\env=[(0,.slice A2 r1.length c_2),(1,.string ⟨⟨a1⟩⟩),(2,.string ⟨⟨a2⟩⟩),(7,.int .i64 x3)]/\St w0 F0 [O44 r1 A2 c_2] [] w/\kk<=k) (k:=k) ⟨_,H,rfl,h14,Sb _⟩ ?_;rintro k2 env w9 ⟨x3,H,rfl,h9,hk2⟩;rcases k2 with _ | k2
  ·exact z0 H
  rw [Q153.l0] at H;refine T9 (T9 (T7 (Zd 5 ?_)));refine Z3 16 H (fun c1 H=>?_) fun c1 H=>?_
  ·refine Zd 2 ?_;refine rI H h9 (gO 0) fun p8 p9 e3 H=>?_;refine Zd 1 ?_;refine Zh (Zb 0 h9.wht (gO 0) p8 p9) ?_;refine Zd 1 ?_;refine cS H [] h9 rfl Q141.spec Zm fun r2 w10 H h10=>?_;refine rFi [0,1,2,7,25] ?_;refine jIf H (fun c2 H=>?_) fun c2 H=>?_
   ·refine Sa (T1 (Za [0,1,2,7] ?_));have h11:=(sOR h10 [0] []);exact ⟨k2,by omega,_,H,rfl,h11,by omega⟩
   refine T4 ?_;have h12:=(sOR h10 [0] []);exact ⟨x3,(decide (r2<0)),rfl,h12,H⟩
  refine rFi [0,1,2,7,25] ?_;refine Zz ?_;refine T4 ?_;have h13:=(sOR h9 [0] []);exact ⟨x3,false,rfl,h13,H⟩
 rintro env w3 ⟨x1,x2,rfl,h2,H⟩;refine T9 (T7 (rB (Zu (.pair .str .str) [] h2) fun b1 w4 h3=>?_));refine Zd 2 ?_;obtain ⟨⟨p1,p2⟩,H⟩:=Zk H;have e1:=h3.cap (gO 1);refine Zh (X6 (r1.take x1.toNat) x1 e1 p1 p2) ?_;obtain ⟨p3,H⟩:=Zk H;refine rA (Zr 0 h3 ((Gives.of 0 rfl Ye).trans (Uu (.pair .str .str) (r1.take x1.toNat) x1 p1 p2)) p3) fun A3 c_3 w5 h4=>?_;refine rFi [0,1,2,7,8] ?_;refine T9 (T7 (Zd 4 ?_));refine rB (Zu (.pair .str .str) [(a1,a2)] h4) fun b2 w6 h5=>?_;obtain ⟨p4,H⟩:=Zk H;refine rA (Zr 1 h5 (gO 0) p4) fun A4 c_4 w7 h6=>?_;refine rFi [0,7,8] ?_;refine T9 (T7 (Zd 3 ?_));obtain ⟨⟨p5,p6⟩,H⟩:=Zk H;have e2:=h6.cap (gO 2);refine Zh (Uf (r1.drop x1.toNat) x1 (r1.length:Int) e2 p5 p6 (Int.le_refl _) (Ys _ _)) ?_;obtain ⟨p7,H⟩:=Zk H;refine rA (Zr 0 h6 ((Gives.of 1 rfl Ye).trans (V3 (.pair .str .str) (r1.drop x1.toNat) x1 (r1.length:Int) p5 p6 (Int.le_refl _) (Ys _ _))) p7) fun A5 c_5 w8 h7=>?_;refine rFi [6] ?_;have h8:=nO h7 [0];cases H;exact T8 (jR ⟨_,_,rfl,rfl⟩ h8 [0])

mutual
def Q136.l0:Nat->Tr->Tq->TA->(Int)->Option Tz
 | 0,_,_,_,_=>none
 | k+1,a0,a1,x1,x2=>if (decide (x2<(a1.1.length:Int)))=true then (Q136.l1 k a0 a1 x1 x2 (decide (x2<150))) else (Q136.l1 k a0 a1 x1 x2 false)
def Q136.l1:Nat->Tr->Tq->TA->(Int)->(Bool)->Option Tz
 | 0,_,_,_,_,_=>none
 | k+1,a0,a1,x1,x2,x3=>if x3=true then (if 0<=x2/\x2<(a1.1.length:Int) then ((Q156.f a0 ((gt a1.1 x2).1)).bind fun r2=>(if r2=true then (Q136.l2 k a0 a1 x1 x2 (decide ((((gt a1.1 x2).2).length:Int)<=a0.2.2.2.2.2.2.2))) else (Q136.l2 k a0 a1 x1 x2 false))) else none) else (some x1)
def Q136.l2:Nat->Tr->Tq->TA->(Int)->(Bool)->Option Tz
 | 0,_,_,_,_,_=>none
 | k+1,a0,a1,x1,x2,x4=>if x4=true then (if 0<=x2/\x2<(a1.1.length:Int) then ((Q153.f k x1 ((gt a1.1 x2).1) ((gt a1.1 x2).2)).bind fun r1=>(Q136.l0 k a0 a1 r1 (w64 (x2+1)))) else none) else (Q136.l0 k a0 a1 x1 (w64 (x2+1)))
end
def Q136.f (k:Nat) (a0:Tr) (a1:Tq):Option Tz:=Q136.l0 k a0 a1 [] 0
theorem Q136.spec {k a0 a1 A1 c_1 A2 c_2 A3 c_3 A4 c_4 r} (H:Q136.f k a0 a1=some r) :
  Spec prog 23 [.agg #[.int .i64 a0.1,.int .i64 a0.2.1,.int .i64 a0.2.2.1,.int .i64 a0.2.2.2.1,.int .i64 a0.2.2.2.2.1,.int .i64 a0.2.2.2.2.2.1,.int .i64 a0.2.2.2.2.2.2.1,.int .i64 a0.2.2.2.2.2.2.2],.agg #[.slice A1 a1.1.length c_1,.slice A2 a1.2.1.length c_2,.slice A3 a1.2.2.1.length c_3,.slice A4 a1.2.2.2.length c_4]] [] [R44 a1.1 A1 c_1,R52 a1.2.1 A2 c_2,R5 a1.2.2.1 A3 c_3,R5 a1.2.2.2 A4 c_4] (fun v l=>∃ A_0 c_0,v=.slice A_0 r.length c_0/\l=[O44 r A_0 c_0]):=by
 refine Zg Tryz.func23 fun w0 F0 h0=>?_;unfold Q136.f at H;refine T9 (T7 (rB (Z2 h0) fun b1 w1 h1=>?_));refine rB (Z2 h1) fun b2 w2 h2=>?_;refine rFi [2,3] ?_;refine T9 (T7 (rB (Zu (.pair .str .str) [] h2) fun b3 w3 h3=>?_));refine rFi [2,3,5] ?_;refine T9 (T9 (Za [2,3,5,6] ?_));refine T1 ?_;have h18:=(sOR h3 [2,1,0] [0,1,2,3]);refine T5 (fun kk env w=>∃ x1 A5 c_5 x2,Q136.l0 kk a0 a1 x1 x2=some r/\env=[(2,.pointer (some ⟨b1,0,none⟩)),(3,.pointer (some ⟨b2,0,none⟩)),(5,.slice A5 x1.length c_5),(6,.int .i64 x2)]/\St w0 F0 [X23 b1 a0.1 a0.2.1 a0.2.2.1 a0.2.2.2.1 a0.2.2.2.2.1 a0.2.2.2.2.2.1 a0.2.2.2.2.2.2.1 a0.2.2.2.2.2.2.2,X28 b2 a1.1 A1 c_1 a1.2.1 A2 c_2 a1.2.2.1 A3 c_3 a1.2.2.2 A4 c_4,O44 x1 A5 c_5] [R44 a1.1 A1 c_1,R52 a1.2.1 A2 c_2,R5 a1.2.2.1 A3 c_3,R5 a1.2.2.2 A4 c_4] w) (k:=k) ⟨_,_,_,_,H,rfl,h18⟩ ?_;rintro k1 env w4 ⟨x1,A5,c_5,x2,H,rfl,h4⟩;rcases k1 with _ | k1
 ·exact z0 H
 rw [Q136.l0] at H;refine T9 (T9 (T6 (fun env w=>∃ k2 x3,Q136.l1 k2 a0 a1 x1 x2 x3=some r/\env=[(2,.pointer (some ⟨b1,0,none⟩)),(3,.pointer (some ⟨b2,0,none⟩)),(5,.slice A5 x1.length c_5),(6,.int .i64 x2),(16,.bool x3)]/\St w0 F0 [X23 b1 a0.1 a0.2.1 a0.2.2.1 a0.2.2.2.1 a0.2.2.2.2.1 a0.2.2.2.2.2.1 a0.2.2.2.2.2.2.1 a0.2.2.2.2.2.2.2,X28 b2 a1.1 A1 c_1 a1.2.1 A2 c_2 a1.2.2.1 A3 c_3 a1.2.2.2 A4 c_4,O44 x1 A5 c_5] [R44 a1.1 A1 c_1,R52 a1.2.1 A2 c_2,R5 a1.2.2.1 A3 c_3,R5 a1.2.2.2 A4 c_4] w/\k2<=k1) ?_ ?_))
 ·refine T7 (rRL 2 1 h4 ?_);refine Zd 3 ?_;refine Z3 13 H (fun c4 H=>?_) fun c4 H=>?_
  ·refine rFi [2,3,5,6,16] ?_;have h16:=(sOR h4 [0,0,0] [0,1,2,3]);exact ⟨k1,_,H,rfl,h16,Sb _⟩
  refine rFi [2,3,5,6,16] ?_;have h17:=(sOR h4 [0,0,0] [0,1,2,3]);exact ⟨k1,_,H,rfl,h17,Sb _⟩
 rintro env w6 ⟨k2,x3,H,rfl,h5,hk2⟩;rcases k2 with _ | k2
 ·exact z0 H
 rw [Q136.l1] at H;refine jIf H (fun c1 H=>?_) fun c1 H=>?_
 ·refine Sa (T9 (T1 (T9 (T6 (fun env w=>∃ k3 x4,Q136.l2 k3 a0 a1 x1 x2 x4=some r/\env=[(2,.pointer (some ⟨b1,0,none⟩)),(3,.pointer (some ⟨b2,0,none⟩)),(5,.slice A5 x1.length c_5),(6,.int .i64 x2),(38,.bool x4)]/\St w0 F0 [X23 b1 a0.1 a0.2.1 a0.2.2.1 a0.2.2.2.1 a0.2.2.2.2.1 a0.2.2.2.2.2.1 a0.2.2.2.2.2.2.1 a0.2.2.2.2.2.2.2,X28 b2 a1.1 A1 c_1 a1.2.1 A2 c_2 a1.2.2.1 A3 c_3 a1.2.2.2 A4 c_4,O44 x1 A5 c_5] [R44 a1.1 A1 c_1,R52 a1.2.1 A2 c_2,R5 a1.2.2.1 A3 c_3,R5 a1.2.2.2 A4 c_4] w/\k3<=k2) ?_ ?_))))
  ·refine jH h5 fun h11=>?_;refine Zp [1,3] ?_;refine Ze 0 rfl (Zf 0 wI) ?_;refine Ze 2 rfl (Zf 1 wI) ?_;refine hI 4 H h11 (Zc 3) fun p3 p4 e2 H=>?_;refine Zp [5] ?_;refine Ze 6 rfl (Zb 0 wI (Zc 3) p3 p4) ?_;refine cSJ 7 rfl H [] h11 rfl Q156.spec Zm 0 fun r2 w10 H h12=>?_;refine Zp [8] ?_;refine Wa 27 H (fun c3 H=>?_) fun c3 H=>?_
   ·refine Zp [9,11,16] ?_;refine Ze 10 rfl (Zf 1 wI) ?_;refine Ze 12 rfl (Zi e2 p3 p4) ?_;refine Zp [13] ?_;refine Ze 14 rfl (Zb 1 wI (Zc 3) p3 p4) ?_;refine Zp [15] ?_;refine Ze 17 rfl (Zf 0 wI) ?_;refine hRF [18,19] [2,3,5,6,38] ?_;have h13:=(sOR h12 [0,0,0] [0,1,2,3]);exact ⟨k2,_,H,rfl,h13,Sb _⟩
   refine hRF [9,10,11,12,13,14,15,16,17,18,19] [2,3,5,6,38] ?_;have h14:=(sOR h12 [0,0,0] [0,1,2,3]);exact ⟨k2,_,H,rfl,h14,Sb _⟩
  rintro env w8 ⟨k3,x4,H,rfl,h6,hk3⟩;rcases k3 with _ | k3
  ·exact z0 H
  rw [Q136.l2] at H;refine jIf H (fun c2 H=>?_) fun c2 H=>?_
  ·refine jH h6 fun h7=>?_;refine Zp [0,1,3,7,9] ?_;refine Ze 2 rfl (Zf 1 wI) ?_;refine hI 4 H h7 (Zc 3) fun p1 p2 e1 H=>?_;refine Zp [5] ?_;refine Ze 6 rfl (Zb 0 wI (Zc 3) p1 p2) ?_;refine Ze 8 rfl (Zf 1 wI) ?_;refine Ze 10 rfl (Zi e1 p1 p2) ?_;refine Zp [11] ?_;refine Ze 12 rfl (Zb 1 wI (Zc 3) p1 p2) ?_;refine cEJ 13 rfl H [] h7 rfl Q153.spec (Y7 (gO 2) Zm) ?_;rintro r1 w9 _ _ H ⟨A6,c_6,rfl,rfl⟩ h8;replace h8:=nf h8;refine ⟨⟨[_],h8⟩,?_⟩;refine hRF [14] [2,3,5,6] ?_;refine Za [2,3,5,6] ?_;have h9:=(sOR h8 [1,1,0] [0,1,2,3]);exact ⟨k3,by omega,_,_,_,_,H,rfl,h9⟩
  refine Sa (Za [2,3,5,6] ?_);have h10:=(sOR h6 [0,0,0] [0,1,2,3]);exact ⟨k3,by omega,_,_,_,_,H,rfl,h10⟩
 refine T4 (T9 (Za [4] ?_));have h15:=nO h5 [2];cases H;exact T8 (jR ⟨_,_,rfl,rfl⟩ h15 [0])

def Q135.f (a0:Tq) (a1:Int) (a2:Int):Option (Int):=if (decide ((a0.2.2.2.length:Int)=0))=true then (some a2) else (if 0<(a0.2.2.2.length:Int) then (if 0<=(Int.tmod a1 (a0.2.2.2.length:Int))/\(Int.tmod a1 (a0.2.2.2.length:Int))<(a0.2.2.2.length:Int) then (if 0<a2 then (some (w64 (1+(Int.tmod (w64 ((gt a0.2.2.2 (Int.tmod a1 (a0.2.2.2.length:Int))))) a2)))) else none) else none) else none)
theorem Q135.spec {a0 a1 a2 A1 c_1 A2 c_2 A3 c_3 A4 c_4 r} (H:Q135.f a0 a1 a2=some r) :
  Spec prog 24 [.agg #[.slice A1 a0.1.length c_1,.slice A2 a0.2.1.length c_2,.slice A3 a0.2.2.1.length c_3,.slice A4 a0.2.2.2.length c_4],.int .i64 a1,.int .i64 a2] [] [R44 a0.1 A1 c_1,R52 a0.2.1 A2 c_2,R5 a0.2.2.1 A3 c_3,R5 a0.2.2.2 A4 c_4] (fun v l=>v=.int .i64 r/\l=[]):=by
 refine Zg Tryz.func24 fun w0 F0 h0=>?_;unfold Q135.f at H;refine T9 (T7 (rB (Z2 h0) fun b1 w1 h1=>?_));refine rFi [1,2,3] ?_;refine T9 (T9 (T7 (rRL 1 0 h1 ?_)));refine rFi [1,2,3,10] ?_;refine jIf H (fun c1 H=>?_) fun c1 H=>?_
 ·refine T9 (Za [6] ?_);cases H;exact T8 (jR0 h1 [])
 refine Sa (T9 (jH h1 fun h2=>?_));refine Zp [0,2,3,10] ?_;refine Ze 1 rfl (Zf 0 wI) ?_;refine Ze 4 rfl (Zf 0 wI) ?_;refine Zp [5] ?_;obtain ⟨p1,H⟩:=Zk H;refine Ze 6 rfl (Zch p1) ?_;refine hI 7 H h2 (Zc 4) fun p2 p3 e1 H=>?_;refine Ze 8 rfl (Zb 0 wI (Zc 4) p2 p3) ?_;refine Zp [9] ?_;obtain ⟨p4,H⟩:=Zk H;refine Ze 11 rfl (Zch p4) ?_;refine hRF [12,13] [6] ?_;cases H;exact T8 (jR0 h2 [])

def Q142.l0:Nat->TS->TS->(Int)->Option (List UInt8×Bool)
 | 0,_,_,_=>none
 | k+1,a0,a1,x1=>if (decide (x1<=(a1.length:Int)))=true then (if (0:Int)<=x1/\x1<=(a1.length:Int) then ((Q141.f k a0 (a1.take x1.toNat)).bind fun r2=>(if (decide (r2<0))=true then (some ((a1.take x1.toNat),true)) else (Q142.l0 k a0 a1 (w64 (x1+1))))) else none) else (some ([],false))
def Q142.f (k:Nat) (a0:TS) (a1:TS):Option (List UInt8×Bool):=(Q141.f k a0 a1).bind fun r1=>(if (decide (0<=r1))=true then (some ([],false)) else (Q142.l0 k a0 a1 0))
theorem Q142.spec {k a0 a1 r} (H:Q142.f k a0 a1=some r) :
  Spec prog 25 [.string ⟨⟨a0⟩⟩,.string ⟨⟨a1⟩⟩] [] [] (fun v l=>v=.tuple #[.string ⟨⟨r.1⟩⟩,.bool r.2]/\l=[]):=by
 refine Zg Tryz.func25 fun w0 F0 h0=>?_;unfold Q142.f at H;refine T9 (Za [0,1] ?_);refine T9 (T9 (T7 (Zd 2 ?_)));refine cS H [] h0 rfl Q141.spec Zm fun r1 w1 H h1=>?_;refine rFi [0,1,10] ?_;refine jIf H (fun c1 H=>?_) fun c1 H=>?_
 ·refine T9 (Za [4,5] ?_);cases H;exact T8 (jR0 h1 [])
 refine Sa (T9 (T9 (Za [0,1,6] ?_)));refine T1 ?_;have h5:=(sOR h1 [] []);refine T5 (fun kk env w=>∃ x1,Q142.l0 kk a0 a1 x1=some r/\env=[(0,.string ⟨⟨a0⟩⟩),(1,.string ⟨⟨a1⟩⟩),(6,.int .i64 x1)]/\St w0 F0 [] [] w) (k:=k) ⟨_,H,rfl,h5⟩ ?_;rintro k1 env w2 ⟨x1,H,rfl,h2⟩;rcases k1 with _ | k1
 ·exact z0 H
 rw [Q142.l0] at H;refine T9 (T9 (Za [0,1,6,14] ?_));refine jIf H (fun c2 H=>?_) fun c2 H=>?_
 ·refine Sa (T9 (T1 (T9 (T7 (Zd 3 ?_)))));obtain ⟨⟨p1,p2⟩,H⟩:=Zk H;refine Zh (Zb1 0 x1 p1 p2 (Zi7 _ _)) ?_;refine cS H [] h2 rfl Q141.spec Zm fun r2 w3 H h3=>?_;refine rFi [0,1,6,22] ?_;refine jIf H (fun c3 H=>?_) fun c3 H=>?_
  ·refine T9 (T7 (Zd 2 ?_));refine Zh (Zb1 0 x1 p1 p2 (Zi7 _ _)) ?_;refine rFi [4,5] ?_;cases H;exact T8 (jR0 h3 [])
  refine Sa (Za [0,1,6] ?_);have h4:=(sOR h3 [] []);exact ⟨k1,by omega,_,H,rfl,h4⟩
 refine T4 (T9 (Za [4,5] ?_));cases H;exact T8 (jR0 h2 [])

mutual
def Q137.l0:Nat->Tr->Tq->Tv->(Int)->Option Ts
 | 0,_,_,_,_=>none
 | k+1,a0,a1,x1,x2=>if (decide (x2<(a1.2.1.length:Int)))=true then (Q137.l1 k a0 a1 x1 x2 (decide (x2<100))) else (Q137.l1 k a0 a1 x1 x2 false)
def Q137.l1:Nat->Tr->Tq->Tv->(Int)->(Bool)->Option Ts
 | 0,_,_,_,_,_=>none
 | k+1,a0,a1,x1,x2,x3=>if x3=true then (if 0<=x2/\x2<(a1.2.1.length:Int) then ((Q156.f a0 ((gt a1.2.1 x2).1)).bind fun r1=>(if r1=true then (if (decide ((((gt a1.2.1 x2).2.2).length:Int)<=a0.2.2.2.2.2.2.2))=true then (if (!((gt a1.2.1 x2).2.1))=true then (Q137.l2 k a0 a1 x1 x2 true) else (Q137.l2 k a0 a1 x1 x2 (decide (((gt a1.2.1 x2).2.2)=[])))) else (Q137.l2 k a0 a1 x1 x2 false)) else (Q137.l2 k a0 a1 x1 x2 false))) else none) else (some x1)
def Q137.l2:Nat->Tr->Tq->Tv->(Int)->(Bool)->Option Ts
 | 0,_,_,_,_,_=>none
 | k+1,a0,a1,x1,x2,x4=>if x4=true then (if (x1.length+([(gt a1.2.1 x2)]:List TB).length)*40<=140737488355328 then (Q137.l0 k a0 a1 (x1 ++ [(gt a1.2.1 x2)]) (w64 (x2+1))) else none) else (Q137.l0 k a0 a1 x1 (w64 (x2+1)))
end
def Q137.f (k:Nat) (a0:Tr) (a1:Tq):Option Ts:=Q137.l0 k a0 a1 [] 0
theorem Q137.spec {k a0 a1 A1 c_1 A2 c_2 A3 c_3 A4 c_4 r} (H:Q137.f k a0 a1=some r) :
  Spec prog 27 [.agg #[.int .i64 a0.1,.int .i64 a0.2.1,.int .i64 a0.2.2.1,.int .i64 a0.2.2.2.1,.int .i64 a0.2.2.2.2.1,.int .i64 a0.2.2.2.2.2.1,.int .i64 a0.2.2.2.2.2.2.1,.int .i64 a0.2.2.2.2.2.2.2],.agg #[.slice A1 a1.1.length c_1,.slice A2 a1.2.1.length c_2,.slice A3 a1.2.2.1.length c_3,.slice A4 a1.2.2.2.length c_4]] [] [R44 a1.1 A1 c_1,R52 a1.2.1 A2 c_2,R5 a1.2.2.1 A3 c_3,R5 a1.2.2.2 A4 c_4] (fun v l=>∃ A_0 c_0,v=.slice A_0 r.length c_0/\l=[O52 r A_0 c_0]):=by
 refine Zg Tryz.func27 fun w0 F0 h0=>?_;unfold Q137.f at H;refine T9 (T7 (rB (Z2 h0) fun b1 w1 h1=>?_));refine rB (Z2 h1) fun b2 w2 h2=>?_;refine rFi [2,3] ?_;refine T9 (T7 (rB (Zu (.pair .str (.pair .bool .str)) [] h2) fun b3 w3 h3=>?_));refine rFi [2,3,5] ?_;refine T9 (T9 (Za [2,3,5,6] ?_));refine T1 ?_;have h22:=(sOR h3 [2,1,0] [0,1,2,3]);refine T5 (fun kk env w=>∃ x1 A5 c_5 x2,Q137.l0 kk a0 a1 x1 x2=some r/\env=[(2,.pointer (some ⟨b1,0,none⟩)),(3,.pointer (some ⟨b2,0,none⟩)),(5,.slice A5 x1.length c_5),(6,.int .i64 x2)]/\St w0 F0 [X23 b1 a0.1 a0.2.1 a0.2.2.1 a0.2.2.2.1 a0.2.2.2.2.1 a0.2.2.2.2.2.1 a0.2.2.2.2.2.2.1 a0.2.2.2.2.2.2.2,X28 b2 a1.1 A1 c_1 a1.2.1 A2 c_2 a1.2.2.1 A3 c_3 a1.2.2.2 A4 c_4,O52 x1 A5 c_5] [R44 a1.1 A1 c_1,R52 a1.2.1 A2 c_2,R5 a1.2.2.1 A3 c_3,R5 a1.2.2.2 A4 c_4] w) (k:=k) ⟨_,_,_,_,H,rfl,h22⟩ ?_;rintro k1 env w4 ⟨x1,A5,c_5,x2,H,rfl,h4⟩;rcases k1 with _ | k1
 ·exact z0 H
 rw [Q137.l0] at H;refine T9 (T9 (T6 (fun env w=>∃ k2 x3,Q137.l1 k2 a0 a1 x1 x2 x3=some r/\env=[(2,.pointer (some ⟨b1,0,none⟩)),(3,.pointer (some ⟨b2,0,none⟩)),(5,.slice A5 x1.length c_5),(6,.int .i64 x2),(17,.bool x3)]/\St w0 F0 [X23 b1 a0.1 a0.2.1 a0.2.2.1 a0.2.2.2.1 a0.2.2.2.2.1 a0.2.2.2.2.2.1 a0.2.2.2.2.2.2.1 a0.2.2.2.2.2.2.2,X28 b2 a1.1 A1 c_1 a1.2.1 A2 c_2 a1.2.2.1 A3 c_3 a1.2.2.2 A4 c_4,O52 x1 A5 c_5] [R44 a1.1 A1 c_1,R52 a1.2.1 A2 c_2,R5 a1.2.2.1 A3 c_3,R5 a1.2.2.2 A4 c_4] w/\k2<=k1) ?_ ?_))
 ·refine T7 (rRL 2 1 h4 ?_);refine Zd 3 ?_;refine Z3 14 H (fun c6 H=>?_) fun c6 H=>?_
  ·refine rFi [2,3,5,6,17] ?_;have h20:=(sOR h4 [0,0,0] [0,1,2,3]);exact ⟨k1,_,H,rfl,h20,Sb _⟩
  refine rFi [2,3,5,6,17] ?_;have h21:=(sOR h4 [0,0,0] [0,1,2,3]);exact ⟨k1,_,H,rfl,h21,Sb _⟩
 rintro env w6 ⟨k2,x3,H,rfl,h5,hk2⟩;rcases k2 with _ | k2
 ·exact z0 H
 rw [Q137.l1] at H;refine jIf H (fun c1 H=>?_) fun c1 H=>?_
 ·refine Sa (T9 (T1 (T9 (T7 (rRL 1 1 h5 ?_)))));refine Zd 1 ?_;refine rI H h5 (Zc 4) fun p1 p2 e1 H=>?_;refine Zh (Zb 0 h5.wht (Zc 4) p1 p2) ?_;refine rB (Yw h5) fun b4 w7 h6=>?_;refine rS (Zs 0 h6) fun _ w8 h7=>?_;refine rFi [2,3,5,6,7] ?_;refine T9 (T6 (fun env w=>∃ k3 x4,Q137.l2 k3 a0 a1 x1 x2 x4=some r/\env=[(2,.pointer (some ⟨b1,0,none⟩)),(3,.pointer (some ⟨b2,0,none⟩)),(5,.slice A5 x1.length c_5),(6,.int .i64 x2),(7,.pointer (some ⟨b4,0,none⟩)),(46,.bool x4)]/\St w0 F0 [X23 b1 a0.1 a0.2.1 a0.2.2.1 a0.2.2.2.1 a0.2.2.2.2.1 a0.2.2.2.2.2.1 a0.2.2.2.2.2.2.1 a0.2.2.2.2.2.2.2,X28 b2 a1.1 A1 c_1 a1.2.1 A2 c_2 a1.2.2.1 A3 c_3 a1.2.2.2 A4 c_4,X52 b4 ((gt a1.2.1 x2).1) ((gt a1.2.1 x2).2.1) ((gt a1.2.1 x2).2.2),O52 x1 A5 c_5] [R44 a1.1 A1 c_1,R52 a1.2.1 A2 c_2,R5 a1.2.2.1 A3 c_3,R5 a1.2.2.2 A4 c_4] w/\k3<=k2) ?_ ?_)
  ·refine T7 (rLo 1 h7 ?_);refine rRL 1 0 h7 ?_;refine cS H [] h7 rfl Q156.spec Zm fun r1 w13 H h14=>?_;refine Zd 1 ?_;refine Z3 29 H (fun c3 H=>?_) fun c3 H=>?_
   ·refine rRL 1 0 h14 ?_;refine rRL 2 1 h14 ?_;refine Zd 3 ?_;refine Z3 37 H (fun c4 H=>?_) fun c4 H=>?_
    ·refine rRL 1 0 h14 ?_;refine Zd 2 ?_;refine Z3 41 H (fun c5 H=>?_) fun c5 H=>?_
     ·refine rFi [2,3,5,6,7,46] ?_;have h15:=(sOR h14 [1,1,0,0] [0,1,2,3]);exact ⟨k2,_,H,rfl,h15,Sb _⟩
     refine rRL 1 0 h14 ?_;refine rFi [2,3,5,6,7,46] ?_;have h16:=(sOR h14 [1,1,0,0] [0,1,2,3]);exact ⟨k2,_,H,rfl,h16,Sb _⟩
    refine rFi [2,3,5,6,7,46] ?_;have h17:=(sOR h14 [1,1,0,0] [0,1,2,3]);exact ⟨k2,_,H,rfl,h17,Sb _⟩
   refine rFi [2,3,5,6,7,46] ?_;have h18:=(sOR h14 [1,1,0,0] [0,1,2,3]);exact ⟨k2,_,H,rfl,h18,Sb _⟩
  rintro env w10 ⟨k3,x4,H,rfl,h8,hk3⟩;rcases k3 with _ | k3
  ·exact z0 H
  rw [Q137.l2] at H;refine jIf H (fun c2 H=>?_) fun c2 H=>?_
  ·refine T7 (rRL 1 2 h8 ?_);refine rB (Zu (.pair .str (.pair .bool .str)) [(gt a1.2.1 x2)] h8) fun b5 w11 h9=>?_;obtain ⟨p3,H⟩:=Zk H;refine rA (Zr 4 h9 (gO 0) p3) fun A6 c_6 w12 h10=>?_;refine rFi [2,3,5,6] ?_;have h11:=nO h10 [0,1,1];refine Za [2,3,5,6] ?_;have h12:=(sOR h11 [1,1,0] [0,1,2,3]);exact ⟨k3,by omega,_,_,_,_,H,rfl,h12⟩
  refine Sa (Za [2,3,5,6] ?_);have h13:=(sOR h8 [0,0,1] [0,1,2,3]);exact ⟨k3,by omega,_,_,_,_,H,rfl,h13⟩
 refine T4 (T9 (Za [4] ?_));have h19:=nO h5 [2];cases H;exact T8 (jR ⟨_,_,rfl,rfl⟩ h19 [0])

def Q149.l0:Nat->Tv->TB->Tv->(Bool)->(Int)->Option Ts
 | 0,_,_,_,_,_=>none
 | k+1,a0,a1,x1,x2,x3=>if (decide (x3<(a0.length:Int)))=true then (if (!x2)=true then (if 0<=x3/\x3<(a0.length:Int) then ((Q141.f k a1.1 ((gt a0 x3).1)).bind fun r1=>(if (decide (r1<=0))=true then (if (x1.length+([a1]:List TB).length)*40<=140737488355328 then (if (!decide (((gt a0 x3).1)=a1.1))=true then (if ((x1 ++ [a1]).length+([(gt a0 x3)]:List TB).length)*40<=140737488355328 then (Q149.l0 k a0 a1 ((x1 ++ [a1]) ++ [(gt a0 x3)]) true (w64 (x3+1))) else none) else (Q149.l0 k a0 a1 (x1 ++ [a1]) true (w64 (x3+1)))) else none) else (if (!decide (((gt a0 x3).1)=a1.1))=true then (if (x1.length+([(gt a0 x3)]:List TB).length)*40<=140737488355328 then (Q149.l0 k a0 a1 (x1 ++ [(gt a0 x3)]) x2 (w64 (x3+1))) else none) else (Q149.l0 k a0 a1 x1 x2 (w64 (x3+1)))))) else none) else (if 0<=x3/\x3<(a0.length:Int) then (if (!decide (((gt a0 x3).1)=a1.1))=true then (if (x1.length+([(gt a0 x3)]:List TB).length)*40<=140737488355328 then (Q149.l0 k a0 a1 (x1 ++ [(gt a0 x3)]) x2 (w64 (x3+1))) else none) else (Q149.l0 k a0 a1 x1 x2 (w64 (x3+1)))) else none)) else (if (!x2)=true then (if (x1.length+([a1]:List TB).length)*40<=140737488355328 then (some (x1 ++ [a1])) else none) else (some x1))
def Q149.f (k:Nat) (a0:Tv) (a1:TB):Option Ts:=Q149.l0 k a0 a1 [] false 0
theorem Q149.spec {k a0 a1 A1 c_1 r} (H:Q149.f k a0 a1=some r) :
  Spec prog 77 [.slice A1 a0.length c_1,.agg #[.string ⟨⟨a1.1⟩⟩,.bool a1.2.1,.string ⟨⟨a1.2.2⟩⟩]] [] [R52 a0 A1 c_1] (fun v l=>∃ A_0 c_0,v=.slice A_0 r.length c_0/\l=[O52 r A_0 c_0]):=by
 refine Zg Tryz.func77 fun w0 F0 h0=>?_;unfold Q149.f at H;refine T9 (T7 (rB (Z2 h0) fun b1 w1 h1=>?_));refine rFi [0,3] ?_;refine T9 (T7 (rB (Zu (.pair .str (.pair .bool .str)) [] h1) fun b2 w2 h2=>?_));refine rFi [0,3,5] ?_;refine T9 (Za [0,3,5,6] ?_);refine T9 (T9 (Za [0,3,5,6,7] ?_));refine T1 ?_;have h27:=(sOR h2 [1,0] [0]);refine T5 (fun kk env w=>∃ x1 A2 c_2 x2 x3,Q149.l0 kk a0 a1 x1 x2 x3=some r/\env=[(0,.slice A1 a0.length c_1),(3,.pointer (some ⟨b1,0,none⟩)),(5,.slice A2 x1.length c_2),(6,.bool x2),(7,.int .i64 x3)]/\St w0 F0 [X52 b1 a1.1 a1.2.1 a1.2.2,O52 x1 A2 c_2] [R52 a0 A1 c_1] w) (k:=k) ⟨_,_,_,_,_,H,rfl,h27⟩ ?_;rintro k1 env w3 ⟨x1,A2,c_2,x2,x3,H,rfl,h3⟩;rcases k1 with _ | k1
 ·exact z0 H
 rw [Q149.l0] at H;refine T9 (T9 (Za [0,3,5,6,7,12] ?_));refine jIf H (fun c1 H=>?_) fun c1 H=>?_
 ·refine Sa (T9 (T1 (T9 (T9 (jH h3 fun h4=>?_)))));refine Zp [0,1,2] ?_;refine Wa 17 H (fun c2 H=>?_) fun c2 H=>?_
  ·refine Zp [3,5,6] ?_;refine Ze 4 rfl (Zf 0 wI) ?_;refine hI 7 H h4 (Zc 2) fun p1 p2 e1 H=>?_;refine Zp [8] ?_;refine Ze 9 rfl (Zb 0 wI (Zc 2) p1 p2) ?_;refine cSJ 10 rfl H [] h4 rfl Q141.spec Zm 0 fun r1 w4 H h5=>?_;refine hRF [11,12] [0,3,5,6,7,27] ?_;refine jIf H (fun c3 H=>?_) fun c3 H=>?_
   ·refine T9 (T7 (rRL 1 0 h5 ?_));refine rB (Zu (.pair .str (.pair .bool .str)) [a1] h5) fun b3 w5 h6=>?_;obtain ⟨p3,H⟩:=Zk H;refine rA (Zr 2 h6 (gO 0) p3) fun A3 c_3 w6 h7=>?_;refine rFi [0,3,5,7] ?_;refine Za [0,3,5,6,7] ?_;refine T9 (jH h7 fun h8=>?_);refine Zp [0,1,5] ?_;refine Ze 2 rfl (Zi e1 p1 p2) ?_;refine Zp [3] ?_;refine Ze 4 rfl (Zb 0 wI (Zc 3) p1 p2) ?_;refine Ze 6 rfl (Zf 2 wI) ?_;refine hRF [7] [0,3,5,6,7,39] ?_;refine jIf H (fun c4 H=>?_) fun c4 H=>?_
    ·refine T7 (Zd 3 ?_);refine Zh (Zi e1 p1 p2) ?_;refine Zh (Zb 0 h8.wht (Zc 3) p1 p2) ?_;refine rB (Zu (.pair .str (.pair .bool .str)) [(gt a0 x3)] h8) fun b4 w7 h9=>?_;obtain ⟨p4,H⟩:=Zk H;refine rA (Zr 1 h9 (gO 0) p4) fun A4 c_4 w8 h10=>?_;refine rFi [0,3,5,6,7] ?_;have h11:=nO h10 [0,2];refine Za [0,3,5,6,7] ?_;have h12:=(sOR h11 [1,0] [0]);exact ⟨k1,by omega,_,_,_,_,_,H,rfl,h12⟩
    refine Sa (Za [0,3,5,6,7] ?_);have h13:=(sOR h8 [2,0] [0]);exact ⟨k1,by omega,_,_,_,_,_,H,rfl,h13⟩
   refine Sa (T9 (jH h5 fun h14=>?_));refine Zp [0,1,5] ?_;refine Ze 2 rfl (Zi e1 p1 p2) ?_;refine Zp [3] ?_;refine Ze 4 rfl (Zb 0 wI (Zc 2) p1 p2) ?_;refine Ze 6 rfl (Zf 0 wI) ?_;refine hRF [7] [0,3,5,6,7,39] ?_;refine jIf H (fun c5 H=>?_) fun c5 H=>?_
   ·refine T7 (Zd 3 ?_);refine Zh (Zi e1 p1 p2) ?_;refine Zh (Zb 0 h14.wht (Zc 2) p1 p2) ?_;refine rB (Zu (.pair .str (.pair .bool .str)) [(gt a0 x3)] h14) fun b5 w9 h15=>?_;obtain ⟨p5,H⟩:=Zk H;refine rA (Zr 2 h15 (gO 0) p5) fun A5 c_5 w10 h16=>?_;refine rFi [0,3,5,6,7] ?_;refine Za [0,3,5,6,7] ?_;have h17:=(sOR h16 [2,0] [0]);exact ⟨k1,by omega,_,_,_,_,_,H,rfl,h17⟩
   refine Sa (Za [0,3,5,6,7] ?_);have h18:=(sOR h14 [0,0] [0]);exact ⟨k1,by omega,_,_,_,_,_,H,rfl,h18⟩
  refine hRF [3,4,5,6,7,8,9,10,11,12] [0,3,5,6,7,27] ?_;refine Zz ?_;refine Sa (T9 (jH h4 fun h19=>?_));refine Zp [0,1,5] ?_;refine hI 2 H h19 (Zc 2) fun p6 p7 e2 H=>?_;refine Zp [3] ?_;refine Ze 4 rfl (Zb 0 wI (Zc 2) p6 p7) ?_;refine Ze 6 rfl (Zf 0 wI) ?_;refine hRF [7] [0,3,5,6,7,39] ?_;refine jIf H (fun c6 H=>?_) fun c6 H=>?_
  ·refine T7 (Zd 3 ?_);refine Zh (Zi e2 p6 p7) ?_;refine Zh (Zb 0 h19.wht (Zc 2) p6 p7) ?_;refine rB (Zu (.pair .str (.pair .bool .str)) [(gt a0 x3)] h19) fun b6 w11 h20=>?_;obtain ⟨p8,H⟩:=Zk H;refine rA (Zr 2 h20 (gO 0) p8) fun A6 c_6 w12 h21=>?_;refine rFi [0,3,5,6,7] ?_;refine Za [0,3,5,6,7] ?_;have h22:=(sOR h21 [2,0] [0]);exact ⟨k1,by omega,_,_,_,_,_,H,rfl,h22⟩
  refine Sa (Za [0,3,5,6,7] ?_);have h23:=(sOR h19 [0,0] [0]);exact ⟨k1,by omega,_,_,_,_,_,H,rfl,h23⟩
 refine T4 (T9 (T9 (Za [3,5,48] ?_)));refine jIf H (fun c7 H=>?_) fun c7 H=>?_
 ·refine T7 (rRL 1 0 h3 ?_);refine rB (Zu (.pair .str (.pair .bool .str)) [a1] h3) fun b7 w13 h24=>?_;obtain ⟨p9,H⟩:=Zk H;refine rA (Zr 2 h24 (gO 0) p9) fun A7 c_7 w14 h25=>?_;refine rFi [5] ?_;have h26:=nO h25 [0];refine T9 (Za [4] ?_);cases H;exact T8 (jR ⟨_,_,rfl,rfl⟩ h26 [0])
 refine Sa (T9 (Za [4] ?_));cases H;exact T8 (jR ⟨_,_,rfl,rfl⟩ h3 [1])

def Q155.l0:Nat->TM->TS->(Int)->(Int)->Option (Int)
 | 0,_,_,_,_=>none
 | k+1,a0,a1,x1,x2=>if (decide (x2<(a0.length:Int)))=true then (if 0<=x2/\x2<(a0.length:Int) then ((Q141.f k (gt a0 x2) a1).bind fun r1=>(if (decide (r1<=0))=true then (Q155.l0 k a0 a1 (w64 (x1+1)) (w64 (x2+1))) else (Q155.l0 k a0 a1 x1 (w64 (x2+1))))) else none) else (some x1)
def Q155.f (k:Nat) (a0:TM) (a1:TS):Option (Int):=Q155.l0 k a0 a1 0 0
theorem Q155.spec {k a0 a1 A1 c_1 r} (H:Q155.f k a0 a1=some r) :
  Spec prog 78 [.slice A1 a0.length c_1,.string ⟨⟨a1⟩⟩] [] [R9 a0 A1 c_1] (fun v l=>v=.int .i64 r/\l=[]):=by
 refine Zg Tryz.func78 fun w0 F0 h0=>?_;unfold Q155.f at H;refine T9 (Za [0,1] ?_);refine T9 (Za [0,1,5] ?_);refine T9 (T9 (Za [0,1,5,6] ?_));refine T1 ?_;have h5:=(sOR h0 [] [0]);refine T5 (fun kk env w=>∃ x1 x2,Q155.l0 kk a0 a1 x1 x2=some r/\env=[(0,.slice A1 a0.length c_1),(1,.string ⟨⟨a1⟩⟩),(5,.int .i64 x1),(6,.int .i64 x2)]/\St w0 F0 [] [R9 a0 A1 c_1] w) (k:=k) ⟨_,_,H,rfl,h5⟩ ?_;rintro k1 env w1 ⟨x1,x2,H,rfl,h1⟩;rcases k1 with _ | k1
 ·exact z0 H
 rw [Q155.l0] at H;refine T9 (T9 (Za [0,1,5,6,10] ?_));refine jIf H (fun c1 H=>?_) fun c1 H=>?_
 ·refine Sa (T9 (T1 (T9 (T7 (Zd 2 ?_)))));refine rI H h1 (Zc 0) fun p1 p2 e1 H=>?_;refine Zh (Zb 0 h1.wht (Zc 0) p1 p2) ?_;refine Zd 1 ?_;refine cS H [] h1 rfl Q141.spec Zm fun r1 w2 H h2=>?_;refine rFi [0,1,5,6,19] ?_;refine jIf H (fun c2 H=>?_) fun c2 H=>?_
  ·refine Za [0,1,5,6] ?_;refine Za [0,1,5,6] ?_;have h3:=(sOR h2 [] [0]);exact ⟨k1,by omega,_,_,H,rfl,h3⟩
  refine Sa (Za [0,1,5,6] ?_);have h4:=(sOR h2 [] [0]);exact ⟨k1,by omega,_,_,H,rfl,h4⟩
 refine T4 (T9 (Za [4] ?_));cases H;exact T8 (jR0 h1 [])

def Q159.l0:Nat->Tm->TB->(Int)->(Int)->(Int)->(Int)->Option Tl
 | 0,_,_,_,_,_,_=>none
 | k+1,a0,a1,a3,x1,x2,x3=>if (decide (0<x3))=true then (if 0<=x3/\x3<(a0.length:Int) then (if 0<=x2/\x2<((gt a0 x3).length:Int) then (if (decide (x1=0))=true then ((Q149.f k ((gt (gt a0 x3) x2).2.2.2.1) a1).bind fun r1=>(if (decide ((r1.length:Int)<=a3))=true then (some (a0.set x3.toNat ((gt a0 x3).set x2.toNat ((gt (gt a0 x3) x2).1,(gt (gt a0 x3) x2).2.1,(gt (gt a0 x3) x2).2.2.1,r1,(gt (gt a0 x3) x2).2.2.2.2)))) else (some a0))) else (if (decide (x3=1))=true then ((Q149.f k ((gt (gt a0 x3) x2).2.2.2.1) a1).bind fun r2=>(if (decide ((r2.length:Int)<=a3))=true then (some (a0.set x3.toNat ((gt a0 x3).set x2.toNat ((gt (gt a0 x3) x2).1,(gt (gt a0 x3) x2).2.1,(gt (gt a0 x3) x2).2.2.1,r2,(gt (gt a0 x3) x2).2.2.2.2)))) else (some a0))) else ((Q155.f k ((gt (gt a0 x3) x2).2.2.1) a1.1).bind fun r3=>(if 0<=r3/\r3<(((gt (gt a0 x3) x2).2.1).length:Int) then (Q159.l0 k a0 a1 a3 (w64 (x1 - 1)) (w64 ((w64 ((gt ((gt (gt a0 x3) x2).2.1) r3))) - 1)) (w64 (x3 - 1))) else none)))) else none) else none) else (some a0)
def Q159.f (k:Nat) (a0:Tm) (a1:TB) (a2:Int) (a3:Int):Option Tl:=Q159.l0 k a0 a1 a3 a2 0 (w64 ((a0.length:Int) - 1))
theorem Q159.spec {k a0 a1 a2 a3 cs1 A1 c_1 r} (H:Q159.f k a0 a1 a2 a3=some r) :
  SpecA prog 51 [.slice A1 a0.length c_1,.agg #[.string ⟨⟨a1.1⟩⟩,.bool a1.2.1,.string ⟨⟨a1.2.2⟩⟩],.int .i64 a2,.int .i64 a3] [N70 a0 A1 c_1 cs1] [V70 a0 cs1] (fun v l lr=>∃ A_0 c_0 cs_0,v=.slice A_0 r.length c_0/\l=[N70 r A_0 c_0 cs_0]/\lr=[V70 r cs_0]):=by
 refine Yp Tryz.func51 fun w0 F0 h0=>?_;unfold Q159.f at H;refine T9 (T7 (rB (Z2 h0) fun b1 w1 h1=>?_));refine rFi [0,2,3,5] ?_;refine T9 (Za [0,2,3,5,9] ?_);refine T9 (T9 (Za [0,2,3,5,9,10] ?_));refine T1 ?_;have h27:=(sOR h1 [0,0] [0]);refine T5 (fun kk env w=>∃ x1 x2 x3,Q159.l0 kk a0 a1 a3 x1 x2 x3=some r/\env=[(0,.slice A1 a0.length c_1),(2,.int .i64 x1),(3,.int .i64 a3),(5,.pointer (some ⟨b1,0,none⟩)),(9,.int .i64 x2),(10,.int .i64 x3)]/\St w0 F0 [X52 b1 a1.1 a1.2.1 a1.2.2,N70 a0 A1 c_1 cs1] [V70 a0 cs1] w) (k:=k) ⟨_,_,_,H,rfl,h27⟩ ?_;rintro k1 env w2 ⟨x1,x2,x3,H,rfl,h2⟩;rcases k1 with _ | k1
 ·exact z0 H
 rw [Q159.l0] at H;refine T9 (T9 (Za [0,2,3,5,9,10,17] ?_));refine jIf H (fun c1 H=>?_) fun c1 H=>?_
 ·refine Sa (T9 (T1 (T9 ?_)));obtain ⟨⟨p1,p2⟩,H⟩:=Zk H;have e1:=St.nestA 1 h2 p1 p2;obtain ⟨A2,c_2,h3⟩:=St.openN 1 h2 p1 p2;refine T7 (Zd 2 ?_);refine Zh (Zi e1 p1 p2) ?_;refine Zh (Zh3 0 h3.wht e1) ?_;refine Zd 1 ?_;obtain ⟨⟨p3,p4⟩,H⟩:=Zk H;have e2:=St.nestA2 0 h3 p3 p4;refine Zh (Zi e2 p3 p4) ?_;obtain ⟨cs2,e3,h4⟩:=St.essEl (t:=(.pair (.int .i64) (.pair (.slice 32 (.int .u32)) (.pair (.slice 9 .str) (.pair (.slice 52 (.pair .str (.pair .bool .str))) (.slice 44 (.pair .str .str))))))) 0 h3 p1 p2 p3 p4;obtain ⟨cs3,cs4,rfl,h5⟩:=Xt 0 h4;obtain ⟨cs5,cs6,rfl,h6⟩:=Xt 1 h5;obtain ⟨cs7,cs8,rfl,h7⟩:=Xt 1 h6;obtain ⟨cs9,cs10,rfl,h8⟩:=Xt 1 h7;obtain rfl:=Gh (.int .i64) 6 h8;obtain ⟨A3,c_3,rfl⟩:=Yv 4 h8;obtain ⟨A4,c_4,rfl⟩:=Yv 2 h8;obtain ⟨A5,c_5,rfl⟩:=Yv 0 h8;obtain ⟨A6,c_6,rfl⟩:=Yv 1 h8;refine Zh (Zrh (f:=0) 0 h8.wht e2 e3) ?_;refine rB (Yw h8) fun b2 w3 h9=>?_;refine rS (Zs 0 h9) fun _ w4 h10=>?_;refine rFi [0,2,3,5,9,10,11] ?_;have h11:=St.closeN 1 h10;refine T9 (T9 (T7 (Zd 3 ?_)));refine Z3 29 H (fun c2 H=>?_) fun c2 H=>?_
  ·refine rFi [0,2,3,5,9,10,11,32] ?_;refine Zo ?_;refine T9 (T7 (rRL 1 1 h11 ?_));refine rLo 2 h11 ?_;refine cA H [] h11 rfl Q149.spec (gS [3]) fun r1 A7 c_7 w5 H h12=>?_;refine rFi [0,3,9,10,12] ?_;have h13:=nO h12 [0,0];refine T9 (T9 (Za [0,9,10,12,40] ?_));refine jIf H (fun c3 H=>?_) fun c3 H=>?_
   ·obtain ⟨A8,c_8,h14⟩:=St.openN 1 h13 p1 p2;refine T7 (Zd 2 ?_);refine Zh (Zi e1 p1 p2) ?_;refine Zh (Zh3 0 h14.wht e1) ?_;refine Zd 2 ?_;have e4:=St.nestA2 0 h14 p3 p4;refine Zh (Zi e4 p3 p4) ?_;refine Zd 1 ?_;have h15:=h14.freeze (k:=1) rfl Ye;refine Yf (Zi2 (ty:=(.pair (.int .i64) (.pair (.slice 32 (.int .u32)) (.pair (.slice 9 .str) (.pair (.slice 52 (.pair .str (.pair .bool .str))) (.slice 44 (.pair .str .str))))))) (ix:=x3) (jx:=x2) (f:=3) ((gt (gt a0 x3) x2).1,(gt (gt a0 x3) x2).2.1,(gt (gt a0 x3) x2).2.2.1,r1,(gt (gt a0 x3) x2).2.2.2.2) 0 10 h15 p1 p2 p3 p4 e4 e3 ⟨_,_,rfl,(Ul rfl _),⟨_,_,rfl,(.inl (Zc 5)),⟨_,_,rfl,(.inl (Zc 3)),⟨_,_,rfl,(.inl (Zc 0)),(.inl (Zc 2))⟩⟩⟩⟩) ?_;rintro _ w6 ⟨cs11,h16⟩;replace h16:=nf h16;have e5:(a0.set x3.toNat ((gt a0 x3).set x2.toNat ((gt (gt a0 x3) x2).1,(gt (gt a0 x3) x2).2.1,(gt (gt a0 x3) x2).2.2.1,r1,(gt (gt a0 x3) x2).2.2.2.2))).length=a0.length:=length_set.trans (rfl:a0.length=a0.length);refine rFi [0] ?_;refine T3 (env':=[(0,.slice A1 (a0.set x3.toNat ((gt a0 x3).set x2.toNat ((gt (gt a0 x3) x2).1,(gt (gt a0 x3) x2).2.1,(gt (gt a0 x3) x2).2.2.1,r1,(gt (gt a0 x3) x2).2.2.2.2))).length c_1)]) (by simp only [length_set,length_nil] <;> rfl) ?_;have h17:=St.closeN 0 h16;refine T9 (Za [8] ?_);cases H;exact T8 (jRA ⟨_,_,_,rfl,rfl,rfl⟩ (sOR h17 [0] [0]))
   refine Sa (T9 (Za [8] ?_));cases H;exact T8 (jRA ⟨_,_,_,rfl,rfl,rfl⟩ (sOR h13 [1] [9]))
  refine rFi [0,2,3,5,9,10,11,32] ?_;refine jIf H (fun c4 H=>?_) fun c4 H=>?_
  ·refine T9 (T7 (rRL 1 1 h11 ?_));refine rLo 2 h11 ?_;refine cA H [] h11 rfl Q149.spec (gS [3]) fun r2 A9 c_9 w7 H h18=>?_;refine rFi [0,3,9,10,12] ?_;have h19:=nO h18 [0,0];refine T9 (T9 (Za [0,9,10,12,40] ?_));refine jIf H (fun c5 H=>?_) fun c5 H=>?_
   ·obtain ⟨A10,c_10,h20⟩:=St.openN 1 h19 p1 p2;refine T7 (Zd 2 ?_);refine Zh (Zi e1 p1 p2) ?_;refine Zh (Zh3 0 h20.wht e1) ?_;refine Zd 2 ?_;have e6:=St.nestA2 0 h20 p3 p4;refine Zh (Zi e6 p3 p4) ?_;refine Zd 1 ?_;have h21:=h20.freeze (k:=1) rfl Ye;refine Yf (Zi2 (ty:=(.pair (.int .i64) (.pair (.slice 32 (.int .u32)) (.pair (.slice 9 .str) (.pair (.slice 52 (.pair .str (.pair .bool .str))) (.slice 44 (.pair .str .str))))))) (ix:=x3) (jx:=x2) (f:=3) ((gt (gt a0 x3) x2).1,(gt (gt a0 x3) x2).2.1,(gt (gt a0 x3) x2).2.2.1,r2,(gt (gt a0 x3) x2).2.2.2.2) 0 10 h21 p1 p2 p3 p4 e6 e3 ⟨_,_,rfl,(Ul rfl _),⟨_,_,rfl,(.inl (Zc 5)),⟨_,_,rfl,(.inl (Zc 3)),⟨_,_,rfl,(.inl (Zc 0)),(.inl (Zc 2))⟩⟩⟩⟩) ?_;rintro _ w8 ⟨cs12,h22⟩;replace h22:=nf h22;have e7:(a0.set x3.toNat ((gt a0 x3).set x2.toNat ((gt (gt a0 x3) x2).1,(gt (gt a0 x3) x2).2.1,(gt (gt a0 x3) x2).2.2.1,r2,(gt (gt a0 x3) x2).2.2.2.2))).length=a0.length:=length_set.trans (rfl:a0.length=a0.length);refine rFi [0] ?_;refine T3 (env':=[(0,.slice A1 (a0.set x3.toNat ((gt a0 x3).set x2.toNat ((gt (gt a0 x3) x2).1,(gt (gt a0 x3) x2).2.1,(gt (gt a0 x3) x2).2.2.1,r2,(gt (gt a0 x3) x2).2.2.2.2))).length c_1)]) (by simp only [length_set,length_nil] <;> rfl) ?_;have h23:=St.closeN 0 h22;refine T9 (Za [8] ?_);cases H;exact T8 (jRA ⟨_,_,_,rfl,rfl,rfl⟩ (sOR h23 [0] [0]))
   refine Sa (T9 (Za [8] ?_));cases H;exact T8 (jRA ⟨_,_,_,rfl,rfl,rfl⟩ (sOR h19 [1] [9]))
  refine Sa (T9 (Za [0,2,3,5,10,11] ?_));refine jH h11 fun h24=>?_;refine Zp [0,2,4] ?_;refine Ze 1 rfl (Zf 1 wI) ?_;refine Ze 3 rfl (Zf 1 wI) ?_;refine Ze 5 rfl (Zf 2 wI) ?_;refine cSJ 6 rfl H [] h24 rfl Q155.spec (gS [5]) 0 fun r3 w9 H h25=>?_;refine hI 7 H h25 (Zc 7) fun p5 p6 e8 H=>?_;refine Ze 8 rfl (Zb 0 wI (Zc 7) p5 p6) ?_;refine hRF [9,10,11] [0,2,3,5,9,10] ?_;refine Za [0,2,3,5,9,10] ?_;have h26:=(sOR h25 [2,0] [9]);exact ⟨k1,by omega,_,_,_,H,rfl,h26⟩
 refine T4 (T9 (Za [8] ?_));cases H;exact T8 (jRA ⟨_,_,_,rfl,rfl,rfl⟩ (sOR h2 [1] [0]))

def Q158.l0:Nat->Tv->TX->(Int)->Tm->(Int)->Option Tl
 | 0,_,_,_,_,_=>none
 | k+1,a1,a2,a3,x1,x2=>if (decide (x2<(a1.length:Int)))=true then (if (decide (x2<(a2.length:Int)))=true then (if 0<=x2/\x2<(a2.length:Int) then (if 0<(x1.length:Int) then (if 0<=x2/\x2<(a1.length:Int) then ((Q159.f k x1 (gt a1 x2) (Int.tmod (w64 ((gt a2 x2))) (x1.length:Int)) a3).bind fun r1=>(Q158.l0 k a1 a2 a3 r1 (w64 (x2+1)))) else none) else none) else none) else (if 0<=x2/\x2<(a1.length:Int) then ((Q159.f k x1 (gt a1 x2) 0 a3).bind fun r2=>(Q158.l0 k a1 a2 a3 r2 (w64 (x2+1)))) else none)) else (some x1)
def Q158.f (k:Nat) (a0:Tm) (a1:Tv) (a2:TX) (a3:Int):Option Tl:=Q158.l0 k a1 a2 a3 a0 0
theorem Q158.spec {k a0 a1 a2 a3 cs1 A2 c_2 A3 c_3 A1 c_1 r} (H:Q158.f k a0 a1 a2 a3=some r) :
  SpecA prog 26 [.slice A1 a0.length c_1,.slice A2 a1.length c_2,.slice A3 a2.length c_3,.int .i64 a3] [N70 a0 A1 c_1 cs1] [V70 a0 cs1,R52 a1 A2 c_2,R5 a2 A3 c_3] (fun v l lr=>∃ A_0 c_0 cs_0,v=.slice A_0 r.length c_0/\l=[N70 r A_0 c_0 cs_0]/\lr=[V70 r cs_0]):=by
 refine Yp Tryz.func26 fun w0 F0 h0=>?_;unfold Q158.f at H;refine T9 (Za [0,1,2,3] ?_);refine T9 (T9 (Za [0,1,2,3,9] ?_));refine T1 ?_;have h6:=(sOR h0 [0] [1,2,0]);refine T5 (fun kk env w=>∃ x1 A4 c_4 x2 cs2,Q158.l0 kk a1 a2 a3 x1 x2=some r/\env=[(0,.slice A4 x1.length c_4),(1,.slice A2 a1.length c_2),(2,.slice A3 a2.length c_3),(3,.int .i64 a3),(9,.int .i64 x2)]/\St w0 F0 [N70 x1 A4 c_4 cs2] [R52 a1 A2 c_2,R5 a2 A3 c_3,V70 x1 cs2] w) (k:=k) ⟨_,_,_,_,_,H,rfl,h6⟩ ?_;rintro k1 env w1 ⟨x1,A4,c_4,x2,cs2,H,rfl,h1⟩;rcases k1 with _ | k1
 ·exact z0 H
 rw [Q158.l0] at H;refine T9 (T9 (Za [0,1,2,3,9,14] ?_));refine jIf H (fun c1 H=>?_) fun c1 H=>?_
 ·refine Sa (T9 (T1 (T9 (Za [0,1,2,3,9,10] ?_))));refine T9 (T9 (Za [0,1,2,3,9,10,20] ?_));refine jIf H (fun c2 H=>?_) fun c2 H=>?_
  ·refine T7 (Zd 2 ?_);refine rI H h1 (Zc 2) fun p1 p2 e1 H=>?_;refine Zh (Zb 0 h1.wht (Zc 2) p1 p2) ?_;refine Zd 3 ?_;obtain ⟨p3,H⟩:=Zk H;refine Zh (Zch p3) ?_;refine rFi [0,1,2,3,9,10] ?_;refine T7 (Zd 3 ?_);refine rI H h1 (Zc 1) fun p4 p5 e2 H=>?_;refine Zh (Zb 0 h1.wht (Zc 1) p4 p5) ?_;refine Zd 2 ?_;obtain ⟨r1,q1,H⟩:=Yh H;refine Yf (Z1 [0] (Q159.spec q1) h1 rfl (gS [2])) ?_;rintro _ w2 ⟨_,_,⟨A5,c_5,cs3,rfl,rfl,rfl⟩,h2⟩;replace h2:=nf h2;refine rFi [0,1,2,3,9] ?_;refine Za [0,1,2,3,9] ?_;have h3:=(sOR h2 [0] [1,2,0]);exact ⟨k1,by omega,_,_,_,_,_,H,rfl,h3⟩
  refine Sa (T7 (Zd 3 ?_));refine rI H h1 (Zc 1) fun p6 p7 e3 H=>?_;refine Zh (Zb 0 h1.wht (Zc 1) p6 p7) ?_;refine Zd 2 ?_;obtain ⟨r2,q2,H⟩:=Yh H;refine Yf (Z1 [0] (Q159.spec q2) h1 rfl (gS [2])) ?_;rintro _ w3 ⟨_,_,⟨A6,c_6,cs4,rfl,rfl,rfl⟩,h4⟩;replace h4:=nf h4;refine rFi [0,1,2,3,9] ?_;refine Za [0,1,2,3,9] ?_;have h5:=(sOR h4 [0] [1,2,0]);exact ⟨k1,by omega,_,_,_,_,_,H,rfl,h5⟩
 refine T4 (T9 (Za [8] ?_));cases H;exact T8 (jRA ⟨_,_,_,rfl,rfl,rfl⟩ (sOR h1 [0] [2]))

def Q133.l2:Nat->Tr->Tq->Tn->TM->TM->(Int)->Tm->(Bool)->Option Tl
 | 0,_,_,_,_,_,_,_,_=>none
 | k+1,a0,a1,x7,x8,x9,x10,x11,x12=>if (decide (1<(x7.length:Int)))=true then (some [[(0,[],[],[],[])]]) else ((Q137.f k a0 a1).bind fun r3=>((Q158.f k x11 r3 a1.2.2.1 a0.2.2.2.2.1).bind fun r4=>(some r4)))
mutual
def Q133.l3:Nat->Tr->Tq->Tn->TM->TM->(Int)->Tm->Option Tl
 | 0,_,_,_,_,_,_,_=>none
 | k+1,a0,a1,x13,x14,x15,x16,x17=>if (decide (1<(x13.length:Int)))=true then (Q133.l4 k a0 a1 x13 x14 x15 x16 x17 (decide ((x17.length:Int)<6))) else (Q133.l4 k a0 a1 x13 x14 x15 x16 x17 false)
def Q133.l4:Nat->Tr->Tq->Tn->TM->TM->(Int)->Tm->(Bool)->Option Tl
 | 0,_,_,_,_,_,_,_,_=>none
 | k+1,a0,a1,x13,x14,x15,x16,x17,x18=>if x18=true then (Q133.l6 k a0 a1 x13 x14 x15 x17 x16 [] [] [] 0) else (Q133.l2 k a0 a1 x13 x14 x15 x16 x17 x18)
def Q133.l5:Nat->Tr->Tq->Tm->(Int)->Tn->TM->TM->(Int)->(Bool)->Option Tl
 | 0,_,_,_,_,_,_,_,_,_=>none
 | k+1,a0,a1,x17,x19,x20,x21,x22,x23,x24=>if (x17.length+([x20]:List Tn).length)*24<=140737488355328 then (Q133.l3 k a0 a1 x20 x21 x22 x19 (x17 ++ [x20])) else none
def Q133.l6:Nat->Tr->Tq->Tn->TM->TM->Tm->(Int)->Tn->TM->TM->(Int)->Option Tl
 | 0,_,_,_,_,_,_,_,_,_,_,_=>none
 | k+1,a0,a1,x13,x14,x15,x17,x25,x26,x27,x28,x29=>if (decide (x29<(x13.length:Int)))=true then ((Q135.f a1 x25 a0.2.2.2.1).bind fun r5=>(Q133.l8 k a0 a1 r5 x13 x14 x15 x17 x25 x26 x27 x28 x29 [] [] 0)) else (Q133.l5 k a0 a1 x17 x25 x26 x27 x28 x29 (decide (x29<(x13.length:Int))))
def Q133.l7:Nat->Tr->Tq->(Int)->Tn->TM->TM->Tm->(Int)->Tn->TM->TM->(Int)->TX->TM->(Int)->(Bool)->Option Tl
 | 0,_,_,_,_,_,_,_,_,_,_,_,_,_,_,_,_=>none
 | k+1,a0,a1,r5,x13,x14,x15,x17,x25,x26,x27,x28,x29,x30,x31,x32,x33=>if (x26.length+([((x17.length:Int),x30,x31,[],[])]:List Tp).length)*104<=140737488355328 then (if 0<=x29/\x29<(x14.length:Int) then (if 0<=(w64 ((w64 (x29+(mnI (mxI r5 2) (w64 ((x13.length:Int) - x29))))) - 1))/\(w64 ((w64 (x29+(mnI (mxI r5 2) (w64 ((x13.length:Int) - x29))))) - 1))<(x15.length:Int) then (if (x27.length+([(gt x14 x29)]:List TS).length)*16<=140737488355328 then (if (x28.length+([(gt x15 (w64 ((w64 (x29+(mnI (mxI r5 2) (w64 ((x13.length:Int) - x29))))) - 1)))]:List TS).length)*16<=140737488355328 then (Q133.l6 k a0 a1 x13 x14 x15 x17 (w64 (x25+1)) (x26 ++ [((x17.length:Int),x30,x31,[],[])]) (x27 ++ [(gt x14 x29)]) (x28 ++ [(gt x15 (w64 ((w64 (x29+(mnI (mxI r5 2) (w64 ((x13.length:Int) - x29))))) - 1)))]) (w64 (x29+(mnI (mxI r5 2) (w64 ((x13.length:Int) - x29)))))) else none) else none) else none) else none) else none
def Q133.l8:Nat->Tr->Tq->(Int)->Tn->TM->TM->Tm->(Int)->Tn->TM->TM->(Int)->TX->TM->(Int)->Option Tl
 | 0,_,_,_,_,_,_,_,_,_,_,_,_,_,_,_=>none
 | k+1,a0,a1,r5,x13,x14,x15,x17,x25,x26,x27,x28,x29,x34,x35,x36=>if (decide (x36<(mnI (mxI r5 2) (w64 ((x13.length:Int) - x29)))))=true then (if (x34.length+([(uD.wrap ((w64 ((w64 (x29+x36))+1))))]:List Int).length)*4<=140737488355328 then (if (decide (0<x36))=true then (if 0<=(w64 ((w64 (x29+x36)) - 1))/\(w64 ((w64 (x29+x36)) - 1))<(x15.length:Int) then (if 0<=(w64 (x29+x36))/\(w64 (x29+x36))<(x14.length:Int) then ((Q142.f k (gt x15 (w64 ((w64 (x29+x36)) - 1))) (gt x14 (w64 (x29+x36)))).bind fun r6=>(if (x35.length+([r6.1]:List TS).length)*16<=140737488355328 then (Q133.l8 k a0 a1 r5 x13 x14 x15 x17 x25 x26 x27 x28 x29 (x34 ++ [(uD.wrap ((w64 ((w64 (x29+x36))+1))))]) (x35 ++ [r6.1]) (w64 (x36+1))) else none)) else none) else none) else (Q133.l8 k a0 a1 r5 x13 x14 x15 x17 x25 x26 x27 x28 x29 (x34 ++ [(uD.wrap ((w64 ((w64 (x29+x36))+1))))]) x35 (w64 (x36+1)))) else none) else (Q133.l7 k a0 a1 r5 x13 x14 x15 x17 x25 x26 x27 x28 x29 x34 x35 x36 (decide (x36<(mnI (mxI r5 2) (w64 ((x13.length:Int) - x29))))))
end
mutual
def Q133.l0:Nat->Tr->Tq->TA->Tn->TM->TM->(Int)->Option Tl
 | 0,_,_,_,_,_,_,_=>none
 | k+1,a0,a1,x1,x2,x3,x4,x5=>if (decide (0<(x1.length:Int)))=true then (Q133.l1 k a0 a1 x1 x2 x3 x4 x5 true) else (Q133.l1 k a0 a1 x1 x2 x3 x4 x5 (decide ((x2.length:Int)=0)))
def Q133.l1:Nat->Tr->Tq->TA->Tn->TM->TM->(Int)->(Bool)->Option Tl
 | 0,_,_,_,_,_,_,_,_=>none
 | k+1,a0,a1,x1,x2,x3,x4,x5,x6=>if x6=true then ((Q135.f a1 x5 a0.2.2.2.2.2.1).bind fun r2=>(if (0:Int)<=(mnI r2 (x1.length:Int))/\(mnI r2 (x1.length:Int))<=(x1.length:Int) then (if (x2.length+([(0,[],[],[],(x1.take ((mnI r2 (x1.length:Int))).toNat))]:List Tp).length)*104<=140737488355328 then (if (decide (0<(mnI r2 (x1.length:Int))))=true then (if 0<(x1.length:Int) then (if 0<=(w64 ((mnI r2 (x1.length:Int)) - 1))/\(w64 ((mnI r2 (x1.length:Int)) - 1))<(x1.length:Int) then (if (x3.length+([(gt x1 0).1]:List TS).length)*16<=140737488355328 then (if (x4.length+([(gt x1 (w64 ((mnI r2 (x1.length:Int)) - 1))).1]:List TS).length)*16<=140737488355328 then (if 0<=(mnI r2 (x1.length:Int))/\(mnI r2 (x1.length:Int))<=(x1.length:Int) then (Q133.l0 k a0 a1 (x1.drop ((mnI r2 (x1.length:Int))).toNat) (x2 ++ [(0,[],[],[],(x1.take ((mnI r2 (x1.length:Int))).toNat))]) (x3 ++ [(gt x1 0).1]) (x4 ++ [(gt x1 (w64 ((mnI r2 (x1.length:Int)) - 1))).1]) (w64 (x5+1))) else none) else none) else none) else none) else none) else (if (x3.length+([[]]:List TS).length)*16<=140737488355328 then (if (x4.length+([[]]:List TS).length)*16<=140737488355328 then (if 0<=(mnI r2 (x1.length:Int))/\(mnI r2 (x1.length:Int))<=(x1.length:Int) then (Q133.l0 k a0 a1 (x1.drop ((mnI r2 (x1.length:Int))).toNat) (x2 ++ [(0,[],[],[],(x1.take ((mnI r2 (x1.length:Int))).toNat))]) (x3 ++ [[]]) (x4 ++ [[]]) (w64 (x5+1))) else none) else none) else none)) else none) else none)) else (Q133.l3 k a0 a1 x2 x3 x4 x5 [x2])
end
def Q133.f (k:Nat) (a0:Tr) (a1:Tq):Option Tl:=(Q136.f k a0 a1).bind fun r1=>(Q133.l0 k a0 a1 r1 [] [] [] 0)
theorem Q133.spec {k a0 a1 A1 c_1 A2 c_2 A3 c_3 A4 c_4 r} (H:Q133.f k a0 a1=some r) :
  SpecA prog 14 [.agg #[.int .i64 a0.1,.int .i64 a0.2.1,.int .i64 a0.2.2.1,.int .i64 a0.2.2.2.1,.int .i64 a0.2.2.2.2.1,.int .i64 a0.2.2.2.2.2.1,.int .i64 a0.2.2.2.2.2.2.1,.int .i64 a0.2.2.2.2.2.2.2],.agg #[.slice A1 a1.1.length c_1,.slice A2 a1.2.1.length c_2,.slice A3 a1.2.2.1.length c_3,.slice A4 a1.2.2.2.length c_4]] [] [R44 a1.1 A1 c_1,R52 a1.2.1 A2 c_2,R5 a1.2.2.1 A3 c_3,R5 a1.2.2.2 A4 c_4] (fun v l lr=>∃ A_0 c_0,v=.slice A_0 r.length c_0/\l=[]/\lr=[R70 r A_0 c_0]):=by
 refine Yp Tryz.func14 fun w0 F0 h0=>?_;unfold Q133.f at H;refine T9 (T7 (rB (Z2 h0) fun b1 w1 h1=>?_));refine rB (Z2 h1) fun b2 w2 h2=>?_;refine rFi [2,3] ?_;refine T9 (T7 (rLo 1 h2 ?_));refine rLo 0 h2 ?_;refine cA H [] h2 rfl Q136.spec (gS [2,3,4,5]) fun r1 A5 c_5 w3 H h3=>?_;refine rFi [2,3,5] ?_;refine T9 (T7 (rB (Zju (.pair (.int .i64) (.pair (.slice 32 (.int .u32)) (.pair (.slice 9 .str) (.pair (.slice 52 (.pair .str (.pair .bool .str))) (.slice 44 (.pair .str .str)))))) h3) fun b3 w4 h4=>?_));refine rFi [2,3,5,6] ?_;refine T9 (T7 (rB (Zu .str [] h4) fun b4 w5 h5=>?_));refine rB (Zu .str [] h5) fun b5 w6 h6=>?_;refine rFi [2,3,5,6,7,8] ?_;refine T9 (Za [2,3,5,6,7,8,9] ?_);refine T9 (T1 ?_);have h166:=h6.freeze (k:=3) rfl Ye;have h167:=(sOR h166 [4,3,2,1,0] [2,3,4,5,0,1]);refine T5 (fun kk env w=>∃ x1 A6 c_6 x2 A7 c_7 x3 A8 c_8 x4 A9 c_9 x5 cs1,Q133.l0 kk a0 a1 x1 x2 x3 x4 x5=some r/\env=[(2,.pointer (some ⟨b1,0,none⟩)),(3,.pointer (some ⟨b2,0,none⟩)),(5,.slice A6 x1.length c_6),(6,.slice A7 x2.length c_7),(7,.slice A8 x3.length c_8),(8,.slice A9 x4.length c_9),(9,.int .i64 x5)]/\St w0 F0 [X23 b1 a0.1 a0.2.1 a0.2.2.1 a0.2.2.2.1 a0.2.2.2.2.1 a0.2.2.2.2.2.1 a0.2.2.2.2.2.2.1 a0.2.2.2.2.2.2.2,X28 b2 a1.1 A1 c_1 a1.2.1 A2 c_2 a1.2.2.1 A3 c_3 a1.2.2.2 A4 c_4,M75 x2 A7 c_7 cs1,O9 x3 A8 c_8,O9 x4 A9 c_9] [R44 a1.1 A1 c_1,R52 a1.2.1 A2 c_2,R5 a1.2.2.1 A3 c_3,R5 a1.2.2.2 A4 c_4,R44 x1 A6 c_6,E75 x2 cs1] w) (k:=k) ⟨_,_,_,_,_,_,_,_,_,_,_,_,_,_,H,rfl,h167⟩ ?_;rintro k1 env w7 ⟨x1,A6,c_6,x2,A7,c_7,x3,A8,c_8,x4,A9,c_9,x5,cs1,H,rfl,h7⟩;rcases k1 with _ | k1
 ·exact z0 H
 rw [Q133.l0] at H;refine T9 (T9 (T6 (fun env w=>∃ k2 x6,Q133.l1 k2 a0 a1 x1 x2 x3 x4 x5 x6=some r/\env=[(2,.pointer (some ⟨b1,0,none⟩)),(3,.pointer (some ⟨b2,0,none⟩)),(5,.slice A6 x1.length c_6),(6,.slice A7 x2.length c_7),(7,.slice A8 x3.length c_8),(8,.slice A9 x4.length c_9),(9,.int .i64 x5),(34,.bool x6)]/\St w0 F0 [X23 b1 a0.1 a0.2.1 a0.2.2.1 a0.2.2.2.1 a0.2.2.2.2.1 a0.2.2.2.2.2.1 a0.2.2.2.2.2.2.1 a0.2.2.2.2.2.2.2,X28 b2 a1.1 A1 c_1 a1.2.1 A2 c_2 a1.2.2.1 A3 c_3 a1.2.2.2 A4 c_4,M75 x2 A7 c_7 cs1,O9 x3 A8 c_8,O9 x4 A9 c_9] [R44 a1.1 A1 c_1,R52 a1.2.1 A2 c_2,R5 a1.2.2.1 A3 c_3,R5 a1.2.2.2 A4 c_4,R44 x1 A6 c_6,E75 x2 cs1] w/\k2<=k1) ?_ ?_))
 ·refine T7 (Zd 4 ?_);refine Z3 30 H (fun c9 H=>?_) fun c9 H=>?_
  ·refine rFi [2,3,5,6,7,8,9,34] ?_;have h164:=(sOR h7 [0,0,0,0,0] [0,1,2,3,4,5]);exact ⟨k1,_,H,rfl,h164,Sb _⟩
  refine rFi [2,3,5,6,7,8,9,34] ?_;have h165:=(sOR h7 [0,0,0,0,0] [0,1,2,3,4,5]);exact ⟨k1,_,H,rfl,h165,Sb _⟩
 rintro env w9 ⟨k2,x6,H,rfl,h8,hk2⟩;rcases k2 with _ | k2
 ·exact z0 H
 rw [Q133.l1] at H;refine jIf H (fun c1 H=>?_) fun c1 H=>?_
 ·refine Sa (T1 (T9 (T7 (rRL 2 1 h8 ?_))));refine rRL 2 0 h8 ?_;refine cS H [] h8 rfl Q135.spec (gS [5,6,7,8]) fun r2 w10 H h9=>?_;refine rFi [2,3,5,6,7,8,9,10] ?_;refine T9 (Za [2,3,5,6,7,8,9,10] ?_);refine T9 (T7 (Zd 3 ?_));obtain ⟨⟨p1,p2⟩,H⟩:=Zk H;have e1:=h9.cap (Zc 9);refine Zh (X6 (x1.take ((mnI r2 (x1.length:Int))).toNat) (mnI r2 (x1.length:Int)) e1 p1 p2) ?_;refine Zd 1 ?_;have h10:=h9.read (k:=4) rfl (Uu (.pair .str .str) (x1.take ((mnI r2 (x1.length:Int))).toNat) (mnI r2 (x1.length:Int)) p1 p2);refine Yf (Zcv (.pair (.int .i64) (.pair (.slice 32 (.int .u32)) (.pair (.slice 9 .str) (.pair (.slice 52 (.pair .str (.pair .bool .str))) (.slice 44 (.pair .str .str)))))) [(0,[],[],[],(x1.take ((mnI r2 (x1.length:Int))).toNat))] h10 (Ze3 ⟨_,_,rfl,(Ul rfl _),⟨_,_,rfl,(.inr Un),⟨_,_,rfl,(.inr Un),⟨_,_,rfl,(.inr Un),(.inl (Zc 0))⟩⟩⟩⟩ Zhu)) ?_;rintro _ w11 ⟨b6,rfl,h11⟩;replace h11:=nf h11;obtain ⟨p3,H⟩:=Zk H;refine Yf (Zjh 2 7 0 h11 p3) ?_;rintro _ w12 ⟨A10,c_10,cs2,rfl,h12⟩;replace h12:=nf h12;refine rFi [2,3,5,6,7,8,9,10] ?_;refine T9 (T9 (Za [2,3,5,6,7,8,9,10,53] ?_));refine jIf H (fun c2 H=>?_) fun c2 H=>?_
  ·obtain ⟨p4,H⟩:=Zk H;obtain ⟨⟨p5,p6⟩,H⟩:=Zk H;obtain ⟨p7,H⟩:=Zk H;obtain ⟨p8,H⟩:=Zk H;refine T6 (fun env w=>∃(A11:_) (c_11:_) (A12:_) (c_12:_),env=[(2,.pointer (some ⟨b1,0,none⟩)),(3,.pointer (some ⟨b2,0,none⟩)),(5,.slice A6 x1.length c_6),(6,.slice A10 (x2 ++ [(0,[],[],[],(x1.take ((mnI r2 (x1.length:Int))).toNat))]).length c_10),(7,.slice A11 (x3 ++ [(gt x1 0).1]).length c_11),(8,.slice A12 (x4 ++ [(gt x1 (w64 ((mnI r2 (x1.length:Int)) - 1))).1]).length c_12),(9,.int .i64 (w64 (x5+1))),(10,.int .i64 (mnI r2 (x1.length:Int)))]/\St w0 F0 [O9 (x3 ++ [(gt x1 0).1]) A11 c_11,O9 (x4 ++ [(gt x1 (w64 ((mnI r2 (x1.length:Int)) - 1))).1]) A12 c_12,M75 (x2 ++ [(0,[],[],[],(x1.take ((mnI r2 (x1.length:Int))).toNat))]) A10 c_10 cs2,X23 b1 a0.1 a0.2.1 a0.2.2.1 a0.2.2.2.1 a0.2.2.2.2.1 a0.2.2.2.2.2.1 a0.2.2.2.2.2.2.1 a0.2.2.2.2.2.2.2,X28 b2 a1.1 A1 c_1 a1.2.1 A2 c_2 a1.2.2.1 A3 c_3 a1.2.2.2 A4 c_4] [E75 (x2 ++ [(0,[],[],[],(x1.take ((mnI r2 (x1.length:Int))).toNat))]) cs2,R75 [(0,[],[],[],(x1.take ((mnI r2 (x1.length:Int))).toNat))] (some ⟨b6,0,none⟩) 1,R44 (x1.take ((mnI r2 (x1.length:Int))).toNat) A6 c_6,R44 a1.1 A1 c_1,R52 a1.2.1 A2 c_2,R5 a1.2.2.1 A3 c_3,R5 a1.2.2.2 A4 c_4,R44 x1 A6 c_6,E75 x2 cs1] w) ?_ ?_
   ·refine Zw (sO h12 [1,1]) ?_;have h17:=h12.drew;refine Zp [0,1,7,8,9,10] ?_;have e3:=W0 h17.wh (Zc 12) p4;refine Ze 2 rfl (Xs e3 p4) ?_;refine Zp [3] ?_;refine Ze 4 rfl (Y1 0 wI (Zc 9) p4) ?_;refine Ze 11 rfl (Zi e3 p5 p6) ?_;refine Zp [12] ?_;refine Ze 13 rfl (Zb 0 wI (Zc 9) p5 p6) ?_;refine TZ [5,14] (i:=5) rfl rfl rfl rfl ?_;refine (Y3 ?_ (Y3 ?_ V5))
    ·refine Yt 5 rfl (Zu .str [(gt x1 0).1] h17) ?_;rintro _ w44 ⟨b24,rfl,h45⟩;replace h45:=nf h45;refine ⟨⟨[_,_,_,_],(sO h45 [0,0,2,2,0,0])⟩,?_⟩;refine TZ [6,14] (i:=6) rfl rfl rfl rfl ?_;refine (Y3 ?_ (Y3 ?_ V5))
     ·refine Yt 6 rfl (Zr 4 h45 (gO 0) p7) ?_;rintro _ w45 ⟨A25,c_25,rfl,h46⟩;replace h46:=nf h46;refine ⟨⟨[_,_,_,_],(sO h46 [0,0,0,2,0,0])⟩,?_⟩;refine Yc 14 rfl (Zu .str [(gt x1 (w64 ((mnI r2 (x1.length:Int)) - 1))).1] h46) ?_;rintro _ w46 ⟨b25,rfl,h47⟩;replace h47:=nf h47;refine ⟨⟨[_,_,_,_,_],(sO h47 [0,0,0,0,2,0,0])⟩,?_⟩;refine Yc 15 rfl (Zr 6 h47 (gO 0) p8) ?_;rintro _ w47 ⟨A26,c_26,rfl,h48⟩;replace h48:=nf h48;refine ⟨⟨[_,_,_,_,_],h48⟩,?_⟩;refine hRF [16,17] [2,3,5,6,7,8,9,10] ?_;exact Y5 ⟨A25,c_25,A26,c_26,rfl,(sOR h48 [2,0,2,2,2] [0,1,2,3,4,5,6,7,8])⟩
     ·refine Yt 14 rfl (Zu .str [(gt x1 (w64 ((mnI r2 (x1.length:Int)) - 1))).1] h45) ?_;rintro _ w48 ⟨b26,rfl,h49⟩;replace h49:=nf h49;refine ⟨⟨[_,_,_,_,_],(sO h49 [0,0,0,2,2,0,0])⟩,?_⟩;refine Yc 6 rfl (Zr 5 h49 (gO 1) p7) ?_;rintro _ w49 ⟨A27,c_27,rfl,h50⟩;replace h50:=nf h50;refine ⟨⟨[_,_,_,_,_],(sO h50 [0,0,0,0,2,0,0])⟩,?_⟩;refine Yc 15 rfl (Zr 6 h50 (gO 1) p8) ?_;rintro _ w50 ⟨A28,c_28,rfl,h51⟩;replace h51:=nf h51;refine ⟨⟨[_,_,_,_,_],h51⟩,?_⟩;refine hRF [16,17] [2,3,5,6,7,8,9,10] ?_;exact Y5 ⟨A27,c_27,A28,c_28,rfl,(sOR h51 [1,0,2,2,2] [0,1,2,3,4,5,6,7,8])⟩
    ·refine Yt 14 rfl (Zu .str [(gt x1 (w64 ((mnI r2 (x1.length:Int)) - 1))).1] h17) ?_;rintro _ w51 ⟨b27,rfl,h52⟩;replace h52:=nf h52;refine ⟨⟨[_,_,_,_],(sO h52 [0,0,2,2,0,0])⟩,?_⟩;refine Yc 5 rfl (Zu .str [(gt x1 0).1] h52) ?_;rintro _ w52 ⟨b28,rfl,h53⟩;replace h53:=nf h53;refine ⟨⟨[_,_,_,_,_],(sO h53 [0,0,0,2,2,0,0])⟩,?_⟩;refine Yc 6 rfl (Zr 5 h53 (gO 0) p7) ?_;rintro _ w53 ⟨A29,c_29,rfl,h54⟩;replace h54:=nf h54;refine ⟨⟨[_,_,_,_,_],(sO h54 [0,0,0,0,2,0,0])⟩,?_⟩;refine Yc 15 rfl (Zr 6 h54 (gO 2) p8) ?_;rintro _ w54 ⟨A30,c_30,rfl,h55⟩;replace h55:=nf h55;refine ⟨⟨[_,_,_,_,_],h55⟩,?_⟩;refine hRF [16,17] [2,3,5,6,7,8,9,10] ?_;exact Y5 ⟨A29,c_29,A30,c_30,rfl,(sOR h55 [1,0,2,2,2] [0,1,2,3,4,5,6,7,8])⟩
   rintro env w55 ⟨A11,c_11,A12,c_12,rfl,h56⟩;refine T7 (Zd 2 ?_);obtain ⟨⟨p9,p10⟩,H⟩:=Zk H;have e4:=h56.cap (Zc 12);refine Zh (Uf (x1.drop ((mnI r2 (x1.length:Int))).toNat) (mnI r2 (x1.length:Int)) (x1.length:Int) e4 p9 p10 (Int.le_refl _) (Ys _ _)) ?_;refine rFi [2,3,5,6,7,8,9] ?_;have h57:=h56.read (k:=7) rfl (fun w F h=>((Je (ty:=(.pair .str .str)) (l:=(mnI r2 (x1.length:Int))) (h:=(x1.length:Int)) (sub:=(x1.drop ((mnI r2 (x1.length:Int))).toNat)) rfl p9 p10 (Int.le_refl _) (Ys _ _)) w F h));have h58:=(sOR h57 [3,3,2,0,0] [4,5,6,7,0,1]);exact ⟨k2,by omega,_,_,_,_,_,_,_,_,_,_,_,_,_,_,H,rfl,h58⟩
  refine T7 (Zd 1 ?_);refine rB (Zu .str [[]] h12) fun b29 w56 h59=>?_;obtain ⟨p11,H⟩:=Zk H;refine rA (Zr 4 h59 (gO 0) p11) fun A31 c_31 w57 h60=>?_;refine Zd 1 ?_;refine rB (Zu .str [[]] h60) fun b30 w58 h61=>?_;obtain ⟨p12,H⟩:=Zk H;refine rA (Zr 6 h61 (gO 0) p12) fun A32 c_32 w59 h62=>?_;refine rFi [2,3,5,6,7,8,9,10] ?_;have h63:=nO h62 [0,1,2,2,2];refine T7 (Zd 2 ?_);obtain ⟨⟨p13,p14⟩,H⟩:=Zk H;have e5:=h63.cap (Zc 12);refine Zh (Uf (x1.drop ((mnI r2 (x1.length:Int))).toNat) (mnI r2 (x1.length:Int)) (x1.length:Int) e5 p13 p14 (Int.le_refl _) (Ys _ _)) ?_;refine rFi [2,3,5,6,7,8,9] ?_;have h64:=h63.read (k:=7) rfl (fun w F h=>((Je (ty:=(.pair .str .str)) (l:=(mnI r2 (x1.length:Int))) (h:=(x1.length:Int)) (sub:=(x1.drop ((mnI r2 (x1.length:Int))).toNat)) rfl p13 p14 (Int.le_refl _) (Ys _ _)) w F h));have h65:=(sOR h64 [3,3,2,1,0] [4,5,6,7,0,1]);exact ⟨k2,by omega,_,_,_,_,_,_,_,_,_,_,_,_,_,_,H,rfl,h65⟩
 refine T4 (T9 (T7 (Zd 1 ?_)));refine Yf (Zg2 (t:=(.pair (.int .i64) (.pair (.slice 32 (.int .u32)) (.pair (.slice 9 .str) (.pair (.slice 52 (.pair .str (.pair .bool .str))) (.slice 44 (.pair .str .str))))))) (xs:=x2) 2 5 h8) ?_;rintro _ w60 ⟨b31,cs3,rfl,h66⟩;replace h66:=nf h66;refine rFi [2,3,6,7,8,9,11] ?_;refine T9 (T6 (fun env w=>∃ k3 x7 A33 c_33 x8 A34 c_34 x9 A35 c_35 x10 x11 A36 c_36 x12 cs4,Q133.l2 k3 a0 a1 x7 x8 x9 x10 x11 x12=some r/\env=[(2,.pointer (some ⟨b1,0,none⟩)),(3,.pointer (some ⟨b2,0,none⟩)),(6,.slice A33 x7.length c_33),(7,.slice A34 x8.length c_34),(8,.slice A35 x9.length c_35),(9,.int .i64 x10),(11,.slice A36 x11.length c_36),(88,.bool x12)]/\St w0 F0 [X23 b1 a0.1 a0.2.1 a0.2.2.1 a0.2.2.2.1 a0.2.2.2.2.1 a0.2.2.2.2.2.1 a0.2.2.2.2.2.2.1 a0.2.2.2.2.2.2.2,X28 b2 a1.1 A1 c_1 a1.2.1 A2 c_2 a1.2.2.1 A3 c_3 a1.2.2.2 A4 c_4,O9 x8 A34 c_34,O9 x9 A35 c_35,N70 x11 A36 c_36 cs4] [R44 a1.1 A1 c_1,R52 a1.2.1 A2 c_2,R5 a1.2.2.1 A3 c_3,R5 a1.2.2.2 A4 c_4,V70 x11 cs4] w/\k3<=k2) ?_ ?_)
 ·refine T1 ?_;have h163:=(sOR h66 [1,1,1,1,0] [1,2,3,4,0]);refine T5 (fun kk env w=>∃ x13 A39 c_39 x14 A40 c_40 x15 A41 c_41 x16 x17 A42 c_42 cs6,Q133.l3 kk a0 a1 x13 x14 x15 x16 x17=some r/\env=[(2,.pointer (some ⟨b1,0,none⟩)),(3,.pointer (some ⟨b2,0,none⟩)),(6,.slice A39 x13.length c_39),(7,.slice A40 x14.length c_40),(8,.slice A41 x15.length c_41),(9,.int .i64 x16),(11,.slice A42 x17.length c_42)]/\St w0 F0 [X23 b1 a0.1 a0.2.1 a0.2.2.1 a0.2.2.2.1 a0.2.2.2.2.1 a0.2.2.2.2.2.1 a0.2.2.2.2.2.2.1 a0.2.2.2.2.2.2.2,X28 b2 a1.1 A1 c_1 a1.2.1 A2 c_2 a1.2.2.1 A3 c_3 a1.2.2.2 A4 c_4,O9 x14 A40 c_40,O9 x15 A41 c_41,N70 x17 A42 c_42 cs6] [R44 a1.1 A1 c_1,R52 a1.2.1 A2 c_2,R5 a1.2.2.1 A3 c_3,R5 a1.2.2.2 A4 c_4,V70 x17 cs6] w/\kk<=k2) (k:=k2) ⟨_,_,_,_,_,_,_,_,_,_,_,_,_,_,H,rfl,h163,Sb _⟩ ?_;rintro k4 env w68 ⟨x13,A39,c_39,x14,A40,c_40,x15,A41,c_41,x16,x17,A42,c_42,cs6,H,rfl,h78,hk4⟩;rcases k4 with _ | k4
  ·exact z0 H
  rw [Q133.l3] at H;refine T9 (T9 (T6 (fun env w=>∃ k5 x18,Q133.l4 k5 a0 a1 x13 x14 x15 x16 x17 x18=some r/\env=[(2,.pointer (some ⟨b1,0,none⟩)),(3,.pointer (some ⟨b2,0,none⟩)),(6,.slice A39 x13.length c_39),(7,.slice A40 x14.length c_40),(8,.slice A41 x15.length c_41),(9,.int .i64 x16),(11,.slice A42 x17.length c_42),(88,.bool x18)]/\St w0 F0 [X23 b1 a0.1 a0.2.1 a0.2.2.1 a0.2.2.2.1 a0.2.2.2.2.1 a0.2.2.2.2.2.1 a0.2.2.2.2.2.2.1 a0.2.2.2.2.2.2.2,X28 b2 a1.1 A1 c_1 a1.2.1 A2 c_2 a1.2.2.1 A3 c_3 a1.2.2.2 A4 c_4,O9 x14 A40 c_40,O9 x15 A41 c_41,N70 x17 A42 c_42 cs6] [R44 a1.1 A1 c_1,R52 a1.2.1 A2 c_2,R5 a1.2.2.1 A3 c_3,R5 a1.2.2.2 A4 c_4,V70 x17 cs6] w/\k5<=k4) ?_ ?_))
  ·refine T7 (Zd 4 ?_);refine Z3 84 H (fun c8 H=>?_) fun c8 H=>?_
   ·refine rFi [2,3,6,7,8,9,11,88] ?_;have h161:=(sOR h78 [0,0,0,0,0] [0,1,2,3,4]);exact ⟨k4,_,H,rfl,h161,Sb _⟩
   refine rFi [2,3,6,7,8,9,11,88] ?_;have h162:=(sOR h78 [0,0,0,0,0] [0,1,2,3,4]);exact ⟨k4,_,H,rfl,h162,Sb _⟩
  rintro env w70 ⟨k5,x18,H,rfl,h79,hk5⟩;rcases k5 with _ | k5
  ·exact z0 H
  rw [Q133.l4] at H;refine jIf H (fun c4 H=>?_) fun c4 H=>?_
  ·refine Sa (T1 (T9 (T7 (rB (Zju (.pair (.int .i64) (.pair (.slice 32 (.int .u32)) (.pair (.slice 9 .str) (.pair (.slice 52 (.pair .str (.pair .bool .str))) (.slice 44 (.pair .str .str)))))) h79) fun b34 w71 h80=>?_))));refine rFi [2,3,6,7,8,9,11,12] ?_;refine T9 (T7 (rB (Zu .str [] h80) fun b35 w72 h81=>?_));refine rB (Zu .str [] h81) fun b36 w73 h82=>?_;refine rFi [2,3,6,7,8,9,11,12,13,14] ?_;refine T9 (T9 (Za [2,3,6,7,8,9,11,12,13,14,15] ?_));refine T6 (fun env w=>∃ k6 x19 x20 A43 c_43 x21 A44 c_44 x22 A45 c_45 x23 x24 cs7,Q133.l5 k6 a0 a1 x17 x19 x20 x21 x22 x23 x24=some r/\env=[(2,.pointer (some ⟨b1,0,none⟩)),(3,.pointer (some ⟨b2,0,none⟩)),(6,.slice A39 x13.length c_39),(7,.slice A40 x14.length c_40),(8,.slice A41 x15.length c_41),(9,.int .i64 x19),(11,.slice A42 x17.length c_42),(12,.slice A43 x20.length c_43),(13,.slice A44 x21.length c_44),(14,.slice A45 x22.length c_45),(15,.int .i64 x23),(95,.bool x24)]/\St w0 F0 [X23 b1 a0.1 a0.2.1 a0.2.2.1 a0.2.2.2.1 a0.2.2.2.2.1 a0.2.2.2.2.2.1 a0.2.2.2.2.2.2.1 a0.2.2.2.2.2.2.2,X28 b2 a1.1 A1 c_1 a1.2.1 A2 c_2 a1.2.2.1 A3 c_3 a1.2.2.2 A4 c_4,O9 x14 A40 c_40,O9 x15 A41 c_41,N70 x17 A42 c_42 cs6,M75 x20 A43 c_43 cs7,O9 x21 A44 c_44,O9 x22 A45 c_45] [R44 a1.1 A1 c_1,R52 a1.2.1 A2 c_2,R5 a1.2.2.1 A3 c_3,R5 a1.2.2.2 A4 c_4,V70 x17 cs6,E75 x20 cs7] w/\k6<=k5) ?_ ?_
   ·refine T1 ?_;have h159:=(sOR h82 [3,3,3,3,3,2,1,0] [1,2,3,4,5,0]);refine T5 (fun kk env w=>∃ x25 x26 A47 c_47 x27 A48 c_48 x28 A49 c_49 x29 cs10,Q133.l6 kk a0 a1 x13 x14 x15 x17 x25 x26 x27 x28 x29=some r/\env=[(2,.pointer (some ⟨b1,0,none⟩)),(3,.pointer (some ⟨b2,0,none⟩)),(6,.slice A39 x13.length c_39),(7,.slice A40 x14.length c_40),(8,.slice A41 x15.length c_41),(9,.int .i64 x25),(11,.slice A42 x17.length c_42),(12,.slice A47 x26.length c_47),(13,.slice A48 x27.length c_48),(14,.slice A49 x28.length c_49),(15,.int .i64 x29)]/\St w0 F0 [X23 b1 a0.1 a0.2.1 a0.2.2.1 a0.2.2.2.1 a0.2.2.2.2.1 a0.2.2.2.2.2.1 a0.2.2.2.2.2.2.1 a0.2.2.2.2.2.2.2,X28 b2 a1.1 A1 c_1 a1.2.1 A2 c_2 a1.2.2.1 A3 c_3 a1.2.2.2 A4 c_4,O9 x14 A40 c_40,O9 x15 A41 c_41,N70 x17 A42 c_42 cs6,M75 x26 A47 c_47 cs10,O9 x27 A48 c_48,O9 x28 A49 c_49] [R44 a1.1 A1 c_1,R52 a1.2.1 A2 c_2,R5 a1.2.2.1 A3 c_3,R5 a1.2.2.2 A4 c_4,V70 x17 cs6,E75 x26 cs10] w/\kk<=k5) (k:=k5) ⟨_,_,_,_,_,_,_,_,_,_,_,_,H,rfl,h159,Sb _⟩ ?_;rintro k7 env w78 ⟨x25,x26,A47,c_47,x27,A48,c_48,x28,A49,c_49,x29,cs10,H,rfl,h88,hk7⟩;rcases k7 with _ | k7
    ·exact z0 H
    rw [Q133.l6] at H;refine T9 (T9 (Za [2,3,6,7,8,9,11,12,13,14,15,95] ?_));refine jIf H (fun c5 H=>?_) fun c5 H=>?_
    ·refine Sa (T1 (T9 (T7 (rRL 4 1 h88 ?_))));refine rRL 2 0 h88 ?_;refine cS H [] h88 rfl Q135.spec (gS [8,9,10,11]) fun r5 w79 H h89=>?_;refine rFi [2,3,6,7,8,9,11,12,13,14,15,16] ?_;refine T9 (Za [2,3,6,7,8,9,11,12,13,14,15,16] ?_);refine T9 (T7 (Zd 3 ?_));refine rB (Yw h89) fun b38 w80 h90=>?_;refine rS (Zs 0 h90) fun _ w81 h91=>?_;refine rFi [2,3,6,7,8,9,11,12,13,14,15,16,17] ?_;refine T9 (T9 (Za [2,3,6,7,8,9,11,12,13,14,15,16,17,18] ?_));refine T6 (fun env w=>∃ k8 x30 A50 c_50 x31 A51 c_51 x32 x33,Q133.l7 k8 a0 a1 r5 x13 x14 x15 x17 x25 x26 x27 x28 x29 x30 x31 x32 x33=some r/\env=[(2,.pointer (some ⟨b1,0,none⟩)),(3,.pointer (some ⟨b2,0,none⟩)),(6,.slice A39 x13.length c_39),(7,.slice A40 x14.length c_40),(8,.slice A41 x15.length c_41),(9,.int .i64 (w64 (x25+1))),(11,.slice A42 x17.length c_42),(12,.slice A47 x26.length c_47),(13,.slice A48 x27.length c_48),(14,.slice A49 x28.length c_49),(15,.int .i64 x29),(16,.int .i64 (mnI (mxI r5 2) (w64 ((x13.length:Int) - x29)))),(17,.pointer (some ⟨b38,0,none⟩)),(18,.int .i64 x32),(114,.bool x33)]/\St w0 F0 [X23 b1 a0.1 a0.2.1 a0.2.2.1 a0.2.2.2.1 a0.2.2.2.2.1 a0.2.2.2.2.2.1 a0.2.2.2.2.2.2.1 a0.2.2.2.2.2.2.2,X28 b2 a1.1 A1 c_1 a1.2.1 A2 c_2 a1.2.2.1 A3 c_3 a1.2.2.2 A4 c_4,X75 b38 (x17.length:Int) x30 A50 c_50 x31 A51 c_51 [] none 0 [] none 0,O9 x14 A40 c_40,O9 x15 A41 c_41,N70 x17 A42 c_42 cs6,M75 x26 A47 c_47 cs10,O9 x27 A48 c_48,O9 x28 A49 c_49,O32 x30 A50 c_50,O9 x31 A51 c_51] [R44 a1.1 A1 c_1,R52 a1.2.1 A2 c_2,R5 a1.2.2.1 A3 c_3,R5 a1.2.2.2 A4 c_4,V70 x17 cs6,E75 x26 cs10] w/\k8<=k7) ?_ ?_
     ·refine T1 ?_;have h155:=h91.addNil 32 (.int .u32);have h156:=h155.addNil 9 .str;have h157:=(sOR h156 [3,3,2,2,2,2,2,2,2,1,0] [0,1,2,3,4,5]);refine T5 (fun kk env w=>∃ x34 A73 c_73 x35 A74 c_74 x36,Q133.l8 kk a0 a1 r5 x13 x14 x15 x17 x25 x26 x27 x28 x29 x34 x35 x36=some r/\env=[(2,.pointer (some ⟨b1,0,none⟩)),(3,.pointer (some ⟨b2,0,none⟩)),(6,.slice A39 x13.length c_39),(7,.slice A40 x14.length c_40),(8,.slice A41 x15.length c_41),(9,.int .i64 (w64 (x25+1))),(11,.slice A42 x17.length c_42),(12,.slice A47 x26.length c_47),(13,.slice A48 x27.length c_48),(14,.slice A49 x28.length c_49),(15,.int .i64 x29),(16,.int .i64 (mnI (mxI r5 2) (w64 ((x13.length:Int) - x29)))),(17,.pointer (some ⟨b38,0,none⟩)),(18,.int .i64 x36)]/\St w0 F0 [X23 b1 a0.1 a0.2.1 a0.2.2.1 a0.2.2.2.1 a0.2.2.2.2.1 a0.2.2.2.2.2.1 a0.2.2.2.2.2.2.1 a0.2.2.2.2.2.2.2,X28 b2 a1.1 A1 c_1 a1.2.1 A2 c_2 a1.2.2.1 A3 c_3 a1.2.2.2 A4 c_4,X75 b38 (x17.length:Int) x34 A73 c_73 x35 A74 c_74 [] none 0 [] none 0,O9 x14 A40 c_40,O9 x15 A41 c_41,N70 x17 A42 c_42 cs6,M75 x26 A47 c_47 cs10,O9 x27 A48 c_48,O9 x28 A49 c_49,O32 x34 A73 c_73,O9 x35 A74 c_74] [R44 a1.1 A1 c_1,R52 a1.2.1 A2 c_2,R5 a1.2.2.1 A3 c_3,R5 a1.2.2.2 A4 c_4,V70 x17 cs6,E75 x26 cs10] w/\kk<=k7) (k:=k7) ⟨_,_,_,_,_,_,_,H,rfl,h157,Sb _⟩ ?_;rintro k9 env w129 ⟨x34,A73,c_73,x35,A74,c_74,x36,H,rfl,h142,hk9⟩;rcases k9 with _ | k9
      ·exact z0 H
      rw [Q133.l8] at H;refine T9 (T9 (Za [2,3,6,7,8,9,11,12,13,14,15,16,17,18,114] ?_));refine jIf H (fun c6 H=>?_) fun c6 H=>?_
      ·refine Sa (T9 (T1 (T9 (T7 (rRL 1 2 h142 ?_)))));refine Zd 5 ?_;refine rB (Zu (.int .u32) [(uD.wrap ((w64 ((w64 (x29+x36))+1))))] h142) fun b62 w130 h143=>?_;obtain ⟨p23,H⟩:=Zk H;refine rA (Zr 10 h143 (gO 0) p23) fun A75 c_75 w131 h144=>?_;refine Zd 1 ?_;refine rS (Zs 4 h144) fun _ w132 h145=>?_;refine rFi [2,3,6,7,8,9,11,12,13,14,15,16,17,18] ?_;refine T9 (Za [2,3,6,7,8,9,11,12,13,14,15,16,17,18,128] ?_);refine jIf H (fun c7 H=>?_) fun c7 H=>?_
       ·refine T9 (jH h145 fun h146=>?_);refine Zp [0,1,2,3,4,7,8,9,10] ?_;refine hI 5 H h146 (gO 6) fun p24 p25 e10 H=>?_;refine Ze 6 rfl (Zb 0 wI (gO 6) p24 p25) ?_;refine hI 11 H h146 (gO 5) fun p26 p27 e11 H=>?_;refine Ze 12 rfl (Zb 0 wI (gO 5) p26 p27) ?_;refine cSJ 13 rfl H [] h146 rfl Q142.spec Zm 0 fun r6 w133 H h147=>?_;refine hRF [14,15,16,17,18] [2,3,6,7,8,9,11,12,13,14,15,16,17,18,19] ?_;refine T7 (rRL 1 0 h147 ?_);refine Zd 1 ?_;refine rB (Zu .str [r6.1] h147) fun b63 w134 h148=>?_;obtain ⟨p28,H⟩:=Zk H;refine rA (Zr 12 h148 (gO 0) p28) fun A76 c_76 w135 h149=>?_;refine Zd 1 ?_;refine rS (Zs 2 h149) fun _ w136 h150=>?_;refine rFi [2,3,6,7,8,9,11,12,13,14,15,16,17,18] ?_;have h151:=nO h150 [0,0,1,2,2,2,2,2,2,2,2];refine Za [2,3,6,7,8,9,11,12,13,14,15,16,17,18] ?_;have h152:=(sOR h151 [3,3,0,2,2,2,2,2,2,1,0] [0,1,2,3,4,5]);exact ⟨k9,by omega,_,_,_,_,_,_,_,H,rfl,h152,by omega⟩
       refine Sa (Za [2,3,6,7,8,9,11,12,13,14,15,16,17,18] ?_);have h153:=(sOR h145 [3,3,0,2,2,2,2,2,2,0,1] [0,1,2,3,4,5]);exact ⟨k9,by omega,_,_,_,_,_,_,_,H,rfl,h153,by omega⟩
      refine T4 ?_;have h154:=(sOR h142 [0,0,0,0,0,0,0,0,0,0,0] [0,1,2,3,4,5]);exact ⟨k9,_,_,_,_,_,_,_,_,H,rfl,h154,by omega⟩
     rintro env w83 ⟨k8,x30,A50,c_50,x31,A51,c_51,x32,x33,H,rfl,h92,hk8⟩;rcases k8 with _ | k8
     ·exact z0 H
     rw [Q133.l7] at H;refine T9 (T7 (rRL 1 2 h92 ?_));have h93:=h92.freeze (k:=9) rfl Ye;have h94:=h93.freeze (k:=9) rfl Ye;refine Yf (Zcv (.pair (.int .i64) (.pair (.slice 32 (.int .u32)) (.pair (.slice 9 .str) (.pair (.slice 52 (.pair .str (.pair .bool .str))) (.slice 44 (.pair .str .str)))))) [((x17.length:Int),x30,x31,[],[])] h94 (Ze3 ⟨_,_,rfl,(Ul rfl _),⟨_,_,rfl,(.inl (Zc 1)),⟨_,_,rfl,(.inl (Zc 0)),⟨_,_,rfl,(.inr Un),(.inr Un)⟩⟩⟩⟩ Zhu)) ?_;rintro _ w84 ⟨b39,rfl,h95⟩;replace h95:=nf h95;obtain ⟨p16,H⟩:=Zk H;refine Yf (Zjh 6 8 0 h95 p16) ?_;rintro _ w85 ⟨A52,c_52,cs11,rfl,h96⟩;replace h96:=nf h96;refine rFi [2,3,6,7,8,9,11,12,13,14,15,16] ?_;refine T9 ?_;obtain ⟨⟨p17,p18⟩,H⟩:=Zk H;obtain ⟨⟨p19,p20⟩,H⟩:=Zk H;obtain ⟨p21,H⟩:=Zk H;obtain ⟨p22,H⟩:=Zk H;refine T6 (fun env w=>∃(A53:_) (c_53:_) (A54:_) (c_54:_),env=[(2,.pointer (some ⟨b1,0,none⟩)),(3,.pointer (some ⟨b2,0,none⟩)),(6,.slice A39 x13.length c_39),(7,.slice A40 x14.length c_40),(8,.slice A41 x15.length c_41),(9,.int .i64 (w64 (x25+1))),(11,.slice A42 x17.length c_42),(12,.slice A52 (x26 ++ [((x17.length:Int),x30,x31,[],[])]).length c_52),(13,.slice A53 (x27 ++ [(gt x14 x29)]).length c_53),(14,.slice A54 (x28 ++ [(gt x15 (w64 ((w64 (x29+(mnI (mxI r5 2) (w64 ((x13.length:Int) - x29))))) - 1)))]).length c_54),(15,.int .i64 x29),(16,.int .i64 (mnI (mxI r5 2) (w64 ((x13.length:Int) - x29))))]/\St w0 F0 [O9 (x27 ++ [(gt x14 x29)]) A53 c_53,O9 (x28 ++ [(gt x15 (w64 ((w64 (x29+(mnI (mxI r5 2) (w64 ((x13.length:Int) - x29))))) - 1)))]) A54 c_54,M75 (x26 ++ [((x17.length:Int),x30,x31,[],[])]) A52 c_52 cs11,X23 b1 a0.1 a0.2.1 a0.2.2.1 a0.2.2.2.1 a0.2.2.2.2.1 a0.2.2.2.2.2.1 a0.2.2.2.2.2.2.1 a0.2.2.2.2.2.2.2,X28 b2 a1.1 A1 c_1 a1.2.1 A2 c_2 a1.2.2.1 A3 c_3 a1.2.2.2 A4 c_4,X75 b38 (x17.length:Int) x30 A50 c_50 x31 A51 c_51 [] none 0 [] none 0,O9 x14 A40 c_40,O9 x15 A41 c_41,N70 x17 A42 c_42 cs6] [E75 (x26 ++ [((x17.length:Int),x30,x31,[],[])]) cs11,R75 [((x17.length:Int),x30,x31,[],[])] (some ⟨b39,0,none⟩) 1,R9 x31 A51 c_51,R32 x30 A50 c_50,R44 a1.1 A1 c_1,R52 a1.2.1 A2 c_2,R5 a1.2.2.1 A3 c_3,R5 a1.2.2.2 A4 c_4,V70 x17 cs6,E75 x26 cs10] w) ?_ ?_
     ·refine Zw (sO h96 [1,1,1]) ?_;have h101:=h96.drew;refine Zp [0,1,2,7,8,9,10,11,12] ?_;have e8:=G8 h101.wh (gO 4) p17 p18;refine Ze 3 rfl (Zi e8 p17 p18) ?_;refine HJ.more ⟨[_,_,_,_,_],(sO h101 [0,4,4,4,4,3,0,0,0])⟩ ?_;refine Ze 4 rfl (Zb 0 wI (gO 0) p17 p18) ?_;have e9:=G8 h101.wh (gO 5) p19 p20;refine Ze 13 rfl (Zi e9 p19 p20) ?_;refine HJ.more ⟨[_,_,_,_],(sO h101 [0,5,5,5,4,3,0,0,0])⟩ ?_;refine Ze 14 rfl (Zb 0 wI (gO 0) p19 p20) ?_;refine TZ [5,15] (i:=5) rfl rfl rfl rfl ?_;refine (Y3 ?_ (Y3 ?_ V5))
      ·refine Yt 5 rfl (Zu .str [(gt x14 x29)] h101) ?_;rintro _ w117 ⟨b57,rfl,h129⟩;replace h129:=nf h129;refine ⟨⟨[_,_,_,_,_],(sO h129 [0,0,5,5,5,4,3,0,0,0])⟩,?_⟩;refine TZ [6,15] (i:=6) rfl rfl rfl rfl ?_;refine (Y3 ?_ (Y3 ?_ V5))
       ·refine Yt 6 rfl (Zr 8 h129 (gO 0) p21) ?_;rintro _ w118 ⟨A67,c_67,rfl,h130⟩;replace h130:=nf h130;refine ⟨⟨[_,_,_,_,_],(sO h130 [0,0,0,5,5,4,3,0,0,0])⟩,?_⟩;refine Yc 15 rfl (Zu .str [(gt x15 (w64 ((w64 (x29+(mnI (mxI r5 2) (w64 ((x13.length:Int) - x29))))) - 1)))] h130) ?_;rintro _ w119 ⟨b58,rfl,h131⟩;replace h131:=nf h131;refine ⟨⟨[_,_,_,_,_,_],(sO h131 [0,0,0,0,5,5,4,3,0,0,0])⟩,?_⟩;refine Yc 16 rfl (Zr 10 h131 (gO 0) p22) ?_;rintro _ w120 ⟨A68,c_68,rfl,h132⟩;replace h132:=nf h132;refine ⟨⟨[_,_,_,_,_,_],(sO h132 [0,0,0,0,0,5,4,3,0,0,0])⟩,?_⟩;refine hRF [17,18] [2,3,6,7,8,9,11,12,13,14,15,16] ?_;exact Y5 ⟨A67,c_67,A68,c_68,rfl,(sOR h132 [2,0,2,2,2,2,2,2,2] [0,1,2,3,4,5,6,7,8,9])⟩
       ·refine Yt 15 rfl (Zu .str [(gt x15 (w64 ((w64 (x29+(mnI (mxI r5 2) (w64 ((x13.length:Int) - x29))))) - 1)))] h129) ?_;rintro _ w121 ⟨b59,rfl,h133⟩;replace h133:=nf h133;refine ⟨⟨[_,_,_,_,_,_],(sO h133 [0,0,0,5,5,5,4,3,0,0,0])⟩,?_⟩;refine Yc 6 rfl (Zr 9 h133 (gO 1) p21) ?_;rintro _ w122 ⟨A69,c_69,rfl,h134⟩;replace h134:=nf h134;refine ⟨⟨[_,_,_,_,_,_],(sO h134 [0,0,0,0,5,5,4,3,0,0,0])⟩,?_⟩;refine Yc 16 rfl (Zr 10 h134 (gO 1) p22) ?_;rintro _ w123 ⟨A70,c_70,rfl,h135⟩;replace h135:=nf h135;refine ⟨⟨[_,_,_,_,_,_],(sO h135 [0,0,0,0,0,5,4,3,0,0,0])⟩,?_⟩;refine hRF [17,18] [2,3,6,7,8,9,11,12,13,14,15,16] ?_;exact Y5 ⟨A69,c_69,A70,c_70,rfl,(sOR h135 [1,0,2,2,2,2,2,2,2] [0,1,2,3,4,5,6,7,8,9])⟩
      ·refine Yt 15 rfl (Zu .str [(gt x15 (w64 ((w64 (x29+(mnI (mxI r5 2) (w64 ((x13.length:Int) - x29))))) - 1)))] h101) ?_;rintro _ w124 ⟨b60,rfl,h136⟩;replace h136:=nf h136;refine ⟨⟨[_,_,_,_,_],(sO h136 [0,0,5,5,5,4,3,0,0,0])⟩,?_⟩;refine Yc 5 rfl (Zu .str [(gt x14 x29)] h136) ?_;rintro _ w125 ⟨b61,rfl,h137⟩;replace h137:=nf h137;refine ⟨⟨[_,_,_,_,_,_],(sO h137 [0,0,0,5,5,5,4,3,0,0,0])⟩,?_⟩;refine Yc 6 rfl (Zr 9 h137 (gO 0) p21) ?_;rintro _ w126 ⟨A71,c_71,rfl,h138⟩;replace h138:=nf h138;refine ⟨⟨[_,_,_,_,_,_],(sO h138 [0,0,0,0,5,5,4,3,0,0,0])⟩,?_⟩;refine Yc 16 rfl (Zr 10 h138 (gO 2) p22) ?_;rintro _ w127 ⟨A72,c_72,rfl,h139⟩;replace h139:=nf h139;refine ⟨⟨[_,_,_,_,_,_],(sO h139 [0,0,0,0,0,5,4,3,0,0,0])⟩,?_⟩;refine hRF [17,18] [2,3,6,7,8,9,11,12,13,14,15,16] ?_;exact Y5 ⟨A71,c_71,A72,c_72,rfl,(sOR h139 [1,0,2,2,2,2,2,2,2] [0,1,2,3,4,5,6,7,8,9])⟩
     rintro env w128 ⟨A53,c_53,A54,c_54,rfl,h140⟩;refine Za [2,3,6,7,8,9,11,12,13,14,15] ?_;have h141:=(sOR h140 [3,3,4,4,4,2,0,0] [4,5,6,7,8,0]);exact ⟨k8,by omega,_,_,_,_,_,_,_,_,_,_,_,_,H,rfl,h141,by omega⟩
    refine T4 ?_;have h158:=(sOR h88 [0,0,0,0,0,0,0,0] [0,1,2,3,4,5]);exact ⟨k7,_,_,_,_,_,_,_,_,_,_,_,_,_,H,rfl,h158,by omega⟩
   rintro env w75 ⟨k6,x19,x20,A43,c_43,x21,A44,c_44,x22,A45,c_45,x23,x24,cs7,H,rfl,h83,hk6⟩;rcases k6 with _ | k6
   ·exact z0 H
   rw [Q133.l5] at H;refine T9 (Za [2,3,6,7,8,9,11] ?_);have h84:=nO h83 [0,0,2,2,2,2];refine T7 (Zd 2 ?_);refine Yf (Zg2 (t:=(.pair (.int .i64) (.pair (.slice 32 (.int .u32)) (.pair (.slice 9 .str) (.pair (.slice 52 (.pair .str (.pair .bool .str))) (.slice 44 (.pair .str .str))))))) (xs:=x20) 3 5 h84) ?_;rintro _ w76 ⟨b37,cs8,rfl,h85⟩;replace h85:=nf h85;obtain ⟨p15,H⟩:=Zk H;refine Yf (Zn1 3 0 5 0 h85 p15) ?_;rintro _ w77 ⟨A46,c_46,cs9,rfl,h86⟩;replace h86:=nf h86;refine rFi [2,3,6,7,8,9,11] ?_;have h87:=(sOR h86 [1,1,1,1,0] [2,3,4,5,0]);exact ⟨k6,by omega,_,_,_,_,_,_,_,_,_,_,_,_,_,_,H,rfl,h87,by omega⟩
  refine T4 ?_;have h160:=(sOR h79 [0,0,0,0,0] [0,1,2,3,4]);exact ⟨k5,_,_,_,_,_,_,_,_,_,_,_,_,_,_,_,H,rfl,h160,by omega⟩
 rintro env w62 ⟨k3,x7,A33,c_33,x8,A34,c_34,x9,A35,c_35,x10,x11,A36,c_36,x12,cs4,H,rfl,h67,hk3⟩;rcases k3 with _ | k3
 ·exact z0 H
 rw [Q133.l2] at H;refine T9 (T9 (Za [2,3,11,185] ?_));have h68:=nO h67 [0,0,2];refine jIf H (fun c3 H=>?_) fun c3 H=>?_
 ·refine T9 (T7 (Zd 1 ?_));refine Yf (Zcv (.pair (.int .i64) (.pair (.slice 32 (.int .u32)) (.pair (.slice 9 .str) (.pair (.slice 52 (.pair .str (.pair .bool .str))) (.slice 44 (.pair .str .str)))))) [(0,[],[],[],[])] h68 (Ze3 ⟨_,_,rfl,(Ul rfl _),⟨_,_,rfl,(.inr Un),⟨_,_,rfl,(.inr Un),⟨_,_,rfl,(.inr Un),(.inr Un)⟩⟩⟩⟩ Zhu)) ?_;rintro _ w63 ⟨b32,rfl,h69⟩;replace h69:=nf h69;refine Yf (Zcv (.slice 75 (.pair (.int .i64) (.pair (.slice 32 (.int .u32)) (.pair (.slice 9 .str) (.pair (.slice 52 (.pair .str (.pair .bool .str))) (.slice 44 (.pair .str .str))))))) [[(0,[],[],[],[])]] h69 (Ze3 (.inl (Zc 0)) Zhu)) ?_;rintro _ w65 ⟨b33,rfl,h70⟩;replace h70:=nf h70;refine rFi [4] ?_;have h71:=nO h70 [];cases H;exact T8 (jRA ⟨_,_,rfl,rfl,rfl⟩ (sOR h71 [] [0]))
 refine Sa (T9 (Zw (sO h68 [0,0]) ?_));have h72:=h68.drew;refine Zp [0,4,6] ?_;refine Ze 1 rfl (Zf 0 wI) ?_;refine Ze 2 rfl (Zf 1 wI) ?_;refine Ze 5 rfl (Zf 1 wI) ?_;refine Ze 7 rfl (Zf 0 wI) ?_;refine cEJ 3 rfl H [] h72 rfl Q137.spec (gS [3,4,5,6]) ?_;rintro r3 w66 _ _ H ⟨A37,c_37,rfl,rfl⟩ h73;replace h73:=nf h73;refine ⟨⟨[_,_],(sO h73 [0,2,0,0])⟩,?_⟩;have h74:=h73.freeze (k:=0) rfl Ye;obtain ⟨r4,q4,H⟩:=Yh H;refine Yc 8 rfl (Z1 [2] (Q158.spec q4) h74 rfl (gS [5,0,3])) ?_;rintro _ w67 ⟨_,_,⟨A38,c_38,cs5,rfl,rfl,rfl⟩,h75⟩;replace h75:=nf h75;refine ⟨⟨[_],(Jb h75 [2,3,4,5,6])⟩,?_⟩;refine hRF [9] [4] ?_;have h76:=nO h75 [0];have h77:=St.nestFreeze 0 0 h76;cases H;exact T8 (jRA ⟨_,_,rfl,rfl,rfl⟩ (sOR h77 [] [0]))

def Q93.f (a0:Th):Option (Int):=some 0
theorem Q93.spec {a0 b1 b2 b3 b4 b5 b6 b7 A1 c_1 A2 c_2 A3 c_3 A4 c_4 A5 c_5 r} (H:Q93.f a0=some r) :
  Spec prog 52 [.pointer (some ⟨b1,0,none⟩)] (V9 a0 b1 b2 b3 b4 b5 b6 b7 A1 A2 A3 A4 A5 c_1 c_2 c_3 c_4 c_5) [] (fun v l=>v=.int .i64 r/\l=V9 a0 b1 b2 b3 b4 b5 b6 b7 A1 A2 A3 A4 A5 c_1 c_2 c_3 c_4 c_5):=by
 refine eN Tryz.func52 fun w0 F0 h0=>?_;unfold Q93.f at H;refine T9 (Za [0] ?_);refine T9 (T9 (T7 (rRL 6 0 h0 ?_)));refine rFi [11] ?_;refine Zz ?_;refine Sa (T9 (Za [2] ?_));cases H;exact T8 (jR0 h0 [0,0,0,0,0,0,0,0,0,0,0,0])

def Q66.f:Option (TD):=some ([],[],true)
theorem Q66.spec {r} (H:Q66.f=some r) :
  Spec prog 80 [] [] [] (fun v l=>v=.agg #[.string ⟨⟨r.1⟩⟩,.string ⟨⟨r.2.1⟩⟩,.bool r.2.2]/\l=[]):=by
 refine Zg Tryz.func80 fun w0 F0 h0=>?_;unfold Q66.f at H;refine T9 (T7 (rB (Yw h0) fun b1 w1 h1=>?_));refine rFi [0] ?_;refine T9 (T7 (Zd 1 ?_));refine rS (Zs 0 h1) fun _ w2 h2=>?_;refine rFi [0] ?_;cases H;exact T8 (jR2 (Z9 (Si Z0 0 h2 rfl rfl rfl rfl) X1) ⟨rfl,rfl⟩ h2 [])

def Q17.f (a0:TS) (a1:TS):Option (Int):=some (Xb a0 a1)
theorem Q17.spec {a0 a1 r} (H:Q17.f a0 a1=some r) :
  Spec prog 137 [.string ⟨⟨a0⟩⟩,.string ⟨⟨a1⟩⟩] [] [] (fun v l=>v=.int .i64 r/\l=[]):=by
 refine Zg Tryz.func137 fun w0 F0 h0=>?_;unfold Q17.f at H;refine T9 (Za [0,1] ?_);refine T9 (T7 (Zd 2 ?_));refine Zh (Zh4 Zrw) ?_;refine rFi [4] ?_;cases H;exact T8 (jR0 h0 [])

def Q161.f (a0:TS) (a1:TS):Option (Int):=(Q17.f a0 a1).bind fun r1=>(some r1)
theorem Q161.spec {a0 a1 r} (H:Q161.f a0 a1=some r) :
  Spec prog 105 [.string ⟨⟨a0⟩⟩,.string ⟨⟨a1⟩⟩] [] [] (fun v l=>v=.int .i64 r/\l=[]):=by
 refine Zg Tryz.func105 fun w0 F0 h0=>?_;unfold Q161.f at H;refine T9 (Za [0,1] ?_);refine T9 (T7 (Zd 2 ?_));refine cS H [] h0 rfl Q17.spec Zm fun r1 w1 H h1=>?_;refine rFi [4] ?_;cases H;exact T8 (jR0 h1 [])

def Q67.f (a0:TS) (a1:TS):Option (Int):=(Q161.f a0 a1).bind fun r1=>(some r1)
theorem Q67.spec {a0 a1 r} (H:Q67.f a0 a1=some r) :
  Spec prog 67 [.string ⟨⟨a0⟩⟩,.string ⟨⟨a1⟩⟩] [] [] (fun v l=>v=.int .i64 r/\l=[]):=by
 refine Zg Tryz.func67 fun w0 F0 h0=>?_;unfold Q67.f at H;refine T9 (Za [0,1] ?_);refine T9 (T7 (Zd 2 ?_));refine cS H [] h0 rfl Q161.spec Zm fun r1 w1 H h1=>?_;refine rFi [4] ?_;cases H;exact T8 (jR0 h1 [])

def Q64.l0:Nat->TA->(Int)->Option (Bool)
 | 0,_,_=>none
 | k+1,a0,x1=>if (decide (x1<(w64 ((a0.length:Int) - 1))))=true then (if 0<=x1/\x1<(a0.length:Int) then (if 0<=(w64 (x1+1))/\(w64 (x1+1))<(a0.length:Int) then ((Q67.f ((gt a0 x1).1) ((gt a0 (w64 (x1+1))).1)).bind fun r1=>(if (decide (0<=r1))=true then (some false) else (Q64.l0 k a0 (w64 (x1+1))))) else none) else none) else (some true)
def Q64.f (k:Nat) (a0:TA):Option (Bool):=Q64.l0 k a0 0
theorem Q64.spec {k a0 A1 c_1 r} (H:Q64.f k a0=some r) :
  Spec prog 139 [.slice A1 a0.length c_1] [] [R44 a0 A1 c_1] (fun v l=>v=.bool r/\l=[]):=by
 refine Zg Tryz.func139 fun w0 F0 h0=>?_;unfold Q64.f at H;refine T9 (Za [0] ?_);refine T9 (T9 (Za [0,6,7] ?_));refine T1 ?_;have h5:=(sOR h0 [] [0]);refine T5 (fun kk env w=>∃ x1,Q64.l0 kk a0 x1=some r/\env=[(0,.slice A1 a0.length c_1),(6,.int .i64 (w64 ((a0.length:Int) - 1))),(7,.int .i64 x1)]/\St w0 F0 [] [R44 a0 A1 c_1] w) (k:=k) ⟨_,H,rfl,h5⟩ ?_;rintro k1 env w1 ⟨x1,H,rfl,h1⟩;rcases k1 with _ | k1
 ·exact z0 H
 rw [Q64.l0] at H;refine T9 (Za [0,6,7,8] ?_);refine T9 (jIf H (fun c1 H=>?_) fun c1 H=>?_)
 ·refine Sa (T9 (T1 (T9 (Za [0,3,6,7] ?_))));refine T9 (jH h1 fun h2=>?_);refine Zp [0,1,5,6,7] ?_;refine hI 2 H h2 (Zc 0) fun p1 p2 e1 H=>?_;refine Zp [3] ?_;refine Ze 4 rfl (Zb 0 wI (Zc 0) p1 p2) ?_;refine hX 8 H e1 fun p3 p4 H=>?_;refine Zp [9] ?_;refine Ze 10 rfl (Zb 0 wI (Zc 0) p3 p4) ?_;refine cSJ 11 rfl H [] h2 rfl Q67.spec Zm 0 fun r1 w2 H h3=>?_;refine hRF [12] [0,6,7,22] ?_;refine jIf H (fun c2 H=>?_) fun c2 H=>?_
  ·refine T9 (Za [2] ?_);cases H;exact T8 (jR0 h3 [])
  refine Sa (Za [0,6,7] ?_);have h4:=(sOR h3 [] [0]);exact ⟨k1,by omega,_,H,rfl,h4⟩
 refine T4 (T9 (Za [2] ?_));cases H;exact T8 (jR0 h1 [])

def Q71.f (a0:Tr) (a1:TS):Option (Bool):=if (decide (1<=(a1.length:Int)))=true then (some (decide ((a1.length:Int)<=a0.2.2.2.2.2.2.1))) else (some false)
theorem Q71.spec {a0 a1 r} (H:Q71.f a0 a1=some r) :
  Spec prog 142 [.agg #[.int .i64 a0.1,.int .i64 a0.2.1,.int .i64 a0.2.2.1,.int .i64 a0.2.2.2.1,.int .i64 a0.2.2.2.2.1,.int .i64 a0.2.2.2.2.2.1,.int .i64 a0.2.2.2.2.2.2.1,.int .i64 a0.2.2.2.2.2.2.2],.string ⟨⟨a1⟩⟩] [] [] (fun v l=>v=.bool r/\l=[]):=by
 refine Zg Tryz.func142 fun w0 F0 h0=>?_;unfold Q71.f at H;refine T9 (T7 (rB (Z2 h0) fun b1 w1 h1=>?_));refine rFi [1,2] ?_;refine T9 (T7 (Zd 4 ?_));refine Z3 8 H (fun c1 H=>?_) fun c1 H=>?_
 ·refine rRL 3 0 h1 ?_;refine rFi [4] ?_;cases H;exact T8 (jR0 h1 [])
 refine rFi [4] ?_;cases H;exact T8 (jR0 h1 [])

def Q69.f (a0:TD) (a1:TS):Option (Bool):=if (!Op.bytesLess a1 a0.1)=true then (if a0.2.2=true then (some true) else (some (Op.bytesLess a1 a0.2.1))) else (some false)
theorem Q69.spec {a0 a1 r} (H:Q69.f a0 a1=some r) :
  Spec prog 143 [.agg #[.string ⟨⟨a0.1⟩⟩,.string ⟨⟨a0.2.1⟩⟩,.bool a0.2.2],.string ⟨⟨a1⟩⟩] [] [] (fun v l=>v=.bool r/\l=[]):=by
 refine Zg Tryz.func143 fun w0 F0 h0=>?_;unfold Q69.f at H;refine T9 (T7 (rB (Z2 h0) fun b1 w1 h1=>?_));refine rFi [1,2] ?_;refine T9 (T7 (rRL 2 0 h1 ?_));refine Zd 2 ?_;refine Z3 9 H (fun c1 H=>?_) fun c1 H=>?_
 ·refine rRL 1 0 h1 ?_;refine Zd 1 ?_;refine Z3 12 H (fun c2 H=>?_) fun c2 H=>?_
  ·refine rFi [4] ?_;cases H;exact T8 (jR0 h1 [])
  refine rRL 2 0 h1 ?_;refine rFi [4] ?_;cases H;exact T8 (jR0 h1 [])
 refine rFi [4] ?_;cases H;exact T8 (jR0 h1 [])

def Q78.f (a0:TF) (a1:Tr) (a2:TD):Option (Bool):=(Q71.f a1 a0.1).bind fun r1=>(if (!r1)=true then (some true) else ((Q69.f a2 a0.1).bind fun r2=>(if (!r2)=true then (some true) else (some (decide (a1.2.2.2.2.2.2.2<(a0.2.length:Int)))))))
theorem Q78.spec {a0 a1 a2 b1 b2 r} (H:Q78.f a0 a1 a2=some r) :
  Spec prog 141 [.agg #[.string ⟨⟨a0.1⟩⟩,.string ⟨⟨a0.2⟩⟩],.pointer (some ⟨b1,0,none⟩),.pointer (some ⟨b2,0,none⟩)] [X23 b1 a1.1 a1.2.1 a1.2.2.1 a1.2.2.2.1 a1.2.2.2.2.1 a1.2.2.2.2.2.1 a1.2.2.2.2.2.2.1 a1.2.2.2.2.2.2.2,X30 b2 a2.1 a2.2.1 a2.2.2] [] (fun v l=>v=.bool r/\l=[X23 b1 a1.1 a1.2.1 a1.2.2.1 a1.2.2.2.1 a1.2.2.2.2.1 a1.2.2.2.2.2.1 a1.2.2.2.2.2.2.1 a1.2.2.2.2.2.2.2,X30 b2 a2.1 a2.2.1 a2.2.2]):=by
 refine Zg Tryz.func141 fun w0 F0 h0=>?_;unfold Q78.f at H;refine T9 (T7 (rB (Z2 h0) fun b3 w1 h1=>?_));refine rFi [1,2,3] ?_;refine T9 (T7 (rLo 1 h1 ?_));refine rRL 1 0 h1 ?_;refine cS H [] h1 rfl Q71.spec Zm fun r1 w2 H h2=>?_;refine Zd 2 ?_;refine Z3 10 H (fun c1 H=>?_) fun c1 H=>?_
 ·refine rFi [4] ?_;cases H;exact T8 (jR0 h2 [1,1])
 refine rLo 2 h2 ?_;refine rRL 1 0 h2 ?_;refine cS H [] h2 rfl Q69.spec Zm fun r2 w3 H h3=>?_;refine Zd 3 ?_;refine Z3 17 H (fun c2 H=>?_) fun c2 H=>?_
 ·refine rFi [4] ?_;cases H;exact T8 (jR0 h3 [1,1])
 refine rRL 1 0 h3 ?_;refine rRL 2 1 h3 ?_;refine rFi [4] ?_;cases H;exact T8 (jR0 h3 [1,1])

def Q110.l0:Nat->TA->Tr->TD->(Int)->Option (Int)
 | 0,_,_,_,_=>none
 | k+1,a0,a2,a3,x1=>if (decide (x1<(a0.length:Int)))=true then (if 0<=x1/\x1<(a0.length:Int) then ((Q78.f (gt a0 x1) a2 a3).bind fun r1=>(if r1=true then (some x1) else (Q110.l0 k a0 a2 a3 (w64 (x1+1))))) else none) else (some (-1))
def Q110.f (k:Nat) (a0:TA) (a2:Tr) (a3:TD):Option (Int):=Q110.l0 k a0 a2 a3 0
theorem Q110.spec {k a0 a2 a3 A1 c_1 b1 b2 r} (H:Q110.f k a0 a2 a3=some r) :
  Spec prog 161 [.slice A1 a0.length c_1,.func (.func 141) #[] #[.pointer (some ⟨b1,0,none⟩),.pointer (some ⟨b2,0,none⟩)]] [X23 b1 a2.1 a2.2.1 a2.2.2.1 a2.2.2.2.1 a2.2.2.2.2.1 a2.2.2.2.2.2.1 a2.2.2.2.2.2.2.1 a2.2.2.2.2.2.2.2,X30 b2 a3.1 a3.2.1 a3.2.2] [R44 a0 A1 c_1] (fun v l=>v=.int .i64 r/\l=[X23 b1 a2.1 a2.2.1 a2.2.2.1 a2.2.2.2.1 a2.2.2.2.2.1 a2.2.2.2.2.2.1 a2.2.2.2.2.2.2.1 a2.2.2.2.2.2.2.2,X30 b2 a3.1 a3.2.1 a3.2.2]):=by
 refine Zg Tryz.func161 fun w0 F0 h0=>?_;unfold Q110.f at H;refine T9 (Za [0,1] ?_);refine T9 (T9 (Za [0,1,7,8] ?_));refine T1 ?_;have h4:=(sOR h0 [0,0] [0]);refine T5 (fun kk env w=>∃ x1,Q110.l0 kk a0 a2 a3 x1=some r/\env=[(0,.slice A1 a0.length c_1),(1,.func (.func 141) #[] #[.pointer (some ⟨b1,0,none⟩),.pointer (some ⟨b2,0,none⟩)]),(7,.int .i64 (a0.length:Int)),(8,.int .i64 x1)]/\St w0 F0 [X23 b1 a2.1 a2.2.1 a2.2.2.1 a2.2.2.2.1 a2.2.2.2.2.1 a2.2.2.2.2.2.1 a2.2.2.2.2.2.2.1 a2.2.2.2.2.2.2.2,X30 b2 a3.1 a3.2.1 a3.2.2] [R44 a0 A1 c_1] w) (k:=k) ⟨_,H,rfl,h4⟩ ?_;rintro k1 env w1 ⟨x1,H,rfl,h1⟩;rcases k1 with _ | k1
 ·exact z0 H
 rw [Q110.l0] at H;refine T9 (Za [0,1,7,8,9] ?_);refine T9 (jIf H (fun c1 H=>?_) fun c1 H=>?_)
 ·refine Sa (T9 (T1 (T9 (Za [0,1,5,7,8] ?_))));refine T9 (T7 (Zd 3 ?_));refine rI H h1 (Zc 2) fun p1 p2 e1 H=>?_;refine Zh (Zb 0 h1.wht (Zc 2) p1 p2) ?_;obtain ⟨r1,q1,H⟩:=Yh H;refine Yf (Gw [.agg #[.string ⟨⟨(gt a0 x1).1⟩⟩,.string ⟨⟨(gt a0 x1).2⟩⟩]] [.pointer (some ⟨b1,0,none⟩),.pointer (some ⟨b2,0,none⟩)] [0,0] (Q78.spec q1) h1 rfl Zm) ?_;rintro _ w2 ⟨_,⟨rfl,rfl⟩,h2⟩;replace h2:=nf h2;refine rFi [0,1,5,7,8,16] ?_;refine jIf H (fun c2 H=>?_) fun c2 H=>?_
  ·refine T9 (Za [4] ?_);cases H;exact T8 (jR0 h2 [0,0])
  refine Sa (Za [0,1,7,8] ?_);have h3:=(sOR h2 [0,0] [0]);exact ⟨k1,by omega,_,H,rfl,h3⟩
 refine T4 (T9 (Za [4] ?_));cases H;exact T8 (jR0 h1 [0,0])

def Q103.f (k:Nat) (a0:TA) (a2:Tr) (a3:TD):Option (Bool):=(Q110.f k a0 a2 a3).bind fun r1=>(some (decide (0<=r1)))
theorem Q103.spec {k a0 a2 a3 A1 c_1 b1 b2 r} (H:Q103.f k a0 a2 a3=some r) :
  Spec prog 140 [.slice A1 a0.length c_1,.func (.func 141) #[] #[.pointer (some ⟨b1,0,none⟩),.pointer (some ⟨b2,0,none⟩)]] [X23 b1 a2.1 a2.2.1 a2.2.2.1 a2.2.2.2.1 a2.2.2.2.2.1 a2.2.2.2.2.2.1 a2.2.2.2.2.2.2.1 a2.2.2.2.2.2.2.2,X30 b2 a3.1 a3.2.1 a3.2.2] [R44 a0 A1 c_1] (fun v l=>v=.bool r/\l=[X23 b1 a2.1 a2.2.1 a2.2.2.1 a2.2.2.2.1 a2.2.2.2.2.1 a2.2.2.2.2.2.1 a2.2.2.2.2.2.2.1 a2.2.2.2.2.2.2.2,X30 b2 a3.1 a3.2.1 a3.2.2]):=by
 refine Zg Tryz.func140 fun w0 F0 h0=>?_;unfold Q103.f at H;refine T9 (Za [0,1] ?_);refine T9 (T7 (Zd 2 ?_));refine cS H [0,0] h0 rfl Q110.spec (gS [0]) fun r1 w1 H h1=>?_;refine rFi [4] ?_;cases H;exact T8 (jR0 h1 [0,0])

def Q77.f (k:Nat) (a0:Tr) (a1:TD) (a2:Tp):Option (Bool):=if (decide (0<(w64 ((w64 ((a2.2.1.length:Int)+(a2.2.2.1.length:Int)))+(a2.2.2.2.1.length:Int)))))=true then (some false) else (if (decide (a0.2.2.2.2.2.1<(a2.2.2.2.2.length:Int)))=true then (some false) else ((Q64.f k a2.2.2.2.2).bind fun r1=>(if (!r1)=true then (some false) else ((Q103.f k a2.2.2.2.2 a0 a1).bind fun r2=>(some (!r2))))))
theorem Q77.spec {k a0 a1 a2 A1 c_1 A2 c_2 A3 c_3 A4 c_4 r} (H:Q77.f k a0 a1 a2=some r) :
  Spec prog 112 [.agg #[.int .i64 a0.1,.int .i64 a0.2.1,.int .i64 a0.2.2.1,.int .i64 a0.2.2.2.1,.int .i64 a0.2.2.2.2.1,.int .i64 a0.2.2.2.2.2.1,.int .i64 a0.2.2.2.2.2.2.1,.int .i64 a0.2.2.2.2.2.2.2],.agg #[.string ⟨⟨a1.1⟩⟩,.string ⟨⟨a1.2.1⟩⟩,.bool a1.2.2],.agg #[.int .i64 a2.1,.slice A1 a2.2.1.length c_1,.slice A2 a2.2.2.1.length c_2,.slice A3 a2.2.2.2.1.length c_3,.slice A4 a2.2.2.2.2.length c_4]] [] [R32 a2.2.1 A1 c_1,R9 a2.2.2.1 A2 c_2,R52 a2.2.2.2.1 A3 c_3,R44 a2.2.2.2.2 A4 c_4] (fun v l=>v=.bool r/\l=[]):=by
 refine Zg Tryz.func112 fun w0 F0 h0=>?_;unfold Q77.f at H;refine T9 (T7 (rB (Z2 h0) fun b1 w1 h1=>?_));refine rB (Z2 h1) fun b2 w2 h2=>?_;refine rB (Z2 h2) fun b3 w3 h3=>?_;refine rFi [3,4,5] ?_;refine T9 (T9 (T7 (rRL 1 0 h3 ?_)));refine rRL 2 0 h3 ?_;refine rRL 3 0 h3 ?_;refine Zd 4 ?_;refine Z3 19 H (fun c1 H=>?_) fun c1 H=>?_
 ·refine rFi [3,4,5,32] ?_;refine Zo ?_;refine T9 (Za [6] ?_);have h4:=nO h3 [];cases H;exact T8 (jR0 h4 [])
 refine rRL 1 0 h3 ?_;refine rRL 2 2 h3 ?_;refine Zd 3 ?_;refine Z3 27 H (fun c2 H=>?_) fun c2 H=>?_
 ·refine rFi [3,4,5,32] ?_;refine Zo ?_;refine T9 (Za [6] ?_);have h5:=nO h3 [];cases H;exact T8 (jR0 h5 [])
 refine rRL 1 0 h3 ?_;refine cS H [] h3 rfl Q64.spec (gS [6]) fun r1 w4 H h6=>?_;refine rFi [3,4,5,32] ?_;refine jIf H (fun c3 H=>?_) fun c3 H=>?_
 ·refine T9 (Za [6] ?_);have h7:=nO h6 [];cases H;exact T8 (jR0 h7 [])
 refine Sa (T9 (T7 (rRL 1 0 h6 ?_)));refine Zd 1 ?_;refine cS H [2,1] h6 rfl Q103.spec (gS [4]) fun r2 w5 H h8=>?_;refine rFi [6] ?_;have h9:=nO h8 [];cases H;exact T8 (jR0 h9 [])

def Q100.f (a0:TX):Option TX:=if (([]:List Int).length+a0.length)*4<=140737488355328 then (some ([] ++ a0)) else none
theorem Q100.spec {a0 A1 c_1 r} (H:Q100.f a0=some r) :
  Spec prog 162 [.slice A1 a0.length c_1] [] [R32 a0 A1 c_1] (fun v l=>∃ A_0 c_0,v=.slice A_0 r.length c_0/\l=[O32 r A_0 c_0]):=by
 refine Zg Tryz.func162 fun w0 F0 h0=>?_;unfold Q100.f at H;refine T9 (Za [0] ?_);refine T9 (T9 (Za [0,4] ?_));refine Gk (fun c1=>?_) (fun c1=>?_)
 ·have e1:=h0.nilrow (Zc 0) (by simpa using c1);replace H:(some [])=some r:=by rw [e1] at H; simpa using H
  refine T9 (Za [2] ?_);have h1:=h0.addNil 32 (.int .u32);cases H;exact T8 (jR ⟨_,_,rfl,rfl⟩ h1 [0])
 refine Sa (T9 (T7 (rB (Zu (.int .u32) [] h0) fun b1 w1 h2=>?_)));refine Zd 1 ?_;obtain ⟨p1,H⟩:=Zk H;refine rA (Zr 0 h2 (Zc 0) p1) fun A2 c_2 w2 h3=>?_;refine rFi [2] ?_;cases H;exact T8 (jR ⟨_,_,rfl,rfl⟩ h3 [0])

def tb0:List UInt8:=[0,1,2,2,3,3,3,3,4,4,4,4,4,4,4,4,5,5,5,5,5,5,5,5,5,5,5,5,5,5,5,5,6,6,6,6,6,6,6,6,6,6,6,6,6,6,6,6,6,6,6,6,6,6,6,6,6,6,6,6,6,6,6,6,7,7,7,7,7,7,7,7,7,7,7,7,7,7,7,7,7,7,7,7,7,7,7,7,7,7,7,7,7,7,7,7,7,7,7,7,7,7,7,7,7,7,7,7,7,7,7,7,7,7,7,7,7,7,7,7,7,7,7,7,7,7,7,7,8,8,8,8,8,8,8,8,8,8,8,8,8,8,8,8,8,8,8,8,8,8,8,8,8,8,8,8,8,8,8,8,8,8,8,8,8,8,8,8,8,8,8,8,8,8,8,8,8,8,8,8,8,8,8,8,8,8,8,8,8,8,8,8,8,8,8,8,8,8,8,8,8,8,8,8,8,8,8,8,8,8,8,8,8,8,8,8,8,8,8,8,8,8,8,8,8,8,8,8,8,8,8,8,8,8,8,8,8,8,8,8,8,8,8,8,8,8,8,8,8,8,8,8,8,8,8,8]
def Q1.f (a0:Int):Option (Int):=if (decide (4294967296<=a0))=true then (if (decide (65536<=(Int.fdiv a0 (2 ^ 32))))=true then (if (decide (256<=(Int.fdiv (Int.fdiv a0 (2 ^ 32)) (2 ^ 16))))=true then (if 0<=(uA.wrap ((Int.fdiv (Int.fdiv (Int.fdiv a0 (2 ^ 32)) (2 ^ 16)) (2 ^ 8))))/\(uA.wrap ((Int.fdiv (Int.fdiv (Int.fdiv a0 (2 ^ 32)) (2 ^ 16)) (2 ^ 8))))<(tb0.length:Int) then (some (w64 (56+(w64 ((gtb [0,1,2,2,3,3,3,3,4,4,4,4,4,4,4,4,5,5,5,5,5,5,5,5,5,5,5,5,5,5,5,5,6,6,6,6,6,6,6,6,6,6,6,6,6,6,6,6,6,6,6,6,6,6,6,6,6,6,6,6,6,6,6,6,7,7,7,7,7,7,7,7,7,7,7,7,7,7,7,7,7,7,7,7,7,7,7,7,7,7,7,7,7,7,7,7,7,7,7,7,7,7,7,7,7,7,7,7,7,7,7,7,7,7,7,7,7,7,7,7,7,7,7,7,7,7,7,7,8,8,8,8,8,8,8,8,8,8,8,8,8,8,8,8,8,8,8,8,8,8,8,8,8,8,8,8,8,8,8,8,8,8,8,8,8,8,8,8,8,8,8,8,8,8,8,8,8,8,8,8,8,8,8,8,8,8,8,8,8,8,8,8,8,8,8,8,8,8,8,8,8,8,8,8,8,8,8,8,8,8,8,8,8,8,8,8,8,8,8,8,8,8,8,8,8,8,8,8,8,8,8,8,8,8,8,8,8,8,8,8,8,8,8,8,8,8,8,8,8,8,8,8,8,8,8,8] (uA.wrap ((Int.fdiv (Int.fdiv (Int.fdiv a0 (2 ^ 32)) (2 ^ 16)) (2 ^ 8)))))))))) else none) else (if 0<=(uA.wrap ((Int.fdiv (Int.fdiv a0 (2 ^ 32)) (2 ^ 16))))/\(uA.wrap ((Int.fdiv (Int.fdiv a0 (2 ^ 32)) (2 ^ 16))))<(tb0.length:Int) then (some (w64 (48+(w64 ((gtb [0,1,2,2,3,3,3,3,4,4,4,4,4,4,4,4,5,5,5,5,5,5,5,5,5,5,5,5,5,5,5,5,6,6,6,6,6,6,6,6,6,6,6,6,6,6,6,6,6,6,6,6,6,6,6,6,6,6,6,6,6,6,6,6,7,7,7,7,7,7,7,7,7,7,7,7,7,7,7,7,7,7,7,7,7,7,7,7,7,7,7,7,7,7,7,7,7,7,7,7,7,7,7,7,7,7,7,7,7,7,7,7,7,7,7,7,7,7,7,7,7,7,7,7,7,7,7,7,8,8,8,8,8,8,8,8,8,8,8,8,8,8,8,8,8,8,8,8,8,8,8,8,8,8,8,8,8,8,8,8,8,8,8,8,8,8,8,8,8,8,8,8,8,8,8,8,8,8,8,8,8,8,8,8,8,8,8,8,8,8,8,8,8,8,8,8,8,8,8,8,8,8,8,8,8,8,8,8,8,8,8,8,8,8,8,8,8,8,8,8,8,8,8,8,8,8,8,8,8,8,8,8,8,8,8,8,8,8,8,8,8,8,8,8,8,8,8,8,8,8,8,8,8,8,8,8] (uA.wrap ((Int.fdiv (Int.fdiv a0 (2 ^ 32)) (2 ^ 16)))))))))) else none)) else (if (decide (256<=(Int.fdiv a0 (2 ^ 32))))=true then (if 0<=(uA.wrap ((Int.fdiv (Int.fdiv a0 (2 ^ 32)) (2 ^ 8))))/\(uA.wrap ((Int.fdiv (Int.fdiv a0 (2 ^ 32)) (2 ^ 8))))<(tb0.length:Int) then (some (w64 (40+(w64 ((gtb [0,1,2,2,3,3,3,3,4,4,4,4,4,4,4,4,5,5,5,5,5,5,5,5,5,5,5,5,5,5,5,5,6,6,6,6,6,6,6,6,6,6,6,6,6,6,6,6,6,6,6,6,6,6,6,6,6,6,6,6,6,6,6,6,7,7,7,7,7,7,7,7,7,7,7,7,7,7,7,7,7,7,7,7,7,7,7,7,7,7,7,7,7,7,7,7,7,7,7,7,7,7,7,7,7,7,7,7,7,7,7,7,7,7,7,7,7,7,7,7,7,7,7,7,7,7,7,7,8,8,8,8,8,8,8,8,8,8,8,8,8,8,8,8,8,8,8,8,8,8,8,8,8,8,8,8,8,8,8,8,8,8,8,8,8,8,8,8,8,8,8,8,8,8,8,8,8,8,8,8,8,8,8,8,8,8,8,8,8,8,8,8,8,8,8,8,8,8,8,8,8,8,8,8,8,8,8,8,8,8,8,8,8,8,8,8,8,8,8,8,8,8,8,8,8,8,8,8,8,8,8,8,8,8,8,8,8,8,8,8,8,8,8,8,8,8,8,8,8,8,8,8,8,8,8,8] (uA.wrap ((Int.fdiv (Int.fdiv a0 (2 ^ 32)) (2 ^ 8)))))))))) else none) else (if 0<=(uA.wrap ((Int.fdiv a0 (2 ^ 32))))/\(uA.wrap ((Int.fdiv a0 (2 ^ 32))))<(tb0.length:Int) then (some (w64 (32+(w64 ((gtb [0,1,2,2,3,3,3,3,4,4,4,4,4,4,4,4,5,5,5,5,5,5,5,5,5,5,5,5,5,5,5,5,6,6,6,6,6,6,6,6,6,6,6,6,6,6,6,6,6,6,6,6,6,6,6,6,6,6,6,6,6,6,6,6,7,7,7,7,7,7,7,7,7,7,7,7,7,7,7,7,7,7,7,7,7,7,7,7,7,7,7,7,7,7,7,7,7,7,7,7,7,7,7,7,7,7,7,7,7,7,7,7,7,7,7,7,7,7,7,7,7,7,7,7,7,7,7,7,8,8,8,8,8,8,8,8,8,8,8,8,8,8,8,8,8,8,8,8,8,8,8,8,8,8,8,8,8,8,8,8,8,8,8,8,8,8,8,8,8,8,8,8,8,8,8,8,8,8,8,8,8,8,8,8,8,8,8,8,8,8,8,8,8,8,8,8,8,8,8,8,8,8,8,8,8,8,8,8,8,8,8,8,8,8,8,8,8,8,8,8,8,8,8,8,8,8,8,8,8,8,8,8,8,8,8,8,8,8,8,8,8,8,8,8,8,8,8,8,8,8,8,8,8,8,8,8] (uA.wrap ((Int.fdiv a0 (2 ^ 32)))))))))) else none))) else (if (decide (65536<=a0))=true then (if (decide (256<=(Int.fdiv a0 (2 ^ 16))))=true then (if 0<=(uA.wrap ((Int.fdiv (Int.fdiv a0 (2 ^ 16)) (2 ^ 8))))/\(uA.wrap ((Int.fdiv (Int.fdiv a0 (2 ^ 16)) (2 ^ 8))))<(tb0.length:Int) then (some (w64 (24+(w64 ((gtb [0,1,2,2,3,3,3,3,4,4,4,4,4,4,4,4,5,5,5,5,5,5,5,5,5,5,5,5,5,5,5,5,6,6,6,6,6,6,6,6,6,6,6,6,6,6,6,6,6,6,6,6,6,6,6,6,6,6,6,6,6,6,6,6,7,7,7,7,7,7,7,7,7,7,7,7,7,7,7,7,7,7,7,7,7,7,7,7,7,7,7,7,7,7,7,7,7,7,7,7,7,7,7,7,7,7,7,7,7,7,7,7,7,7,7,7,7,7,7,7,7,7,7,7,7,7,7,7,8,8,8,8,8,8,8,8,8,8,8,8,8,8,8,8,8,8,8,8,8,8,8,8,8,8,8,8,8,8,8,8,8,8,8,8,8,8,8,8,8,8,8,8,8,8,8,8,8,8,8,8,8,8,8,8,8,8,8,8,8,8,8,8,8,8,8,8,8,8,8,8,8,8,8,8,8,8,8,8,8,8,8,8,8,8,8,8,8,8,8,8,8,8,8,8,8,8,8,8,8,8,8,8,8,8,8,8,8,8,8,8,8,8,8,8,8,8,8,8,8,8,8,8,8,8,8,8] (uA.wrap ((Int.fdiv (Int.fdiv a0 (2 ^ 16)) (2 ^ 8)))))))))) else none) else (if 0<=(uA.wrap ((Int.fdiv a0 (2 ^ 16))))/\(uA.wrap ((Int.fdiv a0 (2 ^ 16))))<(tb0.length:Int) then (some (w64 (16+(w64 ((gtb [0,1,2,2,3,3,3,3,4,4,4,4,4,4,4,4,5,5,5,5,5,5,5,5,5,5,5,5,5,5,5,5,6,6,6,6,6,6,6,6,6,6,6,6,6,6,6,6,6,6,6,6,6,6,6,6,6,6,6,6,6,6,6,6,7,7,7,7,7,7,7,7,7,7,7,7,7,7,7,7,7,7,7,7,7,7,7,7,7,7,7,7,7,7,7,7,7,7,7,7,7,7,7,7,7,7,7,7,7,7,7,7,7,7,7,7,7,7,7,7,7,7,7,7,7,7,7,7,8,8,8,8,8,8,8,8,8,8,8,8,8,8,8,8,8,8,8,8,8,8,8,8,8,8,8,8,8,8,8,8,8,8,8,8,8,8,8,8,8,8,8,8,8,8,8,8,8,8,8,8,8,8,8,8,8,8,8,8,8,8,8,8,8,8,8,8,8,8,8,8,8,8,8,8,8,8,8,8,8,8,8,8,8,8,8,8,8,8,8,8,8,8,8,8,8,8,8,8,8,8,8,8,8,8,8,8,8,8,8,8,8,8,8,8,8,8,8,8,8,8,8,8,8,8,8,8] (uA.wrap ((Int.fdiv a0 (2 ^ 16)))))))))) else none)) else (if (decide (256<=a0))=true then (if 0<=(uA.wrap ((Int.fdiv a0 (2 ^ 8))))/\(uA.wrap ((Int.fdiv a0 (2 ^ 8))))<(tb0.length:Int) then (some (w64 (8+(w64 ((gtb [0,1,2,2,3,3,3,3,4,4,4,4,4,4,4,4,5,5,5,5,5,5,5,5,5,5,5,5,5,5,5,5,6,6,6,6,6,6,6,6,6,6,6,6,6,6,6,6,6,6,6,6,6,6,6,6,6,6,6,6,6,6,6,6,7,7,7,7,7,7,7,7,7,7,7,7,7,7,7,7,7,7,7,7,7,7,7,7,7,7,7,7,7,7,7,7,7,7,7,7,7,7,7,7,7,7,7,7,7,7,7,7,7,7,7,7,7,7,7,7,7,7,7,7,7,7,7,7,8,8,8,8,8,8,8,8,8,8,8,8,8,8,8,8,8,8,8,8,8,8,8,8,8,8,8,8,8,8,8,8,8,8,8,8,8,8,8,8,8,8,8,8,8,8,8,8,8,8,8,8,8,8,8,8,8,8,8,8,8,8,8,8,8,8,8,8,8,8,8,8,8,8,8,8,8,8,8,8,8,8,8,8,8,8,8,8,8,8,8,8,8,8,8,8,8,8,8,8,8,8,8,8,8,8,8,8,8,8,8,8,8,8,8,8,8,8,8,8,8,8,8,8,8,8,8,8] (uA.wrap ((Int.fdiv a0 (2 ^ 8)))))))))) else none) else (if 0<=(uA.wrap (a0))/\(uA.wrap (a0))<(tb0.length:Int) then (some (w64 (0+(w64 ((gtb [0,1,2,2,3,3,3,3,4,4,4,4,4,4,4,4,5,5,5,5,5,5,5,5,5,5,5,5,5,5,5,5,6,6,6,6,6,6,6,6,6,6,6,6,6,6,6,6,6,6,6,6,6,6,6,6,6,6,6,6,6,6,6,6,7,7,7,7,7,7,7,7,7,7,7,7,7,7,7,7,7,7,7,7,7,7,7,7,7,7,7,7,7,7,7,7,7,7,7,7,7,7,7,7,7,7,7,7,7,7,7,7,7,7,7,7,7,7,7,7,7,7,7,7,7,7,7,7,8,8,8,8,8,8,8,8,8,8,8,8,8,8,8,8,8,8,8,8,8,8,8,8,8,8,8,8,8,8,8,8,8,8,8,8,8,8,8,8,8,8,8,8,8,8,8,8,8,8,8,8,8,8,8,8,8,8,8,8,8,8,8,8,8,8,8,8,8,8,8,8,8,8,8,8,8,8,8,8,8,8,8,8,8,8,8,8,8,8,8,8,8,8,8,8,8,8,8,8,8,8,8,8,8,8,8,8,8,8,8,8,8,8,8,8,8,8,8,8,8,8,8,8,8,8,8,8] (uA.wrap (a0)))))))) else none)))
theorem Q1.spec {a0 r} (H:Q1.f a0=some r) :
  Spec prog 180 [.int .u64 a0] [] [] (fun v l=>v=.int .i64 r/\l=[]):=by
 refine Zg Tryz.func180 fun w0 F0 h0=>?_;unfold Q1.f at H;refine T9 (Za [0,2] ?_);refine T9 (T9 (Za [0,2,4] ?_));refine jIf H (fun c1 H=>?_) fun c1 H=>?_
 ·refine T9 (Za [0] ?_);refine Za [0,2] ?_;refine T9 (T9 (Za [0,2,8] ?_));refine jIf H (fun c2 H=>?_) fun c2 H=>?_
  ·refine T9 (Za [0,2] ?_);refine Za [0,2] ?_;refine T9 (T9 (Za [0,2,14] ?_));refine jIf H (fun c3 H=>?_) fun c3 H=>?_
   ·refine T9 (Za [0,2] ?_);refine Za [0,2] ?_;refine T9 (T7 (Zd 3 ?_));obtain ⟨⟨p1,p2⟩,H⟩:=Zk H;refine Zh (X2 p1 p2) ?_;refine rFi [2] ?_;cases H;exact T8 (jR0 h0 [])
   refine Sa (T9 (T7 (Zd 3 ?_)));obtain ⟨⟨p3,p4⟩,H⟩:=Zk H;refine Zh (X2 p3 p4) ?_;refine rFi [2] ?_;cases H;exact T8 (jR0 h0 [])
  refine Sa (T9 (T9 (Za [0,2,14] ?_)));refine jIf H (fun c4 H=>?_) fun c4 H=>?_
  ·refine T9 (Za [0,2] ?_);refine Za [0,2] ?_;refine T9 (T7 (Zd 3 ?_));obtain ⟨⟨p5,p6⟩,H⟩:=Zk H;refine Zh (X2 p5 p6) ?_;refine rFi [2] ?_;cases H;exact T8 (jR0 h0 [])
  refine Sa (T9 (T7 (Zd 3 ?_)));obtain ⟨⟨p7,p8⟩,H⟩:=Zk H;refine Zh (X2 p7 p8) ?_;refine rFi [2] ?_;cases H;exact T8 (jR0 h0 [])
 refine Sa (T9 (T9 (Za [0,2,8] ?_)));refine jIf H (fun c5 H=>?_) fun c5 H=>?_
 ·refine T9 (Za [0,2] ?_);refine Za [0,2] ?_;refine T9 (T9 (Za [0,2,14] ?_));refine jIf H (fun c6 H=>?_) fun c6 H=>?_
  ·refine T9 (Za [0,2] ?_);refine Za [0,2] ?_;refine T9 (T7 (Zd 3 ?_));obtain ⟨⟨p9,p10⟩,H⟩:=Zk H;refine Zh (X2 p9 p10) ?_;refine rFi [2] ?_;cases H;exact T8 (jR0 h0 [])
  refine Sa (T9 (T7 (Zd 3 ?_)));obtain ⟨⟨p11,p12⟩,H⟩:=Zk H;refine Zh (X2 p11 p12) ?_;refine rFi [2] ?_;cases H;exact T8 (jR0 h0 [])
 refine Sa (T9 (T9 (Za [0,2,14] ?_)));refine jIf H (fun c7 H=>?_) fun c7 H=>?_
 ·refine T9 (Za [0,2] ?_);refine Za [0,2] ?_;refine T9 (T7 (Zd 3 ?_));obtain ⟨⟨p13,p14⟩,H⟩:=Zk H;refine Zh (X2 p13 p14) ?_;refine rFi [2] ?_;cases H;exact T8 (jR0 h0 [])
 refine Sa (T9 (T7 (Zd 3 ?_)));obtain ⟨⟨p15,p16⟩,H⟩:=Zk H;refine Zh (X2 p15 p16) ?_;refine rFi [2] ?_;cases H;exact T8 (jR0 h0 [])

def Q0.f (a0:Int):Option (Int):=(Q1.f a0).bind fun r1=>(some r1)
theorem Q0.spec {a0 r} (H:Q0.f a0=some r) :
  Spec prog 169 [.int .u64 a0] [] [] (fun v l=>v=.int .i64 r/\l=[]):=by
 refine Zg Tryz.func169 fun w0 F0 h0=>?_;unfold Q0.f at H;refine T9 (Za [0] ?_);refine T9 (Zz ?_);refine Sa (T9 (T7 (Zd 1 ?_)));refine cS H [] h0 rfl Q1.spec Zm fun r1 w1 H h1=>?_;refine rFi [2] ?_;cases H;exact T8 (jR0 h1 [])

def Q37.f (a0:Int):Option (Bool):=some (!decide (a0=a0))
theorem Q37.spec {a0 r} (H:Q37.f a0=some r) :
  Spec prog 186 [.int .u32 a0] [] [] (fun v l=>v=.bool r/\l=[]):=by
 refine Zg Tryz.func186 fun w0 F0 h0=>?_;unfold Q37.f at H;refine T9 (Za [0] ?_);refine T9 (Za [2] ?_);cases H;exact T8 (jR0 h0 [])

def Q36.f (a0:Int) (a1:Int):Option (Bool):=(Q37.f a0).bind fun r1=>(if r1=true then ((Q37.f a1).bind fun r2=>(if (!r2)=true then (some true) else (some (decide (a0<a1))))) else (some (decide (a0<a1))))
theorem Q36.spec {a0 a1 r} (H:Q36.f a0 a1=some r) :
  Spec prog 176 [.int .u32 a0,.int .u32 a1] [] [] (fun v l=>v=.bool r/\l=[]):=by
 refine Zg Tryz.func176 fun w0 F0 h0=>?_;unfold Q36.f at H;refine T9 (Za [0,1] ?_);refine T9 (T7 (Zd 1 ?_));refine cS H [] h0 rfl Q37.spec Zm fun r1 w1 H h1=>?_;refine Zd 1 ?_;refine Z3 7 H (fun c1 H=>?_) fun c1 H=>?_
 ·refine Zd 1 ?_;refine cS H [] h1 rfl Q37.spec Zm fun r2 w2 H h2=>?_;refine Zd 3 ?_;refine Z3 12 H (fun c2 H=>?_) fun c2 H=>?_
  ·refine rFi [4] ?_;cases H;exact T8 (jR0 h2 [])
  refine rFi [4] ?_;cases H;exact T8 (jR0 h2 [])
 refine rFi [4] ?_;cases H;exact T8 (jR0 h1 [])

mutual
def Q119.l0:Nat->(Int)->(Int)->TX->(Int)->Option TX
 | 0,_,_,_,_=>none
 | k+1,a1,a2,x1,x2=>if (decide (x2<a2))=true then (Q119.l1 k a1 a2 x2 x1 x2) else (some x1)
def Q119.l1:Nat->(Int)->(Int)->(Int)->TX->(Int)->Option TX
 | 0,_,_,_,_,_=>none
 | k+1,a1,a2,x2,x3,x4=>if (decide (a1<x4))=true then (if 0<=x4/\x4<(x3.length:Int) then (if 0<=(w64 (x4 - 1))/\(w64 (x4 - 1))<(x3.length:Int) then ((Q36.f (gt x3 x4) (gt x3 (w64 (x4 - 1)))).bind fun r1=>(if r1=true then (Q119.l1 k a1 a2 x2 ((x3.set x4.toNat (gt x3 (w64 (x4 - 1)))).set (w64 (x4 - 1)).toNat (gt x3 x4)) (w64 (x4 - 1))) else (Q119.l0 k a1 a2 x3 (w64 (x2+1))))) else none) else none) else (Q119.l0 k a1 a2 x3 (w64 (x2+1)))
end
def Q119.f (k:Nat) (a0:TX) (a1:Int) (a2:Int):Option TX:=Q119.l0 k a1 a2 a0 (w64 (a1+1))
theorem Q119.spec {k a0 a1 a2 A1 c_1 r} (H:Q119.f k a0 a1 a2=some r) :
  Spec prog 170 [.slice A1 a0.length c_1,.int .i64 a1,.int .i64 a2] [O32 a0 A1 c_1] [] (fun v l=>v=.tuple #[]/\l=[O32 r A1 c_1]/\r.length=a0.length):=by
 refine Zg Tryz.func170 fun w0 F0 h0=>?_;unfold Q119.f at H;refine T9 (Za [0,1,2,6] ?_);refine T1 ?_;have h12:=(sOR h0 [0] []);refine T5 (fun kk env w=>∃ x1 x2,Q119.l0 kk a1 a2 x1 x2=some r/\env=[(0,.slice A1 x1.length c_1),(1,.int .i64 a1),(2,.int .i64 a2),(6,.int .i64 x2)]/\St w0 F0 [O32 x1 A1 c_1] [] w/\x1.length=a0.length) (k:=k) ⟨_,_,H,rfl,h12,(rfl:a0.length=a0.length)⟩ ?_;rintro k1 env w1 ⟨x1,x2,H,rfl,h1,e1⟩;rcases k1 with _ | k1
 ·exact z0 H
 rw [Q119.l0] at H;refine T9 (T9 (Za [0,1,2,6,12] ?_));refine jIf H (fun c1 H=>?_) fun c1 H=>?_
 ·refine Sa (T9 (T1 (T9 (Za [0,1,2,6,7] ?_))));refine T1 ?_;have h11:=(sOR h1 [0] []);refine T5 (fun kk env w=>∃ x3 x4,Q119.l1 kk a1 a2 x2 x3 x4=some r/\env=[(0,.slice A1 x3.length c_1),(1,.int .i64 a1),(2,.int .i64 a2),(6,.int .i64 x2),(7,.int .i64 x4)]/\St w0 F0 [O32 x3 A1 c_1] [] w/\kk<=k1/\x3.length=a0.length) (k:=k1) ⟨_,_,H,rfl,h11,Sb _,e1⟩ ?_;rintro k2 env w2 ⟨x3,x4,H,rfl,h2,hk2,e2⟩;rcases k2 with _ | k2
  ·exact z0 H
  rw [Q119.l1] at H;refine T9 (T9 (jH h2 fun h3=>?_));refine Zp [0,1,2,3] ?_;refine Wa 19 H (fun c2 H=>?_) fun c2 H=>?_
  ·refine Zp [4,5,8,9,10] ?_;refine hI 6 H h3 (gO 0) fun p1 p2 e3 H=>?_;refine Ze 7 rfl (Zb 0 wI (gO 0) p1 p2) ?_;refine hX 11 H e3 fun p3 p4 H=>?_;refine Ze 12 rfl (Zb 0 wI (gO 0) p3 p4) ?_;refine cSJ 13 rfl H [] h3 rfl Q36.spec Zm 0 fun r1 w3 H h4=>?_;refine hRF [14] [0,1,2,6,7,30] ?_;refine jIf H (fun c3 H=>?_) fun c3 H=>?_
   ·refine Sa (T9 (T1 (Zw (sO h4 []) ?_)));have h5:=h4.drew;refine Zp [0,1,2,3,4,5,6,7,10,11] ?_;refine Ze 8 rfl (Zi e3 p3 p4) ?_;refine Ze 12 rfl (Zi e3 p1 p2) ?_;refine TY (Y2 9 rfl (Zb 0 h5.wht (gO 0) p3 p4) (Y2 13 rfl (Zb 0 h5.wht (gO 0) p1 p2) Vy)) ?_;refine Ze 14 rfl (Zi e3 p1 p2) ?_;refine hS 15 rfl (Zn 0 (.int .u32) x4 (gt x3 (w64 (x4 - 1))) 0 h5 rfl p1 p2) 1 fun _ w4 h6=>?_;have e4:(x3.set x4.toNat (gt x3 (w64 (x4 - 1)))).length=a0.length:=length_set.trans e2;refine Ze 16 rfl (Zi e3 p3 p4) ?_;refine hS 17 rfl (Zn 0 (.int .u32) (w64 (x4 - 1)) (gt x3 x4) 0 h6 rfl p3 (by simpa only [length_set] using p4)) 1 fun _ w5 h7=>?_;have e5:((x3.set x4.toNat (gt x3 (w64 (x4 - 1)))).set (w64 (x4 - 1)).toNat (gt x3 x4)).length=a0.length:=length_set.trans e4;refine Y8 [0,1,2,6,7] ?_;refine T3 (env':=[(0,.slice A1 ((x3.set x4.toNat (gt x3 (w64 (x4 - 1)))).set (w64 (x4 - 1)).toNat (gt x3 x4)).length c_1),(1,.int .i64 a1),(2,.int .i64 a2),(6,.int .i64 x2),(7,.int .i64 x4)]) (by simp only [length_set,length_nil] <;> rfl) ?_;refine Za [0,1,2,6,7] ?_;have h8:=(sOR h7 [0] []);exact ⟨k2,by omega,_,_,H,rfl,h8,by omega,e5⟩
   refine T4 (Za [0,1,2,6] ?_);have h9:=(sOR h4 [0] []);exact ⟨k2,by omega,_,_,H,rfl,h9,e2⟩
  refine hRF [4,5,6,7,8,9,10,11,12,13,14] [0,1,2,6,7,30] ?_;refine Zz ?_;refine T4 (Za [0,1,2,6] ?_);have h10:=(sOR h3 [0] []);exact ⟨k2,by omega,_,_,H,rfl,h10,e2⟩
 refine T4 ?_;cases H;exact ⟨_,_,_,Zj,⟨rfl,rfl,e1⟩,sO h1 [0]⟩

def Q129.l0:Nat->(Int)->(Int)->TX->(Int)->Option TX
 | 0,_,_,_,_=>none
 | k+1,a2,a3,x1,x2=>if (decide (a2<=(w64 ((w64 (2*x2))+1))))=true then (some x1) else (if (decide ((w64 ((w64 ((w64 (2*x2))+1))+1))<a2))=true then (if 0<=(w64 (a3+(w64 ((w64 (2*x2))+1))))/\(w64 (a3+(w64 ((w64 (2*x2))+1))))<(x1.length:Int) then (if 0<=(w64 ((w64 (a3+(w64 ((w64 (2*x2))+1))))+1))/\(w64 ((w64 (a3+(w64 ((w64 (2*x2))+1))))+1))<(x1.length:Int) then ((Q36.f (gt x1 (w64 (a3+(w64 ((w64 (2*x2))+1))))) (gt x1 (w64 ((w64 (a3+(w64 ((w64 (2*x2))+1))))+1)))).bind fun r1=>(if r1=true then (if 0<=(w64 (a3+x2))/\(w64 (a3+x2))<(x1.length:Int) then (if 0<=(w64 (a3+(w64 ((w64 ((w64 (2*x2))+1))+1))))/\(w64 (a3+(w64 ((w64 ((w64 (2*x2))+1))+1))))<(x1.length:Int) then ((Q36.f (gt x1 (w64 (a3+x2))) (gt x1 (w64 (a3+(w64 ((w64 ((w64 (2*x2))+1))+1)))))).bind fun r2=>(if (!r2)=true then (some x1) else (Q129.l0 k a2 a3 ((x1.set (w64 (a3+x2)).toNat (gt x1 (w64 (a3+(w64 ((w64 ((w64 (2*x2))+1))+1)))))).set (w64 (a3+(w64 ((w64 ((w64 (2*x2))+1))+1)))).toNat (gt x1 (w64 (a3+x2)))) (w64 ((w64 ((w64 (2*x2))+1))+1))))) else none) else none) else (if 0<=(w64 (a3+x2))/\(w64 (a3+x2))<(x1.length:Int) then ((Q36.f (gt x1 (w64 (a3+x2))) (gt x1 (w64 (a3+(w64 ((w64 (2*x2))+1)))))).bind fun r3=>(if (!r3)=true then (some x1) else (Q129.l0 k a2 a3 ((x1.set (w64 (a3+x2)).toNat (gt x1 (w64 (a3+(w64 ((w64 (2*x2))+1)))))).set (w64 (a3+(w64 ((w64 (2*x2))+1)))).toNat (gt x1 (w64 (a3+x2)))) (w64 ((w64 (2*x2))+1))))) else none))) else none) else none) else (if 0<=(w64 (a3+x2))/\(w64 (a3+x2))<(x1.length:Int) then (if 0<=(w64 (a3+(w64 ((w64 (2*x2))+1))))/\(w64 (a3+(w64 ((w64 (2*x2))+1))))<(x1.length:Int) then ((Q36.f (gt x1 (w64 (a3+x2))) (gt x1 (w64 (a3+(w64 ((w64 (2*x2))+1)))))).bind fun r4=>(if (!r4)=true then (some x1) else (Q129.l0 k a2 a3 ((x1.set (w64 (a3+x2)).toNat (gt x1 (w64 (a3+(w64 ((w64 (2*x2))+1)))))).set (w64 (a3+(w64 ((w64 (2*x2))+1)))).toNat (gt x1 (w64 (a3+x2)))) (w64 ((w64 (2*x2))+1))))) else none) else none))
def Q129.f (k:Nat) (a0:TX) (a1:Int) (a2:Int) (a3:Int):Option TX:=Q129.l0 k a2 a3 a0 a1
theorem Q129.spec {k a0 a1 a2 a3 A1 c_1 r} (H:Q129.f k a0 a1 a2 a3=some r) :
  Spec prog 181 [.slice A1 a0.length c_1,.int .i64 a1,.int .i64 a2,.int .i64 a3] [O32 a0 A1 c_1] [] (fun v l=>v=.tuple #[]/\l=[O32 r A1 c_1]/\r.length=a0.length):=by
 refine Zg Tryz.func181 fun w0 F0 h0=>?_;unfold Q129.f at H;refine T9 (Za [0,2,3,8] ?_);refine T1 ?_;have h22:=(sOR h0 [0] []);refine T5 (fun kk env w=>∃ x1 x2,Q129.l0 kk a2 a3 x1 x2=some r/\env=[(0,.slice A1 x1.length c_1),(2,.int .i64 a2),(3,.int .i64 a3),(8,.int .i64 x2)]/\St w0 F0 [O32 x1 A1 c_1] [] w/\x1.length=a0.length) (k:=k) ⟨_,_,H,rfl,h22,(rfl:a0.length=a0.length)⟩ ?_;rintro k1 env w1 ⟨x1,x2,H,rfl,h1,e1⟩;rcases k1 with _ | k1
 ·exact z0 H
 rw [Q129.l0] at H;refine T1 (T9 (Za [0,2,3,8,9] ?_));refine T9 (T9 (Za [0,2,3,8,9,16] ?_));refine jIf H (fun c1 H=>?_) fun c1 H=>?_
 ·refine T4 ?_;cases H;exact ⟨_,_,_,Zj,⟨rfl,rfl,e1⟩,sO h1 [0]⟩
 refine Sa (T9 (T9 (jH h1 fun h2=>?_)));refine Zp [0,1,2,3,4] ?_;refine Wa 21 H (fun c2 H=>?_) fun c2 H=>?_
 ·refine Zp [5,6,7,8,11,12,13,14,15] ?_;refine hI 9 H h2 (gO 0) fun p1 p2 e2 H=>?_;refine Ze 10 rfl (Zb 0 wI (gO 0) p1 p2) ?_;refine hX 16 H e2 fun p3 p4 H=>?_;refine Ze 17 rfl (Zb 0 wI (gO 0) p3 p4) ?_;refine cSJ 18 rfl H [] h2 rfl Q36.spec Zm 0 fun r1 w2 H h3=>?_;refine hRF [19] [0,2,3,8,9,36] ?_;refine jIf H (fun c3 H=>?_) fun c3 H=>?_
  ·refine Za [0,2,3,8,9] ?_;refine T9 (T9 (jH h3 fun h4=>?_));refine Zp [0,1,2,3,6,7,8,9] ?_;refine hX 4 H e2 fun p5 p6 H=>?_;refine Ze 5 rfl (Zb 0 wI (gO 0) p5 p6) ?_;refine hX 10 H e2 fun p7 p8 H=>?_;refine Ze 11 rfl (Zb 0 wI (gO 0) p7 p8) ?_;refine cSJ 12 rfl H [] h4 rfl Q36.spec Zm 0 fun r2 w3 H h5=>?_;refine hRF [13] [0,2,3,8,9,52] ?_;refine jIf H (fun c4 H=>?_) fun c4 H=>?_
   ·cases H;exact T8 (jR ⟨rfl,rfl,e1⟩ h5 [0])
   refine Sa (T9 (Zw (sO h5 []) ?_));have h6:=h5.drew;refine Zp [0,1,2,3,4,5,6,7,8,9,10,11,14,15,16,17] ?_;refine Ze 12 rfl (Zi e2 p7 p8) ?_;refine Ze 18 rfl (Zi e2 p5 p6) ?_;refine TY (Y2 13 rfl (Zb 0 h6.wht (gO 0) p7 p8) (Y2 19 rfl (Zb 0 h6.wht (gO 0) p5 p6) Vy)) ?_;refine Ze 20 rfl (Zi e2 p5 p6) ?_;refine hS 21 rfl (Zn 0 (.int .u32) (w64 (a3+x2)) (gt x1 (w64 (a3+(w64 ((w64 ((w64 (2*x2))+1))+1))))) 0 h6 rfl p5 p6) 1 fun _ w4 h7=>?_;have e3:(x1.set (w64 (a3+x2)).toNat (gt x1 (w64 (a3+(w64 ((w64 ((w64 (2*x2))+1))+1)))))).length=a0.length:=length_set.trans e1;refine Ze 22 rfl (Zi e2 p7 p8) ?_;refine hS 23 rfl (Zn 0 (.int .u32) (w64 (a3+(w64 ((w64 ((w64 (2*x2))+1))+1)))) (gt x1 (w64 (a3+x2))) 0 h7 rfl p7 (by simpa only [length_set] using p8)) 1 fun _ w5 h8=>?_;have e4:((x1.set (w64 (a3+x2)).toNat (gt x1 (w64 (a3+(w64 ((w64 ((w64 (2*x2))+1))+1)))))).set (w64 (a3+(w64 ((w64 ((w64 (2*x2))+1))+1)))).toNat (gt x1 (w64 (a3+x2)))).length=a0.length:=length_set.trans e3;refine Y8 [0,2,3,9] ?_;refine T3 (env':=[(0,.slice A1 ((x1.set (w64 (a3+x2)).toNat (gt x1 (w64 (a3+(w64 ((w64 ((w64 (2*x2))+1))+1)))))).set (w64 (a3+(w64 ((w64 ((w64 (2*x2))+1))+1)))).toNat (gt x1 (w64 (a3+x2)))).length c_1),(2,.int .i64 a2),(3,.int .i64 a3),(9,.int .i64 (w64 ((w64 ((w64 (2*x2))+1))+1)))]) (by simp only [length_set,length_nil] <;> rfl) ?_;refine Za [0,2,3,8] ?_;have h9:=(sOR h8 [0] []);exact ⟨k1,by omega,_,_,H,rfl,h9,e4⟩
  refine Sa (T9 (T9 (jH h3 fun h10=>?_)));refine Zp [0,1,2,3,6,7,8,9] ?_;refine hX 4 H e2 fun p9 p10 H=>?_;refine Ze 5 rfl (Zb 0 wI (gO 0) p9 p10) ?_;refine Ze 10 rfl (Zi e2 p1 p2) ?_;refine Ze 11 rfl (Zb 0 wI (gO 0) p1 p2) ?_;refine cSJ 12 rfl H [] h10 rfl Q36.spec Zm 0 fun r3 w6 H h11=>?_;refine hRF [13] [0,2,3,8,9,52] ?_;refine jIf H (fun c5 H=>?_) fun c5 H=>?_
  ·cases H;exact T8 (jR ⟨rfl,rfl,e1⟩ h11 [0])
  refine Sa (T9 (Zw (sO h11 []) ?_));have h12:=h11.drew;refine Zp [0,1,2,3,4,5,6,7,8,9,10,11,14,15,16,17] ?_;refine Ze 12 rfl (Zi e2 p1 p2) ?_;refine Ze 18 rfl (Zi e2 p9 p10) ?_;refine TY (Y2 13 rfl (Zb 0 h12.wht (gO 0) p1 p2) (Y2 19 rfl (Zb 0 h12.wht (gO 0) p9 p10) Vy)) ?_;refine Ze 20 rfl (Zi e2 p9 p10) ?_;refine hS 21 rfl (Zn 0 (.int .u32) (w64 (a3+x2)) (gt x1 (w64 (a3+(w64 ((w64 (2*x2))+1))))) 0 h12 rfl p9 p10) 1 fun _ w7 h13=>?_;have e5:(x1.set (w64 (a3+x2)).toNat (gt x1 (w64 (a3+(w64 ((w64 (2*x2))+1)))))).length=a0.length:=length_set.trans e1;refine Ze 22 rfl (Zi e2 p1 p2) ?_;refine hS 23 rfl (Zn 0 (.int .u32) (w64 (a3+(w64 ((w64 (2*x2))+1)))) (gt x1 (w64 (a3+x2))) 0 h13 rfl p1 (by simpa only [length_set] using p2)) 1 fun _ w8 h14=>?_;have e6:((x1.set (w64 (a3+x2)).toNat (gt x1 (w64 (a3+(w64 ((w64 (2*x2))+1)))))).set (w64 (a3+(w64 ((w64 (2*x2))+1)))).toNat (gt x1 (w64 (a3+x2)))).length=a0.length:=length_set.trans e5;refine Y8 [0,2,3,9] ?_;refine T3 (env':=[(0,.slice A1 ((x1.set (w64 (a3+x2)).toNat (gt x1 (w64 (a3+(w64 ((w64 (2*x2))+1)))))).set (w64 (a3+(w64 ((w64 (2*x2))+1)))).toNat (gt x1 (w64 (a3+x2)))).length c_1),(2,.int .i64 a2),(3,.int .i64 a3),(9,.int .i64 (w64 ((w64 (2*x2))+1)))]) (by simp only [length_set,length_nil] <;> rfl) ?_;refine Za [0,2,3,8] ?_;have h15:=(sOR h14 [0] []);exact ⟨k1,by omega,_,_,H,rfl,h15,e6⟩
 refine hRF [5,6,7,8,9,10,11,12,13,14,15,16,17,18,19] [0,2,3,8,9,36] ?_;refine Zz ?_;refine Sa (T9 (T9 (jH h2 fun h16=>?_)));refine Zp [0,1,2,3,6,7,8,9] ?_;refine hI 4 H h16 (gO 0) fun p11 p12 e7 H=>?_;refine Ze 5 rfl (Zb 0 wI (gO 0) p11 p12) ?_;refine hX 10 H e7 fun p13 p14 H=>?_;refine Ze 11 rfl (Zb 0 wI (gO 0) p13 p14) ?_;refine cSJ 12 rfl H [] h16 rfl Q36.spec Zm 0 fun r4 w9 H h17=>?_;refine hRF [13] [0,2,3,8,9,52] ?_;refine jIf H (fun c6 H=>?_) fun c6 H=>?_
 ·cases H;exact T8 (jR ⟨rfl,rfl,e1⟩ h17 [0])
 refine Sa (T9 (Zw (sO h17 []) ?_));have h18:=h17.drew;refine Zp [0,1,2,3,4,5,6,7,8,9,10,11,14,15,16,17] ?_;refine Ze 12 rfl (Zi e7 p13 p14) ?_;refine Ze 18 rfl (Zi e7 p11 p12) ?_;refine TY (Y2 13 rfl (Zb 0 h18.wht (gO 0) p13 p14) (Y2 19 rfl (Zb 0 h18.wht (gO 0) p11 p12) Vy)) ?_;refine Ze 20 rfl (Zi e7 p11 p12) ?_;refine hS 21 rfl (Zn 0 (.int .u32) (w64 (a3+x2)) (gt x1 (w64 (a3+(w64 ((w64 (2*x2))+1))))) 0 h18 rfl p11 p12) 1 fun _ w10 h19=>?_;have e8:(x1.set (w64 (a3+x2)).toNat (gt x1 (w64 (a3+(w64 ((w64 (2*x2))+1)))))).length=a0.length:=length_set.trans e1;refine Ze 22 rfl (Zi e7 p13 p14) ?_;refine hS 23 rfl (Zn 0 (.int .u32) (w64 (a3+(w64 ((w64 (2*x2))+1)))) (gt x1 (w64 (a3+x2))) 0 h19 rfl p13 (by simpa only [length_set] using p14)) 1 fun _ w11 h20=>?_;have e9:((x1.set (w64 (a3+x2)).toNat (gt x1 (w64 (a3+(w64 ((w64 (2*x2))+1)))))).set (w64 (a3+(w64 ((w64 (2*x2))+1)))).toNat (gt x1 (w64 (a3+x2)))).length=a0.length:=length_set.trans e8;refine Y8 [0,2,3,9] ?_;refine T3 (env':=[(0,.slice A1 ((x1.set (w64 (a3+x2)).toNat (gt x1 (w64 (a3+(w64 ((w64 (2*x2))+1)))))).set (w64 (a3+(w64 ((w64 (2*x2))+1)))).toNat (gt x1 (w64 (a3+x2)))).length c_1),(2,.int .i64 a2),(3,.int .i64 a3),(9,.int .i64 (w64 ((w64 (2*x2))+1)))]) (by simp only [length_set,length_nil] <;> rfl) ?_;refine Za [0,2,3,8] ?_;have h21:=(sOR h20 [0] []);exact ⟨k1,by omega,_,_,H,rfl,h21,e9⟩

def Q118.l1:Nat->(Int)->TX->(Int)->Option TX
 | 0,_,_,_=>none
 | k+1,a1,x3,x4=>if (decide (0<=x4))=true then (if 0<=(w64 (a1+x4))/\(w64 (a1+x4))<(x3.length:Int) then (if 0<=a1/\a1<(x3.length:Int) then ((Q129.f k ((x3.set a1.toNat (gt x3 (w64 (a1+x4)))).set (w64 (a1+x4)).toNat (gt x3 a1)) 0 x4 a1).bind fun r2=>(Q118.l1 k a1 r2 (w64 (x4 - 1)))) else none) else none) else (some x3)
def Q118.l0:Nat->(Int)->(Int)->TX->(Int)->Option TX
 | 0,_,_,_,_=>none
 | k+1,a1,a2,x1,x2=>if (decide (0<=x2))=true then ((Q129.f k x1 x2 (w64 (a2 - a1)) a1).bind fun r1=>(Q118.l0 k a1 a2 r1 (w64 (x2 - 1)))) else (Q118.l1 k a1 x1 (w64 ((w64 (a2 - a1)) - 1)))
def Q118.f (k:Nat) (a0:TX) (a1:Int) (a2:Int):Option TX:=Q118.l0 k a1 a2 a0 (w64 (Int.tdiv (w64 ((w64 (a2 - a1)) - 1)) 2))
theorem Q118.spec {k a0 a1 a2 A1 c_1 r} (H:Q118.f k a0 a1 a2=some r) :
  Spec prog 171 [.slice A1 a0.length c_1,.int .i64 a1,.int .i64 a2] [O32 a0 A1 c_1] [] (fun v l=>v=.tuple #[]/\l=[O32 r A1 c_1]/\r.length=a0.length):=by
 refine Zg Tryz.func171 fun w0 F0 h0=>?_;unfold Q118.f at H;refine T9 (Za [0,1,2,6] ?_);refine T9 (Za [0,1,2,6,7] ?_);refine T9 (Za [0,6,7,8] ?_);refine T9 (T9 (Za [0,6,7,8,9] ?_));refine T1 ?_;have h11:=(sOR h0 [0] []);refine T5 (fun kk env w=>∃ x1 x2,Q118.l0 kk a1 a2 x1 x2=some r/\env=[(0,.slice A1 x1.length c_1),(6,.int .i64 a1),(7,.int .i64 0),(8,.int .i64 (w64 (a2 - a1))),(9,.int .i64 x2)]/\St w0 F0 [O32 x1 A1 c_1] [] w/\x1.length=a0.length) (k:=k) ⟨_,_,H,rfl,h11,(rfl:a0.length=a0.length)⟩ ?_;rintro k1 env w1 ⟨x1,x2,H,rfl,h1,e1⟩;rcases k1 with _ | k1
 ·exact z0 H
 rw [Q118.l0] at H;refine T9 (T9 (Za [0,6,7,8,9,19] ?_));refine jIf H (fun c1 H=>?_) fun c1 H=>?_
 ·refine Sa (T9 (T1 (T7 (Zd 4 ?_))));refine cE H [0] h1 rfl Q129.spec Zm ?_;rintro r1 w2 _ _ H ⟨rfl,rfl,q2⟩ h2;replace h2:=nf h2;have e2:r1.length=a0.length:=q2.trans e1;refine rFi [0,6,7,8,9] ?_;refine T3 (env':=[(0,.slice A1 r1.length c_1),(6,.int .i64 a1),(7,.int .i64 0),(8,.int .i64 (w64 (a2 - a1))),(9,.int .i64 x2)]) (by simp only [q2,length_nil] <;> rfl) ?_;refine Za [0,6,7,8,9] ?_;have h3:=(sOR h2 [0] []);exact ⟨k1,by omega,_,_,H,rfl,h3,e2⟩
 refine T4 (T9 (Za [0,6,7,10] ?_));refine T1 ?_;have h10:=(sOR h1 [0] []);refine T5 (fun kk env w=>∃ x3 x4,Q118.l1 kk a1 x3 x4=some r/\env=[(0,.slice A1 x3.length c_1),(6,.int .i64 a1),(7,.int .i64 0),(10,.int .i64 x4)]/\St w0 F0 [O32 x3 A1 c_1] [] w/\x3.length=a0.length) (k:=k1) ⟨_,_,H,rfl,h10,e1⟩ ?_;rintro k2 env w3 ⟨x3,x4,H,rfl,h4,e3⟩;rcases k2 with _ | k2
 ·exact z0 H
 rw [Q118.l1] at H;refine T9 (T9 (Za [0,6,7,10,30] ?_));refine jIf H (fun c2 H=>?_) fun c2 H=>?_
 ·refine Sa (T9 (T1 (T9 (Zw (sO h4 []) ?_))));have h5:=h4.drew;refine Zp [0,1,2,3,4,5,6,7,8,9,12,13] ?_;refine hI 10 H h5 (gO 0) fun p1 p2 e4 H=>?_;refine hX 14 H e4 fun p3 p4 H=>?_;refine TY (Y2 11 rfl (Zb 0 h5.wht (gO 0) p1 p2) (Y2 15 rfl (Zb 0 h5.wht (gO 0) p3 p4) Vy)) ?_;refine Ze 16 rfl (Zi e4 p3 p4) ?_;refine hS 17 rfl (Zn 0 (.int .u32) a1 (gt x3 (w64 (a1+x4))) 0 h5 rfl p3 p4) 1 fun _ w4 h6=>?_;have e5:(x3.set a1.toNat (gt x3 (w64 (a1+x4)))).length=a0.length:=length_set.trans e3;refine Ze 18 rfl (Zi e4 p1 p2) ?_;refine hS 19 rfl (Zn 0 (.int .u32) (w64 (a1+x4)) (gt x3 a1) 0 h6 rfl p1 (by simpa only [length_set] using p2)) 1 fun _ w5 h7=>?_;have e6:((x3.set a1.toNat (gt x3 (w64 (a1+x4)))).set (w64 (a1+x4)).toNat (gt x3 a1)).length=a0.length:=length_set.trans e5;refine Y8 [0,6,7,10] ?_;refine T3 (env':=[(0,.slice A1 ((x3.set a1.toNat (gt x3 (w64 (a1+x4)))).set (w64 (a1+x4)).toNat (gt x3 a1)).length c_1),(6,.int .i64 a1),(7,.int .i64 0),(10,.int .i64 x4)]) (by simp only [length_set,length_nil] <;> rfl) ?_;refine T7 (Zd 4 ?_);refine cE H [0] h7 rfl Q129.spec Zm ?_;rintro r2 w6 _ _ H ⟨rfl,rfl,q4⟩ h8;replace h8:=nf h8;have e7:r2.length=a0.length:=q4.trans e6;refine rFi [0,6,7,10] ?_;refine T3 (env':=[(0,.slice A1 r2.length c_1),(6,.int .i64 a1),(7,.int .i64 0),(10,.int .i64 x4)]) (by simp only [q4,length_nil] <;> rfl) ?_;refine Za [0,6,7,10] ?_;have h9:=(sOR h8 [0] []);exact ⟨k2,by omega,_,_,H,rfl,h9,e7⟩
 refine T4 ?_;cases H;exact ⟨_,_,_,Zj,⟨rfl,rfl,e3⟩,sO h4 [0]⟩

def Q123.f (a0:TX) (a1:Int) (a2:Int) (a3:Int):Option (Int×Int×Int):=if 0<=a2/\a2<(a0.length:Int) then (if 0<=a1/\a1<(a0.length:Int) then ((Q36.f (gt a0 a2) (gt a0 a1)).bind fun r1=>(if r1=true then (some (a2,a1,(w64 (a3+1)))) else (some (a1,a2,a3)))) else none) else none
theorem Q123.spec {a0 a1 a2 a3 A1 c_1 b1 r} (H:Q123.f a0 a1 a2 a3=some r) :
  Spec prog 187 [.slice A1 a0.length c_1,.int .i64 a1,.int .i64 a2,.pointer (some ⟨b1,0,none⟩)] [X3 b1 a3] [R32 a0 A1 c_1] (fun v l=>v=.tuple #[.int .i64 r.1,.int .i64 r.2.1]/\l=[X3 b1 r.2.2]):=by
 refine Zg Tryz.func187 fun w0 F0 h0=>?_;unfold Q123.f at H;refine T9 (Za [0,1,2,3] ?_);refine T9 (T9 (jH h0 fun h1=>?_));refine Zp [0,1,4,5] ?_;refine hI 2 H h1 (Zc 1) fun p1 p2 e1 H=>?_;refine Ze 3 rfl (Zb 0 wI (Zc 1) p1 p2) ?_;refine hX 6 H e1 fun p3 p4 H=>?_;refine Ze 7 rfl (Zb 0 wI (Zc 1) p3 p4) ?_;refine cSJ 8 rfl H [] h1 rfl Q36.spec Zm 0 fun r1 w1 H h2=>?_;refine Y8 [1,2,3,18] ?_;refine jIf H (fun c1 H=>?_) fun c1 H=>?_
 ·refine T9 (T7 (rRL 2 0 h2 ?_));refine Zd 2 ?_;refine rS (Zs 0 h2) fun _ w2 h3=>?_;refine rFi [1,2] ?_;refine T9 (Za [8,9] ?_);cases H;exact T8 (jR0 h3 [0])
 refine Sa (T9 (Za [8,9] ?_));cases H;exact T8 (jR0 h2 [0])

def Q121.f (a0:TX) (a1:Int) (a2:Int) (a3:Int) (a4:Int):Option TW:=(Q123.f a0 a1 a2 a4).bind fun r1=>((Q123.f a0 r1.2.1 a3 r1.2.2).bind fun r2=>((Q123.f a0 r1.1 r2.1 r2.2.2).bind fun r3=>(some r3.2)))
theorem Q121.spec {a0 a1 a2 a3 a4 A1 c_1 b1 r} (H:Q121.f a0 a1 a2 a3 a4=some r) :
  Spec prog 185 [.slice A1 a0.length c_1,.int .i64 a1,.int .i64 a2,.int .i64 a3,.pointer (some ⟨b1,0,none⟩)] [X3 b1 a4] [R32 a0 A1 c_1] (fun v l=>v=.int .i64 r.1/\l=[X3 b1 r.2]):=by
 refine Zg Tryz.func185 fun w0 F0 h0=>?_;unfold Q121.f at H;refine T9 (Za [0,1,2,3,4] ?_);refine T9 (T7 (Zd 4 ?_));refine cS H [0] h0 rfl Q123.spec (gS [0]) fun r1 w1 H h1=>?_;refine rFi [0,1,2,3,4] ?_;refine T9 (T7 (Zd 4 ?_));refine cS H [0] h1 rfl Q123.spec (gS [0]) fun r2 w2 H h2=>?_;refine rFi [0,1,2,4] ?_;refine T9 (T7 (Zd 4 ?_));refine cS H [0] h2 rfl Q123.spec (gS [0]) fun r3 w3 H h3=>?_;refine rFi [2] ?_;refine T9 (Za [10] ?_);cases H;exact T8 (jR0 h3 [0])

def Q120.f (a0:TX) (a1:Int) (a2:Int):Option TW:=(Q121.f a0 (w64 (a1 - 1)) a1 (w64 (a1+1)) a2).bind fun r1=>(some r1)
theorem Q120.spec {a0 a1 a2 A1 c_1 b1 r} (H:Q120.f a0 a1 a2=some r) :
  Spec prog 184 [.slice A1 a0.length c_1,.int .i64 a1,.pointer (some ⟨b1,0,none⟩)] [X3 b1 a2] [R32 a0 A1 c_1] (fun v l=>v=.int .i64 r.1/\l=[X3 b1 r.2]):=by
 refine Zg Tryz.func184 fun w0 F0 h0=>?_;unfold Q120.f at H;refine T9 (Za [0,1,2] ?_);refine T9 (T7 (Zd 7 ?_));refine cS H [0] h0 rfl Q121.spec (gS [0]) fun r1 w1 H h1=>?_;refine rFi [6] ?_;cases H;exact T8 (jR0 h1 [0])

end Go.SK.T
