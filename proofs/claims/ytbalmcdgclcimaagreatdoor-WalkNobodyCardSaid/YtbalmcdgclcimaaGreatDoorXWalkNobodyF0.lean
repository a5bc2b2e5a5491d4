/- The types of the program, and its functions as the code computes them, each proved. -/
import Derived.Test.YtbalmcdgclcimaaGreatDoorXWalkNobodyKF
import Derived.Test.YtbalmcdgclcimaaGreatDoorProg
import Derived.Shelf.Spec.TrailingZeros
set_option linter.unusedVariables false
set_option linter.unusedSimpArgs false
set_option maxRecDepth 20000
set_option maxHeartbeats 40000000
namespace Go.SK.T
open Go Go.SK Go.Proofs
abbrev uA:=IntKind.u8
abbrev uD:=IntKind.u32
abbrev uH:=IntKind.u64
abbrev iH:=IntKind.i64
open BitVec (ofInt)
open List (length_set length_nil append_assoc length_cons drop_eq_nil_of_le length_take length_drop length_map length_range length_replicate)
open Tryz (prog)
abbrev TZ:=List Int
abbrev TY:=Int×Int
abbrev TX:=Int×Bool
abbrev TW:=List Value
abbrev TV:=List UInt8
abbrev TU:=List Int×Int
abbrev TS:=Int×List Int
abbrev TR:=Bool×List Int
abbrev TQ:=List UInt8×Int
abbrev TP:=List TY
abbrev TO:=List TV
abbrev TN:=Int×Int×List Int
abbrev TM:=Int×Bool×List Int
abbrev TL:=TN
abbrev TJ:=List (Int×Int×Bool)
abbrev TH:=List UInt8×List UInt8
abbrev TG:=Int×Int×Int×Int×Int
abbrev TF:=Int×List Int×TY
abbrev TE:=List UInt8×List UInt8×Bool
abbrev TD:=TJ×Int
abbrev TC:=List UInt8×Bool×List UInt8
abbrev TB:=List TH
abbrev TA:=Bool×TG
abbrev Tz:=TB
abbrev Tx:=List (Int×List Int×Bool×Int)
abbrev Tw:=Int×TD
abbrev Tv:=List TC
abbrev Tu:=TE×Bool
abbrev Tt:=List Int×Int×TL
abbrev Ts:=Tv
abbrev Tr:=Int×Int×Int×Int×Int×Int×Int×Int
abbrev Tq:=Tr
abbrev Tp:=TB×Tv×List Int×List Int
abbrev Tn:=Int×List Int×List TV×Tv×TB
abbrev Tm:=List Tn
abbrev Tl:=List Tm
abbrev Tk:=Tl
abbrev Tj:=Tn×TU
abbrev Ti:=TF×Tx×TP×List Int×TD
abbrev Th:=Int×Ti
abbrev Tg:=Tr×Ti×TL×Int
abbrev Tf:=Int×Bool×Tg
abbrev Te:=Tg×(List TX)×Bool
abbrev Td:=TG×Int×Tg
abbrev Tc:=Int×TG×Te
abbrev Tb:=Tn×Int×Tg
abbrev Ta:=Option Tg×Int×Tl×Bool
abbrev T0:=@HJ.loads
abbrev T1:=@HJ.pick
abbrev T2:=@J.block
abbrev T3:=@J.cond
abbrev T4:=@J.envEq
abbrev T5:=@J.exit
abbrev T6:=@J.loop
abbrev T7:=@J.midS
abbrev T8:=@J.region
abbrev T9:=@J.ret
abbrev Sa:=@J.seq
abbrev Sb:=@J.skip
abbrev Sc:=@Nat.le_refl
abbrev Sd:=@OpT.ofq
abbrev Se:=@OptC.no
abbrev Sf:=@OptC.yes
abbrev Sg:=@RV.cell
abbrev Sh:=@RV.tmp
theorem rRL {P:Program} {tt:TT} {n:Nat} {ops l l' K env env' w0 w F0 Hs Rs} {o:Oper} {t x} {i:TI} {b off tb cs v} [q:TTI P tt] (k j:Nat) (hS:St w0 F0 Hs Rs w) (hr:RJ P n ops l' K (Yz o.dst v env') w) (h:Gp tt n ops k l env=some (o :: l',env'):=by exact rfl) (hw:Ya ops env' o=some true:=by exact rfl) (hd:Xe n o.dst=true:=by exact rfl) (hk:nth Hs j=some (Yt b tb cs):=by exact rfl) (ho:o.op=.load t x:=by exact rfl) (hi:find tt t=some i:=by exact rfl) (ha:Zm env' x=some (.pointer (some ⟨b,off,none⟩)):=by exact rfl) (hp:X6 i ((cs.drop off).take i.size)=some v:=by exact rfl):RJ P n ops l K env w:=RJ.run q.ok k h (RJ.q hw hd (Us q.ok j hS.wht hk ho hi ha hp) hr)
theorem rLo {P:Program} {tt:TT} {n:Nat} {ops l K env w0 w F0 Hs Rs} {o:Oper} {t x} {i:TI} {b off tb cs v} [q:TTI P tt] (j:Nat) (hS:St w0 F0 Hs Rs w) (hr:RJ P n ops l K (Yz o.dst v env) w) (hw:Ya ops env o=some true:=by exact rfl) (hd:Xe n o.dst=true:=by exact rfl) (hk:nth Hs j=some (Yt b tb cs):=by exact rfl) (ho:o.op=.load t x:=by exact rfl) (hi:find tt t=some i:=by exact rfl) (ha:Zm env x=some (.pointer (some ⟨b,off,none⟩)):=by exact rfl) (hp:X6 i ((cs.drop off).take i.size)=some v:=by exact rfl):RJ P n ops (o :: l) K env w:=RJ.q hw hd (Us q.ok j hS.wht hk ho hi ha hp) hr
theorem rFi {P:Program} {tt:TT} {n:Nat} {ops K} {w:World} [q:TTI P tt] {l env E} (ts) (hk:K E w) (h:Gd tt n ops ts l env=some E:=by exact rfl):RJ P n ops l K env w:=Zcd ts h hk
theorem hRF {P:Program} {tt:TT} {n:Nat} {ops done K S} {w:World} [q:TTI P tt] {env done' env' E} (is ts) (hk:K E w) (hs:Xi ops=true:=by exact rfl) (h:SK.runH tt n ops is done env=some (done',env'):=by exact rfl) (hr:(Ju ops && V5 done' 0 ops)=true:=by exact rfl) (h2:Gm ts env' some=some E:=by exact rfl):HJ P n ops S K done env w:=Zr is (Yy ts hk hr h2) hs h
section
variable {P:Program} {tt:TT} {n:Nat} {ops l:List Oper} {K:Env->World->Prop} {S:World->Prop} {done:List Nat} {env:Env} {w w0 w2:World} {F0:Ft} {Hs Rs rest:List Ch} {o:Oper} {t e m c d E mm c2:Nat} {x ix:Operand} {A:Option Addr} {i:Int} {ki:IntKind} {z1 z2:Nat} {z:Value} {ie:TI} {ρ α:Type} {X:Option ρ} {r:ρ} {ty:Ty} [Inhabited ty.D] {xs:List ty.D} [q_:TTI P tt]
abbrev RjO (ops:List Oper) (env:Env) (n:Nat) (o:Oper):Prop:=Ya ops env o=some true/\Xe n o.dst=true
abbrev HjO (ops:List Oper) (env:Env) (n:Nat) (done:List Nat) (j:Nat) (o:Oper) (d:Nat):Prop:=Xi ops=true/\nth ops j=some o/\Uv ops done j o=true/\Ya ops env o=some true/\o.dst=some d/\Nat.ble (d+1) n=true
abbrev IxO (tt:TT) (env:Env) (o:Oper) (t e m c:Nat) (x ix:Operand) (A:Option Addr) (i:Int) (ki:IntKind) (z1 z2:Nat) (z:Value) (ie:TI):Prop:=o.op=.indexAddr t x ix/\find tt t=some ⟨.slice e,z1,z2,z⟩/\find tt e=some ie/\Zm env x=some (.slice A m c)/\Zm env ix=some (.int ki i)
theorem nO (h:St w0 F0 Hs Rs w) (ks) {ps Hs'} (hp:Ww ks Hs (fun p _=>some p)=some ps:=by exact rfl) (e:nfK ps some=some Hs':=by exact rfl):St w0 F0 Hs' Rs w:=nf (sO h ks hp) e
theorem cA {c:Option α} {f:α->Option ρ} {fno} {xs} {ts:Array TypeId} {fx} {vs} {pre rd} {V:α->Option Addr->Nat->Value} {L Hs':α->Option Addr->Nat->List Ch} (H:c.bind f=some r) (ks) (hS:St w0 F0 Hs Rs w) (hp:Ww ks Hs (fun p r=>some (p,r))=some (pre,rest)) (hsp:∀ {x},c=some x->Spec P fno vs pre rd (fun v l=>∃ A k,v=V x A k/\l=L x A k)) (hr:∀ c∈rd,Gives (rest ++ Rs) c) (hk:∀ x A k w',f x=some r->St w0 F0 (Hs' x A k) Rs w'->RJ P n ops l K (Yz o.dst (V x A k) env) w') (hn:∀ x A k,nfK (L x A k ++ rest) some=some (Hs' x A k):=by exact fun _ _ _=>rfl) (q:RjO ops env n o:=by exact ⟨rfl,rfl⟩) (ho:o.op=.call { callee:=.value fx,args:=xs,argTypes:=ts }:=by exact rfl) (hfx:Zm env fx=some (.func (.func fno) #[] #[]):=by exact rfl) (hv:Yj env xs.toList=some vs:=by exact rfl):RJ P n ops (o :: l) K env w:=by
 refine cE H ks hS hp hsp hr ?_ q.1 q.2 ho hfx hv;rintro x w' _ _ H ⟨A,k,rfl,rfl⟩ h;exact hk x A k w' H (nf h (hn x A k))
theorem rA {V:Option Addr->Nat->Value} {Hs1 Hs':Option Addr->Nat->List Ch} (ho:OpT P o env w (fun v w'=>∃ A k,v=V A k/\St w0 F0 (Hs1 A k) Rs w')) (hk:∀ A k w',St w0 F0 (Hs' A k) Rs w'->RJ P n ops l K (Yz o.dst (V A k) env) w') (hn:∀ A k,nfK (Hs1 A k) some=some (Hs' A k):=by exact fun _ _=>rfl) (q:RjO ops env n o:=by exact ⟨rfl,rfl⟩):RJ P n ops (o :: l) K env w:=RJ.op q.1 q.2 ho (by rintro _ w' ⟨A,k,rfl,h⟩; exact hk A k w' (nf h (hn A k)))
theorem rC {V:Option Addr->Nat->Value} {L M Hs':Option Addr->Nat->List Ch} (ho:OpT P o env w (fun v w'=>∃ post rp,(∃ A k,v=V A k/\post=L A k/\rp=M A k)/\St w0 F0 (post ++ rest) (rp ++ Rs) w')) (hk:∀ A k w',St w0 F0 (Hs' A k) (M A k ++ Rs) w'->RJ P n ops l K (Yz o.dst (V A k) env) w') (hn:∀ A k,nfK (L A k ++ rest) some=some (Hs' A k):=by exact fun _ _=>rfl) (q:RjO ops env n o:=by exact ⟨rfl,rfl⟩):RJ P n ops (o :: l) K env w:=RJ.op q.1 q.2 ho (by rintro _ w' ⟨_,_,⟨A,k,rfl,rfl,rfl⟩,h⟩; exact hk A k w' (nf h (hn A k)))
theorem eN {f} {fn} {c} {args} {pre} {rd} {Post} {Hs'} (hf : P.funcs[f]? = some fn) (h : ∀ w0 F0, St w0 F0 Hs' rd w0 → J P fn.ntmps c (Zbg P fn w0 F0 Post) (X7 0 args) w0) (e : nfK pre some = some Hs' := by exact rfl) (hb : fn.body = some c := by exact rfl) (hn : (fn.name == "runtime.NumGoroutine") = false := by kernel_rfl) (hs : Nat.ble args.length fn.ntmps = true := by kernel_rfl) : Spec P f args pre rd Post := Spec.enter hf hb hn hs fun w0 F0 h0 => h w0 F0 (nf h0 e)
theorem rX (H:(if 0<=i/\i<(m:Int) then X else none)=some r) (hA:A=some ⟨blk A,ofs A,none⟩) (h:0<=i->i<(m:Int)->X=some r->RJ P n ops l K (Yz o.dst (.pointer (some ⟨blk A,ofs A+i.toNat*ie.size,none⟩)) env) w) (g:RjO ops env n o:=by exact ⟨rfl,rfl⟩) (v:IxO tt env o t e m c x ix A i ki z1 z2 z ie:=by exact ⟨rfl,rfl,rfl,rfl,rfl⟩):RJ P n ops (o :: l) K env w:=by
 obtain ⟨⟨p,q⟩,H⟩:=Zn H;exact RJ.q g.1 g.2 (B8 q_.ok v.1 v.2.1 v.2.2.1 v.2.2.2.1 v.2.2.2.2 hA p q) (h p q H)
theorem rI (H:(if 0<=i/\i<(m:Int) then X else none)=some r) (hS:St w0 F0 Hs Rs w2) (hg:Gives (Hs ++ Rs) (rdC E ty xs (.slice A mm c2))) (h:0<=i->i<(m:Int)->A=some ⟨blk A,ofs A,none⟩->X=some r->RJ P n ops l K (Yz o.dst (.pointer (some ⟨blk A,ofs A+i.toNat*ie.size,none⟩)) env) w) (hm:xs.length=m:=by exact rfl) (g:RjO ops env n o:=by exact ⟨rfl,rfl⟩) (v:IxO tt env o t e m c x ix A i ki z1 z2 z ie:=by exact ⟨rfl,rfl,rfl,rfl,rfl⟩):RJ P n ops (o :: l) K env w:=by
 obtain ⟨⟨p,q⟩,_⟩:=Zn H;have a:=U7 hS.wh hg p (hm ▸ q);exact rX H a (fun p q=>h p q a) g v
theorem hX (j:Nat) (H:(if 0<=i/\i<(m:Int) then X else none)=some r) (hA:A=some ⟨blk A,ofs A,none⟩) (h:0<=i->i<(m:Int)->X=some r->HJ P n ops S K (j :: done) ((d,.pointer (some ⟨blk A,ofs A+i.toNat*ie.size,none⟩)) :: env) w) (g:HjO ops env n done j o d:=by exact ⟨rfl,rfl,rfl,rfl,rfl,rfl⟩) (v:IxO tt env o t e m c x ix A i ki z1 z2 z ie:=by exact ⟨rfl,rfl,rfl,rfl,rfl⟩):HJ P n ops S K done env w:=by
 obtain ⟨⟨p,q⟩,H⟩:=Zn H;exact HJ.q g.1 g.2.1 g.2.2.1 g.2.2.2.1 g.2.2.2.2.1 g.2.2.2.2.2 (B8 q_.ok v.1 v.2.1 v.2.2.1 v.2.2.2.1 v.2.2.2.2 hA p q) (h p q H)
theorem hI (j:Nat) (H:(if 0<=i/\i<(m:Int) then X else none)=some r) (hS:St w0 F0 Hs Rs w2) (hg:Gives (Hs ++ Rs) (rdC E ty xs (.slice A mm c2))) (h:0<=i->i<(m:Int)->A=some ⟨blk A,ofs A,none⟩->X=some r->HJ P n ops S K (j :: done) ((d,.pointer (some ⟨blk A,ofs A+i.toNat*ie.size,none⟩)) :: env) w) (hm:xs.length=m:=by exact rfl) (g:HjO ops env n done j o d:=by exact ⟨rfl,rfl,rfl,rfl,rfl,rfl⟩) (v:IxO tt env o t e m c x ix A i ki z1 z2 z ie:=by exact ⟨rfl,rfl,rfl,rfl,rfl⟩):HJ P n ops S K done env w:=by
 obtain ⟨⟨p,q⟩,_⟩:=Zn H;have a:=U7 hS.wh hg p (hm ▸ q);exact hX j H a (fun p q=>h p q a) g v
end
def tt:TT:=[(1,⟨.func,1,8,.nilFunc⟩),
 (2,⟨.int .i64,1,8,.int .i64 0⟩),
 (3,⟨.int .i64,1,8,.int .i64 0⟩),
 (4,⟨.bool,1,1,.bool false⟩),
 (5,⟨.int .u8,1,1,.int .u8 0⟩),
 (6,⟨.int .u8,1,1,.int .u8 0⟩),
 (9,⟨.str,1,16,.string ⟨⟨[]⟩⟩⟩),
 (10,⟨.str,1,16,.string ⟨⟨[]⟩⟩⟩),
 (11,⟨.str,1,16,.string ⟨⟨[]⟩⟩⟩),
 (23,⟨.struct [(3,0,1),(3,1,1),(3,2,1),(3,3,1),(3,4,1),(3,5,1),(3,6,1),(3,7,1)],8,64,.agg #[.int .i64 0,.int .i64 0,.int .i64 0,.int .i64 0,.int .i64 0,.int .i64 0,.int .i64 0,.int .i64 0]⟩),
 (24,⟨.int .u32,1,4,.int .u32 0⟩),
 (26,⟨.struct [(3,0,1),(3,1,1),(3,2,1),(3,3,1),(3,4,1)],5,40,.agg #[.int .i64 0,.int .i64 0,.int .i64 0,.int .i64 0,.int .i64 0]⟩),
 (27,⟨.int .i64,1,8,.int .i64 0⟩),
 (30,⟨.slice 24,1,24,.slice none 0 0⟩),
 (35,⟨.ptr 93,1,8,.pointer none⟩),
 (36,⟨.ptr 83,1,8,.pointer none⟩),
 (41,⟨.slice 9,1,24,.slice none 0 0⟩),
 (42,⟨.slice 74,1,24,.slice none 0 0⟩),
 (43,⟨.slice 72,1,24,.slice none 0 0⟩),
 (45,⟨.struct [(3,0,1),(30,1,1),(41,2,1),(42,3,1),(43,4,1)],5,104,.agg #[.int .i64 0,.slice none 0 0,.slice none 0 0,.slice none 0 0,.slice none 0 0]⟩),
 (47,⟨.struct [(9,0,1),(9,1,1),(4,2,1)],3,40,.agg #[.string ⟨⟨[]⟩⟩,.string ⟨⟨[]⟩⟩,.bool false]⟩),
 (48,⟨.func,1,8,.nilFunc⟩),
 (50,⟨.slice 113,1,24,.slice none 0 0⟩),
 (53,⟨.slice 5,1,24,.slice none 0 0⟩),
 (55,⟨.struct [(43,0,1),(42,1,1),(53,2,1),(53,3,1)],4,96,.agg #[.slice none 0 0,.slice none 0 0,.slice none 0 0,.slice none 0 0]⟩),
 (60,⟨.ptr 63,1,8,.pointer none⟩),
 (61,⟨.map 24 4,1,8,.map none⟩),
 (63,⟨.struct [(35,0,1),(61,1,1),(48,2,1),(4,3,1)],4,32,.agg #[.pointer none,.map none,.nilFunc,.bool false]⟩),
 (68,⟨.int .u64,1,8,.int .u64 0⟩),
 (72,⟨.struct [(9,0,1),(9,1,1)],2,32,.agg #[.string ⟨⟨[]⟩⟩,.string ⟨⟨[]⟩⟩]⟩),
 (74,⟨.struct [(9,0,1),(4,1,1),(9,2,1)],3,40,.agg #[.string ⟨⟨[]⟩⟩,.bool false,.string ⟨⟨[]⟩⟩]⟩),
 (79,⟨.int .u64,1,8,.int .u64 0⟩),
 (81,⟨.struct [(79,0,1),(79,1,1)],2,16,.agg #[.int .u64 0,.int .u64 0]⟩),
 (83,⟨.struct [(3,0,1),(53,1,1),(81,2,2)],4,48,.agg #[.int .i64 0,.slice none 0 0,.int .u64 0,.int .u64 0]⟩),
 (85,⟨.ptr 129,1,8,.pointer none⟩),
 (89,⟨.ptr 135,1,8,.pointer none⟩),
 (93,⟨.struct [(23,0,8),(36,8,1),(85,9,1),(89,10,1),(24,11,1)],12,96,.agg #[.int .i64 0,.int .i64 0,.int .i64 0,.int .i64 0,.int .i64 0,.int .i64 0,.int .i64 0,.int .i64 0,.pointer none,.pointer none,.pointer none,.int .u32 0]⟩),
 (102,⟨.int .i64,1,8,.int .i64 0⟩),
 (113,⟨.slice 45,1,24,.slice none 0 0⟩),
 (114,⟨.func,1,8,.nilFunc⟩),
 (117,⟨.func,1,8,.nilFunc⟩),
 (122,⟨.ptr 162,1,8,.pointer none⟩),
 (125,⟨.slice 170,1,24,.slice none 0 0⟩),
 (126,⟨.map 24 3,1,8,.map none⟩),
 (127,⟨.slice 3,1,24,.slice none 0 0⟩),
 (129,⟨.struct [(36,0,1),(125,1,1),(126,2,1),(127,3,1),(122,4,1)],5,72,.agg #[.pointer none,.slice none 0 0,.map none,.slice none 0 0,.pointer none]⟩),
 (130,⟨.ptr 167,1,8,.pointer none⟩),
 (135,⟨.struct [(130,0,1)],1,8,.agg #[.pointer none]⟩),
 (145,⟨.int .u64,1,8,.int .u64 0⟩),
 (149,⟨.ptr 3,1,8,.pointer none⟩),
 (160,⟨.slice 164,1,24,.slice none 0 0⟩),
 (162,⟨.struct [(160,0,1),(3,1,1)],2,32,.agg #[.slice none 0 0,.int .i64 0]⟩),
 (164,⟨.struct [(3,0,1),(3,1,1),(4,2,1)],3,24,.agg #[.int .i64 0,.int .i64 0,.bool false]⟩),
 (165,⟨.slice 79,1,24,.slice none 0 0⟩),
 (167,⟨.struct [(3,0,1),(3,1,1),(165,2,1)],3,40,.agg #[.int .i64 0,.int .i64 0,.slice none 0 0]⟩),
 (170,⟨.struct [(24,0,1),(53,1,1),(4,2,1),(3,3,1)],4,48,.agg #[.int .u32 0,.slice none 0 0,.bool false,.int .i64 0]⟩),
 (173,⟨.ptr 170,1,8,.pointer none⟩),
 (177,⟨.ptr 207,1,8,.pointer none⟩),
 (187,⟨.func,1,8,.nilFunc⟩),
 (191,⟨.func,1,8,.nilFunc⟩),
 (194,⟨.func,1,8,.nilFunc⟩),
 (196,⟨.ptr 145,1,8,.pointer none⟩),
 (202,⟨.func,1,8,.nilFunc⟩),
 (207,⟨.struct [(53,0,1),(27,1,1)],2,32,.agg #[.slice none 0 0,.int .i64 0]⟩),
 (210,⟨.func,1,8,.nilFunc⟩)]
theorem Yp:Yg prog tt:=by
 refine ttC ⟨_,_,_,Tryz.underlying1⟩ ?_;refine ttC Tryz.underlying2 ?_;refine ttC Tryz.underlying3 ?_;refine ttC Tryz.underlying4 ?_;refine ttC Tryz.underlying5 ?_;refine ttC Tryz.underlying6 ?_;refine ttC Tryz.underlying9 ?_;refine ttC Tryz.underlying10 ?_;refine ttC Tryz.underlying11 ?_;refine ttS Tryz.underlying23 ?_;refine ttC Tryz.underlying24 ?_;refine ttS Tryz.underlying26 ?_;refine ttC Tryz.underlying27 ?_;refine ttC Tryz.underlying30 ?_;refine ttC Tryz.underlying35 ?_;refine ttC Tryz.underlying36 ?_;refine ttC Tryz.underlying41 ?_;refine ttC Tryz.underlying42 ?_;refine ttC Tryz.underlying43 ?_;refine ttS Tryz.underlying45 ?_;refine ttS Tryz.underlying47 ?_;refine ttC ⟨_,_,_,Tryz.underlying48⟩ ?_;refine ttC Tryz.underlying50 ?_;refine ttC Tryz.underlying53 ?_;refine ttS Tryz.underlying55 ?_;refine ttC Tryz.underlying60 ?_;refine ttC Tryz.underlying61 ?_;refine ttS Tryz.underlying63 ?_;refine ttC Tryz.underlying68 ?_;refine ttS Tryz.underlying72 ?_;refine ttS Tryz.underlying74 ?_;refine ttC Tryz.underlying79 ?_;refine ttS Tryz.underlying81 ?_;refine ttS Tryz.underlying83 ?_;refine ttC Tryz.underlying85 ?_;refine ttC Tryz.underlying89 ?_;refine ttS Tryz.underlying93 ?_;refine ttC Tryz.underlying102 ?_;refine ttC Tryz.underlying113 ?_;refine ttC ⟨_,_,_,Tryz.underlying114⟩ ?_;refine ttC ⟨_,_,_,Tryz.underlying117⟩ ?_;refine ttC Tryz.underlying122 ?_;refine ttC Tryz.underlying125 ?_;refine ttC Tryz.underlying126 ?_;refine ttC Tryz.underlying127 ?_;refine ttS Tryz.underlying129 ?_;refine ttC Tryz.underlying130 ?_;refine ttS Tryz.underlying135 ?_;refine ttC Tryz.underlying145 ?_;refine ttC Tryz.underlying149 ?_;refine ttC Tryz.underlying160 ?_;refine ttS Tryz.underlying162 ?_;refine ttS Tryz.underlying164 ?_;refine ttC Tryz.underlying165 ?_;refine ttS Tryz.underlying167 ?_;refine ttS Tryz.underlying170 ?_;refine ttC Tryz.underlying173 ?_;refine ttC Tryz.underlying177 ?_;refine ttC ⟨_,_,_,Tryz.underlying187⟩ ?_;refine ttC ⟨_,_,_,Tryz.underlying191⟩ ?_;refine ttC ⟨_,_,_,Tryz.underlying194⟩ ?_;refine ttC Tryz.underlying196 ?_;refine ttC ⟨_,_,_,Tryz.underlying202⟩ ?_;refine ttS Tryz.underlying207 ?_;refine ttC ⟨_,_,_,Tryz.underlying210⟩ ?_;exact Zj0 _
theorem mix:prog.follows .mixedOrders=true:=by kernel_rfl
instance:TTI prog tt:=⟨Yp,mix⟩
abbrev X23 (b:Nat) (p0:Int) (p1:Int) (p2:Int) (p3:Int) (p4:Int) (p5:Int) (p6:Int) (p7:Int):Ch:=Yt b 23 [.int .i64 p0,.int .i64 p1,.int .i64 p2,.int .i64 p3,.int .i64 p4,.int .i64 p5,.int .i64 p6,.int .i64 p7]
abbrev X26 (b:Nat) (p0:Int) (p1:Int) (p2:Int) (p3:Int) (p4:Int):Ch:=Yt b 26 [.int .i64 p0,.int .i64 p1,.int .i64 p2,.int .i64 p3,.int .i64 p4]
abbrev X63 (b:Nat) (p0:Value) (p1:Value) (p2:Value) (p3:Bool):Ch:=Yt b 63 [p0,p1,p2,.bool p3]
abbrev X47 (b:Nat) (p0:TV) (p1:TV) (p2:Bool):Ch:=Yt b 47 [.string ⟨⟨p0⟩⟩,.string ⟨⟨p1⟩⟩,.bool p2]
abbrev X45 (b:Nat) (p0:Int) (p1:TZ) (A1:Option Addr) (c1:Nat) (p2:TO) (A2:Option Addr) (c2:Nat) (p3:Tv) (A3:Option Addr) (c3:Nat) (p4:TB) (A4:Option Addr) (c4:Nat):Ch:=Yt b 45 [.int .i64 p0,.slice A1 p1.length c1,.slice A2 p2.length c2,.slice A3 p3.length c3,.slice A4 p4.length c4]
abbrev X30 (b:Nat) (p0:TZ) (A0:Option Addr) (c0:Nat):Ch:=Yt b 30 [.slice A0 p0.length c0]
abbrev O24 (x:TZ) (A:Option Addr) (c:Nat):Ch:=Yd 24 (.int .u32) x (.slice A x.length c)
abbrev Zkd (x:TZ) (b1:Nat) (A1:Option Addr) (c1:Nat):List Ch:=[X30 b1 x A1 c1,O24 x A1 c1]
abbrev X3 (b:Nat) (p0:Int):Ch:=Yt b 3 [.int .i64 p0]
abbrev R24 (x:TZ) (A:Option Addr) (c:Nat):Ch:=rdC 24 (.int .u32) x (.slice A x.length c)
abbrev Zbi (b:Nat) (p0:Int):Ch:=Yt b 145 [.int .u64 p0]
abbrev X55 (b:Nat) (p0:TB) (A0:Option Addr) (c0:Nat) (p1:Tv) (A1:Option Addr) (c1:Nat) (p2:TZ) (A2:Option Addr) (c2:Nat) (p3:TZ) (A3:Option Addr) (c3:Nat):Ch:=Yt b 55 [.slice A0 p0.length c0,.slice A1 p1.length c1,.slice A2 p2.length c2,.slice A3 p3.length c3]
abbrev R72 (x:TB) (A:Option Addr) (c:Nat):Ch:=rdC 72 (.pair .str .str) x (.slice A x.length c)
abbrev R74 (x:Tv) (A:Option Addr) (c:Nat):Ch:=rdC 74 (.pair .str (.pair .bool .str)) x (.slice A x.length c)
abbrev R5 (x:TZ) (A:Option Addr) (c:Nat):Ch:=rdC 5 (.int .u8) x (.slice A x.length c)
abbrev O5 (x:TZ) (A:Option Addr) (c:Nat):Ch:=Yd 5 (.int .u8) x (.slice A x.length c)
abbrev X83 (b:Nat) (p0:Int) (p1:TZ) (A1:Option Addr) (c1:Nat) (p2:Int) (p3:Int):Ch:=Yt b 83 [.int .i64 p0,.slice A1 p1.length c1,.int .u64 p2,.int .u64 p3]
abbrev X93 (b:Nat) (p0:Int) (p1:Int) (p2:Int) (p3:Int) (p4:Int) (p5:Int) (p6:Int) (p7:Int) (p8:Value) (p9:Value) (p10:Value) (p11:Int):Ch:=Yt b 93 [.int .i64 p0,.int .i64 p1,.int .i64 p2,.int .i64 p3,.int .i64 p4,.int .i64 p5,.int .i64 p6,.int .i64 p7,p8,p9,p10,.int .u32 p11]
abbrev Xa (b:Nat) (p0:Value) (p1:Tx) (A1:Option Addr) (c1:Nat) (p2:Value) (p3:TZ) (A3:Option Addr) (c3:Nat) (p4:Value):Ch:=Yt b 129 [p0,.slice A1 p1.length c1,p2,.slice A3 p3.length c3,p4]
abbrev Y9 (x:Tx) (A:Option Addr) (c:Nat):Ch:=Yd 170 (.pair (.int .u32) (.pair (.slice 5 (.int .u8)) (.pair .bool (.int .i64)))) x (.slice A x.length c)
abbrev O3 (x:TZ) (A:Option Addr) (c:Nat):Ch:=Yd 3 (.int .i64) x (.slice A x.length c)
abbrev Ym (b:Nat) (p0:TJ) (A0:Option Addr) (c0:Nat) (p1:Int):Ch:=Yt b 162 [.slice A0 p0.length c0,.int .i64 p1]
abbrev Yn (x:TJ) (A:Option Addr) (c:Nat):Ch:=Yd 164 (.pair (.int .i64) (.pair (.int .i64) .bool)) x (.slice A x.length c)
abbrev W5 (b:Nat) (p0:Value):Ch:=Yt b 135 [p0]
abbrev Xo (b:Nat) (p0:Int) (p1:Int) (p2:TZ) (A2:Option Addr) (c2:Nat):Ch:=Yt b 167 [.int .i64 p0,.int .i64 p1,.slice A2 p2.length c2]
abbrev O79 (x:TZ) (A:Option Addr) (c:Nat):Ch:=Yd 79 (.int .u64) x (.slice A x.length c)
abbrev Bg (x:TF) (b1:Nat) (A1:Option Addr) (c1:Nat):List Ch:=[X83 b1 x.1 x.2.1 A1 c1 x.2.2.1 x.2.2.2,O5 x.2.1 A1 c1]
abbrev Wg (x:TN) (b1:Nat) (A1:Option Addr) (c1:Nat):List Ch:=[Xo b1 x.1 x.2.1 x.2.2 A1 c1,O79 x.2.2 A1 c1]
abbrev O72 (x:TB) (A:Option Addr) (c:Nat):Ch:=Yd 72 (.pair .str .str) x (.slice A x.length c)
abbrev M45 (x:Tm) (A:Option Addr) (c:Nat) (l:TW):Ch:=Xl 45 5 x.length l (.slice A x.length c)
abbrev O9 (x:TO) (A:Option Addr) (c:Nat):Ch:=Yd 9 .str x (.slice A x.length c)
abbrev E45 (x:Tm) (l:TW):Ch:=esC (.pair (.int .i64) (.pair (.slice 24 (.int .u32)) (.pair (.slice 9 .str) (.pair (.slice 74 (.pair .str (.pair .bool .str))) (.slice 72 (.pair .str .str)))))) x l
abbrev R45 (x:Tm) (A:Option Addr) (c:Nat):Ch:=rdC 45 (.pair (.int .i64) (.pair (.slice 24 (.int .u32)) (.pair (.slice 9 .str) (.pair (.slice 74 (.pair .str (.pair .bool .str))) (.slice 72 (.pair .str .str)))))) x (.slice A x.length c)
abbrev V3 (x:Tl) (A:Option Addr) (c:Nat) (l:List TW):Ch:=Wt 113 45 5 (Ys x) l (.slice A x.length c)
abbrev Vw (x:Tl) (l:List TW):Ch:=Jr (.pair (.int .i64) (.pair (.slice 24 (.int .u32)) (.pair (.slice 9 .str) (.pair (.slice 74 (.pair .str (.pair .bool .str))) (.slice 72 (.pair .str .str)))))) x l
abbrev R9 (x:TO) (A:Option Addr) (c:Nat):Ch:=rdC 9 .str x (.slice A x.length c)
abbrev O74 (x:Tv) (A:Option Addr) (c:Nat):Ch:=Yd 74 (.pair .str (.pair .bool .str)) x (.slice A x.length c)
abbrev X74 (b:Nat) (p0:TV) (p1:Bool) (p2:TV):Ch:=Yt b 74 [.string ⟨⟨p0⟩⟩,.bool p1,.string ⟨⟨p2⟩⟩]
abbrev W113 (x:Tl) (A:Option Addr) (c:Nat) (l:List TW) (i:Int) (A2:Option Addr) (c2:Nat):Ch:=Vg 113 45 5 (Ys x) l (.slice A x.length c) i (gt x i).length A2 c2
abbrev Zbb (x:Tl) (A:Option Addr) (c:Nat):Ch:=rdC 113 (.slice 45 (.pair (.int .i64) (.pair (.slice 24 (.int .u32)) (.pair (.slice 9 .str) (.pair (.slice 74 (.pair .str (.pair .bool .str))) (.slice 72 (.pair .str .str))))))) x (.slice A x.length c)
abbrev W1 (x:Tg) (b1 b2 b3 b4 b5 b6 b7:Nat) (A1 A2 A3 A4 A5:Option Addr) (c1 c2 c3 c4 c5:Nat):List Ch:=[X93 b1 x.1.1 x.1.2.1 x.1.2.2.1 x.1.2.2.2.1 x.1.2.2.2.2.1 x.1.2.2.2.2.2.1 x.1.2.2.2.2.2.2.1 x.1.2.2.2.2.2.2.2 (.pointer (some ⟨b3,0,none⟩)) (.pointer (some ⟨b2,0,none⟩)) (.pointer (some ⟨b6,0,none⟩)) x.2.2.2,Xa b2 (.pointer (some ⟨b3,0,none⟩)) x.2.1.2.1 A2 c2 (.map (some b4)) x.2.1.2.2.2.1 A3 c3 (.pointer (some ⟨b5,0,none⟩)),X83 b3 x.2.1.1.1 x.2.1.1.2.1 A1 c1 x.2.1.1.2.2.1 x.2.1.1.2.2.2,O5 x.2.1.1.2.1 A1 c1,Y9 x.2.1.2.1 A2 c2,Yq .u32 (Value.int .i64) b4 x.2.1.2.2.1,O3 x.2.1.2.2.2.1 A3 c3,Ym b5 x.2.1.2.2.2.2.1 A4 c4 x.2.1.2.2.2.2.2,Yn x.2.1.2.2.2.2.1 A4 c4,W5 b6 (.pointer (some ⟨b7,0,none⟩)),Xo b7 x.2.2.1.1 x.2.2.1.2.1 x.2.2.1.2.2 A5 c5,O79 x.2.2.1.2.2 A5 c5]
abbrev X72 (b:Nat) (p0:TV) (p1:TV):Ch:=Yt b 72 [.string ⟨⟨p0⟩⟩,.string ⟨⟨p1⟩⟩]
abbrev Jp (x:TL) (b1 b2:Nat) (A1:Option Addr) (c1:Nat):List Ch:=[W5 b1 (.pointer (some ⟨b2,0,none⟩)),Xo b2 x.1 x.2.1 x.2.2 A1 c1,O79 x.2.2 A1 c1]
abbrev W0 (x:Ti) (b1 b2 b3 b4:Nat) (A1 A2 A3 A4:Option Addr) (c1 c2 c3 c4:Nat):List Ch:=[Xa b1 (.pointer (some ⟨b2,0,none⟩)) x.2.1 A2 c2 (.map (some b3)) x.2.2.2.1 A3 c3 (.pointer (some ⟨b4,0,none⟩)),X83 b2 x.1.1 x.1.2.1 A1 c1 x.1.2.2.1 x.1.2.2.2,O5 x.1.2.1 A1 c1,Y9 x.2.1 A2 c2,Yq .u32 (Value.int .i64) b3 x.2.2.1,O3 x.2.2.2.1 A3 c3,Ym b4 x.2.2.2.2.1 A4 c4 x.2.2.2.2.2,Yn x.2.2.2.2.1 A4 c4]
abbrev Wi (x:TD) (b1:Nat) (A1:Option Addr) (c1:Nat):List Ch:=[Ym b1 x.1 A1 c1 x.2,Yn x.1 A1 c1]
abbrev Zcm (b:Nat) (p0:Int) (p1:Int) (p2:Bool):Ch:=Yt b 164 [.int .i64 p0,.int .i64 p1,.bool p2]
abbrev Zhh (b:Nat) (p0:Int) (p1:TZ) (A1:Option Addr) (c1:Nat) (p2:Bool) (p3:Int):Ch:=Yt b 170 [.int .u32 p0,.slice A1 p1.length c1,.bool p2,.int .i64 p3]
abbrev Xv (b:Nat) (p0:TZ) (A0:Option Addr) (c0:Nat) (p1:Int):Ch:=Yt b 207 [.slice A0 p0.length c0,.int .i64 p1]
def tzR:Go.Shelf.Ren:={ f:=fun _=>168,t:=fun n=>if n=3 then 3 else if n=4 then 4 else if n=5 then 5 else if n=22 then 79 else if n=25 then 68 else if n=54 then 226 else 0,g:=fun _=>1 }
theorem tzL:Go.Proofs.Lays7.n29 prog tzR where
 mixed:=mix
 f29:=by kernel_rfl
 t0:=by kernel_rfl
 a0:=fun _=>by kernel_rfl
 z0:=fun _=>by kernel_rfl
 v0:=fun _=>by kernel_rfl
 i0:=by kernel_rfl
 t3:=by kernel_rfl
 a3:=fun _=>by kernel_rfl
 z3:=fun _=>by kernel_rfl
 v3:=fun _=>by kernel_rfl
 i3:=by kernel_rfl
 t4:=by kernel_rfl
 a4:=fun _=>by kernel_rfl
 z4:=fun _=>by kernel_rfl
 v4:=fun _=>by kernel_rfl
 i4:=by kernel_rfl
 t5:=by kernel_rfl
 a5:=fun _=>by kernel_rfl
 z5:=fun _=>by kernel_rfl
 v5:=fun _=>by kernel_rfl
 i5:=by kernel_rfl
 t22:=by kernel_rfl
 a22:=fun _=>by kernel_rfl
 z22:=fun _=>by kernel_rfl
 v22:=fun _=>by kernel_rfl
 i22:=by kernel_rfl
 t25:=by kernel_rfl
 a25:=fun _=>by kernel_rfl
 z25:=fun _=>by kernel_rfl
 v25:=fun _=>by kernel_rfl
 i25:=by kernel_rfl
 t54:=by kernel_rfl
 a54:=fun _=>by kernel_rfl
 z54:=fun _=>by kernel_rfl
 g1:=by kernel_rfl
def tzI (x:Int):Int:=((Go.Lib.ctz 64 x.toNat:Nat):Int)
def tabC (g:Nat):Ch where
 ok w F:=F g/\Go.Proofs.TabAt g Go.Lib.deBruijn64tab w
 stable:=fun {w w' F} hs h=>⟨h.1,fun j hj=>by
  have:=h.2 j hj;unfold World.cell? at this ⊢;rw [hs g h.1];exact this⟩
theorem tz64.spec {x:Int} (h0:0<=x) (h1:x<18446744073709551616):Spec prog 168 [.int .u64 x] [] [tabC 1] (fun v l=>v=.int .i64 (tzI x)/\l=[]):=by
 refine ⟨⟨_,Tryz.func168,by kernel_rfl,by kernel_rfl⟩,fun w F hs hb hrd=>?_⟩;obtain ⟨n,rfl⟩:=Int.eq_ofNat_of_zero_le h0;obtain ⟨R,hR,_⟩:=hrd _ (List.mem_singleton.2 rfl);have:=Go.Proofs.Any7.bits_TrailingZeros64 tzL n (by omega) w (fun _=>hR.2);refine this.mono fun e w' ⟨he,hw⟩=>?_;subst hw;refine ⟨_,[],fun _=>False,he,⟨rfl,rfl⟩,Chg.refl _ _,?_,fun b h=>h.elim⟩;trivial

theorem Zmf:CmpStr prog 169:=CmpStr.of Tryz.func169 (by kernel_rfl) (by kernel_rfl) (by kernel_rfl) rfl
def Q59.f:Option (TE):=some ([],[],true)
theorem Q59.spec {r} (H:Q59.f=some r) :
  Spec prog 18 [] [] [] (fun v l=>v=.agg #[.string ⟨⟨r.1⟩⟩,.string ⟨⟨r.2.1⟩⟩,.bool r.2.2]/\l=[]):=by
 refine Zh Tryz.func18 fun w0 F0 h0=>?_;unfold Q59.f at H;refine Sa (T8 (rB (Z4 h0) fun b1 w1 h1=>?_));refine rFi [0] ?_;refine Sa (T8 (Zb 1 ?_));refine rS (Zp 0 h1) fun _ w2 h2=>?_;refine rFi [0] ?_;cases H;exact T9 (jR2 (Z6 (Sg Yp 0 h2 rfl rfl rfl rfl) Y0) ⟨rfl,rfl⟩ h2 [])

def Q144.f (a1:Int) (a3:TG):Option (Int):=(Q59.f).bind fun r1=>(some 1)
theorem Q144.spec {a1 a3 b1 r} (H:Q144.f a1 a3=some r) :
  Spec prog 9 [.pointer none,.int .u32 a1,.func (.func 10) #[] #[.pointer (some ⟨b1,0,none⟩)]] [X26 b1 a3.1 a3.2.1 a3.2.2.1 a3.2.2.2.1 a3.2.2.2.2] [] (fun v l=>v=.int .i64 r/\l=[X26 b1 a3.1 a3.2.1 a3.2.2.1 a3.2.2.2.1 a3.2.2.2.2]):=by
 refine Zh Tryz.func9 fun w0 F0 h0=>?_;unfold Q144.f at H;refine Sa (Za [0,1,2] ?_);refine Sa (T8 (Zb 1 ?_));refine rB (Wm .u32 Value.bool h0) fun b2 w1 h1=>?_;refine Zb 2 ?_;refine rB (Zy h1) fun b3 w2 h2=>?_;refine rFi [1,7] ?_;refine Sa (T8 (Zb 2 ?_));refine cS H [] h2 rfl Q59.spec Zj fun r1 w3 H h3=>?_;refine Z2 Tryz.func17 ?_;refine Sa (T8 (rB (Zy h3) fun b4 w4 h4=>?_));refine rFi [0,1,2,7] ?_;refine Sa (T8 (rRL 3 1 h4 ?_));refine Zb 1 ?_;refine Z2 Tryz.func33 ?_;refine Sa (T8 (rB (Z4 h4) fun b5 w5 h5=>?_));refine rFi [0,1,4] ?_;refine Sa (Sa (T8 (Zb 2 ?_)));refine Z2 Tryz.func60 ?_;refine Sa (Za [0,1] ?_);refine Sa (T2 (Sa (Za [0,1,5] ?_)));refine Zi ?_;refine Sa (Za [4] ?_);refine T9 (⟨_,Zf,?_⟩);refine rFi [0,1,4,6] ?_;refine Sa (Za [0,1,4,6,14] ?_);refine Zi ?_;refine Sa (T8 (Zb 2 ?_));refine rS (Zp 0 h5) fun _ w6 h6=>?_;refine rFi [4,5] ?_;refine T9 (⟨_,Ub rfl (Z6 (Sg Yp 0 h6 rfl rfl rfl rfl) (Z6 (Sh rfl) Y0)) rfl,?_⟩);refine Zb 3 ?_;refine rB (Z4 h6) fun b6 w7 h7=>?_;refine rS (Zp 0 h7) fun _ w8 h8=>?_;refine rFi [0,1,2,7,9,10] ?_;refine Sa (T2 (Sa (Za [0,1,2,7,9,10,25] ?_)));refine Zi ?_;refine Sa (Za [8] ?_);refine T9 (⟨_,Zf,?_⟩);refine rFi [6] ?_;have h9:=nO h8 [5];cases H;exact T9 (jR0 h9 [0])

def Q149.f (a1:Int):Option (TG×Int):=(Q144.f a1 (0,0,0,0,0)).bind fun r1=>(if (!decide (r1=0))=true then (some ((0,0,0,0,0),r1)) else (some ((0,0,0,0,0),0)))
theorem Q149.spec {a1 r} (H:Q149.f a1=some r) :
  Spec prog 4 [.pointer none,.int .u32 a1] [] [] (fun v l=>v=.tuple #[.agg #[.int .i64 r.1.1,.int .i64 r.1.2.1,.int .i64 r.1.2.2.1,.int .i64 r.1.2.2.2.1,.int .i64 r.1.2.2.2.2],.int .i64 r.2]/\l=[]):=by
 refine Zh Tryz.func4 fun w0 F0 h0=>?_;unfold Q149.f at H;refine Sa (T8 (rB (Z4 h0) fun b1 w1 h1=>?_));refine rFi [0,1,4] ?_;refine Sa (T8 (rB (Z4 h1) fun b2 w2 h2=>?_));refine rFi [0,1,4,6] ?_;refine Sa (T8 (Zb 3 ?_));refine cS H [0] h2 rfl Q144.spec Zj fun r1 w3 H h3=>?_;refine rFi [4,6,7] ?_;refine Sa (Sa (Za [4,6,7,13] ?_));refine jIf H (fun c1 H=>?_) fun c1 H=>?_
 ·refine Sa (T8 (Zb 2 ?_));refine rS (Zp 1 h3) fun _ w4 h4=>?_;refine rFi [4,5] ?_;cases H;exact T9 (jR2 (Z6 (Sg Yp 0 h4 rfl rfl rfl rfl) (Z6 (Sh rfl) Y0)) ⟨rfl,rfl⟩ h4 [])
 refine Sb (Sa (T8 (rLo 0 h3 ?_)));refine rS (Zp 1 h3) fun _ w5 h5=>?_;refine rFi [4,5] ?_;cases H;exact T9 (jR2 (Z6 (Sg Yp 0 h5 rfl rfl rfl rfl) (Z6 (Sh rfl) Y0)) ⟨rfl,rfl⟩ h5 [])

def Q143.f (a1:Int) (a3:TZ):Option (Int):=(Q59.f).bind fun r1=>(some 1)
theorem Q143.spec {a1 a3 b1 A1 c_1 r} (H:Q143.f a1 a3=some r) :
  Spec prog 9 [.pointer none,.int .u32 a1,.func (.func 11) #[] #[.pointer (some ⟨b1,0,none⟩)]] (Zkd a3 b1 A1 c_1) [] (fun v l=>v=.int .i64 r/\l=Zkd a3 b1 A1 c_1):=by
 refine eN Tryz.func9 fun w0 F0 h0=>?_;unfold Q143.f at H;refine Sa (Za [0,1,2] ?_);refine Sa (T8 (Zb 1 ?_));refine rB (Wm .u32 Value.bool h0) fun b2 w1 h1=>?_;refine Zb 2 ?_;refine rB (Zy h1) fun b3 w2 h2=>?_;refine rFi [1,7] ?_;refine Sa (T8 (Zb 2 ?_));refine cS H [] h2 rfl Q59.spec Zj fun r1 w3 H h3=>?_;refine Z2 Tryz.func17 ?_;refine Sa (T8 (rB (Zy h3) fun b4 w4 h4=>?_));refine rFi [0,1,2,7] ?_;refine Sa (T8 (rRL 3 1 h4 ?_));refine Zb 1 ?_;refine Z2 Tryz.func33 ?_;refine Sa (T8 (rB (Z4 h4) fun b5 w5 h5=>?_));refine rFi [0,1,4] ?_;refine Sa (Sa (T8 (Zb 2 ?_)));refine Z2 Tryz.func60 ?_;refine Sa (Za [0,1] ?_);refine Sa (T2 (Sa (Za [0,1,5] ?_)));refine Zi ?_;refine Sa (Za [4] ?_);refine T9 (⟨_,Zf,?_⟩);refine rFi [0,1,4,6] ?_;refine Sa (Za [0,1,4,6,14] ?_);refine Zi ?_;refine Sa (T8 (Zb 2 ?_));refine rS (Zp 0 h5) fun _ w6 h6=>?_;refine rFi [4,5] ?_;refine T9 (⟨_,Ub rfl (Z6 (Sg Yp 0 h6 rfl rfl rfl rfl) (Z6 (Sh rfl) Y0)) rfl,?_⟩);refine Zb 3 ?_;refine rB (Z4 h6) fun b6 w7 h7=>?_;refine rS (Zp 0 h7) fun _ w8 h8=>?_;refine rFi [0,1,2,7,9,10] ?_;refine Sa (T2 (Sa (Za [0,1,2,7,9,10,25] ?_)));refine Zi ?_;refine Sa (Za [8] ?_);refine T9 (⟨_,Zf,?_⟩);refine rFi [6] ?_;have h9:=nO h8 [5,5];cases H;exact T9 (jR0 h9 [0,0])

def tb0:List UInt8:=[0,1,2,2,3,3,3,3,4,4,4,4,4,4,4,4,5,5,5,5,5,5,5,5,5,5,5,5,5,5,5,5,6,6,6,6,6,6,6,6,6,6,6,6,6,6,6,6,6,6,6,6,6,6,6,6,6,6,6,6,6,6,6,6,7,7,7,7,7,7,7,7,7,7,7,7,7,7,7,7,7,7,7,7,7,7,7,7,7,7,7,7,7,7,7,7,7,7,7,7,7,7,7,7,7,7,7,7,7,7,7,7,7,7,7,7,7,7,7,7,7,7,7,7,7,7,7,7,8,8,8,8,8,8,8,8,8,8,8,8,8,8,8,8,8,8,8,8,8,8,8,8,8,8,8,8,8,8,8,8,8,8,8,8,8,8,8,8,8,8,8,8,8,8,8,8,8,8,8,8,8,8,8,8,8,8,8,8,8,8,8,8,8,8,8,8,8,8,8,8,8,8,8,8,8,8,8,8,8,8,8,8,8,8,8,8,8,8,8,8,8,8,8,8,8,8,8,8,8,8,8,8,8,8,8,8,8,8,8,8,8,8,8,8,8,8,8,8,8,8,8,8,8,8,8,8]
def Q1.f (a0:Int):Option (Int):=if (decide (4294967296<=a0))=true then (if (decide (65536<=(Int.fdiv a0 (2 ^ 32))))=true then (if (decide (256<=(Int.fdiv (Int.fdiv a0 (2 ^ 32)) (2 ^ 16))))=true then (if 0<=(uA.wrap ((Int.fdiv (Int.fdiv (Int.fdiv a0 (2 ^ 32)) (2 ^ 16)) (2 ^ 8))))/\(uA.wrap ((Int.fdiv (Int.fdiv (Int.fdiv a0 (2 ^ 32)) (2 ^ 16)) (2 ^ 8))))<(tb0.length:Int) then (some (w64 (56+(w64 ((gtb [0,1,2,2,3,3,3,3,4,4,4,4,4,4,4,4,5,5,5,5,5,5,5,5,5,5,5,5,5,5,5,5,6,6,6,6,6,6,6,6,6,6,6,6,6,6,6,6,6,6,6,6,6,6,6,6,6,6,6,6,6,6,6,6,7,7,7,7,7,7,7,7,7,7,7,7,7,7,7,7,7,7,7,7,7,7,7,7,7,7,7,7,7,7,7,7,7,7,7,7,7,7,7,7,7,7,7,7,7,7,7,7,7,7,7,7,7,7,7,7,7,7,7,7,7,7,7,7,8,8,8,8,8,8,8,8,8,8,8,8,8,8,8,8,8,8,8,8,8,8,8,8,8,8,8,8,8,8,8,8,8,8,8,8,8,8,8,8,8,8,8,8,8,8,8,8,8,8,8,8,8,8,8,8,8,8,8,8,8,8,8,8,8,8,8,8,8,8,8,8,8,8,8,8,8,8,8,8,8,8,8,8,8,8,8,8,8,8,8,8,8,8,8,8,8,8,8,8,8,8,8,8,8,8,8,8,8,8,8,8,8,8,8,8,8,8,8,8,8,8,8,8,8,8,8,8] (uA.wrap ((Int.fdiv (Int.fdiv (Int.fdiv a0 (2 ^ 32)) (2 ^ 16)) (2 ^ 8)))))))))) else none) else (if 0<=(uA.wrap ((Int.fdiv (Int.fdiv a0 (2 ^ 32)) (2 ^ 16))))/\(uA.wrap ((Int.fdiv (Int.fdiv a0 (2 ^ 32)) (2 ^ 16))))<(tb0.length:Int) then (some (w64 (48+(w64 ((gtb [0,1,2,2,3,3,3,3,4,4,4,4,4,4,4,4,5,5,5,5,5,5,5,5,5,5,5,5,5,5,5,5,6,6,6,6,6,6,6,6,6,6,6,6,6,6,6,6,6,6,6,6,6,6,6,6,6,6,6,6,6,6,6,6,7,7,7,7,7,7,7,7,7,7,7,7,7,7,7,7,7,7,7,7,7,7,7,7,7,7,7,7,7,7,7,7,7,7,7,7,7,7,7,7,7,7,7,7,7,7,7,7,7,7,7,7,7,7,7,7,7,7,7,7,7,7,7,7,8,8,8,8,8,8,8,8,8,8,8,8,8,8,8,8,8,8,8,8,8,8,8,8,8,8,8,8,8,8,8,8,8,8,8,8,8,8,8,8,8,8,8,8,8,8,8,8,8,8,8,8,8,8,8,8,8,8,8,8,8,8,8,8,8,8,8,8,8,8,8,8,8,8,8,8,8,8,8,8,8,8,8,8,8,8,8,8,8,8,8,8,8,8,8,8,8,8,8,8,8,8,8,8,8,8,8,8,8,8,8,8,8,8,8,8,8,8,8,8,8,8,8,8,8,8,8,8] (uA.wrap ((Int.fdiv (Int.fdiv a0 (2 ^ 32)) (2 ^ 16)))))))))) else none)) else (if (decide (256<=(Int.fdiv a0 (2 ^ 32))))=true then (if 0<=(uA.wrap ((Int.fdiv (Int.fdiv a0 (2 ^ 32)) (2 ^ 8))))/\(uA.wrap ((Int.fdiv (Int.fdiv a0 (2 ^ 32)) (2 ^ 8))))<(tb0.length:Int) then (some (w64 (40+(w64 ((gtb [0,1,2,2,3,3,3,3,4,4,4,4,4,4,4,4,5,5,5,5,5,5,5,5,5,5,5,5,5,5,5,5,6,6,6,6,6,6,6,6,6,6,6,6,6,6,6,6,6,6,6,6,6,6,6,6,6,6,6,6,6,6,6,6,7,7,7,7,7,7,7,7,7,7,7,7,7,7,7,7,7,7,7,7,7,7,7,7,7,7,7,7,7,7,7,7,7,7,7,7,7,7,7,7,7,7,7,7,7,7,7,7,7,7,7,7,7,7,7,7,7,7,7,7,7,7,7,7,8,8,8,8,8,8,8,8,8,8,8,8,8,8,8,8,8,8,8,8,8,8,8,8,8,8,8,8,8,8,8,8,8,8,8,8,8,8,8,8,8,8,8,8,8,8,8,8,8,8,8,8,8,8,8,8,8,8,8,8,8,8,8,8,8,8,8,8,8,8,8,8,8,8,8,8,8,8,8,8,8,8,8,8,8,8,8,8,8,8,8,8,8,8,8,8,8,8,8,8,8,8,8,8,8,8,8,8,8,8,8,8,8,8,8,8,8,8,8,8,8,8,8,8,8,8,8,8] (uA.wrap ((Int.fdiv (Int.fdiv a0 (2 ^ 32)) (2 ^ 8)))))))))) else none) else (if 0<=(uA.wrap ((Int.fdiv a0 (2 ^ 32))))/\(uA.wrap ((Int.fdiv a0 (2 ^ 32))))<(tb0.length:Int) then (some (w64 (32+(w64 ((gtb [0,1,2,2,3,3,3,3,4,4,4,4,4,4,4,4,5,5,5,5,5,5,5,5,5,5,5,5,5,5,5,5,6,6,6,6,6,6,6,6,6,6,6,6,6,6,6,6,6,6,6,6,6,6,6,6,6,6,6,6,6,6,6,6,7,7,7,7,7,7,7,7,7,7,7,7,7,7,7,7,7,7,7,7,7,7,7,7,7,7,7,7,7,7,7,7,7,7,7,7,7,7,7,7,7,7,7,7,7,7,7,7,7,7,7,7,7,7,7,7,7,7,7,7,7,7,7,7,8,8,8,8,8,8,8,8,8,8,8,8,8,8,8,8,8,8,8,8,8,8,8,8,8,8,8,8,8,8,8,8,8,8,8,8,8,8,8,8,8,8,8,8,8,8,8,8,8,8,8,8,8,8,8,8,8,8,8,8,8,8,8,8,8,8,8,8,8,8,8,8,8,8,8,8,8,8,8,8,8,8,8,8,8,8,8,8,8,8,8,8,8,8,8,8,8,8,8,8,8,8,8,8,8,8,8,8,8,8,8,8,8,8,8,8,8,8,8,8,8,8,8,8,8,8,8,8] (uA.wrap ((Int.fdiv a0 (2 ^ 32)))))))))) else none))) else (if (decide (65536<=a0))=true then (if (decide (256<=(Int.fdiv a0 (2 ^ 16))))=true then (if 0<=(uA.wrap ((Int.fdiv (Int.fdiv a0 (2 ^ 16)) (2 ^ 8))))/\(uA.wrap ((Int.fdiv (Int.fdiv a0 (2 ^ 16)) (2 ^ 8))))<(tb0.length:Int) then (some (w64 (24+(w64 ((gtb [0,1,2,2,3,3,3,3,4,4,4,4,4,4,4,4,5,5,5,5,5,5,5,5,5,5,5,5,5,5,5,5,6,6,6,6,6,6,6,6,6,6,6,6,6,6,6,6,6,6,6,6,6,6,6,6,6,6,6,6,6,6,6,6,7,7,7,7,7,7,7,7,7,7,7,7,7,7,7,7,7,7,7,7,7,7,7,7,7,7,7,7,7,7,7,7,7,7,7,7,7,7,7,7,7,7,7,7,7,7,7,7,7,7,7,7,7,7,7,7,7,7,7,7,7,7,7,7,8,8,8,8,8,8,8,8,8,8,8,8,8,8,8,8,8,8,8,8,8,8,8,8,8,8,8,8,8,8,8,8,8,8,8,8,8,8,8,8,8,8,8,8,8,8,8,8,8,8,8,8,8,8,8,8,8,8,8,8,8,8,8,8,8,8,8,8,8,8,8,8,8,8,8,8,8,8,8,8,8,8,8,8,8,8,8,8,8,8,8,8,8,8,8,8,8,8,8,8,8,8,8,8,8,8,8,8,8,8,8,8,8,8,8,8,8,8,8,8,8,8,8,8,8,8,8,8] (uA.wrap ((Int.fdiv (Int.fdiv a0 (2 ^ 16)) (2 ^ 8)))))))))) else none) else (if 0<=(uA.wrap ((Int.fdiv a0 (2 ^ 16))))/\(uA.wrap ((Int.fdiv a0 (2 ^ 16))))<(tb0.length:Int) then (some (w64 (16+(w64 ((gtb [0,1,2,2,3,3,3,3,4,4,4,4,4,4,4,4,5,5,5,5,5,5,5,5,5,5,5,5,5,5,5,5,6,6,6,6,6,6,6,6,6,6,6,6,6,6,6,6,6,6,6,6,6,6,6,6,6,6,6,6,6,6,6,6,7,7,7,7,7,7,7,7,7,7,7,7,7,7,7,7,7,7,7,7,7,7,7,7,7,7,7,7,7,7,7,7,7,7,7,7,7,7,7,7,7,7,7,7,7,7,7,7,7,7,7,7,7,7,7,7,7,7,7,7,7,7,7,7,8,8,8,8,8,8,8,8,8,8,8,8,8,8,8,8,8,8,8,8,8,8,8,8,8,8,8,8,8,8,8,8,8,8,8,8,8,8,8,8,8,8,8,8,8,8,8,8,8,8,8,8,8,8,8,8,8,8,8,8,8,8,8,8,8,8,8,8,8,8,8,8,8,8,8,8,8,8,8,8,8,8,8,8,8,8,8,8,8,8,8,8,8,8,8,8,8,8,8,8,8,8,8,8,8,8,8,8,8,8,8,8,8,8,8,8,8,8,8,8,8,8,8,8,8,8,8,8] (uA.wrap ((Int.fdiv a0 (2 ^ 16)))))))))) else none)) else (if (decide (256<=a0))=true then (if 0<=(uA.wrap ((Int.fdiv a0 (2 ^ 8))))/\(uA.wrap ((Int.fdiv a0 (2 ^ 8))))<(tb0.length:Int) then (some (w64 (8+(w64 ((gtb [0,1,2,2,3,3,3,3,4,4,4,4,4,4,4,4,5,5,5,5,5,5,5,5,5,5,5,5,5,5,5,5,6,6,6,6,6,6,6,6,6,6,6,6,6,6,6,6,6,6,6,6,6,6,6,6,6,6,6,6,6,6,6,6,7,7,7,7,7,7,7,7,7,7,7,7,7,7,7,7,7,7,7,7,7,7,7,7,7,7,7,7,7,7,7,7,7,7,7,7,7,7,7,7,7,7,7,7,7,7,7,7,7,7,7,7,7,7,7,7,7,7,7,7,7,7,7,7,8,8,8,8,8,8,8,8,8,8,8,8,8,8,8,8,8,8,8,8,8,8,8,8,8,8,8,8,8,8,8,8,8,8,8,8,8,8,8,8,8,8,8,8,8,8,8,8,8,8,8,8,8,8,8,8,8,8,8,8,8,8,8,8,8,8,8,8,8,8,8,8,8,8,8,8,8,8,8,8,8,8,8,8,8,8,8,8,8,8,8,8,8,8,8,8,8,8,8,8,8,8,8,8,8,8,8,8,8,8,8,8,8,8,8,8,8,8,8,8,8,8,8,8,8,8,8,8] (uA.wrap ((Int.fdiv a0 (2 ^ 8)))))))))) else none) else (if 0<=(uA.wrap (a0))/\(uA.wrap (a0))<(tb0.length:Int) then (some (w64 (0+(w64 ((gtb [0,1,2,2,3,3,3,3,4,4,4,4,4,4,4,4,5,5,5,5,5,5,5,5,5,5,5,5,5,5,5,5,6,6,6,6,6,6,6,6,6,6,6,6,6,6,6,6,6,6,6,6,6,6,6,6,6,6,6,6,6,6,6,6,7,7,7,7,7,7,7,7,7,7,7,7,7,7,7,7,7,7,7,7,7,7,7,7,7,7,7,7,7,7,7,7,7,7,7,7,7,7,7,7,7,7,7,7,7,7,7,7,7,7,7,7,7,7,7,7,7,7,7,7,7,7,7,7,8,8,8,8,8,8,8,8,8,8,8,8,8,8,8,8,8,8,8,8,8,8,8,8,8,8,8,8,8,8,8,8,8,8,8,8,8,8,8,8,8,8,8,8,8,8,8,8,8,8,8,8,8,8,8,8,8,8,8,8,8,8,8,8,8,8,8,8,8,8,8,8,8,8,8,8,8,8,8,8,8,8,8,8,8,8,8,8,8,8,8,8,8,8,8,8,8,8,8,8,8,8,8,8,8,8,8,8,8,8,8,8,8,8,8,8,8,8,8,8,8,8,8,8,8,8,8,8] (uA.wrap (a0)))))))) else none)))
theorem Q1.spec {a0 r} (H:Q1.f a0=some r) :
  Spec prog 48 [.int .u64 a0] [] [] (fun v l=>v=.int .i64 r/\l=[]):=by
 refine Zh Tryz.func48 fun w0 F0 h0=>?_;unfold Q1.f at H;refine Sa (Za [0,2] ?_);refine Sa (Sa (Za [0,2,4] ?_));refine jIf H (fun c1 H=>?_) fun c1 H=>?_
 ·refine Sa (Za [0] ?_);refine Za [0,2] ?_;refine Sa (Sa (Za [0,2,8] ?_));refine jIf H (fun c2 H=>?_) fun c2 H=>?_
  ·refine Sa (Za [0,2] ?_);refine Za [0,2] ?_;refine Sa (Sa (Za [0,2,14] ?_));refine jIf H (fun c3 H=>?_) fun c3 H=>?_
   ·refine Sa (Za [0,2] ?_);refine Za [0,2] ?_;refine Sa (T8 (Zb 3 ?_));obtain ⟨⟨p1,p2⟩,H⟩:=Zn H;refine Zk (Xf p1 p2) ?_;refine rFi [2] ?_;cases H;exact T9 (jR0 h0 [])
   refine Sb (Sa (T8 (Zb 3 ?_)));obtain ⟨⟨p3,p4⟩,H⟩:=Zn H;refine Zk (Xf p3 p4) ?_;refine rFi [2] ?_;cases H;exact T9 (jR0 h0 [])
  refine Sb (Sa (Sa (Za [0,2,14] ?_)));refine jIf H (fun c4 H=>?_) fun c4 H=>?_
  ·refine Sa (Za [0,2] ?_);refine Za [0,2] ?_;refine Sa (T8 (Zb 3 ?_));obtain ⟨⟨p5,p6⟩,H⟩:=Zn H;refine Zk (Xf p5 p6) ?_;refine rFi [2] ?_;cases H;exact T9 (jR0 h0 [])
  refine Sb (Sa (T8 (Zb 3 ?_)));obtain ⟨⟨p7,p8⟩,H⟩:=Zn H;refine Zk (Xf p7 p8) ?_;refine rFi [2] ?_;cases H;exact T9 (jR0 h0 [])
 refine Sb (Sa (Sa (Za [0,2,8] ?_)));refine jIf H (fun c5 H=>?_) fun c5 H=>?_
 ·refine Sa (Za [0,2] ?_);refine Za [0,2] ?_;refine Sa (Sa (Za [0,2,14] ?_));refine jIf H (fun c6 H=>?_) fun c6 H=>?_
  ·refine Sa (Za [0,2] ?_);refine Za [0,2] ?_;refine Sa (T8 (Zb 3 ?_));obtain ⟨⟨p9,p10⟩,H⟩:=Zn H;refine Zk (Xf p9 p10) ?_;refine rFi [2] ?_;cases H;exact T9 (jR0 h0 [])
  refine Sb (Sa (T8 (Zb 3 ?_)));obtain ⟨⟨p11,p12⟩,H⟩:=Zn H;refine Zk (Xf p11 p12) ?_;refine rFi [2] ?_;cases H;exact T9 (jR0 h0 [])
 refine Sb (Sa (Sa (Za [0,2,14] ?_)));refine jIf H (fun c7 H=>?_) fun c7 H=>?_
 ·refine Sa (Za [0,2] ?_);refine Za [0,2] ?_;refine Sa (T8 (Zb 3 ?_));obtain ⟨⟨p13,p14⟩,H⟩:=Zn H;refine Zk (Xf p13 p14) ?_;refine rFi [2] ?_;cases H;exact T9 (jR0 h0 [])
 refine Sb (Sa (T8 (Zb 3 ?_)));obtain ⟨⟨p15,p16⟩,H⟩:=Zn H;refine Zk (Xf p15 p16) ?_;refine rFi [2] ?_;cases H;exact T9 (jR0 h0 [])

def Q0.f (a0:Int):Option (Int):=(Q1.f a0).bind fun r1=>(some r1)
theorem Q0.spec {a0 r} (H:Q0.f a0=some r) :
  Spec prog 20 [.int .u64 a0] [] [] (fun v l=>v=.int .i64 r/\l=[]):=by
 refine Zh Tryz.func20 fun w0 F0 h0=>?_;unfold Q0.f at H;refine Sa (Za [0] ?_);refine Sa (Zx ?_);refine Sb (Sa (T8 (Zb 1 ?_)));refine cS H [] h0 rfl Q1.spec Zj fun r1 w1 H h1=>?_;refine rFi [2] ?_;cases H;exact T9 (jR0 h1 [])

def Q33.f (a0:Int):Option (Bool):=some (!decide (a0=a0))
theorem Q33.spec {a0 r} (H:Q33.f a0=some r) :
  Spec prog 77 [.int .u32 a0] [] [] (fun v l=>v=.bool r/\l=[]):=by
 refine Zh Tryz.func77 fun w0 F0 h0=>?_;unfold Q33.f at H;refine Sa (Za [0] ?_);refine Sa (Za [2] ?_);cases H;exact T9 (jR0 h0 [])

def Q32.f (a0:Int) (a1:Int):Option (Bool):=(Q33.f a0).bind fun r1=>(if r1=true then ((Q33.f a1).bind fun r2=>(if (!r2)=true then (some true) else (some (decide (a0<a1))))) else (some (decide (a0<a1))))
theorem Q32.spec {a0 a1 r} (H:Q32.f a0 a1=some r) :
  Spec prog 44 [.int .u32 a0,.int .u32 a1] [] [] (fun v l=>v=.bool r/\l=[]):=by
 refine Zh Tryz.func44 fun w0 F0 h0=>?_;unfold Q32.f at H;refine Sa (Za [0,1] ?_);refine Sa (T8 (Zb 1 ?_));refine cS H [] h0 rfl Q33.spec Zj fun r1 w1 H h1=>?_;refine Zb 1 ?_;refine Z1 7 H (fun c1 H=>?_) fun c1 H=>?_
 ·refine Zb 1 ?_;refine cS H [] h1 rfl Q33.spec Zj fun r2 w2 H h2=>?_;refine Zb 3 ?_;refine Z1 12 H (fun c2 H=>?_) fun c2 H=>?_
  ·refine rFi [4] ?_;cases H;exact T9 (jR0 h2 [])
  refine rFi [4] ?_;cases H;exact T9 (jR0 h2 [])
 refine rFi [4] ?_;cases H;exact T9 (jR0 h1 [])

mutual
def Q107.l0:Nat->(Int)->(Int)->TZ->(Int)->Option TZ
 | 0,_,_,_,_=>none
 | k+1,a1,a2,x1,x2=>if (decide (x2<a2))=true then (Q107.l1 k a1 a2 x2 x1 x2) else (some x1)
def Q107.l1:Nat->(Int)->(Int)->(Int)->TZ->(Int)->Option TZ
 | 0,_,_,_,_,_=>none
 | k+1,a1,a2,x2,x3,x4=>if (decide (a1<x4))=true then (if 0<=x4/\x4<(x3.length:Int) then (if 0<=(w64 (x4 - 1))/\(w64 (x4 - 1))<(x3.length:Int) then ((Q32.f (gt x3 x4) (gt x3 (w64 (x4 - 1)))).bind fun r1=>(if r1=true then (Q107.l1 k a1 a2 x2 ((x3.set x4.toNat (gt x3 (w64 (x4 - 1)))).set (w64 (x4 - 1)).toNat (gt x3 x4)) (w64 (x4 - 1))) else (Q107.l0 k a1 a2 x3 (w64 (x2+1))))) else none) else none) else (Q107.l0 k a1 a2 x3 (w64 (x2+1)))
end
def Q107.f (k:Nat) (a0:TZ) (a1:Int) (a2:Int):Option TZ:=Q107.l0 k a1 a2 a0 (w64 (a1+1))
theorem Q107.spec {k a0 a1 a2 A1 c_1 r} (H:Q107.f k a0 a1 a2=some r) :
  Spec prog 38 [.slice A1 a0.length c_1,.int .i64 a1,.int .i64 a2] [O24 a0 A1 c_1] [] (fun v l=>v=.tuple #[]/\l=[O24 r A1 c_1]/\r.length=a0.length):=by
 refine Zh Tryz.func38 fun w0 F0 h0=>?_;unfold Q107.f at H;refine Sa (Za [0,1,2,6] ?_);refine T2 ?_;have h12:=(sOR h0 [0] []);refine T6 (fun kk env w=>∃ x1 x2,Q107.l0 kk a1 a2 x1 x2=some r/\env=[(0,.slice A1 x1.length c_1),(1,.int .i64 a1),(2,.int .i64 a2),(6,.int .i64 x2)]/\St w0 F0 [O24 x1 A1 c_1] [] w/\x1.length=a0.length) (k:=k) ⟨_,_,H,rfl,h12,(rfl:a0.length=a0.length)⟩ ?_;rintro k1 env w1 ⟨x1,x2,H,rfl,h1,e1⟩;rcases k1 with _ | k1
 ·exact z0 H
 rw [Q107.l0] at H;refine Sa (Sa (Za [0,1,2,6,12] ?_));refine jIf H (fun c1 H=>?_) fun c1 H=>?_
 ·refine Sb (Sa (T2 (Sa (Za [0,1,2,6,7] ?_))));refine T2 ?_;have h11:=(sOR h1 [0] []);refine T6 (fun kk env w=>∃ x3 x4,Q107.l1 kk a1 a2 x2 x3 x4=some r/\env=[(0,.slice A1 x3.length c_1),(1,.int .i64 a1),(2,.int .i64 a2),(6,.int .i64 x2),(7,.int .i64 x4)]/\St w0 F0 [O24 x3 A1 c_1] [] w/\kk<=k1/\x3.length=a0.length) (k:=k1) ⟨_,_,H,rfl,h11,Sc _,e1⟩ ?_;rintro k2 env w2 ⟨x3,x4,H,rfl,h2,hk2,e2⟩;rcases k2 with _ | k2
  ·exact z0 H
  rw [Q107.l1] at H;refine Sa (Sa (jH h2 fun h3=>?_));refine Zr [0,1,2,3] ?_;refine Xu 19 H (fun c2 H=>?_) fun c2 H=>?_
  ·refine Zr [4,5,8,9,10] ?_;refine hI 6 H h3 (gO 0) fun p1 p2 e3 H=>?_;refine Zd 7 rfl (Zc 0 wI (gO 0) p1 p2) ?_;refine hX 11 H e3 fun p3 p4 H=>?_;refine Zd 12 rfl (Zc 0 wI (gO 0) p3 p4) ?_;refine cSJ 13 rfl H [] h3 rfl Q32.spec Zj 0 fun r1 w3 H h4=>?_;refine hRF [14] [0,1,2,6,7,30] ?_;refine jIf H (fun c3 H=>?_) fun c3 H=>?_
   ·refine Sb (Sa (T2 (Zt (sO h4 []) ?_)));have h5:=h4.drew;refine Zr [0,1,2,3,4,5,6,7,10,11] ?_;refine Zd 8 rfl (Zl e3 p3 p4) ?_;refine Zd 12 rfl (Zl e3 p1 p2) ?_;refine T0 (Yr 9 rfl (Zc 0 h5.wht (gO 0) p3 p4) (Yr 13 rfl (Zc 0 h5.wht (gO 0) p1 p2) Wp)) ?_;refine Zd 14 rfl (Zl e3 p1 p2) ?_;refine hS 15 rfl (Zo 0 (.int .u32) x4 (gt x3 (w64 (x4 - 1))) 0 h5 rfl p1 p2) 1 fun _ w4 h6=>?_;have e4:(x3.set x4.toNat (gt x3 (w64 (x4 - 1)))).length=a0.length:=length_set.trans e2;refine Zd 16 rfl (Zl e3 p3 p4) ?_;refine hS 17 rfl (Zo 0 (.int .u32) (w64 (x4 - 1)) (gt x3 x4) 0 h6 rfl p3 (by simpa only [length_set] using p4)) 1 fun _ w5 h7=>?_;have e5:((x3.set x4.toNat (gt x3 (w64 (x4 - 1)))).set (w64 (x4 - 1)).toNat (gt x3 x4)).length=a0.length:=length_set.trans e4;refine Yy [0,1,2,6,7] ?_;refine T4 (env':=[(0,.slice A1 ((x3.set x4.toNat (gt x3 (w64 (x4 - 1)))).set (w64 (x4 - 1)).toNat (gt x3 x4)).length c_1),(1,.int .i64 a1),(2,.int .i64 a2),(6,.int .i64 x2),(7,.int .i64 x4)]) (by simp only [length_set,length_nil] <;> rfl) ?_;refine Za [0,1,2,6,7] ?_;have h8:=(sOR h7 [0] []);exact ⟨k2,by omega,_,_,H,rfl,h8,by omega,e5⟩
   refine T5 (Za [0,1,2,6] ?_);have h9:=(sOR h4 [0] []);exact ⟨k2,by omega,_,_,H,rfl,h9,e2⟩
  refine hRF [4,5,6,7,8,9,10,11,12,13,14] [0,1,2,6,7,30] ?_;refine Zx ?_;refine T5 (Za [0,1,2,6] ?_);have h10:=(sOR h3 [0] []);exact ⟨k2,by omega,_,_,H,rfl,h10,e2⟩
 refine T5 ?_;cases H;exact ⟨_,_,_,Zf,⟨rfl,rfl,e1⟩,sO h1 [0]⟩

def Q117.l0:Nat->(Int)->(Int)->TZ->(Int)->Option TZ
 | 0,_,_,_,_=>none
 | k+1,a2,a3,x1,x2=>if (decide (a2<=(w64 ((w64 (2*x2))+1))))=true then (some x1) else (if (decide ((w64 ((w64 ((w64 (2*x2))+1))+1))<a2))=true then (if 0<=(w64 (a3+(w64 ((w64 (2*x2))+1))))/\(w64 (a3+(w64 ((w64 (2*x2))+1))))<(x1.length:Int) then (if 0<=(w64 ((w64 (a3+(w64 ((w64 (2*x2))+1))))+1))/\(w64 ((w64 (a3+(w64 ((w64 (2*x2))+1))))+1))<(x1.length:Int) then ((Q32.f (gt x1 (w64 (a3+(w64 ((w64 (2*x2))+1))))) (gt x1 (w64 ((w64 (a3+(w64 ((w64 (2*x2))+1))))+1)))).bind fun r1=>(if r1=true then (if 0<=(w64 (a3+x2))/\(w64 (a3+x2))<(x1.length:Int) then (if 0<=(w64 (a3+(w64 ((w64 ((w64 (2*x2))+1))+1))))/\(w64 (a3+(w64 ((w64 ((w64 (2*x2))+1))+1))))<(x1.length:Int) then ((Q32.f (gt x1 (w64 (a3+x2))) (gt x1 (w64 (a3+(w64 ((w64 ((w64 (2*x2))+1))+1)))))).bind fun r2=>(if (!r2)=true then (some x1) else (Q117.l0 k a2 a3 ((x1.set (w64 (a3+x2)).toNat (gt x1 (w64 (a3+(w64 ((w64 ((w64 (2*x2))+1))+1)))))).set (w64 (a3+(w64 ((w64 ((w64 (2*x2))+1))+1)))).toNat (gt x1 (w64 (a3+x2)))) (w64 ((w64 ((w64 (2*x2))+1))+1))))) else none) else none) else (if 0<=(w64 (a3+x2))/\(w64 (a3+x2))<(x1.length:Int) then ((Q32.f (gt x1 (w64 (a3+x2))) (gt x1 (w64 (a3+(w64 ((w64 (2*x2))+1)))))).bind fun r3=>(if (!r3)=true then (some x1) else (Q117.l0 k a2 a3 ((x1.set (w64 (a3+x2)).toNat (gt x1 (w64 (a3+(w64 ((w64 (2*x2))+1)))))).set (w64 (a3+(w64 ((w64 (2*x2))+1)))).toNat (gt x1 (w64 (a3+x2)))) (w64 ((w64 (2*x2))+1))))) else none))) else none) else none) else (if 0<=(w64 (a3+x2))/\(w64 (a3+x2))<(x1.length:Int) then (if 0<=(w64 (a3+(w64 ((w64 (2*x2))+1))))/\(w64 (a3+(w64 ((w64 (2*x2))+1))))<(x1.length:Int) then ((Q32.f (gt x1 (w64 (a3+x2))) (gt x1 (w64 (a3+(w64 ((w64 (2*x2))+1)))))).bind fun r4=>(if (!r4)=true then (some x1) else (Q117.l0 k a2 a3 ((x1.set (w64 (a3+x2)).toNat (gt x1 (w64 (a3+(w64 ((w64 (2*x2))+1)))))).set (w64 (a3+(w64 ((w64 (2*x2))+1)))).toNat (gt x1 (w64 (a3+x2)))) (w64 ((w64 (2*x2))+1))))) else none) else none))
def Q117.f (k:Nat) (a0:TZ) (a1:Int) (a2:Int) (a3:Int):Option TZ:=Q117.l0 k a2 a3 a0 a1
theorem Q117.spec {k a0 a1 a2 a3 A1 c_1 r} (H:Q117.f k a0 a1 a2 a3=some r) :
  Spec prog 72 [.slice A1 a0.length c_1,.int .i64 a1,.int .i64 a2,.int .i64 a3] [O24 a0 A1 c_1] [] (fun v l=>v=.tuple #[]/\l=[O24 r A1 c_1]/\r.length=a0.length):=by
 refine Zh Tryz.func72 fun w0 F0 h0=>?_;unfold Q117.f at H;refine Sa (Za [0,2,3,8] ?_);refine T2 ?_;have h22:=(sOR h0 [0] []);refine T6 (fun kk env w=>∃ x1 x2,Q117.l0 kk a2 a3 x1 x2=some r/\env=[(0,.slice A1 x1.length c_1),(2,.int .i64 a2),(3,.int .i64 a3),(8,.int .i64 x2)]/\St w0 F0 [O24 x1 A1 c_1] [] w/\x1.length=a0.length) (k:=k) ⟨_,_,H,rfl,h22,(rfl:a0.length=a0.length)⟩ ?_;rintro k1 env w1 ⟨x1,x2,H,rfl,h1,e1⟩;rcases k1 with _ | k1
 ·exact z0 H
 rw [Q117.l0] at H;refine T2 (Sa (Za [0,2,3,8,9] ?_));refine Sa (Sa (Za [0,2,3,8,9,16] ?_));refine jIf H (fun c1 H=>?_) fun c1 H=>?_
 ·refine T5 ?_;cases H;exact ⟨_,_,_,Zf,⟨rfl,rfl,e1⟩,sO h1 [0]⟩
 refine Sb (Sa (Sa (jH h1 fun h2=>?_)));refine Zr [0,1,2,3,4] ?_;refine Xu 21 H (fun c2 H=>?_) fun c2 H=>?_
 ·refine Zr [5,6,7,8,11,12,13,14,15] ?_;refine hI 9 H h2 (gO 0) fun p1 p2 e2 H=>?_;refine Zd 10 rfl (Zc 0 wI (gO 0) p1 p2) ?_;refine hX 16 H e2 fun p3 p4 H=>?_;refine Zd 17 rfl (Zc 0 wI (gO 0) p3 p4) ?_;refine cSJ 18 rfl H [] h2 rfl Q32.spec Zj 0 fun r1 w2 H h3=>?_;refine hRF [19] [0,2,3,8,9,36] ?_;refine jIf H (fun c3 H=>?_) fun c3 H=>?_
  ·refine Za [0,2,3,8,9] ?_;refine Sa (Sa (jH h3 fun h4=>?_));refine Zr [0,1,2,3,6,7,8,9] ?_;refine hX 4 H e2 fun p5 p6 H=>?_;refine Zd 5 rfl (Zc 0 wI (gO 0) p5 p6) ?_;refine hX 10 H e2 fun p7 p8 H=>?_;refine Zd 11 rfl (Zc 0 wI (gO 0) p7 p8) ?_;refine cSJ 12 rfl H [] h4 rfl Q32.spec Zj 0 fun r2 w3 H h5=>?_;refine hRF [13] [0,2,3,8,9,52] ?_;refine jIf H (fun c4 H=>?_) fun c4 H=>?_
   ·cases H;exact T9 (jR ⟨rfl,rfl,e1⟩ h5 [0])
   refine Sb (Sa (Zt (sO h5 []) ?_));have h6:=h5.drew;refine Zr [0,1,2,3,4,5,6,7,8,9,10,11,14,15,16,17] ?_;refine Zd 12 rfl (Zl e2 p7 p8) ?_;refine Zd 18 rfl (Zl e2 p5 p6) ?_;refine T0 (Yr 13 rfl (Zc 0 h6.wht (gO 0) p7 p8) (Yr 19 rfl (Zc 0 h6.wht (gO 0) p5 p6) Wp)) ?_;refine Zd 20 rfl (Zl e2 p5 p6) ?_;refine hS 21 rfl (Zo 0 (.int .u32) (w64 (a3+x2)) (gt x1 (w64 (a3+(w64 ((w64 ((w64 (2*x2))+1))+1))))) 0 h6 rfl p5 p6) 1 fun _ w4 h7=>?_;have e3:(x1.set (w64 (a3+x2)).toNat (gt x1 (w64 (a3+(w64 ((w64 ((w64 (2*x2))+1))+1)))))).length=a0.length:=length_set.trans e1;refine Zd 22 rfl (Zl e2 p7 p8) ?_;refine hS 23 rfl (Zo 0 (.int .u32) (w64 (a3+(w64 ((w64 ((w64 (2*x2))+1))+1)))) (gt x1 (w64 (a3+x2))) 0 h7 rfl p7 (by simpa only [length_set] using p8)) 1 fun _ w5 h8=>?_;have e4:((x1.set (w64 (a3+x2)).toNat (gt x1 (w64 (a3+(w64 ((w64 ((w64 (2*x2))+1))+1)))))).set (w64 (a3+(w64 ((w64 ((w64 (2*x2))+1))+1)))).toNat (gt x1 (w64 (a3+x2)))).length=a0.length:=length_set.trans e3;refine Yy [0,2,3,9] ?_;refine T4 (env':=[(0,.slice A1 ((x1.set (w64 (a3+x2)).toNat (gt x1 (w64 (a3+(w64 ((w64 ((w64 (2*x2))+1))+1)))))).set (w64 (a3+(w64 ((w64 ((w64 (2*x2))+1))+1)))).toNat (gt x1 (w64 (a3+x2)))).length c_1),(2,.int .i64 a2),(3,.int .i64 a3),(9,.int .i64 (w64 ((w64 ((w64 (2*x2))+1))+1)))]) (by simp only [length_set,length_nil] <;> rfl) ?_;refine Za [0,2,3,8] ?_;have h9:=(sOR h8 [0] []);exact ⟨k1,by omega,_,_,H,rfl,h9,e4⟩
  refine Sb (Sa (Sa (jH h3 fun h10=>?_)));refine Zr [0,1,2,3,6,7,8,9] ?_;refine hX 4 H e2 fun p9 p10 H=>?_;refine Zd 5 rfl (Zc 0 wI (gO 0) p9 p10) ?_;refine Zd 10 rfl (Zl e2 p1 p2) ?_;refine Zd 11 rfl (Zc 0 wI (gO 0) p1 p2) ?_;refine cSJ 12 rfl H [] h10 rfl Q32.spec Zj 0 fun r3 w6 H h11=>?_;refine hRF [13] [0,2,3,8,9,52] ?_;refine jIf H (fun c5 H=>?_) fun c5 H=>?_
  ·cases H;exact T9 (jR ⟨rfl,rfl,e1⟩ h11 [0])
  refine Sb (Sa (Zt (sO h11 []) ?_));have h12:=h11.drew;refine Zr [0,1,2,3,4,5,6,7,8,9,10,11,14,15,16,17] ?_;refine Zd 12 rfl (Zl e2 p1 p2) ?_;refine Zd 18 rfl (Zl e2 p9 p10) ?_;refine T0 (Yr 13 rfl (Zc 0 h12.wht (gO 0) p1 p2) (Yr 19 rfl (Zc 0 h12.wht (gO 0) p9 p10) Wp)) ?_;refine Zd 20 rfl (Zl e2 p9 p10) ?_;refine hS 21 rfl (Zo 0 (.int .u32) (w64 (a3+x2)) (gt x1 (w64 (a3+(w64 ((w64 (2*x2))+1))))) 0 h12 rfl p9 p10) 1 fun _ w7 h13=>?_;have e5:(x1.set (w64 (a3+x2)).toNat (gt x1 (w64 (a3+(w64 ((w64 (2*x2))+1)))))).length=a0.length:=length_set.trans e1;refine Zd 22 rfl (Zl e2 p1 p2) ?_;refine hS 23 rfl (Zo 0 (.int .u32) (w64 (a3+(w64 ((w64 (2*x2))+1)))) (gt x1 (w64 (a3+x2))) 0 h13 rfl p1 (by simpa only [length_set] using p2)) 1 fun _ w8 h14=>?_;have e6:((x1.set (w64 (a3+x2)).toNat (gt x1 (w64 (a3+(w64 ((w64 (2*x2))+1)))))).set (w64 (a3+(w64 ((w64 (2*x2))+1)))).toNat (gt x1 (w64 (a3+x2)))).length=a0.length:=length_set.trans e5;refine Yy [0,2,3,9] ?_;refine T4 (env':=[(0,.slice A1 ((x1.set (w64 (a3+x2)).toNat (gt x1 (w64 (a3+(w64 ((w64 (2*x2))+1)))))).set (w64 (a3+(w64 ((w64 (2*x2))+1)))).toNat (gt x1 (w64 (a3+x2)))).length c_1),(2,.int .i64 a2),(3,.int .i64 a3),(9,.int .i64 (w64 ((w64 (2*x2))+1)))]) (by simp only [length_set,length_nil] <;> rfl) ?_;refine Za [0,2,3,8] ?_;have h15:=(sOR h14 [0] []);exact ⟨k1,by omega,_,_,H,rfl,h15,e6⟩
 refine hRF [5,6,7,8,9,10,11,12,13,14,15,16,17,18,19] [0,2,3,8,9,36] ?_;refine Zx ?_;refine Sb (Sa (Sa (jH h2 fun h16=>?_)));refine Zr [0,1,2,3,6,7,8,9] ?_;refine hI 4 H h16 (gO 0) fun p11 p12 e7 H=>?_;refine Zd 5 rfl (Zc 0 wI (gO 0) p11 p12) ?_;refine hX 10 H e7 fun p13 p14 H=>?_;refine Zd 11 rfl (Zc 0 wI (gO 0) p13 p14) ?_;refine cSJ 12 rfl H [] h16 rfl Q32.spec Zj 0 fun r4 w9 H h17=>?_;refine hRF [13] [0,2,3,8,9,52] ?_;refine jIf H (fun c6 H=>?_) fun c6 H=>?_
 ·cases H;exact T9 (jR ⟨rfl,rfl,e1⟩ h17 [0])
 refine Sb (Sa (Zt (sO h17 []) ?_));have h18:=h17.drew;refine Zr [0,1,2,3,4,5,6,7,8,9,10,11,14,15,16,17] ?_;refine Zd 12 rfl (Zl e7 p13 p14) ?_;refine Zd 18 rfl (Zl e7 p11 p12) ?_;refine T0 (Yr 13 rfl (Zc 0 h18.wht (gO 0) p13 p14) (Yr 19 rfl (Zc 0 h18.wht (gO 0) p11 p12) Wp)) ?_;refine Zd 20 rfl (Zl e7 p11 p12) ?_;refine hS 21 rfl (Zo 0 (.int .u32) (w64 (a3+x2)) (gt x1 (w64 (a3+(w64 ((w64 (2*x2))+1))))) 0 h18 rfl p11 p12) 1 fun _ w10 h19=>?_;have e8:(x1.set (w64 (a3+x2)).toNat (gt x1 (w64 (a3+(w64 ((w64 (2*x2))+1)))))).length=a0.length:=length_set.trans e1;refine Zd 22 rfl (Zl e7 p13 p14) ?_;refine hS 23 rfl (Zo 0 (.int .u32) (w64 (a3+(w64 ((w64 (2*x2))+1)))) (gt x1 (w64 (a3+x2))) 0 h19 rfl p13 (by simpa only [length_set] using p14)) 1 fun _ w11 h20=>?_;have e9:((x1.set (w64 (a3+x2)).toNat (gt x1 (w64 (a3+(w64 ((w64 (2*x2))+1)))))).set (w64 (a3+(w64 ((w64 (2*x2))+1)))).toNat (gt x1 (w64 (a3+x2)))).length=a0.length:=length_set.trans e8;refine Yy [0,2,3,9] ?_;refine T4 (env':=[(0,.slice A1 ((x1.set (w64 (a3+x2)).toNat (gt x1 (w64 (a3+(w64 ((w64 (2*x2))+1)))))).set (w64 (a3+(w64 ((w64 (2*x2))+1)))).toNat (gt x1 (w64 (a3+x2)))).length c_1),(2,.int .i64 a2),(3,.int .i64 a3),(9,.int .i64 (w64 ((w64 (2*x2))+1)))]) (by simp only [length_set,length_nil] <;> rfl) ?_;refine Za [0,2,3,8] ?_;have h21:=(sOR h20 [0] []);exact ⟨k1,by omega,_,_,H,rfl,h21,e9⟩

def Q106.l1:Nat->(Int)->TZ->(Int)->Option TZ
 | 0,_,_,_=>none
 | k+1,a1,x3,x4=>if (decide (0<=x4))=true then (if 0<=(w64 (a1+x4))/\(w64 (a1+x4))<(x3.length:Int) then (if 0<=a1/\a1<(x3.length:Int) then ((Q117.f k ((x3.set a1.toNat (gt x3 (w64 (a1+x4)))).set (w64 (a1+x4)).toNat (gt x3 a1)) 0 x4 a1).bind fun r2=>(Q106.l1 k a1 r2 (w64 (x4 - 1)))) else none) else none) else (some x3)
def Q106.l0:Nat->(Int)->(Int)->TZ->(Int)->Option TZ
 | 0,_,_,_,_=>none
 | k+1,a1,a2,x1,x2=>if (decide (0<=x2))=true then ((Q117.f k x1 x2 (w64 (a2 - a1)) a1).bind fun r1=>(Q106.l0 k a1 a2 r1 (w64 (x2 - 1)))) else (Q106.l1 k a1 x1 (w64 ((w64 (a2 - a1)) - 1)))
def Q106.f (k:Nat) (a0:TZ) (a1:Int) (a2:Int):Option TZ:=Q106.l0 k a1 a2 a0 (w64 (Int.tdiv (w64 ((w64 (a2 - a1)) - 1)) 2))
theorem Q106.spec {k a0 a1 a2 A1 c_1 r} (H:Q106.f k a0 a1 a2=some r) :
  Spec prog 39 [.slice A1 a0.length c_1,.int .i64 a1,.int .i64 a2] [O24 a0 A1 c_1] [] (fun v l=>v=.tuple #[]/\l=[O24 r A1 c_1]/\r.length=a0.length):=by
 refine Zh Tryz.func39 fun w0 F0 h0=>?_;unfold Q106.f at H;refine Sa (Za [0,1,2,6] ?_);refine Sa (Za [0,1,2,6,7] ?_);refine Sa (Za [0,6,7,8] ?_);refine Sa (Sa (Za [0,6,7,8,9] ?_));refine T2 ?_;have h11:=(sOR h0 [0] []);refine T6 (fun kk env w=>∃ x1 x2,Q106.l0 kk a1 a2 x1 x2=some r/\env=[(0,.slice A1 x1.length c_1),(6,.int .i64 a1),(7,.int .i64 0),(8,.int .i64 (w64 (a2 - a1))),(9,.int .i64 x2)]/\St w0 F0 [O24 x1 A1 c_1] [] w/\x1.length=a0.length) (k:=k) ⟨_,_,H,rfl,h11,(rfl:a0.length=a0.length)⟩ ?_;rintro k1 env w1 ⟨x1,x2,H,rfl,h1,e1⟩;rcases k1 with _ | k1
 ·exact z0 H
 rw [Q106.l0] at H;refine Sa (Sa (Za [0,6,7,8,9,19] ?_));refine jIf H (fun c1 H=>?_) fun c1 H=>?_
 ·refine Sb (Sa (T2 (T8 (Zb 4 ?_))));refine cE H [0] h1 rfl Q117.spec Zj ?_;rintro r1 w2 _ _ H ⟨rfl,rfl,q2⟩ h2;replace h2:=nf h2;have e2:r1.length=a0.length:=q2.trans e1;refine rFi [0,6,7,8,9] ?_;refine T4 (env':=[(0,.slice A1 r1.length c_1),(6,.int .i64 a1),(7,.int .i64 0),(8,.int .i64 (w64 (a2 - a1))),(9,.int .i64 x2)]) (by simp only [q2,length_nil] <;> rfl) ?_;refine Za [0,6,7,8,9] ?_;have h3:=(sOR h2 [0] []);exact ⟨k1,by omega,_,_,H,rfl,h3,e2⟩
 refine T5 (Sa (Za [0,6,7,10] ?_));refine T2 ?_;have h10:=(sOR h1 [0] []);refine T6 (fun kk env w=>∃ x3 x4,Q106.l1 kk a1 x3 x4=some r/\env=[(0,.slice A1 x3.length c_1),(6,.int .i64 a1),(7,.int .i64 0),(10,.int .i64 x4)]/\St w0 F0 [O24 x3 A1 c_1] [] w/\x3.length=a0.length) (k:=k1) ⟨_,_,H,rfl,h10,e1⟩ ?_;rintro k2 env w3 ⟨x3,x4,H,rfl,h4,e3⟩;rcases k2 with _ | k2
 ·exact z0 H
 rw [Q106.l1] at H;refine Sa (Sa (Za [0,6,7,10,30] ?_));refine jIf H (fun c2 H=>?_) fun c2 H=>?_
 ·refine Sb (Sa (T2 (Sa (Zt (sO h4 []) ?_))));have h5:=h4.drew;refine Zr [0,1,2,3,4,5,6,7,8,9,12,13] ?_;refine hI 10 H h5 (gO 0) fun p1 p2 e4 H=>?_;refine hX 14 H e4 fun p3 p4 H=>?_;refine T0 (Yr 11 rfl (Zc 0 h5.wht (gO 0) p1 p2) (Yr 15 rfl (Zc 0 h5.wht (gO 0) p3 p4) Wp)) ?_;refine Zd 16 rfl (Zl e4 p3 p4) ?_;refine hS 17 rfl (Zo 0 (.int .u32) a1 (gt x3 (w64 (a1+x4))) 0 h5 rfl p3 p4) 1 fun _ w4 h6=>?_;have e5:(x3.set a1.toNat (gt x3 (w64 (a1+x4)))).length=a0.length:=length_set.trans e3;refine Zd 18 rfl (Zl e4 p1 p2) ?_;refine hS 19 rfl (Zo 0 (.int .u32) (w64 (a1+x4)) (gt x3 a1) 0 h6 rfl p1 (by simpa only [length_set] using p2)) 1 fun _ w5 h7=>?_;have e6:((x3.set a1.toNat (gt x3 (w64 (a1+x4)))).set (w64 (a1+x4)).toNat (gt x3 a1)).length=a0.length:=length_set.trans e5;refine Yy [0,6,7,10] ?_;refine T4 (env':=[(0,.slice A1 ((x3.set a1.toNat (gt x3 (w64 (a1+x4)))).set (w64 (a1+x4)).toNat (gt x3 a1)).length c_1),(6,.int .i64 a1),(7,.int .i64 0),(10,.int .i64 x4)]) (by simp only [length_set,length_nil] <;> rfl) ?_;refine T8 (Zb 4 ?_);refine cE H [0] h7 rfl Q117.spec Zj ?_;rintro r2 w6 _ _ H ⟨rfl,rfl,q4⟩ h8;replace h8:=nf h8;have e7:r2.length=a0.length:=q4.trans e6;refine rFi [0,6,7,10] ?_;refine T4 (env':=[(0,.slice A1 r2.length c_1),(6,.int .i64 a1),(7,.int .i64 0),(10,.int .i64 x4)]) (by simp only [q4,length_nil] <;> rfl) ?_;refine Za [0,6,7,10] ?_;have h9:=(sOR h8 [0] []);exact ⟨k2,by omega,_,_,H,rfl,h9,e7⟩
 refine T5 ?_;cases H;exact ⟨_,_,_,Zf,⟨rfl,rfl,e3⟩,sO h4 [0]⟩

def Q111.f (a0:TZ) (a1:Int) (a2:Int) (a3:Int):Option (Int×Int×Int):=if 0<=a2/\a2<(a0.length:Int) then (if 0<=a1/\a1<(a0.length:Int) then ((Q32.f (gt a0 a2) (gt a0 a1)).bind fun r1=>(if r1=true then (some (a2,a1,(w64 (a3+1)))) else (some (a1,a2,a3)))) else none) else none
theorem Q111.spec {a0 a1 a2 a3 A1 c_1 b1 r} (H:Q111.f a0 a1 a2 a3=some r) :
  Spec prog 119 [.slice A1 a0.length c_1,.int .i64 a1,.int .i64 a2,.pointer (some ⟨b1,0,none⟩)] [X3 b1 a3] [R24 a0 A1 c_1] (fun v l=>v=.tuple #[.int .i64 r.1,.int .i64 r.2.1]/\l=[X3 b1 r.2.2]):=by
 refine Zh Tryz.func119 fun w0 F0 h0=>?_;unfold Q111.f at H;refine Sa (Za [0,1,2,3] ?_);refine Sa (Sa (jH h0 fun h1=>?_));refine Zr [0,1,4,5] ?_;refine hI 2 H h1 (Zg 1) fun p1 p2 e1 H=>?_;refine Zd 3 rfl (Zc 0 wI (Zg 1) p1 p2) ?_;refine hX 6 H e1 fun p3 p4 H=>?_;refine Zd 7 rfl (Zc 0 wI (Zg 1) p3 p4) ?_;refine cSJ 8 rfl H [] h1 rfl Q32.spec Zj 0 fun r1 w1 H h2=>?_;refine Yy [1,2,3,18] ?_;refine jIf H (fun c1 H=>?_) fun c1 H=>?_
 ·refine Sa (T8 (rRL 2 0 h2 ?_));refine Zb 2 ?_;refine rS (Zp 0 h2) fun _ w2 h3=>?_;refine rFi [1,2] ?_;refine Sa (Za [8,9] ?_);cases H;exact T9 (jR0 h3 [0])
 refine Sb (Sa (Za [8,9] ?_));cases H;exact T9 (jR0 h2 [0])

def Q109.f (a0:TZ) (a1:Int) (a2:Int) (a3:Int) (a4:Int):Option TY:=(Q111.f a0 a1 a2 a4).bind fun r1=>((Q111.f a0 r1.2.1 a3 r1.2.2).bind fun r2=>((Q111.f a0 r1.1 r2.1 r2.2.2).bind fun r3=>(some r3.2)))
theorem Q109.spec {a0 a1 a2 a3 a4 A1 c_1 b1 r} (H:Q109.f a0 a1 a2 a3 a4=some r) :
  Spec prog 76 [.slice A1 a0.length c_1,.int .i64 a1,.int .i64 a2,.int .i64 a3,.pointer (some ⟨b1,0,none⟩)] [X3 b1 a4] [R24 a0 A1 c_1] (fun v l=>v=.int .i64 r.1/\l=[X3 b1 r.2]):=by
 refine Zh Tryz.func76 fun w0 F0 h0=>?_;unfold Q109.f at H;refine Sa (Za [0,1,2,3,4] ?_);refine Sa (T8 (Zb 4 ?_));refine cS H [0] h0 rfl Q111.spec (gS [0]) fun r1 w1 H h1=>?_;refine rFi [0,1,2,3,4] ?_;refine Sa (T8 (Zb 4 ?_));refine cS H [0] h1 rfl Q111.spec (gS [0]) fun r2 w2 H h2=>?_;refine rFi [0,1,2,4] ?_;refine Sa (T8 (Zb 4 ?_));refine cS H [0] h2 rfl Q111.spec (gS [0]) fun r3 w3 H h3=>?_;refine rFi [2] ?_;refine Sa (Za [10] ?_);cases H;exact T9 (jR0 h3 [0])

def Q108.f (a0:TZ) (a1:Int) (a2:Int):Option TY:=(Q109.f a0 (w64 (a1 - 1)) a1 (w64 (a1+1)) a2).bind fun r1=>(some r1)
theorem Q108.spec {a0 a1 a2 A1 c_1 b1 r} (H:Q108.f a0 a1 a2=some r) :
  Spec prog 75 [.slice A1 a0.length c_1,.int .i64 a1,.pointer (some ⟨b1,0,none⟩)] [X3 b1 a2] [R24 a0 A1 c_1] (fun v l=>v=.int .i64 r.1/\l=[X3 b1 r.2]):=by
 refine Zh Tryz.func75 fun w0 F0 h0=>?_;unfold Q108.f at H;refine Sa (Za [0,1,2] ?_);refine Sa (T8 (Zb 7 ?_));refine cS H [0] h0 rfl Q109.spec (gS [0]) fun r1 w1 H h1=>?_;refine rFi [6] ?_;cases H;exact T9 (jR0 h1 [0])

def Q105.f (a0:TZ) (a1:Int) (a2:Int):Option TY:=if (decide (8<=(w64 (a2 - a1))))=true then (if (decide (50<=(w64 (a2 - a1))))=true then ((Q108.f a0 (w64 (a1+(w64 ((w64 (Int.tdiv (w64 (a2 - a1)) 4))*1)))) 0).bind fun r1=>((Q108.f a0 (w64 (a1+(w64 ((w64 (Int.tdiv (w64 (a2 - a1)) 4))*2)))) r1.2).bind fun r2=>((Q108.f a0 (w64 (a1+(w64 ((w64 (Int.tdiv (w64 (a2 - a1)) 4))*3)))) r2.2).bind fun r3=>((Q109.f a0 r1.1 r2.1 r3.1 r3.2).bind fun r4=>(if (decide (r4.2=0))=true then (some (r4.1,1)) else (if (decide (r4.2=12))=true then (some (r4.1,2)) else (some (r4.1,0)))))))) else ((Q109.f a0 (w64 (a1+(w64 ((w64 (Int.tdiv (w64 (a2 - a1)) 4))*1)))) (w64 (a1+(w64 ((w64 (Int.tdiv (w64 (a2 - a1)) 4))*2)))) (w64 (a1+(w64 ((w64 (Int.tdiv (w64 (a2 - a1)) 4))*3)))) 0).bind fun r5=>(if (decide (r5.2=0))=true then (some (r5.1,1)) else (if (decide (r5.2=12))=true then (some (r5.1,2)) else (some (r5.1,0)))))) else (some ((w64 (a1+(w64 ((w64 (Int.tdiv (w64 (a2 - a1)) 4))*2)))),1))
theorem Q105.spec {a0 a1 a2 A1 c_1 r} (H:Q105.f a0 a1 a2=some r) :
  Spec prog 41 [.slice A1 a0.length c_1,.int .i64 a1,.int .i64 a2] [] [R24 a0 A1 c_1] (fun v l=>v=.tuple #[.int .i64 r.1,.int .i64 r.2]/\l=[]):=by
 refine Zh Tryz.func41 fun w0 F0 h0=>?_;unfold Q105.f at H;refine Sa (Za [0,1,2] ?_);refine Sa (Za [0,1,8] ?_);refine Sa (T8 (rB (Z4 h0) fun b1 w1 h1=>?_));refine rFi [0,1,8,9] ?_;refine Sa (Za [0,1,8,9,10] ?_);refine Sa (Za [0,1,8,9,10,11] ?_);refine Sa (Za [0,8,9,10,11,12] ?_);refine Sa (Sa (Za [0,8,9,10,11,12,32] ?_));refine jIf H (fun c1 H=>?_) fun c1 H=>?_
 ·refine Sa (Sa (Za [0,9,10,11,12,34] ?_));refine jIf H (fun c2 H=>?_) fun c2 H=>?_
  ·refine Sa (T8 (Zb 2 ?_));refine cS H [0] h1 rfl Q108.spec (gS [0]) fun r1 w2 H h2=>?_;refine rFi [0,9,10,11,12] ?_;refine Sa (T8 (Zb 2 ?_));refine cS H [0] h2 rfl Q108.spec (gS [0]) fun r2 w3 H h3=>?_;refine rFi [0,9,10,11,12] ?_;refine T8 (Zb 2 ?_);refine cS H [0] h3 rfl Q108.spec (gS [0]) fun r3 w4 H h4=>?_;refine rFi [0,9,10,11,12] ?_;refine T8 (Zb 4 ?_);refine cS H [0] h4 rfl Q109.spec (gS [0]) fun r4 w5 H h5=>?_;refine rFi [9,11] ?_;refine Sa (T8 (rLo 0 h5 ?_));refine rFi [11,49] ?_;refine T2 (Sa (Za [11,49,51] ?_));refine jIf H (fun c3 H=>?_) fun c3 H=>?_
   ·refine Sa (Za [6,7] ?_);cases H;exact T9 (jR0 h5 [])
   refine Sa (Za [11,54] ?_);refine jIf H (fun c4 H=>?_) fun c4 H=>?_
   ·refine Sa (Za [6,7] ?_);cases H;exact T9 (jR0 h5 [])
   refine Sa (Za [6,7] ?_);cases H;exact T9 (jR0 h5 [])
  refine Sb (T8 (Zb 4 ?_));refine cS H [0] h1 rfl Q109.spec (gS [0]) fun r5 w6 H h6=>?_;refine rFi [9,11] ?_;refine Sa (T8 (rLo 0 h6 ?_));refine rFi [11,49] ?_;refine T2 (Sa (Za [11,49,51] ?_));refine jIf H (fun c5 H=>?_) fun c5 H=>?_
  ·refine Sa (Za [6,7] ?_);cases H;exact T9 (jR0 h6 [])
  refine Sa (Za [11,54] ?_);refine jIf H (fun c6 H=>?_) fun c6 H=>?_
  ·refine Sa (Za [6,7] ?_);cases H;exact T9 (jR0 h6 [])
  refine Sa (Za [6,7] ?_);cases H;exact T9 (jR0 h6 [])
 refine Sb (Sa (T8 (rLo 0 h1 ?_)));refine rFi [11,49] ?_;refine T2 (Sa (Za [11,49,51] ?_));refine Zi ?_;refine Sa (Za [6,7] ?_);cases H;exact T9 (jR0 h1 [])

def Q116.l0:Nat->TZ->(Int)->(Int)->Option TZ
 | 0,_,_,_=>none
 | k+1,x1,x2,x3=>if (decide (x2<x3))=true then (if 0<=x3/\x3<(x1.length:Int) then (if 0<=x2/\x2<(x1.length:Int) then (Q116.l0 k ((x1.set x2.toNat (gt x1 x3)).set x3.toNat (gt x1 x2)) (w64 (x2+1)) (w64 (x3 - 1))) else none) else none) else (some x1)
def Q116.f (k:Nat) (a0:TZ) (a1:Int) (a2:Int):Option TZ:=Q116.l0 k a0 a1 (w64 (a2 - 1))
theorem Q116.spec {k a0 a1 a2 A1 c_1 r} (H:Q116.f k a0 a1 a2=some r) :
  Spec prog 42 [.slice A1 a0.length c_1,.int .i64 a1,.int .i64 a2] [O24 a0 A1 c_1] [] (fun v l=>v=.tuple #[]/\l=[O24 r A1 c_1]/\r.length=a0.length):=by
 refine Zh Tryz.func42 fun w0 F0 h0=>?_;unfold Q116.f at H;refine Sa (Za [0,2,6] ?_);refine Sa (Za [0,6,7] ?_);refine T2 ?_;have h6:=(sOR h0 [0] []);refine T6 (fun kk env w=>∃ x1 x2 x3,Q116.l0 kk x1 x2 x3=some r/\env=[(0,.slice A1 x1.length c_1),(6,.int .i64 x2),(7,.int .i64 x3)]/\St w0 F0 [O24 x1 A1 c_1] [] w/\x1.length=a0.length) (k:=k) ⟨_,_,_,H,rfl,h6,(rfl:a0.length=a0.length)⟩ ?_;rintro k1 env w1 ⟨x1,x2,x3,H,rfl,h1,e1⟩;rcases k1 with _ | k1
 ·exact z0 H
 rw [Q116.l0] at H;refine Sa (Sa (Za [0,6,7,13] ?_));refine jIf H (fun c1 H=>?_) fun c1 H=>?_
 ·refine Sb (T2 (Sa (Zt (sO h1 []) ?_)));have h2:=h1.drew;refine Zr [0,1,2,3,4,5,8,9] ?_;refine hI 6 H h2 (gO 0) fun p1 p2 e2 H=>?_;refine hX 10 H e2 fun p3 p4 H=>?_;refine T0 (Yr 7 rfl (Zc 0 h2.wht (gO 0) p1 p2) (Yr 11 rfl (Zc 0 h2.wht (gO 0) p3 p4) Wp)) ?_;refine Zd 12 rfl (Zl e2 p3 p4) ?_;refine hS 13 rfl (Zo 0 (.int .u32) x2 (gt x1 x3) 0 h2 rfl p3 p4) 1 fun _ w2 h3=>?_;have e3:(x1.set x2.toNat (gt x1 x3)).length=a0.length:=length_set.trans e1;refine Zd 14 rfl (Zl e2 p1 p2) ?_;refine hS 15 rfl (Zo 0 (.int .u32) x3 (gt x1 x2) 0 h3 rfl p1 (by simpa only [length_set] using p2)) 1 fun _ w3 h4=>?_;have e4:((x1.set x2.toNat (gt x1 x3)).set x3.toNat (gt x1 x2)).length=a0.length:=length_set.trans e3;refine Yy [0,6,7] ?_;refine T4 (env':=[(0,.slice A1 ((x1.set x2.toNat (gt x1 x3)).set x3.toNat (gt x1 x2)).length c_1),(6,.int .i64 x2),(7,.int .i64 x3)]) (by simp only [length_set,length_nil] <;> rfl) ?_;refine Sa (Za [0,6,7] ?_);refine Za [0,6,7] ?_;have h5:=(sOR h4 [0] []);exact ⟨k1,by omega,_,_,_,H,rfl,h5,e4⟩
 refine T5 ?_;cases H;exact ⟨_,_,_,Zf,⟨rfl,rfl,e1⟩,sO h1 [0]⟩

mutual
def Q112.l0:Nat->(Int)->(Int)->TZ->(Int)->(Int)->Option TR
 | 0,_,_,_,_,_=>none
 | k+1,a1,a2,x1,x2,x3=>if (decide (x3<5))=true then (Q112.l3 k a1 a2 x1 x3 x2) else (some (false,x1))
def Q112.l1:Nat->(Int)->(Int)->(Int)->(Int)->TZ->(Int)->Option TR
 | 0,_,_,_,_,_,_=>none
 | k+1,a1,a2,x3,x6,x9,x10=>if (decide (x10<a2))=true then (if 0<=x10/\x10<(x9.length:Int) then (if 0<=(w64 (x10 - 1))/\(w64 (x10 - 1))<(x9.length:Int) then ((Q32.f (gt x9 x10) (gt x9 (w64 (x10 - 1)))).bind fun r1=>(if (!r1)=true then (Q112.l0 k a1 a2 x9 x6 (w64 (x3+1))) else (Q112.l1 k a1 a2 x3 x6 ((x9.set x10.toNat (gt x9 (w64 (x10 - 1)))).set (w64 (x10 - 1)).toNat (gt x9 x10)) (w64 (x10+1))))) else none) else none) else (Q112.l0 k a1 a2 x9 x6 (w64 (x3+1)))
def Q112.l2:Nat->(Int)->(Int)->(Int)->(Int)->TZ->(Int)->Option TR
 | 0,_,_,_,_,_,_=>none
 | k+1,a1,a2,x3,x6,x11,x12=>if (decide (1<=x12))=true then (if 0<=x12/\x12<(x11.length:Int) then (if 0<=(w64 (x12 - 1))/\(w64 (x12 - 1))<(x11.length:Int) then ((Q32.f (gt x11 x12) (gt x11 (w64 (x12 - 1)))).bind fun r2=>(if (!r2)=true then (if (decide (2<=(w64 (a2 - x6))))=true then (Q112.l1 k a1 a2 x3 x6 x11 (w64 (x6+1))) else (Q112.l0 k a1 a2 x11 x6 (w64 (x3+1)))) else (Q112.l2 k a1 a2 x3 x6 ((x11.set x12.toNat (gt x11 (w64 (x12 - 1)))).set (w64 (x12 - 1)).toNat (gt x11 x12)) (w64 (x12 - 1))))) else none) else none) else (if (decide (2<=(w64 (a2 - x6))))=true then (Q112.l1 k a1 a2 x3 x6 x11 (w64 (x6+1))) else (Q112.l0 k a1 a2 x11 x6 (w64 (x3+1))))
def Q112.l3:Nat->(Int)->(Int)->TZ->(Int)->(Int)->Option TR
 | 0,_,_,_,_,_=>none
 | k+1,a1,a2,x1,x3,x13=>if (decide (x13<a2))=true then (if 0<=x13/\x13<(x1.length:Int) then (if 0<=(w64 (x13 - 1))/\(w64 (x13 - 1))<(x1.length:Int) then ((Q32.f (gt x1 x13) (gt x1 (w64 (x13 - 1)))).bind fun r3=>(if (!r3)=true then (Q112.l3 k a1 a2 x1 x3 (w64 (x13+1))) else (if (decide (x13=a2))=true then (some (true,x1)) else (if (decide ((w64 (a2 - a1))<50))=true then (some (false,x1)) else (if 0<=(w64 (x13 - 1))/\(w64 (x13 - 1))<(x1.length:Int) then (if 0<=x13/\x13<(x1.length:Int) then (if (decide (2<=(w64 (x13 - a1))))=true then (Q112.l2 k a1 a2 x3 x13 ((x1.set x13.toNat (gt x1 (w64 (x13 - 1)))).set (w64 (x13 - 1)).toNat (gt x1 x13)) (w64 (x13 - 1))) else (if (decide (2<=(w64 (a2 - x13))))=true then (Q112.l1 k a1 a2 x3 x13 ((x1.set x13.toNat (gt x1 (w64 (x13 - 1)))).set (w64 (x13 - 1)).toNat (gt x1 x13)) (w64 (x13+1))) else (Q112.l0 k a1 a2 ((x1.set x13.toNat (gt x1 (w64 (x13 - 1)))).set (w64 (x13 - 1)).toNat (gt x1 x13)) x13 (w64 (x3+1))))) else none) else none))))) else none) else none) else (if (decide (x13=a2))=true then (some (true,x1)) else (if (decide ((w64 (a2 - a1))<50))=true then (some (false,x1)) else (if 0<=(w64 (x13 - 1))/\(w64 (x13 - 1))<(x1.length:Int) then (if 0<=x13/\x13<(x1.length:Int) then (if (decide (2<=(w64 (x13 - a1))))=true then (Q112.l2 k a1 a2 x3 x13 ((x1.set x13.toNat (gt x1 (w64 (x13 - 1)))).set (w64 (x13 - 1)).toNat (gt x1 x13)) (w64 (x13 - 1))) else (if (decide (2<=(w64 (a2 - x13))))=true then (Q112.l1 k a1 a2 x3 x13 ((x1.set x13.toNat (gt x1 (w64 (x13 - 1)))).set (w64 (x13 - 1)).toNat (gt x1 x13)) (w64 (x13+1))) else (Q112.l0 k a1 a2 ((x1.set x13.toNat (gt x1 (w64 (x13 - 1)))).set (w64 (x13 - 1)).toNat (gt x1 x13)) x13 (w64 (x3+1))))) else none) else none)))
end
def Q112.f (k:Nat) (a0:TZ) (a1:Int) (a2:Int):Option TR:=Q112.l0 k a1 a2 a0 (w64 (a1+1)) 0
theorem Q112.spec {k a0 a1 a2 A1 c_1 r} (H:Q112.f k a0 a1 a2=some r) :
  Spec prog 43 [.slice A1 a0.length c_1,.int .i64 a1,.int .i64 a2] [O24 a0 A1 c_1] [] (fun v l=>v=.bool r.1/\l=[O24 r.2 A1 c_1]/\r.2.length=a0.length):=by
 refine Zh Tryz.func43 fun w0 F0 h0=>?_;unfold Q112.f at H;refine Sa (Za [0,1,2] ?_);refine Sa (Za [0,1,2,7] ?_);refine Sa (Sa (Za [0,1,2,7,8] ?_));refine T2 ?_;have h38:=(sOR h0 [0] []);refine T6 (fun kk env w=>∃ x1 x2 x3,Q112.l0 kk a1 a2 x1 x2 x3=some r/\env=[(0,.slice A1 x1.length c_1),(1,.int .i64 a1),(2,.int .i64 a2),(7,.int .i64 x2),(8,.int .i64 x3)]/\St w0 F0 [O24 x1 A1 c_1] [] w/\x1.length=a0.length) (k:=k) ⟨_,_,_,H,rfl,h38,(rfl:a0.length=a0.length)⟩ ?_;rintro k1 env w1 ⟨x1,x2,x3,H,rfl,h1,e1⟩;rcases k1 with _ | k1
 ·exact z0 H
 rw [Q112.l0] at H;refine Sa (Sa (Za [0,1,2,7,8,14] ?_));refine jIf H (fun c1 H=>?_) fun c1 H=>?_
 ·refine Sb (Sa (T7 (fun env w=>∃(k2:Nat) (x4:TZ) (x5:Int),env=[(0,.slice A1 x4.length c_1),(1,.int .i64 a1),(2,.int .i64 a2),(7,.int .i64 x5),(8,.int .i64 x3)]/\St w0 F0 [O24 x4 A1 c_1] [] w/\(Q112.l0 k2 a1 a2 x4 x5 (w64 (x3+1)))=some r/\k2<=k1/\x4.length=a0.length) ?_ ?_))
  ·refine T2 (Sa (T7 (fun env w=>∃(k3:Nat) (x6:Int) (x7:Bool),env=[(0,.slice A1 x1.length c_1),(1,.int .i64 a1),(2,.int .i64 a2),(7,.int .i64 x6),(8,.int .i64 x3),(32,.bool x7)]/\St w0 F0 [O24 x1 A1 c_1] [] w/\(if (decide (x6=a2))=true then (some (true,x1)) else (if (decide ((w64 (a2 - a1))<50))=true then (some (false,x1)) else (if 0<=(w64 (x6 - 1))/\(w64 (x6 - 1))<(x1.length:Int) then (if 0<=x6/\x6<(x1.length:Int) then (if (decide (2<=(w64 (x6 - a1))))=true then (Q112.l2 k3 a1 a2 x3 x6 ((x1.set x6.toNat (gt x1 (w64 (x6 - 1)))).set (w64 (x6 - 1)).toNat (gt x1 x6)) (w64 (x6 - 1))) else (if (decide (2<=(w64 (a2 - x6))))=true then (Q112.l1 k3 a1 a2 x3 x6 ((x1.set x6.toNat (gt x1 (w64 (x6 - 1)))).set (w64 (x6 - 1)).toNat (gt x1 x6)) (w64 (x6+1))) else (Q112.l0 k3 a1 a2 ((x1.set x6.toNat (gt x1 (w64 (x6 - 1)))).set (w64 (x6 - 1)).toNat (gt x1 x6)) x6 (w64 (x3+1))))) else none) else none)))=some r/\k3<=k1) ?_ ?_))
   ·refine T2 (Xt [0,1,2,7,8] ?_);have h37:=(sOR h1 [0] []);refine T6 (fun kk env w=>∃ x13,Q112.l3 kk a1 a2 x1 x3 x13=some r/\env=[(0,.slice A1 x1.length c_1),(1,.int .i64 a1),(2,.int .i64 a2),(7,.int .i64 x13),(8,.int .i64 x3)]/\St w0 F0 [O24 x1 A1 c_1] [] w/\kk<=k1) (k:=k1) ⟨_,H,rfl,h37,Sc _⟩ ?_;rintro k7 env w18 ⟨x13,H,rfl,h31,hk7⟩;rcases k7 with _ | k7
    ·exact z0 H
    rw [Q112.l3] at H;refine Sa (Sa (jH h31 fun h32=>?_));refine Zr [0,1,2,3] ?_;refine Xu 20 H (fun c10 H=>?_) fun c10 H=>?_
    ·refine Zr [4,5,8,9,10] ?_;refine hI 6 H h32 (gO 0) fun p13 p14 e13 H=>?_;refine Zd 7 rfl (Zc 0 wI (gO 0) p13 p14) ?_;refine hX 11 H e13 fun p15 p16 H=>?_;refine Zd 12 rfl (Zc 0 wI (gO 0) p15 p16) ?_;refine cSJ 13 rfl H [] h32 rfl Q32.spec Zj 0 fun r3 w19 H h33=>?_;refine hRF [14,15] [0,1,2,7,8,32] ?_;refine jIf H (fun c11 H=>?_) fun c11 H=>?_
     ·refine Sb (T2 (Za [0,1,2,7,8] ?_));have h34:=(sOR h33 [0] []);exact ⟨k7,by omega,_,H,rfl,h34,by omega⟩
     refine T5 ?_;have h35:=(sOR h33 [0] []);exact ⟨k7,x13,(!r3),rfl,h35,H,by omega⟩
    refine hRF [4,5,6,7,8,9,10,11,12,13,14,15] [0,1,2,7,8,32] ?_;refine Zx ?_;refine T5 ?_;have h36:=(sOR h32 [0] []);exact ⟨k7,x13,false,rfl,h36,H,by omega⟩
   rintro env w5 ⟨k3,x6,x7,rfl,h4,H,hk3⟩;refine Sa (Sa (Za [0,1,2,7,8,37] ?_));refine jIf H (fun c2 H=>?_) fun c2 H=>?_
   ·refine Sa (Za [6] ?_);cases H;exact T9 (jR ⟨rfl,rfl,e1⟩ h4 [0])
   refine Sb (Sa (Sa (Za [0,1,2,7,8,41] ?_)));refine jIf H (fun c3 H=>?_) fun c3 H=>?_
   ·refine Sa (Za [6] ?_);cases H;exact T9 (jR ⟨rfl,rfl,e1⟩ h4 [0])
   refine Sb (Sa (Zt (sO h4 []) ?_));have h5:=h4.drew;refine Zr [0,1,2,3,4,5,6,7,10,11] ?_;refine hI 8 H h5 (gO 0) fun p1 p2 e3 H=>?_;refine hX 12 H e3 fun p3 p4 H=>?_;refine T0 (Yr 9 rfl (Zc 0 h5.wht (gO 0) p1 p2) (Yr 13 rfl (Zc 0 h5.wht (gO 0) p3 p4) Wp)) ?_;refine Zd 14 rfl (Zl e3 p3 p4) ?_;refine hS 15 rfl (Zo 0 (.int .u32) x6 (gt x1 (w64 (x6 - 1))) 0 h5 rfl p3 p4) 1 fun _ w6 h6=>?_;have e4:(x1.set x6.toNat (gt x1 (w64 (x6 - 1)))).length=a0.length:=length_set.trans e1;refine Zd 16 rfl (Zl e3 p1 p2) ?_;refine hS 17 rfl (Zo 0 (.int .u32) (w64 (x6 - 1)) (gt x1 x6) 0 h6 rfl p1 (by simpa only [length_set] using p2)) 1 fun _ w7 h7=>?_;have e5:((x1.set x6.toNat (gt x1 (w64 (x6 - 1)))).set (w64 (x6 - 1)).toNat (gt x1 x6)).length=a0.length:=length_set.trans e4;refine Yy [0,1,2,7,8] ?_;refine T4 (env':=[(0,.slice A1 ((x1.set x6.toNat (gt x1 (w64 (x6 - 1)))).set (w64 (x6 - 1)).toNat (gt x1 x6)).length c_1),(1,.int .i64 a1),(2,.int .i64 a2),(7,.int .i64 x6),(8,.int .i64 x3)]) (by simp only [length_set,length_nil] <;> rfl) ?_;refine Sa (Sa (Za [0,1,2,7,8,61] ?_));refine T7 (fun env w=>∃(k4:Nat) (x8:TZ),env=[(0,.slice A1 x8.length c_1),(1,.int .i64 a1),(2,.int .i64 a2),(7,.int .i64 x6),(8,.int .i64 x3)]/\St w0 F0 [O24 x8 A1 c_1] [] w/\(if (decide (2<=(w64 (a2 - x6))))=true then (Q112.l1 k4 a1 a2 x3 x6 x8 (w64 (x6+1))) else (Q112.l0 k4 a1 a2 x8 x6 (w64 (x3+1))))=some r/\k4<=k3/\x8.length=a0.length) ?_ ?_
   ·refine jIf H (fun c7 H=>?_) fun c7 H=>?_
    ·refine Sa (Za [0,1,2,7,8,9] ?_);refine T2 ?_;have h29:=(sOR h7 [0] []);refine T6 (fun kk env w=>∃ x11 x12,Q112.l2 kk a1 a2 x3 x6 x11 x12=some r/\env=[(0,.slice A1 x11.length c_1),(1,.int .i64 a1),(2,.int .i64 a2),(7,.int .i64 x6),(8,.int .i64 x3),(9,.int .i64 x12)]/\St w0 F0 [O24 x11 A1 c_1] [] w/\kk<=k3/\x11.length=a0.length) (k:=k3) ⟨_,_,H,rfl,h29,Sc _,e5⟩ ?_;rintro k6 env w14 ⟨x11,x12,H,rfl,h20,hk6,e10⟩;rcases k6 with _ | k6
     ·exact z0 H
     rw [Q112.l2] at H;refine Sa (Sa (Za [0,1,2,7,8,9,65] ?_));refine jIf H (fun c8 H=>?_) fun c8 H=>?_
     ·refine Sb (Sa (T2 (Sa (Sa (jH h20 fun h21=>?_)))));refine Zr [0,1,4,5,6] ?_;refine hX 2 H e3 fun p9 p10 H=>?_;refine Zd 3 rfl (Zc 0 wI (gO 0) p9 p10) ?_;refine hX 7 H e3 fun p11 p12 H=>?_;refine Zd 8 rfl (Zc 0 wI (gO 0) p11 p12) ?_;refine cSJ 9 rfl H [] h21 rfl Q32.spec Zj 0 fun r2 w15 H h22=>?_;refine hRF [10] [0,1,2,7,8,9,78] ?_;refine jIf H (fun c9 H=>?_) fun c9 H=>?_
      ·refine Xt [0,1,2,7,8] ?_;refine T5 ?_;have h23:=(sOR h22 [0] []);exact ⟨k6,x11,rfl,h23,H,by omega,e10⟩
      refine Sb (Zt (sO h22 []) ?_);have h24:=h22.drew;refine Zr [0,1,2,3,4,5,6,7,10,11] ?_;refine Zd 8 rfl (Zl e3 p11 p12) ?_;refine Zd 12 rfl (Zl e3 p9 p10) ?_;refine T0 (Yr 9 rfl (Zc 0 h24.wht (gO 0) p11 p12) (Yr 13 rfl (Zc 0 h24.wht (gO 0) p9 p10) Wp)) ?_;refine Zd 14 rfl (Zl e3 p9 p10) ?_;refine hS 15 rfl (Zo 0 (.int .u32) x12 (gt x11 (w64 (x12 - 1))) 0 h24 rfl p9 p10) 1 fun _ w16 h25=>?_;have e11:(x11.set x12.toNat (gt x11 (w64 (x12 - 1)))).length=a0.length:=length_set.trans e10;refine Zd 16 rfl (Zl e3 p11 p12) ?_;refine hS 17 rfl (Zo 0 (.int .u32) (w64 (x12 - 1)) (gt x11 x12) 0 h25 rfl p11 (by simpa only [length_set] using p12)) 1 fun _ w17 h26=>?_;have e12:((x11.set x12.toNat (gt x11 (w64 (x12 - 1)))).set (w64 (x12 - 1)).toNat (gt x11 x12)).length=a0.length:=length_set.trans e11;refine Yy [0,1,2,7,8,9] ?_;refine T4 (env':=[(0,.slice A1 ((x11.set x12.toNat (gt x11 (w64 (x12 - 1)))).set (w64 (x12 - 1)).toNat (gt x11 x12)).length c_1),(1,.int .i64 a1),(2,.int .i64 a2),(7,.int .i64 x6),(8,.int .i64 x3),(9,.int .i64 x12)]) (by simp only [length_set,length_nil] <;> rfl) ?_;refine Za [0,1,2,7,8,9] ?_;have h27:=(sOR h26 [0] []);exact ⟨k6,by omega,_,_,H,rfl,h27,by omega,e12⟩
     refine Xt [0,1,2,7,8] ?_;refine T5 ?_;have h28:=(sOR h20 [0] []);exact ⟨k6,x11,rfl,h28,H,by omega,e10⟩
    refine Xt [0,1,2,7,8] ?_;refine Sb ?_;have h30:=(sOR h7 [0] []);exact ⟨k3,((x1.set x6.toNat (gt x1 (w64 (x6 - 1)))).set (w64 (x6 - 1)).toNat (gt x1 x6)),rfl,h30,H,Sc _,e5⟩
   rintro env w9 ⟨k4,x8,rfl,h8,H,hk4,e6⟩;refine Sa (Za [0,1,2,7,8,98] ?_);refine jIf H (fun c4 H=>?_) fun c4 H=>?_
   ·refine Sa (Za [0,1,2,7,8,10] ?_);refine T2 ?_;have h18:=(sOR h8 [0] []);refine T6 (fun kk env w=>∃ x9 x10,Q112.l1 kk a1 a2 x3 x6 x9 x10=some r/\env=[(0,.slice A1 x9.length c_1),(1,.int .i64 a1),(2,.int .i64 a2),(7,.int .i64 x6),(8,.int .i64 x3),(10,.int .i64 x10)]/\St w0 F0 [O24 x9 A1 c_1] [] w/\kk<=k4/\x9.length=a0.length) (k:=k4) ⟨_,_,H,rfl,h18,Sc _,e6⟩ ?_;rintro k5 env w10 ⟨x9,x10,H,rfl,h9,hk5,e7⟩;rcases k5 with _ | k5
    ·exact z0 H
    rw [Q112.l1] at H;refine Sa (Sa (Za [0,1,2,7,8,10,103] ?_));refine jIf H (fun c5 H=>?_) fun c5 H=>?_
    ·refine Sb (Sa (T2 (Sa (Sa (jH h9 fun h10=>?_)))));refine Zr [0,1,4,5,6] ?_;refine hX 2 H e3 fun p5 p6 H=>?_;refine Zd 3 rfl (Zc 0 wI (gO 0) p5 p6) ?_;refine hX 7 H e3 fun p7 p8 H=>?_;refine Zd 8 rfl (Zc 0 wI (gO 0) p7 p8) ?_;refine cSJ 9 rfl H [] h10 rfl Q32.spec Zj 0 fun r1 w11 H h11=>?_;refine hRF [10] [0,1,2,7,8,10,116] ?_;refine jIf H (fun c6 H=>?_) fun c6 H=>?_
     ·refine Xt [0,1,2,7,8] ?_;refine T5 ?_;have h12:=(sOR h11 [0] []);exact ⟨k5,x9,x6,rfl,h12,H,by omega,e7⟩
     refine Sb (Zt (sO h11 []) ?_);have h13:=h11.drew;refine Zr [0,1,2,3,4,5,6,7,10,11] ?_;refine Zd 8 rfl (Zl e3 p7 p8) ?_;refine Zd 12 rfl (Zl e3 p5 p6) ?_;refine T0 (Yr 9 rfl (Zc 0 h13.wht (gO 0) p7 p8) (Yr 13 rfl (Zc 0 h13.wht (gO 0) p5 p6) Wp)) ?_;refine Zd 14 rfl (Zl e3 p5 p6) ?_;refine hS 15 rfl (Zo 0 (.int .u32) x10 (gt x9 (w64 (x10 - 1))) 0 h13 rfl p5 p6) 1 fun _ w12 h14=>?_;have e8:(x9.set x10.toNat (gt x9 (w64 (x10 - 1)))).length=a0.length:=length_set.trans e7;refine Zd 16 rfl (Zl e3 p7 p8) ?_;refine hS 17 rfl (Zo 0 (.int .u32) (w64 (x10 - 1)) (gt x9 x10) 0 h14 rfl p7 (by simpa only [length_set] using p8)) 1 fun _ w13 h15=>?_;have e9:((x9.set x10.toNat (gt x9 (w64 (x10 - 1)))).set (w64 (x10 - 1)).toNat (gt x9 x10)).length=a0.length:=length_set.trans e8;refine Yy [0,1,2,7,8,10] ?_;refine T4 (env':=[(0,.slice A1 ((x9.set x10.toNat (gt x9 (w64 (x10 - 1)))).set (w64 (x10 - 1)).toNat (gt x9 x10)).length c_1),(1,.int .i64 a1),(2,.int .i64 a2),(7,.int .i64 x6),(8,.int .i64 x3),(10,.int .i64 x10)]) (by simp only [length_set,length_nil] <;> rfl) ?_;refine Za [0,1,2,7,8,10] ?_;have h16:=(sOR h15 [0] []);exact ⟨k5,by omega,_,_,H,rfl,h16,by omega,e9⟩
    refine Xt [0,1,2,7,8] ?_;refine T5 ?_;have h17:=(sOR h9 [0] []);exact ⟨k5,x9,x6,rfl,h17,H,by omega,e7⟩
   refine Xt [0,1,2,7,8] ?_;refine Sb ?_;have h19:=(sOR h8 [0] []);exact ⟨k4,x8,x6,rfl,h19,H,by omega,e6⟩
  rintro env w3 ⟨k2,x4,x5,rfl,h2,H,hk2,e2⟩;refine Za [0,1,2,7,8] ?_;have h3:=(sOR h2 [0] []);exact ⟨k2,by omega,_,_,_,H,rfl,h3,e2⟩
 refine T5 (Sa (Za [6] ?_));cases H;exact T9 (jR ⟨rfl,rfl,e1⟩ h1 [0])

mutual
def Q113.l0:Nat->(Int)->TZ->(Int)->(Int)->Option TS
 | 0,_,_,_,_=>none
 | k+1,a1,x1,x2,x3=>Q113.l1 k a1 x1 x3 x2
def Q113.l1:Nat->(Int)->TZ->(Int)->(Int)->Option TS
 | 0,_,_,_,_=>none
 | k+1,a1,x1,x3,x4=>if (decide (x4<=x3))=true then (if 0<=a1/\a1<(x1.length:Int) then (if 0<=x4/\x4<(x1.length:Int) then ((Q32.f (gt x1 a1) (gt x1 x4)).bind fun r1=>(if (!r1)=true then (Q113.l1 k a1 x1 x3 (w64 (x4+1))) else (Q113.l2 k a1 x1 x4 x3))) else none) else none) else (Q113.l3 k a1 x1 x3 x4)
def Q113.l2:Nat->(Int)->TZ->(Int)->(Int)->Option TS
 | 0,_,_,_,_=>none
 | k+1,a1,x1,x4,x5=>if (decide (x4<=x5))=true then (if 0<=x5/\x5<(x1.length:Int) then ((Q32.f (gt x1 a1) (gt x1 x5)).bind fun r2=>(if r2=true then (Q113.l2 k a1 x1 x4 (w64 (x5 - 1))) else (if (decide (x5<x4))=true then (some (x4,x1)) else (Q113.l0 k a1 ((x1.set x4.toNat (gt x1 x5)).set x5.toNat (gt x1 x4)) (w64 (x4+1)) (w64 (x5 - 1)))))) else none) else (if (decide (x5<x4))=true then (some (x4,x1)) else (if 0<=x5/\x5<(x1.length:Int) then (Q113.l0 k a1 ((x1.set x4.toNat (gt x1 x5)).set x5.toNat (gt x1 x4)) (w64 (x4+1)) (w64 (x5 - 1))) else none))
def Q113.l3:Nat->(Int)->TZ->(Int)->(Int)->Option TS
 | 0,_,_,_,_=>none
 | k+1,a1,x1,x3,x4=>if (decide (x3<x4))=true then (some (x4,x1)) else (if 0<=x3/\x3<(x1.length:Int) then (if 0<=x4/\x4<(x1.length:Int) then (Q113.l0 k a1 ((x1.set x4.toNat (gt x1 x3)).set x3.toNat (gt x1 x4)) (w64 (x4+1)) (w64 (x3 - 1))) else none) else none)
end
def Q113.f (k:Nat) (a0:TZ) (a1:Int) (a2:Int) (a3:Int):Option TS:=if 0<=a3/\a3<(a0.length:Int) then (if 0<=a1/\a1<(a0.length:Int) then (Q113.l0 k a1 ((a0.set a1.toNat (gt a0 a3)).set a3.toNat (gt a0 a1)) (w64 (a1+1)) (w64 (a2 - 1))) else none) else none
theorem Q113.spec {k a0 a1 a2 a3 A1 c_1 r} (H:Q113.f k a0 a1 a2 a3=some r) :
  Spec prog 45 [.slice A1 a0.length c_1,.int .i64 a1,.int .i64 a2,.int .i64 a3] [O24 a0 A1 c_1] [] (fun v l=>v=.int .i64 r.1/\l=[O24 r.2 A1 c_1]/\r.2.length=a0.length):=by
 refine Zh Tryz.func45 fun w0 F0 h0=>?_;unfold Q113.f at H;refine Sa (Za [0,1,2,3] ?_);refine Sa (Zt (sO h0 []) ?_);have h1:=h0.drew;refine Zr [0,1,2,3,4,5,8,9] ?_;refine hI 6 H h1 (gO 0) fun p1 p2 e1 H=>?_;refine hX 10 H e1 fun p3 p4 H=>?_;refine T0 (Yr 7 rfl (Zc 0 h1.wht (gO 0) p1 p2) (Yr 11 rfl (Zc 0 h1.wht (gO 0) p3 p4) Wp)) ?_;refine Zd 12 rfl (Zl e1 p3 p4) ?_;refine hS 13 rfl (Zo 0 (.int .u32) a1 (gt a0 a3) 0 h1 rfl p3 p4) 1 fun _ w1 h2=>?_;have e2:(a0.set a1.toNat (gt a0 a3)).length=a0.length:=length_set.trans (rfl:a0.length=a0.length);refine Zd 14 rfl (Zl e1 p1 p2) ?_;refine hS 15 rfl (Zo 0 (.int .u32) a3 (gt a0 a1) 0 h2 rfl p1 (by simpa only [length_set] using p2)) 1 fun _ w2 h3=>?_;have e3:((a0.set a1.toNat (gt a0 a3)).set a3.toNat (gt a0 a1)).length=a0.length:=length_set.trans e2;refine Yy [0,1,2] ?_;refine T4 (env':=[(0,.slice A1 ((a0.set a1.toNat (gt a0 a3)).set a3.toNat (gt a0 a1)).length c_1),(1,.int .i64 a1),(2,.int .i64 a2)]) (by simp only [length_set,length_nil] <;> rfl) ?_;refine Sa (Za [0,1,9,10] ?_);refine Sa (T2 ?_);have h30:=(sOR h3 [0] []);refine T6 (fun kk env w=>∃ x1 x2 x3,Q113.l0 kk a1 x1 x2 x3=some r/\env=[(0,.slice A1 x1.length c_1),(1,.int .i64 a1),(9,.int .i64 x2),(10,.int .i64 x3)]/\St w0 F0 [O24 x1 A1 c_1] [] w/\x1.length=a0.length) (k:=k) ⟨_,_,_,H,rfl,h30,e3⟩ ?_;rintro k1 env w3 ⟨x1,x2,x3,H,rfl,h4,e4⟩;rcases k1 with _ | k1
 ·exact z0 H
 rw [Q113.l0] at H;refine T2 (Sa (T2 ?_));have h29:=(sOR h4 [0] []);refine T6 (fun kk env w=>∃ x4,Q113.l1 kk a1 x1 x3 x4=some r/\env=[(0,.slice A1 x1.length c_1),(1,.int .i64 a1),(9,.int .i64 x4),(10,.int .i64 x3)]/\St w0 F0 [O24 x1 A1 c_1] [] w/\kk<=k1) (k:=k1) ⟨_,H,rfl,h29,Sc _⟩ ?_;rintro k2 env w4 ⟨x4,H,rfl,h5,hk2⟩;rcases k2 with _ | k2
 ·exact z0 H
 rw [Q113.l1] at H;refine Sa (Sa (jH h5 fun h6=>?_));refine Zr [0,1,2,3] ?_;refine Xu 32 H (fun c1 H=>?_) fun c1 H=>?_
 ·refine Zr [4,5,8,9] ?_;refine hX 6 H e1 fun p5 p6 H=>?_;refine Zd 7 rfl (Zc 0 wI (gO 0) p5 p6) ?_;refine hX 10 H e1 fun p7 p8 H=>?_;refine Zd 11 rfl (Zc 0 wI (gO 0) p7 p8) ?_;refine cSJ 12 rfl H [] h6 rfl Q32.spec Zj 0 fun r1 w5 H h7=>?_;refine hRF [13,14] [0,1,9,10,43] ?_;refine jIf H (fun c2 H=>?_) fun c2 H=>?_
  ·refine Sb (T2 (Za [0,1,9,10] ?_));have h8:=(sOR h7 [0] []);exact ⟨k2,by omega,_,H,rfl,h8,by omega⟩
  refine T5 (Sa (T2 (Xt [0,1,9,10] ?_)));have h21:=(sOR h7 [0] []);refine T6 (fun kk env w=>∃ x5,Q113.l2 kk a1 x1 x4 x5=some r/\env=[(0,.slice A1 x1.length c_1),(1,.int .i64 a1),(9,.int .i64 x4),(10,.int .i64 x5)]/\St w0 F0 [O24 x1 A1 c_1] [] w/\kk<=k2) (k:=k2) ⟨_,H,rfl,h21,Sc _⟩ ?_;rintro k3 env w6 ⟨x5,H,rfl,h9,hk3⟩;rcases k3 with _ | k3
  ·exact z0 H
  rw [Q113.l2] at H;refine Sa (Sa (jH h9 fun h10=>?_));refine Zr [0,1,2,3] ?_;refine Xu 49 H (fun c3 H=>?_) fun c3 H=>?_
  ·refine Zr [4,5,8,9] ?_;refine Zd 6 rfl (Zl e1 p5 p6) ?_;refine Zd 7 rfl (Zc 0 wI (gO 0) p5 p6) ?_;refine hX 10 H e1 fun p9 p10 H=>?_;refine Zd 11 rfl (Zc 0 wI (gO 0) p9 p10) ?_;refine cSJ 12 rfl H [] h10 rfl Q32.spec Zj 0 fun r2 w7 H h11=>?_;refine hRF [13] [0,1,9,10,59] ?_;refine jIf H (fun c4 H=>?_) fun c4 H=>?_
   ·refine Sb (T2 (Za [0,1,9,10] ?_));have h12:=(sOR h11 [0] []);exact ⟨k3,by omega,_,H,rfl,h12,by omega⟩
   refine T5 (Sa (Sa (Za [0,1,9,10,64] ?_)));refine jIf H (fun c5 H=>?_) fun c5 H=>?_
   ·refine T5 (Sa (Za [8] ?_));cases H;exact T9 (jR ⟨rfl,rfl,e4⟩ h11 [0])
   refine Sb (Sa (Zt (sO h11 []) ?_));have h13:=h11.drew;refine Zr [0,1,2,3,4,5,8,9] ?_;refine Zd 6 rfl (Zl e1 p9 p10) ?_;refine Zd 10 rfl (Zl e1 p7 p8) ?_;refine T0 (Yr 7 rfl (Zc 0 h13.wht (gO 0) p9 p10) (Yr 11 rfl (Zc 0 h13.wht (gO 0) p7 p8) Wp)) ?_;refine Zd 12 rfl (Zl e1 p7 p8) ?_;refine hS 13 rfl (Zo 0 (.int .u32) x4 (gt x1 x5) 0 h13 rfl p7 p8) 1 fun _ w8 h14=>?_;have e5:(x1.set x4.toNat (gt x1 x5)).length=a0.length:=length_set.trans e4;refine Zd 14 rfl (Zl e1 p9 p10) ?_;refine hS 15 rfl (Zo 0 (.int .u32) x5 (gt x1 x4) 0 h14 rfl p9 (by simpa only [length_set] using p10)) 1 fun _ w9 h15=>?_;have e6:((x1.set x4.toNat (gt x1 x5)).set x5.toNat (gt x1 x4)).length=a0.length:=length_set.trans e5;refine Yy [0,1,9,10] ?_;refine T4 (env':=[(0,.slice A1 ((x1.set x4.toNat (gt x1 x5)).set x5.toNat (gt x1 x4)).length c_1),(1,.int .i64 a1),(9,.int .i64 x4),(10,.int .i64 x5)]) (by simp only [length_set,length_nil] <;> rfl) ?_;refine Sa (Za [0,1,9,10] ?_);refine Za [0,1,9,10] ?_;have h16:=(sOR h15 [0] []);exact ⟨k3,by omega,_,_,_,H,rfl,h16,e6⟩
  refine hRF [4,5,6,7,8,9,10,11,12,13] [0,1,9,10,59] ?_;refine Zx ?_;refine T5 (Sa (Sa (Za [0,1,9,10,64] ?_)));refine jIf H (fun c6 H=>?_) fun c6 H=>?_
  ·refine T5 (Sa (Za [8] ?_));cases H;exact T9 (jR ⟨rfl,rfl,e4⟩ h10 [0])
  refine Sb (Sa (Zt (sO h10 []) ?_));have h17:=h10.drew;refine Zr [0,1,2,3,4,5,8,9] ?_;refine hX 6 H e1 fun p11 p12 H=>?_;refine Zd 10 rfl (Zl e1 p7 p8) ?_;refine T0 (Yr 7 rfl (Zc 0 h17.wht (gO 0) p11 p12) (Yr 11 rfl (Zc 0 h17.wht (gO 0) p7 p8) Wp)) ?_;refine Zd 12 rfl (Zl e1 p7 p8) ?_;refine hS 13 rfl (Zo 0 (.int .u32) x4 (gt x1 x5) 0 h17 rfl p7 p8) 1 fun _ w10 h18=>?_;have e7:(x1.set x4.toNat (gt x1 x5)).length=a0.length:=length_set.trans e4;refine Zd 14 rfl (Zl e1 p11 p12) ?_;refine hS 15 rfl (Zo 0 (.int .u32) x5 (gt x1 x4) 0 h18 rfl p11 (by simpa only [length_set] using p12)) 1 fun _ w11 h19=>?_;have e8:((x1.set x4.toNat (gt x1 x5)).set x5.toNat (gt x1 x4)).length=a0.length:=length_set.trans e7;refine Yy [0,1,9,10] ?_;refine T4 (env':=[(0,.slice A1 ((x1.set x4.toNat (gt x1 x5)).set x5.toNat (gt x1 x4)).length c_1),(1,.int .i64 a1),(9,.int .i64 x4),(10,.int .i64 x5)]) (by simp only [length_set,length_nil] <;> rfl) ?_;refine Sa (Za [0,1,9,10] ?_);refine Za [0,1,9,10] ?_;have h20:=(sOR h19 [0] []);exact ⟨k3,by omega,_,_,_,H,rfl,h20,e8⟩
 refine hRF [4,5,6,7,8,9,10,11,12,13,14] [0,1,9,10,43] ?_;refine Zx ?_;refine T5 (Sa (T2 (Xt [0,1,9,10] ?_)));have h28:=(sOR h6 [0] []);refine T6 (fun kk env w=>Q113.l3 kk a1 x1 x3 x4=some r/\env=[(0,.slice A1 x1.length c_1),(1,.int .i64 a1),(9,.int .i64 x4),(10,.int .i64 x3)]/\St w0 F0 [O24 x1 A1 c_1] [] w/\kk<=k2) (k:=k2) ⟨H,rfl,h28,Sc _⟩ ?_;rintro k4 env w12 ⟨H,rfl,h22,hk4⟩;rcases k4 with _ | k4
 ·exact z0 H
 rw [Q113.l3] at H;refine Sa (Sa (jH h22 fun h23=>?_));refine Zr [0,1,2,3] ?_;refine Zfj 49 (congrArg Value.bool c1) ?_;refine hRF [4,5,6,7,8,9,10,11,12,13] [0,1,9,10,59] ?_;refine Zx ?_;refine T5 (Sa (Sa (Za [0,1,9,10,64] ?_)));refine jIf H (fun c7 H=>?_) fun c7 H=>?_
 ·refine T5 (Sa (Za [8] ?_));cases H;exact T9 (jR ⟨rfl,rfl,e4⟩ h23 [0])
 refine Sb (Sa (Zt (sO h23 []) ?_));have h24:=h23.drew;refine Zr [0,1,2,3,4,5,8,9] ?_;refine hX 6 H e1 fun p13 p14 H=>?_;refine hX 10 H e1 fun p15 p16 H=>?_;refine T0 (Yr 7 rfl (Zc 0 h24.wht (gO 0) p13 p14) (Yr 11 rfl (Zc 0 h24.wht (gO 0) p15 p16) Wp)) ?_;refine Zd 12 rfl (Zl e1 p15 p16) ?_;refine hS 13 rfl (Zo 0 (.int .u32) x4 (gt x1 x3) 0 h24 rfl p15 p16) 1 fun _ w13 h25=>?_;have e9:(x1.set x4.toNat (gt x1 x3)).length=a0.length:=length_set.trans e4;refine Zd 14 rfl (Zl e1 p13 p14) ?_;refine hS 15 rfl (Zo 0 (.int .u32) x3 (gt x1 x4) 0 h25 rfl p13 (by simpa only [length_set] using p14)) 1 fun _ w14 h26=>?_;have e10:((x1.set x4.toNat (gt x1 x3)).set x3.toNat (gt x1 x4)).length=a0.length:=length_set.trans e9;refine Yy [0,1,9,10] ?_;refine T4 (env':=[(0,.slice A1 ((x1.set x4.toNat (gt x1 x3)).set x3.toNat (gt x1 x4)).length c_1),(1,.int .i64 a1),(9,.int .i64 x4),(10,.int .i64 x3)]) (by simp only [length_set,length_nil] <;> rfl) ?_;refine Sa (Za [0,1,9,10] ?_);refine Za [0,1,9,10] ?_;have h27:=(sOR h26 [0] []);exact ⟨k4,by omega,_,_,_,H,rfl,h27,e10⟩

mutual
def Q114.l0:Nat->(Int)->TZ->(Int)->(Int)->Option TM
 | 0,_,_,_,_=>none
 | k+1,a1,x9,x10,x11=>Q114.l2 k a1 x9 x11 x10
def Q114.l1:Nat->(Int)->TZ->(Int)->(Int)->Option TM
 | 0,_,_,_,_=>none
 | k+1,a1,x9,x12,x16=>if (decide (x12<=x16))=true then (if 0<=x16/\x16<(x9.length:Int) then (if 0<=a1/\a1<(x9.length:Int) then ((Q32.f (gt x9 x16) (gt x9 a1)).bind fun r1=>(if (!r1)=true then (Q114.l1 k a1 x9 x12 (w64 (x16 - 1))) else (if (decide (x16<x12))=true then (if 0<=a1/\a1<(x9.length:Int) then (if 0<=x16/\x16<(x9.length:Int) then (some (x16,false,((x9.set x16.toNat (gt x9 a1)).set a1.toNat (gt x9 x16)))) else none) else none) else (if 0<=x16/\x16<(x9.length:Int) then (if 0<=x12/\x12<(x9.length:Int) then (Q114.l0 k a1 ((x9.set x12.toNat (gt x9 x16)).set x16.toNat (gt x9 x12)) (w64 (x12+1)) (w64 (x16 - 1))) else none) else none)))) else none) else none) else (if (decide (x16<x12))=true then (if 0<=a1/\a1<(x9.length:Int) then (if 0<=x16/\x16<(x9.length:Int) then (some (x16,false,((x9.set x16.toNat (gt x9 a1)).set a1.toNat (gt x9 x16)))) else none) else none) else (if 0<=x16/\x16<(x9.length:Int) then (if 0<=x12/\x12<(x9.length:Int) then (Q114.l0 k a1 ((x9.set x12.toNat (gt x9 x16)).set x16.toNat (gt x9 x12)) (w64 (x12+1)) (w64 (x16 - 1))) else none) else none))
def Q114.l2:Nat->(Int)->TZ->(Int)->(Int)->Option TM
 | 0,_,_,_,_=>none
 | k+1,a1,x9,x11,x17=>if (decide (x17<=x11))=true then (if 0<=x17/\x17<(x9.length:Int) then (if 0<=a1/\a1<(x9.length:Int) then ((Q32.f (gt x9 x17) (gt x9 a1)).bind fun r2=>(if r2=true then (Q114.l2 k a1 x9 x11 (w64 (x17+1))) else (Q114.l1 k a1 x9 x17 x11))) else none) else none) else (Q114.l1 k a1 x9 x17 x11)
end
def Q114.l3:Nat->TZ->(Int)->(Int)->(Int)->(Int)->Option TM
 | 0,_,_,_,_,_=>none
 | k+1,a0,a1,a3,x1,x18=>if (decide (x1<=x18))=true then (if 0<=x18/\x18<(((a0.set a1.toNat (gt a0 a3)).set a3.toNat (gt a0 a1)).length:Int) then (if 0<=a1/\a1<(((a0.set a1.toNat (gt a0 a3)).set a3.toNat (gt a0 a1)).length:Int) then ((Q32.f (gt ((a0.set a1.toNat (gt a0 a3)).set a3.toNat (gt a0 a1)) x18) (gt ((a0.set a1.toNat (gt a0 a3)).set a3.toNat (gt a0 a1)) a1)).bind fun r3=>(if (!r3)=true then (Q114.l3 k a0 a1 a3 x1 (w64 (x18 - 1))) else (if (decide (x18<x1))=true then (if 0<=a1/\a1<(((a0.set a1.toNat (gt a0 a3)).set a3.toNat (gt a0 a1)).length:Int) then (if 0<=x18/\x18<(((a0.set a1.toNat (gt a0 a3)).set a3.toNat (gt a0 a1)).length:Int) then (some (x18,true,((((a0.set a1.toNat (gt a0 a3)).set a3.toNat (gt a0 a1)).set x18.toNat (gt ((a0.set a1.toNat (gt a0 a3)).set a3.toNat (gt a0 a1)) a1)).set a1.toNat (gt ((a0.set a1.toNat (gt a0 a3)).set a3.toNat (gt a0 a1)) x18)))) else none) else none) else (if 0<=x18/\x18<(((a0.set a1.toNat (gt a0 a3)).set a3.toNat (gt a0 a1)).length:Int) then (if 0<=x1/\x1<(((a0.set a1.toNat (gt a0 a3)).set a3.toNat (gt a0 a1)).length:Int) then (Q114.l0 k a1 ((((a0.set a1.toNat (gt a0 a3)).set a3.toNat (gt a0 a1)).set x1.toNat (gt ((a0.set a1.toNat (gt a0 a3)).set a3.toNat (gt a0 a1)) x18)).set x18.toNat (gt ((a0.set a1.toNat (gt a0 a3)).set a3.toNat (gt a0 a1)) x1)) (w64 (x1+1)) (w64 (x18 - 1))) else none) else none)))) else none) else none) else (if (decide (x18<x1))=true then (if 0<=a1/\a1<(((a0.set a1.toNat (gt a0 a3)).set a3.toNat (gt a0 a1)).length:Int) then (if 0<=x18/\x18<(((a0.set a1.toNat (gt a0 a3)).set a3.toNat (gt a0 a1)).length:Int) then (some (x18,true,((((a0.set a1.toNat (gt a0 a3)).set a3.toNat (gt a0 a1)).set x18.toNat (gt ((a0.set a1.toNat (gt a0 a3)).set a3.toNat (gt a0 a1)) a1)).set a1.toNat (gt ((a0.set a1.toNat (gt a0 a3)).set a3.toNat (gt a0 a1)) x18)))) else none) else none) else (if 0<=x18/\x18<(((a0.set a1.toNat (gt a0 a3)).set a3.toNat (gt a0 a1)).length:Int) then (if 0<=x1/\x1<(((a0.set a1.toNat (gt a0 a3)).set a3.toNat (gt a0 a1)).length:Int) then (Q114.l0 k a1 ((((a0.set a1.toNat (gt a0 a3)).set a3.toNat (gt a0 a1)).set x1.toNat (gt ((a0.set a1.toNat (gt a0 a3)).set a3.toNat (gt a0 a1)) x18)).set x18.toNat (gt ((a0.set a1.toNat (gt a0 a3)).set a3.toNat (gt a0 a1)) x1)) (w64 (x1+1)) (w64 (x18 - 1))) else none) else none))
def Q114.l4:Nat->TZ->(Int)->(Int)->(Int)->(Int)->Option TM
 | 0,_,_,_,_,_=>none
 | k+1,a0,a1,a2,a3,x19=>if (decide (x19<=(w64 (a2 - 1))))=true then (if 0<=x19/\x19<(((a0.set a1.toNat (gt a0 a3)).set a3.toNat (gt a0 a1)).length:Int) then (if 0<=a1/\a1<(((a0.set a1.toNat (gt a0 a3)).set a3.toNat (gt a0 a1)).length:Int) then ((Q32.f (gt ((a0.set a1.toNat (gt a0 a3)).set a3.toNat (gt a0 a1)) x19) (gt ((a0.set a1.toNat (gt a0 a3)).set a3.toNat (gt a0 a1)) a1)).bind fun r4=>(if r4=true then (Q114.l4 k a0 a1 a2 a3 (w64 (x19+1))) else (Q114.l3 k a0 a1 a3 x19 (w64 (a2 - 1))))) else none) else none) else (Q114.l3 k a0 a1 a3 x19 (w64 (a2 - 1)))
def Q114.f (k:Nat) (a0:TZ) (a1:Int) (a2:Int) (a3:Int):Option TM:=if 0<=a3/\a3<(a0.length:Int) then (if 0<=a1/\a1<(a0.length:Int) then (Q114.l4 k a0 a1 a2 a3 (w64 (a1+1))) else none) else none
theorem Q114.spec {k a0 a1 a2 a3 A1 c_1 r} (H:Q114.f k a0 a1 a2 a3=some r) :
  Spec prog 46 [.slice A1 a0.length c_1,.int .i64 a1,.int .i64 a2,.int .i64 a3] [O24 a0 A1 c_1] [] (fun v l=>v=.tuple #[.int .i64 r.1,.bool r.2.1]/\l=[O24 r.2.2 A1 c_1]/\r.2.2.length=a0.length):=by
 refine Zh Tryz.func46 fun w0 F0 h0=>?_;unfold Q114.f at H;refine Sa (Za [0,1,2,3] ?_);refine Sa (Zt (sO h0 []) ?_);have h1:=h0.drew;refine Zr [0,1,2,3,4,5,8,9] ?_;refine hI 6 H h1 (gO 0) fun p1 p2 e1 H=>?_;refine hX 10 H e1 fun p3 p4 H=>?_;refine T0 (Yr 7 rfl (Zc 0 h1.wht (gO 0) p1 p2) (Yr 11 rfl (Zc 0 h1.wht (gO 0) p3 p4) Wp)) ?_;refine Zd 12 rfl (Zl e1 p3 p4) ?_;refine hS 13 rfl (Zo 0 (.int .u32) a1 (gt a0 a3) 0 h1 rfl p3 p4) 1 fun _ w1 h2=>?_;have e2:(a0.set a1.toNat (gt a0 a3)).length=a0.length:=length_set.trans (rfl:a0.length=a0.length);refine Zd 14 rfl (Zl e1 p1 p2) ?_;refine hS 15 rfl (Zo 0 (.int .u32) a3 (gt a0 a1) 0 h2 rfl p1 (by simpa only [length_set] using p2)) 1 fun _ w2 h3=>?_;have e3:((a0.set a1.toNat (gt a0 a3)).set a3.toNat (gt a0 a1)).length=a0.length:=length_set.trans e2;refine Yy [0,1,2] ?_;refine T4 (env':=[(0,.slice A1 ((a0.set a1.toNat (gt a0 a3)).set a3.toNat (gt a0 a1)).length c_1),(1,.int .i64 a1),(2,.int .i64 a2)]) (by simp only [length_set,length_nil] <;> rfl) ?_;refine Sa (Za [0,1,10,11] ?_);refine Sa (T7 (fun env w=>∃(k1:Nat) (x1:Int) (x2:Bool),env=[(0,.slice A1 ((a0.set a1.toNat (gt a0 a3)).set a3.toNat (gt a0 a1)).length c_1),(1,.int .i64 a1),(10,.int .i64 x1),(11,.int .i64 (w64 (a2 - 1))),(43,.bool x2)]/\St w0 F0 [O24 ((a0.set a1.toNat (gt a0 a3)).set a3.toNat (gt a0 a1)) A1 c_1] [] w/\(Q114.l3 k1 a0 a1 a3 x1 (w64 (a2 - 1)))=some r/\k1<=k) ?_ ?_)
 ·refine T2 ?_;have h52:=(sOR h3 [0] []);refine T6 (fun kk env w=>∃ x19,Q114.l4 kk a0 a1 a2 a3 x19=some r/\env=[(0,.slice A1 ((a0.set a1.toNat (gt a0 a3)).set a3.toNat (gt a0 a1)).length c_1),(1,.int .i64 a1),(10,.int .i64 x19),(11,.int .i64 (w64 (a2 - 1)))]/\St w0 F0 [O24 ((a0.set a1.toNat (gt a0 a3)).set a3.toNat (gt a0 a1)) A1 c_1] [] w/\kk<=k) (k:=k) ⟨_,H,rfl,h52,Sc _⟩ ?_;rintro k10 env w28 ⟨x19,H,rfl,h46,hk10⟩;rcases k10 with _ | k10
  ·exact z0 H
  rw [Q114.l4] at H;refine Sa (Sa (jH h46 fun h47=>?_));refine Zr [0,1,2,3] ?_;refine Xu 33 H (fun c9 H=>?_) fun c9 H=>?_
  ·refine Zr [4,5,8,9] ?_;refine hX 6 H e1 fun p33 p34 H=>?_;refine Zd 7 rfl (Zc 0 wI (gO 0) p33 p34) ?_;refine hX 10 H e1 fun p35 p36 H=>?_;refine Zd 11 rfl (Zc 0 wI (gO 0) p35 p36) ?_;refine cSJ 12 rfl H [] h47 rfl Q32.spec Zj 0 fun r4 w29 H h48=>?_;refine hRF [13] [0,1,10,11,43] ?_;refine jIf H (fun c10 H=>?_) fun c10 H=>?_
   ·refine Sb (T2 (Za [0,1,10,11] ?_));have h49:=(sOR h48 [0] []);exact ⟨k10,by omega,_,H,rfl,h49,by omega⟩
   refine T5 ?_;have h50:=(sOR h48 [0] []);exact ⟨k10,x19,r4,rfl,h50,H,by omega⟩
  refine hRF [4,5,6,7,8,9,10,11,12,13] [0,1,10,11,43] ?_;refine Zx ?_;refine T5 ?_;have h51:=(sOR h47 [0] []);exact ⟨k10,x19,false,rfl,h51,H,by omega⟩
 rintro env w4 ⟨k1,x1,x2,rfl,h4,H,hk1⟩;refine Sa (T7 (fun env w=>∃(k2:Nat) (x3:Int) (x4:Bool),env=[(0,.slice A1 ((a0.set a1.toNat (gt a0 a3)).set a3.toNat (gt a0 a1)).length c_1),(1,.int .i64 a1),(10,.int .i64 x1),(11,.int .i64 x3),(60,.bool x4)]/\St w0 F0 [O24 ((a0.set a1.toNat (gt a0 a3)).set a3.toNat (gt a0 a1)) A1 c_1] [] w/\(if (decide (x3<x1))=true then (if 0<=a1/\a1<(((a0.set a1.toNat (gt a0 a3)).set a3.toNat (gt a0 a1)).length:Int) then (if 0<=x3/\x3<(((a0.set a1.toNat (gt a0 a3)).set a3.toNat (gt a0 a1)).length:Int) then (some (x3,true,((((a0.set a1.toNat (gt a0 a3)).set a3.toNat (gt a0 a1)).set x3.toNat (gt ((a0.set a1.toNat (gt a0 a3)).set a3.toNat (gt a0 a1)) a1)).set a1.toNat (gt ((a0.set a1.toNat (gt a0 a3)).set a3.toNat (gt a0 a1)) x3)))) else none) else none) else (if 0<=x3/\x3<(((a0.set a1.toNat (gt a0 a3)).set a3.toNat (gt a0 a1)).length:Int) then (if 0<=x1/\x1<(((a0.set a1.toNat (gt a0 a3)).set a3.toNat (gt a0 a1)).length:Int) then (Q114.l0 k2 a1 ((((a0.set a1.toNat (gt a0 a3)).set a3.toNat (gt a0 a1)).set x1.toNat (gt ((a0.set a1.toNat (gt a0 a3)).set a3.toNat (gt a0 a1)) x3)).set x3.toNat (gt ((a0.set a1.toNat (gt a0 a3)).set a3.toNat (gt a0 a1)) x1)) (w64 (x1+1)) (w64 (x3 - 1))) else none) else none))=some r/\k2<=k1) ?_ ?_)
 ·refine T2 (Xt [0,1,10,11] ?_);have h45:=(sOR h4 [0] []);refine T6 (fun kk env w=>∃ x18,Q114.l3 kk a0 a1 a3 x1 x18=some r/\env=[(0,.slice A1 ((a0.set a1.toNat (gt a0 a3)).set a3.toNat (gt a0 a1)).length c_1),(1,.int .i64 a1),(10,.int .i64 x1),(11,.int .i64 x18)]/\St w0 F0 [O24 ((a0.set a1.toNat (gt a0 a3)).set a3.toNat (gt a0 a1)) A1 c_1] [] w/\kk<=k1) (k:=k1) ⟨_,H,rfl,h45,Sc _⟩ ?_;rintro k9 env w26 ⟨x18,H,rfl,h39,hk9⟩;rcases k9 with _ | k9
  ·exact z0 H
  rw [Q114.l3] at H;refine Sa (Sa (jH h39 fun h40=>?_));refine Zr [0,1,2,3] ?_;refine Xu 49 H (fun c7 H=>?_) fun c7 H=>?_
  ·refine Zr [4,5,8,9] ?_;refine hX 6 H e1 fun p29 p30 H=>?_;refine Zd 7 rfl (Zc 0 wI (gO 0) p29 p30) ?_;refine hX 10 H e1 fun p31 p32 H=>?_;refine Zd 11 rfl (Zc 0 wI (gO 0) p31 p32) ?_;refine cSJ 12 rfl H [] h40 rfl Q32.spec Zj 0 fun r3 w27 H h41=>?_;refine hRF [13,14] [0,1,10,11,60] ?_;refine jIf H (fun c8 H=>?_) fun c8 H=>?_
   ·refine Sb (T2 (Za [0,1,10,11] ?_));have h42:=(sOR h41 [0] []);exact ⟨k9,by omega,_,H,rfl,h42,by omega⟩
   refine T5 ?_;have h43:=(sOR h41 [0] []);exact ⟨k9,x18,(!r3),rfl,h43,H,by omega⟩
  refine hRF [4,5,6,7,8,9,10,11,12,13,14] [0,1,10,11,60] ?_;refine Zx ?_;refine T5 ?_;have h44:=(sOR h40 [0] []);exact ⟨k9,x18,false,rfl,h44,H,by omega⟩
 rintro env w6 ⟨k2,x3,x4,rfl,h5,H,hk2⟩;refine Sa (Sa (Za [0,1,10,11,65] ?_));refine jIf H (fun c1 H=>?_) fun c1 H=>?_
 ·refine Sa (Zt (sO h5 []) ?_);have h6:=h5.drew;refine Zr [0,1,2,3,4,5,8,9] ?_;refine hX 6 H e1 fun p5 p6 H=>?_;refine hX 10 H e1 fun p7 p8 H=>?_;refine T0 (Yr 7 rfl (Zc 0 h6.wht (gO 0) p5 p6) (Yr 11 rfl (Zc 0 h6.wht (gO 0) p7 p8) Wp)) ?_;refine Zd 12 rfl (Zl e1 p7 p8) ?_;refine hS 13 rfl (Zo 0 (.int .u32) x3 (gt ((a0.set a1.toNat (gt a0 a3)).set a3.toNat (gt a0 a1)) a1) 0 h6 rfl p7 p8) 1 fun _ w7 h7=>?_;have e4:(((a0.set a1.toNat (gt a0 a3)).set a3.toNat (gt a0 a1)).set x3.toNat (gt ((a0.set a1.toNat (gt a0 a3)).set a3.toNat (gt a0 a1)) a1)).length=a0.length:=length_set.trans e3;refine Zd 14 rfl (Zl e1 p5 p6) ?_;refine hS 15 rfl (Zo 0 (.int .u32) a1 (gt ((a0.set a1.toNat (gt a0 a3)).set a3.toNat (gt a0 a1)) x3) 0 h7 rfl p5 (by simpa only [length_set] using p6)) 1 fun _ w8 h8=>?_;have e5:((((a0.set a1.toNat (gt a0 a3)).set a3.toNat (gt a0 a1)).set x3.toNat (gt ((a0.set a1.toNat (gt a0 a3)).set a3.toNat (gt a0 a1)) a1)).set a1.toNat (gt ((a0.set a1.toNat (gt a0 a3)).set a3.toNat (gt a0 a1)) x3)).length=a0.length:=length_set.trans e4;refine Yy [11] ?_;refine Sa (Za [8,9] ?_);cases H;exact T9 (jR ⟨rfl,rfl,e5⟩ h8 [0])
 refine Sb (Sa (Zt (sO h5 []) ?_));have h9:=h5.drew;refine Zr [0,1,2,3,4,5,8,9] ?_;refine hX 6 H e1 fun p9 p10 H=>?_;refine hX 10 H e1 fun p11 p12 H=>?_;refine T0 (Yr 7 rfl (Zc 0 h9.wht (gO 0) p9 p10) (Yr 11 rfl (Zc 0 h9.wht (gO 0) p11 p12) Wp)) ?_;refine Zd 12 rfl (Zl e1 p11 p12) ?_;refine hS 13 rfl (Zo 0 (.int .u32) x1 (gt ((a0.set a1.toNat (gt a0 a3)).set a3.toNat (gt a0 a1)) x3) 0 h9 rfl p11 p12) 1 fun _ w9 h10=>?_;have e6:(((a0.set a1.toNat (gt a0 a3)).set a3.toNat (gt a0 a1)).set x1.toNat (gt ((a0.set a1.toNat (gt a0 a3)).set a3.toNat (gt a0 a1)) x3)).length=a0.length:=length_set.trans e3;refine Zd 14 rfl (Zl e1 p9 p10) ?_;refine hS 15 rfl (Zo 0 (.int .u32) x3 (gt ((a0.set a1.toNat (gt a0 a3)).set a3.toNat (gt a0 a1)) x1) 0 h10 rfl p9 (by simpa only [length_set] using p10)) 1 fun _ w10 h11=>?_;have e7:((((a0.set a1.toNat (gt a0 a3)).set a3.toNat (gt a0 a1)).set x1.toNat (gt ((a0.set a1.toNat (gt a0 a3)).set a3.toNat (gt a0 a1)) x3)).set x3.toNat (gt ((a0.set a1.toNat (gt a0 a3)).set a3.toNat (gt a0 a1)) x1)).length=a0.length:=length_set.trans e6;refine Yy [0,1,10,11] ?_;refine T4 (env':=[(0,.slice A1 ((((a0.set a1.toNat (gt a0 a3)).set a3.toNat (gt a0 a1)).set x1.toNat (gt ((a0.set a1.toNat (gt a0 a3)).set a3.toNat (gt a0 a1)) x3)).set x3.toNat (gt ((a0.set a1.toNat (gt a0 a3)).set a3.toNat (gt a0 a1)) x1)).length c_1),(1,.int .i64 a1),(10,.int .i64 x1),(11,.int .i64 x3)]) (by simp only [length_set,length_nil] <;> rfl) ?_;refine Sa (Za [0,1,10,11] ?_);refine Sa (Za [0,1,10,11] ?_);refine Sa (T7 (fun env w=>∃(x5:TZ) (x6:Int) (x7:Int) (x8:Bool),env=[(0,.slice A1 x5.length c_1),(1,.int .i64 a1),(10,.int .i64 x6),(11,.int .i64 x7),(134,.bool x8)]/\St w0 F0 [O24 x5 A1 c_1] [] w/\(if 0<=a1/\a1<(x5.length:Int) then (if 0<=x7/\x7<(x5.length:Int) then (some (x7,false,((x5.set x7.toNat (gt x5 a1)).set a1.toNat (gt x5 x7)))) else none) else none)=some r/\x5.length=a0.length) ?_ ?_)
 ·refine T2 ?_;have h38:=(sOR h11 [0] []);refine T6 (fun kk env w=>∃ x9 x10 x11,Q114.l0 kk a1 x9 x10 x11=some r/\env=[(0,.slice A1 x9.length c_1),(1,.int .i64 a1),(10,.int .i64 x10),(11,.int .i64 x11)]/\St w0 F0 [O24 x9 A1 c_1] [] w/\kk<=k2/\x9.length=a0.length) (k:=k2) ⟨_,_,_,H,rfl,h38,Sc _,e7⟩ ?_;rintro k4 env w15 ⟨x9,x10,x11,H,rfl,h16,hk4,e11⟩;rcases k4 with _ | k4
  ·exact z0 H
  rw [Q114.l0] at H;refine T2 (Sa (T7 (fun env w=>∃(k5:Nat) (x12:Int) (x13:Bool),env=[(0,.slice A1 x9.length c_1),(1,.int .i64 a1),(10,.int .i64 x12),(11,.int .i64 x11),(112,.bool x13)]/\St w0 F0 [O24 x9 A1 c_1] [] w/\(Q114.l1 k5 a1 x9 x12 x11)=some r/\k5<=k4) ?_ ?_))
  ·refine T2 ?_;have h37:=(sOR h16 [0] []);refine T6 (fun kk env w=>∃ x17,Q114.l2 kk a1 x9 x11 x17=some r/\env=[(0,.slice A1 x9.length c_1),(1,.int .i64 a1),(10,.int .i64 x17),(11,.int .i64 x11)]/\St w0 F0 [O24 x9 A1 c_1] [] w/\kk<=k4) (k:=k4) ⟨_,H,rfl,h37,Sc _⟩ ?_;rintro k8 env w24 ⟨x17,H,rfl,h31,hk8⟩;rcases k8 with _ | k8
   ·exact z0 H
   rw [Q114.l2] at H;refine Sa (Sa (jH h31 fun h32=>?_));refine Zr [0,1,2,3] ?_;refine Xu 102 H (fun c5 H=>?_) fun c5 H=>?_
   ·refine Zr [4,5,8,9] ?_;refine hX 6 H e1 fun p25 p26 H=>?_;refine Zd 7 rfl (Zc 0 wI (gO 0) p25 p26) ?_;refine hX 10 H e1 fun p27 p28 H=>?_;refine Zd 11 rfl (Zc 0 wI (gO 0) p27 p28) ?_;refine cSJ 12 rfl H [] h32 rfl Q32.spec Zj 0 fun r2 w25 H h33=>?_;refine hRF [13] [0,1,10,11,112] ?_;refine jIf H (fun c6 H=>?_) fun c6 H=>?_
    ·refine Sb (T2 (Za [0,1,10,11] ?_));have h34:=(sOR h33 [0] []);exact ⟨k8,by omega,_,H,rfl,h34,by omega⟩
    refine T5 ?_;have h35:=(sOR h33 [0] []);exact ⟨k8,x17,r2,rfl,h35,H,by omega⟩
   refine hRF [4,5,6,7,8,9,10,11,12,13] [0,1,10,11,112] ?_;refine Zx ?_;refine T5 ?_;have h36:=(sOR h32 [0] []);exact ⟨k8,x17,false,rfl,h36,H,by omega⟩
  rintro env w17 ⟨k5,x12,x13,rfl,h17,H,hk5⟩;refine Sa (T7 (fun env w=>∃(k6:Nat) (x14:Int) (x15:Bool),env=[(0,.slice A1 x9.length c_1),(1,.int .i64 a1),(10,.int .i64 x12),(11,.int .i64 x14),(129,.bool x15)]/\St w0 F0 [O24 x9 A1 c_1] [] w/\(if (decide (x14<x12))=true then (if 0<=a1/\a1<(x9.length:Int) then (if 0<=x14/\x14<(x9.length:Int) then (some (x14,false,((x9.set x14.toNat (gt x9 a1)).set a1.toNat (gt x9 x14)))) else none) else none) else (if 0<=x14/\x14<(x9.length:Int) then (if 0<=x12/\x12<(x9.length:Int) then (Q114.l0 k6 a1 ((x9.set x12.toNat (gt x9 x14)).set x14.toNat (gt x9 x12)) (w64 (x12+1)) (w64 (x14 - 1))) else none) else none))=some r/\k6<=k5) ?_ ?_)
  ·refine T2 (Xt [0,1,10,11] ?_);have h30:=(sOR h17 [0] []);refine T6 (fun kk env w=>∃ x16,Q114.l1 kk a1 x9 x12 x16=some r/\env=[(0,.slice A1 x9.length c_1),(1,.int .i64 a1),(10,.int .i64 x12),(11,.int .i64 x16)]/\St w0 F0 [O24 x9 A1 c_1] [] w/\kk<=k5) (k:=k5) ⟨_,H,rfl,h30,Sc _⟩ ?_;rintro k7 env w22 ⟨x16,H,rfl,h24,hk7⟩;rcases k7 with _ | k7
   ·exact z0 H
   rw [Q114.l1] at H;refine Sa (Sa (jH h24 fun h25=>?_));refine Zr [0,1,2,3] ?_;refine Xu 118 H (fun c3 H=>?_) fun c3 H=>?_
   ·refine Zr [4,5,8,9] ?_;refine hX 6 H e1 fun p21 p22 H=>?_;refine Zd 7 rfl (Zc 0 wI (gO 0) p21 p22) ?_;refine hX 10 H e1 fun p23 p24 H=>?_;refine Zd 11 rfl (Zc 0 wI (gO 0) p23 p24) ?_;refine cSJ 12 rfl H [] h25 rfl Q32.spec Zj 0 fun r1 w23 H h26=>?_;refine hRF [13,14] [0,1,10,11,129] ?_;refine jIf H (fun c4 H=>?_) fun c4 H=>?_
    ·refine Sb (T2 (Za [0,1,10,11] ?_));have h27:=(sOR h26 [0] []);exact ⟨k7,by omega,_,H,rfl,h27,by omega⟩
    refine T5 ?_;have h28:=(sOR h26 [0] []);exact ⟨k7,x16,(!r1),rfl,h28,H,by omega⟩
   refine hRF [4,5,6,7,8,9,10,11,12,13,14] [0,1,10,11,129] ?_;refine Zx ?_;refine T5 ?_;have h29:=(sOR h25 [0] []);exact ⟨k7,x16,false,rfl,h29,H,by omega⟩
  rintro env w19 ⟨k6,x14,x15,rfl,h18,H,hk6⟩;refine Sa (Sa (Za [0,1,10,11,134] ?_));refine jIf H (fun c2 H=>?_) fun c2 H=>?_
  ·refine T5 ?_;have h19:=(sOR h18 [0] []);exact ⟨x9,x12,x14,(decide (x14<x12)),rfl,h19,H,e11⟩
  refine Sb (Sa (Zt (sO h18 []) ?_));have h20:=h18.drew;refine Zr [0,1,2,3,4,5,8,9] ?_;refine hX 6 H e1 fun p17 p18 H=>?_;refine hX 10 H e1 fun p19 p20 H=>?_;refine T0 (Yr 7 rfl (Zc 0 h20.wht (gO 0) p17 p18) (Yr 11 rfl (Zc 0 h20.wht (gO 0) p19 p20) Wp)) ?_;refine Zd 12 rfl (Zl e1 p19 p20) ?_;refine hS 13 rfl (Zo 0 (.int .u32) x12 (gt x9 x14) 0 h20 rfl p19 p20) 1 fun _ w20 h21=>?_;have e12:(x9.set x12.toNat (gt x9 x14)).length=a0.length:=length_set.trans e11;refine Zd 14 rfl (Zl e1 p17 p18) ?_;refine hS 15 rfl (Zo 0 (.int .u32) x14 (gt x9 x12) 0 h21 rfl p17 (by simpa only [length_set] using p18)) 1 fun _ w21 h22=>?_;have e13:((x9.set x12.toNat (gt x9 x14)).set x14.toNat (gt x9 x12)).length=a0.length:=length_set.trans e12;refine Yy [0,1,10,11] ?_;refine T4 (env':=[(0,.slice A1 ((x9.set x12.toNat (gt x9 x14)).set x14.toNat (gt x9 x12)).length c_1),(1,.int .i64 a1),(10,.int .i64 x12),(11,.int .i64 x14)]) (by simp only [length_set,length_nil] <;> rfl) ?_;refine Sa (Za [0,1,10,11] ?_);refine Za [0,1,10,11] ?_;have h23:=(sOR h22 [0] []);exact ⟨k6,by omega,_,_,_,H,rfl,h23,by omega,e13⟩
 rintro env w12 ⟨x5,x6,x7,x8,rfl,h12,H,e8⟩;refine Sa (Zt (sO h12 []) ?_);have h13:=h12.drew;refine Zr [0,1,2,3,4,5,8,9] ?_;refine hX 6 H e1 fun p13 p14 H=>?_;refine hX 10 H e1 fun p15 p16 H=>?_;refine T0 (Yr 7 rfl (Zc 0 h13.wht (gO 0) p13 p14) (Yr 11 rfl (Zc 0 h13.wht (gO 0) p15 p16) Wp)) ?_;refine Zd 12 rfl (Zl e1 p15 p16) ?_;refine hS 13 rfl (Zo 0 (.int .u32) x7 (gt x5 a1) 0 h13 rfl p15 p16) 1 fun _ w13 h14=>?_;have e9:(x5.set x7.toNat (gt x5 a1)).length=a0.length:=length_set.trans e8;refine Zd 14 rfl (Zl e1 p13 p14) ?_;refine hS 15 rfl (Zo 0 (.int .u32) a1 (gt x5 x7) 0 h14 rfl p13 (by simpa only [length_set] using p14)) 1 fun _ w14 h15=>?_;have e10:((x5.set x7.toNat (gt x5 a1)).set a1.toNat (gt x5 x7)).length=a0.length:=length_set.trans e9;refine Yy [11] ?_;refine Sa (Za [8,9] ?_);cases H;exact T9 (jR ⟨rfl,rfl,e10⟩ h15 [0])

def Q110.f (a0:Int):Option (Int):=(Q0.f (uH.wrap (a0))).bind fun r1=>(if 0<=r1 then (some (uH.wrap ((1:Int)*2 ^ (min r1.toNat 64)))) else none)
theorem Q110.spec {a0 r} (H:Q110.f a0=some r) :
  Spec prog 73 [.int .i64 a0] [] [] (fun v l=>v=.int .u64 r/\l=[]):=by
 refine Zh Tryz.func73 fun w0 F0 h0=>?_;unfold Q110.f at H;refine Sa (Za [0] ?_);refine Sa (T8 (Zb 2 ?_));refine cS H [] h0 rfl Q0.spec Zj fun r1 w1 H h1=>?_;obtain ⟨p1,H⟩:=Zn H;refine Zk (Ji p1) ?_;refine rFi [2] ?_;cases H;exact T9 (jR0 h1 [])

def Q118.f (a0:Int):Option TY:=some ((uH.wrap (((ofInt uH.bits (uH.wrap (((ofInt uH.bits (uH.wrap (((ofInt uH.bits a0 ^^^ (ofInt uH.bits (uH.wrap (a0*2 ^ 13)))).toNat:Int))) ^^^ (ofInt uH.bits (Int.fdiv (uH.wrap (((ofInt uH.bits a0 ^^^ (ofInt uH.bits (uH.wrap (a0*2 ^ 13)))).toNat:Int))) (2 ^ 7)))).toNat:Int))) ^^^ (ofInt uH.bits (uH.wrap ((uH.wrap (((ofInt uH.bits (uH.wrap (((ofInt uH.bits a0 ^^^ (ofInt uH.bits (uH.wrap (a0*2 ^ 13)))).toNat:Int))) ^^^ (ofInt uH.bits (Int.fdiv (uH.wrap (((ofInt uH.bits a0 ^^^ (ofInt uH.bits (uH.wrap (a0*2 ^ 13)))).toNat:Int))) (2 ^ 7)))).toNat:Int)))*2 ^ 17)))).toNat:Int))),(uH.wrap (((ofInt uH.bits (uH.wrap (((ofInt uH.bits (uH.wrap (((ofInt uH.bits a0 ^^^ (ofInt uH.bits (uH.wrap (a0*2 ^ 13)))).toNat:Int))) ^^^ (ofInt uH.bits (Int.fdiv (uH.wrap (((ofInt uH.bits a0 ^^^ (ofInt uH.bits (uH.wrap (a0*2 ^ 13)))).toNat:Int))) (2 ^ 7)))).toNat:Int))) ^^^ (ofInt uH.bits (uH.wrap ((uH.wrap (((ofInt uH.bits (uH.wrap (((ofInt uH.bits a0 ^^^ (ofInt uH.bits (uH.wrap (a0*2 ^ 13)))).toNat:Int))) ^^^ (ofInt uH.bits (Int.fdiv (uH.wrap (((ofInt uH.bits a0 ^^^ (ofInt uH.bits (uH.wrap (a0*2 ^ 13)))).toNat:Int))) (2 ^ 7)))).toNat:Int)))*2 ^ 17)))).toNat:Int))))
theorem Q118.spec {a0 b1 r} (H:Q118.f a0=some r) :
  Spec prog 74 [.pointer (some ⟨b1,0,none⟩)] [Zbi b1 a0] [] (fun v l=>v=.int .u64 r.1/\l=[Zbi b1 r.2]):=by
 refine Zh Tryz.func74 fun w0 F0 h0=>?_;unfold Q118.f at H;refine Sa (Za [0] ?_);refine Sa (T7 (fun env w=>env=[(0,.pointer (some ⟨b1,0,none⟩))]/\St w0 F0 [Zbi b1 (uH.wrap (((ofInt uH.bits a0 ^^^ (ofInt uH.bits (uH.wrap (a0*2 ^ 13)))).toNat:Int)))] [] w) ?_ ?_)
 ·refine Zt (sO h0 []) ?_;have h2:=h0.drew;refine Zr [0,1,3,4] ?_;refine T1 [2,5] (i:=2) rfl rfl rfl rfl ?_;refine (Xb ?_ (Xb ?_ Vt))
  ·refine hQS 2 rfl (Ze 0 h2.wht) h2 1 fun h2=>?_;refine hQ 5 rfl (Ze 0 h2.wht) h2 1 fun h2=>?_;refine Zr [6,7,8] ?_;refine hS 9 rfl (Zp 0 h2) 1 fun _ w22 h7=>?_;refine Yy [0] ?_;exact Yv ⟨rfl,(sOR h7 [0] [])⟩
  ·refine hQS 5 rfl (Ze 0 h2.wht) h2 1 fun h2=>?_;refine Zr [6] ?_;refine hQ 2 rfl (Ze 0 h2.wht) h2 1 fun h2=>?_;refine Zr [7,8] ?_;refine hS 9 rfl (Zp 0 h2) 1 fun _ w25 h8=>?_;refine Yy [0] ?_;exact Yv ⟨rfl,(sOR h8 [0] [])⟩
 rintro env w26 ⟨rfl,h9⟩;refine Sa (T7 (fun env w=>env=[(0,.pointer (some ⟨b1,0,none⟩))]/\St w0 F0 [Zbi b1 (uH.wrap (((ofInt uH.bits (uH.wrap (((ofInt uH.bits a0 ^^^ (ofInt uH.bits (uH.wrap (a0*2 ^ 13)))).toNat:Int))) ^^^ (ofInt uH.bits (Int.fdiv (uH.wrap (((ofInt uH.bits a0 ^^^ (ofInt uH.bits (uH.wrap (a0*2 ^ 13)))).toNat:Int))) (2 ^ 7)))).toNat:Int)))] [] w) ?_ ?_)
 ·refine Zt (sO h9 []) ?_;have h11:=h9.drew;refine Zr [0,1,3,4] ?_;refine T1 [2,5] (i:=2) rfl rfl rfl rfl ?_;refine (Xb ?_ (Xb ?_ Vt))
  ·refine hQS 2 rfl (Ze 0 h11.wht) h11 1 fun h11=>?_;refine hQ 5 rfl (Ze 0 h11.wht) h11 1 fun h11=>?_;refine Zr [6,7,8] ?_;refine hS 9 rfl (Zp 0 h11) 1 fun _ w48 h16=>?_;refine Yy [0] ?_;exact Yv ⟨rfl,(sOR h16 [0] [])⟩
  ·refine hQS 5 rfl (Ze 0 h11.wht) h11 1 fun h11=>?_;refine Zr [6] ?_;refine hQ 2 rfl (Ze 0 h11.wht) h11 1 fun h11=>?_;refine Zr [7,8] ?_;refine hS 9 rfl (Zp 0 h11) 1 fun _ w51 h17=>?_;refine Yy [0] ?_;exact Yv ⟨rfl,(sOR h17 [0] [])⟩
 rintro env w52 ⟨rfl,h18⟩;refine Sa (T7 (fun env w=>env=[(0,.pointer (some ⟨b1,0,none⟩))]/\St w0 F0 [Zbi b1 (uH.wrap (((ofInt uH.bits (uH.wrap (((ofInt uH.bits (uH.wrap (((ofInt uH.bits a0 ^^^ (ofInt uH.bits (uH.wrap (a0*2 ^ 13)))).toNat:Int))) ^^^ (ofInt uH.bits (Int.fdiv (uH.wrap (((ofInt uH.bits a0 ^^^ (ofInt uH.bits (uH.wrap (a0*2 ^ 13)))).toNat:Int))) (2 ^ 7)))).toNat:Int))) ^^^ (ofInt uH.bits (uH.wrap ((uH.wrap (((ofInt uH.bits (uH.wrap (((ofInt uH.bits a0 ^^^ (ofInt uH.bits (uH.wrap (a0*2 ^ 13)))).toNat:Int))) ^^^ (ofInt uH.bits (Int.fdiv (uH.wrap (((ofInt uH.bits a0 ^^^ (ofInt uH.bits (uH.wrap (a0*2 ^ 13)))).toNat:Int))) (2 ^ 7)))).toNat:Int)))*2 ^ 17)))).toNat:Int)))] [] w) ?_ ?_)
 ·refine Zt (sO h18 []) ?_;have h20:=h18.drew;refine Zr [0,1,3,4] ?_;refine T1 [2,5] (i:=2) rfl rfl rfl rfl ?_;refine (Xb ?_ (Xb ?_ Vt))
  ·refine hQS 2 rfl (Ze 0 h20.wht) h20 1 fun h20=>?_;refine hQ 5 rfl (Ze 0 h20.wht) h20 1 fun h20=>?_;refine Zr [6,7,8] ?_;refine hS 9 rfl (Zp 0 h20) 1 fun _ w75 h25=>?_;refine Yy [0] ?_;exact Yv ⟨rfl,(sOR h25 [0] [])⟩
  ·refine hQS 5 rfl (Ze 0 h20.wht) h20 1 fun h20=>?_;refine Zr [6] ?_;refine hQ 2 rfl (Ze 0 h20.wht) h20 1 fun h20=>?_;refine Zr [7,8] ?_;refine hS 9 rfl (Zp 0 h20) 1 fun _ w78 h26=>?_;refine Yy [0] ?_;exact Yv ⟨rfl,(sOR h26 [0] [])⟩
 rintro env w79 ⟨rfl,h27⟩;refine Sa (T8 (rRL 2 0 h27 ?_));refine rFi [2] ?_;cases H;exact T9 (jR0 h27 [0])

def Q104.l0:Nat->(Int)->(Int)->(Int)->TZ->(Int)->(Int)->Option TZ
 | 0,_,_,_,_,_,_=>none
 | k+1,a1,a2,r1,x1,x2,x3=>if (decide (x3<=(w64 ((w64 (a1+(w64 ((w64 (Int.tdiv (w64 (a2 - a1)) 4))*2))))+1))))=true then ((Q118.f x2).bind fun r2=>(if (decide ((w64 (a2 - a1))<=(w64 ((uH.wrap (((ofInt uH.bits r2.1 &&& (ofInt uH.bits (uH.wrap (r1 - 1)))).toNat:Int)))))))=true then (if 0<=(w64 (a1+(w64 ((w64 ((uH.wrap (((ofInt uH.bits r2.1 &&& (ofInt uH.bits (uH.wrap (r1 - 1)))).toNat:Int))))) - (w64 (a2 - a1))))))/\(w64 (a1+(w64 ((w64 ((uH.wrap (((ofInt uH.bits r2.1 &&& (ofInt uH.bits (uH.wrap (r1 - 1)))).toNat:Int))))) - (w64 (a2 - a1))))))<(x1.length:Int) then (if 0<=x3/\x3<(x1.length:Int) then (Q104.l0 k a1 a2 r1 ((x1.set x3.toNat (gt x1 (w64 (a1+(w64 ((w64 ((uH.wrap (((ofInt uH.bits r2.1 &&& (ofInt uH.bits (uH.wrap (r1 - 1)))).toNat:Int))))) - (w64 (a2 - a1)))))))).set (w64 (a1+(w64 ((w64 ((uH.wrap (((ofInt uH.bits r2.1 &&& (ofInt uH.bits (uH.wrap (r1 - 1)))).toNat:Int))))) - (w64 (a2 - a1)))))).toNat (gt x1 x3)) r2.2 (w64 (x3+1))) else none) else none) else (if 0<=(w64 (a1+(w64 ((uH.wrap (((ofInt uH.bits r2.1 &&& (ofInt uH.bits (uH.wrap (r1 - 1)))).toNat:Int)))))))/\(w64 (a1+(w64 ((uH.wrap (((ofInt uH.bits r2.1 &&& (ofInt uH.bits (uH.wrap (r1 - 1)))).toNat:Int)))))))<(x1.length:Int) then (if 0<=x3/\x3<(x1.length:Int) then (Q104.l0 k a1 a2 r1 ((x1.set x3.toNat (gt x1 (w64 (a1+(w64 ((uH.wrap (((ofInt uH.bits r2.1 &&& (ofInt uH.bits (uH.wrap (r1 - 1)))).toNat:Int))))))))).set (w64 (a1+(w64 ((uH.wrap (((ofInt uH.bits r2.1 &&& (ofInt uH.bits (uH.wrap (r1 - 1)))).toNat:Int))))))).toNat (gt x1 x3)) r2.2 (w64 (x3+1))) else none) else none))) else (some x1)
def Q104.f (k:Nat) (a0:TZ) (a1:Int) (a2:Int):Option TZ:=if (decide (8<=(w64 (a2 - a1))))=true then ((Q110.f (w64 (a2 - a1))).bind fun r1=>(Q104.l0 k a1 a2 r1 a0 (uH.wrap ((w64 (a2 - a1)))) (w64 ((w64 (a1+(w64 ((w64 (Int.tdiv (w64 (a2 - a1)) 4))*2)))) - 1)))) else (some a0)
theorem Q104.spec {k a0 a1 a2 A1 c_1 r} (H:Q104.f k a0 a1 a2=some r) :
  Spec prog 40 [.slice A1 a0.length c_1,.int .i64 a1,.int .i64 a2] [O24 a0 A1 c_1] [] (fun v l=>v=.tuple #[]/\l=[O24 r A1 c_1]/\r.length=a0.length):=by
 refine Zh Tryz.func40 fun w0 F0 h0=>?_;unfold Q104.f at H;refine Sa (Za [0,1,6] ?_);refine Sa (Za [0,1,6,15] ?_);refine jIf H (fun c1 H=>?_) fun c1 H=>?_
 ·refine Sa (T8 (Zb 2 ?_));refine rB (Z4 h0) fun b1 w1 h1=>?_;refine rS (Zp 0 h1) fun _ w2 h2=>?_;refine rFi [0,1,6,7] ?_;refine Sa (T8 (Zb 1 ?_));refine cS H [] h2 rfl Q110.spec Zj fun r1 w3 H h3=>?_;refine rFi [0,1,6,7,8] ?_;refine Sa (Za [0,1,6,7,8,9] ?_);refine T2 ?_;have h13:=(sOR h3 [0,0] []);refine T6 (fun kk env w=>∃ x1 x2 x3,Q104.l0 kk a1 a2 r1 x1 x2 x3=some r/\env=[(0,.slice A1 x1.length c_1),(1,.int .i64 a1),(6,.int .i64 (w64 (a2 - a1))),(7,.pointer (some ⟨b1,0,none⟩)),(8,.int .u64 r1),(9,.int .i64 x3)]/\St w0 F0 [Zbi b1 x2,O24 x1 A1 c_1] [] w/\x1.length=a0.length) (k:=k) ⟨_,_,_,H,rfl,h13,(rfl:a0.length=a0.length)⟩ ?_;rintro k1 env w4 ⟨x1,x2,x3,H,rfl,h4,e1⟩;rcases k1 with _ | k1
  ·exact z0 H
  rw [Q104.l0] at H;refine Sa (Sa (Za [0,1,6,7,8,9,33] ?_));refine jIf H (fun c2 H=>?_) fun c2 H=>?_
  ·refine Sb (Sa (T2 (Sa (T8 (cS H [0] h4 rfl Q118.spec Zj fun r2 w5 H h5=>?_)))));refine rFi [0,1,6,7,8,9,10] ?_;refine Sa (Sa (Za [0,1,6,7,8,9,10,43] ?_));refine T7 (fun env w=>∃(k2:Nat) (x4:Int),env=[(0,.slice A1 x1.length c_1),(1,.int .i64 a1),(6,.int .i64 (w64 (a2 - a1))),(7,.pointer (some ⟨b1,0,none⟩)),(8,.int .u64 r1),(9,.int .i64 x3),(10,.int .i64 x4)]/\St w0 F0 [Zbi b1 r2.2,O24 x1 A1 c_1] [] w/\(if 0<=(w64 (a1+x4))/\(w64 (a1+x4))<(x1.length:Int) then (if 0<=x3/\x3<(x1.length:Int) then (Q104.l0 k2 a1 a2 r1 ((x1.set x3.toNat (gt x1 (w64 (a1+x4)))).set (w64 (a1+x4)).toNat (gt x1 x3)) r2.2 (w64 (x3+1))) else none) else none)=some r/\k2<=k1) ?_ ?_
   ·refine jIf H (fun c3 H=>?_) fun c3 H=>?_
    ·refine Za [0,1,6,7,8,9,10] ?_;have h11:=(sOR h5 [0,0] []);exact ⟨k1,(w64 ((w64 ((uH.wrap (((ofInt uH.bits r2.1 &&& (ofInt uH.bits (uH.wrap (r1 - 1)))).toNat:Int))))) - (w64 (a2 - a1)))),rfl,h11,H,Sc _⟩
    refine Xt [0,1,6,7,8,9,10] ?_;refine Sb ?_;have h12:=(sOR h5 [0,0] []);exact ⟨k1,(w64 ((uH.wrap (((ofInt uH.bits r2.1 &&& (ofInt uH.bits (uH.wrap (r1 - 1)))).toNat:Int))))),rfl,h12,H,Sc _⟩
   rintro env w7 ⟨k2,x4,rfl,h6,H,hk2⟩;refine Zt (sO h6 [0]) ?_;have h7:=h6.drew;refine Zr [0,1,2,3,4,5,6,7,8,9,12,13] ?_;refine hI 10 H h7 (gO 1) fun p1 p2 e2 H=>?_;refine hX 14 H e2 fun p3 p4 H=>?_;refine T0 (Yr 11 rfl (Zc 0 h7.wht (gO 1) p1 p2) (Yr 15 rfl (Zc 0 h7.wht (gO 1) p3 p4) Wp)) ?_;refine Zd 16 rfl (Zl e2 p3 p4) ?_;refine hS 17 rfl (Zo 0 (.int .u32) x3 (gt x1 (w64 (a1+x4))) 1 h7 rfl p3 p4) 1 fun _ w8 h8=>?_;have e3:(x1.set x3.toNat (gt x1 (w64 (a1+x4)))).length=a0.length:=length_set.trans e1;refine Zd 18 rfl (Zl e2 p1 p2) ?_;refine hS 19 rfl (Zo 0 (.int .u32) (w64 (a1+x4)) (gt x1 x3) 0 h8 rfl p1 (by simpa only [length_set] using p2)) 1 fun _ w9 h9=>?_;have e4:((x1.set x3.toNat (gt x1 (w64 (a1+x4)))).set (w64 (a1+x4)).toNat (gt x1 x3)).length=a0.length:=length_set.trans e3;refine Yy [0,1,6,7,8,9] ?_;refine T4 (env':=[(0,.slice A1 ((x1.set x3.toNat (gt x1 (w64 (a1+x4)))).set (w64 (a1+x4)).toNat (gt x1 x3)).length c_1),(1,.int .i64 a1),(6,.int .i64 (w64 (a2 - a1))),(7,.pointer (some ⟨b1,0,none⟩)),(8,.int .u64 r1),(9,.int .i64 x3)]) (by simp only [length_set,length_nil] <;> rfl) ?_;refine Za [0,1,6,7,8,9] ?_;have h10:=(sOR h9 [1,0] []);exact ⟨k2,by omega,_,_,_,H,rfl,h10,e4⟩
  refine T5 ?_;cases H;exact ⟨_,_,_,Zf,⟨rfl,rfl,e1⟩,sO h4 [1]⟩
 refine Sb ?_;cases H;exact ⟨_,_,_,Zf,⟨rfl,rfl,(rfl:a0.length=a0.length)⟩,sO h0 [0]⟩

mutual
def Q115.l0:Nat->TZ->(Int)->(Int)->(Int)->(Bool)->(Bool)->Option TZ
 | 0,_,_,_,_,_,_=>none
 | k+1,x1,x2,x3,x4,x5,x6=>if (decide ((w64 (x3 - x2))<=12))=true then ((Q107.f k x1 x2 x3).bind fun r1=>(some r1)) else (if (decide (x4=0))=true then ((Q106.f k x1 x2 x3).bind fun r2=>(some r2)) else (if (!x5)=true then ((Q104.f k x1 x2 x3).bind fun r11=>(Q115.l1 k x2 x3 x5 x6 r11 (w64 (x4 - 1)))) else (Q115.l1 k x2 x3 x5 x6 x1 x4)))
def Q115.l1:Nat->(Int)->(Int)->(Bool)->(Bool)->TZ->(Int)->Option TZ
 | 0,_,_,_,_,_,_=>none
 | k+1,x2,x3,x5,x6,x7,x8=>(Q105.f x7 x2 x3).bind fun r3=>(if (decide (r3.2=2))=true then ((Q116.f k x7 x2 x3).bind fun r10=>(Q115.l2 k x2 x3 x5 x6 x8 r10 (w64 ((w64 (x3 - 1)) - (w64 (r3.1 - x2)))) 1)) else (Q115.l2 k x2 x3 x5 x6 x8 x7 r3.1 r3.2))
def Q115.l2:Nat->(Int)->(Int)->(Bool)->(Bool)->(Int)->TZ->(Int)->(Int)->Option TZ
 | 0,_,_,_,_,_,_,_,_=>none
 | k+1,x2,x3,x5,x6,x8,x9,x10,x11=>if x5=true then (if x6=true then (Q115.l3 k x2 x3 x5 x6 x8 x9 x10 (decide (x11=1))) else (Q115.l3 k x2 x3 x5 x6 x8 x9 x10 false)) else (Q115.l3 k x2 x3 x5 x6 x8 x9 x10 false)
def Q115.l3:Nat->(Int)->(Int)->(Bool)->(Bool)->(Int)->TZ->(Int)->(Bool)->Option TZ
 | 0,_,_,_,_,_,_,_,_=>none
 | k+1,x2,x3,x5,x6,x8,x9,x10,x12=>if x12=true then ((Q112.f k x9 x2 x3).bind fun r9=>(if r9.1=true then (some r9.2) else (Q115.l4 k x2 x3 x5 x6 x8 x10 r9.2))) else (Q115.l4 k x2 x3 x5 x6 x8 x10 x9)
def Q115.l4:Nat->(Int)->(Int)->(Bool)->(Bool)->(Int)->(Int)->TZ->Option TZ
 | 0,_,_,_,_,_,_,_=>none
 | k+1,x2,x3,x5,x6,x8,x10,x13=>if (decide (0<x2))=true then (if 0<=(w64 (x2 - 1))/\(w64 (x2 - 1))<(x13.length:Int) then (if 0<=x10/\x10<(x13.length:Int) then ((Q32.f (gt x13 (w64 (x2 - 1))) (gt x13 x10)).bind fun r8=>(Q115.l5 k x2 x3 x5 x6 x8 x10 x13 (!r8))) else none) else none) else (Q115.l5 k x2 x3 x5 x6 x8 x10 x13 false)
def Q115.l5:Nat->(Int)->(Int)->(Bool)->(Bool)->(Int)->(Int)->TZ->(Bool)->Option TZ
 | 0,_,_,_,_,_,_,_,_=>none
 | k+1,x2,x3,x5,x6,x8,x10,x13,x14=>if x14=true then ((Q113.f k x13 x2 x3 x10).bind fun r4=>(Q115.l0 k r4.2 r4.1 x3 x8 x5 x6)) else ((Q114.f k x13 x2 x3 x10).bind fun r5=>(if (decide ((w64 (r5.1 - x2))<(w64 (x3 - r5.1))))=true then ((Q115.f k r5.2.2 x2 r5.1 x8).bind fun r6=>(Q115.l0 k r6 (w64 (r5.1+1)) x3 x8 (decide ((w64 (Int.tdiv (w64 (x3 - x2)) 8))<=(w64 (r5.1 - x2)))) r5.2.1)) else ((Q115.f k r5.2.2 (w64 (r5.1+1)) x3 x8).bind fun r7=>(Q115.l0 k r7 x2 r5.1 x8 (decide ((w64 (Int.tdiv (w64 (x3 - x2)) 8))<=(w64 (x3 - r5.1)))) r5.2.1))))
def Q115.f:Nat->TZ->(Int)->(Int)->(Int)->Option TZ
 | 0,_,_,_,_=>none
 | k+1,a0,a1,a2,a3=>Q115.l0 k a0 a1 a2 a3 true true
end
theorem Q115.spec:∀ {k a0 a1 a2 a3 A1 c_1 r},Q115.f k a0 a1 a2 a3=some r->
  Spec prog 19 [.slice A1 a0.length c_1,.int .i64 a1,.int .i64 a2,.int .i64 a3] [O24 a0 A1 c_1] [] (fun v l=>v=.tuple #[]/\l=[O24 r A1 c_1]/\r.length=a0.length):=by
 intro k
 induction k using Nat.strongRecOn with
 | _ k ih=>
 intro a0 a1 a2 a3 A1 c_1 r H;cases k with
 | zero=>rw [Q115.f] at H; cases H
 | succ kr=>
 refine Zh Tryz.func19 fun w0 F0 h0=>?_;rw [Q115.f] at H;refine Sa (Za [0,1,2,3,8] ?_);refine Sa (Za [0,1,2,3,8,9] ?_);refine T2 ?_;have h33:=(sOR h0 [0] []);refine T6 (fun kk env w=>∃ x1 x2 x3 x4 x5 x6,Q115.l0 kk x1 x2 x3 x4 x5 x6=some r/\env=[(0,.slice A1 x1.length c_1),(1,.int .i64 x2),(2,.int .i64 x3),(3,.int .i64 x4),(8,.bool x5),(9,.bool x6)]/\St w0 F0 [O24 x1 A1 c_1] [] w/\kk<=kr/\x1.length=a0.length) (k:=kr) ⟨_,_,_,_,_,_,H,rfl,h33,Sc _,(rfl:a0.length=a0.length)⟩ ?_;rintro k1 env w1 ⟨x1,x2,x3,x4,x5,x6,H,rfl,h1,hk1,e1⟩;rcases k1 with _ | k1
 ·exact z0 H
 rw [Q115.l0] at H;refine T2 (Sa (Za [0,1,2,3,8,9,10] ?_));refine Sa (Sa (Za [0,1,2,3,8,9,10,23] ?_));refine jIf H (fun c1 H=>?_) fun c1 H=>?_
 ·refine Sa (T8 (Zb 3 ?_));refine cE H [0] h1 rfl Q107.spec Zj ?_;rintro r1 w2 _ _ H ⟨rfl,rfl,q2⟩ h2;replace h2:=nf h2;have e2:r1.length=a0.length:=q2.trans e1;refine rFi [] ?_;cases H;exact T9 (jR ⟨rfl,rfl,e2⟩ h2 [0])
 refine Sb (Sa (Sa (Za [0,1,2,3,8,9,10,29] ?_)));refine jIf H (fun c2 H=>?_) fun c2 H=>?_
 ·refine Sa (T8 (Zb 3 ?_));refine cE H [0] h1 rfl Q106.spec Zj ?_;rintro r2 w3 _ _ H ⟨rfl,rfl,q4⟩ h3;replace h3:=nf h3;have e3:r2.length=a0.length:=q4.trans e1;refine rFi [] ?_;cases H;exact T9 (jR ⟨rfl,rfl,e3⟩ h3 [0])
 refine Sb (Sa (Sa (Za [0,1,2,3,8,9,10,35] ?_)));refine T7 (fun env w=>∃ k2 x7 x8,Q115.l1 k2 x2 x3 x5 x6 x7 x8=some r/\env=[(0,.slice A1 x7.length c_1),(1,.int .i64 x2),(2,.int .i64 x3),(3,.int .i64 x8),(8,.bool x5),(9,.bool x6),(10,.int .i64 (w64 (x3 - x2)))]/\St w0 F0 [O24 x7 A1 c_1] [] w/\k2<=k1/\x7.length=a0.length) ?_ ?_
 ·refine jIf H (fun c11 H=>?_) fun c11 H=>?_
  ·refine Sa (T8 (Zb 3 ?_));refine cE H [0] h1 rfl Q104.spec Zj ?_;rintro r11 w22 _ _ H ⟨rfl,rfl,q20⟩ h30;replace h30:=nf h30;have e14:r11.length=a0.length:=q20.trans e1;refine rFi [0,1,2,3,8,9,10] ?_;refine T4 (env':=[(0,.slice A1 r11.length c_1),(1,.int .i64 x2),(2,.int .i64 x3),(3,.int .i64 x4),(8,.bool x5),(9,.bool x6),(10,.int .i64 (w64 (x3 - x2)))]) (by simp only [q20,length_nil] <;> rfl) ?_;refine Za [0,1,2,3,8,9,10] ?_;have h31:=(sOR h30 [0] []);exact ⟨k1,_,_,H,rfl,h31,Sc _,e14⟩
  refine Xt [0,1,2,3,8,9,10] ?_;refine Sb ?_;have h32:=(sOR h1 [0] []);exact ⟨k1,_,_,H,rfl,h32,Sc _,e1⟩
 rintro env w5 ⟨k2,x7,x8,H,rfl,h4,hk2,e4⟩;rcases k2 with _ | k2
 ·exact z0 H
 rw [Q115.l1] at H;refine Sa (T8 (Zb 3 ?_));refine cS H [] h4 rfl Q105.spec (Yl (gO 0) Zj) fun r3 w6 H h5=>?_;refine rFi [0,1,2,3,8,9,10,11,12] ?_;refine Sa (Sa (Za [0,1,2,3,8,9,10,11,12,50] ?_));refine T7 (fun env w=>∃ k3 x9 x10 x11,Q115.l2 k3 x2 x3 x5 x6 x8 x9 x10 x11=some r/\env=[(0,.slice A1 x9.length c_1),(1,.int .i64 x2),(2,.int .i64 x3),(3,.int .i64 x8),(8,.bool x5),(9,.bool x6),(10,.int .i64 (w64 (x3 - x2))),(11,.int .i64 x10),(12,.int .i64 x11)]/\St w0 F0 [O24 x9 A1 c_1] [] w/\k3<=k2/\x9.length=a0.length) ?_ ?_
 ·refine jIf H (fun c10 H=>?_) fun c10 H=>?_
  ·refine Sa (T8 (Zb 3 ?_));refine cE H [0] h5 rfl Q116.spec Zj ?_;rintro r10 w21 _ _ H ⟨rfl,rfl,q18⟩ h27;replace h27:=nf h27;have e13:r10.length=a0.length:=q18.trans e4;refine rFi [0,1,2,3,8,9,10,11] ?_;refine T4 (env':=[(0,.slice A1 r10.length c_1),(1,.int .i64 x2),(2,.int .i64 x3),(3,.int .i64 x8),(8,.bool x5),(9,.bool x6),(10,.int .i64 (w64 (x3 - x2))),(11,.int .i64 r3.1)]) (by simp only [q18,length_nil] <;> rfl) ?_;refine Sa (Za [0,1,2,3,8,9,10,11] ?_);refine Za [0,1,2,3,8,9,10,11,12] ?_;have h28:=(sOR h27 [0] []);exact ⟨k2,_,_,_,H,rfl,h28,Sc _,e13⟩
  refine Xt [0,1,2,3,8,9,10,11,12] ?_;refine Sb ?_;have h29:=(sOR h5 [0] []);exact ⟨k2,_,_,_,H,rfl,h29,Sc _,e4⟩
 rintro env w8 ⟨k3,x9,x10,x11,H,rfl,h6,hk3,e5⟩;rcases k3 with _ | k3
 ·exact z0 H
 rw [Q115.l2] at H;refine Sa (Sa (T7 (fun env w=>∃ k4 x12,Q115.l3 k4 x2 x3 x5 x6 x8 x9 x10 x12=some r/\env=[(0,.slice A1 x9.length c_1),(1,.int .i64 x2),(2,.int .i64 x3),(3,.int .i64 x8),(8,.bool x5),(9,.bool x6),(10,.int .i64 (w64 (x3 - x2))),(11,.int .i64 x10),(68,.bool x12)]/\St w0 F0 [O24 x9 A1 c_1] [] w/\k4<=k3) ?_ ?_))
 ·refine T8 (Zb 2 ?_);refine Z1 62 H (fun c8 H=>?_) fun c8 H=>?_
  ·refine Zb 3 ?_;refine Z1 65 H (fun c9 H=>?_) fun c9 H=>?_
   ·refine rFi [0,1,2,3,8,9,10,11,68] ?_;have h24:=(sOR h6 [0] []);exact ⟨k3,_,H,rfl,h24,Sc _⟩
   refine rFi [0,1,2,3,8,9,10,11,68] ?_;have h25:=(sOR h6 [0] []);exact ⟨k3,_,H,rfl,h25,Sc _⟩
  refine rFi [0,1,2,3,8,9,10,11,68] ?_;have h26:=(sOR h6 [0] []);exact ⟨k3,_,H,rfl,h26,Sc _⟩
 rintro env w10 ⟨k4,x12,H,rfl,h7,hk4⟩;rcases k4 with _ | k4
 ·exact z0 H
 rw [Q115.l3] at H;refine T7 (fun env w=>∃ k5 x13,Q115.l4 k5 x2 x3 x5 x6 x8 x10 x13=some r/\env=[(0,.slice A1 x13.length c_1),(1,.int .i64 x2),(2,.int .i64 x3),(3,.int .i64 x8),(8,.bool x5),(9,.bool x6),(10,.int .i64 (w64 (x3 - x2))),(11,.int .i64 x10)]/\St w0 F0 [O24 x13 A1 c_1] [] w/\k5<=k4/\x13.length=a0.length) ?_ ?_
 ·refine jIf H (fun c6 H=>?_) fun c6 H=>?_
  ·refine Sa (T8 (Zb 3 ?_));refine cE H [0] h7 rfl Q112.spec Zj ?_;rintro r9 w20 _ _ H ⟨rfl,rfl,q16⟩ h21;replace h21:=nf h21;have e12:r9.2.length=a0.length:=q16.trans e5;refine rFi [0,1,2,3,8,9,10,11,72] ?_;refine T4 (env':=[(0,.slice A1 r9.2.length c_1),(1,.int .i64 x2),(2,.int .i64 x3),(3,.int .i64 x8),(8,.bool x5),(9,.bool x6),(10,.int .i64 (w64 (x3 - x2))),(11,.int .i64 x10),(72,.bool r9.1)]) (by simp only [q16,length_nil] <;> rfl) ?_;refine jIf H (fun c7 H=>?_) fun c7 H=>?_
   ·cases H;exact T9 (jR ⟨rfl,rfl,e12⟩ h21 [0])
   refine Xt [0,1,2,3,8,9,10,11] ?_;refine Sb ?_;have h22:=(sOR h21 [0] []);exact ⟨k4,_,H,rfl,h22,Sc _,e12⟩
  refine Xt [0,1,2,3,8,9,10,11] ?_;refine Sb ?_;have h23:=(sOR h7 [0] []);exact ⟨k4,_,H,rfl,h23,Sc _,e5⟩
 rintro env w12 ⟨k5,x13,H,rfl,h8,hk5,e6⟩;rcases k5 with _ | k5
 ·exact z0 H
 rw [Q115.l4] at H;refine Sa (Sa (T7 (fun env w=>∃ k6 x14,Q115.l5 k6 x2 x3 x5 x6 x8 x10 x13 x14=some r/\env=[(0,.slice A1 x13.length c_1),(1,.int .i64 x2),(2,.int .i64 x3),(3,.int .i64 x8),(8,.bool x5),(9,.bool x6),(10,.int .i64 (w64 (x3 - x2))),(11,.int .i64 x10),(87,.bool x14)]/\St w0 F0 [O24 x13 A1 c_1] [] w/\k6<=k5) ?_ ?_))
 ·refine jH h8 fun h17=>?_;refine Zr [0,1,2] ?_;refine Xu 75 H (fun c5 H=>?_) fun c5 H=>?_
  ·refine Zr [3,4,5,8,9] ?_;refine hI 6 H h17 (gO 0) fun p1 p2 e11 H=>?_;refine Zd 7 rfl (Zc 0 wI (gO 0) p1 p2) ?_;refine hX 10 H e11 fun p3 p4 H=>?_;refine Zd 11 rfl (Zc 0 wI (gO 0) p3 p4) ?_;refine cSJ 12 rfl H [] h17 rfl Q32.spec Zj 0 fun r8 w19 H h18=>?_;refine hRF [13,14] [0,1,2,3,8,9,10,11,87] ?_;have h19:=(sOR h18 [0] []);exact ⟨k5,_,H,rfl,h19,Sc _⟩
  refine hRF [3,4,5,6,7,8,9,10,11,12,13,14] [0,1,2,3,8,9,10,11,87] ?_;have h20:=(sOR h17 [0] []);exact ⟨k5,_,H,rfl,h20,Sc _⟩
 rintro env w14 ⟨k6,x14,H,rfl,h9,hk6⟩;rcases k6 with _ | k6
 ·exact z0 H
 rw [Q115.l5] at H;refine jIf H (fun c3 H=>?_) fun c3 H=>?_
 ·refine Sa (T8 (Zb 4 ?_));refine cE H [0] h9 rfl Q113.spec Zj ?_;rintro r4 w15 _ _ H ⟨rfl,rfl,q7⟩ h10;replace h10:=nf h10;have e7:r4.2.length=a0.length:=q7.trans e6;refine rFi [0,2,3,8,9,13] ?_;refine T4 (env':=[(0,.slice A1 r4.2.length c_1),(2,.int .i64 x3),(3,.int .i64 x8),(8,.bool x5),(9,.bool x6),(13,.int .i64 r4.1)]) (by simp only [q7,length_nil] <;> rfl) ?_;refine Sa (Za [0,1,2,3,8,9] ?_);refine T5 ?_;have h11:=(sOR h10 [0] []);exact ⟨k6,by omega,_,_,_,_,_,_,H,rfl,h11,by omega,e7⟩
 refine Sb (Sa (T8 (Zb 4 ?_)));refine cE H [0] h9 rfl Q114.spec Zj ?_;rintro r5 w16 _ _ H ⟨rfl,rfl,q9⟩ h12;replace h12:=nf h12;have e8:r5.2.2.length=a0.length:=q9.trans e6;refine rFi [0,1,2,3,10,14,15] ?_;refine T4 (env':=[(0,.slice A1 r5.2.2.length c_1),(1,.int .i64 x2),(2,.int .i64 x3),(3,.int .i64 x8),(10,.int .i64 (w64 (x3 - x2))),(14,.int .i64 r5.1),(15,.bool r5.2.1)]) (by simp only [q9,length_nil] <;> rfl) ?_;refine Sa (Za [0,1,2,3,9,10,14] ?_);refine Sa (Za [0,1,2,3,9,10,14,16,17] ?_);refine Sa (Za [0,1,2,3,9,14,16,17,18] ?_);refine Sa (Za [0,1,2,3,9,14,16,17,18,113] ?_);refine jIf H (fun c4 H=>?_) fun c4 H=>?_
 ·refine Sa (Za [0,1,2,3,8,9,14] ?_);refine Sa (T8 (Zb 4 ?_));refine cE H [0] h12 rfl (ih k6 (by omega)) Zj ?_;rintro r6 w17 _ _ H ⟨rfl,rfl,q11⟩ h13;replace h13:=nf h13;have e9:r6.length=a0.length:=q11.trans e8;refine rFi [0,2,3,8,9,14] ?_;refine T4 (env':=[(0,.slice A1 r6.length c_1),(2,.int .i64 x3),(3,.int .i64 x8),(8,.bool (decide ((w64 (Int.tdiv (w64 (x3 - x2)) 8))<=(w64 (r5.1 - x2))))),(9,.bool r5.2.1),(14,.int .i64 r5.1)]) (by simp only [q11,length_nil] <;> rfl) ?_;refine Za [0,1,2,3,8,9] ?_;have h14:=(sOR h13 [0] []);exact ⟨k6,by omega,_,_,_,_,_,_,H,rfl,h14,by omega,e9⟩
 refine Sa (Za [0,1,2,3,8,9,14] ?_);refine Sa (T8 (Zb 5 ?_));refine cE H [0] h12 rfl (ih k6 (by omega)) Zj ?_;rintro r7 w18 _ _ H ⟨rfl,rfl,q13⟩ h15;replace h15:=nf h15;have e10:r7.length=a0.length:=q13.trans e8;refine rFi [0,1,3,8,9,14] ?_;refine T4 (env':=[(0,.slice A1 r7.length c_1),(1,.int .i64 x2),(3,.int .i64 x8),(8,.bool (decide ((w64 (Int.tdiv (w64 (x3 - x2)) 8))<=(w64 (x3 - r5.1))))),(9,.bool r5.2.1),(14,.int .i64 r5.1)]) (by simp only [q13,length_nil] <;> rfl) ?_;refine Za [0,1,2,3,8,9] ?_;have h16:=(sOR h15 [0] []);exact ⟨k6,by omega,_,_,_,_,_,_,H,rfl,h16,by omega,e10⟩

def Q103.f (k:Nat) (a0:TZ):Option TZ:=(Q0.f (uH.wrap ((a0.length:Int)))).bind fun r1=>((Q115.f k a0 0 (a0.length:Int) r1).bind fun r2=>(some r2))
theorem Q103.spec {k a0 A1 c_1 r} (H:Q103.f k a0=some r) :
  Spec prog 12 [.slice A1 a0.length c_1] [O24 a0 A1 c_1] [] (fun v l=>v=.tuple #[]/\l=[O24 r A1 c_1]/\r.length=a0.length):=by
 refine Zh Tryz.func12 fun w0 F0 h0=>?_;unfold Q103.f at H;refine Sa (Za [0,2] ?_);refine T8 (Zb 4 ?_);refine cS H [] h0 rfl Q0.spec Zj fun r1 w1 H h1=>?_;refine cE H [0] h1 rfl Q115.spec Zj ?_;rintro r2 w2 _ _ H ⟨rfl,rfl,q3⟩ h2;replace h2:=nf h2;have e1:r2.length=a0.length:=q3.trans (rfl:a0.length=a0.length);refine rFi [] ?_;cases H;exact ⟨_,_,_,Zf,⟨rfl,rfl,e1⟩,sO h2 [0]⟩

def Q146.f (k:Nat) (a1:Int):Option TU:=(Q143.f a1 []).bind fun r1=>(if (!decide (r1=0))=true then (some ([],r1)) else ((Q103.f k []).bind fun r2=>(some (r2,0))))
theorem Q146.spec {k a1 r} (H:Q146.f k a1=some r) :
  Spec prog 5 [.pointer none,.int .u32 a1] [] [] (fun v l=>∃ A_0 c_0,v=.tuple #[.slice A_0 r.1.length c_0,.int .i64 r.2]/\l=[O24 r.1 A_0 c_0]):=by
 refine Zh Tryz.func5 fun w0 F0 h0=>?_;unfold Q146.f at H;refine Sa (Za [0,1] ?_);refine Sa (T8 (rB (Z4 h0) fun b1 w1 h1=>?_));refine rFi [0,1,6] ?_;refine Sa (T8 (Zb 3 ?_));have h2:=h1.addNil 24 (.int .u32);refine cS H [1,0] h2 rfl Q143.spec Zj fun r1 w2 H h3=>?_;refine rFi [6,7] ?_;refine Sa (Sa (Za [6,7,13] ?_));refine jIf H (fun c1 H=>?_) fun c1 H=>?_
 ·refine Sa (Za [4,5] ?_);have h4:=h3.addNil 24 (.int .u32);cases H;exact T9 (jR ⟨_,_,rfl,rfl⟩ h4 [0])
 refine Sb (Sa (T8 (rLo 0 h3 ?_)));refine cE H [1] h3 rfl Q103.spec Zj ?_;rintro r2 w3 _ _ H ⟨rfl,rfl,q3⟩ h5;replace h5:=nf h5;replace h5:St w0 F0 [O24 r2 none 0,X30 b1 r2 none 0] _ _:=h5.retell (by simp only [q3,length_nil,O24,X30] <;> rfl);refine rFi [6] ?_;refine Sa (T8 (rLo 1 h5 ?_));refine rFi [4,5] ?_;cases H;exact T9 (jR ⟨_,_,rfl,rfl⟩ h5 [0])

def Q134.f (a0:Int) (a1:Int) (a2:Int):Option (Bool):=if (decide (a1<=a0))=true then (some (decide (a0<=a2))) else (some false)
theorem Q134.spec {a0 a1 a2 r} (H:Q134.f a0 a1 a2=some r) :
  Spec prog 22 [.int .i64 a0,.int .i64 a1,.int .i64 a2] [] [] (fun v l=>v=.bool r/\l=[]):=by
 refine Zh Tryz.func22 fun w0 F0 h0=>?_;unfold Q134.f at H;refine Sa (Za [0,1,2] ?_);refine Sa (T8 (Zb 4 ?_));refine Z1 10 H (fun c1 H=>?_) fun c1 H=>?_
 ·refine rFi [6] ?_;cases H;exact T9 (jR0 h0 [])
 refine rFi [6] ?_;cases H;exact T9 (jR0 h0 [])

def Q133.f (a0:Tr):Option (Bool):=(Q134.f a0.2.2.2.1 8 64).bind fun r1=>(if (!r1)=true then (some false) else ((Q134.f a0.2.2.2.2.2.2.1 1 64).bind fun r2=>(if (!r2)=true then (some false) else ((Q134.f a0.2.2.2.2.2.2.2 0 256).bind fun r3=>(if (!r3)=true then (some false) else ((Q134.f a0.2.2.2.2.1 (w64 (2*a0.2.2.2.1)) 512).bind fun r4=>(if r4=true then ((Q134.f a0.2.2.2.2.2.1 a0.2.2.2.2.1 1024).bind fun r5=>(some r5)) else (some false))))))))
theorem Q133.spec {a0 r} (H:Q133.f a0=some r) :
  Spec prog 21 [.agg #[.int .i64 a0.1,.int .i64 a0.2.1,.int .i64 a0.2.2.1,.int .i64 a0.2.2.2.1,.int .i64 a0.2.2.2.2.1,.int .i64 a0.2.2.2.2.2.1,.int .i64 a0.2.2.2.2.2.2.1,.int .i64 a0.2.2.2.2.2.2.2]] [] [] (fun v l=>v=.bool r/\l=[]):=by
 refine Zh Tryz.func21 fun w0 F0 h0=>?_;unfold Q133.f at H;refine Sa (T8 (rB (Zy h0) fun b1 w1 h1=>?_));refine rFi [1] ?_;refine Sa (Sa (T8 (rRL 1 0 h1 ?_)));refine cS H [] h1 rfl Q134.spec Zj fun r1 w2 H h2=>?_;refine Zb 2 ?_;refine Z1 7 H (fun c1 H=>?_) fun c1 H=>?_
 ·refine rFi [1,18] ?_;refine Zi ?_;refine Sa (Za [2] ?_);cases H;exact T9 (jR0 h2 [])
 refine rRL 1 0 h2 ?_;refine cS H [] h2 rfl Q134.spec Zj fun r2 w3 H h3=>?_;refine Zb 3 ?_;refine Z1 13 H (fun c2 H=>?_) fun c2 H=>?_
 ·refine rFi [1,18] ?_;refine Zi ?_;refine Sa (Za [2] ?_);cases H;exact T9 (jR0 h3 [])
 refine rRL 1 0 h3 ?_;refine cS H [] h3 rfl Q134.spec Zj fun r3 w4 H h4=>?_;refine rFi [1,18] ?_;refine jIf H (fun c3 H=>?_) fun c3 H=>?_
 ·refine Sa (Za [2] ?_);cases H;exact T9 (jR0 h4 [])
 refine Sb (Sa (T8 (rRL 1 0 h4 ?_)));refine rRL 1 0 h4 ?_;refine Zb 1 ?_;refine cS H [] h4 rfl Q134.spec Zj fun r4 w5 H h5=>?_;refine Zb 1 ?_;refine Z1 25 H (fun c4 H=>?_) fun c4 H=>?_
 ·refine rRL 1 0 h5 ?_;refine rRL 1 0 h5 ?_;refine cS H [] h5 rfl Q134.spec Zj fun r5 w6 H h6=>?_;refine rFi [2] ?_;cases H;exact T9 (jR0 h6 [])
 refine rFi [2] ?_;cases H;exact T9 (jR0 h5 [])

def Q130.l1:Nat->Tr->(Int)->(Int)->Option (Int)
 | 0,_,_,_=>none
 | k+1,a0,x3,x4=>if (decide (x4<a0.2.2.2.2.1))=true then (Q130.l1 k a0 (w64 ((w64 ((w64 (x3+4))+a0.2.2.2.2.2.2.1))+a0.2.2.2.2.2.2.2)) (w64 (x4+1))) else (some x3)
def Q130.l0:Nat->Tr->(Int)->(Int)->Option (Int)
 | 0,_,_,_=>none
 | k+1,a0,x1,x2=>if (decide (x2<a0.2.2.2.1))=true then (if (decide (0<x2))=true then (Q130.l0 k a0 (w64 ((w64 ((w64 (x1+4))+1))+a0.2.2.2.2.2.2.1)) (w64 (x2+1))) else (Q130.l0 k a0 (w64 (x1+4)) (w64 (x2+1)))) else (Q130.l1 k a0 x1 0)
def Q130.f (k:Nat) (a0:Tr):Option (Int):=(Q133.f a0).bind fun r1=>(if (!r1)=true then (some 0) else (Q130.l0 k a0 8 0))
theorem Q130.spec {k a0 r} (H:Q130.f k a0=some r) :
  Spec prog 23 [.agg #[.int .i64 a0.1,.int .i64 a0.2.1,.int .i64 a0.2.2.1,.int .i64 a0.2.2.2.1,.int .i64 a0.2.2.2.2.1,.int .i64 a0.2.2.2.2.2.1,.int .i64 a0.2.2.2.2.2.2.1,.int .i64 a0.2.2.2.2.2.2.2]] [] [] (fun v l=>v=.int .i64 r/\l=[]):=by
 refine Zh Tryz.func23 fun w0 F0 h0=>?_;unfold Q130.f at H;refine Sa (T8 (rB (Zy h0) fun b1 w1 h1=>?_));refine rFi [1] ?_;refine Sa (Sa (T8 (rLo 0 h1 ?_)));refine cS H [] h1 rfl Q133.spec Zj fun r1 w2 H h2=>?_;refine rFi [1,8] ?_;refine jIf H (fun c1 H=>?_) fun c1 H=>?_
 ·refine Sa (Za [2] ?_);cases H;exact T9 (jR0 h2 [])
 refine Sb (Sa (Za [1,3] ?_));refine Sa (Sa (Za [1,3,4] ?_));refine T2 ?_;have h9:=(sOR h2 [0] []);refine T6 (fun kk env w=>∃ x1 x2,Q130.l0 kk a0 x1 x2=some r/\env=[(1,.pointer (some ⟨b1,0,none⟩)),(3,.int .i64 x1),(4,.int .i64 x2)]/\St w0 F0 [X23 b1 a0.1 a0.2.1 a0.2.2.1 a0.2.2.2.1 a0.2.2.2.2.1 a0.2.2.2.2.2.1 a0.2.2.2.2.2.2.1 a0.2.2.2.2.2.2.2] [] w) (k:=k) ⟨_,_,H,rfl,h9⟩ ?_;rintro k1 env w3 ⟨x1,x2,H,rfl,h3⟩;rcases k1 with _ | k1
 ·exact z0 H
 rw [Q130.l0] at H;refine Sa (Sa (T8 (rRL 2 0 h3 ?_)));refine rFi [1,3,4,12] ?_;refine jIf H (fun c2 H=>?_) fun c2 H=>?_
 ·refine Sb (Sa (T2 (Sa (Za [1,3,4] ?_))));refine Sa (Za [1,3,4,18] ?_);refine jIf H (fun c3 H=>?_) fun c3 H=>?_
  ·refine T8 (rRL 3 0 h3 ?_);refine rFi [1,3,4] ?_;refine Za [1,3,4] ?_;have h4:=(sOR h3 [0] []);exact ⟨k1,by omega,_,_,H,rfl,h4⟩
  refine Sb (Za [1,3,4] ?_);have h5:=(sOR h3 [0] []);exact ⟨k1,by omega,_,_,H,rfl,h5⟩
 refine T5 (Sa (Sa (Za [1,3,5] ?_)));refine T2 ?_;have h8:=(sOR h3 [0] []);refine T6 (fun kk env w=>∃ x3 x4,Q130.l1 kk a0 x3 x4=some r/\env=[(1,.pointer (some ⟨b1,0,none⟩)),(3,.int .i64 x3),(5,.int .i64 x4)]/\St w0 F0 [X23 b1 a0.1 a0.2.1 a0.2.2.1 a0.2.2.2.1 a0.2.2.2.2.1 a0.2.2.2.2.2.1 a0.2.2.2.2.2.2.1 a0.2.2.2.2.2.2.2] [] w) (k:=k1) ⟨_,_,H,rfl,h8⟩ ?_;rintro k2 env w4 ⟨x3,x4,H,rfl,h6⟩;rcases k2 with _ | k2
 ·exact z0 H
 rw [Q130.l1] at H;refine Sa (Sa (T8 (rRL 2 0 h6 ?_)));refine rFi [1,3,5,27] ?_;refine jIf H (fun c4 H=>?_) fun c4 H=>?_
 ·refine Sb (Sa (T2 (T8 (rRL 3 0 h6 ?_))));refine rRL 2 0 h6 ?_;refine rFi [1,3,5] ?_;refine Za [1,3,5] ?_;have h7:=(sOR h6 [0] []);exact ⟨k2,by omega,_,_,H,rfl,h7⟩
 refine T5 (Sa (Za [2] ?_));cases H;exact T9 (jR0 h6 [])

def Q131.l0:Nat->Tr->(Int)->(Int)->Option (Int)
 | 0,_,_,_=>none
 | k+1,a0,x1,x2=>if (decide (x2<a0.2.2.2.2.2.1))=true then (Q131.l0 k a0 (w64 ((w64 ((w64 (x1+3))+a0.2.2.2.2.2.2.1))+a0.2.2.2.2.2.2.2)) (w64 (x2+1))) else (some x1)
def Q131.f (k:Nat) (a0:Tr):Option (Int):=(Q133.f a0).bind fun r1=>(if (!r1)=true then (some 0) else (Q131.l0 k a0 8 0))
theorem Q131.spec {k a0 r} (H:Q131.f k a0=some r) :
  Spec prog 24 [.agg #[.int .i64 a0.1,.int .i64 a0.2.1,.int .i64 a0.2.2.1,.int .i64 a0.2.2.2.1,.int .i64 a0.2.2.2.2.1,.int .i64 a0.2.2.2.2.2.1,.int .i64 a0.2.2.2.2.2.2.1,.int .i64 a0.2.2.2.2.2.2.2]] [] [] (fun v l=>v=.int .i64 r/\l=[]):=by
 refine Zh Tryz.func24 fun w0 F0 h0=>?_;unfold Q131.f at H;refine Sa (T8 (rB (Zy h0) fun b1 w1 h1=>?_));refine rFi [1] ?_;refine Sa (Sa (T8 (rLo 0 h1 ?_)));refine cS H [] h1 rfl Q133.spec Zj fun r1 w2 H h2=>?_;refine rFi [1,7] ?_;refine jIf H (fun c1 H=>?_) fun c1 H=>?_
 ·refine Sa (Za [2] ?_);cases H;exact T9 (jR0 h2 [])
 refine Sb (Sa (Za [1,3] ?_));refine Sa (Sa (Za [1,3,4] ?_));refine T2 ?_;have h5:=(sOR h2 [0] []);refine T6 (fun kk env w=>∃ x1 x2,Q131.l0 kk a0 x1 x2=some r/\env=[(1,.pointer (some ⟨b1,0,none⟩)),(3,.int .i64 x1),(4,.int .i64 x2)]/\St w0 F0 [X23 b1 a0.1 a0.2.1 a0.2.2.1 a0.2.2.2.1 a0.2.2.2.2.1 a0.2.2.2.2.2.1 a0.2.2.2.2.2.2.1 a0.2.2.2.2.2.2.2] [] w) (k:=k) ⟨_,_,H,rfl,h5⟩ ?_;rintro k1 env w3 ⟨x1,x2,H,rfl,h3⟩;rcases k1 with _ | k1
 ·exact z0 H
 rw [Q131.l0] at H;refine Sa (Sa (T8 (rRL 2 0 h3 ?_)));refine rFi [1,3,4,11] ?_;refine jIf H (fun c2 H=>?_) fun c2 H=>?_
 ·refine Sb (Sa (T2 (T8 (rRL 3 0 h3 ?_))));refine rRL 2 0 h3 ?_;refine rFi [1,3,4] ?_;refine Za [1,3,4] ?_;have h4:=(sOR h3 [0] []);exact ⟨k1,by omega,_,_,H,rfl,h4⟩
 refine T5 (Sa (Za [2] ?_));cases H;exact T9 (jR0 h3 [])

def Q132.f (k:Nat) (a0:Tr):Option (Bool):=(Q133.f a0).bind fun r1=>(if r1=true then ((Q134.f a0.1 5 65536).bind fun r2=>(if r2=true then ((Q134.f a0.2.2.1 8 64).bind fun r3=>(if r3=true then ((Q134.f a0.2.1 64 65536).bind fun r4=>(if r4=true then ((Q130.f k a0).bind fun r5=>(if (decide (r5<=a0.2.1))=true then ((Q131.f k a0).bind fun r6=>(some (decide (r6<=a0.2.1)))) else (some false))) else (some false))) else (some false))) else (some false))) else (some false))
theorem Q132.spec {k a0 r} (H:Q132.f k a0=some r) :
  Spec prog 13 [.agg #[.int .i64 a0.1,.int .i64 a0.2.1,.int .i64 a0.2.2.1,.int .i64 a0.2.2.2.1,.int .i64 a0.2.2.2.2.1,.int .i64 a0.2.2.2.2.2.1,.int .i64 a0.2.2.2.2.2.2.1,.int .i64 a0.2.2.2.2.2.2.2]] [] [] (fun v l=>v=.bool r/\l=[]):=by
 refine Zh Tryz.func13 fun w0 F0 h0=>?_;unfold Q132.f at H;refine Sa (T8 (rB (Zy h0) fun b1 w1 h1=>?_));refine rFi [1] ?_;refine Sa (jH h1 fun h2=>?_);refine Zd 0 rfl (Ze 0 wI) ?_;refine cSJ 1 rfl H [] h2 rfl Q133.spec Zj 0 fun r1 w2 H h3=>?_;refine Zr [2] ?_;refine Xu 5 H (fun c1 H=>?_) fun c1 H=>?_
 ·refine Zr [3] ?_;refine Zd 4 rfl (Ze 0 wI) ?_;refine cSJ 5 rfl H [] h3 rfl Q134.spec Zj 0 fun r2 w3 H h4=>?_;refine Zr [6,7] ?_;refine Xu 10 H (fun c2 H=>?_) fun c2 H=>?_
  ·refine Zr [8] ?_;refine Zd 9 rfl (Ze 0 wI) ?_;refine cSJ 10 rfl H [] h4 rfl Q134.spec Zj 0 fun r3 w4 H h5=>?_;refine Zr [11,12] ?_;refine Xu 15 H (fun c3 H=>?_) fun c3 H=>?_
   ·refine Zr [13] ?_;refine Zd 14 rfl (Ze 0 wI) ?_;refine cSJ 15 rfl H [] h5 rfl Q134.spec Zj 0 fun r4 w5 H h6=>?_;refine Zr [16,17] ?_;refine Xu 20 H (fun c4 H=>?_) fun c4 H=>?_
    ·refine Zr [18] ?_;refine Zd 19 rfl (Ze 0 wI) ?_;refine Zd 20 rfl (Ze 0 wI) ?_;refine cSJ 21 rfl H [] h6 rfl Q130.spec Zj 0 fun r5 w6 H h7=>?_;refine Zr [22,23,24] ?_;refine Xu 27 H (fun c5 H=>?_) fun c5 H=>?_
     ·refine Zr [25] ?_;refine Zd 26 rfl (Ze 0 wI) ?_;refine Zd 27 rfl (Ze 0 wI) ?_;refine cSJ 28 rfl H [] h7 rfl Q131.spec Zj 0 fun r6 w7 H h8=>?_;refine hRF [29,30,31] [2] ?_;cases H;exact T9 (jR0 h8 [])
     refine hRF [25,26,27,28,29,30,31] [2] ?_;cases H;exact T9 (jR0 h7 [])
    refine hRF [18,19,20,21,22,23,24,25,26,27,28,29,30,31] [2] ?_;cases H;exact T9 (jR0 h6 [])
   refine hRF [13,14,15,16,17,18,19,20,21,22,23,24,25,26,27,28,29,30,31] [2] ?_;cases H;exact T9 (jR0 h5 [])
  refine hRF [8,9,10,11,12,13,14,15,16,17,18,19,20,21,22,23,24,25,26,27,28,29,30,31] [2] ?_;cases H;exact T9 (jR0 h4 [])
 refine hRF [3,4,5,6,7,8,9,10,11,12,13,14,15,16,17,18,19,20,21,22,23,24,25,26,27,28,29,30,31] [2] ?_;cases H;exact T9 (jR0 h3 [])

def Q119.f (k:Nat) (a0:Tr):Option (Bool):=(Q132.f k a0).bind fun r1=>(if r1=true then (if (decide (a0.2.1<=3000))=true then (some (decide (a0.1<=400))) else (some false)) else (some false))
theorem Q119.spec {k a0 r} (H:Q119.f k a0=some r) :
  Spec prog 6 [.agg #[.int .i64 a0.1,.int .i64 a0.2.1,.int .i64 a0.2.2.1,.int .i64 a0.2.2.2.1,.int .i64 a0.2.2.2.2.1,.int .i64 a0.2.2.2.2.2.1,.int .i64 a0.2.2.2.2.2.2.1,.int .i64 a0.2.2.2.2.2.2.2]] [] [] (fun v l=>v=.bool r/\l=[]):=by
 refine Zh Tryz.func6 fun w0 F0 h0=>?_;unfold Q119.f at H;refine Sa (T8 (rB (Zy h0) fun b1 w1 h1=>?_));refine rFi [1] ?_;refine Sa (T8 (rLo 0 h1 ?_));refine cS H [] h1 rfl Q132.spec Zj fun r1 w2 H h2=>?_;refine Zb 1 ?_;refine Z1 5 H (fun c1 H=>?_) fun c1 H=>?_
 ·refine rRL 1 0 h2 ?_;refine Zb 3 ?_;refine Z1 10 H (fun c2 H=>?_) fun c2 H=>?_
  ·refine rRL 1 0 h2 ?_;refine rFi [2] ?_;cases H;exact T9 (jR0 h2 [])
  refine rFi [2] ?_;cases H;exact T9 (jR0 h2 [])
 refine rFi [2] ?_;cases H;exact T9 (jR0 h2 [])

def Q55.f (a0:Int) (a1:Int):Option (Bool):=if (decide (5<=a0))=true then (if (decide (a0<=65536))=true then (if (decide (1<=a1))=true then (some (decide (a1<=65536))) else (some false)) else (some false)) else (some false)
theorem Q55.spec {a0 a1 r} (H:Q55.f a0 a1=some r) :
  Spec prog 27 [.int .i64 a0,.int .i64 a1] [] [] (fun v l=>v=.bool r/\l=[]):=by
 refine Zh Tryz.func27 fun w0 F0 h0=>?_;unfold Q55.f at H;refine Sa (Za [0,1] ?_);refine Sa (T8 (Zb 3 ?_));refine Z1 7 H (fun c1 H=>?_) fun c1 H=>?_
 ·refine Zb 4 ?_;refine Z1 11 H (fun c2 H=>?_) fun c2 H=>?_
  ·refine Zb 4 ?_;refine Z1 15 H (fun c3 H=>?_) fun c3 H=>?_
   ·refine rFi [4] ?_;cases H;exact T9 (jR0 h0 [])
   refine rFi [4] ?_;cases H;exact T9 (jR0 h0 [])
  refine rFi [4] ?_;cases H;exact T9 (jR0 h0 [])
 refine rFi [4] ?_;cases H;exact T9 (jR0 h0 [])

def Q54.f (a0:Int) (a1:Int):Option (Option TF×Int):=(Q55.f a0 a1).bind fun r1=>(if (!r1)=true then (some (none,2)) else (if 0<=(w64 (a0*a1))/\(w64 (a0*a1))*1<=281474976710656 then (some ((some (a1,(List.replicate ((w64 (a0*a1)).toNat) (0:Int)),(0,0))),0)) else none))
theorem Q54.spec {a0 a1 r} (H:Q54.f a0 a1=some r) :
  Spec prog 15 [.int .i64 a0,.int .i64 a1] [] [] (fun v l=>∃(pv:Value) (lp:List Ch),OptC r.1 (fun d pv lp=>∃ b_0 A_1 c_1,pv=.pointer (some ⟨b_0,0,none⟩)/\lp=[X83 b_0 d.1 d.2.1 A_1 c_1 d.2.2.1 d.2.2.2,O5 d.2.1 A_1 c_1]) pv lp/\v=.tuple #[pv,.int .i64 r.2]/\l=lp ++ []):=by
 refine Zh Tryz.func15 fun w0 F0 h0=>?_;unfold Q54.f at H;refine Sa (Za [0,1] ?_);refine Sa (Sa (T8 (Zb 2 ?_)));refine cS H [] h0 rfl Q55.spec Zj fun r1 w1 H h1=>?_;refine rFi [0,1,9] ?_;refine jIf H (fun c1 H=>?_) fun c1 H=>?_
 ·refine Sa (Za [4,5] ?_);cases H;exact T9 (jR ⟨_,_,Se,rfl,rfl⟩ h1 [])
 refine Sb (Sa (T8 (Zb 4 ?_)));obtain ⟨⟨p1,p2⟩,H⟩:=Zn H;refine rB (Jz Yp (ty:=(.int .u8)) rfl (0:Int) rfl rfl rfl rfl rfl rfl rfl (by decide) h1 p1 p2) fun b1 w2 h2=>?_;refine Zb 1 ?_;refine rB (Zy h2) fun b2 w3 h3=>?_;refine rFi [4,5] ?_;cases H;exact T9 (jR ⟨_,_,(Sf ⟨_,_,_,rfl,rfl⟩),rfl,rfl⟩ h3 [0,0])

def Q49.f (a0:Tr):Option (Bool):=if (decide (a0.2.2.2.1<8))=true then (some false) else (if (decide (64<a0.2.2.2.1))=true then (some false) else (if (decide (a0.2.2.2.2.1<(w64 (2*a0.2.2.2.1))))=true then (some false) else (if (decide (512<a0.2.2.2.2.1))=true then (some false) else (if (decide (a0.2.2.2.2.2.1<a0.2.2.2.2.1))=true then (some false) else (if (decide (1024<a0.2.2.2.2.2.1))=true then (some false) else (if (decide (a0.2.2.2.2.2.2.1<1))=true then (some false) else (if (decide (64<a0.2.2.2.2.2.2.1))=true then (some false) else (if (decide (a0.2.2.2.2.2.2.2<0))=true then (some false) else (if (decide (256<a0.2.2.2.2.2.2.2))=true then (some false) else (some true))))))))))
theorem Q49.spec {a0 r} (H:Q49.f a0=some r) :
  Spec prog 55 [.agg #[.int .i64 a0.1,.int .i64 a0.2.1,.int .i64 a0.2.2.1,.int .i64 a0.2.2.2.1,.int .i64 a0.2.2.2.2.1,.int .i64 a0.2.2.2.2.2.1,.int .i64 a0.2.2.2.2.2.2.1,.int .i64 a0.2.2.2.2.2.2.2]] [] [] (fun v l=>v=.bool r/\l=[]):=by
 refine Zh Tryz.func55 fun w0 F0 h0=>?_;unfold Q49.f at H;refine Sa (T8 (rB (Zy h0) fun b1 w1 h1=>?_));refine rFi [1] ?_;refine Sa (T2 (Sa (T8 (rRL 1 0 h1 ?_))));refine Zb 2 ?_;refine Z1 7 H (fun c1 H=>?_) fun c1 H=>?_
 ·refine rFi [1,3] ?_;refine Zi ?_;refine Sb (Sa (Za [2] ?_));cases H;exact T9 (jR0 h1 [])
 refine rRL 1 0 h1 ?_;refine rFi [1,3] ?_;refine jIf H (fun c2 H=>?_) fun c2 H=>?_
 ·refine Sb (Sa (Za [2] ?_));cases H;exact T9 (jR0 h1 [])
 refine Sa (T8 (rRL 1 0 h1 ?_));refine rRL 1 0 h1 ?_;refine Zb 3 ?_;refine Z1 19 H (fun c3 H=>?_) fun c3 H=>?_
 ·refine rFi [1,12] ?_;refine Zi ?_;refine Sb (Sa (Za [2] ?_));cases H;exact T9 (jR0 h1 [])
 refine rRL 1 0 h1 ?_;refine rFi [1,12] ?_;refine jIf H (fun c4 H=>?_) fun c4 H=>?_
 ·refine Sb (Sa (Za [2] ?_));cases H;exact T9 (jR0 h1 [])
 refine Sa (T8 (rRL 1 0 h1 ?_));refine rRL 1 0 h1 ?_;refine Zb 2 ?_;refine Z1 30 H (fun c5 H=>?_) fun c5 H=>?_
 ·refine rFi [1,24] ?_;refine Zi ?_;refine Sb (Sa (Za [2] ?_));cases H;exact T9 (jR0 h1 [])
 refine rRL 1 0 h1 ?_;refine rFi [1,24] ?_;refine jIf H (fun c6 H=>?_) fun c6 H=>?_
 ·refine Sb (Sa (Za [2] ?_));cases H;exact T9 (jR0 h1 [])
 refine Sa (T8 (rRL 1 0 h1 ?_));refine Zb 2 ?_;refine Z1 39 H (fun c7 H=>?_) fun c7 H=>?_
 ·refine rFi [1,35] ?_;refine Zi ?_;refine Sb (Sa (Za [2] ?_));cases H;exact T9 (jR0 h1 [])
 refine rRL 1 0 h1 ?_;refine rFi [1,35] ?_;refine jIf H (fun c8 H=>?_) fun c8 H=>?_
 ·refine Sb (Sa (Za [2] ?_));cases H;exact T9 (jR0 h1 [])
 refine Sa (T8 (rRL 1 0 h1 ?_));refine Zb 2 ?_;refine Z1 48 H (fun c9 H=>?_) fun c9 H=>?_
 ·refine rFi [44] ?_;refine Zi ?_;refine Sb (Sa (Za [2] ?_));cases H;exact T9 (jR0 h1 [])
 refine rRL 1 0 h1 ?_;refine rFi [44] ?_;refine jIf H (fun c10 H=>?_) fun c10 H=>?_
 ·refine Sb (Sa (Za [2] ?_));cases H;exact T9 (jR0 h1 [])
 refine Sa (Za [2] ?_);cases H;exact T9 (jR0 h1 [])

def Q46.f (a0:Tr):Option (Int):=(Q49.f a0).bind fun r1=>(if (!r1)=true then (some 0) else (some (w64 ((w64 ((w64 (8+(w64 (4*a0.2.2.2.1))))+(w64 ((w64 (a0.2.2.2.1 - 1))*(w64 (1+a0.2.2.2.2.2.2.1))))))+(w64 (a0.2.2.2.2.1*(w64 ((w64 (4+a0.2.2.2.2.2.2.1))+a0.2.2.2.2.2.2.2))))))))
theorem Q46.spec {a0 r} (H:Q46.f a0=some r) :
  Spec prog 87 [.agg #[.int .i64 a0.1,.int .i64 a0.2.1,.int .i64 a0.2.2.1,.int .i64 a0.2.2.2.1,.int .i64 a0.2.2.2.2.1,.int .i64 a0.2.2.2.2.2.1,.int .i64 a0.2.2.2.2.2.2.1,.int .i64 a0.2.2.2.2.2.2.2]] [] [] (fun v l=>v=.int .i64 r/\l=[]):=by
 refine Zh Tryz.func87 fun w0 F0 h0=>?_;unfold Q46.f at H;refine Sa (T8 (rB (Zy h0) fun b1 w1 h1=>?_));refine rFi [1] ?_;refine Sa (Sa (T8 (rLo 0 h1 ?_)));refine cS H [] h1 rfl Q49.spec Zj fun r1 w2 H h2=>?_;refine rFi [1,5] ?_;refine jIf H (fun c1 H=>?_) fun c1 H=>?_
 ·refine Sa (Za [2] ?_);cases H;exact T9 (jR0 h2 [])
 refine Sb (Sa (T8 (rRL 1 0 h2 ?_)));refine rRL 3 0 h2 ?_;refine rRL 2 0 h2 ?_;refine rRL 4 0 h2 ?_;refine rRL 1 0 h2 ?_;refine rRL 2 0 h2 ?_;refine rFi [2] ?_;cases H;exact T9 (jR0 h2 [])

def Q48.f (a0:Tr):Option (Int):=(Q49.f a0).bind fun r1=>(if (!r1)=true then (some 0) else (some (w64 (8+(w64 (a0.2.2.2.2.2.1*(w64 ((w64 (3+a0.2.2.2.2.2.2.1))+a0.2.2.2.2.2.2.2))))))))
theorem Q48.spec {a0 r} (H:Q48.f a0=some r) :
  Spec prog 88 [.agg #[.int .i64 a0.1,.int .i64 a0.2.1,.int .i64 a0.2.2.1,.int .i64 a0.2.2.2.1,.int .i64 a0.2.2.2.2.1,.int .i64 a0.2.2.2.2.2.1,.int .i64 a0.2.2.2.2.2.2.1,.int .i64 a0.2.2.2.2.2.2.2]] [] [] (fun v l=>v=.int .i64 r/\l=[]):=by
 refine Zh Tryz.func88 fun w0 F0 h0=>?_;unfold Q48.f at H;refine Sa (T8 (rB (Zy h0) fun b1 w1 h1=>?_));refine rFi [1] ?_;refine Sa (Sa (T8 (rLo 0 h1 ?_)));refine cS H [] h1 rfl Q49.spec Zj fun r1 w2 H h2=>?_;refine rFi [1,5] ?_;refine jIf H (fun c1 H=>?_) fun c1 H=>?_
 ·refine Sa (Za [2] ?_);cases H;exact T9 (jR0 h2 [])
 refine Sb (Sa (T8 (rRL 1 0 h2 ?_)));refine rRL 1 0 h2 ?_;refine rRL 2 0 h2 ?_;refine rFi [2] ?_;cases H;exact T9 (jR0 h2 [])

def Q47.f (a0:Tr):Option Tq:=(Q49.f a0).bind fun r1=>(if r1=true then ((Q46.f a0).bind fun r2=>((Q48.f a0).bind fun r3=>(some (a0.1,(if r3>(if r2>(64:Int) then r2 else (64:Int)) then r3 else (if r2>(64:Int) then r2 else (64:Int))),a0.2.2.1,a0.2.2.2.1,a0.2.2.2.2.1,a0.2.2.2.2.2.1,a0.2.2.2.2.2.2.1,a0.2.2.2.2.2.2.2)))) else (some a0))
theorem Q47.spec {a0 r} (H:Q47.f a0=some r) :
  Spec prog 56 [.agg #[.int .i64 a0.1,.int .i64 a0.2.1,.int .i64 a0.2.2.1,.int .i64 a0.2.2.2.1,.int .i64 a0.2.2.2.2.1,.int .i64 a0.2.2.2.2.2.1,.int .i64 a0.2.2.2.2.2.2.1,.int .i64 a0.2.2.2.2.2.2.2]] [] [] (fun v l=>v=.agg #[.int .i64 r.1,.int .i64 r.2.1,.int .i64 r.2.2.1,.int .i64 r.2.2.2.1,.int .i64 r.2.2.2.2.1,.int .i64 r.2.2.2.2.2.1,.int .i64 r.2.2.2.2.2.2.1,.int .i64 r.2.2.2.2.2.2.2]/\l=[]):=by
 refine Zh Tryz.func56 fun w0 F0 h0=>?_;unfold Q47.f at H;refine Sa (T8 (rB (Zy h0) fun b1 w1 h1=>?_));refine rB (Z4 h1) fun b2 w2 h2=>?_;refine rFi [1,2] ?_;refine Sa (Sa (T8 (rLo 1 h2 ?_)));refine cS H [] h2 rfl Q49.spec Zj fun r1 w3 H h3=>?_;refine rFi [1,2,4] ?_;refine jIf H (fun c1 H=>?_) fun c1 H=>?_
 ·obtain ⟨r2,q2,H⟩:=Z9 H;obtain ⟨r3,q3,H⟩:=Z9 H;refine T7 (fun env w=>env=[(1,.pointer (some ⟨b1,0,none⟩)),(2,.pointer (some ⟨b2,0,none⟩))]/\St w0 F0 [X23 b1 a0.1 (if r3>(if r2>(64:Int) then r2 else (64:Int)) then r3 else (if r2>(64:Int) then r2 else (64:Int))) a0.2.2.1 a0.2.2.2.1 a0.2.2.2.2.1 a0.2.2.2.2.2.1 a0.2.2.2.2.2.2.1 a0.2.2.2.2.2.2.2,X23 b2 0 0 0 0 0 0 0 0] [] w) ?_ ?_
  ·refine Zt (sO h3 [0]) ?_;have h7:=h3.drew;refine HJ.named fun G E hE hG=>?_;have j13:∀ w33,St w0 F0 [X23 b2 0 0 0 0 0 0 0 0,X23 b1 a0.1 a0.2.1 a0.2.2.1 a0.2.2.2.1 a0.2.2.2.2.1 a0.2.2.2.2.2.1 a0.2.2.2.2.2.2.1 a0.2.2.2.2.2.2.2] [] w33->G [2,1,0] ((7,.agg #[.int .i64 a0.1,.int .i64 a0.2.1,.int .i64 a0.2.2.1,.int .i64 a0.2.2.2.1,.int .i64 a0.2.2.2.2.1,.int .i64 a0.2.2.2.2.2.1,.int .i64 a0.2.2.2.2.2.2.1,.int .i64 a0.2.2.2.2.2.2.2]) :: (6,.int .i64 r2) :: (5,.agg #[.int .i64 a0.1,.int .i64 a0.2.1,.int .i64 a0.2.2.1,.int .i64 a0.2.2.2.1,.int .i64 a0.2.2.2.2.1,.int .i64 a0.2.2.2.2.2.1,.int .i64 a0.2.2.2.2.2.2.1,.int .i64 a0.2.2.2.2.2.2.2]) :: E) w33:=by
    intro w33 h21;subst hE;refine (hG _ _ _).1 ?_;refine Ye 3 rfl (Ve [] (Q48.spec q3) h21 rfl Zj) ?_;rintro _ w38 ⟨_,⟨rfl,rfl⟩,h22⟩;replace h22:=nf h22;refine ⟨⟨[_],(sO h22 [1,0])⟩,?_⟩;refine Zd 4 rfl Zha ?_;refine Zr [5] ?_;refine hS 6 rfl (Zp 1 h22) 1 fun _ w39 h23=>?_;refine Yy [1,2] ?_;exact Yv ⟨rfl,(sOR h23 [0,0] [])⟩
   have j14:∀ w3,St w0 F0 [X23 b2 0 0 0 0 0 0 0 0,X23 b1 a0.1 a0.2.1 a0.2.2.1 a0.2.2.2.1 a0.2.2.2.2.1 a0.2.2.2.2.2.1 a0.2.2.2.2.2.2.1 a0.2.2.2.2.2.2.2] [] w3->G [2,0] ((7,.agg #[.int .i64 a0.1,.int .i64 a0.2.1,.int .i64 a0.2.2.1,.int .i64 a0.2.2.2.1,.int .i64 a0.2.2.2.2.1,.int .i64 a0.2.2.2.2.2.1,.int .i64 a0.2.2.2.2.2.2.1,.int .i64 a0.2.2.2.2.2.2.2]) :: (5,.agg #[.int .i64 a0.1,.int .i64 a0.2.1,.int .i64 a0.2.2.1,.int .i64 a0.2.2.2.1,.int .i64 a0.2.2.2.2.1,.int .i64 a0.2.2.2.2.2.1,.int .i64 a0.2.2.2.2.2.2.1,.int .i64 a0.2.2.2.2.2.2.2]) :: E) w3:=by
    intro w3 h7;subst hE;refine (hG _ _ _).1 ?_;refine Ye 1 rfl (Ve [] (Q46.spec q2) h7 rfl Zj) ?_;rintro _ w40 ⟨_,⟨rfl,rfl⟩,h24⟩;replace h24:=nf h24;refine ⟨⟨[_],(sO h24 [1,0])⟩,?_⟩;exact ((hG _ _ _).2 (j13 _ h24)).re [1,0,2] 3
   subst hE;refine (hG _ _ _).1 ?_;refine T1 [0,2] (i:=0) rfl rfl rfl rfl ?_;refine (Xb ?_ (Xb ?_ Vt))
   ·refine Xd 0 rfl (Sd (Ze 1 h7.wht)) ?_;rintro _ _ ⟨rfl,rfl⟩;replace h7:=nf h7;refine ⟨⟨[_],(sO h7 [1,0])⟩,?_⟩;refine T1 [1,2] (i:=1) rfl rfl rfl rfl ?_;refine (Xb ?_ (Xb ?_ Vt))
    ·refine Xd 1 rfl (Ve [] (Q46.spec q2) h7 rfl Zj) ?_;rintro _ w33 ⟨_,⟨rfl,rfl⟩,h21⟩;replace h21:=nf h21;refine ⟨⟨[_],(sO h21 [1,0])⟩,?_⟩;refine Ye 2 rfl (Sd (Ze 1 h21.wht)) ?_;rintro _ _ ⟨rfl,rfl⟩;replace h21:=nf h21;refine ⟨⟨[_],(sO h21 [1,0])⟩,?_⟩;exact (hG _ _ _).2 (j13 _ h21)
    ·refine Xd 2 rfl (Sd (Ze 1 h7.wht)) ?_;rintro _ _ ⟨rfl,rfl⟩;replace h7:=nf h7;refine ⟨⟨[_],(sO h7 [1,0])⟩,?_⟩;exact (hG _ _ _).2 (j14 _ h7)
   ·refine Xd 2 rfl (Sd (Ze 1 h7.wht)) ?_;rintro _ _ ⟨rfl,rfl⟩;replace h7:=nf h7;refine ⟨⟨[_],(sO h7 [1,0])⟩,?_⟩;refine Ye 0 rfl (Sd (Ze 1 h7.wht)) ?_;rintro _ _ ⟨rfl,rfl⟩;replace h7:=nf h7;refine ⟨⟨[_],(sO h7 [1,0])⟩,?_⟩;exact ((hG _ _ _).2 (j14 _ h7)).re [1,0] 2
  rintro env w55 ⟨rfl,h34⟩;refine Sa (T8 (rLo 0 h34 ?_));refine rS (Zp 1 h34) fun _ w56 h35=>?_;refine rFi [2] ?_;cases H;exact T9 (jR2 (Z6 (Sg Yp 0 h35 rfl rfl rfl rfl) Y0) ⟨rfl,rfl⟩ h35 [])
 refine Sb (Sa (T8 (rLo 1 h3 ?_)));refine rS (Zp 0 h3) fun _ w57 h36=>?_;refine rFi [2] ?_;cases H;exact T9 (jR2 (Z6 (Sg Yp 0 h36 rfl rfl rfl rfl) Y0) ⟨rfl,rfl⟩ h36 [])

def Q45.f (a0:Tr):Option (Int):=(Q49.f a0).bind fun r1=>(if r1=true then (if (decide (5<=a0.1))=true then (if (decide (a0.1<=65536))=true then (if (decide (8<=a0.2.2.1))=true then (if (!(decide (a0.2.2.1<=64)))=true then (some 2) else (if (decide (65536<a0.2.1))=true then (some 2) else ((Q47.f a0).bind fun r2=>(if (decide (a0.2.1<r2.2.1))=true then (some 2) else (some 0))))) else (some 2)) else (some 2)) else (some 2)) else (some 2))
theorem Q45.spec {a0 r} (H:Q45.f a0=some r) :
  Spec prog 28 [.agg #[.int .i64 a0.1,.int .i64 a0.2.1,.int .i64 a0.2.2.1,.int .i64 a0.2.2.2.1,.int .i64 a0.2.2.2.2.1,.int .i64 a0.2.2.2.2.2.1,.int .i64 a0.2.2.2.2.2.2.1,.int .i64 a0.2.2.2.2.2.2.2]] [] [] (fun v l=>v=.int .i64 r/\l=[]):=by
 refine Zh Tryz.func28 fun w0 F0 h0=>?_;unfold Q45.f at H;refine Sa (T8 (rB (Zy h0) fun b1 w1 h1=>?_));refine rFi [1] ?_;refine Sa (T8 (rLo 0 h1 ?_));refine cS H [] h1 rfl Q49.spec Zj fun r1 w2 H h2=>?_;refine Zb 1 ?_;refine Z1 6 H (fun c1 H=>?_) fun c1 H=>?_
 ·refine rRL 1 0 h2 ?_;refine Zb 3 ?_;refine Z1 11 H (fun c2 H=>?_) fun c2 H=>?_
  ·refine rRL 1 0 h2 ?_;refine Zb 3 ?_;refine Z1 16 H (fun c3 H=>?_) fun c3 H=>?_
   ·refine rRL 1 0 h2 ?_;refine Zb 3 ?_;refine Z1 21 H (fun c4 H=>?_) fun c4 H=>?_
    ·refine rRL 1 0 h2 ?_;refine rFi [1,3] ?_;refine Sa (Sa (jH h2 fun h3=>?_));refine Zr [0,1,2] ?_;refine Xu 28 H (fun c5 H=>?_) fun c5 H=>?_
     ·refine hRF [3,4,5,6,7,8,9,10,11,12,13,14] [40] ?_;refine Zi ?_;refine Sa (Za [2] ?_);cases H;exact T9 (jR0 h3 [])
     refine Zr [3] ?_;refine Zd 4 rfl (Ze 0 wI) ?_;refine Zr [5,6,7] ?_;refine Xu 33 H (fun c6 H=>?_) fun c6 H=>?_
     ·refine hRF [8,9,10,11,12,13,14] [40] ?_;refine Zi ?_;refine Sa (Za [2] ?_);cases H;exact T9 (jR0 h3 [])
     refine Zr [8] ?_;refine Zd 9 rfl (Ze 0 wI) ?_;refine Zd 10 rfl (Ze 0 wI) ?_;refine cSJ 11 rfl H [] h3 rfl Q47.spec Zj 0 fun r2 w3 H h4=>?_;refine hRF [12,13,14] [40] ?_;refine jIf H (fun c7 H=>?_) fun c7 H=>?_
     ·refine Sa (Za [2] ?_);cases H;exact T9 (jR0 h4 [])
     refine Sb (Sa (Za [2] ?_));cases H;exact T9 (jR0 h4 [])
    refine rFi [1,3] ?_;refine Sa (Sa (jH h2 fun h5=>?_));refine hRF [0,1,2,3,4,5,6,7,8,9,10,11,12,13,14] [40] ?_;refine Zi ?_;refine Sa (Za [2] ?_);cases H;exact T9 (jR0 h5 [])
   refine rFi [1,3] ?_;refine Sa (Sa (jH h2 fun h6=>?_));refine hRF [0,1,2,3,4,5,6,7,8,9,10,11,12,13,14] [40] ?_;refine Zi ?_;refine Sa (Za [2] ?_);cases H;exact T9 (jR0 h6 [])
  refine rFi [1,3] ?_;refine Sa (Sa (jH h2 fun h7=>?_));refine hRF [0,1,2,3,4,5,6,7,8,9,10,11,12,13,14] [40] ?_;refine Zi ?_;refine Sa (Za [2] ?_);cases H;exact T9 (jR0 h7 [])
 refine rFi [1,3] ?_;refine Sa (Sa (jH h2 fun h8=>?_));refine hRF [0,1,2,3,4,5,6,7,8,9,10,11,12,13,14] [40] ?_;refine Zi ?_;refine Sa (Za [2] ?_);cases H;exact T9 (jR0 h8 [])

def Q79.f (a0:Tr):Option (Option Tg×Int):=(Q45.f a0).bind fun r1=>(if (!decide (r1=0))=true then (some (none,r1)) else (some (none,1)))
theorem Q79.spec {a0 r} (H:Q79.f a0=some r) :
  Spec prog 16 [.agg #[.int .i64 a0.1,.int .i64 a0.2.1,.int .i64 a0.2.2.1,.int .i64 a0.2.2.2.1,.int .i64 a0.2.2.2.2.1,.int .i64 a0.2.2.2.2.2.1,.int .i64 a0.2.2.2.2.2.2.1,.int .i64 a0.2.2.2.2.2.2.2],.pointer none] [] [] (fun v l=>∃(pv:Value) (lp:List Ch),OptC r.1 (fun d pv lp=>∃ b_0 b_1 b_2 A_3 c_3 A_4 c_4 b_5 A_6 c_6 b_7 A_8 c_8 b_9 b_10 A_11 c_11,pv=.pointer (some ⟨b_0,0,none⟩)/\lp=[X93 b_0 d.1.1 d.1.2.1 d.1.2.2.1 d.1.2.2.2.1 d.1.2.2.2.2.1 d.1.2.2.2.2.2.1 d.1.2.2.2.2.2.2.1 d.1.2.2.2.2.2.2.2 (.pointer (some ⟨b_2,0,none⟩)) (.pointer (some ⟨b_1,0,none⟩)) (.pointer (some ⟨b_9,0,none⟩)) d.2.2.2,Xa b_1 (.pointer (some ⟨b_2,0,none⟩)) d.2.1.2.1 A_4 c_4 (.map (some b_5)) d.2.1.2.2.2.1 A_6 c_6 (.pointer (some ⟨b_7,0,none⟩)),X83 b_2 d.2.1.1.1 d.2.1.1.2.1 A_3 c_3 d.2.1.1.2.2.1 d.2.1.1.2.2.2,O5 d.2.1.1.2.1 A_3 c_3,Y9 d.2.1.2.1 A_4 c_4,Yq .u32 (Value.int .i64) b_5 d.2.1.2.2.1,O3 d.2.1.2.2.2.1 A_6 c_6,Ym b_7 d.2.1.2.2.2.2.1 A_8 c_8 d.2.1.2.2.2.2.2,Yn d.2.1.2.2.2.2.1 A_8 c_8,W5 b_9 (.pointer (some ⟨b_10,0,none⟩)),Xo b_10 d.2.2.1.1 d.2.2.1.2.1 d.2.2.1.2.2 A_11 c_11,O79 d.2.2.1.2.2 A_11 c_11]) pv lp/\v=.tuple #[pv,.int .i64 r.2]/\l=lp ++ []):=by
 refine Zh Tryz.func16 fun w0 F0 h0=>?_;unfold Q79.f at H;refine Sa (T8 (rB (Zy h0) fun b1 w1 h1=>?_));refine rFi [1,2] ?_;refine Sa (Sa (T8 (rLo 0 h1 ?_)));refine cS H [] h1 rfl Q45.spec Zj fun r1 w2 H h2=>?_;refine rFi [1,2,6] ?_;refine Sa (Za [1,2,6,13] ?_);refine jIf H (fun c1 H=>?_) fun c1 H=>?_
 ·refine Sa (Za [4,5] ?_);cases H;exact T9 (jR ⟨_,_,Se,rfl,rfl⟩ h2 [])
 refine Sb (Sa (T8 (rRL 2 0 h2 ?_)));refine Z2 Tryz.func29 ?_;refine Sa (Za [0,1] ?_);refine Sa (T2 (Sa (T8 (Zb 1 ?_))));refine Z2 Tryz.func30 ?_;refine Sa (Za [0] ?_);refine Sa (Sa (Za [0,11] ?_));refine Zi ?_;refine Sa (Za [2] ?_);refine T9 (⟨_,Zf,?_⟩);refine rFi [0,1,10] ?_;refine Zi ?_;refine Sa (Za [4,5] ?_);refine T9 (⟨_,Zf,?_⟩);refine rFi [1,2,7,8] ?_;refine Sa (Sa (Za [1,2,7,8,23] ?_));refine Zi ?_;refine Sa (Za [4,5] ?_);cases H;exact T9 (jR ⟨_,_,Se,rfl,rfl⟩ h2 [])

def Q50.f (a0:TF):Option (Int):=if (decide (a0.1=0))=true then (some 0) else (if 0<a0.1 then (some (w64 (Int.tdiv (a0.2.1.length:Int) a0.1))) else none)
theorem Q50.spec {a0 b1 A1 c_1 r} (H:Q50.f a0=some r) :
  Spec prog 30 [.pointer (some ⟨b1,0,none⟩)] (Bg a0 b1 A1 c_1) [] (fun v l=>v=.int .i64 r/\l=Bg a0 b1 A1 c_1):=by
 refine eN Tryz.func30 fun w0 F0 h0=>?_;unfold Q50.f at H;refine Sa (Za [0] ?_);refine Sa (Sa (T8 (rRL 6 0 h0 ?_)));refine rFi [0,11] ?_;refine jIf H (fun c1 H=>?_) fun c1 H=>?_
 ·refine Sa (Za [2] ?_);cases H;exact T9 (jR0 h0 [0,0])
 refine Sb (Sa (jH h0 fun h1=>?_));refine Zr [0,1,2,5,6,7] ?_;refine Zd 3 rfl (Ze 0 wI) ?_;refine Zr [4] ?_;refine Zd 8 rfl (Ze 0 wI) ?_;obtain ⟨p1,H⟩:=Zn H;refine Zd 9 rfl (Zhw p1) ?_;refine hRF [10] [2] ?_;cases H;exact T9 (jR0 h1 [0,0])

def Q31.f (a0:Int):Option (Option TD×Int):=if (decide (a0<1))=true then (some (none,2)) else (if (decide (4096<a0))=true then (some (none,2)) else (if 0<=(w64 (a0+1))/\(w64 (a0+1))*24<=281474976710656 then (if 0<=a0/\a0<((List.replicate ((w64 (a0+1)).toNat) ((0,0,false):Int×Int×Bool)).length:Int) then (some ((some (((List.replicate ((w64 (a0+1)).toNat) ((0,0,false):Int×Int×Bool)).set a0.toNat (a0,a0,false)),0)),0)) else none) else none))
theorem Q31.spec {a0 r} (H:Q31.f a0=some r) :
  Spec prog 57 [.int .i64 a0] [] [] (fun v l=>∃(pv:Value) (lp:List Ch),OptC r.1 (fun d pv lp=>∃ b_0 A_1 c_1,pv=.pointer (some ⟨b_0,0,none⟩)/\lp=[Ym b_0 d.1 A_1 c_1 d.2,Yn d.1 A_1 c_1]) pv lp/\v=.tuple #[pv,.int .i64 r.2]/\l=lp ++ []):=by
 refine Zh Tryz.func57 fun w0 F0 h0=>?_;unfold Q31.f at H;refine Sa (Za [0] ?_);refine Sa (Sa (T8 (Zb 3 ?_)));refine Z1 7 H (fun c1 H=>?_) fun c1 H=>?_
 ·refine rFi [0,10] ?_;refine Zi ?_;refine Sa (Za [2,3] ?_);cases H;exact T9 (jR ⟨_,_,Se,rfl,rfl⟩ h0 [])
 refine rFi [0,10] ?_;refine jIf H (fun c2 H=>?_) fun c2 H=>?_
 ·refine Sa (Za [2,3] ?_);cases H;exact T9 (jR ⟨_,_,Se,rfl,rfl⟩ h0 [])
 refine Sb (Sa (T8 (Zb 2 ?_)));obtain ⟨⟨p1,p2⟩,H⟩:=Zn H;refine rB (Jz Yp (ty:=(.pair (.int .i64) (.pair (.int .i64) .bool))) rfl ((0,0,false):Int×Int×Bool) rfl rfl rfl rfl rfl rfl rfl (by decide) h0 p1 p2) fun b1 w1 h1=>?_;refine Zb 1 ?_;refine rB (Zy h1) fun b2 w2 h2=>?_;refine rFi [0,4] ?_;refine Sa (T8 (rRL 3 0 h2 ?_));refine Zb 4 ?_;refine rI H h2 (gO 1) fun p3 p4 e1 H=>?_;refine rS (Zo 0 (.pair (.int .i64) (.pair (.int .i64) .bool)) a0 (a0,a0,false) 1 h2 rfl p3 p4) fun _ w3 h3=>?_;replace h3:St w0 F0 [Yn ((List.replicate ((w64 (a0+1)).toNat) ((0,0,false):Int×Int×Bool)).set a0.toNat (a0,a0,false)) (some ⟨b1,0,none⟩) ((w64 (a0+1)).toNat),Ym b2 ((List.replicate ((w64 (a0+1)).toNat) ((0,0,false):Int×Int×Bool)).set a0.toNat (a0,a0,false)) (some ⟨b1,0,none⟩) ((w64 (a0+1)).toNat) 0] _ _:=h3.retell (by simp only [length_set,length_nil,Yn,Ym] <;> rfl);refine rFi [4] ?_;refine Sa (Za [2,3] ?_);cases H;exact T9 (jR ⟨_,_,(Sf ⟨_,_,_,rfl,rfl⟩),rfl,rfl⟩ h3 [1,0])

def Q51.f (a0:TF):Option (Int):=some a0.1
theorem Q51.spec {a0 b1 A1 c_1 r} (H:Q51.f a0=some r) :
  Spec prog 31 [.pointer (some ⟨b1,0,none⟩)] (Bg a0 b1 A1 c_1) [] (fun v l=>v=.int .i64 r/\l=Bg a0 b1 A1 c_1):=by
 refine eN Tryz.func31 fun w0 F0 h0=>?_;unfold Q51.f at H;refine Sa (Za [0] ?_);refine Sa (Sa (Za [0,4] ?_));refine Zx ?_;refine Sb (Sa (T8 (rRL 3 0 h0 ?_)));refine rFi [2] ?_;cases H;exact T9 (jR0 h0 [0,0])

def Q2.f (a0:Int):Option (Option TN×Int):=if (decide (a0<1))=true then (some (none,2)) else (if (decide (65536<a0))=true then (some (none,2)) else (if 0<=(w64 (Int.tdiv (w64 ((w64 (a0+64)) - 1)) 64))/\(w64 (Int.tdiv (w64 ((w64 (a0+64)) - 1)) 64))*8<=281474976710656 then (some ((some (a0,0,(List.replicate ((w64 (Int.tdiv (w64 ((w64 (a0+64)) - 1)) 64)).toNat) (0:Int)))),0)) else none))
theorem Q2.spec {a0 r} (H:Q2.f a0=some r) :
  Spec prog 58 [.int .i64 a0] [] [] (fun v l=>∃(pv:Value) (lp:List Ch),OptC r.1 (fun d pv lp=>∃ b_0 A_1 c_1,pv=.pointer (some ⟨b_0,0,none⟩)/\lp=[Xo b_0 d.1 d.2.1 d.2.2 A_1 c_1,O79 d.2.2 A_1 c_1]) pv lp/\v=.tuple #[pv,.int .i64 r.2]/\l=lp ++ []):=by
 refine Zh Tryz.func58 fun w0 F0 h0=>?_;unfold Q2.f at H;refine Sa (Za [0] ?_);refine Sa (Sa (T8 (Zb 3 ?_)));refine Z1 6 H (fun c1 H=>?_) fun c1 H=>?_
 ·refine rFi [0,9] ?_;refine Zi ?_;refine Sa (Za [2,3] ?_);cases H;exact T9 (jR ⟨_,_,Se,rfl,rfl⟩ h0 [])
 refine rFi [0,9] ?_;refine jIf H (fun c2 H=>?_) fun c2 H=>?_
 ·refine Sa (Za [2,3] ?_);cases H;exact T9 (jR ⟨_,_,Se,rfl,rfl⟩ h0 [])
 refine Sb (Sa (T8 (Zb 5 ?_)));obtain ⟨⟨p1,p2⟩,H⟩:=Zn H;refine rB (Jz Yp (ty:=(.int .u64)) rfl (0:Int) rfl rfl rfl rfl rfl rfl rfl (by decide) h0 p1 p2) fun b1 w1 h1=>?_;refine Zb 1 ?_;refine rB (Zy h1) fun b2 w2 h2=>?_;refine rFi [2,3] ?_;cases H;exact T9 (jR ⟨_,_,(Sf ⟨_,_,_,rfl,rfl⟩),rfl,rfl⟩ h2 [0,0])

def Q7.f (a0:TN):Option (Int):=some a0.1
theorem Q7.spec {a0 b1 A1 c_1 r} (H:Q7.f a0=some r) :
  Spec prog 130 [.pointer (some ⟨b1,0,none⟩)] (Wg a0 b1 A1 c_1) [] (fun v l=>v=.int .i64 r/\l=Wg a0 b1 A1 c_1):=by
 refine eN Tryz.func130 fun w0 F0 h0=>?_;unfold Q7.f at H;refine Sa (Za [0] ?_);refine Sa (Sa (Za [0,4] ?_));refine Zx ?_;refine Sb (Sa (T8 (rRL 3 0 h0 ?_)));refine rFi [2] ?_;cases H;exact T9 (jR0 h0 [0,0])

def Q10.f (a0:TN) (a1:Int):Option (Int):=(Q7.f a0).bind fun r1=>(if (decide (r1=0))=true then (some 1) else (if (decide (a1<0))=true then (some 4) else (if (decide (a0.1<=a1))=true then (some 4) else (some 0))))
theorem Q10.spec {a0 a1 b1 A1 c_1 r} (H:Q10.f a0 a1=some r) :
  Spec prog 89 [.pointer (some ⟨b1,0,none⟩),.int .i64 a1] (Wg a0 b1 A1 c_1) [] (fun v l=>v=.int .i64 r/\l=Wg a0 b1 A1 c_1):=by
 refine eN Tryz.func89 fun w0 F0 h0=>?_;unfold Q10.f at H;refine Sa (Za [0,1] ?_);refine Sa (T2 (Sa (T8 (Zb 1 ?_))));refine cS H [0,0] h0 rfl Q7.spec Zj fun r1 w1 H h1=>?_;refine rFi [0,1,5] ?_;refine jIf H (fun c1 H=>?_) fun c1 H=>?_
 ·refine Sa (Za [4] ?_);cases H;exact T9 (jR0 h1 [0,0])
 refine Sa (T8 (Zb 3 ?_));refine Z1 12 H (fun c2 H=>?_) fun c2 H=>?_
 ·refine rFi [9] ?_;refine Zi ?_;refine Sa (Za [4] ?_);cases H;exact T9 (jR0 h1 [0,0])
 refine rRL 4 0 h1 ?_;refine rFi [9] ?_;refine jIf H (fun c3 H=>?_) fun c3 H=>?_
 ·refine Sa (Za [4] ?_);cases H;exact T9 (jR0 h1 [0,0])
 refine Sb (Sa (Za [4] ?_));cases H;exact T9 (jR0 h1 [0,0])

def Q6.f (a0:TN) (a1:Int):Option (Bool):=(Q10.f a0 a1).bind fun r1=>(if (decide (r1=0))=true then (if 0<=(w64 (Int.tdiv a1 64))/\(w64 (Int.tdiv a1 64))<(a0.2.2.length:Int) then (if 0<=(Int.tmod a1 64) then (some (decide ((uH.wrap (((ofInt uH.bits (Int.fdiv (gt a0.2.2 (w64 (Int.tdiv a1 64))) (2 ^ (min (Int.tmod a1 64).toNat 64))) &&& (ofInt uH.bits 1)).toNat:Int)))=1))) else none) else none) else (some false))
theorem Q6.spec {a0 a1 b1 A1 c_1 r} (H:Q6.f a0 a1=some r) :
  Spec prog 90 [.pointer (some ⟨b1,0,none⟩),.int .i64 a1] (Wg a0 b1 A1 c_1) [] (fun v l=>v=.bool r/\l=Wg a0 b1 A1 c_1):=by
 refine eN Tryz.func90 fun w0 F0 h0=>?_;unfold Q6.f at H;refine Sa (Za [0,1] ?_);refine Sa (T8 (Zb 2 ?_));refine cS H [0,0] h0 rfl Q10.spec Zj fun r1 w1 H h1=>?_;refine Zb 2 ?_;refine Z1 9 H (fun c1 H=>?_) fun c1 H=>?_
 ·refine rRL 3 0 h1 ?_;refine Zb 2 ?_;refine rI H h1 (gO 1) fun p1 p2 e1 H=>?_;refine Zk (Zc 0 h1.wht (gO 1) p1 p2) ?_;refine Zb 2 ?_;obtain ⟨p3,H⟩:=Zn H;refine Zk (Zdq p3) ?_;refine rFi [4] ?_;cases H;exact T9 (jR0 h1 [0,0])
 refine rFi [4] ?_;cases H;exact T9 (jR0 h1 [0,0])

def Q8.f (a0:TN) (a1:Int):Option (Int×TN):=(Q10.f a0 a1).bind fun r1=>(if (!decide (r1=0))=true then (some (r1,a0)) else ((Q6.f a0 a1).bind fun r2=>(if r2=true then (some (10,a0)) else (if 0<=(w64 (Int.tdiv a1 64))/\(w64 (Int.tdiv a1 64))<(a0.2.2.length:Int) then (if 0<=(Int.tmod a1 64) then (some (0,(a0.1,(w64 (a0.2.1+1)),(a0.2.2.set (w64 (Int.tdiv a1 64)).toNat (uH.wrap (((ofInt uH.bits (gt a0.2.2 (w64 (Int.tdiv a1 64))) ||| (ofInt uH.bits (uH.wrap ((1:Int)*2 ^ (min (Int.tmod a1 64).toNat 64))))).toNat:Int))))))) else none) else none))))
theorem Q8.spec {a0 a1 b1 A1 c_1 r} (H:Q8.f a0 a1=some r) :
  Spec prog 59 [.pointer (some ⟨b1,0,none⟩),.int .i64 a1] (Wg a0 b1 A1 c_1) [] (fun v l=>∃ A_0 c_0,v=.int .i64 r.1/\l=Wg r.2 b1 A_0 c_0):=by
 refine eN Tryz.func59 fun w0 F0 h0=>?_;unfold Q8.f at H;refine Sa (Za [0,1] ?_);refine Sa (Sa (T8 (Zb 2 ?_)));refine cS H [0,0] h0 rfl Q10.spec Zj fun r1 w1 H h1=>?_;refine rFi [0,1,5] ?_;refine Sa (Za [0,1,5,10] ?_);refine jIf H (fun c1 H=>?_) fun c1 H=>?_
 ·refine Sa (Za [4] ?_);cases H;exact T9 (jR ⟨_,_,rfl,rfl⟩ h1 [0,0])
 refine Sb (Sa (Sa (T8 (Zb 2 ?_))));refine cS H [0,0] h1 rfl Q6.spec Zj fun r2 w2 H h2=>?_;refine rFi [0,1,14] ?_;refine jIf H (fun c2 H=>?_) fun c2 H=>?_
 ·refine Sa (Za [4] ?_);cases H;exact T9 (jR ⟨_,_,rfl,rfl⟩ h2 [0,0])
 refine Sb (Sa ?_);obtain ⟨⟨p1,p2⟩,H⟩:=Zn H;obtain ⟨p3,H⟩:=Zn H;refine T7 (fun env w=>env=[(0,.pointer (some ⟨b1,0,none⟩))]/\St w0 F0 [Xo b1 a0.1 a0.2.1 (a0.2.2.set (w64 (Int.tdiv a1 64)).toNat (uH.wrap (((ofInt uH.bits (gt a0.2.2 (w64 (Int.tdiv a1 64))) ||| (ofInt uH.bits (uH.wrap ((1:Int)*2 ^ (min (Int.tmod a1 64).toNat 64))))).toNat:Int)))) A1 c_1,O79 (a0.2.2.set (w64 (Int.tdiv a1 64)).toNat (uH.wrap (((ofInt uH.bits (gt a0.2.2 (w64 (Int.tdiv a1 64))) ||| (ofInt uH.bits (uH.wrap ((1:Int)*2 ^ (min (Int.tmod a1 64).toNat 64))))).toNat:Int)))) A1 c_1] [] w) ?_ ?_
 ·refine Zt (sO h2 [0]) ?_;have h4:=h2.drew;refine Zr [0,1,2,4,5,8,9] ?_;refine Zd 3 rfl (Ze 0 wI) ?_;have e2:=U7 h4.wh (gO 1) p1 p2;refine Zd 6 rfl (Zl e2 p1 p2) ?_;refine HJ.named fun G E hE hG=>?_;have j7:∀ w2,St w0 F0 [Xo b1 a0.1 a0.2.1 a0.2.2 A1 c_1,O79 a0.2.2 A1 c_1] [] w2->G [12,11,10,7,6,3,9,8,5,4,2,1,0] ((27,.pointer (some ⟨blk A1,ofs A1+(w64 (Int.tdiv a1 64)).toNat*1,none⟩)) :: (26,.int .u64 (uH.wrap (((ofInt uH.bits (gt a0.2.2 (w64 (Int.tdiv a1 64))) ||| (ofInt uH.bits (uH.wrap ((1:Int)*2 ^ (min (Int.tmod a1 64).toNat 64))))).toNat:Int)))) :: (25,.int .u64 (uH.wrap ((1:Int)*2 ^ (min (Int.tmod a1 64).toNat 64)))) :: (22,.int .u64 (gt a0.2.2 (w64 (Int.tdiv a1 64)))) :: E) w2:=by
   intro w2 h4;subst hE;refine (hG _ _ _).1 ?_;refine hS 13 rfl (Zo 0 (.int .u64) (w64 (Int.tdiv a1 64)) (uH.wrap (((ofInt uH.bits (gt a0.2.2 (w64 (Int.tdiv a1 64))) ||| (ofInt uH.bits (uH.wrap ((1:Int)*2 ^ (min (Int.tmod a1 64).toNat 64))))).toNat:Int))) 1 h4 rfl p1 p2) 1 fun _ w7 h8=>?_;replace h8:St w0 F0 [O79 (a0.2.2.set (w64 (Int.tdiv a1 64)).toNat (uH.wrap (((ofInt uH.bits (gt a0.2.2 (w64 (Int.tdiv a1 64))) ||| (ofInt uH.bits (uH.wrap ((1:Int)*2 ^ (min (Int.tmod a1 64).toNat 64))))).toNat:Int)))) A1 c_1,Xo b1 a0.1 a0.2.1 (a0.2.2.set (w64 (Int.tdiv a1 64)).toNat (uH.wrap (((ofInt uH.bits (gt a0.2.2 (w64 (Int.tdiv a1 64))) ||| (ofInt uH.bits (uH.wrap ((1:Int)*2 ^ (min (Int.tmod a1 64).toNat 64))))).toNat:Int)))) A1 c_1] _ _:=h8.retell (by simp only [length_set,length_nil,O79,Xo] <;> rfl);refine Yy [0] ?_;exact Yv ⟨(by simp only [length_set,length_nil] <;> rfl),((h8.only [1,0] rfl).rds [] rfl)⟩
  subst hE;refine (hG _ _ _).1 ?_;refine T1 [7,10] (i:=7) rfl rfl rfl rfl ?_;refine (Xb ?_ (Xb ?_ Vt))
  ·refine Xd 7 rfl (Sd (Zc 0 h4.wht (gO 1) p1 p2)) ?_;rintro _ _ ⟨rfl,rfl⟩;replace h4:=nf h4;refine ⟨⟨[_],(sO h4 [1,0])⟩,?_⟩;refine Zd 10 rfl (Ji p3) ?_;refine Zr [11] ?_;refine Zd 12 rfl (Zl e2 p1 p2) ?_;exact (hG _ _ _).2 (j7 _ h4)
  ·refine HS.op (i:=10) rfl rfl rfl (Sd (Zgr rfl rfl rfl p3)) ?_; rintro _ _ ⟨rfl,rfl⟩; replace h4:St w0 F0 [_,_] _ _:=h4; refine ⟨⟨[_],(h4.only [1,0] rfl)⟩,?_⟩;refine Ye 7 rfl (Sd (Zc 0 h4.wht (gO 1) p1 p2)) ?_;rintro _ _ ⟨rfl,rfl⟩;replace h4:=nf h4;refine ⟨⟨[_],(sO h4 [1,0])⟩,?_⟩;refine Zr [11] ?_;refine Zd 12 rfl (Zl e2 p1 p2) ?_;exact ((hG _ _ _).2 (j7 _ h4)).re [0,1,3,2] 4
 rintro env w10 ⟨rfl,h11⟩;refine Sa (T8 (rRL 3 0 h11 ?_));refine Zb 3 ?_;refine rS (Zp 0 h11) fun _ w11 h12=>?_;refine rFi [] ?_;refine Sa (Za [4] ?_);cases H;exact T9 (jR ⟨_,_,rfl,rfl⟩ h12 [0,0])

def Q73.f (a0:Int):Option (Option TL×Int):=if (decide (a0<5))=true then (some (none,2)) else ((Q2.f a0).bind fun r1=>(W3 r1.1 (if (!decide (r1.2=0))=true then (some (none,r1.2)) else none) (fun r2=>(if (!decide (r1.2=0))=false then ((Q8.f r2 0).bind fun r3=>(some ((some r3.2),0))) else none))))
theorem Q73.spec {a0 r} (H:Q73.f a0=some r) :
  Spec prog 32 [.int .i64 a0] [] [] (fun v l=>∃(pv:Value) (lp:List Ch),OptC r.1 (fun d pv lp=>∃ b_0 b_1 A_2 c_2,pv=.pointer (some ⟨b_0,0,none⟩)/\lp=[W5 b_0 (.pointer (some ⟨b_1,0,none⟩)),Xo b_1 d.1 d.2.1 d.2.2 A_2 c_2,O79 d.2.2 A_2 c_2]) pv lp/\v=.tuple #[pv,.int .i64 r.2]/\l=lp ++ []):=by
 refine Zh Tryz.func32 fun w0 F0 h0=>?_;unfold Q73.f at H;refine Sa (Za [0] ?_);refine Sa (Sa (Za [0,7] ?_));refine jIf H (fun c1 H=>?_) fun c1 H=>?_
 ·refine Sa (Za [2,3] ?_);cases H;exact T9 (jR ⟨_,_,Se,rfl,rfl⟩ h0 [])
 refine Sb (Sa (T8 (Zb 1 ?_)));refine cE H [] h0 rfl Q2.spec Zj ?_;rintro r1 w1 _ _ H ⟨v1,l1,ho1,rfl,rfl⟩ h1;rcases ho2:r1.1 with _ | r2
 ·rw [ho2] at ho1;obtain ⟨rfl,rfl⟩:=ho1;replace H:=Vq ho2 H;obtain ⟨c2,H⟩:=Zn H;replace h1:=nf h1;refine rFi [4,5] ?_;refine Sa (Sa (Za [4,5,14] ?_));refine T3 rfl (fun e=>?_) (fun e=>by rw [c2] at e; cases e);refine Sa (Za [2,3] ?_);cases H;exact T9 (jR ⟨_,_,Se,rfl,rfl⟩ h1 [])
 rw [ho2] at ho1;obtain ⟨b1,A1,c_1,rfl,rfl⟩:=ho1;replace H:=Vp ho2 H;obtain ⟨c3,H⟩:=Zn H;replace h1:=nf h1;refine rFi [4,5] ?_;refine Sa (Sa (Za [4,5,14] ?_));refine T3 rfl (fun e=>by rw [c3] at e; cases e) (fun e=>?_);refine Sb (Sa (T8 (Zb 1 ?_)));refine cA H [0,0] h1 rfl Q8.spec Zj fun r3 A2 c_2 w2 H h2=>?_;refine rFi [4] ?_;refine Sa (T8 (Zb 2 ?_));refine rB (Zy h2) fun b2 w3 h3=>?_;refine rFi [2,3] ?_;cases H;exact T9 (jR ⟨_,_,(Sf ⟨_,_,_,_,rfl,rfl⟩),rfl,rfl⟩ h3 [0,0,0])

def Q139.f (a0:Tr) (a1:TV):Option (Bool):=if (decide (1<=(a1.length:Int)))=true then (some (decide ((a1.length:Int)<=a0.2.2.2.2.2.2.1))) else (some false)
theorem Q139.spec {a0 a1 r} (H:Q139.f a0 a1=some r) :
  Spec prog 78 [.agg #[.int .i64 a0.1,.int .i64 a0.2.1,.int .i64 a0.2.2.1,.int .i64 a0.2.2.2.1,.int .i64 a0.2.2.2.2.1,.int .i64 a0.2.2.2.2.2.1,.int .i64 a0.2.2.2.2.2.2.1,.int .i64 a0.2.2.2.2.2.2.2],.string ⟨⟨a1⟩⟩] [] [] (fun v l=>v=.bool r/\l=[]):=by
 refine Zh Tryz.func78 fun w0 F0 h0=>?_;unfold Q139.f at H;refine Sa (T8 (rB (Zy h0) fun b1 w1 h1=>?_));refine rFi [1,2] ?_;refine Sa (T8 (Zb 4 ?_));refine Z1 8 H (fun c1 H=>?_) fun c1 H=>?_
 ·refine rRL 3 0 h1 ?_;refine rFi [4] ?_;cases H;exact T9 (jR0 h1 [])
 refine rFi [4] ?_;cases H;exact T9 (jR0 h1 [])

def Q136.l0:Nat->TB->TV->TB->(Int)->Option Tz
 | 0,_,_,_,_=>none
 | k+1,a0,a1,x1,x2=>if (decide (x2<(a0.length:Int)))=true then (if 0<=x2/\x2<(a0.length:Int) then (if (!decide (((gt a0 x2).1)=a1))=true then (if (x1.length+([(gt a0 x2)]:List TH).length)*32<=140737488355328 then (Q136.l0 k a0 a1 (x1 ++ [(gt a0 x2)]) (w64 (x2+1))) else none) else (Q136.l0 k a0 a1 x1 (w64 (x2+1)))) else none) else (some x1)
def Q136.f (k:Nat) (a0:TB) (a1:TV):Option Tz:=Q136.l0 k a0 a1 [] 0
theorem Q136.spec {k a0 a1 A1 c_1 r} (H:Q136.f k a0 a1=some r) :
  Spec prog 120 [.slice A1 a0.length c_1,.string ⟨⟨a1⟩⟩] [] [R72 a0 A1 c_1] (fun v l=>∃ A_0 c_0,v=.slice A_0 r.length c_0/\l=[O72 r A_0 c_0]):=by
 refine Zh Tryz.func120 fun w0 F0 h0=>?_;unfold Q136.f at H;refine Sa (Za [0,1] ?_);refine Sa (T8 (rB (Zu (.pair .str .str) [] h0) fun b1 w1 h1=>?_));refine rFi [0,1,5] ?_;refine Sa (Sa (Za [0,1,5,6] ?_));refine T2 ?_;have h7:=(sOR h1 [0] [0]);refine T6 (fun kk env w=>∃ x1 A2 c_2 x2,Q136.l0 kk a0 a1 x1 x2=some r/\env=[(0,.slice A1 a0.length c_1),(1,.string ⟨⟨a1⟩⟩),(5,.slice A2 x1.length c_2),(6,.int .i64 x2)]/\St w0 F0 [O72 x1 A2 c_2] [R72 a0 A1 c_1] w) (k:=k) ⟨_,_,_,_,H,rfl,h7⟩ ?_;rintro k1 env w2 ⟨x1,A2,c_2,x2,H,rfl,h2⟩;rcases k1 with _ | k1
 ·exact z0 H
 rw [Q136.l0] at H;refine Sa (Sa (Za [0,1,5,6,11] ?_));refine jIf H (fun c1 H=>?_) fun c1 H=>?_
 ·refine Sb (Sa (T2 (Sa (T8 (Zb 2 ?_)))));refine rI H h2 (Zg 1) fun p1 p2 e1 H=>?_;refine Zb 1 ?_;refine Zk (Zc 0 h2.wht (Zg 1) p1 p2) ?_;refine rFi [0,1,5,6,20] ?_;refine jIf H (fun c2 H=>?_) fun c2 H=>?_
  ·refine T8 (Zb 3 ?_);refine Zk (Zl e1 p1 p2) ?_;refine Zk (Zc 0 h2.wht (Zg 1) p1 p2) ?_;refine rB (Zu (.pair .str .str) [(gt a0 x2)] h2) fun b2 w3 h3=>?_;obtain ⟨p3,H⟩:=Zn H;refine rA (Zs 1 h3 (gO 0) p3) fun A3 c_3 w4 h4=>?_;refine rFi [0,1,5,6] ?_;refine Za [0,1,5,6] ?_;have h5:=(sOR h4 [0] [0]);exact ⟨k1,by omega,_,_,_,_,H,rfl,h5⟩
  refine Sb (Za [0,1,5,6] ?_);have h6:=(sOR h2 [0] [0]);exact ⟨k1,by omega,_,_,_,_,H,rfl,h6⟩
 refine T5 (Sa (Za [4] ?_));cases H;exact T9 (jR ⟨_,_,rfl,rfl⟩ h2 [0])

def Q128.l0:Nat->TV->TV->(Int)->Option (Int)
 | 0,_,_,_=>none
 | k+1,a0,a1,x1=>if (decide (x1<(a0.length:Int)))=true then (if (decide (x1<(a1.length:Int)))=true then (if 0<=x1/\x1<(a0.length:Int) then (if 0<=x1/\x1<(a1.length:Int) then (if (decide ((gtb a0 x1)<(gtb a1 x1)))=true then (some (-1)) else (if (decide ((gtb a1 x1)<(gtb a0 x1)))=true then (some 1) else (Q128.l0 k a0 a1 (w64 (x1+1))))) else none) else none) else (if (decide ((a0.length:Int)<(a1.length:Int)))=true then (some (-1)) else (if (decide ((a1.length:Int)<(a0.length:Int)))=true then (some 1) else (some 0)))) else (if (decide ((a0.length:Int)<(a1.length:Int)))=true then (some (-1)) else (if (decide ((a1.length:Int)<(a0.length:Int)))=true then (some 1) else (some 0)))
def Q128.f (k:Nat) (a0:TV) (a1:TV):Option (Int):=Q128.l0 k a0 a1 0
theorem Q128.spec {k a0 a1 r} (H:Q128.f k a0 a1=some r) :
  Spec prog 80 [.string ⟨⟨a0⟩⟩,.string ⟨⟨a1⟩⟩] [] [] (fun v l=>v=.int .i64 r/\l=[]):=by
 refine Zh Tryz.func80 fun w0 F0 h0=>?_;unfold Q128.f at H;refine Sa (Za [0,1] ?_);refine Sa (Sa (Za [0,1,5] ?_));refine T2 ?_;have h5:=(sOR h0 [] []);refine T6 (fun kk env w=>∃ x1,Q128.l0 kk a0 a1 x1=some r/\env=[(0,.string ⟨⟨a0⟩⟩),(1,.string ⟨⟨a1⟩⟩),(5,.int .i64 x1)]/\St w0 F0 [] [] w) (k:=k) ⟨_,H,rfl,h5⟩ ?_;rintro k1 env w1 ⟨x1,H,rfl,h1⟩;rcases k1 with _ | k1
 ·exact z0 H
 rw [Q128.l0] at H;refine Sa (Sa (T8 (Zb 5 ?_)));refine Z1 10 H (fun c1 H=>?_) fun c1 H=>?_
 ·refine rFi [0,1,5,15] ?_;refine jIf H (fun c2 H=>?_) fun c2 H=>?_
  ·refine Sb (Sa (T2 (Sa (Sa (jH h1 fun h2=>?_)))));refine Zr [0,1,3,4] ?_;obtain ⟨⟨p1,p2⟩,H⟩:=Zn H;refine Zd 2 rfl (Xf p1 p2) ?_;obtain ⟨⟨p3,p4⟩,H⟩:=Zn H;refine Zd 5 rfl (Xf p3 p4) ?_;refine hRF [6] [0,1,5,24] ?_;refine jIf H (fun c3 H=>?_) fun c3 H=>?_
   ·refine Sa (Za [4] ?_);cases H;exact T9 (jR0 h2 [])
   refine Sb (Sa (jH h2 fun h3=>?_));refine Zr [0,1,3,4] ?_;refine Zd 2 rfl (Xf p1 p2) ?_;refine Zd 5 rfl (Xf p3 p4) ?_;refine hRF [6] [0,1,5,31] ?_;refine jIf H (fun c4 H=>?_) fun c4 H=>?_
   ·refine Sa (Za [4] ?_);cases H;exact T9 (jR0 h3 [])
   refine Sb (Za [0,1,5] ?_);have h4:=(sOR h3 [] []);exact ⟨k1,by omega,_,H,rfl,h4⟩
  refine T5 (Sa (Sa (Za [0,1,36] ?_)));refine jIf H (fun c5 H=>?_) fun c5 H=>?_
  ·refine Sa (Za [4] ?_);cases H;exact T9 (jR0 h1 [])
  refine Sb (Sa (Sa (Za [41] ?_)));refine jIf H (fun c6 H=>?_) fun c6 H=>?_
  ·refine Sa (Za [4] ?_);cases H;exact T9 (jR0 h1 [])
  refine Sb (Sa (Za [4] ?_));cases H;exact T9 (jR0 h1 [])
 refine rFi [0,1,5,15] ?_;refine Zx ?_;refine T5 (Sa (Sa (Za [0,1,36] ?_)));refine jIf H (fun c7 H=>?_) fun c7 H=>?_
 ·refine Sa (Za [4] ?_);cases H;exact T9 (jR0 h1 [])
 refine Sb (Sa (Sa (Za [41] ?_)));refine jIf H (fun c8 H=>?_) fun c8 H=>?_
 ·refine Sa (Za [4] ?_);cases H;exact T9 (jR0 h1 [])
 refine Sb (Sa (Za [4] ?_));cases H;exact T9 (jR0 h1 [])

def Q137.l0:Nat->TV->TV->Tz->(Int)->Option Tz
 | 0,_,_,_,_=>none
 | k+1,a1,a2,r1,x3=>if (decide (x3<(r1.length:Int)))=true then (if 0<=x3/\x3<(r1.length:Int) then ((Q128.f k ((gt r1 x3).1) a1).bind fun r2=>(if (decide (r2<0))=true then (Q137.l0 k a1 a2 r1 (w64 (x3+1))) else (if (0:Int)<=x3/\x3<=(r1.length:Int) then (if (([]:List TH).length+(r1.take x3.toNat).length)*32<=140737488355328 then (if (([] ++ (r1.take x3.toNat)).length+([(a1,a2)]:List TH).length)*32<=140737488355328 then (if 0<=x3/\x3<=(r1.length:Int) then (if ((([] ++ (r1.take x3.toNat)) ++ [(a1,a2)]).length+(r1.drop x3.toNat).length)*32<=140737488355328 then (some ((([] ++ (r1.take x3.toNat)) ++ [(a1,a2)]) ++ (r1.drop x3.toNat))) else none) else none) else none) else none) else none))) else none) else (if (0:Int)<=x3/\x3<=(r1.length:Int) then (if (([]:List TH).length+(r1.take x3.toNat).length)*32<=140737488355328 then (if (([] ++ (r1.take x3.toNat)).length+([(a1,a2)]:List TH).length)*32<=140737488355328 then (if 0<=x3/\x3<=(r1.length:Int) then (if ((([] ++ (r1.take x3.toNat)) ++ [(a1,a2)]).length+(r1.drop x3.toNat).length)*32<=140737488355328 then (some ((([] ++ (r1.take x3.toNat)) ++ [(a1,a2)]) ++ (r1.drop x3.toNat))) else none) else none) else none) else none) else none)
def Q137.f (k:Nat) (a0:TB) (a1:TV) (a2:TV):Option Tz:=(Q136.f k a0 a1).bind fun r1=>(Q137.l0 k a1 a2 r1 0)
theorem Q137.spec {k a0 a1 a2 A1 c_1 r} (H:Q137.f k a0 a1 a2=some r) :
  Spec prog 79 [.slice A1 a0.length c_1,.string ⟨⟨a1⟩⟩,.string ⟨⟨a2⟩⟩] [] [R72 a0 A1 c_1] (fun v l=>∃ A_0 c_0,v=.slice A_0 r.length c_0/\l=[O72 r A_0 c_0]):=by
 refine Zh Tryz.func79 fun w0 F0 h0=>?_;unfold Q137.f at H;refine Sa (Za [0,1,2] ?_);refine Sa (T8 (Zb 2 ?_));refine cA H [] h0 rfl Q136.spec (gS [0]) fun r1 A2 c_2 w1 H h1=>?_;refine rFi [0,1,2] ?_;refine Sa (Za [0,1,2,7] ?_);refine Sa (T7 (fun env w=>∃(x1:Int) (x2:Bool),env=[(0,.slice A2 r1.length c_2),(1,.string ⟨⟨a1⟩⟩),(2,.string ⟨⟨a2⟩⟩),(7,.int .i64 x1),(25,.bool x2)]/\St w0 F0 [O72 r1 A2 c_2] [] w/\(if (0:Int)<=x1/\x1<=(r1.length:Int) then (if (([]:List TH).length+(r1.take x1.toNat).length)*32<=140737488355328 then (if (([] ++ (r1.take x1.toNat)).length+([(a1,a2)]:List TH).length)*32<=140737488355328 then (if 0<=x1/\x1<=(r1.length:Int) then (if ((([] ++ (r1.take x1.toNat)) ++ [(a1,a2)]).length+(r1.drop x1.toNat).length)*32<=140737488355328 then (some ((([] ++ (r1.take x1.toNat)) ++ [(a1,a2)]) ++ (r1.drop x1.toNat))) else none) else none) else none) else none) else none)=some r) ?_ ?_)
 ·refine T2 ?_;have h14:=(sOR h1 [0] []);refine T6 (fun kk env w=>∃ x3,Q137.l0 kk a1 a2 r1 x3=some r/\env=[(0,.slice A2 r1.length c_2),(1,.string ⟨⟨a1⟩⟩),(2,.string ⟨⟨a2⟩⟩),(7,.int .i64 x3)]/\St w0 F0 [O72 r1 A2 c_2] [] w/\kk<=k) (k:=k) ⟨_,H,rfl,h14,Sc _⟩ ?_;rintro k2 env w9 ⟨x3,H,rfl,h9,hk2⟩;rcases k2 with _ | k2
  ·exact z0 H
  rw [Q137.l0] at H;refine Sa (Sa (T8 (Zb 5 ?_)));refine Z1 16 H (fun c1 H=>?_) fun c1 H=>?_
  ·refine Zb 2 ?_;refine rI H h9 (gO 0) fun p8 p9 e3 H=>?_;refine Zb 1 ?_;refine Zk (Zc 0 h9.wht (gO 0) p8 p9) ?_;refine Zb 1 ?_;refine cS H [] h9 rfl Q128.spec Zj fun r2 w10 H h10=>?_;refine rFi [0,1,2,7,25] ?_;refine jIf H (fun c2 H=>?_) fun c2 H=>?_
   ·refine Sb (T2 (Za [0,1,2,7] ?_));have h11:=(sOR h10 [0] []);exact ⟨k2,by omega,_,H,rfl,h11,by omega⟩
   refine T5 ?_;have h12:=(sOR h10 [0] []);exact ⟨x3,(decide (r2<0)),rfl,h12,H⟩
  refine rFi [0,1,2,7,25] ?_;refine Zx ?_;refine T5 ?_;have h13:=(sOR h9 [0] []);exact ⟨x3,false,rfl,h13,H⟩
 rintro env w3 ⟨x1,x2,rfl,h2,H⟩;refine Sa (T8 (rB (Zu (.pair .str .str) [] h2) fun b1 w4 h3=>?_));refine Zb 2 ?_;obtain ⟨⟨p1,p2⟩,H⟩:=Zn H;have e1:=h3.cap (gO 1);refine Zk (Wo (r1.take x1.toNat) x1 e1 p1 p2) ?_;obtain ⟨p3,H⟩:=Zn H;refine rA (Zs 0 h3 ((Gives.of 0 rfl Yc).trans (Ug (.pair .str .str) (r1.take x1.toNat) x1 p1 p2)) p3) fun A3 c_3 w5 h4=>?_;refine rFi [0,1,2,7,8] ?_;refine Sa (T8 (Zb 4 ?_));refine rB (Zu (.pair .str .str) [(a1,a2)] h4) fun b2 w6 h5=>?_;obtain ⟨p4,H⟩:=Zn H;refine rA (Zs 1 h5 (gO 0) p4) fun A4 c_4 w7 h6=>?_;refine rFi [0,7,8] ?_;refine Sa (T8 (Zb 3 ?_));obtain ⟨⟨p5,p6⟩,H⟩:=Zn H;have e2:=h6.cap (gO 2);refine Zk (W8 (r1.drop x1.toNat) x1 (r1.length:Int) e2 p5 p6 (Int.le_refl _) (Xc _ _)) ?_;obtain ⟨p7,H⟩:=Zn H;refine rA (Zs 0 h6 ((Gives.of 1 rfl Yc).trans (Ws (.pair .str .str) (r1.drop x1.toNat) x1 (r1.length:Int) p5 p6 (Int.le_refl _) (Xc _ _))) p7) fun A5 c_5 w8 h7=>?_;refine rFi [6] ?_;have h8:=nO h7 [0];cases H;exact T9 (jR ⟨_,_,rfl,rfl⟩ h8 [0])

mutual
def Q124.l0:Nat->Tr->Tp->TB->(Int)->Option Tz
 | 0,_,_,_,_=>none
 | k+1,a0,a1,x1,x2=>if (decide (x2<(a1.1.length:Int)))=true then (Q124.l1 k a0 a1 x1 x2 (decide (x2<150))) else (Q124.l1 k a0 a1 x1 x2 false)
def Q124.l1:Nat->Tr->Tp->TB->(Int)->(Bool)->Option Tz
 | 0,_,_,_,_,_=>none
 | k+1,a0,a1,x1,x2,x3=>if x3=true then (if 0<=x2/\x2<(a1.1.length:Int) then ((Q139.f a0 ((gt a1.1 x2).1)).bind fun r2=>(if r2=true then (Q124.l2 k a0 a1 x1 x2 (decide ((((gt a1.1 x2).2).length:Int)<=a0.2.2.2.2.2.2.2))) else (Q124.l2 k a0 a1 x1 x2 false))) else none) else (some x1)
def Q124.l2:Nat->Tr->Tp->TB->(Int)->(Bool)->Option Tz
 | 0,_,_,_,_,_=>none
 | k+1,a0,a1,x1,x2,x4=>if x4=true then (if 0<=x2/\x2<(a1.1.length:Int) then ((Q137.f k x1 ((gt a1.1 x2).1) ((gt a1.1 x2).2)).bind fun r1=>(Q124.l0 k a0 a1 r1 (w64 (x2+1)))) else none) else (Q124.l0 k a0 a1 x1 (w64 (x2+1)))
end
def Q124.f (k:Nat) (a0:Tr) (a1:Tp):Option Tz:=Q124.l0 k a0 a1 [] 0
theorem Q124.spec {k a0 a1 A1 c_1 A2 c_2 A3 c_3 A4 c_4 r} (H:Q124.f k a0 a1=some r) :
  Spec prog 49 [.agg #[.int .i64 a0.1,.int .i64 a0.2.1,.int .i64 a0.2.2.1,.int .i64 a0.2.2.2.1,.int .i64 a0.2.2.2.2.1,.int .i64 a0.2.2.2.2.2.1,.int .i64 a0.2.2.2.2.2.2.1,.int .i64 a0.2.2.2.2.2.2.2],.agg #[.slice A1 a1.1.length c_1,.slice A2 a1.2.1.length c_2,.slice A3 a1.2.2.1.length c_3,.slice A4 a1.2.2.2.length c_4]] [] [R72 a1.1 A1 c_1,R74 a1.2.1 A2 c_2,R5 a1.2.2.1 A3 c_3,R5 a1.2.2.2 A4 c_4] (fun v l=>∃ A_0 c_0,v=.slice A_0 r.length c_0/\l=[O72 r A_0 c_0]):=by
 refine Zh Tryz.func49 fun w0 F0 h0=>?_;unfold Q124.f at H;refine Sa (T8 (rB (Zy h0) fun b1 w1 h1=>?_));refine rB (Zy h1) fun b2 w2 h2=>?_;refine rFi [2,3] ?_;refine Sa (T8 (rB (Zu (.pair .str .str) [] h2) fun b3 w3 h3=>?_));refine rFi [2,3,5] ?_;refine Sa (Sa (Za [2,3,5,6] ?_));refine T2 ?_;have h18:=(sOR h3 [2,1,0] [0,1,2,3]);refine T6 (fun kk env w=>∃ x1 A5 c_5 x2,Q124.l0 kk a0 a1 x1 x2=some r/\env=[(2,.pointer (some ⟨b1,0,none⟩)),(3,.pointer (some ⟨b2,0,none⟩)),(5,.slice A5 x1.length c_5),(6,.int .i64 x2)]/\St w0 F0 [X23 b1 a0.1 a0.2.1 a0.2.2.1 a0.2.2.2.1 a0.2.2.2.2.1 a0.2.2.2.2.2.1 a0.2.2.2.2.2.2.1 a0.2.2.2.2.2.2.2,X55 b2 a1.1 A1 c_1 a1.2.1 A2 c_2 a1.2.2.1 A3 c_3 a1.2.2.2 A4 c_4,O72 x1 A5 c_5] [R72 a1.1 A1 c_1,R74 a1.2.1 A2 c_2,R5 a1.2.2.1 A3 c_3,R5 a1.2.2.2 A4 c_4] w) (k:=k) ⟨_,_,_,_,H,rfl,h18⟩ ?_;rintro k1 env w4 ⟨x1,A5,c_5,x2,H,rfl,h4⟩;rcases k1 with _ | k1
 ·exact z0 H
 rw [Q124.l0] at H;refine Sa (Sa (T7 (fun env w=>∃ k2 x3,Q124.l1 k2 a0 a1 x1 x2 x3=some r/\env=[(2,.pointer (some ⟨b1,0,none⟩)),(3,.pointer (some ⟨b2,0,none⟩)),(5,.slice A5 x1.length c_5),(6,.int .i64 x2),(16,.bool x3)]/\St w0 F0 [X23 b1 a0.1 a0.2.1 a0.2.2.1 a0.2.2.2.1 a0.2.2.2.2.1 a0.2.2.2.2.2.1 a0.2.2.2.2.2.2.1 a0.2.2.2.2.2.2.2,X55 b2 a1.1 A1 c_1 a1.2.1 A2 c_2 a1.2.2.1 A3 c_3 a1.2.2.2 A4 c_4,O72 x1 A5 c_5] [R72 a1.1 A1 c_1,R74 a1.2.1 A2 c_2,R5 a1.2.2.1 A3 c_3,R5 a1.2.2.2 A4 c_4] w/\k2<=k1) ?_ ?_))
 ·refine T8 (rRL 2 1 h4 ?_);refine Zb 3 ?_;refine Z1 13 H (fun c4 H=>?_) fun c4 H=>?_
  ·refine rFi [2,3,5,6,16] ?_;have h16:=(sOR h4 [0,0,0] [0,1,2,3]);exact ⟨k1,_,H,rfl,h16,Sc _⟩
  refine rFi [2,3,5,6,16] ?_;have h17:=(sOR h4 [0,0,0] [0,1,2,3]);exact ⟨k1,_,H,rfl,h17,Sc _⟩
 rintro env w6 ⟨k2,x3,H,rfl,h5,hk2⟩;rcases k2 with _ | k2
 ·exact z0 H
 rw [Q124.l1] at H;refine jIf H (fun c1 H=>?_) fun c1 H=>?_
 ·refine Sb (Sa (T2 (Sa (T7 (fun env w=>∃ k3 x4,Q124.l2 k3 a0 a1 x1 x2 x4=some r/\env=[(2,.pointer (some ⟨b1,0,none⟩)),(3,.pointer (some ⟨b2,0,none⟩)),(5,.slice A5 x1.length c_5),(6,.int .i64 x2),(38,.bool x4)]/\St w0 F0 [X23 b1 a0.1 a0.2.1 a0.2.2.1 a0.2.2.2.1 a0.2.2.2.2.1 a0.2.2.2.2.2.1 a0.2.2.2.2.2.2.1 a0.2.2.2.2.2.2.2,X55 b2 a1.1 A1 c_1 a1.2.1 A2 c_2 a1.2.2.1 A3 c_3 a1.2.2.2 A4 c_4,O72 x1 A5 c_5] [R72 a1.1 A1 c_1,R74 a1.2.1 A2 c_2,R5 a1.2.2.1 A3 c_3,R5 a1.2.2.2 A4 c_4] w/\k3<=k2) ?_ ?_))))
  ·refine jH h5 fun h11=>?_;refine Zr [1,3] ?_;refine Zd 0 rfl (Ze 0 wI) ?_;refine Zd 2 rfl (Ze 1 wI) ?_;refine hI 4 H h11 (Zg 3) fun p3 p4 e2 H=>?_;refine Zr [5] ?_;refine Zd 6 rfl (Zc 0 wI (Zg 3) p3 p4) ?_;refine cSJ 7 rfl H [] h11 rfl Q139.spec Zj 0 fun r2 w10 H h12=>?_;refine Zr [8] ?_;refine Xu 27 H (fun c3 H=>?_) fun c3 H=>?_
   ·refine Zr [9,11,16] ?_;refine Zd 10 rfl (Ze 1 wI) ?_;refine Zd 12 rfl (Zl e2 p3 p4) ?_;refine Zr [13] ?_;refine Zd 14 rfl (Zc 1 wI (Zg 3) p3 p4) ?_;refine Zr [15] ?_;refine Zd 17 rfl (Ze 0 wI) ?_;refine hRF [18,19] [2,3,5,6,38] ?_;have h13:=(sOR h12 [0,0,0] [0,1,2,3]);exact ⟨k2,_,H,rfl,h13,Sc _⟩
   refine hRF [9,10,11,12,13,14,15,16,17,18,19] [2,3,5,6,38] ?_;have h14:=(sOR h12 [0,0,0] [0,1,2,3]);exact ⟨k2,_,H,rfl,h14,Sc _⟩
  rintro env w8 ⟨k3,x4,H,rfl,h6,hk3⟩;rcases k3 with _ | k3
  ·exact z0 H
  rw [Q124.l2] at H;refine jIf H (fun c2 H=>?_) fun c2 H=>?_
  ·refine jH h6 fun h7=>?_;refine Zr [0,1,3,7,9] ?_;refine Zd 2 rfl (Ze 1 wI) ?_;refine hI 4 H h7 (Zg 3) fun p1 p2 e1 H=>?_;refine Zr [5] ?_;refine Zd 6 rfl (Zc 0 wI (Zg 3) p1 p2) ?_;refine Zd 8 rfl (Ze 1 wI) ?_;refine Zd 10 rfl (Zl e1 p1 p2) ?_;refine Zr [11] ?_;refine Zd 12 rfl (Zc 1 wI (Zg 3) p1 p2) ?_;refine cEJ 13 rfl H [] h7 rfl Q137.spec (Yl (gO 2) Zj) ?_;rintro r1 w9 _ _ H ⟨A6,c_6,rfl,rfl⟩ h8;replace h8:=nf h8;refine ⟨⟨[_],h8⟩,?_⟩;refine hRF [14] [2,3,5,6] ?_;refine Za [2,3,5,6] ?_;have h9:=(sOR h8 [1,1,0] [0,1,2,3]);exact ⟨k3,by omega,_,_,_,_,H,rfl,h9⟩
  refine Sb (Za [2,3,5,6] ?_);have h10:=(sOR h6 [0,0,0] [0,1,2,3]);exact ⟨k3,by omega,_,_,_,_,H,rfl,h10⟩
 refine T5 (Sa (Za [4] ?_));have h15:=nO h5 [2];cases H;exact T9 (jR ⟨_,_,rfl,rfl⟩ h15 [0])

def Q123.f (a0:Tp) (a1:Int) (a2:Int):Option (Int):=if (decide ((a0.2.2.2.length:Int)=0))=true then (some a2) else (if 0<(a0.2.2.2.length:Int) then (if 0<=(Int.tmod a1 (a0.2.2.2.length:Int))/\(Int.tmod a1 (a0.2.2.2.length:Int))<(a0.2.2.2.length:Int) then (if 0<a2 then (some (w64 (1+(Int.tmod (w64 ((gt a0.2.2.2 (Int.tmod a1 (a0.2.2.2.length:Int))))) a2)))) else none) else none) else none)
theorem Q123.spec {a0 a1 a2 A1 c_1 A2 c_2 A3 c_3 A4 c_4 r} (H:Q123.f a0 a1 a2=some r) :
  Spec prog 50 [.agg #[.slice A1 a0.1.length c_1,.slice A2 a0.2.1.length c_2,.slice A3 a0.2.2.1.length c_3,.slice A4 a0.2.2.2.length c_4],.int .i64 a1,.int .i64 a2] [] [R72 a0.1 A1 c_1,R74 a0.2.1 A2 c_2,R5 a0.2.2.1 A3 c_3,R5 a0.2.2.2 A4 c_4] (fun v l=>v=.int .i64 r/\l=[]):=by
 refine Zh Tryz.func50 fun w0 F0 h0=>?_;unfold Q123.f at H;refine Sa (T8 (rB (Zy h0) fun b1 w1 h1=>?_));refine rFi [1,2,3] ?_;refine Sa (Sa (T8 (rRL 1 0 h1 ?_)));refine rFi [1,2,3,10] ?_;refine jIf H (fun c1 H=>?_) fun c1 H=>?_
 ·refine Sa (Za [6] ?_);cases H;exact T9 (jR0 h1 [])
 refine Sb (Sa (jH h1 fun h2=>?_));refine Zr [0,2,3,10] ?_;refine Zd 1 rfl (Ze 0 wI) ?_;refine Zd 4 rfl (Ze 0 wI) ?_;refine Zr [5] ?_;obtain ⟨p1,H⟩:=Zn H;refine Zd 6 rfl (B3 p1) ?_;refine hI 7 H h2 (Zg 4) fun p2 p3 e1 H=>?_;refine Zd 8 rfl (Zc 0 wI (Zg 4) p2 p3) ?_;refine Zr [9] ?_;obtain ⟨p4,H⟩:=Zn H;refine Zd 11 rfl (B3 p4) ?_;refine hRF [12,13] [6] ?_;cases H;exact T9 (jR0 h2 [])

end Go.SK.T
