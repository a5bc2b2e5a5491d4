/- The types of the program, and its functions as the code computes them, each proved. -/
import Derived.Test.YtgdmpkhmedbnpaaGreatDoorXShelfFlushedKE
import Derived.Test.YtgdmpkhmedbnpaaGreatDoorProg
import Derived.Shelf.Spec.TrailingZeros
set_option linter.unusedVariables false
set_option linter.unusedSimpArgs false
set_option maxRecDepth 20000
set_option maxHeartbeats 40000000
namespace Go.SK.T
open Go Go.SK Go.Proofs
abbrev TU:=List Int
abbrev TS:=Int×Int
abbrev TR:=List Bool
abbrev TQ:=Int×Bool
abbrev TP:=List UInt8
abbrev TO:=Int×List Int
abbrev TN:=List Int×Int
abbrev TM:=Bool×List Int
abbrev TL:=List UInt8×Int
abbrev TJ:=List TS
abbrev TH:=List TP
abbrev TG:=Int×Int×List Int
abbrev TF:=Int×Bool×List Int
abbrev TE:=TG
abbrev TD:=List (Int×Int×Bool)
abbrev TC:=List UInt8×List UInt8
abbrev TB:=Int×List Int×TS
abbrev TA:=TD×Int
abbrev Tz:=List UInt8×Bool×List UInt8
abbrev Tx:=List UInt8×List UInt8×Bool
abbrev Tw:=List TC
abbrev Tv:=List (Int×List Int×Bool×Int)
abbrev Tu:=Int×TA
abbrev Tt:=List Tz
abbrev Ts:=List Int×Int×TE
abbrev Tr:=Int×Int×Int×Int×Int×Int×Int×Int
abbrev Tq:=Tr
abbrev Tp:=Int×List Int×List TP×Tt×Tw
abbrev Tn:=Int×Tp
abbrev Tm:=Int×Int×Tp
abbrev Tl:=List Tn
abbrev Tk:=Tp×TN
abbrev Tj:=List Tm
abbrev Ti:=TB×Tv×TJ×List Int×TA
abbrev Th:=Int×Ti
abbrev Tg:=Tr×Tl×List Bool×Int
abbrev Tf:=Tg
abbrev Te:=Tg×Int
abbrev Td:=Tg×Int×Int
abbrev Tc:=Tr×Ti×TE×Int
abbrev Tb:=Int×Tc
abbrev Ta:=Int×Int×Tc
abbrev TV:=@HJ.pick
abbrev TW:=@J.block
abbrev TX:=@J.cond
abbrev TY:=@J.envEq
abbrev TZ:=@J.exit
abbrev T0:=@J.loop
abbrev T1:=@J.midS
abbrev T2:=@J.region
abbrev T3:=@J.ret
abbrev T4:=@J.seq
abbrev T5:=@J.skip
abbrev T6:=@Nat.le_refl
abbrev T7:=@OpT.ofq
abbrev T8:=@OptC.no
abbrev T9:=@RJ.run
abbrev Sa:=@RV.cell
abbrev Sb:=@RV.tmp
def tt:TT:=[(1,⟨.func,1,8,.nilFunc⟩),
 (2,⟨.int .i64,1,8,.int .i64 0⟩),
 (3,⟨.int .i64,1,8,.int .i64 0⟩),
 (4,⟨.bool,1,1,.bool false⟩),
 (5,⟨.int .u8,1,1,.int .u8 0⟩),
 (6,⟨.int .u8,1,1,.int .u8 0⟩),
 (9,⟨.str,1,16,.string ⟨⟨[]⟩⟩⟩),
 (23,⟨.struct [(3,0,1),(3,1,1),(3,2,1),(3,3,1),(3,4,1),(3,5,1),(3,6,1),(3,7,1)],8,64,.agg #[.int .i64 0,.int .i64 0,.int .i64 0,.int .i64 0,.int .i64 0,.int .i64 0,.int .i64 0,.int .i64 0]⟩),
 (24,⟨.slice 45,1,24,.slice none 0 0⟩),
 (27,⟨.ptr 83,1,8,.pointer none⟩),
 (28,⟨.ptr 121,1,8,.pointer none⟩),
 (31,⟨.slice 53,1,24,.slice none 0 0⟩),
 (32,⟨.slice 4,1,24,.slice none 0 0⟩),
 (33,⟨.int .u32,1,4,.int .u32 0⟩),
 (35,⟨.struct [(23,0,8),(31,8,1),(32,9,1),(33,10,1)],11,120,.agg #[.int .i64 0,.int .i64 0,.int .i64 0,.int .i64 0,.int .i64 0,.int .i64 0,.int .i64 0,.int .i64 0,.slice none 0 0,.slice none 0 0,.int .u32 0]⟩),
 (38,⟨.slice 33,1,24,.slice none 0 0⟩),
 (39,⟨.slice 9,1,24,.slice none 0 0⟩),
 (40,⟨.slice 115,1,24,.slice none 0 0⟩),
 (41,⟨.slice 106,1,24,.slice none 0 0⟩),
 (43,⟨.struct [(3,0,1),(38,1,1),(39,2,1),(40,3,1),(41,4,1)],5,104,.agg #[.int .i64 0,.slice none 0 0,.slice none 0 0,.slice none 0 0,.slice none 0 0]⟩),
 (45,⟨.struct [(3,0,1),(33,1,1),(43,2,5)],7,120,.agg #[.int .i64 0,.int .u32 0,.int .i64 0,.slice none 0 0,.slice none 0 0,.slice none 0 0,.slice none 0 0]⟩),
 (48,⟨.int .i64,1,8,.int .i64 0⟩),
 (53,⟨.struct [(3,0,1),(43,1,5)],6,112,.agg #[.int .i64 0,.int .i64 0,.slice none 0 0,.slice none 0 0,.slice none 0 0,.slice none 0 0]⟩),
 (54,⟨.slice 5,1,24,.slice none 0 0⟩),
 (61,⟨.int .u64,1,8,.int .u64 0⟩),
 (63,⟨.struct [(61,0,1),(61,1,1)],2,16,.agg #[.int .u64 0,.int .u64 0]⟩),
 (80,⟨.ptr 169,1,8,.pointer none⟩),
 (81,⟨.ptr 193,1,8,.pointer none⟩),
 (83,⟨.struct [(23,0,8),(28,8,1),(80,9,1),(81,10,1),(33,11,1)],12,96,.agg #[.int .i64 0,.int .i64 0,.int .i64 0,.int .i64 0,.int .i64 0,.int .i64 0,.int .i64 0,.int .i64 0,.pointer none,.pointer none,.pointer none,.int .u32 0]⟩),
 (92,⟨.struct [(9,0,1),(9,1,1),(4,2,1)],3,40,.agg #[.string ⟨⟨[]⟩⟩,.string ⟨⟨[]⟩⟩,.bool false]⟩),
 (106,⟨.struct [(9,0,1),(9,1,1)],2,32,.agg #[.string ⟨⟨[]⟩⟩,.string ⟨⟨[]⟩⟩]⟩),
 (115,⟨.struct [(9,0,1),(4,1,1),(9,2,1)],3,40,.agg #[.string ⟨⟨[]⟩⟩,.bool false,.string ⟨⟨[]⟩⟩]⟩),
 (121,⟨.struct [(3,0,1),(54,1,1),(63,2,2)],4,48,.agg #[.int .i64 0,.slice none 0 0,.int .u64 0,.int .u64 0]⟩),
 (124,⟨.ptr 172,1,8,.pointer none⟩),
 (161,⟨.ptr 163,1,8,.pointer none⟩),
 (163,⟨.struct [(33,0,1),(54,1,1),(4,2,1),(3,3,1)],4,48,.agg #[.int .u32 0,.slice none 0 0,.bool false,.int .i64 0]⟩),
 (164,⟨.slice 163,1,24,.slice none 0 0⟩),
 (165,⟨.map 33 3,1,8,.map none⟩),
 (166,⟨.slice 3,1,24,.slice none 0 0⟩),
 (167,⟨.ptr 227,1,8,.pointer none⟩),
 (169,⟨.struct [(28,0,1),(164,1,1),(165,2,1),(166,3,1),(167,4,1)],5,72,.agg #[.pointer none,.slice none 0 0,.map none,.slice none 0 0,.pointer none]⟩),
 (172,⟨.struct [(54,0,1),(48,1,1)],2,32,.agg #[.slice none 0 0,.int .i64 0]⟩),
 (175,⟨.int .u64,1,8,.int .u64 0⟩),
 (177,⟨.func,1,8,.nilFunc⟩),
 (184,⟨.func,1,8,.nilFunc⟩),
 (191,⟨.ptr 231,1,8,.pointer none⟩),
 (193,⟨.struct [(191,0,1)],1,8,.agg #[.pointer none]⟩),
 (200,⟨.func,1,8,.nilFunc⟩),
 (206,⟨.func,1,8,.nilFunc⟩),
 (209,⟨.func,1,8,.nilFunc⟩),
 (216,⟨.func,1,8,.nilFunc⟩),
 (224,⟨.struct [(3,0,1),(3,1,1),(4,2,1)],3,24,.agg #[.int .i64 0,.int .i64 0,.bool false]⟩),
 (225,⟨.slice 224,1,24,.slice none 0 0⟩),
 (227,⟨.struct [(225,0,1),(3,1,1)],2,32,.agg #[.slice none 0 0,.int .i64 0]⟩),
 (229,⟨.slice 61,1,24,.slice none 0 0⟩),
 (231,⟨.struct [(3,0,1),(3,1,1),(229,2,1)],3,40,.agg #[.int .i64 0,.int .i64 0,.slice none 0 0]⟩),
 (250,⟨.func,1,8,.nilFunc⟩),
 (254,⟨.func,1,8,.nilFunc⟩),
 (257,⟨.func,1,8,.nilFunc⟩),
 (274,⟨.int .i64,1,8,.int .i64 0⟩),
 (283,⟨.int .u64,1,8,.int .u64 0⟩),
 (287,⟨.ptr 3,1,8,.pointer none⟩),
 (289,⟨.ptr 283,1,8,.pointer none⟩)]
theorem Yj:Yr Tryz.prog tt:=by
 refine ttC ⟨_,_,_,Tryz.underlying1⟩ ?_
 refine ttC Tryz.underlying2 ?_
 refine ttC Tryz.underlying3 ?_
 refine ttC Tryz.underlying4 ?_
 refine ttC Tryz.underlying5 ?_
 refine ttC Tryz.underlying6 ?_
 refine ttC Tryz.underlying9 ?_
 refine ttS Tryz.underlying23 ?_
 refine ttC Tryz.underlying24 ?_
 refine ttC Tryz.underlying27 ?_
 refine ttC Tryz.underlying28 ?_
 refine ttC Tryz.underlying31 ?_
 refine ttC Tryz.underlying32 ?_
 refine ttC Tryz.underlying33 ?_
 refine ttS Tryz.underlying35 ?_
 refine ttC Tryz.underlying38 ?_
 refine ttC Tryz.underlying39 ?_
 refine ttC Tryz.underlying40 ?_
 refine ttC Tryz.underlying41 ?_
 refine ttS Tryz.underlying43 ?_
 refine ttS Tryz.underlying45 ?_
 refine ttC Tryz.underlying48 ?_
 refine ttS Tryz.underlying53 ?_
 refine ttC Tryz.underlying54 ?_
 refine ttC Tryz.underlying61 ?_
 refine ttS Tryz.underlying63 ?_
 refine ttC Tryz.underlying80 ?_
 refine ttC Tryz.underlying81 ?_
 refine ttS Tryz.underlying83 ?_
 refine ttS Tryz.underlying92 ?_
 refine ttS Tryz.underlying106 ?_
 refine ttS Tryz.underlying115 ?_
 refine ttS Tryz.underlying121 ?_
 refine ttC Tryz.underlying124 ?_
 refine ttC Tryz.underlying161 ?_
 refine ttS Tryz.underlying163 ?_
 refine ttC Tryz.underlying164 ?_
 refine ttC Tryz.underlying165 ?_
 refine ttC Tryz.underlying166 ?_
 refine ttC Tryz.underlying167 ?_
 refine ttS Tryz.underlying169 ?_
 refine ttS Tryz.underlying172 ?_
 refine ttC Tryz.underlying175 ?_
 refine ttC ⟨_,_,_,Tryz.underlying177⟩ ?_
 refine ttC ⟨_,_,_,Tryz.underlying184⟩ ?_
 refine ttC Tryz.underlying191 ?_
 refine ttS Tryz.underlying193 ?_
 refine ttC ⟨_,_,_,Tryz.underlying200⟩ ?_
 refine ttC ⟨_,_,_,Tryz.underlying206⟩ ?_
 refine ttC ⟨_,_,_,Tryz.underlying209⟩ ?_
 refine ttC ⟨_,_,_,Tryz.underlying216⟩ ?_
 refine ttS Tryz.underlying224 ?_
 refine ttC Tryz.underlying225 ?_
 refine ttS Tryz.underlying227 ?_
 refine ttC Tryz.underlying229 ?_
 refine ttS Tryz.underlying231 ?_
 refine ttC ⟨_,_,_,Tryz.underlying250⟩ ?_
 refine ttC ⟨_,_,_,Tryz.underlying254⟩ ?_
 refine ttC ⟨_,_,_,Tryz.underlying257⟩ ?_
 refine ttC Tryz.underlying274 ?_
 refine ttC Tryz.underlying283 ?_
 refine ttC Tryz.underlying287 ?_
 refine ttC Tryz.underlying289 ?_
 exact Zlq _
theorem mix:Tryz.prog.follows .mixedOrders=true:=by kernel_rfl
instance:TTI Tryz.prog tt:=⟨Yj,mix⟩
abbrev X23 (b:Nat) (p0:Int) (p1:Int) (p2:Int) (p3:Int) (p4:Int) (p5:Int) (p6:Int) (p7:Int):Ch:=Ys b 23 [.int .i64 p0,.int .i64 p1,.int .i64 p2,.int .i64 p3,.int .i64 p4,.int .i64 p5,.int .i64 p6,.int .i64 p7]
abbrev O5 (x:TU) (A:Option Addr) (c:Nat):Ch:=Yh 5 (.int .u8) x (.slice A x.length c)
abbrev Xf (b:Nat) (p0:Int) (p1:TU) (A1:Option Addr) (c1:Nat) (p2:Int) (p3:Int):Ch:=Ys b 121 [.int .i64 p0,.slice A1 p1.length c1,.int .u64 p2,.int .u64 p3]
abbrev X83 (b:Nat) (p0:Int) (p1:Int) (p2:Int) (p3:Int) (p4:Int) (p5:Int) (p6:Int) (p7:Int) (p8:Value) (p9:Value) (p10:Value) (p11:Int):Ch:=Ys b 83 [.int .i64 p0,.int .i64 p1,.int .i64 p2,.int .i64 p3,.int .i64 p4,.int .i64 p5,.int .i64 p6,.int .i64 p7,p8,p9,p10,.int .u32 p11]
abbrev Xp (b:Nat) (p0:Value) (p1:Tv) (A1:Option Addr) (c1:Nat) (p2:Value) (p3:TU) (A3:Option Addr) (c3:Nat) (p4:Value):Ch:=Ys b 169 [p0,.slice A1 p1.length c1,p2,.slice A3 p3.length c3,p4]
abbrev Xm (x:Tv) (A:Option Addr) (c:Nat):Ch:=Yh 163 (.pair (.int .u32) (.pair (.slice 5 (.int .u8)) (.pair .bool (.int .i64)))) x (.slice A x.length c)
abbrev O3 (x:TU) (A:Option Addr) (c:Nat):Ch:=Yh 3 (.int .i64) x (.slice A x.length c)
abbrev Yx (b:Nat) (p0:TD) (A0:Option Addr) (c0:Nat) (p1:Int):Ch:=Ys b 227 [.slice A0 p0.length c0,.int .i64 p1]
abbrev Yy (x:TD) (A:Option Addr) (c:Nat):Ch:=Yh 224 (.pair (.int .i64) (.pair (.int .i64) .bool)) x (.slice A x.length c)
abbrev Zaw (b:Nat) (p0:Value):Ch:=Ys b 193 [p0]
abbrev W6 (b:Nat) (p0:Int) (p1:Int) (p2:TU) (A2:Option Addr) (c2:Nat):Ch:=Ys b 231 [.int .i64 p0,.int .i64 p1,.slice A2 p2.length c2]
abbrev O61 (x:TU) (A:Option Addr) (c:Nat):Ch:=Yh 61 (.int .u64) x (.slice A x.length c)
abbrev B7 (x:TB) (b1:Nat) (A1:Option Addr) (c1:Nat):List Ch:=[Xf b1 x.1 x.2.1 A1 c1 x.2.2.1 x.2.2.2,O5 x.2.1 A1 c1]
abbrev W8 (x:TG) (b1:Nat) (A1:Option Addr) (c1:Nat):List Ch:=[W6 b1 x.1 x.2.1 x.2.2 A1 c1,O61 x.2.2 A1 c1]
abbrev X9 (x:Tc) (b1 b2 b3 b4 b5 b6 b7:Nat) (A1 A2 A3 A4 A5:Option Addr) (c1 c2 c3 c4 c5:Nat):List Ch:=[X83 b1 x.1.1 x.1.2.1 x.1.2.2.1 x.1.2.2.2.1 x.1.2.2.2.2.1 x.1.2.2.2.2.2.1 x.1.2.2.2.2.2.2.1 x.1.2.2.2.2.2.2.2 (.pointer (some ⟨b3,0,none⟩)) (.pointer (some ⟨b2,0,none⟩)) (.pointer (some ⟨b6,0,none⟩)) x.2.2.2,Xp b2 (.pointer (some ⟨b3,0,none⟩)) x.2.1.2.1 A2 c2 (.map (some b4)) x.2.1.2.2.2.1 A3 c3 (.pointer (some ⟨b5,0,none⟩)),Xf b3 x.2.1.1.1 x.2.1.1.2.1 A1 c1 x.2.1.1.2.2.1 x.2.1.1.2.2.2,O5 x.2.1.1.2.1 A1 c1,Xm x.2.1.2.1 A2 c2,Y2 .u32 (Value.int .i64) b4 x.2.1.2.2.1,O3 x.2.1.2.2.2.1 A3 c3,Yx b5 x.2.1.2.2.2.2.1 A4 c4 x.2.1.2.2.2.2.2,Yy x.2.1.2.2.2.2.1 A4 c4,Zaw b6 (.pointer (some ⟨b7,0,none⟩)),W6 b7 x.2.2.1.1 x.2.2.1.2.1 x.2.2.1.2.2 A5 c5,O61 x.2.2.1.2.2 A5 c5]
abbrev X43 (b:Nat) (p0:Int) (p1:TU) (A1:Option Addr) (c1:Nat) (p2:TH) (A2:Option Addr) (c2:Nat) (p3:Tt) (A3:Option Addr) (c3:Nat) (p4:Tw) (A4:Option Addr) (c4:Nat):Ch:=Ys b 43 [.int .i64 p0,.slice A1 p1.length c1,.slice A2 p2.length c2,.slice A3 p3.length c3,.slice A4 p4.length c4]
abbrev X92 (b:Nat) (p0:TP) (p1:TP) (p2:Bool):Ch:=Ys b 92 [.string ⟨⟨p0⟩⟩,.string ⟨⟨p1⟩⟩,.bool p2]
abbrev Y3 (x:Tw) (A:Option Addr) (c:Nat):Ch:=rdC 106 (.pair .str .str) x (.slice A x.length c)
abbrev X106 (b:Nat) (p0:TP) (p1:TP):Ch:=Ys b 106 [.string ⟨⟨p0⟩⟩,.string ⟨⟨p1⟩⟩]
abbrev R33 (x:TU) (A:Option Addr) (c:Nat):Ch:=rdC 33 (.int .u32) x (.slice A x.length c)
abbrev R9 (x:TH) (A:Option Addr) (c:Nat):Ch:=rdC 9 .str x (.slice A x.length c)
abbrev Y5 (x:Tt) (A:Option Addr) (c:Nat):Ch:=rdC 115 (.pair .str (.pair .bool .str)) x (.slice A x.length c)
abbrev O33 (x:TU) (A:Option Addr) (c:Nat):Ch:=Yh 33 (.int .u32) x (.slice A x.length c)
abbrev X3 (b:Nat) (p0:Int):Ch:=Ys b 3 [.int .i64 p0]
abbrev Zat (b:Nat) (p0:Int):Ch:=Ys b 283 [.int .u64 p0]
abbrev X115 (b:Nat) (p0:TP) (p1:Bool) (p2:TP):Ch:=Ys b 115 [.string ⟨⟨p0⟩⟩,.bool p1,.string ⟨⟨p2⟩⟩]
abbrev R5 (x:TU) (A:Option Addr) (c:Nat):Ch:=rdC 5 (.int .u8) x (.slice A x.length c)
abbrev Ui (x:TE) (b1 b2:Nat) (A1:Option Addr) (c1:Nat):List Ch:=[Zaw b1 (.pointer (some ⟨b2,0,none⟩)),W6 b2 x.1 x.2.1 x.2.2 A1 c1,O61 x.2.2 A1 c1]
abbrev Wf (x:Ti) (b1 b2 b3 b4:Nat) (A1 A2 A3 A4:Option Addr) (c1 c2 c3 c4:Nat):List Ch:=[Xp b1 (.pointer (some ⟨b2,0,none⟩)) x.2.1 A2 c2 (.map (some b3)) x.2.2.2.1 A3 c3 (.pointer (some ⟨b4,0,none⟩)),Xf b2 x.1.1 x.1.2.1 A1 c1 x.1.2.2.1 x.1.2.2.2,O5 x.1.2.1 A1 c1,Xm x.2.1 A2 c2,Y2 .u32 (Value.int .i64) b3 x.2.2.1,O3 x.2.2.2.1 A3 c3,Yx b4 x.2.2.2.2.1 A4 c4 x.2.2.2.2.2,Yy x.2.2.2.2.1 A4 c4]
abbrev W9 (x:TA) (b1:Nat) (A1:Option Addr) (c1:Nat):List Ch:=[Yx b1 x.1 A1 c1 x.2,Yy x.1 A1 c1]
abbrev Zd1 (b:Nat) (p0:Int) (p1:Int) (p2:Bool):Ch:=Ys b 224 [.int .i64 p0,.int .i64 p1,.bool p2]
abbrev Ziy (b:Nat) (p0:Int) (p1:TU) (A1:Option Addr) (c1:Nat) (p2:Bool) (p3:Int):Ch:=Ys b 163 [.int .u32 p0,.slice A1 p1.length c1,.bool p2,.int .i64 p3]
abbrev X6 (b:Nat) (p0:TU) (A0:Option Addr) (c0:Nat) (p1:Int):Ch:=Ys b 172 [.slice A0 p0.length c0,.int .i64 p1]
abbrev Zdv (x:Tw) (A:Option Addr) (c:Nat):Ch:=Yh 106 (.pair .str .str) x (.slice A x.length c)
abbrev O9 (x:TH) (A:Option Addr) (c:Nat):Ch:=Yh 9 .str x (.slice A x.length c)
abbrev Zdp (x:Tt) (A:Option Addr) (c:Nat):Ch:=Yh 115 (.pair .str (.pair .bool .str)) x (.slice A x.length c)
abbrev R45 (x:Tj) (A:Option Addr) (c:Nat):Ch:=rdC 45 (.pair (.int .i64) (.pair (.int .u32) (.pair (.int .i64) (.pair (.slice 33 (.int .u32)) (.pair (.slice 9 .str) (.pair (.slice 115 (.pair .str (.pair .bool .str))) (.slice 106 (.pair .str .str)))))))) x (.slice A x.length c)
abbrev X35 (b:Nat) (p0:Int) (p1:Int) (p2:Int) (p3:Int) (p4:Int) (p5:Int) (p6:Int) (p7:Int) (p8:Tl) (A8:Option Addr) (c8:Nat) (p9:TR) (A9:Option Addr) (c9:Nat) (p10:Int):Ch:=Ys b 35 [.int .i64 p0,.int .i64 p1,.int .i64 p2,.int .i64 p3,.int .i64 p4,.int .i64 p5,.int .i64 p6,.int .i64 p7,.slice A8 p8.length c8,.slice A9 p9.length c9,.int .u32 p10]
abbrev O4 (x:TR) (A:Option Addr) (c:Nat):Ch:=Yh 4 .bool x (.slice A x.length c)
abbrev M53 (x:Tl) (A:Option Addr) (c:Nat) (l:List Value):Ch:=Xy 53 6 x.length l (.slice A x.length c)
abbrev E53 (x:Tl) (l:List Value):Ch:=esC (.pair (.int .i64) (.pair (.int .i64) (.pair (.slice 33 (.int .u32)) (.pair (.slice 9 .str) (.pair (.slice 115 (.pair .str (.pair .bool .str))) (.slice 106 (.pair .str .str))))))) x l
abbrev R53 (x:Tl) (A:Option Addr) (c:Nat):Ch:=rdC 53 (.pair (.int .i64) (.pair (.int .i64) (.pair (.slice 33 (.int .u32)) (.pair (.slice 9 .str) (.pair (.slice 115 (.pair .str (.pair .bool .str))) (.slice 106 (.pair .str .str))))))) x (.slice A x.length c)
abbrev X45 (b:Nat) (p0:Int) (p1:Int) (p2:Int) (p3:TU) (A3:Option Addr) (c3:Nat) (p4:TH) (A4:Option Addr) (c4:Nat) (p5:Tt) (A5:Option Addr) (c5:Nat) (p6:Tw) (A6:Option Addr) (c6:Nat):Ch:=Ys b 45 [.int .i64 p0,.int .u32 p1,.int .i64 p2,.slice A3 p3.length c3,.slice A4 p4.length c4,.slice A5 p5.length c5,.slice A6 p6.length c6]
abbrev R4 (x:TR) (A:Option Addr) (c:Nat):Ch:=rdC 4 .bool x (.slice A x.length c)
abbrev X53 (b:Nat) (p0:Int) (p1:Int) (p2:TU) (A2:Option Addr) (c2:Nat) (p3:TH) (A3:Option Addr) (c3:Nat) (p4:Tt) (A4:Option Addr) (c4:Nat) (p5:Tw) (A5:Option Addr) (c5:Nat):Ch:=Ys b 53 [.int .i64 p0,.int .i64 p1,.slice A2 p2.length c2,.slice A3 p3.length c3,.slice A4 p4.length c4,.slice A5 p5.length c5]
abbrev X165 (b:Nat) (p0:Value):Ch:=Ys b 165 [p0]
def tzR:Go.Shelf.Ren:={ f:=fun _=>212,t:=fun n=>if n=3 then 3 else if n=4 then 4 else if n=5 then 5 else if n=22 then 61 else if n=25 then 175 else if n=54 then 271 else 0,g:=fun _=>0 }
theorem tzL:Go.Proofs.Lays7.n29 Tryz.prog tzR where
 mixed:=mix
 f29:=by kernel_rfl
 t0:=by kernel_rfl
 a0:=fun _=>by kernel_rfl
 z0:=fun _=>by kernel_rfl
 v0:=fun _=>by kernel_rfl
 i0:=by kernel_rfl
 t3:=by kernel_rfl
 a3:=fun _=>by kernel_rfl
 z3:=fun _=>by kernel_rfl
 v3:=fun _=>by kernel_rfl
 i3:=by kernel_rfl
 t4:=by kernel_rfl
 a4:=fun _=>by kernel_rfl
 z4:=fun _=>by kernel_rfl
 v4:=fun _=>by kernel_rfl
 i4:=by kernel_rfl
 t5:=by kernel_rfl
 a5:=fun _=>by kernel_rfl
 z5:=fun _=>by kernel_rfl
 v5:=fun _=>by kernel_rfl
 i5:=by kernel_rfl
 t22:=by kernel_rfl
 a22:=fun _=>by kernel_rfl
 z22:=fun _=>by kernel_rfl
 v22:=fun _=>by kernel_rfl
 i22:=by kernel_rfl
 t25:=by kernel_rfl
 a25:=fun _=>by kernel_rfl
 z25:=fun _=>by kernel_rfl
 v25:=fun _=>by kernel_rfl
 i25:=by kernel_rfl
 t54:=by kernel_rfl
 a54:=fun _=>by kernel_rfl
 z54:=fun _=>by kernel_rfl
 g1:=by kernel_rfl
def tzI (x:Int):Int:=((Go.Lib.ctz 64 x.toNat:Nat):Int)
def tabC (g:Nat):Ch where
 ok w F:=F g∧Go.Proofs.TabAt g Go.Lib.deBruijn64tab w
 stable:=fun {w w' F} hs h=>⟨h.1,fun j hj=>by
  have:=h.2 j hj
  unfold World.cell? at this ⊢
  rw [hs g h.1]
  exact this⟩
theorem tz64.spec {x:Int} (h0:0≤x) (h1:x<18446744073709551616):Spec Tryz.prog 212 [.int .u64 x] [] [tabC 0] (fun v l=>v=.int .i64 (tzI x)∧l=[]):=by
 refine ⟨⟨_,Tryz.func212,by kernel_rfl,by kernel_rfl⟩,fun w F hs hb hrd=>?_⟩
 obtain ⟨n,rfl⟩:=Int.eq_ofNat_of_zero_le h0
 obtain ⟨R,hR,_⟩:=hrd _ (List.mem_singleton.2 rfl)
 have:=Go.Proofs.Any7.bits_TrailingZeros64 tzL n (by omega) w (fun _=>hR.2)
 refine this.mono fun e w' ⟨he,hw⟩=>?_
 subst hw
 refine ⟨_,[],fun _=>False,he,⟨rfl,rfl⟩,Chg.refl _ _,?_,fun b h=>h.elim⟩
 trivial

theorem Zo2:CmpStr Tryz.prog 246:=CmpStr.of Tryz.func246 (by kernel_rfl) (by kernel_rfl) (by kernel_rfl) rfl
def Q142.f (a0:Int) (a1:Int) (a2:Int):Option (Bool):=if (decide (a1≤a0))=true then (some (decide (a0≤a2))) else (some false)
theorem Q142.spec {a0 a1 a2 r} (H:Q142.f a0 a1 a2=some r) :
  Spec Tryz.prog 88 [.int .i64 a0,.int .i64 a1,.int .i64 a2] [] [] (fun v l=>v=.bool r∧l=[]):=by
 refine Zi Tryz.func88 fun w0 F0 h0=>?_
 unfold Q142.f at H
 refine T4 (Za [0,1,2] ?_)
 refine T4 (T2 ?_)
 refine Zd 4 ?_
 refine Z7 10 H (fun c1 H=>?_) fun c1 H=>?_
 ·refine Ze [6] rfl ?_
  cases H
  exact T3 (jR0 h0 [])
 refine Ze [6] rfl ?_
 cases H
 exact T3 (jR0 h0 [])

def Q141.f (a0:Tr):Option (Bool):=(Q142.f a0.2.2.2.1 8 64).bind fun r1=>(if (!r1)=true then (some false) else ((Q142.f a0.2.2.2.2.2.2.1 1 64).bind fun r2=>(if (!r2)=true then (some false) else ((Q142.f a0.2.2.2.2.2.2.2 0 256).bind fun r3=>(if (!r3)=true then (some false) else ((Q142.f a0.2.2.2.2.1 (w64 (2*a0.2.2.2.1)) 512).bind fun r4=>(if r4=true then ((Q142.f a0.2.2.2.2.2.1 a0.2.2.2.2.1 1024).bind fun r5=>(some r5)) else (some false))))))))
theorem Q141.spec {a0 r} (H:Q141.f a0=some r) :
  Spec Tryz.prog 87 [.agg #[.int .i64 a0.1,.int .i64 a0.2.1,.int .i64 a0.2.2.1,.int .i64 a0.2.2.2.1,.int .i64 a0.2.2.2.2.1,.int .i64 a0.2.2.2.2.2.1,.int .i64 a0.2.2.2.2.2.2.1,.int .i64 a0.2.2.2.2.2.2.2]] [] [] (fun v l=>v=.bool r∧l=[]):=by
 refine Zi Tryz.func87 fun w0 F0 h0=>?_
 unfold Q141.f at H
 refine T4 (T2 ?_)
 refine rB (Z4 h0) fun b1 w1 h1=>?_
 refine Ze [1] rfl ?_
 refine T4 (T4 (T2 ?_))
 refine Zd 1 ?_
 refine Zc (Zb 0 h1.wht) ?_
 refine cS H [] h1 rfl Q142.spec Zp fun r1 w2 H h2=>?_
 refine Zd 2 ?_
 refine Z7 7 H (fun c1 H=>?_) fun c1 H=>?_
 ·refine Ze [1,18] rfl ?_
  refine Zn ?_
  refine T4 (Za [2] ?_)
  cases H
  exact T3 (jR0 h2 [])
 refine Zd 1 ?_
 refine Zc (Zb 0 h2.wht) ?_
 refine cS H [] h2 rfl Q142.spec Zp fun r2 w3 H h3=>?_
 refine Zd 3 ?_
 refine Z7 13 H (fun c2 H=>?_) fun c2 H=>?_
 ·refine Ze [1,18] rfl ?_
  refine Zn ?_
  refine T4 (Za [2] ?_)
  cases H
  exact T3 (jR0 h3 [])
 refine Zd 1 ?_
 refine Zc (Zb 0 h3.wht) ?_
 refine cS H [] h3 rfl Q142.spec Zp fun r3 w4 H h4=>?_
 refine Ze [1,18] rfl ?_
 refine jIf H (fun c3 H=>?_) fun c3 H=>?_
 ·refine T4 (Za [2] ?_)
  cases H
  exact T3 (jR0 h4 [])
 refine T5 (T4 (T2 ?_))
 refine Zd 1 ?_
 refine Zc (Zb 0 h4.wht) ?_
 refine Zd 1 ?_
 refine Zc (Zb 0 h4.wht) ?_
 refine Zd 1 ?_
 refine cS H [] h4 rfl Q142.spec Zp fun r4 w5 H h5=>?_
 refine Zd 1 ?_
 refine Z7 25 H (fun c4 H=>?_) fun c4 H=>?_
 ·refine Zd 1 ?_
  refine Zc (Zb 0 h5.wht) ?_
  refine Zd 1 ?_
  refine Zc (Zb 0 h5.wht) ?_
  refine cS H [] h5 rfl Q142.spec Zp fun r5 w6 H h6=>?_
  refine Ze [2] rfl ?_
  cases H
  exact T3 (jR0 h6 [])
 refine Ze [2] rfl ?_
 cases H
 exact T3 (jR0 h5 [])

def Q138.l1:Nat→Tr→Int→Int→Option (Int)
 | 0,_,_,_=>none
 | k+1,a0,x3,x4=>if (decide (x4<a0.2.2.2.2.1))=true then (Q138.l1 k a0 (w64 ((w64 ((w64 (x3+4))+a0.2.2.2.2.2.2.1))+a0.2.2.2.2.2.2.2)) (w64 (x4+1))) else (some x3)
def Q138.l0:Nat→Tr→Int→Int→Option (Int)
 | 0,_,_,_=>none
 | k+1,a0,x1,x2=>if (decide (x2<a0.2.2.2.1))=true then (if (decide (0<x2))=true then (Q138.l0 k a0 (w64 ((w64 ((w64 (x1+4))+1))+a0.2.2.2.2.2.2.1)) (w64 (x2+1))) else (Q138.l0 k a0 (w64 (x1+4)) (w64 (x2+1)))) else (Q138.l1 k a0 x1 0)
def Q138.f (k:Nat) (a0:Tr):Option (Int):=(Q141.f a0).bind fun r1=>(if (!r1)=true then (some 0) else (Q138.l0 k a0 8 0))
theorem Q138.spec {k a0 r} (H:Q138.f k a0=some r) :
  Spec Tryz.prog 89 [.agg #[.int .i64 a0.1,.int .i64 a0.2.1,.int .i64 a0.2.2.1,.int .i64 a0.2.2.2.1,.int .i64 a0.2.2.2.2.1,.int .i64 a0.2.2.2.2.2.1,.int .i64 a0.2.2.2.2.2.2.1,.int .i64 a0.2.2.2.2.2.2.2]] [] [] (fun v l=>v=.int .i64 r∧l=[]):=by
 refine Zi Tryz.func89 fun w0 F0 h0=>?_
 unfold Q138.f at H
 refine T4 (T2 ?_)
 refine rB (Z4 h0) fun b1 w1 h1=>?_
 refine Ze [1] rfl ?_
 refine T4 (T4 (T2 ?_))
 refine Zc (Zb 0 h1.wht) ?_
 refine cS H [] h1 rfl Q141.spec Zp fun r1 w2 H h2=>?_
 refine Ze [1,8] rfl ?_
 refine jIf H (fun c1 H=>?_) fun c1 H=>?_
 ·refine T4 (Za [2] ?_)
  cases H
  exact T3 (jR0 h2 [])
 refine T5 (T4 (Za [1,3] ?_))
 refine T4 (T4 (Za [1,3,4] ?_))
 refine TW ?_
 have h9:=(sOR h2 [0] [])
 refine T0 (fun kk env w=>∃ x1 x2,Q138.l0 kk a0 x1 x2=some r∧env=[(1,.pointer (some ⟨b1,0,none⟩)),(3,.int .i64 x1),(4,.int .i64 x2)]∧St w0 F0 [X23 b1 a0.1 a0.2.1 a0.2.2.1 a0.2.2.2.1 a0.2.2.2.2.1 a0.2.2.2.2.2.1 a0.2.2.2.2.2.2.1 a0.2.2.2.2.2.2.2] [] w) (k:=k) ⟨_,_,H,rfl,h9⟩ ?_
 rintro k1 env w3 ⟨x1,x2,H,rfl,h3⟩
 rcases k1 with _ | k1
 ·exact z0 H
 rw [Q138.l0] at H
 refine T4 (T4 (T2 ?_))
 refine Zd 2 ?_
 refine Zc (Zb 0 h3.wht) ?_
 refine Ze [1,3,4,12] rfl ?_
 refine jIf H (fun c2 H=>?_) fun c2 H=>?_
 ·refine T5 (T4 (TW (T4 (Za [1,3,4] ?_))))
  refine T4 (Za [1,3,4,18] ?_)
  refine jIf H (fun c3 H=>?_) fun c3 H=>?_
  ·refine T2 (Zd 3 ?_)
   refine Zc (Zb 0 h3.wht) ?_
   refine Ze [1,3,4] rfl ?_
   refine Za [1,3,4] ?_
   have h4:=(sOR h3 [0] [])
   exact ⟨k1,by omega,_,_,H,rfl,h4⟩
  refine T5 (Za [1,3,4] ?_)
  have h5:=(sOR h3 [0] [])
  exact ⟨k1,by omega,_,_,H,rfl,h5⟩
 refine TZ (T4 (T4 (Za [1,3,5] ?_)))
 refine TW ?_
 have h8:=(sOR h3 [0] [])
 refine T0 (fun kk env w=>∃ x3 x4,Q138.l1 kk a0 x3 x4=some r∧env=[(1,.pointer (some ⟨b1,0,none⟩)),(3,.int .i64 x3),(5,.int .i64 x4)]∧St w0 F0 [X23 b1 a0.1 a0.2.1 a0.2.2.1 a0.2.2.2.1 a0.2.2.2.2.1 a0.2.2.2.2.2.1 a0.2.2.2.2.2.2.1 a0.2.2.2.2.2.2.2] [] w) (k:=k1) ⟨_,_,H,rfl,h8⟩ ?_
 rintro k2 env w4 ⟨x3,x4,H,rfl,h6⟩
 rcases k2 with _ | k2
 ·exact z0 H
 rw [Q138.l1] at H
 refine T4 (T4 (T2 ?_))
 refine Zd 2 ?_
 refine Zc (Zb 0 h6.wht) ?_
 refine Ze [1,3,5,27] rfl ?_
 refine jIf H (fun c4 H=>?_) fun c4 H=>?_
 ·refine T5 (T4 (TW (T2 ?_)))
  refine Zd 3 ?_
  refine Zc (Zb 0 h6.wht) ?_
  refine Zd 2 ?_
  refine Zc (Zb 0 h6.wht) ?_
  refine Ze [1,3,5] rfl ?_
  refine Za [1,3,5] ?_
  have h7:=(sOR h6 [0] [])
  exact ⟨k2,by omega,_,_,H,rfl,h7⟩
 refine TZ (T4 (Za [2] ?_))
 cases H
 exact T3 (jR0 h6 [])

def Q139.l0:Nat→Tr→Int→Int→Option (Int)
 | 0,_,_,_=>none
 | k+1,a0,x1,x2=>if (decide (x2<a0.2.2.2.2.2.1))=true then (Q139.l0 k a0 (w64 ((w64 ((w64 (x1+3))+a0.2.2.2.2.2.2.1))+a0.2.2.2.2.2.2.2)) (w64 (x2+1))) else (some x1)
def Q139.f (k:Nat) (a0:Tr):Option (Int):=(Q141.f a0).bind fun r1=>(if (!r1)=true then (some 0) else (Q139.l0 k a0 8 0))
theorem Q139.spec {k a0 r} (H:Q139.f k a0=some r) :
  Spec Tryz.prog 90 [.agg #[.int .i64 a0.1,.int .i64 a0.2.1,.int .i64 a0.2.2.1,.int .i64 a0.2.2.2.1,.int .i64 a0.2.2.2.2.1,.int .i64 a0.2.2.2.2.2.1,.int .i64 a0.2.2.2.2.2.2.1,.int .i64 a0.2.2.2.2.2.2.2]] [] [] (fun v l=>v=.int .i64 r∧l=[]):=by
 refine Zi Tryz.func90 fun w0 F0 h0=>?_
 unfold Q139.f at H
 refine T4 (T2 ?_)
 refine rB (Z4 h0) fun b1 w1 h1=>?_
 refine Ze [1] rfl ?_
 refine T4 (T4 (T2 ?_))
 refine Zc (Zb 0 h1.wht) ?_
 refine cS H [] h1 rfl Q141.spec Zp fun r1 w2 H h2=>?_
 refine Ze [1,7] rfl ?_
 refine jIf H (fun c1 H=>?_) fun c1 H=>?_
 ·refine T4 (Za [2] ?_)
  cases H
  exact T3 (jR0 h2 [])
 refine T5 (T4 (Za [1,3] ?_))
 refine T4 (T4 (Za [1,3,4] ?_))
 refine TW ?_
 have h5:=(sOR h2 [0] [])
 refine T0 (fun kk env w=>∃ x1 x2,Q139.l0 kk a0 x1 x2=some r∧env=[(1,.pointer (some ⟨b1,0,none⟩)),(3,.int .i64 x1),(4,.int .i64 x2)]∧St w0 F0 [X23 b1 a0.1 a0.2.1 a0.2.2.1 a0.2.2.2.1 a0.2.2.2.2.1 a0.2.2.2.2.2.1 a0.2.2.2.2.2.2.1 a0.2.2.2.2.2.2.2] [] w) (k:=k) ⟨_,_,H,rfl,h5⟩ ?_
 rintro k1 env w3 ⟨x1,x2,H,rfl,h3⟩
 rcases k1 with _ | k1
 ·exact z0 H
 rw [Q139.l0] at H
 refine T4 (T4 (T2 ?_))
 refine Zd 2 ?_
 refine Zc (Zb 0 h3.wht) ?_
 refine Ze [1,3,4,11] rfl ?_
 refine jIf H (fun c2 H=>?_) fun c2 H=>?_
 ·refine T5 (T4 (TW (T2 ?_)))
  refine Zd 3 ?_
  refine Zc (Zb 0 h3.wht) ?_
  refine Zd 2 ?_
  refine Zc (Zb 0 h3.wht) ?_
  refine Ze [1,3,4] rfl ?_
  refine Za [1,3,4] ?_
  have h4:=(sOR h3 [0] [])
  exact ⟨k1,by omega,_,_,H,rfl,h4⟩
 refine TZ (T4 (Za [2] ?_))
 cases H
 exact T3 (jR0 h3 [])

def Q140.f (k:Nat) (a0:Tr):Option (Bool):=(Q141.f a0).bind fun r1=>(if r1=true then ((Q142.f a0.1 5 65536).bind fun r2=>(if r2=true then ((Q142.f a0.2.2.1 8 64).bind fun r3=>(if r3=true then ((Q142.f a0.2.1 64 65536).bind fun r4=>(if r4=true then ((Q138.f k a0).bind fun r5=>(if (decide (r5≤a0.2.1))=true then ((Q139.f k a0).bind fun r6=>(some (decide (r6≤a0.2.1)))) else (some false))) else (some false))) else (some false))) else (some false))) else (some false))
theorem Q140.spec {k a0 r} (H:Q140.f k a0=some r) :
  Spec Tryz.prog 36 [.agg #[.int .i64 a0.1,.int .i64 a0.2.1,.int .i64 a0.2.2.1,.int .i64 a0.2.2.2.1,.int .i64 a0.2.2.2.2.1,.int .i64 a0.2.2.2.2.2.1,.int .i64 a0.2.2.2.2.2.2.1,.int .i64 a0.2.2.2.2.2.2.2]] [] [] (fun v l=>v=.bool r∧l=[]):=by
 refine Zi Tryz.func36 fun w0 F0 h0=>?_
 unfold Q140.f at H
 refine T4 (T2 ?_)
 refine rB (Z4 h0) fun b1 w1 h1=>?_
 refine Ze [1] rfl ?_
 refine T4 (jH h1 fun h2=>?_)
 refine Zf 0 rfl (Zb 0 wI) ?_
 refine cSJ 1 rfl H [] h2 rfl Q141.spec Zp 0 fun r1 w2 H h3=>?_
 refine Zo [2] ?_
 refine X1 5 H (fun c1 H=>?_) fun c1 H=>?_
 ·refine Zo [3] ?_
  refine Zf 4 rfl (Zb 0 wI) ?_
  refine cSJ 5 rfl H [] h3 rfl Q142.spec Zp 0 fun r2 w3 H h4=>?_
  refine Zo [6,7] ?_
  refine X1 10 H (fun c2 H=>?_) fun c2 H=>?_
  ·refine Zo [8] ?_
   refine Zf 9 rfl (Zb 0 wI) ?_
   refine cSJ 10 rfl H [] h4 rfl Q142.spec Zp 0 fun r3 w4 H h5=>?_
   refine Zo [11,12] ?_
   refine X1 15 H (fun c3 H=>?_) fun c3 H=>?_
   ·refine Zo [13] ?_
    refine Zf 14 rfl (Zb 0 wI) ?_
    refine cSJ 15 rfl H [] h5 rfl Q142.spec Zp 0 fun r4 w5 H h6=>?_
    refine Zo [16,17] ?_
    refine X1 20 H (fun c4 H=>?_) fun c4 H=>?_
    ·refine Zo [18] ?_
     refine Zf 19 rfl (Zb 0 wI) ?_
     refine Zf 20 rfl (Zb 0 wI) ?_
     refine cSJ 21 rfl H [] h6 rfl Q138.spec Zp 0 fun r5 w6 H h7=>?_
     refine Zo [22,23,24] ?_
     refine X1 27 H (fun c5 H=>?_) fun c5 H=>?_
     ·refine Zo [25] ?_
      refine Zf 26 rfl (Zb 0 wI) ?_
      refine Zf 27 rfl (Zb 0 wI) ?_
      refine cSJ 28 rfl H [] h7 rfl Q139.spec Zp 0 fun r6 w7 H h8=>?_
      refine Zo [29,30,31] ?_
      refine Zt [2] ?_
      cases H
      exact T3 (jR0 h8 [])
     refine Zo [25,26,27,28,29,30,31] ?_
     refine Zt [2] ?_
     cases H
     exact T3 (jR0 h7 [])
    refine Zo [18,19,20,21,22,23,24,25,26,27,28,29,30,31] ?_
    refine Zt [2] ?_
    cases H
    exact T3 (jR0 h6 [])
   refine Zo [13,14,15,16,17,18,19,20,21,22,23,24,25,26,27,28,29,30,31] ?_
   refine Zt [2] ?_
   cases H
   exact T3 (jR0 h5 [])
  refine Zo [8,9,10,11,12,13,14,15,16,17,18,19,20,21,22,23,24,25,26,27,28,29,30,31] ?_
  refine Zt [2] ?_
  cases H
  exact T3 (jR0 h4 [])
 refine Zo [3,4,5,6,7,8,9,10,11,12,13,14,15,16,17,18,19,20,21,22,23,24,25,26,27,28,29,30,31] ?_
 refine Zt [2] ?_
 cases H
 exact T3 (jR0 h3 [])

def Q124.f (k:Nat) (a0:Tr):Option (Bool):=(Q140.f k a0).bind fun r1=>(if r1=true then (if (decide (a0.2.1≤3000))=true then (some (decide (a0.1≤400))) else (some false)) else (some false))
theorem Q124.spec {k a0 r} (H:Q124.f k a0=some r) :
  Spec Tryz.prog 12 [.agg #[.int .i64 a0.1,.int .i64 a0.2.1,.int .i64 a0.2.2.1,.int .i64 a0.2.2.2.1,.int .i64 a0.2.2.2.2.1,.int .i64 a0.2.2.2.2.2.1,.int .i64 a0.2.2.2.2.2.2.1,.int .i64 a0.2.2.2.2.2.2.2]] [] [] (fun v l=>v=.bool r∧l=[]):=by
 refine Zi Tryz.func12 fun w0 F0 h0=>?_
 unfold Q124.f at H
 refine T4 (T2 ?_)
 refine rB (Z4 h0) fun b1 w1 h1=>?_
 refine Ze [1] rfl ?_
 refine T4 (T2 ?_)
 refine Zc (Zb 0 h1.wht) ?_
 refine cS H [] h1 rfl Q140.spec Zp fun r1 w2 H h2=>?_
 refine Zd 1 ?_
 refine Z7 5 H (fun c1 H=>?_) fun c1 H=>?_
 ·refine Zd 1 ?_
  refine Zc (Zb 0 h2.wht) ?_
  refine Zd 3 ?_
  refine Z7 10 H (fun c2 H=>?_) fun c2 H=>?_
  ·refine Zd 1 ?_
   refine Zc (Zb 0 h2.wht) ?_
   refine Ze [2] rfl ?_
   cases H
   exact T3 (jR0 h2 [])
  refine Ze [2] rfl ?_
  cases H
  exact T3 (jR0 h2 [])
 refine Ze [2] rfl ?_
 cases H
 exact T3 (jR0 h2 [])

def Q127.f:Option Tq:=some (9,200,8,8,16,16,2,1)
theorem Q127.spec {r} (H:Q127.f=some r) :
  Spec Tryz.prog 53 [] [] [] (fun v l=>v=.agg #[.int .i64 r.1,.int .i64 r.2.1,.int .i64 r.2.2.1,.int .i64 r.2.2.2.1,.int .i64 r.2.2.2.2.1,.int .i64 r.2.2.2.2.2.1,.int .i64 r.2.2.2.2.2.2.1,.int .i64 r.2.2.2.2.2.2.2]∧l=[]):=by
 refine Zi Tryz.func53 fun w0 F0 h0=>?_
 unfold Q127.f at H
 refine T4 (T2 ?_)
 refine rB (Yp h0) fun b1 w1 h1=>?_
 refine Ze [0] rfl ?_
 refine T4 (T2 ?_)
 refine Zd 1 ?_
 refine rS (Zs 0 h1) fun _ w2 h2=>?_
 refine Ze [0] rfl ?_
 cases H
 exact T3 (jR2 (Z1 (Sa Yj 0 h2 rfl rfl rfl rfl) Yt) ⟨rfl,rfl⟩ h2 [])

def Q58.f (a0:Int) (a1:Int):Option (Bool):=if (decide (5≤a0))=true then (if (decide (a0≤65536))=true then (if (decide (1≤a1))=true then (some (decide (a1≤65536))) else (some false)) else (some false)) else (some false)
theorem Q58.spec {a0 a1 r} (H:Q58.f a0 a1=some r) :
  Spec Tryz.prog 84 [.int .i64 a0,.int .i64 a1] [] [] (fun v l=>v=.bool r∧l=[]):=by
 refine Zi Tryz.func84 fun w0 F0 h0=>?_
 unfold Q58.f at H
 refine T4 (Za [0,1] ?_)
 refine T4 (T2 ?_)
 refine Zd 3 ?_
 refine Z7 7 H (fun c1 H=>?_) fun c1 H=>?_
 ·refine Zd 4 ?_
  refine Z7 11 H (fun c2 H=>?_) fun c2 H=>?_
  ·refine Zd 4 ?_
   refine Z7 15 H (fun c3 H=>?_) fun c3 H=>?_
   ·refine Ze [4] rfl ?_
    cases H
    exact T3 (jR0 h0 [])
   refine Ze [4] rfl ?_
   cases H
   exact T3 (jR0 h0 [])
  refine Ze [4] rfl ?_
  cases H
  exact T3 (jR0 h0 [])
 refine Ze [4] rfl ?_
 cases H
 exact T3 (jR0 h0 [])

def Q57.f (a0:Int) (a1:Int):Option (Option TB×Int):=(Q58.f a0 a1).bind fun r1=>(if (!r1)=true then (some (none,2)) else (if 0≤(w64 (a0*a1))∧(w64 (a0*a1))*1≤281474976710656 then (some ((some (a1,(List.replicate ((w64 (a0*a1)).toNat) (0:Int)),(0,0))),0)) else none))
theorem Q57.spec {a0 a1 r} (H:Q57.f a0 a1=some r) :
  Spec Tryz.prog 34 [.int .i64 a0,.int .i64 a1] [] [] (fun v l=>∃(pv:Value) (lp:List Ch),OptC r.1 (fun d pv lp=>∃ b_0 A_1 c_1,pv=.pointer (some ⟨b_0,0,none⟩)∧lp=[Xf b_0 d.1 d.2.1 A_1 c_1 d.2.2.1 d.2.2.2,O5 d.2.1 A_1 c_1]) pv lp∧v=.tuple #[pv,.int .i64 r.2]∧l=lp ++ []):=by
 refine Zi Tryz.func34 fun w0 F0 h0=>?_
 unfold Q57.f at H
 refine T4 (Za [0,1] ?_)
 refine T4 (T4 (T2 ?_))
 refine Zd 2 ?_
 refine cS H [] h0 rfl Q58.spec Zp fun r1 w1 H h1=>?_
 refine Ze [0,1,9] rfl ?_
 refine jIf H (fun c1 H=>?_) fun c1 H=>?_
 ·refine T4 (Za [4,5] ?_)
  cases H
  exact T3 (jR ⟨_,_,T8,rfl,rfl⟩ h1 [])
 refine T5 (T4 (T2 ?_))
 refine Zd 4 ?_
 obtain ⟨⟨p1,p2⟩,H⟩:=Zl H
 refine rB (Jq Yj (ty:=(.int .u8)) rfl (0:Int) rfl rfl rfl rfl rfl rfl rfl (by decide) h1 p1 p2) fun b1 w2 h2=>?_
 refine Zd 1 ?_
 refine rB (Z4 h2) fun b2 w3 h3=>?_
 refine Ze [4,5] rfl ?_
 cases H
 exact T3 (jR ⟨_,_,(OptC.yes ⟨_,_,_,rfl,rfl⟩),rfl,rfl⟩ h3 [0,0])

def Q52.f (a0:Tr):Option (Bool):=if (decide (a0.2.2.2.1<8))=true then (some false) else (if (decide (64<a0.2.2.2.1))=true then (some false) else (if (decide (a0.2.2.2.2.1<(w64 (2*a0.2.2.2.1))))=true then (some false) else (if (decide (512<a0.2.2.2.2.1))=true then (some false) else (if (decide (a0.2.2.2.2.2.1<a0.2.2.2.2.1))=true then (some false) else (if (decide (1024<a0.2.2.2.2.2.1))=true then (some false) else (if (decide (a0.2.2.2.2.2.2.1<1))=true then (some false) else (if (decide (64<a0.2.2.2.2.2.2.1))=true then (some false) else (if (decide (a0.2.2.2.2.2.2.2<0))=true then (some false) else (if (decide (256<a0.2.2.2.2.2.2.2))=true then (some false) else (some true))))))))))
theorem Q52.spec {a0 r} (H:Q52.f a0=some r) :
  Spec Tryz.prog 111 [.agg #[.int .i64 a0.1,.int .i64 a0.2.1,.int .i64 a0.2.2.1,.int .i64 a0.2.2.2.1,.int .i64 a0.2.2.2.2.1,.int .i64 a0.2.2.2.2.2.1,.int .i64 a0.2.2.2.2.2.2.1,.int .i64 a0.2.2.2.2.2.2.2]] [] [] (fun v l=>v=.bool r∧l=[]):=by
 refine Zi Tryz.func111 fun w0 F0 h0=>?_
 unfold Q52.f at H
 refine T4 (T2 ?_)
 refine rB (Z4 h0) fun b1 w1 h1=>?_
 refine Ze [1] rfl ?_
 refine T4 (TW (T4 (T2 ?_)))
 refine Zd 1 ?_
 refine Zc (Zb 0 h1.wht) ?_
 refine Zd 2 ?_
 refine Z7 7 H (fun c1 H=>?_) fun c1 H=>?_
 ·refine Ze [1,3] rfl ?_
  refine Zn ?_
  refine T5 (T4 (Za [2] ?_))
  cases H
  exact T3 (jR0 h1 [])
 refine Zd 1 ?_
 refine Zc (Zb 0 h1.wht) ?_
 refine Ze [1,3] rfl ?_
 refine jIf H (fun c2 H=>?_) fun c2 H=>?_
 ·refine T5 (T4 (Za [2] ?_))
  cases H
  exact T3 (jR0 h1 [])
 refine T4 (T2 ?_)
 refine Zd 1 ?_
 refine Zc (Zb 0 h1.wht) ?_
 refine Zd 1 ?_
 refine Zc (Zb 0 h1.wht) ?_
 refine Zd 3 ?_
 refine Z7 19 H (fun c3 H=>?_) fun c3 H=>?_
 ·refine Ze [1,12] rfl ?_
  refine Zn ?_
  refine T5 (T4 (Za [2] ?_))
  cases H
  exact T3 (jR0 h1 [])
 refine Zd 1 ?_
 refine Zc (Zb 0 h1.wht) ?_
 refine Ze [1,12] rfl ?_
 refine jIf H (fun c4 H=>?_) fun c4 H=>?_
 ·refine T5 (T4 (Za [2] ?_))
  cases H
  exact T3 (jR0 h1 [])
 refine T4 (T2 ?_)
 refine Zd 1 ?_
 refine Zc (Zb 0 h1.wht) ?_
 refine Zd 1 ?_
 refine Zc (Zb 0 h1.wht) ?_
 refine Zd 2 ?_
 refine Z7 30 H (fun c5 H=>?_) fun c5 H=>?_
 ·refine Ze [1,24] rfl ?_
  refine Zn ?_
  refine T5 (T4 (Za [2] ?_))
  cases H
  exact T3 (jR0 h1 [])
 refine Zd 1 ?_
 refine Zc (Zb 0 h1.wht) ?_
 refine Ze [1,24] rfl ?_
 refine jIf H (fun c6 H=>?_) fun c6 H=>?_
 ·refine T5 (T4 (Za [2] ?_))
  cases H
  exact T3 (jR0 h1 [])
 refine T4 (T2 ?_)
 refine Zd 1 ?_
 refine Zc (Zb 0 h1.wht) ?_
 refine Zd 2 ?_
 refine Z7 39 H (fun c7 H=>?_) fun c7 H=>?_
 ·refine Ze [1,35] rfl ?_
  refine Zn ?_
  refine T5 (T4 (Za [2] ?_))
  cases H
  exact T3 (jR0 h1 [])
 refine Zd 1 ?_
 refine Zc (Zb 0 h1.wht) ?_
 refine Ze [1,35] rfl ?_
 refine jIf H (fun c8 H=>?_) fun c8 H=>?_
 ·refine T5 (T4 (Za [2] ?_))
  cases H
  exact T3 (jR0 h1 [])
 refine T4 (T2 ?_)
 refine Zd 1 ?_
 refine Zc (Zb 0 h1.wht) ?_
 refine Zd 2 ?_
 refine Z7 48 H (fun c9 H=>?_) fun c9 H=>?_
 ·refine Ze [44] rfl ?_
  refine Zn ?_
  refine T5 (T4 (Za [2] ?_))
  cases H
  exact T3 (jR0 h1 [])
 refine Zd 1 ?_
 refine Zc (Zb 0 h1.wht) ?_
 refine Ze [44] rfl ?_
 refine jIf H (fun c10 H=>?_) fun c10 H=>?_
 ·refine T5 (T4 (Za [2] ?_))
  cases H
  exact T3 (jR0 h1 [])
 refine T4 (Za [2] ?_)
 cases H
 exact T3 (jR0 h1 [])

def Q49.f (a0:Tr):Option (Int):=(Q52.f a0).bind fun r1=>(if (!r1)=true then (some 0) else (some (w64 ((w64 ((w64 (8+(w64 (4*a0.2.2.2.1))))+(w64 ((w64 (a0.2.2.2.1 - 1))*(w64 (1+a0.2.2.2.2.2.2.1))))))+(w64 (a0.2.2.2.2.1*(w64 ((w64 (4+a0.2.2.2.2.2.2.1))+a0.2.2.2.2.2.2.2))))))))
theorem Q49.spec {a0 r} (H:Q49.f a0=some r) :
  Spec Tryz.prog 161 [.agg #[.int .i64 a0.1,.int .i64 a0.2.1,.int .i64 a0.2.2.1,.int .i64 a0.2.2.2.1,.int .i64 a0.2.2.2.2.1,.int .i64 a0.2.2.2.2.2.1,.int .i64 a0.2.2.2.2.2.2.1,.int .i64 a0.2.2.2.2.2.2.2]] [] [] (fun v l=>v=.int .i64 r∧l=[]):=by
 refine Zi Tryz.func161 fun w0 F0 h0=>?_
 unfold Q49.f at H
 refine T4 (T2 ?_)
 refine rB (Z4 h0) fun b1 w1 h1=>?_
 refine Ze [1] rfl ?_
 refine T4 (T4 (T2 ?_))
 refine Zc (Zb 0 h1.wht) ?_
 refine cS H [] h1 rfl Q52.spec Zp fun r1 w2 H h2=>?_
 refine Ze [1,5] rfl ?_
 refine jIf H (fun c1 H=>?_) fun c1 H=>?_
 ·refine T4 (Za [2] ?_)
  cases H
  exact T3 (jR0 h2 [])
 refine T5 (T4 (T2 ?_))
 refine Zd 1 ?_
 refine Zc (Zb 0 h2.wht) ?_
 refine Zd 3 ?_
 refine Zc (Zb 0 h2.wht) ?_
 refine Zd 2 ?_
 refine Zc (Zb 0 h2.wht) ?_
 refine Zd 4 ?_
 refine Zc (Zb 0 h2.wht) ?_
 refine Zd 1 ?_
 refine Zc (Zb 0 h2.wht) ?_
 refine Zd 2 ?_
 refine Zc (Zb 0 h2.wht) ?_
 refine Ze [2] rfl ?_
 cases H
 exact T3 (jR0 h2 [])

def Q51.f (a0:Tr):Option (Int):=(Q52.f a0).bind fun r1=>(if (!r1)=true then (some 0) else (some (w64 (8+(w64 (a0.2.2.2.2.2.1*(w64 ((w64 (3+a0.2.2.2.2.2.2.1))+a0.2.2.2.2.2.2.2))))))))
theorem Q51.spec {a0 r} (H:Q51.f a0=some r) :
  Spec Tryz.prog 162 [.agg #[.int .i64 a0.1,.int .i64 a0.2.1,.int .i64 a0.2.2.1,.int .i64 a0.2.2.2.1,.int .i64 a0.2.2.2.2.1,.int .i64 a0.2.2.2.2.2.1,.int .i64 a0.2.2.2.2.2.2.1,.int .i64 a0.2.2.2.2.2.2.2]] [] [] (fun v l=>v=.int .i64 r∧l=[]):=by
 refine Zi Tryz.func162 fun w0 F0 h0=>?_
 unfold Q51.f at H
 refine T4 (T2 ?_)
 refine rB (Z4 h0) fun b1 w1 h1=>?_
 refine Ze [1] rfl ?_
 refine T4 (T4 (T2 ?_))
 refine Zc (Zb 0 h1.wht) ?_
 refine cS H [] h1 rfl Q52.spec Zp fun r1 w2 H h2=>?_
 refine Ze [1,5] rfl ?_
 refine jIf H (fun c1 H=>?_) fun c1 H=>?_
 ·refine T4 (Za [2] ?_)
  cases H
  exact T3 (jR0 h2 [])
 refine T5 (T4 (T2 ?_))
 refine Zd 1 ?_
 refine Zc (Zb 0 h2.wht) ?_
 refine Zd 1 ?_
 refine Zc (Zb 0 h2.wht) ?_
 refine Zd 2 ?_
 refine Zc (Zb 0 h2.wht) ?_
 refine Ze [2] rfl ?_
 cases H
 exact T3 (jR0 h2 [])

def Q50.f (a0:Tr):Option Tq:=(Q52.f a0).bind fun r1=>(if r1=true then ((Q49.f a0).bind fun r2=>((Q51.f a0).bind fun r3=>(some (a0.1,(if r3>(if r2>(64:Int) then r2 else (64:Int)) then r3 else (if r2>(64:Int) then r2 else (64:Int))),a0.2.2.1,a0.2.2.2.1,a0.2.2.2.2.1,a0.2.2.2.2.2.1,a0.2.2.2.2.2.2.1,a0.2.2.2.2.2.2.2)))) else (some a0))
theorem Q50.spec {a0 r} (H:Q50.f a0=some r) :
  Spec Tryz.prog 112 [.agg #[.int .i64 a0.1,.int .i64 a0.2.1,.int .i64 a0.2.2.1,.int .i64 a0.2.2.2.1,.int .i64 a0.2.2.2.2.1,.int .i64 a0.2.2.2.2.2.1,.int .i64 a0.2.2.2.2.2.2.1,.int .i64 a0.2.2.2.2.2.2.2]] [] [] (fun v l=>v=.agg #[.int .i64 r.1,.int .i64 r.2.1,.int .i64 r.2.2.1,.int .i64 r.2.2.2.1,.int .i64 r.2.2.2.2.1,.int .i64 r.2.2.2.2.2.1,.int .i64 r.2.2.2.2.2.2.1,.int .i64 r.2.2.2.2.2.2.2]∧l=[]):=by
 refine Zi Tryz.func112 fun w0 F0 h0=>?_
 unfold Q50.f at H
 refine T4 (T2 ?_)
 refine rB (Z4 h0) fun b1 w1 h1=>?_
 refine rB (Yp h1) fun b2 w2 h2=>?_
 refine Ze [1,2] rfl ?_
 refine T4 (T4 (T2 ?_))
 refine Zc (Zb 1 h2.wht) ?_
 refine cS H [] h2 rfl Q52.spec Zp fun r1 w3 H h3=>?_
 refine Ze [1,2,4] rfl ?_
 refine jIf H (fun c1 H=>?_) fun c1 H=>?_
 ·obtain ⟨r2,q2,H⟩:=Ye H
  obtain ⟨r3,q3,H⟩:=Ye H
  refine T1 (fun env w=>env=[(1,.pointer (some ⟨b1,0,none⟩)),(2,.pointer (some ⟨b2,0,none⟩))]∧St w0 F0 [X23 b1 a0.1 (if r3>(if r2>(64:Int) then r2 else (64:Int)) then r3 else (if r2>(64:Int) then r2 else (64:Int))) a0.2.2.1 a0.2.2.2.1 a0.2.2.2.2.1 a0.2.2.2.2.2.1 a0.2.2.2.2.2.2.1 a0.2.2.2.2.2.2.2,X23 b2 0 0 0 0 0 0 0 0] [] w) ?_ ?_
  ·refine Zw (sO h3 [0]) ?_
   have h7:=h3.drew
   refine TV [0,2] (i:=0) rfl rfl rfl rfl ?_
   refine (Yb ?_ (Yb ?_ Xg))
   ·refine Xv 0 rfl (T7 (Zb 1 h7.wht)) ?_
    rintro _ _ ⟨rfl,rfl⟩
    replace h7:=nf h7
    refine ⟨⟨[_],(sO h7 [1,0])⟩,?_⟩
    refine TV [1,2] (i:=1) rfl rfl rfl rfl ?_
    refine (Yb ?_ (Yb ?_ Xg))
    ·refine Xv 1 rfl (Xk [] (Q49.spec q2) h7 rfl Zp) ?_
     rintro _ w10 ⟨_,⟨rfl,rfl⟩,h8⟩
     replace h8:=nf h8
     refine ⟨⟨[_],(sO h8 [1,0])⟩,?_⟩
     refine Yl 2 rfl (T7 (Zb 1 h8.wht)) ?_
     rintro _ _ ⟨rfl,rfl⟩
     replace h8:=nf h8
     refine ⟨⟨[_],(sO h8 [1,0])⟩,?_⟩
     refine Yl 3 rfl (Xk [] (Q51.spec q3) h8 rfl Zp) ?_
     rintro _ w12 ⟨_,⟨rfl,rfl⟩,h9⟩
     replace h9:=nf h9
     refine ⟨⟨[_],(sO h9 [1,0])⟩,?_⟩
     refine Zf 4 rfl Bd ?_
     refine Zo [5] ?_
     refine hS 6 rfl (Zs 1 h9) 1 fun _ w13 h10=>?_
     refine Zt [1,2] ?_
     exact Zu ⟨rfl,(sOR h10 [0,0] [])⟩
    ·refine Xv 2 rfl (T7 (Zb 1 h7.wht)) ?_
     rintro _ _ ⟨rfl,rfl⟩
     replace h7:=nf h7
     refine ⟨⟨[_],(sO h7 [1,0])⟩,?_⟩
     refine Yl 1 rfl (Xk [] (Q49.spec q2) h7 rfl Zp) ?_
     rintro _ w15 ⟨_,⟨rfl,rfl⟩,h11⟩
     replace h11:=nf h11
     refine ⟨⟨[_],(sO h11 [1,0])⟩,?_⟩
     refine Yl 3 rfl (Xk [] (Q51.spec q3) h11 rfl Zp) ?_
     rintro _ w16 ⟨_,⟨rfl,rfl⟩,h12⟩
     replace h12:=nf h12
     refine ⟨⟨[_],(sO h12 [1,0])⟩,?_⟩
     refine Zf 4 rfl Bd ?_
     refine Zo [5] ?_
     refine hS 6 rfl (Zs 1 h12) 1 fun _ w17 h13=>?_
     refine Zt [1,2] ?_
     exact Zu ⟨rfl,(sOR h13 [0,0] [])⟩
   ·refine Xv 2 rfl (T7 (Zb 1 h7.wht)) ?_
    rintro _ _ ⟨rfl,rfl⟩
    replace h7:=nf h7
    refine ⟨⟨[_],(sO h7 [1,0])⟩,?_⟩
    refine Yl 0 rfl (T7 (Zb 1 h7.wht)) ?_
    rintro _ _ ⟨rfl,rfl⟩
    replace h7:=nf h7
    refine ⟨⟨[_],(sO h7 [1,0])⟩,?_⟩
    refine Yl 1 rfl (Xk [] (Q49.spec q2) h7 rfl Zp) ?_
    rintro _ w20 ⟨_,⟨rfl,rfl⟩,h14⟩
    replace h14:=nf h14
    refine ⟨⟨[_],(sO h14 [1,0])⟩,?_⟩
    refine Yl 3 rfl (Xk [] (Q51.spec q3) h14 rfl Zp) ?_
    rintro _ w21 ⟨_,⟨rfl,rfl⟩,h15⟩
    replace h15:=nf h15
    refine ⟨⟨[_],(sO h15 [1,0])⟩,?_⟩
    refine Zf 4 rfl Bd ?_
    refine Zo [5] ?_
    refine hS 6 rfl (Zs 1 h15) 1 fun _ w22 h16=>?_
    refine Zt [1,2] ?_
    exact Zu ⟨rfl,(sOR h16 [0,0] [])⟩
  rintro env w23 ⟨rfl,h17⟩
  refine T4 (T2 ?_)
  refine Zc (Zb 0 h17.wht) ?_
  refine rS (Zs 1 h17) fun _ w24 h18=>?_
  refine Ze [2] rfl ?_
  cases H
  exact T3 (jR2 (Z1 (Sa Yj 0 h18 rfl rfl rfl rfl) Yt) ⟨rfl,rfl⟩ h18 [])
 refine T5 (T4 (T2 ?_))
 refine Zc (Zb 1 h3.wht) ?_
 refine rS (Zs 0 h3) fun _ w25 h19=>?_
 refine Ze [2] rfl ?_
 cases H
 exact T3 (jR2 (Z1 (Sa Yj 0 h19 rfl rfl rfl rfl) Yt) ⟨rfl,rfl⟩ h19 [])

def Q48.f (a0:Tr):Option (Int):=(Q52.f a0).bind fun r1=>(if r1=true then (if (decide (5≤a0.1))=true then (if (decide (a0.1≤65536))=true then (if (decide (8≤a0.2.2.1))=true then (if (!(decide (a0.2.2.1≤64)))=true then (some 2) else (if (decide (65536<a0.2.1))=true then (some 2) else ((Q50.f a0).bind fun r2=>(if (decide (a0.2.1<r2.2.1))=true then (some 2) else (some 0))))) else (some 2)) else (some 2)) else (some 2)) else (some 2))
theorem Q48.spec {a0 r} (H:Q48.f a0=some r) :
  Spec Tryz.prog 64 [.agg #[.int .i64 a0.1,.int .i64 a0.2.1,.int .i64 a0.2.2.1,.int .i64 a0.2.2.2.1,.int .i64 a0.2.2.2.2.1,.int .i64 a0.2.2.2.2.2.1,.int .i64 a0.2.2.2.2.2.2.1,.int .i64 a0.2.2.2.2.2.2.2]] [] [] (fun v l=>v=.int .i64 r∧l=[]):=by
 refine Zi Tryz.func64 fun w0 F0 h0=>?_
 unfold Q48.f at H
 refine T4 (T2 ?_)
 refine rB (Z4 h0) fun b1 w1 h1=>?_
 refine Ze [1] rfl ?_
 refine T4 (T2 ?_)
 refine Zc (Zb 0 h1.wht) ?_
 refine cS H [] h1 rfl Q52.spec Zp fun r1 w2 H h2=>?_
 refine Zd 1 ?_
 refine Z7 6 H (fun c1 H=>?_) fun c1 H=>?_
 ·refine Zd 1 ?_
  refine Zc (Zb 0 h2.wht) ?_
  refine Zd 3 ?_
  refine Z7 11 H (fun c2 H=>?_) fun c2 H=>?_
  ·refine Zd 1 ?_
   refine Zc (Zb 0 h2.wht) ?_
   refine Zd 3 ?_
   refine Z7 16 H (fun c3 H=>?_) fun c3 H=>?_
   ·refine Zd 1 ?_
    refine Zc (Zb 0 h2.wht) ?_
    refine Zd 3 ?_
    refine Z7 21 H (fun c4 H=>?_) fun c4 H=>?_
    ·refine Zd 1 ?_
     refine Zc (Zb 0 h2.wht) ?_
     refine Ze [1,3] rfl ?_
     refine T4 (T4 ?_)
     refine jH h2 fun h3=>?_
     refine Zo [0,1,2] ?_
     refine X1 28 H (fun c5 H=>?_) fun c5 H=>?_
     ·refine Zo [3,4,5,6,7,8,9,10,11,12,13,14] ?_
      refine Zt [40] ?_
      refine Zn ?_
      refine T4 (Za [2] ?_)
      cases H
      exact T3 (jR0 h3 [])
     refine Zo [3] ?_
     refine Zf 4 rfl (Zb 0 wI) ?_
     refine Zo [5,6,7] ?_
     refine X1 33 H (fun c6 H=>?_) fun c6 H=>?_
     ·refine Zo [8,9,10,11,12,13,14] ?_
      refine Zt [40] ?_
      refine Zn ?_
      refine T4 (Za [2] ?_)
      cases H
      exact T3 (jR0 h3 [])
     refine Zo [8] ?_
     refine Zf 9 rfl (Zb 0 wI) ?_
     refine Zf 10 rfl (Zb 0 wI) ?_
     refine cSJ 11 rfl H [] h3 rfl Q50.spec Zp 0 fun r2 w3 H h4=>?_
     refine Zo [12,13,14] ?_
     refine Zt [40] ?_
     refine jIf H (fun c7 H=>?_) fun c7 H=>?_
     ·refine T4 (Za [2] ?_)
      cases H
      exact T3 (jR0 h4 [])
     refine T5 (T4 (Za [2] ?_))
     cases H
     exact T3 (jR0 h4 [])
    refine Ze [1,3] rfl ?_
    refine T4 (T4 ?_)
    refine jH h2 fun h5=>?_
    refine Zo [0,1,2,3,4,5,6,7,8,9,10,11,12,13,14] ?_
    refine Zt [40] ?_
    refine Zn ?_
    refine T4 (Za [2] ?_)
    cases H
    exact T3 (jR0 h5 [])
   refine Ze [1,3] rfl ?_
   refine T4 (T4 ?_)
   refine jH h2 fun h6=>?_
   refine Zo [0,1,2,3,4,5,6,7,8,9,10,11,12,13,14] ?_
   refine Zt [40] ?_
   refine Zn ?_
   refine T4 (Za [2] ?_)
   cases H
   exact T3 (jR0 h6 [])
  refine Ze [1,3] rfl ?_
  refine T4 (T4 ?_)
  refine jH h2 fun h7=>?_
  refine Zo [0,1,2,3,4,5,6,7,8,9,10,11,12,13,14] ?_
  refine Zt [40] ?_
  refine Zn ?_
  refine T4 (Za [2] ?_)
  cases H
  exact T3 (jR0 h7 [])
 refine Ze [1,3] rfl ?_
 refine T4 (T4 ?_)
 refine jH h2 fun h8=>?_
 refine Zo [0,1,2,3,4,5,6,7,8,9,10,11,12,13,14] ?_
 refine Zt [40] ?_
 refine Zn ?_
 refine T4 (Za [2] ?_)
 cases H
 exact T3 (jR0 h8 [])

def Q80.f (a0:Tr):Option (Option Tc×Int):=(Q48.f a0).bind fun r1=>(if (!decide (r1=0))=true then (some (none,r1)) else (some (none,1)))
theorem Q80.spec {a0 r} (H:Q80.f a0=some r) :
  Spec Tryz.prog 35 [.agg #[.int .i64 a0.1,.int .i64 a0.2.1,.int .i64 a0.2.2.1,.int .i64 a0.2.2.2.1,.int .i64 a0.2.2.2.2.1,.int .i64 a0.2.2.2.2.2.1,.int .i64 a0.2.2.2.2.2.2.1,.int .i64 a0.2.2.2.2.2.2.2],.pointer none] [] [] (fun v l=>∃(pv:Value) (lp:List Ch),OptC r.1 (fun d pv lp=>∃ b_0 b_1 b_2 A_3 c_3 A_4 c_4 b_5 A_6 c_6 b_7 A_8 c_8 b_9 b_10 A_11 c_11,pv=.pointer (some ⟨b_0,0,none⟩)∧lp=[X83 b_0 d.1.1 d.1.2.1 d.1.2.2.1 d.1.2.2.2.1 d.1.2.2.2.2.1 d.1.2.2.2.2.2.1 d.1.2.2.2.2.2.2.1 d.1.2.2.2.2.2.2.2 (.pointer (some ⟨b_2,0,none⟩)) (.pointer (some ⟨b_1,0,none⟩)) (.pointer (some ⟨b_9,0,none⟩)) d.2.2.2,Xp b_1 (.pointer (some ⟨b_2,0,none⟩)) d.2.1.2.1 A_4 c_4 (.map (some b_5)) d.2.1.2.2.2.1 A_6 c_6 (.pointer (some ⟨b_7,0,none⟩)),Xf b_2 d.2.1.1.1 d.2.1.1.2.1 A_3 c_3 d.2.1.1.2.2.1 d.2.1.1.2.2.2,O5 d.2.1.1.2.1 A_3 c_3,Xm d.2.1.2.1 A_4 c_4,Y2 .u32 (Value.int .i64) b_5 d.2.1.2.2.1,O3 d.2.1.2.2.2.1 A_6 c_6,Yx b_7 d.2.1.2.2.2.2.1 A_8 c_8 d.2.1.2.2.2.2.2,Yy d.2.1.2.2.2.2.1 A_8 c_8,Zaw b_9 (.pointer (some ⟨b_10,0,none⟩)),W6 b_10 d.2.2.1.1 d.2.2.1.2.1 d.2.2.1.2.2 A_11 c_11,O61 d.2.2.1.2.2 A_11 c_11]) pv lp∧v=.tuple #[pv,.int .i64 r.2]∧l=lp ++ []):=by
 refine Zi Tryz.func35 fun w0 F0 h0=>?_
 unfold Q80.f at H
 refine T4 (T2 ?_)
 refine rB (Z4 h0) fun b1 w1 h1=>?_
 refine Ze [1,2] rfl ?_
 refine T4 (T4 (T2 ?_))
 refine Zc (Zb 0 h1.wht) ?_
 refine cS H [] h1 rfl Q48.spec Zp fun r1 w2 H h2=>?_
 refine Ze [1,2,6] rfl ?_
 refine T4 (Za [1,2,6,13] ?_)
 refine jIf H (fun c1 H=>?_) fun c1 H=>?_
 ·refine T4 (Za [4,5] ?_)
  cases H
  exact T3 (jR ⟨_,_,T8,rfl,rfl⟩ h2 [])
 refine T5 (T4 (T2 ?_))
 refine Zd 2 ?_
 refine Zc (Zb 0 h2.wht) ?_
 refine Yg Tryz.func85 ?_
 refine T4 (Za [0,1] ?_)
 refine T4 (TW (T4 (T2 ?_)))
 refine Zd 1 ?_
 refine Yg Tryz.func37 ?_
 refine T4 (Za [0] ?_)
 refine T4 (T4 (Za [0,11] ?_))
 refine Zn ?_
 refine T4 (Za [2] ?_)
 refine T3 (⟨_,Zj,?_⟩)
 refine Ze [0,1,10] rfl ?_
 refine Zn ?_
 refine T4 (Za [4,5] ?_)
 refine T3 (⟨_,Zj,?_⟩)
 refine Ze [1,2,7,8] rfl ?_
 refine T4 (T4 (Za [1,2,7,8,23] ?_))
 refine Zn ?_
 refine T4 (Za [4,5] ?_)
 cases H
 exact T3 (jR ⟨_,_,T8,rfl,rfl⟩ h2 [])

def Q53.f (a0:TB):Option (Int):=if (decide (a0.1=0))=true then (some 0) else (if 0<a0.1 then (some (w64 (Int.tdiv (a0.2.1.length:Int) a0.1))) else none)
theorem Q53.spec {a0 b1 A1 c_1 r} (H:Q53.f a0=some r) :
  Spec Tryz.prog 37 [.pointer (some ⟨b1,0,none⟩)] (B7 a0 b1 A1 c_1) [] (fun v l=>v=.int .i64 r∧l=B7 a0 b1 A1 c_1):=by
 refine Zi Tryz.func37 fun w0 F0 h0=>?_
 replace h0:=nf h0
 unfold Q53.f at H
 refine T4 (Za [0] ?_)
 refine T4 (T4 (T2 ?_))
 refine Zd 6 ?_
 refine Zc (Zb 0 h0.wht) ?_
 refine Ze [0,11] rfl ?_
 refine jIf H (fun c1 H=>?_) fun c1 H=>?_
 ·refine T4 (Za [2] ?_)
  cases H
  exact T3 (jR0 h0 [0,0])
 refine T5 (T4 (jH h0 fun h1=>?_))
 refine Zo [0,1,2,5,6,7] ?_
 refine Zf 3 rfl (Zb 0 wI) ?_
 refine Zo [4] ?_
 refine Zf 8 rfl (Zb 0 wI) ?_
 obtain ⟨p1,H⟩:=Zl H
 refine Zf 9 rfl (Zlg p1) ?_
 refine Zo [10] ?_
 refine Zt [2] ?_
 cases H
 exact T3 (jR0 h1 [0,0])

def Q34.f (a0:Int):Option (Option TA×Int):=if (decide (a0<1))=true then (some (none,2)) else (if (decide (4096<a0))=true then (some (none,2)) else (if 0≤(w64 (a0+1))∧(w64 (a0+1))*24≤281474976710656 then (if 0≤a0∧a0<((List.replicate ((w64 (a0+1)).toNat) ((0,0,false):Int×Int×Bool)).length:Int) then (some ((some (((List.replicate ((w64 (a0+1)).toNat) ((0,0,false):Int×Int×Bool)).set a0.toNat (a0,a0,false)),0)),0)) else none) else none))
theorem Q34.spec {a0 r} (H:Q34.f a0=some r) :
  Spec Tryz.prog 135 [.int .i64 a0] [] [] (fun v l=>∃(pv:Value) (lp:List Ch),OptC r.1 (fun d pv lp=>∃ b_0 A_1 c_1,pv=.pointer (some ⟨b_0,0,none⟩)∧lp=[Yx b_0 d.1 A_1 c_1 d.2,Yy d.1 A_1 c_1]) pv lp∧v=.tuple #[pv,.int .i64 r.2]∧l=lp ++ []):=by
 refine Zi Tryz.func135 fun w0 F0 h0=>?_
 unfold Q34.f at H
 refine T4 (Za [0] ?_)
 refine T4 (T4 (T2 ?_))
 refine Zd 3 ?_
 refine Z7 7 H (fun c1 H=>?_) fun c1 H=>?_
 ·refine Ze [0,10] rfl ?_
  refine Zn ?_
  refine T4 (Za [2,3] ?_)
  cases H
  exact T3 (jR ⟨_,_,T8,rfl,rfl⟩ h0 [])
 refine Ze [0,10] rfl ?_
 refine jIf H (fun c2 H=>?_) fun c2 H=>?_
 ·refine T4 (Za [2,3] ?_)
  cases H
  exact T3 (jR ⟨_,_,T8,rfl,rfl⟩ h0 [])
 refine T5 (T4 (T2 ?_))
 refine Zd 2 ?_
 obtain ⟨⟨p1,p2⟩,H⟩:=Zl H
 refine rB (Jq Yj (ty:=(.pair (.int .i64) (.pair (.int .i64) .bool))) rfl ((0,0,false):Int×Int×Bool) rfl rfl rfl rfl rfl rfl rfl (by decide) h0 p1 p2) fun b1 w1 h1=>?_
 refine Zd 1 ?_
 refine rB (Z4 h1) fun b2 w2 h2=>?_
 refine Ze [0,4] rfl ?_
 refine T4 (T2 ?_)
 refine Zd 3 ?_
 refine Zc (Zb 0 h2.wht) ?_
 refine Zd 4 ?_
 obtain ⟨⟨p3,p4⟩,H⟩:=Zl H
 have e1:=Zx h2.wh (gO 1) p3 p4
 refine Zc (Zg e1 p3 p4) ?_
 refine rS (Zm 0 (.pair (.int .i64) (.pair (.int .i64) .bool)) a0 (a0,a0,false) 1 h2 rfl p3 p4) fun _ w3 h3=>?_
 replace h3:St w0 F0 [Yy ((List.replicate ((w64 (a0+1)).toNat) ((0,0,false):Int×Int×Bool)).set a0.toNat (a0,a0,false)) (some ⟨b1,0,none⟩) ((w64 (a0+1)).toNat),Yx b2 ((List.replicate ((w64 (a0+1)).toNat) ((0,0,false):Int×Int×Bool)).set a0.toNat (a0,a0,false)) (some ⟨b1,0,none⟩) ((w64 (a0+1)).toNat) 0] _ _:=h3.retell (by simp only [List.length_set,List.length_nil,Yy,Yx] <;> rfl)
 refine Ze [4] rfl ?_
 refine T4 (Za [2,3] ?_)
 cases H
 exact T3 (jR ⟨_,_,(OptC.yes ⟨_,_,_,rfl,rfl⟩),rfl,rfl⟩ h3 [1,0])

def Q54.f (a0:TB):Option (Int):=some a0.1
theorem Q54.spec {a0 b1 A1 c_1 r} (H:Q54.f a0=some r) :
  Spec Tryz.prog 38 [.pointer (some ⟨b1,0,none⟩)] (B7 a0 b1 A1 c_1) [] (fun v l=>v=.int .i64 r∧l=B7 a0 b1 A1 c_1):=by
 refine Zi Tryz.func38 fun w0 F0 h0=>?_
 replace h0:=nf h0
 unfold Q54.f at H
 refine T4 (Za [0] ?_)
 refine T4 (T4 (Za [0,4] ?_))
 refine Z5 ?_
 refine T5 (T4 (T2 ?_))
 refine Zd 3 ?_
 refine Zc (Zb 0 h0.wht) ?_
 refine Ze [2] rfl ?_
 cases H
 exact T3 (jR0 h0 [0,0])

def Q2.f (a0:Int):Option (Option TG×Int):=if (decide (a0<1))=true then (some (none,2)) else (if (decide (65536<a0))=true then (some (none,2)) else (if 0≤(w64 (Int.tdiv (w64 ((w64 (a0+64)) - 1)) 64))∧(w64 (Int.tdiv (w64 ((w64 (a0+64)) - 1)) 64))*8≤281474976710656 then (some ((some (a0,0,(List.replicate ((w64 (Int.tdiv (w64 ((w64 (a0+64)) - 1)) 64)).toNat) (0:Int)))),0)) else none))
theorem Q2.spec {a0 r} (H:Q2.f a0=some r) :
  Spec Tryz.prog 136 [.int .i64 a0] [] [] (fun v l=>∃(pv:Value) (lp:List Ch),OptC r.1 (fun d pv lp=>∃ b_0 A_1 c_1,pv=.pointer (some ⟨b_0,0,none⟩)∧lp=[W6 b_0 d.1 d.2.1 d.2.2 A_1 c_1,O61 d.2.2 A_1 c_1]) pv lp∧v=.tuple #[pv,.int .i64 r.2]∧l=lp ++ []):=by
 refine Zi Tryz.func136 fun w0 F0 h0=>?_
 unfold Q2.f at H
 refine T4 (Za [0] ?_)
 refine T4 (T4 (T2 ?_))
 refine Zd 3 ?_
 refine Z7 6 H (fun c1 H=>?_) fun c1 H=>?_
 ·refine Ze [0,9] rfl ?_
  refine Zn ?_
  refine T4 (Za [2,3] ?_)
  cases H
  exact T3 (jR ⟨_,_,T8,rfl,rfl⟩ h0 [])
 refine Ze [0,9] rfl ?_
 refine jIf H (fun c2 H=>?_) fun c2 H=>?_
 ·refine T4 (Za [2,3] ?_)
  cases H
  exact T3 (jR ⟨_,_,T8,rfl,rfl⟩ h0 [])
 refine T5 (T4 (T2 ?_))
 refine Zd 5 ?_
 obtain ⟨⟨p1,p2⟩,H⟩:=Zl H
 refine rB (Jq Yj (ty:=(.int .u64)) rfl (0:Int) rfl rfl rfl rfl rfl rfl rfl (by decide) h0 p1 p2) fun b1 w1 h1=>?_
 refine Zd 1 ?_
 refine rB (Z4 h1) fun b2 w2 h2=>?_
 refine Ze [2,3] rfl ?_
 cases H
 exact T3 (jR ⟨_,_,(OptC.yes ⟨_,_,_,rfl,rfl⟩),rfl,rfl⟩ h2 [0,0])

def Q7.f (a0:TG):Option (Int):=some a0.1
theorem Q7.spec {a0 b1 A1 c_1 r} (H:Q7.f a0=some r) :
  Spec Tryz.prog 131 [.pointer (some ⟨b1,0,none⟩)] (W8 a0 b1 A1 c_1) [] (fun v l=>v=.int .i64 r∧l=W8 a0 b1 A1 c_1):=by
 refine Zi Tryz.func131 fun w0 F0 h0=>?_
 replace h0:=nf h0
 unfold Q7.f at H
 refine T4 (Za [0] ?_)
 refine T4 (T4 (Za [0,4] ?_))
 refine Z5 ?_
 refine T5 (T4 (T2 ?_))
 refine Zd 3 ?_
 refine Zc (Zb 0 h0.wht) ?_
 refine Ze [2] rfl ?_
 cases H
 exact T3 (jR0 h0 [0,0])

def Q10.f (a0:TG) (a1:Int):Option (Int):=(Q7.f a0).bind fun r1=>(if (decide (r1=0))=true then (some 1) else (if (decide (a1<0))=true then (some 4) else (if (decide (a0.1≤a1))=true then (some 4) else (some 0))))
theorem Q10.spec {a0 a1 b1 A1 c_1 r} (H:Q10.f a0 a1=some r) :
  Spec Tryz.prog 178 [.pointer (some ⟨b1,0,none⟩),.int .i64 a1] (W8 a0 b1 A1 c_1) [] (fun v l=>v=.int .i64 r∧l=W8 a0 b1 A1 c_1):=by
 refine Zi Tryz.func178 fun w0 F0 h0=>?_
 replace h0:=nf h0
 unfold Q10.f at H
 refine T4 (Za [0,1] ?_)
 refine T4 (TW (T4 (T2 ?_)))
 refine Zd 1 ?_
 refine cS H [0,0] h0 rfl Q7.spec Zp fun r1 w1 H h1=>?_
 refine Ze [0,1,5] rfl ?_
 refine jIf H (fun c1 H=>?_) fun c1 H=>?_
 ·refine T4 (Za [4] ?_)
  cases H
  exact T3 (jR0 h1 [0,0])
 refine T4 (T2 ?_)
 refine Zd 3 ?_
 refine Z7 12 H (fun c2 H=>?_) fun c2 H=>?_
 ·refine Ze [9] rfl ?_
  refine Zn ?_
  refine T4 (Za [4] ?_)
  cases H
  exact T3 (jR0 h1 [0,0])
 refine Zd 4 ?_
 refine Zc (Zb 0 h1.wht) ?_
 refine Ze [9] rfl ?_
 refine jIf H (fun c3 H=>?_) fun c3 H=>?_
 ·refine T4 (Za [4] ?_)
  cases H
  exact T3 (jR0 h1 [0,0])
 refine T5 (T4 (Za [4] ?_))
 cases H
 exact T3 (jR0 h1 [0,0])

def Q6.f (a0:TG) (a1:Int):Option (Bool):=(Q10.f a0 a1).bind fun r1=>(if (decide (r1=0))=true then (if 0≤(w64 (Int.tdiv a1 64))∧(w64 (Int.tdiv a1 64))<(a0.2.2.length:Int) then (if 0≤(Int.tmod a1 64) then (some (decide ((IntKind.u64.wrap (((BitVec.ofInt IntKind.u64.bits (Int.fdiv (gt a0.2.2 (w64 (Int.tdiv a1 64))) (2 ^ (min (Int.tmod a1 64).toNat 64))) &&& (BitVec.ofInt IntKind.u64.bits 1)).toNat:Int)))=1))) else none) else none) else (some false))
theorem Q6.spec {a0 a1 b1 A1 c_1 r} (H:Q6.f a0 a1=some r) :
  Spec Tryz.prog 134 [.pointer (some ⟨b1,0,none⟩),.int .i64 a1] (W8 a0 b1 A1 c_1) [] (fun v l=>v=.bool r∧l=W8 a0 b1 A1 c_1):=by
 refine Zi Tryz.func134 fun w0 F0 h0=>?_
 replace h0:=nf h0
 unfold Q6.f at H
 refine T4 (Za [0,1] ?_)
 refine T4 (T2 ?_)
 refine Zd 2 ?_
 refine cS H [0,0] h0 rfl Q10.spec Zp fun r1 w1 H h1=>?_
 refine Zd 2 ?_
 refine Z7 9 H (fun c1 H=>?_) fun c1 H=>?_
 ·refine Zd 3 ?_
  refine Zc (Zb 0 h1.wht) ?_
  refine Zd 2 ?_
  obtain ⟨⟨p1,p2⟩,H⟩:=Zl H
  have e1:=Zx h1.wh (gO 1) p1 p2
  refine Zc (Zg e1 p1 p2) ?_
  refine Zc (Zh 0 h1.wht (gO 1) p1 p2) ?_
  refine Zd 2 ?_
  obtain ⟨p3,H⟩:=Zl H
  refine Zc (Zd6 p3) ?_
  refine Ze [4] rfl ?_
  cases H
  exact T3 (jR0 h1 [0,0])
 refine Ze [4] rfl ?_
 cases H
 exact T3 (jR0 h1 [0,0])

def Q8.f (a0:TG) (a1:Int):Option (Int×TG):=(Q10.f a0 a1).bind fun r1=>(if (!decide (r1=0))=true then (some (r1,a0)) else ((Q6.f a0 a1).bind fun r2=>(if r2=true then (some (10,a0)) else (if 0≤(w64 (Int.tdiv a1 64))∧(w64 (Int.tdiv a1 64))<(a0.2.2.length:Int) then (if 0≤(Int.tmod a1 64) then (some (0,(a0.1,(w64 (a0.2.1+1)),(a0.2.2.set (w64 (Int.tdiv a1 64)).toNat (IntKind.u64.wrap (((BitVec.ofInt IntKind.u64.bits (gt a0.2.2 (w64 (Int.tdiv a1 64))) ||| (BitVec.ofInt IntKind.u64.bits (IntKind.u64.wrap ((1:Int)*2 ^ (min (Int.tmod a1 64).toNat 64))))).toNat:Int))))))) else none) else none))))
theorem Q8.spec {a0 a1 b1 A1 c_1 r} (H:Q8.f a0 a1=some r) :
  Spec Tryz.prog 137 [.pointer (some ⟨b1,0,none⟩),.int .i64 a1] (W8 a0 b1 A1 c_1) [] (fun v l=>∃ A_0 c_0,v=.int .i64 r.1∧l=W8 r.2 b1 A_0 c_0):=by
 refine Zi Tryz.func137 fun w0 F0 h0=>?_
 replace h0:=nf h0
 unfold Q8.f at H
 refine T4 (Za [0,1] ?_)
 refine T4 (T4 (T2 ?_))
 refine Zd 2 ?_
 refine cS H [0,0] h0 rfl Q10.spec Zp fun r1 w1 H h1=>?_
 refine Ze [0,1,5] rfl ?_
 refine T4 (Za [0,1,5,10] ?_)
 refine jIf H (fun c1 H=>?_) fun c1 H=>?_
 ·refine T4 (Za [4] ?_)
  cases H
  exact T3 (jR ⟨_,_,rfl,rfl⟩ h1 [0,0])
 refine T5 (T4 (T4 (T2 ?_)))
 refine Zd 2 ?_
 refine cS H [0,0] h1 rfl Q6.spec Zp fun r2 w2 H h2=>?_
 refine Ze [0,1,14] rfl ?_
 refine jIf H (fun c2 H=>?_) fun c2 H=>?_
 ·refine T4 (Za [4] ?_)
  cases H
  exact T3 (jR ⟨_,_,rfl,rfl⟩ h2 [0,0])
 refine T5 (T4 ?_)
 obtain ⟨⟨p1,p2⟩,H⟩:=Zl H
 obtain ⟨p3,H⟩:=Zl H
 refine T1 (fun env w=>env=[(0,.pointer (some ⟨b1,0,none⟩))]∧St w0 F0 [W6 b1 a0.1 a0.2.1 (a0.2.2.set (w64 (Int.tdiv a1 64)).toNat (IntKind.u64.wrap (((BitVec.ofInt IntKind.u64.bits (gt a0.2.2 (w64 (Int.tdiv a1 64))) ||| (BitVec.ofInt IntKind.u64.bits (IntKind.u64.wrap ((1:Int)*2 ^ (min (Int.tmod a1 64).toNat 64))))).toNat:Int)))) A1 c_1,O61 (a0.2.2.set (w64 (Int.tdiv a1 64)).toNat (IntKind.u64.wrap (((BitVec.ofInt IntKind.u64.bits (gt a0.2.2 (w64 (Int.tdiv a1 64))) ||| (BitVec.ofInt IntKind.u64.bits (IntKind.u64.wrap ((1:Int)*2 ^ (min (Int.tmod a1 64).toNat 64))))).toNat:Int)))) A1 c_1] [] w) ?_ ?_
 ·refine Zw (sO h2 [0]) ?_
  have h4:=h2.drew
  refine Zo [0,1,2,4,5,8,9] ?_
  refine Zf 3 rfl (Zb 0 wI) ?_
  have e2:=Zx h4.wh (gO 1) p1 p2
  refine Zf 6 rfl (Zg e2 p1 p2) ?_
  refine TV [7,10] (i:=7) rfl rfl rfl rfl ?_
  refine (Yb ?_ (Yb ?_ Xg))
  ·refine Xv 7 rfl (T7 (Zh 0 h4.wht (gO 1) p1 p2)) ?_
   rintro _ _ ⟨rfl,rfl⟩
   replace h4:=nf h4
   refine ⟨⟨[_],(sO h4 [1,0])⟩,?_⟩
   refine Zf 10 rfl (Gc p3) ?_
   refine Zo [11] ?_
   refine Zf 12 rfl (Zg e2 p1 p2) ?_
   refine hS 13 rfl (Zm 0 (.int .u64) (w64 (Int.tdiv a1 64)) (IntKind.u64.wrap (((BitVec.ofInt IntKind.u64.bits (gt a0.2.2 (w64 (Int.tdiv a1 64))) ||| (BitVec.ofInt IntKind.u64.bits (IntKind.u64.wrap ((1:Int)*2 ^ (min (Int.tmod a1 64).toNat 64))))).toNat:Int))) 1 h4 rfl p1 p2) 1 fun _ w4 h5=>?_
   replace h5:St w0 F0 [O61 (a0.2.2.set (w64 (Int.tdiv a1 64)).toNat (IntKind.u64.wrap (((BitVec.ofInt IntKind.u64.bits (gt a0.2.2 (w64 (Int.tdiv a1 64))) ||| (BitVec.ofInt IntKind.u64.bits (IntKind.u64.wrap ((1:Int)*2 ^ (min (Int.tmod a1 64).toNat 64))))).toNat:Int)))) A1 c_1,W6 b1 a0.1 a0.2.1 (a0.2.2.set (w64 (Int.tdiv a1 64)).toNat (IntKind.u64.wrap (((BitVec.ofInt IntKind.u64.bits (gt a0.2.2 (w64 (Int.tdiv a1 64))) ||| (BitVec.ofInt IntKind.u64.bits (IntKind.u64.wrap ((1:Int)*2 ^ (min (Int.tmod a1 64).toNat 64))))).toNat:Int)))) A1 c_1] _ _:=h5.retell (by simp only [List.length_set,List.length_nil,O61,W6] <;> rfl)
   refine Zt [0] ?_
   exact Zu ⟨(by simp only [List.length_set,List.length_nil] <;> rfl),((h5.only [1,0] rfl).rds [] rfl)⟩
  ·refine HS.op (i:=10) rfl rfl rfl (T7 (Zjq rfl rfl rfl p3)) ?_; rintro _ _ ⟨rfl,rfl⟩; replace h4:St w0 F0 [_,_] _ _:=h4; refine ⟨⟨[_],(h4.only [1,0] rfl)⟩,?_⟩
   refine Yl 7 rfl (T7 (Zh 0 h4.wht (gO 1) p1 p2)) ?_
   rintro _ _ ⟨rfl,rfl⟩
   replace h4:=nf h4
   refine ⟨⟨[_],(sO h4 [1,0])⟩,?_⟩
   refine Zo [11] ?_
   refine Zf 12 rfl (Zg e2 p1 p2) ?_
   refine hS 13 rfl (Zm 0 (.int .u64) (w64 (Int.tdiv a1 64)) (IntKind.u64.wrap (((BitVec.ofInt IntKind.u64.bits (gt a0.2.2 (w64 (Int.tdiv a1 64))) ||| (BitVec.ofInt IntKind.u64.bits (IntKind.u64.wrap ((1:Int)*2 ^ (min (Int.tmod a1 64).toNat 64))))).toNat:Int))) 1 h4 rfl p1 p2) 1 fun _ w5 h6=>?_
   replace h6:St w0 F0 [O61 (a0.2.2.set (w64 (Int.tdiv a1 64)).toNat (IntKind.u64.wrap (((BitVec.ofInt IntKind.u64.bits (gt a0.2.2 (w64 (Int.tdiv a1 64))) ||| (BitVec.ofInt IntKind.u64.bits (IntKind.u64.wrap ((1:Int)*2 ^ (min (Int.tmod a1 64).toNat 64))))).toNat:Int)))) A1 c_1,W6 b1 a0.1 a0.2.1 (a0.2.2.set (w64 (Int.tdiv a1 64)).toNat (IntKind.u64.wrap (((BitVec.ofInt IntKind.u64.bits (gt a0.2.2 (w64 (Int.tdiv a1 64))) ||| (BitVec.ofInt IntKind.u64.bits (IntKind.u64.wrap ((1:Int)*2 ^ (min (Int.tmod a1 64).toNat 64))))).toNat:Int)))) A1 c_1] _ _:=h6.retell (by simp only [List.length_set,List.length_nil,O61,W6] <;> rfl)
   refine Zt [0] ?_
   exact Zu ⟨(by simp only [List.length_set,List.length_nil] <;> rfl),((h6.only [1,0] rfl).rds [] rfl)⟩
 rintro env w6 ⟨rfl,h7⟩
 refine T4 (T2 ?_)
 refine Zd 3 ?_
 refine Zc (Zb 0 h7.wht) ?_
 refine Zd 3 ?_
 refine rS (Zs 0 h7) fun _ w7 h8=>?_
 refine Ze [] rfl ?_
 refine T4 (Za [4] ?_)
 cases H
 exact T3 (jR ⟨_,_,rfl,rfl⟩ h8 [0,0])

def Q72.f (a0:Int):Option (Option TE×Int):=if (decide (a0<5))=true then (some (none,2)) else ((Q2.f a0).bind fun r1=>(V1 r1.1 (if (!decide (r1.2=0))=true then (some (none,r1.2)) else none) (fun r2=>(if (!decide (r1.2=0))=false then ((Q8.f r2 0).bind fun r3=>(some ((some r3.2),0))) else none))))
theorem Q72.spec {a0 r} (H:Q72.f a0=some r) :
  Spec Tryz.prog 86 [.int .i64 a0] [] [] (fun v l=>∃(pv:Value) (lp:List Ch),OptC r.1 (fun d pv lp=>∃ b_0 b_1 A_2 c_2,pv=.pointer (some ⟨b_0,0,none⟩)∧lp=[Zaw b_0 (.pointer (some ⟨b_1,0,none⟩)),W6 b_1 d.1 d.2.1 d.2.2 A_2 c_2,O61 d.2.2 A_2 c_2]) pv lp∧v=.tuple #[pv,.int .i64 r.2]∧l=lp ++ []):=by
 refine Zi Tryz.func86 fun w0 F0 h0=>?_
 unfold Q72.f at H
 refine T4 (Za [0] ?_)
 refine T4 (T4 (Za [0,7] ?_))
 refine jIf H (fun c1 H=>?_) fun c1 H=>?_
 ·refine T4 (Za [2,3] ?_)
  cases H
  exact T3 (jR ⟨_,_,T8,rfl,rfl⟩ h0 [])
 refine T5 (T4 (T2 ?_))
 refine Zd 1 ?_
 refine cE H [] h0 rfl Q2.spec Zp ?_
 rintro r1 w1 _ _ H ⟨v1,l1,ho1,rfl,rfl⟩ h1
 rcases ho2:r1.1 with _ | r2
 ·rw [ho2] at ho1
  obtain ⟨rfl,rfl⟩:=ho1
  replace H:=Uy ho2 H
  obtain ⟨c2,H⟩:=Zl H
  replace h1:=nf h1
  refine Ze [4,5] rfl ?_
  refine T4 (T4 (Za [4,5,14] ?_))
  refine TX rfl (fun e=>?_) (fun e=>by rw [c2] at e; cases e)
  refine T4 (Za [2,3] ?_)
  cases H
  exact T3 (jR ⟨_,_,T8,rfl,rfl⟩ h1 [])
 rw [ho2] at ho1
 obtain ⟨b1,A1,c_1,rfl,rfl⟩:=ho1
 replace H:=Uz ho2 H
 obtain ⟨c3,H⟩:=Zl H
 replace h1:=nf h1
 refine Ze [4,5] rfl ?_
 refine T4 (T4 (Za [4,5,14] ?_))
 refine TX rfl (fun e=>by rw [c3] at e; cases e) (fun e=>?_)
 refine T5 (T4 (T2 ?_))
 refine Zd 1 ?_
 refine cE H [0,0] h1 rfl Q8.spec Zp ?_
 rintro r3 w2 _ _ H ⟨A2,c_2,rfl,rfl⟩ h2
 replace h2:=nf h2
 refine Ze [4] rfl ?_
 refine T4 (T2 ?_)
 refine Zd 2 ?_
 refine rB (Z4 h2) fun b2 w3 h3=>?_
 refine Ze [2,3] rfl ?_
 cases H
 exact T3 (jR ⟨_,_,(OptC.yes ⟨_,_,_,_,rfl,rfl⟩),rfl,rfl⟩ h3 [0,0,0])

def Q91.f (a0:Tc):Option (Int):=some 0
theorem Q91.spec {a0 b1 b2 b3 b4 b5 b6 b7 A1 c_1 A2 c_2 A3 c_3 A4 c_4 A5 c_5 r} (H:Q91.f a0=some r) :
  Spec Tryz.prog 60 [.pointer (some ⟨b1,0,none⟩)] (X9 a0 b1 b2 b3 b4 b5 b6 b7 A1 A2 A3 A4 A5 c_1 c_2 c_3 c_4 c_5) [] (fun v l=>v=.int .i64 r∧l=X9 a0 b1 b2 b3 b4 b5 b6 b7 A1 A2 A3 A4 A5 c_1 c_2 c_3 c_4 c_5):=by
 refine Zi Tryz.func60 fun w0 F0 h0=>?_
 replace h0:=nf h0
 unfold Q91.f at H
 refine T4 (Za [0] ?_)
 refine T4 (T4 (T2 ?_))
 refine Zd 6 ?_
 refine Zc (Zb 0 h0.wht) ?_
 refine Ze [11] rfl ?_
 refine Z5 ?_
 refine T5 (T4 (Za [2] ?_))
 cases H
 exact T3 (jR0 h0 [0,0,0,0,0,0,0,0,0,0,0,0])

def Q61.f:Option (Tx):=some (([]:List UInt8),([]:List UInt8),true)
theorem Q61.spec {r} (H:Q61.f=some r) :
  Spec Tryz.prog 121 [] [] [] (fun v l=>v=.agg #[.string ⟨⟨r.1⟩⟩,.string ⟨⟨r.2.1⟩⟩,.bool r.2.2]∧l=[]):=by
 refine Zi Tryz.func121 fun w0 F0 h0=>?_
 unfold Q61.f at H
 refine T4 (T2 ?_)
 refine rB (Yp h0) fun b1 w1 h1=>?_
 refine Ze [0] rfl ?_
 refine T4 (T2 ?_)
 refine Zd 1 ?_
 refine rS (Zs 0 h1) fun _ w2 h2=>?_
 refine Ze [0] rfl ?_
 cases H
 exact T3 (jR2 (Z1 (Sa Yj 0 h2 rfl rfl rfl rfl) Yt) ⟨rfl,rfl⟩ h2 [])

def Q13.f (a0:TP) (a1:TP):Option (Int):=some (Xh a0 a1)
theorem Q13.spec {a0 a1 r} (H:Q13.f a0 a1=some r) :
  Spec Tryz.prog 232 [.string ⟨⟨a0⟩⟩,.string ⟨⟨a1⟩⟩] [] [] (fun v l=>v=.int .i64 r∧l=[]):=by
 refine Zi Tryz.func232 fun w0 F0 h0=>?_
 unfold Q13.f at H
 refine T4 (Za [0,1] ?_)
 refine T4 (T2 ?_)
 refine Zd 2 ?_
 refine Zc (Zgz Zo2) ?_
 refine Ze [4] rfl ?_
 cases H
 exact T3 (jR0 h0 [])

def Q167.f (a0:TP) (a1:TP):Option (Int):=(Q13.f a0 a1).bind fun r1=>(some r1)
theorem Q167.spec {a0 a1 r} (H:Q167.f a0 a1=some r) :
  Spec Tryz.prog 217 [.string ⟨⟨a0⟩⟩,.string ⟨⟨a1⟩⟩] [] [] (fun v l=>v=.int .i64 r∧l=[]):=by
 refine Zi Tryz.func217 fun w0 F0 h0=>?_
 unfold Q167.f at H
 refine T4 (Za [0,1] ?_)
 refine T4 (T2 ?_)
 refine Zd 2 ?_
 refine cS H [] h0 rfl Q13.spec Zp fun r1 w1 H h1=>?_
 refine Ze [4] rfl ?_
 cases H
 exact T3 (jR0 h1 [])

def Q62.f (a0:TP) (a1:TP):Option (Int):=(Q167.f a0 a1).bind fun r1=>(some r1)
theorem Q62.spec {a0 a1 r} (H:Q62.f a0 a1=some r) :
  Spec Tryz.prog 188 [.string ⟨⟨a0⟩⟩,.string ⟨⟨a1⟩⟩] [] [] (fun v l=>v=.int .i64 r∧l=[]):=by
 refine Zi Tryz.func188 fun w0 F0 h0=>?_
 unfold Q62.f at H
 refine T4 (Za [0,1] ?_)
 refine T4 (T2 ?_)
 refine Zd 2 ?_
 refine cS H [] h0 rfl Q167.spec Zp fun r1 w1 H h1=>?_
 refine Ze [4] rfl ?_
 cases H
 exact T3 (jR0 h1 [])

def Q60.l0:Nat→Tw→Int→Option (Bool)
 | 0,_,_=>none
 | k+1,a0,x1=>if (decide (x1<(w64 ((a0.length:Int) - 1))))=true then (if 0≤x1∧x1<(a0.length:Int) then (if 0≤(w64 (x1+1))∧(w64 (x1+1))<(a0.length:Int) then ((Q62.f ((gt a0 x1).1) ((gt a0 (w64 (x1+1))).1)).bind fun r1=>(if (decide (0≤r1))=true then (some false) else (Q60.l0 k a0 (w64 (x1+1))))) else none) else none) else (some true)
def Q60.f (k:Nat) (a0:Tw):Option (Bool):=Q60.l0 k a0 0
theorem Q60.spec {k a0 A1 c_1 r} (H:Q60.f k a0=some r) :
  Spec Tryz.prog 198 [.slice A1 a0.length c_1] [] [Y3 a0 A1 c_1] (fun v l=>v=.bool r∧l=[]):=by
 refine Zi Tryz.func198 fun w0 F0 h0=>?_
 unfold Q60.f at H
 refine T4 (Za [0] ?_)
 refine T4 (T4 (Za [0,6,7] ?_))
 refine TW ?_
 have h5:=(sOR h0 [] [0])
 refine T0 (fun kk env w=>∃ x1,Q60.l0 kk a0 x1=some r∧env=[(0,.slice A1 a0.length c_1),(6,.int .i64 (w64 ((a0.length:Int) - 1))),(7,.int .i64 x1)]∧St w0 F0 [] [Y3 a0 A1 c_1] w) (k:=k) ⟨_,H,rfl,h5⟩ ?_
 rintro k1 env w1 ⟨x1,H,rfl,h1⟩
 rcases k1 with _ | k1
 ·exact z0 H
 rw [Q60.l0] at H
 refine T4 (Za [0,6,7,8] ?_)
 refine T4 (jIf H (fun c1 H=>?_) fun c1 H=>?_)
 ·refine T5 (T4 (TW (T4 (Za [0,3,6,7] ?_))))
  refine T4 (jH h1 fun h2=>?_)
  refine Zo [0,1,5,6,7] ?_
  obtain ⟨⟨p1,p2⟩,H⟩:=Zl H
  have e1:=Zx h2.wh (Zk 0) p1 p2
  refine Zf 2 rfl (Zg e1 p1 p2) ?_
  refine Zo [3] ?_
  refine Zf 4 rfl (Zh 0 wI (Zk 0) p1 p2) ?_
  obtain ⟨⟨p3,p4⟩,H⟩:=Zl H
  refine Zf 8 rfl (Zg e1 p3 p4) ?_
  refine Zo [9] ?_
  refine Zf 10 rfl (Zh 0 wI (Zk 0) p3 p4) ?_
  refine cSJ 11 rfl H [] h2 rfl Q62.spec Zp 0 fun r1 w2 H h3=>?_
  refine Zo [12] ?_
  refine Zt [0,6,7,22] ?_
  refine jIf H (fun c2 H=>?_) fun c2 H=>?_
  ·refine T4 (Za [2] ?_)
   cases H
   exact T3 (jR0 h3 [])
  refine T5 (Za [0,6,7] ?_)
  have h4:=(sOR h3 [] [0])
  exact ⟨k1,by omega,_,H,rfl,h4⟩
 refine TZ (T4 (Za [2] ?_))
 cases H
 exact T3 (jR0 h1 [])

def Q64.f (a0:Tr) (a1:TP):Option (Bool):=if (decide (1≤(a1.length:Int)))=true then (some (decide ((a1.length:Int)≤a0.2.2.2.2.2.2.1))) else (some false)
theorem Q64.spec {a0 a1 r} (H:Q64.f a0 a1=some r) :
  Spec Tryz.prog 201 [.agg #[.int .i64 a0.1,.int .i64 a0.2.1,.int .i64 a0.2.2.1,.int .i64 a0.2.2.2.1,.int .i64 a0.2.2.2.2.1,.int .i64 a0.2.2.2.2.2.1,.int .i64 a0.2.2.2.2.2.2.1,.int .i64 a0.2.2.2.2.2.2.2],.string ⟨⟨a1⟩⟩] [] [] (fun v l=>v=.bool r∧l=[]):=by
 refine Zi Tryz.func201 fun w0 F0 h0=>?_
 unfold Q64.f at H
 refine T4 (T2 ?_)
 refine rB (Z4 h0) fun b1 w1 h1=>?_
 refine Ze [1,2] rfl ?_
 refine T4 (T2 ?_)
 refine Zd 4 ?_
 refine Z7 8 H (fun c1 H=>?_) fun c1 H=>?_
 ·refine Zd 3 ?_
  refine Zc (Zb 0 h1.wht) ?_
  refine Ze [4] rfl ?_
  cases H
  exact T3 (jR0 h1 [])
 refine Ze [4] rfl ?_
 cases H
 exact T3 (jR0 h1 [])

def Q63.f (a0:Tx) (a1:TP):Option (Bool):=if (!Op.bytesLess a1 a0.1)=true then (if a0.2.2=true then (some true) else (some (Op.bytesLess a1 a0.2.1))) else (some false)
theorem Q63.spec {a0 a1 r} (H:Q63.f a0 a1=some r) :
  Spec Tryz.prog 202 [.agg #[.string ⟨⟨a0.1⟩⟩,.string ⟨⟨a0.2.1⟩⟩,.bool a0.2.2],.string ⟨⟨a1⟩⟩] [] [] (fun v l=>v=.bool r∧l=[]):=by
 refine Zi Tryz.func202 fun w0 F0 h0=>?_
 unfold Q63.f at H
 refine T4 (T2 ?_)
 refine rB (Z4 h0) fun b1 w1 h1=>?_
 refine Ze [1,2] rfl ?_
 refine T4 (T2 ?_)
 refine Zd 2 ?_
 refine Zc (Zb 0 h1.wht) ?_
 refine Zd 2 ?_
 refine Z7 9 H (fun c1 H=>?_) fun c1 H=>?_
 ·refine Zd 1 ?_
  refine Zc (Zb 0 h1.wht) ?_
  refine Zd 1 ?_
  refine Z7 12 H (fun c2 H=>?_) fun c2 H=>?_
  ·refine Ze [4] rfl ?_
   cases H
   exact T3 (jR0 h1 [])
  refine Zd 2 ?_
  refine Zc (Zb 0 h1.wht) ?_
  refine Ze [4] rfl ?_
  cases H
  exact T3 (jR0 h1 [])
 refine Ze [4] rfl ?_
 cases H
 exact T3 (jR0 h1 [])

def Q71.f (a0:TC) (a1:Tr) (a2:Tx):Option (Bool):=(Q64.f a1 a0.1).bind fun r1=>(if (!r1)=true then (some true) else ((Q63.f a2 a0.1).bind fun r2=>(if (!r2)=true then (some true) else (some (decide (a1.2.2.2.2.2.2.2<(a0.2.length:Int)))))))
theorem Q71.spec {a0 a1 a2 b1 b2 r} (H:Q71.f a0 a1 a2=some r) :
  Spec Tryz.prog 200 [.agg #[.string ⟨⟨a0.1⟩⟩,.string ⟨⟨a0.2⟩⟩],.pointer (some ⟨b1,0,none⟩),.pointer (some ⟨b2,0,none⟩)] [X23 b1 a1.1 a1.2.1 a1.2.2.1 a1.2.2.2.1 a1.2.2.2.2.1 a1.2.2.2.2.2.1 a1.2.2.2.2.2.2.1 a1.2.2.2.2.2.2.2,X92 b2 a2.1 a2.2.1 a2.2.2] [] (fun v l=>v=.bool r∧l=[X23 b1 a1.1 a1.2.1 a1.2.2.1 a1.2.2.2.1 a1.2.2.2.2.1 a1.2.2.2.2.2.1 a1.2.2.2.2.2.2.1 a1.2.2.2.2.2.2.2,X92 b2 a2.1 a2.2.1 a2.2.2]):=by
 refine Zi Tryz.func200 fun w0 F0 h0=>?_
 unfold Q71.f at H
 refine T4 (T2 ?_)
 refine rB (Z4 h0) fun b3 w1 h1=>?_
 refine Ze [1,2,3] rfl ?_
 refine T4 (T2 ?_)
 refine Zc (Zb 1 h1.wht) ?_
 refine Zd 1 ?_
 refine Zc (Zb 0 h1.wht) ?_
 refine cS H [] h1 rfl Q64.spec Zp fun r1 w2 H h2=>?_
 refine Zd 2 ?_
 refine Z7 10 H (fun c1 H=>?_) fun c1 H=>?_
 ·refine Ze [4] rfl ?_
  cases H
  exact T3 (jR0 h2 [1,1])
 refine Zc (Zb 2 h2.wht) ?_
 refine Zd 1 ?_
 refine Zc (Zb 0 h2.wht) ?_
 refine cS H [] h2 rfl Q63.spec Zp fun r2 w3 H h3=>?_
 refine Zd 3 ?_
 refine Z7 17 H (fun c2 H=>?_) fun c2 H=>?_
 ·refine Ze [4] rfl ?_
  cases H
  exact T3 (jR0 h3 [1,1])
 refine Zd 1 ?_
 refine Zc (Zb 0 h3.wht) ?_
 refine Zd 2 ?_
 refine Zc (Zb 1 h3.wht) ?_
 refine Ze [4] rfl ?_
 cases H
 exact T3 (jR0 h3 [1,1])

def Q103.l0:Nat→Tw→Tr→Tx→Int→Option (Int)
 | 0,_,_,_,_=>none
 | k+1,a0,a2,a3,x1=>if (decide (x1<(a0.length:Int)))=true then (if 0≤x1∧x1<(a0.length:Int) then ((Q71.f (gt a0 x1) a2 a3).bind fun r1=>(if r1=true then (some x1) else (Q103.l0 k a0 a2 a3 (w64 (x1+1))))) else none) else (some (-1))
def Q103.f (k:Nat) (a0:Tw) (a2:Tr) (a3:Tx):Option (Int):=Q103.l0 k a0 a2 a3 0
theorem Q103.spec {k a0 a2 a3 A1 c_1 b1 b2 r} (H:Q103.f k a0 a2 a3=some r) :
  Spec Tryz.prog 226 [.slice A1 a0.length c_1,.func (.func 200) #[] #[.pointer (some ⟨b1,0,none⟩),.pointer (some ⟨b2,0,none⟩)]] [X23 b1 a2.1 a2.2.1 a2.2.2.1 a2.2.2.2.1 a2.2.2.2.2.1 a2.2.2.2.2.2.1 a2.2.2.2.2.2.2.1 a2.2.2.2.2.2.2.2,X92 b2 a3.1 a3.2.1 a3.2.2] [Y3 a0 A1 c_1] (fun v l=>v=.int .i64 r∧l=[X23 b1 a2.1 a2.2.1 a2.2.2.1 a2.2.2.2.1 a2.2.2.2.2.1 a2.2.2.2.2.2.1 a2.2.2.2.2.2.2.1 a2.2.2.2.2.2.2.2,X92 b2 a3.1 a3.2.1 a3.2.2]):=by
 refine Zi Tryz.func226 fun w0 F0 h0=>?_
 unfold Q103.f at H
 refine T4 (Za [0,1] ?_)
 refine T4 (T4 (Za [0,1,7,8] ?_))
 refine TW ?_
 have h4:=(sOR h0 [0,0] [0])
 refine T0 (fun kk env w=>∃ x1,Q103.l0 kk a0 a2 a3 x1=some r∧env=[(0,.slice A1 a0.length c_1),(1,.func (.func 200) #[] #[.pointer (some ⟨b1,0,none⟩),.pointer (some ⟨b2,0,none⟩)]),(7,.int .i64 (a0.length:Int)),(8,.int .i64 x1)]∧St w0 F0 [X23 b1 a2.1 a2.2.1 a2.2.2.1 a2.2.2.2.1 a2.2.2.2.2.1 a2.2.2.2.2.2.1 a2.2.2.2.2.2.2.1 a2.2.2.2.2.2.2.2,X92 b2 a3.1 a3.2.1 a3.2.2] [Y3 a0 A1 c_1] w) (k:=k) ⟨_,H,rfl,h4⟩ ?_
 rintro k1 env w1 ⟨x1,H,rfl,h1⟩
 rcases k1 with _ | k1
 ·exact z0 H
 rw [Q103.l0] at H
 refine T4 (Za [0,1,7,8,9] ?_)
 refine T4 (jIf H (fun c1 H=>?_) fun c1 H=>?_)
 ·refine T5 (T4 (TW (T4 (Za [0,1,5,7,8] ?_))))
  refine T4 (T2 ?_)
  refine Zd 3 ?_
  obtain ⟨⟨p1,p2⟩,H⟩:=Zl H
  have e1:=Zx h1.wh (Zk 2) p1 p2
  refine Zc (Zg e1 p1 p2) ?_
  refine Zc (Zh 0 h1.wht (Zk 2) p1 p2) ?_
  obtain ⟨r1,q1,H⟩:=Ye H
  refine Zv (J5 [.agg #[.string ⟨⟨(gt a0 x1).1⟩⟩,.string ⟨⟨(gt a0 x1).2⟩⟩]] [.pointer (some ⟨b1,0,none⟩),.pointer (some ⟨b2,0,none⟩)] [0,0] (Q71.spec q1) h1 rfl Zp) ?_
  rintro _ w2 ⟨_,⟨rfl,rfl⟩,h2⟩
  replace h2:=nf h2
  refine Ze [0,1,5,7,8,16] rfl ?_
  refine jIf H (fun c2 H=>?_) fun c2 H=>?_
  ·refine T4 (Za [4] ?_)
   cases H
   exact T3 (jR0 h2 [0,0])
  refine T5 (Za [0,1,7,8] ?_)
  have h3:=(sOR h2 [0,0] [0])
  exact ⟨k1,by omega,_,H,rfl,h3⟩
 refine TZ (T4 (Za [4] ?_))
 cases H
 exact T3 (jR0 h1 [0,0])

def Q97.f (k:Nat) (a0:Tw) (a2:Tr) (a3:Tx):Option (Bool):=(Q103.f k a0 a2 a3).bind fun r1=>(some (decide (0≤r1)))
theorem Q97.spec {k a0 a2 a3 A1 c_1 b1 b2 r} (H:Q97.f k a0 a2 a3=some r) :
  Spec Tryz.prog 199 [.slice A1 a0.length c_1,.func (.func 200) #[] #[.pointer (some ⟨b1,0,none⟩),.pointer (some ⟨b2,0,none⟩)]] [X23 b1 a2.1 a2.2.1 a2.2.2.1 a2.2.2.2.1 a2.2.2.2.2.1 a2.2.2.2.2.2.1 a2.2.2.2.2.2.2.1 a2.2.2.2.2.2.2.2,X92 b2 a3.1 a3.2.1 a3.2.2] [Y3 a0 A1 c_1] (fun v l=>v=.bool r∧l=[X23 b1 a2.1 a2.2.1 a2.2.2.1 a2.2.2.2.1 a2.2.2.2.2.1 a2.2.2.2.2.2.1 a2.2.2.2.2.2.2.1 a2.2.2.2.2.2.2.2,X92 b2 a3.1 a3.2.1 a3.2.2]):=by
 refine Zi Tryz.func199 fun w0 F0 h0=>?_
 unfold Q97.f at H
 refine T4 (Za [0,1] ?_)
 refine T4 (T2 ?_)
 refine Zd 2 ?_
 refine cS H [0,0] h0 rfl Q103.spec (gS [0]) fun r1 w1 H h1=>?_
 refine Ze [4] rfl ?_
 cases H
 exact T3 (jR0 h1 [0,0])

def Q70.f (k:Nat) (a0:Tr) (a1:Tx) (a2:Tp):Option (Bool):=if (decide (0<(w64 ((w64 ((a2.2.1.length:Int)+(a2.2.2.1.length:Int)))+(a2.2.2.2.1.length:Int)))))=true then (some false) else (if (decide (a0.2.2.2.2.2.1<(a2.2.2.2.2.length:Int)))=true then (some false) else ((Q60.f k a2.2.2.2.2).bind fun r1=>(if (!r1)=true then (some false) else ((Q97.f k a2.2.2.2.2 a0 a1).bind fun r2=>(some (!r2))))))
theorem Q70.spec {k a0 a1 a2 A1 c_1 A2 c_2 A3 c_3 A4 c_4 r} (H:Q70.f k a0 a1 a2=some r) :
  Spec Tryz.prog 165 [.agg #[.int .i64 a0.1,.int .i64 a0.2.1,.int .i64 a0.2.2.1,.int .i64 a0.2.2.2.1,.int .i64 a0.2.2.2.2.1,.int .i64 a0.2.2.2.2.2.1,.int .i64 a0.2.2.2.2.2.2.1,.int .i64 a0.2.2.2.2.2.2.2],.agg #[.string ⟨⟨a1.1⟩⟩,.string ⟨⟨a1.2.1⟩⟩,.bool a1.2.2],.agg #[.int .i64 a2.1,.slice A1 a2.2.1.length c_1,.slice A2 a2.2.2.1.length c_2,.slice A3 a2.2.2.2.1.length c_3,.slice A4 a2.2.2.2.2.length c_4]] [] [R33 a2.2.1 A1 c_1,R9 a2.2.2.1 A2 c_2,Y5 a2.2.2.2.1 A3 c_3,Y3 a2.2.2.2.2 A4 c_4] (fun v l=>v=.bool r∧l=[]):=by
 refine Zi Tryz.func165 fun w0 F0 h0=>?_
 unfold Q70.f at H
 refine T4 (T2 ?_)
 refine rB (Z4 h0) fun b1 w1 h1=>?_
 refine rB (Z4 h1) fun b2 w2 h2=>?_
 refine rB (Z4 h2) fun b3 w3 h3=>?_
 refine Ze [3,4,5] rfl ?_
 refine T4 (T4 (T2 ?_))
 refine Zd 1 ?_
 refine Zc (Zb 0 h3.wht) ?_
 refine Zd 2 ?_
 refine Zc (Zb 0 h3.wht) ?_
 refine Zd 3 ?_
 refine Zc (Zb 0 h3.wht) ?_
 refine Zd 4 ?_
 refine Z7 19 H (fun c1 H=>?_) fun c1 H=>?_
 ·refine Ze [3,4,5,32] rfl ?_
  refine Zn ?_
  refine T4 (Za [6] ?_)
  have h4:=sO h3 []
  replace h4:=nf h4
  cases H
  exact T3 (jR0 h4 [])
 refine Zd 1 ?_
 refine Zc (Zb 0 h3.wht) ?_
 refine Zd 2 ?_
 refine Zc (Zb 2 h3.wht) ?_
 refine Zd 3 ?_
 refine Z7 27 H (fun c2 H=>?_) fun c2 H=>?_
 ·refine Ze [3,4,5,32] rfl ?_
  refine Zn ?_
  refine T4 (Za [6] ?_)
  have h5:=sO h3 []
  replace h5:=nf h5
  cases H
  exact T3 (jR0 h5 [])
 refine Zd 1 ?_
 refine Zc (Zb 0 h3.wht) ?_
 refine cS H [] h3 rfl Q60.spec (gS [6]) fun r1 w4 H h6=>?_
 refine Ze [3,4,5,32] rfl ?_
 refine jIf H (fun c3 H=>?_) fun c3 H=>?_
 ·refine T4 (Za [6] ?_)
  have h7:=sO h6 []
  replace h7:=nf h7
  cases H
  exact T3 (jR0 h7 [])
 refine T5 (T4 (T2 ?_))
 refine Zd 1 ?_
 refine Zc (Zb 0 h6.wht) ?_
 refine Zd 1 ?_
 refine cS H [2,1] h6 rfl Q97.spec (gS [4]) fun r2 w5 H h8=>?_
 refine Ze [6] rfl ?_
 have h9:=sO h8 []
 replace h9:=nf h9
 cases H
 exact T3 (jR0 h9 [])

def Q94.f (a0:TU):Option TU:=if (([]:List Int).length+a0.length)*4≤140737488355328 then (some (([]:List Int) ++ a0)) else none
theorem Q94.spec {a0 A1 c_1 r} (H:Q94.f a0=some r) :
  Spec Tryz.prog 227 [.slice A1 a0.length c_1] [] [R33 a0 A1 c_1] (fun v l=>∃ A_0 c_0,v=.slice A_0 r.length c_0∧l=[O33 r A_0 c_0]):=by
 refine Zi Tryz.func227 fun w0 F0 h0=>?_
 unfold Q94.f at H
 refine T4 (Za [0] ?_)
 refine T4 (T4 (Za [0,4] ?_))
 refine Zc1 (fun c1=>?_) (fun c1=>?_)
 ·have e1:=h0.nilrow (Zk 0) (by simpa using c1)
  replace H:(some ([]:List Int))=some r:=by rw [e1] at H; simpa using H
  refine T4 (Za [2] ?_)
  have h1:=h0.addNil 33 (.int .u32)
  cases H
  exact T3 (jR ⟨_,_,rfl,rfl⟩ h1 [0])
 refine T5 (T4 (T2 ?_))
 refine rB (Y6 (.int .u32) ([]:List Int) h0) fun b1 w1 h2=>?_
 refine Zd 1 ?_
 obtain ⟨p1,H⟩:=Zl H
 refine Zv (Yq 0 h2 (Zk 0) p1) ?_
 rintro _ w2 ⟨A2,c_2,rfl,h3⟩
 replace h3:=nf h3
 refine Ze [2] rfl ?_
 cases H
 exact T3 (jR ⟨_,_,rfl,rfl⟩ h3 [0])

def tb0:List UInt8:=[0,1,2,2,3,3,3,3,4,4,4,4,4,4,4,4,5,5,5,5,5,5,5,5,5,5,5,5,5,5,5,5,6,6,6,6,6,6,6,6,6,6,6,6,6,6,6,6,6,6,6,6,6,6,6,6,6,6,6,6,6,6,6,6,7,7,7,7,7,7,7,7,7,7,7,7,7,7,7,7,7,7,7,7,7,7,7,7,7,7,7,7,7,7,7,7,7,7,7,7,7,7,7,7,7,7,7,7,7,7,7,7,7,7,7,7,7,7,7,7,7,7,7,7,7,7,7,7,8,8,8,8,8,8,8,8,8,8,8,8,8,8,8,8,8,8,8,8,8,8,8,8,8,8,8,8,8,8,8,8,8,8,8,8,8,8,8,8,8,8,8,8,8,8,8,8,8,8,8,8,8,8,8,8,8,8,8,8,8,8,8,8,8,8,8,8,8,8,8,8,8,8,8,8,8,8,8,8,8,8,8,8,8,8,8,8,8,8,8,8,8,8,8,8,8,8,8,8,8,8,8,8,8,8,8,8,8,8,8,8,8,8,8,8,8,8,8,8,8,8,8,8,8,8,8,8]
def Q1.f (a0:Int):Option (Int):=if (decide (4294967296≤a0))=true then (if (decide (65536≤(Int.fdiv a0 (2 ^ 32))))=true then (if (decide (256≤(Int.fdiv (Int.fdiv a0 (2 ^ 32)) (2 ^ 16))))=true then (if 0≤(IntKind.u8.wrap ((Int.fdiv (Int.fdiv (Int.fdiv a0 (2 ^ 32)) (2 ^ 16)) (2 ^ 8))))∧(IntKind.u8.wrap ((Int.fdiv (Int.fdiv (Int.fdiv a0 (2 ^ 32)) (2 ^ 16)) (2 ^ 8))))<(tb0.length:Int) then (some (w64 (56+(w64 ((gtb tb0 (IntKind.u8.wrap ((Int.fdiv (Int.fdiv (Int.fdiv a0 (2 ^ 32)) (2 ^ 16)) (2 ^ 8)))))))))) else none) else (if 0≤(IntKind.u8.wrap ((Int.fdiv (Int.fdiv a0 (2 ^ 32)) (2 ^ 16))))∧(IntKind.u8.wrap ((Int.fdiv (Int.fdiv a0 (2 ^ 32)) (2 ^ 16))))<(tb0.length:Int) then (some (w64 (48+(w64 ((gtb tb0 (IntKind.u8.wrap ((Int.fdiv (Int.fdiv a0 (2 ^ 32)) (2 ^ 16)))))))))) else none)) else (if (decide (256≤(Int.fdiv a0 (2 ^ 32))))=true then (if 0≤(IntKind.u8.wrap ((Int.fdiv (Int.fdiv a0 (2 ^ 32)) (2 ^ 8))))∧(IntKind.u8.wrap ((Int.fdiv (Int.fdiv a0 (2 ^ 32)) (2 ^ 8))))<(tb0.length:Int) then (some (w64 (40+(w64 ((gtb tb0 (IntKind.u8.wrap ((Int.fdiv (Int.fdiv a0 (2 ^ 32)) (2 ^ 8)))))))))) else none) else (if 0≤(IntKind.u8.wrap ((Int.fdiv a0 (2 ^ 32))))∧(IntKind.u8.wrap ((Int.fdiv a0 (2 ^ 32))))<(tb0.length:Int) then (some (w64 (32+(w64 ((gtb tb0 (IntKind.u8.wrap ((Int.fdiv a0 (2 ^ 32)))))))))) else none))) else (if (decide (65536≤a0))=true then (if (decide (256≤(Int.fdiv a0 (2 ^ 16))))=true then (if 0≤(IntKind.u8.wrap ((Int.fdiv (Int.fdiv a0 (2 ^ 16)) (2 ^ 8))))∧(IntKind.u8.wrap ((Int.fdiv (Int.fdiv a0 (2 ^ 16)) (2 ^ 8))))<(tb0.length:Int) then (some (w64 (24+(w64 ((gtb tb0 (IntKind.u8.wrap ((Int.fdiv (Int.fdiv a0 (2 ^ 16)) (2 ^ 8)))))))))) else none) else (if 0≤(IntKind.u8.wrap ((Int.fdiv a0 (2 ^ 16))))∧(IntKind.u8.wrap ((Int.fdiv a0 (2 ^ 16))))<(tb0.length:Int) then (some (w64 (16+(w64 ((gtb tb0 (IntKind.u8.wrap ((Int.fdiv a0 (2 ^ 16)))))))))) else none)) else (if (decide (256≤a0))=true then (if 0≤(IntKind.u8.wrap ((Int.fdiv a0 (2 ^ 8))))∧(IntKind.u8.wrap ((Int.fdiv a0 (2 ^ 8))))<(tb0.length:Int) then (some (w64 (8+(w64 ((gtb tb0 (IntKind.u8.wrap ((Int.fdiv a0 (2 ^ 8)))))))))) else none) else (if 0≤(IntKind.u8.wrap (a0))∧(IntKind.u8.wrap (a0))<(tb0.length:Int) then (some (w64 (0+(w64 ((gtb tb0 (IntKind.u8.wrap (a0)))))))) else none)))
theorem Q1.spec {a0 r} (H:Q1.f a0=some r) :
  Spec Tryz.prog 244 [.int .u64 a0] [] [] (fun v l=>v=.int .i64 r∧l=[]):=by
 refine Zi Tryz.func244 fun w0 F0 h0=>?_
 unfold Q1.f at H
 refine T4 (Za [0,2] ?_)
 refine T4 (T4 (Za [0,2,4] ?_))
 refine jIf H (fun c1 H=>?_) fun c1 H=>?_
 ·refine T4 (Za [0] ?_)
  refine Za [0,2] ?_
  refine T4 (T4 (Za [0,2,8] ?_))
  refine jIf H (fun c2 H=>?_) fun c2 H=>?_
  ·refine T4 (Za [0,2] ?_)
   refine Za [0,2] ?_
   refine T4 (T4 (Za [0,2,14] ?_))
   refine jIf H (fun c3 H=>?_) fun c3 H=>?_
   ·refine T4 (Za [0,2] ?_)
    refine Za [0,2] ?_
    refine T4 (T2 ?_)
    refine Zd 3 ?_
    obtain ⟨⟨p1,p2⟩,H⟩:=Zl H
    refine Zc (Xl p1 p2) ?_
    refine Ze [2] rfl ?_
    cases H
    exact T3 (jR0 h0 [])
   refine T5 (T4 (T2 ?_))
   refine Zd 3 ?_
   obtain ⟨⟨p3,p4⟩,H⟩:=Zl H
   refine Zc (Xl p3 p4) ?_
   refine Ze [2] rfl ?_
   cases H
   exact T3 (jR0 h0 [])
  refine T5 (T4 (T4 (Za [0,2,14] ?_)))
  refine jIf H (fun c4 H=>?_) fun c4 H=>?_
  ·refine T4 (Za [0,2] ?_)
   refine Za [0,2] ?_
   refine T4 (T2 ?_)
   refine Zd 3 ?_
   obtain ⟨⟨p5,p6⟩,H⟩:=Zl H
   refine Zc (Xl p5 p6) ?_
   refine Ze [2] rfl ?_
   cases H
   exact T3 (jR0 h0 [])
  refine T5 (T4 (T2 ?_))
  refine Zd 3 ?_
  obtain ⟨⟨p7,p8⟩,H⟩:=Zl H
  refine Zc (Xl p7 p8) ?_
  refine Ze [2] rfl ?_
  cases H
  exact T3 (jR0 h0 [])
 refine T5 (T4 (T4 (Za [0,2,8] ?_)))
 refine jIf H (fun c5 H=>?_) fun c5 H=>?_
 ·refine T4 (Za [0,2] ?_)
  refine Za [0,2] ?_
  refine T4 (T4 (Za [0,2,14] ?_))
  refine jIf H (fun c6 H=>?_) fun c6 H=>?_
  ·refine T4 (Za [0,2] ?_)
   refine Za [0,2] ?_
   refine T4 (T2 ?_)
   refine Zd 3 ?_
   obtain ⟨⟨p9,p10⟩,H⟩:=Zl H
   refine Zc (Xl p9 p10) ?_
   refine Ze [2] rfl ?_
   cases H
   exact T3 (jR0 h0 [])
  refine T5 (T4 (T2 ?_))
  refine Zd 3 ?_
  obtain ⟨⟨p11,p12⟩,H⟩:=Zl H
  refine Zc (Xl p11 p12) ?_
  refine Ze [2] rfl ?_
  cases H
  exact T3 (jR0 h0 [])
 refine T5 (T4 (T4 (Za [0,2,14] ?_)))
 refine jIf H (fun c7 H=>?_) fun c7 H=>?_
 ·refine T4 (Za [0,2] ?_)
  refine Za [0,2] ?_
  refine T4 (T2 ?_)
  refine Zd 3 ?_
  obtain ⟨⟨p13,p14⟩,H⟩:=Zl H
  refine Zc (Xl p13 p14) ?_
  refine Ze [2] rfl ?_
  cases H
  exact T3 (jR0 h0 [])
 refine T5 (T4 (T2 ?_))
 refine Zd 3 ?_
 obtain ⟨⟨p15,p16⟩,H⟩:=Zl H
 refine Zc (Xl p15 p16) ?_
 refine Ze [2] rfl ?_
 cases H
 exact T3 (jR0 h0 [])

def Q0.f (a0:Int):Option (Int):=(Q1.f a0).bind fun r1=>(some r1)
theorem Q0.spec {a0 r} (H:Q0.f a0=some r) :
  Spec Tryz.prog 225 [.int .u64 a0] [] [] (fun v l=>v=.int .i64 r∧l=[]):=by
 refine Zi Tryz.func225 fun w0 F0 h0=>?_
 unfold Q0.f at H
 refine T4 (Za [0] ?_)
 refine T4 (Z5 ?_)
 refine T5 (T4 (T2 ?_))
 refine Zd 1 ?_
 refine cS H [] h0 rfl Q1.spec Zp fun r1 w1 H h1=>?_
 refine Ze [2] rfl ?_
 cases H
 exact T3 (jR0 h1 [])

def Q36.f (a0:Int):Option (Bool):=some (!decide (a0=a0))
theorem Q36.spec {a0 r} (H:Q36.f a0=some r) :
  Spec Tryz.prog 252 [.int .u32 a0] [] [] (fun v l=>v=.bool r∧l=[]):=by
 refine Zi Tryz.func252 fun w0 F0 h0=>?_
 unfold Q36.f at H
 refine T4 (Za [0] ?_)
 refine T4 (Za [2] ?_)
 cases H
 exact T3 (jR0 h0 [])

def Q35.f (a0:Int) (a1:Int):Option (Bool):=(Q36.f a0).bind fun r1=>(if r1=true then ((Q36.f a1).bind fun r2=>(if (!r2)=true then (some true) else (some (decide (a0<a1))))) else (some (decide (a0<a1))))
theorem Q35.spec {a0 a1 r} (H:Q35.f a0 a1=some r) :
  Spec Tryz.prog 240 [.int .u32 a0,.int .u32 a1] [] [] (fun v l=>v=.bool r∧l=[]):=by
 refine Zi Tryz.func240 fun w0 F0 h0=>?_
 unfold Q35.f at H
 refine T4 (Za [0,1] ?_)
 refine T4 (T2 ?_)
 refine Zd 1 ?_
 refine cS H [] h0 rfl Q36.spec Zp fun r1 w1 H h1=>?_
 refine Zd 1 ?_
 refine Z7 7 H (fun c1 H=>?_) fun c1 H=>?_
 ·refine Zd 1 ?_
  refine cS H [] h1 rfl Q36.spec Zp fun r2 w2 H h2=>?_
  refine Zd 3 ?_
  refine Z7 12 H (fun c2 H=>?_) fun c2 H=>?_
  ·refine Ze [4] rfl ?_
   cases H
   exact T3 (jR0 h2 [])
  refine Ze [4] rfl ?_
  cases H
  exact T3 (jR0 h2 [])
 refine Ze [4] rfl ?_
 cases H
 exact T3 (jR0 h1 [])

mutual
def Q111.l0:Nat→Int→Int→TU→Int→Option TU
 | 0,_,_,_,_=>none
 | k+1,a1,a2,x1,x2=>if (decide (x2<a2))=true then (Q111.l1 k a1 a2 x2 x1 x2) else (some x1)
def Q111.l1:Nat→Int→Int→Int→TU→Int→Option TU
 | 0,_,_,_,_,_=>none
 | k+1,a1,a2,x2,x3,x4=>if (decide (a1<x4))=true then (if 0≤x4∧x4<(x3.length:Int) then (if 0≤(w64 (x4 - 1))∧(w64 (x4 - 1))<(x3.length:Int) then ((Q35.f (gt x3 x4) (gt x3 (w64 (x4 - 1)))).bind fun r1=>(if r1=true then (Q111.l1 k a1 a2 x2 ((x3.set x4.toNat (gt x3 (w64 (x4 - 1)))).set (w64 (x4 - 1)).toNat (gt x3 x4)) (w64 (x4 - 1))) else (Q111.l0 k a1 a2 x3 (w64 (x2+1))))) else none) else none) else (Q111.l0 k a1 a2 x3 (w64 (x2+1)))
end
def Q111.f (k:Nat) (a0:TU) (a1:Int) (a2:Int):Option TU:=Q111.l0 k a1 a2 a0 (w64 (a1+1))
theorem Q111.spec {k a0 a1 a2 A1 c_1 r} (H:Q111.f k a0 a1 a2=some r) :
  Spec Tryz.prog 234 [.slice A1 a0.length c_1,.int .i64 a1,.int .i64 a2] [O33 a0 A1 c_1] [] (fun v l=>v=.tuple #[]∧l=[O33 r A1 c_1]∧r.length=a0.length):=by
 refine Zi Tryz.func234 fun w0 F0 h0=>?_
 unfold Q111.f at H
 refine T4 (Za [0,1,2,6] ?_)
 refine TW ?_
 have h17:=(sOR h0 [0] [])
 refine T0 (fun kk env w=>∃ x1 x2,Q111.l0 kk a1 a2 x1 x2=some r∧env=[(0,.slice A1 x1.length c_1),(1,.int .i64 a1),(2,.int .i64 a2),(6,.int .i64 x2)]∧St w0 F0 [O33 x1 A1 c_1] [] w∧x1.length=a0.length) (k:=k) ⟨_,_,H,rfl,h17,(rfl:a0.length=a0.length)⟩ ?_
 rintro k1 env w1 ⟨x1,x2,H,rfl,h1,e1⟩
 rcases k1 with _ | k1
 ·exact z0 H
 rw [Q111.l0] at H
 refine T4 (T4 (Za [0,1,2,6,12] ?_))
 refine jIf H (fun c1 H=>?_) fun c1 H=>?_
 ·refine T5 (T4 (TW (T4 (Za [0,1,2,6,7] ?_))))
  refine TW ?_
  have h16:=(sOR h1 [0] [])
  refine T0 (fun kk env w=>∃ x3 x4,Q111.l1 kk a1 a2 x2 x3 x4=some r∧env=[(0,.slice A1 x3.length c_1),(1,.int .i64 a1),(2,.int .i64 a2),(6,.int .i64 x2),(7,.int .i64 x4)]∧St w0 F0 [O33 x3 A1 c_1] [] w∧kk≤k1∧x3.length=a0.length) (k:=k1) ⟨_,_,H,rfl,h16,T6 _,e1⟩ ?_
  rintro k2 env w2 ⟨x3,x4,H,rfl,h2,hk2,e2⟩
  rcases k2 with _ | k2
  ·exact z0 H
  rw [Q111.l1] at H
  refine T4 (T4 ?_)
  refine jH h2 fun h3=>?_
  refine Zo [0,1,2,3] ?_
  refine X1 19 H (fun c2 H=>?_) fun c2 H=>?_
  ·refine Zo [4,5,8,9,10] ?_
   obtain ⟨⟨p1,p2⟩,H⟩:=Zl H
   have e3:=Zx h3.wh (gO 0) p1 p2
   refine Zf 6 rfl (Zg e3 p1 p2) ?_
   refine Zf 7 rfl (Zh 0 wI (gO 0) p1 p2) ?_
   obtain ⟨⟨p3,p4⟩,H⟩:=Zl H
   refine Zf 11 rfl (Zg e3 p3 p4) ?_
   refine Zf 12 rfl (Zh 0 wI (gO 0) p3 p4) ?_
   refine cSJ 13 rfl H [] h3 rfl Q35.spec Zp 0 fun r1 w3 H h4=>?_
   refine Zo [14] ?_
   refine Zt [0,1,2,6,7,30] ?_
   refine jIf H (fun c3 H=>?_) fun c3 H=>?_
   ·refine T5 (T4 (TW ?_))
    refine J.mid (fun env w=>env=[(0,.slice A1 ((x3.set x4.toNat (gt x3 (w64 (x4 - 1)))).set (w64 (x4 - 1)).toNat (gt x3 x4)).length c_1),(1,.int .i64 a1),(2,.int .i64 a2),(6,.int .i64 x2),(7,.int .i64 x4)]∧St w0 F0 [O33 ((x3.set x4.toNat (gt x3 (w64 (x4 - 1)))).set (w64 (x4 - 1)).toNat (gt x3 x4)) A1 c_1] [] w) ?_ ?_
    ·refine Zw (sO h4 []) ?_
     have h7:=h4.drew
     refine Zo [0,1,2,3,4,5,6,7,10,11] ?_
     refine Zf 8 rfl (Zg e3 p3 p4) ?_
     refine Zf 12 rfl (Zg e3 p1 p2) ?_
     refine TV [9,13] (i:=9) rfl rfl rfl rfl ?_
     refine (Yb ?_ (Yb ?_ Xg))
     ·refine hQS 9 rfl (Zh 0 h7.wht (gO 0) p3 p4) h7 1 fun h7=>?_
      refine hQ 13 rfl (Zh 0 h7.wht (gO 0) p1 p2) h7 1 fun h7=>?_
      refine Zf 14 rfl (Zg e3 p1 p2) ?_
      refine hS 15 rfl (Zm 0 (.int .u32) x4 (gt x3 (w64 (x4 - 1))) 0 h7 rfl p1 p2) 1 fun _ w6 h8=>?_
      have e6:(x3.set x4.toNat (gt x3 (w64 (x4 - 1)))).length=a0.length:=List.length_set.trans e2
      refine Zf 16 rfl (Zg e3 p3 p4) ?_
      refine hS 17 rfl (Zm 0 (.int .u32) (w64 (x4 - 1)) (gt x3 x4) 0 h8 rfl p3 (by simpa only [List.length_set] using p4)) 1 fun _ w7 h9=>?_
      have e7:((x3.set x4.toNat (gt x3 (w64 (x4 - 1)))).set (w64 (x4 - 1)).toNat (gt x3 x4)).length=a0.length:=List.length_set.trans e6
      refine Zt [0,1,2,6,7] ?_
      exact Zu ⟨(by simp only [List.length_set,List.length_nil] <;> rfl),((h9.only [0] rfl).rds [] rfl)⟩
     ·refine hQS 13 rfl (Zh 0 h7.wht (gO 0) p1 p2) h7 1 fun h7=>?_
      refine hQ 9 rfl (Zh 0 h7.wht (gO 0) p3 p4) h7 1 fun h7=>?_
      refine Zf 14 rfl (Zg e3 p1 p2) ?_
      refine hS 15 rfl (Zm 0 (.int .u32) x4 (gt x3 (w64 (x4 - 1))) 0 h7 rfl p1 p2) 1 fun _ w8 h10=>?_
      have e8:(x3.set x4.toNat (gt x3 (w64 (x4 - 1)))).length=a0.length:=List.length_set.trans e2
      refine Zf 16 rfl (Zg e3 p3 p4) ?_
      refine hS 17 rfl (Zm 0 (.int .u32) (w64 (x4 - 1)) (gt x3 x4) 0 h10 rfl p3 (by simpa only [List.length_set] using p4)) 1 fun _ w9 h11=>?_
      have e9:((x3.set x4.toNat (gt x3 (w64 (x4 - 1)))).set (w64 (x4 - 1)).toNat (gt x3 x4)).length=a0.length:=List.length_set.trans e8
      refine Zt [0,1,2,6,7] ?_
      exact Zu ⟨(by simp only [List.length_set,List.length_nil] <;> rfl),((h11.only [0] rfl).rds [] rfl)⟩
    rintro env w10 ⟨rfl,h12⟩
    have e10:((x3.set x4.toNat (gt x3 (w64 (x4 - 1)))).set (w64 (x4 - 1)).toNat (gt x3 x4)).length=a0.length:=by first | (simp only [List.length_set]; done) | (simp only [List.length_set]; exact e2)
    refine Za [0,1,2,6,7] ?_
    have h13:=(sOR h12 [0] [])
    exact ⟨k2,by omega,_,_,H,rfl,h13,by omega,e10⟩
   refine TZ (Za [0,1,2,6] ?_)
   have h14:=(sOR h4 [0] [])
   exact ⟨k2,by omega,_,_,H,rfl,h14,e2⟩
  refine Zo [4,5,6,7,8,9,10,11,12,13,14] ?_
  refine Zt [0,1,2,6,7,30] ?_
  refine Z5 ?_
  refine TZ (Za [0,1,2,6] ?_)
  have h15:=(sOR h3 [0] [])
  exact ⟨k2,by omega,_,_,H,rfl,h15,e2⟩
 refine TZ ?_
 cases H
 exact ⟨_,_,_,Zj,⟨rfl,rfl,e1⟩,sO h1 [0]⟩

def Q121.l0:Nat→Int→Int→TU→Int→Option TU
 | 0,_,_,_,_=>none
 | k+1,a2,a3,x1,x2=>if (decide (a2≤(w64 ((w64 (2*x2))+1))))=true then (some x1) else (if (decide ((w64 ((w64 ((w64 (2*x2))+1))+1))<a2))=true then (if 0≤(w64 (a3+(w64 ((w64 (2*x2))+1))))∧(w64 (a3+(w64 ((w64 (2*x2))+1))))<(x1.length:Int) then (if 0≤(w64 ((w64 (a3+(w64 ((w64 (2*x2))+1))))+1))∧(w64 ((w64 (a3+(w64 ((w64 (2*x2))+1))))+1))<(x1.length:Int) then ((Q35.f (gt x1 (w64 (a3+(w64 ((w64 (2*x2))+1))))) (gt x1 (w64 ((w64 (a3+(w64 ((w64 (2*x2))+1))))+1)))).bind fun r1=>(if r1=true then (if 0≤(w64 (a3+x2))∧(w64 (a3+x2))<(x1.length:Int) then (if 0≤(w64 (a3+(w64 ((w64 ((w64 (2*x2))+1))+1))))∧(w64 (a3+(w64 ((w64 ((w64 (2*x2))+1))+1))))<(x1.length:Int) then ((Q35.f (gt x1 (w64 (a3+x2))) (gt x1 (w64 (a3+(w64 ((w64 ((w64 (2*x2))+1))+1)))))).bind fun r2=>(if (!r2)=true then (some x1) else (Q121.l0 k a2 a3 ((x1.set (w64 (a3+x2)).toNat (gt x1 (w64 (a3+(w64 ((w64 ((w64 (2*x2))+1))+1)))))).set (w64 (a3+(w64 ((w64 ((w64 (2*x2))+1))+1)))).toNat (gt x1 (w64 (a3+x2)))) (w64 ((w64 ((w64 (2*x2))+1))+1))))) else none) else none) else (if 0≤(w64 (a3+x2))∧(w64 (a3+x2))<(x1.length:Int) then ((Q35.f (gt x1 (w64 (a3+x2))) (gt x1 (w64 (a3+(w64 ((w64 (2*x2))+1)))))).bind fun r3=>(if (!r3)=true then (some x1) else (Q121.l0 k a2 a3 ((x1.set (w64 (a3+x2)).toNat (gt x1 (w64 (a3+(w64 ((w64 (2*x2))+1)))))).set (w64 (a3+(w64 ((w64 (2*x2))+1)))).toNat (gt x1 (w64 (a3+x2)))) (w64 ((w64 (2*x2))+1))))) else none))) else none) else none) else (if 0≤(w64 (a3+x2))∧(w64 (a3+x2))<(x1.length:Int) then (if 0≤(w64 (a3+(w64 ((w64 (2*x2))+1))))∧(w64 (a3+(w64 ((w64 (2*x2))+1))))<(x1.length:Int) then ((Q35.f (gt x1 (w64 (a3+x2))) (gt x1 (w64 (a3+(w64 ((w64 (2*x2))+1)))))).bind fun r4=>(if (!r4)=true then (some x1) else (Q121.l0 k a2 a3 ((x1.set (w64 (a3+x2)).toNat (gt x1 (w64 (a3+(w64 ((w64 (2*x2))+1)))))).set (w64 (a3+(w64 ((w64 (2*x2))+1)))).toNat (gt x1 (w64 (a3+x2)))) (w64 ((w64 (2*x2))+1))))) else none) else none))
def Q121.f (k:Nat) (a0:TU) (a1:Int) (a2:Int) (a3:Int):Option TU:=Q121.l0 k a2 a3 a0 a1
theorem Q121.spec {k a0 a1 a2 a3 A1 c_1 r} (H:Q121.f k a0 a1 a2 a3=some r) :
  Spec Tryz.prog 247 [.slice A1 a0.length c_1,.int .i64 a1,.int .i64 a2,.int .i64 a3] [O33 a0 A1 c_1] [] (fun v l=>v=.tuple #[]∧l=[O33 r A1 c_1]∧r.length=a0.length):=by
 refine Zi Tryz.func247 fun w0 F0 h0=>?_
 unfold Q121.f at H
 refine T4 (Za [0,2,3,8] ?_)
 refine TW ?_
 have h37:=(sOR h0 [0] [])
 refine T0 (fun kk env w=>∃ x1 x2,Q121.l0 kk a2 a3 x1 x2=some r∧env=[(0,.slice A1 x1.length c_1),(2,.int .i64 a2),(3,.int .i64 a3),(8,.int .i64 x2)]∧St w0 F0 [O33 x1 A1 c_1] [] w∧x1.length=a0.length) (k:=k) ⟨_,_,H,rfl,h37,(rfl:a0.length=a0.length)⟩ ?_
 rintro k1 env w1 ⟨x1,x2,H,rfl,h1,e1⟩
 rcases k1 with _ | k1
 ·exact z0 H
 rw [Q121.l0] at H
 refine TW (T4 (Za [0,2,3,8,9] ?_))
 refine T4 (T4 (Za [0,2,3,8,9,16] ?_))
 refine jIf H (fun c1 H=>?_) fun c1 H=>?_
 ·refine TZ ?_
  cases H
  exact ⟨_,_,_,Zj,⟨rfl,rfl,e1⟩,sO h1 [0]⟩
 refine T5 (T4 (T4 ?_))
 refine jH h1 fun h2=>?_
 refine Zo [0,1,2,3,4] ?_
 refine X1 21 H (fun c2 H=>?_) fun c2 H=>?_
 ·refine Zo [5,6,7,8,11,12,13,14,15] ?_
  obtain ⟨⟨p1,p2⟩,H⟩:=Zl H
  have e2:=Zx h2.wh (gO 0) p1 p2
  refine Zf 9 rfl (Zg e2 p1 p2) ?_
  refine Zf 10 rfl (Zh 0 wI (gO 0) p1 p2) ?_
  obtain ⟨⟨p3,p4⟩,H⟩:=Zl H
  refine Zf 16 rfl (Zg e2 p3 p4) ?_
  refine Zf 17 rfl (Zh 0 wI (gO 0) p3 p4) ?_
  refine cSJ 18 rfl H [] h2 rfl Q35.spec Zp 0 fun r1 w2 H h3=>?_
  refine Zo [19] ?_
  refine Zt [0,2,3,8,9,36] ?_
  refine jIf H (fun c3 H=>?_) fun c3 H=>?_
  ·refine Za [0,2,3,8,9] ?_
   refine T4 (T4 ?_)
   refine jH h3 fun h4=>?_
   refine Zo [0,1,2,3,6,7,8,9] ?_
   obtain ⟨⟨p5,p6⟩,H⟩:=Zl H
   refine Zf 4 rfl (Zg e2 p5 p6) ?_
   refine Zf 5 rfl (Zh 0 wI (gO 0) p5 p6) ?_
   obtain ⟨⟨p7,p8⟩,H⟩:=Zl H
   refine Zf 10 rfl (Zg e2 p7 p8) ?_
   refine Zf 11 rfl (Zh 0 wI (gO 0) p7 p8) ?_
   refine cSJ 12 rfl H [] h4 rfl Q35.spec Zp 0 fun r2 w3 H h5=>?_
   refine Zo [13] ?_
   refine Zt [0,2,3,8,9,52] ?_
   refine jIf H (fun c4 H=>?_) fun c4 H=>?_
   ·cases H
    exact T3 (jR ⟨rfl,rfl,e1⟩ h5 [0])
   refine T5 (T4 (T1 (fun env w=>env=[(0,.slice A1 ((x1.set (w64 (a3+x2)).toNat (gt x1 (w64 (a3+(w64 ((w64 ((w64 (2*x2))+1))+1)))))).set (w64 (a3+(w64 ((w64 ((w64 (2*x2))+1))+1)))).toNat (gt x1 (w64 (a3+x2)))).length c_1),(2,.int .i64 a2),(3,.int .i64 a3),(9,.int .i64 (w64 ((w64 ((w64 (2*x2))+1))+1)))]∧St w0 F0 [O33 ((x1.set (w64 (a3+x2)).toNat (gt x1 (w64 (a3+(w64 ((w64 ((w64 (2*x2))+1))+1)))))).set (w64 (a3+(w64 ((w64 ((w64 (2*x2))+1))+1)))).toNat (gt x1 (w64 (a3+x2)))) A1 c_1] [] w) ?_ ?_))
   ·refine Zw (sO h5 []) ?_
    have h8:=h5.drew
    refine Zo [0,1,2,3,4,5,6,7,8,9,10,11,14,15,16,17] ?_
    refine Zf 12 rfl (Zg e2 p7 p8) ?_
    refine Zf 18 rfl (Zg e2 p5 p6) ?_
    refine TV [13,19] (i:=13) rfl rfl rfl rfl ?_
    refine (Yb ?_ (Yb ?_ Xg))
    ·refine hQS 13 rfl (Zh 0 h8.wht (gO 0) p7 p8) h8 1 fun h8=>?_
     refine hQ 19 rfl (Zh 0 h8.wht (gO 0) p5 p6) h8 1 fun h8=>?_
     refine Zf 20 rfl (Zg e2 p5 p6) ?_
     refine hS 21 rfl (Zm 0 (.int .u32) (w64 (a3+x2)) (gt x1 (w64 (a3+(w64 ((w64 ((w64 (2*x2))+1))+1))))) 0 h8 rfl p5 p6) 1 fun _ w6 h9=>?_
     have e5:(x1.set (w64 (a3+x2)).toNat (gt x1 (w64 (a3+(w64 ((w64 ((w64 (2*x2))+1))+1)))))).length=a0.length:=List.length_set.trans e1
     refine Zf 22 rfl (Zg e2 p7 p8) ?_
     refine hS 23 rfl (Zm 0 (.int .u32) (w64 (a3+(w64 ((w64 ((w64 (2*x2))+1))+1)))) (gt x1 (w64 (a3+x2))) 0 h9 rfl p7 (by simpa only [List.length_set] using p8)) 1 fun _ w7 h10=>?_
     have e6:((x1.set (w64 (a3+x2)).toNat (gt x1 (w64 (a3+(w64 ((w64 ((w64 (2*x2))+1))+1)))))).set (w64 (a3+(w64 ((w64 ((w64 (2*x2))+1))+1)))).toNat (gt x1 (w64 (a3+x2)))).length=a0.length:=List.length_set.trans e5
     refine Zt [0,2,3,9] ?_
     exact Zu ⟨(by simp only [List.length_set,List.length_nil] <;> rfl),((h10.only [0] rfl).rds [] rfl)⟩
    ·refine hQS 19 rfl (Zh 0 h8.wht (gO 0) p5 p6) h8 1 fun h8=>?_
     refine hQ 13 rfl (Zh 0 h8.wht (gO 0) p7 p8) h8 1 fun h8=>?_
     refine Zf 20 rfl (Zg e2 p5 p6) ?_
     refine hS 21 rfl (Zm 0 (.int .u32) (w64 (a3+x2)) (gt x1 (w64 (a3+(w64 ((w64 ((w64 (2*x2))+1))+1))))) 0 h8 rfl p5 p6) 1 fun _ w8 h11=>?_
     have e7:(x1.set (w64 (a3+x2)).toNat (gt x1 (w64 (a3+(w64 ((w64 ((w64 (2*x2))+1))+1)))))).length=a0.length:=List.length_set.trans e1
     refine Zf 22 rfl (Zg e2 p7 p8) ?_
     refine hS 23 rfl (Zm 0 (.int .u32) (w64 (a3+(w64 ((w64 ((w64 (2*x2))+1))+1)))) (gt x1 (w64 (a3+x2))) 0 h11 rfl p7 (by simpa only [List.length_set] using p8)) 1 fun _ w9 h12=>?_
     have e8:((x1.set (w64 (a3+x2)).toNat (gt x1 (w64 (a3+(w64 ((w64 ((w64 (2*x2))+1))+1)))))).set (w64 (a3+(w64 ((w64 ((w64 (2*x2))+1))+1)))).toNat (gt x1 (w64 (a3+x2)))).length=a0.length:=List.length_set.trans e7
     refine Zt [0,2,3,9] ?_
     exact Zu ⟨(by simp only [List.length_set,List.length_nil] <;> rfl),((h12.only [0] rfl).rds [] rfl)⟩
   rintro env w10 ⟨rfl,h13⟩
   have e9:((x1.set (w64 (a3+x2)).toNat (gt x1 (w64 (a3+(w64 ((w64 ((w64 (2*x2))+1))+1)))))).set (w64 (a3+(w64 ((w64 ((w64 (2*x2))+1))+1)))).toNat (gt x1 (w64 (a3+x2)))).length=a0.length:=by first | (simp only [List.length_set]; done) | (simp only [List.length_set]; exact e1)
   refine Za [0,2,3,8] ?_
   have h14:=(sOR h13 [0] [])
   exact ⟨k1,by omega,_,_,H,rfl,h14,e9⟩
  refine T5 (T4 (T4 ?_))
  refine jH h3 fun h15=>?_
  refine Zo [0,1,2,3,6,7,8,9] ?_
  obtain ⟨⟨p9,p10⟩,H⟩:=Zl H
  refine Zf 4 rfl (Zg e2 p9 p10) ?_
  refine Zf 5 rfl (Zh 0 wI (gO 0) p9 p10) ?_
  refine Zf 10 rfl (Zg e2 p1 p2) ?_
  refine Zf 11 rfl (Zh 0 wI (gO 0) p1 p2) ?_
  refine cSJ 12 rfl H [] h15 rfl Q35.spec Zp 0 fun r3 w11 H h16=>?_
  refine Zo [13] ?_
  refine Zt [0,2,3,8,9,52] ?_
  refine jIf H (fun c5 H=>?_) fun c5 H=>?_
  ·cases H
   exact T3 (jR ⟨rfl,rfl,e1⟩ h16 [0])
  refine T5 (T4 (T1 (fun env w=>env=[(0,.slice A1 ((x1.set (w64 (a3+x2)).toNat (gt x1 (w64 (a3+(w64 ((w64 (2*x2))+1)))))).set (w64 (a3+(w64 ((w64 (2*x2))+1)))).toNat (gt x1 (w64 (a3+x2)))).length c_1),(2,.int .i64 a2),(3,.int .i64 a3),(9,.int .i64 (w64 ((w64 (2*x2))+1)))]∧St w0 F0 [O33 ((x1.set (w64 (a3+x2)).toNat (gt x1 (w64 (a3+(w64 ((w64 (2*x2))+1)))))).set (w64 (a3+(w64 ((w64 (2*x2))+1)))).toNat (gt x1 (w64 (a3+x2)))) A1 c_1] [] w) ?_ ?_))
  ·refine Zw (sO h16 []) ?_
   have h19:=h16.drew
   refine Zo [0,1,2,3,4,5,6,7,8,9,10,11,14,15,16,17] ?_
   refine Zf 12 rfl (Zg e2 p1 p2) ?_
   refine Zf 18 rfl (Zg e2 p9 p10) ?_
   refine TV [13,19] (i:=13) rfl rfl rfl rfl ?_
   refine (Yb ?_ (Yb ?_ Xg))
   ·refine hQS 13 rfl (Zh 0 h19.wht (gO 0) p1 p2) h19 1 fun h19=>?_
    refine hQ 19 rfl (Zh 0 h19.wht (gO 0) p9 p10) h19 1 fun h19=>?_
    refine Zf 20 rfl (Zg e2 p9 p10) ?_
    refine hS 21 rfl (Zm 0 (.int .u32) (w64 (a3+x2)) (gt x1 (w64 (a3+(w64 ((w64 (2*x2))+1))))) 0 h19 rfl p9 p10) 1 fun _ w14 h20=>?_
    have e12:(x1.set (w64 (a3+x2)).toNat (gt x1 (w64 (a3+(w64 ((w64 (2*x2))+1)))))).length=a0.length:=List.length_set.trans e1
    refine Zf 22 rfl (Zg e2 p1 p2) ?_
    refine hS 23 rfl (Zm 0 (.int .u32) (w64 (a3+(w64 ((w64 (2*x2))+1)))) (gt x1 (w64 (a3+x2))) 0 h20 rfl p1 (by simpa only [List.length_set] using p2)) 1 fun _ w15 h21=>?_
    have e13:((x1.set (w64 (a3+x2)).toNat (gt x1 (w64 (a3+(w64 ((w64 (2*x2))+1)))))).set (w64 (a3+(w64 ((w64 (2*x2))+1)))).toNat (gt x1 (w64 (a3+x2)))).length=a0.length:=List.length_set.trans e12
    refine Zt [0,2,3,9] ?_
    exact Zu ⟨(by simp only [List.length_set,List.length_nil] <;> rfl),((h21.only [0] rfl).rds [] rfl)⟩
   ·refine hQS 19 rfl (Zh 0 h19.wht (gO 0) p9 p10) h19 1 fun h19=>?_
    refine hQ 13 rfl (Zh 0 h19.wht (gO 0) p1 p2) h19 1 fun h19=>?_
    refine Zf 20 rfl (Zg e2 p9 p10) ?_
    refine hS 21 rfl (Zm 0 (.int .u32) (w64 (a3+x2)) (gt x1 (w64 (a3+(w64 ((w64 (2*x2))+1))))) 0 h19 rfl p9 p10) 1 fun _ w16 h22=>?_
    have e14:(x1.set (w64 (a3+x2)).toNat (gt x1 (w64 (a3+(w64 ((w64 (2*x2))+1)))))).length=a0.length:=List.length_set.trans e1
    refine Zf 22 rfl (Zg e2 p1 p2) ?_
    refine hS 23 rfl (Zm 0 (.int .u32) (w64 (a3+(w64 ((w64 (2*x2))+1)))) (gt x1 (w64 (a3+x2))) 0 h22 rfl p1 (by simpa only [List.length_set] using p2)) 1 fun _ w17 h23=>?_
    have e15:((x1.set (w64 (a3+x2)).toNat (gt x1 (w64 (a3+(w64 ((w64 (2*x2))+1)))))).set (w64 (a3+(w64 ((w64 (2*x2))+1)))).toNat (gt x1 (w64 (a3+x2)))).length=a0.length:=List.length_set.trans e14
    refine Zt [0,2,3,9] ?_
    exact Zu ⟨(by simp only [List.length_set,List.length_nil] <;> rfl),((h23.only [0] rfl).rds [] rfl)⟩
  rintro env w18 ⟨rfl,h24⟩
  have e16:((x1.set (w64 (a3+x2)).toNat (gt x1 (w64 (a3+(w64 ((w64 (2*x2))+1)))))).set (w64 (a3+(w64 ((w64 (2*x2))+1)))).toNat (gt x1 (w64 (a3+x2)))).length=a0.length:=by first | (simp only [List.length_set]; done) | (simp only [List.length_set]; exact e1)
  refine Za [0,2,3,8] ?_
  have h25:=(sOR h24 [0] [])
  exact ⟨k1,by omega,_,_,H,rfl,h25,e16⟩
 refine Zo [5,6,7,8,9,10,11,12,13,14,15,16,17,18,19] ?_
 refine Zt [0,2,3,8,9,36] ?_
 refine Z5 ?_
 refine T5 (T4 (T4 ?_))
 refine jH h2 fun h26=>?_
 refine Zo [0,1,2,3,6,7,8,9] ?_
 obtain ⟨⟨p11,p12⟩,H⟩:=Zl H
 have e17:=Zx h26.wh (gO 0) p11 p12
 refine Zf 4 rfl (Zg e17 p11 p12) ?_
 refine Zf 5 rfl (Zh 0 wI (gO 0) p11 p12) ?_
 obtain ⟨⟨p13,p14⟩,H⟩:=Zl H
 refine Zf 10 rfl (Zg e17 p13 p14) ?_
 refine Zf 11 rfl (Zh 0 wI (gO 0) p13 p14) ?_
 refine cSJ 12 rfl H [] h26 rfl Q35.spec Zp 0 fun r4 w19 H h27=>?_
 refine Zo [13] ?_
 refine Zt [0,2,3,8,9,52] ?_
 refine jIf H (fun c6 H=>?_) fun c6 H=>?_
 ·cases H
  exact T3 (jR ⟨rfl,rfl,e1⟩ h27 [0])
 refine T5 (T4 (T1 (fun env w=>env=[(0,.slice A1 ((x1.set (w64 (a3+x2)).toNat (gt x1 (w64 (a3+(w64 ((w64 (2*x2))+1)))))).set (w64 (a3+(w64 ((w64 (2*x2))+1)))).toNat (gt x1 (w64 (a3+x2)))).length c_1),(2,.int .i64 a2),(3,.int .i64 a3),(9,.int .i64 (w64 ((w64 (2*x2))+1)))]∧St w0 F0 [O33 ((x1.set (w64 (a3+x2)).toNat (gt x1 (w64 (a3+(w64 ((w64 (2*x2))+1)))))).set (w64 (a3+(w64 ((w64 (2*x2))+1)))).toNat (gt x1 (w64 (a3+x2)))) A1 c_1] [] w) ?_ ?_))
 ·refine Zw (sO h27 []) ?_
  have h30:=h27.drew
  refine Zo [0,1,2,3,4,5,6,7,8,9,10,11,14,15,16,17] ?_
  refine Zf 12 rfl (Zg e17 p13 p14) ?_
  refine Zf 18 rfl (Zg e17 p11 p12) ?_
  refine TV [13,19] (i:=13) rfl rfl rfl rfl ?_
  refine (Yb ?_ (Yb ?_ Xg))
  ·refine hQS 13 rfl (Zh 0 h30.wht (gO 0) p13 p14) h30 1 fun h30=>?_
   refine hQ 19 rfl (Zh 0 h30.wht (gO 0) p11 p12) h30 1 fun h30=>?_
   refine Zf 20 rfl (Zg e17 p11 p12) ?_
   refine hS 21 rfl (Zm 0 (.int .u32) (w64 (a3+x2)) (gt x1 (w64 (a3+(w64 ((w64 (2*x2))+1))))) 0 h30 rfl p11 p12) 1 fun _ w22 h31=>?_
   have e20:(x1.set (w64 (a3+x2)).toNat (gt x1 (w64 (a3+(w64 ((w64 (2*x2))+1)))))).length=a0.length:=List.length_set.trans e1
   refine Zf 22 rfl (Zg e17 p13 p14) ?_
   refine hS 23 rfl (Zm 0 (.int .u32) (w64 (a3+(w64 ((w64 (2*x2))+1)))) (gt x1 (w64 (a3+x2))) 0 h31 rfl p13 (by simpa only [List.length_set] using p14)) 1 fun _ w23 h32=>?_
   have e21:((x1.set (w64 (a3+x2)).toNat (gt x1 (w64 (a3+(w64 ((w64 (2*x2))+1)))))).set (w64 (a3+(w64 ((w64 (2*x2))+1)))).toNat (gt x1 (w64 (a3+x2)))).length=a0.length:=List.length_set.trans e20
   refine Zt [0,2,3,9] ?_
   exact Zu ⟨(by simp only [List.length_set,List.length_nil] <;> rfl),((h32.only [0] rfl).rds [] rfl)⟩
  ·refine hQS 19 rfl (Zh 0 h30.wht (gO 0) p11 p12) h30 1 fun h30=>?_
   refine hQ 13 rfl (Zh 0 h30.wht (gO 0) p13 p14) h30 1 fun h30=>?_
   refine Zf 20 rfl (Zg e17 p11 p12) ?_
   refine hS 21 rfl (Zm 0 (.int .u32) (w64 (a3+x2)) (gt x1 (w64 (a3+(w64 ((w64 (2*x2))+1))))) 0 h30 rfl p11 p12) 1 fun _ w24 h33=>?_
   have e22:(x1.set (w64 (a3+x2)).toNat (gt x1 (w64 (a3+(w64 ((w64 (2*x2))+1)))))).length=a0.length:=List.length_set.trans e1
   refine Zf 22 rfl (Zg e17 p13 p14) ?_
   refine hS 23 rfl (Zm 0 (.int .u32) (w64 (a3+(w64 ((w64 (2*x2))+1)))) (gt x1 (w64 (a3+x2))) 0 h33 rfl p13 (by simpa only [List.length_set] using p14)) 1 fun _ w25 h34=>?_
   have e23:((x1.set (w64 (a3+x2)).toNat (gt x1 (w64 (a3+(w64 ((w64 (2*x2))+1)))))).set (w64 (a3+(w64 ((w64 (2*x2))+1)))).toNat (gt x1 (w64 (a3+x2)))).length=a0.length:=List.length_set.trans e22
   refine Zt [0,2,3,9] ?_
   exact Zu ⟨(by simp only [List.length_set,List.length_nil] <;> rfl),((h34.only [0] rfl).rds [] rfl)⟩
 rintro env w26 ⟨rfl,h35⟩
 have e24:((x1.set (w64 (a3+x2)).toNat (gt x1 (w64 (a3+(w64 ((w64 (2*x2))+1)))))).set (w64 (a3+(w64 ((w64 (2*x2))+1)))).toNat (gt x1 (w64 (a3+x2)))).length=a0.length:=by first | (simp only [List.length_set]; done) | (simp only [List.length_set]; exact e1)
 refine Za [0,2,3,8] ?_
 have h36:=(sOR h35 [0] [])
 exact ⟨k1,by omega,_,_,H,rfl,h36,e24⟩

def Q110.l1:Nat→Int→TU→Int→Option TU
 | 0,_,_,_=>none
 | k+1,a1,x3,x4=>if (decide (0≤x4))=true then (if 0≤(w64 (a1+x4))∧(w64 (a1+x4))<(x3.length:Int) then (if 0≤a1∧a1<(x3.length:Int) then ((Q121.f k ((x3.set a1.toNat (gt x3 (w64 (a1+x4)))).set (w64 (a1+x4)).toNat (gt x3 a1)) 0 x4 a1).bind fun r2=>(Q110.l1 k a1 r2 (w64 (x4 - 1)))) else none) else none) else (some x3)
def Q110.l0:Nat→Int→Int→TU→Int→Option TU
 | 0,_,_,_,_=>none
 | k+1,a1,a2,x1,x2=>if (decide (0≤x2))=true then ((Q121.f k x1 x2 (w64 (a2 - a1)) a1).bind fun r1=>(Q110.l0 k a1 a2 r1 (w64 (x2 - 1)))) else (Q110.l1 k a1 x1 (w64 ((w64 (a2 - a1)) - 1)))
def Q110.f (k:Nat) (a0:TU) (a1:Int) (a2:Int):Option TU:=Q110.l0 k a1 a2 a0 (w64 (Int.tdiv (w64 ((w64 (a2 - a1)) - 1)) 2))
theorem Q110.spec {k a0 a1 a2 A1 c_1 r} (H:Q110.f k a0 a1 a2=some r) :
  Spec Tryz.prog 235 [.slice A1 a0.length c_1,.int .i64 a1,.int .i64 a2] [O33 a0 A1 c_1] [] (fun v l=>v=.tuple #[]∧l=[O33 r A1 c_1]∧r.length=a0.length):=by
 refine Zi Tryz.func235 fun w0 F0 h0=>?_
 unfold Q110.f at H
 refine T4 (Za [0,1,2,6] ?_)
 refine T4 (Za [0,1,2,6,7] ?_)
 refine T4 (Za [0,6,7,8] ?_)
 refine T4 (T4 (Za [0,6,7,8,9] ?_))
 refine TW ?_
 have h16:=(sOR h0 [0] [])
 refine T0 (fun kk env w=>∃ x1 x2,Q110.l0 kk a1 a2 x1 x2=some r∧env=[(0,.slice A1 x1.length c_1),(6,.int .i64 a1),(7,.int .i64 0),(8,.int .i64 (w64 (a2 - a1))),(9,.int .i64 x2)]∧St w0 F0 [O33 x1 A1 c_1] [] w∧x1.length=a0.length) (k:=k) ⟨_,_,H,rfl,h16,(rfl:a0.length=a0.length)⟩ ?_
 rintro k1 env w1 ⟨x1,x2,H,rfl,h1,e1⟩
 rcases k1 with _ | k1
 ·exact z0 H
 rw [Q110.l0] at H
 refine T4 (T4 (Za [0,6,7,8,9,19] ?_))
 refine jIf H (fun c1 H=>?_) fun c1 H=>?_
 ·refine T5 (T4 (TW (T2 ?_)))
  refine Zd 4 ?_
  refine cE H [0] h1 rfl Q121.spec Zp ?_
  rintro r1 w2 _ _ H ⟨rfl,rfl,q2⟩ h2
  replace h2:=nf h2
  have e2:r1.length=a0.length:=q2.trans e1
  refine Ze [0,6,7,8,9] rfl ?_
  refine TY (env':=[(0,.slice A1 r1.length c_1),(6,.int .i64 a1),(7,.int .i64 0),(8,.int .i64 (w64 (a2 - a1))),(9,.int .i64 x2)]) (by simp only [q2,List.length_nil] <;> rfl) ?_
  refine Za [0,6,7,8,9] ?_
  have h3:=(sOR h2 [0] [])
  exact ⟨k1,by omega,_,_,H,rfl,h3,e2⟩
 refine TZ (T4 (Za [0,6,7,10] ?_))
 refine TW ?_
 have h15:=(sOR h1 [0] [])
 refine T0 (fun kk env w=>∃ x3 x4,Q110.l1 kk a1 x3 x4=some r∧env=[(0,.slice A1 x3.length c_1),(6,.int .i64 a1),(7,.int .i64 0),(10,.int .i64 x4)]∧St w0 F0 [O33 x3 A1 c_1] [] w∧x3.length=a0.length) (k:=k1) ⟨_,_,H,rfl,h15,e1⟩ ?_
 rintro k2 env w3 ⟨x3,x4,H,rfl,h4,e3⟩
 rcases k2 with _ | k2
 ·exact z0 H
 rw [Q110.l1] at H
 refine T4 (T4 (Za [0,6,7,10,30] ?_))
 refine jIf H (fun c2 H=>?_) fun c2 H=>?_
 ·refine T5 (T4 (TW (T4 ?_)))
  obtain ⟨⟨p1,p2⟩,H⟩:=Zl H
  obtain ⟨⟨p3,p4⟩,H⟩:=Zl H
  refine T1 (fun env w=>env=[(0,.slice A1 ((x3.set a1.toNat (gt x3 (w64 (a1+x4)))).set (w64 (a1+x4)).toNat (gt x3 a1)).length c_1),(6,.int .i64 a1),(7,.int .i64 0),(10,.int .i64 x4)]∧St w0 F0 [O33 ((x3.set a1.toNat (gt x3 (w64 (a1+x4)))).set (w64 (a1+x4)).toNat (gt x3 a1)) A1 c_1] [] w) ?_ ?_
  ·refine Zw (sO h4 []) ?_
   have h7:=h4.drew
   refine Zo [0,1,2,3,4,5,6,7,8,9,12,13] ?_
   have e7:=Zx h7.wh (gO 0) p1 p2
   refine Zf 10 rfl (Zg e7 p1 p2) ?_
   refine Zf 14 rfl (Zg e7 p3 p4) ?_
   refine TV [11,15] (i:=11) rfl rfl rfl rfl ?_
   refine (Yb ?_ (Yb ?_ Xg))
   ·refine hQS 11 rfl (Zh 0 h7.wht (gO 0) p1 p2) h7 1 fun h7=>?_
    refine hQ 15 rfl (Zh 0 h7.wht (gO 0) p3 p4) h7 1 fun h7=>?_
    refine Zf 16 rfl (Zg e7 p3 p4) ?_
    refine hS 17 rfl (Zm 0 (.int .u32) a1 (gt x3 (w64 (a1+x4))) 0 h7 rfl p3 p4) 1 fun _ w6 h8=>?_
    have e8:(x3.set a1.toNat (gt x3 (w64 (a1+x4)))).length=a0.length:=List.length_set.trans e3
    refine Zf 18 rfl (Zg e7 p1 p2) ?_
    refine hS 19 rfl (Zm 0 (.int .u32) (w64 (a1+x4)) (gt x3 a1) 0 h8 rfl p1 (by simpa only [List.length_set] using p2)) 1 fun _ w7 h9=>?_
    have e9:((x3.set a1.toNat (gt x3 (w64 (a1+x4)))).set (w64 (a1+x4)).toNat (gt x3 a1)).length=a0.length:=List.length_set.trans e8
    refine Zt [0,6,7,10] ?_
    exact Zu ⟨(by simp only [List.length_set,List.length_nil] <;> rfl),((h9.only [0] rfl).rds [] rfl)⟩
   ·refine hQS 15 rfl (Zh 0 h7.wht (gO 0) p3 p4) h7 1 fun h7=>?_
    refine hQ 11 rfl (Zh 0 h7.wht (gO 0) p1 p2) h7 1 fun h7=>?_
    refine Zf 16 rfl (Zg e7 p3 p4) ?_
    refine hS 17 rfl (Zm 0 (.int .u32) a1 (gt x3 (w64 (a1+x4))) 0 h7 rfl p3 p4) 1 fun _ w8 h10=>?_
    have e10:(x3.set a1.toNat (gt x3 (w64 (a1+x4)))).length=a0.length:=List.length_set.trans e3
    refine Zf 18 rfl (Zg e7 p1 p2) ?_
    refine hS 19 rfl (Zm 0 (.int .u32) (w64 (a1+x4)) (gt x3 a1) 0 h10 rfl p1 (by simpa only [List.length_set] using p2)) 1 fun _ w9 h11=>?_
    have e11:((x3.set a1.toNat (gt x3 (w64 (a1+x4)))).set (w64 (a1+x4)).toNat (gt x3 a1)).length=a0.length:=List.length_set.trans e10
    refine Zt [0,6,7,10] ?_
    exact Zu ⟨(by simp only [List.length_set,List.length_nil] <;> rfl),((h11.only [0] rfl).rds [] rfl)⟩
  rintro env w10 ⟨rfl,h12⟩
  have e12:((x3.set a1.toNat (gt x3 (w64 (a1+x4)))).set (w64 (a1+x4)).toNat (gt x3 a1)).length=a0.length:=by first | (simp only [List.length_set]; done) | (simp only [List.length_set]; exact e3)
  refine T2 (Zd 4 ?_)
  refine cE H [0] h12 rfl Q121.spec Zp ?_
  rintro r2 w11 _ _ H ⟨rfl,rfl,q4⟩ h13
  replace h13:=nf h13
  have e13:r2.length=a0.length:=q4.trans e12
  refine Ze [0,6,7,10] rfl ?_
  refine TY (env':=[(0,.slice A1 r2.length c_1),(6,.int .i64 a1),(7,.int .i64 0),(10,.int .i64 x4)]) (by simp only [q4,List.length_nil] <;> rfl) ?_
  refine Za [0,6,7,10] ?_
  have h14:=(sOR h13 [0] [])
  exact ⟨k2,by omega,_,_,H,rfl,h14,e13⟩
 refine TZ ?_
 cases H
 exact ⟨_,_,_,Zj,⟨rfl,rfl,e3⟩,sO h4 [0]⟩

def Q115.f (a0:TU) (a1:Int) (a2:Int) (a3:Int):Option (Int×Int×Int):=if 0≤a2∧a2<(a0.length:Int) then (if 0≤a1∧a1<(a0.length:Int) then ((Q35.f (gt a0 a2) (gt a0 a1)).bind fun r1=>(if r1=true then (some (a2,a1,(w64 (a3+1)))) else (some (a1,a2,a3)))) else none) else none
theorem Q115.spec {a0 a1 a2 a3 A1 c_1 b1 r} (H:Q115.f a0 a1 a2 a3=some r) :
  Spec Tryz.prog 253 [.slice A1 a0.length c_1,.int .i64 a1,.int .i64 a2,.pointer (some ⟨b1,0,none⟩)] [X3 b1 a3] [R33 a0 A1 c_1] (fun v l=>v=.tuple #[.int .i64 r.1,.int .i64 r.2.1]∧l=[X3 b1 r.2.2]):=by
 refine Zi Tryz.func253 fun w0 F0 h0=>?_
 unfold Q115.f at H
 refine T4 (Za [0,1,2,3] ?_)
 refine T4 (T4 ?_)
 refine jH h0 fun h1=>?_
 refine Zo [0,1,4,5] ?_
 obtain ⟨⟨p1,p2⟩,H⟩:=Zl H
 have e1:=Zx h1.wh (Zk 1) p1 p2
 refine Zf 2 rfl (Zg e1 p1 p2) ?_
 refine Zf 3 rfl (Zh 0 wI (Zk 1) p1 p2) ?_
 obtain ⟨⟨p3,p4⟩,H⟩:=Zl H
 refine Zf 6 rfl (Zg e1 p3 p4) ?_
 refine Zf 7 rfl (Zh 0 wI (Zk 1) p3 p4) ?_
 refine cSJ 8 rfl H [] h1 rfl Q35.spec Zp 0 fun r1 w1 H h2=>?_
 refine Zt [1,2,3,18] ?_
 refine jIf H (fun c1 H=>?_) fun c1 H=>?_
 ·refine T4 (T2 ?_)
  refine Zd 2 ?_
  refine Zc (Zb 0 h2.wht) ?_
  refine Zd 2 ?_
  refine rS (Zs 0 h2) fun _ w2 h3=>?_
  refine Ze [1,2] rfl ?_
  refine T4 (Za [8,9] ?_)
  cases H
  exact T3 (jR0 h3 [0])
 refine T5 (T4 (Za [8,9] ?_))
 cases H
 exact T3 (jR0 h2 [0])

def Q113.f (a0:TU) (a1:Int) (a2:Int) (a3:Int) (a4:Int):Option TS:=(Q115.f a0 a1 a2 a4).bind fun r1=>((Q115.f a0 r1.2.1 a3 r1.2.2).bind fun r2=>((Q115.f a0 r1.1 r2.1 r2.2.2).bind fun r3=>(some r3.2)))
theorem Q113.spec {a0 a1 a2 a3 a4 A1 c_1 b1 r} (H:Q113.f a0 a1 a2 a3 a4=some r) :
  Spec Tryz.prog 251 [.slice A1 a0.length c_1,.int .i64 a1,.int .i64 a2,.int .i64 a3,.pointer (some ⟨b1,0,none⟩)] [X3 b1 a4] [R33 a0 A1 c_1] (fun v l=>v=.int .i64 r.1∧l=[X3 b1 r.2]):=by
 refine Zi Tryz.func251 fun w0 F0 h0=>?_
 unfold Q113.f at H
 refine T4 (Za [0,1,2,3,4] ?_)
 refine T4 (T2 ?_)
 refine Zd 4 ?_
 refine cS H [0] h0 rfl Q115.spec (gS [0]) fun r1 w1 H h1=>?_
 refine Ze [0,1,2,3,4] rfl ?_
 refine T4 (T2 ?_)
 refine Zd 4 ?_
 refine cS H [0] h1 rfl Q115.spec (gS [0]) fun r2 w2 H h2=>?_
 refine Ze [0,1,2,4] rfl ?_
 refine T4 (T2 ?_)
 refine Zd 4 ?_
 refine cS H [0] h2 rfl Q115.spec (gS [0]) fun r3 w3 H h3=>?_
 refine Ze [2] rfl ?_
 refine T4 (Za [10] ?_)
 cases H
 exact T3 (jR0 h3 [0])

def Q112.f (a0:TU) (a1:Int) (a2:Int):Option TS:=(Q113.f a0 (w64 (a1 - 1)) a1 (w64 (a1+1)) a2).bind fun r1=>(some r1)
theorem Q112.spec {a0 a1 a2 A1 c_1 b1 r} (H:Q112.f a0 a1 a2=some r) :
  Spec Tryz.prog 250 [.slice A1 a0.length c_1,.int .i64 a1,.pointer (some ⟨b1,0,none⟩)] [X3 b1 a2] [R33 a0 A1 c_1] (fun v l=>v=.int .i64 r.1∧l=[X3 b1 r.2]):=by
 refine Zi Tryz.func250 fun w0 F0 h0=>?_
 unfold Q112.f at H
 refine T4 (Za [0,1,2] ?_)
 refine T4 (T2 ?_)
 refine Zd 7 ?_
 refine cS H [0] h0 rfl Q113.spec (gS [0]) fun r1 w1 H h1=>?_
 refine Ze [6] rfl ?_
 cases H
 exact T3 (jR0 h1 [0])

def Q109.f (a0:TU) (a1:Int) (a2:Int):Option TS:=if (decide (8≤(w64 (a2 - a1))))=true then (if (decide (50≤(w64 (a2 - a1))))=true then ((Q112.f a0 (w64 (a1+(w64 ((w64 (Int.tdiv (w64 (a2 - a1)) 4))*1)))) 0).bind fun r1=>((Q112.f a0 (w64 (a1+(w64 ((w64 (Int.tdiv (w64 (a2 - a1)) 4))*2)))) r1.2).bind fun r2=>((Q112.f a0 (w64 (a1+(w64 ((w64 (Int.tdiv (w64 (a2 - a1)) 4))*3)))) r2.2).bind fun r3=>((Q113.f a0 r1.1 r2.1 r3.1 r3.2).bind fun r4=>(if (decide (r4.2=0))=true then (some (r4.1,1)) else (if (decide (r4.2=12))=true then (some (r4.1,2)) else (some (r4.1,0)))))))) else ((Q113.f a0 (w64 (a1+(w64 ((w64 (Int.tdiv (w64 (a2 - a1)) 4))*1)))) (w64 (a1+(w64 ((w64 (Int.tdiv (w64 (a2 - a1)) 4))*2)))) (w64 (a1+(w64 ((w64 (Int.tdiv (w64 (a2 - a1)) 4))*3)))) 0).bind fun r5=>(if (decide (r5.2=0))=true then (some (r5.1,1)) else (if (decide (r5.2=12))=true then (some (r5.1,2)) else (some (r5.1,0)))))) else (some ((w64 (a1+(w64 ((w64 (Int.tdiv (w64 (a2 - a1)) 4))*2)))),1))
theorem Q109.spec {a0 a1 a2 A1 c_1 r} (H:Q109.f a0 a1 a2=some r) :
  Spec Tryz.prog 237 [.slice A1 a0.length c_1,.int .i64 a1,.int .i64 a2] [] [R33 a0 A1 c_1] (fun v l=>v=.tuple #[.int .i64 r.1,.int .i64 r.2]∧l=[]):=by
 refine Zi Tryz.func237 fun w0 F0 h0=>?_
 unfold Q109.f at H
 refine T4 (Za [0,1,2] ?_)
 refine T4 (Za [0,1,8] ?_)
 refine T4 (T2 ?_)
 refine rB (Yp h0) fun b1 w1 h1=>?_
 refine Ze [0,1,8,9] rfl ?_
 refine T4 (Za [0,1,8,9,10] ?_)
 refine T4 (Za [0,1,8,9,10,11] ?_)
 refine T4 (Za [0,8,9,10,11,12] ?_)
 refine T4 (T4 (Za [0,8,9,10,11,12,32] ?_))
 refine jIf H (fun c1 H=>?_) fun c1 H=>?_
 ·refine T4 (T4 (Za [0,9,10,11,12,34] ?_))
  refine jIf H (fun c2 H=>?_) fun c2 H=>?_
  ·refine T4 (T2 ?_)
   refine Zd 2 ?_
   refine cS H [0] h1 rfl Q112.spec (gS [0]) fun r1 w2 H h2=>?_
   refine Ze [0,9,10,11,12] rfl ?_
   refine T4 (T2 ?_)
   refine Zd 2 ?_
   refine cS H [0] h2 rfl Q112.spec (gS [0]) fun r2 w3 H h3=>?_
   refine Ze [0,9,10,11,12] rfl ?_
   refine T2 (Zd 2 ?_)
   refine cS H [0] h3 rfl Q112.spec (gS [0]) fun r3 w4 H h4=>?_
   refine Ze [0,9,10,11,12] rfl ?_
   refine T2 (Zd 4 ?_)
   refine cS H [0] h4 rfl Q113.spec (gS [0]) fun r4 w5 H h5=>?_
   refine Ze [9,11] rfl ?_
   refine T4 (T2 ?_)
   refine Zc (Zb 0 h5.wht) ?_
   refine Ze [11,49] rfl ?_
   refine TW (T4 (Za [11,49,51] ?_))
   refine jIf H (fun c3 H=>?_) fun c3 H=>?_
   ·refine T4 (Za [6,7] ?_)
    cases H
    exact T3 (jR0 h5 [])
   refine T4 (Za [11,54] ?_)
   refine jIf H (fun c4 H=>?_) fun c4 H=>?_
   ·refine T4 (Za [6,7] ?_)
    cases H
    exact T3 (jR0 h5 [])
   refine T4 (Za [6,7] ?_)
   cases H
   exact T3 (jR0 h5 [])
  refine T5 (T2 (Zd 4 ?_))
  refine cS H [0] h1 rfl Q113.spec (gS [0]) fun r5 w6 H h6=>?_
  refine Ze [9,11] rfl ?_
  refine T4 (T2 ?_)
  refine Zc (Zb 0 h6.wht) ?_
  refine Ze [11,49] rfl ?_
  refine TW (T4 (Za [11,49,51] ?_))
  refine jIf H (fun c5 H=>?_) fun c5 H=>?_
  ·refine T4 (Za [6,7] ?_)
   cases H
   exact T3 (jR0 h6 [])
  refine T4 (Za [11,54] ?_)
  refine jIf H (fun c6 H=>?_) fun c6 H=>?_
  ·refine T4 (Za [6,7] ?_)
   cases H
   exact T3 (jR0 h6 [])
  refine T4 (Za [6,7] ?_)
  cases H
  exact T3 (jR0 h6 [])
 refine T5 (T4 (T2 ?_))
 refine Zc (Zb 0 h1.wht) ?_
 refine Ze [11,49] rfl ?_
 refine TW (T4 (Za [11,49,51] ?_))
 refine Zn ?_
 refine T4 (Za [6,7] ?_)
 cases H
 exact T3 (jR0 h1 [])

def Q120.l0:Nat→TU→Int→Int→Option TU
 | 0,_,_,_=>none
 | k+1,x1,x2,x3=>if (decide (x2<x3))=true then (if 0≤x3∧x3<(x1.length:Int) then (if 0≤x2∧x2<(x1.length:Int) then (Q120.l0 k ((x1.set x2.toNat (gt x1 x3)).set x3.toNat (gt x1 x2)) (w64 (x2+1)) (w64 (x3 - 1))) else none) else none) else (some x1)
def Q120.f (k:Nat) (a0:TU) (a1:Int) (a2:Int):Option TU:=Q120.l0 k a0 a1 (w64 (a2 - 1))
theorem Q120.spec {k a0 a1 a2 A1 c_1 r} (H:Q120.f k a0 a1 a2=some r) :
  Spec Tryz.prog 238 [.slice A1 a0.length c_1,.int .i64 a1,.int .i64 a2] [O33 a0 A1 c_1] [] (fun v l=>v=.tuple #[]∧l=[O33 r A1 c_1]∧r.length=a0.length):=by
 refine Zi Tryz.func238 fun w0 F0 h0=>?_
 unfold Q120.f at H
 refine T4 (Za [0,2,6] ?_)
 refine T4 (Za [0,6,7] ?_)
 refine TW ?_
 have h11:=(sOR h0 [0] [])
 refine T0 (fun kk env w=>∃ x1 x2 x3,Q120.l0 kk x1 x2 x3=some r∧env=[(0,.slice A1 x1.length c_1),(6,.int .i64 x2),(7,.int .i64 x3)]∧St w0 F0 [O33 x1 A1 c_1] [] w∧x1.length=a0.length) (k:=k) ⟨_,_,_,H,rfl,h11,(rfl:a0.length=a0.length)⟩ ?_
 rintro k1 env w1 ⟨x1,x2,x3,H,rfl,h1,e1⟩
 rcases k1 with _ | k1
 ·exact z0 H
 rw [Q120.l0] at H
 refine T4 (T4 (Za [0,6,7,13] ?_))
 refine jIf H (fun c1 H=>?_) fun c1 H=>?_
 ·refine T5 (TW (T4 ?_))
  obtain ⟨⟨p1,p2⟩,H⟩:=Zl H
  obtain ⟨⟨p3,p4⟩,H⟩:=Zl H
  refine T1 (fun env w=>env=[(0,.slice A1 ((x1.set x2.toNat (gt x1 x3)).set x3.toNat (gt x1 x2)).length c_1),(6,.int .i64 x2),(7,.int .i64 x3)]∧St w0 F0 [O33 ((x1.set x2.toNat (gt x1 x3)).set x3.toNat (gt x1 x2)) A1 c_1] [] w) ?_ ?_
  ·refine Zw (sO h1 []) ?_
   have h4:=h1.drew
   refine Zo [0,1,2,3,4,5,8,9] ?_
   have e5:=Zx h4.wh (gO 0) p1 p2
   refine Zf 6 rfl (Zg e5 p1 p2) ?_
   refine Zf 10 rfl (Zg e5 p3 p4) ?_
   refine TV [7,11] (i:=7) rfl rfl rfl rfl ?_
   refine (Yb ?_ (Yb ?_ Xg))
   ·refine hQS 7 rfl (Zh 0 h4.wht (gO 0) p1 p2) h4 1 fun h4=>?_
    refine hQ 11 rfl (Zh 0 h4.wht (gO 0) p3 p4) h4 1 fun h4=>?_
    refine Zf 12 rfl (Zg e5 p3 p4) ?_
    refine hS 13 rfl (Zm 0 (.int .u32) x2 (gt x1 x3) 0 h4 rfl p3 p4) 1 fun _ w4 h5=>?_
    have e6:(x1.set x2.toNat (gt x1 x3)).length=a0.length:=List.length_set.trans e1
    refine Zf 14 rfl (Zg e5 p1 p2) ?_
    refine hS 15 rfl (Zm 0 (.int .u32) x3 (gt x1 x2) 0 h5 rfl p1 (by simpa only [List.length_set] using p2)) 1 fun _ w5 h6=>?_
    have e7:((x1.set x2.toNat (gt x1 x3)).set x3.toNat (gt x1 x2)).length=a0.length:=List.length_set.trans e6
    refine Zt [0,6,7] ?_
    exact Zu ⟨(by simp only [List.length_set,List.length_nil] <;> rfl),((h6.only [0] rfl).rds [] rfl)⟩
   ·refine hQS 11 rfl (Zh 0 h4.wht (gO 0) p3 p4) h4 1 fun h4=>?_
    refine hQ 7 rfl (Zh 0 h4.wht (gO 0) p1 p2) h4 1 fun h4=>?_
    refine Zf 12 rfl (Zg e5 p3 p4) ?_
    refine hS 13 rfl (Zm 0 (.int .u32) x2 (gt x1 x3) 0 h4 rfl p3 p4) 1 fun _ w6 h7=>?_
    have e8:(x1.set x2.toNat (gt x1 x3)).length=a0.length:=List.length_set.trans e1
    refine Zf 14 rfl (Zg e5 p1 p2) ?_
    refine hS 15 rfl (Zm 0 (.int .u32) x3 (gt x1 x2) 0 h7 rfl p1 (by simpa only [List.length_set] using p2)) 1 fun _ w7 h8=>?_
    have e9:((x1.set x2.toNat (gt x1 x3)).set x3.toNat (gt x1 x2)).length=a0.length:=List.length_set.trans e8
    refine Zt [0,6,7] ?_
    exact Zu ⟨(by simp only [List.length_set,List.length_nil] <;> rfl),((h8.only [0] rfl).rds [] rfl)⟩
  rintro env w8 ⟨rfl,h9⟩
  have e10:((x1.set x2.toNat (gt x1 x3)).set x3.toNat (gt x1 x2)).length=a0.length:=by first | (simp only [List.length_set]; done) | (simp only [List.length_set]; exact e1)
  refine T4 (Za [0,6,7] ?_)
  refine Za [0,6,7] ?_
  have h10:=(sOR h9 [0] [])
  exact ⟨k1,by omega,_,_,_,H,rfl,h10,e10⟩
 refine TZ ?_
 cases H
 exact ⟨_,_,_,Zj,⟨rfl,rfl,e1⟩,sO h1 [0]⟩

mutual
def Q116.l0:Nat→Int→Int→TU→Int→Int→Option TM
 | 0,_,_,_,_,_=>none
 | k+1,a1,a2,x1,x2,x3=>if (decide (x3<5))=true then (Q116.l3 k a1 a2 x1 x3 x2) else (some (false,x1))
def Q116.l1:Nat→Int→Int→Int→Int→TU→Int→Option TM
 | 0,_,_,_,_,_,_=>none
 | k+1,a1,a2,x3,x6,x9,x10=>if (decide (x10<a2))=true then (if 0≤x10∧x10<(x9.length:Int) then (if 0≤(w64 (x10 - 1))∧(w64 (x10 - 1))<(x9.length:Int) then ((Q35.f (gt x9 x10) (gt x9 (w64 (x10 - 1)))).bind fun r1=>(if (!r1)=true then (Q116.l0 k a1 a2 x9 x6 (w64 (x3+1))) else (Q116.l1 k a1 a2 x3 x6 ((x9.set x10.toNat (gt x9 (w64 (x10 - 1)))).set (w64 (x10 - 1)).toNat (gt x9 x10)) (w64 (x10+1))))) else none) else none) else (Q116.l0 k a1 a2 x9 x6 (w64 (x3+1)))
def Q116.l2:Nat→Int→Int→Int→Int→TU→Int→Option TM
 | 0,_,_,_,_,_,_=>none
 | k+1,a1,a2,x3,x6,x11,x12=>if (decide (1≤x12))=true then (if 0≤x12∧x12<(x11.length:Int) then (if 0≤(w64 (x12 - 1))∧(w64 (x12 - 1))<(x11.length:Int) then ((Q35.f (gt x11 x12) (gt x11 (w64 (x12 - 1)))).bind fun r2=>(if (!r2)=true then (if (decide (2≤(w64 (a2 - x6))))=true then (Q116.l1 k a1 a2 x3 x6 x11 (w64 (x6+1))) else (Q116.l0 k a1 a2 x11 x6 (w64 (x3+1)))) else (Q116.l2 k a1 a2 x3 x6 ((x11.set x12.toNat (gt x11 (w64 (x12 - 1)))).set (w64 (x12 - 1)).toNat (gt x11 x12)) (w64 (x12 - 1))))) else none) else none) else (if (decide (2≤(w64 (a2 - x6))))=true then (Q116.l1 k a1 a2 x3 x6 x11 (w64 (x6+1))) else (Q116.l0 k a1 a2 x11 x6 (w64 (x3+1))))
def Q116.l3:Nat→Int→Int→TU→Int→Int→Option TM
 | 0,_,_,_,_,_=>none
 | k+1,a1,a2,x1,x3,x13=>if (decide (x13<a2))=true then (if 0≤x13∧x13<(x1.length:Int) then (if 0≤(w64 (x13 - 1))∧(w64 (x13 - 1))<(x1.length:Int) then ((Q35.f (gt x1 x13) (gt x1 (w64 (x13 - 1)))).bind fun r3=>(if (!r3)=true then (Q116.l3 k a1 a2 x1 x3 (w64 (x13+1))) else (if (decide (x13=a2))=true then (some (true,x1)) else (if (decide ((w64 (a2 - a1))<50))=true then (some (false,x1)) else (if 0≤(w64 (x13 - 1))∧(w64 (x13 - 1))<(x1.length:Int) then (if 0≤x13∧x13<(x1.length:Int) then (if (decide (2≤(w64 (x13 - a1))))=true then (Q116.l2 k a1 a2 x3 x13 ((x1.set x13.toNat (gt x1 (w64 (x13 - 1)))).set (w64 (x13 - 1)).toNat (gt x1 x13)) (w64 (x13 - 1))) else (if (decide (2≤(w64 (a2 - x13))))=true then (Q116.l1 k a1 a2 x3 x13 ((x1.set x13.toNat (gt x1 (w64 (x13 - 1)))).set (w64 (x13 - 1)).toNat (gt x1 x13)) (w64 (x13+1))) else (Q116.l0 k a1 a2 ((x1.set x13.toNat (gt x1 (w64 (x13 - 1)))).set (w64 (x13 - 1)).toNat (gt x1 x13)) x13 (w64 (x3+1))))) else none) else none))))) else none) else none) else (if (decide (x13=a2))=true then (some (true,x1)) else (if (decide ((w64 (a2 - a1))<50))=true then (some (false,x1)) else (if 0≤(w64 (x13 - 1))∧(w64 (x13 - 1))<(x1.length:Int) then (if 0≤x13∧x13<(x1.length:Int) then (if (decide (2≤(w64 (x13 - a1))))=true then (Q116.l2 k a1 a2 x3 x13 ((x1.set x13.toNat (gt x1 (w64 (x13 - 1)))).set (w64 (x13 - 1)).toNat (gt x1 x13)) (w64 (x13 - 1))) else (if (decide (2≤(w64 (a2 - x13))))=true then (Q116.l1 k a1 a2 x3 x13 ((x1.set x13.toNat (gt x1 (w64 (x13 - 1)))).set (w64 (x13 - 1)).toNat (gt x1 x13)) (w64 (x13+1))) else (Q116.l0 k a1 a2 ((x1.set x13.toNat (gt x1 (w64 (x13 - 1)))).set (w64 (x13 - 1)).toNat (gt x1 x13)) x13 (w64 (x3+1))))) else none) else none)))
end
def Q116.f (k:Nat) (a0:TU) (a1:Int) (a2:Int):Option TM:=Q116.l0 k a1 a2 a0 (w64 (a1+1)) 0
theorem Q116.spec {k a0 a1 a2 A1 c_1 r} (H:Q116.f k a0 a1 a2=some r) :
  Spec Tryz.prog 239 [.slice A1 a0.length c_1,.int .i64 a1,.int .i64 a2] [O33 a0 A1 c_1] [] (fun v l=>v=.bool r.1∧l=[O33 r.2 A1 c_1]∧r.2.length=a0.length):=by
 refine Zi Tryz.func239 fun w0 F0 h0=>?_
 unfold Q116.f at H
 refine T4 (Za [0,1,2] ?_)
 refine T4 (Za [0,1,2,7] ?_)
 refine T4 (T4 (Za [0,1,2,7,8] ?_))
 refine TW ?_
 have h53:=(sOR h0 [0] [])
 refine T0 (fun kk env w=>∃ x1 x2 x3,Q116.l0 kk a1 a2 x1 x2 x3=some r∧env=[(0,.slice A1 x1.length c_1),(1,.int .i64 a1),(2,.int .i64 a2),(7,.int .i64 x2),(8,.int .i64 x3)]∧St w0 F0 [O33 x1 A1 c_1] [] w∧x1.length=a0.length) (k:=k) ⟨_,_,_,H,rfl,h53,(rfl:a0.length=a0.length)⟩ ?_
 rintro k1 env w1 ⟨x1,x2,x3,H,rfl,h1,e1⟩
 rcases k1 with _ | k1
 ·exact z0 H
 rw [Q116.l0] at H
 refine T4 (T4 (Za [0,1,2,7,8,14] ?_))
 refine jIf H (fun c1 H=>?_) fun c1 H=>?_
 ·refine T5 (T4 (T1 (fun env w=>∃(k2:Nat) (x4:TU) (x5:Int),env=[(0,.slice A1 x4.length c_1),(1,.int .i64 a1),(2,.int .i64 a2),(7,.int .i64 x5),(8,.int .i64 x3)]∧St w0 F0 [O33 x4 A1 c_1] [] w∧(Q116.l0 k2 a1 a2 x4 x5 (w64 (x3+1)))=some r∧k2≤k1∧x4.length=a0.length) ?_ ?_))
  ·refine TW (T4 ?_)
   refine T1 (fun env w=>∃(k3:Nat) (x6:Int) (x7:Bool),env=[(0,.slice A1 x1.length c_1),(1,.int .i64 a1),(2,.int .i64 a2),(7,.int .i64 x6),(8,.int .i64 x3),(32,.bool x7)]∧St w0 F0 [O33 x1 A1 c_1] [] w∧(if (decide (x6=a2))=true then (some (true,x1)) else (if (decide ((w64 (a2 - a1))<50))=true then (some (false,x1)) else (if 0≤(w64 (x6 - 1))∧(w64 (x6 - 1))<(x1.length:Int) then (if 0≤x6∧x6<(x1.length:Int) then (if (decide (2≤(w64 (x6 - a1))))=true then (Q116.l2 k3 a1 a2 x3 x6 ((x1.set x6.toNat (gt x1 (w64 (x6 - 1)))).set (w64 (x6 - 1)).toNat (gt x1 x6)) (w64 (x6 - 1))) else (if (decide (2≤(w64 (a2 - x6))))=true then (Q116.l1 k3 a1 a2 x3 x6 ((x1.set x6.toNat (gt x1 (w64 (x6 - 1)))).set (w64 (x6 - 1)).toNat (gt x1 x6)) (w64 (x6+1))) else (Q116.l0 k3 a1 a2 ((x1.set x6.toNat (gt x1 (w64 (x6 - 1)))).set (w64 (x6 - 1)).toNat (gt x1 x6)) x6 (w64 (x3+1))))) else none) else none)))=some r∧k3≤k1) ?_ ?_
   ·refine TW (Ws [0,1,2,7,8] ?_)
    have h52:=(sOR h1 [0] [])
    refine T0 (fun kk env w=>∃ x13,Q116.l3 kk a1 a2 x1 x3 x13=some r∧env=[(0,.slice A1 x1.length c_1),(1,.int .i64 a1),(2,.int .i64 a2),(7,.int .i64 x13),(8,.int .i64 x3)]∧St w0 F0 [O33 x1 A1 c_1] [] w∧kk≤k1) (k:=k1) ⟨_,H,rfl,h52,T6 _⟩ ?_
    rintro k7 env w33 ⟨x13,H,rfl,h46,hk7⟩
    rcases k7 with _ | k7
    ·exact z0 H
    rw [Q116.l3] at H
    refine T4 (T4 ?_)
    refine jH h46 fun h47=>?_
    refine Zo [0,1,2,3] ?_
    refine X1 20 H (fun c10 H=>?_) fun c10 H=>?_
    ·refine Zo [4,5,8,9,10] ?_
     obtain ⟨⟨p13,p14⟩,H⟩:=Zl H
     have e31:=Zx h47.wh (gO 0) p13 p14
     refine Zf 6 rfl (Zg e31 p13 p14) ?_
     refine Zf 7 rfl (Zh 0 wI (gO 0) p13 p14) ?_
     obtain ⟨⟨p15,p16⟩,H⟩:=Zl H
     refine Zf 11 rfl (Zg e31 p15 p16) ?_
     refine Zf 12 rfl (Zh 0 wI (gO 0) p15 p16) ?_
     refine cSJ 13 rfl H [] h47 rfl Q35.spec Zp 0 fun r3 w34 H h48=>?_
     refine Zo [14,15] ?_
     refine Zt [0,1,2,7,8,32] ?_
     refine jIf H (fun c11 H=>?_) fun c11 H=>?_
     ·refine T5 (TW (Za [0,1,2,7,8] ?_))
      have h49:=(sOR h48 [0] [])
      exact ⟨k7,by omega,_,H,rfl,h49,by omega⟩
     refine TZ ?_
     have h50:=(sOR h48 [0] [])
     exact ⟨k7,x13,(!r3),rfl,h50,H,by omega⟩
    refine Zo [4,5,6,7,8,9,10,11,12,13,14,15] ?_
    refine Zt [0,1,2,7,8,32] ?_
    refine Z5 ?_
    refine TZ ?_
    have h51:=(sOR h47 [0] [])
    exact ⟨k7,x13,false,rfl,h51,H,by omega⟩
   rintro env w5 ⟨k3,x6,x7,rfl,h4,H,hk3⟩
   refine T4 (T4 (Za [0,1,2,7,8,37] ?_))
   refine jIf H (fun c2 H=>?_) fun c2 H=>?_
   ·refine T4 (Za [6] ?_)
    cases H
    exact T3 (jR ⟨rfl,rfl,e1⟩ h4 [0])
   refine T5 (T4 (T4 (Za [0,1,2,7,8,41] ?_)))
   refine jIf H (fun c3 H=>?_) fun c3 H=>?_
   ·refine T4 (Za [6] ?_)
    cases H
    exact T3 (jR ⟨rfl,rfl,e1⟩ h4 [0])
   refine T5 (T4 ?_)
   obtain ⟨⟨p1,p2⟩,H⟩:=Zl H
   obtain ⟨⟨p3,p4⟩,H⟩:=Zl H
   refine T1 (fun env w=>env=[(0,.slice A1 ((x1.set x6.toNat (gt x1 (w64 (x6 - 1)))).set (w64 (x6 - 1)).toNat (gt x1 x6)).length c_1),(1,.int .i64 a1),(2,.int .i64 a2),(7,.int .i64 x6),(8,.int .i64 x3)]∧St w0 F0 [O33 ((x1.set x6.toNat (gt x1 (w64 (x6 - 1)))).set (w64 (x6 - 1)).toNat (gt x1 x6)) A1 c_1] [] w) ?_ ?_
   ·refine Zw (sO h4 []) ?_
    have h7:=h4.drew
    refine Zo [0,1,2,3,4,5,6,7,10,11] ?_
    have e6:=Zx h7.wh (gO 0) p1 p2
    refine Zf 8 rfl (Zg e6 p1 p2) ?_
    refine Zf 12 rfl (Zg e6 p3 p4) ?_
    refine TV [9,13] (i:=9) rfl rfl rfl rfl ?_
    refine (Yb ?_ (Yb ?_ Xg))
    ·refine hQS 9 rfl (Zh 0 h7.wht (gO 0) p1 p2) h7 1 fun h7=>?_
     refine hQ 13 rfl (Zh 0 h7.wht (gO 0) p3 p4) h7 1 fun h7=>?_
     refine Zf 14 rfl (Zg e6 p3 p4) ?_
     refine hS 15 rfl (Zm 0 (.int .u32) x6 (gt x1 (w64 (x6 - 1))) 0 h7 rfl p3 p4) 1 fun _ w8 h8=>?_
     have e7:(x1.set x6.toNat (gt x1 (w64 (x6 - 1)))).length=a0.length:=List.length_set.trans e1
     refine Zf 16 rfl (Zg e6 p1 p2) ?_
     refine hS 17 rfl (Zm 0 (.int .u32) (w64 (x6 - 1)) (gt x1 x6) 0 h8 rfl p1 (by simpa only [List.length_set] using p2)) 1 fun _ w9 h9=>?_
     have e8:((x1.set x6.toNat (gt x1 (w64 (x6 - 1)))).set (w64 (x6 - 1)).toNat (gt x1 x6)).length=a0.length:=List.length_set.trans e7
     refine Zt [0,1,2,7,8] ?_
     exact Zu ⟨(by simp only [List.length_set,List.length_nil] <;> rfl),((h9.only [0] rfl).rds [] rfl)⟩
    ·refine hQS 13 rfl (Zh 0 h7.wht (gO 0) p3 p4) h7 1 fun h7=>?_
     refine hQ 9 rfl (Zh 0 h7.wht (gO 0) p1 p2) h7 1 fun h7=>?_
     refine Zf 14 rfl (Zg e6 p3 p4) ?_
     refine hS 15 rfl (Zm 0 (.int .u32) x6 (gt x1 (w64 (x6 - 1))) 0 h7 rfl p3 p4) 1 fun _ w10 h10=>?_
     have e9:(x1.set x6.toNat (gt x1 (w64 (x6 - 1)))).length=a0.length:=List.length_set.trans e1
     refine Zf 16 rfl (Zg e6 p1 p2) ?_
     refine hS 17 rfl (Zm 0 (.int .u32) (w64 (x6 - 1)) (gt x1 x6) 0 h10 rfl p1 (by simpa only [List.length_set] using p2)) 1 fun _ w11 h11=>?_
     have e10:((x1.set x6.toNat (gt x1 (w64 (x6 - 1)))).set (w64 (x6 - 1)).toNat (gt x1 x6)).length=a0.length:=List.length_set.trans e9
     refine Zt [0,1,2,7,8] ?_
     exact Zu ⟨(by simp only [List.length_set,List.length_nil] <;> rfl),((h11.only [0] rfl).rds [] rfl)⟩
   rintro env w12 ⟨rfl,h12⟩
   have e11:((x1.set x6.toNat (gt x1 (w64 (x6 - 1)))).set (w64 (x6 - 1)).toNat (gt x1 x6)).length=a0.length:=by first | (simp only [List.length_set]; done) | (simp only [List.length_set]; exact e1)
   refine T4 (T4 (Za [0,1,2,7,8,61] ?_))
   refine T1 (fun env w=>∃(k4:Nat) (x8:TU),env=[(0,.slice A1 x8.length c_1),(1,.int .i64 a1),(2,.int .i64 a2),(7,.int .i64 x6),(8,.int .i64 x3)]∧St w0 F0 [O33 x8 A1 c_1] [] w∧(if (decide (2≤(w64 (a2 - x6))))=true then (Q116.l1 k4 a1 a2 x3 x6 x8 (w64 (x6+1))) else (Q116.l0 k4 a1 a2 x8 x6 (w64 (x3+1))))=some r∧k4≤k3∧x8.length=a0.length) ?_ ?_
   ·refine jIf H (fun c7 H=>?_) fun c7 H=>?_
    ·refine T4 (Za [0,1,2,7,8,9] ?_)
     refine TW ?_
     have h44:=(sOR h12 [0] [])
     refine T0 (fun kk env w=>∃ x11 x12,Q116.l2 kk a1 a2 x3 x6 x11 x12=some r∧env=[(0,.slice A1 x11.length c_1),(1,.int .i64 a1),(2,.int .i64 a2),(7,.int .i64 x6),(8,.int .i64 x3),(9,.int .i64 x12)]∧St w0 F0 [O33 x11 A1 c_1] [] w∧kk≤k3∧x11.length=a0.length) (k:=k3) ⟨_,_,H,rfl,h44,T6 _,e11⟩ ?_
     rintro k6 env w24 ⟨x11,x12,H,rfl,h30,hk6,e22⟩
     rcases k6 with _ | k6
     ·exact z0 H
     rw [Q116.l2] at H
     refine T4 (T4 (Za [0,1,2,7,8,9,65] ?_))
     refine jIf H (fun c8 H=>?_) fun c8 H=>?_
     ·refine T5 (T4 (TW (T4 (T4 ?_))))
      refine jH h30 fun h31=>?_
      refine Zo [0,1,4,5,6] ?_
      obtain ⟨⟨p9,p10⟩,H⟩:=Zl H
      have e23:=Zx h31.wh (gO 0) p9 p10
      refine Zf 2 rfl (Zg e23 p9 p10) ?_
      refine Zf 3 rfl (Zh 0 wI (gO 0) p9 p10) ?_
      obtain ⟨⟨p11,p12⟩,H⟩:=Zl H
      refine Zf 7 rfl (Zg e23 p11 p12) ?_
      refine Zf 8 rfl (Zh 0 wI (gO 0) p11 p12) ?_
      refine cSJ 9 rfl H [] h31 rfl Q35.spec Zp 0 fun r2 w25 H h32=>?_
      refine Zo [10] ?_
      refine Zt [0,1,2,7,8,9,78] ?_
      refine jIf H (fun c9 H=>?_) fun c9 H=>?_
      ·refine Ws [0,1,2,7,8] ?_
       refine TZ ?_
       have h33:=(sOR h32 [0] [])
       exact ⟨k6,x11,rfl,h33,H,by omega,e22⟩
      refine T5 (J.mid (fun env w=>env=[(0,.slice A1 ((x11.set x12.toNat (gt x11 (w64 (x12 - 1)))).set (w64 (x12 - 1)).toNat (gt x11 x12)).length c_1),(1,.int .i64 a1),(2,.int .i64 a2),(7,.int .i64 x6),(8,.int .i64 x3),(9,.int .i64 x12)]∧St w0 F0 [O33 ((x11.set x12.toNat (gt x11 (w64 (x12 - 1)))).set (w64 (x12 - 1)).toNat (gt x11 x12)) A1 c_1] [] w) ?_ ?_)
      ·refine Zw (sO h32 []) ?_
       have h36:=h32.drew
       refine Zo [0,1,2,3,4,5,6,7,10,11] ?_
       refine Zf 8 rfl (Zg e23 p11 p12) ?_
       refine Zf 12 rfl (Zg e23 p9 p10) ?_
       refine TV [9,13] (i:=9) rfl rfl rfl rfl ?_
       refine (Yb ?_ (Yb ?_ Xg))
       ·refine hQS 9 rfl (Zh 0 h36.wht (gO 0) p11 p12) h36 1 fun h36=>?_
        refine hQ 13 rfl (Zh 0 h36.wht (gO 0) p9 p10) h36 1 fun h36=>?_
        refine Zf 14 rfl (Zg e23 p9 p10) ?_
        refine hS 15 rfl (Zm 0 (.int .u32) x12 (gt x11 (w64 (x12 - 1))) 0 h36 rfl p9 p10) 1 fun _ w28 h37=>?_
        have e26:(x11.set x12.toNat (gt x11 (w64 (x12 - 1)))).length=a0.length:=List.length_set.trans e22
        refine Zf 16 rfl (Zg e23 p11 p12) ?_
        refine hS 17 rfl (Zm 0 (.int .u32) (w64 (x12 - 1)) (gt x11 x12) 0 h37 rfl p11 (by simpa only [List.length_set] using p12)) 1 fun _ w29 h38=>?_
        have e27:((x11.set x12.toNat (gt x11 (w64 (x12 - 1)))).set (w64 (x12 - 1)).toNat (gt x11 x12)).length=a0.length:=List.length_set.trans e26
        refine Zt [0,1,2,7,8,9] ?_
        exact Zu ⟨(by simp only [List.length_set,List.length_nil] <;> rfl),((h38.only [0] rfl).rds [] rfl)⟩
       ·refine hQS 13 rfl (Zh 0 h36.wht (gO 0) p9 p10) h36 1 fun h36=>?_
        refine hQ 9 rfl (Zh 0 h36.wht (gO 0) p11 p12) h36 1 fun h36=>?_
        refine Zf 14 rfl (Zg e23 p9 p10) ?_
        refine hS 15 rfl (Zm 0 (.int .u32) x12 (gt x11 (w64 (x12 - 1))) 0 h36 rfl p9 p10) 1 fun _ w30 h39=>?_
        have e28:(x11.set x12.toNat (gt x11 (w64 (x12 - 1)))).length=a0.length:=List.length_set.trans e22
        refine Zf 16 rfl (Zg e23 p11 p12) ?_
        refine hS 17 rfl (Zm 0 (.int .u32) (w64 (x12 - 1)) (gt x11 x12) 0 h39 rfl p11 (by simpa only [List.length_set] using p12)) 1 fun _ w31 h40=>?_
        have e29:((x11.set x12.toNat (gt x11 (w64 (x12 - 1)))).set (w64 (x12 - 1)).toNat (gt x11 x12)).length=a0.length:=List.length_set.trans e28
        refine Zt [0,1,2,7,8,9] ?_
        exact Zu ⟨(by simp only [List.length_set,List.length_nil] <;> rfl),((h40.only [0] rfl).rds [] rfl)⟩
      rintro env w32 ⟨rfl,h41⟩
      have e30:((x11.set x12.toNat (gt x11 (w64 (x12 - 1)))).set (w64 (x12 - 1)).toNat (gt x11 x12)).length=a0.length:=by first | (simp only [List.length_set]; done) | (simp only [List.length_set]; exact e22)
      refine Za [0,1,2,7,8,9] ?_
      have h42:=(sOR h41 [0] [])
      exact ⟨k6,by omega,_,_,H,rfl,h42,by omega,e30⟩
     refine Ws [0,1,2,7,8] ?_
     refine TZ ?_
     have h43:=(sOR h30 [0] [])
     exact ⟨k6,x11,rfl,h43,H,by omega,e22⟩
    refine Ws [0,1,2,7,8] ?_
    refine T5 ?_
    have h45:=(sOR h12 [0] [])
    exact ⟨k3,((x1.set x6.toNat (gt x1 (w64 (x6 - 1)))).set (w64 (x6 - 1)).toNat (gt x1 x6)),rfl,h45,H,T6 _,e11⟩
   rintro env w14 ⟨k4,x8,rfl,h13,H,hk4,e12⟩
   refine T4 (Za [0,1,2,7,8,98] ?_)
   refine jIf H (fun c4 H=>?_) fun c4 H=>?_
   ·refine T4 (Za [0,1,2,7,8,10] ?_)
    refine TW ?_
    have h28:=(sOR h13 [0] [])
    refine T0 (fun kk env w=>∃ x9 x10,Q116.l1 kk a1 a2 x3 x6 x9 x10=some r∧env=[(0,.slice A1 x9.length c_1),(1,.int .i64 a1),(2,.int .i64 a2),(7,.int .i64 x6),(8,.int .i64 x3),(10,.int .i64 x10)]∧St w0 F0 [O33 x9 A1 c_1] [] w∧kk≤k4∧x9.length=a0.length) (k:=k4) ⟨_,_,H,rfl,h28,T6 _,e12⟩ ?_
    rintro k5 env w15 ⟨x9,x10,H,rfl,h14,hk5,e13⟩
    rcases k5 with _ | k5
    ·exact z0 H
    rw [Q116.l1] at H
    refine T4 (T4 (Za [0,1,2,7,8,10,103] ?_))
    refine jIf H (fun c5 H=>?_) fun c5 H=>?_
    ·refine T5 (T4 (TW (T4 (T4 ?_))))
     refine jH h14 fun h15=>?_
     refine Zo [0,1,4,5,6] ?_
     obtain ⟨⟨p5,p6⟩,H⟩:=Zl H
     have e14:=Zx h15.wh (gO 0) p5 p6
     refine Zf 2 rfl (Zg e14 p5 p6) ?_
     refine Zf 3 rfl (Zh 0 wI (gO 0) p5 p6) ?_
     obtain ⟨⟨p7,p8⟩,H⟩:=Zl H
     refine Zf 7 rfl (Zg e14 p7 p8) ?_
     refine Zf 8 rfl (Zh 0 wI (gO 0) p7 p8) ?_
     refine cSJ 9 rfl H [] h15 rfl Q35.spec Zp 0 fun r1 w16 H h16=>?_
     refine Zo [10] ?_
     refine Zt [0,1,2,7,8,10,116] ?_
     refine jIf H (fun c6 H=>?_) fun c6 H=>?_
     ·refine Ws [0,1,2,7,8] ?_
      refine TZ ?_
      have h17:=(sOR h16 [0] [])
      exact ⟨k5,x9,x6,rfl,h17,H,by omega,e13⟩
     refine T5 (J.mid (fun env w=>env=[(0,.slice A1 ((x9.set x10.toNat (gt x9 (w64 (x10 - 1)))).set (w64 (x10 - 1)).toNat (gt x9 x10)).length c_1),(1,.int .i64 a1),(2,.int .i64 a2),(7,.int .i64 x6),(8,.int .i64 x3),(10,.int .i64 x10)]∧St w0 F0 [O33 ((x9.set x10.toNat (gt x9 (w64 (x10 - 1)))).set (w64 (x10 - 1)).toNat (gt x9 x10)) A1 c_1] [] w) ?_ ?_)
     ·refine Zw (sO h16 []) ?_
      have h20:=h16.drew
      refine Zo [0,1,2,3,4,5,6,7,10,11] ?_
      refine Zf 8 rfl (Zg e14 p7 p8) ?_
      refine Zf 12 rfl (Zg e14 p5 p6) ?_
      refine TV [9,13] (i:=9) rfl rfl rfl rfl ?_
      refine (Yb ?_ (Yb ?_ Xg))
      ·refine hQS 9 rfl (Zh 0 h20.wht (gO 0) p7 p8) h20 1 fun h20=>?_
       refine hQ 13 rfl (Zh 0 h20.wht (gO 0) p5 p6) h20 1 fun h20=>?_
       refine Zf 14 rfl (Zg e14 p5 p6) ?_
       refine hS 15 rfl (Zm 0 (.int .u32) x10 (gt x9 (w64 (x10 - 1))) 0 h20 rfl p5 p6) 1 fun _ w19 h21=>?_
       have e17:(x9.set x10.toNat (gt x9 (w64 (x10 - 1)))).length=a0.length:=List.length_set.trans e13
       refine Zf 16 rfl (Zg e14 p7 p8) ?_
       refine hS 17 rfl (Zm 0 (.int .u32) (w64 (x10 - 1)) (gt x9 x10) 0 h21 rfl p7 (by simpa only [List.length_set] using p8)) 1 fun _ w20 h22=>?_
       have e18:((x9.set x10.toNat (gt x9 (w64 (x10 - 1)))).set (w64 (x10 - 1)).toNat (gt x9 x10)).length=a0.length:=List.length_set.trans e17
       refine Zt [0,1,2,7,8,10] ?_
       exact Zu ⟨(by simp only [List.length_set,List.length_nil] <;> rfl),((h22.only [0] rfl).rds [] rfl)⟩
      ·refine hQS 13 rfl (Zh 0 h20.wht (gO 0) p5 p6) h20 1 fun h20=>?_
       refine hQ 9 rfl (Zh 0 h20.wht (gO 0) p7 p8) h20 1 fun h20=>?_
       refine Zf 14 rfl (Zg e14 p5 p6) ?_
       refine hS 15 rfl (Zm 0 (.int .u32) x10 (gt x9 (w64 (x10 - 1))) 0 h20 rfl p5 p6) 1 fun _ w21 h23=>?_
       have e19:(x9.set x10.toNat (gt x9 (w64 (x10 - 1)))).length=a0.length:=List.length_set.trans e13
       refine Zf 16 rfl (Zg e14 p7 p8) ?_
       refine hS 17 rfl (Zm 0 (.int .u32) (w64 (x10 - 1)) (gt x9 x10) 0 h23 rfl p7 (by simpa only [List.length_set] using p8)) 1 fun _ w22 h24=>?_
       have e20:((x9.set x10.toNat (gt x9 (w64 (x10 - 1)))).set (w64 (x10 - 1)).toNat (gt x9 x10)).length=a0.length:=List.length_set.trans e19
       refine Zt [0,1,2,7,8,10] ?_
       exact Zu ⟨(by simp only [List.length_set,List.length_nil] <;> rfl),((h24.only [0] rfl).rds [] rfl)⟩
     rintro env w23 ⟨rfl,h25⟩
     have e21:((x9.set x10.toNat (gt x9 (w64 (x10 - 1)))).set (w64 (x10 - 1)).toNat (gt x9 x10)).length=a0.length:=by first | (simp only [List.length_set]; done) | (simp only [List.length_set]; exact e13)
     refine Za [0,1,2,7,8,10] ?_
     have h26:=(sOR h25 [0] [])
     exact ⟨k5,by omega,_,_,H,rfl,h26,by omega,e21⟩
    refine Ws [0,1,2,7,8] ?_
    refine TZ ?_
    have h27:=(sOR h14 [0] [])
    exact ⟨k5,x9,x6,rfl,h27,H,by omega,e13⟩
   refine Ws [0,1,2,7,8] ?_
   refine T5 ?_
   have h29:=(sOR h13 [0] [])
   exact ⟨k4,x8,x6,rfl,h29,H,by omega,e12⟩
  rintro env w3 ⟨k2,x4,x5,rfl,h2,H,hk2,e2⟩
  refine Za [0,1,2,7,8] ?_
  have h3:=(sOR h2 [0] [])
  exact ⟨k2,by omega,_,_,_,H,rfl,h3,e2⟩
 refine TZ (T4 (Za [6] ?_))
 cases H
 exact T3 (jR ⟨rfl,rfl,e1⟩ h1 [0])

mutual
def Q117.l0:Nat→Int→TU→Int→Int→Option TO
 | 0,_,_,_,_=>none
 | k+1,a1,x1,x2,x3=>Q117.l1 k a1 x1 x3 x2
def Q117.l1:Nat→Int→TU→Int→Int→Option TO
 | 0,_,_,_,_=>none
 | k+1,a1,x1,x3,x4=>if (decide (x4≤x3))=true then (if 0≤a1∧a1<(x1.length:Int) then (if 0≤x4∧x4<(x1.length:Int) then ((Q35.f (gt x1 a1) (gt x1 x4)).bind fun r1=>(if (!r1)=true then (Q117.l1 k a1 x1 x3 (w64 (x4+1))) else (Q117.l2 k a1 x1 x4 x3))) else none) else none) else (Q117.l3 k a1 x1 x3 x4)
def Q117.l2:Nat→Int→TU→Int→Int→Option TO
 | 0,_,_,_,_=>none
 | k+1,a1,x1,x4,x5=>if (decide (x4≤x5))=true then (if 0≤x5∧x5<(x1.length:Int) then ((Q35.f (gt x1 a1) (gt x1 x5)).bind fun r2=>(if r2=true then (Q117.l2 k a1 x1 x4 (w64 (x5 - 1))) else (if (decide (x5<x4))=true then (some (x4,x1)) else (Q117.l0 k a1 ((x1.set x4.toNat (gt x1 x5)).set x5.toNat (gt x1 x4)) (w64 (x4+1)) (w64 (x5 - 1)))))) else none) else (if (decide (x5<x4))=true then (some (x4,x1)) else (if 0≤x5∧x5<(x1.length:Int) then (Q117.l0 k a1 ((x1.set x4.toNat (gt x1 x5)).set x5.toNat (gt x1 x4)) (w64 (x4+1)) (w64 (x5 - 1))) else none))
def Q117.l3:Nat→Int→TU→Int→Int→Option TO
 | 0,_,_,_,_=>none
 | k+1,a1,x1,x3,x4=>if (decide (x3<x4))=true then (some (x4,x1)) else (if 0≤x3∧x3<(x1.length:Int) then (if 0≤x4∧x4<(x1.length:Int) then (Q117.l0 k a1 ((x1.set x4.toNat (gt x1 x3)).set x3.toNat (gt x1 x4)) (w64 (x4+1)) (w64 (x3 - 1))) else none) else none)
end
def Q117.f (k:Nat) (a0:TU) (a1:Int) (a2:Int) (a3:Int):Option TO:=if 0≤a3∧a3<(a0.length:Int) then (if 0≤a1∧a1<(a0.length:Int) then (Q117.l0 k a1 ((a0.set a1.toNat (gt a0 a3)).set a3.toNat (gt a0 a1)) (w64 (a1+1)) (w64 (a2 - 1))) else none) else none
theorem Q117.spec {k a0 a1 a2 a3 A1 c_1 r} (H:Q117.f k a0 a1 a2 a3=some r) :
  Spec Tryz.prog 241 [.slice A1 a0.length c_1,.int .i64 a1,.int .i64 a2,.int .i64 a3] [O33 a0 A1 c_1] [] (fun v l=>v=.int .i64 r.1∧l=[O33 r.2 A1 c_1]∧r.2.length=a0.length):=by
 refine Zi Tryz.func241 fun w0 F0 h0=>?_
 unfold Q117.f at H
 refine T4 (Za [0,1,2,3] ?_)
 refine T4 ?_
 obtain ⟨⟨p1,p2⟩,H⟩:=Zl H
 obtain ⟨⟨p3,p4⟩,H⟩:=Zl H
 refine T1 (fun env w=>env=[(0,.slice A1 ((a0.set a1.toNat (gt a0 a3)).set a3.toNat (gt a0 a1)).length c_1),(1,.int .i64 a1),(2,.int .i64 a2)]∧St w0 F0 [O33 ((a0.set a1.toNat (gt a0 a3)).set a3.toNat (gt a0 a1)) A1 c_1] [] w) ?_ ?_
 ·refine Zw (sO h0 []) ?_
  have h3:=h0.drew
  refine Zo [0,1,2,3,4,5,8,9] ?_
  have e4:=Zx h3.wh (gO 0) p1 p2
  refine Zf 6 rfl (Zg e4 p1 p2) ?_
  refine Zf 10 rfl (Zg e4 p3 p4) ?_
  refine TV [7,11] (i:=7) rfl rfl rfl rfl ?_
  refine (Yb ?_ (Yb ?_ Xg))
  ·refine hQS 7 rfl (Zh 0 h3.wht (gO 0) p1 p2) h3 1 fun h3=>?_
   refine hQ 11 rfl (Zh 0 h3.wht (gO 0) p3 p4) h3 1 fun h3=>?_
   refine Zf 12 rfl (Zg e4 p3 p4) ?_
   refine hS 13 rfl (Zm 0 (.int .u32) a1 (gt a0 a3) 0 h3 rfl p3 p4) 1 fun _ w3 h4=>?_
   have e5:(a0.set a1.toNat (gt a0 a3)).length=a0.length:=List.length_set.trans (rfl:a0.length=a0.length)
   refine Zf 14 rfl (Zg e4 p1 p2) ?_
   refine hS 15 rfl (Zm 0 (.int .u32) a3 (gt a0 a1) 0 h4 rfl p1 (by simpa only [List.length_set] using p2)) 1 fun _ w4 h5=>?_
   have e6:((a0.set a1.toNat (gt a0 a3)).set a3.toNat (gt a0 a1)).length=a0.length:=List.length_set.trans e5
   refine Zt [0,1,2] ?_
   exact Zu ⟨(by simp only [List.length_set,List.length_nil] <;> rfl),((h5.only [0] rfl).rds [] rfl)⟩
  ·refine hQS 11 rfl (Zh 0 h3.wht (gO 0) p3 p4) h3 1 fun h3=>?_
   refine hQ 7 rfl (Zh 0 h3.wht (gO 0) p1 p2) h3 1 fun h3=>?_
   refine Zf 12 rfl (Zg e4 p3 p4) ?_
   refine hS 13 rfl (Zm 0 (.int .u32) a1 (gt a0 a3) 0 h3 rfl p3 p4) 1 fun _ w5 h6=>?_
   have e7:(a0.set a1.toNat (gt a0 a3)).length=a0.length:=List.length_set.trans (rfl:a0.length=a0.length)
   refine Zf 14 rfl (Zg e4 p1 p2) ?_
   refine hS 15 rfl (Zm 0 (.int .u32) a3 (gt a0 a1) 0 h6 rfl p1 (by simpa only [List.length_set] using p2)) 1 fun _ w6 h7=>?_
   have e8:((a0.set a1.toNat (gt a0 a3)).set a3.toNat (gt a0 a1)).length=a0.length:=List.length_set.trans e7
   refine Zt [0,1,2] ?_
   exact Zu ⟨(by simp only [List.length_set,List.length_nil] <;> rfl),((h7.only [0] rfl).rds [] rfl)⟩
 rintro env w7 ⟨rfl,h8⟩
 have e9:((a0.set a1.toNat (gt a0 a3)).set a3.toNat (gt a0 a1)).length=a0.length:=by first | (simp only [List.length_set]; done) | (simp only [List.length_set]; exact (rfl:a0.length=a0.length))
 refine T4 (Za [0,1,9,10] ?_)
 refine T4 (TW ?_)
 have h50:=(sOR h8 [0] [])
 refine T0 (fun kk env w=>∃ x1 x2 x3,Q117.l0 kk a1 x1 x2 x3=some r∧env=[(0,.slice A1 x1.length c_1),(1,.int .i64 a1),(9,.int .i64 x2),(10,.int .i64 x3)]∧St w0 F0 [O33 x1 A1 c_1] [] w∧x1.length=a0.length) (k:=k) ⟨_,_,_,H,rfl,h50,e9⟩ ?_
 rintro k1 env w8 ⟨x1,x2,x3,H,rfl,h9,e10⟩
 rcases k1 with _ | k1
 ·exact z0 H
 rw [Q117.l0] at H
 refine TW (T4 (TW ?_))
 have h49:=(sOR h9 [0] [])
 refine T0 (fun kk env w=>∃ x4,Q117.l1 kk a1 x1 x3 x4=some r∧env=[(0,.slice A1 x1.length c_1),(1,.int .i64 a1),(9,.int .i64 x4),(10,.int .i64 x3)]∧St w0 F0 [O33 x1 A1 c_1] [] w∧kk≤k1) (k:=k1) ⟨_,H,rfl,h49,T6 _⟩ ?_
 rintro k2 env w9 ⟨x4,H,rfl,h10,hk2⟩
 rcases k2 with _ | k2
 ·exact z0 H
 rw [Q117.l1] at H
 refine T4 (T4 ?_)
 refine jH h10 fun h11=>?_
 refine Zo [0,1,2,3] ?_
 refine X1 32 H (fun c1 H=>?_) fun c1 H=>?_
 ·refine Zo [4,5,8,9] ?_
  obtain ⟨⟨p5,p6⟩,H⟩:=Zl H
  have e11:=Zx h11.wh (gO 0) p5 p6
  refine Zf 6 rfl (Zg e11 p5 p6) ?_
  refine Zf 7 rfl (Zh 0 wI (gO 0) p5 p6) ?_
  obtain ⟨⟨p7,p8⟩,H⟩:=Zl H
  refine Zf 10 rfl (Zg e11 p7 p8) ?_
  refine Zf 11 rfl (Zh 0 wI (gO 0) p7 p8) ?_
  refine cSJ 12 rfl H [] h11 rfl Q35.spec Zp 0 fun r1 w10 H h12=>?_
  refine Zo [13,14] ?_
  refine Zt [0,1,9,10,43] ?_
  refine jIf H (fun c2 H=>?_) fun c2 H=>?_
  ·refine T5 (TW (Za [0,1,9,10] ?_))
   have h13:=(sOR h12 [0] [])
   exact ⟨k2,by omega,_,H,rfl,h13,by omega⟩
  refine TZ (T4 (TW ?_))
  refine Ws [0,1,9,10] ?_
  have h36:=(sOR h12 [0] [])
  refine T0 (fun kk env w=>∃ x5,Q117.l2 kk a1 x1 x4 x5=some r∧env=[(0,.slice A1 x1.length c_1),(1,.int .i64 a1),(9,.int .i64 x4),(10,.int .i64 x5)]∧St w0 F0 [O33 x1 A1 c_1] [] w∧kk≤k2) (k:=k2) ⟨_,H,rfl,h36,T6 _⟩ ?_
  rintro k3 env w11 ⟨x5,H,rfl,h14,hk3⟩
  rcases k3 with _ | k3
  ·exact z0 H
  rw [Q117.l2] at H
  refine T4 (T4 ?_)
  refine jH h14 fun h15=>?_
  refine Zo [0,1,2,3] ?_
  refine X1 49 H (fun c3 H=>?_) fun c3 H=>?_
  ·refine Zo [4,5,8,9] ?_
   refine Zf 6 rfl (Zg e11 p5 p6) ?_
   refine Zf 7 rfl (Zh 0 wI (gO 0) p5 p6) ?_
   obtain ⟨⟨p9,p10⟩,H⟩:=Zl H
   refine Zf 10 rfl (Zg e11 p9 p10) ?_
   refine Zf 11 rfl (Zh 0 wI (gO 0) p9 p10) ?_
   refine cSJ 12 rfl H [] h15 rfl Q35.spec Zp 0 fun r2 w12 H h16=>?_
   refine Zo [13] ?_
   refine Zt [0,1,9,10,59] ?_
   refine jIf H (fun c4 H=>?_) fun c4 H=>?_
   ·refine T5 (TW (Za [0,1,9,10] ?_))
    have h17:=(sOR h16 [0] [])
    exact ⟨k3,by omega,_,H,rfl,h17,by omega⟩
   refine TZ (T4 (T4 (Za [0,1,9,10,64] ?_)))
   refine jIf H (fun c5 H=>?_) fun c5 H=>?_
   ·refine TZ (T4 (Za [8] ?_))
    cases H
    exact T3 (jR ⟨rfl,rfl,e10⟩ h16 [0])
   refine T5 (T4 (T1 (fun env w=>env=[(0,.slice A1 ((x1.set x4.toNat (gt x1 x5)).set x5.toNat (gt x1 x4)).length c_1),(1,.int .i64 a1),(9,.int .i64 x4),(10,.int .i64 x5)]∧St w0 F0 [O33 ((x1.set x4.toNat (gt x1 x5)).set x5.toNat (gt x1 x4)) A1 c_1] [] w) ?_ ?_))
   ·refine Zw (sO h16 []) ?_
    have h20:=h16.drew
    refine Zo [0,1,2,3,4,5,8,9] ?_
    refine Zf 6 rfl (Zg e11 p9 p10) ?_
    refine Zf 10 rfl (Zg e11 p7 p8) ?_
    refine TV [7,11] (i:=7) rfl rfl rfl rfl ?_
    refine (Yb ?_ (Yb ?_ Xg))
    ·refine hQS 7 rfl (Zh 0 h20.wht (gO 0) p9 p10) h20 1 fun h20=>?_
     refine hQ 11 rfl (Zh 0 h20.wht (gO 0) p7 p8) h20 1 fun h20=>?_
     refine Zf 12 rfl (Zg e11 p7 p8) ?_
     refine hS 13 rfl (Zm 0 (.int .u32) x4 (gt x1 x5) 0 h20 rfl p7 p8) 1 fun _ w15 h21=>?_
     have e14:(x1.set x4.toNat (gt x1 x5)).length=a0.length:=List.length_set.trans e10
     refine Zf 14 rfl (Zg e11 p9 p10) ?_
     refine hS 15 rfl (Zm 0 (.int .u32) x5 (gt x1 x4) 0 h21 rfl p9 (by simpa only [List.length_set] using p10)) 1 fun _ w16 h22=>?_
     have e15:((x1.set x4.toNat (gt x1 x5)).set x5.toNat (gt x1 x4)).length=a0.length:=List.length_set.trans e14
     refine Zt [0,1,9,10] ?_
     exact Zu ⟨(by simp only [List.length_set,List.length_nil] <;> rfl),((h22.only [0] rfl).rds [] rfl)⟩
    ·refine hQS 11 rfl (Zh 0 h20.wht (gO 0) p7 p8) h20 1 fun h20=>?_
     refine hQ 7 rfl (Zh 0 h20.wht (gO 0) p9 p10) h20 1 fun h20=>?_
     refine Zf 12 rfl (Zg e11 p7 p8) ?_
     refine hS 13 rfl (Zm 0 (.int .u32) x4 (gt x1 x5) 0 h20 rfl p7 p8) 1 fun _ w17 h23=>?_
     have e16:(x1.set x4.toNat (gt x1 x5)).length=a0.length:=List.length_set.trans e10
     refine Zf 14 rfl (Zg e11 p9 p10) ?_
     refine hS 15 rfl (Zm 0 (.int .u32) x5 (gt x1 x4) 0 h23 rfl p9 (by simpa only [List.length_set] using p10)) 1 fun _ w18 h24=>?_
     have e17:((x1.set x4.toNat (gt x1 x5)).set x5.toNat (gt x1 x4)).length=a0.length:=List.length_set.trans e16
     refine Zt [0,1,9,10] ?_
     exact Zu ⟨(by simp only [List.length_set,List.length_nil] <;> rfl),((h24.only [0] rfl).rds [] rfl)⟩
   rintro env w19 ⟨rfl,h25⟩
   have e18:((x1.set x4.toNat (gt x1 x5)).set x5.toNat (gt x1 x4)).length=a0.length:=by first | (simp only [List.length_set]; done) | (simp only [List.length_set]; exact e10)
   refine T4 (Za [0,1,9,10] ?_)
   refine Za [0,1,9,10] ?_
   have h26:=(sOR h25 [0] [])
   exact ⟨k3,by omega,_,_,_,H,rfl,h26,e18⟩
  refine Zo [4,5,6,7,8,9,10,11,12,13] ?_
  refine Zt [0,1,9,10,59] ?_
  refine Z5 ?_
  refine TZ (T4 (T4 (Za [0,1,9,10,64] ?_)))
  refine jIf H (fun c6 H=>?_) fun c6 H=>?_
  ·refine TZ (T4 (Za [8] ?_))
   cases H
   exact T3 (jR ⟨rfl,rfl,e10⟩ h15 [0])
  refine T5 (T4 ?_)
  obtain ⟨⟨p11,p12⟩,H⟩:=Zl H
  refine T1 (fun env w=>env=[(0,.slice A1 ((x1.set x4.toNat (gt x1 x5)).set x5.toNat (gt x1 x4)).length c_1),(1,.int .i64 a1),(9,.int .i64 x4),(10,.int .i64 x5)]∧St w0 F0 [O33 ((x1.set x4.toNat (gt x1 x5)).set x5.toNat (gt x1 x4)) A1 c_1] [] w) ?_ ?_
  ·refine Zw (sO h15 []) ?_
   have h29:=h15.drew
   refine Zo [0,1,2,3,4,5,8,9] ?_
   refine Zf 6 rfl (Zg e11 p11 p12) ?_
   refine Zf 10 rfl (Zg e11 p7 p8) ?_
   refine TV [7,11] (i:=7) rfl rfl rfl rfl ?_
   refine (Yb ?_ (Yb ?_ Xg))
   ·refine hQS 7 rfl (Zh 0 h29.wht (gO 0) p11 p12) h29 1 fun h29=>?_
    refine hQ 11 rfl (Zh 0 h29.wht (gO 0) p7 p8) h29 1 fun h29=>?_
    refine Zf 12 rfl (Zg e11 p7 p8) ?_
    refine hS 13 rfl (Zm 0 (.int .u32) x4 (gt x1 x5) 0 h29 rfl p7 p8) 1 fun _ w22 h30=>?_
    have e21:(x1.set x4.toNat (gt x1 x5)).length=a0.length:=List.length_set.trans e10
    refine Zf 14 rfl (Zg e11 p11 p12) ?_
    refine hS 15 rfl (Zm 0 (.int .u32) x5 (gt x1 x4) 0 h30 rfl p11 (by simpa only [List.length_set] using p12)) 1 fun _ w23 h31=>?_
    have e22:((x1.set x4.toNat (gt x1 x5)).set x5.toNat (gt x1 x4)).length=a0.length:=List.length_set.trans e21
    refine Zt [0,1,9,10] ?_
    exact Zu ⟨(by simp only [List.length_set,List.length_nil] <;> rfl),((h31.only [0] rfl).rds [] rfl)⟩
   ·refine hQS 11 rfl (Zh 0 h29.wht (gO 0) p7 p8) h29 1 fun h29=>?_
    refine hQ 7 rfl (Zh 0 h29.wht (gO 0) p11 p12) h29 1 fun h29=>?_
    refine Zf 12 rfl (Zg e11 p7 p8) ?_
    refine hS 13 rfl (Zm 0 (.int .u32) x4 (gt x1 x5) 0 h29 rfl p7 p8) 1 fun _ w24 h32=>?_
    have e23:(x1.set x4.toNat (gt x1 x5)).length=a0.length:=List.length_set.trans e10
    refine Zf 14 rfl (Zg e11 p11 p12) ?_
    refine hS 15 rfl (Zm 0 (.int .u32) x5 (gt x1 x4) 0 h32 rfl p11 (by simpa only [List.length_set] using p12)) 1 fun _ w25 h33=>?_
    have e24:((x1.set x4.toNat (gt x1 x5)).set x5.toNat (gt x1 x4)).length=a0.length:=List.length_set.trans e23
    refine Zt [0,1,9,10] ?_
    exact Zu ⟨(by simp only [List.length_set,List.length_nil] <;> rfl),((h33.only [0] rfl).rds [] rfl)⟩
  rintro env w26 ⟨rfl,h34⟩
  have e25:((x1.set x4.toNat (gt x1 x5)).set x5.toNat (gt x1 x4)).length=a0.length:=by first | (simp only [List.length_set]; done) | (simp only [List.length_set]; exact e10)
  refine T4 (Za [0,1,9,10] ?_)
  refine Za [0,1,9,10] ?_
  have h35:=(sOR h34 [0] [])
  exact ⟨k3,by omega,_,_,_,H,rfl,h35,e25⟩
 refine Zo [4,5,6,7,8,9,10,11,12,13,14] ?_
 refine Zt [0,1,9,10,43] ?_
 refine Z5 ?_
 refine TZ (T4 (TW ?_))
 refine Ws [0,1,9,10] ?_
 have h48:=(sOR h11 [0] [])
 refine T0 (fun kk env w=>Q117.l3 kk a1 x1 x3 x4=some r∧env=[(0,.slice A1 x1.length c_1),(1,.int .i64 a1),(9,.int .i64 x4),(10,.int .i64 x3)]∧St w0 F0 [O33 x1 A1 c_1] [] w∧kk≤k2) (k:=k2) ⟨H,rfl,h48,T6 _⟩ ?_
 rintro k4 env w27 ⟨H,rfl,h37,hk4⟩
 rcases k4 with _ | k4
 ·exact z0 H
 rw [Q117.l3] at H
 refine T4 (T4 ?_)
 refine jH h37 fun h38=>?_
 refine Zo [0,1,2,3] ?_
 refine Zhw 49 (congrArg Value.bool c1) ?_
 refine Zo [4,5,6,7,8,9,10,11,12,13] ?_
 refine Zt [0,1,9,10,59] ?_
 refine Z5 ?_
 refine TZ (T4 (T4 (Za [0,1,9,10,64] ?_)))
 refine jIf H (fun c7 H=>?_) fun c7 H=>?_
 ·refine TZ (T4 (Za [8] ?_))
  cases H
  exact T3 (jR ⟨rfl,rfl,e10⟩ h38 [0])
 refine T5 (T4 ?_)
 obtain ⟨⟨p13,p14⟩,H⟩:=Zl H
 obtain ⟨⟨p15,p16⟩,H⟩:=Zl H
 refine T1 (fun env w=>env=[(0,.slice A1 ((x1.set x4.toNat (gt x1 x3)).set x3.toNat (gt x1 x4)).length c_1),(1,.int .i64 a1),(9,.int .i64 x4),(10,.int .i64 x3)]∧St w0 F0 [O33 ((x1.set x4.toNat (gt x1 x3)).set x3.toNat (gt x1 x4)) A1 c_1] [] w) ?_ ?_
 ·refine Zw (sO h38 []) ?_
  have h41:=h38.drew
  refine Zo [0,1,2,3,4,5,8,9] ?_
  have e29:=Zx h41.wh (gO 0) p13 p14
  refine Zf 6 rfl (Zg e29 p13 p14) ?_
  refine Zf 10 rfl (Zg e29 p15 p16) ?_
  refine TV [7,11] (i:=7) rfl rfl rfl rfl ?_
  refine (Yb ?_ (Yb ?_ Xg))
  ·refine hQS 7 rfl (Zh 0 h41.wht (gO 0) p13 p14) h41 1 fun h41=>?_
   refine hQ 11 rfl (Zh 0 h41.wht (gO 0) p15 p16) h41 1 fun h41=>?_
   refine Zf 12 rfl (Zg e29 p15 p16) ?_
   refine hS 13 rfl (Zm 0 (.int .u32) x4 (gt x1 x3) 0 h41 rfl p15 p16) 1 fun _ w30 h42=>?_
   have e30:(x1.set x4.toNat (gt x1 x3)).length=a0.length:=List.length_set.trans e10
   refine Zf 14 rfl (Zg e29 p13 p14) ?_
   refine hS 15 rfl (Zm 0 (.int .u32) x3 (gt x1 x4) 0 h42 rfl p13 (by simpa only [List.length_set] using p14)) 1 fun _ w31 h43=>?_
   have e31:((x1.set x4.toNat (gt x1 x3)).set x3.toNat (gt x1 x4)).length=a0.length:=List.length_set.trans e30
   refine Zt [0,1,9,10] ?_
   exact Zu ⟨(by simp only [List.length_set,List.length_nil] <;> rfl),((h43.only [0] rfl).rds [] rfl)⟩
  ·refine hQS 11 rfl (Zh 0 h41.wht (gO 0) p15 p16) h41 1 fun h41=>?_
   refine hQ 7 rfl (Zh 0 h41.wht (gO 0) p13 p14) h41 1 fun h41=>?_
   refine Zf 12 rfl (Zg e29 p15 p16) ?_
   refine hS 13 rfl (Zm 0 (.int .u32) x4 (gt x1 x3) 0 h41 rfl p15 p16) 1 fun _ w32 h44=>?_
   have e32:(x1.set x4.toNat (gt x1 x3)).length=a0.length:=List.length_set.trans e10
   refine Zf 14 rfl (Zg e29 p13 p14) ?_
   refine hS 15 rfl (Zm 0 (.int .u32) x3 (gt x1 x4) 0 h44 rfl p13 (by simpa only [List.length_set] using p14)) 1 fun _ w33 h45=>?_
   have e33:((x1.set x4.toNat (gt x1 x3)).set x3.toNat (gt x1 x4)).length=a0.length:=List.length_set.trans e32
   refine Zt [0,1,9,10] ?_
   exact Zu ⟨(by simp only [List.length_set,List.length_nil] <;> rfl),((h45.only [0] rfl).rds [] rfl)⟩
 rintro env w34 ⟨rfl,h46⟩
 have e34:((x1.set x4.toNat (gt x1 x3)).set x3.toNat (gt x1 x4)).length=a0.length:=by first | (simp only [List.length_set]; done) | (simp only [List.length_set]; exact e10)
 refine T4 (Za [0,1,9,10] ?_)
 refine Za [0,1,9,10] ?_
 have h47:=(sOR h46 [0] [])
 exact ⟨k4,by omega,_,_,_,H,rfl,h47,e34⟩

mutual
def Q118.l0:Nat→Int→TU→Int→Int→Option TF
 | 0,_,_,_,_=>none
 | k+1,a1,x9,x10,x11=>Q118.l2 k a1 x9 x11 x10
def Q118.l1:Nat→Int→TU→Int→Int→Option TF
 | 0,_,_,_,_=>none
 | k+1,a1,x9,x12,x16=>if (decide (x12≤x16))=true then (if 0≤x16∧x16<(x9.length:Int) then (if 0≤a1∧a1<(x9.length:Int) then ((Q35.f (gt x9 x16) (gt x9 a1)).bind fun r1=>(if (!r1)=true then (Q118.l1 k a1 x9 x12 (w64 (x16 - 1))) else (if (decide (x16<x12))=true then (if 0≤a1∧a1<(x9.length:Int) then (if 0≤x16∧x16<(x9.length:Int) then (some (x16,false,((x9.set x16.toNat (gt x9 a1)).set a1.toNat (gt x9 x16)))) else none) else none) else (if 0≤x16∧x16<(x9.length:Int) then (if 0≤x12∧x12<(x9.length:Int) then (Q118.l0 k a1 ((x9.set x12.toNat (gt x9 x16)).set x16.toNat (gt x9 x12)) (w64 (x12+1)) (w64 (x16 - 1))) else none) else none)))) else none) else none) else (if (decide (x16<x12))=true then (if 0≤a1∧a1<(x9.length:Int) then (if 0≤x16∧x16<(x9.length:Int) then (some (x16,false,((x9.set x16.toNat (gt x9 a1)).set a1.toNat (gt x9 x16)))) else none) else none) else (if 0≤x16∧x16<(x9.length:Int) then (if 0≤x12∧x12<(x9.length:Int) then (Q118.l0 k a1 ((x9.set x12.toNat (gt x9 x16)).set x16.toNat (gt x9 x12)) (w64 (x12+1)) (w64 (x16 - 1))) else none) else none))
def Q118.l2:Nat→Int→TU→Int→Int→Option TF
 | 0,_,_,_,_=>none
 | k+1,a1,x9,x11,x17=>if (decide (x17≤x11))=true then (if 0≤x17∧x17<(x9.length:Int) then (if 0≤a1∧a1<(x9.length:Int) then ((Q35.f (gt x9 x17) (gt x9 a1)).bind fun r2=>(if r2=true then (Q118.l2 k a1 x9 x11 (w64 (x17+1))) else (Q118.l1 k a1 x9 x17 x11))) else none) else none) else (Q118.l1 k a1 x9 x17 x11)
end
def Q118.l3:Nat→TU→Int→Int→Int→Int→Option TF
 | 0,_,_,_,_,_=>none
 | k+1,a0,a1,a3,x1,x18=>if (decide (x1≤x18))=true then (if 0≤x18∧x18<(((a0.set a1.toNat (gt a0 a3)).set a3.toNat (gt a0 a1)).length:Int) then (if 0≤a1∧a1<(((a0.set a1.toNat (gt a0 a3)).set a3.toNat (gt a0 a1)).length:Int) then ((Q35.f (gt ((a0.set a1.toNat (gt a0 a3)).set a3.toNat (gt a0 a1)) x18) (gt ((a0.set a1.toNat (gt a0 a3)).set a3.toNat (gt a0 a1)) a1)).bind fun r3=>(if (!r3)=true then (Q118.l3 k a0 a1 a3 x1 (w64 (x18 - 1))) else (if (decide (x18<x1))=true then (if 0≤a1∧a1<(((a0.set a1.toNat (gt a0 a3)).set a3.toNat (gt a0 a1)).length:Int) then (if 0≤x18∧x18<(((a0.set a1.toNat (gt a0 a3)).set a3.toNat (gt a0 a1)).length:Int) then (some (x18,true,((((a0.set a1.toNat (gt a0 a3)).set a3.toNat (gt a0 a1)).set x18.toNat (gt ((a0.set a1.toNat (gt a0 a3)).set a3.toNat (gt a0 a1)) a1)).set a1.toNat (gt ((a0.set a1.toNat (gt a0 a3)).set a3.toNat (gt a0 a1)) x18)))) else none) else none) else (if 0≤x18∧x18<(((a0.set a1.toNat (gt a0 a3)).set a3.toNat (gt a0 a1)).length:Int) then (if 0≤x1∧x1<(((a0.set a1.toNat (gt a0 a3)).set a3.toNat (gt a0 a1)).length:Int) then (Q118.l0 k a1 ((((a0.set a1.toNat (gt a0 a3)).set a3.toNat (gt a0 a1)).set x1.toNat (gt ((a0.set a1.toNat (gt a0 a3)).set a3.toNat (gt a0 a1)) x18)).set x18.toNat (gt ((a0.set a1.toNat (gt a0 a3)).set a3.toNat (gt a0 a1)) x1)) (w64 (x1+1)) (w64 (x18 - 1))) else none) else none)))) else none) else none) else (if (decide (x18<x1))=true then (if 0≤a1∧a1<(((a0.set a1.toNat (gt a0 a3)).set a3.toNat (gt a0 a1)).length:Int) then (if 0≤x18∧x18<(((a0.set a1.toNat (gt a0 a3)).set a3.toNat (gt a0 a1)).length:Int) then (some (x18,true,((((a0.set a1.toNat (gt a0 a3)).set a3.toNat (gt a0 a1)).set x18.toNat (gt ((a0.set a1.toNat (gt a0 a3)).set a3.toNat (gt a0 a1)) a1)).set a1.toNat (gt ((a0.set a1.toNat (gt a0 a3)).set a3.toNat (gt a0 a1)) x18)))) else none) else none) else (if 0≤x18∧x18<(((a0.set a1.toNat (gt a0 a3)).set a3.toNat (gt a0 a1)).length:Int) then (if 0≤x1∧x1<(((a0.set a1.toNat (gt a0 a3)).set a3.toNat (gt a0 a1)).length:Int) then (Q118.l0 k a1 ((((a0.set a1.toNat (gt a0 a3)).set a3.toNat (gt a0 a1)).set x1.toNat (gt ((a0.set a1.toNat (gt a0 a3)).set a3.toNat (gt a0 a1)) x18)).set x18.toNat (gt ((a0.set a1.toNat (gt a0 a3)).set a3.toNat (gt a0 a1)) x1)) (w64 (x1+1)) (w64 (x18 - 1))) else none) else none))
def Q118.l4:Nat→TU→Int→Int→Int→Int→Option TF
 | 0,_,_,_,_,_=>none
 | k+1,a0,a1,a2,a3,x19=>if (decide (x19≤(w64 (a2 - 1))))=true then (if 0≤x19∧x19<(((a0.set a1.toNat (gt a0 a3)).set a3.toNat (gt a0 a1)).length:Int) then (if 0≤a1∧a1<(((a0.set a1.toNat (gt a0 a3)).set a3.toNat (gt a0 a1)).length:Int) then ((Q35.f (gt ((a0.set a1.toNat (gt a0 a3)).set a3.toNat (gt a0 a1)) x19) (gt ((a0.set a1.toNat (gt a0 a3)).set a3.toNat (gt a0 a1)) a1)).bind fun r4=>(if r4=true then (Q118.l4 k a0 a1 a2 a3 (w64 (x19+1))) else (Q118.l3 k a0 a1 a3 x19 (w64 (a2 - 1))))) else none) else none) else (Q118.l3 k a0 a1 a3 x19 (w64 (a2 - 1)))
def Q118.f (k:Nat) (a0:TU) (a1:Int) (a2:Int) (a3:Int):Option TF:=if 0≤a3∧a3<(a0.length:Int) then (if 0≤a1∧a1<(a0.length:Int) then (Q118.l4 k a0 a1 a2 a3 (w64 (a1+1))) else none) else none
theorem Q118.spec {k a0 a1 a2 a3 A1 c_1 r} (H:Q118.f k a0 a1 a2 a3=some r) :
  Spec Tryz.prog 242 [.slice A1 a0.length c_1,.int .i64 a1,.int .i64 a2,.int .i64 a3] [O33 a0 A1 c_1] [] (fun v l=>v=.tuple #[.int .i64 r.1,.bool r.2.1]∧l=[O33 r.2.2 A1 c_1]∧r.2.2.length=a0.length):=by
 refine Zi Tryz.func242 fun w0 F0 h0=>?_
 unfold Q118.f at H
 refine T4 (Za [0,1,2,3] ?_)
 refine T4 ?_
 obtain ⟨⟨p1,p2⟩,H⟩:=Zl H
 obtain ⟨⟨p3,p4⟩,H⟩:=Zl H
 refine T1 (fun env w=>env=[(0,.slice A1 ((a0.set a1.toNat (gt a0 a3)).set a3.toNat (gt a0 a1)).length c_1),(1,.int .i64 a1),(2,.int .i64 a2)]∧St w0 F0 [O33 ((a0.set a1.toNat (gt a0 a3)).set a3.toNat (gt a0 a1)) A1 c_1] [] w) ?_ ?_
 ·refine Zw (sO h0 []) ?_
  have h3:=h0.drew
  refine Zo [0,1,2,3,4,5,8,9] ?_
  have e4:=Zx h3.wh (gO 0) p1 p2
  refine Zf 6 rfl (Zg e4 p1 p2) ?_
  refine Zf 10 rfl (Zg e4 p3 p4) ?_
  refine TV [7,11] (i:=7) rfl rfl rfl rfl ?_
  refine (Yb ?_ (Yb ?_ Xg))
  ·refine hQS 7 rfl (Zh 0 h3.wht (gO 0) p1 p2) h3 1 fun h3=>?_
   refine hQ 11 rfl (Zh 0 h3.wht (gO 0) p3 p4) h3 1 fun h3=>?_
   refine Zf 12 rfl (Zg e4 p3 p4) ?_
   refine hS 13 rfl (Zm 0 (.int .u32) a1 (gt a0 a3) 0 h3 rfl p3 p4) 1 fun _ w3 h4=>?_
   have e5:(a0.set a1.toNat (gt a0 a3)).length=a0.length:=List.length_set.trans (rfl:a0.length=a0.length)
   refine Zf 14 rfl (Zg e4 p1 p2) ?_
   refine hS 15 rfl (Zm 0 (.int .u32) a3 (gt a0 a1) 0 h4 rfl p1 (by simpa only [List.length_set] using p2)) 1 fun _ w4 h5=>?_
   have e6:((a0.set a1.toNat (gt a0 a3)).set a3.toNat (gt a0 a1)).length=a0.length:=List.length_set.trans e5
   refine Zt [0,1,2] ?_
   exact Zu ⟨(by simp only [List.length_set,List.length_nil] <;> rfl),((h5.only [0] rfl).rds [] rfl)⟩
  ·refine hQS 11 rfl (Zh 0 h3.wht (gO 0) p3 p4) h3 1 fun h3=>?_
   refine hQ 7 rfl (Zh 0 h3.wht (gO 0) p1 p2) h3 1 fun h3=>?_
   refine Zf 12 rfl (Zg e4 p3 p4) ?_
   refine hS 13 rfl (Zm 0 (.int .u32) a1 (gt a0 a3) 0 h3 rfl p3 p4) 1 fun _ w5 h6=>?_
   have e7:(a0.set a1.toNat (gt a0 a3)).length=a0.length:=List.length_set.trans (rfl:a0.length=a0.length)
   refine Zf 14 rfl (Zg e4 p1 p2) ?_
   refine hS 15 rfl (Zm 0 (.int .u32) a3 (gt a0 a1) 0 h6 rfl p1 (by simpa only [List.length_set] using p2)) 1 fun _ w6 h7=>?_
   have e8:((a0.set a1.toNat (gt a0 a3)).set a3.toNat (gt a0 a1)).length=a0.length:=List.length_set.trans e7
   refine Zt [0,1,2] ?_
   exact Zu ⟨(by simp only [List.length_set,List.length_nil] <;> rfl),((h7.only [0] rfl).rds [] rfl)⟩
 rintro env w7 ⟨rfl,h8⟩
 have e9:((a0.set a1.toNat (gt a0 a3)).set a3.toNat (gt a0 a1)).length=a0.length:=by first | (simp only [List.length_set]; done) | (simp only [List.length_set]; exact (rfl:a0.length=a0.length))
 refine T4 (Za [0,1,10,11] ?_)
 refine T4 (T1 (fun env w=>∃(k1:Nat) (x1:Int) (x2:Bool),env=[(0,.slice A1 ((a0.set a1.toNat (gt a0 a3)).set a3.toNat (gt a0 a1)).length c_1),(1,.int .i64 a1),(10,.int .i64 x1),(11,.int .i64 (w64 (a2 - 1))),(43,.bool x2)]∧St w0 F0 [O33 ((a0.set a1.toNat (gt a0 a3)).set a3.toNat (gt a0 a1)) A1 c_1] [] w∧(Q118.l3 k1 a0 a1 a3 x1 (w64 (a2 - 1)))=some r∧k1≤k) ?_ ?_)
 ·refine TW ?_
  have h77:=(sOR h8 [0] [])
  refine T0 (fun kk env w=>∃ x19,Q118.l4 kk a0 a1 a2 a3 x19=some r∧env=[(0,.slice A1 ((a0.set a1.toNat (gt a0 a3)).set a3.toNat (gt a0 a1)).length c_1),(1,.int .i64 a1),(10,.int .i64 x19),(11,.int .i64 (w64 (a2 - 1)))]∧St w0 F0 [O33 ((a0.set a1.toNat (gt a0 a3)).set a3.toNat (gt a0 a1)) A1 c_1] [] w∧kk≤k) (k:=k) ⟨_,H,rfl,h77,T6 _⟩ ?_
  rintro k10 env w53 ⟨x19,H,rfl,h71,hk10⟩
  rcases k10 with _ | k10
  ·exact z0 H
  rw [Q118.l4] at H
  refine T4 (T4 ?_)
  refine jH h71 fun h72=>?_
  refine Zo [0,1,2,3] ?_
  refine X1 33 H (fun c9 H=>?_) fun c9 H=>?_
  ·refine Zo [4,5,8,9] ?_
   obtain ⟨⟨p33,p34⟩,H⟩:=Zl H
   have e51:=Zx h72.wh (gO 0) p33 p34
   refine Zf 6 rfl (Zg e51 p33 p34) ?_
   refine Zf 7 rfl (Zh 0 wI (gO 0) p33 p34) ?_
   obtain ⟨⟨p35,p36⟩,H⟩:=Zl H
   refine Zf 10 rfl (Zg e51 p35 p36) ?_
   refine Zf 11 rfl (Zh 0 wI (gO 0) p35 p36) ?_
   refine cSJ 12 rfl H [] h72 rfl Q35.spec Zp 0 fun r4 w54 H h73=>?_
   refine Zo [13] ?_
   refine Zt [0,1,10,11,43] ?_
   refine jIf H (fun c10 H=>?_) fun c10 H=>?_
   ·refine T5 (TW (Za [0,1,10,11] ?_))
    have h74:=(sOR h73 [0] [])
    exact ⟨k10,by omega,_,H,rfl,h74,by omega⟩
   refine TZ ?_
   have h75:=(sOR h73 [0] [])
   exact ⟨k10,x19,r4,rfl,h75,H,by omega⟩
  refine Zo [4,5,6,7,8,9,10,11,12,13] ?_
  refine Zt [0,1,10,11,43] ?_
  refine Z5 ?_
  refine TZ ?_
  have h76:=(sOR h72 [0] [])
  exact ⟨k10,x19,false,rfl,h76,H,by omega⟩
 rintro env w9 ⟨k1,x1,x2,rfl,h9,H,hk1⟩
 refine T4 (T1 (fun env w=>∃(k2:Nat) (x3:Int) (x4:Bool),env=[(0,.slice A1 ((a0.set a1.toNat (gt a0 a3)).set a3.toNat (gt a0 a1)).length c_1),(1,.int .i64 a1),(10,.int .i64 x1),(11,.int .i64 x3),(60,.bool x4)]∧St w0 F0 [O33 ((a0.set a1.toNat (gt a0 a3)).set a3.toNat (gt a0 a1)) A1 c_1] [] w∧(if (decide (x3<x1))=true then (if 0≤a1∧a1<(((a0.set a1.toNat (gt a0 a3)).set a3.toNat (gt a0 a1)).length:Int) then (if 0≤x3∧x3<(((a0.set a1.toNat (gt a0 a3)).set a3.toNat (gt a0 a1)).length:Int) then (some (x3,true,((((a0.set a1.toNat (gt a0 a3)).set a3.toNat (gt a0 a1)).set x3.toNat (gt ((a0.set a1.toNat (gt a0 a3)).set a3.toNat (gt a0 a1)) a1)).set a1.toNat (gt ((a0.set a1.toNat (gt a0 a3)).set a3.toNat (gt a0 a1)) x3)))) else none) else none) else (if 0≤x3∧x3<(((a0.set a1.toNat (gt a0 a3)).set a3.toNat (gt a0 a1)).length:Int) then (if 0≤x1∧x1<(((a0.set a1.toNat (gt a0 a3)).set a3.toNat (gt a0 a1)).length:Int) then (Q118.l0 k2 a1 ((((a0.set a1.toNat (gt a0 a3)).set a3.toNat (gt a0 a1)).set x1.toNat (gt ((a0.set a1.toNat (gt a0 a3)).set a3.toNat (gt a0 a1)) x3)).set x3.toNat (gt ((a0.set a1.toNat (gt a0 a3)).set a3.toNat (gt a0 a1)) x1)) (w64 (x1+1)) (w64 (x3 - 1))) else none) else none))=some r∧k2≤k1) ?_ ?_)
 ·refine TW (Ws [0,1,10,11] ?_)
  have h70:=(sOR h9 [0] [])
  refine T0 (fun kk env w=>∃ x18,Q118.l3 kk a0 a1 a3 x1 x18=some r∧env=[(0,.slice A1 ((a0.set a1.toNat (gt a0 a3)).set a3.toNat (gt a0 a1)).length c_1),(1,.int .i64 a1),(10,.int .i64 x1),(11,.int .i64 x18)]∧St w0 F0 [O33 ((a0.set a1.toNat (gt a0 a3)).set a3.toNat (gt a0 a1)) A1 c_1] [] w∧kk≤k1) (k:=k1) ⟨_,H,rfl,h70,T6 _⟩ ?_
  rintro k9 env w51 ⟨x18,H,rfl,h64,hk9⟩
  rcases k9 with _ | k9
  ·exact z0 H
  rw [Q118.l3] at H
  refine T4 (T4 ?_)
  refine jH h64 fun h65=>?_
  refine Zo [0,1,2,3] ?_
  refine X1 49 H (fun c7 H=>?_) fun c7 H=>?_
  ·refine Zo [4,5,8,9] ?_
   obtain ⟨⟨p29,p30⟩,H⟩:=Zl H
   have e50:=Zx h65.wh (gO 0) p29 p30
   refine Zf 6 rfl (Zg e50 p29 p30) ?_
   refine Zf 7 rfl (Zh 0 wI (gO 0) p29 p30) ?_
   obtain ⟨⟨p31,p32⟩,H⟩:=Zl H
   refine Zf 10 rfl (Zg e50 p31 p32) ?_
   refine Zf 11 rfl (Zh 0 wI (gO 0) p31 p32) ?_
   refine cSJ 12 rfl H [] h65 rfl Q35.spec Zp 0 fun r3 w52 H h66=>?_
   refine Zo [13,14] ?_
   refine Zt [0,1,10,11,60] ?_
   refine jIf H (fun c8 H=>?_) fun c8 H=>?_
   ·refine T5 (TW (Za [0,1,10,11] ?_))
    have h67:=(sOR h66 [0] [])
    exact ⟨k9,by omega,_,H,rfl,h67,by omega⟩
   refine TZ ?_
   have h68:=(sOR h66 [0] [])
   exact ⟨k9,x18,(!r3),rfl,h68,H,by omega⟩
  refine Zo [4,5,6,7,8,9,10,11,12,13,14] ?_
  refine Zt [0,1,10,11,60] ?_
  refine Z5 ?_
  refine TZ ?_
  have h69:=(sOR h65 [0] [])
  exact ⟨k9,x18,false,rfl,h69,H,by omega⟩
 rintro env w11 ⟨k2,x3,x4,rfl,h10,H,hk2⟩
 refine T4 (T4 (Za [0,1,10,11,65] ?_))
 refine jIf H (fun c1 H=>?_) fun c1 H=>?_
 ·refine T4 ?_
  obtain ⟨⟨p5,p6⟩,H⟩:=Zl H
  obtain ⟨⟨p7,p8⟩,H⟩:=Zl H
  refine T1 (fun env w=>env=[(11,.int .i64 x3)]∧St w0 F0 [O33 ((((a0.set a1.toNat (gt a0 a3)).set a3.toNat (gt a0 a1)).set x3.toNat (gt ((a0.set a1.toNat (gt a0 a3)).set a3.toNat (gt a0 a1)) a1)).set a1.toNat (gt ((a0.set a1.toNat (gt a0 a3)).set a3.toNat (gt a0 a1)) x3)) A1 c_1] [] w) ?_ ?_
  ·refine Zw (sO h10 []) ?_
   have h13:=h10.drew
   refine Zo [0,1,2,3,4,5,8,9] ?_
   have e13:=Zx h13.wh (gO 0) p5 p6
   refine Zf 6 rfl (Zg e13 p5 p6) ?_
   refine Zf 10 rfl (Zg e13 p7 p8) ?_
   refine TV [7,11] (i:=7) rfl rfl rfl rfl ?_
   refine (Yb ?_ (Yb ?_ Xg))
   ·refine hQS 7 rfl (Zh 0 h13.wht (gO 0) p5 p6) h13 1 fun h13=>?_
    refine hQ 11 rfl (Zh 0 h13.wht (gO 0) p7 p8) h13 1 fun h13=>?_
    refine Zf 12 rfl (Zg e13 p7 p8) ?_
    refine hS 13 rfl (Zm 0 (.int .u32) x3 (gt ((a0.set a1.toNat (gt a0 a3)).set a3.toNat (gt a0 a1)) a1) 0 h13 rfl p7 p8) 1 fun _ w14 h14=>?_
    have e14:(((a0.set a1.toNat (gt a0 a3)).set a3.toNat (gt a0 a1)).set x3.toNat (gt ((a0.set a1.toNat (gt a0 a3)).set a3.toNat (gt a0 a1)) a1)).length=a0.length:=List.length_set.trans e9
    refine Zf 14 rfl (Zg e13 p5 p6) ?_
    refine hS 15 rfl (Zm 0 (.int .u32) a1 (gt ((a0.set a1.toNat (gt a0 a3)).set a3.toNat (gt a0 a1)) x3) 0 h14 rfl p5 (by simpa only [List.length_set] using p6)) 1 fun _ w15 h15=>?_
    have e15:((((a0.set a1.toNat (gt a0 a3)).set a3.toNat (gt a0 a1)).set x3.toNat (gt ((a0.set a1.toNat (gt a0 a3)).set a3.toNat (gt a0 a1)) a1)).set a1.toNat (gt ((a0.set a1.toNat (gt a0 a3)).set a3.toNat (gt a0 a1)) x3)).length=a0.length:=List.length_set.trans e14
    refine Zt [11] ?_
    exact Zu ⟨(by simp only [List.length_set,List.length_nil] <;> rfl),((h15.only [0] rfl).rds [] rfl)⟩
   ·refine hQS 11 rfl (Zh 0 h13.wht (gO 0) p7 p8) h13 1 fun h13=>?_
    refine hQ 7 rfl (Zh 0 h13.wht (gO 0) p5 p6) h13 1 fun h13=>?_
    refine Zf 12 rfl (Zg e13 p7 p8) ?_
    refine hS 13 rfl (Zm 0 (.int .u32) x3 (gt ((a0.set a1.toNat (gt a0 a3)).set a3.toNat (gt a0 a1)) a1) 0 h13 rfl p7 p8) 1 fun _ w16 h16=>?_
    have e16:(((a0.set a1.toNat (gt a0 a3)).set a3.toNat (gt a0 a1)).set x3.toNat (gt ((a0.set a1.toNat (gt a0 a3)).set a3.toNat (gt a0 a1)) a1)).length=a0.length:=List.length_set.trans e9
    refine Zf 14 rfl (Zg e13 p5 p6) ?_
    refine hS 15 rfl (Zm 0 (.int .u32) a1 (gt ((a0.set a1.toNat (gt a0 a3)).set a3.toNat (gt a0 a1)) x3) 0 h16 rfl p5 (by simpa only [List.length_set] using p6)) 1 fun _ w17 h17=>?_
    have e17:((((a0.set a1.toNat (gt a0 a3)).set a3.toNat (gt a0 a1)).set x3.toNat (gt ((a0.set a1.toNat (gt a0 a3)).set a3.toNat (gt a0 a1)) a1)).set a1.toNat (gt ((a0.set a1.toNat (gt a0 a3)).set a3.toNat (gt a0 a1)) x3)).length=a0.length:=List.length_set.trans e16
    refine Zt [11] ?_
    exact Zu ⟨(by simp only [List.length_set,List.length_nil] <;> rfl),((h17.only [0] rfl).rds [] rfl)⟩
  rintro env w18 ⟨rfl,h18⟩
  have e18:((((a0.set a1.toNat (gt a0 a3)).set a3.toNat (gt a0 a1)).set x3.toNat (gt ((a0.set a1.toNat (gt a0 a3)).set a3.toNat (gt a0 a1)) a1)).set a1.toNat (gt ((a0.set a1.toNat (gt a0 a3)).set a3.toNat (gt a0 a1)) x3)).length=a0.length:=by first | (simp only [List.length_set]; done) | (simp only [List.length_set]; exact e9)
  refine T4 (Za [8,9] ?_)
  cases H
  exact T3 (jR ⟨rfl,rfl,e18⟩ h18 [0])
 refine T5 (T4 ?_)
 obtain ⟨⟨p9,p10⟩,H⟩:=Zl H
 obtain ⟨⟨p11,p12⟩,H⟩:=Zl H
 refine T1 (fun env w=>env=[(0,.slice A1 ((((a0.set a1.toNat (gt a0 a3)).set a3.toNat (gt a0 a1)).set x1.toNat (gt ((a0.set a1.toNat (gt a0 a3)).set a3.toNat (gt a0 a1)) x3)).set x3.toNat (gt ((a0.set a1.toNat (gt a0 a3)).set a3.toNat (gt a0 a1)) x1)).length c_1),(1,.int .i64 a1),(10,.int .i64 x1),(11,.int .i64 x3)]∧St w0 F0 [O33 ((((a0.set a1.toNat (gt a0 a3)).set a3.toNat (gt a0 a1)).set x1.toNat (gt ((a0.set a1.toNat (gt a0 a3)).set a3.toNat (gt a0 a1)) x3)).set x3.toNat (gt ((a0.set a1.toNat (gt a0 a3)).set a3.toNat (gt a0 a1)) x1)) A1 c_1] [] w) ?_ ?_
 ·refine Zw (sO h10 []) ?_
  have h21:=h10.drew
  refine Zo [0,1,2,3,4,5,8,9] ?_
  have e22:=Zx h21.wh (gO 0) p9 p10
  refine Zf 6 rfl (Zg e22 p9 p10) ?_
  refine Zf 10 rfl (Zg e22 p11 p12) ?_
  refine TV [7,11] (i:=7) rfl rfl rfl rfl ?_
  refine (Yb ?_ (Yb ?_ Xg))
  ·refine hQS 7 rfl (Zh 0 h21.wht (gO 0) p9 p10) h21 1 fun h21=>?_
   refine hQ 11 rfl (Zh 0 h21.wht (gO 0) p11 p12) h21 1 fun h21=>?_
   refine Zf 12 rfl (Zg e22 p11 p12) ?_
   refine hS 13 rfl (Zm 0 (.int .u32) x1 (gt ((a0.set a1.toNat (gt a0 a3)).set a3.toNat (gt a0 a1)) x3) 0 h21 rfl p11 p12) 1 fun _ w21 h22=>?_
   have e23:(((a0.set a1.toNat (gt a0 a3)).set a3.toNat (gt a0 a1)).set x1.toNat (gt ((a0.set a1.toNat (gt a0 a3)).set a3.toNat (gt a0 a1)) x3)).length=a0.length:=List.length_set.trans e9
   refine Zf 14 rfl (Zg e22 p9 p10) ?_
   refine hS 15 rfl (Zm 0 (.int .u32) x3 (gt ((a0.set a1.toNat (gt a0 a3)).set a3.toNat (gt a0 a1)) x1) 0 h22 rfl p9 (by simpa only [List.length_set] using p10)) 1 fun _ w22 h23=>?_
   have e24:((((a0.set a1.toNat (gt a0 a3)).set a3.toNat (gt a0 a1)).set x1.toNat (gt ((a0.set a1.toNat (gt a0 a3)).set a3.toNat (gt a0 a1)) x3)).set x3.toNat (gt ((a0.set a1.toNat (gt a0 a3)).set a3.toNat (gt a0 a1)) x1)).length=a0.length:=List.length_set.trans e23
   refine Zt [0,1,10,11] ?_
   exact Zu ⟨(by simp only [List.length_set,List.length_nil] <;> rfl),((h23.only [0] rfl).rds [] rfl)⟩
  ·refine hQS 11 rfl (Zh 0 h21.wht (gO 0) p11 p12) h21 1 fun h21=>?_
   refine hQ 7 rfl (Zh 0 h21.wht (gO 0) p9 p10) h21 1 fun h21=>?_
   refine Zf 12 rfl (Zg e22 p11 p12) ?_
   refine hS 13 rfl (Zm 0 (.int .u32) x1 (gt ((a0.set a1.toNat (gt a0 a3)).set a3.toNat (gt a0 a1)) x3) 0 h21 rfl p11 p12) 1 fun _ w23 h24=>?_
   have e25:(((a0.set a1.toNat (gt a0 a3)).set a3.toNat (gt a0 a1)).set x1.toNat (gt ((a0.set a1.toNat (gt a0 a3)).set a3.toNat (gt a0 a1)) x3)).length=a0.length:=List.length_set.trans e9
   refine Zf 14 rfl (Zg e22 p9 p10) ?_
   refine hS 15 rfl (Zm 0 (.int .u32) x3 (gt ((a0.set a1.toNat (gt a0 a3)).set a3.toNat (gt a0 a1)) x1) 0 h24 rfl p9 (by simpa only [List.length_set] using p10)) 1 fun _ w24 h25=>?_
   have e26:((((a0.set a1.toNat (gt a0 a3)).set a3.toNat (gt a0 a1)).set x1.toNat (gt ((a0.set a1.toNat (gt a0 a3)).set a3.toNat (gt a0 a1)) x3)).set x3.toNat (gt ((a0.set a1.toNat (gt a0 a3)).set a3.toNat (gt a0 a1)) x1)).length=a0.length:=List.length_set.trans e25
   refine Zt [0,1,10,11] ?_
   exact Zu ⟨(by simp only [List.length_set,List.length_nil] <;> rfl),((h25.only [0] rfl).rds [] rfl)⟩
 rintro env w25 ⟨rfl,h26⟩
 have e27:((((a0.set a1.toNat (gt a0 a3)).set a3.toNat (gt a0 a1)).set x1.toNat (gt ((a0.set a1.toNat (gt a0 a3)).set a3.toNat (gt a0 a1)) x3)).set x3.toNat (gt ((a0.set a1.toNat (gt a0 a3)).set a3.toNat (gt a0 a1)) x1)).length=a0.length:=by first | (simp only [List.length_set]; done) | (simp only [List.length_set]; exact e9)
 refine T4 (Za [0,1,10,11] ?_)
 refine T4 (Za [0,1,10,11] ?_)
 refine T4 (T1 (fun env w=>∃(x5:TU) (x6:Int) (x7:Int) (x8:Bool),env=[(0,.slice A1 x5.length c_1),(1,.int .i64 a1),(10,.int .i64 x6),(11,.int .i64 x7),(134,.bool x8)]∧St w0 F0 [O33 x5 A1 c_1] [] w∧(if 0≤a1∧a1<(x5.length:Int) then (if 0≤x7∧x7<(x5.length:Int) then (some (x7,false,((x5.set x7.toNat (gt x5 a1)).set a1.toNat (gt x5 x7)))) else none) else none)=some r∧x5.length=a0.length) ?_ ?_)
 ·refine TW ?_
  have h63:=(sOR h26 [0] [])
  refine T0 (fun kk env w=>∃ x9 x10 x11,Q118.l0 kk a1 x9 x10 x11=some r∧env=[(0,.slice A1 x9.length c_1),(1,.int .i64 a1),(10,.int .i64 x10),(11,.int .i64 x11)]∧St w0 F0 [O33 x9 A1 c_1] [] w∧kk≤k2∧x9.length=a0.length) (k:=k2) ⟨_,_,_,H,rfl,h63,T6 _,e27⟩ ?_
  rintro k4 env w35 ⟨x9,x10,x11,H,rfl,h36,hk4,e38⟩
  rcases k4 with _ | k4
  ·exact z0 H
  rw [Q118.l0] at H
  refine TW (T4 ?_)
  refine T1 (fun env w=>∃(k5:Nat) (x12:Int) (x13:Bool),env=[(0,.slice A1 x9.length c_1),(1,.int .i64 a1),(10,.int .i64 x12),(11,.int .i64 x11),(112,.bool x13)]∧St w0 F0 [O33 x9 A1 c_1] [] w∧(Q118.l1 k5 a1 x9 x12 x11)=some r∧k5≤k4) ?_ ?_
  ·refine TW ?_
   have h62:=(sOR h36 [0] [])
   refine T0 (fun kk env w=>∃ x17,Q118.l2 kk a1 x9 x11 x17=some r∧env=[(0,.slice A1 x9.length c_1),(1,.int .i64 a1),(10,.int .i64 x17),(11,.int .i64 x11)]∧St w0 F0 [O33 x9 A1 c_1] [] w∧kk≤k4) (k:=k4) ⟨_,H,rfl,h62,T6 _⟩ ?_
   rintro k8 env w49 ⟨x17,H,rfl,h56,hk8⟩
   rcases k8 with _ | k8
   ·exact z0 H
   rw [Q118.l2] at H
   refine T4 (T4 ?_)
   refine jH h56 fun h57=>?_
   refine Zo [0,1,2,3] ?_
   refine X1 102 H (fun c5 H=>?_) fun c5 H=>?_
   ·refine Zo [4,5,8,9] ?_
    obtain ⟨⟨p25,p26⟩,H⟩:=Zl H
    have e49:=Zx h57.wh (gO 0) p25 p26
    refine Zf 6 rfl (Zg e49 p25 p26) ?_
    refine Zf 7 rfl (Zh 0 wI (gO 0) p25 p26) ?_
    obtain ⟨⟨p27,p28⟩,H⟩:=Zl H
    refine Zf 10 rfl (Zg e49 p27 p28) ?_
    refine Zf 11 rfl (Zh 0 wI (gO 0) p27 p28) ?_
    refine cSJ 12 rfl H [] h57 rfl Q35.spec Zp 0 fun r2 w50 H h58=>?_
    refine Zo [13] ?_
    refine Zt [0,1,10,11,112] ?_
    refine jIf H (fun c6 H=>?_) fun c6 H=>?_
    ·refine T5 (TW (Za [0,1,10,11] ?_))
     have h59:=(sOR h58 [0] [])
     exact ⟨k8,by omega,_,H,rfl,h59,by omega⟩
    refine TZ ?_
    have h60:=(sOR h58 [0] [])
    exact ⟨k8,x17,r2,rfl,h60,H,by omega⟩
   refine Zo [4,5,6,7,8,9,10,11,12,13] ?_
   refine Zt [0,1,10,11,112] ?_
   refine Z5 ?_
   refine TZ ?_
   have h61:=(sOR h57 [0] [])
   exact ⟨k8,x17,false,rfl,h61,H,by omega⟩
  rintro env w37 ⟨k5,x12,x13,rfl,h37,H,hk5⟩
  refine T4 (T1 (fun env w=>∃(k6:Nat) (x14:Int) (x15:Bool),env=[(0,.slice A1 x9.length c_1),(1,.int .i64 a1),(10,.int .i64 x12),(11,.int .i64 x14),(129,.bool x15)]∧St w0 F0 [O33 x9 A1 c_1] [] w∧(if (decide (x14<x12))=true then (if 0≤a1∧a1<(x9.length:Int) then (if 0≤x14∧x14<(x9.length:Int) then (some (x14,false,((x9.set x14.toNat (gt x9 a1)).set a1.toNat (gt x9 x14)))) else none) else none) else (if 0≤x14∧x14<(x9.length:Int) then (if 0≤x12∧x12<(x9.length:Int) then (Q118.l0 k6 a1 ((x9.set x12.toNat (gt x9 x14)).set x14.toNat (gt x9 x12)) (w64 (x12+1)) (w64 (x14 - 1))) else none) else none))=some r∧k6≤k5) ?_ ?_)
  ·refine TW (Ws [0,1,10,11] ?_)
   have h55:=(sOR h37 [0] [])
   refine T0 (fun kk env w=>∃ x16,Q118.l1 kk a1 x9 x12 x16=some r∧env=[(0,.slice A1 x9.length c_1),(1,.int .i64 a1),(10,.int .i64 x12),(11,.int .i64 x16)]∧St w0 F0 [O33 x9 A1 c_1] [] w∧kk≤k5) (k:=k5) ⟨_,H,rfl,h55,T6 _⟩ ?_
   rintro k7 env w47 ⟨x16,H,rfl,h49,hk7⟩
   rcases k7 with _ | k7
   ·exact z0 H
   rw [Q118.l1] at H
   refine T4 (T4 ?_)
   refine jH h49 fun h50=>?_
   refine Zo [0,1,2,3] ?_
   refine X1 118 H (fun c3 H=>?_) fun c3 H=>?_
   ·refine Zo [4,5,8,9] ?_
    obtain ⟨⟨p21,p22⟩,H⟩:=Zl H
    have e48:=Zx h50.wh (gO 0) p21 p22
    refine Zf 6 rfl (Zg e48 p21 p22) ?_
    refine Zf 7 rfl (Zh 0 wI (gO 0) p21 p22) ?_
    obtain ⟨⟨p23,p24⟩,H⟩:=Zl H
    refine Zf 10 rfl (Zg e48 p23 p24) ?_
    refine Zf 11 rfl (Zh 0 wI (gO 0) p23 p24) ?_
    refine cSJ 12 rfl H [] h50 rfl Q35.spec Zp 0 fun r1 w48 H h51=>?_
    refine Zo [13,14] ?_
    refine Zt [0,1,10,11,129] ?_
    refine jIf H (fun c4 H=>?_) fun c4 H=>?_
    ·refine T5 (TW (Za [0,1,10,11] ?_))
     have h52:=(sOR h51 [0] [])
     exact ⟨k7,by omega,_,H,rfl,h52,by omega⟩
    refine TZ ?_
    have h53:=(sOR h51 [0] [])
    exact ⟨k7,x16,(!r1),rfl,h53,H,by omega⟩
   refine Zo [4,5,6,7,8,9,10,11,12,13,14] ?_
   refine Zt [0,1,10,11,129] ?_
   refine Z5 ?_
   refine TZ ?_
   have h54:=(sOR h50 [0] [])
   exact ⟨k7,x16,false,rfl,h54,H,by omega⟩
  rintro env w39 ⟨k6,x14,x15,rfl,h38,H,hk6⟩
  refine T4 (T4 (Za [0,1,10,11,134] ?_))
  refine jIf H (fun c2 H=>?_) fun c2 H=>?_
  ·refine TZ ?_
   have h39:=(sOR h38 [0] [])
   exact ⟨x9,x12,x14,(decide (x14<x12)),rfl,h39,H,e38⟩
  refine T5 (T4 ?_)
  obtain ⟨⟨p17,p18⟩,H⟩:=Zl H
  obtain ⟨⟨p19,p20⟩,H⟩:=Zl H
  refine T1 (fun env w=>env=[(0,.slice A1 ((x9.set x12.toNat (gt x9 x14)).set x14.toNat (gt x9 x12)).length c_1),(1,.int .i64 a1),(10,.int .i64 x12),(11,.int .i64 x14)]∧St w0 F0 [O33 ((x9.set x12.toNat (gt x9 x14)).set x14.toNat (gt x9 x12)) A1 c_1] [] w) ?_ ?_
  ·refine Zw (sO h38 []) ?_
   have h42:=h38.drew
   refine Zo [0,1,2,3,4,5,8,9] ?_
   have e42:=Zx h42.wh (gO 0) p17 p18
   refine Zf 6 rfl (Zg e42 p17 p18) ?_
   refine Zf 10 rfl (Zg e42 p19 p20) ?_
   refine TV [7,11] (i:=7) rfl rfl rfl rfl ?_
   refine (Yb ?_ (Yb ?_ Xg))
   ·refine hQS 7 rfl (Zh 0 h42.wht (gO 0) p17 p18) h42 1 fun h42=>?_
    refine hQ 11 rfl (Zh 0 h42.wht (gO 0) p19 p20) h42 1 fun h42=>?_
    refine Zf 12 rfl (Zg e42 p19 p20) ?_
    refine hS 13 rfl (Zm 0 (.int .u32) x12 (gt x9 x14) 0 h42 rfl p19 p20) 1 fun _ w42 h43=>?_
    have e43:(x9.set x12.toNat (gt x9 x14)).length=a0.length:=List.length_set.trans e38
    refine Zf 14 rfl (Zg e42 p17 p18) ?_
    refine hS 15 rfl (Zm 0 (.int .u32) x14 (gt x9 x12) 0 h43 rfl p17 (by simpa only [List.length_set] using p18)) 1 fun _ w43 h44=>?_
    have e44:((x9.set x12.toNat (gt x9 x14)).set x14.toNat (gt x9 x12)).length=a0.length:=List.length_set.trans e43
    refine Zt [0,1,10,11] ?_
    exact Zu ⟨(by simp only [List.length_set,List.length_nil] <;> rfl),((h44.only [0] rfl).rds [] rfl)⟩
   ·refine hQS 11 rfl (Zh 0 h42.wht (gO 0) p19 p20) h42 1 fun h42=>?_
    refine hQ 7 rfl (Zh 0 h42.wht (gO 0) p17 p18) h42 1 fun h42=>?_
    refine Zf 12 rfl (Zg e42 p19 p20) ?_
    refine hS 13 rfl (Zm 0 (.int .u32) x12 (gt x9 x14) 0 h42 rfl p19 p20) 1 fun _ w44 h45=>?_
    have e45:(x9.set x12.toNat (gt x9 x14)).length=a0.length:=List.length_set.trans e38
    refine Zf 14 rfl (Zg e42 p17 p18) ?_
    refine hS 15 rfl (Zm 0 (.int .u32) x14 (gt x9 x12) 0 h45 rfl p17 (by simpa only [List.length_set] using p18)) 1 fun _ w45 h46=>?_
    have e46:((x9.set x12.toNat (gt x9 x14)).set x14.toNat (gt x9 x12)).length=a0.length:=List.length_set.trans e45
    refine Zt [0,1,10,11] ?_
    exact Zu ⟨(by simp only [List.length_set,List.length_nil] <;> rfl),((h46.only [0] rfl).rds [] rfl)⟩
  rintro env w46 ⟨rfl,h47⟩
  have e47:((x9.set x12.toNat (gt x9 x14)).set x14.toNat (gt x9 x12)).length=a0.length:=by first | (simp only [List.length_set]; done) | (simp only [List.length_set]; exact e38)
  refine T4 (Za [0,1,10,11] ?_)
  refine Za [0,1,10,11] ?_
  have h48:=(sOR h47 [0] [])
  exact ⟨k6,by omega,_,_,_,H,rfl,h48,by omega,e47⟩
 rintro env w27 ⟨x5,x6,x7,x8,rfl,h27,H,e28⟩
 refine T4 ?_
 obtain ⟨⟨p13,p14⟩,H⟩:=Zl H
 obtain ⟨⟨p15,p16⟩,H⟩:=Zl H
 refine T1 (fun env w=>env=[(11,.int .i64 x7)]∧St w0 F0 [O33 ((x5.set x7.toNat (gt x5 a1)).set a1.toNat (gt x5 x7)) A1 c_1] [] w) ?_ ?_
 ·refine Zw (sO h27 []) ?_
  have h30:=h27.drew
  refine Zo [0,1,2,3,4,5,8,9] ?_
  have e32:=Zx h30.wh (gO 0) p13 p14
  refine Zf 6 rfl (Zg e32 p13 p14) ?_
  refine Zf 10 rfl (Zg e32 p15 p16) ?_
  refine TV [7,11] (i:=7) rfl rfl rfl rfl ?_
  refine (Yb ?_ (Yb ?_ Xg))
  ·refine hQS 7 rfl (Zh 0 h30.wht (gO 0) p13 p14) h30 1 fun h30=>?_
   refine hQ 11 rfl (Zh 0 h30.wht (gO 0) p15 p16) h30 1 fun h30=>?_
   refine Zf 12 rfl (Zg e32 p15 p16) ?_
   refine hS 13 rfl (Zm 0 (.int .u32) x7 (gt x5 a1) 0 h30 rfl p15 p16) 1 fun _ w30 h31=>?_
   have e33:(x5.set x7.toNat (gt x5 a1)).length=a0.length:=List.length_set.trans e28
   refine Zf 14 rfl (Zg e32 p13 p14) ?_
   refine hS 15 rfl (Zm 0 (.int .u32) a1 (gt x5 x7) 0 h31 rfl p13 (by simpa only [List.length_set] using p14)) 1 fun _ w31 h32=>?_
   have e34:((x5.set x7.toNat (gt x5 a1)).set a1.toNat (gt x5 x7)).length=a0.length:=List.length_set.trans e33
   refine Zt [11] ?_
   exact Zu ⟨(by simp only [List.length_set,List.length_nil] <;> rfl),((h32.only [0] rfl).rds [] rfl)⟩
  ·refine hQS 11 rfl (Zh 0 h30.wht (gO 0) p15 p16) h30 1 fun h30=>?_
   refine hQ 7 rfl (Zh 0 h30.wht (gO 0) p13 p14) h30 1 fun h30=>?_
   refine Zf 12 rfl (Zg e32 p15 p16) ?_
   refine hS 13 rfl (Zm 0 (.int .u32) x7 (gt x5 a1) 0 h30 rfl p15 p16) 1 fun _ w32 h33=>?_
   have e35:(x5.set x7.toNat (gt x5 a1)).length=a0.length:=List.length_set.trans e28
   refine Zf 14 rfl (Zg e32 p13 p14) ?_
   refine hS 15 rfl (Zm 0 (.int .u32) a1 (gt x5 x7) 0 h33 rfl p13 (by simpa only [List.length_set] using p14)) 1 fun _ w33 h34=>?_
   have e36:((x5.set x7.toNat (gt x5 a1)).set a1.toNat (gt x5 x7)).length=a0.length:=List.length_set.trans e35
   refine Zt [11] ?_
   exact Zu ⟨(by simp only [List.length_set,List.length_nil] <;> rfl),((h34.only [0] rfl).rds [] rfl)⟩
 rintro env w34 ⟨rfl,h35⟩
 have e37:((x5.set x7.toNat (gt x5 a1)).set a1.toNat (gt x5 x7)).length=a0.length:=by first | (simp only [List.length_set]; done) | (simp only [List.length_set]; exact e28)
 refine T4 (Za [8,9] ?_)
 cases H
 exact T3 (jR ⟨rfl,rfl,e37⟩ h35 [0])

def Q114.f (a0:Int):Option (Int):=(Q0.f (IntKind.u64.wrap (a0))).bind fun r1=>(if 0≤r1 then (some (IntKind.u64.wrap ((1:Int)*2 ^ (min r1.toNat 64)))) else none)
theorem Q114.spec {a0 r} (H:Q114.f a0=some r) :
  Spec Tryz.prog 248 [.int .i64 a0] [] [] (fun v l=>v=.int .u64 r∧l=[]):=by
 refine Zi Tryz.func248 fun w0 F0 h0=>?_
 unfold Q114.f at H
 refine T4 (Za [0] ?_)
 refine T4 (T2 ?_)
 refine Zd 2 ?_
 refine cS H [] h0 rfl Q0.spec Zp fun r1 w1 H h1=>?_
 obtain ⟨p1,H⟩:=Zl H
 refine Zc (Gc p1) ?_
 refine Ze [2] rfl ?_
 cases H
 exact T3 (jR0 h1 [])

def Q122.f (a0:Int):Option TS:=some ((IntKind.u64.wrap (((BitVec.ofInt IntKind.u64.bits (IntKind.u64.wrap (((BitVec.ofInt IntKind.u64.bits (IntKind.u64.wrap (((BitVec.ofInt IntKind.u64.bits a0 ^^^ (BitVec.ofInt IntKind.u64.bits (IntKind.u64.wrap (a0*2 ^ 13)))).toNat:Int))) ^^^ (BitVec.ofInt IntKind.u64.bits (Int.fdiv (IntKind.u64.wrap (((BitVec.ofInt IntKind.u64.bits a0 ^^^ (BitVec.ofInt IntKind.u64.bits (IntKind.u64.wrap (a0*2 ^ 13)))).toNat:Int))) (2 ^ 7)))).toNat:Int))) ^^^ (BitVec.ofInt IntKind.u64.bits (IntKind.u64.wrap ((IntKind.u64.wrap (((BitVec.ofInt IntKind.u64.bits (IntKind.u64.wrap (((BitVec.ofInt IntKind.u64.bits a0 ^^^ (BitVec.ofInt IntKind.u64.bits (IntKind.u64.wrap (a0*2 ^ 13)))).toNat:Int))) ^^^ (BitVec.ofInt IntKind.u64.bits (Int.fdiv (IntKind.u64.wrap (((BitVec.ofInt IntKind.u64.bits a0 ^^^ (BitVec.ofInt IntKind.u64.bits (IntKind.u64.wrap (a0*2 ^ 13)))).toNat:Int))) (2 ^ 7)))).toNat:Int)))*2 ^ 17)))).toNat:Int))),(IntKind.u64.wrap (((BitVec.ofInt IntKind.u64.bits (IntKind.u64.wrap (((BitVec.ofInt IntKind.u64.bits (IntKind.u64.wrap (((BitVec.ofInt IntKind.u64.bits a0 ^^^ (BitVec.ofInt IntKind.u64.bits (IntKind.u64.wrap (a0*2 ^ 13)))).toNat:Int))) ^^^ (BitVec.ofInt IntKind.u64.bits (Int.fdiv (IntKind.u64.wrap (((BitVec.ofInt IntKind.u64.bits a0 ^^^ (BitVec.ofInt IntKind.u64.bits (IntKind.u64.wrap (a0*2 ^ 13)))).toNat:Int))) (2 ^ 7)))).toNat:Int))) ^^^ (BitVec.ofInt IntKind.u64.bits (IntKind.u64.wrap ((IntKind.u64.wrap (((BitVec.ofInt IntKind.u64.bits (IntKind.u64.wrap (((BitVec.ofInt IntKind.u64.bits a0 ^^^ (BitVec.ofInt IntKind.u64.bits (IntKind.u64.wrap (a0*2 ^ 13)))).toNat:Int))) ^^^ (BitVec.ofInt IntKind.u64.bits (Int.fdiv (IntKind.u64.wrap (((BitVec.ofInt IntKind.u64.bits a0 ^^^ (BitVec.ofInt IntKind.u64.bits (IntKind.u64.wrap (a0*2 ^ 13)))).toNat:Int))) (2 ^ 7)))).toNat:Int)))*2 ^ 17)))).toNat:Int))))
theorem Q122.spec {a0 b1 r} (H:Q122.f a0=some r) :
  Spec Tryz.prog 249 [.pointer (some ⟨b1,0,none⟩)] [Zat b1 a0] [] (fun v l=>v=.int .u64 r.1∧l=[Zat b1 r.2]):=by
 refine Zi Tryz.func249 fun w0 F0 h0=>?_
 unfold Q122.f at H
 refine T4 (Za [0] ?_)
 refine T4 (T1 (fun env w=>env=[(0,.pointer (some ⟨b1,0,none⟩))]∧St w0 F0 [Zat b1 (IntKind.u64.wrap (((BitVec.ofInt IntKind.u64.bits a0 ^^^ (BitVec.ofInt IntKind.u64.bits (IntKind.u64.wrap (a0*2 ^ 13)))).toNat:Int)))] [] w) ?_ ?_)
 ·refine Zw (sO h0 []) ?_
  have h2:=h0.drew
  refine Zo [0,1,3,4] ?_
  refine TV [2,5] (i:=2) rfl rfl rfl rfl ?_
  refine (Yb ?_ (Yb ?_ Xg))
  ·refine hQS 2 rfl (Zb 0 h2.wht) h2 1 fun h2=>?_
   refine hQ 5 rfl (Zb 0 h2.wht) h2 1 fun h2=>?_
   refine Zo [6,7,8] ?_
   refine hS 9 rfl (Zs 0 h2) 1 fun _ w6 h3=>?_
   refine Zt [0] ?_
   exact Zu ⟨rfl,(sOR h3 [0] [])⟩
  ·refine hQS 5 rfl (Zb 0 h2.wht) h2 1 fun h2=>?_
   refine Zo [6] ?_
   refine hQ 2 rfl (Zb 0 h2.wht) h2 1 fun h2=>?_
   refine Zo [7,8] ?_
   refine hS 9 rfl (Zs 0 h2) 1 fun _ w9 h4=>?_
   refine Zt [0] ?_
   exact Zu ⟨rfl,(sOR h4 [0] [])⟩
 rintro env w10 ⟨rfl,h5⟩
 refine T4 (T1 (fun env w=>env=[(0,.pointer (some ⟨b1,0,none⟩))]∧St w0 F0 [Zat b1 (IntKind.u64.wrap (((BitVec.ofInt IntKind.u64.bits (IntKind.u64.wrap (((BitVec.ofInt IntKind.u64.bits a0 ^^^ (BitVec.ofInt IntKind.u64.bits (IntKind.u64.wrap (a0*2 ^ 13)))).toNat:Int))) ^^^ (BitVec.ofInt IntKind.u64.bits (Int.fdiv (IntKind.u64.wrap (((BitVec.ofInt IntKind.u64.bits a0 ^^^ (BitVec.ofInt IntKind.u64.bits (IntKind.u64.wrap (a0*2 ^ 13)))).toNat:Int))) (2 ^ 7)))).toNat:Int)))] [] w) ?_ ?_)
 ·refine Zw (sO h5 []) ?_
  have h7:=h5.drew
  refine Zo [0,1,3,4] ?_
  refine TV [2,5] (i:=2) rfl rfl rfl rfl ?_
  refine (Yb ?_ (Yb ?_ Xg))
  ·refine hQS 2 rfl (Zb 0 h7.wht) h7 1 fun h7=>?_
   refine hQ 5 rfl (Zb 0 h7.wht) h7 1 fun h7=>?_
   refine Zo [6,7,8] ?_
   refine hS 9 rfl (Zs 0 h7) 1 fun _ w16 h8=>?_
   refine Zt [0] ?_
   exact Zu ⟨rfl,(sOR h8 [0] [])⟩
  ·refine hQS 5 rfl (Zb 0 h7.wht) h7 1 fun h7=>?_
   refine Zo [6] ?_
   refine hQ 2 rfl (Zb 0 h7.wht) h7 1 fun h7=>?_
   refine Zo [7,8] ?_
   refine hS 9 rfl (Zs 0 h7) 1 fun _ w19 h9=>?_
   refine Zt [0] ?_
   exact Zu ⟨rfl,(sOR h9 [0] [])⟩
 rintro env w20 ⟨rfl,h10⟩
 refine T4 (T1 (fun env w=>env=[(0,.pointer (some ⟨b1,0,none⟩))]∧St w0 F0 [Zat b1 (IntKind.u64.wrap (((BitVec.ofInt IntKind.u64.bits (IntKind.u64.wrap (((BitVec.ofInt IntKind.u64.bits (IntKind.u64.wrap (((BitVec.ofInt IntKind.u64.bits a0 ^^^ (BitVec.ofInt IntKind.u64.bits (IntKind.u64.wrap (a0*2 ^ 13)))).toNat:Int))) ^^^ (BitVec.ofInt IntKind.u64.bits (Int.fdiv (IntKind.u64.wrap (((BitVec.ofInt IntKind.u64.bits a0 ^^^ (BitVec.ofInt IntKind.u64.bits (IntKind.u64.wrap (a0*2 ^ 13)))).toNat:Int))) (2 ^ 7)))).toNat:Int))) ^^^ (BitVec.ofInt IntKind.u64.bits (IntKind.u64.wrap ((IntKind.u64.wrap (((BitVec.ofInt IntKind.u64.bits (IntKind.u64.wrap (((BitVec.ofInt IntKind.u64.bits a0 ^^^ (BitVec.ofInt IntKind.u64.bits (IntKind.u64.wrap (a0*2 ^ 13)))).toNat:Int))) ^^^ (BitVec.ofInt IntKind.u64.bits (Int.fdiv (IntKind.u64.wrap (((BitVec.ofInt IntKind.u64.bits a0 ^^^ (BitVec.ofInt IntKind.u64.bits (IntKind.u64.wrap (a0*2 ^ 13)))).toNat:Int))) (2 ^ 7)))).toNat:Int)))*2 ^ 17)))).toNat:Int)))] [] w) ?_ ?_)
 ·refine Zw (sO h10 []) ?_
  have h12:=h10.drew
  refine Zo [0,1,3,4] ?_
  refine TV [2,5] (i:=2) rfl rfl rfl rfl ?_
  refine (Yb ?_ (Yb ?_ Xg))
  ·refine hQS 2 rfl (Zb 0 h12.wht) h12 1 fun h12=>?_
   refine hQ 5 rfl (Zb 0 h12.wht) h12 1 fun h12=>?_
   refine Zo [6,7,8] ?_
   refine hS 9 rfl (Zs 0 h12) 1 fun _ w26 h13=>?_
   refine Zt [0] ?_
   exact Zu ⟨rfl,(sOR h13 [0] [])⟩
  ·refine hQS 5 rfl (Zb 0 h12.wht) h12 1 fun h12=>?_
   refine Zo [6] ?_
   refine hQ 2 rfl (Zb 0 h12.wht) h12 1 fun h12=>?_
   refine Zo [7,8] ?_
   refine hS 9 rfl (Zs 0 h12) 1 fun _ w29 h14=>?_
   refine Zt [0] ?_
   exact Zu ⟨rfl,(sOR h14 [0] [])⟩
 rintro env w30 ⟨rfl,h15⟩
 refine T4 (T2 ?_)
 refine Zd 2 ?_
 refine Zc (Zb 0 h15.wht) ?_
 refine Ze [2] rfl ?_
 cases H
 exact T3 (jR0 h15 [0])

end Go.SK.T
