/- The types of the program, and its functions as the code computes them, each proved. -/
import Derived.Test.YtieiclhlfgohaaaGreatDoorXScanCorruptKF
import Derived.Test.YtieiclhlfgohaaaGreatDoorProg
import Derived.Shelf.Spec.TrailingZeros
set_option linter.unusedVariables false
set_option linter.unusedSimpArgs false
set_option maxRecDepth 20000
set_option maxHeartbeats 40000000
namespace Go.SK.T
open Go Go.SK Go.Proofs
abbrev uA:=IntKind.u8
abbrev uD:=IntKind.u32
abbrev uH:=IntKind.u64
abbrev iH:=IntKind.i64
open BitVec (ofInt)
open List (length_set length_nil append_assoc length_cons drop_eq_nil_of_le length_take length_drop length_map length_range length_replicate)
open Tryz (prog)
abbrev TX:=List Int
abbrev TW:=Int×Int
abbrev TV:=Int×Bool
abbrev TU:=List Value
abbrev TS:=List UInt8
abbrev TR:=List Int×Int
abbrev TQ:=Int×List Int
abbrev TP:=Bool×List Int
abbrev TO:=List UInt8×Int
abbrev TN:=List TW
abbrev TM:=List TS
abbrev TL:=Int×Int×List Int
abbrev TJ:=Int×Bool×List Int
abbrev TH:=TL
abbrev TG:=List (Int×Int×Bool)
abbrev TF:=List UInt8×List UInt8
abbrev TE:=Int×List Int×TW
abbrev TD:=List UInt8×Bool×List UInt8
abbrev TC:=List UInt8×List UInt8×Bool
abbrev TB:=TG×Int
abbrev TA:=List TF
abbrev Tz:=TA
abbrev Tx:=List (Int×List Int×Bool×Int)
abbrev Tw:=Int×TB
abbrev Tv:=List TD
abbrev Tu:=TC×Bool
abbrev Tt:=List Int×Int×TH
abbrev Ts:=Tv
abbrev Tr:=Int×Int×Int×Int×Int×Int×Int×Int
abbrev Tq:=TA×Tv×List Int×List Int
abbrev Tp:=Int×List Int×List TS×Tv×TA
abbrev Tn:=List Tp
abbrev Tm:=List Tn
abbrev Tl:=Tm
abbrev Tk:=Tp×TR
abbrev Tj:=TE×Tx×TN×List Int×TB
abbrev Ti:=Int×Tj
abbrev Th:=Tr×Tj×TH×Int
abbrev Tg:=Int×Th
abbrev Tf:=Int×Int×Th
abbrev Te:=Int×Bool×Th
abbrev Td:=Th×Int×TA
abbrev Tc:=Int×Td
abbrev Tb:=Tp×Int×Th
abbrev Ta:=Option Th×Int×Tm×Bool
abbrev TY:=@HJ.loads
abbrev TZ:=@HJ.pick
abbrev T0:=@HJ.run
abbrev T1:=@J.block
abbrev T2:=@J.cond
abbrev T3:=@J.envEq
abbrev T4:=@J.exit
abbrev T5:=@J.loop
abbrev T6:=@J.midS
abbrev T7:=@J.region
abbrev T8:=@J.ret
abbrev T9:=@J.seq
abbrev Sa:=@J.skip
abbrev Sb:=@Nat.le_refl
abbrev Sc:=@OpT.ofq
abbrev Sd:=@OptC.no
abbrev Se:=@OptC.yes
abbrev Sf:=@RJ.fin
abbrev Sg:=@RJ.know
abbrev Sh:=@RJ.run
abbrev Si:=@RV.cell
abbrev Sj:=@RV.tmp
def tt:TT:=[(1,⟨.func,1,8,.nilFunc⟩),
 (2,⟨.int .i64,1,8,.int .i64 0⟩),
 (3,⟨.int .i64,1,8,.int .i64 0⟩),
 (4,⟨.bool,1,1,.bool false⟩),
 (5,⟨.int .u8,1,1,.int .u8 0⟩),
 (6,⟨.int .u8,1,1,.int .u8 0⟩),
 (9,⟨.str,1,16,.string ⟨⟨[]⟩⟩⟩),
 (23,⟨.struct [(3,0,1),(3,1,1),(3,2,1),(3,3,1),(3,4,1),(3,5,1),(3,6,1),(3,7,1)],8,64,.agg #[.int .i64 0,.int .i64 0,.int .i64 0,.int .i64 0,.int .i64 0,.int .i64 0,.int .i64 0,.int .i64 0]⟩),
 (24,⟨.slice 47,1,24,.slice none 0 0⟩),
 (25,⟨.slice 69,1,24,.slice none 0 0⟩),
 (26,⟨.slice 5,1,24,.slice none 0 0⟩),
 (28,⟨.struct [(24,0,1),(25,1,1),(26,2,1),(26,3,1)],4,96,.agg #[.slice none 0 0,.slice none 0 0,.slice none 0 0,.slice none 0 0]⟩),
 (30,⟨.struct [(9,0,1),(9,1,1),(4,2,1)],3,40,.agg #[.string ⟨⟨[]⟩⟩,.string ⟨⟨[]⟩⟩,.bool false]⟩),
 (31,⟨.ptr 86,1,8,.pointer none⟩),
 (32,⟨.int .u32,1,4,.int .u32 0⟩),
 (33,⟨.slice 62,1,24,.slice none 0 0⟩),
 (38,⟨.int .i64,1,8,.int .i64 0⟩),
 (47,⟨.struct [(9,0,1),(9,1,1)],2,32,.agg #[.string ⟨⟨[]⟩⟩,.string ⟨⟨[]⟩⟩]⟩),
 (52,⟨.slice 32,1,24,.slice none 0 0⟩),
 (53,⟨.slice 9,1,24,.slice none 0 0⟩),
 (55,⟨.struct [(3,0,1),(52,1,1),(53,2,1),(25,3,1),(24,4,1)],5,104,.agg #[.int .i64 0,.slice none 0 0,.slice none 0 0,.slice none 0 0,.slice none 0 0]⟩),
 (62,⟨.slice 55,1,24,.slice none 0 0⟩),
 (63,⟨.int .u64,1,8,.int .u64 0⟩),
 (65,⟨.struct [(63,0,1),(63,1,1)],2,16,.agg #[.int .u64 0,.int .u64 0]⟩),
 (69,⟨.struct [(9,0,1),(4,1,1),(9,2,1)],3,40,.agg #[.string ⟨⟨[]⟩⟩,.bool false,.string ⟨⟨[]⟩⟩]⟩),
 (70,⟨.ptr 139,1,8,.pointer none⟩),
 (76,⟨.ptr 78,1,8,.pointer none⟩),
 (78,⟨.struct [(31,0,1),(3,1,1),(24,2,1)],3,40,.agg #[.pointer none,.int .i64 0,.slice none 0 0]⟩),
 (83,⟨.ptr 117,1,8,.pointer none⟩),
 (84,⟨.ptr 191,1,8,.pointer none⟩),
 (86,⟨.struct [(23,0,8),(70,8,1),(83,9,1),(84,10,1),(32,11,1)],12,96,.agg #[.int .i64 0,.int .i64 0,.int .i64 0,.int .i64 0,.int .i64 0,.int .i64 0,.int .i64 0,.int .i64 0,.pointer none,.pointer none,.pointer none,.int .u32 0]⟩),
 (112,⟨.slice 119,1,24,.slice none 0 0⟩),
 (113,⟨.map 32 3,1,8,.map none⟩),
 (114,⟨.slice 3,1,24,.slice none 0 0⟩),
 (115,⟨.ptr 166,1,8,.pointer none⟩),
 (117,⟨.struct [(70,0,1),(112,1,1),(113,2,1),(114,3,1),(115,4,1)],5,72,.agg #[.pointer none,.slice none 0 0,.map none,.slice none 0 0,.pointer none]⟩),
 (119,⟨.struct [(32,0,1),(26,1,1),(4,2,1),(3,3,1)],4,48,.agg #[.int .u32 0,.slice none 0 0,.bool false,.int .i64 0]⟩),
 (123,⟨.ptr 119,1,8,.pointer none⟩),
 (128,⟨.ptr 171,1,8,.pointer none⟩),
 (137,⟨.func,1,8,.nilFunc⟩),
 (139,⟨.struct [(3,0,1),(26,1,1),(65,2,2)],4,48,.agg #[.int .i64 0,.slice none 0 0,.int .u64 0,.int .u64 0]⟩),
 (152,⟨.func,1,8,.nilFunc⟩),
 (154,⟨.func,1,8,.nilFunc⟩),
 (155,⟨.func,1,8,.nilFunc⟩),
 (163,⟨.struct [(3,0,1),(3,1,1),(4,2,1)],3,24,.agg #[.int .i64 0,.int .i64 0,.bool false]⟩),
 (164,⟨.slice 163,1,24,.slice none 0 0⟩),
 (166,⟨.struct [(164,0,1),(3,1,1)],2,32,.agg #[.slice none 0 0,.int .i64 0]⟩),
 (171,⟨.struct [(26,0,1),(38,1,1)],2,32,.agg #[.slice none 0 0,.int .i64 0]⟩),
 (174,⟨.int .u64,1,8,.int .u64 0⟩),
 (176,⟨.func,1,8,.nilFunc⟩),
 (187,⟨.ptr 212,1,8,.pointer none⟩),
 (191,⟨.struct [(187,0,1)],1,8,.agg #[.pointer none]⟩),
 (198,⟨.func,1,8,.nilFunc⟩),
 (202,⟨.func,1,8,.nilFunc⟩),
 (206,⟨.func,1,8,.nilFunc⟩),
 (209,⟨.func,1,8,.nilFunc⟩),
 (210,⟨.slice 63,1,24,.slice none 0 0⟩),
 (212,⟨.struct [(3,0,1),(3,1,1),(210,2,1)],3,40,.agg #[.int .i64 0,.int .i64 0,.slice none 0 0]⟩),
 (226,⟨.int .i64,1,8,.int .i64 0⟩),
 (235,⟨.int .u64,1,8,.int .u64 0⟩),
 (239,⟨.ptr 3,1,8,.pointer none⟩),
 (242,⟨.ptr 235,1,8,.pointer none⟩)]
theorem Z6:Yl prog tt:=by
 refine ttC ⟨_,_,_,Tryz.underlying1⟩ ?_
 refine ttC Tryz.underlying2 ?_
 refine ttC Tryz.underlying3 ?_
 refine ttC Tryz.underlying4 ?_
 refine ttC Tryz.underlying5 ?_
 refine ttC Tryz.underlying6 ?_
 refine ttC Tryz.underlying9 ?_
 refine ttS Tryz.underlying23 ?_
 refine ttC Tryz.underlying24 ?_
 refine ttC Tryz.underlying25 ?_
 refine ttC Tryz.underlying26 ?_
 refine ttS Tryz.underlying28 ?_
 refine ttS Tryz.underlying30 ?_
 refine ttC Tryz.underlying31 ?_
 refine ttC Tryz.underlying32 ?_
 refine ttC Tryz.underlying33 ?_
 refine ttC Tryz.underlying38 ?_
 refine ttS Tryz.underlying47 ?_
 refine ttC Tryz.underlying52 ?_
 refine ttC Tryz.underlying53 ?_
 refine ttS Tryz.underlying55 ?_
 refine ttC Tryz.underlying62 ?_
 refine ttC Tryz.underlying63 ?_
 refine ttS Tryz.underlying65 ?_
 refine ttS Tryz.underlying69 ?_
 refine ttC Tryz.underlying70 ?_
 refine ttC Tryz.underlying76 ?_
 refine ttS Tryz.underlying78 ?_
 refine ttC Tryz.underlying83 ?_
 refine ttC Tryz.underlying84 ?_
 refine ttS Tryz.underlying86 ?_
 refine ttC Tryz.underlying112 ?_
 refine ttC Tryz.underlying113 ?_
 refine ttC Tryz.underlying114 ?_
 refine ttC Tryz.underlying115 ?_
 refine ttS Tryz.underlying117 ?_
 refine ttS Tryz.underlying119 ?_
 refine ttC Tryz.underlying123 ?_
 refine ttC Tryz.underlying128 ?_
 refine ttC ⟨_,_,_,Tryz.underlying137⟩ ?_
 refine ttS Tryz.underlying139 ?_
 refine ttC ⟨_,_,_,Tryz.underlying152⟩ ?_
 refine ttC ⟨_,_,_,Tryz.underlying154⟩ ?_
 refine ttC ⟨_,_,_,Tryz.underlying155⟩ ?_
 refine ttS Tryz.underlying163 ?_
 refine ttC Tryz.underlying164 ?_
 refine ttS Tryz.underlying166 ?_
 refine ttS Tryz.underlying171 ?_
 refine ttC Tryz.underlying174 ?_
 refine ttC ⟨_,_,_,Tryz.underlying176⟩ ?_
 refine ttC Tryz.underlying187 ?_
 refine ttS Tryz.underlying191 ?_
 refine ttC ⟨_,_,_,Tryz.underlying198⟩ ?_
 refine ttC ⟨_,_,_,Tryz.underlying202⟩ ?_
 refine ttC ⟨_,_,_,Tryz.underlying206⟩ ?_
 refine ttC ⟨_,_,_,Tryz.underlying209⟩ ?_
 refine ttC Tryz.underlying210 ?_
 refine ttS Tryz.underlying212 ?_
 refine ttC Tryz.underlying226 ?_
 refine ttC Tryz.underlying235 ?_
 refine ttC Tryz.underlying239 ?_
 refine ttC Tryz.underlying242 ?_
 exact Zn2 _
theorem mix:prog.follows .mixedOrders=true:=by kernel_rfl
instance:TTI prog tt:=⟨Z6,mix⟩
abbrev X23 (b:Nat) (p0:Int) (p1:Int) (p2:Int) (p3:Int) (p4:Int) (p5:Int) (p6:Int) (p7:Int):Ch:=Yu b 23 [.int .i64 p0,.int .i64 p1,.int .i64 p2,.int .i64 p3,.int .i64 p4,.int .i64 p5,.int .i64 p6,.int .i64 p7]
abbrev X28 (b:Nat) (p0:TA) (A0:Option Addr) (c0:Nat) (p1:Tv) (A1:Option Addr) (c1:Nat) (p2:TX) (A2:Option Addr) (c2:Nat) (p3:TX) (A3:Option Addr) (c3:Nat):Ch:=Yu b 28 [.slice A0 p0.length c0,.slice A1 p1.length c1,.slice A2 p2.length c2,.slice A3 p3.length c3]
abbrev X55 (b:Nat) (p0:Int) (p1:TX) (A1:Option Addr) (c1:Nat) (p2:TM) (A2:Option Addr) (c2:Nat) (p3:Tv) (A3:Option Addr) (c3:Nat) (p4:TA) (A4:Option Addr) (c4:Nat):Ch:=Yu b 55 [.int .i64 p0,.slice A1 p1.length c1,.slice A2 p2.length c2,.slice A3 p3.length c3,.slice A4 p4.length c4]
abbrev X30 (b:Nat) (p0:TS) (p1:TS) (p2:Bool):Ch:=Yu b 30 [.string ⟨⟨p0⟩⟩,.string ⟨⟨p1⟩⟩,.bool p2]
abbrev R47 (x:TA) (A:Option Addr) (c:Nat):Ch:=rdC 47 (.pair .str .str) x (.slice A x.length c)
abbrev R69 (x:Tv) (A:Option Addr) (c:Nat):Ch:=rdC 69 (.pair .str (.pair .bool .str)) x (.slice A x.length c)
abbrev R5 (x:TX) (A:Option Addr) (c:Nat):Ch:=rdC 5 (.int .u8) x (.slice A x.length c)
abbrev O5 (x:TX) (A:Option Addr) (c:Nat):Ch:=Yg 5 (.int .u8) x (.slice A x.length c)
abbrev Xd (b:Nat) (p0:Int) (p1:TX) (A1:Option Addr) (c1:Nat) (p2:Int) (p3:Int):Ch:=Yu b 139 [.int .i64 p0,.slice A1 p1.length c1,.int .u64 p2,.int .u64 p3]
abbrev Za5 (x:TE) (b1:Nat) (A1:Option Addr) (c1:Nat):List Ch:=[Xd b1 x.1 x.2.1 A1 c1 x.2.2.1 x.2.2.2,O5 x.2.1 A1 c1]
abbrev Y1 (x:TG) (A:Option Addr) (c:Nat):Ch:=Yg 163 (.pair (.int .i64) (.pair (.int .i64) .bool)) x (.slice A x.length c)
abbrev Y0 (b:Nat) (p0:TG) (A0:Option Addr) (c0:Nat) (p1:Int):Ch:=Yu b 166 [.slice A0 p0.length c0,.int .i64 p1]
abbrev Xs (x:Tx) (A:Option Addr) (c:Nat):Ch:=Yg 119 (.pair (.int .u32) (.pair (.slice 5 (.int .u8)) (.pair .bool (.int .i64)))) x (.slice A x.length c)
abbrev Xr (b:Nat) (p0:Value) (p1:Tx) (A1:Option Addr) (c1:Nat) (p2:Value) (p3:TX) (A3:Option Addr) (c3:Nat) (p4:Value):Ch:=Yu b 117 [p0,.slice A1 p1.length c1,p2,.slice A3 p3.length c3,p4]
abbrev O3 (x:TX) (A:Option Addr) (c:Nat):Ch:=Yg 3 (.int .i64) x (.slice A x.length c)
abbrev O63 (x:TX) (A:Option Addr) (c:Nat):Ch:=Yg 63 (.int .u64) x (.slice A x.length c)
abbrev X4 (b:Nat) (p0:Int) (p1:Int) (p2:TX) (A2:Option Addr) (c2:Nat):Ch:=Yu b 212 [.int .i64 p0,.int .i64 p1,.slice A2 p2.length c2]
abbrev Ve (x:TL) (b1:Nat) (A1:Option Addr) (c1:Nat):List Ch:=[X4 b1 x.1 x.2.1 x.2.2 A1 c1,O63 x.2.2 A1 c1]
abbrev Vv (b:Nat) (p0:Value):Ch:=Yu b 191 [p0]
abbrev X86 (b:Nat) (p0:Int) (p1:Int) (p2:Int) (p3:Int) (p4:Int) (p5:Int) (p6:Int) (p7:Int) (p8:Value) (p9:Value) (p10:Value) (p11:Int):Ch:=Yu b 86 [.int .i64 p0,.int .i64 p1,.int .i64 p2,.int .i64 p3,.int .i64 p4,.int .i64 p5,.int .i64 p6,.int .i64 p7,p8,p9,p10,.int .u32 p11]
abbrev O47 (x:TA) (A:Option Addr) (c:Nat):Ch:=Yg 47 (.pair .str .str) x (.slice A x.length c)
abbrev M55 (x:Tn) (A:Option Addr) (c:Nat) (l:TU):Ch:=X7 55 5 x.length l (.slice A x.length c)
abbrev O9 (x:TM) (A:Option Addr) (c:Nat):Ch:=Yg 9 .str x (.slice A x.length c)
abbrev E55 (x:Tn) (l:TU):Ch:=esC (.pair (.int .i64) (.pair (.slice 32 (.int .u32)) (.pair (.slice 9 .str) (.pair (.slice 69 (.pair .str (.pair .bool .str))) (.slice 47 (.pair .str .str)))))) x l
abbrev R55 (x:Tn) (A:Option Addr) (c:Nat):Ch:=rdC 55 (.pair (.int .i64) (.pair (.slice 32 (.int .u32)) (.pair (.slice 9 .str) (.pair (.slice 69 (.pair .str (.pair .bool .str))) (.slice 47 (.pair .str .str)))))) x (.slice A x.length c)
abbrev N62 (x:Tm) (A:Option Addr) (c:Nat) (l:List TU):Ch:=Vt 62 55 5 (Y5 x) l (.slice A x.length c)
abbrev O32 (x:TX) (A:Option Addr) (c:Nat):Ch:=Yg 32 (.int .u32) x (.slice A x.length c)
abbrev V62 (x:Tm) (l:List TU):Ch:=Bj (.pair (.int .i64) (.pair (.slice 32 (.int .u32)) (.pair (.slice 9 .str) (.pair (.slice 69 (.pair .str (.pair .bool .str))) (.slice 47 (.pair .str .str)))))) x l
abbrev R9 (x:TM) (A:Option Addr) (c:Nat):Ch:=rdC 9 .str x (.slice A x.length c)
abbrev R32 (x:TX) (A:Option Addr) (c:Nat):Ch:=rdC 32 (.int .u32) x (.slice A x.length c)
abbrev O69 (x:Tv) (A:Option Addr) (c:Nat):Ch:=Yg 69 (.pair .str (.pair .bool .str)) x (.slice A x.length c)
abbrev X69 (b:Nat) (p0:TS) (p1:Bool) (p2:TS):Ch:=Yu b 69 [.string ⟨⟨p0⟩⟩,.bool p1,.string ⟨⟨p2⟩⟩]
abbrev W62 (x:Tm) (A:Option Addr) (c:Nat) (l:List TU) (i:Int) (A2:Option Addr) (c2:Nat):Ch:=Ui 62 55 5 (Y5 x) l (.slice A x.length c) i (gt x i).length A2 c2
abbrev R62 (x:Tm) (A:Option Addr) (c:Nat):Ch:=rdC 62 (.slice 55 (.pair (.int .i64) (.pair (.slice 32 (.int .u32)) (.pair (.slice 9 .str) (.pair (.slice 69 (.pair .str (.pair .bool .str))) (.slice 47 (.pair .str .str))))))) x (.slice A x.length c)
abbrev Vk (x:Th) (b1 b2 b3 b4 b5 b6 b7:Nat) (A1 A2 A3 A4 A5:Option Addr) (c1 c2 c3 c4 c5:Nat):List Ch:=[X86 b1 x.1.1 x.1.2.1 x.1.2.2.1 x.1.2.2.2.1 x.1.2.2.2.2.1 x.1.2.2.2.2.2.1 x.1.2.2.2.2.2.2.1 x.1.2.2.2.2.2.2.2 (.pointer (some ⟨b3,0,none⟩)) (.pointer (some ⟨b2,0,none⟩)) (.pointer (some ⟨b6,0,none⟩)) x.2.2.2,Xr b2 (.pointer (some ⟨b3,0,none⟩)) x.2.1.2.1 A2 c2 (.map (some b4)) x.2.1.2.2.2.1 A3 c3 (.pointer (some ⟨b5,0,none⟩)),Xd b3 x.2.1.1.1 x.2.1.1.2.1 A1 c1 x.2.1.1.2.2.1 x.2.1.1.2.2.2,O5 x.2.1.1.2.1 A1 c1,Xs x.2.1.2.1 A2 c2,Y8 .u32 (Value.int .i64) b4 x.2.1.2.2.1,O3 x.2.1.2.2.2.1 A3 c3,Y0 b5 x.2.1.2.2.2.2.1 A4 c4 x.2.1.2.2.2.2.2,Y1 x.2.1.2.2.2.2.1 A4 c4,Vv b6 (.pointer (some ⟨b7,0,none⟩)),X4 b7 x.2.2.1.1 x.2.2.1.2.1 x.2.2.1.2.2 A5 c5,O63 x.2.2.1.2.2 A5 c5]
abbrev X47 (b:Nat) (p0:TS) (p1:TS):Ch:=Yu b 47 [.string ⟨⟨p0⟩⟩,.string ⟨⟨p1⟩⟩]
abbrev X3 (b:Nat) (p0:Int):Ch:=Yu b 3 [.int .i64 p0]
abbrev Zcz (b:Nat) (p0:Int):Ch:=Yu b 235 [.int .u64 p0]
abbrev Bb (x:TH) (b1 b2:Nat) (A1:Option Addr) (c1:Nat):List Ch:=[Vv b1 (.pointer (some ⟨b2,0,none⟩)),X4 b2 x.1 x.2.1 x.2.2 A1 c1,O63 x.2.2 A1 c1]
abbrev Vz (x:Tj) (b1 b2 b3 b4:Nat) (A1 A2 A3 A4:Option Addr) (c1 c2 c3 c4:Nat):List Ch:=[Xr b1 (.pointer (some ⟨b2,0,none⟩)) x.2.1 A2 c2 (.map (some b3)) x.2.2.2.1 A3 c3 (.pointer (some ⟨b4,0,none⟩)),Xd b2 x.1.1 x.1.2.1 A1 c1 x.1.2.2.1 x.1.2.2.2,O5 x.1.2.1 A1 c1,Xs x.2.1 A2 c2,Y8 .u32 (Value.int .i64) b3 x.2.2.1,O3 x.2.2.2.1 A3 c3,Y0 b4 x.2.2.2.2.1 A4 c4 x.2.2.2.2.2,Y1 x.2.2.2.2.1 A4 c4]
abbrev Vf (x:TB) (b1:Nat) (A1:Option Addr) (c1:Nat):List Ch:=[Y0 b1 x.1 A1 c1 x.2,Y1 x.1 A1 c1]
abbrev Zek (b:Nat) (p0:Int) (p1:Int) (p2:Bool):Ch:=Yu b 163 [.int .i64 p0,.int .i64 p1,.bool p2]
abbrev Zkz (b:Nat) (p0:Int) (p1:TX) (A1:Option Addr) (c1:Nat) (p2:Bool) (p3:Int):Ch:=Yu b 119 [.int .u32 p0,.slice A1 p1.length c1,.bool p2,.int .i64 p3]
abbrev X78 (b:Nat) (p0:Value) (p1:Int) (p2:TA) (A2:Option Addr) (c2:Nat):Ch:=Yu b 78 [p0,.int .i64 p1,.slice A2 p2.length c2]
abbrev Zkl (x:Td) (b1 b2 b3 b4 b5 b6 b7 b8:Nat) (A1 A2 A3 A4 A5 A6:Option Addr) (c1 c2 c3 c4 c5 c6:Nat):List Ch:=[X78 b1 (.pointer (some ⟨b2,0,none⟩)) x.2.1 x.2.2 A6 c6,X86 b2 x.1.1.1 x.1.1.2.1 x.1.1.2.2.1 x.1.1.2.2.2.1 x.1.1.2.2.2.2.1 x.1.1.2.2.2.2.2.1 x.1.1.2.2.2.2.2.2.1 x.1.1.2.2.2.2.2.2.2 (.pointer (some ⟨b4,0,none⟩)) (.pointer (some ⟨b3,0,none⟩)) (.pointer (some ⟨b7,0,none⟩)) x.1.2.2.2,Xr b3 (.pointer (some ⟨b4,0,none⟩)) x.1.2.1.2.1 A2 c2 (.map (some b5)) x.1.2.1.2.2.2.1 A3 c3 (.pointer (some ⟨b6,0,none⟩)),Xd b4 x.1.2.1.1.1 x.1.2.1.1.2.1 A1 c1 x.1.2.1.1.2.2.1 x.1.2.1.1.2.2.2,O5 x.1.2.1.1.2.1 A1 c1,Xs x.1.2.1.2.1 A2 c2,Y8 .u32 (Value.int .i64) b5 x.1.2.1.2.2.1,O3 x.1.2.1.2.2.2.1 A3 c3,Y0 b6 x.1.2.1.2.2.2.2.1 A4 c4 x.1.2.1.2.2.2.2.2,Y1 x.1.2.1.2.2.2.2.1 A4 c4,Vv b7 (.pointer (some ⟨b8,0,none⟩)),X4 b8 x.1.2.2.1.1 x.1.2.2.1.2.1 x.1.2.2.1.2.2 A5 c5,O63 x.1.2.2.1.2.2 A5 c5,O47 x.2.2 A6 c6]
abbrev Wj (b:Nat) (p0:TX) (A0:Option Addr) (c0:Nat) (p1:Int):Ch:=Yu b 171 [.slice A0 p0.length c0,.int .i64 p1]
theorem Zqw:CmpStr prog 174:=CmpStr.of Tryz.func174 (by kernel_rfl) (by kernel_rfl) (by kernel_rfl) rfl
def tzR:Go.Shelf.Ren:={ f:=fun _=>177,t:=fun n=>if n=3 then 3 else if n=4 then 4 else if n=5 then 5 else if n=22 then 63 else if n=25 then 174 else if n=54 then 234 else 0,g:=fun _=>1 }
theorem tzL:Go.Proofs.Lays7.n29 prog tzR where
 mixed:=mix
 f29:=by kernel_rfl
 t0:=by kernel_rfl
 a0:=fun _=>by kernel_rfl
 z0:=fun _=>by kernel_rfl
 v0:=fun _=>by kernel_rfl
 i0:=by kernel_rfl
 t3:=by kernel_rfl
 a3:=fun _=>by kernel_rfl
 z3:=fun _=>by kernel_rfl
 v3:=fun _=>by kernel_rfl
 i3:=by kernel_rfl
 t4:=by kernel_rfl
 a4:=fun _=>by kernel_rfl
 z4:=fun _=>by kernel_rfl
 v4:=fun _=>by kernel_rfl
 i4:=by kernel_rfl
 t5:=by kernel_rfl
 a5:=fun _=>by kernel_rfl
 z5:=fun _=>by kernel_rfl
 v5:=fun _=>by kernel_rfl
 i5:=by kernel_rfl
 t22:=by kernel_rfl
 a22:=fun _=>by kernel_rfl
 z22:=fun _=>by kernel_rfl
 v22:=fun _=>by kernel_rfl
 i22:=by kernel_rfl
 t25:=by kernel_rfl
 a25:=fun _=>by kernel_rfl
 z25:=fun _=>by kernel_rfl
 v25:=fun _=>by kernel_rfl
 i25:=by kernel_rfl
 t54:=by kernel_rfl
 a54:=fun _=>by kernel_rfl
 z54:=fun _=>by kernel_rfl
 g1:=by kernel_rfl
def tzI (x:Int):Int:=((Go.Lib.ctz 64 x.toNat:Nat):Int)
def tabC (g:Nat):Ch where
 ok w F:=F g/\Go.Proofs.TabAt g Go.Lib.deBruijn64tab w
 stable:=fun {w w' F} hs h=>⟨h.1,fun j hj=>by
  have:=h.2 j hj
  unfold World.cell? at this ⊢
  rw [hs g h.1]
  exact this⟩
theorem tz64.spec {x:Int} (h0:0<=x) (h1:x<18446744073709551616):Spec prog 177 [.int .u64 x] [] [tabC 1] (fun v l=>v=.int .i64 (tzI x)/\l=[]):=by
 refine ⟨⟨_,Tryz.func177,by kernel_rfl,by kernel_rfl⟩,fun w F hs hb hrd=>?_⟩
 obtain ⟨n,rfl⟩:=Int.eq_ofNat_of_zero_le h0
 obtain ⟨R,hR,_⟩:=hrd _ (List.mem_singleton.2 rfl)
 have:=Go.Proofs.Any7.bits_TrailingZeros64 tzL n (by omega) w (fun _=>hR.2)
 refine this.mono fun e w' ⟨he,hw⟩=>?_
 subst hw
 refine ⟨_,[],fun _=>False,he,⟨rfl,rfl⟩,Chg.refl _ _,?_,fun b h=>h.elim⟩
 trivial

def Q149.f (a0:Int) (a1:Int) (a2:Int):Option (Bool):=if (decide (a1<=a0))=true then (some (decide (a0<=a2))) else (some false)
theorem Q149.spec {a0 a1 a2 r} (H:Q149.f a0 a1 a2=some r) :
  Spec prog 78 [.int .i64 a0,.int .i64 a1,.int .i64 a2] [] [] (fun v l=>v=.bool r/\l=[]):=by
 refine Zi Tryz.func78 fun w0 F0 h0=>?_
 unfold Q149.f at H
 refine T9 (Zb [0,1,2] ?_)
 refine T9 (T7 ?_)
 refine Zd 4 ?_
 refine Z7 10 H (fun c1 H=>?_) fun c1 H=>?_
 ·refine Ze [6] rfl ?_
  cases H
  exact T8 (jR0 h0 [])
 refine Ze [6] rfl ?_
 cases H
 exact T8 (jR0 h0 [])

def Q148.f (a0:Tr):Option (Bool):=(Q149.f a0.2.2.2.1 8 64).bind fun r1=>(if (!r1)=true then (some false) else ((Q149.f a0.2.2.2.2.2.2.1 1 64).bind fun r2=>(if (!r2)=true then (some false) else ((Q149.f a0.2.2.2.2.2.2.2 0 256).bind fun r3=>(if (!r3)=true then (some false) else ((Q149.f a0.2.2.2.2.1 (w64 (2*a0.2.2.2.1)) 512).bind fun r4=>(if r4=true then ((Q149.f a0.2.2.2.2.2.1 a0.2.2.2.2.1 1024).bind fun r5=>(some r5)) else (some false))))))))
theorem Q148.spec {a0 r} (H:Q148.f a0=some r) :
  Spec prog 77 [.agg #[.int .i64 a0.1,.int .i64 a0.2.1,.int .i64 a0.2.2.1,.int .i64 a0.2.2.2.1,.int .i64 a0.2.2.2.2.1,.int .i64 a0.2.2.2.2.2.1,.int .i64 a0.2.2.2.2.2.2.1,.int .i64 a0.2.2.2.2.2.2.2]] [] [] (fun v l=>v=.bool r/\l=[]):=by
 refine Zi Tryz.func77 fun w0 F0 h0=>?_
 unfold Q148.f at H
 refine T9 (T7 ?_)
 refine rB (Z8 h0) fun b1 w1 h1=>?_
 refine Ze [1] rfl ?_
 refine T9 (T9 (T7 ?_))
 refine Zd 1 ?_
 refine Zc (Za 0 h1.wht) ?_
 refine cS H [] h1 rfl Q149.spec Zo fun r1 w2 H h2=>?_
 refine Zd 2 ?_
 refine Z7 7 H (fun c1 H=>?_) fun c1 H=>?_
 ·refine Ze [1,18] rfl ?_
  refine Zq ?_
  refine T9 (Zb [2] ?_)
  cases H
  exact T8 (jR0 h2 [])
 refine Zd 1 ?_
 refine Zc (Za 0 h2.wht) ?_
 refine cS H [] h2 rfl Q149.spec Zo fun r2 w3 H h3=>?_
 refine Zd 3 ?_
 refine Z7 13 H (fun c2 H=>?_) fun c2 H=>?_
 ·refine Ze [1,18] rfl ?_
  refine Zq ?_
  refine T9 (Zb [2] ?_)
  cases H
  exact T8 (jR0 h3 [])
 refine Zd 1 ?_
 refine Zc (Za 0 h3.wht) ?_
 refine cS H [] h3 rfl Q149.spec Zo fun r3 w4 H h4=>?_
 refine Ze [1,18] rfl ?_
 refine jIf H (fun c3 H=>?_) fun c3 H=>?_
 ·refine T9 (Zb [2] ?_)
  cases H
  exact T8 (jR0 h4 [])
 refine Sa (T9 (T7 ?_))
 refine Zd 1 ?_
 refine Zc (Za 0 h4.wht) ?_
 refine Zd 1 ?_
 refine Zc (Za 0 h4.wht) ?_
 refine Zd 1 ?_
 refine cS H [] h4 rfl Q149.spec Zo fun r4 w5 H h5=>?_
 refine Zd 1 ?_
 refine Z7 25 H (fun c4 H=>?_) fun c4 H=>?_
 ·refine Zd 1 ?_
  refine Zc (Za 0 h5.wht) ?_
  refine Zd 1 ?_
  refine Zc (Za 0 h5.wht) ?_
  refine cS H [] h5 rfl Q149.spec Zo fun r5 w6 H h6=>?_
  refine Ze [2] rfl ?_
  cases H
  exact T8 (jR0 h6 [])
 refine Ze [2] rfl ?_
 cases H
 exact T8 (jR0 h5 [])

def Q145.l1:Nat->Tr->(Int)->(Int)->Option (Int)
 | 0,_,_,_=>none
 | k+1,a0,x3,x4=>if (decide (x4<a0.2.2.2.2.1))=true then (Q145.l1 k a0 (w64 ((w64 ((w64 (x3+4))+a0.2.2.2.2.2.2.1))+a0.2.2.2.2.2.2.2)) (w64 (x4+1))) else (some x3)
def Q145.l0:Nat->Tr->(Int)->(Int)->Option (Int)
 | 0,_,_,_=>none
 | k+1,a0,x1,x2=>if (decide (x2<a0.2.2.2.1))=true then (if (decide (0<x2))=true then (Q145.l0 k a0 (w64 ((w64 ((w64 (x1+4))+1))+a0.2.2.2.2.2.2.1)) (w64 (x2+1))) else (Q145.l0 k a0 (w64 (x1+4)) (w64 (x2+1)))) else (Q145.l1 k a0 x1 0)
def Q145.f (k:Nat) (a0:Tr):Option (Int):=(Q148.f a0).bind fun r1=>(if (!r1)=true then (some 0) else (Q145.l0 k a0 8 0))
theorem Q145.spec {k a0 r} (H:Q145.f k a0=some r) :
  Spec prog 79 [.agg #[.int .i64 a0.1,.int .i64 a0.2.1,.int .i64 a0.2.2.1,.int .i64 a0.2.2.2.1,.int .i64 a0.2.2.2.2.1,.int .i64 a0.2.2.2.2.2.1,.int .i64 a0.2.2.2.2.2.2.1,.int .i64 a0.2.2.2.2.2.2.2]] [] [] (fun v l=>v=.int .i64 r/\l=[]):=by
 refine Zi Tryz.func79 fun w0 F0 h0=>?_
 unfold Q145.f at H
 refine T9 (T7 ?_)
 refine rB (Z8 h0) fun b1 w1 h1=>?_
 refine Ze [1] rfl ?_
 refine T9 (T9 (T7 ?_))
 refine Zc (Za 0 h1.wht) ?_
 refine cS H [] h1 rfl Q148.spec Zo fun r1 w2 H h2=>?_
 refine Ze [1,8] rfl ?_
 refine jIf H (fun c1 H=>?_) fun c1 H=>?_
 ·refine T9 (Zb [2] ?_)
  cases H
  exact T8 (jR0 h2 [])
 refine Sa (T9 (Zb [1,3] ?_))
 refine T9 (T9 (Zb [1,3,4] ?_))
 refine T1 ?_
 have h9:=(sOR h2 [0] [])
 refine T5 (fun kk env w=>∃ x1 x2,Q145.l0 kk a0 x1 x2=some r/\env=[(1,.pointer (some ⟨b1,0,none⟩)),(3,.int .i64 x1),(4,.int .i64 x2)]/\St w0 F0 [X23 b1 a0.1 a0.2.1 a0.2.2.1 a0.2.2.2.1 a0.2.2.2.2.1 a0.2.2.2.2.2.1 a0.2.2.2.2.2.2.1 a0.2.2.2.2.2.2.2] [] w) (k:=k) ⟨_,_,H,rfl,h9⟩ ?_
 rintro k1 env w3 ⟨x1,x2,H,rfl,h3⟩
 rcases k1 with _ | k1
 ·exact z0 H
 rw [Q145.l0] at H
 refine T9 (T9 (T7 ?_))
 refine Zd 2 ?_
 refine Zc (Za 0 h3.wht) ?_
 refine Ze [1,3,4,12] rfl ?_
 refine jIf H (fun c2 H=>?_) fun c2 H=>?_
 ·refine Sa (T9 (T1 (T9 (Zb [1,3,4] ?_))))
  refine T9 (Zb [1,3,4,18] ?_)
  refine jIf H (fun c3 H=>?_) fun c3 H=>?_
  ·refine T7 (Zd 3 ?_)
   refine Zc (Za 0 h3.wht) ?_
   refine Ze [1,3,4] rfl ?_
   refine Zb [1,3,4] ?_
   have h4:=(sOR h3 [0] [])
   exact ⟨k1,by omega,_,_,H,rfl,h4⟩
  refine Sa (Zb [1,3,4] ?_)
  have h5:=(sOR h3 [0] [])
  exact ⟨k1,by omega,_,_,H,rfl,h5⟩
 refine T4 (T9 (T9 (Zb [1,3,5] ?_)))
 refine T1 ?_
 have h8:=(sOR h3 [0] [])
 refine T5 (fun kk env w=>∃ x3 x4,Q145.l1 kk a0 x3 x4=some r/\env=[(1,.pointer (some ⟨b1,0,none⟩)),(3,.int .i64 x3),(5,.int .i64 x4)]/\St w0 F0 [X23 b1 a0.1 a0.2.1 a0.2.2.1 a0.2.2.2.1 a0.2.2.2.2.1 a0.2.2.2.2.2.1 a0.2.2.2.2.2.2.1 a0.2.2.2.2.2.2.2] [] w) (k:=k1) ⟨_,_,H,rfl,h8⟩ ?_
 rintro k2 env w4 ⟨x3,x4,H,rfl,h6⟩
 rcases k2 with _ | k2
 ·exact z0 H
 rw [Q145.l1] at H
 refine T9 (T9 (T7 ?_))
 refine Zd 2 ?_
 refine Zc (Za 0 h6.wht) ?_
 refine Ze [1,3,5,27] rfl ?_
 refine jIf H (fun c4 H=>?_) fun c4 H=>?_
 ·refine Sa (T9 (T1 (T7 ?_)))
  refine Zd 3 ?_
  refine Zc (Za 0 h6.wht) ?_
  refine Zd 2 ?_
  refine Zc (Za 0 h6.wht) ?_
  refine Ze [1,3,5] rfl ?_
  refine Zb [1,3,5] ?_
  have h7:=(sOR h6 [0] [])
  exact ⟨k2,by omega,_,_,H,rfl,h7⟩
 refine T4 (T9 (Zb [2] ?_))
 cases H
 exact T8 (jR0 h6 [])

def Q146.l0:Nat->Tr->(Int)->(Int)->Option (Int)
 | 0,_,_,_=>none
 | k+1,a0,x1,x2=>if (decide (x2<a0.2.2.2.2.2.1))=true then (Q146.l0 k a0 (w64 ((w64 ((w64 (x1+3))+a0.2.2.2.2.2.2.1))+a0.2.2.2.2.2.2.2)) (w64 (x2+1))) else (some x1)
def Q146.f (k:Nat) (a0:Tr):Option (Int):=(Q148.f a0).bind fun r1=>(if (!r1)=true then (some 0) else (Q146.l0 k a0 8 0))
theorem Q146.spec {k a0 r} (H:Q146.f k a0=some r) :
  Spec prog 80 [.agg #[.int .i64 a0.1,.int .i64 a0.2.1,.int .i64 a0.2.2.1,.int .i64 a0.2.2.2.1,.int .i64 a0.2.2.2.2.1,.int .i64 a0.2.2.2.2.2.1,.int .i64 a0.2.2.2.2.2.2.1,.int .i64 a0.2.2.2.2.2.2.2]] [] [] (fun v l=>v=.int .i64 r/\l=[]):=by
 refine Zi Tryz.func80 fun w0 F0 h0=>?_
 unfold Q146.f at H
 refine T9 (T7 ?_)
 refine rB (Z8 h0) fun b1 w1 h1=>?_
 refine Ze [1] rfl ?_
 refine T9 (T9 (T7 ?_))
 refine Zc (Za 0 h1.wht) ?_
 refine cS H [] h1 rfl Q148.spec Zo fun r1 w2 H h2=>?_
 refine Ze [1,7] rfl ?_
 refine jIf H (fun c1 H=>?_) fun c1 H=>?_
 ·refine T9 (Zb [2] ?_)
  cases H
  exact T8 (jR0 h2 [])
 refine Sa (T9 (Zb [1,3] ?_))
 refine T9 (T9 (Zb [1,3,4] ?_))
 refine T1 ?_
 have h5:=(sOR h2 [0] [])
 refine T5 (fun kk env w=>∃ x1 x2,Q146.l0 kk a0 x1 x2=some r/\env=[(1,.pointer (some ⟨b1,0,none⟩)),(3,.int .i64 x1),(4,.int .i64 x2)]/\St w0 F0 [X23 b1 a0.1 a0.2.1 a0.2.2.1 a0.2.2.2.1 a0.2.2.2.2.1 a0.2.2.2.2.2.1 a0.2.2.2.2.2.2.1 a0.2.2.2.2.2.2.2] [] w) (k:=k) ⟨_,_,H,rfl,h5⟩ ?_
 rintro k1 env w3 ⟨x1,x2,H,rfl,h3⟩
 rcases k1 with _ | k1
 ·exact z0 H
 rw [Q146.l0] at H
 refine T9 (T9 (T7 ?_))
 refine Zd 2 ?_
 refine Zc (Za 0 h3.wht) ?_
 refine Ze [1,3,4,11] rfl ?_
 refine jIf H (fun c2 H=>?_) fun c2 H=>?_
 ·refine Sa (T9 (T1 (T7 ?_)))
  refine Zd 3 ?_
  refine Zc (Za 0 h3.wht) ?_
  refine Zd 2 ?_
  refine Zc (Za 0 h3.wht) ?_
  refine Ze [1,3,4] rfl ?_
  refine Zb [1,3,4] ?_
  have h4:=(sOR h3 [0] [])
  exact ⟨k1,by omega,_,_,H,rfl,h4⟩
 refine T4 (T9 (Zb [2] ?_))
 cases H
 exact T8 (jR0 h3 [])

def Q147.f (k:Nat) (a0:Tr):Option (Bool):=(Q148.f a0).bind fun r1=>(if r1=true then ((Q149.f a0.1 5 65536).bind fun r2=>(if r2=true then ((Q149.f a0.2.2.1 8 64).bind fun r3=>(if r3=true then ((Q149.f a0.2.1 64 65536).bind fun r4=>(if r4=true then ((Q145.f k a0).bind fun r5=>(if (decide (r5<=a0.2.1))=true then ((Q146.f k a0).bind fun r6=>(some (decide (r6<=a0.2.1)))) else (some false))) else (some false))) else (some false))) else (some false))) else (some false))
theorem Q147.spec {k a0 r} (H:Q147.f k a0=some r) :
  Spec prog 39 [.agg #[.int .i64 a0.1,.int .i64 a0.2.1,.int .i64 a0.2.2.1,.int .i64 a0.2.2.2.1,.int .i64 a0.2.2.2.2.1,.int .i64 a0.2.2.2.2.2.1,.int .i64 a0.2.2.2.2.2.2.1,.int .i64 a0.2.2.2.2.2.2.2]] [] [] (fun v l=>v=.bool r/\l=[]):=by
 refine Zi Tryz.func39 fun w0 F0 h0=>?_
 unfold Q147.f at H
 refine T9 (T7 ?_)
 refine rB (Z8 h0) fun b1 w1 h1=>?_
 refine Ze [1] rfl ?_
 refine T9 (jH h1 fun h2=>?_)
 refine Zf 0 rfl (Za 0 wI) ?_
 refine cSJ 1 rfl H [] h2 rfl Q148.spec Zo 0 fun r1 w2 H h3=>?_
 refine Zl [2] ?_
 refine Wn 5 H (fun c1 H=>?_) fun c1 H=>?_
 ·refine Zl [3] ?_
  refine Zf 4 rfl (Za 0 wI) ?_
  refine cSJ 5 rfl H [] h3 rfl Q149.spec Zo 0 fun r2 w3 H h4=>?_
  refine Zl [6,7] ?_
  refine Wn 10 H (fun c2 H=>?_) fun c2 H=>?_
  ·refine Zl [8] ?_
   refine Zf 9 rfl (Za 0 wI) ?_
   refine cSJ 10 rfl H [] h4 rfl Q149.spec Zo 0 fun r3 w4 H h5=>?_
   refine Zl [11,12] ?_
   refine Wn 15 H (fun c3 H=>?_) fun c3 H=>?_
   ·refine Zl [13] ?_
    refine Zf 14 rfl (Za 0 wI) ?_
    refine cSJ 15 rfl H [] h5 rfl Q149.spec Zo 0 fun r4 w5 H h6=>?_
    refine Zl [16,17] ?_
    refine Wn 20 H (fun c4 H=>?_) fun c4 H=>?_
    ·refine Zl [18] ?_
     refine Zf 19 rfl (Za 0 wI) ?_
     refine Zf 20 rfl (Za 0 wI) ?_
     refine cSJ 21 rfl H [] h6 rfl Q145.spec Zo 0 fun r5 w6 H h7=>?_
     refine Zl [22,23,24] ?_
     refine Wn 27 H (fun c5 H=>?_) fun c5 H=>?_
     ·refine Zl [25] ?_
      refine Zf 26 rfl (Za 0 wI) ?_
      refine Zf 27 rfl (Za 0 wI) ?_
      refine cSJ 28 rfl H [] h7 rfl Q146.spec Zo 0 fun r6 w7 H h8=>?_
      refine Zl [29,30,31] ?_
      refine Z0 [2] ?_
      cases H
      exact T8 (jR0 h8 [])
     refine Zl [25,26,27,28,29,30,31] ?_
     refine Z0 [2] ?_
     cases H
     exact T8 (jR0 h7 [])
    refine Zl [18,19,20,21,22,23,24,25,26,27,28,29,30,31] ?_
    refine Z0 [2] ?_
    cases H
    exact T8 (jR0 h6 [])
   refine Zl [13,14,15,16,17,18,19,20,21,22,23,24,25,26,27,28,29,30,31] ?_
   refine Z0 [2] ?_
   cases H
   exact T8 (jR0 h5 [])
  refine Zl [8,9,10,11,12,13,14,15,16,17,18,19,20,21,22,23,24,25,26,27,28,29,30,31] ?_
  refine Z0 [2] ?_
  cases H
  exact T8 (jR0 h4 [])
 refine Zl [3,4,5,6,7,8,9,10,11,12,13,14,15,16,17,18,19,20,21,22,23,24,25,26,27,28,29,30,31] ?_
 refine Z0 [2] ?_
 cases H
 exact T8 (jR0 h3 [])

def Q133.f (k:Nat) (a0:Tr):Option (Bool):=(Q147.f k a0).bind fun r1=>(if r1=true then (if (decide (a0.2.1<=3000))=true then (some (decide (a0.1<=400))) else (some false)) else (some false))
theorem Q133.spec {k a0 r} (H:Q133.f k a0=some r) :
  Spec prog 21 [.agg #[.int .i64 a0.1,.int .i64 a0.2.1,.int .i64 a0.2.2.1,.int .i64 a0.2.2.2.1,.int .i64 a0.2.2.2.2.1,.int .i64 a0.2.2.2.2.2.1,.int .i64 a0.2.2.2.2.2.2.1,.int .i64 a0.2.2.2.2.2.2.2]] [] [] (fun v l=>v=.bool r/\l=[]):=by
 refine Zi Tryz.func21 fun w0 F0 h0=>?_
 unfold Q133.f at H
 refine T9 (T7 ?_)
 refine rB (Z8 h0) fun b1 w1 h1=>?_
 refine Ze [1] rfl ?_
 refine T9 (T7 ?_)
 refine Zc (Za 0 h1.wht) ?_
 refine cS H [] h1 rfl Q147.spec Zo fun r1 w2 H h2=>?_
 refine Zd 1 ?_
 refine Z7 5 H (fun c1 H=>?_) fun c1 H=>?_
 ·refine Zd 1 ?_
  refine Zc (Za 0 h2.wht) ?_
  refine Zd 3 ?_
  refine Z7 10 H (fun c2 H=>?_) fun c2 H=>?_
  ·refine Zd 1 ?_
   refine Zc (Za 0 h2.wht) ?_
   refine Ze [2] rfl ?_
   cases H
   exact T8 (jR0 h2 [])
  refine Ze [2] rfl ?_
  cases H
  exact T8 (jR0 h2 [])
 refine Ze [2] rfl ?_
 cases H
 exact T8 (jR0 h2 [])

def Q59.f (a0:Int) (a1:Int):Option (Bool):=if (decide (5<=a0))=true then (if (decide (a0<=65536))=true then (if (decide (1<=a1))=true then (some (decide (a1<=65536))) else (some false)) else (some false)) else (some false)
theorem Q59.spec {a0 a1 r} (H:Q59.f a0 a1=some r) :
  Spec prog 81 [.int .i64 a0,.int .i64 a1] [] [] (fun v l=>v=.bool r/\l=[]):=by
 refine Zi Tryz.func81 fun w0 F0 h0=>?_
 unfold Q59.f at H
 refine T9 (Zb [0,1] ?_)
 refine T9 (T7 ?_)
 refine Zd 3 ?_
 refine Z7 7 H (fun c1 H=>?_) fun c1 H=>?_
 ·refine Zd 4 ?_
  refine Z7 11 H (fun c2 H=>?_) fun c2 H=>?_
  ·refine Zd 4 ?_
   refine Z7 15 H (fun c3 H=>?_) fun c3 H=>?_
   ·refine Ze [4] rfl ?_
    cases H
    exact T8 (jR0 h0 [])
   refine Ze [4] rfl ?_
   cases H
   exact T8 (jR0 h0 [])
  refine Ze [4] rfl ?_
  cases H
  exact T8 (jR0 h0 [])
 refine Ze [4] rfl ?_
 cases H
 exact T8 (jR0 h0 [])

def Q58.f (a0:Int) (a1:Int):Option (Option TE×Int):=(Q59.f a0 a1).bind fun r1=>(if (!r1)=true then (some (none,2)) else (if 0<=(w64 (a0*a1))/\(w64 (a0*a1))*1<=281474976710656 then (some ((some (a1,(List.replicate ((w64 (a0*a1)).toNat) (0:Int)),(0,0))),0)) else none))
theorem Q58.spec {a0 a1 r} (H:Q58.f a0 a1=some r) :
  Spec prog 40 [.int .i64 a0,.int .i64 a1] [] [] (fun v l=>∃(pv:Value) (lp:List Ch),OptC r.1 (fun d pv lp=>∃ b_0 A_1 c_1,pv=.pointer (some ⟨b_0,0,none⟩)/\lp=[Xd b_0 d.1 d.2.1 A_1 c_1 d.2.2.1 d.2.2.2,O5 d.2.1 A_1 c_1]) pv lp/\v=.tuple #[pv,.int .i64 r.2]/\l=lp ++ []):=by
 refine Zi Tryz.func40 fun w0 F0 h0=>?_
 unfold Q58.f at H
 refine T9 (Zb [0,1] ?_)
 refine T9 (T9 (T7 ?_))
 refine Zd 2 ?_
 refine cS H [] h0 rfl Q59.spec Zo fun r1 w1 H h1=>?_
 refine Ze [0,1,9] rfl ?_
 refine jIf H (fun c1 H=>?_) fun c1 H=>?_
 ·refine T9 (Zb [4,5] ?_)
  cases H
  exact T8 (jR ⟨_,_,Sd,rfl,rfl⟩ h1 [])
 refine Sa (T9 (T7 ?_))
 refine Zd 4 ?_
 obtain ⟨⟨p1,p2⟩,H⟩:=Zk H
 refine rB (Bo Z6 (ty:=(.int .u8)) rfl (0:Int) rfl rfl rfl rfl rfl rfl rfl (by decide) h1 p1 p2) fun b1 w2 h2=>?_
 refine Zd 1 ?_
 refine rB (Z8 h2) fun b2 w3 h3=>?_
 refine Ze [4,5] rfl ?_
 cases H
 exact T8 (jR ⟨_,_,(Se ⟨_,_,_,rfl,rfl⟩),rfl,rfl⟩ h3 [0,0])

def Q53.f (a0:Tr):Option (Bool):=if (decide (a0.2.2.2.1<8))=true then (some false) else (if (decide (64<a0.2.2.2.1))=true then (some false) else (if (decide (a0.2.2.2.2.1<(w64 (2*a0.2.2.2.1))))=true then (some false) else (if (decide (512<a0.2.2.2.2.1))=true then (some false) else (if (decide (a0.2.2.2.2.2.1<a0.2.2.2.2.1))=true then (some false) else (if (decide (1024<a0.2.2.2.2.2.1))=true then (some false) else (if (decide (a0.2.2.2.2.2.2.1<1))=true then (some false) else (if (decide (64<a0.2.2.2.2.2.2.1))=true then (some false) else (if (decide (a0.2.2.2.2.2.2.2<0))=true then (some false) else (if (decide (256<a0.2.2.2.2.2.2.2))=true then (some false) else (some true))))))))))
theorem Q53.spec {a0 r} (H:Q53.f a0=some r) :
  Spec prog 110 [.agg #[.int .i64 a0.1,.int .i64 a0.2.1,.int .i64 a0.2.2.1,.int .i64 a0.2.2.2.1,.int .i64 a0.2.2.2.2.1,.int .i64 a0.2.2.2.2.2.1,.int .i64 a0.2.2.2.2.2.2.1,.int .i64 a0.2.2.2.2.2.2.2]] [] [] (fun v l=>v=.bool r/\l=[]):=by
 refine Zi Tryz.func110 fun w0 F0 h0=>?_
 unfold Q53.f at H
 refine T9 (T7 ?_)
 refine rB (Z8 h0) fun b1 w1 h1=>?_
 refine Ze [1] rfl ?_
 refine T9 (T1 (T9 (T7 ?_)))
 refine Zd 1 ?_
 refine Zc (Za 0 h1.wht) ?_
 refine Zd 2 ?_
 refine Z7 7 H (fun c1 H=>?_) fun c1 H=>?_
 ·refine Ze [1,3] rfl ?_
  refine Zq ?_
  refine Sa (T9 (Zb [2] ?_))
  cases H
  exact T8 (jR0 h1 [])
 refine Zd 1 ?_
 refine Zc (Za 0 h1.wht) ?_
 refine Ze [1,3] rfl ?_
 refine jIf H (fun c2 H=>?_) fun c2 H=>?_
 ·refine Sa (T9 (Zb [2] ?_))
  cases H
  exact T8 (jR0 h1 [])
 refine T9 (T7 ?_)
 refine Zd 1 ?_
 refine Zc (Za 0 h1.wht) ?_
 refine Zd 1 ?_
 refine Zc (Za 0 h1.wht) ?_
 refine Zd 3 ?_
 refine Z7 19 H (fun c3 H=>?_) fun c3 H=>?_
 ·refine Ze [1,12] rfl ?_
  refine Zq ?_
  refine Sa (T9 (Zb [2] ?_))
  cases H
  exact T8 (jR0 h1 [])
 refine Zd 1 ?_
 refine Zc (Za 0 h1.wht) ?_
 refine Ze [1,12] rfl ?_
 refine jIf H (fun c4 H=>?_) fun c4 H=>?_
 ·refine Sa (T9 (Zb [2] ?_))
  cases H
  exact T8 (jR0 h1 [])
 refine T9 (T7 ?_)
 refine Zd 1 ?_
 refine Zc (Za 0 h1.wht) ?_
 refine Zd 1 ?_
 refine Zc (Za 0 h1.wht) ?_
 refine Zd 2 ?_
 refine Z7 30 H (fun c5 H=>?_) fun c5 H=>?_
 ·refine Ze [1,24] rfl ?_
  refine Zq ?_
  refine Sa (T9 (Zb [2] ?_))
  cases H
  exact T8 (jR0 h1 [])
 refine Zd 1 ?_
 refine Zc (Za 0 h1.wht) ?_
 refine Ze [1,24] rfl ?_
 refine jIf H (fun c6 H=>?_) fun c6 H=>?_
 ·refine Sa (T9 (Zb [2] ?_))
  cases H
  exact T8 (jR0 h1 [])
 refine T9 (T7 ?_)
 refine Zd 1 ?_
 refine Zc (Za 0 h1.wht) ?_
 refine Zd 2 ?_
 refine Z7 39 H (fun c7 H=>?_) fun c7 H=>?_
 ·refine Ze [1,35] rfl ?_
  refine Zq ?_
  refine Sa (T9 (Zb [2] ?_))
  cases H
  exact T8 (jR0 h1 [])
 refine Zd 1 ?_
 refine Zc (Za 0 h1.wht) ?_
 refine Ze [1,35] rfl ?_
 refine jIf H (fun c8 H=>?_) fun c8 H=>?_
 ·refine Sa (T9 (Zb [2] ?_))
  cases H
  exact T8 (jR0 h1 [])
 refine T9 (T7 ?_)
 refine Zd 1 ?_
 refine Zc (Za 0 h1.wht) ?_
 refine Zd 2 ?_
 refine Z7 48 H (fun c9 H=>?_) fun c9 H=>?_
 ·refine Ze [44] rfl ?_
  refine Zq ?_
  refine Sa (T9 (Zb [2] ?_))
  cases H
  exact T8 (jR0 h1 [])
 refine Zd 1 ?_
 refine Zc (Za 0 h1.wht) ?_
 refine Ze [44] rfl ?_
 refine jIf H (fun c10 H=>?_) fun c10 H=>?_
 ·refine Sa (T9 (Zb [2] ?_))
  cases H
  exact T8 (jR0 h1 [])
 refine T9 (Zb [2] ?_)
 cases H
 exact T8 (jR0 h1 [])

def Q50.f (a0:Tr):Option (Int):=(Q53.f a0).bind fun r1=>(if (!r1)=true then (some 0) else (some (w64 ((w64 ((w64 (8+(w64 (4*a0.2.2.2.1))))+(w64 ((w64 (a0.2.2.2.1 - 1))*(w64 (1+a0.2.2.2.2.2.2.1))))))+(w64 (a0.2.2.2.2.1*(w64 ((w64 (4+a0.2.2.2.2.2.2.1))+a0.2.2.2.2.2.2.2))))))))
theorem Q50.spec {a0 r} (H:Q50.f a0=some r) :
  Spec prog 140 [.agg #[.int .i64 a0.1,.int .i64 a0.2.1,.int .i64 a0.2.2.1,.int .i64 a0.2.2.2.1,.int .i64 a0.2.2.2.2.1,.int .i64 a0.2.2.2.2.2.1,.int .i64 a0.2.2.2.2.2.2.1,.int .i64 a0.2.2.2.2.2.2.2]] [] [] (fun v l=>v=.int .i64 r/\l=[]):=by
 refine Zi Tryz.func140 fun w0 F0 h0=>?_
 unfold Q50.f at H
 refine T9 (T7 ?_)
 refine rB (Z8 h0) fun b1 w1 h1=>?_
 refine Ze [1] rfl ?_
 refine T9 (T9 (T7 ?_))
 refine Zc (Za 0 h1.wht) ?_
 refine cS H [] h1 rfl Q53.spec Zo fun r1 w2 H h2=>?_
 refine Ze [1,5] rfl ?_
 refine jIf H (fun c1 H=>?_) fun c1 H=>?_
 ·refine T9 (Zb [2] ?_)
  cases H
  exact T8 (jR0 h2 [])
 refine Sa (T9 (T7 ?_))
 refine Zd 1 ?_
 refine Zc (Za 0 h2.wht) ?_
 refine Zd 3 ?_
 refine Zc (Za 0 h2.wht) ?_
 refine Zd 2 ?_
 refine Zc (Za 0 h2.wht) ?_
 refine Zd 4 ?_
 refine Zc (Za 0 h2.wht) ?_
 refine Zd 1 ?_
 refine Zc (Za 0 h2.wht) ?_
 refine Zd 2 ?_
 refine Zc (Za 0 h2.wht) ?_
 refine Ze [2] rfl ?_
 cases H
 exact T8 (jR0 h2 [])

def Q52.f (a0:Tr):Option (Int):=(Q53.f a0).bind fun r1=>(if (!r1)=true then (some 0) else (some (w64 (8+(w64 (a0.2.2.2.2.2.1*(w64 ((w64 (3+a0.2.2.2.2.2.2.1))+a0.2.2.2.2.2.2.2))))))))
theorem Q52.spec {a0 r} (H:Q52.f a0=some r) :
  Spec prog 141 [.agg #[.int .i64 a0.1,.int .i64 a0.2.1,.int .i64 a0.2.2.1,.int .i64 a0.2.2.2.1,.int .i64 a0.2.2.2.2.1,.int .i64 a0.2.2.2.2.2.1,.int .i64 a0.2.2.2.2.2.2.1,.int .i64 a0.2.2.2.2.2.2.2]] [] [] (fun v l=>v=.int .i64 r/\l=[]):=by
 refine Zi Tryz.func141 fun w0 F0 h0=>?_
 unfold Q52.f at H
 refine T9 (T7 ?_)
 refine rB (Z8 h0) fun b1 w1 h1=>?_
 refine Ze [1] rfl ?_
 refine T9 (T9 (T7 ?_))
 refine Zc (Za 0 h1.wht) ?_
 refine cS H [] h1 rfl Q53.spec Zo fun r1 w2 H h2=>?_
 refine Ze [1,5] rfl ?_
 refine jIf H (fun c1 H=>?_) fun c1 H=>?_
 ·refine T9 (Zb [2] ?_)
  cases H
  exact T8 (jR0 h2 [])
 refine Sa (T9 (T7 ?_))
 refine Zd 1 ?_
 refine Zc (Za 0 h2.wht) ?_
 refine Zd 1 ?_
 refine Zc (Za 0 h2.wht) ?_
 refine Zd 2 ?_
 refine Zc (Za 0 h2.wht) ?_
 refine Ze [2] rfl ?_
 cases H
 exact T8 (jR0 h2 [])

def Q51.f (a0:Tr):Option (Tr):=(Q53.f a0).bind fun r1=>(if r1=true then ((Q50.f a0).bind fun r2=>((Q52.f a0).bind fun r3=>(some (a0.1,(if r3>(if r2>(64:Int) then r2 else (64:Int)) then r3 else (if r2>(64:Int) then r2 else (64:Int))),a0.2.2.1,a0.2.2.2.1,a0.2.2.2.2.1,a0.2.2.2.2.2.1,a0.2.2.2.2.2.2.1,a0.2.2.2.2.2.2.2)))) else (some a0))
theorem Q51.spec {a0 r} (H:Q51.f a0=some r) :
  Spec prog 111 [.agg #[.int .i64 a0.1,.int .i64 a0.2.1,.int .i64 a0.2.2.1,.int .i64 a0.2.2.2.1,.int .i64 a0.2.2.2.2.1,.int .i64 a0.2.2.2.2.2.1,.int .i64 a0.2.2.2.2.2.2.1,.int .i64 a0.2.2.2.2.2.2.2]] [] [] (fun v l=>v=.agg #[.int .i64 r.1,.int .i64 r.2.1,.int .i64 r.2.2.1,.int .i64 r.2.2.2.1,.int .i64 r.2.2.2.2.1,.int .i64 r.2.2.2.2.2.1,.int .i64 r.2.2.2.2.2.2.1,.int .i64 r.2.2.2.2.2.2.2]/\l=[]):=by
 refine Zi Tryz.func111 fun w0 F0 h0=>?_
 unfold Q51.f at H
 refine T9 (T7 ?_)
 refine rB (Z8 h0) fun b1 w1 h1=>?_
 refine rB (Yv h1) fun b2 w2 h2=>?_
 refine Ze [1,2] rfl ?_
 refine T9 (T9 (T7 ?_))
 refine Zc (Za 1 h2.wht) ?_
 refine cS H [] h2 rfl Q53.spec Zo fun r1 w3 H h3=>?_
 refine Ze [1,2,4] rfl ?_
 refine jIf H (fun c1 H=>?_) fun c1 H=>?_
 ·obtain ⟨r2,q2,H⟩:=Yj H
  obtain ⟨r3,q3,H⟩:=Yj H
  refine T6 (fun env w=>env=[(1,.pointer (some ⟨b1,0,none⟩)),(2,.pointer (some ⟨b2,0,none⟩))]/\St w0 F0 [X23 b1 a0.1 (if r3>(if r2>(64:Int) then r2 else (64:Int)) then r3 else (if r2>(64:Int) then r2 else (64:Int))) a0.2.2.1 a0.2.2.2.1 a0.2.2.2.2.1 a0.2.2.2.2.2.1 a0.2.2.2.2.2.2.1 a0.2.2.2.2.2.2.2,X23 b2 0 0 0 0 0 0 0 0] [] w) ?_ ?_
  ·refine Zx (sO h3 [0]) ?_
   have h7:=h3.drew
   refine HJ.named fun G E hE hG=>?_
   have j13:∀ w33,St w0 F0 [X23 b2 0 0 0 0 0 0 0 0,X23 b1 a0.1 a0.2.1 a0.2.2.1 a0.2.2.2.1 a0.2.2.2.2.1 a0.2.2.2.2.2.1 a0.2.2.2.2.2.2.1 a0.2.2.2.2.2.2.2] [] w33->G [2,1,0] ((7,.agg #[.int .i64 a0.1,.int .i64 a0.2.1,.int .i64 a0.2.2.1,.int .i64 a0.2.2.2.1,.int .i64 a0.2.2.2.2.1,.int .i64 a0.2.2.2.2.2.1,.int .i64 a0.2.2.2.2.2.2.1,.int .i64 a0.2.2.2.2.2.2.2]) :: (6,.int .i64 r2) :: (5,.agg #[.int .i64 a0.1,.int .i64 a0.2.1,.int .i64 a0.2.2.1,.int .i64 a0.2.2.2.1,.int .i64 a0.2.2.2.2.1,.int .i64 a0.2.2.2.2.2.1,.int .i64 a0.2.2.2.2.2.2.1,.int .i64 a0.2.2.2.2.2.2.2]) :: E) w33:=by
    intro w33 h21
    subst hE
    refine (hG _ _ _).1 ?_
    refine Yh 3 rfl (Ue [] (Q52.spec q3) h21 rfl Zo) ?_
    rintro _ w38 ⟨_,⟨rfl,rfl⟩,h22⟩
    replace h22:=nf h22
    refine ⟨⟨[_],(sO h22 [1,0])⟩,?_⟩
    refine Zf 4 rfl Zk3 ?_
    refine Zl [5] ?_
    refine hS 6 rfl (Zv 1 h22) 1 fun _ w39 h23=>?_
    refine Z0 [1,2] ?_
    exact Y6 ⟨rfl,(sOR h23 [0,0] [])⟩
   have j14:∀ w3,St w0 F0 [X23 b2 0 0 0 0 0 0 0 0,X23 b1 a0.1 a0.2.1 a0.2.2.1 a0.2.2.2.1 a0.2.2.2.2.1 a0.2.2.2.2.2.1 a0.2.2.2.2.2.2.1 a0.2.2.2.2.2.2.2] [] w3->G [2,0] ((7,.agg #[.int .i64 a0.1,.int .i64 a0.2.1,.int .i64 a0.2.2.1,.int .i64 a0.2.2.2.1,.int .i64 a0.2.2.2.2.1,.int .i64 a0.2.2.2.2.2.1,.int .i64 a0.2.2.2.2.2.2.1,.int .i64 a0.2.2.2.2.2.2.2]) :: (5,.agg #[.int .i64 a0.1,.int .i64 a0.2.1,.int .i64 a0.2.2.1,.int .i64 a0.2.2.2.1,.int .i64 a0.2.2.2.2.1,.int .i64 a0.2.2.2.2.2.1,.int .i64 a0.2.2.2.2.2.2.1,.int .i64 a0.2.2.2.2.2.2.2]) :: E) w3:=by
    intro w3 h7
    subst hE
    refine (hG _ _ _).1 ?_
    refine Yh 1 rfl (Ue [] (Q50.spec q2) h7 rfl Zo) ?_
    rintro _ w40 ⟨_,⟨rfl,rfl⟩,h24⟩
    replace h24:=nf h24
    refine ⟨⟨[_],(sO h24 [1,0])⟩,?_⟩
    exact ((hG _ _ _).2 (j13 _ h24)).re [1,0,2] 3
   subst hE
   refine (hG _ _ _).1 ?_
   refine TZ [0,2] (i:=0) rfl rfl rfl rfl ?_
   refine (Y4 ?_ (Y4 ?_ Vs))
   ·refine Yz 0 rfl (Sc (Za 1 h7.wht)) ?_
    rintro _ _ ⟨rfl,rfl⟩
    replace h7:=nf h7
    refine ⟨⟨[_],(sO h7 [1,0])⟩,?_⟩
    refine TZ [1,2] (i:=1) rfl rfl rfl rfl ?_
    refine (Y4 ?_ (Y4 ?_ Vs))
    ·refine Yz 1 rfl (Ue [] (Q50.spec q2) h7 rfl Zo) ?_
     rintro _ w33 ⟨_,⟨rfl,rfl⟩,h21⟩
     replace h21:=nf h21
     refine ⟨⟨[_],(sO h21 [1,0])⟩,?_⟩
     refine Yh 2 rfl (Sc (Za 1 h21.wht)) ?_
     rintro _ _ ⟨rfl,rfl⟩
     replace h21:=nf h21
     refine ⟨⟨[_],(sO h21 [1,0])⟩,?_⟩
     exact (hG _ _ _).2 (j13 _ h21)
    ·refine Yz 2 rfl (Sc (Za 1 h7.wht)) ?_
     rintro _ _ ⟨rfl,rfl⟩
     replace h7:=nf h7
     refine ⟨⟨[_],(sO h7 [1,0])⟩,?_⟩
     exact (hG _ _ _).2 (j14 _ h7)
   ·refine Yz 2 rfl (Sc (Za 1 h7.wht)) ?_
    rintro _ _ ⟨rfl,rfl⟩
    replace h7:=nf h7
    refine ⟨⟨[_],(sO h7 [1,0])⟩,?_⟩
    refine Yh 0 rfl (Sc (Za 1 h7.wht)) ?_
    rintro _ _ ⟨rfl,rfl⟩
    replace h7:=nf h7
    refine ⟨⟨[_],(sO h7 [1,0])⟩,?_⟩
    exact ((hG _ _ _).2 (j14 _ h7)).re [1,0] 2
  rintro env w55 ⟨rfl,h34⟩
  refine T9 (T7 ?_)
  refine Zc (Za 0 h34.wht) ?_
  refine rS (Zv 1 h34) fun _ w56 h35=>?_
  refine Ze [2] rfl ?_
  cases H
  exact T8 (jR2 (Ye (Si Z6 0 h35 rfl rfl rfl rfl) Xz) ⟨rfl,rfl⟩ h35 [])
 refine Sa (T9 (T7 ?_))
 refine Zc (Za 1 h3.wht) ?_
 refine rS (Zv 0 h3) fun _ w57 h36=>?_
 refine Ze [2] rfl ?_
 cases H
 exact T8 (jR2 (Ye (Si Z6 0 h36 rfl rfl rfl rfl) Xz) ⟨rfl,rfl⟩ h36 [])

def Q49.f (a0:Tr):Option (Int):=(Q53.f a0).bind fun r1=>(if r1=true then (if (decide (5<=a0.1))=true then (if (decide (a0.1<=65536))=true then (if (decide (8<=a0.2.2.1))=true then (if (!(decide (a0.2.2.1<=64)))=true then (some 2) else (if (decide (65536<a0.2.1))=true then (some 2) else ((Q51.f a0).bind fun r2=>(if (decide (a0.2.1<r2.2.1))=true then (some 2) else (some 0))))) else (some 2)) else (some 2)) else (some 2)) else (some 2))
theorem Q49.spec {a0 r} (H:Q49.f a0=some r) :
  Spec prog 63 [.agg #[.int .i64 a0.1,.int .i64 a0.2.1,.int .i64 a0.2.2.1,.int .i64 a0.2.2.2.1,.int .i64 a0.2.2.2.2.1,.int .i64 a0.2.2.2.2.2.1,.int .i64 a0.2.2.2.2.2.2.1,.int .i64 a0.2.2.2.2.2.2.2]] [] [] (fun v l=>v=.int .i64 r/\l=[]):=by
 refine Zi Tryz.func63 fun w0 F0 h0=>?_
 unfold Q49.f at H
 refine T9 (T7 ?_)
 refine rB (Z8 h0) fun b1 w1 h1=>?_
 refine Ze [1] rfl ?_
 refine T9 (T7 ?_)
 refine Zc (Za 0 h1.wht) ?_
 refine cS H [] h1 rfl Q53.spec Zo fun r1 w2 H h2=>?_
 refine Zd 1 ?_
 refine Z7 6 H (fun c1 H=>?_) fun c1 H=>?_
 ·refine Zd 1 ?_
  refine Zc (Za 0 h2.wht) ?_
  refine Zd 3 ?_
  refine Z7 11 H (fun c2 H=>?_) fun c2 H=>?_
  ·refine Zd 1 ?_
   refine Zc (Za 0 h2.wht) ?_
   refine Zd 3 ?_
   refine Z7 16 H (fun c3 H=>?_) fun c3 H=>?_
   ·refine Zd 1 ?_
    refine Zc (Za 0 h2.wht) ?_
    refine Zd 3 ?_
    refine Z7 21 H (fun c4 H=>?_) fun c4 H=>?_
    ·refine Zd 1 ?_
     refine Zc (Za 0 h2.wht) ?_
     refine Ze [1,3] rfl ?_
     refine T9 (T9 ?_)
     refine jH h2 fun h3=>?_
     refine Zl [0,1,2] ?_
     refine Wn 28 H (fun c5 H=>?_) fun c5 H=>?_
     ·refine Zl [3,4,5,6,7,8,9,10,11,12,13,14] ?_
      refine Z0 [40] ?_
      refine Zq ?_
      refine T9 (Zb [2] ?_)
      cases H
      exact T8 (jR0 h3 [])
     refine Zl [3] ?_
     refine Zf 4 rfl (Za 0 wI) ?_
     refine Zl [5,6,7] ?_
     refine Wn 33 H (fun c6 H=>?_) fun c6 H=>?_
     ·refine Zl [8,9,10,11,12,13,14] ?_
      refine Z0 [40] ?_
      refine Zq ?_
      refine T9 (Zb [2] ?_)
      cases H
      exact T8 (jR0 h3 [])
     refine Zl [8] ?_
     refine Zf 9 rfl (Za 0 wI) ?_
     refine Zf 10 rfl (Za 0 wI) ?_
     refine cSJ 11 rfl H [] h3 rfl Q51.spec Zo 0 fun r2 w3 H h4=>?_
     refine Zl [12,13,14] ?_
     refine Z0 [40] ?_
     refine jIf H (fun c7 H=>?_) fun c7 H=>?_
     ·refine T9 (Zb [2] ?_)
      cases H
      exact T8 (jR0 h4 [])
     refine Sa (T9 (Zb [2] ?_))
     cases H
     exact T8 (jR0 h4 [])
    refine Ze [1,3] rfl ?_
    refine T9 (T9 ?_)
    refine jH h2 fun h5=>?_
    refine Zl [0,1,2,3,4,5,6,7,8,9,10,11,12,13,14] ?_
    refine Z0 [40] ?_
    refine Zq ?_
    refine T9 (Zb [2] ?_)
    cases H
    exact T8 (jR0 h5 [])
   refine Ze [1,3] rfl ?_
   refine T9 (T9 ?_)
   refine jH h2 fun h6=>?_
   refine Zl [0,1,2,3,4,5,6,7,8,9,10,11,12,13,14] ?_
   refine Z0 [40] ?_
   refine Zq ?_
   refine T9 (Zb [2] ?_)
   cases H
   exact T8 (jR0 h6 [])
  refine Ze [1,3] rfl ?_
  refine T9 (T9 ?_)
  refine jH h2 fun h7=>?_
  refine Zl [0,1,2,3,4,5,6,7,8,9,10,11,12,13,14] ?_
  refine Z0 [40] ?_
  refine Zq ?_
  refine T9 (Zb [2] ?_)
  cases H
  exact T8 (jR0 h7 [])
 refine Ze [1,3] rfl ?_
 refine T9 (T9 ?_)
 refine jH h2 fun h8=>?_
 refine Zl [0,1,2,3,4,5,6,7,8,9,10,11,12,13,14] ?_
 refine Z0 [40] ?_
 refine Zq ?_
 refine T9 (Zb [2] ?_)
 cases H
 exact T8 (jR0 h8 [])

def Q54.f (a0:TE):Option (Int):=if (decide (a0.1=0))=true then (some 0) else (if 0<a0.1 then (some (w64 (Int.tdiv (a0.2.1.length:Int) a0.1))) else none)
theorem Q54.spec {a0 b1 A1 c_1 r} (H:Q54.f a0=some r) :
  Spec prog 83 [.pointer (some ⟨b1,0,none⟩)] (Za5 a0 b1 A1 c_1) [] (fun v l=>v=.int .i64 r/\l=Za5 a0 b1 A1 c_1):=by
 refine Zi Tryz.func83 fun w0 F0 h0=>?_
 replace h0:=nf h0
 unfold Q54.f at H
 refine T9 (Zb [0] ?_)
 refine T9 (T9 (T7 ?_))
 refine Zd 6 ?_
 refine Zc (Za 0 h0.wht) ?_
 refine Ze [0,11] rfl ?_
 refine jIf H (fun c1 H=>?_) fun c1 H=>?_
 ·refine T9 (Zb [2] ?_)
  cases H
  exact T8 (jR0 h0 [0,0])
 refine Sa (T9 (jH h0 fun h1=>?_))
 refine Zl [0,1,2,5,6,7] ?_
 refine Zf 3 rfl (Za 0 wI) ?_
 refine Zl [4] ?_
 refine Zf 8 rfl (Za 0 wI) ?_
 obtain ⟨p1,H⟩:=Zk H
 refine Zf 9 rfl (Zmq p1) ?_
 refine Zl [10] ?_
 refine Z0 [2] ?_
 cases H
 exact T8 (jR0 h1 [0,0])

def Q35.f (a0:Int):Option (Option TB×Int):=if (decide (a0<1))=true then (some (none,2)) else (if (decide (4096<a0))=true then (some (none,2)) else (if 0<=(w64 (a0+1))/\(w64 (a0+1))*24<=281474976710656 then (if 0<=a0/\a0<((List.replicate ((w64 (a0+1)).toNat) ((0,0,false):Int×Int×Bool)).length:Int) then (some ((some (((List.replicate ((w64 (a0+1)).toNat) ((0,0,false):Int×Int×Bool)).set a0.toNat (a0,a0,false)),0)),0)) else none) else none))
theorem Q35.spec {a0 r} (H:Q35.f a0=some r) :
  Spec prog 125 [.int .i64 a0] [] [] (fun v l=>∃(pv:Value) (lp:List Ch),OptC r.1 (fun d pv lp=>∃ b_0 A_1 c_1,pv=.pointer (some ⟨b_0,0,none⟩)/\lp=[Y0 b_0 d.1 A_1 c_1 d.2,Y1 d.1 A_1 c_1]) pv lp/\v=.tuple #[pv,.int .i64 r.2]/\l=lp ++ []):=by
 refine Zi Tryz.func125 fun w0 F0 h0=>?_
 unfold Q35.f at H
 refine T9 (Zb [0] ?_)
 refine T9 (T9 (T7 ?_))
 refine Zd 3 ?_
 refine Z7 7 H (fun c1 H=>?_) fun c1 H=>?_
 ·refine Ze [0,10] rfl ?_
  refine Zq ?_
  refine T9 (Zb [2,3] ?_)
  cases H
  exact T8 (jR ⟨_,_,Sd,rfl,rfl⟩ h0 [])
 refine Ze [0,10] rfl ?_
 refine jIf H (fun c2 H=>?_) fun c2 H=>?_
 ·refine T9 (Zb [2,3] ?_)
  cases H
  exact T8 (jR ⟨_,_,Sd,rfl,rfl⟩ h0 [])
 refine Sa (T9 (T7 ?_))
 refine Zd 2 ?_
 obtain ⟨⟨p1,p2⟩,H⟩:=Zk H
 refine rB (Bo Z6 (ty:=(.pair (.int .i64) (.pair (.int .i64) .bool))) rfl ((0,0,false):Int×Int×Bool) rfl rfl rfl rfl rfl rfl rfl (by decide) h0 p1 p2) fun b1 w1 h1=>?_
 refine Zd 1 ?_
 refine rB (Z8 h1) fun b2 w2 h2=>?_
 refine Ze [0,4] rfl ?_
 refine T9 (T7 ?_)
 refine Zd 3 ?_
 refine Zc (Za 0 h2.wht) ?_
 refine Zd 4 ?_
 obtain ⟨⟨p3,p4⟩,H⟩:=Zk H
 have e1:=Z1 h2.wh (gO 1) p3 p4
 refine Zc (Zg e1 p3 p4) ?_
 refine rS (Zp 0 (.pair (.int .i64) (.pair (.int .i64) .bool)) a0 (a0,a0,false) 1 h2 rfl p3 p4) fun _ w3 h3=>?_
 replace h3:St w0 F0 [Y1 ((List.replicate ((w64 (a0+1)).toNat) ((0,0,false):Int×Int×Bool)).set a0.toNat (a0,a0,false)) (some ⟨b1,0,none⟩) ((w64 (a0+1)).toNat),Y0 b2 ((List.replicate ((w64 (a0+1)).toNat) ((0,0,false):Int×Int×Bool)).set a0.toNat (a0,a0,false)) (some ⟨b1,0,none⟩) ((w64 (a0+1)).toNat) 0] _ _:=h3.retell (by simp only [length_set,length_nil,Y1,Y0] <;> rfl)
 refine Ze [4] rfl ?_
 refine T9 (Zb [2,3] ?_)
 cases H
 exact T8 (jR ⟨_,_,(Se ⟨_,_,_,rfl,rfl⟩),rfl,rfl⟩ h3 [1,0])

def Q55.f (a0:TE):Option (Int):=some a0.1
theorem Q55.spec {a0 b1 A1 c_1 r} (H:Q55.f a0=some r) :
  Spec prog 84 [.pointer (some ⟨b1,0,none⟩)] (Za5 a0 b1 A1 c_1) [] (fun v l=>v=.int .i64 r/\l=Za5 a0 b1 A1 c_1):=by
 refine Zi Tryz.func84 fun w0 F0 h0=>?_
 replace h0:=nf h0
 unfold Q55.f at H
 refine T9 (Zb [0] ?_)
 refine T9 (T9 (Zb [0,4] ?_))
 refine Z4 ?_
 refine Sa (T9 (T7 ?_))
 refine Zd 3 ?_
 refine Zc (Za 0 h0.wht) ?_
 refine Ze [2] rfl ?_
 cases H
 exact T8 (jR0 h0 [0,0])

def Q2.f (a0:Int):Option (Option TL×Int):=if (decide (a0<1))=true then (some (none,2)) else (if (decide (65536<a0))=true then (some (none,2)) else (if 0<=(w64 (Int.tdiv (w64 ((w64 (a0+64)) - 1)) 64))/\(w64 (Int.tdiv (w64 ((w64 (a0+64)) - 1)) 64))*8<=281474976710656 then (some ((some (a0,0,(List.replicate ((w64 (Int.tdiv (w64 ((w64 (a0+64)) - 1)) 64)).toNat) (0:Int)))),0)) else none))
theorem Q2.spec {a0 r} (H:Q2.f a0=some r) :
  Spec prog 126 [.int .i64 a0] [] [] (fun v l=>∃(pv:Value) (lp:List Ch),OptC r.1 (fun d pv lp=>∃ b_0 A_1 c_1,pv=.pointer (some ⟨b_0,0,none⟩)/\lp=[X4 b_0 d.1 d.2.1 d.2.2 A_1 c_1,O63 d.2.2 A_1 c_1]) pv lp/\v=.tuple #[pv,.int .i64 r.2]/\l=lp ++ []):=by
 refine Zi Tryz.func126 fun w0 F0 h0=>?_
 unfold Q2.f at H
 refine T9 (Zb [0] ?_)
 refine T9 (T9 (T7 ?_))
 refine Zd 3 ?_
 refine Z7 6 H (fun c1 H=>?_) fun c1 H=>?_
 ·refine Ze [0,9] rfl ?_
  refine Zq ?_
  refine T9 (Zb [2,3] ?_)
  cases H
  exact T8 (jR ⟨_,_,Sd,rfl,rfl⟩ h0 [])
 refine Ze [0,9] rfl ?_
 refine jIf H (fun c2 H=>?_) fun c2 H=>?_
 ·refine T9 (Zb [2,3] ?_)
  cases H
  exact T8 (jR ⟨_,_,Sd,rfl,rfl⟩ h0 [])
 refine Sa (T9 (T7 ?_))
 refine Zd 5 ?_
 obtain ⟨⟨p1,p2⟩,H⟩:=Zk H
 refine rB (Bo Z6 (ty:=(.int .u64)) rfl (0:Int) rfl rfl rfl rfl rfl rfl rfl (by decide) h0 p1 p2) fun b1 w1 h1=>?_
 refine Zd 1 ?_
 refine rB (Z8 h1) fun b2 w2 h2=>?_
 refine Ze [2,3] rfl ?_
 cases H
 exact T8 (jR ⟨_,_,(Se ⟨_,_,_,rfl,rfl⟩),rfl,rfl⟩ h2 [0,0])

def Q7.f (a0:TL):Option (Int):=some a0.1
theorem Q7.spec {a0 b1 A1 c_1 r} (H:Q7.f a0=some r) :
  Spec prog 169 [.pointer (some ⟨b1,0,none⟩)] (Ve a0 b1 A1 c_1) [] (fun v l=>v=.int .i64 r/\l=Ve a0 b1 A1 c_1):=by
 refine Zi Tryz.func169 fun w0 F0 h0=>?_
 replace h0:=nf h0
 unfold Q7.f at H
 refine T9 (Zb [0] ?_)
 refine T9 (T9 (Zb [0,4] ?_))
 refine Z4 ?_
 refine Sa (T9 (T7 ?_))
 refine Zd 3 ?_
 refine Zc (Za 0 h0.wht) ?_
 refine Ze [2] rfl ?_
 cases H
 exact T8 (jR0 h0 [0,0])

def Q10.f (a0:TL) (a1:Int):Option (Int):=(Q7.f a0).bind fun r1=>(if (decide (r1=0))=true then (some 1) else (if (decide (a1<0))=true then (some 4) else (if (decide (a0.1<=a1))=true then (some 4) else (some 0))))
theorem Q10.spec {a0 a1 b1 A1 c_1 r} (H:Q10.f a0 a1=some r) :
  Spec prog 157 [.pointer (some ⟨b1,0,none⟩),.int .i64 a1] (Ve a0 b1 A1 c_1) [] (fun v l=>v=.int .i64 r/\l=Ve a0 b1 A1 c_1):=by
 refine Zi Tryz.func157 fun w0 F0 h0=>?_
 replace h0:=nf h0
 unfold Q10.f at H
 refine T9 (Zb [0,1] ?_)
 refine T9 (T1 (T9 (T7 ?_)))
 refine Zd 1 ?_
 refine cS H [0,0] h0 rfl Q7.spec Zo fun r1 w1 H h1=>?_
 refine Ze [0,1,5] rfl ?_
 refine jIf H (fun c1 H=>?_) fun c1 H=>?_
 ·refine T9 (Zb [4] ?_)
  cases H
  exact T8 (jR0 h1 [0,0])
 refine T9 (T7 ?_)
 refine Zd 3 ?_
 refine Z7 12 H (fun c2 H=>?_) fun c2 H=>?_
 ·refine Ze [9] rfl ?_
  refine Zq ?_
  refine T9 (Zb [4] ?_)
  cases H
  exact T8 (jR0 h1 [0,0])
 refine Zd 4 ?_
 refine Zc (Za 0 h1.wht) ?_
 refine Ze [9] rfl ?_
 refine jIf H (fun c3 H=>?_) fun c3 H=>?_
 ·refine T9 (Zb [4] ?_)
  cases H
  exact T8 (jR0 h1 [0,0])
 refine Sa (T9 (Zb [4] ?_))
 cases H
 exact T8 (jR0 h1 [0,0])

def Q6.f (a0:TL) (a1:Int):Option (Bool):=(Q10.f a0 a1).bind fun r1=>(if (decide (r1=0))=true then (if 0<=(w64 (Int.tdiv a1 64))/\(w64 (Int.tdiv a1 64))<(a0.2.2.length:Int) then (if 0<=(Int.tmod a1 64) then (some (decide ((uH.wrap (((ofInt uH.bits (Int.fdiv (gt a0.2.2 (w64 (Int.tdiv a1 64))) (2 ^ (min (Int.tmod a1 64).toNat 64))) &&& (ofInt uH.bits 1)).toNat:Int)))=1))) else none) else none) else (some false))
theorem Q6.spec {a0 a1 b1 A1 c_1 r} (H:Q6.f a0 a1=some r) :
  Spec prog 158 [.pointer (some ⟨b1,0,none⟩),.int .i64 a1] (Ve a0 b1 A1 c_1) [] (fun v l=>v=.bool r/\l=Ve a0 b1 A1 c_1):=by
 refine Zi Tryz.func158 fun w0 F0 h0=>?_
 replace h0:=nf h0
 unfold Q6.f at H
 refine T9 (Zb [0,1] ?_)
 refine T9 (T7 ?_)
 refine Zd 2 ?_
 refine cS H [0,0] h0 rfl Q10.spec Zo fun r1 w1 H h1=>?_
 refine Zd 2 ?_
 refine Z7 9 H (fun c1 H=>?_) fun c1 H=>?_
 ·refine Zd 3 ?_
  refine Zc (Za 0 h1.wht) ?_
  refine Zd 2 ?_
  obtain ⟨⟨p1,p2⟩,H⟩:=Zk H
  have e1:=Z1 h1.wh (gO 1) p1 p2
  refine Zc (Zg e1 p1 p2) ?_
  refine Zc (Zh 0 h1.wht (gO 1) p1 p2) ?_
  refine Zd 2 ?_
  obtain ⟨p3,H⟩:=Zk H
  refine Zc (Zfs p3) ?_
  refine Ze [4] rfl ?_
  cases H
  exact T8 (jR0 h1 [0,0])
 refine Ze [4] rfl ?_
 cases H
 exact T8 (jR0 h1 [0,0])

def Q8.f (a0:TL) (a1:Int):Option (Int×TL):=(Q10.f a0 a1).bind fun r1=>(if (!decide (r1=0))=true then (some (r1,a0)) else ((Q6.f a0 a1).bind fun r2=>(if r2=true then (some (10,a0)) else (if 0<=(w64 (Int.tdiv a1 64))/\(w64 (Int.tdiv a1 64))<(a0.2.2.length:Int) then (if 0<=(Int.tmod a1 64) then (some (0,(a0.1,(w64 (a0.2.1+1)),(a0.2.2.set (w64 (Int.tdiv a1 64)).toNat (uH.wrap (((ofInt uH.bits (gt a0.2.2 (w64 (Int.tdiv a1 64))) ||| (ofInt uH.bits (uH.wrap ((1:Int)*2 ^ (min (Int.tmod a1 64).toNat 64))))).toNat:Int))))))) else none) else none))))
theorem Q8.spec {a0 a1 b1 A1 c_1 r} (H:Q8.f a0 a1=some r) :
  Spec prog 127 [.pointer (some ⟨b1,0,none⟩),.int .i64 a1] (Ve a0 b1 A1 c_1) [] (fun v l=>∃ A_0 c_0,v=.int .i64 r.1/\l=Ve r.2 b1 A_0 c_0):=by
 refine Zi Tryz.func127 fun w0 F0 h0=>?_
 replace h0:=nf h0
 unfold Q8.f at H
 refine T9 (Zb [0,1] ?_)
 refine T9 (T9 (T7 ?_))
 refine Zd 2 ?_
 refine cS H [0,0] h0 rfl Q10.spec Zo fun r1 w1 H h1=>?_
 refine Ze [0,1,5] rfl ?_
 refine T9 (Zb [0,1,5,10] ?_)
 refine jIf H (fun c1 H=>?_) fun c1 H=>?_
 ·refine T9 (Zb [4] ?_)
  cases H
  exact T8 (jR ⟨_,_,rfl,rfl⟩ h1 [0,0])
 refine Sa (T9 (T9 (T7 ?_)))
 refine Zd 2 ?_
 refine cS H [0,0] h1 rfl Q6.spec Zo fun r2 w2 H h2=>?_
 refine Ze [0,1,14] rfl ?_
 refine jIf H (fun c2 H=>?_) fun c2 H=>?_
 ·refine T9 (Zb [4] ?_)
  cases H
  exact T8 (jR ⟨_,_,rfl,rfl⟩ h2 [0,0])
 refine Sa (T9 ?_)
 obtain ⟨⟨p1,p2⟩,H⟩:=Zk H
 obtain ⟨p3,H⟩:=Zk H
 refine T6 (fun env w=>env=[(0,.pointer (some ⟨b1,0,none⟩))]/\St w0 F0 [X4 b1 a0.1 a0.2.1 (a0.2.2.set (w64 (Int.tdiv a1 64)).toNat (uH.wrap (((ofInt uH.bits (gt a0.2.2 (w64 (Int.tdiv a1 64))) ||| (ofInt uH.bits (uH.wrap ((1:Int)*2 ^ (min (Int.tmod a1 64).toNat 64))))).toNat:Int)))) A1 c_1,O63 (a0.2.2.set (w64 (Int.tdiv a1 64)).toNat (uH.wrap (((ofInt uH.bits (gt a0.2.2 (w64 (Int.tdiv a1 64))) ||| (ofInt uH.bits (uH.wrap ((1:Int)*2 ^ (min (Int.tmod a1 64).toNat 64))))).toNat:Int)))) A1 c_1] [] w) ?_ ?_
 ·refine Zx (sO h2 [0]) ?_
  have h4:=h2.drew
  refine Zl [0,1,2,4,5,8,9] ?_
  refine Zf 3 rfl (Za 0 wI) ?_
  have e2:=Z1 h4.wh (gO 1) p1 p2
  refine Zf 6 rfl (Zg e2 p1 p2) ?_
  refine HJ.named fun G E hE hG=>?_
  have j7:∀ w2,St w0 F0 [X4 b1 a0.1 a0.2.1 a0.2.2 A1 c_1,O63 a0.2.2 A1 c_1] [] w2->G [12,11,10,7,6,3,9,8,5,4,2,1,0] ((27,.pointer (some ⟨blk A1,ofs A1+(w64 (Int.tdiv a1 64)).toNat*1,none⟩)) :: (26,.int .u64 (uH.wrap (((ofInt uH.bits (gt a0.2.2 (w64 (Int.tdiv a1 64))) ||| (ofInt uH.bits (uH.wrap ((1:Int)*2 ^ (min (Int.tmod a1 64).toNat 64))))).toNat:Int)))) :: (25,.int .u64 (uH.wrap ((1:Int)*2 ^ (min (Int.tmod a1 64).toNat 64)))) :: (22,.int .u64 (gt a0.2.2 (w64 (Int.tdiv a1 64)))) :: E) w2:=by
   intro w2 h4
   subst hE
   refine (hG _ _ _).1 ?_
   refine hS 13 rfl (Zp 0 (.int .u64) (w64 (Int.tdiv a1 64)) (uH.wrap (((ofInt uH.bits (gt a0.2.2 (w64 (Int.tdiv a1 64))) ||| (ofInt uH.bits (uH.wrap ((1:Int)*2 ^ (min (Int.tmod a1 64).toNat 64))))).toNat:Int))) 1 h4 rfl p1 p2) 1 fun _ w7 h8=>?_
   replace h8:St w0 F0 [O63 (a0.2.2.set (w64 (Int.tdiv a1 64)).toNat (uH.wrap (((ofInt uH.bits (gt a0.2.2 (w64 (Int.tdiv a1 64))) ||| (ofInt uH.bits (uH.wrap ((1:Int)*2 ^ (min (Int.tmod a1 64).toNat 64))))).toNat:Int)))) A1 c_1,X4 b1 a0.1 a0.2.1 (a0.2.2.set (w64 (Int.tdiv a1 64)).toNat (uH.wrap (((ofInt uH.bits (gt a0.2.2 (w64 (Int.tdiv a1 64))) ||| (ofInt uH.bits (uH.wrap ((1:Int)*2 ^ (min (Int.tmod a1 64).toNat 64))))).toNat:Int)))) A1 c_1] _ _:=h8.retell (by simp only [length_set,length_nil,O63,X4] <;> rfl)
   refine Z0 [0] ?_
   exact Y6 ⟨(by simp only [length_set,length_nil] <;> rfl),((h8.only [1,0] rfl).rds [] rfl)⟩
  subst hE
  refine (hG _ _ _).1 ?_
  refine TZ [7,10] (i:=7) rfl rfl rfl rfl ?_
  refine (Y4 ?_ (Y4 ?_ Vs))
  ·refine Yz 7 rfl (Sc (Zh 0 h4.wht (gO 1) p1 p2)) ?_
   rintro _ _ ⟨rfl,rfl⟩
   replace h4:=nf h4
   refine ⟨⟨[_],(sO h4 [1,0])⟩,?_⟩
   refine Zf 10 rfl (Gv p3) ?_
   refine Zl [11] ?_
   refine Zf 12 rfl (Zg e2 p1 p2) ?_
   exact (hG _ _ _).2 (j7 _ h4)
  ·refine HS.op (i:=10) rfl rfl rfl (Sc (Zj5 rfl rfl rfl p3)) ?_; rintro _ _ ⟨rfl,rfl⟩; replace h4:St w0 F0 [_,_] _ _:=h4; refine ⟨⟨[_],(h4.only [1,0] rfl)⟩,?_⟩
   refine Yh 7 rfl (Sc (Zh 0 h4.wht (gO 1) p1 p2)) ?_
   rintro _ _ ⟨rfl,rfl⟩
   replace h4:=nf h4
   refine ⟨⟨[_],(sO h4 [1,0])⟩,?_⟩
   refine Zl [11] ?_
   refine Zf 12 rfl (Zg e2 p1 p2) ?_
   exact ((hG _ _ _).2 (j7 _ h4)).re [0,1,3,2] 4
 rintro env w10 ⟨rfl,h11⟩
 refine T9 (T7 ?_)
 refine Zd 3 ?_
 refine Zc (Za 0 h11.wht) ?_
 refine Zd 3 ?_
 refine rS (Zv 0 h11) fun _ w11 h12=>?_
 refine Ze [] rfl ?_
 refine T9 (Zb [4] ?_)
 cases H
 exact T8 (jR ⟨_,_,rfl,rfl⟩ h12 [0,0])

def Q79.f (a0:Int):Option (Option TH×Int):=if (decide (a0<5))=true then (some (none,2)) else ((Q2.f a0).bind fun r1=>(Vo r1.1 (if (!decide (r1.2=0))=true then (some (none,r1.2)) else none) (fun r2=>(if (!decide (r1.2=0))=false then ((Q8.f r2 0).bind fun r3=>(some ((some r3.2),0))) else none))))
theorem Q79.spec {a0 r} (H:Q79.f a0=some r) :
  Spec prog 85 [.int .i64 a0] [] [] (fun v l=>∃(pv:Value) (lp:List Ch),OptC r.1 (fun d pv lp=>∃ b_0 b_1 A_2 c_2,pv=.pointer (some ⟨b_0,0,none⟩)/\lp=[Vv b_0 (.pointer (some ⟨b_1,0,none⟩)),X4 b_1 d.1 d.2.1 d.2.2 A_2 c_2,O63 d.2.2 A_2 c_2]) pv lp/\v=.tuple #[pv,.int .i64 r.2]/\l=lp ++ []):=by
 refine Zi Tryz.func85 fun w0 F0 h0=>?_
 unfold Q79.f at H
 refine T9 (Zb [0] ?_)
 refine T9 (T9 (Zb [0,7] ?_))
 refine jIf H (fun c1 H=>?_) fun c1 H=>?_
 ·refine T9 (Zb [2,3] ?_)
  cases H
  exact T8 (jR ⟨_,_,Sd,rfl,rfl⟩ h0 [])
 refine Sa (T9 (T7 ?_))
 refine Zd 1 ?_
 refine cE H [] h0 rfl Q2.spec Zo ?_
 rintro r1 w1 _ _ H ⟨v1,l1,ho1,rfl,rfl⟩ h1
 rcases ho2:r1.1 with _ | r2
 ·rw [ho2] at ho1
  obtain ⟨rfl,rfl⟩:=ho1
  replace H:=J3 ho2 H
  obtain ⟨c2,H⟩:=Zk H
  replace h1:=nf h1
  refine Ze [4,5] rfl ?_
  refine T9 (T9 (Zb [4,5,14] ?_))
  refine T2 rfl (fun e=>?_) (fun e=>by rw [c2] at e; cases e)
  refine T9 (Zb [2,3] ?_)
  cases H
  exact T8 (jR ⟨_,_,Sd,rfl,rfl⟩ h1 [])
 rw [ho2] at ho1
 obtain ⟨b1,A1,c_1,rfl,rfl⟩:=ho1
 replace H:=J4 ho2 H
 obtain ⟨c3,H⟩:=Zk H
 replace h1:=nf h1
 refine Ze [4,5] rfl ?_
 refine T9 (T9 (Zb [4,5,14] ?_))
 refine T2 rfl (fun e=>by rw [c3] at e; cases e) (fun e=>?_)
 refine Sa (T9 (T7 ?_))
 refine Zd 1 ?_
 refine cE H [0,0] h1 rfl Q8.spec Zo ?_
 rintro r3 w2 _ _ H ⟨A2,c_2,rfl,rfl⟩ h2
 replace h2:=nf h2
 refine Ze [4] rfl ?_
 refine T9 (T7 ?_)
 refine Zd 2 ?_
 refine rB (Z8 h2) fun b2 w3 h3=>?_
 refine Ze [2,3] rfl ?_
 cases H
 exact T8 (jR ⟨_,_,(Se ⟨_,_,_,_,rfl,rfl⟩),rfl,rfl⟩ h3 [0,0,0])

def Q154.f (a0:Tr) (a1:TS):Option (Bool):=if (decide (1<=(a1.length:Int)))=true then (some (decide ((a1.length:Int)<=a0.2.2.2.2.2.2.1))) else (some false)
theorem Q154.spec {a0 a1 r} (H:Q154.f a0 a1=some r) :
  Spec prog 86 [.agg #[.int .i64 a0.1,.int .i64 a0.2.1,.int .i64 a0.2.2.1,.int .i64 a0.2.2.2.1,.int .i64 a0.2.2.2.2.1,.int .i64 a0.2.2.2.2.2.1,.int .i64 a0.2.2.2.2.2.2.1,.int .i64 a0.2.2.2.2.2.2.2],.string ⟨⟨a1⟩⟩] [] [] (fun v l=>v=.bool r/\l=[]):=by
 refine Zi Tryz.func86 fun w0 F0 h0=>?_
 unfold Q154.f at H
 refine T9 (T7 ?_)
 refine rB (Z8 h0) fun b1 w1 h1=>?_
 refine Ze [1,2] rfl ?_
 refine T9 (T7 ?_)
 refine Zd 4 ?_
 refine Z7 8 H (fun c1 H=>?_) fun c1 H=>?_
 ·refine Zd 3 ?_
  refine Zc (Za 0 h1.wht) ?_
  refine Ze [4] rfl ?_
  cases H
  exact T8 (jR0 h1 [])
 refine Ze [4] rfl ?_
 cases H
 exact T8 (jR0 h1 [])

def Q151.l0:Nat->TA->TS->TA->(Int)->Option Tz
 | 0,_,_,_,_=>none
 | k+1,a0,a1,x1,x2=>if (decide (x2<(a0.length:Int)))=true then (if 0<=x2/\x2<(a0.length:Int) then (if (!decide (((gt a0 x2).1)=a1))=true then (if (x1.length+([(gt a0 x2)]:List TF).length)*32<=140737488355328 then (Q151.l0 k a0 a1 (x1 ++ [(gt a0 x2)]) (w64 (x2+1))) else none) else (Q151.l0 k a0 a1 x1 (w64 (x2+1)))) else none) else (some x1)
def Q151.f (k:Nat) (a0:TA) (a1:TS):Option Tz:=Q151.l0 k a0 a1 [] 0
theorem Q151.spec {k a0 a1 A1 c_1 r} (H:Q151.f k a0 a1=some r) :
  Spec prog 100 [.slice A1 a0.length c_1,.string ⟨⟨a1⟩⟩] [] [R47 a0 A1 c_1] (fun v l=>∃ A_0 c_0,v=.slice A_0 r.length c_0/\l=[O47 r A_0 c_0]):=by
 refine Zi Tryz.func100 fun w0 F0 h0=>?_
 unfold Q151.f at H
 refine T9 (Zb [0,1] ?_)
 refine T9 (T7 ?_)
 refine rB (Zz (.pair .str .str) [] h0) fun b1 w1 h1=>?_
 refine Ze [0,1,5] rfl ?_
 refine T9 (T9 (Zb [0,1,5,6] ?_))
 refine T1 ?_
 have h7:=(sOR h1 [0] [0])
 refine T5 (fun kk env w=>∃ x1 A2 c_2 x2,Q151.l0 kk a0 a1 x1 x2=some r/\env=[(0,.slice A1 a0.length c_1),(1,.string ⟨⟨a1⟩⟩),(5,.slice A2 x1.length c_2),(6,.int .i64 x2)]/\St w0 F0 [O47 x1 A2 c_2] [R47 a0 A1 c_1] w) (k:=k) ⟨_,_,_,_,H,rfl,h7⟩ ?_
 rintro k1 env w2 ⟨x1,A2,c_2,x2,H,rfl,h2⟩
 rcases k1 with _ | k1
 ·exact z0 H
 rw [Q151.l0] at H
 refine T9 (T9 (Zb [0,1,5,6,11] ?_))
 refine jIf H (fun c1 H=>?_) fun c1 H=>?_
 ·refine Sa (T9 (T1 (T9 (T7 ?_))))
  refine Zd 2 ?_
  obtain ⟨⟨p1,p2⟩,H⟩:=Zk H
  have e1:=Z1 h2.wh (Zj 1) p1 p2
  refine Zc (Zg e1 p1 p2) ?_
  refine Zd 1 ?_
  refine Zc (Zh 0 h2.wht (Zj 1) p1 p2) ?_
  refine Ze [0,1,5,6,20] rfl ?_
  refine jIf H (fun c2 H=>?_) fun c2 H=>?_
  ·refine T7 (Zd 3 ?_)
   refine Zc (Zg e1 p1 p2) ?_
   refine Zc (Zh 0 h2.wht (Zj 1) p1 p2) ?_
   refine rB (Zz (.pair .str .str) [(gt a0 x2)] h2) fun b2 w3 h3=>?_
   obtain ⟨p3,H⟩:=Zk H
   refine Zr (Zu 1 h3 (gO 0) p3) ?_
   rintro _ w4 ⟨A3,c_3,rfl,h4⟩
   replace h4:=nf h4
   refine Ze [0,1,5,6] rfl ?_
   refine Zb [0,1,5,6] ?_
   have h5:=(sOR h4 [0] [0])
   exact ⟨k1,by omega,_,_,_,_,H,rfl,h5⟩
  refine Sa (Zb [0,1,5,6] ?_)
  have h6:=(sOR h2 [0] [0])
  exact ⟨k1,by omega,_,_,_,_,H,rfl,h6⟩
 refine T4 (T9 (Zb [4] ?_))
 cases H
 exact T8 (jR ⟨_,_,rfl,rfl⟩ h2 [0])

def Q143.l0:Nat->TS->TS->(Int)->Option (Int)
 | 0,_,_,_=>none
 | k+1,a0,a1,x1=>if (decide (x1<(a0.length:Int)))=true then (if (decide (x1<(a1.length:Int)))=true then (if 0<=x1/\x1<(a0.length:Int) then (if 0<=x1/\x1<(a1.length:Int) then (if (decide ((gtb a0 x1)<(gtb a1 x1)))=true then (some (-1)) else (if (decide ((gtb a1 x1)<(gtb a0 x1)))=true then (some 1) else (Q143.l0 k a0 a1 (w64 (x1+1))))) else none) else none) else (if (decide ((a0.length:Int)<(a1.length:Int)))=true then (some (-1)) else (if (decide ((a1.length:Int)<(a0.length:Int)))=true then (some 1) else (some 0)))) else (if (decide ((a0.length:Int)<(a1.length:Int)))=true then (some (-1)) else (if (decide ((a1.length:Int)<(a0.length:Int)))=true then (some 1) else (some 0)))
def Q143.f (k:Nat) (a0:TS) (a1:TS):Option (Int):=Q143.l0 k a0 a1 0
theorem Q143.spec {k a0 a1 r} (H:Q143.f k a0 a1=some r) :
  Spec prog 27 [.string ⟨⟨a0⟩⟩,.string ⟨⟨a1⟩⟩] [] [] (fun v l=>v=.int .i64 r/\l=[]):=by
 refine Zi Tryz.func27 fun w0 F0 h0=>?_
 unfold Q143.f at H
 refine T9 (Zb [0,1] ?_)
 refine T9 (T9 (Zb [0,1,5] ?_))
 refine T1 ?_
 have h5:=(sOR h0 [] [])
 refine T5 (fun kk env w=>∃ x1,Q143.l0 kk a0 a1 x1=some r/\env=[(0,.string ⟨⟨a0⟩⟩),(1,.string ⟨⟨a1⟩⟩),(5,.int .i64 x1)]/\St w0 F0 [] [] w) (k:=k) ⟨_,H,rfl,h5⟩ ?_
 rintro k1 env w1 ⟨x1,H,rfl,h1⟩
 rcases k1 with _ | k1
 ·exact z0 H
 rw [Q143.l0] at H
 refine T9 (T9 (T7 ?_))
 refine Zd 5 ?_
 refine Z7 10 H (fun c1 H=>?_) fun c1 H=>?_
 ·refine Ze [0,1,5,15] rfl ?_
  refine jIf H (fun c2 H=>?_) fun c2 H=>?_
  ·refine Sa (T9 (T1 (T9 (T9 ?_))))
   refine jH h1 fun h2=>?_
   refine Zl [0,1,3,4] ?_
   obtain ⟨⟨p1,p2⟩,H⟩:=Zk H
   refine Zf 2 rfl (X0 p1 p2) ?_
   obtain ⟨⟨p3,p4⟩,H⟩:=Zk H
   refine Zf 5 rfl (X0 p3 p4) ?_
   refine Zl [6] ?_
   refine Z0 [0,1,5,24] ?_
   refine jIf H (fun c3 H=>?_) fun c3 H=>?_
   ·refine T9 (Zb [4] ?_)
    cases H
    exact T8 (jR0 h2 [])
   refine Sa (T9 (jH h2 fun h3=>?_))
   refine Zl [0,1,3,4] ?_
   refine Zf 2 rfl (X0 p1 p2) ?_
   refine Zf 5 rfl (X0 p3 p4) ?_
   refine Zl [6] ?_
   refine Z0 [0,1,5,31] ?_
   refine jIf H (fun c4 H=>?_) fun c4 H=>?_
   ·refine T9 (Zb [4] ?_)
    cases H
    exact T8 (jR0 h3 [])
   refine Sa (Zb [0,1,5] ?_)
   have h4:=(sOR h3 [] [])
   exact ⟨k1,by omega,_,H,rfl,h4⟩
  refine T4 (T9 (T9 (Zb [0,1,36] ?_)))
  refine jIf H (fun c5 H=>?_) fun c5 H=>?_
  ·refine T9 (Zb [4] ?_)
   cases H
   exact T8 (jR0 h1 [])
  refine Sa (T9 (T9 (Zb [41] ?_)))
  refine jIf H (fun c6 H=>?_) fun c6 H=>?_
  ·refine T9 (Zb [4] ?_)
   cases H
   exact T8 (jR0 h1 [])
  refine Sa (T9 (Zb [4] ?_))
  cases H
  exact T8 (jR0 h1 [])
 refine Ze [0,1,5,15] rfl ?_
 refine Z4 ?_
 refine T4 (T9 (T9 (Zb [0,1,36] ?_)))
 refine jIf H (fun c7 H=>?_) fun c7 H=>?_
 ·refine T9 (Zb [4] ?_)
  cases H
  exact T8 (jR0 h1 [])
 refine Sa (T9 (T9 (Zb [41] ?_)))
 refine jIf H (fun c8 H=>?_) fun c8 H=>?_
 ·refine T9 (Zb [4] ?_)
  cases H
  exact T8 (jR0 h1 [])
 refine Sa (T9 (Zb [4] ?_))
 cases H
 exact T8 (jR0 h1 [])

def Q152.l0:Nat->TS->TS->Tz->(Int)->Option Tz
 | 0,_,_,_,_=>none
 | k+1,a1,a2,r1,x3=>if (decide (x3<(r1.length:Int)))=true then (if 0<=x3/\x3<(r1.length:Int) then ((Q143.f k ((gt r1 x3).1) a1).bind fun r2=>(if (decide (r2<0))=true then (Q152.l0 k a1 a2 r1 (w64 (x3+1))) else (if (0:Int)<=x3/\x3<=(r1.length:Int) then (if (([]:List TF).length+(r1.take x3.toNat).length)*32<=140737488355328 then (if (([] ++ (r1.take x3.toNat)).length+([(a1,a2)]:List TF).length)*32<=140737488355328 then (if 0<=x3/\x3<=(r1.length:Int) then (if ((([] ++ (r1.take x3.toNat)) ++ [(a1,a2)]).length+(r1.drop x3.toNat).length)*32<=140737488355328 then (some ((([] ++ (r1.take x3.toNat)) ++ [(a1,a2)]) ++ (r1.drop x3.toNat))) else none) else none) else none) else none) else none))) else none) else (if (0:Int)<=x3/\x3<=(r1.length:Int) then (if (([]:List TF).length+(r1.take x3.toNat).length)*32<=140737488355328 then (if (([] ++ (r1.take x3.toNat)).length+([(a1,a2)]:List TF).length)*32<=140737488355328 then (if 0<=x3/\x3<=(r1.length:Int) then (if ((([] ++ (r1.take x3.toNat)) ++ [(a1,a2)]).length+(r1.drop x3.toNat).length)*32<=140737488355328 then (some ((([] ++ (r1.take x3.toNat)) ++ [(a1,a2)]) ++ (r1.drop x3.toNat))) else none) else none) else none) else none) else none)
def Q152.f (k:Nat) (a0:TA) (a1:TS) (a2:TS):Option Tz:=(Q151.f k a0 a1).bind fun r1=>(Q152.l0 k a1 a2 r1 0)
theorem Q152.spec {k a0 a1 a2 A1 c_1 r} (H:Q152.f k a0 a1 a2=some r) :
  Spec prog 87 [.slice A1 a0.length c_1,.string ⟨⟨a1⟩⟩,.string ⟨⟨a2⟩⟩] [] [R47 a0 A1 c_1] (fun v l=>∃ A_0 c_0,v=.slice A_0 r.length c_0/\l=[O47 r A_0 c_0]):=by
 refine Zi Tryz.func87 fun w0 F0 h0=>?_
 unfold Q152.f at H
 refine T9 (Zb [0,1,2] ?_)
 refine T9 (T7 ?_)
 refine Zd 2 ?_
 refine cE H [] h0 rfl Q151.spec (gS [0]) ?_
 rintro r1 w1 _ _ H ⟨A2,c_2,rfl,rfl⟩ h1
 replace h1:=nf h1
 refine Ze [0,1,2] rfl ?_
 refine T9 (Zb [0,1,2,7] ?_)
 refine T9 (T6 (fun env w=>∃(x1:Int) (x2:Bool),env=[(0,.slice A2 r1.length c_2),(1,.string ⟨⟨a1⟩⟩),(2,.string ⟨⟨a2⟩⟩),(7,.int .i64 x1),(25,.bool x2)]/\St w0 F0 [O47 r1 A2 c_2] [] w/\(if (0:Int)<=x1/\x1<=(r1.length:Int) then (if (([]:List TF).length+(r1.take x1.toNat).length)*32<=140737488355328 then (if (([] ++ (r1.take x1.toNat)).length+([(a1,a2)]:List TF).length)*32<=140737488355328 then (if 0<=x1/\x1<=(r1.length:Int) then (if ((([] ++ (r1.take x1.toNat)) ++ [(a1,a2)]).length+(r1.drop x1.toNat).length)*32<=140737488355328 then (some ((([] ++ (r1.take x1.toNat)) ++ [(a1,a2)]) ++ (r1.drop x1.toNat))) else none) else none) else none) else none) else none)=some r) ?_ ?_)
 ·refine T1 ?_
  have h14:=(sOR h1 [0] [])
  refine T5 (fun kk env w=>∃ x3,Q152.l0 kk a1 a2 r1 x3=some r/\env=[(0,.slice A2 r1.length c_2),(1,.string ⟨⟨a1⟩⟩),(2,.string ⟨⟨a2⟩⟩),(7,.int .i64 x3)]/\St w0 F0 [O47 r1 A2 c_2] [] w/\kk<=k) (k:=k) ⟨_,H,rfl,h14,Sb _⟩ ?_
  rintro k2 env w9 ⟨x3,H,rfl,h9,hk2⟩
  rcases k2 with _ | k2
  ·exact z0 H
  rw [Q152.l0] at H
  refine T9 (T9 (T7 ?_))
  refine Zd 5 ?_
  refine Z7 16 H (fun c1 H=>?_) fun c1 H=>?_
  ·refine Zd 2 ?_
   obtain ⟨⟨p8,p9⟩,H⟩:=Zk H
   have e3:=Z1 h9.wh (gO 0) p8 p9
   refine Zc (Zg e3 p8 p9) ?_
   refine Zd 1 ?_
   refine Zc (Zh 0 h9.wht (gO 0) p8 p9) ?_
   refine Zd 1 ?_
   refine cS H [] h9 rfl Q143.spec Zo fun r2 w10 H h10=>?_
   refine Ze [0,1,2,7,25] rfl ?_
   refine jIf H (fun c2 H=>?_) fun c2 H=>?_
   ·refine Sa (T1 (Zb [0,1,2,7] ?_))
    have h11:=(sOR h10 [0] [])
    exact ⟨k2,by omega,_,H,rfl,h11,by omega⟩
   refine T4 ?_
   have h12:=(sOR h10 [0] [])
   exact ⟨x3,(decide (r2<0)),rfl,h12,H⟩
  refine Ze [0,1,2,7,25] rfl ?_
  refine Z4 ?_
  refine T4 ?_
  have h13:=(sOR h9 [0] [])
  exact ⟨x3,false,rfl,h13,H⟩
 rintro env w3 ⟨x1,x2,rfl,h2,H⟩
 refine T9 (T7 ?_)
 refine rB (Zz (.pair .str .str) [] h2) fun b1 w4 h3=>?_
 refine Zd 2 ?_
 obtain ⟨⟨p1,p2⟩,H⟩:=Zk H
 have e1:=h3.cap (gO 1)
 refine Zc (X8 (r1.take x1.toNat) x1 e1 p1 p2) ?_
 obtain ⟨p3,H⟩:=Zk H
 refine Zr (Zu 0 h3 ((Gives.of 0 rfl Yi).trans (Uf (.pair .str .str) (r1.take x1.toNat) x1 p1 p2)) p3) ?_
 rintro _ w5 ⟨A3,c_3,rfl,h4⟩
 replace h4:=nf h4
 refine Ze [0,1,2,7,8] rfl ?_
 refine T9 (T7 ?_)
 refine Zd 4 ?_
 refine rB (Zz (.pair .str .str) [(a1,a2)] h4) fun b2 w6 h5=>?_
 obtain ⟨p4,H⟩:=Zk H
 refine Zr (Zu 1 h5 (gO 0) p4) ?_
 rintro _ w7 ⟨A4,c_4,rfl,h6⟩
 replace h6:=nf h6
 refine Ze [0,7,8] rfl ?_
 refine T9 (T7 ?_)
 refine Zd 3 ?_
 obtain ⟨⟨p5,p6⟩,H⟩:=Zk H
 have e2:=h6.cap (gO 2)
 refine Zc (V8 (r1.drop x1.toNat) x1 (r1.length:Int) e2 p5 p6 (Int.le_refl _) (Yw _ _)) ?_
 obtain ⟨p7,H⟩:=Zk H
 refine Zr (Zu 0 h6 ((Gives.of 1 rfl Yi).trans (Vu (.pair .str .str) (r1.drop x1.toNat) x1 (r1.length:Int) p5 p6 (Int.le_refl _) (Yw _ _))) p7) ?_
 rintro _ w8 ⟨A5,c_5,rfl,h7⟩
 replace h7:=nf h7
 refine Ze [6] rfl ?_
 have h8:=sO h7 [0]
 replace h8:=nf h8
 cases H
 exact T8 (jR ⟨_,_,rfl,rfl⟩ h8 [0])

mutual
def Q138.l0:Nat->Tr->Tq->TA->(Int)->Option Tz
 | 0,_,_,_,_=>none
 | k+1,a0,a1,x1,x2=>if (decide (x2<(a1.1.length:Int)))=true then (Q138.l1 k a0 a1 x1 x2 (decide (x2<150))) else (Q138.l1 k a0 a1 x1 x2 false)
def Q138.l1:Nat->Tr->Tq->TA->(Int)->(Bool)->Option Tz
 | 0,_,_,_,_,_=>none
 | k+1,a0,a1,x1,x2,x3=>if x3=true then (if 0<=x2/\x2<(a1.1.length:Int) then ((Q154.f a0 ((gt a1.1 x2).1)).bind fun r2=>(if r2=true then (Q138.l2 k a0 a1 x1 x2 (decide ((((gt a1.1 x2).2).length:Int)<=a0.2.2.2.2.2.2.2))) else (Q138.l2 k a0 a1 x1 x2 false))) else none) else (some x1)
def Q138.l2:Nat->Tr->Tq->TA->(Int)->(Bool)->Option Tz
 | 0,_,_,_,_,_=>none
 | k+1,a0,a1,x1,x2,x4=>if x4=true then (if 0<=x2/\x2<(a1.1.length:Int) then ((Q152.f k x1 ((gt a1.1 x2).1) ((gt a1.1 x2).2)).bind fun r1=>(Q138.l0 k a0 a1 r1 (w64 (x2+1)))) else none) else (Q138.l0 k a0 a1 x1 (w64 (x2+1)))
end
def Q138.f (k:Nat) (a0:Tr) (a1:Tq):Option Tz:=Q138.l0 k a0 a1 [] 0
theorem Q138.spec {k a0 a1 A1 c_1 A2 c_2 A3 c_3 A4 c_4 r} (H:Q138.f k a0 a1=some r) :
  Spec prog 42 [.agg #[.int .i64 a0.1,.int .i64 a0.2.1,.int .i64 a0.2.2.1,.int .i64 a0.2.2.2.1,.int .i64 a0.2.2.2.2.1,.int .i64 a0.2.2.2.2.2.1,.int .i64 a0.2.2.2.2.2.2.1,.int .i64 a0.2.2.2.2.2.2.2],.agg #[.slice A1 a1.1.length c_1,.slice A2 a1.2.1.length c_2,.slice A3 a1.2.2.1.length c_3,.slice A4 a1.2.2.2.length c_4]] [] [R47 a1.1 A1 c_1,R69 a1.2.1 A2 c_2,R5 a1.2.2.1 A3 c_3,R5 a1.2.2.2 A4 c_4] (fun v l=>∃ A_0 c_0,v=.slice A_0 r.length c_0/\l=[O47 r A_0 c_0]):=by
 refine Zi Tryz.func42 fun w0 F0 h0=>?_
 unfold Q138.f at H
 refine T9 (T7 ?_)
 refine rB (Z8 h0) fun b1 w1 h1=>?_
 refine rB (Z8 h1) fun b2 w2 h2=>?_
 refine Ze [2,3] rfl ?_
 refine T9 (T7 ?_)
 refine rB (Zz (.pair .str .str) [] h2) fun b3 w3 h3=>?_
 refine Ze [2,3,5] rfl ?_
 refine T9 (T9 (Zb [2,3,5,6] ?_))
 refine T1 ?_
 have h18:=(sOR h3 [2,1,0] [0,1,2,3])
 refine T5 (fun kk env w=>∃ x1 A5 c_5 x2,Q138.l0 kk a0 a1 x1 x2=some r/\env=[(2,.pointer (some ⟨b1,0,none⟩)),(3,.pointer (some ⟨b2,0,none⟩)),(5,.slice A5 x1.length c_5),(6,.int .i64 x2)]/\St w0 F0 [X23 b1 a0.1 a0.2.1 a0.2.2.1 a0.2.2.2.1 a0.2.2.2.2.1 a0.2.2.2.2.2.1 a0.2.2.2.2.2.2.1 a0.2.2.2.2.2.2.2,X28 b2 a1.1 A1 c_1 a1.2.1 A2 c_2 a1.2.2.1 A3 c_3 a1.2.2.2 A4 c_4,O47 x1 A5 c_5] [R47 a1.1 A1 c_1,R69 a1.2.1 A2 c_2,R5 a1.2.2.1 A3 c_3,R5 a1.2.2.2 A4 c_4] w) (k:=k) ⟨_,_,_,_,H,rfl,h18⟩ ?_
 rintro k1 env w4 ⟨x1,A5,c_5,x2,H,rfl,h4⟩
 rcases k1 with _ | k1
 ·exact z0 H
 rw [Q138.l0] at H
 refine T9 (T9 ?_)
 refine T6 (fun env w=>∃ k2 x3,Q138.l1 k2 a0 a1 x1 x2 x3=some r/\env=[(2,.pointer (some ⟨b1,0,none⟩)),(3,.pointer (some ⟨b2,0,none⟩)),(5,.slice A5 x1.length c_5),(6,.int .i64 x2),(16,.bool x3)]/\St w0 F0 [X23 b1 a0.1 a0.2.1 a0.2.2.1 a0.2.2.2.1 a0.2.2.2.2.1 a0.2.2.2.2.2.1 a0.2.2.2.2.2.2.1 a0.2.2.2.2.2.2.2,X28 b2 a1.1 A1 c_1 a1.2.1 A2 c_2 a1.2.2.1 A3 c_3 a1.2.2.2 A4 c_4,O47 x1 A5 c_5] [R47 a1.1 A1 c_1,R69 a1.2.1 A2 c_2,R5 a1.2.2.1 A3 c_3,R5 a1.2.2.2 A4 c_4] w/\k2<=k1) ?_ ?_
 ·refine T7 (Zd 2 ?_)
  refine Zc (Za 1 h4.wht) ?_
  refine Zd 3 ?_
  refine Z7 13 H (fun c4 H=>?_) fun c4 H=>?_
  ·refine Ze [2,3,5,6,16] rfl ?_
   have h16:=(sOR h4 [0,0,0] [0,1,2,3])
   exact ⟨k1,_,H,rfl,h16,Sb _⟩
  refine Ze [2,3,5,6,16] rfl ?_
  have h17:=(sOR h4 [0,0,0] [0,1,2,3])
  exact ⟨k1,_,H,rfl,h17,Sb _⟩
 rintro env w6 ⟨k2,x3,H,rfl,h5,hk2⟩
 rcases k2 with _ | k2
 ·exact z0 H
 rw [Q138.l1] at H
 refine jIf H (fun c1 H=>?_) fun c1 H=>?_
 ·refine Sa (T9 (T1 (T9 ?_)))
  refine T6 (fun env w=>∃ k3 x4,Q138.l2 k3 a0 a1 x1 x2 x4=some r/\env=[(2,.pointer (some ⟨b1,0,none⟩)),(3,.pointer (some ⟨b2,0,none⟩)),(5,.slice A5 x1.length c_5),(6,.int .i64 x2),(38,.bool x4)]/\St w0 F0 [X23 b1 a0.1 a0.2.1 a0.2.2.1 a0.2.2.2.1 a0.2.2.2.2.1 a0.2.2.2.2.2.1 a0.2.2.2.2.2.2.1 a0.2.2.2.2.2.2.2,X28 b2 a1.1 A1 c_1 a1.2.1 A2 c_2 a1.2.2.1 A3 c_3 a1.2.2.2 A4 c_4,O47 x1 A5 c_5] [R47 a1.1 A1 c_1,R69 a1.2.1 A2 c_2,R5 a1.2.2.1 A3 c_3,R5 a1.2.2.2 A4 c_4] w/\k3<=k2) ?_ ?_
  ·refine jH h5 fun h11=>?_
   refine Zl [1,3] ?_
   refine Zf 0 rfl (Za 0 wI) ?_
   refine Zf 2 rfl (Za 1 wI) ?_
   obtain ⟨⟨p3,p4⟩,H⟩:=Zk H
   have e2:=Z1 h11.wh (Zj 3) p3 p4
   refine Zf 4 rfl (Zg e2 p3 p4) ?_
   refine Zl [5] ?_
   refine Zf 6 rfl (Zh 0 wI (Zj 3) p3 p4) ?_
   refine cSJ 7 rfl H [] h11 rfl Q154.spec Zo 0 fun r2 w10 H h12=>?_
   refine Zl [8] ?_
   refine Wn 27 H (fun c3 H=>?_) fun c3 H=>?_
   ·refine Zl [9,11,16] ?_
    refine Zf 10 rfl (Za 1 wI) ?_
    refine Zf 12 rfl (Zg e2 p3 p4) ?_
    refine Zl [13] ?_
    refine Zf 14 rfl (Zh 1 wI (Zj 3) p3 p4) ?_
    refine Zl [15] ?_
    refine Zf 17 rfl (Za 0 wI) ?_
    refine Zl [18,19] ?_
    refine Z0 [2,3,5,6,38] ?_
    have h13:=(sOR h12 [0,0,0] [0,1,2,3])
    exact ⟨k2,_,H,rfl,h13,Sb _⟩
   refine Zl [9,10,11,12,13,14,15,16,17,18,19] ?_
   refine Z0 [2,3,5,6,38] ?_
   have h14:=(sOR h12 [0,0,0] [0,1,2,3])
   exact ⟨k2,_,H,rfl,h14,Sb _⟩
  rintro env w8 ⟨k3,x4,H,rfl,h6,hk3⟩
  rcases k3 with _ | k3
  ·exact z0 H
  rw [Q138.l2] at H
  refine jIf H (fun c2 H=>?_) fun c2 H=>?_
  ·refine jH h6 fun h7=>?_
   refine Zl [0,1,3,7,9] ?_
   refine Zf 2 rfl (Za 1 wI) ?_
   obtain ⟨⟨p1,p2⟩,H⟩:=Zk H
   have e1:=Z1 h7.wh (Zj 3) p1 p2
   refine Zf 4 rfl (Zg e1 p1 p2) ?_
   refine Zl [5] ?_
   refine Zf 6 rfl (Zh 0 wI (Zj 3) p1 p2) ?_
   refine Zf 8 rfl (Za 1 wI) ?_
   refine Zf 10 rfl (Zg e1 p1 p2) ?_
   refine Zl [11] ?_
   refine Zf 12 rfl (Zh 1 wI (Zj 3) p1 p2) ?_
   refine cEJ 13 rfl H [] h7 rfl Q152.spec (Xh (gO 2) Zo) ?_
   rintro r1 w9 _ _ H ⟨A6,c_6,rfl,rfl⟩ h8
   replace h8:=nf h8
   refine ⟨⟨[_],h8⟩,?_⟩
   refine Zl [14] ?_
   refine Z0 [2,3,5,6] ?_
   refine Zb [2,3,5,6] ?_
   have h9:=(sOR h8 [1,1,0] [0,1,2,3])
   exact ⟨k3,by omega,_,_,_,_,H,rfl,h9⟩
  refine Sa (Zb [2,3,5,6] ?_)
  have h10:=(sOR h6 [0,0,0] [0,1,2,3])
  exact ⟨k3,by omega,_,_,_,_,H,rfl,h10⟩
 refine T4 (T9 (Zb [4] ?_))
 have h15:=sO h5 [2]
 replace h15:=nf h15
 cases H
 exact T8 (jR ⟨_,_,rfl,rfl⟩ h15 [0])

def Q137.f (a0:Tq) (a1:Int) (a2:Int):Option (Int):=if (decide ((a0.2.2.2.length:Int)=0))=true then (some a2) else (if 0<(a0.2.2.2.length:Int) then (if 0<=(Int.tmod a1 (a0.2.2.2.length:Int))/\(Int.tmod a1 (a0.2.2.2.length:Int))<(a0.2.2.2.length:Int) then (if 0<a2 then (some (w64 (1+(Int.tmod (w64 ((gt a0.2.2.2 (Int.tmod a1 (a0.2.2.2.length:Int))))) a2)))) else none) else none) else none)
theorem Q137.spec {a0 a1 a2 A1 c_1 A2 c_2 A3 c_3 A4 c_4 r} (H:Q137.f a0 a1 a2=some r) :
  Spec prog 43 [.agg #[.slice A1 a0.1.length c_1,.slice A2 a0.2.1.length c_2,.slice A3 a0.2.2.1.length c_3,.slice A4 a0.2.2.2.length c_4],.int .i64 a1,.int .i64 a2] [] [R47 a0.1 A1 c_1,R69 a0.2.1 A2 c_2,R5 a0.2.2.1 A3 c_3,R5 a0.2.2.2 A4 c_4] (fun v l=>v=.int .i64 r/\l=[]):=by
 refine Zi Tryz.func43 fun w0 F0 h0=>?_
 unfold Q137.f at H
 refine T9 (T7 ?_)
 refine rB (Z8 h0) fun b1 w1 h1=>?_
 refine Ze [1,2,3] rfl ?_
 refine T9 (T9 (T7 ?_))
 refine Zd 1 ?_
 refine Zc (Za 0 h1.wht) ?_
 refine Ze [1,2,3,10] rfl ?_
 refine jIf H (fun c1 H=>?_) fun c1 H=>?_
 ·refine T9 (Zb [6] ?_)
  cases H
  exact T8 (jR0 h1 [])
 refine Sa (T9 (jH h1 fun h2=>?_))
 refine Zl [0,2,3,10] ?_
 refine Zf 1 rfl (Za 0 wI) ?_
 refine Zf 4 rfl (Za 0 wI) ?_
 refine Zl [5] ?_
 obtain ⟨p1,H⟩:=Zk H
 refine Zf 6 rfl (Zbi p1) ?_
 obtain ⟨⟨p2,p3⟩,H⟩:=Zk H
 have e1:=Z1 h2.wh (Zj 4) p2 p3
 refine Zf 7 rfl (Zg e1 p2 p3) ?_
 refine Zf 8 rfl (Zh 0 wI (Zj 4) p2 p3) ?_
 refine Zl [9] ?_
 obtain ⟨p4,H⟩:=Zk H
 refine Zf 11 rfl (Zbi p4) ?_
 refine Zl [12,13] ?_
 refine Z0 [6] ?_
 cases H
 exact T8 (jR0 h2 [])

def Q144.l0:Nat->TS->TS->(Int)->Option (List UInt8×Bool)
 | 0,_,_,_=>none
 | k+1,a0,a1,x1=>if (decide (x1<=(a1.length:Int)))=true then (if (0:Int)<=x1/\x1<=(a1.length:Int) then ((Q143.f k a0 (a1.take x1.toNat)).bind fun r2=>(if (decide (r2<0))=true then (some ((a1.take x1.toNat),true)) else (Q144.l0 k a0 a1 (w64 (x1+1))))) else none) else (some ([],false))
def Q144.f (k:Nat) (a0:TS) (a1:TS):Option (List UInt8×Bool):=(Q143.f k a0 a1).bind fun r1=>(if (decide (0<=r1))=true then (some ([],false)) else (Q144.l0 k a0 a1 0))
theorem Q144.spec {k a0 a1 r} (H:Q144.f k a0 a1=some r) :
  Spec prog 44 [.string ⟨⟨a0⟩⟩,.string ⟨⟨a1⟩⟩] [] [] (fun v l=>v=.tuple #[.string ⟨⟨r.1⟩⟩,.bool r.2]/\l=[]):=by
 refine Zi Tryz.func44 fun w0 F0 h0=>?_
 unfold Q144.f at H
 refine T9 (Zb [0,1] ?_)
 refine T9 (T9 (T7 ?_))
 refine Zd 2 ?_
 refine cS H [] h0 rfl Q143.spec Zo fun r1 w1 H h1=>?_
 refine Ze [0,1,10] rfl ?_
 refine jIf H (fun c1 H=>?_) fun c1 H=>?_
 ·refine T9 (Zb [4,5] ?_)
  cases H
  exact T8 (jR0 h1 [])
 refine Sa (T9 (T9 (Zb [0,1,6] ?_)))
 refine T1 ?_
 have h5:=(sOR h1 [] [])
 refine T5 (fun kk env w=>∃ x1,Q144.l0 kk a0 a1 x1=some r/\env=[(0,.string ⟨⟨a0⟩⟩),(1,.string ⟨⟨a1⟩⟩),(6,.int .i64 x1)]/\St w0 F0 [] [] w) (k:=k) ⟨_,H,rfl,h5⟩ ?_
 rintro k1 env w2 ⟨x1,H,rfl,h2⟩
 rcases k1 with _ | k1
 ·exact z0 H
 rw [Q144.l0] at H
 refine T9 (T9 (Zb [0,1,6,14] ?_))
 refine jIf H (fun c2 H=>?_) fun c2 H=>?_
 ·refine Sa (T9 (T1 (T9 (T7 ?_))))
  refine Zd 3 ?_
  obtain ⟨⟨p1,p2⟩,H⟩:=Zk H
  refine Zc (Za9 0 x1 p1 p2 (Zhe _ _)) ?_
  refine cS H [] h2 rfl Q143.spec Zo fun r2 w3 H h3=>?_
  refine Ze [0,1,6,22] rfl ?_
  refine jIf H (fun c3 H=>?_) fun c3 H=>?_
  ·refine T9 (T7 ?_)
   refine Zd 2 ?_
   refine Zc (Za9 0 x1 p1 p2 (Zhe _ _)) ?_
   refine Ze [4,5] rfl ?_
   cases H
   exact T8 (jR0 h3 [])
  refine Sa (Zb [0,1,6] ?_)
  have h4:=(sOR h3 [] [])
  exact ⟨k1,by omega,_,H,rfl,h4⟩
 refine T4 (T9 (Zb [4,5] ?_))
 cases H
 exact T8 (jR0 h2 [])

mutual
def Q139.l0:Nat->Tr->Tq->Tv->(Int)->Option Ts
 | 0,_,_,_,_=>none
 | k+1,a0,a1,x1,x2=>if (decide (x2<(a1.2.1.length:Int)))=true then (Q139.l1 k a0 a1 x1 x2 (decide (x2<100))) else (Q139.l1 k a0 a1 x1 x2 false)
def Q139.l1:Nat->Tr->Tq->Tv->(Int)->(Bool)->Option Ts
 | 0,_,_,_,_,_=>none
 | k+1,a0,a1,x1,x2,x3=>if x3=true then (if 0<=x2/\x2<(a1.2.1.length:Int) then ((Q154.f a0 ((gt a1.2.1 x2).1)).bind fun r1=>(if r1=true then (if (decide ((((gt a1.2.1 x2).2.2).length:Int)<=a0.2.2.2.2.2.2.2))=true then (if (!((gt a1.2.1 x2).2.1))=true then (Q139.l2 k a0 a1 x1 x2 true) else (Q139.l2 k a0 a1 x1 x2 (decide (((gt a1.2.1 x2).2.2)=[])))) else (Q139.l2 k a0 a1 x1 x2 false)) else (Q139.l2 k a0 a1 x1 x2 false))) else none) else (some x1)
def Q139.l2:Nat->Tr->Tq->Tv->(Int)->(Bool)->Option Ts
 | 0,_,_,_,_,_=>none
 | k+1,a0,a1,x1,x2,x4=>if x4=true then (if (x1.length+([(gt a1.2.1 x2)]:List TD).length)*40<=140737488355328 then (Q139.l0 k a0 a1 (x1 ++ [(gt a1.2.1 x2)]) (w64 (x2+1))) else none) else (Q139.l0 k a0 a1 x1 (w64 (x2+1)))
end
def Q139.f (k:Nat) (a0:Tr) (a1:Tq):Option Ts:=Q139.l0 k a0 a1 [] 0
theorem Q139.spec {k a0 a1 A1 c_1 A2 c_2 A3 c_3 A4 c_4 r} (H:Q139.f k a0 a1=some r) :
  Spec prog 46 [.agg #[.int .i64 a0.1,.int .i64 a0.2.1,.int .i64 a0.2.2.1,.int .i64 a0.2.2.2.1,.int .i64 a0.2.2.2.2.1,.int .i64 a0.2.2.2.2.2.1,.int .i64 a0.2.2.2.2.2.2.1,.int .i64 a0.2.2.2.2.2.2.2],.agg #[.slice A1 a1.1.length c_1,.slice A2 a1.2.1.length c_2,.slice A3 a1.2.2.1.length c_3,.slice A4 a1.2.2.2.length c_4]] [] [R47 a1.1 A1 c_1,R69 a1.2.1 A2 c_2,R5 a1.2.2.1 A3 c_3,R5 a1.2.2.2 A4 c_4] (fun v l=>∃ A_0 c_0,v=.slice A_0 r.length c_0/\l=[O69 r A_0 c_0]):=by
 refine Zi Tryz.func46 fun w0 F0 h0=>?_
 unfold Q139.f at H
 refine T9 (T7 ?_)
 refine rB (Z8 h0) fun b1 w1 h1=>?_
 refine rB (Z8 h1) fun b2 w2 h2=>?_
 refine Ze [2,3] rfl ?_
 refine T9 (T7 ?_)
 refine rB (Zz (.pair .str (.pair .bool .str)) [] h2) fun b3 w3 h3=>?_
 refine Ze [2,3,5] rfl ?_
 refine T9 (T9 (Zb [2,3,5,6] ?_))
 refine T1 ?_
 have h22:=(sOR h3 [2,1,0] [0,1,2,3])
 refine T5 (fun kk env w=>∃ x1 A5 c_5 x2,Q139.l0 kk a0 a1 x1 x2=some r/\env=[(2,.pointer (some ⟨b1,0,none⟩)),(3,.pointer (some ⟨b2,0,none⟩)),(5,.slice A5 x1.length c_5),(6,.int .i64 x2)]/\St w0 F0 [X23 b1 a0.1 a0.2.1 a0.2.2.1 a0.2.2.2.1 a0.2.2.2.2.1 a0.2.2.2.2.2.1 a0.2.2.2.2.2.2.1 a0.2.2.2.2.2.2.2,X28 b2 a1.1 A1 c_1 a1.2.1 A2 c_2 a1.2.2.1 A3 c_3 a1.2.2.2 A4 c_4,O69 x1 A5 c_5] [R47 a1.1 A1 c_1,R69 a1.2.1 A2 c_2,R5 a1.2.2.1 A3 c_3,R5 a1.2.2.2 A4 c_4] w) (k:=k) ⟨_,_,_,_,H,rfl,h22⟩ ?_
 rintro k1 env w4 ⟨x1,A5,c_5,x2,H,rfl,h4⟩
 rcases k1 with _ | k1
 ·exact z0 H
 rw [Q139.l0] at H
 refine T9 (T9 ?_)
 refine T6 (fun env w=>∃ k2 x3,Q139.l1 k2 a0 a1 x1 x2 x3=some r/\env=[(2,.pointer (some ⟨b1,0,none⟩)),(3,.pointer (some ⟨b2,0,none⟩)),(5,.slice A5 x1.length c_5),(6,.int .i64 x2),(17,.bool x3)]/\St w0 F0 [X23 b1 a0.1 a0.2.1 a0.2.2.1 a0.2.2.2.1 a0.2.2.2.2.1 a0.2.2.2.2.2.1 a0.2.2.2.2.2.2.1 a0.2.2.2.2.2.2.2,X28 b2 a1.1 A1 c_1 a1.2.1 A2 c_2 a1.2.2.1 A3 c_3 a1.2.2.2 A4 c_4,O69 x1 A5 c_5] [R47 a1.1 A1 c_1,R69 a1.2.1 A2 c_2,R5 a1.2.2.1 A3 c_3,R5 a1.2.2.2 A4 c_4] w/\k2<=k1) ?_ ?_
 ·refine T7 (Zd 2 ?_)
  refine Zc (Za 1 h4.wht) ?_
  refine Zd 3 ?_
  refine Z7 14 H (fun c6 H=>?_) fun c6 H=>?_
  ·refine Ze [2,3,5,6,17] rfl ?_
   have h20:=(sOR h4 [0,0,0] [0,1,2,3])
   exact ⟨k1,_,H,rfl,h20,Sb _⟩
  refine Ze [2,3,5,6,17] rfl ?_
  have h21:=(sOR h4 [0,0,0] [0,1,2,3])
  exact ⟨k1,_,H,rfl,h21,Sb _⟩
 rintro env w6 ⟨k2,x3,H,rfl,h5,hk2⟩
 rcases k2 with _ | k2
 ·exact z0 H
 rw [Q139.l1] at H
 refine jIf H (fun c1 H=>?_) fun c1 H=>?_
 ·refine Sa (T9 (T1 (T9 (T7 ?_))))
  refine Zd 1 ?_
  refine Zc (Za 1 h5.wht) ?_
  refine Zd 1 ?_
  obtain ⟨⟨p1,p2⟩,H⟩:=Zk H
  have e1:=Z1 h5.wh (Zj 4) p1 p2
  refine Zc (Zg e1 p1 p2) ?_
  refine Zc (Zh 0 h5.wht (Zj 4) p1 p2) ?_
  refine rB (Yv h5) fun b4 w7 h6=>?_
  refine rS (Zv 0 h6) fun _ w8 h7=>?_
  refine Ze [2,3,5,6,7] rfl ?_
  refine T9 (T6 (fun env w=>∃ k3 x4,Q139.l2 k3 a0 a1 x1 x2 x4=some r/\env=[(2,.pointer (some ⟨b1,0,none⟩)),(3,.pointer (some ⟨b2,0,none⟩)),(5,.slice A5 x1.length c_5),(6,.int .i64 x2),(7,.pointer (some ⟨b4,0,none⟩)),(46,.bool x4)]/\St w0 F0 [X23 b1 a0.1 a0.2.1 a0.2.2.1 a0.2.2.2.1 a0.2.2.2.2.1 a0.2.2.2.2.2.1 a0.2.2.2.2.2.2.1 a0.2.2.2.2.2.2.2,X28 b2 a1.1 A1 c_1 a1.2.1 A2 c_2 a1.2.2.1 A3 c_3 a1.2.2.2 A4 c_4,X69 b4 ((gt a1.2.1 x2).1) ((gt a1.2.1 x2).2.1) ((gt a1.2.1 x2).2.2),O69 x1 A5 c_5] [R47 a1.1 A1 c_1,R69 a1.2.1 A2 c_2,R5 a1.2.2.1 A3 c_3,R5 a1.2.2.2 A4 c_4] w/\k3<=k2) ?_ ?_)
  ·refine T7 (Zc (Za 1 h7.wht) ?_)
   refine Zd 1 ?_
   refine Zc (Za 0 h7.wht) ?_
   refine cS H [] h7 rfl Q154.spec Zo fun r1 w13 H h14=>?_
   refine Zd 1 ?_
   refine Z7 29 H (fun c3 H=>?_) fun c3 H=>?_
   ·refine Zd 1 ?_
    refine Zc (Za 0 h14.wht) ?_
    refine Zd 2 ?_
    refine Zc (Za 1 h14.wht) ?_
    refine Zd 3 ?_
    refine Z7 37 H (fun c4 H=>?_) fun c4 H=>?_
    ·refine Zd 1 ?_
     refine Zc (Za 0 h14.wht) ?_
     refine Zd 2 ?_
     refine Z7 41 H (fun c5 H=>?_) fun c5 H=>?_
     ·refine Ze [2,3,5,6,7,46] rfl ?_
      have h15:=(sOR h14 [1,1,0,0] [0,1,2,3])
      exact ⟨k2,_,H,rfl,h15,Sb _⟩
     refine Zd 1 ?_
     refine Zc (Za 0 h14.wht) ?_
     refine Ze [2,3,5,6,7,46] rfl ?_
     have h16:=(sOR h14 [1,1,0,0] [0,1,2,3])
     exact ⟨k2,_,H,rfl,h16,Sb _⟩
    refine Ze [2,3,5,6,7,46] rfl ?_
    have h17:=(sOR h14 [1,1,0,0] [0,1,2,3])
    exact ⟨k2,_,H,rfl,h17,Sb _⟩
   refine Ze [2,3,5,6,7,46] rfl ?_
   have h18:=(sOR h14 [1,1,0,0] [0,1,2,3])
   exact ⟨k2,_,H,rfl,h18,Sb _⟩
  rintro env w10 ⟨k3,x4,H,rfl,h8,hk3⟩
  rcases k3 with _ | k3
  ·exact z0 H
  rw [Q139.l2] at H
  refine jIf H (fun c2 H=>?_) fun c2 H=>?_
  ·refine T7 (Zd 1 ?_)
   refine Zc (Za 2 h8.wht) ?_
   refine rB (Zz (.pair .str (.pair .bool .str)) [(gt a1.2.1 x2)] h8) fun b5 w11 h9=>?_
   obtain ⟨p3,H⟩:=Zk H
   refine Zr (Zu 4 h9 (gO 0) p3) ?_
   rintro _ w12 ⟨A6,c_6,rfl,h10⟩
   replace h10:=nf h10
   refine Ze [2,3,5,6] rfl ?_
   have h11:=sO h10 [0,1,1]
   replace h11:=nf h11
   refine Zb [2,3,5,6] ?_
   have h12:=(sOR h11 [1,1,0] [0,1,2,3])
   exact ⟨k3,by omega,_,_,_,_,H,rfl,h12⟩
  refine Sa (Zb [2,3,5,6] ?_)
  have h13:=(sOR h8 [0,0,1] [0,1,2,3])
  exact ⟨k3,by omega,_,_,_,_,H,rfl,h13⟩
 refine T4 (T9 (Zb [4] ?_))
 have h19:=sO h5 [2]
 replace h19:=nf h19
 cases H
 exact T8 (jR ⟨_,_,rfl,rfl⟩ h19 [0])

def Q150.l0:Nat->Tv->TD->Tv->(Bool)->(Int)->Option Ts
 | 0,_,_,_,_,_=>none
 | k+1,a0,a1,x1,x2,x3=>if (decide (x3<(a0.length:Int)))=true then (if (!x2)=true then (if 0<=x3/\x3<(a0.length:Int) then ((Q143.f k a1.1 ((gt a0 x3).1)).bind fun r1=>(if (decide (r1<=0))=true then (if (x1.length+([a1]:List TD).length)*40<=140737488355328 then (if (!decide (((gt a0 x3).1)=a1.1))=true then (if ((x1 ++ [a1]).length+([(gt a0 x3)]:List TD).length)*40<=140737488355328 then (Q150.l0 k a0 a1 ((x1 ++ [a1]) ++ [(gt a0 x3)]) true (w64 (x3+1))) else none) else (Q150.l0 k a0 a1 (x1 ++ [a1]) true (w64 (x3+1)))) else none) else (if (!decide (((gt a0 x3).1)=a1.1))=true then (if (x1.length+([(gt a0 x3)]:List TD).length)*40<=140737488355328 then (Q150.l0 k a0 a1 (x1 ++ [(gt a0 x3)]) x2 (w64 (x3+1))) else none) else (Q150.l0 k a0 a1 x1 x2 (w64 (x3+1)))))) else none) else (if 0<=x3/\x3<(a0.length:Int) then (if (!decide (((gt a0 x3).1)=a1.1))=true then (if (x1.length+([(gt a0 x3)]:List TD).length)*40<=140737488355328 then (Q150.l0 k a0 a1 (x1 ++ [(gt a0 x3)]) x2 (w64 (x3+1))) else none) else (Q150.l0 k a0 a1 x1 x2 (w64 (x3+1)))) else none)) else (if (!x2)=true then (if (x1.length+([a1]:List TD).length)*40<=140737488355328 then (some (x1 ++ [a1])) else none) else (some x1))
def Q150.f (k:Nat) (a0:Tv) (a1:TD):Option Ts:=Q150.l0 k a0 a1 [] false 0
theorem Q150.spec {k a0 a1 A1 c_1 r} (H:Q150.f k a0 a1=some r) :
  Spec prog 128 [.slice A1 a0.length c_1,.agg #[.string ⟨⟨a1.1⟩⟩,.bool a1.2.1,.string ⟨⟨a1.2.2⟩⟩]] [] [R69 a0 A1 c_1] (fun v l=>∃ A_0 c_0,v=.slice A_0 r.length c_0/\l=[O69 r A_0 c_0]):=by
 refine Zi Tryz.func128 fun w0 F0 h0=>?_
 unfold Q150.f at H
 refine T9 (T7 ?_)
 refine rB (Z8 h0) fun b1 w1 h1=>?_
 refine Ze [0,3] rfl ?_
 refine T9 (T7 ?_)
 refine rB (Zz (.pair .str (.pair .bool .str)) [] h1) fun b2 w2 h2=>?_
 refine Ze [0,3,5] rfl ?_
 refine T9 (Zb [0,3,5,6] ?_)
 refine T9 (T9 (Zb [0,3,5,6,7] ?_))
 refine T1 ?_
 have h27:=(sOR h2 [1,0] [0])
 refine T5 (fun kk env w=>∃ x1 A2 c_2 x2 x3,Q150.l0 kk a0 a1 x1 x2 x3=some r/\env=[(0,.slice A1 a0.length c_1),(3,.pointer (some ⟨b1,0,none⟩)),(5,.slice A2 x1.length c_2),(6,.bool x2),(7,.int .i64 x3)]/\St w0 F0 [X69 b1 a1.1 a1.2.1 a1.2.2,O69 x1 A2 c_2] [R69 a0 A1 c_1] w) (k:=k) ⟨_,_,_,_,_,H,rfl,h27⟩ ?_
 rintro k1 env w3 ⟨x1,A2,c_2,x2,x3,H,rfl,h3⟩
 rcases k1 with _ | k1
 ·exact z0 H
 rw [Q150.l0] at H
 refine T9 (T9 (Zb [0,3,5,6,7,12] ?_))
 refine jIf H (fun c1 H=>?_) fun c1 H=>?_
 ·refine Sa (T9 (T1 (T9 (T9 ?_))))
  refine jH h3 fun h4=>?_
  refine Zl [0,1,2] ?_
  refine Wn 17 H (fun c2 H=>?_) fun c2 H=>?_
  ·refine Zl [3,5,6] ?_
   refine Zf 4 rfl (Za 0 wI) ?_
   obtain ⟨⟨p1,p2⟩,H⟩:=Zk H
   have e1:=Z1 h4.wh (Zj 2) p1 p2
   refine Zf 7 rfl (Zg e1 p1 p2) ?_
   refine Zl [8] ?_
   refine Zf 9 rfl (Zh 0 wI (Zj 2) p1 p2) ?_
   refine cSJ 10 rfl H [] h4 rfl Q143.spec Zo 0 fun r1 w4 H h5=>?_
   refine Zl [11,12] ?_
   refine Z0 [0,3,5,6,7,27] ?_
   refine jIf H (fun c3 H=>?_) fun c3 H=>?_
   ·refine T9 (T7 ?_)
    refine Zd 1 ?_
    refine Zc (Za 0 h5.wht) ?_
    refine rB (Zz (.pair .str (.pair .bool .str)) [a1] h5) fun b3 w5 h6=>?_
    obtain ⟨p3,H⟩:=Zk H
    refine Zr (Zu 2 h6 (gO 0) p3) ?_
    rintro _ w6 ⟨A3,c_3,rfl,h7⟩
    replace h7:=nf h7
    refine Ze [0,3,5,7] rfl ?_
    refine Zb [0,3,5,6,7] ?_
    refine T9 (jH h7 fun h8=>?_)
    refine Zl [0,1,5] ?_
    refine Zf 2 rfl (Zg e1 p1 p2) ?_
    refine Zl [3] ?_
    refine Zf 4 rfl (Zh 0 wI (Zj 3) p1 p2) ?_
    refine Zf 6 rfl (Za 2 wI) ?_
    refine Zl [7] ?_
    refine Z0 [0,3,5,6,7,39] ?_
    refine jIf H (fun c4 H=>?_) fun c4 H=>?_
    ·refine T7 (Zd 3 ?_)
     refine Zc (Zg e1 p1 p2) ?_
     refine Zc (Zh 0 h8.wht (Zj 3) p1 p2) ?_
     refine rB (Zz (.pair .str (.pair .bool .str)) [(gt a0 x3)] h8) fun b4 w7 h9=>?_
     obtain ⟨p4,H⟩:=Zk H
     refine Zr (Zu 1 h9 (gO 0) p4) ?_
     rintro _ w8 ⟨A4,c_4,rfl,h10⟩
     replace h10:=nf h10
     refine Ze [0,3,5,6,7] rfl ?_
     have h11:=sO h10 [0,2]
     replace h11:=nf h11
     refine Zb [0,3,5,6,7] ?_
     have h12:=(sOR h11 [1,0] [0])
     exact ⟨k1,by omega,_,_,_,_,_,H,rfl,h12⟩
    refine Sa (Zb [0,3,5,6,7] ?_)
    have h13:=(sOR h8 [2,0] [0])
    exact ⟨k1,by omega,_,_,_,_,_,H,rfl,h13⟩
   refine Sa (T9 (jH h5 fun h14=>?_))
   refine Zl [0,1,5] ?_
   refine Zf 2 rfl (Zg e1 p1 p2) ?_
   refine Zl [3] ?_
   refine Zf 4 rfl (Zh 0 wI (Zj 2) p1 p2) ?_
   refine Zf 6 rfl (Za 0 wI) ?_
   refine Zl [7] ?_
   refine Z0 [0,3,5,6,7,39] ?_
   refine jIf H (fun c5 H=>?_) fun c5 H=>?_
   ·refine T7 (Zd 3 ?_)
    refine Zc (Zg e1 p1 p2) ?_
    refine Zc (Zh 0 h14.wht (Zj 2) p1 p2) ?_
    refine rB (Zz (.pair .str (.pair .bool .str)) [(gt a0 x3)] h14) fun b5 w9 h15=>?_
    obtain ⟨p5,H⟩:=Zk H
    refine Zr (Zu 2 h15 (gO 0) p5) ?_
    rintro _ w10 ⟨A5,c_5,rfl,h16⟩
    replace h16:=nf h16
    refine Ze [0,3,5,6,7] rfl ?_
    refine Zb [0,3,5,6,7] ?_
    have h17:=(sOR h16 [2,0] [0])
    exact ⟨k1,by omega,_,_,_,_,_,H,rfl,h17⟩
   refine Sa (Zb [0,3,5,6,7] ?_)
   have h18:=(sOR h14 [0,0] [0])
   exact ⟨k1,by omega,_,_,_,_,_,H,rfl,h18⟩
  refine Zl [3,4,5,6,7,8,9,10,11,12] ?_
  refine Z0 [0,3,5,6,7,27] ?_
  refine Z4 ?_
  refine Sa (T9 (jH h4 fun h19=>?_))
  refine Zl [0,1,5] ?_
  obtain ⟨⟨p6,p7⟩,H⟩:=Zk H
  have e2:=Z1 h19.wh (Zj 2) p6 p7
  refine Zf 2 rfl (Zg e2 p6 p7) ?_
  refine Zl [3] ?_
  refine Zf 4 rfl (Zh 0 wI (Zj 2) p6 p7) ?_
  refine Zf 6 rfl (Za 0 wI) ?_
  refine Zl [7] ?_
  refine Z0 [0,3,5,6,7,39] ?_
  refine jIf H (fun c6 H=>?_) fun c6 H=>?_
  ·refine T7 (Zd 3 ?_)
   refine Zc (Zg e2 p6 p7) ?_
   refine Zc (Zh 0 h19.wht (Zj 2) p6 p7) ?_
   refine rB (Zz (.pair .str (.pair .bool .str)) [(gt a0 x3)] h19) fun b6 w11 h20=>?_
   obtain ⟨p8,H⟩:=Zk H
   refine Zr (Zu 2 h20 (gO 0) p8) ?_
   rintro _ w12 ⟨A6,c_6,rfl,h21⟩
   replace h21:=nf h21
   refine Ze [0,3,5,6,7] rfl ?_
   refine Zb [0,3,5,6,7] ?_
   have h22:=(sOR h21 [2,0] [0])
   exact ⟨k1,by omega,_,_,_,_,_,H,rfl,h22⟩
  refine Sa (Zb [0,3,5,6,7] ?_)
  have h23:=(sOR h19 [0,0] [0])
  exact ⟨k1,by omega,_,_,_,_,_,H,rfl,h23⟩
 refine T4 (T9 (T9 (Zb [3,5,48] ?_)))
 refine jIf H (fun c7 H=>?_) fun c7 H=>?_
 ·refine T7 (Zd 1 ?_)
  refine Zc (Za 0 h3.wht) ?_
  refine rB (Zz (.pair .str (.pair .bool .str)) [a1] h3) fun b7 w13 h24=>?_
  obtain ⟨p9,H⟩:=Zk H
  refine Zr (Zu 2 h24 (gO 0) p9) ?_
  rintro _ w14 ⟨A7,c_7,rfl,h25⟩
  replace h25:=nf h25
  refine Ze [5] rfl ?_
  have h26:=sO h25 [0]
  replace h26:=nf h26
  refine T9 (Zb [4] ?_)
  cases H
  exact T8 (jR ⟨_,_,rfl,rfl⟩ h26 [0])
 refine Sa (T9 (Zb [4] ?_))
 cases H
 exact T8 (jR ⟨_,_,rfl,rfl⟩ h3 [1])

def Q153.l0:Nat->TM->TS->(Int)->(Int)->Option (Int)
 | 0,_,_,_,_=>none
 | k+1,a0,a1,x1,x2=>if (decide (x2<(a0.length:Int)))=true then (if 0<=x2/\x2<(a0.length:Int) then ((Q143.f k (gt a0 x2) a1).bind fun r1=>(if (decide (r1<=0))=true then (Q153.l0 k a0 a1 (w64 (x1+1)) (w64 (x2+1))) else (Q153.l0 k a0 a1 x1 (w64 (x2+1))))) else none) else (some x1)
def Q153.f (k:Nat) (a0:TM) (a1:TS):Option (Int):=Q153.l0 k a0 a1 0 0
theorem Q153.spec {k a0 a1 A1 c_1 r} (H:Q153.f k a0 a1=some r) :
  Spec prog 129 [.slice A1 a0.length c_1,.string ⟨⟨a1⟩⟩] [] [R9 a0 A1 c_1] (fun v l=>v=.int .i64 r/\l=[]):=by
 refine Zi Tryz.func129 fun w0 F0 h0=>?_
 unfold Q153.f at H
 refine T9 (Zb [0,1] ?_)
 refine T9 (Zb [0,1,5] ?_)
 refine T9 (T9 (Zb [0,1,5,6] ?_))
 refine T1 ?_
 have h5:=(sOR h0 [] [0])
 refine T5 (fun kk env w=>∃ x1 x2,Q153.l0 kk a0 a1 x1 x2=some r/\env=[(0,.slice A1 a0.length c_1),(1,.string ⟨⟨a1⟩⟩),(5,.int .i64 x1),(6,.int .i64 x2)]/\St w0 F0 [] [R9 a0 A1 c_1] w) (k:=k) ⟨_,_,H,rfl,h5⟩ ?_
 rintro k1 env w1 ⟨x1,x2,H,rfl,h1⟩
 rcases k1 with _ | k1
 ·exact z0 H
 rw [Q153.l0] at H
 refine T9 (T9 (Zb [0,1,5,6,10] ?_))
 refine jIf H (fun c1 H=>?_) fun c1 H=>?_
 ·refine Sa (T9 (T1 (T9 (T7 ?_))))
  refine Zd 2 ?_
  obtain ⟨⟨p1,p2⟩,H⟩:=Zk H
  have e1:=Z1 h1.wh (Zj 0) p1 p2
  refine Zc (Zg e1 p1 p2) ?_
  refine Zc (Zh 0 h1.wht (Zj 0) p1 p2) ?_
  refine Zd 1 ?_
  refine cS H [] h1 rfl Q143.spec Zo fun r1 w2 H h2=>?_
  refine Ze [0,1,5,6,19] rfl ?_
  refine jIf H (fun c2 H=>?_) fun c2 H=>?_
  ·refine Zb [0,1,5,6] ?_
   refine Zb [0,1,5,6] ?_
   have h3:=(sOR h2 [] [0])
   exact ⟨k1,by omega,_,_,H,rfl,h3⟩
  refine Sa (Zb [0,1,5,6] ?_)
  have h4:=(sOR h2 [] [0])
  exact ⟨k1,by omega,_,_,H,rfl,h4⟩
 refine T4 (T9 (Zb [4] ?_))
 cases H
 exact T8 (jR0 h1 [])

def Q156.l0:Nat->Tm->TD->(Int)->(Int)->(Int)->(Int)->Option Tl
 | 0,_,_,_,_,_,_=>none
 | k+1,a0,a1,a3,x1,x2,x3=>if (decide (0<x3))=true then (if 0<=x3/\x3<(a0.length:Int) then (if 0<=x2/\x2<((gt a0 x3).length:Int) then (if (decide (x1=0))=true then ((Q150.f k ((gt (gt a0 x3) x2).2.2.2.1) a1).bind fun r1=>(if (decide ((r1.length:Int)<=a3))=true then (some (a0.set x3.toNat ((gt a0 x3).set x2.toNat ((gt (gt a0 x3) x2).1,(gt (gt a0 x3) x2).2.1,(gt (gt a0 x3) x2).2.2.1,r1,(gt (gt a0 x3) x2).2.2.2.2)))) else (some a0))) else (if (decide (x3=1))=true then ((Q150.f k ((gt (gt a0 x3) x2).2.2.2.1) a1).bind fun r2=>(if (decide ((r2.length:Int)<=a3))=true then (some (a0.set x3.toNat ((gt a0 x3).set x2.toNat ((gt (gt a0 x3) x2).1,(gt (gt a0 x3) x2).2.1,(gt (gt a0 x3) x2).2.2.1,r2,(gt (gt a0 x3) x2).2.2.2.2)))) else (some a0))) else ((Q153.f k ((gt (gt a0 x3) x2).2.2.1) a1.1).bind fun r3=>(if 0<=r3/\r3<(((gt (gt a0 x3) x2).2.1).length:Int) then (Q156.l0 k a0 a1 a3 (w64 (x1 - 1)) (w64 ((w64 ((gt ((gt (gt a0 x3) x2).2.1) r3))) - 1)) (w64 (x3 - 1))) else none)))) else none) else none) else (some a0)
def Q156.f (k:Nat) (a0:Tm) (a1:TD) (a2:Int) (a3:Int):Option Tl:=Q156.l0 k a0 a1 a3 a2 0 (w64 ((a0.length:Int) - 1))
theorem Q156.spec {k a0 a1 a2 a3 cs1 A1 c_1 r} (H:Q156.f k a0 a1 a2 a3=some r) :
  SpecA prog 88 [.slice A1 a0.length c_1,.agg #[.string ⟨⟨a1.1⟩⟩,.bool a1.2.1,.string ⟨⟨a1.2.2⟩⟩],.int .i64 a2,.int .i64 a3] [N62 a0 A1 c_1 cs1] [V62 a0 cs1] (fun v l lr=>∃ A_0 c_0 cs_0,v=.slice A_0 r.length c_0/\l=[N62 r A_0 c_0 cs_0]/\lr=[V62 r cs_0]):=by
 refine Yr Tryz.func88 fun w0 F0 h0=>?_
 unfold Q156.f at H
 refine T9 (T7 ?_)
 refine rB (Z8 h0) fun b1 w1 h1=>?_
 refine Ze [0,2,3,5] rfl ?_
 refine T9 (Zb [0,2,3,5,9] ?_)
 refine T9 (T9 (Zb [0,2,3,5,9,10] ?_))
 refine T1 ?_
 have h27:=(sOR h1 [0,0] [0])
 refine T5 (fun kk env w=>∃ x1 x2 x3,Q156.l0 kk a0 a1 a3 x1 x2 x3=some r/\env=[(0,.slice A1 a0.length c_1),(2,.int .i64 x1),(3,.int .i64 a3),(5,.pointer (some ⟨b1,0,none⟩)),(9,.int .i64 x2),(10,.int .i64 x3)]/\St w0 F0 [X69 b1 a1.1 a1.2.1 a1.2.2,N62 a0 A1 c_1 cs1] [V62 a0 cs1] w) (k:=k) ⟨_,_,_,H,rfl,h27⟩ ?_
 rintro k1 env w2 ⟨x1,x2,x3,H,rfl,h2⟩
 rcases k1 with _ | k1
 ·exact z0 H
 rw [Q156.l0] at H
 refine T9 (T9 (Zb [0,2,3,5,9,10,17] ?_))
 refine jIf H (fun c1 H=>?_) fun c1 H=>?_
 ·refine Sa (T9 (T1 (T9 ?_)))
  obtain ⟨⟨p1,p2⟩,H⟩:=Zk H
  have e1:=St.nestA 1 h2 p1 p2
  obtain ⟨A2,c_2,h3⟩:=St.openN 1 h2 p1 p2
  refine T7 (Zd 2 ?_)
  refine Zc (Zg e1 p1 p2) ?_
  refine Zc (Zho 0 h3.wht e1) ?_
  refine Zd 1 ?_
  obtain ⟨⟨p3,p4⟩,H⟩:=Zk H
  have e2:=St.nestA2 0 h3 p3 p4
  refine Zc (Zg e2 p3 p4) ?_
  obtain ⟨cs2,e3,h4⟩:=St.essEl (t:=(.pair (.int .i64) (.pair (.slice 32 (.int .u32)) (.pair (.slice 9 .str) (.pair (.slice 69 (.pair .str (.pair .bool .str))) (.slice 47 (.pair .str .str))))))) 0 h3 p1 p2 p3 p4
  obtain ⟨cs3,cs4,rfl,h5⟩:=Wv 0 h4
  obtain ⟨cs5,cs6,rfl,h6⟩:=Wv 1 h5
  obtain ⟨cs7,cs8,rfl,h7⟩:=Wv 1 h6
  obtain ⟨cs9,cs10,rfl,h8⟩:=Wv 1 h7
  obtain rfl:=Zak (.int .i64) 6 h8
  obtain ⟨A3,c_3,rfl⟩:=Xv 4 h8
  obtain ⟨A4,c_4,rfl⟩:=Xv 2 h8
  obtain ⟨A5,c_5,rfl⟩:=Xv 0 h8
  obtain ⟨A6,c_6,rfl⟩:=Xv 1 h8
  refine Zc (Zor (f:=0) 0 h8.wht e2 e3) ?_
  refine rB (Yv h8) fun b2 w3 h9=>?_
  refine rS (Zv 0 h9) fun _ w4 h10=>?_
  refine Ze [0,2,3,5,9,10,11] rfl ?_
  have h11:=St.closeN 1 h10
  refine T9 (T9 (T7 ?_))
  refine Zd 3 ?_
  refine Z7 29 H (fun c2 H=>?_) fun c2 H=>?_
  ·refine Ze [0,2,3,5,9,10,11,32] rfl ?_
   refine Zq ?_
   refine T9 (T7 ?_)
   refine Zd 1 ?_
   refine Zc (Za 1 h11.wht) ?_
   refine Zc (Za 2 h11.wht) ?_
   refine cE H [] h11 rfl Q150.spec (gS [3]) ?_
   rintro r1 w5 _ _ H ⟨A7,c_7,rfl,rfl⟩ h12
   replace h12:=nf h12
   refine Ze [0,3,9,10,12] rfl ?_
   have h13:=sO h12 [0,0]
   replace h13:=nf h13
   refine T9 (T9 (Zb [0,9,10,12,40] ?_))
   refine jIf H (fun c3 H=>?_) fun c3 H=>?_
   ·obtain ⟨A8,c_8,h14⟩:=St.openN 1 h13 p1 p2
    refine T7 (Zd 2 ?_)
    refine Zc (Zg e1 p1 p2) ?_
    refine Zc (Zho 0 h14.wht e1) ?_
    refine Zd 2 ?_
    have e4:=St.nestA2 0 h14 p3 p4
    refine Zc (Zg e4 p3 p4) ?_
    refine Zd 1 ?_
    have h15:=h14.freeze (k:=1) rfl Yi
    refine Zr (Zim (ty:=(.pair (.int .i64) (.pair (.slice 32 (.int .u32)) (.pair (.slice 9 .str) (.pair (.slice 69 (.pair .str (.pair .bool .str))) (.slice 47 (.pair .str .str))))))) (ix:=x3) (jx:=x2) (f:=3) ((gt (gt a0 x3) x2).1,(gt (gt a0 x3) x2).2.1,(gt (gt a0 x3) x2).2.2.1,r1,(gt (gt a0 x3) x2).2.2.2.2) 0 10 h15 p1 p2 p3 p4 e4 e3 ⟨_,_,rfl,(V4 rfl _),⟨_,_,rfl,(.inl (Zj 5)),⟨_,_,rfl,(.inl (Zj 3)),⟨_,_,rfl,(.inl (Zj 0)),(.inl (Zj 2))⟩⟩⟩⟩) ?_
    rintro _ w6 ⟨cs11,h16⟩
    replace h16:=nf h16
    have e5:(a0.set x3.toNat ((gt a0 x3).set x2.toNat ((gt (gt a0 x3) x2).1,(gt (gt a0 x3) x2).2.1,(gt (gt a0 x3) x2).2.2.1,r1,(gt (gt a0 x3) x2).2.2.2.2))).length=a0.length:=length_set.trans (rfl:a0.length=a0.length)
    refine Ze [0] rfl ?_
    refine T3 (env':=[(0,.slice A1 (a0.set x3.toNat ((gt a0 x3).set x2.toNat ((gt (gt a0 x3) x2).1,(gt (gt a0 x3) x2).2.1,(gt (gt a0 x3) x2).2.2.1,r1,(gt (gt a0 x3) x2).2.2.2.2))).length c_1)]) (by simp only [length_set,length_nil] <;> rfl) ?_
    have h17:=St.closeN 0 h16
    refine T9 (Zb [8] ?_)
    cases H
    exact T8 (jRA ⟨_,_,_,rfl,rfl,rfl⟩ (sOR h17 [0] [0]))
   refine Sa (T9 (Zb [8] ?_))
   cases H
   exact T8 (jRA ⟨_,_,_,rfl,rfl,rfl⟩ (sOR h13 [1] [9]))
  refine Ze [0,2,3,5,9,10,11,32] rfl ?_
  refine jIf H (fun c4 H=>?_) fun c4 H=>?_
  ·refine T9 (T7 ?_)
   refine Zd 1 ?_
   refine Zc (Za 1 h11.wht) ?_
   refine Zc (Za 2 h11.wht) ?_
   refine cE H [] h11 rfl Q150.spec (gS [3]) ?_
   rintro r2 w7 _ _ H ⟨A9,c_9,rfl,rfl⟩ h18
   replace h18:=nf h18
   refine Ze [0,3,9,10,12] rfl ?_
   have h19:=sO h18 [0,0]
   replace h19:=nf h19
   refine T9 (T9 (Zb [0,9,10,12,40] ?_))
   refine jIf H (fun c5 H=>?_) fun c5 H=>?_
   ·obtain ⟨A10,c_10,h20⟩:=St.openN 1 h19 p1 p2
    refine T7 (Zd 2 ?_)
    refine Zc (Zg e1 p1 p2) ?_
    refine Zc (Zho 0 h20.wht e1) ?_
    refine Zd 2 ?_
    have e6:=St.nestA2 0 h20 p3 p4
    refine Zc (Zg e6 p3 p4) ?_
    refine Zd 1 ?_
    have h21:=h20.freeze (k:=1) rfl Yi
    refine Zr (Zim (ty:=(.pair (.int .i64) (.pair (.slice 32 (.int .u32)) (.pair (.slice 9 .str) (.pair (.slice 69 (.pair .str (.pair .bool .str))) (.slice 47 (.pair .str .str))))))) (ix:=x3) (jx:=x2) (f:=3) ((gt (gt a0 x3) x2).1,(gt (gt a0 x3) x2).2.1,(gt (gt a0 x3) x2).2.2.1,r2,(gt (gt a0 x3) x2).2.2.2.2) 0 10 h21 p1 p2 p3 p4 e6 e3 ⟨_,_,rfl,(V4 rfl _),⟨_,_,rfl,(.inl (Zj 5)),⟨_,_,rfl,(.inl (Zj 3)),⟨_,_,rfl,(.inl (Zj 0)),(.inl (Zj 2))⟩⟩⟩⟩) ?_
    rintro _ w8 ⟨cs12,h22⟩
    replace h22:=nf h22
    have e7:(a0.set x3.toNat ((gt a0 x3).set x2.toNat ((gt (gt a0 x3) x2).1,(gt (gt a0 x3) x2).2.1,(gt (gt a0 x3) x2).2.2.1,r2,(gt (gt a0 x3) x2).2.2.2.2))).length=a0.length:=length_set.trans (rfl:a0.length=a0.length)
    refine Ze [0] rfl ?_
    refine T3 (env':=[(0,.slice A1 (a0.set x3.toNat ((gt a0 x3).set x2.toNat ((gt (gt a0 x3) x2).1,(gt (gt a0 x3) x2).2.1,(gt (gt a0 x3) x2).2.2.1,r2,(gt (gt a0 x3) x2).2.2.2.2))).length c_1)]) (by simp only [length_set,length_nil] <;> rfl) ?_
    have h23:=St.closeN 0 h22
    refine T9 (Zb [8] ?_)
    cases H
    exact T8 (jRA ⟨_,_,_,rfl,rfl,rfl⟩ (sOR h23 [0] [0]))
   refine Sa (T9 (Zb [8] ?_))
   cases H
   exact T8 (jRA ⟨_,_,_,rfl,rfl,rfl⟩ (sOR h19 [1] [9]))
  refine Sa (T9 (Zb [0,2,3,5,10,11] ?_))
  refine jH h11 fun h24=>?_
  refine Zl [0,2,4] ?_
  refine Zf 1 rfl (Za 1 wI) ?_
  refine Zf 3 rfl (Za 1 wI) ?_
  refine Zf 5 rfl (Za 2 wI) ?_
  refine cSJ 6 rfl H [] h24 rfl Q153.spec (gS [5]) 0 fun r3 w9 H h25=>?_
  obtain ⟨⟨p5,p6⟩,H⟩:=Zk H
  have e8:=Z1 h25.wh (Zj 7) p5 p6
  refine Zf 7 rfl (Zg e8 p5 p6) ?_
  refine Zf 8 rfl (Zh 0 wI (Zj 7) p5 p6) ?_
  refine Zl [9,10,11] ?_
  refine Z0 [0,2,3,5,9,10] ?_
  refine Zb [0,2,3,5,9,10] ?_
  have h26:=(sOR h25 [2,0] [9])
  exact ⟨k1,by omega,_,_,_,H,rfl,h26⟩
 refine T4 (T9 (Zb [8] ?_))
 cases H
 exact T8 (jRA ⟨_,_,_,rfl,rfl,rfl⟩ (sOR h2 [1] [0]))

def Q155.l0:Nat->Tv->TX->(Int)->Tm->(Int)->Option Tl
 | 0,_,_,_,_,_=>none
 | k+1,a1,a2,a3,x1,x2=>if (decide (x2<(a1.length:Int)))=true then (if (decide (x2<(a2.length:Int)))=true then (if 0<=x2/\x2<(a2.length:Int) then (if 0<(x1.length:Int) then (if 0<=x2/\x2<(a1.length:Int) then ((Q156.f k x1 (gt a1 x2) (Int.tmod (w64 ((gt a2 x2))) (x1.length:Int)) a3).bind fun r1=>(Q155.l0 k a1 a2 a3 r1 (w64 (x2+1)))) else none) else none) else none) else (if 0<=x2/\x2<(a1.length:Int) then ((Q156.f k x1 (gt a1 x2) 0 a3).bind fun r2=>(Q155.l0 k a1 a2 a3 r2 (w64 (x2+1)))) else none)) else (some x1)
def Q155.f (k:Nat) (a0:Tm) (a1:Tv) (a2:TX) (a3:Int):Option Tl:=Q155.l0 k a1 a2 a3 a0 0
theorem Q155.spec {k a0 a1 a2 a3 cs1 A2 c_2 A3 c_3 A1 c_1 r} (H:Q155.f k a0 a1 a2 a3=some r) :
  SpecA prog 45 [.slice A1 a0.length c_1,.slice A2 a1.length c_2,.slice A3 a2.length c_3,.int .i64 a3] [N62 a0 A1 c_1 cs1] [V62 a0 cs1,R69 a1 A2 c_2,R5 a2 A3 c_3] (fun v l lr=>∃ A_0 c_0 cs_0,v=.slice A_0 r.length c_0/\l=[N62 r A_0 c_0 cs_0]/\lr=[V62 r cs_0]):=by
 refine Yr Tryz.func45 fun w0 F0 h0=>?_
 unfold Q155.f at H
 refine T9 (Zb [0,1,2,3] ?_)
 refine T9 (T9 (Zb [0,1,2,3,9] ?_))
 refine T1 ?_
 have h6:=(sOR h0 [0] [1,2,0])
 refine T5 (fun kk env w=>∃ x1 A4 c_4 x2 cs2,Q155.l0 kk a1 a2 a3 x1 x2=some r/\env=[(0,.slice A4 x1.length c_4),(1,.slice A2 a1.length c_2),(2,.slice A3 a2.length c_3),(3,.int .i64 a3),(9,.int .i64 x2)]/\St w0 F0 [N62 x1 A4 c_4 cs2] [R69 a1 A2 c_2,R5 a2 A3 c_3,V62 x1 cs2] w) (k:=k) ⟨_,_,_,_,_,H,rfl,h6⟩ ?_
 rintro k1 env w1 ⟨x1,A4,c_4,x2,cs2,H,rfl,h1⟩
 rcases k1 with _ | k1
 ·exact z0 H
 rw [Q155.l0] at H
 refine T9 (T9 (Zb [0,1,2,3,9,14] ?_))
 refine jIf H (fun c1 H=>?_) fun c1 H=>?_
 ·refine Sa (T9 (T1 (T9 (Zb [0,1,2,3,9,10] ?_))))
  refine T9 (T9 (Zb [0,1,2,3,9,10,20] ?_))
  refine jIf H (fun c2 H=>?_) fun c2 H=>?_
  ·refine T7 (Zd 2 ?_)
   obtain ⟨⟨p1,p2⟩,H⟩:=Zk H
   have e1:=Z1 h1.wh (Zj 2) p1 p2
   refine Zc (Zg e1 p1 p2) ?_
   refine Zc (Zh 0 h1.wht (Zj 2) p1 p2) ?_
   refine Zd 3 ?_
   obtain ⟨p3,H⟩:=Zk H
   refine Zc (Zbi p3) ?_
   refine Ze [0,1,2,3,9,10] rfl ?_
   refine T7 (Zd 3 ?_)
   obtain ⟨⟨p4,p5⟩,H⟩:=Zk H
   have e2:=Z1 h1.wh (Zj 1) p4 p5
   refine Zc (Zg e2 p4 p5) ?_
   refine Zc (Zh 0 h1.wht (Zj 1) p4 p5) ?_
   refine Zd 2 ?_
   obtain ⟨r1,q1,H⟩:=Yj H
   refine Zr (Z5 [0] (Q156.spec q1) h1 rfl (gS [2])) ?_
   rintro _ w2 ⟨_,_,⟨A5,c_5,cs3,rfl,rfl,rfl⟩,h2⟩
   replace h2:=nf h2
   refine Ze [0,1,2,3,9] rfl ?_
   refine Zb [0,1,2,3,9] ?_
   have h3:=(sOR h2 [0] [1,2,0])
   exact ⟨k1,by omega,_,_,_,_,_,H,rfl,h3⟩
  refine Sa (T7 (Zd 3 ?_))
  obtain ⟨⟨p6,p7⟩,H⟩:=Zk H
  have e3:=Z1 h1.wh (Zj 1) p6 p7
  refine Zc (Zg e3 p6 p7) ?_
  refine Zc (Zh 0 h1.wht (Zj 1) p6 p7) ?_
  refine Zd 2 ?_
  obtain ⟨r2,q2,H⟩:=Yj H
  refine Zr (Z5 [0] (Q156.spec q2) h1 rfl (gS [2])) ?_
  rintro _ w3 ⟨_,_,⟨A6,c_6,cs4,rfl,rfl,rfl⟩,h4⟩
  replace h4:=nf h4
  refine Ze [0,1,2,3,9] rfl ?_
  refine Zb [0,1,2,3,9] ?_
  have h5:=(sOR h4 [0] [1,2,0])
  exact ⟨k1,by omega,_,_,_,_,_,H,rfl,h5⟩
 refine T4 (T9 (Zb [8] ?_))
 cases H
 exact T8 (jRA ⟨_,_,_,rfl,rfl,rfl⟩ (sOR h1 [0] [2]))

def Q135.l2:Nat->Tr->Tq->Tn->TM->TM->(Int)->Tm->(Bool)->Option Tl
 | 0,_,_,_,_,_,_,_,_=>none
 | k+1,a0,a1,x7,x8,x9,x10,x11,x12=>if (decide (1<(x7.length:Int)))=true then (some [[(0,[],[],[],[])]]) else ((Q139.f k a0 a1).bind fun r3=>((Q155.f k x11 r3 a1.2.2.1 a0.2.2.2.2.1).bind fun r4=>(some r4)))
mutual
def Q135.l3:Nat->Tr->Tq->Tn->TM->TM->(Int)->Tm->Option Tl
 | 0,_,_,_,_,_,_,_=>none
 | k+1,a0,a1,x13,x14,x15,x16,x17=>if (decide (1<(x13.length:Int)))=true then (Q135.l4 k a0 a1 x13 x14 x15 x16 x17 (decide ((x17.length:Int)<6))) else (Q135.l4 k a0 a1 x13 x14 x15 x16 x17 false)
def Q135.l4:Nat->Tr->Tq->Tn->TM->TM->(Int)->Tm->(Bool)->Option Tl
 | 0,_,_,_,_,_,_,_,_=>none
 | k+1,a0,a1,x13,x14,x15,x16,x17,x18=>if x18=true then (Q135.l6 k a0 a1 x13 x14 x15 x17 x16 [] [] [] 0) else (Q135.l2 k a0 a1 x13 x14 x15 x16 x17 x18)
def Q135.l5:Nat->Tr->Tq->Tm->(Int)->Tn->TM->TM->(Int)->(Bool)->Option Tl
 | 0,_,_,_,_,_,_,_,_,_=>none
 | k+1,a0,a1,x17,x19,x20,x21,x22,x23,x24=>if (x17.length+([x20]:List Tn).length)*24<=140737488355328 then (Q135.l3 k a0 a1 x20 x21 x22 x19 (x17 ++ [x20])) else none
def Q135.l6:Nat->Tr->Tq->Tn->TM->TM->Tm->(Int)->Tn->TM->TM->(Int)->Option Tl
 | 0,_,_,_,_,_,_,_,_,_,_,_=>none
 | k+1,a0,a1,x13,x14,x15,x17,x25,x26,x27,x28,x29=>if (decide (x29<(x13.length:Int)))=true then ((Q137.f a1 x25 a0.2.2.2.1).bind fun r5=>(Q135.l8 k a0 a1 r5 x13 x14 x15 x17 x25 x26 x27 x28 x29 [] [] 0)) else (Q135.l5 k a0 a1 x17 x25 x26 x27 x28 x29 (decide (x29<(x13.length:Int))))
def Q135.l7:Nat->Tr->Tq->(Int)->Tn->TM->TM->Tm->(Int)->Tn->TM->TM->(Int)->TX->TM->(Int)->(Bool)->Option Tl
 | 0,_,_,_,_,_,_,_,_,_,_,_,_,_,_,_,_=>none
 | k+1,a0,a1,r5,x13,x14,x15,x17,x25,x26,x27,x28,x29,x30,x31,x32,x33=>if (x26.length+([((x17.length:Int),x30,x31,[],[])]:List Tp).length)*104<=140737488355328 then (if 0<=x29/\x29<(x14.length:Int) then (if 0<=(w64 ((w64 (x29+(mnI (mxI r5 2) (w64 ((x13.length:Int) - x29))))) - 1))/\(w64 ((w64 (x29+(mnI (mxI r5 2) (w64 ((x13.length:Int) - x29))))) - 1))<(x15.length:Int) then (if (x27.length+([(gt x14 x29)]:List TS).length)*16<=140737488355328 then (if (x28.length+([(gt x15 (w64 ((w64 (x29+(mnI (mxI r5 2) (w64 ((x13.length:Int) - x29))))) - 1)))]:List TS).length)*16<=140737488355328 then (Q135.l6 k a0 a1 x13 x14 x15 x17 (w64 (x25+1)) (x26 ++ [((x17.length:Int),x30,x31,[],[])]) (x27 ++ [(gt x14 x29)]) (x28 ++ [(gt x15 (w64 ((w64 (x29+(mnI (mxI r5 2) (w64 ((x13.length:Int) - x29))))) - 1)))]) (w64 (x29+(mnI (mxI r5 2) (w64 ((x13.length:Int) - x29)))))) else none) else none) else none) else none) else none
def Q135.l8:Nat->Tr->Tq->(Int)->Tn->TM->TM->Tm->(Int)->Tn->TM->TM->(Int)->TX->TM->(Int)->Option Tl
 | 0,_,_,_,_,_,_,_,_,_,_,_,_,_,_,_=>none
 | k+1,a0,a1,r5,x13,x14,x15,x17,x25,x26,x27,x28,x29,x34,x35,x36=>if (decide (x36<(mnI (mxI r5 2) (w64 ((x13.length:Int) - x29)))))=true then (if (x34.length+([(uD.wrap ((w64 ((w64 (x29+x36))+1))))]:List Int).length)*4<=140737488355328 then (if (decide (0<x36))=true then (if 0<=(w64 ((w64 (x29+x36)) - 1))/\(w64 ((w64 (x29+x36)) - 1))<(x15.length:Int) then (if 0<=(w64 (x29+x36))/\(w64 (x29+x36))<(x14.length:Int) then ((Q144.f k (gt x15 (w64 ((w64 (x29+x36)) - 1))) (gt x14 (w64 (x29+x36)))).bind fun r6=>(if (x35.length+([r6.1]:List TS).length)*16<=140737488355328 then (Q135.l8 k a0 a1 r5 x13 x14 x15 x17 x25 x26 x27 x28 x29 (x34 ++ [(uD.wrap ((w64 ((w64 (x29+x36))+1))))]) (x35 ++ [r6.1]) (w64 (x36+1))) else none)) else none) else none) else (Q135.l8 k a0 a1 r5 x13 x14 x15 x17 x25 x26 x27 x28 x29 (x34 ++ [(uD.wrap ((w64 ((w64 (x29+x36))+1))))]) x35 (w64 (x36+1)))) else none) else (Q135.l7 k a0 a1 r5 x13 x14 x15 x17 x25 x26 x27 x28 x29 x34 x35 x36 (decide (x36<(mnI (mxI r5 2) (w64 ((x13.length:Int) - x29))))))
end
mutual
def Q135.l0:Nat->Tr->Tq->TA->Tn->TM->TM->(Int)->Option Tl
 | 0,_,_,_,_,_,_,_=>none
 | k+1,a0,a1,x1,x2,x3,x4,x5=>if (decide (0<(x1.length:Int)))=true then (Q135.l1 k a0 a1 x1 x2 x3 x4 x5 true) else (Q135.l1 k a0 a1 x1 x2 x3 x4 x5 (decide ((x2.length:Int)=0)))
def Q135.l1:Nat->Tr->Tq->TA->Tn->TM->TM->(Int)->(Bool)->Option Tl
 | 0,_,_,_,_,_,_,_,_=>none
 | k+1,a0,a1,x1,x2,x3,x4,x5,x6=>if x6=true then ((Q137.f a1 x5 a0.2.2.2.2.2.1).bind fun r2=>(if (0:Int)<=(mnI r2 (x1.length:Int))/\(mnI r2 (x1.length:Int))<=(x1.length:Int) then (if (x2.length+([(0,[],[],[],(x1.take ((mnI r2 (x1.length:Int))).toNat))]:List Tp).length)*104<=140737488355328 then (if (decide (0<(mnI r2 (x1.length:Int))))=true then (if 0<(x1.length:Int) then (if 0<=(w64 ((mnI r2 (x1.length:Int)) - 1))/\(w64 ((mnI r2 (x1.length:Int)) - 1))<(x1.length:Int) then (if (x3.length+([(gt x1 0).1]:List TS).length)*16<=140737488355328 then (if (x4.length+([(gt x1 (w64 ((mnI r2 (x1.length:Int)) - 1))).1]:List TS).length)*16<=140737488355328 then (if 0<=(mnI r2 (x1.length:Int))/\(mnI r2 (x1.length:Int))<=(x1.length:Int) then (Q135.l0 k a0 a1 (x1.drop ((mnI r2 (x1.length:Int))).toNat) (x2 ++ [(0,[],[],[],(x1.take ((mnI r2 (x1.length:Int))).toNat))]) (x3 ++ [(gt x1 0).1]) (x4 ++ [(gt x1 (w64 ((mnI r2 (x1.length:Int)) - 1))).1]) (w64 (x5+1))) else none) else none) else none) else none) else none) else (if (x3.length+([[]]:List TS).length)*16<=140737488355328 then (if (x4.length+([[]]:List TS).length)*16<=140737488355328 then (if 0<=(mnI r2 (x1.length:Int))/\(mnI r2 (x1.length:Int))<=(x1.length:Int) then (Q135.l0 k a0 a1 (x1.drop ((mnI r2 (x1.length:Int))).toNat) (x2 ++ [(0,[],[],[],(x1.take ((mnI r2 (x1.length:Int))).toNat))]) (x3 ++ [[]]) (x4 ++ [[]]) (w64 (x5+1))) else none) else none) else none)) else none) else none)) else (Q135.l3 k a0 a1 x2 x3 x4 x5 [x2])
end
def Q135.f (k:Nat) (a0:Tr) (a1:Tq):Option Tl:=(Q138.f k a0 a1).bind fun r1=>(Q135.l0 k a0 a1 r1 [] [] [] 0)
theorem Q135.spec {k a0 a1 A1 c_1 A2 c_2 A3 c_3 A4 c_4 r} (H:Q135.f k a0 a1=some r) :
  SpecA prog 23 [.agg #[.int .i64 a0.1,.int .i64 a0.2.1,.int .i64 a0.2.2.1,.int .i64 a0.2.2.2.1,.int .i64 a0.2.2.2.2.1,.int .i64 a0.2.2.2.2.2.1,.int .i64 a0.2.2.2.2.2.2.1,.int .i64 a0.2.2.2.2.2.2.2],.agg #[.slice A1 a1.1.length c_1,.slice A2 a1.2.1.length c_2,.slice A3 a1.2.2.1.length c_3,.slice A4 a1.2.2.2.length c_4]] [] [R47 a1.1 A1 c_1,R69 a1.2.1 A2 c_2,R5 a1.2.2.1 A3 c_3,R5 a1.2.2.2 A4 c_4] (fun v l lr=>∃ A_0 c_0,v=.slice A_0 r.length c_0/\l=[]/\lr=[R62 r A_0 c_0]):=by
 refine Yr Tryz.func23 fun w0 F0 h0=>?_
 unfold Q135.f at H
 refine T9 (T7 ?_)
 refine rB (Z8 h0) fun b1 w1 h1=>?_
 refine rB (Z8 h1) fun b2 w2 h2=>?_
 refine Ze [2,3] rfl ?_
 refine T9 (T7 ?_)
 refine Zc (Za 1 h2.wht) ?_
 refine Zc (Za 0 h2.wht) ?_
 refine cE H [] h2 rfl Q138.spec (gS [2,3,4,5]) ?_
 rintro r1 w3 _ _ H ⟨A5,c_5,rfl,rfl⟩ h3
 replace h3:=nf h3
 refine Ze [2,3,5] rfl ?_
 refine T9 (T7 ?_)
 refine rB (Zhz (.pair (.int .i64) (.pair (.slice 32 (.int .u32)) (.pair (.slice 9 .str) (.pair (.slice 69 (.pair .str (.pair .bool .str))) (.slice 47 (.pair .str .str)))))) h3) fun b3 w4 h4=>?_
 refine Ze [2,3,5,6] rfl ?_
 refine T9 (T7 ?_)
 refine rB (Zz .str [] h4) fun b4 w5 h5=>?_
 refine rB (Zz .str [] h5) fun b5 w6 h6=>?_
 refine Ze [2,3,5,6,7,8] rfl ?_
 refine T9 (Zb [2,3,5,6,7,8,9] ?_)
 refine T9 (T1 ?_)
 have h166:=h6.freeze (k:=3) rfl Yi
 have h167:=(sOR h166 [4,3,2,1,0] [2,3,4,5,0,1])
 refine T5 (fun kk env w=>∃ x1 A6 c_6 x2 A7 c_7 x3 A8 c_8 x4 A9 c_9 x5 cs1,Q135.l0 kk a0 a1 x1 x2 x3 x4 x5=some r/\env=[(2,.pointer (some ⟨b1,0,none⟩)),(3,.pointer (some ⟨b2,0,none⟩)),(5,.slice A6 x1.length c_6),(6,.slice A7 x2.length c_7),(7,.slice A8 x3.length c_8),(8,.slice A9 x4.length c_9),(9,.int .i64 x5)]/\St w0 F0 [X23 b1 a0.1 a0.2.1 a0.2.2.1 a0.2.2.2.1 a0.2.2.2.2.1 a0.2.2.2.2.2.1 a0.2.2.2.2.2.2.1 a0.2.2.2.2.2.2.2,X28 b2 a1.1 A1 c_1 a1.2.1 A2 c_2 a1.2.2.1 A3 c_3 a1.2.2.2 A4 c_4,M55 x2 A7 c_7 cs1,O9 x3 A8 c_8,O9 x4 A9 c_9] [R47 a1.1 A1 c_1,R69 a1.2.1 A2 c_2,R5 a1.2.2.1 A3 c_3,R5 a1.2.2.2 A4 c_4,R47 x1 A6 c_6,E55 x2 cs1] w) (k:=k) ⟨_,_,_,_,_,_,_,_,_,_,_,_,_,_,H,rfl,h167⟩ ?_
 rintro k1 env w7 ⟨x1,A6,c_6,x2,A7,c_7,x3,A8,c_8,x4,A9,c_9,x5,cs1,H,rfl,h7⟩
 rcases k1 with _ | k1
 ·exact z0 H
 rw [Q135.l0] at H
 refine T9 (T9 ?_)
 refine T6 (fun env w=>∃ k2 x6,Q135.l1 k2 a0 a1 x1 x2 x3 x4 x5 x6=some r/\env=[(2,.pointer (some ⟨b1,0,none⟩)),(3,.pointer (some ⟨b2,0,none⟩)),(5,.slice A6 x1.length c_6),(6,.slice A7 x2.length c_7),(7,.slice A8 x3.length c_8),(8,.slice A9 x4.length c_9),(9,.int .i64 x5),(34,.bool x6)]/\St w0 F0 [X23 b1 a0.1 a0.2.1 a0.2.2.1 a0.2.2.2.1 a0.2.2.2.2.1 a0.2.2.2.2.2.1 a0.2.2.2.2.2.2.1 a0.2.2.2.2.2.2.2,X28 b2 a1.1 A1 c_1 a1.2.1 A2 c_2 a1.2.2.1 A3 c_3 a1.2.2.2 A4 c_4,M55 x2 A7 c_7 cs1,O9 x3 A8 c_8,O9 x4 A9 c_9] [R47 a1.1 A1 c_1,R69 a1.2.1 A2 c_2,R5 a1.2.2.1 A3 c_3,R5 a1.2.2.2 A4 c_4,R47 x1 A6 c_6,E55 x2 cs1] w/\k2<=k1) ?_ ?_
 ·refine T7 (Zd 4 ?_)
  refine Z7 30 H (fun c9 H=>?_) fun c9 H=>?_
  ·refine Ze [2,3,5,6,7,8,9,34] rfl ?_
   have h164:=(sOR h7 [0,0,0,0,0] [0,1,2,3,4,5])
   exact ⟨k1,_,H,rfl,h164,Sb _⟩
  refine Ze [2,3,5,6,7,8,9,34] rfl ?_
  have h165:=(sOR h7 [0,0,0,0,0] [0,1,2,3,4,5])
  exact ⟨k1,_,H,rfl,h165,Sb _⟩
 rintro env w9 ⟨k2,x6,H,rfl,h8,hk2⟩
 rcases k2 with _ | k2
 ·exact z0 H
 rw [Q135.l1] at H
 refine jIf H (fun c1 H=>?_) fun c1 H=>?_
 ·refine Sa (T1 (T9 (T7 ?_)))
  refine Zd 2 ?_
  refine Zc (Za 1 h8.wht) ?_
  refine Zd 2 ?_
  refine Zc (Za 0 h8.wht) ?_
  refine cS H [] h8 rfl Q137.spec (gS [5,6,7,8]) fun r2 w10 H h9=>?_
  refine Ze [2,3,5,6,7,8,9,10] rfl ?_
  refine T9 (Zb [2,3,5,6,7,8,9,10] ?_)
  refine T9 (T7 ?_)
  refine Zd 3 ?_
  obtain ⟨⟨p1,p2⟩,H⟩:=Zk H
  have e1:=h9.cap (Zj 9)
  refine Zc (X8 (x1.take ((mnI r2 (x1.length:Int))).toNat) (mnI r2 (x1.length:Int)) e1 p1 p2) ?_
  refine Zd 1 ?_
  have h10:=h9.read (k:=4) rfl (Uf (.pair .str .str) (x1.take ((mnI r2 (x1.length:Int))).toNat) (mnI r2 (x1.length:Int)) p1 p2)
  refine Zr (Zb3 (.pair (.int .i64) (.pair (.slice 32 (.int .u32)) (.pair (.slice 9 .str) (.pair (.slice 69 (.pair .str (.pair .bool .str))) (.slice 47 (.pair .str .str)))))) [(0,[],[],[],(x1.take ((mnI r2 (x1.length:Int))).toNat))] h10 (Zdq ⟨_,_,rfl,(V4 rfl _),⟨_,_,rfl,(.inr Uc),⟨_,_,rfl,(.inr Uc),⟨_,_,rfl,(.inr Uc),(.inl (Zj 0))⟩⟩⟩⟩ Zgm)) ?_
  rintro _ w11 ⟨b6,rfl,h11⟩
  replace h11:=nf h11
  obtain ⟨p3,H⟩:=Zk H
  refine Zr (Zg2 2 7 0 h11 p3) ?_
  rintro _ w12 ⟨A10,c_10,cs2,rfl,h12⟩
  replace h12:=nf h12
  refine Ze [2,3,5,6,7,8,9,10] rfl ?_
  refine T9 (T9 (Zb [2,3,5,6,7,8,9,10,53] ?_))
  refine jIf H (fun c2 H=>?_) fun c2 H=>?_
  ·obtain ⟨p4,H⟩:=Zk H
   obtain ⟨⟨p5,p6⟩,H⟩:=Zk H
   obtain ⟨p7,H⟩:=Zk H
   obtain ⟨p8,H⟩:=Zk H
   refine T6 (fun env w=>∃(A11:_) (c_11:_) (A12:_) (c_12:_),env=[(2,.pointer (some ⟨b1,0,none⟩)),(3,.pointer (some ⟨b2,0,none⟩)),(5,.slice A6 x1.length c_6),(6,.slice A10 (x2 ++ [(0,[],[],[],(x1.take ((mnI r2 (x1.length:Int))).toNat))]).length c_10),(7,.slice A11 (x3 ++ [(gt x1 0).1]).length c_11),(8,.slice A12 (x4 ++ [(gt x1 (w64 ((mnI r2 (x1.length:Int)) - 1))).1]).length c_12),(9,.int .i64 (w64 (x5+1))),(10,.int .i64 (mnI r2 (x1.length:Int)))]/\St w0 F0 [O9 (x3 ++ [(gt x1 0).1]) A11 c_11,O9 (x4 ++ [(gt x1 (w64 ((mnI r2 (x1.length:Int)) - 1))).1]) A12 c_12,M55 (x2 ++ [(0,[],[],[],(x1.take ((mnI r2 (x1.length:Int))).toNat))]) A10 c_10 cs2,X23 b1 a0.1 a0.2.1 a0.2.2.1 a0.2.2.2.1 a0.2.2.2.2.1 a0.2.2.2.2.2.1 a0.2.2.2.2.2.2.1 a0.2.2.2.2.2.2.2,X28 b2 a1.1 A1 c_1 a1.2.1 A2 c_2 a1.2.2.1 A3 c_3 a1.2.2.2 A4 c_4] [E55 (x2 ++ [(0,[],[],[],(x1.take ((mnI r2 (x1.length:Int))).toNat))]) cs2,R55 [(0,[],[],[],(x1.take ((mnI r2 (x1.length:Int))).toNat))] (some ⟨b6,0,none⟩) 1,R47 (x1.take ((mnI r2 (x1.length:Int))).toNat) A6 c_6,R47 a1.1 A1 c_1,R69 a1.2.1 A2 c_2,R5 a1.2.2.1 A3 c_3,R5 a1.2.2.2 A4 c_4,R47 x1 A6 c_6,E55 x2 cs1] w) ?_ ?_
   ·refine Zx (sO h12 [1,1]) ?_
    have h17:=h12.drew
    refine Zl [0,1,7,8,9,10] ?_
    have e3:=Wu h17.wh (Zj 12) p4
    refine Zf 2 rfl (Xt e3 p4) ?_
    refine Zl [3] ?_
    refine Zf 4 rfl (Y2 0 wI (Zj 9) p4) ?_
    refine Zf 11 rfl (Zg e3 p5 p6) ?_
    refine Zl [12] ?_
    refine Zf 13 rfl (Zh 0 wI (Zj 9) p5 p6) ?_
    refine TZ [5,14] (i:=5) rfl rfl rfl rfl ?_
    refine (Y4 ?_ (Y4 ?_ Vs))
    ·refine Yz 5 rfl (Zz .str [(gt x1 0).1] h17) ?_
     rintro _ w44 ⟨b24,rfl,h45⟩
     replace h45:=nf h45
     refine ⟨⟨[_,_,_,_],(sO h45 [0,0,2,2,0,0])⟩,?_⟩
     refine TZ [6,14] (i:=6) rfl rfl rfl rfl ?_
     refine (Y4 ?_ (Y4 ?_ Vs))
     ·refine Yz 6 rfl (Zu 4 h45 (gO 0) p7) ?_
      rintro _ w45 ⟨A25,c_25,rfl,h46⟩
      replace h46:=nf h46
      refine ⟨⟨[_,_,_,_],(sO h46 [0,0,0,2,0,0])⟩,?_⟩
      refine Yh 14 rfl (Zz .str [(gt x1 (w64 ((mnI r2 (x1.length:Int)) - 1))).1] h46) ?_
      rintro _ w46 ⟨b25,rfl,h47⟩
      replace h47:=nf h47
      refine ⟨⟨[_,_,_,_,_],(sO h47 [0,0,0,0,2,0,0])⟩,?_⟩
      refine Yh 15 rfl (Zu 6 h47 (gO 0) p8) ?_
      rintro _ w47 ⟨A26,c_26,rfl,h48⟩
      replace h48:=nf h48
      refine ⟨⟨[_,_,_,_,_],h48⟩,?_⟩
      refine Zl [16,17] ?_
      refine Z0 [2,3,5,6,7,8,9,10] ?_
      exact Y6 ⟨A25,c_25,A26,c_26,rfl,(sOR h48 [2,0,2,2,2] [0,1,2,3,4,5,6,7,8])⟩
     ·refine Yz 14 rfl (Zz .str [(gt x1 (w64 ((mnI r2 (x1.length:Int)) - 1))).1] h45) ?_
      rintro _ w48 ⟨b26,rfl,h49⟩
      replace h49:=nf h49
      refine ⟨⟨[_,_,_,_,_],(sO h49 [0,0,0,2,2,0,0])⟩,?_⟩
      refine Yh 6 rfl (Zu 5 h49 (gO 1) p7) ?_
      rintro _ w49 ⟨A27,c_27,rfl,h50⟩
      replace h50:=nf h50
      refine ⟨⟨[_,_,_,_,_],(sO h50 [0,0,0,0,2,0,0])⟩,?_⟩
      refine Yh 15 rfl (Zu 6 h50 (gO 1) p8) ?_
      rintro _ w50 ⟨A28,c_28,rfl,h51⟩
      replace h51:=nf h51
      refine ⟨⟨[_,_,_,_,_],h51⟩,?_⟩
      refine Zl [16,17] ?_
      refine Z0 [2,3,5,6,7,8,9,10] ?_
      exact Y6 ⟨A27,c_27,A28,c_28,rfl,(sOR h51 [1,0,2,2,2] [0,1,2,3,4,5,6,7,8])⟩
    ·refine Yz 14 rfl (Zz .str [(gt x1 (w64 ((mnI r2 (x1.length:Int)) - 1))).1] h17) ?_
     rintro _ w51 ⟨b27,rfl,h52⟩
     replace h52:=nf h52
     refine ⟨⟨[_,_,_,_],(sO h52 [0,0,2,2,0,0])⟩,?_⟩
     refine Yh 5 rfl (Zz .str [(gt x1 0).1] h52) ?_
     rintro _ w52 ⟨b28,rfl,h53⟩
     replace h53:=nf h53
     refine ⟨⟨[_,_,_,_,_],(sO h53 [0,0,0,2,2,0,0])⟩,?_⟩
     refine Yh 6 rfl (Zu 5 h53 (gO 0) p7) ?_
     rintro _ w53 ⟨A29,c_29,rfl,h54⟩
     replace h54:=nf h54
     refine ⟨⟨[_,_,_,_,_],(sO h54 [0,0,0,0,2,0,0])⟩,?_⟩
     refine Yh 15 rfl (Zu 6 h54 (gO 2) p8) ?_
     rintro _ w54 ⟨A30,c_30,rfl,h55⟩
     replace h55:=nf h55
     refine ⟨⟨[_,_,_,_,_],h55⟩,?_⟩
     refine Zl [16,17] ?_
     refine Z0 [2,3,5,6,7,8,9,10] ?_
     exact Y6 ⟨A29,c_29,A30,c_30,rfl,(sOR h55 [1,0,2,2,2] [0,1,2,3,4,5,6,7,8])⟩
   rintro env w55 ⟨A11,c_11,A12,c_12,rfl,h56⟩
   refine T7 (Zd 2 ?_)
   obtain ⟨⟨p9,p10⟩,H⟩:=Zk H
   have e4:=h56.cap (Zj 12)
   refine Zc (V8 (x1.drop ((mnI r2 (x1.length:Int))).toNat) (mnI r2 (x1.length:Int)) (x1.length:Int) e4 p9 p10 (Int.le_refl _) (Yw _ _)) ?_
   refine Ze [2,3,5,6,7,8,9] rfl ?_
   have h57:=h56.read (k:=7) rfl (fun w F h=>((U3 (ty:=(.pair .str .str)) (l:=(mnI r2 (x1.length:Int))) (h:=(x1.length:Int)) (sub:=(x1.drop ((mnI r2 (x1.length:Int))).toNat)) rfl p9 p10 (Int.le_refl _) (Yw _ _)) w F h))
   have h58:=(sOR h57 [3,3,2,0,0] [4,5,6,7,0,1])
   exact ⟨k2,by omega,_,_,_,_,_,_,_,_,_,_,_,_,_,_,H,rfl,h58⟩
  refine T7 (Zd 1 ?_)
  refine rB (Zz .str [[]] h12) fun b29 w56 h59=>?_
  obtain ⟨p11,H⟩:=Zk H
  refine Zr (Zu 4 h59 (gO 0) p11) ?_
  rintro _ w57 ⟨A31,c_31,rfl,h60⟩
  replace h60:=nf h60
  refine Zd 1 ?_
  refine rB (Zz .str [[]] h60) fun b30 w58 h61=>?_
  obtain ⟨p12,H⟩:=Zk H
  refine Zr (Zu 6 h61 (gO 0) p12) ?_
  rintro _ w59 ⟨A32,c_32,rfl,h62⟩
  replace h62:=nf h62
  refine Ze [2,3,5,6,7,8,9,10] rfl ?_
  have h63:=sO h62 [0,1,2,2,2]
  replace h63:=nf h63
  refine T7 (Zd 2 ?_)
  obtain ⟨⟨p13,p14⟩,H⟩:=Zk H
  have e5:=h63.cap (Zj 12)
  refine Zc (V8 (x1.drop ((mnI r2 (x1.length:Int))).toNat) (mnI r2 (x1.length:Int)) (x1.length:Int) e5 p13 p14 (Int.le_refl _) (Yw _ _)) ?_
  refine Ze [2,3,5,6,7,8,9] rfl ?_
  have h64:=h63.read (k:=7) rfl (fun w F h=>((U3 (ty:=(.pair .str .str)) (l:=(mnI r2 (x1.length:Int))) (h:=(x1.length:Int)) (sub:=(x1.drop ((mnI r2 (x1.length:Int))).toNat)) rfl p13 p14 (Int.le_refl _) (Yw _ _)) w F h))
  have h65:=(sOR h64 [3,3,2,1,0] [4,5,6,7,0,1])
  exact ⟨k2,by omega,_,_,_,_,_,_,_,_,_,_,_,_,_,_,H,rfl,h65⟩
 refine T4 (T9 (T7 ?_))
 refine Zd 1 ?_
 refine Zr (Zfo (t:=(.pair (.int .i64) (.pair (.slice 32 (.int .u32)) (.pair (.slice 9 .str) (.pair (.slice 69 (.pair .str (.pair .bool .str))) (.slice 47 (.pair .str .str))))))) (xs:=x2) 2 5 h8) ?_
 rintro _ w60 ⟨b31,cs3,rfl,h66⟩
 replace h66:=nf h66
 refine Ze [2,3,6,7,8,9,11] rfl ?_
 refine T9 (T6 (fun env w=>∃ k3 x7 A33 c_33 x8 A34 c_34 x9 A35 c_35 x10 x11 A36 c_36 x12 cs4,Q135.l2 k3 a0 a1 x7 x8 x9 x10 x11 x12=some r/\env=[(2,.pointer (some ⟨b1,0,none⟩)),(3,.pointer (some ⟨b2,0,none⟩)),(6,.slice A33 x7.length c_33),(7,.slice A34 x8.length c_34),(8,.slice A35 x9.length c_35),(9,.int .i64 x10),(11,.slice A36 x11.length c_36),(88,.bool x12)]/\St w0 F0 [X23 b1 a0.1 a0.2.1 a0.2.2.1 a0.2.2.2.1 a0.2.2.2.2.1 a0.2.2.2.2.2.1 a0.2.2.2.2.2.2.1 a0.2.2.2.2.2.2.2,X28 b2 a1.1 A1 c_1 a1.2.1 A2 c_2 a1.2.2.1 A3 c_3 a1.2.2.2 A4 c_4,O9 x8 A34 c_34,O9 x9 A35 c_35,N62 x11 A36 c_36 cs4] [R47 a1.1 A1 c_1,R69 a1.2.1 A2 c_2,R5 a1.2.2.1 A3 c_3,R5 a1.2.2.2 A4 c_4,V62 x11 cs4] w/\k3<=k2) ?_ ?_)
 ·refine T1 ?_
  have h163:=(sOR h66 [1,1,1,1,0] [1,2,3,4,0])
  refine T5 (fun kk env w=>∃ x13 A39 c_39 x14 A40 c_40 x15 A41 c_41 x16 x17 A42 c_42 cs6,Q135.l3 kk a0 a1 x13 x14 x15 x16 x17=some r/\env=[(2,.pointer (some ⟨b1,0,none⟩)),(3,.pointer (some ⟨b2,0,none⟩)),(6,.slice A39 x13.length c_39),(7,.slice A40 x14.length c_40),(8,.slice A41 x15.length c_41),(9,.int .i64 x16),(11,.slice A42 x17.length c_42)]/\St w0 F0 [X23 b1 a0.1 a0.2.1 a0.2.2.1 a0.2.2.2.1 a0.2.2.2.2.1 a0.2.2.2.2.2.1 a0.2.2.2.2.2.2.1 a0.2.2.2.2.2.2.2,X28 b2 a1.1 A1 c_1 a1.2.1 A2 c_2 a1.2.2.1 A3 c_3 a1.2.2.2 A4 c_4,O9 x14 A40 c_40,O9 x15 A41 c_41,N62 x17 A42 c_42 cs6] [R47 a1.1 A1 c_1,R69 a1.2.1 A2 c_2,R5 a1.2.2.1 A3 c_3,R5 a1.2.2.2 A4 c_4,V62 x17 cs6] w/\kk<=k2) (k:=k2) ⟨_,_,_,_,_,_,_,_,_,_,_,_,_,_,H,rfl,h163,Sb _⟩ ?_
  rintro k4 env w68 ⟨x13,A39,c_39,x14,A40,c_40,x15,A41,c_41,x16,x17,A42,c_42,cs6,H,rfl,h78,hk4⟩
  rcases k4 with _ | k4
  ·exact z0 H
  rw [Q135.l3] at H
  refine T9 (T9 ?_)
  refine T6 (fun env w=>∃ k5 x18,Q135.l4 k5 a0 a1 x13 x14 x15 x16 x17 x18=some r/\env=[(2,.pointer (some ⟨b1,0,none⟩)),(3,.pointer (some ⟨b2,0,none⟩)),(6,.slice A39 x13.length c_39),(7,.slice A40 x14.length c_40),(8,.slice A41 x15.length c_41),(9,.int .i64 x16),(11,.slice A42 x17.length c_42),(88,.bool x18)]/\St w0 F0 [X23 b1 a0.1 a0.2.1 a0.2.2.1 a0.2.2.2.1 a0.2.2.2.2.1 a0.2.2.2.2.2.1 a0.2.2.2.2.2.2.1 a0.2.2.2.2.2.2.2,X28 b2 a1.1 A1 c_1 a1.2.1 A2 c_2 a1.2.2.1 A3 c_3 a1.2.2.2 A4 c_4,O9 x14 A40 c_40,O9 x15 A41 c_41,N62 x17 A42 c_42 cs6] [R47 a1.1 A1 c_1,R69 a1.2.1 A2 c_2,R5 a1.2.2.1 A3 c_3,R5 a1.2.2.2 A4 c_4,V62 x17 cs6] w/\k5<=k4) ?_ ?_
  ·refine T7 (Zd 4 ?_)
   refine Z7 84 H (fun c8 H=>?_) fun c8 H=>?_
   ·refine Ze [2,3,6,7,8,9,11,88] rfl ?_
    have h161:=(sOR h78 [0,0,0,0,0] [0,1,2,3,4])
    exact ⟨k4,_,H,rfl,h161,Sb _⟩
   refine Ze [2,3,6,7,8,9,11,88] rfl ?_
   have h162:=(sOR h78 [0,0,0,0,0] [0,1,2,3,4])
   exact ⟨k4,_,H,rfl,h162,Sb _⟩
  rintro env w70 ⟨k5,x18,H,rfl,h79,hk5⟩
  rcases k5 with _ | k5
  ·exact z0 H
  rw [Q135.l4] at H
  refine jIf H (fun c4 H=>?_) fun c4 H=>?_
  ·refine Sa (T1 (T9 (T7 ?_)))
   refine rB (Zhz (.pair (.int .i64) (.pair (.slice 32 (.int .u32)) (.pair (.slice 9 .str) (.pair (.slice 69 (.pair .str (.pair .bool .str))) (.slice 47 (.pair .str .str)))))) h79) fun b34 w71 h80=>?_
   refine Ze [2,3,6,7,8,9,11,12] rfl ?_
   refine T9 (T7 ?_)
   refine rB (Zz .str [] h80) fun b35 w72 h81=>?_
   refine rB (Zz .str [] h81) fun b36 w73 h82=>?_
   refine Ze [2,3,6,7,8,9,11,12,13,14] rfl ?_
   refine T9 (T9 (Zb [2,3,6,7,8,9,11,12,13,14,15] ?_))
   refine T6 (fun env w=>∃ k6 x19 x20 A43 c_43 x21 A44 c_44 x22 A45 c_45 x23 x24 cs7,Q135.l5 k6 a0 a1 x17 x19 x20 x21 x22 x23 x24=some r/\env=[(2,.pointer (some ⟨b1,0,none⟩)),(3,.pointer (some ⟨b2,0,none⟩)),(6,.slice A39 x13.length c_39),(7,.slice A40 x14.length c_40),(8,.slice A41 x15.length c_41),(9,.int .i64 x19),(11,.slice A42 x17.length c_42),(12,.slice A43 x20.length c_43),(13,.slice A44 x21.length c_44),(14,.slice A45 x22.length c_45),(15,.int .i64 x23),(95,.bool x24)]/\St w0 F0 [X23 b1 a0.1 a0.2.1 a0.2.2.1 a0.2.2.2.1 a0.2.2.2.2.1 a0.2.2.2.2.2.1 a0.2.2.2.2.2.2.1 a0.2.2.2.2.2.2.2,X28 b2 a1.1 A1 c_1 a1.2.1 A2 c_2 a1.2.2.1 A3 c_3 a1.2.2.2 A4 c_4,O9 x14 A40 c_40,O9 x15 A41 c_41,N62 x17 A42 c_42 cs6,M55 x20 A43 c_43 cs7,O9 x21 A44 c_44,O9 x22 A45 c_45] [R47 a1.1 A1 c_1,R69 a1.2.1 A2 c_2,R5 a1.2.2.1 A3 c_3,R5 a1.2.2.2 A4 c_4,V62 x17 cs6,E55 x20 cs7] w/\k6<=k5) ?_ ?_
   ·refine T1 ?_
    have h159:=(sOR h82 [3,3,3,3,3,2,1,0] [1,2,3,4,5,0])
    refine T5 (fun kk env w=>∃ x25 x26 A47 c_47 x27 A48 c_48 x28 A49 c_49 x29 cs10,Q135.l6 kk a0 a1 x13 x14 x15 x17 x25 x26 x27 x28 x29=some r/\env=[(2,.pointer (some ⟨b1,0,none⟩)),(3,.pointer (some ⟨b2,0,none⟩)),(6,.slice A39 x13.length c_39),(7,.slice A40 x14.length c_40),(8,.slice A41 x15.length c_41),(9,.int .i64 x25),(11,.slice A42 x17.length c_42),(12,.slice A47 x26.length c_47),(13,.slice A48 x27.length c_48),(14,.slice A49 x28.length c_49),(15,.int .i64 x29)]/\St w0 F0 [X23 b1 a0.1 a0.2.1 a0.2.2.1 a0.2.2.2.1 a0.2.2.2.2.1 a0.2.2.2.2.2.1 a0.2.2.2.2.2.2.1 a0.2.2.2.2.2.2.2,X28 b2 a1.1 A1 c_1 a1.2.1 A2 c_2 a1.2.2.1 A3 c_3 a1.2.2.2 A4 c_4,O9 x14 A40 c_40,O9 x15 A41 c_41,N62 x17 A42 c_42 cs6,M55 x26 A47 c_47 cs10,O9 x27 A48 c_48,O9 x28 A49 c_49] [R47 a1.1 A1 c_1,R69 a1.2.1 A2 c_2,R5 a1.2.2.1 A3 c_3,R5 a1.2.2.2 A4 c_4,V62 x17 cs6,E55 x26 cs10] w/\kk<=k5) (k:=k5) ⟨_,_,_,_,_,_,_,_,_,_,_,_,H,rfl,h159,Sb _⟩ ?_
    rintro k7 env w78 ⟨x25,x26,A47,c_47,x27,A48,c_48,x28,A49,c_49,x29,cs10,H,rfl,h88,hk7⟩
    rcases k7 with _ | k7
    ·exact z0 H
    rw [Q135.l6] at H
    refine T9 (T9 (Zb [2,3,6,7,8,9,11,12,13,14,15,95] ?_))
    refine jIf H (fun c5 H=>?_) fun c5 H=>?_
    ·refine Sa (T1 (T9 (T7 ?_)))
     refine Zd 4 ?_
     refine Zc (Za 1 h88.wht) ?_
     refine Zd 2 ?_
     refine Zc (Za 0 h88.wht) ?_
     refine cS H [] h88 rfl Q137.spec (gS [8,9,10,11]) fun r5 w79 H h89=>?_
     refine Ze [2,3,6,7,8,9,11,12,13,14,15,16] rfl ?_
     refine T9 (Zb [2,3,6,7,8,9,11,12,13,14,15,16] ?_)
     refine T9 (T7 ?_)
     refine Zd 3 ?_
     refine rB (Yv h89) fun b38 w80 h90=>?_
     refine rS (Zv 0 h90) fun _ w81 h91=>?_
     refine Ze [2,3,6,7,8,9,11,12,13,14,15,16,17] rfl ?_
     refine T9 (T9 (Zb [2,3,6,7,8,9,11,12,13,14,15,16,17,18] ?_))
     refine T6 (fun env w=>∃ k8 x30 A50 c_50 x31 A51 c_51 x32 x33,Q135.l7 k8 a0 a1 r5 x13 x14 x15 x17 x25 x26 x27 x28 x29 x30 x31 x32 x33=some r/\env=[(2,.pointer (some ⟨b1,0,none⟩)),(3,.pointer (some ⟨b2,0,none⟩)),(6,.slice A39 x13.length c_39),(7,.slice A40 x14.length c_40),(8,.slice A41 x15.length c_41),(9,.int .i64 (w64 (x25+1))),(11,.slice A42 x17.length c_42),(12,.slice A47 x26.length c_47),(13,.slice A48 x27.length c_48),(14,.slice A49 x28.length c_49),(15,.int .i64 x29),(16,.int .i64 (mnI (mxI r5 2) (w64 ((x13.length:Int) - x29)))),(17,.pointer (some ⟨b38,0,none⟩)),(18,.int .i64 x32),(114,.bool x33)]/\St w0 F0 [X23 b1 a0.1 a0.2.1 a0.2.2.1 a0.2.2.2.1 a0.2.2.2.2.1 a0.2.2.2.2.2.1 a0.2.2.2.2.2.2.1 a0.2.2.2.2.2.2.2,X28 b2 a1.1 A1 c_1 a1.2.1 A2 c_2 a1.2.2.1 A3 c_3 a1.2.2.2 A4 c_4,X55 b38 (x17.length:Int) x30 A50 c_50 x31 A51 c_51 [] none 0 [] none 0,O9 x14 A40 c_40,O9 x15 A41 c_41,N62 x17 A42 c_42 cs6,M55 x26 A47 c_47 cs10,O9 x27 A48 c_48,O9 x28 A49 c_49,O32 x30 A50 c_50,O9 x31 A51 c_51] [R47 a1.1 A1 c_1,R69 a1.2.1 A2 c_2,R5 a1.2.2.1 A3 c_3,R5 a1.2.2.2 A4 c_4,V62 x17 cs6,E55 x26 cs10] w/\k8<=k7) ?_ ?_
     ·refine T1 ?_
      have h155:=h91.addNil 32 (.int .u32)
      have h156:=h155.addNil 9 .str
      have h157:=(sOR h156 [3,3,2,2,2,2,2,2,2,1,0] [0,1,2,3,4,5])
      refine T5 (fun kk env w=>∃ x34 A73 c_73 x35 A74 c_74 x36,Q135.l8 kk a0 a1 r5 x13 x14 x15 x17 x25 x26 x27 x28 x29 x34 x35 x36=some r/\env=[(2,.pointer (some ⟨b1,0,none⟩)),(3,.pointer (some ⟨b2,0,none⟩)),(6,.slice A39 x13.length c_39),(7,.slice A40 x14.length c_40),(8,.slice A41 x15.length c_41),(9,.int .i64 (w64 (x25+1))),(11,.slice A42 x17.length c_42),(12,.slice A47 x26.length c_47),(13,.slice A48 x27.length c_48),(14,.slice A49 x28.length c_49),(15,.int .i64 x29),(16,.int .i64 (mnI (mxI r5 2) (w64 ((x13.length:Int) - x29)))),(17,.pointer (some ⟨b38,0,none⟩)),(18,.int .i64 x36)]/\St w0 F0 [X23 b1 a0.1 a0.2.1 a0.2.2.1 a0.2.2.2.1 a0.2.2.2.2.1 a0.2.2.2.2.2.1 a0.2.2.2.2.2.2.1 a0.2.2.2.2.2.2.2,X28 b2 a1.1 A1 c_1 a1.2.1 A2 c_2 a1.2.2.1 A3 c_3 a1.2.2.2 A4 c_4,X55 b38 (x17.length:Int) x34 A73 c_73 x35 A74 c_74 [] none 0 [] none 0,O9 x14 A40 c_40,O9 x15 A41 c_41,N62 x17 A42 c_42 cs6,M55 x26 A47 c_47 cs10,O9 x27 A48 c_48,O9 x28 A49 c_49,O32 x34 A73 c_73,O9 x35 A74 c_74] [R47 a1.1 A1 c_1,R69 a1.2.1 A2 c_2,R5 a1.2.2.1 A3 c_3,R5 a1.2.2.2 A4 c_4,V62 x17 cs6,E55 x26 cs10] w/\kk<=k7) (k:=k7) ⟨_,_,_,_,_,_,_,H,rfl,h157,Sb _⟩ ?_
      rintro k9 env w129 ⟨x34,A73,c_73,x35,A74,c_74,x36,H,rfl,h142,hk9⟩
      rcases k9 with _ | k9
      ·exact z0 H
      rw [Q135.l8] at H
      refine T9 (T9 (Zb [2,3,6,7,8,9,11,12,13,14,15,16,17,18,114] ?_))
      refine jIf H (fun c6 H=>?_) fun c6 H=>?_
      ·refine Sa (T9 (T1 (T9 (T7 ?_))))
       refine Zd 1 ?_
       refine Zc (Za 2 h142.wht) ?_
       refine Zd 5 ?_
       refine rB (Zz (.int .u32) [(uD.wrap ((w64 ((w64 (x29+x36))+1))))] h142) fun b62 w130 h143=>?_
       obtain ⟨p23,H⟩:=Zk H
       refine Zr (Zu 10 h143 (gO 0) p23) ?_
       rintro _ w131 ⟨A75,c_75,rfl,h144⟩
       replace h144:=nf h144
       refine Zd 1 ?_
       refine rS (Zv 4 h144) fun _ w132 h145=>?_
       refine Ze [2,3,6,7,8,9,11,12,13,14,15,16,17,18] rfl ?_
       refine T9 (Zb [2,3,6,7,8,9,11,12,13,14,15,16,17,18,128] ?_)
       refine jIf H (fun c7 H=>?_) fun c7 H=>?_
       ·refine T9 (jH h145 fun h146=>?_)
        refine Zl [0,1,2,3,4,7,8,9,10] ?_
        obtain ⟨⟨p24,p25⟩,H⟩:=Zk H
        have e10:=Z1 h146.wh (gO 6) p24 p25
        refine Zf 5 rfl (Zg e10 p24 p25) ?_
        refine Zf 6 rfl (Zh 0 wI (gO 6) p24 p25) ?_
        obtain ⟨⟨p26,p27⟩,H⟩:=Zk H
        have e11:=Z1 h146.wh (gO 5) p26 p27
        refine Zf 11 rfl (Zg e11 p26 p27) ?_
        refine Zf 12 rfl (Zh 0 wI (gO 5) p26 p27) ?_
        refine cSJ 13 rfl H [] h146 rfl Q144.spec Zo 0 fun r6 w133 H h147=>?_
        refine Zl [14,15,16,17,18] ?_
        refine Z0 [2,3,6,7,8,9,11,12,13,14,15,16,17,18,19] ?_
        refine T7 (Zd 1 ?_)
        refine Zc (Za 0 h147.wht) ?_
        refine Zd 1 ?_
        refine rB (Zz .str [r6.1] h147) fun b63 w134 h148=>?_
        obtain ⟨p28,H⟩:=Zk H
        refine Zr (Zu 12 h148 (gO 0) p28) ?_
        rintro _ w135 ⟨A76,c_76,rfl,h149⟩
        replace h149:=nf h149
        refine Zd 1 ?_
        refine rS (Zv 2 h149) fun _ w136 h150=>?_
        refine Ze [2,3,6,7,8,9,11,12,13,14,15,16,17,18] rfl ?_
        have h151:=sO h150 [0,0,1,2,2,2,2,2,2,2,2]
        replace h151:=nf h151
        refine Zb [2,3,6,7,8,9,11,12,13,14,15,16,17,18] ?_
        have h152:=(sOR h151 [3,3,0,2,2,2,2,2,2,1,0] [0,1,2,3,4,5])
        exact ⟨k9,by omega,_,_,_,_,_,_,_,H,rfl,h152,by omega⟩
       refine Sa (Zb [2,3,6,7,8,9,11,12,13,14,15,16,17,18] ?_)
       have h153:=(sOR h145 [3,3,0,2,2,2,2,2,2,0,1] [0,1,2,3,4,5])
       exact ⟨k9,by omega,_,_,_,_,_,_,_,H,rfl,h153,by omega⟩
      refine T4 ?_
      have h154:=(sOR h142 [0,0,0,0,0,0,0,0,0,0,0] [0,1,2,3,4,5])
      exact ⟨k9,_,_,_,_,_,_,_,_,H,rfl,h154,by omega⟩
     rintro env w83 ⟨k8,x30,A50,c_50,x31,A51,c_51,x32,x33,H,rfl,h92,hk8⟩
     rcases k8 with _ | k8
     ·exact z0 H
     rw [Q135.l7] at H
     refine T9 (T7 ?_)
     refine Zd 1 ?_
     refine Zc (Za 2 h92.wht) ?_
     have h93:=h92.freeze (k:=9) rfl Yi
     have h94:=h93.freeze (k:=9) rfl Yi
     refine Zr (Zb3 (.pair (.int .i64) (.pair (.slice 32 (.int .u32)) (.pair (.slice 9 .str) (.pair (.slice 69 (.pair .str (.pair .bool .str))) (.slice 47 (.pair .str .str)))))) [((x17.length:Int),x30,x31,[],[])] h94 (Zdq ⟨_,_,rfl,(V4 rfl _),⟨_,_,rfl,(.inl (Zj 1)),⟨_,_,rfl,(.inl (Zj 0)),⟨_,_,rfl,(.inr Uc),(.inr Uc)⟩⟩⟩⟩ Zgm)) ?_
     rintro _ w84 ⟨b39,rfl,h95⟩
     replace h95:=nf h95
     obtain ⟨p16,H⟩:=Zk H
     refine Zr (Zg2 6 8 0 h95 p16) ?_
     rintro _ w85 ⟨A52,c_52,cs11,rfl,h96⟩
     replace h96:=nf h96
     refine Ze [2,3,6,7,8,9,11,12,13,14,15,16] rfl ?_
     refine T9 ?_
     obtain ⟨⟨p17,p18⟩,H⟩:=Zk H
     obtain ⟨⟨p19,p20⟩,H⟩:=Zk H
     obtain ⟨p21,H⟩:=Zk H
     obtain ⟨p22,H⟩:=Zk H
     refine T6 (fun env w=>∃(A53:_) (c_53:_) (A54:_) (c_54:_),env=[(2,.pointer (some ⟨b1,0,none⟩)),(3,.pointer (some ⟨b2,0,none⟩)),(6,.slice A39 x13.length c_39),(7,.slice A40 x14.length c_40),(8,.slice A41 x15.length c_41),(9,.int .i64 (w64 (x25+1))),(11,.slice A42 x17.length c_42),(12,.slice A52 (x26 ++ [((x17.length:Int),x30,x31,[],[])]).length c_52),(13,.slice A53 (x27 ++ [(gt x14 x29)]).length c_53),(14,.slice A54 (x28 ++ [(gt x15 (w64 ((w64 (x29+(mnI (mxI r5 2) (w64 ((x13.length:Int) - x29))))) - 1)))]).length c_54),(15,.int .i64 x29),(16,.int .i64 (mnI (mxI r5 2) (w64 ((x13.length:Int) - x29))))]/\St w0 F0 [O9 (x27 ++ [(gt x14 x29)]) A53 c_53,O9 (x28 ++ [(gt x15 (w64 ((w64 (x29+(mnI (mxI r5 2) (w64 ((x13.length:Int) - x29))))) - 1)))]) A54 c_54,M55 (x26 ++ [((x17.length:Int),x30,x31,[],[])]) A52 c_52 cs11,X23 b1 a0.1 a0.2.1 a0.2.2.1 a0.2.2.2.1 a0.2.2.2.2.1 a0.2.2.2.2.2.1 a0.2.2.2.2.2.2.1 a0.2.2.2.2.2.2.2,X28 b2 a1.1 A1 c_1 a1.2.1 A2 c_2 a1.2.2.1 A3 c_3 a1.2.2.2 A4 c_4,X55 b38 (x17.length:Int) x30 A50 c_50 x31 A51 c_51 [] none 0 [] none 0,O9 x14 A40 c_40,O9 x15 A41 c_41,N62 x17 A42 c_42 cs6] [E55 (x26 ++ [((x17.length:Int),x30,x31,[],[])]) cs11,R55 [((x17.length:Int),x30,x31,[],[])] (some ⟨b39,0,none⟩) 1,R9 x31 A51 c_51,R32 x30 A50 c_50,R47 a1.1 A1 c_1,R69 a1.2.1 A2 c_2,R5 a1.2.2.1 A3 c_3,R5 a1.2.2.2 A4 c_4,V62 x17 cs6,E55 x26 cs10] w) ?_ ?_
     ·refine Zx (sO h96 [1,1,1]) ?_
      have h101:=h96.drew
      refine Zl [0,1,2,7,8,9,10,11,12] ?_
      have e8:=Z1 h101.wh (gO 4) p17 p18
      refine Zf 3 rfl (Zg e8 p17 p18) ?_
      refine HJ.more ⟨[_,_,_,_,_],(sO h101 [0,4,4,4,4,3,0,0,0])⟩ ?_
      refine Zf 4 rfl (Zh 0 wI (gO 0) p17 p18) ?_
      have e9:=Z1 h101.wh (gO 5) p19 p20
      refine Zf 13 rfl (Zg e9 p19 p20) ?_
      refine HJ.more ⟨[_,_,_,_],(sO h101 [0,5,5,5,4,3,0,0,0])⟩ ?_
      refine Zf 14 rfl (Zh 0 wI (gO 0) p19 p20) ?_
      refine TZ [5,15] (i:=5) rfl rfl rfl rfl ?_
      refine (Y4 ?_ (Y4 ?_ Vs))
      ·refine Yz 5 rfl (Zz .str [(gt x14 x29)] h101) ?_
       rintro _ w117 ⟨b57,rfl,h129⟩
       replace h129:=nf h129
       refine ⟨⟨[_,_,_,_,_],(sO h129 [0,0,5,5,5,4,3,0,0,0])⟩,?_⟩
       refine TZ [6,15] (i:=6) rfl rfl rfl rfl ?_
       refine (Y4 ?_ (Y4 ?_ Vs))
       ·refine Yz 6 rfl (Zu 8 h129 (gO 0) p21) ?_
        rintro _ w118 ⟨A67,c_67,rfl,h130⟩
        replace h130:=nf h130
        refine ⟨⟨[_,_,_,_,_],(sO h130 [0,0,0,5,5,4,3,0,0,0])⟩,?_⟩
        refine Yh 15 rfl (Zz .str [(gt x15 (w64 ((w64 (x29+(mnI (mxI r5 2) (w64 ((x13.length:Int) - x29))))) - 1)))] h130) ?_
        rintro _ w119 ⟨b58,rfl,h131⟩
        replace h131:=nf h131
        refine ⟨⟨[_,_,_,_,_,_],(sO h131 [0,0,0,0,5,5,4,3,0,0,0])⟩,?_⟩
        refine Yh 16 rfl (Zu 10 h131 (gO 0) p22) ?_
        rintro _ w120 ⟨A68,c_68,rfl,h132⟩
        replace h132:=nf h132
        refine ⟨⟨[_,_,_,_,_,_],(sO h132 [0,0,0,0,0,5,4,3,0,0,0])⟩,?_⟩
        refine Zl [17,18] ?_
        refine Z0 [2,3,6,7,8,9,11,12,13,14,15,16] ?_
        exact Y6 ⟨A67,c_67,A68,c_68,rfl,(sOR h132 [2,0,2,2,2,2,2,2,2] [0,1,2,3,4,5,6,7,8,9])⟩
       ·refine Yz 15 rfl (Zz .str [(gt x15 (w64 ((w64 (x29+(mnI (mxI r5 2) (w64 ((x13.length:Int) - x29))))) - 1)))] h129) ?_
        rintro _ w121 ⟨b59,rfl,h133⟩
        replace h133:=nf h133
        refine ⟨⟨[_,_,_,_,_,_],(sO h133 [0,0,0,5,5,5,4,3,0,0,0])⟩,?_⟩
        refine Yh 6 rfl (Zu 9 h133 (gO 1) p21) ?_
        rintro _ w122 ⟨A69,c_69,rfl,h134⟩
        replace h134:=nf h134
        refine ⟨⟨[_,_,_,_,_,_],(sO h134 [0,0,0,0,5,5,4,3,0,0,0])⟩,?_⟩
        refine Yh 16 rfl (Zu 10 h134 (gO 1) p22) ?_
        rintro _ w123 ⟨A70,c_70,rfl,h135⟩
        replace h135:=nf h135
        refine ⟨⟨[_,_,_,_,_,_],(sO h135 [0,0,0,0,0,5,4,3,0,0,0])⟩,?_⟩
        refine Zl [17,18] ?_
        refine Z0 [2,3,6,7,8,9,11,12,13,14,15,16] ?_
        exact Y6 ⟨A69,c_69,A70,c_70,rfl,(sOR h135 [1,0,2,2,2,2,2,2,2] [0,1,2,3,4,5,6,7,8,9])⟩
      ·refine Yz 15 rfl (Zz .str [(gt x15 (w64 ((w64 (x29+(mnI (mxI r5 2) (w64 ((x13.length:Int) - x29))))) - 1)))] h101) ?_
       rintro _ w124 ⟨b60,rfl,h136⟩
       replace h136:=nf h136
       refine ⟨⟨[_,_,_,_,_],(sO h136 [0,0,5,5,5,4,3,0,0,0])⟩,?_⟩
       refine Yh 5 rfl (Zz .str [(gt x14 x29)] h136) ?_
       rintro _ w125 ⟨b61,rfl,h137⟩
       replace h137:=nf h137
       refine ⟨⟨[_,_,_,_,_,_],(sO h137 [0,0,0,5,5,5,4,3,0,0,0])⟩,?_⟩
       refine Yh 6 rfl (Zu 9 h137 (gO 0) p21) ?_
       rintro _ w126 ⟨A71,c_71,rfl,h138⟩
       replace h138:=nf h138
       refine ⟨⟨[_,_,_,_,_,_],(sO h138 [0,0,0,0,5,5,4,3,0,0,0])⟩,?_⟩
       refine Yh 16 rfl (Zu 10 h138 (gO 2) p22) ?_
       rintro _ w127 ⟨A72,c_72,rfl,h139⟩
       replace h139:=nf h139
       refine ⟨⟨[_,_,_,_,_,_],(sO h139 [0,0,0,0,0,5,4,3,0,0,0])⟩,?_⟩
       refine Zl [17,18] ?_
       refine Z0 [2,3,6,7,8,9,11,12,13,14,15,16] ?_
       exact Y6 ⟨A71,c_71,A72,c_72,rfl,(sOR h139 [1,0,2,2,2,2,2,2,2] [0,1,2,3,4,5,6,7,8,9])⟩
     rintro env w128 ⟨A53,c_53,A54,c_54,rfl,h140⟩
     refine Zb [2,3,6,7,8,9,11,12,13,14,15] ?_
     have h141:=(sOR h140 [3,3,4,4,4,2,0,0] [4,5,6,7,8,0])
     exact ⟨k8,by omega,_,_,_,_,_,_,_,_,_,_,_,_,H,rfl,h141,by omega⟩
    refine T4 ?_
    have h158:=(sOR h88 [0,0,0,0,0,0,0,0] [0,1,2,3,4,5])
    exact ⟨k7,_,_,_,_,_,_,_,_,_,_,_,_,_,H,rfl,h158,by omega⟩
   rintro env w75 ⟨k6,x19,x20,A43,c_43,x21,A44,c_44,x22,A45,c_45,x23,x24,cs7,H,rfl,h83,hk6⟩
   rcases k6 with _ | k6
   ·exact z0 H
   rw [Q135.l5] at H
   refine T9 (Zb [2,3,6,7,8,9,11] ?_)
   have h84:=sO h83 [0,0,2,2,2,2]
   replace h84:=nf h84
   refine T7 (Zd 2 ?_)
   refine Zr (Zfo (t:=(.pair (.int .i64) (.pair (.slice 32 (.int .u32)) (.pair (.slice 9 .str) (.pair (.slice 69 (.pair .str (.pair .bool .str))) (.slice 47 (.pair .str .str))))))) (xs:=x20) 3 5 h84) ?_
   rintro _ w76 ⟨b37,cs8,rfl,h85⟩
   replace h85:=nf h85
   obtain ⟨p15,H⟩:=Zk H
   refine Zr (Zl6 3 0 5 0 h85 p15) ?_
   rintro _ w77 ⟨A46,c_46,cs9,rfl,h86⟩
   replace h86:=nf h86
   refine Ze [2,3,6,7,8,9,11] rfl ?_
   have h87:=(sOR h86 [1,1,1,1,0] [2,3,4,5,0])
   exact ⟨k6,by omega,_,_,_,_,_,_,_,_,_,_,_,_,_,_,H,rfl,h87,by omega⟩
  refine T4 ?_
  have h160:=(sOR h79 [0,0,0,0,0] [0,1,2,3,4])
  exact ⟨k5,_,_,_,_,_,_,_,_,_,_,_,_,_,_,_,H,rfl,h160,by omega⟩
 rintro env w62 ⟨k3,x7,A33,c_33,x8,A34,c_34,x9,A35,c_35,x10,x11,A36,c_36,x12,cs4,H,rfl,h67,hk3⟩
 rcases k3 with _ | k3
 ·exact z0 H
 rw [Q135.l2] at H
 refine T9 (T9 (Zb [2,3,11,185] ?_))
 have h68:=sO h67 [0,0,2]
 replace h68:=nf h68
 refine jIf H (fun c3 H=>?_) fun c3 H=>?_
 ·refine T9 (T7 ?_)
  refine Zd 1 ?_
  refine Zr (Zb3 (.pair (.int .i64) (.pair (.slice 32 (.int .u32)) (.pair (.slice 9 .str) (.pair (.slice 69 (.pair .str (.pair .bool .str))) (.slice 47 (.pair .str .str)))))) [(0,[],[],[],[])] h68 (Zdq ⟨_,_,rfl,(V4 rfl _),⟨_,_,rfl,(.inr Uc),⟨_,_,rfl,(.inr Uc),⟨_,_,rfl,(.inr Uc),(.inr Uc)⟩⟩⟩⟩ Zgm)) ?_
  rintro _ w63 ⟨b32,rfl,h69⟩
  replace h69:=nf h69
  refine Zr (Zb3 (.slice 55 (.pair (.int .i64) (.pair (.slice 32 (.int .u32)) (.pair (.slice 9 .str) (.pair (.slice 69 (.pair .str (.pair .bool .str))) (.slice 47 (.pair .str .str))))))) [[(0,[],[],[],[])]] h69 (Zdq (.inl (Zj 0)) Zgm)) ?_
  rintro _ w65 ⟨b33,rfl,h70⟩
  replace h70:=nf h70
  refine Ze [4] rfl ?_
  have h71:=sO h70 []
  replace h71:=nf h71
  cases H
  exact T8 (jRA ⟨_,_,rfl,rfl,rfl⟩ (sOR h71 [] [0]))
 refine Sa (T9 (Zx (sO h68 [0,0]) ?_))
 have h72:=h68.drew
 refine Zl [0,4,6] ?_
 refine Zf 1 rfl (Za 0 wI) ?_
 refine Zf 2 rfl (Za 1 wI) ?_
 refine Zf 5 rfl (Za 1 wI) ?_
 refine Zf 7 rfl (Za 0 wI) ?_
 refine cEJ 3 rfl H [] h72 rfl Q139.spec (gS [3,4,5,6]) ?_
 rintro r3 w66 _ _ H ⟨A37,c_37,rfl,rfl⟩ h73
 replace h73:=nf h73
 refine ⟨⟨[_,_],(sO h73 [0,2,0,0])⟩,?_⟩
 have h74:=h73.freeze (k:=0) rfl Yi
 obtain ⟨r4,q4,H⟩:=Yj H
 refine Yh 8 rfl (Z5 [2] (Q155.spec q4) h74 rfl (gS [5,0,3])) ?_
 rintro _ w67 ⟨_,_,⟨A38,c_38,cs5,rfl,rfl,rfl⟩,h75⟩
 replace h75:=nf h75
 refine ⟨⟨[_],(Uz h75 [2,3,4,5,6])⟩,?_⟩
 refine Zl [9] ?_
 refine Z0 [4] ?_
 have h76:=sO h75 [0]
 replace h76:=nf h76
 have h77:=St.nestFreeze 0 0 h76
 cases H
 exact T8 (jRA ⟨_,_,rfl,rfl,rfl⟩ (sOR h77 [] [0]))

def Q94.f (a0:Th):Option (Int):=some 0
theorem Q94.spec {a0 b1 b2 b3 b4 b5 b6 b7 A1 c_1 A2 c_2 A3 c_3 A4 c_4 A5 c_5 r} (H:Q94.f a0=some r) :
  Spec prog 37 [.pointer (some ⟨b1,0,none⟩)] (Vk a0 b1 b2 b3 b4 b5 b6 b7 A1 A2 A3 A4 A5 c_1 c_2 c_3 c_4 c_5) [] (fun v l=>v=.int .i64 r/\l=Vk a0 b1 b2 b3 b4 b5 b6 b7 A1 A2 A3 A4 A5 c_1 c_2 c_3 c_4 c_5):=by
 refine Zi Tryz.func37 fun w0 F0 h0=>?_
 replace h0:=nf h0
 unfold Q94.f at H
 refine T9 (Zb [0] ?_)
 refine T9 (T9 (T7 ?_))
 refine Zd 6 ?_
 refine Zc (Za 0 h0.wht) ?_
 refine Ze [11] rfl ?_
 refine Z4 ?_
 refine Sa (T9 (Zb [2] ?_))
 cases H
 exact T8 (jR0 h0 [0,0,0,0,0,0,0,0,0,0,0,0])

def Q66.f:Option (TC):=some ([],[],true)
theorem Q66.spec {r} (H:Q66.f=some r) :
  Spec prog 72 [] [] [] (fun v l=>v=.agg #[.string ⟨⟨r.1⟩⟩,.string ⟨⟨r.2.1⟩⟩,.bool r.2.2]/\l=[]):=by
 refine Zi Tryz.func72 fun w0 F0 h0=>?_
 unfold Q66.f at H
 refine T9 (T7 ?_)
 refine rB (Yv h0) fun b1 w1 h1=>?_
 refine Ze [0] rfl ?_
 refine T9 (T7 ?_)
 refine Zd 1 ?_
 refine rS (Zv 0 h1) fun _ w2 h2=>?_
 refine Ze [0] rfl ?_
 cases H
 exact T8 (jR2 (Ye (Si Z6 0 h2 rfl rfl rfl rfl) Xz) ⟨rfl,rfl⟩ h2 [])

def Q17.f (a0:TS) (a1:TS):Option (Int):=some (Xg a0 a1)
theorem Q17.spec {a0 a1 r} (H:Q17.f a0 a1=some r) :
  Spec prog 162 [.string ⟨⟨a0⟩⟩,.string ⟨⟨a1⟩⟩] [] [] (fun v l=>v=.int .i64 r/\l=[]):=by
 refine Zi Tryz.func162 fun w0 F0 h0=>?_
 unfold Q17.f at H
 refine T9 (Zb [0,1] ?_)
 refine T9 (T7 ?_)
 refine Zd 2 ?_
 refine Zc (Zhx Zqw) ?_
 refine Ze [4] rfl ?_
 cases H
 exact T8 (jR0 h0 [])

def Q157.f (a0:TS) (a1:TS):Option (Int):=(Q17.f a0 a1).bind fun r1=>(some r1)
theorem Q157.spec {a0 a1 r} (H:Q157.f a0 a1=some r) :
  Spec prog 135 [.string ⟨⟨a0⟩⟩,.string ⟨⟨a1⟩⟩] [] [] (fun v l=>v=.int .i64 r/\l=[]):=by
 refine Zi Tryz.func135 fun w0 F0 h0=>?_
 unfold Q157.f at H
 refine T9 (Zb [0,1] ?_)
 refine T9 (T7 ?_)
 refine Zd 2 ?_
 refine cS H [] h0 rfl Q17.spec Zo fun r1 w1 H h1=>?_
 refine Ze [4] rfl ?_
 cases H
 exact T8 (jR0 h1 [])

def Q67.f (a0:TS) (a1:TS):Option (Int):=(Q157.f a0 a1).bind fun r1=>(some r1)
theorem Q67.spec {a0 a1 r} (H:Q67.f a0 a1=some r) :
  Spec prog 96 [.string ⟨⟨a0⟩⟩,.string ⟨⟨a1⟩⟩] [] [] (fun v l=>v=.int .i64 r/\l=[]):=by
 refine Zi Tryz.func96 fun w0 F0 h0=>?_
 unfold Q67.f at H
 refine T9 (Zb [0,1] ?_)
 refine T9 (T7 ?_)
 refine Zd 2 ?_
 refine cS H [] h0 rfl Q157.spec Zo fun r1 w1 H h1=>?_
 refine Ze [4] rfl ?_
 cases H
 exact T8 (jR0 h1 [])

def Q64.l0:Nat->TA->(Int)->Option (Bool)
 | 0,_,_=>none
 | k+1,a0,x1=>if (decide (x1<(w64 ((a0.length:Int) - 1))))=true then (if 0<=x1/\x1<(a0.length:Int) then (if 0<=(w64 (x1+1))/\(w64 (x1+1))<(a0.length:Int) then ((Q67.f ((gt a0 x1).1) ((gt a0 (w64 (x1+1))).1)).bind fun r1=>(if (decide (0<=r1))=true then (some false) else (Q64.l0 k a0 (w64 (x1+1))))) else none) else none) else (some true)
def Q64.f (k:Nat) (a0:TA):Option (Bool):=Q64.l0 k a0 0
theorem Q64.spec {k a0 A1 c_1 r} (H:Q64.f k a0=some r) :
  Spec prog 144 [.slice A1 a0.length c_1] [] [R47 a0 A1 c_1] (fun v l=>v=.bool r/\l=[]):=by
 refine Zi Tryz.func144 fun w0 F0 h0=>?_
 unfold Q64.f at H
 refine T9 (Zb [0] ?_)
 refine T9 (T9 (Zb [0,6,7] ?_))
 refine T1 ?_
 have h5:=(sOR h0 [] [0])
 refine T5 (fun kk env w=>∃ x1,Q64.l0 kk a0 x1=some r/\env=[(0,.slice A1 a0.length c_1),(6,.int .i64 (w64 ((a0.length:Int) - 1))),(7,.int .i64 x1)]/\St w0 F0 [] [R47 a0 A1 c_1] w) (k:=k) ⟨_,H,rfl,h5⟩ ?_
 rintro k1 env w1 ⟨x1,H,rfl,h1⟩
 rcases k1 with _ | k1
 ·exact z0 H
 rw [Q64.l0] at H
 refine T9 (Zb [0,6,7,8] ?_)
 refine T9 (jIf H (fun c1 H=>?_) fun c1 H=>?_)
 ·refine Sa (T9 (T1 (T9 (Zb [0,3,6,7] ?_))))
  refine T9 (jH h1 fun h2=>?_)
  refine Zl [0,1,5,6,7] ?_
  obtain ⟨⟨p1,p2⟩,H⟩:=Zk H
  have e1:=Z1 h2.wh (Zj 0) p1 p2
  refine Zf 2 rfl (Zg e1 p1 p2) ?_
  refine Zl [3] ?_
  refine Zf 4 rfl (Zh 0 wI (Zj 0) p1 p2) ?_
  obtain ⟨⟨p3,p4⟩,H⟩:=Zk H
  refine Zf 8 rfl (Zg e1 p3 p4) ?_
  refine Zl [9] ?_
  refine Zf 10 rfl (Zh 0 wI (Zj 0) p3 p4) ?_
  refine cSJ 11 rfl H [] h2 rfl Q67.spec Zo 0 fun r1 w2 H h3=>?_
  refine Zl [12] ?_
  refine Z0 [0,6,7,22] ?_
  refine jIf H (fun c2 H=>?_) fun c2 H=>?_
  ·refine T9 (Zb [2] ?_)
   cases H
   exact T8 (jR0 h3 [])
  refine Sa (Zb [0,6,7] ?_)
  have h4:=(sOR h3 [] [0])
  exact ⟨k1,by omega,_,H,rfl,h4⟩
 refine T4 (T9 (Zb [2] ?_))
 cases H
 exact T8 (jR0 h1 [])

def Q71.f (a0:Tr) (a1:TS):Option (Bool):=if (decide (1<=(a1.length:Int)))=true then (some (decide ((a1.length:Int)<=a0.2.2.2.2.2.2.1))) else (some false)
theorem Q71.spec {a0 a1 r} (H:Q71.f a0 a1=some r) :
  Spec prog 147 [.agg #[.int .i64 a0.1,.int .i64 a0.2.1,.int .i64 a0.2.2.1,.int .i64 a0.2.2.2.1,.int .i64 a0.2.2.2.2.1,.int .i64 a0.2.2.2.2.2.1,.int .i64 a0.2.2.2.2.2.2.1,.int .i64 a0.2.2.2.2.2.2.2],.string ⟨⟨a1⟩⟩] [] [] (fun v l=>v=.bool r/\l=[]):=by
 refine Zi Tryz.func147 fun w0 F0 h0=>?_
 unfold Q71.f at H
 refine T9 (T7 ?_)
 refine rB (Z8 h0) fun b1 w1 h1=>?_
 refine Ze [1,2] rfl ?_
 refine T9 (T7 ?_)
 refine Zd 4 ?_
 refine Z7 8 H (fun c1 H=>?_) fun c1 H=>?_
 ·refine Zd 3 ?_
  refine Zc (Za 0 h1.wht) ?_
  refine Ze [4] rfl ?_
  cases H
  exact T8 (jR0 h1 [])
 refine Ze [4] rfl ?_
 cases H
 exact T8 (jR0 h1 [])

def Q69.f (a0:TC) (a1:TS):Option (Bool):=if (!Op.bytesLess a1 a0.1)=true then (if a0.2.2=true then (some true) else (some (Op.bytesLess a1 a0.2.1))) else (some false)
theorem Q69.spec {a0 a1 r} (H:Q69.f a0 a1=some r) :
  Spec prog 148 [.agg #[.string ⟨⟨a0.1⟩⟩,.string ⟨⟨a0.2.1⟩⟩,.bool a0.2.2],.string ⟨⟨a1⟩⟩] [] [] (fun v l=>v=.bool r/\l=[]):=by
 refine Zi Tryz.func148 fun w0 F0 h0=>?_
 unfold Q69.f at H
 refine T9 (T7 ?_)
 refine rB (Z8 h0) fun b1 w1 h1=>?_
 refine Ze [1,2] rfl ?_
 refine T9 (T7 ?_)
 refine Zd 2 ?_
 refine Zc (Za 0 h1.wht) ?_
 refine Zd 2 ?_
 refine Z7 9 H (fun c1 H=>?_) fun c1 H=>?_
 ·refine Zd 1 ?_
  refine Zc (Za 0 h1.wht) ?_
  refine Zd 1 ?_
  refine Z7 12 H (fun c2 H=>?_) fun c2 H=>?_
  ·refine Ze [4] rfl ?_
   cases H
   exact T8 (jR0 h1 [])
  refine Zd 2 ?_
  refine Zc (Za 0 h1.wht) ?_
  refine Ze [4] rfl ?_
  cases H
  exact T8 (jR0 h1 [])
 refine Ze [4] rfl ?_
 cases H
 exact T8 (jR0 h1 [])

def Q78.f (a0:TF) (a1:Tr) (a2:TC):Option (Bool):=(Q71.f a1 a0.1).bind fun r1=>(if (!r1)=true then (some true) else ((Q69.f a2 a0.1).bind fun r2=>(if (!r2)=true then (some true) else (some (decide (a1.2.2.2.2.2.2.2<(a0.2.length:Int)))))))
theorem Q78.spec {a0 a1 a2 b1 b2 r} (H:Q78.f a0 a1 a2=some r) :
  Spec prog 146 [.agg #[.string ⟨⟨a0.1⟩⟩,.string ⟨⟨a0.2⟩⟩],.pointer (some ⟨b1,0,none⟩),.pointer (some ⟨b2,0,none⟩)] [X23 b1 a1.1 a1.2.1 a1.2.2.1 a1.2.2.2.1 a1.2.2.2.2.1 a1.2.2.2.2.2.1 a1.2.2.2.2.2.2.1 a1.2.2.2.2.2.2.2,X30 b2 a2.1 a2.2.1 a2.2.2] [] (fun v l=>v=.bool r/\l=[X23 b1 a1.1 a1.2.1 a1.2.2.1 a1.2.2.2.1 a1.2.2.2.2.1 a1.2.2.2.2.2.1 a1.2.2.2.2.2.2.1 a1.2.2.2.2.2.2.2,X30 b2 a2.1 a2.2.1 a2.2.2]):=by
 refine Zi Tryz.func146 fun w0 F0 h0=>?_
 unfold Q78.f at H
 refine T9 (T7 ?_)
 refine rB (Z8 h0) fun b3 w1 h1=>?_
 refine Ze [1,2,3] rfl ?_
 refine T9 (T7 ?_)
 refine Zc (Za 1 h1.wht) ?_
 refine Zd 1 ?_
 refine Zc (Za 0 h1.wht) ?_
 refine cS H [] h1 rfl Q71.spec Zo fun r1 w2 H h2=>?_
 refine Zd 2 ?_
 refine Z7 10 H (fun c1 H=>?_) fun c1 H=>?_
 ·refine Ze [4] rfl ?_
  cases H
  exact T8 (jR0 h2 [1,1])
 refine Zc (Za 2 h2.wht) ?_
 refine Zd 1 ?_
 refine Zc (Za 0 h2.wht) ?_
 refine cS H [] h2 rfl Q69.spec Zo fun r2 w3 H h3=>?_
 refine Zd 3 ?_
 refine Z7 17 H (fun c2 H=>?_) fun c2 H=>?_
 ·refine Ze [4] rfl ?_
  cases H
  exact T8 (jR0 h3 [1,1])
 refine Zd 1 ?_
 refine Zc (Za 0 h3.wht) ?_
 refine Zd 2 ?_
 refine Zc (Za 1 h3.wht) ?_
 refine Ze [4] rfl ?_
 cases H
 exact T8 (jR0 h3 [1,1])

def Q111.l0:Nat->TA->Tr->TC->(Int)->Option (Int)
 | 0,_,_,_,_=>none
 | k+1,a0,a2,a3,x1=>if (decide (x1<(a0.length:Int)))=true then (if 0<=x1/\x1<(a0.length:Int) then ((Q78.f (gt a0 x1) a2 a3).bind fun r1=>(if r1=true then (some x1) else (Q111.l0 k a0 a2 a3 (w64 (x1+1))))) else none) else (some (-1))
def Q111.f (k:Nat) (a0:TA) (a2:Tr) (a3:TC):Option (Int):=Q111.l0 k a0 a2 a3 0
theorem Q111.spec {k a0 a2 a3 A1 c_1 b1 b2 r} (H:Q111.f k a0 a2 a3=some r) :
  Spec prog 163 [.slice A1 a0.length c_1,.func (.func 146) #[] #[.pointer (some ⟨b1,0,none⟩),.pointer (some ⟨b2,0,none⟩)]] [X23 b1 a2.1 a2.2.1 a2.2.2.1 a2.2.2.2.1 a2.2.2.2.2.1 a2.2.2.2.2.2.1 a2.2.2.2.2.2.2.1 a2.2.2.2.2.2.2.2,X30 b2 a3.1 a3.2.1 a3.2.2] [R47 a0 A1 c_1] (fun v l=>v=.int .i64 r/\l=[X23 b1 a2.1 a2.2.1 a2.2.2.1 a2.2.2.2.1 a2.2.2.2.2.1 a2.2.2.2.2.2.1 a2.2.2.2.2.2.2.1 a2.2.2.2.2.2.2.2,X30 b2 a3.1 a3.2.1 a3.2.2]):=by
 refine Zi Tryz.func163 fun w0 F0 h0=>?_
 unfold Q111.f at H
 refine T9 (Zb [0,1] ?_)
 refine T9 (T9 (Zb [0,1,7,8] ?_))
 refine T1 ?_
 have h4:=(sOR h0 [0,0] [0])
 refine T5 (fun kk env w=>∃ x1,Q111.l0 kk a0 a2 a3 x1=some r/\env=[(0,.slice A1 a0.length c_1),(1,.func (.func 146) #[] #[.pointer (some ⟨b1,0,none⟩),.pointer (some ⟨b2,0,none⟩)]),(7,.int .i64 (a0.length:Int)),(8,.int .i64 x1)]/\St w0 F0 [X23 b1 a2.1 a2.2.1 a2.2.2.1 a2.2.2.2.1 a2.2.2.2.2.1 a2.2.2.2.2.2.1 a2.2.2.2.2.2.2.1 a2.2.2.2.2.2.2.2,X30 b2 a3.1 a3.2.1 a3.2.2] [R47 a0 A1 c_1] w) (k:=k) ⟨_,H,rfl,h4⟩ ?_
 rintro k1 env w1 ⟨x1,H,rfl,h1⟩
 rcases k1 with _ | k1
 ·exact z0 H
 rw [Q111.l0] at H
 refine T9 (Zb [0,1,7,8,9] ?_)
 refine T9 (jIf H (fun c1 H=>?_) fun c1 H=>?_)
 ·refine Sa (T9 (T1 (T9 (Zb [0,1,5,7,8] ?_))))
  refine T9 (T7 ?_)
  refine Zd 3 ?_
  obtain ⟨⟨p1,p2⟩,H⟩:=Zk H
  have e1:=Z1 h1.wh (Zj 2) p1 p2
  refine Zc (Zg e1 p1 p2) ?_
  refine Zc (Zh 0 h1.wht (Zj 2) p1 p2) ?_
  obtain ⟨r1,q1,H⟩:=Yj H
  refine Zr (Gc [.agg #[.string ⟨⟨(gt a0 x1).1⟩⟩,.string ⟨⟨(gt a0 x1).2⟩⟩]] [.pointer (some ⟨b1,0,none⟩),.pointer (some ⟨b2,0,none⟩)] [0,0] (Q78.spec q1) h1 rfl Zo) ?_
  rintro _ w2 ⟨_,⟨rfl,rfl⟩,h2⟩
  replace h2:=nf h2
  refine Ze [0,1,5,7,8,16] rfl ?_
  refine jIf H (fun c2 H=>?_) fun c2 H=>?_
  ·refine T9 (Zb [4] ?_)
   cases H
   exact T8 (jR0 h2 [0,0])
  refine Sa (Zb [0,1,7,8] ?_)
  have h3:=(sOR h2 [0,0] [0])
  exact ⟨k1,by omega,_,H,rfl,h3⟩
 refine T4 (T9 (Zb [4] ?_))
 cases H
 exact T8 (jR0 h1 [0,0])

def Q104.f (k:Nat) (a0:TA) (a2:Tr) (a3:TC):Option (Bool):=(Q111.f k a0 a2 a3).bind fun r1=>(some (decide (0<=r1)))
theorem Q104.spec {k a0 a2 a3 A1 c_1 b1 b2 r} (H:Q104.f k a0 a2 a3=some r) :
  Spec prog 145 [.slice A1 a0.length c_1,.func (.func 146) #[] #[.pointer (some ⟨b1,0,none⟩),.pointer (some ⟨b2,0,none⟩)]] [X23 b1 a2.1 a2.2.1 a2.2.2.1 a2.2.2.2.1 a2.2.2.2.2.1 a2.2.2.2.2.2.1 a2.2.2.2.2.2.2.1 a2.2.2.2.2.2.2.2,X30 b2 a3.1 a3.2.1 a3.2.2] [R47 a0 A1 c_1] (fun v l=>v=.bool r/\l=[X23 b1 a2.1 a2.2.1 a2.2.2.1 a2.2.2.2.1 a2.2.2.2.2.1 a2.2.2.2.2.2.1 a2.2.2.2.2.2.2.1 a2.2.2.2.2.2.2.2,X30 b2 a3.1 a3.2.1 a3.2.2]):=by
 refine Zi Tryz.func145 fun w0 F0 h0=>?_
 unfold Q104.f at H
 refine T9 (Zb [0,1] ?_)
 refine T9 (T7 ?_)
 refine Zd 2 ?_
 refine cS H [0,0] h0 rfl Q111.spec (gS [0]) fun r1 w1 H h1=>?_
 refine Ze [4] rfl ?_
 cases H
 exact T8 (jR0 h1 [0,0])

def Q77.f (k:Nat) (a0:Tr) (a1:TC) (a2:Tp):Option (Bool):=if (decide (0<(w64 ((w64 ((a2.2.1.length:Int)+(a2.2.2.1.length:Int)))+(a2.2.2.2.1.length:Int)))))=true then (some false) else (if (decide (a0.2.2.2.2.2.1<(a2.2.2.2.2.length:Int)))=true then (some false) else ((Q64.f k a2.2.2.2.2).bind fun r1=>(if (!r1)=true then (some false) else ((Q104.f k a2.2.2.2.2 a0 a1).bind fun r2=>(some (!r2))))))
theorem Q77.spec {k a0 a1 a2 A1 c_1 A2 c_2 A3 c_3 A4 c_4 r} (H:Q77.f k a0 a1 a2=some r) :
  Spec prog 119 [.agg #[.int .i64 a0.1,.int .i64 a0.2.1,.int .i64 a0.2.2.1,.int .i64 a0.2.2.2.1,.int .i64 a0.2.2.2.2.1,.int .i64 a0.2.2.2.2.2.1,.int .i64 a0.2.2.2.2.2.2.1,.int .i64 a0.2.2.2.2.2.2.2],.agg #[.string ⟨⟨a1.1⟩⟩,.string ⟨⟨a1.2.1⟩⟩,.bool a1.2.2],.agg #[.int .i64 a2.1,.slice A1 a2.2.1.length c_1,.slice A2 a2.2.2.1.length c_2,.slice A3 a2.2.2.2.1.length c_3,.slice A4 a2.2.2.2.2.length c_4]] [] [R32 a2.2.1 A1 c_1,R9 a2.2.2.1 A2 c_2,R69 a2.2.2.2.1 A3 c_3,R47 a2.2.2.2.2 A4 c_4] (fun v l=>v=.bool r/\l=[]):=by
 refine Zi Tryz.func119 fun w0 F0 h0=>?_
 unfold Q77.f at H
 refine T9 (T7 ?_)
 refine rB (Z8 h0) fun b1 w1 h1=>?_
 refine rB (Z8 h1) fun b2 w2 h2=>?_
 refine rB (Z8 h2) fun b3 w3 h3=>?_
 refine Ze [3,4,5] rfl ?_
 refine T9 (T9 (T7 ?_))
 refine Zd 1 ?_
 refine Zc (Za 0 h3.wht) ?_
 refine Zd 2 ?_
 refine Zc (Za 0 h3.wht) ?_
 refine Zd 3 ?_
 refine Zc (Za 0 h3.wht) ?_
 refine Zd 4 ?_
 refine Z7 19 H (fun c1 H=>?_) fun c1 H=>?_
 ·refine Ze [3,4,5,32] rfl ?_
  refine Zq ?_
  refine T9 (Zb [6] ?_)
  have h4:=sO h3 []
  replace h4:=nf h4
  cases H
  exact T8 (jR0 h4 [])
 refine Zd 1 ?_
 refine Zc (Za 0 h3.wht) ?_
 refine Zd 2 ?_
 refine Zc (Za 2 h3.wht) ?_
 refine Zd 3 ?_
 refine Z7 27 H (fun c2 H=>?_) fun c2 H=>?_
 ·refine Ze [3,4,5,32] rfl ?_
  refine Zq ?_
  refine T9 (Zb [6] ?_)
  have h5:=sO h3 []
  replace h5:=nf h5
  cases H
  exact T8 (jR0 h5 [])
 refine Zd 1 ?_
 refine Zc (Za 0 h3.wht) ?_
 refine cS H [] h3 rfl Q64.spec (gS [6]) fun r1 w4 H h6=>?_
 refine Ze [3,4,5,32] rfl ?_
 refine jIf H (fun c3 H=>?_) fun c3 H=>?_
 ·refine T9 (Zb [6] ?_)
  have h7:=sO h6 []
  replace h7:=nf h7
  cases H
  exact T8 (jR0 h7 [])
 refine Sa (T9 (T7 ?_))
 refine Zd 1 ?_
 refine Zc (Za 0 h6.wht) ?_
 refine Zd 1 ?_
 refine cS H [2,1] h6 rfl Q104.spec (gS [4]) fun r2 w5 H h8=>?_
 refine Ze [6] rfl ?_
 have h9:=sO h8 []
 replace h9:=nf h9
 cases H
 exact T8 (jR0 h9 [])

def Q101.f (a0:TX):Option TX:=if (([]:List Int).length+a0.length)*4<=140737488355328 then (some ([] ++ a0)) else none
theorem Q101.spec {a0 A1 c_1 r} (H:Q101.f a0=some r) :
  Spec prog 164 [.slice A1 a0.length c_1] [] [R32 a0 A1 c_1] (fun v l=>∃ A_0 c_0,v=.slice A_0 r.length c_0/\l=[O32 r A_0 c_0]):=by
 refine Zi Tryz.func164 fun w0 F0 h0=>?_
 unfold Q101.f at H
 refine T9 (Zb [0] ?_)
 refine T9 (T9 (Zb [0,4] ?_))
 refine Jy (fun c1=>?_) (fun c1=>?_)
 ·have e1:=h0.nilrow (Zj 0) (by simpa using c1)
  replace H:(some [])=some r:=by rw [e1] at H; simpa using H
  refine T9 (Zb [2] ?_)
  have h1:=h0.addNil 32 (.int .u32)
  cases H
  exact T8 (jR ⟨_,_,rfl,rfl⟩ h1 [0])
 refine Sa (T9 (T7 ?_))
 refine rB (Zz (.int .u32) [] h0) fun b1 w1 h2=>?_
 refine Zd 1 ?_
 obtain ⟨p1,H⟩:=Zk H
 refine Zr (Zu 0 h2 (Zj 0) p1) ?_
 rintro _ w2 ⟨A2,c_2,rfl,h3⟩
 replace h3:=nf h3
 refine Ze [2] rfl ?_
 cases H
 exact T8 (jR ⟨_,_,rfl,rfl⟩ h3 [0])

def tb0:List UInt8:=[0,1,2,2,3,3,3,3,4,4,4,4,4,4,4,4,5,5,5,5,5,5,5,5,5,5,5,5,5,5,5,5,6,6,6,6,6,6,6,6,6,6,6,6,6,6,6,6,6,6,6,6,6,6,6,6,6,6,6,6,6,6,6,6,7,7,7,7,7,7,7,7,7,7,7,7,7,7,7,7,7,7,7,7,7,7,7,7,7,7,7,7,7,7,7,7,7,7,7,7,7,7,7,7,7,7,7,7,7,7,7,7,7,7,7,7,7,7,7,7,7,7,7,7,7,7,7,7,8,8,8,8,8,8,8,8,8,8,8,8,8,8,8,8,8,8,8,8,8,8,8,8,8,8,8,8,8,8,8,8,8,8,8,8,8,8,8,8,8,8,8,8,8,8,8,8,8,8,8,8,8,8,8,8,8,8,8,8,8,8,8,8,8,8,8,8,8,8,8,8,8,8,8,8,8,8,8,8,8,8,8,8,8,8,8,8,8,8,8,8,8,8,8,8,8,8,8,8,8,8,8,8,8,8,8,8,8,8,8,8,8,8,8,8,8,8,8,8,8,8,8,8,8,8,8,8]
def Q1.f (a0:Int):Option (Int):=if (decide (4294967296<=a0))=true then (if (decide (65536<=(Int.fdiv a0 (2 ^ 32))))=true then (if (decide (256<=(Int.fdiv (Int.fdiv a0 (2 ^ 32)) (2 ^ 16))))=true then (if 0<=(uA.wrap ((Int.fdiv (Int.fdiv (Int.fdiv a0 (2 ^ 32)) (2 ^ 16)) (2 ^ 8))))/\(uA.wrap ((Int.fdiv (Int.fdiv (Int.fdiv a0 (2 ^ 32)) (2 ^ 16)) (2 ^ 8))))<(tb0.length:Int) then (some (w64 (56+(w64 ((gtb [0,1,2,2,3,3,3,3,4,4,4,4,4,4,4,4,5,5,5,5,5,5,5,5,5,5,5,5,5,5,5,5,6,6,6,6,6,6,6,6,6,6,6,6,6,6,6,6,6,6,6,6,6,6,6,6,6,6,6,6,6,6,6,6,7,7,7,7,7,7,7,7,7,7,7,7,7,7,7,7,7,7,7,7,7,7,7,7,7,7,7,7,7,7,7,7,7,7,7,7,7,7,7,7,7,7,7,7,7,7,7,7,7,7,7,7,7,7,7,7,7,7,7,7,7,7,7,7,8,8,8,8,8,8,8,8,8,8,8,8,8,8,8,8,8,8,8,8,8,8,8,8,8,8,8,8,8,8,8,8,8,8,8,8,8,8,8,8,8,8,8,8,8,8,8,8,8,8,8,8,8,8,8,8,8,8,8,8,8,8,8,8,8,8,8,8,8,8,8,8,8,8,8,8,8,8,8,8,8,8,8,8,8,8,8,8,8,8,8,8,8,8,8,8,8,8,8,8,8,8,8,8,8,8,8,8,8,8,8,8,8,8,8,8,8,8,8,8,8,8,8,8,8,8,8,8] (uA.wrap ((Int.fdiv (Int.fdiv (Int.fdiv a0 (2 ^ 32)) (2 ^ 16)) (2 ^ 8)))))))))) else none) else (if 0<=(uA.wrap ((Int.fdiv (Int.fdiv a0 (2 ^ 32)) (2 ^ 16))))/\(uA.wrap ((Int.fdiv (Int.fdiv a0 (2 ^ 32)) (2 ^ 16))))<(tb0.length:Int) then (some (w64 (48+(w64 ((gtb [0,1,2,2,3,3,3,3,4,4,4,4,4,4,4,4,5,5,5,5,5,5,5,5,5,5,5,5,5,5,5,5,6,6,6,6,6,6,6,6,6,6,6,6,6,6,6,6,6,6,6,6,6,6,6,6,6,6,6,6,6,6,6,6,7,7,7,7,7,7,7,7,7,7,7,7,7,7,7,7,7,7,7,7,7,7,7,7,7,7,7,7,7,7,7,7,7,7,7,7,7,7,7,7,7,7,7,7,7,7,7,7,7,7,7,7,7,7,7,7,7,7,7,7,7,7,7,7,8,8,8,8,8,8,8,8,8,8,8,8,8,8,8,8,8,8,8,8,8,8,8,8,8,8,8,8,8,8,8,8,8,8,8,8,8,8,8,8,8,8,8,8,8,8,8,8,8,8,8,8,8,8,8,8,8,8,8,8,8,8,8,8,8,8,8,8,8,8,8,8,8,8,8,8,8,8,8,8,8,8,8,8,8,8,8,8,8,8,8,8,8,8,8,8,8,8,8,8,8,8,8,8,8,8,8,8,8,8,8,8,8,8,8,8,8,8,8,8,8,8,8,8,8,8,8,8] (uA.wrap ((Int.fdiv (Int.fdiv a0 (2 ^ 32)) (2 ^ 16)))))))))) else none)) else (if (decide (256<=(Int.fdiv a0 (2 ^ 32))))=true then (if 0<=(uA.wrap ((Int.fdiv (Int.fdiv a0 (2 ^ 32)) (2 ^ 8))))/\(uA.wrap ((Int.fdiv (Int.fdiv a0 (2 ^ 32)) (2 ^ 8))))<(tb0.length:Int) then (some (w64 (40+(w64 ((gtb [0,1,2,2,3,3,3,3,4,4,4,4,4,4,4,4,5,5,5,5,5,5,5,5,5,5,5,5,5,5,5,5,6,6,6,6,6,6,6,6,6,6,6,6,6,6,6,6,6,6,6,6,6,6,6,6,6,6,6,6,6,6,6,6,7,7,7,7,7,7,7,7,7,7,7,7,7,7,7,7,7,7,7,7,7,7,7,7,7,7,7,7,7,7,7,7,7,7,7,7,7,7,7,7,7,7,7,7,7,7,7,7,7,7,7,7,7,7,7,7,7,7,7,7,7,7,7,7,8,8,8,8,8,8,8,8,8,8,8,8,8,8,8,8,8,8,8,8,8,8,8,8,8,8,8,8,8,8,8,8,8,8,8,8,8,8,8,8,8,8,8,8,8,8,8,8,8,8,8,8,8,8,8,8,8,8,8,8,8,8,8,8,8,8,8,8,8,8,8,8,8,8,8,8,8,8,8,8,8,8,8,8,8,8,8,8,8,8,8,8,8,8,8,8,8,8,8,8,8,8,8,8,8,8,8,8,8,8,8,8,8,8,8,8,8,8,8,8,8,8,8,8,8,8,8,8] (uA.wrap ((Int.fdiv (Int.fdiv a0 (2 ^ 32)) (2 ^ 8)))))))))) else none) else (if 0<=(uA.wrap ((Int.fdiv a0 (2 ^ 32))))/\(uA.wrap ((Int.fdiv a0 (2 ^ 32))))<(tb0.length:Int) then (some (w64 (32+(w64 ((gtb [0,1,2,2,3,3,3,3,4,4,4,4,4,4,4,4,5,5,5,5,5,5,5,5,5,5,5,5,5,5,5,5,6,6,6,6,6,6,6,6,6,6,6,6,6,6,6,6,6,6,6,6,6,6,6,6,6,6,6,6,6,6,6,6,7,7,7,7,7,7,7,7,7,7,7,7,7,7,7,7,7,7,7,7,7,7,7,7,7,7,7,7,7,7,7,7,7,7,7,7,7,7,7,7,7,7,7,7,7,7,7,7,7,7,7,7,7,7,7,7,7,7,7,7,7,7,7,7,8,8,8,8,8,8,8,8,8,8,8,8,8,8,8,8,8,8,8,8,8,8,8,8,8,8,8,8,8,8,8,8,8,8,8,8,8,8,8,8,8,8,8,8,8,8,8,8,8,8,8,8,8,8,8,8,8,8,8,8,8,8,8,8,8,8,8,8,8,8,8,8,8,8,8,8,8,8,8,8,8,8,8,8,8,8,8,8,8,8,8,8,8,8,8,8,8,8,8,8,8,8,8,8,8,8,8,8,8,8,8,8,8,8,8,8,8,8,8,8,8,8,8,8,8,8,8,8] (uA.wrap ((Int.fdiv a0 (2 ^ 32)))))))))) else none))) else (if (decide (65536<=a0))=true then (if (decide (256<=(Int.fdiv a0 (2 ^ 16))))=true then (if 0<=(uA.wrap ((Int.fdiv (Int.fdiv a0 (2 ^ 16)) (2 ^ 8))))/\(uA.wrap ((Int.fdiv (Int.fdiv a0 (2 ^ 16)) (2 ^ 8))))<(tb0.length:Int) then (some (w64 (24+(w64 ((gtb [0,1,2,2,3,3,3,3,4,4,4,4,4,4,4,4,5,5,5,5,5,5,5,5,5,5,5,5,5,5,5,5,6,6,6,6,6,6,6,6,6,6,6,6,6,6,6,6,6,6,6,6,6,6,6,6,6,6,6,6,6,6,6,6,7,7,7,7,7,7,7,7,7,7,7,7,7,7,7,7,7,7,7,7,7,7,7,7,7,7,7,7,7,7,7,7,7,7,7,7,7,7,7,7,7,7,7,7,7,7,7,7,7,7,7,7,7,7,7,7,7,7,7,7,7,7,7,7,8,8,8,8,8,8,8,8,8,8,8,8,8,8,8,8,8,8,8,8,8,8,8,8,8,8,8,8,8,8,8,8,8,8,8,8,8,8,8,8,8,8,8,8,8,8,8,8,8,8,8,8,8,8,8,8,8,8,8,8,8,8,8,8,8,8,8,8,8,8,8,8,8,8,8,8,8,8,8,8,8,8,8,8,8,8,8,8,8,8,8,8,8,8,8,8,8,8,8,8,8,8,8,8,8,8,8,8,8,8,8,8,8,8,8,8,8,8,8,8,8,8,8,8,8,8,8,8] (uA.wrap ((Int.fdiv (Int.fdiv a0 (2 ^ 16)) (2 ^ 8)))))))))) else none) else (if 0<=(uA.wrap ((Int.fdiv a0 (2 ^ 16))))/\(uA.wrap ((Int.fdiv a0 (2 ^ 16))))<(tb0.length:Int) then (some (w64 (16+(w64 ((gtb [0,1,2,2,3,3,3,3,4,4,4,4,4,4,4,4,5,5,5,5,5,5,5,5,5,5,5,5,5,5,5,5,6,6,6,6,6,6,6,6,6,6,6,6,6,6,6,6,6,6,6,6,6,6,6,6,6,6,6,6,6,6,6,6,7,7,7,7,7,7,7,7,7,7,7,7,7,7,7,7,7,7,7,7,7,7,7,7,7,7,7,7,7,7,7,7,7,7,7,7,7,7,7,7,7,7,7,7,7,7,7,7,7,7,7,7,7,7,7,7,7,7,7,7,7,7,7,7,8,8,8,8,8,8,8,8,8,8,8,8,8,8,8,8,8,8,8,8,8,8,8,8,8,8,8,8,8,8,8,8,8,8,8,8,8,8,8,8,8,8,8,8,8,8,8,8,8,8,8,8,8,8,8,8,8,8,8,8,8,8,8,8,8,8,8,8,8,8,8,8,8,8,8,8,8,8,8,8,8,8,8,8,8,8,8,8,8,8,8,8,8,8,8,8,8,8,8,8,8,8,8,8,8,8,8,8,8,8,8,8,8,8,8,8,8,8,8,8,8,8,8,8,8,8,8,8] (uA.wrap ((Int.fdiv a0 (2 ^ 16)))))))))) else none)) else (if (decide (256<=a0))=true then (if 0<=(uA.wrap ((Int.fdiv a0 (2 ^ 8))))/\(uA.wrap ((Int.fdiv a0 (2 ^ 8))))<(tb0.length:Int) then (some (w64 (8+(w64 ((gtb [0,1,2,2,3,3,3,3,4,4,4,4,4,4,4,4,5,5,5,5,5,5,5,5,5,5,5,5,5,5,5,5,6,6,6,6,6,6,6,6,6,6,6,6,6,6,6,6,6,6,6,6,6,6,6,6,6,6,6,6,6,6,6,6,7,7,7,7,7,7,7,7,7,7,7,7,7,7,7,7,7,7,7,7,7,7,7,7,7,7,7,7,7,7,7,7,7,7,7,7,7,7,7,7,7,7,7,7,7,7,7,7,7,7,7,7,7,7,7,7,7,7,7,7,7,7,7,7,8,8,8,8,8,8,8,8,8,8,8,8,8,8,8,8,8,8,8,8,8,8,8,8,8,8,8,8,8,8,8,8,8,8,8,8,8,8,8,8,8,8,8,8,8,8,8,8,8,8,8,8,8,8,8,8,8,8,8,8,8,8,8,8,8,8,8,8,8,8,8,8,8,8,8,8,8,8,8,8,8,8,8,8,8,8,8,8,8,8,8,8,8,8,8,8,8,8,8,8,8,8,8,8,8,8,8,8,8,8,8,8,8,8,8,8,8,8,8,8,8,8,8,8,8,8,8,8] (uA.wrap ((Int.fdiv a0 (2 ^ 8)))))))))) else none) else (if 0<=(uA.wrap (a0))/\(uA.wrap (a0))<(tb0.length:Int) then (some (w64 (0+(w64 ((gtb [0,1,2,2,3,3,3,3,4,4,4,4,4,4,4,4,5,5,5,5,5,5,5,5,5,5,5,5,5,5,5,5,6,6,6,6,6,6,6,6,6,6,6,6,6,6,6,6,6,6,6,6,6,6,6,6,6,6,6,6,6,6,6,6,7,7,7,7,7,7,7,7,7,7,7,7,7,7,7,7,7,7,7,7,7,7,7,7,7,7,7,7,7,7,7,7,7,7,7,7,7,7,7,7,7,7,7,7,7,7,7,7,7,7,7,7,7,7,7,7,7,7,7,7,7,7,7,7,8,8,8,8,8,8,8,8,8,8,8,8,8,8,8,8,8,8,8,8,8,8,8,8,8,8,8,8,8,8,8,8,8,8,8,8,8,8,8,8,8,8,8,8,8,8,8,8,8,8,8,8,8,8,8,8,8,8,8,8,8,8,8,8,8,8,8,8,8,8,8,8,8,8,8,8,8,8,8,8,8,8,8,8,8,8,8,8,8,8,8,8,8,8,8,8,8,8,8,8,8,8,8,8,8,8,8,8,8,8,8,8,8,8,8,8,8,8,8,8,8,8,8,8,8,8,8,8] (uA.wrap (a0)))))))) else none)))
theorem Q1.spec {a0 r} (H:Q1.f a0=some r) :
  Spec prog 188 [.int .u64 a0] [] [] (fun v l=>v=.int .i64 r/\l=[]):=by
 refine Zi Tryz.func188 fun w0 F0 h0=>?_
 unfold Q1.f at H
 refine T9 (Zb [0,2] ?_)
 refine T9 (T9 (Zb [0,2,4] ?_))
 refine jIf H (fun c1 H=>?_) fun c1 H=>?_
 ·refine T9 (Zb [0] ?_)
  refine Zb [0,2] ?_
  refine T9 (T9 (Zb [0,2,8] ?_))
  refine jIf H (fun c2 H=>?_) fun c2 H=>?_
  ·refine T9 (Zb [0,2] ?_)
   refine Zb [0,2] ?_
   refine T9 (T9 (Zb [0,2,14] ?_))
   refine jIf H (fun c3 H=>?_) fun c3 H=>?_
   ·refine T9 (Zb [0,2] ?_)
    refine Zb [0,2] ?_
    refine T9 (T7 ?_)
    refine Zd 3 ?_
    obtain ⟨⟨p1,p2⟩,H⟩:=Zk H
    refine Zc (X0 p1 p2) ?_
    refine Ze [2] rfl ?_
    cases H
    exact T8 (jR0 h0 [])
   refine Sa (T9 (T7 ?_))
   refine Zd 3 ?_
   obtain ⟨⟨p3,p4⟩,H⟩:=Zk H
   refine Zc (X0 p3 p4) ?_
   refine Ze [2] rfl ?_
   cases H
   exact T8 (jR0 h0 [])
  refine Sa (T9 (T9 (Zb [0,2,14] ?_)))
  refine jIf H (fun c4 H=>?_) fun c4 H=>?_
  ·refine T9 (Zb [0,2] ?_)
   refine Zb [0,2] ?_
   refine T9 (T7 ?_)
   refine Zd 3 ?_
   obtain ⟨⟨p5,p6⟩,H⟩:=Zk H
   refine Zc (X0 p5 p6) ?_
   refine Ze [2] rfl ?_
   cases H
   exact T8 (jR0 h0 [])
  refine Sa (T9 (T7 ?_))
  refine Zd 3 ?_
  obtain ⟨⟨p7,p8⟩,H⟩:=Zk H
  refine Zc (X0 p7 p8) ?_
  refine Ze [2] rfl ?_
  cases H
  exact T8 (jR0 h0 [])
 refine Sa (T9 (T9 (Zb [0,2,8] ?_)))
 refine jIf H (fun c5 H=>?_) fun c5 H=>?_
 ·refine T9 (Zb [0,2] ?_)
  refine Zb [0,2] ?_
  refine T9 (T9 (Zb [0,2,14] ?_))
  refine jIf H (fun c6 H=>?_) fun c6 H=>?_
  ·refine T9 (Zb [0,2] ?_)
   refine Zb [0,2] ?_
   refine T9 (T7 ?_)
   refine Zd 3 ?_
   obtain ⟨⟨p9,p10⟩,H⟩:=Zk H
   refine Zc (X0 p9 p10) ?_
   refine Ze [2] rfl ?_
   cases H
   exact T8 (jR0 h0 [])
  refine Sa (T9 (T7 ?_))
  refine Zd 3 ?_
  obtain ⟨⟨p11,p12⟩,H⟩:=Zk H
  refine Zc (X0 p11 p12) ?_
  refine Ze [2] rfl ?_
  cases H
  exact T8 (jR0 h0 [])
 refine Sa (T9 (T9 (Zb [0,2,14] ?_)))
 refine jIf H (fun c7 H=>?_) fun c7 H=>?_
 ·refine T9 (Zb [0,2] ?_)
  refine Zb [0,2] ?_
  refine T9 (T7 ?_)
  refine Zd 3 ?_
  obtain ⟨⟨p13,p14⟩,H⟩:=Zk H
  refine Zc (X0 p13 p14) ?_
  refine Ze [2] rfl ?_
  cases H
  exact T8 (jR0 h0 [])
 refine Sa (T9 (T7 ?_))
 refine Zd 3 ?_
 obtain ⟨⟨p15,p16⟩,H⟩:=Zk H
 refine Zc (X0 p15 p16) ?_
 refine Ze [2] rfl ?_
 cases H
 exact T8 (jR0 h0 [])

def Q0.f (a0:Int):Option (Int):=(Q1.f a0).bind fun r1=>(some r1)
theorem Q0.spec {a0 r} (H:Q0.f a0=some r) :
  Spec prog 176 [.int .u64 a0] [] [] (fun v l=>v=.int .i64 r/\l=[]):=by
 refine Zi Tryz.func176 fun w0 F0 h0=>?_
 unfold Q0.f at H
 refine T9 (Zb [0] ?_)
 refine T9 (Z4 ?_)
 refine Sa (T9 (T7 ?_))
 refine Zd 1 ?_
 refine cS H [] h0 rfl Q1.spec Zo fun r1 w1 H h1=>?_
 refine Ze [2] rfl ?_
 cases H
 exact T8 (jR0 h1 [])

def Q37.f (a0:Int):Option (Bool):=some (!decide (a0=a0))
theorem Q37.spec {a0 r} (H:Q37.f a0=some r) :
  Spec prog 194 [.int .u32 a0] [] [] (fun v l=>v=.bool r/\l=[]):=by
 refine Zi Tryz.func194 fun w0 F0 h0=>?_
 unfold Q37.f at H
 refine T9 (Zb [0] ?_)
 refine T9 (Zb [2] ?_)
 cases H
 exact T8 (jR0 h0 [])

def Q36.f (a0:Int) (a1:Int):Option (Bool):=(Q37.f a0).bind fun r1=>(if r1=true then ((Q37.f a1).bind fun r2=>(if (!r2)=true then (some true) else (some (decide (a0<a1))))) else (some (decide (a0<a1))))
theorem Q36.spec {a0 a1 r} (H:Q36.f a0 a1=some r) :
  Spec prog 184 [.int .u32 a0,.int .u32 a1] [] [] (fun v l=>v=.bool r/\l=[]):=by
 refine Zi Tryz.func184 fun w0 F0 h0=>?_
 unfold Q36.f at H
 refine T9 (Zb [0,1] ?_)
 refine T9 (T7 ?_)
 refine Zd 1 ?_
 refine cS H [] h0 rfl Q37.spec Zo fun r1 w1 H h1=>?_
 refine Zd 1 ?_
 refine Z7 7 H (fun c1 H=>?_) fun c1 H=>?_
 ·refine Zd 1 ?_
  refine cS H [] h1 rfl Q37.spec Zo fun r2 w2 H h2=>?_
  refine Zd 3 ?_
  refine Z7 12 H (fun c2 H=>?_) fun c2 H=>?_
  ·refine Ze [4] rfl ?_
   cases H
   exact T8 (jR0 h2 [])
  refine Ze [4] rfl ?_
  cases H
  exact T8 (jR0 h2 [])
 refine Ze [4] rfl ?_
 cases H
 exact T8 (jR0 h1 [])

mutual
def Q120.l0:Nat->(Int)->(Int)->TX->(Int)->Option TX
 | 0,_,_,_,_=>none
 | k+1,a1,a2,x1,x2=>if (decide (x2<a2))=true then (Q120.l1 k a1 a2 x2 x1 x2) else (some x1)
def Q120.l1:Nat->(Int)->(Int)->(Int)->TX->(Int)->Option TX
 | 0,_,_,_,_,_=>none
 | k+1,a1,a2,x2,x3,x4=>if (decide (a1<x4))=true then (if 0<=x4/\x4<(x3.length:Int) then (if 0<=(w64 (x4 - 1))/\(w64 (x4 - 1))<(x3.length:Int) then ((Q36.f (gt x3 x4) (gt x3 (w64 (x4 - 1)))).bind fun r1=>(if r1=true then (Q120.l1 k a1 a2 x2 ((x3.set x4.toNat (gt x3 (w64 (x4 - 1)))).set (w64 (x4 - 1)).toNat (gt x3 x4)) (w64 (x4 - 1))) else (Q120.l0 k a1 a2 x3 (w64 (x2+1))))) else none) else none) else (Q120.l0 k a1 a2 x3 (w64 (x2+1)))
end
def Q120.f (k:Nat) (a0:TX) (a1:Int) (a2:Int):Option TX:=Q120.l0 k a1 a2 a0 (w64 (a1+1))
theorem Q120.spec {k a0 a1 a2 A1 c_1 r} (H:Q120.f k a0 a1 a2=some r) :
  Spec prog 178 [.slice A1 a0.length c_1,.int .i64 a1,.int .i64 a2] [O32 a0 A1 c_1] [] (fun v l=>v=.tuple #[]/\l=[O32 r A1 c_1]/\r.length=a0.length):=by
 refine Zi Tryz.func178 fun w0 F0 h0=>?_
 unfold Q120.f at H
 refine T9 (Zb [0,1,2,6] ?_)
 refine T1 ?_
 have h12:=(sOR h0 [0] [])
 refine T5 (fun kk env w=>∃ x1 x2,Q120.l0 kk a1 a2 x1 x2=some r/\env=[(0,.slice A1 x1.length c_1),(1,.int .i64 a1),(2,.int .i64 a2),(6,.int .i64 x2)]/\St w0 F0 [O32 x1 A1 c_1] [] w/\x1.length=a0.length) (k:=k) ⟨_,_,H,rfl,h12,(rfl:a0.length=a0.length)⟩ ?_
 rintro k1 env w1 ⟨x1,x2,H,rfl,h1,e1⟩
 rcases k1 with _ | k1
 ·exact z0 H
 rw [Q120.l0] at H
 refine T9 (T9 (Zb [0,1,2,6,12] ?_))
 refine jIf H (fun c1 H=>?_) fun c1 H=>?_
 ·refine Sa (T9 (T1 (T9 (Zb [0,1,2,6,7] ?_))))
  refine T1 ?_
  have h11:=(sOR h1 [0] [])
  refine T5 (fun kk env w=>∃ x3 x4,Q120.l1 kk a1 a2 x2 x3 x4=some r/\env=[(0,.slice A1 x3.length c_1),(1,.int .i64 a1),(2,.int .i64 a2),(6,.int .i64 x2),(7,.int .i64 x4)]/\St w0 F0 [O32 x3 A1 c_1] [] w/\kk<=k1/\x3.length=a0.length) (k:=k1) ⟨_,_,H,rfl,h11,Sb _,e1⟩ ?_
  rintro k2 env w2 ⟨x3,x4,H,rfl,h2,hk2,e2⟩
  rcases k2 with _ | k2
  ·exact z0 H
  rw [Q120.l1] at H
  refine T9 (T9 ?_)
  refine jH h2 fun h3=>?_
  refine Zl [0,1,2,3] ?_
  refine Wn 19 H (fun c2 H=>?_) fun c2 H=>?_
  ·refine Zl [4,5,8,9,10] ?_
   obtain ⟨⟨p1,p2⟩,H⟩:=Zk H
   have e3:=Z1 h3.wh (gO 0) p1 p2
   refine Zf 6 rfl (Zg e3 p1 p2) ?_
   refine Zf 7 rfl (Zh 0 wI (gO 0) p1 p2) ?_
   obtain ⟨⟨p3,p4⟩,H⟩:=Zk H
   refine Zf 11 rfl (Zg e3 p3 p4) ?_
   refine Zf 12 rfl (Zh 0 wI (gO 0) p3 p4) ?_
   refine cSJ 13 rfl H [] h3 rfl Q36.spec Zo 0 fun r1 w3 H h4=>?_
   refine Zl [14] ?_
   refine Z0 [0,1,2,6,7,30] ?_
   refine jIf H (fun c3 H=>?_) fun c3 H=>?_
   ·refine Sa (T9 (T1 ?_))
    refine Zx (sO h4 []) ?_
    have h5:=h4.drew
    refine Zl [0,1,2,3,4,5,6,7,10,11] ?_
    refine Zf 8 rfl (Zg e3 p3 p4) ?_
    refine Zf 12 rfl (Zg e3 p1 p2) ?_
    refine TY (Y3 9 rfl (Zh 0 h5.wht (gO 0) p3 p4) (Y3 13 rfl (Zh 0 h5.wht (gO 0) p1 p2) Vm)) ?_
    refine Zf 14 rfl (Zg e3 p1 p2) ?_
    refine hS 15 rfl (Zp 0 (.int .u32) x4 (gt x3 (w64 (x4 - 1))) 0 h5 rfl p1 p2) 1 fun _ w4 h6=>?_
    have e4:(x3.set x4.toNat (gt x3 (w64 (x4 - 1)))).length=a0.length:=length_set.trans e2
    refine Zf 16 rfl (Zg e3 p3 p4) ?_
    refine hS 17 rfl (Zp 0 (.int .u32) (w64 (x4 - 1)) (gt x3 x4) 0 h6 rfl p3 (by simpa only [length_set] using p4)) 1 fun _ w5 h7=>?_
    have e5:((x3.set x4.toNat (gt x3 (w64 (x4 - 1)))).set (w64 (x4 - 1)).toNat (gt x3 x4)).length=a0.length:=length_set.trans e4
    refine Z0 [0,1,2,6,7] ?_
    refine T3 (env':=[(0,.slice A1 ((x3.set x4.toNat (gt x3 (w64 (x4 - 1)))).set (w64 (x4 - 1)).toNat (gt x3 x4)).length c_1),(1,.int .i64 a1),(2,.int .i64 a2),(6,.int .i64 x2),(7,.int .i64 x4)]) (by simp only [length_set,length_nil] <;> rfl) ?_
    refine Zb [0,1,2,6,7] ?_
    have h8:=(sOR h7 [0] [])
    exact ⟨k2,by omega,_,_,H,rfl,h8,by omega,e5⟩
   refine T4 (Zb [0,1,2,6] ?_)
   have h9:=(sOR h4 [0] [])
   exact ⟨k2,by omega,_,_,H,rfl,h9,e2⟩
  refine Zl [4,5,6,7,8,9,10,11,12,13,14] ?_
  refine Z0 [0,1,2,6,7,30] ?_
  refine Z4 ?_
  refine T4 (Zb [0,1,2,6] ?_)
  have h10:=(sOR h3 [0] [])
  exact ⟨k2,by omega,_,_,H,rfl,h10,e2⟩
 refine T4 ?_
 cases H
 exact ⟨_,_,_,Zm,⟨rfl,rfl,e1⟩,sO h1 [0]⟩

def Q130.l0:Nat->(Int)->(Int)->TX->(Int)->Option TX
 | 0,_,_,_,_=>none
 | k+1,a2,a3,x1,x2=>if (decide (a2<=(w64 ((w64 (2*x2))+1))))=true then (some x1) else (if (decide ((w64 ((w64 ((w64 (2*x2))+1))+1))<a2))=true then (if 0<=(w64 (a3+(w64 ((w64 (2*x2))+1))))/\(w64 (a3+(w64 ((w64 (2*x2))+1))))<(x1.length:Int) then (if 0<=(w64 ((w64 (a3+(w64 ((w64 (2*x2))+1))))+1))/\(w64 ((w64 (a3+(w64 ((w64 (2*x2))+1))))+1))<(x1.length:Int) then ((Q36.f (gt x1 (w64 (a3+(w64 ((w64 (2*x2))+1))))) (gt x1 (w64 ((w64 (a3+(w64 ((w64 (2*x2))+1))))+1)))).bind fun r1=>(if r1=true then (if 0<=(w64 (a3+x2))/\(w64 (a3+x2))<(x1.length:Int) then (if 0<=(w64 (a3+(w64 ((w64 ((w64 (2*x2))+1))+1))))/\(w64 (a3+(w64 ((w64 ((w64 (2*x2))+1))+1))))<(x1.length:Int) then ((Q36.f (gt x1 (w64 (a3+x2))) (gt x1 (w64 (a3+(w64 ((w64 ((w64 (2*x2))+1))+1)))))).bind fun r2=>(if (!r2)=true then (some x1) else (Q130.l0 k a2 a3 ((x1.set (w64 (a3+x2)).toNat (gt x1 (w64 (a3+(w64 ((w64 ((w64 (2*x2))+1))+1)))))).set (w64 (a3+(w64 ((w64 ((w64 (2*x2))+1))+1)))).toNat (gt x1 (w64 (a3+x2)))) (w64 ((w64 ((w64 (2*x2))+1))+1))))) else none) else none) else (if 0<=(w64 (a3+x2))/\(w64 (a3+x2))<(x1.length:Int) then ((Q36.f (gt x1 (w64 (a3+x2))) (gt x1 (w64 (a3+(w64 ((w64 (2*x2))+1)))))).bind fun r3=>(if (!r3)=true then (some x1) else (Q130.l0 k a2 a3 ((x1.set (w64 (a3+x2)).toNat (gt x1 (w64 (a3+(w64 ((w64 (2*x2))+1)))))).set (w64 (a3+(w64 ((w64 (2*x2))+1)))).toNat (gt x1 (w64 (a3+x2)))) (w64 ((w64 (2*x2))+1))))) else none))) else none) else none) else (if 0<=(w64 (a3+x2))/\(w64 (a3+x2))<(x1.length:Int) then (if 0<=(w64 (a3+(w64 ((w64 (2*x2))+1))))/\(w64 (a3+(w64 ((w64 (2*x2))+1))))<(x1.length:Int) then ((Q36.f (gt x1 (w64 (a3+x2))) (gt x1 (w64 (a3+(w64 ((w64 (2*x2))+1)))))).bind fun r4=>(if (!r4)=true then (some x1) else (Q130.l0 k a2 a3 ((x1.set (w64 (a3+x2)).toNat (gt x1 (w64 (a3+(w64 ((w64 (2*x2))+1)))))).set (w64 (a3+(w64 ((w64 (2*x2))+1)))).toNat (gt x1 (w64 (a3+x2)))) (w64 ((w64 (2*x2))+1))))) else none) else none))
def Q130.f (k:Nat) (a0:TX) (a1:Int) (a2:Int) (a3:Int):Option TX:=Q130.l0 k a2 a3 a0 a1
theorem Q130.spec {k a0 a1 a2 a3 A1 c_1 r} (H:Q130.f k a0 a1 a2 a3=some r) :
  Spec prog 189 [.slice A1 a0.length c_1,.int .i64 a1,.int .i64 a2,.int .i64 a3] [O32 a0 A1 c_1] [] (fun v l=>v=.tuple #[]/\l=[O32 r A1 c_1]/\r.length=a0.length):=by
 refine Zi Tryz.func189 fun w0 F0 h0=>?_
 unfold Q130.f at H
 refine T9 (Zb [0,2,3,8] ?_)
 refine T1 ?_
 have h22:=(sOR h0 [0] [])
 refine T5 (fun kk env w=>∃ x1 x2,Q130.l0 kk a2 a3 x1 x2=some r/\env=[(0,.slice A1 x1.length c_1),(2,.int .i64 a2),(3,.int .i64 a3),(8,.int .i64 x2)]/\St w0 F0 [O32 x1 A1 c_1] [] w/\x1.length=a0.length) (k:=k) ⟨_,_,H,rfl,h22,(rfl:a0.length=a0.length)⟩ ?_
 rintro k1 env w1 ⟨x1,x2,H,rfl,h1,e1⟩
 rcases k1 with _ | k1
 ·exact z0 H
 rw [Q130.l0] at H
 refine T1 (T9 (Zb [0,2,3,8,9] ?_))
 refine T9 (T9 (Zb [0,2,3,8,9,16] ?_))
 refine jIf H (fun c1 H=>?_) fun c1 H=>?_
 ·refine T4 ?_
  cases H
  exact ⟨_,_,_,Zm,⟨rfl,rfl,e1⟩,sO h1 [0]⟩
 refine Sa (T9 (T9 ?_))
 refine jH h1 fun h2=>?_
 refine Zl [0,1,2,3,4] ?_
 refine Wn 21 H (fun c2 H=>?_) fun c2 H=>?_
 ·refine Zl [5,6,7,8,11,12,13,14,15] ?_
  obtain ⟨⟨p1,p2⟩,H⟩:=Zk H
  have e2:=Z1 h2.wh (gO 0) p1 p2
  refine Zf 9 rfl (Zg e2 p1 p2) ?_
  refine Zf 10 rfl (Zh 0 wI (gO 0) p1 p2) ?_
  obtain ⟨⟨p3,p4⟩,H⟩:=Zk H
  refine Zf 16 rfl (Zg e2 p3 p4) ?_
  refine Zf 17 rfl (Zh 0 wI (gO 0) p3 p4) ?_
  refine cSJ 18 rfl H [] h2 rfl Q36.spec Zo 0 fun r1 w2 H h3=>?_
  refine Zl [19] ?_
  refine Z0 [0,2,3,8,9,36] ?_
  refine jIf H (fun c3 H=>?_) fun c3 H=>?_
  ·refine Zb [0,2,3,8,9] ?_
   refine T9 (T9 ?_)
   refine jH h3 fun h4=>?_
   refine Zl [0,1,2,3,6,7,8,9] ?_
   obtain ⟨⟨p5,p6⟩,H⟩:=Zk H
   refine Zf 4 rfl (Zg e2 p5 p6) ?_
   refine Zf 5 rfl (Zh 0 wI (gO 0) p5 p6) ?_
   obtain ⟨⟨p7,p8⟩,H⟩:=Zk H
   refine Zf 10 rfl (Zg e2 p7 p8) ?_
   refine Zf 11 rfl (Zh 0 wI (gO 0) p7 p8) ?_
   refine cSJ 12 rfl H [] h4 rfl Q36.spec Zo 0 fun r2 w3 H h5=>?_
   refine Zl [13] ?_
   refine Z0 [0,2,3,8,9,52] ?_
   refine jIf H (fun c4 H=>?_) fun c4 H=>?_
   ·cases H
    exact T8 (jR ⟨rfl,rfl,e1⟩ h5 [0])
   refine Sa (T9 (Zx (sO h5 []) ?_))
   have h6:=h5.drew
   refine Zl [0,1,2,3,4,5,6,7,8,9,10,11,14,15,16,17] ?_
   refine Zf 12 rfl (Zg e2 p7 p8) ?_
   refine Zf 18 rfl (Zg e2 p5 p6) ?_
   refine TY (Y3 13 rfl (Zh 0 h6.wht (gO 0) p7 p8) (Y3 19 rfl (Zh 0 h6.wht (gO 0) p5 p6) Vm)) ?_
   refine Zf 20 rfl (Zg e2 p5 p6) ?_
   refine hS 21 rfl (Zp 0 (.int .u32) (w64 (a3+x2)) (gt x1 (w64 (a3+(w64 ((w64 ((w64 (2*x2))+1))+1))))) 0 h6 rfl p5 p6) 1 fun _ w4 h7=>?_
   have e3:(x1.set (w64 (a3+x2)).toNat (gt x1 (w64 (a3+(w64 ((w64 ((w64 (2*x2))+1))+1)))))).length=a0.length:=length_set.trans e1
   refine Zf 22 rfl (Zg e2 p7 p8) ?_
   refine hS 23 rfl (Zp 0 (.int .u32) (w64 (a3+(w64 ((w64 ((w64 (2*x2))+1))+1)))) (gt x1 (w64 (a3+x2))) 0 h7 rfl p7 (by simpa only [length_set] using p8)) 1 fun _ w5 h8=>?_
   have e4:((x1.set (w64 (a3+x2)).toNat (gt x1 (w64 (a3+(w64 ((w64 ((w64 (2*x2))+1))+1)))))).set (w64 (a3+(w64 ((w64 ((w64 (2*x2))+1))+1)))).toNat (gt x1 (w64 (a3+x2)))).length=a0.length:=length_set.trans e3
   refine Z0 [0,2,3,9] ?_
   refine T3 (env':=[(0,.slice A1 ((x1.set (w64 (a3+x2)).toNat (gt x1 (w64 (a3+(w64 ((w64 ((w64 (2*x2))+1))+1)))))).set (w64 (a3+(w64 ((w64 ((w64 (2*x2))+1))+1)))).toNat (gt x1 (w64 (a3+x2)))).length c_1),(2,.int .i64 a2),(3,.int .i64 a3),(9,.int .i64 (w64 ((w64 ((w64 (2*x2))+1))+1)))]) (by simp only [length_set,length_nil] <;> rfl) ?_
   refine Zb [0,2,3,8] ?_
   have h9:=(sOR h8 [0] [])
   exact ⟨k1,by omega,_,_,H,rfl,h9,e4⟩
  refine Sa (T9 (T9 ?_))
  refine jH h3 fun h10=>?_
  refine Zl [0,1,2,3,6,7,8,9] ?_
  obtain ⟨⟨p9,p10⟩,H⟩:=Zk H
  refine Zf 4 rfl (Zg e2 p9 p10) ?_
  refine Zf 5 rfl (Zh 0 wI (gO 0) p9 p10) ?_
  refine Zf 10 rfl (Zg e2 p1 p2) ?_
  refine Zf 11 rfl (Zh 0 wI (gO 0) p1 p2) ?_
  refine cSJ 12 rfl H [] h10 rfl Q36.spec Zo 0 fun r3 w6 H h11=>?_
  refine Zl [13] ?_
  refine Z0 [0,2,3,8,9,52] ?_
  refine jIf H (fun c5 H=>?_) fun c5 H=>?_
  ·cases H
   exact T8 (jR ⟨rfl,rfl,e1⟩ h11 [0])
  refine Sa (T9 (Zx (sO h11 []) ?_))
  have h12:=h11.drew
  refine Zl [0,1,2,3,4,5,6,7,8,9,10,11,14,15,16,17] ?_
  refine Zf 12 rfl (Zg e2 p1 p2) ?_
  refine Zf 18 rfl (Zg e2 p9 p10) ?_
  refine TY (Y3 13 rfl (Zh 0 h12.wht (gO 0) p1 p2) (Y3 19 rfl (Zh 0 h12.wht (gO 0) p9 p10) Vm)) ?_
  refine Zf 20 rfl (Zg e2 p9 p10) ?_
  refine hS 21 rfl (Zp 0 (.int .u32) (w64 (a3+x2)) (gt x1 (w64 (a3+(w64 ((w64 (2*x2))+1))))) 0 h12 rfl p9 p10) 1 fun _ w7 h13=>?_
  have e5:(x1.set (w64 (a3+x2)).toNat (gt x1 (w64 (a3+(w64 ((w64 (2*x2))+1)))))).length=a0.length:=length_set.trans e1
  refine Zf 22 rfl (Zg e2 p1 p2) ?_
  refine hS 23 rfl (Zp 0 (.int .u32) (w64 (a3+(w64 ((w64 (2*x2))+1)))) (gt x1 (w64 (a3+x2))) 0 h13 rfl p1 (by simpa only [length_set] using p2)) 1 fun _ w8 h14=>?_
  have e6:((x1.set (w64 (a3+x2)).toNat (gt x1 (w64 (a3+(w64 ((w64 (2*x2))+1)))))).set (w64 (a3+(w64 ((w64 (2*x2))+1)))).toNat (gt x1 (w64 (a3+x2)))).length=a0.length:=length_set.trans e5
  refine Z0 [0,2,3,9] ?_
  refine T3 (env':=[(0,.slice A1 ((x1.set (w64 (a3+x2)).toNat (gt x1 (w64 (a3+(w64 ((w64 (2*x2))+1)))))).set (w64 (a3+(w64 ((w64 (2*x2))+1)))).toNat (gt x1 (w64 (a3+x2)))).length c_1),(2,.int .i64 a2),(3,.int .i64 a3),(9,.int .i64 (w64 ((w64 (2*x2))+1)))]) (by simp only [length_set,length_nil] <;> rfl) ?_
  refine Zb [0,2,3,8] ?_
  have h15:=(sOR h14 [0] [])
  exact ⟨k1,by omega,_,_,H,rfl,h15,e6⟩
 refine Zl [5,6,7,8,9,10,11,12,13,14,15,16,17,18,19] ?_
 refine Z0 [0,2,3,8,9,36] ?_
 refine Z4 ?_
 refine Sa (T9 (T9 ?_))
 refine jH h2 fun h16=>?_
 refine Zl [0,1,2,3,6,7,8,9] ?_
 obtain ⟨⟨p11,p12⟩,H⟩:=Zk H
 have e7:=Z1 h16.wh (gO 0) p11 p12
 refine Zf 4 rfl (Zg e7 p11 p12) ?_
 refine Zf 5 rfl (Zh 0 wI (gO 0) p11 p12) ?_
 obtain ⟨⟨p13,p14⟩,H⟩:=Zk H
 refine Zf 10 rfl (Zg e7 p13 p14) ?_
 refine Zf 11 rfl (Zh 0 wI (gO 0) p13 p14) ?_
 refine cSJ 12 rfl H [] h16 rfl Q36.spec Zo 0 fun r4 w9 H h17=>?_
 refine Zl [13] ?_
 refine Z0 [0,2,3,8,9,52] ?_
 refine jIf H (fun c6 H=>?_) fun c6 H=>?_
 ·cases H
  exact T8 (jR ⟨rfl,rfl,e1⟩ h17 [0])
 refine Sa (T9 (Zx (sO h17 []) ?_))
 have h18:=h17.drew
 refine Zl [0,1,2,3,4,5,6,7,8,9,10,11,14,15,16,17] ?_
 refine Zf 12 rfl (Zg e7 p13 p14) ?_
 refine Zf 18 rfl (Zg e7 p11 p12) ?_
 refine TY (Y3 13 rfl (Zh 0 h18.wht (gO 0) p13 p14) (Y3 19 rfl (Zh 0 h18.wht (gO 0) p11 p12) Vm)) ?_
 refine Zf 20 rfl (Zg e7 p11 p12) ?_
 refine hS 21 rfl (Zp 0 (.int .u32) (w64 (a3+x2)) (gt x1 (w64 (a3+(w64 ((w64 (2*x2))+1))))) 0 h18 rfl p11 p12) 1 fun _ w10 h19=>?_
 have e8:(x1.set (w64 (a3+x2)).toNat (gt x1 (w64 (a3+(w64 ((w64 (2*x2))+1)))))).length=a0.length:=length_set.trans e1
 refine Zf 22 rfl (Zg e7 p13 p14) ?_
 refine hS 23 rfl (Zp 0 (.int .u32) (w64 (a3+(w64 ((w64 (2*x2))+1)))) (gt x1 (w64 (a3+x2))) 0 h19 rfl p13 (by simpa only [length_set] using p14)) 1 fun _ w11 h20=>?_
 have e9:((x1.set (w64 (a3+x2)).toNat (gt x1 (w64 (a3+(w64 ((w64 (2*x2))+1)))))).set (w64 (a3+(w64 ((w64 (2*x2))+1)))).toNat (gt x1 (w64 (a3+x2)))).length=a0.length:=length_set.trans e8
 refine Z0 [0,2,3,9] ?_
 refine T3 (env':=[(0,.slice A1 ((x1.set (w64 (a3+x2)).toNat (gt x1 (w64 (a3+(w64 ((w64 (2*x2))+1)))))).set (w64 (a3+(w64 ((w64 (2*x2))+1)))).toNat (gt x1 (w64 (a3+x2)))).length c_1),(2,.int .i64 a2),(3,.int .i64 a3),(9,.int .i64 (w64 ((w64 (2*x2))+1)))]) (by simp only [length_set,length_nil] <;> rfl) ?_
 refine Zb [0,2,3,8] ?_
 have h21:=(sOR h20 [0] [])
 exact ⟨k1,by omega,_,_,H,rfl,h21,e9⟩

def Q119.l1:Nat->(Int)->TX->(Int)->Option TX
 | 0,_,_,_=>none
 | k+1,a1,x3,x4=>if (decide (0<=x4))=true then (if 0<=(w64 (a1+x4))/\(w64 (a1+x4))<(x3.length:Int) then (if 0<=a1/\a1<(x3.length:Int) then ((Q130.f k ((x3.set a1.toNat (gt x3 (w64 (a1+x4)))).set (w64 (a1+x4)).toNat (gt x3 a1)) 0 x4 a1).bind fun r2=>(Q119.l1 k a1 r2 (w64 (x4 - 1)))) else none) else none) else (some x3)
def Q119.l0:Nat->(Int)->(Int)->TX->(Int)->Option TX
 | 0,_,_,_,_=>none
 | k+1,a1,a2,x1,x2=>if (decide (0<=x2))=true then ((Q130.f k x1 x2 (w64 (a2 - a1)) a1).bind fun r1=>(Q119.l0 k a1 a2 r1 (w64 (x2 - 1)))) else (Q119.l1 k a1 x1 (w64 ((w64 (a2 - a1)) - 1)))
def Q119.f (k:Nat) (a0:TX) (a1:Int) (a2:Int):Option TX:=Q119.l0 k a1 a2 a0 (w64 (Int.tdiv (w64 ((w64 (a2 - a1)) - 1)) 2))
theorem Q119.spec {k a0 a1 a2 A1 c_1 r} (H:Q119.f k a0 a1 a2=some r) :
  Spec prog 179 [.slice A1 a0.length c_1,.int .i64 a1,.int .i64 a2] [O32 a0 A1 c_1] [] (fun v l=>v=.tuple #[]/\l=[O32 r A1 c_1]/\r.length=a0.length):=by
 refine Zi Tryz.func179 fun w0 F0 h0=>?_
 unfold Q119.f at H
 refine T9 (Zb [0,1,2,6] ?_)
 refine T9 (Zb [0,1,2,6,7] ?_)
 refine T9 (Zb [0,6,7,8] ?_)
 refine T9 (T9 (Zb [0,6,7,8,9] ?_))
 refine T1 ?_
 have h11:=(sOR h0 [0] [])
 refine T5 (fun kk env w=>∃ x1 x2,Q119.l0 kk a1 a2 x1 x2=some r/\env=[(0,.slice A1 x1.length c_1),(6,.int .i64 a1),(7,.int .i64 0),(8,.int .i64 (w64 (a2 - a1))),(9,.int .i64 x2)]/\St w0 F0 [O32 x1 A1 c_1] [] w/\x1.length=a0.length) (k:=k) ⟨_,_,H,rfl,h11,(rfl:a0.length=a0.length)⟩ ?_
 rintro k1 env w1 ⟨x1,x2,H,rfl,h1,e1⟩
 rcases k1 with _ | k1
 ·exact z0 H
 rw [Q119.l0] at H
 refine T9 (T9 (Zb [0,6,7,8,9,19] ?_))
 refine jIf H (fun c1 H=>?_) fun c1 H=>?_
 ·refine Sa (T9 (T1 (T7 ?_)))
  refine Zd 4 ?_
  refine cE H [0] h1 rfl Q130.spec Zo ?_
  rintro r1 w2 _ _ H ⟨rfl,rfl,q2⟩ h2
  replace h2:=nf h2
  have e2:r1.length=a0.length:=q2.trans e1
  refine Ze [0,6,7,8,9] rfl ?_
  refine T3 (env':=[(0,.slice A1 r1.length c_1),(6,.int .i64 a1),(7,.int .i64 0),(8,.int .i64 (w64 (a2 - a1))),(9,.int .i64 x2)]) (by simp only [q2,length_nil] <;> rfl) ?_
  refine Zb [0,6,7,8,9] ?_
  have h3:=(sOR h2 [0] [])
  exact ⟨k1,by omega,_,_,H,rfl,h3,e2⟩
 refine T4 (T9 (Zb [0,6,7,10] ?_))
 refine T1 ?_
 have h10:=(sOR h1 [0] [])
 refine T5 (fun kk env w=>∃ x3 x4,Q119.l1 kk a1 x3 x4=some r/\env=[(0,.slice A1 x3.length c_1),(6,.int .i64 a1),(7,.int .i64 0),(10,.int .i64 x4)]/\St w0 F0 [O32 x3 A1 c_1] [] w/\x3.length=a0.length) (k:=k1) ⟨_,_,H,rfl,h10,e1⟩ ?_
 rintro k2 env w3 ⟨x3,x4,H,rfl,h4,e3⟩
 rcases k2 with _ | k2
 ·exact z0 H
 rw [Q119.l1] at H
 refine T9 (T9 (Zb [0,6,7,10,30] ?_))
 refine jIf H (fun c2 H=>?_) fun c2 H=>?_
 ·refine Sa (T9 (T1 (T9 ?_)))
  refine Zx (sO h4 []) ?_
  have h5:=h4.drew
  refine Zl [0,1,2,3,4,5,6,7,8,9,12,13] ?_
  obtain ⟨⟨p1,p2⟩,H⟩:=Zk H
  have e4:=Z1 h5.wh (gO 0) p1 p2
  refine Zf 10 rfl (Zg e4 p1 p2) ?_
  obtain ⟨⟨p3,p4⟩,H⟩:=Zk H
  refine Zf 14 rfl (Zg e4 p3 p4) ?_
  refine TY (Y3 11 rfl (Zh 0 h5.wht (gO 0) p1 p2) (Y3 15 rfl (Zh 0 h5.wht (gO 0) p3 p4) Vm)) ?_
  refine Zf 16 rfl (Zg e4 p3 p4) ?_
  refine hS 17 rfl (Zp 0 (.int .u32) a1 (gt x3 (w64 (a1+x4))) 0 h5 rfl p3 p4) 1 fun _ w4 h6=>?_
  have e5:(x3.set a1.toNat (gt x3 (w64 (a1+x4)))).length=a0.length:=length_set.trans e3
  refine Zf 18 rfl (Zg e4 p1 p2) ?_
  refine hS 19 rfl (Zp 0 (.int .u32) (w64 (a1+x4)) (gt x3 a1) 0 h6 rfl p1 (by simpa only [length_set] using p2)) 1 fun _ w5 h7=>?_
  have e6:((x3.set a1.toNat (gt x3 (w64 (a1+x4)))).set (w64 (a1+x4)).toNat (gt x3 a1)).length=a0.length:=length_set.trans e5
  refine Z0 [0,6,7,10] ?_
  refine T3 (env':=[(0,.slice A1 ((x3.set a1.toNat (gt x3 (w64 (a1+x4)))).set (w64 (a1+x4)).toNat (gt x3 a1)).length c_1),(6,.int .i64 a1),(7,.int .i64 0),(10,.int .i64 x4)]) (by simp only [length_set,length_nil] <;> rfl) ?_
  refine T7 (Zd 4 ?_)
  refine cE H [0] h7 rfl Q130.spec Zo ?_
  rintro r2 w6 _ _ H ⟨rfl,rfl,q4⟩ h8
  replace h8:=nf h8
  have e7:r2.length=a0.length:=q4.trans e6
  refine Ze [0,6,7,10] rfl ?_
  refine T3 (env':=[(0,.slice A1 r2.length c_1),(6,.int .i64 a1),(7,.int .i64 0),(10,.int .i64 x4)]) (by simp only [q4,length_nil] <;> rfl) ?_
  refine Zb [0,6,7,10] ?_
  have h9:=(sOR h8 [0] [])
  exact ⟨k2,by omega,_,_,H,rfl,h9,e7⟩
 refine T4 ?_
 cases H
 exact ⟨_,_,_,Zm,⟨rfl,rfl,e3⟩,sO h4 [0]⟩

def Q124.f (a0:TX) (a1:Int) (a2:Int) (a3:Int):Option (Int×Int×Int):=if 0<=a2/\a2<(a0.length:Int) then (if 0<=a1/\a1<(a0.length:Int) then ((Q36.f (gt a0 a2) (gt a0 a1)).bind fun r1=>(if r1=true then (some (a2,a1,(w64 (a3+1)))) else (some (a1,a2,a3)))) else none) else none
theorem Q124.spec {a0 a1 a2 a3 A1 c_1 b1 r} (H:Q124.f a0 a1 a2 a3=some r) :
  Spec prog 195 [.slice A1 a0.length c_1,.int .i64 a1,.int .i64 a2,.pointer (some ⟨b1,0,none⟩)] [X3 b1 a3] [R32 a0 A1 c_1] (fun v l=>v=.tuple #[.int .i64 r.1,.int .i64 r.2.1]/\l=[X3 b1 r.2.2]):=by
 refine Zi Tryz.func195 fun w0 F0 h0=>?_
 unfold Q124.f at H
 refine T9 (Zb [0,1,2,3] ?_)
 refine T9 (T9 ?_)
 refine jH h0 fun h1=>?_
 refine Zl [0,1,4,5] ?_
 obtain ⟨⟨p1,p2⟩,H⟩:=Zk H
 have e1:=Z1 h1.wh (Zj 1) p1 p2
 refine Zf 2 rfl (Zg e1 p1 p2) ?_
 refine Zf 3 rfl (Zh 0 wI (Zj 1) p1 p2) ?_
 obtain ⟨⟨p3,p4⟩,H⟩:=Zk H
 refine Zf 6 rfl (Zg e1 p3 p4) ?_
 refine Zf 7 rfl (Zh 0 wI (Zj 1) p3 p4) ?_
 refine cSJ 8 rfl H [] h1 rfl Q36.spec Zo 0 fun r1 w1 H h2=>?_
 refine Z0 [1,2,3,18] ?_
 refine jIf H (fun c1 H=>?_) fun c1 H=>?_
 ·refine T9 (T7 ?_)
  refine Zd 2 ?_
  refine Zc (Za 0 h2.wht) ?_
  refine Zd 2 ?_
  refine rS (Zv 0 h2) fun _ w2 h3=>?_
  refine Ze [1,2] rfl ?_
  refine T9 (Zb [8,9] ?_)
  cases H
  exact T8 (jR0 h3 [0])
 refine Sa (T9 (Zb [8,9] ?_))
 cases H
 exact T8 (jR0 h2 [0])

def Q122.f (a0:TX) (a1:Int) (a2:Int) (a3:Int) (a4:Int):Option TW:=(Q124.f a0 a1 a2 a4).bind fun r1=>((Q124.f a0 r1.2.1 a3 r1.2.2).bind fun r2=>((Q124.f a0 r1.1 r2.1 r2.2.2).bind fun r3=>(some r3.2)))
theorem Q122.spec {a0 a1 a2 a3 a4 A1 c_1 b1 r} (H:Q122.f a0 a1 a2 a3 a4=some r) :
  Spec prog 193 [.slice A1 a0.length c_1,.int .i64 a1,.int .i64 a2,.int .i64 a3,.pointer (some ⟨b1,0,none⟩)] [X3 b1 a4] [R32 a0 A1 c_1] (fun v l=>v=.int .i64 r.1/\l=[X3 b1 r.2]):=by
 refine Zi Tryz.func193 fun w0 F0 h0=>?_
 unfold Q122.f at H
 refine T9 (Zb [0,1,2,3,4] ?_)
 refine T9 (T7 ?_)
 refine Zd 4 ?_
 refine cS H [0] h0 rfl Q124.spec (gS [0]) fun r1 w1 H h1=>?_
 refine Ze [0,1,2,3,4] rfl ?_
 refine T9 (T7 ?_)
 refine Zd 4 ?_
 refine cS H [0] h1 rfl Q124.spec (gS [0]) fun r2 w2 H h2=>?_
 refine Ze [0,1,2,4] rfl ?_
 refine T9 (T7 ?_)
 refine Zd 4 ?_
 refine cS H [0] h2 rfl Q124.spec (gS [0]) fun r3 w3 H h3=>?_
 refine Ze [2] rfl ?_
 refine T9 (Zb [10] ?_)
 cases H
 exact T8 (jR0 h3 [0])

def Q121.f (a0:TX) (a1:Int) (a2:Int):Option TW:=(Q122.f a0 (w64 (a1 - 1)) a1 (w64 (a1+1)) a2).bind fun r1=>(some r1)
theorem Q121.spec {a0 a1 a2 A1 c_1 b1 r} (H:Q121.f a0 a1 a2=some r) :
  Spec prog 192 [.slice A1 a0.length c_1,.int .i64 a1,.pointer (some ⟨b1,0,none⟩)] [X3 b1 a2] [R32 a0 A1 c_1] (fun v l=>v=.int .i64 r.1/\l=[X3 b1 r.2]):=by
 refine Zi Tryz.func192 fun w0 F0 h0=>?_
 unfold Q121.f at H
 refine T9 (Zb [0,1,2] ?_)
 refine T9 (T7 ?_)
 refine Zd 7 ?_
 refine cS H [0] h0 rfl Q122.spec (gS [0]) fun r1 w1 H h1=>?_
 refine Ze [6] rfl ?_
 cases H
 exact T8 (jR0 h1 [0])

end Go.SK.T
