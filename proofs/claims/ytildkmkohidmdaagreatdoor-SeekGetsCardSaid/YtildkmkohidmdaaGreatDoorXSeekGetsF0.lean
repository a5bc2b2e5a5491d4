/- The types of the program, and its functions as the code computes them, each proved. -/
import Derived.Test.YtildkmkohidmdaaGreatDoorXSeekGetsKF
import Derived.Test.YtildkmkohidmdaaGreatDoorProg
import Derived.Shelf.Spec.TrailingZeros
set_option linter.unusedVariables false
set_option linter.unusedSimpArgs false
set_option maxRecDepth 20000
set_option maxHeartbeats 40000000
namespace Go.SK.T
open Go Go.SK Go.Proofs
abbrev TV:=List Int
abbrev TU:=Int×Int
abbrev TS:=Int×Bool
abbrev TR:=List Value
abbrev TQ:=List UInt8
abbrev TP:=Int×List Int
abbrev TO:=List Int×Int
abbrev TN:=Bool×List Int
abbrev TM:=List UInt8×Int
abbrev TL:=List TU
abbrev TJ:=List UInt8×Bool
abbrev TH:=List TQ
abbrev TG:=Int×Int×List Int
abbrev TF:=Int×Bool×List Int
abbrev TE:=TG
abbrev TD:=List (Int×Int×Bool)
abbrev TC:=List UInt8×List UInt8
abbrev TB:=Int×List Int×TU
abbrev TA:=List UInt8×List UInt8×Bool
abbrev Tz:=List UInt8×Bool×List UInt8
abbrev Tx:=TD×Int
abbrev Tw:=List TC
abbrev Tv:=Tw
abbrev Tu:=List (Int×List Int×Bool×Int)
abbrev Tt:=List Tz
abbrev Ts:=Int×Tx
abbrev Tr:=TA×Bool
abbrev Tq:=List Int×Int×TE
abbrev Tp:=Tt
abbrev Tn:=Int×Int×Int×Int×Int×Int×Int×Int
abbrev Tm:=Tw×Tt×List Int×List Int
abbrev Tl:=Int×List Int×List TQ×Tt×Tw
abbrev Tk:=List Tl
abbrev Tj:=List Tk
abbrev Ti:=Tj
abbrev Th:=Tl×TO
abbrev Tg:=TB×Tu×TL×List Int×Tx
abbrev Tf:=Int×Tg
abbrev Te:=Tn×Tg×TE×Int
abbrev Td:=Int×Bool×Te
abbrev Tc:=Int×Te×TA
abbrev Tb:=Int×Te×Tk
abbrev Ta:=Option Te×Int×Tj×Bool
abbrev TW:=@HJ.loads
abbrev TX:=@HJ.pick
abbrev TY:=@J.block
abbrev TZ:=@J.cond
abbrev T0:=@J.envEq
abbrev T1:=@J.exit
abbrev T2:=@J.loop
abbrev T3:=@J.midS
abbrev T4:=@J.region
abbrev T5:=@J.ret
abbrev T6:=@J.seq
abbrev T7:=@J.skip
abbrev T8:=@Nat.le_refl
abbrev T9:=@OpT.ofq
abbrev Sa:=@OptC.no
abbrev Sb:=@OptC.yes
abbrev Sc:=@RV.cell
abbrev Sd:=@RV.tmp
def tt:TT:=[(1,⟨.func,1,8,.nilFunc⟩),
 (2,⟨.int .i64,1,8,.int .i64 0⟩),
 (3,⟨.int .i64,1,8,.int .i64 0⟩),
 (4,⟨.bool,1,1,.bool false⟩),
 (5,⟨.int .u8,1,1,.int .u8 0⟩),
 (6,⟨.int .u8,1,1,.int .u8 0⟩),
 (9,⟨.str,1,16,.string ⟨⟨[]⟩⟩⟩),
 (23,⟨.struct [(3,0,1),(3,1,1),(3,2,1),(3,3,1),(3,4,1),(3,5,1),(3,6,1),(3,7,1)],8,64,.agg #[.int .i64 0,.int .i64 0,.int .i64 0,.int .i64 0,.int .i64 0,.int .i64 0,.int .i64 0,.int .i64 0]⟩),
 (24,⟨.slice 104,1,24,.slice none 0 0⟩),
 (25,⟨.slice 106,1,24,.slice none 0 0⟩),
 (26,⟨.slice 5,1,24,.slice none 0 0⟩),
 (28,⟨.struct [(24,0,1),(25,1,1),(26,2,1),(26,3,1)],4,96,.agg #[.slice none 0 0,.slice none 0 0,.slice none 0 0,.slice none 0 0]⟩),
 (29,⟨.ptr 120,1,8,.pointer none⟩),
 (30,⟨.int .u32,1,4,.int .u32 0⟩),
 (31,⟨.slice 47,1,24,.slice none 0 0⟩),
 (37,⟨.int .i64,1,8,.int .i64 0⟩),
 (39,⟨.slice 30,1,24,.slice none 0 0⟩),
 (40,⟨.slice 9,1,24,.slice none 0 0⟩),
 (42,⟨.struct [(3,0,1),(39,1,1),(40,2,1),(25,3,1),(24,4,1)],5,104,.agg #[.int .i64 0,.slice none 0 0,.slice none 0 0,.slice none 0 0,.slice none 0 0]⟩),
 (44,⟨.struct [(9,0,1),(9,1,1),(4,2,1)],3,40,.agg #[.string ⟨⟨[]⟩⟩,.string ⟨⟨[]⟩⟩,.bool false]⟩),
 (47,⟨.slice 42,1,24,.slice none 0 0⟩),
 (68,⟨.ptr 189,1,8,.pointer none⟩),
 (71,⟨.func,1,8,.nilFunc⟩),
 (78,⟨.func,1,8,.nilFunc⟩),
 (98,⟨.int .u64,1,8,.int .u64 0⟩),
 (100,⟨.struct [(98,0,1),(98,1,1)],2,16,.agg #[.int .u64 0,.int .u64 0]⟩),
 (104,⟨.struct [(9,0,1),(9,1,1)],2,32,.agg #[.string ⟨⟨[]⟩⟩,.string ⟨⟨[]⟩⟩]⟩),
 (106,⟨.struct [(9,0,1),(4,1,1),(9,2,1)],3,40,.agg #[.string ⟨⟨[]⟩⟩,.bool false,.string ⟨⟨[]⟩⟩]⟩),
 (117,⟨.ptr 164,1,8,.pointer none⟩),
 (118,⟨.ptr 156,1,8,.pointer none⟩),
 (120,⟨.struct [(23,0,8),(68,8,1),(117,9,1),(118,10,1),(30,11,1)],12,96,.agg #[.int .i64 0,.int .i64 0,.int .i64 0,.int .i64 0,.int .i64 0,.int .i64 0,.int .i64 0,.int .i64 0,.pointer none,.pointer none,.pointer none,.int .u32 0]⟩),
 (134,⟨.func,1,8,.nilFunc⟩),
 (139,⟨.func,1,8,.nilFunc⟩),
 (154,⟨.ptr 215,1,8,.pointer none⟩),
 (156,⟨.struct [(154,0,1)],1,8,.agg #[.pointer none]⟩),
 (159,⟨.slice 166,1,24,.slice none 0 0⟩),
 (160,⟨.map 30 3,1,8,.map none⟩),
 (161,⟨.slice 3,1,24,.slice none 0 0⟩),
 (162,⟨.ptr 220,1,8,.pointer none⟩),
 (164,⟨.struct [(68,0,1),(159,1,1),(160,2,1),(161,3,1),(162,4,1)],5,72,.agg #[.pointer none,.slice none 0 0,.map none,.slice none 0 0,.pointer none]⟩),
 (166,⟨.struct [(30,0,1),(26,1,1),(4,2,1),(3,3,1)],4,48,.agg #[.int .u32 0,.slice none 0 0,.bool false,.int .i64 0]⟩),
 (170,⟨.ptr 166,1,8,.pointer none⟩),
 (174,⟨.ptr 224,1,8,.pointer none⟩),
 (181,⟨.func,1,8,.nilFunc⟩),
 (184,⟨.int .u64,1,8,.int .u64 0⟩),
 (189,⟨.struct [(3,0,1),(26,1,1),(100,2,2)],4,48,.agg #[.int .i64 0,.slice none 0 0,.int .u64 0,.int .u64 0]⟩),
 (200,⟨.func,1,8,.nilFunc⟩),
 (204,⟨.func,1,8,.nilFunc⟩),
 (210,⟨.func,1,8,.nilFunc⟩),
 (213,⟨.slice 98,1,24,.slice none 0 0⟩),
 (215,⟨.struct [(3,0,1),(3,1,1),(213,2,1)],3,40,.agg #[.int .i64 0,.int .i64 0,.slice none 0 0]⟩),
 (217,⟨.struct [(3,0,1),(3,1,1),(4,2,1)],3,24,.agg #[.int .i64 0,.int .i64 0,.bool false]⟩),
 (218,⟨.slice 217,1,24,.slice none 0 0⟩),
 (220,⟨.struct [(218,0,1),(3,1,1)],2,32,.agg #[.slice none 0 0,.int .i64 0]⟩),
 (224,⟨.struct [(26,0,1),(37,1,1)],2,32,.agg #[.slice none 0 0,.int .i64 0]⟩),
 (227,⟨.func,1,8,.nilFunc⟩),
 (237,⟨.int .i64,1,8,.int .i64 0⟩),
 (252,⟨.func,1,8,.nilFunc⟩),
 (258,⟨.func,1,8,.nilFunc⟩),
 (261,⟨.func,1,8,.nilFunc⟩),
 (263,⟨.func,1,8,.nilFunc⟩),
 (265,⟨.int .u64,1,8,.int .u64 0⟩),
 (269,⟨.ptr 3,1,8,.pointer none⟩),
 (274,⟨.ptr 265,1,8,.pointer none⟩)]
theorem Ys:Yv Tryz.prog tt:=by
 refine ttC ⟨_,_,_,Tryz.underlying1⟩ ?_
 refine ttC Tryz.underlying2 ?_
 refine ttC Tryz.underlying3 ?_
 refine ttC Tryz.underlying4 ?_
 refine ttC Tryz.underlying5 ?_
 refine ttC Tryz.underlying6 ?_
 refine ttC Tryz.underlying9 ?_
 refine ttS Tryz.underlying23 ?_
 refine ttC Tryz.underlying24 ?_
 refine ttC Tryz.underlying25 ?_
 refine ttC Tryz.underlying26 ?_
 refine ttS Tryz.underlying28 ?_
 refine ttC Tryz.underlying29 ?_
 refine ttC Tryz.underlying30 ?_
 refine ttC Tryz.underlying31 ?_
 refine ttC Tryz.underlying37 ?_
 refine ttC Tryz.underlying39 ?_
 refine ttC Tryz.underlying40 ?_
 refine ttS Tryz.underlying42 ?_
 refine ttS Tryz.underlying44 ?_
 refine ttC Tryz.underlying47 ?_
 refine ttC Tryz.underlying68 ?_
 refine ttC ⟨_,_,_,Tryz.underlying71⟩ ?_
 refine ttC ⟨_,_,_,Tryz.underlying78⟩ ?_
 refine ttC Tryz.underlying98 ?_
 refine ttS Tryz.underlying100 ?_
 refine ttS Tryz.underlying104 ?_
 refine ttS Tryz.underlying106 ?_
 refine ttC Tryz.underlying117 ?_
 refine ttC Tryz.underlying118 ?_
 refine ttS Tryz.underlying120 ?_
 refine ttC ⟨_,_,_,Tryz.underlying134⟩ ?_
 refine ttC ⟨_,_,_,Tryz.underlying139⟩ ?_
 refine ttC Tryz.underlying154 ?_
 refine ttS Tryz.underlying156 ?_
 refine ttC Tryz.underlying159 ?_
 refine ttC Tryz.underlying160 ?_
 refine ttC Tryz.underlying161 ?_
 refine ttC Tryz.underlying162 ?_
 refine ttS Tryz.underlying164 ?_
 refine ttS Tryz.underlying166 ?_
 refine ttC Tryz.underlying170 ?_
 refine ttC Tryz.underlying174 ?_
 refine ttC ⟨_,_,_,Tryz.underlying181⟩ ?_
 refine ttC Tryz.underlying184 ?_
 refine ttS Tryz.underlying189 ?_
 refine ttC ⟨_,_,_,Tryz.underlying200⟩ ?_
 refine ttC ⟨_,_,_,Tryz.underlying204⟩ ?_
 refine ttC ⟨_,_,_,Tryz.underlying210⟩ ?_
 refine ttC Tryz.underlying213 ?_
 refine ttS Tryz.underlying215 ?_
 refine ttS Tryz.underlying217 ?_
 refine ttC Tryz.underlying218 ?_
 refine ttS Tryz.underlying220 ?_
 refine ttS Tryz.underlying224 ?_
 refine ttC ⟨_,_,_,Tryz.underlying227⟩ ?_
 refine ttC Tryz.underlying237 ?_
 refine ttC ⟨_,_,_,Tryz.underlying252⟩ ?_
 refine ttC ⟨_,_,_,Tryz.underlying258⟩ ?_
 refine ttC ⟨_,_,_,Tryz.underlying261⟩ ?_
 refine ttC ⟨_,_,_,Tryz.underlying263⟩ ?_
 refine ttC Tryz.underlying265 ?_
 refine ttC Tryz.underlying269 ?_
 refine ttC Tryz.underlying274 ?_
 exact Zn8 _
theorem mix:Tryz.prog.follows .mixedOrders=true:=by kernel_rfl
instance:TTI Tryz.prog tt:=⟨Ys,mix⟩
abbrev X23 (b:Nat) (p0:Int) (p1:Int) (p2:Int) (p3:Int) (p4:Int) (p5:Int) (p6:Int) (p7:Int):Ch:=Xa b 23 [.int .i64 p0,.int .i64 p1,.int .i64 p2,.int .i64 p3,.int .i64 p4,.int .i64 p5,.int .i64 p6,.int .i64 p7]
abbrev X28 (b:Nat) (p0:Tw) (A0:Option Addr) (c0:Nat) (p1:Tt) (A1:Option Addr) (c1:Nat) (p2:TV) (A2:Option Addr) (c2:Nat) (p3:TV) (A3:Option Addr) (c3:Nat):Ch:=Xa b 28 [.slice A0 p0.length c0,.slice A1 p1.length c1,.slice A2 p2.length c2,.slice A3 p3.length c3]
abbrev Yl (x:Tw) (A:Option Addr) (c:Nat):Ch:=rdC 104 (.pair .str .str) x (.slice A x.length c)
abbrev Yp (x:Tt) (A:Option Addr) (c:Nat):Ch:=rdC 106 (.pair .str (.pair .bool .str)) x (.slice A x.length c)
abbrev R5 (x:TV) (A:Option Addr) (c:Nat):Ch:=rdC 5 (.int .u8) x (.slice A x.length c)
abbrev O5 (x:TV) (A:Option Addr) (c:Nat):Ch:=Yj 5 (.int .u8) x (.slice A x.length c)
abbrev X0 (b:Nat) (p0:Int) (p1:TV) (A1:Option Addr) (c1:Nat) (p2:Int) (p3:Int):Ch:=Xa b 189 [.int .i64 p0,.slice A1 p1.length c1,.int .u64 p2,.int .u64 p3]
abbrev Za6 (x:TB) (b1:Nat) (A1:Option Addr) (c1:Nat):List Ch:=[X0 b1 x.1 x.2.1 A1 c1 x.2.2.1 x.2.2.2,O5 x.2.1 A1 c1]
abbrev Y7 (x:TD) (A:Option Addr) (c:Nat):Ch:=Yj 217 (.pair (.int .i64) (.pair (.int .i64) .bool)) x (.slice A x.length c)
abbrev Y8 (b:Nat) (p0:TD) (A0:Option Addr) (c0:Nat) (p1:Int):Ch:=Xa b 220 [.slice A0 p0.length c0,.int .i64 p1]
abbrev Wb (x:Tu) (A:Option Addr) (c:Nat):Ch:=Yj 166 (.pair (.int .u32) (.pair (.slice 5 (.int .u8)) (.pair .bool (.int .i64)))) x (.slice A x.length c)
abbrev Wc (b:Nat) (p0:Value) (p1:Tu) (A1:Option Addr) (c1:Nat) (p2:Value) (p3:TV) (A3:Option Addr) (c3:Nat) (p4:Value):Ch:=Xa b 164 [p0,.slice A1 p1.length c1,p2,.slice A3 p3.length c3,p4]
abbrev O3 (x:TV) (A:Option Addr) (c:Nat):Ch:=Yj 3 (.int .i64) x (.slice A x.length c)
abbrev O98 (x:TV) (A:Option Addr) (c:Nat):Ch:=Yj 98 (.int .u64) x (.slice A x.length c)
abbrev Wo (b:Nat) (p0:Int) (p1:Int) (p2:TV) (A2:Option Addr) (c2:Nat):Ch:=Xa b 215 [.int .i64 p0,.int .i64 p1,.slice A2 p2.length c2]
abbrev Va (x:TG) (b1:Nat) (A1:Option Addr) (c1:Nat):List Ch:=[Wo b1 x.1 x.2.1 x.2.2 A1 c1,O98 x.2.2 A1 c1]
abbrev Jv (b:Nat) (p0:Value):Ch:=Xa b 156 [p0]
abbrev Zaf (b:Nat) (p0:Int) (p1:Int) (p2:Int) (p3:Int) (p4:Int) (p5:Int) (p6:Int) (p7:Int) (p8:Value) (p9:Value) (p10:Value) (p11:Int):Ch:=Xa b 120 [.int .i64 p0,.int .i64 p1,.int .i64 p2,.int .i64 p3,.int .i64 p4,.int .i64 p5,.int .i64 p6,.int .i64 p7,p8,p9,p10,.int .u32 p11]
abbrev Vn (x:Tw) (A:Option Addr) (c:Nat):Ch:=Yj 104 (.pair .str .str) x (.slice A x.length c)
abbrev M42 (x:Tk) (A:Option Addr) (c:Nat) (l:TR):Ch:=Xu 42 5 x.length l (.slice A x.length c)
abbrev O9 (x:TH) (A:Option Addr) (c:Nat):Ch:=Yj 9 .str x (.slice A x.length c)
abbrev E42 (x:Tk) (l:TR):Ch:=esC (.pair (.int .i64) (.pair (.slice 30 (.int .u32)) (.pair (.slice 9 .str) (.pair (.slice 106 (.pair .str (.pair .bool .str))) (.slice 104 (.pair .str .str)))))) x l
abbrev R42 (x:Tk) (A:Option Addr) (c:Nat):Ch:=rdC 42 (.pair (.int .i64) (.pair (.slice 30 (.int .u32)) (.pair (.slice 9 .str) (.pair (.slice 106 (.pair .str (.pair .bool .str))) (.slice 104 (.pair .str .str)))))) x (.slice A x.length c)
abbrev N47 (x:Tj) (A:Option Addr) (c:Nat) (l:List TR):Ch:=Vs 47 42 5 (Y4 x) l (.slice A x.length c)
abbrev X42 (b:Nat) (p0:Int) (p1:TV) (A1:Option Addr) (c1:Nat) (p2:TH) (A2:Option Addr) (c2:Nat) (p3:Tt) (A3:Option Addr) (c3:Nat) (p4:Tw) (A4:Option Addr) (c4:Nat):Ch:=Xa b 42 [.int .i64 p0,.slice A1 p1.length c1,.slice A2 p2.length c2,.slice A3 p3.length c3,.slice A4 p4.length c4]
abbrev O30 (x:TV) (A:Option Addr) (c:Nat):Ch:=Yj 30 (.int .u32) x (.slice A x.length c)
abbrev V47 (x:Tj) (l:List TR):Ch:=Bj (.pair (.int .i64) (.pair (.slice 30 (.int .u32)) (.pair (.slice 9 .str) (.pair (.slice 106 (.pair .str (.pair .bool .str))) (.slice 104 (.pair .str .str)))))) x l
abbrev R9 (x:TH) (A:Option Addr) (c:Nat):Ch:=rdC 9 .str x (.slice A x.length c)
abbrev R30 (x:TV) (A:Option Addr) (c:Nat):Ch:=rdC 30 (.int .u32) x (.slice A x.length c)
abbrev Ju (x:Tt) (A:Option Addr) (c:Nat):Ch:=Yj 106 (.pair .str (.pair .bool .str)) x (.slice A x.length c)
abbrev Zm6 (b:Nat) (p0:TQ) (p1:Bool) (p2:TQ):Ch:=Xa b 106 [.string ⟨⟨p0⟩⟩,.bool p1,.string ⟨⟨p2⟩⟩]
abbrev W47 (x:Tj) (A:Option Addr) (c:Nat) (l:List TR) (i:Int) (A2:Option Addr) (c2:Nat):Ch:=Uh 47 42 5 (Y4 x) l (.slice A x.length c) i (gt x i).length A2 c2
abbrev R47 (x:Tj) (A:Option Addr) (c:Nat):Ch:=rdC 47 (.slice 42 (.pair (.int .i64) (.pair (.slice 30 (.int .u32)) (.pair (.slice 9 .str) (.pair (.slice 106 (.pair .str (.pair .bool .str))) (.slice 104 (.pair .str .str))))))) x (.slice A x.length c)
abbrev Vh (x:Te) (b1 b2 b3 b4 b5 b6 b7:Nat) (A1 A2 A3 A4 A5:Option Addr) (c1 c2 c3 c4 c5:Nat):List Ch:=[Zaf b1 x.1.1 x.1.2.1 x.1.2.2.1 x.1.2.2.2.1 x.1.2.2.2.2.1 x.1.2.2.2.2.2.1 x.1.2.2.2.2.2.2.1 x.1.2.2.2.2.2.2.2 (.pointer (some ⟨b3,0,none⟩)) (.pointer (some ⟨b2,0,none⟩)) (.pointer (some ⟨b6,0,none⟩)) x.2.2.2,Wc b2 (.pointer (some ⟨b3,0,none⟩)) x.2.1.2.1 A2 c2 (.map (some b4)) x.2.1.2.2.2.1 A3 c3 (.pointer (some ⟨b5,0,none⟩)),X0 b3 x.2.1.1.1 x.2.1.1.2.1 A1 c1 x.2.1.1.2.2.1 x.2.1.1.2.2.2,O5 x.2.1.1.2.1 A1 c1,Wb x.2.1.2.1 A2 c2,Xs .u32 (Value.int .i64) b4 x.2.1.2.2.1,O3 x.2.1.2.2.2.1 A3 c3,Y8 b5 x.2.1.2.2.2.2.1 A4 c4 x.2.1.2.2.2.2.2,Y7 x.2.1.2.2.2.2.1 A4 c4,Jv b6 (.pointer (some ⟨b7,0,none⟩)),Wo b7 x.2.2.1.1 x.2.2.1.2.1 x.2.2.1.2.2 A5 c5,O98 x.2.2.1.2.2 A5 c5]
abbrev X44 (b:Nat) (p0:TQ) (p1:TQ) (p2:Bool):Ch:=Xa b 44 [.string ⟨⟨p0⟩⟩,.string ⟨⟨p1⟩⟩,.bool p2]
abbrev X104 (b:Nat) (p0:TQ) (p1:TQ):Ch:=Xa b 104 [.string ⟨⟨p0⟩⟩,.string ⟨⟨p1⟩⟩]
abbrev X3 (b:Nat) (p0:Int):Ch:=Xa b 3 [.int .i64 p0]
abbrev Zc3 (b:Nat) (p0:Int):Ch:=Xa b 265 [.int .u64 p0]
abbrev Jb (x:TE) (b1 b2:Nat) (A1:Option Addr) (c1:Nat):List Ch:=[Jv b1 (.pointer (some ⟨b2,0,none⟩)),Wo b2 x.1 x.2.1 x.2.2 A1 c1,O98 x.2.2 A1 c1]
abbrev Wx (x:Tg) (b1 b2 b3 b4:Nat) (A1 A2 A3 A4:Option Addr) (c1 c2 c3 c4:Nat):List Ch:=[Wc b1 (.pointer (some ⟨b2,0,none⟩)) x.2.1 A2 c2 (.map (some b3)) x.2.2.2.1 A3 c3 (.pointer (some ⟨b4,0,none⟩)),X0 b2 x.1.1 x.1.2.1 A1 c1 x.1.2.2.1 x.1.2.2.2,O5 x.1.2.1 A1 c1,Wb x.2.1 A2 c2,Xs .u32 (Value.int .i64) b3 x.2.2.1,O3 x.2.2.2.1 A3 c3,Y8 b4 x.2.2.2.2.1 A4 c4 x.2.2.2.2.2,Y7 x.2.2.2.2.1 A4 c4]
abbrev W9 (x:Tx) (b1:Nat) (A1:Option Addr) (c1:Nat):List Ch:=[Y8 b1 x.1 A1 c1 x.2,Y7 x.1 A1 c1]
abbrev Zel (b:Nat) (p0:Int) (p1:Int) (p2:Bool):Ch:=Xa b 217 [.int .i64 p0,.int .i64 p1,.bool p2]
abbrev Zkq (b:Nat) (p0:Int) (p1:TV) (A1:Option Addr) (c1:Nat) (p2:Bool) (p3:Int):Ch:=Xa b 166 [.int .u32 p0,.slice A1 p1.length c1,.bool p2,.int .i64 p3]
abbrev X9 (b:Nat) (p0:TQ):Ch:=Xa b 9 [.string ⟨⟨p0⟩⟩]
abbrev X47 (b:Nat) (p0:Tk) (A0:Option Addr) (c0:Nat):Ch:=Xa b 47 [.slice A0 p0.length c0]
abbrev Wm (b:Nat) (p0:TV) (A0:Option Addr) (c0:Nat) (p1:Int):Ch:=Xa b 224 [.slice A0 p0.length c0,.int .i64 p1]
def tzR:Go.Shelf.Ren:={ f:=fun _=>225,t:=fun n=>if n=3 then 3 else if n=4 then 4 else if n=5 then 5 else if n=22 then 98 else if n=25 then 184 else if n=54 then 277 else 0,g:=fun _=>0 }
theorem tzL:Go.Proofs.Lays7.n29 Tryz.prog tzR where
 mixed:=mix
 f29:=by kernel_rfl
 t0:=by kernel_rfl
 a0:=fun _=>by kernel_rfl
 z0:=fun _=>by kernel_rfl
 v0:=fun _=>by kernel_rfl
 i0:=by kernel_rfl
 t3:=by kernel_rfl
 a3:=fun _=>by kernel_rfl
 z3:=fun _=>by kernel_rfl
 v3:=fun _=>by kernel_rfl
 i3:=by kernel_rfl
 t4:=by kernel_rfl
 a4:=fun _=>by kernel_rfl
 z4:=fun _=>by kernel_rfl
 v4:=fun _=>by kernel_rfl
 i4:=by kernel_rfl
 t5:=by kernel_rfl
 a5:=fun _=>by kernel_rfl
 z5:=fun _=>by kernel_rfl
 v5:=fun _=>by kernel_rfl
 i5:=by kernel_rfl
 t22:=by kernel_rfl
 a22:=fun _=>by kernel_rfl
 z22:=fun _=>by kernel_rfl
 v22:=fun _=>by kernel_rfl
 i22:=by kernel_rfl
 t25:=by kernel_rfl
 a25:=fun _=>by kernel_rfl
 z25:=fun _=>by kernel_rfl
 v25:=fun _=>by kernel_rfl
 i25:=by kernel_rfl
 t54:=by kernel_rfl
 a54:=fun _=>by kernel_rfl
 z54:=fun _=>by kernel_rfl
 g1:=by kernel_rfl
def tzI (x:Int):Int:=((Go.Lib.ctz 64 x.toNat:Nat):Int)
def tabC (g:Nat):Ch where
 ok w F:=F g∧Go.Proofs.TabAt g Go.Lib.deBruijn64tab w
 stable:=fun {w w' F} hs h=>⟨h.1,fun j hj=>by
  have:=h.2 j hj
  unfold World.cell? at this ⊢
  rw [hs g h.1]
  exact this⟩
theorem tz64.spec {x:Int} (h0:0≤x) (h1:x<18446744073709551616):Spec Tryz.prog 225 [.int .u64 x] [] [tabC 0] (fun v l=>v=.int .i64 (tzI x)∧l=[]):=by
 refine ⟨⟨_,Tryz.func225,by kernel_rfl,by kernel_rfl⟩,fun w F hs hb hrd=>?_⟩
 obtain ⟨n,rfl⟩:=Int.eq_ofNat_of_zero_le h0
 obtain ⟨R,hR,_⟩:=hrd _ (List.mem_singleton.2 rfl)
 have:=Go.Proofs.Any7.bits_TrailingZeros64 tzL n (by omega) w (fun _=>hR.2)
 refine this.mono fun e w' ⟨he,hw⟩=>?_
 subst hw
 refine ⟨_,[],fun _=>False,he,⟨rfl,rfl⟩,Chg.refl _ _,?_,fun b h=>h.elim⟩
 trivial

theorem Zqj:CmpStr Tryz.prog 234:=CmpStr.of Tryz.func234 (by kernel_rfl) (by kernel_rfl) (by kernel_rfl) rfl
def Q143.f (a0:Int) (a1:Int) (a2:Int):Option (Bool):=if (decide (a1≤a0))=true then (some (decide (a0≤a2))) else (some false)
theorem Q143.spec {a0 a1 a2 r} (H:Q143.f a0 a1 a2=some r) :
  Spec Tryz.prog 122 [.int .i64 a0,.int .i64 a1,.int .i64 a2] [] [] (fun v l=>v=.bool r∧l=[]):=by
 refine Zj Tryz.func122 fun w0 F0 h0=>?_
 unfold Q143.f at H
 refine T6 (Za [0,1,2] ?_)
 refine T6 (T4 ?_)
 refine Zd 4 ?_
 refine Z8 10 H (fun c1 H=>?_) fun c1 H=>?_
 ·refine Ze [6] rfl ?_
  cases H
  exact T5 (jR0 h0 [])
 refine Ze [6] rfl ?_
 cases H
 exact T5 (jR0 h0 [])

def Q142.f (a0:Tn):Option (Bool):=(Q143.f a0.2.2.2.1 8 64).bind fun r1=>(if (!r1)=true then (some false) else ((Q143.f a0.2.2.2.2.2.2.1 1 64).bind fun r2=>(if (!r2)=true then (some false) else ((Q143.f a0.2.2.2.2.2.2.2 0 256).bind fun r3=>(if (!r3)=true then (some false) else ((Q143.f a0.2.2.2.2.1 (w64 (2*a0.2.2.2.1)) 512).bind fun r4=>(if r4=true then ((Q143.f a0.2.2.2.2.2.1 a0.2.2.2.2.1 1024).bind fun r5=>(some r5)) else (some false))))))))
theorem Q142.spec {a0 r} (H:Q142.f a0=some r) :
  Spec Tryz.prog 121 [.agg #[.int .i64 a0.1,.int .i64 a0.2.1,.int .i64 a0.2.2.1,.int .i64 a0.2.2.2.1,.int .i64 a0.2.2.2.2.1,.int .i64 a0.2.2.2.2.2.1,.int .i64 a0.2.2.2.2.2.2.1,.int .i64 a0.2.2.2.2.2.2.2]] [] [] (fun v l=>v=.bool r∧l=[]):=by
 refine Zj Tryz.func121 fun w0 F0 h0=>?_
 unfold Q142.f at H
 refine T6 (T4 ?_)
 refine rB (Ya h0) fun b1 w1 h1=>?_
 refine Ze [1] rfl ?_
 refine T6 (T6 (T4 ?_))
 refine Zd 1 ?_
 refine Zc (Zb 0 h1.wht) ?_
 refine cS H [] h1 rfl Q143.spec Zn fun r1 w2 H h2=>?_
 refine Zd 2 ?_
 refine Z8 7 H (fun c1 H=>?_) fun c1 H=>?_
 ·refine Ze [1,18] rfl ?_
  refine Zq ?_
  refine T6 (Za [2] ?_)
  cases H
  exact T5 (jR0 h2 [])
 refine Zd 1 ?_
 refine Zc (Zb 0 h2.wht) ?_
 refine cS H [] h2 rfl Q143.spec Zn fun r2 w3 H h3=>?_
 refine Zd 3 ?_
 refine Z8 13 H (fun c2 H=>?_) fun c2 H=>?_
 ·refine Ze [1,18] rfl ?_
  refine Zq ?_
  refine T6 (Za [2] ?_)
  cases H
  exact T5 (jR0 h3 [])
 refine Zd 1 ?_
 refine Zc (Zb 0 h3.wht) ?_
 refine cS H [] h3 rfl Q143.spec Zn fun r3 w4 H h4=>?_
 refine Ze [1,18] rfl ?_
 refine jIf H (fun c3 H=>?_) fun c3 H=>?_
 ·refine T6 (Za [2] ?_)
  cases H
  exact T5 (jR0 h4 [])
 refine T7 (T6 (T4 ?_))
 refine Zd 1 ?_
 refine Zc (Zb 0 h4.wht) ?_
 refine Zd 1 ?_
 refine Zc (Zb 0 h4.wht) ?_
 refine Zd 1 ?_
 refine cS H [] h4 rfl Q143.spec Zn fun r4 w5 H h5=>?_
 refine Zd 1 ?_
 refine Z8 25 H (fun c4 H=>?_) fun c4 H=>?_
 ·refine Zd 1 ?_
  refine Zc (Zb 0 h5.wht) ?_
  refine Zd 1 ?_
  refine Zc (Zb 0 h5.wht) ?_
  refine cS H [] h5 rfl Q143.spec Zn fun r5 w6 H h6=>?_
  refine Ze [2] rfl ?_
  cases H
  exact T5 (jR0 h6 [])
 refine Ze [2] rfl ?_
 cases H
 exact T5 (jR0 h5 [])

def Q139.l1:Nat→Tn→Int→Int→Option (Int)
 | 0,_,_,_=>none
 | k+1,a0,x3,x4=>if (decide (x4<a0.2.2.2.2.1))=true then (Q139.l1 k a0 (w64 ((w64 ((w64 (x3+4))+a0.2.2.2.2.2.2.1))+a0.2.2.2.2.2.2.2)) (w64 (x4+1))) else (some x3)
def Q139.l0:Nat→Tn→Int→Int→Option (Int)
 | 0,_,_,_=>none
 | k+1,a0,x1,x2=>if (decide (x2<a0.2.2.2.1))=true then (if (decide (0<x2))=true then (Q139.l0 k a0 (w64 ((w64 ((w64 (x1+4))+1))+a0.2.2.2.2.2.2.1)) (w64 (x2+1))) else (Q139.l0 k a0 (w64 (x1+4)) (w64 (x2+1)))) else (Q139.l1 k a0 x1 0)
def Q139.f (k:Nat) (a0:Tn):Option (Int):=(Q142.f a0).bind fun r1=>(if (!r1)=true then (some 0) else (Q139.l0 k a0 8 0))
theorem Q139.spec {k a0 r} (H:Q139.f k a0=some r) :
  Spec Tryz.prog 123 [.agg #[.int .i64 a0.1,.int .i64 a0.2.1,.int .i64 a0.2.2.1,.int .i64 a0.2.2.2.1,.int .i64 a0.2.2.2.2.1,.int .i64 a0.2.2.2.2.2.1,.int .i64 a0.2.2.2.2.2.2.1,.int .i64 a0.2.2.2.2.2.2.2]] [] [] (fun v l=>v=.int .i64 r∧l=[]):=by
 refine Zj Tryz.func123 fun w0 F0 h0=>?_
 unfold Q139.f at H
 refine T6 (T4 ?_)
 refine rB (Ya h0) fun b1 w1 h1=>?_
 refine Ze [1] rfl ?_
 refine T6 (T6 (T4 ?_))
 refine Zc (Zb 0 h1.wht) ?_
 refine cS H [] h1 rfl Q142.spec Zn fun r1 w2 H h2=>?_
 refine Ze [1,8] rfl ?_
 refine jIf H (fun c1 H=>?_) fun c1 H=>?_
 ·refine T6 (Za [2] ?_)
  cases H
  exact T5 (jR0 h2 [])
 refine T7 (T6 (Za [1,3] ?_))
 refine T6 (T6 (Za [1,3,4] ?_))
 refine TY ?_
 have h9:=(sOR h2 [0] [])
 refine T2 (fun kk env w=>∃ x1 x2,Q139.l0 kk a0 x1 x2=some r∧env=[(1,.pointer (some ⟨b1,0,none⟩)),(3,.int .i64 x1),(4,.int .i64 x2)]∧St w0 F0 [X23 b1 a0.1 a0.2.1 a0.2.2.1 a0.2.2.2.1 a0.2.2.2.2.1 a0.2.2.2.2.2.1 a0.2.2.2.2.2.2.1 a0.2.2.2.2.2.2.2] [] w) (k:=k) ⟨_,_,H,rfl,h9⟩ ?_
 rintro k1 env w3 ⟨x1,x2,H,rfl,h3⟩
 rcases k1 with _ | k1
 ·exact z0 H
 rw [Q139.l0] at H
 refine T6 (T6 (T4 ?_))
 refine Zd 2 ?_
 refine Zc (Zb 0 h3.wht) ?_
 refine Ze [1,3,4,12] rfl ?_
 refine jIf H (fun c2 H=>?_) fun c2 H=>?_
 ·refine T7 (T6 (TY (T6 (Za [1,3,4] ?_))))
  refine T6 (Za [1,3,4,18] ?_)
  refine jIf H (fun c3 H=>?_) fun c3 H=>?_
  ·refine T4 (Zd 3 ?_)
   refine Zc (Zb 0 h3.wht) ?_
   refine Ze [1,3,4] rfl ?_
   refine Za [1,3,4] ?_
   have h4:=(sOR h3 [0] [])
   exact ⟨k1,by omega,_,_,H,rfl,h4⟩
  refine T7 (Za [1,3,4] ?_)
  have h5:=(sOR h3 [0] [])
  exact ⟨k1,by omega,_,_,H,rfl,h5⟩
 refine T1 (T6 (T6 (Za [1,3,5] ?_)))
 refine TY ?_
 have h8:=(sOR h3 [0] [])
 refine T2 (fun kk env w=>∃ x3 x4,Q139.l1 kk a0 x3 x4=some r∧env=[(1,.pointer (some ⟨b1,0,none⟩)),(3,.int .i64 x3),(5,.int .i64 x4)]∧St w0 F0 [X23 b1 a0.1 a0.2.1 a0.2.2.1 a0.2.2.2.1 a0.2.2.2.2.1 a0.2.2.2.2.2.1 a0.2.2.2.2.2.2.1 a0.2.2.2.2.2.2.2] [] w) (k:=k1) ⟨_,_,H,rfl,h8⟩ ?_
 rintro k2 env w4 ⟨x3,x4,H,rfl,h6⟩
 rcases k2 with _ | k2
 ·exact z0 H
 rw [Q139.l1] at H
 refine T6 (T6 (T4 ?_))
 refine Zd 2 ?_
 refine Zc (Zb 0 h6.wht) ?_
 refine Ze [1,3,5,27] rfl ?_
 refine jIf H (fun c4 H=>?_) fun c4 H=>?_
 ·refine T7 (T6 (TY (T4 ?_)))
  refine Zd 3 ?_
  refine Zc (Zb 0 h6.wht) ?_
  refine Zd 2 ?_
  refine Zc (Zb 0 h6.wht) ?_
  refine Ze [1,3,5] rfl ?_
  refine Za [1,3,5] ?_
  have h7:=(sOR h6 [0] [])
  exact ⟨k2,by omega,_,_,H,rfl,h7⟩
 refine T1 (T6 (Za [2] ?_))
 cases H
 exact T5 (jR0 h6 [])

def Q140.l0:Nat→Tn→Int→Int→Option (Int)
 | 0,_,_,_=>none
 | k+1,a0,x1,x2=>if (decide (x2<a0.2.2.2.2.2.1))=true then (Q140.l0 k a0 (w64 ((w64 ((w64 (x1+3))+a0.2.2.2.2.2.2.1))+a0.2.2.2.2.2.2.2)) (w64 (x2+1))) else (some x1)
def Q140.f (k:Nat) (a0:Tn):Option (Int):=(Q142.f a0).bind fun r1=>(if (!r1)=true then (some 0) else (Q140.l0 k a0 8 0))
theorem Q140.spec {k a0 r} (H:Q140.f k a0=some r) :
  Spec Tryz.prog 124 [.agg #[.int .i64 a0.1,.int .i64 a0.2.1,.int .i64 a0.2.2.1,.int .i64 a0.2.2.2.1,.int .i64 a0.2.2.2.2.1,.int .i64 a0.2.2.2.2.2.1,.int .i64 a0.2.2.2.2.2.2.1,.int .i64 a0.2.2.2.2.2.2.2]] [] [] (fun v l=>v=.int .i64 r∧l=[]):=by
 refine Zj Tryz.func124 fun w0 F0 h0=>?_
 unfold Q140.f at H
 refine T6 (T4 ?_)
 refine rB (Ya h0) fun b1 w1 h1=>?_
 refine Ze [1] rfl ?_
 refine T6 (T6 (T4 ?_))
 refine Zc (Zb 0 h1.wht) ?_
 refine cS H [] h1 rfl Q142.spec Zn fun r1 w2 H h2=>?_
 refine Ze [1,7] rfl ?_
 refine jIf H (fun c1 H=>?_) fun c1 H=>?_
 ·refine T6 (Za [2] ?_)
  cases H
  exact T5 (jR0 h2 [])
 refine T7 (T6 (Za [1,3] ?_))
 refine T6 (T6 (Za [1,3,4] ?_))
 refine TY ?_
 have h5:=(sOR h2 [0] [])
 refine T2 (fun kk env w=>∃ x1 x2,Q140.l0 kk a0 x1 x2=some r∧env=[(1,.pointer (some ⟨b1,0,none⟩)),(3,.int .i64 x1),(4,.int .i64 x2)]∧St w0 F0 [X23 b1 a0.1 a0.2.1 a0.2.2.1 a0.2.2.2.1 a0.2.2.2.2.1 a0.2.2.2.2.2.1 a0.2.2.2.2.2.2.1 a0.2.2.2.2.2.2.2] [] w) (k:=k) ⟨_,_,H,rfl,h5⟩ ?_
 rintro k1 env w3 ⟨x1,x2,H,rfl,h3⟩
 rcases k1 with _ | k1
 ·exact z0 H
 rw [Q140.l0] at H
 refine T6 (T6 (T4 ?_))
 refine Zd 2 ?_
 refine Zc (Zb 0 h3.wht) ?_
 refine Ze [1,3,4,11] rfl ?_
 refine jIf H (fun c2 H=>?_) fun c2 H=>?_
 ·refine T7 (T6 (TY (T4 ?_)))
  refine Zd 3 ?_
  refine Zc (Zb 0 h3.wht) ?_
  refine Zd 2 ?_
  refine Zc (Zb 0 h3.wht) ?_
  refine Ze [1,3,4] rfl ?_
  refine Za [1,3,4] ?_
  have h4:=(sOR h3 [0] [])
  exact ⟨k1,by omega,_,_,H,rfl,h4⟩
 refine T1 (T6 (Za [2] ?_))
 cases H
 exact T5 (jR0 h3 [])

def Q141.f (k:Nat) (a0:Tn):Option (Bool):=(Q142.f a0).bind fun r1=>(if r1=true then ((Q143.f a0.1 5 65536).bind fun r2=>(if r2=true then ((Q143.f a0.2.2.1 8 64).bind fun r3=>(if r3=true then ((Q143.f a0.2.1 64 65536).bind fun r4=>(if r4=true then ((Q139.f k a0).bind fun r5=>(if (decide (r5≤a0.2.1))=true then ((Q140.f k a0).bind fun r6=>(some (decide (r6≤a0.2.1)))) else (some false))) else (some false))) else (some false))) else (some false))) else (some false))
theorem Q141.spec {k a0 r} (H:Q141.f k a0=some r) :
  Spec Tryz.prog 65 [.agg #[.int .i64 a0.1,.int .i64 a0.2.1,.int .i64 a0.2.2.1,.int .i64 a0.2.2.2.1,.int .i64 a0.2.2.2.2.1,.int .i64 a0.2.2.2.2.2.1,.int .i64 a0.2.2.2.2.2.2.1,.int .i64 a0.2.2.2.2.2.2.2]] [] [] (fun v l=>v=.bool r∧l=[]):=by
 refine Zj Tryz.func65 fun w0 F0 h0=>?_
 unfold Q141.f at H
 refine T6 (T4 ?_)
 refine rB (Ya h0) fun b1 w1 h1=>?_
 refine Ze [1] rfl ?_
 refine T6 (jH h1 fun h2=>?_)
 refine Zf 0 rfl (Zb 0 wI) ?_
 refine cSJ 1 rfl H [] h2 rfl Q142.spec Zn 0 fun r1 w2 H h3=>?_
 refine Zl [2] ?_
 refine Wu 5 H (fun c1 H=>?_) fun c1 H=>?_
 ·refine Zl [3] ?_
  refine Zf 4 rfl (Zb 0 wI) ?_
  refine cSJ 5 rfl H [] h3 rfl Q143.spec Zn 0 fun r2 w3 H h4=>?_
  refine Zl [6,7] ?_
  refine Wu 10 H (fun c2 H=>?_) fun c2 H=>?_
  ·refine Zl [8] ?_
   refine Zf 9 rfl (Zb 0 wI) ?_
   refine cSJ 10 rfl H [] h4 rfl Q143.spec Zn 0 fun r3 w4 H h5=>?_
   refine Zl [11,12] ?_
   refine Wu 15 H (fun c3 H=>?_) fun c3 H=>?_
   ·refine Zl [13] ?_
    refine Zf 14 rfl (Zb 0 wI) ?_
    refine cSJ 15 rfl H [] h5 rfl Q143.spec Zn 0 fun r4 w5 H h6=>?_
    refine Zl [16,17] ?_
    refine Wu 20 H (fun c4 H=>?_) fun c4 H=>?_
    ·refine Zl [18] ?_
     refine Zf 19 rfl (Zb 0 wI) ?_
     refine Zf 20 rfl (Zb 0 wI) ?_
     refine cSJ 21 rfl H [] h6 rfl Q139.spec Zn 0 fun r5 w6 H h7=>?_
     refine Zl [22,23,24] ?_
     refine Wu 27 H (fun c5 H=>?_) fun c5 H=>?_
     ·refine Zl [25] ?_
      refine Zf 26 rfl (Zb 0 wI) ?_
      refine Zf 27 rfl (Zb 0 wI) ?_
      refine cSJ 28 rfl H [] h7 rfl Q140.spec Zn 0 fun r6 w7 H h8=>?_
      refine Zl [29,30,31] ?_
      refine Zy [2] ?_
      cases H
      exact T5 (jR0 h8 [])
     refine Zl [25,26,27,28,29,30,31] ?_
     refine Zy [2] ?_
     cases H
     exact T5 (jR0 h7 [])
    refine Zl [18,19,20,21,22,23,24,25,26,27,28,29,30,31] ?_
    refine Zy [2] ?_
    cases H
    exact T5 (jR0 h6 [])
   refine Zl [13,14,15,16,17,18,19,20,21,22,23,24,25,26,27,28,29,30,31] ?_
   refine Zy [2] ?_
   cases H
   exact T5 (jR0 h5 [])
  refine Zl [8,9,10,11,12,13,14,15,16,17,18,19,20,21,22,23,24,25,26,27,28,29,30,31] ?_
  refine Zy [2] ?_
  cases H
  exact T5 (jR0 h4 [])
 refine Zl [3,4,5,6,7,8,9,10,11,12,13,14,15,16,17,18,19,20,21,22,23,24,25,26,27,28,29,30,31] ?_
 refine Zy [2] ?_
 cases H
 exact T5 (jR0 h3 [])

def Q128.f (k:Nat) (a0:Tn):Option (Bool):=(Q141.f k a0).bind fun r1=>(if r1=true then (if (decide (a0.2.1≤3000))=true then (some (decide (a0.1≤400))) else (some false)) else (some false))
theorem Q128.spec {k a0 r} (H:Q128.f k a0=some r) :
  Spec Tryz.prog 26 [.agg #[.int .i64 a0.1,.int .i64 a0.2.1,.int .i64 a0.2.2.1,.int .i64 a0.2.2.2.1,.int .i64 a0.2.2.2.2.1,.int .i64 a0.2.2.2.2.2.1,.int .i64 a0.2.2.2.2.2.2.1,.int .i64 a0.2.2.2.2.2.2.2]] [] [] (fun v l=>v=.bool r∧l=[]):=by
 refine Zj Tryz.func26 fun w0 F0 h0=>?_
 unfold Q128.f at H
 refine T6 (T4 ?_)
 refine rB (Ya h0) fun b1 w1 h1=>?_
 refine Ze [1] rfl ?_
 refine T6 (T4 ?_)
 refine Zc (Zb 0 h1.wht) ?_
 refine cS H [] h1 rfl Q141.spec Zn fun r1 w2 H h2=>?_
 refine Zd 1 ?_
 refine Z8 5 H (fun c1 H=>?_) fun c1 H=>?_
 ·refine Zd 1 ?_
  refine Zc (Zb 0 h2.wht) ?_
  refine Zd 3 ?_
  refine Z8 10 H (fun c2 H=>?_) fun c2 H=>?_
  ·refine Zd 1 ?_
   refine Zc (Zb 0 h2.wht) ?_
   refine Ze [2] rfl ?_
   cases H
   exact T5 (jR0 h2 [])
  refine Ze [2] rfl ?_
  cases H
  exact T5 (jR0 h2 [])
 refine Ze [2] rfl ?_
 cases H
 exact T5 (jR0 h2 [])

def Q57.f (a0:Int) (a1:Int):Option (Bool):=if (decide (5≤a0))=true then (if (decide (a0≤65536))=true then (if (decide (1≤a1))=true then (some (decide (a1≤65536))) else (some false)) else (some false)) else (some false)
theorem Q57.spec {a0 a1 r} (H:Q57.f a0 a1=some r) :
  Spec Tryz.prog 125 [.int .i64 a0,.int .i64 a1] [] [] (fun v l=>v=.bool r∧l=[]):=by
 refine Zj Tryz.func125 fun w0 F0 h0=>?_
 unfold Q57.f at H
 refine T6 (Za [0,1] ?_)
 refine T6 (T4 ?_)
 refine Zd 3 ?_
 refine Z8 7 H (fun c1 H=>?_) fun c1 H=>?_
 ·refine Zd 4 ?_
  refine Z8 11 H (fun c2 H=>?_) fun c2 H=>?_
  ·refine Zd 4 ?_
   refine Z8 15 H (fun c3 H=>?_) fun c3 H=>?_
   ·refine Ze [4] rfl ?_
    cases H
    exact T5 (jR0 h0 [])
   refine Ze [4] rfl ?_
   cases H
   exact T5 (jR0 h0 [])
  refine Ze [4] rfl ?_
  cases H
  exact T5 (jR0 h0 [])
 refine Ze [4] rfl ?_
 cases H
 exact T5 (jR0 h0 [])

def Q56.f (a0:Int) (a1:Int):Option (Option TB×Int):=(Q57.f a0 a1).bind fun r1=>(if (!r1)=true then (some (none,2)) else (if 0≤(w64 (a0*a1))∧(w64 (a0*a1))*1≤281474976710656 then (some ((some (a1,(List.replicate ((w64 (a0*a1)).toNat) (0:Int)),(0,0))),0)) else none))
theorem Q56.spec {a0 a1 r} (H:Q56.f a0 a1=some r) :
  Spec Tryz.prog 66 [.int .i64 a0,.int .i64 a1] [] [] (fun v l=>∃(pv:Value) (lp:List Ch),OptC r.1 (fun d pv lp=>∃ b_0 A_1 c_1,pv=.pointer (some ⟨b_0,0,none⟩)∧lp=[X0 b_0 d.1 d.2.1 A_1 c_1 d.2.2.1 d.2.2.2,O5 d.2.1 A_1 c_1]) pv lp∧v=.tuple #[pv,.int .i64 r.2]∧l=lp ++ []):=by
 refine Zj Tryz.func66 fun w0 F0 h0=>?_
 unfold Q56.f at H
 refine T6 (Za [0,1] ?_)
 refine T6 (T6 (T4 ?_))
 refine Zd 2 ?_
 refine cS H [] h0 rfl Q57.spec Zn fun r1 w1 H h1=>?_
 refine Ze [0,1,9] rfl ?_
 refine jIf H (fun c1 H=>?_) fun c1 H=>?_
 ·refine T6 (Za [4,5] ?_)
  cases H
  exact T5 (jR ⟨_,_,Sa,rfl,rfl⟩ h1 [])
 refine T7 (T6 (T4 ?_))
 refine Zd 4 ?_
 obtain ⟨⟨p1,p2⟩,H⟩:=Zk H
 refine rB (Bk Ys (ty:=(.int .u8)) rfl (0:Int) rfl rfl rfl rfl rfl rfl rfl (by decide) h1 p1 p2) fun b1 w2 h2=>?_
 refine Zd 1 ?_
 refine rB (Ya h2) fun b2 w3 h3=>?_
 refine Ze [4,5] rfl ?_
 cases H
 exact T5 (jR ⟨_,_,(Sb ⟨_,_,_,rfl,rfl⟩),rfl,rfl⟩ h3 [0,0])

def Q51.f (a0:Tn):Option (Bool):=if (decide (a0.2.2.2.1<8))=true then (some false) else (if (decide (64<a0.2.2.2.1))=true then (some false) else (if (decide (a0.2.2.2.2.1<(w64 (2*a0.2.2.2.1))))=true then (some false) else (if (decide (512<a0.2.2.2.2.1))=true then (some false) else (if (decide (a0.2.2.2.2.2.1<a0.2.2.2.2.1))=true then (some false) else (if (decide (1024<a0.2.2.2.2.2.1))=true then (some false) else (if (decide (a0.2.2.2.2.2.2.1<1))=true then (some false) else (if (decide (64<a0.2.2.2.2.2.2.1))=true then (some false) else (if (decide (a0.2.2.2.2.2.2.2<0))=true then (some false) else (if (decide (256<a0.2.2.2.2.2.2.2))=true then (some false) else (some true))))))))))
theorem Q51.spec {a0 r} (H:Q51.f a0=some r) :
  Spec Tryz.prog 139 [.agg #[.int .i64 a0.1,.int .i64 a0.2.1,.int .i64 a0.2.2.1,.int .i64 a0.2.2.2.1,.int .i64 a0.2.2.2.2.1,.int .i64 a0.2.2.2.2.2.1,.int .i64 a0.2.2.2.2.2.2.1,.int .i64 a0.2.2.2.2.2.2.2]] [] [] (fun v l=>v=.bool r∧l=[]):=by
 refine Zj Tryz.func139 fun w0 F0 h0=>?_
 unfold Q51.f at H
 refine T6 (T4 ?_)
 refine rB (Ya h0) fun b1 w1 h1=>?_
 refine Ze [1] rfl ?_
 refine T6 (TY (T6 (T4 ?_)))
 refine Zd 1 ?_
 refine Zc (Zb 0 h1.wht) ?_
 refine Zd 2 ?_
 refine Z8 7 H (fun c1 H=>?_) fun c1 H=>?_
 ·refine Ze [1,3] rfl ?_
  refine Zq ?_
  refine T7 (T6 (Za [2] ?_))
  cases H
  exact T5 (jR0 h1 [])
 refine Zd 1 ?_
 refine Zc (Zb 0 h1.wht) ?_
 refine Ze [1,3] rfl ?_
 refine jIf H (fun c2 H=>?_) fun c2 H=>?_
 ·refine T7 (T6 (Za [2] ?_))
  cases H
  exact T5 (jR0 h1 [])
 refine T6 (T4 ?_)
 refine Zd 1 ?_
 refine Zc (Zb 0 h1.wht) ?_
 refine Zd 1 ?_
 refine Zc (Zb 0 h1.wht) ?_
 refine Zd 3 ?_
 refine Z8 19 H (fun c3 H=>?_) fun c3 H=>?_
 ·refine Ze [1,12] rfl ?_
  refine Zq ?_
  refine T7 (T6 (Za [2] ?_))
  cases H
  exact T5 (jR0 h1 [])
 refine Zd 1 ?_
 refine Zc (Zb 0 h1.wht) ?_
 refine Ze [1,12] rfl ?_
 refine jIf H (fun c4 H=>?_) fun c4 H=>?_
 ·refine T7 (T6 (Za [2] ?_))
  cases H
  exact T5 (jR0 h1 [])
 refine T6 (T4 ?_)
 refine Zd 1 ?_
 refine Zc (Zb 0 h1.wht) ?_
 refine Zd 1 ?_
 refine Zc (Zb 0 h1.wht) ?_
 refine Zd 2 ?_
 refine Z8 30 H (fun c5 H=>?_) fun c5 H=>?_
 ·refine Ze [1,24] rfl ?_
  refine Zq ?_
  refine T7 (T6 (Za [2] ?_))
  cases H
  exact T5 (jR0 h1 [])
 refine Zd 1 ?_
 refine Zc (Zb 0 h1.wht) ?_
 refine Ze [1,24] rfl ?_
 refine jIf H (fun c6 H=>?_) fun c6 H=>?_
 ·refine T7 (T6 (Za [2] ?_))
  cases H
  exact T5 (jR0 h1 [])
 refine T6 (T4 ?_)
 refine Zd 1 ?_
 refine Zc (Zb 0 h1.wht) ?_
 refine Zd 2 ?_
 refine Z8 39 H (fun c7 H=>?_) fun c7 H=>?_
 ·refine Ze [1,35] rfl ?_
  refine Zq ?_
  refine T7 (T6 (Za [2] ?_))
  cases H
  exact T5 (jR0 h1 [])
 refine Zd 1 ?_
 refine Zc (Zb 0 h1.wht) ?_
 refine Ze [1,35] rfl ?_
 refine jIf H (fun c8 H=>?_) fun c8 H=>?_
 ·refine T7 (T6 (Za [2] ?_))
  cases H
  exact T5 (jR0 h1 [])
 refine T6 (T4 ?_)
 refine Zd 1 ?_
 refine Zc (Zb 0 h1.wht) ?_
 refine Zd 2 ?_
 refine Z8 48 H (fun c9 H=>?_) fun c9 H=>?_
 ·refine Ze [44] rfl ?_
  refine Zq ?_
  refine T7 (T6 (Za [2] ?_))
  cases H
  exact T5 (jR0 h1 [])
 refine Zd 1 ?_
 refine Zc (Zb 0 h1.wht) ?_
 refine Ze [44] rfl ?_
 refine jIf H (fun c10 H=>?_) fun c10 H=>?_
 ·refine T7 (T6 (Za [2] ?_))
  cases H
  exact T5 (jR0 h1 [])
 refine T6 (Za [2] ?_)
 cases H
 exact T5 (jR0 h1 [])

def Q48.f (a0:Tn):Option (Int):=(Q51.f a0).bind fun r1=>(if (!r1)=true then (some 0) else (some (w64 ((w64 ((w64 (8+(w64 (4*a0.2.2.2.1))))+(w64 ((w64 (a0.2.2.2.1 - 1))*(w64 (1+a0.2.2.2.2.2.2.1))))))+(w64 (a0.2.2.2.2.1*(w64 ((w64 (4+a0.2.2.2.2.2.2.1))+a0.2.2.2.2.2.2.2))))))))
theorem Q48.spec {a0 r} (H:Q48.f a0=some r) :
  Spec Tryz.prog 192 [.agg #[.int .i64 a0.1,.int .i64 a0.2.1,.int .i64 a0.2.2.1,.int .i64 a0.2.2.2.1,.int .i64 a0.2.2.2.2.1,.int .i64 a0.2.2.2.2.2.1,.int .i64 a0.2.2.2.2.2.2.1,.int .i64 a0.2.2.2.2.2.2.2]] [] [] (fun v l=>v=.int .i64 r∧l=[]):=by
 refine Zj Tryz.func192 fun w0 F0 h0=>?_
 unfold Q48.f at H
 refine T6 (T4 ?_)
 refine rB (Ya h0) fun b1 w1 h1=>?_
 refine Ze [1] rfl ?_
 refine T6 (T6 (T4 ?_))
 refine Zc (Zb 0 h1.wht) ?_
 refine cS H [] h1 rfl Q51.spec Zn fun r1 w2 H h2=>?_
 refine Ze [1,5] rfl ?_
 refine jIf H (fun c1 H=>?_) fun c1 H=>?_
 ·refine T6 (Za [2] ?_)
  cases H
  exact T5 (jR0 h2 [])
 refine T7 (T6 (T4 ?_))
 refine Zd 1 ?_
 refine Zc (Zb 0 h2.wht) ?_
 refine Zd 3 ?_
 refine Zc (Zb 0 h2.wht) ?_
 refine Zd 2 ?_
 refine Zc (Zb 0 h2.wht) ?_
 refine Zd 4 ?_
 refine Zc (Zb 0 h2.wht) ?_
 refine Zd 1 ?_
 refine Zc (Zb 0 h2.wht) ?_
 refine Zd 2 ?_
 refine Zc (Zb 0 h2.wht) ?_
 refine Ze [2] rfl ?_
 cases H
 exact T5 (jR0 h2 [])

def Q50.f (a0:Tn):Option (Int):=(Q51.f a0).bind fun r1=>(if (!r1)=true then (some 0) else (some (w64 (8+(w64 (a0.2.2.2.2.2.1*(w64 ((w64 (3+a0.2.2.2.2.2.2.1))+a0.2.2.2.2.2.2.2))))))))
theorem Q50.spec {a0 r} (H:Q50.f a0=some r) :
  Spec Tryz.prog 193 [.agg #[.int .i64 a0.1,.int .i64 a0.2.1,.int .i64 a0.2.2.1,.int .i64 a0.2.2.2.1,.int .i64 a0.2.2.2.2.1,.int .i64 a0.2.2.2.2.2.1,.int .i64 a0.2.2.2.2.2.2.1,.int .i64 a0.2.2.2.2.2.2.2]] [] [] (fun v l=>v=.int .i64 r∧l=[]):=by
 refine Zj Tryz.func193 fun w0 F0 h0=>?_
 unfold Q50.f at H
 refine T6 (T4 ?_)
 refine rB (Ya h0) fun b1 w1 h1=>?_
 refine Ze [1] rfl ?_
 refine T6 (T6 (T4 ?_))
 refine Zc (Zb 0 h1.wht) ?_
 refine cS H [] h1 rfl Q51.spec Zn fun r1 w2 H h2=>?_
 refine Ze [1,5] rfl ?_
 refine jIf H (fun c1 H=>?_) fun c1 H=>?_
 ·refine T6 (Za [2] ?_)
  cases H
  exact T5 (jR0 h2 [])
 refine T7 (T6 (T4 ?_))
 refine Zd 1 ?_
 refine Zc (Zb 0 h2.wht) ?_
 refine Zd 1 ?_
 refine Zc (Zb 0 h2.wht) ?_
 refine Zd 2 ?_
 refine Zc (Zb 0 h2.wht) ?_
 refine Ze [2] rfl ?_
 cases H
 exact T5 (jR0 h2 [])

def Q49.f (a0:Tn):Option (Tn):=(Q51.f a0).bind fun r1=>(if r1=true then ((Q48.f a0).bind fun r2=>((Q50.f a0).bind fun r3=>(some (a0.1,(if r3>(if r2>(64:Int) then r2 else (64:Int)) then r3 else (if r2>(64:Int) then r2 else (64:Int))),a0.2.2.1,a0.2.2.2.1,a0.2.2.2.2.1,a0.2.2.2.2.2.1,a0.2.2.2.2.2.2.1,a0.2.2.2.2.2.2.2)))) else (some a0))
theorem Q49.spec {a0 r} (H:Q49.f a0=some r) :
  Spec Tryz.prog 140 [.agg #[.int .i64 a0.1,.int .i64 a0.2.1,.int .i64 a0.2.2.1,.int .i64 a0.2.2.2.1,.int .i64 a0.2.2.2.2.1,.int .i64 a0.2.2.2.2.2.1,.int .i64 a0.2.2.2.2.2.2.1,.int .i64 a0.2.2.2.2.2.2.2]] [] [] (fun v l=>v=.agg #[.int .i64 r.1,.int .i64 r.2.1,.int .i64 r.2.2.1,.int .i64 r.2.2.2.1,.int .i64 r.2.2.2.2.1,.int .i64 r.2.2.2.2.2.1,.int .i64 r.2.2.2.2.2.2.1,.int .i64 r.2.2.2.2.2.2.2]∧l=[]):=by
 refine Zj Tryz.func140 fun w0 F0 h0=>?_
 unfold Q49.f at H
 refine T6 (T4 ?_)
 refine rB (Ya h0) fun b1 w1 h1=>?_
 refine rB (Ym h1) fun b2 w2 h2=>?_
 refine Ze [1,2] rfl ?_
 refine T6 (T6 (T4 ?_))
 refine Zc (Zb 1 h2.wht) ?_
 refine cS H [] h2 rfl Q51.spec Zn fun r1 w3 H h3=>?_
 refine Ze [1,2,4] rfl ?_
 refine jIf H (fun c1 H=>?_) fun c1 H=>?_
 ·obtain ⟨r2,q2,H⟩:=Yf H
  obtain ⟨r3,q3,H⟩:=Yf H
  refine T3 (fun env w=>env=[(1,.pointer (some ⟨b1,0,none⟩)),(2,.pointer (some ⟨b2,0,none⟩))]∧St w0 F0 [X23 b1 a0.1 (if r3>(if r2>(64:Int) then r2 else (64:Int)) then r3 else (if r2>(64:Int) then r2 else (64:Int))) a0.2.2.1 a0.2.2.2.1 a0.2.2.2.2.1 a0.2.2.2.2.2.1 a0.2.2.2.2.2.2.1 a0.2.2.2.2.2.2.2,X23 b2 0 0 0 0 0 0 0 0] [] w) ?_ ?_
  ·refine Zx (sO h3 [0]) ?_
   have h7:=h3.drew
   refine TX [0,2] (i:=0) rfl rfl rfl rfl ?_
   refine (Xp ?_ (Xp ?_ Uk))
   ·refine Xk 0 rfl (T9 (Zb 1 h7.wht)) ?_
    rintro _ _ ⟨rfl,rfl⟩
    replace h7:=nf h7
    refine ⟨⟨[_],(sO h7 [1,0])⟩,?_⟩
    refine TX [1,2] (i:=1) rfl rfl rfl rfl ?_
    refine (Xp ?_ (Xp ?_ Uk))
    ·refine Xk 1 rfl (Xv [] (Q48.spec q2) h7 rfl Zn) ?_
     rintro _ w10 ⟨_,⟨rfl,rfl⟩,h8⟩
     replace h8:=nf h8
     refine ⟨⟨[_],(sO h8 [1,0])⟩,?_⟩
     refine Yh 2 rfl (T9 (Zb 1 h8.wht)) ?_
     rintro _ _ ⟨rfl,rfl⟩
     replace h8:=nf h8
     refine ⟨⟨[_],(sO h8 [1,0])⟩,?_⟩
     refine Yh 3 rfl (Xv [] (Q50.spec q3) h8 rfl Zn) ?_
     rintro _ w12 ⟨_,⟨rfl,rfl⟩,h9⟩
     replace h9:=nf h9
     refine ⟨⟨[_],(sO h9 [1,0])⟩,?_⟩
     refine Zf 4 rfl Zae ?_
     refine Zl [5] ?_
     refine hS 6 rfl (Zs 1 h9) 1 fun _ w13 h10=>?_
     refine Zy [1,2] ?_
     exact Yo ⟨rfl,(sOR h10 [0,0] [])⟩
    ·refine Xk 2 rfl (T9 (Zb 1 h7.wht)) ?_
     rintro _ _ ⟨rfl,rfl⟩
     replace h7:=nf h7
     refine ⟨⟨[_],(sO h7 [1,0])⟩,?_⟩
     refine Yh 1 rfl (Xv [] (Q48.spec q2) h7 rfl Zn) ?_
     rintro _ w15 ⟨_,⟨rfl,rfl⟩,h11⟩
     replace h11:=nf h11
     refine ⟨⟨[_],(sO h11 [1,0])⟩,?_⟩
     refine Yh 3 rfl (Xv [] (Q50.spec q3) h11 rfl Zn) ?_
     rintro _ w16 ⟨_,⟨rfl,rfl⟩,h12⟩
     replace h12:=nf h12
     refine ⟨⟨[_],(sO h12 [1,0])⟩,?_⟩
     refine Zf 4 rfl Zae ?_
     refine Zl [5] ?_
     refine hS 6 rfl (Zs 1 h12) 1 fun _ w17 h13=>?_
     refine Zy [1,2] ?_
     exact Yo ⟨rfl,(sOR h13 [0,0] [])⟩
   ·refine Xk 2 rfl (T9 (Zb 1 h7.wht)) ?_
    rintro _ _ ⟨rfl,rfl⟩
    replace h7:=nf h7
    refine ⟨⟨[_],(sO h7 [1,0])⟩,?_⟩
    refine Yh 0 rfl (T9 (Zb 1 h7.wht)) ?_
    rintro _ _ ⟨rfl,rfl⟩
    replace h7:=nf h7
    refine ⟨⟨[_],(sO h7 [1,0])⟩,?_⟩
    refine Yh 1 rfl (Xv [] (Q48.spec q2) h7 rfl Zn) ?_
    rintro _ w20 ⟨_,⟨rfl,rfl⟩,h14⟩
    replace h14:=nf h14
    refine ⟨⟨[_],(sO h14 [1,0])⟩,?_⟩
    refine Yh 3 rfl (Xv [] (Q50.spec q3) h14 rfl Zn) ?_
    rintro _ w21 ⟨_,⟨rfl,rfl⟩,h15⟩
    replace h15:=nf h15
    refine ⟨⟨[_],(sO h15 [1,0])⟩,?_⟩
    refine Zf 4 rfl Zae ?_
    refine Zl [5] ?_
    refine hS 6 rfl (Zs 1 h15) 1 fun _ w22 h16=>?_
    refine Zy [1,2] ?_
    exact Yo ⟨rfl,(sOR h16 [0,0] [])⟩
  rintro env w23 ⟨rfl,h17⟩
  refine T6 (T4 ?_)
  refine Zc (Zb 0 h17.wht) ?_
  refine rS (Zs 1 h17) fun _ w24 h18=>?_
  refine Ze [2] rfl ?_
  cases H
  exact T5 (jR2 (Z2 (Sc Ys 0 h18 rfl rfl rfl rfl) Yz) ⟨rfl,rfl⟩ h18 [])
 refine T7 (T6 (T4 ?_))
 refine Zc (Zb 1 h3.wht) ?_
 refine rS (Zs 0 h3) fun _ w25 h19=>?_
 refine Ze [2] rfl ?_
 cases H
 exact T5 (jR2 (Z2 (Sc Ys 0 h19 rfl rfl rfl rfl) Yz) ⟨rfl,rfl⟩ h19 [])

def Q47.f (a0:Tn):Option (Int):=(Q51.f a0).bind fun r1=>(if r1=true then (if (decide (5≤a0.1))=true then (if (decide (a0.1≤65536))=true then (if (decide (8≤a0.2.2.1))=true then (if (!(decide (a0.2.2.1≤64)))=true then (some 2) else (if (decide (65536<a0.2.1))=true then (some 2) else ((Q49.f a0).bind fun r2=>(if (decide (a0.2.1<r2.2.1))=true then (some 2) else (some 0))))) else (some 2)) else (some 2)) else (some 2)) else (some 2))
theorem Q47.spec {a0 r} (H:Q47.f a0=some r) :
  Spec Tryz.prog 75 [.agg #[.int .i64 a0.1,.int .i64 a0.2.1,.int .i64 a0.2.2.1,.int .i64 a0.2.2.2.1,.int .i64 a0.2.2.2.2.1,.int .i64 a0.2.2.2.2.2.1,.int .i64 a0.2.2.2.2.2.2.1,.int .i64 a0.2.2.2.2.2.2.2]] [] [] (fun v l=>v=.int .i64 r∧l=[]):=by
 refine Zj Tryz.func75 fun w0 F0 h0=>?_
 unfold Q47.f at H
 refine T6 (T4 ?_)
 refine rB (Ya h0) fun b1 w1 h1=>?_
 refine Ze [1] rfl ?_
 refine T6 (T4 ?_)
 refine Zc (Zb 0 h1.wht) ?_
 refine cS H [] h1 rfl Q51.spec Zn fun r1 w2 H h2=>?_
 refine Zd 1 ?_
 refine Z8 6 H (fun c1 H=>?_) fun c1 H=>?_
 ·refine Zd 1 ?_
  refine Zc (Zb 0 h2.wht) ?_
  refine Zd 3 ?_
  refine Z8 11 H (fun c2 H=>?_) fun c2 H=>?_
  ·refine Zd 1 ?_
   refine Zc (Zb 0 h2.wht) ?_
   refine Zd 3 ?_
   refine Z8 16 H (fun c3 H=>?_) fun c3 H=>?_
   ·refine Zd 1 ?_
    refine Zc (Zb 0 h2.wht) ?_
    refine Zd 3 ?_
    refine Z8 21 H (fun c4 H=>?_) fun c4 H=>?_
    ·refine Zd 1 ?_
     refine Zc (Zb 0 h2.wht) ?_
     refine Ze [1,3] rfl ?_
     refine T6 (T6 ?_)
     refine jH h2 fun h3=>?_
     refine Zl [0,1,2] ?_
     refine Wu 28 H (fun c5 H=>?_) fun c5 H=>?_
     ·refine Zl [3,4,5,6,7,8,9,10,11,12,13,14] ?_
      refine Zy [40] ?_
      refine Zq ?_
      refine T6 (Za [2] ?_)
      cases H
      exact T5 (jR0 h3 [])
     refine Zl [3] ?_
     refine Zf 4 rfl (Zb 0 wI) ?_
     refine Zl [5,6,7] ?_
     refine Wu 33 H (fun c6 H=>?_) fun c6 H=>?_
     ·refine Zl [8,9,10,11,12,13,14] ?_
      refine Zy [40] ?_
      refine Zq ?_
      refine T6 (Za [2] ?_)
      cases H
      exact T5 (jR0 h3 [])
     refine Zl [8] ?_
     refine Zf 9 rfl (Zb 0 wI) ?_
     refine Zf 10 rfl (Zb 0 wI) ?_
     refine cSJ 11 rfl H [] h3 rfl Q49.spec Zn 0 fun r2 w3 H h4=>?_
     refine Zl [12,13,14] ?_
     refine Zy [40] ?_
     refine jIf H (fun c7 H=>?_) fun c7 H=>?_
     ·refine T6 (Za [2] ?_)
      cases H
      exact T5 (jR0 h4 [])
     refine T7 (T6 (Za [2] ?_))
     cases H
     exact T5 (jR0 h4 [])
    refine Ze [1,3] rfl ?_
    refine T6 (T6 ?_)
    refine jH h2 fun h5=>?_
    refine Zl [0,1,2,3,4,5,6,7,8,9,10,11,12,13,14] ?_
    refine Zy [40] ?_
    refine Zq ?_
    refine T6 (Za [2] ?_)
    cases H
    exact T5 (jR0 h5 [])
   refine Ze [1,3] rfl ?_
   refine T6 (T6 ?_)
   refine jH h2 fun h6=>?_
   refine Zl [0,1,2,3,4,5,6,7,8,9,10,11,12,13,14] ?_
   refine Zy [40] ?_
   refine Zq ?_
   refine T6 (Za [2] ?_)
   cases H
   exact T5 (jR0 h6 [])
  refine Ze [1,3] rfl ?_
  refine T6 (T6 ?_)
  refine jH h2 fun h7=>?_
  refine Zl [0,1,2,3,4,5,6,7,8,9,10,11,12,13,14] ?_
  refine Zy [40] ?_
  refine Zq ?_
  refine T6 (Za [2] ?_)
  cases H
  exact T5 (jR0 h7 [])
 refine Ze [1,3] rfl ?_
 refine T6 (T6 ?_)
 refine jH h2 fun h8=>?_
 refine Zl [0,1,2,3,4,5,6,7,8,9,10,11,12,13,14] ?_
 refine Zy [40] ?_
 refine Zq ?_
 refine T6 (Za [2] ?_)
 cases H
 exact T5 (jR0 h8 [])

def Q52.f (a0:TB):Option (Int):=if (decide (a0.1=0))=true then (some 0) else (if 0<a0.1 then (some (w64 (Int.tdiv (a0.2.1.length:Int) a0.1))) else none)
theorem Q52.spec {a0 b1 A1 c_1 r} (H:Q52.f a0=some r) :
  Spec Tryz.prog 127 [.pointer (some ⟨b1,0,none⟩)] (Za6 a0 b1 A1 c_1) [] (fun v l=>v=.int .i64 r∧l=Za6 a0 b1 A1 c_1):=by
 refine Zj Tryz.func127 fun w0 F0 h0=>?_
 replace h0:=nf h0
 unfold Q52.f at H
 refine T6 (Za [0] ?_)
 refine T6 (T6 (T4 ?_))
 refine Zd 6 ?_
 refine Zc (Zb 0 h0.wht) ?_
 refine Ze [0,11] rfl ?_
 refine jIf H (fun c1 H=>?_) fun c1 H=>?_
 ·refine T6 (Za [2] ?_)
  cases H
  exact T5 (jR0 h0 [0,0])
 refine T7 (T6 (jH h0 fun h1=>?_))
 refine Zl [0,1,2,5,6,7] ?_
 refine Zf 3 rfl (Zb 0 wI) ?_
 refine Zl [4] ?_
 refine Zf 8 rfl (Zb 0 wI) ?_
 obtain ⟨p1,H⟩:=Zk H
 refine Zf 9 rfl (Zmr p1) ?_
 refine Zl [10] ?_
 refine Zy [2] ?_
 cases H
 exact T5 (jR0 h1 [0,0])

def Q33.f (a0:Int):Option (Option Tx×Int):=if (decide (a0<1))=true then (some (none,2)) else (if (decide (4096<a0))=true then (some (none,2)) else (if 0≤(w64 (a0+1))∧(w64 (a0+1))*24≤281474976710656 then (if 0≤a0∧a0<((List.replicate ((w64 (a0+1)).toNat) ((0,0,false):Int×Int×Bool)).length:Int) then (some ((some (((List.replicate ((w64 (a0+1)).toNat) ((0,0,false):Int×Int×Bool)).set a0.toNat (a0,a0,false)),0)),0)) else none) else none))
theorem Q33.spec {a0 r} (H:Q33.f a0=some r) :
  Spec Tryz.prog 186 [.int .i64 a0] [] [] (fun v l=>∃(pv:Value) (lp:List Ch),OptC r.1 (fun d pv lp=>∃ b_0 A_1 c_1,pv=.pointer (some ⟨b_0,0,none⟩)∧lp=[Y8 b_0 d.1 A_1 c_1 d.2,Y7 d.1 A_1 c_1]) pv lp∧v=.tuple #[pv,.int .i64 r.2]∧l=lp ++ []):=by
 refine Zj Tryz.func186 fun w0 F0 h0=>?_
 unfold Q33.f at H
 refine T6 (Za [0] ?_)
 refine T6 (T6 (T4 ?_))
 refine Zd 3 ?_
 refine Z8 7 H (fun c1 H=>?_) fun c1 H=>?_
 ·refine Ze [0,10] rfl ?_
  refine Zq ?_
  refine T6 (Za [2,3] ?_)
  cases H
  exact T5 (jR ⟨_,_,Sa,rfl,rfl⟩ h0 [])
 refine Ze [0,10] rfl ?_
 refine jIf H (fun c2 H=>?_) fun c2 H=>?_
 ·refine T6 (Za [2,3] ?_)
  cases H
  exact T5 (jR ⟨_,_,Sa,rfl,rfl⟩ h0 [])
 refine T7 (T6 (T4 ?_))
 refine Zd 2 ?_
 obtain ⟨⟨p1,p2⟩,H⟩:=Zk H
 refine rB (Bk Ys (ty:=(.pair (.int .i64) (.pair (.int .i64) .bool))) rfl ((0,0,false):Int×Int×Bool) rfl rfl rfl rfl rfl rfl rfl (by decide) h0 p1 p2) fun b1 w1 h1=>?_
 refine Zd 1 ?_
 refine rB (Ya h1) fun b2 w2 h2=>?_
 refine Ze [0,4] rfl ?_
 refine T6 (T4 ?_)
 refine Zd 3 ?_
 refine Zc (Zb 0 h2.wht) ?_
 refine Zd 4 ?_
 obtain ⟨⟨p3,p4⟩,H⟩:=Zk H
 have e1:=Zw h2.wh (gO 1) p3 p4
 refine Zc (Zg e1 p3 p4) ?_
 refine rS (Zo 0 (.pair (.int .i64) (.pair (.int .i64) .bool)) a0 (a0,a0,false) 1 h2 rfl p3 p4) fun _ w3 h3=>?_
 replace h3:St w0 F0 [Y7 ((List.replicate ((w64 (a0+1)).toNat) ((0,0,false):Int×Int×Bool)).set a0.toNat (a0,a0,false)) (some ⟨b1,0,none⟩) ((w64 (a0+1)).toNat),Y8 b2 ((List.replicate ((w64 (a0+1)).toNat) ((0,0,false):Int×Int×Bool)).set a0.toNat (a0,a0,false)) (some ⟨b1,0,none⟩) ((w64 (a0+1)).toNat) 0] _ _:=h3.retell (by simp only [List.length_set,List.length_nil,Y7,Y8] <;> rfl)
 refine Ze [4] rfl ?_
 refine T6 (Za [2,3] ?_)
 cases H
 exact T5 (jR ⟨_,_,(Sb ⟨_,_,_,rfl,rfl⟩),rfl,rfl⟩ h3 [1,0])

def Q53.f (a0:TB):Option (Int):=some a0.1
theorem Q53.spec {a0 b1 A1 c_1 r} (H:Q53.f a0=some r) :
  Spec Tryz.prog 128 [.pointer (some ⟨b1,0,none⟩)] (Za6 a0 b1 A1 c_1) [] (fun v l=>v=.int .i64 r∧l=Za6 a0 b1 A1 c_1):=by
 refine Zj Tryz.func128 fun w0 F0 h0=>?_
 replace h0:=nf h0
 unfold Q53.f at H
 refine T6 (Za [0] ?_)
 refine T6 (T6 (Za [0,4] ?_))
 refine Z5 ?_
 refine T7 (T6 (T4 ?_))
 refine Zd 3 ?_
 refine Zc (Zb 0 h0.wht) ?_
 refine Ze [2] rfl ?_
 cases H
 exact T5 (jR0 h0 [0,0])

def Q2.f (a0:Int):Option (Option TG×Int):=if (decide (a0<1))=true then (some (none,2)) else (if (decide (65536<a0))=true then (some (none,2)) else (if 0≤(w64 (Int.tdiv (w64 ((w64 (a0+64)) - 1)) 64))∧(w64 (Int.tdiv (w64 ((w64 (a0+64)) - 1)) 64))*8≤281474976710656 then (some ((some (a0,0,(List.replicate ((w64 (Int.tdiv (w64 ((w64 (a0+64)) - 1)) 64)).toNat) (0:Int)))),0)) else none))
theorem Q2.spec {a0 r} (H:Q2.f a0=some r) :
  Spec Tryz.prog 187 [.int .i64 a0] [] [] (fun v l=>∃(pv:Value) (lp:List Ch),OptC r.1 (fun d pv lp=>∃ b_0 A_1 c_1,pv=.pointer (some ⟨b_0,0,none⟩)∧lp=[Wo b_0 d.1 d.2.1 d.2.2 A_1 c_1,O98 d.2.2 A_1 c_1]) pv lp∧v=.tuple #[pv,.int .i64 r.2]∧l=lp ++ []):=by
 refine Zj Tryz.func187 fun w0 F0 h0=>?_
 unfold Q2.f at H
 refine T6 (Za [0] ?_)
 refine T6 (T6 (T4 ?_))
 refine Zd 3 ?_
 refine Z8 6 H (fun c1 H=>?_) fun c1 H=>?_
 ·refine Ze [0,9] rfl ?_
  refine Zq ?_
  refine T6 (Za [2,3] ?_)
  cases H
  exact T5 (jR ⟨_,_,Sa,rfl,rfl⟩ h0 [])
 refine Ze [0,9] rfl ?_
 refine jIf H (fun c2 H=>?_) fun c2 H=>?_
 ·refine T6 (Za [2,3] ?_)
  cases H
  exact T5 (jR ⟨_,_,Sa,rfl,rfl⟩ h0 [])
 refine T7 (T6 (T4 ?_))
 refine Zd 5 ?_
 obtain ⟨⟨p1,p2⟩,H⟩:=Zk H
 refine rB (Bk Ys (ty:=(.int .u64)) rfl (0:Int) rfl rfl rfl rfl rfl rfl rfl (by decide) h0 p1 p2) fun b1 w1 h1=>?_
 refine Zd 1 ?_
 refine rB (Ya h1) fun b2 w2 h2=>?_
 refine Ze [2,3] rfl ?_
 cases H
 exact T5 (jR ⟨_,_,(Sb ⟨_,_,_,rfl,rfl⟩),rfl,rfl⟩ h2 [0,0])

def Q7.f (a0:TG):Option (Int):=some a0.1
theorem Q7.spec {a0 b1 A1 c_1 r} (H:Q7.f a0=some r) :
  Spec Tryz.prog 194 [.pointer (some ⟨b1,0,none⟩)] (Va a0 b1 A1 c_1) [] (fun v l=>v=.int .i64 r∧l=Va a0 b1 A1 c_1):=by
 refine Zj Tryz.func194 fun w0 F0 h0=>?_
 replace h0:=nf h0
 unfold Q7.f at H
 refine T6 (Za [0] ?_)
 refine T6 (T6 (Za [0,4] ?_))
 refine Z5 ?_
 refine T7 (T6 (T4 ?_))
 refine Zd 3 ?_
 refine Zc (Zb 0 h0.wht) ?_
 refine Ze [2] rfl ?_
 cases H
 exact T5 (jR0 h0 [0,0])

def Q10.f (a0:TG) (a1:Int):Option (Int):=(Q7.f a0).bind fun r1=>(if (decide (r1=0))=true then (some 1) else (if (decide (a1<0))=true then (some 4) else (if (decide (a0.1≤a1))=true then (some 4) else (some 0))))
theorem Q10.spec {a0 a1 b1 A1 c_1 r} (H:Q10.f a0 a1=some r) :
  Spec Tryz.prog 154 [.pointer (some ⟨b1,0,none⟩),.int .i64 a1] (Va a0 b1 A1 c_1) [] (fun v l=>v=.int .i64 r∧l=Va a0 b1 A1 c_1):=by
 refine Zj Tryz.func154 fun w0 F0 h0=>?_
 replace h0:=nf h0
 unfold Q10.f at H
 refine T6 (Za [0,1] ?_)
 refine T6 (TY (T6 (T4 ?_)))
 refine Zd 1 ?_
 refine cS H [0,0] h0 rfl Q7.spec Zn fun r1 w1 H h1=>?_
 refine Ze [0,1,5] rfl ?_
 refine jIf H (fun c1 H=>?_) fun c1 H=>?_
 ·refine T6 (Za [4] ?_)
  cases H
  exact T5 (jR0 h1 [0,0])
 refine T6 (T4 ?_)
 refine Zd 3 ?_
 refine Z8 12 H (fun c2 H=>?_) fun c2 H=>?_
 ·refine Ze [9] rfl ?_
  refine Zq ?_
  refine T6 (Za [4] ?_)
  cases H
  exact T5 (jR0 h1 [0,0])
 refine Zd 4 ?_
 refine Zc (Zb 0 h1.wht) ?_
 refine Ze [9] rfl ?_
 refine jIf H (fun c3 H=>?_) fun c3 H=>?_
 ·refine T6 (Za [4] ?_)
  cases H
  exact T5 (jR0 h1 [0,0])
 refine T7 (T6 (Za [4] ?_))
 cases H
 exact T5 (jR0 h1 [0,0])

def Q6.f (a0:TG) (a1:Int):Option (Bool):=(Q10.f a0 a1).bind fun r1=>(if (decide (r1=0))=true then (if 0≤(w64 (Int.tdiv a1 64))∧(w64 (Int.tdiv a1 64))<(a0.2.2.length:Int) then (if 0≤(Int.tmod a1 64) then (some (decide ((IntKind.u64.wrap (((BitVec.ofInt IntKind.u64.bits (Int.fdiv (gt a0.2.2 (w64 (Int.tdiv a1 64))) (2 ^ (min (Int.tmod a1 64).toNat 64))) &&& (BitVec.ofInt IntKind.u64.bits 1)).toNat:Int)))=1))) else none) else none) else (some false))
theorem Q6.spec {a0 a1 b1 A1 c_1 r} (H:Q6.f a0 a1=some r) :
  Spec Tryz.prog 99 [.pointer (some ⟨b1,0,none⟩),.int .i64 a1] (Va a0 b1 A1 c_1) [] (fun v l=>v=.bool r∧l=Va a0 b1 A1 c_1):=by
 refine Zj Tryz.func99 fun w0 F0 h0=>?_
 replace h0:=nf h0
 unfold Q6.f at H
 refine T6 (Za [0,1] ?_)
 refine T6 (T4 ?_)
 refine Zd 2 ?_
 refine cS H [0,0] h0 rfl Q10.spec Zn fun r1 w1 H h1=>?_
 refine Zd 2 ?_
 refine Z8 9 H (fun c1 H=>?_) fun c1 H=>?_
 ·refine Zd 3 ?_
  refine Zc (Zb 0 h1.wht) ?_
  refine Zd 2 ?_
  obtain ⟨⟨p1,p2⟩,H⟩:=Zk H
  have e1:=Zw h1.wh (gO 1) p1 p2
  refine Zc (Zg e1 p1 p2) ?_
  refine Zc (Zh 0 h1.wht (gO 1) p1 p2) ?_
  refine Zd 2 ?_
  obtain ⟨p3,H⟩:=Zk H
  refine Zc (Zfp p3) ?_
  refine Ze [4] rfl ?_
  cases H
  exact T5 (jR0 h1 [0,0])
 refine Ze [4] rfl ?_
 cases H
 exact T5 (jR0 h1 [0,0])

def Q8.f (a0:TG) (a1:Int):Option (Int×TG):=(Q10.f a0 a1).bind fun r1=>(if (!decide (r1=0))=true then (some (r1,a0)) else ((Q6.f a0 a1).bind fun r2=>(if r2=true then (some (10,a0)) else (if 0≤(w64 (Int.tdiv a1 64))∧(w64 (Int.tdiv a1 64))<(a0.2.2.length:Int) then (if 0≤(Int.tmod a1 64) then (some (0,(a0.1,(w64 (a0.2.1+1)),(a0.2.2.set (w64 (Int.tdiv a1 64)).toNat (IntKind.u64.wrap (((BitVec.ofInt IntKind.u64.bits (gt a0.2.2 (w64 (Int.tdiv a1 64))) ||| (BitVec.ofInt IntKind.u64.bits (IntKind.u64.wrap ((1:Int)*2 ^ (min (Int.tmod a1 64).toNat 64))))).toNat:Int))))))) else none) else none))))
theorem Q8.spec {a0 a1 b1 A1 c_1 r} (H:Q8.f a0 a1=some r) :
  Spec Tryz.prog 188 [.pointer (some ⟨b1,0,none⟩),.int .i64 a1] (Va a0 b1 A1 c_1) [] (fun v l=>∃ A_0 c_0,v=.int .i64 r.1∧l=Va r.2 b1 A_0 c_0):=by
 refine Zj Tryz.func188 fun w0 F0 h0=>?_
 replace h0:=nf h0
 unfold Q8.f at H
 refine T6 (Za [0,1] ?_)
 refine T6 (T6 (T4 ?_))
 refine Zd 2 ?_
 refine cS H [0,0] h0 rfl Q10.spec Zn fun r1 w1 H h1=>?_
 refine Ze [0,1,5] rfl ?_
 refine T6 (Za [0,1,5,10] ?_)
 refine jIf H (fun c1 H=>?_) fun c1 H=>?_
 ·refine T6 (Za [4] ?_)
  cases H
  exact T5 (jR ⟨_,_,rfl,rfl⟩ h1 [0,0])
 refine T7 (T6 (T6 (T4 ?_)))
 refine Zd 2 ?_
 refine cS H [0,0] h1 rfl Q6.spec Zn fun r2 w2 H h2=>?_
 refine Ze [0,1,14] rfl ?_
 refine jIf H (fun c2 H=>?_) fun c2 H=>?_
 ·refine T6 (Za [4] ?_)
  cases H
  exact T5 (jR ⟨_,_,rfl,rfl⟩ h2 [0,0])
 refine T7 (T6 ?_)
 obtain ⟨⟨p1,p2⟩,H⟩:=Zk H
 obtain ⟨p3,H⟩:=Zk H
 refine T3 (fun env w=>env=[(0,.pointer (some ⟨b1,0,none⟩))]∧St w0 F0 [Wo b1 a0.1 a0.2.1 (a0.2.2.set (w64 (Int.tdiv a1 64)).toNat (IntKind.u64.wrap (((BitVec.ofInt IntKind.u64.bits (gt a0.2.2 (w64 (Int.tdiv a1 64))) ||| (BitVec.ofInt IntKind.u64.bits (IntKind.u64.wrap ((1:Int)*2 ^ (min (Int.tmod a1 64).toNat 64))))).toNat:Int)))) A1 c_1,O98 (a0.2.2.set (w64 (Int.tdiv a1 64)).toNat (IntKind.u64.wrap (((BitVec.ofInt IntKind.u64.bits (gt a0.2.2 (w64 (Int.tdiv a1 64))) ||| (BitVec.ofInt IntKind.u64.bits (IntKind.u64.wrap ((1:Int)*2 ^ (min (Int.tmod a1 64).toNat 64))))).toNat:Int)))) A1 c_1] [] w) ?_ ?_
 ·refine Zx (sO h2 [0]) ?_
  have h4:=h2.drew
  refine Zl [0,1,2,4,5,8,9] ?_
  refine Zf 3 rfl (Zb 0 wI) ?_
  have e2:=Zw h4.wh (gO 1) p1 p2
  refine Zf 6 rfl (Zg e2 p1 p2) ?_
  refine TX [7,10] (i:=7) rfl rfl rfl rfl ?_
  refine (Xp ?_ (Xp ?_ Uk))
  ·refine Xk 7 rfl (T9 (Zh 0 h4.wht (gO 1) p1 p2)) ?_
   rintro _ _ ⟨rfl,rfl⟩
   replace h4:=nf h4
   refine ⟨⟨[_],(sO h4 [1,0])⟩,?_⟩
   refine Zf 10 rfl (Gv p3) ?_
   refine Zl [11] ?_
   refine Zf 12 rfl (Zg e2 p1 p2) ?_
   refine hS 13 rfl (Zo 0 (.int .u64) (w64 (Int.tdiv a1 64)) (IntKind.u64.wrap (((BitVec.ofInt IntKind.u64.bits (gt a0.2.2 (w64 (Int.tdiv a1 64))) ||| (BitVec.ofInt IntKind.u64.bits (IntKind.u64.wrap ((1:Int)*2 ^ (min (Int.tmod a1 64).toNat 64))))).toNat:Int))) 1 h4 rfl p1 p2) 1 fun _ w4 h5=>?_
   replace h5:St w0 F0 [O98 (a0.2.2.set (w64 (Int.tdiv a1 64)).toNat (IntKind.u64.wrap (((BitVec.ofInt IntKind.u64.bits (gt a0.2.2 (w64 (Int.tdiv a1 64))) ||| (BitVec.ofInt IntKind.u64.bits (IntKind.u64.wrap ((1:Int)*2 ^ (min (Int.tmod a1 64).toNat 64))))).toNat:Int)))) A1 c_1,Wo b1 a0.1 a0.2.1 (a0.2.2.set (w64 (Int.tdiv a1 64)).toNat (IntKind.u64.wrap (((BitVec.ofInt IntKind.u64.bits (gt a0.2.2 (w64 (Int.tdiv a1 64))) ||| (BitVec.ofInt IntKind.u64.bits (IntKind.u64.wrap ((1:Int)*2 ^ (min (Int.tmod a1 64).toNat 64))))).toNat:Int)))) A1 c_1] _ _:=h5.retell (by simp only [List.length_set,List.length_nil,O98,Wo] <;> rfl)
   refine Zy [0] ?_
   exact Yo ⟨(by simp only [List.length_set,List.length_nil] <;> rfl),((h5.only [1,0] rfl).rds [] rfl)⟩
  ·refine HS.op (i:=10) rfl rfl rfl (T9 (Zkb rfl rfl rfl p3)) ?_; rintro _ _ ⟨rfl,rfl⟩; replace h4:St w0 F0 [_,_] _ _:=h4; refine ⟨⟨[_],(h4.only [1,0] rfl)⟩,?_⟩
   refine Yh 7 rfl (T9 (Zh 0 h4.wht (gO 1) p1 p2)) ?_
   rintro _ _ ⟨rfl,rfl⟩
   replace h4:=nf h4
   refine ⟨⟨[_],(sO h4 [1,0])⟩,?_⟩
   refine Zl [11] ?_
   refine Zf 12 rfl (Zg e2 p1 p2) ?_
   refine hS 13 rfl (Zo 0 (.int .u64) (w64 (Int.tdiv a1 64)) (IntKind.u64.wrap (((BitVec.ofInt IntKind.u64.bits (gt a0.2.2 (w64 (Int.tdiv a1 64))) ||| (BitVec.ofInt IntKind.u64.bits (IntKind.u64.wrap ((1:Int)*2 ^ (min (Int.tmod a1 64).toNat 64))))).toNat:Int))) 1 h4 rfl p1 p2) 1 fun _ w5 h6=>?_
   replace h6:St w0 F0 [O98 (a0.2.2.set (w64 (Int.tdiv a1 64)).toNat (IntKind.u64.wrap (((BitVec.ofInt IntKind.u64.bits (gt a0.2.2 (w64 (Int.tdiv a1 64))) ||| (BitVec.ofInt IntKind.u64.bits (IntKind.u64.wrap ((1:Int)*2 ^ (min (Int.tmod a1 64).toNat 64))))).toNat:Int)))) A1 c_1,Wo b1 a0.1 a0.2.1 (a0.2.2.set (w64 (Int.tdiv a1 64)).toNat (IntKind.u64.wrap (((BitVec.ofInt IntKind.u64.bits (gt a0.2.2 (w64 (Int.tdiv a1 64))) ||| (BitVec.ofInt IntKind.u64.bits (IntKind.u64.wrap ((1:Int)*2 ^ (min (Int.tmod a1 64).toNat 64))))).toNat:Int)))) A1 c_1] _ _:=h6.retell (by simp only [List.length_set,List.length_nil,O98,Wo] <;> rfl)
   refine Zy [0] ?_
   exact Yo ⟨(by simp only [List.length_set,List.length_nil] <;> rfl),((h6.only [1,0] rfl).rds [] rfl)⟩
 rintro env w6 ⟨rfl,h7⟩
 refine T6 (T4 ?_)
 refine Zd 3 ?_
 refine Zc (Zb 0 h7.wht) ?_
 refine Zd 3 ?_
 refine rS (Zs 0 h7) fun _ w7 h8=>?_
 refine Ze [] rfl ?_
 refine T6 (Za [4] ?_)
 cases H
 exact T5 (jR ⟨_,_,rfl,rfl⟩ h8 [0,0])

def Q77.f (a0:Int):Option (Option TE×Int):=if (decide (a0<5))=true then (some (none,2)) else ((Q2.f a0).bind fun r1=>(Vw r1.1 (if (!decide (r1.2=0))=true then (some (none,r1.2)) else none) (fun r2=>(if (!decide (r1.2=0))=false then ((Q8.f r2 0).bind fun r3=>(some ((some r3.2),0))) else none))))
theorem Q77.spec {a0 r} (H:Q77.f a0=some r) :
  Spec Tryz.prog 129 [.int .i64 a0] [] [] (fun v l=>∃(pv:Value) (lp:List Ch),OptC r.1 (fun d pv lp=>∃ b_0 b_1 A_2 c_2,pv=.pointer (some ⟨b_0,0,none⟩)∧lp=[Jv b_0 (.pointer (some ⟨b_1,0,none⟩)),Wo b_1 d.1 d.2.1 d.2.2 A_2 c_2,O98 d.2.2 A_2 c_2]) pv lp∧v=.tuple #[pv,.int .i64 r.2]∧l=lp ++ []):=by
 refine Zj Tryz.func129 fun w0 F0 h0=>?_
 unfold Q77.f at H
 refine T6 (Za [0] ?_)
 refine T6 (T6 (Za [0,7] ?_))
 refine jIf H (fun c1 H=>?_) fun c1 H=>?_
 ·refine T6 (Za [2,3] ?_)
  cases H
  exact T5 (jR ⟨_,_,Sa,rfl,rfl⟩ h0 [])
 refine T7 (T6 (T4 ?_))
 refine Zd 1 ?_
 refine cE H [] h0 rfl Q2.spec Zn ?_
 rintro r1 w1 _ _ H ⟨v1,l1,ho1,rfl,rfl⟩ h1
 rcases ho2:r1.1 with _ | r2
 ·rw [ho2] at ho1
  obtain ⟨rfl,rfl⟩:=ho1
  replace H:=J4 ho2 H
  obtain ⟨c2,H⟩:=Zk H
  replace h1:=nf h1
  refine Ze [4,5] rfl ?_
  refine T6 (T6 (Za [4,5,14] ?_))
  refine TZ rfl (fun e=>?_) (fun e=>by rw [c2] at e; cases e)
  refine T6 (Za [2,3] ?_)
  cases H
  exact T5 (jR ⟨_,_,Sa,rfl,rfl⟩ h1 [])
 rw [ho2] at ho1
 obtain ⟨b1,A1,c_1,rfl,rfl⟩:=ho1
 replace H:=J5 ho2 H
 obtain ⟨c3,H⟩:=Zk H
 replace h1:=nf h1
 refine Ze [4,5] rfl ?_
 refine T6 (T6 (Za [4,5,14] ?_))
 refine TZ rfl (fun e=>by rw [c3] at e; cases e) (fun e=>?_)
 refine T7 (T6 (T4 ?_))
 refine Zd 1 ?_
 refine cE H [0,0] h1 rfl Q8.spec Zn ?_
 rintro r3 w2 _ _ H ⟨A2,c_2,rfl,rfl⟩ h2
 replace h2:=nf h2
 refine Ze [4] rfl ?_
 refine T6 (T4 ?_)
 refine Zd 2 ?_
 refine rB (Ya h2) fun b2 w3 h3=>?_
 refine Ze [2,3] rfl ?_
 cases H
 exact T5 (jR ⟨_,_,(Sb ⟨_,_,_,_,rfl,rfl⟩),rfl,rfl⟩ h3 [0,0,0])

def Q150.f (a0:Tn) (a1:TQ):Option (Bool):=if (decide (1≤(a1.length:Int)))=true then (some (decide ((a1.length:Int)≤a0.2.2.2.2.2.2.1))) else (some false)
theorem Q150.spec {a0 a1 r} (H:Q150.f a0 a1=some r) :
  Spec Tryz.prog 130 [.agg #[.int .i64 a0.1,.int .i64 a0.2.1,.int .i64 a0.2.2.1,.int .i64 a0.2.2.2.1,.int .i64 a0.2.2.2.2.1,.int .i64 a0.2.2.2.2.2.1,.int .i64 a0.2.2.2.2.2.2.1,.int .i64 a0.2.2.2.2.2.2.2],.string ⟨⟨a1⟩⟩] [] [] (fun v l=>v=.bool r∧l=[]):=by
 refine Zj Tryz.func130 fun w0 F0 h0=>?_
 unfold Q150.f at H
 refine T6 (T4 ?_)
 refine rB (Ya h0) fun b1 w1 h1=>?_
 refine Ze [1,2] rfl ?_
 refine T6 (T4 ?_)
 refine Zd 4 ?_
 refine Z8 8 H (fun c1 H=>?_) fun c1 H=>?_
 ·refine Zd 3 ?_
  refine Zc (Zb 0 h1.wht) ?_
  refine Ze [4] rfl ?_
  cases H
  exact T5 (jR0 h1 [])
 refine Ze [4] rfl ?_
 cases H
 exact T5 (jR0 h1 [])

def Q146.l0:Nat→Tw→TQ→Tw→Int→Option Tv
 | 0,_,_,_,_=>none
 | k+1,a0,a1,x1,x2=>if (decide (x2<(a0.length:Int)))=true then (if 0≤x2∧x2<(a0.length:Int) then (if (!decide (((gt a0 x2).1)=a1))=true then (if (x1.length+([(gt a0 x2)]:List TC).length)*32≤140737488355328 then (Q146.l0 k a0 a1 (x1 ++ ([(gt a0 x2)]:List TC)) (w64 (x2+1))) else none) else (Q146.l0 k a0 a1 x1 (w64 (x2+1)))) else none) else (some x1)
def Q146.f (k:Nat) (a0:Tw) (a1:TQ):Option Tv:=Q146.l0 k a0 a1 ([]:List TC) 0
theorem Q146.spec {k a0 a1 A1 c_1 r} (H:Q146.f k a0 a1=some r) :
  Spec Tryz.prog 137 [.slice A1 a0.length c_1,.string ⟨⟨a1⟩⟩] [] [Yl a0 A1 c_1] (fun v l=>∃ A_0 c_0,v=.slice A_0 r.length c_0∧l=[Vn r A_0 c_0]):=by
 refine Zj Tryz.func137 fun w0 F0 h0=>?_
 unfold Q146.f at H
 refine T6 (Za [0,1] ?_)
 refine T6 (T4 ?_)
 refine rB (Z1 (.pair .str .str) ([]:List TC) h0) fun b1 w1 h1=>?_
 refine Ze [0,1,5] rfl ?_
 refine T6 (T6 (Za [0,1,5,6] ?_))
 refine TY ?_
 have h7:=(sOR h1 [0] [0])
 refine T2 (fun kk env w=>∃ x1 A2 c_2 x2,Q146.l0 kk a0 a1 x1 x2=some r∧env=[(0,.slice A1 a0.length c_1),(1,.string ⟨⟨a1⟩⟩),(5,.slice A2 x1.length c_2),(6,.int .i64 x2)]∧St w0 F0 [Vn x1 A2 c_2] [Yl a0 A1 c_1] w) (k:=k) ⟨_,_,_,_,H,rfl,h7⟩ ?_
 rintro k1 env w2 ⟨x1,A2,c_2,x2,H,rfl,h2⟩
 rcases k1 with _ | k1
 ·exact z0 H
 rw [Q146.l0] at H
 refine T6 (T6 (Za [0,1,5,6,11] ?_))
 refine jIf H (fun c1 H=>?_) fun c1 H=>?_
 ·refine T7 (T6 (TY (T6 (T4 ?_))))
  refine Zd 2 ?_
  obtain ⟨⟨p1,p2⟩,H⟩:=Zk H
  have e1:=Zw h2.wh (Zi 1) p1 p2
  refine Zc (Zg e1 p1 p2) ?_
  refine Zd 1 ?_
  refine Zc (Zh 0 h2.wht (Zi 1) p1 p2) ?_
  refine Ze [0,1,5,6,20] rfl ?_
  refine jIf H (fun c2 H=>?_) fun c2 H=>?_
  ·refine T4 (Zd 3 ?_)
   refine Zc (Zg e1 p1 p2) ?_
   refine Zc (Zh 0 h2.wht (Zi 1) p1 p2) ?_
   refine rB (Z1 (.pair .str .str) ([(gt a0 x2)]:List TC) h2) fun b2 w3 h3=>?_
   obtain ⟨p3,H⟩:=Zk H
   refine Zr (Zv 1 h3 (gO 0) p3) ?_
   rintro _ w4 ⟨A3,c_3,rfl,h4⟩
   replace h4:=nf h4
   refine Ze [0,1,5,6] rfl ?_
   refine Za [0,1,5,6] ?_
   have h5:=(sOR h4 [0] [0])
   exact ⟨k1,by omega,_,_,_,_,H,rfl,h5⟩
  refine T7 (Za [0,1,5,6] ?_)
  have h6:=(sOR h2 [0] [0])
  exact ⟨k1,by omega,_,_,_,_,H,rfl,h6⟩
 refine T1 (T6 (Za [4] ?_))
 cases H
 exact T5 (jR ⟨_,_,rfl,rfl⟩ h2 [0])

def Q137.l0:Nat→TQ→TQ→Int→Option (Int)
 | 0,_,_,_=>none
 | k+1,a0,a1,x1=>if (decide (x1<(a0.length:Int)))=true then (if (decide (x1<(a1.length:Int)))=true then (if 0≤x1∧x1<(a0.length:Int) then (if 0≤x1∧x1<(a1.length:Int) then (if (decide ((gtb a0 x1)<(gtb a1 x1)))=true then (some (-1)) else (if (decide ((gtb a1 x1)<(gtb a0 x1)))=true then (some 1) else (Q137.l0 k a0 a1 (w64 (x1+1))))) else none) else none) else (if (decide ((a0.length:Int)<(a1.length:Int)))=true then (some (-1)) else (if (decide ((a1.length:Int)<(a0.length:Int)))=true then (some 1) else (some 0)))) else (if (decide ((a0.length:Int)<(a1.length:Int)))=true then (some (-1)) else (if (decide ((a1.length:Int)<(a0.length:Int)))=true then (some 1) else (some 0)))
def Q137.f (k:Nat) (a0:TQ) (a1:TQ):Option (Int):=Q137.l0 k a0 a1 0
theorem Q137.spec {k a0 a1 r} (H:Q137.f k a0 a1=some r) :
  Spec Tryz.prog 82 [.string ⟨⟨a0⟩⟩,.string ⟨⟨a1⟩⟩] [] [] (fun v l=>v=.int .i64 r∧l=[]):=by
 refine Zj Tryz.func82 fun w0 F0 h0=>?_
 unfold Q137.f at H
 refine T6 (Za [0,1] ?_)
 refine T6 (T6 (Za [0,1,5] ?_))
 refine TY ?_
 have h5:=(sOR h0 [] [])
 refine T2 (fun kk env w=>∃ x1,Q137.l0 kk a0 a1 x1=some r∧env=[(0,.string ⟨⟨a0⟩⟩),(1,.string ⟨⟨a1⟩⟩),(5,.int .i64 x1)]∧St w0 F0 [] [] w) (k:=k) ⟨_,H,rfl,h5⟩ ?_
 rintro k1 env w1 ⟨x1,H,rfl,h1⟩
 rcases k1 with _ | k1
 ·exact z0 H
 rw [Q137.l0] at H
 refine T6 (T6 (T4 ?_))
 refine Zd 5 ?_
 refine Z8 10 H (fun c1 H=>?_) fun c1 H=>?_
 ·refine Ze [0,1,5,15] rfl ?_
  refine jIf H (fun c2 H=>?_) fun c2 H=>?_
  ·refine T7 (T6 (TY (T6 (T6 ?_))))
   refine jH h1 fun h2=>?_
   refine Zl [0,1,3,4] ?_
   obtain ⟨⟨p1,p2⟩,H⟩:=Zk H
   refine Zf 2 rfl (X1 p1 p2) ?_
   obtain ⟨⟨p3,p4⟩,H⟩:=Zk H
   refine Zf 5 rfl (X1 p3 p4) ?_
   refine Zl [6] ?_
   refine Zy [0,1,5,24] ?_
   refine jIf H (fun c3 H=>?_) fun c3 H=>?_
   ·refine T6 (Za [4] ?_)
    cases H
    exact T5 (jR0 h2 [])
   refine T7 (T6 (jH h2 fun h3=>?_))
   refine Zl [0,1,3,4] ?_
   refine Zf 2 rfl (X1 p1 p2) ?_
   refine Zf 5 rfl (X1 p3 p4) ?_
   refine Zl [6] ?_
   refine Zy [0,1,5,31] ?_
   refine jIf H (fun c4 H=>?_) fun c4 H=>?_
   ·refine T6 (Za [4] ?_)
    cases H
    exact T5 (jR0 h3 [])
   refine T7 (Za [0,1,5] ?_)
   have h4:=(sOR h3 [] [])
   exact ⟨k1,by omega,_,H,rfl,h4⟩
  refine T1 (T6 (T6 (Za [0,1,36] ?_)))
  refine jIf H (fun c5 H=>?_) fun c5 H=>?_
  ·refine T6 (Za [4] ?_)
   cases H
   exact T5 (jR0 h1 [])
  refine T7 (T6 (T6 (Za [41] ?_)))
  refine jIf H (fun c6 H=>?_) fun c6 H=>?_
  ·refine T6 (Za [4] ?_)
   cases H
   exact T5 (jR0 h1 [])
  refine T7 (T6 (Za [4] ?_))
  cases H
  exact T5 (jR0 h1 [])
 refine Ze [0,1,5,15] rfl ?_
 refine Z5 ?_
 refine T1 (T6 (T6 (Za [0,1,36] ?_)))
 refine jIf H (fun c7 H=>?_) fun c7 H=>?_
 ·refine T6 (Za [4] ?_)
  cases H
  exact T5 (jR0 h1 [])
 refine T7 (T6 (T6 (Za [41] ?_)))
 refine jIf H (fun c8 H=>?_) fun c8 H=>?_
 ·refine T6 (Za [4] ?_)
  cases H
  exact T5 (jR0 h1 [])
 refine T7 (T6 (Za [4] ?_))
 cases H
 exact T5 (jR0 h1 [])

def Q148.l0:Nat→TQ→TQ→Tv→Int→Option Tv
 | 0,_,_,_,_=>none
 | k+1,a1,a2,r1,x1=>if (decide (x1<(r1.length:Int)))=true then (if 0≤x1∧x1<(r1.length:Int) then ((Q137.f k ((gt r1 x1).1) a1).bind fun r2=>(if (decide (r2<0))=true then (Q148.l0 k a1 a2 r1 (w64 (x1+1))) else (if (0:Int)≤x1∧x1≤(r1.length:Int) then (if (([]:List TC).length+(r1.take x1.toNat).length)*32≤140737488355328 then (if ((([]:List TC) ++ (r1.take x1.toNat)).length+([(a1,a2)]:List TC).length)*32≤140737488355328 then (if 0≤x1∧x1≤(r1.length:Int) then (if (((([]:List TC) ++ (r1.take x1.toNat)) ++ ([(a1,a2)]:List TC)).length+(r1.drop x1.toNat).length)*32≤140737488355328 then (some (((([]:List TC) ++ (r1.take x1.toNat)) ++ ([(a1,a2)]:List TC)) ++ (r1.drop x1.toNat))) else none) else none) else none) else none) else none))) else none) else (if (0:Int)≤x1∧x1≤(r1.length:Int) then (if (([]:List TC).length+(r1.take x1.toNat).length)*32≤140737488355328 then (if ((([]:List TC) ++ (r1.take x1.toNat)).length+([(a1,a2)]:List TC).length)*32≤140737488355328 then (if 0≤x1∧x1≤(r1.length:Int) then (if (((([]:List TC) ++ (r1.take x1.toNat)) ++ ([(a1,a2)]:List TC)).length+(r1.drop x1.toNat).length)*32≤140737488355328 then (some (((([]:List TC) ++ (r1.take x1.toNat)) ++ ([(a1,a2)]:List TC)) ++ (r1.drop x1.toNat))) else none) else none) else none) else none) else none)
def Q148.f (k:Nat) (a0:Tw) (a1:TQ) (a2:TQ):Option Tv:=(Q146.f k a0 a1).bind fun r1=>(Q148.l0 k a1 a2 r1 0)
theorem Q148.spec {k a0 a1 a2 A1 c_1 r} (H:Q148.f k a0 a1 a2=some r) :
  Spec Tryz.prog 138 [.slice A1 a0.length c_1,.string ⟨⟨a1⟩⟩,.string ⟨⟨a2⟩⟩] [] [Yl a0 A1 c_1] (fun v l=>∃ A_0 c_0,v=.slice A_0 r.length c_0∧l=[Vn r A_0 c_0]):=by
 refine Zj Tryz.func138 fun w0 F0 h0=>?_
 unfold Q148.f at H
 refine T6 (Za [0,1,2] ?_)
 refine T6 (T4 ?_)
 refine Zd 2 ?_
 refine cE H [] h0 rfl Q146.spec (gS [0]) ?_
 rintro r1 w1 _ _ H ⟨A2,c_2,rfl,rfl⟩ h1
 replace h1:=nf h1
 refine Ze [0,1,2] rfl ?_
 refine T6 (Za [0,1,2,7] ?_)
 refine T6 (TY ?_)
 have h17:=(sOR h1 [0] [])
 refine T2 (fun kk env w=>∃ x1,Q148.l0 kk a1 a2 r1 x1=some r∧env=[(0,.slice A2 r1.length c_2),(1,.string ⟨⟨a1⟩⟩),(2,.string ⟨⟨a2⟩⟩),(7,.int .i64 x1)]∧St w0 F0 [Vn r1 A2 c_2] [] w) (k:=k) ⟨_,H,rfl,h17⟩ ?_
 rintro k1 env w2 ⟨x1,H,rfl,h2⟩
 rcases k1 with _ | k1
 ·exact z0 H
 rw [Q148.l0] at H
 refine T6 (T6 (T4 ?_))
 refine Zd 5 ?_
 refine Z8 16 H (fun c1 H=>?_) fun c1 H=>?_
 ·refine Zd 2 ?_
  obtain ⟨⟨p1,p2⟩,H⟩:=Zk H
  have e1:=Zw h2.wh (gO 0) p1 p2
  refine Zc (Zg e1 p1 p2) ?_
  refine Zd 1 ?_
  refine Zc (Zh 0 h2.wht (gO 0) p1 p2) ?_
  refine Zd 1 ?_
  refine cS H [] h2 rfl Q137.spec Zn fun r2 w3 H h3=>?_
  refine Ze [0,1,2,7,25] rfl ?_
  refine jIf H (fun c2 H=>?_) fun c2 H=>?_
  ·refine T7 (TY (Za [0,1,2,7] ?_))
   have h4:=(sOR h3 [0] [])
   exact ⟨k1,by omega,_,H,rfl,h4⟩
  refine T1 (T6 (T4 ?_))
  refine rB (Z1 (.pair .str .str) ([]:List TC) h3) fun b1 w4 h5=>?_
  refine Zd 2 ?_
  obtain ⟨⟨p3,p4⟩,H⟩:=Zk H
  have e2:=h5.cap (gO 1)
  refine Zc (W0 (r1.take x1.toNat) x1 e2 p3 p4) ?_
  obtain ⟨p5,H⟩:=Zk H
  refine Zr (Zv 0 h5 ((Gives.of 0 rfl Yg).trans (Ug (.pair .str .str) (r1.take x1.toNat) x1 p3 p4)) p5) ?_
  rintro _ w5 ⟨A3,c_3,rfl,h6⟩
  replace h6:=nf h6
  refine Ze [0,1,2,7,8] rfl ?_
  refine T6 (T4 ?_)
  refine Zd 4 ?_
  refine rB (Z1 (.pair .str .str) ([(a1,a2)]:List TC) h6) fun b2 w6 h7=>?_
  obtain ⟨p6,H⟩:=Zk H
  refine Zr (Zv 1 h7 (gO 0) p6) ?_
  rintro _ w7 ⟨A4,c_4,rfl,h8⟩
  replace h8:=nf h8
  refine Ze [0,7,8] rfl ?_
  refine T6 (T4 ?_)
  refine Zd 3 ?_
  obtain ⟨⟨p7,p8⟩,H⟩:=Zk H
  have e3:=h8.cap (gO 2)
  refine Zc (Vq (r1.drop x1.toNat) x1 (r1.length:Int) e3 p7 p8 (Int.le_refl _) (Xn _ _)) ?_
  obtain ⟨p9,H⟩:=Zk H
  refine Zr (Zv 0 h8 ((Gives.of 1 rfl Yg).trans (W8 (.pair .str .str) (r1.drop x1.toNat) x1 (r1.length:Int) p7 p8 (Int.le_refl _) (Xn _ _))) p9) ?_
  rintro _ w8 ⟨A5,c_5,rfl,h9⟩
  replace h9:=nf h9
  refine Ze [6] rfl ?_
  have h10:=sO h9 [0]
  replace h10:=nf h10
  cases H
  exact T5 (jR ⟨_,_,rfl,rfl⟩ h10 [0])
 refine Ze [0,1,2,7,25] rfl ?_
 refine Z5 ?_
 refine T1 (T6 (T4 ?_))
 refine rB (Z1 (.pair .str .str) ([]:List TC) h2) fun b3 w9 h11=>?_
 refine Zd 2 ?_
 obtain ⟨⟨p10,p11⟩,H⟩:=Zk H
 have e4:=h11.cap (gO 1)
 refine Zc (W0 (r1.take x1.toNat) x1 e4 p10 p11) ?_
 obtain ⟨p12,H⟩:=Zk H
 refine Zr (Zv 0 h11 ((Gives.of 0 rfl Yg).trans (Ug (.pair .str .str) (r1.take x1.toNat) x1 p10 p11)) p12) ?_
 rintro _ w10 ⟨A6,c_6,rfl,h12⟩
 replace h12:=nf h12
 refine Ze [0,1,2,7,8] rfl ?_
 refine T6 (T4 ?_)
 refine Zd 4 ?_
 refine rB (Z1 (.pair .str .str) ([(a1,a2)]:List TC) h12) fun b4 w11 h13=>?_
 obtain ⟨p13,H⟩:=Zk H
 refine Zr (Zv 1 h13 (gO 0) p13) ?_
 rintro _ w12 ⟨A7,c_7,rfl,h14⟩
 replace h14:=nf h14
 refine Ze [0,7,8] rfl ?_
 refine T6 (T4 ?_)
 refine Zd 3 ?_
 obtain ⟨⟨p14,p15⟩,H⟩:=Zk H
 have e5:=h14.cap (gO 2)
 refine Zc (Vq (r1.drop x1.toNat) x1 (r1.length:Int) e5 p14 p15 (Int.le_refl _) (Xn _ _)) ?_
 obtain ⟨p16,H⟩:=Zk H
 refine Zr (Zv 0 h14 ((Gives.of 1 rfl Yg).trans (W8 (.pair .str .str) (r1.drop x1.toNat) x1 (r1.length:Int) p14 p15 (Int.le_refl _) (Xn _ _))) p16) ?_
 rintro _ w13 ⟨A8,c_8,rfl,h15⟩
 replace h15:=nf h15
 refine Ze [6] rfl ?_
 have h16:=sO h15 [0]
 replace h16:=nf h16
 cases H
 exact T5 (jR ⟨_,_,rfl,rfl⟩ h16 [0])

mutual
def Q135.l0:Nat→Tn→Tm→Tw→Int→Option Tv
 | 0,_,_,_,_=>none
 | k+1,a0,a1,x1,x2=>if (decide (x2<(a1.1.length:Int)))=true then (Q135.l1 k a0 a1 x1 x2 (decide (x2<150))) else (Q135.l1 k a0 a1 x1 x2 false)
def Q135.l1:Nat→Tn→Tm→Tw→Int→Bool→Option Tv
 | 0,_,_,_,_,_=>none
 | k+1,a0,a1,x1,x2,x3=>if x3=true then (if 0≤x2∧x2<(a1.1.length:Int) then ((Q150.f a0 ((gt a1.1 x2).1)).bind fun r2=>(if r2=true then (Q135.l2 k a0 a1 x1 x2 (decide ((((gt a1.1 x2).2).length:Int)≤a0.2.2.2.2.2.2.2))) else (Q135.l2 k a0 a1 x1 x2 false))) else none) else (some x1)
def Q135.l2:Nat→Tn→Tm→Tw→Int→Bool→Option Tv
 | 0,_,_,_,_,_=>none
 | k+1,a0,a1,x1,x2,x4=>if x4=true then (if 0≤x2∧x2<(a1.1.length:Int) then ((Q148.f k x1 ((gt a1.1 x2).1) ((gt a1.1 x2).2)).bind fun r1=>(Q135.l0 k a0 a1 r1 (w64 (x2+1)))) else none) else (Q135.l0 k a0 a1 x1 (w64 (x2+1)))
end
def Q135.f (k:Nat) (a0:Tn) (a1:Tm):Option Tv:=Q135.l0 k a0 a1 ([]:List TC) 0
theorem Q135.spec {k a0 a1 A1 c_1 A2 c_2 A3 c_3 A4 c_4 r} (H:Q135.f k a0 a1=some r) :
  Spec Tryz.prog 88 [.agg #[.int .i64 a0.1,.int .i64 a0.2.1,.int .i64 a0.2.2.1,.int .i64 a0.2.2.2.1,.int .i64 a0.2.2.2.2.1,.int .i64 a0.2.2.2.2.2.1,.int .i64 a0.2.2.2.2.2.2.1,.int .i64 a0.2.2.2.2.2.2.2],.agg #[.slice A1 a1.1.length c_1,.slice A2 a1.2.1.length c_2,.slice A3 a1.2.2.1.length c_3,.slice A4 a1.2.2.2.length c_4]] [] [Yl a1.1 A1 c_1,Yp a1.2.1 A2 c_2,R5 a1.2.2.1 A3 c_3,R5 a1.2.2.2 A4 c_4] (fun v l=>∃ A_0 c_0,v=.slice A_0 r.length c_0∧l=[Vn r A_0 c_0]):=by
 refine Zj Tryz.func88 fun w0 F0 h0=>?_
 unfold Q135.f at H
 refine T6 (T4 ?_)
 refine rB (Ya h0) fun b1 w1 h1=>?_
 refine rB (Ya h1) fun b2 w2 h2=>?_
 refine Ze [2,3] rfl ?_
 refine T6 (T4 ?_)
 refine rB (Z1 (.pair .str .str) ([]:List TC) h2) fun b3 w3 h3=>?_
 refine Ze [2,3,5] rfl ?_
 refine T6 (T6 (Za [2,3,5,6] ?_))
 refine TY ?_
 have h18:=(sOR h3 [2,1,0] [0,1,2,3])
 refine T2 (fun kk env w=>∃ x1 A5 c_5 x2,Q135.l0 kk a0 a1 x1 x2=some r∧env=[(2,.pointer (some ⟨b1,0,none⟩)),(3,.pointer (some ⟨b2,0,none⟩)),(5,.slice A5 x1.length c_5),(6,.int .i64 x2)]∧St w0 F0 [X23 b1 a0.1 a0.2.1 a0.2.2.1 a0.2.2.2.1 a0.2.2.2.2.1 a0.2.2.2.2.2.1 a0.2.2.2.2.2.2.1 a0.2.2.2.2.2.2.2,X28 b2 a1.1 A1 c_1 a1.2.1 A2 c_2 a1.2.2.1 A3 c_3 a1.2.2.2 A4 c_4,Vn x1 A5 c_5] [Yl a1.1 A1 c_1,Yp a1.2.1 A2 c_2,R5 a1.2.2.1 A3 c_3,R5 a1.2.2.2 A4 c_4] w) (k:=k) ⟨_,_,_,_,H,rfl,h18⟩ ?_
 rintro k1 env w4 ⟨x1,A5,c_5,x2,H,rfl,h4⟩
 rcases k1 with _ | k1
 ·exact z0 H
 rw [Q135.l0] at H
 refine T6 (T6 ?_)
 refine T3 (fun env w=>∃ k2 x3,Q135.l1 k2 a0 a1 x1 x2 x3=some r∧env=[(2,.pointer (some ⟨b1,0,none⟩)),(3,.pointer (some ⟨b2,0,none⟩)),(5,.slice A5 x1.length c_5),(6,.int .i64 x2),(16,.bool x3)]∧St w0 F0 [X23 b1 a0.1 a0.2.1 a0.2.2.1 a0.2.2.2.1 a0.2.2.2.2.1 a0.2.2.2.2.2.1 a0.2.2.2.2.2.2.1 a0.2.2.2.2.2.2.2,X28 b2 a1.1 A1 c_1 a1.2.1 A2 c_2 a1.2.2.1 A3 c_3 a1.2.2.2 A4 c_4,Vn x1 A5 c_5] [Yl a1.1 A1 c_1,Yp a1.2.1 A2 c_2,R5 a1.2.2.1 A3 c_3,R5 a1.2.2.2 A4 c_4] w∧k2≤k1) ?_ ?_
 ·refine T4 (Zd 2 ?_)
  refine Zc (Zb 1 h4.wht) ?_
  refine Zd 3 ?_
  refine Z8 13 H (fun c4 H=>?_) fun c4 H=>?_
  ·refine Ze [2,3,5,6,16] rfl ?_
   have h16:=(sOR h4 [0,0,0] [0,1,2,3])
   exact ⟨k1,_,H,rfl,h16,T8 _⟩
  refine Ze [2,3,5,6,16] rfl ?_
  have h17:=(sOR h4 [0,0,0] [0,1,2,3])
  exact ⟨k1,_,H,rfl,h17,T8 _⟩
 rintro env w6 ⟨k2,x3,H,rfl,h5,hk2⟩
 rcases k2 with _ | k2
 ·exact z0 H
 rw [Q135.l1] at H
 refine jIf H (fun c1 H=>?_) fun c1 H=>?_
 ·refine T7 (T6 (TY (T6 ?_)))
  refine T3 (fun env w=>∃ k3 x4,Q135.l2 k3 a0 a1 x1 x2 x4=some r∧env=[(2,.pointer (some ⟨b1,0,none⟩)),(3,.pointer (some ⟨b2,0,none⟩)),(5,.slice A5 x1.length c_5),(6,.int .i64 x2),(38,.bool x4)]∧St w0 F0 [X23 b1 a0.1 a0.2.1 a0.2.2.1 a0.2.2.2.1 a0.2.2.2.2.1 a0.2.2.2.2.2.1 a0.2.2.2.2.2.2.1 a0.2.2.2.2.2.2.2,X28 b2 a1.1 A1 c_1 a1.2.1 A2 c_2 a1.2.2.1 A3 c_3 a1.2.2.2 A4 c_4,Vn x1 A5 c_5] [Yl a1.1 A1 c_1,Yp a1.2.1 A2 c_2,R5 a1.2.2.1 A3 c_3,R5 a1.2.2.2 A4 c_4] w∧k3≤k2) ?_ ?_
  ·refine jH h5 fun h11=>?_
   refine Zl [1,3] ?_
   refine Zf 0 rfl (Zb 0 wI) ?_
   refine Zf 2 rfl (Zb 1 wI) ?_
   obtain ⟨⟨p3,p4⟩,H⟩:=Zk H
   have e2:=Zw h11.wh (Zi 3) p3 p4
   refine Zf 4 rfl (Zg e2 p3 p4) ?_
   refine Zl [5] ?_
   refine Zf 6 rfl (Zh 0 wI (Zi 3) p3 p4) ?_
   refine cSJ 7 rfl H [] h11 rfl Q150.spec Zn 0 fun r2 w10 H h12=>?_
   refine Zl [8] ?_
   refine Wu 27 H (fun c3 H=>?_) fun c3 H=>?_
   ·refine Zl [9,11,16] ?_
    refine Zf 10 rfl (Zb 1 wI) ?_
    refine Zf 12 rfl (Zg e2 p3 p4) ?_
    refine Zl [13] ?_
    refine Zf 14 rfl (Zh 1 wI (Zi 3) p3 p4) ?_
    refine Zl [15] ?_
    refine Zf 17 rfl (Zb 0 wI) ?_
    refine Zl [18,19] ?_
    refine Zy [2,3,5,6,38] ?_
    have h13:=(sOR h12 [0,0,0] [0,1,2,3])
    exact ⟨k2,_,H,rfl,h13,T8 _⟩
   refine Zl [9,10,11,12,13,14,15,16,17,18,19] ?_
   refine Zy [2,3,5,6,38] ?_
   have h14:=(sOR h12 [0,0,0] [0,1,2,3])
   exact ⟨k2,_,H,rfl,h14,T8 _⟩
  rintro env w8 ⟨k3,x4,H,rfl,h6,hk3⟩
  rcases k3 with _ | k3
  ·exact z0 H
  rw [Q135.l2] at H
  refine jIf H (fun c2 H=>?_) fun c2 H=>?_
  ·refine jH h6 fun h7=>?_
   refine Zl [0,1,3,7,9] ?_
   refine Zf 2 rfl (Zb 1 wI) ?_
   obtain ⟨⟨p1,p2⟩,H⟩:=Zk H
   have e1:=Zw h7.wh (Zi 3) p1 p2
   refine Zf 4 rfl (Zg e1 p1 p2) ?_
   refine Zl [5] ?_
   refine Zf 6 rfl (Zh 0 wI (Zi 3) p1 p2) ?_
   refine Zf 8 rfl (Zb 1 wI) ?_
   refine Zf 10 rfl (Zg e1 p1 p2) ?_
   refine Zl [11] ?_
   refine Zf 12 rfl (Zh 1 wI (Zi 3) p1 p2) ?_
   refine cEJ 13 rfl H [] h7 rfl Q148.spec (Xo (gO 2) Zn) ?_
   rintro r1 w9 _ _ H ⟨A6,c_6,rfl,rfl⟩ h8
   replace h8:=nf h8
   refine ⟨⟨[_],h8⟩,?_⟩
   refine Zl [14] ?_
   refine Zy [2,3,5,6] ?_
   refine Za [2,3,5,6] ?_
   have h9:=(sOR h8 [1,1,0] [0,1,2,3])
   exact ⟨k3,by omega,_,_,_,_,H,rfl,h9⟩
  refine T7 (Za [2,3,5,6] ?_)
  have h10:=(sOR h6 [0,0,0] [0,1,2,3])
  exact ⟨k3,by omega,_,_,_,_,H,rfl,h10⟩
 refine T1 (T6 (Za [4] ?_))
 have h15:=sO h5 [2]
 replace h15:=nf h15
 cases H
 exact T5 (jR ⟨_,_,rfl,rfl⟩ h15 [0])

def Q134.f (a0:Tm) (a1:Int) (a2:Int):Option (Int):=if (decide ((a0.2.2.2.length:Int)=0))=true then (some a2) else (if 0<(a0.2.2.2.length:Int) then (if 0≤(Int.tmod a1 (a0.2.2.2.length:Int))∧(Int.tmod a1 (a0.2.2.2.length:Int))<(a0.2.2.2.length:Int) then (if 0<a2 then (some (w64 (1+(Int.tmod (w64 ((gt a0.2.2.2 (Int.tmod a1 (a0.2.2.2.length:Int))))) a2)))) else none) else none) else none)
theorem Q134.spec {a0 a1 a2 A1 c_1 A2 c_2 A3 c_3 A4 c_4 r} (H:Q134.f a0 a1 a2=some r) :
  Spec Tryz.prog 89 [.agg #[.slice A1 a0.1.length c_1,.slice A2 a0.2.1.length c_2,.slice A3 a0.2.2.1.length c_3,.slice A4 a0.2.2.2.length c_4],.int .i64 a1,.int .i64 a2] [] [Yl a0.1 A1 c_1,Yp a0.2.1 A2 c_2,R5 a0.2.2.1 A3 c_3,R5 a0.2.2.2 A4 c_4] (fun v l=>v=.int .i64 r∧l=[]):=by
 refine Zj Tryz.func89 fun w0 F0 h0=>?_
 unfold Q134.f at H
 refine T6 (T4 ?_)
 refine rB (Ya h0) fun b1 w1 h1=>?_
 refine Ze [1,2,3] rfl ?_
 refine T6 (T6 (T4 ?_))
 refine Zd 1 ?_
 refine Zc (Zb 0 h1.wht) ?_
 refine Ze [1,2,3,10] rfl ?_
 refine jIf H (fun c1 H=>?_) fun c1 H=>?_
 ·refine T6 (Za [6] ?_)
  cases H
  exact T5 (jR0 h1 [])
 refine T7 (T6 (jH h1 fun h2=>?_))
 refine Zl [0,2,3,10] ?_
 refine Zf 1 rfl (Zb 0 wI) ?_
 refine Zf 4 rfl (Zb 0 wI) ?_
 refine Zl [5] ?_
 obtain ⟨p1,H⟩:=Zk H
 refine Zf 6 rfl (Za8 p1) ?_
 obtain ⟨⟨p2,p3⟩,H⟩:=Zk H
 have e1:=Zw h2.wh (Zi 4) p2 p3
 refine Zf 7 rfl (Zg e1 p2 p3) ?_
 refine Zf 8 rfl (Zh 0 wI (Zi 4) p2 p3) ?_
 refine Zl [9] ?_
 obtain ⟨p4,H⟩:=Zk H
 refine Zf 11 rfl (Za8 p4) ?_
 refine Zl [12,13] ?_
 refine Zy [6] ?_
 cases H
 exact T5 (jR0 h2 [])

def Q138.l0:Nat→TQ→TQ→Int→Option TJ
 | 0,_,_,_=>none
 | k+1,a0,a1,x1=>if (decide (x1≤(a1.length:Int)))=true then (if (0:Int)≤x1∧x1≤(a1.length:Int) then ((Q137.f k a0 (a1.take x1.toNat)).bind fun r2=>(if (decide (r2<0))=true then (some ((a1.take x1.toNat),true)) else (Q138.l0 k a0 a1 (w64 (x1+1))))) else none) else (some (([]:List UInt8),false))
def Q138.f (k:Nat) (a0:TQ) (a1:TQ):Option TJ:=(Q137.f k a0 a1).bind fun r1=>(if (decide (0≤r1))=true then (some (([]:List UInt8),false)) else (Q138.l0 k a0 a1 0))
theorem Q138.spec {k a0 a1 r} (H:Q138.f k a0 a1=some r) :
  Spec Tryz.prog 90 [.string ⟨⟨a0⟩⟩,.string ⟨⟨a1⟩⟩] [] [] (fun v l=>v=.tuple #[.string ⟨⟨r.1⟩⟩,.bool r.2]∧l=[]):=by
 refine Zj Tryz.func90 fun w0 F0 h0=>?_
 unfold Q138.f at H
 refine T6 (Za [0,1] ?_)
 refine T6 (T6 (T4 ?_))
 refine Zd 2 ?_
 refine cS H [] h0 rfl Q137.spec Zn fun r1 w1 H h1=>?_
 refine Ze [0,1,10] rfl ?_
 refine jIf H (fun c1 H=>?_) fun c1 H=>?_
 ·refine T6 (Za [4,5] ?_)
  cases H
  exact T5 (jR0 h1 [])
 refine T7 (T6 (T6 (Za [0,1,6] ?_)))
 refine TY ?_
 have h5:=(sOR h1 [] [])
 refine T2 (fun kk env w=>∃ x1,Q138.l0 kk a0 a1 x1=some r∧env=[(0,.string ⟨⟨a0⟩⟩),(1,.string ⟨⟨a1⟩⟩),(6,.int .i64 x1)]∧St w0 F0 [] [] w) (k:=k) ⟨_,H,rfl,h5⟩ ?_
 rintro k1 env w2 ⟨x1,H,rfl,h2⟩
 rcases k1 with _ | k1
 ·exact z0 H
 rw [Q138.l0] at H
 refine T6 (T6 (Za [0,1,6,14] ?_))
 refine jIf H (fun c2 H=>?_) fun c2 H=>?_
 ·refine T7 (T6 (TY (T6 (T4 ?_))))
  refine Zd 3 ?_
  obtain ⟨⟨p1,p2⟩,H⟩:=Zk H
  refine Zc (Zbo 0 x1 p1 p2 (Zig _ _)) ?_
  refine cS H [] h2 rfl Q137.spec Zn fun r2 w3 H h3=>?_
  refine Ze [0,1,6,22] rfl ?_
  refine jIf H (fun c3 H=>?_) fun c3 H=>?_
  ·refine T6 (T4 ?_)
   refine Zd 2 ?_
   refine Zc (Zbo 0 x1 p1 p2 (Zig _ _)) ?_
   refine Ze [4,5] rfl ?_
   cases H
   exact T5 (jR0 h3 [])
  refine T7 (Za [0,1,6] ?_)
  have h4:=(sOR h3 [] [])
  exact ⟨k1,by omega,_,H,rfl,h4⟩
 refine T1 (T6 (Za [4,5] ?_))
 cases H
 exact T5 (jR0 h2 [])

mutual
def Q136.l0:Nat→Tn→Tm→Tt→Int→Option Tp
 | 0,_,_,_,_=>none
 | k+1,a0,a1,x1,x2=>if (decide (x2<(a1.2.1.length:Int)))=true then (Q136.l1 k a0 a1 x1 x2 (decide (x2<100))) else (Q136.l1 k a0 a1 x1 x2 false)
def Q136.l1:Nat→Tn→Tm→Tt→Int→Bool→Option Tp
 | 0,_,_,_,_,_=>none
 | k+1,a0,a1,x1,x2,x3=>if x3=true then (if 0≤x2∧x2<(a1.2.1.length:Int) then ((Q150.f a0 ((gt a1.2.1 x2).1)).bind fun r1=>(if r1=true then (if (decide ((((gt a1.2.1 x2).2.2).length:Int)≤a0.2.2.2.2.2.2.2))=true then (if (!((gt a1.2.1 x2).2.1))=true then (Q136.l2 k a0 a1 x1 x2 true) else (Q136.l2 k a0 a1 x1 x2 (decide (((gt a1.2.1 x2).2.2)=([]:List UInt8))))) else (Q136.l2 k a0 a1 x1 x2 false)) else (Q136.l2 k a0 a1 x1 x2 false))) else none) else (some x1)
def Q136.l2:Nat→Tn→Tm→Tt→Int→Bool→Option Tp
 | 0,_,_,_,_,_=>none
 | k+1,a0,a1,x1,x2,x4=>if x4=true then (if (x1.length+([(gt a1.2.1 x2)]:List Tz).length)*40≤140737488355328 then (Q136.l0 k a0 a1 (x1 ++ ([(gt a1.2.1 x2)]:List Tz)) (w64 (x2+1))) else none) else (Q136.l0 k a0 a1 x1 (w64 (x2+1)))
end
def Q136.f (k:Nat) (a0:Tn) (a1:Tm):Option Tp:=Q136.l0 k a0 a1 ([]:List Tz) 0
theorem Q136.spec {k a0 a1 A1 c_1 A2 c_2 A3 c_3 A4 c_4 r} (H:Q136.f k a0 a1=some r) :
  Spec Tryz.prog 92 [.agg #[.int .i64 a0.1,.int .i64 a0.2.1,.int .i64 a0.2.2.1,.int .i64 a0.2.2.2.1,.int .i64 a0.2.2.2.2.1,.int .i64 a0.2.2.2.2.2.1,.int .i64 a0.2.2.2.2.2.2.1,.int .i64 a0.2.2.2.2.2.2.2],.agg #[.slice A1 a1.1.length c_1,.slice A2 a1.2.1.length c_2,.slice A3 a1.2.2.1.length c_3,.slice A4 a1.2.2.2.length c_4]] [] [Yl a1.1 A1 c_1,Yp a1.2.1 A2 c_2,R5 a1.2.2.1 A3 c_3,R5 a1.2.2.2 A4 c_4] (fun v l=>∃ A_0 c_0,v=.slice A_0 r.length c_0∧l=[Ju r A_0 c_0]):=by
 refine Zj Tryz.func92 fun w0 F0 h0=>?_
 unfold Q136.f at H
 refine T6 (T4 ?_)
 refine rB (Ya h0) fun b1 w1 h1=>?_
 refine rB (Ya h1) fun b2 w2 h2=>?_
 refine Ze [2,3] rfl ?_
 refine T6 (T4 ?_)
 refine rB (Z1 (.pair .str (.pair .bool .str)) ([]:List Tz) h2) fun b3 w3 h3=>?_
 refine Ze [2,3,5] rfl ?_
 refine T6 (T6 (Za [2,3,5,6] ?_))
 refine TY ?_
 have h22:=(sOR h3 [2,1,0] [0,1,2,3])
 refine T2 (fun kk env w=>∃ x1 A5 c_5 x2,Q136.l0 kk a0 a1 x1 x2=some r∧env=[(2,.pointer (some ⟨b1,0,none⟩)),(3,.pointer (some ⟨b2,0,none⟩)),(5,.slice A5 x1.length c_5),(6,.int .i64 x2)]∧St w0 F0 [X23 b1 a0.1 a0.2.1 a0.2.2.1 a0.2.2.2.1 a0.2.2.2.2.1 a0.2.2.2.2.2.1 a0.2.2.2.2.2.2.1 a0.2.2.2.2.2.2.2,X28 b2 a1.1 A1 c_1 a1.2.1 A2 c_2 a1.2.2.1 A3 c_3 a1.2.2.2 A4 c_4,Ju x1 A5 c_5] [Yl a1.1 A1 c_1,Yp a1.2.1 A2 c_2,R5 a1.2.2.1 A3 c_3,R5 a1.2.2.2 A4 c_4] w) (k:=k) ⟨_,_,_,_,H,rfl,h22⟩ ?_
 rintro k1 env w4 ⟨x1,A5,c_5,x2,H,rfl,h4⟩
 rcases k1 with _ | k1
 ·exact z0 H
 rw [Q136.l0] at H
 refine T6 (T6 ?_)
 refine T3 (fun env w=>∃ k2 x3,Q136.l1 k2 a0 a1 x1 x2 x3=some r∧env=[(2,.pointer (some ⟨b1,0,none⟩)),(3,.pointer (some ⟨b2,0,none⟩)),(5,.slice A5 x1.length c_5),(6,.int .i64 x2),(17,.bool x3)]∧St w0 F0 [X23 b1 a0.1 a0.2.1 a0.2.2.1 a0.2.2.2.1 a0.2.2.2.2.1 a0.2.2.2.2.2.1 a0.2.2.2.2.2.2.1 a0.2.2.2.2.2.2.2,X28 b2 a1.1 A1 c_1 a1.2.1 A2 c_2 a1.2.2.1 A3 c_3 a1.2.2.2 A4 c_4,Ju x1 A5 c_5] [Yl a1.1 A1 c_1,Yp a1.2.1 A2 c_2,R5 a1.2.2.1 A3 c_3,R5 a1.2.2.2 A4 c_4] w∧k2≤k1) ?_ ?_
 ·refine T4 (Zd 2 ?_)
  refine Zc (Zb 1 h4.wht) ?_
  refine Zd 3 ?_
  refine Z8 14 H (fun c6 H=>?_) fun c6 H=>?_
  ·refine Ze [2,3,5,6,17] rfl ?_
   have h20:=(sOR h4 [0,0,0] [0,1,2,3])
   exact ⟨k1,_,H,rfl,h20,T8 _⟩
  refine Ze [2,3,5,6,17] rfl ?_
  have h21:=(sOR h4 [0,0,0] [0,1,2,3])
  exact ⟨k1,_,H,rfl,h21,T8 _⟩
 rintro env w6 ⟨k2,x3,H,rfl,h5,hk2⟩
 rcases k2 with _ | k2
 ·exact z0 H
 rw [Q136.l1] at H
 refine jIf H (fun c1 H=>?_) fun c1 H=>?_
 ·refine T7 (T6 (TY (T6 (T4 ?_))))
  refine Zd 1 ?_
  refine Zc (Zb 1 h5.wht) ?_
  refine Zd 1 ?_
  obtain ⟨⟨p1,p2⟩,H⟩:=Zk H
  have e1:=Zw h5.wh (Zi 4) p1 p2
  refine Zc (Zg e1 p1 p2) ?_
  refine Zc (Zh 0 h5.wht (Zi 4) p1 p2) ?_
  refine rB (Ym h5) fun b4 w7 h6=>?_
  refine rS (Zs 0 h6) fun _ w8 h7=>?_
  refine Ze [2,3,5,6,7] rfl ?_
  refine T6 (T3 (fun env w=>∃ k3 x4,Q136.l2 k3 a0 a1 x1 x2 x4=some r∧env=[(2,.pointer (some ⟨b1,0,none⟩)),(3,.pointer (some ⟨b2,0,none⟩)),(5,.slice A5 x1.length c_5),(6,.int .i64 x2),(7,.pointer (some ⟨b4,0,none⟩)),(46,.bool x4)]∧St w0 F0 [X23 b1 a0.1 a0.2.1 a0.2.2.1 a0.2.2.2.1 a0.2.2.2.2.1 a0.2.2.2.2.2.1 a0.2.2.2.2.2.2.1 a0.2.2.2.2.2.2.2,X28 b2 a1.1 A1 c_1 a1.2.1 A2 c_2 a1.2.2.1 A3 c_3 a1.2.2.2 A4 c_4,Zm6 b4 ((gt a1.2.1 x2).1) ((gt a1.2.1 x2).2.1) ((gt a1.2.1 x2).2.2),Ju x1 A5 c_5] [Yl a1.1 A1 c_1,Yp a1.2.1 A2 c_2,R5 a1.2.2.1 A3 c_3,R5 a1.2.2.2 A4 c_4] w∧k3≤k2) ?_ ?_)
  ·refine T4 (Zc (Zb 1 h7.wht) ?_)
   refine Zd 1 ?_
   refine Zc (Zb 0 h7.wht) ?_
   refine cS H [] h7 rfl Q150.spec Zn fun r1 w13 H h14=>?_
   refine Zd 1 ?_
   refine Z8 29 H (fun c3 H=>?_) fun c3 H=>?_
   ·refine Zd 1 ?_
    refine Zc (Zb 0 h14.wht) ?_
    refine Zd 2 ?_
    refine Zc (Zb 1 h14.wht) ?_
    refine Zd 3 ?_
    refine Z8 37 H (fun c4 H=>?_) fun c4 H=>?_
    ·refine Zd 1 ?_
     refine Zc (Zb 0 h14.wht) ?_
     refine Zd 2 ?_
     refine Z8 41 H (fun c5 H=>?_) fun c5 H=>?_
     ·refine Ze [2,3,5,6,7,46] rfl ?_
      have h15:=(sOR h14 [1,1,0,0] [0,1,2,3])
      exact ⟨k2,_,H,rfl,h15,T8 _⟩
     refine Zd 1 ?_
     refine Zc (Zb 0 h14.wht) ?_
     refine Ze [2,3,5,6,7,46] rfl ?_
     have h16:=(sOR h14 [1,1,0,0] [0,1,2,3])
     exact ⟨k2,_,H,rfl,h16,T8 _⟩
    refine Ze [2,3,5,6,7,46] rfl ?_
    have h17:=(sOR h14 [1,1,0,0] [0,1,2,3])
    exact ⟨k2,_,H,rfl,h17,T8 _⟩
   refine Ze [2,3,5,6,7,46] rfl ?_
   have h18:=(sOR h14 [1,1,0,0] [0,1,2,3])
   exact ⟨k2,_,H,rfl,h18,T8 _⟩
  rintro env w10 ⟨k3,x4,H,rfl,h8,hk3⟩
  rcases k3 with _ | k3
  ·exact z0 H
  rw [Q136.l2] at H
  refine jIf H (fun c2 H=>?_) fun c2 H=>?_
  ·refine T4 (Zd 1 ?_)
   refine Zc (Zb 2 h8.wht) ?_
   refine rB (Z1 (.pair .str (.pair .bool .str)) ([(gt a1.2.1 x2)]:List Tz) h8) fun b5 w11 h9=>?_
   obtain ⟨p3,H⟩:=Zk H
   refine Zr (Zv 4 h9 (gO 0) p3) ?_
   rintro _ w12 ⟨A6,c_6,rfl,h10⟩
   replace h10:=nf h10
   refine Ze [2,3,5,6] rfl ?_
   have h11:=sO h10 [0,1,1]
   replace h11:=nf h11
   refine Za [2,3,5,6] ?_
   have h12:=(sOR h11 [1,1,0] [0,1,2,3])
   exact ⟨k3,by omega,_,_,_,_,H,rfl,h12⟩
  refine T7 (Za [2,3,5,6] ?_)
  have h13:=(sOR h8 [0,0,1] [0,1,2,3])
  exact ⟨k3,by omega,_,_,_,_,H,rfl,h13⟩
 refine T1 (T6 (Za [4] ?_))
 have h19:=sO h5 [2]
 replace h19:=nf h19
 cases H
 exact T5 (jR ⟨_,_,rfl,rfl⟩ h19 [0])

def Q144.l0:Nat→Tt→Tz→Tt→Bool→Int→Option Tp
 | 0,_,_,_,_,_=>none
 | k+1,a0,a1,x1,x2,x3=>if (decide (x3<(a0.length:Int)))=true then (if (!x2)=true then (if 0≤x3∧x3<(a0.length:Int) then ((Q137.f k a1.1 ((gt a0 x3).1)).bind fun r1=>(if (decide (r1≤0))=true then (if (x1.length+([a1]:List Tz).length)*40≤140737488355328 then (if (!decide (((gt a0 x3).1)=a1.1))=true then (if ((x1 ++ ([a1]:List Tz)).length+([(gt a0 x3)]:List Tz).length)*40≤140737488355328 then (Q144.l0 k a0 a1 ((x1 ++ ([a1]:List Tz)) ++ ([(gt a0 x3)]:List Tz)) true (w64 (x3+1))) else none) else (Q144.l0 k a0 a1 (x1 ++ ([a1]:List Tz)) true (w64 (x3+1)))) else none) else (if (!decide (((gt a0 x3).1)=a1.1))=true then (if (x1.length+([(gt a0 x3)]:List Tz).length)*40≤140737488355328 then (Q144.l0 k a0 a1 (x1 ++ ([(gt a0 x3)]:List Tz)) x2 (w64 (x3+1))) else none) else (Q144.l0 k a0 a1 x1 x2 (w64 (x3+1)))))) else none) else (if 0≤x3∧x3<(a0.length:Int) then (if (!decide (((gt a0 x3).1)=a1.1))=true then (if (x1.length+([(gt a0 x3)]:List Tz).length)*40≤140737488355328 then (Q144.l0 k a0 a1 (x1 ++ ([(gt a0 x3)]:List Tz)) x2 (w64 (x3+1))) else none) else (Q144.l0 k a0 a1 x1 x2 (w64 (x3+1)))) else none)) else (if (!x2)=true then (if (x1.length+([a1]:List Tz).length)*40≤140737488355328 then (some (x1 ++ ([a1]:List Tz))) else none) else (some x1))
def Q144.f (k:Nat) (a0:Tt) (a1:Tz):Option Tp:=Q144.l0 k a0 a1 ([]:List Tz) false 0
theorem Q144.spec {k a0 a1 A1 c_1 r} (H:Q144.f k a0 a1=some r) :
  Spec Tryz.prog 199 [.slice A1 a0.length c_1,.agg #[.string ⟨⟨a1.1⟩⟩,.bool a1.2.1,.string ⟨⟨a1.2.2⟩⟩]] [] [Yp a0 A1 c_1] (fun v l=>∃ A_0 c_0,v=.slice A_0 r.length c_0∧l=[Ju r A_0 c_0]):=by
 refine Zj Tryz.func199 fun w0 F0 h0=>?_
 unfold Q144.f at H
 refine T6 (T4 ?_)
 refine rB (Ya h0) fun b1 w1 h1=>?_
 refine Ze [0,3] rfl ?_
 refine T6 (T4 ?_)
 refine rB (Z1 (.pair .str (.pair .bool .str)) ([]:List Tz) h1) fun b2 w2 h2=>?_
 refine Ze [0,3,5] rfl ?_
 refine T6 (Za [0,3,5,6] ?_)
 refine T6 (T6 (Za [0,3,5,6,7] ?_))
 refine TY ?_
 have h27:=(sOR h2 [1,0] [0])
 refine T2 (fun kk env w=>∃ x1 A2 c_2 x2 x3,Q144.l0 kk a0 a1 x1 x2 x3=some r∧env=[(0,.slice A1 a0.length c_1),(3,.pointer (some ⟨b1,0,none⟩)),(5,.slice A2 x1.length c_2),(6,.bool x2),(7,.int .i64 x3)]∧St w0 F0 [Zm6 b1 a1.1 a1.2.1 a1.2.2,Ju x1 A2 c_2] [Yp a0 A1 c_1] w) (k:=k) ⟨_,_,_,_,_,H,rfl,h27⟩ ?_
 rintro k1 env w3 ⟨x1,A2,c_2,x2,x3,H,rfl,h3⟩
 rcases k1 with _ | k1
 ·exact z0 H
 rw [Q144.l0] at H
 refine T6 (T6 (Za [0,3,5,6,7,12] ?_))
 refine jIf H (fun c1 H=>?_) fun c1 H=>?_
 ·refine T7 (T6 (TY (T6 (T6 ?_))))
  refine jH h3 fun h4=>?_
  refine Zl [0,1,2] ?_
  refine Wu 17 H (fun c2 H=>?_) fun c2 H=>?_
  ·refine Zl [3,5,6] ?_
   refine Zf 4 rfl (Zb 0 wI) ?_
   obtain ⟨⟨p1,p2⟩,H⟩:=Zk H
   have e1:=Zw h4.wh (Zi 2) p1 p2
   refine Zf 7 rfl (Zg e1 p1 p2) ?_
   refine Zl [8] ?_
   refine Zf 9 rfl (Zh 0 wI (Zi 2) p1 p2) ?_
   refine cSJ 10 rfl H [] h4 rfl Q137.spec Zn 0 fun r1 w4 H h5=>?_
   refine Zl [11,12] ?_
   refine Zy [0,3,5,6,7,27] ?_
   refine jIf H (fun c3 H=>?_) fun c3 H=>?_
   ·refine T6 (T4 ?_)
    refine Zd 1 ?_
    refine Zc (Zb 0 h5.wht) ?_
    refine rB (Z1 (.pair .str (.pair .bool .str)) ([a1]:List Tz) h5) fun b3 w5 h6=>?_
    obtain ⟨p3,H⟩:=Zk H
    refine Zr (Zv 2 h6 (gO 0) p3) ?_
    rintro _ w6 ⟨A3,c_3,rfl,h7⟩
    replace h7:=nf h7
    refine Ze [0,3,5,7] rfl ?_
    refine Za [0,3,5,6,7] ?_
    refine T6 (jH h7 fun h8=>?_)
    refine Zl [0,1,5] ?_
    refine Zf 2 rfl (Zg e1 p1 p2) ?_
    refine Zl [3] ?_
    refine Zf 4 rfl (Zh 0 wI (Zi 3) p1 p2) ?_
    refine Zf 6 rfl (Zb 2 wI) ?_
    refine Zl [7] ?_
    refine Zy [0,3,5,6,7,39] ?_
    refine jIf H (fun c4 H=>?_) fun c4 H=>?_
    ·refine T4 (Zd 3 ?_)
     refine Zc (Zg e1 p1 p2) ?_
     refine Zc (Zh 0 h8.wht (Zi 3) p1 p2) ?_
     refine rB (Z1 (.pair .str (.pair .bool .str)) ([(gt a0 x3)]:List Tz) h8) fun b4 w7 h9=>?_
     obtain ⟨p4,H⟩:=Zk H
     refine Zr (Zv 1 h9 (gO 0) p4) ?_
     rintro _ w8 ⟨A4,c_4,rfl,h10⟩
     replace h10:=nf h10
     refine Ze [0,3,5,6,7] rfl ?_
     have h11:=sO h10 [0,2]
     replace h11:=nf h11
     refine Za [0,3,5,6,7] ?_
     have h12:=(sOR h11 [1,0] [0])
     exact ⟨k1,by omega,_,_,_,_,_,H,rfl,h12⟩
    refine T7 (Za [0,3,5,6,7] ?_)
    have h13:=(sOR h8 [2,0] [0])
    exact ⟨k1,by omega,_,_,_,_,_,H,rfl,h13⟩
   refine T7 (T6 (jH h5 fun h14=>?_))
   refine Zl [0,1,5] ?_
   refine Zf 2 rfl (Zg e1 p1 p2) ?_
   refine Zl [3] ?_
   refine Zf 4 rfl (Zh 0 wI (Zi 2) p1 p2) ?_
   refine Zf 6 rfl (Zb 0 wI) ?_
   refine Zl [7] ?_
   refine Zy [0,3,5,6,7,39] ?_
   refine jIf H (fun c5 H=>?_) fun c5 H=>?_
   ·refine T4 (Zd 3 ?_)
    refine Zc (Zg e1 p1 p2) ?_
    refine Zc (Zh 0 h14.wht (Zi 2) p1 p2) ?_
    refine rB (Z1 (.pair .str (.pair .bool .str)) ([(gt a0 x3)]:List Tz) h14) fun b5 w9 h15=>?_
    obtain ⟨p5,H⟩:=Zk H
    refine Zr (Zv 2 h15 (gO 0) p5) ?_
    rintro _ w10 ⟨A5,c_5,rfl,h16⟩
    replace h16:=nf h16
    refine Ze [0,3,5,6,7] rfl ?_
    refine Za [0,3,5,6,7] ?_
    have h17:=(sOR h16 [2,0] [0])
    exact ⟨k1,by omega,_,_,_,_,_,H,rfl,h17⟩
   refine T7 (Za [0,3,5,6,7] ?_)
   have h18:=(sOR h14 [0,0] [0])
   exact ⟨k1,by omega,_,_,_,_,_,H,rfl,h18⟩
  refine Zl [3,4,5,6,7,8,9,10,11,12] ?_
  refine Zy [0,3,5,6,7,27] ?_
  refine Z5 ?_
  refine T7 (T6 (jH h4 fun h19=>?_))
  refine Zl [0,1,5] ?_
  obtain ⟨⟨p6,p7⟩,H⟩:=Zk H
  have e2:=Zw h19.wh (Zi 2) p6 p7
  refine Zf 2 rfl (Zg e2 p6 p7) ?_
  refine Zl [3] ?_
  refine Zf 4 rfl (Zh 0 wI (Zi 2) p6 p7) ?_
  refine Zf 6 rfl (Zb 0 wI) ?_
  refine Zl [7] ?_
  refine Zy [0,3,5,6,7,39] ?_
  refine jIf H (fun c6 H=>?_) fun c6 H=>?_
  ·refine T4 (Zd 3 ?_)
   refine Zc (Zg e2 p6 p7) ?_
   refine Zc (Zh 0 h19.wht (Zi 2) p6 p7) ?_
   refine rB (Z1 (.pair .str (.pair .bool .str)) ([(gt a0 x3)]:List Tz) h19) fun b6 w11 h20=>?_
   obtain ⟨p8,H⟩:=Zk H
   refine Zr (Zv 2 h20 (gO 0) p8) ?_
   rintro _ w12 ⟨A6,c_6,rfl,h21⟩
   replace h21:=nf h21
   refine Ze [0,3,5,6,7] rfl ?_
   refine Za [0,3,5,6,7] ?_
   have h22:=(sOR h21 [2,0] [0])
   exact ⟨k1,by omega,_,_,_,_,_,H,rfl,h22⟩
  refine T7 (Za [0,3,5,6,7] ?_)
  have h23:=(sOR h19 [0,0] [0])
  exact ⟨k1,by omega,_,_,_,_,_,H,rfl,h23⟩
 refine T1 (T6 (T6 (Za [3,5,48] ?_)))
 refine jIf H (fun c7 H=>?_) fun c7 H=>?_
 ·refine T4 (Zd 1 ?_)
  refine Zc (Zb 0 h3.wht) ?_
  refine rB (Z1 (.pair .str (.pair .bool .str)) ([a1]:List Tz) h3) fun b7 w13 h24=>?_
  obtain ⟨p9,H⟩:=Zk H
  refine Zr (Zv 2 h24 (gO 0) p9) ?_
  rintro _ w14 ⟨A7,c_7,rfl,h25⟩
  replace h25:=nf h25
  refine Ze [5] rfl ?_
  have h26:=sO h25 [0]
  replace h26:=nf h26
  refine T6 (Za [4] ?_)
  cases H
  exact T5 (jR ⟨_,_,rfl,rfl⟩ h26 [0])
 refine T7 (T6 (Za [4] ?_))
 cases H
 exact T5 (jR ⟨_,_,rfl,rfl⟩ h3 [1])

def Q149.l0:Nat→TH→TQ→Int→Int→Option (Int)
 | 0,_,_,_,_=>none
 | k+1,a0,a1,x1,x2=>if (decide (x2<(a0.length:Int)))=true then (if 0≤x2∧x2<(a0.length:Int) then ((Q137.f k (gt a0 x2) a1).bind fun r1=>(if (decide (r1≤0))=true then (Q149.l0 k a0 a1 (w64 (x1+1)) (w64 (x2+1))) else (Q149.l0 k a0 a1 x1 (w64 (x2+1))))) else none) else (some x1)
def Q149.f (k:Nat) (a0:TH) (a1:TQ):Option (Int):=Q149.l0 k a0 a1 0 0
theorem Q149.spec {k a0 a1 A1 c_1 r} (H:Q149.f k a0 a1=some r) :
  Spec Tryz.prog 81 [.slice A1 a0.length c_1,.string ⟨⟨a1⟩⟩] [] [R9 a0 A1 c_1] (fun v l=>v=.int .i64 r∧l=[]):=by
 refine Zj Tryz.func81 fun w0 F0 h0=>?_
 unfold Q149.f at H
 refine T6 (Za [0,1] ?_)
 refine T6 (Za [0,1,5] ?_)
 refine T6 (T6 (Za [0,1,5,6] ?_))
 refine TY ?_
 have h5:=(sOR h0 [] [0])
 refine T2 (fun kk env w=>∃ x1 x2,Q149.l0 kk a0 a1 x1 x2=some r∧env=[(0,.slice A1 a0.length c_1),(1,.string ⟨⟨a1⟩⟩),(5,.int .i64 x1),(6,.int .i64 x2)]∧St w0 F0 [] [R9 a0 A1 c_1] w) (k:=k) ⟨_,_,H,rfl,h5⟩ ?_
 rintro k1 env w1 ⟨x1,x2,H,rfl,h1⟩
 rcases k1 with _ | k1
 ·exact z0 H
 rw [Q149.l0] at H
 refine T6 (T6 (Za [0,1,5,6,10] ?_))
 refine jIf H (fun c1 H=>?_) fun c1 H=>?_
 ·refine T7 (T6 (TY (T6 (T4 ?_))))
  refine Zd 2 ?_
  obtain ⟨⟨p1,p2⟩,H⟩:=Zk H
  have e1:=Zw h1.wh (Zi 0) p1 p2
  refine Zc (Zg e1 p1 p2) ?_
  refine Zc (Zh 0 h1.wht (Zi 0) p1 p2) ?_
  refine Zd 1 ?_
  refine cS H [] h1 rfl Q137.spec Zn fun r1 w2 H h2=>?_
  refine Ze [0,1,5,6,19] rfl ?_
  refine jIf H (fun c2 H=>?_) fun c2 H=>?_
  ·refine Za [0,1,5,6] ?_
   refine Za [0,1,5,6] ?_
   have h3:=(sOR h2 [] [0])
   exact ⟨k1,by omega,_,_,H,rfl,h3⟩
  refine T7 (Za [0,1,5,6] ?_)
  have h4:=(sOR h2 [] [0])
  exact ⟨k1,by omega,_,_,H,rfl,h4⟩
 refine T1 (T6 (Za [4] ?_))
 cases H
 exact T5 (jR0 h1 [])

def Q153.l0:Nat→Tj→Tz→Int→Int→Int→Int→Option Ti
 | 0,_,_,_,_,_,_=>none
 | k+1,a0,a1,a3,x1,x2,x3=>if (decide (0<x3))=true then (if 0≤x3∧x3<(a0.length:Int) then (if 0≤x2∧x2<((gt a0 x3).length:Int) then (if (decide (x1=0))=true then ((Q144.f k ((gt (gt a0 x3) x2).2.2.2.1) a1).bind fun r1=>(if (decide ((r1.length:Int)≤a3))=true then (some (a0.set x3.toNat ((gt a0 x3).set x2.toNat ((gt (gt a0 x3) x2).1,(gt (gt a0 x3) x2).2.1,(gt (gt a0 x3) x2).2.2.1,r1,(gt (gt a0 x3) x2).2.2.2.2)))) else (some a0))) else (if (decide (x3=1))=true then ((Q144.f k ((gt (gt a0 x3) x2).2.2.2.1) a1).bind fun r2=>(if (decide ((r2.length:Int)≤a3))=true then (some (a0.set x3.toNat ((gt a0 x3).set x2.toNat ((gt (gt a0 x3) x2).1,(gt (gt a0 x3) x2).2.1,(gt (gt a0 x3) x2).2.2.1,r2,(gt (gt a0 x3) x2).2.2.2.2)))) else (some a0))) else ((Q149.f k ((gt (gt a0 x3) x2).2.2.1) a1.1).bind fun r3=>(if 0≤r3∧r3<(((gt (gt a0 x3) x2).2.1).length:Int) then (Q153.l0 k a0 a1 a3 (w64 (x1 - 1)) (w64 ((w64 ((gt ((gt (gt a0 x3) x2).2.1) r3))) - 1)) (w64 (x3 - 1))) else none)))) else none) else none) else (some a0)
def Q153.f (k:Nat) (a0:Tj) (a1:Tz) (a2:Int) (a3:Int):Option Ti:=Q153.l0 k a0 a1 a3 a2 0 (w64 ((a0.length:Int) - 1))
theorem Q153.spec {k a0 a1 a2 a3 cs1 A1 c_1 r} (H:Q153.f k a0 a1 a2 a3=some r) :
  SpecA Tryz.prog 145 [.slice A1 a0.length c_1,.agg #[.string ⟨⟨a1.1⟩⟩,.bool a1.2.1,.string ⟨⟨a1.2.2⟩⟩],.int .i64 a2,.int .i64 a3] [N47 a0 A1 c_1 cs1] [V47 a0 cs1] (fun v l lr=>∃ A_0 c_0 cs_0,v=.slice A_0 r.length c_0∧l=[N47 r A_0 c_0 cs_0]∧lr=[V47 r cs_0]):=by
 refine Yk Tryz.func145 fun w0 F0 h0=>?_
 unfold Q153.f at H
 refine T6 (T4 ?_)
 refine rB (Ya h0) fun b1 w1 h1=>?_
 refine Ze [0,2,3,5] rfl ?_
 refine T6 (Za [0,2,3,5,9] ?_)
 refine T6 (T6 (Za [0,2,3,5,9,10] ?_))
 refine TY ?_
 have h27:=(sOR h1 [0,0] [0])
 refine T2 (fun kk env w=>∃ x1 x2 x3,Q153.l0 kk a0 a1 a3 x1 x2 x3=some r∧env=[(0,.slice A1 a0.length c_1),(2,.int .i64 x1),(3,.int .i64 a3),(5,.pointer (some ⟨b1,0,none⟩)),(9,.int .i64 x2),(10,.int .i64 x3)]∧St w0 F0 [Zm6 b1 a1.1 a1.2.1 a1.2.2,N47 a0 A1 c_1 cs1] [V47 a0 cs1] w) (k:=k) ⟨_,_,_,H,rfl,h27⟩ ?_
 rintro k1 env w2 ⟨x1,x2,x3,H,rfl,h2⟩
 rcases k1 with _ | k1
 ·exact z0 H
 rw [Q153.l0] at H
 refine T6 (T6 (Za [0,2,3,5,9,10,17] ?_))
 refine jIf H (fun c1 H=>?_) fun c1 H=>?_
 ·refine T7 (T6 (TY (T6 ?_)))
  obtain ⟨⟨p1,p2⟩,H⟩:=Zk H
  have e1:=St.nestA 1 h2 p1 p2
  obtain ⟨A2,c_2,h3⟩:=St.openN 1 h2 p1 p2
  refine T4 (Zd 2 ?_)
  refine Zc (Zg e1 p1 p2) ?_
  refine Zc (Zg0 0 h3.wht e1) ?_
  refine Zd 1 ?_
  obtain ⟨⟨p3,p4⟩,H⟩:=Zk H
  have e2:=St.nestA2 0 h3 p3 p4
  refine Zc (Zg e2 p3 p4) ?_
  obtain ⟨cs2,e3,h4⟩:=St.essEl (t:=(.pair (.int .i64) (.pair (.slice 30 (.int .u32)) (.pair (.slice 9 .str) (.pair (.slice 106 (.pair .str (.pair .bool .str))) (.slice 104 (.pair .str .str))))))) 0 h3 p1 p2 p3 p4
  obtain ⟨cs3,cs4,rfl,h5⟩:=Y5 0 h4
  obtain ⟨cs5,cs6,rfl,h6⟩:=Y5 1 h5
  obtain ⟨cs7,cs8,rfl,h7⟩:=Y5 1 h6
  obtain ⟨cs9,cs10,rfl,h8⟩:=Y5 1 h7
  obtain rfl:=Ul (.int .i64) 6 h8
  obtain ⟨A3,c_3,rfl⟩:=Yi 4 h8
  obtain ⟨A4,c_4,rfl⟩:=Yi 2 h8
  obtain ⟨A5,c_5,rfl⟩:=Yi 0 h8
  obtain ⟨A6,c_6,rfl⟩:=Yi 1 h8
  refine Zc (Zo9 (f:=0) 0 h8.wht e2 e3) ?_
  refine rB (Ym h8) fun b2 w3 h9=>?_
  refine rS (Zs 0 h9) fun _ w4 h10=>?_
  refine Ze [0,2,3,5,9,10,11] rfl ?_
  have h11:=St.closeN 1 h10
  refine T6 (T6 (T4 ?_))
  refine Zd 3 ?_
  refine Z8 29 H (fun c2 H=>?_) fun c2 H=>?_
  ·refine Ze [0,2,3,5,9,10,11,32] rfl ?_
   refine Zq ?_
   refine T6 (T4 ?_)
   refine Zd 1 ?_
   refine Zc (Zb 1 h11.wht) ?_
   refine Zc (Zb 2 h11.wht) ?_
   refine cE H [] h11 rfl Q144.spec (gS [3]) ?_
   rintro r1 w5 _ _ H ⟨A7,c_7,rfl,rfl⟩ h12
   replace h12:=nf h12
   refine Ze [0,3,9,10,12] rfl ?_
   have h13:=sO h12 [0,0]
   replace h13:=nf h13
   refine T6 (T6 (Za [0,9,10,12,40] ?_))
   refine jIf H (fun c3 H=>?_) fun c3 H=>?_
   ·obtain ⟨A8,c_8,h14⟩:=St.openN 1 h13 p1 p2
    refine T4 (Zd 2 ?_)
    refine Zc (Zg e1 p1 p2) ?_
    refine Zc (Zg0 0 h14.wht e1) ?_
    refine Zd 2 ?_
    have e4:=St.nestA2 0 h14 p3 p4
    refine Zc (Zg e4 p3 p4) ?_
    refine Zd 1 ?_
    have h15:=h14.freeze (k:=1) rfl Yg
    refine Zr (Zhw (ty:=(.pair (.int .i64) (.pair (.slice 30 (.int .u32)) (.pair (.slice 9 .str) (.pair (.slice 106 (.pair .str (.pair .bool .str))) (.slice 104 (.pair .str .str))))))) (ix:=x3) (jx:=x2) (f:=3) ((gt (gt a0 x3) x2).1,(gt (gt a0 x3) x2).2.1,(gt (gt a0 x3) x2).2.2.1,r1,(gt (gt a0 x3) x2).2.2.2.2) 0 10 h15 p1 p2 p3 p4 e4 e3 ⟨_,_,rfl,(Vp rfl _),⟨_,_,rfl,(.inl (Zi 5)),⟨_,_,rfl,(.inl (Zi 3)),⟨_,_,rfl,(.inl (Zi 0)),(.inl (Zi 2))⟩⟩⟩⟩) ?_
    rintro _ w6 ⟨cs11,h16⟩
    replace h16:=nf h16
    have e5:(a0.set x3.toNat ((gt a0 x3).set x2.toNat ((gt (gt a0 x3) x2).1,(gt (gt a0 x3) x2).2.1,(gt (gt a0 x3) x2).2.2.1,r1,(gt (gt a0 x3) x2).2.2.2.2))).length=a0.length:=List.length_set.trans (rfl:a0.length=a0.length)
    refine Ze [0] rfl ?_
    refine T0 (env':=[(0,.slice A1 (a0.set x3.toNat ((gt a0 x3).set x2.toNat ((gt (gt a0 x3) x2).1,(gt (gt a0 x3) x2).2.1,(gt (gt a0 x3) x2).2.2.1,r1,(gt (gt a0 x3) x2).2.2.2.2))).length c_1)]) (by simp only [List.length_set,List.length_nil] <;> rfl) ?_
    have h17:=St.closeN 0 h16
    refine T6 (Za [8] ?_)
    cases H
    exact T5 (jRA ⟨_,_,_,rfl,rfl,rfl⟩ (sOR h17 [0] [0]))
   refine T7 (T6 (Za [8] ?_))
   cases H
   exact T5 (jRA ⟨_,_,_,rfl,rfl,rfl⟩ (sOR h13 [1] [9]))
  refine Ze [0,2,3,5,9,10,11,32] rfl ?_
  refine jIf H (fun c4 H=>?_) fun c4 H=>?_
  ·refine T6 (T4 ?_)
   refine Zd 1 ?_
   refine Zc (Zb 1 h11.wht) ?_
   refine Zc (Zb 2 h11.wht) ?_
   refine cE H [] h11 rfl Q144.spec (gS [3]) ?_
   rintro r2 w7 _ _ H ⟨A9,c_9,rfl,rfl⟩ h18
   replace h18:=nf h18
   refine Ze [0,3,9,10,12] rfl ?_
   have h19:=sO h18 [0,0]
   replace h19:=nf h19
   refine T6 (T6 (Za [0,9,10,12,40] ?_))
   refine jIf H (fun c5 H=>?_) fun c5 H=>?_
   ·obtain ⟨A10,c_10,h20⟩:=St.openN 1 h19 p1 p2
    refine T4 (Zd 2 ?_)
    refine Zc (Zg e1 p1 p2) ?_
    refine Zc (Zg0 0 h20.wht e1) ?_
    refine Zd 2 ?_
    have e6:=St.nestA2 0 h20 p3 p4
    refine Zc (Zg e6 p3 p4) ?_
    refine Zd 1 ?_
    have h21:=h20.freeze (k:=1) rfl Yg
    refine Zr (Zhw (ty:=(.pair (.int .i64) (.pair (.slice 30 (.int .u32)) (.pair (.slice 9 .str) (.pair (.slice 106 (.pair .str (.pair .bool .str))) (.slice 104 (.pair .str .str))))))) (ix:=x3) (jx:=x2) (f:=3) ((gt (gt a0 x3) x2).1,(gt (gt a0 x3) x2).2.1,(gt (gt a0 x3) x2).2.2.1,r2,(gt (gt a0 x3) x2).2.2.2.2) 0 10 h21 p1 p2 p3 p4 e6 e3 ⟨_,_,rfl,(Vp rfl _),⟨_,_,rfl,(.inl (Zi 5)),⟨_,_,rfl,(.inl (Zi 3)),⟨_,_,rfl,(.inl (Zi 0)),(.inl (Zi 2))⟩⟩⟩⟩) ?_
    rintro _ w8 ⟨cs12,h22⟩
    replace h22:=nf h22
    have e7:(a0.set x3.toNat ((gt a0 x3).set x2.toNat ((gt (gt a0 x3) x2).1,(gt (gt a0 x3) x2).2.1,(gt (gt a0 x3) x2).2.2.1,r2,(gt (gt a0 x3) x2).2.2.2.2))).length=a0.length:=List.length_set.trans (rfl:a0.length=a0.length)
    refine Ze [0] rfl ?_
    refine T0 (env':=[(0,.slice A1 (a0.set x3.toNat ((gt a0 x3).set x2.toNat ((gt (gt a0 x3) x2).1,(gt (gt a0 x3) x2).2.1,(gt (gt a0 x3) x2).2.2.1,r2,(gt (gt a0 x3) x2).2.2.2.2))).length c_1)]) (by simp only [List.length_set,List.length_nil] <;> rfl) ?_
    have h23:=St.closeN 0 h22
    refine T6 (Za [8] ?_)
    cases H
    exact T5 (jRA ⟨_,_,_,rfl,rfl,rfl⟩ (sOR h23 [0] [0]))
   refine T7 (T6 (Za [8] ?_))
   cases H
   exact T5 (jRA ⟨_,_,_,rfl,rfl,rfl⟩ (sOR h19 [1] [9]))
  refine T7 (T6 (Za [0,2,3,5,10,11] ?_))
  refine jH h11 fun h24=>?_
  refine Zl [0,2,4] ?_
  refine Zf 1 rfl (Zb 1 wI) ?_
  refine Zf 3 rfl (Zb 1 wI) ?_
  refine Zf 5 rfl (Zb 2 wI) ?_
  refine cSJ 6 rfl H [] h24 rfl Q149.spec (gS [5]) 0 fun r3 w9 H h25=>?_
  obtain ⟨⟨p5,p6⟩,H⟩:=Zk H
  have e8:=Zw h25.wh (Zi 7) p5 p6
  refine Zf 7 rfl (Zg e8 p5 p6) ?_
  refine Zf 8 rfl (Zh 0 wI (Zi 7) p5 p6) ?_
  refine Zl [9,10,11] ?_
  refine Zy [0,2,3,5,9,10] ?_
  refine Za [0,2,3,5,9,10] ?_
  have h26:=(sOR h25 [2,0] [9])
  exact ⟨k1,by omega,_,_,_,H,rfl,h26⟩
 refine T1 (T6 (Za [8] ?_))
 cases H
 exact T5 (jRA ⟨_,_,_,rfl,rfl,rfl⟩ (sOR h2 [1] [0]))

def Q152.l0:Nat→Tt→TV→Int→Tj→Int→Option Ti
 | 0,_,_,_,_,_=>none
 | k+1,a1,a2,a3,x1,x2=>if (decide (x2<(a1.length:Int)))=true then (if (decide (x2<(a2.length:Int)))=true then (if 0≤x2∧x2<(a2.length:Int) then (if 0<(x1.length:Int) then (if 0≤x2∧x2<(a1.length:Int) then ((Q153.f k x1 (gt a1 x2) (Int.tmod (w64 ((gt a2 x2))) (x1.length:Int)) a3).bind fun r1=>(Q152.l0 k a1 a2 a3 r1 (w64 (x2+1)))) else none) else none) else none) else (if 0≤x2∧x2<(a1.length:Int) then ((Q153.f k x1 (gt a1 x2) 0 a3).bind fun r2=>(Q152.l0 k a1 a2 a3 r2 (w64 (x2+1)))) else none)) else (some x1)
def Q152.f (k:Nat) (a0:Tj) (a1:Tt) (a2:TV) (a3:Int):Option Ti:=Q152.l0 k a1 a2 a3 a0 0
theorem Q152.spec {k a0 a1 a2 a3 cs1 A2 c_2 A3 c_3 A1 c_1 r} (H:Q152.f k a0 a1 a2 a3=some r) :
  SpecA Tryz.prog 91 [.slice A1 a0.length c_1,.slice A2 a1.length c_2,.slice A3 a2.length c_3,.int .i64 a3] [N47 a0 A1 c_1 cs1] [V47 a0 cs1,Yp a1 A2 c_2,R5 a2 A3 c_3] (fun v l lr=>∃ A_0 c_0 cs_0,v=.slice A_0 r.length c_0∧l=[N47 r A_0 c_0 cs_0]∧lr=[V47 r cs_0]):=by
 refine Yk Tryz.func91 fun w0 F0 h0=>?_
 unfold Q152.f at H
 refine T6 (Za [0,1,2,3] ?_)
 refine T6 (T6 (Za [0,1,2,3,9] ?_))
 refine TY ?_
 have h6:=(sOR h0 [0] [1,2,0])
 refine T2 (fun kk env w=>∃ x1 A4 c_4 x2 cs2,Q152.l0 kk a1 a2 a3 x1 x2=some r∧env=[(0,.slice A4 x1.length c_4),(1,.slice A2 a1.length c_2),(2,.slice A3 a2.length c_3),(3,.int .i64 a3),(9,.int .i64 x2)]∧St w0 F0 [N47 x1 A4 c_4 cs2] [Yp a1 A2 c_2,R5 a2 A3 c_3,V47 x1 cs2] w) (k:=k) ⟨_,_,_,_,_,H,rfl,h6⟩ ?_
 rintro k1 env w1 ⟨x1,A4,c_4,x2,cs2,H,rfl,h1⟩
 rcases k1 with _ | k1
 ·exact z0 H
 rw [Q152.l0] at H
 refine T6 (T6 (Za [0,1,2,3,9,14] ?_))
 refine jIf H (fun c1 H=>?_) fun c1 H=>?_
 ·refine T7 (T6 (TY (T6 (Za [0,1,2,3,9,10] ?_))))
  refine T6 (T6 (Za [0,1,2,3,9,10,20] ?_))
  refine jIf H (fun c2 H=>?_) fun c2 H=>?_
  ·refine T4 (Zd 2 ?_)
   obtain ⟨⟨p1,p2⟩,H⟩:=Zk H
   have e1:=Zw h1.wh (Zi 2) p1 p2
   refine Zc (Zg e1 p1 p2) ?_
   refine Zc (Zh 0 h1.wht (Zi 2) p1 p2) ?_
   refine Zd 3 ?_
   obtain ⟨p3,H⟩:=Zk H
   refine Zc (Za8 p3) ?_
   refine Ze [0,1,2,3,9,10] rfl ?_
   refine T4 (Zd 3 ?_)
   obtain ⟨⟨p4,p5⟩,H⟩:=Zk H
   have e2:=Zw h1.wh (Zi 1) p4 p5
   refine Zc (Zg e2 p4 p5) ?_
   refine Zc (Zh 0 h1.wht (Zi 1) p4 p5) ?_
   refine Zd 2 ?_
   obtain ⟨r1,q1,H⟩:=Yf H
   refine Zr (Z4 [0] (Q153.spec q1) h1 rfl (gS [2])) ?_
   rintro _ w2 ⟨_,_,⟨A5,c_5,cs3,rfl,rfl,rfl⟩,h2⟩
   replace h2:=nf h2
   refine Ze [0,1,2,3,9] rfl ?_
   refine Za [0,1,2,3,9] ?_
   have h3:=(sOR h2 [0] [1,2,0])
   exact ⟨k1,by omega,_,_,_,_,_,H,rfl,h3⟩
  refine T7 (T4 (Zd 3 ?_))
  obtain ⟨⟨p6,p7⟩,H⟩:=Zk H
  have e3:=Zw h1.wh (Zi 1) p6 p7
  refine Zc (Zg e3 p6 p7) ?_
  refine Zc (Zh 0 h1.wht (Zi 1) p6 p7) ?_
  refine Zd 2 ?_
  obtain ⟨r2,q2,H⟩:=Yf H
  refine Zr (Z4 [0] (Q153.spec q2) h1 rfl (gS [2])) ?_
  rintro _ w3 ⟨_,_,⟨A6,c_6,cs4,rfl,rfl,rfl⟩,h4⟩
  replace h4:=nf h4
  refine Ze [0,1,2,3,9] rfl ?_
  refine Za [0,1,2,3,9] ?_
  have h5:=(sOR h4 [0] [1,2,0])
  exact ⟨k1,by omega,_,_,_,_,_,H,rfl,h5⟩
 refine T1 (T6 (Za [8] ?_))
 cases H
 exact T5 (jRA ⟨_,_,_,rfl,rfl,rfl⟩ (sOR h1 [0] [2]))

def Q130.l2:Nat→Tn→Tm→Tk→TH→TH→Int→Tj→Bool→Option Ti
 | 0,_,_,_,_,_,_,_,_=>none
 | k+1,a0,a1,x7,x8,x9,x10,x11,x12=>if (decide (1<(x7.length:Int)))=true then (some ([([(0,([]:List Int),([]:List TQ),([]:List Tz),([]:List TC))]:List Tl)]:List Tk)) else ((Q136.f k a0 a1).bind fun r3=>((Q152.f k x11 r3 a1.2.2.1 a0.2.2.2.2.1).bind fun r4=>(some r4)))
mutual
def Q130.l3:Nat→Tn→Tm→Tk→TH→TH→Int→Tj→Option Ti
 | 0,_,_,_,_,_,_,_=>none
 | k+1,a0,a1,x13,x14,x15,x16,x17=>if (decide (1<(x13.length:Int)))=true then (Q130.l4 k a0 a1 x13 x14 x15 x16 x17 (decide ((x17.length:Int)<6))) else (Q130.l4 k a0 a1 x13 x14 x15 x16 x17 false)
def Q130.l4:Nat→Tn→Tm→Tk→TH→TH→Int→Tj→Bool→Option Ti
 | 0,_,_,_,_,_,_,_,_=>none
 | k+1,a0,a1,x13,x14,x15,x16,x17,x18=>if x18=true then (Q130.l6 k a0 a1 x13 x14 x15 x17 x16 ([]:List Tl) ([]:List TQ) ([]:List TQ) 0) else (Q130.l2 k a0 a1 x13 x14 x15 x16 x17 x18)
def Q130.l5:Nat→Tn→Tm→Tj→Int→Tk→TH→TH→Int→Bool→Option Ti
 | 0,_,_,_,_,_,_,_,_,_=>none
 | k+1,a0,a1,x17,x19,x20,x21,x22,x23,x24=>if (x17.length+([x20]:List Tk).length)*24≤140737488355328 then (Q130.l3 k a0 a1 x20 x21 x22 x19 (x17 ++ ([x20]:List Tk))) else none
def Q130.l6:Nat→Tn→Tm→Tk→TH→TH→Tj→Int→Tk→TH→TH→Int→Option Ti
 | 0,_,_,_,_,_,_,_,_,_,_,_=>none
 | k+1,a0,a1,x13,x14,x15,x17,x25,x26,x27,x28,x29=>if (decide (x29<(x13.length:Int)))=true then ((Q134.f a1 x25 a0.2.2.2.1).bind fun r5=>(Q130.l8 k a0 a1 r5 x13 x14 x15 x17 x25 x26 x27 x28 x29 ([]:List Int) ([]:List TQ) 0)) else (Q130.l5 k a0 a1 x17 x25 x26 x27 x28 x29 (decide (x29<(x13.length:Int))))
def Q130.l7:Nat→Tn→Tm→Int→Tk→TH→TH→Tj→Int→Tk→TH→TH→Int→TV→TH→Int→Bool→Option Ti
 | 0,_,_,_,_,_,_,_,_,_,_,_,_,_,_,_,_=>none
 | k+1,a0,a1,r5,x13,x14,x15,x17,x25,x26,x27,x28,x29,x30,x31,x32,x33=>if (x26.length+([((x17.length:Int),x30,x31,([]:List Tz),([]:List TC))]:List Tl).length)*104≤140737488355328 then (if 0≤x29∧x29<(x14.length:Int) then (if 0≤(w64 ((w64 (x29+(if (if r5>2 then r5 else 2)<(w64 ((x13.length:Int) - x29)) then (if r5>2 then r5 else 2) else (w64 ((x13.length:Int) - x29))))) - 1))∧(w64 ((w64 (x29+(if (if r5>2 then r5 else 2)<(w64 ((x13.length:Int) - x29)) then (if r5>2 then r5 else 2) else (w64 ((x13.length:Int) - x29))))) - 1))<(x15.length:Int) then (if (x27.length+([(gt x14 x29)]:List TQ).length)*16≤140737488355328 then (if (x28.length+([(gt x15 (w64 ((w64 (x29+(if (if r5>2 then r5 else 2)<(w64 ((x13.length:Int) - x29)) then (if r5>2 then r5 else 2) else (w64 ((x13.length:Int) - x29))))) - 1)))]:List TQ).length)*16≤140737488355328 then (Q130.l6 k a0 a1 x13 x14 x15 x17 (w64 (x25+1)) (x26 ++ ([((x17.length:Int),x30,x31,([]:List Tz),([]:List TC))]:List Tl)) (x27 ++ ([(gt x14 x29)]:List TQ)) (x28 ++ ([(gt x15 (w64 ((w64 (x29+(if (if r5>2 then r5 else 2)<(w64 ((x13.length:Int) - x29)) then (if r5>2 then r5 else 2) else (w64 ((x13.length:Int) - x29))))) - 1)))]:List TQ)) (w64 (x29+(if (if r5>2 then r5 else 2)<(w64 ((x13.length:Int) - x29)) then (if r5>2 then r5 else 2) else (w64 ((x13.length:Int) - x29)))))) else none) else none) else none) else none) else none
def Q130.l8:Nat→Tn→Tm→Int→Tk→TH→TH→Tj→Int→Tk→TH→TH→Int→TV→TH→Int→Option Ti
 | 0,_,_,_,_,_,_,_,_,_,_,_,_,_,_,_=>none
 | k+1,a0,a1,r5,x13,x14,x15,x17,x25,x26,x27,x28,x29,x34,x35,x36=>if (decide (x36<(if (if r5>2 then r5 else 2)<(w64 ((x13.length:Int) - x29)) then (if r5>2 then r5 else 2) else (w64 ((x13.length:Int) - x29)))))=true then (if (x34.length+([(IntKind.u32.wrap ((w64 ((w64 (x29+x36))+1))))]:List Int).length)*4≤140737488355328 then (if (decide (0<x36))=true then (if 0≤(w64 ((w64 (x29+x36)) - 1))∧(w64 ((w64 (x29+x36)) - 1))<(x15.length:Int) then (if 0≤(w64 (x29+x36))∧(w64 (x29+x36))<(x14.length:Int) then ((Q138.f k (gt x15 (w64 ((w64 (x29+x36)) - 1))) (gt x14 (w64 (x29+x36)))).bind fun r6=>(if (x35.length+([r6.1]:List TQ).length)*16≤140737488355328 then (Q130.l8 k a0 a1 r5 x13 x14 x15 x17 x25 x26 x27 x28 x29 (x34 ++ ([(IntKind.u32.wrap ((w64 ((w64 (x29+x36))+1))))]:List Int)) (x35 ++ ([r6.1]:List TQ)) (w64 (x36+1))) else none)) else none) else none) else (Q130.l8 k a0 a1 r5 x13 x14 x15 x17 x25 x26 x27 x28 x29 (x34 ++ ([(IntKind.u32.wrap ((w64 ((w64 (x29+x36))+1))))]:List Int)) x35 (w64 (x36+1)))) else none) else (Q130.l7 k a0 a1 r5 x13 x14 x15 x17 x25 x26 x27 x28 x29 x34 x35 x36 (decide (x36<(if (if r5>2 then r5 else 2)<(w64 ((x13.length:Int) - x29)) then (if r5>2 then r5 else 2) else (w64 ((x13.length:Int) - x29))))))
end
mutual
def Q130.l0:Nat→Tn→Tm→Tw→Tk→TH→TH→Int→Option Ti
 | 0,_,_,_,_,_,_,_=>none
 | k+1,a0,a1,x1,x2,x3,x4,x5=>if (decide (0<(x1.length:Int)))=true then (Q130.l1 k a0 a1 x1 x2 x3 x4 x5 true) else (Q130.l1 k a0 a1 x1 x2 x3 x4 x5 (decide ((x2.length:Int)=0)))
def Q130.l1:Nat→Tn→Tm→Tw→Tk→TH→TH→Int→Bool→Option Ti
 | 0,_,_,_,_,_,_,_,_=>none
 | k+1,a0,a1,x1,x2,x3,x4,x5,x6=>if x6=true then ((Q134.f a1 x5 a0.2.2.2.2.2.1).bind fun r2=>(if (0:Int)≤(if r2<(x1.length:Int) then r2 else (x1.length:Int))∧(if r2<(x1.length:Int) then r2 else (x1.length:Int))≤(x1.length:Int) then (if (x2.length+([(0,([]:List Int),([]:List TQ),([]:List Tz),(x1.take ((if r2<(x1.length:Int) then r2 else (x1.length:Int))).toNat))]:List Tl).length)*104≤140737488355328 then (if (decide (0<(if r2<(x1.length:Int) then r2 else (x1.length:Int))))=true then (if 0<(x1.length:Int) then (if 0≤(w64 ((if r2<(x1.length:Int) then r2 else (x1.length:Int)) - 1))∧(w64 ((if r2<(x1.length:Int) then r2 else (x1.length:Int)) - 1))<(x1.length:Int) then (if (x3.length+([(gt x1 0).1]:List TQ).length)*16≤140737488355328 then (if (x4.length+([(gt x1 (w64 ((if r2<(x1.length:Int) then r2 else (x1.length:Int)) - 1))).1]:List TQ).length)*16≤140737488355328 then (if 0≤(if r2<(x1.length:Int) then r2 else (x1.length:Int))∧(if r2<(x1.length:Int) then r2 else (x1.length:Int))≤(x1.length:Int) then (Q130.l0 k a0 a1 (x1.drop ((if r2<(x1.length:Int) then r2 else (x1.length:Int))).toNat) (x2 ++ ([(0,([]:List Int),([]:List TQ),([]:List Tz),(x1.take ((if r2<(x1.length:Int) then r2 else (x1.length:Int))).toNat))]:List Tl)) (x3 ++ ([(gt x1 0).1]:List TQ)) (x4 ++ ([(gt x1 (w64 ((if r2<(x1.length:Int) then r2 else (x1.length:Int)) - 1))).1]:List TQ)) (w64 (x5+1))) else none) else none) else none) else none) else none) else (if (x3.length+([([]:List UInt8)]:List TQ).length)*16≤140737488355328 then (if (x4.length+([([]:List UInt8)]:List TQ).length)*16≤140737488355328 then (if 0≤(if r2<(x1.length:Int) then r2 else (x1.length:Int))∧(if r2<(x1.length:Int) then r2 else (x1.length:Int))≤(x1.length:Int) then (Q130.l0 k a0 a1 (x1.drop ((if r2<(x1.length:Int) then r2 else (x1.length:Int))).toNat) (x2 ++ ([(0,([]:List Int),([]:List TQ),([]:List Tz),(x1.take ((if r2<(x1.length:Int) then r2 else (x1.length:Int))).toNat))]:List Tl)) (x3 ++ ([([]:List UInt8)]:List TQ)) (x4 ++ ([([]:List UInt8)]:List TQ)) (w64 (x5+1))) else none) else none) else none)) else none) else none)) else (Q130.l3 k a0 a1 x2 x3 x4 x5 ([x2]:List Tk))
end
def Q130.f (k:Nat) (a0:Tn) (a1:Tm):Option Ti:=(Q135.f k a0 a1).bind fun r1=>(Q130.l0 k a0 a1 r1 ([]:List Tl) ([]:List TQ) ([]:List TQ) 0)
theorem Q130.spec {k a0 a1 A1 c_1 A2 c_2 A3 c_3 A4 c_4 r} (H:Q130.f k a0 a1=some r) :
  SpecA Tryz.prog 49 [.agg #[.int .i64 a0.1,.int .i64 a0.2.1,.int .i64 a0.2.2.1,.int .i64 a0.2.2.2.1,.int .i64 a0.2.2.2.2.1,.int .i64 a0.2.2.2.2.2.1,.int .i64 a0.2.2.2.2.2.2.1,.int .i64 a0.2.2.2.2.2.2.2],.agg #[.slice A1 a1.1.length c_1,.slice A2 a1.2.1.length c_2,.slice A3 a1.2.2.1.length c_3,.slice A4 a1.2.2.2.length c_4]] [] [Yl a1.1 A1 c_1,Yp a1.2.1 A2 c_2,R5 a1.2.2.1 A3 c_3,R5 a1.2.2.2 A4 c_4] (fun v l lr=>∃ A_0 c_0,v=.slice A_0 r.length c_0∧l=[]∧lr=[R47 r A_0 c_0]):=by
 refine Yk Tryz.func49 fun w0 F0 h0=>?_
 unfold Q130.f at H
 refine T6 (T4 ?_)
 refine rB (Ya h0) fun b1 w1 h1=>?_
 refine rB (Ya h1) fun b2 w2 h2=>?_
 refine Ze [2,3] rfl ?_
 refine T6 (T4 ?_)
 refine Zc (Zb 1 h2.wht) ?_
 refine Zc (Zb 0 h2.wht) ?_
 refine cE H [] h2 rfl Q135.spec (gS [2,3,4,5]) ?_
 rintro r1 w3 _ _ H ⟨A5,c_5,rfl,rfl⟩ h3
 replace h3:=nf h3
 refine Ze [2,3,5] rfl ?_
 refine T6 (T4 ?_)
 refine rB (Zg3 (.pair (.int .i64) (.pair (.slice 30 (.int .u32)) (.pair (.slice 9 .str) (.pair (.slice 106 (.pair .str (.pair .bool .str))) (.slice 104 (.pair .str .str)))))) h3) fun b3 w4 h4=>?_
 refine Ze [2,3,5,6] rfl ?_
 refine T6 (T4 ?_)
 refine rB (Z1 .str ([]:List TQ) h4) fun b4 w5 h5=>?_
 refine rB (Z1 .str ([]:List TQ) h5) fun b5 w6 h6=>?_
 refine Ze [2,3,5,6,7,8] rfl ?_
 refine T6 (Za [2,3,5,6,7,8,9] ?_)
 refine T6 (TY ?_)
 have h112:=h6.freeze (k:=3) rfl Yg
 have h113:=(sOR h112 [4,3,2,1,0] [2,3,4,5,0,1])
 refine T2 (fun kk env w=>∃ x1 A6 c_6 x2 A7 c_7 x3 A8 c_8 x4 A9 c_9 x5 cs1,Q130.l0 kk a0 a1 x1 x2 x3 x4 x5=some r∧env=[(2,.pointer (some ⟨b1,0,none⟩)),(3,.pointer (some ⟨b2,0,none⟩)),(5,.slice A6 x1.length c_6),(6,.slice A7 x2.length c_7),(7,.slice A8 x3.length c_8),(8,.slice A9 x4.length c_9),(9,.int .i64 x5)]∧St w0 F0 [X23 b1 a0.1 a0.2.1 a0.2.2.1 a0.2.2.2.1 a0.2.2.2.2.1 a0.2.2.2.2.2.1 a0.2.2.2.2.2.2.1 a0.2.2.2.2.2.2.2,X28 b2 a1.1 A1 c_1 a1.2.1 A2 c_2 a1.2.2.1 A3 c_3 a1.2.2.2 A4 c_4,M42 x2 A7 c_7 cs1,O9 x3 A8 c_8,O9 x4 A9 c_9] [Yl a1.1 A1 c_1,Yp a1.2.1 A2 c_2,R5 a1.2.2.1 A3 c_3,R5 a1.2.2.2 A4 c_4,Yl x1 A6 c_6,E42 x2 cs1] w) (k:=k) ⟨_,_,_,_,_,_,_,_,_,_,_,_,_,_,H,rfl,h113⟩ ?_
 rintro k1 env w7 ⟨x1,A6,c_6,x2,A7,c_7,x3,A8,c_8,x4,A9,c_9,x5,cs1,H,rfl,h7⟩
 rcases k1 with _ | k1
 ·exact z0 H
 rw [Q130.l0] at H
 refine T6 (T6 ?_)
 refine T3 (fun env w=>∃ k2 x6,Q130.l1 k2 a0 a1 x1 x2 x3 x4 x5 x6=some r∧env=[(2,.pointer (some ⟨b1,0,none⟩)),(3,.pointer (some ⟨b2,0,none⟩)),(5,.slice A6 x1.length c_6),(6,.slice A7 x2.length c_7),(7,.slice A8 x3.length c_8),(8,.slice A9 x4.length c_9),(9,.int .i64 x5),(34,.bool x6)]∧St w0 F0 [X23 b1 a0.1 a0.2.1 a0.2.2.1 a0.2.2.2.1 a0.2.2.2.2.1 a0.2.2.2.2.2.1 a0.2.2.2.2.2.2.1 a0.2.2.2.2.2.2.2,X28 b2 a1.1 A1 c_1 a1.2.1 A2 c_2 a1.2.2.1 A3 c_3 a1.2.2.2 A4 c_4,M42 x2 A7 c_7 cs1,O9 x3 A8 c_8,O9 x4 A9 c_9] [Yl a1.1 A1 c_1,Yp a1.2.1 A2 c_2,R5 a1.2.2.1 A3 c_3,R5 a1.2.2.2 A4 c_4,Yl x1 A6 c_6,E42 x2 cs1] w∧k2≤k1) ?_ ?_
 ·refine T4 (Zd 4 ?_)
  refine Z8 30 H (fun c9 H=>?_) fun c9 H=>?_
  ·refine Ze [2,3,5,6,7,8,9,34] rfl ?_
   have h110:=(sOR h7 [0,0,0,0,0] [0,1,2,3,4,5])
   exact ⟨k1,_,H,rfl,h110,T8 _⟩
  refine Ze [2,3,5,6,7,8,9,34] rfl ?_
  have h111:=(sOR h7 [0,0,0,0,0] [0,1,2,3,4,5])
  exact ⟨k1,_,H,rfl,h111,T8 _⟩
 rintro env w9 ⟨k2,x6,H,rfl,h8,hk2⟩
 rcases k2 with _ | k2
 ·exact z0 H
 rw [Q130.l1] at H
 refine jIf H (fun c1 H=>?_) fun c1 H=>?_
 ·refine T7 (TY (T6 (T4 ?_)))
  refine Zd 2 ?_
  refine Zc (Zb 1 h8.wht) ?_
  refine Zd 2 ?_
  refine Zc (Zb 0 h8.wht) ?_
  refine cS H [] h8 rfl Q134.spec (gS [5,6,7,8]) fun r2 w10 H h9=>?_
  refine Ze [2,3,5,6,7,8,9,10] rfl ?_
  refine T6 (Za [2,3,5,6,7,8,9,10] ?_)
  refine T6 (T4 ?_)
  refine Zd 3 ?_
  obtain ⟨⟨p1,p2⟩,H⟩:=Zk H
  have e1:=h9.cap (Zi 9)
  refine Zc (W0 (x1.take ((if r2<(x1.length:Int) then r2 else (x1.length:Int))).toNat) (if r2<(x1.length:Int) then r2 else (x1.length:Int)) e1 p1 p2) ?_
  refine Zd 1 ?_
  have h10:=h9.read (k:=4) rfl (Ug (.pair .str .str) (x1.take ((if r2<(x1.length:Int) then r2 else (x1.length:Int))).toNat) (if r2<(x1.length:Int) then r2 else (x1.length:Int)) p1 p2)
  refine Zr (Zcg (.pair (.int .i64) (.pair (.slice 30 (.int .u32)) (.pair (.slice 9 .str) (.pair (.slice 106 (.pair .str (.pair .bool .str))) (.slice 104 (.pair .str .str)))))) ([(0,([]:List Int),([]:List TQ),([]:List Tz),(x1.take ((if r2<(x1.length:Int) then r2 else (x1.length:Int))).toNat))]:List Tl) h10 (Za5 ⟨_,_,rfl,(Vp rfl _),⟨_,_,rfl,(.inr Ub),⟨_,_,rfl,(.inr Ub),⟨_,_,rfl,(.inr Ub),(.inl (Zi 0))⟩⟩⟩⟩ Zd0)) ?_
  rintro _ w11 ⟨b6,rfl,h11⟩
  replace h11:=nf h11
  obtain ⟨p3,H⟩:=Zk H
  refine Zr (Zh4 2 7 0 h11 p3) ?_
  rintro _ w12 ⟨A10,c_10,cs2,rfl,h12⟩
  replace h12:=nf h12
  refine Ze [2,3,5,6,7,8,9,10] rfl ?_
  refine T6 (T6 (Za [2,3,5,6,7,8,9,10,53] ?_))
  refine jIf H (fun c2 H=>?_) fun c2 H=>?_
  ·obtain ⟨p4,H⟩:=Zk H
   obtain ⟨⟨p5,p6⟩,H⟩:=Zk H
   obtain ⟨p7,H⟩:=Zk H
   obtain ⟨p8,H⟩:=Zk H
   refine T3 (fun env w=>∃(A11:Option Addr) (c_11:Nat) (A12:Option Addr) (c_12:Nat),env=[(2,.pointer (some ⟨b1,0,none⟩)),(3,.pointer (some ⟨b2,0,none⟩)),(5,.slice A6 x1.length c_6),(6,.slice A10 (x2 ++ ([(0,([]:List Int),([]:List TQ),([]:List Tz),(x1.take ((if r2<(x1.length:Int) then r2 else (x1.length:Int))).toNat))]:List Tl)).length c_10),(7,.slice A11 (x3 ++ ([(gt x1 0).1]:List TQ)).length c_11),(8,.slice A12 (x4 ++ ([(gt x1 (w64 ((if r2<(x1.length:Int) then r2 else (x1.length:Int)) - 1))).1]:List TQ)).length c_12),(9,.int .i64 (w64 (x5+1))),(10,.int .i64 (if r2<(x1.length:Int) then r2 else (x1.length:Int)))]∧St w0 F0 [O9 (x3 ++ ([(gt x1 0).1]:List TQ)) A11 c_11,O9 (x4 ++ ([(gt x1 (w64 ((if r2<(x1.length:Int) then r2 else (x1.length:Int)) - 1))).1]:List TQ)) A12 c_12,M42 (x2 ++ ([(0,([]:List Int),([]:List TQ),([]:List Tz),(x1.take ((if r2<(x1.length:Int) then r2 else (x1.length:Int))).toNat))]:List Tl)) A10 c_10 cs2,X23 b1 a0.1 a0.2.1 a0.2.2.1 a0.2.2.2.1 a0.2.2.2.2.1 a0.2.2.2.2.2.1 a0.2.2.2.2.2.2.1 a0.2.2.2.2.2.2.2,X28 b2 a1.1 A1 c_1 a1.2.1 A2 c_2 a1.2.2.1 A3 c_3 a1.2.2.2 A4 c_4] [E42 (x2 ++ ([(0,([]:List Int),([]:List TQ),([]:List Tz),(x1.take ((if r2<(x1.length:Int) then r2 else (x1.length:Int))).toNat))]:List Tl)) cs2,R42 ([(0,([]:List Int),([]:List TQ),([]:List Tz),(x1.take ((if r2<(x1.length:Int) then r2 else (x1.length:Int))).toNat))]:List Tl) (some ⟨b6,0,none⟩) 1,Yl (x1.take ((if r2<(x1.length:Int) then r2 else (x1.length:Int))).toNat) A6 c_6,Yl a1.1 A1 c_1,Yp a1.2.1 A2 c_2,R5 a1.2.2.1 A3 c_3,R5 a1.2.2.2 A4 c_4,Yl x1 A6 c_6,E42 x2 cs1] w) ?_ ?_
   ·refine Zx (sO h12 [1,1]) ?_
    have h17:=h12.drew
    refine Zl [0,1,7,8,9,10] ?_
    have e3:=J1 h17.wh (Zi 12) p4
    refine Zf 2 rfl (Jk e3 p4) ?_
    refine Zl [3] ?_
    refine Zf 4 rfl (V1 0 wI (Zi 9) p4) ?_
    refine Zf 11 rfl (Zg e3 p5 p6) ?_
    refine Zl [12] ?_
    refine Zf 13 rfl (Zh 0 wI (Zi 9) p5 p6) ?_
    refine TX [5,14] (i:=5) rfl rfl rfl rfl ?_
    refine (Xp ?_ (Xp ?_ Uk))
    ·refine Xk 5 rfl (Z1 .str ([(gt x1 0).1]:List TQ) h17) ?_
     rintro _ w17 ⟨b9,rfl,h18⟩
     replace h18:=nf h18
     refine ⟨⟨[_,_,_,_],(sO h18 [0,0,2,2,0,0])⟩,?_⟩
     refine TX [6,14] (i:=6) rfl rfl rfl rfl ?_
     refine (Xp ?_ (Xp ?_ Uk))
     ·refine Xk 6 rfl (Zv 4 h18 (gO 0) p7) ?_
      rintro _ w18 ⟨A13,c_13,rfl,h19⟩
      replace h19:=nf h19
      refine ⟨⟨[_,_,_,_],(sO h19 [0,0,0,2,0,0])⟩,?_⟩
      refine Yh 14 rfl (Z1 .str ([(gt x1 (w64 ((if r2<(x1.length:Int) then r2 else (x1.length:Int)) - 1))).1]:List TQ) h19) ?_
      rintro _ w19 ⟨b10,rfl,h20⟩
      replace h20:=nf h20
      refine ⟨⟨[_,_,_,_,_],(sO h20 [0,0,0,0,2,0,0])⟩,?_⟩
      refine Yh 15 rfl (Zv 6 h20 (gO 0) p8) ?_
      rintro _ w20 ⟨A14,c_14,rfl,h21⟩
      replace h21:=nf h21
      refine ⟨⟨[_,_,_,_,_],h21⟩,?_⟩
      refine Zl [16,17] ?_
      refine Zy [2,3,5,6,7,8,9,10] ?_
      exact Yo ⟨A13,c_13,A14,c_14,rfl,(sOR h21 [2,0,2,2,2] [0,1,2,3,4,5,6,7,8])⟩
     ·refine Xk 14 rfl (Z1 .str ([(gt x1 (w64 ((if r2<(x1.length:Int) then r2 else (x1.length:Int)) - 1))).1]:List TQ) h18) ?_
      rintro _ w21 ⟨b11,rfl,h22⟩
      replace h22:=nf h22
      refine ⟨⟨[_,_,_,_,_],(sO h22 [0,0,0,2,2,0,0])⟩,?_⟩
      refine Yh 6 rfl (Zv 5 h22 (gO 1) p7) ?_
      rintro _ w22 ⟨A15,c_15,rfl,h23⟩
      replace h23:=nf h23
      refine ⟨⟨[_,_,_,_,_],(sO h23 [0,0,0,0,2,0,0])⟩,?_⟩
      refine Yh 15 rfl (Zv 6 h23 (gO 1) p8) ?_
      rintro _ w23 ⟨A16,c_16,rfl,h24⟩
      replace h24:=nf h24
      refine ⟨⟨[_,_,_,_,_],h24⟩,?_⟩
      refine Zl [16,17] ?_
      refine Zy [2,3,5,6,7,8,9,10] ?_
      exact Yo ⟨A15,c_15,A16,c_16,rfl,(sOR h24 [1,0,2,2,2] [0,1,2,3,4,5,6,7,8])⟩
    ·refine Xk 14 rfl (Z1 .str ([(gt x1 (w64 ((if r2<(x1.length:Int) then r2 else (x1.length:Int)) - 1))).1]:List TQ) h17) ?_
     rintro _ w24 ⟨b12,rfl,h25⟩
     replace h25:=nf h25
     refine ⟨⟨[_,_,_,_],(sO h25 [0,0,2,2,0,0])⟩,?_⟩
     refine Yh 5 rfl (Z1 .str ([(gt x1 0).1]:List TQ) h25) ?_
     rintro _ w25 ⟨b13,rfl,h26⟩
     replace h26:=nf h26
     refine ⟨⟨[_,_,_,_,_],(sO h26 [0,0,0,2,2,0,0])⟩,?_⟩
     refine Yh 6 rfl (Zv 5 h26 (gO 0) p7) ?_
     rintro _ w26 ⟨A17,c_17,rfl,h27⟩
     replace h27:=nf h27
     refine ⟨⟨[_,_,_,_,_],(sO h27 [0,0,0,0,2,0,0])⟩,?_⟩
     refine Yh 15 rfl (Zv 6 h27 (gO 2) p8) ?_
     rintro _ w27 ⟨A18,c_18,rfl,h28⟩
     replace h28:=nf h28
     refine ⟨⟨[_,_,_,_,_],h28⟩,?_⟩
     refine Zl [16,17] ?_
     refine Zy [2,3,5,6,7,8,9,10] ?_
     exact Yo ⟨A17,c_17,A18,c_18,rfl,(sOR h28 [1,0,2,2,2] [0,1,2,3,4,5,6,7,8])⟩
   rintro env w28 ⟨A11,c_11,A12,c_12,rfl,h29⟩
   refine T4 (Zd 2 ?_)
   obtain ⟨⟨p9,p10⟩,H⟩:=Zk H
   have e4:=h29.cap (Zi 12)
   refine Zc (Vq (x1.drop ((if r2<(x1.length:Int) then r2 else (x1.length:Int))).toNat) (if r2<(x1.length:Int) then r2 else (x1.length:Int)) (x1.length:Int) e4 p9 p10 (Int.le_refl _) (Xn _ _)) ?_
   refine Ze [2,3,5,6,7,8,9] rfl ?_
   have h30:=h29.read (k:=7) rfl (fun w F h=>((Zbr (ty:=(.pair .str .str)) (l:=(if r2<(x1.length:Int) then r2 else (x1.length:Int))) (h:=(x1.length:Int)) (sub:=(x1.drop ((if r2<(x1.length:Int) then r2 else (x1.length:Int))).toNat)) rfl p9 p10 (Int.le_refl _) (Xn _ _)) w F h))
   have h31:=(sOR h30 [3,3,2,0,0] [4,5,6,7,0,1])
   exact ⟨k2,by omega,_,_,_,_,_,_,_,_,_,_,_,_,_,_,H,rfl,h31⟩
  refine T4 (Zd 1 ?_)
  refine rB (Z1 .str ([([]:List UInt8)]:List TQ) h12) fun b14 w29 h32=>?_
  obtain ⟨p11,H⟩:=Zk H
  refine Zr (Zv 4 h32 (gO 0) p11) ?_
  rintro _ w30 ⟨A19,c_19,rfl,h33⟩
  replace h33:=nf h33
  refine Zd 1 ?_
  refine rB (Z1 .str ([([]:List UInt8)]:List TQ) h33) fun b15 w31 h34=>?_
  obtain ⟨p12,H⟩:=Zk H
  refine Zr (Zv 6 h34 (gO 0) p12) ?_
  rintro _ w32 ⟨A20,c_20,rfl,h35⟩
  replace h35:=nf h35
  refine Ze [2,3,5,6,7,8,9,10] rfl ?_
  have h36:=sO h35 [0,1,2,2,2]
  replace h36:=nf h36
  refine T4 (Zd 2 ?_)
  obtain ⟨⟨p13,p14⟩,H⟩:=Zk H
  have e5:=h36.cap (Zi 12)
  refine Zc (Vq (x1.drop ((if r2<(x1.length:Int) then r2 else (x1.length:Int))).toNat) (if r2<(x1.length:Int) then r2 else (x1.length:Int)) (x1.length:Int) e5 p13 p14 (Int.le_refl _) (Xn _ _)) ?_
  refine Ze [2,3,5,6,7,8,9] rfl ?_
  have h37:=h36.read (k:=7) rfl (fun w F h=>((Zbr (ty:=(.pair .str .str)) (l:=(if r2<(x1.length:Int) then r2 else (x1.length:Int))) (h:=(x1.length:Int)) (sub:=(x1.drop ((if r2<(x1.length:Int) then r2 else (x1.length:Int))).toNat)) rfl p13 p14 (Int.le_refl _) (Xn _ _)) w F h))
  have h38:=(sOR h37 [3,3,2,1,0] [4,5,6,7,0,1])
  exact ⟨k2,by omega,_,_,_,_,_,_,_,_,_,_,_,_,_,_,H,rfl,h38⟩
 refine T1 (T6 (T4 ?_))
 refine Zd 1 ?_
 refine Zr (Ze5 (t:=(.pair (.int .i64) (.pair (.slice 30 (.int .u32)) (.pair (.slice 9 .str) (.pair (.slice 106 (.pair .str (.pair .bool .str))) (.slice 104 (.pair .str .str))))))) (xs:=x2) 2 5 h8) ?_
 rintro _ w33 ⟨b16,cs3,rfl,h39⟩
 replace h39:=nf h39
 refine Ze [2,3,6,7,8,9,11] rfl ?_
 refine T6 (T3 (fun env w=>∃ k3 x7 A21 c_21 x8 A22 c_22 x9 A23 c_23 x10 x11 A24 c_24 x12 cs4,Q130.l2 k3 a0 a1 x7 x8 x9 x10 x11 x12=some r∧env=[(2,.pointer (some ⟨b1,0,none⟩)),(3,.pointer (some ⟨b2,0,none⟩)),(6,.slice A21 x7.length c_21),(7,.slice A22 x8.length c_22),(8,.slice A23 x9.length c_23),(9,.int .i64 x10),(11,.slice A24 x11.length c_24),(88,.bool x12)]∧St w0 F0 [X23 b1 a0.1 a0.2.1 a0.2.2.1 a0.2.2.2.1 a0.2.2.2.2.1 a0.2.2.2.2.2.1 a0.2.2.2.2.2.2.1 a0.2.2.2.2.2.2.2,X28 b2 a1.1 A1 c_1 a1.2.1 A2 c_2 a1.2.2.1 A3 c_3 a1.2.2.2 A4 c_4,O9 x8 A22 c_22,O9 x9 A23 c_23,N47 x11 A24 c_24 cs4] [Yl a1.1 A1 c_1,Yp a1.2.1 A2 c_2,R5 a1.2.2.1 A3 c_3,R5 a1.2.2.2 A4 c_4,V47 x11 cs4] w∧k3≤k2) ?_ ?_)
 ·refine TY ?_
  have h109:=(sOR h39 [1,1,1,1,0] [1,2,3,4,0])
  refine T2 (fun kk env w=>∃ x13 A27 c_27 x14 A28 c_28 x15 A29 c_29 x16 x17 A30 c_30 cs6,Q130.l3 kk a0 a1 x13 x14 x15 x16 x17=some r∧env=[(2,.pointer (some ⟨b1,0,none⟩)),(3,.pointer (some ⟨b2,0,none⟩)),(6,.slice A27 x13.length c_27),(7,.slice A28 x14.length c_28),(8,.slice A29 x15.length c_29),(9,.int .i64 x16),(11,.slice A30 x17.length c_30)]∧St w0 F0 [X23 b1 a0.1 a0.2.1 a0.2.2.1 a0.2.2.2.1 a0.2.2.2.2.1 a0.2.2.2.2.2.1 a0.2.2.2.2.2.2.1 a0.2.2.2.2.2.2.2,X28 b2 a1.1 A1 c_1 a1.2.1 A2 c_2 a1.2.2.1 A3 c_3 a1.2.2.2 A4 c_4,O9 x14 A28 c_28,O9 x15 A29 c_29,N47 x17 A30 c_30 cs6] [Yl a1.1 A1 c_1,Yp a1.2.1 A2 c_2,R5 a1.2.2.1 A3 c_3,R5 a1.2.2.2 A4 c_4,V47 x17 cs6] w∧kk≤k2) (k:=k2) ⟨_,_,_,_,_,_,_,_,_,_,_,_,_,_,H,rfl,h109,T8 _⟩ ?_
  rintro k4 env w40 ⟨x13,A27,c_27,x14,A28,c_28,x15,A29,c_29,x16,x17,A30,c_30,cs6,H,rfl,h51,hk4⟩
  rcases k4 with _ | k4
  ·exact z0 H
  rw [Q130.l3] at H
  refine T6 (T6 ?_)
  refine T3 (fun env w=>∃ k5 x18,Q130.l4 k5 a0 a1 x13 x14 x15 x16 x17 x18=some r∧env=[(2,.pointer (some ⟨b1,0,none⟩)),(3,.pointer (some ⟨b2,0,none⟩)),(6,.slice A27 x13.length c_27),(7,.slice A28 x14.length c_28),(8,.slice A29 x15.length c_29),(9,.int .i64 x16),(11,.slice A30 x17.length c_30),(88,.bool x18)]∧St w0 F0 [X23 b1 a0.1 a0.2.1 a0.2.2.1 a0.2.2.2.1 a0.2.2.2.2.1 a0.2.2.2.2.2.1 a0.2.2.2.2.2.2.1 a0.2.2.2.2.2.2.2,X28 b2 a1.1 A1 c_1 a1.2.1 A2 c_2 a1.2.2.1 A3 c_3 a1.2.2.2 A4 c_4,O9 x14 A28 c_28,O9 x15 A29 c_29,N47 x17 A30 c_30 cs6] [Yl a1.1 A1 c_1,Yp a1.2.1 A2 c_2,R5 a1.2.2.1 A3 c_3,R5 a1.2.2.2 A4 c_4,V47 x17 cs6] w∧k5≤k4) ?_ ?_
  ·refine T4 (Zd 4 ?_)
   refine Z8 84 H (fun c8 H=>?_) fun c8 H=>?_
   ·refine Ze [2,3,6,7,8,9,11,88] rfl ?_
    have h107:=(sOR h51 [0,0,0,0,0] [0,1,2,3,4])
    exact ⟨k4,_,H,rfl,h107,T8 _⟩
   refine Ze [2,3,6,7,8,9,11,88] rfl ?_
   have h108:=(sOR h51 [0,0,0,0,0] [0,1,2,3,4])
   exact ⟨k4,_,H,rfl,h108,T8 _⟩
  rintro env w42 ⟨k5,x18,H,rfl,h52,hk5⟩
  rcases k5 with _ | k5
  ·exact z0 H
  rw [Q130.l4] at H
  refine jIf H (fun c4 H=>?_) fun c4 H=>?_
  ·refine T7 (TY (T6 (T4 ?_)))
   refine rB (Zg3 (.pair (.int .i64) (.pair (.slice 30 (.int .u32)) (.pair (.slice 9 .str) (.pair (.slice 106 (.pair .str (.pair .bool .str))) (.slice 104 (.pair .str .str)))))) h52) fun b19 w43 h53=>?_
   refine Ze [2,3,6,7,8,9,11,12] rfl ?_
   refine T6 (T4 ?_)
   refine rB (Z1 .str ([]:List TQ) h53) fun b20 w44 h54=>?_
   refine rB (Z1 .str ([]:List TQ) h54) fun b21 w45 h55=>?_
   refine Ze [2,3,6,7,8,9,11,12,13,14] rfl ?_
   refine T6 (T6 (Za [2,3,6,7,8,9,11,12,13,14,15] ?_))
   refine T3 (fun env w=>∃ k6 x19 x20 A31 c_31 x21 A32 c_32 x22 A33 c_33 x23 x24 cs7,Q130.l5 k6 a0 a1 x17 x19 x20 x21 x22 x23 x24=some r∧env=[(2,.pointer (some ⟨b1,0,none⟩)),(3,.pointer (some ⟨b2,0,none⟩)),(6,.slice A27 x13.length c_27),(7,.slice A28 x14.length c_28),(8,.slice A29 x15.length c_29),(9,.int .i64 x19),(11,.slice A30 x17.length c_30),(12,.slice A31 x20.length c_31),(13,.slice A32 x21.length c_32),(14,.slice A33 x22.length c_33),(15,.int .i64 x23),(95,.bool x24)]∧St w0 F0 [X23 b1 a0.1 a0.2.1 a0.2.2.1 a0.2.2.2.1 a0.2.2.2.2.1 a0.2.2.2.2.2.1 a0.2.2.2.2.2.2.1 a0.2.2.2.2.2.2.2,X28 b2 a1.1 A1 c_1 a1.2.1 A2 c_2 a1.2.2.1 A3 c_3 a1.2.2.2 A4 c_4,O9 x14 A28 c_28,O9 x15 A29 c_29,N47 x17 A30 c_30 cs6,M42 x20 A31 c_31 cs7,O9 x21 A32 c_32,O9 x22 A33 c_33] [Yl a1.1 A1 c_1,Yp a1.2.1 A2 c_2,R5 a1.2.2.1 A3 c_3,R5 a1.2.2.2 A4 c_4,V47 x17 cs6,E42 x20 cs7] w∧k6≤k5) ?_ ?_
   ·refine TY ?_
    have h105:=(sOR h55 [3,3,3,3,3,2,1,0] [1,2,3,4,5,0])
    refine T2 (fun kk env w=>∃ x25 x26 A35 c_35 x27 A36 c_36 x28 A37 c_37 x29 cs10,Q130.l6 kk a0 a1 x13 x14 x15 x17 x25 x26 x27 x28 x29=some r∧env=[(2,.pointer (some ⟨b1,0,none⟩)),(3,.pointer (some ⟨b2,0,none⟩)),(6,.slice A27 x13.length c_27),(7,.slice A28 x14.length c_28),(8,.slice A29 x15.length c_29),(9,.int .i64 x25),(11,.slice A30 x17.length c_30),(12,.slice A35 x26.length c_35),(13,.slice A36 x27.length c_36),(14,.slice A37 x28.length c_37),(15,.int .i64 x29)]∧St w0 F0 [X23 b1 a0.1 a0.2.1 a0.2.2.1 a0.2.2.2.1 a0.2.2.2.2.1 a0.2.2.2.2.2.1 a0.2.2.2.2.2.2.1 a0.2.2.2.2.2.2.2,X28 b2 a1.1 A1 c_1 a1.2.1 A2 c_2 a1.2.2.1 A3 c_3 a1.2.2.2 A4 c_4,O9 x14 A28 c_28,O9 x15 A29 c_29,N47 x17 A30 c_30 cs6,M42 x26 A35 c_35 cs10,O9 x27 A36 c_36,O9 x28 A37 c_37] [Yl a1.1 A1 c_1,Yp a1.2.1 A2 c_2,R5 a1.2.2.1 A3 c_3,R5 a1.2.2.2 A4 c_4,V47 x17 cs6,E42 x26 cs10] w∧kk≤k5) (k:=k5) ⟨_,_,_,_,_,_,_,_,_,_,_,_,H,rfl,h105,T8 _⟩ ?_
    rintro k7 env w50 ⟨x25,x26,A35,c_35,x27,A36,c_36,x28,A37,c_37,x29,cs10,H,rfl,h61,hk7⟩
    rcases k7 with _ | k7
    ·exact z0 H
    rw [Q130.l6] at H
    refine T6 (T6 (Za [2,3,6,7,8,9,11,12,13,14,15,95] ?_))
    refine jIf H (fun c5 H=>?_) fun c5 H=>?_
    ·refine T7 (TY (T6 (T4 ?_)))
     refine Zd 4 ?_
     refine Zc (Zb 1 h61.wht) ?_
     refine Zd 2 ?_
     refine Zc (Zb 0 h61.wht) ?_
     refine cS H [] h61 rfl Q134.spec (gS [8,9,10,11]) fun r5 w51 H h62=>?_
     refine Ze [2,3,6,7,8,9,11,12,13,14,15,16] rfl ?_
     refine T6 (Za [2,3,6,7,8,9,11,12,13,14,15,16] ?_)
     refine T6 (T4 ?_)
     refine Zd 3 ?_
     refine rB (Ym h62) fun b23 w52 h63=>?_
     refine rS (Zs 0 h63) fun _ w53 h64=>?_
     refine Ze [2,3,6,7,8,9,11,12,13,14,15,16,17] rfl ?_
     refine T6 (T6 (Za [2,3,6,7,8,9,11,12,13,14,15,16,17,18] ?_))
     refine T3 (fun env w=>∃ k8 x30 A38 c_38 x31 A39 c_39 x32 x33,Q130.l7 k8 a0 a1 r5 x13 x14 x15 x17 x25 x26 x27 x28 x29 x30 x31 x32 x33=some r∧env=[(2,.pointer (some ⟨b1,0,none⟩)),(3,.pointer (some ⟨b2,0,none⟩)),(6,.slice A27 x13.length c_27),(7,.slice A28 x14.length c_28),(8,.slice A29 x15.length c_29),(9,.int .i64 (w64 (x25+1))),(11,.slice A30 x17.length c_30),(12,.slice A35 x26.length c_35),(13,.slice A36 x27.length c_36),(14,.slice A37 x28.length c_37),(15,.int .i64 x29),(16,.int .i64 (if (if r5>2 then r5 else 2)<(w64 ((x13.length:Int) - x29)) then (if r5>2 then r5 else 2) else (w64 ((x13.length:Int) - x29)))),(17,.pointer (some ⟨b23,0,none⟩)),(18,.int .i64 x32),(114,.bool x33)]∧St w0 F0 [X23 b1 a0.1 a0.2.1 a0.2.2.1 a0.2.2.2.1 a0.2.2.2.2.1 a0.2.2.2.2.2.1 a0.2.2.2.2.2.2.1 a0.2.2.2.2.2.2.2,X28 b2 a1.1 A1 c_1 a1.2.1 A2 c_2 a1.2.2.1 A3 c_3 a1.2.2.2 A4 c_4,X42 b23 (x17.length:Int) x30 A38 c_38 x31 A39 c_39 ([]:List Tz) none 0 ([]:List TC) none 0,O9 x14 A28 c_28,O9 x15 A29 c_29,N47 x17 A30 c_30 cs6,M42 x26 A35 c_35 cs10,O9 x27 A36 c_36,O9 x28 A37 c_37,O30 x30 A38 c_38,O9 x31 A39 c_39] [Yl a1.1 A1 c_1,Yp a1.2.1 A2 c_2,R5 a1.2.2.1 A3 c_3,R5 a1.2.2.2 A4 c_4,V47 x17 cs6,E42 x26 cs10] w∧k8≤k7) ?_ ?_
     ·refine TY ?_
      have h101:=h64.addNil 30 (.int .u32)
      have h102:=h101.addNil 9 .str
      have h103:=(sOR h102 [3,3,2,2,2,2,2,2,2,1,0] [0,1,2,3,4,5])
      refine T2 (fun kk env w=>∃ x34 A49 c_49 x35 A50 c_50 x36,Q130.l8 kk a0 a1 r5 x13 x14 x15 x17 x25 x26 x27 x28 x29 x34 x35 x36=some r∧env=[(2,.pointer (some ⟨b1,0,none⟩)),(3,.pointer (some ⟨b2,0,none⟩)),(6,.slice A27 x13.length c_27),(7,.slice A28 x14.length c_28),(8,.slice A29 x15.length c_29),(9,.int .i64 (w64 (x25+1))),(11,.slice A30 x17.length c_30),(12,.slice A35 x26.length c_35),(13,.slice A36 x27.length c_36),(14,.slice A37 x28.length c_37),(15,.int .i64 x29),(16,.int .i64 (if (if r5>2 then r5 else 2)<(w64 ((x13.length:Int) - x29)) then (if r5>2 then r5 else 2) else (w64 ((x13.length:Int) - x29)))),(17,.pointer (some ⟨b23,0,none⟩)),(18,.int .i64 x36)]∧St w0 F0 [X23 b1 a0.1 a0.2.1 a0.2.2.1 a0.2.2.2.1 a0.2.2.2.2.1 a0.2.2.2.2.2.1 a0.2.2.2.2.2.2.1 a0.2.2.2.2.2.2.2,X28 b2 a1.1 A1 c_1 a1.2.1 A2 c_2 a1.2.2.1 A3 c_3 a1.2.2.2 A4 c_4,X42 b23 (x17.length:Int) x34 A49 c_49 x35 A50 c_50 ([]:List Tz) none 0 ([]:List TC) none 0,O9 x14 A28 c_28,O9 x15 A29 c_29,N47 x17 A30 c_30 cs6,M42 x26 A35 c_35 cs10,O9 x27 A36 c_36,O9 x28 A37 c_37,O30 x34 A49 c_49,O9 x35 A50 c_50] [Yl a1.1 A1 c_1,Yp a1.2.1 A2 c_2,R5 a1.2.2.1 A3 c_3,R5 a1.2.2.2 A4 c_4,V47 x17 cs6,E42 x26 cs10] w∧kk≤k7) (k:=k7) ⟨_,_,_,_,_,_,_,H,rfl,h103,T8 _⟩ ?_
      rintro k9 env w75 ⟨x34,A49,c_49,x35,A50,c_50,x36,H,rfl,h88,hk9⟩
      rcases k9 with _ | k9
      ·exact z0 H
      rw [Q130.l8] at H
      refine T6 (T6 (Za [2,3,6,7,8,9,11,12,13,14,15,16,17,18,114] ?_))
      refine jIf H (fun c6 H=>?_) fun c6 H=>?_
      ·refine T7 (T6 (TY (T6 (T4 ?_))))
       refine Zd 1 ?_
       refine Zc (Zb 2 h88.wht) ?_
       refine Zd 5 ?_
       refine rB (Z1 (.int .u32) ([(IntKind.u32.wrap ((w64 ((w64 (x29+x36))+1))))]:List Int) h88) fun b32 w76 h89=>?_
       obtain ⟨p23,H⟩:=Zk H
       refine Zr (Zv 10 h89 (gO 0) p23) ?_
       rintro _ w77 ⟨A51,c_51,rfl,h90⟩
       replace h90:=nf h90
       refine Zd 1 ?_
       refine rS (Zs 4 h90) fun _ w78 h91=>?_
       refine Ze [2,3,6,7,8,9,11,12,13,14,15,16,17,18] rfl ?_
       refine T6 (Za [2,3,6,7,8,9,11,12,13,14,15,16,17,18,128] ?_)
       refine jIf H (fun c7 H=>?_) fun c7 H=>?_
       ·refine T6 (jH h91 fun h92=>?_)
        refine Zl [0,1,2,3,4,7,8,9,10] ?_
        obtain ⟨⟨p24,p25⟩,H⟩:=Zk H
        have e10:=Zw h92.wh (gO 6) p24 p25
        refine Zf 5 rfl (Zg e10 p24 p25) ?_
        refine Zf 6 rfl (Zh 0 wI (gO 6) p24 p25) ?_
        obtain ⟨⟨p26,p27⟩,H⟩:=Zk H
        have e11:=Zw h92.wh (gO 5) p26 p27
        refine Zf 11 rfl (Zg e11 p26 p27) ?_
        refine Zf 12 rfl (Zh 0 wI (gO 5) p26 p27) ?_
        refine cSJ 13 rfl H [] h92 rfl Q138.spec Zn 0 fun r6 w79 H h93=>?_
        refine Zl [14,15,16,17,18] ?_
        refine Zy [2,3,6,7,8,9,11,12,13,14,15,16,17,18,19] ?_
        refine T4 (Zd 1 ?_)
        refine Zc (Zb 0 h93.wht) ?_
        refine Zd 1 ?_
        refine rB (Z1 .str ([r6.1]:List TQ) h93) fun b33 w80 h94=>?_
        obtain ⟨p28,H⟩:=Zk H
        refine Zr (Zv 12 h94 (gO 0) p28) ?_
        rintro _ w81 ⟨A52,c_52,rfl,h95⟩
        replace h95:=nf h95
        refine Zd 1 ?_
        refine rS (Zs 2 h95) fun _ w82 h96=>?_
        refine Ze [2,3,6,7,8,9,11,12,13,14,15,16,17,18] rfl ?_
        have h97:=sO h96 [0,0,1,2,2,2,2,2,2,2,2]
        replace h97:=nf h97
        refine Za [2,3,6,7,8,9,11,12,13,14,15,16,17,18] ?_
        have h98:=(sOR h97 [3,3,0,2,2,2,2,2,2,1,0] [0,1,2,3,4,5])
        exact ⟨k9,by omega,_,_,_,_,_,_,_,H,rfl,h98,by omega⟩
       refine T7 (Za [2,3,6,7,8,9,11,12,13,14,15,16,17,18] ?_)
       have h99:=(sOR h91 [3,3,0,2,2,2,2,2,2,0,1] [0,1,2,3,4,5])
       exact ⟨k9,by omega,_,_,_,_,_,_,_,H,rfl,h99,by omega⟩
      refine T1 ?_
      have h100:=(sOR h88 [0,0,0,0,0,0,0,0,0,0,0] [0,1,2,3,4,5])
      exact ⟨k9,_,_,_,_,_,_,_,_,H,rfl,h100,by omega⟩
     rintro env w55 ⟨k8,x30,A38,c_38,x31,A39,c_39,x32,x33,H,rfl,h65,hk8⟩
     rcases k8 with _ | k8
     ·exact z0 H
     rw [Q130.l7] at H
     refine T6 (T4 ?_)
     refine Zd 1 ?_
     refine Zc (Zb 2 h65.wht) ?_
     have h66:=h65.freeze (k:=9) rfl Yg
     have h67:=h66.freeze (k:=9) rfl Yg
     refine Zr (Zcg (.pair (.int .i64) (.pair (.slice 30 (.int .u32)) (.pair (.slice 9 .str) (.pair (.slice 106 (.pair .str (.pair .bool .str))) (.slice 104 (.pair .str .str)))))) ([((x17.length:Int),x30,x31,([]:List Tz),([]:List TC))]:List Tl) h67 (Za5 ⟨_,_,rfl,(Vp rfl _),⟨_,_,rfl,(.inl (Zi 1)),⟨_,_,rfl,(.inl (Zi 0)),⟨_,_,rfl,(.inr Ub),(.inr Ub)⟩⟩⟩⟩ Zd0)) ?_
     rintro _ w56 ⟨b24,rfl,h68⟩
     replace h68:=nf h68
     obtain ⟨p16,H⟩:=Zk H
     refine Zr (Zh4 6 8 0 h68 p16) ?_
     rintro _ w57 ⟨A40,c_40,cs11,rfl,h69⟩
     replace h69:=nf h69
     refine Ze [2,3,6,7,8,9,11,12,13,14,15,16] rfl ?_
     refine T6 ?_
     obtain ⟨⟨p17,p18⟩,H⟩:=Zk H
     obtain ⟨⟨p19,p20⟩,H⟩:=Zk H
     obtain ⟨p21,H⟩:=Zk H
     obtain ⟨p22,H⟩:=Zk H
     refine T3 (fun env w=>∃(A41:Option Addr) (c_41:Nat) (A42:Option Addr) (c_42:Nat),env=[(2,.pointer (some ⟨b1,0,none⟩)),(3,.pointer (some ⟨b2,0,none⟩)),(6,.slice A27 x13.length c_27),(7,.slice A28 x14.length c_28),(8,.slice A29 x15.length c_29),(9,.int .i64 (w64 (x25+1))),(11,.slice A30 x17.length c_30),(12,.slice A40 (x26 ++ ([((x17.length:Int),x30,x31,([]:List Tz),([]:List TC))]:List Tl)).length c_40),(13,.slice A41 (x27 ++ ([(gt x14 x29)]:List TQ)).length c_41),(14,.slice A42 (x28 ++ ([(gt x15 (w64 ((w64 (x29+(if (if r5>2 then r5 else 2)<(w64 ((x13.length:Int) - x29)) then (if r5>2 then r5 else 2) else (w64 ((x13.length:Int) - x29))))) - 1)))]:List TQ)).length c_42),(15,.int .i64 x29),(16,.int .i64 (if (if r5>2 then r5 else 2)<(w64 ((x13.length:Int) - x29)) then (if r5>2 then r5 else 2) else (w64 ((x13.length:Int) - x29))))]∧St w0 F0 [O9 (x27 ++ ([(gt x14 x29)]:List TQ)) A41 c_41,O9 (x28 ++ ([(gt x15 (w64 ((w64 (x29+(if (if r5>2 then r5 else 2)<(w64 ((x13.length:Int) - x29)) then (if r5>2 then r5 else 2) else (w64 ((x13.length:Int) - x29))))) - 1)))]:List TQ)) A42 c_42,M42 (x26 ++ ([((x17.length:Int),x30,x31,([]:List Tz),([]:List TC))]:List Tl)) A40 c_40 cs11,X23 b1 a0.1 a0.2.1 a0.2.2.1 a0.2.2.2.1 a0.2.2.2.2.1 a0.2.2.2.2.2.1 a0.2.2.2.2.2.2.1 a0.2.2.2.2.2.2.2,X28 b2 a1.1 A1 c_1 a1.2.1 A2 c_2 a1.2.2.1 A3 c_3 a1.2.2.2 A4 c_4,X42 b23 (x17.length:Int) x30 A38 c_38 x31 A39 c_39 ([]:List Tz) none 0 ([]:List TC) none 0,O9 x14 A28 c_28,O9 x15 A29 c_29,N47 x17 A30 c_30 cs6] [E42 (x26 ++ ([((x17.length:Int),x30,x31,([]:List Tz),([]:List TC))]:List Tl)) cs11,R42 ([((x17.length:Int),x30,x31,([]:List Tz),([]:List TC))]:List Tl) (some ⟨b24,0,none⟩) 1,R9 x31 A39 c_39,R30 x30 A38 c_38,Yl a1.1 A1 c_1,Yp a1.2.1 A2 c_2,R5 a1.2.2.1 A3 c_3,R5 a1.2.2.2 A4 c_4,V47 x17 cs6,E42 x26 cs10] w) ?_ ?_
     ·refine Zx (sO h69 [1,1,1]) ?_
      have h74:=h69.drew
      refine Zl [0,1,2,7,8,9,10,11,12] ?_
      have e8:=Zw h74.wh (gO 4) p17 p18
      refine Zf 3 rfl (Zg e8 p17 p18) ?_
      refine HJ.more ⟨[_,_,_,_,_],(sO h74 [0,4,4,4,4,3,0,0,0])⟩ ?_
      refine Zf 4 rfl (Zh 0 wI (gO 0) p17 p18) ?_
      have e9:=Zw h74.wh (gO 5) p19 p20
      refine Zf 13 rfl (Zg e9 p19 p20) ?_
      refine HJ.more ⟨[_,_,_,_],(sO h74 [0,5,5,5,4,3,0,0,0])⟩ ?_
      refine Zf 14 rfl (Zh 0 wI (gO 0) p19 p20) ?_
      refine TX [5,15] (i:=5) rfl rfl rfl rfl ?_
      refine (Xp ?_ (Xp ?_ Uk))
      ·refine Xk 5 rfl (Z1 .str ([(gt x14 x29)]:List TQ) h74) ?_
       rintro _ w62 ⟨b27,rfl,h75⟩
       replace h75:=nf h75
       refine ⟨⟨[_,_,_,_,_],(sO h75 [0,0,5,5,5,4,3,0,0,0])⟩,?_⟩
       refine TX [6,15] (i:=6) rfl rfl rfl rfl ?_
       refine (Xp ?_ (Xp ?_ Uk))
       ·refine Xk 6 rfl (Zv 8 h75 (gO 0) p21) ?_
        rintro _ w63 ⟨A43,c_43,rfl,h76⟩
        replace h76:=nf h76
        refine ⟨⟨[_,_,_,_,_],(sO h76 [0,0,0,5,5,4,3,0,0,0])⟩,?_⟩
        refine Yh 15 rfl (Z1 .str ([(gt x15 (w64 ((w64 (x29+(if (if r5>2 then r5 else 2)<(w64 ((x13.length:Int) - x29)) then (if r5>2 then r5 else 2) else (w64 ((x13.length:Int) - x29))))) - 1)))]:List TQ) h76) ?_
        rintro _ w65 ⟨b28,rfl,h77⟩
        replace h77:=nf h77
        refine ⟨⟨[_,_,_,_,_,_],(sO h77 [0,0,0,0,5,5,4,3,0,0,0])⟩,?_⟩
        refine Yh 16 rfl (Zv 10 h77 (gO 0) p22) ?_
        rintro _ w66 ⟨A44,c_44,rfl,h78⟩
        replace h78:=nf h78
        refine ⟨⟨[_,_,_,_,_,_],(sO h78 [0,0,0,0,0,5,4,3,0,0,0])⟩,?_⟩
        refine Zl [17,18] ?_
        refine Zy [2,3,6,7,8,9,11,12,13,14,15,16] ?_
        exact Yo ⟨A43,c_43,A44,c_44,rfl,(sOR h78 [2,0,2,2,2,2,2,2,2] [0,1,2,3,4,5,6,7,8,9])⟩
       ·refine Xk 15 rfl (Z1 .str ([(gt x15 (w64 ((w64 (x29+(if (if r5>2 then r5 else 2)<(w64 ((x13.length:Int) - x29)) then (if r5>2 then r5 else 2) else (w64 ((x13.length:Int) - x29))))) - 1)))]:List TQ) h75) ?_
        rintro _ w67 ⟨b29,rfl,h79⟩
        replace h79:=nf h79
        refine ⟨⟨[_,_,_,_,_,_],(sO h79 [0,0,0,5,5,5,4,3,0,0,0])⟩,?_⟩
        refine Yh 6 rfl (Zv 9 h79 (gO 1) p21) ?_
        rintro _ w68 ⟨A45,c_45,rfl,h80⟩
        replace h80:=nf h80
        refine ⟨⟨[_,_,_,_,_,_],(sO h80 [0,0,0,0,5,5,4,3,0,0,0])⟩,?_⟩
        refine Yh 16 rfl (Zv 10 h80 (gO 1) p22) ?_
        rintro _ w69 ⟨A46,c_46,rfl,h81⟩
        replace h81:=nf h81
        refine ⟨⟨[_,_,_,_,_,_],(sO h81 [0,0,0,0,0,5,4,3,0,0,0])⟩,?_⟩
        refine Zl [17,18] ?_
        refine Zy [2,3,6,7,8,9,11,12,13,14,15,16] ?_
        exact Yo ⟨A45,c_45,A46,c_46,rfl,(sOR h81 [1,0,2,2,2,2,2,2,2] [0,1,2,3,4,5,6,7,8,9])⟩
      ·refine Xk 15 rfl (Z1 .str ([(gt x15 (w64 ((w64 (x29+(if (if r5>2 then r5 else 2)<(w64 ((x13.length:Int) - x29)) then (if r5>2 then r5 else 2) else (w64 ((x13.length:Int) - x29))))) - 1)))]:List TQ) h74) ?_
       rintro _ w70 ⟨b30,rfl,h82⟩
       replace h82:=nf h82
       refine ⟨⟨[_,_,_,_,_],(sO h82 [0,0,5,5,5,4,3,0,0,0])⟩,?_⟩
       refine Yh 5 rfl (Z1 .str ([(gt x14 x29)]:List TQ) h82) ?_
       rintro _ w71 ⟨b31,rfl,h83⟩
       replace h83:=nf h83
       refine ⟨⟨[_,_,_,_,_,_],(sO h83 [0,0,0,5,5,5,4,3,0,0,0])⟩,?_⟩
       refine Yh 6 rfl (Zv 9 h83 (gO 0) p21) ?_
       rintro _ w72 ⟨A47,c_47,rfl,h84⟩
       replace h84:=nf h84
       refine ⟨⟨[_,_,_,_,_,_],(sO h84 [0,0,0,0,5,5,4,3,0,0,0])⟩,?_⟩
       refine Yh 16 rfl (Zv 10 h84 (gO 2) p22) ?_
       rintro _ w73 ⟨A48,c_48,rfl,h85⟩
       replace h85:=nf h85
       refine ⟨⟨[_,_,_,_,_,_],(sO h85 [0,0,0,0,0,5,4,3,0,0,0])⟩,?_⟩
       refine Zl [17,18] ?_
       refine Zy [2,3,6,7,8,9,11,12,13,14,15,16] ?_
       exact Yo ⟨A47,c_47,A48,c_48,rfl,(sOR h85 [1,0,2,2,2,2,2,2,2] [0,1,2,3,4,5,6,7,8,9])⟩
     rintro env w74 ⟨A41,c_41,A42,c_42,rfl,h86⟩
     refine Za [2,3,6,7,8,9,11,12,13,14,15] ?_
     have h87:=(sOR h86 [3,3,4,4,4,2,0,0] [4,5,6,7,8,0])
     exact ⟨k8,by omega,_,_,_,_,_,_,_,_,_,_,_,_,H,rfl,h87,by omega⟩
    refine T1 ?_
    have h104:=(sOR h61 [0,0,0,0,0,0,0,0] [0,1,2,3,4,5])
    exact ⟨k7,_,_,_,_,_,_,_,_,_,_,_,_,_,H,rfl,h104,by omega⟩
   rintro env w47 ⟨k6,x19,x20,A31,c_31,x21,A32,c_32,x22,A33,c_33,x23,x24,cs7,H,rfl,h56,hk6⟩
   rcases k6 with _ | k6
   ·exact z0 H
   rw [Q130.l5] at H
   refine T6 (Za [2,3,6,7,8,9,11] ?_)
   have h57:=sO h56 [0,0,2,2,2,2]
   replace h57:=nf h57
   refine T4 (Zd 2 ?_)
   refine Zr (Ze5 (t:=(.pair (.int .i64) (.pair (.slice 30 (.int .u32)) (.pair (.slice 9 .str) (.pair (.slice 106 (.pair .str (.pair .bool .str))) (.slice 104 (.pair .str .str))))))) (xs:=x20) 3 5 h57) ?_
   rintro _ w48 ⟨b22,cs8,rfl,h58⟩
   replace h58:=nf h58
   obtain ⟨p15,H⟩:=Zk H
   refine Zr (Zmw 3 0 5 0 h58 p15) ?_
   rintro _ w49 ⟨A34,c_34,cs9,rfl,h59⟩
   replace h59:=nf h59
   refine Ze [2,3,6,7,8,9,11] rfl ?_
   have h60:=(sOR h59 [1,1,1,1,0] [2,3,4,5,0])
   exact ⟨k6,by omega,_,_,_,_,_,_,_,_,_,_,_,_,_,_,H,rfl,h60,by omega⟩
  refine T1 ?_
  have h106:=(sOR h52 [0,0,0,0,0] [0,1,2,3,4])
  exact ⟨k5,_,_,_,_,_,_,_,_,_,_,_,_,_,_,_,H,rfl,h106,by omega⟩
 rintro env w35 ⟨k3,x7,A21,c_21,x8,A22,c_22,x9,A23,c_23,x10,x11,A24,c_24,x12,cs4,H,rfl,h40,hk3⟩
 rcases k3 with _ | k3
 ·exact z0 H
 rw [Q130.l2] at H
 refine T6 (T6 (Za [2,3,11,185] ?_))
 have h41:=sO h40 [0,0,2]
 replace h41:=nf h41
 refine jIf H (fun c3 H=>?_) fun c3 H=>?_
 ·refine T6 (T4 ?_)
  refine Zd 1 ?_
  refine Zr (Zcg (.pair (.int .i64) (.pair (.slice 30 (.int .u32)) (.pair (.slice 9 .str) (.pair (.slice 106 (.pair .str (.pair .bool .str))) (.slice 104 (.pair .str .str)))))) ([(0,([]:List Int),([]:List TQ),([]:List Tz),([]:List TC))]:List Tl) h41 (Za5 ⟨_,_,rfl,(Vp rfl _),⟨_,_,rfl,(.inr Ub),⟨_,_,rfl,(.inr Ub),⟨_,_,rfl,(.inr Ub),(.inr Ub)⟩⟩⟩⟩ Zd0)) ?_
  rintro _ w36 ⟨b17,rfl,h42⟩
  replace h42:=nf h42
  refine Zr (Zcg (.slice 42 (.pair (.int .i64) (.pair (.slice 30 (.int .u32)) (.pair (.slice 9 .str) (.pair (.slice 106 (.pair .str (.pair .bool .str))) (.slice 104 (.pair .str .str))))))) ([([(0,([]:List Int),([]:List TQ),([]:List Tz),([]:List TC))]:List Tl)]:List Tk) h42 (Za5 (.inl (Zi 0)) Zd0)) ?_
  rintro _ w37 ⟨b18,rfl,h43⟩
  replace h43:=nf h43
  refine Ze [4] rfl ?_
  have h44:=sO h43 []
  replace h44:=nf h44
  cases H
  exact T5 (jRA ⟨_,_,rfl,rfl,rfl⟩ (sOR h44 [] [0]))
 refine T7 (T6 (Zx (sO h41 [0,0]) ?_))
 have h45:=h41.drew
 refine Zl [0,4,6] ?_
 refine Zf 1 rfl (Zb 0 wI) ?_
 refine Zf 2 rfl (Zb 1 wI) ?_
 refine Zf 5 rfl (Zb 1 wI) ?_
 refine Zf 7 rfl (Zb 0 wI) ?_
 refine cEJ 3 rfl H [] h45 rfl Q136.spec (gS [3,4,5,6]) ?_
 rintro r3 w38 _ _ H ⟨A25,c_25,rfl,rfl⟩ h46
 replace h46:=nf h46
 refine ⟨⟨[_,_],(sO h46 [0,2,0,0])⟩,?_⟩
 have h47:=h46.freeze (k:=0) rfl Yg
 obtain ⟨r4,q4,H⟩:=Yf H
 refine Yh 8 rfl (Z4 [2] (Q152.spec q4) h47 rfl (gS [5,0,3])) ?_
 rintro _ w39 ⟨_,_,⟨A26,c_26,cs5,rfl,rfl,rfl⟩,h48⟩
 replace h48:=nf h48
 refine ⟨⟨[_],(Uy h48 [2,3,4,5,6])⟩,?_⟩
 refine Zl [9] ?_
 refine Zy [4] ?_
 have h49:=sO h48 [0]
 replace h49:=nf h49
 have h50:=St.nestFreeze 0 0 h49
 cases H
 exact T5 (jRA ⟨_,_,rfl,rfl,rfl⟩ (sOR h50 [] [0]))

def Q93.f (a0:Te):Option (Int):=some 0
theorem Q93.spec {a0 b1 b2 b3 b4 b5 b6 b7 A1 c_1 A2 c_2 A3 c_3 A4 c_4 A5 c_5 r} (H:Q93.f a0=some r) :
  Spec Tryz.prog 86 [.pointer (some ⟨b1,0,none⟩)] (Vh a0 b1 b2 b3 b4 b5 b6 b7 A1 A2 A3 A4 A5 c_1 c_2 c_3 c_4 c_5) [] (fun v l=>v=.int .i64 r∧l=Vh a0 b1 b2 b3 b4 b5 b6 b7 A1 A2 A3 A4 A5 c_1 c_2 c_3 c_4 c_5):=by
 refine Zj Tryz.func86 fun w0 F0 h0=>?_
 replace h0:=nf h0
 unfold Q93.f at H
 refine T6 (Za [0] ?_)
 refine T6 (T6 (T4 ?_))
 refine Zd 6 ?_
 refine Zc (Zb 0 h0.wht) ?_
 refine Ze [11] rfl ?_
 refine Z5 ?_
 refine T7 (T6 (Za [2] ?_))
 cases H
 exact T5 (jR0 h0 [0,0,0,0,0,0,0,0,0,0,0,0])

def Q64.f:Option (TA):=some (([]:List UInt8),([]:List UInt8),true)
theorem Q64.spec {r} (H:Q64.f=some r) :
  Spec Tryz.prog 52 [] [] [] (fun v l=>v=.agg #[.string ⟨⟨r.1⟩⟩,.string ⟨⟨r.2.1⟩⟩,.bool r.2.2]∧l=[]):=by
 refine Zj Tryz.func52 fun w0 F0 h0=>?_
 unfold Q64.f at H
 refine T6 (T4 ?_)
 refine rB (Ym h0) fun b1 w1 h1=>?_
 refine Ze [0] rfl ?_
 refine T6 (T4 ?_)
 refine Zd 1 ?_
 refine rS (Zs 0 h1) fun _ w2 h2=>?_
 refine Ze [0] rfl ?_
 cases H
 exact T5 (jR2 (Z2 (Sc Ys 0 h2 rfl rfl rfl rfl) Yz) ⟨rfl,rfl⟩ h2 [])

def Q15.f (a0:TQ) (a1:TQ):Option (Int):=some (Xb a0 a1)
theorem Q15.spec {a0 a1 r} (H:Q15.f a0 a1=some r) :
  Spec Tryz.prog 226 [.string ⟨⟨a0⟩⟩,.string ⟨⟨a1⟩⟩] [] [] (fun v l=>v=.int .i64 r∧l=[]):=by
 refine Zj Tryz.func226 fun w0 F0 h0=>?_
 unfold Q15.f at H
 refine T6 (Za [0,1] ?_)
 refine T6 (T4 ?_)
 refine Zd 2 ?_
 refine Zc (Zhg Zqj) ?_
 refine Ze [4] rfl ?_
 cases H
 exact T5 (jR0 h0 [])

def Q154.f (a0:TQ) (a1:TQ):Option (Int):=(Q15.f a0 a1).bind fun r1=>(some r1)
theorem Q154.spec {a0 a1 r} (H:Q154.f a0 a1=some r) :
  Spec Tryz.prog 198 [.string ⟨⟨a0⟩⟩,.string ⟨⟨a1⟩⟩] [] [] (fun v l=>v=.int .i64 r∧l=[]):=by
 refine Zj Tryz.func198 fun w0 F0 h0=>?_
 unfold Q154.f at H
 refine T6 (Za [0,1] ?_)
 refine T6 (T4 ?_)
 refine Zd 2 ?_
 refine cS H [] h0 rfl Q15.spec Zn fun r1 w1 H h1=>?_
 refine Ze [4] rfl ?_
 cases H
 exact T5 (jR0 h1 [])

def Q65.f (a0:TQ) (a1:TQ):Option (Int):=(Q154.f a0 a1).bind fun r1=>(some r1)
theorem Q65.spec {a0 a1 r} (H:Q65.f a0 a1=some r) :
  Spec Tryz.prog 144 [.string ⟨⟨a0⟩⟩,.string ⟨⟨a1⟩⟩] [] [] (fun v l=>v=.int .i64 r∧l=[]):=by
 refine Zj Tryz.func144 fun w0 F0 h0=>?_
 unfold Q65.f at H
 refine T6 (Za [0,1] ?_)
 refine T6 (T4 ?_)
 refine Zd 2 ?_
 refine cS H [] h0 rfl Q154.spec Zn fun r1 w1 H h1=>?_
 refine Ze [4] rfl ?_
 cases H
 exact T5 (jR0 h1 [])

def Q62.l0:Nat→Tw→Int→Option (Bool)
 | 0,_,_=>none
 | k+1,a0,x1=>if (decide (x1<(w64 ((a0.length:Int) - 1))))=true then (if 0≤x1∧x1<(a0.length:Int) then (if 0≤(w64 (x1+1))∧(w64 (x1+1))<(a0.length:Int) then ((Q65.f ((gt a0 x1).1) ((gt a0 (w64 (x1+1))).1)).bind fun r1=>(if (decide (0≤r1))=true then (some false) else (Q62.l0 k a0 (w64 (x1+1))))) else none) else none) else (some true)
def Q62.f (k:Nat) (a0:Tw):Option (Bool):=Q62.l0 k a0 0
theorem Q62.spec {k a0 A1 c_1 r} (H:Q62.f k a0=some r) :
  Spec Tryz.prog 202 [.slice A1 a0.length c_1] [] [Yl a0 A1 c_1] (fun v l=>v=.bool r∧l=[]):=by
 refine Zj Tryz.func202 fun w0 F0 h0=>?_
 unfold Q62.f at H
 refine T6 (Za [0] ?_)
 refine T6 (T6 (Za [0,6,7] ?_))
 refine TY ?_
 have h5:=(sOR h0 [] [0])
 refine T2 (fun kk env w=>∃ x1,Q62.l0 kk a0 x1=some r∧env=[(0,.slice A1 a0.length c_1),(6,.int .i64 (w64 ((a0.length:Int) - 1))),(7,.int .i64 x1)]∧St w0 F0 [] [Yl a0 A1 c_1] w) (k:=k) ⟨_,H,rfl,h5⟩ ?_
 rintro k1 env w1 ⟨x1,H,rfl,h1⟩
 rcases k1 with _ | k1
 ·exact z0 H
 rw [Q62.l0] at H
 refine T6 (Za [0,6,7,8] ?_)
 refine T6 (jIf H (fun c1 H=>?_) fun c1 H=>?_)
 ·refine T7 (T6 (TY (T6 (Za [0,3,6,7] ?_))))
  refine T6 (jH h1 fun h2=>?_)
  refine Zl [0,1,5,6,7] ?_
  obtain ⟨⟨p1,p2⟩,H⟩:=Zk H
  have e1:=Zw h2.wh (Zi 0) p1 p2
  refine Zf 2 rfl (Zg e1 p1 p2) ?_
  refine Zl [3] ?_
  refine Zf 4 rfl (Zh 0 wI (Zi 0) p1 p2) ?_
  obtain ⟨⟨p3,p4⟩,H⟩:=Zk H
  refine Zf 8 rfl (Zg e1 p3 p4) ?_
  refine Zl [9] ?_
  refine Zf 10 rfl (Zh 0 wI (Zi 0) p3 p4) ?_
  refine cSJ 11 rfl H [] h2 rfl Q65.spec Zn 0 fun r1 w2 H h3=>?_
  refine Zl [12] ?_
  refine Zy [0,6,7,22] ?_
  refine jIf H (fun c2 H=>?_) fun c2 H=>?_
  ·refine T6 (Za [2] ?_)
   cases H
   exact T5 (jR0 h3 [])
  refine T7 (Za [0,6,7] ?_)
  have h4:=(sOR h3 [] [0])
  exact ⟨k1,by omega,_,H,rfl,h4⟩
 refine T1 (T6 (Za [2] ?_))
 cases H
 exact T5 (jR0 h1 [])

def Q69.f (a0:Tn) (a1:TQ):Option (Bool):=if (decide (1≤(a1.length:Int)))=true then (some (decide ((a1.length:Int)≤a0.2.2.2.2.2.2.1))) else (some false)
theorem Q69.spec {a0 a1 r} (H:Q69.f a0 a1=some r) :
  Spec Tryz.prog 205 [.agg #[.int .i64 a0.1,.int .i64 a0.2.1,.int .i64 a0.2.2.1,.int .i64 a0.2.2.2.1,.int .i64 a0.2.2.2.2.1,.int .i64 a0.2.2.2.2.2.1,.int .i64 a0.2.2.2.2.2.2.1,.int .i64 a0.2.2.2.2.2.2.2],.string ⟨⟨a1⟩⟩] [] [] (fun v l=>v=.bool r∧l=[]):=by
 refine Zj Tryz.func205 fun w0 F0 h0=>?_
 unfold Q69.f at H
 refine T6 (T4 ?_)
 refine rB (Ya h0) fun b1 w1 h1=>?_
 refine Ze [1,2] rfl ?_
 refine T6 (T4 ?_)
 refine Zd 4 ?_
 refine Z8 8 H (fun c1 H=>?_) fun c1 H=>?_
 ·refine Zd 3 ?_
  refine Zc (Zb 0 h1.wht) ?_
  refine Ze [4] rfl ?_
  cases H
  exact T5 (jR0 h1 [])
 refine Ze [4] rfl ?_
 cases H
 exact T5 (jR0 h1 [])

def Q67.f (a0:TA) (a1:TQ):Option (Bool):=if (!Op.bytesLess a1 a0.1)=true then (if a0.2.2=true then (some true) else (some (Op.bytesLess a1 a0.2.1))) else (some false)
theorem Q67.spec {a0 a1 r} (H:Q67.f a0 a1=some r) :
  Spec Tryz.prog 206 [.agg #[.string ⟨⟨a0.1⟩⟩,.string ⟨⟨a0.2.1⟩⟩,.bool a0.2.2],.string ⟨⟨a1⟩⟩] [] [] (fun v l=>v=.bool r∧l=[]):=by
 refine Zj Tryz.func206 fun w0 F0 h0=>?_
 unfold Q67.f at H
 refine T6 (T4 ?_)
 refine rB (Ya h0) fun b1 w1 h1=>?_
 refine Ze [1,2] rfl ?_
 refine T6 (T4 ?_)
 refine Zd 2 ?_
 refine Zc (Zb 0 h1.wht) ?_
 refine Zd 2 ?_
 refine Z8 9 H (fun c1 H=>?_) fun c1 H=>?_
 ·refine Zd 1 ?_
  refine Zc (Zb 0 h1.wht) ?_
  refine Zd 1 ?_
  refine Z8 12 H (fun c2 H=>?_) fun c2 H=>?_
  ·refine Ze [4] rfl ?_
   cases H
   exact T5 (jR0 h1 [])
  refine Zd 2 ?_
  refine Zc (Zb 0 h1.wht) ?_
  refine Ze [4] rfl ?_
  cases H
  exact T5 (jR0 h1 [])
 refine Ze [4] rfl ?_
 cases H
 exact T5 (jR0 h1 [])

def Q76.f (a0:TC) (a1:Tn) (a2:TA):Option (Bool):=(Q69.f a1 a0.1).bind fun r1=>(if (!r1)=true then (some true) else ((Q67.f a2 a0.1).bind fun r2=>(if (!r2)=true then (some true) else (some (decide (a1.2.2.2.2.2.2.2<(a0.2.length:Int)))))))
theorem Q76.spec {a0 a1 a2 b1 b2 r} (H:Q76.f a0 a1 a2=some r) :
  Spec Tryz.prog 204 [.agg #[.string ⟨⟨a0.1⟩⟩,.string ⟨⟨a0.2⟩⟩],.pointer (some ⟨b1,0,none⟩),.pointer (some ⟨b2,0,none⟩)] [X23 b1 a1.1 a1.2.1 a1.2.2.1 a1.2.2.2.1 a1.2.2.2.2.1 a1.2.2.2.2.2.1 a1.2.2.2.2.2.2.1 a1.2.2.2.2.2.2.2,X44 b2 a2.1 a2.2.1 a2.2.2] [] (fun v l=>v=.bool r∧l=[X23 b1 a1.1 a1.2.1 a1.2.2.1 a1.2.2.2.1 a1.2.2.2.2.1 a1.2.2.2.2.2.1 a1.2.2.2.2.2.2.1 a1.2.2.2.2.2.2.2,X44 b2 a2.1 a2.2.1 a2.2.2]):=by
 refine Zj Tryz.func204 fun w0 F0 h0=>?_
 unfold Q76.f at H
 refine T6 (T4 ?_)
 refine rB (Ya h0) fun b3 w1 h1=>?_
 refine Ze [1,2,3] rfl ?_
 refine T6 (T4 ?_)
 refine Zc (Zb 1 h1.wht) ?_
 refine Zd 1 ?_
 refine Zc (Zb 0 h1.wht) ?_
 refine cS H [] h1 rfl Q69.spec Zn fun r1 w2 H h2=>?_
 refine Zd 2 ?_
 refine Z8 10 H (fun c1 H=>?_) fun c1 H=>?_
 ·refine Ze [4] rfl ?_
  cases H
  exact T5 (jR0 h2 [1,1])
 refine Zc (Zb 2 h2.wht) ?_
 refine Zd 1 ?_
 refine Zc (Zb 0 h2.wht) ?_
 refine cS H [] h2 rfl Q67.spec Zn fun r2 w3 H h3=>?_
 refine Zd 3 ?_
 refine Z8 17 H (fun c2 H=>?_) fun c2 H=>?_
 ·refine Ze [4] rfl ?_
  cases H
  exact T5 (jR0 h3 [1,1])
 refine Zd 1 ?_
 refine Zc (Zb 0 h3.wht) ?_
 refine Zd 2 ?_
 refine Zc (Zb 1 h3.wht) ?_
 refine Ze [4] rfl ?_
 cases H
 exact T5 (jR0 h3 [1,1])

def Q108.l0:Nat→Tw→Tn→TA→Int→Option (Int)
 | 0,_,_,_,_=>none
 | k+1,a0,a2,a3,x1=>if (decide (x1<(a0.length:Int)))=true then (if 0≤x1∧x1<(a0.length:Int) then ((Q76.f (gt a0 x1) a2 a3).bind fun r1=>(if r1=true then (some x1) else (Q108.l0 k a0 a2 a3 (w64 (x1+1))))) else none) else (some (-1))
def Q108.f (k:Nat) (a0:Tw) (a2:Tn) (a3:TA):Option (Int):=Q108.l0 k a0 a2 a3 0
theorem Q108.spec {k a0 a2 a3 A1 c_1 b1 b2 r} (H:Q108.f k a0 a2 a3=some r) :
  Spec Tryz.prog 229 [.slice A1 a0.length c_1,.func (.func 204) #[] #[.pointer (some ⟨b1,0,none⟩),.pointer (some ⟨b2,0,none⟩)]] [X23 b1 a2.1 a2.2.1 a2.2.2.1 a2.2.2.2.1 a2.2.2.2.2.1 a2.2.2.2.2.2.1 a2.2.2.2.2.2.2.1 a2.2.2.2.2.2.2.2,X44 b2 a3.1 a3.2.1 a3.2.2] [Yl a0 A1 c_1] (fun v l=>v=.int .i64 r∧l=[X23 b1 a2.1 a2.2.1 a2.2.2.1 a2.2.2.2.1 a2.2.2.2.2.1 a2.2.2.2.2.2.1 a2.2.2.2.2.2.2.1 a2.2.2.2.2.2.2.2,X44 b2 a3.1 a3.2.1 a3.2.2]):=by
 refine Zj Tryz.func229 fun w0 F0 h0=>?_
 unfold Q108.f at H
 refine T6 (Za [0,1] ?_)
 refine T6 (T6 (Za [0,1,7,8] ?_))
 refine TY ?_
 have h4:=(sOR h0 [0,0] [0])
 refine T2 (fun kk env w=>∃ x1,Q108.l0 kk a0 a2 a3 x1=some r∧env=[(0,.slice A1 a0.length c_1),(1,.func (.func 204) #[] #[.pointer (some ⟨b1,0,none⟩),.pointer (some ⟨b2,0,none⟩)]),(7,.int .i64 (a0.length:Int)),(8,.int .i64 x1)]∧St w0 F0 [X23 b1 a2.1 a2.2.1 a2.2.2.1 a2.2.2.2.1 a2.2.2.2.2.1 a2.2.2.2.2.2.1 a2.2.2.2.2.2.2.1 a2.2.2.2.2.2.2.2,X44 b2 a3.1 a3.2.1 a3.2.2] [Yl a0 A1 c_1] w) (k:=k) ⟨_,H,rfl,h4⟩ ?_
 rintro k1 env w1 ⟨x1,H,rfl,h1⟩
 rcases k1 with _ | k1
 ·exact z0 H
 rw [Q108.l0] at H
 refine T6 (Za [0,1,7,8,9] ?_)
 refine T6 (jIf H (fun c1 H=>?_) fun c1 H=>?_)
 ·refine T7 (T6 (TY (T6 (Za [0,1,5,7,8] ?_))))
  refine T6 (T4 ?_)
  refine Zd 3 ?_
  obtain ⟨⟨p1,p2⟩,H⟩:=Zk H
  have e1:=Zw h1.wh (Zi 2) p1 p2
  refine Zc (Zg e1 p1 p2) ?_
  refine Zc (Zh 0 h1.wht (Zi 2) p1 p2) ?_
  obtain ⟨r1,q1,H⟩:=Yf H
  refine Zr (V4 [.agg #[.string ⟨⟨(gt a0 x1).1⟩⟩,.string ⟨⟨(gt a0 x1).2⟩⟩]] [.pointer (some ⟨b1,0,none⟩),.pointer (some ⟨b2,0,none⟩)] [0,0] (Q76.spec q1) h1 rfl Zn) ?_
  rintro _ w2 ⟨_,⟨rfl,rfl⟩,h2⟩
  replace h2:=nf h2
  refine Ze [0,1,5,7,8,16] rfl ?_
  refine jIf H (fun c2 H=>?_) fun c2 H=>?_
  ·refine T6 (Za [4] ?_)
   cases H
   exact T5 (jR0 h2 [0,0])
  refine T7 (Za [0,1,7,8] ?_)
  have h3:=(sOR h2 [0,0] [0])
  exact ⟨k1,by omega,_,H,rfl,h3⟩
 refine T1 (T6 (Za [4] ?_))
 cases H
 exact T5 (jR0 h1 [0,0])

def Q102.f (k:Nat) (a0:Tw) (a2:Tn) (a3:TA):Option (Bool):=(Q108.f k a0 a2 a3).bind fun r1=>(some (decide (0≤r1)))
theorem Q102.spec {k a0 a2 a3 A1 c_1 b1 b2 r} (H:Q102.f k a0 a2 a3=some r) :
  Spec Tryz.prog 203 [.slice A1 a0.length c_1,.func (.func 204) #[] #[.pointer (some ⟨b1,0,none⟩),.pointer (some ⟨b2,0,none⟩)]] [X23 b1 a2.1 a2.2.1 a2.2.2.1 a2.2.2.2.1 a2.2.2.2.2.1 a2.2.2.2.2.2.1 a2.2.2.2.2.2.2.1 a2.2.2.2.2.2.2.2,X44 b2 a3.1 a3.2.1 a3.2.2] [Yl a0 A1 c_1] (fun v l=>v=.bool r∧l=[X23 b1 a2.1 a2.2.1 a2.2.2.1 a2.2.2.2.1 a2.2.2.2.2.1 a2.2.2.2.2.2.1 a2.2.2.2.2.2.2.1 a2.2.2.2.2.2.2.2,X44 b2 a3.1 a3.2.1 a3.2.2]):=by
 refine Zj Tryz.func203 fun w0 F0 h0=>?_
 unfold Q102.f at H
 refine T6 (Za [0,1] ?_)
 refine T6 (T4 ?_)
 refine Zd 2 ?_
 refine cS H [0,0] h0 rfl Q108.spec (gS [0]) fun r1 w1 H h1=>?_
 refine Ze [4] rfl ?_
 cases H
 exact T5 (jR0 h1 [0,0])

def Q75.f (k:Nat) (a0:Tn) (a1:TA) (a2:Tl):Option (Bool):=if (decide (0<(w64 ((w64 ((a2.2.1.length:Int)+(a2.2.2.1.length:Int)))+(a2.2.2.2.1.length:Int)))))=true then (some false) else (if (decide (a0.2.2.2.2.2.1<(a2.2.2.2.2.length:Int)))=true then (some false) else ((Q62.f k a2.2.2.2.2).bind fun r1=>(if (!r1)=true then (some false) else ((Q102.f k a2.2.2.2.2 a0 a1).bind fun r2=>(some (!r2))))))
theorem Q75.spec {k a0 a1 a2 A1 c_1 A2 c_2 A3 c_3 A4 c_4 r} (H:Q75.f k a0 a1 a2=some r) :
  Spec Tryz.prog 148 [.agg #[.int .i64 a0.1,.int .i64 a0.2.1,.int .i64 a0.2.2.1,.int .i64 a0.2.2.2.1,.int .i64 a0.2.2.2.2.1,.int .i64 a0.2.2.2.2.2.1,.int .i64 a0.2.2.2.2.2.2.1,.int .i64 a0.2.2.2.2.2.2.2],.agg #[.string ⟨⟨a1.1⟩⟩,.string ⟨⟨a1.2.1⟩⟩,.bool a1.2.2],.agg #[.int .i64 a2.1,.slice A1 a2.2.1.length c_1,.slice A2 a2.2.2.1.length c_2,.slice A3 a2.2.2.2.1.length c_3,.slice A4 a2.2.2.2.2.length c_4]] [] [R30 a2.2.1 A1 c_1,R9 a2.2.2.1 A2 c_2,Yp a2.2.2.2.1 A3 c_3,Yl a2.2.2.2.2 A4 c_4] (fun v l=>v=.bool r∧l=[]):=by
 refine Zj Tryz.func148 fun w0 F0 h0=>?_
 unfold Q75.f at H
 refine T6 (T4 ?_)
 refine rB (Ya h0) fun b1 w1 h1=>?_
 refine rB (Ya h1) fun b2 w2 h2=>?_
 refine rB (Ya h2) fun b3 w3 h3=>?_
 refine Ze [3,4,5] rfl ?_
 refine T6 (T6 (T4 ?_))
 refine Zd 1 ?_
 refine Zc (Zb 0 h3.wht) ?_
 refine Zd 2 ?_
 refine Zc (Zb 0 h3.wht) ?_
 refine Zd 3 ?_
 refine Zc (Zb 0 h3.wht) ?_
 refine Zd 4 ?_
 refine Z8 19 H (fun c1 H=>?_) fun c1 H=>?_
 ·refine Ze [3,4,5,32] rfl ?_
  refine Zq ?_
  refine T6 (Za [6] ?_)
  have h4:=sO h3 []
  replace h4:=nf h4
  cases H
  exact T5 (jR0 h4 [])
 refine Zd 1 ?_
 refine Zc (Zb 0 h3.wht) ?_
 refine Zd 2 ?_
 refine Zc (Zb 2 h3.wht) ?_
 refine Zd 3 ?_
 refine Z8 27 H (fun c2 H=>?_) fun c2 H=>?_
 ·refine Ze [3,4,5,32] rfl ?_
  refine Zq ?_
  refine T6 (Za [6] ?_)
  have h5:=sO h3 []
  replace h5:=nf h5
  cases H
  exact T5 (jR0 h5 [])
 refine Zd 1 ?_
 refine Zc (Zb 0 h3.wht) ?_
 refine cS H [] h3 rfl Q62.spec (gS [6]) fun r1 w4 H h6=>?_
 refine Ze [3,4,5,32] rfl ?_
 refine jIf H (fun c3 H=>?_) fun c3 H=>?_
 ·refine T6 (Za [6] ?_)
  have h7:=sO h6 []
  replace h7:=nf h7
  cases H
  exact T5 (jR0 h7 [])
 refine T7 (T6 (T4 ?_))
 refine Zd 1 ?_
 refine Zc (Zb 0 h6.wht) ?_
 refine Zd 1 ?_
 refine cS H [2,1] h6 rfl Q102.spec (gS [4]) fun r2 w5 H h8=>?_
 refine Ze [6] rfl ?_
 have h9:=sO h8 []
 replace h9:=nf h9
 cases H
 exact T5 (jR0 h9 [])

def Q99.f (a0:TV):Option TV:=if (([]:List Int).length+a0.length)*4≤140737488355328 then (some (([]:List Int) ++ a0)) else none
theorem Q99.spec {a0 A1 c_1 r} (H:Q99.f a0=some r) :
  Spec Tryz.prog 150 [.slice A1 a0.length c_1] [] [R30 a0 A1 c_1] (fun v l=>∃ A_0 c_0,v=.slice A_0 r.length c_0∧l=[O30 r A_0 c_0]):=by
 refine Zj Tryz.func150 fun w0 F0 h0=>?_
 unfold Q99.f at H
 refine T6 (Za [0] ?_)
 refine T6 (T6 (Za [0,4] ?_))
 refine Zdn (fun c1=>?_) (fun c1=>?_)
 ·have e1:=h0.nilrow (Zi 0) (by simpa using c1)
  replace H:(some ([]:List Int))=some r:=by rw [e1] at H; simpa using H
  refine T6 (Za [2] ?_)
  have h1:=h0.addNil 30 (.int .u32)
  cases H
  exact T5 (jR ⟨_,_,rfl,rfl⟩ h1 [0])
 refine T7 (T6 (T4 ?_))
 refine rB (Z1 (.int .u32) ([]:List Int) h0) fun b1 w1 h2=>?_
 refine Zd 1 ?_
 obtain ⟨p1,H⟩:=Zk H
 refine Zr (Zv 0 h2 (Zi 0) p1) ?_
 rintro _ w2 ⟨A2,c_2,rfl,h3⟩
 replace h3:=nf h3
 refine Ze [2] rfl ?_
 cases H
 exact T5 (jR ⟨_,_,rfl,rfl⟩ h3 [0])

def tb0:List UInt8:=[0,1,2,2,3,3,3,3,4,4,4,4,4,4,4,4,5,5,5,5,5,5,5,5,5,5,5,5,5,5,5,5,6,6,6,6,6,6,6,6,6,6,6,6,6,6,6,6,6,6,6,6,6,6,6,6,6,6,6,6,6,6,6,6,7,7,7,7,7,7,7,7,7,7,7,7,7,7,7,7,7,7,7,7,7,7,7,7,7,7,7,7,7,7,7,7,7,7,7,7,7,7,7,7,7,7,7,7,7,7,7,7,7,7,7,7,7,7,7,7,7,7,7,7,7,7,7,7,8,8,8,8,8,8,8,8,8,8,8,8,8,8,8,8,8,8,8,8,8,8,8,8,8,8,8,8,8,8,8,8,8,8,8,8,8,8,8,8,8,8,8,8,8,8,8,8,8,8,8,8,8,8,8,8,8,8,8,8,8,8,8,8,8,8,8,8,8,8,8,8,8,8,8,8,8,8,8,8,8,8,8,8,8,8,8,8,8,8,8,8,8,8,8,8,8,8,8,8,8,8,8,8,8,8,8,8,8,8,8,8,8,8,8,8,8,8,8,8,8,8,8,8,8,8,8,8]
def Q1.f (a0:Int):Option (Int):=if (decide (4294967296≤a0))=true then (if (decide (65536≤(Int.fdiv a0 (2 ^ 32))))=true then (if (decide (256≤(Int.fdiv (Int.fdiv a0 (2 ^ 32)) (2 ^ 16))))=true then (if 0≤(IntKind.u8.wrap ((Int.fdiv (Int.fdiv (Int.fdiv a0 (2 ^ 32)) (2 ^ 16)) (2 ^ 8))))∧(IntKind.u8.wrap ((Int.fdiv (Int.fdiv (Int.fdiv a0 (2 ^ 32)) (2 ^ 16)) (2 ^ 8))))<(tb0.length:Int) then (some (w64 (56+(w64 ((gtb tb0 (IntKind.u8.wrap ((Int.fdiv (Int.fdiv (Int.fdiv a0 (2 ^ 32)) (2 ^ 16)) (2 ^ 8)))))))))) else none) else (if 0≤(IntKind.u8.wrap ((Int.fdiv (Int.fdiv a0 (2 ^ 32)) (2 ^ 16))))∧(IntKind.u8.wrap ((Int.fdiv (Int.fdiv a0 (2 ^ 32)) (2 ^ 16))))<(tb0.length:Int) then (some (w64 (48+(w64 ((gtb tb0 (IntKind.u8.wrap ((Int.fdiv (Int.fdiv a0 (2 ^ 32)) (2 ^ 16)))))))))) else none)) else (if (decide (256≤(Int.fdiv a0 (2 ^ 32))))=true then (if 0≤(IntKind.u8.wrap ((Int.fdiv (Int.fdiv a0 (2 ^ 32)) (2 ^ 8))))∧(IntKind.u8.wrap ((Int.fdiv (Int.fdiv a0 (2 ^ 32)) (2 ^ 8))))<(tb0.length:Int) then (some (w64 (40+(w64 ((gtb tb0 (IntKind.u8.wrap ((Int.fdiv (Int.fdiv a0 (2 ^ 32)) (2 ^ 8)))))))))) else none) else (if 0≤(IntKind.u8.wrap ((Int.fdiv a0 (2 ^ 32))))∧(IntKind.u8.wrap ((Int.fdiv a0 (2 ^ 32))))<(tb0.length:Int) then (some (w64 (32+(w64 ((gtb tb0 (IntKind.u8.wrap ((Int.fdiv a0 (2 ^ 32)))))))))) else none))) else (if (decide (65536≤a0))=true then (if (decide (256≤(Int.fdiv a0 (2 ^ 16))))=true then (if 0≤(IntKind.u8.wrap ((Int.fdiv (Int.fdiv a0 (2 ^ 16)) (2 ^ 8))))∧(IntKind.u8.wrap ((Int.fdiv (Int.fdiv a0 (2 ^ 16)) (2 ^ 8))))<(tb0.length:Int) then (some (w64 (24+(w64 ((gtb tb0 (IntKind.u8.wrap ((Int.fdiv (Int.fdiv a0 (2 ^ 16)) (2 ^ 8)))))))))) else none) else (if 0≤(IntKind.u8.wrap ((Int.fdiv a0 (2 ^ 16))))∧(IntKind.u8.wrap ((Int.fdiv a0 (2 ^ 16))))<(tb0.length:Int) then (some (w64 (16+(w64 ((gtb tb0 (IntKind.u8.wrap ((Int.fdiv a0 (2 ^ 16)))))))))) else none)) else (if (decide (256≤a0))=true then (if 0≤(IntKind.u8.wrap ((Int.fdiv a0 (2 ^ 8))))∧(IntKind.u8.wrap ((Int.fdiv a0 (2 ^ 8))))<(tb0.length:Int) then (some (w64 (8+(w64 ((gtb tb0 (IntKind.u8.wrap ((Int.fdiv a0 (2 ^ 8)))))))))) else none) else (if 0≤(IntKind.u8.wrap (a0))∧(IntKind.u8.wrap (a0))<(tb0.length:Int) then (some (w64 (0+(w64 ((gtb tb0 (IntKind.u8.wrap (a0)))))))) else none)))
theorem Q1.spec {a0 r} (H:Q1.f a0=some r) :
  Spec Tryz.prog 185 [.int .u64 a0] [] [] (fun v l=>v=.int .i64 r∧l=[]):=by
 refine Zj Tryz.func185 fun w0 F0 h0=>?_
 unfold Q1.f at H
 refine T6 (Za [0,2] ?_)
 refine T6 (T6 (Za [0,2,4] ?_))
 refine jIf H (fun c1 H=>?_) fun c1 H=>?_
 ·refine T6 (Za [0] ?_)
  refine Za [0,2] ?_
  refine T6 (T6 (Za [0,2,8] ?_))
  refine jIf H (fun c2 H=>?_) fun c2 H=>?_
  ·refine T6 (Za [0,2] ?_)
   refine Za [0,2] ?_
   refine T6 (T6 (Za [0,2,14] ?_))
   refine jIf H (fun c3 H=>?_) fun c3 H=>?_
   ·refine T6 (Za [0,2] ?_)
    refine Za [0,2] ?_
    refine T6 (T4 ?_)
    refine Zd 3 ?_
    obtain ⟨⟨p1,p2⟩,H⟩:=Zk H
    refine Zc (X1 p1 p2) ?_
    refine Ze [2] rfl ?_
    cases H
    exact T5 (jR0 h0 [])
   refine T7 (T6 (T4 ?_))
   refine Zd 3 ?_
   obtain ⟨⟨p3,p4⟩,H⟩:=Zk H
   refine Zc (X1 p3 p4) ?_
   refine Ze [2] rfl ?_
   cases H
   exact T5 (jR0 h0 [])
  refine T7 (T6 (T6 (Za [0,2,14] ?_)))
  refine jIf H (fun c4 H=>?_) fun c4 H=>?_
  ·refine T6 (Za [0,2] ?_)
   refine Za [0,2] ?_
   refine T6 (T4 ?_)
   refine Zd 3 ?_
   obtain ⟨⟨p5,p6⟩,H⟩:=Zk H
   refine Zc (X1 p5 p6) ?_
   refine Ze [2] rfl ?_
   cases H
   exact T5 (jR0 h0 [])
  refine T7 (T6 (T4 ?_))
  refine Zd 3 ?_
  obtain ⟨⟨p7,p8⟩,H⟩:=Zk H
  refine Zc (X1 p7 p8) ?_
  refine Ze [2] rfl ?_
  cases H
  exact T5 (jR0 h0 [])
 refine T7 (T6 (T6 (Za [0,2,8] ?_)))
 refine jIf H (fun c5 H=>?_) fun c5 H=>?_
 ·refine T6 (Za [0,2] ?_)
  refine Za [0,2] ?_
  refine T6 (T6 (Za [0,2,14] ?_))
  refine jIf H (fun c6 H=>?_) fun c6 H=>?_
  ·refine T6 (Za [0,2] ?_)
   refine Za [0,2] ?_
   refine T6 (T4 ?_)
   refine Zd 3 ?_
   obtain ⟨⟨p9,p10⟩,H⟩:=Zk H
   refine Zc (X1 p9 p10) ?_
   refine Ze [2] rfl ?_
   cases H
   exact T5 (jR0 h0 [])
  refine T7 (T6 (T4 ?_))
  refine Zd 3 ?_
  obtain ⟨⟨p11,p12⟩,H⟩:=Zk H
  refine Zc (X1 p11 p12) ?_
  refine Ze [2] rfl ?_
  cases H
  exact T5 (jR0 h0 [])
 refine T7 (T6 (T6 (Za [0,2,14] ?_)))
 refine jIf H (fun c7 H=>?_) fun c7 H=>?_
 ·refine T6 (Za [0,2] ?_)
  refine Za [0,2] ?_
  refine T6 (T4 ?_)
  refine Zd 3 ?_
  obtain ⟨⟨p13,p14⟩,H⟩:=Zk H
  refine Zc (X1 p13 p14) ?_
  refine Ze [2] rfl ?_
  cases H
  exact T5 (jR0 h0 [])
 refine T7 (T6 (T4 ?_))
 refine Zd 3 ?_
 obtain ⟨⟨p15,p16⟩,H⟩:=Zk H
 refine Zc (X1 p15 p16) ?_
 refine Ze [2] rfl ?_
 cases H
 exact T5 (jR0 h0 [])

def Q0.f (a0:Int):Option (Int):=(Q1.f a0).bind fun r1=>(some r1)
theorem Q0.spec {a0 r} (H:Q0.f a0=some r) :
  Spec Tryz.prog 120 [.int .u64 a0] [] [] (fun v l=>v=.int .i64 r∧l=[]):=by
 refine Zj Tryz.func120 fun w0 F0 h0=>?_
 unfold Q0.f at H
 refine T6 (Za [0] ?_)
 refine T6 (Z5 ?_)
 refine T7 (T6 (T4 ?_))
 refine Zd 1 ?_
 refine cS H [] h0 rfl Q1.spec Zn fun r1 w1 H h1=>?_
 refine Ze [2] rfl ?_
 cases H
 exact T5 (jR0 h1 [])

def Q35.f (a0:Int):Option (Bool):=some (!decide (a0=a0))
theorem Q35.spec {a0 r} (H:Q35.f a0=some r) :
  Spec Tryz.prog 224 [.int .u32 a0] [] [] (fun v l=>v=.bool r∧l=[]):=by
 refine Zj Tryz.func224 fun w0 F0 h0=>?_
 unfold Q35.f at H
 refine T6 (Za [0] ?_)
 refine T6 (Za [2] ?_)
 cases H
 exact T5 (jR0 h0 [])

def Q34.f (a0:Int) (a1:Int):Option (Bool):=(Q35.f a0).bind fun r1=>(if r1=true then ((Q35.f a1).bind fun r2=>(if (!r2)=true then (some true) else (some (decide (a0<a1))))) else (some (decide (a0<a1))))
theorem Q34.spec {a0 a1 r} (H:Q34.f a0 a1=some r) :
  Spec Tryz.prog 181 [.int .u32 a0,.int .u32 a1] [] [] (fun v l=>v=.bool r∧l=[]):=by
 refine Zj Tryz.func181 fun w0 F0 h0=>?_
 unfold Q34.f at H
 refine T6 (Za [0,1] ?_)
 refine T6 (T4 ?_)
 refine Zd 1 ?_
 refine cS H [] h0 rfl Q35.spec Zn fun r1 w1 H h1=>?_
 refine Zd 1 ?_
 refine Z8 7 H (fun c1 H=>?_) fun c1 H=>?_
 ·refine Zd 1 ?_
  refine cS H [] h1 rfl Q35.spec Zn fun r2 w2 H h2=>?_
  refine Zd 3 ?_
  refine Z8 12 H (fun c2 H=>?_) fun c2 H=>?_
  ·refine Ze [4] rfl ?_
   cases H
   exact T5 (jR0 h2 [])
  refine Ze [4] rfl ?_
  cases H
  exact T5 (jR0 h2 [])
 refine Ze [4] rfl ?_
 cases H
 exact T5 (jR0 h1 [])

mutual
def Q116.l0:Nat→Int→Int→TV→Int→Option TV
 | 0,_,_,_,_=>none
 | k+1,a1,a2,x1,x2=>if (decide (x2<a2))=true then (Q116.l1 k a1 a2 x2 x1 x2) else (some x1)
def Q116.l1:Nat→Int→Int→Int→TV→Int→Option TV
 | 0,_,_,_,_,_=>none
 | k+1,a1,a2,x2,x3,x4=>if (decide (a1<x4))=true then (if 0≤x4∧x4<(x3.length:Int) then (if 0≤(w64 (x4 - 1))∧(w64 (x4 - 1))<(x3.length:Int) then ((Q34.f (gt x3 x4) (gt x3 (w64 (x4 - 1)))).bind fun r1=>(if r1=true then (Q116.l1 k a1 a2 x2 ((x3.set x4.toNat (gt x3 (w64 (x4 - 1)))).set (w64 (x4 - 1)).toNat (gt x3 x4)) (w64 (x4 - 1))) else (Q116.l0 k a1 a2 x3 (w64 (x2+1))))) else none) else none) else (Q116.l0 k a1 a2 x3 (w64 (x2+1)))
end
def Q116.f (k:Nat) (a0:TV) (a1:Int) (a2:Int):Option TV:=Q116.l0 k a1 a2 a0 (w64 (a1+1))
theorem Q116.spec {k a0 a1 a2 A1 c_1 r} (H:Q116.f k a0 a1 a2=some r) :
  Spec Tryz.prog 175 [.slice A1 a0.length c_1,.int .i64 a1,.int .i64 a2] [O30 a0 A1 c_1] [] (fun v l=>v=.tuple #[]∧l=[O30 r A1 c_1]∧r.length=a0.length):=by
 refine Zj Tryz.func175 fun w0 F0 h0=>?_
 unfold Q116.f at H
 refine T6 (Za [0,1,2,6] ?_)
 refine TY ?_
 have h12:=(sOR h0 [0] [])
 refine T2 (fun kk env w=>∃ x1 x2,Q116.l0 kk a1 a2 x1 x2=some r∧env=[(0,.slice A1 x1.length c_1),(1,.int .i64 a1),(2,.int .i64 a2),(6,.int .i64 x2)]∧St w0 F0 [O30 x1 A1 c_1] [] w∧x1.length=a0.length) (k:=k) ⟨_,_,H,rfl,h12,(rfl:a0.length=a0.length)⟩ ?_
 rintro k1 env w1 ⟨x1,x2,H,rfl,h1,e1⟩
 rcases k1 with _ | k1
 ·exact z0 H
 rw [Q116.l0] at H
 refine T6 (T6 (Za [0,1,2,6,12] ?_))
 refine jIf H (fun c1 H=>?_) fun c1 H=>?_
 ·refine T7 (T6 (TY (T6 (Za [0,1,2,6,7] ?_))))
  refine TY ?_
  have h11:=(sOR h1 [0] [])
  refine T2 (fun kk env w=>∃ x3 x4,Q116.l1 kk a1 a2 x2 x3 x4=some r∧env=[(0,.slice A1 x3.length c_1),(1,.int .i64 a1),(2,.int .i64 a2),(6,.int .i64 x2),(7,.int .i64 x4)]∧St w0 F0 [O30 x3 A1 c_1] [] w∧kk≤k1∧x3.length=a0.length) (k:=k1) ⟨_,_,H,rfl,h11,T8 _,e1⟩ ?_
  rintro k2 env w2 ⟨x3,x4,H,rfl,h2,hk2,e2⟩
  rcases k2 with _ | k2
  ·exact z0 H
  rw [Q116.l1] at H
  refine T6 (T6 ?_)
  refine jH h2 fun h3=>?_
  refine Zl [0,1,2,3] ?_
  refine Wu 19 H (fun c2 H=>?_) fun c2 H=>?_
  ·refine Zl [4,5,8,9,10] ?_
   obtain ⟨⟨p1,p2⟩,H⟩:=Zk H
   have e3:=Zw h3.wh (gO 0) p1 p2
   refine Zf 6 rfl (Zg e3 p1 p2) ?_
   refine Zf 7 rfl (Zh 0 wI (gO 0) p1 p2) ?_
   obtain ⟨⟨p3,p4⟩,H⟩:=Zk H
   refine Zf 11 rfl (Zg e3 p3 p4) ?_
   refine Zf 12 rfl (Zh 0 wI (gO 0) p3 p4) ?_
   refine cSJ 13 rfl H [] h3 rfl Q34.spec Zn 0 fun r1 w3 H h4=>?_
   refine Zl [14] ?_
   refine Zy [0,1,2,6,7,30] ?_
   refine jIf H (fun c3 H=>?_) fun c3 H=>?_
   ·refine T7 (T6 (TY ?_))
    refine Zx (sO h4 []) ?_
    have h5:=h4.drew
    refine Zl [0,1,2,3,4,5,6,7,10,11] ?_
    refine Zf 8 rfl (Zg e3 p3 p4) ?_
    refine Zf 12 rfl (Zg e3 p1 p2) ?_
    refine TW (Y2 9 rfl (Zh 0 h5.wht (gO 0) p3 p4) (Y2 13 rfl (Zh 0 h5.wht (gO 0) p1 p2) Vy)) ?_
    refine Zf 14 rfl (Zg e3 p1 p2) ?_
    refine hS 15 rfl (Zo 0 (.int .u32) x4 (gt x3 (w64 (x4 - 1))) 0 h5 rfl p1 p2) 1 fun _ w4 h6=>?_
    have e4:(x3.set x4.toNat (gt x3 (w64 (x4 - 1)))).length=a0.length:=List.length_set.trans e2
    refine Zf 16 rfl (Zg e3 p3 p4) ?_
    refine hS 17 rfl (Zo 0 (.int .u32) (w64 (x4 - 1)) (gt x3 x4) 0 h6 rfl p3 (by simpa only [List.length_set] using p4)) 1 fun _ w5 h7=>?_
    have e5:((x3.set x4.toNat (gt x3 (w64 (x4 - 1)))).set (w64 (x4 - 1)).toNat (gt x3 x4)).length=a0.length:=List.length_set.trans e4
    refine Zy [0,1,2,6,7] ?_
    refine T0 (env':=[(0,.slice A1 ((x3.set x4.toNat (gt x3 (w64 (x4 - 1)))).set (w64 (x4 - 1)).toNat (gt x3 x4)).length c_1),(1,.int .i64 a1),(2,.int .i64 a2),(6,.int .i64 x2),(7,.int .i64 x4)]) (by simp only [List.length_set,List.length_nil] <;> rfl) ?_
    refine Za [0,1,2,6,7] ?_
    have h8:=(sOR h7 [0] [])
    exact ⟨k2,by omega,_,_,H,rfl,h8,by omega,e5⟩
   refine T1 (Za [0,1,2,6] ?_)
   have h9:=(sOR h4 [0] [])
   exact ⟨k2,by omega,_,_,H,rfl,h9,e2⟩
  refine Zl [4,5,6,7,8,9,10,11,12,13,14] ?_
  refine Zy [0,1,2,6,7,30] ?_
  refine Z5 ?_
  refine T1 (Za [0,1,2,6] ?_)
  have h10:=(sOR h3 [0] [])
  exact ⟨k2,by omega,_,_,H,rfl,h10,e2⟩
 refine T1 ?_
 cases H
 exact ⟨_,_,_,Zm,⟨rfl,rfl,e1⟩,sO h1 [0]⟩

def Q126.l0:Nat→Int→Int→TV→Int→Option TV
 | 0,_,_,_,_=>none
 | k+1,a2,a3,x1,x2=>if (decide (a2≤(w64 ((w64 (2*x2))+1))))=true then (some x1) else (if (decide ((w64 ((w64 ((w64 (2*x2))+1))+1))<a2))=true then (if 0≤(w64 (a3+(w64 ((w64 (2*x2))+1))))∧(w64 (a3+(w64 ((w64 (2*x2))+1))))<(x1.length:Int) then (if 0≤(w64 ((w64 (a3+(w64 ((w64 (2*x2))+1))))+1))∧(w64 ((w64 (a3+(w64 ((w64 (2*x2))+1))))+1))<(x1.length:Int) then ((Q34.f (gt x1 (w64 (a3+(w64 ((w64 (2*x2))+1))))) (gt x1 (w64 ((w64 (a3+(w64 ((w64 (2*x2))+1))))+1)))).bind fun r1=>(if r1=true then (if 0≤(w64 (a3+x2))∧(w64 (a3+x2))<(x1.length:Int) then (if 0≤(w64 (a3+(w64 ((w64 ((w64 (2*x2))+1))+1))))∧(w64 (a3+(w64 ((w64 ((w64 (2*x2))+1))+1))))<(x1.length:Int) then ((Q34.f (gt x1 (w64 (a3+x2))) (gt x1 (w64 (a3+(w64 ((w64 ((w64 (2*x2))+1))+1)))))).bind fun r2=>(if (!r2)=true then (some x1) else (Q126.l0 k a2 a3 ((x1.set (w64 (a3+x2)).toNat (gt x1 (w64 (a3+(w64 ((w64 ((w64 (2*x2))+1))+1)))))).set (w64 (a3+(w64 ((w64 ((w64 (2*x2))+1))+1)))).toNat (gt x1 (w64 (a3+x2)))) (w64 ((w64 ((w64 (2*x2))+1))+1))))) else none) else none) else (if 0≤(w64 (a3+x2))∧(w64 (a3+x2))<(x1.length:Int) then ((Q34.f (gt x1 (w64 (a3+x2))) (gt x1 (w64 (a3+(w64 ((w64 (2*x2))+1)))))).bind fun r3=>(if (!r3)=true then (some x1) else (Q126.l0 k a2 a3 ((x1.set (w64 (a3+x2)).toNat (gt x1 (w64 (a3+(w64 ((w64 (2*x2))+1)))))).set (w64 (a3+(w64 ((w64 (2*x2))+1)))).toNat (gt x1 (w64 (a3+x2)))) (w64 ((w64 (2*x2))+1))))) else none))) else none) else none) else (if 0≤(w64 (a3+x2))∧(w64 (a3+x2))<(x1.length:Int) then (if 0≤(w64 (a3+(w64 ((w64 (2*x2))+1))))∧(w64 (a3+(w64 ((w64 (2*x2))+1))))<(x1.length:Int) then ((Q34.f (gt x1 (w64 (a3+x2))) (gt x1 (w64 (a3+(w64 ((w64 (2*x2))+1)))))).bind fun r4=>(if (!r4)=true then (some x1) else (Q126.l0 k a2 a3 ((x1.set (w64 (a3+x2)).toNat (gt x1 (w64 (a3+(w64 ((w64 (2*x2))+1)))))).set (w64 (a3+(w64 ((w64 (2*x2))+1)))).toNat (gt x1 (w64 (a3+x2)))) (w64 ((w64 (2*x2))+1))))) else none) else none))
def Q126.f (k:Nat) (a0:TV) (a1:Int) (a2:Int) (a3:Int):Option TV:=Q126.l0 k a2 a3 a0 a1
theorem Q126.spec {k a0 a1 a2 a3 A1 c_1 r} (H:Q126.f k a0 a1 a2 a3=some r) :
  Spec Tryz.prog 219 [.slice A1 a0.length c_1,.int .i64 a1,.int .i64 a2,.int .i64 a3] [O30 a0 A1 c_1] [] (fun v l=>v=.tuple #[]∧l=[O30 r A1 c_1]∧r.length=a0.length):=by
 refine Zj Tryz.func219 fun w0 F0 h0=>?_
 unfold Q126.f at H
 refine T6 (Za [0,2,3,8] ?_)
 refine TY ?_
 have h22:=(sOR h0 [0] [])
 refine T2 (fun kk env w=>∃ x1 x2,Q126.l0 kk a2 a3 x1 x2=some r∧env=[(0,.slice A1 x1.length c_1),(2,.int .i64 a2),(3,.int .i64 a3),(8,.int .i64 x2)]∧St w0 F0 [O30 x1 A1 c_1] [] w∧x1.length=a0.length) (k:=k) ⟨_,_,H,rfl,h22,(rfl:a0.length=a0.length)⟩ ?_
 rintro k1 env w1 ⟨x1,x2,H,rfl,h1,e1⟩
 rcases k1 with _ | k1
 ·exact z0 H
 rw [Q126.l0] at H
 refine TY (T6 (Za [0,2,3,8,9] ?_))
 refine T6 (T6 (Za [0,2,3,8,9,16] ?_))
 refine jIf H (fun c1 H=>?_) fun c1 H=>?_
 ·refine T1 ?_
  cases H
  exact ⟨_,_,_,Zm,⟨rfl,rfl,e1⟩,sO h1 [0]⟩
 refine T7 (T6 (T6 ?_))
 refine jH h1 fun h2=>?_
 refine Zl [0,1,2,3,4] ?_
 refine Wu 21 H (fun c2 H=>?_) fun c2 H=>?_
 ·refine Zl [5,6,7,8,11,12,13,14,15] ?_
  obtain ⟨⟨p1,p2⟩,H⟩:=Zk H
  have e2:=Zw h2.wh (gO 0) p1 p2
  refine Zf 9 rfl (Zg e2 p1 p2) ?_
  refine Zf 10 rfl (Zh 0 wI (gO 0) p1 p2) ?_
  obtain ⟨⟨p3,p4⟩,H⟩:=Zk H
  refine Zf 16 rfl (Zg e2 p3 p4) ?_
  refine Zf 17 rfl (Zh 0 wI (gO 0) p3 p4) ?_
  refine cSJ 18 rfl H [] h2 rfl Q34.spec Zn 0 fun r1 w2 H h3=>?_
  refine Zl [19] ?_
  refine Zy [0,2,3,8,9,36] ?_
  refine jIf H (fun c3 H=>?_) fun c3 H=>?_
  ·refine Za [0,2,3,8,9] ?_
   refine T6 (T6 ?_)
   refine jH h3 fun h4=>?_
   refine Zl [0,1,2,3,6,7,8,9] ?_
   obtain ⟨⟨p5,p6⟩,H⟩:=Zk H
   refine Zf 4 rfl (Zg e2 p5 p6) ?_
   refine Zf 5 rfl (Zh 0 wI (gO 0) p5 p6) ?_
   obtain ⟨⟨p7,p8⟩,H⟩:=Zk H
   refine Zf 10 rfl (Zg e2 p7 p8) ?_
   refine Zf 11 rfl (Zh 0 wI (gO 0) p7 p8) ?_
   refine cSJ 12 rfl H [] h4 rfl Q34.spec Zn 0 fun r2 w3 H h5=>?_
   refine Zl [13] ?_
   refine Zy [0,2,3,8,9,52] ?_
   refine jIf H (fun c4 H=>?_) fun c4 H=>?_
   ·cases H
    exact T5 (jR ⟨rfl,rfl,e1⟩ h5 [0])
   refine T7 (T6 (Zx (sO h5 []) ?_))
   have h6:=h5.drew
   refine Zl [0,1,2,3,4,5,6,7,8,9,10,11,14,15,16,17] ?_
   refine Zf 12 rfl (Zg e2 p7 p8) ?_
   refine Zf 18 rfl (Zg e2 p5 p6) ?_
   refine TW (Y2 13 rfl (Zh 0 h6.wht (gO 0) p7 p8) (Y2 19 rfl (Zh 0 h6.wht (gO 0) p5 p6) Vy)) ?_
   refine Zf 20 rfl (Zg e2 p5 p6) ?_
   refine hS 21 rfl (Zo 0 (.int .u32) (w64 (a3+x2)) (gt x1 (w64 (a3+(w64 ((w64 ((w64 (2*x2))+1))+1))))) 0 h6 rfl p5 p6) 1 fun _ w4 h7=>?_
   have e3:(x1.set (w64 (a3+x2)).toNat (gt x1 (w64 (a3+(w64 ((w64 ((w64 (2*x2))+1))+1)))))).length=a0.length:=List.length_set.trans e1
   refine Zf 22 rfl (Zg e2 p7 p8) ?_
   refine hS 23 rfl (Zo 0 (.int .u32) (w64 (a3+(w64 ((w64 ((w64 (2*x2))+1))+1)))) (gt x1 (w64 (a3+x2))) 0 h7 rfl p7 (by simpa only [List.length_set] using p8)) 1 fun _ w5 h8=>?_
   have e4:((x1.set (w64 (a3+x2)).toNat (gt x1 (w64 (a3+(w64 ((w64 ((w64 (2*x2))+1))+1)))))).set (w64 (a3+(w64 ((w64 ((w64 (2*x2))+1))+1)))).toNat (gt x1 (w64 (a3+x2)))).length=a0.length:=List.length_set.trans e3
   refine Zy [0,2,3,9] ?_
   refine T0 (env':=[(0,.slice A1 ((x1.set (w64 (a3+x2)).toNat (gt x1 (w64 (a3+(w64 ((w64 ((w64 (2*x2))+1))+1)))))).set (w64 (a3+(w64 ((w64 ((w64 (2*x2))+1))+1)))).toNat (gt x1 (w64 (a3+x2)))).length c_1),(2,.int .i64 a2),(3,.int .i64 a3),(9,.int .i64 (w64 ((w64 ((w64 (2*x2))+1))+1)))]) (by simp only [List.length_set,List.length_nil] <;> rfl) ?_
   refine Za [0,2,3,8] ?_
   have h9:=(sOR h8 [0] [])
   exact ⟨k1,by omega,_,_,H,rfl,h9,e4⟩
  refine T7 (T6 (T6 ?_))
  refine jH h3 fun h10=>?_
  refine Zl [0,1,2,3,6,7,8,9] ?_
  obtain ⟨⟨p9,p10⟩,H⟩:=Zk H
  refine Zf 4 rfl (Zg e2 p9 p10) ?_
  refine Zf 5 rfl (Zh 0 wI (gO 0) p9 p10) ?_
  refine Zf 10 rfl (Zg e2 p1 p2) ?_
  refine Zf 11 rfl (Zh 0 wI (gO 0) p1 p2) ?_
  refine cSJ 12 rfl H [] h10 rfl Q34.spec Zn 0 fun r3 w6 H h11=>?_
  refine Zl [13] ?_
  refine Zy [0,2,3,8,9,52] ?_
  refine jIf H (fun c5 H=>?_) fun c5 H=>?_
  ·cases H
   exact T5 (jR ⟨rfl,rfl,e1⟩ h11 [0])
  refine T7 (T6 (Zx (sO h11 []) ?_))
  have h12:=h11.drew
  refine Zl [0,1,2,3,4,5,6,7,8,9,10,11,14,15,16,17] ?_
  refine Zf 12 rfl (Zg e2 p1 p2) ?_
  refine Zf 18 rfl (Zg e2 p9 p10) ?_
  refine TW (Y2 13 rfl (Zh 0 h12.wht (gO 0) p1 p2) (Y2 19 rfl (Zh 0 h12.wht (gO 0) p9 p10) Vy)) ?_
  refine Zf 20 rfl (Zg e2 p9 p10) ?_
  refine hS 21 rfl (Zo 0 (.int .u32) (w64 (a3+x2)) (gt x1 (w64 (a3+(w64 ((w64 (2*x2))+1))))) 0 h12 rfl p9 p10) 1 fun _ w7 h13=>?_
  have e5:(x1.set (w64 (a3+x2)).toNat (gt x1 (w64 (a3+(w64 ((w64 (2*x2))+1)))))).length=a0.length:=List.length_set.trans e1
  refine Zf 22 rfl (Zg e2 p1 p2) ?_
  refine hS 23 rfl (Zo 0 (.int .u32) (w64 (a3+(w64 ((w64 (2*x2))+1)))) (gt x1 (w64 (a3+x2))) 0 h13 rfl p1 (by simpa only [List.length_set] using p2)) 1 fun _ w8 h14=>?_
  have e6:((x1.set (w64 (a3+x2)).toNat (gt x1 (w64 (a3+(w64 ((w64 (2*x2))+1)))))).set (w64 (a3+(w64 ((w64 (2*x2))+1)))).toNat (gt x1 (w64 (a3+x2)))).length=a0.length:=List.length_set.trans e5
  refine Zy [0,2,3,9] ?_
  refine T0 (env':=[(0,.slice A1 ((x1.set (w64 (a3+x2)).toNat (gt x1 (w64 (a3+(w64 ((w64 (2*x2))+1)))))).set (w64 (a3+(w64 ((w64 (2*x2))+1)))).toNat (gt x1 (w64 (a3+x2)))).length c_1),(2,.int .i64 a2),(3,.int .i64 a3),(9,.int .i64 (w64 ((w64 (2*x2))+1)))]) (by simp only [List.length_set,List.length_nil] <;> rfl) ?_
  refine Za [0,2,3,8] ?_
  have h15:=(sOR h14 [0] [])
  exact ⟨k1,by omega,_,_,H,rfl,h15,e6⟩
 refine Zl [5,6,7,8,9,10,11,12,13,14,15,16,17,18,19] ?_
 refine Zy [0,2,3,8,9,36] ?_
 refine Z5 ?_
 refine T7 (T6 (T6 ?_))
 refine jH h2 fun h16=>?_
 refine Zl [0,1,2,3,6,7,8,9] ?_
 obtain ⟨⟨p11,p12⟩,H⟩:=Zk H
 have e7:=Zw h16.wh (gO 0) p11 p12
 refine Zf 4 rfl (Zg e7 p11 p12) ?_
 refine Zf 5 rfl (Zh 0 wI (gO 0) p11 p12) ?_
 obtain ⟨⟨p13,p14⟩,H⟩:=Zk H
 refine Zf 10 rfl (Zg e7 p13 p14) ?_
 refine Zf 11 rfl (Zh 0 wI (gO 0) p13 p14) ?_
 refine cSJ 12 rfl H [] h16 rfl Q34.spec Zn 0 fun r4 w9 H h17=>?_
 refine Zl [13] ?_
 refine Zy [0,2,3,8,9,52] ?_
 refine jIf H (fun c6 H=>?_) fun c6 H=>?_
 ·cases H
  exact T5 (jR ⟨rfl,rfl,e1⟩ h17 [0])
 refine T7 (T6 (Zx (sO h17 []) ?_))
 have h18:=h17.drew
 refine Zl [0,1,2,3,4,5,6,7,8,9,10,11,14,15,16,17] ?_
 refine Zf 12 rfl (Zg e7 p13 p14) ?_
 refine Zf 18 rfl (Zg e7 p11 p12) ?_
 refine TW (Y2 13 rfl (Zh 0 h18.wht (gO 0) p13 p14) (Y2 19 rfl (Zh 0 h18.wht (gO 0) p11 p12) Vy)) ?_
 refine Zf 20 rfl (Zg e7 p11 p12) ?_
 refine hS 21 rfl (Zo 0 (.int .u32) (w64 (a3+x2)) (gt x1 (w64 (a3+(w64 ((w64 (2*x2))+1))))) 0 h18 rfl p11 p12) 1 fun _ w10 h19=>?_
 have e8:(x1.set (w64 (a3+x2)).toNat (gt x1 (w64 (a3+(w64 ((w64 (2*x2))+1)))))).length=a0.length:=List.length_set.trans e1
 refine Zf 22 rfl (Zg e7 p13 p14) ?_
 refine hS 23 rfl (Zo 0 (.int .u32) (w64 (a3+(w64 ((w64 (2*x2))+1)))) (gt x1 (w64 (a3+x2))) 0 h19 rfl p13 (by simpa only [List.length_set] using p14)) 1 fun _ w11 h20=>?_
 have e9:((x1.set (w64 (a3+x2)).toNat (gt x1 (w64 (a3+(w64 ((w64 (2*x2))+1)))))).set (w64 (a3+(w64 ((w64 (2*x2))+1)))).toNat (gt x1 (w64 (a3+x2)))).length=a0.length:=List.length_set.trans e8
 refine Zy [0,2,3,9] ?_
 refine T0 (env':=[(0,.slice A1 ((x1.set (w64 (a3+x2)).toNat (gt x1 (w64 (a3+(w64 ((w64 (2*x2))+1)))))).set (w64 (a3+(w64 ((w64 (2*x2))+1)))).toNat (gt x1 (w64 (a3+x2)))).length c_1),(2,.int .i64 a2),(3,.int .i64 a3),(9,.int .i64 (w64 ((w64 (2*x2))+1)))]) (by simp only [List.length_set,List.length_nil] <;> rfl) ?_
 refine Za [0,2,3,8] ?_
 have h21:=(sOR h20 [0] [])
 exact ⟨k1,by omega,_,_,H,rfl,h21,e9⟩

end Go.SK.T
