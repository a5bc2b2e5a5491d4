/- The types of the program, and its functions as the code computes them, each proved. -/
import Derived.Test.YtgdmpkhmedbnpaaGreatDoorXShelfNoneKD
import Derived.Test.YtgdmpkhmedbnpaaGreatDoorProg
import Derived.Shelf.Spec.TrailingZeros
set_option linter.unusedVariables false
set_option linter.unusedSimpArgs false
set_option maxRecDepth 20000
set_option maxHeartbeats 40000000
namespace Go.SK.T
open Go Go.SK Go.Proofs
def tt:TT:=[(1,⟨.func,1,8,.nilFunc⟩),
 (2,⟨.int .i64,1,8,.int .i64 0⟩),
 (3,⟨.int .i64,1,8,.int .i64 0⟩),
 (4,⟨.bool,1,1,.bool false⟩),
 (5,⟨.int .u8,1,1,.int .u8 0⟩),
 (6,⟨.int .u8,1,1,.int .u8 0⟩),
 (9,⟨.str,1,16,.string ⟨⟨[]⟩⟩⟩),
 (23,⟨.struct [(3,0,1),(3,1,1),(3,2,1),(3,3,1),(3,4,1),(3,5,1),(3,6,1),(3,7,1)],8,64,.agg #[.int .i64 0,.int .i64 0,.int .i64 0,.int .i64 0,.int .i64 0,.int .i64 0,.int .i64 0,.int .i64 0]⟩),
 (27,⟨.ptr 83,1,8,.pointer none⟩),
 (28,⟨.ptr 121,1,8,.pointer none⟩),
 (33,⟨.int .u32,1,4,.int .u32 0⟩),
 (38,⟨.slice 33,1,24,.slice none 0 0⟩),
 (39,⟨.slice 9,1,24,.slice none 0 0⟩),
 (40,⟨.slice 115,1,24,.slice none 0 0⟩),
 (41,⟨.slice 106,1,24,.slice none 0 0⟩),
 (43,⟨.struct [(3,0,1),(38,1,1),(39,2,1),(40,3,1),(41,4,1)],5,104,.agg #[.int .i64 0,.slice none 0 0,.slice none 0 0,.slice none 0 0,.slice none 0 0]⟩),
 (48,⟨.int .i64,1,8,.int .i64 0⟩),
 (54,⟨.slice 5,1,24,.slice none 0 0⟩),
 (61,⟨.int .u64,1,8,.int .u64 0⟩),
 (63,⟨.struct [(61,0,1),(61,1,1)],2,16,.agg #[.int .u64 0,.int .u64 0]⟩),
 (80,⟨.ptr 169,1,8,.pointer none⟩),
 (81,⟨.ptr 193,1,8,.pointer none⟩),
 (83,⟨.struct [(23,0,8),(28,8,1),(80,9,1),(81,10,1),(33,11,1)],12,96,.agg #[.int .i64 0,.int .i64 0,.int .i64 0,.int .i64 0,.int .i64 0,.int .i64 0,.int .i64 0,.int .i64 0,.pointer none,.pointer none,.pointer none,.int .u32 0]⟩),
 (84,⟨.slice 27,1,24,.slice none 0 0⟩),
 (92,⟨.struct [(9,0,1),(9,1,1),(4,2,1)],3,40,.agg #[.string ⟨⟨[]⟩⟩,.string ⟨⟨[]⟩⟩,.bool false]⟩),
 (106,⟨.struct [(9,0,1),(9,1,1)],2,32,.agg #[.string ⟨⟨[]⟩⟩,.string ⟨⟨[]⟩⟩]⟩),
 (115,⟨.struct [(9,0,1),(4,1,1),(9,2,1)],3,40,.agg #[.string ⟨⟨[]⟩⟩,.bool false,.string ⟨⟨[]⟩⟩]⟩),
 (121,⟨.struct [(3,0,1),(54,1,1),(63,2,2)],4,48,.agg #[.int .i64 0,.slice none 0 0,.int .u64 0,.int .u64 0]⟩),
 (124,⟨.ptr 172,1,8,.pointer none⟩),
 (161,⟨.ptr 163,1,8,.pointer none⟩),
 (163,⟨.struct [(33,0,1),(54,1,1),(4,2,1),(3,3,1)],4,48,.agg #[.int .u32 0,.slice none 0 0,.bool false,.int .i64 0]⟩),
 (164,⟨.slice 163,1,24,.slice none 0 0⟩),
 (165,⟨.map 33 3,1,8,.map none⟩),
 (166,⟨.slice 3,1,24,.slice none 0 0⟩),
 (167,⟨.ptr 227,1,8,.pointer none⟩),
 (169,⟨.struct [(28,0,1),(164,1,1),(165,2,1),(166,3,1),(167,4,1)],5,72,.agg #[.pointer none,.slice none 0 0,.map none,.slice none 0 0,.pointer none]⟩),
 (172,⟨.struct [(54,0,1),(48,1,1)],2,32,.agg #[.slice none 0 0,.int .i64 0]⟩),
 (175,⟨.int .u64,1,8,.int .u64 0⟩),
 (177,⟨.func,1,8,.nilFunc⟩),
 (184,⟨.func,1,8,.nilFunc⟩),
 (191,⟨.ptr 231,1,8,.pointer none⟩),
 (193,⟨.struct [(191,0,1)],1,8,.agg #[.pointer none]⟩),
 (200,⟨.func,1,8,.nilFunc⟩),
 (206,⟨.func,1,8,.nilFunc⟩),
 (209,⟨.func,1,8,.nilFunc⟩),
 (224,⟨.struct [(3,0,1),(3,1,1),(4,2,1)],3,24,.agg #[.int .i64 0,.int .i64 0,.bool false]⟩),
 (225,⟨.slice 224,1,24,.slice none 0 0⟩),
 (227,⟨.struct [(225,0,1),(3,1,1)],2,32,.agg #[.slice none 0 0,.int .i64 0]⟩),
 (229,⟨.slice 61,1,24,.slice none 0 0⟩),
 (231,⟨.struct [(3,0,1),(3,1,1),(229,2,1)],3,40,.agg #[.int .i64 0,.int .i64 0,.slice none 0 0]⟩),
 (250,⟨.func,1,8,.nilFunc⟩),
 (254,⟨.func,1,8,.nilFunc⟩),
 (257,⟨.func,1,8,.nilFunc⟩),
 (274,⟨.int .i64,1,8,.int .i64 0⟩),
 (283,⟨.int .u64,1,8,.int .u64 0⟩),
 (287,⟨.ptr 3,1,8,.pointer none⟩),
 (289,⟨.ptr 283,1,8,.pointer none⟩)]
theorem Yu:Yn Tryz.prog tt:=by
 refine ttC ⟨_,_,_,Tryz.underlying1⟩ ?_
 refine ttC Tryz.underlying2 ?_
 refine ttC Tryz.underlying3 ?_
 refine ttC Tryz.underlying4 ?_
 refine ttC Tryz.underlying5 ?_
 refine ttC Tryz.underlying6 ?_
 refine ttC Tryz.underlying9 ?_
 refine ttS Tryz.underlying23 ?_
 refine ttC Tryz.underlying27 ?_
 refine ttC Tryz.underlying28 ?_
 refine ttC Tryz.underlying33 ?_
 refine ttC Tryz.underlying38 ?_
 refine ttC Tryz.underlying39 ?_
 refine ttC Tryz.underlying40 ?_
 refine ttC Tryz.underlying41 ?_
 refine ttS Tryz.underlying43 ?_
 refine ttC Tryz.underlying48 ?_
 refine ttC Tryz.underlying54 ?_
 refine ttC Tryz.underlying61 ?_
 refine ttS Tryz.underlying63 ?_
 refine ttC Tryz.underlying80 ?_
 refine ttC Tryz.underlying81 ?_
 refine ttS Tryz.underlying83 ?_
 refine ttC Tryz.underlying84 ?_
 refine ttS Tryz.underlying92 ?_
 refine ttS Tryz.underlying106 ?_
 refine ttS Tryz.underlying115 ?_
 refine ttS Tryz.underlying121 ?_
 refine ttC Tryz.underlying124 ?_
 refine ttC Tryz.underlying161 ?_
 refine ttS Tryz.underlying163 ?_
 refine ttC Tryz.underlying164 ?_
 refine ttC Tryz.underlying165 ?_
 refine ttC Tryz.underlying166 ?_
 refine ttC Tryz.underlying167 ?_
 refine ttS Tryz.underlying169 ?_
 refine ttS Tryz.underlying172 ?_
 refine ttC Tryz.underlying175 ?_
 refine ttC ⟨_,_,_,Tryz.underlying177⟩ ?_
 refine ttC ⟨_,_,_,Tryz.underlying184⟩ ?_
 refine ttC Tryz.underlying191 ?_
 refine ttS Tryz.underlying193 ?_
 refine ttC ⟨_,_,_,Tryz.underlying200⟩ ?_
 refine ttC ⟨_,_,_,Tryz.underlying206⟩ ?_
 refine ttC ⟨_,_,_,Tryz.underlying209⟩ ?_
 refine ttS Tryz.underlying224 ?_
 refine ttC Tryz.underlying225 ?_
 refine ttS Tryz.underlying227 ?_
 refine ttC Tryz.underlying229 ?_
 refine ttS Tryz.underlying231 ?_
 refine ttC ⟨_,_,_,Tryz.underlying250⟩ ?_
 refine ttC ⟨_,_,_,Tryz.underlying254⟩ ?_
 refine ttC ⟨_,_,_,Tryz.underlying257⟩ ?_
 refine ttC Tryz.underlying274 ?_
 refine ttC Tryz.underlying283 ?_
 refine ttC Tryz.underlying287 ?_
 refine ttC Tryz.underlying289 ?_
 exact Zbs _
theorem mix:Tryz.prog.follows .mixedOrders=true:=by kernel_rfl
instance:TTI Tryz.prog tt:=⟨Yu,mix⟩
abbrev X23 (b:Nat) (p0:Int) (p1:Int) (p2:Int) (p3:Int) (p4:Int) (p5:Int) (p6:Int) (p7:Int):Ch:=Yv b 23 [.int .i64 p0,.int .i64 p1,.int .i64 p2,.int .i64 p3,.int .i64 p4,.int .i64 p5,.int .i64 p6,.int .i64 p7]
abbrev X43 (b:Nat) (p0:Int) (p1:List (Int)) (A1:Option Addr) (c1:Nat) (p2:List (List UInt8)) (A2:Option Addr) (c2:Nat) (p3:List (List UInt8×Bool×List UInt8)) (A3:Option Addr) (c3:Nat) (p4:List (List UInt8×List UInt8)) (A4:Option Addr) (c4:Nat):Ch:=Yv b 43 [.int .i64 p0,.slice A1 p1.length c1,.slice A2 p2.length c2,.slice A3 p3.length c3,.slice A4 p4.length c4]
abbrev R33 (x:List (Int)) (A:Option Addr) (c:Nat):Ch:=rdC 33 (.int .u32) x (.slice A x.length c)
abbrev R9 (x:List (List UInt8)) (A:Option Addr) (c:Nat):Ch:=rdC 9 .str x (.slice A x.length c)
abbrev Xk (x:List (List UInt8×Bool×List UInt8)) (A:Option Addr) (c:Nat):Ch:=rdC 115 (.pair .str (.pair .bool .str)) x (.slice A x.length c)
abbrev Xl (x:List (List UInt8×List UInt8)) (A:Option Addr) (c:Nat):Ch:=rdC 106 (.pair .str .str) x (.slice A x.length c)
abbrev O5 (x:List (Int)) (A:Option Addr) (c:Nat):Ch:=Yg 5 (.int .u8) x (.slice A x.length c)
abbrev Yi (b:Nat) (p0:Int) (p1:List (Int)) (A1:Option Addr) (c1:Nat) (p2:Int) (p3:Int):Ch:=Yv b 121 [.int .i64 p0,.slice A1 p1.length c1,.int .u64 p2,.int .u64 p3]
abbrev X83 (b:Nat) (p0:Int) (p1:Int) (p2:Int) (p3:Int) (p4:Int) (p5:Int) (p6:Int) (p7:Int) (p8:Value) (p9:Value) (p10:Value) (p11:Int):Ch:=Yv b 83 [.int .i64 p0,.int .i64 p1,.int .i64 p2,.int .i64 p3,.int .i64 p4,.int .i64 p5,.int .i64 p6,.int .i64 p7,p8,p9,p10,.int .u32 p11]
abbrev Yp (b:Nat) (p0:Value) (p1:List (Int×List (Int)×Bool×Int)) (A1:Option Addr) (c1:Nat) (p2:Value) (p3:List (Int)) (A3:Option Addr) (c3:Nat) (p4:Value):Ch:=Yv b 169 [p0,.slice A1 p1.length c1,p2,.slice A3 p3.length c3,p4]
abbrev Yo (x:List (Int×List (Int)×Bool×Int)) (A:Option Addr) (c:Nat):Ch:=Yg 163 (.pair (.int .u32) (.pair (.slice 5 (.int .u8)) (.pair .bool (.int .i64)))) x (.slice A x.length c)
abbrev O3 (x:List (Int)) (A:Option Addr) (c:Nat):Ch:=Yg 3 (.int .i64) x (.slice A x.length c)
abbrev Ya (b:Nat) (p0:List (Int×Int×Bool)) (A0:Option Addr) (c0:Nat) (p1:Int):Ch:=Yv b 227 [.slice A0 p0.length c0,.int .i64 p1]
abbrev Yb (x:List (Int×Int×Bool)) (A:Option Addr) (c:Nat):Ch:=Yg 224 (.pair (.int .i64) (.pair (.int .i64) .bool)) x (.slice A x.length c)
abbrev Xd (b:Nat) (p0:Value):Ch:=Yv b 193 [p0]
abbrev Yl (b:Nat) (p0:Int) (p1:Int) (p2:List (Int)) (A2:Option Addr) (c2:Nat):Ch:=Yv b 231 [.int .i64 p0,.int .i64 p1,.slice A2 p2.length c2]
abbrev O61 (x:List (Int)) (A:Option Addr) (c:Nat):Ch:=Yg 61 (.int .u64) x (.slice A x.length c)
abbrev X92 (b:Nat) (p0:List UInt8) (p1:List UInt8) (p2:Bool):Ch:=Yv b 92 [.string ⟨⟨p0⟩⟩,.string ⟨⟨p1⟩⟩,.bool p2]
abbrev X106 (b:Nat) (p0:List UInt8) (p1:List UInt8):Ch:=Yv b 106 [.string ⟨⟨p0⟩⟩,.string ⟨⟨p1⟩⟩]
abbrev O33 (x:List (Int)) (A:Option Addr) (c:Nat):Ch:=Yg 33 (.int .u32) x (.slice A x.length c)
abbrev X3 (b:Nat) (p0:Int):Ch:=Yv b 3 [.int .i64 p0]
abbrev Ua (b:Nat) (p0:Int):Ch:=Yv b 283 [.int .u64 p0]
abbrev X115 (b:Nat) (p0:List UInt8) (p1:Bool) (p2:List UInt8):Ch:=Yv b 115 [.string ⟨⟨p0⟩⟩,.bool p1,.string ⟨⟨p2⟩⟩]
abbrev R5 (x:List (Int)) (A:Option Addr) (c:Nat):Ch:=rdC 5 (.int .u8) x (.slice A x.length c)
abbrev Jl (b:Nat) (p0:Int) (p1:Int) (p2:Bool):Ch:=Yv b 224 [.int .i64 p0,.int .i64 p1,.bool p2]
abbrev B9 (b:Nat) (p0:Int) (p1:List (Int)) (A1:Option Addr) (c1:Nat) (p2:Bool) (p3:Int):Ch:=Yv b 163 [.int .u32 p0,.slice A1 p1.length c1,.bool p2,.int .i64 p3]
abbrev Xh (b:Nat) (p0:List (Int)) (A0:Option Addr) (c0:Nat) (p1:Int):Ch:=Yv b 172 [.slice A0 p0.length c0,.int .i64 p1]
abbrev U6 (x:List (List UInt8×List UInt8)) (A:Option Addr) (c:Nat):Ch:=Yg 106 (.pair .str .str) x (.slice A x.length c)
abbrev O9 (x:List (List UInt8)) (A:Option Addr) (c:Nat):Ch:=Yg 9 .str x (.slice A x.length c)
abbrev U4 (x:List (List UInt8×Bool×List UInt8)) (A:Option Addr) (c:Nat):Ch:=Yg 115 (.pair .str (.pair .bool .str)) x (.slice A x.length c)
abbrev O27 (x:List (Value)) (A:Option Addr) (c:Nat):Ch:=Yg 27 .val x (.slice A x.length c)
abbrev X63 (b:Nat) (p0:Int) (p1:Int):Ch:=Yv b 63 [.int .u64 p0,.int .u64 p1]
def tzR:Go.Shelf.Ren:={ f:=fun _=>212,t:=fun n=>if n=3 then 3 else if n=4 then 4 else if n=5 then 5 else if n=22 then 61 else if n=25 then 175 else if n=54 then 271 else 0,g:=fun _=>0 }
theorem tzL:Go.Proofs.Lays7.n29 Tryz.prog tzR where
 mixed:=mix
 f29:=by kernel_rfl
 t0:=by kernel_rfl
 a0:=fun _=>by kernel_rfl
 z0:=fun _=>by kernel_rfl
 v0:=fun _=>by kernel_rfl
 i0:=by kernel_rfl
 t3:=by kernel_rfl
 a3:=fun _=>by kernel_rfl
 z3:=fun _=>by kernel_rfl
 v3:=fun _=>by kernel_rfl
 i3:=by kernel_rfl
 t4:=by kernel_rfl
 a4:=fun _=>by kernel_rfl
 z4:=fun _=>by kernel_rfl
 v4:=fun _=>by kernel_rfl
 i4:=by kernel_rfl
 t5:=by kernel_rfl
 a5:=fun _=>by kernel_rfl
 z5:=fun _=>by kernel_rfl
 v5:=fun _=>by kernel_rfl
 i5:=by kernel_rfl
 t22:=by kernel_rfl
 a22:=fun _=>by kernel_rfl
 z22:=fun _=>by kernel_rfl
 v22:=fun _=>by kernel_rfl
 i22:=by kernel_rfl
 t25:=by kernel_rfl
 a25:=fun _=>by kernel_rfl
 z25:=fun _=>by kernel_rfl
 v25:=fun _=>by kernel_rfl
 i25:=by kernel_rfl
 t54:=by kernel_rfl
 a54:=fun _=>by kernel_rfl
 z54:=fun _=>by kernel_rfl
 g1:=by kernel_rfl
def tzI (x:Int):Int:=((Go.Lib.ctz 64 x.toNat:Nat):Int)
def tabC (g:Nat):Ch where
 ok w F:=F g∧Go.Proofs.TabAt g Go.Lib.deBruijn64tab w
 stable:=fun {w w' F} hs h=>⟨h.1,fun j hj=>by
  have:=h.2 j hj
  unfold World.cell? at this ⊢
  rw [hs g h.1]
  exact this⟩
theorem tz64.spec {x:Int} (h0:0≤x) (h1:x<18446744073709551616):Spec Tryz.prog 212 [.int .u64 x] [] [tabC 0] (fun v l=>v=.int .i64 (tzI x)∧l=[]):=by
 refine ⟨⟨_,Tryz.func212,by kernel_rfl,by kernel_rfl⟩,fun w F hs hb hrd=>?_⟩
 obtain ⟨n,rfl⟩:=Int.eq_ofNat_of_zero_le h0
 obtain ⟨R,hR,_⟩:=hrd _ (List.mem_singleton.2 rfl)
 have:=Go.Proofs.Any7.bits_TrailingZeros64 tzL n (by omega) w (fun _=>hR.2)
 refine this.mono fun e w' ⟨he,hw⟩=>?_
 subst hw
 refine ⟨_,[],fun _=>False,he,⟨rfl,rfl⟩,Chg.refl _ _,?_,fun b h=>h.elim⟩
 trivial

theorem Zcs:CmpStr Tryz.prog 246:=CmpStr.of Tryz.func246 (by kernel_rfl) (by kernel_rfl) (by kernel_rfl) rfl
def Q132.l2:Nat→(Int×List (Int)×List (List UInt8)×(List (List UInt8×Bool×List UInt8))×(List (List UInt8×List UInt8)))→(Int)→Option (Bool)
 | 0,_,_=>none
 | k+1,a0,x3=>if (decide (x3<(a0.2.2.2.2.length:Int)))=true then (if 0≤x3∧x3<(a0.2.2.2.2.length:Int) then (if (decide (200<(((gt a0.2.2.2.2 x3).1).length:Int)))=true then (some true) else (Q132.l2 k a0 (w64 (x3+1)))) else none) else (some false)
def Q132.l1:Nat→(Int×List (Int)×List (List UInt8)×(List (List UInt8×Bool×List UInt8))×(List (List UInt8×List UInt8)))→(Int)→Option (Bool)
 | 0,_,_=>none
 | k+1,a0,x2=>if (decide (x2<(a0.2.2.2.1.length:Int)))=true then (if 0≤x2∧x2<(a0.2.2.2.1.length:Int) then (if (decide (200<(((gt a0.2.2.2.1 x2).1).length:Int)))=true then (some true) else (Q132.l1 k a0 (w64 (x2+1)))) else none) else (Q132.l2 k a0 0)
def Q132.l0:Nat→(Int×List (Int)×List (List UInt8)×(List (List UInt8×Bool×List UInt8))×(List (List UInt8×List UInt8)))→(Int)→Option (Bool)
 | 0,_,_=>none
 | k+1,a0,x1=>if (decide (x1<(a0.2.2.1.length:Int)))=true then (if 0≤x1∧x1<(a0.2.2.1.length:Int) then (if (decide (200<((gt a0.2.2.1 x1).length:Int)))=true then (some true) else (Q132.l0 k a0 (w64 (x1+1)))) else none) else (Q132.l1 k a0 0)
def Q132.f (k:Nat) (a0:Int×List (Int)×List (List UInt8)×(List (List UInt8×Bool×List UInt8))×(List (List UInt8×List UInt8))):Option (Bool):=if (decide (80<(a0.2.1.length:Int)))=true then (some true) else (if (decide (80<(a0.2.2.1.length:Int)))=true then (some true) else (if (decide (150<(a0.2.2.2.1.length:Int)))=true then (some true) else (if (decide (150<(a0.2.2.2.2.length:Int)))=true then (some true) else (Q132.l0 k a0 0))))
theorem Q132.spec {k:Nat} {a0:Int×List (Int)×List (List UInt8)×(List (List UInt8×Bool×List UInt8))×(List (List UInt8×List UInt8))} {A1:Option Addr} {c_1:Nat} {A2:Option Addr} {c_2:Nat} {A3:Option Addr} {c_3:Nat} {A4:Option Addr} {c_4:Nat} {r:Bool} (H:Q132.f k a0=some r) :
  Spec Tryz.prog 16 [.agg #[.int .i64 a0.1,.slice A1 a0.2.1.length c_1,.slice A2 a0.2.2.1.length c_2,.slice A3 a0.2.2.2.1.length c_3,.slice A4 a0.2.2.2.2.length c_4]] [] [R33 a0.2.1 A1 c_1,R9 a0.2.2.1 A2 c_2,Xk a0.2.2.2.1 A3 c_3,Xl a0.2.2.2.2 A4 c_4] (fun v l=>v=.bool r∧l=[]):=by
 refine Zp Tryz.func16 fun w0 F0 h0=>?_
 unfold Q132.f at H
 refine J.seq (J.region ?_)
 refine Ze (Ye h0) ?_
 rintro _ w1 ⟨b1,rfl,h1⟩
 replace h1:=nf h1
 refine Zi [1] rfl ?_
 refine J.seq (J.seq (J.region ?_))
 refine Zh 1 ?_
 refine Zg (Zd 0 h1.wht) ?_
 refine Zh 3 ?_
 refine Z7 10 H (fun c1 H=>?_) fun c1 H=>?_
 ·refine Zi [1,27] rfl ?_
  refine Zo ?_
  refine J.seq (Zc [2] ?_)
  refine J.ret ?_
  cases H
  exact ⟨_,_,_,Za,⟨rfl,rfl⟩,Zb h1 []⟩
 refine Zh 1 ?_
 refine Zg (Zd 0 h1.wht) ?_
 refine Zh 4 ?_
 refine Z7 16 H (fun c2 H=>?_) fun c2 H=>?_
 ·refine Zi [1,27] rfl ?_
  refine Zo ?_
  refine J.seq (Zc [2] ?_)
  refine J.ret ?_
  cases H
  exact ⟨_,_,_,Za,⟨rfl,rfl⟩,Zb h1 []⟩
 refine Zh 1 ?_
 refine Zg (Zd 0 h1.wht) ?_
 refine Zh 4 ?_
 refine Z7 22 H (fun c3 H=>?_) fun c3 H=>?_
 ·refine Zi [1,27] rfl ?_
  refine Zo ?_
  refine J.seq (Zc [2] ?_)
  refine J.ret ?_
  cases H
  exact ⟨_,_,_,Za,⟨rfl,rfl⟩,Zb h1 []⟩
 refine Zh 1 ?_
 refine Zg (Zd 0 h1.wht) ?_
 refine Zi [1,27] rfl ?_
 refine jIf H (fun c4 H=>?_) fun c4 H=>?_
 ·refine J.seq (Zc [2] ?_)
  refine J.ret ?_
  cases H
  exact ⟨_,_,_,Za,⟨rfl,rfl⟩,Zb h1 []⟩
 refine J.skip (J.seq (J.seq (Zc [1,3] ?_)))
 refine J.block ?_
 have h10:=(sOR h1 [0] [0,1,2,3])
 refine J.loop (fun kk env w=>∃(x1:Int),env=[(1,.pointer (some ⟨b1,0,none⟩)),(3,.int .i64 x1)]∧St w0 F0 [X43 b1 a0.1 a0.2.1 A1 c_1 a0.2.2.1 A2 c_2 a0.2.2.2.1 A3 c_3 a0.2.2.2.2 A4 c_4] [R33 a0.2.1 A1 c_1,R9 a0.2.2.1 A2 c_2,Xk a0.2.2.2.1 A3 c_3,Xl a0.2.2.2.2 A4 c_4] w∧Q132.l0 kk a0 x1=some r) (k:=k) ⟨0,rfl,h10,H⟩ ?_
 rintro k1 env w2 ⟨x1,rfl,h2,H⟩
 rcases k1 with _ | k1
 ·exact z0 H
 rw [Q132.l0] at H
 refine J.seq (J.seq (J.region ?_))
 refine Zh 2 ?_
 refine Zg (Zd 0 h2.wht) ?_
 refine Zi [1,3,32] rfl ?_
 refine jIf H (fun c5 H=>?_) fun c5 H=>?_
 ·refine J.skip (J.seq (J.block (J.seq (J.region ?_))))
  refine Zh 1 ?_
  refine Zg (Zd 0 h2.wht) ?_
  refine Zh 1 ?_
  obtain ⟨⟨p1,p2⟩,H⟩:=Zt H
  have e1:=Z6 h2.wh (Zm 2) p1 p2
  refine Zg (Zk e1 p1 p2) ?_
  refine Zg (Zl 0 h2.wht (Zm 2) p1 p2) ?_
  refine Zi [1,3,41] rfl ?_
  refine jIf H (fun c6 H=>?_) fun c6 H=>?_
  ·refine J.seq (Zc [2] ?_)
   refine J.ret ?_
   cases H
   exact ⟨_,_,_,Za,⟨rfl,rfl⟩,Zb h2 []⟩
  refine J.skip (Zc [1,3] ?_)
  have h3:=(sOR h2 [0] [0,1,2,3])
  exact ⟨k1,by omega,(w64 (x1+1)),rfl,h3,H⟩
 refine J.exit (J.seq (J.seq (Zc [1,4] ?_)))
 refine J.block ?_
 have h9:=(sOR h2 [0] [0,1,2,3])
 refine J.loop (fun kk env w=>∃(x2:Int),env=[(1,.pointer (some ⟨b1,0,none⟩)),(4,.int .i64 x2)]∧St w0 F0 [X43 b1 a0.1 a0.2.1 A1 c_1 a0.2.2.1 A2 c_2 a0.2.2.2.1 A3 c_3 a0.2.2.2.2 A4 c_4] [R33 a0.2.1 A1 c_1,R9 a0.2.2.1 A2 c_2,Xk a0.2.2.2.1 A3 c_3,Xl a0.2.2.2.2 A4 c_4] w∧Q132.l1 kk a0 x2=some r) (k:=k1) ⟨0,rfl,h9,H⟩ ?_
 rintro k2 env w3 ⟨x2,rfl,h4,H⟩
 rcases k2 with _ | k2
 ·exact z0 H
 rw [Q132.l1] at H
 refine J.seq (J.seq (J.region ?_))
 refine Zh 2 ?_
 refine Zg (Zd 0 h4.wht) ?_
 refine Zi [1,4,46] rfl ?_
 refine jIf H (fun c7 H=>?_) fun c7 H=>?_
 ·refine J.skip (J.seq (J.block (J.seq (J.region ?_))))
  refine Zh 1 ?_
  refine Zg (Zd 0 h4.wht) ?_
  refine Zh 1 ?_
  obtain ⟨⟨p3,p4⟩,H⟩:=Zt H
  have e2:=Z6 h4.wh (Zm 3) p3 p4
  refine Zg (Zk e2 p3 p4) ?_
  refine Zh 1 ?_
  refine Zg (Zl 0 h4.wht (Zm 3) p3 p4) ?_
  refine Zi [1,4,56] rfl ?_
  refine jIf H (fun c8 H=>?_) fun c8 H=>?_
  ·refine J.seq (Zc [2] ?_)
   refine J.ret ?_
   cases H
   exact ⟨_,_,_,Za,⟨rfl,rfl⟩,Zb h4 []⟩
  refine J.skip (Zc [1,4] ?_)
  have h5:=(sOR h4 [0] [0,1,2,3])
  exact ⟨k2,by omega,(w64 (x2+1)),rfl,h5,H⟩
 refine J.exit (J.seq (J.seq (Zc [1,5] ?_)))
 refine J.block ?_
 have h8:=(sOR h4 [0] [0,1,2,3])
 refine J.loop (fun kk env w=>∃(x3:Int),env=[(1,.pointer (some ⟨b1,0,none⟩)),(5,.int .i64 x3)]∧St w0 F0 [X43 b1 a0.1 a0.2.1 A1 c_1 a0.2.2.1 A2 c_2 a0.2.2.2.1 A3 c_3 a0.2.2.2.2 A4 c_4] [R33 a0.2.1 A1 c_1,R9 a0.2.2.1 A2 c_2,Xk a0.2.2.2.1 A3 c_3,Xl a0.2.2.2.2 A4 c_4] w∧Q132.l2 kk a0 x3=some r) (k:=k2) ⟨0,rfl,h8,H⟩ ?_
 rintro k3 env w4 ⟨x3,rfl,h6,H⟩
 rcases k3 with _ | k3
 ·exact z0 H
 rw [Q132.l2] at H
 refine J.seq (J.seq (J.region ?_))
 refine Zh 2 ?_
 refine Zg (Zd 0 h6.wht) ?_
 refine Zi [1,5,61] rfl ?_
 refine jIf H (fun c9 H=>?_) fun c9 H=>?_
 ·refine J.skip (J.seq (J.block (J.seq (J.region ?_))))
  refine Zh 1 ?_
  refine Zg (Zd 0 h6.wht) ?_
  refine Zh 1 ?_
  obtain ⟨⟨p5,p6⟩,H⟩:=Zt H
  have e3:=Z6 h6.wh (Zm 4) p5 p6
  refine Zg (Zk e3 p5 p6) ?_
  refine Zh 1 ?_
  refine Zg (Zl 0 h6.wht (Zm 4) p5 p6) ?_
  refine Zi [1,5,71] rfl ?_
  refine jIf H (fun c10 H=>?_) fun c10 H=>?_
  ·refine J.seq (Zc [2] ?_)
   refine J.ret ?_
   cases H
   exact ⟨_,_,_,Za,⟨rfl,rfl⟩,Zb h6 []⟩
  refine J.skip (Zc [1,5] ?_)
  have h7:=(sOR h6 [0] [0,1,2,3])
  exact ⟨k3,by omega,(w64 (x3+1)),rfl,h7,H⟩
 refine J.exit (J.seq (Zc [2] ?_))
 refine J.ret ?_
 cases H
 exact ⟨_,_,_,Za,⟨rfl,rfl⟩,Zb h6 []⟩

def Q135.f:Option ((Int×Int×Int×Int×Int×Int×Int×Int)):=some (9,200,8,8,16,16,2,1)
theorem Q135.spec   {r:(Int×Int×Int×Int×Int×Int×Int×Int)} (H:Q135.f=some r) :
  Spec Tryz.prog 53 [] [] [] (fun v l=>v=.agg #[.int .i64 r.1,.int .i64 r.2.1,.int .i64 r.2.2.1,.int .i64 r.2.2.2.1,.int .i64 r.2.2.2.2.1,.int .i64 r.2.2.2.2.2.1,.int .i64 r.2.2.2.2.2.2.1,.int .i64 r.2.2.2.2.2.2.2]∧l=[]):=by
 refine Zp Tryz.func53 fun w0 F0 h0=>?_
 unfold Q135.f at H
 refine J.seq (J.region ?_)
 refine Ze (Yq h0) ?_
 rintro _ w1 ⟨b1,rfl,h1⟩
 replace h1:=nf h1
 refine Zi [0] rfl ?_
 refine J.seq (J.region ?_)
 refine Zh 1 ?_
 refine Ze (Z3 0 h1) ?_
 intro _ w2 h2
 replace h2:=nf h2
 refine Zi [0] rfl ?_
 refine J.ret ?_
 cases H
 exact ⟨_,_,_,(Yf rfl (Ym (RV.cell Yu 0 h2 rfl rfl rfl rfl) Xb) rfl),⟨rfl,rfl⟩,Zb h2 []⟩

def Q55.f (a0:Int) (a1:Int):Option (Bool):=if (decide (5≤a0))=true then (if (decide (a0≤65536))=true then (if (decide (1≤a1))=true then (some (decide (a1≤65536))) else (some false)) else (some false)) else (some false)
theorem Q55.spec {a0:Int} {a1:Int}  {r:Bool} (H:Q55.f a0 a1=some r) :
  Spec Tryz.prog 84 [.int .i64 a0,.int .i64 a1] [] [] (fun v l=>v=.bool r∧l=[]):=by
 refine Zp Tryz.func84 fun w0 F0 h0=>?_
 unfold Q55.f at H
 refine J.seq (Zc [0,1] ?_)
 refine J.seq (J.region ?_)
 refine Zh 3 ?_
 refine Z7 7 H (fun c1 H=>?_) fun c1 H=>?_
 ·refine Zh 4 ?_
  refine Z7 11 H (fun c2 H=>?_) fun c2 H=>?_
  ·refine Zh 4 ?_
   refine Z7 15 H (fun c3 H=>?_) fun c3 H=>?_
   ·refine Zi [4] rfl ?_
    refine J.ret ?_
    cases H
    exact ⟨_,_,_,Za,⟨rfl,rfl⟩,Zb h0 []⟩
   refine Zi [4] rfl ?_
   refine J.ret ?_
   cases H
   exact ⟨_,_,_,Za,⟨rfl,rfl⟩,Zb h0 []⟩
  refine Zi [4] rfl ?_
  refine J.ret ?_
  cases H
  exact ⟨_,_,_,Za,⟨rfl,rfl⟩,Zb h0 []⟩
 refine Zi [4] rfl ?_
 refine J.ret ?_
 cases H
 exact ⟨_,_,_,Za,⟨rfl,rfl⟩,Zb h0 []⟩

def Q54.f (a0:Int) (a1:Int):Option (Option (Int×List (Int)×(Int×Int))×Int):=(Q55.f a0 a1).bind fun r1=>(if (!r1)=true then (some (none,2)) else (if 0≤(w64 (a0*a1))∧(w64 (a0*a1))*1≤281474976710656 then (some ((some (a1,(List.replicate ((w64 (a0*a1)).toNat) (0:Int)),(0,0))),0)) else none))
theorem Q54.spec {a0:Int} {a1:Int}  {r:Option (Int×List (Int)×(Int×Int))×Int} (H:Q54.f a0 a1=some r) :
  Spec Tryz.prog 34 [.int .i64 a0,.int .i64 a1] [] [] (fun v l=>∃(pv:Value) (lp:List Ch),OptC r.1 (fun d pv lp=>∃(b_0:Nat) (A_1:Option Addr) (c_1:Nat),pv=.pointer (some ⟨b_0,0,none⟩)∧lp=[Yi b_0 d.1 d.2.1 A_1 c_1 d.2.2.1 d.2.2.2,O5 d.2.1 A_1 c_1]) pv lp∧v=.tuple #[pv,.int .i64 r.2]∧l=lp ++ []):=by
 refine Zp Tryz.func34 fun w0 F0 h0=>?_
 unfold Q54.f at H
 refine J.seq (Zc [0,1] ?_)
 refine J.seq (J.seq (J.region ?_))
 refine Zh 2 ?_
 obtain ⟨r1,q1,H⟩:=Zn H
 refine Ze (Zf [] (Q55.spec q1) h0 rfl Zs) ?_
 rintro _ w1 ⟨_,⟨rfl,rfl⟩,h1⟩
 replace h1:=nf h1
 refine Zi [0,1,9] rfl ?_
 refine jIf H (fun c1 H=>?_) fun c1 H=>?_
 ·refine J.seq (Zc [4,5] ?_)
  refine J.ret ?_
  cases H
  exact ⟨_,_,_,Za,⟨_,_,OptC.no,rfl,rfl⟩,Zb h1 []⟩
 refine J.skip (J.seq (J.region ?_))
 refine Zh 4 ?_
 obtain ⟨⟨p1,p2⟩,H⟩:=Zt H
 refine Ze (Vk Yu (ty:=(.int .u8)) rfl (0:Int) rfl rfl rfl rfl rfl rfl rfl (by decide) h1 p1 p2) ?_
 rintro _ w2 ⟨b1,rfl,h2⟩
 replace h2:=nf h2
 refine Zh 1 ?_
 refine Ze (Ye h2) ?_
 rintro _ w3 ⟨b2,rfl,h3⟩
 replace h3:=nf h3
 refine Zi [4,5] rfl ?_
 refine J.ret ?_
 cases H
 exact ⟨_,_,_,Za,⟨_,_,(OptC.yes ⟨_,_,_,rfl,rfl⟩),rfl,rfl⟩,Zb h3 [0,0]⟩

def Q49.f (a0:Int×Int×Int×Int×Int×Int×Int×Int):Option (Bool):=if (decide (a0.2.2.2.1<8))=true then (some false) else (if (decide (64<a0.2.2.2.1))=true then (some false) else (if (decide (a0.2.2.2.2.1<(w64 (2*a0.2.2.2.1))))=true then (some false) else (if (decide (512<a0.2.2.2.2.1))=true then (some false) else (if (decide (a0.2.2.2.2.2.1<a0.2.2.2.2.1))=true then (some false) else (if (decide (1024<a0.2.2.2.2.2.1))=true then (some false) else (if (decide (a0.2.2.2.2.2.2.1<1))=true then (some false) else (if (decide (64<a0.2.2.2.2.2.2.1))=true then (some false) else (if (decide (a0.2.2.2.2.2.2.2<0))=true then (some false) else (if (decide (256<a0.2.2.2.2.2.2.2))=true then (some false) else (some true))))))))))
theorem Q49.spec {a0:Int×Int×Int×Int×Int×Int×Int×Int}  {r:Bool} (H:Q49.f a0=some r) :
  Spec Tryz.prog 111 [.agg #[.int .i64 a0.1,.int .i64 a0.2.1,.int .i64 a0.2.2.1,.int .i64 a0.2.2.2.1,.int .i64 a0.2.2.2.2.1,.int .i64 a0.2.2.2.2.2.1,.int .i64 a0.2.2.2.2.2.2.1,.int .i64 a0.2.2.2.2.2.2.2]] [] [] (fun v l=>v=.bool r∧l=[]):=by
 refine Zp Tryz.func111 fun w0 F0 h0=>?_
 unfold Q49.f at H
 refine J.seq (J.region ?_)
 refine Ze (Ye h0) ?_
 rintro _ w1 ⟨b1,rfl,h1⟩
 replace h1:=nf h1
 refine Zi [1] rfl ?_
 refine J.seq (J.block (J.seq (J.region ?_)))
 refine Zh 1 ?_
 refine Zg (Zd 0 h1.wht) ?_
 refine Zh 2 ?_
 refine Z7 7 H (fun c1 H=>?_) fun c1 H=>?_
 ·refine Zi [1,3] rfl ?_
  refine Zo ?_
  refine J.skip (J.seq (Zc [2] ?_))
  refine J.ret ?_
  cases H
  exact ⟨_,_,_,Za,⟨rfl,rfl⟩,Zb h1 []⟩
 refine Zh 1 ?_
 refine Zg (Zd 0 h1.wht) ?_
 refine Zi [1,3] rfl ?_
 refine jIf H (fun c2 H=>?_) fun c2 H=>?_
 ·refine J.skip (J.seq (Zc [2] ?_))
  refine J.ret ?_
  cases H
  exact ⟨_,_,_,Za,⟨rfl,rfl⟩,Zb h1 []⟩
 refine J.seq (J.region ?_)
 refine Zh 1 ?_
 refine Zg (Zd 0 h1.wht) ?_
 refine Zh 1 ?_
 refine Zg (Zd 0 h1.wht) ?_
 refine Zh 3 ?_
 refine Z7 19 H (fun c3 H=>?_) fun c3 H=>?_
 ·refine Zi [1,12] rfl ?_
  refine Zo ?_
  refine J.skip (J.seq (Zc [2] ?_))
  refine J.ret ?_
  cases H
  exact ⟨_,_,_,Za,⟨rfl,rfl⟩,Zb h1 []⟩
 refine Zh 1 ?_
 refine Zg (Zd 0 h1.wht) ?_
 refine Zi [1,12] rfl ?_
 refine jIf H (fun c4 H=>?_) fun c4 H=>?_
 ·refine J.skip (J.seq (Zc [2] ?_))
  refine J.ret ?_
  cases H
  exact ⟨_,_,_,Za,⟨rfl,rfl⟩,Zb h1 []⟩
 refine J.seq (J.region ?_)
 refine Zh 1 ?_
 refine Zg (Zd 0 h1.wht) ?_
 refine Zh 1 ?_
 refine Zg (Zd 0 h1.wht) ?_
 refine Zh 2 ?_
 refine Z7 30 H (fun c5 H=>?_) fun c5 H=>?_
 ·refine Zi [1,24] rfl ?_
  refine Zo ?_
  refine J.skip (J.seq (Zc [2] ?_))
  refine J.ret ?_
  cases H
  exact ⟨_,_,_,Za,⟨rfl,rfl⟩,Zb h1 []⟩
 refine Zh 1 ?_
 refine Zg (Zd 0 h1.wht) ?_
 refine Zi [1,24] rfl ?_
 refine jIf H (fun c6 H=>?_) fun c6 H=>?_
 ·refine J.skip (J.seq (Zc [2] ?_))
  refine J.ret ?_
  cases H
  exact ⟨_,_,_,Za,⟨rfl,rfl⟩,Zb h1 []⟩
 refine J.seq (J.region ?_)
 refine Zh 1 ?_
 refine Zg (Zd 0 h1.wht) ?_
 refine Zh 2 ?_
 refine Z7 39 H (fun c7 H=>?_) fun c7 H=>?_
 ·refine Zi [1,35] rfl ?_
  refine Zo ?_
  refine J.skip (J.seq (Zc [2] ?_))
  refine J.ret ?_
  cases H
  exact ⟨_,_,_,Za,⟨rfl,rfl⟩,Zb h1 []⟩
 refine Zh 1 ?_
 refine Zg (Zd 0 h1.wht) ?_
 refine Zi [1,35] rfl ?_
 refine jIf H (fun c8 H=>?_) fun c8 H=>?_
 ·refine J.skip (J.seq (Zc [2] ?_))
  refine J.ret ?_
  cases H
  exact ⟨_,_,_,Za,⟨rfl,rfl⟩,Zb h1 []⟩
 refine J.seq (J.region ?_)
 refine Zh 1 ?_
 refine Zg (Zd 0 h1.wht) ?_
 refine Zh 2 ?_
 refine Z7 48 H (fun c9 H=>?_) fun c9 H=>?_
 ·refine Zi [44] rfl ?_
  refine Zo ?_
  refine J.skip (J.seq (Zc [2] ?_))
  refine J.ret ?_
  cases H
  exact ⟨_,_,_,Za,⟨rfl,rfl⟩,Zb h1 []⟩
 refine Zh 1 ?_
 refine Zg (Zd 0 h1.wht) ?_
 refine Zi [44] rfl ?_
 refine jIf H (fun c10 H=>?_) fun c10 H=>?_
 ·refine J.skip (J.seq (Zc [2] ?_))
  refine J.ret ?_
  cases H
  exact ⟨_,_,_,Za,⟨rfl,rfl⟩,Zb h1 []⟩
 refine J.seq (Zc [2] ?_)
 refine J.ret ?_
 cases H
 exact ⟨_,_,_,Za,⟨rfl,rfl⟩,Zb h1 []⟩

def Q46.f (a0:Int×Int×Int×Int×Int×Int×Int×Int):Option (Int):=(Q49.f a0).bind fun r1=>(if (!r1)=true then (some 0) else (some (w64 ((w64 ((w64 (8+(w64 (4*a0.2.2.2.1))))+(w64 ((w64 (a0.2.2.2.1 - 1))*(w64 (1+a0.2.2.2.2.2.2.1))))))+(w64 (a0.2.2.2.2.1*(w64 ((w64 (4+a0.2.2.2.2.2.2.1))+a0.2.2.2.2.2.2.2))))))))
theorem Q46.spec {a0:Int×Int×Int×Int×Int×Int×Int×Int}  {r:Int} (H:Q46.f a0=some r) :
  Spec Tryz.prog 161 [.agg #[.int .i64 a0.1,.int .i64 a0.2.1,.int .i64 a0.2.2.1,.int .i64 a0.2.2.2.1,.int .i64 a0.2.2.2.2.1,.int .i64 a0.2.2.2.2.2.1,.int .i64 a0.2.2.2.2.2.2.1,.int .i64 a0.2.2.2.2.2.2.2]] [] [] (fun v l=>v=.int .i64 r∧l=[]):=by
 refine Zp Tryz.func161 fun w0 F0 h0=>?_
 unfold Q46.f at H
 refine J.seq (J.region ?_)
 refine Ze (Ye h0) ?_
 rintro _ w1 ⟨b1,rfl,h1⟩
 replace h1:=nf h1
 refine Zi [1] rfl ?_
 refine J.seq (J.seq (J.region ?_))
 refine Zg (Zd 0 h1.wht) ?_
 obtain ⟨r1,q1,H⟩:=Zn H
 refine Ze (Zf [] (Q49.spec q1) h1 rfl Zs) ?_
 rintro _ w2 ⟨_,⟨rfl,rfl⟩,h2⟩
 replace h2:=nf h2
 refine Zi [1,5] rfl ?_
 refine jIf H (fun c1 H=>?_) fun c1 H=>?_
 ·refine J.seq (Zc [2] ?_)
  refine J.ret ?_
  cases H
  exact ⟨_,_,_,Za,⟨rfl,rfl⟩,Zb h2 []⟩
 refine J.skip (J.seq (J.region ?_))
 refine Zh 1 ?_
 refine Zg (Zd 0 h2.wht) ?_
 refine Zh 3 ?_
 refine Zg (Zd 0 h2.wht) ?_
 refine Zh 2 ?_
 refine Zg (Zd 0 h2.wht) ?_
 refine Zh 4 ?_
 refine Zg (Zd 0 h2.wht) ?_
 refine Zh 1 ?_
 refine Zg (Zd 0 h2.wht) ?_
 refine Zh 2 ?_
 refine Zg (Zd 0 h2.wht) ?_
 refine Zi [2] rfl ?_
 refine J.ret ?_
 cases H
 exact ⟨_,_,_,Za,⟨rfl,rfl⟩,Zb h2 []⟩

def Q48.f (a0:Int×Int×Int×Int×Int×Int×Int×Int):Option (Int):=(Q49.f a0).bind fun r1=>(if (!r1)=true then (some 0) else (some (w64 (8+(w64 (a0.2.2.2.2.2.1*(w64 ((w64 (3+a0.2.2.2.2.2.2.1))+a0.2.2.2.2.2.2.2))))))))
theorem Q48.spec {a0:Int×Int×Int×Int×Int×Int×Int×Int}  {r:Int} (H:Q48.f a0=some r) :
  Spec Tryz.prog 162 [.agg #[.int .i64 a0.1,.int .i64 a0.2.1,.int .i64 a0.2.2.1,.int .i64 a0.2.2.2.1,.int .i64 a0.2.2.2.2.1,.int .i64 a0.2.2.2.2.2.1,.int .i64 a0.2.2.2.2.2.2.1,.int .i64 a0.2.2.2.2.2.2.2]] [] [] (fun v l=>v=.int .i64 r∧l=[]):=by
 refine Zp Tryz.func162 fun w0 F0 h0=>?_
 unfold Q48.f at H
 refine J.seq (J.region ?_)
 refine Ze (Ye h0) ?_
 rintro _ w1 ⟨b1,rfl,h1⟩
 replace h1:=nf h1
 refine Zi [1] rfl ?_
 refine J.seq (J.seq (J.region ?_))
 refine Zg (Zd 0 h1.wht) ?_
 obtain ⟨r1,q1,H⟩:=Zn H
 refine Ze (Zf [] (Q49.spec q1) h1 rfl Zs) ?_
 rintro _ w2 ⟨_,⟨rfl,rfl⟩,h2⟩
 replace h2:=nf h2
 refine Zi [1,5] rfl ?_
 refine jIf H (fun c1 H=>?_) fun c1 H=>?_
 ·refine J.seq (Zc [2] ?_)
  refine J.ret ?_
  cases H
  exact ⟨_,_,_,Za,⟨rfl,rfl⟩,Zb h2 []⟩
 refine J.skip (J.seq (J.region ?_))
 refine Zh 1 ?_
 refine Zg (Zd 0 h2.wht) ?_
 refine Zh 1 ?_
 refine Zg (Zd 0 h2.wht) ?_
 refine Zh 2 ?_
 refine Zg (Zd 0 h2.wht) ?_
 refine Zi [2] rfl ?_
 refine J.ret ?_
 cases H
 exact ⟨_,_,_,Za,⟨rfl,rfl⟩,Zb h2 []⟩

def Q47.f (a0:Int×Int×Int×Int×Int×Int×Int×Int):Option ((Int×Int×Int×Int×Int×Int×Int×Int)):=(Q49.f a0).bind fun r1=>(if r1=true then ((Q46.f a0).bind fun r2=>((Q48.f a0).bind fun r3=>(some (a0.1,(if r3>(if r2>(64:Int) then r2 else (64:Int)) then r3 else (if r2>(64:Int) then r2 else (64:Int))),a0.2.2.1,a0.2.2.2.1,a0.2.2.2.2.1,a0.2.2.2.2.2.1,a0.2.2.2.2.2.2.1,a0.2.2.2.2.2.2.2)))) else (some a0))
theorem Q47.spec {a0:Int×Int×Int×Int×Int×Int×Int×Int}  {r:(Int×Int×Int×Int×Int×Int×Int×Int)} (H:Q47.f a0=some r) :
  Spec Tryz.prog 112 [.agg #[.int .i64 a0.1,.int .i64 a0.2.1,.int .i64 a0.2.2.1,.int .i64 a0.2.2.2.1,.int .i64 a0.2.2.2.2.1,.int .i64 a0.2.2.2.2.2.1,.int .i64 a0.2.2.2.2.2.2.1,.int .i64 a0.2.2.2.2.2.2.2]] [] [] (fun v l=>v=.agg #[.int .i64 r.1,.int .i64 r.2.1,.int .i64 r.2.2.1,.int .i64 r.2.2.2.1,.int .i64 r.2.2.2.2.1,.int .i64 r.2.2.2.2.2.1,.int .i64 r.2.2.2.2.2.2.1,.int .i64 r.2.2.2.2.2.2.2]∧l=[]):=by
 refine Zp Tryz.func112 fun w0 F0 h0=>?_
 unfold Q47.f at H
 refine J.seq (J.region ?_)
 refine Ze (Ye h0) ?_
 rintro _ w1 ⟨b1,rfl,h1⟩
 replace h1:=nf h1
 refine Ze (Yq h1) ?_
 rintro _ w2 ⟨b2,rfl,h2⟩
 replace h2:=nf h2
 refine Zi [1,2] rfl ?_
 refine J.seq (J.seq (J.region ?_))
 refine Zg (Zd 1 h2.wht) ?_
 obtain ⟨r1,q1,H⟩:=Zn H
 refine Ze (Zf [] (Q49.spec q1) h2 rfl Zs) ?_
 rintro _ w3 ⟨_,⟨rfl,rfl⟩,h3⟩
 replace h3:=nf h3
 refine Zi [1,2,4] rfl ?_
 refine jIf H (fun c1 H=>?_) fun c1 H=>?_
 ·obtain ⟨r2,q2,H⟩:=Zn H
  obtain ⟨r3,q3,H⟩:=Zn H
  refine J.midS (fun env w=>env=[(1,.pointer (some ⟨b1,0,none⟩)),(2,.pointer (some ⟨b2,0,none⟩))]∧St w0 F0 [X23 b1 a0.1 (if r3>(if r2>(64:Int) then r2 else (64:Int)) then r3 else (if r2>(64:Int) then r2 else (64:Int))) a0.2.2.1 a0.2.2.2.1 a0.2.2.2.2.1 a0.2.2.2.2.2.1 a0.2.2.2.2.2.2.1 a0.2.2.2.2.2.2.2,X23 b2 0 0 0 0 0 0 0 0] [] w) ?_ ?_
  ·refine Zv (Zb h3 [0]) ?_
   have h7:=h3.drew
   refine HJ.pick [0,2] (i:=0) rfl rfl rfl rfl ?_
   refine (Yc ?_ (Yc ?_ Xa))
   ·refine Z5 0 rfl (OpT.ofq (Zd 1 h7.wht)) ?_
    rintro _ _ ⟨rfl,rfl⟩
    replace h7:=nf h7
    refine ⟨⟨[_],(Zb h7 [1,0])⟩,?_⟩
    refine HJ.pick [1,2] (i:=1) rfl rfl rfl rfl ?_
    refine (Yc ?_ (Yc ?_ Xa))
    ·refine Z5 1 rfl (Zf [] (Q46.spec q2) h7 rfl Zs) ?_
     rintro _ w10 ⟨_,⟨rfl,rfl⟩,h8⟩
     replace h8:=nf h8
     refine ⟨⟨[_],(Zb h8 [1,0])⟩,?_⟩
     refine Zq 2 rfl (OpT.ofq (Zd 1 h8.wht)) ?_
     rintro _ _ ⟨rfl,rfl⟩
     replace h8:=nf h8
     refine ⟨⟨[_],(Zb h8 [1,0])⟩,?_⟩
     refine Zq 3 rfl (Zf [] (Q48.spec q3) h8 rfl Zs) ?_
     rintro _ w12 ⟨_,⟨rfl,rfl⟩,h9⟩
     replace h9:=nf h9
     refine ⟨⟨[_],(Zb h9 [1,0])⟩,?_⟩
     refine Zj 4 rfl Vq ?_
     refine Zu [5] ?_
     refine Zq 6 rfl (Z3 1 h9) ?_
     intro _ w13 h10
     replace h10:=nf h10
     refine ⟨⟨[_],h10⟩,?_⟩
     refine Zw [1,2] ?_
     exact Z2 ⟨rfl,(sOR h10 [0,0] [])⟩
    ·refine Z5 2 rfl (OpT.ofq (Zd 1 h7.wht)) ?_
     rintro _ _ ⟨rfl,rfl⟩
     replace h7:=nf h7
     refine ⟨⟨[_],(Zb h7 [1,0])⟩,?_⟩
     refine Zq 1 rfl (Zf [] (Q46.spec q2) h7 rfl Zs) ?_
     rintro _ w15 ⟨_,⟨rfl,rfl⟩,h11⟩
     replace h11:=nf h11
     refine ⟨⟨[_],(Zb h11 [1,0])⟩,?_⟩
     refine Zq 3 rfl (Zf [] (Q48.spec q3) h11 rfl Zs) ?_
     rintro _ w16 ⟨_,⟨rfl,rfl⟩,h12⟩
     replace h12:=nf h12
     refine ⟨⟨[_],(Zb h12 [1,0])⟩,?_⟩
     refine Zj 4 rfl Vq ?_
     refine Zu [5] ?_
     refine Zq 6 rfl (Z3 1 h12) ?_
     intro _ w17 h13
     replace h13:=nf h13
     refine ⟨⟨[_],h13⟩,?_⟩
     refine Zw [1,2] ?_
     exact Z2 ⟨rfl,(sOR h13 [0,0] [])⟩
   ·refine Z5 2 rfl (OpT.ofq (Zd 1 h7.wht)) ?_
    rintro _ _ ⟨rfl,rfl⟩
    replace h7:=nf h7
    refine ⟨⟨[_],(Zb h7 [1,0])⟩,?_⟩
    refine Zq 0 rfl (OpT.ofq (Zd 1 h7.wht)) ?_
    rintro _ _ ⟨rfl,rfl⟩
    replace h7:=nf h7
    refine ⟨⟨[_],(Zb h7 [1,0])⟩,?_⟩
    refine Zq 1 rfl (Zf [] (Q46.spec q2) h7 rfl Zs) ?_
    rintro _ w20 ⟨_,⟨rfl,rfl⟩,h14⟩
    replace h14:=nf h14
    refine ⟨⟨[_],(Zb h14 [1,0])⟩,?_⟩
    refine Zq 3 rfl (Zf [] (Q48.spec q3) h14 rfl Zs) ?_
    rintro _ w21 ⟨_,⟨rfl,rfl⟩,h15⟩
    replace h15:=nf h15
    refine ⟨⟨[_],(Zb h15 [1,0])⟩,?_⟩
    refine Zj 4 rfl Vq ?_
    refine Zu [5] ?_
    refine Zq 6 rfl (Z3 1 h15) ?_
    intro _ w22 h16
    replace h16:=nf h16
    refine ⟨⟨[_],h16⟩,?_⟩
    refine Zw [1,2] ?_
    exact Z2 ⟨rfl,(sOR h16 [0,0] [])⟩
  rintro env w23 ⟨rfl,h17⟩
  refine J.seq (J.region ?_)
  refine Zg (Zd 0 h17.wht) ?_
  refine Ze (Z3 1 h17) ?_
  intro _ w24 h18
  replace h18:=nf h18
  refine Zi [2] rfl ?_
  refine J.ret ?_
  cases H
  exact ⟨_,_,_,(Yf rfl (Ym (RV.cell Yu 0 h18 rfl rfl rfl rfl) Xb) rfl),⟨rfl,rfl⟩,Zb h18 []⟩
 refine J.skip (J.seq (J.region ?_))
 refine Zg (Zd 1 h3.wht) ?_
 refine Ze (Z3 0 h3) ?_
 intro _ w25 h19
 replace h19:=nf h19
 refine Zi [2] rfl ?_
 refine J.ret ?_
 cases H
 exact ⟨_,_,_,(Yf rfl (Ym (RV.cell Yu 0 h19 rfl rfl rfl rfl) Xb) rfl),⟨rfl,rfl⟩,Zb h19 []⟩

def Q45.f (a0:Int×Int×Int×Int×Int×Int×Int×Int):Option (Int):=(Q49.f a0).bind fun r1=>(if r1=true then (if (decide (5≤a0.1))=true then (if (decide (a0.1≤65536))=true then (if (decide (8≤a0.2.2.1))=true then (if (!(decide (a0.2.2.1≤64)))=true then (some 2) else (if (decide (65536<a0.2.1))=true then (some 2) else ((Q47.f a0).bind fun r2=>(if (decide (a0.2.1<r2.2.1))=true then (some 2) else (some 0))))) else (some 2)) else (some 2)) else (some 2)) else (some 2))
theorem Q45.spec {a0:Int×Int×Int×Int×Int×Int×Int×Int}  {r:Int} (H:Q45.f a0=some r) :
  Spec Tryz.prog 64 [.agg #[.int .i64 a0.1,.int .i64 a0.2.1,.int .i64 a0.2.2.1,.int .i64 a0.2.2.2.1,.int .i64 a0.2.2.2.2.1,.int .i64 a0.2.2.2.2.2.1,.int .i64 a0.2.2.2.2.2.2.1,.int .i64 a0.2.2.2.2.2.2.2]] [] [] (fun v l=>v=.int .i64 r∧l=[]):=by
 refine Zp Tryz.func64 fun w0 F0 h0=>?_
 unfold Q45.f at H
 refine J.seq (J.region ?_)
 refine Ze (Ye h0) ?_
 rintro _ w1 ⟨b1,rfl,h1⟩
 replace h1:=nf h1
 refine Zi [1] rfl ?_
 refine J.seq (J.region ?_)
 refine Zg (Zd 0 h1.wht) ?_
 obtain ⟨r1,q1,H⟩:=Zn H
 refine Ze (Zf [] (Q49.spec q1) h1 rfl Zs) ?_
 rintro _ w2 ⟨_,⟨rfl,rfl⟩,h2⟩
 replace h2:=nf h2
 refine Zh 1 ?_
 refine Z7 6 H (fun c1 H=>?_) fun c1 H=>?_
 ·refine Zh 1 ?_
  refine Zg (Zd 0 h2.wht) ?_
  refine Zh 3 ?_
  refine Z7 11 H (fun c2 H=>?_) fun c2 H=>?_
  ·refine Zh 1 ?_
   refine Zg (Zd 0 h2.wht) ?_
   refine Zh 3 ?_
   refine Z7 16 H (fun c3 H=>?_) fun c3 H=>?_
   ·refine Zh 1 ?_
    refine Zg (Zd 0 h2.wht) ?_
    refine Zh 3 ?_
    refine Z7 21 H (fun c4 H=>?_) fun c4 H=>?_
    ·refine Zh 1 ?_
     refine Zg (Zd 0 h2.wht) ?_
     refine Zi [1,3] rfl ?_
     refine J.seq (J.seq ?_)
     refine Zv h2 ?_
     have h3:=h2.drew
     refine Zu [0,1,2] ?_
     refine Yh 28 H (fun c5 H=>?_) fun c5 H=>?_
     ·refine Zu [3,4,5,6,7,8,9,10,11,12,13,14] ?_
      refine Zw [40] ?_
      refine Zo ?_
      refine J.seq (Zc [2] ?_)
      refine J.ret ?_
      cases H
      exact ⟨_,_,_,Za,⟨rfl,rfl⟩,Zb h3 []⟩
     refine Zu [3] ?_
     refine Zj 4 rfl (Zd 0 wI) ?_
     refine Zu [5,6,7] ?_
     refine Yh 33 H (fun c6 H=>?_) fun c6 H=>?_
     ·refine Zu [8,9,10,11,12,13,14] ?_
      refine Zw [40] ?_
      refine Zo ?_
      refine J.seq (Zc [2] ?_)
      refine J.ret ?_
      cases H
      exact ⟨_,_,_,Za,⟨rfl,rfl⟩,Zb h3 []⟩
     refine Zu [8] ?_
     refine Zj 9 rfl (Zd 0 wI) ?_
     refine Zj 10 rfl (Zd 0 wI) ?_
     obtain ⟨r2,q2,H⟩:=Zn H
     refine Zq 11 rfl (Zf [] (Q47.spec q2) h3 rfl Zs) ?_
     rintro _ w3 ⟨_,⟨rfl,rfl⟩,h4⟩
     replace h4:=nf h4
     refine ⟨⟨[],h4⟩,?_⟩
     refine Zu [12,13,14] ?_
     refine Zw [40] ?_
     refine jIf H (fun c7 H=>?_) fun c7 H=>?_
     ·refine J.seq (Zc [2] ?_)
      refine J.ret ?_
      cases H
      exact ⟨_,_,_,Za,⟨rfl,rfl⟩,Zb h4 []⟩
     refine J.skip (J.seq (Zc [2] ?_))
     refine J.ret ?_
     cases H
     exact ⟨_,_,_,Za,⟨rfl,rfl⟩,Zb h4 []⟩
    refine Zi [1,3] rfl ?_
    refine J.seq (J.seq ?_)
    refine Zv h2 ?_
    have h5:=h2.drew
    refine Zu [0,1,2,3,4,5,6,7,8,9,10,11,12,13,14] ?_
    refine Zw [40] ?_
    refine Zo ?_
    refine J.seq (Zc [2] ?_)
    refine J.ret ?_
    cases H
    exact ⟨_,_,_,Za,⟨rfl,rfl⟩,Zb h5 []⟩
   refine Zi [1,3] rfl ?_
   refine J.seq (J.seq ?_)
   refine Zv h2 ?_
   have h6:=h2.drew
   refine Zu [0,1,2,3,4,5,6,7,8,9,10,11,12,13,14] ?_
   refine Zw [40] ?_
   refine Zo ?_
   refine J.seq (Zc [2] ?_)
   refine J.ret ?_
   cases H
   exact ⟨_,_,_,Za,⟨rfl,rfl⟩,Zb h6 []⟩
  refine Zi [1,3] rfl ?_
  refine J.seq (J.seq ?_)
  refine Zv h2 ?_
  have h7:=h2.drew
  refine Zu [0,1,2,3,4,5,6,7,8,9,10,11,12,13,14] ?_
  refine Zw [40] ?_
  refine Zo ?_
  refine J.seq (Zc [2] ?_)
  refine J.ret ?_
  cases H
  exact ⟨_,_,_,Za,⟨rfl,rfl⟩,Zb h7 []⟩
 refine Zi [1,3] rfl ?_
 refine J.seq (J.seq ?_)
 refine Zv h2 ?_
 have h8:=h2.drew
 refine Zu [0,1,2,3,4,5,6,7,8,9,10,11,12,13,14] ?_
 refine Zw [40] ?_
 refine Zo ?_
 refine J.seq (Zc [2] ?_)
 refine J.ret ?_
 cases H
 exact ⟨_,_,_,Za,⟨rfl,rfl⟩,Zb h8 []⟩

def Q80.f (a0:Int×Int×Int×Int×Int×Int×Int×Int):Option (Option ((Int×Int×Int×Int×Int×Int×Int×Int)×((Int×List (Int)×(Int×Int))×(List (Int×List (Int)×Bool×Int))×(List (Int×Int))×List (Int)×((List (Int×Int×Bool))×Int))×((Int×Int×List (Int)))×Int)×Int):=(Q45.f a0).bind fun r1=>(if (!decide (r1=0))=true then (some (none,r1)) else (some (none,1)))
theorem Q80.spec {a0:Int×Int×Int×Int×Int×Int×Int×Int}  {r:Option ((Int×Int×Int×Int×Int×Int×Int×Int)×((Int×List (Int)×(Int×Int))×(List (Int×List (Int)×Bool×Int))×(List (Int×Int))×List (Int)×((List (Int×Int×Bool))×Int))×((Int×Int×List (Int)))×Int)×Int} (H:Q80.f a0=some r) :
  Spec Tryz.prog 35 [.agg #[.int .i64 a0.1,.int .i64 a0.2.1,.int .i64 a0.2.2.1,.int .i64 a0.2.2.2.1,.int .i64 a0.2.2.2.2.1,.int .i64 a0.2.2.2.2.2.1,.int .i64 a0.2.2.2.2.2.2.1,.int .i64 a0.2.2.2.2.2.2.2],.pointer none] [] [] (fun v l=>∃(pv:Value) (lp:List Ch),OptC r.1 (fun d pv lp=>∃(b_0:Nat) (b_1:Nat) (b_2:Nat) (A_3:Option Addr) (c_3:Nat) (A_4:Option Addr) (c_4:Nat) (b_5:Nat) (A_6:Option Addr) (c_6:Nat) (b_7:Nat) (A_8:Option Addr) (c_8:Nat) (b_9:Nat) (b_10:Nat) (A_11:Option Addr) (c_11:Nat),pv=.pointer (some ⟨b_0,0,none⟩)∧lp=[X83 b_0 d.1.1 d.1.2.1 d.1.2.2.1 d.1.2.2.2.1 d.1.2.2.2.2.1 d.1.2.2.2.2.2.1 d.1.2.2.2.2.2.2.1 d.1.2.2.2.2.2.2.2 (.pointer (some ⟨b_2,0,none⟩)) (.pointer (some ⟨b_1,0,none⟩)) (.pointer (some ⟨b_9,0,none⟩)) d.2.2.2,Yp b_1 (.pointer (some ⟨b_2,0,none⟩)) d.2.1.2.1 A_4 c_4 (.map (some b_5)) d.2.1.2.2.2.1 A_6 c_6 (.pointer (some ⟨b_7,0,none⟩)),Yi b_2 d.2.1.1.1 d.2.1.1.2.1 A_3 c_3 d.2.1.1.2.2.1 d.2.1.1.2.2.2,O5 d.2.1.1.2.1 A_3 c_3,Yo d.2.1.2.1 A_4 c_4,Yj .u32 (Value.int .i64) b_5 d.2.1.2.2.1,O3 d.2.1.2.2.2.1 A_6 c_6,Ya b_7 d.2.1.2.2.2.2.1 A_8 c_8 d.2.1.2.2.2.2.2,Yb d.2.1.2.2.2.2.1 A_8 c_8,Xd b_9 (.pointer (some ⟨b_10,0,none⟩)),Yl b_10 d.2.2.1.1 d.2.2.1.2.1 d.2.2.1.2.2 A_11 c_11,O61 d.2.2.1.2.2 A_11 c_11]) pv lp∧v=.tuple #[pv,.int .i64 r.2]∧l=lp ++ []):=by
 refine Zp Tryz.func35 fun w0 F0 h0=>?_
 unfold Q80.f at H
 refine J.seq (J.region ?_)
 refine Ze (Ye h0) ?_
 rintro _ w1 ⟨b1,rfl,h1⟩
 replace h1:=nf h1
 refine Zi [1,2] rfl ?_
 refine J.seq (J.seq (J.region ?_))
 refine Zg (Zd 0 h1.wht) ?_
 obtain ⟨r1,q1,H⟩:=Zn H
 refine Ze (Zf [] (Q45.spec q1) h1 rfl Zs) ?_
 rintro _ w2 ⟨_,⟨rfl,rfl⟩,h2⟩
 replace h2:=nf h2
 refine Zi [1,2,6] rfl ?_
 refine J.seq (Zc [1,2,6,13] ?_)
 refine jIf H (fun c1 H=>?_) fun c1 H=>?_
 ·refine J.seq (Zc [4,5] ?_)
  refine J.ret ?_
  cases H
  exact ⟨_,_,_,Za,⟨_,_,OptC.no,rfl,rfl⟩,Zb h2 []⟩
 refine J.skip (J.seq (J.region ?_))
 refine Zh 2 ?_
 refine Zg (Zd 0 h2.wht) ?_
 refine Z1 Tryz.func85 ?_
 refine J.seq (Zc [0,1] ?_)
 refine J.seq (J.block (J.seq (J.region ?_)))
 refine Zh 1 ?_
 refine Z1 Tryz.func37 ?_
 refine J.seq (Zc [0] ?_)
 refine J.seq (J.seq (Zc [0,11] ?_))
 refine Zo ?_
 refine J.seq (Zc [2] ?_)
 refine J.ret (⟨_,Za,?_⟩)
 refine Zi [0,1,10] rfl ?_
 refine Zo ?_
 refine J.seq (Zc [4,5] ?_)
 refine J.ret (⟨_,Za,?_⟩)
 refine Zi [1,2,7,8] rfl ?_
 refine J.seq (J.seq (Zc [1,2,7,8,23] ?_))
 refine Zo ?_
 refine J.seq (Zc [4,5] ?_)
 refine J.ret ?_
 cases H
 exact ⟨_,_,_,Za,⟨_,_,OptC.no,rfl,rfl⟩,Zb h2 []⟩

def Q50.f (a0:Int×List (Int)×(Int×Int)):Option (Int):=if (decide (a0.1=0))=true then (some 0) else (if 0<a0.1 then (some (w64 (Int.tdiv (a0.2.1.length:Int) a0.1))) else none)
theorem Q50.spec {a0:Int×List (Int)×(Int×Int)} {b1:Nat} {A1:Option Addr} {c_1:Nat} {r:Int} (H:Q50.f a0=some r) :
  Spec Tryz.prog 37 [.pointer (some ⟨b1,0,none⟩)] [Yi b1 a0.1 a0.2.1 A1 c_1 a0.2.2.1 a0.2.2.2,O5 a0.2.1 A1 c_1] [] (fun v l=>v=.int .i64 r∧l=[Yi b1 a0.1 a0.2.1 A1 c_1 a0.2.2.1 a0.2.2.2,O5 a0.2.1 A1 c_1]):=by
 refine Zp Tryz.func37 fun w0 F0 h0=>?_
 unfold Q50.f at H
 refine J.seq (Zc [0] ?_)
 refine J.seq (J.seq (J.region ?_))
 refine Zh 6 ?_
 refine Zg (Zd 0 h0.wht) ?_
 refine Zi [0,11] rfl ?_
 refine jIf H (fun c1 H=>?_) fun c1 H=>?_
 ·refine J.seq (Zc [2] ?_)
  refine J.ret ?_
  cases H
  exact ⟨_,_,_,Za,⟨rfl,rfl⟩,Zb h0 [0,0]⟩
 refine J.skip (J.seq (Zv h0 ?_))
 have h1:=h0.drew
 refine Zu [0,1,2,5,6,7] ?_
 refine Zj 3 rfl (Zd 0 wI) ?_
 refine Zu [4] ?_
 refine Zj 8 rfl (Zd 0 wI) ?_
 obtain ⟨p1,H⟩:=Zt H
 refine Zj 9 rfl (Zav p1) ?_
 refine Zu [10] ?_
 refine Zw [2] ?_
 refine J.ret ?_
 cases H
 exact ⟨_,_,_,Za,⟨rfl,rfl⟩,Zb h1 [0,0]⟩

def Q31.f (a0:Int):Option (Option ((List (Int×Int×Bool))×Int)×Int):=if (decide (a0<1))=true then (some (none,2)) else (if (decide (4096<a0))=true then (some (none,2)) else (if 0≤(w64 (a0+1))∧(w64 (a0+1))*24≤281474976710656 then (if 0≤a0∧a0<((List.replicate ((w64 (a0+1)).toNat) ((0,0,false):Int×Int×Bool)).length:Int) then (some ((some (((List.replicate ((w64 (a0+1)).toNat) ((0,0,false):Int×Int×Bool)).set a0.toNat (a0,a0,false)),0)),0)) else none) else none))
theorem Q31.spec {a0:Int}  {r:Option ((List (Int×Int×Bool))×Int)×Int} (H:Q31.f a0=some r) :
  Spec Tryz.prog 135 [.int .i64 a0] [] [] (fun v l=>∃(pv:Value) (lp:List Ch),OptC r.1 (fun d pv lp=>∃(b_0:Nat) (A_1:Option Addr) (c_1:Nat),pv=.pointer (some ⟨b_0,0,none⟩)∧lp=[Ya b_0 d.1 A_1 c_1 d.2,Yb d.1 A_1 c_1]) pv lp∧v=.tuple #[pv,.int .i64 r.2]∧l=lp ++ []):=by
 refine Zp Tryz.func135 fun w0 F0 h0=>?_
 unfold Q31.f at H
 refine J.seq (Zc [0] ?_)
 refine J.seq (J.seq (J.region ?_))
 refine Zh 3 ?_
 refine Z7 7 H (fun c1 H=>?_) fun c1 H=>?_
 ·refine Zi [0,10] rfl ?_
  refine Zo ?_
  refine J.seq (Zc [2,3] ?_)
  refine J.ret ?_
  cases H
  exact ⟨_,_,_,Za,⟨_,_,OptC.no,rfl,rfl⟩,Zb h0 []⟩
 refine Zi [0,10] rfl ?_
 refine jIf H (fun c2 H=>?_) fun c2 H=>?_
 ·refine J.seq (Zc [2,3] ?_)
  refine J.ret ?_
  cases H
  exact ⟨_,_,_,Za,⟨_,_,OptC.no,rfl,rfl⟩,Zb h0 []⟩
 refine J.skip (J.seq (J.region ?_))
 refine Zh 2 ?_
 obtain ⟨⟨p1,p2⟩,H⟩:=Zt H
 refine Ze (Vk Yu (ty:=(.pair (.int .i64) (.pair (.int .i64) .bool))) rfl ((0,0,false):Int×Int×Bool) rfl rfl rfl rfl rfl rfl rfl (by decide) h0 p1 p2) ?_
 rintro _ w1 ⟨b1,rfl,h1⟩
 replace h1:=nf h1
 refine Zh 1 ?_
 refine Ze (Ye h1) ?_
 rintro _ w2 ⟨b2,rfl,h2⟩
 replace h2:=nf h2
 refine Zi [0,4] rfl ?_
 refine J.seq (J.region ?_)
 refine Zh 3 ?_
 refine Zg (Zd 0 h2.wht) ?_
 refine Zh 4 ?_
 obtain ⟨⟨p3,p4⟩,H⟩:=Zt H
 have e1:=Z6 h2.wh (gO 1) p3 p4
 refine Zg (Zk e1 p3 p4) ?_
 refine Ze (Zr 0 (.pair (.int .i64) (.pair (.int .i64) .bool)) a0 (a0,a0,false) 1 h2 rfl p3 p4) ?_
 intro _ w3 h3
 replace h3:=nf h3
 replace h3:St w0 F0 [Yb ((List.replicate ((w64 (a0+1)).toNat) ((0,0,false):Int×Int×Bool)).set a0.toNat (a0,a0,false)) (some ⟨b1,0,none⟩) ((w64 (a0+1)).toNat),Ya b2 ((List.replicate ((w64 (a0+1)).toNat) ((0,0,false):Int×Int×Bool)).set a0.toNat (a0,a0,false)) (some ⟨b1,0,none⟩) ((w64 (a0+1)).toNat) 0] _ _:=h3.retell (by simp only [List.length_set,List.length_nil,Yb,Ya] <;> rfl)
 refine Zi [4] rfl ?_
 refine J.seq (Zc [2,3] ?_)
 refine J.ret ?_
 cases H
 exact ⟨_,_,_,Za,⟨_,_,(OptC.yes ⟨_,_,_,rfl,rfl⟩),rfl,rfl⟩,Zb h3 [1,0]⟩

def Q51.f (a0:Int×List (Int)×(Int×Int)):Option (Int):=some a0.1
theorem Q51.spec {a0:Int×List (Int)×(Int×Int)} {b1:Nat} {A1:Option Addr} {c_1:Nat} {r:Int} (H:Q51.f a0=some r) :
  Spec Tryz.prog 38 [.pointer (some ⟨b1,0,none⟩)] [Yi b1 a0.1 a0.2.1 A1 c_1 a0.2.2.1 a0.2.2.2,O5 a0.2.1 A1 c_1] [] (fun v l=>v=.int .i64 r∧l=[Yi b1 a0.1 a0.2.1 A1 c_1 a0.2.2.1 a0.2.2.2,O5 a0.2.1 A1 c_1]):=by
 refine Zp Tryz.func38 fun w0 F0 h0=>?_
 unfold Q51.f at H
 refine J.seq (Zc [0] ?_)
 refine J.seq (J.seq (Zc [0,4] ?_))
 refine Zz ?_
 refine J.skip (J.seq (J.region ?_))
 refine Zh 3 ?_
 refine Zg (Zd 0 h0.wht) ?_
 refine Zi [2] rfl ?_
 refine J.ret ?_
 cases H
 exact ⟨_,_,_,Za,⟨rfl,rfl⟩,Zb h0 [0,0]⟩

def Q2.f (a0:Int):Option (Option (Int×Int×List (Int))×Int):=if (decide (a0<1))=true then (some (none,2)) else (if (decide (65536<a0))=true then (some (none,2)) else (if 0≤(w64 (Int.tdiv (w64 ((w64 (a0+64)) - 1)) 64))∧(w64 (Int.tdiv (w64 ((w64 (a0+64)) - 1)) 64))*8≤281474976710656 then (some ((some (a0,0,(List.replicate ((w64 (Int.tdiv (w64 ((w64 (a0+64)) - 1)) 64)).toNat) (0:Int)))),0)) else none))
theorem Q2.spec {a0:Int}  {r:Option (Int×Int×List (Int))×Int} (H:Q2.f a0=some r) :
  Spec Tryz.prog 136 [.int .i64 a0] [] [] (fun v l=>∃(pv:Value) (lp:List Ch),OptC r.1 (fun d pv lp=>∃(b_0:Nat) (A_1:Option Addr) (c_1:Nat),pv=.pointer (some ⟨b_0,0,none⟩)∧lp=[Yl b_0 d.1 d.2.1 d.2.2 A_1 c_1,O61 d.2.2 A_1 c_1]) pv lp∧v=.tuple #[pv,.int .i64 r.2]∧l=lp ++ []):=by
 refine Zp Tryz.func136 fun w0 F0 h0=>?_
 unfold Q2.f at H
 refine J.seq (Zc [0] ?_)
 refine J.seq (J.seq (J.region ?_))
 refine Zh 3 ?_
 refine Z7 6 H (fun c1 H=>?_) fun c1 H=>?_
 ·refine Zi [0,9] rfl ?_
  refine Zo ?_
  refine J.seq (Zc [2,3] ?_)
  refine J.ret ?_
  cases H
  exact ⟨_,_,_,Za,⟨_,_,OptC.no,rfl,rfl⟩,Zb h0 []⟩
 refine Zi [0,9] rfl ?_
 refine jIf H (fun c2 H=>?_) fun c2 H=>?_
 ·refine J.seq (Zc [2,3] ?_)
  refine J.ret ?_
  cases H
  exact ⟨_,_,_,Za,⟨_,_,OptC.no,rfl,rfl⟩,Zb h0 []⟩
 refine J.skip (J.seq (J.region ?_))
 refine Zh 5 ?_
 obtain ⟨⟨p1,p2⟩,H⟩:=Zt H
 refine Ze (Vk Yu (ty:=(.int .u64)) rfl (0:Int) rfl rfl rfl rfl rfl rfl rfl (by decide) h0 p1 p2) ?_
 rintro _ w1 ⟨b1,rfl,h1⟩
 replace h1:=nf h1
 refine Zh 1 ?_
 refine Ze (Ye h1) ?_
 rintro _ w2 ⟨b2,rfl,h2⟩
 replace h2:=nf h2
 refine Zi [2,3] rfl ?_
 refine J.ret ?_
 cases H
 exact ⟨_,_,_,Za,⟨_,_,(OptC.yes ⟨_,_,_,rfl,rfl⟩),rfl,rfl⟩,Zb h2 [0,0]⟩

def Q7.f (a0:Int×Int×List (Int)):Option (Int):=some a0.1
theorem Q7.spec {a0:Int×Int×List (Int)} {b1:Nat} {A1:Option Addr} {c_1:Nat} {r:Int} (H:Q7.f a0=some r) :
  Spec Tryz.prog 131 [.pointer (some ⟨b1,0,none⟩)] [Yl b1 a0.1 a0.2.1 a0.2.2 A1 c_1,O61 a0.2.2 A1 c_1] [] (fun v l=>v=.int .i64 r∧l=[Yl b1 a0.1 a0.2.1 a0.2.2 A1 c_1,O61 a0.2.2 A1 c_1]):=by
 refine Zp Tryz.func131 fun w0 F0 h0=>?_
 unfold Q7.f at H
 refine J.seq (Zc [0] ?_)
 refine J.seq (J.seq (Zc [0,4] ?_))
 refine Zz ?_
 refine J.skip (J.seq (J.region ?_))
 refine Zh 3 ?_
 refine Zg (Zd 0 h0.wht) ?_
 refine Zi [2] rfl ?_
 refine J.ret ?_
 cases H
 exact ⟨_,_,_,Za,⟨rfl,rfl⟩,Zb h0 [0,0]⟩

def Q10.f (a0:Int×Int×List (Int)) (a1:Int):Option (Int):=(Q7.f a0).bind fun r1=>(if (decide (r1=0))=true then (some 1) else (if (decide (a1<0))=true then (some 4) else (if (decide (a0.1≤a1))=true then (some 4) else (some 0))))
theorem Q10.spec {a0:Int×Int×List (Int)} {a1:Int} {b1:Nat} {A1:Option Addr} {c_1:Nat} {r:Int} (H:Q10.f a0 a1=some r) :
  Spec Tryz.prog 178 [.pointer (some ⟨b1,0,none⟩),.int .i64 a1] [Yl b1 a0.1 a0.2.1 a0.2.2 A1 c_1,O61 a0.2.2 A1 c_1] [] (fun v l=>v=.int .i64 r∧l=[Yl b1 a0.1 a0.2.1 a0.2.2 A1 c_1,O61 a0.2.2 A1 c_1]):=by
 refine Zp Tryz.func178 fun w0 F0 h0=>?_
 unfold Q10.f at H
 refine J.seq (Zc [0,1] ?_)
 refine J.seq (J.block (J.seq (J.region ?_)))
 refine Zh 1 ?_
 obtain ⟨r1,q1,H⟩:=Zn H
 refine Ze (Zf [0,0] (Q7.spec q1) h0 rfl Zs) ?_
 rintro _ w1 ⟨_,⟨rfl,rfl⟩,h1⟩
 replace h1:=nf h1
 refine Zi [0,1,5] rfl ?_
 refine jIf H (fun c1 H=>?_) fun c1 H=>?_
 ·refine J.seq (Zc [4] ?_)
  refine J.ret ?_
  cases H
  exact ⟨_,_,_,Za,⟨rfl,rfl⟩,Zb h1 [0,0]⟩
 refine J.seq (J.region ?_)
 refine Zh 3 ?_
 refine Z7 12 H (fun c2 H=>?_) fun c2 H=>?_
 ·refine Zi [9] rfl ?_
  refine Zo ?_
  refine J.seq (Zc [4] ?_)
  refine J.ret ?_
  cases H
  exact ⟨_,_,_,Za,⟨rfl,rfl⟩,Zb h1 [0,0]⟩
 refine Zh 4 ?_
 refine Zg (Zd 0 h1.wht) ?_
 refine Zi [9] rfl ?_
 refine jIf H (fun c3 H=>?_) fun c3 H=>?_
 ·refine J.seq (Zc [4] ?_)
  refine J.ret ?_
  cases H
  exact ⟨_,_,_,Za,⟨rfl,rfl⟩,Zb h1 [0,0]⟩
 refine J.skip (J.seq (Zc [4] ?_))
 refine J.ret ?_
 cases H
 exact ⟨_,_,_,Za,⟨rfl,rfl⟩,Zb h1 [0,0]⟩

def Q6.f (a0:Int×Int×List (Int)) (a1:Int):Option (Bool):=(Q10.f a0 a1).bind fun r1=>(if (decide (r1=0))=true then (if 0≤(w64 (Int.tdiv a1 64))∧(w64 (Int.tdiv a1 64))<(a0.2.2.length:Int) then (if 0≤(Int.tmod a1 64) then (some (decide ((IntKind.u64.wrap (((BitVec.ofInt IntKind.u64.bits (Int.fdiv (gt a0.2.2 (w64 (Int.tdiv a1 64))) (2 ^ (min (Int.tmod a1 64).toNat 64))) &&& (BitVec.ofInt IntKind.u64.bits 1)).toNat:Int)))=1))) else none) else none) else (some false))
theorem Q6.spec {a0:Int×Int×List (Int)} {a1:Int} {b1:Nat} {A1:Option Addr} {c_1:Nat} {r:Bool} (H:Q6.f a0 a1=some r) :
  Spec Tryz.prog 134 [.pointer (some ⟨b1,0,none⟩),.int .i64 a1] [Yl b1 a0.1 a0.2.1 a0.2.2 A1 c_1,O61 a0.2.2 A1 c_1] [] (fun v l=>v=.bool r∧l=[Yl b1 a0.1 a0.2.1 a0.2.2 A1 c_1,O61 a0.2.2 A1 c_1]):=by
 refine Zp Tryz.func134 fun w0 F0 h0=>?_
 unfold Q6.f at H
 refine J.seq (Zc [0,1] ?_)
 refine J.seq (J.region ?_)
 refine Zh 2 ?_
 obtain ⟨r1,q1,H⟩:=Zn H
 refine Ze (Zf [0,0] (Q10.spec q1) h0 rfl Zs) ?_
 rintro _ w1 ⟨_,⟨rfl,rfl⟩,h1⟩
 replace h1:=nf h1
 refine Zh 2 ?_
 refine Z7 9 H (fun c1 H=>?_) fun c1 H=>?_
 ·refine Zh 3 ?_
  refine Zg (Zd 0 h1.wht) ?_
  refine Zh 2 ?_
  obtain ⟨⟨p1,p2⟩,H⟩:=Zt H
  have e1:=Z6 h1.wh (gO 1) p1 p2
  refine Zg (Zk e1 p1 p2) ?_
  refine Zg (Zl 0 h1.wht (gO 1) p1 p2) ?_
  refine Zh 2 ?_
  obtain ⟨p3,H⟩:=Zt H
  refine Zg (Ju p3) ?_
  refine Zi [4] rfl ?_
  refine J.ret ?_
  cases H
  exact ⟨_,_,_,Za,⟨rfl,rfl⟩,Zb h1 [0,0]⟩
 refine Zi [4] rfl ?_
 refine J.ret ?_
 cases H
 exact ⟨_,_,_,Za,⟨rfl,rfl⟩,Zb h1 [0,0]⟩

def Q8.f (a0:Int×Int×List (Int)) (a1:Int):Option (Int×(Int×Int×List (Int))):=(Q10.f a0 a1).bind fun r1=>(if (!decide (r1=0))=true then (some (r1,a0)) else ((Q6.f a0 a1).bind fun r2=>(if r2=true then (some (10,a0)) else (if 0≤(w64 (Int.tdiv a1 64))∧(w64 (Int.tdiv a1 64))<(a0.2.2.length:Int) then (if 0≤(Int.tmod a1 64) then (some (0,(a0.1,(w64 (a0.2.1+1)),(a0.2.2.set (w64 (Int.tdiv a1 64)).toNat (IntKind.u64.wrap (((BitVec.ofInt IntKind.u64.bits (gt a0.2.2 (w64 (Int.tdiv a1 64))) ||| (BitVec.ofInt IntKind.u64.bits (IntKind.u64.wrap ((1:Int)*2 ^ (min (Int.tmod a1 64).toNat 64))))).toNat:Int))))))) else none) else none))))
theorem Q8.spec {a0:Int×Int×List (Int)} {a1:Int} {b1:Nat} {A1:Option Addr} {c_1:Nat} {r:Int×(Int×Int×List (Int))} (H:Q8.f a0 a1=some r) :
  Spec Tryz.prog 137 [.pointer (some ⟨b1,0,none⟩),.int .i64 a1] [Yl b1 a0.1 a0.2.1 a0.2.2 A1 c_1,O61 a0.2.2 A1 c_1] [] (fun v l=>∃(A_0:Option Addr) (c_0:Nat),v=.int .i64 r.1∧l=[Yl b1 r.2.1 r.2.2.1 r.2.2.2 A_0 c_0,O61 r.2.2.2 A_0 c_0]):=by
 refine Zp Tryz.func137 fun w0 F0 h0=>?_
 unfold Q8.f at H
 refine J.seq (Zc [0,1] ?_)
 refine J.seq (J.seq (J.region ?_))
 refine Zh 2 ?_
 obtain ⟨r1,q1,H⟩:=Zn H
 refine Ze (Zf [0,0] (Q10.spec q1) h0 rfl Zs) ?_
 rintro _ w1 ⟨_,⟨rfl,rfl⟩,h1⟩
 replace h1:=nf h1
 refine Zi [0,1,5] rfl ?_
 refine J.seq (Zc [0,1,5,10] ?_)
 refine jIf H (fun c1 H=>?_) fun c1 H=>?_
 ·refine J.seq (Zc [4] ?_)
  refine J.ret ?_
  cases H
  exact ⟨_,_,_,Za,⟨_,_,rfl,rfl⟩,Zb h1 [0,0]⟩
 refine J.skip (J.seq (J.seq (J.region ?_)))
 refine Zh 2 ?_
 obtain ⟨r2,q2,H⟩:=Zn H
 refine Ze (Zf [0,0] (Q6.spec q2) h1 rfl Zs) ?_
 rintro _ w2 ⟨_,⟨rfl,rfl⟩,h2⟩
 replace h2:=nf h2
 refine Zi [0,1,14] rfl ?_
 refine jIf H (fun c2 H=>?_) fun c2 H=>?_
 ·refine J.seq (Zc [4] ?_)
  refine J.ret ?_
  cases H
  exact ⟨_,_,_,Za,⟨_,_,rfl,rfl⟩,Zb h2 [0,0]⟩
 refine J.skip (J.seq ?_)
 obtain ⟨⟨p1,p2⟩,H⟩:=Zt H
 obtain ⟨p3,H⟩:=Zt H
 refine J.midS (fun env w=>env=[(0,.pointer (some ⟨b1,0,none⟩))]∧St w0 F0 [Yl b1 a0.1 a0.2.1 (a0.2.2.set (w64 (Int.tdiv a1 64)).toNat (IntKind.u64.wrap (((BitVec.ofInt IntKind.u64.bits (gt a0.2.2 (w64 (Int.tdiv a1 64))) ||| (BitVec.ofInt IntKind.u64.bits (IntKind.u64.wrap ((1:Int)*2 ^ (min (Int.tmod a1 64).toNat 64))))).toNat:Int)))) A1 c_1,O61 (a0.2.2.set (w64 (Int.tdiv a1 64)).toNat (IntKind.u64.wrap (((BitVec.ofInt IntKind.u64.bits (gt a0.2.2 (w64 (Int.tdiv a1 64))) ||| (BitVec.ofInt IntKind.u64.bits (IntKind.u64.wrap ((1:Int)*2 ^ (min (Int.tmod a1 64).toNat 64))))).toNat:Int)))) A1 c_1] [] w) ?_ ?_
 ·refine Zv (Zb h2 [0]) ?_
  have h4:=h2.drew
  refine Zu [0,1,2,4,5,8,9] ?_
  refine Zj 3 rfl (Zd 0 wI) ?_
  have e2:=Z6 h4.wh (gO 1) p1 p2
  refine Zj 6 rfl (Zk e2 p1 p2) ?_
  refine HJ.pick [7,10] (i:=7) rfl rfl rfl rfl ?_
  refine (Yc ?_ (Yc ?_ Xa))
  ·refine Z5 7 rfl (OpT.ofq (Zl 0 h4.wht (gO 1) p1 p2)) ?_
   rintro _ _ ⟨rfl,rfl⟩
   replace h4:=nf h4
   refine ⟨⟨[_],(Zb h4 [1,0])⟩,?_⟩
   refine Zj 10 rfl (Vb p3) ?_
   refine Zu [11] ?_
   refine Zj 12 rfl (Zk e2 p1 p2) ?_
   refine Zq 13 rfl (Zr 0 (.int .u64) (w64 (Int.tdiv a1 64)) (IntKind.u64.wrap (((BitVec.ofInt IntKind.u64.bits (gt a0.2.2 (w64 (Int.tdiv a1 64))) ||| (BitVec.ofInt IntKind.u64.bits (IntKind.u64.wrap ((1:Int)*2 ^ (min (Int.tmod a1 64).toNat 64))))).toNat:Int))) 1 h4 rfl p1 p2) ?_
   intro _ w4 h5
   replace h5:=nf h5
   refine ⟨⟨[_],h5⟩,?_⟩
   replace h5:St w0 F0 [O61 (a0.2.2.set (w64 (Int.tdiv a1 64)).toNat (IntKind.u64.wrap (((BitVec.ofInt IntKind.u64.bits (gt a0.2.2 (w64 (Int.tdiv a1 64))) ||| (BitVec.ofInt IntKind.u64.bits (IntKind.u64.wrap ((1:Int)*2 ^ (min (Int.tmod a1 64).toNat 64))))).toNat:Int)))) A1 c_1,Yl b1 a0.1 a0.2.1 (a0.2.2.set (w64 (Int.tdiv a1 64)).toNat (IntKind.u64.wrap (((BitVec.ofInt IntKind.u64.bits (gt a0.2.2 (w64 (Int.tdiv a1 64))) ||| (BitVec.ofInt IntKind.u64.bits (IntKind.u64.wrap ((1:Int)*2 ^ (min (Int.tmod a1 64).toNat 64))))).toNat:Int)))) A1 c_1] _ _:=h5.retell (by simp only [List.length_set,List.length_nil,O61,Yl] <;> rfl)
   refine Zw [0] ?_
   exact Z2 ⟨(by simp only [List.length_set,List.length_nil] <;> rfl),((h5.only [1,0] rfl).rds [] rfl)⟩
  ·refine HS.op (i:=10) rfl rfl rfl (OpT.ofq (Zao rfl rfl rfl p3)) ?_; rintro _ _ ⟨rfl,rfl⟩; replace h4:St w0 F0 [_,_] _ _:=h4; refine ⟨⟨[_],(h4.only [1,0] rfl)⟩,?_⟩
   refine Zq 7 rfl (OpT.ofq (Zl 0 h4.wht (gO 1) p1 p2)) ?_
   rintro _ _ ⟨rfl,rfl⟩
   replace h4:=nf h4
   refine ⟨⟨[_],(Zb h4 [1,0])⟩,?_⟩
   refine Zu [11] ?_
   refine Zj 12 rfl (Zk e2 p1 p2) ?_
   refine Zq 13 rfl (Zr 0 (.int .u64) (w64 (Int.tdiv a1 64)) (IntKind.u64.wrap (((BitVec.ofInt IntKind.u64.bits (gt a0.2.2 (w64 (Int.tdiv a1 64))) ||| (BitVec.ofInt IntKind.u64.bits (IntKind.u64.wrap ((1:Int)*2 ^ (min (Int.tmod a1 64).toNat 64))))).toNat:Int))) 1 h4 rfl p1 p2) ?_
   intro _ w5 h6
   replace h6:=nf h6
   refine ⟨⟨[_],h6⟩,?_⟩
   replace h6:St w0 F0 [O61 (a0.2.2.set (w64 (Int.tdiv a1 64)).toNat (IntKind.u64.wrap (((BitVec.ofInt IntKind.u64.bits (gt a0.2.2 (w64 (Int.tdiv a1 64))) ||| (BitVec.ofInt IntKind.u64.bits (IntKind.u64.wrap ((1:Int)*2 ^ (min (Int.tmod a1 64).toNat 64))))).toNat:Int)))) A1 c_1,Yl b1 a0.1 a0.2.1 (a0.2.2.set (w64 (Int.tdiv a1 64)).toNat (IntKind.u64.wrap (((BitVec.ofInt IntKind.u64.bits (gt a0.2.2 (w64 (Int.tdiv a1 64))) ||| (BitVec.ofInt IntKind.u64.bits (IntKind.u64.wrap ((1:Int)*2 ^ (min (Int.tmod a1 64).toNat 64))))).toNat:Int)))) A1 c_1] _ _:=h6.retell (by simp only [List.length_set,List.length_nil,O61,Yl] <;> rfl)
   refine Zw [0] ?_
   exact Z2 ⟨(by simp only [List.length_set,List.length_nil] <;> rfl),((h6.only [1,0] rfl).rds [] rfl)⟩
 rintro env w6 ⟨rfl,h7⟩
 refine J.seq (J.region ?_)
 refine Zh 3 ?_
 refine Zg (Zd 0 h7.wht) ?_
 refine Zh 3 ?_
 refine Ze (Z3 0 h7) ?_
 intro _ w7 h8
 replace h8:=nf h8
 refine Zi [] rfl ?_
 refine J.seq (Zc [4] ?_)
 refine J.ret ?_
 cases H
 exact ⟨_,_,_,Za,⟨_,_,rfl,rfl⟩,Zb h8 [0,0]⟩

def Q69.f (a0:Int):Option (Option ((Int×Int×List (Int)))×Int):=if (decide (a0<5))=true then (some (none,2)) else ((Q2.f a0).bind fun r1=>(Y4 r1.1 (if (!decide (r1.2=0))=true then (some (none,r1.2)) else none) (fun r2=>(if (!decide (r1.2=0))=false then ((Q8.f r2 0).bind fun r3=>(some ((some r3.2),0))) else none))))
theorem Q69.spec {a0:Int}  {r:Option ((Int×Int×List (Int)))×Int} (H:Q69.f a0=some r) :
  Spec Tryz.prog 86 [.int .i64 a0] [] [] (fun v l=>∃(pv:Value) (lp:List Ch),OptC r.1 (fun d pv lp=>∃(b_0:Nat) (b_1:Nat) (A_2:Option Addr) (c_2:Nat),pv=.pointer (some ⟨b_0,0,none⟩)∧lp=[Xd b_0 (.pointer (some ⟨b_1,0,none⟩)),Yl b_1 d.1 d.2.1 d.2.2 A_2 c_2,O61 d.2.2 A_2 c_2]) pv lp∧v=.tuple #[pv,.int .i64 r.2]∧l=lp ++ []):=by
 refine Zp Tryz.func86 fun w0 F0 h0=>?_
 unfold Q69.f at H
 refine J.seq (Zc [0] ?_)
 refine J.seq (J.seq (Zc [0,7] ?_))
 refine jIf H (fun c1 H=>?_) fun c1 H=>?_
 ·refine J.seq (Zc [2,3] ?_)
  refine J.ret ?_
  cases H
  exact ⟨_,_,_,Za,⟨_,_,OptC.no,rfl,rfl⟩,Zb h0 []⟩
 refine J.skip (J.seq (J.region ?_))
 refine Zh 1 ?_
 obtain ⟨r1,q1,H⟩:=Zn H
 refine Ze (Zf [] (Q2.spec q1) h0 rfl Zs) ?_
 rintro _ w1 ⟨_,⟨v1,l1,ho1,rfl,rfl⟩,h1⟩
 rcases ho2:r1.1 with _ | r2
 ·rw [ho2] at ho1
  obtain ⟨rfl,rfl⟩:=ho1
  replace H:=Y8 ho2 H
  obtain ⟨c2,H⟩:=Zt H
  replace h1:=nf h1
  refine Zi [4,5] rfl ?_
  refine J.seq (J.seq (Zc [4,5,14] ?_))
  refine J.cond rfl (fun e=>?_) (fun e=>by rw [c2] at e; cases e)
  refine J.seq (Zc [2,3] ?_)
  refine J.ret ?_
  cases H
  exact ⟨_,_,_,Za,⟨_,_,OptC.no,rfl,rfl⟩,Zb h1 []⟩
 rw [ho2] at ho1
 obtain ⟨b1,A1,c_1,rfl,rfl⟩:=ho1
 replace H:=Y6 ho2 H
 obtain ⟨c3,H⟩:=Zt H
 replace h1:=nf h1
 refine Zi [4,5] rfl ?_
 refine J.seq (J.seq (Zc [4,5,14] ?_))
 refine J.cond rfl (fun e=>by rw [c3] at e; cases e) (fun e=>?_)
 refine J.skip (J.seq (J.region ?_))
 refine Zh 1 ?_
 obtain ⟨r3,q2,H⟩:=Zn H
 refine Ze (Zf [0,0] (Q8.spec q2) h1 rfl Zs) ?_
 rintro _ w2 ⟨_,⟨A2,c_2,rfl,rfl⟩,h2⟩
 replace h2:=nf h2
 refine Zi [4] rfl ?_
 refine J.seq (J.region ?_)
 refine Zh 2 ?_
 refine Ze (Ye h2) ?_
 rintro _ w3 ⟨b2,rfl,h3⟩
 replace h3:=nf h3
 refine Zi [2,3] rfl ?_
 refine J.ret ?_
 cases H
 exact ⟨_,_,_,Za,⟨_,_,(OptC.yes ⟨_,_,_,_,rfl,rfl⟩),rfl,rfl⟩,Zb h3 [0,0,0]⟩

def Q98.f (a0:(Int×Int×Int×Int×Int×Int×Int×Int)×((Int×List (Int)×(Int×Int))×(List (Int×List (Int)×Bool×Int))×(List (Int×Int))×List (Int)×((List (Int×Int×Bool))×Int))×((Int×Int×List (Int)))×Int):Option (Int):=some 0
theorem Q98.spec {a0:(Int×Int×Int×Int×Int×Int×Int×Int)×((Int×List (Int)×(Int×Int))×(List (Int×List (Int)×Bool×Int))×(List (Int×Int))×List (Int)×((List (Int×Int×Bool))×Int))×((Int×Int×List (Int)))×Int} {b1:Nat} {b2:Nat} {b3:Nat} {b4:Nat} {b5:Nat} {b6:Nat} {b7:Nat} {A1:Option Addr} {c_1:Nat} {A2:Option Addr} {c_2:Nat} {A3:Option Addr} {c_3:Nat} {A4:Option Addr} {c_4:Nat} {A5:Option Addr} {c_5:Nat} {r:Int} (H:Q98.f a0=some r) :
  Spec Tryz.prog 60 [.pointer (some ⟨b1,0,none⟩)] [X83 b1 a0.1.1 a0.1.2.1 a0.1.2.2.1 a0.1.2.2.2.1 a0.1.2.2.2.2.1 a0.1.2.2.2.2.2.1 a0.1.2.2.2.2.2.2.1 a0.1.2.2.2.2.2.2.2 (.pointer (some ⟨b3,0,none⟩)) (.pointer (some ⟨b2,0,none⟩)) (.pointer (some ⟨b6,0,none⟩)) a0.2.2.2,Yp b2 (.pointer (some ⟨b3,0,none⟩)) a0.2.1.2.1 A2 c_2 (.map (some b4)) a0.2.1.2.2.2.1 A3 c_3 (.pointer (some ⟨b5,0,none⟩)),Yi b3 a0.2.1.1.1 a0.2.1.1.2.1 A1 c_1 a0.2.1.1.2.2.1 a0.2.1.1.2.2.2,O5 a0.2.1.1.2.1 A1 c_1,Yo a0.2.1.2.1 A2 c_2,Yj .u32 (Value.int .i64) b4 a0.2.1.2.2.1,O3 a0.2.1.2.2.2.1 A3 c_3,Ya b5 a0.2.1.2.2.2.2.1 A4 c_4 a0.2.1.2.2.2.2.2,Yb a0.2.1.2.2.2.2.1 A4 c_4,Xd b6 (.pointer (some ⟨b7,0,none⟩)),Yl b7 a0.2.2.1.1 a0.2.2.1.2.1 a0.2.2.1.2.2 A5 c_5,O61 a0.2.2.1.2.2 A5 c_5] [] (fun v l=>v=.int .i64 r∧l=[X83 b1 a0.1.1 a0.1.2.1 a0.1.2.2.1 a0.1.2.2.2.1 a0.1.2.2.2.2.1 a0.1.2.2.2.2.2.1 a0.1.2.2.2.2.2.2.1 a0.1.2.2.2.2.2.2.2 (.pointer (some ⟨b3,0,none⟩)) (.pointer (some ⟨b2,0,none⟩)) (.pointer (some ⟨b6,0,none⟩)) a0.2.2.2,Yp b2 (.pointer (some ⟨b3,0,none⟩)) a0.2.1.2.1 A2 c_2 (.map (some b4)) a0.2.1.2.2.2.1 A3 c_3 (.pointer (some ⟨b5,0,none⟩)),Yi b3 a0.2.1.1.1 a0.2.1.1.2.1 A1 c_1 a0.2.1.1.2.2.1 a0.2.1.1.2.2.2,O5 a0.2.1.1.2.1 A1 c_1,Yo a0.2.1.2.1 A2 c_2,Yj .u32 (Value.int .i64) b4 a0.2.1.2.2.1,O3 a0.2.1.2.2.2.1 A3 c_3,Ya b5 a0.2.1.2.2.2.2.1 A4 c_4 a0.2.1.2.2.2.2.2,Yb a0.2.1.2.2.2.2.1 A4 c_4,Xd b6 (.pointer (some ⟨b7,0,none⟩)),Yl b7 a0.2.2.1.1 a0.2.2.1.2.1 a0.2.2.1.2.2 A5 c_5,O61 a0.2.2.1.2.2 A5 c_5]):=by
 refine Zp Tryz.func60 fun w0 F0 h0=>?_
 unfold Q98.f at H
 refine J.seq (Zc [0] ?_)
 refine J.seq (J.seq (J.region ?_))
 refine Zh 6 ?_
 refine Zg (Zd 0 h0.wht) ?_
 refine Zi [11] rfl ?_
 refine Zz ?_
 refine J.skip (J.seq (Zc [2] ?_))
 refine J.ret ?_
 cases H
 exact ⟨_,_,_,Za,⟨rfl,rfl⟩,Zb h0 [0,0,0,0,0,0,0,0,0,0,0,0]⟩

def Q58.f:Option ((List UInt8×List UInt8×Bool)):=some (([]:List UInt8),([]:List UInt8),true)
theorem Q58.spec   {r:(List UInt8×List UInt8×Bool)} (H:Q58.f=some r) :
  Spec Tryz.prog 121 [] [] [] (fun v l=>v=.agg #[.string ⟨⟨r.1⟩⟩,.string ⟨⟨r.2.1⟩⟩,.bool r.2.2]∧l=[]):=by
 refine Zp Tryz.func121 fun w0 F0 h0=>?_
 unfold Q58.f at H
 refine J.seq (J.region ?_)
 refine Ze (Yq h0) ?_
 rintro _ w1 ⟨b1,rfl,h1⟩
 replace h1:=nf h1
 refine Zi [0] rfl ?_
 refine J.seq (J.region ?_)
 refine Zh 1 ?_
 refine Ze (Z3 0 h1) ?_
 intro _ w2 h2
 replace h2:=nf h2
 refine Zi [0] rfl ?_
 refine J.ret ?_
 cases H
 exact ⟨_,_,_,(Yf rfl (Ym (RV.cell Yu 0 h2 rfl rfl rfl rfl) Xb) rfl),⟨rfl,rfl⟩,Zb h2 []⟩

def Q13.f (a0:List UInt8) (a1:List UInt8):Option (Int):=some (Vt a0 a1)
theorem Q13.spec {a0:List UInt8} {a1:List UInt8}  {r:Int} (H:Q13.f a0 a1=some r) :
  Spec Tryz.prog 232 [.string ⟨⟨a0⟩⟩,.string ⟨⟨a1⟩⟩] [] [] (fun v l=>v=.int .i64 r∧l=[]):=by
 refine Zp Tryz.func232 fun w0 F0 h0=>?_
 unfold Q13.f at H
 refine J.seq (Zc [0,1] ?_)
 refine J.seq (J.region ?_)
 refine Zh 2 ?_
 refine Zg (Be Zcs) ?_
 refine Zi [4] rfl ?_
 refine J.ret ?_
 cases H
 exact ⟨_,_,_,Za,⟨rfl,rfl⟩,Zb h0 []⟩

def Q141.f (a0:List UInt8) (a1:List UInt8):Option (Int):=(Q13.f a0 a1).bind fun r1=>(some r1)
theorem Q141.spec {a0:List UInt8} {a1:List UInt8}  {r:Int} (H:Q141.f a0 a1=some r) :
  Spec Tryz.prog 217 [.string ⟨⟨a0⟩⟩,.string ⟨⟨a1⟩⟩] [] [] (fun v l=>v=.int .i64 r∧l=[]):=by
 refine Zp Tryz.func217 fun w0 F0 h0=>?_
 unfold Q141.f at H
 refine J.seq (Zc [0,1] ?_)
 refine J.seq (J.region ?_)
 refine Zh 2 ?_
 obtain ⟨r1,q1,H⟩:=Zn H
 refine Ze (Zf [] (Q13.spec q1) h0 rfl Zs) ?_
 rintro _ w1 ⟨_,⟨rfl,rfl⟩,h1⟩
 replace h1:=nf h1
 refine Zi [4] rfl ?_
 refine J.ret ?_
 cases H
 exact ⟨_,_,_,Za,⟨rfl,rfl⟩,Zb h1 []⟩

def Q59.f (a0:List UInt8) (a1:List UInt8):Option (Int):=(Q141.f a0 a1).bind fun r1=>(some r1)
theorem Q59.spec {a0:List UInt8} {a1:List UInt8}  {r:Int} (H:Q59.f a0 a1=some r) :
  Spec Tryz.prog 188 [.string ⟨⟨a0⟩⟩,.string ⟨⟨a1⟩⟩] [] [] (fun v l=>v=.int .i64 r∧l=[]):=by
 refine Zp Tryz.func188 fun w0 F0 h0=>?_
 unfold Q59.f at H
 refine J.seq (Zc [0,1] ?_)
 refine J.seq (J.region ?_)
 refine Zh 2 ?_
 obtain ⟨r1,q1,H⟩:=Zn H
 refine Ze (Zf [] (Q141.spec q1) h0 rfl Zs) ?_
 rintro _ w1 ⟨_,⟨rfl,rfl⟩,h1⟩
 replace h1:=nf h1
 refine Zi [4] rfl ?_
 refine J.ret ?_
 cases H
 exact ⟨_,_,_,Za,⟨rfl,rfl⟩,Zb h1 []⟩

def Q57.l0:Nat→(List (List UInt8×List UInt8))→(Int)→Option (Bool)
 | 0,_,_=>none
 | k+1,a0,x1=>if (decide (x1<(w64 ((a0.length:Int) - 1))))=true then (if 0≤x1∧x1<(a0.length:Int) then (if 0≤(w64 (x1+1))∧(w64 (x1+1))<(a0.length:Int) then ((Q59.f ((gt a0 x1).1) ((gt a0 (w64 (x1+1))).1)).bind fun r1=>(if (decide (0≤r1))=true then (some false) else (Q57.l0 k a0 (w64 (x1+1))))) else none) else none) else (some true)
def Q57.f (k:Nat) (a0:List (List UInt8×List UInt8)):Option (Bool):=Q57.l0 k a0 0
theorem Q57.spec {k:Nat} {a0:List (List UInt8×List UInt8)} {A1:Option Addr} {c_1:Nat} {r:Bool} (H:Q57.f k a0=some r) :
  Spec Tryz.prog 198 [.slice A1 a0.length c_1] [] [Xl a0 A1 c_1] (fun v l=>v=.bool r∧l=[]):=by
 refine Zp Tryz.func198 fun w0 F0 h0=>?_
 unfold Q57.f at H
 refine J.seq (Zc [0] ?_)
 refine J.seq (J.seq (Zc [0,6,7] ?_))
 refine J.block ?_
 have h5:=(sOR h0 [] [0])
 refine J.loop (fun kk env w=>∃(x1:Int),env=[(0,.slice A1 a0.length c_1),(6,.int .i64 (w64 ((a0.length:Int) - 1))),(7,.int .i64 x1)]∧St w0 F0 [] [Xl a0 A1 c_1] w∧Q57.l0 kk a0 x1=some r) (k:=k) ⟨0,rfl,h5,H⟩ ?_
 rintro k1 env w1 ⟨x1,rfl,h1,H⟩
 rcases k1 with _ | k1
 ·exact z0 H
 rw [Q57.l0] at H
 refine J.seq (Zc [0,6,7,8] ?_)
 refine J.seq (jIf H (fun c1 H=>?_) fun c1 H=>?_)
 ·refine J.skip (J.seq (J.block (J.seq (Zc [0,3,6,7] ?_))))
  refine J.seq (Zv h1 ?_)
  have h2:=h1.drew
  refine Zu [0,1,5,6,7] ?_
  obtain ⟨⟨p1,p2⟩,H⟩:=Zt H
  have e1:=Z6 h2.wh (Zm 0) p1 p2
  refine Zj 2 rfl (Zk e1 p1 p2) ?_
  refine Zu [3] ?_
  refine Zj 4 rfl (Zl 0 wI (Zm 0) p1 p2) ?_
  obtain ⟨⟨p3,p4⟩,H⟩:=Zt H
  refine Zj 8 rfl (Zk e1 p3 p4) ?_
  refine Zu [9] ?_
  refine Zj 10 rfl (Zl 0 wI (Zm 0) p3 p4) ?_
  obtain ⟨r1,q1,H⟩:=Zn H
  refine Zq 11 rfl (Zf [] (Q59.spec q1) h2 rfl Zs) ?_
  rintro _ w2 ⟨_,⟨rfl,rfl⟩,h3⟩
  replace h3:=nf h3
  refine ⟨⟨[],h3⟩,?_⟩
  refine Zu [12] ?_
  refine Zw [0,6,7,22] ?_
  refine jIf H (fun c2 H=>?_) fun c2 H=>?_
  ·refine J.seq (Zc [2] ?_)
   refine J.ret ?_
   cases H
   exact ⟨_,_,_,Za,⟨rfl,rfl⟩,Zb h3 []⟩
  refine J.skip (Zc [0,6,7] ?_)
  have h4:=(sOR h3 [] [0])
  exact ⟨k1,by omega,(w64 (x1+1)),rfl,h4,H⟩
 refine J.exit (J.seq (Zc [2] ?_))
 refine J.ret ?_
 cases H
 exact ⟨_,_,_,Za,⟨rfl,rfl⟩,Zb h1 []⟩

def Q61.f (a0:Int×Int×Int×Int×Int×Int×Int×Int) (a1:List UInt8):Option (Bool):=if (decide (1≤(a1.length:Int)))=true then (some (decide ((a1.length:Int)≤a0.2.2.2.2.2.2.1))) else (some false)
theorem Q61.spec {a0:Int×Int×Int×Int×Int×Int×Int×Int} {a1:List UInt8}  {r:Bool} (H:Q61.f a0 a1=some r) :
  Spec Tryz.prog 201 [.agg #[.int .i64 a0.1,.int .i64 a0.2.1,.int .i64 a0.2.2.1,.int .i64 a0.2.2.2.1,.int .i64 a0.2.2.2.2.1,.int .i64 a0.2.2.2.2.2.1,.int .i64 a0.2.2.2.2.2.2.1,.int .i64 a0.2.2.2.2.2.2.2],.string ⟨⟨a1⟩⟩] [] [] (fun v l=>v=.bool r∧l=[]):=by
 refine Zp Tryz.func201 fun w0 F0 h0=>?_
 unfold Q61.f at H
 refine J.seq (J.region ?_)
 refine Ze (Ye h0) ?_
 rintro _ w1 ⟨b1,rfl,h1⟩
 replace h1:=nf h1
 refine Zi [1,2] rfl ?_
 refine J.seq (J.region ?_)
 refine Zh 4 ?_
 refine Z7 8 H (fun c1 H=>?_) fun c1 H=>?_
 ·refine Zh 3 ?_
  refine Zg (Zd 0 h1.wht) ?_
  refine Zi [4] rfl ?_
  refine J.ret ?_
  cases H
  exact ⟨_,_,_,Za,⟨rfl,rfl⟩,Zb h1 []⟩
 refine Zi [4] rfl ?_
 refine J.ret ?_
 cases H
 exact ⟨_,_,_,Za,⟨rfl,rfl⟩,Zb h1 []⟩

def Q60.f (a0:List UInt8×List UInt8×Bool) (a1:List UInt8):Option (Bool):=if (!Op.bytesLess a1 a0.1)=true then (if a0.2.2=true then (some true) else (some (Op.bytesLess a1 a0.2.1))) else (some false)
theorem Q60.spec {a0:List UInt8×List UInt8×Bool} {a1:List UInt8}  {r:Bool} (H:Q60.f a0 a1=some r) :
  Spec Tryz.prog 202 [.agg #[.string ⟨⟨a0.1⟩⟩,.string ⟨⟨a0.2.1⟩⟩,.bool a0.2.2],.string ⟨⟨a1⟩⟩] [] [] (fun v l=>v=.bool r∧l=[]):=by
 refine Zp Tryz.func202 fun w0 F0 h0=>?_
 unfold Q60.f at H
 refine J.seq (J.region ?_)
 refine Ze (Ye h0) ?_
 rintro _ w1 ⟨b1,rfl,h1⟩
 replace h1:=nf h1
 refine Zi [1,2] rfl ?_
 refine J.seq (J.region ?_)
 refine Zh 2 ?_
 refine Zg (Zd 0 h1.wht) ?_
 refine Zh 2 ?_
 refine Z7 9 H (fun c1 H=>?_) fun c1 H=>?_
 ·refine Zh 1 ?_
  refine Zg (Zd 0 h1.wht) ?_
  refine Zh 1 ?_
  refine Z7 12 H (fun c2 H=>?_) fun c2 H=>?_
  ·refine Zi [4] rfl ?_
   refine J.ret ?_
   cases H
   exact ⟨_,_,_,Za,⟨rfl,rfl⟩,Zb h1 []⟩
  refine Zh 2 ?_
  refine Zg (Zd 0 h1.wht) ?_
  refine Zi [4] rfl ?_
  refine J.ret ?_
  cases H
  exact ⟨_,_,_,Za,⟨rfl,rfl⟩,Zb h1 []⟩
 refine Zi [4] rfl ?_
 refine J.ret ?_
 cases H
 exact ⟨_,_,_,Za,⟨rfl,rfl⟩,Zb h1 []⟩

def Q68.f (a0:List UInt8×List UInt8) (a1:Int×Int×Int×Int×Int×Int×Int×Int) (a2:List UInt8×List UInt8×Bool):Option (Bool):=(Q61.f a1 a0.1).bind fun r1=>(if (!r1)=true then (some true) else ((Q60.f a2 a0.1).bind fun r2=>(if (!r2)=true then (some true) else (some (decide (a1.2.2.2.2.2.2.2<(a0.2.length:Int)))))))
theorem Q68.spec {a0:List UInt8×List UInt8} {a1:Int×Int×Int×Int×Int×Int×Int×Int} {a2:List UInt8×List UInt8×Bool} {b1:Nat} {b2:Nat} {r:Bool} (H:Q68.f a0 a1 a2=some r) :
  Spec Tryz.prog 200 [.agg #[.string ⟨⟨a0.1⟩⟩,.string ⟨⟨a0.2⟩⟩],.pointer (some ⟨b1,0,none⟩),.pointer (some ⟨b2,0,none⟩)] [X23 b1 a1.1 a1.2.1 a1.2.2.1 a1.2.2.2.1 a1.2.2.2.2.1 a1.2.2.2.2.2.1 a1.2.2.2.2.2.2.1 a1.2.2.2.2.2.2.2,X92 b2 a2.1 a2.2.1 a2.2.2] [] (fun v l=>v=.bool r∧l=[X23 b1 a1.1 a1.2.1 a1.2.2.1 a1.2.2.2.1 a1.2.2.2.2.1 a1.2.2.2.2.2.1 a1.2.2.2.2.2.2.1 a1.2.2.2.2.2.2.2,X92 b2 a2.1 a2.2.1 a2.2.2]):=by
 refine Zp Tryz.func200 fun w0 F0 h0=>?_
 unfold Q68.f at H
 refine J.seq (J.region ?_)
 refine Ze (Ye h0) ?_
 rintro _ w1 ⟨b3,rfl,h1⟩
 replace h1:=nf h1
 refine Zi [1,2,3] rfl ?_
 refine J.seq (J.region ?_)
 refine Zg (Zd 1 h1.wht) ?_
 refine Zh 1 ?_
 refine Zg (Zd 0 h1.wht) ?_
 obtain ⟨r1,q1,H⟩:=Zn H
 refine Ze (Zf [] (Q61.spec q1) h1 rfl Zs) ?_
 rintro _ w2 ⟨_,⟨rfl,rfl⟩,h2⟩
 replace h2:=nf h2
 refine Zh 2 ?_
 refine Z7 10 H (fun c1 H=>?_) fun c1 H=>?_
 ·refine Zi [4] rfl ?_
  refine J.ret ?_
  cases H
  exact ⟨_,_,_,Za,⟨rfl,rfl⟩,Zb h2 [1,1]⟩
 refine Zg (Zd 2 h2.wht) ?_
 refine Zh 1 ?_
 refine Zg (Zd 0 h2.wht) ?_
 obtain ⟨r2,q2,H⟩:=Zn H
 refine Ze (Zf [] (Q60.spec q2) h2 rfl Zs) ?_
 rintro _ w3 ⟨_,⟨rfl,rfl⟩,h3⟩
 replace h3:=nf h3
 refine Zh 3 ?_
 refine Z7 17 H (fun c2 H=>?_) fun c2 H=>?_
 ·refine Zi [4] rfl ?_
  refine J.ret ?_
  cases H
  exact ⟨_,_,_,Za,⟨rfl,rfl⟩,Zb h3 [1,1]⟩
 refine Zh 1 ?_
 refine Zg (Zd 0 h3.wht) ?_
 refine Zh 2 ?_
 refine Zg (Zd 1 h3.wht) ?_
 refine Zi [4] rfl ?_
 refine J.ret ?_
 cases H
 exact ⟨_,_,_,Za,⟨rfl,rfl⟩,Zb h3 [1,1]⟩

def Q112.l0:Nat→(List (List UInt8×List UInt8))→(Int×Int×Int×Int×Int×Int×Int×Int)→(List UInt8×List UInt8×Bool)→(Int)→Option (Int)
 | 0,_,_,_,_=>none
 | k+1,a0,a2,a3,x1=>if (decide (x1<(a0.length:Int)))=true then (if 0≤x1∧x1<(a0.length:Int) then ((Q68.f (gt a0 x1) a2 a3).bind fun r1=>(if r1=true then (some x1) else (Q112.l0 k a0 a2 a3 (w64 (x1+1))))) else none) else (some (-1))
def Q112.f (k:Nat) (a0:List (List UInt8×List UInt8)) (a2:Int×Int×Int×Int×Int×Int×Int×Int) (a3:List UInt8×List UInt8×Bool):Option (Int):=Q112.l0 k a0 a2 a3 0
theorem Q112.spec {k:Nat} {a0:List (List UInt8×List UInt8)} {a2:Int×Int×Int×Int×Int×Int×Int×Int} {a3:List UInt8×List UInt8×Bool} {A1:Option Addr} {c_1:Nat} {b1:Nat} {b2:Nat} {r:Int} (H:Q112.f k a0 a2 a3=some r) :
  Spec Tryz.prog 226 [.slice A1 a0.length c_1,.func (.func 200) #[] #[.pointer (some ⟨b1,0,none⟩),.pointer (some ⟨b2,0,none⟩)]] [X23 b1 a2.1 a2.2.1 a2.2.2.1 a2.2.2.2.1 a2.2.2.2.2.1 a2.2.2.2.2.2.1 a2.2.2.2.2.2.2.1 a2.2.2.2.2.2.2.2,X92 b2 a3.1 a3.2.1 a3.2.2] [Xl a0 A1 c_1] (fun v l=>v=.int .i64 r∧l=[X23 b1 a2.1 a2.2.1 a2.2.2.1 a2.2.2.2.1 a2.2.2.2.2.1 a2.2.2.2.2.2.1 a2.2.2.2.2.2.2.1 a2.2.2.2.2.2.2.2,X92 b2 a3.1 a3.2.1 a3.2.2]):=by
 refine Zp Tryz.func226 fun w0 F0 h0=>?_
 unfold Q112.f at H
 refine J.seq (Zc [0,1] ?_)
 refine J.seq (J.seq (Zc [0,1,7,8] ?_))
 refine J.block ?_
 have h4:=(sOR h0 [0,0] [0])
 refine J.loop (fun kk env w=>∃(x1:Int),env=[(0,.slice A1 a0.length c_1),(1,.func (.func 200) #[] #[.pointer (some ⟨b1,0,none⟩),.pointer (some ⟨b2,0,none⟩)]),(7,.int .i64 (a0.length:Int)),(8,.int .i64 x1)]∧St w0 F0 [X23 b1 a2.1 a2.2.1 a2.2.2.1 a2.2.2.2.1 a2.2.2.2.2.1 a2.2.2.2.2.2.1 a2.2.2.2.2.2.2.1 a2.2.2.2.2.2.2.2,X92 b2 a3.1 a3.2.1 a3.2.2] [Xl a0 A1 c_1] w∧Q112.l0 kk a0 a2 a3 x1=some r) (k:=k) ⟨0,rfl,h4,H⟩ ?_
 rintro k1 env w1 ⟨x1,rfl,h1,H⟩
 rcases k1 with _ | k1
 ·exact z0 H
 rw [Q112.l0] at H
 refine J.seq (Zc [0,1,7,8,9] ?_)
 refine J.seq (jIf H (fun c1 H=>?_) fun c1 H=>?_)
 ·refine J.skip (J.seq (J.block (J.seq (Zc [0,1,5,7,8] ?_))))
  refine J.seq (J.region ?_)
  refine Zh 3 ?_
  obtain ⟨⟨p1,p2⟩,H⟩:=Zt H
  have e1:=Z6 h1.wh (Zm 2) p1 p2
  refine Zg (Zk e1 p1 p2) ?_
  refine Zg (Zl 0 h1.wht (Zm 2) p1 p2) ?_
  obtain ⟨r1,q1,H⟩:=Zn H
  refine Ze (W0 [.agg #[.string ⟨⟨(gt a0 x1).1⟩⟩,.string ⟨⟨(gt a0 x1).2⟩⟩]] [.pointer (some ⟨b1,0,none⟩),.pointer (some ⟨b2,0,none⟩)] [0,0] (Q68.spec q1) h1 rfl Zs) ?_
  rintro _ w2 ⟨_,⟨rfl,rfl⟩,h2⟩
  replace h2:=nf h2
  refine Zi [0,1,5,7,8,16] rfl ?_
  refine jIf H (fun c2 H=>?_) fun c2 H=>?_
  ·refine J.seq (Zc [4] ?_)
   refine J.ret ?_
   cases H
   exact ⟨_,_,_,Za,⟨rfl,rfl⟩,Zb h2 [0,0]⟩
  refine J.skip (Zc [0,1,7,8] ?_)
  have h3:=(sOR h2 [0,0] [0])
  exact ⟨k1,by omega,(w64 (x1+1)),rfl,h3,H⟩
 refine J.exit (J.seq (Zc [4] ?_))
 refine J.ret ?_
 cases H
 exact ⟨_,_,_,Za,⟨rfl,rfl⟩,Zb h1 [0,0]⟩

def Q106.f (k:Nat) (a0:List (List UInt8×List UInt8)) (a2:Int×Int×Int×Int×Int×Int×Int×Int) (a3:List UInt8×List UInt8×Bool):Option (Bool):=(Q112.f k a0 a2 a3).bind fun r1=>(some (decide (0≤r1)))
theorem Q106.spec {k:Nat} {a0:List (List UInt8×List UInt8)} {a2:Int×Int×Int×Int×Int×Int×Int×Int} {a3:List UInt8×List UInt8×Bool} {A1:Option Addr} {c_1:Nat} {b1:Nat} {b2:Nat} {r:Bool} (H:Q106.f k a0 a2 a3=some r) :
  Spec Tryz.prog 199 [.slice A1 a0.length c_1,.func (.func 200) #[] #[.pointer (some ⟨b1,0,none⟩),.pointer (some ⟨b2,0,none⟩)]] [X23 b1 a2.1 a2.2.1 a2.2.2.1 a2.2.2.2.1 a2.2.2.2.2.1 a2.2.2.2.2.2.1 a2.2.2.2.2.2.2.1 a2.2.2.2.2.2.2.2,X92 b2 a3.1 a3.2.1 a3.2.2] [Xl a0 A1 c_1] (fun v l=>v=.bool r∧l=[X23 b1 a2.1 a2.2.1 a2.2.2.1 a2.2.2.2.1 a2.2.2.2.2.1 a2.2.2.2.2.2.1 a2.2.2.2.2.2.2.1 a2.2.2.2.2.2.2.2,X92 b2 a3.1 a3.2.1 a3.2.2]):=by
 refine Zp Tryz.func199 fun w0 F0 h0=>?_
 unfold Q106.f at H
 refine J.seq (Zc [0,1] ?_)
 refine J.seq (J.region ?_)
 refine Zh 2 ?_
 obtain ⟨r1,q1,H⟩:=Zn H
 refine Ze (Zf [0,0] (Q112.spec q1) h0 rfl (Z0 (Zm 0) Zs)) ?_
 rintro _ w1 ⟨_,⟨rfl,rfl⟩,h1⟩
 replace h1:=nf h1
 refine Zi [4] rfl ?_
 refine J.ret ?_
 cases H
 exact ⟨_,_,_,Za,⟨rfl,rfl⟩,Zb h1 [0,0]⟩

def Q67.f (k:Nat) (a0:Int×Int×Int×Int×Int×Int×Int×Int) (a1:List UInt8×List UInt8×Bool) (a2:Int×List (Int)×List (List UInt8)×(List (List UInt8×Bool×List UInt8))×(List (List UInt8×List UInt8))):Option (Bool):=if (decide (0<(w64 ((w64 ((a2.2.1.length:Int)+(a2.2.2.1.length:Int)))+(a2.2.2.2.1.length:Int)))))=true then (some false) else (if (decide (a0.2.2.2.2.2.1<(a2.2.2.2.2.length:Int)))=true then (some false) else ((Q57.f k a2.2.2.2.2).bind fun r1=>(if (!r1)=true then (some false) else ((Q106.f k a2.2.2.2.2 a0 a1).bind fun r2=>(some (!r2))))))
theorem Q67.spec {k:Nat} {a0:Int×Int×Int×Int×Int×Int×Int×Int} {a1:List UInt8×List UInt8×Bool} {a2:Int×List (Int)×List (List UInt8)×(List (List UInt8×Bool×List UInt8))×(List (List UInt8×List UInt8))} {A1:Option Addr} {c_1:Nat} {A2:Option Addr} {c_2:Nat} {A3:Option Addr} {c_3:Nat} {A4:Option Addr} {c_4:Nat} {r:Bool} (H:Q67.f k a0 a1 a2=some r) :
  Spec Tryz.prog 165 [.agg #[.int .i64 a0.1,.int .i64 a0.2.1,.int .i64 a0.2.2.1,.int .i64 a0.2.2.2.1,.int .i64 a0.2.2.2.2.1,.int .i64 a0.2.2.2.2.2.1,.int .i64 a0.2.2.2.2.2.2.1,.int .i64 a0.2.2.2.2.2.2.2],.agg #[.string ⟨⟨a1.1⟩⟩,.string ⟨⟨a1.2.1⟩⟩,.bool a1.2.2],.agg #[.int .i64 a2.1,.slice A1 a2.2.1.length c_1,.slice A2 a2.2.2.1.length c_2,.slice A3 a2.2.2.2.1.length c_3,.slice A4 a2.2.2.2.2.length c_4]] [] [R33 a2.2.1 A1 c_1,R9 a2.2.2.1 A2 c_2,Xk a2.2.2.2.1 A3 c_3,Xl a2.2.2.2.2 A4 c_4] (fun v l=>v=.bool r∧l=[]):=by
 refine Zp Tryz.func165 fun w0 F0 h0=>?_
 unfold Q67.f at H
 refine J.seq (J.region ?_)
 refine Ze (Ye h0) ?_
 rintro _ w1 ⟨b1,rfl,h1⟩
 replace h1:=nf h1
 refine Ze (Ye h1) ?_
 rintro _ w2 ⟨b2,rfl,h2⟩
 replace h2:=nf h2
 refine Ze (Ye h2) ?_
 rintro _ w3 ⟨b3,rfl,h3⟩
 replace h3:=nf h3
 refine Zi [3,4,5] rfl ?_
 refine J.seq (J.seq (J.region ?_))
 refine Zh 1 ?_
 refine Zg (Zd 0 h3.wht) ?_
 refine Zh 2 ?_
 refine Zg (Zd 0 h3.wht) ?_
 refine Zh 3 ?_
 refine Zg (Zd 0 h3.wht) ?_
 refine Zh 4 ?_
 refine Z7 19 H (fun c1 H=>?_) fun c1 H=>?_
 ·refine Zi [3,4,5,32] rfl ?_
  refine Zo ?_
  refine J.seq (Zc [6] ?_)
  have h4:=Zb h3 []
  replace h4:=nf h4
  refine J.ret ?_
  cases H
  exact ⟨_,_,_,Za,⟨rfl,rfl⟩,Zb h4 []⟩
 refine Zh 1 ?_
 refine Zg (Zd 0 h3.wht) ?_
 refine Zh 2 ?_
 refine Zg (Zd 2 h3.wht) ?_
 refine Zh 3 ?_
 refine Z7 27 H (fun c2 H=>?_) fun c2 H=>?_
 ·refine Zi [3,4,5,32] rfl ?_
  refine Zo ?_
  refine J.seq (Zc [6] ?_)
  have h5:=Zb h3 []
  replace h5:=nf h5
  refine J.ret ?_
  cases H
  exact ⟨_,_,_,Za,⟨rfl,rfl⟩,Zb h5 []⟩
 refine Zh 1 ?_
 refine Zg (Zd 0 h3.wht) ?_
 obtain ⟨r1,q1,H⟩:=Zn H
 refine Ze (Zf [] (Q57.spec q1) h3 rfl (Z0 (Zm 6) Zs)) ?_
 rintro _ w4 ⟨_,⟨rfl,rfl⟩,h6⟩
 replace h6:=nf h6
 refine Zi [3,4,5,32] rfl ?_
 refine jIf H (fun c3 H=>?_) fun c3 H=>?_
 ·refine J.seq (Zc [6] ?_)
  have h7:=Zb h6 []
  replace h7:=nf h7
  refine J.ret ?_
  cases H
  exact ⟨_,_,_,Za,⟨rfl,rfl⟩,Zb h7 []⟩
 refine J.skip (J.seq (J.region ?_))
 refine Zh 1 ?_
 refine Zg (Zd 0 h6.wht) ?_
 refine Zh 1 ?_
 obtain ⟨r2,q2,H⟩:=Zn H
 refine Ze (Zf [2,1] (Q106.spec q2) h6 rfl (Z0 (Zm 4) Zs)) ?_
 rintro _ w5 ⟨_,⟨rfl,rfl⟩,h8⟩
 replace h8:=nf h8
 refine Zi [6] rfl ?_
 have h9:=Zb h8 []
 replace h9:=nf h9
 refine J.ret ?_
 cases H
 exact ⟨_,_,_,Za,⟨rfl,rfl⟩,Zb h9 []⟩

def Q103.f (a0:List (Int)):Option (List (Int)):=if (([]:List (Int)).length+a0.length)*4≤140737488355328 then (some (([]:List (Int)) ++ a0)) else none
theorem Q103.spec {a0:List (Int)} {A1:Option Addr} {c_1:Nat} {r:List (Int)} (H:Q103.f a0=some r) :
  Spec Tryz.prog 227 [.slice A1 a0.length c_1] [] [R33 a0 A1 c_1] (fun v l=>∃(A_0:Option Addr) (c_0:Nat),v=.slice A_0 r.length c_0∧l=[O33 r A_0 c_0]):=by
 refine Zp Tryz.func227 fun w0 F0 h0=>?_
 unfold Q103.f at H
 refine J.seq (Zc [0] ?_)
 refine J.seq (J.seq (Zc [0,4] ?_))
 refine Jb (fun c1=>?_) (fun c1=>?_)
 ·have e1:=h0.nilrow (Zm 0) (by simpa using c1)
  replace H:(some ([]:List (Int)))=some r:=by rw [e1] at H; simpa using H
  refine J.seq (Zc [2] ?_)
  refine J.ret ?_
  have h1:=h0.addNil 33 (.int .u32)
  cases H
  exact ⟨_,_,_,Za,⟨_,_,rfl,rfl⟩,Zb h1 [0]⟩
 refine J.skip (J.seq (J.region ?_))
 refine Ze (Xc (.int .u32) ([]:List (Int)) h0) ?_
 rintro _ w1 ⟨b1,rfl,h2⟩
 replace h2:=nf h2
 refine Zh 1 ?_
 obtain ⟨p1,H⟩:=Zt H
 refine Ze (Yr 0 h2 (Zm 0) p1) ?_
 rintro _ w2 ⟨A2,c_2,rfl,h3⟩
 replace h3:=nf h3
 refine Zi [2] rfl ?_
 refine J.ret ?_
 cases H
 exact ⟨_,_,_,Za,⟨_,_,rfl,rfl⟩,Zb h3 [0]⟩

def tb0:List UInt8:=[0,1,2,2,3,3,3,3,4,4,4,4,4,4,4,4,5,5,5,5,5,5,5,5,5,5,5,5,5,5,5,5,6,6,6,6,6,6,6,6,6,6,6,6,6,6,6,6,6,6,6,6,6,6,6,6,6,6,6,6,6,6,6,6,7,7,7,7,7,7,7,7,7,7,7,7,7,7,7,7,7,7,7,7,7,7,7,7,7,7,7,7,7,7,7,7,7,7,7,7,7,7,7,7,7,7,7,7,7,7,7,7,7,7,7,7,7,7,7,7,7,7,7,7,7,7,7,7,8,8,8,8,8,8,8,8,8,8,8,8,8,8,8,8,8,8,8,8,8,8,8,8,8,8,8,8,8,8,8,8,8,8,8,8,8,8,8,8,8,8,8,8,8,8,8,8,8,8,8,8,8,8,8,8,8,8,8,8,8,8,8,8,8,8,8,8,8,8,8,8,8,8,8,8,8,8,8,8,8,8,8,8,8,8,8,8,8,8,8,8,8,8,8,8,8,8,8,8,8,8,8,8,8,8,8,8,8,8,8,8,8,8,8,8,8,8,8,8,8,8,8,8,8,8,8,8]
def Q1.f (a0:Int):Option (Int):=if (decide (4294967296≤a0))=true then (if (decide (65536≤(Int.fdiv a0 (2 ^ 32))))=true then (if (decide (256≤(Int.fdiv (Int.fdiv a0 (2 ^ 32)) (2 ^ 16))))=true then (if 0≤(IntKind.u8.wrap ((Int.fdiv (Int.fdiv (Int.fdiv a0 (2 ^ 32)) (2 ^ 16)) (2 ^ 8))))∧(IntKind.u8.wrap ((Int.fdiv (Int.fdiv (Int.fdiv a0 (2 ^ 32)) (2 ^ 16)) (2 ^ 8))))<(tb0.length:Int) then (some (w64 (56+(w64 ((gtb tb0 (IntKind.u8.wrap ((Int.fdiv (Int.fdiv (Int.fdiv a0 (2 ^ 32)) (2 ^ 16)) (2 ^ 8)))))))))) else none) else (if 0≤(IntKind.u8.wrap ((Int.fdiv (Int.fdiv a0 (2 ^ 32)) (2 ^ 16))))∧(IntKind.u8.wrap ((Int.fdiv (Int.fdiv a0 (2 ^ 32)) (2 ^ 16))))<(tb0.length:Int) then (some (w64 (48+(w64 ((gtb tb0 (IntKind.u8.wrap ((Int.fdiv (Int.fdiv a0 (2 ^ 32)) (2 ^ 16)))))))))) else none)) else (if (decide (256≤(Int.fdiv a0 (2 ^ 32))))=true then (if 0≤(IntKind.u8.wrap ((Int.fdiv (Int.fdiv a0 (2 ^ 32)) (2 ^ 8))))∧(IntKind.u8.wrap ((Int.fdiv (Int.fdiv a0 (2 ^ 32)) (2 ^ 8))))<(tb0.length:Int) then (some (w64 (40+(w64 ((gtb tb0 (IntKind.u8.wrap ((Int.fdiv (Int.fdiv a0 (2 ^ 32)) (2 ^ 8)))))))))) else none) else (if 0≤(IntKind.u8.wrap ((Int.fdiv a0 (2 ^ 32))))∧(IntKind.u8.wrap ((Int.fdiv a0 (2 ^ 32))))<(tb0.length:Int) then (some (w64 (32+(w64 ((gtb tb0 (IntKind.u8.wrap ((Int.fdiv a0 (2 ^ 32)))))))))) else none))) else (if (decide (65536≤a0))=true then (if (decide (256≤(Int.fdiv a0 (2 ^ 16))))=true then (if 0≤(IntKind.u8.wrap ((Int.fdiv (Int.fdiv a0 (2 ^ 16)) (2 ^ 8))))∧(IntKind.u8.wrap ((Int.fdiv (Int.fdiv a0 (2 ^ 16)) (2 ^ 8))))<(tb0.length:Int) then (some (w64 (24+(w64 ((gtb tb0 (IntKind.u8.wrap ((Int.fdiv (Int.fdiv a0 (2 ^ 16)) (2 ^ 8)))))))))) else none) else (if 0≤(IntKind.u8.wrap ((Int.fdiv a0 (2 ^ 16))))∧(IntKind.u8.wrap ((Int.fdiv a0 (2 ^ 16))))<(tb0.length:Int) then (some (w64 (16+(w64 ((gtb tb0 (IntKind.u8.wrap ((Int.fdiv a0 (2 ^ 16)))))))))) else none)) else (if (decide (256≤a0))=true then (if 0≤(IntKind.u8.wrap ((Int.fdiv a0 (2 ^ 8))))∧(IntKind.u8.wrap ((Int.fdiv a0 (2 ^ 8))))<(tb0.length:Int) then (some (w64 (8+(w64 ((gtb tb0 (IntKind.u8.wrap ((Int.fdiv a0 (2 ^ 8)))))))))) else none) else (if 0≤(IntKind.u8.wrap (a0))∧(IntKind.u8.wrap (a0))<(tb0.length:Int) then (some (w64 (0+(w64 ((gtb tb0 (IntKind.u8.wrap (a0)))))))) else none)))
theorem Q1.spec {a0:Int}  {r:Int} (H:Q1.f a0=some r) :
  Spec Tryz.prog 244 [.int .u64 a0] [] [] (fun v l=>v=.int .i64 r∧l=[]):=by
 refine Zp Tryz.func244 fun w0 F0 h0=>?_
 unfold Q1.f at H
 refine J.seq (Zc [0,2] ?_)
 refine J.seq (J.seq (Zc [0,2,4] ?_))
 refine jIf H (fun c1 H=>?_) fun c1 H=>?_
 ·refine J.seq (Zc [0] ?_)
  refine Zc [0,2] ?_
  refine J.seq (J.seq (Zc [0,2,8] ?_))
  refine jIf H (fun c2 H=>?_) fun c2 H=>?_
  ·refine J.seq (Zc [0,2] ?_)
   refine Zc [0,2] ?_
   refine J.seq (J.seq (Zc [0,2,14] ?_))
   refine jIf H (fun c3 H=>?_) fun c3 H=>?_
   ·refine J.seq (Zc [0,2] ?_)
    refine Zc [0,2] ?_
    refine J.seq (J.region ?_)
    refine Zh 3 ?_
    obtain ⟨⟨p1,p2⟩,H⟩:=Zt H
    refine Zg (Xo p1 p2) ?_
    refine Zi [2] rfl ?_
    refine J.ret ?_
    cases H
    exact ⟨_,_,_,Za,⟨rfl,rfl⟩,Zb h0 []⟩
   refine J.skip (J.seq (J.region ?_))
   refine Zh 3 ?_
   obtain ⟨⟨p3,p4⟩,H⟩:=Zt H
   refine Zg (Xo p3 p4) ?_
   refine Zi [2] rfl ?_
   refine J.ret ?_
   cases H
   exact ⟨_,_,_,Za,⟨rfl,rfl⟩,Zb h0 []⟩
  refine J.skip (J.seq (J.seq (Zc [0,2,14] ?_)))
  refine jIf H (fun c4 H=>?_) fun c4 H=>?_
  ·refine J.seq (Zc [0,2] ?_)
   refine Zc [0,2] ?_
   refine J.seq (J.region ?_)
   refine Zh 3 ?_
   obtain ⟨⟨p5,p6⟩,H⟩:=Zt H
   refine Zg (Xo p5 p6) ?_
   refine Zi [2] rfl ?_
   refine J.ret ?_
   cases H
   exact ⟨_,_,_,Za,⟨rfl,rfl⟩,Zb h0 []⟩
  refine J.skip (J.seq (J.region ?_))
  refine Zh 3 ?_
  obtain ⟨⟨p7,p8⟩,H⟩:=Zt H
  refine Zg (Xo p7 p8) ?_
  refine Zi [2] rfl ?_
  refine J.ret ?_
  cases H
  exact ⟨_,_,_,Za,⟨rfl,rfl⟩,Zb h0 []⟩
 refine J.skip (J.seq (J.seq (Zc [0,2,8] ?_)))
 refine jIf H (fun c5 H=>?_) fun c5 H=>?_
 ·refine J.seq (Zc [0,2] ?_)
  refine Zc [0,2] ?_
  refine J.seq (J.seq (Zc [0,2,14] ?_))
  refine jIf H (fun c6 H=>?_) fun c6 H=>?_
  ·refine J.seq (Zc [0,2] ?_)
   refine Zc [0,2] ?_
   refine J.seq (J.region ?_)
   refine Zh 3 ?_
   obtain ⟨⟨p9,p10⟩,H⟩:=Zt H
   refine Zg (Xo p9 p10) ?_
   refine Zi [2] rfl ?_
   refine J.ret ?_
   cases H
   exact ⟨_,_,_,Za,⟨rfl,rfl⟩,Zb h0 []⟩
  refine J.skip (J.seq (J.region ?_))
  refine Zh 3 ?_
  obtain ⟨⟨p11,p12⟩,H⟩:=Zt H
  refine Zg (Xo p11 p12) ?_
  refine Zi [2] rfl ?_
  refine J.ret ?_
  cases H
  exact ⟨_,_,_,Za,⟨rfl,rfl⟩,Zb h0 []⟩
 refine J.skip (J.seq (J.seq (Zc [0,2,14] ?_)))
 refine jIf H (fun c7 H=>?_) fun c7 H=>?_
 ·refine J.seq (Zc [0,2] ?_)
  refine Zc [0,2] ?_
  refine J.seq (J.region ?_)
  refine Zh 3 ?_
  obtain ⟨⟨p13,p14⟩,H⟩:=Zt H
  refine Zg (Xo p13 p14) ?_
  refine Zi [2] rfl ?_
  refine J.ret ?_
  cases H
  exact ⟨_,_,_,Za,⟨rfl,rfl⟩,Zb h0 []⟩
 refine J.skip (J.seq (J.region ?_))
 refine Zh 3 ?_
 obtain ⟨⟨p15,p16⟩,H⟩:=Zt H
 refine Zg (Xo p15 p16) ?_
 refine Zi [2] rfl ?_
 refine J.ret ?_
 cases H
 exact ⟨_,_,_,Za,⟨rfl,rfl⟩,Zb h0 []⟩

def Q0.f (a0:Int):Option (Int):=(Q1.f a0).bind fun r1=>(some r1)
theorem Q0.spec {a0:Int}  {r:Int} (H:Q0.f a0=some r) :
  Spec Tryz.prog 225 [.int .u64 a0] [] [] (fun v l=>v=.int .i64 r∧l=[]):=by
 refine Zp Tryz.func225 fun w0 F0 h0=>?_
 unfold Q0.f at H
 refine J.seq (Zc [0] ?_)
 refine J.seq (Zz ?_)
 refine J.skip (J.seq (J.region ?_))
 refine Zh 1 ?_
 obtain ⟨r1,q1,H⟩:=Zn H
 refine Ze (Zf [] (Q1.spec q1) h0 rfl Zs) ?_
 rintro _ w1 ⟨_,⟨rfl,rfl⟩,h1⟩
 replace h1:=nf h1
 refine Zi [2] rfl ?_
 refine J.ret ?_
 cases H
 exact ⟨_,_,_,Za,⟨rfl,rfl⟩,Zb h1 []⟩

def Q33.f (a0:Int):Option (Bool):=some (!decide (a0=a0))
theorem Q33.spec {a0:Int}  {r:Bool} (H:Q33.f a0=some r) :
  Spec Tryz.prog 252 [.int .u32 a0] [] [] (fun v l=>v=.bool r∧l=[]):=by
 refine Zp Tryz.func252 fun w0 F0 h0=>?_
 unfold Q33.f at H
 refine J.seq (Zc [0] ?_)
 refine J.seq (Zc [2] ?_)
 refine J.ret ?_
 cases H
 exact ⟨_,_,_,Za,⟨rfl,rfl⟩,Zb h0 []⟩

def Q32.f (a0:Int) (a1:Int):Option (Bool):=(Q33.f a0).bind fun r1=>(if r1=true then ((Q33.f a1).bind fun r2=>(if (!r2)=true then (some true) else (some (decide (a0<a1))))) else (some (decide (a0<a1))))
theorem Q32.spec {a0:Int} {a1:Int}  {r:Bool} (H:Q32.f a0 a1=some r) :
  Spec Tryz.prog 240 [.int .u32 a0,.int .u32 a1] [] [] (fun v l=>v=.bool r∧l=[]):=by
 refine Zp Tryz.func240 fun w0 F0 h0=>?_
 unfold Q32.f at H
 refine J.seq (Zc [0,1] ?_)
 refine J.seq (J.region ?_)
 refine Zh 1 ?_
 obtain ⟨r1,q1,H⟩:=Zn H
 refine Ze (Zf [] (Q33.spec q1) h0 rfl Zs) ?_
 rintro _ w1 ⟨_,⟨rfl,rfl⟩,h1⟩
 replace h1:=nf h1
 refine Zh 1 ?_
 refine Z7 7 H (fun c1 H=>?_) fun c1 H=>?_
 ·refine Zh 1 ?_
  obtain ⟨r2,q2,H⟩:=Zn H
  refine Ze (Zf [] (Q33.spec q2) h1 rfl Zs) ?_
  rintro _ w2 ⟨_,⟨rfl,rfl⟩,h2⟩
  replace h2:=nf h2
  refine Zh 3 ?_
  refine Z7 12 H (fun c2 H=>?_) fun c2 H=>?_
  ·refine Zi [4] rfl ?_
   refine J.ret ?_
   cases H
   exact ⟨_,_,_,Za,⟨rfl,rfl⟩,Zb h2 []⟩
  refine Zi [4] rfl ?_
  refine J.ret ?_
  cases H
  exact ⟨_,_,_,Za,⟨rfl,rfl⟩,Zb h2 []⟩
 refine Zi [4] rfl ?_
 refine J.ret ?_
 cases H
 exact ⟨_,_,_,Za,⟨rfl,rfl⟩,Zb h1 []⟩

mutual
def Q120.l0:Nat→(Int)→(Int)→(List (Int))→(Int)→Option (List (Int))
 | 0,_,_,_,_=>none
 | k+1,a1,a2,x1,x2=>if (decide (x2<a2))=true then (Q120.l1 k a1 a2 x2 x1 x2) else (some x1)
def Q120.l1:Nat→(Int)→(Int)→(Int)→(List (Int))→(Int)→Option (List (Int))
 | 0,_,_,_,_,_=>none
 | k+1,a1,a2,x2,x3,x4=>if (decide (a1<x4))=true then (if 0≤x4∧x4<(x3.length:Int) then (if 0≤(w64 (x4 - 1))∧(w64 (x4 - 1))<(x3.length:Int) then ((Q32.f (gt x3 x4) (gt x3 (w64 (x4 - 1)))).bind fun r1=>(if r1=true then (Q120.l1 k a1 a2 x2 ((x3.set x4.toNat (gt x3 (w64 (x4 - 1)))).set (w64 (x4 - 1)).toNat (gt x3 x4)) (w64 (x4 - 1))) else (Q120.l0 k a1 a2 x3 (w64 (x2+1))))) else none) else none) else (Q120.l0 k a1 a2 x3 (w64 (x2+1)))
end
def Q120.f (k:Nat) (a0:List (Int)) (a1:Int) (a2:Int):Option (List (Int)):=Q120.l0 k a1 a2 a0 (w64 (a1+1))
theorem Q120.spec {k:Nat} {a0:List (Int)} {a1:Int} {a2:Int} {A1:Option Addr} {c_1:Nat} {r:List (Int)} (H:Q120.f k a0 a1 a2=some r) :
  Spec Tryz.prog 234 [.slice A1 a0.length c_1,.int .i64 a1,.int .i64 a2] [O33 a0 A1 c_1] [] (fun v l=>v=.tuple #[]∧l=[O33 r A1 c_1]∧r.length=a0.length):=by
 refine Zp Tryz.func234 fun w0 F0 h0=>?_
 unfold Q120.f at H
 refine J.seq (Zc [0,1,2,6] ?_)
 refine J.block ?_
 have h17:=(sOR h0 [0] [])
 refine J.loop (fun kk env w=>∃(x1:List (Int)) (x2:Int),env=[(0,.slice A1 x1.length c_1),(1,.int .i64 a1),(2,.int .i64 a2),(6,.int .i64 x2)]∧St w0 F0 [O33 x1 A1 c_1] [] w∧Q120.l0 kk a1 a2 x1 x2=some r∧x1.length=a0.length) (k:=k) ⟨a0,(w64 (a1+1)),rfl,h17,H,(rfl:a0.length=a0.length)⟩ ?_
 rintro k1 env w1 ⟨x1,x2,rfl,h1,H,e1⟩
 rcases k1 with _ | k1
 ·exact z0 H
 rw [Q120.l0] at H
 refine J.seq (J.seq (Zc [0,1,2,6,12] ?_))
 refine jIf H (fun c1 H=>?_) fun c1 H=>?_
 ·refine J.skip (J.seq (J.block (J.seq (Zc [0,1,2,6,7] ?_))))
  refine J.block ?_
  have h16:=(sOR h1 [0] [])
  refine J.loop (fun kk env w=>∃(x3:List (Int)) (x4:Int),env=[(0,.slice A1 x3.length c_1),(1,.int .i64 a1),(2,.int .i64 a2),(6,.int .i64 x2),(7,.int .i64 x4)]∧St w0 F0 [O33 x3 A1 c_1] [] w∧Q120.l1 kk a1 a2 x2 x3 x4=some r∧kk≤k1∧x3.length=a0.length) (k:=k1) ⟨x1,x2,rfl,h16,H,Nat.le_refl _,e1⟩ ?_
  rintro k2 env w2 ⟨x3,x4,rfl,h2,H,hk2,e2⟩
  rcases k2 with _ | k2
  ·exact z0 H
  rw [Q120.l1] at H
  refine J.seq (J.seq ?_)
  refine Zv h2 ?_
  have h3:=h2.drew
  refine Zu [0,1,2,3] ?_
  refine Yh 19 H (fun c2 H=>?_) fun c2 H=>?_
  ·refine Zu [4,5,8,9,10] ?_
   obtain ⟨⟨p1,p2⟩,H⟩:=Zt H
   have e3:=Z6 h3.wh (gO 0) p1 p2
   refine Zj 6 rfl (Zk e3 p1 p2) ?_
   refine Zj 7 rfl (Zl 0 wI (gO 0) p1 p2) ?_
   obtain ⟨⟨p3,p4⟩,H⟩:=Zt H
   refine Zj 11 rfl (Zk e3 p3 p4) ?_
   refine Zj 12 rfl (Zl 0 wI (gO 0) p3 p4) ?_
   obtain ⟨r1,q1,H⟩:=Zn H
   refine Zq 13 rfl (Zf [] (Q32.spec q1) h3 rfl Zs) ?_
   rintro _ w3 ⟨_,⟨rfl,rfl⟩,h4⟩
   replace h4:=nf h4
   refine ⟨⟨[],h4⟩,?_⟩
   refine Zu [14] ?_
   refine Zw [0,1,2,6,7,30] ?_
   refine jIf H (fun c3 H=>?_) fun c3 H=>?_
   ·refine J.skip (J.seq (J.block ?_))
    refine J.mid (fun env w=>env=[(0,.slice A1 ((x3.set x4.toNat (gt x3 (w64 (x4 - 1)))).set (w64 (x4 - 1)).toNat (gt x3 x4)).length c_1),(1,.int .i64 a1),(2,.int .i64 a2),(6,.int .i64 x2),(7,.int .i64 x4)]∧St w0 F0 [O33 ((x3.set x4.toNat (gt x3 (w64 (x4 - 1)))).set (w64 (x4 - 1)).toNat (gt x3 x4)) A1 c_1] [] w) ?_ ?_
    ·refine Zv (Zb h4 []) ?_
     have h7:=h4.drew
     refine Zu [0,1,2,3,4,5,6,7,10,11] ?_
     refine Zj 8 rfl (Zk e3 p3 p4) ?_
     refine Zj 12 rfl (Zk e3 p1 p2) ?_
     refine HJ.pick [9,13] (i:=9) rfl rfl rfl rfl ?_
     refine (Yc ?_ (Yc ?_ Xa))
     ·refine Z5 9 rfl (OpT.ofq (Zl 0 h7.wht (gO 0) p3 p4)) ?_
      rintro _ _ ⟨rfl,rfl⟩
      replace h7:=nf h7
      refine ⟨⟨[_],h7⟩,?_⟩
      refine Zq 13 rfl (OpT.ofq (Zl 0 h7.wht (gO 0) p1 p2)) ?_
      rintro _ _ ⟨rfl,rfl⟩
      replace h7:=nf h7
      refine ⟨⟨[_],h7⟩,?_⟩
      refine Zj 14 rfl (Zk e3 p1 p2) ?_
      refine Zq 15 rfl (Zr 0 (.int .u32) x4 (gt x3 (w64 (x4 - 1))) 0 h7 rfl p1 p2) ?_
      intro _ w6 h8
      replace h8:=nf h8
      refine ⟨⟨[_],h8⟩,?_⟩
      have e6:(x3.set x4.toNat (gt x3 (w64 (x4 - 1)))).length=a0.length:=List.length_set.trans e2
      refine Zj 16 rfl (Zk e3 p3 p4) ?_
      refine Zq 17 rfl (Zr 0 (.int .u32) (w64 (x4 - 1)) (gt x3 x4) 0 h8 rfl p3 (by simpa only [List.length_set] using p4)) ?_
      intro _ w7 h9
      replace h9:=nf h9
      refine ⟨⟨[_],h9⟩,?_⟩
      have e7:((x3.set x4.toNat (gt x3 (w64 (x4 - 1)))).set (w64 (x4 - 1)).toNat (gt x3 x4)).length=a0.length:=List.length_set.trans e6
      refine Zw [0,1,2,6,7] ?_
      exact Z2 ⟨(by simp only [List.length_set,List.length_nil] <;> rfl),((h9.only [0] rfl).rds [] rfl)⟩
     ·refine Z5 13 rfl (OpT.ofq (Zl 0 h7.wht (gO 0) p1 p2)) ?_
      rintro _ _ ⟨rfl,rfl⟩
      replace h7:=nf h7
      refine ⟨⟨[_],h7⟩,?_⟩
      refine Zq 9 rfl (OpT.ofq (Zl 0 h7.wht (gO 0) p3 p4)) ?_
      rintro _ _ ⟨rfl,rfl⟩
      replace h7:=nf h7
      refine ⟨⟨[_],h7⟩,?_⟩
      refine Zj 14 rfl (Zk e3 p1 p2) ?_
      refine Zq 15 rfl (Zr 0 (.int .u32) x4 (gt x3 (w64 (x4 - 1))) 0 h7 rfl p1 p2) ?_
      intro _ w8 h10
      replace h10:=nf h10
      refine ⟨⟨[_],h10⟩,?_⟩
      have e8:(x3.set x4.toNat (gt x3 (w64 (x4 - 1)))).length=a0.length:=List.length_set.trans e2
      refine Zj 16 rfl (Zk e3 p3 p4) ?_
      refine Zq 17 rfl (Zr 0 (.int .u32) (w64 (x4 - 1)) (gt x3 x4) 0 h10 rfl p3 (by simpa only [List.length_set] using p4)) ?_
      intro _ w9 h11
      replace h11:=nf h11
      refine ⟨⟨[_],h11⟩,?_⟩
      have e9:((x3.set x4.toNat (gt x3 (w64 (x4 - 1)))).set (w64 (x4 - 1)).toNat (gt x3 x4)).length=a0.length:=List.length_set.trans e8
      refine Zw [0,1,2,6,7] ?_
      exact Z2 ⟨(by simp only [List.length_set,List.length_nil] <;> rfl),((h11.only [0] rfl).rds [] rfl)⟩
    rintro env w10 ⟨rfl,h12⟩
    have e10:((x3.set x4.toNat (gt x3 (w64 (x4 - 1)))).set (w64 (x4 - 1)).toNat (gt x3 x4)).length=a0.length:=by first | (simp only [List.length_set]; done) | (simp only [List.length_set]; exact e2)
    refine Zc [0,1,2,6,7] ?_
    have h13:=(sOR h12 [0] [])
    exact ⟨k2,by omega,((x3.set x4.toNat (gt x3 (w64 (x4 - 1)))).set (w64 (x4 - 1)).toNat (gt x3 x4)),(w64 (x4 - 1)),rfl,h13,H,by omega,e10⟩
   refine J.exit (Zc [0,1,2,6] ?_)
   have h14:=(sOR h4 [0] [])
   exact ⟨k2,by omega,x3,(w64 (x2+1)),rfl,h14,H,e2⟩
  refine Zu [4,5,6,7,8,9,10,11,12,13,14] ?_
  refine Zw [0,1,2,6,7,30] ?_
  refine Zz ?_
  refine J.exit (Zc [0,1,2,6] ?_)
  have h15:=(sOR h3 [0] [])
  exact ⟨k2,by omega,x3,(w64 (x2+1)),rfl,h15,H,e2⟩
 refine J.exit ?_
 cases H
 exact ⟨_,_,_,Za,⟨rfl,rfl,e1⟩,Zb h1 [0]⟩

def Q130.l0:Nat→(Int)→(Int)→(List (Int))→(Int)→Option (List (Int))
 | 0,_,_,_,_=>none
 | k+1,a2,a3,x1,x2=>if (decide (a2≤(w64 ((w64 (2*x2))+1))))=true then (some x1) else (if (decide ((w64 ((w64 ((w64 (2*x2))+1))+1))<a2))=true then (if 0≤(w64 (a3+(w64 ((w64 (2*x2))+1))))∧(w64 (a3+(w64 ((w64 (2*x2))+1))))<(x1.length:Int) then (if 0≤(w64 ((w64 (a3+(w64 ((w64 (2*x2))+1))))+1))∧(w64 ((w64 (a3+(w64 ((w64 (2*x2))+1))))+1))<(x1.length:Int) then ((Q32.f (gt x1 (w64 (a3+(w64 ((w64 (2*x2))+1))))) (gt x1 (w64 ((w64 (a3+(w64 ((w64 (2*x2))+1))))+1)))).bind fun r1=>(if r1=true then (if 0≤(w64 (a3+x2))∧(w64 (a3+x2))<(x1.length:Int) then (if 0≤(w64 (a3+(w64 ((w64 ((w64 (2*x2))+1))+1))))∧(w64 (a3+(w64 ((w64 ((w64 (2*x2))+1))+1))))<(x1.length:Int) then ((Q32.f (gt x1 (w64 (a3+x2))) (gt x1 (w64 (a3+(w64 ((w64 ((w64 (2*x2))+1))+1)))))).bind fun r2=>(if (!r2)=true then (some x1) else (Q130.l0 k a2 a3 ((x1.set (w64 (a3+x2)).toNat (gt x1 (w64 (a3+(w64 ((w64 ((w64 (2*x2))+1))+1)))))).set (w64 (a3+(w64 ((w64 ((w64 (2*x2))+1))+1)))).toNat (gt x1 (w64 (a3+x2)))) (w64 ((w64 ((w64 (2*x2))+1))+1))))) else none) else none) else (if 0≤(w64 (a3+x2))∧(w64 (a3+x2))<(x1.length:Int) then ((Q32.f (gt x1 (w64 (a3+x2))) (gt x1 (w64 (a3+(w64 ((w64 (2*x2))+1)))))).bind fun r3=>(if (!r3)=true then (some x1) else (Q130.l0 k a2 a3 ((x1.set (w64 (a3+x2)).toNat (gt x1 (w64 (a3+(w64 ((w64 (2*x2))+1)))))).set (w64 (a3+(w64 ((w64 (2*x2))+1)))).toNat (gt x1 (w64 (a3+x2)))) (w64 ((w64 (2*x2))+1))))) else none))) else none) else none) else (if 0≤(w64 (a3+x2))∧(w64 (a3+x2))<(x1.length:Int) then (if 0≤(w64 (a3+(w64 ((w64 (2*x2))+1))))∧(w64 (a3+(w64 ((w64 (2*x2))+1))))<(x1.length:Int) then ((Q32.f (gt x1 (w64 (a3+x2))) (gt x1 (w64 (a3+(w64 ((w64 (2*x2))+1)))))).bind fun r4=>(if (!r4)=true then (some x1) else (Q130.l0 k a2 a3 ((x1.set (w64 (a3+x2)).toNat (gt x1 (w64 (a3+(w64 ((w64 (2*x2))+1)))))).set (w64 (a3+(w64 ((w64 (2*x2))+1)))).toNat (gt x1 (w64 (a3+x2)))) (w64 ((w64 (2*x2))+1))))) else none) else none))
def Q130.f (k:Nat) (a0:List (Int)) (a1:Int) (a2:Int) (a3:Int):Option (List (Int)):=Q130.l0 k a2 a3 a0 a1
theorem Q130.spec {k:Nat} {a0:List (Int)} {a1:Int} {a2:Int} {a3:Int} {A1:Option Addr} {c_1:Nat} {r:List (Int)} (H:Q130.f k a0 a1 a2 a3=some r) :
  Spec Tryz.prog 247 [.slice A1 a0.length c_1,.int .i64 a1,.int .i64 a2,.int .i64 a3] [O33 a0 A1 c_1] [] (fun v l=>v=.tuple #[]∧l=[O33 r A1 c_1]∧r.length=a0.length):=by
 refine Zp Tryz.func247 fun w0 F0 h0=>?_
 unfold Q130.f at H
 refine J.seq (Zc [0,2,3,8] ?_)
 refine J.block ?_
 have h37:=(sOR h0 [0] [])
 refine J.loop (fun kk env w=>∃(x1:List (Int)) (x2:Int),env=[(0,.slice A1 x1.length c_1),(2,.int .i64 a2),(3,.int .i64 a3),(8,.int .i64 x2)]∧St w0 F0 [O33 x1 A1 c_1] [] w∧Q130.l0 kk a2 a3 x1 x2=some r∧x1.length=a0.length) (k:=k) ⟨a0,a1,rfl,h37,H,(rfl:a0.length=a0.length)⟩ ?_
 rintro k1 env w1 ⟨x1,x2,rfl,h1,H,e1⟩
 rcases k1 with _ | k1
 ·exact z0 H
 rw [Q130.l0] at H
 refine J.block (J.seq (Zc [0,2,3,8,9] ?_))
 refine J.seq (J.seq (Zc [0,2,3,8,9,16] ?_))
 refine jIf H (fun c1 H=>?_) fun c1 H=>?_
 ·refine J.exit ?_
  cases H
  exact ⟨_,_,_,Za,⟨rfl,rfl,e1⟩,Zb h1 [0]⟩
 refine J.skip (J.seq (J.seq ?_))
 refine Zv h1 ?_
 have h2:=h1.drew
 refine Zu [0,1,2,3,4] ?_
 refine Yh 21 H (fun c2 H=>?_) fun c2 H=>?_
 ·refine Zu [5,6,7,8,11,12,13,14,15] ?_
  obtain ⟨⟨p1,p2⟩,H⟩:=Zt H
  have e2:=Z6 h2.wh (gO 0) p1 p2
  refine Zj 9 rfl (Zk e2 p1 p2) ?_
  refine Zj 10 rfl (Zl 0 wI (gO 0) p1 p2) ?_
  obtain ⟨⟨p3,p4⟩,H⟩:=Zt H
  refine Zj 16 rfl (Zk e2 p3 p4) ?_
  refine Zj 17 rfl (Zl 0 wI (gO 0) p3 p4) ?_
  obtain ⟨r1,q1,H⟩:=Zn H
  refine Zq 18 rfl (Zf [] (Q32.spec q1) h2 rfl Zs) ?_
  rintro _ w2 ⟨_,⟨rfl,rfl⟩,h3⟩
  replace h3:=nf h3
  refine ⟨⟨[],h3⟩,?_⟩
  refine Zu [19] ?_
  refine Zw [0,2,3,8,9,36] ?_
  refine jIf H (fun c3 H=>?_) fun c3 H=>?_
  ·refine Zc [0,2,3,8,9] ?_
   refine J.seq (J.seq ?_)
   refine Zv h3 ?_
   have h4:=h3.drew
   refine Zu [0,1,2,3,6,7,8,9] ?_
   obtain ⟨⟨p5,p6⟩,H⟩:=Zt H
   refine Zj 4 rfl (Zk e2 p5 p6) ?_
   refine Zj 5 rfl (Zl 0 wI (gO 0) p5 p6) ?_
   obtain ⟨⟨p7,p8⟩,H⟩:=Zt H
   refine Zj 10 rfl (Zk e2 p7 p8) ?_
   refine Zj 11 rfl (Zl 0 wI (gO 0) p7 p8) ?_
   obtain ⟨r2,q2,H⟩:=Zn H
   refine Zq 12 rfl (Zf [] (Q32.spec q2) h4 rfl Zs) ?_
   rintro _ w3 ⟨_,⟨rfl,rfl⟩,h5⟩
   replace h5:=nf h5
   refine ⟨⟨[],h5⟩,?_⟩
   refine Zu [13] ?_
   refine Zw [0,2,3,8,9,52] ?_
   refine jIf H (fun c4 H=>?_) fun c4 H=>?_
   ·refine J.ret ?_
    cases H
    exact ⟨_,_,_,Za,⟨rfl,rfl,e1⟩,Zb h5 [0]⟩
   refine J.skip (J.seq (J.midS (fun env w=>env=[(0,.slice A1 ((x1.set (w64 (a3+x2)).toNat (gt x1 (w64 (a3+(w64 ((w64 ((w64 (2*x2))+1))+1)))))).set (w64 (a3+(w64 ((w64 ((w64 (2*x2))+1))+1)))).toNat (gt x1 (w64 (a3+x2)))).length c_1),(2,.int .i64 a2),(3,.int .i64 a3),(9,.int .i64 (w64 ((w64 ((w64 (2*x2))+1))+1)))]∧St w0 F0 [O33 ((x1.set (w64 (a3+x2)).toNat (gt x1 (w64 (a3+(w64 ((w64 ((w64 (2*x2))+1))+1)))))).set (w64 (a3+(w64 ((w64 ((w64 (2*x2))+1))+1)))).toNat (gt x1 (w64 (a3+x2)))) A1 c_1] [] w) ?_ ?_))
   ·refine Zv (Zb h5 []) ?_
    have h8:=h5.drew
    refine Zu [0,1,2,3,4,5,6,7,8,9,10,11,14,15,16,17] ?_
    refine Zj 12 rfl (Zk e2 p7 p8) ?_
    refine Zj 18 rfl (Zk e2 p5 p6) ?_
    refine HJ.pick [13,19] (i:=13) rfl rfl rfl rfl ?_
    refine (Yc ?_ (Yc ?_ Xa))
    ·refine Z5 13 rfl (OpT.ofq (Zl 0 h8.wht (gO 0) p7 p8)) ?_
     rintro _ _ ⟨rfl,rfl⟩
     replace h8:=nf h8
     refine ⟨⟨[_],h8⟩,?_⟩
     refine Zq 19 rfl (OpT.ofq (Zl 0 h8.wht (gO 0) p5 p6)) ?_
     rintro _ _ ⟨rfl,rfl⟩
     replace h8:=nf h8
     refine ⟨⟨[_],h8⟩,?_⟩
     refine Zj 20 rfl (Zk e2 p5 p6) ?_
     refine Zq 21 rfl (Zr 0 (.int .u32) (w64 (a3+x2)) (gt x1 (w64 (a3+(w64 ((w64 ((w64 (2*x2))+1))+1))))) 0 h8 rfl p5 p6) ?_
     intro _ w6 h9
     replace h9:=nf h9
     refine ⟨⟨[_],h9⟩,?_⟩
     have e5:(x1.set (w64 (a3+x2)).toNat (gt x1 (w64 (a3+(w64 ((w64 ((w64 (2*x2))+1))+1)))))).length=a0.length:=List.length_set.trans e1
     refine Zj 22 rfl (Zk e2 p7 p8) ?_
     refine Zq 23 rfl (Zr 0 (.int .u32) (w64 (a3+(w64 ((w64 ((w64 (2*x2))+1))+1)))) (gt x1 (w64 (a3+x2))) 0 h9 rfl p7 (by simpa only [List.length_set] using p8)) ?_
     intro _ w7 h10
     replace h10:=nf h10
     refine ⟨⟨[_],h10⟩,?_⟩
     have e6:((x1.set (w64 (a3+x2)).toNat (gt x1 (w64 (a3+(w64 ((w64 ((w64 (2*x2))+1))+1)))))).set (w64 (a3+(w64 ((w64 ((w64 (2*x2))+1))+1)))).toNat (gt x1 (w64 (a3+x2)))).length=a0.length:=List.length_set.trans e5
     refine Zw [0,2,3,9] ?_
     exact Z2 ⟨(by simp only [List.length_set,List.length_nil] <;> rfl),((h10.only [0] rfl).rds [] rfl)⟩
    ·refine Z5 19 rfl (OpT.ofq (Zl 0 h8.wht (gO 0) p5 p6)) ?_
     rintro _ _ ⟨rfl,rfl⟩
     replace h8:=nf h8
     refine ⟨⟨[_],h8⟩,?_⟩
     refine Zq 13 rfl (OpT.ofq (Zl 0 h8.wht (gO 0) p7 p8)) ?_
     rintro _ _ ⟨rfl,rfl⟩
     replace h8:=nf h8
     refine ⟨⟨[_],h8⟩,?_⟩
     refine Zj 20 rfl (Zk e2 p5 p6) ?_
     refine Zq 21 rfl (Zr 0 (.int .u32) (w64 (a3+x2)) (gt x1 (w64 (a3+(w64 ((w64 ((w64 (2*x2))+1))+1))))) 0 h8 rfl p5 p6) ?_
     intro _ w8 h11
     replace h11:=nf h11
     refine ⟨⟨[_],h11⟩,?_⟩
     have e7:(x1.set (w64 (a3+x2)).toNat (gt x1 (w64 (a3+(w64 ((w64 ((w64 (2*x2))+1))+1)))))).length=a0.length:=List.length_set.trans e1
     refine Zj 22 rfl (Zk e2 p7 p8) ?_
     refine Zq 23 rfl (Zr 0 (.int .u32) (w64 (a3+(w64 ((w64 ((w64 (2*x2))+1))+1)))) (gt x1 (w64 (a3+x2))) 0 h11 rfl p7 (by simpa only [List.length_set] using p8)) ?_
     intro _ w9 h12
     replace h12:=nf h12
     refine ⟨⟨[_],h12⟩,?_⟩
     have e8:((x1.set (w64 (a3+x2)).toNat (gt x1 (w64 (a3+(w64 ((w64 ((w64 (2*x2))+1))+1)))))).set (w64 (a3+(w64 ((w64 ((w64 (2*x2))+1))+1)))).toNat (gt x1 (w64 (a3+x2)))).length=a0.length:=List.length_set.trans e7
     refine Zw [0,2,3,9] ?_
     exact Z2 ⟨(by simp only [List.length_set,List.length_nil] <;> rfl),((h12.only [0] rfl).rds [] rfl)⟩
   rintro env w10 ⟨rfl,h13⟩
   have e9:((x1.set (w64 (a3+x2)).toNat (gt x1 (w64 (a3+(w64 ((w64 ((w64 (2*x2))+1))+1)))))).set (w64 (a3+(w64 ((w64 ((w64 (2*x2))+1))+1)))).toNat (gt x1 (w64 (a3+x2)))).length=a0.length:=by first | (simp only [List.length_set]; done) | (simp only [List.length_set]; exact e1)
   refine Zc [0,2,3,8] ?_
   have h14:=(sOR h13 [0] [])
   exact ⟨k1,by omega,((x1.set (w64 (a3+x2)).toNat (gt x1 (w64 (a3+(w64 ((w64 ((w64 (2*x2))+1))+1)))))).set (w64 (a3+(w64 ((w64 ((w64 (2*x2))+1))+1)))).toNat (gt x1 (w64 (a3+x2)))),(w64 ((w64 ((w64 (2*x2))+1))+1)),rfl,h14,H,e9⟩
  refine J.skip (J.seq (J.seq ?_))
  refine Zv h3 ?_
  have h15:=h3.drew
  refine Zu [0,1,2,3,6,7,8,9] ?_
  obtain ⟨⟨p9,p10⟩,H⟩:=Zt H
  refine Zj 4 rfl (Zk e2 p9 p10) ?_
  refine Zj 5 rfl (Zl 0 wI (gO 0) p9 p10) ?_
  refine Zj 10 rfl (Zk e2 p1 p2) ?_
  refine Zj 11 rfl (Zl 0 wI (gO 0) p1 p2) ?_
  obtain ⟨r3,q3,H⟩:=Zn H
  refine Zq 12 rfl (Zf [] (Q32.spec q3) h15 rfl Zs) ?_
  rintro _ w11 ⟨_,⟨rfl,rfl⟩,h16⟩
  replace h16:=nf h16
  refine ⟨⟨[],h16⟩,?_⟩
  refine Zu [13] ?_
  refine Zw [0,2,3,8,9,52] ?_
  refine jIf H (fun c5 H=>?_) fun c5 H=>?_
  ·refine J.ret ?_
   cases H
   exact ⟨_,_,_,Za,⟨rfl,rfl,e1⟩,Zb h16 [0]⟩
  refine J.skip (J.seq (J.midS (fun env w=>env=[(0,.slice A1 ((x1.set (w64 (a3+x2)).toNat (gt x1 (w64 (a3+(w64 ((w64 (2*x2))+1)))))).set (w64 (a3+(w64 ((w64 (2*x2))+1)))).toNat (gt x1 (w64 (a3+x2)))).length c_1),(2,.int .i64 a2),(3,.int .i64 a3),(9,.int .i64 (w64 ((w64 (2*x2))+1)))]∧St w0 F0 [O33 ((x1.set (w64 (a3+x2)).toNat (gt x1 (w64 (a3+(w64 ((w64 (2*x2))+1)))))).set (w64 (a3+(w64 ((w64 (2*x2))+1)))).toNat (gt x1 (w64 (a3+x2)))) A1 c_1] [] w) ?_ ?_))
  ·refine Zv (Zb h16 []) ?_
   have h19:=h16.drew
   refine Zu [0,1,2,3,4,5,6,7,8,9,10,11,14,15,16,17] ?_
   refine Zj 12 rfl (Zk e2 p1 p2) ?_
   refine Zj 18 rfl (Zk e2 p9 p10) ?_
   refine HJ.pick [13,19] (i:=13) rfl rfl rfl rfl ?_
   refine (Yc ?_ (Yc ?_ Xa))
   ·refine Z5 13 rfl (OpT.ofq (Zl 0 h19.wht (gO 0) p1 p2)) ?_
    rintro _ _ ⟨rfl,rfl⟩
    replace h19:=nf h19
    refine ⟨⟨[_],h19⟩,?_⟩
    refine Zq 19 rfl (OpT.ofq (Zl 0 h19.wht (gO 0) p9 p10)) ?_
    rintro _ _ ⟨rfl,rfl⟩
    replace h19:=nf h19
    refine ⟨⟨[_],h19⟩,?_⟩
    refine Zj 20 rfl (Zk e2 p9 p10) ?_
    refine Zq 21 rfl (Zr 0 (.int .u32) (w64 (a3+x2)) (gt x1 (w64 (a3+(w64 ((w64 (2*x2))+1))))) 0 h19 rfl p9 p10) ?_
    intro _ w14 h20
    replace h20:=nf h20
    refine ⟨⟨[_],h20⟩,?_⟩
    have e12:(x1.set (w64 (a3+x2)).toNat (gt x1 (w64 (a3+(w64 ((w64 (2*x2))+1)))))).length=a0.length:=List.length_set.trans e1
    refine Zj 22 rfl (Zk e2 p1 p2) ?_
    refine Zq 23 rfl (Zr 0 (.int .u32) (w64 (a3+(w64 ((w64 (2*x2))+1)))) (gt x1 (w64 (a3+x2))) 0 h20 rfl p1 (by simpa only [List.length_set] using p2)) ?_
    intro _ w15 h21
    replace h21:=nf h21
    refine ⟨⟨[_],h21⟩,?_⟩
    have e13:((x1.set (w64 (a3+x2)).toNat (gt x1 (w64 (a3+(w64 ((w64 (2*x2))+1)))))).set (w64 (a3+(w64 ((w64 (2*x2))+1)))).toNat (gt x1 (w64 (a3+x2)))).length=a0.length:=List.length_set.trans e12
    refine Zw [0,2,3,9] ?_
    exact Z2 ⟨(by simp only [List.length_set,List.length_nil] <;> rfl),((h21.only [0] rfl).rds [] rfl)⟩
   ·refine Z5 19 rfl (OpT.ofq (Zl 0 h19.wht (gO 0) p9 p10)) ?_
    rintro _ _ ⟨rfl,rfl⟩
    replace h19:=nf h19
    refine ⟨⟨[_],h19⟩,?_⟩
    refine Zq 13 rfl (OpT.ofq (Zl 0 h19.wht (gO 0) p1 p2)) ?_
    rintro _ _ ⟨rfl,rfl⟩
    replace h19:=nf h19
    refine ⟨⟨[_],h19⟩,?_⟩
    refine Zj 20 rfl (Zk e2 p9 p10) ?_
    refine Zq 21 rfl (Zr 0 (.int .u32) (w64 (a3+x2)) (gt x1 (w64 (a3+(w64 ((w64 (2*x2))+1))))) 0 h19 rfl p9 p10) ?_
    intro _ w16 h22
    replace h22:=nf h22
    refine ⟨⟨[_],h22⟩,?_⟩
    have e14:(x1.set (w64 (a3+x2)).toNat (gt x1 (w64 (a3+(w64 ((w64 (2*x2))+1)))))).length=a0.length:=List.length_set.trans e1
    refine Zj 22 rfl (Zk e2 p1 p2) ?_
    refine Zq 23 rfl (Zr 0 (.int .u32) (w64 (a3+(w64 ((w64 (2*x2))+1)))) (gt x1 (w64 (a3+x2))) 0 h22 rfl p1 (by simpa only [List.length_set] using p2)) ?_
    intro _ w17 h23
    replace h23:=nf h23
    refine ⟨⟨[_],h23⟩,?_⟩
    have e15:((x1.set (w64 (a3+x2)).toNat (gt x1 (w64 (a3+(w64 ((w64 (2*x2))+1)))))).set (w64 (a3+(w64 ((w64 (2*x2))+1)))).toNat (gt x1 (w64 (a3+x2)))).length=a0.length:=List.length_set.trans e14
    refine Zw [0,2,3,9] ?_
    exact Z2 ⟨(by simp only [List.length_set,List.length_nil] <;> rfl),((h23.only [0] rfl).rds [] rfl)⟩
  rintro env w18 ⟨rfl,h24⟩
  have e16:((x1.set (w64 (a3+x2)).toNat (gt x1 (w64 (a3+(w64 ((w64 (2*x2))+1)))))).set (w64 (a3+(w64 ((w64 (2*x2))+1)))).toNat (gt x1 (w64 (a3+x2)))).length=a0.length:=by first | (simp only [List.length_set]; done) | (simp only [List.length_set]; exact e1)
  refine Zc [0,2,3,8] ?_
  have h25:=(sOR h24 [0] [])
  exact ⟨k1,by omega,((x1.set (w64 (a3+x2)).toNat (gt x1 (w64 (a3+(w64 ((w64 (2*x2))+1)))))).set (w64 (a3+(w64 ((w64 (2*x2))+1)))).toNat (gt x1 (w64 (a3+x2)))),(w64 ((w64 (2*x2))+1)),rfl,h25,H,e16⟩
 refine Zu [5,6,7,8,9,10,11,12,13,14,15,16,17,18,19] ?_
 refine Zw [0,2,3,8,9,36] ?_
 refine Zz ?_
 refine J.skip (J.seq (J.seq ?_))
 refine Zv h2 ?_
 have h26:=h2.drew
 refine Zu [0,1,2,3,6,7,8,9] ?_
 obtain ⟨⟨p11,p12⟩,H⟩:=Zt H
 have e17:=Z6 h26.wh (gO 0) p11 p12
 refine Zj 4 rfl (Zk e17 p11 p12) ?_
 refine Zj 5 rfl (Zl 0 wI (gO 0) p11 p12) ?_
 obtain ⟨⟨p13,p14⟩,H⟩:=Zt H
 refine Zj 10 rfl (Zk e17 p13 p14) ?_
 refine Zj 11 rfl (Zl 0 wI (gO 0) p13 p14) ?_
 obtain ⟨r4,q4,H⟩:=Zn H
 refine Zq 12 rfl (Zf [] (Q32.spec q4) h26 rfl Zs) ?_
 rintro _ w19 ⟨_,⟨rfl,rfl⟩,h27⟩
 replace h27:=nf h27
 refine ⟨⟨[],h27⟩,?_⟩
 refine Zu [13] ?_
 refine Zw [0,2,3,8,9,52] ?_
 refine jIf H (fun c6 H=>?_) fun c6 H=>?_
 ·refine J.ret ?_
  cases H
  exact ⟨_,_,_,Za,⟨rfl,rfl,e1⟩,Zb h27 [0]⟩
 refine J.skip (J.seq (J.midS (fun env w=>env=[(0,.slice A1 ((x1.set (w64 (a3+x2)).toNat (gt x1 (w64 (a3+(w64 ((w64 (2*x2))+1)))))).set (w64 (a3+(w64 ((w64 (2*x2))+1)))).toNat (gt x1 (w64 (a3+x2)))).length c_1),(2,.int .i64 a2),(3,.int .i64 a3),(9,.int .i64 (w64 ((w64 (2*x2))+1)))]∧St w0 F0 [O33 ((x1.set (w64 (a3+x2)).toNat (gt x1 (w64 (a3+(w64 ((w64 (2*x2))+1)))))).set (w64 (a3+(w64 ((w64 (2*x2))+1)))).toNat (gt x1 (w64 (a3+x2)))) A1 c_1] [] w) ?_ ?_))
 ·refine Zv (Zb h27 []) ?_
  have h30:=h27.drew
  refine Zu [0,1,2,3,4,5,6,7,8,9,10,11,14,15,16,17] ?_
  refine Zj 12 rfl (Zk e17 p13 p14) ?_
  refine Zj 18 rfl (Zk e17 p11 p12) ?_
  refine HJ.pick [13,19] (i:=13) rfl rfl rfl rfl ?_
  refine (Yc ?_ (Yc ?_ Xa))
  ·refine Z5 13 rfl (OpT.ofq (Zl 0 h30.wht (gO 0) p13 p14)) ?_
   rintro _ _ ⟨rfl,rfl⟩
   replace h30:=nf h30
   refine ⟨⟨[_],h30⟩,?_⟩
   refine Zq 19 rfl (OpT.ofq (Zl 0 h30.wht (gO 0) p11 p12)) ?_
   rintro _ _ ⟨rfl,rfl⟩
   replace h30:=nf h30
   refine ⟨⟨[_],h30⟩,?_⟩
   refine Zj 20 rfl (Zk e17 p11 p12) ?_
   refine Zq 21 rfl (Zr 0 (.int .u32) (w64 (a3+x2)) (gt x1 (w64 (a3+(w64 ((w64 (2*x2))+1))))) 0 h30 rfl p11 p12) ?_
   intro _ w22 h31
   replace h31:=nf h31
   refine ⟨⟨[_],h31⟩,?_⟩
   have e20:(x1.set (w64 (a3+x2)).toNat (gt x1 (w64 (a3+(w64 ((w64 (2*x2))+1)))))).length=a0.length:=List.length_set.trans e1
   refine Zj 22 rfl (Zk e17 p13 p14) ?_
   refine Zq 23 rfl (Zr 0 (.int .u32) (w64 (a3+(w64 ((w64 (2*x2))+1)))) (gt x1 (w64 (a3+x2))) 0 h31 rfl p13 (by simpa only [List.length_set] using p14)) ?_
   intro _ w23 h32
   replace h32:=nf h32
   refine ⟨⟨[_],h32⟩,?_⟩
   have e21:((x1.set (w64 (a3+x2)).toNat (gt x1 (w64 (a3+(w64 ((w64 (2*x2))+1)))))).set (w64 (a3+(w64 ((w64 (2*x2))+1)))).toNat (gt x1 (w64 (a3+x2)))).length=a0.length:=List.length_set.trans e20
   refine Zw [0,2,3,9] ?_
   exact Z2 ⟨(by simp only [List.length_set,List.length_nil] <;> rfl),((h32.only [0] rfl).rds [] rfl)⟩
  ·refine Z5 19 rfl (OpT.ofq (Zl 0 h30.wht (gO 0) p11 p12)) ?_
   rintro _ _ ⟨rfl,rfl⟩
   replace h30:=nf h30
   refine ⟨⟨[_],h30⟩,?_⟩
   refine Zq 13 rfl (OpT.ofq (Zl 0 h30.wht (gO 0) p13 p14)) ?_
   rintro _ _ ⟨rfl,rfl⟩
   replace h30:=nf h30
   refine ⟨⟨[_],h30⟩,?_⟩
   refine Zj 20 rfl (Zk e17 p11 p12) ?_
   refine Zq 21 rfl (Zr 0 (.int .u32) (w64 (a3+x2)) (gt x1 (w64 (a3+(w64 ((w64 (2*x2))+1))))) 0 h30 rfl p11 p12) ?_
   intro _ w24 h33
   replace h33:=nf h33
   refine ⟨⟨[_],h33⟩,?_⟩
   have e22:(x1.set (w64 (a3+x2)).toNat (gt x1 (w64 (a3+(w64 ((w64 (2*x2))+1)))))).length=a0.length:=List.length_set.trans e1
   refine Zj 22 rfl (Zk e17 p13 p14) ?_
   refine Zq 23 rfl (Zr 0 (.int .u32) (w64 (a3+(w64 ((w64 (2*x2))+1)))) (gt x1 (w64 (a3+x2))) 0 h33 rfl p13 (by simpa only [List.length_set] using p14)) ?_
   intro _ w25 h34
   replace h34:=nf h34
   refine ⟨⟨[_],h34⟩,?_⟩
   have e23:((x1.set (w64 (a3+x2)).toNat (gt x1 (w64 (a3+(w64 ((w64 (2*x2))+1)))))).set (w64 (a3+(w64 ((w64 (2*x2))+1)))).toNat (gt x1 (w64 (a3+x2)))).length=a0.length:=List.length_set.trans e22
   refine Zw [0,2,3,9] ?_
   exact Z2 ⟨(by simp only [List.length_set,List.length_nil] <;> rfl),((h34.only [0] rfl).rds [] rfl)⟩
 rintro env w26 ⟨rfl,h35⟩
 have e24:((x1.set (w64 (a3+x2)).toNat (gt x1 (w64 (a3+(w64 ((w64 (2*x2))+1)))))).set (w64 (a3+(w64 ((w64 (2*x2))+1)))).toNat (gt x1 (w64 (a3+x2)))).length=a0.length:=by first | (simp only [List.length_set]; done) | (simp only [List.length_set]; exact e1)
 refine Zc [0,2,3,8] ?_
 have h36:=(sOR h35 [0] [])
 exact ⟨k1,by omega,((x1.set (w64 (a3+x2)).toNat (gt x1 (w64 (a3+(w64 ((w64 (2*x2))+1)))))).set (w64 (a3+(w64 ((w64 (2*x2))+1)))).toNat (gt x1 (w64 (a3+x2)))),(w64 ((w64 (2*x2))+1)),rfl,h36,H,e24⟩

def Q119.l1:Nat→(Int)→(List (Int))→(Int)→Option (List (Int))
 | 0,_,_,_=>none
 | k+1,a1,x3,x4=>if (decide (0≤x4))=true then (if 0≤(w64 (a1+x4))∧(w64 (a1+x4))<(x3.length:Int) then (if 0≤a1∧a1<(x3.length:Int) then ((Q130.f k ((x3.set a1.toNat (gt x3 (w64 (a1+x4)))).set (w64 (a1+x4)).toNat (gt x3 a1)) 0 x4 a1).bind fun r2=>(Q119.l1 k a1 r2 (w64 (x4 - 1)))) else none) else none) else (some x3)
def Q119.l0:Nat→(Int)→(Int)→(List (Int))→(Int)→Option (List (Int))
 | 0,_,_,_,_=>none
 | k+1,a1,a2,x1,x2=>if (decide (0≤x2))=true then ((Q130.f k x1 x2 (w64 (a2 - a1)) a1).bind fun r1=>(Q119.l0 k a1 a2 r1 (w64 (x2 - 1)))) else (Q119.l1 k a1 x1 (w64 ((w64 (a2 - a1)) - 1)))
def Q119.f (k:Nat) (a0:List (Int)) (a1:Int) (a2:Int):Option (List (Int)):=Q119.l0 k a1 a2 a0 (w64 (Int.tdiv (w64 ((w64 (a2 - a1)) - 1)) 2))
theorem Q119.spec {k:Nat} {a0:List (Int)} {a1:Int} {a2:Int} {A1:Option Addr} {c_1:Nat} {r:List (Int)} (H:Q119.f k a0 a1 a2=some r) :
  Spec Tryz.prog 235 [.slice A1 a0.length c_1,.int .i64 a1,.int .i64 a2] [O33 a0 A1 c_1] [] (fun v l=>v=.tuple #[]∧l=[O33 r A1 c_1]∧r.length=a0.length):=by
 refine Zp Tryz.func235 fun w0 F0 h0=>?_
 unfold Q119.f at H
 refine J.seq (Zc [0,1,2,6] ?_)
 refine J.seq (Zc [0,1,2,6,7] ?_)
 refine J.seq (Zc [0,6,7,8] ?_)
 refine J.seq (J.seq (Zc [0,6,7,8,9] ?_))
 refine J.block ?_
 have h16:=(sOR h0 [0] [])
 refine J.loop (fun kk env w=>∃(x1:List (Int)) (x2:Int),env=[(0,.slice A1 x1.length c_1),(6,.int .i64 a1),(7,.int .i64 0),(8,.int .i64 (w64 (a2 - a1))),(9,.int .i64 x2)]∧St w0 F0 [O33 x1 A1 c_1] [] w∧Q119.l0 kk a1 a2 x1 x2=some r∧x1.length=a0.length) (k:=k) ⟨a0,(w64 (Int.tdiv (w64 ((w64 (a2 - a1)) - 1)) 2)),rfl,h16,H,(rfl:a0.length=a0.length)⟩ ?_
 rintro k1 env w1 ⟨x1,x2,rfl,h1,H,e1⟩
 rcases k1 with _ | k1
 ·exact z0 H
 rw [Q119.l0] at H
 refine J.seq (J.seq (Zc [0,6,7,8,9,19] ?_))
 refine jIf H (fun c1 H=>?_) fun c1 H=>?_
 ·refine J.skip (J.seq (J.block (J.region ?_)))
  refine Zh 4 ?_
  obtain ⟨r1,q1,H⟩:=Zn H
  refine Ze (Zf [0] (Q130.spec q1) h1 rfl Zs) ?_
  rintro _ w2 ⟨_,⟨rfl,rfl,q2⟩,h2⟩
  replace h2:=nf h2
  have e2:r1.length=a0.length:=q2.trans e1
  refine Zi [0,6,7,8,9] rfl ?_
  refine J.envEq (env':=[(0,.slice A1 r1.length c_1),(6,.int .i64 a1),(7,.int .i64 0),(8,.int .i64 (w64 (a2 - a1))),(9,.int .i64 x2)]) (by simp only [q2,List.length_nil] <;> rfl) ?_
  refine Zc [0,6,7,8,9] ?_
  have h3:=(sOR h2 [0] [])
  exact ⟨k1,by omega,r1,(w64 (x2 - 1)),rfl,h3,H,e2⟩
 refine J.exit (J.seq (Zc [0,6,7,10] ?_))
 refine J.block ?_
 have h15:=(sOR h1 [0] [])
 refine J.loop (fun kk env w=>∃(x3:List (Int)) (x4:Int),env=[(0,.slice A1 x3.length c_1),(6,.int .i64 a1),(7,.int .i64 0),(10,.int .i64 x4)]∧St w0 F0 [O33 x3 A1 c_1] [] w∧Q119.l1 kk a1 x3 x4=some r∧x3.length=a0.length) (k:=k1) ⟨x1,(w64 ((w64 (a2 - a1)) - 1)),rfl,h15,H,e1⟩ ?_
 rintro k2 env w3 ⟨x3,x4,rfl,h4,H,e3⟩
 rcases k2 with _ | k2
 ·exact z0 H
 rw [Q119.l1] at H
 refine J.seq (J.seq (Zc [0,6,7,10,30] ?_))
 refine jIf H (fun c2 H=>?_) fun c2 H=>?_
 ·refine J.skip (J.seq (J.block (J.seq ?_)))
  obtain ⟨⟨p1,p2⟩,H⟩:=Zt H
  obtain ⟨⟨p3,p4⟩,H⟩:=Zt H
  refine J.midS (fun env w=>env=[(0,.slice A1 ((x3.set a1.toNat (gt x3 (w64 (a1+x4)))).set (w64 (a1+x4)).toNat (gt x3 a1)).length c_1),(6,.int .i64 a1),(7,.int .i64 0),(10,.int .i64 x4)]∧St w0 F0 [O33 ((x3.set a1.toNat (gt x3 (w64 (a1+x4)))).set (w64 (a1+x4)).toNat (gt x3 a1)) A1 c_1] [] w) ?_ ?_
  ·refine Zv (Zb h4 []) ?_
   have h7:=h4.drew
   refine Zu [0,1,2,3,4,5,6,7,8,9,12,13] ?_
   have e7:=Z6 h7.wh (gO 0) p1 p2
   refine Zj 10 rfl (Zk e7 p1 p2) ?_
   refine Zj 14 rfl (Zk e7 p3 p4) ?_
   refine HJ.pick [11,15] (i:=11) rfl rfl rfl rfl ?_
   refine (Yc ?_ (Yc ?_ Xa))
   ·refine Z5 11 rfl (OpT.ofq (Zl 0 h7.wht (gO 0) p1 p2)) ?_
    rintro _ _ ⟨rfl,rfl⟩
    replace h7:=nf h7
    refine ⟨⟨[_],h7⟩,?_⟩
    refine Zq 15 rfl (OpT.ofq (Zl 0 h7.wht (gO 0) p3 p4)) ?_
    rintro _ _ ⟨rfl,rfl⟩
    replace h7:=nf h7
    refine ⟨⟨[_],h7⟩,?_⟩
    refine Zj 16 rfl (Zk e7 p3 p4) ?_
    refine Zq 17 rfl (Zr 0 (.int .u32) a1 (gt x3 (w64 (a1+x4))) 0 h7 rfl p3 p4) ?_
    intro _ w6 h8
    replace h8:=nf h8
    refine ⟨⟨[_],h8⟩,?_⟩
    have e8:(x3.set a1.toNat (gt x3 (w64 (a1+x4)))).length=a0.length:=List.length_set.trans e3
    refine Zj 18 rfl (Zk e7 p1 p2) ?_
    refine Zq 19 rfl (Zr 0 (.int .u32) (w64 (a1+x4)) (gt x3 a1) 0 h8 rfl p1 (by simpa only [List.length_set] using p2)) ?_
    intro _ w7 h9
    replace h9:=nf h9
    refine ⟨⟨[_],h9⟩,?_⟩
    have e9:((x3.set a1.toNat (gt x3 (w64 (a1+x4)))).set (w64 (a1+x4)).toNat (gt x3 a1)).length=a0.length:=List.length_set.trans e8
    refine Zw [0,6,7,10] ?_
    exact Z2 ⟨(by simp only [List.length_set,List.length_nil] <;> rfl),((h9.only [0] rfl).rds [] rfl)⟩
   ·refine Z5 15 rfl (OpT.ofq (Zl 0 h7.wht (gO 0) p3 p4)) ?_
    rintro _ _ ⟨rfl,rfl⟩
    replace h7:=nf h7
    refine ⟨⟨[_],h7⟩,?_⟩
    refine Zq 11 rfl (OpT.ofq (Zl 0 h7.wht (gO 0) p1 p2)) ?_
    rintro _ _ ⟨rfl,rfl⟩
    replace h7:=nf h7
    refine ⟨⟨[_],h7⟩,?_⟩
    refine Zj 16 rfl (Zk e7 p3 p4) ?_
    refine Zq 17 rfl (Zr 0 (.int .u32) a1 (gt x3 (w64 (a1+x4))) 0 h7 rfl p3 p4) ?_
    intro _ w8 h10
    replace h10:=nf h10
    refine ⟨⟨[_],h10⟩,?_⟩
    have e10:(x3.set a1.toNat (gt x3 (w64 (a1+x4)))).length=a0.length:=List.length_set.trans e3
    refine Zj 18 rfl (Zk e7 p1 p2) ?_
    refine Zq 19 rfl (Zr 0 (.int .u32) (w64 (a1+x4)) (gt x3 a1) 0 h10 rfl p1 (by simpa only [List.length_set] using p2)) ?_
    intro _ w9 h11
    replace h11:=nf h11
    refine ⟨⟨[_],h11⟩,?_⟩
    have e11:((x3.set a1.toNat (gt x3 (w64 (a1+x4)))).set (w64 (a1+x4)).toNat (gt x3 a1)).length=a0.length:=List.length_set.trans e10
    refine Zw [0,6,7,10] ?_
    exact Z2 ⟨(by simp only [List.length_set,List.length_nil] <;> rfl),((h11.only [0] rfl).rds [] rfl)⟩
  rintro env w10 ⟨rfl,h12⟩
  have e12:((x3.set a1.toNat (gt x3 (w64 (a1+x4)))).set (w64 (a1+x4)).toNat (gt x3 a1)).length=a0.length:=by first | (simp only [List.length_set]; done) | (simp only [List.length_set]; exact e3)
  refine J.region (Zh 4 ?_)
  obtain ⟨r2,q3,H⟩:=Zn H
  refine Ze (Zf [0] (Q130.spec q3) h12 rfl Zs) ?_
  rintro _ w11 ⟨_,⟨rfl,rfl,q4⟩,h13⟩
  replace h13:=nf h13
  have e13:r2.length=a0.length:=q4.trans e12
  refine Zi [0,6,7,10] rfl ?_
  refine J.envEq (env':=[(0,.slice A1 r2.length c_1),(6,.int .i64 a1),(7,.int .i64 0),(10,.int .i64 x4)]) (by simp only [q4,List.length_nil] <;> rfl) ?_
  refine Zc [0,6,7,10] ?_
  have h14:=(sOR h13 [0] [])
  exact ⟨k2,by omega,r2,(w64 (x4 - 1)),rfl,h14,H,e13⟩
 refine J.exit ?_
 cases H
 exact ⟨_,_,_,Za,⟨rfl,rfl,e3⟩,Zb h4 [0]⟩

def Q124.f (a0:List (Int)) (a1:Int) (a2:Int) (a3:Int):Option (Int×Int×Int):=if 0≤a2∧a2<(a0.length:Int) then (if 0≤a1∧a1<(a0.length:Int) then ((Q32.f (gt a0 a2) (gt a0 a1)).bind fun r1=>(if r1=true then (some (a2,a1,(w64 (a3+1)))) else (some (a1,a2,a3)))) else none) else none
theorem Q124.spec {a0:List (Int)} {a1:Int} {a2:Int} {a3:Int} {A1:Option Addr} {c_1:Nat} {b1:Nat} {r:Int×Int×Int} (H:Q124.f a0 a1 a2 a3=some r) :
  Spec Tryz.prog 253 [.slice A1 a0.length c_1,.int .i64 a1,.int .i64 a2,.pointer (some ⟨b1,0,none⟩)] [X3 b1 a3] [R33 a0 A1 c_1] (fun v l=>v=.tuple #[.int .i64 r.1,.int .i64 r.2.1]∧l=[X3 b1 r.2.2]):=by
 refine Zp Tryz.func253 fun w0 F0 h0=>?_
 unfold Q124.f at H
 refine J.seq (Zc [0,1,2,3] ?_)
 refine J.seq (J.seq ?_)
 refine Zv h0 ?_
 have h1:=h0.drew
 refine Zu [0,1,4,5] ?_
 obtain ⟨⟨p1,p2⟩,H⟩:=Zt H
 have e1:=Z6 h1.wh (Zm 1) p1 p2
 refine Zj 2 rfl (Zk e1 p1 p2) ?_
 refine Zj 3 rfl (Zl 0 wI (Zm 1) p1 p2) ?_
 obtain ⟨⟨p3,p4⟩,H⟩:=Zt H
 refine Zj 6 rfl (Zk e1 p3 p4) ?_
 refine Zj 7 rfl (Zl 0 wI (Zm 1) p3 p4) ?_
 obtain ⟨r1,q1,H⟩:=Zn H
 refine Zq 8 rfl (Zf [] (Q32.spec q1) h1 rfl Zs) ?_
 rintro _ w1 ⟨_,⟨rfl,rfl⟩,h2⟩
 replace h2:=nf h2
 refine ⟨⟨[],h2⟩,?_⟩
 refine Zw [1,2,3,18] ?_
 refine jIf H (fun c1 H=>?_) fun c1 H=>?_
 ·refine J.seq (J.region ?_)
  refine Zh 2 ?_
  refine Zg (Zd 0 h2.wht) ?_
  refine Zh 2 ?_
  refine Ze (Z3 0 h2) ?_
  intro _ w2 h3
  replace h3:=nf h3
  refine Zi [1,2] rfl ?_
  refine J.seq (Zc [8,9] ?_)
  refine J.ret ?_
  cases H
  exact ⟨_,_,_,Za,⟨rfl,rfl⟩,Zb h3 [0]⟩
 refine J.skip (J.seq (Zc [8,9] ?_))
 refine J.ret ?_
 cases H
 exact ⟨_,_,_,Za,⟨rfl,rfl⟩,Zb h2 [0]⟩

def Q122.f (a0:List (Int)) (a1:Int) (a2:Int) (a3:Int) (a4:Int):Option (Int×Int):=(Q124.f a0 a1 a2 a4).bind fun r1=>((Q124.f a0 r1.2.1 a3 r1.2.2).bind fun r2=>((Q124.f a0 r1.1 r2.1 r2.2.2).bind fun r3=>(some r3.2)))
theorem Q122.spec {a0:List (Int)} {a1:Int} {a2:Int} {a3:Int} {a4:Int} {A1:Option Addr} {c_1:Nat} {b1:Nat} {r:Int×Int} (H:Q122.f a0 a1 a2 a3 a4=some r) :
  Spec Tryz.prog 251 [.slice A1 a0.length c_1,.int .i64 a1,.int .i64 a2,.int .i64 a3,.pointer (some ⟨b1,0,none⟩)] [X3 b1 a4] [R33 a0 A1 c_1] (fun v l=>v=.int .i64 r.1∧l=[X3 b1 r.2]):=by
 refine Zp Tryz.func251 fun w0 F0 h0=>?_
 unfold Q122.f at H
 refine J.seq (Zc [0,1,2,3,4] ?_)
 refine J.seq (J.region ?_)
 refine Zh 4 ?_
 obtain ⟨r1,q1,H⟩:=Zn H
 refine Ze (Zf [0] (Q124.spec q1) h0 rfl (Z0 (Zm 0) Zs)) ?_
 rintro _ w1 ⟨_,⟨rfl,rfl⟩,h1⟩
 replace h1:=nf h1
 refine Zi [0,1,2,3,4] rfl ?_
 refine J.seq (J.region ?_)
 refine Zh 4 ?_
 obtain ⟨r2,q2,H⟩:=Zn H
 refine Ze (Zf [0] (Q124.spec q2) h1 rfl (Z0 (Zm 0) Zs)) ?_
 rintro _ w2 ⟨_,⟨rfl,rfl⟩,h2⟩
 replace h2:=nf h2
 refine Zi [0,1,2,4] rfl ?_
 refine J.seq (J.region ?_)
 refine Zh 4 ?_
 obtain ⟨r3,q3,H⟩:=Zn H
 refine Ze (Zf [0] (Q124.spec q3) h2 rfl (Z0 (Zm 0) Zs)) ?_
 rintro _ w3 ⟨_,⟨rfl,rfl⟩,h3⟩
 replace h3:=nf h3
 refine Zi [2] rfl ?_
 refine J.seq (Zc [10] ?_)
 refine J.ret ?_
 cases H
 exact ⟨_,_,_,Za,⟨rfl,rfl⟩,Zb h3 [0]⟩

def Q121.f (a0:List (Int)) (a1:Int) (a2:Int):Option (Int×Int):=(Q122.f a0 (w64 (a1 - 1)) a1 (w64 (a1+1)) a2).bind fun r1=>(some r1)
theorem Q121.spec {a0:List (Int)} {a1:Int} {a2:Int} {A1:Option Addr} {c_1:Nat} {b1:Nat} {r:Int×Int} (H:Q121.f a0 a1 a2=some r) :
  Spec Tryz.prog 250 [.slice A1 a0.length c_1,.int .i64 a1,.pointer (some ⟨b1,0,none⟩)] [X3 b1 a2] [R33 a0 A1 c_1] (fun v l=>v=.int .i64 r.1∧l=[X3 b1 r.2]):=by
 refine Zp Tryz.func250 fun w0 F0 h0=>?_
 unfold Q121.f at H
 refine J.seq (Zc [0,1,2] ?_)
 refine J.seq (J.region ?_)
 refine Zh 7 ?_
 obtain ⟨r1,q1,H⟩:=Zn H
 refine Ze (Zf [0] (Q122.spec q1) h0 rfl (Z0 (Zm 0) Zs)) ?_
 rintro _ w1 ⟨_,⟨rfl,rfl⟩,h1⟩
 replace h1:=nf h1
 refine Zi [6] rfl ?_
 refine J.ret ?_
 cases H
 exact ⟨_,_,_,Za,⟨rfl,rfl⟩,Zb h1 [0]⟩

def Q118.f (a0:List (Int)) (a1:Int) (a2:Int):Option (Int×Int):=if (decide (8≤(w64 (a2 - a1))))=true then (if (decide (50≤(w64 (a2 - a1))))=true then ((Q121.f a0 (w64 (a1+(w64 ((w64 (Int.tdiv (w64 (a2 - a1)) 4))*1)))) 0).bind fun r1=>((Q121.f a0 (w64 (a1+(w64 ((w64 (Int.tdiv (w64 (a2 - a1)) 4))*2)))) r1.2).bind fun r2=>((Q121.f a0 (w64 (a1+(w64 ((w64 (Int.tdiv (w64 (a2 - a1)) 4))*3)))) r2.2).bind fun r3=>((Q122.f a0 r1.1 r2.1 r3.1 r3.2).bind fun r4=>(if (decide (r4.2=0))=true then (some (r4.1,1)) else (if (decide (r4.2=12))=true then (some (r4.1,2)) else (some (r4.1,0)))))))) else ((Q122.f a0 (w64 (a1+(w64 ((w64 (Int.tdiv (w64 (a2 - a1)) 4))*1)))) (w64 (a1+(w64 ((w64 (Int.tdiv (w64 (a2 - a1)) 4))*2)))) (w64 (a1+(w64 ((w64 (Int.tdiv (w64 (a2 - a1)) 4))*3)))) 0).bind fun r5=>(if (decide (r5.2=0))=true then (some (r5.1,1)) else (if (decide (r5.2=12))=true then (some (r5.1,2)) else (some (r5.1,0)))))) else (some ((w64 (a1+(w64 ((w64 (Int.tdiv (w64 (a2 - a1)) 4))*2)))),1))
theorem Q118.spec {a0:List (Int)} {a1:Int} {a2:Int} {A1:Option Addr} {c_1:Nat} {r:Int×Int} (H:Q118.f a0 a1 a2=some r) :
  Spec Tryz.prog 237 [.slice A1 a0.length c_1,.int .i64 a1,.int .i64 a2] [] [R33 a0 A1 c_1] (fun v l=>v=.tuple #[.int .i64 r.1,.int .i64 r.2]∧l=[]):=by
 refine Zp Tryz.func237 fun w0 F0 h0=>?_
 unfold Q118.f at H
 refine J.seq (Zc [0,1,2] ?_)
 refine J.seq (Zc [0,1,8] ?_)
 refine J.seq (J.region ?_)
 refine Ze (Yq h0) ?_
 rintro _ w1 ⟨b1,rfl,h1⟩
 replace h1:=nf h1
 refine Zi [0,1,8,9] rfl ?_
 refine J.seq (Zc [0,1,8,9,10] ?_)
 refine J.seq (Zc [0,1,8,9,10,11] ?_)
 refine J.seq (Zc [0,8,9,10,11,12] ?_)
 refine J.seq (J.seq (Zc [0,8,9,10,11,12,32] ?_))
 refine jIf H (fun c1 H=>?_) fun c1 H=>?_
 ·refine J.seq (J.seq (Zc [0,9,10,11,12,34] ?_))
  refine jIf H (fun c2 H=>?_) fun c2 H=>?_
  ·refine J.seq (J.region ?_)
   refine Zh 2 ?_
   obtain ⟨r1,q1,H⟩:=Zn H
   refine Ze (Zf [0] (Q121.spec q1) h1 rfl (Z0 (Zm 0) Zs)) ?_
   rintro _ w2 ⟨_,⟨rfl,rfl⟩,h2⟩
   replace h2:=nf h2
   refine Zi [0,9,10,11,12] rfl ?_
   refine J.seq (J.region ?_)
   refine Zh 2 ?_
   obtain ⟨r2,q2,H⟩:=Zn H
   refine Ze (Zf [0] (Q121.spec q2) h2 rfl (Z0 (Zm 0) Zs)) ?_
   rintro _ w3 ⟨_,⟨rfl,rfl⟩,h3⟩
   replace h3:=nf h3
   refine Zi [0,9,10,11,12] rfl ?_
   refine J.region (Zh 2 ?_)
   obtain ⟨r3,q3,H⟩:=Zn H
   refine Ze (Zf [0] (Q121.spec q3) h3 rfl (Z0 (Zm 0) Zs)) ?_
   rintro _ w4 ⟨_,⟨rfl,rfl⟩,h4⟩
   replace h4:=nf h4
   refine Zi [0,9,10,11,12] rfl ?_
   refine J.region (Zh 4 ?_)
   obtain ⟨r4,q4,H⟩:=Zn H
   refine Ze (Zf [0] (Q122.spec q4) h4 rfl (Z0 (Zm 0) Zs)) ?_
   rintro _ w5 ⟨_,⟨rfl,rfl⟩,h5⟩
   replace h5:=nf h5
   refine Zi [9,11] rfl ?_
   refine J.seq (J.region ?_)
   refine Zg (Zd 0 h5.wht) ?_
   refine Zi [11,49] rfl ?_
   refine J.block (J.seq (Zc [11,49,51] ?_))
   refine jIf H (fun c3 H=>?_) fun c3 H=>?_
   ·refine J.seq (Zc [6,7] ?_)
    refine J.ret ?_
    cases H
    exact ⟨_,_,_,Za,⟨rfl,rfl⟩,Zb h5 []⟩
   refine J.seq (Zc [11,54] ?_)
   refine jIf H (fun c4 H=>?_) fun c4 H=>?_
   ·refine J.seq (Zc [6,7] ?_)
    refine J.ret ?_
    cases H
    exact ⟨_,_,_,Za,⟨rfl,rfl⟩,Zb h5 []⟩
   refine J.seq (Zc [6,7] ?_)
   refine J.ret ?_
   cases H
   exact ⟨_,_,_,Za,⟨rfl,rfl⟩,Zb h5 []⟩
  refine J.skip (J.region (Zh 4 ?_))
  obtain ⟨r5,q5,H⟩:=Zn H
  refine Ze (Zf [0] (Q122.spec q5) h1 rfl (Z0 (Zm 0) Zs)) ?_
  rintro _ w6 ⟨_,⟨rfl,rfl⟩,h6⟩
  replace h6:=nf h6
  refine Zi [9,11] rfl ?_
  refine J.seq (J.region ?_)
  refine Zg (Zd 0 h6.wht) ?_
  refine Zi [11,49] rfl ?_
  refine J.block (J.seq (Zc [11,49,51] ?_))
  refine jIf H (fun c5 H=>?_) fun c5 H=>?_
  ·refine J.seq (Zc [6,7] ?_)
   refine J.ret ?_
   cases H
   exact ⟨_,_,_,Za,⟨rfl,rfl⟩,Zb h6 []⟩
  refine J.seq (Zc [11,54] ?_)
  refine jIf H (fun c6 H=>?_) fun c6 H=>?_
  ·refine J.seq (Zc [6,7] ?_)
   refine J.ret ?_
   cases H
   exact ⟨_,_,_,Za,⟨rfl,rfl⟩,Zb h6 []⟩
  refine J.seq (Zc [6,7] ?_)
  refine J.ret ?_
  cases H
  exact ⟨_,_,_,Za,⟨rfl,rfl⟩,Zb h6 []⟩
 refine J.skip (J.seq (J.region ?_))
 refine Zg (Zd 0 h1.wht) ?_
 refine Zi [11,49] rfl ?_
 refine J.block (J.seq (Zc [11,49,51] ?_))
 refine Zo ?_
 refine J.seq (Zc [6,7] ?_)
 refine J.ret ?_
 cases H
 exact ⟨_,_,_,Za,⟨rfl,rfl⟩,Zb h1 []⟩

def Q129.l0:Nat→(List (Int))→(Int)→(Int)→Option (List (Int))
 | 0,_,_,_=>none
 | k+1,x1,x2,x3=>if (decide (x2<x3))=true then (if 0≤x3∧x3<(x1.length:Int) then (if 0≤x2∧x2<(x1.length:Int) then (Q129.l0 k ((x1.set x2.toNat (gt x1 x3)).set x3.toNat (gt x1 x2)) (w64 (x2+1)) (w64 (x3 - 1))) else none) else none) else (some x1)
def Q129.f (k:Nat) (a0:List (Int)) (a1:Int) (a2:Int):Option (List (Int)):=Q129.l0 k a0 a1 (w64 (a2 - 1))
theorem Q129.spec {k:Nat} {a0:List (Int)} {a1:Int} {a2:Int} {A1:Option Addr} {c_1:Nat} {r:List (Int)} (H:Q129.f k a0 a1 a2=some r) :
  Spec Tryz.prog 238 [.slice A1 a0.length c_1,.int .i64 a1,.int .i64 a2] [O33 a0 A1 c_1] [] (fun v l=>v=.tuple #[]∧l=[O33 r A1 c_1]∧r.length=a0.length):=by
 refine Zp Tryz.func238 fun w0 F0 h0=>?_
 unfold Q129.f at H
 refine J.seq (Zc [0,2,6] ?_)
 refine J.seq (Zc [0,6,7] ?_)
 refine J.block ?_
 have h11:=(sOR h0 [0] [])
 refine J.loop (fun kk env w=>∃(x1:List (Int)) (x2:Int) (x3:Int),env=[(0,.slice A1 x1.length c_1),(6,.int .i64 x2),(7,.int .i64 x3)]∧St w0 F0 [O33 x1 A1 c_1] [] w∧Q129.l0 kk x1 x2 x3=some r∧x1.length=a0.length) (k:=k) ⟨a0,a1,(w64 (a2 - 1)),rfl,h11,H,(rfl:a0.length=a0.length)⟩ ?_
 rintro k1 env w1 ⟨x1,x2,x3,rfl,h1,H,e1⟩
 rcases k1 with _ | k1
 ·exact z0 H
 rw [Q129.l0] at H
 refine J.seq (J.seq (Zc [0,6,7,13] ?_))
 refine jIf H (fun c1 H=>?_) fun c1 H=>?_
 ·refine J.skip (J.block (J.seq ?_))
  obtain ⟨⟨p1,p2⟩,H⟩:=Zt H
  obtain ⟨⟨p3,p4⟩,H⟩:=Zt H
  refine J.midS (fun env w=>env=[(0,.slice A1 ((x1.set x2.toNat (gt x1 x3)).set x3.toNat (gt x1 x2)).length c_1),(6,.int .i64 x2),(7,.int .i64 x3)]∧St w0 F0 [O33 ((x1.set x2.toNat (gt x1 x3)).set x3.toNat (gt x1 x2)) A1 c_1] [] w) ?_ ?_
  ·refine Zv (Zb h1 []) ?_
   have h4:=h1.drew
   refine Zu [0,1,2,3,4,5,8,9] ?_
   have e5:=Z6 h4.wh (gO 0) p1 p2
   refine Zj 6 rfl (Zk e5 p1 p2) ?_
   refine Zj 10 rfl (Zk e5 p3 p4) ?_
   refine HJ.pick [7,11] (i:=7) rfl rfl rfl rfl ?_
   refine (Yc ?_ (Yc ?_ Xa))
   ·refine Z5 7 rfl (OpT.ofq (Zl 0 h4.wht (gO 0) p1 p2)) ?_
    rintro _ _ ⟨rfl,rfl⟩
    replace h4:=nf h4
    refine ⟨⟨[_],h4⟩,?_⟩
    refine Zq 11 rfl (OpT.ofq (Zl 0 h4.wht (gO 0) p3 p4)) ?_
    rintro _ _ ⟨rfl,rfl⟩
    replace h4:=nf h4
    refine ⟨⟨[_],h4⟩,?_⟩
    refine Zj 12 rfl (Zk e5 p3 p4) ?_
    refine Zq 13 rfl (Zr 0 (.int .u32) x2 (gt x1 x3) 0 h4 rfl p3 p4) ?_
    intro _ w4 h5
    replace h5:=nf h5
    refine ⟨⟨[_],h5⟩,?_⟩
    have e6:(x1.set x2.toNat (gt x1 x3)).length=a0.length:=List.length_set.trans e1
    refine Zj 14 rfl (Zk e5 p1 p2) ?_
    refine Zq 15 rfl (Zr 0 (.int .u32) x3 (gt x1 x2) 0 h5 rfl p1 (by simpa only [List.length_set] using p2)) ?_
    intro _ w5 h6
    replace h6:=nf h6
    refine ⟨⟨[_],h6⟩,?_⟩
    have e7:((x1.set x2.toNat (gt x1 x3)).set x3.toNat (gt x1 x2)).length=a0.length:=List.length_set.trans e6
    refine Zw [0,6,7] ?_
    exact Z2 ⟨(by simp only [List.length_set,List.length_nil] <;> rfl),((h6.only [0] rfl).rds [] rfl)⟩
   ·refine Z5 11 rfl (OpT.ofq (Zl 0 h4.wht (gO 0) p3 p4)) ?_
    rintro _ _ ⟨rfl,rfl⟩
    replace h4:=nf h4
    refine ⟨⟨[_],h4⟩,?_⟩
    refine Zq 7 rfl (OpT.ofq (Zl 0 h4.wht (gO 0) p1 p2)) ?_
    rintro _ _ ⟨rfl,rfl⟩
    replace h4:=nf h4
    refine ⟨⟨[_],h4⟩,?_⟩
    refine Zj 12 rfl (Zk e5 p3 p4) ?_
    refine Zq 13 rfl (Zr 0 (.int .u32) x2 (gt x1 x3) 0 h4 rfl p3 p4) ?_
    intro _ w6 h7
    replace h7:=nf h7
    refine ⟨⟨[_],h7⟩,?_⟩
    have e8:(x1.set x2.toNat (gt x1 x3)).length=a0.length:=List.length_set.trans e1
    refine Zj 14 rfl (Zk e5 p1 p2) ?_
    refine Zq 15 rfl (Zr 0 (.int .u32) x3 (gt x1 x2) 0 h7 rfl p1 (by simpa only [List.length_set] using p2)) ?_
    intro _ w7 h8
    replace h8:=nf h8
    refine ⟨⟨[_],h8⟩,?_⟩
    have e9:((x1.set x2.toNat (gt x1 x3)).set x3.toNat (gt x1 x2)).length=a0.length:=List.length_set.trans e8
    refine Zw [0,6,7] ?_
    exact Z2 ⟨(by simp only [List.length_set,List.length_nil] <;> rfl),((h8.only [0] rfl).rds [] rfl)⟩
  rintro env w8 ⟨rfl,h9⟩
  have e10:((x1.set x2.toNat (gt x1 x3)).set x3.toNat (gt x1 x2)).length=a0.length:=by first | (simp only [List.length_set]; done) | (simp only [List.length_set]; exact e1)
  refine J.seq (Zc [0,6,7] ?_)
  refine Zc [0,6,7] ?_
  have h10:=(sOR h9 [0] [])
  exact ⟨k1,by omega,((x1.set x2.toNat (gt x1 x3)).set x3.toNat (gt x1 x2)),(w64 (x2+1)),(w64 (x3 - 1)),rfl,h10,H,e10⟩
 refine J.exit ?_
 cases H
 exact ⟨_,_,_,Za,⟨rfl,rfl,e1⟩,Zb h1 [0]⟩

mutual
def Q125.l0:Nat→(Int)→(Int)→(List (Int))→(Int)→(Int)→Option (Bool×List (Int))
 | 0,_,_,_,_,_=>none
 | k+1,a1,a2,x1,x2,x3=>if (decide (x3<5))=true then (Q125.l3 k a1 a2 x1 x3 x2) else (some (false,x1))
def Q125.l1:Nat→(Int)→(Int)→(Int)→(Int)→(List (Int))→(Int)→Option (Bool×List (Int))
 | 0,_,_,_,_,_,_=>none
 | k+1,a1,a2,x3,x6,x9,x10=>if (decide (x10<a2))=true then (if 0≤x10∧x10<(x9.length:Int) then (if 0≤(w64 (x10 - 1))∧(w64 (x10 - 1))<(x9.length:Int) then ((Q32.f (gt x9 x10) (gt x9 (w64 (x10 - 1)))).bind fun r1=>(if (!r1)=true then (Q125.l0 k a1 a2 x9 x6 (w64 (x3+1))) else (Q125.l1 k a1 a2 x3 x6 ((x9.set x10.toNat (gt x9 (w64 (x10 - 1)))).set (w64 (x10 - 1)).toNat (gt x9 x10)) (w64 (x10+1))))) else none) else none) else (Q125.l0 k a1 a2 x9 x6 (w64 (x3+1)))
def Q125.l2:Nat→(Int)→(Int)→(Int)→(Int)→(List (Int))→(Int)→Option (Bool×List (Int))
 | 0,_,_,_,_,_,_=>none
 | k+1,a1,a2,x3,x6,x11,x12=>if (decide (1≤x12))=true then (if 0≤x12∧x12<(x11.length:Int) then (if 0≤(w64 (x12 - 1))∧(w64 (x12 - 1))<(x11.length:Int) then ((Q32.f (gt x11 x12) (gt x11 (w64 (x12 - 1)))).bind fun r2=>(if (!r2)=true then (if (decide (2≤(w64 (a2 - x6))))=true then (Q125.l1 k a1 a2 x3 x6 x11 (w64 (x6+1))) else (Q125.l0 k a1 a2 x11 x6 (w64 (x3+1)))) else (Q125.l2 k a1 a2 x3 x6 ((x11.set x12.toNat (gt x11 (w64 (x12 - 1)))).set (w64 (x12 - 1)).toNat (gt x11 x12)) (w64 (x12 - 1))))) else none) else none) else (if (decide (2≤(w64 (a2 - x6))))=true then (Q125.l1 k a1 a2 x3 x6 x11 (w64 (x6+1))) else (Q125.l0 k a1 a2 x11 x6 (w64 (x3+1))))
def Q125.l3:Nat→(Int)→(Int)→(List (Int))→(Int)→(Int)→Option (Bool×List (Int))
 | 0,_,_,_,_,_=>none
 | k+1,a1,a2,x1,x3,x13=>if (decide (x13<a2))=true then (if 0≤x13∧x13<(x1.length:Int) then (if 0≤(w64 (x13 - 1))∧(w64 (x13 - 1))<(x1.length:Int) then ((Q32.f (gt x1 x13) (gt x1 (w64 (x13 - 1)))).bind fun r3=>(if (!r3)=true then (Q125.l3 k a1 a2 x1 x3 (w64 (x13+1))) else (if (decide (x13=a2))=true then (some (true,x1)) else (if (decide ((w64 (a2 - a1))<50))=true then (some (false,x1)) else (if 0≤(w64 (x13 - 1))∧(w64 (x13 - 1))<(x1.length:Int) then (if 0≤x13∧x13<(x1.length:Int) then (if (decide (2≤(w64 (x13 - a1))))=true then (Q125.l2 k a1 a2 x3 x13 ((x1.set x13.toNat (gt x1 (w64 (x13 - 1)))).set (w64 (x13 - 1)).toNat (gt x1 x13)) (w64 (x13 - 1))) else (if (decide (2≤(w64 (a2 - x13))))=true then (Q125.l1 k a1 a2 x3 x13 ((x1.set x13.toNat (gt x1 (w64 (x13 - 1)))).set (w64 (x13 - 1)).toNat (gt x1 x13)) (w64 (x13+1))) else (Q125.l0 k a1 a2 ((x1.set x13.toNat (gt x1 (w64 (x13 - 1)))).set (w64 (x13 - 1)).toNat (gt x1 x13)) x13 (w64 (x3+1))))) else none) else none))))) else none) else none) else (if (decide (x13=a2))=true then (some (true,x1)) else (if (decide ((w64 (a2 - a1))<50))=true then (some (false,x1)) else (if 0≤(w64 (x13 - 1))∧(w64 (x13 - 1))<(x1.length:Int) then (if 0≤x13∧x13<(x1.length:Int) then (if (decide (2≤(w64 (x13 - a1))))=true then (Q125.l2 k a1 a2 x3 x13 ((x1.set x13.toNat (gt x1 (w64 (x13 - 1)))).set (w64 (x13 - 1)).toNat (gt x1 x13)) (w64 (x13 - 1))) else (if (decide (2≤(w64 (a2 - x13))))=true then (Q125.l1 k a1 a2 x3 x13 ((x1.set x13.toNat (gt x1 (w64 (x13 - 1)))).set (w64 (x13 - 1)).toNat (gt x1 x13)) (w64 (x13+1))) else (Q125.l0 k a1 a2 ((x1.set x13.toNat (gt x1 (w64 (x13 - 1)))).set (w64 (x13 - 1)).toNat (gt x1 x13)) x13 (w64 (x3+1))))) else none) else none)))
end
def Q125.f (k:Nat) (a0:List (Int)) (a1:Int) (a2:Int):Option (Bool×List (Int)):=Q125.l0 k a1 a2 a0 (w64 (a1+1)) 0
theorem Q125.spec {k:Nat} {a0:List (Int)} {a1:Int} {a2:Int} {A1:Option Addr} {c_1:Nat} {r:Bool×List (Int)} (H:Q125.f k a0 a1 a2=some r) :
  Spec Tryz.prog 239 [.slice A1 a0.length c_1,.int .i64 a1,.int .i64 a2] [O33 a0 A1 c_1] [] (fun v l=>v=.bool r.1∧l=[O33 r.2 A1 c_1]∧r.2.length=a0.length):=by
 refine Zp Tryz.func239 fun w0 F0 h0=>?_
 unfold Q125.f at H
 refine J.seq (Zc [0,1,2] ?_)
 refine J.seq (Zc [0,1,2,7] ?_)
 refine J.seq (J.seq (Zc [0,1,2,7,8] ?_))
 refine J.block ?_
 have h53:=(sOR h0 [0] [])
 refine J.loop (fun kk env w=>∃(x1:List (Int)) (x2:Int) (x3:Int),env=[(0,.slice A1 x1.length c_1),(1,.int .i64 a1),(2,.int .i64 a2),(7,.int .i64 x2),(8,.int .i64 x3)]∧St w0 F0 [O33 x1 A1 c_1] [] w∧Q125.l0 kk a1 a2 x1 x2 x3=some r∧x1.length=a0.length) (k:=k) ⟨a0,(w64 (a1+1)),0,rfl,h53,H,(rfl:a0.length=a0.length)⟩ ?_
 rintro k1 env w1 ⟨x1,x2,x3,rfl,h1,H,e1⟩
 rcases k1 with _ | k1
 ·exact z0 H
 rw [Q125.l0] at H
 refine J.seq (J.seq (Zc [0,1,2,7,8,14] ?_))
 refine jIf H (fun c1 H=>?_) fun c1 H=>?_
 ·refine J.skip (J.seq (J.midS (fun env w=>∃(k2:Nat) (x4:List (Int)) (x5:Int),env=[(0,.slice A1 x4.length c_1),(1,.int .i64 a1),(2,.int .i64 a2),(7,.int .i64 x5),(8,.int .i64 x3)]∧St w0 F0 [O33 x4 A1 c_1] [] w∧(Q125.l0 k2 a1 a2 x4 x5 (w64 (x3+1)))=some r∧k2≤k1∧x4.length=a0.length) ?_ ?_))
  ·refine J.block (J.seq ?_)
   refine J.midS (fun env w=>∃(k3:Nat) (x6:Int) (x7:Bool),env=[(0,.slice A1 x1.length c_1),(1,.int .i64 a1),(2,.int .i64 a2),(7,.int .i64 x6),(8,.int .i64 x3),(32,.bool x7)]∧St w0 F0 [O33 x1 A1 c_1] [] w∧(if (decide (x6=a2))=true then (some (true,x1)) else (if (decide ((w64 (a2 - a1))<50))=true then (some (false,x1)) else (if 0≤(w64 (x6 - 1))∧(w64 (x6 - 1))<(x1.length:Int) then (if 0≤x6∧x6<(x1.length:Int) then (if (decide (2≤(w64 (x6 - a1))))=true then (Q125.l2 k3 a1 a2 x3 x6 ((x1.set x6.toNat (gt x1 (w64 (x6 - 1)))).set (w64 (x6 - 1)).toNat (gt x1 x6)) (w64 (x6 - 1))) else (if (decide (2≤(w64 (a2 - x6))))=true then (Q125.l1 k3 a1 a2 x3 x6 ((x1.set x6.toNat (gt x1 (w64 (x6 - 1)))).set (w64 (x6 - 1)).toNat (gt x1 x6)) (w64 (x6+1))) else (Q125.l0 k3 a1 a2 ((x1.set x6.toNat (gt x1 (w64 (x6 - 1)))).set (w64 (x6 - 1)).toNat (gt x1 x6)) x6 (w64 (x3+1))))) else none) else none)))=some r∧k3≤k1) ?_ ?_
   ·refine J.block (Y7 [0,1,2,7,8] ?_)
    have h52:=(sOR h1 [0] [])
    refine J.loop (fun kk env w=>∃(x13:Int),env=[(0,.slice A1 x1.length c_1),(1,.int .i64 a1),(2,.int .i64 a2),(7,.int .i64 x13),(8,.int .i64 x3)]∧St w0 F0 [O33 x1 A1 c_1] [] w∧Q125.l3 kk a1 a2 x1 x3 x13=some r∧kk≤k1) (k:=k1) ⟨x2,rfl,h52,H,Nat.le_refl _⟩ ?_
    rintro k7 env w33 ⟨x13,rfl,h46,H,hk7⟩
    rcases k7 with _ | k7
    ·exact z0 H
    rw [Q125.l3] at H
    refine J.seq (J.seq ?_)
    refine Zv h46 ?_
    have h47:=h46.drew
    refine Zu [0,1,2,3] ?_
    refine Yh 20 H (fun c10 H=>?_) fun c10 H=>?_
    ·refine Zu [4,5,8,9,10] ?_
     obtain ⟨⟨p13,p14⟩,H⟩:=Zt H
     have e31:=Z6 h47.wh (gO 0) p13 p14
     refine Zj 6 rfl (Zk e31 p13 p14) ?_
     refine Zj 7 rfl (Zl 0 wI (gO 0) p13 p14) ?_
     obtain ⟨⟨p15,p16⟩,H⟩:=Zt H
     refine Zj 11 rfl (Zk e31 p15 p16) ?_
     refine Zj 12 rfl (Zl 0 wI (gO 0) p15 p16) ?_
     obtain ⟨r3,q3,H⟩:=Zn H
     refine Zq 13 rfl (Zf [] (Q32.spec q3) h47 rfl Zs) ?_
     rintro _ w34 ⟨_,⟨rfl,rfl⟩,h48⟩
     replace h48:=nf h48
     refine ⟨⟨[],h48⟩,?_⟩
     refine Zu [14,15] ?_
     refine Zw [0,1,2,7,8,32] ?_
     refine jIf H (fun c11 H=>?_) fun c11 H=>?_
     ·refine J.skip (J.block (Zc [0,1,2,7,8] ?_))
      have h49:=(sOR h48 [0] [])
      exact ⟨k7,by omega,(w64 (x13+1)),rfl,h49,H,by omega⟩
     refine J.exit ?_
     have h50:=(sOR h48 [0] [])
     exact ⟨k7,x13,(!r3),rfl,h50,H,by omega⟩
    refine Zu [4,5,6,7,8,9,10,11,12,13,14,15] ?_
    refine Zw [0,1,2,7,8,32] ?_
    refine Zz ?_
    refine J.exit ?_
    have h51:=(sOR h47 [0] [])
    exact ⟨k7,x13,false,rfl,h51,H,by omega⟩
   rintro env w5 ⟨k3,x6,x7,rfl,h4,H,hk3⟩
   refine J.seq (J.seq (Zc [0,1,2,7,8,37] ?_))
   refine jIf H (fun c2 H=>?_) fun c2 H=>?_
   ·refine J.seq (Zc [6] ?_)
    refine J.ret ?_
    cases H
    exact ⟨_,_,_,Za,⟨rfl,rfl,e1⟩,Zb h4 [0]⟩
   refine J.skip (J.seq (J.seq (Zc [0,1,2,7,8,41] ?_)))
   refine jIf H (fun c3 H=>?_) fun c3 H=>?_
   ·refine J.seq (Zc [6] ?_)
    refine J.ret ?_
    cases H
    exact ⟨_,_,_,Za,⟨rfl,rfl,e1⟩,Zb h4 [0]⟩
   refine J.skip (J.seq ?_)
   obtain ⟨⟨p1,p2⟩,H⟩:=Zt H
   obtain ⟨⟨p3,p4⟩,H⟩:=Zt H
   refine J.midS (fun env w=>env=[(0,.slice A1 ((x1.set x6.toNat (gt x1 (w64 (x6 - 1)))).set (w64 (x6 - 1)).toNat (gt x1 x6)).length c_1),(1,.int .i64 a1),(2,.int .i64 a2),(7,.int .i64 x6),(8,.int .i64 x3)]∧St w0 F0 [O33 ((x1.set x6.toNat (gt x1 (w64 (x6 - 1)))).set (w64 (x6 - 1)).toNat (gt x1 x6)) A1 c_1] [] w) ?_ ?_
   ·refine Zv (Zb h4 []) ?_
    have h7:=h4.drew
    refine Zu [0,1,2,3,4,5,6,7,10,11] ?_
    have e6:=Z6 h7.wh (gO 0) p1 p2
    refine Zj 8 rfl (Zk e6 p1 p2) ?_
    refine Zj 12 rfl (Zk e6 p3 p4) ?_
    refine HJ.pick [9,13] (i:=9) rfl rfl rfl rfl ?_
    refine (Yc ?_ (Yc ?_ Xa))
    ·refine Z5 9 rfl (OpT.ofq (Zl 0 h7.wht (gO 0) p1 p2)) ?_
     rintro _ _ ⟨rfl,rfl⟩
     replace h7:=nf h7
     refine ⟨⟨[_],h7⟩,?_⟩
     refine Zq 13 rfl (OpT.ofq (Zl 0 h7.wht (gO 0) p3 p4)) ?_
     rintro _ _ ⟨rfl,rfl⟩
     replace h7:=nf h7
     refine ⟨⟨[_],h7⟩,?_⟩
     refine Zj 14 rfl (Zk e6 p3 p4) ?_
     refine Zq 15 rfl (Zr 0 (.int .u32) x6 (gt x1 (w64 (x6 - 1))) 0 h7 rfl p3 p4) ?_
     intro _ w8 h8
     replace h8:=nf h8
     refine ⟨⟨[_],h8⟩,?_⟩
     have e7:(x1.set x6.toNat (gt x1 (w64 (x6 - 1)))).length=a0.length:=List.length_set.trans e1
     refine Zj 16 rfl (Zk e6 p1 p2) ?_
     refine Zq 17 rfl (Zr 0 (.int .u32) (w64 (x6 - 1)) (gt x1 x6) 0 h8 rfl p1 (by simpa only [List.length_set] using p2)) ?_
     intro _ w9 h9
     replace h9:=nf h9
     refine ⟨⟨[_],h9⟩,?_⟩
     have e8:((x1.set x6.toNat (gt x1 (w64 (x6 - 1)))).set (w64 (x6 - 1)).toNat (gt x1 x6)).length=a0.length:=List.length_set.trans e7
     refine Zw [0,1,2,7,8] ?_
     exact Z2 ⟨(by simp only [List.length_set,List.length_nil] <;> rfl),((h9.only [0] rfl).rds [] rfl)⟩
    ·refine Z5 13 rfl (OpT.ofq (Zl 0 h7.wht (gO 0) p3 p4)) ?_
     rintro _ _ ⟨rfl,rfl⟩
     replace h7:=nf h7
     refine ⟨⟨[_],h7⟩,?_⟩
     refine Zq 9 rfl (OpT.ofq (Zl 0 h7.wht (gO 0) p1 p2)) ?_
     rintro _ _ ⟨rfl,rfl⟩
     replace h7:=nf h7
     refine ⟨⟨[_],h7⟩,?_⟩
     refine Zj 14 rfl (Zk e6 p3 p4) ?_
     refine Zq 15 rfl (Zr 0 (.int .u32) x6 (gt x1 (w64 (x6 - 1))) 0 h7 rfl p3 p4) ?_
     intro _ w10 h10
     replace h10:=nf h10
     refine ⟨⟨[_],h10⟩,?_⟩
     have e9:(x1.set x6.toNat (gt x1 (w64 (x6 - 1)))).length=a0.length:=List.length_set.trans e1
     refine Zj 16 rfl (Zk e6 p1 p2) ?_
     refine Zq 17 rfl (Zr 0 (.int .u32) (w64 (x6 - 1)) (gt x1 x6) 0 h10 rfl p1 (by simpa only [List.length_set] using p2)) ?_
     intro _ w11 h11
     replace h11:=nf h11
     refine ⟨⟨[_],h11⟩,?_⟩
     have e10:((x1.set x6.toNat (gt x1 (w64 (x6 - 1)))).set (w64 (x6 - 1)).toNat (gt x1 x6)).length=a0.length:=List.length_set.trans e9
     refine Zw [0,1,2,7,8] ?_
     exact Z2 ⟨(by simp only [List.length_set,List.length_nil] <;> rfl),((h11.only [0] rfl).rds [] rfl)⟩
   rintro env w12 ⟨rfl,h12⟩
   have e11:((x1.set x6.toNat (gt x1 (w64 (x6 - 1)))).set (w64 (x6 - 1)).toNat (gt x1 x6)).length=a0.length:=by first | (simp only [List.length_set]; done) | (simp only [List.length_set]; exact e1)
   refine J.seq (J.seq (Zc [0,1,2,7,8,61] ?_))
   refine J.midS (fun env w=>∃(k4:Nat) (x8:List (Int)),env=[(0,.slice A1 x8.length c_1),(1,.int .i64 a1),(2,.int .i64 a2),(7,.int .i64 x6),(8,.int .i64 x3)]∧St w0 F0 [O33 x8 A1 c_1] [] w∧(if (decide (2≤(w64 (a2 - x6))))=true then (Q125.l1 k4 a1 a2 x3 x6 x8 (w64 (x6+1))) else (Q125.l0 k4 a1 a2 x8 x6 (w64 (x3+1))))=some r∧k4≤k3∧x8.length=a0.length) ?_ ?_
   ·refine jIf H (fun c7 H=>?_) fun c7 H=>?_
    ·refine J.seq (Zc [0,1,2,7,8,9] ?_)
     refine J.block ?_
     have h44:=(sOR h12 [0] [])
     refine J.loop (fun kk env w=>∃(x11:List (Int)) (x12:Int),env=[(0,.slice A1 x11.length c_1),(1,.int .i64 a1),(2,.int .i64 a2),(7,.int .i64 x6),(8,.int .i64 x3),(9,.int .i64 x12)]∧St w0 F0 [O33 x11 A1 c_1] [] w∧Q125.l2 kk a1 a2 x3 x6 x11 x12=some r∧kk≤k3∧x11.length=a0.length) (k:=k3) ⟨((x1.set x6.toNat (gt x1 (w64 (x6 - 1)))).set (w64 (x6 - 1)).toNat (gt x1 x6)),(w64 (x6 - 1)),rfl,h44,H,Nat.le_refl _,e11⟩ ?_
     rintro k6 env w24 ⟨x11,x12,rfl,h30,H,hk6,e22⟩
     rcases k6 with _ | k6
     ·exact z0 H
     rw [Q125.l2] at H
     refine J.seq (J.seq (Zc [0,1,2,7,8,9,65] ?_))
     refine jIf H (fun c8 H=>?_) fun c8 H=>?_
     ·refine J.skip (J.seq (J.block (J.seq (J.seq ?_))))
      refine Zv h30 ?_
      have h31:=h30.drew
      refine Zu [0,1,4,5,6] ?_
      obtain ⟨⟨p9,p10⟩,H⟩:=Zt H
      have e23:=Z6 h31.wh (gO 0) p9 p10
      refine Zj 2 rfl (Zk e23 p9 p10) ?_
      refine Zj 3 rfl (Zl 0 wI (gO 0) p9 p10) ?_
      obtain ⟨⟨p11,p12⟩,H⟩:=Zt H
      refine Zj 7 rfl (Zk e23 p11 p12) ?_
      refine Zj 8 rfl (Zl 0 wI (gO 0) p11 p12) ?_
      obtain ⟨r2,q2,H⟩:=Zn H
      refine Zq 9 rfl (Zf [] (Q32.spec q2) h31 rfl Zs) ?_
      rintro _ w25 ⟨_,⟨rfl,rfl⟩,h32⟩
      replace h32:=nf h32
      refine ⟨⟨[],h32⟩,?_⟩
      refine Zu [10] ?_
      refine Zw [0,1,2,7,8,9,78] ?_
      refine jIf H (fun c9 H=>?_) fun c9 H=>?_
      ·refine Y7 [0,1,2,7,8] ?_
       refine J.exit ?_
       have h33:=(sOR h32 [0] [])
       exact ⟨k6,x11,rfl,h33,H,by omega,e22⟩
      refine J.skip (J.mid (fun env w=>env=[(0,.slice A1 ((x11.set x12.toNat (gt x11 (w64 (x12 - 1)))).set (w64 (x12 - 1)).toNat (gt x11 x12)).length c_1),(1,.int .i64 a1),(2,.int .i64 a2),(7,.int .i64 x6),(8,.int .i64 x3),(9,.int .i64 x12)]∧St w0 F0 [O33 ((x11.set x12.toNat (gt x11 (w64 (x12 - 1)))).set (w64 (x12 - 1)).toNat (gt x11 x12)) A1 c_1] [] w) ?_ ?_)
      ·refine Zv (Zb h32 []) ?_
       have h36:=h32.drew
       refine Zu [0,1,2,3,4,5,6,7,10,11] ?_
       refine Zj 8 rfl (Zk e23 p11 p12) ?_
       refine Zj 12 rfl (Zk e23 p9 p10) ?_
       refine HJ.pick [9,13] (i:=9) rfl rfl rfl rfl ?_
       refine (Yc ?_ (Yc ?_ Xa))
       ·refine Z5 9 rfl (OpT.ofq (Zl 0 h36.wht (gO 0) p11 p12)) ?_
        rintro _ _ ⟨rfl,rfl⟩
        replace h36:=nf h36
        refine ⟨⟨[_],h36⟩,?_⟩
        refine Zq 13 rfl (OpT.ofq (Zl 0 h36.wht (gO 0) p9 p10)) ?_
        rintro _ _ ⟨rfl,rfl⟩
        replace h36:=nf h36
        refine ⟨⟨[_],h36⟩,?_⟩
        refine Zj 14 rfl (Zk e23 p9 p10) ?_
        refine Zq 15 rfl (Zr 0 (.int .u32) x12 (gt x11 (w64 (x12 - 1))) 0 h36 rfl p9 p10) ?_
        intro _ w28 h37
        replace h37:=nf h37
        refine ⟨⟨[_],h37⟩,?_⟩
        have e26:(x11.set x12.toNat (gt x11 (w64 (x12 - 1)))).length=a0.length:=List.length_set.trans e22
        refine Zj 16 rfl (Zk e23 p11 p12) ?_
        refine Zq 17 rfl (Zr 0 (.int .u32) (w64 (x12 - 1)) (gt x11 x12) 0 h37 rfl p11 (by simpa only [List.length_set] using p12)) ?_
        intro _ w29 h38
        replace h38:=nf h38
        refine ⟨⟨[_],h38⟩,?_⟩
        have e27:((x11.set x12.toNat (gt x11 (w64 (x12 - 1)))).set (w64 (x12 - 1)).toNat (gt x11 x12)).length=a0.length:=List.length_set.trans e26
        refine Zw [0,1,2,7,8,9] ?_
        exact Z2 ⟨(by simp only [List.length_set,List.length_nil] <;> rfl),((h38.only [0] rfl).rds [] rfl)⟩
       ·refine Z5 13 rfl (OpT.ofq (Zl 0 h36.wht (gO 0) p9 p10)) ?_
        rintro _ _ ⟨rfl,rfl⟩
        replace h36:=nf h36
        refine ⟨⟨[_],h36⟩,?_⟩
        refine Zq 9 rfl (OpT.ofq (Zl 0 h36.wht (gO 0) p11 p12)) ?_
        rintro _ _ ⟨rfl,rfl⟩
        replace h36:=nf h36
        refine ⟨⟨[_],h36⟩,?_⟩
        refine Zj 14 rfl (Zk e23 p9 p10) ?_
        refine Zq 15 rfl (Zr 0 (.int .u32) x12 (gt x11 (w64 (x12 - 1))) 0 h36 rfl p9 p10) ?_
        intro _ w30 h39
        replace h39:=nf h39
        refine ⟨⟨[_],h39⟩,?_⟩
        have e28:(x11.set x12.toNat (gt x11 (w64 (x12 - 1)))).length=a0.length:=List.length_set.trans e22
        refine Zj 16 rfl (Zk e23 p11 p12) ?_
        refine Zq 17 rfl (Zr 0 (.int .u32) (w64 (x12 - 1)) (gt x11 x12) 0 h39 rfl p11 (by simpa only [List.length_set] using p12)) ?_
        intro _ w31 h40
        replace h40:=nf h40
        refine ⟨⟨[_],h40⟩,?_⟩
        have e29:((x11.set x12.toNat (gt x11 (w64 (x12 - 1)))).set (w64 (x12 - 1)).toNat (gt x11 x12)).length=a0.length:=List.length_set.trans e28
        refine Zw [0,1,2,7,8,9] ?_
        exact Z2 ⟨(by simp only [List.length_set,List.length_nil] <;> rfl),((h40.only [0] rfl).rds [] rfl)⟩
      rintro env w32 ⟨rfl,h41⟩
      have e30:((x11.set x12.toNat (gt x11 (w64 (x12 - 1)))).set (w64 (x12 - 1)).toNat (gt x11 x12)).length=a0.length:=by first | (simp only [List.length_set]; done) | (simp only [List.length_set]; exact e22)
      refine Zc [0,1,2,7,8,9] ?_
      have h42:=(sOR h41 [0] [])
      exact ⟨k6,by omega,((x11.set x12.toNat (gt x11 (w64 (x12 - 1)))).set (w64 (x12 - 1)).toNat (gt x11 x12)),(w64 (x12 - 1)),rfl,h42,H,by omega,e30⟩
     refine Y7 [0,1,2,7,8] ?_
     refine J.exit ?_
     have h43:=(sOR h30 [0] [])
     exact ⟨k6,x11,rfl,h43,H,by omega,e22⟩
    refine Y7 [0,1,2,7,8] ?_
    refine J.skip ?_
    have h45:=(sOR h12 [0] [])
    exact ⟨k3,((x1.set x6.toNat (gt x1 (w64 (x6 - 1)))).set (w64 (x6 - 1)).toNat (gt x1 x6)),rfl,h45,H,Nat.le_refl _,e11⟩
   rintro env w14 ⟨k4,x8,rfl,h13,H,hk4,e12⟩
   refine J.seq (Zc [0,1,2,7,8,98] ?_)
   refine jIf H (fun c4 H=>?_) fun c4 H=>?_
   ·refine J.seq (Zc [0,1,2,7,8,10] ?_)
    refine J.block ?_
    have h28:=(sOR h13 [0] [])
    refine J.loop (fun kk env w=>∃(x9:List (Int)) (x10:Int),env=[(0,.slice A1 x9.length c_1),(1,.int .i64 a1),(2,.int .i64 a2),(7,.int .i64 x6),(8,.int .i64 x3),(10,.int .i64 x10)]∧St w0 F0 [O33 x9 A1 c_1] [] w∧Q125.l1 kk a1 a2 x3 x6 x9 x10=some r∧kk≤k4∧x9.length=a0.length) (k:=k4) ⟨x8,(w64 (x6+1)),rfl,h28,H,Nat.le_refl _,e12⟩ ?_
    rintro k5 env w15 ⟨x9,x10,rfl,h14,H,hk5,e13⟩
    rcases k5 with _ | k5
    ·exact z0 H
    rw [Q125.l1] at H
    refine J.seq (J.seq (Zc [0,1,2,7,8,10,103] ?_))
    refine jIf H (fun c5 H=>?_) fun c5 H=>?_
    ·refine J.skip (J.seq (J.block (J.seq (J.seq ?_))))
     refine Zv h14 ?_
     have h15:=h14.drew
     refine Zu [0,1,4,5,6] ?_
     obtain ⟨⟨p5,p6⟩,H⟩:=Zt H
     have e14:=Z6 h15.wh (gO 0) p5 p6
     refine Zj 2 rfl (Zk e14 p5 p6) ?_
     refine Zj 3 rfl (Zl 0 wI (gO 0) p5 p6) ?_
     obtain ⟨⟨p7,p8⟩,H⟩:=Zt H
     refine Zj 7 rfl (Zk e14 p7 p8) ?_
     refine Zj 8 rfl (Zl 0 wI (gO 0) p7 p8) ?_
     obtain ⟨r1,q1,H⟩:=Zn H
     refine Zq 9 rfl (Zf [] (Q32.spec q1) h15 rfl Zs) ?_
     rintro _ w16 ⟨_,⟨rfl,rfl⟩,h16⟩
     replace h16:=nf h16
     refine ⟨⟨[],h16⟩,?_⟩
     refine Zu [10] ?_
     refine Zw [0,1,2,7,8,10,116] ?_
     refine jIf H (fun c6 H=>?_) fun c6 H=>?_
     ·refine Y7 [0,1,2,7,8] ?_
      refine J.exit ?_
      have h17:=(sOR h16 [0] [])
      exact ⟨k5,x9,x6,rfl,h17,H,by omega,e13⟩
     refine J.skip (J.mid (fun env w=>env=[(0,.slice A1 ((x9.set x10.toNat (gt x9 (w64 (x10 - 1)))).set (w64 (x10 - 1)).toNat (gt x9 x10)).length c_1),(1,.int .i64 a1),(2,.int .i64 a2),(7,.int .i64 x6),(8,.int .i64 x3),(10,.int .i64 x10)]∧St w0 F0 [O33 ((x9.set x10.toNat (gt x9 (w64 (x10 - 1)))).set (w64 (x10 - 1)).toNat (gt x9 x10)) A1 c_1] [] w) ?_ ?_)
     ·refine Zv (Zb h16 []) ?_
      have h20:=h16.drew
      refine Zu [0,1,2,3,4,5,6,7,10,11] ?_
      refine Zj 8 rfl (Zk e14 p7 p8) ?_
      refine Zj 12 rfl (Zk e14 p5 p6) ?_
      refine HJ.pick [9,13] (i:=9) rfl rfl rfl rfl ?_
      refine (Yc ?_ (Yc ?_ Xa))
      ·refine Z5 9 rfl (OpT.ofq (Zl 0 h20.wht (gO 0) p7 p8)) ?_
       rintro _ _ ⟨rfl,rfl⟩
       replace h20:=nf h20
       refine ⟨⟨[_],h20⟩,?_⟩
       refine Zq 13 rfl (OpT.ofq (Zl 0 h20.wht (gO 0) p5 p6)) ?_
       rintro _ _ ⟨rfl,rfl⟩
       replace h20:=nf h20
       refine ⟨⟨[_],h20⟩,?_⟩
       refine Zj 14 rfl (Zk e14 p5 p6) ?_
       refine Zq 15 rfl (Zr 0 (.int .u32) x10 (gt x9 (w64 (x10 - 1))) 0 h20 rfl p5 p6) ?_
       intro _ w19 h21
       replace h21:=nf h21
       refine ⟨⟨[_],h21⟩,?_⟩
       have e17:(x9.set x10.toNat (gt x9 (w64 (x10 - 1)))).length=a0.length:=List.length_set.trans e13
       refine Zj 16 rfl (Zk e14 p7 p8) ?_
       refine Zq 17 rfl (Zr 0 (.int .u32) (w64 (x10 - 1)) (gt x9 x10) 0 h21 rfl p7 (by simpa only [List.length_set] using p8)) ?_
       intro _ w20 h22
       replace h22:=nf h22
       refine ⟨⟨[_],h22⟩,?_⟩
       have e18:((x9.set x10.toNat (gt x9 (w64 (x10 - 1)))).set (w64 (x10 - 1)).toNat (gt x9 x10)).length=a0.length:=List.length_set.trans e17
       refine Zw [0,1,2,7,8,10] ?_
       exact Z2 ⟨(by simp only [List.length_set,List.length_nil] <;> rfl),((h22.only [0] rfl).rds [] rfl)⟩
      ·refine Z5 13 rfl (OpT.ofq (Zl 0 h20.wht (gO 0) p5 p6)) ?_
       rintro _ _ ⟨rfl,rfl⟩
       replace h20:=nf h20
       refine ⟨⟨[_],h20⟩,?_⟩
       refine Zq 9 rfl (OpT.ofq (Zl 0 h20.wht (gO 0) p7 p8)) ?_
       rintro _ _ ⟨rfl,rfl⟩
       replace h20:=nf h20
       refine ⟨⟨[_],h20⟩,?_⟩
       refine Zj 14 rfl (Zk e14 p5 p6) ?_
       refine Zq 15 rfl (Zr 0 (.int .u32) x10 (gt x9 (w64 (x10 - 1))) 0 h20 rfl p5 p6) ?_
       intro _ w21 h23
       replace h23:=nf h23
       refine ⟨⟨[_],h23⟩,?_⟩
       have e19:(x9.set x10.toNat (gt x9 (w64 (x10 - 1)))).length=a0.length:=List.length_set.trans e13
       refine Zj 16 rfl (Zk e14 p7 p8) ?_
       refine Zq 17 rfl (Zr 0 (.int .u32) (w64 (x10 - 1)) (gt x9 x10) 0 h23 rfl p7 (by simpa only [List.length_set] using p8)) ?_
       intro _ w22 h24
       replace h24:=nf h24
       refine ⟨⟨[_],h24⟩,?_⟩
       have e20:((x9.set x10.toNat (gt x9 (w64 (x10 - 1)))).set (w64 (x10 - 1)).toNat (gt x9 x10)).length=a0.length:=List.length_set.trans e19
       refine Zw [0,1,2,7,8,10] ?_
       exact Z2 ⟨(by simp only [List.length_set,List.length_nil] <;> rfl),((h24.only [0] rfl).rds [] rfl)⟩
     rintro env w23 ⟨rfl,h25⟩
     have e21:((x9.set x10.toNat (gt x9 (w64 (x10 - 1)))).set (w64 (x10 - 1)).toNat (gt x9 x10)).length=a0.length:=by first | (simp only [List.length_set]; done) | (simp only [List.length_set]; exact e13)
     refine Zc [0,1,2,7,8,10] ?_
     have h26:=(sOR h25 [0] [])
     exact ⟨k5,by omega,((x9.set x10.toNat (gt x9 (w64 (x10 - 1)))).set (w64 (x10 - 1)).toNat (gt x9 x10)),(w64 (x10+1)),rfl,h26,H,by omega,e21⟩
    refine Y7 [0,1,2,7,8] ?_
    refine J.exit ?_
    have h27:=(sOR h14 [0] [])
    exact ⟨k5,x9,x6,rfl,h27,H,by omega,e13⟩
   refine Y7 [0,1,2,7,8] ?_
   refine J.skip ?_
   have h29:=(sOR h13 [0] [])
   exact ⟨k4,x8,x6,rfl,h29,H,by omega,e12⟩
  rintro env w3 ⟨k2,x4,x5,rfl,h2,H,hk2,e2⟩
  refine Zc [0,1,2,7,8] ?_
  have h3:=(sOR h2 [0] [])
  exact ⟨k2,by omega,x4,x5,(w64 (x3+1)),rfl,h3,H,e2⟩
 refine J.exit (J.seq (Zc [6] ?_))
 refine J.ret ?_
 cases H
 exact ⟨_,_,_,Za,⟨rfl,rfl,e1⟩,Zb h1 [0]⟩

mutual
def Q126.l0:Nat→(Int)→(List (Int))→(Int)→(Int)→Option (Int×List (Int))
 | 0,_,_,_,_=>none
 | k+1,a1,x1,x2,x3=>Q126.l1 k a1 x1 x3 x2
def Q126.l1:Nat→(Int)→(List (Int))→(Int)→(Int)→Option (Int×List (Int))
 | 0,_,_,_,_=>none
 | k+1,a1,x1,x3,x4=>if (decide (x4≤x3))=true then (if 0≤a1∧a1<(x1.length:Int) then (if 0≤x4∧x4<(x1.length:Int) then ((Q32.f (gt x1 a1) (gt x1 x4)).bind fun r1=>(if (!r1)=true then (Q126.l1 k a1 x1 x3 (w64 (x4+1))) else (Q126.l2 k a1 x1 x4 x3))) else none) else none) else (Q126.l3 k a1 x1 x3 x4)
def Q126.l2:Nat→(Int)→(List (Int))→(Int)→(Int)→Option (Int×List (Int))
 | 0,_,_,_,_=>none
 | k+1,a1,x1,x4,x5=>if (decide (x4≤x5))=true then (if 0≤x5∧x5<(x1.length:Int) then ((Q32.f (gt x1 a1) (gt x1 x5)).bind fun r2=>(if r2=true then (Q126.l2 k a1 x1 x4 (w64 (x5 - 1))) else (if (decide (x5<x4))=true then (some (x4,x1)) else (Q126.l0 k a1 ((x1.set x4.toNat (gt x1 x5)).set x5.toNat (gt x1 x4)) (w64 (x4+1)) (w64 (x5 - 1)))))) else none) else (if (decide (x5<x4))=true then (some (x4,x1)) else (if 0≤x5∧x5<(x1.length:Int) then (Q126.l0 k a1 ((x1.set x4.toNat (gt x1 x5)).set x5.toNat (gt x1 x4)) (w64 (x4+1)) (w64 (x5 - 1))) else none))
def Q126.l3:Nat→(Int)→(List (Int))→(Int)→(Int)→Option (Int×List (Int))
 | 0,_,_,_,_=>none
 | k+1,a1,x1,x3,x4=>if (decide (x3<x4))=true then (some (x4,x1)) else (if 0≤x3∧x3<(x1.length:Int) then (if 0≤x4∧x4<(x1.length:Int) then (Q126.l0 k a1 ((x1.set x4.toNat (gt x1 x3)).set x3.toNat (gt x1 x4)) (w64 (x4+1)) (w64 (x3 - 1))) else none) else none)
end
def Q126.f (k:Nat) (a0:List (Int)) (a1:Int) (a2:Int) (a3:Int):Option (Int×List (Int)):=if 0≤a3∧a3<(a0.length:Int) then (if 0≤a1∧a1<(a0.length:Int) then (Q126.l0 k a1 ((a0.set a1.toNat (gt a0 a3)).set a3.toNat (gt a0 a1)) (w64 (a1+1)) (w64 (a2 - 1))) else none) else none
theorem Q126.spec {k:Nat} {a0:List (Int)} {a1:Int} {a2:Int} {a3:Int} {A1:Option Addr} {c_1:Nat} {r:Int×List (Int)} (H:Q126.f k a0 a1 a2 a3=some r) :
  Spec Tryz.prog 241 [.slice A1 a0.length c_1,.int .i64 a1,.int .i64 a2,.int .i64 a3] [O33 a0 A1 c_1] [] (fun v l=>v=.int .i64 r.1∧l=[O33 r.2 A1 c_1]∧r.2.length=a0.length):=by
 refine Zp Tryz.func241 fun w0 F0 h0=>?_
 unfold Q126.f at H
 refine J.seq (Zc [0,1,2,3] ?_)
 refine J.seq ?_
 obtain ⟨⟨p1,p2⟩,H⟩:=Zt H
 obtain ⟨⟨p3,p4⟩,H⟩:=Zt H
 refine J.midS (fun env w=>env=[(0,.slice A1 ((a0.set a1.toNat (gt a0 a3)).set a3.toNat (gt a0 a1)).length c_1),(1,.int .i64 a1),(2,.int .i64 a2)]∧St w0 F0 [O33 ((a0.set a1.toNat (gt a0 a3)).set a3.toNat (gt a0 a1)) A1 c_1] [] w) ?_ ?_
 ·refine Zv (Zb h0 []) ?_
  have h3:=h0.drew
  refine Zu [0,1,2,3,4,5,8,9] ?_
  have e4:=Z6 h3.wh (gO 0) p1 p2
  refine Zj 6 rfl (Zk e4 p1 p2) ?_
  refine Zj 10 rfl (Zk e4 p3 p4) ?_
  refine HJ.pick [7,11] (i:=7) rfl rfl rfl rfl ?_
  refine (Yc ?_ (Yc ?_ Xa))
  ·refine Z5 7 rfl (OpT.ofq (Zl 0 h3.wht (gO 0) p1 p2)) ?_
   rintro _ _ ⟨rfl,rfl⟩
   replace h3:=nf h3
   refine ⟨⟨[_],h3⟩,?_⟩
   refine Zq 11 rfl (OpT.ofq (Zl 0 h3.wht (gO 0) p3 p4)) ?_
   rintro _ _ ⟨rfl,rfl⟩
   replace h3:=nf h3
   refine ⟨⟨[_],h3⟩,?_⟩
   refine Zj 12 rfl (Zk e4 p3 p4) ?_
   refine Zq 13 rfl (Zr 0 (.int .u32) a1 (gt a0 a3) 0 h3 rfl p3 p4) ?_
   intro _ w3 h4
   replace h4:=nf h4
   refine ⟨⟨[_],h4⟩,?_⟩
   have e5:(a0.set a1.toNat (gt a0 a3)).length=a0.length:=List.length_set.trans (rfl:a0.length=a0.length)
   refine Zj 14 rfl (Zk e4 p1 p2) ?_
   refine Zq 15 rfl (Zr 0 (.int .u32) a3 (gt a0 a1) 0 h4 rfl p1 (by simpa only [List.length_set] using p2)) ?_
   intro _ w4 h5
   replace h5:=nf h5
   refine ⟨⟨[_],h5⟩,?_⟩
   have e6:((a0.set a1.toNat (gt a0 a3)).set a3.toNat (gt a0 a1)).length=a0.length:=List.length_set.trans e5
   refine Zw [0,1,2] ?_
   exact Z2 ⟨(by simp only [List.length_set,List.length_nil] <;> rfl),((h5.only [0] rfl).rds [] rfl)⟩
  ·refine Z5 11 rfl (OpT.ofq (Zl 0 h3.wht (gO 0) p3 p4)) ?_
   rintro _ _ ⟨rfl,rfl⟩
   replace h3:=nf h3
   refine ⟨⟨[_],h3⟩,?_⟩
   refine Zq 7 rfl (OpT.ofq (Zl 0 h3.wht (gO 0) p1 p2)) ?_
   rintro _ _ ⟨rfl,rfl⟩
   replace h3:=nf h3
   refine ⟨⟨[_],h3⟩,?_⟩
   refine Zj 12 rfl (Zk e4 p3 p4) ?_
   refine Zq 13 rfl (Zr 0 (.int .u32) a1 (gt a0 a3) 0 h3 rfl p3 p4) ?_
   intro _ w5 h6
   replace h6:=nf h6
   refine ⟨⟨[_],h6⟩,?_⟩
   have e7:(a0.set a1.toNat (gt a0 a3)).length=a0.length:=List.length_set.trans (rfl:a0.length=a0.length)
   refine Zj 14 rfl (Zk e4 p1 p2) ?_
   refine Zq 15 rfl (Zr 0 (.int .u32) a3 (gt a0 a1) 0 h6 rfl p1 (by simpa only [List.length_set] using p2)) ?_
   intro _ w6 h7
   replace h7:=nf h7
   refine ⟨⟨[_],h7⟩,?_⟩
   have e8:((a0.set a1.toNat (gt a0 a3)).set a3.toNat (gt a0 a1)).length=a0.length:=List.length_set.trans e7
   refine Zw [0,1,2] ?_
   exact Z2 ⟨(by simp only [List.length_set,List.length_nil] <;> rfl),((h7.only [0] rfl).rds [] rfl)⟩
 rintro env w7 ⟨rfl,h8⟩
 have e9:((a0.set a1.toNat (gt a0 a3)).set a3.toNat (gt a0 a1)).length=a0.length:=by first | (simp only [List.length_set]; done) | (simp only [List.length_set]; exact (rfl:a0.length=a0.length))
 refine J.seq (Zc [0,1,9,10] ?_)
 refine J.seq (J.block ?_)
 have h50:=(sOR h8 [0] [])
 refine J.loop (fun kk env w=>∃(x1:List (Int)) (x2:Int) (x3:Int),env=[(0,.slice A1 x1.length c_1),(1,.int .i64 a1),(9,.int .i64 x2),(10,.int .i64 x3)]∧St w0 F0 [O33 x1 A1 c_1] [] w∧Q126.l0 kk a1 x1 x2 x3=some r∧x1.length=a0.length) (k:=k) ⟨((a0.set a1.toNat (gt a0 a3)).set a3.toNat (gt a0 a1)),(w64 (a1+1)),(w64 (a2 - 1)),rfl,h50,H,e9⟩ ?_
 rintro k1 env w8 ⟨x1,x2,x3,rfl,h9,H,e10⟩
 rcases k1 with _ | k1
 ·exact z0 H
 rw [Q126.l0] at H
 refine J.block (J.seq (J.block ?_))
 have h49:=(sOR h9 [0] [])
 refine J.loop (fun kk env w=>∃(x4:Int),env=[(0,.slice A1 x1.length c_1),(1,.int .i64 a1),(9,.int .i64 x4),(10,.int .i64 x3)]∧St w0 F0 [O33 x1 A1 c_1] [] w∧Q126.l1 kk a1 x1 x3 x4=some r∧kk≤k1) (k:=k1) ⟨x2,rfl,h49,H,Nat.le_refl _⟩ ?_
 rintro k2 env w9 ⟨x4,rfl,h10,H,hk2⟩
 rcases k2 with _ | k2
 ·exact z0 H
 rw [Q126.l1] at H
 refine J.seq (J.seq ?_)
 refine Zv h10 ?_
 have h11:=h10.drew
 refine Zu [0,1,2,3] ?_
 refine Yh 32 H (fun c1 H=>?_) fun c1 H=>?_
 ·refine Zu [4,5,8,9] ?_
  obtain ⟨⟨p5,p6⟩,H⟩:=Zt H
  have e11:=Z6 h11.wh (gO 0) p5 p6
  refine Zj 6 rfl (Zk e11 p5 p6) ?_
  refine Zj 7 rfl (Zl 0 wI (gO 0) p5 p6) ?_
  obtain ⟨⟨p7,p8⟩,H⟩:=Zt H
  refine Zj 10 rfl (Zk e11 p7 p8) ?_
  refine Zj 11 rfl (Zl 0 wI (gO 0) p7 p8) ?_
  obtain ⟨r1,q1,H⟩:=Zn H
  refine Zq 12 rfl (Zf [] (Q32.spec q1) h11 rfl Zs) ?_
  rintro _ w10 ⟨_,⟨rfl,rfl⟩,h12⟩
  replace h12:=nf h12
  refine ⟨⟨[],h12⟩,?_⟩
  refine Zu [13,14] ?_
  refine Zw [0,1,9,10,43] ?_
  refine jIf H (fun c2 H=>?_) fun c2 H=>?_
  ·refine J.skip (J.block (Zc [0,1,9,10] ?_))
   have h13:=(sOR h12 [0] [])
   exact ⟨k2,by omega,(w64 (x4+1)),rfl,h13,H,by omega⟩
  refine J.exit (J.seq (J.block ?_))
  refine Y7 [0,1,9,10] ?_
  have h36:=(sOR h12 [0] [])
  refine J.loop (fun kk env w=>∃(x5:Int),env=[(0,.slice A1 x1.length c_1),(1,.int .i64 a1),(9,.int .i64 x4),(10,.int .i64 x5)]∧St w0 F0 [O33 x1 A1 c_1] [] w∧Q126.l2 kk a1 x1 x4 x5=some r∧kk≤k2) (k:=k2) ⟨x3,rfl,h36,H,Nat.le_refl _⟩ ?_
  rintro k3 env w11 ⟨x5,rfl,h14,H,hk3⟩
  rcases k3 with _ | k3
  ·exact z0 H
  rw [Q126.l2] at H
  refine J.seq (J.seq ?_)
  refine Zv h14 ?_
  have h15:=h14.drew
  refine Zu [0,1,2,3] ?_
  refine Yh 49 H (fun c3 H=>?_) fun c3 H=>?_
  ·refine Zu [4,5,8,9] ?_
   refine Zj 6 rfl (Zk e11 p5 p6) ?_
   refine Zj 7 rfl (Zl 0 wI (gO 0) p5 p6) ?_
   obtain ⟨⟨p9,p10⟩,H⟩:=Zt H
   refine Zj 10 rfl (Zk e11 p9 p10) ?_
   refine Zj 11 rfl (Zl 0 wI (gO 0) p9 p10) ?_
   obtain ⟨r2,q2,H⟩:=Zn H
   refine Zq 12 rfl (Zf [] (Q32.spec q2) h15 rfl Zs) ?_
   rintro _ w12 ⟨_,⟨rfl,rfl⟩,h16⟩
   replace h16:=nf h16
   refine ⟨⟨[],h16⟩,?_⟩
   refine Zu [13] ?_
   refine Zw [0,1,9,10,59] ?_
   refine jIf H (fun c4 H=>?_) fun c4 H=>?_
   ·refine J.skip (J.block (Zc [0,1,9,10] ?_))
    have h17:=(sOR h16 [0] [])
    exact ⟨k3,by omega,(w64 (x5 - 1)),rfl,h17,H,by omega⟩
   refine J.exit (J.seq (J.seq (Zc [0,1,9,10,64] ?_)))
   refine jIf H (fun c5 H=>?_) fun c5 H=>?_
   ·refine J.exit (J.seq (Zc [8] ?_))
    refine J.ret ?_
    cases H
    exact ⟨_,_,_,Za,⟨rfl,rfl,e10⟩,Zb h16 [0]⟩
   refine J.skip (J.seq (J.midS (fun env w=>env=[(0,.slice A1 ((x1.set x4.toNat (gt x1 x5)).set x5.toNat (gt x1 x4)).length c_1),(1,.int .i64 a1),(9,.int .i64 x4),(10,.int .i64 x5)]∧St w0 F0 [O33 ((x1.set x4.toNat (gt x1 x5)).set x5.toNat (gt x1 x4)) A1 c_1] [] w) ?_ ?_))
   ·refine Zv (Zb h16 []) ?_
    have h20:=h16.drew
    refine Zu [0,1,2,3,4,5,8,9] ?_
    refine Zj 6 rfl (Zk e11 p9 p10) ?_
    refine Zj 10 rfl (Zk e11 p7 p8) ?_
    refine HJ.pick [7,11] (i:=7) rfl rfl rfl rfl ?_
    refine (Yc ?_ (Yc ?_ Xa))
    ·refine Z5 7 rfl (OpT.ofq (Zl 0 h20.wht (gO 0) p9 p10)) ?_
     rintro _ _ ⟨rfl,rfl⟩
     replace h20:=nf h20
     refine ⟨⟨[_],h20⟩,?_⟩
     refine Zq 11 rfl (OpT.ofq (Zl 0 h20.wht (gO 0) p7 p8)) ?_
     rintro _ _ ⟨rfl,rfl⟩
     replace h20:=nf h20
     refine ⟨⟨[_],h20⟩,?_⟩
     refine Zj 12 rfl (Zk e11 p7 p8) ?_
     refine Zq 13 rfl (Zr 0 (.int .u32) x4 (gt x1 x5) 0 h20 rfl p7 p8) ?_
     intro _ w15 h21
     replace h21:=nf h21
     refine ⟨⟨[_],h21⟩,?_⟩
     have e14:(x1.set x4.toNat (gt x1 x5)).length=a0.length:=List.length_set.trans e10
     refine Zj 14 rfl (Zk e11 p9 p10) ?_
     refine Zq 15 rfl (Zr 0 (.int .u32) x5 (gt x1 x4) 0 h21 rfl p9 (by simpa only [List.length_set] using p10)) ?_
     intro _ w16 h22
     replace h22:=nf h22
     refine ⟨⟨[_],h22⟩,?_⟩
     have e15:((x1.set x4.toNat (gt x1 x5)).set x5.toNat (gt x1 x4)).length=a0.length:=List.length_set.trans e14
     refine Zw [0,1,9,10] ?_
     exact Z2 ⟨(by simp only [List.length_set,List.length_nil] <;> rfl),((h22.only [0] rfl).rds [] rfl)⟩
    ·refine Z5 11 rfl (OpT.ofq (Zl 0 h20.wht (gO 0) p7 p8)) ?_
     rintro _ _ ⟨rfl,rfl⟩
     replace h20:=nf h20
     refine ⟨⟨[_],h20⟩,?_⟩
     refine Zq 7 rfl (OpT.ofq (Zl 0 h20.wht (gO 0) p9 p10)) ?_
     rintro _ _ ⟨rfl,rfl⟩
     replace h20:=nf h20
     refine ⟨⟨[_],h20⟩,?_⟩
     refine Zj 12 rfl (Zk e11 p7 p8) ?_
     refine Zq 13 rfl (Zr 0 (.int .u32) x4 (gt x1 x5) 0 h20 rfl p7 p8) ?_
     intro _ w17 h23
     replace h23:=nf h23
     refine ⟨⟨[_],h23⟩,?_⟩
     have e16:(x1.set x4.toNat (gt x1 x5)).length=a0.length:=List.length_set.trans e10
     refine Zj 14 rfl (Zk e11 p9 p10) ?_
     refine Zq 15 rfl (Zr 0 (.int .u32) x5 (gt x1 x4) 0 h23 rfl p9 (by simpa only [List.length_set] using p10)) ?_
     intro _ w18 h24
     replace h24:=nf h24
     refine ⟨⟨[_],h24⟩,?_⟩
     have e17:((x1.set x4.toNat (gt x1 x5)).set x5.toNat (gt x1 x4)).length=a0.length:=List.length_set.trans e16
     refine Zw [0,1,9,10] ?_
     exact Z2 ⟨(by simp only [List.length_set,List.length_nil] <;> rfl),((h24.only [0] rfl).rds [] rfl)⟩
   rintro env w19 ⟨rfl,h25⟩
   have e18:((x1.set x4.toNat (gt x1 x5)).set x5.toNat (gt x1 x4)).length=a0.length:=by first | (simp only [List.length_set]; done) | (simp only [List.length_set]; exact e10)
   refine J.seq (Zc [0,1,9,10] ?_)
   refine Zc [0,1,9,10] ?_
   have h26:=(sOR h25 [0] [])
   exact ⟨k3,by omega,((x1.set x4.toNat (gt x1 x5)).set x5.toNat (gt x1 x4)),(w64 (x4+1)),(w64 (x5 - 1)),rfl,h26,H,e18⟩
  refine Zu [4,5,6,7,8,9,10,11,12,13] ?_
  refine Zw [0,1,9,10,59] ?_
  refine Zz ?_
  refine J.exit (J.seq (J.seq (Zc [0,1,9,10,64] ?_)))
  refine jIf H (fun c6 H=>?_) fun c6 H=>?_
  ·refine J.exit (J.seq (Zc [8] ?_))
   refine J.ret ?_
   cases H
   exact ⟨_,_,_,Za,⟨rfl,rfl,e10⟩,Zb h15 [0]⟩
  refine J.skip (J.seq ?_)
  obtain ⟨⟨p11,p12⟩,H⟩:=Zt H
  refine J.midS (fun env w=>env=[(0,.slice A1 ((x1.set x4.toNat (gt x1 x5)).set x5.toNat (gt x1 x4)).length c_1),(1,.int .i64 a1),(9,.int .i64 x4),(10,.int .i64 x5)]∧St w0 F0 [O33 ((x1.set x4.toNat (gt x1 x5)).set x5.toNat (gt x1 x4)) A1 c_1] [] w) ?_ ?_
  ·refine Zv (Zb h15 []) ?_
   have h29:=h15.drew
   refine Zu [0,1,2,3,4,5,8,9] ?_
   refine Zj 6 rfl (Zk e11 p11 p12) ?_
   refine Zj 10 rfl (Zk e11 p7 p8) ?_
   refine HJ.pick [7,11] (i:=7) rfl rfl rfl rfl ?_
   refine (Yc ?_ (Yc ?_ Xa))
   ·refine Z5 7 rfl (OpT.ofq (Zl 0 h29.wht (gO 0) p11 p12)) ?_
    rintro _ _ ⟨rfl,rfl⟩
    replace h29:=nf h29
    refine ⟨⟨[_],h29⟩,?_⟩
    refine Zq 11 rfl (OpT.ofq (Zl 0 h29.wht (gO 0) p7 p8)) ?_
    rintro _ _ ⟨rfl,rfl⟩
    replace h29:=nf h29
    refine ⟨⟨[_],h29⟩,?_⟩
    refine Zj 12 rfl (Zk e11 p7 p8) ?_
    refine Zq 13 rfl (Zr 0 (.int .u32) x4 (gt x1 x5) 0 h29 rfl p7 p8) ?_
    intro _ w22 h30
    replace h30:=nf h30
    refine ⟨⟨[_],h30⟩,?_⟩
    have e21:(x1.set x4.toNat (gt x1 x5)).length=a0.length:=List.length_set.trans e10
    refine Zj 14 rfl (Zk e11 p11 p12) ?_
    refine Zq 15 rfl (Zr 0 (.int .u32) x5 (gt x1 x4) 0 h30 rfl p11 (by simpa only [List.length_set] using p12)) ?_
    intro _ w23 h31
    replace h31:=nf h31
    refine ⟨⟨[_],h31⟩,?_⟩
    have e22:((x1.set x4.toNat (gt x1 x5)).set x5.toNat (gt x1 x4)).length=a0.length:=List.length_set.trans e21
    refine Zw [0,1,9,10] ?_
    exact Z2 ⟨(by simp only [List.length_set,List.length_nil] <;> rfl),((h31.only [0] rfl).rds [] rfl)⟩
   ·refine Z5 11 rfl (OpT.ofq (Zl 0 h29.wht (gO 0) p7 p8)) ?_
    rintro _ _ ⟨rfl,rfl⟩
    replace h29:=nf h29
    refine ⟨⟨[_],h29⟩,?_⟩
    refine Zq 7 rfl (OpT.ofq (Zl 0 h29.wht (gO 0) p11 p12)) ?_
    rintro _ _ ⟨rfl,rfl⟩
    replace h29:=nf h29
    refine ⟨⟨[_],h29⟩,?_⟩
    refine Zj 12 rfl (Zk e11 p7 p8) ?_
    refine Zq 13 rfl (Zr 0 (.int .u32) x4 (gt x1 x5) 0 h29 rfl p7 p8) ?_
    intro _ w24 h32
    replace h32:=nf h32
    refine ⟨⟨[_],h32⟩,?_⟩
    have e23:(x1.set x4.toNat (gt x1 x5)).length=a0.length:=List.length_set.trans e10
    refine Zj 14 rfl (Zk e11 p11 p12) ?_
    refine Zq 15 rfl (Zr 0 (.int .u32) x5 (gt x1 x4) 0 h32 rfl p11 (by simpa only [List.length_set] using p12)) ?_
    intro _ w25 h33
    replace h33:=nf h33
    refine ⟨⟨[_],h33⟩,?_⟩
    have e24:((x1.set x4.toNat (gt x1 x5)).set x5.toNat (gt x1 x4)).length=a0.length:=List.length_set.trans e23
    refine Zw [0,1,9,10] ?_
    exact Z2 ⟨(by simp only [List.length_set,List.length_nil] <;> rfl),((h33.only [0] rfl).rds [] rfl)⟩
  rintro env w26 ⟨rfl,h34⟩
  have e25:((x1.set x4.toNat (gt x1 x5)).set x5.toNat (gt x1 x4)).length=a0.length:=by first | (simp only [List.length_set]; done) | (simp only [List.length_set]; exact e10)
  refine J.seq (Zc [0,1,9,10] ?_)
  refine Zc [0,1,9,10] ?_
  have h35:=(sOR h34 [0] [])
  exact ⟨k3,by omega,((x1.set x4.toNat (gt x1 x5)).set x5.toNat (gt x1 x4)),(w64 (x4+1)),(w64 (x5 - 1)),rfl,h35,H,e25⟩
 refine Zu [4,5,6,7,8,9,10,11,12,13,14] ?_
 refine Zw [0,1,9,10,43] ?_
 refine Zz ?_
 refine J.exit (J.seq (J.block ?_))
 refine Y7 [0,1,9,10] ?_
 have h48:=(sOR h11 [0] [])
 refine J.loop (fun kk env w=>env=[(0,.slice A1 x1.length c_1),(1,.int .i64 a1),(9,.int .i64 x4),(10,.int .i64 x3)]∧St w0 F0 [O33 x1 A1 c_1] [] w∧Q126.l3 kk a1 x1 x3 x4=some r∧kk≤k2) (k:=k2) ⟨rfl,h48,H,Nat.le_refl _⟩ ?_
 rintro k4 env w27 ⟨rfl,h37,H,hk4⟩
 rcases k4 with _ | k4
 ·exact z0 H
 rw [Q126.l3] at H
 refine J.seq (J.seq ?_)
 refine Zv h37 ?_
 have h38:=h37.drew
 refine Zu [0,1,2,3] ?_
 refine Y5 49 (congrArg Value.bool c1) ?_
 refine Zu [4,5,6,7,8,9,10,11,12,13] ?_
 refine Zw [0,1,9,10,59] ?_
 refine Zz ?_
 refine J.exit (J.seq (J.seq (Zc [0,1,9,10,64] ?_)))
 refine jIf H (fun c7 H=>?_) fun c7 H=>?_
 ·refine J.exit (J.seq (Zc [8] ?_))
  refine J.ret ?_
  cases H
  exact ⟨_,_,_,Za,⟨rfl,rfl,e10⟩,Zb h38 [0]⟩
 refine J.skip (J.seq ?_)
 obtain ⟨⟨p13,p14⟩,H⟩:=Zt H
 obtain ⟨⟨p15,p16⟩,H⟩:=Zt H
 refine J.midS (fun env w=>env=[(0,.slice A1 ((x1.set x4.toNat (gt x1 x3)).set x3.toNat (gt x1 x4)).length c_1),(1,.int .i64 a1),(9,.int .i64 x4),(10,.int .i64 x3)]∧St w0 F0 [O33 ((x1.set x4.toNat (gt x1 x3)).set x3.toNat (gt x1 x4)) A1 c_1] [] w) ?_ ?_
 ·refine Zv (Zb h38 []) ?_
  have h41:=h38.drew
  refine Zu [0,1,2,3,4,5,8,9] ?_
  have e29:=Z6 h41.wh (gO 0) p13 p14
  refine Zj 6 rfl (Zk e29 p13 p14) ?_
  refine Zj 10 rfl (Zk e29 p15 p16) ?_
  refine HJ.pick [7,11] (i:=7) rfl rfl rfl rfl ?_
  refine (Yc ?_ (Yc ?_ Xa))
  ·refine Z5 7 rfl (OpT.ofq (Zl 0 h41.wht (gO 0) p13 p14)) ?_
   rintro _ _ ⟨rfl,rfl⟩
   replace h41:=nf h41
   refine ⟨⟨[_],h41⟩,?_⟩
   refine Zq 11 rfl (OpT.ofq (Zl 0 h41.wht (gO 0) p15 p16)) ?_
   rintro _ _ ⟨rfl,rfl⟩
   replace h41:=nf h41
   refine ⟨⟨[_],h41⟩,?_⟩
   refine Zj 12 rfl (Zk e29 p15 p16) ?_
   refine Zq 13 rfl (Zr 0 (.int .u32) x4 (gt x1 x3) 0 h41 rfl p15 p16) ?_
   intro _ w30 h42
   replace h42:=nf h42
   refine ⟨⟨[_],h42⟩,?_⟩
   have e30:(x1.set x4.toNat (gt x1 x3)).length=a0.length:=List.length_set.trans e10
   refine Zj 14 rfl (Zk e29 p13 p14) ?_
   refine Zq 15 rfl (Zr 0 (.int .u32) x3 (gt x1 x4) 0 h42 rfl p13 (by simpa only [List.length_set] using p14)) ?_
   intro _ w31 h43
   replace h43:=nf h43
   refine ⟨⟨[_],h43⟩,?_⟩
   have e31:((x1.set x4.toNat (gt x1 x3)).set x3.toNat (gt x1 x4)).length=a0.length:=List.length_set.trans e30
   refine Zw [0,1,9,10] ?_
   exact Z2 ⟨(by simp only [List.length_set,List.length_nil] <;> rfl),((h43.only [0] rfl).rds [] rfl)⟩
  ·refine Z5 11 rfl (OpT.ofq (Zl 0 h41.wht (gO 0) p15 p16)) ?_
   rintro _ _ ⟨rfl,rfl⟩
   replace h41:=nf h41
   refine ⟨⟨[_],h41⟩,?_⟩
   refine Zq 7 rfl (OpT.ofq (Zl 0 h41.wht (gO 0) p13 p14)) ?_
   rintro _ _ ⟨rfl,rfl⟩
   replace h41:=nf h41
   refine ⟨⟨[_],h41⟩,?_⟩
   refine Zj 12 rfl (Zk e29 p15 p16) ?_
   refine Zq 13 rfl (Zr 0 (.int .u32) x4 (gt x1 x3) 0 h41 rfl p15 p16) ?_
   intro _ w32 h44
   replace h44:=nf h44
   refine ⟨⟨[_],h44⟩,?_⟩
   have e32:(x1.set x4.toNat (gt x1 x3)).length=a0.length:=List.length_set.trans e10
   refine Zj 14 rfl (Zk e29 p13 p14) ?_
   refine Zq 15 rfl (Zr 0 (.int .u32) x3 (gt x1 x4) 0 h44 rfl p13 (by simpa only [List.length_set] using p14)) ?_
   intro _ w33 h45
   replace h45:=nf h45
   refine ⟨⟨[_],h45⟩,?_⟩
   have e33:((x1.set x4.toNat (gt x1 x3)).set x3.toNat (gt x1 x4)).length=a0.length:=List.length_set.trans e32
   refine Zw [0,1,9,10] ?_
   exact Z2 ⟨(by simp only [List.length_set,List.length_nil] <;> rfl),((h45.only [0] rfl).rds [] rfl)⟩
 rintro env w34 ⟨rfl,h46⟩
 have e34:((x1.set x4.toNat (gt x1 x3)).set x3.toNat (gt x1 x4)).length=a0.length:=by first | (simp only [List.length_set]; done) | (simp only [List.length_set]; exact e10)
 refine J.seq (Zc [0,1,9,10] ?_)
 refine Zc [0,1,9,10] ?_
 have h47:=(sOR h46 [0] [])
 exact ⟨k4,by omega,((x1.set x4.toNat (gt x1 x3)).set x3.toNat (gt x1 x4)),(w64 (x4+1)),(w64 (x3 - 1)),rfl,h47,H,e34⟩

end Go.SK.T
