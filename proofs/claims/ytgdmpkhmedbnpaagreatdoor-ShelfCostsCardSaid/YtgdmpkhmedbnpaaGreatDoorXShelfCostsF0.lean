/- The types of the program, and its functions as the code computes them, each proved. -/
import Derived.Test.YtgdmpkhmedbnpaaGreatDoorXShelfCostsKB
import Derived.Test.YtgdmpkhmedbnpaaGreatDoorProg
import Derived.Shelf.Spec.TrailingZeros
set_option linter.unusedVariables false
set_option linter.unusedSimpArgs false
set_option maxRecDepth 20000
set_option maxHeartbeats 40000000
namespace Go.SK.T
open Go Go.SK Go.Proofs
def tt:TT:=[(1,⟨.func,1,8,.nilFunc⟩),
 (2,⟨.int .i64,1,8,.int .i64 0⟩),
 (3,⟨.int .i64,1,8,.int .i64 0⟩),
 (4,⟨.bool,1,1,.bool false⟩),
 (5,⟨.int .u8,1,1,.int .u8 0⟩),
 (6,⟨.int .u8,1,1,.int .u8 0⟩),
 (9,⟨.str,1,16,.string ⟨⟨[]⟩⟩⟩),
 (23,⟨.struct [(3,0,1),(3,1,1),(3,2,1),(3,3,1),(3,4,1),(3,5,1),(3,6,1),(3,7,1)],8,64,.agg #[.int .i64 0,.int .i64 0,.int .i64 0,.int .i64 0,.int .i64 0,.int .i64 0,.int .i64 0,.int .i64 0]⟩),
 (24,⟨.slice 45,1,24,.slice none 0 0⟩),
 (27,⟨.ptr 83,1,8,.pointer none⟩),
 (28,⟨.ptr 121,1,8,.pointer none⟩),
 (33,⟨.int .u32,1,4,.int .u32 0⟩),
 (38,⟨.slice 33,1,24,.slice none 0 0⟩),
 (39,⟨.slice 9,1,24,.slice none 0 0⟩),
 (40,⟨.slice 115,1,24,.slice none 0 0⟩),
 (41,⟨.slice 106,1,24,.slice none 0 0⟩),
 (43,⟨.struct [(3,0,1),(38,1,1),(39,2,1),(40,3,1),(41,4,1)],5,104,.agg #[.int .i64 0,.slice none 0 0,.slice none 0 0,.slice none 0 0,.slice none 0 0]⟩),
 (45,⟨.struct [(3,0,1),(33,1,1),(43,2,5)],7,120,.agg #[.int .i64 0,.int .u32 0,.int .i64 0,.slice none 0 0,.slice none 0 0,.slice none 0 0,.slice none 0 0]⟩),
 (48,⟨.int .i64,1,8,.int .i64 0⟩),
 (54,⟨.slice 5,1,24,.slice none 0 0⟩),
 (61,⟨.int .u64,1,8,.int .u64 0⟩),
 (63,⟨.struct [(61,0,1),(61,1,1)],2,16,.agg #[.int .u64 0,.int .u64 0]⟩),
 (80,⟨.ptr 169,1,8,.pointer none⟩),
 (81,⟨.ptr 193,1,8,.pointer none⟩),
 (83,⟨.struct [(23,0,8),(28,8,1),(80,9,1),(81,10,1),(33,11,1)],12,96,.agg #[.int .i64 0,.int .i64 0,.int .i64 0,.int .i64 0,.int .i64 0,.int .i64 0,.int .i64 0,.int .i64 0,.pointer none,.pointer none,.pointer none,.int .u32 0]⟩),
 (92,⟨.struct [(9,0,1),(9,1,1),(4,2,1)],3,40,.agg #[.string ⟨⟨[]⟩⟩,.string ⟨⟨[]⟩⟩,.bool false]⟩),
 (106,⟨.struct [(9,0,1),(9,1,1)],2,32,.agg #[.string ⟨⟨[]⟩⟩,.string ⟨⟨[]⟩⟩]⟩),
 (115,⟨.struct [(9,0,1),(4,1,1),(9,2,1)],3,40,.agg #[.string ⟨⟨[]⟩⟩,.bool false,.string ⟨⟨[]⟩⟩]⟩),
 (121,⟨.struct [(3,0,1),(54,1,1),(63,2,2)],4,48,.agg #[.int .i64 0,.slice none 0 0,.int .u64 0,.int .u64 0]⟩),
 (124,⟨.ptr 172,1,8,.pointer none⟩),
 (161,⟨.ptr 163,1,8,.pointer none⟩),
 (163,⟨.struct [(33,0,1),(54,1,1),(4,2,1),(3,3,1)],4,48,.agg #[.int .u32 0,.slice none 0 0,.bool false,.int .i64 0]⟩),
 (164,⟨.slice 163,1,24,.slice none 0 0⟩),
 (165,⟨.map 33 3,1,8,.map none⟩),
 (166,⟨.slice 3,1,24,.slice none 0 0⟩),
 (167,⟨.ptr 227,1,8,.pointer none⟩),
 (169,⟨.struct [(28,0,1),(164,1,1),(165,2,1),(166,3,1),(167,4,1)],5,72,.agg #[.pointer none,.slice none 0 0,.map none,.slice none 0 0,.pointer none]⟩),
 (172,⟨.struct [(54,0,1),(48,1,1)],2,32,.agg #[.slice none 0 0,.int .i64 0]⟩),
 (175,⟨.int .u64,1,8,.int .u64 0⟩),
 (177,⟨.func,1,8,.nilFunc⟩),
 (184,⟨.func,1,8,.nilFunc⟩),
 (191,⟨.ptr 231,1,8,.pointer none⟩),
 (193,⟨.struct [(191,0,1)],1,8,.agg #[.pointer none]⟩),
 (200,⟨.func,1,8,.nilFunc⟩),
 (206,⟨.func,1,8,.nilFunc⟩),
 (209,⟨.func,1,8,.nilFunc⟩),
 (216,⟨.func,1,8,.nilFunc⟩),
 (224,⟨.struct [(3,0,1),(3,1,1),(4,2,1)],3,24,.agg #[.int .i64 0,.int .i64 0,.bool false]⟩),
 (225,⟨.slice 224,1,24,.slice none 0 0⟩),
 (227,⟨.struct [(225,0,1),(3,1,1)],2,32,.agg #[.slice none 0 0,.int .i64 0]⟩),
 (229,⟨.slice 61,1,24,.slice none 0 0⟩),
 (231,⟨.struct [(3,0,1),(3,1,1),(229,2,1)],3,40,.agg #[.int .i64 0,.int .i64 0,.slice none 0 0]⟩),
 (250,⟨.func,1,8,.nilFunc⟩),
 (254,⟨.func,1,8,.nilFunc⟩),
 (257,⟨.func,1,8,.nilFunc⟩),
 (274,⟨.int .i64,1,8,.int .i64 0⟩),
 (283,⟨.int .u64,1,8,.int .u64 0⟩),
 (287,⟨.ptr 3,1,8,.pointer none⟩),
 (289,⟨.ptr 283,1,8,.pointer none⟩)]
theorem Y6:Yt Tryz.prog tt:=by
 refine ttC ⟨_,_,_,Tryz.underlying1⟩ ?_
 refine ttC Tryz.underlying2 ?_
 refine ttC Tryz.underlying3 ?_
 refine ttC Tryz.underlying4 ?_
 refine ttC Tryz.underlying5 ?_
 refine ttC Tryz.underlying6 ?_
 refine ttC Tryz.underlying9 ?_
 refine ttS Tryz.underlying23 ?_
 refine ttC Tryz.underlying24 ?_
 refine ttC Tryz.underlying27 ?_
 refine ttC Tryz.underlying28 ?_
 refine ttC Tryz.underlying33 ?_
 refine ttC Tryz.underlying38 ?_
 refine ttC Tryz.underlying39 ?_
 refine ttC Tryz.underlying40 ?_
 refine ttC Tryz.underlying41 ?_
 refine ttS Tryz.underlying43 ?_
 refine ttS Tryz.underlying45 ?_
 refine ttC Tryz.underlying48 ?_
 refine ttC Tryz.underlying54 ?_
 refine ttC Tryz.underlying61 ?_
 refine ttS Tryz.underlying63 ?_
 refine ttC Tryz.underlying80 ?_
 refine ttC Tryz.underlying81 ?_
 refine ttS Tryz.underlying83 ?_
 refine ttS Tryz.underlying92 ?_
 refine ttS Tryz.underlying106 ?_
 refine ttS Tryz.underlying115 ?_
 refine ttS Tryz.underlying121 ?_
 refine ttC Tryz.underlying124 ?_
 refine ttC Tryz.underlying161 ?_
 refine ttS Tryz.underlying163 ?_
 refine ttC Tryz.underlying164 ?_
 refine ttC Tryz.underlying165 ?_
 refine ttC Tryz.underlying166 ?_
 refine ttC Tryz.underlying167 ?_
 refine ttS Tryz.underlying169 ?_
 refine ttS Tryz.underlying172 ?_
 refine ttC Tryz.underlying175 ?_
 refine ttC ⟨_,_,_,Tryz.underlying177⟩ ?_
 refine ttC ⟨_,_,_,Tryz.underlying184⟩ ?_
 refine ttC Tryz.underlying191 ?_
 refine ttS Tryz.underlying193 ?_
 refine ttC ⟨_,_,_,Tryz.underlying200⟩ ?_
 refine ttC ⟨_,_,_,Tryz.underlying206⟩ ?_
 refine ttC ⟨_,_,_,Tryz.underlying209⟩ ?_
 refine ttC ⟨_,_,_,Tryz.underlying216⟩ ?_
 refine ttS Tryz.underlying224 ?_
 refine ttC Tryz.underlying225 ?_
 refine ttS Tryz.underlying227 ?_
 refine ttC Tryz.underlying229 ?_
 refine ttS Tryz.underlying231 ?_
 refine ttC ⟨_,_,_,Tryz.underlying250⟩ ?_
 refine ttC ⟨_,_,_,Tryz.underlying254⟩ ?_
 refine ttC ⟨_,_,_,Tryz.underlying257⟩ ?_
 refine ttC Tryz.underlying274 ?_
 refine ttC Tryz.underlying283 ?_
 refine ttC Tryz.underlying287 ?_
 refine ttC Tryz.underlying289 ?_
 exact Ziz _
theorem mix:Tryz.prog.follows .mixedOrders=true:=by kernel_rfl
instance:TTI Tryz.prog tt:=⟨Y6,mix⟩
abbrev X23 (b:Nat) (p0:Int) (p1:Int) (p2:Int) (p3:Int) (p4:Int) (p5:Int) (p6:Int) (p7:Int):Ch:=Yv b 23 [.int .i64 p0,.int .i64 p1,.int .i64 p2,.int .i64 p3,.int .i64 p4,.int .i64 p5,.int .i64 p6,.int .i64 p7]
abbrev O5 (x:List (Int)) (A:Option Addr) (c:Nat):Ch:=Yn 5 (.int .u8) x (.slice A x.length c)
abbrev Yb (b:Nat) (p0:Int) (p1:List (Int)) (A1:Option Addr) (c1:Nat) (p2:Int) (p3:Int):Ch:=Yv b 121 [.int .i64 p0,.slice A1 p1.length c1,.int .u64 p2,.int .u64 p3]
abbrev X83 (b:Nat) (p0:Int) (p1:Int) (p2:Int) (p3:Int) (p4:Int) (p5:Int) (p6:Int) (p7:Int) (p8:Value) (p9:Value) (p10:Value) (p11:Int):Ch:=Yv b 83 [.int .i64 p0,.int .i64 p1,.int .i64 p2,.int .i64 p3,.int .i64 p4,.int .i64 p5,.int .i64 p6,.int .i64 p7,p8,p9,p10,.int .u32 p11]
abbrev Yh (b:Nat) (p0:Value) (p1:List (Int×List (Int)×Bool×Int)) (A1:Option Addr) (c1:Nat) (p2:Value) (p3:List (Int)) (A3:Option Addr) (c3:Nat) (p4:Value):Ch:=Yv b 169 [p0,.slice A1 p1.length c1,p2,.slice A3 p3.length c3,p4]
abbrev Yg (x:List (Int×List (Int)×Bool×Int)) (A:Option Addr) (c:Nat):Ch:=Yn 163 (.pair (.int .u32) (.pair (.slice 5 (.int .u8)) (.pair .bool (.int .i64)))) x (.slice A x.length c)
abbrev O3 (x:List (Int)) (A:Option Addr) (c:Nat):Ch:=Yn 3 (.int .i64) x (.slice A x.length c)
abbrev Z7 (b:Nat) (p0:List (Int×Int×Bool)) (A0:Option Addr) (c0:Nat) (p1:Int):Ch:=Yv b 227 [.slice A0 p0.length c0,.int .i64 p1]
abbrev Z8 (x:List (Int×Int×Bool)) (A:Option Addr) (c:Nat):Ch:=Yn 224 (.pair (.int .i64) (.pair (.int .i64) .bool)) x (.slice A x.length c)
abbrev Yw (b:Nat) (p0:Value):Ch:=Yv b 193 [p0]
abbrev Yk (b:Nat) (p0:Int) (p1:Int) (p2:List (Int)) (A2:Option Addr) (c2:Nat):Ch:=Yv b 231 [.int .i64 p0,.int .i64 p1,.slice A2 p2.length c2]
abbrev O61 (x:List (Int)) (A:Option Addr) (c:Nat):Ch:=Yn 61 (.int .u64) x (.slice A x.length c)
abbrev X43 (b:Nat) (p0:Int) (p1:List (Int)) (A1:Option Addr) (c1:Nat) (p2:List (List UInt8)) (A2:Option Addr) (c2:Nat) (p3:List (List UInt8×Bool×List UInt8)) (A3:Option Addr) (c3:Nat) (p4:List (List UInt8×List UInt8)) (A4:Option Addr) (c4:Nat):Ch:=Yv b 43 [.int .i64 p0,.slice A1 p1.length c1,.slice A2 p2.length c2,.slice A3 p3.length c3,.slice A4 p4.length c4]
abbrev X92 (b:Nat) (p0:List UInt8) (p1:List UInt8) (p2:Bool):Ch:=Yv b 92 [.string ⟨⟨p0⟩⟩,.string ⟨⟨p1⟩⟩,.bool p2]
abbrev Xv (x:List (List UInt8×List UInt8)) (A:Option Addr) (c:Nat):Ch:=rdC 106 (.pair .str .str) x (.slice A x.length c)
abbrev X106 (b:Nat) (p0:List UInt8) (p1:List UInt8):Ch:=Yv b 106 [.string ⟨⟨p0⟩⟩,.string ⟨⟨p1⟩⟩]
abbrev R33 (x:List (Int)) (A:Option Addr) (c:Nat):Ch:=rdC 33 (.int .u32) x (.slice A x.length c)
abbrev R9 (x:List (List UInt8)) (A:Option Addr) (c:Nat):Ch:=rdC 9 .str x (.slice A x.length c)
abbrev Xw (x:List (List UInt8×Bool×List UInt8)) (A:Option Addr) (c:Nat):Ch:=rdC 115 (.pair .str (.pair .bool .str)) x (.slice A x.length c)
abbrev O33 (x:List (Int)) (A:Option Addr) (c:Nat):Ch:=Yn 33 (.int .u32) x (.slice A x.length c)
abbrev X3 (b:Nat) (p0:Int):Ch:=Yv b 3 [.int .i64 p0]
abbrev G0 (b:Nat) (p0:Int):Ch:=Yv b 283 [.int .u64 p0]
abbrev X115 (b:Nat) (p0:List UInt8) (p1:Bool) (p2:List UInt8):Ch:=Yv b 115 [.string ⟨⟨p0⟩⟩,.bool p1,.string ⟨⟨p2⟩⟩]
abbrev R5 (x:List (Int)) (A:Option Addr) (c:Nat):Ch:=rdC 5 (.int .u8) x (.slice A x.length c)
abbrev Zb4 (b:Nat) (p0:Int) (p1:Int) (p2:Bool):Ch:=Yv b 224 [.int .i64 p0,.int .i64 p1,.bool p2]
abbrev Zg7 (b:Nat) (p0:Int) (p1:List (Int)) (A1:Option Addr) (c1:Nat) (p2:Bool) (p3:Int):Ch:=Yv b 163 [.int .u32 p0,.slice A1 p1.length c1,.bool p2,.int .i64 p3]
abbrev Xr (b:Nat) (p0:List (Int)) (A0:Option Addr) (c0:Nat) (p1:Int):Ch:=Yv b 172 [.slice A0 p0.length c0,.int .i64 p1]
abbrev Zb0 (x:List (List UInt8×List UInt8)) (A:Option Addr) (c:Nat):Ch:=Yn 106 (.pair .str .str) x (.slice A x.length c)
abbrev O9 (x:List (List UInt8)) (A:Option Addr) (c:Nat):Ch:=Yn 9 .str x (.slice A x.length c)
abbrev Zbt (x:List (List UInt8×Bool×List UInt8)) (A:Option Addr) (c:Nat):Ch:=Yn 115 (.pair .str (.pair .bool .str)) x (.slice A x.length c)
abbrev X45 (b:Nat) (p0:Int) (p1:Int) (p2:Int) (p3:List (Int)) (A3:Option Addr) (c3:Nat) (p4:List (List UInt8)) (A4:Option Addr) (c4:Nat) (p5:List (List UInt8×Bool×List UInt8)) (A5:Option Addr) (c5:Nat) (p6:List (List UInt8×List UInt8)) (A6:Option Addr) (c6:Nat):Ch:=Yv b 45 [.int .i64 p0,.int .u32 p1,.int .i64 p2,.slice A3 p3.length c3,.slice A4 p4.length c4,.slice A5 p5.length c5,.slice A6 p6.length c6]
abbrev X63 (b:Nat) (p0:Int) (p1:Int):Ch:=Yv b 63 [.int .u64 p0,.int .u64 p1]
abbrev X165 (b:Nat) (p0:Value):Ch:=Yv b 165 [p0]
abbrev R45 (x:List (Int×Int×(Int×List (Int)×List (List UInt8)×(List (List UInt8×Bool×List UInt8))×(List (List UInt8×List UInt8))))) (A:Option Addr) (c:Nat):Ch:=rdC 45 (.pair (.int .i64) (.pair (.int .u32) (.pair (.int .i64) (.pair (.slice 33 (.int .u32)) (.pair (.slice 9 .str) (.pair (.slice 115 (.pair .str (.pair .bool .str))) (.slice 106 (.pair .str .str)))))))) x (.slice A x.length c)
def tzR:Go.Shelf.Ren:={ f:=fun _=>212,t:=fun n=>if n=3 then 3 else if n=4 then 4 else if n=5 then 5 else if n=22 then 61 else if n=25 then 175 else if n=54 then 271 else 0,g:=fun _=>0 }
theorem tzL:Go.Proofs.Lays7.n29 Tryz.prog tzR where
 mixed:=mix
 f29:=by kernel_rfl
 t0:=by kernel_rfl
 a0:=fun _=>by kernel_rfl
 z0:=fun _=>by kernel_rfl
 v0:=fun _=>by kernel_rfl
 i0:=by kernel_rfl
 t3:=by kernel_rfl
 a3:=fun _=>by kernel_rfl
 z3:=fun _=>by kernel_rfl
 v3:=fun _=>by kernel_rfl
 i3:=by kernel_rfl
 t4:=by kernel_rfl
 a4:=fun _=>by kernel_rfl
 z4:=fun _=>by kernel_rfl
 v4:=fun _=>by kernel_rfl
 i4:=by kernel_rfl
 t5:=by kernel_rfl
 a5:=fun _=>by kernel_rfl
 z5:=fun _=>by kernel_rfl
 v5:=fun _=>by kernel_rfl
 i5:=by kernel_rfl
 t22:=by kernel_rfl
 a22:=fun _=>by kernel_rfl
 z22:=fun _=>by kernel_rfl
 v22:=fun _=>by kernel_rfl
 i22:=by kernel_rfl
 t25:=by kernel_rfl
 a25:=fun _=>by kernel_rfl
 z25:=fun _=>by kernel_rfl
 v25:=fun _=>by kernel_rfl
 i25:=by kernel_rfl
 t54:=by kernel_rfl
 a54:=fun _=>by kernel_rfl
 z54:=fun _=>by kernel_rfl
 g1:=by kernel_rfl
def tzI (x:Int):Int:=((Go.Lib.ctz 64 x.toNat:Nat):Int)
def tabC (g:Nat):Ch where
 ok w F:=F g∧Go.Proofs.TabAt g Go.Lib.deBruijn64tab w
 stable:=fun {w w' F} hs h=>⟨h.1,fun j hj=>by
  have:=h.2 j hj
  unfold World.cell? at this ⊢
  rw [hs g h.1]
  exact this⟩
theorem tz64.spec {x:Int} (h0:0≤x) (h1:x<18446744073709551616):Spec Tryz.prog 212 [.int .u64 x] [] [tabC 0] (fun v l=>v=.int .i64 (tzI x)∧l=[]):=by
 refine ⟨⟨_,Tryz.func212,by kernel_rfl,by kernel_rfl⟩,fun w F hs hb hrd=>?_⟩
 obtain ⟨n,rfl⟩:=Int.eq_ofNat_of_zero_le h0
 obtain ⟨R,hR,_⟩:=hrd _ (List.mem_singleton.2 rfl)
 have:=Go.Proofs.Any7.bits_TrailingZeros64 tzL n (by omega) w (fun _=>hR.2)
 refine this.mono fun e w' ⟨he,hw⟩=>?_
 subst hw
 refine ⟨_,[],fun _=>False,he,⟨rfl,rfl⟩,Chg.refl _ _,?_,fun b h=>h.elim⟩
 trivial

theorem Zmc:CmpStr Tryz.prog 246:=CmpStr.of Tryz.func246 (by kernel_rfl) (by kernel_rfl) (by kernel_rfl) rfl
def Q134.f (a0:Int) (a1:Int) (a2:Int):Option (Bool):=if (decide (a1≤a0))=true then (some (decide (a0≤a2))) else (some false)
theorem Q134.spec {a0:Int} {a1:Int} {a2:Int}  {r:Bool} (H:Q134.f a0 a1 a2=some r) :
  Spec Tryz.prog 88 [.int .i64 a0,.int .i64 a1,.int .i64 a2] [] [] (fun v l=>v=.bool r∧l=[]):=by
 refine Zo Tryz.func88 fun w0 F0 h0=>?_
 unfold Q134.f at H
 refine J.seq (Zb [0,1,2] ?_)
 refine J.seq (J.region ?_)
 refine Zh 4 ?_
 refine Yj 10 H (fun c1 H=>?_) fun c1 H=>?_
 ·refine Zi [6] rfl ?_
  refine J.ret ?_
  cases H
  exact ⟨_,_,_,Za,⟨rfl,rfl⟩,Zc h0 []⟩
 refine Zi [6] rfl ?_
 refine J.ret ?_
 cases H
 exact ⟨_,_,_,Za,⟨rfl,rfl⟩,Zc h0 []⟩

def Q133.f (a0:Int×Int×Int×Int×Int×Int×Int×Int):Option (Bool):=(Q134.f a0.2.2.2.1 8 64).bind fun r1=>(if (!r1)=true then (some false) else ((Q134.f a0.2.2.2.2.2.2.1 1 64).bind fun r2=>(if (!r2)=true then (some false) else ((Q134.f a0.2.2.2.2.2.2.2 0 256).bind fun r3=>(if (!r3)=true then (some false) else ((Q134.f a0.2.2.2.2.1 (w64 (2*a0.2.2.2.1)) 512).bind fun r4=>(if r4=true then ((Q134.f a0.2.2.2.2.2.1 a0.2.2.2.2.1 1024).bind fun r5=>(some r5)) else (some false))))))))
theorem Q133.spec {a0:Int×Int×Int×Int×Int×Int×Int×Int}  {r:Bool} (H:Q133.f a0=some r) :
  Spec Tryz.prog 87 [.agg #[.int .i64 a0.1,.int .i64 a0.2.1,.int .i64 a0.2.2.1,.int .i64 a0.2.2.2.1,.int .i64 a0.2.2.2.2.1,.int .i64 a0.2.2.2.2.2.1,.int .i64 a0.2.2.2.2.2.2.1,.int .i64 a0.2.2.2.2.2.2.2]] [] [] (fun v l=>v=.bool r∧l=[]):=by
 refine Zo Tryz.func87 fun w0 F0 h0=>?_
 unfold Q133.f at H
 refine J.seq (J.region ?_)
 refine Ze (Ym h0) ?_
 rintro _ w1 ⟨b1,rfl,h1⟩
 replace h1:=nf h1
 refine Zi [1] rfl ?_
 refine J.seq (J.seq (J.region ?_))
 refine Zh 1 ?_
 refine Zf (Zd 0 h1.wht) ?_
 obtain ⟨r1,q1,H⟩:=Zn H
 refine Ze (Zg [] (Q134.spec q1) h1 rfl Zr) ?_
 rintro _ w2 ⟨_,⟨rfl,rfl⟩,h2⟩
 replace h2:=nf h2
 refine Zh 2 ?_
 refine Yj 7 H (fun c1 H=>?_) fun c1 H=>?_
 ·refine Zi [1,18] rfl ?_
  refine Zt ?_
  refine J.seq (Zb [2] ?_)
  refine J.ret ?_
  cases H
  exact ⟨_,_,_,Za,⟨rfl,rfl⟩,Zc h2 []⟩
 refine Zh 1 ?_
 refine Zf (Zd 0 h2.wht) ?_
 obtain ⟨r2,q2,H⟩:=Zn H
 refine Ze (Zg [] (Q134.spec q2) h2 rfl Zr) ?_
 rintro _ w3 ⟨_,⟨rfl,rfl⟩,h3⟩
 replace h3:=nf h3
 refine Zh 3 ?_
 refine Yj 13 H (fun c2 H=>?_) fun c2 H=>?_
 ·refine Zi [1,18] rfl ?_
  refine Zt ?_
  refine J.seq (Zb [2] ?_)
  refine J.ret ?_
  cases H
  exact ⟨_,_,_,Za,⟨rfl,rfl⟩,Zc h3 []⟩
 refine Zh 1 ?_
 refine Zf (Zd 0 h3.wht) ?_
 obtain ⟨r3,q3,H⟩:=Zn H
 refine Ze (Zg [] (Q134.spec q3) h3 rfl Zr) ?_
 rintro _ w4 ⟨_,⟨rfl,rfl⟩,h4⟩
 replace h4:=nf h4
 refine Zi [1,18] rfl ?_
 refine jIf H (fun c3 H=>?_) fun c3 H=>?_
 ·refine J.seq (Zb [2] ?_)
  refine J.ret ?_
  cases H
  exact ⟨_,_,_,Za,⟨rfl,rfl⟩,Zc h4 []⟩
 refine J.skip (J.seq (J.region ?_))
 refine Zh 1 ?_
 refine Zf (Zd 0 h4.wht) ?_
 refine Zh 1 ?_
 refine Zf (Zd 0 h4.wht) ?_
 refine Zh 1 ?_
 obtain ⟨r4,q4,H⟩:=Zn H
 refine Ze (Zg [] (Q134.spec q4) h4 rfl Zr) ?_
 rintro _ w5 ⟨_,⟨rfl,rfl⟩,h5⟩
 replace h5:=nf h5
 refine Zh 1 ?_
 refine Yj 25 H (fun c4 H=>?_) fun c4 H=>?_
 ·refine Zh 1 ?_
  refine Zf (Zd 0 h5.wht) ?_
  refine Zh 1 ?_
  refine Zf (Zd 0 h5.wht) ?_
  obtain ⟨r5,q5,H⟩:=Zn H
  refine Ze (Zg [] (Q134.spec q5) h5 rfl Zr) ?_
  rintro _ w6 ⟨_,⟨rfl,rfl⟩,h6⟩
  replace h6:=nf h6
  refine Zi [2] rfl ?_
  refine J.ret ?_
  cases H
  exact ⟨_,_,_,Za,⟨rfl,rfl⟩,Zc h6 []⟩
 refine Zi [2] rfl ?_
 refine J.ret ?_
 cases H
 exact ⟨_,_,_,Za,⟨rfl,rfl⟩,Zc h5 []⟩

def Q130.l1:Nat→(Int×Int×Int×Int×Int×Int×Int×Int)→(Int)→(Int)→Option (Int)
 | 0,_,_,_=>none
 | k+1,a0,x3,x4=>if (decide (x4<a0.2.2.2.2.1))=true then (Q130.l1 k a0 (w64 ((w64 ((w64 (x3+4))+a0.2.2.2.2.2.2.1))+a0.2.2.2.2.2.2.2)) (w64 (x4+1))) else (some x3)
def Q130.l0:Nat→(Int×Int×Int×Int×Int×Int×Int×Int)→(Int)→(Int)→Option (Int)
 | 0,_,_,_=>none
 | k+1,a0,x1,x2=>if (decide (x2<a0.2.2.2.1))=true then (if (decide (0<x2))=true then (Q130.l0 k a0 (w64 ((w64 ((w64 (x1+4))+1))+a0.2.2.2.2.2.2.1)) (w64 (x2+1))) else (Q130.l0 k a0 (w64 (x1+4)) (w64 (x2+1)))) else (Q130.l1 k a0 x1 0)
def Q130.f (k:Nat) (a0:Int×Int×Int×Int×Int×Int×Int×Int):Option (Int):=(Q133.f a0).bind fun r1=>(if (!r1)=true then (some 0) else (Q130.l0 k a0 8 0))
theorem Q130.spec {k:Nat} {a0:Int×Int×Int×Int×Int×Int×Int×Int}  {r:Int} (H:Q130.f k a0=some r) :
  Spec Tryz.prog 89 [.agg #[.int .i64 a0.1,.int .i64 a0.2.1,.int .i64 a0.2.2.1,.int .i64 a0.2.2.2.1,.int .i64 a0.2.2.2.2.1,.int .i64 a0.2.2.2.2.2.1,.int .i64 a0.2.2.2.2.2.2.1,.int .i64 a0.2.2.2.2.2.2.2]] [] [] (fun v l=>v=.int .i64 r∧l=[]):=by
 refine Zo Tryz.func89 fun w0 F0 h0=>?_
 unfold Q130.f at H
 refine J.seq (J.region ?_)
 refine Ze (Ym h0) ?_
 rintro _ w1 ⟨b1,rfl,h1⟩
 replace h1:=nf h1
 refine Zi [1] rfl ?_
 refine J.seq (J.seq (J.region ?_))
 refine Zf (Zd 0 h1.wht) ?_
 obtain ⟨r1,q1,H⟩:=Zn H
 refine Ze (Zg [] (Q133.spec q1) h1 rfl Zr) ?_
 rintro _ w2 ⟨_,⟨rfl,rfl⟩,h2⟩
 replace h2:=nf h2
 refine Zi [1,8] rfl ?_
 refine jIf H (fun c1 H=>?_) fun c1 H=>?_
 ·refine J.seq (Zb [2] ?_)
  refine J.ret ?_
  cases H
  exact ⟨_,_,_,Za,⟨rfl,rfl⟩,Zc h2 []⟩
 refine J.skip (J.seq (Zb [1,3] ?_))
 refine J.seq (J.seq (Zb [1,3,4] ?_))
 refine J.block ?_
 have h9:=(sOR h2 [0] [])
 refine J.loop (fun kk env w=>∃(x1:Int) (x2:Int),env=[(1,.pointer (some ⟨b1,0,none⟩)),(3,.int .i64 x1),(4,.int .i64 x2)]∧St w0 F0 [X23 b1 a0.1 a0.2.1 a0.2.2.1 a0.2.2.2.1 a0.2.2.2.2.1 a0.2.2.2.2.2.1 a0.2.2.2.2.2.2.1 a0.2.2.2.2.2.2.2] [] w∧Q130.l0 kk a0 x1 x2=some r) (k:=k) ⟨8,0,rfl,h9,H⟩ ?_
 rintro k1 env w3 ⟨x1,x2,rfl,h3,H⟩
 rcases k1 with _ | k1
 ·exact z0 H
 rw [Q130.l0] at H
 refine J.seq (J.seq (J.region ?_))
 refine Zh 2 ?_
 refine Zf (Zd 0 h3.wht) ?_
 refine Zi [1,3,4,12] rfl ?_
 refine jIf H (fun c2 H=>?_) fun c2 H=>?_
 ·refine J.skip (J.seq (J.block (J.seq (Zb [1,3,4] ?_))))
  refine J.seq (Zb [1,3,4,18] ?_)
  refine jIf H (fun c3 H=>?_) fun c3 H=>?_
  ·refine J.region (Zh 3 ?_)
   refine Zf (Zd 0 h3.wht) ?_
   refine Zi [1,3,4] rfl ?_
   refine Zb [1,3,4] ?_
   have h4:=(sOR h3 [0] [])
   exact ⟨k1,by omega,(w64 ((w64 ((w64 (x1+4))+1))+a0.2.2.2.2.2.2.1)),(w64 (x2+1)),rfl,h4,H⟩
  refine J.skip (Zb [1,3,4] ?_)
  have h5:=(sOR h3 [0] [])
  exact ⟨k1,by omega,(w64 (x1+4)),(w64 (x2+1)),rfl,h5,H⟩
 refine J.exit (J.seq (J.seq (Zb [1,3,5] ?_)))
 refine J.block ?_
 have h8:=(sOR h3 [0] [])
 refine J.loop (fun kk env w=>∃(x3:Int) (x4:Int),env=[(1,.pointer (some ⟨b1,0,none⟩)),(3,.int .i64 x3),(5,.int .i64 x4)]∧St w0 F0 [X23 b1 a0.1 a0.2.1 a0.2.2.1 a0.2.2.2.1 a0.2.2.2.2.1 a0.2.2.2.2.2.1 a0.2.2.2.2.2.2.1 a0.2.2.2.2.2.2.2] [] w∧Q130.l1 kk a0 x3 x4=some r) (k:=k1) ⟨x1,0,rfl,h8,H⟩ ?_
 rintro k2 env w4 ⟨x3,x4,rfl,h6,H⟩
 rcases k2 with _ | k2
 ·exact z0 H
 rw [Q130.l1] at H
 refine J.seq (J.seq (J.region ?_))
 refine Zh 2 ?_
 refine Zf (Zd 0 h6.wht) ?_
 refine Zi [1,3,5,27] rfl ?_
 refine jIf H (fun c4 H=>?_) fun c4 H=>?_
 ·refine J.skip (J.seq (J.block (J.region ?_)))
  refine Zh 3 ?_
  refine Zf (Zd 0 h6.wht) ?_
  refine Zh 2 ?_
  refine Zf (Zd 0 h6.wht) ?_
  refine Zi [1,3,5] rfl ?_
  refine Zb [1,3,5] ?_
  have h7:=(sOR h6 [0] [])
  exact ⟨k2,by omega,(w64 ((w64 ((w64 (x3+4))+a0.2.2.2.2.2.2.1))+a0.2.2.2.2.2.2.2)),(w64 (x4+1)),rfl,h7,H⟩
 refine J.exit (J.seq (Zb [2] ?_))
 refine J.ret ?_
 cases H
 exact ⟨_,_,_,Za,⟨rfl,rfl⟩,Zc h6 []⟩

def Q131.l0:Nat→(Int×Int×Int×Int×Int×Int×Int×Int)→(Int)→(Int)→Option (Int)
 | 0,_,_,_=>none
 | k+1,a0,x1,x2=>if (decide (x2<a0.2.2.2.2.2.1))=true then (Q131.l0 k a0 (w64 ((w64 ((w64 (x1+3))+a0.2.2.2.2.2.2.1))+a0.2.2.2.2.2.2.2)) (w64 (x2+1))) else (some x1)
def Q131.f (k:Nat) (a0:Int×Int×Int×Int×Int×Int×Int×Int):Option (Int):=(Q133.f a0).bind fun r1=>(if (!r1)=true then (some 0) else (Q131.l0 k a0 8 0))
theorem Q131.spec {k:Nat} {a0:Int×Int×Int×Int×Int×Int×Int×Int}  {r:Int} (H:Q131.f k a0=some r) :
  Spec Tryz.prog 90 [.agg #[.int .i64 a0.1,.int .i64 a0.2.1,.int .i64 a0.2.2.1,.int .i64 a0.2.2.2.1,.int .i64 a0.2.2.2.2.1,.int .i64 a0.2.2.2.2.2.1,.int .i64 a0.2.2.2.2.2.2.1,.int .i64 a0.2.2.2.2.2.2.2]] [] [] (fun v l=>v=.int .i64 r∧l=[]):=by
 refine Zo Tryz.func90 fun w0 F0 h0=>?_
 unfold Q131.f at H
 refine J.seq (J.region ?_)
 refine Ze (Ym h0) ?_
 rintro _ w1 ⟨b1,rfl,h1⟩
 replace h1:=nf h1
 refine Zi [1] rfl ?_
 refine J.seq (J.seq (J.region ?_))
 refine Zf (Zd 0 h1.wht) ?_
 obtain ⟨r1,q1,H⟩:=Zn H
 refine Ze (Zg [] (Q133.spec q1) h1 rfl Zr) ?_
 rintro _ w2 ⟨_,⟨rfl,rfl⟩,h2⟩
 replace h2:=nf h2
 refine Zi [1,7] rfl ?_
 refine jIf H (fun c1 H=>?_) fun c1 H=>?_
 ·refine J.seq (Zb [2] ?_)
  refine J.ret ?_
  cases H
  exact ⟨_,_,_,Za,⟨rfl,rfl⟩,Zc h2 []⟩
 refine J.skip (J.seq (Zb [1,3] ?_))
 refine J.seq (J.seq (Zb [1,3,4] ?_))
 refine J.block ?_
 have h5:=(sOR h2 [0] [])
 refine J.loop (fun kk env w=>∃(x1:Int) (x2:Int),env=[(1,.pointer (some ⟨b1,0,none⟩)),(3,.int .i64 x1),(4,.int .i64 x2)]∧St w0 F0 [X23 b1 a0.1 a0.2.1 a0.2.2.1 a0.2.2.2.1 a0.2.2.2.2.1 a0.2.2.2.2.2.1 a0.2.2.2.2.2.2.1 a0.2.2.2.2.2.2.2] [] w∧Q131.l0 kk a0 x1 x2=some r) (k:=k) ⟨8,0,rfl,h5,H⟩ ?_
 rintro k1 env w3 ⟨x1,x2,rfl,h3,H⟩
 rcases k1 with _ | k1
 ·exact z0 H
 rw [Q131.l0] at H
 refine J.seq (J.seq (J.region ?_))
 refine Zh 2 ?_
 refine Zf (Zd 0 h3.wht) ?_
 refine Zi [1,3,4,11] rfl ?_
 refine jIf H (fun c2 H=>?_) fun c2 H=>?_
 ·refine J.skip (J.seq (J.block (J.region ?_)))
  refine Zh 3 ?_
  refine Zf (Zd 0 h3.wht) ?_
  refine Zh 2 ?_
  refine Zf (Zd 0 h3.wht) ?_
  refine Zi [1,3,4] rfl ?_
  refine Zb [1,3,4] ?_
  have h4:=(sOR h3 [0] [])
  exact ⟨k1,by omega,(w64 ((w64 ((w64 (x1+3))+a0.2.2.2.2.2.2.1))+a0.2.2.2.2.2.2.2)),(w64 (x2+1)),rfl,h4,H⟩
 refine J.exit (J.seq (Zb [2] ?_))
 refine J.ret ?_
 cases H
 exact ⟨_,_,_,Za,⟨rfl,rfl⟩,Zc h3 []⟩

def Q132.f (k:Nat) (a0:Int×Int×Int×Int×Int×Int×Int×Int):Option (Bool):=(Q133.f a0).bind fun r1=>(if r1=true then ((Q134.f a0.1 5 65536).bind fun r2=>(if r2=true then ((Q134.f a0.2.2.1 8 64).bind fun r3=>(if r3=true then ((Q134.f a0.2.1 64 65536).bind fun r4=>(if r4=true then ((Q130.f k a0).bind fun r5=>(if (decide (r5≤a0.2.1))=true then ((Q131.f k a0).bind fun r6=>(some (decide (r6≤a0.2.1)))) else (some false))) else (some false))) else (some false))) else (some false))) else (some false))
theorem Q132.spec {k:Nat} {a0:Int×Int×Int×Int×Int×Int×Int×Int}  {r:Bool} (H:Q132.f k a0=some r) :
  Spec Tryz.prog 36 [.agg #[.int .i64 a0.1,.int .i64 a0.2.1,.int .i64 a0.2.2.1,.int .i64 a0.2.2.2.1,.int .i64 a0.2.2.2.2.1,.int .i64 a0.2.2.2.2.2.1,.int .i64 a0.2.2.2.2.2.2.1,.int .i64 a0.2.2.2.2.2.2.2]] [] [] (fun v l=>v=.bool r∧l=[]):=by
 refine Zo Tryz.func36 fun w0 F0 h0=>?_
 unfold Q132.f at H
 refine J.seq (J.region ?_)
 refine Ze (Ym h0) ?_
 rintro _ w1 ⟨b1,rfl,h1⟩
 replace h1:=nf h1
 refine Zi [1] rfl ?_
 refine J.seq (Zu h1 ?_)
 have h2:=h1.drew
 refine Zj 0 rfl (Zd 0 wI) ?_
 obtain ⟨r1,q1,H⟩:=Zn H
 refine Zp 1 rfl (Zg [] (Q133.spec q1) h2 rfl Zr) ?_
 rintro _ w2 ⟨_,⟨rfl,rfl⟩,h3⟩
 replace h3:=nf h3
 refine ⟨⟨[],h3⟩,?_⟩
 refine Zv [2] ?_
 refine Xy 5 H (fun c1 H=>?_) fun c1 H=>?_
 ·refine Zv [3] ?_
  refine Zj 4 rfl (Zd 0 wI) ?_
  obtain ⟨r2,q2,H⟩:=Zn H
  refine Zp 5 rfl (Zg [] (Q134.spec q2) h3 rfl Zr) ?_
  rintro _ w3 ⟨_,⟨rfl,rfl⟩,h4⟩
  replace h4:=nf h4
  refine ⟨⟨[],h4⟩,?_⟩
  refine Zv [6,7] ?_
  refine Xy 10 H (fun c2 H=>?_) fun c2 H=>?_
  ·refine Zv [8] ?_
   refine Zj 9 rfl (Zd 0 wI) ?_
   obtain ⟨r3,q3,H⟩:=Zn H
   refine Zp 10 rfl (Zg [] (Q134.spec q3) h4 rfl Zr) ?_
   rintro _ w4 ⟨_,⟨rfl,rfl⟩,h5⟩
   replace h5:=nf h5
   refine ⟨⟨[],h5⟩,?_⟩
   refine Zv [11,12] ?_
   refine Xy 15 H (fun c3 H=>?_) fun c3 H=>?_
   ·refine Zv [13] ?_
    refine Zj 14 rfl (Zd 0 wI) ?_
    obtain ⟨r4,q4,H⟩:=Zn H
    refine Zp 15 rfl (Zg [] (Q134.spec q4) h5 rfl Zr) ?_
    rintro _ w5 ⟨_,⟨rfl,rfl⟩,h6⟩
    replace h6:=nf h6
    refine ⟨⟨[],h6⟩,?_⟩
    refine Zv [16,17] ?_
    refine Xy 20 H (fun c4 H=>?_) fun c4 H=>?_
    ·refine Zv [18] ?_
     refine Zj 19 rfl (Zd 0 wI) ?_
     refine Zj 20 rfl (Zd 0 wI) ?_
     obtain ⟨r5,q5,H⟩:=Zn H
     refine Zp 21 rfl (Zg [] (Q130.spec q5) h6 rfl Zr) ?_
     rintro _ w6 ⟨_,⟨rfl,rfl⟩,h7⟩
     replace h7:=nf h7
     refine ⟨⟨[],h7⟩,?_⟩
     refine Zv [22,23,24] ?_
     refine Xy 27 H (fun c5 H=>?_) fun c5 H=>?_
     ·refine Zv [25] ?_
      refine Zj 26 rfl (Zd 0 wI) ?_
      refine Zj 27 rfl (Zd 0 wI) ?_
      obtain ⟨r6,q6,H⟩:=Zn H
      refine Zp 28 rfl (Zg [] (Q131.spec q6) h7 rfl Zr) ?_
      rintro _ w7 ⟨_,⟨rfl,rfl⟩,h8⟩
      replace h8:=nf h8
      refine ⟨⟨[],h8⟩,?_⟩
      refine Zv [29,30,31] ?_
      refine Z0 [2] ?_
      refine J.ret ?_
      cases H
      exact ⟨_,_,_,Za,⟨rfl,rfl⟩,Zc h8 []⟩
     refine Zv [25,26,27,28,29,30,31] ?_
     refine Z0 [2] ?_
     refine J.ret ?_
     cases H
     exact ⟨_,_,_,Za,⟨rfl,rfl⟩,Zc h7 []⟩
    refine Zv [18,19,20,21,22,23,24,25,26,27,28,29,30,31] ?_
    refine Z0 [2] ?_
    refine J.ret ?_
    cases H
    exact ⟨_,_,_,Za,⟨rfl,rfl⟩,Zc h6 []⟩
   refine Zv [13,14,15,16,17,18,19,20,21,22,23,24,25,26,27,28,29,30,31] ?_
   refine Z0 [2] ?_
   refine J.ret ?_
   cases H
   exact ⟨_,_,_,Za,⟨rfl,rfl⟩,Zc h5 []⟩
  refine Zv [8,9,10,11,12,13,14,15,16,17,18,19,20,21,22,23,24,25,26,27,28,29,30,31] ?_
  refine Z0 [2] ?_
  refine J.ret ?_
  cases H
  exact ⟨_,_,_,Za,⟨rfl,rfl⟩,Zc h4 []⟩
 refine Zv [3,4,5,6,7,8,9,10,11,12,13,14,15,16,17,18,19,20,21,22,23,24,25,26,27,28,29,30,31] ?_
 refine Z0 [2] ?_
 refine J.ret ?_
 cases H
 exact ⟨_,_,_,Za,⟨rfl,rfl⟩,Zc h3 []⟩

def Q125.f (k:Nat) (a0:Int×Int×Int×Int×Int×Int×Int×Int):Option (Bool):=(Q132.f k a0).bind fun r1=>(if r1=true then (if (decide (a0.2.1≤3000))=true then (some (decide (a0.1≤400))) else (some false)) else (some false))
theorem Q125.spec {k:Nat} {a0:Int×Int×Int×Int×Int×Int×Int×Int}  {r:Bool} (H:Q125.f k a0=some r) :
  Spec Tryz.prog 12 [.agg #[.int .i64 a0.1,.int .i64 a0.2.1,.int .i64 a0.2.2.1,.int .i64 a0.2.2.2.1,.int .i64 a0.2.2.2.2.1,.int .i64 a0.2.2.2.2.2.1,.int .i64 a0.2.2.2.2.2.2.1,.int .i64 a0.2.2.2.2.2.2.2]] [] [] (fun v l=>v=.bool r∧l=[]):=by
 refine Zo Tryz.func12 fun w0 F0 h0=>?_
 unfold Q125.f at H
 refine J.seq (J.region ?_)
 refine Ze (Ym h0) ?_
 rintro _ w1 ⟨b1,rfl,h1⟩
 replace h1:=nf h1
 refine Zi [1] rfl ?_
 refine J.seq (J.region ?_)
 refine Zf (Zd 0 h1.wht) ?_
 obtain ⟨r1,q1,H⟩:=Zn H
 refine Ze (Zg [] (Q132.spec q1) h1 rfl Zr) ?_
 rintro _ w2 ⟨_,⟨rfl,rfl⟩,h2⟩
 replace h2:=nf h2
 refine Zh 1 ?_
 refine Yj 5 H (fun c1 H=>?_) fun c1 H=>?_
 ·refine Zh 1 ?_
  refine Zf (Zd 0 h2.wht) ?_
  refine Zh 3 ?_
  refine Yj 10 H (fun c2 H=>?_) fun c2 H=>?_
  ·refine Zh 1 ?_
   refine Zf (Zd 0 h2.wht) ?_
   refine Zi [2] rfl ?_
   refine J.ret ?_
   cases H
   exact ⟨_,_,_,Za,⟨rfl,rfl⟩,Zc h2 []⟩
  refine Zi [2] rfl ?_
  refine J.ret ?_
  cases H
  exact ⟨_,_,_,Za,⟨rfl,rfl⟩,Zc h2 []⟩
 refine Zi [2] rfl ?_
 refine J.ret ?_
 cases H
 exact ⟨_,_,_,Za,⟨rfl,rfl⟩,Zc h2 []⟩

def Q128.f:Option ((Int×Int×Int×Int×Int×Int×Int×Int)):=some (9,200,8,8,16,16,2,1)
theorem Q128.spec   {r:(Int×Int×Int×Int×Int×Int×Int×Int)} (H:Q128.f=some r) :
  Spec Tryz.prog 53 [] [] [] (fun v l=>v=.agg #[.int .i64 r.1,.int .i64 r.2.1,.int .i64 r.2.2.1,.int .i64 r.2.2.2.1,.int .i64 r.2.2.2.2.1,.int .i64 r.2.2.2.2.2.1,.int .i64 r.2.2.2.2.2.2.1,.int .i64 r.2.2.2.2.2.2.2]∧l=[]):=by
 refine Zo Tryz.func53 fun w0 F0 h0=>?_
 unfold Q128.f at H
 refine J.seq (J.region ?_)
 refine Ze (Xf h0) ?_
 rintro _ w1 ⟨b1,rfl,h1⟩
 replace h1:=nf h1
 refine Zi [0] rfl ?_
 refine J.seq (J.region ?_)
 refine Zh 1 ?_
 refine Ze (Z3 0 h1) ?_
 intro _ w2 h2
 replace h2:=nf h2
 refine Zi [0] rfl ?_
 refine J.ret ?_
 cases H
 exact ⟨_,_,_,(Yy rfl (Y9 (RV.cell Y6 0 h2 rfl rfl rfl rfl) Wi) rfl),⟨rfl,rfl⟩,Zc h2 []⟩

def Q59.f (a0:Int) (a1:Int):Option (Bool):=if (decide (5≤a0))=true then (if (decide (a0≤65536))=true then (if (decide (1≤a1))=true then (some (decide (a1≤65536))) else (some false)) else (some false)) else (some false)
theorem Q59.spec {a0:Int} {a1:Int}  {r:Bool} (H:Q59.f a0 a1=some r) :
  Spec Tryz.prog 84 [.int .i64 a0,.int .i64 a1] [] [] (fun v l=>v=.bool r∧l=[]):=by
 refine Zo Tryz.func84 fun w0 F0 h0=>?_
 unfold Q59.f at H
 refine J.seq (Zb [0,1] ?_)
 refine J.seq (J.region ?_)
 refine Zh 3 ?_
 refine Yj 7 H (fun c1 H=>?_) fun c1 H=>?_
 ·refine Zh 4 ?_
  refine Yj 11 H (fun c2 H=>?_) fun c2 H=>?_
  ·refine Zh 4 ?_
   refine Yj 15 H (fun c3 H=>?_) fun c3 H=>?_
   ·refine Zi [4] rfl ?_
    refine J.ret ?_
    cases H
    exact ⟨_,_,_,Za,⟨rfl,rfl⟩,Zc h0 []⟩
   refine Zi [4] rfl ?_
   refine J.ret ?_
   cases H
   exact ⟨_,_,_,Za,⟨rfl,rfl⟩,Zc h0 []⟩
  refine Zi [4] rfl ?_
  refine J.ret ?_
  cases H
  exact ⟨_,_,_,Za,⟨rfl,rfl⟩,Zc h0 []⟩
 refine Zi [4] rfl ?_
 refine J.ret ?_
 cases H
 exact ⟨_,_,_,Za,⟨rfl,rfl⟩,Zc h0 []⟩

def Q58.f (a0:Int) (a1:Int):Option (Option (Int×List (Int)×(Int×Int))×Int):=(Q59.f a0 a1).bind fun r1=>(if (!r1)=true then (some (none,2)) else (if 0≤(w64 (a0*a1))∧(w64 (a0*a1))*1≤281474976710656 then (some ((some (a1,(List.replicate ((w64 (a0*a1)).toNat) (0:Int)),(0,0))),0)) else none))
theorem Q58.spec {a0:Int} {a1:Int}  {r:Option (Int×List (Int)×(Int×Int))×Int} (H:Q58.f a0 a1=some r) :
  Spec Tryz.prog 34 [.int .i64 a0,.int .i64 a1] [] [] (fun v l=>∃(pv:Value) (lp:List Ch),OptC r.1 (fun d pv lp=>∃(b_0:Nat) (A_1:Option Addr) (c_1:Nat),pv=.pointer (some ⟨b_0,0,none⟩)∧lp=[Yb b_0 d.1 d.2.1 A_1 c_1 d.2.2.1 d.2.2.2,O5 d.2.1 A_1 c_1]) pv lp∧v=.tuple #[pv,.int .i64 r.2]∧l=lp ++ []):=by
 refine Zo Tryz.func34 fun w0 F0 h0=>?_
 unfold Q58.f at H
 refine J.seq (Zb [0,1] ?_)
 refine J.seq (J.seq (J.region ?_))
 refine Zh 2 ?_
 obtain ⟨r1,q1,H⟩:=Zn H
 refine Ze (Zg [] (Q59.spec q1) h0 rfl Zr) ?_
 rintro _ w1 ⟨_,⟨rfl,rfl⟩,h1⟩
 replace h1:=nf h1
 refine Zi [0,1,9] rfl ?_
 refine jIf H (fun c1 H=>?_) fun c1 H=>?_
 ·refine J.seq (Zb [4,5] ?_)
  refine J.ret ?_
  cases H
  exact ⟨_,_,_,Za,⟨_,_,OptC.no,rfl,rfl⟩,Zc h1 []⟩
 refine J.skip (J.seq (J.region ?_))
 refine Zh 4 ?_
 obtain ⟨⟨p1,p2⟩,H⟩:=Zs H
 refine Ze (Jw Y6 (ty:=(.int .u8)) rfl (0:Int) rfl rfl rfl rfl rfl rfl rfl (by decide) h1 p1 p2) ?_
 rintro _ w2 ⟨b1,rfl,h2⟩
 replace h2:=nf h2
 refine Zh 1 ?_
 refine Ze (Ym h2) ?_
 rintro _ w3 ⟨b2,rfl,h3⟩
 replace h3:=nf h3
 refine Zi [4,5] rfl ?_
 refine J.ret ?_
 cases H
 exact ⟨_,_,_,Za,⟨_,_,(OptC.yes ⟨_,_,_,rfl,rfl⟩),rfl,rfl⟩,Zc h3 [0,0]⟩

def Q52.f (a0:Int×Int×Int×Int×Int×Int×Int×Int):Option (Bool):=if (decide (a0.2.2.2.1<8))=true then (some false) else (if (decide (64<a0.2.2.2.1))=true then (some false) else (if (decide (a0.2.2.2.2.1<(w64 (2*a0.2.2.2.1))))=true then (some false) else (if (decide (512<a0.2.2.2.2.1))=true then (some false) else (if (decide (a0.2.2.2.2.2.1<a0.2.2.2.2.1))=true then (some false) else (if (decide (1024<a0.2.2.2.2.2.1))=true then (some false) else (if (decide (a0.2.2.2.2.2.2.1<1))=true then (some false) else (if (decide (64<a0.2.2.2.2.2.2.1))=true then (some false) else (if (decide (a0.2.2.2.2.2.2.2<0))=true then (some false) else (if (decide (256<a0.2.2.2.2.2.2.2))=true then (some false) else (some true))))))))))
theorem Q52.spec {a0:Int×Int×Int×Int×Int×Int×Int×Int}  {r:Bool} (H:Q52.f a0=some r) :
  Spec Tryz.prog 111 [.agg #[.int .i64 a0.1,.int .i64 a0.2.1,.int .i64 a0.2.2.1,.int .i64 a0.2.2.2.1,.int .i64 a0.2.2.2.2.1,.int .i64 a0.2.2.2.2.2.1,.int .i64 a0.2.2.2.2.2.2.1,.int .i64 a0.2.2.2.2.2.2.2]] [] [] (fun v l=>v=.bool r∧l=[]):=by
 refine Zo Tryz.func111 fun w0 F0 h0=>?_
 unfold Q52.f at H
 refine J.seq (J.region ?_)
 refine Ze (Ym h0) ?_
 rintro _ w1 ⟨b1,rfl,h1⟩
 replace h1:=nf h1
 refine Zi [1] rfl ?_
 refine J.seq (J.block (J.seq (J.region ?_)))
 refine Zh 1 ?_
 refine Zf (Zd 0 h1.wht) ?_
 refine Zh 2 ?_
 refine Yj 7 H (fun c1 H=>?_) fun c1 H=>?_
 ·refine Zi [1,3] rfl ?_
  refine Zt ?_
  refine J.skip (J.seq (Zb [2] ?_))
  refine J.ret ?_
  cases H
  exact ⟨_,_,_,Za,⟨rfl,rfl⟩,Zc h1 []⟩
 refine Zh 1 ?_
 refine Zf (Zd 0 h1.wht) ?_
 refine Zi [1,3] rfl ?_
 refine jIf H (fun c2 H=>?_) fun c2 H=>?_
 ·refine J.skip (J.seq (Zb [2] ?_))
  refine J.ret ?_
  cases H
  exact ⟨_,_,_,Za,⟨rfl,rfl⟩,Zc h1 []⟩
 refine J.seq (J.region ?_)
 refine Zh 1 ?_
 refine Zf (Zd 0 h1.wht) ?_
 refine Zh 1 ?_
 refine Zf (Zd 0 h1.wht) ?_
 refine Zh 3 ?_
 refine Yj 19 H (fun c3 H=>?_) fun c3 H=>?_
 ·refine Zi [1,12] rfl ?_
  refine Zt ?_
  refine J.skip (J.seq (Zb [2] ?_))
  refine J.ret ?_
  cases H
  exact ⟨_,_,_,Za,⟨rfl,rfl⟩,Zc h1 []⟩
 refine Zh 1 ?_
 refine Zf (Zd 0 h1.wht) ?_
 refine Zi [1,12] rfl ?_
 refine jIf H (fun c4 H=>?_) fun c4 H=>?_
 ·refine J.skip (J.seq (Zb [2] ?_))
  refine J.ret ?_
  cases H
  exact ⟨_,_,_,Za,⟨rfl,rfl⟩,Zc h1 []⟩
 refine J.seq (J.region ?_)
 refine Zh 1 ?_
 refine Zf (Zd 0 h1.wht) ?_
 refine Zh 1 ?_
 refine Zf (Zd 0 h1.wht) ?_
 refine Zh 2 ?_
 refine Yj 30 H (fun c5 H=>?_) fun c5 H=>?_
 ·refine Zi [1,24] rfl ?_
  refine Zt ?_
  refine J.skip (J.seq (Zb [2] ?_))
  refine J.ret ?_
  cases H
  exact ⟨_,_,_,Za,⟨rfl,rfl⟩,Zc h1 []⟩
 refine Zh 1 ?_
 refine Zf (Zd 0 h1.wht) ?_
 refine Zi [1,24] rfl ?_
 refine jIf H (fun c6 H=>?_) fun c6 H=>?_
 ·refine J.skip (J.seq (Zb [2] ?_))
  refine J.ret ?_
  cases H
  exact ⟨_,_,_,Za,⟨rfl,rfl⟩,Zc h1 []⟩
 refine J.seq (J.region ?_)
 refine Zh 1 ?_
 refine Zf (Zd 0 h1.wht) ?_
 refine Zh 2 ?_
 refine Yj 39 H (fun c7 H=>?_) fun c7 H=>?_
 ·refine Zi [1,35] rfl ?_
  refine Zt ?_
  refine J.skip (J.seq (Zb [2] ?_))
  refine J.ret ?_
  cases H
  exact ⟨_,_,_,Za,⟨rfl,rfl⟩,Zc h1 []⟩
 refine Zh 1 ?_
 refine Zf (Zd 0 h1.wht) ?_
 refine Zi [1,35] rfl ?_
 refine jIf H (fun c8 H=>?_) fun c8 H=>?_
 ·refine J.skip (J.seq (Zb [2] ?_))
  refine J.ret ?_
  cases H
  exact ⟨_,_,_,Za,⟨rfl,rfl⟩,Zc h1 []⟩
 refine J.seq (J.region ?_)
 refine Zh 1 ?_
 refine Zf (Zd 0 h1.wht) ?_
 refine Zh 2 ?_
 refine Yj 48 H (fun c9 H=>?_) fun c9 H=>?_
 ·refine Zi [44] rfl ?_
  refine Zt ?_
  refine J.skip (J.seq (Zb [2] ?_))
  refine J.ret ?_
  cases H
  exact ⟨_,_,_,Za,⟨rfl,rfl⟩,Zc h1 []⟩
 refine Zh 1 ?_
 refine Zf (Zd 0 h1.wht) ?_
 refine Zi [44] rfl ?_
 refine jIf H (fun c10 H=>?_) fun c10 H=>?_
 ·refine J.skip (J.seq (Zb [2] ?_))
  refine J.ret ?_
  cases H
  exact ⟨_,_,_,Za,⟨rfl,rfl⟩,Zc h1 []⟩
 refine J.seq (Zb [2] ?_)
 refine J.ret ?_
 cases H
 exact ⟨_,_,_,Za,⟨rfl,rfl⟩,Zc h1 []⟩

def Q49.f (a0:Int×Int×Int×Int×Int×Int×Int×Int):Option (Int):=(Q52.f a0).bind fun r1=>(if (!r1)=true then (some 0) else (some (w64 ((w64 ((w64 (8+(w64 (4*a0.2.2.2.1))))+(w64 ((w64 (a0.2.2.2.1 - 1))*(w64 (1+a0.2.2.2.2.2.2.1))))))+(w64 (a0.2.2.2.2.1*(w64 ((w64 (4+a0.2.2.2.2.2.2.1))+a0.2.2.2.2.2.2.2))))))))
theorem Q49.spec {a0:Int×Int×Int×Int×Int×Int×Int×Int}  {r:Int} (H:Q49.f a0=some r) :
  Spec Tryz.prog 161 [.agg #[.int .i64 a0.1,.int .i64 a0.2.1,.int .i64 a0.2.2.1,.int .i64 a0.2.2.2.1,.int .i64 a0.2.2.2.2.1,.int .i64 a0.2.2.2.2.2.1,.int .i64 a0.2.2.2.2.2.2.1,.int .i64 a0.2.2.2.2.2.2.2]] [] [] (fun v l=>v=.int .i64 r∧l=[]):=by
 refine Zo Tryz.func161 fun w0 F0 h0=>?_
 unfold Q49.f at H
 refine J.seq (J.region ?_)
 refine Ze (Ym h0) ?_
 rintro _ w1 ⟨b1,rfl,h1⟩
 replace h1:=nf h1
 refine Zi [1] rfl ?_
 refine J.seq (J.seq (J.region ?_))
 refine Zf (Zd 0 h1.wht) ?_
 obtain ⟨r1,q1,H⟩:=Zn H
 refine Ze (Zg [] (Q52.spec q1) h1 rfl Zr) ?_
 rintro _ w2 ⟨_,⟨rfl,rfl⟩,h2⟩
 replace h2:=nf h2
 refine Zi [1,5] rfl ?_
 refine jIf H (fun c1 H=>?_) fun c1 H=>?_
 ·refine J.seq (Zb [2] ?_)
  refine J.ret ?_
  cases H
  exact ⟨_,_,_,Za,⟨rfl,rfl⟩,Zc h2 []⟩
 refine J.skip (J.seq (J.region ?_))
 refine Zh 1 ?_
 refine Zf (Zd 0 h2.wht) ?_
 refine Zh 3 ?_
 refine Zf (Zd 0 h2.wht) ?_
 refine Zh 2 ?_
 refine Zf (Zd 0 h2.wht) ?_
 refine Zh 4 ?_
 refine Zf (Zd 0 h2.wht) ?_
 refine Zh 1 ?_
 refine Zf (Zd 0 h2.wht) ?_
 refine Zh 2 ?_
 refine Zf (Zd 0 h2.wht) ?_
 refine Zi [2] rfl ?_
 refine J.ret ?_
 cases H
 exact ⟨_,_,_,Za,⟨rfl,rfl⟩,Zc h2 []⟩

def Q51.f (a0:Int×Int×Int×Int×Int×Int×Int×Int):Option (Int):=(Q52.f a0).bind fun r1=>(if (!r1)=true then (some 0) else (some (w64 (8+(w64 (a0.2.2.2.2.2.1*(w64 ((w64 (3+a0.2.2.2.2.2.2.1))+a0.2.2.2.2.2.2.2))))))))
theorem Q51.spec {a0:Int×Int×Int×Int×Int×Int×Int×Int}  {r:Int} (H:Q51.f a0=some r) :
  Spec Tryz.prog 162 [.agg #[.int .i64 a0.1,.int .i64 a0.2.1,.int .i64 a0.2.2.1,.int .i64 a0.2.2.2.1,.int .i64 a0.2.2.2.2.1,.int .i64 a0.2.2.2.2.2.1,.int .i64 a0.2.2.2.2.2.2.1,.int .i64 a0.2.2.2.2.2.2.2]] [] [] (fun v l=>v=.int .i64 r∧l=[]):=by
 refine Zo Tryz.func162 fun w0 F0 h0=>?_
 unfold Q51.f at H
 refine J.seq (J.region ?_)
 refine Ze (Ym h0) ?_
 rintro _ w1 ⟨b1,rfl,h1⟩
 replace h1:=nf h1
 refine Zi [1] rfl ?_
 refine J.seq (J.seq (J.region ?_))
 refine Zf (Zd 0 h1.wht) ?_
 obtain ⟨r1,q1,H⟩:=Zn H
 refine Ze (Zg [] (Q52.spec q1) h1 rfl Zr) ?_
 rintro _ w2 ⟨_,⟨rfl,rfl⟩,h2⟩
 replace h2:=nf h2
 refine Zi [1,5] rfl ?_
 refine jIf H (fun c1 H=>?_) fun c1 H=>?_
 ·refine J.seq (Zb [2] ?_)
  refine J.ret ?_
  cases H
  exact ⟨_,_,_,Za,⟨rfl,rfl⟩,Zc h2 []⟩
 refine J.skip (J.seq (J.region ?_))
 refine Zh 1 ?_
 refine Zf (Zd 0 h2.wht) ?_
 refine Zh 1 ?_
 refine Zf (Zd 0 h2.wht) ?_
 refine Zh 2 ?_
 refine Zf (Zd 0 h2.wht) ?_
 refine Zi [2] rfl ?_
 refine J.ret ?_
 cases H
 exact ⟨_,_,_,Za,⟨rfl,rfl⟩,Zc h2 []⟩

def Q50.f (a0:Int×Int×Int×Int×Int×Int×Int×Int):Option ((Int×Int×Int×Int×Int×Int×Int×Int)):=(Q52.f a0).bind fun r1=>(if r1=true then ((Q49.f a0).bind fun r2=>((Q51.f a0).bind fun r3=>(some (a0.1,(if r3>(if r2>(64:Int) then r2 else (64:Int)) then r3 else (if r2>(64:Int) then r2 else (64:Int))),a0.2.2.1,a0.2.2.2.1,a0.2.2.2.2.1,a0.2.2.2.2.2.1,a0.2.2.2.2.2.2.1,a0.2.2.2.2.2.2.2)))) else (some a0))
theorem Q50.spec {a0:Int×Int×Int×Int×Int×Int×Int×Int}  {r:(Int×Int×Int×Int×Int×Int×Int×Int)} (H:Q50.f a0=some r) :
  Spec Tryz.prog 112 [.agg #[.int .i64 a0.1,.int .i64 a0.2.1,.int .i64 a0.2.2.1,.int .i64 a0.2.2.2.1,.int .i64 a0.2.2.2.2.1,.int .i64 a0.2.2.2.2.2.1,.int .i64 a0.2.2.2.2.2.2.1,.int .i64 a0.2.2.2.2.2.2.2]] [] [] (fun v l=>v=.agg #[.int .i64 r.1,.int .i64 r.2.1,.int .i64 r.2.2.1,.int .i64 r.2.2.2.1,.int .i64 r.2.2.2.2.1,.int .i64 r.2.2.2.2.2.1,.int .i64 r.2.2.2.2.2.2.1,.int .i64 r.2.2.2.2.2.2.2]∧l=[]):=by
 refine Zo Tryz.func112 fun w0 F0 h0=>?_
 unfold Q50.f at H
 refine J.seq (J.region ?_)
 refine Ze (Ym h0) ?_
 rintro _ w1 ⟨b1,rfl,h1⟩
 replace h1:=nf h1
 refine Ze (Xf h1) ?_
 rintro _ w2 ⟨b2,rfl,h2⟩
 replace h2:=nf h2
 refine Zi [1,2] rfl ?_
 refine J.seq (J.seq (J.region ?_))
 refine Zf (Zd 1 h2.wht) ?_
 obtain ⟨r1,q1,H⟩:=Zn H
 refine Ze (Zg [] (Q52.spec q1) h2 rfl Zr) ?_
 rintro _ w3 ⟨_,⟨rfl,rfl⟩,h3⟩
 replace h3:=nf h3
 refine Zi [1,2,4] rfl ?_
 refine jIf H (fun c1 H=>?_) fun c1 H=>?_
 ·obtain ⟨r2,q2,H⟩:=Zn H
  obtain ⟨r3,q3,H⟩:=Zn H
  refine J.midS (fun env w=>env=[(1,.pointer (some ⟨b1,0,none⟩)),(2,.pointer (some ⟨b2,0,none⟩))]∧St w0 F0 [X23 b1 a0.1 (if r3>(if r2>(64:Int) then r2 else (64:Int)) then r3 else (if r2>(64:Int) then r2 else (64:Int))) a0.2.2.1 a0.2.2.2.1 a0.2.2.2.2.1 a0.2.2.2.2.2.1 a0.2.2.2.2.2.2.1 a0.2.2.2.2.2.2.2,X23 b2 0 0 0 0 0 0 0 0] [] w) ?_ ?_
  ·refine Zu (Zc h3 [0]) ?_
   have h7:=h3.drew
   refine HJ.pick [0,2] (i:=0) rfl rfl rfl rfl ?_
   refine (Yi ?_ (Yi ?_ Xj))
   ·refine Z5 0 rfl (OpT.ofq (Zd 1 h7.wht)) ?_
    rintro _ _ ⟨rfl,rfl⟩
    replace h7:=nf h7
    refine ⟨⟨[_],(Zc h7 [1,0])⟩,?_⟩
    refine HJ.pick [1,2] (i:=1) rfl rfl rfl rfl ?_
    refine (Yi ?_ (Yi ?_ Xj))
    ·refine Z5 1 rfl (Zg [] (Q49.spec q2) h7 rfl Zr) ?_
     rintro _ w10 ⟨_,⟨rfl,rfl⟩,h8⟩
     replace h8:=nf h8
     refine ⟨⟨[_],(Zc h8 [1,0])⟩,?_⟩
     refine Zp 2 rfl (OpT.ofq (Zd 1 h8.wht)) ?_
     rintro _ _ ⟨rfl,rfl⟩
     replace h8:=nf h8
     refine ⟨⟨[_],(Zc h8 [1,0])⟩,?_⟩
     refine Zp 3 rfl (Zg [] (Q51.spec q3) h8 rfl Zr) ?_
     rintro _ w12 ⟨_,⟨rfl,rfl⟩,h9⟩
     replace h9:=nf h9
     refine ⟨⟨[_],(Zc h9 [1,0])⟩,?_⟩
     refine Zj 4 rfl Jz ?_
     refine Zv [5] ?_
     refine Zp 6 rfl (Z3 1 h9) ?_
     intro _ w13 h10
     replace h10:=nf h10
     refine ⟨⟨[_],h10⟩,?_⟩
     refine Z0 [1,2] ?_
     exact Zz ⟨rfl,(sOR h10 [0,0] [])⟩
    ·refine Z5 2 rfl (OpT.ofq (Zd 1 h7.wht)) ?_
     rintro _ _ ⟨rfl,rfl⟩
     replace h7:=nf h7
     refine ⟨⟨[_],(Zc h7 [1,0])⟩,?_⟩
     refine Zp 1 rfl (Zg [] (Q49.spec q2) h7 rfl Zr) ?_
     rintro _ w15 ⟨_,⟨rfl,rfl⟩,h11⟩
     replace h11:=nf h11
     refine ⟨⟨[_],(Zc h11 [1,0])⟩,?_⟩
     refine Zp 3 rfl (Zg [] (Q51.spec q3) h11 rfl Zr) ?_
     rintro _ w16 ⟨_,⟨rfl,rfl⟩,h12⟩
     replace h12:=nf h12
     refine ⟨⟨[_],(Zc h12 [1,0])⟩,?_⟩
     refine Zj 4 rfl Jz ?_
     refine Zv [5] ?_
     refine Zp 6 rfl (Z3 1 h12) ?_
     intro _ w17 h13
     replace h13:=nf h13
     refine ⟨⟨[_],h13⟩,?_⟩
     refine Z0 [1,2] ?_
     exact Zz ⟨rfl,(sOR h13 [0,0] [])⟩
   ·refine Z5 2 rfl (OpT.ofq (Zd 1 h7.wht)) ?_
    rintro _ _ ⟨rfl,rfl⟩
    replace h7:=nf h7
    refine ⟨⟨[_],(Zc h7 [1,0])⟩,?_⟩
    refine Zp 0 rfl (OpT.ofq (Zd 1 h7.wht)) ?_
    rintro _ _ ⟨rfl,rfl⟩
    replace h7:=nf h7
    refine ⟨⟨[_],(Zc h7 [1,0])⟩,?_⟩
    refine Zp 1 rfl (Zg [] (Q49.spec q2) h7 rfl Zr) ?_
    rintro _ w20 ⟨_,⟨rfl,rfl⟩,h14⟩
    replace h14:=nf h14
    refine ⟨⟨[_],(Zc h14 [1,0])⟩,?_⟩
    refine Zp 3 rfl (Zg [] (Q51.spec q3) h14 rfl Zr) ?_
    rintro _ w21 ⟨_,⟨rfl,rfl⟩,h15⟩
    replace h15:=nf h15
    refine ⟨⟨[_],(Zc h15 [1,0])⟩,?_⟩
    refine Zj 4 rfl Jz ?_
    refine Zv [5] ?_
    refine Zp 6 rfl (Z3 1 h15) ?_
    intro _ w22 h16
    replace h16:=nf h16
    refine ⟨⟨[_],h16⟩,?_⟩
    refine Z0 [1,2] ?_
    exact Zz ⟨rfl,(sOR h16 [0,0] [])⟩
  rintro env w23 ⟨rfl,h17⟩
  refine J.seq (J.region ?_)
  refine Zf (Zd 0 h17.wht) ?_
  refine Ze (Z3 1 h17) ?_
  intro _ w24 h18
  replace h18:=nf h18
  refine Zi [2] rfl ?_
  refine J.ret ?_
  cases H
  exact ⟨_,_,_,(Yy rfl (Y9 (RV.cell Y6 0 h18 rfl rfl rfl rfl) Wi) rfl),⟨rfl,rfl⟩,Zc h18 []⟩
 refine J.skip (J.seq (J.region ?_))
 refine Zf (Zd 1 h3.wht) ?_
 refine Ze (Z3 0 h3) ?_
 intro _ w25 h19
 replace h19:=nf h19
 refine Zi [2] rfl ?_
 refine J.ret ?_
 cases H
 exact ⟨_,_,_,(Yy rfl (Y9 (RV.cell Y6 0 h19 rfl rfl rfl rfl) Wi) rfl),⟨rfl,rfl⟩,Zc h19 []⟩

def Q48.f (a0:Int×Int×Int×Int×Int×Int×Int×Int):Option (Int):=(Q52.f a0).bind fun r1=>(if r1=true then (if (decide (5≤a0.1))=true then (if (decide (a0.1≤65536))=true then (if (decide (8≤a0.2.2.1))=true then (if (!(decide (a0.2.2.1≤64)))=true then (some 2) else (if (decide (65536<a0.2.1))=true then (some 2) else ((Q50.f a0).bind fun r2=>(if (decide (a0.2.1<r2.2.1))=true then (some 2) else (some 0))))) else (some 2)) else (some 2)) else (some 2)) else (some 2))
theorem Q48.spec {a0:Int×Int×Int×Int×Int×Int×Int×Int}  {r:Int} (H:Q48.f a0=some r) :
  Spec Tryz.prog 64 [.agg #[.int .i64 a0.1,.int .i64 a0.2.1,.int .i64 a0.2.2.1,.int .i64 a0.2.2.2.1,.int .i64 a0.2.2.2.2.1,.int .i64 a0.2.2.2.2.2.1,.int .i64 a0.2.2.2.2.2.2.1,.int .i64 a0.2.2.2.2.2.2.2]] [] [] (fun v l=>v=.int .i64 r∧l=[]):=by
 refine Zo Tryz.func64 fun w0 F0 h0=>?_
 unfold Q48.f at H
 refine J.seq (J.region ?_)
 refine Ze (Ym h0) ?_
 rintro _ w1 ⟨b1,rfl,h1⟩
 replace h1:=nf h1
 refine Zi [1] rfl ?_
 refine J.seq (J.region ?_)
 refine Zf (Zd 0 h1.wht) ?_
 obtain ⟨r1,q1,H⟩:=Zn H
 refine Ze (Zg [] (Q52.spec q1) h1 rfl Zr) ?_
 rintro _ w2 ⟨_,⟨rfl,rfl⟩,h2⟩
 replace h2:=nf h2
 refine Zh 1 ?_
 refine Yj 6 H (fun c1 H=>?_) fun c1 H=>?_
 ·refine Zh 1 ?_
  refine Zf (Zd 0 h2.wht) ?_
  refine Zh 3 ?_
  refine Yj 11 H (fun c2 H=>?_) fun c2 H=>?_
  ·refine Zh 1 ?_
   refine Zf (Zd 0 h2.wht) ?_
   refine Zh 3 ?_
   refine Yj 16 H (fun c3 H=>?_) fun c3 H=>?_
   ·refine Zh 1 ?_
    refine Zf (Zd 0 h2.wht) ?_
    refine Zh 3 ?_
    refine Yj 21 H (fun c4 H=>?_) fun c4 H=>?_
    ·refine Zh 1 ?_
     refine Zf (Zd 0 h2.wht) ?_
     refine Zi [1,3] rfl ?_
     refine J.seq (J.seq ?_)
     refine Zu h2 ?_
     have h3:=h2.drew
     refine Zv [0,1,2] ?_
     refine Xy 28 H (fun c5 H=>?_) fun c5 H=>?_
     ·refine Zv [3,4,5,6,7,8,9,10,11,12,13,14] ?_
      refine Z0 [40] ?_
      refine Zt ?_
      refine J.seq (Zb [2] ?_)
      refine J.ret ?_
      cases H
      exact ⟨_,_,_,Za,⟨rfl,rfl⟩,Zc h3 []⟩
     refine Zv [3] ?_
     refine Zj 4 rfl (Zd 0 wI) ?_
     refine Zv [5,6,7] ?_
     refine Xy 33 H (fun c6 H=>?_) fun c6 H=>?_
     ·refine Zv [8,9,10,11,12,13,14] ?_
      refine Z0 [40] ?_
      refine Zt ?_
      refine J.seq (Zb [2] ?_)
      refine J.ret ?_
      cases H
      exact ⟨_,_,_,Za,⟨rfl,rfl⟩,Zc h3 []⟩
     refine Zv [8] ?_
     refine Zj 9 rfl (Zd 0 wI) ?_
     refine Zj 10 rfl (Zd 0 wI) ?_
     obtain ⟨r2,q2,H⟩:=Zn H
     refine Zp 11 rfl (Zg [] (Q50.spec q2) h3 rfl Zr) ?_
     rintro _ w3 ⟨_,⟨rfl,rfl⟩,h4⟩
     replace h4:=nf h4
     refine ⟨⟨[],h4⟩,?_⟩
     refine Zv [12,13,14] ?_
     refine Z0 [40] ?_
     refine jIf H (fun c7 H=>?_) fun c7 H=>?_
     ·refine J.seq (Zb [2] ?_)
      refine J.ret ?_
      cases H
      exact ⟨_,_,_,Za,⟨rfl,rfl⟩,Zc h4 []⟩
     refine J.skip (J.seq (Zb [2] ?_))
     refine J.ret ?_
     cases H
     exact ⟨_,_,_,Za,⟨rfl,rfl⟩,Zc h4 []⟩
    refine Zi [1,3] rfl ?_
    refine J.seq (J.seq ?_)
    refine Zu h2 ?_
    have h5:=h2.drew
    refine Zv [0,1,2,3,4,5,6,7,8,9,10,11,12,13,14] ?_
    refine Z0 [40] ?_
    refine Zt ?_
    refine J.seq (Zb [2] ?_)
    refine J.ret ?_
    cases H
    exact ⟨_,_,_,Za,⟨rfl,rfl⟩,Zc h5 []⟩
   refine Zi [1,3] rfl ?_
   refine J.seq (J.seq ?_)
   refine Zu h2 ?_
   have h6:=h2.drew
   refine Zv [0,1,2,3,4,5,6,7,8,9,10,11,12,13,14] ?_
   refine Z0 [40] ?_
   refine Zt ?_
   refine J.seq (Zb [2] ?_)
   refine J.ret ?_
   cases H
   exact ⟨_,_,_,Za,⟨rfl,rfl⟩,Zc h6 []⟩
  refine Zi [1,3] rfl ?_
  refine J.seq (J.seq ?_)
  refine Zu h2 ?_
  have h7:=h2.drew
  refine Zv [0,1,2,3,4,5,6,7,8,9,10,11,12,13,14] ?_
  refine Z0 [40] ?_
  refine Zt ?_
  refine J.seq (Zb [2] ?_)
  refine J.ret ?_
  cases H
  exact ⟨_,_,_,Za,⟨rfl,rfl⟩,Zc h7 []⟩
 refine Zi [1,3] rfl ?_
 refine J.seq (J.seq ?_)
 refine Zu h2 ?_
 have h8:=h2.drew
 refine Zv [0,1,2,3,4,5,6,7,8,9,10,11,12,13,14] ?_
 refine Z0 [40] ?_
 refine Zt ?_
 refine J.seq (Zb [2] ?_)
 refine J.ret ?_
 cases H
 exact ⟨_,_,_,Za,⟨rfl,rfl⟩,Zc h8 []⟩

def Q81.f (a0:Int×Int×Int×Int×Int×Int×Int×Int):Option (Option ((Int×Int×Int×Int×Int×Int×Int×Int)×((Int×List (Int)×(Int×Int))×(List (Int×List (Int)×Bool×Int))×(List (Int×Int))×List (Int)×((List (Int×Int×Bool))×Int))×((Int×Int×List (Int)))×Int)×Int):=(Q48.f a0).bind fun r1=>(if (!decide (r1=0))=true then (some (none,r1)) else (some (none,1)))
theorem Q81.spec {a0:Int×Int×Int×Int×Int×Int×Int×Int}  {r:Option ((Int×Int×Int×Int×Int×Int×Int×Int)×((Int×List (Int)×(Int×Int))×(List (Int×List (Int)×Bool×Int))×(List (Int×Int))×List (Int)×((List (Int×Int×Bool))×Int))×((Int×Int×List (Int)))×Int)×Int} (H:Q81.f a0=some r) :
  Spec Tryz.prog 35 [.agg #[.int .i64 a0.1,.int .i64 a0.2.1,.int .i64 a0.2.2.1,.int .i64 a0.2.2.2.1,.int .i64 a0.2.2.2.2.1,.int .i64 a0.2.2.2.2.2.1,.int .i64 a0.2.2.2.2.2.2.1,.int .i64 a0.2.2.2.2.2.2.2],.pointer none] [] [] (fun v l=>∃(pv:Value) (lp:List Ch),OptC r.1 (fun d pv lp=>∃(b_0:Nat) (b_1:Nat) (b_2:Nat) (A_3:Option Addr) (c_3:Nat) (A_4:Option Addr) (c_4:Nat) (b_5:Nat) (A_6:Option Addr) (c_6:Nat) (b_7:Nat) (A_8:Option Addr) (c_8:Nat) (b_9:Nat) (b_10:Nat) (A_11:Option Addr) (c_11:Nat),pv=.pointer (some ⟨b_0,0,none⟩)∧lp=[X83 b_0 d.1.1 d.1.2.1 d.1.2.2.1 d.1.2.2.2.1 d.1.2.2.2.2.1 d.1.2.2.2.2.2.1 d.1.2.2.2.2.2.2.1 d.1.2.2.2.2.2.2.2 (.pointer (some ⟨b_2,0,none⟩)) (.pointer (some ⟨b_1,0,none⟩)) (.pointer (some ⟨b_9,0,none⟩)) d.2.2.2,Yh b_1 (.pointer (some ⟨b_2,0,none⟩)) d.2.1.2.1 A_4 c_4 (.map (some b_5)) d.2.1.2.2.2.1 A_6 c_6 (.pointer (some ⟨b_7,0,none⟩)),Yb b_2 d.2.1.1.1 d.2.1.1.2.1 A_3 c_3 d.2.1.1.2.2.1 d.2.1.1.2.2.2,O5 d.2.1.1.2.1 A_3 c_3,Yg d.2.1.2.1 A_4 c_4,Yc .u32 (Value.int .i64) b_5 d.2.1.2.2.1,O3 d.2.1.2.2.2.1 A_6 c_6,Z7 b_7 d.2.1.2.2.2.2.1 A_8 c_8 d.2.1.2.2.2.2.2,Z8 d.2.1.2.2.2.2.1 A_8 c_8,Yw b_9 (.pointer (some ⟨b_10,0,none⟩)),Yk b_10 d.2.2.1.1 d.2.2.1.2.1 d.2.2.1.2.2 A_11 c_11,O61 d.2.2.1.2.2 A_11 c_11]) pv lp∧v=.tuple #[pv,.int .i64 r.2]∧l=lp ++ []):=by
 refine Zo Tryz.func35 fun w0 F0 h0=>?_
 unfold Q81.f at H
 refine J.seq (J.region ?_)
 refine Ze (Ym h0) ?_
 rintro _ w1 ⟨b1,rfl,h1⟩
 replace h1:=nf h1
 refine Zi [1,2] rfl ?_
 refine J.seq (J.seq (J.region ?_))
 refine Zf (Zd 0 h1.wht) ?_
 obtain ⟨r1,q1,H⟩:=Zn H
 refine Ze (Zg [] (Q48.spec q1) h1 rfl Zr) ?_
 rintro _ w2 ⟨_,⟨rfl,rfl⟩,h2⟩
 replace h2:=nf h2
 refine Zi [1,2,6] rfl ?_
 refine J.seq (Zb [1,2,6,13] ?_)
 refine jIf H (fun c1 H=>?_) fun c1 H=>?_
 ·refine J.seq (Zb [4,5] ?_)
  refine J.ret ?_
  cases H
  exact ⟨_,_,_,Za,⟨_,_,OptC.no,rfl,rfl⟩,Zc h2 []⟩
 refine J.skip (J.seq (J.region ?_))
 refine Zh 2 ?_
 refine Zf (Zd 0 h2.wht) ?_
 refine Ys Tryz.func85 ?_
 refine J.seq (Zb [0,1] ?_)
 refine J.seq (J.block (J.seq (J.region ?_)))
 refine Zh 1 ?_
 refine Ys Tryz.func37 ?_
 refine J.seq (Zb [0] ?_)
 refine J.seq (J.seq (Zb [0,11] ?_))
 refine Zt ?_
 refine J.seq (Zb [2] ?_)
 refine J.ret (⟨_,Za,?_⟩)
 refine Zi [0,1,10] rfl ?_
 refine Zt ?_
 refine J.seq (Zb [4,5] ?_)
 refine J.ret (⟨_,Za,?_⟩)
 refine Zi [1,2,7,8] rfl ?_
 refine J.seq (J.seq (Zb [1,2,7,8,23] ?_))
 refine Zt ?_
 refine J.seq (Zb [4,5] ?_)
 refine J.ret ?_
 cases H
 exact ⟨_,_,_,Za,⟨_,_,OptC.no,rfl,rfl⟩,Zc h2 []⟩

def Q53.f (a0:Int×List (Int)×(Int×Int)):Option (Int):=if (decide (a0.1=0))=true then (some 0) else (if 0<a0.1 then (some (w64 (Int.tdiv (a0.2.1.length:Int) a0.1))) else none)
theorem Q53.spec {a0:Int×List (Int)×(Int×Int)} {b1:Nat} {A1:Option Addr} {c_1:Nat} {r:Int} (H:Q53.f a0=some r) :
  Spec Tryz.prog 37 [.pointer (some ⟨b1,0,none⟩)] [Yb b1 a0.1 a0.2.1 A1 c_1 a0.2.2.1 a0.2.2.2,O5 a0.2.1 A1 c_1] [] (fun v l=>v=.int .i64 r∧l=[Yb b1 a0.1 a0.2.1 A1 c_1 a0.2.2.1 a0.2.2.2,O5 a0.2.1 A1 c_1]):=by
 refine Zo Tryz.func37 fun w0 F0 h0=>?_
 unfold Q53.f at H
 refine J.seq (Zb [0] ?_)
 refine J.seq (J.seq (J.region ?_))
 refine Zh 6 ?_
 refine Zf (Zd 0 h0.wht) ?_
 refine Zi [0,11] rfl ?_
 refine jIf H (fun c1 H=>?_) fun c1 H=>?_
 ·refine J.seq (Zb [2] ?_)
  refine J.ret ?_
  cases H
  exact ⟨_,_,_,Za,⟨rfl,rfl⟩,Zc h0 [0,0]⟩
 refine J.skip (J.seq (Zu h0 ?_))
 have h1:=h0.drew
 refine Zv [0,1,2,5,6,7] ?_
 refine Zj 3 rfl (Zd 0 wI) ?_
 refine Zv [4] ?_
 refine Zj 8 rfl (Zd 0 wI) ?_
 obtain ⟨p1,H⟩:=Zs H
 refine Zj 9 rfl (Zhl p1) ?_
 refine Zv [10] ?_
 refine Z0 [2] ?_
 refine J.ret ?_
 cases H
 exact ⟨_,_,_,Za,⟨rfl,rfl⟩,Zc h1 [0,0]⟩

def Q34.f (a0:Int):Option (Option ((List (Int×Int×Bool))×Int)×Int):=if (decide (a0<1))=true then (some (none,2)) else (if (decide (4096<a0))=true then (some (none,2)) else (if 0≤(w64 (a0+1))∧(w64 (a0+1))*24≤281474976710656 then (if 0≤a0∧a0<((List.replicate ((w64 (a0+1)).toNat) ((0,0,false):Int×Int×Bool)).length:Int) then (some ((some (((List.replicate ((w64 (a0+1)).toNat) ((0,0,false):Int×Int×Bool)).set a0.toNat (a0,a0,false)),0)),0)) else none) else none))
theorem Q34.spec {a0:Int}  {r:Option ((List (Int×Int×Bool))×Int)×Int} (H:Q34.f a0=some r) :
  Spec Tryz.prog 135 [.int .i64 a0] [] [] (fun v l=>∃(pv:Value) (lp:List Ch),OptC r.1 (fun d pv lp=>∃(b_0:Nat) (A_1:Option Addr) (c_1:Nat),pv=.pointer (some ⟨b_0,0,none⟩)∧lp=[Z7 b_0 d.1 A_1 c_1 d.2,Z8 d.1 A_1 c_1]) pv lp∧v=.tuple #[pv,.int .i64 r.2]∧l=lp ++ []):=by
 refine Zo Tryz.func135 fun w0 F0 h0=>?_
 unfold Q34.f at H
 refine J.seq (Zb [0] ?_)
 refine J.seq (J.seq (J.region ?_))
 refine Zh 3 ?_
 refine Yj 7 H (fun c1 H=>?_) fun c1 H=>?_
 ·refine Zi [0,10] rfl ?_
  refine Zt ?_
  refine J.seq (Zb [2,3] ?_)
  refine J.ret ?_
  cases H
  exact ⟨_,_,_,Za,⟨_,_,OptC.no,rfl,rfl⟩,Zc h0 []⟩
 refine Zi [0,10] rfl ?_
 refine jIf H (fun c2 H=>?_) fun c2 H=>?_
 ·refine J.seq (Zb [2,3] ?_)
  refine J.ret ?_
  cases H
  exact ⟨_,_,_,Za,⟨_,_,OptC.no,rfl,rfl⟩,Zc h0 []⟩
 refine J.skip (J.seq (J.region ?_))
 refine Zh 2 ?_
 obtain ⟨⟨p1,p2⟩,H⟩:=Zs H
 refine Ze (Jw Y6 (ty:=(.pair (.int .i64) (.pair (.int .i64) .bool))) rfl ((0,0,false):Int×Int×Bool) rfl rfl rfl rfl rfl rfl rfl (by decide) h0 p1 p2) ?_
 rintro _ w1 ⟨b1,rfl,h1⟩
 replace h1:=nf h1
 refine Zh 1 ?_
 refine Ze (Ym h1) ?_
 rintro _ w2 ⟨b2,rfl,h2⟩
 replace h2:=nf h2
 refine Zi [0,4] rfl ?_
 refine J.seq (J.region ?_)
 refine Zh 3 ?_
 refine Zf (Zd 0 h2.wht) ?_
 refine Zh 4 ?_
 obtain ⟨⟨p3,p4⟩,H⟩:=Zs H
 have e1:=Z6 h2.wh (gO 1) p3 p4
 refine Zf (Zl e1 p3 p4) ?_
 refine Ze (Zq 0 (.pair (.int .i64) (.pair (.int .i64) .bool)) a0 (a0,a0,false) 1 h2 rfl p3 p4) ?_
 intro _ w3 h3
 replace h3:=nf h3
 replace h3:St w0 F0 [Z8 ((List.replicate ((w64 (a0+1)).toNat) ((0,0,false):Int×Int×Bool)).set a0.toNat (a0,a0,false)) (some ⟨b1,0,none⟩) ((w64 (a0+1)).toNat),Z7 b2 ((List.replicate ((w64 (a0+1)).toNat) ((0,0,false):Int×Int×Bool)).set a0.toNat (a0,a0,false)) (some ⟨b1,0,none⟩) ((w64 (a0+1)).toNat) 0] _ _:=h3.retell (by simp only [List.length_set,List.length_nil,Z8,Z7] <;> rfl)
 refine Zi [4] rfl ?_
 refine J.seq (Zb [2,3] ?_)
 refine J.ret ?_
 cases H
 exact ⟨_,_,_,Za,⟨_,_,(OptC.yes ⟨_,_,_,rfl,rfl⟩),rfl,rfl⟩,Zc h3 [1,0]⟩

def Q54.f (a0:Int×List (Int)×(Int×Int)):Option (Int):=some a0.1
theorem Q54.spec {a0:Int×List (Int)×(Int×Int)} {b1:Nat} {A1:Option Addr} {c_1:Nat} {r:Int} (H:Q54.f a0=some r) :
  Spec Tryz.prog 38 [.pointer (some ⟨b1,0,none⟩)] [Yb b1 a0.1 a0.2.1 A1 c_1 a0.2.2.1 a0.2.2.2,O5 a0.2.1 A1 c_1] [] (fun v l=>v=.int .i64 r∧l=[Yb b1 a0.1 a0.2.1 A1 c_1 a0.2.2.1 a0.2.2.2,O5 a0.2.1 A1 c_1]):=by
 refine Zo Tryz.func38 fun w0 F0 h0=>?_
 unfold Q54.f at H
 refine J.seq (Zb [0] ?_)
 refine J.seq (J.seq (Zb [0,4] ?_))
 refine Z4 ?_
 refine J.skip (J.seq (J.region ?_))
 refine Zh 3 ?_
 refine Zf (Zd 0 h0.wht) ?_
 refine Zi [2] rfl ?_
 refine J.ret ?_
 cases H
 exact ⟨_,_,_,Za,⟨rfl,rfl⟩,Zc h0 [0,0]⟩

def Q2.f (a0:Int):Option (Option (Int×Int×List (Int))×Int):=if (decide (a0<1))=true then (some (none,2)) else (if (decide (65536<a0))=true then (some (none,2)) else (if 0≤(w64 (Int.tdiv (w64 ((w64 (a0+64)) - 1)) 64))∧(w64 (Int.tdiv (w64 ((w64 (a0+64)) - 1)) 64))*8≤281474976710656 then (some ((some (a0,0,(List.replicate ((w64 (Int.tdiv (w64 ((w64 (a0+64)) - 1)) 64)).toNat) (0:Int)))),0)) else none))
theorem Q2.spec {a0:Int}  {r:Option (Int×Int×List (Int))×Int} (H:Q2.f a0=some r) :
  Spec Tryz.prog 136 [.int .i64 a0] [] [] (fun v l=>∃(pv:Value) (lp:List Ch),OptC r.1 (fun d pv lp=>∃(b_0:Nat) (A_1:Option Addr) (c_1:Nat),pv=.pointer (some ⟨b_0,0,none⟩)∧lp=[Yk b_0 d.1 d.2.1 d.2.2 A_1 c_1,O61 d.2.2 A_1 c_1]) pv lp∧v=.tuple #[pv,.int .i64 r.2]∧l=lp ++ []):=by
 refine Zo Tryz.func136 fun w0 F0 h0=>?_
 unfold Q2.f at H
 refine J.seq (Zb [0] ?_)
 refine J.seq (J.seq (J.region ?_))
 refine Zh 3 ?_
 refine Yj 6 H (fun c1 H=>?_) fun c1 H=>?_
 ·refine Zi [0,9] rfl ?_
  refine Zt ?_
  refine J.seq (Zb [2,3] ?_)
  refine J.ret ?_
  cases H
  exact ⟨_,_,_,Za,⟨_,_,OptC.no,rfl,rfl⟩,Zc h0 []⟩
 refine Zi [0,9] rfl ?_
 refine jIf H (fun c2 H=>?_) fun c2 H=>?_
 ·refine J.seq (Zb [2,3] ?_)
  refine J.ret ?_
  cases H
  exact ⟨_,_,_,Za,⟨_,_,OptC.no,rfl,rfl⟩,Zc h0 []⟩
 refine J.skip (J.seq (J.region ?_))
 refine Zh 5 ?_
 obtain ⟨⟨p1,p2⟩,H⟩:=Zs H
 refine Ze (Jw Y6 (ty:=(.int .u64)) rfl (0:Int) rfl rfl rfl rfl rfl rfl rfl (by decide) h0 p1 p2) ?_
 rintro _ w1 ⟨b1,rfl,h1⟩
 replace h1:=nf h1
 refine Zh 1 ?_
 refine Ze (Ym h1) ?_
 rintro _ w2 ⟨b2,rfl,h2⟩
 replace h2:=nf h2
 refine Zi [2,3] rfl ?_
 refine J.ret ?_
 cases H
 exact ⟨_,_,_,Za,⟨_,_,(OptC.yes ⟨_,_,_,rfl,rfl⟩),rfl,rfl⟩,Zc h2 [0,0]⟩

def Q7.f (a0:Int×Int×List (Int)):Option (Int):=some a0.1
theorem Q7.spec {a0:Int×Int×List (Int)} {b1:Nat} {A1:Option Addr} {c_1:Nat} {r:Int} (H:Q7.f a0=some r) :
  Spec Tryz.prog 131 [.pointer (some ⟨b1,0,none⟩)] [Yk b1 a0.1 a0.2.1 a0.2.2 A1 c_1,O61 a0.2.2 A1 c_1] [] (fun v l=>v=.int .i64 r∧l=[Yk b1 a0.1 a0.2.1 a0.2.2 A1 c_1,O61 a0.2.2 A1 c_1]):=by
 refine Zo Tryz.func131 fun w0 F0 h0=>?_
 unfold Q7.f at H
 refine J.seq (Zb [0] ?_)
 refine J.seq (J.seq (Zb [0,4] ?_))
 refine Z4 ?_
 refine J.skip (J.seq (J.region ?_))
 refine Zh 3 ?_
 refine Zf (Zd 0 h0.wht) ?_
 refine Zi [2] rfl ?_
 refine J.ret ?_
 cases H
 exact ⟨_,_,_,Za,⟨rfl,rfl⟩,Zc h0 [0,0]⟩

def Q10.f (a0:Int×Int×List (Int)) (a1:Int):Option (Int):=(Q7.f a0).bind fun r1=>(if (decide (r1=0))=true then (some 1) else (if (decide (a1<0))=true then (some 4) else (if (decide (a0.1≤a1))=true then (some 4) else (some 0))))
theorem Q10.spec {a0:Int×Int×List (Int)} {a1:Int} {b1:Nat} {A1:Option Addr} {c_1:Nat} {r:Int} (H:Q10.f a0 a1=some r) :
  Spec Tryz.prog 178 [.pointer (some ⟨b1,0,none⟩),.int .i64 a1] [Yk b1 a0.1 a0.2.1 a0.2.2 A1 c_1,O61 a0.2.2 A1 c_1] [] (fun v l=>v=.int .i64 r∧l=[Yk b1 a0.1 a0.2.1 a0.2.2 A1 c_1,O61 a0.2.2 A1 c_1]):=by
 refine Zo Tryz.func178 fun w0 F0 h0=>?_
 unfold Q10.f at H
 refine J.seq (Zb [0,1] ?_)
 refine J.seq (J.block (J.seq (J.region ?_)))
 refine Zh 1 ?_
 obtain ⟨r1,q1,H⟩:=Zn H
 refine Ze (Zg [0,0] (Q7.spec q1) h0 rfl Zr) ?_
 rintro _ w1 ⟨_,⟨rfl,rfl⟩,h1⟩
 replace h1:=nf h1
 refine Zi [0,1,5] rfl ?_
 refine jIf H (fun c1 H=>?_) fun c1 H=>?_
 ·refine J.seq (Zb [4] ?_)
  refine J.ret ?_
  cases H
  exact ⟨_,_,_,Za,⟨rfl,rfl⟩,Zc h1 [0,0]⟩
 refine J.seq (J.region ?_)
 refine Zh 3 ?_
 refine Yj 12 H (fun c2 H=>?_) fun c2 H=>?_
 ·refine Zi [9] rfl ?_
  refine Zt ?_
  refine J.seq (Zb [4] ?_)
  refine J.ret ?_
  cases H
  exact ⟨_,_,_,Za,⟨rfl,rfl⟩,Zc h1 [0,0]⟩
 refine Zh 4 ?_
 refine Zf (Zd 0 h1.wht) ?_
 refine Zi [9] rfl ?_
 refine jIf H (fun c3 H=>?_) fun c3 H=>?_
 ·refine J.seq (Zb [4] ?_)
  refine J.ret ?_
  cases H
  exact ⟨_,_,_,Za,⟨rfl,rfl⟩,Zc h1 [0,0]⟩
 refine J.skip (J.seq (Zb [4] ?_))
 refine J.ret ?_
 cases H
 exact ⟨_,_,_,Za,⟨rfl,rfl⟩,Zc h1 [0,0]⟩

def Q6.f (a0:Int×Int×List (Int)) (a1:Int):Option (Bool):=(Q10.f a0 a1).bind fun r1=>(if (decide (r1=0))=true then (if 0≤(w64 (Int.tdiv a1 64))∧(w64 (Int.tdiv a1 64))<(a0.2.2.length:Int) then (if 0≤(Int.tmod a1 64) then (some (decide ((IntKind.u64.wrap (((BitVec.ofInt IntKind.u64.bits (Int.fdiv (gt a0.2.2 (w64 (Int.tdiv a1 64))) (2 ^ (min (Int.tmod a1 64).toNat 64))) &&& (BitVec.ofInt IntKind.u64.bits 1)).toNat:Int)))=1))) else none) else none) else (some false))
theorem Q6.spec {a0:Int×Int×List (Int)} {a1:Int} {b1:Nat} {A1:Option Addr} {c_1:Nat} {r:Bool} (H:Q6.f a0 a1=some r) :
  Spec Tryz.prog 134 [.pointer (some ⟨b1,0,none⟩),.int .i64 a1] [Yk b1 a0.1 a0.2.1 a0.2.2 A1 c_1,O61 a0.2.2 A1 c_1] [] (fun v l=>v=.bool r∧l=[Yk b1 a0.1 a0.2.1 a0.2.2 A1 c_1,O61 a0.2.2 A1 c_1]):=by
 refine Zo Tryz.func134 fun w0 F0 h0=>?_
 unfold Q6.f at H
 refine J.seq (Zb [0,1] ?_)
 refine J.seq (J.region ?_)
 refine Zh 2 ?_
 obtain ⟨r1,q1,H⟩:=Zn H
 refine Ze (Zg [0,0] (Q10.spec q1) h0 rfl Zr) ?_
 rintro _ w1 ⟨_,⟨rfl,rfl⟩,h1⟩
 replace h1:=nf h1
 refine Zh 2 ?_
 refine Yj 9 H (fun c1 H=>?_) fun c1 H=>?_
 ·refine Zh 3 ?_
  refine Zf (Zd 0 h1.wht) ?_
  refine Zh 2 ?_
  obtain ⟨⟨p1,p2⟩,H⟩:=Zs H
  have e1:=Z6 h1.wh (gO 1) p1 p2
  refine Zf (Zl e1 p1 p2) ?_
  refine Zf (Zm 0 h1.wht (gO 1) p1 p2) ?_
  refine Zh 2 ?_
  obtain ⟨p3,H⟩:=Zs H
  refine Zf (Zc1 p3) ?_
  refine Zi [4] rfl ?_
  refine J.ret ?_
  cases H
  exact ⟨_,_,_,Za,⟨rfl,rfl⟩,Zc h1 [0,0]⟩
 refine Zi [4] rfl ?_
 refine J.ret ?_
 cases H
 exact ⟨_,_,_,Za,⟨rfl,rfl⟩,Zc h1 [0,0]⟩

def Q8.f (a0:Int×Int×List (Int)) (a1:Int):Option (Int×(Int×Int×List (Int))):=(Q10.f a0 a1).bind fun r1=>(if (!decide (r1=0))=true then (some (r1,a0)) else ((Q6.f a0 a1).bind fun r2=>(if r2=true then (some (10,a0)) else (if 0≤(w64 (Int.tdiv a1 64))∧(w64 (Int.tdiv a1 64))<(a0.2.2.length:Int) then (if 0≤(Int.tmod a1 64) then (some (0,(a0.1,(w64 (a0.2.1+1)),(a0.2.2.set (w64 (Int.tdiv a1 64)).toNat (IntKind.u64.wrap (((BitVec.ofInt IntKind.u64.bits (gt a0.2.2 (w64 (Int.tdiv a1 64))) ||| (BitVec.ofInt IntKind.u64.bits (IntKind.u64.wrap ((1:Int)*2 ^ (min (Int.tmod a1 64).toNat 64))))).toNat:Int))))))) else none) else none))))
theorem Q8.spec {a0:Int×Int×List (Int)} {a1:Int} {b1:Nat} {A1:Option Addr} {c_1:Nat} {r:Int×(Int×Int×List (Int))} (H:Q8.f a0 a1=some r) :
  Spec Tryz.prog 137 [.pointer (some ⟨b1,0,none⟩),.int .i64 a1] [Yk b1 a0.1 a0.2.1 a0.2.2 A1 c_1,O61 a0.2.2 A1 c_1] [] (fun v l=>∃(A_0:Option Addr) (c_0:Nat),v=.int .i64 r.1∧l=[Yk b1 r.2.1 r.2.2.1 r.2.2.2 A_0 c_0,O61 r.2.2.2 A_0 c_0]):=by
 refine Zo Tryz.func137 fun w0 F0 h0=>?_
 unfold Q8.f at H
 refine J.seq (Zb [0,1] ?_)
 refine J.seq (J.seq (J.region ?_))
 refine Zh 2 ?_
 obtain ⟨r1,q1,H⟩:=Zn H
 refine Ze (Zg [0,0] (Q10.spec q1) h0 rfl Zr) ?_
 rintro _ w1 ⟨_,⟨rfl,rfl⟩,h1⟩
 replace h1:=nf h1
 refine Zi [0,1,5] rfl ?_
 refine J.seq (Zb [0,1,5,10] ?_)
 refine jIf H (fun c1 H=>?_) fun c1 H=>?_
 ·refine J.seq (Zb [4] ?_)
  refine J.ret ?_
  cases H
  exact ⟨_,_,_,Za,⟨_,_,rfl,rfl⟩,Zc h1 [0,0]⟩
 refine J.skip (J.seq (J.seq (J.region ?_)))
 refine Zh 2 ?_
 obtain ⟨r2,q2,H⟩:=Zn H
 refine Ze (Zg [0,0] (Q6.spec q2) h1 rfl Zr) ?_
 rintro _ w2 ⟨_,⟨rfl,rfl⟩,h2⟩
 replace h2:=nf h2
 refine Zi [0,1,14] rfl ?_
 refine jIf H (fun c2 H=>?_) fun c2 H=>?_
 ·refine J.seq (Zb [4] ?_)
  refine J.ret ?_
  cases H
  exact ⟨_,_,_,Za,⟨_,_,rfl,rfl⟩,Zc h2 [0,0]⟩
 refine J.skip (J.seq ?_)
 obtain ⟨⟨p1,p2⟩,H⟩:=Zs H
 obtain ⟨p3,H⟩:=Zs H
 refine J.midS (fun env w=>env=[(0,.pointer (some ⟨b1,0,none⟩))]∧St w0 F0 [Yk b1 a0.1 a0.2.1 (a0.2.2.set (w64 (Int.tdiv a1 64)).toNat (IntKind.u64.wrap (((BitVec.ofInt IntKind.u64.bits (gt a0.2.2 (w64 (Int.tdiv a1 64))) ||| (BitVec.ofInt IntKind.u64.bits (IntKind.u64.wrap ((1:Int)*2 ^ (min (Int.tmod a1 64).toNat 64))))).toNat:Int)))) A1 c_1,O61 (a0.2.2.set (w64 (Int.tdiv a1 64)).toNat (IntKind.u64.wrap (((BitVec.ofInt IntKind.u64.bits (gt a0.2.2 (w64 (Int.tdiv a1 64))) ||| (BitVec.ofInt IntKind.u64.bits (IntKind.u64.wrap ((1:Int)*2 ^ (min (Int.tmod a1 64).toNat 64))))).toNat:Int)))) A1 c_1] [] w) ?_ ?_
 ·refine Zu (Zc h2 [0]) ?_
  have h4:=h2.drew
  refine Zv [0,1,2,4,5,8,9] ?_
  refine Zj 3 rfl (Zd 0 wI) ?_
  have e2:=Z6 h4.wh (gO 1) p1 p2
  refine Zj 6 rfl (Zl e2 p1 p2) ?_
  refine HJ.pick [7,10] (i:=7) rfl rfl rfl rfl ?_
  refine (Yi ?_ (Yi ?_ Xj))
  ·refine Z5 7 rfl (OpT.ofq (Zm 0 h4.wht (gO 1) p1 p2)) ?_
   rintro _ _ ⟨rfl,rfl⟩
   replace h4:=nf h4
   refine ⟨⟨[_],(Zc h4 [1,0])⟩,?_⟩
   refine Zj 10 rfl (Ji p3) ?_
   refine Zv [11] ?_
   refine Zj 12 rfl (Zl e2 p1 p2) ?_
   refine Zp 13 rfl (Zq 0 (.int .u64) (w64 (Int.tdiv a1 64)) (IntKind.u64.wrap (((BitVec.ofInt IntKind.u64.bits (gt a0.2.2 (w64 (Int.tdiv a1 64))) ||| (BitVec.ofInt IntKind.u64.bits (IntKind.u64.wrap ((1:Int)*2 ^ (min (Int.tmod a1 64).toNat 64))))).toNat:Int))) 1 h4 rfl p1 p2) ?_
   intro _ w4 h5
   replace h5:=nf h5
   refine ⟨⟨[_],h5⟩,?_⟩
   replace h5:St w0 F0 [O61 (a0.2.2.set (w64 (Int.tdiv a1 64)).toNat (IntKind.u64.wrap (((BitVec.ofInt IntKind.u64.bits (gt a0.2.2 (w64 (Int.tdiv a1 64))) ||| (BitVec.ofInt IntKind.u64.bits (IntKind.u64.wrap ((1:Int)*2 ^ (min (Int.tmod a1 64).toNat 64))))).toNat:Int)))) A1 c_1,Yk b1 a0.1 a0.2.1 (a0.2.2.set (w64 (Int.tdiv a1 64)).toNat (IntKind.u64.wrap (((BitVec.ofInt IntKind.u64.bits (gt a0.2.2 (w64 (Int.tdiv a1 64))) ||| (BitVec.ofInt IntKind.u64.bits (IntKind.u64.wrap ((1:Int)*2 ^ (min (Int.tmod a1 64).toNat 64))))).toNat:Int)))) A1 c_1] _ _:=h5.retell (by simp only [List.length_set,List.length_nil,O61,Yk] <;> rfl)
   refine Z0 [0] ?_
   exact Zz ⟨(by simp only [List.length_set,List.length_nil] <;> rfl),((h5.only [1,0] rfl).rds [] rfl)⟩
  ·refine HS.op (i:=10) rfl rfl rfl (OpT.ofq (Zg9 rfl rfl rfl p3)) ?_; rintro _ _ ⟨rfl,rfl⟩; replace h4:St w0 F0 [_,_] _ _:=h4; refine ⟨⟨[_],(h4.only [1,0] rfl)⟩,?_⟩
   refine Zp 7 rfl (OpT.ofq (Zm 0 h4.wht (gO 1) p1 p2)) ?_
   rintro _ _ ⟨rfl,rfl⟩
   replace h4:=nf h4
   refine ⟨⟨[_],(Zc h4 [1,0])⟩,?_⟩
   refine Zv [11] ?_
   refine Zj 12 rfl (Zl e2 p1 p2) ?_
   refine Zp 13 rfl (Zq 0 (.int .u64) (w64 (Int.tdiv a1 64)) (IntKind.u64.wrap (((BitVec.ofInt IntKind.u64.bits (gt a0.2.2 (w64 (Int.tdiv a1 64))) ||| (BitVec.ofInt IntKind.u64.bits (IntKind.u64.wrap ((1:Int)*2 ^ (min (Int.tmod a1 64).toNat 64))))).toNat:Int))) 1 h4 rfl p1 p2) ?_
   intro _ w5 h6
   replace h6:=nf h6
   refine ⟨⟨[_],h6⟩,?_⟩
   replace h6:St w0 F0 [O61 (a0.2.2.set (w64 (Int.tdiv a1 64)).toNat (IntKind.u64.wrap (((BitVec.ofInt IntKind.u64.bits (gt a0.2.2 (w64 (Int.tdiv a1 64))) ||| (BitVec.ofInt IntKind.u64.bits (IntKind.u64.wrap ((1:Int)*2 ^ (min (Int.tmod a1 64).toNat 64))))).toNat:Int)))) A1 c_1,Yk b1 a0.1 a0.2.1 (a0.2.2.set (w64 (Int.tdiv a1 64)).toNat (IntKind.u64.wrap (((BitVec.ofInt IntKind.u64.bits (gt a0.2.2 (w64 (Int.tdiv a1 64))) ||| (BitVec.ofInt IntKind.u64.bits (IntKind.u64.wrap ((1:Int)*2 ^ (min (Int.tmod a1 64).toNat 64))))).toNat:Int)))) A1 c_1] _ _:=h6.retell (by simp only [List.length_set,List.length_nil,O61,Yk] <;> rfl)
   refine Z0 [0] ?_
   exact Zz ⟨(by simp only [List.length_set,List.length_nil] <;> rfl),((h6.only [1,0] rfl).rds [] rfl)⟩
 rintro env w6 ⟨rfl,h7⟩
 refine J.seq (J.region ?_)
 refine Zh 3 ?_
 refine Zf (Zd 0 h7.wht) ?_
 refine Zh 3 ?_
 refine Ze (Z3 0 h7) ?_
 intro _ w7 h8
 replace h8:=nf h8
 refine Zi [] rfl ?_
 refine J.seq (Zb [4] ?_)
 refine J.ret ?_
 cases H
 exact ⟨_,_,_,Za,⟨_,_,rfl,rfl⟩,Zc h8 [0,0]⟩

def Q73.f (a0:Int):Option (Option ((Int×Int×List (Int)))×Int):=if (decide (a0<5))=true then (some (none,2)) else ((Q2.f a0).bind fun r1=>(Wv r1.1 (if (!decide (r1.2=0))=true then (some (none,r1.2)) else none) (fun r2=>(if (!decide (r1.2=0))=false then ((Q8.f r2 0).bind fun r3=>(some ((some r3.2),0))) else none))))
theorem Q73.spec {a0:Int}  {r:Option ((Int×Int×List (Int)))×Int} (H:Q73.f a0=some r) :
  Spec Tryz.prog 86 [.int .i64 a0] [] [] (fun v l=>∃(pv:Value) (lp:List Ch),OptC r.1 (fun d pv lp=>∃(b_0:Nat) (b_1:Nat) (A_2:Option Addr) (c_2:Nat),pv=.pointer (some ⟨b_0,0,none⟩)∧lp=[Yw b_0 (.pointer (some ⟨b_1,0,none⟩)),Yk b_1 d.1 d.2.1 d.2.2 A_2 c_2,O61 d.2.2 A_2 c_2]) pv lp∧v=.tuple #[pv,.int .i64 r.2]∧l=lp ++ []):=by
 refine Zo Tryz.func86 fun w0 F0 h0=>?_
 unfold Q73.f at H
 refine J.seq (Zb [0] ?_)
 refine J.seq (J.seq (Zb [0,7] ?_))
 refine jIf H (fun c1 H=>?_) fun c1 H=>?_
 ·refine J.seq (Zb [2,3] ?_)
  refine J.ret ?_
  cases H
  exact ⟨_,_,_,Za,⟨_,_,OptC.no,rfl,rfl⟩,Zc h0 []⟩
 refine J.skip (J.seq (J.region ?_))
 refine Zh 1 ?_
 obtain ⟨r1,q1,H⟩:=Zn H
 refine Ze (Zg [] (Q2.spec q1) h0 rfl Zr) ?_
 rintro _ w1 ⟨_,⟨v1,l1,ho1,rfl,rfl⟩,h1⟩
 rcases ho2:r1.1 with _ | r2
 ·rw [ho2] at ho1
  obtain ⟨rfl,rfl⟩:=ho1
  replace H:=Vj ho2 H
  obtain ⟨c2,H⟩:=Zs H
  replace h1:=nf h1
  refine Zi [4,5] rfl ?_
  refine J.seq (J.seq (Zb [4,5,14] ?_))
  refine J.cond rfl (fun e=>?_) (fun e=>by rw [c2] at e; cases e)
  refine J.seq (Zb [2,3] ?_)
  refine J.ret ?_
  cases H
  exact ⟨_,_,_,Za,⟨_,_,OptC.no,rfl,rfl⟩,Zc h1 []⟩
 rw [ho2] at ho1
 obtain ⟨b1,A1,c_1,rfl,rfl⟩:=ho1
 replace H:=Ve ho2 H
 obtain ⟨c3,H⟩:=Zs H
 replace h1:=nf h1
 refine Zi [4,5] rfl ?_
 refine J.seq (J.seq (Zb [4,5,14] ?_))
 refine J.cond rfl (fun e=>by rw [c3] at e; cases e) (fun e=>?_)
 refine J.skip (J.seq (J.region ?_))
 refine Zh 1 ?_
 obtain ⟨r3,q2,H⟩:=Zn H
 refine Ze (Zg [0,0] (Q8.spec q2) h1 rfl Zr) ?_
 rintro _ w2 ⟨_,⟨A2,c_2,rfl,rfl⟩,h2⟩
 replace h2:=nf h2
 refine Zi [4] rfl ?_
 refine J.seq (J.region ?_)
 refine Zh 2 ?_
 refine Ze (Ym h2) ?_
 rintro _ w3 ⟨b2,rfl,h3⟩
 replace h3:=nf h3
 refine Zi [2,3] rfl ?_
 refine J.ret ?_
 cases H
 exact ⟨_,_,_,Za,⟨_,_,(OptC.yes ⟨_,_,_,_,rfl,rfl⟩),rfl,rfl⟩,Zc h3 [0,0,0]⟩

def Q92.f (a0:(Int×Int×Int×Int×Int×Int×Int×Int)×((Int×List (Int)×(Int×Int))×(List (Int×List (Int)×Bool×Int))×(List (Int×Int))×List (Int)×((List (Int×Int×Bool))×Int))×((Int×Int×List (Int)))×Int):Option (Int):=some 0
theorem Q92.spec {a0:(Int×Int×Int×Int×Int×Int×Int×Int)×((Int×List (Int)×(Int×Int))×(List (Int×List (Int)×Bool×Int))×(List (Int×Int))×List (Int)×((List (Int×Int×Bool))×Int))×((Int×Int×List (Int)))×Int} {b1:Nat} {b2:Nat} {b3:Nat} {b4:Nat} {b5:Nat} {b6:Nat} {b7:Nat} {A1:Option Addr} {c_1:Nat} {A2:Option Addr} {c_2:Nat} {A3:Option Addr} {c_3:Nat} {A4:Option Addr} {c_4:Nat} {A5:Option Addr} {c_5:Nat} {r:Int} (H:Q92.f a0=some r) :
  Spec Tryz.prog 60 [.pointer (some ⟨b1,0,none⟩)] [X83 b1 a0.1.1 a0.1.2.1 a0.1.2.2.1 a0.1.2.2.2.1 a0.1.2.2.2.2.1 a0.1.2.2.2.2.2.1 a0.1.2.2.2.2.2.2.1 a0.1.2.2.2.2.2.2.2 (.pointer (some ⟨b3,0,none⟩)) (.pointer (some ⟨b2,0,none⟩)) (.pointer (some ⟨b6,0,none⟩)) a0.2.2.2,Yh b2 (.pointer (some ⟨b3,0,none⟩)) a0.2.1.2.1 A2 c_2 (.map (some b4)) a0.2.1.2.2.2.1 A3 c_3 (.pointer (some ⟨b5,0,none⟩)),Yb b3 a0.2.1.1.1 a0.2.1.1.2.1 A1 c_1 a0.2.1.1.2.2.1 a0.2.1.1.2.2.2,O5 a0.2.1.1.2.1 A1 c_1,Yg a0.2.1.2.1 A2 c_2,Yc .u32 (Value.int .i64) b4 a0.2.1.2.2.1,O3 a0.2.1.2.2.2.1 A3 c_3,Z7 b5 a0.2.1.2.2.2.2.1 A4 c_4 a0.2.1.2.2.2.2.2,Z8 a0.2.1.2.2.2.2.1 A4 c_4,Yw b6 (.pointer (some ⟨b7,0,none⟩)),Yk b7 a0.2.2.1.1 a0.2.2.1.2.1 a0.2.2.1.2.2 A5 c_5,O61 a0.2.2.1.2.2 A5 c_5] [] (fun v l=>v=.int .i64 r∧l=[X83 b1 a0.1.1 a0.1.2.1 a0.1.2.2.1 a0.1.2.2.2.1 a0.1.2.2.2.2.1 a0.1.2.2.2.2.2.1 a0.1.2.2.2.2.2.2.1 a0.1.2.2.2.2.2.2.2 (.pointer (some ⟨b3,0,none⟩)) (.pointer (some ⟨b2,0,none⟩)) (.pointer (some ⟨b6,0,none⟩)) a0.2.2.2,Yh b2 (.pointer (some ⟨b3,0,none⟩)) a0.2.1.2.1 A2 c_2 (.map (some b4)) a0.2.1.2.2.2.1 A3 c_3 (.pointer (some ⟨b5,0,none⟩)),Yb b3 a0.2.1.1.1 a0.2.1.1.2.1 A1 c_1 a0.2.1.1.2.2.1 a0.2.1.1.2.2.2,O5 a0.2.1.1.2.1 A1 c_1,Yg a0.2.1.2.1 A2 c_2,Yc .u32 (Value.int .i64) b4 a0.2.1.2.2.1,O3 a0.2.1.2.2.2.1 A3 c_3,Z7 b5 a0.2.1.2.2.2.2.1 A4 c_4 a0.2.1.2.2.2.2.2,Z8 a0.2.1.2.2.2.2.1 A4 c_4,Yw b6 (.pointer (some ⟨b7,0,none⟩)),Yk b7 a0.2.2.1.1 a0.2.2.1.2.1 a0.2.2.1.2.2 A5 c_5,O61 a0.2.2.1.2.2 A5 c_5]):=by
 refine Zo Tryz.func60 fun w0 F0 h0=>?_
 unfold Q92.f at H
 refine J.seq (Zb [0] ?_)
 refine J.seq (J.seq (J.region ?_))
 refine Zh 6 ?_
 refine Zf (Zd 0 h0.wht) ?_
 refine Zi [11] rfl ?_
 refine Z4 ?_
 refine J.skip (J.seq (Zb [2] ?_))
 refine J.ret ?_
 cases H
 exact ⟨_,_,_,Za,⟨rfl,rfl⟩,Zc h0 [0,0,0,0,0,0,0,0,0,0,0,0]⟩

def Q62.f:Option ((List UInt8×List UInt8×Bool)):=some (([]:List UInt8),([]:List UInt8),true)
theorem Q62.spec   {r:(List UInt8×List UInt8×Bool)} (H:Q62.f=some r) :
  Spec Tryz.prog 121 [] [] [] (fun v l=>v=.agg #[.string ⟨⟨r.1⟩⟩,.string ⟨⟨r.2.1⟩⟩,.bool r.2.2]∧l=[]):=by
 refine Zo Tryz.func121 fun w0 F0 h0=>?_
 unfold Q62.f at H
 refine J.seq (J.region ?_)
 refine Ze (Xf h0) ?_
 rintro _ w1 ⟨b1,rfl,h1⟩
 replace h1:=nf h1
 refine Zi [0] rfl ?_
 refine J.seq (J.region ?_)
 refine Zh 1 ?_
 refine Ze (Z3 0 h1) ?_
 intro _ w2 h2
 replace h2:=nf h2
 refine Zi [0] rfl ?_
 refine J.ret ?_
 cases H
 exact ⟨_,_,_,(Yy rfl (Y9 (RV.cell Y6 0 h2 rfl rfl rfl rfl) Wi) rfl),⟨rfl,rfl⟩,Zc h2 []⟩

def Q13.f (a0:List UInt8) (a1:List UInt8):Option (Int):=some (Wn a0 a1)
theorem Q13.spec {a0:List UInt8} {a1:List UInt8}  {r:Int} (H:Q13.f a0 a1=some r) :
  Spec Tryz.prog 232 [.string ⟨⟨a0⟩⟩,.string ⟨⟨a1⟩⟩] [] [] (fun v l=>v=.int .i64 r∧l=[]):=by
 refine Zo Tryz.func232 fun w0 F0 h0=>?_
 unfold Q13.f at H
 refine J.seq (Zb [0,1] ?_)
 refine J.seq (J.region ?_)
 refine Zh 2 ?_
 refine Zf (Zep Zmc) ?_
 refine Zi [4] rfl ?_
 refine J.ret ?_
 cases H
 exact ⟨_,_,_,Za,⟨rfl,rfl⟩,Zc h0 []⟩

def Q136.f (a0:List UInt8) (a1:List UInt8):Option (Int):=(Q13.f a0 a1).bind fun r1=>(some r1)
theorem Q136.spec {a0:List UInt8} {a1:List UInt8}  {r:Int} (H:Q136.f a0 a1=some r) :
  Spec Tryz.prog 217 [.string ⟨⟨a0⟩⟩,.string ⟨⟨a1⟩⟩] [] [] (fun v l=>v=.int .i64 r∧l=[]):=by
 refine Zo Tryz.func217 fun w0 F0 h0=>?_
 unfold Q136.f at H
 refine J.seq (Zb [0,1] ?_)
 refine J.seq (J.region ?_)
 refine Zh 2 ?_
 obtain ⟨r1,q1,H⟩:=Zn H
 refine Ze (Zg [] (Q13.spec q1) h0 rfl Zr) ?_
 rintro _ w1 ⟨_,⟨rfl,rfl⟩,h1⟩
 replace h1:=nf h1
 refine Zi [4] rfl ?_
 refine J.ret ?_
 cases H
 exact ⟨_,_,_,Za,⟨rfl,rfl⟩,Zc h1 []⟩

def Q63.f (a0:List UInt8) (a1:List UInt8):Option (Int):=(Q136.f a0 a1).bind fun r1=>(some r1)
theorem Q63.spec {a0:List UInt8} {a1:List UInt8}  {r:Int} (H:Q63.f a0 a1=some r) :
  Spec Tryz.prog 188 [.string ⟨⟨a0⟩⟩,.string ⟨⟨a1⟩⟩] [] [] (fun v l=>v=.int .i64 r∧l=[]):=by
 refine Zo Tryz.func188 fun w0 F0 h0=>?_
 unfold Q63.f at H
 refine J.seq (Zb [0,1] ?_)
 refine J.seq (J.region ?_)
 refine Zh 2 ?_
 obtain ⟨r1,q1,H⟩:=Zn H
 refine Ze (Zg [] (Q136.spec q1) h0 rfl Zr) ?_
 rintro _ w1 ⟨_,⟨rfl,rfl⟩,h1⟩
 replace h1:=nf h1
 refine Zi [4] rfl ?_
 refine J.ret ?_
 cases H
 exact ⟨_,_,_,Za,⟨rfl,rfl⟩,Zc h1 []⟩

def Q61.l0:Nat→(List (List UInt8×List UInt8))→(Int)→Option (Bool)
 | 0,_,_=>none
 | k+1,a0,x1=>if (decide (x1<(w64 ((a0.length:Int) - 1))))=true then (if 0≤x1∧x1<(a0.length:Int) then (if 0≤(w64 (x1+1))∧(w64 (x1+1))<(a0.length:Int) then ((Q63.f ((gt a0 x1).1) ((gt a0 (w64 (x1+1))).1)).bind fun r1=>(if (decide (0≤r1))=true then (some false) else (Q61.l0 k a0 (w64 (x1+1))))) else none) else none) else (some true)
def Q61.f (k:Nat) (a0:List (List UInt8×List UInt8)):Option (Bool):=Q61.l0 k a0 0
theorem Q61.spec {k:Nat} {a0:List (List UInt8×List UInt8)} {A1:Option Addr} {c_1:Nat} {r:Bool} (H:Q61.f k a0=some r) :
  Spec Tryz.prog 198 [.slice A1 a0.length c_1] [] [Xv a0 A1 c_1] (fun v l=>v=.bool r∧l=[]):=by
 refine Zo Tryz.func198 fun w0 F0 h0=>?_
 unfold Q61.f at H
 refine J.seq (Zb [0] ?_)
 refine J.seq (J.seq (Zb [0,6,7] ?_))
 refine J.block ?_
 have h5:=(sOR h0 [] [0])
 refine J.loop (fun kk env w=>∃(x1:Int),env=[(0,.slice A1 a0.length c_1),(6,.int .i64 (w64 ((a0.length:Int) - 1))),(7,.int .i64 x1)]∧St w0 F0 [] [Xv a0 A1 c_1] w∧Q61.l0 kk a0 x1=some r) (k:=k) ⟨0,rfl,h5,H⟩ ?_
 rintro k1 env w1 ⟨x1,rfl,h1,H⟩
 rcases k1 with _ | k1
 ·exact z0 H
 rw [Q61.l0] at H
 refine J.seq (Zb [0,6,7,8] ?_)
 refine J.seq (jIf H (fun c1 H=>?_) fun c1 H=>?_)
 ·refine J.skip (J.seq (J.block (J.seq (Zb [0,3,6,7] ?_))))
  refine J.seq (Zu h1 ?_)
  have h2:=h1.drew
  refine Zv [0,1,5,6,7] ?_
  obtain ⟨⟨p1,p2⟩,H⟩:=Zs H
  have e1:=Z6 h2.wh (Zk 0) p1 p2
  refine Zj 2 rfl (Zl e1 p1 p2) ?_
  refine Zv [3] ?_
  refine Zj 4 rfl (Zm 0 wI (Zk 0) p1 p2) ?_
  obtain ⟨⟨p3,p4⟩,H⟩:=Zs H
  refine Zj 8 rfl (Zl e1 p3 p4) ?_
  refine Zv [9] ?_
  refine Zj 10 rfl (Zm 0 wI (Zk 0) p3 p4) ?_
  obtain ⟨r1,q1,H⟩:=Zn H
  refine Zp 11 rfl (Zg [] (Q63.spec q1) h2 rfl Zr) ?_
  rintro _ w2 ⟨_,⟨rfl,rfl⟩,h3⟩
  replace h3:=nf h3
  refine ⟨⟨[],h3⟩,?_⟩
  refine Zv [12] ?_
  refine Z0 [0,6,7,22] ?_
  refine jIf H (fun c2 H=>?_) fun c2 H=>?_
  ·refine J.seq (Zb [2] ?_)
   refine J.ret ?_
   cases H
   exact ⟨_,_,_,Za,⟨rfl,rfl⟩,Zc h3 []⟩
  refine J.skip (Zb [0,6,7] ?_)
  have h4:=(sOR h3 [] [0])
  exact ⟨k1,by omega,(w64 (x1+1)),rfl,h4,H⟩
 refine J.exit (J.seq (Zb [2] ?_))
 refine J.ret ?_
 cases H
 exact ⟨_,_,_,Za,⟨rfl,rfl⟩,Zc h1 []⟩

def Q65.f (a0:Int×Int×Int×Int×Int×Int×Int×Int) (a1:List UInt8):Option (Bool):=if (decide (1≤(a1.length:Int)))=true then (some (decide ((a1.length:Int)≤a0.2.2.2.2.2.2.1))) else (some false)
theorem Q65.spec {a0:Int×Int×Int×Int×Int×Int×Int×Int} {a1:List UInt8}  {r:Bool} (H:Q65.f a0 a1=some r) :
  Spec Tryz.prog 201 [.agg #[.int .i64 a0.1,.int .i64 a0.2.1,.int .i64 a0.2.2.1,.int .i64 a0.2.2.2.1,.int .i64 a0.2.2.2.2.1,.int .i64 a0.2.2.2.2.2.1,.int .i64 a0.2.2.2.2.2.2.1,.int .i64 a0.2.2.2.2.2.2.2],.string ⟨⟨a1⟩⟩] [] [] (fun v l=>v=.bool r∧l=[]):=by
 refine Zo Tryz.func201 fun w0 F0 h0=>?_
 unfold Q65.f at H
 refine J.seq (J.region ?_)
 refine Ze (Ym h0) ?_
 rintro _ w1 ⟨b1,rfl,h1⟩
 replace h1:=nf h1
 refine Zi [1,2] rfl ?_
 refine J.seq (J.region ?_)
 refine Zh 4 ?_
 refine Yj 8 H (fun c1 H=>?_) fun c1 H=>?_
 ·refine Zh 3 ?_
  refine Zf (Zd 0 h1.wht) ?_
  refine Zi [4] rfl ?_
  refine J.ret ?_
  cases H
  exact ⟨_,_,_,Za,⟨rfl,rfl⟩,Zc h1 []⟩
 refine Zi [4] rfl ?_
 refine J.ret ?_
 cases H
 exact ⟨_,_,_,Za,⟨rfl,rfl⟩,Zc h1 []⟩

def Q64.f (a0:List UInt8×List UInt8×Bool) (a1:List UInt8):Option (Bool):=if (!Op.bytesLess a1 a0.1)=true then (if a0.2.2=true then (some true) else (some (Op.bytesLess a1 a0.2.1))) else (some false)
theorem Q64.spec {a0:List UInt8×List UInt8×Bool} {a1:List UInt8}  {r:Bool} (H:Q64.f a0 a1=some r) :
  Spec Tryz.prog 202 [.agg #[.string ⟨⟨a0.1⟩⟩,.string ⟨⟨a0.2.1⟩⟩,.bool a0.2.2],.string ⟨⟨a1⟩⟩] [] [] (fun v l=>v=.bool r∧l=[]):=by
 refine Zo Tryz.func202 fun w0 F0 h0=>?_
 unfold Q64.f at H
 refine J.seq (J.region ?_)
 refine Ze (Ym h0) ?_
 rintro _ w1 ⟨b1,rfl,h1⟩
 replace h1:=nf h1
 refine Zi [1,2] rfl ?_
 refine J.seq (J.region ?_)
 refine Zh 2 ?_
 refine Zf (Zd 0 h1.wht) ?_
 refine Zh 2 ?_
 refine Yj 9 H (fun c1 H=>?_) fun c1 H=>?_
 ·refine Zh 1 ?_
  refine Zf (Zd 0 h1.wht) ?_
  refine Zh 1 ?_
  refine Yj 12 H (fun c2 H=>?_) fun c2 H=>?_
  ·refine Zi [4] rfl ?_
   refine J.ret ?_
   cases H
   exact ⟨_,_,_,Za,⟨rfl,rfl⟩,Zc h1 []⟩
  refine Zh 2 ?_
  refine Zf (Zd 0 h1.wht) ?_
  refine Zi [4] rfl ?_
  refine J.ret ?_
  cases H
  exact ⟨_,_,_,Za,⟨rfl,rfl⟩,Zc h1 []⟩
 refine Zi [4] rfl ?_
 refine J.ret ?_
 cases H
 exact ⟨_,_,_,Za,⟨rfl,rfl⟩,Zc h1 []⟩

def Q72.f (a0:List UInt8×List UInt8) (a1:Int×Int×Int×Int×Int×Int×Int×Int) (a2:List UInt8×List UInt8×Bool):Option (Bool):=(Q65.f a1 a0.1).bind fun r1=>(if (!r1)=true then (some true) else ((Q64.f a2 a0.1).bind fun r2=>(if (!r2)=true then (some true) else (some (decide (a1.2.2.2.2.2.2.2<(a0.2.length:Int)))))))
theorem Q72.spec {a0:List UInt8×List UInt8} {a1:Int×Int×Int×Int×Int×Int×Int×Int} {a2:List UInt8×List UInt8×Bool} {b1:Nat} {b2:Nat} {r:Bool} (H:Q72.f a0 a1 a2=some r) :
  Spec Tryz.prog 200 [.agg #[.string ⟨⟨a0.1⟩⟩,.string ⟨⟨a0.2⟩⟩],.pointer (some ⟨b1,0,none⟩),.pointer (some ⟨b2,0,none⟩)] [X23 b1 a1.1 a1.2.1 a1.2.2.1 a1.2.2.2.1 a1.2.2.2.2.1 a1.2.2.2.2.2.1 a1.2.2.2.2.2.2.1 a1.2.2.2.2.2.2.2,X92 b2 a2.1 a2.2.1 a2.2.2] [] (fun v l=>v=.bool r∧l=[X23 b1 a1.1 a1.2.1 a1.2.2.1 a1.2.2.2.1 a1.2.2.2.2.1 a1.2.2.2.2.2.1 a1.2.2.2.2.2.2.1 a1.2.2.2.2.2.2.2,X92 b2 a2.1 a2.2.1 a2.2.2]):=by
 refine Zo Tryz.func200 fun w0 F0 h0=>?_
 unfold Q72.f at H
 refine J.seq (J.region ?_)
 refine Ze (Ym h0) ?_
 rintro _ w1 ⟨b3,rfl,h1⟩
 replace h1:=nf h1
 refine Zi [1,2,3] rfl ?_
 refine J.seq (J.region ?_)
 refine Zf (Zd 1 h1.wht) ?_
 refine Zh 1 ?_
 refine Zf (Zd 0 h1.wht) ?_
 obtain ⟨r1,q1,H⟩:=Zn H
 refine Ze (Zg [] (Q65.spec q1) h1 rfl Zr) ?_
 rintro _ w2 ⟨_,⟨rfl,rfl⟩,h2⟩
 replace h2:=nf h2
 refine Zh 2 ?_
 refine Yj 10 H (fun c1 H=>?_) fun c1 H=>?_
 ·refine Zi [4] rfl ?_
  refine J.ret ?_
  cases H
  exact ⟨_,_,_,Za,⟨rfl,rfl⟩,Zc h2 [1,1]⟩
 refine Zf (Zd 2 h2.wht) ?_
 refine Zh 1 ?_
 refine Zf (Zd 0 h2.wht) ?_
 obtain ⟨r2,q2,H⟩:=Zn H
 refine Ze (Zg [] (Q64.spec q2) h2 rfl Zr) ?_
 rintro _ w3 ⟨_,⟨rfl,rfl⟩,h3⟩
 replace h3:=nf h3
 refine Zh 3 ?_
 refine Yj 17 H (fun c2 H=>?_) fun c2 H=>?_
 ·refine Zi [4] rfl ?_
  refine J.ret ?_
  cases H
  exact ⟨_,_,_,Za,⟨rfl,rfl⟩,Zc h3 [1,1]⟩
 refine Zh 1 ?_
 refine Zf (Zd 0 h3.wht) ?_
 refine Zh 2 ?_
 refine Zf (Zd 1 h3.wht) ?_
 refine Zi [4] rfl ?_
 refine J.ret ?_
 cases H
 exact ⟨_,_,_,Za,⟨rfl,rfl⟩,Zc h3 [1,1]⟩

def Q104.l0:Nat→(List (List UInt8×List UInt8))→(Int×Int×Int×Int×Int×Int×Int×Int)→(List UInt8×List UInt8×Bool)→(Int)→Option (Int)
 | 0,_,_,_,_=>none
 | k+1,a0,a2,a3,x1=>if (decide (x1<(a0.length:Int)))=true then (if 0≤x1∧x1<(a0.length:Int) then ((Q72.f (gt a0 x1) a2 a3).bind fun r1=>(if r1=true then (some x1) else (Q104.l0 k a0 a2 a3 (w64 (x1+1))))) else none) else (some (-1))
def Q104.f (k:Nat) (a0:List (List UInt8×List UInt8)) (a2:Int×Int×Int×Int×Int×Int×Int×Int) (a3:List UInt8×List UInt8×Bool):Option (Int):=Q104.l0 k a0 a2 a3 0
theorem Q104.spec {k:Nat} {a0:List (List UInt8×List UInt8)} {a2:Int×Int×Int×Int×Int×Int×Int×Int} {a3:List UInt8×List UInt8×Bool} {A1:Option Addr} {c_1:Nat} {b1:Nat} {b2:Nat} {r:Int} (H:Q104.f k a0 a2 a3=some r) :
  Spec Tryz.prog 226 [.slice A1 a0.length c_1,.func (.func 200) #[] #[.pointer (some ⟨b1,0,none⟩),.pointer (some ⟨b2,0,none⟩)]] [X23 b1 a2.1 a2.2.1 a2.2.2.1 a2.2.2.2.1 a2.2.2.2.2.1 a2.2.2.2.2.2.1 a2.2.2.2.2.2.2.1 a2.2.2.2.2.2.2.2,X92 b2 a3.1 a3.2.1 a3.2.2] [Xv a0 A1 c_1] (fun v l=>v=.int .i64 r∧l=[X23 b1 a2.1 a2.2.1 a2.2.2.1 a2.2.2.2.1 a2.2.2.2.2.1 a2.2.2.2.2.2.1 a2.2.2.2.2.2.2.1 a2.2.2.2.2.2.2.2,X92 b2 a3.1 a3.2.1 a3.2.2]):=by
 refine Zo Tryz.func226 fun w0 F0 h0=>?_
 unfold Q104.f at H
 refine J.seq (Zb [0,1] ?_)
 refine J.seq (J.seq (Zb [0,1,7,8] ?_))
 refine J.block ?_
 have h4:=(sOR h0 [0,0] [0])
 refine J.loop (fun kk env w=>∃(x1:Int),env=[(0,.slice A1 a0.length c_1),(1,.func (.func 200) #[] #[.pointer (some ⟨b1,0,none⟩),.pointer (some ⟨b2,0,none⟩)]),(7,.int .i64 (a0.length:Int)),(8,.int .i64 x1)]∧St w0 F0 [X23 b1 a2.1 a2.2.1 a2.2.2.1 a2.2.2.2.1 a2.2.2.2.2.1 a2.2.2.2.2.2.1 a2.2.2.2.2.2.2.1 a2.2.2.2.2.2.2.2,X92 b2 a3.1 a3.2.1 a3.2.2] [Xv a0 A1 c_1] w∧Q104.l0 kk a0 a2 a3 x1=some r) (k:=k) ⟨0,rfl,h4,H⟩ ?_
 rintro k1 env w1 ⟨x1,rfl,h1,H⟩
 rcases k1 with _ | k1
 ·exact z0 H
 rw [Q104.l0] at H
 refine J.seq (Zb [0,1,7,8,9] ?_)
 refine J.seq (jIf H (fun c1 H=>?_) fun c1 H=>?_)
 ·refine J.skip (J.seq (J.block (J.seq (Zb [0,1,5,7,8] ?_))))
  refine J.seq (J.region ?_)
  refine Zh 3 ?_
  obtain ⟨⟨p1,p2⟩,H⟩:=Zs H
  have e1:=Z6 h1.wh (Zk 2) p1 p2
  refine Zf (Zl e1 p1 p2) ?_
  refine Zf (Zm 0 h1.wht (Zk 2) p1 p2) ?_
  obtain ⟨r1,q1,H⟩:=Zn H
  refine Ze (Ux [.agg #[.string ⟨⟨(gt a0 x1).1⟩⟩,.string ⟨⟨(gt a0 x1).2⟩⟩]] [.pointer (some ⟨b1,0,none⟩),.pointer (some ⟨b2,0,none⟩)] [0,0] (Q72.spec q1) h1 rfl Zr) ?_
  rintro _ w2 ⟨_,⟨rfl,rfl⟩,h2⟩
  replace h2:=nf h2
  refine Zi [0,1,5,7,8,16] rfl ?_
  refine jIf H (fun c2 H=>?_) fun c2 H=>?_
  ·refine J.seq (Zb [4] ?_)
   refine J.ret ?_
   cases H
   exact ⟨_,_,_,Za,⟨rfl,rfl⟩,Zc h2 [0,0]⟩
  refine J.skip (Zb [0,1,7,8] ?_)
  have h3:=(sOR h2 [0,0] [0])
  exact ⟨k1,by omega,(w64 (x1+1)),rfl,h3,H⟩
 refine J.exit (J.seq (Zb [4] ?_))
 refine J.ret ?_
 cases H
 exact ⟨_,_,_,Za,⟨rfl,rfl⟩,Zc h1 [0,0]⟩

def Q98.f (k:Nat) (a0:List (List UInt8×List UInt8)) (a2:Int×Int×Int×Int×Int×Int×Int×Int) (a3:List UInt8×List UInt8×Bool):Option (Bool):=(Q104.f k a0 a2 a3).bind fun r1=>(some (decide (0≤r1)))
theorem Q98.spec {k:Nat} {a0:List (List UInt8×List UInt8)} {a2:Int×Int×Int×Int×Int×Int×Int×Int} {a3:List UInt8×List UInt8×Bool} {A1:Option Addr} {c_1:Nat} {b1:Nat} {b2:Nat} {r:Bool} (H:Q98.f k a0 a2 a3=some r) :
  Spec Tryz.prog 199 [.slice A1 a0.length c_1,.func (.func 200) #[] #[.pointer (some ⟨b1,0,none⟩),.pointer (some ⟨b2,0,none⟩)]] [X23 b1 a2.1 a2.2.1 a2.2.2.1 a2.2.2.2.1 a2.2.2.2.2.1 a2.2.2.2.2.2.1 a2.2.2.2.2.2.2.1 a2.2.2.2.2.2.2.2,X92 b2 a3.1 a3.2.1 a3.2.2] [Xv a0 A1 c_1] (fun v l=>v=.bool r∧l=[X23 b1 a2.1 a2.2.1 a2.2.2.1 a2.2.2.2.1 a2.2.2.2.2.1 a2.2.2.2.2.2.1 a2.2.2.2.2.2.2.1 a2.2.2.2.2.2.2.2,X92 b2 a3.1 a3.2.1 a3.2.2]):=by
 refine Zo Tryz.func199 fun w0 F0 h0=>?_
 unfold Q98.f at H
 refine J.seq (Zb [0,1] ?_)
 refine J.seq (J.region ?_)
 refine Zh 2 ?_
 obtain ⟨r1,q1,H⟩:=Zn H
 refine Ze (Zg [0,0] (Q104.spec q1) h0 rfl (Zy (Zk 0) Zr)) ?_
 rintro _ w1 ⟨_,⟨rfl,rfl⟩,h1⟩
 replace h1:=nf h1
 refine Zi [4] rfl ?_
 refine J.ret ?_
 cases H
 exact ⟨_,_,_,Za,⟨rfl,rfl⟩,Zc h1 [0,0]⟩

def Q71.f (k:Nat) (a0:Int×Int×Int×Int×Int×Int×Int×Int) (a1:List UInt8×List UInt8×Bool) (a2:Int×List (Int)×List (List UInt8)×(List (List UInt8×Bool×List UInt8))×(List (List UInt8×List UInt8))):Option (Bool):=if (decide (0<(w64 ((w64 ((a2.2.1.length:Int)+(a2.2.2.1.length:Int)))+(a2.2.2.2.1.length:Int)))))=true then (some false) else (if (decide (a0.2.2.2.2.2.1<(a2.2.2.2.2.length:Int)))=true then (some false) else ((Q61.f k a2.2.2.2.2).bind fun r1=>(if (!r1)=true then (some false) else ((Q98.f k a2.2.2.2.2 a0 a1).bind fun r2=>(some (!r2))))))
theorem Q71.spec {k:Nat} {a0:Int×Int×Int×Int×Int×Int×Int×Int} {a1:List UInt8×List UInt8×Bool} {a2:Int×List (Int)×List (List UInt8)×(List (List UInt8×Bool×List UInt8))×(List (List UInt8×List UInt8))} {A1:Option Addr} {c_1:Nat} {A2:Option Addr} {c_2:Nat} {A3:Option Addr} {c_3:Nat} {A4:Option Addr} {c_4:Nat} {r:Bool} (H:Q71.f k a0 a1 a2=some r) :
  Spec Tryz.prog 165 [.agg #[.int .i64 a0.1,.int .i64 a0.2.1,.int .i64 a0.2.2.1,.int .i64 a0.2.2.2.1,.int .i64 a0.2.2.2.2.1,.int .i64 a0.2.2.2.2.2.1,.int .i64 a0.2.2.2.2.2.2.1,.int .i64 a0.2.2.2.2.2.2.2],.agg #[.string ⟨⟨a1.1⟩⟩,.string ⟨⟨a1.2.1⟩⟩,.bool a1.2.2],.agg #[.int .i64 a2.1,.slice A1 a2.2.1.length c_1,.slice A2 a2.2.2.1.length c_2,.slice A3 a2.2.2.2.1.length c_3,.slice A4 a2.2.2.2.2.length c_4]] [] [R33 a2.2.1 A1 c_1,R9 a2.2.2.1 A2 c_2,Xw a2.2.2.2.1 A3 c_3,Xv a2.2.2.2.2 A4 c_4] (fun v l=>v=.bool r∧l=[]):=by
 refine Zo Tryz.func165 fun w0 F0 h0=>?_
 unfold Q71.f at H
 refine J.seq (J.region ?_)
 refine Ze (Ym h0) ?_
 rintro _ w1 ⟨b1,rfl,h1⟩
 replace h1:=nf h1
 refine Ze (Ym h1) ?_
 rintro _ w2 ⟨b2,rfl,h2⟩
 replace h2:=nf h2
 refine Ze (Ym h2) ?_
 rintro _ w3 ⟨b3,rfl,h3⟩
 replace h3:=nf h3
 refine Zi [3,4,5] rfl ?_
 refine J.seq (J.seq (J.region ?_))
 refine Zh 1 ?_
 refine Zf (Zd 0 h3.wht) ?_
 refine Zh 2 ?_
 refine Zf (Zd 0 h3.wht) ?_
 refine Zh 3 ?_
 refine Zf (Zd 0 h3.wht) ?_
 refine Zh 4 ?_
 refine Yj 19 H (fun c1 H=>?_) fun c1 H=>?_
 ·refine Zi [3,4,5,32] rfl ?_
  refine Zt ?_
  refine J.seq (Zb [6] ?_)
  have h4:=Zc h3 []
  replace h4:=nf h4
  refine J.ret ?_
  cases H
  exact ⟨_,_,_,Za,⟨rfl,rfl⟩,Zc h4 []⟩
 refine Zh 1 ?_
 refine Zf (Zd 0 h3.wht) ?_
 refine Zh 2 ?_
 refine Zf (Zd 2 h3.wht) ?_
 refine Zh 3 ?_
 refine Yj 27 H (fun c2 H=>?_) fun c2 H=>?_
 ·refine Zi [3,4,5,32] rfl ?_
  refine Zt ?_
  refine J.seq (Zb [6] ?_)
  have h5:=Zc h3 []
  replace h5:=nf h5
  refine J.ret ?_
  cases H
  exact ⟨_,_,_,Za,⟨rfl,rfl⟩,Zc h5 []⟩
 refine Zh 1 ?_
 refine Zf (Zd 0 h3.wht) ?_
 obtain ⟨r1,q1,H⟩:=Zn H
 refine Ze (Zg [] (Q61.spec q1) h3 rfl (Zy (Zk 6) Zr)) ?_
 rintro _ w4 ⟨_,⟨rfl,rfl⟩,h6⟩
 replace h6:=nf h6
 refine Zi [3,4,5,32] rfl ?_
 refine jIf H (fun c3 H=>?_) fun c3 H=>?_
 ·refine J.seq (Zb [6] ?_)
  have h7:=Zc h6 []
  replace h7:=nf h7
  refine J.ret ?_
  cases H
  exact ⟨_,_,_,Za,⟨rfl,rfl⟩,Zc h7 []⟩
 refine J.skip (J.seq (J.region ?_))
 refine Zh 1 ?_
 refine Zf (Zd 0 h6.wht) ?_
 refine Zh 1 ?_
 obtain ⟨r2,q2,H⟩:=Zn H
 refine Ze (Zg [2,1] (Q98.spec q2) h6 rfl (Zy (Zk 4) Zr)) ?_
 rintro _ w5 ⟨_,⟨rfl,rfl⟩,h8⟩
 replace h8:=nf h8
 refine Zi [6] rfl ?_
 have h9:=Zc h8 []
 replace h9:=nf h9
 refine J.ret ?_
 cases H
 exact ⟨_,_,_,Za,⟨rfl,rfl⟩,Zc h9 []⟩

def Q95.f (a0:List (Int)):Option (List (Int)):=if (([]:List (Int)).length+a0.length)*4≤140737488355328 then (some (([]:List (Int)) ++ a0)) else none
theorem Q95.spec {a0:List (Int)} {A1:Option Addr} {c_1:Nat} {r:List (Int)} (H:Q95.f a0=some r) :
  Spec Tryz.prog 227 [.slice A1 a0.length c_1] [] [R33 a0 A1 c_1] (fun v l=>∃(A_0:Option Addr) (c_0:Nat),v=.slice A_0 r.length c_0∧l=[O33 r A_0 c_0]):=by
 refine Zo Tryz.func227 fun w0 F0 h0=>?_
 unfold Q95.f at H
 refine J.seq (Zb [0] ?_)
 refine J.seq (J.seq (Zb [0,4] ?_))
 refine Za7 (fun c1=>?_) (fun c1=>?_)
 ·have e1:=h0.nilrow (Zk 0) (by simpa using c1)
  replace H:(some ([]:List (Int)))=some r:=by rw [e1] at H; simpa using H
  refine J.seq (Zb [2] ?_)
  refine J.ret ?_
  have h1:=h0.addNil 33 (.int .u32)
  cases H
  exact ⟨_,_,_,Za,⟨_,_,rfl,rfl⟩,Zc h1 [0]⟩
 refine J.skip (J.seq (J.region ?_))
 refine Ze (Xg (.int .u32) ([]:List (Int)) h0) ?_
 rintro _ w1 ⟨b1,rfl,h2⟩
 replace h2:=nf h2
 refine Zh 1 ?_
 obtain ⟨p1,H⟩:=Zs H
 refine Ze (Yx 0 h2 (Zk 0) p1) ?_
 rintro _ w2 ⟨A2,c_2,rfl,h3⟩
 replace h3:=nf h3
 refine Zi [2] rfl ?_
 refine J.ret ?_
 cases H
 exact ⟨_,_,_,Za,⟨_,_,rfl,rfl⟩,Zc h3 [0]⟩

def tb0:List UInt8:=[0,1,2,2,3,3,3,3,4,4,4,4,4,4,4,4,5,5,5,5,5,5,5,5,5,5,5,5,5,5,5,5,6,6,6,6,6,6,6,6,6,6,6,6,6,6,6,6,6,6,6,6,6,6,6,6,6,6,6,6,6,6,6,6,7,7,7,7,7,7,7,7,7,7,7,7,7,7,7,7,7,7,7,7,7,7,7,7,7,7,7,7,7,7,7,7,7,7,7,7,7,7,7,7,7,7,7,7,7,7,7,7,7,7,7,7,7,7,7,7,7,7,7,7,7,7,7,7,8,8,8,8,8,8,8,8,8,8,8,8,8,8,8,8,8,8,8,8,8,8,8,8,8,8,8,8,8,8,8,8,8,8,8,8,8,8,8,8,8,8,8,8,8,8,8,8,8,8,8,8,8,8,8,8,8,8,8,8,8,8,8,8,8,8,8,8,8,8,8,8,8,8,8,8,8,8,8,8,8,8,8,8,8,8,8,8,8,8,8,8,8,8,8,8,8,8,8,8,8,8,8,8,8,8,8,8,8,8,8,8,8,8,8,8,8,8,8,8,8,8,8,8,8,8,8,8]
def Q1.f (a0:Int):Option (Int):=if (decide (4294967296≤a0))=true then (if (decide (65536≤(Int.fdiv a0 (2 ^ 32))))=true then (if (decide (256≤(Int.fdiv (Int.fdiv a0 (2 ^ 32)) (2 ^ 16))))=true then (if 0≤(IntKind.u8.wrap ((Int.fdiv (Int.fdiv (Int.fdiv a0 (2 ^ 32)) (2 ^ 16)) (2 ^ 8))))∧(IntKind.u8.wrap ((Int.fdiv (Int.fdiv (Int.fdiv a0 (2 ^ 32)) (2 ^ 16)) (2 ^ 8))))<(tb0.length:Int) then (some (w64 (56+(w64 ((gtb tb0 (IntKind.u8.wrap ((Int.fdiv (Int.fdiv (Int.fdiv a0 (2 ^ 32)) (2 ^ 16)) (2 ^ 8)))))))))) else none) else (if 0≤(IntKind.u8.wrap ((Int.fdiv (Int.fdiv a0 (2 ^ 32)) (2 ^ 16))))∧(IntKind.u8.wrap ((Int.fdiv (Int.fdiv a0 (2 ^ 32)) (2 ^ 16))))<(tb0.length:Int) then (some (w64 (48+(w64 ((gtb tb0 (IntKind.u8.wrap ((Int.fdiv (Int.fdiv a0 (2 ^ 32)) (2 ^ 16)))))))))) else none)) else (if (decide (256≤(Int.fdiv a0 (2 ^ 32))))=true then (if 0≤(IntKind.u8.wrap ((Int.fdiv (Int.fdiv a0 (2 ^ 32)) (2 ^ 8))))∧(IntKind.u8.wrap ((Int.fdiv (Int.fdiv a0 (2 ^ 32)) (2 ^ 8))))<(tb0.length:Int) then (some (w64 (40+(w64 ((gtb tb0 (IntKind.u8.wrap ((Int.fdiv (Int.fdiv a0 (2 ^ 32)) (2 ^ 8)))))))))) else none) else (if 0≤(IntKind.u8.wrap ((Int.fdiv a0 (2 ^ 32))))∧(IntKind.u8.wrap ((Int.fdiv a0 (2 ^ 32))))<(tb0.length:Int) then (some (w64 (32+(w64 ((gtb tb0 (IntKind.u8.wrap ((Int.fdiv a0 (2 ^ 32)))))))))) else none))) else (if (decide (65536≤a0))=true then (if (decide (256≤(Int.fdiv a0 (2 ^ 16))))=true then (if 0≤(IntKind.u8.wrap ((Int.fdiv (Int.fdiv a0 (2 ^ 16)) (2 ^ 8))))∧(IntKind.u8.wrap ((Int.fdiv (Int.fdiv a0 (2 ^ 16)) (2 ^ 8))))<(tb0.length:Int) then (some (w64 (24+(w64 ((gtb tb0 (IntKind.u8.wrap ((Int.fdiv (Int.fdiv a0 (2 ^ 16)) (2 ^ 8)))))))))) else none) else (if 0≤(IntKind.u8.wrap ((Int.fdiv a0 (2 ^ 16))))∧(IntKind.u8.wrap ((Int.fdiv a0 (2 ^ 16))))<(tb0.length:Int) then (some (w64 (16+(w64 ((gtb tb0 (IntKind.u8.wrap ((Int.fdiv a0 (2 ^ 16)))))))))) else none)) else (if (decide (256≤a0))=true then (if 0≤(IntKind.u8.wrap ((Int.fdiv a0 (2 ^ 8))))∧(IntKind.u8.wrap ((Int.fdiv a0 (2 ^ 8))))<(tb0.length:Int) then (some (w64 (8+(w64 ((gtb tb0 (IntKind.u8.wrap ((Int.fdiv a0 (2 ^ 8)))))))))) else none) else (if 0≤(IntKind.u8.wrap (a0))∧(IntKind.u8.wrap (a0))<(tb0.length:Int) then (some (w64 (0+(w64 ((gtb tb0 (IntKind.u8.wrap (a0)))))))) else none)))
theorem Q1.spec {a0:Int}  {r:Int} (H:Q1.f a0=some r) :
  Spec Tryz.prog 244 [.int .u64 a0] [] [] (fun v l=>v=.int .i64 r∧l=[]):=by
 refine Zo Tryz.func244 fun w0 F0 h0=>?_
 unfold Q1.f at H
 refine J.seq (Zb [0,2] ?_)
 refine J.seq (J.seq (Zb [0,2,4] ?_))
 refine jIf H (fun c1 H=>?_) fun c1 H=>?_
 ·refine J.seq (Zb [0] ?_)
  refine Zb [0,2] ?_
  refine J.seq (J.seq (Zb [0,2,8] ?_))
  refine jIf H (fun c2 H=>?_) fun c2 H=>?_
  ·refine J.seq (Zb [0,2] ?_)
   refine Zb [0,2] ?_
   refine J.seq (J.seq (Zb [0,2,14] ?_))
   refine jIf H (fun c3 H=>?_) fun c3 H=>?_
   ·refine J.seq (Zb [0,2] ?_)
    refine Zb [0,2] ?_
    refine J.seq (J.region ?_)
    refine Zh 3 ?_
    obtain ⟨⟨p1,p2⟩,H⟩:=Zs H
    refine Zf (Wb p1 p2) ?_
    refine Zi [2] rfl ?_
    refine J.ret ?_
    cases H
    exact ⟨_,_,_,Za,⟨rfl,rfl⟩,Zc h0 []⟩
   refine J.skip (J.seq (J.region ?_))
   refine Zh 3 ?_
   obtain ⟨⟨p3,p4⟩,H⟩:=Zs H
   refine Zf (Wb p3 p4) ?_
   refine Zi [2] rfl ?_
   refine J.ret ?_
   cases H
   exact ⟨_,_,_,Za,⟨rfl,rfl⟩,Zc h0 []⟩
  refine J.skip (J.seq (J.seq (Zb [0,2,14] ?_)))
  refine jIf H (fun c4 H=>?_) fun c4 H=>?_
  ·refine J.seq (Zb [0,2] ?_)
   refine Zb [0,2] ?_
   refine J.seq (J.region ?_)
   refine Zh 3 ?_
   obtain ⟨⟨p5,p6⟩,H⟩:=Zs H
   refine Zf (Wb p5 p6) ?_
   refine Zi [2] rfl ?_
   refine J.ret ?_
   cases H
   exact ⟨_,_,_,Za,⟨rfl,rfl⟩,Zc h0 []⟩
  refine J.skip (J.seq (J.region ?_))
  refine Zh 3 ?_
  obtain ⟨⟨p7,p8⟩,H⟩:=Zs H
  refine Zf (Wb p7 p8) ?_
  refine Zi [2] rfl ?_
  refine J.ret ?_
  cases H
  exact ⟨_,_,_,Za,⟨rfl,rfl⟩,Zc h0 []⟩
 refine J.skip (J.seq (J.seq (Zb [0,2,8] ?_)))
 refine jIf H (fun c5 H=>?_) fun c5 H=>?_
 ·refine J.seq (Zb [0,2] ?_)
  refine Zb [0,2] ?_
  refine J.seq (J.seq (Zb [0,2,14] ?_))
  refine jIf H (fun c6 H=>?_) fun c6 H=>?_
  ·refine J.seq (Zb [0,2] ?_)
   refine Zb [0,2] ?_
   refine J.seq (J.region ?_)
   refine Zh 3 ?_
   obtain ⟨⟨p9,p10⟩,H⟩:=Zs H
   refine Zf (Wb p9 p10) ?_
   refine Zi [2] rfl ?_
   refine J.ret ?_
   cases H
   exact ⟨_,_,_,Za,⟨rfl,rfl⟩,Zc h0 []⟩
  refine J.skip (J.seq (J.region ?_))
  refine Zh 3 ?_
  obtain ⟨⟨p11,p12⟩,H⟩:=Zs H
  refine Zf (Wb p11 p12) ?_
  refine Zi [2] rfl ?_
  refine J.ret ?_
  cases H
  exact ⟨_,_,_,Za,⟨rfl,rfl⟩,Zc h0 []⟩
 refine J.skip (J.seq (J.seq (Zb [0,2,14] ?_)))
 refine jIf H (fun c7 H=>?_) fun c7 H=>?_
 ·refine J.seq (Zb [0,2] ?_)
  refine Zb [0,2] ?_
  refine J.seq (J.region ?_)
  refine Zh 3 ?_
  obtain ⟨⟨p13,p14⟩,H⟩:=Zs H
  refine Zf (Wb p13 p14) ?_
  refine Zi [2] rfl ?_
  refine J.ret ?_
  cases H
  exact ⟨_,_,_,Za,⟨rfl,rfl⟩,Zc h0 []⟩
 refine J.skip (J.seq (J.region ?_))
 refine Zh 3 ?_
 obtain ⟨⟨p15,p16⟩,H⟩:=Zs H
 refine Zf (Wb p15 p16) ?_
 refine Zi [2] rfl ?_
 refine J.ret ?_
 cases H
 exact ⟨_,_,_,Za,⟨rfl,rfl⟩,Zc h0 []⟩

def Q0.f (a0:Int):Option (Int):=(Q1.f a0).bind fun r1=>(some r1)
theorem Q0.spec {a0:Int}  {r:Int} (H:Q0.f a0=some r) :
  Spec Tryz.prog 225 [.int .u64 a0] [] [] (fun v l=>v=.int .i64 r∧l=[]):=by
 refine Zo Tryz.func225 fun w0 F0 h0=>?_
 unfold Q0.f at H
 refine J.seq (Zb [0] ?_)
 refine J.seq (Z4 ?_)
 refine J.skip (J.seq (J.region ?_))
 refine Zh 1 ?_
 obtain ⟨r1,q1,H⟩:=Zn H
 refine Ze (Zg [] (Q1.spec q1) h0 rfl Zr) ?_
 rintro _ w1 ⟨_,⟨rfl,rfl⟩,h1⟩
 replace h1:=nf h1
 refine Zi [2] rfl ?_
 refine J.ret ?_
 cases H
 exact ⟨_,_,_,Za,⟨rfl,rfl⟩,Zc h1 []⟩

def Q36.f (a0:Int):Option (Bool):=some (!decide (a0=a0))
theorem Q36.spec {a0:Int}  {r:Bool} (H:Q36.f a0=some r) :
  Spec Tryz.prog 252 [.int .u32 a0] [] [] (fun v l=>v=.bool r∧l=[]):=by
 refine Zo Tryz.func252 fun w0 F0 h0=>?_
 unfold Q36.f at H
 refine J.seq (Zb [0] ?_)
 refine J.seq (Zb [2] ?_)
 refine J.ret ?_
 cases H
 exact ⟨_,_,_,Za,⟨rfl,rfl⟩,Zc h0 []⟩

def Q35.f (a0:Int) (a1:Int):Option (Bool):=(Q36.f a0).bind fun r1=>(if r1=true then ((Q36.f a1).bind fun r2=>(if (!r2)=true then (some true) else (some (decide (a0<a1))))) else (some (decide (a0<a1))))
theorem Q35.spec {a0:Int} {a1:Int}  {r:Bool} (H:Q35.f a0 a1=some r) :
  Spec Tryz.prog 240 [.int .u32 a0,.int .u32 a1] [] [] (fun v l=>v=.bool r∧l=[]):=by
 refine Zo Tryz.func240 fun w0 F0 h0=>?_
 unfold Q35.f at H
 refine J.seq (Zb [0,1] ?_)
 refine J.seq (J.region ?_)
 refine Zh 1 ?_
 obtain ⟨r1,q1,H⟩:=Zn H
 refine Ze (Zg [] (Q36.spec q1) h0 rfl Zr) ?_
 rintro _ w1 ⟨_,⟨rfl,rfl⟩,h1⟩
 replace h1:=nf h1
 refine Zh 1 ?_
 refine Yj 7 H (fun c1 H=>?_) fun c1 H=>?_
 ·refine Zh 1 ?_
  obtain ⟨r2,q2,H⟩:=Zn H
  refine Ze (Zg [] (Q36.spec q2) h1 rfl Zr) ?_
  rintro _ w2 ⟨_,⟨rfl,rfl⟩,h2⟩
  replace h2:=nf h2
  refine Zh 3 ?_
  refine Yj 12 H (fun c2 H=>?_) fun c2 H=>?_
  ·refine Zi [4] rfl ?_
   refine J.ret ?_
   cases H
   exact ⟨_,_,_,Za,⟨rfl,rfl⟩,Zc h2 []⟩
  refine Zi [4] rfl ?_
  refine J.ret ?_
  cases H
  exact ⟨_,_,_,Za,⟨rfl,rfl⟩,Zc h2 []⟩
 refine Zi [4] rfl ?_
 refine J.ret ?_
 cases H
 exact ⟨_,_,_,Za,⟨rfl,rfl⟩,Zc h1 []⟩

mutual
def Q112.l0:Nat→(Int)→(Int)→(List (Int))→(Int)→Option (List (Int))
 | 0,_,_,_,_=>none
 | k+1,a1,a2,x1,x2=>if (decide (x2<a2))=true then (Q112.l1 k a1 a2 x2 x1 x2) else (some x1)
def Q112.l1:Nat→(Int)→(Int)→(Int)→(List (Int))→(Int)→Option (List (Int))
 | 0,_,_,_,_,_=>none
 | k+1,a1,a2,x2,x3,x4=>if (decide (a1<x4))=true then (if 0≤x4∧x4<(x3.length:Int) then (if 0≤(w64 (x4 - 1))∧(w64 (x4 - 1))<(x3.length:Int) then ((Q35.f (gt x3 x4) (gt x3 (w64 (x4 - 1)))).bind fun r1=>(if r1=true then (Q112.l1 k a1 a2 x2 ((x3.set x4.toNat (gt x3 (w64 (x4 - 1)))).set (w64 (x4 - 1)).toNat (gt x3 x4)) (w64 (x4 - 1))) else (Q112.l0 k a1 a2 x3 (w64 (x2+1))))) else none) else none) else (Q112.l0 k a1 a2 x3 (w64 (x2+1)))
end
def Q112.f (k:Nat) (a0:List (Int)) (a1:Int) (a2:Int):Option (List (Int)):=Q112.l0 k a1 a2 a0 (w64 (a1+1))
theorem Q112.spec {k:Nat} {a0:List (Int)} {a1:Int} {a2:Int} {A1:Option Addr} {c_1:Nat} {r:List (Int)} (H:Q112.f k a0 a1 a2=some r) :
  Spec Tryz.prog 234 [.slice A1 a0.length c_1,.int .i64 a1,.int .i64 a2] [O33 a0 A1 c_1] [] (fun v l=>v=.tuple #[]∧l=[O33 r A1 c_1]∧r.length=a0.length):=by
 refine Zo Tryz.func234 fun w0 F0 h0=>?_
 unfold Q112.f at H
 refine J.seq (Zb [0,1,2,6] ?_)
 refine J.block ?_
 have h17:=(sOR h0 [0] [])
 refine J.loop (fun kk env w=>∃(x1:List (Int)) (x2:Int),env=[(0,.slice A1 x1.length c_1),(1,.int .i64 a1),(2,.int .i64 a2),(6,.int .i64 x2)]∧St w0 F0 [O33 x1 A1 c_1] [] w∧Q112.l0 kk a1 a2 x1 x2=some r∧x1.length=a0.length) (k:=k) ⟨a0,(w64 (a1+1)),rfl,h17,H,(rfl:a0.length=a0.length)⟩ ?_
 rintro k1 env w1 ⟨x1,x2,rfl,h1,H,e1⟩
 rcases k1 with _ | k1
 ·exact z0 H
 rw [Q112.l0] at H
 refine J.seq (J.seq (Zb [0,1,2,6,12] ?_))
 refine jIf H (fun c1 H=>?_) fun c1 H=>?_
 ·refine J.skip (J.seq (J.block (J.seq (Zb [0,1,2,6,7] ?_))))
  refine J.block ?_
  have h16:=(sOR h1 [0] [])
  refine J.loop (fun kk env w=>∃(x3:List (Int)) (x4:Int),env=[(0,.slice A1 x3.length c_1),(1,.int .i64 a1),(2,.int .i64 a2),(6,.int .i64 x2),(7,.int .i64 x4)]∧St w0 F0 [O33 x3 A1 c_1] [] w∧Q112.l1 kk a1 a2 x2 x3 x4=some r∧kk≤k1∧x3.length=a0.length) (k:=k1) ⟨x1,x2,rfl,h16,H,Nat.le_refl _,e1⟩ ?_
  rintro k2 env w2 ⟨x3,x4,rfl,h2,H,hk2,e2⟩
  rcases k2 with _ | k2
  ·exact z0 H
  rw [Q112.l1] at H
  refine J.seq (J.seq ?_)
  refine Zu h2 ?_
  have h3:=h2.drew
  refine Zv [0,1,2,3] ?_
  refine Xy 19 H (fun c2 H=>?_) fun c2 H=>?_
  ·refine Zv [4,5,8,9,10] ?_
   obtain ⟨⟨p1,p2⟩,H⟩:=Zs H
   have e3:=Z6 h3.wh (gO 0) p1 p2
   refine Zj 6 rfl (Zl e3 p1 p2) ?_
   refine Zj 7 rfl (Zm 0 wI (gO 0) p1 p2) ?_
   obtain ⟨⟨p3,p4⟩,H⟩:=Zs H
   refine Zj 11 rfl (Zl e3 p3 p4) ?_
   refine Zj 12 rfl (Zm 0 wI (gO 0) p3 p4) ?_
   obtain ⟨r1,q1,H⟩:=Zn H
   refine Zp 13 rfl (Zg [] (Q35.spec q1) h3 rfl Zr) ?_
   rintro _ w3 ⟨_,⟨rfl,rfl⟩,h4⟩
   replace h4:=nf h4
   refine ⟨⟨[],h4⟩,?_⟩
   refine Zv [14] ?_
   refine Z0 [0,1,2,6,7,30] ?_
   refine jIf H (fun c3 H=>?_) fun c3 H=>?_
   ·refine J.skip (J.seq (J.block ?_))
    refine J.mid (fun env w=>env=[(0,.slice A1 ((x3.set x4.toNat (gt x3 (w64 (x4 - 1)))).set (w64 (x4 - 1)).toNat (gt x3 x4)).length c_1),(1,.int .i64 a1),(2,.int .i64 a2),(6,.int .i64 x2),(7,.int .i64 x4)]∧St w0 F0 [O33 ((x3.set x4.toNat (gt x3 (w64 (x4 - 1)))).set (w64 (x4 - 1)).toNat (gt x3 x4)) A1 c_1] [] w) ?_ ?_
    ·refine Zu (Zc h4 []) ?_
     have h7:=h4.drew
     refine Zv [0,1,2,3,4,5,6,7,10,11] ?_
     refine Zj 8 rfl (Zl e3 p3 p4) ?_
     refine Zj 12 rfl (Zl e3 p1 p2) ?_
     refine HJ.pick [9,13] (i:=9) rfl rfl rfl rfl ?_
     refine (Yi ?_ (Yi ?_ Xj))
     ·refine Z5 9 rfl (OpT.ofq (Zm 0 h7.wht (gO 0) p3 p4)) ?_
      rintro _ _ ⟨rfl,rfl⟩
      replace h7:=nf h7
      refine ⟨⟨[_],h7⟩,?_⟩
      refine Zp 13 rfl (OpT.ofq (Zm 0 h7.wht (gO 0) p1 p2)) ?_
      rintro _ _ ⟨rfl,rfl⟩
      replace h7:=nf h7
      refine ⟨⟨[_],h7⟩,?_⟩
      refine Zj 14 rfl (Zl e3 p1 p2) ?_
      refine Zp 15 rfl (Zq 0 (.int .u32) x4 (gt x3 (w64 (x4 - 1))) 0 h7 rfl p1 p2) ?_
      intro _ w6 h8
      replace h8:=nf h8
      refine ⟨⟨[_],h8⟩,?_⟩
      have e6:(x3.set x4.toNat (gt x3 (w64 (x4 - 1)))).length=a0.length:=List.length_set.trans e2
      refine Zj 16 rfl (Zl e3 p3 p4) ?_
      refine Zp 17 rfl (Zq 0 (.int .u32) (w64 (x4 - 1)) (gt x3 x4) 0 h8 rfl p3 (by simpa only [List.length_set] using p4)) ?_
      intro _ w7 h9
      replace h9:=nf h9
      refine ⟨⟨[_],h9⟩,?_⟩
      have e7:((x3.set x4.toNat (gt x3 (w64 (x4 - 1)))).set (w64 (x4 - 1)).toNat (gt x3 x4)).length=a0.length:=List.length_set.trans e6
      refine Z0 [0,1,2,6,7] ?_
      exact Zz ⟨(by simp only [List.length_set,List.length_nil] <;> rfl),((h9.only [0] rfl).rds [] rfl)⟩
     ·refine Z5 13 rfl (OpT.ofq (Zm 0 h7.wht (gO 0) p1 p2)) ?_
      rintro _ _ ⟨rfl,rfl⟩
      replace h7:=nf h7
      refine ⟨⟨[_],h7⟩,?_⟩
      refine Zp 9 rfl (OpT.ofq (Zm 0 h7.wht (gO 0) p3 p4)) ?_
      rintro _ _ ⟨rfl,rfl⟩
      replace h7:=nf h7
      refine ⟨⟨[_],h7⟩,?_⟩
      refine Zj 14 rfl (Zl e3 p1 p2) ?_
      refine Zp 15 rfl (Zq 0 (.int .u32) x4 (gt x3 (w64 (x4 - 1))) 0 h7 rfl p1 p2) ?_
      intro _ w8 h10
      replace h10:=nf h10
      refine ⟨⟨[_],h10⟩,?_⟩
      have e8:(x3.set x4.toNat (gt x3 (w64 (x4 - 1)))).length=a0.length:=List.length_set.trans e2
      refine Zj 16 rfl (Zl e3 p3 p4) ?_
      refine Zp 17 rfl (Zq 0 (.int .u32) (w64 (x4 - 1)) (gt x3 x4) 0 h10 rfl p3 (by simpa only [List.length_set] using p4)) ?_
      intro _ w9 h11
      replace h11:=nf h11
      refine ⟨⟨[_],h11⟩,?_⟩
      have e9:((x3.set x4.toNat (gt x3 (w64 (x4 - 1)))).set (w64 (x4 - 1)).toNat (gt x3 x4)).length=a0.length:=List.length_set.trans e8
      refine Z0 [0,1,2,6,7] ?_
      exact Zz ⟨(by simp only [List.length_set,List.length_nil] <;> rfl),((h11.only [0] rfl).rds [] rfl)⟩
    rintro env w10 ⟨rfl,h12⟩
    have e10:((x3.set x4.toNat (gt x3 (w64 (x4 - 1)))).set (w64 (x4 - 1)).toNat (gt x3 x4)).length=a0.length:=by first | (simp only [List.length_set]; done) | (simp only [List.length_set]; exact e2)
    refine Zb [0,1,2,6,7] ?_
    have h13:=(sOR h12 [0] [])
    exact ⟨k2,by omega,((x3.set x4.toNat (gt x3 (w64 (x4 - 1)))).set (w64 (x4 - 1)).toNat (gt x3 x4)),(w64 (x4 - 1)),rfl,h13,H,by omega,e10⟩
   refine J.exit (Zb [0,1,2,6] ?_)
   have h14:=(sOR h4 [0] [])
   exact ⟨k2,by omega,x3,(w64 (x2+1)),rfl,h14,H,e2⟩
  refine Zv [4,5,6,7,8,9,10,11,12,13,14] ?_
  refine Z0 [0,1,2,6,7,30] ?_
  refine Z4 ?_
  refine J.exit (Zb [0,1,2,6] ?_)
  have h15:=(sOR h3 [0] [])
  exact ⟨k2,by omega,x3,(w64 (x2+1)),rfl,h15,H,e2⟩
 refine J.exit ?_
 cases H
 exact ⟨_,_,_,Za,⟨rfl,rfl,e1⟩,Zc h1 [0]⟩

def Q122.l0:Nat→(Int)→(Int)→(List (Int))→(Int)→Option (List (Int))
 | 0,_,_,_,_=>none
 | k+1,a2,a3,x1,x2=>if (decide (a2≤(w64 ((w64 (2*x2))+1))))=true then (some x1) else (if (decide ((w64 ((w64 ((w64 (2*x2))+1))+1))<a2))=true then (if 0≤(w64 (a3+(w64 ((w64 (2*x2))+1))))∧(w64 (a3+(w64 ((w64 (2*x2))+1))))<(x1.length:Int) then (if 0≤(w64 ((w64 (a3+(w64 ((w64 (2*x2))+1))))+1))∧(w64 ((w64 (a3+(w64 ((w64 (2*x2))+1))))+1))<(x1.length:Int) then ((Q35.f (gt x1 (w64 (a3+(w64 ((w64 (2*x2))+1))))) (gt x1 (w64 ((w64 (a3+(w64 ((w64 (2*x2))+1))))+1)))).bind fun r1=>(if r1=true then (if 0≤(w64 (a3+x2))∧(w64 (a3+x2))<(x1.length:Int) then (if 0≤(w64 (a3+(w64 ((w64 ((w64 (2*x2))+1))+1))))∧(w64 (a3+(w64 ((w64 ((w64 (2*x2))+1))+1))))<(x1.length:Int) then ((Q35.f (gt x1 (w64 (a3+x2))) (gt x1 (w64 (a3+(w64 ((w64 ((w64 (2*x2))+1))+1)))))).bind fun r2=>(if (!r2)=true then (some x1) else (Q122.l0 k a2 a3 ((x1.set (w64 (a3+x2)).toNat (gt x1 (w64 (a3+(w64 ((w64 ((w64 (2*x2))+1))+1)))))).set (w64 (a3+(w64 ((w64 ((w64 (2*x2))+1))+1)))).toNat (gt x1 (w64 (a3+x2)))) (w64 ((w64 ((w64 (2*x2))+1))+1))))) else none) else none) else (if 0≤(w64 (a3+x2))∧(w64 (a3+x2))<(x1.length:Int) then ((Q35.f (gt x1 (w64 (a3+x2))) (gt x1 (w64 (a3+(w64 ((w64 (2*x2))+1)))))).bind fun r3=>(if (!r3)=true then (some x1) else (Q122.l0 k a2 a3 ((x1.set (w64 (a3+x2)).toNat (gt x1 (w64 (a3+(w64 ((w64 (2*x2))+1)))))).set (w64 (a3+(w64 ((w64 (2*x2))+1)))).toNat (gt x1 (w64 (a3+x2)))) (w64 ((w64 (2*x2))+1))))) else none))) else none) else none) else (if 0≤(w64 (a3+x2))∧(w64 (a3+x2))<(x1.length:Int) then (if 0≤(w64 (a3+(w64 ((w64 (2*x2))+1))))∧(w64 (a3+(w64 ((w64 (2*x2))+1))))<(x1.length:Int) then ((Q35.f (gt x1 (w64 (a3+x2))) (gt x1 (w64 (a3+(w64 ((w64 (2*x2))+1)))))).bind fun r4=>(if (!r4)=true then (some x1) else (Q122.l0 k a2 a3 ((x1.set (w64 (a3+x2)).toNat (gt x1 (w64 (a3+(w64 ((w64 (2*x2))+1)))))).set (w64 (a3+(w64 ((w64 (2*x2))+1)))).toNat (gt x1 (w64 (a3+x2)))) (w64 ((w64 (2*x2))+1))))) else none) else none))
def Q122.f (k:Nat) (a0:List (Int)) (a1:Int) (a2:Int) (a3:Int):Option (List (Int)):=Q122.l0 k a2 a3 a0 a1
theorem Q122.spec {k:Nat} {a0:List (Int)} {a1:Int} {a2:Int} {a3:Int} {A1:Option Addr} {c_1:Nat} {r:List (Int)} (H:Q122.f k a0 a1 a2 a3=some r) :
  Spec Tryz.prog 247 [.slice A1 a0.length c_1,.int .i64 a1,.int .i64 a2,.int .i64 a3] [O33 a0 A1 c_1] [] (fun v l=>v=.tuple #[]∧l=[O33 r A1 c_1]∧r.length=a0.length):=by
 refine Zo Tryz.func247 fun w0 F0 h0=>?_
 unfold Q122.f at H
 refine J.seq (Zb [0,2,3,8] ?_)
 refine J.block ?_
 have h37:=(sOR h0 [0] [])
 refine J.loop (fun kk env w=>∃(x1:List (Int)) (x2:Int),env=[(0,.slice A1 x1.length c_1),(2,.int .i64 a2),(3,.int .i64 a3),(8,.int .i64 x2)]∧St w0 F0 [O33 x1 A1 c_1] [] w∧Q122.l0 kk a2 a3 x1 x2=some r∧x1.length=a0.length) (k:=k) ⟨a0,a1,rfl,h37,H,(rfl:a0.length=a0.length)⟩ ?_
 rintro k1 env w1 ⟨x1,x2,rfl,h1,H,e1⟩
 rcases k1 with _ | k1
 ·exact z0 H
 rw [Q122.l0] at H
 refine J.block (J.seq (Zb [0,2,3,8,9] ?_))
 refine J.seq (J.seq (Zb [0,2,3,8,9,16] ?_))
 refine jIf H (fun c1 H=>?_) fun c1 H=>?_
 ·refine J.exit ?_
  cases H
  exact ⟨_,_,_,Za,⟨rfl,rfl,e1⟩,Zc h1 [0]⟩
 refine J.skip (J.seq (J.seq ?_))
 refine Zu h1 ?_
 have h2:=h1.drew
 refine Zv [0,1,2,3,4] ?_
 refine Xy 21 H (fun c2 H=>?_) fun c2 H=>?_
 ·refine Zv [5,6,7,8,11,12,13,14,15] ?_
  obtain ⟨⟨p1,p2⟩,H⟩:=Zs H
  have e2:=Z6 h2.wh (gO 0) p1 p2
  refine Zj 9 rfl (Zl e2 p1 p2) ?_
  refine Zj 10 rfl (Zm 0 wI (gO 0) p1 p2) ?_
  obtain ⟨⟨p3,p4⟩,H⟩:=Zs H
  refine Zj 16 rfl (Zl e2 p3 p4) ?_
  refine Zj 17 rfl (Zm 0 wI (gO 0) p3 p4) ?_
  obtain ⟨r1,q1,H⟩:=Zn H
  refine Zp 18 rfl (Zg [] (Q35.spec q1) h2 rfl Zr) ?_
  rintro _ w2 ⟨_,⟨rfl,rfl⟩,h3⟩
  replace h3:=nf h3
  refine ⟨⟨[],h3⟩,?_⟩
  refine Zv [19] ?_
  refine Z0 [0,2,3,8,9,36] ?_
  refine jIf H (fun c3 H=>?_) fun c3 H=>?_
  ·refine Zb [0,2,3,8,9] ?_
   refine J.seq (J.seq ?_)
   refine Zu h3 ?_
   have h4:=h3.drew
   refine Zv [0,1,2,3,6,7,8,9] ?_
   obtain ⟨⟨p5,p6⟩,H⟩:=Zs H
   refine Zj 4 rfl (Zl e2 p5 p6) ?_
   refine Zj 5 rfl (Zm 0 wI (gO 0) p5 p6) ?_
   obtain ⟨⟨p7,p8⟩,H⟩:=Zs H
   refine Zj 10 rfl (Zl e2 p7 p8) ?_
   refine Zj 11 rfl (Zm 0 wI (gO 0) p7 p8) ?_
   obtain ⟨r2,q2,H⟩:=Zn H
   refine Zp 12 rfl (Zg [] (Q35.spec q2) h4 rfl Zr) ?_
   rintro _ w3 ⟨_,⟨rfl,rfl⟩,h5⟩
   replace h5:=nf h5
   refine ⟨⟨[],h5⟩,?_⟩
   refine Zv [13] ?_
   refine Z0 [0,2,3,8,9,52] ?_
   refine jIf H (fun c4 H=>?_) fun c4 H=>?_
   ·refine J.ret ?_
    cases H
    exact ⟨_,_,_,Za,⟨rfl,rfl,e1⟩,Zc h5 [0]⟩
   refine J.skip (J.seq (J.midS (fun env w=>env=[(0,.slice A1 ((x1.set (w64 (a3+x2)).toNat (gt x1 (w64 (a3+(w64 ((w64 ((w64 (2*x2))+1))+1)))))).set (w64 (a3+(w64 ((w64 ((w64 (2*x2))+1))+1)))).toNat (gt x1 (w64 (a3+x2)))).length c_1),(2,.int .i64 a2),(3,.int .i64 a3),(9,.int .i64 (w64 ((w64 ((w64 (2*x2))+1))+1)))]∧St w0 F0 [O33 ((x1.set (w64 (a3+x2)).toNat (gt x1 (w64 (a3+(w64 ((w64 ((w64 (2*x2))+1))+1)))))).set (w64 (a3+(w64 ((w64 ((w64 (2*x2))+1))+1)))).toNat (gt x1 (w64 (a3+x2)))) A1 c_1] [] w) ?_ ?_))
   ·refine Zu (Zc h5 []) ?_
    have h8:=h5.drew
    refine Zv [0,1,2,3,4,5,6,7,8,9,10,11,14,15,16,17] ?_
    refine Zj 12 rfl (Zl e2 p7 p8) ?_
    refine Zj 18 rfl (Zl e2 p5 p6) ?_
    refine HJ.pick [13,19] (i:=13) rfl rfl rfl rfl ?_
    refine (Yi ?_ (Yi ?_ Xj))
    ·refine Z5 13 rfl (OpT.ofq (Zm 0 h8.wht (gO 0) p7 p8)) ?_
     rintro _ _ ⟨rfl,rfl⟩
     replace h8:=nf h8
     refine ⟨⟨[_],h8⟩,?_⟩
     refine Zp 19 rfl (OpT.ofq (Zm 0 h8.wht (gO 0) p5 p6)) ?_
     rintro _ _ ⟨rfl,rfl⟩
     replace h8:=nf h8
     refine ⟨⟨[_],h8⟩,?_⟩
     refine Zj 20 rfl (Zl e2 p5 p6) ?_
     refine Zp 21 rfl (Zq 0 (.int .u32) (w64 (a3+x2)) (gt x1 (w64 (a3+(w64 ((w64 ((w64 (2*x2))+1))+1))))) 0 h8 rfl p5 p6) ?_
     intro _ w6 h9
     replace h9:=nf h9
     refine ⟨⟨[_],h9⟩,?_⟩
     have e5:(x1.set (w64 (a3+x2)).toNat (gt x1 (w64 (a3+(w64 ((w64 ((w64 (2*x2))+1))+1)))))).length=a0.length:=List.length_set.trans e1
     refine Zj 22 rfl (Zl e2 p7 p8) ?_
     refine Zp 23 rfl (Zq 0 (.int .u32) (w64 (a3+(w64 ((w64 ((w64 (2*x2))+1))+1)))) (gt x1 (w64 (a3+x2))) 0 h9 rfl p7 (by simpa only [List.length_set] using p8)) ?_
     intro _ w7 h10
     replace h10:=nf h10
     refine ⟨⟨[_],h10⟩,?_⟩
     have e6:((x1.set (w64 (a3+x2)).toNat (gt x1 (w64 (a3+(w64 ((w64 ((w64 (2*x2))+1))+1)))))).set (w64 (a3+(w64 ((w64 ((w64 (2*x2))+1))+1)))).toNat (gt x1 (w64 (a3+x2)))).length=a0.length:=List.length_set.trans e5
     refine Z0 [0,2,3,9] ?_
     exact Zz ⟨(by simp only [List.length_set,List.length_nil] <;> rfl),((h10.only [0] rfl).rds [] rfl)⟩
    ·refine Z5 19 rfl (OpT.ofq (Zm 0 h8.wht (gO 0) p5 p6)) ?_
     rintro _ _ ⟨rfl,rfl⟩
     replace h8:=nf h8
     refine ⟨⟨[_],h8⟩,?_⟩
     refine Zp 13 rfl (OpT.ofq (Zm 0 h8.wht (gO 0) p7 p8)) ?_
     rintro _ _ ⟨rfl,rfl⟩
     replace h8:=nf h8
     refine ⟨⟨[_],h8⟩,?_⟩
     refine Zj 20 rfl (Zl e2 p5 p6) ?_
     refine Zp 21 rfl (Zq 0 (.int .u32) (w64 (a3+x2)) (gt x1 (w64 (a3+(w64 ((w64 ((w64 (2*x2))+1))+1))))) 0 h8 rfl p5 p6) ?_
     intro _ w8 h11
     replace h11:=nf h11
     refine ⟨⟨[_],h11⟩,?_⟩
     have e7:(x1.set (w64 (a3+x2)).toNat (gt x1 (w64 (a3+(w64 ((w64 ((w64 (2*x2))+1))+1)))))).length=a0.length:=List.length_set.trans e1
     refine Zj 22 rfl (Zl e2 p7 p8) ?_
     refine Zp 23 rfl (Zq 0 (.int .u32) (w64 (a3+(w64 ((w64 ((w64 (2*x2))+1))+1)))) (gt x1 (w64 (a3+x2))) 0 h11 rfl p7 (by simpa only [List.length_set] using p8)) ?_
     intro _ w9 h12
     replace h12:=nf h12
     refine ⟨⟨[_],h12⟩,?_⟩
     have e8:((x1.set (w64 (a3+x2)).toNat (gt x1 (w64 (a3+(w64 ((w64 ((w64 (2*x2))+1))+1)))))).set (w64 (a3+(w64 ((w64 ((w64 (2*x2))+1))+1)))).toNat (gt x1 (w64 (a3+x2)))).length=a0.length:=List.length_set.trans e7
     refine Z0 [0,2,3,9] ?_
     exact Zz ⟨(by simp only [List.length_set,List.length_nil] <;> rfl),((h12.only [0] rfl).rds [] rfl)⟩
   rintro env w10 ⟨rfl,h13⟩
   have e9:((x1.set (w64 (a3+x2)).toNat (gt x1 (w64 (a3+(w64 ((w64 ((w64 (2*x2))+1))+1)))))).set (w64 (a3+(w64 ((w64 ((w64 (2*x2))+1))+1)))).toNat (gt x1 (w64 (a3+x2)))).length=a0.length:=by first | (simp only [List.length_set]; done) | (simp only [List.length_set]; exact e1)
   refine Zb [0,2,3,8] ?_
   have h14:=(sOR h13 [0] [])
   exact ⟨k1,by omega,((x1.set (w64 (a3+x2)).toNat (gt x1 (w64 (a3+(w64 ((w64 ((w64 (2*x2))+1))+1)))))).set (w64 (a3+(w64 ((w64 ((w64 (2*x2))+1))+1)))).toNat (gt x1 (w64 (a3+x2)))),(w64 ((w64 ((w64 (2*x2))+1))+1)),rfl,h14,H,e9⟩
  refine J.skip (J.seq (J.seq ?_))
  refine Zu h3 ?_
  have h15:=h3.drew
  refine Zv [0,1,2,3,6,7,8,9] ?_
  obtain ⟨⟨p9,p10⟩,H⟩:=Zs H
  refine Zj 4 rfl (Zl e2 p9 p10) ?_
  refine Zj 5 rfl (Zm 0 wI (gO 0) p9 p10) ?_
  refine Zj 10 rfl (Zl e2 p1 p2) ?_
  refine Zj 11 rfl (Zm 0 wI (gO 0) p1 p2) ?_
  obtain ⟨r3,q3,H⟩:=Zn H
  refine Zp 12 rfl (Zg [] (Q35.spec q3) h15 rfl Zr) ?_
  rintro _ w11 ⟨_,⟨rfl,rfl⟩,h16⟩
  replace h16:=nf h16
  refine ⟨⟨[],h16⟩,?_⟩
  refine Zv [13] ?_
  refine Z0 [0,2,3,8,9,52] ?_
  refine jIf H (fun c5 H=>?_) fun c5 H=>?_
  ·refine J.ret ?_
   cases H
   exact ⟨_,_,_,Za,⟨rfl,rfl,e1⟩,Zc h16 [0]⟩
  refine J.skip (J.seq (J.midS (fun env w=>env=[(0,.slice A1 ((x1.set (w64 (a3+x2)).toNat (gt x1 (w64 (a3+(w64 ((w64 (2*x2))+1)))))).set (w64 (a3+(w64 ((w64 (2*x2))+1)))).toNat (gt x1 (w64 (a3+x2)))).length c_1),(2,.int .i64 a2),(3,.int .i64 a3),(9,.int .i64 (w64 ((w64 (2*x2))+1)))]∧St w0 F0 [O33 ((x1.set (w64 (a3+x2)).toNat (gt x1 (w64 (a3+(w64 ((w64 (2*x2))+1)))))).set (w64 (a3+(w64 ((w64 (2*x2))+1)))).toNat (gt x1 (w64 (a3+x2)))) A1 c_1] [] w) ?_ ?_))
  ·refine Zu (Zc h16 []) ?_
   have h19:=h16.drew
   refine Zv [0,1,2,3,4,5,6,7,8,9,10,11,14,15,16,17] ?_
   refine Zj 12 rfl (Zl e2 p1 p2) ?_
   refine Zj 18 rfl (Zl e2 p9 p10) ?_
   refine HJ.pick [13,19] (i:=13) rfl rfl rfl rfl ?_
   refine (Yi ?_ (Yi ?_ Xj))
   ·refine Z5 13 rfl (OpT.ofq (Zm 0 h19.wht (gO 0) p1 p2)) ?_
    rintro _ _ ⟨rfl,rfl⟩
    replace h19:=nf h19
    refine ⟨⟨[_],h19⟩,?_⟩
    refine Zp 19 rfl (OpT.ofq (Zm 0 h19.wht (gO 0) p9 p10)) ?_
    rintro _ _ ⟨rfl,rfl⟩
    replace h19:=nf h19
    refine ⟨⟨[_],h19⟩,?_⟩
    refine Zj 20 rfl (Zl e2 p9 p10) ?_
    refine Zp 21 rfl (Zq 0 (.int .u32) (w64 (a3+x2)) (gt x1 (w64 (a3+(w64 ((w64 (2*x2))+1))))) 0 h19 rfl p9 p10) ?_
    intro _ w14 h20
    replace h20:=nf h20
    refine ⟨⟨[_],h20⟩,?_⟩
    have e12:(x1.set (w64 (a3+x2)).toNat (gt x1 (w64 (a3+(w64 ((w64 (2*x2))+1)))))).length=a0.length:=List.length_set.trans e1
    refine Zj 22 rfl (Zl e2 p1 p2) ?_
    refine Zp 23 rfl (Zq 0 (.int .u32) (w64 (a3+(w64 ((w64 (2*x2))+1)))) (gt x1 (w64 (a3+x2))) 0 h20 rfl p1 (by simpa only [List.length_set] using p2)) ?_
    intro _ w15 h21
    replace h21:=nf h21
    refine ⟨⟨[_],h21⟩,?_⟩
    have e13:((x1.set (w64 (a3+x2)).toNat (gt x1 (w64 (a3+(w64 ((w64 (2*x2))+1)))))).set (w64 (a3+(w64 ((w64 (2*x2))+1)))).toNat (gt x1 (w64 (a3+x2)))).length=a0.length:=List.length_set.trans e12
    refine Z0 [0,2,3,9] ?_
    exact Zz ⟨(by simp only [List.length_set,List.length_nil] <;> rfl),((h21.only [0] rfl).rds [] rfl)⟩
   ·refine Z5 19 rfl (OpT.ofq (Zm 0 h19.wht (gO 0) p9 p10)) ?_
    rintro _ _ ⟨rfl,rfl⟩
    replace h19:=nf h19
    refine ⟨⟨[_],h19⟩,?_⟩
    refine Zp 13 rfl (OpT.ofq (Zm 0 h19.wht (gO 0) p1 p2)) ?_
    rintro _ _ ⟨rfl,rfl⟩
    replace h19:=nf h19
    refine ⟨⟨[_],h19⟩,?_⟩
    refine Zj 20 rfl (Zl e2 p9 p10) ?_
    refine Zp 21 rfl (Zq 0 (.int .u32) (w64 (a3+x2)) (gt x1 (w64 (a3+(w64 ((w64 (2*x2))+1))))) 0 h19 rfl p9 p10) ?_
    intro _ w16 h22
    replace h22:=nf h22
    refine ⟨⟨[_],h22⟩,?_⟩
    have e14:(x1.set (w64 (a3+x2)).toNat (gt x1 (w64 (a3+(w64 ((w64 (2*x2))+1)))))).length=a0.length:=List.length_set.trans e1
    refine Zj 22 rfl (Zl e2 p1 p2) ?_
    refine Zp 23 rfl (Zq 0 (.int .u32) (w64 (a3+(w64 ((w64 (2*x2))+1)))) (gt x1 (w64 (a3+x2))) 0 h22 rfl p1 (by simpa only [List.length_set] using p2)) ?_
    intro _ w17 h23
    replace h23:=nf h23
    refine ⟨⟨[_],h23⟩,?_⟩
    have e15:((x1.set (w64 (a3+x2)).toNat (gt x1 (w64 (a3+(w64 ((w64 (2*x2))+1)))))).set (w64 (a3+(w64 ((w64 (2*x2))+1)))).toNat (gt x1 (w64 (a3+x2)))).length=a0.length:=List.length_set.trans e14
    refine Z0 [0,2,3,9] ?_
    exact Zz ⟨(by simp only [List.length_set,List.length_nil] <;> rfl),((h23.only [0] rfl).rds [] rfl)⟩
  rintro env w18 ⟨rfl,h24⟩
  have e16:((x1.set (w64 (a3+x2)).toNat (gt x1 (w64 (a3+(w64 ((w64 (2*x2))+1)))))).set (w64 (a3+(w64 ((w64 (2*x2))+1)))).toNat (gt x1 (w64 (a3+x2)))).length=a0.length:=by first | (simp only [List.length_set]; done) | (simp only [List.length_set]; exact e1)
  refine Zb [0,2,3,8] ?_
  have h25:=(sOR h24 [0] [])
  exact ⟨k1,by omega,((x1.set (w64 (a3+x2)).toNat (gt x1 (w64 (a3+(w64 ((w64 (2*x2))+1)))))).set (w64 (a3+(w64 ((w64 (2*x2))+1)))).toNat (gt x1 (w64 (a3+x2)))),(w64 ((w64 (2*x2))+1)),rfl,h25,H,e16⟩
 refine Zv [5,6,7,8,9,10,11,12,13,14,15,16,17,18,19] ?_
 refine Z0 [0,2,3,8,9,36] ?_
 refine Z4 ?_
 refine J.skip (J.seq (J.seq ?_))
 refine Zu h2 ?_
 have h26:=h2.drew
 refine Zv [0,1,2,3,6,7,8,9] ?_
 obtain ⟨⟨p11,p12⟩,H⟩:=Zs H
 have e17:=Z6 h26.wh (gO 0) p11 p12
 refine Zj 4 rfl (Zl e17 p11 p12) ?_
 refine Zj 5 rfl (Zm 0 wI (gO 0) p11 p12) ?_
 obtain ⟨⟨p13,p14⟩,H⟩:=Zs H
 refine Zj 10 rfl (Zl e17 p13 p14) ?_
 refine Zj 11 rfl (Zm 0 wI (gO 0) p13 p14) ?_
 obtain ⟨r4,q4,H⟩:=Zn H
 refine Zp 12 rfl (Zg [] (Q35.spec q4) h26 rfl Zr) ?_
 rintro _ w19 ⟨_,⟨rfl,rfl⟩,h27⟩
 replace h27:=nf h27
 refine ⟨⟨[],h27⟩,?_⟩
 refine Zv [13] ?_
 refine Z0 [0,2,3,8,9,52] ?_
 refine jIf H (fun c6 H=>?_) fun c6 H=>?_
 ·refine J.ret ?_
  cases H
  exact ⟨_,_,_,Za,⟨rfl,rfl,e1⟩,Zc h27 [0]⟩
 refine J.skip (J.seq (J.midS (fun env w=>env=[(0,.slice A1 ((x1.set (w64 (a3+x2)).toNat (gt x1 (w64 (a3+(w64 ((w64 (2*x2))+1)))))).set (w64 (a3+(w64 ((w64 (2*x2))+1)))).toNat (gt x1 (w64 (a3+x2)))).length c_1),(2,.int .i64 a2),(3,.int .i64 a3),(9,.int .i64 (w64 ((w64 (2*x2))+1)))]∧St w0 F0 [O33 ((x1.set (w64 (a3+x2)).toNat (gt x1 (w64 (a3+(w64 ((w64 (2*x2))+1)))))).set (w64 (a3+(w64 ((w64 (2*x2))+1)))).toNat (gt x1 (w64 (a3+x2)))) A1 c_1] [] w) ?_ ?_))
 ·refine Zu (Zc h27 []) ?_
  have h30:=h27.drew
  refine Zv [0,1,2,3,4,5,6,7,8,9,10,11,14,15,16,17] ?_
  refine Zj 12 rfl (Zl e17 p13 p14) ?_
  refine Zj 18 rfl (Zl e17 p11 p12) ?_
  refine HJ.pick [13,19] (i:=13) rfl rfl rfl rfl ?_
  refine (Yi ?_ (Yi ?_ Xj))
  ·refine Z5 13 rfl (OpT.ofq (Zm 0 h30.wht (gO 0) p13 p14)) ?_
   rintro _ _ ⟨rfl,rfl⟩
   replace h30:=nf h30
   refine ⟨⟨[_],h30⟩,?_⟩
   refine Zp 19 rfl (OpT.ofq (Zm 0 h30.wht (gO 0) p11 p12)) ?_
   rintro _ _ ⟨rfl,rfl⟩
   replace h30:=nf h30
   refine ⟨⟨[_],h30⟩,?_⟩
   refine Zj 20 rfl (Zl e17 p11 p12) ?_
   refine Zp 21 rfl (Zq 0 (.int .u32) (w64 (a3+x2)) (gt x1 (w64 (a3+(w64 ((w64 (2*x2))+1))))) 0 h30 rfl p11 p12) ?_
   intro _ w22 h31
   replace h31:=nf h31
   refine ⟨⟨[_],h31⟩,?_⟩
   have e20:(x1.set (w64 (a3+x2)).toNat (gt x1 (w64 (a3+(w64 ((w64 (2*x2))+1)))))).length=a0.length:=List.length_set.trans e1
   refine Zj 22 rfl (Zl e17 p13 p14) ?_
   refine Zp 23 rfl (Zq 0 (.int .u32) (w64 (a3+(w64 ((w64 (2*x2))+1)))) (gt x1 (w64 (a3+x2))) 0 h31 rfl p13 (by simpa only [List.length_set] using p14)) ?_
   intro _ w23 h32
   replace h32:=nf h32
   refine ⟨⟨[_],h32⟩,?_⟩
   have e21:((x1.set (w64 (a3+x2)).toNat (gt x1 (w64 (a3+(w64 ((w64 (2*x2))+1)))))).set (w64 (a3+(w64 ((w64 (2*x2))+1)))).toNat (gt x1 (w64 (a3+x2)))).length=a0.length:=List.length_set.trans e20
   refine Z0 [0,2,3,9] ?_
   exact Zz ⟨(by simp only [List.length_set,List.length_nil] <;> rfl),((h32.only [0] rfl).rds [] rfl)⟩
  ·refine Z5 19 rfl (OpT.ofq (Zm 0 h30.wht (gO 0) p11 p12)) ?_
   rintro _ _ ⟨rfl,rfl⟩
   replace h30:=nf h30
   refine ⟨⟨[_],h30⟩,?_⟩
   refine Zp 13 rfl (OpT.ofq (Zm 0 h30.wht (gO 0) p13 p14)) ?_
   rintro _ _ ⟨rfl,rfl⟩
   replace h30:=nf h30
   refine ⟨⟨[_],h30⟩,?_⟩
   refine Zj 20 rfl (Zl e17 p11 p12) ?_
   refine Zp 21 rfl (Zq 0 (.int .u32) (w64 (a3+x2)) (gt x1 (w64 (a3+(w64 ((w64 (2*x2))+1))))) 0 h30 rfl p11 p12) ?_
   intro _ w24 h33
   replace h33:=nf h33
   refine ⟨⟨[_],h33⟩,?_⟩
   have e22:(x1.set (w64 (a3+x2)).toNat (gt x1 (w64 (a3+(w64 ((w64 (2*x2))+1)))))).length=a0.length:=List.length_set.trans e1
   refine Zj 22 rfl (Zl e17 p13 p14) ?_
   refine Zp 23 rfl (Zq 0 (.int .u32) (w64 (a3+(w64 ((w64 (2*x2))+1)))) (gt x1 (w64 (a3+x2))) 0 h33 rfl p13 (by simpa only [List.length_set] using p14)) ?_
   intro _ w25 h34
   replace h34:=nf h34
   refine ⟨⟨[_],h34⟩,?_⟩
   have e23:((x1.set (w64 (a3+x2)).toNat (gt x1 (w64 (a3+(w64 ((w64 (2*x2))+1)))))).set (w64 (a3+(w64 ((w64 (2*x2))+1)))).toNat (gt x1 (w64 (a3+x2)))).length=a0.length:=List.length_set.trans e22
   refine Z0 [0,2,3,9] ?_
   exact Zz ⟨(by simp only [List.length_set,List.length_nil] <;> rfl),((h34.only [0] rfl).rds [] rfl)⟩
 rintro env w26 ⟨rfl,h35⟩
 have e24:((x1.set (w64 (a3+x2)).toNat (gt x1 (w64 (a3+(w64 ((w64 (2*x2))+1)))))).set (w64 (a3+(w64 ((w64 (2*x2))+1)))).toNat (gt x1 (w64 (a3+x2)))).length=a0.length:=by first | (simp only [List.length_set]; done) | (simp only [List.length_set]; exact e1)
 refine Zb [0,2,3,8] ?_
 have h36:=(sOR h35 [0] [])
 exact ⟨k1,by omega,((x1.set (w64 (a3+x2)).toNat (gt x1 (w64 (a3+(w64 ((w64 (2*x2))+1)))))).set (w64 (a3+(w64 ((w64 (2*x2))+1)))).toNat (gt x1 (w64 (a3+x2)))),(w64 ((w64 (2*x2))+1)),rfl,h36,H,e24⟩

def Q111.l1:Nat→(Int)→(List (Int))→(Int)→Option (List (Int))
 | 0,_,_,_=>none
 | k+1,a1,x3,x4=>if (decide (0≤x4))=true then (if 0≤(w64 (a1+x4))∧(w64 (a1+x4))<(x3.length:Int) then (if 0≤a1∧a1<(x3.length:Int) then ((Q122.f k ((x3.set a1.toNat (gt x3 (w64 (a1+x4)))).set (w64 (a1+x4)).toNat (gt x3 a1)) 0 x4 a1).bind fun r2=>(Q111.l1 k a1 r2 (w64 (x4 - 1)))) else none) else none) else (some x3)
def Q111.l0:Nat→(Int)→(Int)→(List (Int))→(Int)→Option (List (Int))
 | 0,_,_,_,_=>none
 | k+1,a1,a2,x1,x2=>if (decide (0≤x2))=true then ((Q122.f k x1 x2 (w64 (a2 - a1)) a1).bind fun r1=>(Q111.l0 k a1 a2 r1 (w64 (x2 - 1)))) else (Q111.l1 k a1 x1 (w64 ((w64 (a2 - a1)) - 1)))
def Q111.f (k:Nat) (a0:List (Int)) (a1:Int) (a2:Int):Option (List (Int)):=Q111.l0 k a1 a2 a0 (w64 (Int.tdiv (w64 ((w64 (a2 - a1)) - 1)) 2))
theorem Q111.spec {k:Nat} {a0:List (Int)} {a1:Int} {a2:Int} {A1:Option Addr} {c_1:Nat} {r:List (Int)} (H:Q111.f k a0 a1 a2=some r) :
  Spec Tryz.prog 235 [.slice A1 a0.length c_1,.int .i64 a1,.int .i64 a2] [O33 a0 A1 c_1] [] (fun v l=>v=.tuple #[]∧l=[O33 r A1 c_1]∧r.length=a0.length):=by
 refine Zo Tryz.func235 fun w0 F0 h0=>?_
 unfold Q111.f at H
 refine J.seq (Zb [0,1,2,6] ?_)
 refine J.seq (Zb [0,1,2,6,7] ?_)
 refine J.seq (Zb [0,6,7,8] ?_)
 refine J.seq (J.seq (Zb [0,6,7,8,9] ?_))
 refine J.block ?_
 have h16:=(sOR h0 [0] [])
 refine J.loop (fun kk env w=>∃(x1:List (Int)) (x2:Int),env=[(0,.slice A1 x1.length c_1),(6,.int .i64 a1),(7,.int .i64 0),(8,.int .i64 (w64 (a2 - a1))),(9,.int .i64 x2)]∧St w0 F0 [O33 x1 A1 c_1] [] w∧Q111.l0 kk a1 a2 x1 x2=some r∧x1.length=a0.length) (k:=k) ⟨a0,(w64 (Int.tdiv (w64 ((w64 (a2 - a1)) - 1)) 2)),rfl,h16,H,(rfl:a0.length=a0.length)⟩ ?_
 rintro k1 env w1 ⟨x1,x2,rfl,h1,H,e1⟩
 rcases k1 with _ | k1
 ·exact z0 H
 rw [Q111.l0] at H
 refine J.seq (J.seq (Zb [0,6,7,8,9,19] ?_))
 refine jIf H (fun c1 H=>?_) fun c1 H=>?_
 ·refine J.skip (J.seq (J.block (J.region ?_)))
  refine Zh 4 ?_
  obtain ⟨r1,q1,H⟩:=Zn H
  refine Ze (Zg [0] (Q122.spec q1) h1 rfl Zr) ?_
  rintro _ w2 ⟨_,⟨rfl,rfl,q2⟩,h2⟩
  replace h2:=nf h2
  have e2:r1.length=a0.length:=q2.trans e1
  refine Zi [0,6,7,8,9] rfl ?_
  refine J.envEq (env':=[(0,.slice A1 r1.length c_1),(6,.int .i64 a1),(7,.int .i64 0),(8,.int .i64 (w64 (a2 - a1))),(9,.int .i64 x2)]) (by simp only [q2,List.length_nil] <;> rfl) ?_
  refine Zb [0,6,7,8,9] ?_
  have h3:=(sOR h2 [0] [])
  exact ⟨k1,by omega,r1,(w64 (x2 - 1)),rfl,h3,H,e2⟩
 refine J.exit (J.seq (Zb [0,6,7,10] ?_))
 refine J.block ?_
 have h15:=(sOR h1 [0] [])
 refine J.loop (fun kk env w=>∃(x3:List (Int)) (x4:Int),env=[(0,.slice A1 x3.length c_1),(6,.int .i64 a1),(7,.int .i64 0),(10,.int .i64 x4)]∧St w0 F0 [O33 x3 A1 c_1] [] w∧Q111.l1 kk a1 x3 x4=some r∧x3.length=a0.length) (k:=k1) ⟨x1,(w64 ((w64 (a2 - a1)) - 1)),rfl,h15,H,e1⟩ ?_
 rintro k2 env w3 ⟨x3,x4,rfl,h4,H,e3⟩
 rcases k2 with _ | k2
 ·exact z0 H
 rw [Q111.l1] at H
 refine J.seq (J.seq (Zb [0,6,7,10,30] ?_))
 refine jIf H (fun c2 H=>?_) fun c2 H=>?_
 ·refine J.skip (J.seq (J.block (J.seq ?_)))
  obtain ⟨⟨p1,p2⟩,H⟩:=Zs H
  obtain ⟨⟨p3,p4⟩,H⟩:=Zs H
  refine J.midS (fun env w=>env=[(0,.slice A1 ((x3.set a1.toNat (gt x3 (w64 (a1+x4)))).set (w64 (a1+x4)).toNat (gt x3 a1)).length c_1),(6,.int .i64 a1),(7,.int .i64 0),(10,.int .i64 x4)]∧St w0 F0 [O33 ((x3.set a1.toNat (gt x3 (w64 (a1+x4)))).set (w64 (a1+x4)).toNat (gt x3 a1)) A1 c_1] [] w) ?_ ?_
  ·refine Zu (Zc h4 []) ?_
   have h7:=h4.drew
   refine Zv [0,1,2,3,4,5,6,7,8,9,12,13] ?_
   have e7:=Z6 h7.wh (gO 0) p1 p2
   refine Zj 10 rfl (Zl e7 p1 p2) ?_
   refine Zj 14 rfl (Zl e7 p3 p4) ?_
   refine HJ.pick [11,15] (i:=11) rfl rfl rfl rfl ?_
   refine (Yi ?_ (Yi ?_ Xj))
   ·refine Z5 11 rfl (OpT.ofq (Zm 0 h7.wht (gO 0) p1 p2)) ?_
    rintro _ _ ⟨rfl,rfl⟩
    replace h7:=nf h7
    refine ⟨⟨[_],h7⟩,?_⟩
    refine Zp 15 rfl (OpT.ofq (Zm 0 h7.wht (gO 0) p3 p4)) ?_
    rintro _ _ ⟨rfl,rfl⟩
    replace h7:=nf h7
    refine ⟨⟨[_],h7⟩,?_⟩
    refine Zj 16 rfl (Zl e7 p3 p4) ?_
    refine Zp 17 rfl (Zq 0 (.int .u32) a1 (gt x3 (w64 (a1+x4))) 0 h7 rfl p3 p4) ?_
    intro _ w6 h8
    replace h8:=nf h8
    refine ⟨⟨[_],h8⟩,?_⟩
    have e8:(x3.set a1.toNat (gt x3 (w64 (a1+x4)))).length=a0.length:=List.length_set.trans e3
    refine Zj 18 rfl (Zl e7 p1 p2) ?_
    refine Zp 19 rfl (Zq 0 (.int .u32) (w64 (a1+x4)) (gt x3 a1) 0 h8 rfl p1 (by simpa only [List.length_set] using p2)) ?_
    intro _ w7 h9
    replace h9:=nf h9
    refine ⟨⟨[_],h9⟩,?_⟩
    have e9:((x3.set a1.toNat (gt x3 (w64 (a1+x4)))).set (w64 (a1+x4)).toNat (gt x3 a1)).length=a0.length:=List.length_set.trans e8
    refine Z0 [0,6,7,10] ?_
    exact Zz ⟨(by simp only [List.length_set,List.length_nil] <;> rfl),((h9.only [0] rfl).rds [] rfl)⟩
   ·refine Z5 15 rfl (OpT.ofq (Zm 0 h7.wht (gO 0) p3 p4)) ?_
    rintro _ _ ⟨rfl,rfl⟩
    replace h7:=nf h7
    refine ⟨⟨[_],h7⟩,?_⟩
    refine Zp 11 rfl (OpT.ofq (Zm 0 h7.wht (gO 0) p1 p2)) ?_
    rintro _ _ ⟨rfl,rfl⟩
    replace h7:=nf h7
    refine ⟨⟨[_],h7⟩,?_⟩
    refine Zj 16 rfl (Zl e7 p3 p4) ?_
    refine Zp 17 rfl (Zq 0 (.int .u32) a1 (gt x3 (w64 (a1+x4))) 0 h7 rfl p3 p4) ?_
    intro _ w8 h10
    replace h10:=nf h10
    refine ⟨⟨[_],h10⟩,?_⟩
    have e10:(x3.set a1.toNat (gt x3 (w64 (a1+x4)))).length=a0.length:=List.length_set.trans e3
    refine Zj 18 rfl (Zl e7 p1 p2) ?_
    refine Zp 19 rfl (Zq 0 (.int .u32) (w64 (a1+x4)) (gt x3 a1) 0 h10 rfl p1 (by simpa only [List.length_set] using p2)) ?_
    intro _ w9 h11
    replace h11:=nf h11
    refine ⟨⟨[_],h11⟩,?_⟩
    have e11:((x3.set a1.toNat (gt x3 (w64 (a1+x4)))).set (w64 (a1+x4)).toNat (gt x3 a1)).length=a0.length:=List.length_set.trans e10
    refine Z0 [0,6,7,10] ?_
    exact Zz ⟨(by simp only [List.length_set,List.length_nil] <;> rfl),((h11.only [0] rfl).rds [] rfl)⟩
  rintro env w10 ⟨rfl,h12⟩
  have e12:((x3.set a1.toNat (gt x3 (w64 (a1+x4)))).set (w64 (a1+x4)).toNat (gt x3 a1)).length=a0.length:=by first | (simp only [List.length_set]; done) | (simp only [List.length_set]; exact e3)
  refine J.region (Zh 4 ?_)
  obtain ⟨r2,q3,H⟩:=Zn H
  refine Ze (Zg [0] (Q122.spec q3) h12 rfl Zr) ?_
  rintro _ w11 ⟨_,⟨rfl,rfl,q4⟩,h13⟩
  replace h13:=nf h13
  have e13:r2.length=a0.length:=q4.trans e12
  refine Zi [0,6,7,10] rfl ?_
  refine J.envEq (env':=[(0,.slice A1 r2.length c_1),(6,.int .i64 a1),(7,.int .i64 0),(10,.int .i64 x4)]) (by simp only [q4,List.length_nil] <;> rfl) ?_
  refine Zb [0,6,7,10] ?_
  have h14:=(sOR h13 [0] [])
  exact ⟨k2,by omega,r2,(w64 (x4 - 1)),rfl,h14,H,e13⟩
 refine J.exit ?_
 cases H
 exact ⟨_,_,_,Za,⟨rfl,rfl,e3⟩,Zc h4 [0]⟩

def Q116.f (a0:List (Int)) (a1:Int) (a2:Int) (a3:Int):Option (Int×Int×Int):=if 0≤a2∧a2<(a0.length:Int) then (if 0≤a1∧a1<(a0.length:Int) then ((Q35.f (gt a0 a2) (gt a0 a1)).bind fun r1=>(if r1=true then (some (a2,a1,(w64 (a3+1)))) else (some (a1,a2,a3)))) else none) else none
theorem Q116.spec {a0:List (Int)} {a1:Int} {a2:Int} {a3:Int} {A1:Option Addr} {c_1:Nat} {b1:Nat} {r:Int×Int×Int} (H:Q116.f a0 a1 a2 a3=some r) :
  Spec Tryz.prog 253 [.slice A1 a0.length c_1,.int .i64 a1,.int .i64 a2,.pointer (some ⟨b1,0,none⟩)] [X3 b1 a3] [R33 a0 A1 c_1] (fun v l=>v=.tuple #[.int .i64 r.1,.int .i64 r.2.1]∧l=[X3 b1 r.2.2]):=by
 refine Zo Tryz.func253 fun w0 F0 h0=>?_
 unfold Q116.f at H
 refine J.seq (Zb [0,1,2,3] ?_)
 refine J.seq (J.seq ?_)
 refine Zu h0 ?_
 have h1:=h0.drew
 refine Zv [0,1,4,5] ?_
 obtain ⟨⟨p1,p2⟩,H⟩:=Zs H
 have e1:=Z6 h1.wh (Zk 1) p1 p2
 refine Zj 2 rfl (Zl e1 p1 p2) ?_
 refine Zj 3 rfl (Zm 0 wI (Zk 1) p1 p2) ?_
 obtain ⟨⟨p3,p4⟩,H⟩:=Zs H
 refine Zj 6 rfl (Zl e1 p3 p4) ?_
 refine Zj 7 rfl (Zm 0 wI (Zk 1) p3 p4) ?_
 obtain ⟨r1,q1,H⟩:=Zn H
 refine Zp 8 rfl (Zg [] (Q35.spec q1) h1 rfl Zr) ?_
 rintro _ w1 ⟨_,⟨rfl,rfl⟩,h2⟩
 replace h2:=nf h2
 refine ⟨⟨[],h2⟩,?_⟩
 refine Z0 [1,2,3,18] ?_
 refine jIf H (fun c1 H=>?_) fun c1 H=>?_
 ·refine J.seq (J.region ?_)
  refine Zh 2 ?_
  refine Zf (Zd 0 h2.wht) ?_
  refine Zh 2 ?_
  refine Ze (Z3 0 h2) ?_
  intro _ w2 h3
  replace h3:=nf h3
  refine Zi [1,2] rfl ?_
  refine J.seq (Zb [8,9] ?_)
  refine J.ret ?_
  cases H
  exact ⟨_,_,_,Za,⟨rfl,rfl⟩,Zc h3 [0]⟩
 refine J.skip (J.seq (Zb [8,9] ?_))
 refine J.ret ?_
 cases H
 exact ⟨_,_,_,Za,⟨rfl,rfl⟩,Zc h2 [0]⟩

def Q114.f (a0:List (Int)) (a1:Int) (a2:Int) (a3:Int) (a4:Int):Option (Int×Int):=(Q116.f a0 a1 a2 a4).bind fun r1=>((Q116.f a0 r1.2.1 a3 r1.2.2).bind fun r2=>((Q116.f a0 r1.1 r2.1 r2.2.2).bind fun r3=>(some r3.2)))
theorem Q114.spec {a0:List (Int)} {a1:Int} {a2:Int} {a3:Int} {a4:Int} {A1:Option Addr} {c_1:Nat} {b1:Nat} {r:Int×Int} (H:Q114.f a0 a1 a2 a3 a4=some r) :
  Spec Tryz.prog 251 [.slice A1 a0.length c_1,.int .i64 a1,.int .i64 a2,.int .i64 a3,.pointer (some ⟨b1,0,none⟩)] [X3 b1 a4] [R33 a0 A1 c_1] (fun v l=>v=.int .i64 r.1∧l=[X3 b1 r.2]):=by
 refine Zo Tryz.func251 fun w0 F0 h0=>?_
 unfold Q114.f at H
 refine J.seq (Zb [0,1,2,3,4] ?_)
 refine J.seq (J.region ?_)
 refine Zh 4 ?_
 obtain ⟨r1,q1,H⟩:=Zn H
 refine Ze (Zg [0] (Q116.spec q1) h0 rfl (Zy (Zk 0) Zr)) ?_
 rintro _ w1 ⟨_,⟨rfl,rfl⟩,h1⟩
 replace h1:=nf h1
 refine Zi [0,1,2,3,4] rfl ?_
 refine J.seq (J.region ?_)
 refine Zh 4 ?_
 obtain ⟨r2,q2,H⟩:=Zn H
 refine Ze (Zg [0] (Q116.spec q2) h1 rfl (Zy (Zk 0) Zr)) ?_
 rintro _ w2 ⟨_,⟨rfl,rfl⟩,h2⟩
 replace h2:=nf h2
 refine Zi [0,1,2,4] rfl ?_
 refine J.seq (J.region ?_)
 refine Zh 4 ?_
 obtain ⟨r3,q3,H⟩:=Zn H
 refine Ze (Zg [0] (Q116.spec q3) h2 rfl (Zy (Zk 0) Zr)) ?_
 rintro _ w3 ⟨_,⟨rfl,rfl⟩,h3⟩
 replace h3:=nf h3
 refine Zi [2] rfl ?_
 refine J.seq (Zb [10] ?_)
 refine J.ret ?_
 cases H
 exact ⟨_,_,_,Za,⟨rfl,rfl⟩,Zc h3 [0]⟩

def Q113.f (a0:List (Int)) (a1:Int) (a2:Int):Option (Int×Int):=(Q114.f a0 (w64 (a1 - 1)) a1 (w64 (a1+1)) a2).bind fun r1=>(some r1)
theorem Q113.spec {a0:List (Int)} {a1:Int} {a2:Int} {A1:Option Addr} {c_1:Nat} {b1:Nat} {r:Int×Int} (H:Q113.f a0 a1 a2=some r) :
  Spec Tryz.prog 250 [.slice A1 a0.length c_1,.int .i64 a1,.pointer (some ⟨b1,0,none⟩)] [X3 b1 a2] [R33 a0 A1 c_1] (fun v l=>v=.int .i64 r.1∧l=[X3 b1 r.2]):=by
 refine Zo Tryz.func250 fun w0 F0 h0=>?_
 unfold Q113.f at H
 refine J.seq (Zb [0,1,2] ?_)
 refine J.seq (J.region ?_)
 refine Zh 7 ?_
 obtain ⟨r1,q1,H⟩:=Zn H
 refine Ze (Zg [0] (Q114.spec q1) h0 rfl (Zy (Zk 0) Zr)) ?_
 rintro _ w1 ⟨_,⟨rfl,rfl⟩,h1⟩
 replace h1:=nf h1
 refine Zi [6] rfl ?_
 refine J.ret ?_
 cases H
 exact ⟨_,_,_,Za,⟨rfl,rfl⟩,Zc h1 [0]⟩

def Q110.f (a0:List (Int)) (a1:Int) (a2:Int):Option (Int×Int):=if (decide (8≤(w64 (a2 - a1))))=true then (if (decide (50≤(w64 (a2 - a1))))=true then ((Q113.f a0 (w64 (a1+(w64 ((w64 (Int.tdiv (w64 (a2 - a1)) 4))*1)))) 0).bind fun r1=>((Q113.f a0 (w64 (a1+(w64 ((w64 (Int.tdiv (w64 (a2 - a1)) 4))*2)))) r1.2).bind fun r2=>((Q113.f a0 (w64 (a1+(w64 ((w64 (Int.tdiv (w64 (a2 - a1)) 4))*3)))) r2.2).bind fun r3=>((Q114.f a0 r1.1 r2.1 r3.1 r3.2).bind fun r4=>(if (decide (r4.2=0))=true then (some (r4.1,1)) else (if (decide (r4.2=12))=true then (some (r4.1,2)) else (some (r4.1,0)))))))) else ((Q114.f a0 (w64 (a1+(w64 ((w64 (Int.tdiv (w64 (a2 - a1)) 4))*1)))) (w64 (a1+(w64 ((w64 (Int.tdiv (w64 (a2 - a1)) 4))*2)))) (w64 (a1+(w64 ((w64 (Int.tdiv (w64 (a2 - a1)) 4))*3)))) 0).bind fun r5=>(if (decide (r5.2=0))=true then (some (r5.1,1)) else (if (decide (r5.2=12))=true then (some (r5.1,2)) else (some (r5.1,0)))))) else (some ((w64 (a1+(w64 ((w64 (Int.tdiv (w64 (a2 - a1)) 4))*2)))),1))
theorem Q110.spec {a0:List (Int)} {a1:Int} {a2:Int} {A1:Option Addr} {c_1:Nat} {r:Int×Int} (H:Q110.f a0 a1 a2=some r) :
  Spec Tryz.prog 237 [.slice A1 a0.length c_1,.int .i64 a1,.int .i64 a2] [] [R33 a0 A1 c_1] (fun v l=>v=.tuple #[.int .i64 r.1,.int .i64 r.2]∧l=[]):=by
 refine Zo Tryz.func237 fun w0 F0 h0=>?_
 unfold Q110.f at H
 refine J.seq (Zb [0,1,2] ?_)
 refine J.seq (Zb [0,1,8] ?_)
 refine J.seq (J.region ?_)
 refine Ze (Xf h0) ?_
 rintro _ w1 ⟨b1,rfl,h1⟩
 replace h1:=nf h1
 refine Zi [0,1,8,9] rfl ?_
 refine J.seq (Zb [0,1,8,9,10] ?_)
 refine J.seq (Zb [0,1,8,9,10,11] ?_)
 refine J.seq (Zb [0,8,9,10,11,12] ?_)
 refine J.seq (J.seq (Zb [0,8,9,10,11,12,32] ?_))
 refine jIf H (fun c1 H=>?_) fun c1 H=>?_
 ·refine J.seq (J.seq (Zb [0,9,10,11,12,34] ?_))
  refine jIf H (fun c2 H=>?_) fun c2 H=>?_
  ·refine J.seq (J.region ?_)
   refine Zh 2 ?_
   obtain ⟨r1,q1,H⟩:=Zn H
   refine Ze (Zg [0] (Q113.spec q1) h1 rfl (Zy (Zk 0) Zr)) ?_
   rintro _ w2 ⟨_,⟨rfl,rfl⟩,h2⟩
   replace h2:=nf h2
   refine Zi [0,9,10,11,12] rfl ?_
   refine J.seq (J.region ?_)
   refine Zh 2 ?_
   obtain ⟨r2,q2,H⟩:=Zn H
   refine Ze (Zg [0] (Q113.spec q2) h2 rfl (Zy (Zk 0) Zr)) ?_
   rintro _ w3 ⟨_,⟨rfl,rfl⟩,h3⟩
   replace h3:=nf h3
   refine Zi [0,9,10,11,12] rfl ?_
   refine J.region (Zh 2 ?_)
   obtain ⟨r3,q3,H⟩:=Zn H
   refine Ze (Zg [0] (Q113.spec q3) h3 rfl (Zy (Zk 0) Zr)) ?_
   rintro _ w4 ⟨_,⟨rfl,rfl⟩,h4⟩
   replace h4:=nf h4
   refine Zi [0,9,10,11,12] rfl ?_
   refine J.region (Zh 4 ?_)
   obtain ⟨r4,q4,H⟩:=Zn H
   refine Ze (Zg [0] (Q114.spec q4) h4 rfl (Zy (Zk 0) Zr)) ?_
   rintro _ w5 ⟨_,⟨rfl,rfl⟩,h5⟩
   replace h5:=nf h5
   refine Zi [9,11] rfl ?_
   refine J.seq (J.region ?_)
   refine Zf (Zd 0 h5.wht) ?_
   refine Zi [11,49] rfl ?_
   refine J.block (J.seq (Zb [11,49,51] ?_))
   refine jIf H (fun c3 H=>?_) fun c3 H=>?_
   ·refine J.seq (Zb [6,7] ?_)
    refine J.ret ?_
    cases H
    exact ⟨_,_,_,Za,⟨rfl,rfl⟩,Zc h5 []⟩
   refine J.seq (Zb [11,54] ?_)
   refine jIf H (fun c4 H=>?_) fun c4 H=>?_
   ·refine J.seq (Zb [6,7] ?_)
    refine J.ret ?_
    cases H
    exact ⟨_,_,_,Za,⟨rfl,rfl⟩,Zc h5 []⟩
   refine J.seq (Zb [6,7] ?_)
   refine J.ret ?_
   cases H
   exact ⟨_,_,_,Za,⟨rfl,rfl⟩,Zc h5 []⟩
  refine J.skip (J.region (Zh 4 ?_))
  obtain ⟨r5,q5,H⟩:=Zn H
  refine Ze (Zg [0] (Q114.spec q5) h1 rfl (Zy (Zk 0) Zr)) ?_
  rintro _ w6 ⟨_,⟨rfl,rfl⟩,h6⟩
  replace h6:=nf h6
  refine Zi [9,11] rfl ?_
  refine J.seq (J.region ?_)
  refine Zf (Zd 0 h6.wht) ?_
  refine Zi [11,49] rfl ?_
  refine J.block (J.seq (Zb [11,49,51] ?_))
  refine jIf H (fun c5 H=>?_) fun c5 H=>?_
  ·refine J.seq (Zb [6,7] ?_)
   refine J.ret ?_
   cases H
   exact ⟨_,_,_,Za,⟨rfl,rfl⟩,Zc h6 []⟩
  refine J.seq (Zb [11,54] ?_)
  refine jIf H (fun c6 H=>?_) fun c6 H=>?_
  ·refine J.seq (Zb [6,7] ?_)
   refine J.ret ?_
   cases H
   exact ⟨_,_,_,Za,⟨rfl,rfl⟩,Zc h6 []⟩
  refine J.seq (Zb [6,7] ?_)
  refine J.ret ?_
  cases H
  exact ⟨_,_,_,Za,⟨rfl,rfl⟩,Zc h6 []⟩
 refine J.skip (J.seq (J.region ?_))
 refine Zf (Zd 0 h1.wht) ?_
 refine Zi [11,49] rfl ?_
 refine J.block (J.seq (Zb [11,49,51] ?_))
 refine Zt ?_
 refine J.seq (Zb [6,7] ?_)
 refine J.ret ?_
 cases H
 exact ⟨_,_,_,Za,⟨rfl,rfl⟩,Zc h1 []⟩

def Q121.l0:Nat→(List (Int))→(Int)→(Int)→Option (List (Int))
 | 0,_,_,_=>none
 | k+1,x1,x2,x3=>if (decide (x2<x3))=true then (if 0≤x3∧x3<(x1.length:Int) then (if 0≤x2∧x2<(x1.length:Int) then (Q121.l0 k ((x1.set x2.toNat (gt x1 x3)).set x3.toNat (gt x1 x2)) (w64 (x2+1)) (w64 (x3 - 1))) else none) else none) else (some x1)
def Q121.f (k:Nat) (a0:List (Int)) (a1:Int) (a2:Int):Option (List (Int)):=Q121.l0 k a0 a1 (w64 (a2 - 1))
theorem Q121.spec {k:Nat} {a0:List (Int)} {a1:Int} {a2:Int} {A1:Option Addr} {c_1:Nat} {r:List (Int)} (H:Q121.f k a0 a1 a2=some r) :
  Spec Tryz.prog 238 [.slice A1 a0.length c_1,.int .i64 a1,.int .i64 a2] [O33 a0 A1 c_1] [] (fun v l=>v=.tuple #[]∧l=[O33 r A1 c_1]∧r.length=a0.length):=by
 refine Zo Tryz.func238 fun w0 F0 h0=>?_
 unfold Q121.f at H
 refine J.seq (Zb [0,2,6] ?_)
 refine J.seq (Zb [0,6,7] ?_)
 refine J.block ?_
 have h11:=(sOR h0 [0] [])
 refine J.loop (fun kk env w=>∃(x1:List (Int)) (x2:Int) (x3:Int),env=[(0,.slice A1 x1.length c_1),(6,.int .i64 x2),(7,.int .i64 x3)]∧St w0 F0 [O33 x1 A1 c_1] [] w∧Q121.l0 kk x1 x2 x3=some r∧x1.length=a0.length) (k:=k) ⟨a0,a1,(w64 (a2 - 1)),rfl,h11,H,(rfl:a0.length=a0.length)⟩ ?_
 rintro k1 env w1 ⟨x1,x2,x3,rfl,h1,H,e1⟩
 rcases k1 with _ | k1
 ·exact z0 H
 rw [Q121.l0] at H
 refine J.seq (J.seq (Zb [0,6,7,13] ?_))
 refine jIf H (fun c1 H=>?_) fun c1 H=>?_
 ·refine J.skip (J.block (J.seq ?_))
  obtain ⟨⟨p1,p2⟩,H⟩:=Zs H
  obtain ⟨⟨p3,p4⟩,H⟩:=Zs H
  refine J.midS (fun env w=>env=[(0,.slice A1 ((x1.set x2.toNat (gt x1 x3)).set x3.toNat (gt x1 x2)).length c_1),(6,.int .i64 x2),(7,.int .i64 x3)]∧St w0 F0 [O33 ((x1.set x2.toNat (gt x1 x3)).set x3.toNat (gt x1 x2)) A1 c_1] [] w) ?_ ?_
  ·refine Zu (Zc h1 []) ?_
   have h4:=h1.drew
   refine Zv [0,1,2,3,4,5,8,9] ?_
   have e5:=Z6 h4.wh (gO 0) p1 p2
   refine Zj 6 rfl (Zl e5 p1 p2) ?_
   refine Zj 10 rfl (Zl e5 p3 p4) ?_
   refine HJ.pick [7,11] (i:=7) rfl rfl rfl rfl ?_
   refine (Yi ?_ (Yi ?_ Xj))
   ·refine Z5 7 rfl (OpT.ofq (Zm 0 h4.wht (gO 0) p1 p2)) ?_
    rintro _ _ ⟨rfl,rfl⟩
    replace h4:=nf h4
    refine ⟨⟨[_],h4⟩,?_⟩
    refine Zp 11 rfl (OpT.ofq (Zm 0 h4.wht (gO 0) p3 p4)) ?_
    rintro _ _ ⟨rfl,rfl⟩
    replace h4:=nf h4
    refine ⟨⟨[_],h4⟩,?_⟩
    refine Zj 12 rfl (Zl e5 p3 p4) ?_
    refine Zp 13 rfl (Zq 0 (.int .u32) x2 (gt x1 x3) 0 h4 rfl p3 p4) ?_
    intro _ w4 h5
    replace h5:=nf h5
    refine ⟨⟨[_],h5⟩,?_⟩
    have e6:(x1.set x2.toNat (gt x1 x3)).length=a0.length:=List.length_set.trans e1
    refine Zj 14 rfl (Zl e5 p1 p2) ?_
    refine Zp 15 rfl (Zq 0 (.int .u32) x3 (gt x1 x2) 0 h5 rfl p1 (by simpa only [List.length_set] using p2)) ?_
    intro _ w5 h6
    replace h6:=nf h6
    refine ⟨⟨[_],h6⟩,?_⟩
    have e7:((x1.set x2.toNat (gt x1 x3)).set x3.toNat (gt x1 x2)).length=a0.length:=List.length_set.trans e6
    refine Z0 [0,6,7] ?_
    exact Zz ⟨(by simp only [List.length_set,List.length_nil] <;> rfl),((h6.only [0] rfl).rds [] rfl)⟩
   ·refine Z5 11 rfl (OpT.ofq (Zm 0 h4.wht (gO 0) p3 p4)) ?_
    rintro _ _ ⟨rfl,rfl⟩
    replace h4:=nf h4
    refine ⟨⟨[_],h4⟩,?_⟩
    refine Zp 7 rfl (OpT.ofq (Zm 0 h4.wht (gO 0) p1 p2)) ?_
    rintro _ _ ⟨rfl,rfl⟩
    replace h4:=nf h4
    refine ⟨⟨[_],h4⟩,?_⟩
    refine Zj 12 rfl (Zl e5 p3 p4) ?_
    refine Zp 13 rfl (Zq 0 (.int .u32) x2 (gt x1 x3) 0 h4 rfl p3 p4) ?_
    intro _ w6 h7
    replace h7:=nf h7
    refine ⟨⟨[_],h7⟩,?_⟩
    have e8:(x1.set x2.toNat (gt x1 x3)).length=a0.length:=List.length_set.trans e1
    refine Zj 14 rfl (Zl e5 p1 p2) ?_
    refine Zp 15 rfl (Zq 0 (.int .u32) x3 (gt x1 x2) 0 h7 rfl p1 (by simpa only [List.length_set] using p2)) ?_
    intro _ w7 h8
    replace h8:=nf h8
    refine ⟨⟨[_],h8⟩,?_⟩
    have e9:((x1.set x2.toNat (gt x1 x3)).set x3.toNat (gt x1 x2)).length=a0.length:=List.length_set.trans e8
    refine Z0 [0,6,7] ?_
    exact Zz ⟨(by simp only [List.length_set,List.length_nil] <;> rfl),((h8.only [0] rfl).rds [] rfl)⟩
  rintro env w8 ⟨rfl,h9⟩
  have e10:((x1.set x2.toNat (gt x1 x3)).set x3.toNat (gt x1 x2)).length=a0.length:=by first | (simp only [List.length_set]; done) | (simp only [List.length_set]; exact e1)
  refine J.seq (Zb [0,6,7] ?_)
  refine Zb [0,6,7] ?_
  have h10:=(sOR h9 [0] [])
  exact ⟨k1,by omega,((x1.set x2.toNat (gt x1 x3)).set x3.toNat (gt x1 x2)),(w64 (x2+1)),(w64 (x3 - 1)),rfl,h10,H,e10⟩
 refine J.exit ?_
 cases H
 exact ⟨_,_,_,Za,⟨rfl,rfl,e1⟩,Zc h1 [0]⟩

mutual
def Q117.l0:Nat→(Int)→(Int)→(List (Int))→(Int)→(Int)→Option (Bool×List (Int))
 | 0,_,_,_,_,_=>none
 | k+1,a1,a2,x1,x2,x3=>if (decide (x3<5))=true then (Q117.l3 k a1 a2 x1 x3 x2) else (some (false,x1))
def Q117.l1:Nat→(Int)→(Int)→(Int)→(Int)→(List (Int))→(Int)→Option (Bool×List (Int))
 | 0,_,_,_,_,_,_=>none
 | k+1,a1,a2,x3,x6,x9,x10=>if (decide (x10<a2))=true then (if 0≤x10∧x10<(x9.length:Int) then (if 0≤(w64 (x10 - 1))∧(w64 (x10 - 1))<(x9.length:Int) then ((Q35.f (gt x9 x10) (gt x9 (w64 (x10 - 1)))).bind fun r1=>(if (!r1)=true then (Q117.l0 k a1 a2 x9 x6 (w64 (x3+1))) else (Q117.l1 k a1 a2 x3 x6 ((x9.set x10.toNat (gt x9 (w64 (x10 - 1)))).set (w64 (x10 - 1)).toNat (gt x9 x10)) (w64 (x10+1))))) else none) else none) else (Q117.l0 k a1 a2 x9 x6 (w64 (x3+1)))
def Q117.l2:Nat→(Int)→(Int)→(Int)→(Int)→(List (Int))→(Int)→Option (Bool×List (Int))
 | 0,_,_,_,_,_,_=>none
 | k+1,a1,a2,x3,x6,x11,x12=>if (decide (1≤x12))=true then (if 0≤x12∧x12<(x11.length:Int) then (if 0≤(w64 (x12 - 1))∧(w64 (x12 - 1))<(x11.length:Int) then ((Q35.f (gt x11 x12) (gt x11 (w64 (x12 - 1)))).bind fun r2=>(if (!r2)=true then (if (decide (2≤(w64 (a2 - x6))))=true then (Q117.l1 k a1 a2 x3 x6 x11 (w64 (x6+1))) else (Q117.l0 k a1 a2 x11 x6 (w64 (x3+1)))) else (Q117.l2 k a1 a2 x3 x6 ((x11.set x12.toNat (gt x11 (w64 (x12 - 1)))).set (w64 (x12 - 1)).toNat (gt x11 x12)) (w64 (x12 - 1))))) else none) else none) else (if (decide (2≤(w64 (a2 - x6))))=true then (Q117.l1 k a1 a2 x3 x6 x11 (w64 (x6+1))) else (Q117.l0 k a1 a2 x11 x6 (w64 (x3+1))))
def Q117.l3:Nat→(Int)→(Int)→(List (Int))→(Int)→(Int)→Option (Bool×List (Int))
 | 0,_,_,_,_,_=>none
 | k+1,a1,a2,x1,x3,x13=>if (decide (x13<a2))=true then (if 0≤x13∧x13<(x1.length:Int) then (if 0≤(w64 (x13 - 1))∧(w64 (x13 - 1))<(x1.length:Int) then ((Q35.f (gt x1 x13) (gt x1 (w64 (x13 - 1)))).bind fun r3=>(if (!r3)=true then (Q117.l3 k a1 a2 x1 x3 (w64 (x13+1))) else (if (decide (x13=a2))=true then (some (true,x1)) else (if (decide ((w64 (a2 - a1))<50))=true then (some (false,x1)) else (if 0≤(w64 (x13 - 1))∧(w64 (x13 - 1))<(x1.length:Int) then (if 0≤x13∧x13<(x1.length:Int) then (if (decide (2≤(w64 (x13 - a1))))=true then (Q117.l2 k a1 a2 x3 x13 ((x1.set x13.toNat (gt x1 (w64 (x13 - 1)))).set (w64 (x13 - 1)).toNat (gt x1 x13)) (w64 (x13 - 1))) else (if (decide (2≤(w64 (a2 - x13))))=true then (Q117.l1 k a1 a2 x3 x13 ((x1.set x13.toNat (gt x1 (w64 (x13 - 1)))).set (w64 (x13 - 1)).toNat (gt x1 x13)) (w64 (x13+1))) else (Q117.l0 k a1 a2 ((x1.set x13.toNat (gt x1 (w64 (x13 - 1)))).set (w64 (x13 - 1)).toNat (gt x1 x13)) x13 (w64 (x3+1))))) else none) else none))))) else none) else none) else (if (decide (x13=a2))=true then (some (true,x1)) else (if (decide ((w64 (a2 - a1))<50))=true then (some (false,x1)) else (if 0≤(w64 (x13 - 1))∧(w64 (x13 - 1))<(x1.length:Int) then (if 0≤x13∧x13<(x1.length:Int) then (if (decide (2≤(w64 (x13 - a1))))=true then (Q117.l2 k a1 a2 x3 x13 ((x1.set x13.toNat (gt x1 (w64 (x13 - 1)))).set (w64 (x13 - 1)).toNat (gt x1 x13)) (w64 (x13 - 1))) else (if (decide (2≤(w64 (a2 - x13))))=true then (Q117.l1 k a1 a2 x3 x13 ((x1.set x13.toNat (gt x1 (w64 (x13 - 1)))).set (w64 (x13 - 1)).toNat (gt x1 x13)) (w64 (x13+1))) else (Q117.l0 k a1 a2 ((x1.set x13.toNat (gt x1 (w64 (x13 - 1)))).set (w64 (x13 - 1)).toNat (gt x1 x13)) x13 (w64 (x3+1))))) else none) else none)))
end
def Q117.f (k:Nat) (a0:List (Int)) (a1:Int) (a2:Int):Option (Bool×List (Int)):=Q117.l0 k a1 a2 a0 (w64 (a1+1)) 0
theorem Q117.spec {k:Nat} {a0:List (Int)} {a1:Int} {a2:Int} {A1:Option Addr} {c_1:Nat} {r:Bool×List (Int)} (H:Q117.f k a0 a1 a2=some r) :
  Spec Tryz.prog 239 [.slice A1 a0.length c_1,.int .i64 a1,.int .i64 a2] [O33 a0 A1 c_1] [] (fun v l=>v=.bool r.1∧l=[O33 r.2 A1 c_1]∧r.2.length=a0.length):=by
 refine Zo Tryz.func239 fun w0 F0 h0=>?_
 unfold Q117.f at H
 refine J.seq (Zb [0,1,2] ?_)
 refine J.seq (Zb [0,1,2,7] ?_)
 refine J.seq (J.seq (Zb [0,1,2,7,8] ?_))
 refine J.block ?_
 have h53:=(sOR h0 [0] [])
 refine J.loop (fun kk env w=>∃(x1:List (Int)) (x2:Int) (x3:Int),env=[(0,.slice A1 x1.length c_1),(1,.int .i64 a1),(2,.int .i64 a2),(7,.int .i64 x2),(8,.int .i64 x3)]∧St w0 F0 [O33 x1 A1 c_1] [] w∧Q117.l0 kk a1 a2 x1 x2 x3=some r∧x1.length=a0.length) (k:=k) ⟨a0,(w64 (a1+1)),0,rfl,h53,H,(rfl:a0.length=a0.length)⟩ ?_
 rintro k1 env w1 ⟨x1,x2,x3,rfl,h1,H,e1⟩
 rcases k1 with _ | k1
 ·exact z0 H
 rw [Q117.l0] at H
 refine J.seq (J.seq (Zb [0,1,2,7,8,14] ?_))
 refine jIf H (fun c1 H=>?_) fun c1 H=>?_
 ·refine J.skip (J.seq (J.midS (fun env w=>∃(k2:Nat) (x4:List (Int)) (x5:Int),env=[(0,.slice A1 x4.length c_1),(1,.int .i64 a1),(2,.int .i64 a2),(7,.int .i64 x5),(8,.int .i64 x3)]∧St w0 F0 [O33 x4 A1 c_1] [] w∧(Q117.l0 k2 a1 a2 x4 x5 (w64 (x3+1)))=some r∧k2≤k1∧x4.length=a0.length) ?_ ?_))
  ·refine J.block (J.seq ?_)
   refine J.midS (fun env w=>∃(k3:Nat) (x6:Int) (x7:Bool),env=[(0,.slice A1 x1.length c_1),(1,.int .i64 a1),(2,.int .i64 a2),(7,.int .i64 x6),(8,.int .i64 x3),(32,.bool x7)]∧St w0 F0 [O33 x1 A1 c_1] [] w∧(if (decide (x6=a2))=true then (some (true,x1)) else (if (decide ((w64 (a2 - a1))<50))=true then (some (false,x1)) else (if 0≤(w64 (x6 - 1))∧(w64 (x6 - 1))<(x1.length:Int) then (if 0≤x6∧x6<(x1.length:Int) then (if (decide (2≤(w64 (x6 - a1))))=true then (Q117.l2 k3 a1 a2 x3 x6 ((x1.set x6.toNat (gt x1 (w64 (x6 - 1)))).set (w64 (x6 - 1)).toNat (gt x1 x6)) (w64 (x6 - 1))) else (if (decide (2≤(w64 (a2 - x6))))=true then (Q117.l1 k3 a1 a2 x3 x6 ((x1.set x6.toNat (gt x1 (w64 (x6 - 1)))).set (w64 (x6 - 1)).toNat (gt x1 x6)) (w64 (x6+1))) else (Q117.l0 k3 a1 a2 ((x1.set x6.toNat (gt x1 (w64 (x6 - 1)))).set (w64 (x6 - 1)).toNat (gt x1 x6)) x6 (w64 (x3+1))))) else none) else none)))=some r∧k3≤k1) ?_ ?_
   ·refine J.block (Xz [0,1,2,7,8] ?_)
    have h52:=(sOR h1 [0] [])
    refine J.loop (fun kk env w=>∃(x13:Int),env=[(0,.slice A1 x1.length c_1),(1,.int .i64 a1),(2,.int .i64 a2),(7,.int .i64 x13),(8,.int .i64 x3)]∧St w0 F0 [O33 x1 A1 c_1] [] w∧Q117.l3 kk a1 a2 x1 x3 x13=some r∧kk≤k1) (k:=k1) ⟨x2,rfl,h52,H,Nat.le_refl _⟩ ?_
    rintro k7 env w33 ⟨x13,rfl,h46,H,hk7⟩
    rcases k7 with _ | k7
    ·exact z0 H
    rw [Q117.l3] at H
    refine J.seq (J.seq ?_)
    refine Zu h46 ?_
    have h47:=h46.drew
    refine Zv [0,1,2,3] ?_
    refine Xy 20 H (fun c10 H=>?_) fun c10 H=>?_
    ·refine Zv [4,5,8,9,10] ?_
     obtain ⟨⟨p13,p14⟩,H⟩:=Zs H
     have e31:=Z6 h47.wh (gO 0) p13 p14
     refine Zj 6 rfl (Zl e31 p13 p14) ?_
     refine Zj 7 rfl (Zm 0 wI (gO 0) p13 p14) ?_
     obtain ⟨⟨p15,p16⟩,H⟩:=Zs H
     refine Zj 11 rfl (Zl e31 p15 p16) ?_
     refine Zj 12 rfl (Zm 0 wI (gO 0) p15 p16) ?_
     obtain ⟨r3,q3,H⟩:=Zn H
     refine Zp 13 rfl (Zg [] (Q35.spec q3) h47 rfl Zr) ?_
     rintro _ w34 ⟨_,⟨rfl,rfl⟩,h48⟩
     replace h48:=nf h48
     refine ⟨⟨[],h48⟩,?_⟩
     refine Zv [14,15] ?_
     refine Z0 [0,1,2,7,8,32] ?_
     refine jIf H (fun c11 H=>?_) fun c11 H=>?_
     ·refine J.skip (J.block (Zb [0,1,2,7,8] ?_))
      have h49:=(sOR h48 [0] [])
      exact ⟨k7,by omega,(w64 (x13+1)),rfl,h49,H,by omega⟩
     refine J.exit ?_
     have h50:=(sOR h48 [0] [])
     exact ⟨k7,x13,(!r3),rfl,h50,H,by omega⟩
    refine Zv [4,5,6,7,8,9,10,11,12,13,14,15] ?_
    refine Z0 [0,1,2,7,8,32] ?_
    refine Z4 ?_
    refine J.exit ?_
    have h51:=(sOR h47 [0] [])
    exact ⟨k7,x13,false,rfl,h51,H,by omega⟩
   rintro env w5 ⟨k3,x6,x7,rfl,h4,H,hk3⟩
   refine J.seq (J.seq (Zb [0,1,2,7,8,37] ?_))
   refine jIf H (fun c2 H=>?_) fun c2 H=>?_
   ·refine J.seq (Zb [6] ?_)
    refine J.ret ?_
    cases H
    exact ⟨_,_,_,Za,⟨rfl,rfl,e1⟩,Zc h4 [0]⟩
   refine J.skip (J.seq (J.seq (Zb [0,1,2,7,8,41] ?_)))
   refine jIf H (fun c3 H=>?_) fun c3 H=>?_
   ·refine J.seq (Zb [6] ?_)
    refine J.ret ?_
    cases H
    exact ⟨_,_,_,Za,⟨rfl,rfl,e1⟩,Zc h4 [0]⟩
   refine J.skip (J.seq ?_)
   obtain ⟨⟨p1,p2⟩,H⟩:=Zs H
   obtain ⟨⟨p3,p4⟩,H⟩:=Zs H
   refine J.midS (fun env w=>env=[(0,.slice A1 ((x1.set x6.toNat (gt x1 (w64 (x6 - 1)))).set (w64 (x6 - 1)).toNat (gt x1 x6)).length c_1),(1,.int .i64 a1),(2,.int .i64 a2),(7,.int .i64 x6),(8,.int .i64 x3)]∧St w0 F0 [O33 ((x1.set x6.toNat (gt x1 (w64 (x6 - 1)))).set (w64 (x6 - 1)).toNat (gt x1 x6)) A1 c_1] [] w) ?_ ?_
   ·refine Zu (Zc h4 []) ?_
    have h7:=h4.drew
    refine Zv [0,1,2,3,4,5,6,7,10,11] ?_
    have e6:=Z6 h7.wh (gO 0) p1 p2
    refine Zj 8 rfl (Zl e6 p1 p2) ?_
    refine Zj 12 rfl (Zl e6 p3 p4) ?_
    refine HJ.pick [9,13] (i:=9) rfl rfl rfl rfl ?_
    refine (Yi ?_ (Yi ?_ Xj))
    ·refine Z5 9 rfl (OpT.ofq (Zm 0 h7.wht (gO 0) p1 p2)) ?_
     rintro _ _ ⟨rfl,rfl⟩
     replace h7:=nf h7
     refine ⟨⟨[_],h7⟩,?_⟩
     refine Zp 13 rfl (OpT.ofq (Zm 0 h7.wht (gO 0) p3 p4)) ?_
     rintro _ _ ⟨rfl,rfl⟩
     replace h7:=nf h7
     refine ⟨⟨[_],h7⟩,?_⟩
     refine Zj 14 rfl (Zl e6 p3 p4) ?_
     refine Zp 15 rfl (Zq 0 (.int .u32) x6 (gt x1 (w64 (x6 - 1))) 0 h7 rfl p3 p4) ?_
     intro _ w8 h8
     replace h8:=nf h8
     refine ⟨⟨[_],h8⟩,?_⟩
     have e7:(x1.set x6.toNat (gt x1 (w64 (x6 - 1)))).length=a0.length:=List.length_set.trans e1
     refine Zj 16 rfl (Zl e6 p1 p2) ?_
     refine Zp 17 rfl (Zq 0 (.int .u32) (w64 (x6 - 1)) (gt x1 x6) 0 h8 rfl p1 (by simpa only [List.length_set] using p2)) ?_
     intro _ w9 h9
     replace h9:=nf h9
     refine ⟨⟨[_],h9⟩,?_⟩
     have e8:((x1.set x6.toNat (gt x1 (w64 (x6 - 1)))).set (w64 (x6 - 1)).toNat (gt x1 x6)).length=a0.length:=List.length_set.trans e7
     refine Z0 [0,1,2,7,8] ?_
     exact Zz ⟨(by simp only [List.length_set,List.length_nil] <;> rfl),((h9.only [0] rfl).rds [] rfl)⟩
    ·refine Z5 13 rfl (OpT.ofq (Zm 0 h7.wht (gO 0) p3 p4)) ?_
     rintro _ _ ⟨rfl,rfl⟩
     replace h7:=nf h7
     refine ⟨⟨[_],h7⟩,?_⟩
     refine Zp 9 rfl (OpT.ofq (Zm 0 h7.wht (gO 0) p1 p2)) ?_
     rintro _ _ ⟨rfl,rfl⟩
     replace h7:=nf h7
     refine ⟨⟨[_],h7⟩,?_⟩
     refine Zj 14 rfl (Zl e6 p3 p4) ?_
     refine Zp 15 rfl (Zq 0 (.int .u32) x6 (gt x1 (w64 (x6 - 1))) 0 h7 rfl p3 p4) ?_
     intro _ w10 h10
     replace h10:=nf h10
     refine ⟨⟨[_],h10⟩,?_⟩
     have e9:(x1.set x6.toNat (gt x1 (w64 (x6 - 1)))).length=a0.length:=List.length_set.trans e1
     refine Zj 16 rfl (Zl e6 p1 p2) ?_
     refine Zp 17 rfl (Zq 0 (.int .u32) (w64 (x6 - 1)) (gt x1 x6) 0 h10 rfl p1 (by simpa only [List.length_set] using p2)) ?_
     intro _ w11 h11
     replace h11:=nf h11
     refine ⟨⟨[_],h11⟩,?_⟩
     have e10:((x1.set x6.toNat (gt x1 (w64 (x6 - 1)))).set (w64 (x6 - 1)).toNat (gt x1 x6)).length=a0.length:=List.length_set.trans e9
     refine Z0 [0,1,2,7,8] ?_
     exact Zz ⟨(by simp only [List.length_set,List.length_nil] <;> rfl),((h11.only [0] rfl).rds [] rfl)⟩
   rintro env w12 ⟨rfl,h12⟩
   have e11:((x1.set x6.toNat (gt x1 (w64 (x6 - 1)))).set (w64 (x6 - 1)).toNat (gt x1 x6)).length=a0.length:=by first | (simp only [List.length_set]; done) | (simp only [List.length_set]; exact e1)
   refine J.seq (J.seq (Zb [0,1,2,7,8,61] ?_))
   refine J.midS (fun env w=>∃(k4:Nat) (x8:List (Int)),env=[(0,.slice A1 x8.length c_1),(1,.int .i64 a1),(2,.int .i64 a2),(7,.int .i64 x6),(8,.int .i64 x3)]∧St w0 F0 [O33 x8 A1 c_1] [] w∧(if (decide (2≤(w64 (a2 - x6))))=true then (Q117.l1 k4 a1 a2 x3 x6 x8 (w64 (x6+1))) else (Q117.l0 k4 a1 a2 x8 x6 (w64 (x3+1))))=some r∧k4≤k3∧x8.length=a0.length) ?_ ?_
   ·refine jIf H (fun c7 H=>?_) fun c7 H=>?_
    ·refine J.seq (Zb [0,1,2,7,8,9] ?_)
     refine J.block ?_
     have h44:=(sOR h12 [0] [])
     refine J.loop (fun kk env w=>∃(x11:List (Int)) (x12:Int),env=[(0,.slice A1 x11.length c_1),(1,.int .i64 a1),(2,.int .i64 a2),(7,.int .i64 x6),(8,.int .i64 x3),(9,.int .i64 x12)]∧St w0 F0 [O33 x11 A1 c_1] [] w∧Q117.l2 kk a1 a2 x3 x6 x11 x12=some r∧kk≤k3∧x11.length=a0.length) (k:=k3) ⟨((x1.set x6.toNat (gt x1 (w64 (x6 - 1)))).set (w64 (x6 - 1)).toNat (gt x1 x6)),(w64 (x6 - 1)),rfl,h44,H,Nat.le_refl _,e11⟩ ?_
     rintro k6 env w24 ⟨x11,x12,rfl,h30,H,hk6,e22⟩
     rcases k6 with _ | k6
     ·exact z0 H
     rw [Q117.l2] at H
     refine J.seq (J.seq (Zb [0,1,2,7,8,9,65] ?_))
     refine jIf H (fun c8 H=>?_) fun c8 H=>?_
     ·refine J.skip (J.seq (J.block (J.seq (J.seq ?_))))
      refine Zu h30 ?_
      have h31:=h30.drew
      refine Zv [0,1,4,5,6] ?_
      obtain ⟨⟨p9,p10⟩,H⟩:=Zs H
      have e23:=Z6 h31.wh (gO 0) p9 p10
      refine Zj 2 rfl (Zl e23 p9 p10) ?_
      refine Zj 3 rfl (Zm 0 wI (gO 0) p9 p10) ?_
      obtain ⟨⟨p11,p12⟩,H⟩:=Zs H
      refine Zj 7 rfl (Zl e23 p11 p12) ?_
      refine Zj 8 rfl (Zm 0 wI (gO 0) p11 p12) ?_
      obtain ⟨r2,q2,H⟩:=Zn H
      refine Zp 9 rfl (Zg [] (Q35.spec q2) h31 rfl Zr) ?_
      rintro _ w25 ⟨_,⟨rfl,rfl⟩,h32⟩
      replace h32:=nf h32
      refine ⟨⟨[],h32⟩,?_⟩
      refine Zv [10] ?_
      refine Z0 [0,1,2,7,8,9,78] ?_
      refine jIf H (fun c9 H=>?_) fun c9 H=>?_
      ·refine Xz [0,1,2,7,8] ?_
       refine J.exit ?_
       have h33:=(sOR h32 [0] [])
       exact ⟨k6,x11,rfl,h33,H,by omega,e22⟩
      refine J.skip (J.mid (fun env w=>env=[(0,.slice A1 ((x11.set x12.toNat (gt x11 (w64 (x12 - 1)))).set (w64 (x12 - 1)).toNat (gt x11 x12)).length c_1),(1,.int .i64 a1),(2,.int .i64 a2),(7,.int .i64 x6),(8,.int .i64 x3),(9,.int .i64 x12)]∧St w0 F0 [O33 ((x11.set x12.toNat (gt x11 (w64 (x12 - 1)))).set (w64 (x12 - 1)).toNat (gt x11 x12)) A1 c_1] [] w) ?_ ?_)
      ·refine Zu (Zc h32 []) ?_
       have h36:=h32.drew
       refine Zv [0,1,2,3,4,5,6,7,10,11] ?_
       refine Zj 8 rfl (Zl e23 p11 p12) ?_
       refine Zj 12 rfl (Zl e23 p9 p10) ?_
       refine HJ.pick [9,13] (i:=9) rfl rfl rfl rfl ?_
       refine (Yi ?_ (Yi ?_ Xj))
       ·refine Z5 9 rfl (OpT.ofq (Zm 0 h36.wht (gO 0) p11 p12)) ?_
        rintro _ _ ⟨rfl,rfl⟩
        replace h36:=nf h36
        refine ⟨⟨[_],h36⟩,?_⟩
        refine Zp 13 rfl (OpT.ofq (Zm 0 h36.wht (gO 0) p9 p10)) ?_
        rintro _ _ ⟨rfl,rfl⟩
        replace h36:=nf h36
        refine ⟨⟨[_],h36⟩,?_⟩
        refine Zj 14 rfl (Zl e23 p9 p10) ?_
        refine Zp 15 rfl (Zq 0 (.int .u32) x12 (gt x11 (w64 (x12 - 1))) 0 h36 rfl p9 p10) ?_
        intro _ w28 h37
        replace h37:=nf h37
        refine ⟨⟨[_],h37⟩,?_⟩
        have e26:(x11.set x12.toNat (gt x11 (w64 (x12 - 1)))).length=a0.length:=List.length_set.trans e22
        refine Zj 16 rfl (Zl e23 p11 p12) ?_
        refine Zp 17 rfl (Zq 0 (.int .u32) (w64 (x12 - 1)) (gt x11 x12) 0 h37 rfl p11 (by simpa only [List.length_set] using p12)) ?_
        intro _ w29 h38
        replace h38:=nf h38
        refine ⟨⟨[_],h38⟩,?_⟩
        have e27:((x11.set x12.toNat (gt x11 (w64 (x12 - 1)))).set (w64 (x12 - 1)).toNat (gt x11 x12)).length=a0.length:=List.length_set.trans e26
        refine Z0 [0,1,2,7,8,9] ?_
        exact Zz ⟨(by simp only [List.length_set,List.length_nil] <;> rfl),((h38.only [0] rfl).rds [] rfl)⟩
       ·refine Z5 13 rfl (OpT.ofq (Zm 0 h36.wht (gO 0) p9 p10)) ?_
        rintro _ _ ⟨rfl,rfl⟩
        replace h36:=nf h36
        refine ⟨⟨[_],h36⟩,?_⟩
        refine Zp 9 rfl (OpT.ofq (Zm 0 h36.wht (gO 0) p11 p12)) ?_
        rintro _ _ ⟨rfl,rfl⟩
        replace h36:=nf h36
        refine ⟨⟨[_],h36⟩,?_⟩
        refine Zj 14 rfl (Zl e23 p9 p10) ?_
        refine Zp 15 rfl (Zq 0 (.int .u32) x12 (gt x11 (w64 (x12 - 1))) 0 h36 rfl p9 p10) ?_
        intro _ w30 h39
        replace h39:=nf h39
        refine ⟨⟨[_],h39⟩,?_⟩
        have e28:(x11.set x12.toNat (gt x11 (w64 (x12 - 1)))).length=a0.length:=List.length_set.trans e22
        refine Zj 16 rfl (Zl e23 p11 p12) ?_
        refine Zp 17 rfl (Zq 0 (.int .u32) (w64 (x12 - 1)) (gt x11 x12) 0 h39 rfl p11 (by simpa only [List.length_set] using p12)) ?_
        intro _ w31 h40
        replace h40:=nf h40
        refine ⟨⟨[_],h40⟩,?_⟩
        have e29:((x11.set x12.toNat (gt x11 (w64 (x12 - 1)))).set (w64 (x12 - 1)).toNat (gt x11 x12)).length=a0.length:=List.length_set.trans e28
        refine Z0 [0,1,2,7,8,9] ?_
        exact Zz ⟨(by simp only [List.length_set,List.length_nil] <;> rfl),((h40.only [0] rfl).rds [] rfl)⟩
      rintro env w32 ⟨rfl,h41⟩
      have e30:((x11.set x12.toNat (gt x11 (w64 (x12 - 1)))).set (w64 (x12 - 1)).toNat (gt x11 x12)).length=a0.length:=by first | (simp only [List.length_set]; done) | (simp only [List.length_set]; exact e22)
      refine Zb [0,1,2,7,8,9] ?_
      have h42:=(sOR h41 [0] [])
      exact ⟨k6,by omega,((x11.set x12.toNat (gt x11 (w64 (x12 - 1)))).set (w64 (x12 - 1)).toNat (gt x11 x12)),(w64 (x12 - 1)),rfl,h42,H,by omega,e30⟩
     refine Xz [0,1,2,7,8] ?_
     refine J.exit ?_
     have h43:=(sOR h30 [0] [])
     exact ⟨k6,x11,rfl,h43,H,by omega,e22⟩
    refine Xz [0,1,2,7,8] ?_
    refine J.skip ?_
    have h45:=(sOR h12 [0] [])
    exact ⟨k3,((x1.set x6.toNat (gt x1 (w64 (x6 - 1)))).set (w64 (x6 - 1)).toNat (gt x1 x6)),rfl,h45,H,Nat.le_refl _,e11⟩
   rintro env w14 ⟨k4,x8,rfl,h13,H,hk4,e12⟩
   refine J.seq (Zb [0,1,2,7,8,98] ?_)
   refine jIf H (fun c4 H=>?_) fun c4 H=>?_
   ·refine J.seq (Zb [0,1,2,7,8,10] ?_)
    refine J.block ?_
    have h28:=(sOR h13 [0] [])
    refine J.loop (fun kk env w=>∃(x9:List (Int)) (x10:Int),env=[(0,.slice A1 x9.length c_1),(1,.int .i64 a1),(2,.int .i64 a2),(7,.int .i64 x6),(8,.int .i64 x3),(10,.int .i64 x10)]∧St w0 F0 [O33 x9 A1 c_1] [] w∧Q117.l1 kk a1 a2 x3 x6 x9 x10=some r∧kk≤k4∧x9.length=a0.length) (k:=k4) ⟨x8,(w64 (x6+1)),rfl,h28,H,Nat.le_refl _,e12⟩ ?_
    rintro k5 env w15 ⟨x9,x10,rfl,h14,H,hk5,e13⟩
    rcases k5 with _ | k5
    ·exact z0 H
    rw [Q117.l1] at H
    refine J.seq (J.seq (Zb [0,1,2,7,8,10,103] ?_))
    refine jIf H (fun c5 H=>?_) fun c5 H=>?_
    ·refine J.skip (J.seq (J.block (J.seq (J.seq ?_))))
     refine Zu h14 ?_
     have h15:=h14.drew
     refine Zv [0,1,4,5,6] ?_
     obtain ⟨⟨p5,p6⟩,H⟩:=Zs H
     have e14:=Z6 h15.wh (gO 0) p5 p6
     refine Zj 2 rfl (Zl e14 p5 p6) ?_
     refine Zj 3 rfl (Zm 0 wI (gO 0) p5 p6) ?_
     obtain ⟨⟨p7,p8⟩,H⟩:=Zs H
     refine Zj 7 rfl (Zl e14 p7 p8) ?_
     refine Zj 8 rfl (Zm 0 wI (gO 0) p7 p8) ?_
     obtain ⟨r1,q1,H⟩:=Zn H
     refine Zp 9 rfl (Zg [] (Q35.spec q1) h15 rfl Zr) ?_
     rintro _ w16 ⟨_,⟨rfl,rfl⟩,h16⟩
     replace h16:=nf h16
     refine ⟨⟨[],h16⟩,?_⟩
     refine Zv [10] ?_
     refine Z0 [0,1,2,7,8,10,116] ?_
     refine jIf H (fun c6 H=>?_) fun c6 H=>?_
     ·refine Xz [0,1,2,7,8] ?_
      refine J.exit ?_
      have h17:=(sOR h16 [0] [])
      exact ⟨k5,x9,x6,rfl,h17,H,by omega,e13⟩
     refine J.skip (J.mid (fun env w=>env=[(0,.slice A1 ((x9.set x10.toNat (gt x9 (w64 (x10 - 1)))).set (w64 (x10 - 1)).toNat (gt x9 x10)).length c_1),(1,.int .i64 a1),(2,.int .i64 a2),(7,.int .i64 x6),(8,.int .i64 x3),(10,.int .i64 x10)]∧St w0 F0 [O33 ((x9.set x10.toNat (gt x9 (w64 (x10 - 1)))).set (w64 (x10 - 1)).toNat (gt x9 x10)) A1 c_1] [] w) ?_ ?_)
     ·refine Zu (Zc h16 []) ?_
      have h20:=h16.drew
      refine Zv [0,1,2,3,4,5,6,7,10,11] ?_
      refine Zj 8 rfl (Zl e14 p7 p8) ?_
      refine Zj 12 rfl (Zl e14 p5 p6) ?_
      refine HJ.pick [9,13] (i:=9) rfl rfl rfl rfl ?_
      refine (Yi ?_ (Yi ?_ Xj))
      ·refine Z5 9 rfl (OpT.ofq (Zm 0 h20.wht (gO 0) p7 p8)) ?_
       rintro _ _ ⟨rfl,rfl⟩
       replace h20:=nf h20
       refine ⟨⟨[_],h20⟩,?_⟩
       refine Zp 13 rfl (OpT.ofq (Zm 0 h20.wht (gO 0) p5 p6)) ?_
       rintro _ _ ⟨rfl,rfl⟩
       replace h20:=nf h20
       refine ⟨⟨[_],h20⟩,?_⟩
       refine Zj 14 rfl (Zl e14 p5 p6) ?_
       refine Zp 15 rfl (Zq 0 (.int .u32) x10 (gt x9 (w64 (x10 - 1))) 0 h20 rfl p5 p6) ?_
       intro _ w19 h21
       replace h21:=nf h21
       refine ⟨⟨[_],h21⟩,?_⟩
       have e17:(x9.set x10.toNat (gt x9 (w64 (x10 - 1)))).length=a0.length:=List.length_set.trans e13
       refine Zj 16 rfl (Zl e14 p7 p8) ?_
       refine Zp 17 rfl (Zq 0 (.int .u32) (w64 (x10 - 1)) (gt x9 x10) 0 h21 rfl p7 (by simpa only [List.length_set] using p8)) ?_
       intro _ w20 h22
       replace h22:=nf h22
       refine ⟨⟨[_],h22⟩,?_⟩
       have e18:((x9.set x10.toNat (gt x9 (w64 (x10 - 1)))).set (w64 (x10 - 1)).toNat (gt x9 x10)).length=a0.length:=List.length_set.trans e17
       refine Z0 [0,1,2,7,8,10] ?_
       exact Zz ⟨(by simp only [List.length_set,List.length_nil] <;> rfl),((h22.only [0] rfl).rds [] rfl)⟩
      ·refine Z5 13 rfl (OpT.ofq (Zm 0 h20.wht (gO 0) p5 p6)) ?_
       rintro _ _ ⟨rfl,rfl⟩
       replace h20:=nf h20
       refine ⟨⟨[_],h20⟩,?_⟩
       refine Zp 9 rfl (OpT.ofq (Zm 0 h20.wht (gO 0) p7 p8)) ?_
       rintro _ _ ⟨rfl,rfl⟩
       replace h20:=nf h20
       refine ⟨⟨[_],h20⟩,?_⟩
       refine Zj 14 rfl (Zl e14 p5 p6) ?_
       refine Zp 15 rfl (Zq 0 (.int .u32) x10 (gt x9 (w64 (x10 - 1))) 0 h20 rfl p5 p6) ?_
       intro _ w21 h23
       replace h23:=nf h23
       refine ⟨⟨[_],h23⟩,?_⟩
       have e19:(x9.set x10.toNat (gt x9 (w64 (x10 - 1)))).length=a0.length:=List.length_set.trans e13
       refine Zj 16 rfl (Zl e14 p7 p8) ?_
       refine Zp 17 rfl (Zq 0 (.int .u32) (w64 (x10 - 1)) (gt x9 x10) 0 h23 rfl p7 (by simpa only [List.length_set] using p8)) ?_
       intro _ w22 h24
       replace h24:=nf h24
       refine ⟨⟨[_],h24⟩,?_⟩
       have e20:((x9.set x10.toNat (gt x9 (w64 (x10 - 1)))).set (w64 (x10 - 1)).toNat (gt x9 x10)).length=a0.length:=List.length_set.trans e19
       refine Z0 [0,1,2,7,8,10] ?_
       exact Zz ⟨(by simp only [List.length_set,List.length_nil] <;> rfl),((h24.only [0] rfl).rds [] rfl)⟩
     rintro env w23 ⟨rfl,h25⟩
     have e21:((x9.set x10.toNat (gt x9 (w64 (x10 - 1)))).set (w64 (x10 - 1)).toNat (gt x9 x10)).length=a0.length:=by first | (simp only [List.length_set]; done) | (simp only [List.length_set]; exact e13)
     refine Zb [0,1,2,7,8,10] ?_
     have h26:=(sOR h25 [0] [])
     exact ⟨k5,by omega,((x9.set x10.toNat (gt x9 (w64 (x10 - 1)))).set (w64 (x10 - 1)).toNat (gt x9 x10)),(w64 (x10+1)),rfl,h26,H,by omega,e21⟩
    refine Xz [0,1,2,7,8] ?_
    refine J.exit ?_
    have h27:=(sOR h14 [0] [])
    exact ⟨k5,x9,x6,rfl,h27,H,by omega,e13⟩
   refine Xz [0,1,2,7,8] ?_
   refine J.skip ?_
   have h29:=(sOR h13 [0] [])
   exact ⟨k4,x8,x6,rfl,h29,H,by omega,e12⟩
  rintro env w3 ⟨k2,x4,x5,rfl,h2,H,hk2,e2⟩
  refine Zb [0,1,2,7,8] ?_
  have h3:=(sOR h2 [0] [])
  exact ⟨k2,by omega,x4,x5,(w64 (x3+1)),rfl,h3,H,e2⟩
 refine J.exit (J.seq (Zb [6] ?_))
 refine J.ret ?_
 cases H
 exact ⟨_,_,_,Za,⟨rfl,rfl,e1⟩,Zc h1 [0]⟩

mutual
def Q118.l0:Nat→(Int)→(List (Int))→(Int)→(Int)→Option (Int×List (Int))
 | 0,_,_,_,_=>none
 | k+1,a1,x1,x2,x3=>Q118.l1 k a1 x1 x3 x2
def Q118.l1:Nat→(Int)→(List (Int))→(Int)→(Int)→Option (Int×List (Int))
 | 0,_,_,_,_=>none
 | k+1,a1,x1,x3,x4=>if (decide (x4≤x3))=true then (if 0≤a1∧a1<(x1.length:Int) then (if 0≤x4∧x4<(x1.length:Int) then ((Q35.f (gt x1 a1) (gt x1 x4)).bind fun r1=>(if (!r1)=true then (Q118.l1 k a1 x1 x3 (w64 (x4+1))) else (Q118.l2 k a1 x1 x4 x3))) else none) else none) else (Q118.l3 k a1 x1 x3 x4)
def Q118.l2:Nat→(Int)→(List (Int))→(Int)→(Int)→Option (Int×List (Int))
 | 0,_,_,_,_=>none
 | k+1,a1,x1,x4,x5=>if (decide (x4≤x5))=true then (if 0≤x5∧x5<(x1.length:Int) then ((Q35.f (gt x1 a1) (gt x1 x5)).bind fun r2=>(if r2=true then (Q118.l2 k a1 x1 x4 (w64 (x5 - 1))) else (if (decide (x5<x4))=true then (some (x4,x1)) else (Q118.l0 k a1 ((x1.set x4.toNat (gt x1 x5)).set x5.toNat (gt x1 x4)) (w64 (x4+1)) (w64 (x5 - 1)))))) else none) else (if (decide (x5<x4))=true then (some (x4,x1)) else (if 0≤x5∧x5<(x1.length:Int) then (Q118.l0 k a1 ((x1.set x4.toNat (gt x1 x5)).set x5.toNat (gt x1 x4)) (w64 (x4+1)) (w64 (x5 - 1))) else none))
def Q118.l3:Nat→(Int)→(List (Int))→(Int)→(Int)→Option (Int×List (Int))
 | 0,_,_,_,_=>none
 | k+1,a1,x1,x3,x4=>if (decide (x3<x4))=true then (some (x4,x1)) else (if 0≤x3∧x3<(x1.length:Int) then (if 0≤x4∧x4<(x1.length:Int) then (Q118.l0 k a1 ((x1.set x4.toNat (gt x1 x3)).set x3.toNat (gt x1 x4)) (w64 (x4+1)) (w64 (x3 - 1))) else none) else none)
end
def Q118.f (k:Nat) (a0:List (Int)) (a1:Int) (a2:Int) (a3:Int):Option (Int×List (Int)):=if 0≤a3∧a3<(a0.length:Int) then (if 0≤a1∧a1<(a0.length:Int) then (Q118.l0 k a1 ((a0.set a1.toNat (gt a0 a3)).set a3.toNat (gt a0 a1)) (w64 (a1+1)) (w64 (a2 - 1))) else none) else none
theorem Q118.spec {k:Nat} {a0:List (Int)} {a1:Int} {a2:Int} {a3:Int} {A1:Option Addr} {c_1:Nat} {r:Int×List (Int)} (H:Q118.f k a0 a1 a2 a3=some r) :
  Spec Tryz.prog 241 [.slice A1 a0.length c_1,.int .i64 a1,.int .i64 a2,.int .i64 a3] [O33 a0 A1 c_1] [] (fun v l=>v=.int .i64 r.1∧l=[O33 r.2 A1 c_1]∧r.2.length=a0.length):=by
 refine Zo Tryz.func241 fun w0 F0 h0=>?_
 unfold Q118.f at H
 refine J.seq (Zb [0,1,2,3] ?_)
 refine J.seq ?_
 obtain ⟨⟨p1,p2⟩,H⟩:=Zs H
 obtain ⟨⟨p3,p4⟩,H⟩:=Zs H
 refine J.midS (fun env w=>env=[(0,.slice A1 ((a0.set a1.toNat (gt a0 a3)).set a3.toNat (gt a0 a1)).length c_1),(1,.int .i64 a1),(2,.int .i64 a2)]∧St w0 F0 [O33 ((a0.set a1.toNat (gt a0 a3)).set a3.toNat (gt a0 a1)) A1 c_1] [] w) ?_ ?_
 ·refine Zu (Zc h0 []) ?_
  have h3:=h0.drew
  refine Zv [0,1,2,3,4,5,8,9] ?_
  have e4:=Z6 h3.wh (gO 0) p1 p2
  refine Zj 6 rfl (Zl e4 p1 p2) ?_
  refine Zj 10 rfl (Zl e4 p3 p4) ?_
  refine HJ.pick [7,11] (i:=7) rfl rfl rfl rfl ?_
  refine (Yi ?_ (Yi ?_ Xj))
  ·refine Z5 7 rfl (OpT.ofq (Zm 0 h3.wht (gO 0) p1 p2)) ?_
   rintro _ _ ⟨rfl,rfl⟩
   replace h3:=nf h3
   refine ⟨⟨[_],h3⟩,?_⟩
   refine Zp 11 rfl (OpT.ofq (Zm 0 h3.wht (gO 0) p3 p4)) ?_
   rintro _ _ ⟨rfl,rfl⟩
   replace h3:=nf h3
   refine ⟨⟨[_],h3⟩,?_⟩
   refine Zj 12 rfl (Zl e4 p3 p4) ?_
   refine Zp 13 rfl (Zq 0 (.int .u32) a1 (gt a0 a3) 0 h3 rfl p3 p4) ?_
   intro _ w3 h4
   replace h4:=nf h4
   refine ⟨⟨[_],h4⟩,?_⟩
   have e5:(a0.set a1.toNat (gt a0 a3)).length=a0.length:=List.length_set.trans (rfl:a0.length=a0.length)
   refine Zj 14 rfl (Zl e4 p1 p2) ?_
   refine Zp 15 rfl (Zq 0 (.int .u32) a3 (gt a0 a1) 0 h4 rfl p1 (by simpa only [List.length_set] using p2)) ?_
   intro _ w4 h5
   replace h5:=nf h5
   refine ⟨⟨[_],h5⟩,?_⟩
   have e6:((a0.set a1.toNat (gt a0 a3)).set a3.toNat (gt a0 a1)).length=a0.length:=List.length_set.trans e5
   refine Z0 [0,1,2] ?_
   exact Zz ⟨(by simp only [List.length_set,List.length_nil] <;> rfl),((h5.only [0] rfl).rds [] rfl)⟩
  ·refine Z5 11 rfl (OpT.ofq (Zm 0 h3.wht (gO 0) p3 p4)) ?_
   rintro _ _ ⟨rfl,rfl⟩
   replace h3:=nf h3
   refine ⟨⟨[_],h3⟩,?_⟩
   refine Zp 7 rfl (OpT.ofq (Zm 0 h3.wht (gO 0) p1 p2)) ?_
   rintro _ _ ⟨rfl,rfl⟩
   replace h3:=nf h3
   refine ⟨⟨[_],h3⟩,?_⟩
   refine Zj 12 rfl (Zl e4 p3 p4) ?_
   refine Zp 13 rfl (Zq 0 (.int .u32) a1 (gt a0 a3) 0 h3 rfl p3 p4) ?_
   intro _ w5 h6
   replace h6:=nf h6
   refine ⟨⟨[_],h6⟩,?_⟩
   have e7:(a0.set a1.toNat (gt a0 a3)).length=a0.length:=List.length_set.trans (rfl:a0.length=a0.length)
   refine Zj 14 rfl (Zl e4 p1 p2) ?_
   refine Zp 15 rfl (Zq 0 (.int .u32) a3 (gt a0 a1) 0 h6 rfl p1 (by simpa only [List.length_set] using p2)) ?_
   intro _ w6 h7
   replace h7:=nf h7
   refine ⟨⟨[_],h7⟩,?_⟩
   have e8:((a0.set a1.toNat (gt a0 a3)).set a3.toNat (gt a0 a1)).length=a0.length:=List.length_set.trans e7
   refine Z0 [0,1,2] ?_
   exact Zz ⟨(by simp only [List.length_set,List.length_nil] <;> rfl),((h7.only [0] rfl).rds [] rfl)⟩
 rintro env w7 ⟨rfl,h8⟩
 have e9:((a0.set a1.toNat (gt a0 a3)).set a3.toNat (gt a0 a1)).length=a0.length:=by first | (simp only [List.length_set]; done) | (simp only [List.length_set]; exact (rfl:a0.length=a0.length))
 refine J.seq (Zb [0,1,9,10] ?_)
 refine J.seq (J.block ?_)
 have h50:=(sOR h8 [0] [])
 refine J.loop (fun kk env w=>∃(x1:List (Int)) (x2:Int) (x3:Int),env=[(0,.slice A1 x1.length c_1),(1,.int .i64 a1),(9,.int .i64 x2),(10,.int .i64 x3)]∧St w0 F0 [O33 x1 A1 c_1] [] w∧Q118.l0 kk a1 x1 x2 x3=some r∧x1.length=a0.length) (k:=k) ⟨((a0.set a1.toNat (gt a0 a3)).set a3.toNat (gt a0 a1)),(w64 (a1+1)),(w64 (a2 - 1)),rfl,h50,H,e9⟩ ?_
 rintro k1 env w8 ⟨x1,x2,x3,rfl,h9,H,e10⟩
 rcases k1 with _ | k1
 ·exact z0 H
 rw [Q118.l0] at H
 refine J.block (J.seq (J.block ?_))
 have h49:=(sOR h9 [0] [])
 refine J.loop (fun kk env w=>∃(x4:Int),env=[(0,.slice A1 x1.length c_1),(1,.int .i64 a1),(9,.int .i64 x4),(10,.int .i64 x3)]∧St w0 F0 [O33 x1 A1 c_1] [] w∧Q118.l1 kk a1 x1 x3 x4=some r∧kk≤k1) (k:=k1) ⟨x2,rfl,h49,H,Nat.le_refl _⟩ ?_
 rintro k2 env w9 ⟨x4,rfl,h10,H,hk2⟩
 rcases k2 with _ | k2
 ·exact z0 H
 rw [Q118.l1] at H
 refine J.seq (J.seq ?_)
 refine Zu h10 ?_
 have h11:=h10.drew
 refine Zv [0,1,2,3] ?_
 refine Xy 32 H (fun c1 H=>?_) fun c1 H=>?_
 ·refine Zv [4,5,8,9] ?_
  obtain ⟨⟨p5,p6⟩,H⟩:=Zs H
  have e11:=Z6 h11.wh (gO 0) p5 p6
  refine Zj 6 rfl (Zl e11 p5 p6) ?_
  refine Zj 7 rfl (Zm 0 wI (gO 0) p5 p6) ?_
  obtain ⟨⟨p7,p8⟩,H⟩:=Zs H
  refine Zj 10 rfl (Zl e11 p7 p8) ?_
  refine Zj 11 rfl (Zm 0 wI (gO 0) p7 p8) ?_
  obtain ⟨r1,q1,H⟩:=Zn H
  refine Zp 12 rfl (Zg [] (Q35.spec q1) h11 rfl Zr) ?_
  rintro _ w10 ⟨_,⟨rfl,rfl⟩,h12⟩
  replace h12:=nf h12
  refine ⟨⟨[],h12⟩,?_⟩
  refine Zv [13,14] ?_
  refine Z0 [0,1,9,10,43] ?_
  refine jIf H (fun c2 H=>?_) fun c2 H=>?_
  ·refine J.skip (J.block (Zb [0,1,9,10] ?_))
   have h13:=(sOR h12 [0] [])
   exact ⟨k2,by omega,(w64 (x4+1)),rfl,h13,H,by omega⟩
  refine J.exit (J.seq (J.block ?_))
  refine Xz [0,1,9,10] ?_
  have h36:=(sOR h12 [0] [])
  refine J.loop (fun kk env w=>∃(x5:Int),env=[(0,.slice A1 x1.length c_1),(1,.int .i64 a1),(9,.int .i64 x4),(10,.int .i64 x5)]∧St w0 F0 [O33 x1 A1 c_1] [] w∧Q118.l2 kk a1 x1 x4 x5=some r∧kk≤k2) (k:=k2) ⟨x3,rfl,h36,H,Nat.le_refl _⟩ ?_
  rintro k3 env w11 ⟨x5,rfl,h14,H,hk3⟩
  rcases k3 with _ | k3
  ·exact z0 H
  rw [Q118.l2] at H
  refine J.seq (J.seq ?_)
  refine Zu h14 ?_
  have h15:=h14.drew
  refine Zv [0,1,2,3] ?_
  refine Xy 49 H (fun c3 H=>?_) fun c3 H=>?_
  ·refine Zv [4,5,8,9] ?_
   refine Zj 6 rfl (Zl e11 p5 p6) ?_
   refine Zj 7 rfl (Zm 0 wI (gO 0) p5 p6) ?_
   obtain ⟨⟨p9,p10⟩,H⟩:=Zs H
   refine Zj 10 rfl (Zl e11 p9 p10) ?_
   refine Zj 11 rfl (Zm 0 wI (gO 0) p9 p10) ?_
   obtain ⟨r2,q2,H⟩:=Zn H
   refine Zp 12 rfl (Zg [] (Q35.spec q2) h15 rfl Zr) ?_
   rintro _ w12 ⟨_,⟨rfl,rfl⟩,h16⟩
   replace h16:=nf h16
   refine ⟨⟨[],h16⟩,?_⟩
   refine Zv [13] ?_
   refine Z0 [0,1,9,10,59] ?_
   refine jIf H (fun c4 H=>?_) fun c4 H=>?_
   ·refine J.skip (J.block (Zb [0,1,9,10] ?_))
    have h17:=(sOR h16 [0] [])
    exact ⟨k3,by omega,(w64 (x5 - 1)),rfl,h17,H,by omega⟩
   refine J.exit (J.seq (J.seq (Zb [0,1,9,10,64] ?_)))
   refine jIf H (fun c5 H=>?_) fun c5 H=>?_
   ·refine J.exit (J.seq (Zb [8] ?_))
    refine J.ret ?_
    cases H
    exact ⟨_,_,_,Za,⟨rfl,rfl,e10⟩,Zc h16 [0]⟩
   refine J.skip (J.seq (J.midS (fun env w=>env=[(0,.slice A1 ((x1.set x4.toNat (gt x1 x5)).set x5.toNat (gt x1 x4)).length c_1),(1,.int .i64 a1),(9,.int .i64 x4),(10,.int .i64 x5)]∧St w0 F0 [O33 ((x1.set x4.toNat (gt x1 x5)).set x5.toNat (gt x1 x4)) A1 c_1] [] w) ?_ ?_))
   ·refine Zu (Zc h16 []) ?_
    have h20:=h16.drew
    refine Zv [0,1,2,3,4,5,8,9] ?_
    refine Zj 6 rfl (Zl e11 p9 p10) ?_
    refine Zj 10 rfl (Zl e11 p7 p8) ?_
    refine HJ.pick [7,11] (i:=7) rfl rfl rfl rfl ?_
    refine (Yi ?_ (Yi ?_ Xj))
    ·refine Z5 7 rfl (OpT.ofq (Zm 0 h20.wht (gO 0) p9 p10)) ?_
     rintro _ _ ⟨rfl,rfl⟩
     replace h20:=nf h20
     refine ⟨⟨[_],h20⟩,?_⟩
     refine Zp 11 rfl (OpT.ofq (Zm 0 h20.wht (gO 0) p7 p8)) ?_
     rintro _ _ ⟨rfl,rfl⟩
     replace h20:=nf h20
     refine ⟨⟨[_],h20⟩,?_⟩
     refine Zj 12 rfl (Zl e11 p7 p8) ?_
     refine Zp 13 rfl (Zq 0 (.int .u32) x4 (gt x1 x5) 0 h20 rfl p7 p8) ?_
     intro _ w15 h21
     replace h21:=nf h21
     refine ⟨⟨[_],h21⟩,?_⟩
     have e14:(x1.set x4.toNat (gt x1 x5)).length=a0.length:=List.length_set.trans e10
     refine Zj 14 rfl (Zl e11 p9 p10) ?_
     refine Zp 15 rfl (Zq 0 (.int .u32) x5 (gt x1 x4) 0 h21 rfl p9 (by simpa only [List.length_set] using p10)) ?_
     intro _ w16 h22
     replace h22:=nf h22
     refine ⟨⟨[_],h22⟩,?_⟩
     have e15:((x1.set x4.toNat (gt x1 x5)).set x5.toNat (gt x1 x4)).length=a0.length:=List.length_set.trans e14
     refine Z0 [0,1,9,10] ?_
     exact Zz ⟨(by simp only [List.length_set,List.length_nil] <;> rfl),((h22.only [0] rfl).rds [] rfl)⟩
    ·refine Z5 11 rfl (OpT.ofq (Zm 0 h20.wht (gO 0) p7 p8)) ?_
     rintro _ _ ⟨rfl,rfl⟩
     replace h20:=nf h20
     refine ⟨⟨[_],h20⟩,?_⟩
     refine Zp 7 rfl (OpT.ofq (Zm 0 h20.wht (gO 0) p9 p10)) ?_
     rintro _ _ ⟨rfl,rfl⟩
     replace h20:=nf h20
     refine ⟨⟨[_],h20⟩,?_⟩
     refine Zj 12 rfl (Zl e11 p7 p8) ?_
     refine Zp 13 rfl (Zq 0 (.int .u32) x4 (gt x1 x5) 0 h20 rfl p7 p8) ?_
     intro _ w17 h23
     replace h23:=nf h23
     refine ⟨⟨[_],h23⟩,?_⟩
     have e16:(x1.set x4.toNat (gt x1 x5)).length=a0.length:=List.length_set.trans e10
     refine Zj 14 rfl (Zl e11 p9 p10) ?_
     refine Zp 15 rfl (Zq 0 (.int .u32) x5 (gt x1 x4) 0 h23 rfl p9 (by simpa only [List.length_set] using p10)) ?_
     intro _ w18 h24
     replace h24:=nf h24
     refine ⟨⟨[_],h24⟩,?_⟩
     have e17:((x1.set x4.toNat (gt x1 x5)).set x5.toNat (gt x1 x4)).length=a0.length:=List.length_set.trans e16
     refine Z0 [0,1,9,10] ?_
     exact Zz ⟨(by simp only [List.length_set,List.length_nil] <;> rfl),((h24.only [0] rfl).rds [] rfl)⟩
   rintro env w19 ⟨rfl,h25⟩
   have e18:((x1.set x4.toNat (gt x1 x5)).set x5.toNat (gt x1 x4)).length=a0.length:=by first | (simp only [List.length_set]; done) | (simp only [List.length_set]; exact e10)
   refine J.seq (Zb [0,1,9,10] ?_)
   refine Zb [0,1,9,10] ?_
   have h26:=(sOR h25 [0] [])
   exact ⟨k3,by omega,((x1.set x4.toNat (gt x1 x5)).set x5.toNat (gt x1 x4)),(w64 (x4+1)),(w64 (x5 - 1)),rfl,h26,H,e18⟩
  refine Zv [4,5,6,7,8,9,10,11,12,13] ?_
  refine Z0 [0,1,9,10,59] ?_
  refine Z4 ?_
  refine J.exit (J.seq (J.seq (Zb [0,1,9,10,64] ?_)))
  refine jIf H (fun c6 H=>?_) fun c6 H=>?_
  ·refine J.exit (J.seq (Zb [8] ?_))
   refine J.ret ?_
   cases H
   exact ⟨_,_,_,Za,⟨rfl,rfl,e10⟩,Zc h15 [0]⟩
  refine J.skip (J.seq ?_)
  obtain ⟨⟨p11,p12⟩,H⟩:=Zs H
  refine J.midS (fun env w=>env=[(0,.slice A1 ((x1.set x4.toNat (gt x1 x5)).set x5.toNat (gt x1 x4)).length c_1),(1,.int .i64 a1),(9,.int .i64 x4),(10,.int .i64 x5)]∧St w0 F0 [O33 ((x1.set x4.toNat (gt x1 x5)).set x5.toNat (gt x1 x4)) A1 c_1] [] w) ?_ ?_
  ·refine Zu (Zc h15 []) ?_
   have h29:=h15.drew
   refine Zv [0,1,2,3,4,5,8,9] ?_
   refine Zj 6 rfl (Zl e11 p11 p12) ?_
   refine Zj 10 rfl (Zl e11 p7 p8) ?_
   refine HJ.pick [7,11] (i:=7) rfl rfl rfl rfl ?_
   refine (Yi ?_ (Yi ?_ Xj))
   ·refine Z5 7 rfl (OpT.ofq (Zm 0 h29.wht (gO 0) p11 p12)) ?_
    rintro _ _ ⟨rfl,rfl⟩
    replace h29:=nf h29
    refine ⟨⟨[_],h29⟩,?_⟩
    refine Zp 11 rfl (OpT.ofq (Zm 0 h29.wht (gO 0) p7 p8)) ?_
    rintro _ _ ⟨rfl,rfl⟩
    replace h29:=nf h29
    refine ⟨⟨[_],h29⟩,?_⟩
    refine Zj 12 rfl (Zl e11 p7 p8) ?_
    refine Zp 13 rfl (Zq 0 (.int .u32) x4 (gt x1 x5) 0 h29 rfl p7 p8) ?_
    intro _ w22 h30
    replace h30:=nf h30
    refine ⟨⟨[_],h30⟩,?_⟩
    have e21:(x1.set x4.toNat (gt x1 x5)).length=a0.length:=List.length_set.trans e10
    refine Zj 14 rfl (Zl e11 p11 p12) ?_
    refine Zp 15 rfl (Zq 0 (.int .u32) x5 (gt x1 x4) 0 h30 rfl p11 (by simpa only [List.length_set] using p12)) ?_
    intro _ w23 h31
    replace h31:=nf h31
    refine ⟨⟨[_],h31⟩,?_⟩
    have e22:((x1.set x4.toNat (gt x1 x5)).set x5.toNat (gt x1 x4)).length=a0.length:=List.length_set.trans e21
    refine Z0 [0,1,9,10] ?_
    exact Zz ⟨(by simp only [List.length_set,List.length_nil] <;> rfl),((h31.only [0] rfl).rds [] rfl)⟩
   ·refine Z5 11 rfl (OpT.ofq (Zm 0 h29.wht (gO 0) p7 p8)) ?_
    rintro _ _ ⟨rfl,rfl⟩
    replace h29:=nf h29
    refine ⟨⟨[_],h29⟩,?_⟩
    refine Zp 7 rfl (OpT.ofq (Zm 0 h29.wht (gO 0) p11 p12)) ?_
    rintro _ _ ⟨rfl,rfl⟩
    replace h29:=nf h29
    refine ⟨⟨[_],h29⟩,?_⟩
    refine Zj 12 rfl (Zl e11 p7 p8) ?_
    refine Zp 13 rfl (Zq 0 (.int .u32) x4 (gt x1 x5) 0 h29 rfl p7 p8) ?_
    intro _ w24 h32
    replace h32:=nf h32
    refine ⟨⟨[_],h32⟩,?_⟩
    have e23:(x1.set x4.toNat (gt x1 x5)).length=a0.length:=List.length_set.trans e10
    refine Zj 14 rfl (Zl e11 p11 p12) ?_
    refine Zp 15 rfl (Zq 0 (.int .u32) x5 (gt x1 x4) 0 h32 rfl p11 (by simpa only [List.length_set] using p12)) ?_
    intro _ w25 h33
    replace h33:=nf h33
    refine ⟨⟨[_],h33⟩,?_⟩
    have e24:((x1.set x4.toNat (gt x1 x5)).set x5.toNat (gt x1 x4)).length=a0.length:=List.length_set.trans e23
    refine Z0 [0,1,9,10] ?_
    exact Zz ⟨(by simp only [List.length_set,List.length_nil] <;> rfl),((h33.only [0] rfl).rds [] rfl)⟩
  rintro env w26 ⟨rfl,h34⟩
  have e25:((x1.set x4.toNat (gt x1 x5)).set x5.toNat (gt x1 x4)).length=a0.length:=by first | (simp only [List.length_set]; done) | (simp only [List.length_set]; exact e10)
  refine J.seq (Zb [0,1,9,10] ?_)
  refine Zb [0,1,9,10] ?_
  have h35:=(sOR h34 [0] [])
  exact ⟨k3,by omega,((x1.set x4.toNat (gt x1 x5)).set x5.toNat (gt x1 x4)),(w64 (x4+1)),(w64 (x5 - 1)),rfl,h35,H,e25⟩
 refine Zv [4,5,6,7,8,9,10,11,12,13,14] ?_
 refine Z0 [0,1,9,10,43] ?_
 refine Z4 ?_
 refine J.exit (J.seq (J.block ?_))
 refine Xz [0,1,9,10] ?_
 have h48:=(sOR h11 [0] [])
 refine J.loop (fun kk env w=>env=[(0,.slice A1 x1.length c_1),(1,.int .i64 a1),(9,.int .i64 x4),(10,.int .i64 x3)]∧St w0 F0 [O33 x1 A1 c_1] [] w∧Q118.l3 kk a1 x1 x3 x4=some r∧kk≤k2) (k:=k2) ⟨rfl,h48,H,Nat.le_refl _⟩ ?_
 rintro k4 env w27 ⟨rfl,h37,H,hk4⟩
 rcases k4 with _ | k4
 ·exact z0 H
 rw [Q118.l3] at H
 refine J.seq (J.seq ?_)
 refine Zu h37 ?_
 have h38:=h37.drew
 refine Zv [0,1,2,3] ?_
 refine Zff 49 (congrArg Value.bool c1) ?_
 refine Zv [4,5,6,7,8,9,10,11,12,13] ?_
 refine Z0 [0,1,9,10,59] ?_
 refine Z4 ?_
 refine J.exit (J.seq (J.seq (Zb [0,1,9,10,64] ?_)))
 refine jIf H (fun c7 H=>?_) fun c7 H=>?_
 ·refine J.exit (J.seq (Zb [8] ?_))
  refine J.ret ?_
  cases H
  exact ⟨_,_,_,Za,⟨rfl,rfl,e10⟩,Zc h38 [0]⟩
 refine J.skip (J.seq ?_)
 obtain ⟨⟨p13,p14⟩,H⟩:=Zs H
 obtain ⟨⟨p15,p16⟩,H⟩:=Zs H
 refine J.midS (fun env w=>env=[(0,.slice A1 ((x1.set x4.toNat (gt x1 x3)).set x3.toNat (gt x1 x4)).length c_1),(1,.int .i64 a1),(9,.int .i64 x4),(10,.int .i64 x3)]∧St w0 F0 [O33 ((x1.set x4.toNat (gt x1 x3)).set x3.toNat (gt x1 x4)) A1 c_1] [] w) ?_ ?_
 ·refine Zu (Zc h38 []) ?_
  have h41:=h38.drew
  refine Zv [0,1,2,3,4,5,8,9] ?_
  have e29:=Z6 h41.wh (gO 0) p13 p14
  refine Zj 6 rfl (Zl e29 p13 p14) ?_
  refine Zj 10 rfl (Zl e29 p15 p16) ?_
  refine HJ.pick [7,11] (i:=7) rfl rfl rfl rfl ?_
  refine (Yi ?_ (Yi ?_ Xj))
  ·refine Z5 7 rfl (OpT.ofq (Zm 0 h41.wht (gO 0) p13 p14)) ?_
   rintro _ _ ⟨rfl,rfl⟩
   replace h41:=nf h41
   refine ⟨⟨[_],h41⟩,?_⟩
   refine Zp 11 rfl (OpT.ofq (Zm 0 h41.wht (gO 0) p15 p16)) ?_
   rintro _ _ ⟨rfl,rfl⟩
   replace h41:=nf h41
   refine ⟨⟨[_],h41⟩,?_⟩
   refine Zj 12 rfl (Zl e29 p15 p16) ?_
   refine Zp 13 rfl (Zq 0 (.int .u32) x4 (gt x1 x3) 0 h41 rfl p15 p16) ?_
   intro _ w30 h42
   replace h42:=nf h42
   refine ⟨⟨[_],h42⟩,?_⟩
   have e30:(x1.set x4.toNat (gt x1 x3)).length=a0.length:=List.length_set.trans e10
   refine Zj 14 rfl (Zl e29 p13 p14) ?_
   refine Zp 15 rfl (Zq 0 (.int .u32) x3 (gt x1 x4) 0 h42 rfl p13 (by simpa only [List.length_set] using p14)) ?_
   intro _ w31 h43
   replace h43:=nf h43
   refine ⟨⟨[_],h43⟩,?_⟩
   have e31:((x1.set x4.toNat (gt x1 x3)).set x3.toNat (gt x1 x4)).length=a0.length:=List.length_set.trans e30
   refine Z0 [0,1,9,10] ?_
   exact Zz ⟨(by simp only [List.length_set,List.length_nil] <;> rfl),((h43.only [0] rfl).rds [] rfl)⟩
  ·refine Z5 11 rfl (OpT.ofq (Zm 0 h41.wht (gO 0) p15 p16)) ?_
   rintro _ _ ⟨rfl,rfl⟩
   replace h41:=nf h41
   refine ⟨⟨[_],h41⟩,?_⟩
   refine Zp 7 rfl (OpT.ofq (Zm 0 h41.wht (gO 0) p13 p14)) ?_
   rintro _ _ ⟨rfl,rfl⟩
   replace h41:=nf h41
   refine ⟨⟨[_],h41⟩,?_⟩
   refine Zj 12 rfl (Zl e29 p15 p16) ?_
   refine Zp 13 rfl (Zq 0 (.int .u32) x4 (gt x1 x3) 0 h41 rfl p15 p16) ?_
   intro _ w32 h44
   replace h44:=nf h44
   refine ⟨⟨[_],h44⟩,?_⟩
   have e32:(x1.set x4.toNat (gt x1 x3)).length=a0.length:=List.length_set.trans e10
   refine Zj 14 rfl (Zl e29 p13 p14) ?_
   refine Zp 15 rfl (Zq 0 (.int .u32) x3 (gt x1 x4) 0 h44 rfl p13 (by simpa only [List.length_set] using p14)) ?_
   intro _ w33 h45
   replace h45:=nf h45
   refine ⟨⟨[_],h45⟩,?_⟩
   have e33:((x1.set x4.toNat (gt x1 x3)).set x3.toNat (gt x1 x4)).length=a0.length:=List.length_set.trans e32
   refine Z0 [0,1,9,10] ?_
   exact Zz ⟨(by simp only [List.length_set,List.length_nil] <;> rfl),((h45.only [0] rfl).rds [] rfl)⟩
 rintro env w34 ⟨rfl,h46⟩
 have e34:((x1.set x4.toNat (gt x1 x3)).set x3.toNat (gt x1 x4)).length=a0.length:=by first | (simp only [List.length_set]; done) | (simp only [List.length_set]; exact e10)
 refine J.seq (Zb [0,1,9,10] ?_)
 refine Zb [0,1,9,10] ?_
 have h47:=(sOR h46 [0] [])
 exact ⟨k4,by omega,((x1.set x4.toNat (gt x1 x3)).set x3.toNat (gt x1 x4)),(w64 (x4+1)),(w64 (x3 - 1)),rfl,h47,H,e34⟩

end Go.SK.T
