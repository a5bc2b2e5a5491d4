/- The functions, further. -/
import Derived.Test.YtoemkinhdomnpaaXCachePlaysF7
set_option linter.unusedVariables false
set_option linter.unusedSimpArgs false
set_option maxRecDepth 20000
set_option maxHeartbeats 40000000
namespace Go.SK.T
open Go Go.SK Go.Proofs
def Q2.l0 : Nat → ((Int × List (Int) × (Int × Int)) × (List (Int × List (Int) × Bool × Int)) × (List (Int × Int)) × List (Int) × ((List (Int × Int × Bool)) × Int)) → (List (Int)) → (List (Int)) → (Int) → Option (List (Int))
 | 0, _, _, _, _ => none
 | k + 1, a0, r2, x1, x2 => if (decide (x2 < (r2.length : Int))) = true then (if 0 ≤ x2 ∧ x2 < (r2.length : Int) then (if 0 ≤ (Zt (0 : Int) a0.2.2.1 (gt r2 x2)) ∧ (Zt (0 : Int) a0.2.2.1 (gt r2 x2)) < (a0.2.1.length : Int) then (if (gt a0.2.1 (Zt (0 : Int) a0.2.2.1 (gt r2 x2))).2.2.1 = true then (if (x1.length + ([(gt r2 x2)] : List (Int)).length) * 4 ≤ 140737488355328 then (Q2.l0 k a0 r2 (x1 ++ ([(gt r2 x2)] : List (Int))) (w64 (x2 + 1))) else none) else (Q2.l0 k a0 r2 x1 (w64 (x2 + 1)))) else none) else none) else (some x1)
def Q2.f (k : Nat) (a0 : (Int × List (Int) × (Int × Int)) × (List (Int × List (Int) × Bool × Int)) × (List (Int × Int)) × List (Int) × ((List (Int × Int × Bool)) × Int)) : Option (List (Int)) := (Q14.f a0).bind fun r1 => (if r1 = true then (some ([] : List (Int))) else ((Q79.f a0.2.2.1).bind fun r2 => (Q2.l0 k a0 r2 ([] : List (Int)) 0)))
theorem Q2.spec {k : Nat} {a0 : (Int × List (Int) × (Int × Int)) × (List (Int × List (Int) × Bool × Int)) × (List (Int × Int)) × List (Int) × ((List (Int × Int × Bool)) × Int)} {b1 : Nat} {b2 : Nat} {b3 : Nat} {b4 : Nat} {A1 : Option Addr} {c_1 : Nat} {A2 : Option Addr} {c_2 : Nat} {A3 : Option Addr} {c_3 : Nat} {A4 : Option Addr} {c_4 : Nat} {r : List (Int)} (H : Q2.f k a0 = some r) :
  Spec Try.prog 55 [.pointer (some ⟨b1, 0, none⟩)] [Yk b1 (.pointer (some ⟨b2, 0, none⟩)) a0.2.1 A2 c_2 (.map (some b3)) a0.2.2.2.1 A3 c_3 (.pointer (some ⟨b4, 0, none⟩)), X51 b2 a0.1.1 a0.1.2.1 A1 c_1 a0.1.2.2.1 a0.1.2.2.2, O5 a0.1.2.1 A1 c_1, Yi a0.2.1 A2 c_2, Yc .u32 (Value.int .i64) b3 a0.2.2.1, O3 a0.2.2.2.1 A3 c_3, Z8 b4 a0.2.2.2.2.1 A4 c_4 a0.2.2.2.2.2, Z9 a0.2.2.2.2.1 A4 c_4] [] (fun v l => ∃ (A_0 : Option Addr) (c_0 : Nat), v = .slice A_0 r.length c_0 ∧ l = [O23 r A_0 c_0, Yk b1 (.pointer (some ⟨b2, 0, none⟩)) a0.2.1 A2 c_2 (.map (some b3)) a0.2.2.2.1 A3 c_3 (.pointer (some ⟨b4, 0, none⟩)), X51 b2 a0.1.1 a0.1.2.1 A1 c_1 a0.1.2.2.1 a0.1.2.2.2, O5 a0.1.2.1 A1 c_1, Yi a0.2.1 A2 c_2, Yc .u32 (Value.int .i64) b3 a0.2.2.1, O3 a0.2.2.2.1 A3 c_3, Z8 b4 a0.2.2.2.2.1 A4 c_4 a0.2.2.2.2.2, Z9 a0.2.2.2.2.1 A4 c_4]) := by
 refine Zr Try.func55 fun w0 F0 h0 => ?_
 unfold Q2.f at H
 refine J.seq (Zb [0] ?_)
 refine J.seq (J.seq (J.region ?_))
 refine Zl 1 ?_
 obtain ⟨r1, q1, H⟩ := Zp H
 refine Ze (Zk [0, 0, 0, 0, 0, 0, 0, 0] (Q14.spec q1) h0 rfl Zu) ?_
 rintro _ w1 ⟨_, ⟨rfl, rfl⟩, h1⟩
 replace h1 := nf h1
 refine Zm [0, 7] rfl ?_
 refine jIf H (fun c1 H => ?_) fun c1 H => ?_
 ·refine J.seq (Zb [2] ?_)
  refine J.ret ?_
  have h2 := h1.addNil 23 (.int .u32)
  cases H
  exact ⟨_, _, _, Zc, ⟨_, _, rfl, rfl⟩, Zd h2 [0, 0, 0, 0, 0, 0, 0, 0, 0]⟩
 refine J.skip (J.seq (Zb [0, 3] ?_))
 refine J.seq (J.seq (J.region ?_))
 refine Zl 3 ?_
 refine Zg (Za 0 h1.wht) ?_
 refine Ze (Zk [] keys.spec h1 rfl Zu) ?_
 rintro _ w2 ⟨_, ⟨b5, rfl, rfl⟩, h3⟩
 replace h3 := nf h3
 obtain ⟨r2, q2, H⟩ := Zp H
 refine Ze (Zk [0, 4] (Q79.spec q2) h3 rfl Zu) ?_
 rintro _ w3 ⟨_, ⟨A5, c_5, rfl, rfl⟩, h4⟩
 replace h4 := nf h4
 refine Zm [0, 3, 13, 14, 15] rfl ?_
 refine J.block ?_
 have h11 := h4.addNil 23 (.int .u32)
 have h12 := (sOR h11 [4, 4, 3, 6, 3, 3, 3, 3, 0, 0] [])
 refine J.loop (fun kk env w => ∃ (x1 : List (Int)) (A6 : Option Addr) (c_6 : Nat) (x2 : Int), env = [(0, .pointer (some ⟨b1, 0, none⟩)), (3, .slice A6 x1.length c_6), (13, .slice A5 r2.length c_5), (14, .int .i64 (r2.length : Int)), (15, .int .i64 x2)] ∧ St w0 F0 [Yk b1 (.pointer (some ⟨b2, 0, none⟩)) a0.2.1 A2 c_2 (.map (some b3)) a0.2.2.2.1 A3 c_3 (.pointer (some ⟨b4, 0, none⟩)), X51 b2 a0.1.1 a0.1.2.1 A1 c_1 a0.1.2.2.1 a0.1.2.2.2, Yc .u32 (Value.int .i64) b3 a0.2.2.1, Z8 b4 a0.2.2.2.2.1 A4 c_4 a0.2.2.2.2.2, O5 a0.1.2.1 A1 c_1, Yi a0.2.1 A2 c_2, O3 a0.2.2.2.1 A3 c_3, Z9 a0.2.2.2.2.1 A4 c_4, O23 x1 A6 c_6, O23 r2 A5 c_5] [] w ∧ Q2.l0 kk a0 r2 x1 x2 = some r) (k := k) ⟨([] : List (Int)), none, 0, 0, rfl, h12, H⟩ ?_
 rintro k1 env w4 ⟨x1, A6, c_6, x2, rfl, h5, H⟩
 rcases k1 with _ | k1
 ·exact z0 H
 rw [Q2.l0] at H
 refine J.seq (Zb [0, 3, 13, 14, 15, 16] ?_)
 refine J.seq (jIf H (fun c2 H => ?_) fun c2 H => ?_)
 ·refine J.skip (J.seq (J.block (J.seq (J.region ?_))))
  obtain ⟨⟨p1, p2⟩, H⟩ := Zq H
  have e1 := Z3 h5.wh (gO 9) p1 p2
  refine Zg (Zi e1 p1 p2) ?_
  refine Zg (Zj 0 h5.wht (gO 9) p1 p2) ?_
  refine Zm [0, 3, 5, 13, 14, 15] rfl ?_
  refine J.seq (Zs h5 ?_)
  have h6 := h5.drew
  refine Zx [0, 1, 2, 4, 5, 6, 8] ?_
  refine Zh 3 rfl (Za 0 wI) ?_
  refine Zh 7 rfl (Za 0 wI) ?_
  refine Zh 9 rfl (V4 (0 : Int) 2 wI) ?_
  obtain ⟨⟨p3, p4⟩, H⟩ := Zq H
  have e2 := Z3 h6.wh (gO 5) p3 p4
  refine Zh 10 rfl (Zi e2 p3 p4) ?_
  refine Zx [11] ?_
  refine Zh 12 rfl (Yg 2 wI (gO 5) p3 p4) ?_
  refine Z2 [0, 3, 5, 13, 14, 15, 31] ?_
  refine jIf H (fun c3 H => ?_) fun c3 H => ?_
  ·refine J.region (Zl 2 ?_)
   refine Ze (Ys (.int .u32) ([(gt r2 x2)] : List (Int)) h6) ?_
   rintro _ w5 ⟨b6, rfl, h7⟩
   replace h7 := nf h7
   obtain ⟨p5, H⟩ := Zq H
   refine Ze (Yq 9 h7 (gO 0) p5) ?_
   rintro _ w6 ⟨A7, c_7, rfl, h8⟩
   replace h8 := nf h8
   refine Zm [0, 3, 13, 14, 15] rfl ?_
   refine Zb [0, 3, 13, 14, 15] ?_
   have h9 := (sOR h8 [2, 2, 2, 2, 2, 2, 2, 2, 0, 1] [])
   exact ⟨k1, by omega, (x1 ++ ([(gt r2 x2)] : List (Int))), A7, c_7, (w64 (x2 + 1)), rfl, h9, H⟩
  refine J.skip (Zb [0, 3, 13, 14, 15] ?_)
  have h10 := (sOR h6 [0, 0, 0, 0, 0, 0, 0, 0, 0, 0] [])
  exact ⟨k1, by omega, x1, A6, c_6, (w64 (x2 + 1)), rfl, h10, H⟩
 refine J.exit (J.seq (Zb [2] ?_))
 refine J.ret ?_
 cases H
 exact ⟨_, _, _, Zc, ⟨_, _, rfl, rfl⟩, Zd h5 [8, 0, 0, 2, 2, 0, 1, 0, 0]⟩

def Q4.l0 : Nat → ((Int × List (Int) × (Int × Int)) × (List (Int × List (Int) × Bool × Int)) × (List (Int × Int)) × List (Int) × ((List (Int × Int × Bool)) × Int)) → (List (Int)) → (Int) → (List (Int)) → (Int) → (Int) → (List (Int × List (Int) × Bool × Int)) → (Int) → Option (Int × ((Int × List (Int) × (Int × Int)) × (List (Int × List (Int) × Bool × Int)) × (List (Int × Int)) × List (Int) × ((List (Int × Int × Bool)) × Int)))
 | 0, _, _, _, _, _, _, _, _ => none
 | k + 1, a0, r2, x1, x2, x3, x4, x5, x6 => if (decide (x6 < (r2.length : Int))) = true then (if 0 ≤ x6 ∧ x6 < (r2.length : Int) then (if 0 ≤ (Zt (0 : Int) a0.2.2.1 (gt r2 x6)) ∧ (Zt (0 : Int) a0.2.2.1 (gt r2 x6)) < (x5.length : Int) then (if (gt x5 (Zt (0 : Int) a0.2.2.1 (gt r2 x6))).2.2.1 = true then ((Q34.f (x1, x2, (x3, x4)) ((gt x5 (Zt (0 : Int) a0.2.2.1 (gt r2 x6))).1) ((gt x5 (Zt (0 : Int) a0.2.2.1 (gt r2 x6))).2.1)).bind fun r3 => (Q4.l0 k a0 r2 r3.2.1 r3.2.2.1 r3.2.2.2.1 r3.2.2.2.2 (x5.set (Zt (0 : Int) a0.2.2.1 (gt r2 x6)).toNat ((gt x5 (Zt (0 : Int) a0.2.2.1 (gt r2 x6))).1, (gt x5 (Zt (0 : Int) a0.2.2.1 (gt r2 x6))).2.1, false, (gt x5 (Zt (0 : Int) a0.2.2.1 (gt r2 x6))).2.2.2)) (w64 (x6 + 1)))) else (Q4.l0 k a0 r2 x1 x2 x3 x4 x5 (w64 (x6 + 1)))) else none) else none) else (some (0, ((x1, x2, (x3, x4)), x5, a0.2.2.1, a0.2.2.2.1, a0.2.2.2.2)))
def Q4.f (k : Nat) (a0 : (Int × List (Int) × (Int × Int)) × (List (Int × List (Int) × Bool × Int)) × (List (Int × Int)) × List (Int) × ((List (Int × Int × Bool)) × Int)) : Option (Int × ((Int × List (Int) × (Int × Int)) × (List (Int × List (Int) × Bool × Int)) × (List (Int × Int)) × List (Int) × ((List (Int × Int × Bool)) × Int))) := (Q14.f a0).bind fun r1 => (if r1 = true then (some (1, a0)) else ((Q2.f k a0).bind fun r2 => (Q4.l0 k a0 r2 a0.1.1 a0.1.2.1 a0.1.2.2.1 a0.1.2.2.2 a0.2.1 0)))
theorem Q4.spec {k : Nat} {a0 : (Int × List (Int) × (Int × Int)) × (List (Int × List (Int) × Bool × Int)) × (List (Int × Int)) × List (Int) × ((List (Int × Int × Bool)) × Int)} {b1 : Nat} {b2 : Nat} {b3 : Nat} {b4 : Nat} {A1 : Option Addr} {c_1 : Nat} {A2 : Option Addr} {c_2 : Nat} {A3 : Option Addr} {c_3 : Nat} {A4 : Option Addr} {c_4 : Nat} {r : Int × ((Int × List (Int) × (Int × Int)) × (List (Int × List (Int) × Bool × Int)) × (List (Int × Int)) × List (Int) × ((List (Int × Int × Bool)) × Int))} (H : Q4.f k a0 = some r) :
  Spec Try.prog 54 [.pointer (some ⟨b1, 0, none⟩)] [Yk b1 (.pointer (some ⟨b2, 0, none⟩)) a0.2.1 A2 c_2 (.map (some b3)) a0.2.2.2.1 A3 c_3 (.pointer (some ⟨b4, 0, none⟩)), X51 b2 a0.1.1 a0.1.2.1 A1 c_1 a0.1.2.2.1 a0.1.2.2.2, O5 a0.1.2.1 A1 c_1, Yi a0.2.1 A2 c_2, Yc .u32 (Value.int .i64) b3 a0.2.2.1, O3 a0.2.2.2.1 A3 c_3, Z8 b4 a0.2.2.2.2.1 A4 c_4 a0.2.2.2.2.2, Z9 a0.2.2.2.2.1 A4 c_4] [] (fun v l => ∃ (A_0 : Option Addr) (c_0 : Nat) (A_1 : Option Addr) (c_1 : Nat) (A_2 : Option Addr) (c_2 : Nat) (A_3 : Option Addr) (c_3 : Nat), v = .int .i64 r.1 ∧ l = [Yk b1 (.pointer (some ⟨b2, 0, none⟩)) r.2.2.1 A_1 c_1 (.map (some b3)) r.2.2.2.2.1 A_2 c_2 (.pointer (some ⟨b4, 0, none⟩)), X51 b2 r.2.1.1 r.2.1.2.1 A_0 c_0 r.2.1.2.2.1 r.2.1.2.2.2, O5 r.2.1.2.1 A_0 c_0, Yi r.2.2.1 A_1 c_1, Yc .u32 (Value.int .i64) b3 r.2.2.2.1, O3 r.2.2.2.2.1 A_2 c_2, Z8 b4 r.2.2.2.2.2.1 A_3 c_3 r.2.2.2.2.2.2, Z9 r.2.2.2.2.2.1 A_3 c_3]) := by
 refine Zr Try.func54 fun w0 F0 h0 => ?_
 unfold Q4.f at H
 refine J.seq (Zb [0] ?_)
 refine J.seq (J.seq (J.region ?_))
 refine Zl 1 ?_
 obtain ⟨r1, q1, H⟩ := Zp H
 refine Ze (Zk [0, 0, 0, 0, 0, 0, 0, 0] (Q14.spec q1) h0 rfl Zu) ?_
 rintro _ w1 ⟨_, ⟨rfl, rfl⟩, h1⟩
 replace h1 := nf h1
 refine Zm [0, 6] rfl ?_
 refine jIf H (fun c1 H => ?_) fun c1 H => ?_
 ·refine J.seq (Zb [2] ?_)
  refine J.ret ?_
  cases H
  exact ⟨_, _, _, Zc, ⟨_, _, _, _, _, _, _, _, rfl, rfl⟩, Zd h1 [0, 0, 0, 0, 0, 0, 0, 0]⟩
 refine J.skip (J.seq (J.seq (J.region ?_)))
 refine Zl 1 ?_
 obtain ⟨r2, q2, H⟩ := Zp H
 refine Ze (Zk [0, 0, 0, 0, 0, 0, 0, 0] (Q2.spec q2) h1 rfl Zu) ?_
 rintro _ w2 ⟨_, ⟨A5, c_5, rfl, rfl⟩, h2⟩
 replace h2 := nf h2
 refine Zm [0, 8, 9, 10] rfl ?_
 refine J.block ?_
 have h12 := (sOR h2 [1, 1, 3, 4, 1, 1, 1, 1, 0] [])
 refine J.loop (fun kk env w => ∃ (x1 : Int) (x2 : List (Int)) (A6 : Option Addr) (c_6 : Nat) (x3 : Int) (x4 : Int) (x5 : List (Int × List (Int) × Bool × Int)) (A7 : Option Addr) (c_7 : Nat) (x6 : Int), env = [(0, .pointer (some ⟨b1, 0, none⟩)), (8, .slice A5 r2.length c_5), (9, .int .i64 (r2.length : Int)), (10, .int .i64 x6)] ∧ St w0 F0 [Yk b1 (.pointer (some ⟨b2, 0, none⟩)) x5 A7 c_7 (.map (some b3)) a0.2.2.2.1 A3 c_3 (.pointer (some ⟨b4, 0, none⟩)), X51 b2 x1 x2 A6 c_6 x3 x4, Yc .u32 (Value.int .i64) b3 a0.2.2.1, Z8 b4 a0.2.2.2.2.1 A4 c_4 a0.2.2.2.2.2, O5 x2 A6 c_6, Yi x5 A7 c_7, O3 a0.2.2.2.1 A3 c_3, Z9 a0.2.2.2.2.1 A4 c_4, O23 r2 A5 c_5] [] w ∧ Q4.l0 kk a0 r2 x1 x2 x3 x4 x5 x6 = some r) (k := k) ⟨a0.1.1, a0.1.2.1, A1, c_1, a0.1.2.2.1, a0.1.2.2.2, a0.2.1, A2, c_2, 0, rfl, h12, H⟩ ?_
 rintro k1 env w3 ⟨x1, x2, A6, c_6, x3, x4, x5, A7, c_7, x6, rfl, h3, H⟩
 rcases k1 with _ | k1
 ·exact z0 H
 rw [Q4.l0] at H
 refine J.seq (Zb [0, 8, 9, 10, 11] ?_)
 refine J.seq (jIf H (fun c2 H => ?_) fun c2 H => ?_)
 ·refine J.skip (J.seq (J.block (J.seq (J.region ?_))))
  obtain ⟨⟨p1, p2⟩, H⟩ := Zq H
  have e1 := Z3 h3.wh (gO 8) p1 p2
  refine Zg (Zi e1 p1 p2) ?_
  refine Zg (Zj 0 h3.wht (gO 8) p1 p2) ?_
  refine Zm [0, 4, 8, 9, 10] rfl ?_
  refine Zs (Zd h3 [0, 1, 1, 3, 3, 3]) ?_
  have h4 := h3.drew
  refine Zx [0, 1, 2, 3, 5, 6, 7, 9] ?_
  refine Zh 4 rfl (Za 0 wI) ?_
  refine Zh 8 rfl (Za 0 wI) ?_
  refine Zh 10 rfl (V4 (0 : Int) 1 wI) ?_
  obtain ⟨⟨p3, p4⟩, H⟩ := Zq H
  have e2 := Z3 h4.wh (gO 5) p3 p4
  refine Zh 11 rfl (Zi e2 p3 p4) ?_
  refine Zbb 12 rfl Try.func100 ?_
  refine J.seq (J.region ?_)
  refine Zl 3 ?_
  refine Zg (Yg 2 h4.wht (gO 5) p3 p4) ?_
  refine Zm [0, 1, 7] rfl ?_
  refine jIf H (fun c3 H => ?_) fun c3 H => ?_
  ·refine J.seq ?_
   obtain ⟨A8, c_8, h5⟩ := h4.openI 5 rfl p3 p4
   refine Zs (Zd h5 [0, 0, 1, 1, 2, 2, 2]) ?_
   have h6 := h5.drew
   refine Zx [0, 1, 2, 4, 5, 6, 8, 9, 10] ?_
   refine Zh 3 rfl (Za 1 wI) ?_
   refine Zh 7 rfl (Yg 0 wI (Wo 0 Zda) p3 p4) ?_
   refine Zh 11 rfl (Vz wI (Zf 0)) ?_
   obtain ⟨r3, q3, H⟩ := Zp H
   refine Zn 12 rfl (Zk [2, 4] (Q34.spec q3) h6 rfl (Zv (Wo 0 B4) Zu)) ?_
   rintro _ w4 ⟨_, ⟨A9, c_9, rfl, rfl⟩, h7⟩
   replace h7 := nf h7
   refine ⟨⟨[_, _], h7⟩, ?_⟩
   refine Z2 [1] ?_
   have h8 := h7.closeI 2 rfl
   refine J.region (Zl 3 ?_)
   refine Ze (Xr 2 (.pair (.int .u32) (.pair (.slice 5 (.int .u8)) (.pair .bool (.int .i64)))) (Zt (0 : Int) a0.2.2.1 (gt r2 x6)) ((gt x5 (Zt (0 : Int) a0.2.2.1 (gt r2 x6))).1, (gt x5 (Zt (0 : Int) a0.2.2.1 (gt r2 x6))).2.1, false, (gt x5 (Zt (0 : Int) a0.2.2.1 (gt r2 x6))).2.2.2) 0 h8 rfl p3 p4 (V6 rfl rfl)) ?_
   intro _ w5 h9
   replace h9 := nf h9
   replace h9 : St w0 F0 [Yi (x5.set (Zt (0 : Int) a0.2.2.1 (gt r2 x6)).toNat ((gt x5 (Zt (0 : Int) a0.2.2.1 (gt r2 x6))).1, (gt x5 (Zt (0 : Int) a0.2.2.1 (gt r2 x6))).2.1, false, (gt x5 (Zt (0 : Int) a0.2.2.1 (gt r2 x6))).2.2.2)) A7 c_7, X51 b2 r3.2.1 r3.2.2.1 A9 c_9 r3.2.2.2.1 r3.2.2.2.2, O5 r3.2.2.1 A9 c_9, Yk b1 (.pointer (some ⟨b2, 0, none⟩)) (x5.set (Zt (0 : Int) a0.2.2.1 (gt r2 x6)).toNat ((gt x5 (Zt (0 : Int) a0.2.2.1 (gt r2 x6))).1, (gt x5 (Zt (0 : Int) a0.2.2.1 (gt r2 x6))).2.1, false, (gt x5 (Zt (0 : Int) a0.2.2.1 (gt r2 x6))).2.2.2)) A7 c_7 (.map (some b3)) a0.2.2.2.1 A3 c_3 (.pointer (some ⟨b4, 0, none⟩)), Yc .u32 (Value.int .i64) b3 a0.2.2.1, Z8 b4 a0.2.2.2.2.1 A4 c_4 a0.2.2.2.2.2, O3 a0.2.2.2.1 A3 c_3, Z9 a0.2.2.2.2.1 A4 c_4, O23 r2 A5 c_5] _ _ := h9.retell (by simp only [List.length_set, List.length_nil, Yi, Z9, O23, O3, O5, Yk, Z8, X51] <;> rfl)
   refine Zm [] rfl ?_
   refine ⟨_, Zc, ?_⟩
   replace h9 := nf h9
   refine ⟨⟨[Yi (x5.set (Zt (0 : Int) a0.2.2.1 (gt r2 x6)).toNat ((gt x5 (Zt (0 : Int) a0.2.2.1 (gt r2 x6))).1, (gt x5 (Zt (0 : Int) a0.2.2.1 (gt r2 x6))).2.1, false, (gt x5 (Zt (0 : Int) a0.2.2.1 (gt r2 x6))).2.2.2)) A7 c_7, X51 b2 r3.2.1 r3.2.2.1 A9 c_9 r3.2.2.2.1 r3.2.2.2.2, O5 r3.2.2.1 A9 c_9], (h9.retell (by simp only [List.length_set, List.cons_append, List.nil_append, List.length_nil, Yi, Z9, O23, O3, O5, Yk, Z8, X51] <;> rfl))⟩, ?_⟩
   refine Z2 [0, 8, 9, 10] ?_
   refine Zb [0, 8, 9, 10] ?_
   have h10 := (sOR h9 [3, 1, 2, 2, 1, 0, 0, 0, 0] [])
   exact ⟨k1, by omega, r3.2.1, r3.2.2.1, A9, c_9, r3.2.2.2.1, r3.2.2.2.2, (x5.set (Zt (0 : Int) a0.2.2.1 (gt r2 x6)).toNat ((gt x5 (Zt (0 : Int) a0.2.2.1 (gt r2 x6))).1, (gt x5 (Zt (0 : Int) a0.2.2.1 (gt r2 x6))).2.1, false, (gt x5 (Zt (0 : Int) a0.2.2.1 (gt r2 x6))).2.2.2)), A7, c_7, (w64 (x6 + 1)), rfl, h10, H⟩
  refine J.skip (⟨_, Zc, ?_⟩)
  replace h4 := nf h4
  refine ⟨⟨[_, _, _], (Zd h4 [1, 3, 3, 0, 0, 0, 0, 0, 0])⟩, ?_⟩
  refine Z2 [0, 8, 9, 10] ?_
  refine Zb [0, 8, 9, 10] ?_
  have h11 := (sOR h4 [0, 0, 0, 0, 0, 0, 0, 0, 0] [])
  exact ⟨k1, by omega, x1, x2, A6, c_6, x3, x4, x5, A7, c_7, (w64 (x6 + 1)), rfl, h11, H⟩
 refine J.exit (J.seq (Zb [2] ?_))
 refine J.ret ?_
 cases H
 exact ⟨_, _, _, Zc, ⟨_, _, _, _, _, _, _, _, rfl, rfl⟩, Zd h3 [0, 0, 2, 2, 0, 1, 0, 0]⟩

def Q8.f (a0 : (Int × List (Int) × (Int × Int)) × (List (Int × List (Int) × Bool × Int)) × (List (Int × Int)) × List (Int) × ((List (Int × Int × Bool)) × Int)) (a1 : Int) : Option (List (Int) × Int) := (Q14.f a0).bind fun r1 => (if r1 = true then (some (([] : List (Int)), 1)) else (if (!(Yy a0.2.2.1 a1)) = true then (some (([] : List (Int)), 8)) else (if 0 ≤ (Zt (0 : Int) a0.2.2.1 a1) ∧ (Zt (0 : Int) a0.2.2.1 a1) < (a0.2.1.length : Int) then (if (decide (((gt a0.2.1 (Zt (0 : Int) a0.2.2.1 a1)).2.2.2) = 0)) = true then (some (([] : List (Int)), 8)) else ((Q37.f ((gt a0.2.1 (Zt (0 : Int) a0.2.2.1 a1)).2.1)).bind fun r2 => (some (r2, 0)))) else none)))
theorem Q8.spec {a0 : (Int × List (Int) × (Int × Int)) × (List (Int × List (Int) × Bool × Int)) × (List (Int × Int)) × List (Int) × ((List (Int × Int × Bool)) × Int)} {a1 : Int} {b1 : Nat} {b2 : Nat} {b3 : Nat} {b4 : Nat} {A1 : Option Addr} {c_1 : Nat} {A2 : Option Addr} {c_2 : Nat} {A3 : Option Addr} {c_3 : Nat} {A4 : Option Addr} {c_4 : Nat} {r : List (Int) × Int} (H : Q8.f a0 a1 = some r) :
  Spec Try.prog 53 [.pointer (some ⟨b1, 0, none⟩), .int .u32 a1] [Yk b1 (.pointer (some ⟨b2, 0, none⟩)) a0.2.1 A2 c_2 (.map (some b3)) a0.2.2.2.1 A3 c_3 (.pointer (some ⟨b4, 0, none⟩)), X51 b2 a0.1.1 a0.1.2.1 A1 c_1 a0.1.2.2.1 a0.1.2.2.2, O5 a0.1.2.1 A1 c_1, Yi a0.2.1 A2 c_2, Yc .u32 (Value.int .i64) b3 a0.2.2.1, O3 a0.2.2.2.1 A3 c_3, Z8 b4 a0.2.2.2.2.1 A4 c_4 a0.2.2.2.2.2, Z9 a0.2.2.2.2.1 A4 c_4] [] (fun v l => ∃ (A_0 : Option Addr) (c_0 : Nat), v = .tuple #[.slice A_0 r.1.length c_0, .int .i64 r.2] ∧ l = [O5 r.1 A_0 c_0, Yk b1 (.pointer (some ⟨b2, 0, none⟩)) a0.2.1 A2 c_2 (.map (some b3)) a0.2.2.2.1 A3 c_3 (.pointer (some ⟨b4, 0, none⟩)), X51 b2 a0.1.1 a0.1.2.1 A1 c_1 a0.1.2.2.1 a0.1.2.2.2, O5 a0.1.2.1 A1 c_1, Yi a0.2.1 A2 c_2, Yc .u32 (Value.int .i64) b3 a0.2.2.1, O3 a0.2.2.2.1 A3 c_3, Z8 b4 a0.2.2.2.2.1 A4 c_4 a0.2.2.2.2.2, Z9 a0.2.2.2.2.1 A4 c_4]) := by
 refine Zr Try.func53 fun w0 F0 h0 => ?_
 unfold Q8.f at H
 refine J.seq (Zb [0, 1] ?_)
 refine J.seq (J.region ?_)
 refine Zl 2 ?_
 refine Yl Try.func99 ?_
 refine J.seq (Zb [0, 1] ?_)
 refine J.seq (J.seq (J.region ?_))
 refine Zl 1 ?_
 obtain ⟨r1, q1, H⟩ := Zp H
 refine Ze (Zk [0, 0, 0, 0, 0, 0, 0, 0] (Q14.spec q1) h0 rfl Zu) ?_
 rintro _ w1 ⟨_, ⟨rfl, rfl⟩, h1⟩
 replace h1 := nf h1
 refine Zm [0, 1, 9] rfl ?_
 refine jIf H (fun c1 H => ?_) fun c1 H => ?_
 ·refine J.seq (Zb [4, 5] ?_)
  refine J.ret (⟨_, Zc, ?_⟩)
  refine Zm [6, 7] rfl ?_
  refine J.seq (J.seq (Zb [6, 7, 15] ?_))
  refine Z6 ?_
  refine J.seq (Zb [4, 5] ?_)
  refine J.ret ?_
  have h2 := h1.addNil 5 (.int .u8)
  cases H
  exact ⟨_, _, _, Zc, ⟨_, _, rfl, rfl⟩, Zd h2 [0, 0, 0, 0, 0, 0, 0, 0, 0]⟩
 refine J.skip (J.seq (J.region ?_))
 refine Zl 3 ?_
 refine Zg (Za 0 h1.wht) ?_
 refine Zl 1 ?_
 refine Zg (Xg (0 : Int) 4 h1.wht) ?_
 refine Zm [0, 6, 7] rfl ?_
 refine J.seq (J.seq (J.region ?_))
 refine Zl 3 ?_
 refine Xq 21 H (fun c2 H => ?_) fun c2 H => ?_
 ·refine Zm [0, 6, 31] rfl ?_
  refine Z6 ?_
  refine J.seq (Zb [4, 5] ?_)
  refine J.ret (⟨_, Zc, ?_⟩)
  refine Zm [6, 7] rfl ?_
  refine J.seq (J.seq (Zb [6, 7, 15] ?_))
  refine Z6 ?_
  refine J.seq (Zb [4, 5] ?_)
  refine J.ret ?_
  have h3 := h1.addNil 5 (.int .u8)
  cases H
  exact ⟨_, _, _, Zc, ⟨_, _, rfl, rfl⟩, Zd h3 [0, 0, 0, 0, 0, 0, 0, 0, 0]⟩
 refine Zl 3 ?_
 refine Zg (Za 0 h1.wht) ?_
 refine Zl 1 ?_
 obtain ⟨⟨p1, p2⟩, H⟩ := Zq H
 have e1 := Z3 h1.wh (gO 3) p1 p2
 refine Zg (Zi e1 p1 p2) ?_
 refine Zl 1 ?_
 refine Zg (Yg 3 h1.wht (gO 3) p1 p2) ?_
 refine Zm [0, 6, 31] rfl ?_
 refine jIf H (fun c3 H => ?_) fun c3 H => ?_
 ·refine J.seq (Zb [4, 5] ?_)
  refine J.ret (⟨_, Zc, ?_⟩)
  refine Zm [6, 7] rfl ?_
  refine J.seq (J.seq (Zb [6, 7, 15] ?_))
  refine Z6 ?_
  refine J.seq (Zb [4, 5] ?_)
  refine J.ret ?_
  have h4 := h1.addNil 5 (.int .u8)
  cases H
  exact ⟨_, _, _, Zc, ⟨_, _, rfl, rfl⟩, Zd h4 [0, 0, 0, 0, 0, 0, 0, 0, 0]⟩
 refine J.skip (J.seq (J.region ?_))
 refine Zl 3 ?_
 refine Zg (Za 0 h1.wht) ?_
 refine Zl 1 ?_
 refine Zg (Zi e1 p1 p2) ?_
 refine Zm [4, 5] rfl ?_
 refine J.ret (⟨_, Zc, ?_⟩)
 refine Zm [6, 7] rfl ?_
 refine J.seq (J.seq (Zb [6, 7, 15] ?_))
 refine Z7 ?_
 refine J.skip (J.seq ?_)
 obtain ⟨A5, c_5, h5⟩ := h1.openI 3 rfl p1 p2
 refine J.region (Zl 3 ?_)
 refine Zg (Vz h5.wht (Zf 0)) ?_
 obtain ⟨r2, q2, H⟩ := Zp H
 refine Ze (Zk [] (Q37.spec q2) h5 rfl (Zv (Wo 0 B4) Zu)) ?_
 rintro _ w2 ⟨_, ⟨A6, c_6, rfl, rfl⟩, h6⟩
 replace h6 := nf h6
 refine Zm [4, 5] rfl ?_
 have h7 := h6.closeI 1 rfl
 refine J.ret ?_
 cases H
 exact ⟨_, _, _, Zc, ⟨_, _, rfl, rfl⟩, Zd h7 [1, 1, 1, 1, 0, 0, 0, 0, 0]⟩

def Q56.f (k : Nat) (a0 : (Int × List (Int) × (Int × Int)) × (List (Int × List (Int) × Bool × Int)) × (List (Int × Int)) × List (Int) × ((List (Int × Int × Bool)) × Int)) (a1 : Int × Int × List (Int)) : Option (Int × ((Int × List (Int) × (Int × Int)) × (List (Int × List (Int) × Bool × Int)) × (List (Int × Int)) × List (Int) × ((List (Int × Int × Bool)) × Int))) := if (decide (a1.1 = 0)) = true then ((Q6.f a0 a1.2.1).bind fun r1 => (some r1)) else (if (decide (a1.1 = 1)) = true then ((Q6.f a0 a1.2.1).bind fun r2 => (some r2)) else (if (decide (a1.1 = 2)) = true then ((Q5.f a0 a1.2.1).bind fun r3 => (some r3)) else (if (decide (a1.1 = 3)) = true then ((Q10.f a0 a1.2.1).bind fun r4 => (some r4)) else (if (decide (a1.1 = 4)) = true then ((Q10.f a0 a1.2.1).bind fun r5 => (some r5)) else (if (decide (a1.1 = 5)) = true then ((Q12.f a0 a1.2.1 a1.2.2).bind fun r6 => (some r6)) else (if (decide (a1.1 = 6)) = true then ((Q12.f a0 a1.2.1 a1.2.2).bind fun r7 => (some r7)) else (if (decide (a1.1 = 7)) = true then ((Q3.f a0 a1.2.1).bind fun r8 => (some r8)) else (if (decide (a1.1 = 8)) = true then ((Q4.f k a0).bind fun r9 => (some r9)) else (if (decide (a1.1 = 9)) = true then ((Q8.f a0 a1.2.1).bind fun r10 => (some (r10.2, a0))) else (some (0, a0)))))))))))
theorem Q56.spec {k : Nat} {a0 : (Int × List (Int) × (Int × Int)) × (List (Int × List (Int) × Bool × Int)) × (List (Int × Int)) × List (Int) × ((List (Int × Int × Bool)) × Int)} {a1 : Int × Int × List (Int)} {A5 : Option Addr} {c_5 : Nat} {b1 : Nat} {b2 : Nat} {b3 : Nat} {b4 : Nat} {A1 : Option Addr} {c_1 : Nat} {A2 : Option Addr} {c_2 : Nat} {A3 : Option Addr} {c_3 : Nat} {A4 : Option Addr} {c_4 : Nat} {r : Int × ((Int × List (Int) × (Int × Int)) × (List (Int × List (Int) × Bool × Int)) × (List (Int × Int)) × List (Int) × ((List (Int × Int × Bool)) × Int))} (H : Q56.f k a0 a1 = some r) :
  Spec Try.prog 50 [.pointer (some ⟨b1, 0, none⟩), .agg #[.int .i64 a1.1, .int .u32 a1.2.1, .slice A5 a1.2.2.length c_5]] [Yk b1 (.pointer (some ⟨b2, 0, none⟩)) a0.2.1 A2 c_2 (.map (some b3)) a0.2.2.2.1 A3 c_3 (.pointer (some ⟨b4, 0, none⟩)), X51 b2 a0.1.1 a0.1.2.1 A1 c_1 a0.1.2.2.1 a0.1.2.2.2, O5 a0.1.2.1 A1 c_1, Yi a0.2.1 A2 c_2, Yc .u32 (Value.int .i64) b3 a0.2.2.1, O3 a0.2.2.2.1 A3 c_3, Z8 b4 a0.2.2.2.2.1 A4 c_4 a0.2.2.2.2.2, Z9 a0.2.2.2.2.1 A4 c_4] [R5 a1.2.2 A5 c_5] (fun v l => ∃ (A_0 : Option Addr) (c_0 : Nat) (A_1 : Option Addr) (c_1 : Nat) (A_2 : Option Addr) (c_2 : Nat) (A_3 : Option Addr) (c_3 : Nat), v = .int .i64 r.1 ∧ l = [Yk b1 (.pointer (some ⟨b2, 0, none⟩)) r.2.2.1 A_1 c_1 (.map (some b3)) r.2.2.2.2.1 A_2 c_2 (.pointer (some ⟨b4, 0, none⟩)), X51 b2 r.2.1.1 r.2.1.2.1 A_0 c_0 r.2.1.2.2.1 r.2.1.2.2.2, O5 r.2.1.2.1 A_0 c_0, Yi r.2.2.1 A_1 c_1, Yc .u32 (Value.int .i64) b3 r.2.2.2.1, O3 r.2.2.2.2.1 A_2 c_2, Z8 b4 r.2.2.2.2.2.1 A_3 c_3 r.2.2.2.2.2.2, Z9 r.2.2.2.2.2.1 A_3 c_3]) := by
 refine Zr Try.func50 fun w0 F0 h0 => ?_
 unfold Q56.f at H
 refine J.seq (J.region ?_)
 refine Ze (Y2 h0) ?_
 rintro _ w1 ⟨b5, rfl, h1⟩
 replace h1 := nf h1
 refine Zm [0, 3] rfl ?_
 refine J.seq (J.region ?_)
 refine Zl 1 ?_
 refine Zg (Za 0 h1.wht) ?_
 refine Zm [0, 3, 8] rfl ?_
 refine J.block (J.seq (J.seq (Zb [0, 3, 8, 9] ?_)))
 refine jIf H (fun c1 H => ?_) fun c1 H => ?_
 ·refine J.skip (J.cond rfl (fun e => ?_) (fun e => by rw [c1] at e; cases e))
  refine J.seq (J.region ?_)
  refine Zl 2 ?_
  refine Zg (Za 0 h1.wht) ?_
  obtain ⟨r1, q1, H⟩ := Zp H
  refine Ze (Zk [1, 1, 1, 1, 1, 1, 1, 1] (Q6.spec q1) h1 rfl Zu) ?_
  rintro _ w2 ⟨_, ⟨A6, c_6, A7, c_7, A8, c_8, A9, c_9, rfl, rfl⟩, h2⟩
  replace h2 := nf h2
  refine Zm [4] rfl ?_
  refine J.ret ?_
  cases H
  exact ⟨_, _, _, Zc, ⟨_, _, _, _, _, _, _, _, rfl, rfl⟩, Zd h2 [0, 0, 0, 0, 0, 0, 0, 0]⟩
 refine Zb [0, 3, 8, 9] ?_
 refine jIf H (fun c2 H => ?_) fun c2 H => ?_
 ·refine J.seq (J.region ?_)
  refine Zl 2 ?_
  refine Zg (Za 0 h1.wht) ?_
  obtain ⟨r2, q2, H⟩ := Zp H
  refine Ze (Zk [1, 1, 1, 1, 1, 1, 1, 1] (Q6.spec q2) h1 rfl Zu) ?_
  rintro _ w3 ⟨_, ⟨A10, c_10, A11, c_11, A12, c_12, A13, c_13, rfl, rfl⟩, h3⟩
  replace h3 := nf h3
  refine Zm [4] rfl ?_
  refine J.ret ?_
  cases H
  exact ⟨_, _, _, Zc, ⟨_, _, _, _, _, _, _, _, rfl, rfl⟩, Zd h3 [0, 0, 0, 0, 0, 0, 0, 0]⟩
 refine J.seq (Zb [0, 3, 8, 16] ?_)
 refine jIf H (fun c3 H => ?_) fun c3 H => ?_
 ·refine J.seq (J.region ?_)
  refine Zl 2 ?_
  refine Zg (Za 0 h1.wht) ?_
  obtain ⟨r3, q3, H⟩ := Zp H
  refine Ze (Zk [1, 1, 1, 1, 1, 1, 1, 1] (Q5.spec q3) h1 rfl Zu) ?_
  rintro _ w4 ⟨_, ⟨A14, c_14, A15, c_15, A16, c_16, A17, c_17, rfl, rfl⟩, h4⟩
  replace h4 := nf h4
  refine Zm [4] rfl ?_
  refine J.ret ?_
  cases H
  exact ⟨_, _, _, Zc, ⟨_, _, _, _, _, _, _, _, rfl, rfl⟩, Zd h4 [0, 0, 0, 0, 0, 0, 0, 0]⟩
 refine J.seq (J.seq (Zb [0, 3, 8, 22] ?_))
 refine jIf H (fun c4 H => ?_) fun c4 H => ?_
 ·refine J.skip (J.cond rfl (fun e => ?_) (fun e => by rw [c4] at e; cases e))
  refine J.seq (J.region ?_)
  refine Zl 2 ?_
  refine Zg (Za 0 h1.wht) ?_
  obtain ⟨r4, q4, H⟩ := Zp H
  refine Ze (Zk [1, 1, 1, 1, 1, 1, 1, 1] (Q10.spec q4) h1 rfl Zu) ?_
  rintro _ w5 ⟨_, ⟨A18, c_18, A19, c_19, A20, c_20, A21, c_21, rfl, rfl⟩, h5⟩
  replace h5 := nf h5
  refine Zm [4] rfl ?_
  refine J.ret ?_
  cases H
  exact ⟨_, _, _, Zc, ⟨_, _, _, _, _, _, _, _, rfl, rfl⟩, Zd h5 [0, 0, 0, 0, 0, 0, 0, 0]⟩
 refine Zb [0, 3, 8, 22] ?_
 refine jIf H (fun c5 H => ?_) fun c5 H => ?_
 ·refine J.seq (J.region ?_)
  refine Zl 2 ?_
  refine Zg (Za 0 h1.wht) ?_
  obtain ⟨r5, q5, H⟩ := Zp H
  refine Ze (Zk [1, 1, 1, 1, 1, 1, 1, 1] (Q10.spec q5) h1 rfl Zu) ?_
  rintro _ w6 ⟨_, ⟨A22, c_22, A23, c_23, A24, c_24, A25, c_25, rfl, rfl⟩, h6⟩
  replace h6 := nf h6
  refine Zm [4] rfl ?_
  refine J.ret ?_
  cases H
  exact ⟨_, _, _, Zc, ⟨_, _, _, _, _, _, _, _, rfl, rfl⟩, Zd h6 [0, 0, 0, 0, 0, 0, 0, 0]⟩
 refine J.seq (J.seq (Zb [0, 3, 8, 29] ?_))
 refine jIf H (fun c6 H => ?_) fun c6 H => ?_
 ·refine J.skip (J.cond rfl (fun e => ?_) (fun e => by rw [c6] at e; cases e))
  refine J.seq (J.region ?_)
  refine Zl 2 ?_
  refine Zg (Za 0 h1.wht) ?_
  refine Zl 1 ?_
  refine Zg (Za 0 h1.wht) ?_
  obtain ⟨r6, q6, H⟩ := Zp H
  refine Ze (Zk [1, 1, 1, 1, 1, 1, 1, 1] (Q12.spec q6) h1 rfl (Zv (Zf 1) Zu)) ?_
  rintro _ w7 ⟨_, ⟨A26, c_26, A27, c_27, A28, c_28, A29, c_29, rfl, rfl⟩, h7⟩
  replace h7 := nf h7
  refine Zm [4] rfl ?_
  refine J.ret ?_
  cases H
  exact ⟨_, _, _, Zc, ⟨_, _, _, _, _, _, _, _, rfl, rfl⟩, Zd h7 [0, 0, 0, 0, 0, 0, 0, 0]⟩
 refine Zb [0, 3, 8, 29] ?_
 refine jIf H (fun c7 H => ?_) fun c7 H => ?_
 ·refine J.seq (J.region ?_)
  refine Zl 2 ?_
  refine Zg (Za 0 h1.wht) ?_
  refine Zl 1 ?_
  refine Zg (Za 0 h1.wht) ?_
  obtain ⟨r7, q7, H⟩ := Zp H
  refine Ze (Zk [1, 1, 1, 1, 1, 1, 1, 1] (Q12.spec q7) h1 rfl (Zv (Zf 1) Zu)) ?_
  rintro _ w8 ⟨_, ⟨A30, c_30, A31, c_31, A32, c_32, A33, c_33, rfl, rfl⟩, h8⟩
  replace h8 := nf h8
  refine Zm [4] rfl ?_
  refine J.ret ?_
  cases H
  exact ⟨_, _, _, Zc, ⟨_, _, _, _, _, _, _, _, rfl, rfl⟩, Zd h8 [0, 0, 0, 0, 0, 0, 0, 0]⟩
 refine J.seq (Zb [0, 3, 8, 38] ?_)
 refine jIf H (fun c8 H => ?_) fun c8 H => ?_
 ·refine J.seq (J.region ?_)
  refine Zl 2 ?_
  refine Zg (Za 0 h1.wht) ?_
  obtain ⟨r8, q8, H⟩ := Zp H
  refine Ze (Zk [1, 1, 1, 1, 1, 1, 1, 1] (Q3.spec q8) h1 rfl Zu) ?_
  rintro _ w9 ⟨_, ⟨A34, c_34, A35, c_35, A36, c_36, A37, c_37, rfl, rfl⟩, h9⟩
  replace h9 := nf h9
  refine Zm [4] rfl ?_
  refine J.ret ?_
  cases H
  exact ⟨_, _, _, Zc, ⟨_, _, _, _, _, _, _, _, rfl, rfl⟩, Zd h9 [0, 0, 0, 0, 0, 0, 0, 0]⟩
 refine J.seq (Zb [0, 3, 8, 44] ?_)
 refine jIf H (fun c9 H => ?_) fun c9 H => ?_
 ·refine J.seq (J.region ?_)
  refine Zl 1 ?_
  obtain ⟨r9, q9, H⟩ := Zp H
  refine Ze (Zk [1, 1, 1, 1, 1, 1, 1, 1] (Q4.spec q9) h1 rfl Zu) ?_
  rintro _ w10 ⟨_, ⟨A38, c_38, A39, c_39, A40, c_40, A41, c_41, rfl, rfl⟩, h10⟩
  replace h10 := nf h10
  refine Zm [4] rfl ?_
  refine J.ret ?_
  cases H
  exact ⟨_, _, _, Zc, ⟨_, _, _, _, _, _, _, _, rfl, rfl⟩, Zd h10 [0, 0, 0, 0, 0, 0, 0, 0]⟩
 refine J.seq (Zb [0, 3, 48] ?_)
 refine jIf H (fun c10 H => ?_) fun c10 H => ?_
 ·refine J.seq (J.region ?_)
  refine Zl 2 ?_
  refine Zg (Za 0 h1.wht) ?_
  obtain ⟨r10, q10, H⟩ := Zp H
  refine Ze (Zk [1, 1, 1, 1, 1, 1, 1, 1] (Q8.spec q10) h1 rfl Zu) ?_
  rintro _ w11 ⟨_, ⟨A42, c_42, rfl, rfl⟩, h11⟩
  replace h11 := nf h11
  refine Zm [6] rfl ?_
  have h12 := Zd h11 [1, 1, 1, 1, 1, 1, 1, 1]
  replace h12 := nf h12
  refine J.seq (Zb [4] ?_)
  refine J.ret ?_
  cases H
  exact ⟨_, _, _, Zc, ⟨_, _, _, _, _, _, _, _, rfl, rfl⟩, Zd h12 [0, 0, 0, 0, 0, 0, 0, 0]⟩
 refine J.seq (Zb [4] ?_)
 refine J.ret ?_
 cases H
 exact ⟨_, _, _, Zc, ⟨_, _, _, _, _, _, _, _, rfl, rfl⟩, Zd h1 [1, 1, 1, 1, 1, 1, 1, 1]⟩

def Q31.f (a0 : Int × List (Int) × (Int × Int)) : Option (List (Int)) := (Q37.f a0.2.1).bind fun r1 => (some r1)
theorem Q31.spec {a0 : Int × List (Int) × (Int × Int)} {b1 : Nat} {A1 : Option Addr} {c_1 : Nat} {r : List (Int)} (H : Q31.f a0 = some r) :
  Spec Try.prog 23 [.pointer (some ⟨b1, 0, none⟩)] [X51 b1 a0.1 a0.2.1 A1 c_1 a0.2.2.1 a0.2.2.2, O5 a0.2.1 A1 c_1] [] (fun v l => ∃ (A_0 : Option Addr) (c_0 : Nat), v = .slice A_0 r.length c_0 ∧ l = [O5 r A_0 c_0, X51 b1 a0.1 a0.2.1 A1 c_1 a0.2.2.1 a0.2.2.2, O5 a0.2.1 A1 c_1]) := by
 refine Zr Try.func23 fun w0 F0 h0 => ?_
 unfold Q31.f at H
 refine J.seq (Zb [0] ?_)
 refine J.seq (J.seq (Zb [0, 4] ?_))
 refine Z7 ?_
 refine J.skip (J.seq (J.region ?_))
 refine Zl 3 ?_
 refine Zg (Za 0 h0.wht) ?_
 obtain ⟨r1, q1, H⟩ := Zp H
 refine Ze (Zk [] (Q37.spec q1) h0 rfl (Zv (gO 1) Zu)) ?_
 rintro _ w1 ⟨_, ⟨A2, c_2, rfl, rfl⟩, h1⟩
 replace h1 := nf h1
 refine Zm [2] rfl ?_
 refine J.ret ?_
 cases H
 exact ⟨_, _, _, Zc, ⟨_, _, rfl, rfl⟩, Zd h1 [0, 0, 0]⟩

def Q58.l0 : Nat → (Int × List (List UInt8) × Int × Int) → (List UInt8) → (Int) → Option (List UInt8)
 | 0, _, _, _ => none
 | k + 1, a0, x1, x2 => if (decide (x2 < (a0.2.1.length : Int))) = true then (if 0 ≤ x2 ∧ x2 < (a0.2.1.length : Int) then (if x1.length + (gt a0.2.1 x2).length ≤ 9223372036854775807 then (Q58.l0 k a0 (x1 ++ (gt a0.2.1 x2)) (w64 (x2 + 1))) else none) else none) else (some x1)
def Q58.f (k : Nat) (a0 : Int × List (List UInt8) × Int × Int) : Option (List UInt8) := Q58.l0 k a0 ([] : List UInt8) 0
theorem Q58.spec {k : Nat} {a0 : Int × List (List UInt8) × Int × Int} {A1 : Option Addr} {c_1 : Nat} {r : List UInt8} (H : Q58.f k a0 = some r) :
  Spec Try.prog 30 [.agg #[.int .i64 a0.1, .slice A1 a0.2.1.length c_1, .int .i64 a0.2.2.1, .int .i64 a0.2.2.2]] [] [R9 a0.2.1 A1 c_1] (fun v l => v = .string ⟨⟨r⟩⟩ ∧ l = []) := by
 refine Zr Try.func30 fun w0 F0 h0 => ?_
 unfold Q58.f at H
 refine J.seq (J.region ?_)
 refine Ze (Y2 h0) ?_
 rintro _ w1 ⟨b1, rfl, h1⟩
 replace h1 := nf h1
 refine Zm [1] rfl ?_
 refine J.seq (Zb [1, 3] ?_)
 refine J.seq (J.seq (Zb [1, 3, 4] ?_))
 refine J.block ?_
 have h4 := (sOR h1 [0] [0])
 refine J.loop (fun kk env w => ∃ (x1 : List UInt8) (x2 : Int), env = [(1, .pointer (some ⟨b1, 0, none⟩)), (3, .string ⟨⟨x1⟩⟩), (4, .int .i64 x2)] ∧ St w0 F0 [X40 b1 a0.1 a0.2.1 A1 c_1 a0.2.2.1 a0.2.2.2] [R9 a0.2.1 A1 c_1] w ∧ Q58.l0 kk a0 x1 x2 = some r) (k := k) ⟨([] : List UInt8), 0, rfl, h4, H⟩ ?_
 rintro k1 env w2 ⟨x1, x2, rfl, h2, H⟩
 rcases k1 with _ | k1
 ·exact z0 H
 rw [Q58.l0] at H
 refine J.seq (J.seq (J.region ?_))
 refine Zl 2 ?_
 refine Zg (Za 0 h2.wht) ?_
 refine Zm [1, 3, 4, 9] rfl ?_
 refine jIf H (fun c1 H => ?_) fun c1 H => ?_
 ·refine J.skip (J.seq (J.block (J.region ?_)))
  refine Zl 2 ?_
  refine Zg (Za 0 h2.wht) ?_
  refine Zl 1 ?_
  obtain ⟨⟨p1, p2⟩, H⟩ := Zq H
  have e1 := Z3 h2.wh (Zf 1) p1 p2
  refine Zg (Zi e1 p1 p2) ?_
  refine Zg (Zj 0 h2.wht (Zf 1) p1 p2) ?_
  obtain ⟨p3, H⟩ := Zq H
  refine Zg (Zcb p3) ?_
  refine Zm [1, 3, 4] rfl ?_
  refine Zb [1, 3, 4] ?_
  have h3 := (sOR h2 [0] [0])
  exact ⟨k1, by omega, (x1 ++ (gt a0.2.1 x2)), (w64 (x2 + 1)), rfl, h3, H⟩
 refine J.exit (J.seq (Zb [2] ?_))
 refine J.ret ?_
 cases H
 exact ⟨_, _, _, Zc, ⟨rfl, rfl⟩, Zd h2 []⟩

def Q7.f (a0 : (Int × List (Int) × (Int × Int)) × (List (Int × List (Int) × Bool × Int)) × (List (Int × Int)) × List (Int) × ((List (Int × Int × Bool)) × Int)) (a1 : Int) : Option (Int) := (Q14.f a0).bind fun r1 => (if r1 = true then (some 0) else (if (!(Yy a0.2.2.1 a1)) = true then (some 0) else (if 0 ≤ (Zt (0 : Int) a0.2.2.1 a1) ∧ (Zt (0 : Int) a0.2.2.1 a1) < (a0.2.1.length : Int) then (if (decide (((gt a0.2.1 (Zt (0 : Int) a0.2.2.1 a1)).2.2.2) = 0)) = true then (some 0) else (some ((gt a0.2.1 (Zt (0 : Int) a0.2.2.1 a1)).2.2.2))) else none)))
theorem Q7.spec {a0 : (Int × List (Int) × (Int × Int)) × (List (Int × List (Int) × Bool × Int)) × (List (Int × Int)) × List (Int) × ((List (Int × Int × Bool)) × Int)} {a1 : Int} {b1 : Nat} {b2 : Nat} {b3 : Nat} {b4 : Nat} {A1 : Option Addr} {c_1 : Nat} {A2 : Option Addr} {c_2 : Nat} {A3 : Option Addr} {c_3 : Nat} {A4 : Option Addr} {c_4 : Nat} {r : Int} (H : Q7.f a0 a1 = some r) :
  Spec Try.prog 61 [.pointer (some ⟨b1, 0, none⟩), .int .u32 a1] [Yk b1 (.pointer (some ⟨b2, 0, none⟩)) a0.2.1 A2 c_2 (.map (some b3)) a0.2.2.2.1 A3 c_3 (.pointer (some ⟨b4, 0, none⟩)), X51 b2 a0.1.1 a0.1.2.1 A1 c_1 a0.1.2.2.1 a0.1.2.2.2, O5 a0.1.2.1 A1 c_1, Yi a0.2.1 A2 c_2, Yc .u32 (Value.int .i64) b3 a0.2.2.1, O3 a0.2.2.2.1 A3 c_3, Z8 b4 a0.2.2.2.2.1 A4 c_4 a0.2.2.2.2.2, Z9 a0.2.2.2.2.1 A4 c_4] [] (fun v l => v = .int .i64 r ∧ l = [Yk b1 (.pointer (some ⟨b2, 0, none⟩)) a0.2.1 A2 c_2 (.map (some b3)) a0.2.2.2.1 A3 c_3 (.pointer (some ⟨b4, 0, none⟩)), X51 b2 a0.1.1 a0.1.2.1 A1 c_1 a0.1.2.2.1 a0.1.2.2.2, O5 a0.1.2.1 A1 c_1, Yi a0.2.1 A2 c_2, Yc .u32 (Value.int .i64) b3 a0.2.2.1, O3 a0.2.2.2.1 A3 c_3, Z8 b4 a0.2.2.2.2.1 A4 c_4 a0.2.2.2.2.2, Z9 a0.2.2.2.2.1 A4 c_4]) := by
 refine Zr Try.func61 fun w0 F0 h0 => ?_
 unfold Q7.f at H
 refine J.seq (Zb [0, 1] ?_)
 refine J.seq (J.region ?_)
 refine Zl 2 ?_
 refine Yl Try.func99 ?_
 refine J.seq (Zb [0, 1] ?_)
 refine J.seq (J.seq (J.region ?_))
 refine Zl 1 ?_
 obtain ⟨r1, q1, H⟩ := Zp H
 refine Ze (Zk [0, 0, 0, 0, 0, 0, 0, 0] (Q14.spec q1) h0 rfl Zu) ?_
 rintro _ w1 ⟨_, ⟨rfl, rfl⟩, h1⟩
 replace h1 := nf h1
 refine Zm [0, 1, 9] rfl ?_
 refine jIf H (fun c1 H => ?_) fun c1 H => ?_
 ·refine J.seq (Zb [4, 5] ?_)
  refine J.ret (⟨_, Zc, ?_⟩)
  refine Zm [5, 6] rfl ?_
  refine J.seq (J.seq (Zb [5, 14] ?_))
  refine Z6 ?_
  refine J.seq (Zb [4] ?_)
  refine J.ret ?_
  cases H
  exact ⟨_, _, _, Zc, ⟨rfl, rfl⟩, Zd h1 [0, 0, 0, 0, 0, 0, 0, 0]⟩
 refine J.skip (J.seq (J.region ?_))
 refine Zl 3 ?_
 refine Zg (Za 0 h1.wht) ?_
 refine Zl 1 ?_
 refine Zg (Xg (0 : Int) 4 h1.wht) ?_
 refine Zm [0, 6, 7] rfl ?_
 refine J.seq (J.seq (J.region ?_))
 refine Zl 3 ?_
 refine Xq 21 H (fun c2 H => ?_) fun c2 H => ?_
 ·refine Zm [0, 6, 31] rfl ?_
  refine Z6 ?_
  refine J.seq (Zb [4, 5] ?_)
  refine J.ret (⟨_, Zc, ?_⟩)
  refine Zm [5, 6] rfl ?_
  refine J.seq (J.seq (Zb [5, 14] ?_))
  refine Z6 ?_
  refine J.seq (Zb [4] ?_)
  refine J.ret ?_
  cases H
  exact ⟨_, _, _, Zc, ⟨rfl, rfl⟩, Zd h1 [0, 0, 0, 0, 0, 0, 0, 0]⟩
 refine Zl 3 ?_
 refine Zg (Za 0 h1.wht) ?_
 refine Zl 1 ?_
 obtain ⟨⟨p1, p2⟩, H⟩ := Zq H
 have e1 := Z3 h1.wh (gO 3) p1 p2
 refine Zg (Zi e1 p1 p2) ?_
 refine Zl 1 ?_
 refine Zg (Yg 3 h1.wht (gO 3) p1 p2) ?_
 refine Zm [0, 6, 31] rfl ?_
 refine jIf H (fun c3 H => ?_) fun c3 H => ?_
 ·refine J.seq (Zb [4, 5] ?_)
  refine J.ret (⟨_, Zc, ?_⟩)
  refine Zm [5, 6] rfl ?_
  refine J.seq (J.seq (Zb [5, 14] ?_))
  refine Z6 ?_
  refine J.seq (Zb [4] ?_)
  refine J.ret ?_
  cases H
  exact ⟨_, _, _, Zc, ⟨rfl, rfl⟩, Zd h1 [0, 0, 0, 0, 0, 0, 0, 0]⟩
 refine J.skip (J.seq (J.region ?_))
 refine Zl 3 ?_
 refine Zg (Za 0 h1.wht) ?_
 refine Zl 1 ?_
 refine Zg (Zi e1 p1 p2) ?_
 refine Zm [4, 5] rfl ?_
 refine J.ret (⟨_, Zc, ?_⟩)
 refine Zm [5, 6] rfl ?_
 refine J.seq (J.seq (Zb [5, 14] ?_))
 refine Z7 ?_
 refine J.skip (J.seq (J.region ?_))
 refine Zl 3 ?_
 refine Zg (Yg 3 h1.wht (gO 3) p1 p2) ?_
 refine Zm [4] rfl ?_
 refine J.ret ?_
 cases H
 exact ⟨_, _, _, Zc, ⟨rfl, rfl⟩, Zd h1 [0, 0, 0, 0, 0, 0, 0, 0]⟩

def Q71.f (k : Nat) (a0 : (Int × List (List UInt8) × Int × Int) × (List (Int × List UInt8 × Bool × Int)) × Int × List (Int)) (a1 : Int) : Option (Int) := (Q66.f k a0 a1).bind fun r1 => (if (decide (r1 < 0)) = true then (some 0) else (if 0 ≤ r1 ∧ r1 < (a0.2.1.length : Int) then (some ((gt a0.2.1 r1).2.2.2)) else none))
theorem Q71.spec {k : Nat} {a0 : (Int × List (List UInt8) × Int × Int) × (List (Int × List UInt8 × Bool × Int)) × Int × List (Int)} {a1 : Int} {A1 : Option Addr} {c_1 : Nat} {A2 : Option Addr} {c_2 : Nat} {A3 : Option Addr} {c_3 : Nat} {r : Int} (H : Q71.f k a0 a1 = some r) :
  Spec Try.prog 65 [.agg #[.int .i64 a0.1.1, .slice A1 a0.1.2.1.length c_1, .int .i64 a0.1.2.2.1, .int .i64 a0.1.2.2.2, .slice A2 a0.2.1.length c_2, .int .i64 a0.2.2.1, .slice A3 a0.2.2.2.length c_3], .int .u32 a1] [] [R9 a0.1.2.1 A1 c_1, Xb a0.2.1 A2 c_2, R23 a0.2.2.2 A3 c_3] (fun v l => v = .int .i64 r ∧ l = []) := by
 refine Zr Try.func65 fun w0 F0 h0 => ?_
 unfold Q71.f at H
 refine J.seq (J.region ?_)
 refine Ze (Y2 h0) ?_
 rintro _ w1 ⟨b1, rfl, h1⟩
 replace h1 := nf h1
 refine Zm [1, 2] rfl ?_
 refine J.seq (J.region ?_)
 refine Zg (Za 0 h1.wht) ?_
 refine Zl 1 ?_
 obtain ⟨r1, q1, H⟩ := Zp H
 refine Ze (Zk [] (Q66.spec q1) h1 rfl (Zv (Zf 1) (Zv (Zf 2) (Zv (Zf 3) Zu)))) ?_
 rintro _ w2 ⟨_, ⟨rfl, rfl⟩, h2⟩
 replace h2 := nf h2
 refine Zm [2, 5] rfl ?_
 refine J.seq (J.seq (Zb [2, 5, 10] ?_))
 refine jIf H (fun c1 H => ?_) fun c1 H => ?_
 ·refine J.seq (Zb [4] ?_)
  refine J.ret ?_
  cases H
  exact ⟨_, _, _, Zc, ⟨rfl, rfl⟩, Zd h2 []⟩
 refine J.skip (J.seq (J.region ?_))
 refine Zl 1 ?_
 refine Zg (Za 0 h2.wht) ?_
 refine Zl 1 ?_
 obtain ⟨⟨p1, p2⟩, H⟩ := Zq H
 have e1 := Z3 h2.wh (Zf 2) p1 p2
 refine Zg (Zi e1 p1 p2) ?_
 refine Zl 1 ?_
 refine Zg (Zj 3 h2.wht (Zf 2) p1 p2) ?_
 refine Zm [4] rfl ?_
 refine J.ret ?_
 cases H
 exact ⟨_, _, _, Zc, ⟨rfl, rfl⟩, Zd h2 []⟩

def Q63.l0 : Nat → (List (Int)) → (List (Int)) → (Int) → Option (Bool)
 | 0, _, _, _ => none
 | k + 1, a0, a1, x1 => if (decide (x1 < (a0.length : Int))) = true then (if 0 ≤ x1 ∧ x1 < (a0.length : Int) then (if 0 ≤ x1 ∧ x1 < (a1.length : Int) then (if (!decide ((gt a0 x1) = (gt a1 x1))) = true then (some false) else (Q63.l0 k a0 a1 (w64 (x1 + 1)))) else none) else none) else (some true)
def Q63.f (k : Nat) (a0 : List (Int)) (a1 : List (Int)) : Option (Bool) := if (!decide ((a0.length : Int) = (a1.length : Int))) = true then (some false) else (Q63.l0 k a0 a1 0)
theorem Q63.spec {k : Nat} {a0 : List (Int)} {a1 : List (Int)} {A1 : Option Addr} {c_1 : Nat} {A2 : Option Addr} {c_2 : Nat} {r : Bool} (H : Q63.f k a0 a1 = some r) :
  Spec Try.prog 66 [.slice A1 a0.length c_1, .slice A2 a1.length c_2] [] [R23 a0 A1 c_1, R23 a1 A2 c_2] (fun v l => v = .bool r ∧ l = []) := by
 refine Zr Try.func66 fun w0 F0 h0 => ?_
 unfold Q63.f at H
 refine J.seq (Zb [0, 1] ?_)
 refine J.seq (J.seq (Zb [0, 1, 10] ?_))
 refine jIf H (fun c1 H => ?_) fun c1 H => ?_
 ·refine J.seq (Zb [4] ?_)
  refine J.ret ?_
  cases H
  exact ⟨_, _, _, Zc, ⟨rfl, rfl⟩, Zd h0 []⟩
 refine J.skip (J.seq (J.seq (Zb [0, 1, 5] ?_)))
 refine J.block ?_
 have h4 := (sOR h0 [] [0, 1])
 refine J.loop (fun kk env w => ∃ (x1 : Int), env = [(0, .slice A1 a0.length c_1), (1, .slice A2 a1.length c_2), (5, .int .i64 x1)] ∧ St w0 F0 [] [R23 a0 A1 c_1, R23 a1 A2 c_2] w ∧ Q63.l0 kk a0 a1 x1 = some r) (k := k) ⟨0, rfl, h4, H⟩ ?_
 rintro k1 env w1 ⟨x1, rfl, h1, H⟩
 rcases k1 with _ | k1
 ·exact z0 H
 rw [Q63.l0] at H
 refine J.seq (J.seq (Zb [0, 1, 5, 14] ?_))
 refine jIf H (fun c2 H => ?_) fun c2 H => ?_
 ·refine J.skip (J.seq (J.block (J.seq ?_)))
  refine Zs h1 ?_
  have h2 := h1.drew
  refine Zx [0, 1, 4, 5] ?_
  obtain ⟨⟨p1, p2⟩, H⟩ := Zq H
  have e1 := Z3 h2.wh (Zf 0) p1 p2
  refine Zh 2 rfl (Zi e1 p1 p2) ?_
  refine Zh 3 rfl (Zj 0 wI (Zf 0) p1 p2) ?_
  obtain ⟨⟨p3, p4⟩, H⟩ := Zq H
  have e2 := Z3 h2.wh (Zf 1) p3 p4
  refine Zh 6 rfl (Zi e2 p3 p4) ?_
  refine Zh 7 rfl (Zj 0 wI (Zf 1) p3 p4) ?_
  refine Zx [8] ?_
  refine Z2 [0, 1, 5, 25] ?_
  refine jIf H (fun c3 H => ?_) fun c3 H => ?_
  ·refine J.seq (Zb [4] ?_)
   refine J.ret ?_
   cases H
   exact ⟨_, _, _, Zc, ⟨rfl, rfl⟩, Zd h2 []⟩
  refine J.skip (Zb [0, 1, 5] ?_)
  have h3 := (sOR h2 [] [0, 1])
  exact ⟨k1, by omega, (w64 (x1 + 1)), rfl, h3, H⟩
 refine J.exit (J.seq (Zb [4] ?_))
 refine J.ret ?_
 cases H
 exact ⟨_, _, _, Zc, ⟨rfl, rfl⟩, Zd h1 []⟩

def Q21.l0 : Nat → ((List (Int × Int × Bool)) × Int) → (List (Int)) → (Int) → Option (List (Int))
 | 0, _, _, _ => none
 | k + 1, a0, x1, x2 => (Q24.f a0).bind fun r3 => (if (!decide (x2 = r3)) = true then (if (x1.length + ([x2] : List (Int)).length) * 8 ≤ 140737488355328 then (if 0 ≤ x2 ∧ x2 < (a0.1.length : Int) then (Q21.l0 k a0 (x1 ++ ([x2] : List (Int))) ((gt a0.1 x2).2.1)) else none) else none) else (some x1))
def Q21.f (k : Nat) (a0 : (List (Int × Int × Bool)) × Int) : Option (List (Int)) := (Q20.f a0).bind fun r1 => (if (decide (r1 = 0)) = true then (some ([] : List (Int))) else ((Q24.f a0).bind fun r2 => (if 0 ≤ r2 ∧ r2 < (a0.1.length : Int) then (Q21.l0 k a0 ([] : List (Int)) ((gt a0.1 r2).2.1)) else none)))
theorem Q21.spec {k : Nat} {a0 : (List (Int × Int × Bool)) × Int} {b1 : Nat} {A1 : Option Addr} {c_1 : Nat} {r : List (Int)} (H : Q21.f k a0 = some r) :
  Spec Try.prog 109 [.pointer (some ⟨b1, 0, none⟩)] [Z8 b1 a0.1 A1 c_1 a0.2, Z9 a0.1 A1 c_1] [] (fun v l => ∃ (A_0 : Option Addr) (c_0 : Nat), v = .slice A_0 r.length c_0 ∧ l = [O3 r A_0 c_0, Z8 b1 a0.1 A1 c_1 a0.2, Z9 a0.1 A1 c_1]) := by
 refine Zr Try.func109 fun w0 F0 h0 => ?_
 unfold Q21.f at H
 refine J.seq (Zb [0] ?_)
 refine J.seq (J.seq (J.region ?_))
 refine Zl 1 ?_
 obtain ⟨r1, q1, H⟩ := Zp H
 refine Ze (Zk [0, 0] (Q20.spec q1) h0 rfl Zu) ?_
 rintro _ w1 ⟨_, ⟨rfl, rfl⟩, h1⟩
 replace h1 := nf h1
 refine Zm [0, 7] rfl ?_
 refine jIf H (fun c1 H => ?_) fun c1 H => ?_
 ·refine J.seq (Zb [2] ?_)
  refine J.ret ?_
  have h2 := h1.addNil 3 (.int .i64)
  cases H
  exact ⟨_, _, _, Zc, ⟨_, _, rfl, rfl⟩, Zd h2 [0, 0, 0]⟩
 refine J.skip (J.seq (Zb [0, 3] ?_))
 refine J.seq (J.seq ?_)
 refine Zs h1 ?_
 have h3 := h1.drew
 refine Zx [0, 1, 2, 4] ?_
 refine Zh 3 rfl (Za 0 wI) ?_
 obtain ⟨r2, q2, H⟩ := Zp H
 refine Zn 5 rfl (Zk [0, 0] (Q24.spec q2) h3 rfl Zu) ?_
 rintro _ w2 ⟨_, ⟨rfl, rfl⟩, h4⟩
 replace h4 := nf h4
 refine ⟨⟨[], h4⟩, ?_⟩
 obtain ⟨⟨p1, p2⟩, H⟩ := Zq H
 have e1 := Z3 h4.wh (gO 1) p1 p2
 refine Zh 6 rfl (Zi e1 p1 p2) ?_
 refine Zx [7] ?_
 refine Zh 8 rfl (Zj 1 wI (gO 1) p1 p2) ?_
 refine Zx [9] ?_
 refine Z2 [0, 3, 4] ?_
 refine J.block ?_
 have h10 := h4.addNil 3 (.int .i64)
 have h11 := (sOR h10 [1, 1, 0] [])
 refine J.loop (fun kk env w => ∃ (x1 : List (Int)) (A2 : Option Addr) (c_2 : Nat) (x2 : Int), env = [(0, .pointer (some ⟨b1, 0, none⟩)), (3, .slice A2 x1.length c_2), (4, .int .i64 x2)] ∧ St w0 F0 [Z8 b1 a0.1 A1 c_1 a0.2, Z9 a0.1 A1 c_1, O3 x1 A2 c_2] [] w ∧ Q21.l0 kk a0 x1 x2 = some r) (k := k) ⟨([] : List (Int)), none, 0, ((gt a0.1 r2).2.1), rfl, h11, H⟩ ?_
 rintro k1 env w3 ⟨x1, A2, c_2, x2, rfl, h5, H⟩
 rcases k1 with _ | k1
 ·exact z0 H
 rw [Q21.l0] at H
 refine J.seq (J.seq (J.region ?_))
 refine Zl 2 ?_
 obtain ⟨r3, q3, H⟩ := Zp H
 refine Ze (Zk [0, 0] (Q24.spec q3) h5 rfl Zu) ?_
 rintro _ w4 ⟨_, ⟨rfl, rfl⟩, h6⟩
 replace h6 := nf h6
 refine Zm [0, 3, 4, 20] rfl ?_
 refine jIf H (fun c2 H => ?_) fun c2 H => ?_
 ·refine J.skip (J.seq (J.block (J.region ?_)))
  refine Zl 2 ?_
  refine Ze (Ys (.int .i64) ([x2] : List (Int)) h6) ?_
  rintro _ w5 ⟨b2, rfl, h7⟩
  replace h7 := nf h7
  obtain ⟨p3, H⟩ := Zq H
  refine Ze (Yq 3 h7 (gO 0) p3) ?_
  rintro _ w6 ⟨A3, c_3, rfl, h8⟩
  replace h8 := nf h8
  refine Zm [0, 3, 4] rfl ?_
  refine J.region (Zl 3 ?_)
  refine Zg (Za 2 h8.wht) ?_
  refine Zl 1 ?_
  obtain ⟨⟨p4, p5⟩, H⟩ := Zq H
  refine Zg (Zi e1 p4 p5) ?_
  refine Zl 1 ?_
  refine Zg (Zj 1 h8.wht (gO 3) p4 p5) ?_
  refine Zm [0, 3, 4] rfl ?_
  have h9 := (sOR h8 [2, 2, 0] [])
  exact ⟨k1, by omega, (x1 ++ ([x2] : List (Int))), A3, c_3, ((gt a0.1 x2).2.1), rfl, h9, H⟩
 refine J.exit (J.seq (Zb [2] ?_))
 refine J.ret ?_
 cases H
 exact ⟨_, _, _, Zc, ⟨_, _, rfl, rfl⟩, Zd h6 [2, 0, 0]⟩

def Q9.l0 : Nat → ((Int × List (Int) × (Int × Int)) × (List (Int × List (Int) × Bool × Int)) × (List (Int × Int)) × List (Int) × ((List (Int × Int × Bool)) × Int)) → (List (Int)) → (List (Int)) → (Int) → Option (List (Int))
 | 0, _, _, _, _ => none
 | k + 1, a0, r2, x1, x2 => if (decide (x2 < (r2.length : Int))) = true then (if 0 ≤ x2 ∧ x2 < (r2.length : Int) then (if 0 ≤ (gt r2 x2) ∧ (gt r2 x2) < (a0.2.1.length : Int) then (if (x1.length + ([(gt a0.2.1 (gt r2 x2)).1] : List (Int)).length) * 4 ≤ 140737488355328 then (Q9.l0 k a0 r2 (x1 ++ ([(gt a0.2.1 (gt r2 x2)).1] : List (Int))) (w64 (x2 + 1))) else none) else none) else none) else (some x1)
def Q9.f (k : Nat) (a0 : (Int × List (Int) × (Int × Int)) × (List (Int × List (Int) × Bool × Int)) × (List (Int × Int)) × List (Int) × ((List (Int × Int × Bool)) × Int)) : Option (List (Int)) := (Q14.f a0).bind fun r1 => (if r1 = true then (some ([] : List (Int))) else ((Q21.f k a0.2.2.2.2).bind fun r2 => (Q9.l0 k a0 r2 ([] : List (Int)) 0)))
theorem Q9.spec {k : Nat} {a0 : (Int × List (Int) × (Int × Int)) × (List (Int × List (Int) × Bool × Int)) × (List (Int × Int)) × List (Int) × ((List (Int × Int × Bool)) × Int)} {b1 : Nat} {b2 : Nat} {b3 : Nat} {b4 : Nat} {A1 : Option Addr} {c_1 : Nat} {A2 : Option Addr} {c_2 : Nat} {A3 : Option Addr} {c_3 : Nat} {A4 : Option Addr} {c_4 : Nat} {r : List (Int)} (H : Q9.f k a0 = some r) :
  Spec Try.prog 62 [.pointer (some ⟨b1, 0, none⟩)] [Yk b1 (.pointer (some ⟨b2, 0, none⟩)) a0.2.1 A2 c_2 (.map (some b3)) a0.2.2.2.1 A3 c_3 (.pointer (some ⟨b4, 0, none⟩)), X51 b2 a0.1.1 a0.1.2.1 A1 c_1 a0.1.2.2.1 a0.1.2.2.2, O5 a0.1.2.1 A1 c_1, Yi a0.2.1 A2 c_2, Yc .u32 (Value.int .i64) b3 a0.2.2.1, O3 a0.2.2.2.1 A3 c_3, Z8 b4 a0.2.2.2.2.1 A4 c_4 a0.2.2.2.2.2, Z9 a0.2.2.2.2.1 A4 c_4] [] (fun v l => ∃ (A_0 : Option Addr) (c_0 : Nat), v = .slice A_0 r.length c_0 ∧ l = [O23 r A_0 c_0, Yk b1 (.pointer (some ⟨b2, 0, none⟩)) a0.2.1 A2 c_2 (.map (some b3)) a0.2.2.2.1 A3 c_3 (.pointer (some ⟨b4, 0, none⟩)), X51 b2 a0.1.1 a0.1.2.1 A1 c_1 a0.1.2.2.1 a0.1.2.2.2, O5 a0.1.2.1 A1 c_1, Yi a0.2.1 A2 c_2, Yc .u32 (Value.int .i64) b3 a0.2.2.1, O3 a0.2.2.2.1 A3 c_3, Z8 b4 a0.2.2.2.2.1 A4 c_4 a0.2.2.2.2.2, Z9 a0.2.2.2.2.1 A4 c_4]) := by
 refine Zr Try.func62 fun w0 F0 h0 => ?_
 unfold Q9.f at H
 refine J.seq (Zb [0] ?_)
 refine J.seq (J.seq (J.region ?_))
 refine Zl 1 ?_
 obtain ⟨r1, q1, H⟩ := Zp H
 refine Ze (Zk [0, 0, 0, 0, 0, 0, 0, 0] (Q14.spec q1) h0 rfl Zu) ?_
 rintro _ w1 ⟨_, ⟨rfl, rfl⟩, h1⟩
 replace h1 := nf h1
 refine Zm [0, 7] rfl ?_
 refine jIf H (fun c1 H => ?_) fun c1 H => ?_
 ·refine J.seq (Zb [2] ?_)
  refine J.ret ?_
  have h2 := h1.addNil 23 (.int .u32)
  cases H
  exact ⟨_, _, _, Zc, ⟨_, _, rfl, rfl⟩, Zd h2 [0, 0, 0, 0, 0, 0, 0, 0, 0]⟩
 refine J.skip (J.seq (Zb [0, 3] ?_))
 refine J.seq (J.seq (J.region ?_))
 refine Zl 3 ?_
 refine Zg (Za 0 h1.wht) ?_
 obtain ⟨r2, q2, H⟩ := Zp H
 refine Ze (Zk [6, 6] (Q21.spec q2) h1 rfl Zu) ?_
 rintro _ w2 ⟨_, ⟨A5, c_5, rfl, rfl⟩, h3⟩
 replace h3 := nf h3
 refine Zm [0, 3, 12, 13, 14] rfl ?_
 refine J.block ?_
 have h8 := h3.addNil 23 (.int .u32)
 have h9 := (sOR h8 [4, 4, 6, 2, 3, 3, 3, 2, 0, 0] [])
 refine J.loop (fun kk env w => ∃ (x1 : List (Int)) (A6 : Option Addr) (c_6 : Nat) (x2 : Int), env = [(0, .pointer (some ⟨b1, 0, none⟩)), (3, .slice A6 x1.length c_6), (12, .slice A5 r2.length c_5), (13, .int .i64 (r2.length : Int)), (14, .int .i64 x2)] ∧ St w0 F0 [Yk b1 (.pointer (some ⟨b2, 0, none⟩)) a0.2.1 A2 c_2 (.map (some b3)) a0.2.2.2.1 A3 c_3 (.pointer (some ⟨b4, 0, none⟩)), X51 b2 a0.1.1 a0.1.2.1 A1 c_1 a0.1.2.2.1 a0.1.2.2.2, Yc .u32 (Value.int .i64) b3 a0.2.2.1, Z8 b4 a0.2.2.2.2.1 A4 c_4 a0.2.2.2.2.2, O5 a0.1.2.1 A1 c_1, Yi a0.2.1 A2 c_2, O3 a0.2.2.2.1 A3 c_3, Z9 a0.2.2.2.2.1 A4 c_4, O23 x1 A6 c_6, O3 r2 A5 c_5] [] w ∧ Q9.l0 kk a0 r2 x1 x2 = some r) (k := k) ⟨([] : List (Int)), none, 0, 0, rfl, h9, H⟩ ?_
 rintro k1 env w3 ⟨x1, A6, c_6, x2, rfl, h4, H⟩
 rcases k1 with _ | k1
 ·exact z0 H
 rw [Q9.l0] at H
 refine J.seq (Zb [0, 3, 12, 13, 14, 15] ?_)
 refine J.seq (jIf H (fun c2 H => ?_) fun c2 H => ?_)
 ·refine J.skip (J.seq (J.block (J.seq (J.region ?_))))
  obtain ⟨⟨p1, p2⟩, H⟩ := Zq H
  have e1 := Z3 h4.wh (gO 9) p1 p2
  refine Zg (Zi e1 p1 p2) ?_
  refine Zg (Zj 0 h4.wht (gO 9) p1 p2) ?_
  refine Zm [0, 3, 5, 12, 13, 14] rfl ?_
  refine J.region (Zl 4 ?_)
  refine Zg (Za 0 h4.wht) ?_
  refine Zl 1 ?_
  obtain ⟨⟨p3, p4⟩, H⟩ := Zq H
  have e2 := Z3 h4.wh (gO 5) p3 p4
  refine Zg (Zi e2 p3 p4) ?_
  refine Zl 1 ?_
  refine Zg (Yg 0 h4.wht (gO 5) p3 p4) ?_
  refine Ze (Ys (.int .u32) ([(gt a0.2.1 (gt r2 x2)).1] : List (Int)) h4) ?_
  rintro _ w4 ⟨b5, rfl, h5⟩
  replace h5 := nf h5
  obtain ⟨p5, H⟩ := Zq H
  refine Ze (Yq 9 h5 (gO 0) p5) ?_
  rintro _ w5 ⟨A7, c_7, rfl, h6⟩
  replace h6 := nf h6
  refine Zm [0, 3, 12, 13, 14] rfl ?_
  refine Zb [0, 3, 12, 13, 14] ?_
  have h7 := (sOR h6 [2, 2, 2, 2, 2, 2, 2, 2, 0, 1] [])
  exact ⟨k1, by omega, (x1 ++ ([(gt a0.2.1 (gt r2 x2)).1] : List (Int))), A7, c_7, (w64 (x2 + 1)), rfl, h7, H⟩
 refine J.exit (J.seq (Zb [2] ?_))
 refine J.ret ?_
 cases H
 exact ⟨_, _, _, Zc, ⟨_, _, rfl, rfl⟩, Zd h4 [8, 0, 0, 2, 2, 0, 1, 0, 0]⟩

def Q11.f (a0 : (Int × List (Int) × (Int × Int)) × (List (Int × List (Int) × Bool × Int)) × (List (Int × Int)) × List (Int) × ((List (Int × Int × Bool)) × Int)) : Option (Int) := (Q14.f a0).bind fun r1 => (if r1 = true then (some 0) else (some (a0.2.2.1.length : Int)))
theorem Q11.spec {a0 : (Int × List (Int) × (Int × Int)) × (List (Int × List (Int) × Bool × Int)) × (List (Int × Int)) × List (Int) × ((List (Int × Int × Bool)) × Int)} {b1 : Nat} {b2 : Nat} {b3 : Nat} {b4 : Nat} {A1 : Option Addr} {c_1 : Nat} {A2 : Option Addr} {c_2 : Nat} {A3 : Option Addr} {c_3 : Nat} {A4 : Option Addr} {c_4 : Nat} {r : Int} (H : Q11.f a0 = some r) :
  Spec Try.prog 51 [.pointer (some ⟨b1, 0, none⟩)] [Yk b1 (.pointer (some ⟨b2, 0, none⟩)) a0.2.1 A2 c_2 (.map (some b3)) a0.2.2.2.1 A3 c_3 (.pointer (some ⟨b4, 0, none⟩)), X51 b2 a0.1.1 a0.1.2.1 A1 c_1 a0.1.2.2.1 a0.1.2.2.2, O5 a0.1.2.1 A1 c_1, Yi a0.2.1 A2 c_2, Yc .u32 (Value.int .i64) b3 a0.2.2.1, O3 a0.2.2.2.1 A3 c_3, Z8 b4 a0.2.2.2.2.1 A4 c_4 a0.2.2.2.2.2, Z9 a0.2.2.2.2.1 A4 c_4] [] (fun v l => v = .int .i64 r ∧ l = [Yk b1 (.pointer (some ⟨b2, 0, none⟩)) a0.2.1 A2 c_2 (.map (some b3)) a0.2.2.2.1 A3 c_3 (.pointer (some ⟨b4, 0, none⟩)), X51 b2 a0.1.1 a0.1.2.1 A1 c_1 a0.1.2.2.1 a0.1.2.2.2, O5 a0.1.2.1 A1 c_1, Yi a0.2.1 A2 c_2, Yc .u32 (Value.int .i64) b3 a0.2.2.1, O3 a0.2.2.2.1 A3 c_3, Z8 b4 a0.2.2.2.2.1 A4 c_4 a0.2.2.2.2.2, Z9 a0.2.2.2.2.1 A4 c_4]) := by
 refine Zr Try.func51 fun w0 F0 h0 => ?_
 unfold Q11.f at H
 refine J.seq (Zb [0] ?_)
 refine J.seq (J.seq (J.region ?_))
 refine Zl 1 ?_
 obtain ⟨r1, q1, H⟩ := Zp H
 refine Ze (Zk [0, 0, 0, 0, 0, 0, 0, 0] (Q14.spec q1) h0 rfl Zu) ?_
 rintro _ w1 ⟨_, ⟨rfl, rfl⟩, h1⟩
 replace h1 := nf h1
 refine Zm [0, 4] rfl ?_
 refine jIf H (fun c1 H => ?_) fun c1 H => ?_
 ·refine J.seq (Zb [2] ?_)
  refine J.ret ?_
  cases H
  exact ⟨_, _, _, Zc, ⟨rfl, rfl⟩, Zd h1 [0, 0, 0, 0, 0, 0, 0, 0]⟩
 refine J.skip (J.seq (J.region ?_))
 refine Zl 3 ?_
 refine Zg (Za 0 h1.wht) ?_
 refine Zg (Zbk 4 h1.wht) ?_
 refine Zm [2] rfl ?_
 refine J.ret ?_
 cases H
 exact ⟨_, _, _, Zc, ⟨rfl, rfl⟩, Zd h1 [0, 0, 0, 0, 0, 0, 0, 0]⟩

def Q54.l1 : Nat → (List (Int × Int × List (Int))) → (Int) → (Int) → (List (Int)) → (Int) → (Int) → (List (Int × List (Int) × Bool × Int)) → (List (Int × Int)) → (List (Int)) → (List (Int × Int × Bool)) → (Int) → (Int) → (List (List UInt8)) → (Int) → (Int) → (List (Int × List UInt8 × Bool × Int)) → (Int) → (List (Int)) → (Int) → Option (Bool)
 | 0, _, _, _, _, _, _, _, _, _, _, _, _, _, _, _, _, _, _, _ => none
 | k + 1, a2, a3, x18, x19, x20, x21, x22, x23, x24, x25, x26, x27, x28, x29, x30, x31, x32, x33, x34 => if (decide (x34 < (a2.length : Int))) = true then (if (decide (x34 < 60)) = true then (if 0 ≤ x34 ∧ x34 < (a2.length : Int) then ((Q57.f k ((x27, x28, x29, x30), x31, x32, x33) (gt a2 x34)).bind fun r27 => ((Q56.f k ((x18, x19, (x20, x21)), x22, x23, x24, (x25, x26)) (gt a2 x34)).bind fun r28 => (if (!decide (r28.1 = r27.2)) = true then (some false) else ((Q8.f r28.2 a3).bind fun r29 => ((Q72.f k r27.1 a3).bind fun r30 => ((Q33.f r28.2.1).bind fun r31 => (if (!decide ((toS r29.1) = r30.1)) = true then (some false) else (if (!decide (r29.2 = r30.2)) = true then (some false) else ((Q31.f r28.2.1).bind fun r32 => ((Q58.f k r27.1.1).bind fun r33 => (if (!decide ((toS r32) = r33)) = true then (some false) else (if (!((decide (r31.1 = (IntKind.u64.wrap (r27.1.1.2.2.1)))) && ((decide (r31.2 = (IntKind.u64.wrap (r27.1.1.2.2.2)))) && true))) = true then (some false) else ((Q7.f r28.2 a3).bind fun r34 => ((Q71.f k r27.1 a3).bind fun r35 => (if (!decide (r34 = r35)) = true then (some false) else ((Q2.f k r28.2).bind fun r36 => ((Q64.f k r27.1).bind fun r37 => ((Q63.f k r36 r37).bind fun r38 => (if (!r38) = true then (some false) else ((Q9.f k r28.2).bind fun r39 => ((Q63.f k r39 r27.1.2.2.2).bind fun r40 => (if (!r40) = true then (some false) else ((Q11.f r28.2).bind fun r41 => (if (!decide (r41 = (r27.1.2.1.length : Int))) = true then (some false) else (Q54.l1 k a2 a3 r28.2.1.1 r28.2.1.2.1 r28.2.1.2.2.1 r28.2.1.2.2.2 r28.2.2.1 r28.2.2.2.1 r28.2.2.2.2.1 r28.2.2.2.2.2.1 r28.2.2.2.2.2.2 r27.1.1.1 r27.1.1.2.1 r27.1.1.2.2.1 r27.1.1.2.2.2 r27.1.2.1 r27.1.2.2.1 r27.1.2.2.2 (w64 (x34 + 1))))))))))))))))))))))))))) else none) else ((Q55.f k).bind fun r42 => (some r42))) else ((Q55.f k).bind fun r43 => (some r43))
def Q54.l0 : Nat → (Int) → (Int) → (List (Int × Int × List (Int))) → (Int) → (Int × List (Int) × (Int × Int)) → ((List (Int × Int × Bool)) × Int) → (List (Int)) → (Int) → Option (Bool)
 | 0, _, _, _, _, _, _, _, _ => none
 | k + 1, a0, a1, a2, a3, r2, r7, x1, x2 => if (decide (x2 < a0)) = true then (if (x1.length + ([x2] : List (Int)).length) * 8 ≤ 140737488355328 then (Q54.l0 k a0 a1 a2 a3 r2 r7 (x1 ++ ([x2] : List (Int))) (w64 (x2 + 1))) else none) else ((Q59.f k 9 (w64 (1 + (Int.tmod (w64 (a1)) 4)))).bind fun r26 => (Q54.l1 k a2 a3 r2.1 r2.2.1 r2.2.2.1 r2.2.2.2 (List.replicate a0.toNat ((0, ([] : List (Int)), false, 0) : Int × List (Int) × Bool × Int)) ([] : List (Int × Int)) x1 r7.1 r7.2 r26.1 r26.2.1 r26.2.2.1 r26.2.2.2 ([] : List (Int × List UInt8 × Bool × Int)) a0 ([] : List (Int)) 0))
def Q54.f (k : Nat) (a0 : Int) (a1 : Int) (a2 : List (Int × Int × List (Int))) (a3 : Int) : Option (Bool) := (Q35.f 9 (w64 (1 + (Int.tmod (w64 (a1)) 4)))).bind fun r1 => (Ua r1.1 (if (!decide (r1.2 = 0)) = true then (some false) else none) (fun r2 => (if (!decide (r1.2 = 0)) = false then ((Q29.f r2).bind fun r3 => (if (decide (r3 = 0)) = true then (if (decide (a0 < 1)) = true then (some false) else (if (decide (64 < a0)) = true then (some false) else (some false))) else (if (decide (a0 < 1)) = true then ((Q55.f k).bind fun r4 => (some r4)) else (if (decide (64 < a0)) = true then ((Q55.f k).bind fun r5 => (some r5)) else ((Q26.f a0).bind fun r6 => (Ua r6.1 (if (!decide (r6.2 = 0)) = true then (some false) else none) (fun r7 => (if (!decide (r6.2 = 0)) = false then (if 0 ≤ a0 ∧ a0 * 48 ≤ 281474976710656 then (Q54.l0 k a0 a1 a2 a3 r2 r7 ([] : List (Int)) 0) else none) else none)))))))) else none)))
theorem Q54.spec {k : Nat} {a0 : Int} {a1 : Int} {a2 : List (Int × Int × List (Int))} {a3 : Int} {A1 : Option Addr} {c_1 : Nat} {r : Bool} (H : Q54.f k a0 a1 a2 a3 = some r) :
  Spec Try.prog 14 [.int .i64 a0, .int .u8 a1, .slice A1 a2.length c_1, .int .u32 a3] [] [Zdy a2 A1 c_1] (fun v l => v = .bool r ∧ l = []) := by
 refine Zr Try.func14 fun w0 F0 h0 => ?_
 unfold Q54.f at H
 refine J.seq (Zb [0, 1, 2, 3] ?_)
 refine J.seq (Zb [0, 2, 3, 9] ?_)
 refine J.seq (J.region ?_)
 refine Zl 1 ?_
 obtain ⟨r1, q1, H⟩ := Zp H
 refine Ze (Zk [] (Q35.spec q1) h0 rfl Zu) ?_
 rintro _ w1 ⟨_, ⟨v1, l1, ho1, rfl, rfl⟩, h1⟩
 rcases ho2 : r1.1 with _ | r2
 ·rw [ho2] at ho1
  obtain ⟨rfl, rfl⟩ := ho1
  replace H := Gf ho2 H
  obtain ⟨c1, H⟩ := Zq H
  replace h1 := nf h1
  refine Zm [0, 2, 3, 9, 10, 11] rfl ?_
  refine J.seq (J.region ?_)
  refine Zl 2 ?_
  refine Yl Try.func49 ?_
  refine J.seq (Zb [0, 1] ?_)
  refine J.seq (J.block (J.seq (J.region ?_)))
  refine Zl 1 ?_
  refine Yl Try.func24 ?_
  refine J.seq (Zb [0] ?_)
  refine J.seq (J.seq (Zb [0, 11] ?_))
  refine Z6 ?_
  refine J.seq (Zb [2] ?_)
  refine J.ret (⟨_, Zc, ?_⟩)
  refine Zm [0, 1, 10] rfl ?_
  refine Z6 ?_
  refine J.seq (Zb [4, 5] ?_)
  refine J.ret (⟨_, Zc, ?_⟩)
  refine Zm [0, 2, 3, 9, 10, 11, 12, 13] rfl ?_
  refine J.seq (J.seq (J.region ?_))
  refine Zl 3 ?_
  refine Yw 40 (congrArg Value.bool c1) ?_
  refine Zm [0, 2, 3, 9, 10, 12, 13, 43] rfl ?_
  refine Z6 ?_
  refine J.seq (Zb [8] ?_)
  refine J.ret ?_
  cases H
  exact ⟨_, _, _, Zc, ⟨rfl, rfl⟩, Zd h1 []⟩
 rw [ho2] at ho1
 obtain ⟨b1, A2, c_2, rfl, rfl⟩ := ho1
 replace H := Gk ho2 H
 obtain ⟨c2, H⟩ := Zq H
 replace h1 := nf h1
 refine Zm [0, 2, 3, 9, 10, 11] rfl ?_
 refine J.seq (J.region ?_)
 refine Zl 2 ?_
 refine Yl Try.func49 ?_
 refine J.seq (Zb [0, 1] ?_)
 refine J.seq (J.block (J.seq (J.region ?_)))
 refine Zl 1 ?_
 obtain ⟨r3, q2, H⟩ := Zp H
 refine Ze (Zk [0, 0] (Q29.spec q2) h1 rfl Zu) ?_
 rintro _ w2 ⟨_, ⟨rfl, rfl⟩, h2⟩
 replace h2 := nf h2
 refine Zm [0, 1, 10] rfl ?_
 refine jIf H (fun c3 H => ?_) fun c3 H => ?_
 ·refine J.seq (Zb [4, 5] ?_)
  refine J.ret (⟨_, Zc, ?_⟩)
  refine Zm [0, 2, 3, 9, 10, 11, 12, 13] rfl ?_
  refine J.seq (J.seq (J.region ?_))
  refine Zl 3 ?_
  refine Yw 40 (congrArg Value.bool c2) ?_
  refine Zm [0, 2, 3, 9, 10, 12, 13, 43] rfl ?_
  refine Z7 ?_
  refine J.skip (J.seq (J.seq (J.region ?_)))
  refine Zl 3 ?_
  refine Xq 46 H (fun c4 H => ?_) fun c4 H => ?_
  ·refine Zm [0, 2, 3, 9, 10, 12, 13, 49] rfl ?_
   refine Z6 ?_
   refine J.seq (Zb [8] ?_)
   have h3 := Zd h2 []
   replace h3 := nf h3
   refine J.ret ?_
   cases H
   exact ⟨_, _, _, Zc, ⟨rfl, rfl⟩, Zd h3 []⟩
  refine Zm [0, 2, 3, 9, 10, 12, 13, 49] rfl ?_
  refine jIf H (fun c5 H => ?_) fun c5 H => ?_
  ·refine J.seq (Zb [8] ?_)
   have h4 := Zd h2 []
   replace h4 := nf h4
   refine J.ret ?_
   cases H
   exact ⟨_, _, _, Zc, ⟨rfl, rfl⟩, Zd h4 []⟩
  refine J.skip (J.seq (J.seq (Zb [0, 2, 3, 9, 10, 12, 64] ?_)))
  refine Z6 ?_
  refine J.seq (Zb [8] ?_)
  have h5 := Zd h2 []
  replace h5 := nf h5
  refine J.ret ?_
  cases H
  exact ⟨_, _, _, Zc, ⟨rfl, rfl⟩, Zd h5 []⟩
 refine J.seq (J.region ?_)
 refine Zl 3 ?_
 refine Xq 17 H (fun c6 H => ?_) fun c6 H => ?_
 ·refine Zm [0, 1, 14] rfl ?_
  refine Z6 ?_
  refine J.seq (Zb [4, 5] ?_)
  refine J.ret (⟨_, Zc, ?_⟩)
  refine Zm [0, 2, 3, 9, 10, 11, 12, 13] rfl ?_
  refine J.seq (J.seq (J.region ?_))
  refine Zl 3 ?_
  refine Yw 40 (congrArg Value.bool c2) ?_
  refine Zm [0, 2, 3, 9, 10, 12, 13, 43] rfl ?_
  refine Z7 ?_
  refine J.skip (J.seq (J.seq (J.region ?_)))
  refine Zl 3 ?_
  refine Yw 46 (congrArg Value.bool c6) ?_
  refine Zm [0, 2, 3, 9, 10, 12, 13, 49] rfl ?_
  refine Z6 ?_
  refine J.seq (J.region ?_)
  refine Zl 7 ?_
  obtain ⟨r4, q3, H⟩ := Zp H
  refine Ze (Zk [] (Q55.spec q3) h2 rfl Zu) ?_
  rintro _ w3 ⟨_, ⟨rfl, rfl⟩, h6⟩
  replace h6 := nf h6
  refine Zm [8] rfl ?_
  have h7 := Zd h6 []
  replace h7 := nf h7
  refine J.ret ?_
  cases H
  exact ⟨_, _, _, Zc, ⟨rfl, rfl⟩, Zd h7 []⟩
 refine Zm [0, 1, 14] rfl ?_
 refine jIf H (fun c7 H => ?_) fun c7 H => ?_
 ·refine J.seq (Zb [4, 5] ?_)
  refine J.ret (⟨_, Zc, ?_⟩)
  refine Zm [0, 2, 3, 9, 10, 11, 12, 13] rfl ?_
  refine J.seq (J.seq (J.region ?_))
  refine Zl 3 ?_
  refine Yw 40 (congrArg Value.bool c2) ?_
  refine Zm [0, 2, 3, 9, 10, 12, 13, 43] rfl ?_
  refine Z7 ?_
  refine J.skip (J.seq (J.seq (J.region ?_)))
  refine Zl 3 ?_
  refine Yw 46 (congrArg Value.bool c6) ?_
  refine Zm [0, 2, 3, 9, 10, 12, 13, 49] rfl ?_
  refine J.cond rfl (fun e => ?_) (fun e => by rw [c7] at e; cases e)
  refine J.seq (J.region ?_)
  refine Zl 7 ?_
  obtain ⟨r5, q4, H⟩ := Zp H
  refine Ze (Zk [] (Q55.spec q4) h2 rfl Zu) ?_
  rintro _ w4 ⟨_, ⟨rfl, rfl⟩, h8⟩
  replace h8 := nf h8
  refine Zm [8] rfl ?_
  have h9 := Zd h8 []
  replace h9 := nf h9
  refine J.ret ?_
  cases H
  exact ⟨_, _, _, Zc, ⟨rfl, rfl⟩, Zd h9 []⟩
 refine J.skip (J.seq (J.region ?_))
 refine Zl 1 ?_
 obtain ⟨r6, q5, H⟩ := Zp H
 refine Ze (Zk [] (Q26.spec q5) h2 rfl Zu) ?_
 rintro _ w5 ⟨_, ⟨v2, l2, ho3, rfl, rfl⟩, h10⟩
 rcases ho4 : r6.1 with _ | r7
 ·rw [ho4] at ho3
  obtain ⟨rfl, rfl⟩ := ho3
  replace H := Gf ho4 H
  obtain ⟨c8, H⟩ := Zq H
  replace h10 := nf h10
  refine Zm [0, 1, 6, 7] rfl ?_
  refine J.seq (J.seq (Zb [0, 1, 6, 7, 27] ?_))
  refine J.cond rfl (fun e => ?_) (fun e => by rw [c8] at e; cases e)
  refine J.seq (Zb [4, 5] ?_)
  refine J.ret (⟨_, Zc, ?_⟩)
  refine Zm [0, 2, 3, 9, 10, 11, 12, 13] rfl ?_
  refine J.seq (J.seq (J.region ?_))
  refine Zl 3 ?_
  refine Yw 40 (congrArg Value.bool c2) ?_
  refine Zm [0, 2, 3, 9, 10, 12, 13, 43] rfl ?_
  refine Z7 ?_
  refine J.skip (J.seq (J.seq (J.region ?_)))
  refine Zl 3 ?_
  refine Yw 46 (congrArg Value.bool c6) ?_
  refine Zm [0, 2, 3, 9, 10, 12, 13, 49] rfl ?_
  refine J.cond rfl (fun e => by rw [c7] at e; cases e) (fun e => ?_)
  refine J.skip (J.seq (J.seq (J.region ?_)))
  refine Zl 3 ?_
  refine Yw 61 (congrArg Value.bool c8) ?_
  refine Zm [0, 2, 3, 9, 10, 12, 64] rfl ?_
  refine Z6 ?_
  refine J.seq (Zb [8] ?_)
  have h11 := Zd h10 []
  replace h11 := nf h11
  refine J.ret ?_
  cases H
  exact ⟨_, _, _, Zc, ⟨rfl, rfl⟩, Zd h11 []⟩
 rw [ho4] at ho3
 obtain ⟨b2, A3, c_3, rfl, rfl⟩ := ho3
 replace H := Gk ho4 H
 obtain ⟨c9, H⟩ := Zq H
 replace h10 := nf h10
 refine Zm [0, 1, 6, 7] rfl ?_
 refine J.seq (J.seq (Zb [0, 1, 6, 7, 27] ?_))
 refine J.cond rfl (fun e => by rw [c9] at e; cases e) (fun e => ?_)
 refine J.skip (J.seq (J.region ?_))
 refine Zl 2 ?_
 obtain ⟨⟨p1, p2⟩, H⟩ := Zq H
 refine Ze (Jy Yd (ty := (.pair (.int .u32) (.pair (.slice 5 (.int .u8)) (.pair .bool (.int .i64))))) ((0, ([] : List (Int)), false, 0) : Int × List (Int) × Bool × Int) rfl rfl rfl rfl rfl rfl (fun _ _ => Zdu ⟨none, 0, rfl, Nat.le_refl _, .inl rfl⟩) (by decide) h10 p1 p2) ?_
 rintro _ w6 ⟨b3, rfl, h12⟩
 replace h12 := nf h12
 refine Ze (Ut .u32 (Value.int .i64) h12) ?_
 rintro _ w7 ⟨b4, rfl, h13⟩
 replace h13 := nf h13
 refine Zl 2 ?_
 refine Ze (Y2 h13) ?_
 rintro _ w8 ⟨b5, rfl, h14⟩
 replace h14 := nf h14
 refine Zm [1, 8] rfl ?_
 refine J.seq (J.seq (Zb [8, 36, 37] ?_))
 refine J.block ?_
 have h20 := h14.addNil 3 (.int .i64)
 have h21 := (sOR h20 [1, 5, 1, 2, 3, 1, 0, 0] [0])
 refine J.loop (fun kk env w => ∃ (x1 : List (Int)) (A4 : Option Addr) (c_4 : Nat) (x2 : Int), env = [(8, .pointer (some ⟨b5, 0, none⟩)), (36, .int .i64 a0), (37, .int .i64 x2)] ∧ St w0 F0 [Yk b5 (.pointer (some ⟨b1, 0, none⟩)) (List.replicate a0.toNat ((0, ([] : List (Int)), false, 0) : Int × List (Int) × Bool × Int)) (some ⟨b3, 0, none⟩) (a0.toNat) (.map (some b4)) x1 A4 c_4 (.pointer (some ⟨b2, 0, none⟩)), X51 b1 r2.1 r2.2.1 A2 c_2 r2.2.2.1 r2.2.2.2, Yc .u32 (Value.int .i64) b4 ([] : List (Int × Int)), Z8 b2 r7.1 A3 c_3 r7.2, O5 r2.2.1 A2 c_2, Yi (List.replicate a0.toNat ((0, ([] : List (Int)), false, 0) : Int × List (Int) × Bool × Int)) (some ⟨b3, 0, none⟩) (a0.toNat), O3 x1 A4 c_4, Z9 r7.1 A3 c_3] [Zdy a2 A1 c_1] w ∧ Q54.l0 kk a0 a1 a2 a3 r2 r7 x1 x2 = some r) (k := k) ⟨([] : List (Int)), none, 0, 0, rfl, h21, H⟩ ?_
 rintro k1 env w9 ⟨x1, A4, c_4, x2, rfl, h15, H⟩
 rcases k1 with _ | k1
 ·exact z0 H
 rw [Q54.l0] at H
 refine J.seq (Zb [8, 36, 37, 38] ?_)
 refine J.seq (jIf H (fun c10 H => ?_) fun c10 H => ?_)
 ·refine J.skip (J.seq (J.block (J.seq (Zb [8, 9, 36, 37] ?_))))
  refine J.region (Zl 4 ?_)
  refine Zg (Za 0 h15.wht) ?_
  refine Zl 1 ?_
  refine Ze (Ys (.int .i64) ([x2] : List (Int)) h15) ?_
  rintro _ w10 ⟨b6, rfl, h16⟩
  replace h16 := nf h16
  obtain ⟨p3, H⟩ := Zq H
  refine Ze (Yq 7 h16 (gO 0) p3) ?_
  rintro _ w11 ⟨A5, c_5, rfl, h17⟩
  replace h17 := nf h17
  refine Zl 2 ?_
  refine Ze (Zw 2 h17) ?_
  intro _ w12 h18
  replace h18 := nf h18
  refine Zm [8, 36, 37] rfl ?_
  refine Zb [8, 36, 37] ?_
  have h19 := (sOR h18 [0, 2, 2, 2, 2, 2, 0, 1] [0])
  exact ⟨k1, by omega, (x1 ++ ([x2] : List (Int))), A5, c_5, (w64 (x2 + 1)), rfl, h19, H⟩
 refine J.exit (J.seq (Zb [4, 5] ?_))
 refine J.ret (⟨_, Zc, ?_⟩)
 refine Zm [0, 2, 3, 9, 10, 11, 12, 13] rfl ?_
 refine J.seq (J.seq (J.region ?_))
 refine Zl 3 ?_
 refine Yw 40 (congrArg Value.bool c2) ?_
 refine Zm [0, 2, 3, 9, 10, 12, 13, 43] rfl ?_
 refine Z7 ?_
 refine J.skip (J.seq (J.seq (J.region ?_)))
 refine Zl 3 ?_
 refine Yw 46 (congrArg Value.bool c6) ?_
 refine Zm [0, 2, 3, 9, 10, 12, 13, 49] rfl ?_
 refine J.cond rfl (fun e => by rw [c7] at e; cases e) (fun e => ?_)
 refine J.skip (J.seq (J.seq (Zb [0, 2, 3, 9, 10, 12, 64] ?_)))
 refine Z7 ?_
 refine J.skip (J.seq (J.region ?_))
 refine Zl 1 ?_
 obtain ⟨r26, q24, H⟩ := Zp H
 refine Ze (Zk [] (Q59.spec q24) h15 rfl Zu) ?_
 rintro _ w42 ⟨_, ⟨A32, c_32, rfl, rfl⟩, h83⟩
 replace h83 := nf h83
 refine Zl 2 ?_
 refine Ze (Ym h83) ?_
 rintro _ w43 ⟨b11, rfl, h84⟩
 replace h84 := nf h84
 refine Ze (Zw 0 h84) ?_
 intro _ w44 h85
 replace h85 := nf h85
 refine Zm [2, 3, 10, 12, 14] rfl ?_
 refine J.seq (J.seq (Zb [2, 3, 10, 12, 14, 15] ?_))
 refine J.block ?_
 have h144 := h85.freeze (k := 1) rfl Yv
 have h145 := h144.addNil 178 (.pair (.int .u32) (.pair .str (.pair .bool (.int .i64))))
 have h146 := h145.freeze (k := 0) rfl Yv
 have h147 := h146.addNil 23 (.int .u32)
 have h148 := h147.freeze (k := 0) rfl Yv
 have h149 := (sOR h148 [2, 1, 1, 1, 0, 0, 0, 0, 0] [3, 2, 1, 0])
 refine J.loop (fun kk env w => ∃ (x18 : Int) (x19 : List (Int)) (A33 : Option Addr) (c_33 : Nat) (x20 : Int) (x21 : Int) (x22 : List (Int × List (Int) × Bool × Int)) (A34 : Option Addr) (c_34 : Nat) (x23 : List (Int × Int)) (x24 : List (Int)) (A35 : Option Addr) (c_35 : Nat) (x25 : List (Int × Int × Bool)) (A36 : Option Addr) (c_36 : Nat) (x26 : Int) (x27 : Int) (x28 : List (List UInt8)) (A37 : Option Addr) (c_37 : Nat) (x29 : Int) (x30 : Int) (x31 : List (Int × List UInt8 × Bool × Int)) (A38 : Option Addr) (c_38 : Nat) (x32 : Int) (x33 : List (Int)) (A39 : Option Addr) (c_39 : Nat) (x34 : Int), env = [(2, .slice A1 a2.length c_1), (3, .int .u32 a3), (10, .pointer (some ⟨b1, 0, none⟩)), (12, .pointer (some ⟨b5, 0, none⟩)), (14, .pointer (some ⟨b11, 0, none⟩)), (15, .int .i64 x34)] ∧ St w0 F0 [X51 b1 x18 x19 A33 c_33 x20 x21, Yk b5 (.pointer (some ⟨b1, 0, none⟩)) x22 A34 c_34 (.map (some b4)) x24 A35 c_35 (.pointer (some ⟨b2, 0, none⟩)), Yc .u32 (Value.int .i64) b4 x23, Z8 b2 x25 A36 c_36 x26, Vg b11 x27 x28 A37 c_37 x29 x30 x31 A38 c_38 x32 x33 A39 c_39, O5 x19 A33 c_33, Yi x22 A34 c_34, O3 x24 A35 c_35, Z9 x25 A36 c_36] [Zdy a2 A1 c_1, R9 x28 A37 c_37, Xb x31 A38 c_38, R23 x33 A39 c_39] w ∧ Q54.l1 kk a2 a3 x18 x19 x20 x21 x22 x23 x24 x25 x26 x27 x28 x29 x30 x31 x32 x33 x34 = some r) (k := k1) ⟨r2.1, r2.2.1, A2, c_2, r2.2.2.1, r2.2.2.2, (List.replicate a0.toNat ((0, ([] : List (Int)), false, 0) : Int × List (Int) × Bool × Int)), (some ⟨b3, 0, none⟩), a0.toNat, ([] : List (Int × Int)), x1, A4, c_4, r7.1, A3, c_3, r7.2, r26.1, r26.2.1, A32, c_32, r26.2.2.1, r26.2.2.2, ([] : List (Int × List UInt8 × Bool × Int)), none, 0, a0, ([] : List (Int)), none, 0, 0, rfl, h149, H⟩ ?_
 rintro k2 env w45 ⟨x18, x19, A33, c_33, x20, x21, x22, A34, c_34, x23, x24, A35, c_35, x25, A36, c_36, x26, x27, x28, A37, c_37, x29, x30, x31, A38, c_38, x32, x33, A39, c_39, x34, rfl, h86, H⟩
 rcases k2 with _ | k2
 ·exact z0 H
 rw [Q54.l1] at H
 refine J.seq (J.seq (J.region ?_))
 refine Zl 5 ?_
 refine Xq 73 H (fun c21 H => ?_) fun c21 H => ?_
 ·refine Zm [2, 3, 10, 12, 14, 15, 76] rfl ?_
  refine jIf H (fun c22 H => ?_) fun c22 H => ?_
  ·refine J.skip (J.seq (J.block (J.seq ?_)))
   obtain ⟨⟨p5, p6⟩, H⟩ := Zq H
   obtain ⟨cs11, h87⟩ := h86.elem 0 rfl p5 p6
   obtain ⟨cs12, cs13, rfl, h88⟩ := Vk 0 h87
   obtain ⟨cs14, cs15, rfl, h89⟩ := Vk 1 h88
   obtain rfl := Wy (.int .i64) 2 h89
   obtain rfl := Wy (.int .u32) 0 h89
   obtain ⟨A40, c_40, rfl⟩ := Uv 1 h89
   obtain ⟨r27, q25, H⟩ := Zp H
   refine J.midS (fun env w => ∃ (b12 : Nat) (A41 : Option Addr) (c_41 : Nat) (A42 : Option Addr) (c_42 : Nat) (A43 : Option Addr) (c_43 : Nat), env = [(2, .slice A1 a2.length c_1), (3, .int .u32 a3), (10, .pointer (some ⟨b1, 0, none⟩)), (12, .pointer (some ⟨b5, 0, none⟩)), (14, .pointer (some ⟨b11, 0, none⟩)), (15, .int .i64 x34), (16, .pointer (some ⟨b12, 0, none⟩)), (17, .int .i64 r27.2)] ∧ St w0 F0 [Vg b12 r27.1.1.1 r27.1.1.2.1 A41 c_41 r27.1.1.2.2.1 r27.1.1.2.2.2 r27.1.2.1 A42 c_42 r27.1.2.2.1 r27.1.2.2.2 A43 c_43, X51 b1 x18 x19 A33 c_33 x20 x21, Yk b5 (.pointer (some ⟨b1, 0, none⟩)) x22 A34 c_34 (.map (some b4)) x24 A35 c_35 (.pointer (some ⟨b2, 0, none⟩)), Yc .u32 (Value.int .i64) b4 x23, Z8 b2 x25 A36 c_36 x26, Vg b11 x27 x28 A37 c_37 x29 x30 x31 A38 c_38 x32 x33 A39 c_39, O5 x19 A33 c_33, Yi x22 A34 c_34, O3 x24 A35 c_35, Z9 x25 A36 c_36] [R9 r27.1.1.2.1 A41 c_41, Xb r27.1.2.1 A42 c_42, R23 r27.1.2.2.2 A43 c_43, R5 ((gt a2 x34).2.2) A40 c_40, Zdy a2 A1 c_1, R9 x28 A37 c_37, Xb x31 A38 c_38, R23 x33 A39 c_39] w) ?_ ?_
   ·refine Zs h89 ?_
    have h93 := h89.drew
    refine Zx [1, 2] ?_
    refine Zh 0 rfl (Za 4 wI) ?_
    have e5 := Z3 h93.wh (Zf 15) p5 p6
    refine Zh 3 rfl (Zi e5 p5 p6) ?_
    refine Zh 4 rfl (Jk 0 wI (Zf 14)) ?_
    refine HJ.pick [5, 9] (i := 5) rfl rfl rfl rfl ?_
    refine (Yb ?_ (Yb ?_ Xa))
    ·refine Z4 5 rfl (Ya [] (Q57.spec q25) h93 rfl (Zv (Zf 7) (Zv (Zf 8) (Zv (Zf 9) (Zv (Zf 1) Zu))))) ?_
     rintro _ w49 ⟨_, _, ⟨A44, c_44, A45, c_45, A46, c_46, rfl, rfl, rfl⟩, h94⟩
     replace h94 := nf h94
     refine ⟨⟨[], (Xv h94 [3, 4, 5, 6, 7, 8, 9, 10, 11, 12])⟩, ?_⟩
     refine Zx [6, 7, 8] ?_
     refine Zn 9 rfl (Ym h94) ?_
     rintro _ w50 ⟨b13, rfl, h95⟩
     replace h95 := nf h95
     refine ⟨⟨[_], (Xv h95 [3, 4, 5, 6, 7, 8, 9, 10, 11, 12])⟩, ?_⟩
     refine Zn 10 rfl (Zw 0 h95) ?_
     intro _ w51 h96
     replace h96 := nf h96
     refine ⟨⟨[_], (Xv h96 [3, 4, 5, 6, 7, 8, 9, 10, 11, 12])⟩, ?_⟩
     refine Zx [11] ?_
     refine Z2 [2, 3, 10, 12, 14, 15, 16, 17] ?_
     exact Zz ⟨b13, A44, c_44, A45, c_45, A46, c_46, rfl, (sOR h96 [0, 0, 0, 0, 0, 0, 0, 0, 0, 0] [0, 1, 2, 4, 9, 10, 11, 12])⟩
    ·refine Z4 9 rfl (Ym h93) ?_
     rintro _ w52 ⟨b14, rfl, h97⟩
     replace h97 := nf h97
     refine ⟨⟨[_], h97⟩, ?_⟩
     refine Zn 5 rfl (Ya [] (Q57.spec q25) h97 rfl (Zv (Zf 7) (Zv (Zf 8) (Zv (Zf 9) (Zv (Zf 1) Zu))))) ?_
     rintro _ w53 ⟨_, _, ⟨A47, c_47, A48, c_48, A49, c_49, rfl, rfl, rfl⟩, h98⟩
     replace h98 := nf h98
     refine ⟨⟨[_], (Xv h98 [3, 4, 5, 6, 7, 8, 9, 10, 11, 12])⟩, ?_⟩
     refine Zx [6, 7, 8] ?_
     refine Zn 10 rfl (Zw 0 h98) ?_
     intro _ w54 h99
     replace h99 := nf h99
     refine ⟨⟨[_], (Xv h99 [3, 4, 5, 6, 7, 8, 9, 10, 11, 12])⟩, ?_⟩
     refine Zx [11] ?_
     refine Z2 [2, 3, 10, 12, 14, 15, 16, 17] ?_
     exact Zz ⟨b14, A47, c_47, A48, c_48, A49, c_49, rfl, (sOR h99 [0, 0, 0, 0, 0, 0, 0, 0, 0, 0] [0, 1, 2, 4, 9, 10, 11, 12])⟩
   rintro env w55 ⟨b12, A41, c_41, A42, c_42, A43, c_43, rfl, h100⟩
   refine J.seq (J.region ?_)
   refine Zg (Za 0 h100.wht) ?_
   refine Ze (Zw 5 h100) ?_
   intro _ w56 h101
   replace h101 := nf h101
   refine Zm [2, 3, 10, 12, 14, 15, 17] rfl ?_
   refine J.seq (J.seq (J.region ?_))
   refine Zl 3 ?_
   have e6 := Z3 h101.wh (Zf 14) p5 p6
   refine Zg (Zi e6 p5 p6) ?_
   obtain ⟨cs16, h102⟩ := h101.elem 4 rfl p5 p6
   obtain ⟨cs17, cs18, rfl, h103⟩ := Vk 0 h102
   obtain ⟨cs19, cs20, rfl, h104⟩ := Vk 1 h103
   obtain rfl := Wy (.int .i64) 2 h104
   obtain rfl := Wy (.int .u32) 0 h104
   obtain ⟨A50, c_50, rfl⟩ := Uv 1 h104
   refine Zg (Jk 0 h104.wht (Zf 15)) ?_
   obtain ⟨r28, q26, H⟩ := Zp H
   refine Ze (Zk [3, 2, 4, 4, 2, 3, 2, 2] (Q56.spec q26) h104 rfl (Zv (Zf 3) Zu)) ?_
   rintro _ w57 ⟨_, ⟨A51, c_51, A52, c_52, A53, c_53, A54, c_54, rfl, rfl⟩, h105⟩
   replace h105 := nf h105
   refine Zm [2, 3, 10, 12, 14, 15, 96] rfl ?_
   refine jIf H (fun c23 H => ?_) fun c23 H => ?_
   ·refine J.seq (Zb [8] ?_)
    have h106 := Zd h105 []
    replace h106 := nf h106
    refine J.ret ?_
    cases H
    exact ⟨_, _, _, Zc, ⟨rfl, rfl⟩, Zd h106 []⟩
   refine J.skip (J.seq (J.region ?_))
   refine Zl 2 ?_
   obtain ⟨r29, q27, H⟩ := Zp H
   refine Ze (Zk [0, 0, 0, 0, 0, 0, 0, 0] (Q8.spec q27) h105 rfl Zu) ?_
   rintro _ w58 ⟨_, ⟨A55, c_55, rfl, rfl⟩, h107⟩
   replace h107 := nf h107
   refine Zm [2, 3, 10, 12, 14, 15, 18, 19] rfl ?_
   refine J.seq (J.region ?_)
   refine Zg (Za 9 h107.wht) ?_
   refine Zl 1 ?_
   obtain ⟨r30, q28, H⟩ := Zp H
   refine Ze (Zk [] (Q72.spec q28) h107 rfl (Zv (Zf 17) (Zv (Zf 18) (Zv (Zf 19) Zu)))) ?_
   rintro _ w59 ⟨_, ⟨rfl, rfl⟩, h108⟩
   replace h108 := nf h108
   refine Zm [2, 3, 10, 12, 14, 15, 18, 19, 20, 21] rfl ?_
   refine J.seq (J.region ?_)
   refine Zl 1 ?_
   obtain ⟨r31, q29, H⟩ := Zp H
   refine Ze (Zk [2, 2] (Q33.spec q29) h108 rfl Zu) ?_
   rintro _ w60 ⟨_, ⟨rfl, rfl⟩, h109⟩
   replace h109 := nf h109
   refine Ze (Ym h109) ?_
   rintro _ w61 ⟨b15, rfl, h110⟩
   replace h110 := nf h110
   refine Ze (Zw 0 h110) ?_
   intro _ w62 h111
   replace h111 := nf h111
   refine Zm [2, 3, 10, 12, 14, 15, 18, 19, 20, 21, 22] rfl ?_
   refine J.seq (J.seq ?_)
   refine Zs h111 ?_
   have h112 := h111.drew
   refine Zx [0, 2] ?_
   refine Zh 1 rfl (Xk wI (gO 3)) ?_
   refine Zx [3, 4] ?_
   refine Wk 115 H (fun c24 H => ?_) fun c24 H => ?_
   ·refine Zx [5, 6, 7, 8, 9, 10, 11, 12, 13, 14, 15, 16, 17, 18, 19, 20, 21, 22, 23, 24, 25, 26, 27, 28, 29, 30] ?_
    refine Z2 [2, 3, 10, 12, 14, 15, 141] ?_
    have h113 := Zd h112 [1, 1, 2, 2, 2, 2, 2, 2, 2]
    replace h113 := nf h113
    refine Z6 ?_
    refine J.seq (Zb [8] ?_)
    have h114 := Zd h113 []
    replace h114 := nf h114
    refine J.ret ?_
    cases H
    exact ⟨_, _, _, Zc, ⟨rfl, rfl⟩, Zd h114 []⟩
   refine Zx [5, 6, 7, 8, 9] ?_
   refine Wk 120 H (fun c25 H => ?_) fun c25 H => ?_
   ·refine Zx [10, 11, 12, 13, 14, 15, 16, 17, 18, 19, 20, 21, 22, 23, 24, 25, 26, 27, 28, 29, 30] ?_
    refine Z2 [2, 3, 10, 12, 14, 15, 141] ?_
    have h115 := Zd h112 [1, 1, 2, 2, 2, 2, 2, 2, 2]
    replace h115 := nf h115
    refine Z6 ?_
    refine J.seq (Zb [8] ?_)
    have h116 := Zd h115 []
    replace h116 := nf h116
    refine J.ret ?_
    cases H
    exact ⟨_, _, _, Zc, ⟨rfl, rfl⟩, Zd h116 []⟩
   refine Zx [10, 13] ?_
   refine Zh 14 rfl (Za 10 wI) ?_
   obtain ⟨r32, q30, H⟩ := Zp H
   refine Zn 11 rfl (Zk [1, 1] (Q31.spec q30) h112 rfl Zu) ?_
   rintro _ w63 ⟨_, ⟨A56, c_56, rfl, rfl⟩, h117⟩
   replace h117 := nf h117
   refine ⟨⟨[_], (Zd h117 [0, 2, 0, 0, 0, 0, 0, 0, 0, 0, 0, 0, 0])⟩, ?_⟩
   refine HJ.more ⟨[], (Zd h117 [0, 2, 0, 0, 0, 0, 0, 0, 0, 0, 0, 0, 0])⟩ ?_
   refine Zh 12 rfl (Xk wI (gO 0)) ?_
   obtain ⟨r33, q31, H⟩ := Zp H
   refine Zn 15 rfl (Zk [] (Q58.spec q31) h117 rfl (Zv (Zf 19) Zu)) ?_
   rintro _ w65 ⟨_, ⟨rfl, rfl⟩, h118⟩
   replace h118 := nf h118
   refine ⟨⟨[], (Zd h118 [0, 2, 0, 0, 0, 0, 0, 0, 0, 0, 0, 0, 0])⟩, ?_⟩
   refine Zx [16, 17, 18] ?_
   refine Wk 129 H (fun c26 H => ?_) fun c26 H => ?_
   ·refine Zx [19, 20, 21, 22, 23, 24, 25, 26, 27, 28, 29, 30] ?_
    refine Z2 [2, 3, 10, 12, 14, 15, 141] ?_
    have h119 := Zd h118 [1, 1, 3, 3, 3, 3, 3, 3, 3]
    replace h119 := nf h119
    refine Z6 ?_
    refine J.seq (Zb [8] ?_)
    have h120 := Zd h119 []
    replace h120 := nf h120
    refine J.ret ?_
    cases H
    exact ⟨_, _, _, Zc, ⟨rfl, rfl⟩, Zd h120 []⟩
   refine Zx [20, 21, 24, 25] ?_
   refine Zh 19 rfl (Za 1 wI) ?_
   refine Zh 22 rfl (Za 11 wI) ?_
   refine Zx [23] ?_
   refine Zh 26 rfl (Za 11 wI) ?_
   refine Zx [27, 28, 29, 30] ?_
   refine Z2 [2, 3, 10, 12, 14, 15, 141] ?_
   have h121 := Zd h118 [1, 1, 3, 3, 3, 3, 3, 3, 3]
   replace h121 := nf h121
   refine jIf H (fun c27 H => ?_) fun c27 H => ?_
   ·refine J.seq (Zb [8] ?_)
    have h122 := Zd h121 []
    replace h122 := nf h122
    refine J.ret ?_
    cases H
    exact ⟨_, _, _, Zc, ⟨rfl, rfl⟩, Zd h122 []⟩
   refine J.skip (J.seq (Zs h121 ?_))
   have h123 := h121.drew
   refine Zx [0, 1, 4] ?_
   refine Zh 3 rfl (Za 8 wI) ?_
   obtain ⟨r34, q32, H⟩ := Zp H
   refine Zn 2 rfl (Zk [2, 0, 0, 0, 0, 0, 0, 0] (Q7.spec q32) h123 rfl Zu) ?_
   rintro _ w66 ⟨_, ⟨rfl, rfl⟩, h124⟩
   replace h124 := nf h124
   refine ⟨⟨[], (Zd h124 [1, 1, 0, 0, 0, 0, 0, 0, 0])⟩, ?_⟩
   obtain ⟨r35, q33, H⟩ := Zp H
   refine Zn 5 rfl (Zk [] (Q71.spec q33) h124 rfl (Zv (Zf 15) (Zv (Zf 16) (Zv (Zf 17) Zu)))) ?_
   rintro _ w67 ⟨_, ⟨rfl, rfl⟩, h125⟩
   replace h125 := nf h125
   refine ⟨⟨[], (Zd h125 [1, 1, 0, 0, 0, 0, 0, 0, 0])⟩, ?_⟩
   refine Zx [6, 7] ?_
   refine Wk 149 H (fun c28 H => ?_) fun c28 H => ?_
   ·refine Zx [8, 9, 10, 11, 12, 13, 14, 15, 16, 17, 18, 19, 20, 21, 22, 23, 24, 25, 26, 27, 28, 29, 30] ?_
    refine Z2 [2, 3, 10, 12, 14, 15, 172] ?_
    refine Z6 ?_
    refine J.seq (Zb [8] ?_)
    have h126 := Zd h125 []
    replace h126 := nf h126
    refine J.ret ?_
    cases H
    exact ⟨_, _, _, Zc, ⟨rfl, rfl⟩, Zd h126 []⟩
   refine Zx [8] ?_
   refine Zh 10 rfl (Za 8 wI) ?_
   obtain ⟨r36, q34, H⟩ := Zp H
   refine Zn 9 rfl (Zk [0, 0, 0, 0, 0, 0, 0, 0] (Q2.spec q34) h125 rfl Zu) ?_
   rintro _ w68 ⟨_, ⟨A57, c_57, rfl, rfl⟩, h127⟩
   replace h127 := nf h127
   refine ⟨⟨[_], (Zd h127 [0, 1, 1, 0, 0, 0, 0, 0, 0, 0])⟩, ?_⟩
   obtain ⟨r37, q35, H⟩ := Zp H
   refine Zn 11 rfl (Zk [] (Q64.spec q35) h127 rfl (Zv (Zf 16) (Zv (Zf 17) (Zv (Zf 18) Zu)))) ?_
   rintro _ w69 ⟨_, ⟨A58, c_58, rfl, rfl⟩, h128⟩
   replace h128 := nf h128
   refine ⟨⟨[_, _], (Zd h128 [0, 0, 1, 1, 0, 0, 0, 0, 0, 0, 0])⟩, ?_⟩
   obtain ⟨r38, q36, H⟩ := Zp H
   refine Zn 12 rfl (Zk [] (Q63.spec q36) h128 rfl (Zv (gO 1) (Zv (gO 0) Zu))) ?_
   rintro _ w70 ⟨_, ⟨rfl, rfl⟩, h129⟩
   replace h129 := nf h129
   refine ⟨⟨[_, _], (Zd h129 [0, 0, 1, 1, 0, 0, 0, 0, 0, 0, 0])⟩, ?_⟩
   refine Zx [13, 14, 15] ?_
   refine Wk 157 H (fun c29 H => ?_) fun c29 H => ?_
   ·refine Zx [16, 17, 18, 19, 20, 21, 22, 23, 24, 25, 26, 27, 28, 29, 30] ?_
    refine Z2 [2, 3, 10, 12, 14, 15, 172] ?_
    have h130 := Zd h129 [2, 2, 2, 2, 2, 2, 2, 2, 2]
    replace h130 := nf h130
    refine Z6 ?_
    refine J.seq (Zb [8] ?_)
    have h131 := Zd h130 []
    replace h131 := nf h131
    refine J.ret ?_
    cases H
    exact ⟨_, _, _, Zc, ⟨rfl, rfl⟩, Zd h131 []⟩
   refine Zx [16, 18] ?_
   refine Zh 19 rfl (Za 8 wI) ?_
   obtain ⟨r39, q37, H⟩ := Zp H
   refine Zn 17 rfl (Zk [2, 2, 2, 2, 2, 2, 2, 2] (Q9.spec q37) h129 rfl Zu) ?_
   rintro _ w71 ⟨_, ⟨A59, c_59, rfl, rfl⟩, h132⟩
   replace h132 := nf h132
   refine ⟨⟨[_, _, _], (Zd h132 [0, 8, 8, 1, 1, 0, 0, 0, 0, 0, 0, 0])⟩, ?_⟩
   obtain ⟨r40, q38, H⟩ := Zp H
   refine Zn 20 rfl (Zk [] (Q63.spec q38) h132 rfl (Zv (gO 0) (Zv (Zf 20) Zu))) ?_
   rintro _ w72 ⟨_, ⟨rfl, rfl⟩, h133⟩
   replace h133 := nf h133
   refine ⟨⟨[_, _, _], (Zd h133 [0, 8, 8, 1, 1, 0, 0, 0, 0, 0, 0, 0])⟩, ?_⟩
   refine Zx [21, 22, 23] ?_
   refine Wk 165 H (fun c30 H => ?_) fun c30 H => ?_
   ·refine Zx [24, 25, 26, 27, 28, 29, 30] ?_
    refine Z2 [2, 3, 10, 12, 14, 15, 172] ?_
    have h134 := Zd h133 [1, 1, 1, 1, 1, 1, 1, 1, 3]
    replace h134 := nf h134
    refine Z6 ?_
    refine J.seq (Zb [8] ?_)
    have h135 := Zd h134 []
    replace h135 := nf h135
    refine J.ret ?_
    cases H
    exact ⟨_, _, _, Zc, ⟨rfl, rfl⟩, Zd h135 []⟩
   refine Zx [24, 26] ?_
   refine Zh 27 rfl (Za 8 wI) ?_
   refine Zx [28] ?_
   obtain ⟨r41, q39, H⟩ := Zp H
   refine Zn 25 rfl (Zk [1, 1, 1, 1, 1, 1, 1, 1] (Q11.spec q39) h133 rfl Zu) ?_
   rintro _ w73 ⟨_, ⟨rfl, rfl⟩, h136⟩
   replace h136 := nf h136
   refine ⟨⟨[_, _, _], (Zd h136 [8, 8, 8, 1, 1, 0, 0, 0, 0, 0, 0, 0])⟩, ?_⟩
   refine Zx [29, 30] ?_
   refine Z2 [2, 3, 10, 12, 14, 15, 172] ?_
   have h137 := Zd h136 [0, 0, 0, 0, 0, 0, 0, 0, 3]
   replace h137 := nf h137
   refine jIf H (fun c31 H => ?_) fun c31 H => ?_
   ·refine J.seq (Zb [8] ?_)
    have h138 := Zd h137 []
    replace h138 := nf h138
    refine J.ret ?_
    cases H
    exact ⟨_, _, _, Zc, ⟨rfl, rfl⟩, Zd h138 []⟩
   refine J.skip (Zb [2, 3, 10, 12, 14, 15] ?_)
   have h139 := (sOR h137 [1, 0, 2, 3, 4, 0, 0, 0, 0] [10, 6, 7, 8])
   exact ⟨k2, by omega, r28.2.1.1, r28.2.1.2.1, A51, c_51, r28.2.1.2.2.1, r28.2.1.2.2.2, r28.2.2.1, A52, c_52, r28.2.2.2.1, r28.2.2.2.2.1, A53, c_53, r28.2.2.2.2.2.1, A54, c_54, r28.2.2.2.2.2.2, r27.1.1.1, r27.1.1.2.1, A41, c_41, r27.1.1.2.2.1, r27.1.1.2.2.2, r27.1.2.1, A42, c_42, r27.1.2.2.1, r27.1.2.2.2, A43, c_43, (w64 (x34 + 1)), rfl, h139, H⟩
  refine J.exit (J.seq (J.region ?_))
  obtain ⟨r42, q40, H⟩ := Zp H
  refine Ze (Zk [] (Q55.spec q40) h86 rfl Zu) ?_
  rintro _ w74 ⟨_, ⟨rfl, rfl⟩, h140⟩
  replace h140 := nf h140
  refine Zm [8] rfl ?_
  have h141 := Zd h140 []
  replace h141 := nf h141
  refine J.ret ?_
  cases H
  exact ⟨_, _, _, Zc, ⟨rfl, rfl⟩, Zd h141 []⟩
 refine Zm [2, 3, 10, 12, 14, 15, 76] rfl ?_
 refine Z7 ?_
 refine J.exit (J.seq (J.region ?_))
 obtain ⟨r43, q41, H⟩ := Zp H
 refine Ze (Zk [] (Q55.spec q41) h86 rfl Zu) ?_
 rintro _ w75 ⟨_, ⟨rfl, rfl⟩, h142⟩
 replace h142 := nf h142
 refine Zm [8] rfl ?_
 have h143 := Zd h142 []
 replace h143 := nf h143
 refine J.ret ?_
 cases H
 exact ⟨_, _, _, Zc, ⟨rfl, rfl⟩, Zd h143 []⟩

end Go.SK.T
