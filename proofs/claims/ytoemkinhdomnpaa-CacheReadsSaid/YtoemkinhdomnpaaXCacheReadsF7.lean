/- The functions, further. -/
import Derived.Test.YtoemkinhdomnpaaXCacheReadsF6
set_option linter.unusedVariables false
set_option linter.unusedSimpArgs false
set_option maxRecDepth 20000
set_option maxHeartbeats 40000000
namespace Go.SK.T
open Go Go.SK Go.Proofs
def Q2.l0 : Nat → ((Int × List (Int) × (Int × Int)) × (List (Int × List (Int) × Bool × Int)) × (List (Int × Int)) × List (Int) × ((List (Int × Int × Bool)) × Int)) → (List (Int)) → (List (Int)) → (Int) → Option (List (Int))
 | 0, _, _, _, _ => none
 | k + 1, a0, r2, x1, x2 => if (decide (x2 < (r2.length : Int))) = true then (if 0 ≤ x2 ∧ x2 < (r2.length : Int) then (if 0 ≤ (Zq (0 : Int) a0.2.2.1 (gt r2 x2)) ∧ (Zq (0 : Int) a0.2.2.1 (gt r2 x2)) < (a0.2.1.length : Int) then (if (gt a0.2.1 (Zq (0 : Int) a0.2.2.1 (gt r2 x2))).2.2.1 = true then (if (x1.length + ([(gt r2 x2)] : List (Int)).length) * 4 ≤ 140737488355328 then (Q2.l0 k a0 r2 (x1 ++ ([(gt r2 x2)] : List (Int))) (w64 (x2 + 1))) else none) else (Q2.l0 k a0 r2 x1 (w64 (x2 + 1)))) else none) else none) else (some x1)
def Q2.f (k : Nat) (a0 : (Int × List (Int) × (Int × Int)) × (List (Int × List (Int) × Bool × Int)) × (List (Int × Int)) × List (Int) × ((List (Int × Int × Bool)) × Int)) : Option (List (Int)) := (Q11.f a0).bind fun r1 => (if r1 = true then (some ([] : List (Int))) else ((Q54.f a0.2.2.1).bind fun r2 => (Q2.l0 k a0 r2 ([] : List (Int)) 0)))
theorem Q2.spec {k : Nat} {a0 : (Int × List (Int) × (Int × Int)) × (List (Int × List (Int) × Bool × Int)) × (List (Int × Int)) × List (Int) × ((List (Int × Int × Bool)) × Int)} {b1 : Nat} {b2 : Nat} {b3 : Nat} {b4 : Nat} {A1 : Option Addr} {c_1 : Nat} {A2 : Option Addr} {c_2 : Nat} {A3 : Option Addr} {c_3 : Nat} {A4 : Option Addr} {c_4 : Nat} {r : List (Int)} (H : Q2.f k a0 = some r) :
  Spec Try.prog 55 [.pointer (some ⟨b1, 0, none⟩)] [Yb b1 (.pointer (some ⟨b2, 0, none⟩)) a0.2.1 A2 c_2 (.map (some b3)) a0.2.2.2.1 A3 c_3 (.pointer (some ⟨b4, 0, none⟩)), X51 b2 a0.1.1 a0.1.2.1 A1 c_1 a0.1.2.2.1 a0.1.2.2.2, O5 a0.1.2.1 A1 c_1, Ya a0.2.1 A2 c_2, Z8 .u32 (Value.int .i64) b3 a0.2.2.1, O3 a0.2.2.2.1 A3 c_3, Z4 b4 a0.2.2.2.2.1 A4 c_4 a0.2.2.2.2.2, Z5 a0.2.2.2.2.1 A4 c_4] [] (fun v l => ∃ (A_0 : Option Addr) (c_0 : Nat), v = .slice A_0 r.length c_0 ∧ l = [O23 r A_0 c_0, Yb b1 (.pointer (some ⟨b2, 0, none⟩)) a0.2.1 A2 c_2 (.map (some b3)) a0.2.2.2.1 A3 c_3 (.pointer (some ⟨b4, 0, none⟩)), X51 b2 a0.1.1 a0.1.2.1 A1 c_1 a0.1.2.2.1 a0.1.2.2.2, O5 a0.1.2.1 A1 c_1, Ya a0.2.1 A2 c_2, Z8 .u32 (Value.int .i64) b3 a0.2.2.1, O3 a0.2.2.2.1 A3 c_3, Z4 b4 a0.2.2.2.2.1 A4 c_4 a0.2.2.2.2.2, Z5 a0.2.2.2.2.1 A4 c_4]) := by
 refine Zs Try.func55 fun w0 F0 h0 => ?_
 unfold Q2.f at H
 refine J.seq (Zb [0] ?_)
 refine J.seq (J.seq (J.region ?_))
 refine Zm 1 ?_
 obtain ⟨r1, q1, H⟩ := Zp H
 refine Zh (Zi [0, 0, 0, 0, 0, 0, 0, 0] (Q11.spec q1) h0 rfl Zt) ?_
 rintro _ w1 ⟨_, ⟨rfl, rfl⟩, h1⟩
 replace h1 := nf h1
 refine Zn [0, 7] rfl ?_
 refine jIf H (fun c1 H => ?_) fun c1 H => ?_
 ·refine J.seq (Zb [2] ?_)
  refine J.ret ?_
  have h2 := h1.addNil 23 (.int .u32)
  cases H
  exact ⟨_, _, _, Za, ⟨_, _, rfl, rfl⟩, Zc h2 [0, 0, 0, 0, 0, 0, 0, 0, 0]⟩
 refine J.skip (J.seq (Zb [0, 3] ?_))
 refine J.seq (J.seq (J.region ?_))
 refine Zm 3 ?_
 refine Zk (Zd 0 h1.wht) ?_
 refine Zh (Zi [] keys.spec h1 rfl Zt) ?_
 rintro _ w2 ⟨_, ⟨b5, rfl, rfl⟩, h3⟩
 replace h3 := nf h3
 obtain ⟨r2, q2, H⟩ := Zp H
 refine Zh (Zi [0, 4] (Q54.spec q2) h3 rfl Zt) ?_
 rintro _ w3 ⟨_, ⟨A5, c_5, rfl, rfl⟩, h4⟩
 replace h4 := nf h4
 refine Zn [0, 3, 13, 14, 15] rfl ?_
 refine J.block ?_
 have h11 := h4.addNil 23 (.int .u32)
 have h12 := (sOR h11 [4, 4, 3, 6, 3, 3, 3, 3, 0, 0] [])
 refine J.loop (fun kk env w => ∃ (x1 : List (Int)) (A6 : Option Addr) (c_6 : Nat) (x2 : Int), env = [(0, .pointer (some ⟨b1, 0, none⟩)), (3, .slice A6 x1.length c_6), (13, .slice A5 r2.length c_5), (14, .int .i64 (r2.length : Int)), (15, .int .i64 x2)] ∧ St w0 F0 [Yb b1 (.pointer (some ⟨b2, 0, none⟩)) a0.2.1 A2 c_2 (.map (some b3)) a0.2.2.2.1 A3 c_3 (.pointer (some ⟨b4, 0, none⟩)), X51 b2 a0.1.1 a0.1.2.1 A1 c_1 a0.1.2.2.1 a0.1.2.2.2, Z8 .u32 (Value.int .i64) b3 a0.2.2.1, Z4 b4 a0.2.2.2.2.1 A4 c_4 a0.2.2.2.2.2, O5 a0.1.2.1 A1 c_1, Ya a0.2.1 A2 c_2, O3 a0.2.2.2.1 A3 c_3, Z5 a0.2.2.2.2.1 A4 c_4, O23 x1 A6 c_6, O23 r2 A5 c_5] [] w ∧ Q2.l0 kk a0 r2 x1 x2 = some r) (k := k) ⟨([] : List (Int)), none, 0, 0, rfl, h12, H⟩ ?_
 rintro k1 env w4 ⟨x1, A6, c_6, x2, rfl, h5, H⟩
 rcases k1 with _ | k1
 ·exact z0 H
 rw [Q2.l0] at H
 refine J.seq (Zb [0, 3, 13, 14, 15, 16] ?_)
 refine J.seq (jIf H (fun c2 H => ?_) fun c2 H => ?_)
 ·refine J.skip (J.seq (J.block (J.seq (J.region ?_))))
  obtain ⟨⟨p1, p2⟩, H⟩ := Zo H
  have e1 := Z3 h5.wh (gO 9) p1 p2
  refine Zk (Zf e1 p1 p2) ?_
  refine Zk (Zg 0 h5.wht (gO 9) p1 p2) ?_
  refine Zn [0, 3, 5, 13, 14, 15] rfl ?_
  refine J.seq (Zr h5 ?_)
  have h6 := h5.drew
  refine Zv [0, 1, 2, 4, 5, 6, 8] ?_
  refine Ze 3 rfl (Zd 0 wI) ?_
  refine Ze 7 rfl (Zd 0 wI) ?_
  refine Ze 9 rfl (Vs (0 : Int) 2 wI) ?_
  obtain ⟨⟨p3, p4⟩, H⟩ := Zo H
  have e2 := Z3 h6.wh (gO 5) p3 p4
  refine Ze 10 rfl (Zf e2 p3 p4) ?_
  refine Zv [11] ?_
  refine Ze 12 rfl (Ye 2 wI (gO 5) p3 p4) ?_
  refine Zy [0, 3, 5, 13, 14, 15, 31] ?_
  refine jIf H (fun c3 H => ?_) fun c3 H => ?_
  ·refine J.region (Zm 2 ?_)
   refine Zh (Xi (.int .u32) ([(gt r2 x2)] : List (Int)) h6) ?_
   rintro _ w5 ⟨b6, rfl, h7⟩
   replace h7 := nf h7
   obtain ⟨p5, H⟩ := Zo H
   refine Zh (Y6 9 h7 (gO 0) p5) ?_
   rintro _ w6 ⟨A7, c_7, rfl, h8⟩
   replace h8 := nf h8
   refine Zn [0, 3, 13, 14, 15] rfl ?_
   refine Zb [0, 3, 13, 14, 15] ?_
   have h9 := (sOR h8 [2, 2, 2, 2, 2, 2, 2, 2, 0, 1] [])
   exact ⟨k1, by omega, (x1 ++ ([(gt r2 x2)] : List (Int))), A7, c_7, (w64 (x2 + 1)), rfl, h9, H⟩
  refine J.skip (Zb [0, 3, 13, 14, 15] ?_)
  have h10 := (sOR h6 [0, 0, 0, 0, 0, 0, 0, 0, 0, 0] [])
  exact ⟨k1, by omega, x1, A6, c_6, (w64 (x2 + 1)), rfl, h10, H⟩
 refine J.exit (J.seq (Zb [2] ?_))
 refine J.ret ?_
 cases H
 exact ⟨_, _, _, Za, ⟨_, _, rfl, rfl⟩, Zc h5 [8, 0, 0, 2, 2, 0, 1, 0, 0]⟩

def Q4.l0 : Nat → ((Int × List (Int) × (Int × Int)) × (List (Int × List (Int) × Bool × Int)) × (List (Int × Int)) × List (Int) × ((List (Int × Int × Bool)) × Int)) → (List (Int)) → (Int) → (List (Int)) → (Int) → (Int) → (List (Int × List (Int) × Bool × Int)) → (Int) → Option (Int × ((Int × List (Int) × (Int × Int)) × (List (Int × List (Int) × Bool × Int)) × (List (Int × Int)) × List (Int) × ((List (Int × Int × Bool)) × Int)))
 | 0, _, _, _, _, _, _, _, _ => none
 | k + 1, a0, r2, x1, x2, x3, x4, x5, x6 => if (decide (x6 < (r2.length : Int))) = true then (if 0 ≤ x6 ∧ x6 < (r2.length : Int) then (if 0 ≤ (Zq (0 : Int) a0.2.2.1 (gt r2 x6)) ∧ (Zq (0 : Int) a0.2.2.1 (gt r2 x6)) < (x5.length : Int) then (if (gt x5 (Zq (0 : Int) a0.2.2.1 (gt r2 x6))).2.2.1 = true then ((Q30.f (x1, x2, (x3, x4)) ((gt x5 (Zq (0 : Int) a0.2.2.1 (gt r2 x6))).1) ((gt x5 (Zq (0 : Int) a0.2.2.1 (gt r2 x6))).2.1)).bind fun r3 => (Q4.l0 k a0 r2 r3.2.1 r3.2.2.1 r3.2.2.2.1 r3.2.2.2.2 (x5.set (Zq (0 : Int) a0.2.2.1 (gt r2 x6)).toNat ((gt x5 (Zq (0 : Int) a0.2.2.1 (gt r2 x6))).1, (gt x5 (Zq (0 : Int) a0.2.2.1 (gt r2 x6))).2.1, false, (gt x5 (Zq (0 : Int) a0.2.2.1 (gt r2 x6))).2.2.2)) (w64 (x6 + 1)))) else (Q4.l0 k a0 r2 x1 x2 x3 x4 x5 (w64 (x6 + 1)))) else none) else none) else (some (0, ((x1, x2, (x3, x4)), x5, a0.2.2.1, a0.2.2.2.1, a0.2.2.2.2)))
def Q4.f (k : Nat) (a0 : (Int × List (Int) × (Int × Int)) × (List (Int × List (Int) × Bool × Int)) × (List (Int × Int)) × List (Int) × ((List (Int × Int × Bool)) × Int)) : Option (Int × ((Int × List (Int) × (Int × Int)) × (List (Int × List (Int) × Bool × Int)) × (List (Int × Int)) × List (Int) × ((List (Int × Int × Bool)) × Int))) := (Q11.f a0).bind fun r1 => (if r1 = true then (some (1, a0)) else ((Q2.f k a0).bind fun r2 => (Q4.l0 k a0 r2 a0.1.1 a0.1.2.1 a0.1.2.2.1 a0.1.2.2.2 a0.2.1 0)))
theorem Q4.spec {k : Nat} {a0 : (Int × List (Int) × (Int × Int)) × (List (Int × List (Int) × Bool × Int)) × (List (Int × Int)) × List (Int) × ((List (Int × Int × Bool)) × Int)} {b1 : Nat} {b2 : Nat} {b3 : Nat} {b4 : Nat} {A1 : Option Addr} {c_1 : Nat} {A2 : Option Addr} {c_2 : Nat} {A3 : Option Addr} {c_3 : Nat} {A4 : Option Addr} {c_4 : Nat} {r : Int × ((Int × List (Int) × (Int × Int)) × (List (Int × List (Int) × Bool × Int)) × (List (Int × Int)) × List (Int) × ((List (Int × Int × Bool)) × Int))} (H : Q4.f k a0 = some r) :
  Spec Try.prog 54 [.pointer (some ⟨b1, 0, none⟩)] [Yb b1 (.pointer (some ⟨b2, 0, none⟩)) a0.2.1 A2 c_2 (.map (some b3)) a0.2.2.2.1 A3 c_3 (.pointer (some ⟨b4, 0, none⟩)), X51 b2 a0.1.1 a0.1.2.1 A1 c_1 a0.1.2.2.1 a0.1.2.2.2, O5 a0.1.2.1 A1 c_1, Ya a0.2.1 A2 c_2, Z8 .u32 (Value.int .i64) b3 a0.2.2.1, O3 a0.2.2.2.1 A3 c_3, Z4 b4 a0.2.2.2.2.1 A4 c_4 a0.2.2.2.2.2, Z5 a0.2.2.2.2.1 A4 c_4] [] (fun v l => ∃ (A_0 : Option Addr) (c_0 : Nat) (A_1 : Option Addr) (c_1 : Nat) (A_2 : Option Addr) (c_2 : Nat) (A_3 : Option Addr) (c_3 : Nat), v = .int .i64 r.1 ∧ l = [Yb b1 (.pointer (some ⟨b2, 0, none⟩)) r.2.2.1 A_1 c_1 (.map (some b3)) r.2.2.2.2.1 A_2 c_2 (.pointer (some ⟨b4, 0, none⟩)), X51 b2 r.2.1.1 r.2.1.2.1 A_0 c_0 r.2.1.2.2.1 r.2.1.2.2.2, O5 r.2.1.2.1 A_0 c_0, Ya r.2.2.1 A_1 c_1, Z8 .u32 (Value.int .i64) b3 r.2.2.2.1, O3 r.2.2.2.2.1 A_2 c_2, Z4 b4 r.2.2.2.2.2.1 A_3 c_3 r.2.2.2.2.2.2, Z5 r.2.2.2.2.2.1 A_3 c_3]) := by
 refine Zs Try.func54 fun w0 F0 h0 => ?_
 unfold Q4.f at H
 refine J.seq (Zb [0] ?_)
 refine J.seq (J.seq (J.region ?_))
 refine Zm 1 ?_
 obtain ⟨r1, q1, H⟩ := Zp H
 refine Zh (Zi [0, 0, 0, 0, 0, 0, 0, 0] (Q11.spec q1) h0 rfl Zt) ?_
 rintro _ w1 ⟨_, ⟨rfl, rfl⟩, h1⟩
 replace h1 := nf h1
 refine Zn [0, 6] rfl ?_
 refine jIf H (fun c1 H => ?_) fun c1 H => ?_
 ·refine J.seq (Zb [2] ?_)
  refine J.ret ?_
  cases H
  exact ⟨_, _, _, Za, ⟨_, _, _, _, _, _, _, _, rfl, rfl⟩, Zc h1 [0, 0, 0, 0, 0, 0, 0, 0]⟩
 refine J.skip (J.seq (J.seq (J.region ?_)))
 refine Zm 1 ?_
 obtain ⟨r2, q2, H⟩ := Zp H
 refine Zh (Zi [0, 0, 0, 0, 0, 0, 0, 0] (Q2.spec q2) h1 rfl Zt) ?_
 rintro _ w2 ⟨_, ⟨A5, c_5, rfl, rfl⟩, h2⟩
 replace h2 := nf h2
 refine Zn [0, 8, 9, 10] rfl ?_
 refine J.block ?_
 have h12 := (sOR h2 [1, 1, 3, 4, 1, 1, 1, 1, 0] [])
 refine J.loop (fun kk env w => ∃ (x1 : Int) (x2 : List (Int)) (A6 : Option Addr) (c_6 : Nat) (x3 : Int) (x4 : Int) (x5 : List (Int × List (Int) × Bool × Int)) (A7 : Option Addr) (c_7 : Nat) (x6 : Int), env = [(0, .pointer (some ⟨b1, 0, none⟩)), (8, .slice A5 r2.length c_5), (9, .int .i64 (r2.length : Int)), (10, .int .i64 x6)] ∧ St w0 F0 [Yb b1 (.pointer (some ⟨b2, 0, none⟩)) x5 A7 c_7 (.map (some b3)) a0.2.2.2.1 A3 c_3 (.pointer (some ⟨b4, 0, none⟩)), X51 b2 x1 x2 A6 c_6 x3 x4, Z8 .u32 (Value.int .i64) b3 a0.2.2.1, Z4 b4 a0.2.2.2.2.1 A4 c_4 a0.2.2.2.2.2, O5 x2 A6 c_6, Ya x5 A7 c_7, O3 a0.2.2.2.1 A3 c_3, Z5 a0.2.2.2.2.1 A4 c_4, O23 r2 A5 c_5] [] w ∧ Q4.l0 kk a0 r2 x1 x2 x3 x4 x5 x6 = some r) (k := k) ⟨a0.1.1, a0.1.2.1, A1, c_1, a0.1.2.2.1, a0.1.2.2.2, a0.2.1, A2, c_2, 0, rfl, h12, H⟩ ?_
 rintro k1 env w3 ⟨x1, x2, A6, c_6, x3, x4, x5, A7, c_7, x6, rfl, h3, H⟩
 rcases k1 with _ | k1
 ·exact z0 H
 rw [Q4.l0] at H
 refine J.seq (Zb [0, 8, 9, 10, 11] ?_)
 refine J.seq (jIf H (fun c2 H => ?_) fun c2 H => ?_)
 ·refine J.skip (J.seq (J.block (J.seq (J.region ?_))))
  obtain ⟨⟨p1, p2⟩, H⟩ := Zo H
  have e1 := Z3 h3.wh (gO 8) p1 p2
  refine Zk (Zf e1 p1 p2) ?_
  refine Zk (Zg 0 h3.wht (gO 8) p1 p2) ?_
  refine Zn [0, 4, 8, 9, 10] rfl ?_
  refine Zr (Zc h3 [0, 1, 1, 3, 3, 3]) ?_
  have h4 := h3.drew
  refine Zv [0, 1, 2, 3, 5, 6, 7, 9] ?_
  refine Ze 4 rfl (Zd 0 wI) ?_
  refine Ze 8 rfl (Zd 0 wI) ?_
  refine Ze 10 rfl (Vs (0 : Int) 1 wI) ?_
  obtain ⟨⟨p3, p4⟩, H⟩ := Zo H
  have e2 := Z3 h4.wh (gO 5) p3 p4
  refine Ze 11 rfl (Zf e2 p3 p4) ?_
  refine Zay 12 rfl Try.func100 ?_
  refine J.seq (J.region ?_)
  refine Zm 3 ?_
  refine Zk (Ye 2 h4.wht (gO 5) p3 p4) ?_
  refine Zn [0, 1, 7] rfl ?_
  refine jIf H (fun c3 H => ?_) fun c3 H => ?_
  ·refine J.seq ?_
   obtain ⟨A8, c_8, h5⟩ := h4.openI 5 rfl p3 p4
   refine Zr (Zc h5 [0, 0, 1, 1, 2, 2, 2]) ?_
   have h6 := h5.drew
   refine Zv [0, 1, 2, 4, 5, 6, 8, 9, 10] ?_
   refine Ze 3 rfl (Zd 1 wI) ?_
   refine Ze 7 rfl (Ye 0 wI (Wb 0 Zcf) p3 p4) ?_
   refine Ze 11 rfl (Vw wI (Z0 0)) ?_
   obtain ⟨r3, q3, H⟩ := Zp H
   refine Zl 12 rfl (Zi [2, 4] (Q30.spec q3) h6 rfl (Y8 (Wb 0 B2) Zt)) ?_
   rintro _ w4 ⟨_, ⟨A9, c_9, rfl, rfl⟩, h7⟩
   replace h7 := nf h7
   refine ⟨⟨[_, _], h7⟩, ?_⟩
   refine Zy [1] ?_
   have h8 := h7.closeI 2 rfl
   refine J.region (Zm 3 ?_)
   refine Zh (Xe 2 (.pair (.int .u32) (.pair (.slice 5 (.int .u8)) (.pair .bool (.int .i64)))) (Zq (0 : Int) a0.2.2.1 (gt r2 x6)) ((gt x5 (Zq (0 : Int) a0.2.2.1 (gt r2 x6))).1, (gt x5 (Zq (0 : Int) a0.2.2.1 (gt r2 x6))).2.1, false, (gt x5 (Zq (0 : Int) a0.2.2.1 (gt r2 x6))).2.2.2) 0 h8 rfl p3 p4 (Vq rfl rfl)) ?_
   intro _ w5 h9
   replace h9 := nf h9
   replace h9 : St w0 F0 [Ya (x5.set (Zq (0 : Int) a0.2.2.1 (gt r2 x6)).toNat ((gt x5 (Zq (0 : Int) a0.2.2.1 (gt r2 x6))).1, (gt x5 (Zq (0 : Int) a0.2.2.1 (gt r2 x6))).2.1, false, (gt x5 (Zq (0 : Int) a0.2.2.1 (gt r2 x6))).2.2.2)) A7 c_7, X51 b2 r3.2.1 r3.2.2.1 A9 c_9 r3.2.2.2.1 r3.2.2.2.2, O5 r3.2.2.1 A9 c_9, Yb b1 (.pointer (some ⟨b2, 0, none⟩)) (x5.set (Zq (0 : Int) a0.2.2.1 (gt r2 x6)).toNat ((gt x5 (Zq (0 : Int) a0.2.2.1 (gt r2 x6))).1, (gt x5 (Zq (0 : Int) a0.2.2.1 (gt r2 x6))).2.1, false, (gt x5 (Zq (0 : Int) a0.2.2.1 (gt r2 x6))).2.2.2)) A7 c_7 (.map (some b3)) a0.2.2.2.1 A3 c_3 (.pointer (some ⟨b4, 0, none⟩)), Z8 .u32 (Value.int .i64) b3 a0.2.2.1, Z4 b4 a0.2.2.2.2.1 A4 c_4 a0.2.2.2.2.2, O3 a0.2.2.2.1 A3 c_3, Z5 a0.2.2.2.2.1 A4 c_4, O23 r2 A5 c_5] _ _ := h9.retell (by simp only [List.length_set, List.length_nil, Ya, Z5, O23, O3, O5, Yb, Z4, X51] <;> rfl)
   refine Zn [] rfl ?_
   refine ⟨_, Za, ?_⟩
   replace h9 := nf h9
   refine ⟨⟨[Ya (x5.set (Zq (0 : Int) a0.2.2.1 (gt r2 x6)).toNat ((gt x5 (Zq (0 : Int) a0.2.2.1 (gt r2 x6))).1, (gt x5 (Zq (0 : Int) a0.2.2.1 (gt r2 x6))).2.1, false, (gt x5 (Zq (0 : Int) a0.2.2.1 (gt r2 x6))).2.2.2)) A7 c_7, X51 b2 r3.2.1 r3.2.2.1 A9 c_9 r3.2.2.2.1 r3.2.2.2.2, O5 r3.2.2.1 A9 c_9], (h9.retell (by simp only [List.length_set, List.cons_append, List.nil_append, List.length_nil, Ya, Z5, O23, O3, O5, Yb, Z4, X51] <;> rfl))⟩, ?_⟩
   refine Zy [0, 8, 9, 10] ?_
   refine Zb [0, 8, 9, 10] ?_
   have h10 := (sOR h9 [3, 1, 2, 2, 1, 0, 0, 0, 0] [])
   exact ⟨k1, by omega, r3.2.1, r3.2.2.1, A9, c_9, r3.2.2.2.1, r3.2.2.2.2, (x5.set (Zq (0 : Int) a0.2.2.1 (gt r2 x6)).toNat ((gt x5 (Zq (0 : Int) a0.2.2.1 (gt r2 x6))).1, (gt x5 (Zq (0 : Int) a0.2.2.1 (gt r2 x6))).2.1, false, (gt x5 (Zq (0 : Int) a0.2.2.1 (gt r2 x6))).2.2.2)), A7, c_7, (w64 (x6 + 1)), rfl, h10, H⟩
  refine J.skip (⟨_, Za, ?_⟩)
  replace h4 := nf h4
  refine ⟨⟨[_, _, _], (Zc h4 [1, 3, 3, 0, 0, 0, 0, 0, 0])⟩, ?_⟩
  refine Zy [0, 8, 9, 10] ?_
  refine Zb [0, 8, 9, 10] ?_
  have h11 := (sOR h4 [0, 0, 0, 0, 0, 0, 0, 0, 0] [])
  exact ⟨k1, by omega, x1, x2, A6, c_6, x3, x4, x5, A7, c_7, (w64 (x6 + 1)), rfl, h11, H⟩
 refine J.exit (J.seq (Zb [2] ?_))
 refine J.ret ?_
 cases H
 exact ⟨_, _, _, Za, ⟨_, _, _, _, _, _, _, _, rfl, rfl⟩, Zc h3 [0, 0, 2, 2, 0, 1, 0, 0]⟩

def Q7.f (a0 : (Int × List (Int) × (Int × Int)) × (List (Int × List (Int) × Bool × Int)) × (List (Int × Int)) × List (Int) × ((List (Int × Int × Bool)) × Int)) (a1 : Int) : Option (List (Int) × Int) := (Q11.f a0).bind fun r1 => (if r1 = true then (some (([] : List (Int)), 1)) else (if (!(Yn a0.2.2.1 a1)) = true then (some (([] : List (Int)), 8)) else (if 0 ≤ (Zq (0 : Int) a0.2.2.1 a1) ∧ (Zq (0 : Int) a0.2.2.1 a1) < (a0.2.1.length : Int) then (if (decide (((gt a0.2.1 (Zq (0 : Int) a0.2.2.1 a1)).2.2.2) = 0)) = true then (some (([] : List (Int)), 8)) else ((Q34.f ((gt a0.2.1 (Zq (0 : Int) a0.2.2.1 a1)).2.1)).bind fun r2 => (some (r2, 0)))) else none)))
theorem Q7.spec {a0 : (Int × List (Int) × (Int × Int)) × (List (Int × List (Int) × Bool × Int)) × (List (Int × Int)) × List (Int) × ((List (Int × Int × Bool)) × Int)} {a1 : Int} {b1 : Nat} {b2 : Nat} {b3 : Nat} {b4 : Nat} {A1 : Option Addr} {c_1 : Nat} {A2 : Option Addr} {c_2 : Nat} {A3 : Option Addr} {c_3 : Nat} {A4 : Option Addr} {c_4 : Nat} {r : List (Int) × Int} (H : Q7.f a0 a1 = some r) :
  Spec Try.prog 53 [.pointer (some ⟨b1, 0, none⟩), .int .u32 a1] [Yb b1 (.pointer (some ⟨b2, 0, none⟩)) a0.2.1 A2 c_2 (.map (some b3)) a0.2.2.2.1 A3 c_3 (.pointer (some ⟨b4, 0, none⟩)), X51 b2 a0.1.1 a0.1.2.1 A1 c_1 a0.1.2.2.1 a0.1.2.2.2, O5 a0.1.2.1 A1 c_1, Ya a0.2.1 A2 c_2, Z8 .u32 (Value.int .i64) b3 a0.2.2.1, O3 a0.2.2.2.1 A3 c_3, Z4 b4 a0.2.2.2.2.1 A4 c_4 a0.2.2.2.2.2, Z5 a0.2.2.2.2.1 A4 c_4] [] (fun v l => ∃ (A_0 : Option Addr) (c_0 : Nat), v = .tuple #[.slice A_0 r.1.length c_0, .int .i64 r.2] ∧ l = [O5 r.1 A_0 c_0, Yb b1 (.pointer (some ⟨b2, 0, none⟩)) a0.2.1 A2 c_2 (.map (some b3)) a0.2.2.2.1 A3 c_3 (.pointer (some ⟨b4, 0, none⟩)), X51 b2 a0.1.1 a0.1.2.1 A1 c_1 a0.1.2.2.1 a0.1.2.2.2, O5 a0.1.2.1 A1 c_1, Ya a0.2.1 A2 c_2, Z8 .u32 (Value.int .i64) b3 a0.2.2.1, O3 a0.2.2.2.1 A3 c_3, Z4 b4 a0.2.2.2.2.1 A4 c_4 a0.2.2.2.2.2, Z5 a0.2.2.2.2.1 A4 c_4]) := by
 refine Zs Try.func53 fun w0 F0 h0 => ?_
 unfold Q7.f at H
 refine J.seq (Zb [0, 1] ?_)
 refine J.seq (J.region ?_)
 refine Zm 2 ?_
 refine Yc Try.func99 ?_
 refine J.seq (Zb [0, 1] ?_)
 refine J.seq (J.seq (J.region ?_))
 refine Zm 1 ?_
 obtain ⟨r1, q1, H⟩ := Zp H
 refine Zh (Zi [0, 0, 0, 0, 0, 0, 0, 0] (Q11.spec q1) h0 rfl Zt) ?_
 rintro _ w1 ⟨_, ⟨rfl, rfl⟩, h1⟩
 replace h1 := nf h1
 refine Zn [0, 1, 9] rfl ?_
 refine jIf H (fun c1 H => ?_) fun c1 H => ?_
 ·refine J.seq (Zb [4, 5] ?_)
  refine J.ret (⟨_, Za, ?_⟩)
  refine Zn [6, 7] rfl ?_
  refine J.seq (J.seq (Zb [6, 7, 15] ?_))
  refine Z2 ?_
  refine J.seq (Zb [4, 5] ?_)
  refine J.ret ?_
  have h2 := h1.addNil 5 (.int .u8)
  cases H
  exact ⟨_, _, _, Za, ⟨_, _, rfl, rfl⟩, Zc h2 [0, 0, 0, 0, 0, 0, 0, 0, 0]⟩
 refine J.skip (J.seq (J.region ?_))
 refine Zm 3 ?_
 refine Zk (Zd 0 h1.wht) ?_
 refine Zm 1 ?_
 refine Zk (Xd (0 : Int) 4 h1.wht) ?_
 refine Zn [0, 6, 7] rfl ?_
 refine J.seq (J.seq (J.region ?_))
 refine Zm 3 ?_
 refine Y3 21 H (fun c2 H => ?_) fun c2 H => ?_
 ·refine Zn [0, 6, 31] rfl ?_
  refine Z2 ?_
  refine J.seq (Zb [4, 5] ?_)
  refine J.ret (⟨_, Za, ?_⟩)
  refine Zn [6, 7] rfl ?_
  refine J.seq (J.seq (Zb [6, 7, 15] ?_))
  refine Z2 ?_
  refine J.seq (Zb [4, 5] ?_)
  refine J.ret ?_
  have h3 := h1.addNil 5 (.int .u8)
  cases H
  exact ⟨_, _, _, Za, ⟨_, _, rfl, rfl⟩, Zc h3 [0, 0, 0, 0, 0, 0, 0, 0, 0]⟩
 refine Zm 3 ?_
 refine Zk (Zd 0 h1.wht) ?_
 refine Zm 1 ?_
 obtain ⟨⟨p1, p2⟩, H⟩ := Zo H
 have e1 := Z3 h1.wh (gO 3) p1 p2
 refine Zk (Zf e1 p1 p2) ?_
 refine Zm 1 ?_
 refine Zk (Ye 3 h1.wht (gO 3) p1 p2) ?_
 refine Zn [0, 6, 31] rfl ?_
 refine jIf H (fun c3 H => ?_) fun c3 H => ?_
 ·refine J.seq (Zb [4, 5] ?_)
  refine J.ret (⟨_, Za, ?_⟩)
  refine Zn [6, 7] rfl ?_
  refine J.seq (J.seq (Zb [6, 7, 15] ?_))
  refine Z2 ?_
  refine J.seq (Zb [4, 5] ?_)
  refine J.ret ?_
  have h4 := h1.addNil 5 (.int .u8)
  cases H
  exact ⟨_, _, _, Za, ⟨_, _, rfl, rfl⟩, Zc h4 [0, 0, 0, 0, 0, 0, 0, 0, 0]⟩
 refine J.skip (J.seq (J.region ?_))
 refine Zm 3 ?_
 refine Zk (Zd 0 h1.wht) ?_
 refine Zm 1 ?_
 refine Zk (Zf e1 p1 p2) ?_
 refine Zn [4, 5] rfl ?_
 refine J.ret (⟨_, Za, ?_⟩)
 refine Zn [6, 7] rfl ?_
 refine J.seq (J.seq (Zb [6, 7, 15] ?_))
 refine Zz ?_
 refine J.skip (J.seq ?_)
 obtain ⟨A5, c_5, h5⟩ := h1.openI 3 rfl p1 p2
 refine J.region (Zm 3 ?_)
 refine Zk (Vw h5.wht (Z0 0)) ?_
 obtain ⟨r2, q2, H⟩ := Zp H
 refine Zh (Zi [] (Q34.spec q2) h5 rfl (Y8 (Wb 0 B2) Zt)) ?_
 rintro _ w2 ⟨_, ⟨A6, c_6, rfl, rfl⟩, h6⟩
 replace h6 := nf h6
 refine Zn [4, 5] rfl ?_
 have h7 := h6.closeI 1 rfl
 refine J.ret ?_
 cases H
 exact ⟨_, _, _, Za, ⟨_, _, rfl, rfl⟩, Zc h7 [1, 1, 1, 1, 0, 0, 0, 0, 0]⟩

def Q53.f (k : Nat) (a0 : (Int × List (Int) × (Int × Int)) × (List (Int × List (Int) × Bool × Int)) × (List (Int × Int)) × List (Int) × ((List (Int × Int × Bool)) × Int)) (a1 : Int × Int × List (Int)) : Option (Int × ((Int × List (Int) × (Int × Int)) × (List (Int × List (Int) × Bool × Int)) × (List (Int × Int)) × List (Int) × ((List (Int × Int × Bool)) × Int))) := if (decide (a1.1 = 0)) = true then ((Q6.f a0 a1.2.1).bind fun r1 => (some r1)) else (if (decide (a1.1 = 1)) = true then ((Q6.f a0 a1.2.1).bind fun r2 => (some r2)) else (if (decide (a1.1 = 2)) = true then ((Q5.f a0 a1.2.1).bind fun r3 => (some r3)) else (if (decide (a1.1 = 3)) = true then ((Q8.f a0 a1.2.1).bind fun r4 => (some r4)) else (if (decide (a1.1 = 4)) = true then ((Q8.f a0 a1.2.1).bind fun r5 => (some r5)) else (if (decide (a1.1 = 5)) = true then ((Q9.f a0 a1.2.1 a1.2.2).bind fun r6 => (some r6)) else (if (decide (a1.1 = 6)) = true then ((Q9.f a0 a1.2.1 a1.2.2).bind fun r7 => (some r7)) else (if (decide (a1.1 = 7)) = true then ((Q3.f a0 a1.2.1).bind fun r8 => (some r8)) else (if (decide (a1.1 = 8)) = true then ((Q4.f k a0).bind fun r9 => (some r9)) else (if (decide (a1.1 = 9)) = true then ((Q7.f a0 a1.2.1).bind fun r10 => (some (r10.2, a0))) else (some (0, a0)))))))))))
theorem Q53.spec {k : Nat} {a0 : (Int × List (Int) × (Int × Int)) × (List (Int × List (Int) × Bool × Int)) × (List (Int × Int)) × List (Int) × ((List (Int × Int × Bool)) × Int)} {a1 : Int × Int × List (Int)} {A5 : Option Addr} {c_5 : Nat} {b1 : Nat} {b2 : Nat} {b3 : Nat} {b4 : Nat} {A1 : Option Addr} {c_1 : Nat} {A2 : Option Addr} {c_2 : Nat} {A3 : Option Addr} {c_3 : Nat} {A4 : Option Addr} {c_4 : Nat} {r : Int × ((Int × List (Int) × (Int × Int)) × (List (Int × List (Int) × Bool × Int)) × (List (Int × Int)) × List (Int) × ((List (Int × Int × Bool)) × Int))} (H : Q53.f k a0 a1 = some r) :
  Spec Try.prog 50 [.pointer (some ⟨b1, 0, none⟩), .agg #[.int .i64 a1.1, .int .u32 a1.2.1, .slice A5 a1.2.2.length c_5]] [Yb b1 (.pointer (some ⟨b2, 0, none⟩)) a0.2.1 A2 c_2 (.map (some b3)) a0.2.2.2.1 A3 c_3 (.pointer (some ⟨b4, 0, none⟩)), X51 b2 a0.1.1 a0.1.2.1 A1 c_1 a0.1.2.2.1 a0.1.2.2.2, O5 a0.1.2.1 A1 c_1, Ya a0.2.1 A2 c_2, Z8 .u32 (Value.int .i64) b3 a0.2.2.1, O3 a0.2.2.2.1 A3 c_3, Z4 b4 a0.2.2.2.2.1 A4 c_4 a0.2.2.2.2.2, Z5 a0.2.2.2.2.1 A4 c_4] [R5 a1.2.2 A5 c_5] (fun v l => ∃ (A_0 : Option Addr) (c_0 : Nat) (A_1 : Option Addr) (c_1 : Nat) (A_2 : Option Addr) (c_2 : Nat) (A_3 : Option Addr) (c_3 : Nat), v = .int .i64 r.1 ∧ l = [Yb b1 (.pointer (some ⟨b2, 0, none⟩)) r.2.2.1 A_1 c_1 (.map (some b3)) r.2.2.2.2.1 A_2 c_2 (.pointer (some ⟨b4, 0, none⟩)), X51 b2 r.2.1.1 r.2.1.2.1 A_0 c_0 r.2.1.2.2.1 r.2.1.2.2.2, O5 r.2.1.2.1 A_0 c_0, Ya r.2.2.1 A_1 c_1, Z8 .u32 (Value.int .i64) b3 r.2.2.2.1, O3 r.2.2.2.2.1 A_2 c_2, Z4 b4 r.2.2.2.2.2.1 A_3 c_3 r.2.2.2.2.2.2, Z5 r.2.2.2.2.2.1 A_3 c_3]) := by
 refine Zs Try.func50 fun w0 F0 h0 => ?_
 unfold Q53.f at H
 refine J.seq (J.region ?_)
 refine Zh (Ws h0) ?_
 rintro _ w1 ⟨b5, rfl, h1⟩
 replace h1 := nf h1
 refine Zn [0, 3] rfl ?_
 refine J.seq (J.region ?_)
 refine Zm 1 ?_
 refine Zk (Zd 0 h1.wht) ?_
 refine Zn [0, 3, 8] rfl ?_
 refine J.block (J.seq (J.seq (Zb [0, 3, 8, 9] ?_)))
 refine jIf H (fun c1 H => ?_) fun c1 H => ?_
 ·refine J.skip (J.cond rfl (fun e => ?_) (fun e => by rw [c1] at e; cases e))
  refine J.seq (J.region ?_)
  refine Zm 2 ?_
  refine Zk (Zd 0 h1.wht) ?_
  obtain ⟨r1, q1, H⟩ := Zp H
  refine Zh (Zi [1, 1, 1, 1, 1, 1, 1, 1] (Q6.spec q1) h1 rfl Zt) ?_
  rintro _ w2 ⟨_, ⟨A6, c_6, A7, c_7, A8, c_8, A9, c_9, rfl, rfl⟩, h2⟩
  replace h2 := nf h2
  refine Zn [4] rfl ?_
  refine J.ret ?_
  cases H
  exact ⟨_, _, _, Za, ⟨_, _, _, _, _, _, _, _, rfl, rfl⟩, Zc h2 [0, 0, 0, 0, 0, 0, 0, 0]⟩
 refine Zb [0, 3, 8, 9] ?_
 refine jIf H (fun c2 H => ?_) fun c2 H => ?_
 ·refine J.seq (J.region ?_)
  refine Zm 2 ?_
  refine Zk (Zd 0 h1.wht) ?_
  obtain ⟨r2, q2, H⟩ := Zp H
  refine Zh (Zi [1, 1, 1, 1, 1, 1, 1, 1] (Q6.spec q2) h1 rfl Zt) ?_
  rintro _ w3 ⟨_, ⟨A10, c_10, A11, c_11, A12, c_12, A13, c_13, rfl, rfl⟩, h3⟩
  replace h3 := nf h3
  refine Zn [4] rfl ?_
  refine J.ret ?_
  cases H
  exact ⟨_, _, _, Za, ⟨_, _, _, _, _, _, _, _, rfl, rfl⟩, Zc h3 [0, 0, 0, 0, 0, 0, 0, 0]⟩
 refine J.seq (Zb [0, 3, 8, 16] ?_)
 refine jIf H (fun c3 H => ?_) fun c3 H => ?_
 ·refine J.seq (J.region ?_)
  refine Zm 2 ?_
  refine Zk (Zd 0 h1.wht) ?_
  obtain ⟨r3, q3, H⟩ := Zp H
  refine Zh (Zi [1, 1, 1, 1, 1, 1, 1, 1] (Q5.spec q3) h1 rfl Zt) ?_
  rintro _ w4 ⟨_, ⟨A14, c_14, A15, c_15, A16, c_16, A17, c_17, rfl, rfl⟩, h4⟩
  replace h4 := nf h4
  refine Zn [4] rfl ?_
  refine J.ret ?_
  cases H
  exact ⟨_, _, _, Za, ⟨_, _, _, _, _, _, _, _, rfl, rfl⟩, Zc h4 [0, 0, 0, 0, 0, 0, 0, 0]⟩
 refine J.seq (J.seq (Zb [0, 3, 8, 22] ?_))
 refine jIf H (fun c4 H => ?_) fun c4 H => ?_
 ·refine J.skip (J.cond rfl (fun e => ?_) (fun e => by rw [c4] at e; cases e))
  refine J.seq (J.region ?_)
  refine Zm 2 ?_
  refine Zk (Zd 0 h1.wht) ?_
  obtain ⟨r4, q4, H⟩ := Zp H
  refine Zh (Zi [1, 1, 1, 1, 1, 1, 1, 1] (Q8.spec q4) h1 rfl Zt) ?_
  rintro _ w5 ⟨_, ⟨A18, c_18, A19, c_19, A20, c_20, A21, c_21, rfl, rfl⟩, h5⟩
  replace h5 := nf h5
  refine Zn [4] rfl ?_
  refine J.ret ?_
  cases H
  exact ⟨_, _, _, Za, ⟨_, _, _, _, _, _, _, _, rfl, rfl⟩, Zc h5 [0, 0, 0, 0, 0, 0, 0, 0]⟩
 refine Zb [0, 3, 8, 22] ?_
 refine jIf H (fun c5 H => ?_) fun c5 H => ?_
 ·refine J.seq (J.region ?_)
  refine Zm 2 ?_
  refine Zk (Zd 0 h1.wht) ?_
  obtain ⟨r5, q5, H⟩ := Zp H
  refine Zh (Zi [1, 1, 1, 1, 1, 1, 1, 1] (Q8.spec q5) h1 rfl Zt) ?_
  rintro _ w6 ⟨_, ⟨A22, c_22, A23, c_23, A24, c_24, A25, c_25, rfl, rfl⟩, h6⟩
  replace h6 := nf h6
  refine Zn [4] rfl ?_
  refine J.ret ?_
  cases H
  exact ⟨_, _, _, Za, ⟨_, _, _, _, _, _, _, _, rfl, rfl⟩, Zc h6 [0, 0, 0, 0, 0, 0, 0, 0]⟩
 refine J.seq (J.seq (Zb [0, 3, 8, 29] ?_))
 refine jIf H (fun c6 H => ?_) fun c6 H => ?_
 ·refine J.skip (J.cond rfl (fun e => ?_) (fun e => by rw [c6] at e; cases e))
  refine J.seq (J.region ?_)
  refine Zm 2 ?_
  refine Zk (Zd 0 h1.wht) ?_
  refine Zm 1 ?_
  refine Zk (Zd 0 h1.wht) ?_
  obtain ⟨r6, q6, H⟩ := Zp H
  refine Zh (Zi [1, 1, 1, 1, 1, 1, 1, 1] (Q9.spec q6) h1 rfl (Y8 (Z0 1) Zt)) ?_
  rintro _ w7 ⟨_, ⟨A26, c_26, A27, c_27, A28, c_28, A29, c_29, rfl, rfl⟩, h7⟩
  replace h7 := nf h7
  refine Zn [4] rfl ?_
  refine J.ret ?_
  cases H
  exact ⟨_, _, _, Za, ⟨_, _, _, _, _, _, _, _, rfl, rfl⟩, Zc h7 [0, 0, 0, 0, 0, 0, 0, 0]⟩
 refine Zb [0, 3, 8, 29] ?_
 refine jIf H (fun c7 H => ?_) fun c7 H => ?_
 ·refine J.seq (J.region ?_)
  refine Zm 2 ?_
  refine Zk (Zd 0 h1.wht) ?_
  refine Zm 1 ?_
  refine Zk (Zd 0 h1.wht) ?_
  obtain ⟨r7, q7, H⟩ := Zp H
  refine Zh (Zi [1, 1, 1, 1, 1, 1, 1, 1] (Q9.spec q7) h1 rfl (Y8 (Z0 1) Zt)) ?_
  rintro _ w8 ⟨_, ⟨A30, c_30, A31, c_31, A32, c_32, A33, c_33, rfl, rfl⟩, h8⟩
  replace h8 := nf h8
  refine Zn [4] rfl ?_
  refine J.ret ?_
  cases H
  exact ⟨_, _, _, Za, ⟨_, _, _, _, _, _, _, _, rfl, rfl⟩, Zc h8 [0, 0, 0, 0, 0, 0, 0, 0]⟩
 refine J.seq (Zb [0, 3, 8, 38] ?_)
 refine jIf H (fun c8 H => ?_) fun c8 H => ?_
 ·refine J.seq (J.region ?_)
  refine Zm 2 ?_
  refine Zk (Zd 0 h1.wht) ?_
  obtain ⟨r8, q8, H⟩ := Zp H
  refine Zh (Zi [1, 1, 1, 1, 1, 1, 1, 1] (Q3.spec q8) h1 rfl Zt) ?_
  rintro _ w9 ⟨_, ⟨A34, c_34, A35, c_35, A36, c_36, A37, c_37, rfl, rfl⟩, h9⟩
  replace h9 := nf h9
  refine Zn [4] rfl ?_
  refine J.ret ?_
  cases H
  exact ⟨_, _, _, Za, ⟨_, _, _, _, _, _, _, _, rfl, rfl⟩, Zc h9 [0, 0, 0, 0, 0, 0, 0, 0]⟩
 refine J.seq (Zb [0, 3, 8, 44] ?_)
 refine jIf H (fun c9 H => ?_) fun c9 H => ?_
 ·refine J.seq (J.region ?_)
  refine Zm 1 ?_
  obtain ⟨r9, q9, H⟩ := Zp H
  refine Zh (Zi [1, 1, 1, 1, 1, 1, 1, 1] (Q4.spec q9) h1 rfl Zt) ?_
  rintro _ w10 ⟨_, ⟨A38, c_38, A39, c_39, A40, c_40, A41, c_41, rfl, rfl⟩, h10⟩
  replace h10 := nf h10
  refine Zn [4] rfl ?_
  refine J.ret ?_
  cases H
  exact ⟨_, _, _, Za, ⟨_, _, _, _, _, _, _, _, rfl, rfl⟩, Zc h10 [0, 0, 0, 0, 0, 0, 0, 0]⟩
 refine J.seq (Zb [0, 3, 48] ?_)
 refine jIf H (fun c10 H => ?_) fun c10 H => ?_
 ·refine J.seq (J.region ?_)
  refine Zm 2 ?_
  refine Zk (Zd 0 h1.wht) ?_
  obtain ⟨r10, q10, H⟩ := Zp H
  refine Zh (Zi [1, 1, 1, 1, 1, 1, 1, 1] (Q7.spec q10) h1 rfl Zt) ?_
  rintro _ w11 ⟨_, ⟨A42, c_42, rfl, rfl⟩, h11⟩
  replace h11 := nf h11
  refine Zn [6] rfl ?_
  have h12 := Zc h11 [1, 1, 1, 1, 1, 1, 1, 1]
  replace h12 := nf h12
  refine J.seq (Zb [4] ?_)
  refine J.ret ?_
  cases H
  exact ⟨_, _, _, Za, ⟨_, _, _, _, _, _, _, _, rfl, rfl⟩, Zc h12 [0, 0, 0, 0, 0, 0, 0, 0]⟩
 refine J.seq (Zb [4] ?_)
 refine J.ret ?_
 cases H
 exact ⟨_, _, _, Za, ⟨_, _, _, _, _, _, _, _, rfl, rfl⟩, Zc h1 [1, 1, 1, 1, 1, 1, 1, 1]⟩

def Q27.f (a0 : Int × List (Int) × (Int × Int)) : Option (List (Int)) := (Q34.f a0.2.1).bind fun r1 => (some r1)
theorem Q27.spec {a0 : Int × List (Int) × (Int × Int)} {b1 : Nat} {A1 : Option Addr} {c_1 : Nat} {r : List (Int)} (H : Q27.f a0 = some r) :
  Spec Try.prog 23 [.pointer (some ⟨b1, 0, none⟩)] [X51 b1 a0.1 a0.2.1 A1 c_1 a0.2.2.1 a0.2.2.2, O5 a0.2.1 A1 c_1] [] (fun v l => ∃ (A_0 : Option Addr) (c_0 : Nat), v = .slice A_0 r.length c_0 ∧ l = [O5 r A_0 c_0, X51 b1 a0.1 a0.2.1 A1 c_1 a0.2.2.1 a0.2.2.2, O5 a0.2.1 A1 c_1]) := by
 refine Zs Try.func23 fun w0 F0 h0 => ?_
 unfold Q27.f at H
 refine J.seq (Zb [0] ?_)
 refine J.seq (J.seq (Zb [0, 4] ?_))
 refine Zz ?_
 refine J.skip (J.seq (J.region ?_))
 refine Zm 3 ?_
 refine Zk (Zd 0 h0.wht) ?_
 obtain ⟨r1, q1, H⟩ := Zp H
 refine Zh (Zi [] (Q34.spec q1) h0 rfl (Y8 (gO 1) Zt)) ?_
 rintro _ w1 ⟨_, ⟨A2, c_2, rfl, rfl⟩, h1⟩
 replace h1 := nf h1
 refine Zn [2] rfl ?_
 refine J.ret ?_
 cases H
 exact ⟨_, _, _, Za, ⟨_, _, rfl, rfl⟩, Zc h1 [0, 0, 0]⟩

def Q32.f (a0 : Int) (a1 : Int) : Option (Option (Int × List (Int) × (Int × Int)) × Int) := (Q33.f a0 a1).bind fun r1 => (if (!r1) = true then (some (none, 2)) else (if 0 ≤ (w64 (a0 * a1)) ∧ (w64 (a0 * a1)) * 1 ≤ 281474976710656 then (some ((some (a1, (List.replicate ((w64 (a0 * a1)).toNat) (0 : Int)), (0, 0))), 0)) else none))
theorem Q32.spec {a0 : Int} {a1 : Int}  {r : Option (Int × List (Int) × (Int × Int)) × Int} (H : Q32.f a0 a1 = some r) :
  Spec Try.prog 15 [.int .i64 a0, .int .i64 a1] [] [] (fun v l => ∃ (pv : Value) (lp : List Ch), OptC r.1 (fun d pv lp => ∃ (b_0 : Nat) (A_1 : Option Addr) (c_1 : Nat), pv = .pointer (some ⟨b_0, 0, none⟩) ∧ lp = [X51 b_0 d.1 d.2.1 A_1 c_1 d.2.2.1 d.2.2.2, O5 d.2.1 A_1 c_1]) pv lp ∧ v = .tuple #[pv, .int .i64 r.2] ∧ l = lp ++ []) := by
 refine Zs Try.func15 fun w0 F0 h0 => ?_
 unfold Q32.f at H
 refine J.seq (Zb [0, 1] ?_)
 refine J.seq (J.seq (J.region ?_))
 refine Zm 2 ?_
 obtain ⟨r1, q1, H⟩ := Zp H
 refine Zh (Zi [] (Q33.spec q1) h0 rfl Zt) ?_
 rintro _ w1 ⟨_, ⟨rfl, rfl⟩, h1⟩
 replace h1 := nf h1
 refine Zn [0, 1, 9] rfl ?_
 refine jIf H (fun c1 H => ?_) fun c1 H => ?_
 ·refine J.seq (Zb [4, 5] ?_)
  refine J.ret ?_
  cases H
  exact ⟨_, _, _, Za, ⟨_, _, OptC.no, rfl, rfl⟩, Zc h1 []⟩
 refine J.skip (J.seq (J.region ?_))
 refine Zm 4 ?_
 obtain ⟨⟨p1, p2⟩, H⟩ := Zo H
 refine Zh (Vk Xh (ty := (.int .u8)) rfl (0 : Int) rfl rfl rfl rfl rfl rfl rfl (by decide) h1 p1 p2) ?_
 rintro _ w2 ⟨b1, rfl, h2⟩
 replace h2 := nf h2
 refine Zm 1 ?_
 refine Zh (Ws h2) ?_
 rintro _ w3 ⟨b2, rfl, h3⟩
 replace h3 := nf h3
 refine Zn [4, 5] rfl ?_
 refine J.ret ?_
 cases H
 exact ⟨_, _, _, Za, ⟨_, _, (OptC.yes ⟨_, _, _, rfl, rfl⟩), rfl, rfl⟩, Zc h3 [0, 0]⟩

def Q29.f (a0 : Int × List (Int) × (Int × Int)) : Option ((Int × Int)) := some a0.2.2
theorem Q29.spec {a0 : Int × List (Int) × (Int × Int)} {b1 : Nat} {A1 : Option Addr} {c_1 : Nat} {r : (Int × Int)} (H : Q29.f a0 = some r) :
  Spec Try.prog 26 [.pointer (some ⟨b1, 0, none⟩)] [X51 b1 a0.1 a0.2.1 A1 c_1 a0.2.2.1 a0.2.2.2, O5 a0.2.1 A1 c_1] [] (fun v l => v = .agg #[.int .u64 r.1, .int .u64 r.2] ∧ l = [X51 b1 a0.1 a0.2.1 A1 c_1 a0.2.2.1 a0.2.2.2, O5 a0.2.1 A1 c_1]) := by
 refine Zs Try.func26 fun w0 F0 h0 => ?_
 unfold Q29.f at H
 refine J.seq (J.region ?_)
 refine Zh (Ug h0) ?_
 rintro _ w1 ⟨b2, rfl, h1⟩
 replace h1 := nf h1
 refine Zn [0, 2] rfl ?_
 refine J.seq (J.seq (Zb [0, 2, 4] ?_))
 refine Zz ?_
 refine J.skip (J.seq (J.region ?_))
 refine Zm 3 ?_
 refine Zk (Zd 1 h1.wht) ?_
 refine Zh (Yj 0 h1) ?_
 intro _ w2 h2
 replace h2 := nf h2
 refine Zn [2] rfl ?_
 refine J.ret ?_
 cases H
 exact ⟨_, _, _, (Zb8 rfl (Zf8 (RV.cell Xh 0 h2 rfl rfl rfl rfl) Zg6) rfl), ⟨rfl, rfl⟩, Zc h2 [1, 1]⟩

def Q52.l0 : Nat → (Int × List (Int) × (Int × Int)) → ((List (Int × Int × Bool)) × Int) → (List (Int)) → (Int) → Option (Bool)
 | 0, _, _, _, _ => none
 | k + 1, r2, r5, x1, x2 => if (decide (x2 < 1)) = true then (if (x1.length + ([x2] : List (Int)).length) * 8 ≤ 140737488355328 then (Q52.l0 k r2 r5 (x1 ++ ([x2] : List (Int))) (w64 (x2 + 1))) else none) else ((Q6.f (r2, (List.replicate ((1 : Int).toNat) ((0, ([] : List (Int)), false, 0) : Int × List (Int) × Bool × Int)), ([] : List (Int × Int)), x1, r5) 1).bind fun r6 => ((Q9.f r6.2 1 ([7] : List (Int))).bind fun r7 => ((Q8.f r7.2 1).bind fun r8 => ((Q6.f r8.2 2).bind fun r9 => (if (decide (r6.1 = 0)) = true then (if (decide (r7.1 = 0)) = true then (if (decide (r8.1 = 0)) = true then (if (decide (r9.1 = 0)) = true then ((Q29.f r9.2.1).bind fun r10 => (if ((decide (r10.1 = 2)) && ((decide (r10.2 = 1)) && true)) = true then ((Q6.f r9.2 3).bind fun r11 => (some (decide (r11.1 = 7)))) else (some false))) else (some false)) else (some false)) else (some false)) else (some false))))))
def Q52.f (k : Nat)  : Option (Bool) := (Q32.f 5 1).bind fun r1 => (V2 r1.1 (if (!decide (r1.2 = 0)) = true then (some false) else none) (fun r2 => (if (!decide (r1.2 = 0)) = false then ((Q25.f r2).bind fun r3 => (if (decide (r3 = 0)) = true then (some false) else ((Q22.f 1).bind fun r4 => (V2 r4.1 (if (!decide (r4.2 = 0)) = true then (some false) else none) (fun r5 => (if (!decide (r4.2 = 0)) = false then (if (1 : Int) * 48 ≤ 281474976710656 then (Q52.l0 k r2 r5 ([] : List (Int)) 0) else none) else none)))))) else none)))
theorem Q52.spec {k : Nat}   {r : Bool} (H : Q52.f k  = some r) :
  Spec Try.prog 52 [] [] [] (fun v l => v = .bool r ∧ l = []) := by
 refine Zs Try.func52 fun w0 F0 h0 => ?_
 unfold Q52.f at H
 refine J.seq (Zb [] ?_)
 refine J.seq (J.region ?_)
 obtain ⟨r1, q1, H⟩ := Zp H
 refine Zh (Zi [] (Q32.spec q1) h0 rfl Zt) ?_
 rintro _ w1 ⟨_, ⟨v1, l1, ho1, rfl, rfl⟩, h1⟩
 rcases ho2 : r1.1 with _ | r2
 ·rw [ho2] at ho1
  obtain ⟨rfl, rfl⟩ := ho1
  replace H := Ga ho2 H
  obtain ⟨c1, H⟩ := Zo H
  replace h1 := nf h1
  refine Zn [1, 2] rfl ?_
  refine J.seq (J.region ?_)
  refine Zm 1 ?_
  refine Yc Try.func49 ?_
  refine J.seq (Zb [0, 1] ?_)
  refine J.seq (J.block (J.seq (J.region ?_)))
  refine Zm 1 ?_
  refine Yc Try.func24 ?_
  refine J.seq (Zb [0] ?_)
  refine J.seq (J.seq (Zb [0, 11] ?_))
  refine Z2 ?_
  refine J.seq (Zb [2] ?_)
  refine J.ret (⟨_, Za, ?_⟩)
  refine Zn [0, 1, 10] rfl ?_
  refine Z2 ?_
  refine J.seq (Zb [4, 5] ?_)
  refine J.ret (⟨_, Za, ?_⟩)
  refine Zn [1, 2, 3, 4] rfl ?_
  refine J.seq (J.seq (J.region ?_))
  refine Zm 3 ?_
  refine Yo 20 (congrArg Value.bool c1) ?_
  refine Zn [1, 3, 27] rfl ?_
  refine Z2 ?_
  refine J.seq (Zb [0] ?_)
  refine J.ret ?_
  cases H
  exact ⟨_, _, _, Za, ⟨rfl, rfl⟩, Zc h1 []⟩
 rw [ho2] at ho1
 obtain ⟨b1, A1, c_1, rfl, rfl⟩ := ho1
 replace H := Gb ho2 H
 obtain ⟨c2, H⟩ := Zo H
 replace h1 := nf h1
 refine Zn [1, 2] rfl ?_
 refine J.seq (J.region ?_)
 refine Zm 1 ?_
 refine Yc Try.func49 ?_
 refine J.seq (Zb [0, 1] ?_)
 refine J.seq (J.block (J.seq (J.region ?_)))
 refine Zm 1 ?_
 obtain ⟨r3, q2, H⟩ := Zp H
 refine Zh (Zi [0, 0] (Q25.spec q2) h1 rfl Zt) ?_
 rintro _ w2 ⟨_, ⟨rfl, rfl⟩, h2⟩
 replace h2 := nf h2
 refine Zn [0, 1, 10] rfl ?_
 refine jIf H (fun c3 H => ?_) fun c3 H => ?_
 ·refine J.seq (Zb [4, 5] ?_)
  refine J.ret (⟨_, Za, ?_⟩)
  refine Zn [1, 2, 3, 4] rfl ?_
  refine J.seq (J.seq (J.region ?_))
  refine Zm 3 ?_
  refine Yo 20 (congrArg Value.bool c2) ?_
  refine Zn [1, 3, 27] rfl ?_
  refine Z2 ?_
  refine J.seq (Zb [0] ?_)
  have h3 := Zc h2 []
  replace h3 := nf h3
  refine J.ret ?_
  cases H
  exact ⟨_, _, _, Za, ⟨rfl, rfl⟩, Zc h3 []⟩
 refine J.seq (Zb [0, 1, 14] ?_)
 refine Zz ?_
 refine J.skip (J.seq (J.region ?_))
 refine Zm 1 ?_
 obtain ⟨r4, q3, H⟩ := Zp H
 refine Zh (Zi [] (Q22.spec q3) h2 rfl Zt) ?_
 rintro _ w3 ⟨_, ⟨v2, l2, ho3, rfl, rfl⟩, h4⟩
 rcases ho4 : r4.1 with _ | r5
 ·rw [ho4] at ho3
  obtain ⟨rfl, rfl⟩ := ho3
  replace H := Ga ho4 H
  obtain ⟨c4, H⟩ := Zo H
  replace h4 := nf h4
  refine Zn [0, 1, 6, 7] rfl ?_
  refine J.seq (J.seq (Zb [0, 1, 6, 7, 27] ?_))
  refine J.cond rfl (fun e => ?_) (fun e => by rw [c4] at e; cases e)
  refine J.seq (Zb [4, 5] ?_)
  refine J.ret (⟨_, Za, ?_⟩)
  refine Zn [1, 2, 3, 4] rfl ?_
  refine J.seq (J.seq (J.region ?_))
  refine Zm 3 ?_
  refine Yo 20 (congrArg Value.bool c2) ?_
  refine Zm 4 ?_
  refine Yo 24 (congrArg Value.bool c4) ?_
  refine Zn [1, 3, 27] rfl ?_
  refine Z2 ?_
  refine J.seq (Zb [0] ?_)
  have h5 := Zc h4 []
  replace h5 := nf h5
  refine J.ret ?_
  cases H
  exact ⟨_, _, _, Za, ⟨rfl, rfl⟩, Zc h5 []⟩
 rw [ho4] at ho3
 obtain ⟨b2, A2, c_2, rfl, rfl⟩ := ho3
 replace H := Gb ho4 H
 obtain ⟨c5, H⟩ := Zo H
 replace h4 := nf h4
 refine Zn [0, 1, 6, 7] rfl ?_
 refine J.seq (J.seq (Zb [0, 1, 6, 7, 27] ?_))
 refine J.cond rfl (fun e => by rw [c5] at e; cases e) (fun e => ?_)
 refine J.skip (J.seq (J.region ?_))
 refine Zm 2 ?_
 obtain ⟨p1, H⟩ := Zo H
 refine Zh (Jo Xh (ty := (.pair (.int .u32) (.pair (.slice 5 (.int .u8)) (.pair .bool (.int .i64))))) ((0, ([] : List (Int)), false, 0) : Int × List (Int) × Bool × Int) rfl rfl rfl rfl rfl rfl (fun _ _ => Zc3 ⟨none, 0, rfl, Nat.le_refl _, .inl rfl⟩) (by decide) h4 (by decide) p1) ?_
 rintro _ w4 ⟨b3, rfl, h6⟩
 replace h6 := nf h6
 refine Zh (Ud .u32 (Value.int .i64) h6) ?_
 rintro _ w5 ⟨b4, rfl, h7⟩
 replace h7 := nf h7
 refine Zm 2 ?_
 refine Zh (Ws h7) ?_
 rintro _ w6 ⟨b5, rfl, h8⟩
 replace h8 := nf h8
 refine Zn [1, 8] rfl ?_
 refine J.seq (J.seq (Zb [8, 36, 37] ?_))
 refine J.block ?_
 have h14 := h8.addNil 3 (.int .i64)
 have h15 := (sOR h14 [1, 5, 1, 2, 3, 1, 0, 0] [])
 refine J.loop (fun kk env w => ∃ (x1 : List (Int)) (A3 : Option Addr) (c_3 : Nat) (x2 : Int), env = [(8, .pointer (some ⟨b5, 0, none⟩)), (36, .int .i64 1), (37, .int .i64 x2)] ∧ St w0 F0 [Yb b5 (.pointer (some ⟨b1, 0, none⟩)) (List.replicate ((1 : Int).toNat) ((0, ([] : List (Int)), false, 0) : Int × List (Int) × Bool × Int)) (some ⟨b3, 0, none⟩) ((1 : Int).toNat) (.map (some b4)) x1 A3 c_3 (.pointer (some ⟨b2, 0, none⟩)), X51 b1 r2.1 r2.2.1 A1 c_1 r2.2.2.1 r2.2.2.2, Z8 .u32 (Value.int .i64) b4 ([] : List (Int × Int)), Z4 b2 r5.1 A2 c_2 r5.2, O5 r2.2.1 A1 c_1, Ya (List.replicate ((1 : Int).toNat) ((0, ([] : List (Int)), false, 0) : Int × List (Int) × Bool × Int)) (some ⟨b3, 0, none⟩) ((1 : Int).toNat), O3 x1 A3 c_3, Z5 r5.1 A2 c_2] [] w ∧ Q52.l0 kk r2 r5 x1 x2 = some r) (k := k) ⟨([] : List (Int)), none, 0, 0, rfl, h15, H⟩ ?_
 rintro k1 env w7 ⟨x1, A3, c_3, x2, rfl, h9, H⟩
 rcases k1 with _ | k1
 ·exact z0 H
 rw [Q52.l0] at H
 refine J.seq (Zb [8, 36, 37, 38] ?_)
 refine J.seq (jIf H (fun c6 H => ?_) fun c6 H => ?_)
 ·refine J.skip (J.seq (J.block (J.seq (Zb [8, 9, 36, 37] ?_))))
  refine J.region (Zm 4 ?_)
  refine Zk (Zd 0 h9.wht) ?_
  refine Zm 1 ?_
  refine Zh (Xi (.int .i64) ([x2] : List (Int)) h9) ?_
  rintro _ w8 ⟨b6, rfl, h10⟩
  replace h10 := nf h10
  obtain ⟨p2, H⟩ := Zo H
  refine Zh (Y6 7 h10 (gO 0) p2) ?_
  rintro _ w9 ⟨A4, c_4, rfl, h11⟩
  replace h11 := nf h11
  refine Zm 2 ?_
  refine Zh (Yj 2 h11) ?_
  intro _ w10 h12
  replace h12 := nf h12
  refine Zn [8, 36, 37] rfl ?_
  refine Zb [8, 36, 37] ?_
  have h13 := (sOR h12 [0, 2, 2, 2, 2, 2, 0, 1] [])
  exact ⟨k1, by omega, (x1 ++ ([x2] : List (Int))), A4, c_4, (w64 (x2 + 1)), rfl, h13, H⟩
 refine J.exit (J.seq (Zb [4, 5] ?_))
 refine J.ret (⟨_, Za, ?_⟩)
 refine Zn [1, 2, 3, 4] rfl ?_
 refine J.seq (J.seq (J.region ?_))
 refine Zm 3 ?_
 refine Yo 20 (congrArg Value.bool c2) ?_
 refine Zn [1, 3, 27] rfl ?_
 refine Zz ?_
 refine J.skip (J.seq (J.region ?_))
 refine Zm 1 ?_
 obtain ⟨r6, q4, H⟩ := Zp H
 refine Zh (Zi [0, 0, 2, 2, 0, 1, 0, 0] (Q6.spec q4) h9 rfl Zt) ?_
 rintro _ w7 ⟨_, ⟨A3, c_3, A4, c_4, A5, c_5, A6, c_6, rfl, rfl⟩, h9⟩
 replace h9 := nf h9
 refine Zm 1 ?_
 refine Zh (Xi (.int .u8) ([7] : List (Int)) h9) ?_
 rintro _ w8 ⟨b6, rfl, h10⟩
 replace h10 := nf h10
 obtain ⟨r7, q5, H⟩ := Zp H
 refine Zh (Zi [1, 1, 1, 1, 1, 1, 1, 1] (Q9.spec q5) h10 rfl (Y8 (gO 0) Zt)) ?_
 rintro _ w9 ⟨_, ⟨A7, c_7, A8, c_8, A9, c_9, A10, c_10, rfl, rfl⟩, h11⟩
 replace h11 := nf h11
 refine Zm 1 ?_
 obtain ⟨r8, q6, H⟩ := Zp H
 refine Zh (Zi [0, 0, 0, 0, 0, 0, 0, 0] (Q8.spec q6) h11 rfl Zt) ?_
 rintro _ w10 ⟨_, ⟨A11, c_11, A12, c_12, A13, c_13, A14, c_14, rfl, rfl⟩, h12⟩
 replace h12 := nf h12
 refine Zm 1 ?_
 obtain ⟨r9, q7, H⟩ := Zp H
 refine Zh (Zi [0, 0, 0, 0, 0, 0, 0, 0] (Q6.spec q7) h12 rfl Zt) ?_
 rintro _ w11 ⟨_, ⟨A15, c_15, A16, c_16, A17, c_17, A18, c_18, rfl, rfl⟩, h13⟩
 replace h13 := nf h13
 refine Zn [1, 3, 5, 6, 7, 8] rfl ?_
 refine J.seq (J.region ?_)
 refine Zm 3 ?_
 refine Y3 39 H (fun c6 H => ?_) fun c6 H => ?_
 ·refine Zm 4 ?_
  refine Y3 43 H (fun c7 H => ?_) fun c7 H => ?_
  ·refine Zm 4 ?_
   refine Y3 47 H (fun c8 H => ?_) fun c8 H => ?_
   ·refine Zm 4 ?_
    refine Y3 51 H (fun c9 H => ?_) fun c9 H => ?_
    ·refine Zm 1 ?_
     obtain ⟨r10, q8, H⟩ := Zp H
     refine Zh (Zi [1, 1] (Q29.spec q8) h13 rfl Zt) ?_
     rintro _ w12 ⟨_, ⟨rfl, rfl⟩, h14⟩
     replace h14 := nf h14
     refine Zm 4 ?_
     refine Y3 57 H (fun c10 H => ?_) fun c10 H => ?_
     ·refine Zm 1 ?_
      obtain ⟨r11, q9, H⟩ := Zp H
      refine Zh (Zi [2, 0, 0, 0, 0, 0, 0, 0] (Q6.spec q9) h14 rfl Zt) ?_
      rintro _ w13 ⟨_, ⟨A19, c_19, A20, c_20, A21, c_21, A22, c_22, rfl, rfl⟩, h15⟩
      replace h15 := nf h15
      refine Zn [0] rfl ?_
      have h16 := Zc h15 []
      replace h16 := nf h16
      refine J.ret ?_
      cases H
      exact ⟨_, _, _, Za, ⟨rfl, rfl⟩, Zc h16 []⟩
     refine Zn [0] rfl ?_
     have h17 := Zc h14 []
     replace h17 := nf h17
     refine J.ret ?_
     cases H
     exact ⟨_, _, _, Za, ⟨rfl, rfl⟩, Zc h17 []⟩
    refine Zn [0] rfl ?_
    have h18 := Zc h13 []
    replace h18 := nf h18
    refine J.ret ?_
    cases H
    exact ⟨_, _, _, Za, ⟨rfl, rfl⟩, Zc h18 []⟩
   refine Zn [0] rfl ?_
   have h19 := Zc h13 []
   replace h19 := nf h19
   refine J.ret ?_
   cases H
   exact ⟨_, _, _, Za, ⟨rfl, rfl⟩, Zc h19 []⟩
  refine Zn [0] rfl ?_
  have h20 := Zc h13 []
  replace h20 := nf h20
  refine J.ret ?_
  cases H
  exact ⟨_, _, _, Za, ⟨rfl, rfl⟩, Zc h20 []⟩
 refine Zn [0] rfl ?_
 have h21 := Zc h13 []
 replace h21 := nf h21
 refine J.ret ?_
 cases H
 exact ⟨_, _, _, Za, ⟨rfl, rfl⟩, Zc h21 []⟩

def Q51.l4 : Nat → (Int × ((Int × List (Int) × (Int × Int)) × (List (Int × List (Int) × Bool × Int)) × (List (Int × Int)) × List (Int) × ((List (Int × Int × Bool)) × Int))) → (List (List UInt8)) → (List UInt8) → (Int) → Option (Bool)
 | 0, _, _, _, _ => none
 | k + 1, r30, x30, x32, x33 => if (decide (x33 < 9)) = true then (if 0 ≤ x33 ∧ x33 < (x30.length : Int) then (if x32.length + (gt x30 x33).length ≤ 9223372036854775807 then (Q51.l4 k r30 x30 (x32 ++ (gt x30 x33)) (w64 (x33 + 1))) else none) else none) else ((Q27.f r30.2.1).bind fun r31 => (if (decide ((toS r31) = x32)) = true then ((Q2.f k r30.2).bind fun r32 => (if (decide ((r32.length : Int) = 0)) = true then ((Q52.f k).bind fun r33 => (some r33)) else (some false))) else (some false)))
def Q51.l5 : Nat → (Int × ((Int × List (Int) × (Int × Int)) × (List (Int × List (Int) × Bool × Int)) × (List (Int × Int)) × List (Int) × ((List (Int × Int × Bool)) × Int))) → (List (List UInt8)) → (List UInt8) → (Int) → Option (Bool)
 | 0, _, _, _, _ => none
 | k + 1, r34, x30, x34, x35 => if (decide (x35 < 9)) = true then (if 0 ≤ x35 ∧ x35 < (x30.length : Int) then (if x34.length + (gt x30 x35).length ≤ 9223372036854775807 then (Q51.l5 k r34 x30 (x34 ++ (gt x30 x35)) (w64 (x35 + 1))) else none) else none) else ((Q27.f r34.2.1).bind fun r35 => (if (decide ((toS r35) = x34)) = true then ((Q2.f k r34.2).bind fun r36 => (if (decide ((r36.length : Int) = 0)) = true then ((Q52.f k).bind fun r37 => (some r37)) else (some false))) else (some false)))
def Q51.l3 : Nat → (List (Int × Int × List (Int))) → (Int) → (List (Int)) → (Int) → (Int) → (List (Int × List (Int) × Bool × Int)) → (List (Int × Int)) → (List (Int)) → (List (Int × Int × Bool)) → (Int) → (List (List UInt8)) → (Int) → Option (Bool)
 | 0, _, _, _, _, _, _, _, _, _, _, _, _ => none
 | k + 1, a1, x21, x22, x23, x24, x25, x26, x27, x28, x29, x30, x31 => if (decide (x31 < (a1.length : Int))) = true then (if (decide (x31 < 80)) = true then (if 0 ≤ x31 ∧ x31 < (a1.length : Int) then (if (decide (((gt a1 x31).1) = 7)) = true then (Q51.l3 k a1 x21 x22 x23 x24 x25 x26 x27 x28 x29 x30 (w64 (x31 + 1))) else ((Q53.f k ((x21, x22, (x23, x24)), x25, x26, x27, (x28, x29)) (gt a1 x31)).bind fun r22 => (if (decide (r22.1 = 0)) = true then (if (decide (((gt a1 x31).1) = 2)) = true then (if 0 ≤ ((gt a1 x31).2.1) ∧ ((gt a1 x31).2.1) < (x30.length : Int) then (if (decide (((gt a1 x31).1) = 5)) = true then (if 0 ≤ ((gt a1 x31).2.1) ∧ ((gt a1 x31).2.1) < ((x30.set ((gt a1 x31).2.1).toNat ([0, 0] : List UInt8)).length : Int) then ((Q7.f r22.2 ((gt a1 x31).2.1)).bind fun r23 => (if (decide (r23.2 = 0)) = true then (if 0 ≤ ((gt a1 x31).2.1) ∧ ((gt a1 x31).2.1) < (((x30.set ((gt a1 x31).2.1).toNat ([0, 0] : List UInt8)).set ((gt a1 x31).2.1).toNat (toS ((gt a1 x31).2.2))).length : Int) then (if (!decide ((toS r23.1) = (gt ((x30.set ((gt a1 x31).2.1).toNat ([0, 0] : List UInt8)).set ((gt a1 x31).2.1).toNat (toS ((gt a1 x31).2.2))) ((gt a1 x31).2.1)))) = true then (some false) else (Q51.l3 k a1 r22.2.1.1 r22.2.1.2.1 r22.2.1.2.2.1 r22.2.1.2.2.2 r22.2.2.1 r22.2.2.2.1 r22.2.2.2.2.1 r22.2.2.2.2.2.1 r22.2.2.2.2.2.2 ((x30.set ((gt a1 x31).2.1).toNat ([0, 0] : List UInt8)).set ((gt a1 x31).2.1).toNat (toS ((gt a1 x31).2.2))) (w64 (x31 + 1)))) else none) else (Q51.l3 k a1 r22.2.1.1 r22.2.1.2.1 r22.2.1.2.2.1 r22.2.1.2.2.2 r22.2.2.1 r22.2.2.2.1 r22.2.2.2.2.1 r22.2.2.2.2.2.1 r22.2.2.2.2.2.2 ((x30.set ((gt a1 x31).2.1).toNat ([0, 0] : List UInt8)).set ((gt a1 x31).2.1).toNat (toS ((gt a1 x31).2.2))) (w64 (x31 + 1))))) else none) else (if (decide (((gt a1 x31).1) = 6)) = true then (if 0 ≤ ((gt a1 x31).2.1) ∧ ((gt a1 x31).2.1) < ((x30.set ((gt a1 x31).2.1).toNat ([0, 0] : List UInt8)).length : Int) then ((Q7.f r22.2 ((gt a1 x31).2.1)).bind fun r24 => (if (decide (r24.2 = 0)) = true then (if 0 ≤ ((gt a1 x31).2.1) ∧ ((gt a1 x31).2.1) < (((x30.set ((gt a1 x31).2.1).toNat ([0, 0] : List UInt8)).set ((gt a1 x31).2.1).toNat (toS ((gt a1 x31).2.2))).length : Int) then (if (!decide ((toS r24.1) = (gt ((x30.set ((gt a1 x31).2.1).toNat ([0, 0] : List UInt8)).set ((gt a1 x31).2.1).toNat (toS ((gt a1 x31).2.2))) ((gt a1 x31).2.1)))) = true then (some false) else (Q51.l3 k a1 r22.2.1.1 r22.2.1.2.1 r22.2.1.2.2.1 r22.2.1.2.2.2 r22.2.2.1 r22.2.2.2.1 r22.2.2.2.2.1 r22.2.2.2.2.2.1 r22.2.2.2.2.2.2 ((x30.set ((gt a1 x31).2.1).toNat ([0, 0] : List UInt8)).set ((gt a1 x31).2.1).toNat (toS ((gt a1 x31).2.2))) (w64 (x31 + 1)))) else none) else (Q51.l3 k a1 r22.2.1.1 r22.2.1.2.1 r22.2.1.2.2.1 r22.2.1.2.2.2 r22.2.2.1 r22.2.2.2.1 r22.2.2.2.2.1 r22.2.2.2.2.2.1 r22.2.2.2.2.2.2 ((x30.set ((gt a1 x31).2.1).toNat ([0, 0] : List UInt8)).set ((gt a1 x31).2.1).toNat (toS ((gt a1 x31).2.2))) (w64 (x31 + 1))))) else none) else ((Q7.f r22.2 ((gt a1 x31).2.1)).bind fun r25 => (if (decide (r25.2 = 0)) = true then (if 0 ≤ ((gt a1 x31).2.1) ∧ ((gt a1 x31).2.1) < ((x30.set ((gt a1 x31).2.1).toNat ([0, 0] : List UInt8)).length : Int) then (if (!decide ((toS r25.1) = (gt (x30.set ((gt a1 x31).2.1).toNat ([0, 0] : List UInt8)) ((gt a1 x31).2.1)))) = true then (some false) else (Q51.l3 k a1 r22.2.1.1 r22.2.1.2.1 r22.2.1.2.2.1 r22.2.1.2.2.2 r22.2.2.1 r22.2.2.2.1 r22.2.2.2.2.1 r22.2.2.2.2.2.1 r22.2.2.2.2.2.2 (x30.set ((gt a1 x31).2.1).toNat ([0, 0] : List UInt8)) (w64 (x31 + 1)))) else none) else (Q51.l3 k a1 r22.2.1.1 r22.2.1.2.1 r22.2.1.2.2.1 r22.2.1.2.2.2 r22.2.2.1 r22.2.2.2.1 r22.2.2.2.2.1 r22.2.2.2.2.2.1 r22.2.2.2.2.2.2 (x30.set ((gt a1 x31).2.1).toNat ([0, 0] : List UInt8)) (w64 (x31 + 1))))))) else none) else (if (decide (((gt a1 x31).1) = 5)) = true then (if 0 ≤ ((gt a1 x31).2.1) ∧ ((gt a1 x31).2.1) < (x30.length : Int) then ((Q7.f r22.2 ((gt a1 x31).2.1)).bind fun r26 => (if (decide (r26.2 = 0)) = true then (if 0 ≤ ((gt a1 x31).2.1) ∧ ((gt a1 x31).2.1) < ((x30.set ((gt a1 x31).2.1).toNat (toS ((gt a1 x31).2.2))).length : Int) then (if (!decide ((toS r26.1) = (gt (x30.set ((gt a1 x31).2.1).toNat (toS ((gt a1 x31).2.2))) ((gt a1 x31).2.1)))) = true then (some false) else (Q51.l3 k a1 r22.2.1.1 r22.2.1.2.1 r22.2.1.2.2.1 r22.2.1.2.2.2 r22.2.2.1 r22.2.2.2.1 r22.2.2.2.2.1 r22.2.2.2.2.2.1 r22.2.2.2.2.2.2 (x30.set ((gt a1 x31).2.1).toNat (toS ((gt a1 x31).2.2))) (w64 (x31 + 1)))) else none) else (Q51.l3 k a1 r22.2.1.1 r22.2.1.2.1 r22.2.1.2.2.1 r22.2.1.2.2.2 r22.2.2.1 r22.2.2.2.1 r22.2.2.2.2.1 r22.2.2.2.2.2.1 r22.2.2.2.2.2.2 (x30.set ((gt a1 x31).2.1).toNat (toS ((gt a1 x31).2.2))) (w64 (x31 + 1))))) else none) else (if (decide (((gt a1 x31).1) = 6)) = true then (if 0 ≤ ((gt a1 x31).2.1) ∧ ((gt a1 x31).2.1) < (x30.length : Int) then ((Q7.f r22.2 ((gt a1 x31).2.1)).bind fun r27 => (if (decide (r27.2 = 0)) = true then (if 0 ≤ ((gt a1 x31).2.1) ∧ ((gt a1 x31).2.1) < ((x30.set ((gt a1 x31).2.1).toNat (toS ((gt a1 x31).2.2))).length : Int) then (if (!decide ((toS r27.1) = (gt (x30.set ((gt a1 x31).2.1).toNat (toS ((gt a1 x31).2.2))) ((gt a1 x31).2.1)))) = true then (some false) else (Q51.l3 k a1 r22.2.1.1 r22.2.1.2.1 r22.2.1.2.2.1 r22.2.1.2.2.2 r22.2.2.1 r22.2.2.2.1 r22.2.2.2.2.1 r22.2.2.2.2.2.1 r22.2.2.2.2.2.2 (x30.set ((gt a1 x31).2.1).toNat (toS ((gt a1 x31).2.2))) (w64 (x31 + 1)))) else none) else (Q51.l3 k a1 r22.2.1.1 r22.2.1.2.1 r22.2.1.2.2.1 r22.2.1.2.2.2 r22.2.2.1 r22.2.2.2.1 r22.2.2.2.2.1 r22.2.2.2.2.2.1 r22.2.2.2.2.2.2 (x30.set ((gt a1 x31).2.1).toNat (toS ((gt a1 x31).2.2))) (w64 (x31 + 1))))) else none) else ((Q7.f r22.2 ((gt a1 x31).2.1)).bind fun r28 => (if (decide (r28.2 = 0)) = true then (if 0 ≤ ((gt a1 x31).2.1) ∧ ((gt a1 x31).2.1) < (x30.length : Int) then (if (!decide ((toS r28.1) = (gt x30 ((gt a1 x31).2.1)))) = true then (some false) else (Q51.l3 k a1 r22.2.1.1 r22.2.1.2.1 r22.2.1.2.2.1 r22.2.1.2.2.2 r22.2.2.1 r22.2.2.2.1 r22.2.2.2.2.1 r22.2.2.2.2.2.1 r22.2.2.2.2.2.2 x30 (w64 (x31 + 1)))) else none) else (Q51.l3 k a1 r22.2.1.1 r22.2.1.2.1 r22.2.1.2.2.1 r22.2.1.2.2.2 r22.2.2.1 r22.2.2.2.1 r22.2.2.2.2.1 r22.2.2.2.2.2.1 r22.2.2.2.2.2.2 x30 (w64 (x31 + 1)))))))) else ((Q7.f r22.2 ((gt a1 x31).2.1)).bind fun r29 => (if (decide (r29.2 = 0)) = true then (if 0 ≤ ((gt a1 x31).2.1) ∧ ((gt a1 x31).2.1) < (x30.length : Int) then (if (!decide ((toS r29.1) = (gt x30 ((gt a1 x31).2.1)))) = true then (some false) else (Q51.l3 k a1 r22.2.1.1 r22.2.1.2.1 r22.2.1.2.2.1 r22.2.1.2.2.2 r22.2.2.1 r22.2.2.2.1 r22.2.2.2.2.1 r22.2.2.2.2.2.1 r22.2.2.2.2.2.2 x30 (w64 (x31 + 1)))) else none) else (Q51.l3 k a1 r22.2.1.1 r22.2.1.2.1 r22.2.1.2.2.1 r22.2.1.2.2.2 r22.2.2.1 r22.2.2.2.1 r22.2.2.2.2.1 r22.2.2.2.2.2.1 r22.2.2.2.2.2.2 x30 (w64 (x31 + 1)))))))) else none) else ((Q4.f k ((x21, x22, (x23, x24)), x25, x26, x27, (x28, x29))).bind fun r30 => (if (!decide (r30.1 = 0)) = true then (some false) else (Q51.l4 k r30 x30 ([] : List UInt8) 0)))) else ((Q4.f k ((x21, x22, (x23, x24)), x25, x26, x27, (x28, x29))).bind fun r34 => (if (!decide (r34.1 = 0)) = true then (some false) else (Q51.l5 k r34 x30 ([] : List UInt8) 0)))
def Q51.l2 : Nat → (Int) → (List (Int × Int × List (Int))) → (Int × List (Int) × (Int × Int)) → ((List (Int × Int × Bool)) × Int) → (List (Int)) → (List (Int)) → (List (List UInt8)) → (Int) → Option (Bool)
 | 0, _, _, _, _, _, _, _, _ => none
 | k + 1, a0, a1, r2, r5, x1, x2, x19, x20 => if (decide (x20 < 9)) = true then (if 0 ≤ (w64 (2 * x20)) ∧ (w64 (2 * x20)) ≤ (w64 ((w64 (2 * x20)) + 2)) ∧ (w64 ((w64 (2 * x20)) + 2)) ≤ (x1.length : Int) then (if 0 ≤ x20 ∧ x20 < (x19.length : Int) then (Q51.l2 k a0 a1 r2 r5 x1 x2 (x19.set x20.toNat (toS ((x1.drop ((w64 (2 * x20))).toNat).take (((w64 ((w64 (2 * x20)) + 2))).toNat - ((w64 (2 * x20))).toNat)))) (w64 (x20 + 1))) else none) else none) else (Q51.l3 k a1 r2.1 r2.2.1 r2.2.2.1 r2.2.2.2 (List.replicate ((w64 (1 + (Int.tmod (w64 (a0)) 6))).toNat) ((0, ([] : List (Int)), false, 0) : Int × List (Int) × Bool × Int)) ([] : List (Int × Int)) x2 r5.1 r5.2 x19 0)
def Q51.l1 : Nat → (Int) → (List (Int × Int × List (Int))) → (Int × List (Int) × (Int × Int)) → ((List (Int × Int × Bool)) × Int) → (List (Int)) → (List (Int)) → (Int) → Option (Bool)
 | 0, _, _, _, _, _, _, _ => none
 | k + 1, a0, a1, r2, r5, x1, x2, x3 => if (decide (x3 < (w64 (1 + (Int.tmod (w64 (a0)) 6))))) = true then (if (x2.length + ([x3] : List (Int)).length) * 8 ≤ 140737488355328 then (Q51.l1 k a0 a1 r2 r5 x1 (x2 ++ ([x3] : List (Int))) (w64 (x3 + 1))) else none) else (Q51.l2 k a0 a1 r2 r5 x1 x2 (List.replicate 9 ([] : List UInt8)) 0)
def Q51.l0 : Nat → (Int) → (List (Int × Int × List (Int))) → (List (Int)) → Option (Bool)
 | 0, _, _, _ => none
 | k + 1, a0, a1, x1 => if (decide ((x1.length : Int) < 18)) = true then (if (x1.length + ([0] : List (Int)).length) * 1 ≤ 140737488355328 then (Q51.l0 k a0 a1 (x1 ++ ([0] : List (Int)))) else none) else ((Q31.f 2 x1).bind fun r1 => (V2 r1.1 (if (!decide (r1.2 = 0)) = true then (some false) else none) (fun r2 => (if (!decide (r1.2 = 0)) = false then ((Q25.f r2).bind fun r3 => (if (decide (r3 = 0)) = true then (some false) else (if (decide ((w64 (1 + (Int.tmod (w64 (a0)) 6))) < 1)) = true then (some false) else (if (decide (64 < (w64 (1 + (Int.tmod (w64 (a0)) 6))))) = true then (some false) else ((Q22.f (w64 (1 + (Int.tmod (w64 (a0)) 6)))).bind fun r4 => (V2 r4.1 (if (!decide (r4.2 = 0)) = true then (some false) else none) (fun r5 => (if (!decide (r4.2 = 0)) = false then (if 0 ≤ (w64 (1 + (Int.tmod (w64 (a0)) 6))) ∧ (w64 (1 + (Int.tmod (w64 (a0)) 6))) * 48 ≤ 281474976710656 then (Q51.l1 k a0 a1 r2 r5 x1 ([] : List (Int)) 0) else none) else none)))))))) else none))))
def Q51.f (k : Nat) (a0 : Int) (a1 : List (Int × Int × List (Int))) (a2 : List (Int)) : Option (Bool) := if (0 : Int) ≤ (if 18 < (a2.length : Int) then 18 else (a2.length : Int)) ∧ (if 18 < (a2.length : Int) then 18 else (a2.length : Int)) ≤ (a2.length : Int) then (if (([] : List (Int)).length + (a2.take ((if 18 < (a2.length : Int) then 18 else (a2.length : Int))).toNat).length) * 1 ≤ 140737488355328 then (Q51.l0 k a0 a1 (([] : List (Int)) ++ (a2.take ((if 18 < (a2.length : Int) then 18 else (a2.length : Int))).toNat))) else none) else none
theorem Q51.spec {k : Nat} {a0 : Int} {a1 : List (Int × Int × List (Int))} {a2 : List (Int)} {A1 : Option Addr} {c_1 : Nat} {A2 : Option Addr} {c_2 : Nat} {r : Bool} (H : Q51.f k a0 a1 a2 = some r) :
  Spec Try.prog 12 [.int .u8 a0, .slice A1 a1.length c_1, .slice A2 a2.length c_2] [] [Zb4 a1 A1 c_1, R5 a2 A2 c_2] (fun v l => v = .bool r ∧ l = []) := by
 refine Zs Try.func12 fun w0 F0 h0 => ?_
 unfold Q51.f at H
 refine J.seq (Zb [0, 1, 2] ?_)
 refine J.seq (J.region ?_)
 refine Zh (Xi (.int .u8) ([] : List (Int)) h0) ?_
 rintro _ w1 ⟨b1, rfl, h1⟩
 replace h1 := nf h1
 refine Zm 4 ?_
 obtain ⟨⟨p1, p2⟩, H⟩ := Zo H
 have e1 := h1.cap (Z0 2)
 refine Zk (Vj (a2.take ((if 18 < (a2.length : Int) then 18 else (a2.length : Int))).toNat) (if 18 < (a2.length : Int) then 18 else (a2.length : Int)) e1 p1 p2) ?_
 obtain ⟨p3, H⟩ := Zo H
 refine Zh (Y6 0 h1 ((Gives.self 1 rfl).trans (Zcd (.int .u8) (a2.take ((if 18 < (a2.length : Int) then 18 else (a2.length : Int))).toNat) (if 18 < (a2.length : Int) then 18 else (a2.length : Int)) p1 p2)) p3) ?_
 rintro _ w2 ⟨A3, c_3, rfl, h2⟩
 replace h2 := nf h2
 refine Zn [0, 1, 7] rfl ?_
 refine J.seq (J.block ?_)
 have h198 := (sOR h2 [0] [0])
 refine J.loop (fun kk env w => ∃ (x1 : List (Int)) (A4 : Option Addr) (c_4 : Nat), env = [(0, .int .u8 a0), (1, .slice A1 a1.length c_1), (7, .slice A4 x1.length c_4)] ∧ St w0 F0 [O5 x1 A4 c_4] [Zb4 a1 A1 c_1] w ∧ Q51.l0 kk a0 a1 x1 = some r) (k := k) ⟨(([] : List (Int)) ++ (a2.take ((if 18 < (a2.length : Int) then 18 else (a2.length : Int))).toNat)), A3, c_3, rfl, h198, H⟩ ?_
 rintro k1 env w3 ⟨x1, A4, c_4, rfl, h3, H⟩
 rcases k1 with _ | k1
 ·exact z0 H
 rw [Q51.l0] at H
 refine J.seq (J.seq (Zb [0, 1, 7, 30] ?_))
 refine jIf H (fun c1 H => ?_) fun c1 H => ?_
 ·refine J.skip (J.block (J.region ?_))
  refine Zm 1 ?_
  refine Zh (Xi (.int .u8) ([0] : List (Int)) h3) ?_
  rintro _ w4 ⟨b2, rfl, h4⟩
  replace h4 := nf h4
  obtain ⟨p4, H⟩ := Zo H
  refine Zh (Y6 1 h4 (gO 0) p4) ?_
  rintro _ w5 ⟨A5, c_5, rfl, h5⟩
  replace h5 := nf h5
  refine Zn [0, 1, 7] rfl ?_
  have h6 := (sOR h5 [0] [0])
  exact ⟨k1, by omega, (x1 ++ ([0] : List (Int))), A5, c_5, rfl, h6, H⟩
 refine J.exit (J.seq (J.region ?_))
 refine Zm 1 ?_
 obtain ⟨r1, q1, H⟩ := Zp H
 refine Zh (Zi [] (Q31.spec q1) h3 rfl (Y8 (gO 0) Zt)) ?_
 rintro _ w6 ⟨_, ⟨v1, l1, ho1, rfl, rfl⟩, h7⟩
 rcases ho2 : r1.1 with _ | r2
 ·rw [ho2] at ho1
  obtain ⟨rfl, rfl⟩ := ho1
  replace H := Ga ho2 H
  obtain ⟨c2, H⟩ := Zo H
  replace h7 := nf h7
  refine Zn [0, 1, 7, 8, 9] rfl ?_
  refine J.seq (J.region ?_)
  refine Zm 5 ?_
  refine Yc Try.func49 ?_
  refine J.seq (Zb [0, 1] ?_)
  refine J.seq (J.block (J.seq (J.region ?_)))
  refine Zm 1 ?_
  refine Yc Try.func24 ?_
  refine J.seq (Zb [0] ?_)
  refine J.seq (J.seq (Zb [0, 11] ?_))
  refine Z2 ?_
  refine J.seq (Zb [2] ?_)
  refine J.ret (⟨_, Za, ?_⟩)
  refine Zn [0, 1, 10] rfl ?_
  refine Z2 ?_
  refine J.seq (Zb [4, 5] ?_)
  refine J.ret (⟨_, Za, ?_⟩)
  refine Zn [1, 7, 8, 9, 10, 11] rfl ?_
  refine J.seq (J.seq (J.region ?_))
  refine Zm 3 ?_
  refine Yo 50 (congrArg Value.bool c2) ?_
  refine Zn [1, 7, 8, 10, 57] rfl ?_
  refine Z2 ?_
  refine J.seq (Zb [6] ?_)
  refine J.ret ?_
  cases H
  exact ⟨_, _, _, Za, ⟨rfl, rfl⟩, Zc h7 []⟩
 rw [ho2] at ho1
 obtain ⟨b3, A6, c_6, rfl, rfl⟩ := ho1
 replace H := Gb ho2 H
 obtain ⟨c3, H⟩ := Zo H
 replace h7 := nf h7
 refine Zn [0, 1, 7, 8, 9] rfl ?_
 refine J.seq (J.region ?_)
 refine Zm 5 ?_
 refine Yc Try.func49 ?_
 refine J.seq (Zb [0, 1] ?_)
 refine J.seq (J.block (J.seq (J.region ?_)))
 refine Zm 1 ?_
 obtain ⟨r3, q2, H⟩ := Zp H
 refine Zh (Zi [0, 0] (Q25.spec q2) h7 rfl Zt) ?_
 rintro _ w7 ⟨_, ⟨rfl, rfl⟩, h8⟩
 replace h8 := nf h8
 refine Zn [0, 1, 10] rfl ?_
 refine jIf H (fun c4 H => ?_) fun c4 H => ?_
 ·refine J.seq (Zb [4, 5] ?_)
  refine J.ret (⟨_, Za, ?_⟩)
  refine Zn [1, 7, 8, 9, 10, 11] rfl ?_
  refine J.seq (J.seq (J.region ?_))
  refine Zm 3 ?_
  refine Yo 50 (congrArg Value.bool c3) ?_
  refine Zn [1, 7, 8, 10, 57] rfl ?_
  refine Z2 ?_
  refine J.seq (Zb [6] ?_)
  have h9 := Zc h8 []
  replace h9 := nf h9
  refine J.ret ?_
  cases H
  exact ⟨_, _, _, Za, ⟨rfl, rfl⟩, Zc h9 []⟩
 refine J.seq (J.region ?_)
 refine Zm 3 ?_
 refine Y3 17 H (fun c5 H => ?_) fun c5 H => ?_
 ·refine Zn [0, 1, 14] rfl ?_
  refine Z2 ?_
  refine J.seq (Zb [4, 5] ?_)
  refine J.ret (⟨_, Za, ?_⟩)
  refine Zn [1, 7, 8, 9, 10, 11] rfl ?_
  refine J.seq (J.seq (J.region ?_))
  refine Zm 3 ?_
  refine Yo 50 (congrArg Value.bool c3) ?_
  refine Zn [1, 7, 8, 10, 57] rfl ?_
  refine Z2 ?_
  refine J.seq (Zb [6] ?_)
  have h10 := Zc h8 []
  replace h10 := nf h10
  refine J.ret ?_
  cases H
  exact ⟨_, _, _, Za, ⟨rfl, rfl⟩, Zc h10 []⟩
 refine Zn [0, 1, 14] rfl ?_
 refine jIf H (fun c6 H => ?_) fun c6 H => ?_
 ·refine J.seq (Zb [4, 5] ?_)
  refine J.ret (⟨_, Za, ?_⟩)
  refine Zn [1, 7, 8, 9, 10, 11] rfl ?_
  refine J.seq (J.seq (J.region ?_))
  refine Zm 3 ?_
  refine Yo 50 (congrArg Value.bool c3) ?_
  refine Zn [1, 7, 8, 10, 57] rfl ?_
  refine Z2 ?_
  refine J.seq (Zb [6] ?_)
  have h11 := Zc h8 []
  replace h11 := nf h11
  refine J.ret ?_
  cases H
  exact ⟨_, _, _, Za, ⟨rfl, rfl⟩, Zc h11 []⟩
 refine J.skip (J.seq (J.region ?_))
 refine Zm 1 ?_
 obtain ⟨r4, q3, H⟩ := Zp H
 refine Zh (Zi [] (Q22.spec q3) h8 rfl Zt) ?_
 rintro _ w8 ⟨_, ⟨v2, l2, ho3, rfl, rfl⟩, h12⟩
 rcases ho4 : r4.1 with _ | r5
 ·rw [ho4] at ho3
  obtain ⟨rfl, rfl⟩ := ho3
  replace H := Ga ho4 H
  obtain ⟨c7, H⟩ := Zo H
  replace h12 := nf h12
  refine Zn [0, 1, 6, 7] rfl ?_
  refine J.seq (J.seq (Zb [0, 1, 6, 7, 27] ?_))
  refine J.cond rfl (fun e => ?_) (fun e => by rw [c7] at e; cases e)
  refine J.seq (Zb [4, 5] ?_)
  refine J.ret (⟨_, Za, ?_⟩)
  refine Zn [1, 7, 8, 9, 10, 11] rfl ?_
  refine J.seq (J.seq (J.region ?_))
  refine Zm 3 ?_
  refine Yo 50 (congrArg Value.bool c3) ?_
  refine Zm 4 ?_
  refine Yo 54 (congrArg Value.bool c7) ?_
  refine Zn [1, 7, 8, 10, 57] rfl ?_
  refine Z2 ?_
  refine J.seq (Zb [6] ?_)
  have h13 := Zc h12 []
  replace h13 := nf h13
  refine J.ret ?_
  cases H
  exact ⟨_, _, _, Za, ⟨rfl, rfl⟩, Zc h13 []⟩
 rw [ho4] at ho3
 obtain ⟨b4, A7, c_7, rfl, rfl⟩ := ho3
 replace H := Gb ho4 H
 obtain ⟨c8, H⟩ := Zo H
 replace h12 := nf h12
 refine Zn [0, 1, 6, 7] rfl ?_
 refine J.seq (J.seq (Zb [0, 1, 6, 7, 27] ?_))
 refine J.cond rfl (fun e => by rw [c8] at e; cases e) (fun e => ?_)
 refine J.skip (J.seq (J.region ?_))
 refine Zm 2 ?_
 obtain ⟨⟨p5, p6⟩, H⟩ := Zo H
 refine Zh (Jo Xh (ty := (.pair (.int .u32) (.pair (.slice 5 (.int .u8)) (.pair .bool (.int .i64))))) ((0, ([] : List (Int)), false, 0) : Int × List (Int) × Bool × Int) rfl rfl rfl rfl rfl rfl (fun _ _ => Zc3 ⟨none, 0, rfl, Nat.le_refl _, .inl rfl⟩) (by decide) h12 p5 p6) ?_
 rintro _ w9 ⟨b5, rfl, h14⟩
 replace h14 := nf h14
 refine Zh (Ud .u32 (Value.int .i64) h14) ?_
 rintro _ w10 ⟨b6, rfl, h15⟩
 replace h15 := nf h15
 refine Zm 2 ?_
 refine Zh (Ws h15) ?_
 rintro _ w11 ⟨b7, rfl, h16⟩
 replace h16 := nf h16
 refine Zn [1, 8] rfl ?_
 refine J.seq (J.seq (Zb [8, 36, 37] ?_))
 refine J.block ?_
 have h22 := h16.addNil 3 (.int .i64)
 have h23 := (sOR h22 [1, 5, 1, 2, 3, 1, 0, 0, 0] [0])
 refine J.loop (fun kk env w => ∃ (x2 : List (Int)) (A8 : Option Addr) (c_8 : Nat) (x3 : Int), env = [(8, .pointer (some ⟨b7, 0, none⟩)), (36, .int .i64 (w64 (1 + (Int.tmod (w64 (a0)) 6)))), (37, .int .i64 x3)] ∧ St w0 F0 [Yb b7 (.pointer (some ⟨b3, 0, none⟩)) (List.replicate ((w64 (1 + (Int.tmod (w64 (a0)) 6))).toNat) ((0, ([] : List (Int)), false, 0) : Int × List (Int) × Bool × Int)) (some ⟨b5, 0, none⟩) ((w64 (1 + (Int.tmod (w64 (a0)) 6))).toNat) (.map (some b6)) x2 A8 c_8 (.pointer (some ⟨b4, 0, none⟩)), X51 b3 r2.1 r2.2.1 A6 c_6 r2.2.2.1 r2.2.2.2, Z8 .u32 (Value.int .i64) b6 ([] : List (Int × Int)), Z4 b4 r5.1 A7 c_7 r5.2, O5 r2.2.1 A6 c_6, Ya (List.replicate ((w64 (1 + (Int.tmod (w64 (a0)) 6))).toNat) ((0, ([] : List (Int)), false, 0) : Int × List (Int) × Bool × Int)) (some ⟨b5, 0, none⟩) ((w64 (1 + (Int.tmod (w64 (a0)) 6))).toNat), O3 x2 A8 c_8, Z5 r5.1 A7 c_7, O5 x1 A4 c_4] [Zb4 a1 A1 c_1] w ∧ Q51.l1 kk a0 a1 r2 r5 x1 x2 x3 = some r) (k := k1) ⟨([] : List (Int)), none, 0, 0, rfl, h23, H⟩ ?_
 rintro k2 env w12 ⟨x2, A8, c_8, x3, rfl, h17, H⟩
 rcases k2 with _ | k2
 ·exact z0 H
 rw [Q51.l1] at H
 refine J.seq (Zb [8, 36, 37, 38] ?_)
 refine J.seq (jIf H (fun c9 H => ?_) fun c9 H => ?_)
 ·refine J.skip (J.seq (J.block (J.seq (Zb [8, 9, 36, 37] ?_))))
  refine J.region (Zm 4 ?_)
  refine Zk (Zd 0 h17.wht) ?_
  refine Zm 1 ?_
  refine Zh (Xi (.int .i64) ([x3] : List (Int)) h17) ?_
  rintro _ w13 ⟨b8, rfl, h18⟩
  replace h18 := nf h18
  obtain ⟨p7, H⟩ := Zo H
  refine Zh (Y6 7 h18 (gO 0) p7) ?_
  rintro _ w14 ⟨A9, c_9, rfl, h19⟩
  replace h19 := nf h19
  refine Zm 2 ?_
  refine Zh (Yj 2 h19) ?_
  intro _ w15 h20
  replace h20 := nf h20
  refine Zn [8, 36, 37] rfl ?_
  refine Zb [8, 36, 37] ?_
  have h21 := (sOR h20 [0, 2, 2, 2, 2, 2, 0, 1, 1] [0])
  exact ⟨k2, by omega, (x2 ++ ([x3] : List (Int))), A9, c_9, (w64 (x3 + 1)), rfl, h21, H⟩
 refine J.exit (J.seq (Zb [4, 5] ?_))
 refine J.ret (⟨_, Za, ?_⟩)
 refine Zn [1, 7, 8, 9, 10, 11] rfl ?_
 refine J.seq (J.seq (J.region ?_))
 refine Zm 3 ?_
 refine Yo 50 (congrArg Value.bool c3) ?_
 refine Zn [1, 7, 8, 10, 57] rfl ?_
 refine Zz ?_
 refine J.skip (J.seq (J.region ?_))
 refine Zh (Zex .str 9 (List.replicate 9 ([] : List UInt8)) h17) ?_
 rintro _ w41 ⟨b10, rfl, h108⟩
 replace h108 := nf h108
 refine Zn [1, 7, 8, 10, 12] rfl ?_
 refine J.seq (J.seq (Zb [1, 7, 8, 10, 12, 13] ?_))
 refine J.block ?_
 have h197 := (sOR h108 [2, 1, 1, 1, 5, 1, 1, 1, 1, 0] [0])
 refine J.loop (fun kk env w => ∃ (x19 : List (List UInt8)) (A38 : Option Addr) (x20 : Int), env = [(1, .slice A1 a1.length c_1), (7, .slice A4 x1.length c_4), (8, .pointer (some ⟨b3, 0, none⟩)), (10, .pointer (some ⟨b7, 0, none⟩)), (12, .pointer A38), (13, .int .i64 x20)] ∧ St w0 F0 [X51 b3 r2.1 r2.2.1 A6 c_6 r2.2.2.1 r2.2.2.2, Yb b7 (.pointer (some ⟨b3, 0, none⟩)) (List.replicate ((w64 (1 + (Int.tmod (w64 (a0)) 6))).toNat) ((0, ([] : List (Int)), false, 0) : Int × List (Int) × Bool × Int)) (some ⟨b5, 0, none⟩) ((w64 (1 + (Int.tmod (w64 (a0)) 6))).toNat) (.map (some b6)) x2 A8 c_8 (.pointer (some ⟨b4, 0, none⟩)), Z8 .u32 (Value.int .i64) b6 ([] : List (Int × Int)), Z4 b4 r5.1 A7 c_7 r5.2, O5 x1 A4 c_4, O5 r2.2.1 A6 c_6, Ya (List.replicate ((w64 (1 + (Int.tmod (w64 (a0)) 6))).toNat) ((0, ([] : List (Int)), false, 0) : Int × List (Int) × Bool × Int)) (some ⟨b5, 0, none⟩) ((w64 (1 + (Int.tmod (w64 (a0)) 6))).toNat), O3 x2 A8 c_8, Z5 r5.1 A7 c_7, Zc2 x19 A38 9] [Zb4 a1 A1 c_1] w ∧ Q51.l2 kk a0 a1 r2 r5 x1 x2 x19 x20 = some r) (k := k2) ⟨(List.replicate 9 ([] : List UInt8)), (some ⟨b10, 0, none⟩), 0, rfl, h197, H⟩ ?_
 rintro k6 env w42 ⟨x19, A38, x20, rfl, h109, H⟩
 rcases k6 with _ | k6
 ·exact z0 H
 rw [Q51.l2] at H
 refine J.seq (J.seq (Zb [1, 7, 8, 10, 12, 13, 59] ?_))
 refine jIf H (fun c41 H => ?_) fun c41 H => ?_
 ·refine J.skip (J.seq (J.block (J.region ?_)))
  refine Zm 7 ?_
  obtain ⟨⟨p44, p45, p46⟩, H⟩ := Zo H
  have e12 := h109.cap (gO 4)
  refine Zk (Jp ((x1.drop ((w64 (2 * x20))).toNat).take (((w64 ((w64 (2 * x20)) + 2))).toNat - ((w64 (2 * x20))).toNat)) (w64 (2 * x20)) (w64 ((w64 (2 * x20)) + 2)) e12 p44 p45 p46) ?_
  refine Zk (Yp h109.wht ((Gives.of 4 rfl Ui).trans (Bl (.int .u8) ((x1.drop ((w64 (2 * x20))).toNat).take (((w64 ((w64 (2 * x20)) + 2))).toNat - ((w64 (2 * x20))).toNat)) (w64 (2 * x20)) (w64 ((w64 (2 * x20)) + 2)) p44 p45 p46))) ?_
  obtain ⟨⟨p47, p48⟩, H⟩ := Zo H
  have e13 := Z3 h109.wh (gO 9) p47 p48
  refine Zk (X1 h109.wht (gO 9) e13 Try.underlying104 p48 p47) ?_
  refine Zh (Zj 0 .str x20 (toS ((x1.drop ((w64 (2 * x20))).toNat).take (((w64 ((w64 (2 * x20)) + 2))).toNat - ((w64 (2 * x20))).toNat))) 9 h109 rfl p47 p48) ?_
  intro _ w43 h110
  replace h110 := nf h110
  refine Zn [1, 7, 8, 10, 12, 13] rfl ?_
  refine Zb [1, 7, 8, 10, 12, 13] ?_
  have h111 := (sOR h110 [1, 1, 1, 1, 1, 1, 1, 1, 1, 0] [0])
  exact ⟨k6, by omega, (x19.set x20.toNat (toS ((x1.drop ((w64 (2 * x20))).toNat).take (((w64 ((w64 (2 * x20)) + 2))).toNat - ((w64 (2 * x20))).toNat)))), A38, (w64 (x20 + 1)), rfl, h111, H⟩
 refine J.exit (J.seq (J.seq (Zb [1, 8, 10, 12, 14] ?_)))
 refine J.block ?_
 have h196 := (sOR h109 [0, 0, 0, 0, 1, 1, 1, 1, 1] [0])
 refine J.loop (fun kk env w => ∃ (x21 : Int) (x22 : List (Int)) (A39 : Option Addr) (c_36 : Nat) (x23 : Int) (x24 : Int) (x25 : List (Int × List (Int) × Bool × Int)) (A40 : Option Addr) (c_37 : Nat) (x26 : List (Int × Int)) (x27 : List (Int)) (A41 : Option Addr) (c_38 : Nat) (x28 : List (Int × Int × Bool)) (A42 : Option Addr) (c_39 : Nat) (x29 : Int) (x30 : List (List UInt8)) (A43 : Option Addr) (x31 : Int), env = [(1, .slice A1 a1.length c_1), (8, .pointer (some ⟨b3, 0, none⟩)), (10, .pointer (some ⟨b7, 0, none⟩)), (12, .pointer A43), (14, .int .i64 x31)] ∧ St w0 F0 [X51 b3 x21 x22 A39 c_36 x23 x24, Yb b7 (.pointer (some ⟨b3, 0, none⟩)) x25 A40 c_37 (.map (some b6)) x27 A41 c_38 (.pointer (some ⟨b4, 0, none⟩)), Z8 .u32 (Value.int .i64) b6 x26, Z4 b4 x28 A42 c_39 x29, O5 x22 A39 c_36, Ya x25 A40 c_37, O3 x27 A41 c_38, Z5 x28 A42 c_39, Zc2 x30 A43 9] [Zb4 a1 A1 c_1] w ∧ Q51.l3 kk a1 x21 x22 x23 x24 x25 x26 x27 x28 x29 x30 x31 = some r) (k := k6) ⟨r2.1, r2.2.1, A6, c_6, r2.2.2.1, r2.2.2.2, (List.replicate ((w64 (1 + (Int.tmod (w64 (a0)) 6))).toNat) ((0, ([] : List (Int)), false, 0) : Int × List (Int) × Bool × Int)), (some ⟨b5, 0, none⟩), ((w64 (1 + (Int.tmod (w64 (a0)) 6))).toNat), ([] : List (Int × Int)), x2, A8, c_8, r5.1, A7, c_7, r5.2, x19, A38, 0, rfl, h196, H⟩ ?_
 rintro k7 env w44 ⟨x21, x22, A39, c_36, x23, x24, x25, A40, c_37, x26, x27, A41, c_38, x28, A42, c_39, x29, x30, A43, x31, rfl, h112, H⟩
 rcases k7 with _ | k7
 ·exact z0 H
 rw [Q51.l3] at H
 refine J.seq (J.seq (J.region ?_))
 refine Zm 5 ?_
 refine Y3 76 H (fun c42 H => ?_) fun c42 H => ?_
 ·refine Zn [1, 8, 10, 12, 14, 79] rfl ?_
  refine jIf H (fun c43 H => ?_) fun c43 H => ?_
  ·refine J.skip (J.seq (J.block (J.seq (J.region ?_))))
   refine Zm 2 ?_
   obtain ⟨⟨p49, p50⟩, H⟩ := Zo H
   have e14 := Z3 h112.wh (Z0 9) p49 p50
   refine Zk (Zf e14 p49 p50) ?_
   obtain ⟨cs6, h113⟩ := h112.elem 0 rfl p49 p50
   obtain ⟨cs7, cs8, rfl, h114⟩ := Gi 0 h113
   obtain ⟨cs9, cs10, rfl, h115⟩ := Gi 1 h114
   obtain rfl := U4 (.int .i64) 2 h115
   obtain rfl := U4 (.int .u32) 0 h115
   obtain ⟨A44, c_40, rfl⟩ := By 1 h115
   refine Zk (Zas 0 h115.wht (Z0 14)) ?_
   refine Zh (Ug h115) ?_
   rintro _ w45 ⟨b11, rfl, h116⟩
   replace h116 := nf h116
   refine Zh (Yj 0 h116) ?_
   intro _ w46 h117
   replace h117 := nf h117
   refine Zn [1, 8, 10, 12, 14, 15] rfl ?_
   refine J.seq (J.seq (J.region ?_))
   refine Zm 1 ?_
   refine Zk (Zd 0 h117.wht) ?_
   refine Zn [1, 8, 10, 12, 14, 15, 88] rfl ?_
   refine jIf H (fun c44 H => ?_) fun c44 H => ?_
   ·refine J.exit (Zb [1, 8, 10, 12, 14] ?_)
    have h118 := (sOR h117 [1, 1, 1, 1, 1, 1, 1, 1, 1] [6])
    exact ⟨k7, by omega, x21, x22, A39, c_36, x23, x24, x25, A40, c_37, x26, x27, A41, c_38, x28, A42, c_39, x29, x30, A43, (w64 (x31 + 1)), rfl, h118, H⟩
   refine J.skip (J.seq (J.region ?_))
   refine Zm 1 ?_
   refine Zk (Zd 0 h117.wht) ?_
   obtain ⟨r22, q20, H⟩ := Zp H
   refine Zh (Zi [2, 1, 3, 3, 1, 2, 1, 1] (Q53.spec q20) h117 rfl (Y8 (Z0 3) Zt)) ?_
   rintro _ w47 ⟨_, ⟨A45, c_41, A46, c_42, A47, c_43, A48, c_44, rfl, rfl⟩, h119⟩
   replace h119 := nf h119
   refine Zn [1, 8, 10, 12, 14, 15, 16] rfl ?_
   refine J.seq (J.seq (J.region ?_))
   refine Zm 3 ?_
   refine Y3 94 H (fun c45 H => ?_) fun c45 H => ?_
   ·refine Zm 1 ?_
    refine Zk (Zd 8 h119.wht) ?_
    refine Zn [1, 8, 10, 12, 14, 15, 16, 98] rfl ?_
    refine jIf H (fun c46 H => ?_) fun c46 H => ?_
    ·refine J.region (Zm 1 ?_)
     refine Zk (Zd 8 h119.wht) ?_
     obtain ⟨⟨p51, p52⟩, H⟩ := Zo H
     have e15 := Z3 h119.wh (gO 9) p51 p52
     refine Zk (X1 h119.wht (gO 9) e15 Try.underlying104 p52 p51) ?_
     refine Zh (Zj 0 .str ((gt a1 x31).2.1) ([0, 0] : List UInt8) 9 h119 rfl p51 p52) ?_
     intro _ w48 h120
     replace h120 := nf h120
     refine Zn [1, 8, 10, 12, 14, 15, 16] rfl ?_
     refine J.seq (J.seq (J.region ?_))
     refine Zm 3 ?_
     refine Yo 104 (congrArg Value.bool c45) ?_
     refine Zm 1 ?_
     refine Zk (Zd 9 h120.wht) ?_
     refine Zm 2 ?_
     refine Y3 108 H (fun c47 H => ?_) fun c47 H => ?_
     ·refine Zn [1, 8, 10, 12, 14, 15, 113] rfl ?_
      refine Z2 ?_
      refine J.region (Zm 1 ?_)
      refine Zk (Zd 9 h120.wht) ?_
      refine Zm 1 ?_
      refine Zk (Zd 9 h120.wht) ?_
      refine Zk (Yp h120.wht (Z0 11)) ?_
      obtain ⟨⟨p53, p54⟩, H⟩ := Zo H
      refine Zk (X1 h120.wht (gO 0) e15 Try.underlying104 p54 p53) ?_
      refine Zh (Zj 0 .str ((gt a1 x31).2.1) (toS ((gt a1 x31).2.2)) 0 h120 rfl p53 p54) ?_
      intro _ w49 h121
      replace h121 := nf h121
      refine Zn [1, 8, 10, 12, 14, 15] rfl ?_
      refine J.seq (J.region ?_)
      refine Zm 2 ?_
      refine Zk (Zd 9 h121.wht) ?_
      obtain ⟨r23, q21, H⟩ := Zp H
      refine Zh (Zi [1, 1, 1, 1, 1, 1, 1, 1] (Q7.spec q21) h121 rfl Zt) ?_
      rintro _ w50 ⟨_, ⟨A49, c_45, rfl, rfl⟩, h122⟩
      replace h122 := nf h122
      refine Zn [1, 8, 10, 12, 14, 15, 17, 18] rfl ?_
      refine J.seq (Zr h122 ?_)
      have h123 := h122.drew
      refine Zv [0, 1, 2] ?_
      refine Xz 129 H (fun c48 H => ?_) fun c48 H => ?_
      ·refine Zv [3, 5] ?_
       refine Ze 4 rfl (Yp wI (gO 0)) ?_
       refine Ze 6 rfl (Zd 10 wI) ?_
       obtain ⟨⟨p55, p56⟩, H⟩ := Zo H
       refine Ze 7 rfl (X1 wI (gO 9) e15 Try.underlying104 p56 p55) ?_
       refine Ze 8 rfl (Zg 0 wI (gO 9) p55 p56) ?_
       refine Zv [9, 10] ?_
       refine Zy [1, 8, 10, 12, 14, 137] ?_
       have h124 := Zc h123 [1, 1, 1, 1, 1, 1, 1, 1, 1]
       replace h124 := nf h124
       refine jIf H (fun c49 H => ?_) fun c49 H => ?_
       ·refine J.seq (Zb [6] ?_)
        have h125 := Zc h124 []
        replace h125 := nf h125
        refine J.ret ?_
        cases H
        exact ⟨_, _, _, Za, ⟨rfl, rfl⟩, Zc h125 []⟩
       refine J.skip (Zb [1, 8, 10, 12, 14] ?_)
       have h126 := (sOR h124 [1, 0, 2, 3, 0, 0, 0, 0, 0] [6])
       exact ⟨k7, by omega, r22.2.1.1, r22.2.1.2.1, A45, c_41, r22.2.1.2.2.1, r22.2.1.2.2.2, r22.2.2.1, A46, c_42, r22.2.2.2.1, r22.2.2.2.2.1, A47, c_43, r22.2.2.2.2.2.1, A48, c_44, r22.2.2.2.2.2.2, ((x30.set ((gt a1 x31).2.1).toNat ([0, 0] : List UInt8)).set ((gt a1 x31).2.1).toNat (toS ((gt a1 x31).2.2))), A43, (w64 (x31 + 1)), rfl, h126, H⟩
      refine Zv [3, 4, 5, 6, 7, 8, 9, 10] ?_
      refine Zy [1, 8, 10, 12, 14, 137] ?_
      have h127 := Zc h123 [1, 1, 1, 1, 1, 1, 1, 1, 1]
      replace h127 := nf h127
      refine Zz ?_
      refine J.skip (Zb [1, 8, 10, 12, 14] ?_)
      have h128 := (sOR h127 [1, 0, 2, 3, 0, 0, 0, 0, 0] [6])
      exact ⟨k7, by omega, r22.2.1.1, r22.2.1.2.1, A45, c_41, r22.2.1.2.2.1, r22.2.1.2.2.2, r22.2.2.1, A46, c_42, r22.2.2.2.1, r22.2.2.2.2.1, A47, c_43, r22.2.2.2.2.2.1, A48, c_44, r22.2.2.2.2.2.2, ((x30.set ((gt a1 x31).2.1).toNat ([0, 0] : List UInt8)).set ((gt a1 x31).2.1).toNat (toS ((gt a1 x31).2.2))), A43, (w64 (x31 + 1)), rfl, h128, H⟩
     refine Zm 1 ?_
     refine Zk (Zd 9 h120.wht) ?_
     refine Zn [1, 8, 10, 12, 14, 15, 113] rfl ?_
     refine jIf H (fun c50 H => ?_) fun c50 H => ?_
     ·refine J.region (Zm 1 ?_)
      refine Zk (Zd 9 h120.wht) ?_
      refine Zm 1 ?_
      refine Zk (Zd 9 h120.wht) ?_
      refine Zk (Yp h120.wht (Z0 11)) ?_
      obtain ⟨⟨p57, p58⟩, H⟩ := Zo H
      refine Zk (X1 h120.wht (gO 0) e15 Try.underlying104 p58 p57) ?_
      refine Zh (Zj 0 .str ((gt a1 x31).2.1) (toS ((gt a1 x31).2.2)) 0 h120 rfl p57 p58) ?_
      intro _ w51 h129
      replace h129 := nf h129
      refine Zn [1, 8, 10, 12, 14, 15] rfl ?_
      refine J.seq (J.region ?_)
      refine Zm 2 ?_
      refine Zk (Zd 9 h129.wht) ?_
      obtain ⟨r24, q22, H⟩ := Zp H
      refine Zh (Zi [1, 1, 1, 1, 1, 1, 1, 1] (Q7.spec q22) h129 rfl Zt) ?_
      rintro _ w52 ⟨_, ⟨A50, c_46, rfl, rfl⟩, h130⟩
      replace h130 := nf h130
      refine Zn [1, 8, 10, 12, 14, 15, 17, 18] rfl ?_
      refine J.seq (Zr h130 ?_)
      have h131 := h130.drew
      refine Zv [0, 1, 2] ?_
      refine Xz 129 H (fun c51 H => ?_) fun c51 H => ?_
      ·refine Zv [3, 5] ?_
       refine Ze 4 rfl (Yp wI (gO 0)) ?_
       refine Ze 6 rfl (Zd 10 wI) ?_
       obtain ⟨⟨p59, p60⟩, H⟩ := Zo H
       refine Ze 7 rfl (X1 wI (gO 9) e15 Try.underlying104 p60 p59) ?_
       refine Ze 8 rfl (Zg 0 wI (gO 9) p59 p60) ?_
       refine Zv [9, 10] ?_
       refine Zy [1, 8, 10, 12, 14, 137] ?_
       have h132 := Zc h131 [1, 1, 1, 1, 1, 1, 1, 1, 1]
       replace h132 := nf h132
       refine jIf H (fun c52 H => ?_) fun c52 H => ?_
       ·refine J.seq (Zb [6] ?_)
        have h133 := Zc h132 []
        replace h133 := nf h133
        refine J.ret ?_
        cases H
        exact ⟨_, _, _, Za, ⟨rfl, rfl⟩, Zc h133 []⟩
       refine J.skip (Zb [1, 8, 10, 12, 14] ?_)
       have h134 := (sOR h132 [1, 0, 2, 3, 0, 0, 0, 0, 0] [6])
       exact ⟨k7, by omega, r22.2.1.1, r22.2.1.2.1, A45, c_41, r22.2.1.2.2.1, r22.2.1.2.2.2, r22.2.2.1, A46, c_42, r22.2.2.2.1, r22.2.2.2.2.1, A47, c_43, r22.2.2.2.2.2.1, A48, c_44, r22.2.2.2.2.2.2, ((x30.set ((gt a1 x31).2.1).toNat ([0, 0] : List UInt8)).set ((gt a1 x31).2.1).toNat (toS ((gt a1 x31).2.2))), A43, (w64 (x31 + 1)), rfl, h134, H⟩
      refine Zv [3, 4, 5, 6, 7, 8, 9, 10] ?_
      refine Zy [1, 8, 10, 12, 14, 137] ?_
      have h135 := Zc h131 [1, 1, 1, 1, 1, 1, 1, 1, 1]
      replace h135 := nf h135
      refine Zz ?_
      refine J.skip (Zb [1, 8, 10, 12, 14] ?_)
      have h136 := (sOR h135 [1, 0, 2, 3, 0, 0, 0, 0, 0] [6])
      exact ⟨k7, by omega, r22.2.1.1, r22.2.1.2.1, A45, c_41, r22.2.1.2.2.1, r22.2.1.2.2.2, r22.2.2.1, A46, c_42, r22.2.2.2.1, r22.2.2.2.2.1, A47, c_43, r22.2.2.2.2.2.1, A48, c_44, r22.2.2.2.2.2.2, ((x30.set ((gt a1 x31).2.1).toNat ([0, 0] : List UInt8)).set ((gt a1 x31).2.1).toNat (toS ((gt a1 x31).2.2))), A43, (w64 (x31 + 1)), rfl, h136, H⟩
     refine J.skip (J.seq (J.region ?_))
     refine Zm 2 ?_
     refine Zk (Zd 9 h120.wht) ?_
     obtain ⟨r25, q23, H⟩ := Zp H
     refine Zh (Zi [1, 1, 1, 1, 1, 1, 1, 1] (Q7.spec q23) h120 rfl Zt) ?_
     rintro _ w53 ⟨_, ⟨A51, c_47, rfl, rfl⟩, h137⟩
     replace h137 := nf h137
     refine Zn [1, 8, 10, 12, 14, 15, 17, 18] rfl ?_
     refine J.seq (Zr h137 ?_)
     have h138 := h137.drew
     refine Zv [0, 1, 2] ?_
     refine Xz 129 H (fun c53 H => ?_) fun c53 H => ?_
     ·refine Zv [3, 5] ?_
      refine Ze 4 rfl (Yp wI (gO 0)) ?_
      refine Ze 6 rfl (Zd 10 wI) ?_
      obtain ⟨⟨p61, p62⟩, H⟩ := Zo H
      refine Ze 7 rfl (X1 wI (gO 9) e15 Try.underlying104 p62 p61) ?_
      refine Ze 8 rfl (Zg 0 wI (gO 9) p61 p62) ?_
      refine Zv [9, 10] ?_
      refine Zy [1, 8, 10, 12, 14, 137] ?_
      have h139 := Zc h138 [1, 1, 1, 1, 1, 1, 1, 1, 1]
      replace h139 := nf h139
      refine jIf H (fun c54 H => ?_) fun c54 H => ?_
      ·refine J.seq (Zb [6] ?_)
       have h140 := Zc h139 []
       replace h140 := nf h140
       refine J.ret ?_
       cases H
       exact ⟨_, _, _, Za, ⟨rfl, rfl⟩, Zc h140 []⟩
      refine J.skip (Zb [1, 8, 10, 12, 14] ?_)
      have h141 := (sOR h139 [1, 0, 2, 3, 0, 0, 0, 0, 0] [6])
      exact ⟨k7, by omega, r22.2.1.1, r22.2.1.2.1, A45, c_41, r22.2.1.2.2.1, r22.2.1.2.2.2, r22.2.2.1, A46, c_42, r22.2.2.2.1, r22.2.2.2.2.1, A47, c_43, r22.2.2.2.2.2.1, A48, c_44, r22.2.2.2.2.2.2, (x30.set ((gt a1 x31).2.1).toNat ([0, 0] : List UInt8)), A43, (w64 (x31 + 1)), rfl, h141, H⟩
     refine Zv [3, 4, 5, 6, 7, 8, 9, 10] ?_
     refine Zy [1, 8, 10, 12, 14, 137] ?_
     have h142 := Zc h138 [1, 1, 1, 1, 1, 1, 1, 1, 1]
     replace h142 := nf h142
     refine Zz ?_
     refine J.skip (Zb [1, 8, 10, 12, 14] ?_)
     have h143 := (sOR h142 [1, 0, 2, 3, 0, 0, 0, 0, 0] [6])
     exact ⟨k7, by omega, r22.2.1.1, r22.2.1.2.1, A45, c_41, r22.2.1.2.2.1, r22.2.1.2.2.2, r22.2.2.1, A46, c_42, r22.2.2.2.1, r22.2.2.2.2.1, A47, c_43, r22.2.2.2.2.2.1, A48, c_44, r22.2.2.2.2.2.2, (x30.set ((gt a1 x31).2.1).toNat ([0, 0] : List UInt8)), A43, (w64 (x31 + 1)), rfl, h143, H⟩
    refine J.skip (J.seq (J.seq (J.region ?_)))
    refine Zm 3 ?_
    refine Yo 104 (congrArg Value.bool c45) ?_
    refine Zm 1 ?_
    refine Zk (Zd 8 h119.wht) ?_
    refine Zm 2 ?_
    refine Y3 108 H (fun c55 H => ?_) fun c55 H => ?_
    ·refine Zn [1, 8, 10, 12, 14, 15, 113] rfl ?_
     refine Z2 ?_
     refine J.region (Zm 1 ?_)
     refine Zk (Zd 8 h119.wht) ?_
     refine Zm 1 ?_
     refine Zk (Zd 8 h119.wht) ?_
     refine Zk (Yp h119.wht (Z0 11)) ?_
     obtain ⟨⟨p63, p64⟩, H⟩ := Zo H
     have e16 := Z3 h119.wh (gO 9) p63 p64
     refine Zk (X1 h119.wht (gO 9) e16 Try.underlying104 p64 p63) ?_
     refine Zh (Zj 0 .str ((gt a1 x31).2.1) (toS ((gt a1 x31).2.2)) 9 h119 rfl p63 p64) ?_
     intro _ w54 h144
     replace h144 := nf h144
     refine Zn [1, 8, 10, 12, 14, 15] rfl ?_
     refine J.seq (J.region ?_)
     refine Zm 2 ?_
     refine Zk (Zd 9 h144.wht) ?_
     obtain ⟨r26, q24, H⟩ := Zp H
     refine Zh (Zi [1, 1, 1, 1, 1, 1, 1, 1] (Q7.spec q24) h144 rfl Zt) ?_
     rintro _ w55 ⟨_, ⟨A52, c_48, rfl, rfl⟩, h145⟩
     replace h145 := nf h145
     refine Zn [1, 8, 10, 12, 14, 15, 17, 18] rfl ?_
     refine J.seq (Zr h145 ?_)
     have h146 := h145.drew
     refine Zv [0, 1, 2] ?_
     refine Xz 129 H (fun c56 H => ?_) fun c56 H => ?_
     ·refine Zv [3, 5] ?_
      refine Ze 4 rfl (Yp wI (gO 0)) ?_
      refine Ze 6 rfl (Zd 10 wI) ?_
      obtain ⟨⟨p65, p66⟩, H⟩ := Zo H
      refine Ze 7 rfl (X1 wI (gO 9) e16 Try.underlying104 p66 p65) ?_
      refine Ze 8 rfl (Zg 0 wI (gO 9) p65 p66) ?_
      refine Zv [9, 10] ?_
      refine Zy [1, 8, 10, 12, 14, 137] ?_
      have h147 := Zc h146 [1, 1, 1, 1, 1, 1, 1, 1, 1]
      replace h147 := nf h147
      refine jIf H (fun c57 H => ?_) fun c57 H => ?_
      ·refine J.seq (Zb [6] ?_)
       have h148 := Zc h147 []
       replace h148 := nf h148
       refine J.ret ?_
       cases H
       exact ⟨_, _, _, Za, ⟨rfl, rfl⟩, Zc h148 []⟩
      refine J.skip (Zb [1, 8, 10, 12, 14] ?_)
      have h149 := (sOR h147 [1, 0, 2, 3, 0, 0, 0, 0, 0] [6])
      exact ⟨k7, by omega, r22.2.1.1, r22.2.1.2.1, A45, c_41, r22.2.1.2.2.1, r22.2.1.2.2.2, r22.2.2.1, A46, c_42, r22.2.2.2.1, r22.2.2.2.2.1, A47, c_43, r22.2.2.2.2.2.1, A48, c_44, r22.2.2.2.2.2.2, (x30.set ((gt a1 x31).2.1).toNat (toS ((gt a1 x31).2.2))), A43, (w64 (x31 + 1)), rfl, h149, H⟩
     refine Zv [3, 4, 5, 6, 7, 8, 9, 10] ?_
     refine Zy [1, 8, 10, 12, 14, 137] ?_
     have h150 := Zc h146 [1, 1, 1, 1, 1, 1, 1, 1, 1]
     replace h150 := nf h150
     refine Zz ?_
     refine J.skip (Zb [1, 8, 10, 12, 14] ?_)
     have h151 := (sOR h150 [1, 0, 2, 3, 0, 0, 0, 0, 0] [6])
     exact ⟨k7, by omega, r22.2.1.1, r22.2.1.2.1, A45, c_41, r22.2.1.2.2.1, r22.2.1.2.2.2, r22.2.2.1, A46, c_42, r22.2.2.2.1, r22.2.2.2.2.1, A47, c_43, r22.2.2.2.2.2.1, A48, c_44, r22.2.2.2.2.2.2, (x30.set ((gt a1 x31).2.1).toNat (toS ((gt a1 x31).2.2))), A43, (w64 (x31 + 1)), rfl, h151, H⟩
    refine Zm 1 ?_
    refine Zk (Zd 8 h119.wht) ?_
    refine Zn [1, 8, 10, 12, 14, 15, 113] rfl ?_
    refine jIf H (fun c58 H => ?_) fun c58 H => ?_
    ·refine J.region (Zm 1 ?_)
     refine Zk (Zd 8 h119.wht) ?_
     refine Zm 1 ?_
     refine Zk (Zd 8 h119.wht) ?_
     refine Zk (Yp h119.wht (Z0 11)) ?_
     obtain ⟨⟨p67, p68⟩, H⟩ := Zo H
     have e17 := Z3 h119.wh (gO 9) p67 p68
     refine Zk (X1 h119.wht (gO 9) e17 Try.underlying104 p68 p67) ?_
     refine Zh (Zj 0 .str ((gt a1 x31).2.1) (toS ((gt a1 x31).2.2)) 9 h119 rfl p67 p68) ?_
     intro _ w56 h152
     replace h152 := nf h152
     refine Zn [1, 8, 10, 12, 14, 15] rfl ?_
     refine J.seq (J.region ?_)
     refine Zm 2 ?_
     refine Zk (Zd 9 h152.wht) ?_
     obtain ⟨r27, q25, H⟩ := Zp H
     refine Zh (Zi [1, 1, 1, 1, 1, 1, 1, 1] (Q7.spec q25) h152 rfl Zt) ?_
     rintro _ w57 ⟨_, ⟨A53, c_49, rfl, rfl⟩, h153⟩
     replace h153 := nf h153
     refine Zn [1, 8, 10, 12, 14, 15, 17, 18] rfl ?_
     refine J.seq (Zr h153 ?_)
     have h154 := h153.drew
     refine Zv [0, 1, 2] ?_
     refine Xz 129 H (fun c59 H => ?_) fun c59 H => ?_
     ·refine Zv [3, 5] ?_
      refine Ze 4 rfl (Yp wI (gO 0)) ?_
      refine Ze 6 rfl (Zd 10 wI) ?_
      obtain ⟨⟨p69, p70⟩, H⟩ := Zo H
      refine Ze 7 rfl (X1 wI (gO 9) e17 Try.underlying104 p70 p69) ?_
      refine Ze 8 rfl (Zg 0 wI (gO 9) p69 p70) ?_
      refine Zv [9, 10] ?_
      refine Zy [1, 8, 10, 12, 14, 137] ?_
      have h155 := Zc h154 [1, 1, 1, 1, 1, 1, 1, 1, 1]
      replace h155 := nf h155
      refine jIf H (fun c60 H => ?_) fun c60 H => ?_
      ·refine J.seq (Zb [6] ?_)
       have h156 := Zc h155 []
       replace h156 := nf h156
       refine J.ret ?_
       cases H
       exact ⟨_, _, _, Za, ⟨rfl, rfl⟩, Zc h156 []⟩
      refine J.skip (Zb [1, 8, 10, 12, 14] ?_)
      have h157 := (sOR h155 [1, 0, 2, 3, 0, 0, 0, 0, 0] [6])
      exact ⟨k7, by omega, r22.2.1.1, r22.2.1.2.1, A45, c_41, r22.2.1.2.2.1, r22.2.1.2.2.2, r22.2.2.1, A46, c_42, r22.2.2.2.1, r22.2.2.2.2.1, A47, c_43, r22.2.2.2.2.2.1, A48, c_44, r22.2.2.2.2.2.2, (x30.set ((gt a1 x31).2.1).toNat (toS ((gt a1 x31).2.2))), A43, (w64 (x31 + 1)), rfl, h157, H⟩
     refine Zv [3, 4, 5, 6, 7, 8, 9, 10] ?_
     refine Zy [1, 8, 10, 12, 14, 137] ?_
     have h158 := Zc h154 [1, 1, 1, 1, 1, 1, 1, 1, 1]
     replace h158 := nf h158
     refine Zz ?_
     refine J.skip (Zb [1, 8, 10, 12, 14] ?_)
     have h159 := (sOR h158 [1, 0, 2, 3, 0, 0, 0, 0, 0] [6])
     exact ⟨k7, by omega, r22.2.1.1, r22.2.1.2.1, A45, c_41, r22.2.1.2.2.1, r22.2.1.2.2.2, r22.2.2.1, A46, c_42, r22.2.2.2.1, r22.2.2.2.2.1, A47, c_43, r22.2.2.2.2.2.1, A48, c_44, r22.2.2.2.2.2.2, (x30.set ((gt a1 x31).2.1).toNat (toS ((gt a1 x31).2.2))), A43, (w64 (x31 + 1)), rfl, h159, H⟩
    refine J.skip (J.seq (J.region ?_))
    refine Zm 2 ?_
    refine Zk (Zd 8 h119.wht) ?_
    obtain ⟨r28, q26, H⟩ := Zp H
    refine Zh (Zi [0, 0, 0, 0, 0, 0, 0, 0] (Q7.spec q26) h119 rfl Zt) ?_
    rintro _ w58 ⟨_, ⟨A54, c_50, rfl, rfl⟩, h160⟩
    replace h160 := nf h160
    refine Zn [1, 8, 10, 12, 14, 15, 17, 18] rfl ?_
    refine J.seq (Zr h160 ?_)
    have h161 := h160.drew
    refine Zv [0, 1, 2] ?_
    refine Xz 129 H (fun c61 H => ?_) fun c61 H => ?_
    ·refine Zv [3, 5] ?_
     refine Ze 4 rfl (Yp wI (gO 0)) ?_
     refine Ze 6 rfl (Zd 9 wI) ?_
     obtain ⟨⟨p71, p72⟩, H⟩ := Zo H
     have e18 := Z3 h161.wh (gO 10) p71 p72
     refine Ze 7 rfl (X1 wI (gO 10) e18 Try.underlying104 p72 p71) ?_
     refine Ze 8 rfl (Zg 0 wI (gO 10) p71 p72) ?_
     refine Zv [9, 10] ?_
     refine Zy [1, 8, 10, 12, 14, 137] ?_
     have h162 := Zc h161 [1, 1, 1, 1, 1, 1, 1, 1, 2]
     replace h162 := nf h162
     refine jIf H (fun c62 H => ?_) fun c62 H => ?_
     ·refine J.seq (Zb [6] ?_)
      have h163 := Zc h162 []
      replace h163 := nf h163
      refine J.ret ?_
      cases H
      exact ⟨_, _, _, Za, ⟨rfl, rfl⟩, Zc h163 []⟩
     refine J.skip (Zb [1, 8, 10, 12, 14] ?_)
     have h164 := (sOR h162 [1, 0, 2, 3, 0, 0, 0, 0, 0] [6])
     exact ⟨k7, by omega, r22.2.1.1, r22.2.1.2.1, A45, c_41, r22.2.1.2.2.1, r22.2.1.2.2.2, r22.2.2.1, A46, c_42, r22.2.2.2.1, r22.2.2.2.2.1, A47, c_43, r22.2.2.2.2.2.1, A48, c_44, r22.2.2.2.2.2.2, x30, A43, (w64 (x31 + 1)), rfl, h164, H⟩
    refine Zv [3, 4, 5, 6, 7, 8, 9, 10] ?_
    refine Zy [1, 8, 10, 12, 14, 137] ?_
    have h165 := Zc h161 [1, 1, 1, 1, 1, 1, 1, 1, 2]
    replace h165 := nf h165
    refine Zz ?_
    refine J.skip (Zb [1, 8, 10, 12, 14] ?_)
    have h166 := (sOR h165 [1, 0, 2, 3, 0, 0, 0, 0, 0] [6])
    exact ⟨k7, by omega, r22.2.1.1, r22.2.1.2.1, A45, c_41, r22.2.1.2.2.1, r22.2.1.2.2.2, r22.2.2.1, A46, c_42, r22.2.2.2.1, r22.2.2.2.2.1, A47, c_43, r22.2.2.2.2.2.1, A48, c_44, r22.2.2.2.2.2.2, x30, A43, (w64 (x31 + 1)), rfl, h166, H⟩
   refine Zn [1, 8, 10, 12, 14, 15, 16, 98] rfl ?_
   refine Zz ?_
   refine J.skip (J.seq (J.seq (J.region ?_)))
   refine Zm 3 ?_
   refine Yo 104 (congrArg Value.bool c45) ?_
   refine Zn [1, 8, 10, 12, 14, 15, 113] rfl ?_
   refine Zz ?_
   refine J.skip (J.seq (J.region ?_))
   refine Zm 2 ?_
   refine Zk (Zd 8 h119.wht) ?_
   obtain ⟨r29, q27, H⟩ := Zp H
   refine Zh (Zi [0, 0, 0, 0, 0, 0, 0, 0] (Q7.spec q27) h119 rfl Zt) ?_
   rintro _ w59 ⟨_, ⟨A55, c_51, rfl, rfl⟩, h167⟩
   replace h167 := nf h167
   refine Zn [1, 8, 10, 12, 14, 15, 17, 18] rfl ?_
   refine J.seq (Zr h167 ?_)
   have h168 := h167.drew
   refine Zv [0, 1, 2] ?_
   refine Xz 129 H (fun c63 H => ?_) fun c63 H => ?_
   ·refine Zv [3, 5] ?_
    refine Ze 4 rfl (Yp wI (gO 0)) ?_
    refine Ze 6 rfl (Zd 9 wI) ?_
    obtain ⟨⟨p73, p74⟩, H⟩ := Zo H
    have e19 := Z3 h168.wh (gO 10) p73 p74
    refine Ze 7 rfl (X1 wI (gO 10) e19 Try.underlying104 p74 p73) ?_
    refine Ze 8 rfl (Zg 0 wI (gO 10) p73 p74) ?_
    refine Zv [9, 10] ?_
    refine Zy [1, 8, 10, 12, 14, 137] ?_
    have h169 := Zc h168 [1, 1, 1, 1, 1, 1, 1, 1, 2]
    replace h169 := nf h169
    refine jIf H (fun c64 H => ?_) fun c64 H => ?_
    ·refine J.seq (Zb [6] ?_)
     have h170 := Zc h169 []
     replace h170 := nf h170
     refine J.ret ?_
     cases H
     exact ⟨_, _, _, Za, ⟨rfl, rfl⟩, Zc h170 []⟩
    refine J.skip (Zb [1, 8, 10, 12, 14] ?_)
    have h171 := (sOR h169 [1, 0, 2, 3, 0, 0, 0, 0, 0] [6])
    exact ⟨k7, by omega, r22.2.1.1, r22.2.1.2.1, A45, c_41, r22.2.1.2.2.1, r22.2.1.2.2.2, r22.2.2.1, A46, c_42, r22.2.2.2.1, r22.2.2.2.2.1, A47, c_43, r22.2.2.2.2.2.1, A48, c_44, r22.2.2.2.2.2.2, x30, A43, (w64 (x31 + 1)), rfl, h171, H⟩
   refine Zv [3, 4, 5, 6, 7, 8, 9, 10] ?_
   refine Zy [1, 8, 10, 12, 14, 137] ?_
   have h172 := Zc h168 [1, 1, 1, 1, 1, 1, 1, 1, 2]
   replace h172 := nf h172
   refine Zz ?_
   refine J.skip (Zb [1, 8, 10, 12, 14] ?_)
   have h173 := (sOR h172 [1, 0, 2, 3, 0, 0, 0, 0, 0] [6])
   exact ⟨k7, by omega, r22.2.1.1, r22.2.1.2.1, A45, c_41, r22.2.1.2.2.1, r22.2.1.2.2.2, r22.2.2.1, A46, c_42, r22.2.2.2.1, r22.2.2.2.2.1, A47, c_43, r22.2.2.2.2.2.1, A48, c_44, r22.2.2.2.2.2.2, x30, A43, (w64 (x31 + 1)), rfl, h173, H⟩
  refine J.exit (J.seq (J.seq (J.region ?_)))
  refine Zm 1 ?_
  obtain ⟨r30, q28, H⟩ := Zp H
  refine Zh (Zi [1, 0, 2, 2, 0, 1, 0, 0] (Q4.spec q28) h112 rfl Zt) ?_
  rintro _ w60 ⟨_, ⟨A56, c_52, A57, c_53, A58, c_54, A59, c_55, rfl, rfl⟩, h174⟩
  replace h174 := nf h174
  refine Zn [8, 10, 12, 140] rfl ?_
  refine jIf H (fun c65 H => ?_) fun c65 H => ?_
  ·refine J.seq (Zb [6] ?_)
   have h175 := Zc h174 []
   replace h175 := nf h175
   refine J.ret ?_
   cases H
   exact ⟨_, _, _, Za, ⟨rfl, rfl⟩, Zc h175 []⟩
  refine J.skip (J.seq (Zb [8, 10, 12, 19] ?_))
  refine J.seq (J.seq (Zb [8, 10, 12, 19, 20] ?_))
  refine J.block ?_
  have h184 := (sOR h174 [1, 0, 2, 3, 0, 0, 0, 0, 0] [])
  refine J.loop (fun kk env w => ∃ (x32 : List UInt8) (x33 : Int), env = [(8, .pointer (some ⟨b3, 0, none⟩)), (10, .pointer (some ⟨b7, 0, none⟩)), (12, .pointer A43), (19, .string ⟨⟨x32⟩⟩), (20, .int .i64 x33)] ∧ St w0 F0 [X51 b3 r30.2.1.1 r30.2.1.2.1 A56 c_52 r30.2.1.2.2.1 r30.2.1.2.2.2, Yb b7 (.pointer (some ⟨b3, 0, none⟩)) r30.2.2.1 A57 c_53 (.map (some b6)) r30.2.2.2.2.1 A58 c_54 (.pointer (some ⟨b4, 0, none⟩)), Z8 .u32 (Value.int .i64) b6 r30.2.2.2.1, Z4 b4 r30.2.2.2.2.2.1 A59 c_55 r30.2.2.2.2.2.2, O5 r30.2.1.2.1 A56 c_52, Ya r30.2.2.1 A57 c_53, O3 r30.2.2.2.2.1 A58 c_54, Z5 r30.2.2.2.2.2.1 A59 c_55, Zc2 x30 A43 9] [] w ∧ Q51.l4 kk r30 x30 x32 x33 = some r) (k := k7) ⟨([] : List UInt8), 0, rfl, h184, H⟩ ?_
  rintro k8 env w61 ⟨x32, x33, rfl, h176, H⟩
  rcases k8 with _ | k8
  ·exact z0 H
  rw [Q51.l4] at H
  refine J.seq (J.seq (Zb [8, 10, 12, 19, 20, 142] ?_))
  refine jIf H (fun c66 H => ?_) fun c66 H => ?_
  ·refine J.skip (J.seq (J.block (J.region ?_)))
   refine Zm 2 ?_
   obtain ⟨⟨p75, p76⟩, H⟩ := Zo H
   have e20 := Z3 h176.wh (gO 8) p75 p76
   refine Zk (X1 h176.wht (gO 8) e20 Try.underlying104 p76 p75) ?_
   refine Zk (Zg 0 h176.wht (gO 8) p75 p76) ?_
   obtain ⟨p77, H⟩ := Zo H
   refine Zk (Je p77) ?_
   refine Zn [8, 10, 12, 19, 20] rfl ?_
   refine Zb [8, 10, 12, 19, 20] ?_
   have h177 := (sOR h176 [0, 0, 0, 0, 0, 0, 0, 0, 0] [])
   exact ⟨k8, by omega, (x32 ++ (gt x30 x33)), (w64 (x33 + 1)), rfl, h177, H⟩
  refine J.exit (J.seq (J.region ?_))
  refine Zm 1 ?_
  obtain ⟨r31, q29, H⟩ := Zp H
  refine Zh (Zi [0, 3] (Q27.spec q29) h176 rfl Zt) ?_
  rintro _ w62 ⟨_, ⟨A60, c_56, rfl, rfl⟩, h178⟩
  replace h178 := nf h178
  refine Zk (Yp h178.wht (gO 0)) ?_
  refine Zm 3 ?_
  refine Y3 155 H (fun c67 H => ?_) fun c67 H => ?_
  ·refine Zm 1 ?_
   obtain ⟨r32, q30, H⟩ := Zp H
   refine Zh (Zi [3, 1, 1, 3, 1, 2, 1, 1] (Q2.spec q30) h178 rfl Zt) ?_
   rintro _ w63 ⟨_, ⟨A61, c_57, rfl, rfl⟩, h179⟩
   replace h179 := nf h179
   refine Zm 4 ?_
   refine Y3 161 H (fun c68 H => ?_) fun c68 H => ?_
   ·obtain ⟨r33, q31, H⟩ := Zp H
    refine Zh (Zi [] (Q52.spec q31) h179 rfl Zt) ?_
    rintro _ w65 ⟨_, ⟨rfl, rfl⟩, h180⟩
    replace h180 := nf h180
    refine Zn [6] rfl ?_
    have h181 := Zc h180 []
    replace h181 := nf h181
    refine J.ret ?_
    cases H
    exact ⟨_, _, _, Za, ⟨rfl, rfl⟩, Zc h181 []⟩
   refine Zn [6] rfl ?_
   have h182 := Zc h179 []
   replace h182 := nf h182
   refine J.ret ?_
   cases H
   exact ⟨_, _, _, Za, ⟨rfl, rfl⟩, Zc h182 []⟩
  refine Zn [6] rfl ?_
  have h183 := Zc h178 []
  replace h183 := nf h183
  refine J.ret ?_
  cases H
  exact ⟨_, _, _, Za, ⟨rfl, rfl⟩, Zc h183 []⟩
 refine Zn [1, 8, 10, 12, 14, 79] rfl ?_
 refine Zz ?_
 refine J.exit (J.seq (J.seq (J.region ?_)))
 refine Zm 1 ?_
 obtain ⟨r34, q32, H⟩ := Zp H
 refine Zh (Zi [1, 0, 2, 2, 0, 1, 0, 0] (Q4.spec q32) h112 rfl Zt) ?_
 rintro _ w66 ⟨_, ⟨A62, c_58, A63, c_59, A64, c_60, A65, c_61, rfl, rfl⟩, h185⟩
 replace h185 := nf h185
 refine Zn [8, 10, 12, 140] rfl ?_
 refine jIf H (fun c69 H => ?_) fun c69 H => ?_
 ·refine J.seq (Zb [6] ?_)
  have h186 := Zc h185 []
  replace h186 := nf h186
  refine J.ret ?_
  cases H
  exact ⟨_, _, _, Za, ⟨rfl, rfl⟩, Zc h186 []⟩
 refine J.skip (J.seq (Zb [8, 10, 12, 19] ?_))
 refine J.seq (J.seq (Zb [8, 10, 12, 19, 20] ?_))
 refine J.block ?_
 have h195 := (sOR h185 [1, 0, 2, 3, 0, 0, 0, 0, 0] [])
 refine J.loop (fun kk env w => ∃ (x34 : List UInt8) (x35 : Int), env = [(8, .pointer (some ⟨b3, 0, none⟩)), (10, .pointer (some ⟨b7, 0, none⟩)), (12, .pointer A43), (19, .string ⟨⟨x34⟩⟩), (20, .int .i64 x35)] ∧ St w0 F0 [X51 b3 r34.2.1.1 r34.2.1.2.1 A62 c_58 r34.2.1.2.2.1 r34.2.1.2.2.2, Yb b7 (.pointer (some ⟨b3, 0, none⟩)) r34.2.2.1 A63 c_59 (.map (some b6)) r34.2.2.2.2.1 A64 c_60 (.pointer (some ⟨b4, 0, none⟩)), Z8 .u32 (Value.int .i64) b6 r34.2.2.2.1, Z4 b4 r34.2.2.2.2.2.1 A65 c_61 r34.2.2.2.2.2.2, O5 r34.2.1.2.1 A62 c_58, Ya r34.2.2.1 A63 c_59, O3 r34.2.2.2.2.1 A64 c_60, Z5 r34.2.2.2.2.2.1 A65 c_61, Zc2 x30 A43 9] [] w ∧ Q51.l5 kk r34 x30 x34 x35 = some r) (k := k7) ⟨([] : List UInt8), 0, rfl, h195, H⟩ ?_
 rintro k9 env w67 ⟨x34, x35, rfl, h187, H⟩
 rcases k9 with _ | k9
 ·exact z0 H
 rw [Q51.l5] at H
 refine J.seq (J.seq (Zb [8, 10, 12, 19, 20, 142] ?_))
 refine jIf H (fun c70 H => ?_) fun c70 H => ?_
 ·refine J.skip (J.seq (J.block (J.region ?_)))
  refine Zm 2 ?_
  obtain ⟨⟨p78, p79⟩, H⟩ := Zo H
  have e21 := Z3 h187.wh (gO 8) p78 p79
  refine Zk (X1 h187.wht (gO 8) e21 Try.underlying104 p79 p78) ?_
  refine Zk (Zg 0 h187.wht (gO 8) p78 p79) ?_
  obtain ⟨p80, H⟩ := Zo H
  refine Zk (Je p80) ?_
  refine Zn [8, 10, 12, 19, 20] rfl ?_
  refine Zb [8, 10, 12, 19, 20] ?_
  have h188 := (sOR h187 [0, 0, 0, 0, 0, 0, 0, 0, 0] [])
  exact ⟨k9, by omega, (x34 ++ (gt x30 x35)), (w64 (x35 + 1)), rfl, h188, H⟩
 refine J.exit (J.seq (J.region ?_))
 refine Zm 1 ?_
 obtain ⟨r35, q33, H⟩ := Zp H
 refine Zh (Zi [0, 3] (Q27.spec q33) h187 rfl Zt) ?_
 rintro _ w68 ⟨_, ⟨A66, c_62, rfl, rfl⟩, h189⟩
 replace h189 := nf h189
 refine Zk (Yp h189.wht (gO 0)) ?_
 refine Zm 3 ?_
 refine Y3 155 H (fun c71 H => ?_) fun c71 H => ?_
 ·refine Zm 1 ?_
  obtain ⟨r36, q34, H⟩ := Zp H
  refine Zh (Zi [3, 1, 1, 3, 1, 2, 1, 1] (Q2.spec q34) h189 rfl Zt) ?_
  rintro _ w69 ⟨_, ⟨A67, c_63, rfl, rfl⟩, h190⟩
  replace h190 := nf h190
  refine Zm 4 ?_
  refine Y3 161 H (fun c72 H => ?_) fun c72 H => ?_
  ·obtain ⟨r37, q35, H⟩ := Zp H
   refine Zh (Zi [] (Q52.spec q35) h190 rfl Zt) ?_
   rintro _ w70 ⟨_, ⟨rfl, rfl⟩, h191⟩
   replace h191 := nf h191
   refine Zn [6] rfl ?_
   have h192 := Zc h191 []
   replace h192 := nf h192
   refine J.ret ?_
   cases H
   exact ⟨_, _, _, Za, ⟨rfl, rfl⟩, Zc h192 []⟩
  refine Zn [6] rfl ?_
  have h193 := Zc h190 []
  replace h193 := nf h193
  refine J.ret ?_
  cases H
  exact ⟨_, _, _, Za, ⟨rfl, rfl⟩, Zc h193 []⟩
 refine Zn [6] rfl ?_
 have h194 := Zc h189 []
 replace h194 := nf h194
 refine J.ret ?_
 cases H
 exact ⟨_, _, _, Za, ⟨rfl, rfl⟩, Zc h194 []⟩

end Go.SK.T
