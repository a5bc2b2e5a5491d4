/- The functions, further. -/
import Derived.Test.YtoemkinhdomnpaaXCacheReadsF0
set_option linter.unusedVariables false
set_option linter.unusedSimpArgs false
set_option maxRecDepth 20000
set_option maxHeartbeats 40000000
namespace Go.SK.T
open Go Go.SK Go.Proofs
mutual
def Q46.l0 : Nat → (Int) → (List (Int)) → (Int) → (Int) → Option (Int × Bool × List (Int))
 | 0, _, _, _, _ => none
 | k + 1, a1, x9, x10, x11 => Q46.l2 k a1 x9 x11 x10
def Q46.l1 : Nat → (Int) → (List (Int)) → (Int) → (Int) → Option (Int × Bool × List (Int))
 | 0, _, _, _, _ => none
 | k + 1, a1, x9, x12, x16 => if (decide (x12 ≤ x16)) = true then (if 0 ≤ x16 ∧ x16 < (x9.length : Int) then (if 0 ≤ a1 ∧ a1 < (x9.length : Int) then ((Q23.f (gt x9 x16) (gt x9 a1)).bind fun r1 => (if (!r1) = true then (Q46.l1 k a1 x9 x12 (w64 (x16 - 1))) else (if (decide (x16 < x12)) = true then (if 0 ≤ a1 ∧ a1 < (x9.length : Int) then (if 0 ≤ x16 ∧ x16 < (x9.length : Int) then (some (x16, false, ((x9.set x16.toNat (gt x9 a1)).set a1.toNat (gt x9 x16)))) else none) else none) else (if 0 ≤ x16 ∧ x16 < (x9.length : Int) then (if 0 ≤ x12 ∧ x12 < (x9.length : Int) then (Q46.l0 k a1 ((x9.set x12.toNat (gt x9 x16)).set x16.toNat (gt x9 x12)) (w64 (x12 + 1)) (w64 (x16 - 1))) else none) else none)))) else none) else none) else (if (decide (x16 < x12)) = true then (if 0 ≤ a1 ∧ a1 < (x9.length : Int) then (if 0 ≤ x16 ∧ x16 < (x9.length : Int) then (some (x16, false, ((x9.set x16.toNat (gt x9 a1)).set a1.toNat (gt x9 x16)))) else none) else none) else (if 0 ≤ x16 ∧ x16 < (x9.length : Int) then (if 0 ≤ x12 ∧ x12 < (x9.length : Int) then (Q46.l0 k a1 ((x9.set x12.toNat (gt x9 x16)).set x16.toNat (gt x9 x12)) (w64 (x12 + 1)) (w64 (x16 - 1))) else none) else none))
def Q46.l2 : Nat → (Int) → (List (Int)) → (Int) → (Int) → Option (Int × Bool × List (Int))
 | 0, _, _, _, _ => none
 | k + 1, a1, x9, x11, x17 => if (decide (x17 ≤ x11)) = true then (if 0 ≤ x17 ∧ x17 < (x9.length : Int) then (if 0 ≤ a1 ∧ a1 < (x9.length : Int) then ((Q23.f (gt x9 x17) (gt x9 a1)).bind fun r2 => (if r2 = true then (Q46.l2 k a1 x9 x11 (w64 (x17 + 1))) else (Q46.l1 k a1 x9 x17 x11))) else none) else none) else (Q46.l1 k a1 x9 x17 x11)
end
def Q46.l3 : Nat → (List (Int)) → (Int) → (Int) → (Int) → (Int) → Option (Int × Bool × List (Int))
 | 0, _, _, _, _, _ => none
 | k + 1, a0, a1, a3, x1, x18 => if (decide (x1 ≤ x18)) = true then (if 0 ≤ x18 ∧ x18 < (((a0.set a1.toNat (gt a0 a3)).set a3.toNat (gt a0 a1)).length : Int) then (if 0 ≤ a1 ∧ a1 < (((a0.set a1.toNat (gt a0 a3)).set a3.toNat (gt a0 a1)).length : Int) then ((Q23.f (gt ((a0.set a1.toNat (gt a0 a3)).set a3.toNat (gt a0 a1)) x18) (gt ((a0.set a1.toNat (gt a0 a3)).set a3.toNat (gt a0 a1)) a1)).bind fun r3 => (if (!r3) = true then (Q46.l3 k a0 a1 a3 x1 (w64 (x18 - 1))) else (if (decide (x18 < x1)) = true then (if 0 ≤ a1 ∧ a1 < (((a0.set a1.toNat (gt a0 a3)).set a3.toNat (gt a0 a1)).length : Int) then (if 0 ≤ x18 ∧ x18 < (((a0.set a1.toNat (gt a0 a3)).set a3.toNat (gt a0 a1)).length : Int) then (some (x18, true, ((((a0.set a1.toNat (gt a0 a3)).set a3.toNat (gt a0 a1)).set x18.toNat (gt ((a0.set a1.toNat (gt a0 a3)).set a3.toNat (gt a0 a1)) a1)).set a1.toNat (gt ((a0.set a1.toNat (gt a0 a3)).set a3.toNat (gt a0 a1)) x18)))) else none) else none) else (if 0 ≤ x18 ∧ x18 < (((a0.set a1.toNat (gt a0 a3)).set a3.toNat (gt a0 a1)).length : Int) then (if 0 ≤ x1 ∧ x1 < (((a0.set a1.toNat (gt a0 a3)).set a3.toNat (gt a0 a1)).length : Int) then (Q46.l0 k a1 ((((a0.set a1.toNat (gt a0 a3)).set a3.toNat (gt a0 a1)).set x1.toNat (gt ((a0.set a1.toNat (gt a0 a3)).set a3.toNat (gt a0 a1)) x18)).set x18.toNat (gt ((a0.set a1.toNat (gt a0 a3)).set a3.toNat (gt a0 a1)) x1)) (w64 (x1 + 1)) (w64 (x18 - 1))) else none) else none)))) else none) else none) else (if (decide (x18 < x1)) = true then (if 0 ≤ a1 ∧ a1 < (((a0.set a1.toNat (gt a0 a3)).set a3.toNat (gt a0 a1)).length : Int) then (if 0 ≤ x18 ∧ x18 < (((a0.set a1.toNat (gt a0 a3)).set a3.toNat (gt a0 a1)).length : Int) then (some (x18, true, ((((a0.set a1.toNat (gt a0 a3)).set a3.toNat (gt a0 a1)).set x18.toNat (gt ((a0.set a1.toNat (gt a0 a3)).set a3.toNat (gt a0 a1)) a1)).set a1.toNat (gt ((a0.set a1.toNat (gt a0 a3)).set a3.toNat (gt a0 a1)) x18)))) else none) else none) else (if 0 ≤ x18 ∧ x18 < (((a0.set a1.toNat (gt a0 a3)).set a3.toNat (gt a0 a1)).length : Int) then (if 0 ≤ x1 ∧ x1 < (((a0.set a1.toNat (gt a0 a3)).set a3.toNat (gt a0 a1)).length : Int) then (Q46.l0 k a1 ((((a0.set a1.toNat (gt a0 a3)).set a3.toNat (gt a0 a1)).set x1.toNat (gt ((a0.set a1.toNat (gt a0 a3)).set a3.toNat (gt a0 a1)) x18)).set x18.toNat (gt ((a0.set a1.toNat (gt a0 a3)).set a3.toNat (gt a0 a1)) x1)) (w64 (x1 + 1)) (w64 (x18 - 1))) else none) else none))
def Q46.l4 : Nat → (List (Int)) → (Int) → (Int) → (Int) → (Int) → Option (Int × Bool × List (Int))
 | 0, _, _, _, _, _ => none
 | k + 1, a0, a1, a2, a3, x19 => if (decide (x19 ≤ (w64 (a2 - 1)))) = true then (if 0 ≤ x19 ∧ x19 < (((a0.set a1.toNat (gt a0 a3)).set a3.toNat (gt a0 a1)).length : Int) then (if 0 ≤ a1 ∧ a1 < (((a0.set a1.toNat (gt a0 a3)).set a3.toNat (gt a0 a1)).length : Int) then ((Q23.f (gt ((a0.set a1.toNat (gt a0 a3)).set a3.toNat (gt a0 a1)) x19) (gt ((a0.set a1.toNat (gt a0 a3)).set a3.toNat (gt a0 a1)) a1)).bind fun r4 => (if r4 = true then (Q46.l4 k a0 a1 a2 a3 (w64 (x19 + 1))) else (Q46.l3 k a0 a1 a3 x19 (w64 (a2 - 1))))) else none) else none) else (Q46.l3 k a0 a1 a3 x19 (w64 (a2 - 1)))
def Q46.f (k : Nat) (a0 : List (Int)) (a1 : Int) (a2 : Int) (a3 : Int) : Option (Int × Bool × List (Int)) := if 0 ≤ a3 ∧ a3 < (a0.length : Int) then (if 0 ≤ a1 ∧ a1 < (a0.length : Int) then (Q46.l4 k a0 a1 a2 a3 (w64 (a1 + 1))) else none) else none
theorem Q46.spec {k : Nat} {a0 : List (Int)} {a1 : Int} {a2 : Int} {a3 : Int} {A1 : Option Addr} {c_1 : Nat} {r : Int × Bool × List (Int)} (H : Q46.f k a0 a1 a2 a3 = some r) :
  Spec Try.prog 176 [.slice A1 a0.length c_1, .int .i64 a1, .int .i64 a2, .int .i64 a3] [O23 a0 A1 c_1] [] (fun v l => v = .tuple #[.int .i64 r.1, .bool r.2.1] ∧ l = [O23 r.2.2 A1 c_1] ∧ r.2.2.length = a0.length) := by
 refine Zs Try.func176 fun w0 F0 h0 => ?_
 unfold Q46.f at H
 refine J.seq (Zb [0, 1, 2, 3] ?_)
 refine J.seq ?_
 obtain ⟨⟨p1, p2⟩, H⟩ := Zo H
 obtain ⟨⟨p3, p4⟩, H⟩ := Zo H
 refine J.midS (fun env w => env = [(0, .slice A1 ((a0.set a1.toNat (gt a0 a3)).set a3.toNat (gt a0 a1)).length c_1), (1, .int .i64 a1), (2, .int .i64 a2)] ∧ St w0 F0 [O23 ((a0.set a1.toNat (gt a0 a3)).set a3.toNat (gt a0 a1)) A1 c_1] [] w) ?_ ?_
 ·refine Zr (Zc h0 []) ?_
  have h3 := h0.drew
  refine Zv [0, 1, 2, 3, 4, 5, 8, 9] ?_
  have e4 := Z3 h3.wh (gO 0) p1 p2
  refine Ze 6 rfl (Zf e4 p1 p2) ?_
  refine Ze 10 rfl (Zf e4 p3 p4) ?_
  refine HJ.pick [7, 11] (i := 7) rfl rfl rfl rfl ?_
  refine (Z7 ?_ (Z7 ?_ Y4))
  ·refine Z1 7 rfl (OpT.ofq (Zg 0 h3.wht (gO 0) p1 p2)) ?_
   rintro _ _ ⟨rfl, rfl⟩
   replace h3 := nf h3
   refine ⟨⟨[_], h3⟩, ?_⟩
   refine Zl 11 rfl (OpT.ofq (Zg 0 h3.wht (gO 0) p3 p4)) ?_
   rintro _ _ ⟨rfl, rfl⟩
   replace h3 := nf h3
   refine ⟨⟨[_], h3⟩, ?_⟩
   refine Ze 12 rfl (Zf e4 p3 p4) ?_
   refine Zl 13 rfl (Zj 0 (.int .u32) a1 (gt a0 a3) 0 h3 rfl p3 p4) ?_
   intro _ w3 h4
   replace h4 := nf h4
   refine ⟨⟨[_], h4⟩, ?_⟩
   have e5 : (a0.set a1.toNat (gt a0 a3)).length = a0.length := List.length_set.trans (rfl : a0.length = a0.length)
   refine Ze 14 rfl (Zf e4 p1 p2) ?_
   refine Zl 15 rfl (Zj 0 (.int .u32) a3 (gt a0 a1) 0 h4 rfl p1 (by simpa only [List.length_set] using p2)) ?_
   intro _ w4 h5
   replace h5 := nf h5
   refine ⟨⟨[_], h5⟩, ?_⟩
   have e6 : ((a0.set a1.toNat (gt a0 a3)).set a3.toNat (gt a0 a1)).length = a0.length := List.length_set.trans e5
   refine Zy [0, 1, 2] ?_
   exact Zw ⟨(by simp only [List.length_set, List.length_nil] <;> rfl), ((h5.only [0] rfl).rds [] rfl)⟩
  ·refine Z1 11 rfl (OpT.ofq (Zg 0 h3.wht (gO 0) p3 p4)) ?_
   rintro _ _ ⟨rfl, rfl⟩
   replace h3 := nf h3
   refine ⟨⟨[_], h3⟩, ?_⟩
   refine Zl 7 rfl (OpT.ofq (Zg 0 h3.wht (gO 0) p1 p2)) ?_
   rintro _ _ ⟨rfl, rfl⟩
   replace h3 := nf h3
   refine ⟨⟨[_], h3⟩, ?_⟩
   refine Ze 12 rfl (Zf e4 p3 p4) ?_
   refine Zl 13 rfl (Zj 0 (.int .u32) a1 (gt a0 a3) 0 h3 rfl p3 p4) ?_
   intro _ w5 h6
   replace h6 := nf h6
   refine ⟨⟨[_], h6⟩, ?_⟩
   have e7 : (a0.set a1.toNat (gt a0 a3)).length = a0.length := List.length_set.trans (rfl : a0.length = a0.length)
   refine Ze 14 rfl (Zf e4 p1 p2) ?_
   refine Zl 15 rfl (Zj 0 (.int .u32) a3 (gt a0 a1) 0 h6 rfl p1 (by simpa only [List.length_set] using p2)) ?_
   intro _ w6 h7
   replace h7 := nf h7
   refine ⟨⟨[_], h7⟩, ?_⟩
   have e8 : ((a0.set a1.toNat (gt a0 a3)).set a3.toNat (gt a0 a1)).length = a0.length := List.length_set.trans e7
   refine Zy [0, 1, 2] ?_
   exact Zw ⟨(by simp only [List.length_set, List.length_nil] <;> rfl), ((h7.only [0] rfl).rds [] rfl)⟩
 rintro env w7 ⟨rfl, h8⟩
 have e9 : ((a0.set a1.toNat (gt a0 a3)).set a3.toNat (gt a0 a1)).length = a0.length := by first | (simp only [List.length_set]; done) | (simp only [List.length_set]; exact (rfl : a0.length = a0.length))
 refine J.seq (Zb [0, 1, 10, 11] ?_)
 refine J.seq (J.midS (fun env w => ∃ (k1 : Nat) (x1 : Int) (x2 : Bool), env = [(0, .slice A1 ((a0.set a1.toNat (gt a0 a3)).set a3.toNat (gt a0 a1)).length c_1), (1, .int .i64 a1), (10, .int .i64 x1), (11, .int .i64 (w64 (a2 - 1))), (43, .bool x2)] ∧ St w0 F0 [O23 ((a0.set a1.toNat (gt a0 a3)).set a3.toNat (gt a0 a1)) A1 c_1] [] w ∧ (Q46.l3 k1 a0 a1 a3 x1 (w64 (a2 - 1))) = some r ∧ k1 ≤ k) ?_ ?_)
 ·refine J.block ?_
  have h77 := (sOR h8 [0] [])
  refine J.loop (fun kk env w => ∃ (x19 : Int), env = [(0, .slice A1 ((a0.set a1.toNat (gt a0 a3)).set a3.toNat (gt a0 a1)).length c_1), (1, .int .i64 a1), (10, .int .i64 x19), (11, .int .i64 (w64 (a2 - 1)))] ∧ St w0 F0 [O23 ((a0.set a1.toNat (gt a0 a3)).set a3.toNat (gt a0 a1)) A1 c_1] [] w ∧ Q46.l4 kk a0 a1 a2 a3 x19 = some r ∧ kk ≤ k) (k := k) ⟨(w64 (a1 + 1)), rfl, h77, H, Nat.le_refl _⟩ ?_
  rintro k10 env w53 ⟨x19, rfl, h71, H, hk10⟩
  rcases k10 with _ | k10
  ·exact z0 H
  rw [Q46.l4] at H
  refine J.seq (J.seq ?_)
  refine Zr h71 ?_
  have h72 := h71.drew
  refine Zv [0, 1, 2, 3] ?_
  refine Xz 33 H (fun c9 H => ?_) fun c9 H => ?_
  ·refine Zv [4, 5, 8, 9] ?_
   obtain ⟨⟨p33, p34⟩, H⟩ := Zo H
   have e51 := Z3 h72.wh (gO 0) p33 p34
   refine Ze 6 rfl (Zf e51 p33 p34) ?_
   refine Ze 7 rfl (Zg 0 wI (gO 0) p33 p34) ?_
   obtain ⟨⟨p35, p36⟩, H⟩ := Zo H
   refine Ze 10 rfl (Zf e51 p35 p36) ?_
   refine Ze 11 rfl (Zg 0 wI (gO 0) p35 p36) ?_
   obtain ⟨r4, q4, H⟩ := Zp H
   refine Zl 12 rfl (Zi [] (Q23.spec q4) h72 rfl Zt) ?_
   rintro _ w54 ⟨_, ⟨rfl, rfl⟩, h73⟩
   replace h73 := nf h73
   refine ⟨⟨[], h73⟩, ?_⟩
   refine Zv [13] ?_
   refine Zy [0, 1, 10, 11, 43] ?_
   refine jIf H (fun c10 H => ?_) fun c10 H => ?_
   ·refine J.skip (J.block (Zb [0, 1, 10, 11] ?_))
    have h74 := (sOR h73 [0] [])
    exact ⟨k10, by omega, (w64 (x19 + 1)), rfl, h74, H, by omega⟩
   refine J.exit ?_
   have h75 := (sOR h73 [0] [])
   exact ⟨k10, x19, r4, rfl, h75, H, by omega⟩
  refine Zv [4, 5, 6, 7, 8, 9, 10, 11, 12, 13] ?_
  refine Zy [0, 1, 10, 11, 43] ?_
  refine Zz ?_
  refine J.exit ?_
  have h76 := (sOR h72 [0] [])
  exact ⟨k10, x19, false, rfl, h76, H, by omega⟩
 rintro env w9 ⟨k1, x1, x2, rfl, h9, H, hk1⟩
 refine J.seq (J.midS (fun env w => ∃ (k2 : Nat) (x3 : Int) (x4 : Bool), env = [(0, .slice A1 ((a0.set a1.toNat (gt a0 a3)).set a3.toNat (gt a0 a1)).length c_1), (1, .int .i64 a1), (10, .int .i64 x1), (11, .int .i64 x3), (60, .bool x4)] ∧ St w0 F0 [O23 ((a0.set a1.toNat (gt a0 a3)).set a3.toNat (gt a0 a1)) A1 c_1] [] w ∧ (if (decide (x3 < x1)) = true then (if 0 ≤ a1 ∧ a1 < (((a0.set a1.toNat (gt a0 a3)).set a3.toNat (gt a0 a1)).length : Int) then (if 0 ≤ x3 ∧ x3 < (((a0.set a1.toNat (gt a0 a3)).set a3.toNat (gt a0 a1)).length : Int) then (some (x3, true, ((((a0.set a1.toNat (gt a0 a3)).set a3.toNat (gt a0 a1)).set x3.toNat (gt ((a0.set a1.toNat (gt a0 a3)).set a3.toNat (gt a0 a1)) a1)).set a1.toNat (gt ((a0.set a1.toNat (gt a0 a3)).set a3.toNat (gt a0 a1)) x3)))) else none) else none) else (if 0 ≤ x3 ∧ x3 < (((a0.set a1.toNat (gt a0 a3)).set a3.toNat (gt a0 a1)).length : Int) then (if 0 ≤ x1 ∧ x1 < (((a0.set a1.toNat (gt a0 a3)).set a3.toNat (gt a0 a1)).length : Int) then (Q46.l0 k2 a1 ((((a0.set a1.toNat (gt a0 a3)).set a3.toNat (gt a0 a1)).set x1.toNat (gt ((a0.set a1.toNat (gt a0 a3)).set a3.toNat (gt a0 a1)) x3)).set x3.toNat (gt ((a0.set a1.toNat (gt a0 a3)).set a3.toNat (gt a0 a1)) x1)) (w64 (x1 + 1)) (w64 (x3 - 1))) else none) else none)) = some r ∧ k2 ≤ k1) ?_ ?_)
 ·refine J.block (Wn [0, 1, 10, 11] ?_)
  have h70 := (sOR h9 [0] [])
  refine J.loop (fun kk env w => ∃ (x18 : Int), env = [(0, .slice A1 ((a0.set a1.toNat (gt a0 a3)).set a3.toNat (gt a0 a1)).length c_1), (1, .int .i64 a1), (10, .int .i64 x1), (11, .int .i64 x18)] ∧ St w0 F0 [O23 ((a0.set a1.toNat (gt a0 a3)).set a3.toNat (gt a0 a1)) A1 c_1] [] w ∧ Q46.l3 kk a0 a1 a3 x1 x18 = some r ∧ kk ≤ k1) (k := k1) ⟨(w64 (a2 - 1)), rfl, h70, H, Nat.le_refl _⟩ ?_
  rintro k9 env w51 ⟨x18, rfl, h64, H, hk9⟩
  rcases k9 with _ | k9
  ·exact z0 H
  rw [Q46.l3] at H
  refine J.seq (J.seq ?_)
  refine Zr h64 ?_
  have h65 := h64.drew
  refine Zv [0, 1, 2, 3] ?_
  refine Xz 49 H (fun c7 H => ?_) fun c7 H => ?_
  ·refine Zv [4, 5, 8, 9] ?_
   obtain ⟨⟨p29, p30⟩, H⟩ := Zo H
   have e50 := Z3 h65.wh (gO 0) p29 p30
   refine Ze 6 rfl (Zf e50 p29 p30) ?_
   refine Ze 7 rfl (Zg 0 wI (gO 0) p29 p30) ?_
   obtain ⟨⟨p31, p32⟩, H⟩ := Zo H
   refine Ze 10 rfl (Zf e50 p31 p32) ?_
   refine Ze 11 rfl (Zg 0 wI (gO 0) p31 p32) ?_
   obtain ⟨r3, q3, H⟩ := Zp H
   refine Zl 12 rfl (Zi [] (Q23.spec q3) h65 rfl Zt) ?_
   rintro _ w52 ⟨_, ⟨rfl, rfl⟩, h66⟩
   replace h66 := nf h66
   refine ⟨⟨[], h66⟩, ?_⟩
   refine Zv [13, 14] ?_
   refine Zy [0, 1, 10, 11, 60] ?_
   refine jIf H (fun c8 H => ?_) fun c8 H => ?_
   ·refine J.skip (J.block (Zb [0, 1, 10, 11] ?_))
    have h67 := (sOR h66 [0] [])
    exact ⟨k9, by omega, (w64 (x18 - 1)), rfl, h67, H, by omega⟩
   refine J.exit ?_
   have h68 := (sOR h66 [0] [])
   exact ⟨k9, x18, (!r3), rfl, h68, H, by omega⟩
  refine Zv [4, 5, 6, 7, 8, 9, 10, 11, 12, 13, 14] ?_
  refine Zy [0, 1, 10, 11, 60] ?_
  refine Zz ?_
  refine J.exit ?_
  have h69 := (sOR h65 [0] [])
  exact ⟨k9, x18, false, rfl, h69, H, by omega⟩
 rintro env w11 ⟨k2, x3, x4, rfl, h10, H, hk2⟩
 refine J.seq (J.seq (Zb [0, 1, 10, 11, 65] ?_))
 refine jIf H (fun c1 H => ?_) fun c1 H => ?_
 ·refine J.seq ?_
  obtain ⟨⟨p5, p6⟩, H⟩ := Zo H
  obtain ⟨⟨p7, p8⟩, H⟩ := Zo H
  refine J.midS (fun env w => env = [(11, .int .i64 x3)] ∧ St w0 F0 [O23 ((((a0.set a1.toNat (gt a0 a3)).set a3.toNat (gt a0 a1)).set x3.toNat (gt ((a0.set a1.toNat (gt a0 a3)).set a3.toNat (gt a0 a1)) a1)).set a1.toNat (gt ((a0.set a1.toNat (gt a0 a3)).set a3.toNat (gt a0 a1)) x3)) A1 c_1] [] w) ?_ ?_
  ·refine Zr (Zc h10 []) ?_
   have h13 := h10.drew
   refine Zv [0, 1, 2, 3, 4, 5, 8, 9] ?_
   have e13 := Z3 h13.wh (gO 0) p5 p6
   refine Ze 6 rfl (Zf e13 p5 p6) ?_
   refine Ze 10 rfl (Zf e13 p7 p8) ?_
   refine HJ.pick [7, 11] (i := 7) rfl rfl rfl rfl ?_
   refine (Z7 ?_ (Z7 ?_ Y4))
   ·refine Z1 7 rfl (OpT.ofq (Zg 0 h13.wht (gO 0) p5 p6)) ?_
    rintro _ _ ⟨rfl, rfl⟩
    replace h13 := nf h13
    refine ⟨⟨[_], h13⟩, ?_⟩
    refine Zl 11 rfl (OpT.ofq (Zg 0 h13.wht (gO 0) p7 p8)) ?_
    rintro _ _ ⟨rfl, rfl⟩
    replace h13 := nf h13
    refine ⟨⟨[_], h13⟩, ?_⟩
    refine Ze 12 rfl (Zf e13 p7 p8) ?_
    refine Zl 13 rfl (Zj 0 (.int .u32) x3 (gt ((a0.set a1.toNat (gt a0 a3)).set a3.toNat (gt a0 a1)) a1) 0 h13 rfl p7 p8) ?_
    intro _ w14 h14
    replace h14 := nf h14
    refine ⟨⟨[_], h14⟩, ?_⟩
    have e14 : (((a0.set a1.toNat (gt a0 a3)).set a3.toNat (gt a0 a1)).set x3.toNat (gt ((a0.set a1.toNat (gt a0 a3)).set a3.toNat (gt a0 a1)) a1)).length = a0.length := List.length_set.trans e9
    refine Ze 14 rfl (Zf e13 p5 p6) ?_
    refine Zl 15 rfl (Zj 0 (.int .u32) a1 (gt ((a0.set a1.toNat (gt a0 a3)).set a3.toNat (gt a0 a1)) x3) 0 h14 rfl p5 (by simpa only [List.length_set] using p6)) ?_
    intro _ w15 h15
    replace h15 := nf h15
    refine ⟨⟨[_], h15⟩, ?_⟩
    have e15 : ((((a0.set a1.toNat (gt a0 a3)).set a3.toNat (gt a0 a1)).set x3.toNat (gt ((a0.set a1.toNat (gt a0 a3)).set a3.toNat (gt a0 a1)) a1)).set a1.toNat (gt ((a0.set a1.toNat (gt a0 a3)).set a3.toNat (gt a0 a1)) x3)).length = a0.length := List.length_set.trans e14
    refine Zy [11] ?_
    exact Zw ⟨(by simp only [List.length_set, List.length_nil] <;> rfl), ((h15.only [0] rfl).rds [] rfl)⟩
   ·refine Z1 11 rfl (OpT.ofq (Zg 0 h13.wht (gO 0) p7 p8)) ?_
    rintro _ _ ⟨rfl, rfl⟩
    replace h13 := nf h13
    refine ⟨⟨[_], h13⟩, ?_⟩
    refine Zl 7 rfl (OpT.ofq (Zg 0 h13.wht (gO 0) p5 p6)) ?_
    rintro _ _ ⟨rfl, rfl⟩
    replace h13 := nf h13
    refine ⟨⟨[_], h13⟩, ?_⟩
    refine Ze 12 rfl (Zf e13 p7 p8) ?_
    refine Zl 13 rfl (Zj 0 (.int .u32) x3 (gt ((a0.set a1.toNat (gt a0 a3)).set a3.toNat (gt a0 a1)) a1) 0 h13 rfl p7 p8) ?_
    intro _ w16 h16
    replace h16 := nf h16
    refine ⟨⟨[_], h16⟩, ?_⟩
    have e16 : (((a0.set a1.toNat (gt a0 a3)).set a3.toNat (gt a0 a1)).set x3.toNat (gt ((a0.set a1.toNat (gt a0 a3)).set a3.toNat (gt a0 a1)) a1)).length = a0.length := List.length_set.trans e9
    refine Ze 14 rfl (Zf e13 p5 p6) ?_
    refine Zl 15 rfl (Zj 0 (.int .u32) a1 (gt ((a0.set a1.toNat (gt a0 a3)).set a3.toNat (gt a0 a1)) x3) 0 h16 rfl p5 (by simpa only [List.length_set] using p6)) ?_
    intro _ w17 h17
    replace h17 := nf h17
    refine ⟨⟨[_], h17⟩, ?_⟩
    have e17 : ((((a0.set a1.toNat (gt a0 a3)).set a3.toNat (gt a0 a1)).set x3.toNat (gt ((a0.set a1.toNat (gt a0 a3)).set a3.toNat (gt a0 a1)) a1)).set a1.toNat (gt ((a0.set a1.toNat (gt a0 a3)).set a3.toNat (gt a0 a1)) x3)).length = a0.length := List.length_set.trans e16
    refine Zy [11] ?_
    exact Zw ⟨(by simp only [List.length_set, List.length_nil] <;> rfl), ((h17.only [0] rfl).rds [] rfl)⟩
  rintro env w18 ⟨rfl, h18⟩
  have e18 : ((((a0.set a1.toNat (gt a0 a3)).set a3.toNat (gt a0 a1)).set x3.toNat (gt ((a0.set a1.toNat (gt a0 a3)).set a3.toNat (gt a0 a1)) a1)).set a1.toNat (gt ((a0.set a1.toNat (gt a0 a3)).set a3.toNat (gt a0 a1)) x3)).length = a0.length := by first | (simp only [List.length_set]; done) | (simp only [List.length_set]; exact e9)
  refine J.seq (Zb [8, 9] ?_)
  refine J.ret ?_
  cases H
  exact ⟨_, _, _, Za, ⟨rfl, rfl, e18⟩, Zc h18 [0]⟩
 refine J.skip (J.seq ?_)
 obtain ⟨⟨p9, p10⟩, H⟩ := Zo H
 obtain ⟨⟨p11, p12⟩, H⟩ := Zo H
 refine J.midS (fun env w => env = [(0, .slice A1 ((((a0.set a1.toNat (gt a0 a3)).set a3.toNat (gt a0 a1)).set x1.toNat (gt ((a0.set a1.toNat (gt a0 a3)).set a3.toNat (gt a0 a1)) x3)).set x3.toNat (gt ((a0.set a1.toNat (gt a0 a3)).set a3.toNat (gt a0 a1)) x1)).length c_1), (1, .int .i64 a1), (10, .int .i64 x1), (11, .int .i64 x3)] ∧ St w0 F0 [O23 ((((a0.set a1.toNat (gt a0 a3)).set a3.toNat (gt a0 a1)).set x1.toNat (gt ((a0.set a1.toNat (gt a0 a3)).set a3.toNat (gt a0 a1)) x3)).set x3.toNat (gt ((a0.set a1.toNat (gt a0 a3)).set a3.toNat (gt a0 a1)) x1)) A1 c_1] [] w) ?_ ?_
 ·refine Zr (Zc h10 []) ?_
  have h21 := h10.drew
  refine Zv [0, 1, 2, 3, 4, 5, 8, 9] ?_
  have e22 := Z3 h21.wh (gO 0) p9 p10
  refine Ze 6 rfl (Zf e22 p9 p10) ?_
  refine Ze 10 rfl (Zf e22 p11 p12) ?_
  refine HJ.pick [7, 11] (i := 7) rfl rfl rfl rfl ?_
  refine (Z7 ?_ (Z7 ?_ Y4))
  ·refine Z1 7 rfl (OpT.ofq (Zg 0 h21.wht (gO 0) p9 p10)) ?_
   rintro _ _ ⟨rfl, rfl⟩
   replace h21 := nf h21
   refine ⟨⟨[_], h21⟩, ?_⟩
   refine Zl 11 rfl (OpT.ofq (Zg 0 h21.wht (gO 0) p11 p12)) ?_
   rintro _ _ ⟨rfl, rfl⟩
   replace h21 := nf h21
   refine ⟨⟨[_], h21⟩, ?_⟩
   refine Ze 12 rfl (Zf e22 p11 p12) ?_
   refine Zl 13 rfl (Zj 0 (.int .u32) x1 (gt ((a0.set a1.toNat (gt a0 a3)).set a3.toNat (gt a0 a1)) x3) 0 h21 rfl p11 p12) ?_
   intro _ w21 h22
   replace h22 := nf h22
   refine ⟨⟨[_], h22⟩, ?_⟩
   have e23 : (((a0.set a1.toNat (gt a0 a3)).set a3.toNat (gt a0 a1)).set x1.toNat (gt ((a0.set a1.toNat (gt a0 a3)).set a3.toNat (gt a0 a1)) x3)).length = a0.length := List.length_set.trans e9
   refine Ze 14 rfl (Zf e22 p9 p10) ?_
   refine Zl 15 rfl (Zj 0 (.int .u32) x3 (gt ((a0.set a1.toNat (gt a0 a3)).set a3.toNat (gt a0 a1)) x1) 0 h22 rfl p9 (by simpa only [List.length_set] using p10)) ?_
   intro _ w22 h23
   replace h23 := nf h23
   refine ⟨⟨[_], h23⟩, ?_⟩
   have e24 : ((((a0.set a1.toNat (gt a0 a3)).set a3.toNat (gt a0 a1)).set x1.toNat (gt ((a0.set a1.toNat (gt a0 a3)).set a3.toNat (gt a0 a1)) x3)).set x3.toNat (gt ((a0.set a1.toNat (gt a0 a3)).set a3.toNat (gt a0 a1)) x1)).length = a0.length := List.length_set.trans e23
   refine Zy [0, 1, 10, 11] ?_
   exact Zw ⟨(by simp only [List.length_set, List.length_nil] <;> rfl), ((h23.only [0] rfl).rds [] rfl)⟩
  ·refine Z1 11 rfl (OpT.ofq (Zg 0 h21.wht (gO 0) p11 p12)) ?_
   rintro _ _ ⟨rfl, rfl⟩
   replace h21 := nf h21
   refine ⟨⟨[_], h21⟩, ?_⟩
   refine Zl 7 rfl (OpT.ofq (Zg 0 h21.wht (gO 0) p9 p10)) ?_
   rintro _ _ ⟨rfl, rfl⟩
   replace h21 := nf h21
   refine ⟨⟨[_], h21⟩, ?_⟩
   refine Ze 12 rfl (Zf e22 p11 p12) ?_
   refine Zl 13 rfl (Zj 0 (.int .u32) x1 (gt ((a0.set a1.toNat (gt a0 a3)).set a3.toNat (gt a0 a1)) x3) 0 h21 rfl p11 p12) ?_
   intro _ w23 h24
   replace h24 := nf h24
   refine ⟨⟨[_], h24⟩, ?_⟩
   have e25 : (((a0.set a1.toNat (gt a0 a3)).set a3.toNat (gt a0 a1)).set x1.toNat (gt ((a0.set a1.toNat (gt a0 a3)).set a3.toNat (gt a0 a1)) x3)).length = a0.length := List.length_set.trans e9
   refine Ze 14 rfl (Zf e22 p9 p10) ?_
   refine Zl 15 rfl (Zj 0 (.int .u32) x3 (gt ((a0.set a1.toNat (gt a0 a3)).set a3.toNat (gt a0 a1)) x1) 0 h24 rfl p9 (by simpa only [List.length_set] using p10)) ?_
   intro _ w24 h25
   replace h25 := nf h25
   refine ⟨⟨[_], h25⟩, ?_⟩
   have e26 : ((((a0.set a1.toNat (gt a0 a3)).set a3.toNat (gt a0 a1)).set x1.toNat (gt ((a0.set a1.toNat (gt a0 a3)).set a3.toNat (gt a0 a1)) x3)).set x3.toNat (gt ((a0.set a1.toNat (gt a0 a3)).set a3.toNat (gt a0 a1)) x1)).length = a0.length := List.length_set.trans e25
   refine Zy [0, 1, 10, 11] ?_
   exact Zw ⟨(by simp only [List.length_set, List.length_nil] <;> rfl), ((h25.only [0] rfl).rds [] rfl)⟩
 rintro env w25 ⟨rfl, h26⟩
 have e27 : ((((a0.set a1.toNat (gt a0 a3)).set a3.toNat (gt a0 a1)).set x1.toNat (gt ((a0.set a1.toNat (gt a0 a3)).set a3.toNat (gt a0 a1)) x3)).set x3.toNat (gt ((a0.set a1.toNat (gt a0 a3)).set a3.toNat (gt a0 a1)) x1)).length = a0.length := by first | (simp only [List.length_set]; done) | (simp only [List.length_set]; exact e9)
 refine J.seq (Zb [0, 1, 10, 11] ?_)
 refine J.seq (Zb [0, 1, 10, 11] ?_)
 refine J.seq (J.midS (fun env w => ∃ (x5 : List (Int)) (x6 : Int) (x7 : Int) (x8 : Bool), env = [(0, .slice A1 x5.length c_1), (1, .int .i64 a1), (10, .int .i64 x6), (11, .int .i64 x7), (134, .bool x8)] ∧ St w0 F0 [O23 x5 A1 c_1] [] w ∧ (if 0 ≤ a1 ∧ a1 < (x5.length : Int) then (if 0 ≤ x7 ∧ x7 < (x5.length : Int) then (some (x7, false, ((x5.set x7.toNat (gt x5 a1)).set a1.toNat (gt x5 x7)))) else none) else none) = some r ∧ x5.length = a0.length) ?_ ?_)
 ·refine J.block ?_
  have h63 := (sOR h26 [0] [])
  refine J.loop (fun kk env w => ∃ (x9 : List (Int)) (x10 : Int) (x11 : Int), env = [(0, .slice A1 x9.length c_1), (1, .int .i64 a1), (10, .int .i64 x10), (11, .int .i64 x11)] ∧ St w0 F0 [O23 x9 A1 c_1] [] w ∧ Q46.l0 kk a1 x9 x10 x11 = some r ∧ kk ≤ k2 ∧ x9.length = a0.length) (k := k2) ⟨((((a0.set a1.toNat (gt a0 a3)).set a3.toNat (gt a0 a1)).set x1.toNat (gt ((a0.set a1.toNat (gt a0 a3)).set a3.toNat (gt a0 a1)) x3)).set x3.toNat (gt ((a0.set a1.toNat (gt a0 a3)).set a3.toNat (gt a0 a1)) x1)), (w64 (x1 + 1)), (w64 (x3 - 1)), rfl, h63, H, Nat.le_refl _, e27⟩ ?_
  rintro k4 env w35 ⟨x9, x10, x11, rfl, h36, H, hk4, e38⟩
  rcases k4 with _ | k4
  ·exact z0 H
  rw [Q46.l0] at H
  refine J.block (J.seq ?_)
  refine J.midS (fun env w => ∃ (k5 : Nat) (x12 : Int) (x13 : Bool), env = [(0, .slice A1 x9.length c_1), (1, .int .i64 a1), (10, .int .i64 x12), (11, .int .i64 x11), (112, .bool x13)] ∧ St w0 F0 [O23 x9 A1 c_1] [] w ∧ (Q46.l1 k5 a1 x9 x12 x11) = some r ∧ k5 ≤ k4) ?_ ?_
  ·refine J.block ?_
   have h62 := (sOR h36 [0] [])
   refine J.loop (fun kk env w => ∃ (x17 : Int), env = [(0, .slice A1 x9.length c_1), (1, .int .i64 a1), (10, .int .i64 x17), (11, .int .i64 x11)] ∧ St w0 F0 [O23 x9 A1 c_1] [] w ∧ Q46.l2 kk a1 x9 x11 x17 = some r ∧ kk ≤ k4) (k := k4) ⟨x10, rfl, h62, H, Nat.le_refl _⟩ ?_
   rintro k8 env w49 ⟨x17, rfl, h56, H, hk8⟩
   rcases k8 with _ | k8
   ·exact z0 H
   rw [Q46.l2] at H
   refine J.seq (J.seq ?_)
   refine Zr h56 ?_
   have h57 := h56.drew
   refine Zv [0, 1, 2, 3] ?_
   refine Xz 102 H (fun c5 H => ?_) fun c5 H => ?_
   ·refine Zv [4, 5, 8, 9] ?_
    obtain ⟨⟨p25, p26⟩, H⟩ := Zo H
    have e49 := Z3 h57.wh (gO 0) p25 p26
    refine Ze 6 rfl (Zf e49 p25 p26) ?_
    refine Ze 7 rfl (Zg 0 wI (gO 0) p25 p26) ?_
    obtain ⟨⟨p27, p28⟩, H⟩ := Zo H
    refine Ze 10 rfl (Zf e49 p27 p28) ?_
    refine Ze 11 rfl (Zg 0 wI (gO 0) p27 p28) ?_
    obtain ⟨r2, q2, H⟩ := Zp H
    refine Zl 12 rfl (Zi [] (Q23.spec q2) h57 rfl Zt) ?_
    rintro _ w50 ⟨_, ⟨rfl, rfl⟩, h58⟩
    replace h58 := nf h58
    refine ⟨⟨[], h58⟩, ?_⟩
    refine Zv [13] ?_
    refine Zy [0, 1, 10, 11, 112] ?_
    refine jIf H (fun c6 H => ?_) fun c6 H => ?_
    ·refine J.skip (J.block (Zb [0, 1, 10, 11] ?_))
     have h59 := (sOR h58 [0] [])
     exact ⟨k8, by omega, (w64 (x17 + 1)), rfl, h59, H, by omega⟩
    refine J.exit ?_
    have h60 := (sOR h58 [0] [])
    exact ⟨k8, x17, r2, rfl, h60, H, by omega⟩
   refine Zv [4, 5, 6, 7, 8, 9, 10, 11, 12, 13] ?_
   refine Zy [0, 1, 10, 11, 112] ?_
   refine Zz ?_
   refine J.exit ?_
   have h61 := (sOR h57 [0] [])
   exact ⟨k8, x17, false, rfl, h61, H, by omega⟩
  rintro env w37 ⟨k5, x12, x13, rfl, h37, H, hk5⟩
  refine J.seq (J.midS (fun env w => ∃ (k6 : Nat) (x14 : Int) (x15 : Bool), env = [(0, .slice A1 x9.length c_1), (1, .int .i64 a1), (10, .int .i64 x12), (11, .int .i64 x14), (129, .bool x15)] ∧ St w0 F0 [O23 x9 A1 c_1] [] w ∧ (if (decide (x14 < x12)) = true then (if 0 ≤ a1 ∧ a1 < (x9.length : Int) then (if 0 ≤ x14 ∧ x14 < (x9.length : Int) then (some (x14, false, ((x9.set x14.toNat (gt x9 a1)).set a1.toNat (gt x9 x14)))) else none) else none) else (if 0 ≤ x14 ∧ x14 < (x9.length : Int) then (if 0 ≤ x12 ∧ x12 < (x9.length : Int) then (Q46.l0 k6 a1 ((x9.set x12.toNat (gt x9 x14)).set x14.toNat (gt x9 x12)) (w64 (x12 + 1)) (w64 (x14 - 1))) else none) else none)) = some r ∧ k6 ≤ k5) ?_ ?_)
  ·refine J.block (Wn [0, 1, 10, 11] ?_)
   have h55 := (sOR h37 [0] [])
   refine J.loop (fun kk env w => ∃ (x16 : Int), env = [(0, .slice A1 x9.length c_1), (1, .int .i64 a1), (10, .int .i64 x12), (11, .int .i64 x16)] ∧ St w0 F0 [O23 x9 A1 c_1] [] w ∧ Q46.l1 kk a1 x9 x12 x16 = some r ∧ kk ≤ k5) (k := k5) ⟨x11, rfl, h55, H, Nat.le_refl _⟩ ?_
   rintro k7 env w47 ⟨x16, rfl, h49, H, hk7⟩
   rcases k7 with _ | k7
   ·exact z0 H
   rw [Q46.l1] at H
   refine J.seq (J.seq ?_)
   refine Zr h49 ?_
   have h50 := h49.drew
   refine Zv [0, 1, 2, 3] ?_
   refine Xz 118 H (fun c3 H => ?_) fun c3 H => ?_
   ·refine Zv [4, 5, 8, 9] ?_
    obtain ⟨⟨p21, p22⟩, H⟩ := Zo H
    have e48 := Z3 h50.wh (gO 0) p21 p22
    refine Ze 6 rfl (Zf e48 p21 p22) ?_
    refine Ze 7 rfl (Zg 0 wI (gO 0) p21 p22) ?_
    obtain ⟨⟨p23, p24⟩, H⟩ := Zo H
    refine Ze 10 rfl (Zf e48 p23 p24) ?_
    refine Ze 11 rfl (Zg 0 wI (gO 0) p23 p24) ?_
    obtain ⟨r1, q1, H⟩ := Zp H
    refine Zl 12 rfl (Zi [] (Q23.spec q1) h50 rfl Zt) ?_
    rintro _ w48 ⟨_, ⟨rfl, rfl⟩, h51⟩
    replace h51 := nf h51
    refine ⟨⟨[], h51⟩, ?_⟩
    refine Zv [13, 14] ?_
    refine Zy [0, 1, 10, 11, 129] ?_
    refine jIf H (fun c4 H => ?_) fun c4 H => ?_
    ·refine J.skip (J.block (Zb [0, 1, 10, 11] ?_))
     have h52 := (sOR h51 [0] [])
     exact ⟨k7, by omega, (w64 (x16 - 1)), rfl, h52, H, by omega⟩
    refine J.exit ?_
    have h53 := (sOR h51 [0] [])
    exact ⟨k7, x16, (!r1), rfl, h53, H, by omega⟩
   refine Zv [4, 5, 6, 7, 8, 9, 10, 11, 12, 13, 14] ?_
   refine Zy [0, 1, 10, 11, 129] ?_
   refine Zz ?_
   refine J.exit ?_
   have h54 := (sOR h50 [0] [])
   exact ⟨k7, x16, false, rfl, h54, H, by omega⟩
  rintro env w39 ⟨k6, x14, x15, rfl, h38, H, hk6⟩
  refine J.seq (J.seq (Zb [0, 1, 10, 11, 134] ?_))
  refine jIf H (fun c2 H => ?_) fun c2 H => ?_
  ·refine J.exit ?_
   have h39 := (sOR h38 [0] [])
   exact ⟨x9, x12, x14, (decide (x14 < x12)), rfl, h39, H, e38⟩
  refine J.skip (J.seq ?_)
  obtain ⟨⟨p17, p18⟩, H⟩ := Zo H
  obtain ⟨⟨p19, p20⟩, H⟩ := Zo H
  refine J.midS (fun env w => env = [(0, .slice A1 ((x9.set x12.toNat (gt x9 x14)).set x14.toNat (gt x9 x12)).length c_1), (1, .int .i64 a1), (10, .int .i64 x12), (11, .int .i64 x14)] ∧ St w0 F0 [O23 ((x9.set x12.toNat (gt x9 x14)).set x14.toNat (gt x9 x12)) A1 c_1] [] w) ?_ ?_
  ·refine Zr (Zc h38 []) ?_
   have h42 := h38.drew
   refine Zv [0, 1, 2, 3, 4, 5, 8, 9] ?_
   have e42 := Z3 h42.wh (gO 0) p17 p18
   refine Ze 6 rfl (Zf e42 p17 p18) ?_
   refine Ze 10 rfl (Zf e42 p19 p20) ?_
   refine HJ.pick [7, 11] (i := 7) rfl rfl rfl rfl ?_
   refine (Z7 ?_ (Z7 ?_ Y4))
   ·refine Z1 7 rfl (OpT.ofq (Zg 0 h42.wht (gO 0) p17 p18)) ?_
    rintro _ _ ⟨rfl, rfl⟩
    replace h42 := nf h42
    refine ⟨⟨[_], h42⟩, ?_⟩
    refine Zl 11 rfl (OpT.ofq (Zg 0 h42.wht (gO 0) p19 p20)) ?_
    rintro _ _ ⟨rfl, rfl⟩
    replace h42 := nf h42
    refine ⟨⟨[_], h42⟩, ?_⟩
    refine Ze 12 rfl (Zf e42 p19 p20) ?_
    refine Zl 13 rfl (Zj 0 (.int .u32) x12 (gt x9 x14) 0 h42 rfl p19 p20) ?_
    intro _ w42 h43
    replace h43 := nf h43
    refine ⟨⟨[_], h43⟩, ?_⟩
    have e43 : (x9.set x12.toNat (gt x9 x14)).length = a0.length := List.length_set.trans e38
    refine Ze 14 rfl (Zf e42 p17 p18) ?_
    refine Zl 15 rfl (Zj 0 (.int .u32) x14 (gt x9 x12) 0 h43 rfl p17 (by simpa only [List.length_set] using p18)) ?_
    intro _ w43 h44
    replace h44 := nf h44
    refine ⟨⟨[_], h44⟩, ?_⟩
    have e44 : ((x9.set x12.toNat (gt x9 x14)).set x14.toNat (gt x9 x12)).length = a0.length := List.length_set.trans e43
    refine Zy [0, 1, 10, 11] ?_
    exact Zw ⟨(by simp only [List.length_set, List.length_nil] <;> rfl), ((h44.only [0] rfl).rds [] rfl)⟩
   ·refine Z1 11 rfl (OpT.ofq (Zg 0 h42.wht (gO 0) p19 p20)) ?_
    rintro _ _ ⟨rfl, rfl⟩
    replace h42 := nf h42
    refine ⟨⟨[_], h42⟩, ?_⟩
    refine Zl 7 rfl (OpT.ofq (Zg 0 h42.wht (gO 0) p17 p18)) ?_
    rintro _ _ ⟨rfl, rfl⟩
    replace h42 := nf h42
    refine ⟨⟨[_], h42⟩, ?_⟩
    refine Ze 12 rfl (Zf e42 p19 p20) ?_
    refine Zl 13 rfl (Zj 0 (.int .u32) x12 (gt x9 x14) 0 h42 rfl p19 p20) ?_
    intro _ w44 h45
    replace h45 := nf h45
    refine ⟨⟨[_], h45⟩, ?_⟩
    have e45 : (x9.set x12.toNat (gt x9 x14)).length = a0.length := List.length_set.trans e38
    refine Ze 14 rfl (Zf e42 p17 p18) ?_
    refine Zl 15 rfl (Zj 0 (.int .u32) x14 (gt x9 x12) 0 h45 rfl p17 (by simpa only [List.length_set] using p18)) ?_
    intro _ w45 h46
    replace h46 := nf h46
    refine ⟨⟨[_], h46⟩, ?_⟩
    have e46 : ((x9.set x12.toNat (gt x9 x14)).set x14.toNat (gt x9 x12)).length = a0.length := List.length_set.trans e45
    refine Zy [0, 1, 10, 11] ?_
    exact Zw ⟨(by simp only [List.length_set, List.length_nil] <;> rfl), ((h46.only [0] rfl).rds [] rfl)⟩
  rintro env w46 ⟨rfl, h47⟩
  have e47 : ((x9.set x12.toNat (gt x9 x14)).set x14.toNat (gt x9 x12)).length = a0.length := by first | (simp only [List.length_set]; done) | (simp only [List.length_set]; exact e38)
  refine J.seq (Zb [0, 1, 10, 11] ?_)
  refine Zb [0, 1, 10, 11] ?_
  have h48 := (sOR h47 [0] [])
  exact ⟨k6, by omega, ((x9.set x12.toNat (gt x9 x14)).set x14.toNat (gt x9 x12)), (w64 (x12 + 1)), (w64 (x14 - 1)), rfl, h48, H, by omega, e47⟩
 rintro env w27 ⟨x5, x6, x7, x8, rfl, h27, H, e28⟩
 refine J.seq ?_
 obtain ⟨⟨p13, p14⟩, H⟩ := Zo H
 obtain ⟨⟨p15, p16⟩, H⟩ := Zo H
 refine J.midS (fun env w => env = [(11, .int .i64 x7)] ∧ St w0 F0 [O23 ((x5.set x7.toNat (gt x5 a1)).set a1.toNat (gt x5 x7)) A1 c_1] [] w) ?_ ?_
 ·refine Zr (Zc h27 []) ?_
  have h30 := h27.drew
  refine Zv [0, 1, 2, 3, 4, 5, 8, 9] ?_
  have e32 := Z3 h30.wh (gO 0) p13 p14
  refine Ze 6 rfl (Zf e32 p13 p14) ?_
  refine Ze 10 rfl (Zf e32 p15 p16) ?_
  refine HJ.pick [7, 11] (i := 7) rfl rfl rfl rfl ?_
  refine (Z7 ?_ (Z7 ?_ Y4))
  ·refine Z1 7 rfl (OpT.ofq (Zg 0 h30.wht (gO 0) p13 p14)) ?_
   rintro _ _ ⟨rfl, rfl⟩
   replace h30 := nf h30
   refine ⟨⟨[_], h30⟩, ?_⟩
   refine Zl 11 rfl (OpT.ofq (Zg 0 h30.wht (gO 0) p15 p16)) ?_
   rintro _ _ ⟨rfl, rfl⟩
   replace h30 := nf h30
   refine ⟨⟨[_], h30⟩, ?_⟩
   refine Ze 12 rfl (Zf e32 p15 p16) ?_
   refine Zl 13 rfl (Zj 0 (.int .u32) x7 (gt x5 a1) 0 h30 rfl p15 p16) ?_
   intro _ w30 h31
   replace h31 := nf h31
   refine ⟨⟨[_], h31⟩, ?_⟩
   have e33 : (x5.set x7.toNat (gt x5 a1)).length = a0.length := List.length_set.trans e28
   refine Ze 14 rfl (Zf e32 p13 p14) ?_
   refine Zl 15 rfl (Zj 0 (.int .u32) a1 (gt x5 x7) 0 h31 rfl p13 (by simpa only [List.length_set] using p14)) ?_
   intro _ w31 h32
   replace h32 := nf h32
   refine ⟨⟨[_], h32⟩, ?_⟩
   have e34 : ((x5.set x7.toNat (gt x5 a1)).set a1.toNat (gt x5 x7)).length = a0.length := List.length_set.trans e33
   refine Zy [11] ?_
   exact Zw ⟨(by simp only [List.length_set, List.length_nil] <;> rfl), ((h32.only [0] rfl).rds [] rfl)⟩
  ·refine Z1 11 rfl (OpT.ofq (Zg 0 h30.wht (gO 0) p15 p16)) ?_
   rintro _ _ ⟨rfl, rfl⟩
   replace h30 := nf h30
   refine ⟨⟨[_], h30⟩, ?_⟩
   refine Zl 7 rfl (OpT.ofq (Zg 0 h30.wht (gO 0) p13 p14)) ?_
   rintro _ _ ⟨rfl, rfl⟩
   replace h30 := nf h30
   refine ⟨⟨[_], h30⟩, ?_⟩
   refine Ze 12 rfl (Zf e32 p15 p16) ?_
   refine Zl 13 rfl (Zj 0 (.int .u32) x7 (gt x5 a1) 0 h30 rfl p15 p16) ?_
   intro _ w32 h33
   replace h33 := nf h33
   refine ⟨⟨[_], h33⟩, ?_⟩
   have e35 : (x5.set x7.toNat (gt x5 a1)).length = a0.length := List.length_set.trans e28
   refine Ze 14 rfl (Zf e32 p13 p14) ?_
   refine Zl 15 rfl (Zj 0 (.int .u32) a1 (gt x5 x7) 0 h33 rfl p13 (by simpa only [List.length_set] using p14)) ?_
   intro _ w33 h34
   replace h34 := nf h34
   refine ⟨⟨[_], h34⟩, ?_⟩
   have e36 : ((x5.set x7.toNat (gt x5 a1)).set a1.toNat (gt x5 x7)).length = a0.length := List.length_set.trans e35
   refine Zy [11] ?_
   exact Zw ⟨(by simp only [List.length_set, List.length_nil] <;> rfl), ((h34.only [0] rfl).rds [] rfl)⟩
 rintro env w34 ⟨rfl, h35⟩
 have e37 : ((x5.set x7.toNat (gt x5 a1)).set a1.toNat (gt x5 x7)).length = a0.length := by first | (simp only [List.length_set]; done) | (simp only [List.length_set]; exact e28)
 refine J.seq (Zb [8, 9] ?_)
 refine J.ret ?_
 cases H
 exact ⟨_, _, _, Za, ⟨rfl, rfl, e37⟩, Zc h35 [0]⟩

def Q42.f (a0 : Int) : Option (Int) := (Q0.f (IntKind.u64.wrap (a0))).bind fun r1 => (if 0 ≤ r1 then (some (IntKind.u64.wrap ((1 : Int) * 2 ^ (min r1.toNat 64)))) else none)
theorem Q42.spec {a0 : Int}  {r : Int} (H : Q42.f a0 = some r) :
  Spec Try.prog 181 [.int .i64 a0] [] [] (fun v l => v = .int .u64 r ∧ l = []) := by
 refine Zs Try.func181 fun w0 F0 h0 => ?_
 unfold Q42.f at H
 refine J.seq (Zb [0] ?_)
 refine J.seq (J.region ?_)
 refine Zm 2 ?_
 obtain ⟨r1, q1, H⟩ := Zp H
 refine Zh (Zi [] (Q0.spec q1) h0 rfl Zt) ?_
 rintro _ w1 ⟨_, ⟨rfl, rfl⟩, h1⟩
 replace h1 := nf h1
 obtain ⟨p1, H⟩ := Zo H
 refine Zk (Zdo p1) ?_
 refine Zn [2] rfl ?_
 refine J.ret ?_
 cases H
 exact ⟨_, _, _, Za, ⟨rfl, rfl⟩, Zc h1 []⟩

def Q50.f (a0 : Int) : Option (Int × Int) := some ((IntKind.u64.wrap (((BitVec.ofInt IntKind.u64.bits (IntKind.u64.wrap (((BitVec.ofInt IntKind.u64.bits (IntKind.u64.wrap (((BitVec.ofInt IntKind.u64.bits a0 ^^^ (BitVec.ofInt IntKind.u64.bits (IntKind.u64.wrap (a0 * 2 ^ 13)))).toNat : Int))) ^^^ (BitVec.ofInt IntKind.u64.bits (Int.fdiv (IntKind.u64.wrap (((BitVec.ofInt IntKind.u64.bits a0 ^^^ (BitVec.ofInt IntKind.u64.bits (IntKind.u64.wrap (a0 * 2 ^ 13)))).toNat : Int))) (2 ^ 7)))).toNat : Int))) ^^^ (BitVec.ofInt IntKind.u64.bits (IntKind.u64.wrap ((IntKind.u64.wrap (((BitVec.ofInt IntKind.u64.bits (IntKind.u64.wrap (((BitVec.ofInt IntKind.u64.bits a0 ^^^ (BitVec.ofInt IntKind.u64.bits (IntKind.u64.wrap (a0 * 2 ^ 13)))).toNat : Int))) ^^^ (BitVec.ofInt IntKind.u64.bits (Int.fdiv (IntKind.u64.wrap (((BitVec.ofInt IntKind.u64.bits a0 ^^^ (BitVec.ofInt IntKind.u64.bits (IntKind.u64.wrap (a0 * 2 ^ 13)))).toNat : Int))) (2 ^ 7)))).toNat : Int))) * 2 ^ 17)))).toNat : Int))), (IntKind.u64.wrap (((BitVec.ofInt IntKind.u64.bits (IntKind.u64.wrap (((BitVec.ofInt IntKind.u64.bits (IntKind.u64.wrap (((BitVec.ofInt IntKind.u64.bits a0 ^^^ (BitVec.ofInt IntKind.u64.bits (IntKind.u64.wrap (a0 * 2 ^ 13)))).toNat : Int))) ^^^ (BitVec.ofInt IntKind.u64.bits (Int.fdiv (IntKind.u64.wrap (((BitVec.ofInt IntKind.u64.bits a0 ^^^ (BitVec.ofInt IntKind.u64.bits (IntKind.u64.wrap (a0 * 2 ^ 13)))).toNat : Int))) (2 ^ 7)))).toNat : Int))) ^^^ (BitVec.ofInt IntKind.u64.bits (IntKind.u64.wrap ((IntKind.u64.wrap (((BitVec.ofInt IntKind.u64.bits (IntKind.u64.wrap (((BitVec.ofInt IntKind.u64.bits a0 ^^^ (BitVec.ofInt IntKind.u64.bits (IntKind.u64.wrap (a0 * 2 ^ 13)))).toNat : Int))) ^^^ (BitVec.ofInt IntKind.u64.bits (Int.fdiv (IntKind.u64.wrap (((BitVec.ofInt IntKind.u64.bits a0 ^^^ (BitVec.ofInt IntKind.u64.bits (IntKind.u64.wrap (a0 * 2 ^ 13)))).toNat : Int))) (2 ^ 7)))).toNat : Int))) * 2 ^ 17)))).toNat : Int))))
theorem Q50.spec {a0 : Int} {b1 : Nat} {r : Int × Int} (H : Q50.f a0 = some r) :
  Spec Try.prog 182 [.pointer (some ⟨b1, 0, none⟩)] [Jy b1 a0] [] (fun v l => v = .int .u64 r.1 ∧ l = [Jy b1 r.2]) := by
 refine Zs Try.func182 fun w0 F0 h0 => ?_
 unfold Q50.f at H
 refine J.seq (Zb [0] ?_)
 refine J.seq (J.midS (fun env w => env = [(0, .pointer (some ⟨b1, 0, none⟩))] ∧ St w0 F0 [Jy b1 (IntKind.u64.wrap (((BitVec.ofInt IntKind.u64.bits a0 ^^^ (BitVec.ofInt IntKind.u64.bits (IntKind.u64.wrap (a0 * 2 ^ 13)))).toNat : Int)))] [] w) ?_ ?_)
 ·refine Zr (Zc h0 []) ?_
  have h2 := h0.drew
  refine Zv [0, 1, 3, 4] ?_
  refine HJ.pick [2, 5] (i := 2) rfl rfl rfl rfl ?_
  refine (Z7 ?_ (Z7 ?_ Y4))
  ·refine Z1 2 rfl (OpT.ofq (Zd 0 h2.wht)) ?_
   rintro _ _ ⟨rfl, rfl⟩
   replace h2 := nf h2
   refine ⟨⟨[_], h2⟩, ?_⟩
   refine Zl 5 rfl (OpT.ofq (Zd 0 h2.wht)) ?_
   rintro _ _ ⟨rfl, rfl⟩
   replace h2 := nf h2
   refine ⟨⟨[_], h2⟩, ?_⟩
   refine Zv [6, 7, 8] ?_
   refine Zl 9 rfl (Yj 0 h2) ?_
   intro _ w6 h3
   replace h3 := nf h3
   refine ⟨⟨[_], h3⟩, ?_⟩
   refine Zy [0] ?_
   exact Zw ⟨rfl, (sOR h3 [0] [])⟩
  ·refine Z1 5 rfl (OpT.ofq (Zd 0 h2.wht)) ?_
   rintro _ _ ⟨rfl, rfl⟩
   replace h2 := nf h2
   refine ⟨⟨[_], h2⟩, ?_⟩
   refine Zv [6] ?_
   refine Zl 2 rfl (OpT.ofq (Zd 0 h2.wht)) ?_
   rintro _ _ ⟨rfl, rfl⟩
   replace h2 := nf h2
   refine ⟨⟨[_], h2⟩, ?_⟩
   refine Zv [7, 8] ?_
   refine Zl 9 rfl (Yj 0 h2) ?_
   intro _ w9 h4
   replace h4 := nf h4
   refine ⟨⟨[_], h4⟩, ?_⟩
   refine Zy [0] ?_
   exact Zw ⟨rfl, (sOR h4 [0] [])⟩
 rintro env w10 ⟨rfl, h5⟩
 refine J.seq (J.midS (fun env w => env = [(0, .pointer (some ⟨b1, 0, none⟩))] ∧ St w0 F0 [Jy b1 (IntKind.u64.wrap (((BitVec.ofInt IntKind.u64.bits (IntKind.u64.wrap (((BitVec.ofInt IntKind.u64.bits a0 ^^^ (BitVec.ofInt IntKind.u64.bits (IntKind.u64.wrap (a0 * 2 ^ 13)))).toNat : Int))) ^^^ (BitVec.ofInt IntKind.u64.bits (Int.fdiv (IntKind.u64.wrap (((BitVec.ofInt IntKind.u64.bits a0 ^^^ (BitVec.ofInt IntKind.u64.bits (IntKind.u64.wrap (a0 * 2 ^ 13)))).toNat : Int))) (2 ^ 7)))).toNat : Int)))] [] w) ?_ ?_)
 ·refine Zr (Zc h5 []) ?_
  have h7 := h5.drew
  refine Zv [0, 1, 3, 4] ?_
  refine HJ.pick [2, 5] (i := 2) rfl rfl rfl rfl ?_
  refine (Z7 ?_ (Z7 ?_ Y4))
  ·refine Z1 2 rfl (OpT.ofq (Zd 0 h7.wht)) ?_
   rintro _ _ ⟨rfl, rfl⟩
   replace h7 := nf h7
   refine ⟨⟨[_], h7⟩, ?_⟩
   refine Zl 5 rfl (OpT.ofq (Zd 0 h7.wht)) ?_
   rintro _ _ ⟨rfl, rfl⟩
   replace h7 := nf h7
   refine ⟨⟨[_], h7⟩, ?_⟩
   refine Zv [6, 7, 8] ?_
   refine Zl 9 rfl (Yj 0 h7) ?_
   intro _ w16 h8
   replace h8 := nf h8
   refine ⟨⟨[_], h8⟩, ?_⟩
   refine Zy [0] ?_
   exact Zw ⟨rfl, (sOR h8 [0] [])⟩
  ·refine Z1 5 rfl (OpT.ofq (Zd 0 h7.wht)) ?_
   rintro _ _ ⟨rfl, rfl⟩
   replace h7 := nf h7
   refine ⟨⟨[_], h7⟩, ?_⟩
   refine Zv [6] ?_
   refine Zl 2 rfl (OpT.ofq (Zd 0 h7.wht)) ?_
   rintro _ _ ⟨rfl, rfl⟩
   replace h7 := nf h7
   refine ⟨⟨[_], h7⟩, ?_⟩
   refine Zv [7, 8] ?_
   refine Zl 9 rfl (Yj 0 h7) ?_
   intro _ w19 h9
   replace h9 := nf h9
   refine ⟨⟨[_], h9⟩, ?_⟩
   refine Zy [0] ?_
   exact Zw ⟨rfl, (sOR h9 [0] [])⟩
 rintro env w20 ⟨rfl, h10⟩
 refine J.seq (J.midS (fun env w => env = [(0, .pointer (some ⟨b1, 0, none⟩))] ∧ St w0 F0 [Jy b1 (IntKind.u64.wrap (((BitVec.ofInt IntKind.u64.bits (IntKind.u64.wrap (((BitVec.ofInt IntKind.u64.bits (IntKind.u64.wrap (((BitVec.ofInt IntKind.u64.bits a0 ^^^ (BitVec.ofInt IntKind.u64.bits (IntKind.u64.wrap (a0 * 2 ^ 13)))).toNat : Int))) ^^^ (BitVec.ofInt IntKind.u64.bits (Int.fdiv (IntKind.u64.wrap (((BitVec.ofInt IntKind.u64.bits a0 ^^^ (BitVec.ofInt IntKind.u64.bits (IntKind.u64.wrap (a0 * 2 ^ 13)))).toNat : Int))) (2 ^ 7)))).toNat : Int))) ^^^ (BitVec.ofInt IntKind.u64.bits (IntKind.u64.wrap ((IntKind.u64.wrap (((BitVec.ofInt IntKind.u64.bits (IntKind.u64.wrap (((BitVec.ofInt IntKind.u64.bits a0 ^^^ (BitVec.ofInt IntKind.u64.bits (IntKind.u64.wrap (a0 * 2 ^ 13)))).toNat : Int))) ^^^ (BitVec.ofInt IntKind.u64.bits (Int.fdiv (IntKind.u64.wrap (((BitVec.ofInt IntKind.u64.bits a0 ^^^ (BitVec.ofInt IntKind.u64.bits (IntKind.u64.wrap (a0 * 2 ^ 13)))).toNat : Int))) (2 ^ 7)))).toNat : Int))) * 2 ^ 17)))).toNat : Int)))] [] w) ?_ ?_)
 ·refine Zr (Zc h10 []) ?_
  have h12 := h10.drew
  refine Zv [0, 1, 3, 4] ?_
  refine HJ.pick [2, 5] (i := 2) rfl rfl rfl rfl ?_
  refine (Z7 ?_ (Z7 ?_ Y4))
  ·refine Z1 2 rfl (OpT.ofq (Zd 0 h12.wht)) ?_
   rintro _ _ ⟨rfl, rfl⟩
   replace h12 := nf h12
   refine ⟨⟨[_], h12⟩, ?_⟩
   refine Zl 5 rfl (OpT.ofq (Zd 0 h12.wht)) ?_
   rintro _ _ ⟨rfl, rfl⟩
   replace h12 := nf h12
   refine ⟨⟨[_], h12⟩, ?_⟩
   refine Zv [6, 7, 8] ?_
   refine Zl 9 rfl (Yj 0 h12) ?_
   intro _ w26 h13
   replace h13 := nf h13
   refine ⟨⟨[_], h13⟩, ?_⟩
   refine Zy [0] ?_
   exact Zw ⟨rfl, (sOR h13 [0] [])⟩
  ·refine Z1 5 rfl (OpT.ofq (Zd 0 h12.wht)) ?_
   rintro _ _ ⟨rfl, rfl⟩
   replace h12 := nf h12
   refine ⟨⟨[_], h12⟩, ?_⟩
   refine Zv [6] ?_
   refine Zl 2 rfl (OpT.ofq (Zd 0 h12.wht)) ?_
   rintro _ _ ⟨rfl, rfl⟩
   replace h12 := nf h12
   refine ⟨⟨[_], h12⟩, ?_⟩
   refine Zv [7, 8] ?_
   refine Zl 9 rfl (Yj 0 h12) ?_
   intro _ w29 h14
   replace h14 := nf h14
   refine ⟨⟨[_], h14⟩, ?_⟩
   refine Zy [0] ?_
   exact Zw ⟨rfl, (sOR h14 [0] [])⟩
 rintro env w30 ⟨rfl, h15⟩
 refine J.seq (J.region ?_)
 refine Zm 2 ?_
 refine Zk (Zd 0 h15.wht) ?_
 refine Zn [2] rfl ?_
 refine J.ret ?_
 cases H
 exact ⟨_, _, _, Za, ⟨rfl, rfl⟩, Zc h15 [0]⟩

def Q36.l0 : Nat → (Int) → (Int) → (Int) → (List (Int)) → (Int) → (Int) → Option (List (Int))
 | 0, _, _, _, _, _, _ => none
 | k + 1, a1, a2, r1, x1, x2, x3 => if (decide (x3 ≤ (w64 ((w64 (a1 + (w64 ((w64 (Int.tdiv (w64 (a2 - a1)) 4)) * 2)))) + 1)))) = true then ((Q50.f x2).bind fun r2 => (if (decide ((w64 (a2 - a1)) ≤ (w64 ((IntKind.u64.wrap (((BitVec.ofInt IntKind.u64.bits r2.1 &&& (BitVec.ofInt IntKind.u64.bits (IntKind.u64.wrap (r1 - 1)))).toNat : Int))))))) = true then (if 0 ≤ (w64 (a1 + (w64 ((w64 ((IntKind.u64.wrap (((BitVec.ofInt IntKind.u64.bits r2.1 &&& (BitVec.ofInt IntKind.u64.bits (IntKind.u64.wrap (r1 - 1)))).toNat : Int))))) - (w64 (a2 - a1)))))) ∧ (w64 (a1 + (w64 ((w64 ((IntKind.u64.wrap (((BitVec.ofInt IntKind.u64.bits r2.1 &&& (BitVec.ofInt IntKind.u64.bits (IntKind.u64.wrap (r1 - 1)))).toNat : Int))))) - (w64 (a2 - a1)))))) < (x1.length : Int) then (if 0 ≤ x3 ∧ x3 < (x1.length : Int) then (Q36.l0 k a1 a2 r1 ((x1.set x3.toNat (gt x1 (w64 (a1 + (w64 ((w64 ((IntKind.u64.wrap (((BitVec.ofInt IntKind.u64.bits r2.1 &&& (BitVec.ofInt IntKind.u64.bits (IntKind.u64.wrap (r1 - 1)))).toNat : Int))))) - (w64 (a2 - a1)))))))).set (w64 (a1 + (w64 ((w64 ((IntKind.u64.wrap (((BitVec.ofInt IntKind.u64.bits r2.1 &&& (BitVec.ofInt IntKind.u64.bits (IntKind.u64.wrap (r1 - 1)))).toNat : Int))))) - (w64 (a2 - a1)))))).toNat (gt x1 x3)) r2.2 (w64 (x3 + 1))) else none) else none) else (if 0 ≤ (w64 (a1 + (w64 ((IntKind.u64.wrap (((BitVec.ofInt IntKind.u64.bits r2.1 &&& (BitVec.ofInt IntKind.u64.bits (IntKind.u64.wrap (r1 - 1)))).toNat : Int))))))) ∧ (w64 (a1 + (w64 ((IntKind.u64.wrap (((BitVec.ofInt IntKind.u64.bits r2.1 &&& (BitVec.ofInt IntKind.u64.bits (IntKind.u64.wrap (r1 - 1)))).toNat : Int))))))) < (x1.length : Int) then (if 0 ≤ x3 ∧ x3 < (x1.length : Int) then (Q36.l0 k a1 a2 r1 ((x1.set x3.toNat (gt x1 (w64 (a1 + (w64 ((IntKind.u64.wrap (((BitVec.ofInt IntKind.u64.bits r2.1 &&& (BitVec.ofInt IntKind.u64.bits (IntKind.u64.wrap (r1 - 1)))).toNat : Int))))))))).set (w64 (a1 + (w64 ((IntKind.u64.wrap (((BitVec.ofInt IntKind.u64.bits r2.1 &&& (BitVec.ofInt IntKind.u64.bits (IntKind.u64.wrap (r1 - 1)))).toNat : Int))))))).toNat (gt x1 x3)) r2.2 (w64 (x3 + 1))) else none) else none))) else (some x1)
def Q36.f (k : Nat) (a0 : List (Int)) (a1 : Int) (a2 : Int) : Option (List (Int)) := if (decide (8 ≤ (w64 (a2 - a1)))) = true then ((Q42.f (w64 (a2 - a1))).bind fun r1 => (Q36.l0 k a1 a2 r1 a0 (IntKind.u64.wrap ((w64 (a2 - a1)))) (w64 ((w64 (a1 + (w64 ((w64 (Int.tdiv (w64 (a2 - a1)) 4)) * 2)))) - 1)))) else (some a0)
theorem Q36.spec {k : Nat} {a0 : List (Int)} {a1 : Int} {a2 : Int} {A1 : Option Addr} {c_1 : Nat} {r : List (Int)} (H : Q36.f k a0 a1 a2 = some r) :
  Spec Try.prog 170 [.slice A1 a0.length c_1, .int .i64 a1, .int .i64 a2] [O23 a0 A1 c_1] [] (fun v l => v = .tuple #[] ∧ l = [O23 r A1 c_1] ∧ r.length = a0.length) := by
 refine Zs Try.func170 fun w0 F0 h0 => ?_
 unfold Q36.f at H
 refine J.seq (Zb [0, 1, 6] ?_)
 refine J.seq (Zb [0, 1, 6, 15] ?_)
 refine jIf H (fun c1 H => ?_) fun c1 H => ?_
 ·refine J.seq (J.region ?_)
  refine Zm 2 ?_
  refine Zh (Ug h0) ?_
  rintro _ w1 ⟨b1, rfl, h1⟩
  replace h1 := nf h1
  refine Zh (Yj 0 h1) ?_
  intro _ w2 h2
  replace h2 := nf h2
  refine Zn [0, 1, 6, 7] rfl ?_
  refine J.seq (J.region ?_)
  refine Zm 1 ?_
  obtain ⟨r1, q1, H⟩ := Zp H
  refine Zh (Zi [] (Q42.spec q1) h2 rfl Zt) ?_
  rintro _ w3 ⟨_, ⟨rfl, rfl⟩, h3⟩
  replace h3 := nf h3
  refine Zn [0, 1, 6, 7, 8] rfl ?_
  refine J.seq (Zb [0, 1, 6, 7, 8, 9] ?_)
  refine J.block ?_
  have h24 := (sOR h3 [0, 0] [])
  refine J.loop (fun kk env w => ∃ (x1 : List (Int)) (x2 : Int) (x3 : Int), env = [(0, .slice A1 x1.length c_1), (1, .int .i64 a1), (6, .int .i64 (w64 (a2 - a1))), (7, .pointer (some ⟨b1, 0, none⟩)), (8, .int .u64 r1), (9, .int .i64 x3)] ∧ St w0 F0 [Jy b1 x2, O23 x1 A1 c_1] [] w ∧ Q36.l0 kk a1 a2 r1 x1 x2 x3 = some r ∧ x1.length = a0.length) (k := k) ⟨a0, (IntKind.u64.wrap ((w64 (a2 - a1)))), (w64 ((w64 (a1 + (w64 ((w64 (Int.tdiv (w64 (a2 - a1)) 4)) * 2)))) - 1)), rfl, h24, H, (rfl : a0.length = a0.length)⟩ ?_
  rintro k1 env w4 ⟨x1, x2, x3, rfl, h4, H, e1⟩
  rcases k1 with _ | k1
  ·exact z0 H
  rw [Q36.l0] at H
  refine J.seq (J.seq (Zb [0, 1, 6, 7, 8, 9, 33] ?_))
  refine jIf H (fun c2 H => ?_) fun c2 H => ?_
  ·refine J.skip (J.seq (J.block (J.seq (J.region ?_))))
   obtain ⟨r2, q2, H⟩ := Zp H
   refine Zh (Zi [0] (Q50.spec q2) h4 rfl Zt) ?_
   rintro _ w5 ⟨_, ⟨rfl, rfl⟩, h5⟩
   replace h5 := nf h5
   refine Zn [0, 1, 6, 7, 8, 9, 10] rfl ?_
   refine J.seq (J.seq (Zb [0, 1, 6, 7, 8, 9, 10, 43] ?_))
   refine jIf H (fun c3 H => ?_) fun c3 H => ?_
   ·refine Zb [0, 1, 6, 7, 8, 9, 10] ?_
    obtain ⟨⟨p1, p2⟩, H⟩ := Zo H
    obtain ⟨⟨p3, p4⟩, H⟩ := Zo H
    refine J.mid (fun env w => env = [(0, .slice A1 ((x1.set x3.toNat (gt x1 (w64 (a1 + (w64 ((w64 ((IntKind.u64.wrap (((BitVec.ofInt IntKind.u64.bits r2.1 &&& (BitVec.ofInt IntKind.u64.bits (IntKind.u64.wrap (r1 - 1)))).toNat : Int))))) - (w64 (a2 - a1)))))))).set (w64 (a1 + (w64 ((w64 ((IntKind.u64.wrap (((BitVec.ofInt IntKind.u64.bits r2.1 &&& (BitVec.ofInt IntKind.u64.bits (IntKind.u64.wrap (r1 - 1)))).toNat : Int))))) - (w64 (a2 - a1)))))).toNat (gt x1 x3)).length c_1), (1, .int .i64 a1), (6, .int .i64 (w64 (a2 - a1))), (7, .pointer (some ⟨b1, 0, none⟩)), (8, .int .u64 r1), (9, .int .i64 x3)] ∧ St w0 F0 [O23 ((x1.set x3.toNat (gt x1 (w64 (a1 + (w64 ((w64 ((IntKind.u64.wrap (((BitVec.ofInt IntKind.u64.bits r2.1 &&& (BitVec.ofInt IntKind.u64.bits (IntKind.u64.wrap (r1 - 1)))).toNat : Int))))) - (w64 (a2 - a1)))))))).set (w64 (a1 + (w64 ((w64 ((IntKind.u64.wrap (((BitVec.ofInt IntKind.u64.bits r2.1 &&& (BitVec.ofInt IntKind.u64.bits (IntKind.u64.wrap (r1 - 1)))).toNat : Int))))) - (w64 (a2 - a1)))))).toNat (gt x1 x3)) A1 c_1, Jy b1 r2.2] [] w) ?_ ?_
    ·refine Zr (Zc h5 [0]) ?_
     have h8 := h5.drew
     refine Zv [0, 1, 2, 3, 4, 5, 6, 7, 8, 9, 12, 13] ?_
     have e5 := Z3 h8.wh (gO 1) p1 p2
     refine Ze 10 rfl (Zf e5 p1 p2) ?_
     refine Ze 14 rfl (Zf e5 p3 p4) ?_
     refine HJ.pick [11, 15] (i := 11) rfl rfl rfl rfl ?_
     refine (Z7 ?_ (Z7 ?_ Y4))
     ·refine Z1 11 rfl (OpT.ofq (Zg 0 h8.wht (gO 1) p1 p2)) ?_
      rintro _ _ ⟨rfl, rfl⟩
      replace h8 := nf h8
      refine ⟨⟨[_], (Zc h8 [1, 0])⟩, ?_⟩
      refine Zl 15 rfl (OpT.ofq (Zg 0 h8.wht (gO 1) p3 p4)) ?_
      rintro _ _ ⟨rfl, rfl⟩
      replace h8 := nf h8
      refine ⟨⟨[_], (Zc h8 [1, 0])⟩, ?_⟩
      refine Ze 16 rfl (Zf e5 p3 p4) ?_
      refine Zl 17 rfl (Zj 0 (.int .u32) x3 (gt x1 (w64 (a1 + (w64 ((w64 ((IntKind.u64.wrap (((BitVec.ofInt IntKind.u64.bits r2.1 &&& (BitVec.ofInt IntKind.u64.bits (IntKind.u64.wrap (r1 - 1)))).toNat : Int))))) - (w64 (a2 - a1))))))) 1 h8 rfl p3 p4) ?_
      intro _ w8 h9
      replace h9 := nf h9
      refine ⟨⟨[_], h9⟩, ?_⟩
      have e6 : (x1.set x3.toNat (gt x1 (w64 (a1 + (w64 ((w64 ((IntKind.u64.wrap (((BitVec.ofInt IntKind.u64.bits r2.1 &&& (BitVec.ofInt IntKind.u64.bits (IntKind.u64.wrap (r1 - 1)))).toNat : Int))))) - (w64 (a2 - a1)))))))).length = a0.length := List.length_set.trans e1
      refine Ze 18 rfl (Zf e5 p1 p2) ?_
      refine Zl 19 rfl (Zj 0 (.int .u32) (w64 (a1 + (w64 ((w64 ((IntKind.u64.wrap (((BitVec.ofInt IntKind.u64.bits r2.1 &&& (BitVec.ofInt IntKind.u64.bits (IntKind.u64.wrap (r1 - 1)))).toNat : Int))))) - (w64 (a2 - a1)))))) (gt x1 x3) 0 h9 rfl p1 (by simpa only [List.length_set] using p2)) ?_
      intro _ w9 h10
      replace h10 := nf h10
      refine ⟨⟨[_], h10⟩, ?_⟩
      have e7 : ((x1.set x3.toNat (gt x1 (w64 (a1 + (w64 ((w64 ((IntKind.u64.wrap (((BitVec.ofInt IntKind.u64.bits r2.1 &&& (BitVec.ofInt IntKind.u64.bits (IntKind.u64.wrap (r1 - 1)))).toNat : Int))))) - (w64 (a2 - a1)))))))).set (w64 (a1 + (w64 ((w64 ((IntKind.u64.wrap (((BitVec.ofInt IntKind.u64.bits r2.1 &&& (BitVec.ofInt IntKind.u64.bits (IntKind.u64.wrap (r1 - 1)))).toNat : Int))))) - (w64 (a2 - a1)))))).toNat (gt x1 x3)).length = a0.length := List.length_set.trans e6
      refine Zy [0, 1, 6, 7, 8, 9] ?_
      exact Zw ⟨(by simp only [List.length_set, List.length_nil] <;> rfl), ((h10.only [0, 0] rfl).rds [] rfl)⟩
     ·refine Z1 15 rfl (OpT.ofq (Zg 0 h8.wht (gO 1) p3 p4)) ?_
      rintro _ _ ⟨rfl, rfl⟩
      replace h8 := nf h8
      refine ⟨⟨[_], (Zc h8 [1, 0])⟩, ?_⟩
      refine Zl 11 rfl (OpT.ofq (Zg 0 h8.wht (gO 1) p1 p2)) ?_
      rintro _ _ ⟨rfl, rfl⟩
      replace h8 := nf h8
      refine ⟨⟨[_], (Zc h8 [1, 0])⟩, ?_⟩
      refine Ze 16 rfl (Zf e5 p3 p4) ?_
      refine Zl 17 rfl (Zj 0 (.int .u32) x3 (gt x1 (w64 (a1 + (w64 ((w64 ((IntKind.u64.wrap (((BitVec.ofInt IntKind.u64.bits r2.1 &&& (BitVec.ofInt IntKind.u64.bits (IntKind.u64.wrap (r1 - 1)))).toNat : Int))))) - (w64 (a2 - a1))))))) 1 h8 rfl p3 p4) ?_
      intro _ w10 h11
      replace h11 := nf h11
      refine ⟨⟨[_], h11⟩, ?_⟩
      have e8 : (x1.set x3.toNat (gt x1 (w64 (a1 + (w64 ((w64 ((IntKind.u64.wrap (((BitVec.ofInt IntKind.u64.bits r2.1 &&& (BitVec.ofInt IntKind.u64.bits (IntKind.u64.wrap (r1 - 1)))).toNat : Int))))) - (w64 (a2 - a1)))))))).length = a0.length := List.length_set.trans e1
      refine Ze 18 rfl (Zf e5 p1 p2) ?_
      refine Zl 19 rfl (Zj 0 (.int .u32) (w64 (a1 + (w64 ((w64 ((IntKind.u64.wrap (((BitVec.ofInt IntKind.u64.bits r2.1 &&& (BitVec.ofInt IntKind.u64.bits (IntKind.u64.wrap (r1 - 1)))).toNat : Int))))) - (w64 (a2 - a1)))))) (gt x1 x3) 0 h11 rfl p1 (by simpa only [List.length_set] using p2)) ?_
      intro _ w11 h12
      replace h12 := nf h12
      refine ⟨⟨[_], h12⟩, ?_⟩
      have e9 : ((x1.set x3.toNat (gt x1 (w64 (a1 + (w64 ((w64 ((IntKind.u64.wrap (((BitVec.ofInt IntKind.u64.bits r2.1 &&& (BitVec.ofInt IntKind.u64.bits (IntKind.u64.wrap (r1 - 1)))).toNat : Int))))) - (w64 (a2 - a1)))))))).set (w64 (a1 + (w64 ((w64 ((IntKind.u64.wrap (((BitVec.ofInt IntKind.u64.bits r2.1 &&& (BitVec.ofInt IntKind.u64.bits (IntKind.u64.wrap (r1 - 1)))).toNat : Int))))) - (w64 (a2 - a1)))))).toNat (gt x1 x3)).length = a0.length := List.length_set.trans e8
      refine Zy [0, 1, 6, 7, 8, 9] ?_
      exact Zw ⟨(by simp only [List.length_set, List.length_nil] <;> rfl), ((h12.only [0, 0] rfl).rds [] rfl)⟩
    rintro env w12 ⟨rfl, h13⟩
    have e10 : ((x1.set x3.toNat (gt x1 (w64 (a1 + (w64 ((w64 ((IntKind.u64.wrap (((BitVec.ofInt IntKind.u64.bits r2.1 &&& (BitVec.ofInt IntKind.u64.bits (IntKind.u64.wrap (r1 - 1)))).toNat : Int))))) - (w64 (a2 - a1)))))))).set (w64 (a1 + (w64 ((w64 ((IntKind.u64.wrap (((BitVec.ofInt IntKind.u64.bits r2.1 &&& (BitVec.ofInt IntKind.u64.bits (IntKind.u64.wrap (r1 - 1)))).toNat : Int))))) - (w64 (a2 - a1)))))).toNat (gt x1 x3)).length = a0.length := by first | (simp only [List.length_set]; done) | (simp only [List.length_set]; exact e1)
    refine Zb [0, 1, 6, 7, 8, 9] ?_
    have h14 := (sOR h13 [1, 0] [])
    exact ⟨k1, by omega, ((x1.set x3.toNat (gt x1 (w64 (a1 + (w64 ((w64 ((IntKind.u64.wrap (((BitVec.ofInt IntKind.u64.bits r2.1 &&& (BitVec.ofInt IntKind.u64.bits (IntKind.u64.wrap (r1 - 1)))).toNat : Int))))) - (w64 (a2 - a1)))))))).set (w64 (a1 + (w64 ((w64 ((IntKind.u64.wrap (((BitVec.ofInt IntKind.u64.bits r2.1 &&& (BitVec.ofInt IntKind.u64.bits (IntKind.u64.wrap (r1 - 1)))).toNat : Int))))) - (w64 (a2 - a1)))))).toNat (gt x1 x3)), r2.2, (w64 (x3 + 1)), rfl, h14, H, e10⟩
   refine J.skip ?_
   obtain ⟨⟨p5, p6⟩, H⟩ := Zo H
   obtain ⟨⟨p7, p8⟩, H⟩ := Zo H
   refine J.mid (fun env w => env = [(0, .slice A1 ((x1.set x3.toNat (gt x1 (w64 (a1 + (w64 ((IntKind.u64.wrap (((BitVec.ofInt IntKind.u64.bits r2.1 &&& (BitVec.ofInt IntKind.u64.bits (IntKind.u64.wrap (r1 - 1)))).toNat : Int))))))))).set (w64 (a1 + (w64 ((IntKind.u64.wrap (((BitVec.ofInt IntKind.u64.bits r2.1 &&& (BitVec.ofInt IntKind.u64.bits (IntKind.u64.wrap (r1 - 1)))).toNat : Int))))))).toNat (gt x1 x3)).length c_1), (1, .int .i64 a1), (6, .int .i64 (w64 (a2 - a1))), (7, .pointer (some ⟨b1, 0, none⟩)), (8, .int .u64 r1), (9, .int .i64 x3)] ∧ St w0 F0 [O23 ((x1.set x3.toNat (gt x1 (w64 (a1 + (w64 ((IntKind.u64.wrap (((BitVec.ofInt IntKind.u64.bits r2.1 &&& (BitVec.ofInt IntKind.u64.bits (IntKind.u64.wrap (r1 - 1)))).toNat : Int))))))))).set (w64 (a1 + (w64 ((IntKind.u64.wrap (((BitVec.ofInt IntKind.u64.bits r2.1 &&& (BitVec.ofInt IntKind.u64.bits (IntKind.u64.wrap (r1 - 1)))).toNat : Int))))))).toNat (gt x1 x3)) A1 c_1, Jy b1 r2.2] [] w) ?_ ?_
   ·refine Zr (Zc h5 [0]) ?_
    have h17 := h5.drew
    refine Zv [0, 1, 2, 3, 4, 5, 6, 7, 8, 9, 12, 13] ?_
    have e14 := Z3 h17.wh (gO 1) p5 p6
    refine Ze 10 rfl (Zf e14 p5 p6) ?_
    refine Ze 14 rfl (Zf e14 p7 p8) ?_
    refine HJ.pick [11, 15] (i := 11) rfl rfl rfl rfl ?_
    refine (Z7 ?_ (Z7 ?_ Y4))
    ·refine Z1 11 rfl (OpT.ofq (Zg 0 h17.wht (gO 1) p5 p6)) ?_
     rintro _ _ ⟨rfl, rfl⟩
     replace h17 := nf h17
     refine ⟨⟨[_], (Zc h17 [1, 0])⟩, ?_⟩
     refine Zl 15 rfl (OpT.ofq (Zg 0 h17.wht (gO 1) p7 p8)) ?_
     rintro _ _ ⟨rfl, rfl⟩
     replace h17 := nf h17
     refine ⟨⟨[_], (Zc h17 [1, 0])⟩, ?_⟩
     refine Ze 16 rfl (Zf e14 p7 p8) ?_
     refine Zl 17 rfl (Zj 0 (.int .u32) x3 (gt x1 (w64 (a1 + (w64 ((IntKind.u64.wrap (((BitVec.ofInt IntKind.u64.bits r2.1 &&& (BitVec.ofInt IntKind.u64.bits (IntKind.u64.wrap (r1 - 1)))).toNat : Int)))))))) 1 h17 rfl p7 p8) ?_
     intro _ w15 h18
     replace h18 := nf h18
     refine ⟨⟨[_], h18⟩, ?_⟩
     have e15 : (x1.set x3.toNat (gt x1 (w64 (a1 + (w64 ((IntKind.u64.wrap (((BitVec.ofInt IntKind.u64.bits r2.1 &&& (BitVec.ofInt IntKind.u64.bits (IntKind.u64.wrap (r1 - 1)))).toNat : Int))))))))).length = a0.length := List.length_set.trans e1
     refine Ze 18 rfl (Zf e14 p5 p6) ?_
     refine Zl 19 rfl (Zj 0 (.int .u32) (w64 (a1 + (w64 ((IntKind.u64.wrap (((BitVec.ofInt IntKind.u64.bits r2.1 &&& (BitVec.ofInt IntKind.u64.bits (IntKind.u64.wrap (r1 - 1)))).toNat : Int))))))) (gt x1 x3) 0 h18 rfl p5 (by simpa only [List.length_set] using p6)) ?_
     intro _ w16 h19
     replace h19 := nf h19
     refine ⟨⟨[_], h19⟩, ?_⟩
     have e16 : ((x1.set x3.toNat (gt x1 (w64 (a1 + (w64 ((IntKind.u64.wrap (((BitVec.ofInt IntKind.u64.bits r2.1 &&& (BitVec.ofInt IntKind.u64.bits (IntKind.u64.wrap (r1 - 1)))).toNat : Int))))))))).set (w64 (a1 + (w64 ((IntKind.u64.wrap (((BitVec.ofInt IntKind.u64.bits r2.1 &&& (BitVec.ofInt IntKind.u64.bits (IntKind.u64.wrap (r1 - 1)))).toNat : Int))))))).toNat (gt x1 x3)).length = a0.length := List.length_set.trans e15
     refine Zy [0, 1, 6, 7, 8, 9] ?_
     exact Zw ⟨(by simp only [List.length_set, List.length_nil] <;> rfl), ((h19.only [0, 0] rfl).rds [] rfl)⟩
    ·refine Z1 15 rfl (OpT.ofq (Zg 0 h17.wht (gO 1) p7 p8)) ?_
     rintro _ _ ⟨rfl, rfl⟩
     replace h17 := nf h17
     refine ⟨⟨[_], (Zc h17 [1, 0])⟩, ?_⟩
     refine Zl 11 rfl (OpT.ofq (Zg 0 h17.wht (gO 1) p5 p6)) ?_
     rintro _ _ ⟨rfl, rfl⟩
     replace h17 := nf h17
     refine ⟨⟨[_], (Zc h17 [1, 0])⟩, ?_⟩
     refine Ze 16 rfl (Zf e14 p7 p8) ?_
     refine Zl 17 rfl (Zj 0 (.int .u32) x3 (gt x1 (w64 (a1 + (w64 ((IntKind.u64.wrap (((BitVec.ofInt IntKind.u64.bits r2.1 &&& (BitVec.ofInt IntKind.u64.bits (IntKind.u64.wrap (r1 - 1)))).toNat : Int)))))))) 1 h17 rfl p7 p8) ?_
     intro _ w17 h20
     replace h20 := nf h20
     refine ⟨⟨[_], h20⟩, ?_⟩
     have e17 : (x1.set x3.toNat (gt x1 (w64 (a1 + (w64 ((IntKind.u64.wrap (((BitVec.ofInt IntKind.u64.bits r2.1 &&& (BitVec.ofInt IntKind.u64.bits (IntKind.u64.wrap (r1 - 1)))).toNat : Int))))))))).length = a0.length := List.length_set.trans e1
     refine Ze 18 rfl (Zf e14 p5 p6) ?_
     refine Zl 19 rfl (Zj 0 (.int .u32) (w64 (a1 + (w64 ((IntKind.u64.wrap (((BitVec.ofInt IntKind.u64.bits r2.1 &&& (BitVec.ofInt IntKind.u64.bits (IntKind.u64.wrap (r1 - 1)))).toNat : Int))))))) (gt x1 x3) 0 h20 rfl p5 (by simpa only [List.length_set] using p6)) ?_
     intro _ w18 h21
     replace h21 := nf h21
     refine ⟨⟨[_], h21⟩, ?_⟩
     have e18 : ((x1.set x3.toNat (gt x1 (w64 (a1 + (w64 ((IntKind.u64.wrap (((BitVec.ofInt IntKind.u64.bits r2.1 &&& (BitVec.ofInt IntKind.u64.bits (IntKind.u64.wrap (r1 - 1)))).toNat : Int))))))))).set (w64 (a1 + (w64 ((IntKind.u64.wrap (((BitVec.ofInt IntKind.u64.bits r2.1 &&& (BitVec.ofInt IntKind.u64.bits (IntKind.u64.wrap (r1 - 1)))).toNat : Int))))))).toNat (gt x1 x3)).length = a0.length := List.length_set.trans e17
     refine Zy [0, 1, 6, 7, 8, 9] ?_
     exact Zw ⟨(by simp only [List.length_set, List.length_nil] <;> rfl), ((h21.only [0, 0] rfl).rds [] rfl)⟩
   rintro env w19 ⟨rfl, h22⟩
   have e19 : ((x1.set x3.toNat (gt x1 (w64 (a1 + (w64 ((IntKind.u64.wrap (((BitVec.ofInt IntKind.u64.bits r2.1 &&& (BitVec.ofInt IntKind.u64.bits (IntKind.u64.wrap (r1 - 1)))).toNat : Int))))))))).set (w64 (a1 + (w64 ((IntKind.u64.wrap (((BitVec.ofInt IntKind.u64.bits r2.1 &&& (BitVec.ofInt IntKind.u64.bits (IntKind.u64.wrap (r1 - 1)))).toNat : Int))))))).toNat (gt x1 x3)).length = a0.length := by first | (simp only [List.length_set]; done) | (simp only [List.length_set]; exact e1)
   refine Zb [0, 1, 6, 7, 8, 9] ?_
   have h23 := (sOR h22 [1, 0] [])
   exact ⟨k1, by omega, ((x1.set x3.toNat (gt x1 (w64 (a1 + (w64 ((IntKind.u64.wrap (((BitVec.ofInt IntKind.u64.bits r2.1 &&& (BitVec.ofInt IntKind.u64.bits (IntKind.u64.wrap (r1 - 1)))).toNat : Int))))))))).set (w64 (a1 + (w64 ((IntKind.u64.wrap (((BitVec.ofInt IntKind.u64.bits r2.1 &&& (BitVec.ofInt IntKind.u64.bits (IntKind.u64.wrap (r1 - 1)))).toNat : Int))))))).toNat (gt x1 x3)), r2.2, (w64 (x3 + 1)), rfl, h23, H, e19⟩
  refine J.exit ?_
  cases H
  exact ⟨_, _, _, Za, ⟨rfl, rfl, e1⟩, Zc h4 [1]⟩
 refine J.skip ?_
 cases H
 exact ⟨_, _, _, Za, ⟨rfl, rfl, (rfl : a0.length = a0.length)⟩, Zc h0 [0]⟩

mutual
def Q47.l0 : Nat → (List (Int)) → (Int) → (Int) → (Int) → (Bool) → (Bool) → Option (List (Int))
 | 0, _, _, _, _, _, _ => none
 | k + 1, x1, x2, x3, x4, x5, x6 => if (decide ((w64 (x3 - x2)) ≤ 12)) = true then ((Q39.f k x1 x2 x3).bind fun r1 => (some r1)) else (if (decide (x4 = 0)) = true then ((Q38.f k x1 x2 x3).bind fun r2 => (some r2)) else (if (!x5) = true then ((Q36.f k x1 x2 x3).bind fun r30 => ((Q37.f r30 x2 x3).bind fun r3 => (if (decide (r3.2 = 2)) = true then ((Q48.f k r30 x2 x3).bind fun r29 => (if x5 = true then (if x6 = true then (if (decide (1 = 1)) = true then ((Q44.f k r29 x2 x3).bind fun r12 => (if r12.1 = true then (some r12.2) else (if (decide (0 < x2)) = true then (if 0 ≤ (w64 (x2 - 1)) ∧ (w64 (x2 - 1)) < (r12.2.length : Int) then (if 0 ≤ (w64 ((w64 (x3 - 1)) - (w64 (r3.1 - x2)))) ∧ (w64 ((w64 (x3 - 1)) - (w64 (r3.1 - x2)))) < (r12.2.length : Int) then ((Q23.f (gt r12.2 (w64 (x2 - 1))) (gt r12.2 (w64 ((w64 (x3 - 1)) - (w64 (r3.1 - x2)))))).bind fun r4 => (if (!r4) = true then ((Q45.f k r12.2 x2 x3 (w64 ((w64 (x3 - 1)) - (w64 (r3.1 - x2))))).bind fun r5 => (Q47.l0 k r5.2 r5.1 x3 (w64 (x4 - 1)) x5 x6)) else ((Q46.f k r12.2 x2 x3 (w64 ((w64 (x3 - 1)) - (w64 (r3.1 - x2))))).bind fun r6 => (if (decide ((w64 (r6.1 - x2)) < (w64 (x3 - r6.1)))) = true then ((Q47.f k r6.2.2 x2 r6.1 (w64 (x4 - 1))).bind fun r7 => (Q47.l0 k r7 (w64 (r6.1 + 1)) x3 (w64 (x4 - 1)) (decide ((w64 (Int.tdiv (w64 (x3 - x2)) 8)) ≤ (w64 (r6.1 - x2)))) r6.2.1)) else ((Q47.f k r6.2.2 (w64 (r6.1 + 1)) x3 (w64 (x4 - 1))).bind fun r8 => (Q47.l0 k r8 x2 r6.1 (w64 (x4 - 1)) (decide ((w64 (Int.tdiv (w64 (x3 - x2)) 8)) ≤ (w64 (x3 - r6.1)))) r6.2.1)))))) else none) else none) else ((Q46.f k r12.2 x2 x3 (w64 ((w64 (x3 - 1)) - (w64 (r3.1 - x2))))).bind fun r9 => (if (decide ((w64 (r9.1 - x2)) < (w64 (x3 - r9.1)))) = true then ((Q47.f k r9.2.2 x2 r9.1 (w64 (x4 - 1))).bind fun r10 => (Q47.l0 k r10 (w64 (r9.1 + 1)) x3 (w64 (x4 - 1)) (decide ((w64 (Int.tdiv (w64 (x3 - x2)) 8)) ≤ (w64 (r9.1 - x2)))) r9.2.1)) else ((Q47.f k r9.2.2 (w64 (r9.1 + 1)) x3 (w64 (x4 - 1))).bind fun r11 => (Q47.l0 k r11 x2 r9.1 (w64 (x4 - 1)) (decide ((w64 (Int.tdiv (w64 (x3 - x2)) 8)) ≤ (w64 (x3 - r9.1)))) r9.2.1))))))) else (if (decide (0 < x2)) = true then (if 0 ≤ (w64 (x2 - 1)) ∧ (w64 (x2 - 1)) < (r29.length : Int) then (if 0 ≤ (w64 ((w64 (x3 - 1)) - (w64 (r3.1 - x2)))) ∧ (w64 ((w64 (x3 - 1)) - (w64 (r3.1 - x2)))) < (r29.length : Int) then ((Q23.f (gt r29 (w64 (x2 - 1))) (gt r29 (w64 ((w64 (x3 - 1)) - (w64 (r3.1 - x2)))))).bind fun r4 => (if (!r4) = true then ((Q45.f k r29 x2 x3 (w64 ((w64 (x3 - 1)) - (w64 (r3.1 - x2))))).bind fun r5 => (Q47.l0 k r5.2 r5.1 x3 (w64 (x4 - 1)) x5 x6)) else ((Q46.f k r29 x2 x3 (w64 ((w64 (x3 - 1)) - (w64 (r3.1 - x2))))).bind fun r6 => (if (decide ((w64 (r6.1 - x2)) < (w64 (x3 - r6.1)))) = true then ((Q47.f k r6.2.2 x2 r6.1 (w64 (x4 - 1))).bind fun r7 => (Q47.l0 k r7 (w64 (r6.1 + 1)) x3 (w64 (x4 - 1)) (decide ((w64 (Int.tdiv (w64 (x3 - x2)) 8)) ≤ (w64 (r6.1 - x2)))) r6.2.1)) else ((Q47.f k r6.2.2 (w64 (r6.1 + 1)) x3 (w64 (x4 - 1))).bind fun r8 => (Q47.l0 k r8 x2 r6.1 (w64 (x4 - 1)) (decide ((w64 (Int.tdiv (w64 (x3 - x2)) 8)) ≤ (w64 (x3 - r6.1)))) r6.2.1)))))) else none) else none) else ((Q46.f k r29 x2 x3 (w64 ((w64 (x3 - 1)) - (w64 (r3.1 - x2))))).bind fun r9 => (if (decide ((w64 (r9.1 - x2)) < (w64 (x3 - r9.1)))) = true then ((Q47.f k r9.2.2 x2 r9.1 (w64 (x4 - 1))).bind fun r10 => (Q47.l0 k r10 (w64 (r9.1 + 1)) x3 (w64 (x4 - 1)) (decide ((w64 (Int.tdiv (w64 (x3 - x2)) 8)) ≤ (w64 (r9.1 - x2)))) r9.2.1)) else ((Q47.f k r9.2.2 (w64 (r9.1 + 1)) x3 (w64 (x4 - 1))).bind fun r11 => (Q47.l0 k r11 x2 r9.1 (w64 (x4 - 1)) (decide ((w64 (Int.tdiv (w64 (x3 - x2)) 8)) ≤ (w64 (x3 - r9.1)))) r9.2.1)))))) else (if (decide (0 < x2)) = true then (if 0 ≤ (w64 (x2 - 1)) ∧ (w64 (x2 - 1)) < (r29.length : Int) then (if 0 ≤ (w64 ((w64 (x3 - 1)) - (w64 (r3.1 - x2)))) ∧ (w64 ((w64 (x3 - 1)) - (w64 (r3.1 - x2)))) < (r29.length : Int) then ((Q23.f (gt r29 (w64 (x2 - 1))) (gt r29 (w64 ((w64 (x3 - 1)) - (w64 (r3.1 - x2)))))).bind fun r13 => (if (!r13) = true then ((Q45.f k r29 x2 x3 (w64 ((w64 (x3 - 1)) - (w64 (r3.1 - x2))))).bind fun r14 => (Q47.l0 k r14.2 r14.1 x3 (w64 (x4 - 1)) x5 x6)) else ((Q46.f k r29 x2 x3 (w64 ((w64 (x3 - 1)) - (w64 (r3.1 - x2))))).bind fun r15 => (if (decide ((w64 (r15.1 - x2)) < (w64 (x3 - r15.1)))) = true then ((Q47.f k r15.2.2 x2 r15.1 (w64 (x4 - 1))).bind fun r16 => (Q47.l0 k r16 (w64 (r15.1 + 1)) x3 (w64 (x4 - 1)) (decide ((w64 (Int.tdiv (w64 (x3 - x2)) 8)) ≤ (w64 (r15.1 - x2)))) r15.2.1)) else ((Q47.f k r15.2.2 (w64 (r15.1 + 1)) x3 (w64 (x4 - 1))).bind fun r17 => (Q47.l0 k r17 x2 r15.1 (w64 (x4 - 1)) (decide ((w64 (Int.tdiv (w64 (x3 - x2)) 8)) ≤ (w64 (x3 - r15.1)))) r15.2.1)))))) else none) else none) else ((Q46.f k r29 x2 x3 (w64 ((w64 (x3 - 1)) - (w64 (r3.1 - x2))))).bind fun r18 => (if (decide ((w64 (r18.1 - x2)) < (w64 (x3 - r18.1)))) = true then ((Q47.f k r18.2.2 x2 r18.1 (w64 (x4 - 1))).bind fun r19 => (Q47.l0 k r19 (w64 (r18.1 + 1)) x3 (w64 (x4 - 1)) (decide ((w64 (Int.tdiv (w64 (x3 - x2)) 8)) ≤ (w64 (r18.1 - x2)))) r18.2.1)) else ((Q47.f k r18.2.2 (w64 (r18.1 + 1)) x3 (w64 (x4 - 1))).bind fun r20 => (Q47.l0 k r20 x2 r18.1 (w64 (x4 - 1)) (decide ((w64 (Int.tdiv (w64 (x3 - x2)) 8)) ≤ (w64 (x3 - r18.1)))) r18.2.1)))))) else (if (decide (0 < x2)) = true then (if 0 ≤ (w64 (x2 - 1)) ∧ (w64 (x2 - 1)) < (r29.length : Int) then (if 0 ≤ (w64 ((w64 (x3 - 1)) - (w64 (r3.1 - x2)))) ∧ (w64 ((w64 (x3 - 1)) - (w64 (r3.1 - x2)))) < (r29.length : Int) then ((Q23.f (gt r29 (w64 (x2 - 1))) (gt r29 (w64 ((w64 (x3 - 1)) - (w64 (r3.1 - x2)))))).bind fun r21 => (if (!r21) = true then ((Q45.f k r29 x2 x3 (w64 ((w64 (x3 - 1)) - (w64 (r3.1 - x2))))).bind fun r22 => (Q47.l0 k r22.2 r22.1 x3 (w64 (x4 - 1)) x5 x6)) else ((Q46.f k r29 x2 x3 (w64 ((w64 (x3 - 1)) - (w64 (r3.1 - x2))))).bind fun r23 => (if (decide ((w64 (r23.1 - x2)) < (w64 (x3 - r23.1)))) = true then ((Q47.f k r23.2.2 x2 r23.1 (w64 (x4 - 1))).bind fun r24 => (Q47.l0 k r24 (w64 (r23.1 + 1)) x3 (w64 (x4 - 1)) (decide ((w64 (Int.tdiv (w64 (x3 - x2)) 8)) ≤ (w64 (r23.1 - x2)))) r23.2.1)) else ((Q47.f k r23.2.2 (w64 (r23.1 + 1)) x3 (w64 (x4 - 1))).bind fun r25 => (Q47.l0 k r25 x2 r23.1 (w64 (x4 - 1)) (decide ((w64 (Int.tdiv (w64 (x3 - x2)) 8)) ≤ (w64 (x3 - r23.1)))) r23.2.1)))))) else none) else none) else ((Q46.f k r29 x2 x3 (w64 ((w64 (x3 - 1)) - (w64 (r3.1 - x2))))).bind fun r26 => (if (decide ((w64 (r26.1 - x2)) < (w64 (x3 - r26.1)))) = true then ((Q47.f k r26.2.2 x2 r26.1 (w64 (x4 - 1))).bind fun r27 => (Q47.l0 k r27 (w64 (r26.1 + 1)) x3 (w64 (x4 - 1)) (decide ((w64 (Int.tdiv (w64 (x3 - x2)) 8)) ≤ (w64 (r26.1 - x2)))) r26.2.1)) else ((Q47.f k r26.2.2 (w64 (r26.1 + 1)) x3 (w64 (x4 - 1))).bind fun r28 => (Q47.l0 k r28 x2 r26.1 (w64 (x4 - 1)) (decide ((w64 (Int.tdiv (w64 (x3 - x2)) 8)) ≤ (w64 (x3 - r26.1)))) r26.2.1))))))) else (if x5 = true then (if x6 = true then (if (decide (r3.2 = 1)) = true then ((Q44.f k r30 x2 x3).bind fun r12 => (if r12.1 = true then (some r12.2) else (if (decide (0 < x2)) = true then (if 0 ≤ (w64 (x2 - 1)) ∧ (w64 (x2 - 1)) < (r12.2.length : Int) then (if 0 ≤ r3.1 ∧ r3.1 < (r12.2.length : Int) then ((Q23.f (gt r12.2 (w64 (x2 - 1))) (gt r12.2 r3.1)).bind fun r4 => (if (!r4) = true then ((Q45.f k r12.2 x2 x3 r3.1).bind fun r5 => (Q47.l0 k r5.2 r5.1 x3 (w64 (x4 - 1)) x5 x6)) else ((Q46.f k r12.2 x2 x3 r3.1).bind fun r6 => (if (decide ((w64 (r6.1 - x2)) < (w64 (x3 - r6.1)))) = true then ((Q47.f k r6.2.2 x2 r6.1 (w64 (x4 - 1))).bind fun r7 => (Q47.l0 k r7 (w64 (r6.1 + 1)) x3 (w64 (x4 - 1)) (decide ((w64 (Int.tdiv (w64 (x3 - x2)) 8)) ≤ (w64 (r6.1 - x2)))) r6.2.1)) else ((Q47.f k r6.2.2 (w64 (r6.1 + 1)) x3 (w64 (x4 - 1))).bind fun r8 => (Q47.l0 k r8 x2 r6.1 (w64 (x4 - 1)) (decide ((w64 (Int.tdiv (w64 (x3 - x2)) 8)) ≤ (w64 (x3 - r6.1)))) r6.2.1)))))) else none) else none) else ((Q46.f k r12.2 x2 x3 r3.1).bind fun r9 => (if (decide ((w64 (r9.1 - x2)) < (w64 (x3 - r9.1)))) = true then ((Q47.f k r9.2.2 x2 r9.1 (w64 (x4 - 1))).bind fun r10 => (Q47.l0 k r10 (w64 (r9.1 + 1)) x3 (w64 (x4 - 1)) (decide ((w64 (Int.tdiv (w64 (x3 - x2)) 8)) ≤ (w64 (r9.1 - x2)))) r9.2.1)) else ((Q47.f k r9.2.2 (w64 (r9.1 + 1)) x3 (w64 (x4 - 1))).bind fun r11 => (Q47.l0 k r11 x2 r9.1 (w64 (x4 - 1)) (decide ((w64 (Int.tdiv (w64 (x3 - x2)) 8)) ≤ (w64 (x3 - r9.1)))) r9.2.1))))))) else (if (decide (0 < x2)) = true then (if 0 ≤ (w64 (x2 - 1)) ∧ (w64 (x2 - 1)) < (r30.length : Int) then (if 0 ≤ r3.1 ∧ r3.1 < (r30.length : Int) then ((Q23.f (gt r30 (w64 (x2 - 1))) (gt r30 r3.1)).bind fun r4 => (if (!r4) = true then ((Q45.f k r30 x2 x3 r3.1).bind fun r5 => (Q47.l0 k r5.2 r5.1 x3 (w64 (x4 - 1)) x5 x6)) else ((Q46.f k r30 x2 x3 r3.1).bind fun r6 => (if (decide ((w64 (r6.1 - x2)) < (w64 (x3 - r6.1)))) = true then ((Q47.f k r6.2.2 x2 r6.1 (w64 (x4 - 1))).bind fun r7 => (Q47.l0 k r7 (w64 (r6.1 + 1)) x3 (w64 (x4 - 1)) (decide ((w64 (Int.tdiv (w64 (x3 - x2)) 8)) ≤ (w64 (r6.1 - x2)))) r6.2.1)) else ((Q47.f k r6.2.2 (w64 (r6.1 + 1)) x3 (w64 (x4 - 1))).bind fun r8 => (Q47.l0 k r8 x2 r6.1 (w64 (x4 - 1)) (decide ((w64 (Int.tdiv (w64 (x3 - x2)) 8)) ≤ (w64 (x3 - r6.1)))) r6.2.1)))))) else none) else none) else ((Q46.f k r30 x2 x3 r3.1).bind fun r9 => (if (decide ((w64 (r9.1 - x2)) < (w64 (x3 - r9.1)))) = true then ((Q47.f k r9.2.2 x2 r9.1 (w64 (x4 - 1))).bind fun r10 => (Q47.l0 k r10 (w64 (r9.1 + 1)) x3 (w64 (x4 - 1)) (decide ((w64 (Int.tdiv (w64 (x3 - x2)) 8)) ≤ (w64 (r9.1 - x2)))) r9.2.1)) else ((Q47.f k r9.2.2 (w64 (r9.1 + 1)) x3 (w64 (x4 - 1))).bind fun r11 => (Q47.l0 k r11 x2 r9.1 (w64 (x4 - 1)) (decide ((w64 (Int.tdiv (w64 (x3 - x2)) 8)) ≤ (w64 (x3 - r9.1)))) r9.2.1)))))) else (if (decide (0 < x2)) = true then (if 0 ≤ (w64 (x2 - 1)) ∧ (w64 (x2 - 1)) < (r30.length : Int) then (if 0 ≤ r3.1 ∧ r3.1 < (r30.length : Int) then ((Q23.f (gt r30 (w64 (x2 - 1))) (gt r30 r3.1)).bind fun r13 => (if (!r13) = true then ((Q45.f k r30 x2 x3 r3.1).bind fun r14 => (Q47.l0 k r14.2 r14.1 x3 (w64 (x4 - 1)) x5 x6)) else ((Q46.f k r30 x2 x3 r3.1).bind fun r15 => (if (decide ((w64 (r15.1 - x2)) < (w64 (x3 - r15.1)))) = true then ((Q47.f k r15.2.2 x2 r15.1 (w64 (x4 - 1))).bind fun r16 => (Q47.l0 k r16 (w64 (r15.1 + 1)) x3 (w64 (x4 - 1)) (decide ((w64 (Int.tdiv (w64 (x3 - x2)) 8)) ≤ (w64 (r15.1 - x2)))) r15.2.1)) else ((Q47.f k r15.2.2 (w64 (r15.1 + 1)) x3 (w64 (x4 - 1))).bind fun r17 => (Q47.l0 k r17 x2 r15.1 (w64 (x4 - 1)) (decide ((w64 (Int.tdiv (w64 (x3 - x2)) 8)) ≤ (w64 (x3 - r15.1)))) r15.2.1)))))) else none) else none) else ((Q46.f k r30 x2 x3 r3.1).bind fun r18 => (if (decide ((w64 (r18.1 - x2)) < (w64 (x3 - r18.1)))) = true then ((Q47.f k r18.2.2 x2 r18.1 (w64 (x4 - 1))).bind fun r19 => (Q47.l0 k r19 (w64 (r18.1 + 1)) x3 (w64 (x4 - 1)) (decide ((w64 (Int.tdiv (w64 (x3 - x2)) 8)) ≤ (w64 (r18.1 - x2)))) r18.2.1)) else ((Q47.f k r18.2.2 (w64 (r18.1 + 1)) x3 (w64 (x4 - 1))).bind fun r20 => (Q47.l0 k r20 x2 r18.1 (w64 (x4 - 1)) (decide ((w64 (Int.tdiv (w64 (x3 - x2)) 8)) ≤ (w64 (x3 - r18.1)))) r18.2.1)))))) else (if (decide (0 < x2)) = true then (if 0 ≤ (w64 (x2 - 1)) ∧ (w64 (x2 - 1)) < (r30.length : Int) then (if 0 ≤ r3.1 ∧ r3.1 < (r30.length : Int) then ((Q23.f (gt r30 (w64 (x2 - 1))) (gt r30 r3.1)).bind fun r21 => (if (!r21) = true then ((Q45.f k r30 x2 x3 r3.1).bind fun r22 => (Q47.l0 k r22.2 r22.1 x3 (w64 (x4 - 1)) x5 x6)) else ((Q46.f k r30 x2 x3 r3.1).bind fun r23 => (if (decide ((w64 (r23.1 - x2)) < (w64 (x3 - r23.1)))) = true then ((Q47.f k r23.2.2 x2 r23.1 (w64 (x4 - 1))).bind fun r24 => (Q47.l0 k r24 (w64 (r23.1 + 1)) x3 (w64 (x4 - 1)) (decide ((w64 (Int.tdiv (w64 (x3 - x2)) 8)) ≤ (w64 (r23.1 - x2)))) r23.2.1)) else ((Q47.f k r23.2.2 (w64 (r23.1 + 1)) x3 (w64 (x4 - 1))).bind fun r25 => (Q47.l0 k r25 x2 r23.1 (w64 (x4 - 1)) (decide ((w64 (Int.tdiv (w64 (x3 - x2)) 8)) ≤ (w64 (x3 - r23.1)))) r23.2.1)))))) else none) else none) else ((Q46.f k r30 x2 x3 r3.1).bind fun r26 => (if (decide ((w64 (r26.1 - x2)) < (w64 (x3 - r26.1)))) = true then ((Q47.f k r26.2.2 x2 r26.1 (w64 (x4 - 1))).bind fun r27 => (Q47.l0 k r27 (w64 (r26.1 + 1)) x3 (w64 (x4 - 1)) (decide ((w64 (Int.tdiv (w64 (x3 - x2)) 8)) ≤ (w64 (r26.1 - x2)))) r26.2.1)) else ((Q47.f k r26.2.2 (w64 (r26.1 + 1)) x3 (w64 (x4 - 1))).bind fun r28 => (Q47.l0 k r28 x2 r26.1 (w64 (x4 - 1)) (decide ((w64 (Int.tdiv (w64 (x3 - x2)) 8)) ≤ (w64 (x3 - r26.1)))) r26.2.1))))))))) else ((Q37.f x1 x2 x3).bind fun r3 => (if (decide (r3.2 = 2)) = true then ((Q48.f k x1 x2 x3).bind fun r29 => (if x5 = true then (if x6 = true then (if (decide (1 = 1)) = true then ((Q44.f k r29 x2 x3).bind fun r12 => (if r12.1 = true then (some r12.2) else (if (decide (0 < x2)) = true then (if 0 ≤ (w64 (x2 - 1)) ∧ (w64 (x2 - 1)) < (r12.2.length : Int) then (if 0 ≤ (w64 ((w64 (x3 - 1)) - (w64 (r3.1 - x2)))) ∧ (w64 ((w64 (x3 - 1)) - (w64 (r3.1 - x2)))) < (r12.2.length : Int) then ((Q23.f (gt r12.2 (w64 (x2 - 1))) (gt r12.2 (w64 ((w64 (x3 - 1)) - (w64 (r3.1 - x2)))))).bind fun r4 => (if (!r4) = true then ((Q45.f k r12.2 x2 x3 (w64 ((w64 (x3 - 1)) - (w64 (r3.1 - x2))))).bind fun r5 => (Q47.l0 k r5.2 r5.1 x3 x4 x5 x6)) else ((Q46.f k r12.2 x2 x3 (w64 ((w64 (x3 - 1)) - (w64 (r3.1 - x2))))).bind fun r6 => (if (decide ((w64 (r6.1 - x2)) < (w64 (x3 - r6.1)))) = true then ((Q47.f k r6.2.2 x2 r6.1 x4).bind fun r7 => (Q47.l0 k r7 (w64 (r6.1 + 1)) x3 x4 (decide ((w64 (Int.tdiv (w64 (x3 - x2)) 8)) ≤ (w64 (r6.1 - x2)))) r6.2.1)) else ((Q47.f k r6.2.2 (w64 (r6.1 + 1)) x3 x4).bind fun r8 => (Q47.l0 k r8 x2 r6.1 x4 (decide ((w64 (Int.tdiv (w64 (x3 - x2)) 8)) ≤ (w64 (x3 - r6.1)))) r6.2.1)))))) else none) else none) else ((Q46.f k r12.2 x2 x3 (w64 ((w64 (x3 - 1)) - (w64 (r3.1 - x2))))).bind fun r9 => (if (decide ((w64 (r9.1 - x2)) < (w64 (x3 - r9.1)))) = true then ((Q47.f k r9.2.2 x2 r9.1 x4).bind fun r10 => (Q47.l0 k r10 (w64 (r9.1 + 1)) x3 x4 (decide ((w64 (Int.tdiv (w64 (x3 - x2)) 8)) ≤ (w64 (r9.1 - x2)))) r9.2.1)) else ((Q47.f k r9.2.2 (w64 (r9.1 + 1)) x3 x4).bind fun r11 => (Q47.l0 k r11 x2 r9.1 x4 (decide ((w64 (Int.tdiv (w64 (x3 - x2)) 8)) ≤ (w64 (x3 - r9.1)))) r9.2.1))))))) else (if (decide (0 < x2)) = true then (if 0 ≤ (w64 (x2 - 1)) ∧ (w64 (x2 - 1)) < (r29.length : Int) then (if 0 ≤ (w64 ((w64 (x3 - 1)) - (w64 (r3.1 - x2)))) ∧ (w64 ((w64 (x3 - 1)) - (w64 (r3.1 - x2)))) < (r29.length : Int) then ((Q23.f (gt r29 (w64 (x2 - 1))) (gt r29 (w64 ((w64 (x3 - 1)) - (w64 (r3.1 - x2)))))).bind fun r4 => (if (!r4) = true then ((Q45.f k r29 x2 x3 (w64 ((w64 (x3 - 1)) - (w64 (r3.1 - x2))))).bind fun r5 => (Q47.l0 k r5.2 r5.1 x3 x4 x5 x6)) else ((Q46.f k r29 x2 x3 (w64 ((w64 (x3 - 1)) - (w64 (r3.1 - x2))))).bind fun r6 => (if (decide ((w64 (r6.1 - x2)) < (w64 (x3 - r6.1)))) = true then ((Q47.f k r6.2.2 x2 r6.1 x4).bind fun r7 => (Q47.l0 k r7 (w64 (r6.1 + 1)) x3 x4 (decide ((w64 (Int.tdiv (w64 (x3 - x2)) 8)) ≤ (w64 (r6.1 - x2)))) r6.2.1)) else ((Q47.f k r6.2.2 (w64 (r6.1 + 1)) x3 x4).bind fun r8 => (Q47.l0 k r8 x2 r6.1 x4 (decide ((w64 (Int.tdiv (w64 (x3 - x2)) 8)) ≤ (w64 (x3 - r6.1)))) r6.2.1)))))) else none) else none) else ((Q46.f k r29 x2 x3 (w64 ((w64 (x3 - 1)) - (w64 (r3.1 - x2))))).bind fun r9 => (if (decide ((w64 (r9.1 - x2)) < (w64 (x3 - r9.1)))) = true then ((Q47.f k r9.2.2 x2 r9.1 x4).bind fun r10 => (Q47.l0 k r10 (w64 (r9.1 + 1)) x3 x4 (decide ((w64 (Int.tdiv (w64 (x3 - x2)) 8)) ≤ (w64 (r9.1 - x2)))) r9.2.1)) else ((Q47.f k r9.2.2 (w64 (r9.1 + 1)) x3 x4).bind fun r11 => (Q47.l0 k r11 x2 r9.1 x4 (decide ((w64 (Int.tdiv (w64 (x3 - x2)) 8)) ≤ (w64 (x3 - r9.1)))) r9.2.1)))))) else (if (decide (0 < x2)) = true then (if 0 ≤ (w64 (x2 - 1)) ∧ (w64 (x2 - 1)) < (r29.length : Int) then (if 0 ≤ (w64 ((w64 (x3 - 1)) - (w64 (r3.1 - x2)))) ∧ (w64 ((w64 (x3 - 1)) - (w64 (r3.1 - x2)))) < (r29.length : Int) then ((Q23.f (gt r29 (w64 (x2 - 1))) (gt r29 (w64 ((w64 (x3 - 1)) - (w64 (r3.1 - x2)))))).bind fun r13 => (if (!r13) = true then ((Q45.f k r29 x2 x3 (w64 ((w64 (x3 - 1)) - (w64 (r3.1 - x2))))).bind fun r14 => (Q47.l0 k r14.2 r14.1 x3 x4 x5 x6)) else ((Q46.f k r29 x2 x3 (w64 ((w64 (x3 - 1)) - (w64 (r3.1 - x2))))).bind fun r15 => (if (decide ((w64 (r15.1 - x2)) < (w64 (x3 - r15.1)))) = true then ((Q47.f k r15.2.2 x2 r15.1 x4).bind fun r16 => (Q47.l0 k r16 (w64 (r15.1 + 1)) x3 x4 (decide ((w64 (Int.tdiv (w64 (x3 - x2)) 8)) ≤ (w64 (r15.1 - x2)))) r15.2.1)) else ((Q47.f k r15.2.2 (w64 (r15.1 + 1)) x3 x4).bind fun r17 => (Q47.l0 k r17 x2 r15.1 x4 (decide ((w64 (Int.tdiv (w64 (x3 - x2)) 8)) ≤ (w64 (x3 - r15.1)))) r15.2.1)))))) else none) else none) else ((Q46.f k r29 x2 x3 (w64 ((w64 (x3 - 1)) - (w64 (r3.1 - x2))))).bind fun r18 => (if (decide ((w64 (r18.1 - x2)) < (w64 (x3 - r18.1)))) = true then ((Q47.f k r18.2.2 x2 r18.1 x4).bind fun r19 => (Q47.l0 k r19 (w64 (r18.1 + 1)) x3 x4 (decide ((w64 (Int.tdiv (w64 (x3 - x2)) 8)) ≤ (w64 (r18.1 - x2)))) r18.2.1)) else ((Q47.f k r18.2.2 (w64 (r18.1 + 1)) x3 x4).bind fun r20 => (Q47.l0 k r20 x2 r18.1 x4 (decide ((w64 (Int.tdiv (w64 (x3 - x2)) 8)) ≤ (w64 (x3 - r18.1)))) r18.2.1)))))) else (if (decide (0 < x2)) = true then (if 0 ≤ (w64 (x2 - 1)) ∧ (w64 (x2 - 1)) < (r29.length : Int) then (if 0 ≤ (w64 ((w64 (x3 - 1)) - (w64 (r3.1 - x2)))) ∧ (w64 ((w64 (x3 - 1)) - (w64 (r3.1 - x2)))) < (r29.length : Int) then ((Q23.f (gt r29 (w64 (x2 - 1))) (gt r29 (w64 ((w64 (x3 - 1)) - (w64 (r3.1 - x2)))))).bind fun r21 => (if (!r21) = true then ((Q45.f k r29 x2 x3 (w64 ((w64 (x3 - 1)) - (w64 (r3.1 - x2))))).bind fun r22 => (Q47.l0 k r22.2 r22.1 x3 x4 x5 x6)) else ((Q46.f k r29 x2 x3 (w64 ((w64 (x3 - 1)) - (w64 (r3.1 - x2))))).bind fun r23 => (if (decide ((w64 (r23.1 - x2)) < (w64 (x3 - r23.1)))) = true then ((Q47.f k r23.2.2 x2 r23.1 x4).bind fun r24 => (Q47.l0 k r24 (w64 (r23.1 + 1)) x3 x4 (decide ((w64 (Int.tdiv (w64 (x3 - x2)) 8)) ≤ (w64 (r23.1 - x2)))) r23.2.1)) else ((Q47.f k r23.2.2 (w64 (r23.1 + 1)) x3 x4).bind fun r25 => (Q47.l0 k r25 x2 r23.1 x4 (decide ((w64 (Int.tdiv (w64 (x3 - x2)) 8)) ≤ (w64 (x3 - r23.1)))) r23.2.1)))))) else none) else none) else ((Q46.f k r29 x2 x3 (w64 ((w64 (x3 - 1)) - (w64 (r3.1 - x2))))).bind fun r26 => (if (decide ((w64 (r26.1 - x2)) < (w64 (x3 - r26.1)))) = true then ((Q47.f k r26.2.2 x2 r26.1 x4).bind fun r27 => (Q47.l0 k r27 (w64 (r26.1 + 1)) x3 x4 (decide ((w64 (Int.tdiv (w64 (x3 - x2)) 8)) ≤ (w64 (r26.1 - x2)))) r26.2.1)) else ((Q47.f k r26.2.2 (w64 (r26.1 + 1)) x3 x4).bind fun r28 => (Q47.l0 k r28 x2 r26.1 x4 (decide ((w64 (Int.tdiv (w64 (x3 - x2)) 8)) ≤ (w64 (x3 - r26.1)))) r26.2.1))))))) else (if x5 = true then (if x6 = true then (if (decide (r3.2 = 1)) = true then ((Q44.f k x1 x2 x3).bind fun r12 => (if r12.1 = true then (some r12.2) else (if (decide (0 < x2)) = true then (if 0 ≤ (w64 (x2 - 1)) ∧ (w64 (x2 - 1)) < (r12.2.length : Int) then (if 0 ≤ r3.1 ∧ r3.1 < (r12.2.length : Int) then ((Q23.f (gt r12.2 (w64 (x2 - 1))) (gt r12.2 r3.1)).bind fun r4 => (if (!r4) = true then ((Q45.f k r12.2 x2 x3 r3.1).bind fun r5 => (Q47.l0 k r5.2 r5.1 x3 x4 x5 x6)) else ((Q46.f k r12.2 x2 x3 r3.1).bind fun r6 => (if (decide ((w64 (r6.1 - x2)) < (w64 (x3 - r6.1)))) = true then ((Q47.f k r6.2.2 x2 r6.1 x4).bind fun r7 => (Q47.l0 k r7 (w64 (r6.1 + 1)) x3 x4 (decide ((w64 (Int.tdiv (w64 (x3 - x2)) 8)) ≤ (w64 (r6.1 - x2)))) r6.2.1)) else ((Q47.f k r6.2.2 (w64 (r6.1 + 1)) x3 x4).bind fun r8 => (Q47.l0 k r8 x2 r6.1 x4 (decide ((w64 (Int.tdiv (w64 (x3 - x2)) 8)) ≤ (w64 (x3 - r6.1)))) r6.2.1)))))) else none) else none) else ((Q46.f k r12.2 x2 x3 r3.1).bind fun r9 => (if (decide ((w64 (r9.1 - x2)) < (w64 (x3 - r9.1)))) = true then ((Q47.f k r9.2.2 x2 r9.1 x4).bind fun r10 => (Q47.l0 k r10 (w64 (r9.1 + 1)) x3 x4 (decide ((w64 (Int.tdiv (w64 (x3 - x2)) 8)) ≤ (w64 (r9.1 - x2)))) r9.2.1)) else ((Q47.f k r9.2.2 (w64 (r9.1 + 1)) x3 x4).bind fun r11 => (Q47.l0 k r11 x2 r9.1 x4 (decide ((w64 (Int.tdiv (w64 (x3 - x2)) 8)) ≤ (w64 (x3 - r9.1)))) r9.2.1))))))) else (if (decide (0 < x2)) = true then (if 0 ≤ (w64 (x2 - 1)) ∧ (w64 (x2 - 1)) < (x1.length : Int) then (if 0 ≤ r3.1 ∧ r3.1 < (x1.length : Int) then ((Q23.f (gt x1 (w64 (x2 - 1))) (gt x1 r3.1)).bind fun r4 => (if (!r4) = true then ((Q45.f k x1 x2 x3 r3.1).bind fun r5 => (Q47.l0 k r5.2 r5.1 x3 x4 x5 x6)) else ((Q46.f k x1 x2 x3 r3.1).bind fun r6 => (if (decide ((w64 (r6.1 - x2)) < (w64 (x3 - r6.1)))) = true then ((Q47.f k r6.2.2 x2 r6.1 x4).bind fun r7 => (Q47.l0 k r7 (w64 (r6.1 + 1)) x3 x4 (decide ((w64 (Int.tdiv (w64 (x3 - x2)) 8)) ≤ (w64 (r6.1 - x2)))) r6.2.1)) else ((Q47.f k r6.2.2 (w64 (r6.1 + 1)) x3 x4).bind fun r8 => (Q47.l0 k r8 x2 r6.1 x4 (decide ((w64 (Int.tdiv (w64 (x3 - x2)) 8)) ≤ (w64 (x3 - r6.1)))) r6.2.1)))))) else none) else none) else ((Q46.f k x1 x2 x3 r3.1).bind fun r9 => (if (decide ((w64 (r9.1 - x2)) < (w64 (x3 - r9.1)))) = true then ((Q47.f k r9.2.2 x2 r9.1 x4).bind fun r10 => (Q47.l0 k r10 (w64 (r9.1 + 1)) x3 x4 (decide ((w64 (Int.tdiv (w64 (x3 - x2)) 8)) ≤ (w64 (r9.1 - x2)))) r9.2.1)) else ((Q47.f k r9.2.2 (w64 (r9.1 + 1)) x3 x4).bind fun r11 => (Q47.l0 k r11 x2 r9.1 x4 (decide ((w64 (Int.tdiv (w64 (x3 - x2)) 8)) ≤ (w64 (x3 - r9.1)))) r9.2.1)))))) else (if (decide (0 < x2)) = true then (if 0 ≤ (w64 (x2 - 1)) ∧ (w64 (x2 - 1)) < (x1.length : Int) then (if 0 ≤ r3.1 ∧ r3.1 < (x1.length : Int) then ((Q23.f (gt x1 (w64 (x2 - 1))) (gt x1 r3.1)).bind fun r13 => (if (!r13) = true then ((Q45.f k x1 x2 x3 r3.1).bind fun r14 => (Q47.l0 k r14.2 r14.1 x3 x4 x5 x6)) else ((Q46.f k x1 x2 x3 r3.1).bind fun r15 => (if (decide ((w64 (r15.1 - x2)) < (w64 (x3 - r15.1)))) = true then ((Q47.f k r15.2.2 x2 r15.1 x4).bind fun r16 => (Q47.l0 k r16 (w64 (r15.1 + 1)) x3 x4 (decide ((w64 (Int.tdiv (w64 (x3 - x2)) 8)) ≤ (w64 (r15.1 - x2)))) r15.2.1)) else ((Q47.f k r15.2.2 (w64 (r15.1 + 1)) x3 x4).bind fun r17 => (Q47.l0 k r17 x2 r15.1 x4 (decide ((w64 (Int.tdiv (w64 (x3 - x2)) 8)) ≤ (w64 (x3 - r15.1)))) r15.2.1)))))) else none) else none) else ((Q46.f k x1 x2 x3 r3.1).bind fun r18 => (if (decide ((w64 (r18.1 - x2)) < (w64 (x3 - r18.1)))) = true then ((Q47.f k r18.2.2 x2 r18.1 x4).bind fun r19 => (Q47.l0 k r19 (w64 (r18.1 + 1)) x3 x4 (decide ((w64 (Int.tdiv (w64 (x3 - x2)) 8)) ≤ (w64 (r18.1 - x2)))) r18.2.1)) else ((Q47.f k r18.2.2 (w64 (r18.1 + 1)) x3 x4).bind fun r20 => (Q47.l0 k r20 x2 r18.1 x4 (decide ((w64 (Int.tdiv (w64 (x3 - x2)) 8)) ≤ (w64 (x3 - r18.1)))) r18.2.1)))))) else (if (decide (0 < x2)) = true then (if 0 ≤ (w64 (x2 - 1)) ∧ (w64 (x2 - 1)) < (x1.length : Int) then (if 0 ≤ r3.1 ∧ r3.1 < (x1.length : Int) then ((Q23.f (gt x1 (w64 (x2 - 1))) (gt x1 r3.1)).bind fun r21 => (if (!r21) = true then ((Q45.f k x1 x2 x3 r3.1).bind fun r22 => (Q47.l0 k r22.2 r22.1 x3 x4 x5 x6)) else ((Q46.f k x1 x2 x3 r3.1).bind fun r23 => (if (decide ((w64 (r23.1 - x2)) < (w64 (x3 - r23.1)))) = true then ((Q47.f k r23.2.2 x2 r23.1 x4).bind fun r24 => (Q47.l0 k r24 (w64 (r23.1 + 1)) x3 x4 (decide ((w64 (Int.tdiv (w64 (x3 - x2)) 8)) ≤ (w64 (r23.1 - x2)))) r23.2.1)) else ((Q47.f k r23.2.2 (w64 (r23.1 + 1)) x3 x4).bind fun r25 => (Q47.l0 k r25 x2 r23.1 x4 (decide ((w64 (Int.tdiv (w64 (x3 - x2)) 8)) ≤ (w64 (x3 - r23.1)))) r23.2.1)))))) else none) else none) else ((Q46.f k x1 x2 x3 r3.1).bind fun r26 => (if (decide ((w64 (r26.1 - x2)) < (w64 (x3 - r26.1)))) = true then ((Q47.f k r26.2.2 x2 r26.1 x4).bind fun r27 => (Q47.l0 k r27 (w64 (r26.1 + 1)) x3 x4 (decide ((w64 (Int.tdiv (w64 (x3 - x2)) 8)) ≤ (w64 (r26.1 - x2)))) r26.2.1)) else ((Q47.f k r26.2.2 (w64 (r26.1 + 1)) x3 x4).bind fun r28 => (Q47.l0 k r28 x2 r26.1 x4 (decide ((w64 (Int.tdiv (w64 (x3 - x2)) 8)) ≤ (w64 (x3 - r26.1)))) r26.2.1))))))))))
def Q47.f : Nat → (List (Int)) → (Int) → (Int) → (Int) → Option (List (Int))
 | 0, _, _, _, _ => none
 | k + 1, a0, a1, a2, a3 => Q47.l0 k a0 a1 a2 a3 true true
end
theorem Q47.spec : ∀ {k : Nat} {a0 : List (Int)} {a1 : Int} {a2 : Int} {a3 : Int} {A1 : Option Addr} {c_1 : Nat} {r : List (Int)}, Q47.f k a0 a1 a2 a3 = some r →
  Spec Try.prog 164 [.slice A1 a0.length c_1, .int .i64 a1, .int .i64 a2, .int .i64 a3] [O23 a0 A1 c_1] [] (fun v l => v = .tuple #[] ∧ l = [O23 r A1 c_1] ∧ r.length = a0.length) := by
 intro k
 induction k using Nat.strongRecOn with
 | _ k ih =>
 intro a0 a1 a2 a3 A1 c_1 r H
 cases k with
 | zero => rw [Q47.f] at H; cases H
 | succ kr =>
 refine Zs Try.func164 fun w0 F0 h0 => ?_
 rw [Q47.f] at H
 refine J.seq (Zb [0, 1, 2, 3, 8] ?_)
 refine J.seq (Zb [0, 1, 2, 3, 8, 9] ?_)
 refine J.block ?_
 have h59 := (sOR h0 [0] [])
 refine J.loop (fun kk env w => ∃ (x1 : List (Int)) (x2 : Int) (x3 : Int) (x4 : Int) (x5 : Bool) (x6 : Bool), env = [(0, .slice A1 x1.length c_1), (1, .int .i64 x2), (2, .int .i64 x3), (3, .int .i64 x4), (8, .bool x5), (9, .bool x6)] ∧ St w0 F0 [O23 x1 A1 c_1] [] w ∧ Q47.l0 kk x1 x2 x3 x4 x5 x6 = some r ∧ kk ≤ kr ∧ x1.length = a0.length) (k := kr) ⟨a0, a1, a2, a3, true, true, rfl, h59, H, Nat.le_refl _, (rfl : a0.length = a0.length)⟩ ?_
 rintro k1 env w1 ⟨x1, x2, x3, x4, x5, x6, rfl, h1, H, hk1, e1⟩
 rcases k1 with _ | k1
 ·exact z0 H
 rw [Q47.l0] at H
 refine J.block (J.seq (Zb [0, 1, 2, 3, 8, 9, 10] ?_))
 refine J.seq (J.seq (Zb [0, 1, 2, 3, 8, 9, 10, 23] ?_))
 refine jIf H (fun c1 H => ?_) fun c1 H => ?_
 ·refine J.seq (J.region ?_)
  refine Zm 3 ?_
  obtain ⟨r1, q1, H⟩ := Zp H
  refine Zh (Zi [0] (Q39.spec q1) h1 rfl Zt) ?_
  rintro _ w2 ⟨_, ⟨rfl, rfl, q2⟩, h2⟩
  replace h2 := nf h2
  have e2 : r1.length = a0.length := q2.trans e1
  refine Zn [] rfl ?_
  refine J.ret ?_
  cases H
  exact ⟨_, _, _, Za, ⟨rfl, rfl, e2⟩, Zc h2 [0]⟩
 refine J.skip (J.seq (J.seq (Zb [0, 1, 2, 3, 8, 9, 10, 29] ?_)))
 refine jIf H (fun c2 H => ?_) fun c2 H => ?_
 ·refine J.seq (J.region ?_)
  refine Zm 3 ?_
  obtain ⟨r2, q3, H⟩ := Zp H
  refine Zh (Zi [0] (Q38.spec q3) h1 rfl Zt) ?_
  rintro _ w3 ⟨_, ⟨rfl, rfl, q4⟩, h3⟩
  replace h3 := nf h3
  have e3 : r2.length = a0.length := q4.trans e1
  refine Zn [] rfl ?_
  refine J.ret ?_
  cases H
  exact ⟨_, _, _, Za, ⟨rfl, rfl, e3⟩, Zc h3 [0]⟩
 refine J.skip (J.seq (J.seq (Zb [0, 1, 2, 3, 8, 9, 10, 35] ?_)))
 refine J.midS (fun env w => ∃ (k2 : Nat) (x7 : List (Int)) (x8 : Int), env = [(0, .slice A1 x7.length c_1), (1, .int .i64 x2), (2, .int .i64 x3), (3, .int .i64 x8), (8, .bool x5), (9, .bool x6), (10, .int .i64 (w64 (x3 - x2)))] ∧ St w0 F0 [O23 x7 A1 c_1] [] w ∧ ((Q37.f x7 x2 x3).bind fun r3 => (if (decide (r3.2 = 2)) = true then ((Q48.f k2 x7 x2 x3).bind fun r29 => (if x5 = true then (if x6 = true then (if (decide (1 = 1)) = true then ((Q44.f k2 r29 x2 x3).bind fun r12 => (if r12.1 = true then (some r12.2) else (if (decide (0 < x2)) = true then (if 0 ≤ (w64 (x2 - 1)) ∧ (w64 (x2 - 1)) < (r12.2.length : Int) then (if 0 ≤ (w64 ((w64 (x3 - 1)) - (w64 (r3.1 - x2)))) ∧ (w64 ((w64 (x3 - 1)) - (w64 (r3.1 - x2)))) < (r12.2.length : Int) then ((Q23.f (gt r12.2 (w64 (x2 - 1))) (gt r12.2 (w64 ((w64 (x3 - 1)) - (w64 (r3.1 - x2)))))).bind fun r4 => (if (!r4) = true then ((Q45.f k2 r12.2 x2 x3 (w64 ((w64 (x3 - 1)) - (w64 (r3.1 - x2))))).bind fun r5 => (Q47.l0 k2 r5.2 r5.1 x3 x8 x5 x6)) else ((Q46.f k2 r12.2 x2 x3 (w64 ((w64 (x3 - 1)) - (w64 (r3.1 - x2))))).bind fun r6 => (if (decide ((w64 (r6.1 - x2)) < (w64 (x3 - r6.1)))) = true then ((Q47.f k2 r6.2.2 x2 r6.1 x8).bind fun r7 => (Q47.l0 k2 r7 (w64 (r6.1 + 1)) x3 x8 (decide ((w64 (Int.tdiv (w64 (x3 - x2)) 8)) ≤ (w64 (r6.1 - x2)))) r6.2.1)) else ((Q47.f k2 r6.2.2 (w64 (r6.1 + 1)) x3 x8).bind fun r8 => (Q47.l0 k2 r8 x2 r6.1 x8 (decide ((w64 (Int.tdiv (w64 (x3 - x2)) 8)) ≤ (w64 (x3 - r6.1)))) r6.2.1)))))) else none) else none) else ((Q46.f k2 r12.2 x2 x3 (w64 ((w64 (x3 - 1)) - (w64 (r3.1 - x2))))).bind fun r9 => (if (decide ((w64 (r9.1 - x2)) < (w64 (x3 - r9.1)))) = true then ((Q47.f k2 r9.2.2 x2 r9.1 x8).bind fun r10 => (Q47.l0 k2 r10 (w64 (r9.1 + 1)) x3 x8 (decide ((w64 (Int.tdiv (w64 (x3 - x2)) 8)) ≤ (w64 (r9.1 - x2)))) r9.2.1)) else ((Q47.f k2 r9.2.2 (w64 (r9.1 + 1)) x3 x8).bind fun r11 => (Q47.l0 k2 r11 x2 r9.1 x8 (decide ((w64 (Int.tdiv (w64 (x3 - x2)) 8)) ≤ (w64 (x3 - r9.1)))) r9.2.1))))))) else (if (decide (0 < x2)) = true then (if 0 ≤ (w64 (x2 - 1)) ∧ (w64 (x2 - 1)) < (r29.length : Int) then (if 0 ≤ (w64 ((w64 (x3 - 1)) - (w64 (r3.1 - x2)))) ∧ (w64 ((w64 (x3 - 1)) - (w64 (r3.1 - x2)))) < (r29.length : Int) then ((Q23.f (gt r29 (w64 (x2 - 1))) (gt r29 (w64 ((w64 (x3 - 1)) - (w64 (r3.1 - x2)))))).bind fun r4 => (if (!r4) = true then ((Q45.f k2 r29 x2 x3 (w64 ((w64 (x3 - 1)) - (w64 (r3.1 - x2))))).bind fun r5 => (Q47.l0 k2 r5.2 r5.1 x3 x8 x5 x6)) else ((Q46.f k2 r29 x2 x3 (w64 ((w64 (x3 - 1)) - (w64 (r3.1 - x2))))).bind fun r6 => (if (decide ((w64 (r6.1 - x2)) < (w64 (x3 - r6.1)))) = true then ((Q47.f k2 r6.2.2 x2 r6.1 x8).bind fun r7 => (Q47.l0 k2 r7 (w64 (r6.1 + 1)) x3 x8 (decide ((w64 (Int.tdiv (w64 (x3 - x2)) 8)) ≤ (w64 (r6.1 - x2)))) r6.2.1)) else ((Q47.f k2 r6.2.2 (w64 (r6.1 + 1)) x3 x8).bind fun r8 => (Q47.l0 k2 r8 x2 r6.1 x8 (decide ((w64 (Int.tdiv (w64 (x3 - x2)) 8)) ≤ (w64 (x3 - r6.1)))) r6.2.1)))))) else none) else none) else ((Q46.f k2 r29 x2 x3 (w64 ((w64 (x3 - 1)) - (w64 (r3.1 - x2))))).bind fun r9 => (if (decide ((w64 (r9.1 - x2)) < (w64 (x3 - r9.1)))) = true then ((Q47.f k2 r9.2.2 x2 r9.1 x8).bind fun r10 => (Q47.l0 k2 r10 (w64 (r9.1 + 1)) x3 x8 (decide ((w64 (Int.tdiv (w64 (x3 - x2)) 8)) ≤ (w64 (r9.1 - x2)))) r9.2.1)) else ((Q47.f k2 r9.2.2 (w64 (r9.1 + 1)) x3 x8).bind fun r11 => (Q47.l0 k2 r11 x2 r9.1 x8 (decide ((w64 (Int.tdiv (w64 (x3 - x2)) 8)) ≤ (w64 (x3 - r9.1)))) r9.2.1)))))) else (if (decide (0 < x2)) = true then (if 0 ≤ (w64 (x2 - 1)) ∧ (w64 (x2 - 1)) < (r29.length : Int) then (if 0 ≤ (w64 ((w64 (x3 - 1)) - (w64 (r3.1 - x2)))) ∧ (w64 ((w64 (x3 - 1)) - (w64 (r3.1 - x2)))) < (r29.length : Int) then ((Q23.f (gt r29 (w64 (x2 - 1))) (gt r29 (w64 ((w64 (x3 - 1)) - (w64 (r3.1 - x2)))))).bind fun r13 => (if (!r13) = true then ((Q45.f k2 r29 x2 x3 (w64 ((w64 (x3 - 1)) - (w64 (r3.1 - x2))))).bind fun r14 => (Q47.l0 k2 r14.2 r14.1 x3 x8 x5 x6)) else ((Q46.f k2 r29 x2 x3 (w64 ((w64 (x3 - 1)) - (w64 (r3.1 - x2))))).bind fun r15 => (if (decide ((w64 (r15.1 - x2)) < (w64 (x3 - r15.1)))) = true then ((Q47.f k2 r15.2.2 x2 r15.1 x8).bind fun r16 => (Q47.l0 k2 r16 (w64 (r15.1 + 1)) x3 x8 (decide ((w64 (Int.tdiv (w64 (x3 - x2)) 8)) ≤ (w64 (r15.1 - x2)))) r15.2.1)) else ((Q47.f k2 r15.2.2 (w64 (r15.1 + 1)) x3 x8).bind fun r17 => (Q47.l0 k2 r17 x2 r15.1 x8 (decide ((w64 (Int.tdiv (w64 (x3 - x2)) 8)) ≤ (w64 (x3 - r15.1)))) r15.2.1)))))) else none) else none) else ((Q46.f k2 r29 x2 x3 (w64 ((w64 (x3 - 1)) - (w64 (r3.1 - x2))))).bind fun r18 => (if (decide ((w64 (r18.1 - x2)) < (w64 (x3 - r18.1)))) = true then ((Q47.f k2 r18.2.2 x2 r18.1 x8).bind fun r19 => (Q47.l0 k2 r19 (w64 (r18.1 + 1)) x3 x8 (decide ((w64 (Int.tdiv (w64 (x3 - x2)) 8)) ≤ (w64 (r18.1 - x2)))) r18.2.1)) else ((Q47.f k2 r18.2.2 (w64 (r18.1 + 1)) x3 x8).bind fun r20 => (Q47.l0 k2 r20 x2 r18.1 x8 (decide ((w64 (Int.tdiv (w64 (x3 - x2)) 8)) ≤ (w64 (x3 - r18.1)))) r18.2.1)))))) else (if (decide (0 < x2)) = true then (if 0 ≤ (w64 (x2 - 1)) ∧ (w64 (x2 - 1)) < (r29.length : Int) then (if 0 ≤ (w64 ((w64 (x3 - 1)) - (w64 (r3.1 - x2)))) ∧ (w64 ((w64 (x3 - 1)) - (w64 (r3.1 - x2)))) < (r29.length : Int) then ((Q23.f (gt r29 (w64 (x2 - 1))) (gt r29 (w64 ((w64 (x3 - 1)) - (w64 (r3.1 - x2)))))).bind fun r21 => (if (!r21) = true then ((Q45.f k2 r29 x2 x3 (w64 ((w64 (x3 - 1)) - (w64 (r3.1 - x2))))).bind fun r22 => (Q47.l0 k2 r22.2 r22.1 x3 x8 x5 x6)) else ((Q46.f k2 r29 x2 x3 (w64 ((w64 (x3 - 1)) - (w64 (r3.1 - x2))))).bind fun r23 => (if (decide ((w64 (r23.1 - x2)) < (w64 (x3 - r23.1)))) = true then ((Q47.f k2 r23.2.2 x2 r23.1 x8).bind fun r24 => (Q47.l0 k2 r24 (w64 (r23.1 + 1)) x3 x8 (decide ((w64 (Int.tdiv (w64 (x3 - x2)) 8)) ≤ (w64 (r23.1 - x2)))) r23.2.1)) else ((Q47.f k2 r23.2.2 (w64 (r23.1 + 1)) x3 x8).bind fun r25 => (Q47.l0 k2 r25 x2 r23.1 x8 (decide ((w64 (Int.tdiv (w64 (x3 - x2)) 8)) ≤ (w64 (x3 - r23.1)))) r23.2.1)))))) else none) else none) else ((Q46.f k2 r29 x2 x3 (w64 ((w64 (x3 - 1)) - (w64 (r3.1 - x2))))).bind fun r26 => (if (decide ((w64 (r26.1 - x2)) < (w64 (x3 - r26.1)))) = true then ((Q47.f k2 r26.2.2 x2 r26.1 x8).bind fun r27 => (Q47.l0 k2 r27 (w64 (r26.1 + 1)) x3 x8 (decide ((w64 (Int.tdiv (w64 (x3 - x2)) 8)) ≤ (w64 (r26.1 - x2)))) r26.2.1)) else ((Q47.f k2 r26.2.2 (w64 (r26.1 + 1)) x3 x8).bind fun r28 => (Q47.l0 k2 r28 x2 r26.1 x8 (decide ((w64 (Int.tdiv (w64 (x3 - x2)) 8)) ≤ (w64 (x3 - r26.1)))) r26.2.1))))))) else (if x5 = true then (if x6 = true then (if (decide (r3.2 = 1)) = true then ((Q44.f k2 x7 x2 x3).bind fun r12 => (if r12.1 = true then (some r12.2) else (if (decide (0 < x2)) = true then (if 0 ≤ (w64 (x2 - 1)) ∧ (w64 (x2 - 1)) < (r12.2.length : Int) then (if 0 ≤ r3.1 ∧ r3.1 < (r12.2.length : Int) then ((Q23.f (gt r12.2 (w64 (x2 - 1))) (gt r12.2 r3.1)).bind fun r4 => (if (!r4) = true then ((Q45.f k2 r12.2 x2 x3 r3.1).bind fun r5 => (Q47.l0 k2 r5.2 r5.1 x3 x8 x5 x6)) else ((Q46.f k2 r12.2 x2 x3 r3.1).bind fun r6 => (if (decide ((w64 (r6.1 - x2)) < (w64 (x3 - r6.1)))) = true then ((Q47.f k2 r6.2.2 x2 r6.1 x8).bind fun r7 => (Q47.l0 k2 r7 (w64 (r6.1 + 1)) x3 x8 (decide ((w64 (Int.tdiv (w64 (x3 - x2)) 8)) ≤ (w64 (r6.1 - x2)))) r6.2.1)) else ((Q47.f k2 r6.2.2 (w64 (r6.1 + 1)) x3 x8).bind fun r8 => (Q47.l0 k2 r8 x2 r6.1 x8 (decide ((w64 (Int.tdiv (w64 (x3 - x2)) 8)) ≤ (w64 (x3 - r6.1)))) r6.2.1)))))) else none) else none) else ((Q46.f k2 r12.2 x2 x3 r3.1).bind fun r9 => (if (decide ((w64 (r9.1 - x2)) < (w64 (x3 - r9.1)))) = true then ((Q47.f k2 r9.2.2 x2 r9.1 x8).bind fun r10 => (Q47.l0 k2 r10 (w64 (r9.1 + 1)) x3 x8 (decide ((w64 (Int.tdiv (w64 (x3 - x2)) 8)) ≤ (w64 (r9.1 - x2)))) r9.2.1)) else ((Q47.f k2 r9.2.2 (w64 (r9.1 + 1)) x3 x8).bind fun r11 => (Q47.l0 k2 r11 x2 r9.1 x8 (decide ((w64 (Int.tdiv (w64 (x3 - x2)) 8)) ≤ (w64 (x3 - r9.1)))) r9.2.1))))))) else (if (decide (0 < x2)) = true then (if 0 ≤ (w64 (x2 - 1)) ∧ (w64 (x2 - 1)) < (x7.length : Int) then (if 0 ≤ r3.1 ∧ r3.1 < (x7.length : Int) then ((Q23.f (gt x7 (w64 (x2 - 1))) (gt x7 r3.1)).bind fun r4 => (if (!r4) = true then ((Q45.f k2 x7 x2 x3 r3.1).bind fun r5 => (Q47.l0 k2 r5.2 r5.1 x3 x8 x5 x6)) else ((Q46.f k2 x7 x2 x3 r3.1).bind fun r6 => (if (decide ((w64 (r6.1 - x2)) < (w64 (x3 - r6.1)))) = true then ((Q47.f k2 r6.2.2 x2 r6.1 x8).bind fun r7 => (Q47.l0 k2 r7 (w64 (r6.1 + 1)) x3 x8 (decide ((w64 (Int.tdiv (w64 (x3 - x2)) 8)) ≤ (w64 (r6.1 - x2)))) r6.2.1)) else ((Q47.f k2 r6.2.2 (w64 (r6.1 + 1)) x3 x8).bind fun r8 => (Q47.l0 k2 r8 x2 r6.1 x8 (decide ((w64 (Int.tdiv (w64 (x3 - x2)) 8)) ≤ (w64 (x3 - r6.1)))) r6.2.1)))))) else none) else none) else ((Q46.f k2 x7 x2 x3 r3.1).bind fun r9 => (if (decide ((w64 (r9.1 - x2)) < (w64 (x3 - r9.1)))) = true then ((Q47.f k2 r9.2.2 x2 r9.1 x8).bind fun r10 => (Q47.l0 k2 r10 (w64 (r9.1 + 1)) x3 x8 (decide ((w64 (Int.tdiv (w64 (x3 - x2)) 8)) ≤ (w64 (r9.1 - x2)))) r9.2.1)) else ((Q47.f k2 r9.2.2 (w64 (r9.1 + 1)) x3 x8).bind fun r11 => (Q47.l0 k2 r11 x2 r9.1 x8 (decide ((w64 (Int.tdiv (w64 (x3 - x2)) 8)) ≤ (w64 (x3 - r9.1)))) r9.2.1)))))) else (if (decide (0 < x2)) = true then (if 0 ≤ (w64 (x2 - 1)) ∧ (w64 (x2 - 1)) < (x7.length : Int) then (if 0 ≤ r3.1 ∧ r3.1 < (x7.length : Int) then ((Q23.f (gt x7 (w64 (x2 - 1))) (gt x7 r3.1)).bind fun r13 => (if (!r13) = true then ((Q45.f k2 x7 x2 x3 r3.1).bind fun r14 => (Q47.l0 k2 r14.2 r14.1 x3 x8 x5 x6)) else ((Q46.f k2 x7 x2 x3 r3.1).bind fun r15 => (if (decide ((w64 (r15.1 - x2)) < (w64 (x3 - r15.1)))) = true then ((Q47.f k2 r15.2.2 x2 r15.1 x8).bind fun r16 => (Q47.l0 k2 r16 (w64 (r15.1 + 1)) x3 x8 (decide ((w64 (Int.tdiv (w64 (x3 - x2)) 8)) ≤ (w64 (r15.1 - x2)))) r15.2.1)) else ((Q47.f k2 r15.2.2 (w64 (r15.1 + 1)) x3 x8).bind fun r17 => (Q47.l0 k2 r17 x2 r15.1 x8 (decide ((w64 (Int.tdiv (w64 (x3 - x2)) 8)) ≤ (w64 (x3 - r15.1)))) r15.2.1)))))) else none) else none) else ((Q46.f k2 x7 x2 x3 r3.1).bind fun r18 => (if (decide ((w64 (r18.1 - x2)) < (w64 (x3 - r18.1)))) = true then ((Q47.f k2 r18.2.2 x2 r18.1 x8).bind fun r19 => (Q47.l0 k2 r19 (w64 (r18.1 + 1)) x3 x8 (decide ((w64 (Int.tdiv (w64 (x3 - x2)) 8)) ≤ (w64 (r18.1 - x2)))) r18.2.1)) else ((Q47.f k2 r18.2.2 (w64 (r18.1 + 1)) x3 x8).bind fun r20 => (Q47.l0 k2 r20 x2 r18.1 x8 (decide ((w64 (Int.tdiv (w64 (x3 - x2)) 8)) ≤ (w64 (x3 - r18.1)))) r18.2.1)))))) else (if (decide (0 < x2)) = true then (if 0 ≤ (w64 (x2 - 1)) ∧ (w64 (x2 - 1)) < (x7.length : Int) then (if 0 ≤ r3.1 ∧ r3.1 < (x7.length : Int) then ((Q23.f (gt x7 (w64 (x2 - 1))) (gt x7 r3.1)).bind fun r21 => (if (!r21) = true then ((Q45.f k2 x7 x2 x3 r3.1).bind fun r22 => (Q47.l0 k2 r22.2 r22.1 x3 x8 x5 x6)) else ((Q46.f k2 x7 x2 x3 r3.1).bind fun r23 => (if (decide ((w64 (r23.1 - x2)) < (w64 (x3 - r23.1)))) = true then ((Q47.f k2 r23.2.2 x2 r23.1 x8).bind fun r24 => (Q47.l0 k2 r24 (w64 (r23.1 + 1)) x3 x8 (decide ((w64 (Int.tdiv (w64 (x3 - x2)) 8)) ≤ (w64 (r23.1 - x2)))) r23.2.1)) else ((Q47.f k2 r23.2.2 (w64 (r23.1 + 1)) x3 x8).bind fun r25 => (Q47.l0 k2 r25 x2 r23.1 x8 (decide ((w64 (Int.tdiv (w64 (x3 - x2)) 8)) ≤ (w64 (x3 - r23.1)))) r23.2.1)))))) else none) else none) else ((Q46.f k2 x7 x2 x3 r3.1).bind fun r26 => (if (decide ((w64 (r26.1 - x2)) < (w64 (x3 - r26.1)))) = true then ((Q47.f k2 r26.2.2 x2 r26.1 x8).bind fun r27 => (Q47.l0 k2 r27 (w64 (r26.1 + 1)) x3 x8 (decide ((w64 (Int.tdiv (w64 (x3 - x2)) 8)) ≤ (w64 (r26.1 - x2)))) r26.2.1)) else ((Q47.f k2 r26.2.2 (w64 (r26.1 + 1)) x3 x8).bind fun r28 => (Q47.l0 k2 r28 x2 r26.1 x8 (decide ((w64 (Int.tdiv (w64 (x3 - x2)) 8)) ≤ (w64 (x3 - r26.1)))) r26.2.1)))))))) = some r ∧ k2 ≤ k1 ∧ x7.length = a0.length) ?_ ?_
 ·refine jIf H (fun c20 H => ?_) fun c20 H => ?_
  ·refine J.seq (J.region ?_)
   refine Zm 3 ?_
   obtain ⟨r30, q55, H⟩ := Zp H
   refine Zh (Zi [0] (Q36.spec q55) h1 rfl Zt) ?_
   rintro _ w37 ⟨_, ⟨rfl, rfl, q56⟩, h56⟩
   replace h56 := nf h56
   have e33 : r30.length = a0.length := q56.trans e1
   refine Zn [0, 1, 2, 3, 8, 9, 10] rfl ?_
   refine J.envEq (env' := [(0, .slice A1 r30.length c_1), (1, .int .i64 x2), (2, .int .i64 x3), (3, .int .i64 x4), (8, .bool x5), (9, .bool x6), (10, .int .i64 (w64 (x3 - x2)))]) (by simp only [q56, List.length_nil] <;> rfl) ?_
   refine Zb [0, 1, 2, 3, 8, 9, 10] ?_
   have h57 := (sOR h56 [0] [])
   exact ⟨k1, r30, (w64 (x4 - 1)), rfl, h57, H, Nat.le_refl _, e33⟩
  refine Wn [0, 1, 2, 3, 8, 9, 10] ?_
  refine J.skip ?_
  have h58 := (sOR h1 [0] [])
  exact ⟨k1, x1, x4, rfl, h58, H, Nat.le_refl _, e1⟩
 rintro env w5 ⟨k2, x7, x8, rfl, h4, H, hk2, e4⟩
 refine J.seq (J.region ?_)
 refine Zm 3 ?_
 obtain ⟨r3, q5, H⟩ := Zp H
 refine Zh (Zi [] (Q37.spec q5) h4 rfl (Y8 (gO 0) Zt)) ?_
 rintro _ w6 ⟨_, ⟨rfl, rfl⟩, h5⟩
 replace h5 := nf h5
 refine Zn [0, 1, 2, 3, 8, 9, 10, 11, 12] rfl ?_
 refine J.seq (J.seq (Zb [0, 1, 2, 3, 8, 9, 10, 11, 12, 50] ?_))
 refine J.midS (fun env w => ∃ (k3 : Nat) (x9 : List (Int)) (x10 : Int) (x11 : Int), env = [(0, .slice A1 x9.length c_1), (1, .int .i64 x2), (2, .int .i64 x3), (3, .int .i64 x8), (8, .bool x5), (9, .bool x6), (10, .int .i64 (w64 (x3 - x2))), (11, .int .i64 x10), (12, .int .i64 x11)] ∧ St w0 F0 [O23 x9 A1 c_1] [] w ∧ (if x5 = true then (if x6 = true then (if (decide (x11 = 1)) = true then ((Q44.f k3 x9 x2 x3).bind fun r12 => (if r12.1 = true then (some r12.2) else (if (decide (0 < x2)) = true then (if 0 ≤ (w64 (x2 - 1)) ∧ (w64 (x2 - 1)) < (r12.2.length : Int) then (if 0 ≤ x10 ∧ x10 < (r12.2.length : Int) then ((Q23.f (gt r12.2 (w64 (x2 - 1))) (gt r12.2 x10)).bind fun r4 => (if (!r4) = true then ((Q45.f k3 r12.2 x2 x3 x10).bind fun r5 => (Q47.l0 k3 r5.2 r5.1 x3 x8 x5 x6)) else ((Q46.f k3 r12.2 x2 x3 x10).bind fun r6 => (if (decide ((w64 (r6.1 - x2)) < (w64 (x3 - r6.1)))) = true then ((Q47.f k3 r6.2.2 x2 r6.1 x8).bind fun r7 => (Q47.l0 k3 r7 (w64 (r6.1 + 1)) x3 x8 (decide ((w64 (Int.tdiv (w64 (x3 - x2)) 8)) ≤ (w64 (r6.1 - x2)))) r6.2.1)) else ((Q47.f k3 r6.2.2 (w64 (r6.1 + 1)) x3 x8).bind fun r8 => (Q47.l0 k3 r8 x2 r6.1 x8 (decide ((w64 (Int.tdiv (w64 (x3 - x2)) 8)) ≤ (w64 (x3 - r6.1)))) r6.2.1)))))) else none) else none) else ((Q46.f k3 r12.2 x2 x3 x10).bind fun r9 => (if (decide ((w64 (r9.1 - x2)) < (w64 (x3 - r9.1)))) = true then ((Q47.f k3 r9.2.2 x2 r9.1 x8).bind fun r10 => (Q47.l0 k3 r10 (w64 (r9.1 + 1)) x3 x8 (decide ((w64 (Int.tdiv (w64 (x3 - x2)) 8)) ≤ (w64 (r9.1 - x2)))) r9.2.1)) else ((Q47.f k3 r9.2.2 (w64 (r9.1 + 1)) x3 x8).bind fun r11 => (Q47.l0 k3 r11 x2 r9.1 x8 (decide ((w64 (Int.tdiv (w64 (x3 - x2)) 8)) ≤ (w64 (x3 - r9.1)))) r9.2.1))))))) else (if (decide (0 < x2)) = true then (if 0 ≤ (w64 (x2 - 1)) ∧ (w64 (x2 - 1)) < (x9.length : Int) then (if 0 ≤ x10 ∧ x10 < (x9.length : Int) then ((Q23.f (gt x9 (w64 (x2 - 1))) (gt x9 x10)).bind fun r4 => (if (!r4) = true then ((Q45.f k3 x9 x2 x3 x10).bind fun r5 => (Q47.l0 k3 r5.2 r5.1 x3 x8 x5 x6)) else ((Q46.f k3 x9 x2 x3 x10).bind fun r6 => (if (decide ((w64 (r6.1 - x2)) < (w64 (x3 - r6.1)))) = true then ((Q47.f k3 r6.2.2 x2 r6.1 x8).bind fun r7 => (Q47.l0 k3 r7 (w64 (r6.1 + 1)) x3 x8 (decide ((w64 (Int.tdiv (w64 (x3 - x2)) 8)) ≤ (w64 (r6.1 - x2)))) r6.2.1)) else ((Q47.f k3 r6.2.2 (w64 (r6.1 + 1)) x3 x8).bind fun r8 => (Q47.l0 k3 r8 x2 r6.1 x8 (decide ((w64 (Int.tdiv (w64 (x3 - x2)) 8)) ≤ (w64 (x3 - r6.1)))) r6.2.1)))))) else none) else none) else ((Q46.f k3 x9 x2 x3 x10).bind fun r9 => (if (decide ((w64 (r9.1 - x2)) < (w64 (x3 - r9.1)))) = true then ((Q47.f k3 r9.2.2 x2 r9.1 x8).bind fun r10 => (Q47.l0 k3 r10 (w64 (r9.1 + 1)) x3 x8 (decide ((w64 (Int.tdiv (w64 (x3 - x2)) 8)) ≤ (w64 (r9.1 - x2)))) r9.2.1)) else ((Q47.f k3 r9.2.2 (w64 (r9.1 + 1)) x3 x8).bind fun r11 => (Q47.l0 k3 r11 x2 r9.1 x8 (decide ((w64 (Int.tdiv (w64 (x3 - x2)) 8)) ≤ (w64 (x3 - r9.1)))) r9.2.1)))))) else (if (decide (0 < x2)) = true then (if 0 ≤ (w64 (x2 - 1)) ∧ (w64 (x2 - 1)) < (x9.length : Int) then (if 0 ≤ x10 ∧ x10 < (x9.length : Int) then ((Q23.f (gt x9 (w64 (x2 - 1))) (gt x9 x10)).bind fun r13 => (if (!r13) = true then ((Q45.f k3 x9 x2 x3 x10).bind fun r14 => (Q47.l0 k3 r14.2 r14.1 x3 x8 x5 x6)) else ((Q46.f k3 x9 x2 x3 x10).bind fun r15 => (if (decide ((w64 (r15.1 - x2)) < (w64 (x3 - r15.1)))) = true then ((Q47.f k3 r15.2.2 x2 r15.1 x8).bind fun r16 => (Q47.l0 k3 r16 (w64 (r15.1 + 1)) x3 x8 (decide ((w64 (Int.tdiv (w64 (x3 - x2)) 8)) ≤ (w64 (r15.1 - x2)))) r15.2.1)) else ((Q47.f k3 r15.2.2 (w64 (r15.1 + 1)) x3 x8).bind fun r17 => (Q47.l0 k3 r17 x2 r15.1 x8 (decide ((w64 (Int.tdiv (w64 (x3 - x2)) 8)) ≤ (w64 (x3 - r15.1)))) r15.2.1)))))) else none) else none) else ((Q46.f k3 x9 x2 x3 x10).bind fun r18 => (if (decide ((w64 (r18.1 - x2)) < (w64 (x3 - r18.1)))) = true then ((Q47.f k3 r18.2.2 x2 r18.1 x8).bind fun r19 => (Q47.l0 k3 r19 (w64 (r18.1 + 1)) x3 x8 (decide ((w64 (Int.tdiv (w64 (x3 - x2)) 8)) ≤ (w64 (r18.1 - x2)))) r18.2.1)) else ((Q47.f k3 r18.2.2 (w64 (r18.1 + 1)) x3 x8).bind fun r20 => (Q47.l0 k3 r20 x2 r18.1 x8 (decide ((w64 (Int.tdiv (w64 (x3 - x2)) 8)) ≤ (w64 (x3 - r18.1)))) r18.2.1)))))) else (if (decide (0 < x2)) = true then (if 0 ≤ (w64 (x2 - 1)) ∧ (w64 (x2 - 1)) < (x9.length : Int) then (if 0 ≤ x10 ∧ x10 < (x9.length : Int) then ((Q23.f (gt x9 (w64 (x2 - 1))) (gt x9 x10)).bind fun r21 => (if (!r21) = true then ((Q45.f k3 x9 x2 x3 x10).bind fun r22 => (Q47.l0 k3 r22.2 r22.1 x3 x8 x5 x6)) else ((Q46.f k3 x9 x2 x3 x10).bind fun r23 => (if (decide ((w64 (r23.1 - x2)) < (w64 (x3 - r23.1)))) = true then ((Q47.f k3 r23.2.2 x2 r23.1 x8).bind fun r24 => (Q47.l0 k3 r24 (w64 (r23.1 + 1)) x3 x8 (decide ((w64 (Int.tdiv (w64 (x3 - x2)) 8)) ≤ (w64 (r23.1 - x2)))) r23.2.1)) else ((Q47.f k3 r23.2.2 (w64 (r23.1 + 1)) x3 x8).bind fun r25 => (Q47.l0 k3 r25 x2 r23.1 x8 (decide ((w64 (Int.tdiv (w64 (x3 - x2)) 8)) ≤ (w64 (x3 - r23.1)))) r23.2.1)))))) else none) else none) else ((Q46.f k3 x9 x2 x3 x10).bind fun r26 => (if (decide ((w64 (r26.1 - x2)) < (w64 (x3 - r26.1)))) = true then ((Q47.f k3 r26.2.2 x2 r26.1 x8).bind fun r27 => (Q47.l0 k3 r27 (w64 (r26.1 + 1)) x3 x8 (decide ((w64 (Int.tdiv (w64 (x3 - x2)) 8)) ≤ (w64 (r26.1 - x2)))) r26.2.1)) else ((Q47.f k3 r26.2.2 (w64 (r26.1 + 1)) x3 x8).bind fun r28 => (Q47.l0 k3 r28 x2 r26.1 x8 (decide ((w64 (Int.tdiv (w64 (x3 - x2)) 8)) ≤ (w64 (x3 - r26.1)))) r26.2.1)))))) = some r ∧ k3 ≤ k2 ∧ x9.length = a0.length) ?_ ?_
 ·refine jIf H (fun c19 H => ?_) fun c19 H => ?_
  ·refine J.seq (J.region ?_)
   refine Zm 3 ?_
   obtain ⟨r29, q53, H⟩ := Zp H
   refine Zh (Zi [0] (Q48.spec q53) h5 rfl Zt) ?_
   rintro _ w36 ⟨_, ⟨rfl, rfl, q54⟩, h53⟩
   replace h53 := nf h53
   have e32 : r29.length = a0.length := q54.trans e4
   refine Zn [0, 1, 2, 3, 8, 9, 10, 11] rfl ?_
   refine J.envEq (env' := [(0, .slice A1 r29.length c_1), (1, .int .i64 x2), (2, .int .i64 x3), (3, .int .i64 x8), (8, .bool x5), (9, .bool x6), (10, .int .i64 (w64 (x3 - x2))), (11, .int .i64 r3.1)]) (by simp only [q54, List.length_nil] <;> rfl) ?_
   refine J.seq (Zb [0, 1, 2, 3, 8, 9, 10, 11] ?_)
   refine Zb [0, 1, 2, 3, 8, 9, 10, 11, 12] ?_
   have h54 := (sOR h53 [0] [])
   exact ⟨k2, r29, (w64 ((w64 (x3 - 1)) - (w64 (r3.1 - x2)))), 1, rfl, h54, H, Nat.le_refl _, e32⟩
  refine Wn [0, 1, 2, 3, 8, 9, 10, 11, 12] ?_
  refine J.skip ?_
  have h55 := (sOR h5 [0] [])
  exact ⟨k2, x7, r3.1, r3.2, rfl, h55, H, Nat.le_refl _, e4⟩
 rintro env w8 ⟨k3, x9, x10, x11, rfl, h6, H, hk3, e5⟩
 refine J.seq (J.seq (J.region ?_))
 refine Zm 2 ?_
 refine Y3 62 H (fun c3 H => ?_) fun c3 H => ?_
 ·refine Zm 3 ?_
  refine Y3 65 H (fun c4 H => ?_) fun c4 H => ?_
  ·refine Zn [0, 1, 2, 3, 8, 9, 10, 11, 68] rfl ?_
   refine J.midS (fun env w => ∃ (k4 : Nat) (x12 : List (Int)), env = [(0, .slice A1 x12.length c_1), (1, .int .i64 x2), (2, .int .i64 x3), (3, .int .i64 x8), (8, .bool x5), (9, .bool x6), (10, .int .i64 (w64 (x3 - x2))), (11, .int .i64 x10)] ∧ St w0 F0 [O23 x12 A1 c_1] [] w ∧ (if (decide (0 < x2)) = true then (if 0 ≤ (w64 (x2 - 1)) ∧ (w64 (x2 - 1)) < (x12.length : Int) then (if 0 ≤ x10 ∧ x10 < (x12.length : Int) then ((Q23.f (gt x12 (w64 (x2 - 1))) (gt x12 x10)).bind fun r4 => (if (!r4) = true then ((Q45.f k4 x12 x2 x3 x10).bind fun r5 => (Q47.l0 k4 r5.2 r5.1 x3 x8 x5 x6)) else ((Q46.f k4 x12 x2 x3 x10).bind fun r6 => (if (decide ((w64 (r6.1 - x2)) < (w64 (x3 - r6.1)))) = true then ((Q47.f k4 r6.2.2 x2 r6.1 x8).bind fun r7 => (Q47.l0 k4 r7 (w64 (r6.1 + 1)) x3 x8 (decide ((w64 (Int.tdiv (w64 (x3 - x2)) 8)) ≤ (w64 (r6.1 - x2)))) r6.2.1)) else ((Q47.f k4 r6.2.2 (w64 (r6.1 + 1)) x3 x8).bind fun r8 => (Q47.l0 k4 r8 x2 r6.1 x8 (decide ((w64 (Int.tdiv (w64 (x3 - x2)) 8)) ≤ (w64 (x3 - r6.1)))) r6.2.1)))))) else none) else none) else ((Q46.f k4 x12 x2 x3 x10).bind fun r9 => (if (decide ((w64 (r9.1 - x2)) < (w64 (x3 - r9.1)))) = true then ((Q47.f k4 r9.2.2 x2 r9.1 x8).bind fun r10 => (Q47.l0 k4 r10 (w64 (r9.1 + 1)) x3 x8 (decide ((w64 (Int.tdiv (w64 (x3 - x2)) 8)) ≤ (w64 (r9.1 - x2)))) r9.2.1)) else ((Q47.f k4 r9.2.2 (w64 (r9.1 + 1)) x3 x8).bind fun r11 => (Q47.l0 k4 r11 x2 r9.1 x8 (decide ((w64 (Int.tdiv (w64 (x3 - x2)) 8)) ≤ (w64 (x3 - r9.1)))) r9.2.1))))) = some r ∧ k4 ≤ k3 ∧ x12.length = a0.length) ?_ ?_
   ·refine jIf H (fun c9 H => ?_) fun c9 H => ?_
    ·refine J.seq (J.region ?_)
     refine Zm 3 ?_
     obtain ⟨r12, q21, H⟩ := Zp H
     refine Zh (Zi [0] (Q44.spec q21) h6 rfl Zt) ?_
     rintro _ w19 ⟨_, ⟨rfl, rfl, q22⟩, h22⟩
     replace h22 := nf h22
     have e15 : r12.2.length = a0.length := q22.trans e5
     refine Zn [0, 1, 2, 3, 8, 9, 10, 11, 72] rfl ?_
     refine J.envEq (env' := [(0, .slice A1 r12.2.length c_1), (1, .int .i64 x2), (2, .int .i64 x3), (3, .int .i64 x8), (8, .bool x5), (9, .bool x6), (10, .int .i64 (w64 (x3 - x2))), (11, .int .i64 x10), (72, .bool r12.1)]) (by simp only [q22, List.length_nil] <;> rfl) ?_
     refine jIf H (fun c10 H => ?_) fun c10 H => ?_
     ·refine J.ret ?_
      cases H
      exact ⟨_, _, _, Za, ⟨rfl, rfl, e15⟩, Zc h22 [0]⟩
     refine Wn [0, 1, 2, 3, 8, 9, 10, 11] ?_
     refine J.skip ?_
     have h23 := (sOR h22 [0] [])
     exact ⟨k3, r12.2, rfl, h23, H, Nat.le_refl _, e15⟩
    refine Wn [0, 1, 2, 3, 8, 9, 10, 11] ?_
    refine J.skip ?_
    have h24 := (sOR h6 [0] [])
    exact ⟨k3, x9, rfl, h24, H, Nat.le_refl _, e5⟩
   rintro env w10 ⟨k4, x12, rfl, h7, H, hk4, e6⟩
   refine J.seq (J.seq ?_)
   refine Zr h7 ?_
   have h8 := h7.drew
   refine Zv [0, 1, 2] ?_
   refine Xz 75 H (fun c5 H => ?_) fun c5 H => ?_
   ·refine Zv [3, 4, 5, 8, 9] ?_
    obtain ⟨⟨p1, p2⟩, H⟩ := Zo H
    have e7 := Z3 h8.wh (gO 0) p1 p2
    refine Ze 6 rfl (Zf e7 p1 p2) ?_
    refine Ze 7 rfl (Zg 0 wI (gO 0) p1 p2) ?_
    obtain ⟨⟨p3, p4⟩, H⟩ := Zo H
    refine Ze 10 rfl (Zf e7 p3 p4) ?_
    refine Ze 11 rfl (Zg 0 wI (gO 0) p3 p4) ?_
    obtain ⟨r4, q6, H⟩ := Zp H
    refine Zl 12 rfl (Zi [] (Q23.spec q6) h8 rfl Zt) ?_
    rintro _ w11 ⟨_, ⟨rfl, rfl⟩, h9⟩
    replace h9 := nf h9
    refine ⟨⟨[], h9⟩, ?_⟩
    refine Zv [13, 14] ?_
    refine Zy [0, 1, 2, 3, 8, 9, 10, 11, 87] ?_
    refine jIf H (fun c6 H => ?_) fun c6 H => ?_
    ·refine J.seq (J.region ?_)
     refine Zm 4 ?_
     obtain ⟨r5, q7, H⟩ := Zp H
     refine Zh (Zi [0] (Q45.spec q7) h9 rfl Zt) ?_
     rintro _ w12 ⟨_, ⟨rfl, rfl, q8⟩, h10⟩
     replace h10 := nf h10
     have e8 : r5.2.length = a0.length := q8.trans e6
     refine Zn [0, 2, 3, 8, 9, 13] rfl ?_
     refine J.envEq (env' := [(0, .slice A1 r5.2.length c_1), (2, .int .i64 x3), (3, .int .i64 x8), (8, .bool x5), (9, .bool x6), (13, .int .i64 r5.1)]) (by simp only [q8, List.length_nil] <;> rfl) ?_
     refine J.seq (Zb [0, 1, 2, 3, 8, 9] ?_)
     refine J.exit ?_
     have h11 := (sOR h10 [0] [])
     exact ⟨k4, by omega, r5.2, r5.1, x3, x8, x5, x6, rfl, h11, H, by omega, e8⟩
    refine J.skip (J.seq (J.region ?_))
    refine Zm 4 ?_
    obtain ⟨r6, q9, H⟩ := Zp H
    refine Zh (Zi [0] (Q46.spec q9) h9 rfl Zt) ?_
    rintro _ w13 ⟨_, ⟨rfl, rfl, q10⟩, h12⟩
    replace h12 := nf h12
    have e9 : r6.2.2.length = a0.length := q10.trans e6
    refine Zn [0, 1, 2, 3, 10, 14, 15] rfl ?_
    refine J.envEq (env' := [(0, .slice A1 r6.2.2.length c_1), (1, .int .i64 x2), (2, .int .i64 x3), (3, .int .i64 x8), (10, .int .i64 (w64 (x3 - x2))), (14, .int .i64 r6.1), (15, .bool r6.2.1)]) (by simp only [q10, List.length_nil] <;> rfl) ?_
    refine J.seq (Zb [0, 1, 2, 3, 9, 10, 14] ?_)
    refine J.seq (Zb [0, 1, 2, 3, 9, 10, 14, 16, 17] ?_)
    refine J.seq (Zb [0, 1, 2, 3, 9, 14, 16, 17, 18] ?_)
    refine J.seq (Zb [0, 1, 2, 3, 9, 14, 16, 17, 18, 113] ?_)
    refine jIf H (fun c7 H => ?_) fun c7 H => ?_
    ·refine J.seq (Zb [0, 1, 2, 3, 8, 9, 14] ?_)
     refine J.seq (J.region ?_)
     refine Zm 4 ?_
     obtain ⟨r7, q11, H⟩ := Zp H
     refine Zh (Zi [0] (ih k4 (by omega) q11) h12 rfl Zt) ?_
     rintro _ w14 ⟨_, ⟨rfl, rfl, q12⟩, h13⟩
     replace h13 := nf h13
     have e10 : r7.length = a0.length := q12.trans e9
     refine Zn [0, 2, 3, 8, 9, 14] rfl ?_
     refine J.envEq (env' := [(0, .slice A1 r7.length c_1), (2, .int .i64 x3), (3, .int .i64 x8), (8, .bool (decide ((w64 (Int.tdiv (w64 (x3 - x2)) 8)) ≤ (w64 (r6.1 - x2))))), (9, .bool r6.2.1), (14, .int .i64 r6.1)]) (by simp only [q12, List.length_nil] <;> rfl) ?_
     refine Zb [0, 1, 2, 3, 8, 9] ?_
     have h14 := (sOR h13 [0] [])
     exact ⟨k4, by omega, r7, (w64 (r6.1 + 1)), x3, x8, (decide ((w64 (Int.tdiv (w64 (x3 - x2)) 8)) ≤ (w64 (r6.1 - x2)))), r6.2.1, rfl, h14, H, by omega, e10⟩
    refine J.seq (Zb [0, 1, 2, 3, 8, 9, 14] ?_)
    refine J.seq (J.region ?_)
    refine Zm 5 ?_
    obtain ⟨r8, q13, H⟩ := Zp H
    refine Zh (Zi [0] (ih k4 (by omega) q13) h12 rfl Zt) ?_
    rintro _ w15 ⟨_, ⟨rfl, rfl, q14⟩, h15⟩
    replace h15 := nf h15
    have e11 : r8.length = a0.length := q14.trans e9
    refine Zn [0, 1, 3, 8, 9, 14] rfl ?_
    refine J.envEq (env' := [(0, .slice A1 r8.length c_1), (1, .int .i64 x2), (3, .int .i64 x8), (8, .bool (decide ((w64 (Int.tdiv (w64 (x3 - x2)) 8)) ≤ (w64 (x3 - r6.1))))), (9, .bool r6.2.1), (14, .int .i64 r6.1)]) (by simp only [q14, List.length_nil] <;> rfl) ?_
    refine Zb [0, 1, 2, 3, 8, 9] ?_
    have h16 := (sOR h15 [0] [])
    exact ⟨k4, by omega, r8, x2, r6.1, x8, (decide ((w64 (Int.tdiv (w64 (x3 - x2)) 8)) ≤ (w64 (x3 - r6.1)))), r6.2.1, rfl, h16, H, by omega, e11⟩
   refine Zv [3, 4, 5, 6, 7, 8, 9, 10, 11, 12, 13, 14] ?_
   refine Zy [0, 1, 2, 3, 8, 9, 10, 11, 87] ?_
   refine Zz ?_
   refine J.skip (J.seq (J.region ?_))
   refine Zm 4 ?_
   obtain ⟨r9, q15, H⟩ := Zp H
   refine Zh (Zi [0] (Q46.spec q15) h8 rfl Zt) ?_
   rintro _ w16 ⟨_, ⟨rfl, rfl, q16⟩, h17⟩
   replace h17 := nf h17
   have e12 : r9.2.2.length = a0.length := q16.trans e6
   refine Zn [0, 1, 2, 3, 10, 14, 15] rfl ?_
   refine J.envEq (env' := [(0, .slice A1 r9.2.2.length c_1), (1, .int .i64 x2), (2, .int .i64 x3), (3, .int .i64 x8), (10, .int .i64 (w64 (x3 - x2))), (14, .int .i64 r9.1), (15, .bool r9.2.1)]) (by simp only [q16, List.length_nil] <;> rfl) ?_
   refine J.seq (Zb [0, 1, 2, 3, 9, 10, 14] ?_)
   refine J.seq (Zb [0, 1, 2, 3, 9, 10, 14, 16, 17] ?_)
   refine J.seq (Zb [0, 1, 2, 3, 9, 14, 16, 17, 18] ?_)
   refine J.seq (Zb [0, 1, 2, 3, 9, 14, 16, 17, 18, 113] ?_)
   refine jIf H (fun c8 H => ?_) fun c8 H => ?_
   ·refine J.seq (Zb [0, 1, 2, 3, 8, 9, 14] ?_)
    refine J.seq (J.region ?_)
    refine Zm 4 ?_
    obtain ⟨r10, q17, H⟩ := Zp H
    refine Zh (Zi [0] (ih k4 (by omega) q17) h17 rfl Zt) ?_
    rintro _ w17 ⟨_, ⟨rfl, rfl, q18⟩, h18⟩
    replace h18 := nf h18
    have e13 : r10.length = a0.length := q18.trans e12
    refine Zn [0, 2, 3, 8, 9, 14] rfl ?_
    refine J.envEq (env' := [(0, .slice A1 r10.length c_1), (2, .int .i64 x3), (3, .int .i64 x8), (8, .bool (decide ((w64 (Int.tdiv (w64 (x3 - x2)) 8)) ≤ (w64 (r9.1 - x2))))), (9, .bool r9.2.1), (14, .int .i64 r9.1)]) (by simp only [q18, List.length_nil] <;> rfl) ?_
    refine Zb [0, 1, 2, 3, 8, 9] ?_
    have h19 := (sOR h18 [0] [])
    exact ⟨k4, by omega, r10, (w64 (r9.1 + 1)), x3, x8, (decide ((w64 (Int.tdiv (w64 (x3 - x2)) 8)) ≤ (w64 (r9.1 - x2)))), r9.2.1, rfl, h19, H, by omega, e13⟩
   refine J.seq (Zb [0, 1, 2, 3, 8, 9, 14] ?_)
   refine J.seq (J.region ?_)
   refine Zm 5 ?_
   obtain ⟨r11, q19, H⟩ := Zp H
   refine Zh (Zi [0] (ih k4 (by omega) q19) h17 rfl Zt) ?_
   rintro _ w18 ⟨_, ⟨rfl, rfl, q20⟩, h20⟩
   replace h20 := nf h20
   have e14 : r11.length = a0.length := q20.trans e12
   refine Zn [0, 1, 3, 8, 9, 14] rfl ?_
   refine J.envEq (env' := [(0, .slice A1 r11.length c_1), (1, .int .i64 x2), (3, .int .i64 x8), (8, .bool (decide ((w64 (Int.tdiv (w64 (x3 - x2)) 8)) ≤ (w64 (x3 - r9.1))))), (9, .bool r9.2.1), (14, .int .i64 r9.1)]) (by simp only [q20, List.length_nil] <;> rfl) ?_
   refine Zb [0, 1, 2, 3, 8, 9] ?_
   have h21 := (sOR h20 [0] [])
   exact ⟨k4, by omega, r11, x2, r9.1, x8, (decide ((w64 (Int.tdiv (w64 (x3 - x2)) 8)) ≤ (w64 (x3 - r9.1)))), r9.2.1, rfl, h21, H, by omega, e14⟩
  refine Zn [0, 1, 2, 3, 8, 9, 10, 11, 68] rfl ?_
  refine Zz ?_
  refine J.skip (J.seq (J.seq ?_))
  refine Zr h6 ?_
  have h25 := h6.drew
  refine Zv [0, 1, 2] ?_
  refine Xz 75 H (fun c11 H => ?_) fun c11 H => ?_
  ·refine Zv [3, 4, 5, 8, 9] ?_
   obtain ⟨⟨p5, p6⟩, H⟩ := Zo H
   have e16 := Z3 h25.wh (gO 0) p5 p6
   refine Ze 6 rfl (Zf e16 p5 p6) ?_
   refine Ze 7 rfl (Zg 0 wI (gO 0) p5 p6) ?_
   obtain ⟨⟨p7, p8⟩, H⟩ := Zo H
   refine Ze 10 rfl (Zf e16 p7 p8) ?_
   refine Ze 11 rfl (Zg 0 wI (gO 0) p7 p8) ?_
   obtain ⟨r13, q23, H⟩ := Zp H
   refine Zl 12 rfl (Zi [] (Q23.spec q23) h25 rfl Zt) ?_
   rintro _ w20 ⟨_, ⟨rfl, rfl⟩, h26⟩
   replace h26 := nf h26
   refine ⟨⟨[], h26⟩, ?_⟩
   refine Zv [13, 14] ?_
   refine Zy [0, 1, 2, 3, 8, 9, 10, 11, 87] ?_
   refine jIf H (fun c12 H => ?_) fun c12 H => ?_
   ·refine J.seq (J.region ?_)
    refine Zm 4 ?_
    obtain ⟨r14, q24, H⟩ := Zp H
    refine Zh (Zi [0] (Q45.spec q24) h26 rfl Zt) ?_
    rintro _ w21 ⟨_, ⟨rfl, rfl, q25⟩, h27⟩
    replace h27 := nf h27
    have e17 : r14.2.length = a0.length := q25.trans e5
    refine Zn [0, 2, 3, 8, 9, 13] rfl ?_
    refine J.envEq (env' := [(0, .slice A1 r14.2.length c_1), (2, .int .i64 x3), (3, .int .i64 x8), (8, .bool x5), (9, .bool x6), (13, .int .i64 r14.1)]) (by simp only [q25, List.length_nil] <;> rfl) ?_
    refine J.seq (Zb [0, 1, 2, 3, 8, 9] ?_)
    refine J.exit ?_
    have h28 := (sOR h27 [0] [])
    exact ⟨k3, by omega, r14.2, r14.1, x3, x8, x5, x6, rfl, h28, H, by omega, e17⟩
   refine J.skip (J.seq (J.region ?_))
   refine Zm 4 ?_
   obtain ⟨r15, q26, H⟩ := Zp H
   refine Zh (Zi [0] (Q46.spec q26) h26 rfl Zt) ?_
   rintro _ w22 ⟨_, ⟨rfl, rfl, q27⟩, h29⟩
   replace h29 := nf h29
   have e18 : r15.2.2.length = a0.length := q27.trans e5
   refine Zn [0, 1, 2, 3, 10, 14, 15] rfl ?_
   refine J.envEq (env' := [(0, .slice A1 r15.2.2.length c_1), (1, .int .i64 x2), (2, .int .i64 x3), (3, .int .i64 x8), (10, .int .i64 (w64 (x3 - x2))), (14, .int .i64 r15.1), (15, .bool r15.2.1)]) (by simp only [q27, List.length_nil] <;> rfl) ?_
   refine J.seq (Zb [0, 1, 2, 3, 9, 10, 14] ?_)
   refine J.seq (Zb [0, 1, 2, 3, 9, 10, 14, 16, 17] ?_)
   refine J.seq (Zb [0, 1, 2, 3, 9, 14, 16, 17, 18] ?_)
   refine J.seq (Zb [0, 1, 2, 3, 9, 14, 16, 17, 18, 113] ?_)
   refine jIf H (fun c13 H => ?_) fun c13 H => ?_
   ·refine J.seq (Zb [0, 1, 2, 3, 8, 9, 14] ?_)
    refine J.seq (J.region ?_)
    refine Zm 4 ?_
    obtain ⟨r16, q28, H⟩ := Zp H
    refine Zh (Zi [0] (ih k3 (by omega) q28) h29 rfl Zt) ?_
    rintro _ w23 ⟨_, ⟨rfl, rfl, q29⟩, h30⟩
    replace h30 := nf h30
    have e19 : r16.length = a0.length := q29.trans e18
    refine Zn [0, 2, 3, 8, 9, 14] rfl ?_
    refine J.envEq (env' := [(0, .slice A1 r16.length c_1), (2, .int .i64 x3), (3, .int .i64 x8), (8, .bool (decide ((w64 (Int.tdiv (w64 (x3 - x2)) 8)) ≤ (w64 (r15.1 - x2))))), (9, .bool r15.2.1), (14, .int .i64 r15.1)]) (by simp only [q29, List.length_nil] <;> rfl) ?_
    refine Zb [0, 1, 2, 3, 8, 9] ?_
    have h31 := (sOR h30 [0] [])
    exact ⟨k3, by omega, r16, (w64 (r15.1 + 1)), x3, x8, (decide ((w64 (Int.tdiv (w64 (x3 - x2)) 8)) ≤ (w64 (r15.1 - x2)))), r15.2.1, rfl, h31, H, by omega, e19⟩
   refine J.seq (Zb [0, 1, 2, 3, 8, 9, 14] ?_)
   refine J.seq (J.region ?_)
   refine Zm 5 ?_
   obtain ⟨r17, q30, H⟩ := Zp H
   refine Zh (Zi [0] (ih k3 (by omega) q30) h29 rfl Zt) ?_
   rintro _ w24 ⟨_, ⟨rfl, rfl, q31⟩, h32⟩
   replace h32 := nf h32
   have e20 : r17.length = a0.length := q31.trans e18
   refine Zn [0, 1, 3, 8, 9, 14] rfl ?_
   refine J.envEq (env' := [(0, .slice A1 r17.length c_1), (1, .int .i64 x2), (3, .int .i64 x8), (8, .bool (decide ((w64 (Int.tdiv (w64 (x3 - x2)) 8)) ≤ (w64 (x3 - r15.1))))), (9, .bool r15.2.1), (14, .int .i64 r15.1)]) (by simp only [q31, List.length_nil] <;> rfl) ?_
   refine Zb [0, 1, 2, 3, 8, 9] ?_
   have h33 := (sOR h32 [0] [])
   exact ⟨k3, by omega, r17, x2, r15.1, x8, (decide ((w64 (Int.tdiv (w64 (x3 - x2)) 8)) ≤ (w64 (x3 - r15.1)))), r15.2.1, rfl, h33, H, by omega, e20⟩
  refine Zv [3, 4, 5, 6, 7, 8, 9, 10, 11, 12, 13, 14] ?_
  refine Zy [0, 1, 2, 3, 8, 9, 10, 11, 87] ?_
  refine Zz ?_
  refine J.skip (J.seq (J.region ?_))
  refine Zm 4 ?_
  obtain ⟨r18, q32, H⟩ := Zp H
  refine Zh (Zi [0] (Q46.spec q32) h25 rfl Zt) ?_
  rintro _ w25 ⟨_, ⟨rfl, rfl, q33⟩, h34⟩
  replace h34 := nf h34
  have e21 : r18.2.2.length = a0.length := q33.trans e5
  refine Zn [0, 1, 2, 3, 10, 14, 15] rfl ?_
  refine J.envEq (env' := [(0, .slice A1 r18.2.2.length c_1), (1, .int .i64 x2), (2, .int .i64 x3), (3, .int .i64 x8), (10, .int .i64 (w64 (x3 - x2))), (14, .int .i64 r18.1), (15, .bool r18.2.1)]) (by simp only [q33, List.length_nil] <;> rfl) ?_
  refine J.seq (Zb [0, 1, 2, 3, 9, 10, 14] ?_)
  refine J.seq (Zb [0, 1, 2, 3, 9, 10, 14, 16, 17] ?_)
  refine J.seq (Zb [0, 1, 2, 3, 9, 14, 16, 17, 18] ?_)
  refine J.seq (Zb [0, 1, 2, 3, 9, 14, 16, 17, 18, 113] ?_)
  refine jIf H (fun c14 H => ?_) fun c14 H => ?_
  ·refine J.seq (Zb [0, 1, 2, 3, 8, 9, 14] ?_)
   refine J.seq (J.region ?_)
   refine Zm 4 ?_
   obtain ⟨r19, q34, H⟩ := Zp H
   refine Zh (Zi [0] (ih k3 (by omega) q34) h34 rfl Zt) ?_
   rintro _ w26 ⟨_, ⟨rfl, rfl, q35⟩, h35⟩
   replace h35 := nf h35
   have e22 : r19.length = a0.length := q35.trans e21
   refine Zn [0, 2, 3, 8, 9, 14] rfl ?_
   refine J.envEq (env' := [(0, .slice A1 r19.length c_1), (2, .int .i64 x3), (3, .int .i64 x8), (8, .bool (decide ((w64 (Int.tdiv (w64 (x3 - x2)) 8)) ≤ (w64 (r18.1 - x2))))), (9, .bool r18.2.1), (14, .int .i64 r18.1)]) (by simp only [q35, List.length_nil] <;> rfl) ?_
   refine Zb [0, 1, 2, 3, 8, 9] ?_
   have h36 := (sOR h35 [0] [])
   exact ⟨k3, by omega, r19, (w64 (r18.1 + 1)), x3, x8, (decide ((w64 (Int.tdiv (w64 (x3 - x2)) 8)) ≤ (w64 (r18.1 - x2)))), r18.2.1, rfl, h36, H, by omega, e22⟩
  refine J.seq (Zb [0, 1, 2, 3, 8, 9, 14] ?_)
  refine J.seq (J.region ?_)
  refine Zm 5 ?_
  obtain ⟨r20, q36, H⟩ := Zp H
  refine Zh (Zi [0] (ih k3 (by omega) q36) h34 rfl Zt) ?_
  rintro _ w27 ⟨_, ⟨rfl, rfl, q37⟩, h37⟩
  replace h37 := nf h37
  have e23 : r20.length = a0.length := q37.trans e21
  refine Zn [0, 1, 3, 8, 9, 14] rfl ?_
  refine J.envEq (env' := [(0, .slice A1 r20.length c_1), (1, .int .i64 x2), (3, .int .i64 x8), (8, .bool (decide ((w64 (Int.tdiv (w64 (x3 - x2)) 8)) ≤ (w64 (x3 - r18.1))))), (9, .bool r18.2.1), (14, .int .i64 r18.1)]) (by simp only [q37, List.length_nil] <;> rfl) ?_
  refine Zb [0, 1, 2, 3, 8, 9] ?_
  have h38 := (sOR h37 [0] [])
  exact ⟨k3, by omega, r20, x2, r18.1, x8, (decide ((w64 (Int.tdiv (w64 (x3 - x2)) 8)) ≤ (w64 (x3 - r18.1)))), r18.2.1, rfl, h38, H, by omega, e23⟩
 refine Zn [0, 1, 2, 3, 8, 9, 10, 11, 68] rfl ?_
 refine Zz ?_
 refine J.skip (J.seq (J.seq ?_))
 refine Zr h6 ?_
 have h39 := h6.drew
 refine Zv [0, 1, 2] ?_
 refine Xz 75 H (fun c15 H => ?_) fun c15 H => ?_
 ·refine Zv [3, 4, 5, 8, 9] ?_
  obtain ⟨⟨p9, p10⟩, H⟩ := Zo H
  have e24 := Z3 h39.wh (gO 0) p9 p10
  refine Ze 6 rfl (Zf e24 p9 p10) ?_
  refine Ze 7 rfl (Zg 0 wI (gO 0) p9 p10) ?_
  obtain ⟨⟨p11, p12⟩, H⟩ := Zo H
  refine Ze 10 rfl (Zf e24 p11 p12) ?_
  refine Ze 11 rfl (Zg 0 wI (gO 0) p11 p12) ?_
  obtain ⟨r21, q38, H⟩ := Zp H
  refine Zl 12 rfl (Zi [] (Q23.spec q38) h39 rfl Zt) ?_
  rintro _ w28 ⟨_, ⟨rfl, rfl⟩, h40⟩
  replace h40 := nf h40
  refine ⟨⟨[], h40⟩, ?_⟩
  refine Zv [13, 14] ?_
  refine Zy [0, 1, 2, 3, 8, 9, 10, 11, 87] ?_
  refine jIf H (fun c16 H => ?_) fun c16 H => ?_
  ·refine J.seq (J.region ?_)
   refine Zm 4 ?_
   obtain ⟨r22, q39, H⟩ := Zp H
   refine Zh (Zi [0] (Q45.spec q39) h40 rfl Zt) ?_
   rintro _ w29 ⟨_, ⟨rfl, rfl, q40⟩, h41⟩
   replace h41 := nf h41
   have e25 : r22.2.length = a0.length := q40.trans e5
   refine Zn [0, 2, 3, 8, 9, 13] rfl ?_
   refine J.envEq (env' := [(0, .slice A1 r22.2.length c_1), (2, .int .i64 x3), (3, .int .i64 x8), (8, .bool x5), (9, .bool x6), (13, .int .i64 r22.1)]) (by simp only [q40, List.length_nil] <;> rfl) ?_
   refine J.seq (Zb [0, 1, 2, 3, 8, 9] ?_)
   refine J.exit ?_
   have h42 := (sOR h41 [0] [])
   exact ⟨k3, by omega, r22.2, r22.1, x3, x8, x5, x6, rfl, h42, H, by omega, e25⟩
  refine J.skip (J.seq (J.region ?_))
  refine Zm 4 ?_
  obtain ⟨r23, q41, H⟩ := Zp H
  refine Zh (Zi [0] (Q46.spec q41) h40 rfl Zt) ?_
  rintro _ w30 ⟨_, ⟨rfl, rfl, q42⟩, h43⟩
  replace h43 := nf h43
  have e26 : r23.2.2.length = a0.length := q42.trans e5
  refine Zn [0, 1, 2, 3, 10, 14, 15] rfl ?_
  refine J.envEq (env' := [(0, .slice A1 r23.2.2.length c_1), (1, .int .i64 x2), (2, .int .i64 x3), (3, .int .i64 x8), (10, .int .i64 (w64 (x3 - x2))), (14, .int .i64 r23.1), (15, .bool r23.2.1)]) (by simp only [q42, List.length_nil] <;> rfl) ?_
  refine J.seq (Zb [0, 1, 2, 3, 9, 10, 14] ?_)
  refine J.seq (Zb [0, 1, 2, 3, 9, 10, 14, 16, 17] ?_)
  refine J.seq (Zb [0, 1, 2, 3, 9, 14, 16, 17, 18] ?_)
  refine J.seq (Zb [0, 1, 2, 3, 9, 14, 16, 17, 18, 113] ?_)
  refine jIf H (fun c17 H => ?_) fun c17 H => ?_
  ·refine J.seq (Zb [0, 1, 2, 3, 8, 9, 14] ?_)
   refine J.seq (J.region ?_)
   refine Zm 4 ?_
   obtain ⟨r24, q43, H⟩ := Zp H
   refine Zh (Zi [0] (ih k3 (by omega) q43) h43 rfl Zt) ?_
   rintro _ w31 ⟨_, ⟨rfl, rfl, q44⟩, h44⟩
   replace h44 := nf h44
   have e27 : r24.length = a0.length := q44.trans e26
   refine Zn [0, 2, 3, 8, 9, 14] rfl ?_
   refine J.envEq (env' := [(0, .slice A1 r24.length c_1), (2, .int .i64 x3), (3, .int .i64 x8), (8, .bool (decide ((w64 (Int.tdiv (w64 (x3 - x2)) 8)) ≤ (w64 (r23.1 - x2))))), (9, .bool r23.2.1), (14, .int .i64 r23.1)]) (by simp only [q44, List.length_nil] <;> rfl) ?_
   refine Zb [0, 1, 2, 3, 8, 9] ?_
   have h45 := (sOR h44 [0] [])
   exact ⟨k3, by omega, r24, (w64 (r23.1 + 1)), x3, x8, (decide ((w64 (Int.tdiv (w64 (x3 - x2)) 8)) ≤ (w64 (r23.1 - x2)))), r23.2.1, rfl, h45, H, by omega, e27⟩
  refine J.seq (Zb [0, 1, 2, 3, 8, 9, 14] ?_)
  refine J.seq (J.region ?_)
  refine Zm 5 ?_
  obtain ⟨r25, q45, H⟩ := Zp H
  refine Zh (Zi [0] (ih k3 (by omega) q45) h43 rfl Zt) ?_
  rintro _ w32 ⟨_, ⟨rfl, rfl, q46⟩, h46⟩
  replace h46 := nf h46
  have e28 : r25.length = a0.length := q46.trans e26
  refine Zn [0, 1, 3, 8, 9, 14] rfl ?_
  refine J.envEq (env' := [(0, .slice A1 r25.length c_1), (1, .int .i64 x2), (3, .int .i64 x8), (8, .bool (decide ((w64 (Int.tdiv (w64 (x3 - x2)) 8)) ≤ (w64 (x3 - r23.1))))), (9, .bool r23.2.1), (14, .int .i64 r23.1)]) (by simp only [q46, List.length_nil] <;> rfl) ?_
  refine Zb [0, 1, 2, 3, 8, 9] ?_
  have h47 := (sOR h46 [0] [])
  exact ⟨k3, by omega, r25, x2, r23.1, x8, (decide ((w64 (Int.tdiv (w64 (x3 - x2)) 8)) ≤ (w64 (x3 - r23.1)))), r23.2.1, rfl, h47, H, by omega, e28⟩
 refine Zv [3, 4, 5, 6, 7, 8, 9, 10, 11, 12, 13, 14] ?_
 refine Zy [0, 1, 2, 3, 8, 9, 10, 11, 87] ?_
 refine Zz ?_
 refine J.skip (J.seq (J.region ?_))
 refine Zm 4 ?_
 obtain ⟨r26, q47, H⟩ := Zp H
 refine Zh (Zi [0] (Q46.spec q47) h39 rfl Zt) ?_
 rintro _ w33 ⟨_, ⟨rfl, rfl, q48⟩, h48⟩
 replace h48 := nf h48
 have e29 : r26.2.2.length = a0.length := q48.trans e5
 refine Zn [0, 1, 2, 3, 10, 14, 15] rfl ?_
 refine J.envEq (env' := [(0, .slice A1 r26.2.2.length c_1), (1, .int .i64 x2), (2, .int .i64 x3), (3, .int .i64 x8), (10, .int .i64 (w64 (x3 - x2))), (14, .int .i64 r26.1), (15, .bool r26.2.1)]) (by simp only [q48, List.length_nil] <;> rfl) ?_
 refine J.seq (Zb [0, 1, 2, 3, 9, 10, 14] ?_)
 refine J.seq (Zb [0, 1, 2, 3, 9, 10, 14, 16, 17] ?_)
 refine J.seq (Zb [0, 1, 2, 3, 9, 14, 16, 17, 18] ?_)
 refine J.seq (Zb [0, 1, 2, 3, 9, 14, 16, 17, 18, 113] ?_)
 refine jIf H (fun c18 H => ?_) fun c18 H => ?_
 ·refine J.seq (Zb [0, 1, 2, 3, 8, 9, 14] ?_)
  refine J.seq (J.region ?_)
  refine Zm 4 ?_
  obtain ⟨r27, q49, H⟩ := Zp H
  refine Zh (Zi [0] (ih k3 (by omega) q49) h48 rfl Zt) ?_
  rintro _ w34 ⟨_, ⟨rfl, rfl, q50⟩, h49⟩
  replace h49 := nf h49
  have e30 : r27.length = a0.length := q50.trans e29
  refine Zn [0, 2, 3, 8, 9, 14] rfl ?_
  refine J.envEq (env' := [(0, .slice A1 r27.length c_1), (2, .int .i64 x3), (3, .int .i64 x8), (8, .bool (decide ((w64 (Int.tdiv (w64 (x3 - x2)) 8)) ≤ (w64 (r26.1 - x2))))), (9, .bool r26.2.1), (14, .int .i64 r26.1)]) (by simp only [q50, List.length_nil] <;> rfl) ?_
  refine Zb [0, 1, 2, 3, 8, 9] ?_
  have h50 := (sOR h49 [0] [])
  exact ⟨k3, by omega, r27, (w64 (r26.1 + 1)), x3, x8, (decide ((w64 (Int.tdiv (w64 (x3 - x2)) 8)) ≤ (w64 (r26.1 - x2)))), r26.2.1, rfl, h50, H, by omega, e30⟩
 refine J.seq (Zb [0, 1, 2, 3, 8, 9, 14] ?_)
 refine J.seq (J.region ?_)
 refine Zm 5 ?_
 obtain ⟨r28, q51, H⟩ := Zp H
 refine Zh (Zi [0] (ih k3 (by omega) q51) h48 rfl Zt) ?_
 rintro _ w35 ⟨_, ⟨rfl, rfl, q52⟩, h51⟩
 replace h51 := nf h51
 have e31 : r28.length = a0.length := q52.trans e29
 refine Zn [0, 1, 3, 8, 9, 14] rfl ?_
 refine J.envEq (env' := [(0, .slice A1 r28.length c_1), (1, .int .i64 x2), (3, .int .i64 x8), (8, .bool (decide ((w64 (Int.tdiv (w64 (x3 - x2)) 8)) ≤ (w64 (x3 - r26.1))))), (9, .bool r26.2.1), (14, .int .i64 r26.1)]) (by simp only [q52, List.length_nil] <;> rfl) ?_
 refine Zb [0, 1, 2, 3, 8, 9] ?_
 have h52 := (sOR h51 [0] [])
 exact ⟨k3, by omega, r28, x2, r26.1, x8, (decide ((w64 (Int.tdiv (w64 (x3 - x2)) 8)) ≤ (w64 (x3 - r26.1)))), r26.2.1, rfl, h52, H, by omega, e31⟩

def Q35.f (k : Nat) (a0 : List (Int)) : Option (List (Int)) := (Q0.f (IntKind.u64.wrap ((a0.length : Int)))).bind fun r1 => ((Q47.f k a0 0 (a0.length : Int) r1).bind fun r2 => (some r2))
theorem Q35.spec {k : Nat} {a0 : List (Int)} {A1 : Option Addr} {c_1 : Nat} {r : List (Int)} (H : Q35.f k a0 = some r) :
  Spec Try.prog 144 [.slice A1 a0.length c_1] [O23 a0 A1 c_1] [] (fun v l => v = .tuple #[] ∧ l = [O23 r A1 c_1] ∧ r.length = a0.length) := by
 refine Zs Try.func144 fun w0 F0 h0 => ?_
 unfold Q35.f at H
 refine J.seq (Zb [0, 2] ?_)
 refine J.region (Zm 4 ?_)
 obtain ⟨r1, q1, H⟩ := Zp H
 refine Zh (Zi [] (Q0.spec q1) h0 rfl Zt) ?_
 rintro _ w1 ⟨_, ⟨rfl, rfl⟩, h1⟩
 replace h1 := nf h1
 obtain ⟨r2, q2, H⟩ := Zp H
 refine Zh (Zi [0] (Q47.spec q2) h1 rfl Zt) ?_
 rintro _ w2 ⟨_, ⟨rfl, rfl, q3⟩, h2⟩
 replace h2 := nf h2
 have e1 : r2.length = a0.length := q3.trans (rfl : a0.length = a0.length)
 refine Zn [] rfl ?_
 cases H
 exact ⟨_, _, _, Za, ⟨rfl, rfl, e1⟩, Zc h2 [0]⟩

end Go.SK.T
