/- The functions, further. -/
import Derived.Test.YtoohimccifdbeaaGreatXCodeReadsF0
set_option linter.unusedVariables false
set_option linter.unusedSimpArgs false
set_option maxRecDepth 20000
set_option maxHeartbeats 40000000
namespace Go.SK.T
open Go Go.SK Go.Proofs
mutual
def Q59.l0 : Nat → (Int) → (List (Int)) → (Int) → (Int) → Option (Int × List (Int))
 | 0, _, _, _, _ => none
 | k + 1, a1, x1, x2, x3 => Q59.l1 k a1 x1 x3 x2
def Q59.l1 : Nat → (Int) → (List (Int)) → (Int) → (Int) → Option (Int × List (Int))
 | 0, _, _, _, _ => none
 | k + 1, a1, x1, x3, x4 => if (decide (x4 ≤ x3)) = true then (if 0 ≤ a1 ∧ a1 < (x1.length : Int) then (if 0 ≤ x4 ∧ x4 < (x1.length : Int) then ((Q4.f (gt x1 a1) (gt x1 x4)).bind fun r1 => (if (!r1) = true then (Q59.l1 k a1 x1 x3 (w64 (x4 + 1))) else (Q59.l2 k a1 x1 x4 x3))) else none) else none) else (Q59.l3 k a1 x1 x3 x4)
def Q59.l2 : Nat → (Int) → (List (Int)) → (Int) → (Int) → Option (Int × List (Int))
 | 0, _, _, _, _ => none
 | k + 1, a1, x1, x4, x5 => if (decide (x4 ≤ x5)) = true then (if 0 ≤ x5 ∧ x5 < (x1.length : Int) then ((Q4.f (gt x1 a1) (gt x1 x5)).bind fun r2 => (if r2 = true then (Q59.l2 k a1 x1 x4 (w64 (x5 - 1))) else (if (decide (x5 < x4)) = true then (some (x4, x1)) else (Q59.l0 k a1 ((x1.set x4.toNat (gt x1 x5)).set x5.toNat (gt x1 x4)) (w64 (x4 + 1)) (w64 (x5 - 1)))))) else none) else (if (decide (x5 < x4)) = true then (some (x4, x1)) else (if 0 ≤ x5 ∧ x5 < (x1.length : Int) then (Q59.l0 k a1 ((x1.set x4.toNat (gt x1 x5)).set x5.toNat (gt x1 x4)) (w64 (x4 + 1)) (w64 (x5 - 1))) else none))
def Q59.l3 : Nat → (Int) → (List (Int)) → (Int) → (Int) → Option (Int × List (Int))
 | 0, _, _, _, _ => none
 | k + 1, a1, x1, x3, x4 => if (decide (x3 < x4)) = true then (some (x4, x1)) else (if 0 ≤ x3 ∧ x3 < (x1.length : Int) then (if 0 ≤ x4 ∧ x4 < (x1.length : Int) then (Q59.l0 k a1 ((x1.set x4.toNat (gt x1 x3)).set x3.toNat (gt x1 x4)) (w64 (x4 + 1)) (w64 (x3 - 1))) else none) else none)
end
def Q59.f (k : Nat) (a0 : List (Int)) (a1 : Int) (a2 : Int) (a3 : Int) : Option (Int × List (Int)) := if 0 ≤ a3 ∧ a3 < (a0.length : Int) then (if 0 ≤ a1 ∧ a1 < (a0.length : Int) then (Q59.l0 k a1 ((a0.set a1.toNat (gt a0 a3)).set a3.toNat (gt a0 a1)) (w64 (a1 + 1)) (w64 (a2 - 1))) else none) else none
theorem Q59.spec {k : Nat} {a0 : List (Int)} {a1 : Int} {a2 : Int} {a3 : Int} {A1 : Option Addr} {c_1 : Nat} {r : Int × List (Int)} (H : Q59.f k a0 a1 a2 a3 = some r) :
  Spec Tryz.prog 107 [.slice A1 a0.length c_1, .int .i64 a1, .int .i64 a2, .int .i64 a3] [Zf 70 (.int .u32) a0 (.slice A1 a0.length c_1)] [] (fun v l => v = .int .i64 r.1 ∧ l = [Zf 70 (.int .u32) r.2 (.slice A1 r.2.length c_1)] ∧ r.2.length = a0.length) := by
 refine Spec.enter Tryz.func107 rfl (by kernel_rfl) (by kernel_rfl) fun w0 F0 h0 => ?_
 unfold Q59.f at H
 refine J.seq (J.region ?_)
 refine RJ.run Za 1 rfl (RJ.fin [(0, .slice A1 a0.length c_1), (1, .int .i64 a1), (2, .int .i64 a2), (3, .int .i64 a3)] rfl (J.seq ?_))
 obtain ⟨⟨p1, p2⟩, H⟩ := Zo H
 obtain ⟨⟨p3, p4⟩, H⟩ := Zo H
 refine J.midS (fun env w => env = [(0, .slice A1 ((a0.set a1.toNat (gt a0 a3)).set a3.toNat (gt a0 a1)).length c_1), (1, .int .i64 a1), (2, .int .i64 a2)] ∧ St w0 F0 [Zf 70 (.int .u32) ((a0.set a1.toNat (gt a0 a3)).set a3.toNat (gt a0 a1)) (.slice A1 ((a0.set a1.toNat (gt a0 a3)).set a3.toNat (gt a0 a1)).length c_1)] [] w) ?_ ?_
 ·refine J.heldSt mix (h0.only [] rfl) ?_
  have h3 := h0.drew
  refine HJ.run Za rfl [0, 1, 2, 3, 4, 5, 8, 9] rfl ?_
  have e4 := Zy h3.wh (Gives.of 0 rfl Zl) p1 p2
  refine HJ.q (i := 6) rfl rfl rfl rfl rfl rfl (Zk Za rfl rfl rfl rfl rfl e4 p1 p2) (HJ.q (i := 10) rfl rfl rfl rfl rfl rfl (Zk Za rfl rfl rfl rfl rfl e4 p3 p4) (HJ.pick [7, 11] (i := 7) rfl rfl rfl rfl ((Zs ?_ (Zs ?_ Z4)))))
  ·refine HS.op (i := 7) rfl rfl rfl (OpT.ofq (Ze (f := 0) Za rfl h3.wht (Gives.of 0 rfl Zl) p1 p2 rfl rfl rfl rfl rfl)) ?_
   rintro _ _ ⟨rfl, rfl⟩
   replace h3 : St w0 F0 [Zf 70 (.int .u32) a0 (.slice A1 a0.length c_1)] _ _ := h3
   refine ⟨⟨[_], h3⟩, ?_⟩
   refine HJ.op (i := 11) rfl rfl rfl rfl rfl (OpT.ofq (Ze (f := 0) Za rfl h3.wht (Gives.of 0 rfl Zl) p3 p4 rfl rfl rfl rfl rfl)) ?_
   rintro _ _ ⟨rfl, rfl⟩
   replace h3 : St w0 F0 [_] _ _ := h3
   refine ⟨⟨[_], h3⟩, ?_⟩
   refine HJ.q (i := 12) rfl rfl rfl rfl rfl rfl (Zk Za rfl rfl rfl rfl rfl e4 p3 p4) (HJ.op (i := 13) rfl rfl rfl rfl rfl (Zp (ty := (.int .u32)) (f := 0) (ix := a1) Za rfl (gt a0 a3) 0 rfl h3 rfl rfl p3 p4 rfl rfl rfl rfl rfl rfl rfl) ?_)
   intro _ w3 h4
   replace h4 : St w0 F0 [Zf 70 (.int .u32) (a0.set a1.toNat (gt a0 a3)) (.slice A1 (a0.set a1.toNat (gt a0 a3)).length c_1)] _ _ := h4
   refine ⟨⟨[_], h4⟩, ?_⟩
   have e5 : (a0.set a1.toNat (gt a0 a3)).length = a0.length := List.length_set.trans (rfl : a0.length = a0.length)
   refine HJ.q (i := 14) rfl rfl rfl rfl rfl rfl (Zk Za rfl rfl rfl rfl rfl e4 p1 p2) (HJ.op (i := 15) rfl rfl rfl rfl rfl (Zp (ty := (.int .u32)) (f := 0) (ix := a3) Za rfl (gt a0 a1) 0 rfl h4 rfl rfl p1 (by simpa only [List.length_set] using p2) rfl rfl rfl rfl rfl rfl rfl) ?_)
   intro _ w4 h5
   replace h5 : St w0 F0 [Zf 70 (.int .u32) ((a0.set a1.toNat (gt a0 a3)).set a3.toNat (gt a0 a1)) (.slice A1 ((a0.set a1.toNat (gt a0 a3)).set a3.toNat (gt a0 a1)).length c_1)] _ _ := h5
   refine ⟨⟨[_], h5⟩, ?_⟩
   have e6 : ((a0.set a1.toNat (gt a0 a3)).set a3.toNat (gt a0 a1)).length = a0.length := List.length_set.trans e5
   refine HJ.fin [(0, .slice A1 a0.length c_1), (1, .int .i64 a1), (2, .int .i64 a2)] rfl rfl ?_
   exact Zq ⟨(by simp only [List.length_set]), ((h5.only [0] rfl).rds [] rfl)⟩
  ·refine HS.op (i := 11) rfl rfl rfl (OpT.ofq (Ze (f := 0) Za rfl h3.wht (Gives.of 0 rfl Zl) p3 p4 rfl rfl rfl rfl rfl)) ?_
   rintro _ _ ⟨rfl, rfl⟩
   replace h3 : St w0 F0 [Zf 70 (.int .u32) a0 (.slice A1 a0.length c_1)] _ _ := h3
   refine ⟨⟨[_], h3⟩, ?_⟩
   refine HJ.op (i := 7) rfl rfl rfl rfl rfl (OpT.ofq (Ze (f := 0) Za rfl h3.wht (Gives.of 0 rfl Zl) p1 p2 rfl rfl rfl rfl rfl)) ?_
   rintro _ _ ⟨rfl, rfl⟩
   replace h3 : St w0 F0 [_] _ _ := h3
   refine ⟨⟨[_], h3⟩, ?_⟩
   refine HJ.q (i := 12) rfl rfl rfl rfl rfl rfl (Zk Za rfl rfl rfl rfl rfl e4 p3 p4) (HJ.op (i := 13) rfl rfl rfl rfl rfl (Zp (ty := (.int .u32)) (f := 0) (ix := a1) Za rfl (gt a0 a3) 0 rfl h3 rfl rfl p3 p4 rfl rfl rfl rfl rfl rfl rfl) ?_)
   intro _ w5 h6
   replace h6 : St w0 F0 [Zf 70 (.int .u32) (a0.set a1.toNat (gt a0 a3)) (.slice A1 (a0.set a1.toNat (gt a0 a3)).length c_1)] _ _ := h6
   refine ⟨⟨[_], h6⟩, ?_⟩
   have e7 : (a0.set a1.toNat (gt a0 a3)).length = a0.length := List.length_set.trans (rfl : a0.length = a0.length)
   refine HJ.q (i := 14) rfl rfl rfl rfl rfl rfl (Zk Za rfl rfl rfl rfl rfl e4 p1 p2) (HJ.op (i := 15) rfl rfl rfl rfl rfl (Zp (ty := (.int .u32)) (f := 0) (ix := a3) Za rfl (gt a0 a1) 0 rfl h6 rfl rfl p1 (by simpa only [List.length_set] using p2) rfl rfl rfl rfl rfl rfl rfl) ?_)
   intro _ w6 h7
   replace h7 : St w0 F0 [Zf 70 (.int .u32) ((a0.set a1.toNat (gt a0 a3)).set a3.toNat (gt a0 a1)) (.slice A1 ((a0.set a1.toNat (gt a0 a3)).set a3.toNat (gt a0 a1)).length c_1)] _ _ := h7
   refine ⟨⟨[_], h7⟩, ?_⟩
   have e8 : ((a0.set a1.toNat (gt a0 a3)).set a3.toNat (gt a0 a1)).length = a0.length := List.length_set.trans e7
   refine HJ.fin [(0, .slice A1 a0.length c_1), (1, .int .i64 a1), (2, .int .i64 a2)] rfl rfl ?_
   exact Zq ⟨(by simp only [List.length_set]), ((h7.only [0] rfl).rds [] rfl)⟩
 rintro env w7 ⟨rfl, h8⟩
 have e9 : ((a0.set a1.toNat (gt a0 a3)).set a3.toNat (gt a0 a1)).length = a0.length := by first | (simp only [List.length_set]; done) | (simp only [List.length_set]; exact (rfl : a0.length = a0.length))
 refine J.seq (J.region ?_)
 refine RJ.run Za 6 rfl (RJ.fin [(0, .slice A1 ((a0.set a1.toNat (gt a0 a3)).set a3.toNat (gt a0 a1)).length c_1), (1, _), (9, .int .i64 (w64 (a1 + 1))), (10, .int .i64 (w64 (a2 - 1)))] rfl (J.seq (J.block ?_)))
 have h50 := ((h8.only [0] rfl).rds [] rfl)
 refine J.loop (fun kk env w => ∃ (x1 : List (Int)) (x2 : Int) (x3 : Int), env = [(0, .slice A1 x1.length c_1), (1, .int .i64 a1), (9, .int .i64 x2), (10, .int .i64 x3)] ∧ St w0 F0 [Zf 70 (.int .u32) x1 (.slice A1 x1.length c_1)] [] w ∧ Q59.l0 kk a1 x1 x2 x3 = some r ∧ x1.length = a0.length) (k := k) ⟨((a0.set a1.toNat (gt a0 a3)).set a3.toNat (gt a0 a1)), (w64 (a1 + 1)), (w64 (a2 - 1)), rfl, h50, H, e9⟩ ?_
 rintro k1 env w8 ⟨x1, x2, x3, rfl, h9, H, e10⟩
 cases k1 with
 | zero => exact nomatch (show none = some r from H)
 | succ k1 =>
  rw [Q59.l0] at H
  refine J.block (J.seq (J.block ?_))
  have h49 := ((h9.only [0] rfl).rds [] rfl)
  refine J.loop (fun kk env w => ∃ (x4 : Int), env = [(0, .slice A1 x1.length c_1), (1, .int .i64 a1), (9, .int .i64 x4), (10, .int .i64 x3)] ∧ St w0 F0 [Zf 70 (.int .u32) x1 (.slice A1 x1.length c_1)] [] w ∧ Q59.l1 kk a1 x1 x3 x4 = some r ∧ kk ≤ k1) (k := k1) ⟨x2, rfl, h49, H, Nat.le_refl _⟩ ?_
  rintro k2 env w9 ⟨x4, rfl, h10, H, hk2⟩
  cases k2 with
  | zero => exact nomatch (show none = some r from H)
  | succ k2 =>
   rw [Q59.l1] at H
   refine J.seq (J.seq ?_)
   refine J.heldSt mix h10 ?_
   have h11 := h10.drew
   refine HJ.run Za rfl [0, 1, 2, 3] rfl ?_
   rcases Bool.eq_false_or_eq_true (decide (x4 ≤ x3)) with c1 | c1
   ·replace H := Zi c1 H
    refine HJ.know (t := 32) rfl (congrArg Value.bool c1) (HJ.run Za rfl [4, 5, 8, 9] rfl ?_)
    obtain ⟨⟨p5, p6⟩, H⟩ := Zo H
    have e11 := Zy h11.wh (Gives.of 0 rfl Zl) p5 p6
    refine HJ.q (i := 6) rfl rfl rfl rfl rfl rfl (Zk Za rfl rfl rfl rfl rfl e11 p5 p6) (HJ.q (i := 7) rfl rfl rfl rfl rfl rfl (Ze (f := 0) Za rfl (fun w e => e) (Gives.of 0 rfl Zl) p5 p6 rfl rfl rfl rfl rfl) ?_)
    obtain ⟨⟨p7, p8⟩, H⟩ := Zo H
    refine HJ.q (i := 10) rfl rfl rfl rfl rfl rfl (Zk Za rfl rfl rfl rfl rfl e11 p7 p8) (HJ.q (i := 11) rfl rfl rfl rfl rfl rfl (Ze (f := 0) Za rfl (fun w e => e) (Gives.of 0 rfl Zl) p7 p8 rfl rfl rfl rfl rfl) ?_)
    obtain ⟨r1, q1, H⟩ := Zj H
    refine HJ.op (i := 12) rfl rfl rfl rfl rfl (Zd [] (Q4.spec q1) rfl rfl rfl h11 rfl Zm) ?_
    rintro _ w10 ⟨_, ⟨rfl, rfl⟩, h12⟩
    replace h12 : St w0 F0 [_] _ _ := h12
    refine ⟨⟨[], h12⟩, ?_⟩
    refine HJ.run Za rfl [13, 14] rfl (HJ.fin [(0, _), (1, _), (9, _), (10, _), (43, .bool (!r1))] rfl rfl (J.cond rfl (fun c2 => ?_) (fun c2 => ?_)))
    ·replace H := Zi c2 H
     refine J.skip (J.block (J.region ?_))
     refine RJ.run Za 3 rfl (RJ.fin [(0, _), (1, _), (9, .int .i64 (w64 (x4 + 1))), (10, _)] rfl ?_)
     have h13 := ((h12.only [0] rfl).rds [] rfl)
     exact ⟨k2, by omega, (w64 (x4 + 1)), rfl, h13, H, by omega⟩
    replace H := Zg c2 H
    refine J.exit (J.seq (J.block ?_))
    refine J.narrow [(0, _), (1, _), (9, _), (10, _)] rfl ?_
    have h36 := ((h12.only [0] rfl).rds [] rfl)
    refine J.loop (fun kk env w => ∃ (x5 : Int), env = [(0, .slice A1 x1.length c_1), (1, .int .i64 a1), (9, .int .i64 x4), (10, .int .i64 x5)] ∧ St w0 F0 [Zf 70 (.int .u32) x1 (.slice A1 x1.length c_1)] [] w ∧ Q59.l2 kk a1 x1 x4 x5 = some r ∧ kk ≤ k2) (k := k2) ⟨x3, rfl, h36, H, Nat.le_refl _⟩ ?_
    rintro k3 env w11 ⟨x5, rfl, h14, H, hk3⟩
    cases k3 with
    | zero => exact nomatch (show none = some r from H)
    | succ k3 =>
     rw [Q59.l2] at H
     refine J.seq (J.seq ?_)
     refine J.heldSt mix h14 ?_
     have h15 := h14.drew
     refine HJ.run Za rfl [0, 1, 2, 3] rfl ?_
     rcases Bool.eq_false_or_eq_true (decide (x4 ≤ x5)) with c3 | c3
     ·replace H := Zi c3 H
      refine HJ.know (t := 49) rfl (congrArg Value.bool c3) (HJ.run Za rfl [4, 5, 8, 9] rfl (HJ.q (i := 6) rfl rfl rfl rfl rfl rfl (Zk Za rfl rfl rfl rfl rfl e11 p5 p6) (HJ.q (i := 7) rfl rfl rfl rfl rfl rfl (Ze (f := 0) Za rfl (fun w e => e) (Gives.of 0 rfl Zl) p5 p6 rfl rfl rfl rfl rfl) ?_)))
      obtain ⟨⟨p9, p10⟩, H⟩ := Zo H
      refine HJ.q (i := 10) rfl rfl rfl rfl rfl rfl (Zk Za rfl rfl rfl rfl rfl e11 p9 p10) (HJ.q (i := 11) rfl rfl rfl rfl rfl rfl (Ze (f := 0) Za rfl (fun w e => e) (Gives.of 0 rfl Zl) p9 p10 rfl rfl rfl rfl rfl) ?_)
      obtain ⟨r2, q2, H⟩ := Zj H
      refine HJ.op (i := 12) rfl rfl rfl rfl rfl (Zd [] (Q4.spec q2) rfl rfl rfl h15 rfl Zm) ?_
      rintro _ w12 ⟨_, ⟨rfl, rfl⟩, h16⟩
      replace h16 : St w0 F0 [_] _ _ := h16
      refine ⟨⟨[], h16⟩, ?_⟩
      refine HJ.run Za rfl [13] rfl (HJ.fin [(0, _), (1, _), (9, _), (10, _), (59, .bool r2)] rfl rfl (J.cond rfl (fun c4 => ?_) (fun c4 => ?_)))
      ·replace H := Zi c4 H
       refine J.skip (J.block (J.region ?_))
       refine RJ.run Za 3 rfl (RJ.fin [(0, _), (1, _), (9, _), (10, .int .i64 (w64 (x5 - 1)))] rfl ?_)
       have h17 := ((h16.only [0] rfl).rds [] rfl)
       exact ⟨k3, by omega, (w64 (x5 - 1)), rfl, h17, H, by omega⟩
      replace H := Zg c4 H
      refine J.exit (J.seq (J.seq (J.region ?_)))
      refine RJ.run Za 3 rfl (RJ.fin [(0, _), (1, _), (9, _), (10, _), (64, .bool (decide (x5 < x4)))] rfl (J.cond rfl (fun c5 => ?_) (fun c5 => ?_)))
      ·replace H := Zi c5 H
       refine J.exit (J.seq (J.region ?_))
       refine RJ.run Za 2 rfl (RJ.fin [(8, .int .i64 x4)] rfl (J.ret ?_))
       obtain rfl := Option.some.inj H
       exact ⟨_, _, _, (Zb rfl), ⟨rfl, rfl, e10⟩, h16.only [0] rfl⟩
      replace H := Zg c5 H
      refine J.skip (J.seq (J.midS (fun env w => env = [(0, .slice A1 ((x1.set x4.toNat (gt x1 x5)).set x5.toNat (gt x1 x4)).length c_1), (1, .int .i64 a1), (9, .int .i64 x4), (10, .int .i64 x5)] ∧ St w0 F0 [Zf 70 (.int .u32) ((x1.set x4.toNat (gt x1 x5)).set x5.toNat (gt x1 x4)) (.slice A1 ((x1.set x4.toNat (gt x1 x5)).set x5.toNat (gt x1 x4)).length c_1)] [] w) ?_ ?_))
      ·refine J.heldSt mix (h16.only [] rfl) ?_
       have h20 := h16.drew
       refine HJ.run Za rfl [0, 1, 2, 3, 4, 5, 8, 9] rfl (HJ.q (i := 6) rfl rfl rfl rfl rfl rfl (Zk Za rfl rfl rfl rfl rfl e11 p9 p10) (HJ.q (i := 10) rfl rfl rfl rfl rfl rfl (Zk Za rfl rfl rfl rfl rfl e11 p7 p8) (HJ.pick [7, 11] (i := 7) rfl rfl rfl rfl ((Zs ?_ (Zs ?_ Z4))))))
       ·refine HS.op (i := 7) rfl rfl rfl (OpT.ofq (Ze (f := 0) Za rfl h20.wht (Gives.of 0 rfl Zl) p9 p10 rfl rfl rfl rfl rfl)) ?_
        rintro _ _ ⟨rfl, rfl⟩
        replace h20 : St w0 F0 [_] _ _ := h20
        refine ⟨⟨[_], h20⟩, ?_⟩
        refine HJ.op (i := 11) rfl rfl rfl rfl rfl (OpT.ofq (Ze (f := 0) Za rfl h20.wht (Gives.of 0 rfl Zl) p7 p8 rfl rfl rfl rfl rfl)) ?_
        rintro _ _ ⟨rfl, rfl⟩
        replace h20 : St w0 F0 [_] _ _ := h20
        refine ⟨⟨[_], h20⟩, ?_⟩
        refine HJ.q (i := 12) rfl rfl rfl rfl rfl rfl (Zk Za rfl rfl rfl rfl rfl e11 p7 p8) (HJ.op (i := 13) rfl rfl rfl rfl rfl (Zp (ty := (.int .u32)) (f := 0) (ix := x4) Za rfl (gt x1 x5) 0 rfl h20 rfl rfl p7 p8 rfl rfl rfl rfl rfl rfl rfl) ?_)
        intro _ w15 h21
        replace h21 : St w0 F0 [Zf 70 (.int .u32) (x1.set x4.toNat (gt x1 x5)) (.slice A1 (x1.set x4.toNat (gt x1 x5)).length c_1)] _ _ := h21
        refine ⟨⟨[_], h21⟩, ?_⟩
        have e14 : (x1.set x4.toNat (gt x1 x5)).length = a0.length := List.length_set.trans e10
        refine HJ.q (i := 14) rfl rfl rfl rfl rfl rfl (Zk Za rfl rfl rfl rfl rfl e11 p9 p10) (HJ.op (i := 15) rfl rfl rfl rfl rfl (Zp (ty := (.int .u32)) (f := 0) (ix := x5) Za rfl (gt x1 x4) 0 rfl h21 rfl rfl p9 (by simpa only [List.length_set] using p10) rfl rfl rfl rfl rfl rfl rfl) ?_)
        intro _ w16 h22
        replace h22 : St w0 F0 [Zf 70 (.int .u32) ((x1.set x4.toNat (gt x1 x5)).set x5.toNat (gt x1 x4)) (.slice A1 ((x1.set x4.toNat (gt x1 x5)).set x5.toNat (gt x1 x4)).length c_1)] _ _ := h22
        refine ⟨⟨[_], h22⟩, ?_⟩
        have e15 : ((x1.set x4.toNat (gt x1 x5)).set x5.toNat (gt x1 x4)).length = a0.length := List.length_set.trans e14
        refine HJ.fin [(0, .slice A1 x1.length c_1), (1, .int .i64 a1), (9, .int .i64 x4), (10, .int .i64 x5)] rfl rfl ?_
        exact Zq ⟨(by simp only [List.length_set]), ((h22.only [0] rfl).rds [] rfl)⟩
       ·refine HS.op (i := 11) rfl rfl rfl (OpT.ofq (Ze (f := 0) Za rfl h20.wht (Gives.of 0 rfl Zl) p7 p8 rfl rfl rfl rfl rfl)) ?_
        rintro _ _ ⟨rfl, rfl⟩
        replace h20 : St w0 F0 [_] _ _ := h20
        refine ⟨⟨[_], h20⟩, ?_⟩
        refine HJ.op (i := 7) rfl rfl rfl rfl rfl (OpT.ofq (Ze (f := 0) Za rfl h20.wht (Gives.of 0 rfl Zl) p9 p10 rfl rfl rfl rfl rfl)) ?_
        rintro _ _ ⟨rfl, rfl⟩
        replace h20 : St w0 F0 [_] _ _ := h20
        refine ⟨⟨[_], h20⟩, ?_⟩
        refine HJ.q (i := 12) rfl rfl rfl rfl rfl rfl (Zk Za rfl rfl rfl rfl rfl e11 p7 p8) (HJ.op (i := 13) rfl rfl rfl rfl rfl (Zp (ty := (.int .u32)) (f := 0) (ix := x4) Za rfl (gt x1 x5) 0 rfl h20 rfl rfl p7 p8 rfl rfl rfl rfl rfl rfl rfl) ?_)
        intro _ w17 h23
        replace h23 : St w0 F0 [Zf 70 (.int .u32) (x1.set x4.toNat (gt x1 x5)) (.slice A1 (x1.set x4.toNat (gt x1 x5)).length c_1)] _ _ := h23
        refine ⟨⟨[_], h23⟩, ?_⟩
        have e16 : (x1.set x4.toNat (gt x1 x5)).length = a0.length := List.length_set.trans e10
        refine HJ.q (i := 14) rfl rfl rfl rfl rfl rfl (Zk Za rfl rfl rfl rfl rfl e11 p9 p10) (HJ.op (i := 15) rfl rfl rfl rfl rfl (Zp (ty := (.int .u32)) (f := 0) (ix := x5) Za rfl (gt x1 x4) 0 rfl h23 rfl rfl p9 (by simpa only [List.length_set] using p10) rfl rfl rfl rfl rfl rfl rfl) ?_)
        intro _ w18 h24
        replace h24 : St w0 F0 [Zf 70 (.int .u32) ((x1.set x4.toNat (gt x1 x5)).set x5.toNat (gt x1 x4)) (.slice A1 ((x1.set x4.toNat (gt x1 x5)).set x5.toNat (gt x1 x4)).length c_1)] _ _ := h24
        refine ⟨⟨[_], h24⟩, ?_⟩
        have e17 : ((x1.set x4.toNat (gt x1 x5)).set x5.toNat (gt x1 x4)).length = a0.length := List.length_set.trans e16
        refine HJ.fin [(0, .slice A1 x1.length c_1), (1, .int .i64 a1), (9, .int .i64 x4), (10, .int .i64 x5)] rfl rfl ?_
        exact Zq ⟨(by simp only [List.length_set]), ((h24.only [0] rfl).rds [] rfl)⟩
      rintro env w19 ⟨rfl, h25⟩
      have e18 : ((x1.set x4.toNat (gt x1 x5)).set x5.toNat (gt x1 x4)).length = a0.length := by first | (simp only [List.length_set]; done) | (simp only [List.length_set]; exact e10)
      refine J.seq (J.region ?_)
      refine RJ.run Za 3 rfl (RJ.fin [(0, .slice A1 ((x1.set x4.toNat (gt x1 x5)).set x5.toNat (gt x1 x4)).length c_1), (1, _), (9, .int .i64 (w64 (x4 + 1))), (10, _)] rfl (J.region (RJ.run Za 3 rfl (RJ.fin [(0, _), (1, _), (9, _), (10, .int .i64 (w64 (x5 - 1)))] rfl ?_))))
      have h26 := ((h25.only [0] rfl).rds [] rfl)
      exact ⟨k3, by omega, ((x1.set x4.toNat (gt x1 x5)).set x5.toNat (gt x1 x4)), (w64 (x4 + 1)), (w64 (x5 - 1)), rfl, h26, H, e18⟩
     replace H := Zg c3 H
     refine HJ.know (t := 49) rfl (congrArg Value.bool c3) (HJ.run Za rfl [4, 5, 6, 7, 8, 9, 10, 11, 12, 13] rfl (HJ.fin [(0, _), (1, _), (9, _), (10, _), (59, .bool false)] rfl rfl (J.condF rfl (J.exit (J.seq (J.seq (J.region ?_)))))))
     refine RJ.run Za 3 rfl (RJ.fin [(0, _), (1, _), (9, _), (10, _), (64, .bool (decide (x5 < x4)))] rfl (J.cond rfl (fun c6 => ?_) (fun c6 => ?_)))
     ·replace H := Zi c6 H
      refine J.exit (J.seq (J.region ?_))
      refine RJ.run Za 2 rfl (RJ.fin [(8, .int .i64 x4)] rfl (J.ret ?_))
      obtain rfl := Option.some.inj H
      exact ⟨_, _, _, (Zb rfl), ⟨rfl, rfl, e10⟩, h15.only [0] rfl⟩
     replace H := Zg c6 H
     refine J.skip (J.seq ?_)
     obtain ⟨⟨p11, p12⟩, H⟩ := Zo H
     refine J.midS (fun env w => env = [(0, .slice A1 ((x1.set x4.toNat (gt x1 x5)).set x5.toNat (gt x1 x4)).length c_1), (1, .int .i64 a1), (9, .int .i64 x4), (10, .int .i64 x5)] ∧ St w0 F0 [Zf 70 (.int .u32) ((x1.set x4.toNat (gt x1 x5)).set x5.toNat (gt x1 x4)) (.slice A1 ((x1.set x4.toNat (gt x1 x5)).set x5.toNat (gt x1 x4)).length c_1)] [] w) ?_ ?_
     ·refine J.heldSt mix (h15.only [] rfl) ?_
      have h29 := h15.drew
      refine HJ.run Za rfl [0, 1, 2, 3, 4, 5, 8, 9] rfl (HJ.q (i := 6) rfl rfl rfl rfl rfl rfl (Zk Za rfl rfl rfl rfl rfl e11 p11 p12) (HJ.q (i := 10) rfl rfl rfl rfl rfl rfl (Zk Za rfl rfl rfl rfl rfl e11 p7 p8) (HJ.pick [7, 11] (i := 7) rfl rfl rfl rfl ((Zs ?_ (Zs ?_ Z4))))))
      ·refine HS.op (i := 7) rfl rfl rfl (OpT.ofq (Ze (f := 0) Za rfl h29.wht (Gives.of 0 rfl Zl) p11 p12 rfl rfl rfl rfl rfl)) ?_
       rintro _ _ ⟨rfl, rfl⟩
       replace h29 : St w0 F0 [_] _ _ := h29
       refine ⟨⟨[_], h29⟩, ?_⟩
       refine HJ.op (i := 11) rfl rfl rfl rfl rfl (OpT.ofq (Ze (f := 0) Za rfl h29.wht (Gives.of 0 rfl Zl) p7 p8 rfl rfl rfl rfl rfl)) ?_
       rintro _ _ ⟨rfl, rfl⟩
       replace h29 : St w0 F0 [_] _ _ := h29
       refine ⟨⟨[_], h29⟩, ?_⟩
       refine HJ.q (i := 12) rfl rfl rfl rfl rfl rfl (Zk Za rfl rfl rfl rfl rfl e11 p7 p8) (HJ.op (i := 13) rfl rfl rfl rfl rfl (Zp (ty := (.int .u32)) (f := 0) (ix := x4) Za rfl (gt x1 x5) 0 rfl h29 rfl rfl p7 p8 rfl rfl rfl rfl rfl rfl rfl) ?_)
       intro _ w22 h30
       replace h30 : St w0 F0 [Zf 70 (.int .u32) (x1.set x4.toNat (gt x1 x5)) (.slice A1 (x1.set x4.toNat (gt x1 x5)).length c_1)] _ _ := h30
       refine ⟨⟨[_], h30⟩, ?_⟩
       have e21 : (x1.set x4.toNat (gt x1 x5)).length = a0.length := List.length_set.trans e10
       refine HJ.q (i := 14) rfl rfl rfl rfl rfl rfl (Zk Za rfl rfl rfl rfl rfl e11 p11 p12) (HJ.op (i := 15) rfl rfl rfl rfl rfl (Zp (ty := (.int .u32)) (f := 0) (ix := x5) Za rfl (gt x1 x4) 0 rfl h30 rfl rfl p11 (by simpa only [List.length_set] using p12) rfl rfl rfl rfl rfl rfl rfl) ?_)
       intro _ w23 h31
       replace h31 : St w0 F0 [Zf 70 (.int .u32) ((x1.set x4.toNat (gt x1 x5)).set x5.toNat (gt x1 x4)) (.slice A1 ((x1.set x4.toNat (gt x1 x5)).set x5.toNat (gt x1 x4)).length c_1)] _ _ := h31
       refine ⟨⟨[_], h31⟩, ?_⟩
       have e22 : ((x1.set x4.toNat (gt x1 x5)).set x5.toNat (gt x1 x4)).length = a0.length := List.length_set.trans e21
       refine HJ.fin [(0, .slice A1 x1.length c_1), (1, .int .i64 a1), (9, .int .i64 x4), (10, .int .i64 x5)] rfl rfl ?_
       exact Zq ⟨(by simp only [List.length_set]), ((h31.only [0] rfl).rds [] rfl)⟩
      ·refine HS.op (i := 11) rfl rfl rfl (OpT.ofq (Ze (f := 0) Za rfl h29.wht (Gives.of 0 rfl Zl) p7 p8 rfl rfl rfl rfl rfl)) ?_
       rintro _ _ ⟨rfl, rfl⟩
       replace h29 : St w0 F0 [_] _ _ := h29
       refine ⟨⟨[_], h29⟩, ?_⟩
       refine HJ.op (i := 7) rfl rfl rfl rfl rfl (OpT.ofq (Ze (f := 0) Za rfl h29.wht (Gives.of 0 rfl Zl) p11 p12 rfl rfl rfl rfl rfl)) ?_
       rintro _ _ ⟨rfl, rfl⟩
       replace h29 : St w0 F0 [_] _ _ := h29
       refine ⟨⟨[_], h29⟩, ?_⟩
       refine HJ.q (i := 12) rfl rfl rfl rfl rfl rfl (Zk Za rfl rfl rfl rfl rfl e11 p7 p8) (HJ.op (i := 13) rfl rfl rfl rfl rfl (Zp (ty := (.int .u32)) (f := 0) (ix := x4) Za rfl (gt x1 x5) 0 rfl h29 rfl rfl p7 p8 rfl rfl rfl rfl rfl rfl rfl) ?_)
       intro _ w24 h32
       replace h32 : St w0 F0 [Zf 70 (.int .u32) (x1.set x4.toNat (gt x1 x5)) (.slice A1 (x1.set x4.toNat (gt x1 x5)).length c_1)] _ _ := h32
       refine ⟨⟨[_], h32⟩, ?_⟩
       have e23 : (x1.set x4.toNat (gt x1 x5)).length = a0.length := List.length_set.trans e10
       refine HJ.q (i := 14) rfl rfl rfl rfl rfl rfl (Zk Za rfl rfl rfl rfl rfl e11 p11 p12) (HJ.op (i := 15) rfl rfl rfl rfl rfl (Zp (ty := (.int .u32)) (f := 0) (ix := x5) Za rfl (gt x1 x4) 0 rfl h32 rfl rfl p11 (by simpa only [List.length_set] using p12) rfl rfl rfl rfl rfl rfl rfl) ?_)
       intro _ w25 h33
       replace h33 : St w0 F0 [Zf 70 (.int .u32) ((x1.set x4.toNat (gt x1 x5)).set x5.toNat (gt x1 x4)) (.slice A1 ((x1.set x4.toNat (gt x1 x5)).set x5.toNat (gt x1 x4)).length c_1)] _ _ := h33
       refine ⟨⟨[_], h33⟩, ?_⟩
       have e24 : ((x1.set x4.toNat (gt x1 x5)).set x5.toNat (gt x1 x4)).length = a0.length := List.length_set.trans e23
       refine HJ.fin [(0, .slice A1 x1.length c_1), (1, .int .i64 a1), (9, .int .i64 x4), (10, .int .i64 x5)] rfl rfl ?_
       exact Zq ⟨(by simp only [List.length_set]), ((h33.only [0] rfl).rds [] rfl)⟩
     rintro env w26 ⟨rfl, h34⟩
     have e25 : ((x1.set x4.toNat (gt x1 x5)).set x5.toNat (gt x1 x4)).length = a0.length := by first | (simp only [List.length_set]; done) | (simp only [List.length_set]; exact e10)
     refine J.seq (J.region ?_)
     refine RJ.run Za 3 rfl (RJ.fin [(0, .slice A1 ((x1.set x4.toNat (gt x1 x5)).set x5.toNat (gt x1 x4)).length c_1), (1, _), (9, .int .i64 (w64 (x4 + 1))), (10, _)] rfl (J.region (RJ.run Za 3 rfl (RJ.fin [(0, _), (1, _), (9, _), (10, .int .i64 (w64 (x5 - 1)))] rfl ?_))))
     have h35 := ((h34.only [0] rfl).rds [] rfl)
     exact ⟨k3, by omega, ((x1.set x4.toNat (gt x1 x5)).set x5.toNat (gt x1 x4)), (w64 (x4 + 1)), (w64 (x5 - 1)), rfl, h35, H, e25⟩
   replace H := Zg c1 H
   refine HJ.know (t := 32) rfl (congrArg Value.bool c1) (HJ.run Za rfl [4, 5, 6, 7, 8, 9, 10, 11, 12, 13, 14] rfl (HJ.fin [(0, _), (1, _), (9, _), (10, _), (43, .bool false)] rfl rfl (J.condF rfl (J.exit (J.seq (J.block ?_))))))
   refine J.narrow [(0, _), (1, _), (9, _), (10, _)] rfl ?_
   have h48 := ((h11.only [0] rfl).rds [] rfl)
   refine J.loop (fun kk env w => env = [(0, .slice A1 x1.length c_1), (1, .int .i64 a1), (9, .int .i64 x4), (10, .int .i64 x3)] ∧ St w0 F0 [Zf 70 (.int .u32) x1 (.slice A1 x1.length c_1)] [] w ∧ Q59.l3 kk a1 x1 x3 x4 = some r ∧ kk ≤ k2) (k := k2) ⟨rfl, h48, H, Nat.le_refl _⟩ ?_
   rintro k4 env w27 ⟨rfl, h37, H, hk4⟩
   cases k4 with
   | zero => exact nomatch (show none = some r from H)
   | succ k4 =>
    rw [Q59.l3] at H
    refine J.seq (J.seq ?_)
    refine J.heldSt mix h37 ?_
    have h38 := h37.drew
    refine HJ.run Za rfl [0, 1, 2, 3] rfl (HJ.know (t := 49) rfl (congrArg Value.bool c1) (HJ.run Za rfl [4, 5, 6, 7, 8, 9, 10, 11, 12, 13] rfl (HJ.fin [(0, _), (1, _), (9, _), (10, _), (59, .bool false)] rfl rfl (J.condF rfl (J.exit (J.seq (J.seq (J.region ?_))))))))
    refine RJ.run Za 3 rfl (RJ.fin [(0, _), (1, _), (9, _), (10, _), (64, .bool (decide (x3 < x4)))] rfl (J.cond rfl (fun c7 => ?_) (fun c7 => ?_)))
    ·replace H := Zi c7 H
     refine J.exit (J.seq (J.region ?_))
     refine RJ.run Za 2 rfl (RJ.fin [(8, .int .i64 x4)] rfl (J.ret ?_))
     obtain rfl := Option.some.inj H
     exact ⟨_, _, _, (Zb rfl), ⟨rfl, rfl, e10⟩, h38.only [0] rfl⟩
    replace H := Zg c7 H
    refine J.skip (J.seq ?_)
    obtain ⟨⟨p13, p14⟩, H⟩ := Zo H
    obtain ⟨⟨p15, p16⟩, H⟩ := Zo H
    refine J.midS (fun env w => env = [(0, .slice A1 ((x1.set x4.toNat (gt x1 x3)).set x3.toNat (gt x1 x4)).length c_1), (1, .int .i64 a1), (9, .int .i64 x4), (10, .int .i64 x3)] ∧ St w0 F0 [Zf 70 (.int .u32) ((x1.set x4.toNat (gt x1 x3)).set x3.toNat (gt x1 x4)) (.slice A1 ((x1.set x4.toNat (gt x1 x3)).set x3.toNat (gt x1 x4)).length c_1)] [] w) ?_ ?_
    ·refine J.heldSt mix (h38.only [] rfl) ?_
     have h41 := h38.drew
     refine HJ.run Za rfl [0, 1, 2, 3, 4, 5, 8, 9] rfl ?_
     have e29 := Zy h41.wh (Gives.of 0 rfl Zl) p13 p14
     refine HJ.q (i := 6) rfl rfl rfl rfl rfl rfl (Zk Za rfl rfl rfl rfl rfl e29 p13 p14) (HJ.q (i := 10) rfl rfl rfl rfl rfl rfl (Zk Za rfl rfl rfl rfl rfl e29 p15 p16) (HJ.pick [7, 11] (i := 7) rfl rfl rfl rfl ((Zs ?_ (Zs ?_ Z4)))))
     ·refine HS.op (i := 7) rfl rfl rfl (OpT.ofq (Ze (f := 0) Za rfl h41.wht (Gives.of 0 rfl Zl) p13 p14 rfl rfl rfl rfl rfl)) ?_
      rintro _ _ ⟨rfl, rfl⟩
      replace h41 : St w0 F0 [_] _ _ := h41
      refine ⟨⟨[_], h41⟩, ?_⟩
      refine HJ.op (i := 11) rfl rfl rfl rfl rfl (OpT.ofq (Ze (f := 0) Za rfl h41.wht (Gives.of 0 rfl Zl) p15 p16 rfl rfl rfl rfl rfl)) ?_
      rintro _ _ ⟨rfl, rfl⟩
      replace h41 : St w0 F0 [_] _ _ := h41
      refine ⟨⟨[_], h41⟩, ?_⟩
      refine HJ.q (i := 12) rfl rfl rfl rfl rfl rfl (Zk Za rfl rfl rfl rfl rfl e29 p15 p16) (HJ.op (i := 13) rfl rfl rfl rfl rfl (Zp (ty := (.int .u32)) (f := 0) (ix := x4) Za rfl (gt x1 x3) 0 rfl h41 rfl rfl p15 p16 rfl rfl rfl rfl rfl rfl rfl) ?_)
      intro _ w30 h42
      replace h42 : St w0 F0 [Zf 70 (.int .u32) (x1.set x4.toNat (gt x1 x3)) (.slice A1 (x1.set x4.toNat (gt x1 x3)).length c_1)] _ _ := h42
      refine ⟨⟨[_], h42⟩, ?_⟩
      have e30 : (x1.set x4.toNat (gt x1 x3)).length = a0.length := List.length_set.trans e10
      refine HJ.q (i := 14) rfl rfl rfl rfl rfl rfl (Zk Za rfl rfl rfl rfl rfl e29 p13 p14) (HJ.op (i := 15) rfl rfl rfl rfl rfl (Zp (ty := (.int .u32)) (f := 0) (ix := x3) Za rfl (gt x1 x4) 0 rfl h42 rfl rfl p13 (by simpa only [List.length_set] using p14) rfl rfl rfl rfl rfl rfl rfl) ?_)
      intro _ w31 h43
      replace h43 : St w0 F0 [Zf 70 (.int .u32) ((x1.set x4.toNat (gt x1 x3)).set x3.toNat (gt x1 x4)) (.slice A1 ((x1.set x4.toNat (gt x1 x3)).set x3.toNat (gt x1 x4)).length c_1)] _ _ := h43
      refine ⟨⟨[_], h43⟩, ?_⟩
      have e31 : ((x1.set x4.toNat (gt x1 x3)).set x3.toNat (gt x1 x4)).length = a0.length := List.length_set.trans e30
      refine HJ.fin [(0, .slice A1 x1.length c_1), (1, .int .i64 a1), (9, .int .i64 x4), (10, .int .i64 x3)] rfl rfl ?_
      exact Zq ⟨(by simp only [List.length_set]), ((h43.only [0] rfl).rds [] rfl)⟩
     ·refine HS.op (i := 11) rfl rfl rfl (OpT.ofq (Ze (f := 0) Za rfl h41.wht (Gives.of 0 rfl Zl) p15 p16 rfl rfl rfl rfl rfl)) ?_
      rintro _ _ ⟨rfl, rfl⟩
      replace h41 : St w0 F0 [_] _ _ := h41
      refine ⟨⟨[_], h41⟩, ?_⟩
      refine HJ.op (i := 7) rfl rfl rfl rfl rfl (OpT.ofq (Ze (f := 0) Za rfl h41.wht (Gives.of 0 rfl Zl) p13 p14 rfl rfl rfl rfl rfl)) ?_
      rintro _ _ ⟨rfl, rfl⟩
      replace h41 : St w0 F0 [_] _ _ := h41
      refine ⟨⟨[_], h41⟩, ?_⟩
      refine HJ.q (i := 12) rfl rfl rfl rfl rfl rfl (Zk Za rfl rfl rfl rfl rfl e29 p15 p16) (HJ.op (i := 13) rfl rfl rfl rfl rfl (Zp (ty := (.int .u32)) (f := 0) (ix := x4) Za rfl (gt x1 x3) 0 rfl h41 rfl rfl p15 p16 rfl rfl rfl rfl rfl rfl rfl) ?_)
      intro _ w32 h44
      replace h44 : St w0 F0 [Zf 70 (.int .u32) (x1.set x4.toNat (gt x1 x3)) (.slice A1 (x1.set x4.toNat (gt x1 x3)).length c_1)] _ _ := h44
      refine ⟨⟨[_], h44⟩, ?_⟩
      have e32 : (x1.set x4.toNat (gt x1 x3)).length = a0.length := List.length_set.trans e10
      refine HJ.q (i := 14) rfl rfl rfl rfl rfl rfl (Zk Za rfl rfl rfl rfl rfl e29 p13 p14) (HJ.op (i := 15) rfl rfl rfl rfl rfl (Zp (ty := (.int .u32)) (f := 0) (ix := x3) Za rfl (gt x1 x4) 0 rfl h44 rfl rfl p13 (by simpa only [List.length_set] using p14) rfl rfl rfl rfl rfl rfl rfl) ?_)
      intro _ w33 h45
      replace h45 : St w0 F0 [Zf 70 (.int .u32) ((x1.set x4.toNat (gt x1 x3)).set x3.toNat (gt x1 x4)) (.slice A1 ((x1.set x4.toNat (gt x1 x3)).set x3.toNat (gt x1 x4)).length c_1)] _ _ := h45
      refine ⟨⟨[_], h45⟩, ?_⟩
      have e33 : ((x1.set x4.toNat (gt x1 x3)).set x3.toNat (gt x1 x4)).length = a0.length := List.length_set.trans e32
      refine HJ.fin [(0, .slice A1 x1.length c_1), (1, .int .i64 a1), (9, .int .i64 x4), (10, .int .i64 x3)] rfl rfl ?_
      exact Zq ⟨(by simp only [List.length_set]), ((h45.only [0] rfl).rds [] rfl)⟩
    rintro env w34 ⟨rfl, h46⟩
    have e34 : ((x1.set x4.toNat (gt x1 x3)).set x3.toNat (gt x1 x4)).length = a0.length := by first | (simp only [List.length_set]; done) | (simp only [List.length_set]; exact e10)
    refine J.seq (J.region ?_)
    refine RJ.run Za 3 rfl (RJ.fin [(0, .slice A1 ((x1.set x4.toNat (gt x1 x3)).set x3.toNat (gt x1 x4)).length c_1), (1, _), (9, .int .i64 (w64 (x4 + 1))), (10, _)] rfl (J.region (RJ.run Za 3 rfl (RJ.fin [(0, _), (1, _), (9, _), (10, .int .i64 (w64 (x3 - 1)))] rfl ?_))))
    have h47 := ((h46.only [0] rfl).rds [] rfl)
    exact ⟨k4, by omega, ((x1.set x4.toNat (gt x1 x3)).set x3.toNat (gt x1 x4)), (w64 (x4 + 1)), (w64 (x3 - 1)), rfl, h47, H, e34⟩

mutual
def Q60.l0 : Nat → (Int) → (List (Int)) → (Int) → (Int) → Option (Int × Bool × List (Int))
 | 0, _, _, _, _ => none
 | k + 1, a1, x9, x10, x11 => Q60.l2 k a1 x9 x11 x10
def Q60.l1 : Nat → (Int) → (List (Int)) → (Int) → (Int) → Option (Int × Bool × List (Int))
 | 0, _, _, _, _ => none
 | k + 1, a1, x9, x12, x16 => if (decide (x12 ≤ x16)) = true then (if 0 ≤ x16 ∧ x16 < (x9.length : Int) then (if 0 ≤ a1 ∧ a1 < (x9.length : Int) then ((Q4.f (gt x9 x16) (gt x9 a1)).bind fun r1 => (if (!r1) = true then (Q60.l1 k a1 x9 x12 (w64 (x16 - 1))) else (if (decide (x16 < x12)) = true then (if 0 ≤ a1 ∧ a1 < (x9.length : Int) then (if 0 ≤ x16 ∧ x16 < (x9.length : Int) then (some (x16, false, ((x9.set x16.toNat (gt x9 a1)).set a1.toNat (gt x9 x16)))) else none) else none) else (if 0 ≤ x16 ∧ x16 < (x9.length : Int) then (if 0 ≤ x12 ∧ x12 < (x9.length : Int) then (Q60.l0 k a1 ((x9.set x12.toNat (gt x9 x16)).set x16.toNat (gt x9 x12)) (w64 (x12 + 1)) (w64 (x16 - 1))) else none) else none)))) else none) else none) else (if (decide (x16 < x12)) = true then (if 0 ≤ a1 ∧ a1 < (x9.length : Int) then (if 0 ≤ x16 ∧ x16 < (x9.length : Int) then (some (x16, false, ((x9.set x16.toNat (gt x9 a1)).set a1.toNat (gt x9 x16)))) else none) else none) else (if 0 ≤ x16 ∧ x16 < (x9.length : Int) then (if 0 ≤ x12 ∧ x12 < (x9.length : Int) then (Q60.l0 k a1 ((x9.set x12.toNat (gt x9 x16)).set x16.toNat (gt x9 x12)) (w64 (x12 + 1)) (w64 (x16 - 1))) else none) else none))
def Q60.l2 : Nat → (Int) → (List (Int)) → (Int) → (Int) → Option (Int × Bool × List (Int))
 | 0, _, _, _, _ => none
 | k + 1, a1, x9, x11, x17 => if (decide (x17 ≤ x11)) = true then (if 0 ≤ x17 ∧ x17 < (x9.length : Int) then (if 0 ≤ a1 ∧ a1 < (x9.length : Int) then ((Q4.f (gt x9 x17) (gt x9 a1)).bind fun r2 => (if r2 = true then (Q60.l2 k a1 x9 x11 (w64 (x17 + 1))) else (Q60.l1 k a1 x9 x17 x11))) else none) else none) else (Q60.l1 k a1 x9 x17 x11)
end
def Q60.l3 : Nat → (List (Int)) → (Int) → (Int) → (Int) → (Int) → Option (Int × Bool × List (Int))
 | 0, _, _, _, _, _ => none
 | k + 1, a0, a1, a3, x1, x18 => if (decide (x1 ≤ x18)) = true then (if 0 ≤ x18 ∧ x18 < (((a0.set a1.toNat (gt a0 a3)).set a3.toNat (gt a0 a1)).length : Int) then (if 0 ≤ a1 ∧ a1 < (((a0.set a1.toNat (gt a0 a3)).set a3.toNat (gt a0 a1)).length : Int) then ((Q4.f (gt ((a0.set a1.toNat (gt a0 a3)).set a3.toNat (gt a0 a1)) x18) (gt ((a0.set a1.toNat (gt a0 a3)).set a3.toNat (gt a0 a1)) a1)).bind fun r3 => (if (!r3) = true then (Q60.l3 k a0 a1 a3 x1 (w64 (x18 - 1))) else (if (decide (x18 < x1)) = true then (if 0 ≤ a1 ∧ a1 < (((a0.set a1.toNat (gt a0 a3)).set a3.toNat (gt a0 a1)).length : Int) then (if 0 ≤ x18 ∧ x18 < (((a0.set a1.toNat (gt a0 a3)).set a3.toNat (gt a0 a1)).length : Int) then (some (x18, true, ((((a0.set a1.toNat (gt a0 a3)).set a3.toNat (gt a0 a1)).set x18.toNat (gt ((a0.set a1.toNat (gt a0 a3)).set a3.toNat (gt a0 a1)) a1)).set a1.toNat (gt ((a0.set a1.toNat (gt a0 a3)).set a3.toNat (gt a0 a1)) x18)))) else none) else none) else (if 0 ≤ x18 ∧ x18 < (((a0.set a1.toNat (gt a0 a3)).set a3.toNat (gt a0 a1)).length : Int) then (if 0 ≤ x1 ∧ x1 < (((a0.set a1.toNat (gt a0 a3)).set a3.toNat (gt a0 a1)).length : Int) then (Q60.l0 k a1 ((((a0.set a1.toNat (gt a0 a3)).set a3.toNat (gt a0 a1)).set x1.toNat (gt ((a0.set a1.toNat (gt a0 a3)).set a3.toNat (gt a0 a1)) x18)).set x18.toNat (gt ((a0.set a1.toNat (gt a0 a3)).set a3.toNat (gt a0 a1)) x1)) (w64 (x1 + 1)) (w64 (x18 - 1))) else none) else none)))) else none) else none) else (if (decide (x18 < x1)) = true then (if 0 ≤ a1 ∧ a1 < (((a0.set a1.toNat (gt a0 a3)).set a3.toNat (gt a0 a1)).length : Int) then (if 0 ≤ x18 ∧ x18 < (((a0.set a1.toNat (gt a0 a3)).set a3.toNat (gt a0 a1)).length : Int) then (some (x18, true, ((((a0.set a1.toNat (gt a0 a3)).set a3.toNat (gt a0 a1)).set x18.toNat (gt ((a0.set a1.toNat (gt a0 a3)).set a3.toNat (gt a0 a1)) a1)).set a1.toNat (gt ((a0.set a1.toNat (gt a0 a3)).set a3.toNat (gt a0 a1)) x18)))) else none) else none) else (if 0 ≤ x18 ∧ x18 < (((a0.set a1.toNat (gt a0 a3)).set a3.toNat (gt a0 a1)).length : Int) then (if 0 ≤ x1 ∧ x1 < (((a0.set a1.toNat (gt a0 a3)).set a3.toNat (gt a0 a1)).length : Int) then (Q60.l0 k a1 ((((a0.set a1.toNat (gt a0 a3)).set a3.toNat (gt a0 a1)).set x1.toNat (gt ((a0.set a1.toNat (gt a0 a3)).set a3.toNat (gt a0 a1)) x18)).set x18.toNat (gt ((a0.set a1.toNat (gt a0 a3)).set a3.toNat (gt a0 a1)) x1)) (w64 (x1 + 1)) (w64 (x18 - 1))) else none) else none))
def Q60.l4 : Nat → (List (Int)) → (Int) → (Int) → (Int) → (Int) → Option (Int × Bool × List (Int))
 | 0, _, _, _, _, _ => none
 | k + 1, a0, a1, a2, a3, x19 => if (decide (x19 ≤ (w64 (a2 - 1)))) = true then (if 0 ≤ x19 ∧ x19 < (((a0.set a1.toNat (gt a0 a3)).set a3.toNat (gt a0 a1)).length : Int) then (if 0 ≤ a1 ∧ a1 < (((a0.set a1.toNat (gt a0 a3)).set a3.toNat (gt a0 a1)).length : Int) then ((Q4.f (gt ((a0.set a1.toNat (gt a0 a3)).set a3.toNat (gt a0 a1)) x19) (gt ((a0.set a1.toNat (gt a0 a3)).set a3.toNat (gt a0 a1)) a1)).bind fun r4 => (if r4 = true then (Q60.l4 k a0 a1 a2 a3 (w64 (x19 + 1))) else (Q60.l3 k a0 a1 a3 x19 (w64 (a2 - 1))))) else none) else none) else (Q60.l3 k a0 a1 a3 x19 (w64 (a2 - 1)))
def Q60.f (k : Nat) (a0 : List (Int)) (a1 : Int) (a2 : Int) (a3 : Int) : Option (Int × Bool × List (Int)) := if 0 ≤ a3 ∧ a3 < (a0.length : Int) then (if 0 ≤ a1 ∧ a1 < (a0.length : Int) then (Q60.l4 k a0 a1 a2 a3 (w64 (a1 + 1))) else none) else none
theorem Q60.spec {k : Nat} {a0 : List (Int)} {a1 : Int} {a2 : Int} {a3 : Int} {A1 : Option Addr} {c_1 : Nat} {r : Int × Bool × List (Int)} (H : Q60.f k a0 a1 a2 a3 = some r) :
  Spec Tryz.prog 108 [.slice A1 a0.length c_1, .int .i64 a1, .int .i64 a2, .int .i64 a3] [Zf 70 (.int .u32) a0 (.slice A1 a0.length c_1)] [] (fun v l => v = .tuple #[.int .i64 r.1, .bool r.2.1] ∧ l = [Zf 70 (.int .u32) r.2.2 (.slice A1 r.2.2.length c_1)] ∧ r.2.2.length = a0.length) := by
 refine Spec.enter Tryz.func108 rfl (by kernel_rfl) (by kernel_rfl) fun w0 F0 h0 => ?_
 unfold Q60.f at H
 refine J.seq (J.region ?_)
 refine RJ.run Za 2 rfl (RJ.fin [(0, .slice A1 a0.length c_1), (1, .int .i64 a1), (2, .int .i64 a2), (3, .int .i64 a3)] rfl (J.seq ?_))
 obtain ⟨⟨p1, p2⟩, H⟩ := Zo H
 obtain ⟨⟨p3, p4⟩, H⟩ := Zo H
 refine J.midS (fun env w => env = [(0, .slice A1 ((a0.set a1.toNat (gt a0 a3)).set a3.toNat (gt a0 a1)).length c_1), (1, .int .i64 a1), (2, .int .i64 a2)] ∧ St w0 F0 [Zf 70 (.int .u32) ((a0.set a1.toNat (gt a0 a3)).set a3.toNat (gt a0 a1)) (.slice A1 ((a0.set a1.toNat (gt a0 a3)).set a3.toNat (gt a0 a1)).length c_1)] [] w) ?_ ?_
 ·refine J.heldSt mix (h0.only [] rfl) ?_
  have h3 := h0.drew
  refine HJ.run Za rfl [0, 1, 2, 3, 4, 5, 8, 9] rfl ?_
  have e4 := Zy h3.wh (Gives.of 0 rfl Zl) p1 p2
  refine HJ.q (i := 6) rfl rfl rfl rfl rfl rfl (Zk Za rfl rfl rfl rfl rfl e4 p1 p2) (HJ.q (i := 10) rfl rfl rfl rfl rfl rfl (Zk Za rfl rfl rfl rfl rfl e4 p3 p4) (HJ.pick [7, 11] (i := 7) rfl rfl rfl rfl ((Zs ?_ (Zs ?_ Z4)))))
  ·refine HS.op (i := 7) rfl rfl rfl (OpT.ofq (Ze (f := 0) Za rfl h3.wht (Gives.of 0 rfl Zl) p1 p2 rfl rfl rfl rfl rfl)) ?_
   rintro _ _ ⟨rfl, rfl⟩
   replace h3 : St w0 F0 [Zf 70 (.int .u32) a0 (.slice A1 a0.length c_1)] _ _ := h3
   refine ⟨⟨[_], h3⟩, ?_⟩
   refine HJ.op (i := 11) rfl rfl rfl rfl rfl (OpT.ofq (Ze (f := 0) Za rfl h3.wht (Gives.of 0 rfl Zl) p3 p4 rfl rfl rfl rfl rfl)) ?_
   rintro _ _ ⟨rfl, rfl⟩
   replace h3 : St w0 F0 [_] _ _ := h3
   refine ⟨⟨[_], h3⟩, ?_⟩
   refine HJ.q (i := 12) rfl rfl rfl rfl rfl rfl (Zk Za rfl rfl rfl rfl rfl e4 p3 p4) (HJ.op (i := 13) rfl rfl rfl rfl rfl (Zp (ty := (.int .u32)) (f := 0) (ix := a1) Za rfl (gt a0 a3) 0 rfl h3 rfl rfl p3 p4 rfl rfl rfl rfl rfl rfl rfl) ?_)
   intro _ w3 h4
   replace h4 : St w0 F0 [Zf 70 (.int .u32) (a0.set a1.toNat (gt a0 a3)) (.slice A1 (a0.set a1.toNat (gt a0 a3)).length c_1)] _ _ := h4
   refine ⟨⟨[_], h4⟩, ?_⟩
   have e5 : (a0.set a1.toNat (gt a0 a3)).length = a0.length := List.length_set.trans (rfl : a0.length = a0.length)
   refine HJ.q (i := 14) rfl rfl rfl rfl rfl rfl (Zk Za rfl rfl rfl rfl rfl e4 p1 p2) (HJ.op (i := 15) rfl rfl rfl rfl rfl (Zp (ty := (.int .u32)) (f := 0) (ix := a3) Za rfl (gt a0 a1) 0 rfl h4 rfl rfl p1 (by simpa only [List.length_set] using p2) rfl rfl rfl rfl rfl rfl rfl) ?_)
   intro _ w4 h5
   replace h5 : St w0 F0 [Zf 70 (.int .u32) ((a0.set a1.toNat (gt a0 a3)).set a3.toNat (gt a0 a1)) (.slice A1 ((a0.set a1.toNat (gt a0 a3)).set a3.toNat (gt a0 a1)).length c_1)] _ _ := h5
   refine ⟨⟨[_], h5⟩, ?_⟩
   have e6 : ((a0.set a1.toNat (gt a0 a3)).set a3.toNat (gt a0 a1)).length = a0.length := List.length_set.trans e5
   refine HJ.fin [(0, .slice A1 a0.length c_1), (1, .int .i64 a1), (2, .int .i64 a2)] rfl rfl ?_
   exact Zq ⟨(by simp only [List.length_set]), ((h5.only [0] rfl).rds [] rfl)⟩
  ·refine HS.op (i := 11) rfl rfl rfl (OpT.ofq (Ze (f := 0) Za rfl h3.wht (Gives.of 0 rfl Zl) p3 p4 rfl rfl rfl rfl rfl)) ?_
   rintro _ _ ⟨rfl, rfl⟩
   replace h3 : St w0 F0 [Zf 70 (.int .u32) a0 (.slice A1 a0.length c_1)] _ _ := h3
   refine ⟨⟨[_], h3⟩, ?_⟩
   refine HJ.op (i := 7) rfl rfl rfl rfl rfl (OpT.ofq (Ze (f := 0) Za rfl h3.wht (Gives.of 0 rfl Zl) p1 p2 rfl rfl rfl rfl rfl)) ?_
   rintro _ _ ⟨rfl, rfl⟩
   replace h3 : St w0 F0 [_] _ _ := h3
   refine ⟨⟨[_], h3⟩, ?_⟩
   refine HJ.q (i := 12) rfl rfl rfl rfl rfl rfl (Zk Za rfl rfl rfl rfl rfl e4 p3 p4) (HJ.op (i := 13) rfl rfl rfl rfl rfl (Zp (ty := (.int .u32)) (f := 0) (ix := a1) Za rfl (gt a0 a3) 0 rfl h3 rfl rfl p3 p4 rfl rfl rfl rfl rfl rfl rfl) ?_)
   intro _ w5 h6
   replace h6 : St w0 F0 [Zf 70 (.int .u32) (a0.set a1.toNat (gt a0 a3)) (.slice A1 (a0.set a1.toNat (gt a0 a3)).length c_1)] _ _ := h6
   refine ⟨⟨[_], h6⟩, ?_⟩
   have e7 : (a0.set a1.toNat (gt a0 a3)).length = a0.length := List.length_set.trans (rfl : a0.length = a0.length)
   refine HJ.q (i := 14) rfl rfl rfl rfl rfl rfl (Zk Za rfl rfl rfl rfl rfl e4 p1 p2) (HJ.op (i := 15) rfl rfl rfl rfl rfl (Zp (ty := (.int .u32)) (f := 0) (ix := a3) Za rfl (gt a0 a1) 0 rfl h6 rfl rfl p1 (by simpa only [List.length_set] using p2) rfl rfl rfl rfl rfl rfl rfl) ?_)
   intro _ w6 h7
   replace h7 : St w0 F0 [Zf 70 (.int .u32) ((a0.set a1.toNat (gt a0 a3)).set a3.toNat (gt a0 a1)) (.slice A1 ((a0.set a1.toNat (gt a0 a3)).set a3.toNat (gt a0 a1)).length c_1)] _ _ := h7
   refine ⟨⟨[_], h7⟩, ?_⟩
   have e8 : ((a0.set a1.toNat (gt a0 a3)).set a3.toNat (gt a0 a1)).length = a0.length := List.length_set.trans e7
   refine HJ.fin [(0, .slice A1 a0.length c_1), (1, .int .i64 a1), (2, .int .i64 a2)] rfl rfl ?_
   exact Zq ⟨(by simp only [List.length_set]), ((h7.only [0] rfl).rds [] rfl)⟩
 rintro env w7 ⟨rfl, h8⟩
 have e9 : ((a0.set a1.toNat (gt a0 a3)).set a3.toNat (gt a0 a1)).length = a0.length := by first | (simp only [List.length_set]; done) | (simp only [List.length_set]; exact (rfl : a0.length = a0.length))
 refine J.seq (J.region ?_)
 refine RJ.run Za 6 rfl (RJ.fin [(0, .slice A1 ((a0.set a1.toNat (gt a0 a3)).set a3.toNat (gt a0 a1)).length c_1), (1, _), (10, .int .i64 (w64 (a1 + 1))), (11, .int .i64 (w64 (a2 - 1)))] rfl (J.seq (J.midS (fun env w => ∃ (k1 : Nat) (x1 : Int) (x2 : Bool), env = [(0, .slice A1 ((a0.set a1.toNat (gt a0 a3)).set a3.toNat (gt a0 a1)).length c_1), (1, .int .i64 a1), (10, .int .i64 x1), (11, .int .i64 (w64 (a2 - 1))), (43, .bool x2)] ∧ St w0 F0 [Zf 70 (.int .u32) ((a0.set a1.toNat (gt a0 a3)).set a3.toNat (gt a0 a1)) (.slice A1 ((a0.set a1.toNat (gt a0 a3)).set a3.toNat (gt a0 a1)).length c_1)] [] w ∧ (Q60.l3 k1 a0 a1 a3 x1 (w64 (a2 - 1))) = some r ∧ k1 ≤ k) ?_ ?_)))
 ·refine J.block ?_
  have h77 := ((h8.only [0] rfl).rds [] rfl)
  refine J.loop (fun kk env w => ∃ (x19 : Int), env = [(0, .slice A1 ((a0.set a1.toNat (gt a0 a3)).set a3.toNat (gt a0 a1)).length c_1), (1, .int .i64 a1), (10, .int .i64 x19), (11, .int .i64 (w64 (a2 - 1)))] ∧ St w0 F0 [Zf 70 (.int .u32) ((a0.set a1.toNat (gt a0 a3)).set a3.toNat (gt a0 a1)) (.slice A1 ((a0.set a1.toNat (gt a0 a3)).set a3.toNat (gt a0 a1)).length c_1)] [] w ∧ Q60.l4 kk a0 a1 a2 a3 x19 = some r ∧ kk ≤ k) (k := k) ⟨(w64 (a1 + 1)), rfl, h77, H, Nat.le_refl _⟩ ?_
  rintro k10 env w53 ⟨x19, rfl, h71, H, hk10⟩
  cases k10 with
  | zero => exact nomatch (show none = some r from H)
  | succ k10 =>
   rw [Q60.l4] at H
   refine J.seq (J.seq ?_)
   refine J.heldSt mix h71 ?_
   have h72 := h71.drew
   refine HJ.run Za rfl [0, 1, 2, 3] rfl ?_
   rcases Bool.eq_false_or_eq_true (decide (x19 ≤ (w64 (a2 - 1)))) with c9 | c9
   ·replace H := Zi c9 H
    refine HJ.know (t := 33) rfl (congrArg Value.bool c9) (HJ.run Za rfl [4, 5, 8, 9] rfl ?_)
    obtain ⟨⟨p33, p34⟩, H⟩ := Zo H
    have e51 := Zy h72.wh (Gives.of 0 rfl Zl) p33 p34
    refine HJ.q (i := 6) rfl rfl rfl rfl rfl rfl (Zk Za rfl rfl rfl rfl rfl e51 p33 p34) (HJ.q (i := 7) rfl rfl rfl rfl rfl rfl (Ze (f := 0) Za rfl (fun w e => e) (Gives.of 0 rfl Zl) p33 p34 rfl rfl rfl rfl rfl) ?_)
    obtain ⟨⟨p35, p36⟩, H⟩ := Zo H
    refine HJ.q (i := 10) rfl rfl rfl rfl rfl rfl (Zk Za rfl rfl rfl rfl rfl e51 p35 p36) (HJ.q (i := 11) rfl rfl rfl rfl rfl rfl (Ze (f := 0) Za rfl (fun w e => e) (Gives.of 0 rfl Zl) p35 p36 rfl rfl rfl rfl rfl) ?_)
    obtain ⟨r4, q4, H⟩ := Zj H
    refine HJ.op (i := 12) rfl rfl rfl rfl rfl (Zd [] (Q4.spec q4) rfl rfl rfl h72 rfl Zm) ?_
    rintro _ w54 ⟨_, ⟨rfl, rfl⟩, h73⟩
    replace h73 : St w0 F0 [_] _ _ := h73
    refine ⟨⟨[], h73⟩, ?_⟩
    refine HJ.run Za rfl [13] rfl (HJ.fin [(0, _), (1, _), (10, _), (11, _), (43, .bool r4)] rfl rfl (J.cond rfl (fun c10 => ?_) (fun c10 => ?_)))
    ·replace H := Zi c10 H
     refine J.skip (J.block (J.region ?_))
     refine RJ.run Za 3 rfl (RJ.fin [(0, _), (1, _), (10, .int .i64 (w64 (x19 + 1))), (11, _)] rfl ?_)
     have h74 := ((h73.only [0] rfl).rds [] rfl)
     exact ⟨k10, by omega, (w64 (x19 + 1)), rfl, h74, H, by omega⟩
    replace H := Zg c10 H
    refine J.exit ?_
    have h75 := ((h73.only [0] rfl).rds [] rfl)
    exact ⟨k10, x19, r4, rfl, h75, H, by omega⟩
   replace H := Zg c9 H
   refine HJ.know (t := 33) rfl (congrArg Value.bool c9) (HJ.run Za rfl [4, 5, 6, 7, 8, 9, 10, 11, 12, 13] rfl (HJ.fin [(0, _), (1, _), (10, _), (11, _), (43, .bool false)] rfl rfl (J.condF rfl (J.exit ?_))))
   have h76 := ((h72.only [0] rfl).rds [] rfl)
   exact ⟨k10, x19, false, rfl, h76, H, by omega⟩
 rintro env w9 ⟨k1, x1, x2, rfl, h9, H, hk1⟩
 refine J.seq (J.midS (fun env w => ∃ (k2 : Nat) (x3 : Int) (x4 : Bool), env = [(0, .slice A1 ((a0.set a1.toNat (gt a0 a3)).set a3.toNat (gt a0 a1)).length c_1), (1, .int .i64 a1), (10, .int .i64 x1), (11, .int .i64 x3), (60, .bool x4)] ∧ St w0 F0 [Zf 70 (.int .u32) ((a0.set a1.toNat (gt a0 a3)).set a3.toNat (gt a0 a1)) (.slice A1 ((a0.set a1.toNat (gt a0 a3)).set a3.toNat (gt a0 a1)).length c_1)] [] w ∧ (if (decide (x3 < x1)) = true then (if 0 ≤ a1 ∧ a1 < (((a0.set a1.toNat (gt a0 a3)).set a3.toNat (gt a0 a1)).length : Int) then (if 0 ≤ x3 ∧ x3 < (((a0.set a1.toNat (gt a0 a3)).set a3.toNat (gt a0 a1)).length : Int) then (some (x3, true, ((((a0.set a1.toNat (gt a0 a3)).set a3.toNat (gt a0 a1)).set x3.toNat (gt ((a0.set a1.toNat (gt a0 a3)).set a3.toNat (gt a0 a1)) a1)).set a1.toNat (gt ((a0.set a1.toNat (gt a0 a3)).set a3.toNat (gt a0 a1)) x3)))) else none) else none) else (if 0 ≤ x3 ∧ x3 < (((a0.set a1.toNat (gt a0 a3)).set a3.toNat (gt a0 a1)).length : Int) then (if 0 ≤ x1 ∧ x1 < (((a0.set a1.toNat (gt a0 a3)).set a3.toNat (gt a0 a1)).length : Int) then (Q60.l0 k2 a1 ((((a0.set a1.toNat (gt a0 a3)).set a3.toNat (gt a0 a1)).set x1.toNat (gt ((a0.set a1.toNat (gt a0 a3)).set a3.toNat (gt a0 a1)) x3)).set x3.toNat (gt ((a0.set a1.toNat (gt a0 a3)).set a3.toNat (gt a0 a1)) x1)) (w64 (x1 + 1)) (w64 (x3 - 1))) else none) else none)) = some r ∧ k2 ≤ k1) ?_ ?_)
 ·refine J.block (J.narrow [(0, _), (1, _), (10, _), (11, _)] rfl ?_)
  have h70 := ((h9.only [0] rfl).rds [] rfl)
  refine J.loop (fun kk env w => ∃ (x18 : Int), env = [(0, .slice A1 ((a0.set a1.toNat (gt a0 a3)).set a3.toNat (gt a0 a1)).length c_1), (1, .int .i64 a1), (10, .int .i64 x1), (11, .int .i64 x18)] ∧ St w0 F0 [Zf 70 (.int .u32) ((a0.set a1.toNat (gt a0 a3)).set a3.toNat (gt a0 a1)) (.slice A1 ((a0.set a1.toNat (gt a0 a3)).set a3.toNat (gt a0 a1)).length c_1)] [] w ∧ Q60.l3 kk a0 a1 a3 x1 x18 = some r ∧ kk ≤ k1) (k := k1) ⟨(w64 (a2 - 1)), rfl, h70, H, Nat.le_refl _⟩ ?_
  rintro k9 env w51 ⟨x18, rfl, h64, H, hk9⟩
  cases k9 with
  | zero => exact nomatch (show none = some r from H)
  | succ k9 =>
   rw [Q60.l3] at H
   refine J.seq (J.seq ?_)
   refine J.heldSt mix h64 ?_
   have h65 := h64.drew
   refine HJ.run Za rfl [0, 1, 2, 3] rfl ?_
   rcases Bool.eq_false_or_eq_true (decide (x1 ≤ x18)) with c7 | c7
   ·replace H := Zi c7 H
    refine HJ.know (t := 49) rfl (congrArg Value.bool c7) (HJ.run Za rfl [4, 5, 8, 9] rfl ?_)
    obtain ⟨⟨p29, p30⟩, H⟩ := Zo H
    have e50 := Zy h65.wh (Gives.of 0 rfl Zl) p29 p30
    refine HJ.q (i := 6) rfl rfl rfl rfl rfl rfl (Zk Za rfl rfl rfl rfl rfl e50 p29 p30) (HJ.q (i := 7) rfl rfl rfl rfl rfl rfl (Ze (f := 0) Za rfl (fun w e => e) (Gives.of 0 rfl Zl) p29 p30 rfl rfl rfl rfl rfl) ?_)
    obtain ⟨⟨p31, p32⟩, H⟩ := Zo H
    refine HJ.q (i := 10) rfl rfl rfl rfl rfl rfl (Zk Za rfl rfl rfl rfl rfl e50 p31 p32) (HJ.q (i := 11) rfl rfl rfl rfl rfl rfl (Ze (f := 0) Za rfl (fun w e => e) (Gives.of 0 rfl Zl) p31 p32 rfl rfl rfl rfl rfl) ?_)
    obtain ⟨r3, q3, H⟩ := Zj H
    refine HJ.op (i := 12) rfl rfl rfl rfl rfl (Zd [] (Q4.spec q3) rfl rfl rfl h65 rfl Zm) ?_
    rintro _ w52 ⟨_, ⟨rfl, rfl⟩, h66⟩
    replace h66 : St w0 F0 [_] _ _ := h66
    refine ⟨⟨[], h66⟩, ?_⟩
    refine HJ.run Za rfl [13, 14] rfl (HJ.fin [(0, _), (1, _), (10, _), (11, _), (60, .bool (!r3))] rfl rfl (J.cond rfl (fun c8 => ?_) (fun c8 => ?_)))
    ·replace H := Zi c8 H
     refine J.skip (J.block (J.region ?_))
     refine RJ.run Za 3 rfl (RJ.fin [(0, _), (1, _), (10, _), (11, .int .i64 (w64 (x18 - 1)))] rfl ?_)
     have h67 := ((h66.only [0] rfl).rds [] rfl)
     exact ⟨k9, by omega, (w64 (x18 - 1)), rfl, h67, H, by omega⟩
    replace H := Zg c8 H
    refine J.exit ?_
    have h68 := ((h66.only [0] rfl).rds [] rfl)
    exact ⟨k9, x18, (!r3), rfl, h68, H, by omega⟩
   replace H := Zg c7 H
   refine HJ.know (t := 49) rfl (congrArg Value.bool c7) (HJ.run Za rfl [4, 5, 6, 7, 8, 9, 10, 11, 12, 13, 14] rfl (HJ.fin [(0, _), (1, _), (10, _), (11, _), (60, .bool false)] rfl rfl (J.condF rfl (J.exit ?_))))
   have h69 := ((h65.only [0] rfl).rds [] rfl)
   exact ⟨k9, x18, false, rfl, h69, H, by omega⟩
 rintro env w11 ⟨k2, x3, x4, rfl, h10, H, hk2⟩
 refine J.seq (J.seq (J.region ?_))
 refine RJ.run Za 3 rfl (RJ.fin [(0, _), (1, _), (10, _), (11, _), (65, .bool (decide (x3 < x1)))] rfl (J.cond rfl (fun c1 => ?_) (fun c1 => ?_)))
 ·replace H := Zi c1 H
  refine J.seq ?_
  obtain ⟨⟨p5, p6⟩, H⟩ := Zo H
  obtain ⟨⟨p7, p8⟩, H⟩ := Zo H
  refine J.midS (fun env w => env = [(11, .int .i64 x3)] ∧ St w0 F0 [Zf 70 (.int .u32) ((((a0.set a1.toNat (gt a0 a3)).set a3.toNat (gt a0 a1)).set x3.toNat (gt ((a0.set a1.toNat (gt a0 a3)).set a3.toNat (gt a0 a1)) a1)).set a1.toNat (gt ((a0.set a1.toNat (gt a0 a3)).set a3.toNat (gt a0 a1)) x3)) (.slice A1 ((((a0.set a1.toNat (gt a0 a3)).set a3.toNat (gt a0 a1)).set x3.toNat (gt ((a0.set a1.toNat (gt a0 a3)).set a3.toNat (gt a0 a1)) a1)).set a1.toNat (gt ((a0.set a1.toNat (gt a0 a3)).set a3.toNat (gt a0 a1)) x3)).length c_1)] [] w) ?_ ?_
  ·refine J.heldSt mix (h10.only [] rfl) ?_
   have h13 := h10.drew
   refine HJ.run Za rfl [0, 1, 2, 3, 4, 5, 8, 9] rfl ?_
   have e13 := Zy h13.wh (Gives.of 0 rfl Zl) p5 p6
   refine HJ.q (i := 6) rfl rfl rfl rfl rfl rfl (Zk Za rfl rfl rfl rfl rfl e13 p5 p6) (HJ.q (i := 10) rfl rfl rfl rfl rfl rfl (Zk Za rfl rfl rfl rfl rfl e13 p7 p8) (HJ.pick [7, 11] (i := 7) rfl rfl rfl rfl ((Zs ?_ (Zs ?_ Z4)))))
   ·refine HS.op (i := 7) rfl rfl rfl (OpT.ofq (Ze (f := 0) Za rfl h13.wht (Gives.of 0 rfl Zl) p5 p6 rfl rfl rfl rfl rfl)) ?_
    rintro _ _ ⟨rfl, rfl⟩
    replace h13 : St w0 F0 [_] _ _ := h13
    refine ⟨⟨[_], h13⟩, ?_⟩
    refine HJ.op (i := 11) rfl rfl rfl rfl rfl (OpT.ofq (Ze (f := 0) Za rfl h13.wht (Gives.of 0 rfl Zl) p7 p8 rfl rfl rfl rfl rfl)) ?_
    rintro _ _ ⟨rfl, rfl⟩
    replace h13 : St w0 F0 [_] _ _ := h13
    refine ⟨⟨[_], h13⟩, ?_⟩
    refine HJ.q (i := 12) rfl rfl rfl rfl rfl rfl (Zk Za rfl rfl rfl rfl rfl e13 p7 p8) (HJ.op (i := 13) rfl rfl rfl rfl rfl (Zp (ty := (.int .u32)) (f := 0) (ix := x3) Za rfl (gt ((a0.set a1.toNat (gt a0 a3)).set a3.toNat (gt a0 a1)) a1) 0 rfl h13 rfl rfl p7 p8 rfl rfl rfl rfl rfl rfl rfl) ?_)
    intro _ w14 h14
    replace h14 : St w0 F0 [Zf 70 (.int .u32) (((a0.set a1.toNat (gt a0 a3)).set a3.toNat (gt a0 a1)).set x3.toNat (gt ((a0.set a1.toNat (gt a0 a3)).set a3.toNat (gt a0 a1)) a1)) (.slice A1 (((a0.set a1.toNat (gt a0 a3)).set a3.toNat (gt a0 a1)).set x3.toNat (gt ((a0.set a1.toNat (gt a0 a3)).set a3.toNat (gt a0 a1)) a1)).length c_1)] _ _ := h14
    refine ⟨⟨[_], h14⟩, ?_⟩
    have e14 : (((a0.set a1.toNat (gt a0 a3)).set a3.toNat (gt a0 a1)).set x3.toNat (gt ((a0.set a1.toNat (gt a0 a3)).set a3.toNat (gt a0 a1)) a1)).length = a0.length := List.length_set.trans e9
    refine HJ.q (i := 14) rfl rfl rfl rfl rfl rfl (Zk Za rfl rfl rfl rfl rfl e13 p5 p6) (HJ.op (i := 15) rfl rfl rfl rfl rfl (Zp (ty := (.int .u32)) (f := 0) (ix := a1) Za rfl (gt ((a0.set a1.toNat (gt a0 a3)).set a3.toNat (gt a0 a1)) x3) 0 rfl h14 rfl rfl p5 (by simpa only [List.length_set] using p6) rfl rfl rfl rfl rfl rfl rfl) ?_)
    intro _ w15 h15
    replace h15 : St w0 F0 [Zf 70 (.int .u32) ((((a0.set a1.toNat (gt a0 a3)).set a3.toNat (gt a0 a1)).set x3.toNat (gt ((a0.set a1.toNat (gt a0 a3)).set a3.toNat (gt a0 a1)) a1)).set a1.toNat (gt ((a0.set a1.toNat (gt a0 a3)).set a3.toNat (gt a0 a1)) x3)) (.slice A1 ((((a0.set a1.toNat (gt a0 a3)).set a3.toNat (gt a0 a1)).set x3.toNat (gt ((a0.set a1.toNat (gt a0 a3)).set a3.toNat (gt a0 a1)) a1)).set a1.toNat (gt ((a0.set a1.toNat (gt a0 a3)).set a3.toNat (gt a0 a1)) x3)).length c_1)] _ _ := h15
    refine ⟨⟨[_], h15⟩, ?_⟩
    have e15 : ((((a0.set a1.toNat (gt a0 a3)).set a3.toNat (gt a0 a1)).set x3.toNat (gt ((a0.set a1.toNat (gt a0 a3)).set a3.toNat (gt a0 a1)) a1)).set a1.toNat (gt ((a0.set a1.toNat (gt a0 a3)).set a3.toNat (gt a0 a1)) x3)).length = a0.length := List.length_set.trans e14
    refine HJ.fin [(11, .int .i64 x3)] rfl rfl ?_
    exact Zq ⟨(by simp only [List.length_set]), ((h15.only [0] rfl).rds [] rfl)⟩
   ·refine HS.op (i := 11) rfl rfl rfl (OpT.ofq (Ze (f := 0) Za rfl h13.wht (Gives.of 0 rfl Zl) p7 p8 rfl rfl rfl rfl rfl)) ?_
    rintro _ _ ⟨rfl, rfl⟩
    replace h13 : St w0 F0 [_] _ _ := h13
    refine ⟨⟨[_], h13⟩, ?_⟩
    refine HJ.op (i := 7) rfl rfl rfl rfl rfl (OpT.ofq (Ze (f := 0) Za rfl h13.wht (Gives.of 0 rfl Zl) p5 p6 rfl rfl rfl rfl rfl)) ?_
    rintro _ _ ⟨rfl, rfl⟩
    replace h13 : St w0 F0 [_] _ _ := h13
    refine ⟨⟨[_], h13⟩, ?_⟩
    refine HJ.q (i := 12) rfl rfl rfl rfl rfl rfl (Zk Za rfl rfl rfl rfl rfl e13 p7 p8) (HJ.op (i := 13) rfl rfl rfl rfl rfl (Zp (ty := (.int .u32)) (f := 0) (ix := x3) Za rfl (gt ((a0.set a1.toNat (gt a0 a3)).set a3.toNat (gt a0 a1)) a1) 0 rfl h13 rfl rfl p7 p8 rfl rfl rfl rfl rfl rfl rfl) ?_)
    intro _ w16 h16
    replace h16 : St w0 F0 [Zf 70 (.int .u32) (((a0.set a1.toNat (gt a0 a3)).set a3.toNat (gt a0 a1)).set x3.toNat (gt ((a0.set a1.toNat (gt a0 a3)).set a3.toNat (gt a0 a1)) a1)) (.slice A1 (((a0.set a1.toNat (gt a0 a3)).set a3.toNat (gt a0 a1)).set x3.toNat (gt ((a0.set a1.toNat (gt a0 a3)).set a3.toNat (gt a0 a1)) a1)).length c_1)] _ _ := h16
    refine ⟨⟨[_], h16⟩, ?_⟩
    have e16 : (((a0.set a1.toNat (gt a0 a3)).set a3.toNat (gt a0 a1)).set x3.toNat (gt ((a0.set a1.toNat (gt a0 a3)).set a3.toNat (gt a0 a1)) a1)).length = a0.length := List.length_set.trans e9
    refine HJ.q (i := 14) rfl rfl rfl rfl rfl rfl (Zk Za rfl rfl rfl rfl rfl e13 p5 p6) (HJ.op (i := 15) rfl rfl rfl rfl rfl (Zp (ty := (.int .u32)) (f := 0) (ix := a1) Za rfl (gt ((a0.set a1.toNat (gt a0 a3)).set a3.toNat (gt a0 a1)) x3) 0 rfl h16 rfl rfl p5 (by simpa only [List.length_set] using p6) rfl rfl rfl rfl rfl rfl rfl) ?_)
    intro _ w17 h17
    replace h17 : St w0 F0 [Zf 70 (.int .u32) ((((a0.set a1.toNat (gt a0 a3)).set a3.toNat (gt a0 a1)).set x3.toNat (gt ((a0.set a1.toNat (gt a0 a3)).set a3.toNat (gt a0 a1)) a1)).set a1.toNat (gt ((a0.set a1.toNat (gt a0 a3)).set a3.toNat (gt a0 a1)) x3)) (.slice A1 ((((a0.set a1.toNat (gt a0 a3)).set a3.toNat (gt a0 a1)).set x3.toNat (gt ((a0.set a1.toNat (gt a0 a3)).set a3.toNat (gt a0 a1)) a1)).set a1.toNat (gt ((a0.set a1.toNat (gt a0 a3)).set a3.toNat (gt a0 a1)) x3)).length c_1)] _ _ := h17
    refine ⟨⟨[_], h17⟩, ?_⟩
    have e17 : ((((a0.set a1.toNat (gt a0 a3)).set a3.toNat (gt a0 a1)).set x3.toNat (gt ((a0.set a1.toNat (gt a0 a3)).set a3.toNat (gt a0 a1)) a1)).set a1.toNat (gt ((a0.set a1.toNat (gt a0 a3)).set a3.toNat (gt a0 a1)) x3)).length = a0.length := List.length_set.trans e16
    refine HJ.fin [(11, .int .i64 x3)] rfl rfl ?_
    exact Zq ⟨(by simp only [List.length_set]), ((h17.only [0] rfl).rds [] rfl)⟩
  rintro env w18 ⟨rfl, h18⟩
  have e18 : ((((a0.set a1.toNat (gt a0 a3)).set a3.toNat (gt a0 a1)).set x3.toNat (gt ((a0.set a1.toNat (gt a0 a3)).set a3.toNat (gt a0 a1)) a1)).set a1.toNat (gt ((a0.set a1.toNat (gt a0 a3)).set a3.toNat (gt a0 a1)) x3)).length = a0.length := by first | (simp only [List.length_set]; done) | (simp only [List.length_set]; exact e9)
  refine J.seq (J.region ?_)
  refine RJ.run Za 3 rfl (RJ.fin [(8, .int .i64 x3), (9, .bool true)] rfl (J.ret ?_))
  obtain rfl := Option.some.inj H
  exact ⟨_, _, _, (Zb rfl), ⟨rfl, rfl, e18⟩, h18.only [0] rfl⟩
 replace H := Zg c1 H
 refine J.skip (J.seq ?_)
 obtain ⟨⟨p9, p10⟩, H⟩ := Zo H
 obtain ⟨⟨p11, p12⟩, H⟩ := Zo H
 refine J.midS (fun env w => env = [(0, .slice A1 ((((a0.set a1.toNat (gt a0 a3)).set a3.toNat (gt a0 a1)).set x1.toNat (gt ((a0.set a1.toNat (gt a0 a3)).set a3.toNat (gt a0 a1)) x3)).set x3.toNat (gt ((a0.set a1.toNat (gt a0 a3)).set a3.toNat (gt a0 a1)) x1)).length c_1), (1, .int .i64 a1), (10, .int .i64 x1), (11, .int .i64 x3)] ∧ St w0 F0 [Zf 70 (.int .u32) ((((a0.set a1.toNat (gt a0 a3)).set a3.toNat (gt a0 a1)).set x1.toNat (gt ((a0.set a1.toNat (gt a0 a3)).set a3.toNat (gt a0 a1)) x3)).set x3.toNat (gt ((a0.set a1.toNat (gt a0 a3)).set a3.toNat (gt a0 a1)) x1)) (.slice A1 ((((a0.set a1.toNat (gt a0 a3)).set a3.toNat (gt a0 a1)).set x1.toNat (gt ((a0.set a1.toNat (gt a0 a3)).set a3.toNat (gt a0 a1)) x3)).set x3.toNat (gt ((a0.set a1.toNat (gt a0 a3)).set a3.toNat (gt a0 a1)) x1)).length c_1)] [] w) ?_ ?_
 ·refine J.heldSt mix (h10.only [] rfl) ?_
  have h21 := h10.drew
  refine HJ.run Za rfl [0, 1, 2, 3, 4, 5, 8, 9] rfl ?_
  have e22 := Zy h21.wh (Gives.of 0 rfl Zl) p9 p10
  refine HJ.q (i := 6) rfl rfl rfl rfl rfl rfl (Zk Za rfl rfl rfl rfl rfl e22 p9 p10) (HJ.q (i := 10) rfl rfl rfl rfl rfl rfl (Zk Za rfl rfl rfl rfl rfl e22 p11 p12) (HJ.pick [7, 11] (i := 7) rfl rfl rfl rfl ((Zs ?_ (Zs ?_ Z4)))))
  ·refine HS.op (i := 7) rfl rfl rfl (OpT.ofq (Ze (f := 0) Za rfl h21.wht (Gives.of 0 rfl Zl) p9 p10 rfl rfl rfl rfl rfl)) ?_
   rintro _ _ ⟨rfl, rfl⟩
   replace h21 : St w0 F0 [_] _ _ := h21
   refine ⟨⟨[_], h21⟩, ?_⟩
   refine HJ.op (i := 11) rfl rfl rfl rfl rfl (OpT.ofq (Ze (f := 0) Za rfl h21.wht (Gives.of 0 rfl Zl) p11 p12 rfl rfl rfl rfl rfl)) ?_
   rintro _ _ ⟨rfl, rfl⟩
   replace h21 : St w0 F0 [_] _ _ := h21
   refine ⟨⟨[_], h21⟩, ?_⟩
   refine HJ.q (i := 12) rfl rfl rfl rfl rfl rfl (Zk Za rfl rfl rfl rfl rfl e22 p11 p12) (HJ.op (i := 13) rfl rfl rfl rfl rfl (Zp (ty := (.int .u32)) (f := 0) (ix := x1) Za rfl (gt ((a0.set a1.toNat (gt a0 a3)).set a3.toNat (gt a0 a1)) x3) 0 rfl h21 rfl rfl p11 p12 rfl rfl rfl rfl rfl rfl rfl) ?_)
   intro _ w21 h22
   replace h22 : St w0 F0 [Zf 70 (.int .u32) (((a0.set a1.toNat (gt a0 a3)).set a3.toNat (gt a0 a1)).set x1.toNat (gt ((a0.set a1.toNat (gt a0 a3)).set a3.toNat (gt a0 a1)) x3)) (.slice A1 (((a0.set a1.toNat (gt a0 a3)).set a3.toNat (gt a0 a1)).set x1.toNat (gt ((a0.set a1.toNat (gt a0 a3)).set a3.toNat (gt a0 a1)) x3)).length c_1)] _ _ := h22
   refine ⟨⟨[_], h22⟩, ?_⟩
   have e23 : (((a0.set a1.toNat (gt a0 a3)).set a3.toNat (gt a0 a1)).set x1.toNat (gt ((a0.set a1.toNat (gt a0 a3)).set a3.toNat (gt a0 a1)) x3)).length = a0.length := List.length_set.trans e9
   refine HJ.q (i := 14) rfl rfl rfl rfl rfl rfl (Zk Za rfl rfl rfl rfl rfl e22 p9 p10) (HJ.op (i := 15) rfl rfl rfl rfl rfl (Zp (ty := (.int .u32)) (f := 0) (ix := x3) Za rfl (gt ((a0.set a1.toNat (gt a0 a3)).set a3.toNat (gt a0 a1)) x1) 0 rfl h22 rfl rfl p9 (by simpa only [List.length_set] using p10) rfl rfl rfl rfl rfl rfl rfl) ?_)
   intro _ w22 h23
   replace h23 : St w0 F0 [Zf 70 (.int .u32) ((((a0.set a1.toNat (gt a0 a3)).set a3.toNat (gt a0 a1)).set x1.toNat (gt ((a0.set a1.toNat (gt a0 a3)).set a3.toNat (gt a0 a1)) x3)).set x3.toNat (gt ((a0.set a1.toNat (gt a0 a3)).set a3.toNat (gt a0 a1)) x1)) (.slice A1 ((((a0.set a1.toNat (gt a0 a3)).set a3.toNat (gt a0 a1)).set x1.toNat (gt ((a0.set a1.toNat (gt a0 a3)).set a3.toNat (gt a0 a1)) x3)).set x3.toNat (gt ((a0.set a1.toNat (gt a0 a3)).set a3.toNat (gt a0 a1)) x1)).length c_1)] _ _ := h23
   refine ⟨⟨[_], h23⟩, ?_⟩
   have e24 : ((((a0.set a1.toNat (gt a0 a3)).set a3.toNat (gt a0 a1)).set x1.toNat (gt ((a0.set a1.toNat (gt a0 a3)).set a3.toNat (gt a0 a1)) x3)).set x3.toNat (gt ((a0.set a1.toNat (gt a0 a3)).set a3.toNat (gt a0 a1)) x1)).length = a0.length := List.length_set.trans e23
   refine HJ.fin [(0, .slice A1 ((a0.set a1.toNat (gt a0 a3)).set a3.toNat (gt a0 a1)).length c_1), (1, .int .i64 a1), (10, .int .i64 x1), (11, .int .i64 x3)] rfl rfl ?_
   exact Zq ⟨(by simp only [List.length_set]), ((h23.only [0] rfl).rds [] rfl)⟩
  ·refine HS.op (i := 11) rfl rfl rfl (OpT.ofq (Ze (f := 0) Za rfl h21.wht (Gives.of 0 rfl Zl) p11 p12 rfl rfl rfl rfl rfl)) ?_
   rintro _ _ ⟨rfl, rfl⟩
   replace h21 : St w0 F0 [_] _ _ := h21
   refine ⟨⟨[_], h21⟩, ?_⟩
   refine HJ.op (i := 7) rfl rfl rfl rfl rfl (OpT.ofq (Ze (f := 0) Za rfl h21.wht (Gives.of 0 rfl Zl) p9 p10 rfl rfl rfl rfl rfl)) ?_
   rintro _ _ ⟨rfl, rfl⟩
   replace h21 : St w0 F0 [_] _ _ := h21
   refine ⟨⟨[_], h21⟩, ?_⟩
   refine HJ.q (i := 12) rfl rfl rfl rfl rfl rfl (Zk Za rfl rfl rfl rfl rfl e22 p11 p12) (HJ.op (i := 13) rfl rfl rfl rfl rfl (Zp (ty := (.int .u32)) (f := 0) (ix := x1) Za rfl (gt ((a0.set a1.toNat (gt a0 a3)).set a3.toNat (gt a0 a1)) x3) 0 rfl h21 rfl rfl p11 p12 rfl rfl rfl rfl rfl rfl rfl) ?_)
   intro _ w23 h24
   replace h24 : St w0 F0 [Zf 70 (.int .u32) (((a0.set a1.toNat (gt a0 a3)).set a3.toNat (gt a0 a1)).set x1.toNat (gt ((a0.set a1.toNat (gt a0 a3)).set a3.toNat (gt a0 a1)) x3)) (.slice A1 (((a0.set a1.toNat (gt a0 a3)).set a3.toNat (gt a0 a1)).set x1.toNat (gt ((a0.set a1.toNat (gt a0 a3)).set a3.toNat (gt a0 a1)) x3)).length c_1)] _ _ := h24
   refine ⟨⟨[_], h24⟩, ?_⟩
   have e25 : (((a0.set a1.toNat (gt a0 a3)).set a3.toNat (gt a0 a1)).set x1.toNat (gt ((a0.set a1.toNat (gt a0 a3)).set a3.toNat (gt a0 a1)) x3)).length = a0.length := List.length_set.trans e9
   refine HJ.q (i := 14) rfl rfl rfl rfl rfl rfl (Zk Za rfl rfl rfl rfl rfl e22 p9 p10) (HJ.op (i := 15) rfl rfl rfl rfl rfl (Zp (ty := (.int .u32)) (f := 0) (ix := x3) Za rfl (gt ((a0.set a1.toNat (gt a0 a3)).set a3.toNat (gt a0 a1)) x1) 0 rfl h24 rfl rfl p9 (by simpa only [List.length_set] using p10) rfl rfl rfl rfl rfl rfl rfl) ?_)
   intro _ w24 h25
   replace h25 : St w0 F0 [Zf 70 (.int .u32) ((((a0.set a1.toNat (gt a0 a3)).set a3.toNat (gt a0 a1)).set x1.toNat (gt ((a0.set a1.toNat (gt a0 a3)).set a3.toNat (gt a0 a1)) x3)).set x3.toNat (gt ((a0.set a1.toNat (gt a0 a3)).set a3.toNat (gt a0 a1)) x1)) (.slice A1 ((((a0.set a1.toNat (gt a0 a3)).set a3.toNat (gt a0 a1)).set x1.toNat (gt ((a0.set a1.toNat (gt a0 a3)).set a3.toNat (gt a0 a1)) x3)).set x3.toNat (gt ((a0.set a1.toNat (gt a0 a3)).set a3.toNat (gt a0 a1)) x1)).length c_1)] _ _ := h25
   refine ⟨⟨[_], h25⟩, ?_⟩
   have e26 : ((((a0.set a1.toNat (gt a0 a3)).set a3.toNat (gt a0 a1)).set x1.toNat (gt ((a0.set a1.toNat (gt a0 a3)).set a3.toNat (gt a0 a1)) x3)).set x3.toNat (gt ((a0.set a1.toNat (gt a0 a3)).set a3.toNat (gt a0 a1)) x1)).length = a0.length := List.length_set.trans e25
   refine HJ.fin [(0, .slice A1 ((a0.set a1.toNat (gt a0 a3)).set a3.toNat (gt a0 a1)).length c_1), (1, .int .i64 a1), (10, .int .i64 x1), (11, .int .i64 x3)] rfl rfl ?_
   exact Zq ⟨(by simp only [List.length_set]), ((h25.only [0] rfl).rds [] rfl)⟩
 rintro env w25 ⟨rfl, h26⟩
 have e27 : ((((a0.set a1.toNat (gt a0 a3)).set a3.toNat (gt a0 a1)).set x1.toNat (gt ((a0.set a1.toNat (gt a0 a3)).set a3.toNat (gt a0 a1)) x3)).set x3.toNat (gt ((a0.set a1.toNat (gt a0 a3)).set a3.toNat (gt a0 a1)) x1)).length = a0.length := by first | (simp only [List.length_set]; done) | (simp only [List.length_set]; exact e9)
 refine J.seq (J.region ?_)
 refine RJ.run Za 3 rfl (RJ.fin [(0, .slice A1 ((((a0.set a1.toNat (gt a0 a3)).set a3.toNat (gt a0 a1)).set x1.toNat (gt ((a0.set a1.toNat (gt a0 a3)).set a3.toNat (gt a0 a1)) x3)).set x3.toNat (gt ((a0.set a1.toNat (gt a0 a3)).set a3.toNat (gt a0 a1)) x1)).length c_1), (1, _), (10, .int .i64 (w64 (x1 + 1))), (11, _)] rfl (J.seq (J.region ?_)))
 refine RJ.run Za 3 rfl (RJ.fin [(0, _), (1, _), (10, _), (11, .int .i64 (w64 (x3 - 1)))] rfl (J.seq (J.midS (fun env w => ∃ (x5 : List (Int)) (x6 : Int) (x7 : Int) (x8 : Bool), env = [(0, .slice A1 x5.length c_1), (1, .int .i64 a1), (10, .int .i64 x6), (11, .int .i64 x7), (134, .bool x8)] ∧ St w0 F0 [Zf 70 (.int .u32) x5 (.slice A1 x5.length c_1)] [] w ∧ (if 0 ≤ a1 ∧ a1 < (x5.length : Int) then (if 0 ≤ x7 ∧ x7 < (x5.length : Int) then (some (x7, false, ((x5.set x7.toNat (gt x5 a1)).set a1.toNat (gt x5 x7)))) else none) else none) = some r ∧ x5.length = a0.length) ?_ ?_)))
 ·refine J.block ?_
  have h63 := ((h26.only [0] rfl).rds [] rfl)
  refine J.loop (fun kk env w => ∃ (x9 : List (Int)) (x10 : Int) (x11 : Int), env = [(0, .slice A1 x9.length c_1), (1, .int .i64 a1), (10, .int .i64 x10), (11, .int .i64 x11)] ∧ St w0 F0 [Zf 70 (.int .u32) x9 (.slice A1 x9.length c_1)] [] w ∧ Q60.l0 kk a1 x9 x10 x11 = some r ∧ kk ≤ k2 ∧ x9.length = a0.length) (k := k2) ⟨((((a0.set a1.toNat (gt a0 a3)).set a3.toNat (gt a0 a1)).set x1.toNat (gt ((a0.set a1.toNat (gt a0 a3)).set a3.toNat (gt a0 a1)) x3)).set x3.toNat (gt ((a0.set a1.toNat (gt a0 a3)).set a3.toNat (gt a0 a1)) x1)), (w64 (x1 + 1)), (w64 (x3 - 1)), rfl, h63, H, Nat.le_refl _, e27⟩ ?_
  rintro k4 env w35 ⟨x9, x10, x11, rfl, h36, H, hk4, e38⟩
  cases k4 with
  | zero => exact nomatch (show none = some r from H)
  | succ k4 =>
   rw [Q60.l0] at H
   refine J.block (J.seq ?_)
   refine J.midS (fun env w => ∃ (k5 : Nat) (x12 : Int) (x13 : Bool), env = [(0, .slice A1 x9.length c_1), (1, .int .i64 a1), (10, .int .i64 x12), (11, .int .i64 x11), (112, .bool x13)] ∧ St w0 F0 [Zf 70 (.int .u32) x9 (.slice A1 x9.length c_1)] [] w ∧ (Q60.l1 k5 a1 x9 x12 x11) = some r ∧ k5 ≤ k4) ?_ ?_
   ·refine J.block ?_
    have h62 := ((h36.only [0] rfl).rds [] rfl)
    refine J.loop (fun kk env w => ∃ (x17 : Int), env = [(0, .slice A1 x9.length c_1), (1, .int .i64 a1), (10, .int .i64 x17), (11, .int .i64 x11)] ∧ St w0 F0 [Zf 70 (.int .u32) x9 (.slice A1 x9.length c_1)] [] w ∧ Q60.l2 kk a1 x9 x11 x17 = some r ∧ kk ≤ k4) (k := k4) ⟨x10, rfl, h62, H, Nat.le_refl _⟩ ?_
    rintro k8 env w49 ⟨x17, rfl, h56, H, hk8⟩
    cases k8 with
    | zero => exact nomatch (show none = some r from H)
    | succ k8 =>
     rw [Q60.l2] at H
     refine J.seq (J.seq ?_)
     refine J.heldSt mix h56 ?_
     have h57 := h56.drew
     refine HJ.run Za rfl [0, 1, 2, 3] rfl ?_
     rcases Bool.eq_false_or_eq_true (decide (x17 ≤ x11)) with c5 | c5
     ·replace H := Zi c5 H
      refine HJ.know (t := 102) rfl (congrArg Value.bool c5) (HJ.run Za rfl [4, 5, 8, 9] rfl ?_)
      obtain ⟨⟨p25, p26⟩, H⟩ := Zo H
      have e49 := Zy h57.wh (Gives.of 0 rfl Zl) p25 p26
      refine HJ.q (i := 6) rfl rfl rfl rfl rfl rfl (Zk Za rfl rfl rfl rfl rfl e49 p25 p26) (HJ.q (i := 7) rfl rfl rfl rfl rfl rfl (Ze (f := 0) Za rfl (fun w e => e) (Gives.of 0 rfl Zl) p25 p26 rfl rfl rfl rfl rfl) ?_)
      obtain ⟨⟨p27, p28⟩, H⟩ := Zo H
      refine HJ.q (i := 10) rfl rfl rfl rfl rfl rfl (Zk Za rfl rfl rfl rfl rfl e49 p27 p28) (HJ.q (i := 11) rfl rfl rfl rfl rfl rfl (Ze (f := 0) Za rfl (fun w e => e) (Gives.of 0 rfl Zl) p27 p28 rfl rfl rfl rfl rfl) ?_)
      obtain ⟨r2, q2, H⟩ := Zj H
      refine HJ.op (i := 12) rfl rfl rfl rfl rfl (Zd [] (Q4.spec q2) rfl rfl rfl h57 rfl Zm) ?_
      rintro _ w50 ⟨_, ⟨rfl, rfl⟩, h58⟩
      replace h58 : St w0 F0 [_] _ _ := h58
      refine ⟨⟨[], h58⟩, ?_⟩
      refine HJ.run Za rfl [13] rfl (HJ.fin [(0, _), (1, _), (10, _), (11, _), (112, .bool r2)] rfl rfl (J.cond rfl (fun c6 => ?_) (fun c6 => ?_)))
      ·replace H := Zi c6 H
       refine J.skip (J.block (J.region ?_))
       refine RJ.run Za 3 rfl (RJ.fin [(0, _), (1, _), (10, .int .i64 (w64 (x17 + 1))), (11, _)] rfl ?_)
       have h59 := ((h58.only [0] rfl).rds [] rfl)
       exact ⟨k8, by omega, (w64 (x17 + 1)), rfl, h59, H, by omega⟩
      replace H := Zg c6 H
      refine J.exit ?_
      have h60 := ((h58.only [0] rfl).rds [] rfl)
      exact ⟨k8, x17, r2, rfl, h60, H, by omega⟩
     replace H := Zg c5 H
     refine HJ.know (t := 102) rfl (congrArg Value.bool c5) (HJ.run Za rfl [4, 5, 6, 7, 8, 9, 10, 11, 12, 13] rfl (HJ.fin [(0, _), (1, _), (10, _), (11, _), (112, .bool false)] rfl rfl (J.condF rfl (J.exit ?_))))
     have h61 := ((h57.only [0] rfl).rds [] rfl)
     exact ⟨k8, x17, false, rfl, h61, H, by omega⟩
   rintro env w37 ⟨k5, x12, x13, rfl, h37, H, hk5⟩
   refine J.seq (J.midS (fun env w => ∃ (k6 : Nat) (x14 : Int) (x15 : Bool), env = [(0, .slice A1 x9.length c_1), (1, .int .i64 a1), (10, .int .i64 x12), (11, .int .i64 x14), (129, .bool x15)] ∧ St w0 F0 [Zf 70 (.int .u32) x9 (.slice A1 x9.length c_1)] [] w ∧ (if (decide (x14 < x12)) = true then (if 0 ≤ a1 ∧ a1 < (x9.length : Int) then (if 0 ≤ x14 ∧ x14 < (x9.length : Int) then (some (x14, false, ((x9.set x14.toNat (gt x9 a1)).set a1.toNat (gt x9 x14)))) else none) else none) else (if 0 ≤ x14 ∧ x14 < (x9.length : Int) then (if 0 ≤ x12 ∧ x12 < (x9.length : Int) then (Q60.l0 k6 a1 ((x9.set x12.toNat (gt x9 x14)).set x14.toNat (gt x9 x12)) (w64 (x12 + 1)) (w64 (x14 - 1))) else none) else none)) = some r ∧ k6 ≤ k5) ?_ ?_)
   ·refine J.block (J.narrow [(0, _), (1, _), (10, _), (11, _)] rfl ?_)
    have h55 := ((h37.only [0] rfl).rds [] rfl)
    refine J.loop (fun kk env w => ∃ (x16 : Int), env = [(0, .slice A1 x9.length c_1), (1, .int .i64 a1), (10, .int .i64 x12), (11, .int .i64 x16)] ∧ St w0 F0 [Zf 70 (.int .u32) x9 (.slice A1 x9.length c_1)] [] w ∧ Q60.l1 kk a1 x9 x12 x16 = some r ∧ kk ≤ k5) (k := k5) ⟨x11, rfl, h55, H, Nat.le_refl _⟩ ?_
    rintro k7 env w47 ⟨x16, rfl, h49, H, hk7⟩
    cases k7 with
    | zero => exact nomatch (show none = some r from H)
    | succ k7 =>
     rw [Q60.l1] at H
     refine J.seq (J.seq ?_)
     refine J.heldSt mix h49 ?_
     have h50 := h49.drew
     refine HJ.run Za rfl [0, 1, 2, 3] rfl ?_
     rcases Bool.eq_false_or_eq_true (decide (x12 ≤ x16)) with c3 | c3
     ·replace H := Zi c3 H
      refine HJ.know (t := 118) rfl (congrArg Value.bool c3) (HJ.run Za rfl [4, 5, 8, 9] rfl ?_)
      obtain ⟨⟨p21, p22⟩, H⟩ := Zo H
      have e48 := Zy h50.wh (Gives.of 0 rfl Zl) p21 p22
      refine HJ.q (i := 6) rfl rfl rfl rfl rfl rfl (Zk Za rfl rfl rfl rfl rfl e48 p21 p22) (HJ.q (i := 7) rfl rfl rfl rfl rfl rfl (Ze (f := 0) Za rfl (fun w e => e) (Gives.of 0 rfl Zl) p21 p22 rfl rfl rfl rfl rfl) ?_)
      obtain ⟨⟨p23, p24⟩, H⟩ := Zo H
      refine HJ.q (i := 10) rfl rfl rfl rfl rfl rfl (Zk Za rfl rfl rfl rfl rfl e48 p23 p24) (HJ.q (i := 11) rfl rfl rfl rfl rfl rfl (Ze (f := 0) Za rfl (fun w e => e) (Gives.of 0 rfl Zl) p23 p24 rfl rfl rfl rfl rfl) ?_)
      obtain ⟨r1, q1, H⟩ := Zj H
      refine HJ.op (i := 12) rfl rfl rfl rfl rfl (Zd [] (Q4.spec q1) rfl rfl rfl h50 rfl Zm) ?_
      rintro _ w48 ⟨_, ⟨rfl, rfl⟩, h51⟩
      replace h51 : St w0 F0 [_] _ _ := h51
      refine ⟨⟨[], h51⟩, ?_⟩
      refine HJ.run Za rfl [13, 14] rfl (HJ.fin [(0, _), (1, _), (10, _), (11, _), (129, .bool (!r1))] rfl rfl (J.cond rfl (fun c4 => ?_) (fun c4 => ?_)))
      ·replace H := Zi c4 H
       refine J.skip (J.block (J.region ?_))
       refine RJ.run Za 3 rfl (RJ.fin [(0, _), (1, _), (10, _), (11, .int .i64 (w64 (x16 - 1)))] rfl ?_)
       have h52 := ((h51.only [0] rfl).rds [] rfl)
       exact ⟨k7, by omega, (w64 (x16 - 1)), rfl, h52, H, by omega⟩
      replace H := Zg c4 H
      refine J.exit ?_
      have h53 := ((h51.only [0] rfl).rds [] rfl)
      exact ⟨k7, x16, (!r1), rfl, h53, H, by omega⟩
     replace H := Zg c3 H
     refine HJ.know (t := 118) rfl (congrArg Value.bool c3) (HJ.run Za rfl [4, 5, 6, 7, 8, 9, 10, 11, 12, 13, 14] rfl (HJ.fin [(0, _), (1, _), (10, _), (11, _), (129, .bool false)] rfl rfl (J.condF rfl (J.exit ?_))))
     have h54 := ((h50.only [0] rfl).rds [] rfl)
     exact ⟨k7, x16, false, rfl, h54, H, by omega⟩
   rintro env w39 ⟨k6, x14, x15, rfl, h38, H, hk6⟩
   refine J.seq (J.seq (J.region ?_))
   refine RJ.run Za 3 rfl (RJ.fin [(0, _), (1, _), (10, _), (11, _), (134, .bool (decide (x14 < x12)))] rfl (J.cond rfl (fun c2 => ?_) (fun c2 => ?_)))
   ·replace H := Zi c2 H
    refine J.exit ?_
    have h39 := ((h38.only [0] rfl).rds [] rfl)
    exact ⟨x9, x12, x14, (decide (x14 < x12)), rfl, h39, H, e38⟩
   replace H := Zg c2 H
   refine J.skip (J.seq ?_)
   obtain ⟨⟨p17, p18⟩, H⟩ := Zo H
   obtain ⟨⟨p19, p20⟩, H⟩ := Zo H
   refine J.midS (fun env w => env = [(0, .slice A1 ((x9.set x12.toNat (gt x9 x14)).set x14.toNat (gt x9 x12)).length c_1), (1, .int .i64 a1), (10, .int .i64 x12), (11, .int .i64 x14)] ∧ St w0 F0 [Zf 70 (.int .u32) ((x9.set x12.toNat (gt x9 x14)).set x14.toNat (gt x9 x12)) (.slice A1 ((x9.set x12.toNat (gt x9 x14)).set x14.toNat (gt x9 x12)).length c_1)] [] w) ?_ ?_
   ·refine J.heldSt mix (h38.only [] rfl) ?_
    have h42 := h38.drew
    refine HJ.run Za rfl [0, 1, 2, 3, 4, 5, 8, 9] rfl ?_
    have e42 := Zy h42.wh (Gives.of 0 rfl Zl) p17 p18
    refine HJ.q (i := 6) rfl rfl rfl rfl rfl rfl (Zk Za rfl rfl rfl rfl rfl e42 p17 p18) (HJ.q (i := 10) rfl rfl rfl rfl rfl rfl (Zk Za rfl rfl rfl rfl rfl e42 p19 p20) (HJ.pick [7, 11] (i := 7) rfl rfl rfl rfl ((Zs ?_ (Zs ?_ Z4)))))
    ·refine HS.op (i := 7) rfl rfl rfl (OpT.ofq (Ze (f := 0) Za rfl h42.wht (Gives.of 0 rfl Zl) p17 p18 rfl rfl rfl rfl rfl)) ?_
     rintro _ _ ⟨rfl, rfl⟩
     replace h42 : St w0 F0 [_] _ _ := h42
     refine ⟨⟨[_], h42⟩, ?_⟩
     refine HJ.op (i := 11) rfl rfl rfl rfl rfl (OpT.ofq (Ze (f := 0) Za rfl h42.wht (Gives.of 0 rfl Zl) p19 p20 rfl rfl rfl rfl rfl)) ?_
     rintro _ _ ⟨rfl, rfl⟩
     replace h42 : St w0 F0 [_] _ _ := h42
     refine ⟨⟨[_], h42⟩, ?_⟩
     refine HJ.q (i := 12) rfl rfl rfl rfl rfl rfl (Zk Za rfl rfl rfl rfl rfl e42 p19 p20) (HJ.op (i := 13) rfl rfl rfl rfl rfl (Zp (ty := (.int .u32)) (f := 0) (ix := x12) Za rfl (gt x9 x14) 0 rfl h42 rfl rfl p19 p20 rfl rfl rfl rfl rfl rfl rfl) ?_)
     intro _ w42 h43
     replace h43 : St w0 F0 [Zf 70 (.int .u32) (x9.set x12.toNat (gt x9 x14)) (.slice A1 (x9.set x12.toNat (gt x9 x14)).length c_1)] _ _ := h43
     refine ⟨⟨[_], h43⟩, ?_⟩
     have e43 : (x9.set x12.toNat (gt x9 x14)).length = a0.length := List.length_set.trans e38
     refine HJ.q (i := 14) rfl rfl rfl rfl rfl rfl (Zk Za rfl rfl rfl rfl rfl e42 p17 p18) (HJ.op (i := 15) rfl rfl rfl rfl rfl (Zp (ty := (.int .u32)) (f := 0) (ix := x14) Za rfl (gt x9 x12) 0 rfl h43 rfl rfl p17 (by simpa only [List.length_set] using p18) rfl rfl rfl rfl rfl rfl rfl) ?_)
     intro _ w43 h44
     replace h44 : St w0 F0 [Zf 70 (.int .u32) ((x9.set x12.toNat (gt x9 x14)).set x14.toNat (gt x9 x12)) (.slice A1 ((x9.set x12.toNat (gt x9 x14)).set x14.toNat (gt x9 x12)).length c_1)] _ _ := h44
     refine ⟨⟨[_], h44⟩, ?_⟩
     have e44 : ((x9.set x12.toNat (gt x9 x14)).set x14.toNat (gt x9 x12)).length = a0.length := List.length_set.trans e43
     refine HJ.fin [(0, .slice A1 x9.length c_1), (1, .int .i64 a1), (10, .int .i64 x12), (11, .int .i64 x14)] rfl rfl ?_
     exact Zq ⟨(by simp only [List.length_set]), ((h44.only [0] rfl).rds [] rfl)⟩
    ·refine HS.op (i := 11) rfl rfl rfl (OpT.ofq (Ze (f := 0) Za rfl h42.wht (Gives.of 0 rfl Zl) p19 p20 rfl rfl rfl rfl rfl)) ?_
     rintro _ _ ⟨rfl, rfl⟩
     replace h42 : St w0 F0 [_] _ _ := h42
     refine ⟨⟨[_], h42⟩, ?_⟩
     refine HJ.op (i := 7) rfl rfl rfl rfl rfl (OpT.ofq (Ze (f := 0) Za rfl h42.wht (Gives.of 0 rfl Zl) p17 p18 rfl rfl rfl rfl rfl)) ?_
     rintro _ _ ⟨rfl, rfl⟩
     replace h42 : St w0 F0 [_] _ _ := h42
     refine ⟨⟨[_], h42⟩, ?_⟩
     refine HJ.q (i := 12) rfl rfl rfl rfl rfl rfl (Zk Za rfl rfl rfl rfl rfl e42 p19 p20) (HJ.op (i := 13) rfl rfl rfl rfl rfl (Zp (ty := (.int .u32)) (f := 0) (ix := x12) Za rfl (gt x9 x14) 0 rfl h42 rfl rfl p19 p20 rfl rfl rfl rfl rfl rfl rfl) ?_)
     intro _ w44 h45
     replace h45 : St w0 F0 [Zf 70 (.int .u32) (x9.set x12.toNat (gt x9 x14)) (.slice A1 (x9.set x12.toNat (gt x9 x14)).length c_1)] _ _ := h45
     refine ⟨⟨[_], h45⟩, ?_⟩
     have e45 : (x9.set x12.toNat (gt x9 x14)).length = a0.length := List.length_set.trans e38
     refine HJ.q (i := 14) rfl rfl rfl rfl rfl rfl (Zk Za rfl rfl rfl rfl rfl e42 p17 p18) (HJ.op (i := 15) rfl rfl rfl rfl rfl (Zp (ty := (.int .u32)) (f := 0) (ix := x14) Za rfl (gt x9 x12) 0 rfl h45 rfl rfl p17 (by simpa only [List.length_set] using p18) rfl rfl rfl rfl rfl rfl rfl) ?_)
     intro _ w45 h46
     replace h46 : St w0 F0 [Zf 70 (.int .u32) ((x9.set x12.toNat (gt x9 x14)).set x14.toNat (gt x9 x12)) (.slice A1 ((x9.set x12.toNat (gt x9 x14)).set x14.toNat (gt x9 x12)).length c_1)] _ _ := h46
     refine ⟨⟨[_], h46⟩, ?_⟩
     have e46 : ((x9.set x12.toNat (gt x9 x14)).set x14.toNat (gt x9 x12)).length = a0.length := List.length_set.trans e45
     refine HJ.fin [(0, .slice A1 x9.length c_1), (1, .int .i64 a1), (10, .int .i64 x12), (11, .int .i64 x14)] rfl rfl ?_
     exact Zq ⟨(by simp only [List.length_set]), ((h46.only [0] rfl).rds [] rfl)⟩
   rintro env w46 ⟨rfl, h47⟩
   have e47 : ((x9.set x12.toNat (gt x9 x14)).set x14.toNat (gt x9 x12)).length = a0.length := by first | (simp only [List.length_set]; done) | (simp only [List.length_set]; exact e38)
   refine J.seq (J.region ?_)
   refine RJ.run Za 3 rfl (RJ.fin [(0, .slice A1 ((x9.set x12.toNat (gt x9 x14)).set x14.toNat (gt x9 x12)).length c_1), (1, _), (10, .int .i64 (w64 (x12 + 1))), (11, _)] rfl (J.region (RJ.run Za 3 rfl (RJ.fin [(0, _), (1, _), (10, _), (11, .int .i64 (w64 (x14 - 1)))] rfl ?_))))
   have h48 := ((h47.only [0] rfl).rds [] rfl)
   exact ⟨k6, by omega, ((x9.set x12.toNat (gt x9 x14)).set x14.toNat (gt x9 x12)), (w64 (x12 + 1)), (w64 (x14 - 1)), rfl, h48, H, by omega, e47⟩
 rintro env w27 ⟨x5, x6, x7, x8, rfl, h27, H, e28⟩
 refine J.seq ?_
 obtain ⟨⟨p13, p14⟩, H⟩ := Zo H
 obtain ⟨⟨p15, p16⟩, H⟩ := Zo H
 refine J.midS (fun env w => env = [(11, .int .i64 x7)] ∧ St w0 F0 [Zf 70 (.int .u32) ((x5.set x7.toNat (gt x5 a1)).set a1.toNat (gt x5 x7)) (.slice A1 ((x5.set x7.toNat (gt x5 a1)).set a1.toNat (gt x5 x7)).length c_1)] [] w) ?_ ?_
 ·refine J.heldSt mix (h27.only [] rfl) ?_
  have h30 := h27.drew
  refine HJ.run Za rfl [0, 1, 2, 3, 4, 5, 8, 9] rfl ?_
  have e32 := Zy h30.wh (Gives.of 0 rfl Zl) p13 p14
  refine HJ.q (i := 6) rfl rfl rfl rfl rfl rfl (Zk Za rfl rfl rfl rfl rfl e32 p13 p14) (HJ.q (i := 10) rfl rfl rfl rfl rfl rfl (Zk Za rfl rfl rfl rfl rfl e32 p15 p16) (HJ.pick [7, 11] (i := 7) rfl rfl rfl rfl ((Zs ?_ (Zs ?_ Z4)))))
  ·refine HS.op (i := 7) rfl rfl rfl (OpT.ofq (Ze (f := 0) Za rfl h30.wht (Gives.of 0 rfl Zl) p13 p14 rfl rfl rfl rfl rfl)) ?_
   rintro _ _ ⟨rfl, rfl⟩
   replace h30 : St w0 F0 [_] _ _ := h30
   refine ⟨⟨[_], h30⟩, ?_⟩
   refine HJ.op (i := 11) rfl rfl rfl rfl rfl (OpT.ofq (Ze (f := 0) Za rfl h30.wht (Gives.of 0 rfl Zl) p15 p16 rfl rfl rfl rfl rfl)) ?_
   rintro _ _ ⟨rfl, rfl⟩
   replace h30 : St w0 F0 [_] _ _ := h30
   refine ⟨⟨[_], h30⟩, ?_⟩
   refine HJ.q (i := 12) rfl rfl rfl rfl rfl rfl (Zk Za rfl rfl rfl rfl rfl e32 p15 p16) (HJ.op (i := 13) rfl rfl rfl rfl rfl (Zp (ty := (.int .u32)) (f := 0) (ix := x7) Za rfl (gt x5 a1) 0 rfl h30 rfl rfl p15 p16 rfl rfl rfl rfl rfl rfl rfl) ?_)
   intro _ w30 h31
   replace h31 : St w0 F0 [Zf 70 (.int .u32) (x5.set x7.toNat (gt x5 a1)) (.slice A1 (x5.set x7.toNat (gt x5 a1)).length c_1)] _ _ := h31
   refine ⟨⟨[_], h31⟩, ?_⟩
   have e33 : (x5.set x7.toNat (gt x5 a1)).length = a0.length := List.length_set.trans e28
   refine HJ.q (i := 14) rfl rfl rfl rfl rfl rfl (Zk Za rfl rfl rfl rfl rfl e32 p13 p14) (HJ.op (i := 15) rfl rfl rfl rfl rfl (Zp (ty := (.int .u32)) (f := 0) (ix := a1) Za rfl (gt x5 x7) 0 rfl h31 rfl rfl p13 (by simpa only [List.length_set] using p14) rfl rfl rfl rfl rfl rfl rfl) ?_)
   intro _ w31 h32
   replace h32 : St w0 F0 [Zf 70 (.int .u32) ((x5.set x7.toNat (gt x5 a1)).set a1.toNat (gt x5 x7)) (.slice A1 ((x5.set x7.toNat (gt x5 a1)).set a1.toNat (gt x5 x7)).length c_1)] _ _ := h32
   refine ⟨⟨[_], h32⟩, ?_⟩
   have e34 : ((x5.set x7.toNat (gt x5 a1)).set a1.toNat (gt x5 x7)).length = a0.length := List.length_set.trans e33
   refine HJ.fin [(11, .int .i64 x7)] rfl rfl ?_
   exact Zq ⟨(by simp only [List.length_set]), ((h32.only [0] rfl).rds [] rfl)⟩
  ·refine HS.op (i := 11) rfl rfl rfl (OpT.ofq (Ze (f := 0) Za rfl h30.wht (Gives.of 0 rfl Zl) p15 p16 rfl rfl rfl rfl rfl)) ?_
   rintro _ _ ⟨rfl, rfl⟩
   replace h30 : St w0 F0 [_] _ _ := h30
   refine ⟨⟨[_], h30⟩, ?_⟩
   refine HJ.op (i := 7) rfl rfl rfl rfl rfl (OpT.ofq (Ze (f := 0) Za rfl h30.wht (Gives.of 0 rfl Zl) p13 p14 rfl rfl rfl rfl rfl)) ?_
   rintro _ _ ⟨rfl, rfl⟩
   replace h30 : St w0 F0 [_] _ _ := h30
   refine ⟨⟨[_], h30⟩, ?_⟩
   refine HJ.q (i := 12) rfl rfl rfl rfl rfl rfl (Zk Za rfl rfl rfl rfl rfl e32 p15 p16) (HJ.op (i := 13) rfl rfl rfl rfl rfl (Zp (ty := (.int .u32)) (f := 0) (ix := x7) Za rfl (gt x5 a1) 0 rfl h30 rfl rfl p15 p16 rfl rfl rfl rfl rfl rfl rfl) ?_)
   intro _ w32 h33
   replace h33 : St w0 F0 [Zf 70 (.int .u32) (x5.set x7.toNat (gt x5 a1)) (.slice A1 (x5.set x7.toNat (gt x5 a1)).length c_1)] _ _ := h33
   refine ⟨⟨[_], h33⟩, ?_⟩
   have e35 : (x5.set x7.toNat (gt x5 a1)).length = a0.length := List.length_set.trans e28
   refine HJ.q (i := 14) rfl rfl rfl rfl rfl rfl (Zk Za rfl rfl rfl rfl rfl e32 p13 p14) (HJ.op (i := 15) rfl rfl rfl rfl rfl (Zp (ty := (.int .u32)) (f := 0) (ix := a1) Za rfl (gt x5 x7) 0 rfl h33 rfl rfl p13 (by simpa only [List.length_set] using p14) rfl rfl rfl rfl rfl rfl rfl) ?_)
   intro _ w33 h34
   replace h34 : St w0 F0 [Zf 70 (.int .u32) ((x5.set x7.toNat (gt x5 a1)).set a1.toNat (gt x5 x7)) (.slice A1 ((x5.set x7.toNat (gt x5 a1)).set a1.toNat (gt x5 x7)).length c_1)] _ _ := h34
   refine ⟨⟨[_], h34⟩, ?_⟩
   have e36 : ((x5.set x7.toNat (gt x5 a1)).set a1.toNat (gt x5 x7)).length = a0.length := List.length_set.trans e35
   refine HJ.fin [(11, .int .i64 x7)] rfl rfl ?_
   exact Zq ⟨(by simp only [List.length_set]), ((h34.only [0] rfl).rds [] rfl)⟩
 rintro env w34 ⟨rfl, h35⟩
 have e37 : ((x5.set x7.toNat (gt x5 a1)).set a1.toNat (gt x5 x7)).length = a0.length := by first | (simp only [List.length_set]; done) | (simp only [List.length_set]; exact e28)
 refine J.seq (J.region ?_)
 refine RJ.run Za 3 rfl (RJ.fin [(8, .int .i64 x7), (9, .bool false)] rfl (J.ret ?_))
 obtain rfl := Option.some.inj H
 exact ⟨_, _, _, (Zb rfl), ⟨rfl, rfl, e37⟩, h35.only [0] rfl⟩

def Q56.f (a0 : Int) : Option (Int) := (Q0.f (IntKind.u64.wrap (a0))).bind fun r1 => (if 0 ≤ r1 then (some (IntKind.u64.wrap ((1 : Int) * 2 ^ (min r1.toNat 64)))) else none)
theorem Q56.spec {a0 : Int}  {r : Int} (H : Q56.f a0 = some r) :
  Spec Tryz.prog 113 [.int .i64 a0] [] [] (fun v l => v = .int .u64 r ∧ l = []) := by
 refine Spec.enter Tryz.func113 rfl (by kernel_rfl) (by kernel_rfl) fun w0 F0 h0 => ?_
 unfold Q56.f at H
 refine J.seq (J.region ?_)
 refine RJ.run Za 1 rfl (RJ.fin [(0, .int .i64 a0)] rfl (J.seq (J.region ?_)))
 refine RJ.run Za 2 rfl ?_
 obtain ⟨r1, q1, H⟩ := Zj H
 refine RJ.op rfl rfl (Zd [] (Q0.spec q1) rfl rfl rfl h0 rfl Zm) ?_
 rintro _ w1 ⟨_, ⟨rfl, rfl⟩, h1⟩
 replace h1 : St w0 F0 [] _ _ := h1
 obtain ⟨p1, H⟩ := Zo H
 refine RJ.q rfl rfl (Zgy rfl rfl rfl p1) (RJ.run Za 1 rfl (RJ.fin [(2, .int .u64 (IntKind.u64.wrap ((1 : Int) * 2 ^ (min r1.toNat 64))))] rfl (J.ret ?_)))
 obtain rfl := Option.some.inj H
 exact ⟨_, _, _, (Zb rfl), ⟨rfl, rfl⟩, h1.only [] rfl⟩

def Q64.f (a0 : Int) : Option (Int × Int) := some ((IntKind.u64.wrap (((BitVec.ofInt IntKind.u64.bits (IntKind.u64.wrap (((BitVec.ofInt IntKind.u64.bits (IntKind.u64.wrap (((BitVec.ofInt IntKind.u64.bits a0 ^^^ (BitVec.ofInt IntKind.u64.bits (IntKind.u64.wrap (a0 * 2 ^ 13)))).toNat : Int))) ^^^ (BitVec.ofInt IntKind.u64.bits (Int.fdiv (IntKind.u64.wrap (((BitVec.ofInt IntKind.u64.bits a0 ^^^ (BitVec.ofInt IntKind.u64.bits (IntKind.u64.wrap (a0 * 2 ^ 13)))).toNat : Int))) (2 ^ 7)))).toNat : Int))) ^^^ (BitVec.ofInt IntKind.u64.bits (IntKind.u64.wrap ((IntKind.u64.wrap (((BitVec.ofInt IntKind.u64.bits (IntKind.u64.wrap (((BitVec.ofInt IntKind.u64.bits a0 ^^^ (BitVec.ofInt IntKind.u64.bits (IntKind.u64.wrap (a0 * 2 ^ 13)))).toNat : Int))) ^^^ (BitVec.ofInt IntKind.u64.bits (Int.fdiv (IntKind.u64.wrap (((BitVec.ofInt IntKind.u64.bits a0 ^^^ (BitVec.ofInt IntKind.u64.bits (IntKind.u64.wrap (a0 * 2 ^ 13)))).toNat : Int))) (2 ^ 7)))).toNat : Int))) * 2 ^ 17)))).toNat : Int))), (IntKind.u64.wrap (((BitVec.ofInt IntKind.u64.bits (IntKind.u64.wrap (((BitVec.ofInt IntKind.u64.bits (IntKind.u64.wrap (((BitVec.ofInt IntKind.u64.bits a0 ^^^ (BitVec.ofInt IntKind.u64.bits (IntKind.u64.wrap (a0 * 2 ^ 13)))).toNat : Int))) ^^^ (BitVec.ofInt IntKind.u64.bits (Int.fdiv (IntKind.u64.wrap (((BitVec.ofInt IntKind.u64.bits a0 ^^^ (BitVec.ofInt IntKind.u64.bits (IntKind.u64.wrap (a0 * 2 ^ 13)))).toNat : Int))) (2 ^ 7)))).toNat : Int))) ^^^ (BitVec.ofInt IntKind.u64.bits (IntKind.u64.wrap ((IntKind.u64.wrap (((BitVec.ofInt IntKind.u64.bits (IntKind.u64.wrap (((BitVec.ofInt IntKind.u64.bits a0 ^^^ (BitVec.ofInt IntKind.u64.bits (IntKind.u64.wrap (a0 * 2 ^ 13)))).toNat : Int))) ^^^ (BitVec.ofInt IntKind.u64.bits (Int.fdiv (IntKind.u64.wrap (((BitVec.ofInt IntKind.u64.bits a0 ^^^ (BitVec.ofInt IntKind.u64.bits (IntKind.u64.wrap (a0 * 2 ^ 13)))).toNat : Int))) (2 ^ 7)))).toNat : Int))) * 2 ^ 17)))).toNat : Int))))
theorem Q64.spec {a0 : Int} {b1 : Nat} {r : Int × Int} (H : Q64.f a0 = some r) :
  Spec Tryz.prog 114 [.pointer (some ⟨b1, 0, none⟩)] [Zh b1 131 [.int .u64 a0]] [] (fun v l => v = .int .u64 r.1 ∧ l = [Zh b1 131 [.int .u64 r.2]]) := by
 refine Spec.enter Tryz.func114 rfl (by kernel_rfl) (by kernel_rfl) fun w0 F0 h0 => ?_
 unfold Q64.f at H
 refine J.seq (J.region ?_)
 refine RJ.run Za 1 rfl (RJ.fin [(0, .pointer (some ⟨b1, 0, none⟩))] rfl (J.seq (J.midS (fun env w => env = [(0, .pointer (some ⟨b1, 0, none⟩))] ∧ St w0 F0 [Zh b1 131 [.int .u64 (IntKind.u64.wrap (((BitVec.ofInt IntKind.u64.bits a0 ^^^ (BitVec.ofInt IntKind.u64.bits (IntKind.u64.wrap (a0 * 2 ^ 13)))).toNat : Int)))]] [] w) ?_ ?_)))
 ·refine J.heldSt mix (h0.only [] rfl) ?_
  have h2 := h0.drew
  refine HJ.run Za rfl [0, 1, 3, 4] rfl (HJ.pick [2, 5] (i := 2) rfl rfl rfl rfl ((Zs ?_ (Zs ?_ Z4))))
  ·refine HS.op (i := 2) rfl rfl rfl (OpT.ofq (Zc Za 0 h2.wht rfl rfl rfl rfl rfl)) ?_
   rintro _ _ ⟨rfl, rfl⟩
   replace h2 : St w0 F0 [Zh b1 131 [.int .u64 a0]] _ _ := h2
   refine ⟨⟨[_], h2⟩, ?_⟩
   refine HJ.op (i := 5) rfl rfl rfl rfl rfl (OpT.ofq (Zc Za 0 h2.wht rfl rfl rfl rfl rfl)) ?_
   rintro _ _ ⟨rfl, rfl⟩
   replace h2 : St w0 F0 [_] _ _ := h2
   refine ⟨⟨[_], h2⟩, ?_⟩
   refine HJ.run Za rfl [6, 7, 8] rfl (HJ.op (i := 9) rfl rfl rfl rfl rfl (Zt Za 0 rfl h2 rfl rfl rfl rfl rfl rfl rfl) ?_)
   intro _ w6 h3
   replace h3 : St w0 F0 [Zh b1 131 [.int .u64 (IntKind.u64.wrap (((BitVec.ofInt IntKind.u64.bits a0 ^^^ (BitVec.ofInt IntKind.u64.bits (IntKind.u64.wrap (a0 * 2 ^ 13)))).toNat : Int)))]] _ _ := h3
   refine ⟨⟨[_], h3⟩, ?_⟩
   refine HJ.fin [(0, .pointer (some ⟨b1, 0, none⟩))] rfl rfl ?_
   exact Zq ⟨rfl, ((h3.only [0] rfl).rds [] rfl)⟩
  ·refine HS.op (i := 5) rfl rfl rfl (OpT.ofq (Zc Za 0 h2.wht rfl rfl rfl rfl rfl)) ?_
   rintro _ _ ⟨rfl, rfl⟩
   replace h2 : St w0 F0 [Zh b1 131 [.int .u64 a0]] _ _ := h2
   refine ⟨⟨[_], h2⟩, ?_⟩
   refine HJ.run Za rfl [6] rfl (HJ.op (i := 2) rfl rfl rfl rfl rfl (OpT.ofq (Zc Za 0 h2.wht rfl rfl rfl rfl rfl)) ?_)
   rintro _ _ ⟨rfl, rfl⟩
   replace h2 : St w0 F0 [_] _ _ := h2
   refine ⟨⟨[_], h2⟩, ?_⟩
   refine HJ.run Za rfl [7, 8] rfl (HJ.op (i := 9) rfl rfl rfl rfl rfl (Zt Za 0 rfl h2 rfl rfl rfl rfl rfl rfl rfl) ?_)
   intro _ w9 h4
   replace h4 : St w0 F0 [Zh b1 131 [.int .u64 (IntKind.u64.wrap (((BitVec.ofInt IntKind.u64.bits a0 ^^^ (BitVec.ofInt IntKind.u64.bits (IntKind.u64.wrap (a0 * 2 ^ 13)))).toNat : Int)))]] _ _ := h4
   refine ⟨⟨[_], h4⟩, ?_⟩
   refine HJ.fin [(0, .pointer (some ⟨b1, 0, none⟩))] rfl rfl ?_
   exact Zq ⟨rfl, ((h4.only [0] rfl).rds [] rfl)⟩
 rintro env w10 ⟨rfl, h5⟩
 refine J.seq (J.midS (fun env w => env = [(0, .pointer (some ⟨b1, 0, none⟩))] ∧ St w0 F0 [Zh b1 131 [.int .u64 (IntKind.u64.wrap (((BitVec.ofInt IntKind.u64.bits (IntKind.u64.wrap (((BitVec.ofInt IntKind.u64.bits a0 ^^^ (BitVec.ofInt IntKind.u64.bits (IntKind.u64.wrap (a0 * 2 ^ 13)))).toNat : Int))) ^^^ (BitVec.ofInt IntKind.u64.bits (Int.fdiv (IntKind.u64.wrap (((BitVec.ofInt IntKind.u64.bits a0 ^^^ (BitVec.ofInt IntKind.u64.bits (IntKind.u64.wrap (a0 * 2 ^ 13)))).toNat : Int))) (2 ^ 7)))).toNat : Int)))]] [] w) ?_ ?_)
 ·refine J.heldSt mix (h5.only [] rfl) ?_
  have h7 := h5.drew
  refine HJ.run Za rfl [0, 1, 3, 4] rfl (HJ.pick [2, 5] (i := 2) rfl rfl rfl rfl ((Zs ?_ (Zs ?_ Z4))))
  ·refine HS.op (i := 2) rfl rfl rfl (OpT.ofq (Zc Za 0 h7.wht rfl rfl rfl rfl rfl)) ?_
   rintro _ _ ⟨rfl, rfl⟩
   replace h7 : St w0 F0 [Zh b1 131 [.int .u64 (IntKind.u64.wrap (((BitVec.ofInt IntKind.u64.bits a0 ^^^ (BitVec.ofInt IntKind.u64.bits (IntKind.u64.wrap (a0 * 2 ^ 13)))).toNat : Int)))]] _ _ := h7
   refine ⟨⟨[_], h7⟩, ?_⟩
   refine HJ.op (i := 5) rfl rfl rfl rfl rfl (OpT.ofq (Zc Za 0 h7.wht rfl rfl rfl rfl rfl)) ?_
   rintro _ _ ⟨rfl, rfl⟩
   replace h7 : St w0 F0 [_] _ _ := h7
   refine ⟨⟨[_], h7⟩, ?_⟩
   refine HJ.run Za rfl [6, 7, 8] rfl (HJ.op (i := 9) rfl rfl rfl rfl rfl (Zt Za 0 rfl h7 rfl rfl rfl rfl rfl rfl rfl) ?_)
   intro _ w16 h8
   replace h8 : St w0 F0 [Zh b1 131 [.int .u64 (IntKind.u64.wrap (((BitVec.ofInt IntKind.u64.bits (IntKind.u64.wrap (((BitVec.ofInt IntKind.u64.bits a0 ^^^ (BitVec.ofInt IntKind.u64.bits (IntKind.u64.wrap (a0 * 2 ^ 13)))).toNat : Int))) ^^^ (BitVec.ofInt IntKind.u64.bits (Int.fdiv (IntKind.u64.wrap (((BitVec.ofInt IntKind.u64.bits a0 ^^^ (BitVec.ofInt IntKind.u64.bits (IntKind.u64.wrap (a0 * 2 ^ 13)))).toNat : Int))) (2 ^ 7)))).toNat : Int)))]] _ _ := h8
   refine ⟨⟨[_], h8⟩, ?_⟩
   refine HJ.fin [(0, .pointer (some ⟨b1, 0, none⟩))] rfl rfl ?_
   exact Zq ⟨rfl, ((h8.only [0] rfl).rds [] rfl)⟩
  ·refine HS.op (i := 5) rfl rfl rfl (OpT.ofq (Zc Za 0 h7.wht rfl rfl rfl rfl rfl)) ?_
   rintro _ _ ⟨rfl, rfl⟩
   replace h7 : St w0 F0 [Zh b1 131 [.int .u64 (IntKind.u64.wrap (((BitVec.ofInt IntKind.u64.bits a0 ^^^ (BitVec.ofInt IntKind.u64.bits (IntKind.u64.wrap (a0 * 2 ^ 13)))).toNat : Int)))]] _ _ := h7
   refine ⟨⟨[_], h7⟩, ?_⟩
   refine HJ.run Za rfl [6] rfl (HJ.op (i := 2) rfl rfl rfl rfl rfl (OpT.ofq (Zc Za 0 h7.wht rfl rfl rfl rfl rfl)) ?_)
   rintro _ _ ⟨rfl, rfl⟩
   replace h7 : St w0 F0 [_] _ _ := h7
   refine ⟨⟨[_], h7⟩, ?_⟩
   refine HJ.run Za rfl [7, 8] rfl (HJ.op (i := 9) rfl rfl rfl rfl rfl (Zt Za 0 rfl h7 rfl rfl rfl rfl rfl rfl rfl) ?_)
   intro _ w19 h9
   replace h9 : St w0 F0 [Zh b1 131 [.int .u64 (IntKind.u64.wrap (((BitVec.ofInt IntKind.u64.bits (IntKind.u64.wrap (((BitVec.ofInt IntKind.u64.bits a0 ^^^ (BitVec.ofInt IntKind.u64.bits (IntKind.u64.wrap (a0 * 2 ^ 13)))).toNat : Int))) ^^^ (BitVec.ofInt IntKind.u64.bits (Int.fdiv (IntKind.u64.wrap (((BitVec.ofInt IntKind.u64.bits a0 ^^^ (BitVec.ofInt IntKind.u64.bits (IntKind.u64.wrap (a0 * 2 ^ 13)))).toNat : Int))) (2 ^ 7)))).toNat : Int)))]] _ _ := h9
   refine ⟨⟨[_], h9⟩, ?_⟩
   refine HJ.fin [(0, .pointer (some ⟨b1, 0, none⟩))] rfl rfl ?_
   exact Zq ⟨rfl, ((h9.only [0] rfl).rds [] rfl)⟩
 rintro env w20 ⟨rfl, h10⟩
 refine J.seq (J.midS (fun env w => env = [(0, .pointer (some ⟨b1, 0, none⟩))] ∧ St w0 F0 [Zh b1 131 [.int .u64 (IntKind.u64.wrap (((BitVec.ofInt IntKind.u64.bits (IntKind.u64.wrap (((BitVec.ofInt IntKind.u64.bits (IntKind.u64.wrap (((BitVec.ofInt IntKind.u64.bits a0 ^^^ (BitVec.ofInt IntKind.u64.bits (IntKind.u64.wrap (a0 * 2 ^ 13)))).toNat : Int))) ^^^ (BitVec.ofInt IntKind.u64.bits (Int.fdiv (IntKind.u64.wrap (((BitVec.ofInt IntKind.u64.bits a0 ^^^ (BitVec.ofInt IntKind.u64.bits (IntKind.u64.wrap (a0 * 2 ^ 13)))).toNat : Int))) (2 ^ 7)))).toNat : Int))) ^^^ (BitVec.ofInt IntKind.u64.bits (IntKind.u64.wrap ((IntKind.u64.wrap (((BitVec.ofInt IntKind.u64.bits (IntKind.u64.wrap (((BitVec.ofInt IntKind.u64.bits a0 ^^^ (BitVec.ofInt IntKind.u64.bits (IntKind.u64.wrap (a0 * 2 ^ 13)))).toNat : Int))) ^^^ (BitVec.ofInt IntKind.u64.bits (Int.fdiv (IntKind.u64.wrap (((BitVec.ofInt IntKind.u64.bits a0 ^^^ (BitVec.ofInt IntKind.u64.bits (IntKind.u64.wrap (a0 * 2 ^ 13)))).toNat : Int))) (2 ^ 7)))).toNat : Int))) * 2 ^ 17)))).toNat : Int)))]] [] w) ?_ ?_)
 ·refine J.heldSt mix (h10.only [] rfl) ?_
  have h12 := h10.drew
  refine HJ.run Za rfl [0, 1, 3, 4] rfl (HJ.pick [2, 5] (i := 2) rfl rfl rfl rfl ((Zs ?_ (Zs ?_ Z4))))
  ·refine HS.op (i := 2) rfl rfl rfl (OpT.ofq (Zc Za 0 h12.wht rfl rfl rfl rfl rfl)) ?_
   rintro _ _ ⟨rfl, rfl⟩
   replace h12 : St w0 F0 [Zh b1 131 [.int .u64 (IntKind.u64.wrap (((BitVec.ofInt IntKind.u64.bits (IntKind.u64.wrap (((BitVec.ofInt IntKind.u64.bits a0 ^^^ (BitVec.ofInt IntKind.u64.bits (IntKind.u64.wrap (a0 * 2 ^ 13)))).toNat : Int))) ^^^ (BitVec.ofInt IntKind.u64.bits (Int.fdiv (IntKind.u64.wrap (((BitVec.ofInt IntKind.u64.bits a0 ^^^ (BitVec.ofInt IntKind.u64.bits (IntKind.u64.wrap (a0 * 2 ^ 13)))).toNat : Int))) (2 ^ 7)))).toNat : Int)))]] _ _ := h12
   refine ⟨⟨[_], h12⟩, ?_⟩
   refine HJ.op (i := 5) rfl rfl rfl rfl rfl (OpT.ofq (Zc Za 0 h12.wht rfl rfl rfl rfl rfl)) ?_
   rintro _ _ ⟨rfl, rfl⟩
   replace h12 : St w0 F0 [_] _ _ := h12
   refine ⟨⟨[_], h12⟩, ?_⟩
   refine HJ.run Za rfl [6, 7, 8] rfl (HJ.op (i := 9) rfl rfl rfl rfl rfl (Zt Za 0 rfl h12 rfl rfl rfl rfl rfl rfl rfl) ?_)
   intro _ w26 h13
   replace h13 : St w0 F0 [Zh b1 131 [.int .u64 (IntKind.u64.wrap (((BitVec.ofInt IntKind.u64.bits (IntKind.u64.wrap (((BitVec.ofInt IntKind.u64.bits (IntKind.u64.wrap (((BitVec.ofInt IntKind.u64.bits a0 ^^^ (BitVec.ofInt IntKind.u64.bits (IntKind.u64.wrap (a0 * 2 ^ 13)))).toNat : Int))) ^^^ (BitVec.ofInt IntKind.u64.bits (Int.fdiv (IntKind.u64.wrap (((BitVec.ofInt IntKind.u64.bits a0 ^^^ (BitVec.ofInt IntKind.u64.bits (IntKind.u64.wrap (a0 * 2 ^ 13)))).toNat : Int))) (2 ^ 7)))).toNat : Int))) ^^^ (BitVec.ofInt IntKind.u64.bits (IntKind.u64.wrap ((IntKind.u64.wrap (((BitVec.ofInt IntKind.u64.bits (IntKind.u64.wrap (((BitVec.ofInt IntKind.u64.bits a0 ^^^ (BitVec.ofInt IntKind.u64.bits (IntKind.u64.wrap (a0 * 2 ^ 13)))).toNat : Int))) ^^^ (BitVec.ofInt IntKind.u64.bits (Int.fdiv (IntKind.u64.wrap (((BitVec.ofInt IntKind.u64.bits a0 ^^^ (BitVec.ofInt IntKind.u64.bits (IntKind.u64.wrap (a0 * 2 ^ 13)))).toNat : Int))) (2 ^ 7)))).toNat : Int))) * 2 ^ 17)))).toNat : Int)))]] _ _ := h13
   refine ⟨⟨[_], h13⟩, ?_⟩
   refine HJ.fin [(0, .pointer (some ⟨b1, 0, none⟩))] rfl rfl ?_
   exact Zq ⟨rfl, ((h13.only [0] rfl).rds [] rfl)⟩
  ·refine HS.op (i := 5) rfl rfl rfl (OpT.ofq (Zc Za 0 h12.wht rfl rfl rfl rfl rfl)) ?_
   rintro _ _ ⟨rfl, rfl⟩
   replace h12 : St w0 F0 [Zh b1 131 [.int .u64 (IntKind.u64.wrap (((BitVec.ofInt IntKind.u64.bits (IntKind.u64.wrap (((BitVec.ofInt IntKind.u64.bits a0 ^^^ (BitVec.ofInt IntKind.u64.bits (IntKind.u64.wrap (a0 * 2 ^ 13)))).toNat : Int))) ^^^ (BitVec.ofInt IntKind.u64.bits (Int.fdiv (IntKind.u64.wrap (((BitVec.ofInt IntKind.u64.bits a0 ^^^ (BitVec.ofInt IntKind.u64.bits (IntKind.u64.wrap (a0 * 2 ^ 13)))).toNat : Int))) (2 ^ 7)))).toNat : Int)))]] _ _ := h12
   refine ⟨⟨[_], h12⟩, ?_⟩
   refine HJ.run Za rfl [6] rfl (HJ.op (i := 2) rfl rfl rfl rfl rfl (OpT.ofq (Zc Za 0 h12.wht rfl rfl rfl rfl rfl)) ?_)
   rintro _ _ ⟨rfl, rfl⟩
   replace h12 : St w0 F0 [_] _ _ := h12
   refine ⟨⟨[_], h12⟩, ?_⟩
   refine HJ.run Za rfl [7, 8] rfl (HJ.op (i := 9) rfl rfl rfl rfl rfl (Zt Za 0 rfl h12 rfl rfl rfl rfl rfl rfl rfl) ?_)
   intro _ w29 h14
   replace h14 : St w0 F0 [Zh b1 131 [.int .u64 (IntKind.u64.wrap (((BitVec.ofInt IntKind.u64.bits (IntKind.u64.wrap (((BitVec.ofInt IntKind.u64.bits (IntKind.u64.wrap (((BitVec.ofInt IntKind.u64.bits a0 ^^^ (BitVec.ofInt IntKind.u64.bits (IntKind.u64.wrap (a0 * 2 ^ 13)))).toNat : Int))) ^^^ (BitVec.ofInt IntKind.u64.bits (Int.fdiv (IntKind.u64.wrap (((BitVec.ofInt IntKind.u64.bits a0 ^^^ (BitVec.ofInt IntKind.u64.bits (IntKind.u64.wrap (a0 * 2 ^ 13)))).toNat : Int))) (2 ^ 7)))).toNat : Int))) ^^^ (BitVec.ofInt IntKind.u64.bits (IntKind.u64.wrap ((IntKind.u64.wrap (((BitVec.ofInt IntKind.u64.bits (IntKind.u64.wrap (((BitVec.ofInt IntKind.u64.bits a0 ^^^ (BitVec.ofInt IntKind.u64.bits (IntKind.u64.wrap (a0 * 2 ^ 13)))).toNat : Int))) ^^^ (BitVec.ofInt IntKind.u64.bits (Int.fdiv (IntKind.u64.wrap (((BitVec.ofInt IntKind.u64.bits a0 ^^^ (BitVec.ofInt IntKind.u64.bits (IntKind.u64.wrap (a0 * 2 ^ 13)))).toNat : Int))) (2 ^ 7)))).toNat : Int))) * 2 ^ 17)))).toNat : Int)))]] _ _ := h14
   refine ⟨⟨[_], h14⟩, ?_⟩
   refine HJ.fin [(0, .pointer (some ⟨b1, 0, none⟩))] rfl rfl ?_
   exact Zq ⟨rfl, ((h14.only [0] rfl).rds [] rfl)⟩
 rintro env w30 ⟨rfl, h15⟩
 refine J.seq (J.region ?_)
 refine RJ.run Za 2 rfl (RJ.q rfl rfl (Zc Za 0 h15.wht rfl rfl rfl rfl rfl) (RJ.run Za 1 rfl (RJ.fin [(2, .int .u64 (IntKind.u64.wrap (((BitVec.ofInt IntKind.u64.bits (IntKind.u64.wrap (((BitVec.ofInt IntKind.u64.bits (IntKind.u64.wrap (((BitVec.ofInt IntKind.u64.bits a0 ^^^ (BitVec.ofInt IntKind.u64.bits (IntKind.u64.wrap (a0 * 2 ^ 13)))).toNat : Int))) ^^^ (BitVec.ofInt IntKind.u64.bits (Int.fdiv (IntKind.u64.wrap (((BitVec.ofInt IntKind.u64.bits a0 ^^^ (BitVec.ofInt IntKind.u64.bits (IntKind.u64.wrap (a0 * 2 ^ 13)))).toNat : Int))) (2 ^ 7)))).toNat : Int))) ^^^ (BitVec.ofInt IntKind.u64.bits (IntKind.u64.wrap ((IntKind.u64.wrap (((BitVec.ofInt IntKind.u64.bits (IntKind.u64.wrap (((BitVec.ofInt IntKind.u64.bits a0 ^^^ (BitVec.ofInt IntKind.u64.bits (IntKind.u64.wrap (a0 * 2 ^ 13)))).toNat : Int))) ^^^ (BitVec.ofInt IntKind.u64.bits (Int.fdiv (IntKind.u64.wrap (((BitVec.ofInt IntKind.u64.bits a0 ^^^ (BitVec.ofInt IntKind.u64.bits (IntKind.u64.wrap (a0 * 2 ^ 13)))).toNat : Int))) (2 ^ 7)))).toNat : Int))) * 2 ^ 17)))).toNat : Int))))] rfl (J.ret ?_))))
 obtain rfl := Option.some.inj H
 exact ⟨_, _, _, (Zb rfl), ⟨rfl, rfl⟩, h15.only [0] rfl⟩

def Q50.l0 : Nat → (Int) → (Int) → (Int) → (List (Int)) → (Int) → (Int) → Option (List (Int))
 | 0, _, _, _, _, _, _ => none
 | k + 1, a1, a2, r1, x1, x2, x3 => if (decide (x3 ≤ (w64 ((w64 (a1 + (w64 ((w64 (Int.tdiv (w64 (a2 - a1)) 4)) * 2)))) + 1)))) = true then ((Q64.f x2).bind fun r2 => (if (decide ((w64 (a2 - a1)) ≤ (w64 ((IntKind.u64.wrap (((BitVec.ofInt IntKind.u64.bits r2.1 &&& (BitVec.ofInt IntKind.u64.bits (IntKind.u64.wrap (r1 - 1)))).toNat : Int))))))) = true then (if 0 ≤ (w64 (a1 + (w64 ((w64 ((IntKind.u64.wrap (((BitVec.ofInt IntKind.u64.bits r2.1 &&& (BitVec.ofInt IntKind.u64.bits (IntKind.u64.wrap (r1 - 1)))).toNat : Int))))) - (w64 (a2 - a1)))))) ∧ (w64 (a1 + (w64 ((w64 ((IntKind.u64.wrap (((BitVec.ofInt IntKind.u64.bits r2.1 &&& (BitVec.ofInt IntKind.u64.bits (IntKind.u64.wrap (r1 - 1)))).toNat : Int))))) - (w64 (a2 - a1)))))) < (x1.length : Int) then (if 0 ≤ x3 ∧ x3 < (x1.length : Int) then (Q50.l0 k a1 a2 r1 ((x1.set x3.toNat (gt x1 (w64 (a1 + (w64 ((w64 ((IntKind.u64.wrap (((BitVec.ofInt IntKind.u64.bits r2.1 &&& (BitVec.ofInt IntKind.u64.bits (IntKind.u64.wrap (r1 - 1)))).toNat : Int))))) - (w64 (a2 - a1)))))))).set (w64 (a1 + (w64 ((w64 ((IntKind.u64.wrap (((BitVec.ofInt IntKind.u64.bits r2.1 &&& (BitVec.ofInt IntKind.u64.bits (IntKind.u64.wrap (r1 - 1)))).toNat : Int))))) - (w64 (a2 - a1)))))).toNat (gt x1 x3)) r2.2 (w64 (x3 + 1))) else none) else none) else (if 0 ≤ (w64 (a1 + (w64 ((IntKind.u64.wrap (((BitVec.ofInt IntKind.u64.bits r2.1 &&& (BitVec.ofInt IntKind.u64.bits (IntKind.u64.wrap (r1 - 1)))).toNat : Int))))))) ∧ (w64 (a1 + (w64 ((IntKind.u64.wrap (((BitVec.ofInt IntKind.u64.bits r2.1 &&& (BitVec.ofInt IntKind.u64.bits (IntKind.u64.wrap (r1 - 1)))).toNat : Int))))))) < (x1.length : Int) then (if 0 ≤ x3 ∧ x3 < (x1.length : Int) then (Q50.l0 k a1 a2 r1 ((x1.set x3.toNat (gt x1 (w64 (a1 + (w64 ((IntKind.u64.wrap (((BitVec.ofInt IntKind.u64.bits r2.1 &&& (BitVec.ofInt IntKind.u64.bits (IntKind.u64.wrap (r1 - 1)))).toNat : Int))))))))).set (w64 (a1 + (w64 ((IntKind.u64.wrap (((BitVec.ofInt IntKind.u64.bits r2.1 &&& (BitVec.ofInt IntKind.u64.bits (IntKind.u64.wrap (r1 - 1)))).toNat : Int))))))).toNat (gt x1 x3)) r2.2 (w64 (x3 + 1))) else none) else none))) else (some x1)
def Q50.f (k : Nat) (a0 : List (Int)) (a1 : Int) (a2 : Int) : Option (List (Int)) := if (decide (8 ≤ (w64 (a2 - a1)))) = true then ((Q56.f (w64 (a2 - a1))).bind fun r1 => (Q50.l0 k a1 a2 r1 a0 (IntKind.u64.wrap ((w64 (a2 - a1)))) (w64 ((w64 (a1 + (w64 ((w64 (Int.tdiv (w64 (a2 - a1)) 4)) * 2)))) - 1)))) else (some a0)
theorem Q50.spec {k : Nat} {a0 : List (Int)} {a1 : Int} {a2 : Int} {A1 : Option Addr} {c_1 : Nat} {r : List (Int)} (H : Q50.f k a0 a1 a2 = some r) :
  Spec Tryz.prog 102 [.slice A1 a0.length c_1, .int .i64 a1, .int .i64 a2] [Zf 70 (.int .u32) a0 (.slice A1 a0.length c_1)] [] (fun v l => v = .tuple #[] ∧ l = [Zf 70 (.int .u32) r (.slice A1 r.length c_1)] ∧ r.length = a0.length) := by
 refine Spec.enter Tryz.func102 rfl (by kernel_rfl) (by kernel_rfl) fun w0 F0 h0 => ?_
 unfold Q50.f at H
 refine J.seq (J.region ?_)
 refine RJ.run Za 4 rfl (RJ.fin [(0, .slice A1 a0.length c_1), (1, .int .i64 a1), (6, .int .i64 (w64 (a2 - a1)))] rfl (J.seq (J.region ?_)))
 refine RJ.run Za 2 rfl (RJ.fin [(0, _), (1, _), (6, _), (15, .bool (decide (8 ≤ (w64 (a2 - a1)))))] rfl (J.cond rfl (fun c1 => ?_) (fun c1 => ?_)))
 ·replace H := Zi c1 H
  refine J.seq (J.region ?_)
  refine RJ.run Za 2 rfl (RJ.op rfl rfl (Ye Za rfl rfl h0) ?_)
  rintro _ w1 ⟨b1, rfl, h1⟩
  replace h1 : St w0 F0 [Zh b1 131 [.int .u64 0], Zf 70 (.int .u32) a0 (.slice A1 a0.length c_1)] _ _ := h1
  refine RJ.op rfl rfl (Zt Za 0 rfl h1 rfl rfl rfl rfl rfl rfl rfl) ?_
  intro _ w2 h2
  replace h2 : St w0 F0 [Zh b1 131 [.int .u64 (IntKind.u64.wrap ((w64 (a2 - a1))))], _] _ _ := h2
  refine RJ.fin [(0, _), (1, _), (6, _), (7, .pointer (some ⟨b1, 0, none⟩))] rfl (J.seq (J.region ?_))
  refine RJ.run Za 1 rfl ?_
  obtain ⟨r1, q1, H⟩ := Zj H
  refine RJ.op rfl rfl (Zd [] (Q56.spec q1) rfl rfl rfl h2 rfl Zm) ?_
  rintro _ w3 ⟨_, ⟨rfl, rfl⟩, h3⟩
  replace h3 : St w0 F0 [_, _] _ _ := h3
  refine RJ.run Za 1 rfl (RJ.fin [(0, _), (1, _), (6, _), (7, _), (8, .int .u64 r1)] rfl (J.seq (J.region ?_)))
  refine RJ.run Za 7 rfl (RJ.fin [(0, _), (1, _), (6, _), (7, _), (8, _), (9, .int .i64 (w64 ((w64 (a1 + (w64 ((w64 (Int.tdiv (w64 (a2 - a1)) 4)) * 2)))) - 1)))] rfl (J.block ?_))
  have h24 := ((h3.only [0, 0] rfl).rds [] rfl)
  refine J.loop (fun kk env w => ∃ (x1 : List (Int)) (x2 : Int) (x3 : Int), env = [(0, .slice A1 x1.length c_1), (1, .int .i64 a1), (6, .int .i64 (w64 (a2 - a1))), (7, .pointer (some ⟨b1, 0, none⟩)), (8, .int .u64 r1), (9, .int .i64 x3)] ∧ St w0 F0 [Zh b1 131 [.int .u64 x2], Zf 70 (.int .u32) x1 (.slice A1 x1.length c_1)] [] w ∧ Q50.l0 kk a1 a2 r1 x1 x2 x3 = some r ∧ x1.length = a0.length) (k := k) ⟨a0, (IntKind.u64.wrap ((w64 (a2 - a1)))), (w64 ((w64 (a1 + (w64 ((w64 (Int.tdiv (w64 (a2 - a1)) 4)) * 2)))) - 1)), rfl, h24, H, (rfl : a0.length = a0.length)⟩ ?_
  rintro k1 env w4 ⟨x1, x2, x3, rfl, h4, H, e1⟩
  cases k1 with
  | zero => exact nomatch (show none = some r from H)
  | succ k1 =>
   rw [Q50.l0] at H
   refine J.seq (J.seq (J.region ?_))
   refine RJ.run Za 8 rfl (RJ.fin [(0, _), (1, _), (6, _), (7, _), (8, _), (9, _), (33, .bool (decide (x3 ≤ (w64 ((w64 (a1 + (w64 ((w64 (Int.tdiv (w64 (a2 - a1)) 4)) * 2)))) + 1)))))] rfl (J.cond rfl (fun c2 => ?_) (fun c2 => ?_)))
   ·replace H := Zi c2 H
    refine J.skip (J.seq (J.block (J.seq (J.region ?_))))
    obtain ⟨r2, q2, H⟩ := Zj H
    refine RJ.op rfl rfl (Zd [0] (Q64.spec q2) rfl rfl rfl h4 rfl Zm) ?_
    rintro _ w5 ⟨_, ⟨rfl, rfl⟩, h5⟩
    replace h5 : St w0 F0 [Zh b1 131 [.int .u64 r2.2], _] _ _ := h5
    refine RJ.run Za 5 rfl (RJ.fin [(0, _), (1, _), (6, _), (7, _), (8, _), (9, _), (10, .int .i64 (w64 ((IntKind.u64.wrap (((BitVec.ofInt IntKind.u64.bits r2.1 &&& (BitVec.ofInt IntKind.u64.bits (IntKind.u64.wrap (r1 - 1)))).toNat : Int))))))] rfl (J.seq (J.seq (J.region ?_))))
    refine RJ.run Za 3 rfl (RJ.fin [(0, _), (1, _), (6, _), (7, _), (8, _), (9, _), (10, _), (43, .bool (decide ((w64 (a2 - a1)) ≤ (w64 ((IntKind.u64.wrap (((BitVec.ofInt IntKind.u64.bits r2.1 &&& (BitVec.ofInt IntKind.u64.bits (IntKind.u64.wrap (r1 - 1)))).toNat : Int))))))))] rfl (J.cond rfl (fun c3 => ?_) (fun c3 => ?_)))
    ·replace H := Zi c3 H
     refine J.region (RJ.run Za 4 rfl (RJ.fin [(0, _), (1, _), (6, _), (7, _), (8, _), (9, _), (10, .int .i64 (w64 ((w64 ((IntKind.u64.wrap (((BitVec.ofInt IntKind.u64.bits r2.1 &&& (BitVec.ofInt IntKind.u64.bits (IntKind.u64.wrap (r1 - 1)))).toNat : Int))))) - (w64 (a2 - a1)))))] rfl ?_))
     obtain ⟨⟨p1, p2⟩, H⟩ := Zo H
     obtain ⟨⟨p3, p4⟩, H⟩ := Zo H
     refine J.mid (fun env w => env = [(0, .slice A1 ((x1.set x3.toNat (gt x1 (w64 (a1 + (w64 ((w64 ((IntKind.u64.wrap (((BitVec.ofInt IntKind.u64.bits r2.1 &&& (BitVec.ofInt IntKind.u64.bits (IntKind.u64.wrap (r1 - 1)))).toNat : Int))))) - (w64 (a2 - a1)))))))).set (w64 (a1 + (w64 ((w64 ((IntKind.u64.wrap (((BitVec.ofInt IntKind.u64.bits r2.1 &&& (BitVec.ofInt IntKind.u64.bits (IntKind.u64.wrap (r1 - 1)))).toNat : Int))))) - (w64 (a2 - a1)))))).toNat (gt x1 x3)).length c_1), (1, .int .i64 a1), (6, .int .i64 (w64 (a2 - a1))), (7, .pointer (some ⟨b1, 0, none⟩)), (8, .int .u64 r1), (9, .int .i64 x3)] ∧ St w0 F0 [Zf 70 (.int .u32) ((x1.set x3.toNat (gt x1 (w64 (a1 + (w64 ((w64 ((IntKind.u64.wrap (((BitVec.ofInt IntKind.u64.bits r2.1 &&& (BitVec.ofInt IntKind.u64.bits (IntKind.u64.wrap (r1 - 1)))).toNat : Int))))) - (w64 (a2 - a1)))))))).set (w64 (a1 + (w64 ((w64 ((IntKind.u64.wrap (((BitVec.ofInt IntKind.u64.bits r2.1 &&& (BitVec.ofInt IntKind.u64.bits (IntKind.u64.wrap (r1 - 1)))).toNat : Int))))) - (w64 (a2 - a1)))))).toNat (gt x1 x3)) (.slice A1 ((x1.set x3.toNat (gt x1 (w64 (a1 + (w64 ((w64 ((IntKind.u64.wrap (((BitVec.ofInt IntKind.u64.bits r2.1 &&& (BitVec.ofInt IntKind.u64.bits (IntKind.u64.wrap (r1 - 1)))).toNat : Int))))) - (w64 (a2 - a1)))))))).set (w64 (a1 + (w64 ((w64 ((IntKind.u64.wrap (((BitVec.ofInt IntKind.u64.bits r2.1 &&& (BitVec.ofInt IntKind.u64.bits (IntKind.u64.wrap (r1 - 1)))).toNat : Int))))) - (w64 (a2 - a1)))))).toNat (gt x1 x3)).length c_1), Zh b1 131 [.int .u64 r2.2]] [] w) ?_ ?_
     ·refine J.heldSt mix (h5.only [0] rfl) ?_
      have h8 := h5.drew
      refine HJ.run Za rfl [0, 1, 2, 3, 4, 5, 6, 7, 8, 9, 12, 13] rfl ?_
      have e5 := Zy h8.wh (Gives.of 1 rfl Zl) p1 p2
      refine HJ.q (i := 10) rfl rfl rfl rfl rfl rfl (Zk Za rfl rfl rfl rfl rfl e5 p1 p2) (HJ.q (i := 14) rfl rfl rfl rfl rfl rfl (Zk Za rfl rfl rfl rfl rfl e5 p3 p4) (HJ.pick [11, 15] (i := 11) rfl rfl rfl rfl ((Zs ?_ (Zs ?_ Z4)))))
      ·refine HS.op (i := 11) rfl rfl rfl (OpT.ofq (Ze (f := 0) Za rfl h8.wht (Gives.of 1 rfl Zl) p1 p2 rfl rfl rfl rfl rfl)) ?_
       rintro _ _ ⟨rfl, rfl⟩
       replace h8 : St w0 F0 [_, _] _ _ := h8
       refine ⟨⟨[_], (h8.only [1, 0] rfl)⟩, ?_⟩
       refine HJ.op (i := 15) rfl rfl rfl rfl rfl (OpT.ofq (Ze (f := 0) Za rfl h8.wht (Gives.of 1 rfl Zl) p3 p4 rfl rfl rfl rfl rfl)) ?_
       rintro _ _ ⟨rfl, rfl⟩
       replace h8 : St w0 F0 [_, _] _ _ := h8
       refine ⟨⟨[_], (h8.only [1, 0] rfl)⟩, ?_⟩
       refine HJ.q (i := 16) rfl rfl rfl rfl rfl rfl (Zk Za rfl rfl rfl rfl rfl e5 p3 p4) (HJ.op (i := 17) rfl rfl rfl rfl rfl (Zp (ty := (.int .u32)) (f := 0) (ix := x3) Za rfl (gt x1 (w64 (a1 + (w64 ((w64 ((IntKind.u64.wrap (((BitVec.ofInt IntKind.u64.bits r2.1 &&& (BitVec.ofInt IntKind.u64.bits (IntKind.u64.wrap (r1 - 1)))).toNat : Int))))) - (w64 (a2 - a1))))))) 1 rfl h8 rfl rfl p3 p4 rfl rfl rfl rfl rfl rfl rfl) ?_)
       intro _ w8 h9
       replace h9 : St w0 F0 [Zf 70 (.int .u32) (x1.set x3.toNat (gt x1 (w64 (a1 + (w64 ((w64 ((IntKind.u64.wrap (((BitVec.ofInt IntKind.u64.bits r2.1 &&& (BitVec.ofInt IntKind.u64.bits (IntKind.u64.wrap (r1 - 1)))).toNat : Int))))) - (w64 (a2 - a1)))))))) (.slice A1 (x1.set x3.toNat (gt x1 (w64 (a1 + (w64 ((w64 ((IntKind.u64.wrap (((BitVec.ofInt IntKind.u64.bits r2.1 &&& (BitVec.ofInt IntKind.u64.bits (IntKind.u64.wrap (r1 - 1)))).toNat : Int))))) - (w64 (a2 - a1)))))))).length c_1), _] _ _ := h9
       refine ⟨⟨[_], h9⟩, ?_⟩
       have e6 : (x1.set x3.toNat (gt x1 (w64 (a1 + (w64 ((w64 ((IntKind.u64.wrap (((BitVec.ofInt IntKind.u64.bits r2.1 &&& (BitVec.ofInt IntKind.u64.bits (IntKind.u64.wrap (r1 - 1)))).toNat : Int))))) - (w64 (a2 - a1)))))))).length = a0.length := List.length_set.trans e1
       refine HJ.q (i := 18) rfl rfl rfl rfl rfl rfl (Zk Za rfl rfl rfl rfl rfl e5 p1 p2) (HJ.op (i := 19) rfl rfl rfl rfl rfl (Zp (ty := (.int .u32)) (f := 0) (ix := (w64 (a1 + (w64 ((w64 ((IntKind.u64.wrap (((BitVec.ofInt IntKind.u64.bits r2.1 &&& (BitVec.ofInt IntKind.u64.bits (IntKind.u64.wrap (r1 - 1)))).toNat : Int))))) - (w64 (a2 - a1))))))) Za rfl (gt x1 x3) 0 rfl h9 rfl rfl p1 (by simpa only [List.length_set] using p2) rfl rfl rfl rfl rfl rfl rfl) ?_)
       intro _ w9 h10
       replace h10 : St w0 F0 [Zf 70 (.int .u32) ((x1.set x3.toNat (gt x1 (w64 (a1 + (w64 ((w64 ((IntKind.u64.wrap (((BitVec.ofInt IntKind.u64.bits r2.1 &&& (BitVec.ofInt IntKind.u64.bits (IntKind.u64.wrap (r1 - 1)))).toNat : Int))))) - (w64 (a2 - a1)))))))).set (w64 (a1 + (w64 ((w64 ((IntKind.u64.wrap (((BitVec.ofInt IntKind.u64.bits r2.1 &&& (BitVec.ofInt IntKind.u64.bits (IntKind.u64.wrap (r1 - 1)))).toNat : Int))))) - (w64 (a2 - a1)))))).toNat (gt x1 x3)) (.slice A1 ((x1.set x3.toNat (gt x1 (w64 (a1 + (w64 ((w64 ((IntKind.u64.wrap (((BitVec.ofInt IntKind.u64.bits r2.1 &&& (BitVec.ofInt IntKind.u64.bits (IntKind.u64.wrap (r1 - 1)))).toNat : Int))))) - (w64 (a2 - a1)))))))).set (w64 (a1 + (w64 ((w64 ((IntKind.u64.wrap (((BitVec.ofInt IntKind.u64.bits r2.1 &&& (BitVec.ofInt IntKind.u64.bits (IntKind.u64.wrap (r1 - 1)))).toNat : Int))))) - (w64 (a2 - a1)))))).toNat (gt x1 x3)).length c_1), _] _ _ := h10
       refine ⟨⟨[_], h10⟩, ?_⟩
       have e7 : ((x1.set x3.toNat (gt x1 (w64 (a1 + (w64 ((w64 ((IntKind.u64.wrap (((BitVec.ofInt IntKind.u64.bits r2.1 &&& (BitVec.ofInt IntKind.u64.bits (IntKind.u64.wrap (r1 - 1)))).toNat : Int))))) - (w64 (a2 - a1)))))))).set (w64 (a1 + (w64 ((w64 ((IntKind.u64.wrap (((BitVec.ofInt IntKind.u64.bits r2.1 &&& (BitVec.ofInt IntKind.u64.bits (IntKind.u64.wrap (r1 - 1)))).toNat : Int))))) - (w64 (a2 - a1)))))).toNat (gt x1 x3)).length = a0.length := List.length_set.trans e6
       refine HJ.fin [(0, .slice A1 x1.length c_1), (1, .int .i64 a1), (6, .int .i64 (w64 (a2 - a1))), (7, .pointer (some ⟨b1, 0, none⟩)), (8, .int .u64 r1), (9, .int .i64 x3)] rfl rfl ?_
       exact Zq ⟨(by simp only [List.length_set]), ((h10.only [0, 0] rfl).rds [] rfl)⟩
      ·refine HS.op (i := 15) rfl rfl rfl (OpT.ofq (Ze (f := 0) Za rfl h8.wht (Gives.of 1 rfl Zl) p3 p4 rfl rfl rfl rfl rfl)) ?_
       rintro _ _ ⟨rfl, rfl⟩
       replace h8 : St w0 F0 [_, _] _ _ := h8
       refine ⟨⟨[_], (h8.only [1, 0] rfl)⟩, ?_⟩
       refine HJ.op (i := 11) rfl rfl rfl rfl rfl (OpT.ofq (Ze (f := 0) Za rfl h8.wht (Gives.of 1 rfl Zl) p1 p2 rfl rfl rfl rfl rfl)) ?_
       rintro _ _ ⟨rfl, rfl⟩
       replace h8 : St w0 F0 [_, _] _ _ := h8
       refine ⟨⟨[_], (h8.only [1, 0] rfl)⟩, ?_⟩
       refine HJ.q (i := 16) rfl rfl rfl rfl rfl rfl (Zk Za rfl rfl rfl rfl rfl e5 p3 p4) (HJ.op (i := 17) rfl rfl rfl rfl rfl (Zp (ty := (.int .u32)) (f := 0) (ix := x3) Za rfl (gt x1 (w64 (a1 + (w64 ((w64 ((IntKind.u64.wrap (((BitVec.ofInt IntKind.u64.bits r2.1 &&& (BitVec.ofInt IntKind.u64.bits (IntKind.u64.wrap (r1 - 1)))).toNat : Int))))) - (w64 (a2 - a1))))))) 1 rfl h8 rfl rfl p3 p4 rfl rfl rfl rfl rfl rfl rfl) ?_)
       intro _ w10 h11
       replace h11 : St w0 F0 [Zf 70 (.int .u32) (x1.set x3.toNat (gt x1 (w64 (a1 + (w64 ((w64 ((IntKind.u64.wrap (((BitVec.ofInt IntKind.u64.bits r2.1 &&& (BitVec.ofInt IntKind.u64.bits (IntKind.u64.wrap (r1 - 1)))).toNat : Int))))) - (w64 (a2 - a1)))))))) (.slice A1 (x1.set x3.toNat (gt x1 (w64 (a1 + (w64 ((w64 ((IntKind.u64.wrap (((BitVec.ofInt IntKind.u64.bits r2.1 &&& (BitVec.ofInt IntKind.u64.bits (IntKind.u64.wrap (r1 - 1)))).toNat : Int))))) - (w64 (a2 - a1)))))))).length c_1), _] _ _ := h11
       refine ⟨⟨[_], h11⟩, ?_⟩
       have e8 : (x1.set x3.toNat (gt x1 (w64 (a1 + (w64 ((w64 ((IntKind.u64.wrap (((BitVec.ofInt IntKind.u64.bits r2.1 &&& (BitVec.ofInt IntKind.u64.bits (IntKind.u64.wrap (r1 - 1)))).toNat : Int))))) - (w64 (a2 - a1)))))))).length = a0.length := List.length_set.trans e1
       refine HJ.q (i := 18) rfl rfl rfl rfl rfl rfl (Zk Za rfl rfl rfl rfl rfl e5 p1 p2) (HJ.op (i := 19) rfl rfl rfl rfl rfl (Zp (ty := (.int .u32)) (f := 0) (ix := (w64 (a1 + (w64 ((w64 ((IntKind.u64.wrap (((BitVec.ofInt IntKind.u64.bits r2.1 &&& (BitVec.ofInt IntKind.u64.bits (IntKind.u64.wrap (r1 - 1)))).toNat : Int))))) - (w64 (a2 - a1))))))) Za rfl (gt x1 x3) 0 rfl h11 rfl rfl p1 (by simpa only [List.length_set] using p2) rfl rfl rfl rfl rfl rfl rfl) ?_)
       intro _ w11 h12
       replace h12 : St w0 F0 [Zf 70 (.int .u32) ((x1.set x3.toNat (gt x1 (w64 (a1 + (w64 ((w64 ((IntKind.u64.wrap (((BitVec.ofInt IntKind.u64.bits r2.1 &&& (BitVec.ofInt IntKind.u64.bits (IntKind.u64.wrap (r1 - 1)))).toNat : Int))))) - (w64 (a2 - a1)))))))).set (w64 (a1 + (w64 ((w64 ((IntKind.u64.wrap (((BitVec.ofInt IntKind.u64.bits r2.1 &&& (BitVec.ofInt IntKind.u64.bits (IntKind.u64.wrap (r1 - 1)))).toNat : Int))))) - (w64 (a2 - a1)))))).toNat (gt x1 x3)) (.slice A1 ((x1.set x3.toNat (gt x1 (w64 (a1 + (w64 ((w64 ((IntKind.u64.wrap (((BitVec.ofInt IntKind.u64.bits r2.1 &&& (BitVec.ofInt IntKind.u64.bits (IntKind.u64.wrap (r1 - 1)))).toNat : Int))))) - (w64 (a2 - a1)))))))).set (w64 (a1 + (w64 ((w64 ((IntKind.u64.wrap (((BitVec.ofInt IntKind.u64.bits r2.1 &&& (BitVec.ofInt IntKind.u64.bits (IntKind.u64.wrap (r1 - 1)))).toNat : Int))))) - (w64 (a2 - a1)))))).toNat (gt x1 x3)).length c_1), _] _ _ := h12
       refine ⟨⟨[_], h12⟩, ?_⟩
       have e9 : ((x1.set x3.toNat (gt x1 (w64 (a1 + (w64 ((w64 ((IntKind.u64.wrap (((BitVec.ofInt IntKind.u64.bits r2.1 &&& (BitVec.ofInt IntKind.u64.bits (IntKind.u64.wrap (r1 - 1)))).toNat : Int))))) - (w64 (a2 - a1)))))))).set (w64 (a1 + (w64 ((w64 ((IntKind.u64.wrap (((BitVec.ofInt IntKind.u64.bits r2.1 &&& (BitVec.ofInt IntKind.u64.bits (IntKind.u64.wrap (r1 - 1)))).toNat : Int))))) - (w64 (a2 - a1)))))).toNat (gt x1 x3)).length = a0.length := List.length_set.trans e8
       refine HJ.fin [(0, .slice A1 x1.length c_1), (1, .int .i64 a1), (6, .int .i64 (w64 (a2 - a1))), (7, .pointer (some ⟨b1, 0, none⟩)), (8, .int .u64 r1), (9, .int .i64 x3)] rfl rfl ?_
       exact Zq ⟨(by simp only [List.length_set]), ((h12.only [0, 0] rfl).rds [] rfl)⟩
     rintro env w12 ⟨rfl, h13⟩
     have e10 : ((x1.set x3.toNat (gt x1 (w64 (a1 + (w64 ((w64 ((IntKind.u64.wrap (((BitVec.ofInt IntKind.u64.bits r2.1 &&& (BitVec.ofInt IntKind.u64.bits (IntKind.u64.wrap (r1 - 1)))).toNat : Int))))) - (w64 (a2 - a1)))))))).set (w64 (a1 + (w64 ((w64 ((IntKind.u64.wrap (((BitVec.ofInt IntKind.u64.bits r2.1 &&& (BitVec.ofInt IntKind.u64.bits (IntKind.u64.wrap (r1 - 1)))).toNat : Int))))) - (w64 (a2 - a1)))))).toNat (gt x1 x3)).length = a0.length := by first | (simp only [List.length_set]; done) | (simp only [List.length_set]; exact e1)
     refine J.region (RJ.run Za 3 rfl (RJ.fin [(0, .slice A1 ((x1.set x3.toNat (gt x1 (w64 (a1 + (w64 ((w64 ((IntKind.u64.wrap (((BitVec.ofInt IntKind.u64.bits r2.1 &&& (BitVec.ofInt IntKind.u64.bits (IntKind.u64.wrap (r1 - 1)))).toNat : Int))))) - (w64 (a2 - a1)))))))).set (w64 (a1 + (w64 ((w64 ((IntKind.u64.wrap (((BitVec.ofInt IntKind.u64.bits r2.1 &&& (BitVec.ofInt IntKind.u64.bits (IntKind.u64.wrap (r1 - 1)))).toNat : Int))))) - (w64 (a2 - a1)))))).toNat (gt x1 x3)).length c_1), (1, _), (6, _), (7, _), (8, _), (9, .int .i64 (w64 (x3 + 1)))] rfl ?_))
     have h14 := ((h13.only [1, 0] rfl).rds [] rfl)
     exact ⟨k1, by omega, ((x1.set x3.toNat (gt x1 (w64 (a1 + (w64 ((w64 ((IntKind.u64.wrap (((BitVec.ofInt IntKind.u64.bits r2.1 &&& (BitVec.ofInt IntKind.u64.bits (IntKind.u64.wrap (r1 - 1)))).toNat : Int))))) - (w64 (a2 - a1)))))))).set (w64 (a1 + (w64 ((w64 ((IntKind.u64.wrap (((BitVec.ofInt IntKind.u64.bits r2.1 &&& (BitVec.ofInt IntKind.u64.bits (IntKind.u64.wrap (r1 - 1)))).toNat : Int))))) - (w64 (a2 - a1)))))).toNat (gt x1 x3)), r2.2, (w64 (x3 + 1)), rfl, h14, H, e10⟩
    replace H := Zg c3 H
    refine J.skip ?_
    obtain ⟨⟨p5, p6⟩, H⟩ := Zo H
    obtain ⟨⟨p7, p8⟩, H⟩ := Zo H
    refine J.mid (fun env w => env = [(0, .slice A1 ((x1.set x3.toNat (gt x1 (w64 (a1 + (w64 ((IntKind.u64.wrap (((BitVec.ofInt IntKind.u64.bits r2.1 &&& (BitVec.ofInt IntKind.u64.bits (IntKind.u64.wrap (r1 - 1)))).toNat : Int))))))))).set (w64 (a1 + (w64 ((IntKind.u64.wrap (((BitVec.ofInt IntKind.u64.bits r2.1 &&& (BitVec.ofInt IntKind.u64.bits (IntKind.u64.wrap (r1 - 1)))).toNat : Int))))))).toNat (gt x1 x3)).length c_1), (1, .int .i64 a1), (6, .int .i64 (w64 (a2 - a1))), (7, .pointer (some ⟨b1, 0, none⟩)), (8, .int .u64 r1), (9, .int .i64 x3)] ∧ St w0 F0 [Zf 70 (.int .u32) ((x1.set x3.toNat (gt x1 (w64 (a1 + (w64 ((IntKind.u64.wrap (((BitVec.ofInt IntKind.u64.bits r2.1 &&& (BitVec.ofInt IntKind.u64.bits (IntKind.u64.wrap (r1 - 1)))).toNat : Int))))))))).set (w64 (a1 + (w64 ((IntKind.u64.wrap (((BitVec.ofInt IntKind.u64.bits r2.1 &&& (BitVec.ofInt IntKind.u64.bits (IntKind.u64.wrap (r1 - 1)))).toNat : Int))))))).toNat (gt x1 x3)) (.slice A1 ((x1.set x3.toNat (gt x1 (w64 (a1 + (w64 ((IntKind.u64.wrap (((BitVec.ofInt IntKind.u64.bits r2.1 &&& (BitVec.ofInt IntKind.u64.bits (IntKind.u64.wrap (r1 - 1)))).toNat : Int))))))))).set (w64 (a1 + (w64 ((IntKind.u64.wrap (((BitVec.ofInt IntKind.u64.bits r2.1 &&& (BitVec.ofInt IntKind.u64.bits (IntKind.u64.wrap (r1 - 1)))).toNat : Int))))))).toNat (gt x1 x3)).length c_1), Zh b1 131 [.int .u64 r2.2]] [] w) ?_ ?_
    ·refine J.heldSt mix (h5.only [0] rfl) ?_
     have h17 := h5.drew
     refine HJ.run Za rfl [0, 1, 2, 3, 4, 5, 6, 7, 8, 9, 12, 13] rfl ?_
     have e14 := Zy h17.wh (Gives.of 1 rfl Zl) p5 p6
     refine HJ.q (i := 10) rfl rfl rfl rfl rfl rfl (Zk Za rfl rfl rfl rfl rfl e14 p5 p6) (HJ.q (i := 14) rfl rfl rfl rfl rfl rfl (Zk Za rfl rfl rfl rfl rfl e14 p7 p8) (HJ.pick [11, 15] (i := 11) rfl rfl rfl rfl ((Zs ?_ (Zs ?_ Z4)))))
     ·refine HS.op (i := 11) rfl rfl rfl (OpT.ofq (Ze (f := 0) Za rfl h17.wht (Gives.of 1 rfl Zl) p5 p6 rfl rfl rfl rfl rfl)) ?_
      rintro _ _ ⟨rfl, rfl⟩
      replace h17 : St w0 F0 [_, _] _ _ := h17
      refine ⟨⟨[_], (h17.only [1, 0] rfl)⟩, ?_⟩
      refine HJ.op (i := 15) rfl rfl rfl rfl rfl (OpT.ofq (Ze (f := 0) Za rfl h17.wht (Gives.of 1 rfl Zl) p7 p8 rfl rfl rfl rfl rfl)) ?_
      rintro _ _ ⟨rfl, rfl⟩
      replace h17 : St w0 F0 [_, _] _ _ := h17
      refine ⟨⟨[_], (h17.only [1, 0] rfl)⟩, ?_⟩
      refine HJ.q (i := 16) rfl rfl rfl rfl rfl rfl (Zk Za rfl rfl rfl rfl rfl e14 p7 p8) (HJ.op (i := 17) rfl rfl rfl rfl rfl (Zp (ty := (.int .u32)) (f := 0) (ix := x3) Za rfl (gt x1 (w64 (a1 + (w64 ((IntKind.u64.wrap (((BitVec.ofInt IntKind.u64.bits r2.1 &&& (BitVec.ofInt IntKind.u64.bits (IntKind.u64.wrap (r1 - 1)))).toNat : Int)))))))) 1 rfl h17 rfl rfl p7 p8 rfl rfl rfl rfl rfl rfl rfl) ?_)
      intro _ w15 h18
      replace h18 : St w0 F0 [Zf 70 (.int .u32) (x1.set x3.toNat (gt x1 (w64 (a1 + (w64 ((IntKind.u64.wrap (((BitVec.ofInt IntKind.u64.bits r2.1 &&& (BitVec.ofInt IntKind.u64.bits (IntKind.u64.wrap (r1 - 1)))).toNat : Int))))))))) (.slice A1 (x1.set x3.toNat (gt x1 (w64 (a1 + (w64 ((IntKind.u64.wrap (((BitVec.ofInt IntKind.u64.bits r2.1 &&& (BitVec.ofInt IntKind.u64.bits (IntKind.u64.wrap (r1 - 1)))).toNat : Int))))))))).length c_1), _] _ _ := h18
      refine ⟨⟨[_], h18⟩, ?_⟩
      have e15 : (x1.set x3.toNat (gt x1 (w64 (a1 + (w64 ((IntKind.u64.wrap (((BitVec.ofInt IntKind.u64.bits r2.1 &&& (BitVec.ofInt IntKind.u64.bits (IntKind.u64.wrap (r1 - 1)))).toNat : Int))))))))).length = a0.length := List.length_set.trans e1
      refine HJ.q (i := 18) rfl rfl rfl rfl rfl rfl (Zk Za rfl rfl rfl rfl rfl e14 p5 p6) (HJ.op (i := 19) rfl rfl rfl rfl rfl (Zp (ty := (.int .u32)) (f := 0) (ix := (w64 (a1 + (w64 ((IntKind.u64.wrap (((BitVec.ofInt IntKind.u64.bits r2.1 &&& (BitVec.ofInt IntKind.u64.bits (IntKind.u64.wrap (r1 - 1)))).toNat : Int)))))))) Za rfl (gt x1 x3) 0 rfl h18 rfl rfl p5 (by simpa only [List.length_set] using p6) rfl rfl rfl rfl rfl rfl rfl) ?_)
      intro _ w16 h19
      replace h19 : St w0 F0 [Zf 70 (.int .u32) ((x1.set x3.toNat (gt x1 (w64 (a1 + (w64 ((IntKind.u64.wrap (((BitVec.ofInt IntKind.u64.bits r2.1 &&& (BitVec.ofInt IntKind.u64.bits (IntKind.u64.wrap (r1 - 1)))).toNat : Int))))))))).set (w64 (a1 + (w64 ((IntKind.u64.wrap (((BitVec.ofInt IntKind.u64.bits r2.1 &&& (BitVec.ofInt IntKind.u64.bits (IntKind.u64.wrap (r1 - 1)))).toNat : Int))))))).toNat (gt x1 x3)) (.slice A1 ((x1.set x3.toNat (gt x1 (w64 (a1 + (w64 ((IntKind.u64.wrap (((BitVec.ofInt IntKind.u64.bits r2.1 &&& (BitVec.ofInt IntKind.u64.bits (IntKind.u64.wrap (r1 - 1)))).toNat : Int))))))))).set (w64 (a1 + (w64 ((IntKind.u64.wrap (((BitVec.ofInt IntKind.u64.bits r2.1 &&& (BitVec.ofInt IntKind.u64.bits (IntKind.u64.wrap (r1 - 1)))).toNat : Int))))))).toNat (gt x1 x3)).length c_1), _] _ _ := h19
      refine ⟨⟨[_], h19⟩, ?_⟩
      have e16 : ((x1.set x3.toNat (gt x1 (w64 (a1 + (w64 ((IntKind.u64.wrap (((BitVec.ofInt IntKind.u64.bits r2.1 &&& (BitVec.ofInt IntKind.u64.bits (IntKind.u64.wrap (r1 - 1)))).toNat : Int))))))))).set (w64 (a1 + (w64 ((IntKind.u64.wrap (((BitVec.ofInt IntKind.u64.bits r2.1 &&& (BitVec.ofInt IntKind.u64.bits (IntKind.u64.wrap (r1 - 1)))).toNat : Int))))))).toNat (gt x1 x3)).length = a0.length := List.length_set.trans e15
      refine HJ.fin [(0, .slice A1 x1.length c_1), (1, .int .i64 a1), (6, .int .i64 (w64 (a2 - a1))), (7, .pointer (some ⟨b1, 0, none⟩)), (8, .int .u64 r1), (9, .int .i64 x3)] rfl rfl ?_
      exact Zq ⟨(by simp only [List.length_set]), ((h19.only [0, 0] rfl).rds [] rfl)⟩
     ·refine HS.op (i := 15) rfl rfl rfl (OpT.ofq (Ze (f := 0) Za rfl h17.wht (Gives.of 1 rfl Zl) p7 p8 rfl rfl rfl rfl rfl)) ?_
      rintro _ _ ⟨rfl, rfl⟩
      replace h17 : St w0 F0 [_, _] _ _ := h17
      refine ⟨⟨[_], (h17.only [1, 0] rfl)⟩, ?_⟩
      refine HJ.op (i := 11) rfl rfl rfl rfl rfl (OpT.ofq (Ze (f := 0) Za rfl h17.wht (Gives.of 1 rfl Zl) p5 p6 rfl rfl rfl rfl rfl)) ?_
      rintro _ _ ⟨rfl, rfl⟩
      replace h17 : St w0 F0 [_, _] _ _ := h17
      refine ⟨⟨[_], (h17.only [1, 0] rfl)⟩, ?_⟩
      refine HJ.q (i := 16) rfl rfl rfl rfl rfl rfl (Zk Za rfl rfl rfl rfl rfl e14 p7 p8) (HJ.op (i := 17) rfl rfl rfl rfl rfl (Zp (ty := (.int .u32)) (f := 0) (ix := x3) Za rfl (gt x1 (w64 (a1 + (w64 ((IntKind.u64.wrap (((BitVec.ofInt IntKind.u64.bits r2.1 &&& (BitVec.ofInt IntKind.u64.bits (IntKind.u64.wrap (r1 - 1)))).toNat : Int)))))))) 1 rfl h17 rfl rfl p7 p8 rfl rfl rfl rfl rfl rfl rfl) ?_)
      intro _ w17 h20
      replace h20 : St w0 F0 [Zf 70 (.int .u32) (x1.set x3.toNat (gt x1 (w64 (a1 + (w64 ((IntKind.u64.wrap (((BitVec.ofInt IntKind.u64.bits r2.1 &&& (BitVec.ofInt IntKind.u64.bits (IntKind.u64.wrap (r1 - 1)))).toNat : Int))))))))) (.slice A1 (x1.set x3.toNat (gt x1 (w64 (a1 + (w64 ((IntKind.u64.wrap (((BitVec.ofInt IntKind.u64.bits r2.1 &&& (BitVec.ofInt IntKind.u64.bits (IntKind.u64.wrap (r1 - 1)))).toNat : Int))))))))).length c_1), _] _ _ := h20
      refine ⟨⟨[_], h20⟩, ?_⟩
      have e17 : (x1.set x3.toNat (gt x1 (w64 (a1 + (w64 ((IntKind.u64.wrap (((BitVec.ofInt IntKind.u64.bits r2.1 &&& (BitVec.ofInt IntKind.u64.bits (IntKind.u64.wrap (r1 - 1)))).toNat : Int))))))))).length = a0.length := List.length_set.trans e1
      refine HJ.q (i := 18) rfl rfl rfl rfl rfl rfl (Zk Za rfl rfl rfl rfl rfl e14 p5 p6) (HJ.op (i := 19) rfl rfl rfl rfl rfl (Zp (ty := (.int .u32)) (f := 0) (ix := (w64 (a1 + (w64 ((IntKind.u64.wrap (((BitVec.ofInt IntKind.u64.bits r2.1 &&& (BitVec.ofInt IntKind.u64.bits (IntKind.u64.wrap (r1 - 1)))).toNat : Int)))))))) Za rfl (gt x1 x3) 0 rfl h20 rfl rfl p5 (by simpa only [List.length_set] using p6) rfl rfl rfl rfl rfl rfl rfl) ?_)
      intro _ w18 h21
      replace h21 : St w0 F0 [Zf 70 (.int .u32) ((x1.set x3.toNat (gt x1 (w64 (a1 + (w64 ((IntKind.u64.wrap (((BitVec.ofInt IntKind.u64.bits r2.1 &&& (BitVec.ofInt IntKind.u64.bits (IntKind.u64.wrap (r1 - 1)))).toNat : Int))))))))).set (w64 (a1 + (w64 ((IntKind.u64.wrap (((BitVec.ofInt IntKind.u64.bits r2.1 &&& (BitVec.ofInt IntKind.u64.bits (IntKind.u64.wrap (r1 - 1)))).toNat : Int))))))).toNat (gt x1 x3)) (.slice A1 ((x1.set x3.toNat (gt x1 (w64 (a1 + (w64 ((IntKind.u64.wrap (((BitVec.ofInt IntKind.u64.bits r2.1 &&& (BitVec.ofInt IntKind.u64.bits (IntKind.u64.wrap (r1 - 1)))).toNat : Int))))))))).set (w64 (a1 + (w64 ((IntKind.u64.wrap (((BitVec.ofInt IntKind.u64.bits r2.1 &&& (BitVec.ofInt IntKind.u64.bits (IntKind.u64.wrap (r1 - 1)))).toNat : Int))))))).toNat (gt x1 x3)).length c_1), _] _ _ := h21
      refine ⟨⟨[_], h21⟩, ?_⟩
      have e18 : ((x1.set x3.toNat (gt x1 (w64 (a1 + (w64 ((IntKind.u64.wrap (((BitVec.ofInt IntKind.u64.bits r2.1 &&& (BitVec.ofInt IntKind.u64.bits (IntKind.u64.wrap (r1 - 1)))).toNat : Int))))))))).set (w64 (a1 + (w64 ((IntKind.u64.wrap (((BitVec.ofInt IntKind.u64.bits r2.1 &&& (BitVec.ofInt IntKind.u64.bits (IntKind.u64.wrap (r1 - 1)))).toNat : Int))))))).toNat (gt x1 x3)).length = a0.length := List.length_set.trans e17
      refine HJ.fin [(0, .slice A1 x1.length c_1), (1, .int .i64 a1), (6, .int .i64 (w64 (a2 - a1))), (7, .pointer (some ⟨b1, 0, none⟩)), (8, .int .u64 r1), (9, .int .i64 x3)] rfl rfl ?_
      exact Zq ⟨(by simp only [List.length_set]), ((h21.only [0, 0] rfl).rds [] rfl)⟩
    rintro env w19 ⟨rfl, h22⟩
    have e19 : ((x1.set x3.toNat (gt x1 (w64 (a1 + (w64 ((IntKind.u64.wrap (((BitVec.ofInt IntKind.u64.bits r2.1 &&& (BitVec.ofInt IntKind.u64.bits (IntKind.u64.wrap (r1 - 1)))).toNat : Int))))))))).set (w64 (a1 + (w64 ((IntKind.u64.wrap (((BitVec.ofInt IntKind.u64.bits r2.1 &&& (BitVec.ofInt IntKind.u64.bits (IntKind.u64.wrap (r1 - 1)))).toNat : Int))))))).toNat (gt x1 x3)).length = a0.length := by first | (simp only [List.length_set]; done) | (simp only [List.length_set]; exact e1)
    refine J.region (RJ.run Za 3 rfl (RJ.fin [(0, .slice A1 ((x1.set x3.toNat (gt x1 (w64 (a1 + (w64 ((IntKind.u64.wrap (((BitVec.ofInt IntKind.u64.bits r2.1 &&& (BitVec.ofInt IntKind.u64.bits (IntKind.u64.wrap (r1 - 1)))).toNat : Int))))))))).set (w64 (a1 + (w64 ((IntKind.u64.wrap (((BitVec.ofInt IntKind.u64.bits r2.1 &&& (BitVec.ofInt IntKind.u64.bits (IntKind.u64.wrap (r1 - 1)))).toNat : Int))))))).toNat (gt x1 x3)).length c_1), (1, _), (6, _), (7, _), (8, _), (9, .int .i64 (w64 (x3 + 1)))] rfl ?_))
    have h23 := ((h22.only [1, 0] rfl).rds [] rfl)
    exact ⟨k1, by omega, ((x1.set x3.toNat (gt x1 (w64 (a1 + (w64 ((IntKind.u64.wrap (((BitVec.ofInt IntKind.u64.bits r2.1 &&& (BitVec.ofInt IntKind.u64.bits (IntKind.u64.wrap (r1 - 1)))).toNat : Int))))))))).set (w64 (a1 + (w64 ((IntKind.u64.wrap (((BitVec.ofInt IntKind.u64.bits r2.1 &&& (BitVec.ofInt IntKind.u64.bits (IntKind.u64.wrap (r1 - 1)))).toNat : Int))))))).toNat (gt x1 x3)), r2.2, (w64 (x3 + 1)), rfl, h23, H, e19⟩
   replace H := Zg c2 H
   refine J.exit ?_
   obtain rfl := Option.some.inj H
   exact ⟨_, _, _, (Zb rfl), ⟨rfl, rfl, e1⟩, h4.only [1] rfl⟩
 replace H := Zg c1 H
 refine J.skip ?_
 obtain rfl := Option.some.inj H
 exact ⟨_, _, _, (Zb rfl), ⟨rfl, rfl, (rfl : a0.length = a0.length)⟩, h0.only [0] rfl⟩

mutual
def Q61.l0 : Nat → (List (Int)) → (Int) → (Int) → (Int) → (Bool) → (Bool) → Option (List (Int))
 | 0, _, _, _, _, _, _ => none
 | k + 1, x1, x2, x3, x4, x5, x6 => if (decide ((w64 (x3 - x2)) ≤ 12)) = true then ((Q53.f k x1 x2 x3).bind fun r1 => (some r1)) else (if (decide (x4 = 0)) = true then ((Q52.f k x1 x2 x3).bind fun r2 => (some r2)) else (if (!x5) = true then ((Q50.f k x1 x2 x3).bind fun r30 => ((Q51.f r30 x2 x3).bind fun r3 => (if (decide (r3.2 = 2)) = true then ((Q62.f k r30 x2 x3).bind fun r29 => (if x5 = true then (if x6 = true then (if (decide (1 = 1)) = true then ((Q58.f k r29 x2 x3).bind fun r12 => (if r12.1 = true then (some r12.2) else (if (decide (0 < x2)) = true then (if 0 ≤ (w64 (x2 - 1)) ∧ (w64 (x2 - 1)) < (r12.2.length : Int) then (if 0 ≤ (w64 ((w64 (x3 - 1)) - (w64 (r3.1 - x2)))) ∧ (w64 ((w64 (x3 - 1)) - (w64 (r3.1 - x2)))) < (r12.2.length : Int) then ((Q4.f (gt r12.2 (w64 (x2 - 1))) (gt r12.2 (w64 ((w64 (x3 - 1)) - (w64 (r3.1 - x2)))))).bind fun r4 => (if (!r4) = true then ((Q59.f k r12.2 x2 x3 (w64 ((w64 (x3 - 1)) - (w64 (r3.1 - x2))))).bind fun r5 => (Q61.l0 k r5.2 r5.1 x3 (w64 (x4 - 1)) x5 x6)) else ((Q60.f k r12.2 x2 x3 (w64 ((w64 (x3 - 1)) - (w64 (r3.1 - x2))))).bind fun r6 => (if (decide ((w64 (r6.1 - x2)) < (w64 (x3 - r6.1)))) = true then ((Q61.f k r6.2.2 x2 r6.1 (w64 (x4 - 1))).bind fun r7 => (Q61.l0 k r7 (w64 (r6.1 + 1)) x3 (w64 (x4 - 1)) (decide ((w64 (Int.tdiv (w64 (x3 - x2)) 8)) ≤ (w64 (r6.1 - x2)))) r6.2.1)) else ((Q61.f k r6.2.2 (w64 (r6.1 + 1)) x3 (w64 (x4 - 1))).bind fun r8 => (Q61.l0 k r8 x2 r6.1 (w64 (x4 - 1)) (decide ((w64 (Int.tdiv (w64 (x3 - x2)) 8)) ≤ (w64 (x3 - r6.1)))) r6.2.1)))))) else none) else none) else ((Q60.f k r12.2 x2 x3 (w64 ((w64 (x3 - 1)) - (w64 (r3.1 - x2))))).bind fun r9 => (if (decide ((w64 (r9.1 - x2)) < (w64 (x3 - r9.1)))) = true then ((Q61.f k r9.2.2 x2 r9.1 (w64 (x4 - 1))).bind fun r10 => (Q61.l0 k r10 (w64 (r9.1 + 1)) x3 (w64 (x4 - 1)) (decide ((w64 (Int.tdiv (w64 (x3 - x2)) 8)) ≤ (w64 (r9.1 - x2)))) r9.2.1)) else ((Q61.f k r9.2.2 (w64 (r9.1 + 1)) x3 (w64 (x4 - 1))).bind fun r11 => (Q61.l0 k r11 x2 r9.1 (w64 (x4 - 1)) (decide ((w64 (Int.tdiv (w64 (x3 - x2)) 8)) ≤ (w64 (x3 - r9.1)))) r9.2.1))))))) else (if (decide (0 < x2)) = true then (if 0 ≤ (w64 (x2 - 1)) ∧ (w64 (x2 - 1)) < (r29.length : Int) then (if 0 ≤ (w64 ((w64 (x3 - 1)) - (w64 (r3.1 - x2)))) ∧ (w64 ((w64 (x3 - 1)) - (w64 (r3.1 - x2)))) < (r29.length : Int) then ((Q4.f (gt r29 (w64 (x2 - 1))) (gt r29 (w64 ((w64 (x3 - 1)) - (w64 (r3.1 - x2)))))).bind fun r4 => (if (!r4) = true then ((Q59.f k r29 x2 x3 (w64 ((w64 (x3 - 1)) - (w64 (r3.1 - x2))))).bind fun r5 => (Q61.l0 k r5.2 r5.1 x3 (w64 (x4 - 1)) x5 x6)) else ((Q60.f k r29 x2 x3 (w64 ((w64 (x3 - 1)) - (w64 (r3.1 - x2))))).bind fun r6 => (if (decide ((w64 (r6.1 - x2)) < (w64 (x3 - r6.1)))) = true then ((Q61.f k r6.2.2 x2 r6.1 (w64 (x4 - 1))).bind fun r7 => (Q61.l0 k r7 (w64 (r6.1 + 1)) x3 (w64 (x4 - 1)) (decide ((w64 (Int.tdiv (w64 (x3 - x2)) 8)) ≤ (w64 (r6.1 - x2)))) r6.2.1)) else ((Q61.f k r6.2.2 (w64 (r6.1 + 1)) x3 (w64 (x4 - 1))).bind fun r8 => (Q61.l0 k r8 x2 r6.1 (w64 (x4 - 1)) (decide ((w64 (Int.tdiv (w64 (x3 - x2)) 8)) ≤ (w64 (x3 - r6.1)))) r6.2.1)))))) else none) else none) else ((Q60.f k r29 x2 x3 (w64 ((w64 (x3 - 1)) - (w64 (r3.1 - x2))))).bind fun r9 => (if (decide ((w64 (r9.1 - x2)) < (w64 (x3 - r9.1)))) = true then ((Q61.f k r9.2.2 x2 r9.1 (w64 (x4 - 1))).bind fun r10 => (Q61.l0 k r10 (w64 (r9.1 + 1)) x3 (w64 (x4 - 1)) (decide ((w64 (Int.tdiv (w64 (x3 - x2)) 8)) ≤ (w64 (r9.1 - x2)))) r9.2.1)) else ((Q61.f k r9.2.2 (w64 (r9.1 + 1)) x3 (w64 (x4 - 1))).bind fun r11 => (Q61.l0 k r11 x2 r9.1 (w64 (x4 - 1)) (decide ((w64 (Int.tdiv (w64 (x3 - x2)) 8)) ≤ (w64 (x3 - r9.1)))) r9.2.1)))))) else (if (decide (0 < x2)) = true then (if 0 ≤ (w64 (x2 - 1)) ∧ (w64 (x2 - 1)) < (r29.length : Int) then (if 0 ≤ (w64 ((w64 (x3 - 1)) - (w64 (r3.1 - x2)))) ∧ (w64 ((w64 (x3 - 1)) - (w64 (r3.1 - x2)))) < (r29.length : Int) then ((Q4.f (gt r29 (w64 (x2 - 1))) (gt r29 (w64 ((w64 (x3 - 1)) - (w64 (r3.1 - x2)))))).bind fun r13 => (if (!r13) = true then ((Q59.f k r29 x2 x3 (w64 ((w64 (x3 - 1)) - (w64 (r3.1 - x2))))).bind fun r14 => (Q61.l0 k r14.2 r14.1 x3 (w64 (x4 - 1)) x5 x6)) else ((Q60.f k r29 x2 x3 (w64 ((w64 (x3 - 1)) - (w64 (r3.1 - x2))))).bind fun r15 => (if (decide ((w64 (r15.1 - x2)) < (w64 (x3 - r15.1)))) = true then ((Q61.f k r15.2.2 x2 r15.1 (w64 (x4 - 1))).bind fun r16 => (Q61.l0 k r16 (w64 (r15.1 + 1)) x3 (w64 (x4 - 1)) (decide ((w64 (Int.tdiv (w64 (x3 - x2)) 8)) ≤ (w64 (r15.1 - x2)))) r15.2.1)) else ((Q61.f k r15.2.2 (w64 (r15.1 + 1)) x3 (w64 (x4 - 1))).bind fun r17 => (Q61.l0 k r17 x2 r15.1 (w64 (x4 - 1)) (decide ((w64 (Int.tdiv (w64 (x3 - x2)) 8)) ≤ (w64 (x3 - r15.1)))) r15.2.1)))))) else none) else none) else ((Q60.f k r29 x2 x3 (w64 ((w64 (x3 - 1)) - (w64 (r3.1 - x2))))).bind fun r18 => (if (decide ((w64 (r18.1 - x2)) < (w64 (x3 - r18.1)))) = true then ((Q61.f k r18.2.2 x2 r18.1 (w64 (x4 - 1))).bind fun r19 => (Q61.l0 k r19 (w64 (r18.1 + 1)) x3 (w64 (x4 - 1)) (decide ((w64 (Int.tdiv (w64 (x3 - x2)) 8)) ≤ (w64 (r18.1 - x2)))) r18.2.1)) else ((Q61.f k r18.2.2 (w64 (r18.1 + 1)) x3 (w64 (x4 - 1))).bind fun r20 => (Q61.l0 k r20 x2 r18.1 (w64 (x4 - 1)) (decide ((w64 (Int.tdiv (w64 (x3 - x2)) 8)) ≤ (w64 (x3 - r18.1)))) r18.2.1)))))) else (if (decide (0 < x2)) = true then (if 0 ≤ (w64 (x2 - 1)) ∧ (w64 (x2 - 1)) < (r29.length : Int) then (if 0 ≤ (w64 ((w64 (x3 - 1)) - (w64 (r3.1 - x2)))) ∧ (w64 ((w64 (x3 - 1)) - (w64 (r3.1 - x2)))) < (r29.length : Int) then ((Q4.f (gt r29 (w64 (x2 - 1))) (gt r29 (w64 ((w64 (x3 - 1)) - (w64 (r3.1 - x2)))))).bind fun r21 => (if (!r21) = true then ((Q59.f k r29 x2 x3 (w64 ((w64 (x3 - 1)) - (w64 (r3.1 - x2))))).bind fun r22 => (Q61.l0 k r22.2 r22.1 x3 (w64 (x4 - 1)) x5 x6)) else ((Q60.f k r29 x2 x3 (w64 ((w64 (x3 - 1)) - (w64 (r3.1 - x2))))).bind fun r23 => (if (decide ((w64 (r23.1 - x2)) < (w64 (x3 - r23.1)))) = true then ((Q61.f k r23.2.2 x2 r23.1 (w64 (x4 - 1))).bind fun r24 => (Q61.l0 k r24 (w64 (r23.1 + 1)) x3 (w64 (x4 - 1)) (decide ((w64 (Int.tdiv (w64 (x3 - x2)) 8)) ≤ (w64 (r23.1 - x2)))) r23.2.1)) else ((Q61.f k r23.2.2 (w64 (r23.1 + 1)) x3 (w64 (x4 - 1))).bind fun r25 => (Q61.l0 k r25 x2 r23.1 (w64 (x4 - 1)) (decide ((w64 (Int.tdiv (w64 (x3 - x2)) 8)) ≤ (w64 (x3 - r23.1)))) r23.2.1)))))) else none) else none) else ((Q60.f k r29 x2 x3 (w64 ((w64 (x3 - 1)) - (w64 (r3.1 - x2))))).bind fun r26 => (if (decide ((w64 (r26.1 - x2)) < (w64 (x3 - r26.1)))) = true then ((Q61.f k r26.2.2 x2 r26.1 (w64 (x4 - 1))).bind fun r27 => (Q61.l0 k r27 (w64 (r26.1 + 1)) x3 (w64 (x4 - 1)) (decide ((w64 (Int.tdiv (w64 (x3 - x2)) 8)) ≤ (w64 (r26.1 - x2)))) r26.2.1)) else ((Q61.f k r26.2.2 (w64 (r26.1 + 1)) x3 (w64 (x4 - 1))).bind fun r28 => (Q61.l0 k r28 x2 r26.1 (w64 (x4 - 1)) (decide ((w64 (Int.tdiv (w64 (x3 - x2)) 8)) ≤ (w64 (x3 - r26.1)))) r26.2.1))))))) else (if x5 = true then (if x6 = true then (if (decide (r3.2 = 1)) = true then ((Q58.f k r30 x2 x3).bind fun r12 => (if r12.1 = true then (some r12.2) else (if (decide (0 < x2)) = true then (if 0 ≤ (w64 (x2 - 1)) ∧ (w64 (x2 - 1)) < (r12.2.length : Int) then (if 0 ≤ r3.1 ∧ r3.1 < (r12.2.length : Int) then ((Q4.f (gt r12.2 (w64 (x2 - 1))) (gt r12.2 r3.1)).bind fun r4 => (if (!r4) = true then ((Q59.f k r12.2 x2 x3 r3.1).bind fun r5 => (Q61.l0 k r5.2 r5.1 x3 (w64 (x4 - 1)) x5 x6)) else ((Q60.f k r12.2 x2 x3 r3.1).bind fun r6 => (if (decide ((w64 (r6.1 - x2)) < (w64 (x3 - r6.1)))) = true then ((Q61.f k r6.2.2 x2 r6.1 (w64 (x4 - 1))).bind fun r7 => (Q61.l0 k r7 (w64 (r6.1 + 1)) x3 (w64 (x4 - 1)) (decide ((w64 (Int.tdiv (w64 (x3 - x2)) 8)) ≤ (w64 (r6.1 - x2)))) r6.2.1)) else ((Q61.f k r6.2.2 (w64 (r6.1 + 1)) x3 (w64 (x4 - 1))).bind fun r8 => (Q61.l0 k r8 x2 r6.1 (w64 (x4 - 1)) (decide ((w64 (Int.tdiv (w64 (x3 - x2)) 8)) ≤ (w64 (x3 - r6.1)))) r6.2.1)))))) else none) else none) else ((Q60.f k r12.2 x2 x3 r3.1).bind fun r9 => (if (decide ((w64 (r9.1 - x2)) < (w64 (x3 - r9.1)))) = true then ((Q61.f k r9.2.2 x2 r9.1 (w64 (x4 - 1))).bind fun r10 => (Q61.l0 k r10 (w64 (r9.1 + 1)) x3 (w64 (x4 - 1)) (decide ((w64 (Int.tdiv (w64 (x3 - x2)) 8)) ≤ (w64 (r9.1 - x2)))) r9.2.1)) else ((Q61.f k r9.2.2 (w64 (r9.1 + 1)) x3 (w64 (x4 - 1))).bind fun r11 => (Q61.l0 k r11 x2 r9.1 (w64 (x4 - 1)) (decide ((w64 (Int.tdiv (w64 (x3 - x2)) 8)) ≤ (w64 (x3 - r9.1)))) r9.2.1))))))) else (if (decide (0 < x2)) = true then (if 0 ≤ (w64 (x2 - 1)) ∧ (w64 (x2 - 1)) < (r30.length : Int) then (if 0 ≤ r3.1 ∧ r3.1 < (r30.length : Int) then ((Q4.f (gt r30 (w64 (x2 - 1))) (gt r30 r3.1)).bind fun r4 => (if (!r4) = true then ((Q59.f k r30 x2 x3 r3.1).bind fun r5 => (Q61.l0 k r5.2 r5.1 x3 (w64 (x4 - 1)) x5 x6)) else ((Q60.f k r30 x2 x3 r3.1).bind fun r6 => (if (decide ((w64 (r6.1 - x2)) < (w64 (x3 - r6.1)))) = true then ((Q61.f k r6.2.2 x2 r6.1 (w64 (x4 - 1))).bind fun r7 => (Q61.l0 k r7 (w64 (r6.1 + 1)) x3 (w64 (x4 - 1)) (decide ((w64 (Int.tdiv (w64 (x3 - x2)) 8)) ≤ (w64 (r6.1 - x2)))) r6.2.1)) else ((Q61.f k r6.2.2 (w64 (r6.1 + 1)) x3 (w64 (x4 - 1))).bind fun r8 => (Q61.l0 k r8 x2 r6.1 (w64 (x4 - 1)) (decide ((w64 (Int.tdiv (w64 (x3 - x2)) 8)) ≤ (w64 (x3 - r6.1)))) r6.2.1)))))) else none) else none) else ((Q60.f k r30 x2 x3 r3.1).bind fun r9 => (if (decide ((w64 (r9.1 - x2)) < (w64 (x3 - r9.1)))) = true then ((Q61.f k r9.2.2 x2 r9.1 (w64 (x4 - 1))).bind fun r10 => (Q61.l0 k r10 (w64 (r9.1 + 1)) x3 (w64 (x4 - 1)) (decide ((w64 (Int.tdiv (w64 (x3 - x2)) 8)) ≤ (w64 (r9.1 - x2)))) r9.2.1)) else ((Q61.f k r9.2.2 (w64 (r9.1 + 1)) x3 (w64 (x4 - 1))).bind fun r11 => (Q61.l0 k r11 x2 r9.1 (w64 (x4 - 1)) (decide ((w64 (Int.tdiv (w64 (x3 - x2)) 8)) ≤ (w64 (x3 - r9.1)))) r9.2.1)))))) else (if (decide (0 < x2)) = true then (if 0 ≤ (w64 (x2 - 1)) ∧ (w64 (x2 - 1)) < (r30.length : Int) then (if 0 ≤ r3.1 ∧ r3.1 < (r30.length : Int) then ((Q4.f (gt r30 (w64 (x2 - 1))) (gt r30 r3.1)).bind fun r13 => (if (!r13) = true then ((Q59.f k r30 x2 x3 r3.1).bind fun r14 => (Q61.l0 k r14.2 r14.1 x3 (w64 (x4 - 1)) x5 x6)) else ((Q60.f k r30 x2 x3 r3.1).bind fun r15 => (if (decide ((w64 (r15.1 - x2)) < (w64 (x3 - r15.1)))) = true then ((Q61.f k r15.2.2 x2 r15.1 (w64 (x4 - 1))).bind fun r16 => (Q61.l0 k r16 (w64 (r15.1 + 1)) x3 (w64 (x4 - 1)) (decide ((w64 (Int.tdiv (w64 (x3 - x2)) 8)) ≤ (w64 (r15.1 - x2)))) r15.2.1)) else ((Q61.f k r15.2.2 (w64 (r15.1 + 1)) x3 (w64 (x4 - 1))).bind fun r17 => (Q61.l0 k r17 x2 r15.1 (w64 (x4 - 1)) (decide ((w64 (Int.tdiv (w64 (x3 - x2)) 8)) ≤ (w64 (x3 - r15.1)))) r15.2.1)))))) else none) else none) else ((Q60.f k r30 x2 x3 r3.1).bind fun r18 => (if (decide ((w64 (r18.1 - x2)) < (w64 (x3 - r18.1)))) = true then ((Q61.f k r18.2.2 x2 r18.1 (w64 (x4 - 1))).bind fun r19 => (Q61.l0 k r19 (w64 (r18.1 + 1)) x3 (w64 (x4 - 1)) (decide ((w64 (Int.tdiv (w64 (x3 - x2)) 8)) ≤ (w64 (r18.1 - x2)))) r18.2.1)) else ((Q61.f k r18.2.2 (w64 (r18.1 + 1)) x3 (w64 (x4 - 1))).bind fun r20 => (Q61.l0 k r20 x2 r18.1 (w64 (x4 - 1)) (decide ((w64 (Int.tdiv (w64 (x3 - x2)) 8)) ≤ (w64 (x3 - r18.1)))) r18.2.1)))))) else (if (decide (0 < x2)) = true then (if 0 ≤ (w64 (x2 - 1)) ∧ (w64 (x2 - 1)) < (r30.length : Int) then (if 0 ≤ r3.1 ∧ r3.1 < (r30.length : Int) then ((Q4.f (gt r30 (w64 (x2 - 1))) (gt r30 r3.1)).bind fun r21 => (if (!r21) = true then ((Q59.f k r30 x2 x3 r3.1).bind fun r22 => (Q61.l0 k r22.2 r22.1 x3 (w64 (x4 - 1)) x5 x6)) else ((Q60.f k r30 x2 x3 r3.1).bind fun r23 => (if (decide ((w64 (r23.1 - x2)) < (w64 (x3 - r23.1)))) = true then ((Q61.f k r23.2.2 x2 r23.1 (w64 (x4 - 1))).bind fun r24 => (Q61.l0 k r24 (w64 (r23.1 + 1)) x3 (w64 (x4 - 1)) (decide ((w64 (Int.tdiv (w64 (x3 - x2)) 8)) ≤ (w64 (r23.1 - x2)))) r23.2.1)) else ((Q61.f k r23.2.2 (w64 (r23.1 + 1)) x3 (w64 (x4 - 1))).bind fun r25 => (Q61.l0 k r25 x2 r23.1 (w64 (x4 - 1)) (decide ((w64 (Int.tdiv (w64 (x3 - x2)) 8)) ≤ (w64 (x3 - r23.1)))) r23.2.1)))))) else none) else none) else ((Q60.f k r30 x2 x3 r3.1).bind fun r26 => (if (decide ((w64 (r26.1 - x2)) < (w64 (x3 - r26.1)))) = true then ((Q61.f k r26.2.2 x2 r26.1 (w64 (x4 - 1))).bind fun r27 => (Q61.l0 k r27 (w64 (r26.1 + 1)) x3 (w64 (x4 - 1)) (decide ((w64 (Int.tdiv (w64 (x3 - x2)) 8)) ≤ (w64 (r26.1 - x2)))) r26.2.1)) else ((Q61.f k r26.2.2 (w64 (r26.1 + 1)) x3 (w64 (x4 - 1))).bind fun r28 => (Q61.l0 k r28 x2 r26.1 (w64 (x4 - 1)) (decide ((w64 (Int.tdiv (w64 (x3 - x2)) 8)) ≤ (w64 (x3 - r26.1)))) r26.2.1))))))))) else ((Q51.f x1 x2 x3).bind fun r3 => (if (decide (r3.2 = 2)) = true then ((Q62.f k x1 x2 x3).bind fun r29 => (if x5 = true then (if x6 = true then (if (decide (1 = 1)) = true then ((Q58.f k r29 x2 x3).bind fun r12 => (if r12.1 = true then (some r12.2) else (if (decide (0 < x2)) = true then (if 0 ≤ (w64 (x2 - 1)) ∧ (w64 (x2 - 1)) < (r12.2.length : Int) then (if 0 ≤ (w64 ((w64 (x3 - 1)) - (w64 (r3.1 - x2)))) ∧ (w64 ((w64 (x3 - 1)) - (w64 (r3.1 - x2)))) < (r12.2.length : Int) then ((Q4.f (gt r12.2 (w64 (x2 - 1))) (gt r12.2 (w64 ((w64 (x3 - 1)) - (w64 (r3.1 - x2)))))).bind fun r4 => (if (!r4) = true then ((Q59.f k r12.2 x2 x3 (w64 ((w64 (x3 - 1)) - (w64 (r3.1 - x2))))).bind fun r5 => (Q61.l0 k r5.2 r5.1 x3 x4 x5 x6)) else ((Q60.f k r12.2 x2 x3 (w64 ((w64 (x3 - 1)) - (w64 (r3.1 - x2))))).bind fun r6 => (if (decide ((w64 (r6.1 - x2)) < (w64 (x3 - r6.1)))) = true then ((Q61.f k r6.2.2 x2 r6.1 x4).bind fun r7 => (Q61.l0 k r7 (w64 (r6.1 + 1)) x3 x4 (decide ((w64 (Int.tdiv (w64 (x3 - x2)) 8)) ≤ (w64 (r6.1 - x2)))) r6.2.1)) else ((Q61.f k r6.2.2 (w64 (r6.1 + 1)) x3 x4).bind fun r8 => (Q61.l0 k r8 x2 r6.1 x4 (decide ((w64 (Int.tdiv (w64 (x3 - x2)) 8)) ≤ (w64 (x3 - r6.1)))) r6.2.1)))))) else none) else none) else ((Q60.f k r12.2 x2 x3 (w64 ((w64 (x3 - 1)) - (w64 (r3.1 - x2))))).bind fun r9 => (if (decide ((w64 (r9.1 - x2)) < (w64 (x3 - r9.1)))) = true then ((Q61.f k r9.2.2 x2 r9.1 x4).bind fun r10 => (Q61.l0 k r10 (w64 (r9.1 + 1)) x3 x4 (decide ((w64 (Int.tdiv (w64 (x3 - x2)) 8)) ≤ (w64 (r9.1 - x2)))) r9.2.1)) else ((Q61.f k r9.2.2 (w64 (r9.1 + 1)) x3 x4).bind fun r11 => (Q61.l0 k r11 x2 r9.1 x4 (decide ((w64 (Int.tdiv (w64 (x3 - x2)) 8)) ≤ (w64 (x3 - r9.1)))) r9.2.1))))))) else (if (decide (0 < x2)) = true then (if 0 ≤ (w64 (x2 - 1)) ∧ (w64 (x2 - 1)) < (r29.length : Int) then (if 0 ≤ (w64 ((w64 (x3 - 1)) - (w64 (r3.1 - x2)))) ∧ (w64 ((w64 (x3 - 1)) - (w64 (r3.1 - x2)))) < (r29.length : Int) then ((Q4.f (gt r29 (w64 (x2 - 1))) (gt r29 (w64 ((w64 (x3 - 1)) - (w64 (r3.1 - x2)))))).bind fun r4 => (if (!r4) = true then ((Q59.f k r29 x2 x3 (w64 ((w64 (x3 - 1)) - (w64 (r3.1 - x2))))).bind fun r5 => (Q61.l0 k r5.2 r5.1 x3 x4 x5 x6)) else ((Q60.f k r29 x2 x3 (w64 ((w64 (x3 - 1)) - (w64 (r3.1 - x2))))).bind fun r6 => (if (decide ((w64 (r6.1 - x2)) < (w64 (x3 - r6.1)))) = true then ((Q61.f k r6.2.2 x2 r6.1 x4).bind fun r7 => (Q61.l0 k r7 (w64 (r6.1 + 1)) x3 x4 (decide ((w64 (Int.tdiv (w64 (x3 - x2)) 8)) ≤ (w64 (r6.1 - x2)))) r6.2.1)) else ((Q61.f k r6.2.2 (w64 (r6.1 + 1)) x3 x4).bind fun r8 => (Q61.l0 k r8 x2 r6.1 x4 (decide ((w64 (Int.tdiv (w64 (x3 - x2)) 8)) ≤ (w64 (x3 - r6.1)))) r6.2.1)))))) else none) else none) else ((Q60.f k r29 x2 x3 (w64 ((w64 (x3 - 1)) - (w64 (r3.1 - x2))))).bind fun r9 => (if (decide ((w64 (r9.1 - x2)) < (w64 (x3 - r9.1)))) = true then ((Q61.f k r9.2.2 x2 r9.1 x4).bind fun r10 => (Q61.l0 k r10 (w64 (r9.1 + 1)) x3 x4 (decide ((w64 (Int.tdiv (w64 (x3 - x2)) 8)) ≤ (w64 (r9.1 - x2)))) r9.2.1)) else ((Q61.f k r9.2.2 (w64 (r9.1 + 1)) x3 x4).bind fun r11 => (Q61.l0 k r11 x2 r9.1 x4 (decide ((w64 (Int.tdiv (w64 (x3 - x2)) 8)) ≤ (w64 (x3 - r9.1)))) r9.2.1)))))) else (if (decide (0 < x2)) = true then (if 0 ≤ (w64 (x2 - 1)) ∧ (w64 (x2 - 1)) < (r29.length : Int) then (if 0 ≤ (w64 ((w64 (x3 - 1)) - (w64 (r3.1 - x2)))) ∧ (w64 ((w64 (x3 - 1)) - (w64 (r3.1 - x2)))) < (r29.length : Int) then ((Q4.f (gt r29 (w64 (x2 - 1))) (gt r29 (w64 ((w64 (x3 - 1)) - (w64 (r3.1 - x2)))))).bind fun r13 => (if (!r13) = true then ((Q59.f k r29 x2 x3 (w64 ((w64 (x3 - 1)) - (w64 (r3.1 - x2))))).bind fun r14 => (Q61.l0 k r14.2 r14.1 x3 x4 x5 x6)) else ((Q60.f k r29 x2 x3 (w64 ((w64 (x3 - 1)) - (w64 (r3.1 - x2))))).bind fun r15 => (if (decide ((w64 (r15.1 - x2)) < (w64 (x3 - r15.1)))) = true then ((Q61.f k r15.2.2 x2 r15.1 x4).bind fun r16 => (Q61.l0 k r16 (w64 (r15.1 + 1)) x3 x4 (decide ((w64 (Int.tdiv (w64 (x3 - x2)) 8)) ≤ (w64 (r15.1 - x2)))) r15.2.1)) else ((Q61.f k r15.2.2 (w64 (r15.1 + 1)) x3 x4).bind fun r17 => (Q61.l0 k r17 x2 r15.1 x4 (decide ((w64 (Int.tdiv (w64 (x3 - x2)) 8)) ≤ (w64 (x3 - r15.1)))) r15.2.1)))))) else none) else none) else ((Q60.f k r29 x2 x3 (w64 ((w64 (x3 - 1)) - (w64 (r3.1 - x2))))).bind fun r18 => (if (decide ((w64 (r18.1 - x2)) < (w64 (x3 - r18.1)))) = true then ((Q61.f k r18.2.2 x2 r18.1 x4).bind fun r19 => (Q61.l0 k r19 (w64 (r18.1 + 1)) x3 x4 (decide ((w64 (Int.tdiv (w64 (x3 - x2)) 8)) ≤ (w64 (r18.1 - x2)))) r18.2.1)) else ((Q61.f k r18.2.2 (w64 (r18.1 + 1)) x3 x4).bind fun r20 => (Q61.l0 k r20 x2 r18.1 x4 (decide ((w64 (Int.tdiv (w64 (x3 - x2)) 8)) ≤ (w64 (x3 - r18.1)))) r18.2.1)))))) else (if (decide (0 < x2)) = true then (if 0 ≤ (w64 (x2 - 1)) ∧ (w64 (x2 - 1)) < (r29.length : Int) then (if 0 ≤ (w64 ((w64 (x3 - 1)) - (w64 (r3.1 - x2)))) ∧ (w64 ((w64 (x3 - 1)) - (w64 (r3.1 - x2)))) < (r29.length : Int) then ((Q4.f (gt r29 (w64 (x2 - 1))) (gt r29 (w64 ((w64 (x3 - 1)) - (w64 (r3.1 - x2)))))).bind fun r21 => (if (!r21) = true then ((Q59.f k r29 x2 x3 (w64 ((w64 (x3 - 1)) - (w64 (r3.1 - x2))))).bind fun r22 => (Q61.l0 k r22.2 r22.1 x3 x4 x5 x6)) else ((Q60.f k r29 x2 x3 (w64 ((w64 (x3 - 1)) - (w64 (r3.1 - x2))))).bind fun r23 => (if (decide ((w64 (r23.1 - x2)) < (w64 (x3 - r23.1)))) = true then ((Q61.f k r23.2.2 x2 r23.1 x4).bind fun r24 => (Q61.l0 k r24 (w64 (r23.1 + 1)) x3 x4 (decide ((w64 (Int.tdiv (w64 (x3 - x2)) 8)) ≤ (w64 (r23.1 - x2)))) r23.2.1)) else ((Q61.f k r23.2.2 (w64 (r23.1 + 1)) x3 x4).bind fun r25 => (Q61.l0 k r25 x2 r23.1 x4 (decide ((w64 (Int.tdiv (w64 (x3 - x2)) 8)) ≤ (w64 (x3 - r23.1)))) r23.2.1)))))) else none) else none) else ((Q60.f k r29 x2 x3 (w64 ((w64 (x3 - 1)) - (w64 (r3.1 - x2))))).bind fun r26 => (if (decide ((w64 (r26.1 - x2)) < (w64 (x3 - r26.1)))) = true then ((Q61.f k r26.2.2 x2 r26.1 x4).bind fun r27 => (Q61.l0 k r27 (w64 (r26.1 + 1)) x3 x4 (decide ((w64 (Int.tdiv (w64 (x3 - x2)) 8)) ≤ (w64 (r26.1 - x2)))) r26.2.1)) else ((Q61.f k r26.2.2 (w64 (r26.1 + 1)) x3 x4).bind fun r28 => (Q61.l0 k r28 x2 r26.1 x4 (decide ((w64 (Int.tdiv (w64 (x3 - x2)) 8)) ≤ (w64 (x3 - r26.1)))) r26.2.1))))))) else (if x5 = true then (if x6 = true then (if (decide (r3.2 = 1)) = true then ((Q58.f k x1 x2 x3).bind fun r12 => (if r12.1 = true then (some r12.2) else (if (decide (0 < x2)) = true then (if 0 ≤ (w64 (x2 - 1)) ∧ (w64 (x2 - 1)) < (r12.2.length : Int) then (if 0 ≤ r3.1 ∧ r3.1 < (r12.2.length : Int) then ((Q4.f (gt r12.2 (w64 (x2 - 1))) (gt r12.2 r3.1)).bind fun r4 => (if (!r4) = true then ((Q59.f k r12.2 x2 x3 r3.1).bind fun r5 => (Q61.l0 k r5.2 r5.1 x3 x4 x5 x6)) else ((Q60.f k r12.2 x2 x3 r3.1).bind fun r6 => (if (decide ((w64 (r6.1 - x2)) < (w64 (x3 - r6.1)))) = true then ((Q61.f k r6.2.2 x2 r6.1 x4).bind fun r7 => (Q61.l0 k r7 (w64 (r6.1 + 1)) x3 x4 (decide ((w64 (Int.tdiv (w64 (x3 - x2)) 8)) ≤ (w64 (r6.1 - x2)))) r6.2.1)) else ((Q61.f k r6.2.2 (w64 (r6.1 + 1)) x3 x4).bind fun r8 => (Q61.l0 k r8 x2 r6.1 x4 (decide ((w64 (Int.tdiv (w64 (x3 - x2)) 8)) ≤ (w64 (x3 - r6.1)))) r6.2.1)))))) else none) else none) else ((Q60.f k r12.2 x2 x3 r3.1).bind fun r9 => (if (decide ((w64 (r9.1 - x2)) < (w64 (x3 - r9.1)))) = true then ((Q61.f k r9.2.2 x2 r9.1 x4).bind fun r10 => (Q61.l0 k r10 (w64 (r9.1 + 1)) x3 x4 (decide ((w64 (Int.tdiv (w64 (x3 - x2)) 8)) ≤ (w64 (r9.1 - x2)))) r9.2.1)) else ((Q61.f k r9.2.2 (w64 (r9.1 + 1)) x3 x4).bind fun r11 => (Q61.l0 k r11 x2 r9.1 x4 (decide ((w64 (Int.tdiv (w64 (x3 - x2)) 8)) ≤ (w64 (x3 - r9.1)))) r9.2.1))))))) else (if (decide (0 < x2)) = true then (if 0 ≤ (w64 (x2 - 1)) ∧ (w64 (x2 - 1)) < (x1.length : Int) then (if 0 ≤ r3.1 ∧ r3.1 < (x1.length : Int) then ((Q4.f (gt x1 (w64 (x2 - 1))) (gt x1 r3.1)).bind fun r4 => (if (!r4) = true then ((Q59.f k x1 x2 x3 r3.1).bind fun r5 => (Q61.l0 k r5.2 r5.1 x3 x4 x5 x6)) else ((Q60.f k x1 x2 x3 r3.1).bind fun r6 => (if (decide ((w64 (r6.1 - x2)) < (w64 (x3 - r6.1)))) = true then ((Q61.f k r6.2.2 x2 r6.1 x4).bind fun r7 => (Q61.l0 k r7 (w64 (r6.1 + 1)) x3 x4 (decide ((w64 (Int.tdiv (w64 (x3 - x2)) 8)) ≤ (w64 (r6.1 - x2)))) r6.2.1)) else ((Q61.f k r6.2.2 (w64 (r6.1 + 1)) x3 x4).bind fun r8 => (Q61.l0 k r8 x2 r6.1 x4 (decide ((w64 (Int.tdiv (w64 (x3 - x2)) 8)) ≤ (w64 (x3 - r6.1)))) r6.2.1)))))) else none) else none) else ((Q60.f k x1 x2 x3 r3.1).bind fun r9 => (if (decide ((w64 (r9.1 - x2)) < (w64 (x3 - r9.1)))) = true then ((Q61.f k r9.2.2 x2 r9.1 x4).bind fun r10 => (Q61.l0 k r10 (w64 (r9.1 + 1)) x3 x4 (decide ((w64 (Int.tdiv (w64 (x3 - x2)) 8)) ≤ (w64 (r9.1 - x2)))) r9.2.1)) else ((Q61.f k r9.2.2 (w64 (r9.1 + 1)) x3 x4).bind fun r11 => (Q61.l0 k r11 x2 r9.1 x4 (decide ((w64 (Int.tdiv (w64 (x3 - x2)) 8)) ≤ (w64 (x3 - r9.1)))) r9.2.1)))))) else (if (decide (0 < x2)) = true then (if 0 ≤ (w64 (x2 - 1)) ∧ (w64 (x2 - 1)) < (x1.length : Int) then (if 0 ≤ r3.1 ∧ r3.1 < (x1.length : Int) then ((Q4.f (gt x1 (w64 (x2 - 1))) (gt x1 r3.1)).bind fun r13 => (if (!r13) = true then ((Q59.f k x1 x2 x3 r3.1).bind fun r14 => (Q61.l0 k r14.2 r14.1 x3 x4 x5 x6)) else ((Q60.f k x1 x2 x3 r3.1).bind fun r15 => (if (decide ((w64 (r15.1 - x2)) < (w64 (x3 - r15.1)))) = true then ((Q61.f k r15.2.2 x2 r15.1 x4).bind fun r16 => (Q61.l0 k r16 (w64 (r15.1 + 1)) x3 x4 (decide ((w64 (Int.tdiv (w64 (x3 - x2)) 8)) ≤ (w64 (r15.1 - x2)))) r15.2.1)) else ((Q61.f k r15.2.2 (w64 (r15.1 + 1)) x3 x4).bind fun r17 => (Q61.l0 k r17 x2 r15.1 x4 (decide ((w64 (Int.tdiv (w64 (x3 - x2)) 8)) ≤ (w64 (x3 - r15.1)))) r15.2.1)))))) else none) else none) else ((Q60.f k x1 x2 x3 r3.1).bind fun r18 => (if (decide ((w64 (r18.1 - x2)) < (w64 (x3 - r18.1)))) = true then ((Q61.f k r18.2.2 x2 r18.1 x4).bind fun r19 => (Q61.l0 k r19 (w64 (r18.1 + 1)) x3 x4 (decide ((w64 (Int.tdiv (w64 (x3 - x2)) 8)) ≤ (w64 (r18.1 - x2)))) r18.2.1)) else ((Q61.f k r18.2.2 (w64 (r18.1 + 1)) x3 x4).bind fun r20 => (Q61.l0 k r20 x2 r18.1 x4 (decide ((w64 (Int.tdiv (w64 (x3 - x2)) 8)) ≤ (w64 (x3 - r18.1)))) r18.2.1)))))) else (if (decide (0 < x2)) = true then (if 0 ≤ (w64 (x2 - 1)) ∧ (w64 (x2 - 1)) < (x1.length : Int) then (if 0 ≤ r3.1 ∧ r3.1 < (x1.length : Int) then ((Q4.f (gt x1 (w64 (x2 - 1))) (gt x1 r3.1)).bind fun r21 => (if (!r21) = true then ((Q59.f k x1 x2 x3 r3.1).bind fun r22 => (Q61.l0 k r22.2 r22.1 x3 x4 x5 x6)) else ((Q60.f k x1 x2 x3 r3.1).bind fun r23 => (if (decide ((w64 (r23.1 - x2)) < (w64 (x3 - r23.1)))) = true then ((Q61.f k r23.2.2 x2 r23.1 x4).bind fun r24 => (Q61.l0 k r24 (w64 (r23.1 + 1)) x3 x4 (decide ((w64 (Int.tdiv (w64 (x3 - x2)) 8)) ≤ (w64 (r23.1 - x2)))) r23.2.1)) else ((Q61.f k r23.2.2 (w64 (r23.1 + 1)) x3 x4).bind fun r25 => (Q61.l0 k r25 x2 r23.1 x4 (decide ((w64 (Int.tdiv (w64 (x3 - x2)) 8)) ≤ (w64 (x3 - r23.1)))) r23.2.1)))))) else none) else none) else ((Q60.f k x1 x2 x3 r3.1).bind fun r26 => (if (decide ((w64 (r26.1 - x2)) < (w64 (x3 - r26.1)))) = true then ((Q61.f k r26.2.2 x2 r26.1 x4).bind fun r27 => (Q61.l0 k r27 (w64 (r26.1 + 1)) x3 x4 (decide ((w64 (Int.tdiv (w64 (x3 - x2)) 8)) ≤ (w64 (r26.1 - x2)))) r26.2.1)) else ((Q61.f k r26.2.2 (w64 (r26.1 + 1)) x3 x4).bind fun r28 => (Q61.l0 k r28 x2 r26.1 x4 (decide ((w64 (Int.tdiv (w64 (x3 - x2)) 8)) ≤ (w64 (x3 - r26.1)))) r26.2.1))))))))))
def Q61.f : Nat → (List (Int)) → (Int) → (Int) → (Int) → Option (List (Int))
 | 0, _, _, _, _ => none
 | k + 1, a0, a1, a2, a3 => Q61.l0 k a0 a1 a2 a3 true true
end
theorem Q61.spec : ∀ {k : Nat} {a0 : List (Int)} {a1 : Int} {a2 : Int} {a3 : Int} {A1 : Option Addr} {c_1 : Nat} {r : List (Int)}, Q61.f k a0 a1 a2 a3 = some r →
  Spec Tryz.prog 97 [.slice A1 a0.length c_1, .int .i64 a1, .int .i64 a2, .int .i64 a3] [Zf 70 (.int .u32) a0 (.slice A1 a0.length c_1)] [] (fun v l => v = .tuple #[] ∧ l = [Zf 70 (.int .u32) r (.slice A1 r.length c_1)] ∧ r.length = a0.length) := by
 intro k
 induction k using Nat.strongRecOn with
 | _ k ih =>
 intro a0 a1 a2 a3 A1 c_1 r H
 cases k with
 | zero => rw [Q61.f] at H; cases H
 | succ kr =>
 refine Spec.enter Tryz.func97 rfl (by kernel_rfl) (by kernel_rfl) fun w0 F0 h0 => ?_
 rw [Q61.f] at H
 refine J.seq (J.region ?_)
 refine RJ.run Za 1 rfl (RJ.fin [(0, .slice A1 a0.length c_1), (1, .int .i64 a1), (2, .int .i64 a2), (3, .int .i64 a3), (8, .bool true)] rfl (J.seq (J.region ?_)))
 refine RJ.run Za 1 rfl (RJ.fin [(0, _), (1, _), (2, _), (3, _), (8, _), (9, .bool true)] rfl (J.block ?_))
 have h59 := ((h0.only [0] rfl).rds [] rfl)
 refine J.loop (fun kk env w => ∃ (x1 : List (Int)) (x2 : Int) (x3 : Int) (x4 : Int) (x5 : Bool) (x6 : Bool), env = [(0, .slice A1 x1.length c_1), (1, .int .i64 x2), (2, .int .i64 x3), (3, .int .i64 x4), (8, .bool x5), (9, .bool x6)] ∧ St w0 F0 [Zf 70 (.int .u32) x1 (.slice A1 x1.length c_1)] [] w ∧ Q61.l0 kk x1 x2 x3 x4 x5 x6 = some r ∧ kk ≤ kr ∧ x1.length = a0.length) (k := kr) ⟨a0, a1, a2, a3, true, true, rfl, h59, H, Nat.le_refl _, (rfl : a0.length = a0.length)⟩ ?_
 rintro k1 env w1 ⟨x1, x2, x3, x4, x5, x6, rfl, h1, H, hk1, e1⟩
 cases k1 with
 | zero => exact nomatch (show none = some r from H)
 | succ k1 =>
  rw [Q61.l0] at H
  refine J.block (J.seq (J.region ?_))
  refine RJ.run Za 4 rfl (RJ.fin [(0, _), (1, _), (2, _), (3, _), (8, _), (9, _), (10, .int .i64 (w64 (x3 - x2)))] rfl (J.seq (J.seq (J.region ?_))))
  refine RJ.run Za 2 rfl (RJ.fin [(0, _), (1, _), (2, _), (3, _), (8, _), (9, _), (10, _), (23, .bool (decide ((w64 (x3 - x2)) ≤ 12)))] rfl (J.cond rfl (fun c1 => ?_) (fun c1 => ?_)))
  ·replace H := Zi c1 H
   refine J.seq (J.region ?_)
   refine RJ.run Za 3 rfl ?_
   obtain ⟨r1, q1, H⟩ := Zj H
   refine RJ.op rfl rfl (Zd [0] (Q53.spec q1) rfl rfl rfl h1 rfl Zm) ?_
   rintro _ w2 ⟨_, ⟨rfl, rfl, q2⟩, h2⟩
   replace h2 : St w0 F0 [Zf 70 (.int .u32) r1 (.slice A1 r1.length c_1)] _ _ := h2
   have e2 : r1.length = a0.length := q2.trans e1
   refine RJ.fin [] rfl (J.ret ?_)
   obtain rfl := Option.some.inj H
   exact ⟨_, _, _, (Zb rfl), ⟨rfl, rfl, e2⟩, h2.only [0] rfl⟩
  replace H := Zg c1 H
  refine J.skip (J.seq (J.seq (J.region ?_)))
  refine RJ.run Za 2 rfl (RJ.fin [(0, _), (1, _), (2, _), (3, _), (8, _), (9, _), (10, _), (29, .bool (decide (x4 = 0)))] rfl (J.cond rfl (fun c2 => ?_) (fun c2 => ?_)))
  ·replace H := Zi c2 H
   refine J.seq (J.region ?_)
   refine RJ.run Za 3 rfl ?_
   obtain ⟨r2, q3, H⟩ := Zj H
   refine RJ.op rfl rfl (Zd [0] (Q52.spec q3) rfl rfl rfl h1 rfl Zm) ?_
   rintro _ w3 ⟨_, ⟨rfl, rfl, q4⟩, h3⟩
   replace h3 : St w0 F0 [Zf 70 (.int .u32) r2 (.slice A1 r2.length c_1)] _ _ := h3
   have e3 : r2.length = a0.length := q4.trans e1
   refine RJ.fin [] rfl (J.ret ?_)
   obtain rfl := Option.some.inj H
   exact ⟨_, _, _, (Zb rfl), ⟨rfl, rfl, e3⟩, h3.only [0] rfl⟩
  replace H := Zg c2 H
  refine J.skip (J.seq (J.seq (J.region ?_)))
  refine RJ.run Za 2 rfl (RJ.fin [(0, _), (1, _), (2, _), (3, _), (8, _), (9, _), (10, _), (35, .bool (!x5))] rfl (J.midS (fun env w => ∃ (k2 : Nat) (x7 : List (Int)) (x8 : Int), env = [(0, .slice A1 x7.length c_1), (1, .int .i64 x2), (2, .int .i64 x3), (3, .int .i64 x8), (8, .bool x5), (9, .bool x6), (10, .int .i64 (w64 (x3 - x2)))] ∧ St w0 F0 [Zf 70 (.int .u32) x7 (.slice A1 x7.length c_1)] [] w ∧ ((Q51.f x7 x2 x3).bind fun r3 => (if (decide (r3.2 = 2)) = true then ((Q62.f k2 x7 x2 x3).bind fun r29 => (if x5 = true then (if x6 = true then (if (decide (1 = 1)) = true then ((Q58.f k2 r29 x2 x3).bind fun r12 => (if r12.1 = true then (some r12.2) else (if (decide (0 < x2)) = true then (if 0 ≤ (w64 (x2 - 1)) ∧ (w64 (x2 - 1)) < (r12.2.length : Int) then (if 0 ≤ (w64 ((w64 (x3 - 1)) - (w64 (r3.1 - x2)))) ∧ (w64 ((w64 (x3 - 1)) - (w64 (r3.1 - x2)))) < (r12.2.length : Int) then ((Q4.f (gt r12.2 (w64 (x2 - 1))) (gt r12.2 (w64 ((w64 (x3 - 1)) - (w64 (r3.1 - x2)))))).bind fun r4 => (if (!r4) = true then ((Q59.f k2 r12.2 x2 x3 (w64 ((w64 (x3 - 1)) - (w64 (r3.1 - x2))))).bind fun r5 => (Q61.l0 k2 r5.2 r5.1 x3 x8 x5 x6)) else ((Q60.f k2 r12.2 x2 x3 (w64 ((w64 (x3 - 1)) - (w64 (r3.1 - x2))))).bind fun r6 => (if (decide ((w64 (r6.1 - x2)) < (w64 (x3 - r6.1)))) = true then ((Q61.f k2 r6.2.2 x2 r6.1 x8).bind fun r7 => (Q61.l0 k2 r7 (w64 (r6.1 + 1)) x3 x8 (decide ((w64 (Int.tdiv (w64 (x3 - x2)) 8)) ≤ (w64 (r6.1 - x2)))) r6.2.1)) else ((Q61.f k2 r6.2.2 (w64 (r6.1 + 1)) x3 x8).bind fun r8 => (Q61.l0 k2 r8 x2 r6.1 x8 (decide ((w64 (Int.tdiv (w64 (x3 - x2)) 8)) ≤ (w64 (x3 - r6.1)))) r6.2.1)))))) else none) else none) else ((Q60.f k2 r12.2 x2 x3 (w64 ((w64 (x3 - 1)) - (w64 (r3.1 - x2))))).bind fun r9 => (if (decide ((w64 (r9.1 - x2)) < (w64 (x3 - r9.1)))) = true then ((Q61.f k2 r9.2.2 x2 r9.1 x8).bind fun r10 => (Q61.l0 k2 r10 (w64 (r9.1 + 1)) x3 x8 (decide ((w64 (Int.tdiv (w64 (x3 - x2)) 8)) ≤ (w64 (r9.1 - x2)))) r9.2.1)) else ((Q61.f k2 r9.2.2 (w64 (r9.1 + 1)) x3 x8).bind fun r11 => (Q61.l0 k2 r11 x2 r9.1 x8 (decide ((w64 (Int.tdiv (w64 (x3 - x2)) 8)) ≤ (w64 (x3 - r9.1)))) r9.2.1))))))) else (if (decide (0 < x2)) = true then (if 0 ≤ (w64 (x2 - 1)) ∧ (w64 (x2 - 1)) < (r29.length : Int) then (if 0 ≤ (w64 ((w64 (x3 - 1)) - (w64 (r3.1 - x2)))) ∧ (w64 ((w64 (x3 - 1)) - (w64 (r3.1 - x2)))) < (r29.length : Int) then ((Q4.f (gt r29 (w64 (x2 - 1))) (gt r29 (w64 ((w64 (x3 - 1)) - (w64 (r3.1 - x2)))))).bind fun r4 => (if (!r4) = true then ((Q59.f k2 r29 x2 x3 (w64 ((w64 (x3 - 1)) - (w64 (r3.1 - x2))))).bind fun r5 => (Q61.l0 k2 r5.2 r5.1 x3 x8 x5 x6)) else ((Q60.f k2 r29 x2 x3 (w64 ((w64 (x3 - 1)) - (w64 (r3.1 - x2))))).bind fun r6 => (if (decide ((w64 (r6.1 - x2)) < (w64 (x3 - r6.1)))) = true then ((Q61.f k2 r6.2.2 x2 r6.1 x8).bind fun r7 => (Q61.l0 k2 r7 (w64 (r6.1 + 1)) x3 x8 (decide ((w64 (Int.tdiv (w64 (x3 - x2)) 8)) ≤ (w64 (r6.1 - x2)))) r6.2.1)) else ((Q61.f k2 r6.2.2 (w64 (r6.1 + 1)) x3 x8).bind fun r8 => (Q61.l0 k2 r8 x2 r6.1 x8 (decide ((w64 (Int.tdiv (w64 (x3 - x2)) 8)) ≤ (w64 (x3 - r6.1)))) r6.2.1)))))) else none) else none) else ((Q60.f k2 r29 x2 x3 (w64 ((w64 (x3 - 1)) - (w64 (r3.1 - x2))))).bind fun r9 => (if (decide ((w64 (r9.1 - x2)) < (w64 (x3 - r9.1)))) = true then ((Q61.f k2 r9.2.2 x2 r9.1 x8).bind fun r10 => (Q61.l0 k2 r10 (w64 (r9.1 + 1)) x3 x8 (decide ((w64 (Int.tdiv (w64 (x3 - x2)) 8)) ≤ (w64 (r9.1 - x2)))) r9.2.1)) else ((Q61.f k2 r9.2.2 (w64 (r9.1 + 1)) x3 x8).bind fun r11 => (Q61.l0 k2 r11 x2 r9.1 x8 (decide ((w64 (Int.tdiv (w64 (x3 - x2)) 8)) ≤ (w64 (x3 - r9.1)))) r9.2.1)))))) else (if (decide (0 < x2)) = true then (if 0 ≤ (w64 (x2 - 1)) ∧ (w64 (x2 - 1)) < (r29.length : Int) then (if 0 ≤ (w64 ((w64 (x3 - 1)) - (w64 (r3.1 - x2)))) ∧ (w64 ((w64 (x3 - 1)) - (w64 (r3.1 - x2)))) < (r29.length : Int) then ((Q4.f (gt r29 (w64 (x2 - 1))) (gt r29 (w64 ((w64 (x3 - 1)) - (w64 (r3.1 - x2)))))).bind fun r13 => (if (!r13) = true then ((Q59.f k2 r29 x2 x3 (w64 ((w64 (x3 - 1)) - (w64 (r3.1 - x2))))).bind fun r14 => (Q61.l0 k2 r14.2 r14.1 x3 x8 x5 x6)) else ((Q60.f k2 r29 x2 x3 (w64 ((w64 (x3 - 1)) - (w64 (r3.1 - x2))))).bind fun r15 => (if (decide ((w64 (r15.1 - x2)) < (w64 (x3 - r15.1)))) = true then ((Q61.f k2 r15.2.2 x2 r15.1 x8).bind fun r16 => (Q61.l0 k2 r16 (w64 (r15.1 + 1)) x3 x8 (decide ((w64 (Int.tdiv (w64 (x3 - x2)) 8)) ≤ (w64 (r15.1 - x2)))) r15.2.1)) else ((Q61.f k2 r15.2.2 (w64 (r15.1 + 1)) x3 x8).bind fun r17 => (Q61.l0 k2 r17 x2 r15.1 x8 (decide ((w64 (Int.tdiv (w64 (x3 - x2)) 8)) ≤ (w64 (x3 - r15.1)))) r15.2.1)))))) else none) else none) else ((Q60.f k2 r29 x2 x3 (w64 ((w64 (x3 - 1)) - (w64 (r3.1 - x2))))).bind fun r18 => (if (decide ((w64 (r18.1 - x2)) < (w64 (x3 - r18.1)))) = true then ((Q61.f k2 r18.2.2 x2 r18.1 x8).bind fun r19 => (Q61.l0 k2 r19 (w64 (r18.1 + 1)) x3 x8 (decide ((w64 (Int.tdiv (w64 (x3 - x2)) 8)) ≤ (w64 (r18.1 - x2)))) r18.2.1)) else ((Q61.f k2 r18.2.2 (w64 (r18.1 + 1)) x3 x8).bind fun r20 => (Q61.l0 k2 r20 x2 r18.1 x8 (decide ((w64 (Int.tdiv (w64 (x3 - x2)) 8)) ≤ (w64 (x3 - r18.1)))) r18.2.1)))))) else (if (decide (0 < x2)) = true then (if 0 ≤ (w64 (x2 - 1)) ∧ (w64 (x2 - 1)) < (r29.length : Int) then (if 0 ≤ (w64 ((w64 (x3 - 1)) - (w64 (r3.1 - x2)))) ∧ (w64 ((w64 (x3 - 1)) - (w64 (r3.1 - x2)))) < (r29.length : Int) then ((Q4.f (gt r29 (w64 (x2 - 1))) (gt r29 (w64 ((w64 (x3 - 1)) - (w64 (r3.1 - x2)))))).bind fun r21 => (if (!r21) = true then ((Q59.f k2 r29 x2 x3 (w64 ((w64 (x3 - 1)) - (w64 (r3.1 - x2))))).bind fun r22 => (Q61.l0 k2 r22.2 r22.1 x3 x8 x5 x6)) else ((Q60.f k2 r29 x2 x3 (w64 ((w64 (x3 - 1)) - (w64 (r3.1 - x2))))).bind fun r23 => (if (decide ((w64 (r23.1 - x2)) < (w64 (x3 - r23.1)))) = true then ((Q61.f k2 r23.2.2 x2 r23.1 x8).bind fun r24 => (Q61.l0 k2 r24 (w64 (r23.1 + 1)) x3 x8 (decide ((w64 (Int.tdiv (w64 (x3 - x2)) 8)) ≤ (w64 (r23.1 - x2)))) r23.2.1)) else ((Q61.f k2 r23.2.2 (w64 (r23.1 + 1)) x3 x8).bind fun r25 => (Q61.l0 k2 r25 x2 r23.1 x8 (decide ((w64 (Int.tdiv (w64 (x3 - x2)) 8)) ≤ (w64 (x3 - r23.1)))) r23.2.1)))))) else none) else none) else ((Q60.f k2 r29 x2 x3 (w64 ((w64 (x3 - 1)) - (w64 (r3.1 - x2))))).bind fun r26 => (if (decide ((w64 (r26.1 - x2)) < (w64 (x3 - r26.1)))) = true then ((Q61.f k2 r26.2.2 x2 r26.1 x8).bind fun r27 => (Q61.l0 k2 r27 (w64 (r26.1 + 1)) x3 x8 (decide ((w64 (Int.tdiv (w64 (x3 - x2)) 8)) ≤ (w64 (r26.1 - x2)))) r26.2.1)) else ((Q61.f k2 r26.2.2 (w64 (r26.1 + 1)) x3 x8).bind fun r28 => (Q61.l0 k2 r28 x2 r26.1 x8 (decide ((w64 (Int.tdiv (w64 (x3 - x2)) 8)) ≤ (w64 (x3 - r26.1)))) r26.2.1))))))) else (if x5 = true then (if x6 = true then (if (decide (r3.2 = 1)) = true then ((Q58.f k2 x7 x2 x3).bind fun r12 => (if r12.1 = true then (some r12.2) else (if (decide (0 < x2)) = true then (if 0 ≤ (w64 (x2 - 1)) ∧ (w64 (x2 - 1)) < (r12.2.length : Int) then (if 0 ≤ r3.1 ∧ r3.1 < (r12.2.length : Int) then ((Q4.f (gt r12.2 (w64 (x2 - 1))) (gt r12.2 r3.1)).bind fun r4 => (if (!r4) = true then ((Q59.f k2 r12.2 x2 x3 r3.1).bind fun r5 => (Q61.l0 k2 r5.2 r5.1 x3 x8 x5 x6)) else ((Q60.f k2 r12.2 x2 x3 r3.1).bind fun r6 => (if (decide ((w64 (r6.1 - x2)) < (w64 (x3 - r6.1)))) = true then ((Q61.f k2 r6.2.2 x2 r6.1 x8).bind fun r7 => (Q61.l0 k2 r7 (w64 (r6.1 + 1)) x3 x8 (decide ((w64 (Int.tdiv (w64 (x3 - x2)) 8)) ≤ (w64 (r6.1 - x2)))) r6.2.1)) else ((Q61.f k2 r6.2.2 (w64 (r6.1 + 1)) x3 x8).bind fun r8 => (Q61.l0 k2 r8 x2 r6.1 x8 (decide ((w64 (Int.tdiv (w64 (x3 - x2)) 8)) ≤ (w64 (x3 - r6.1)))) r6.2.1)))))) else none) else none) else ((Q60.f k2 r12.2 x2 x3 r3.1).bind fun r9 => (if (decide ((w64 (r9.1 - x2)) < (w64 (x3 - r9.1)))) = true then ((Q61.f k2 r9.2.2 x2 r9.1 x8).bind fun r10 => (Q61.l0 k2 r10 (w64 (r9.1 + 1)) x3 x8 (decide ((w64 (Int.tdiv (w64 (x3 - x2)) 8)) ≤ (w64 (r9.1 - x2)))) r9.2.1)) else ((Q61.f k2 r9.2.2 (w64 (r9.1 + 1)) x3 x8).bind fun r11 => (Q61.l0 k2 r11 x2 r9.1 x8 (decide ((w64 (Int.tdiv (w64 (x3 - x2)) 8)) ≤ (w64 (x3 - r9.1)))) r9.2.1))))))) else (if (decide (0 < x2)) = true then (if 0 ≤ (w64 (x2 - 1)) ∧ (w64 (x2 - 1)) < (x7.length : Int) then (if 0 ≤ r3.1 ∧ r3.1 < (x7.length : Int) then ((Q4.f (gt x7 (w64 (x2 - 1))) (gt x7 r3.1)).bind fun r4 => (if (!r4) = true then ((Q59.f k2 x7 x2 x3 r3.1).bind fun r5 => (Q61.l0 k2 r5.2 r5.1 x3 x8 x5 x6)) else ((Q60.f k2 x7 x2 x3 r3.1).bind fun r6 => (if (decide ((w64 (r6.1 - x2)) < (w64 (x3 - r6.1)))) = true then ((Q61.f k2 r6.2.2 x2 r6.1 x8).bind fun r7 => (Q61.l0 k2 r7 (w64 (r6.1 + 1)) x3 x8 (decide ((w64 (Int.tdiv (w64 (x3 - x2)) 8)) ≤ (w64 (r6.1 - x2)))) r6.2.1)) else ((Q61.f k2 r6.2.2 (w64 (r6.1 + 1)) x3 x8).bind fun r8 => (Q61.l0 k2 r8 x2 r6.1 x8 (decide ((w64 (Int.tdiv (w64 (x3 - x2)) 8)) ≤ (w64 (x3 - r6.1)))) r6.2.1)))))) else none) else none) else ((Q60.f k2 x7 x2 x3 r3.1).bind fun r9 => (if (decide ((w64 (r9.1 - x2)) < (w64 (x3 - r9.1)))) = true then ((Q61.f k2 r9.2.2 x2 r9.1 x8).bind fun r10 => (Q61.l0 k2 r10 (w64 (r9.1 + 1)) x3 x8 (decide ((w64 (Int.tdiv (w64 (x3 - x2)) 8)) ≤ (w64 (r9.1 - x2)))) r9.2.1)) else ((Q61.f k2 r9.2.2 (w64 (r9.1 + 1)) x3 x8).bind fun r11 => (Q61.l0 k2 r11 x2 r9.1 x8 (decide ((w64 (Int.tdiv (w64 (x3 - x2)) 8)) ≤ (w64 (x3 - r9.1)))) r9.2.1)))))) else (if (decide (0 < x2)) = true then (if 0 ≤ (w64 (x2 - 1)) ∧ (w64 (x2 - 1)) < (x7.length : Int) then (if 0 ≤ r3.1 ∧ r3.1 < (x7.length : Int) then ((Q4.f (gt x7 (w64 (x2 - 1))) (gt x7 r3.1)).bind fun r13 => (if (!r13) = true then ((Q59.f k2 x7 x2 x3 r3.1).bind fun r14 => (Q61.l0 k2 r14.2 r14.1 x3 x8 x5 x6)) else ((Q60.f k2 x7 x2 x3 r3.1).bind fun r15 => (if (decide ((w64 (r15.1 - x2)) < (w64 (x3 - r15.1)))) = true then ((Q61.f k2 r15.2.2 x2 r15.1 x8).bind fun r16 => (Q61.l0 k2 r16 (w64 (r15.1 + 1)) x3 x8 (decide ((w64 (Int.tdiv (w64 (x3 - x2)) 8)) ≤ (w64 (r15.1 - x2)))) r15.2.1)) else ((Q61.f k2 r15.2.2 (w64 (r15.1 + 1)) x3 x8).bind fun r17 => (Q61.l0 k2 r17 x2 r15.1 x8 (decide ((w64 (Int.tdiv (w64 (x3 - x2)) 8)) ≤ (w64 (x3 - r15.1)))) r15.2.1)))))) else none) else none) else ((Q60.f k2 x7 x2 x3 r3.1).bind fun r18 => (if (decide ((w64 (r18.1 - x2)) < (w64 (x3 - r18.1)))) = true then ((Q61.f k2 r18.2.2 x2 r18.1 x8).bind fun r19 => (Q61.l0 k2 r19 (w64 (r18.1 + 1)) x3 x8 (decide ((w64 (Int.tdiv (w64 (x3 - x2)) 8)) ≤ (w64 (r18.1 - x2)))) r18.2.1)) else ((Q61.f k2 r18.2.2 (w64 (r18.1 + 1)) x3 x8).bind fun r20 => (Q61.l0 k2 r20 x2 r18.1 x8 (decide ((w64 (Int.tdiv (w64 (x3 - x2)) 8)) ≤ (w64 (x3 - r18.1)))) r18.2.1)))))) else (if (decide (0 < x2)) = true then (if 0 ≤ (w64 (x2 - 1)) ∧ (w64 (x2 - 1)) < (x7.length : Int) then (if 0 ≤ r3.1 ∧ r3.1 < (x7.length : Int) then ((Q4.f (gt x7 (w64 (x2 - 1))) (gt x7 r3.1)).bind fun r21 => (if (!r21) = true then ((Q59.f k2 x7 x2 x3 r3.1).bind fun r22 => (Q61.l0 k2 r22.2 r22.1 x3 x8 x5 x6)) else ((Q60.f k2 x7 x2 x3 r3.1).bind fun r23 => (if (decide ((w64 (r23.1 - x2)) < (w64 (x3 - r23.1)))) = true then ((Q61.f k2 r23.2.2 x2 r23.1 x8).bind fun r24 => (Q61.l0 k2 r24 (w64 (r23.1 + 1)) x3 x8 (decide ((w64 (Int.tdiv (w64 (x3 - x2)) 8)) ≤ (w64 (r23.1 - x2)))) r23.2.1)) else ((Q61.f k2 r23.2.2 (w64 (r23.1 + 1)) x3 x8).bind fun r25 => (Q61.l0 k2 r25 x2 r23.1 x8 (decide ((w64 (Int.tdiv (w64 (x3 - x2)) 8)) ≤ (w64 (x3 - r23.1)))) r23.2.1)))))) else none) else none) else ((Q60.f k2 x7 x2 x3 r3.1).bind fun r26 => (if (decide ((w64 (r26.1 - x2)) < (w64 (x3 - r26.1)))) = true then ((Q61.f k2 r26.2.2 x2 r26.1 x8).bind fun r27 => (Q61.l0 k2 r27 (w64 (r26.1 + 1)) x3 x8 (decide ((w64 (Int.tdiv (w64 (x3 - x2)) 8)) ≤ (w64 (r26.1 - x2)))) r26.2.1)) else ((Q61.f k2 r26.2.2 (w64 (r26.1 + 1)) x3 x8).bind fun r28 => (Q61.l0 k2 r28 x2 r26.1 x8 (decide ((w64 (Int.tdiv (w64 (x3 - x2)) 8)) ≤ (w64 (x3 - r26.1)))) r26.2.1)))))))) = some r ∧ k2 ≤ k1 ∧ x7.length = a0.length) ?_ ?_))
  ·refine J.cond rfl (fun c20 => ?_) (fun c20 => ?_)
   ·replace H := Zi c20 H
    refine J.seq (J.region ?_)
    refine RJ.run Za 3 rfl ?_
    obtain ⟨r30, q55, H⟩ := Zj H
    refine RJ.op rfl rfl (Zd [0] (Q50.spec q55) rfl rfl rfl h1 rfl Zm) ?_
    rintro _ w37 ⟨_, ⟨rfl, rfl, q56⟩, h56⟩
    replace h56 : St w0 F0 [Zf 70 (.int .u32) r30 (.slice A1 r30.length c_1)] _ _ := h56
    have e33 : r30.length = a0.length := q56.trans e1
    refine RJ.fin [(0, _), (1, _), (2, _), (3, _), (8, _), (9, _), (10, _)] rfl (J.envEq (env' := [(0, .slice A1 r30.length c_1), (1, .int .i64 x2), (2, .int .i64 x3), (3, .int .i64 x4), (8, .bool x5), (9, .bool x6), (10, .int .i64 (w64 (x3 - x2)))]) (by simp only [q56]) (J.region (RJ.run Za 3 rfl (RJ.fin [(0, _), (1, _), (2, _), (3, .int .i64 (w64 (x4 - 1))), (8, _), (9, _), (10, _)] rfl ?_))))
    have h57 := ((h56.only [0] rfl).rds [] rfl)
    exact ⟨k1, r30, (w64 (x4 - 1)), rfl, h57, H, Nat.le_refl _, e33⟩
   replace H := Zg c20 H
   refine J.narrow [(0, _), (1, _), (2, _), (3, _), (8, _), (9, _), (10, _)] rfl (J.skip ?_)
   have h58 := ((h1.only [0] rfl).rds [] rfl)
   exact ⟨k1, x1, x4, rfl, h58, H, Nat.le_refl _, e1⟩
  rintro env w5 ⟨k2, x7, x8, rfl, h4, H, hk2, e4⟩
  refine J.seq (J.region ?_)
  refine RJ.run Za 3 rfl ?_
  obtain ⟨r3, q5, H⟩ := Zj H
  refine RJ.op rfl rfl (Zd [] (Q51.spec q5) rfl rfl rfl h4 rfl (Zr (Gives.of 0 rfl Zl) Zm)) ?_
  rintro _ w6 ⟨_, ⟨rfl, rfl⟩, h5⟩
  replace h5 : St w0 F0 [_] _ _ := h5
  refine RJ.run Za 5 rfl (RJ.fin [(0, _), (1, _), (2, _), (3, _), (8, _), (9, _), (10, _), (11, .int .i64 r3.1), (12, .int .i64 r3.2)] rfl (J.seq (J.seq (J.region ?_))))
  refine RJ.run Za 2 rfl (RJ.fin [(0, _), (1, _), (2, _), (3, _), (8, _), (9, _), (10, _), (11, _), (12, _), (50, .bool (decide (r3.2 = 2)))] rfl (J.midS (fun env w => ∃ (k3 : Nat) (x9 : List (Int)) (x10 : Int) (x11 : Int), env = [(0, .slice A1 x9.length c_1), (1, .int .i64 x2), (2, .int .i64 x3), (3, .int .i64 x8), (8, .bool x5), (9, .bool x6), (10, .int .i64 (w64 (x3 - x2))), (11, .int .i64 x10), (12, .int .i64 x11)] ∧ St w0 F0 [Zf 70 (.int .u32) x9 (.slice A1 x9.length c_1)] [] w ∧ (if x5 = true then (if x6 = true then (if (decide (x11 = 1)) = true then ((Q58.f k3 x9 x2 x3).bind fun r12 => (if r12.1 = true then (some r12.2) else (if (decide (0 < x2)) = true then (if 0 ≤ (w64 (x2 - 1)) ∧ (w64 (x2 - 1)) < (r12.2.length : Int) then (if 0 ≤ x10 ∧ x10 < (r12.2.length : Int) then ((Q4.f (gt r12.2 (w64 (x2 - 1))) (gt r12.2 x10)).bind fun r4 => (if (!r4) = true then ((Q59.f k3 r12.2 x2 x3 x10).bind fun r5 => (Q61.l0 k3 r5.2 r5.1 x3 x8 x5 x6)) else ((Q60.f k3 r12.2 x2 x3 x10).bind fun r6 => (if (decide ((w64 (r6.1 - x2)) < (w64 (x3 - r6.1)))) = true then ((Q61.f k3 r6.2.2 x2 r6.1 x8).bind fun r7 => (Q61.l0 k3 r7 (w64 (r6.1 + 1)) x3 x8 (decide ((w64 (Int.tdiv (w64 (x3 - x2)) 8)) ≤ (w64 (r6.1 - x2)))) r6.2.1)) else ((Q61.f k3 r6.2.2 (w64 (r6.1 + 1)) x3 x8).bind fun r8 => (Q61.l0 k3 r8 x2 r6.1 x8 (decide ((w64 (Int.tdiv (w64 (x3 - x2)) 8)) ≤ (w64 (x3 - r6.1)))) r6.2.1)))))) else none) else none) else ((Q60.f k3 r12.2 x2 x3 x10).bind fun r9 => (if (decide ((w64 (r9.1 - x2)) < (w64 (x3 - r9.1)))) = true then ((Q61.f k3 r9.2.2 x2 r9.1 x8).bind fun r10 => (Q61.l0 k3 r10 (w64 (r9.1 + 1)) x3 x8 (decide ((w64 (Int.tdiv (w64 (x3 - x2)) 8)) ≤ (w64 (r9.1 - x2)))) r9.2.1)) else ((Q61.f k3 r9.2.2 (w64 (r9.1 + 1)) x3 x8).bind fun r11 => (Q61.l0 k3 r11 x2 r9.1 x8 (decide ((w64 (Int.tdiv (w64 (x3 - x2)) 8)) ≤ (w64 (x3 - r9.1)))) r9.2.1))))))) else (if (decide (0 < x2)) = true then (if 0 ≤ (w64 (x2 - 1)) ∧ (w64 (x2 - 1)) < (x9.length : Int) then (if 0 ≤ x10 ∧ x10 < (x9.length : Int) then ((Q4.f (gt x9 (w64 (x2 - 1))) (gt x9 x10)).bind fun r4 => (if (!r4) = true then ((Q59.f k3 x9 x2 x3 x10).bind fun r5 => (Q61.l0 k3 r5.2 r5.1 x3 x8 x5 x6)) else ((Q60.f k3 x9 x2 x3 x10).bind fun r6 => (if (decide ((w64 (r6.1 - x2)) < (w64 (x3 - r6.1)))) = true then ((Q61.f k3 r6.2.2 x2 r6.1 x8).bind fun r7 => (Q61.l0 k3 r7 (w64 (r6.1 + 1)) x3 x8 (decide ((w64 (Int.tdiv (w64 (x3 - x2)) 8)) ≤ (w64 (r6.1 - x2)))) r6.2.1)) else ((Q61.f k3 r6.2.2 (w64 (r6.1 + 1)) x3 x8).bind fun r8 => (Q61.l0 k3 r8 x2 r6.1 x8 (decide ((w64 (Int.tdiv (w64 (x3 - x2)) 8)) ≤ (w64 (x3 - r6.1)))) r6.2.1)))))) else none) else none) else ((Q60.f k3 x9 x2 x3 x10).bind fun r9 => (if (decide ((w64 (r9.1 - x2)) < (w64 (x3 - r9.1)))) = true then ((Q61.f k3 r9.2.2 x2 r9.1 x8).bind fun r10 => (Q61.l0 k3 r10 (w64 (r9.1 + 1)) x3 x8 (decide ((w64 (Int.tdiv (w64 (x3 - x2)) 8)) ≤ (w64 (r9.1 - x2)))) r9.2.1)) else ((Q61.f k3 r9.2.2 (w64 (r9.1 + 1)) x3 x8).bind fun r11 => (Q61.l0 k3 r11 x2 r9.1 x8 (decide ((w64 (Int.tdiv (w64 (x3 - x2)) 8)) ≤ (w64 (x3 - r9.1)))) r9.2.1)))))) else (if (decide (0 < x2)) = true then (if 0 ≤ (w64 (x2 - 1)) ∧ (w64 (x2 - 1)) < (x9.length : Int) then (if 0 ≤ x10 ∧ x10 < (x9.length : Int) then ((Q4.f (gt x9 (w64 (x2 - 1))) (gt x9 x10)).bind fun r13 => (if (!r13) = true then ((Q59.f k3 x9 x2 x3 x10).bind fun r14 => (Q61.l0 k3 r14.2 r14.1 x3 x8 x5 x6)) else ((Q60.f k3 x9 x2 x3 x10).bind fun r15 => (if (decide ((w64 (r15.1 - x2)) < (w64 (x3 - r15.1)))) = true then ((Q61.f k3 r15.2.2 x2 r15.1 x8).bind fun r16 => (Q61.l0 k3 r16 (w64 (r15.1 + 1)) x3 x8 (decide ((w64 (Int.tdiv (w64 (x3 - x2)) 8)) ≤ (w64 (r15.1 - x2)))) r15.2.1)) else ((Q61.f k3 r15.2.2 (w64 (r15.1 + 1)) x3 x8).bind fun r17 => (Q61.l0 k3 r17 x2 r15.1 x8 (decide ((w64 (Int.tdiv (w64 (x3 - x2)) 8)) ≤ (w64 (x3 - r15.1)))) r15.2.1)))))) else none) else none) else ((Q60.f k3 x9 x2 x3 x10).bind fun r18 => (if (decide ((w64 (r18.1 - x2)) < (w64 (x3 - r18.1)))) = true then ((Q61.f k3 r18.2.2 x2 r18.1 x8).bind fun r19 => (Q61.l0 k3 r19 (w64 (r18.1 + 1)) x3 x8 (decide ((w64 (Int.tdiv (w64 (x3 - x2)) 8)) ≤ (w64 (r18.1 - x2)))) r18.2.1)) else ((Q61.f k3 r18.2.2 (w64 (r18.1 + 1)) x3 x8).bind fun r20 => (Q61.l0 k3 r20 x2 r18.1 x8 (decide ((w64 (Int.tdiv (w64 (x3 - x2)) 8)) ≤ (w64 (x3 - r18.1)))) r18.2.1)))))) else (if (decide (0 < x2)) = true then (if 0 ≤ (w64 (x2 - 1)) ∧ (w64 (x2 - 1)) < (x9.length : Int) then (if 0 ≤ x10 ∧ x10 < (x9.length : Int) then ((Q4.f (gt x9 (w64 (x2 - 1))) (gt x9 x10)).bind fun r21 => (if (!r21) = true then ((Q59.f k3 x9 x2 x3 x10).bind fun r22 => (Q61.l0 k3 r22.2 r22.1 x3 x8 x5 x6)) else ((Q60.f k3 x9 x2 x3 x10).bind fun r23 => (if (decide ((w64 (r23.1 - x2)) < (w64 (x3 - r23.1)))) = true then ((Q61.f k3 r23.2.2 x2 r23.1 x8).bind fun r24 => (Q61.l0 k3 r24 (w64 (r23.1 + 1)) x3 x8 (decide ((w64 (Int.tdiv (w64 (x3 - x2)) 8)) ≤ (w64 (r23.1 - x2)))) r23.2.1)) else ((Q61.f k3 r23.2.2 (w64 (r23.1 + 1)) x3 x8).bind fun r25 => (Q61.l0 k3 r25 x2 r23.1 x8 (decide ((w64 (Int.tdiv (w64 (x3 - x2)) 8)) ≤ (w64 (x3 - r23.1)))) r23.2.1)))))) else none) else none) else ((Q60.f k3 x9 x2 x3 x10).bind fun r26 => (if (decide ((w64 (r26.1 - x2)) < (w64 (x3 - r26.1)))) = true then ((Q61.f k3 r26.2.2 x2 r26.1 x8).bind fun r27 => (Q61.l0 k3 r27 (w64 (r26.1 + 1)) x3 x8 (decide ((w64 (Int.tdiv (w64 (x3 - x2)) 8)) ≤ (w64 (r26.1 - x2)))) r26.2.1)) else ((Q61.f k3 r26.2.2 (w64 (r26.1 + 1)) x3 x8).bind fun r28 => (Q61.l0 k3 r28 x2 r26.1 x8 (decide ((w64 (Int.tdiv (w64 (x3 - x2)) 8)) ≤ (w64 (x3 - r26.1)))) r26.2.1)))))) = some r ∧ k3 ≤ k2 ∧ x9.length = a0.length) ?_ ?_))
  ·refine J.cond rfl (fun c19 => ?_) (fun c19 => ?_)
   ·replace H := Zi c19 H
    refine J.seq (J.region ?_)
    refine RJ.run Za 3 rfl ?_
    obtain ⟨r29, q53, H⟩ := Zj H
    refine RJ.op rfl rfl (Zd [0] (Q62.spec q53) rfl rfl rfl h5 rfl Zm) ?_
    rintro _ w36 ⟨_, ⟨rfl, rfl, q54⟩, h53⟩
    replace h53 : St w0 F0 [Zf 70 (.int .u32) r29 (.slice A1 r29.length c_1)] _ _ := h53
    have e32 : r29.length = a0.length := q54.trans e4
    refine RJ.fin [(0, _), (1, _), (2, _), (3, _), (8, _), (9, _), (10, _), (11, _)] rfl (J.envEq (env' := [(0, .slice A1 r29.length c_1), (1, .int .i64 x2), (2, .int .i64 x3), (3, .int .i64 x8), (8, .bool x5), (9, .bool x6), (10, .int .i64 (w64 (x3 - x2))), (11, .int .i64 r3.1)]) (by simp only [q54]) (J.seq (J.region ?_)))
    refine RJ.run Za 7 rfl (RJ.fin [(0, _), (1, _), (2, _), (3, _), (8, _), (9, _), (10, _), (11, .int .i64 (w64 ((w64 (x3 - 1)) - (w64 (r3.1 - x2)))))] rfl (J.region (RJ.run Za 1 rfl (RJ.fin [(0, _), (1, _), (2, _), (3, _), (8, _), (9, _), (10, _), (11, _), (12, .int .i64 1)] rfl ?_))))
    have h54 := ((h53.only [0] rfl).rds [] rfl)
    exact ⟨k2, r29, (w64 ((w64 (x3 - 1)) - (w64 (r3.1 - x2)))), 1, rfl, h54, H, Nat.le_refl _, e32⟩
   replace H := Zg c19 H
   refine J.narrow [(0, _), (1, _), (2, _), (3, _), (8, _), (9, _), (10, _), (11, _), (12, _)] rfl (J.skip ?_)
   have h55 := ((h5.only [0] rfl).rds [] rfl)
   exact ⟨k2, x7, r3.1, r3.2, rfl, h55, H, Nat.le_refl _, e4⟩
  rintro env w8 ⟨k3, x9, x10, x11, rfl, h6, H, hk3, e5⟩
  refine J.seq (J.seq (J.region ?_))
  refine RJ.run Za 2 rfl ?_
  rcases Bool.eq_false_or_eq_true x5 with c3 | c3
  ·replace H := Zi c3 H
   refine RJ.know (t := 62) rfl (congrArg Value.bool c3) (RJ.run Za 3 rfl ?_)
   rcases Bool.eq_false_or_eq_true x6 with c4 | c4
   ·replace H := Zi c4 H
    refine RJ.know (t := 65) rfl (congrArg Value.bool c4) (RJ.run Za 3 rfl (RJ.fin [(0, _), (1, _), (2, _), (3, _), (8, _), (9, _), (10, _), (11, _), (68, .bool (decide (x11 = 1)))] rfl (J.midS (fun env w => ∃ (k4 : Nat) (x12 : List (Int)), env = [(0, .slice A1 x12.length c_1), (1, .int .i64 x2), (2, .int .i64 x3), (3, .int .i64 x8), (8, .bool x5), (9, .bool x6), (10, .int .i64 (w64 (x3 - x2))), (11, .int .i64 x10)] ∧ St w0 F0 [Zf 70 (.int .u32) x12 (.slice A1 x12.length c_1)] [] w ∧ (if (decide (0 < x2)) = true then (if 0 ≤ (w64 (x2 - 1)) ∧ (w64 (x2 - 1)) < (x12.length : Int) then (if 0 ≤ x10 ∧ x10 < (x12.length : Int) then ((Q4.f (gt x12 (w64 (x2 - 1))) (gt x12 x10)).bind fun r4 => (if (!r4) = true then ((Q59.f k4 x12 x2 x3 x10).bind fun r5 => (Q61.l0 k4 r5.2 r5.1 x3 x8 x5 x6)) else ((Q60.f k4 x12 x2 x3 x10).bind fun r6 => (if (decide ((w64 (r6.1 - x2)) < (w64 (x3 - r6.1)))) = true then ((Q61.f k4 r6.2.2 x2 r6.1 x8).bind fun r7 => (Q61.l0 k4 r7 (w64 (r6.1 + 1)) x3 x8 (decide ((w64 (Int.tdiv (w64 (x3 - x2)) 8)) ≤ (w64 (r6.1 - x2)))) r6.2.1)) else ((Q61.f k4 r6.2.2 (w64 (r6.1 + 1)) x3 x8).bind fun r8 => (Q61.l0 k4 r8 x2 r6.1 x8 (decide ((w64 (Int.tdiv (w64 (x3 - x2)) 8)) ≤ (w64 (x3 - r6.1)))) r6.2.1)))))) else none) else none) else ((Q60.f k4 x12 x2 x3 x10).bind fun r9 => (if (decide ((w64 (r9.1 - x2)) < (w64 (x3 - r9.1)))) = true then ((Q61.f k4 r9.2.2 x2 r9.1 x8).bind fun r10 => (Q61.l0 k4 r10 (w64 (r9.1 + 1)) x3 x8 (decide ((w64 (Int.tdiv (w64 (x3 - x2)) 8)) ≤ (w64 (r9.1 - x2)))) r9.2.1)) else ((Q61.f k4 r9.2.2 (w64 (r9.1 + 1)) x3 x8).bind fun r11 => (Q61.l0 k4 r11 x2 r9.1 x8 (decide ((w64 (Int.tdiv (w64 (x3 - x2)) 8)) ≤ (w64 (x3 - r9.1)))) r9.2.1))))) = some r ∧ k4 ≤ k3 ∧ x12.length = a0.length) ?_ ?_)))
    ·refine J.cond rfl (fun c9 => ?_) (fun c9 => ?_)
     ·replace H := Zi c9 H
      refine J.seq (J.region ?_)
      refine RJ.run Za 3 rfl ?_
      obtain ⟨r12, q21, H⟩ := Zj H
      refine RJ.op rfl rfl (Zd [0] (Q58.spec q21) rfl rfl rfl h6 rfl Zm) ?_
      rintro _ w19 ⟨_, ⟨rfl, rfl, q22⟩, h22⟩
      replace h22 : St w0 F0 [Zf 70 (.int .u32) r12.2 (.slice A1 r12.2.length c_1)] _ _ := h22
      have e15 : r12.2.length = a0.length := q22.trans e5
      refine RJ.fin [(0, _), (1, _), (2, _), (3, _), (8, _), (9, _), (10, _), (11, _), (72, .bool r12.1)] rfl (J.envEq (env' := [(0, .slice A1 r12.2.length c_1), (1, .int .i64 x2), (2, .int .i64 x3), (3, .int .i64 x8), (8, .bool x5), (9, .bool x6), (10, .int .i64 (w64 (x3 - x2))), (11, .int .i64 x10), (72, .bool r12.1)]) (by simp only [q22]) (J.cond rfl (fun c10 => ?_) (fun c10 => ?_)))
      ·replace H := Zi c10 H
       refine J.ret ?_
       obtain rfl := Option.some.inj H
       exact ⟨_, _, _, (Zb rfl), ⟨rfl, rfl, e15⟩, h22.only [0] rfl⟩
      replace H := Zg c10 H
      refine J.narrow [(0, _), (1, _), (2, _), (3, _), (8, _), (9, _), (10, _), (11, _)] rfl (J.skip ?_)
      have h23 := ((h22.only [0] rfl).rds [] rfl)
      exact ⟨k3, r12.2, rfl, h23, H, Nat.le_refl _, e15⟩
     replace H := Zg c9 H
     refine J.narrow [(0, _), (1, _), (2, _), (3, _), (8, _), (9, _), (10, _), (11, _)] rfl (J.skip ?_)
     have h24 := ((h6.only [0] rfl).rds [] rfl)
     exact ⟨k3, x9, rfl, h24, H, Nat.le_refl _, e5⟩
    rintro env w10 ⟨k4, x12, rfl, h7, H, hk4, e6⟩
    refine J.seq (J.seq ?_)
    refine J.heldSt mix h7 ?_
    have h8 := h7.drew
    refine HJ.run Za rfl [0, 1, 2] rfl ?_
    rcases Bool.eq_false_or_eq_true (decide (0 < x2)) with c5 | c5
    ·replace H := Zi c5 H
     refine HJ.know (t := 75) rfl (congrArg Value.bool c5) (HJ.run Za rfl [3, 4, 5, 8, 9] rfl ?_)
     obtain ⟨⟨p1, p2⟩, H⟩ := Zo H
     have e7 := Zy h8.wh (Gives.of 0 rfl Zl) p1 p2
     refine HJ.q (i := 6) rfl rfl rfl rfl rfl rfl (Zk Za rfl rfl rfl rfl rfl e7 p1 p2) (HJ.q (i := 7) rfl rfl rfl rfl rfl rfl (Ze (f := 0) Za rfl (fun w e => e) (Gives.of 0 rfl Zl) p1 p2 rfl rfl rfl rfl rfl) ?_)
     obtain ⟨⟨p3, p4⟩, H⟩ := Zo H
     refine HJ.q (i := 10) rfl rfl rfl rfl rfl rfl (Zk Za rfl rfl rfl rfl rfl e7 p3 p4) (HJ.q (i := 11) rfl rfl rfl rfl rfl rfl (Ze (f := 0) Za rfl (fun w e => e) (Gives.of 0 rfl Zl) p3 p4 rfl rfl rfl rfl rfl) ?_)
     obtain ⟨r4, q6, H⟩ := Zj H
     refine HJ.op (i := 12) rfl rfl rfl rfl rfl (Zd [] (Q4.spec q6) rfl rfl rfl h8 rfl Zm) ?_
     rintro _ w11 ⟨_, ⟨rfl, rfl⟩, h9⟩
     replace h9 : St w0 F0 [_] _ _ := h9
     refine ⟨⟨[], h9⟩, ?_⟩
     refine HJ.run Za rfl [13, 14] rfl (HJ.fin [(0, _), (1, _), (2, _), (3, _), (8, _), (9, _), (10, _), (11, _), (87, .bool (!r4))] rfl rfl (J.cond rfl (fun c6 => ?_) (fun c6 => ?_)))
     ·replace H := Zi c6 H
      refine J.seq (J.region ?_)
      refine RJ.run Za 4 rfl ?_
      obtain ⟨r5, q7, H⟩ := Zj H
      refine RJ.op rfl rfl (Zd [0] (Q59.spec q7) rfl rfl rfl h9 rfl Zm) ?_
      rintro _ w12 ⟨_, ⟨rfl, rfl, q8⟩, h10⟩
      replace h10 : St w0 F0 [Zf 70 (.int .u32) r5.2 (.slice A1 r5.2.length c_1)] _ _ := h10
      have e8 : r5.2.length = a0.length := q8.trans e6
      refine RJ.run Za 1 rfl (RJ.fin [(0, _), (2, _), (3, _), (8, _), (9, _), (13, .int .i64 r5.1)] rfl (J.envEq (env' := [(0, .slice A1 r5.2.length c_1), (2, .int .i64 x3), (3, .int .i64 x8), (8, .bool x5), (9, .bool x6), (13, .int .i64 r5.1)]) (by simp only [q8]) (J.seq (J.region ?_))))
      refine RJ.run Za 2 rfl (RJ.fin [(0, _), (1, .int .i64 r5.1), (2, _), (3, _), (8, _), (9, _)] rfl (J.exit ?_))
      have h11 := ((h10.only [0] rfl).rds [] rfl)
      exact ⟨k4, by omega, r5.2, r5.1, x3, x8, x5, x6, rfl, h11, H, by omega, e8⟩
     replace H := Zg c6 H
     refine J.skip (J.seq (J.region ?_))
     refine RJ.run Za 4 rfl ?_
     obtain ⟨r6, q9, H⟩ := Zj H
     refine RJ.op rfl rfl (Zd [0] (Q60.spec q9) rfl rfl rfl h9 rfl Zm) ?_
     rintro _ w13 ⟨_, ⟨rfl, rfl, q10⟩, h12⟩
     replace h12 : St w0 F0 [Zf 70 (.int .u32) r6.2.2 (.slice A1 r6.2.2.length c_1)] _ _ := h12
     have e9 : r6.2.2.length = a0.length := q10.trans e6
     refine RJ.run Za 5 rfl (RJ.fin [(0, _), (1, _), (2, _), (3, _), (10, _), (14, .int .i64 r6.1), (15, .bool r6.2.1)] rfl (J.envEq (env' := [(0, .slice A1 r6.2.2.length c_1), (1, .int .i64 x2), (2, .int .i64 x3), (3, .int .i64 x8), (10, .int .i64 (w64 (x3 - x2))), (14, .int .i64 r6.1), (15, .bool r6.2.1)]) (by simp only [q10]) (J.seq (J.region ?_))))
     refine RJ.run Za 2 rfl (RJ.fin [(0, _), (1, _), (2, _), (3, _), (9, .bool r6.2.1), (10, _), (14, _)] rfl (J.seq (J.region ?_)))
     refine RJ.run Za 8 rfl (RJ.fin [(0, _), (1, _), (2, _), (3, _), (9, _), (10, _), (14, _), (16, .int .i64 (w64 (r6.1 - x2))), (17, .int .i64 (w64 (x3 - r6.1)))] rfl (J.seq (J.region ?_)))
     refine RJ.run Za 3 rfl (RJ.fin [(0, _), (1, _), (2, _), (3, _), (9, _), (14, _), (16, _), (17, _), (18, .int .i64 (w64 (Int.tdiv (w64 (x3 - x2)) 8)))] rfl (J.seq (J.region ?_)))
     refine RJ.run Za 3 rfl (RJ.fin [(0, _), (1, _), (2, _), (3, _), (9, _), (14, _), (16, _), (17, _), (18, _), (113, .bool (decide ((w64 (r6.1 - x2)) < (w64 (x3 - r6.1)))))] rfl (J.cond rfl (fun c7 => ?_) (fun c7 => ?_)))
     ·replace H := Zi c7 H
      refine J.seq (J.region ?_)
      refine RJ.run Za 4 rfl (RJ.fin [(0, _), (1, _), (2, _), (3, _), (8, .bool (decide ((w64 (Int.tdiv (w64 (x3 - x2)) 8)) ≤ (w64 (r6.1 - x2))))), (9, _), (14, _)] rfl (J.seq (J.region ?_)))
      refine RJ.run Za 4 rfl ?_
      obtain ⟨r7, q11, H⟩ := Zj H
      refine RJ.op rfl rfl (Zd [0] (ih k4 (by omega) q11) rfl rfl rfl h12 rfl Zm) ?_
      rintro _ w14 ⟨_, ⟨rfl, rfl, q12⟩, h13⟩
      replace h13 : St w0 F0 [Zf 70 (.int .u32) r7 (.slice A1 r7.length c_1)] _ _ := h13
      have e10 : r7.length = a0.length := q12.trans e9
      refine RJ.fin [(0, _), (2, _), (3, _), (8, _), (9, _), (14, _)] rfl (J.envEq (env' := [(0, .slice A1 r7.length c_1), (2, .int .i64 x3), (3, .int .i64 x8), (8, .bool (decide ((w64 (Int.tdiv (w64 (x3 - x2)) 8)) ≤ (w64 (r6.1 - x2))))), (9, .bool r6.2.1), (14, .int .i64 r6.1)]) (by simp only [q12]) (J.region (RJ.run Za 3 rfl (RJ.fin [(0, _), (1, .int .i64 (w64 (r6.1 + 1))), (2, _), (3, _), (8, _), (9, _)] rfl ?_))))
      have h14 := ((h13.only [0] rfl).rds [] rfl)
      exact ⟨k4, by omega, r7, (w64 (r6.1 + 1)), x3, x8, (decide ((w64 (Int.tdiv (w64 (x3 - x2)) 8)) ≤ (w64 (r6.1 - x2)))), r6.2.1, rfl, h14, H, by omega, e10⟩
     replace H := Zg c7 H
     refine J.seq (J.region ?_)
     refine RJ.run Za 4 rfl (RJ.fin [(0, _), (1, _), (2, _), (3, _), (8, .bool (decide ((w64 (Int.tdiv (w64 (x3 - x2)) 8)) ≤ (w64 (x3 - r6.1))))), (9, _), (14, _)] rfl (J.seq (J.region ?_)))
     refine RJ.run Za 5 rfl ?_
     obtain ⟨r8, q13, H⟩ := Zj H
     refine RJ.op rfl rfl (Zd [0] (ih k4 (by omega) q13) rfl rfl rfl h12 rfl Zm) ?_
     rintro _ w15 ⟨_, ⟨rfl, rfl, q14⟩, h15⟩
     replace h15 : St w0 F0 [Zf 70 (.int .u32) r8 (.slice A1 r8.length c_1)] _ _ := h15
     have e11 : r8.length = a0.length := q14.trans e9
     refine RJ.fin [(0, _), (1, _), (3, _), (8, _), (9, _), (14, _)] rfl (J.envEq (env' := [(0, .slice A1 r8.length c_1), (1, .int .i64 x2), (3, .int .i64 x8), (8, .bool (decide ((w64 (Int.tdiv (w64 (x3 - x2)) 8)) ≤ (w64 (x3 - r6.1))))), (9, .bool r6.2.1), (14, .int .i64 r6.1)]) (by simp only [q14]) (J.region (RJ.run Za 2 rfl (RJ.fin [(0, _), (1, _), (2, .int .i64 r6.1), (3, _), (8, _), (9, _)] rfl ?_))))
     have h16 := ((h15.only [0] rfl).rds [] rfl)
     exact ⟨k4, by omega, r8, x2, r6.1, x8, (decide ((w64 (Int.tdiv (w64 (x3 - x2)) 8)) ≤ (w64 (x3 - r6.1)))), r6.2.1, rfl, h16, H, by omega, e11⟩
    replace H := Zg c5 H
    refine HJ.know (t := 75) rfl (congrArg Value.bool c5) (HJ.run Za rfl [3, 4, 5, 6, 7, 8, 9, 10, 11, 12, 13, 14] rfl (HJ.fin [(0, _), (1, _), (2, _), (3, _), (8, _), (9, _), (10, _), (11, _), (87, .bool false)] rfl rfl (J.condF rfl (J.skip (J.seq (J.region ?_))))))
    refine RJ.run Za 4 rfl ?_
    obtain ⟨r9, q15, H⟩ := Zj H
    refine RJ.op rfl rfl (Zd [0] (Q60.spec q15) rfl rfl rfl h8 rfl Zm) ?_
    rintro _ w16 ⟨_, ⟨rfl, rfl, q16⟩, h17⟩
    replace h17 : St w0 F0 [Zf 70 (.int .u32) r9.2.2 (.slice A1 r9.2.2.length c_1)] _ _ := h17
    have e12 : r9.2.2.length = a0.length := q16.trans e6
    refine RJ.run Za 5 rfl (RJ.fin [(0, _), (1, _), (2, _), (3, _), (10, _), (14, .int .i64 r9.1), (15, .bool r9.2.1)] rfl (J.envEq (env' := [(0, .slice A1 r9.2.2.length c_1), (1, .int .i64 x2), (2, .int .i64 x3), (3, .int .i64 x8), (10, .int .i64 (w64 (x3 - x2))), (14, .int .i64 r9.1), (15, .bool r9.2.1)]) (by simp only [q16]) (J.seq (J.region ?_))))
    refine RJ.run Za 2 rfl (RJ.fin [(0, _), (1, _), (2, _), (3, _), (9, .bool r9.2.1), (10, _), (14, _)] rfl (J.seq (J.region ?_)))
    refine RJ.run Za 8 rfl (RJ.fin [(0, _), (1, _), (2, _), (3, _), (9, _), (10, _), (14, _), (16, .int .i64 (w64 (r9.1 - x2))), (17, .int .i64 (w64 (x3 - r9.1)))] rfl (J.seq (J.region ?_)))
    refine RJ.run Za 3 rfl (RJ.fin [(0, _), (1, _), (2, _), (3, _), (9, _), (14, _), (16, _), (17, _), (18, .int .i64 (w64 (Int.tdiv (w64 (x3 - x2)) 8)))] rfl (J.seq (J.region ?_)))
    refine RJ.run Za 3 rfl (RJ.fin [(0, _), (1, _), (2, _), (3, _), (9, _), (14, _), (16, _), (17, _), (18, _), (113, .bool (decide ((w64 (r9.1 - x2)) < (w64 (x3 - r9.1)))))] rfl (J.cond rfl (fun c8 => ?_) (fun c8 => ?_)))
    ·replace H := Zi c8 H
     refine J.seq (J.region ?_)
     refine RJ.run Za 4 rfl (RJ.fin [(0, _), (1, _), (2, _), (3, _), (8, .bool (decide ((w64 (Int.tdiv (w64 (x3 - x2)) 8)) ≤ (w64 (r9.1 - x2))))), (9, _), (14, _)] rfl (J.seq (J.region ?_)))
     refine RJ.run Za 4 rfl ?_
     obtain ⟨r10, q17, H⟩ := Zj H
     refine RJ.op rfl rfl (Zd [0] (ih k4 (by omega) q17) rfl rfl rfl h17 rfl Zm) ?_
     rintro _ w17 ⟨_, ⟨rfl, rfl, q18⟩, h18⟩
     replace h18 : St w0 F0 [Zf 70 (.int .u32) r10 (.slice A1 r10.length c_1)] _ _ := h18
     have e13 : r10.length = a0.length := q18.trans e12
     refine RJ.fin [(0, _), (2, _), (3, _), (8, _), (9, _), (14, _)] rfl (J.envEq (env' := [(0, .slice A1 r10.length c_1), (2, .int .i64 x3), (3, .int .i64 x8), (8, .bool (decide ((w64 (Int.tdiv (w64 (x3 - x2)) 8)) ≤ (w64 (r9.1 - x2))))), (9, .bool r9.2.1), (14, .int .i64 r9.1)]) (by simp only [q18]) (J.region (RJ.run Za 3 rfl (RJ.fin [(0, _), (1, .int .i64 (w64 (r9.1 + 1))), (2, _), (3, _), (8, _), (9, _)] rfl ?_))))
     have h19 := ((h18.only [0] rfl).rds [] rfl)
     exact ⟨k4, by omega, r10, (w64 (r9.1 + 1)), x3, x8, (decide ((w64 (Int.tdiv (w64 (x3 - x2)) 8)) ≤ (w64 (r9.1 - x2)))), r9.2.1, rfl, h19, H, by omega, e13⟩
    replace H := Zg c8 H
    refine J.seq (J.region ?_)
    refine RJ.run Za 4 rfl (RJ.fin [(0, _), (1, _), (2, _), (3, _), (8, .bool (decide ((w64 (Int.tdiv (w64 (x3 - x2)) 8)) ≤ (w64 (x3 - r9.1))))), (9, _), (14, _)] rfl (J.seq (J.region ?_)))
    refine RJ.run Za 5 rfl ?_
    obtain ⟨r11, q19, H⟩ := Zj H
    refine RJ.op rfl rfl (Zd [0] (ih k4 (by omega) q19) rfl rfl rfl h17 rfl Zm) ?_
    rintro _ w18 ⟨_, ⟨rfl, rfl, q20⟩, h20⟩
    replace h20 : St w0 F0 [Zf 70 (.int .u32) r11 (.slice A1 r11.length c_1)] _ _ := h20
    have e14 : r11.length = a0.length := q20.trans e12
    refine RJ.fin [(0, _), (1, _), (3, _), (8, _), (9, _), (14, _)] rfl (J.envEq (env' := [(0, .slice A1 r11.length c_1), (1, .int .i64 x2), (3, .int .i64 x8), (8, .bool (decide ((w64 (Int.tdiv (w64 (x3 - x2)) 8)) ≤ (w64 (x3 - r9.1))))), (9, .bool r9.2.1), (14, .int .i64 r9.1)]) (by simp only [q20]) (J.region (RJ.run Za 2 rfl (RJ.fin [(0, _), (1, _), (2, .int .i64 r9.1), (3, _), (8, _), (9, _)] rfl ?_))))
    have h21 := ((h20.only [0] rfl).rds [] rfl)
    exact ⟨k4, by omega, r11, x2, r9.1, x8, (decide ((w64 (Int.tdiv (w64 (x3 - x2)) 8)) ≤ (w64 (x3 - r9.1)))), r9.2.1, rfl, h21, H, by omega, e14⟩
   replace H := Zg c4 H
   refine RJ.know (t := 65) rfl (congrArg Value.bool c4) (RJ.run Za 3 rfl (RJ.fin [(0, _), (1, _), (2, _), (3, _), (8, _), (9, _), (10, _), (11, _), (68, .bool false)] rfl (J.condF rfl (J.skip (J.seq (J.seq ?_))))))
   refine J.heldSt mix h6 ?_
   have h25 := h6.drew
   refine HJ.run Za rfl [0, 1, 2] rfl ?_
   rcases Bool.eq_false_or_eq_true (decide (0 < x2)) with c11 | c11
   ·replace H := Zi c11 H
    refine HJ.know (t := 75) rfl (congrArg Value.bool c11) (HJ.run Za rfl [3, 4, 5, 8, 9] rfl ?_)
    obtain ⟨⟨p5, p6⟩, H⟩ := Zo H
    have e16 := Zy h25.wh (Gives.of 0 rfl Zl) p5 p6
    refine HJ.q (i := 6) rfl rfl rfl rfl rfl rfl (Zk Za rfl rfl rfl rfl rfl e16 p5 p6) (HJ.q (i := 7) rfl rfl rfl rfl rfl rfl (Ze (f := 0) Za rfl (fun w e => e) (Gives.of 0 rfl Zl) p5 p6 rfl rfl rfl rfl rfl) ?_)
    obtain ⟨⟨p7, p8⟩, H⟩ := Zo H
    refine HJ.q (i := 10) rfl rfl rfl rfl rfl rfl (Zk Za rfl rfl rfl rfl rfl e16 p7 p8) (HJ.q (i := 11) rfl rfl rfl rfl rfl rfl (Ze (f := 0) Za rfl (fun w e => e) (Gives.of 0 rfl Zl) p7 p8 rfl rfl rfl rfl rfl) ?_)
    obtain ⟨r13, q23, H⟩ := Zj H
    refine HJ.op (i := 12) rfl rfl rfl rfl rfl (Zd [] (Q4.spec q23) rfl rfl rfl h25 rfl Zm) ?_
    rintro _ w20 ⟨_, ⟨rfl, rfl⟩, h26⟩
    replace h26 : St w0 F0 [_] _ _ := h26
    refine ⟨⟨[], h26⟩, ?_⟩
    refine HJ.run Za rfl [13, 14] rfl (HJ.fin [(0, _), (1, _), (2, _), (3, _), (8, _), (9, _), (10, _), (11, _), (87, .bool (!r13))] rfl rfl (J.cond rfl (fun c12 => ?_) (fun c12 => ?_)))
    ·replace H := Zi c12 H
     refine J.seq (J.region ?_)
     refine RJ.run Za 4 rfl ?_
     obtain ⟨r14, q24, H⟩ := Zj H
     refine RJ.op rfl rfl (Zd [0] (Q59.spec q24) rfl rfl rfl h26 rfl Zm) ?_
     rintro _ w21 ⟨_, ⟨rfl, rfl, q25⟩, h27⟩
     replace h27 : St w0 F0 [Zf 70 (.int .u32) r14.2 (.slice A1 r14.2.length c_1)] _ _ := h27
     have e17 : r14.2.length = a0.length := q25.trans e5
     refine RJ.run Za 1 rfl (RJ.fin [(0, _), (2, _), (3, _), (8, _), (9, _), (13, .int .i64 r14.1)] rfl (J.envEq (env' := [(0, .slice A1 r14.2.length c_1), (2, .int .i64 x3), (3, .int .i64 x8), (8, .bool x5), (9, .bool x6), (13, .int .i64 r14.1)]) (by simp only [q25]) (J.seq (J.region ?_))))
     refine RJ.run Za 2 rfl (RJ.fin [(0, _), (1, .int .i64 r14.1), (2, _), (3, _), (8, _), (9, _)] rfl (J.exit ?_))
     have h28 := ((h27.only [0] rfl).rds [] rfl)
     exact ⟨k3, by omega, r14.2, r14.1, x3, x8, x5, x6, rfl, h28, H, by omega, e17⟩
    replace H := Zg c12 H
    refine J.skip (J.seq (J.region ?_))
    refine RJ.run Za 4 rfl ?_
    obtain ⟨r15, q26, H⟩ := Zj H
    refine RJ.op rfl rfl (Zd [0] (Q60.spec q26) rfl rfl rfl h26 rfl Zm) ?_
    rintro _ w22 ⟨_, ⟨rfl, rfl, q27⟩, h29⟩
    replace h29 : St w0 F0 [Zf 70 (.int .u32) r15.2.2 (.slice A1 r15.2.2.length c_1)] _ _ := h29
    have e18 : r15.2.2.length = a0.length := q27.trans e5
    refine RJ.run Za 5 rfl (RJ.fin [(0, _), (1, _), (2, _), (3, _), (10, _), (14, .int .i64 r15.1), (15, .bool r15.2.1)] rfl (J.envEq (env' := [(0, .slice A1 r15.2.2.length c_1), (1, .int .i64 x2), (2, .int .i64 x3), (3, .int .i64 x8), (10, .int .i64 (w64 (x3 - x2))), (14, .int .i64 r15.1), (15, .bool r15.2.1)]) (by simp only [q27]) (J.seq (J.region ?_))))
    refine RJ.run Za 2 rfl (RJ.fin [(0, _), (1, _), (2, _), (3, _), (9, .bool r15.2.1), (10, _), (14, _)] rfl (J.seq (J.region ?_)))
    refine RJ.run Za 8 rfl (RJ.fin [(0, _), (1, _), (2, _), (3, _), (9, _), (10, _), (14, _), (16, .int .i64 (w64 (r15.1 - x2))), (17, .int .i64 (w64 (x3 - r15.1)))] rfl (J.seq (J.region ?_)))
    refine RJ.run Za 3 rfl (RJ.fin [(0, _), (1, _), (2, _), (3, _), (9, _), (14, _), (16, _), (17, _), (18, .int .i64 (w64 (Int.tdiv (w64 (x3 - x2)) 8)))] rfl (J.seq (J.region ?_)))
    refine RJ.run Za 3 rfl (RJ.fin [(0, _), (1, _), (2, _), (3, _), (9, _), (14, _), (16, _), (17, _), (18, _), (113, .bool (decide ((w64 (r15.1 - x2)) < (w64 (x3 - r15.1)))))] rfl (J.cond rfl (fun c13 => ?_) (fun c13 => ?_)))
    ·replace H := Zi c13 H
     refine J.seq (J.region ?_)
     refine RJ.run Za 4 rfl (RJ.fin [(0, _), (1, _), (2, _), (3, _), (8, .bool (decide ((w64 (Int.tdiv (w64 (x3 - x2)) 8)) ≤ (w64 (r15.1 - x2))))), (9, _), (14, _)] rfl (J.seq (J.region ?_)))
     refine RJ.run Za 4 rfl ?_
     obtain ⟨r16, q28, H⟩ := Zj H
     refine RJ.op rfl rfl (Zd [0] (ih k3 (by omega) q28) rfl rfl rfl h29 rfl Zm) ?_
     rintro _ w23 ⟨_, ⟨rfl, rfl, q29⟩, h30⟩
     replace h30 : St w0 F0 [Zf 70 (.int .u32) r16 (.slice A1 r16.length c_1)] _ _ := h30
     have e19 : r16.length = a0.length := q29.trans e18
     refine RJ.fin [(0, _), (2, _), (3, _), (8, _), (9, _), (14, _)] rfl (J.envEq (env' := [(0, .slice A1 r16.length c_1), (2, .int .i64 x3), (3, .int .i64 x8), (8, .bool (decide ((w64 (Int.tdiv (w64 (x3 - x2)) 8)) ≤ (w64 (r15.1 - x2))))), (9, .bool r15.2.1), (14, .int .i64 r15.1)]) (by simp only [q29]) (J.region (RJ.run Za 3 rfl (RJ.fin [(0, _), (1, .int .i64 (w64 (r15.1 + 1))), (2, _), (3, _), (8, _), (9, _)] rfl ?_))))
     have h31 := ((h30.only [0] rfl).rds [] rfl)
     exact ⟨k3, by omega, r16, (w64 (r15.1 + 1)), x3, x8, (decide ((w64 (Int.tdiv (w64 (x3 - x2)) 8)) ≤ (w64 (r15.1 - x2)))), r15.2.1, rfl, h31, H, by omega, e19⟩
    replace H := Zg c13 H
    refine J.seq (J.region ?_)
    refine RJ.run Za 4 rfl (RJ.fin [(0, _), (1, _), (2, _), (3, _), (8, .bool (decide ((w64 (Int.tdiv (w64 (x3 - x2)) 8)) ≤ (w64 (x3 - r15.1))))), (9, _), (14, _)] rfl (J.seq (J.region ?_)))
    refine RJ.run Za 5 rfl ?_
    obtain ⟨r17, q30, H⟩ := Zj H
    refine RJ.op rfl rfl (Zd [0] (ih k3 (by omega) q30) rfl rfl rfl h29 rfl Zm) ?_
    rintro _ w24 ⟨_, ⟨rfl, rfl, q31⟩, h32⟩
    replace h32 : St w0 F0 [Zf 70 (.int .u32) r17 (.slice A1 r17.length c_1)] _ _ := h32
    have e20 : r17.length = a0.length := q31.trans e18
    refine RJ.fin [(0, _), (1, _), (3, _), (8, _), (9, _), (14, _)] rfl (J.envEq (env' := [(0, .slice A1 r17.length c_1), (1, .int .i64 x2), (3, .int .i64 x8), (8, .bool (decide ((w64 (Int.tdiv (w64 (x3 - x2)) 8)) ≤ (w64 (x3 - r15.1))))), (9, .bool r15.2.1), (14, .int .i64 r15.1)]) (by simp only [q31]) (J.region (RJ.run Za 2 rfl (RJ.fin [(0, _), (1, _), (2, .int .i64 r15.1), (3, _), (8, _), (9, _)] rfl ?_))))
    have h33 := ((h32.only [0] rfl).rds [] rfl)
    exact ⟨k3, by omega, r17, x2, r15.1, x8, (decide ((w64 (Int.tdiv (w64 (x3 - x2)) 8)) ≤ (w64 (x3 - r15.1)))), r15.2.1, rfl, h33, H, by omega, e20⟩
   replace H := Zg c11 H
   refine HJ.know (t := 75) rfl (congrArg Value.bool c11) (HJ.run Za rfl [3, 4, 5, 6, 7, 8, 9, 10, 11, 12, 13, 14] rfl (HJ.fin [(0, _), (1, _), (2, _), (3, _), (8, _), (9, _), (10, _), (11, _), (87, .bool false)] rfl rfl (J.condF rfl (J.skip (J.seq (J.region ?_))))))
   refine RJ.run Za 4 rfl ?_
   obtain ⟨r18, q32, H⟩ := Zj H
   refine RJ.op rfl rfl (Zd [0] (Q60.spec q32) rfl rfl rfl h25 rfl Zm) ?_
   rintro _ w25 ⟨_, ⟨rfl, rfl, q33⟩, h34⟩
   replace h34 : St w0 F0 [Zf 70 (.int .u32) r18.2.2 (.slice A1 r18.2.2.length c_1)] _ _ := h34
   have e21 : r18.2.2.length = a0.length := q33.trans e5
   refine RJ.run Za 5 rfl (RJ.fin [(0, _), (1, _), (2, _), (3, _), (10, _), (14, .int .i64 r18.1), (15, .bool r18.2.1)] rfl (J.envEq (env' := [(0, .slice A1 r18.2.2.length c_1), (1, .int .i64 x2), (2, .int .i64 x3), (3, .int .i64 x8), (10, .int .i64 (w64 (x3 - x2))), (14, .int .i64 r18.1), (15, .bool r18.2.1)]) (by simp only [q33]) (J.seq (J.region ?_))))
   refine RJ.run Za 2 rfl (RJ.fin [(0, _), (1, _), (2, _), (3, _), (9, .bool r18.2.1), (10, _), (14, _)] rfl (J.seq (J.region ?_)))
   refine RJ.run Za 8 rfl (RJ.fin [(0, _), (1, _), (2, _), (3, _), (9, _), (10, _), (14, _), (16, .int .i64 (w64 (r18.1 - x2))), (17, .int .i64 (w64 (x3 - r18.1)))] rfl (J.seq (J.region ?_)))
   refine RJ.run Za 3 rfl (RJ.fin [(0, _), (1, _), (2, _), (3, _), (9, _), (14, _), (16, _), (17, _), (18, .int .i64 (w64 (Int.tdiv (w64 (x3 - x2)) 8)))] rfl (J.seq (J.region ?_)))
   refine RJ.run Za 3 rfl (RJ.fin [(0, _), (1, _), (2, _), (3, _), (9, _), (14, _), (16, _), (17, _), (18, _), (113, .bool (decide ((w64 (r18.1 - x2)) < (w64 (x3 - r18.1)))))] rfl (J.cond rfl (fun c14 => ?_) (fun c14 => ?_)))
   ·replace H := Zi c14 H
    refine J.seq (J.region ?_)
    refine RJ.run Za 4 rfl (RJ.fin [(0, _), (1, _), (2, _), (3, _), (8, .bool (decide ((w64 (Int.tdiv (w64 (x3 - x2)) 8)) ≤ (w64 (r18.1 - x2))))), (9, _), (14, _)] rfl (J.seq (J.region ?_)))
    refine RJ.run Za 4 rfl ?_
    obtain ⟨r19, q34, H⟩ := Zj H
    refine RJ.op rfl rfl (Zd [0] (ih k3 (by omega) q34) rfl rfl rfl h34 rfl Zm) ?_
    rintro _ w26 ⟨_, ⟨rfl, rfl, q35⟩, h35⟩
    replace h35 : St w0 F0 [Zf 70 (.int .u32) r19 (.slice A1 r19.length c_1)] _ _ := h35
    have e22 : r19.length = a0.length := q35.trans e21
    refine RJ.fin [(0, _), (2, _), (3, _), (8, _), (9, _), (14, _)] rfl (J.envEq (env' := [(0, .slice A1 r19.length c_1), (2, .int .i64 x3), (3, .int .i64 x8), (8, .bool (decide ((w64 (Int.tdiv (w64 (x3 - x2)) 8)) ≤ (w64 (r18.1 - x2))))), (9, .bool r18.2.1), (14, .int .i64 r18.1)]) (by simp only [q35]) (J.region (RJ.run Za 3 rfl (RJ.fin [(0, _), (1, .int .i64 (w64 (r18.1 + 1))), (2, _), (3, _), (8, _), (9, _)] rfl ?_))))
    have h36 := ((h35.only [0] rfl).rds [] rfl)
    exact ⟨k3, by omega, r19, (w64 (r18.1 + 1)), x3, x8, (decide ((w64 (Int.tdiv (w64 (x3 - x2)) 8)) ≤ (w64 (r18.1 - x2)))), r18.2.1, rfl, h36, H, by omega, e22⟩
   replace H := Zg c14 H
   refine J.seq (J.region ?_)
   refine RJ.run Za 4 rfl (RJ.fin [(0, _), (1, _), (2, _), (3, _), (8, .bool (decide ((w64 (Int.tdiv (w64 (x3 - x2)) 8)) ≤ (w64 (x3 - r18.1))))), (9, _), (14, _)] rfl (J.seq (J.region ?_)))
   refine RJ.run Za 5 rfl ?_
   obtain ⟨r20, q36, H⟩ := Zj H
   refine RJ.op rfl rfl (Zd [0] (ih k3 (by omega) q36) rfl rfl rfl h34 rfl Zm) ?_
   rintro _ w27 ⟨_, ⟨rfl, rfl, q37⟩, h37⟩
   replace h37 : St w0 F0 [Zf 70 (.int .u32) r20 (.slice A1 r20.length c_1)] _ _ := h37
   have e23 : r20.length = a0.length := q37.trans e21
   refine RJ.fin [(0, _), (1, _), (3, _), (8, _), (9, _), (14, _)] rfl (J.envEq (env' := [(0, .slice A1 r20.length c_1), (1, .int .i64 x2), (3, .int .i64 x8), (8, .bool (decide ((w64 (Int.tdiv (w64 (x3 - x2)) 8)) ≤ (w64 (x3 - r18.1))))), (9, .bool r18.2.1), (14, .int .i64 r18.1)]) (by simp only [q37]) (J.region (RJ.run Za 2 rfl (RJ.fin [(0, _), (1, _), (2, .int .i64 r18.1), (3, _), (8, _), (9, _)] rfl ?_))))
   have h38 := ((h37.only [0] rfl).rds [] rfl)
   exact ⟨k3, by omega, r20, x2, r18.1, x8, (decide ((w64 (Int.tdiv (w64 (x3 - x2)) 8)) ≤ (w64 (x3 - r18.1)))), r18.2.1, rfl, h38, H, by omega, e23⟩
  replace H := Zg c3 H
  refine RJ.know (t := 62) rfl (congrArg Value.bool c3) (RJ.run Za 6 rfl (RJ.fin [(0, _), (1, _), (2, _), (3, _), (8, _), (9, _), (10, _), (11, _), (68, .bool false)] rfl (J.condF rfl (J.skip (J.seq (J.seq ?_))))))
  refine J.heldSt mix h6 ?_
  have h39 := h6.drew
  refine HJ.run Za rfl [0, 1, 2] rfl ?_
  rcases Bool.eq_false_or_eq_true (decide (0 < x2)) with c15 | c15
  ·replace H := Zi c15 H
   refine HJ.know (t := 75) rfl (congrArg Value.bool c15) (HJ.run Za rfl [3, 4, 5, 8, 9] rfl ?_)
   obtain ⟨⟨p9, p10⟩, H⟩ := Zo H
   have e24 := Zy h39.wh (Gives.of 0 rfl Zl) p9 p10
   refine HJ.q (i := 6) rfl rfl rfl rfl rfl rfl (Zk Za rfl rfl rfl rfl rfl e24 p9 p10) (HJ.q (i := 7) rfl rfl rfl rfl rfl rfl (Ze (f := 0) Za rfl (fun w e => e) (Gives.of 0 rfl Zl) p9 p10 rfl rfl rfl rfl rfl) ?_)
   obtain ⟨⟨p11, p12⟩, H⟩ := Zo H
   refine HJ.q (i := 10) rfl rfl rfl rfl rfl rfl (Zk Za rfl rfl rfl rfl rfl e24 p11 p12) (HJ.q (i := 11) rfl rfl rfl rfl rfl rfl (Ze (f := 0) Za rfl (fun w e => e) (Gives.of 0 rfl Zl) p11 p12 rfl rfl rfl rfl rfl) ?_)
   obtain ⟨r21, q38, H⟩ := Zj H
   refine HJ.op (i := 12) rfl rfl rfl rfl rfl (Zd [] (Q4.spec q38) rfl rfl rfl h39 rfl Zm) ?_
   rintro _ w28 ⟨_, ⟨rfl, rfl⟩, h40⟩
   replace h40 : St w0 F0 [_] _ _ := h40
   refine ⟨⟨[], h40⟩, ?_⟩
   refine HJ.run Za rfl [13, 14] rfl (HJ.fin [(0, _), (1, _), (2, _), (3, _), (8, _), (9, _), (10, _), (11, _), (87, .bool (!r21))] rfl rfl (J.cond rfl (fun c16 => ?_) (fun c16 => ?_)))
   ·replace H := Zi c16 H
    refine J.seq (J.region ?_)
    refine RJ.run Za 4 rfl ?_
    obtain ⟨r22, q39, H⟩ := Zj H
    refine RJ.op rfl rfl (Zd [0] (Q59.spec q39) rfl rfl rfl h40 rfl Zm) ?_
    rintro _ w29 ⟨_, ⟨rfl, rfl, q40⟩, h41⟩
    replace h41 : St w0 F0 [Zf 70 (.int .u32) r22.2 (.slice A1 r22.2.length c_1)] _ _ := h41
    have e25 : r22.2.length = a0.length := q40.trans e5
    refine RJ.run Za 1 rfl (RJ.fin [(0, _), (2, _), (3, _), (8, _), (9, _), (13, .int .i64 r22.1)] rfl (J.envEq (env' := [(0, .slice A1 r22.2.length c_1), (2, .int .i64 x3), (3, .int .i64 x8), (8, .bool x5), (9, .bool x6), (13, .int .i64 r22.1)]) (by simp only [q40]) (J.seq (J.region ?_))))
    refine RJ.run Za 2 rfl (RJ.fin [(0, _), (1, .int .i64 r22.1), (2, _), (3, _), (8, _), (9, _)] rfl (J.exit ?_))
    have h42 := ((h41.only [0] rfl).rds [] rfl)
    exact ⟨k3, by omega, r22.2, r22.1, x3, x8, x5, x6, rfl, h42, H, by omega, e25⟩
   replace H := Zg c16 H
   refine J.skip (J.seq (J.region ?_))
   refine RJ.run Za 4 rfl ?_
   obtain ⟨r23, q41, H⟩ := Zj H
   refine RJ.op rfl rfl (Zd [0] (Q60.spec q41) rfl rfl rfl h40 rfl Zm) ?_
   rintro _ w30 ⟨_, ⟨rfl, rfl, q42⟩, h43⟩
   replace h43 : St w0 F0 [Zf 70 (.int .u32) r23.2.2 (.slice A1 r23.2.2.length c_1)] _ _ := h43
   have e26 : r23.2.2.length = a0.length := q42.trans e5
   refine RJ.run Za 5 rfl (RJ.fin [(0, _), (1, _), (2, _), (3, _), (10, _), (14, .int .i64 r23.1), (15, .bool r23.2.1)] rfl (J.envEq (env' := [(0, .slice A1 r23.2.2.length c_1), (1, .int .i64 x2), (2, .int .i64 x3), (3, .int .i64 x8), (10, .int .i64 (w64 (x3 - x2))), (14, .int .i64 r23.1), (15, .bool r23.2.1)]) (by simp only [q42]) (J.seq (J.region ?_))))
   refine RJ.run Za 2 rfl (RJ.fin [(0, _), (1, _), (2, _), (3, _), (9, .bool r23.2.1), (10, _), (14, _)] rfl (J.seq (J.region ?_)))
   refine RJ.run Za 8 rfl (RJ.fin [(0, _), (1, _), (2, _), (3, _), (9, _), (10, _), (14, _), (16, .int .i64 (w64 (r23.1 - x2))), (17, .int .i64 (w64 (x3 - r23.1)))] rfl (J.seq (J.region ?_)))
   refine RJ.run Za 3 rfl (RJ.fin [(0, _), (1, _), (2, _), (3, _), (9, _), (14, _), (16, _), (17, _), (18, .int .i64 (w64 (Int.tdiv (w64 (x3 - x2)) 8)))] rfl (J.seq (J.region ?_)))
   refine RJ.run Za 3 rfl (RJ.fin [(0, _), (1, _), (2, _), (3, _), (9, _), (14, _), (16, _), (17, _), (18, _), (113, .bool (decide ((w64 (r23.1 - x2)) < (w64 (x3 - r23.1)))))] rfl (J.cond rfl (fun c17 => ?_) (fun c17 => ?_)))
   ·replace H := Zi c17 H
    refine J.seq (J.region ?_)
    refine RJ.run Za 4 rfl (RJ.fin [(0, _), (1, _), (2, _), (3, _), (8, .bool (decide ((w64 (Int.tdiv (w64 (x3 - x2)) 8)) ≤ (w64 (r23.1 - x2))))), (9, _), (14, _)] rfl (J.seq (J.region ?_)))
    refine RJ.run Za 4 rfl ?_
    obtain ⟨r24, q43, H⟩ := Zj H
    refine RJ.op rfl rfl (Zd [0] (ih k3 (by omega) q43) rfl rfl rfl h43 rfl Zm) ?_
    rintro _ w31 ⟨_, ⟨rfl, rfl, q44⟩, h44⟩
    replace h44 : St w0 F0 [Zf 70 (.int .u32) r24 (.slice A1 r24.length c_1)] _ _ := h44
    have e27 : r24.length = a0.length := q44.trans e26
    refine RJ.fin [(0, _), (2, _), (3, _), (8, _), (9, _), (14, _)] rfl (J.envEq (env' := [(0, .slice A1 r24.length c_1), (2, .int .i64 x3), (3, .int .i64 x8), (8, .bool (decide ((w64 (Int.tdiv (w64 (x3 - x2)) 8)) ≤ (w64 (r23.1 - x2))))), (9, .bool r23.2.1), (14, .int .i64 r23.1)]) (by simp only [q44]) (J.region (RJ.run Za 3 rfl (RJ.fin [(0, _), (1, .int .i64 (w64 (r23.1 + 1))), (2, _), (3, _), (8, _), (9, _)] rfl ?_))))
    have h45 := ((h44.only [0] rfl).rds [] rfl)
    exact ⟨k3, by omega, r24, (w64 (r23.1 + 1)), x3, x8, (decide ((w64 (Int.tdiv (w64 (x3 - x2)) 8)) ≤ (w64 (r23.1 - x2)))), r23.2.1, rfl, h45, H, by omega, e27⟩
   replace H := Zg c17 H
   refine J.seq (J.region ?_)
   refine RJ.run Za 4 rfl (RJ.fin [(0, _), (1, _), (2, _), (3, _), (8, .bool (decide ((w64 (Int.tdiv (w64 (x3 - x2)) 8)) ≤ (w64 (x3 - r23.1))))), (9, _), (14, _)] rfl (J.seq (J.region ?_)))
   refine RJ.run Za 5 rfl ?_
   obtain ⟨r25, q45, H⟩ := Zj H
   refine RJ.op rfl rfl (Zd [0] (ih k3 (by omega) q45) rfl rfl rfl h43 rfl Zm) ?_
   rintro _ w32 ⟨_, ⟨rfl, rfl, q46⟩, h46⟩
   replace h46 : St w0 F0 [Zf 70 (.int .u32) r25 (.slice A1 r25.length c_1)] _ _ := h46
   have e28 : r25.length = a0.length := q46.trans e26
   refine RJ.fin [(0, _), (1, _), (3, _), (8, _), (9, _), (14, _)] rfl (J.envEq (env' := [(0, .slice A1 r25.length c_1), (1, .int .i64 x2), (3, .int .i64 x8), (8, .bool (decide ((w64 (Int.tdiv (w64 (x3 - x2)) 8)) ≤ (w64 (x3 - r23.1))))), (9, .bool r23.2.1), (14, .int .i64 r23.1)]) (by simp only [q46]) (J.region (RJ.run Za 2 rfl (RJ.fin [(0, _), (1, _), (2, .int .i64 r23.1), (3, _), (8, _), (9, _)] rfl ?_))))
   have h47 := ((h46.only [0] rfl).rds [] rfl)
   exact ⟨k3, by omega, r25, x2, r23.1, x8, (decide ((w64 (Int.tdiv (w64 (x3 - x2)) 8)) ≤ (w64 (x3 - r23.1)))), r23.2.1, rfl, h47, H, by omega, e28⟩
  replace H := Zg c15 H
  refine HJ.know (t := 75) rfl (congrArg Value.bool c15) (HJ.run Za rfl [3, 4, 5, 6, 7, 8, 9, 10, 11, 12, 13, 14] rfl (HJ.fin [(0, _), (1, _), (2, _), (3, _), (8, _), (9, _), (10, _), (11, _), (87, .bool false)] rfl rfl (J.condF rfl (J.skip (J.seq (J.region ?_))))))
  refine RJ.run Za 4 rfl ?_
  obtain ⟨r26, q47, H⟩ := Zj H
  refine RJ.op rfl rfl (Zd [0] (Q60.spec q47) rfl rfl rfl h39 rfl Zm) ?_
  rintro _ w33 ⟨_, ⟨rfl, rfl, q48⟩, h48⟩
  replace h48 : St w0 F0 [Zf 70 (.int .u32) r26.2.2 (.slice A1 r26.2.2.length c_1)] _ _ := h48
  have e29 : r26.2.2.length = a0.length := q48.trans e5
  refine RJ.run Za 5 rfl (RJ.fin [(0, _), (1, _), (2, _), (3, _), (10, _), (14, .int .i64 r26.1), (15, .bool r26.2.1)] rfl (J.envEq (env' := [(0, .slice A1 r26.2.2.length c_1), (1, .int .i64 x2), (2, .int .i64 x3), (3, .int .i64 x8), (10, .int .i64 (w64 (x3 - x2))), (14, .int .i64 r26.1), (15, .bool r26.2.1)]) (by simp only [q48]) (J.seq (J.region ?_))))
  refine RJ.run Za 2 rfl (RJ.fin [(0, _), (1, _), (2, _), (3, _), (9, .bool r26.2.1), (10, _), (14, _)] rfl (J.seq (J.region ?_)))
  refine RJ.run Za 8 rfl (RJ.fin [(0, _), (1, _), (2, _), (3, _), (9, _), (10, _), (14, _), (16, .int .i64 (w64 (r26.1 - x2))), (17, .int .i64 (w64 (x3 - r26.1)))] rfl (J.seq (J.region ?_)))
  refine RJ.run Za 3 rfl (RJ.fin [(0, _), (1, _), (2, _), (3, _), (9, _), (14, _), (16, _), (17, _), (18, .int .i64 (w64 (Int.tdiv (w64 (x3 - x2)) 8)))] rfl (J.seq (J.region ?_)))
  refine RJ.run Za 3 rfl (RJ.fin [(0, _), (1, _), (2, _), (3, _), (9, _), (14, _), (16, _), (17, _), (18, _), (113, .bool (decide ((w64 (r26.1 - x2)) < (w64 (x3 - r26.1)))))] rfl (J.cond rfl (fun c18 => ?_) (fun c18 => ?_)))
  ·replace H := Zi c18 H
   refine J.seq (J.region ?_)
   refine RJ.run Za 4 rfl (RJ.fin [(0, _), (1, _), (2, _), (3, _), (8, .bool (decide ((w64 (Int.tdiv (w64 (x3 - x2)) 8)) ≤ (w64 (r26.1 - x2))))), (9, _), (14, _)] rfl (J.seq (J.region ?_)))
   refine RJ.run Za 4 rfl ?_
   obtain ⟨r27, q49, H⟩ := Zj H
   refine RJ.op rfl rfl (Zd [0] (ih k3 (by omega) q49) rfl rfl rfl h48 rfl Zm) ?_
   rintro _ w34 ⟨_, ⟨rfl, rfl, q50⟩, h49⟩
   replace h49 : St w0 F0 [Zf 70 (.int .u32) r27 (.slice A1 r27.length c_1)] _ _ := h49
   have e30 : r27.length = a0.length := q50.trans e29
   refine RJ.fin [(0, _), (2, _), (3, _), (8, _), (9, _), (14, _)] rfl (J.envEq (env' := [(0, .slice A1 r27.length c_1), (2, .int .i64 x3), (3, .int .i64 x8), (8, .bool (decide ((w64 (Int.tdiv (w64 (x3 - x2)) 8)) ≤ (w64 (r26.1 - x2))))), (9, .bool r26.2.1), (14, .int .i64 r26.1)]) (by simp only [q50]) (J.region (RJ.run Za 3 rfl (RJ.fin [(0, _), (1, .int .i64 (w64 (r26.1 + 1))), (2, _), (3, _), (8, _), (9, _)] rfl ?_))))
   have h50 := ((h49.only [0] rfl).rds [] rfl)
   exact ⟨k3, by omega, r27, (w64 (r26.1 + 1)), x3, x8, (decide ((w64 (Int.tdiv (w64 (x3 - x2)) 8)) ≤ (w64 (r26.1 - x2)))), r26.2.1, rfl, h50, H, by omega, e30⟩
  replace H := Zg c18 H
  refine J.seq (J.region ?_)
  refine RJ.run Za 4 rfl (RJ.fin [(0, _), (1, _), (2, _), (3, _), (8, .bool (decide ((w64 (Int.tdiv (w64 (x3 - x2)) 8)) ≤ (w64 (x3 - r26.1))))), (9, _), (14, _)] rfl (J.seq (J.region ?_)))
  refine RJ.run Za 5 rfl ?_
  obtain ⟨r28, q51, H⟩ := Zj H
  refine RJ.op rfl rfl (Zd [0] (ih k3 (by omega) q51) rfl rfl rfl h48 rfl Zm) ?_
  rintro _ w35 ⟨_, ⟨rfl, rfl, q52⟩, h51⟩
  replace h51 : St w0 F0 [Zf 70 (.int .u32) r28 (.slice A1 r28.length c_1)] _ _ := h51
  have e31 : r28.length = a0.length := q52.trans e29
  refine RJ.fin [(0, _), (1, _), (3, _), (8, _), (9, _), (14, _)] rfl (J.envEq (env' := [(0, .slice A1 r28.length c_1), (1, .int .i64 x2), (3, .int .i64 x8), (8, .bool (decide ((w64 (Int.tdiv (w64 (x3 - x2)) 8)) ≤ (w64 (x3 - r26.1))))), (9, .bool r26.2.1), (14, .int .i64 r26.1)]) (by simp only [q52]) (J.region (RJ.run Za 2 rfl (RJ.fin [(0, _), (1, _), (2, .int .i64 r26.1), (3, _), (8, _), (9, _)] rfl ?_))))
  have h52 := ((h51.only [0] rfl).rds [] rfl)
  exact ⟨k3, by omega, r28, x2, r26.1, x8, (decide ((w64 (Int.tdiv (w64 (x3 - x2)) 8)) ≤ (w64 (x3 - r26.1)))), r26.2.1, rfl, h52, H, by omega, e31⟩

def Q49.f (k : Nat) (a0 : List (Int)) : Option (List (Int)) := (Q0.f (IntKind.u64.wrap ((a0.length : Int)))).bind fun r1 => ((Q61.f k a0 0 (a0.length : Int) r1).bind fun r2 => (some r2))
theorem Q49.spec {k : Nat} {a0 : List (Int)} {A1 : Option Addr} {c_1 : Nat} {r : List (Int)} (H : Q49.f k a0 = some r) :
  Spec Tryz.prog 90 [.slice A1 a0.length c_1] [Zf 70 (.int .u32) a0 (.slice A1 a0.length c_1)] [] (fun v l => v = .tuple #[] ∧ l = [Zf 70 (.int .u32) r (.slice A1 r.length c_1)] ∧ r.length = a0.length) := by
 refine Spec.enter Tryz.func90 rfl (by kernel_rfl) (by kernel_rfl) fun w0 F0 h0 => ?_
 unfold Q49.f at H
 refine J.seq (J.region ?_)
 refine RJ.run Za 3 rfl (RJ.fin [(0, .slice A1 a0.length c_1), (2, .int .i64 (a0.length : Int))] rfl (J.region (RJ.run Za 4 rfl ?_)))
 obtain ⟨r1, q1, H⟩ := Zj H
 refine RJ.op rfl rfl (Zd [] (Q0.spec q1) rfl rfl rfl h0 rfl Zm) ?_
 rintro _ w1 ⟨_, ⟨rfl, rfl⟩, h1⟩
 replace h1 : St w0 F0 [Zf 70 (.int .u32) a0 (.slice A1 a0.length c_1)] _ _ := h1
 obtain ⟨r2, q2, H⟩ := Zj H
 refine RJ.op rfl rfl (Zd [0] (Q61.spec q2) rfl rfl rfl h1 rfl Zm) ?_
 rintro _ w2 ⟨_, ⟨rfl, rfl, q3⟩, h2⟩
 replace h2 : St w0 F0 [Zf 70 (.int .u32) r2 (.slice A1 r2.length c_1)] _ _ := h2
 have e1 : r2.length = a0.length := q3.trans (rfl : a0.length = a0.length)
 refine RJ.fin [] rfl ?_
 obtain rfl := Option.some.inj H
 exact ⟨_, _, _, (Zb rfl), ⟨rfl, rfl, e1⟩, h2.only [0] rfl⟩

def Q37.l1 : Nat → (Int) → (List (Int)) → (Int) → (Int) → Option (List (Int))
 | 0, _, _, _, _ => none
 | k + 1, x1, x2, x3, x4 => if (decide (x4 < ((x2.drop x1.toNat).length : Int))) = true then (if 0 ≤ x4 ∧ x4 < ((x2.drop x1.toNat).length : Int) then (if 0 ≤ (w64 (x4 - 1)) ∧ (w64 (x4 - 1)) < ((x2.drop x1.toNat).length : Int) then (if (!decide ((gt (x2.drop x1.toNat) x4) = (gt (x2.drop x1.toNat) (w64 (x4 - 1))))) = true then (if 0 ≤ x3 ∧ x3 < (x2.length : Int) then (Q37.l1 k x1 (x2.set x3.toNat (gt (x2.drop x1.toNat) x4)) (w64 (x3 + 1)) (w64 (x4 + 1))) else none) else (Q37.l1 k x1 x2 x3 (w64 (x4 + 1)))) else none) else none) else (if 0 ≤ x3 ∧ x3 ≤ (x2.length : Int) then (if (0 : Int) ≤ x3 ∧ x3 ≤ ((Yc x2 x3.toNat ((x2.drop x3.toNat).length) (List.replicate ((x2.drop x3.toNat).length) (0 : Int))).length : Int) then (some ((Yc x2 x3.toNat ((x2.drop x3.toNat).length) (List.replicate ((x2.drop x3.toNat).length) (0 : Int))).take x3.toNat)) else none) else none)
def Q37.l0 : Nat → (List (Int)) → (Int) → Option (List (Int))
 | 0, _, _ => none
 | k + 1, a0, x1 => if (decide (x1 < (a0.length : Int))) = true then (if 0 ≤ x1 ∧ x1 < (a0.length : Int) then (if 0 ≤ (w64 (x1 - 1)) ∧ (w64 (x1 - 1)) < (a0.length : Int) then (if (decide ((gt a0 x1) = (gt a0 (w64 (x1 - 1))))) = true then (if 0 ≤ x1 ∧ x1 ≤ (a0.length : Int) then (Q37.l1 k x1 a0 x1 1) else none) else (Q37.l0 k a0 (w64 (x1 + 1)))) else none) else none) else (some a0)
def Q37.f (k : Nat) (a0 : List (Int)) : Option (List (Int)) := if (decide ((a0.length : Int) < 2)) = true then (some a0) else (Q37.l0 k a0 1)
theorem Q37.spec {k : Nat} {a0 : List (Int)} {A1 : Option Addr} {c_1 : Nat} {r : List (Int)} (H : Q37.f k a0 = some r) :
  SpecA Tryz.prog 91 [.slice A1 a0.length c_1] [Zf 70 (.int .u32) a0 (.slice A1 a0.length c_1)] [] (fun v l lr => ∃ (A_0 : Option Addr) (c_0 : Nat), v = .slice A_0 r.length c_0 ∧ l = [] ∧ lr = [rdC 70 (.int .u32) r (.slice A_0 r.length c_0)]) := by
 refine SpecA.enter Tryz.func91 rfl (by kernel_rfl) (by kernel_rfl) fun w0 F0 h0 => ?_
 unfold Q37.f at H
 refine J.seq (J.region ?_)
 refine RJ.run Za 1 rfl (RJ.fin [(0, .slice A1 a0.length c_1)] rfl (J.seq (J.seq (J.region ?_))))
 refine RJ.run Za 3 rfl (RJ.fin [(0, _), (8, .bool (decide ((a0.length : Int) < 2)))] rfl (J.cond rfl (fun c1 => ?_) (fun c1 => ?_)))
 ·replace H := Zi c1 H
  refine J.seq (J.region ?_)
  refine RJ.run Za 2 rfl (RJ.fin [(2, .slice A1 a0.length c_1)] rfl (J.ret ?_))
  have h1 := h0.freeze (k := 0) rfl Zl
  obtain rfl := Option.some.inj H
  exact ⟨_, _, _, (Zb rfl), ⟨_, _, rfl, rfl, rfl⟩, (h1.only [] rfl).rds [0] rfl⟩
 replace H := Zg c1 H
 refine J.skip (J.seq (J.seq (J.region ?_)))
 refine RJ.run Za 1 rfl (RJ.fin [(0, _), (3, .int .i64 1)] rfl (J.block ?_))
 have h15 := ((h0.only [0] rfl).rds [] rfl)
 refine J.loop (fun kk env w => ∃ (x1 : Int), env = [(0, .slice A1 a0.length c_1), (3, .int .i64 x1)] ∧ St w0 F0 [Zf 70 (.int .u32) a0 (.slice A1 a0.length c_1)] [] w ∧ Q37.l0 kk a0 x1 = some r) (k := k) ⟨1, rfl, h15, H⟩ ?_
 rintro k1 env w1 ⟨x1, rfl, h2, H⟩
 cases k1 with
 | zero => exact nomatch (show none = some r from H)
 | succ k1 =>
  rw [Q37.l0] at H
  refine J.seq (J.seq (J.region ?_))
  refine RJ.run Za 4 rfl (RJ.fin [(0, _), (3, _), (13, .bool (decide (x1 < (a0.length : Int))))] rfl (J.cond rfl (fun c2 => ?_) (fun c2 => ?_)))
  ·replace H := Zi c2 H
   refine J.skip (J.seq (J.block (J.seq ?_)))
   refine J.heldSt mix h2 ?_
   have h3 := h2.drew
   refine HJ.run Za rfl [0, 1, 4, 5, 6] rfl ?_
   obtain ⟨⟨p1, p2⟩, H⟩ := Zo H
   have e1 := Zy h3.wh (Gives.of 0 rfl Zl) p1 p2
   refine HJ.q (i := 2) rfl rfl rfl rfl rfl rfl (Zk Za rfl rfl rfl rfl rfl e1 p1 p2) (HJ.q (i := 3) rfl rfl rfl rfl rfl rfl (Ze (f := 0) Za rfl (fun w e => e) (Gives.of 0 rfl Zl) p1 p2 rfl rfl rfl rfl rfl) ?_)
   obtain ⟨⟨p3, p4⟩, H⟩ := Zo H
   refine HJ.q (i := 7) rfl rfl rfl rfl rfl rfl (Zk Za rfl rfl rfl rfl rfl e1 p3 p4) (HJ.q (i := 8) rfl rfl rfl rfl rfl rfl (Ze (f := 0) Za rfl (fun w e => e) (Gives.of 0 rfl Zl) p3 p4 rfl rfl rfl rfl rfl) ?_)
   refine HJ.run Za rfl [9] rfl (HJ.fin [(0, _), (3, _), (25, .bool (decide ((gt a0 x1) = (gt a0 (w64 (x1 - 1))))))] rfl rfl (J.cond rfl (fun c3 => ?_) (fun c3 => ?_)))
   ·replace H := Zi c3 H
    refine J.seq (J.region ?_)
    refine RJ.run Za 2 rfl ?_
    obtain ⟨⟨p5, p6⟩, H⟩ := Zo H
    have e2 := h3.cap (Gives.of 0 rfl Zl)
    refine RJ.q rfl rfl (Ge (l := x1) (h := (a0.length : Int)) (sub := (a0.drop x1.toNat)) Za rfl rfl rfl rfl e2 ⟨_, rfl⟩ rfl p5 p6 (Int.le_refl _) (Xc _ _)) (RJ.run Za 1 rfl (RJ.fin [(0, _), (3, _), (4, .slice (Xp A1 c_1 x1.toNat 1) (a0.drop x1.toNat).length (c_1 - x1.toNat))] rfl (J.seq (J.seq (J.region ?_)))))
    refine RJ.run Za 1 rfl (RJ.fin [(0, _), (3, _), (4, _), (5, .int .i64 1)] rfl (J.block ?_))
    have h12 := ((h3.only [0] rfl).rds [] rfl)
    refine J.loop (fun kk env w => ∃ (x2 : List (Int)) (x3 : Int) (x4 : Int), env = [(0, .slice A1 x2.length c_1), (3, .int .i64 x3), (4, .slice (Xp A1 c_1 x1.toNat 1) (x2.drop x1.toNat).length (c_1 - x1.toNat)), (5, .int .i64 x4)] ∧ St w0 F0 [Zf 70 (.int .u32) x2 (.slice A1 x2.length c_1)] [] w ∧ Q37.l1 kk x1 x2 x3 x4 = some r ∧ kk ≤ k1 ∧ x2.length = a0.length) (k := k1) ⟨a0, x1, 1, rfl, h12, H, Nat.le_refl _, (rfl : a0.length = a0.length)⟩ ?_
    rintro k2 env w2 ⟨x2, x3, x4, rfl, h4, H, hk2, e3⟩
    cases k2 with
    | zero => exact nomatch (show none = some r from H)
    | succ k2 =>
     rw [Q37.l1] at H
     refine J.seq (J.seq (J.region ?_))
     refine RJ.run Za 4 rfl (RJ.fin [(0, _), (3, _), (4, _), (5, _), (32, .bool (decide (x4 < ((x2.drop x1.toNat).length : Int))))] rfl (J.cond rfl (fun c4 => ?_) (fun c4 => ?_)))
     ·replace H := Zi c4 H
      refine J.skip (J.seq (J.block (J.seq ?_)))
      refine J.heldSt mix h4 ?_
      have h5 := h4.drew
      refine HJ.run Za rfl [0, 1, 4, 5, 6] rfl ?_
      obtain ⟨⟨p7, p8⟩, H⟩ := Zo H
      have e4 := Zy h5.wh ((Gives.of 0 rfl Zl).trans (W0 (ty := (.int .u32)) (l := x1) (h := (x2.length : Int)) (sub := (x2.drop x1.toNat)) rfl (by omega) (by omega) (by omega) (Xc _ _))) p7 p8
      refine HJ.q (i := 2) rfl rfl rfl rfl rfl rfl (Zk Za rfl rfl rfl rfl rfl e4 p7 p8) (HJ.q (i := 3) rfl rfl rfl rfl rfl rfl (Ze (f := 0) Za rfl (fun w e => e) ((Gives.of 0 rfl Zl).trans (W0 (ty := (.int .u32)) (l := x1) (h := (x2.length : Int)) (sub := (x2.drop x1.toNat)) rfl (by omega) (by omega) (by omega) (Xc _ _))) p7 p8 rfl rfl rfl rfl rfl) ?_)
      obtain ⟨⟨p9, p10⟩, H⟩ := Zo H
      refine HJ.q (i := 7) rfl rfl rfl rfl rfl rfl (Zk Za rfl rfl rfl rfl rfl e4 p9 p10) (HJ.q (i := 8) rfl rfl rfl rfl rfl rfl (Ze (f := 0) Za rfl (fun w e => e) ((Gives.of 0 rfl Zl).trans (W0 (ty := (.int .u32)) (l := x1) (h := (x2.length : Int)) (sub := (x2.drop x1.toNat)) rfl (by omega) (by omega) (by omega) (Xc _ _))) p9 p10 rfl rfl rfl rfl rfl) ?_)
      refine HJ.run Za rfl [9] rfl (HJ.fin [(0, _), (3, _), (4, _), (5, _), (44, .bool (!decide ((gt (x2.drop x1.toNat) x4) = (gt (x2.drop x1.toNat) (w64 (x4 - 1))))))] rfl rfl (J.cond rfl (fun c5 => ?_) (fun c5 => ?_)))
      ·replace H := Zi c5 H
       refine J.seq (J.region ?_)
       refine RJ.run Za 4 rfl (RJ.q rfl rfl (Zk Za rfl rfl rfl rfl rfl e4 p7 p8) (RJ.q rfl rfl (Ze (f := 0) Za rfl h5.wht ((Gives.of 0 rfl Zl).trans (W0 (ty := (.int .u32)) (l := x1) (h := (x2.length : Int)) (sub := (x2.drop x1.toNat)) rfl (by omega) (by omega) (by omega) (Xc _ _))) p7 p8 rfl rfl rfl rfl rfl) ?_))
       obtain ⟨⟨p11, p12⟩, H⟩ := Zo H
       refine RJ.q rfl rfl (Zk Za rfl rfl rfl rfl rfl e1 p11 p12) (RJ.op rfl rfl (Zp (ty := (.int .u32)) (f := 0) (ix := x3) Za rfl (gt (x2.drop x1.toNat) x4) 0 rfl h5 rfl rfl p11 p12 rfl rfl rfl rfl rfl rfl rfl) ?_)
       intro _ w3 h6
       replace h6 : St w0 F0 [Zf 70 (.int .u32) (x2.set x3.toNat (gt (x2.drop x1.toNat) x4)) (.slice A1 (x2.set x3.toNat (gt (x2.drop x1.toNat) x4)).length c_1)] _ _ := h6
       have e5 : (x2.set x3.toNat (gt (x2.drop x1.toNat) x4)).length = a0.length := List.length_set.trans e3
       refine RJ.fin [(0, _), (3, _), (4, _), (5, _)] rfl (J.envEq (env' := [(0, .slice A1 (x2.set x3.toNat (gt (x2.drop x1.toNat) x4)).length c_1), (3, .int .i64 x3), (4, .slice (Xp A1 c_1 x1.toNat 1) ((x2.set x3.toNat (gt (x2.drop x1.toNat) x4)).drop x1.toNat).length (c_1 - x1.toNat)), (5, .int .i64 x4)]) (by first | (simp only [List.length_set]; done) | (simp only [List.length_set] <;> simp only [List.length_drop]; done) | simp only [List.length_set, List.length_drop]) (J.region (RJ.run Za 3 rfl (RJ.fin [(0, _), (3, .int .i64 (w64 (x3 + 1))), (4, _), (5, _)] rfl (J.region (RJ.run Za 3 rfl (RJ.fin [(0, _), (3, _), (4, _), (5, .int .i64 (w64 (x4 + 1)))] rfl ?_)))))))
       have h7 := ((h6.only [0] rfl).rds [] rfl)
       exact ⟨k2, by omega, (x2.set x3.toNat (gt (x2.drop x1.toNat) x4)), (w64 (x3 + 1)), (w64 (x4 + 1)), rfl, h7, H, by omega, e5⟩
      replace H := Zg c5 H
      refine J.skip (J.region (RJ.run Za 3 rfl (RJ.fin [(0, _), (3, _), (4, _), (5, .int .i64 (w64 (x4 + 1)))] rfl ?_)))
      have h8 := ((h5.only [0] rfl).rds [] rfl)
      exact ⟨k2, by omega, x2, x3, (w64 (x4 + 1)), rfl, h8, H, by omega, e3⟩
     replace H := Zg c4 H
     refine J.exit (J.seq (J.region ?_))
     refine RJ.run Za 2 rfl ?_
     obtain ⟨⟨p13, p14⟩, H⟩ := Zo H
     have e6 := h4.cap (Gives.of 0 rfl Zl)
     refine RJ.q rfl rfl (Ge (l := x3) (h := (x2.length : Int)) (sub := (x2.drop x3.toNat)) Za rfl rfl rfl rfl e6 ⟨_, rfl⟩ rfl p13 p14 (Int.le_refl _) (Xc _ _)) ?_
     have e7 : x3.toNat + (x2.drop x3.toNat).length ≤ x2.length := by simp only [List.length_drop]; omega
     refine RJ.op rfl rfl (Za5 Za (ty := (.int .u32)) (xs := x2) rfl (0 : Int) 0 rfl h4 rfl rfl rfl rfl rfl rfl e7) ?_
     rintro _ w4 h9
     replace h9 : St w0 F0 [Zf 70 (.int .u32) (Yc x2 x3.toNat ((x2.drop x3.toNat).length) (List.replicate ((x2.drop x3.toNat).length) (0 : Int))) (.slice A1 (Yc x2 x3.toNat ((x2.drop x3.toNat).length) (List.replicate ((x2.drop x3.toNat).length) (0 : Int))).length c_1)] _ _ := h9
     have e8 : (Yc x2 x3.toNat ((x2.drop x3.toNat).length) (List.replicate ((x2.drop x3.toNat).length) (0 : Int))).length = a0.length := (Y1 e7).trans e3
     refine RJ.fin [(0, _), (3, _)] rfl (J.envEq (env' := [(0, .slice A1 (Yc x2 x3.toNat ((x2.drop x3.toNat).length) (List.replicate ((x2.drop x3.toNat).length) (0 : Int))).length c_1), (3, .int .i64 x3)]) (by first | (simp only [Y1 e7]; done) | (simp only [Y1 e7] <;> simp only [List.length_drop]; done) | simp only [Y1 e7, List.length_drop]) (J.seq (J.region ?_)))
     refine RJ.run Za 2 rfl ?_
     obtain ⟨⟨p15, p16⟩, H⟩ := Zo H
     have e9 := h9.cap (Gives.of 0 rfl Zl)
     refine RJ.q rfl rfl (Zaw (h := x3) (sub := ((Yc x2 x3.toNat ((x2.drop x3.toNat).length) (List.replicate ((x2.drop x3.toNat).length) (0 : Int))).take x3.toNat)) Za rfl rfl rfl rfl e9 ⟨_, rfl⟩ p15 p16 rfl) (RJ.run Za 1 rfl (RJ.fin [(2, .slice A1 ((Yc x2 x3.toNat ((x2.drop x3.toNat).length) (List.replicate ((x2.drop x3.toNat).length) (0 : Int))).take x3.toNat).length c_1)] rfl (J.ret ?_)))
     have h10 := h9.freeze (k := 0) rfl Zl
     have h11 := h10.read (k := 0) rfl (Gn (ty := (.int .u32)) (h := x3) (sub := ((Yc x2 x3.toNat ((x2.drop x3.toNat).length) (List.replicate ((x2.drop x3.toNat).length) (0 : Int))).take x3.toNat)) p15 p16 rfl)
     obtain rfl := Option.some.inj H
     exact ⟨_, _, _, (Zb rfl), ⟨_, _, rfl, rfl, rfl⟩, (h11.only [] rfl).rds [0] rfl⟩
   replace H := Zg c3 H
   refine J.skip (J.region (RJ.run Za 3 rfl (RJ.fin [(0, _), (3, .int .i64 (w64 (x1 + 1)))] rfl ?_)))
   have h13 := ((h3.only [0] rfl).rds [] rfl)
   exact ⟨k1, by omega, (w64 (x1 + 1)), rfl, h13, H⟩
  replace H := Zg c2 H
  refine J.exit (J.seq (J.region ?_))
  refine RJ.run Za 2 rfl (RJ.fin [(2, .slice A1 a0.length c_1)] rfl (J.ret ?_))
  have h14 := h2.freeze (k := 0) rfl Zl
  obtain rfl := Option.some.inj H
  exact ⟨_, _, _, (Zb rfl), ⟨_, _, rfl, rfl, rfl⟩, (h14.only [] rfl).rds [0] rfl⟩

def Q32.f (k : Nat) (a0 : Int × Int × Int × Int × Int × Int × Int × Int) (a1 : List (Int)) : Option (Bool) := (Q36.f a1).bind fun r1 => ((Q49.f k r1).bind fun r2 => (if (decide ((a1.length : Int) < 1)) = true then (some false) else (if (decide (a0.2.2.2.1 < (a1.length : Int))) = true then (some false) else (if 0 < (r2.length : Int) then (if (decide ((gt r2 0) = 0)) = true then (some false) else (if 0 ≤ (w64 ((a1.length : Int) - 1)) ∧ (w64 ((a1.length : Int) - 1)) < (r2.length : Int) then (if (decide (a0.1 ≤ (w64 ((gt r2 (w64 ((a1.length : Int) - 1))))))) = true then (some false) else ((Q37.f k r2).bind fun r3 => (some (decide ((r3.length : Int) = (a1.length : Int)))))) else none)) else none))))
theorem Q32.spec {k : Nat} {a0 : Int × Int × Int × Int × Int × Int × Int × Int} {a1 : List (Int)} {A1 : Option Addr} {c_1 : Nat} {r : Bool} (H : Q32.f k a0 a1 = some r) :
  Spec Tryz.prog 71 [.agg #[.int .i64 a0.1, .int .i64 a0.2.1, .int .i64 a0.2.2.1, .int .i64 a0.2.2.2.1, .int .i64 a0.2.2.2.2.1, .int .i64 a0.2.2.2.2.2.1, .int .i64 a0.2.2.2.2.2.2.1, .int .i64 a0.2.2.2.2.2.2.2], .slice A1 a1.length c_1] [] [rdC 70 (.int .u32) a1 (.slice A1 a1.length c_1)] (fun v l => v = .bool r ∧ l = []) := by
 refine Spec.enter Tryz.func71 rfl (by kernel_rfl) (by kernel_rfl) fun w0 F0 h0 => ?_
 unfold Q32.f at H
 refine J.seq (J.region ?_)
 refine RJ.op rfl rfl (Z2 rfl rfl h0) ?_
 rintro _ w1 ⟨b1, rfl, h1⟩
 replace h1 : St w0 F0 [Zh b1 23 [.int .i64 a0.1, .int .i64 a0.2.1, .int .i64 a0.2.2.1, .int .i64 a0.2.2.2.1, .int .i64 a0.2.2.2.2.1, .int .i64 a0.2.2.2.2.2.1, .int .i64 a0.2.2.2.2.2.2.1, .int .i64 a0.2.2.2.2.2.2.2]] _ _ := h1
 refine RJ.run Za 1 rfl (RJ.fin [(1, .slice A1 a1.length c_1), (2, .pointer (some ⟨b1, 0, none⟩))] rfl (J.seq (J.region ?_)))
 refine RJ.run Za 1 rfl ?_
 obtain ⟨r1, q1, H⟩ := Zj H
 refine RJ.op rfl rfl (Zd [] (Q36.spec q1) rfl rfl rfl h1 rfl (Zr (Gives.self 1 rfl) Zm)) ?_
 rintro _ w2 ⟨_, ⟨A2, c_2, rfl, rfl⟩, h2⟩
 replace h2 : St w0 F0 [Zf 70 (.int .u32) r1 (.slice A2 r1.length c_2), _] _ _ := h2
 refine RJ.run Za 1 rfl (RJ.fin [(1, _), (2, _), (5, .slice A2 r1.length c_2)] rfl (J.seq (J.region ?_)))
 refine RJ.run Za 1 rfl ?_
 obtain ⟨r2, q2, H⟩ := Zj H
 refine RJ.op rfl rfl (Zd [0] (Q49.spec q2) rfl rfl rfl h2 rfl Zm) ?_
 rintro _ w3 ⟨_, ⟨rfl, rfl, q3⟩, h3⟩
 replace h3 : St w0 F0 [Zf 70 (.int .u32) r2 (.slice A2 r2.length c_2), _] _ _ := h3
 refine RJ.fin [(1, _), (2, _), (5, _)] rfl (J.envEq (env' := [(1, .slice A1 a1.length c_1), (2, .pointer (some ⟨b1, 0, none⟩)), (5, .slice A2 r2.length c_2)]) (by simp only [q3]) (J.seq (J.seq ?_)))
 refine J.heldSt mix h3 ?_
 have h4 := h3.drew
 refine HJ.run Za rfl [0, 1, 2, 3] rfl ?_
 rcases Bool.eq_false_or_eq_true (decide ((a1.length : Int) < 1)) with c1 | c1
 ·replace H := Zi c1 H
  refine HJ.know (t := 13) rfl (congrArg Value.bool c1) (HJ.run Za rfl [4, 5, 6, 7, 8, 9, 10, 11, 12, 13, 14, 15, 16, 17, 18, 19, 20, 21, 22, 23, 24, 25, 26, 27] rfl (HJ.fin [(1, _), (5, _), (37, .bool true)] rfl rfl (J.condT rfl (J.seq (J.region ?_)))))
  refine RJ.run Za 1 rfl (RJ.fin [(4, .bool false)] rfl ?_)
  have h5 := h4.only [] rfl
  replace h5 : St w0 F0 [] _ _ := h5
  refine J.ret ?_
  obtain rfl := Option.some.inj H
  exact ⟨_, _, _, (Zb rfl), ⟨rfl, rfl⟩, h5.only [] rfl⟩
 replace H := Zg c1 H
 refine HJ.know (t := 13) rfl (congrArg Value.bool c1) (HJ.run Za rfl [4, 5, 6] rfl (HJ.q (i := 7) rfl rfl rfl rfl rfl rfl (Zc Za 1 (fun w e => e) rfl rfl rfl rfl rfl) ?_))
 refine HJ.run Za rfl [8, 9, 10] rfl ?_
 rcases Bool.eq_false_or_eq_true (decide (a0.2.2.2.1 < (a1.length : Int))) with c2 | c2
 ·replace H := Zi c2 H
  refine HJ.know (t := 20) rfl (congrArg Value.bool c2) (HJ.run Za rfl [11, 12, 13, 14, 15, 16, 17, 18, 19, 20, 21, 22, 23, 24, 25, 26, 27] rfl (HJ.fin [(1, _), (5, _), (37, .bool true)] rfl rfl (J.condT rfl (J.seq (J.region ?_)))))
  refine RJ.run Za 1 rfl (RJ.fin [(4, .bool false)] rfl ?_)
  have h6 := h4.only [] rfl
  replace h6 : St w0 F0 [] _ _ := h6
  refine J.ret ?_
  obtain rfl := Option.some.inj H
  exact ⟨_, _, _, (Zb rfl), ⟨rfl, rfl⟩, h6.only [] rfl⟩
 replace H := Zg c2 H
 refine HJ.know (t := 20) rfl (congrArg Value.bool c2) (HJ.run Za rfl [11] rfl ?_)
 obtain ⟨p1, H⟩ := Zo H
 have e1 := Zy h4.wh (Gives.of 0 rfl Zl) (by decide) p1
 refine HJ.q (i := 12) rfl rfl rfl rfl rfl rfl (Zk Za rfl rfl rfl rfl rfl e1 (by decide) p1) (HJ.q (i := 13) rfl rfl rfl rfl rfl rfl (Ze (f := 0) Za rfl (fun w e => e) (Gives.of 0 rfl Zl) (by decide) p1 rfl rfl rfl rfl rfl) ?_)
 refine HJ.run Za rfl [14, 15, 16] rfl ?_
 rcases Bool.eq_false_or_eq_true (decide ((gt r2 0) = 0)) with c3 | c3
 ·replace H := Zi c3 H
  refine HJ.know (t := 26) rfl (congrArg Value.bool c3) (HJ.run Za rfl [17, 18, 19, 20, 21, 22, 23, 24, 25, 26, 27] rfl (HJ.fin [(1, _), (5, _), (37, .bool true)] rfl rfl (J.condT rfl (J.seq (J.region ?_)))))
  refine RJ.run Za 1 rfl (RJ.fin [(4, .bool false)] rfl ?_)
  have h7 := h4.only [] rfl
  replace h7 : St w0 F0 [] _ _ := h7
  refine J.ret ?_
  obtain rfl := Option.some.inj H
  exact ⟨_, _, _, (Zb rfl), ⟨rfl, rfl⟩, h7.only [] rfl⟩
 replace H := Zg c3 H
 refine HJ.know (t := 26) rfl (congrArg Value.bool c3) (HJ.run Za rfl [17, 18, 19, 20, 24] rfl ?_)
 obtain ⟨⟨p2, p3⟩, H⟩ := Zo H
 refine HJ.q (i := 21) rfl rfl rfl rfl rfl rfl (Zk Za rfl rfl rfl rfl rfl e1 p2 p3) (HJ.q (i := 22) rfl rfl rfl rfl rfl rfl (Ze (f := 0) Za rfl (fun w e => e) (Gives.of 0 rfl Zl) p2 p3 rfl rfl rfl rfl rfl) ?_)
 refine HJ.run Za rfl [23] rfl (HJ.q (i := 25) rfl rfl rfl rfl rfl rfl (Zc Za 1 (fun w e => e) rfl rfl rfl rfl rfl) ?_)
 refine HJ.run Za rfl [26, 27] rfl (HJ.fin [(1, _), (5, _), (37, .bool (decide (a0.1 ≤ (w64 ((gt r2 (w64 ((a1.length : Int) - 1))))))))] rfl rfl (J.cond rfl (fun c4 => ?_) (fun c4 => ?_)))
 ·replace H := Zi c4 H
  refine J.seq (J.region ?_)
  refine RJ.run Za 1 rfl (RJ.fin [(4, .bool false)] rfl ?_)
  have h8 := h4.only [] rfl
  replace h8 : St w0 F0 [] _ _ := h8
  refine J.ret ?_
  obtain rfl := Option.some.inj H
  exact ⟨_, _, _, (Zb rfl), ⟨rfl, rfl⟩, h8.only [] rfl⟩
 replace H := Zg c4 H
 refine J.skip (J.seq (J.region ?_))
 refine RJ.run Za 1 rfl ?_
 obtain ⟨r3, q4, H⟩ := Zj H
 refine RJ.op rfl rfl (Z9 [0] (Q37.spec q4) rfl rfl rfl h4 rfl Zm) ?_
 rintro _ w4 ⟨_, _, ⟨A3, c_3, rfl, rfl, rfl⟩, h9⟩
 replace h9 : St w0 F0 [_] _ _ := h9
 refine RJ.run Za 5 rfl (RJ.fin [(4, .bool (decide ((r3.length : Int) = (a1.length : Int))))] rfl (J.ret ?_))
 obtain rfl := Option.some.inj H
 exact ⟨_, _, _, (Zb rfl), ⟨rfl, rfl⟩, h9.only [] rfl⟩

end Go.SK.T
