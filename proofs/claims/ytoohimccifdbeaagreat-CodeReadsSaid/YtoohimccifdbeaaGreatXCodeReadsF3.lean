/- The functions, further. -/
import Derived.Test.YtoohimccifdbeaaGreatXCodeReadsF2
set_option linter.unusedVariables false
set_option linter.unusedSimpArgs false
set_option maxRecDepth 20000
set_option maxHeartbeats 40000000
namespace Go.SK.T
open Go Go.SK Go.Proofs
def Q72.l1 : Nat → (Int × Int × Int × Int × Int × Int × Int × Int) → (Int) → (Int) → Option (Int)
 | 0, _, _, _ => none
 | k + 1, a0, x3, x4 => if (decide (x4 < a0.2.2.2.2.1)) = true then (Q72.l1 k a0 (w64 ((w64 ((w64 (x3 + 4)) + a0.2.2.2.2.2.2.1)) + a0.2.2.2.2.2.2.2)) (w64 (x4 + 1))) else (some x3)
def Q72.l0 : Nat → (Int × Int × Int × Int × Int × Int × Int × Int) → (Int) → (Int) → Option (Int)
 | 0, _, _, _ => none
 | k + 1, a0, x1, x2 => if (decide (x2 < a0.2.2.2.1)) = true then (if (decide (0 < x2)) = true then (Q72.l0 k a0 (w64 ((w64 ((w64 (x1 + 4)) + 1)) + a0.2.2.2.2.2.2.1)) (w64 (x2 + 1))) else (Q72.l0 k a0 (w64 (x1 + 4)) (w64 (x2 + 1)))) else (Q72.l1 k a0 x1 0)
def Q72.f (k : Nat) (a0 : Int × Int × Int × Int × Int × Int × Int × Int) : Option (Int) := (Q75.f (a0.1, a0.2.1, a0.2.2.1, a0.2.2.2.1, a0.2.2.2.2.1, a0.2.2.2.2.2.1, a0.2.2.2.2.2.2.1, a0.2.2.2.2.2.2.2)).bind fun r1 => (if (!r1) = true then (some 0) else (Q72.l0 k a0 8 0))
theorem Q72.spec {k : Nat} {a0 : Int × Int × Int × Int × Int × Int × Int × Int}  {r : Int} (H : Q72.f k a0 = some r) :
  Spec Tryz.prog 47 [.agg #[.int .i64 a0.1, .int .i64 a0.2.1, .int .i64 a0.2.2.1, .int .i64 a0.2.2.2.1, .int .i64 a0.2.2.2.2.1, .int .i64 a0.2.2.2.2.2.1, .int .i64 a0.2.2.2.2.2.2.1, .int .i64 a0.2.2.2.2.2.2.2]] [] [] (fun v l => v = .int .i64 r ∧ l = []) := by
 refine Spec.enter Tryz.func47 rfl (by kernel_rfl) (by kernel_rfl) fun w0 F0 h0 => ?_
 unfold Q72.f at H
 refine J.seq (J.region ?_)
 refine RJ.op rfl rfl (Z2 rfl rfl h0) ?_
 rintro _ w1 ⟨b1, rfl, h1⟩
 replace h1 : St w0 F0 [Zh b1 23 [.int .i64 a0.1, .int .i64 a0.2.1, .int .i64 a0.2.2.1, .int .i64 a0.2.2.2.1, .int .i64 a0.2.2.2.2.1, .int .i64 a0.2.2.2.2.2.1, .int .i64 a0.2.2.2.2.2.2.1, .int .i64 a0.2.2.2.2.2.2.2]] _ _ := h1
 refine RJ.run Za 1 rfl (RJ.fin [(1, .pointer (some ⟨b1, 0, none⟩))] rfl (J.seq (J.seq (J.region ?_))))
 refine RJ.q rfl rfl (Zc Za 0 h1.wht rfl rfl rfl rfl rfl) ?_
 obtain ⟨r1, q1, H⟩ := Zj H
 refine RJ.op rfl rfl (Zd [] (Q75.spec q1) rfl rfl rfl h1 rfl Zm) ?_
 rintro _ w2 ⟨_, ⟨rfl, rfl⟩, h2⟩
 replace h2 : St w0 F0 [_] _ _ := h2
 refine RJ.run Za 1 rfl (RJ.fin [(1, _), (8, .bool (!r1))] rfl (J.cond rfl (fun c1 => ?_) (fun c1 => ?_)))
 ·replace H := Zi c1 H
  refine J.seq (J.region ?_)
  refine RJ.run Za 1 rfl (RJ.fin [(2, .int .i64 0)] rfl (J.ret ?_))
  obtain rfl := Option.some.inj H
  exact ⟨_, _, _, (Zb rfl), ⟨rfl, rfl⟩, h2.only [] rfl⟩
 replace H := Zg c1 H
 refine J.skip (J.seq (J.region ?_))
 refine RJ.run Za 1 rfl (RJ.fin [(1, _), (3, .int .i64 8)] rfl (J.seq (J.seq (J.region ?_))))
 refine RJ.run Za 1 rfl (RJ.fin [(1, _), (3, _), (4, .int .i64 0)] rfl (J.block ?_))
 have h9 := ((h2.only [0] rfl).rds [] rfl)
 refine J.loop (fun kk env w => ∃ (x1 : Int) (x2 : Int), env = [(1, .pointer (some ⟨b1, 0, none⟩)), (3, .int .i64 x1), (4, .int .i64 x2)] ∧ St w0 F0 [Zh b1 23 [.int .i64 a0.1, .int .i64 a0.2.1, .int .i64 a0.2.2.1, .int .i64 a0.2.2.2.1, .int .i64 a0.2.2.2.2.1, .int .i64 a0.2.2.2.2.2.1, .int .i64 a0.2.2.2.2.2.2.1, .int .i64 a0.2.2.2.2.2.2.2]] [] w ∧ Q72.l0 kk a0 x1 x2 = some r) (k := k) ⟨8, 0, rfl, h9, H⟩ ?_
 rintro k1 env w3 ⟨x1, x2, rfl, h3, H⟩
 cases k1 with
 | zero => exact nomatch (show none = some r from H)
 | succ k1 =>
  rw [Q72.l0] at H
  refine J.seq (J.seq (J.region ?_))
  refine RJ.run Za 2 rfl (RJ.q rfl rfl (Zc Za 0 h3.wht rfl rfl rfl rfl rfl) (RJ.run Za 1 rfl (RJ.fin [(1, _), (3, _), (4, _), (12, .bool (decide (x2 < a0.2.2.2.1)))] rfl (J.cond rfl (fun c2 => ?_) (fun c2 => ?_)))))
  ·replace H := Zi c2 H
   refine J.skip (J.seq (J.block (J.seq (J.region ?_))))
   refine RJ.run Za 3 rfl (RJ.fin [(1, _), (3, .int .i64 (w64 (x1 + 4))), (4, _)] rfl (J.seq (J.region ?_)))
   refine RJ.run Za 2 rfl (RJ.fin [(1, _), (3, _), (4, _), (18, .bool (decide (0 < x2)))] rfl (J.cond rfl (fun c3 => ?_) (fun c3 => ?_)))
   ·replace H := Zi c3 H
    refine J.region (RJ.run Za 3 rfl (RJ.q rfl rfl (Zc Za 0 h3.wht rfl rfl rfl rfl rfl) (RJ.run Za 2 rfl (RJ.fin [(1, _), (3, .int .i64 (w64 ((w64 ((w64 (x1 + 4)) + 1)) + a0.2.2.2.2.2.2.1))), (4, _)] rfl (J.region (RJ.run Za 3 rfl (RJ.fin [(1, _), (3, _), (4, .int .i64 (w64 (x2 + 1)))] rfl ?_)))))))
    have h4 := ((h3.only [0] rfl).rds [] rfl)
    exact ⟨k1, by omega, (w64 ((w64 ((w64 (x1 + 4)) + 1)) + a0.2.2.2.2.2.2.1)), (w64 (x2 + 1)), rfl, h4, H⟩
   replace H := Zg c3 H
   refine J.skip (J.region (RJ.run Za 3 rfl (RJ.fin [(1, _), (3, _), (4, .int .i64 (w64 (x2 + 1)))] rfl ?_)))
   have h5 := ((h3.only [0] rfl).rds [] rfl)
   exact ⟨k1, by omega, (w64 (x1 + 4)), (w64 (x2 + 1)), rfl, h5, H⟩
  replace H := Zg c2 H
  refine J.exit (J.seq (J.seq (J.region ?_)))
  refine RJ.run Za 1 rfl (RJ.fin [(1, _), (3, _), (5, .int .i64 0)] rfl (J.block ?_))
  have h8 := ((h3.only [0] rfl).rds [] rfl)
  refine J.loop (fun kk env w => ∃ (x3 : Int) (x4 : Int), env = [(1, .pointer (some ⟨b1, 0, none⟩)), (3, .int .i64 x3), (5, .int .i64 x4)] ∧ St w0 F0 [Zh b1 23 [.int .i64 a0.1, .int .i64 a0.2.1, .int .i64 a0.2.2.1, .int .i64 a0.2.2.2.1, .int .i64 a0.2.2.2.2.1, .int .i64 a0.2.2.2.2.2.1, .int .i64 a0.2.2.2.2.2.2.1, .int .i64 a0.2.2.2.2.2.2.2]] [] w ∧ Q72.l1 kk a0 x3 x4 = some r) (k := k1) ⟨x1, 0, rfl, h8, H⟩ ?_
  rintro k2 env w4 ⟨x3, x4, rfl, h6, H⟩
  cases k2 with
  | zero => exact nomatch (show none = some r from H)
  | succ k2 =>
   rw [Q72.l1] at H
   refine J.seq (J.seq (J.region ?_))
   refine RJ.run Za 2 rfl (RJ.q rfl rfl (Zc Za 0 h6.wht rfl rfl rfl rfl rfl) (RJ.run Za 1 rfl (RJ.fin [(1, _), (3, _), (5, _), (27, .bool (decide (x4 < a0.2.2.2.2.1)))] rfl (J.cond rfl (fun c4 => ?_) (fun c4 => ?_)))))
   ·replace H := Zi c4 H
    refine J.skip (J.seq (J.block (J.region ?_)))
    refine RJ.run Za 3 rfl (RJ.q rfl rfl (Zc Za 0 h6.wht rfl rfl rfl rfl rfl) (RJ.run Za 2 rfl (RJ.q rfl rfl (Zc Za 0 h6.wht rfl rfl rfl rfl rfl) (RJ.run Za 2 rfl (RJ.fin [(1, _), (3, .int .i64 (w64 ((w64 ((w64 (x3 + 4)) + a0.2.2.2.2.2.2.1)) + a0.2.2.2.2.2.2.2))), (5, _)] rfl (J.region (RJ.run Za 3 rfl (RJ.fin [(1, _), (3, _), (5, .int .i64 (w64 (x4 + 1)))] rfl ?_))))))))
    have h7 := ((h6.only [0] rfl).rds [] rfl)
    exact ⟨k2, by omega, (w64 ((w64 ((w64 (x3 + 4)) + a0.2.2.2.2.2.2.1)) + a0.2.2.2.2.2.2.2)), (w64 (x4 + 1)), rfl, h7, H⟩
   replace H := Zg c4 H
   refine J.exit (J.seq (J.region ?_))
   refine RJ.run Za 2 rfl (RJ.fin [(2, .int .i64 x3)] rfl (J.ret ?_))
   obtain rfl := Option.some.inj H
   exact ⟨_, _, _, (Zb rfl), ⟨rfl, rfl⟩, h6.only [] rfl⟩

def Q73.l0 : Nat → (Int × Int × Int × Int × Int × Int × Int × Int) → (Int) → (Int) → Option (Int)
 | 0, _, _, _ => none
 | k + 1, a0, x1, x2 => if (decide (x2 < a0.2.2.2.2.2.1)) = true then (Q73.l0 k a0 (w64 ((w64 ((w64 (x1 + 3)) + a0.2.2.2.2.2.2.1)) + a0.2.2.2.2.2.2.2)) (w64 (x2 + 1))) else (some x1)
def Q73.f (k : Nat) (a0 : Int × Int × Int × Int × Int × Int × Int × Int) : Option (Int) := (Q75.f (a0.1, a0.2.1, a0.2.2.1, a0.2.2.2.1, a0.2.2.2.2.1, a0.2.2.2.2.2.1, a0.2.2.2.2.2.2.1, a0.2.2.2.2.2.2.2)).bind fun r1 => (if (!r1) = true then (some 0) else (Q73.l0 k a0 8 0))
theorem Q73.spec {k : Nat} {a0 : Int × Int × Int × Int × Int × Int × Int × Int}  {r : Int} (H : Q73.f k a0 = some r) :
  Spec Tryz.prog 48 [.agg #[.int .i64 a0.1, .int .i64 a0.2.1, .int .i64 a0.2.2.1, .int .i64 a0.2.2.2.1, .int .i64 a0.2.2.2.2.1, .int .i64 a0.2.2.2.2.2.1, .int .i64 a0.2.2.2.2.2.2.1, .int .i64 a0.2.2.2.2.2.2.2]] [] [] (fun v l => v = .int .i64 r ∧ l = []) := by
 refine Spec.enter Tryz.func48 rfl (by kernel_rfl) (by kernel_rfl) fun w0 F0 h0 => ?_
 unfold Q73.f at H
 refine J.seq (J.region ?_)
 refine RJ.op rfl rfl (Z2 rfl rfl h0) ?_
 rintro _ w1 ⟨b1, rfl, h1⟩
 replace h1 : St w0 F0 [Zh b1 23 [.int .i64 a0.1, .int .i64 a0.2.1, .int .i64 a0.2.2.1, .int .i64 a0.2.2.2.1, .int .i64 a0.2.2.2.2.1, .int .i64 a0.2.2.2.2.2.1, .int .i64 a0.2.2.2.2.2.2.1, .int .i64 a0.2.2.2.2.2.2.2]] _ _ := h1
 refine RJ.run Za 1 rfl (RJ.fin [(1, .pointer (some ⟨b1, 0, none⟩))] rfl (J.seq (J.seq (J.region ?_))))
 refine RJ.q rfl rfl (Zc Za 0 h1.wht rfl rfl rfl rfl rfl) ?_
 obtain ⟨r1, q1, H⟩ := Zj H
 refine RJ.op rfl rfl (Zd [] (Q75.spec q1) rfl rfl rfl h1 rfl Zm) ?_
 rintro _ w2 ⟨_, ⟨rfl, rfl⟩, h2⟩
 replace h2 : St w0 F0 [_] _ _ := h2
 refine RJ.run Za 1 rfl (RJ.fin [(1, _), (7, .bool (!r1))] rfl (J.cond rfl (fun c1 => ?_) (fun c1 => ?_)))
 ·replace H := Zi c1 H
  refine J.seq (J.region ?_)
  refine RJ.run Za 1 rfl (RJ.fin [(2, .int .i64 0)] rfl (J.ret ?_))
  obtain rfl := Option.some.inj H
  exact ⟨_, _, _, (Zb rfl), ⟨rfl, rfl⟩, h2.only [] rfl⟩
 replace H := Zg c1 H
 refine J.skip (J.seq (J.region ?_))
 refine RJ.run Za 1 rfl (RJ.fin [(1, _), (3, .int .i64 8)] rfl (J.seq (J.seq (J.region ?_))))
 refine RJ.run Za 1 rfl (RJ.fin [(1, _), (3, _), (4, .int .i64 0)] rfl (J.block ?_))
 have h5 := ((h2.only [0] rfl).rds [] rfl)
 refine J.loop (fun kk env w => ∃ (x1 : Int) (x2 : Int), env = [(1, .pointer (some ⟨b1, 0, none⟩)), (3, .int .i64 x1), (4, .int .i64 x2)] ∧ St w0 F0 [Zh b1 23 [.int .i64 a0.1, .int .i64 a0.2.1, .int .i64 a0.2.2.1, .int .i64 a0.2.2.2.1, .int .i64 a0.2.2.2.2.1, .int .i64 a0.2.2.2.2.2.1, .int .i64 a0.2.2.2.2.2.2.1, .int .i64 a0.2.2.2.2.2.2.2]] [] w ∧ Q73.l0 kk a0 x1 x2 = some r) (k := k) ⟨8, 0, rfl, h5, H⟩ ?_
 rintro k1 env w3 ⟨x1, x2, rfl, h3, H⟩
 cases k1 with
 | zero => exact nomatch (show none = some r from H)
 | succ k1 =>
  rw [Q73.l0] at H
  refine J.seq (J.seq (J.region ?_))
  refine RJ.run Za 2 rfl (RJ.q rfl rfl (Zc Za 0 h3.wht rfl rfl rfl rfl rfl) (RJ.run Za 1 rfl (RJ.fin [(1, _), (3, _), (4, _), (11, .bool (decide (x2 < a0.2.2.2.2.2.1)))] rfl (J.cond rfl (fun c2 => ?_) (fun c2 => ?_)))))
  ·replace H := Zi c2 H
   refine J.skip (J.seq (J.block (J.region ?_)))
   refine RJ.run Za 3 rfl (RJ.q rfl rfl (Zc Za 0 h3.wht rfl rfl rfl rfl rfl) (RJ.run Za 2 rfl (RJ.q rfl rfl (Zc Za 0 h3.wht rfl rfl rfl rfl rfl) (RJ.run Za 2 rfl (RJ.fin [(1, _), (3, .int .i64 (w64 ((w64 ((w64 (x1 + 3)) + a0.2.2.2.2.2.2.1)) + a0.2.2.2.2.2.2.2))), (4, _)] rfl (J.region (RJ.run Za 3 rfl (RJ.fin [(1, _), (3, _), (4, .int .i64 (w64 (x2 + 1)))] rfl ?_))))))))
   have h4 := ((h3.only [0] rfl).rds [] rfl)
   exact ⟨k1, by omega, (w64 ((w64 ((w64 (x1 + 3)) + a0.2.2.2.2.2.2.1)) + a0.2.2.2.2.2.2.2)), (w64 (x2 + 1)), rfl, h4, H⟩
  replace H := Zg c2 H
  refine J.exit (J.seq (J.region ?_))
  refine RJ.run Za 2 rfl (RJ.fin [(2, .int .i64 x1)] rfl (J.ret ?_))
  obtain rfl := Option.some.inj H
  exact ⟨_, _, _, (Zb rfl), ⟨rfl, rfl⟩, h3.only [] rfl⟩

def Q74.f (k : Nat) (a0 : Int × Int × Int × Int × Int × Int × Int × Int) : Option (Bool) := (Q75.f (a0.1, a0.2.1, a0.2.2.1, a0.2.2.2.1, a0.2.2.2.2.1, a0.2.2.2.2.2.1, a0.2.2.2.2.2.2.1, a0.2.2.2.2.2.2.2)).bind fun r1 => (if r1 = true then ((Q76.f a0.1 5 65536).bind fun r2 => (if r2 = true then ((Q76.f a0.2.2.1 8 64).bind fun r3 => (if r3 = true then ((Q76.f a0.2.1 64 65536).bind fun r4 => (if r4 = true then ((Q72.f k (a0.1, a0.2.1, a0.2.2.1, a0.2.2.2.1, a0.2.2.2.2.1, a0.2.2.2.2.2.1, a0.2.2.2.2.2.2.1, a0.2.2.2.2.2.2.2)).bind fun r5 => (if (decide (r5 ≤ a0.2.1)) = true then ((Q73.f k (a0.1, a0.2.1, a0.2.2.1, a0.2.2.2.1, a0.2.2.2.2.1, a0.2.2.2.2.2.1, a0.2.2.2.2.2.2.1, a0.2.2.2.2.2.2.2)).bind fun r6 => (some (decide (r6 ≤ a0.2.1)))) else (some false))) else (some false))) else (some false))) else (some false))) else (some false))
theorem Q74.spec {k : Nat} {a0 : Int × Int × Int × Int × Int × Int × Int × Int}  {r : Bool} (H : Q74.f k a0 = some r) :
  Spec Tryz.prog 20 [.agg #[.int .i64 a0.1, .int .i64 a0.2.1, .int .i64 a0.2.2.1, .int .i64 a0.2.2.2.1, .int .i64 a0.2.2.2.2.1, .int .i64 a0.2.2.2.2.2.1, .int .i64 a0.2.2.2.2.2.2.1, .int .i64 a0.2.2.2.2.2.2.2]] [] [] (fun v l => v = .bool r ∧ l = []) := by
 refine Spec.enter Tryz.func20 rfl (by kernel_rfl) (by kernel_rfl) fun w0 F0 h0 => ?_
 unfold Q74.f at H
 refine J.seq (J.region ?_)
 refine RJ.op rfl rfl (Z2 rfl rfl h0) ?_
 rintro _ w1 ⟨b1, rfl, h1⟩
 replace h1 : St w0 F0 [Zh b1 23 [.int .i64 a0.1, .int .i64 a0.2.1, .int .i64 a0.2.2.1, .int .i64 a0.2.2.2.1, .int .i64 a0.2.2.2.2.1, .int .i64 a0.2.2.2.2.2.1, .int .i64 a0.2.2.2.2.2.2.1, .int .i64 a0.2.2.2.2.2.2.2]] _ _ := h1
 refine RJ.run Za 1 rfl (RJ.fin [(1, .pointer (some ⟨b1, 0, none⟩))] rfl (J.seq (J.heldSt mix h1 ?_)))
 have h2 := h1.drew
 refine HJ.q (i := 0) rfl rfl rfl rfl rfl rfl (Zc Za 0 (fun w e => e) rfl rfl rfl rfl rfl) ?_
 obtain ⟨r1, q1, H⟩ := Zj H
 refine HJ.op (i := 1) rfl rfl rfl rfl rfl (Zd [] (Q75.spec q1) rfl rfl rfl h2 rfl Zm) ?_
 rintro _ w2 ⟨_, ⟨rfl, rfl⟩, h3⟩
 replace h3 : St w0 F0 [_] _ _ := h3
 refine ⟨⟨[], h3⟩, ?_⟩
 refine HJ.run Za rfl [2] rfl ?_
 rcases Bool.eq_false_or_eq_true r1 with c1 | c1
 ·replace H := Zi c1 H
  refine HJ.know (t := 5) rfl (congrArg Value.bool c1) (HJ.run Za rfl [3] rfl (HJ.q (i := 4) rfl rfl rfl rfl rfl rfl (Zc Za 0 (fun w e => e) rfl rfl rfl rfl rfl) ?_))
  obtain ⟨r2, q2, H⟩ := Zj H
  refine HJ.op (i := 5) rfl rfl rfl rfl rfl (Zd [] (Q76.spec q2) rfl rfl rfl h3 rfl Zm) ?_
  rintro _ w3 ⟨_, ⟨rfl, rfl⟩, h4⟩
  replace h4 : St w0 F0 [_] _ _ := h4
  refine ⟨⟨[], h4⟩, ?_⟩
  refine HJ.run Za rfl [6, 7] rfl ?_
  rcases Bool.eq_false_or_eq_true r2 with c2 | c2
  ·replace H := Zi c2 H
   refine HJ.know (t := 10) rfl (congrArg Value.bool c2) (HJ.run Za rfl [8] rfl (HJ.q (i := 9) rfl rfl rfl rfl rfl rfl (Zc Za 0 (fun w e => e) rfl rfl rfl rfl rfl) ?_))
   obtain ⟨r3, q3, H⟩ := Zj H
   refine HJ.op (i := 10) rfl rfl rfl rfl rfl (Zd [] (Q76.spec q3) rfl rfl rfl h4 rfl Zm) ?_
   rintro _ w4 ⟨_, ⟨rfl, rfl⟩, h5⟩
   replace h5 : St w0 F0 [_] _ _ := h5
   refine ⟨⟨[], h5⟩, ?_⟩
   refine HJ.run Za rfl [11, 12] rfl ?_
   rcases Bool.eq_false_or_eq_true r3 with c3 | c3
   ·replace H := Zi c3 H
    refine HJ.know (t := 15) rfl (congrArg Value.bool c3) (HJ.run Za rfl [13] rfl (HJ.q (i := 14) rfl rfl rfl rfl rfl rfl (Zc Za 0 (fun w e => e) rfl rfl rfl rfl rfl) ?_))
    obtain ⟨r4, q4, H⟩ := Zj H
    refine HJ.op (i := 15) rfl rfl rfl rfl rfl (Zd [] (Q76.spec q4) rfl rfl rfl h5 rfl Zm) ?_
    rintro _ w5 ⟨_, ⟨rfl, rfl⟩, h6⟩
    replace h6 : St w0 F0 [_] _ _ := h6
    refine ⟨⟨[], h6⟩, ?_⟩
    refine HJ.run Za rfl [16, 17] rfl ?_
    rcases Bool.eq_false_or_eq_true r4 with c4 | c4
    ·replace H := Zi c4 H
     refine HJ.know (t := 20) rfl (congrArg Value.bool c4) (HJ.run Za rfl [18] rfl (HJ.q (i := 19) rfl rfl rfl rfl rfl rfl (Zc Za 0 (fun w e => e) rfl rfl rfl rfl rfl) ?_))
     refine HJ.q (i := 20) rfl rfl rfl rfl rfl rfl (Zc Za 0 (fun w e => e) rfl rfl rfl rfl rfl) ?_
     obtain ⟨r5, q5, H⟩ := Zj H
     refine HJ.op (i := 21) rfl rfl rfl rfl rfl (Zd [] (Q72.spec q5) rfl rfl rfl h6 rfl Zm) ?_
     rintro _ w6 ⟨_, ⟨rfl, rfl⟩, h7⟩
     replace h7 : St w0 F0 [_] _ _ := h7
     refine ⟨⟨[], h7⟩, ?_⟩
     refine HJ.run Za rfl [22, 23, 24] rfl ?_
     rcases Bool.eq_false_or_eq_true (decide (r5 ≤ a0.2.1)) with c5 | c5
     ·replace H := Zi c5 H
      refine HJ.know (t := 27) rfl (congrArg Value.bool c5) (HJ.run Za rfl [25] rfl (HJ.q (i := 26) rfl rfl rfl rfl rfl rfl (Zc Za 0 (fun w e => e) rfl rfl rfl rfl rfl) ?_))
      refine HJ.q (i := 27) rfl rfl rfl rfl rfl rfl (Zc Za 0 (fun w e => e) rfl rfl rfl rfl rfl) ?_
      obtain ⟨r6, q6, H⟩ := Zj H
      refine HJ.op (i := 28) rfl rfl rfl rfl rfl (Zd [] (Q73.spec q6) rfl rfl rfl h7 rfl Zm) ?_
      rintro _ w7 ⟨_, ⟨rfl, rfl⟩, h8⟩
      replace h8 : St w0 F0 [_] _ _ := h8
      refine ⟨⟨[], h8⟩, ?_⟩
      refine HJ.run Za rfl [29, 30, 31] rfl (HJ.fin [(2, .bool (decide (r6 ≤ a0.2.1)))] rfl rfl (J.ret ?_))
      obtain rfl := Option.some.inj H
      exact ⟨_, _, _, (Zb rfl), ⟨rfl, rfl⟩, h8.only [] rfl⟩
     replace H := Zg c5 H
     refine HJ.know (t := 27) rfl (congrArg Value.bool c5) (HJ.run Za rfl [25, 26, 27, 28, 29, 30, 31] rfl (HJ.fin [(2, .bool false)] rfl rfl (J.ret ?_)))
     obtain rfl := Option.some.inj H
     exact ⟨_, _, _, (Zb rfl), ⟨rfl, rfl⟩, h7.only [] rfl⟩
    replace H := Zg c4 H
    refine HJ.know (t := 20) rfl (congrArg Value.bool c4) (HJ.run Za rfl [18, 19, 20, 21, 22, 23, 24, 25, 26, 27, 28, 29, 30, 31] rfl (HJ.fin [(2, .bool false)] rfl rfl (J.ret ?_)))
    obtain rfl := Option.some.inj H
    exact ⟨_, _, _, (Zb rfl), ⟨rfl, rfl⟩, h6.only [] rfl⟩
   replace H := Zg c3 H
   refine HJ.know (t := 15) rfl (congrArg Value.bool c3) (HJ.run Za rfl [13, 14, 15, 16, 17, 18, 19, 20, 21, 22, 23, 24, 25, 26, 27, 28, 29, 30, 31] rfl (HJ.fin [(2, .bool false)] rfl rfl (J.ret ?_)))
   obtain rfl := Option.some.inj H
   exact ⟨_, _, _, (Zb rfl), ⟨rfl, rfl⟩, h5.only [] rfl⟩
  replace H := Zg c2 H
  refine HJ.know (t := 10) rfl (congrArg Value.bool c2) (HJ.run Za rfl [8, 9, 10, 11, 12, 13, 14, 15, 16, 17, 18, 19, 20, 21, 22, 23, 24, 25, 26, 27, 28, 29, 30, 31] rfl (HJ.fin [(2, .bool false)] rfl rfl (J.ret ?_)))
  obtain rfl := Option.some.inj H
  exact ⟨_, _, _, (Zb rfl), ⟨rfl, rfl⟩, h4.only [] rfl⟩
 replace H := Zg c1 H
 refine HJ.know (t := 5) rfl (congrArg Value.bool c1) (HJ.run Za rfl [3, 4, 5, 6, 7, 8, 9, 10, 11, 12, 13, 14, 15, 16, 17, 18, 19, 20, 21, 22, 23, 24, 25, 26, 27, 28, 29, 30, 31] rfl (HJ.fin [(2, .bool false)] rfl rfl (J.ret ?_)))
 obtain rfl := Option.some.inj H
 exact ⟨_, _, _, (Zb rfl), ⟨rfl, rfl⟩, h3.only [] rfl⟩

def Q95.l0 : Nat → (List UInt8) → (Int) → (Int) → (Int) → (Int) → Option (Int)
 | 0, _, _, _, _, _ => none
 | k + 1, a0, a1, a2, x1, x2 => if (decide (x2 < a2)) = true then (if 0 ≤ (w64 (a1 + x2)) ∧ (w64 (a1 + x2)) < (a0.length : Int) then (Q95.l0 k a0 a1 a2 (w64 ((w64 (256 * x1)) + (w64 ((gtb a0 (w64 (a1 + x2))))))) (w64 (x2 + 1))) else none) else (some x1)
def Q95.f (k : Nat) (a0 : List UInt8) (a1 : Int) (a2 : Int) : Option (Int) := Q95.l0 k a0 a1 a2 0 0
theorem Q95.spec {k : Nat} {a0 : List UInt8} {a1 : Int} {a2 : Int}  {r : Int} (H : Q95.f k a0 a1 a2 = some r) :
  Spec Tryz.prog 29 [.string ⟨⟨a0⟩⟩, .int .i64 a1, .int .i64 a2] [] [] (fun v l => v = .int .i64 r ∧ l = []) := by
 refine Spec.enter Tryz.func29 rfl (by kernel_rfl) (by kernel_rfl) fun w0 F0 h0 => ?_
 unfold Q95.f at H
 refine J.seq (J.region ?_)
 refine RJ.run Za 1 rfl (RJ.fin [(0, .string ⟨⟨a0⟩⟩), (1, .int .i64 a1), (2, .int .i64 a2)] rfl (J.seq (J.region ?_)))
 refine RJ.run Za 1 rfl (RJ.fin [(0, _), (1, _), (2, _), (7, .int .i64 0)] rfl (J.seq (J.seq (J.region ?_))))
 refine RJ.run Za 1 rfl (RJ.fin [(0, _), (1, _), (2, _), (7, _), (8, .int .i64 0)] rfl (J.block ?_))
 have h3 := ((h0.only [] rfl).rds [] rfl)
 refine J.loop (fun kk env w => ∃ (x1 : Int) (x2 : Int), env = [(0, .string ⟨⟨a0⟩⟩), (1, .int .i64 a1), (2, .int .i64 a2), (7, .int .i64 x1), (8, .int .i64 x2)] ∧ St w0 F0 [] [] w ∧ Q95.l0 kk a0 a1 a2 x1 x2 = some r) (k := k) ⟨0, 0, rfl, h3, H⟩ ?_
 rintro k1 env w1 ⟨x1, x2, rfl, h1, H⟩
 cases k1 with
 | zero => exact nomatch (show none = some r from H)
 | succ k1 =>
  rw [Q95.l0] at H
  refine J.seq (J.seq (J.region ?_))
  refine RJ.run Za 3 rfl (RJ.fin [(0, _), (1, _), (2, _), (7, _), (8, _), (11, .bool (decide (x2 < a2)))] rfl (J.cond rfl (fun c1 => ?_) (fun c1 => ?_)))
  ·replace H := Zi c1 H
   refine J.skip (J.seq (J.block (J.region ?_)))
   refine RJ.run Za 6 rfl ?_
   obtain ⟨⟨p1, p2⟩, H⟩ := Zo H
   refine RJ.q rfl rfl (Y7 Za rfl rfl rfl rfl p1 p2) (RJ.run Za 3 rfl (RJ.fin [(0, _), (1, _), (2, _), (7, .int .i64 (w64 ((w64 (256 * x1)) + (w64 ((gtb a0 (w64 (a1 + x2)))))))), (8, _)] rfl (J.region (RJ.run Za 3 rfl (RJ.fin [(0, _), (1, _), (2, _), (7, _), (8, .int .i64 (w64 (x2 + 1)))] rfl ?_)))))
   have h2 := ((h1.only [] rfl).rds [] rfl)
   exact ⟨k1, by omega, (w64 ((w64 (256 * x1)) + (w64 ((gtb a0 (w64 (a1 + x2))))))), (w64 (x2 + 1)), rfl, h2, H⟩
  replace H := Zg c1 H
  refine J.exit (J.seq (J.region ?_))
  refine RJ.run Za 2 rfl (RJ.fin [(6, .int .i64 x1)] rfl (J.ret ?_))
  obtain rfl := Option.some.inj H
  exact ⟨_, _, _, (Zb rfl), ⟨rfl, rfl⟩, h1.only [] rfl⟩

def Q99.f (a0 : List UInt8) (a1 : Int) (a2 : Int) : Option (List UInt8) := if (decide ((a0.length : Int) < a1)) = true then (some ([] : List UInt8)) else (if (decide ((w64 ((a0.length : Int) - a1)) < a2)) = true then (if 0 ≤ a1 ∧ a1 ≤ (w64 (a1 + (w64 ((a0.length : Int) - a1)))) ∧ (w64 (a1 + (w64 ((a0.length : Int) - a1)))) ≤ (a0.length : Int) then (some ((a0.drop a1.toNat).take (((w64 (a1 + (w64 ((a0.length : Int) - a1))))).toNat - a1.toNat))) else none) else (if 0 ≤ a1 ∧ a1 ≤ (w64 (a1 + a2)) ∧ (w64 (a1 + a2)) ≤ (a0.length : Int) then (some ((a0.drop a1.toNat).take (((w64 (a1 + a2))).toNat - a1.toNat))) else none))
theorem Q99.spec {a0 : List UInt8} {a1 : Int} {a2 : Int}  {r : List UInt8} (H : Q99.f a0 a1 a2 = some r) :
  Spec Tryz.prog 30 [.string ⟨⟨a0⟩⟩, .int .i64 a1, .int .i64 a2] [] [] (fun v l => v = .string ⟨⟨r⟩⟩ ∧ l = []) := by
 refine Spec.enter Tryz.func30 rfl (by kernel_rfl) (by kernel_rfl) fun w0 F0 h0 => ?_
 unfold Q99.f at H
 refine J.seq (J.region ?_)
 refine RJ.run Za 1 rfl (RJ.fin [(0, .string ⟨⟨a0⟩⟩), (1, .int .i64 a1), (2, .int .i64 a2)] rfl (J.seq (J.seq (J.region ?_))))
 refine RJ.run Za 4 rfl (RJ.fin [(0, _), (1, _), (2, _), (10, .bool (decide ((a0.length : Int) < a1)))] rfl (J.cond rfl (fun c1 => ?_) (fun c1 => ?_)))
 ·replace H := Zi c1 H
  refine J.seq (J.region ?_)
  refine RJ.run Za 1 rfl (RJ.fin [(6, .string ⟨⟨([] : List UInt8)⟩⟩)] rfl (J.ret ?_))
  obtain rfl := Option.some.inj H
  exact ⟨_, _, _, (Zb rfl), ⟨rfl, rfl⟩, h0.only [] rfl⟩
 replace H := Zg c1 H
 refine J.skip (J.seq (J.seq (J.region ?_)))
 refine RJ.run Za 6 rfl (RJ.fin [(0, _), (1, _), (2, _), (16, .bool (decide ((w64 ((a0.length : Int) - a1)) < a2)))] rfl (J.cond rfl (fun c2 => ?_) (fun c2 => ?_)))
 ·replace H := Zi c2 H
  refine J.region (RJ.run Za 5 rfl (RJ.fin [(0, _), (1, _), (2, .int .i64 (w64 ((a0.length : Int) - a1)))] rfl (J.seq (J.region ?_))))
  refine RJ.run Za 5 rfl ?_
  obtain ⟨⟨p1, p2, p3⟩, H⟩ := Zo H
  refine RJ.q rfl rfl (Zbe (l := a1) (h := (w64 (a1 + (w64 ((a0.length : Int) - a1))))) Za rfl rfl rfl ⟨_, rfl⟩ ⟨_, rfl⟩ p1 p2 p3 rfl) (RJ.run Za 1 rfl (RJ.fin [(6, .string ⟨⟨((a0.drop a1.toNat).take (((w64 (a1 + (w64 ((a0.length : Int) - a1))))).toNat - a1.toNat))⟩⟩)] rfl (J.ret ?_)))
  obtain rfl := Option.some.inj H
  exact ⟨_, _, _, (Zb rfl), ⟨rfl, rfl⟩, h0.only [] rfl⟩
 replace H := Zg c2 H
 refine J.skip (J.seq (J.region ?_))
 refine RJ.run Za 5 rfl ?_
 obtain ⟨⟨p4, p5, p6⟩, H⟩ := Zo H
 refine RJ.q rfl rfl (Zbe (l := a1) (h := (w64 (a1 + a2))) Za rfl rfl rfl ⟨_, rfl⟩ ⟨_, rfl⟩ p4 p5 p6 rfl) (RJ.run Za 1 rfl (RJ.fin [(6, .string ⟨⟨((a0.drop a1.toNat).take (((w64 (a1 + a2))).toNat - a1.toNat))⟩⟩)] rfl (J.ret ?_)))
 obtain rfl := Option.some.inj H
 exact ⟨_, _, _, (Zb rfl), ⟨rfl, rfl⟩, h0.only [] rfl⟩

def Q94.f  : Option ((List UInt8 × List UInt8 × Bool)) := some (([] : List UInt8), ([] : List UInt8), true)
theorem Q94.spec   {r : (List UInt8 × List UInt8 × Bool)} (H : Q94.f  = some r) :
  Spec Tryz.prog 36 [] [] [] (fun v l => v = .agg #[.string ⟨⟨r.1⟩⟩, .string ⟨⟨r.2.1⟩⟩, .bool r.2.2] ∧ l = []) := by
 refine Spec.enter Tryz.func36 rfl (by kernel_rfl) (by kernel_rfl) fun w0 F0 h0 => ?_
 unfold Q94.f at H
 refine J.seq (J.region ?_)
 refine RJ.op rfl rfl (Ye Za rfl rfl h0) ?_
 rintro _ w1 ⟨b1, rfl, h1⟩
 replace h1 : St w0 F0 [Zh b1 55 [.string ⟨⟨([] : List UInt8)⟩⟩, .string ⟨⟨([] : List UInt8)⟩⟩, .bool false]] _ _ := h1
 refine RJ.fin [(0, .pointer (some ⟨b1, 0, none⟩))] rfl (J.seq (J.region ?_))
 refine RJ.run Za 1 rfl (RJ.op rfl rfl (Zt Za 0 rfl h1 rfl rfl rfl rfl rfl rfl rfl) ?_)
 intro _ w2 h2
 replace h2 : St w0 F0 [Zh b1 55 [.string ⟨⟨([] : List UInt8)⟩⟩, .string ⟨⟨([] : List UInt8)⟩⟩, .bool true]] _ _ := h2
 refine RJ.fin [(0, _)] rfl (J.ret ?_)
 obtain rfl := Option.some.inj H
 exact ⟨_, _, _, (Z6 rfl (Z8 (RV.cell Za 0 h2 rfl rfl rfl rfl) Yr) rfl), ⟨rfl, rfl⟩, h2.only [] rfl⟩

def Q85.f (a0 : Int × Int × Int × Int × Int × Int × Int × Int) (a1 : List UInt8) : Option (Bool) := if (decide (1 ≤ (a1.length : Int))) = true then (some (decide ((a1.length : Int) ≤ a0.2.2.2.2.2.2.1))) else (some false)
theorem Q85.spec {a0 : Int × Int × Int × Int × Int × Int × Int × Int} {a1 : List UInt8}  {r : Bool} (H : Q85.f a0 a1 = some r) :
  Spec Tryz.prog 82 [.agg #[.int .i64 a0.1, .int .i64 a0.2.1, .int .i64 a0.2.2.1, .int .i64 a0.2.2.2.1, .int .i64 a0.2.2.2.2.1, .int .i64 a0.2.2.2.2.2.1, .int .i64 a0.2.2.2.2.2.2.1, .int .i64 a0.2.2.2.2.2.2.2], .string ⟨⟨a1⟩⟩] [] [] (fun v l => v = .bool r ∧ l = []) := by
 refine Spec.enter Tryz.func82 rfl (by kernel_rfl) (by kernel_rfl) fun w0 F0 h0 => ?_
 unfold Q85.f at H
 refine J.seq (J.region ?_)
 refine RJ.op rfl rfl (Z2 rfl rfl h0) ?_
 rintro _ w1 ⟨b1, rfl, h1⟩
 replace h1 : St w0 F0 [Zh b1 23 [.int .i64 a0.1, .int .i64 a0.2.1, .int .i64 a0.2.2.1, .int .i64 a0.2.2.2.1, .int .i64 a0.2.2.2.2.1, .int .i64 a0.2.2.2.2.2.1, .int .i64 a0.2.2.2.2.2.2.1, .int .i64 a0.2.2.2.2.2.2.2]] _ _ := h1
 refine RJ.run Za 1 rfl (RJ.fin [(1, .string ⟨⟨a1⟩⟩), (2, .pointer (some ⟨b1, 0, none⟩))] rfl (J.seq (J.region ?_)))
 refine RJ.run Za 4 rfl ?_
 rcases Bool.eq_false_or_eq_true (decide (1 ≤ (a1.length : Int))) with c1 | c1
 ·replace H := Zi c1 H
  refine RJ.know (t := 8) rfl (congrArg Value.bool c1) (RJ.run Za 3 rfl (RJ.q rfl rfl (Zc Za 0 h1.wht rfl rfl rfl rfl rfl) (RJ.run Za 3 rfl (RJ.fin [(4, .bool (decide ((a1.length : Int) ≤ a0.2.2.2.2.2.2.1)))] rfl (J.ret ?_)))))
  obtain rfl := Option.some.inj H
  exact ⟨_, _, _, (Zb rfl), ⟨rfl, rfl⟩, h1.only [] rfl⟩
 replace H := Zg c1 H
 refine RJ.know (t := 8) rfl (congrArg Value.bool c1) (RJ.run Za 7 rfl (RJ.fin [(4, .bool false)] rfl (J.ret ?_)))
 obtain rfl := Option.some.inj H
 exact ⟨_, _, _, (Zb rfl), ⟨rfl, rfl⟩, h1.only [] rfl⟩

def Q68.l0 : Nat → (List UInt8) → (List UInt8) → (Int) → Option (Int)
 | 0, _, _, _ => none
 | k + 1, a0, a1, x1 => if (decide (x1 < (a0.length : Int))) = true then (if (decide (x1 < (a1.length : Int))) = true then (if 0 ≤ x1 ∧ x1 < (a0.length : Int) then (if 0 ≤ x1 ∧ x1 < (a1.length : Int) then (if (decide ((gtb a0 x1) < (gtb a1 x1))) = true then (some (-1)) else (if (decide ((gtb a1 x1) < (gtb a0 x1))) = true then (some 1) else (Q68.l0 k a0 a1 (w64 (x1 + 1))))) else none) else none) else (if (decide ((a0.length : Int) < (a1.length : Int))) = true then (some (-1)) else (if (decide ((a1.length : Int) < (a0.length : Int))) = true then (some 1) else (some 0)))) else (if (decide ((a0.length : Int) < (a1.length : Int))) = true then (some (-1)) else (if (decide ((a1.length : Int) < (a0.length : Int))) = true then (some 1) else (some 0)))
def Q68.f (k : Nat) (a0 : List UInt8) (a1 : List UInt8) : Option (Int) := Q68.l0 k a0 a1 0
theorem Q68.spec {k : Nat} {a0 : List UInt8} {a1 : List UInt8}  {r : Int} (H : Q68.f k a0 a1 = some r) :
  Spec Tryz.prog 94 [.string ⟨⟨a0⟩⟩, .string ⟨⟨a1⟩⟩] [] [] (fun v l => v = .int .i64 r ∧ l = []) := by
 refine Spec.enter Tryz.func94 rfl (by kernel_rfl) (by kernel_rfl) fun w0 F0 h0 => ?_
 unfold Q68.f at H
 refine J.seq (J.region ?_)
 refine RJ.run Za 1 rfl (RJ.fin [(0, .string ⟨⟨a0⟩⟩), (1, .string ⟨⟨a1⟩⟩)] rfl (J.seq (J.seq (J.region ?_))))
 refine RJ.run Za 1 rfl (RJ.fin [(0, _), (1, _), (5, .int .i64 0)] rfl (J.block ?_))
 have h5 := ((h0.only [] rfl).rds [] rfl)
 refine J.loop (fun kk env w => ∃ (x1 : Int), env = [(0, .string ⟨⟨a0⟩⟩), (1, .string ⟨⟨a1⟩⟩), (5, .int .i64 x1)] ∧ St w0 F0 [] [] w ∧ Q68.l0 kk a0 a1 x1 = some r) (k := k) ⟨0, rfl, h5, H⟩ ?_
 rintro k1 env w1 ⟨x1, rfl, h1, H⟩
 cases k1 with
 | zero => exact nomatch (show none = some r from H)
 | succ k1 =>
  rw [Q68.l0] at H
  refine J.seq (J.seq (J.region ?_))
  refine RJ.run Za 5 rfl ?_
  rcases Bool.eq_false_or_eq_true (decide (x1 < (a0.length : Int))) with c1 | c1
  ·replace H := Zi c1 H
   refine RJ.know (t := 10) rfl (congrArg Value.bool c1) (RJ.run Za 5 rfl (RJ.fin [(0, _), (1, _), (5, _), (15, .bool (decide (x1 < (a1.length : Int))))] rfl (J.cond rfl (fun c2 => ?_) (fun c2 => ?_))))
   ·replace H := Zi c2 H
    refine J.skip (J.seq (J.block (J.seq (J.seq ?_))))
    refine J.heldSt mix h1 ?_
    have h2 := h1.drew
    refine HJ.run Za rfl [0, 1, 3, 4] rfl ?_
    obtain ⟨⟨p1, p2⟩, H⟩ := Zo H
    refine HJ.q (i := 2) rfl rfl rfl rfl rfl rfl (Y7 Za rfl rfl rfl rfl p1 p2) ?_
    obtain ⟨⟨p3, p4⟩, H⟩ := Zo H
    refine HJ.q (i := 5) rfl rfl rfl rfl rfl rfl (Y7 Za rfl rfl rfl rfl p3 p4) (HJ.run Za rfl [6] rfl (HJ.fin [(0, _), (1, _), (5, _), (24, .bool (decide ((gtb a0 x1) < (gtb a1 x1))))] rfl rfl (J.cond rfl (fun c3 => ?_) (fun c3 => ?_))))
    ·replace H := Zi c3 H
     refine J.seq (J.region ?_)
     refine RJ.run Za 1 rfl (RJ.fin [(4, .int .i64 (-1))] rfl (J.ret ?_))
     obtain rfl := Option.some.inj H
     exact ⟨_, _, _, (Zb rfl), ⟨rfl, rfl⟩, h2.only [] rfl⟩
    replace H := Zg c3 H
    refine J.skip (J.seq (J.heldSt mix h2 ?_))
    have h3 := h2.drew
    refine HJ.run Za rfl [0, 1, 3, 4] rfl (HJ.q (i := 2) rfl rfl rfl rfl rfl rfl (Y7 Za rfl rfl rfl rfl p1 p2) (HJ.q (i := 5) rfl rfl rfl rfl rfl rfl (Y7 Za rfl rfl rfl rfl p3 p4) (HJ.run Za rfl [6] rfl (HJ.fin [(0, _), (1, _), (5, _), (31, .bool (decide ((gtb a1 x1) < (gtb a0 x1))))] rfl rfl (J.cond rfl (fun c4 => ?_) (fun c4 => ?_))))))
    ·replace H := Zi c4 H
     refine J.seq (J.region ?_)
     refine RJ.run Za 1 rfl (RJ.fin [(4, .int .i64 1)] rfl (J.ret ?_))
     obtain rfl := Option.some.inj H
     exact ⟨_, _, _, (Zb rfl), ⟨rfl, rfl⟩, h3.only [] rfl⟩
    replace H := Zg c4 H
    refine J.skip (J.region (RJ.run Za 3 rfl (RJ.fin [(0, _), (1, _), (5, .int .i64 (w64 (x1 + 1)))] rfl ?_)))
    have h4 := ((h3.only [] rfl).rds [] rfl)
    exact ⟨k1, by omega, (w64 (x1 + 1)), rfl, h4, H⟩
   replace H := Zg c2 H
   refine J.exit (J.seq (J.seq (J.region ?_)))
   refine RJ.run Za 5 rfl (RJ.fin [(0, _), (1, _), (36, .bool (decide ((a0.length : Int) < (a1.length : Int))))] rfl (J.cond rfl (fun c5 => ?_) (fun c5 => ?_)))
   ·replace H := Zi c5 H
    refine J.seq (J.region ?_)
    refine RJ.run Za 1 rfl (RJ.fin [(4, .int .i64 (-1))] rfl (J.ret ?_))
    obtain rfl := Option.some.inj H
    exact ⟨_, _, _, (Zb rfl), ⟨rfl, rfl⟩, h1.only [] rfl⟩
   replace H := Zg c5 H
   refine J.skip (J.seq (J.seq (J.region ?_)))
   refine RJ.run Za 5 rfl (RJ.fin [(41, .bool (decide ((a1.length : Int) < (a0.length : Int))))] rfl (J.cond rfl (fun c6 => ?_) (fun c6 => ?_)))
   ·replace H := Zi c6 H
    refine J.seq (J.region ?_)
    refine RJ.run Za 1 rfl (RJ.fin [(4, .int .i64 1)] rfl (J.ret ?_))
    obtain rfl := Option.some.inj H
    exact ⟨_, _, _, (Zb rfl), ⟨rfl, rfl⟩, h1.only [] rfl⟩
   replace H := Zg c6 H
   refine J.skip (J.seq (J.region ?_))
   refine RJ.run Za 1 rfl (RJ.fin [(4, .int .i64 0)] rfl (J.ret ?_))
   obtain rfl := Option.some.inj H
   exact ⟨_, _, _, (Zb rfl), ⟨rfl, rfl⟩, h1.only [] rfl⟩
  replace H := Zg c1 H
  refine RJ.know (t := 10) rfl (congrArg Value.bool c1) (RJ.run Za 5 rfl (RJ.fin [(0, _), (1, _), (5, _), (15, .bool false)] rfl (J.condF rfl (J.exit (J.seq (J.seq (J.region ?_)))))))
  refine RJ.run Za 5 rfl (RJ.fin [(0, _), (1, _), (36, .bool (decide ((a0.length : Int) < (a1.length : Int))))] rfl (J.cond rfl (fun c7 => ?_) (fun c7 => ?_)))
  ·replace H := Zi c7 H
   refine J.seq (J.region ?_)
   refine RJ.run Za 1 rfl (RJ.fin [(4, .int .i64 (-1))] rfl (J.ret ?_))
   obtain rfl := Option.some.inj H
   exact ⟨_, _, _, (Zb rfl), ⟨rfl, rfl⟩, h1.only [] rfl⟩
  replace H := Zg c7 H
  refine J.skip (J.seq (J.seq (J.region ?_)))
  refine RJ.run Za 5 rfl (RJ.fin [(41, .bool (decide ((a1.length : Int) < (a0.length : Int))))] rfl (J.cond rfl (fun c8 => ?_) (fun c8 => ?_)))
  ·replace H := Zi c8 H
   refine J.seq (J.region ?_)
   refine RJ.run Za 1 rfl (RJ.fin [(4, .int .i64 1)] rfl (J.ret ?_))
   obtain rfl := Option.some.inj H
   exact ⟨_, _, _, (Zb rfl), ⟨rfl, rfl⟩, h1.only [] rfl⟩
  replace H := Zg c8 H
  refine J.skip (J.seq (J.region ?_))
  refine RJ.run Za 1 rfl (RJ.fin [(4, .int .i64 0)] rfl (J.ret ?_))
  obtain rfl := Option.some.inj H
  exact ⟨_, _, _, (Zb rfl), ⟨rfl, rfl⟩, h1.only [] rfl⟩

def Q69.f (k : Nat) (a0 : List UInt8 × List UInt8 × Bool) (a1 : List UInt8) : Option (Bool) := (Q68.f k a0.1 a1).bind fun r1 => (if (decide (r1 ≤ 0)) = true then (if a0.2.2 = true then (some true) else ((Q68.f k a1 a0.2.1).bind fun r2 => (some (decide (r2 < 0))))) else (some false))
theorem Q69.spec {k : Nat} {a0 : List UInt8 × List UInt8 × Bool} {a1 : List UInt8}  {r : Bool} (H : Q69.f k a0 a1 = some r) :
  Spec Tryz.prog 83 [.agg #[.string ⟨⟨a0.1⟩⟩, .string ⟨⟨a0.2.1⟩⟩, .bool a0.2.2], .string ⟨⟨a1⟩⟩] [] [] (fun v l => v = .bool r ∧ l = []) := by
 refine Spec.enter Tryz.func83 rfl (by kernel_rfl) (by kernel_rfl) fun w0 F0 h0 => ?_
 unfold Q69.f at H
 refine J.seq (J.region ?_)
 refine RJ.op rfl rfl (Z2 rfl rfl h0) ?_
 rintro _ w1 ⟨b1, rfl, h1⟩
 replace h1 : St w0 F0 [Zh b1 55 [.string ⟨⟨a0.1⟩⟩, .string ⟨⟨a0.2.1⟩⟩, .bool a0.2.2]] _ _ := h1
 refine RJ.run Za 1 rfl (RJ.fin [(1, .string ⟨⟨a1⟩⟩), (2, .pointer (some ⟨b1, 0, none⟩))] rfl (J.seq (J.region ?_)))
 refine RJ.run Za 1 rfl (RJ.q rfl rfl (Zc Za 0 h1.wht rfl rfl rfl rfl rfl) (RJ.run Za 1 rfl ?_))
 obtain ⟨r1, q1, H⟩ := Zj H
 refine RJ.op rfl rfl (Zd [] (Q68.spec q1) rfl rfl rfl h1 rfl Zm) ?_
 rintro _ w2 ⟨_, ⟨rfl, rfl⟩, h2⟩
 replace h2 : St w0 F0 [_] _ _ := h2
 refine RJ.run Za 2 rfl ?_
 rcases Bool.eq_false_or_eq_true (decide (r1 ≤ 0)) with c1 | c1
 ·replace H := Zi c1 H
  refine RJ.know (t := 10) rfl (congrArg Value.bool c1) (RJ.run Za 1 rfl (RJ.q rfl rfl (Zc Za 0 h2.wht rfl rfl rfl rfl rfl) (RJ.run Za 1 rfl ?_)))
  rcases Bool.eq_false_or_eq_true a0.2.2 with c2 | c2
  ·replace H := Zi c2 H
   refine RJ.know (t := 13) rfl (congrArg Value.bool c2) (RJ.run Za 8 rfl (RJ.fin [(4, .bool true)] rfl (J.ret ?_)))
   obtain rfl := Option.some.inj H
   exact ⟨_, _, _, (Zb rfl), ⟨rfl, rfl⟩, h2.only [] rfl⟩
  replace H := Zg c2 H
  refine RJ.know (t := 13) rfl (congrArg Value.bool c2) (RJ.run Za 2 rfl (RJ.q rfl rfl (Zc Za 0 h2.wht rfl rfl rfl rfl rfl) ?_))
  obtain ⟨r2, q2, H⟩ := Zj H
  refine RJ.op rfl rfl (Zd [] (Q68.spec q2) rfl rfl rfl h2 rfl Zm) ?_
  rintro _ w3 ⟨_, ⟨rfl, rfl⟩, h3⟩
  replace h3 : St w0 F0 [_] _ _ := h3
  refine RJ.run Za 4 rfl (RJ.fin [(4, .bool (decide (r2 < 0)))] rfl (J.ret ?_))
  obtain rfl := Option.some.inj H
  exact ⟨_, _, _, (Zb rfl), ⟨rfl, rfl⟩, h3.only [] rfl⟩
 replace H := Zg c1 H
 refine RJ.know (t := 10) rfl (congrArg Value.bool c1) (RJ.run Za 11 rfl (RJ.fin [(4, .bool false)] rfl (J.ret ?_)))
 obtain rfl := Option.some.inj H
 exact ⟨_, _, _, (Zb rfl), ⟨rfl, rfl⟩, h2.only [] rfl⟩

def Q79.l0 : Nat → (List (List UInt8 × List UInt8)) → (Int) → Option (Bool)
 | 0, _, _ => none
 | k + 1, a0, x1 => if (decide (x1 < (a0.length : Int))) = true then (if 0 ≤ (w64 (x1 - 1)) ∧ (w64 (x1 - 1)) < (a0.length : Int) then (if 0 ≤ x1 ∧ x1 < (a0.length : Int) then ((Q68.f k ((gt a0 (w64 (x1 - 1))).1) ((gt a0 x1).1)).bind fun r1 => (if (decide (0 ≤ r1)) = true then (some false) else (Q79.l0 k a0 (w64 (x1 + 1))))) else none) else none) else (some true)
def Q79.f (k : Nat) (a0 : List (List UInt8 × List UInt8)) : Option (Bool) := Q79.l0 k a0 1
theorem Q79.spec {k : Nat} {a0 : List (List UInt8 × List UInt8)} {A1 : Option Addr} {c_1 : Nat} {r : Bool} (H : Q79.f k a0 = some r) :
  Spec Tryz.prog 84 [.slice A1 a0.length c_1] [] [rdC 51 (.pair .str .str) a0 (.slice A1 a0.length c_1)] (fun v l => v = .bool r ∧ l = []) := by
 refine Spec.enter Tryz.func84 rfl (by kernel_rfl) (by kernel_rfl) fun w0 F0 h0 => ?_
 unfold Q79.f at H
 refine J.seq (J.region ?_)
 refine RJ.run Za 1 rfl (RJ.fin [(0, .slice A1 a0.length c_1)] rfl (J.seq (J.seq (J.region ?_))))
 refine RJ.run Za 1 rfl (RJ.fin [(0, _), (3, .int .i64 1)] rfl (J.block ?_))
 have h5 := ((h0.only [] rfl).rds [0] rfl)
 refine J.loop (fun kk env w => ∃ (x1 : Int), env = [(0, .slice A1 a0.length c_1), (3, .int .i64 x1)] ∧ St w0 F0 [] [rdC 51 (.pair .str .str) a0 (.slice A1 a0.length c_1)] w ∧ Q79.l0 kk a0 x1 = some r) (k := k) ⟨1, rfl, h5, H⟩ ?_
 rintro k1 env w1 ⟨x1, rfl, h1, H⟩
 cases k1 with
 | zero => exact nomatch (show none = some r from H)
 | succ k1 =>
  rw [Q79.l0] at H
  refine J.seq (J.seq (J.region ?_))
  refine RJ.run Za 4 rfl (RJ.fin [(0, _), (3, _), (7, .bool (decide (x1 < (a0.length : Int))))] rfl (J.cond rfl (fun c1 => ?_) (fun c1 => ?_)))
  ·replace H := Zi c1 H
   refine J.skip (J.seq (J.block (J.seq ?_)))
   refine J.heldSt mix h1 ?_
   have h2 := h1.drew
   refine HJ.run Za rfl [0, 1, 2, 6, 7] rfl ?_
   obtain ⟨⟨p1, p2⟩, H⟩ := Zo H
   have e1 := Zy h2.wh (Gives.self 0 rfl) p1 p2
   refine HJ.q (i := 3) rfl rfl rfl rfl rfl rfl (Zk Za rfl rfl rfl rfl rfl e1 p1 p2) (HJ.run Za rfl [4] rfl (HJ.q (i := 5) rfl rfl rfl rfl rfl rfl (Ze (f := 0) Za rfl (fun w e => e) (Gives.self 0 rfl) p1 p2 rfl rfl rfl rfl rfl) ?_))
   obtain ⟨⟨p3, p4⟩, H⟩ := Zo H
   refine HJ.q (i := 8) rfl rfl rfl rfl rfl rfl (Zk Za rfl rfl rfl rfl rfl e1 p3 p4) (HJ.run Za rfl [9] rfl (HJ.q (i := 10) rfl rfl rfl rfl rfl rfl (Ze (f := 0) Za rfl (fun w e => e) (Gives.self 0 rfl) p3 p4 rfl rfl rfl rfl rfl) ?_))
   obtain ⟨r1, q1, H⟩ := Zj H
   refine HJ.op (i := 11) rfl rfl rfl rfl rfl (Zd [] (Q68.spec q1) rfl rfl rfl h2 rfl Zm) ?_
   rintro _ w2 ⟨_, ⟨rfl, rfl⟩, h3⟩
   replace h3 : St w0 F0 [] _ _ := h3
   refine ⟨⟨[], h3⟩, ?_⟩
   refine HJ.run Za rfl [12] rfl (HJ.fin [(0, _), (3, _), (22, .bool (decide (0 ≤ r1)))] rfl rfl (J.cond rfl (fun c2 => ?_) (fun c2 => ?_)))
   ·replace H := Zi c2 H
    refine J.seq (J.region ?_)
    refine RJ.run Za 1 rfl (RJ.fin [(2, .bool false)] rfl (J.ret ?_))
    obtain rfl := Option.some.inj H
    exact ⟨_, _, _, (Zb rfl), ⟨rfl, rfl⟩, h3.only [] rfl⟩
   replace H := Zg c2 H
   refine J.skip (J.region (RJ.run Za 3 rfl (RJ.fin [(0, _), (3, .int .i64 (w64 (x1 + 1)))] rfl ?_)))
   have h4 := ((h3.only [] rfl).rds [0] rfl)
   exact ⟨k1, by omega, (w64 (x1 + 1)), rfl, h4, H⟩
  replace H := Zg c1 H
  refine J.exit (J.seq (J.region ?_))
  refine RJ.run Za 1 rfl (RJ.fin [(2, .bool true)] rfl (J.ret ?_))
  obtain rfl := Option.some.inj H
  exact ⟨_, _, _, (Zb rfl), ⟨rfl, rfl⟩, h1.only [] rfl⟩

def Q89.l0 : Nat → (Int × Int × Int × Int × Int × Int × Int × Int) → (List UInt8 × List UInt8 × Bool) → (Int × List (Int) × List (List UInt8) × (List (List UInt8 × Bool × List UInt8)) × (List (List UInt8 × List UInt8))) → (Int) → Option (Bool)
 | 0, _, _, _, _ => none
 | k + 1, a0, a1, a2, x1 => if (decide (x1 < (a2.2.2.2.2.length : Int))) = true then (if 0 ≤ x1 ∧ x1 < (a2.2.2.2.2.length : Int) then ((Q85.f (a0.1, a0.2.1, a0.2.2.1, a0.2.2.2.1, a0.2.2.2.2.1, a0.2.2.2.2.2.1, a0.2.2.2.2.2.2.1, a0.2.2.2.2.2.2.2) ((gt a2.2.2.2.2 x1).1)).bind fun r1 => (if (!r1) = true then (some false) else ((Q69.f k (a1.1, a1.2.1, a1.2.2) ((gt a2.2.2.2.2 x1).1)).bind fun r2 => (if (!r2) = true then (some false) else (if (decide (a0.2.2.2.2.2.2.2 < (((gt a2.2.2.2.2 x1).2).length : Int))) = true then (some false) else (Q89.l0 k a0 a1 a2 (w64 (x1 + 1)))))))) else none) else (if (decide ((a2.2.1.length : Int) = 0)) = true then (if (decide ((a2.2.2.1.length : Int) = 0)) = true then (if (decide ((a2.2.2.2.1.length : Int) = 0)) = true then (if (decide ((a2.2.2.2.2.length : Int) ≤ a0.2.2.2.2.2.1)) = true then ((Q79.f k a2.2.2.2.2).bind fun r3 => (some r3)) else (some false)) else (some false)) else (some false)) else (some false))
def Q89.f (k : Nat) (a0 : Int × Int × Int × Int × Int × Int × Int × Int) (a1 : List UInt8 × List UInt8 × Bool) (a2 : Int × List (Int) × List (List UInt8) × (List (List UInt8 × Bool × List UInt8)) × (List (List UInt8 × List UInt8))) : Option (Bool) := Q89.l0 k a0 a1 a2 0
theorem Q89.spec {k : Nat} {a0 : Int × Int × Int × Int × Int × Int × Int × Int} {a1 : List UInt8 × List UInt8 × Bool} {a2 : Int × List (Int) × List (List UInt8) × (List (List UInt8 × Bool × List UInt8)) × (List (List UInt8 × List UInt8))} {A1 : Option Addr} {c_1 : Nat} {A2 : Option Addr} {c_2 : Nat} {A3 : Option Addr} {c_3 : Nat} {A4 : Option Addr} {c_4 : Nat} {r : Bool} (H : Q89.f k a0 a1 a2 = some r) :
  Spec Tryz.prog 62 [.agg #[.int .i64 a0.1, .int .i64 a0.2.1, .int .i64 a0.2.2.1, .int .i64 a0.2.2.2.1, .int .i64 a0.2.2.2.2.1, .int .i64 a0.2.2.2.2.2.1, .int .i64 a0.2.2.2.2.2.2.1, .int .i64 a0.2.2.2.2.2.2.2], .agg #[.string ⟨⟨a1.1⟩⟩, .string ⟨⟨a1.2.1⟩⟩, .bool a1.2.2], .agg #[.int .i64 a2.1, .slice A1 a2.2.1.length c_1, .slice A2 a2.2.2.1.length c_2, .slice A3 a2.2.2.2.1.length c_3, .slice A4 a2.2.2.2.2.length c_4]] [] [rdC 70 (.int .u32) a2.2.1 (.slice A1 a2.2.1.length c_1), rdC 9 .str a2.2.2.1 (.slice A2 a2.2.2.1.length c_2), rdC 49 (.pair .str (.pair .bool .str)) a2.2.2.2.1 (.slice A3 a2.2.2.2.1.length c_3), rdC 51 (.pair .str .str) a2.2.2.2.2 (.slice A4 a2.2.2.2.2.length c_4)] (fun v l => v = .bool r ∧ l = []) := by
 refine Spec.enter Tryz.func62 rfl (by kernel_rfl) (by kernel_rfl) fun w0 F0 h0 => ?_
 unfold Q89.f at H
 refine J.seq (J.region ?_)
 refine RJ.op rfl rfl (Z2 rfl rfl h0) ?_
 rintro _ w1 ⟨b1, rfl, h1⟩
 replace h1 : St w0 F0 [Zh b1 23 [.int .i64 a0.1, .int .i64 a0.2.1, .int .i64 a0.2.2.1, .int .i64 a0.2.2.2.1, .int .i64 a0.2.2.2.2.1, .int .i64 a0.2.2.2.2.2.1, .int .i64 a0.2.2.2.2.2.2.1, .int .i64 a0.2.2.2.2.2.2.2]] _ _ := h1
 refine RJ.op rfl rfl (Z2 rfl rfl h1) ?_
 rintro _ w2 ⟨b2, rfl, h2⟩
 replace h2 : St w0 F0 [Zh b2 55 [.string ⟨⟨a1.1⟩⟩, .string ⟨⟨a1.2.1⟩⟩, .bool a1.2.2], _] _ _ := h2
 refine RJ.op rfl rfl (Z2 rfl rfl h2) ?_
 rintro _ w3 ⟨b3, rfl, h3⟩
 replace h3 : St w0 F0 [Zh b3 29 [.int .i64 a2.1, .slice A1 a2.2.1.length c_1, .slice A2 a2.2.2.1.length c_2, .slice A3 a2.2.2.2.1.length c_3, .slice A4 a2.2.2.2.2.length c_4], _, _] _ _ := h3
 refine RJ.run Za 1 rfl (RJ.fin [(3, .pointer (some ⟨b1, 0, none⟩)), (4, .pointer (some ⟨b2, 0, none⟩)), (5, .pointer (some ⟨b3, 0, none⟩))] rfl (J.seq (J.seq (J.region ?_))))
 refine RJ.run Za 1 rfl (RJ.fin [(3, _), (4, _), (5, _), (7, .int .i64 0)] rfl (J.block ?_))
 have h19 := ((h3.only [2, 1, 0] rfl).rds [0, 1, 2, 3] rfl)
 refine J.loop (fun kk env w => ∃ (x1 : Int), env = [(3, .pointer (some ⟨b1, 0, none⟩)), (4, .pointer (some ⟨b2, 0, none⟩)), (5, .pointer (some ⟨b3, 0, none⟩)), (7, .int .i64 x1)] ∧ St w0 F0 [Zh b1 23 [.int .i64 a0.1, .int .i64 a0.2.1, .int .i64 a0.2.2.1, .int .i64 a0.2.2.2.1, .int .i64 a0.2.2.2.2.1, .int .i64 a0.2.2.2.2.2.1, .int .i64 a0.2.2.2.2.2.2.1, .int .i64 a0.2.2.2.2.2.2.2], Zh b2 55 [.string ⟨⟨a1.1⟩⟩, .string ⟨⟨a1.2.1⟩⟩, .bool a1.2.2], Zh b3 29 [.int .i64 a2.1, .slice A1 a2.2.1.length c_1, .slice A2 a2.2.2.1.length c_2, .slice A3 a2.2.2.2.1.length c_3, .slice A4 a2.2.2.2.2.length c_4]] [rdC 70 (.int .u32) a2.2.1 (.slice A1 a2.2.1.length c_1), rdC 9 .str a2.2.2.1 (.slice A2 a2.2.2.1.length c_2), rdC 49 (.pair .str (.pair .bool .str)) a2.2.2.2.1 (.slice A3 a2.2.2.2.1.length c_3), rdC 51 (.pair .str .str) a2.2.2.2.2 (.slice A4 a2.2.2.2.2.length c_4)] w ∧ Q89.l0 kk a0 a1 a2 x1 = some r) (k := k) ⟨0, rfl, h19, H⟩ ?_
 rintro k1 env w4 ⟨x1, rfl, h4, H⟩
 cases k1 with
 | zero => exact nomatch (show none = some r from H)
 | succ k1 =>
  rw [Q89.l0] at H
  refine J.seq (J.seq (J.region ?_))
  refine RJ.run Za 2 rfl (RJ.q rfl rfl (Zc Za 2 h4.wht rfl rfl rfl rfl rfl) (RJ.run Za 2 rfl (RJ.fin [(3, _), (4, _), (5, _), (7, _), (13, .bool (decide (x1 < (a2.2.2.2.2.length : Int))))] rfl (J.cond rfl (fun c1 => ?_) (fun c1 => ?_)))))
  ·replace H := Zi c1 H
   refine J.skip (J.seq (J.block (J.seq (J.region ?_))))
   refine RJ.run Za 1 rfl (RJ.q rfl rfl (Zc Za 2 h4.wht rfl rfl rfl rfl rfl) (RJ.run Za 1 rfl ?_))
   obtain ⟨⟨p1, p2⟩, H⟩ := Zo H
   have e1 := Zy h4.wh (Gives.self 6 rfl) p1 p2
   refine RJ.q rfl rfl (Zk Za rfl rfl rfl rfl rfl e1 p1 p2) (RJ.q rfl rfl (Ze (f := 0) Za rfl h4.wht (Gives.self 6 rfl) p1 p2 rfl rfl rfl rfl rfl) (RJ.op rfl rfl (Ye Za rfl rfl h4) ?_))
   rintro _ w5 ⟨b4, rfl, h5⟩
   replace h5 : St w0 F0 [Zh b4 51 [.string ⟨⟨([] : List UInt8)⟩⟩, .string ⟨⟨([] : List UInt8)⟩⟩], _, _, _] _ _ := h5
   refine RJ.op rfl rfl (Zt Za 0 rfl h5 rfl rfl rfl rfl rfl rfl rfl) ?_
   intro _ w6 h6
   replace h6 : St w0 F0 [Zh b4 51 [.string ⟨⟨(gt a2.2.2.2.2 x1).1⟩⟩, .string ⟨⟨(gt a2.2.2.2.2 x1).2⟩⟩], _, _, _] _ _ := h6
   refine RJ.fin [(3, _), (4, _), (5, _), (7, _), (8, .pointer (some ⟨b4, 0, none⟩))] rfl (J.seq (J.region ?_))
   refine RJ.q rfl rfl (Zc Za 1 h6.wht rfl rfl rfl rfl rfl) (RJ.run Za 1 rfl (RJ.q rfl rfl (Zc Za 0 h6.wht rfl rfl rfl rfl rfl) ?_))
   obtain ⟨r1, q1, H⟩ := Zj H
   refine RJ.op rfl rfl (Zd [] (Q85.spec q1) rfl rfl rfl h6 rfl Zm) ?_
   rintro _ w7 ⟨_, ⟨rfl, rfl⟩, h7⟩
   replace h7 : St w0 F0 [_, _, _, _] _ _ := h7
   refine RJ.run Za 2 rfl ?_
   rcases Bool.eq_false_or_eq_true (!r1) with c2 | c2
   ·replace H := Zi c2 H
    refine RJ.know (t := 26) rfl (congrArg Value.bool c2) (RJ.run Za 14 rfl (RJ.fin [(3, _), (4, _), (5, _), (7, _), (40, .bool true)] rfl (J.condT rfl (J.seq (J.region ?_)))))
    refine RJ.run Za 1 rfl (RJ.fin [(6, .bool false)] rfl ?_)
    have h8 := h7.only [] rfl
    replace h8 : St w0 F0 [] _ _ := h8
    refine J.ret ?_
    obtain rfl := Option.some.inj H
    exact ⟨_, _, _, (Zb rfl), ⟨rfl, rfl⟩, h8.only [] rfl⟩
   replace H := Zg c2 H
   refine RJ.know (t := 26) rfl (congrArg Value.bool c2) (RJ.q rfl rfl (Zc Za 2 h7.wht rfl rfl rfl rfl rfl) (RJ.run Za 1 rfl (RJ.q rfl rfl (Zc Za 0 h7.wht rfl rfl rfl rfl rfl) ?_)))
   obtain ⟨r2, q2, H⟩ := Zj H
   refine RJ.op rfl rfl (Zd [] (Q69.spec q2) rfl rfl rfl h7 rfl Zm) ?_
   rintro _ w8 ⟨_, ⟨rfl, rfl⟩, h9⟩
   replace h9 : St w0 F0 [_, _, _, _] _ _ := h9
   refine RJ.run Za 3 rfl ?_
   rcases Bool.eq_false_or_eq_true (!r2) with c3 | c3
   ·replace H := Zi c3 H
    refine RJ.know (t := 33) rfl (congrArg Value.bool c3) (RJ.run Za 7 rfl (RJ.fin [(3, _), (4, _), (5, _), (7, _), (40, .bool true)] rfl (J.condT rfl (J.seq (J.region ?_)))))
    refine RJ.run Za 1 rfl (RJ.fin [(6, .bool false)] rfl ?_)
    have h10 := h9.only [] rfl
    replace h10 : St w0 F0 [] _ _ := h10
    refine J.ret ?_
    obtain rfl := Option.some.inj H
    exact ⟨_, _, _, (Zb rfl), ⟨rfl, rfl⟩, h10.only [] rfl⟩
   replace H := Zg c3 H
   refine RJ.know (t := 33) rfl (congrArg Value.bool c3) (RJ.run Za 1 rfl (RJ.q rfl rfl (Zc Za 0 h9.wht rfl rfl rfl rfl rfl) (RJ.run Za 2 rfl (RJ.q rfl rfl (Zc Za 1 h9.wht rfl rfl rfl rfl rfl) (RJ.run Za 2 rfl (RJ.fin [(3, _), (4, _), (5, _), (7, _), (40, .bool (decide (a0.2.2.2.2.2.2.2 < (((gt a2.2.2.2.2 x1).2).length : Int))))] rfl (J.cond rfl (fun c4 => ?_) (fun c4 => ?_))))))))
   ·replace H := Zi c4 H
    refine J.seq (J.region ?_)
    refine RJ.run Za 1 rfl (RJ.fin [(6, .bool false)] rfl ?_)
    have h11 := h9.only [] rfl
    replace h11 : St w0 F0 [] _ _ := h11
    refine J.ret ?_
    obtain rfl := Option.some.inj H
    exact ⟨_, _, _, (Zb rfl), ⟨rfl, rfl⟩, h11.only [] rfl⟩
   replace H := Zg c4 H
   refine J.skip (J.region (RJ.run Za 3 rfl (RJ.fin [(3, _), (4, _), (5, _), (7, .int .i64 (w64 (x1 + 1)))] rfl ?_)))
   have h12 := ((h9.only [1, 1, 1] rfl).rds [0, 1, 2, 3] rfl)
   exact ⟨k1, by omega, (w64 (x1 + 1)), rfl, h12, H⟩
  replace H := Zg c1 H
  refine J.exit (J.seq (J.region ?_))
  refine RJ.run Za 1 rfl (RJ.q rfl rfl (Zc Za 2 h4.wht rfl rfl rfl rfl rfl) (RJ.run Za 3 rfl ?_))
  rcases Bool.eq_false_or_eq_true (decide ((a2.2.1.length : Int) = 0)) with c5 | c5
  ·replace H := Zi c5 H
   refine RJ.know (t := 45) rfl (congrArg Value.bool c5) (RJ.run Za 1 rfl (RJ.q rfl rfl (Zc Za 2 h4.wht rfl rfl rfl rfl rfl) (RJ.run Za 4 rfl ?_)))
   rcases Bool.eq_false_or_eq_true (decide ((a2.2.2.1.length : Int) = 0)) with c6 | c6
   ·replace H := Zi c6 H
    refine RJ.know (t := 51) rfl (congrArg Value.bool c6) (RJ.run Za 1 rfl (RJ.q rfl rfl (Zc Za 2 h4.wht rfl rfl rfl rfl rfl) (RJ.run Za 4 rfl ?_)))
    rcases Bool.eq_false_or_eq_true (decide ((a2.2.2.2.1.length : Int) = 0)) with c7 | c7
    ·replace H := Zi c7 H
     refine RJ.know (t := 57) rfl (congrArg Value.bool c7) (RJ.run Za 1 rfl (RJ.q rfl rfl (Zc Za 2 h4.wht rfl rfl rfl rfl rfl) (RJ.run Za 2 rfl (RJ.q rfl rfl (Zc Za 0 h4.wht rfl rfl rfl rfl rfl) (RJ.run Za 3 rfl ?_)))))
     rcases Bool.eq_false_or_eq_true (decide ((a2.2.2.2.2.length : Int) ≤ a0.2.2.2.2.2.1)) with c8 | c8
     ·replace H := Zi c8 H
      refine RJ.know (t := 65) rfl (congrArg Value.bool c8) (RJ.run Za 1 rfl (RJ.q rfl rfl (Zc Za 2 h4.wht rfl rfl rfl rfl rfl) ?_))
      obtain ⟨r3, q3, H⟩ := Zj H
      refine RJ.op rfl rfl (Zd [] (Q79.spec q3) rfl rfl rfl h4 rfl (Zr (Gives.self 6 rfl) Zm)) ?_
      rintro _ w9 ⟨_, ⟨rfl, rfl⟩, h13⟩
      replace h13 : St w0 F0 [_, _, _] _ _ := h13
      refine RJ.run Za 2 rfl (RJ.fin [(6, .bool r3)] rfl ?_)
      have h14 := h13.only [] rfl
      replace h14 : St w0 F0 [] _ _ := h14
      refine J.ret ?_
      obtain rfl := Option.some.inj H
      exact ⟨_, _, _, (Zb rfl), ⟨rfl, rfl⟩, h14.only [] rfl⟩
     replace H := Zg c8 H
     refine RJ.know (t := 65) rfl (congrArg Value.bool c8) (RJ.run Za 5 rfl (RJ.fin [(6, .bool false)] rfl ?_))
     have h15 := h4.only [] rfl
     replace h15 : St w0 F0 [] _ _ := h15
     refine J.ret ?_
     obtain rfl := Option.some.inj H
     exact ⟨_, _, _, (Zb rfl), ⟨rfl, rfl⟩, h15.only [] rfl⟩
    replace H := Zg c7 H
    refine RJ.know (t := 57) rfl (congrArg Value.bool c7) (RJ.run Za 13 rfl (RJ.fin [(6, .bool false)] rfl ?_))
    have h16 := h4.only [] rfl
    replace h16 : St w0 F0 [] _ _ := h16
    refine J.ret ?_
    obtain rfl := Option.some.inj H
    exact ⟨_, _, _, (Zb rfl), ⟨rfl, rfl⟩, h16.only [] rfl⟩
   replace H := Zg c6 H
   refine RJ.know (t := 51) rfl (congrArg Value.bool c6) (RJ.run Za 19 rfl (RJ.fin [(6, .bool false)] rfl ?_))
   have h17 := h4.only [] rfl
   replace h17 : St w0 F0 [] _ _ := h17
   refine J.ret ?_
   obtain rfl := Option.some.inj H
   exact ⟨_, _, _, (Zb rfl), ⟨rfl, rfl⟩, h17.only [] rfl⟩
  replace H := Zg c5 H
  refine RJ.know (t := 45) rfl (congrArg Value.bool c5) (RJ.run Za 25 rfl (RJ.fin [(6, .bool false)] rfl ?_))
  have h18 := h4.only [] rfl
  replace h18 : St w0 F0 [] _ _ := h18
  refine J.ret ?_
  obtain rfl := Option.some.inj H
  exact ⟨_, _, _, (Zb rfl), ⟨rfl, rfl⟩, h18.only [] rfl⟩

def Q82.l0 : Nat → (List (List UInt8)) → (Int) → Option (Bool)
 | 0, _, _ => none
 | k + 1, a0, x1 => if (decide (x1 < (a0.length : Int))) = true then (if 0 ≤ (w64 (x1 - 1)) ∧ (w64 (x1 - 1)) < (a0.length : Int) then (if 0 ≤ x1 ∧ x1 < (a0.length : Int) then ((Q68.f k (gt a0 (w64 (x1 - 1))) (gt a0 x1)).bind fun r1 => (if (decide (0 ≤ r1)) = true then (some false) else (Q82.l0 k a0 (w64 (x1 + 1))))) else none) else none) else (some true)
def Q82.f (k : Nat) (a0 : List (List UInt8)) : Option (Bool) := Q82.l0 k a0 1
theorem Q82.spec {k : Nat} {a0 : List (List UInt8)} {A1 : Option Addr} {c_1 : Nat} {r : Bool} (H : Q82.f k a0 = some r) :
  Spec Tryz.prog 95 [.slice A1 a0.length c_1] [] [rdC 9 .str a0 (.slice A1 a0.length c_1)] (fun v l => v = .bool r ∧ l = []) := by
 refine Spec.enter Tryz.func95 rfl (by kernel_rfl) (by kernel_rfl) fun w0 F0 h0 => ?_
 unfold Q82.f at H
 refine J.seq (J.region ?_)
 refine RJ.run Za 1 rfl (RJ.fin [(0, .slice A1 a0.length c_1)] rfl (J.seq (J.seq (J.region ?_))))
 refine RJ.run Za 1 rfl (RJ.fin [(0, _), (3, .int .i64 1)] rfl (J.block ?_))
 have h5 := ((h0.only [] rfl).rds [0] rfl)
 refine J.loop (fun kk env w => ∃ (x1 : Int), env = [(0, .slice A1 a0.length c_1), (3, .int .i64 x1)] ∧ St w0 F0 [] [rdC 9 .str a0 (.slice A1 a0.length c_1)] w ∧ Q82.l0 kk a0 x1 = some r) (k := k) ⟨1, rfl, h5, H⟩ ?_
 rintro k1 env w1 ⟨x1, rfl, h1, H⟩
 cases k1 with
 | zero => exact nomatch (show none = some r from H)
 | succ k1 =>
  rw [Q82.l0] at H
  refine J.seq (J.seq (J.region ?_))
  refine RJ.run Za 4 rfl (RJ.fin [(0, _), (3, _), (7, .bool (decide (x1 < (a0.length : Int))))] rfl (J.cond rfl (fun c1 => ?_) (fun c1 => ?_)))
  ·replace H := Zi c1 H
   refine J.skip (J.seq (J.block (J.seq ?_)))
   refine J.heldSt mix h1 ?_
   have h2 := h1.drew
   refine HJ.run Za rfl [0, 1, 2, 5, 6] rfl ?_
   obtain ⟨⟨p1, p2⟩, H⟩ := Zo H
   have e1 := Zy h2.wh (Gives.self 0 rfl) p1 p2
   refine HJ.q (i := 3) rfl rfl rfl rfl rfl rfl (Zk Za rfl rfl rfl rfl rfl e1 p1 p2) (HJ.q (i := 4) rfl rfl rfl rfl rfl rfl (Ze (f := 0) Za rfl (fun w e => e) (Gives.self 0 rfl) p1 p2 rfl rfl rfl rfl rfl) ?_)
   obtain ⟨⟨p3, p4⟩, H⟩ := Zo H
   refine HJ.q (i := 7) rfl rfl rfl rfl rfl rfl (Zk Za rfl rfl rfl rfl rfl e1 p3 p4) (HJ.q (i := 8) rfl rfl rfl rfl rfl rfl (Ze (f := 0) Za rfl (fun w e => e) (Gives.self 0 rfl) p3 p4 rfl rfl rfl rfl rfl) ?_)
   obtain ⟨r1, q1, H⟩ := Zj H
   refine HJ.op (i := 9) rfl rfl rfl rfl rfl (Zd [] (Q68.spec q1) rfl rfl rfl h2 rfl Zm) ?_
   rintro _ w2 ⟨_, ⟨rfl, rfl⟩, h3⟩
   replace h3 : St w0 F0 [] _ _ := h3
   refine ⟨⟨[], h3⟩, ?_⟩
   refine HJ.run Za rfl [10] rfl (HJ.fin [(0, _), (3, _), (20, .bool (decide (0 ≤ r1)))] rfl rfl (J.cond rfl (fun c2 => ?_) (fun c2 => ?_)))
   ·replace H := Zi c2 H
    refine J.seq (J.region ?_)
    refine RJ.run Za 1 rfl (RJ.fin [(2, .bool false)] rfl (J.ret ?_))
    obtain rfl := Option.some.inj H
    exact ⟨_, _, _, (Zb rfl), ⟨rfl, rfl⟩, h3.only [] rfl⟩
   replace H := Zg c2 H
   refine J.skip (J.region (RJ.run Za 3 rfl (RJ.fin [(0, _), (3, .int .i64 (w64 (x1 + 1)))] rfl ?_)))
   have h4 := ((h3.only [] rfl).rds [0] rfl)
   exact ⟨k1, by omega, (w64 (x1 + 1)), rfl, h4, H⟩
  replace H := Zg c1 H
  refine J.exit (J.seq (J.region ?_))
  refine RJ.run Za 1 rfl (RJ.fin [(2, .bool true)] rfl (J.ret ?_))
  obtain rfl := Option.some.inj H
  exact ⟨_, _, _, (Zb rfl), ⟨rfl, rfl⟩, h1.only [] rfl⟩

def Q81.l0 : Nat → (List (List UInt8)) → (List UInt8 × List UInt8 × Bool) → (Int) → Option (Bool)
 | 0, _, _, _ => none
 | k + 1, a0, a1, x1 => if (decide (x1 < (a0.length : Int))) = true then (if 0 ≤ x1 ∧ x1 < (a0.length : Int) then ((Q69.f k (a1.1, a1.2.1, a1.2.2) (gt a0 x1)).bind fun r1 => (if (!r1) = true then (some false) else (if (decide ((gt a0 x1) = a1.1)) = true then (some false) else (Q81.l0 k a0 a1 (w64 (x1 + 1)))))) else none) else ((Q82.f k a0).bind fun r2 => (some r2))
def Q81.f (k : Nat) (a0 : List (List UInt8)) (a1 : List UInt8 × List UInt8 × Bool) : Option (Bool) := Q81.l0 k a0 a1 0
theorem Q81.spec {k : Nat} {a0 : List (List UInt8)} {a1 : List UInt8 × List UInt8 × Bool} {A1 : Option Addr} {c_1 : Nat} {r : Bool} (H : Q81.f k a0 a1 = some r) :
  Spec Tryz.prog 85 [.slice A1 a0.length c_1, .agg #[.string ⟨⟨a1.1⟩⟩, .string ⟨⟨a1.2.1⟩⟩, .bool a1.2.2]] [] [rdC 9 .str a0 (.slice A1 a0.length c_1)] (fun v l => v = .bool r ∧ l = []) := by
 refine Spec.enter Tryz.func85 rfl (by kernel_rfl) (by kernel_rfl) fun w0 F0 h0 => ?_
 unfold Q81.f at H
 refine J.seq (J.region ?_)
 refine RJ.op rfl rfl (Z2 rfl rfl h0) ?_
 rintro _ w1 ⟨b1, rfl, h1⟩
 replace h1 : St w0 F0 [Zh b1 55 [.string ⟨⟨a1.1⟩⟩, .string ⟨⟨a1.2.1⟩⟩, .bool a1.2.2]] _ _ := h1
 refine RJ.run Za 1 rfl (RJ.fin [(0, .slice A1 a0.length c_1), (3, .pointer (some ⟨b1, 0, none⟩))] rfl (J.seq (J.seq (J.region ?_))))
 refine RJ.run Za 1 rfl (RJ.fin [(0, _), (3, _), (5, .int .i64 0)] rfl (J.block ?_))
 have h7 := ((h1.only [0] rfl).rds [0] rfl)
 refine J.loop (fun kk env w => ∃ (x1 : Int), env = [(0, .slice A1 a0.length c_1), (3, .pointer (some ⟨b1, 0, none⟩)), (5, .int .i64 x1)] ∧ St w0 F0 [Zh b1 55 [.string ⟨⟨a1.1⟩⟩, .string ⟨⟨a1.2.1⟩⟩, .bool a1.2.2]] [rdC 9 .str a0 (.slice A1 a0.length c_1)] w ∧ Q81.l0 kk a0 a1 x1 = some r) (k := k) ⟨0, rfl, h7, H⟩ ?_
 rintro k1 env w2 ⟨x1, rfl, h2, H⟩
 cases k1 with
 | zero => exact nomatch (show none = some r from H)
 | succ k1 =>
  rw [Q81.l0] at H
  refine J.seq (J.seq (J.region ?_))
  refine RJ.run Za 4 rfl (RJ.fin [(0, _), (3, _), (5, _), (9, .bool (decide (x1 < (a0.length : Int))))] rfl (J.cond rfl (fun c1 => ?_) (fun c1 => ?_)))
  ·replace H := Zi c1 H
   refine J.skip (J.seq (J.block (J.seq ?_)))
   refine J.heldSt mix h2 ?_
   have h3 := h2.drew
   refine HJ.run Za rfl [1, 2] rfl (HJ.q (i := 0) rfl rfl rfl rfl rfl rfl (Zc Za 0 (fun w e => e) rfl rfl rfl rfl rfl) ?_)
   obtain ⟨⟨p1, p2⟩, H⟩ := Zo H
   have e1 := Zy h3.wh (Gives.self 1 rfl) p1 p2
   refine HJ.q (i := 3) rfl rfl rfl rfl rfl rfl (Zk Za rfl rfl rfl rfl rfl e1 p1 p2) (HJ.q (i := 4) rfl rfl rfl rfl rfl rfl (Ze (f := 0) Za rfl (fun w e => e) (Gives.self 1 rfl) p1 p2 rfl rfl rfl rfl rfl) ?_)
   obtain ⟨r1, q1, H⟩ := Zj H
   refine HJ.op (i := 5) rfl rfl rfl rfl rfl (Zd [] (Q69.spec q1) rfl rfl rfl h3 rfl Zm) ?_
   rintro _ w3 ⟨_, ⟨rfl, rfl⟩, h4⟩
   replace h4 : St w0 F0 [_] _ _ := h4
   refine ⟨⟨[], h4⟩, ?_⟩
   refine HJ.run Za rfl [6, 7] rfl ?_
   rcases Bool.eq_false_or_eq_true (!r1) with c2 | c2
   ·replace H := Zi c2 H
    refine HJ.know (t := 19) rfl (congrArg Value.bool c2) (HJ.run Za rfl [8, 9, 10, 11, 12, 13, 14, 15] rfl (HJ.fin [(0, _), (3, _), (5, _), (27, .bool true)] rfl rfl (J.condT rfl (J.seq (J.region ?_)))))
    refine RJ.run Za 1 rfl (RJ.fin [(4, .bool false)] rfl (J.ret ?_))
    obtain rfl := Option.some.inj H
    exact ⟨_, _, _, (Zb rfl), ⟨rfl, rfl⟩, h4.only [] rfl⟩
   replace H := Zg c2 H
   refine HJ.know (t := 19) rfl (congrArg Value.bool c2) (HJ.run Za rfl [8, 9, 12] rfl (HJ.q (i := 10) rfl rfl rfl rfl rfl rfl (Zk Za rfl rfl rfl rfl rfl e1 p1 p2) (HJ.q (i := 11) rfl rfl rfl rfl rfl rfl (Ze (f := 0) Za rfl (fun w e => e) (Gives.self 1 rfl) p1 p2 rfl rfl rfl rfl rfl) ?_)))
   refine HJ.q (i := 13) rfl rfl rfl rfl rfl rfl (Zc Za 0 (fun w e => e) rfl rfl rfl rfl rfl) ?_
   refine HJ.run Za rfl [14, 15] rfl (HJ.fin [(0, _), (3, _), (5, _), (27, .bool (decide ((gt a0 x1) = a1.1)))] rfl rfl (J.cond rfl (fun c3 => ?_) (fun c3 => ?_)))
   ·replace H := Zi c3 H
    refine J.seq (J.region ?_)
    refine RJ.run Za 1 rfl (RJ.fin [(4, .bool false)] rfl (J.ret ?_))
    obtain rfl := Option.some.inj H
    exact ⟨_, _, _, (Zb rfl), ⟨rfl, rfl⟩, h4.only [] rfl⟩
   replace H := Zg c3 H
   refine J.skip (J.region (RJ.run Za 3 rfl (RJ.fin [(0, _), (3, _), (5, .int .i64 (w64 (x1 + 1)))] rfl ?_)))
   have h5 := ((h4.only [0] rfl).rds [0] rfl)
   exact ⟨k1, by omega, (w64 (x1 + 1)), rfl, h5, H⟩
  replace H := Zg c1 H
  refine J.exit (J.seq (J.region ?_))
  refine RJ.run Za 1 rfl ?_
  obtain ⟨r2, q2, H⟩ := Zj H
  refine RJ.op rfl rfl (Zd [] (Q82.spec q2) rfl rfl rfl h2 rfl (Zr (Gives.self 1 rfl) Zm)) ?_
  rintro _ w4 ⟨_, ⟨rfl, rfl⟩, h6⟩
  replace h6 : St w0 F0 [_] _ _ := h6
  refine RJ.run Za 1 rfl (RJ.fin [(4, .bool r2)] rfl (J.ret ?_))
  obtain rfl := Option.some.inj H
  exact ⟨_, _, _, (Zb rfl), ⟨rfl, rfl⟩, h6.only [] rfl⟩

def Q77.l0 : Nat → (List (List UInt8 × Bool × List UInt8)) → (Int) → Option (Bool)
 | 0, _, _ => none
 | k + 1, a0, x1 => if (decide (x1 < (a0.length : Int))) = true then (if 0 ≤ (w64 (x1 - 1)) ∧ (w64 (x1 - 1)) < (a0.length : Int) then (if 0 ≤ x1 ∧ x1 < (a0.length : Int) then ((Q68.f k ((gt a0 (w64 (x1 - 1))).1) ((gt a0 x1).1)).bind fun r1 => (if (decide (0 ≤ r1)) = true then (some false) else (Q77.l0 k a0 (w64 (x1 + 1))))) else none) else none) else (some true)
def Q77.f (k : Nat) (a0 : List (List UInt8 × Bool × List UInt8)) : Option (Bool) := Q77.l0 k a0 1
theorem Q77.spec {k : Nat} {a0 : List (List UInt8 × Bool × List UInt8)} {A1 : Option Addr} {c_1 : Nat} {r : Bool} (H : Q77.f k a0 = some r) :
  Spec Tryz.prog 86 [.slice A1 a0.length c_1] [] [rdC 49 (.pair .str (.pair .bool .str)) a0 (.slice A1 a0.length c_1)] (fun v l => v = .bool r ∧ l = []) := by
 refine Spec.enter Tryz.func86 rfl (by kernel_rfl) (by kernel_rfl) fun w0 F0 h0 => ?_
 unfold Q77.f at H
 refine J.seq (J.region ?_)
 refine RJ.run Za 1 rfl (RJ.fin [(0, .slice A1 a0.length c_1)] rfl (J.seq (J.seq (J.region ?_))))
 refine RJ.run Za 1 rfl (RJ.fin [(0, _), (3, .int .i64 1)] rfl (J.block ?_))
 have h5 := ((h0.only [] rfl).rds [0] rfl)
 refine J.loop (fun kk env w => ∃ (x1 : Int), env = [(0, .slice A1 a0.length c_1), (3, .int .i64 x1)] ∧ St w0 F0 [] [rdC 49 (.pair .str (.pair .bool .str)) a0 (.slice A1 a0.length c_1)] w ∧ Q77.l0 kk a0 x1 = some r) (k := k) ⟨1, rfl, h5, H⟩ ?_
 rintro k1 env w1 ⟨x1, rfl, h1, H⟩
 cases k1 with
 | zero => exact nomatch (show none = some r from H)
 | succ k1 =>
  rw [Q77.l0] at H
  refine J.seq (J.seq (J.region ?_))
  refine RJ.run Za 4 rfl (RJ.fin [(0, _), (3, _), (7, .bool (decide (x1 < (a0.length : Int))))] rfl (J.cond rfl (fun c1 => ?_) (fun c1 => ?_)))
  ·replace H := Zi c1 H
   refine J.skip (J.seq (J.block (J.seq ?_)))
   refine J.heldSt mix h1 ?_
   have h2 := h1.drew
   refine HJ.run Za rfl [0, 1, 2, 6, 7] rfl ?_
   obtain ⟨⟨p1, p2⟩, H⟩ := Zo H
   have e1 := Zy h2.wh (Gives.self 0 rfl) p1 p2
   refine HJ.q (i := 3) rfl rfl rfl rfl rfl rfl (Zk Za rfl rfl rfl rfl rfl e1 p1 p2) (HJ.run Za rfl [4] rfl (HJ.q (i := 5) rfl rfl rfl rfl rfl rfl (Ze (f := 0) Za rfl (fun w e => e) (Gives.self 0 rfl) p1 p2 rfl rfl rfl rfl rfl) ?_))
   obtain ⟨⟨p3, p4⟩, H⟩ := Zo H
   refine HJ.q (i := 8) rfl rfl rfl rfl rfl rfl (Zk Za rfl rfl rfl rfl rfl e1 p3 p4) (HJ.run Za rfl [9] rfl (HJ.q (i := 10) rfl rfl rfl rfl rfl rfl (Ze (f := 0) Za rfl (fun w e => e) (Gives.self 0 rfl) p3 p4 rfl rfl rfl rfl rfl) ?_))
   obtain ⟨r1, q1, H⟩ := Zj H
   refine HJ.op (i := 11) rfl rfl rfl rfl rfl (Zd [] (Q68.spec q1) rfl rfl rfl h2 rfl Zm) ?_
   rintro _ w2 ⟨_, ⟨rfl, rfl⟩, h3⟩
   replace h3 : St w0 F0 [] _ _ := h3
   refine ⟨⟨[], h3⟩, ?_⟩
   refine HJ.run Za rfl [12] rfl (HJ.fin [(0, _), (3, _), (22, .bool (decide (0 ≤ r1)))] rfl rfl (J.cond rfl (fun c2 => ?_) (fun c2 => ?_)))
   ·replace H := Zi c2 H
    refine J.seq (J.region ?_)
    refine RJ.run Za 1 rfl (RJ.fin [(2, .bool false)] rfl (J.ret ?_))
    obtain rfl := Option.some.inj H
    exact ⟨_, _, _, (Zb rfl), ⟨rfl, rfl⟩, h3.only [] rfl⟩
   replace H := Zg c2 H
   refine J.skip (J.region (RJ.run Za 3 rfl (RJ.fin [(0, _), (3, .int .i64 (w64 (x1 + 1)))] rfl ?_)))
   have h4 := ((h3.only [] rfl).rds [0] rfl)
   exact ⟨k1, by omega, (w64 (x1 + 1)), rfl, h4, H⟩
  replace H := Zg c1 H
  refine J.exit (J.seq (J.region ?_))
  refine RJ.run Za 1 rfl (RJ.fin [(2, .bool true)] rfl (J.ret ?_))
  obtain rfl := Option.some.inj H
  exact ⟨_, _, _, (Zb rfl), ⟨rfl, rfl⟩, h1.only [] rfl⟩

def Q88.l3 : Nat → (Int × Int × Int × Int × Int × Int × Int × Int) → (List UInt8 × List UInt8 × Bool) → (Int × List (Int) × List (List UInt8) × (List (List UInt8 × Bool × List UInt8)) × (List (List UInt8 × List UInt8))) → (Int) → Option (Bool)
 | 0, _, _, _, _ => none
 | k + 1, a0, a1, a2, x4 => if (decide (x4 < (a2.2.2.2.1.length : Int))) = true then (if 0 ≤ x4 ∧ x4 < (a2.2.2.2.1.length : Int) then ((Q85.f (a0.1, a0.2.1, a0.2.2.1, a0.2.2.2.1, a0.2.2.2.2.1, a0.2.2.2.2.2.1, a0.2.2.2.2.2.2.1, a0.2.2.2.2.2.2.2) ((gt a2.2.2.2.1 x4).1)).bind fun r2 => (if (!r2) = true then (some false) else ((Q69.f k (a1.1, a1.2.1, a1.2.2) ((gt a2.2.2.2.1 x4).1)).bind fun r3 => (if (!r3) = true then (some false) else (if (decide (a0.2.2.2.2.2.2.2 < (((gt a2.2.2.2.1 x4).2.2).length : Int))) = true then (some false) else (if (gt a2.2.2.2.1 x4).2.1 = true then (if (!decide (((gt a2.2.2.2.1 x4).2.2) = ([] : List UInt8))) = true then (some false) else (Q88.l3 k a0 a1 a2 (w64 (x4 + 1)))) else (Q88.l3 k a0 a1 a2 (w64 (x4 + 1))))))))) else none) else (if (decide (40 < a2.1)) = true then (some false) else (if (decide (0 < (a2.2.2.2.2.length : Int))) = true then (some false) else (if (decide ((a2.2.1.length : Int) < 1)) = true then (some false) else (if (decide (a0.2.2.2.1 < (a2.2.1.length : Int))) = true then (some false) else (if (!decide ((w64 ((a2.2.2.1.length : Int) + 1)) = (a2.2.1.length : Int))) = true then (some false) else ((Q81.f k a2.2.2.1 (a1.1, a1.2.1, a1.2.2)).bind fun r4 => (if r4 = true then (if (decide ((a2.2.2.2.1.length : Int) ≤ a0.2.2.2.2.1)) = true then ((Q77.f k a2.2.2.2.1).bind fun r5 => (some r5)) else (some false)) else (some false))))))))
def Q88.l2 : Nat → (Int × Int × Int × Int × Int × Int × Int × Int) → (List UInt8 × List UInt8 × Bool) → (Int × List (Int) × List (List UInt8) × (List (List UInt8 × Bool × List UInt8)) × (List (List UInt8 × List UInt8))) → (Int) → Option (Bool)
 | 0, _, _, _, _ => none
 | k + 1, a0, a1, a2, x3 => if (decide (x3 < (a2.2.2.1.length : Int))) = true then (if 0 ≤ x3 ∧ x3 < (a2.2.2.1.length : Int) then ((Q85.f (a0.1, a0.2.1, a0.2.2.1, a0.2.2.2.1, a0.2.2.2.2.1, a0.2.2.2.2.2.1, a0.2.2.2.2.2.2.1, a0.2.2.2.2.2.2.2) (gt a2.2.2.1 x3)).bind fun r1 => (if (!r1) = true then (some false) else (Q88.l2 k a0 a1 a2 (w64 (x3 + 1))))) else none) else (Q88.l3 k a0 a1 a2 0)
mutual
def Q88.l0 : Nat → (Int × Int × Int × Int × Int × Int × Int × Int) → (List UInt8 × List UInt8 × Bool) → (Int × List (Int) × List (List UInt8) × (List (List UInt8 × Bool × List UInt8)) × (List (List UInt8 × List UInt8))) → (Int) → Option (Bool)
 | 0, _, _, _, _ => none
 | k + 1, a0, a1, a2, x1 => if (decide (x1 < (a2.2.1.length : Int))) = true then (if 0 ≤ x1 ∧ x1 < (a2.2.1.length : Int) then (if (decide ((gt a2.2.1 x1) = 0)) = true then (some false) else (if (decide (a0.1 ≤ (w64 ((gt a2.2.1 x1))))) = true then (some false) else (Q88.l1 k a0 a1 a2 x1 0))) else none) else (Q88.l2 k a0 a1 a2 0)
def Q88.l1 : Nat → (Int × Int × Int × Int × Int × Int × Int × Int) → (List UInt8 × List UInt8 × Bool) → (Int × List (Int) × List (List UInt8) × (List (List UInt8 × Bool × List UInt8)) × (List (List UInt8 × List UInt8))) → (Int) → (Int) → Option (Bool)
 | 0, _, _, _, _, _ => none
 | k + 1, a0, a1, a2, x1, x2 => if (decide (x2 < x1)) = true then (if 0 ≤ x2 ∧ x2 < (a2.2.1.length : Int) then (if (decide ((gt a2.2.1 x2) = (gt a2.2.1 x1))) = true then (some false) else (Q88.l1 k a0 a1 a2 x1 (w64 (x2 + 1)))) else none) else (Q88.l0 k a0 a1 a2 (w64 (x1 + 1)))
end
def Q88.f (k : Nat) (a0 : Int × Int × Int × Int × Int × Int × Int × Int) (a1 : List UInt8 × List UInt8 × Bool) (a2 : Int × List (Int) × List (List UInt8) × (List (List UInt8 × Bool × List UInt8)) × (List (List UInt8 × List UInt8))) : Option (Bool) := Q88.l0 k a0 a1 a2 0
theorem Q88.spec {k : Nat} {a0 : Int × Int × Int × Int × Int × Int × Int × Int} {a1 : List UInt8 × List UInt8 × Bool} {a2 : Int × List (Int) × List (List UInt8) × (List (List UInt8 × Bool × List UInt8)) × (List (List UInt8 × List UInt8))} {A1 : Option Addr} {c_1 : Nat} {A2 : Option Addr} {c_2 : Nat} {A3 : Option Addr} {c_3 : Nat} {A4 : Option Addr} {c_4 : Nat} {r : Bool} (H : Q88.f k a0 a1 a2 = some r) :
  Spec Tryz.prog 63 [.agg #[.int .i64 a0.1, .int .i64 a0.2.1, .int .i64 a0.2.2.1, .int .i64 a0.2.2.2.1, .int .i64 a0.2.2.2.2.1, .int .i64 a0.2.2.2.2.2.1, .int .i64 a0.2.2.2.2.2.2.1, .int .i64 a0.2.2.2.2.2.2.2], .agg #[.string ⟨⟨a1.1⟩⟩, .string ⟨⟨a1.2.1⟩⟩, .bool a1.2.2], .agg #[.int .i64 a2.1, .slice A1 a2.2.1.length c_1, .slice A2 a2.2.2.1.length c_2, .slice A3 a2.2.2.2.1.length c_3, .slice A4 a2.2.2.2.2.length c_4]] [] [rdC 70 (.int .u32) a2.2.1 (.slice A1 a2.2.1.length c_1), rdC 9 .str a2.2.2.1 (.slice A2 a2.2.2.1.length c_2), rdC 49 (.pair .str (.pair .bool .str)) a2.2.2.2.1 (.slice A3 a2.2.2.2.1.length c_3), rdC 51 (.pair .str .str) a2.2.2.2.2 (.slice A4 a2.2.2.2.2.length c_4)] (fun v l => v = .bool r ∧ l = []) := by
 refine Spec.enter Tryz.func63 rfl (by kernel_rfl) (by kernel_rfl) fun w0 F0 h0 => ?_
 unfold Q88.f at H
 refine J.seq (J.region ?_)
 refine RJ.op rfl rfl (Z2 rfl rfl h0) ?_
 rintro _ w1 ⟨b1, rfl, h1⟩
 replace h1 : St w0 F0 [Zh b1 23 [.int .i64 a0.1, .int .i64 a0.2.1, .int .i64 a0.2.2.1, .int .i64 a0.2.2.2.1, .int .i64 a0.2.2.2.2.1, .int .i64 a0.2.2.2.2.2.1, .int .i64 a0.2.2.2.2.2.2.1, .int .i64 a0.2.2.2.2.2.2.2]] _ _ := h1
 refine RJ.op rfl rfl (Z2 rfl rfl h1) ?_
 rintro _ w2 ⟨b2, rfl, h2⟩
 replace h2 : St w0 F0 [Zh b2 55 [.string ⟨⟨a1.1⟩⟩, .string ⟨⟨a1.2.1⟩⟩, .bool a1.2.2], _] _ _ := h2
 refine RJ.op rfl rfl (Z2 rfl rfl h2) ?_
 rintro _ w3 ⟨b3, rfl, h3⟩
 replace h3 : St w0 F0 [Zh b3 29 [.int .i64 a2.1, .slice A1 a2.2.1.length c_1, .slice A2 a2.2.2.1.length c_2, .slice A3 a2.2.2.2.1.length c_3, .slice A4 a2.2.2.2.2.length c_4], _, _] _ _ := h3
 refine RJ.run Za 1 rfl (RJ.fin [(3, .pointer (some ⟨b1, 0, none⟩)), (4, .pointer (some ⟨b2, 0, none⟩)), (5, .pointer (some ⟨b3, 0, none⟩))] rfl (J.seq (J.seq (J.region ?_))))
 refine RJ.run Za 1 rfl (RJ.fin [(3, _), (4, _), (5, _), (7, .int .i64 0)] rfl (J.block ?_))
 have h42 := ((h3.only [2, 1, 0] rfl).rds [0, 1, 2, 3] rfl)
 refine J.loop (fun kk env w => ∃ (x1 : Int), env = [(3, .pointer (some ⟨b1, 0, none⟩)), (4, .pointer (some ⟨b2, 0, none⟩)), (5, .pointer (some ⟨b3, 0, none⟩)), (7, .int .i64 x1)] ∧ St w0 F0 [Zh b1 23 [.int .i64 a0.1, .int .i64 a0.2.1, .int .i64 a0.2.2.1, .int .i64 a0.2.2.2.1, .int .i64 a0.2.2.2.2.1, .int .i64 a0.2.2.2.2.2.1, .int .i64 a0.2.2.2.2.2.2.1, .int .i64 a0.2.2.2.2.2.2.2], Zh b2 55 [.string ⟨⟨a1.1⟩⟩, .string ⟨⟨a1.2.1⟩⟩, .bool a1.2.2], Zh b3 29 [.int .i64 a2.1, .slice A1 a2.2.1.length c_1, .slice A2 a2.2.2.1.length c_2, .slice A3 a2.2.2.2.1.length c_3, .slice A4 a2.2.2.2.2.length c_4]] [rdC 70 (.int .u32) a2.2.1 (.slice A1 a2.2.1.length c_1), rdC 9 .str a2.2.2.1 (.slice A2 a2.2.2.1.length c_2), rdC 49 (.pair .str (.pair .bool .str)) a2.2.2.2.1 (.slice A3 a2.2.2.2.1.length c_3), rdC 51 (.pair .str .str) a2.2.2.2.2 (.slice A4 a2.2.2.2.2.length c_4)] w ∧ Q88.l0 kk a0 a1 a2 x1 = some r) (k := k) ⟨0, rfl, h42, H⟩ ?_
 rintro k1 env w4 ⟨x1, rfl, h4, H⟩
 cases k1 with
 | zero => exact nomatch (show none = some r from H)
 | succ k1 =>
  rw [Q88.l0] at H
  refine J.seq (J.seq (J.region ?_))
  refine RJ.run Za 2 rfl (RJ.q rfl rfl (Zc Za 2 h4.wht rfl rfl rfl rfl rfl) (RJ.run Za 2 rfl (RJ.fin [(3, _), (4, _), (5, _), (7, _), (16, .bool (decide (x1 < (a2.2.1.length : Int))))] rfl (J.cond rfl (fun c1 => ?_) (fun c1 => ?_)))))
  ·replace H := Zi c1 H
   refine J.skip (J.seq (J.block (J.seq (J.seq ?_))))
   refine J.heldSt mix h4 ?_
   have h5 := h4.drew
   refine HJ.run Za rfl [0, 2] rfl (HJ.q (i := 1) rfl rfl rfl rfl rfl rfl (Zc Za 2 (fun w e => e) rfl rfl rfl rfl rfl) ?_)
   obtain ⟨⟨p1, p2⟩, H⟩ := Zo H
   have e1 := Zy h5.wh (Gives.self 3 rfl) p1 p2
   refine HJ.q (i := 3) rfl rfl rfl rfl rfl rfl (Zk Za rfl rfl rfl rfl rfl e1 p1 p2) (HJ.q (i := 4) rfl rfl rfl rfl rfl rfl (Ze (f := 0) Za rfl (fun w e => e) (Gives.self 3 rfl) p1 p2 rfl rfl rfl rfl rfl) ?_)
   refine HJ.run Za rfl [5, 6] rfl ?_
   rcases Bool.eq_false_or_eq_true (decide ((gt a2.2.1 x1) = 0)) with c2 | c2
   ·replace H := Zi c2 H
    refine HJ.know (t := 25) rfl (congrArg Value.bool c2) (HJ.run Za rfl [7, 8, 9, 10, 11, 12, 13, 14, 15, 16] rfl (HJ.fin [(3, _), (4, _), (5, _), (7, _), (35, .bool true)] rfl rfl (J.condT rfl (J.seq (J.region ?_)))))
    refine RJ.run Za 1 rfl (RJ.fin [(6, .bool false)] rfl ?_)
    have h6 := h5.only [] rfl
    replace h6 : St w0 F0 [] _ _ := h6
    refine J.ret ?_
    obtain rfl := Option.some.inj H
    exact ⟨_, _, _, (Zb rfl), ⟨rfl, rfl⟩, h6.only [] rfl⟩
   replace H := Zg c2 H
   refine HJ.know (t := 25) rfl (congrArg Value.bool c2) (HJ.run Za rfl [7, 9, 13] rfl (HJ.q (i := 8) rfl rfl rfl rfl rfl rfl (Zc Za 2 (fun w e => e) rfl rfl rfl rfl rfl) ?_))
   refine HJ.q (i := 10) rfl rfl rfl rfl rfl rfl (Zk Za rfl rfl rfl rfl rfl e1 p1 p2) (HJ.q (i := 11) rfl rfl rfl rfl rfl rfl (Ze (f := 0) Za rfl (fun w e => e) (Gives.self 3 rfl) p1 p2 rfl rfl rfl rfl rfl) ?_)
   refine HJ.run Za rfl [12] rfl (HJ.q (i := 14) rfl rfl rfl rfl rfl rfl (Zc Za 0 (fun w e => e) rfl rfl rfl rfl rfl) ?_)
   refine HJ.run Za rfl [15, 16] rfl (HJ.fin [(3, _), (4, _), (5, _), (7, _), (35, .bool (decide (a0.1 ≤ (w64 ((gt a2.2.1 x1))))))] rfl rfl (J.cond rfl (fun c3 => ?_) (fun c3 => ?_)))
   ·replace H := Zi c3 H
    refine J.seq (J.region ?_)
    refine RJ.run Za 1 rfl (RJ.fin [(6, .bool false)] rfl ?_)
    have h7 := h5.only [] rfl
    replace h7 : St w0 F0 [] _ _ := h7
    refine J.ret ?_
    obtain rfl := Option.some.inj H
    exact ⟨_, _, _, (Zb rfl), ⟨rfl, rfl⟩, h7.only [] rfl⟩
   replace H := Zg c3 H
   refine J.skip (J.seq (J.region ?_))
   refine RJ.run Za 1 rfl (RJ.fin [(3, _), (4, _), (5, _), (7, _), (8, .int .i64 0)] rfl (J.block ?_))
   have h13 := ((h5.only [0, 0, 0] rfl).rds [0, 1, 2, 3] rfl)
   refine J.loop (fun kk env w => ∃ (x2 : Int), env = [(3, .pointer (some ⟨b1, 0, none⟩)), (4, .pointer (some ⟨b2, 0, none⟩)), (5, .pointer (some ⟨b3, 0, none⟩)), (7, .int .i64 x1), (8, .int .i64 x2)] ∧ St w0 F0 [Zh b1 23 [.int .i64 a0.1, .int .i64 a0.2.1, .int .i64 a0.2.2.1, .int .i64 a0.2.2.2.1, .int .i64 a0.2.2.2.2.1, .int .i64 a0.2.2.2.2.2.1, .int .i64 a0.2.2.2.2.2.2.1, .int .i64 a0.2.2.2.2.2.2.2], Zh b2 55 [.string ⟨⟨a1.1⟩⟩, .string ⟨⟨a1.2.1⟩⟩, .bool a1.2.2], Zh b3 29 [.int .i64 a2.1, .slice A1 a2.2.1.length c_1, .slice A2 a2.2.2.1.length c_2, .slice A3 a2.2.2.2.1.length c_3, .slice A4 a2.2.2.2.2.length c_4]] [rdC 70 (.int .u32) a2.2.1 (.slice A1 a2.2.1.length c_1), rdC 9 .str a2.2.2.1 (.slice A2 a2.2.2.1.length c_2), rdC 49 (.pair .str (.pair .bool .str)) a2.2.2.2.1 (.slice A3 a2.2.2.2.1.length c_3), rdC 51 (.pair .str .str) a2.2.2.2.2 (.slice A4 a2.2.2.2.2.length c_4)] w ∧ Q88.l1 kk a0 a1 a2 x1 x2 = some r ∧ kk ≤ k1) (k := k1) ⟨0, rfl, h13, H, Nat.le_refl _⟩ ?_
   rintro k2 env w5 ⟨x2, rfl, h8, H, hk2⟩
   cases k2 with
   | zero => exact nomatch (show none = some r from H)
   | succ k2 =>
    rw [Q88.l1] at H
    refine J.seq (J.seq (J.region ?_))
    refine RJ.run Za 3 rfl (RJ.fin [(3, _), (4, _), (5, _), (7, _), (8, _), (38, .bool (decide (x2 < x1)))] rfl (J.cond rfl (fun c4 => ?_) (fun c4 => ?_)))
    ·replace H := Zi c4 H
     refine J.skip (J.seq (J.block (J.seq ?_)))
     refine J.heldSt mix h8 ?_
     have h9 := h8.drew
     refine HJ.run Za rfl [0, 2, 5, 7] rfl (HJ.q (i := 1) rfl rfl rfl rfl rfl rfl (Zc Za 2 (fun w e => e) rfl rfl rfl rfl rfl) ?_)
     obtain ⟨⟨p3, p4⟩, H⟩ := Zo H
     refine HJ.q (i := 3) rfl rfl rfl rfl rfl rfl (Zk Za rfl rfl rfl rfl rfl e1 p3 p4) (HJ.q (i := 4) rfl rfl rfl rfl rfl rfl (Ze (f := 0) Za rfl (fun w e => e) (Gives.self 3 rfl) p3 p4 rfl rfl rfl rfl rfl) ?_)
     refine HJ.q (i := 6) rfl rfl rfl rfl rfl rfl (Zc Za 2 (fun w e => e) rfl rfl rfl rfl rfl) ?_
     refine HJ.q (i := 8) rfl rfl rfl rfl rfl rfl (Zk Za rfl rfl rfl rfl rfl e1 p1 p2) (HJ.q (i := 9) rfl rfl rfl rfl rfl rfl (Ze (f := 0) Za rfl (fun w e => e) (Gives.self 3 rfl) p1 p2 rfl rfl rfl rfl rfl) ?_)
     refine HJ.run Za rfl [10] rfl (HJ.fin [(3, _), (4, _), (5, _), (7, _), (8, _), (51, .bool (decide ((gt a2.2.1 x2) = (gt a2.2.1 x1))))] rfl rfl (J.cond rfl (fun c5 => ?_) (fun c5 => ?_)))
     ·replace H := Zi c5 H
      refine J.seq (J.region ?_)
      refine RJ.run Za 1 rfl (RJ.fin [(6, .bool false)] rfl ?_)
      have h10 := h9.only [] rfl
      replace h10 : St w0 F0 [] _ _ := h10
      refine J.ret ?_
      obtain rfl := Option.some.inj H
      exact ⟨_, _, _, (Zb rfl), ⟨rfl, rfl⟩, h10.only [] rfl⟩
     replace H := Zg c5 H
     refine J.skip (J.region (RJ.run Za 3 rfl (RJ.fin [(3, _), (4, _), (5, _), (7, _), (8, .int .i64 (w64 (x2 + 1)))] rfl ?_)))
     have h11 := ((h9.only [0, 0, 0] rfl).rds [0, 1, 2, 3] rfl)
     exact ⟨k2, by omega, (w64 (x2 + 1)), rfl, h11, H, by omega⟩
    replace H := Zg c4 H
    refine J.exit (J.region (RJ.run Za 3 rfl (RJ.fin [(3, _), (4, _), (5, _), (7, .int .i64 (w64 (x1 + 1)))] rfl ?_)))
    have h12 := ((h8.only [0, 0, 0] rfl).rds [0, 1, 2, 3] rfl)
    exact ⟨k2, by omega, (w64 (x1 + 1)), rfl, h12, H⟩
  replace H := Zg c1 H
  refine J.exit (J.seq (J.seq (J.region ?_)))
  refine RJ.run Za 1 rfl (RJ.fin [(3, _), (4, _), (5, _), (9, .int .i64 0)] rfl (J.block ?_))
  have h41 := ((h4.only [0, 0, 0] rfl).rds [0, 1, 2, 3] rfl)
  refine J.loop (fun kk env w => ∃ (x3 : Int), env = [(3, .pointer (some ⟨b1, 0, none⟩)), (4, .pointer (some ⟨b2, 0, none⟩)), (5, .pointer (some ⟨b3, 0, none⟩)), (9, .int .i64 x3)] ∧ St w0 F0 [Zh b1 23 [.int .i64 a0.1, .int .i64 a0.2.1, .int .i64 a0.2.2.1, .int .i64 a0.2.2.2.1, .int .i64 a0.2.2.2.2.1, .int .i64 a0.2.2.2.2.2.1, .int .i64 a0.2.2.2.2.2.2.1, .int .i64 a0.2.2.2.2.2.2.2], Zh b2 55 [.string ⟨⟨a1.1⟩⟩, .string ⟨⟨a1.2.1⟩⟩, .bool a1.2.2], Zh b3 29 [.int .i64 a2.1, .slice A1 a2.2.1.length c_1, .slice A2 a2.2.2.1.length c_2, .slice A3 a2.2.2.2.1.length c_3, .slice A4 a2.2.2.2.2.length c_4]] [rdC 70 (.int .u32) a2.2.1 (.slice A1 a2.2.1.length c_1), rdC 9 .str a2.2.2.1 (.slice A2 a2.2.2.1.length c_2), rdC 49 (.pair .str (.pair .bool .str)) a2.2.2.2.1 (.slice A3 a2.2.2.2.1.length c_3), rdC 51 (.pair .str .str) a2.2.2.2.2 (.slice A4 a2.2.2.2.2.length c_4)] w ∧ Q88.l2 kk a0 a1 a2 x3 = some r) (k := k1) ⟨0, rfl, h41, H⟩ ?_
  rintro k3 env w6 ⟨x3, rfl, h14, H⟩
  cases k3 with
  | zero => exact nomatch (show none = some r from H)
  | succ k3 =>
   rw [Q88.l2] at H
   refine J.seq (J.seq (J.region ?_))
   refine RJ.run Za 2 rfl (RJ.q rfl rfl (Zc Za 2 h14.wht rfl rfl rfl rfl rfl) (RJ.run Za 2 rfl (RJ.fin [(3, _), (4, _), (5, _), (9, _), (56, .bool (decide (x3 < (a2.2.2.1.length : Int))))] rfl (J.cond rfl (fun c6 => ?_) (fun c6 => ?_)))))
   ·replace H := Zi c6 H
    refine J.skip (J.seq (J.block (J.seq ?_)))
    refine J.heldSt mix h14 ?_
    have h15 := h14.drew
    refine HJ.run Za rfl [1, 3] rfl (HJ.q (i := 0) rfl rfl rfl rfl rfl rfl (Zc Za 0 (fun w e => e) rfl rfl rfl rfl rfl) ?_)
    refine HJ.q (i := 2) rfl rfl rfl rfl rfl rfl (Zc Za 2 (fun w e => e) rfl rfl rfl rfl rfl) ?_
    obtain ⟨⟨p5, p6⟩, H⟩ := Zo H
    have e2 := Zy h15.wh (Gives.self 4 rfl) p5 p6
    refine HJ.q (i := 4) rfl rfl rfl rfl rfl rfl (Zk Za rfl rfl rfl rfl rfl e2 p5 p6) (HJ.q (i := 5) rfl rfl rfl rfl rfl rfl (Ze (f := 0) Za rfl (fun w e => e) (Gives.self 4 rfl) p5 p6 rfl rfl rfl rfl rfl) ?_)
    obtain ⟨r1, q1, H⟩ := Zj H
    refine HJ.op (i := 6) rfl rfl rfl rfl rfl (Zd [] (Q85.spec q1) rfl rfl rfl h15 rfl Zm) ?_
    rintro _ w7 ⟨_, ⟨rfl, rfl⟩, h16⟩
    replace h16 : St w0 F0 [_, _, _] _ _ := h16
    refine ⟨⟨[], h16⟩, ?_⟩
    refine HJ.run Za rfl [7] rfl (HJ.fin [(3, _), (4, _), (5, _), (9, _), (66, .bool (!r1))] rfl rfl (J.cond rfl (fun c7 => ?_) (fun c7 => ?_)))
    ·replace H := Zi c7 H
     refine J.seq (J.region ?_)
     refine RJ.run Za 1 rfl (RJ.fin [(6, .bool false)] rfl ?_)
     have h17 := h16.only [] rfl
     replace h17 : St w0 F0 [] _ _ := h17
     refine J.ret ?_
     obtain rfl := Option.some.inj H
     exact ⟨_, _, _, (Zb rfl), ⟨rfl, rfl⟩, h17.only [] rfl⟩
    replace H := Zg c7 H
    refine J.skip (J.region (RJ.run Za 3 rfl (RJ.fin [(3, _), (4, _), (5, _), (9, .int .i64 (w64 (x3 + 1)))] rfl ?_)))
    have h18 := ((h16.only [0, 0, 0] rfl).rds [0, 1, 2, 3] rfl)
    exact ⟨k3, by omega, (w64 (x3 + 1)), rfl, h18, H⟩
   replace H := Zg c6 H
   refine J.exit (J.seq (J.seq (J.region ?_)))
   refine RJ.run Za 1 rfl (RJ.fin [(3, _), (4, _), (5, _), (10, .int .i64 0)] rfl (J.block ?_))
   have h40 := ((h14.only [0, 0, 0] rfl).rds [0, 1, 2, 3] rfl)
   refine J.loop (fun kk env w => ∃ (x4 : Int), env = [(3, .pointer (some ⟨b1, 0, none⟩)), (4, .pointer (some ⟨b2, 0, none⟩)), (5, .pointer (some ⟨b3, 0, none⟩)), (10, .int .i64 x4)] ∧ St w0 F0 [Zh b1 23 [.int .i64 a0.1, .int .i64 a0.2.1, .int .i64 a0.2.2.1, .int .i64 a0.2.2.2.1, .int .i64 a0.2.2.2.2.1, .int .i64 a0.2.2.2.2.2.1, .int .i64 a0.2.2.2.2.2.2.1, .int .i64 a0.2.2.2.2.2.2.2], Zh b2 55 [.string ⟨⟨a1.1⟩⟩, .string ⟨⟨a1.2.1⟩⟩, .bool a1.2.2], Zh b3 29 [.int .i64 a2.1, .slice A1 a2.2.1.length c_1, .slice A2 a2.2.2.1.length c_2, .slice A3 a2.2.2.2.1.length c_3, .slice A4 a2.2.2.2.2.length c_4]] [rdC 70 (.int .u32) a2.2.1 (.slice A1 a2.2.1.length c_1), rdC 9 .str a2.2.2.1 (.slice A2 a2.2.2.1.length c_2), rdC 49 (.pair .str (.pair .bool .str)) a2.2.2.2.1 (.slice A3 a2.2.2.2.1.length c_3), rdC 51 (.pair .str .str) a2.2.2.2.2 (.slice A4 a2.2.2.2.2.length c_4)] w ∧ Q88.l3 kk a0 a1 a2 x4 = some r) (k := k3) ⟨0, rfl, h40, H⟩ ?_
   rintro k4 env w8 ⟨x4, rfl, h19, H⟩
   cases k4 with
   | zero => exact nomatch (show none = some r from H)
   | succ k4 =>
    rw [Q88.l3] at H
    refine J.seq (J.seq (J.region ?_))
    refine RJ.run Za 2 rfl (RJ.q rfl rfl (Zc Za 2 h19.wht rfl rfl rfl rfl rfl) (RJ.run Za 2 rfl (RJ.fin [(3, _), (4, _), (5, _), (10, _), (71, .bool (decide (x4 < (a2.2.2.2.1.length : Int))))] rfl (J.cond rfl (fun c8 => ?_) (fun c8 => ?_)))))
    ·replace H := Zi c8 H
     refine J.skip (J.seq (J.block (J.seq (J.region ?_))))
     refine RJ.run Za 1 rfl (RJ.q rfl rfl (Zc Za 2 h19.wht rfl rfl rfl rfl rfl) (RJ.run Za 1 rfl ?_))
     obtain ⟨⟨p7, p8⟩, H⟩ := Zo H
     have e3 := Zy h19.wh (Gives.self 5 rfl) p7 p8
     refine RJ.q rfl rfl (Zk Za rfl rfl rfl rfl rfl e3 p7 p8) (RJ.q rfl rfl (Ze (f := 0) Za rfl h19.wht (Gives.self 5 rfl) p7 p8 rfl rfl rfl rfl rfl) (RJ.op rfl rfl (Ye Za rfl rfl h19) ?_))
     rintro _ w9 ⟨b4, rfl, h20⟩
     replace h20 : St w0 F0 [Zh b4 49 [.string ⟨⟨([] : List UInt8)⟩⟩, .bool false, .string ⟨⟨([] : List UInt8)⟩⟩], _, _, _] _ _ := h20
     refine RJ.op rfl rfl (Zt Za 0 rfl h20 rfl rfl rfl rfl rfl rfl rfl) ?_
     intro _ w10 h21
     replace h21 : St w0 F0 [Zh b4 49 [.string ⟨⟨(gt a2.2.2.2.1 x4).1⟩⟩, .bool ((gt a2.2.2.2.1 x4).2.1), .string ⟨⟨(gt a2.2.2.2.1 x4).2.2⟩⟩], _, _, _] _ _ := h21
     refine RJ.fin [(3, _), (4, _), (5, _), (10, _), (11, .pointer (some ⟨b4, 0, none⟩))] rfl (J.seq (J.region ?_))
     refine RJ.q rfl rfl (Zc Za 1 h21.wht rfl rfl rfl rfl rfl) (RJ.run Za 1 rfl (RJ.q rfl rfl (Zc Za 0 h21.wht rfl rfl rfl rfl rfl) ?_))
     obtain ⟨r2, q2, H⟩ := Zj H
     refine RJ.op rfl rfl (Zd [] (Q85.spec q2) rfl rfl rfl h21 rfl Zm) ?_
     rintro _ w11 ⟨_, ⟨rfl, rfl⟩, h22⟩
     replace h22 : St w0 F0 [_, _, _, _] _ _ := h22
     refine RJ.run Za 2 rfl ?_
     rcases Bool.eq_false_or_eq_true (!r2) with c9 | c9
     ·replace H := Zi c9 H
      refine RJ.know (t := 84) rfl (congrArg Value.bool c9) (RJ.run Za 23 rfl (RJ.fin [(3, _), (4, _), (5, _), (10, _), (107, .bool true)] rfl (J.condT rfl (J.seq (J.region ?_)))))
      refine RJ.run Za 1 rfl (RJ.fin [(6, .bool false)] rfl ?_)
      have h23 := h22.only [] rfl
      replace h23 : St w0 F0 [] _ _ := h23
      refine J.ret ?_
      obtain rfl := Option.some.inj H
      exact ⟨_, _, _, (Zb rfl), ⟨rfl, rfl⟩, h23.only [] rfl⟩
     replace H := Zg c9 H
     refine RJ.know (t := 84) rfl (congrArg Value.bool c9) (RJ.q rfl rfl (Zc Za 2 h22.wht rfl rfl rfl rfl rfl) (RJ.run Za 1 rfl (RJ.q rfl rfl (Zc Za 0 h22.wht rfl rfl rfl rfl rfl) ?_)))
     obtain ⟨r3, q3, H⟩ := Zj H
     refine RJ.op rfl rfl (Zd [] (Q69.spec q3) rfl rfl rfl h22 rfl Zm) ?_
     rintro _ w12 ⟨_, ⟨rfl, rfl⟩, h24⟩
     replace h24 : St w0 F0 [_, _, _, _] _ _ := h24
     refine RJ.run Za 3 rfl ?_
     rcases Bool.eq_false_or_eq_true (!r3) with c10 | c10
     ·replace H := Zi c10 H
      refine RJ.know (t := 91) rfl (congrArg Value.bool c10) (RJ.run Za 16 rfl (RJ.fin [(3, _), (4, _), (5, _), (10, _), (107, .bool true)] rfl (J.condT rfl (J.seq (J.region ?_)))))
      refine RJ.run Za 1 rfl (RJ.fin [(6, .bool false)] rfl ?_)
      have h25 := h24.only [] rfl
      replace h25 : St w0 F0 [] _ _ := h25
      refine J.ret ?_
      obtain rfl := Option.some.inj H
      exact ⟨_, _, _, (Zb rfl), ⟨rfl, rfl⟩, h25.only [] rfl⟩
     replace H := Zg c10 H
     refine RJ.know (t := 91) rfl (congrArg Value.bool c10) (RJ.run Za 1 rfl (RJ.q rfl rfl (Zc Za 0 h24.wht rfl rfl rfl rfl rfl) (RJ.run Za 2 rfl (RJ.q rfl rfl (Zc Za 1 h24.wht rfl rfl rfl rfl rfl) (RJ.run Za 3 rfl ?_)))))
     rcases Bool.eq_false_or_eq_true (decide (a0.2.2.2.2.2.2.2 < (((gt a2.2.2.2.1 x4).2.2).length : Int))) with c11 | c11
     ·replace H := Zi c11 H
      refine RJ.know (t := 99) rfl (congrArg Value.bool c11) (RJ.run Za 8 rfl (RJ.fin [(3, _), (4, _), (5, _), (10, _), (107, .bool true)] rfl (J.condT rfl (J.seq (J.region ?_)))))
      refine RJ.run Za 1 rfl (RJ.fin [(6, .bool false)] rfl ?_)
      have h26 := h24.only [] rfl
      replace h26 : St w0 F0 [] _ _ := h26
      refine J.ret ?_
      obtain rfl := Option.some.inj H
      exact ⟨_, _, _, (Zb rfl), ⟨rfl, rfl⟩, h26.only [] rfl⟩
     replace H := Zg c11 H
     refine RJ.know (t := 99) rfl (congrArg Value.bool c11) (RJ.run Za 1 rfl (RJ.q rfl rfl (Zc Za 0 h24.wht rfl rfl rfl rfl rfl) (RJ.run Za 1 rfl ?_)))
     rcases Bool.eq_false_or_eq_true ((gt a2.2.2.2.1 x4).2.1) with c12 | c12
     ·replace H := Zi c12 H
      refine RJ.know (t := 102) rfl (congrArg Value.bool c12) (RJ.run Za 1 rfl (RJ.q rfl rfl (Zc Za 0 h24.wht rfl rfl rfl rfl rfl) (RJ.run Za 3 rfl (RJ.fin [(3, _), (4, _), (5, _), (10, _), (107, .bool (!decide (((gt a2.2.2.2.1 x4).2.2) = ([] : List UInt8))))] rfl (J.cond rfl (fun c13 => ?_) (fun c13 => ?_))))))
      ·replace H := Zi c13 H
       refine J.seq (J.region ?_)
       refine RJ.run Za 1 rfl (RJ.fin [(6, .bool false)] rfl ?_)
       have h27 := h24.only [] rfl
       replace h27 : St w0 F0 [] _ _ := h27
       refine J.ret ?_
       obtain rfl := Option.some.inj H
       exact ⟨_, _, _, (Zb rfl), ⟨rfl, rfl⟩, h27.only [] rfl⟩
      replace H := Zg c13 H
      refine J.skip (J.region (RJ.run Za 3 rfl (RJ.fin [(3, _), (4, _), (5, _), (10, .int .i64 (w64 (x4 + 1)))] rfl ?_)))
      have h28 := ((h24.only [1, 1, 1] rfl).rds [0, 1, 2, 3] rfl)
      exact ⟨k4, by omega, (w64 (x4 + 1)), rfl, h28, H⟩
     replace H := Zg c12 H
     refine RJ.know (t := 102) rfl (congrArg Value.bool c12) (RJ.run Za 5 rfl (RJ.fin [(3, _), (4, _), (5, _), (10, _), (107, .bool false)] rfl (J.condF rfl (J.skip (J.region (RJ.run Za 3 rfl (RJ.fin [(3, _), (4, _), (5, _), (10, .int .i64 (w64 (x4 + 1)))] rfl ?_)))))))
     have h29 := ((h24.only [1, 1, 1] rfl).rds [0, 1, 2, 3] rfl)
     exact ⟨k4, by omega, (w64 (x4 + 1)), rfl, h29, H⟩
    replace H := Zg c8 H
    refine J.exit (J.seq (J.seq (J.region ?_)))
    refine RJ.run Za 1 rfl (RJ.q rfl rfl (Zc Za 2 h19.wht rfl rfl rfl rfl rfl) (RJ.run Za 2 rfl ?_))
    rcases Bool.eq_false_or_eq_true (decide (40 < a2.1)) with c14 | c14
    ·replace H := Zi c14 H
     refine RJ.know (t := 111) rfl (congrArg Value.bool c14) (RJ.run Za 29 rfl (RJ.fin [(3, _), (4, _), (5, _), (140, .bool true)] rfl (J.condT rfl (J.seq (J.region ?_)))))
     refine RJ.run Za 1 rfl (RJ.fin [(6, .bool false)] rfl ?_)
     have h30 := h19.only [] rfl
     replace h30 : St w0 F0 [] _ _ := h30
     refine J.ret ?_
     obtain rfl := Option.some.inj H
     exact ⟨_, _, _, (Zb rfl), ⟨rfl, rfl⟩, h30.only [] rfl⟩
    replace H := Zg c14 H
    refine RJ.know (t := 111) rfl (congrArg Value.bool c14) (RJ.run Za 1 rfl (RJ.q rfl rfl (Zc Za 2 h19.wht rfl rfl rfl rfl rfl) (RJ.run Za 4 rfl ?_)))
    rcases Bool.eq_false_or_eq_true (decide (0 < (a2.2.2.2.2.length : Int))) with c15 | c15
    ·replace H := Zi c15 H
     refine RJ.know (t := 117) rfl (congrArg Value.bool c15) (RJ.run Za 23 rfl (RJ.fin [(3, _), (4, _), (5, _), (140, .bool true)] rfl (J.condT rfl (J.seq (J.region ?_)))))
     refine RJ.run Za 1 rfl (RJ.fin [(6, .bool false)] rfl ?_)
     have h31 := h19.only [] rfl
     replace h31 : St w0 F0 [] _ _ := h31
     refine J.ret ?_
     obtain rfl := Option.some.inj H
     exact ⟨_, _, _, (Zb rfl), ⟨rfl, rfl⟩, h31.only [] rfl⟩
    replace H := Zg c15 H
    refine RJ.know (t := 117) rfl (congrArg Value.bool c15) (RJ.run Za 1 rfl (RJ.q rfl rfl (Zc Za 2 h19.wht rfl rfl rfl rfl rfl) (RJ.run Za 4 rfl ?_)))
    rcases Bool.eq_false_or_eq_true (decide ((a2.2.1.length : Int) < 1)) with c16 | c16
    ·replace H := Zi c16 H
     refine RJ.know (t := 123) rfl (congrArg Value.bool c16) (RJ.run Za 17 rfl (RJ.fin [(3, _), (4, _), (5, _), (140, .bool true)] rfl (J.condT rfl (J.seq (J.region ?_)))))
     refine RJ.run Za 1 rfl (RJ.fin [(6, .bool false)] rfl ?_)
     have h32 := h19.only [] rfl
     replace h32 : St w0 F0 [] _ _ := h32
     refine J.ret ?_
     obtain rfl := Option.some.inj H
     exact ⟨_, _, _, (Zb rfl), ⟨rfl, rfl⟩, h32.only [] rfl⟩
    replace H := Zg c16 H
    refine RJ.know (t := 123) rfl (congrArg Value.bool c16) (RJ.run Za 1 rfl (RJ.q rfl rfl (Zc Za 2 h19.wht rfl rfl rfl rfl rfl) (RJ.run Za 2 rfl (RJ.q rfl rfl (Zc Za 0 h19.wht rfl rfl rfl rfl rfl) (RJ.run Za 3 rfl ?_)))))
    rcases Bool.eq_false_or_eq_true (decide (a0.2.2.2.1 < (a2.2.1.length : Int))) with c17 | c17
    ·replace H := Zi c17 H
     refine RJ.know (t := 131) rfl (congrArg Value.bool c17) (RJ.run Za 9 rfl (RJ.fin [(3, _), (4, _), (5, _), (140, .bool true)] rfl (J.condT rfl (J.seq (J.region ?_)))))
     refine RJ.run Za 1 rfl (RJ.fin [(6, .bool false)] rfl ?_)
     have h33 := h19.only [] rfl
     replace h33 : St w0 F0 [] _ _ := h33
     refine J.ret ?_
     obtain rfl := Option.some.inj H
     exact ⟨_, _, _, (Zb rfl), ⟨rfl, rfl⟩, h33.only [] rfl⟩
    replace H := Zg c17 H
    refine RJ.know (t := 131) rfl (congrArg Value.bool c17) (RJ.run Za 1 rfl (RJ.q rfl rfl (Zc Za 2 h19.wht rfl rfl rfl rfl rfl) (RJ.run Za 3 rfl (RJ.q rfl rfl (Zc Za 2 h19.wht rfl rfl rfl rfl rfl) (RJ.run Za 3 rfl (RJ.fin [(3, _), (4, _), (5, _), (140, .bool (!decide ((w64 ((a2.2.2.1.length : Int) + 1)) = (a2.2.1.length : Int))))] rfl (J.cond rfl (fun c18 => ?_) (fun c18 => ?_))))))))
    ·replace H := Zi c18 H
     refine J.seq (J.region ?_)
     refine RJ.run Za 1 rfl (RJ.fin [(6, .bool false)] rfl ?_)
     have h34 := h19.only [] rfl
     replace h34 : St w0 F0 [] _ _ := h34
     refine J.ret ?_
     obtain rfl := Option.some.inj H
     exact ⟨_, _, _, (Zb rfl), ⟨rfl, rfl⟩, h34.only [] rfl⟩
    replace H := Zg c18 H
    refine J.skip (J.seq (J.region ?_))
    refine RJ.run Za 1 rfl (RJ.q rfl rfl (Zc Za 2 h19.wht rfl rfl rfl rfl rfl) (RJ.q rfl rfl (Zc Za 1 h19.wht rfl rfl rfl rfl rfl) ?_))
    obtain ⟨r4, q4, H⟩ := Zj H
    refine RJ.op rfl rfl (Zd [] (Q81.spec q4) rfl rfl rfl h19 rfl (Zr (Gives.self 4 rfl) Zm)) ?_
    rintro _ w13 ⟨_, ⟨rfl, rfl⟩, h35⟩
    replace h35 : St w0 F0 [_, _, _] _ _ := h35
    refine RJ.run Za 1 rfl ?_
    rcases Bool.eq_false_or_eq_true r4 with c19 | c19
    ·replace H := Zi c19 H
     refine RJ.know (t := 145) rfl (congrArg Value.bool c19) (RJ.run Za 1 rfl (RJ.q rfl rfl (Zc Za 2 h35.wht rfl rfl rfl rfl rfl) (RJ.run Za 2 rfl (RJ.q rfl rfl (Zc Za 0 h35.wht rfl rfl rfl rfl rfl) (RJ.run Za 3 rfl ?_)))))
     rcases Bool.eq_false_or_eq_true (decide ((a2.2.2.2.1.length : Int) ≤ a0.2.2.2.2.1)) with c20 | c20
     ·replace H := Zi c20 H
      refine RJ.know (t := 153) rfl (congrArg Value.bool c20) (RJ.run Za 1 rfl (RJ.q rfl rfl (Zc Za 2 h35.wht rfl rfl rfl rfl rfl) ?_))
      obtain ⟨r5, q5, H⟩ := Zj H
      refine RJ.op rfl rfl (Zd [] (Q77.spec q5) rfl rfl rfl h35 rfl (Zr (Gives.self 5 rfl) Zm)) ?_
      rintro _ w14 ⟨_, ⟨rfl, rfl⟩, h36⟩
      replace h36 : St w0 F0 [_, _, _] _ _ := h36
      refine RJ.run Za 2 rfl (RJ.fin [(6, .bool r5)] rfl ?_)
      have h37 := h36.only [] rfl
      replace h37 : St w0 F0 [] _ _ := h37
      refine J.ret ?_
      obtain rfl := Option.some.inj H
      exact ⟨_, _, _, (Zb rfl), ⟨rfl, rfl⟩, h37.only [] rfl⟩
     replace H := Zg c20 H
     refine RJ.know (t := 153) rfl (congrArg Value.bool c20) (RJ.run Za 5 rfl (RJ.fin [(6, .bool false)] rfl ?_))
     have h38 := h35.only [] rfl
     replace h38 : St w0 F0 [] _ _ := h38
     refine J.ret ?_
     obtain rfl := Option.some.inj H
     exact ⟨_, _, _, (Zb rfl), ⟨rfl, rfl⟩, h38.only [] rfl⟩
    replace H := Zg c19 H
    refine RJ.know (t := 145) rfl (congrArg Value.bool c19) (RJ.run Za 13 rfl (RJ.fin [(6, .bool false)] rfl ?_))
    have h39 := h35.only [] rfl
    replace h39 : St w0 F0 [] _ _ := h39
    refine J.ret ?_
    obtain rfl := Option.some.inj H
    exact ⟨_, _, _, (Zb rfl), ⟨rfl, rfl⟩, h39.only [] rfl⟩

def Q86.f (k : Nat) (a0 : Int × Int × Int × Int × Int × Int × Int × Int) (a1 : List UInt8 × List UInt8 × Bool) (a2 : Int × List (Int) × List (List UInt8) × (List (List UInt8 × Bool × List UInt8)) × (List (List UInt8 × List UInt8))) : Option (Bool) := if (decide (a2.1 = 0)) = true then ((Q89.f k (a0.1, a0.2.1, a0.2.2.1, a0.2.2.2.1, a0.2.2.2.2.1, a0.2.2.2.2.2.1, a0.2.2.2.2.2.2.1, a0.2.2.2.2.2.2.2) (a1.1, a1.2.1, a1.2.2) (a2.1, a2.2.1, a2.2.2.1, a2.2.2.2.1, a2.2.2.2.2)).bind fun r1 => (some r1)) else (if (decide (0 < a2.1)) = true then ((Q88.f k (a0.1, a0.2.1, a0.2.2.1, a0.2.2.2.1, a0.2.2.2.2.1, a0.2.2.2.2.2.1, a0.2.2.2.2.2.2.1, a0.2.2.2.2.2.2.2) (a1.1, a1.2.1, a1.2.2) (a2.1, a2.2.1, a2.2.2.1, a2.2.2.2.1, a2.2.2.2.2)).bind fun r2 => (some r2)) else (some false))
theorem Q86.spec {k : Nat} {a0 : Int × Int × Int × Int × Int × Int × Int × Int} {a1 : List UInt8 × List UInt8 × Bool} {a2 : Int × List (Int) × List (List UInt8) × (List (List UInt8 × Bool × List UInt8)) × (List (List UInt8 × List UInt8))} {A1 : Option Addr} {c_1 : Nat} {A2 : Option Addr} {c_2 : Nat} {A3 : Option Addr} {c_3 : Nat} {A4 : Option Addr} {c_4 : Nat} {r : Bool} (H : Q86.f k a0 a1 a2 = some r) :
  Spec Tryz.prog 35 [.agg #[.int .i64 a0.1, .int .i64 a0.2.1, .int .i64 a0.2.2.1, .int .i64 a0.2.2.2.1, .int .i64 a0.2.2.2.2.1, .int .i64 a0.2.2.2.2.2.1, .int .i64 a0.2.2.2.2.2.2.1, .int .i64 a0.2.2.2.2.2.2.2], .agg #[.string ⟨⟨a1.1⟩⟩, .string ⟨⟨a1.2.1⟩⟩, .bool a1.2.2], .agg #[.int .i64 a2.1, .slice A1 a2.2.1.length c_1, .slice A2 a2.2.2.1.length c_2, .slice A3 a2.2.2.2.1.length c_3, .slice A4 a2.2.2.2.2.length c_4]] [] [rdC 70 (.int .u32) a2.2.1 (.slice A1 a2.2.1.length c_1), rdC 9 .str a2.2.2.1 (.slice A2 a2.2.2.1.length c_2), rdC 49 (.pair .str (.pair .bool .str)) a2.2.2.2.1 (.slice A3 a2.2.2.2.1.length c_3), rdC 51 (.pair .str .str) a2.2.2.2.2 (.slice A4 a2.2.2.2.2.length c_4)] (fun v l => v = .bool r ∧ l = []) := by
 refine Spec.enter Tryz.func35 rfl (by kernel_rfl) (by kernel_rfl) fun w0 F0 h0 => ?_
 unfold Q86.f at H
 refine J.seq (J.region ?_)
 refine RJ.op rfl rfl (Z2 rfl rfl h0) ?_
 rintro _ w1 ⟨b1, rfl, h1⟩
 replace h1 : St w0 F0 [Zh b1 23 [.int .i64 a0.1, .int .i64 a0.2.1, .int .i64 a0.2.2.1, .int .i64 a0.2.2.2.1, .int .i64 a0.2.2.2.2.1, .int .i64 a0.2.2.2.2.2.1, .int .i64 a0.2.2.2.2.2.2.1, .int .i64 a0.2.2.2.2.2.2.2]] _ _ := h1
 refine RJ.op rfl rfl (Z2 rfl rfl h1) ?_
 rintro _ w2 ⟨b2, rfl, h2⟩
 replace h2 : St w0 F0 [Zh b2 55 [.string ⟨⟨a1.1⟩⟩, .string ⟨⟨a1.2.1⟩⟩, .bool a1.2.2], _] _ _ := h2
 refine RJ.op rfl rfl (Z2 rfl rfl h2) ?_
 rintro _ w3 ⟨b3, rfl, h3⟩
 replace h3 : St w0 F0 [Zh b3 29 [.int .i64 a2.1, .slice A1 a2.2.1.length c_1, .slice A2 a2.2.2.1.length c_2, .slice A3 a2.2.2.2.1.length c_3, .slice A4 a2.2.2.2.2.length c_4], _, _] _ _ := h3
 refine RJ.run Za 1 rfl (RJ.fin [(3, .pointer (some ⟨b1, 0, none⟩)), (4, .pointer (some ⟨b2, 0, none⟩)), (5, .pointer (some ⟨b3, 0, none⟩))] rfl (J.seq (J.seq (J.region ?_))))
 refine RJ.run Za 1 rfl (RJ.q rfl rfl (Zc Za 0 h3.wht rfl rfl rfl rfl rfl) (RJ.run Za 1 rfl (RJ.fin [(3, _), (4, _), (5, _), (9, .bool (decide (a2.1 = 0)))] rfl (J.cond rfl (fun c1 => ?_) (fun c1 => ?_)))))
 ·replace H := Zi c1 H
  refine J.seq (J.region ?_)
  refine RJ.q rfl rfl (Zc Za 2 h3.wht rfl rfl rfl rfl rfl) (RJ.q rfl rfl (Zc Za 1 h3.wht rfl rfl rfl rfl rfl) (RJ.q rfl rfl (Zc Za 0 h3.wht rfl rfl rfl rfl rfl) ?_))
  obtain ⟨r1, q1, H⟩ := Zj H
  refine RJ.op rfl rfl (Zd [] (Q89.spec q1) rfl rfl rfl h3 rfl (Zr (Gives.self 3 rfl) (Zr (Gives.self 4 rfl) (Zr (Gives.self 5 rfl) (Zr (Gives.self 6 rfl) Zm))))) ?_
  rintro _ w4 ⟨_, ⟨rfl, rfl⟩, h4⟩
  replace h4 : St w0 F0 [_, _, _] _ _ := h4
  refine RJ.run Za 1 rfl (RJ.fin [(6, .bool r1)] rfl ?_)
  have h5 := h4.only [] rfl
  replace h5 : St w0 F0 [] _ _ := h5
  refine J.ret ?_
  obtain rfl := Option.some.inj H
  exact ⟨_, _, _, (Zb rfl), ⟨rfl, rfl⟩, h5.only [] rfl⟩
 replace H := Zg c1 H
 refine J.skip (J.seq (J.region ?_))
 refine RJ.run Za 1 rfl (RJ.q rfl rfl (Zc Za 0 h3.wht rfl rfl rfl rfl rfl) (RJ.run Za 2 rfl ?_))
 rcases Bool.eq_false_or_eq_true (decide (0 < a2.1)) with c2 | c2
 ·replace H := Zi c2 H
  refine RJ.know (t := 17) rfl (congrArg Value.bool c2) (RJ.q rfl rfl (Zc Za 2 h3.wht rfl rfl rfl rfl rfl) (RJ.q rfl rfl (Zc Za 1 h3.wht rfl rfl rfl rfl rfl) (RJ.q rfl rfl (Zc Za 0 h3.wht rfl rfl rfl rfl rfl) ?_)))
  obtain ⟨r2, q2, H⟩ := Zj H
  refine RJ.op rfl rfl (Zd [] (Q88.spec q2) rfl rfl rfl h3 rfl (Zr (Gives.self 3 rfl) (Zr (Gives.self 4 rfl) (Zr (Gives.self 5 rfl) (Zr (Gives.self 6 rfl) Zm))))) ?_
  rintro _ w5 ⟨_, ⟨rfl, rfl⟩, h6⟩
  replace h6 : St w0 F0 [_, _, _] _ _ := h6
  refine RJ.run Za 2 rfl (RJ.fin [(6, .bool r2)] rfl ?_)
  have h7 := h6.only [] rfl
  replace h7 : St w0 F0 [] _ _ := h7
  refine J.ret ?_
  obtain rfl := Option.some.inj H
  exact ⟨_, _, _, (Zb rfl), ⟨rfl, rfl⟩, h7.only [] rfl⟩
 replace H := Zg c2 H
 refine RJ.know (t := 17) rfl (congrArg Value.bool c2) (RJ.run Za 6 rfl (RJ.fin [(6, .bool false)] rfl ?_))
 have h8 := h3.only [] rfl
 replace h8 : St w0 F0 [] _ _ := h8
 refine J.ret ?_
 obtain rfl := Option.some.inj H
 exact ⟨_, _, _, (Zb rfl), ⟨rfl, rfl⟩, h8.only [] rfl⟩

def Q92.f (k : Nat) (a0 : Int × Int × Int × Int × Int × Int × Int × Int) (a1 : Int × List (Int) × List (List UInt8) × (List (List UInt8 × Bool × List UInt8)) × (List (List UInt8 × List UInt8))) : Option (Bool) := (Q74.f k (a0.1, a0.2.1, a0.2.2.1, a0.2.2.2.1, a0.2.2.2.2.1, a0.2.2.2.2.2.1, a0.2.2.2.2.2.2.1, a0.2.2.2.2.2.2.2)).bind fun r1 => (if r1 = true then ((Q94.f).bind fun r2 => ((Q86.f k (a0.1, a0.2.1, a0.2.2.1, a0.2.2.2.1, a0.2.2.2.2.1, a0.2.2.2.2.2.1, a0.2.2.2.2.2.2.1, a0.2.2.2.2.2.2.2) (r2.1, r2.2.1, r2.2.2) (a1.1, a1.2.1, a1.2.2.1, a1.2.2.2.1, a1.2.2.2.2)).bind fun r3 => (some r3))) else (some false))
theorem Q92.spec {k : Nat} {a0 : Int × Int × Int × Int × Int × Int × Int × Int} {a1 : Int × List (Int) × List (List UInt8) × (List (List UInt8 × Bool × List UInt8)) × (List (List UInt8 × List UInt8))} {A1 : Option Addr} {c_1 : Nat} {A2 : Option Addr} {c_2 : Nat} {A3 : Option Addr} {c_3 : Nat} {A4 : Option Addr} {c_4 : Nat} {r : Bool} (H : Q92.f k a0 a1 = some r) :
  Spec Tryz.prog 14 [.agg #[.int .i64 a0.1, .int .i64 a0.2.1, .int .i64 a0.2.2.1, .int .i64 a0.2.2.2.1, .int .i64 a0.2.2.2.2.1, .int .i64 a0.2.2.2.2.2.1, .int .i64 a0.2.2.2.2.2.2.1, .int .i64 a0.2.2.2.2.2.2.2], .agg #[.int .i64 a1.1, .slice A1 a1.2.1.length c_1, .slice A2 a1.2.2.1.length c_2, .slice A3 a1.2.2.2.1.length c_3, .slice A4 a1.2.2.2.2.length c_4]] [] [rdC 70 (.int .u32) a1.2.1 (.slice A1 a1.2.1.length c_1), rdC 9 .str a1.2.2.1 (.slice A2 a1.2.2.1.length c_2), rdC 49 (.pair .str (.pair .bool .str)) a1.2.2.2.1 (.slice A3 a1.2.2.2.1.length c_3), rdC 51 (.pair .str .str) a1.2.2.2.2 (.slice A4 a1.2.2.2.2.length c_4)] (fun v l => v = .bool r ∧ l = []) := by
 refine Spec.enter Tryz.func14 rfl (by kernel_rfl) (by kernel_rfl) fun w0 F0 h0 => ?_
 unfold Q92.f at H
 refine J.seq (J.region ?_)
 refine RJ.op rfl rfl (Z2 rfl rfl h0) ?_
 rintro _ w1 ⟨b1, rfl, h1⟩
 replace h1 : St w0 F0 [Zh b1 23 [.int .i64 a0.1, .int .i64 a0.2.1, .int .i64 a0.2.2.1, .int .i64 a0.2.2.2.1, .int .i64 a0.2.2.2.2.1, .int .i64 a0.2.2.2.2.2.1, .int .i64 a0.2.2.2.2.2.2.1, .int .i64 a0.2.2.2.2.2.2.2]] _ _ := h1
 refine RJ.op rfl rfl (Z2 rfl rfl h1) ?_
 rintro _ w2 ⟨b2, rfl, h2⟩
 replace h2 : St w0 F0 [Zh b2 29 [.int .i64 a1.1, .slice A1 a1.2.1.length c_1, .slice A2 a1.2.2.1.length c_2, .slice A3 a1.2.2.2.1.length c_3, .slice A4 a1.2.2.2.2.length c_4], _] _ _ := h2
 refine RJ.run Za 1 rfl (RJ.fin [(2, .pointer (some ⟨b1, 0, none⟩)), (3, .pointer (some ⟨b2, 0, none⟩))] rfl (J.seq (J.heldSt mix h2 ?_)))
 have h3 := h2.drew
 refine HJ.q (i := 0) rfl rfl rfl rfl rfl rfl (Zc Za 1 (fun w e => e) rfl rfl rfl rfl rfl) ?_
 obtain ⟨r1, q1, H⟩ := Zj H
 refine HJ.op (i := 1) rfl rfl rfl rfl rfl (Zd [] (Q74.spec q1) rfl rfl rfl h3 rfl Zm) ?_
 rintro _ w3 ⟨_, ⟨rfl, rfl⟩, h4⟩
 replace h4 : St w0 F0 [_, _] _ _ := h4
 refine ⟨⟨[], h4⟩, ?_⟩
 refine HJ.run Za rfl [2] rfl ?_
 rcases Bool.eq_false_or_eq_true r1 with c1 | c1
 ·replace H := Zi c1 H
  refine HJ.know (t := 7) rfl (congrArg Value.bool c1) (HJ.q (i := 3) rfl rfl rfl rfl rfl rfl (Zc Za 1 (fun w e => e) rfl rfl rfl rfl rfl) ?_)
  refine HJ.q (i := 5) rfl rfl rfl rfl rfl rfl (Zc Za 0 (fun w e => e) rfl rfl rfl rfl rfl) ?_
  obtain ⟨r2, q2, H⟩ := Zj H
  refine HJ.op (i := 4) rfl rfl rfl rfl rfl (Zd [] (Q94.spec q2) rfl rfl rfl h4 rfl Zm) ?_
  rintro _ w4 ⟨_, ⟨rfl, rfl⟩, h5⟩
  replace h5 : St w0 F0 [_, _] _ _ := h5
  refine ⟨⟨[], h5⟩, ?_⟩
  obtain ⟨r3, q3, H⟩ := Zj H
  refine HJ.op (i := 6) rfl rfl rfl rfl rfl (Zd [] (Q86.spec q3) rfl rfl rfl h5 rfl (Zr (Gives.self 2 rfl) (Zr (Gives.self 3 rfl) (Zr (Gives.self 4 rfl) (Zr (Gives.self 5 rfl) Zm))))) ?_
  rintro _ w5 ⟨_, ⟨rfl, rfl⟩, h6⟩
  replace h6 : St w0 F0 [_, _] _ _ := h6
  refine ⟨⟨[], h6⟩, ?_⟩
  refine HJ.run Za rfl [7, 8] rfl (HJ.fin [(4, .bool r3)] rfl rfl ?_)
  have h7 := h6.only [] rfl
  replace h7 : St w0 F0 [] _ _ := h7
  refine J.ret ?_
  obtain rfl := Option.some.inj H
  exact ⟨_, _, _, (Zb rfl), ⟨rfl, rfl⟩, h7.only [] rfl⟩
 replace H := Zg c1 H
 refine HJ.know (t := 7) rfl (congrArg Value.bool c1) (HJ.run Za rfl [3, 4, 5, 6, 7, 8] rfl (HJ.fin [(4, .bool false)] rfl rfl ?_))
 have h8 := h4.only [] rfl
 replace h8 : St w0 F0 [] _ _ := h8
 refine J.ret ?_
 obtain rfl := Option.some.inj H
 exact ⟨_, _, _, (Zb rfl), ⟨rfl, rfl⟩, h8.only [] rfl⟩

def Q71.f (a0 : Int) : Option (Bool) := if (decide (a0 = 1)) = true then (some true) else (if (decide (a0 = 2)) = true then (some true) else (if (decide (a0 = 4)) = true then (some true) else (some (decide (a0 = 8)))))
theorem Q71.spec {a0 : Int}  {r : Bool} (H : Q71.f a0 = some r) :
  Spec Tryz.prog 79 [.int .i64 a0] [] [] (fun v l => v = .bool r ∧ l = []) := by
 refine Spec.enter Tryz.func79 rfl (by kernel_rfl) (by kernel_rfl) fun w0 F0 h0 => ?_
 unfold Q71.f at H
 refine J.seq (J.region ?_)
 refine RJ.run Za 1 rfl (RJ.fin [(0, .int .i64 a0)] rfl (J.seq (J.region ?_)))
 refine RJ.run Za 3 rfl ?_
 rcases Bool.eq_false_or_eq_true (decide (a0 = 1)) with c1 | c1
 ·replace H := Zi c1 H
  refine RJ.know (t := 5) rfl (congrArg Value.bool c1) (RJ.run Za 12 rfl (RJ.fin [(2, .bool true)] rfl (J.ret ?_)))
  obtain rfl := Option.some.inj H
  exact ⟨_, _, _, (Zb rfl), ⟨rfl, rfl⟩, h0.only [] rfl⟩
 replace H := Zg c1 H
 refine RJ.know (t := 5) rfl (congrArg Value.bool c1) (RJ.run Za 4 rfl ?_)
 rcases Bool.eq_false_or_eq_true (decide (a0 = 2)) with c2 | c2
 ·replace H := Zi c2 H
  refine RJ.know (t := 9) rfl (congrArg Value.bool c2) (RJ.run Za 8 rfl (RJ.fin [(2, .bool true)] rfl (J.ret ?_)))
  obtain rfl := Option.some.inj H
  exact ⟨_, _, _, (Zb rfl), ⟨rfl, rfl⟩, h0.only [] rfl⟩
 replace H := Zg c2 H
 refine RJ.know (t := 9) rfl (congrArg Value.bool c2) (RJ.run Za 4 rfl ?_)
 rcases Bool.eq_false_or_eq_true (decide (a0 = 4)) with c3 | c3
 ·replace H := Zi c3 H
  refine RJ.know (t := 13) rfl (congrArg Value.bool c3) (RJ.run Za 4 rfl (RJ.fin [(2, .bool true)] rfl (J.ret ?_)))
  obtain rfl := Option.some.inj H
  exact ⟨_, _, _, (Zb rfl), ⟨rfl, rfl⟩, h0.only [] rfl⟩
 replace H := Zg c3 H
 refine RJ.know (t := 13) rfl (congrArg Value.bool c3) (RJ.run Za 4 rfl (RJ.fin [(2, .bool (decide (a0 = 8)))] rfl (J.ret ?_)))
 obtain rfl := Option.some.inj H
 exact ⟨_, _, _, (Zb rfl), ⟨rfl, rfl⟩, h0.only [] rfl⟩

def Q70.l0 : Nat → (Int) → (Int) → (List (Int)) → (Int) → Option (List (Int))
 | 0, _, _, _, _ => none
 | k + 1, a0, x1, x2, x3 => if (decide (x3 < a0)) = true then (if (([(IntKind.u8.wrap ((Int.tmod x1 256)))] : List (Int)).length + x2.length) * 1 ≤ 140737488355328 then (Q70.l0 k a0 (IntKind.u64.wrap (Int.tdiv x1 256)) (([(IntKind.u8.wrap ((Int.tmod x1 256)))] : List (Int)) ++ x2) (w64 (x3 + 1))) else none) else (some x2)
def Q70.f (k : Nat) (a0 : Int) (a1 : Int) : Option (List (Int)) := (Q71.f a0).bind fun r1 => (if (!r1) = true then (some ([] : List (Int))) else (Q70.l0 k a0 a1 ([] : List (Int)) 0))
theorem Q70.spec {k : Nat} {a0 : Int} {a1 : Int}  {r : List (Int)} (H : Q70.f k a0 a1 = some r) :
  Spec Tryz.prog 53 [.int .i64 a0, .int .u64 a1] [] [] (fun v l => ∃ (A_0 : Option Addr) (c_0 : Nat), v = .slice A_0 r.length c_0 ∧ l = [Zf 5 (.int .u8) r (.slice A_0 r.length c_0)]) := by
 refine Spec.enter Tryz.func53 rfl (by kernel_rfl) (by kernel_rfl) fun w0 F0 h0 => ?_
 unfold Q70.f at H
 refine J.seq (J.region ?_)
 refine RJ.run Za 1 rfl (RJ.fin [(0, .int .i64 a0), (1, .int .u64 a1)] rfl (J.seq (J.region ?_)))
 refine RJ.op rfl rfl (Yd Za (.int .u8) rfl ([] : List (Int)) rfl h0 rfl rfl (by decide) rfl rfl rfl rfl rfl rfl rfl) ?_
 rintro _ w1 ⟨b1, rfl, h1⟩
 replace h1 : St w0 F0 [Zf 5 (.int .u8) ([] : List (Int)) (.slice (some ⟨b1, 0, none⟩) ([] : List (Int)).length 0)] _ _ := h1
 refine RJ.run Za 1 rfl (RJ.fin [(0, _), (1, _), (5, .slice (some ⟨b1, 0, none⟩) ([] : List (Int)).length 0)] rfl (J.seq (J.seq (J.region ?_))))
 refine RJ.run Za 1 rfl ?_
 obtain ⟨r1, q1, H⟩ := Zj H
 refine RJ.op rfl rfl (Zd [] (Q71.spec q1) rfl rfl rfl h1 rfl Zm) ?_
 rintro _ w2 ⟨_, ⟨rfl, rfl⟩, h2⟩
 replace h2 : St w0 F0 [_] _ _ := h2
 refine RJ.run Za 1 rfl (RJ.fin [(0, _), (1, _), (5, _), (10, .bool (!r1))] rfl (J.cond rfl (fun c1 => ?_) (fun c1 => ?_)))
 ·replace H := Zi c1 H
  refine J.seq (J.region ?_)
  refine RJ.run Za 2 rfl (RJ.fin [(4, .slice (some ⟨b1, 0, none⟩) ([] : List (Int)).length 0)] rfl (J.ret ?_))
  obtain rfl := Option.some.inj H
  exact ⟨_, _, _, (Zb rfl), ⟨_, _, rfl, rfl⟩, h2.only [0] rfl⟩
 replace H := Zg c1 H
 refine J.skip (J.seq (J.seq (J.region ?_)))
 refine RJ.run Za 1 rfl (RJ.fin [(0, _), (1, _), (5, _), (6, .int .i64 0)] rfl (J.block ?_))
 have h7 := ((h2.only [0] rfl).rds [] rfl)
 refine J.loop (fun kk env w => ∃ (x1 : Int) (x2 : List (Int)) (A1 : Option Addr) (c_1 : Nat) (x3 : Int), env = [(0, .int .i64 a0), (1, .int .u64 x1), (5, .slice A1 x2.length c_1), (6, .int .i64 x3)] ∧ St w0 F0 [Zf 5 (.int .u8) x2 (.slice A1 x2.length c_1)] [] w ∧ Q70.l0 kk a0 x1 x2 x3 = some r) (k := k) ⟨a1, ([] : List (Int)), (some ⟨b1, 0, none⟩), 0, 0, rfl, h7, H⟩ ?_
 rintro k1 env w3 ⟨x1, x2, A1, c_1, x3, rfl, h3, H⟩
 cases k1 with
 | zero => exact nomatch (show none = some r from H)
 | succ k1 =>
  rw [Q70.l0] at H
  refine J.seq (J.seq (J.region ?_))
  refine RJ.run Za 3 rfl (RJ.fin [(0, _), (1, _), (5, _), (6, _), (14, .bool (decide (x3 < a0)))] rfl (J.cond rfl (fun c2 => ?_) (fun c2 => ?_)))
  ·replace H := Zi c2 H
   refine J.skip (J.seq (J.block (J.seq (J.region ?_))))
   refine RJ.run Za 3 rfl (RJ.op rfl rfl (Yd Za (.int .u8) rfl ([(IntKind.u8.wrap ((Int.tmod x1 256)))] : List (Int)) rfl h3 rfl rfl (by decide) rfl rfl rfl rfl rfl rfl rfl) ?_)
   rintro _ w4 ⟨b2, rfl, h4⟩
   replace h4 : St w0 F0 [Zf 5 (.int .u8) ([(IntKind.u8.wrap ((Int.tmod x1 256)))] : List (Int)) (.slice (some ⟨b2, 0, none⟩) ([(IntKind.u8.wrap ((Int.tmod x1 256)))] : List (Int)).length 1), _] _ _ := h4
   refine RJ.run Za 1 rfl ?_
   obtain ⟨p1, H⟩ := Zo H
   refine RJ.op rfl rfl (Z7 Za rfl 0 rfl h4 rfl (Gives.of 0 rfl Zl) rfl rfl rfl rfl rfl rfl (by decide) (by decide) p1) ?_
   rintro _ w5 ⟨A2, c_2, rfl, h5⟩
   replace h5 : St w0 F0 [Zf 5 (.int .u8) (([(IntKind.u8.wrap ((Int.tmod x1 256)))] : List (Int)) ++ x2) (.slice A2 (([(IntKind.u8.wrap ((Int.tmod x1 256)))] : List (Int)) ++ x2).length c_2), _] _ _ := h5
   refine RJ.run Za 1 rfl (RJ.fin [(0, _), (1, _), (5, .slice A2 (([(IntKind.u8.wrap ((Int.tmod x1 256)))] : List (Int)) ++ x2).length c_2), (6, _)] rfl (J.region (RJ.run Za 3 rfl (RJ.fin [(0, _), (1, .int .u64 (IntKind.u64.wrap (Int.tdiv x1 256))), (5, _), (6, _)] rfl (J.region (RJ.run Za 3 rfl (RJ.fin [(0, _), (1, _), (5, _), (6, .int .i64 (w64 (x3 + 1)))] rfl ?_)))))))
   have h6 := ((h5.only [0] rfl).rds [] rfl)
   exact ⟨k1, by omega, (IntKind.u64.wrap (Int.tdiv x1 256)), (([(IntKind.u8.wrap ((Int.tmod x1 256)))] : List (Int)) ++ x2), A2, c_2, (w64 (x3 + 1)), rfl, h6, H⟩
  replace H := Zg c2 H
  refine J.exit (J.seq (J.region ?_))
  refine RJ.run Za 2 rfl (RJ.fin [(4, .slice A1 x2.length c_1)] rfl (J.ret ?_))
  obtain rfl := Option.some.inj H
  exact ⟨_, _, _, (Zb rfl), ⟨_, _, rfl, rfl⟩, h3.only [0] rfl⟩

def Q96.f (k : Nat) (a0 : Int) (a1 : Int) : Option (List UInt8) := (Q70.f k a0 (IntKind.u64.wrap (a1))).bind fun r1 => (some (toS r1))
theorem Q96.spec {k : Nat} {a0 : Int} {a1 : Int}  {r : List UInt8} (H : Q96.f k a0 a1 = some r) :
  Spec Tryz.prog 49 [.int .i64 a0, .int .i64 a1] [] [] (fun v l => v = .string ⟨⟨r⟩⟩ ∧ l = []) := by
 refine Spec.enter Tryz.func49 rfl (by kernel_rfl) (by kernel_rfl) fun w0 F0 h0 => ?_
 unfold Q96.f at H
 refine J.seq (J.region ?_)
 refine RJ.run Za 1 rfl (RJ.fin [(0, .int .i64 a0), (1, .int .i64 a1)] rfl (J.seq (J.region ?_)))
 refine RJ.run Za 3 rfl ?_
 obtain ⟨r1, q1, H⟩ := Zj H
 refine RJ.op rfl rfl (Zd [] (Q70.spec q1) rfl rfl rfl h0 rfl Zm) ?_
 rintro _ w1 ⟨_, ⟨A1, c_1, rfl, rfl⟩, h1⟩
 replace h1 : St w0 F0 [Zf 5 (.int .u8) r1 (.slice A1 r1.length c_1)] _ _ := h1
 refine RJ.q rfl rfl (Xz Za h1.wht (Gives.of 0 rfl Zl) rfl rfl rfl rfl rfl) (RJ.run Za 1 rfl (RJ.fin [(4, .string ⟨⟨(toS r1)⟩⟩)] rfl (J.ret ?_)))
 obtain rfl := Option.some.inj H
 exact ⟨_, _, _, (Zb rfl), ⟨rfl, rfl⟩, h1.only [] rfl⟩

def Q93.f (a0 : Int) : Option (List UInt8) := if 0 ≤ a0 ∧ a0 * 1 ≤ 281474976710656 then (some (toS (List.replicate a0.toNat (0 : Int)))) else none
theorem Q93.spec {a0 : Int}  {r : List UInt8} (H : Q93.f a0 = some r) :
  Spec Tryz.prog 50 [.int .i64 a0] [] [] (fun v l => v = .string ⟨⟨r⟩⟩ ∧ l = []) := by
 refine Spec.enter Tryz.func50 rfl (by kernel_rfl) (by kernel_rfl) fun w0 F0 h0 => ?_
 unfold Q93.f at H
 refine J.seq (J.region ?_)
 refine RJ.run Za 1 rfl (RJ.fin [(0, .int .i64 a0)] rfl (J.seq (J.region ?_)))
 refine RJ.run Za 1 rfl ?_
 obtain ⟨⟨p1, p2⟩, H⟩ := Zo H
 refine RJ.op rfl rfl (Zct Za (ty := (.int .u8)) rfl (0 : Int) rfl rfl rfl rfl rfl rfl rfl (by decide) h0 p1 p2) ?_
 rintro _ w1 ⟨b1, rfl, h1⟩
 replace h1 : St w0 F0 [Zf 5 (.int .u8) (List.replicate a0.toNat (0 : Int)) (.slice (some ⟨b1, 0, none⟩) (List.replicate a0.toNat (0 : Int)).length (a0.toNat))] _ _ := h1
 refine RJ.q rfl rfl (Xz Za h1.wht (Gives.of 0 rfl Zl) rfl rfl rfl rfl rfl) (RJ.run Za 1 rfl (RJ.fin [(2, .string ⟨⟨(toS (List.replicate a0.toNat (0 : Int)))⟩⟩)] rfl (J.ret ?_)))
 obtain rfl := Option.some.inj H
 exact ⟨_, _, _, (Zb rfl), ⟨rfl, rfl⟩, h1.only [] rfl⟩

def Q98.f (a0 : List UInt8) (a1 : Int) : Option (List UInt8) := (Q93.f (w64 (a1 - (a0.length : Int)))).bind fun r1 => (if a0.length + r1.length ≤ 9223372036854775807 then (some (a0 ++ r1)) else none)
theorem Q98.spec {a0 : List UInt8} {a1 : Int}  {r : List UInt8} (H : Q98.f a0 a1 = some r) :
  Spec Tryz.prog 52 [.string ⟨⟨a0⟩⟩, .int .i64 a1] [] [] (fun v l => v = .string ⟨⟨r⟩⟩ ∧ l = []) := by
 refine Spec.enter Tryz.func52 rfl (by kernel_rfl) (by kernel_rfl) fun w0 F0 h0 => ?_
 unfold Q98.f at H
 refine J.seq (J.region ?_)
 refine RJ.run Za 1 rfl (RJ.fin [(0, .string ⟨⟨a0⟩⟩), (1, .int .i64 a1)] rfl (J.seq (J.region ?_)))
 refine RJ.run Za 5 rfl ?_
 obtain ⟨r1, q1, H⟩ := Zj H
 refine RJ.op rfl rfl (Zd [] (Q93.spec q1) rfl rfl rfl h0 rfl Zm) ?_
 rintro _ w1 ⟨_, ⟨rfl, rfl⟩, h1⟩
 replace h1 : St w0 F0 [] _ _ := h1
 obtain ⟨p1, H⟩ := Zo H
 refine RJ.q rfl rfl (Zu rfl rfl rfl p1) (RJ.run Za 1 rfl (RJ.fin [(4, .string ⟨⟨(a0 ++ r1)⟩⟩)] rfl (J.ret ?_)))
 obtain rfl := Option.some.inj H
 exact ⟨_, _, _, (Zb rfl), ⟨rfl, rfl⟩, h1.only [] rfl⟩

def Q97.f (k : Nat) (a0 : Int × Int × Int × Int × Int × Int × Int × Int) (a1 : List UInt8) (a2 : List UInt8) : Option (List UInt8) := (Q96.f k 1 (a1.length : Int)).bind fun r1 => ((Q96.f k 2 (a2.length : Int)).bind fun r2 => (if r1.length + r2.length ≤ 9223372036854775807 then ((Q98.f a1 a0.2.2.2.2.2.2.1).bind fun r3 => (if (r1 ++ r2).length + r3.length ≤ 9223372036854775807 then ((Q98.f a2 a0.2.2.2.2.2.2.2).bind fun r4 => (if ((r1 ++ r2) ++ r3).length + r4.length ≤ 9223372036854775807 then (some (((r1 ++ r2) ++ r3) ++ r4)) else none)) else none)) else none))
theorem Q97.spec {k : Nat} {a0 : Int × Int × Int × Int × Int × Int × Int × Int} {a1 : List UInt8} {a2 : List UInt8}  {r : List UInt8} (H : Q97.f k a0 a1 a2 = some r) :
  Spec Tryz.prog 51 [.agg #[.int .i64 a0.1, .int .i64 a0.2.1, .int .i64 a0.2.2.1, .int .i64 a0.2.2.2.1, .int .i64 a0.2.2.2.2.1, .int .i64 a0.2.2.2.2.2.1, .int .i64 a0.2.2.2.2.2.2.1, .int .i64 a0.2.2.2.2.2.2.2], .string ⟨⟨a1⟩⟩, .string ⟨⟨a2⟩⟩] [] [] (fun v l => v = .string ⟨⟨r⟩⟩ ∧ l = []) := by
 refine Spec.enter Tryz.func51 rfl (by kernel_rfl) (by kernel_rfl) fun w0 F0 h0 => ?_
 unfold Q97.f at H
 refine J.seq (J.region ?_)
 refine RJ.op rfl rfl (Z2 rfl rfl h0) ?_
 rintro _ w1 ⟨b1, rfl, h1⟩
 replace h1 : St w0 F0 [Zh b1 23 [.int .i64 a0.1, .int .i64 a0.2.1, .int .i64 a0.2.2.1, .int .i64 a0.2.2.2.1, .int .i64 a0.2.2.2.2.1, .int .i64 a0.2.2.2.2.2.1, .int .i64 a0.2.2.2.2.2.2.1, .int .i64 a0.2.2.2.2.2.2.2]] _ _ := h1
 refine RJ.run Za 1 rfl (RJ.fin [(1, .string ⟨⟨a1⟩⟩), (2, .string ⟨⟨a2⟩⟩), (3, .pointer (some ⟨b1, 0, none⟩))] rfl (J.seq ?_))
 obtain ⟨r1, q1, H⟩ := Zj H
 obtain ⟨r2, q2, H⟩ := Zj H
 obtain ⟨p1, H⟩ := Zo H
 obtain ⟨r3, q3, H⟩ := Zj H
 obtain ⟨p2, H⟩ := Zo H
 obtain ⟨r4, q4, H⟩ := Zj H
 obtain ⟨p3, H⟩ := Zo H
 refine J.midS (fun env w => env = [(6, .string ⟨⟨(((r1 ++ r2) ++ r3) ++ r4)⟩⟩)] ∧ St w0 F0 [Zh b1 23 [.int .i64 a0.1, .int .i64 a0.2.1, .int .i64 a0.2.2.1, .int .i64 a0.2.2.2.1, .int .i64 a0.2.2.2.2.1, .int .i64 a0.2.2.2.2.2.1, .int .i64 a0.2.2.2.2.2.2.1, .int .i64 a0.2.2.2.2.2.2.2]] [] w) ?_ ?_
 ·refine J.heldSt mix h1 ?_
  have h6 := h1.drew
  refine HJ.run Za rfl [0, 1, 3, 4, 7, 8, 12, 13] rfl (HJ.q (i := 9) rfl rfl rfl rfl rfl rfl (Zc Za 0 (fun w e => e) rfl rfl rfl rfl rfl) ?_)
  refine HJ.q (i := 14) rfl rfl rfl rfl rfl rfl (Zc Za 0 (fun w e => e) rfl rfl rfl rfl rfl) ?_
  refine HJ.op (i := 2) rfl rfl rfl rfl rfl (Zd [] (Q96.spec q1) rfl rfl rfl h6 rfl Zm) ?_
  rintro _ w6 ⟨_, ⟨rfl, rfl⟩, h7⟩
  replace h7 : St w0 F0 [_] _ _ := h7
  refine ⟨⟨[], h7⟩, ?_⟩
  refine HJ.op (i := 5) rfl rfl rfl rfl rfl (Zd [] (Q96.spec q2) rfl rfl rfl h7 rfl Zm) ?_
  rintro _ w7 ⟨_, ⟨rfl, rfl⟩, h8⟩
  replace h8 : St w0 F0 [_] _ _ := h8
  refine ⟨⟨[], h8⟩, ?_⟩
  refine HJ.pick [6, 10] (i := 6) rfl rfl rfl rfl ((Zs ?_ (Zs ?_ Z4)))
  ·refine HS.op (i := 6) rfl rfl rfl (OpT.ofq (Zu rfl rfl rfl p1)) ?_; rintro _ _ ⟨rfl, rfl⟩; replace h8 : St w0 F0 [_] _ _ := h8; refine ⟨⟨[], h8⟩, ?_⟩
   refine HJ.op (i := 10) rfl rfl rfl rfl rfl (Zd [] (Q98.spec q3) rfl rfl rfl h8 rfl Zm) ?_
   rintro _ w8 ⟨_, ⟨rfl, rfl⟩, h9⟩
   replace h9 : St w0 F0 [_] _ _ := h9
   refine ⟨⟨[], h9⟩, ?_⟩
   refine HJ.pick [11, 15] (i := 11) rfl rfl rfl rfl ((Zs ?_ (Zs ?_ Z4)))
   ·refine HS.op (i := 11) rfl rfl rfl (OpT.ofq (Zu rfl rfl rfl p2)) ?_; rintro _ _ ⟨rfl, rfl⟩; replace h9 : St w0 F0 [_] _ _ := h9; refine ⟨⟨[], h9⟩, ?_⟩
    refine HJ.op (i := 15) rfl rfl rfl rfl rfl (Zd [] (Q98.spec q4) rfl rfl rfl h9 rfl Zm) ?_
    rintro _ w9 ⟨_, ⟨rfl, rfl⟩, h10⟩
    replace h10 : St w0 F0 [_] _ _ := h10
    refine ⟨⟨[], h10⟩, ?_⟩
    refine HJ.q (i := 16) rfl rfl rfl rfl rfl rfl (Zu rfl rfl rfl p3) (HJ.run Za rfl [17] rfl (HJ.fin [(6, .string ⟨⟨(((r1 ++ r2) ++ r3) ++ r4)⟩⟩)] rfl rfl ?_))
    exact Zq ⟨rfl, ((h10.only [0] rfl).rds [] rfl)⟩
   ·refine HS.op (i := 15) rfl rfl rfl (Zd [] (Q98.spec q4) rfl rfl rfl h9 rfl Zm) ?_
    rintro _ w10 ⟨_, ⟨rfl, rfl⟩, h11⟩
    replace h11 : St w0 F0 [_] _ _ := h11
    refine ⟨⟨[], h11⟩, ?_⟩
    refine HJ.q (i := 11) rfl rfl rfl rfl rfl rfl (Zu rfl rfl rfl p2) (HJ.q (i := 16) rfl rfl rfl rfl rfl rfl (Zu rfl rfl rfl p3) (HJ.run Za rfl [17] rfl (HJ.fin [(6, .string ⟨⟨(((r1 ++ r2) ++ r3) ++ r4)⟩⟩)] rfl rfl ?_)))
    exact Zq ⟨rfl, ((h11.only [0] rfl).rds [] rfl)⟩
  ·refine HS.op (i := 10) rfl rfl rfl (Zd [] (Q98.spec q3) rfl rfl rfl h8 rfl Zm) ?_
   rintro _ w11 ⟨_, ⟨rfl, rfl⟩, h12⟩
   replace h12 : St w0 F0 [_] _ _ := h12
   refine ⟨⟨[], h12⟩, ?_⟩
   refine HJ.pick [6, 15] (i := 6) rfl rfl rfl rfl ((Zs ?_ (Zs ?_ Z4)))
   ·refine HS.op (i := 6) rfl rfl rfl (OpT.ofq (Zu rfl rfl rfl p1)) ?_; rintro _ _ ⟨rfl, rfl⟩; replace h12 : St w0 F0 [_] _ _ := h12; refine ⟨⟨[], h12⟩, ?_⟩
    refine HJ.pick [11, 15] (i := 11) rfl rfl rfl rfl ((Zs ?_ (Zs ?_ Z4)))
    ·refine HS.op (i := 11) rfl rfl rfl (OpT.ofq (Zu rfl rfl rfl p2)) ?_; rintro _ _ ⟨rfl, rfl⟩; replace h12 : St w0 F0 [_] _ _ := h12; refine ⟨⟨[], h12⟩, ?_⟩
     refine HJ.op (i := 15) rfl rfl rfl rfl rfl (Zd [] (Q98.spec q4) rfl rfl rfl h12 rfl Zm) ?_
     rintro _ w12 ⟨_, ⟨rfl, rfl⟩, h13⟩
     replace h13 : St w0 F0 [_] _ _ := h13
     refine ⟨⟨[], h13⟩, ?_⟩
     refine HJ.q (i := 16) rfl rfl rfl rfl rfl rfl (Zu rfl rfl rfl p3) (HJ.run Za rfl [17] rfl (HJ.fin [(6, .string ⟨⟨(((r1 ++ r2) ++ r3) ++ r4)⟩⟩)] rfl rfl ?_))
     exact Zq ⟨rfl, ((h13.only [0] rfl).rds [] rfl)⟩
    ·refine HS.op (i := 15) rfl rfl rfl (Zd [] (Q98.spec q4) rfl rfl rfl h12 rfl Zm) ?_
     rintro _ w13 ⟨_, ⟨rfl, rfl⟩, h14⟩
     replace h14 : St w0 F0 [_] _ _ := h14
     refine ⟨⟨[], h14⟩, ?_⟩
     refine HJ.q (i := 11) rfl rfl rfl rfl rfl rfl (Zu rfl rfl rfl p2) (HJ.q (i := 16) rfl rfl rfl rfl rfl rfl (Zu rfl rfl rfl p3) (HJ.run Za rfl [17] rfl (HJ.fin [(6, .string ⟨⟨(((r1 ++ r2) ++ r3) ++ r4)⟩⟩)] rfl rfl ?_)))
     exact Zq ⟨rfl, ((h14.only [0] rfl).rds [] rfl)⟩
   ·refine HS.op (i := 15) rfl rfl rfl (Zd [] (Q98.spec q4) rfl rfl rfl h12 rfl Zm) ?_
    rintro _ w14 ⟨_, ⟨rfl, rfl⟩, h15⟩
    replace h15 : St w0 F0 [_] _ _ := h15
    refine ⟨⟨[], h15⟩, ?_⟩
    refine HJ.q (i := 6) rfl rfl rfl rfl rfl rfl (Zu rfl rfl rfl p1) (HJ.q (i := 11) rfl rfl rfl rfl rfl rfl (Zu rfl rfl rfl p2) (HJ.q (i := 16) rfl rfl rfl rfl rfl rfl (Zu rfl rfl rfl p3) (HJ.run Za rfl [17] rfl (HJ.fin [(6, .string ⟨⟨(((r1 ++ r2) ++ r3) ++ r4)⟩⟩)] rfl rfl ?_))))
    exact Zq ⟨rfl, ((h15.only [0] rfl).rds [] rfl)⟩
 rintro env w15 ⟨rfl, h16⟩
 refine J.ret ?_
 obtain rfl := Option.some.inj H
 exact ⟨_, _, _, (Zb rfl), ⟨rfl, rfl⟩, h16.only [] rfl⟩

def Q90.l0 : Nat → (Int × Int × Int × Int × Int × Int × Int × Int) → (Int × List (Int) × List (List UInt8) × (List (List UInt8 × Bool × List UInt8)) × (List (List UInt8 × List UInt8))) → (List UInt8) → (Int) → Option (List UInt8)
 | 0, _, _, _, _ => none
 | k + 1, a0, a1, x1, x2 => if (decide (x2 < (a1.2.2.2.2.length : Int))) = true then (if 0 ≤ x2 ∧ x2 < (a1.2.2.2.2.length : Int) then ((Q97.f k (a0.1, a0.2.1, a0.2.2.1, a0.2.2.2.1, a0.2.2.2.2.1, a0.2.2.2.2.2.1, a0.2.2.2.2.2.2.1, a0.2.2.2.2.2.2.2) ((gt a1.2.2.2.2 x2).1) ((gt a1.2.2.2.2 x2).2)).bind fun r3 => (if x1.length + r3.length ≤ 9223372036854775807 then (Q90.l0 k a0 a1 (x1 ++ r3) (w64 (x2 + 1))) else none)) else none) else ((Q98.f x1 a0.2.1).bind fun r4 => (some r4))
def Q90.l3 : Nat → (Int × Int × Int × Int × Int × Int × Int × Int) → (Int × List (Int) × List (List UInt8) × (List (List UInt8 × Bool × List UInt8)) × (List (List UInt8 × List UInt8))) → (List UInt8) → (Int) → Option (List UInt8)
 | 0, _, _, _, _ => none
 | k + 1, a0, a1, x7, x8 => if (decide (x8 < (a1.2.2.2.1.length : Int))) = true then (if 0 ≤ x8 ∧ x8 < (a1.2.2.2.1.length : Int) then (if (gt a1.2.2.2.1 x8).2.1 = true then (if x7.length + ([2] : List UInt8).length ≤ 9223372036854775807 then ((Q97.f k (a0.1, a0.2.1, a0.2.2.1, a0.2.2.2.1, a0.2.2.2.2.1, a0.2.2.2.2.2.1, a0.2.2.2.2.2.2.1, a0.2.2.2.2.2.2.2) ((gt a1.2.2.2.1 x8).1) ((gt a1.2.2.2.1 x8).2.2)).bind fun r14 => (if (x7 ++ ([2] : List UInt8)).length + r14.length ≤ 9223372036854775807 then (Q90.l3 k a0 a1 ((x7 ++ ([2] : List UInt8)) ++ r14) (w64 (x8 + 1))) else none)) else none) else (if x7.length + ([1] : List UInt8).length ≤ 9223372036854775807 then ((Q97.f k (a0.1, a0.2.1, a0.2.2.1, a0.2.2.2.1, a0.2.2.2.2.1, a0.2.2.2.2.2.1, a0.2.2.2.2.2.2.1, a0.2.2.2.2.2.2.2) ((gt a1.2.2.2.1 x8).1) ((gt a1.2.2.2.1 x8).2.2)).bind fun r15 => (if (x7 ++ ([1] : List UInt8)).length + r15.length ≤ 9223372036854775807 then (Q90.l3 k a0 a1 ((x7 ++ ([1] : List UInt8)) ++ r15) (w64 (x8 + 1))) else none)) else none)) else none) else ((Q98.f x7 a0.2.1).bind fun r16 => (some r16))
def Q90.l2 : Nat → (Int × Int × Int × Int × Int × Int × Int × Int) → (Int × List (Int) × List (List UInt8) × (List (List UInt8 × Bool × List UInt8)) × (List (List UInt8 × List UInt8))) → (List UInt8) → (Int) → Option (List UInt8)
 | 0, _, _, _, _ => none
 | k + 1, a0, a1, x5, x6 => if (decide (x6 < (a1.2.2.1.length : Int))) = true then (if 0 ≤ x6 ∧ x6 < (a1.2.2.1.length : Int) then ((Q96.f k 1 ((gt a1.2.2.1 x6).length : Int)).bind fun r11 => (if x5.length + r11.length ≤ 9223372036854775807 then ((Q98.f (gt a1.2.2.1 x6) a0.2.2.2.2.2.2.1).bind fun r12 => (if (x5 ++ r11).length + r12.length ≤ 9223372036854775807 then (Q90.l2 k a0 a1 ((x5 ++ r11) ++ r12) (w64 (x6 + 1))) else none)) else none)) else none) else ((Q93.f (w64 ((w64 (1 + a0.2.2.2.2.2.2.1)) * (w64 ((w64 (a0.2.2.2.1 - 1)) - (a1.2.2.1.length : Int)))))).bind fun r13 => (if x5.length + r13.length ≤ 9223372036854775807 then (Q90.l3 k a0 a1 (x5 ++ r13) 0) else none))
def Q90.l1 : Nat → (Int × Int × Int × Int × Int × Int × Int × Int) → (Int × List (Int) × List (List UInt8) × (List (List UInt8 × Bool × List UInt8)) × (List (List UInt8 × List UInt8))) → (List UInt8) → (Int) → Option (List UInt8)
 | 0, _, _, _, _ => none
 | k + 1, a0, a1, x3, x4 => if (decide (x4 < (a1.2.1.length : Int))) = true then (if 0 ≤ x4 ∧ x4 < (a1.2.1.length : Int) then ((Q70.f k 4 (IntKind.u64.wrap ((gt a1.2.1 x4)))).bind fun r9 => (if x3.length + (toS r9).length ≤ 9223372036854775807 then (Q90.l1 k a0 a1 (x3 ++ (toS r9)) (w64 (x4 + 1))) else none)) else none) else ((Q93.f (w64 (4 * (w64 (a0.2.2.2.1 - (a1.2.1.length : Int)))))).bind fun r10 => (if x3.length + r10.length ≤ 9223372036854775807 then (Q90.l2 k a0 a1 (x3 ++ r10) 0) else none))
def Q90.f (k : Nat) (a0 : Int × Int × Int × Int × Int × Int × Int × Int) (a1 : Int × List (Int) × List (List UInt8) × (List (List UInt8 × Bool × List UInt8)) × (List (List UInt8 × List UInt8))) : Option (List UInt8) := if (decide (a1.1 = 0)) = true then ((Q96.f k 2 (a1.2.2.2.2.length : Int)).bind fun r1 => (if ([1, 0] : List UInt8).length + r1.length ≤ 9223372036854775807 then ((Q93.f 4).bind fun r2 => (if (([1, 0] : List UInt8) ++ r1).length + r2.length ≤ 9223372036854775807 then (Q90.l0 k a0 a1 ((([1, 0] : List UInt8) ++ r1) ++ r2) 0) else none)) else none)) else ((Q96.f k 1 a1.1).bind fun r5 => (if ([2] : List UInt8).length + r5.length ≤ 9223372036854775807 then ((Q96.f k 2 (a1.2.1.length : Int)).bind fun r6 => (if (([2] : List UInt8) ++ r5).length + r6.length ≤ 9223372036854775807 then ((Q96.f k 2 (a1.2.2.2.1.length : Int)).bind fun r7 => (if ((([2] : List UInt8) ++ r5) ++ r6).length + r7.length ≤ 9223372036854775807 then ((Q93.f 2).bind fun r8 => (if (((([2] : List UInt8) ++ r5) ++ r6) ++ r7).length + r8.length ≤ 9223372036854775807 then (Q90.l1 k a0 a1 ((((([2] : List UInt8) ++ r5) ++ r6) ++ r7) ++ r8) 0) else none)) else none)) else none)) else none))
theorem Q90.spec {k : Nat} {a0 : Int × Int × Int × Int × Int × Int × Int × Int} {a1 : Int × List (Int) × List (List UInt8) × (List (List UInt8 × Bool × List UInt8)) × (List (List UInt8 × List UInt8))} {A1 : Option Addr} {c_1 : Nat} {A2 : Option Addr} {c_2 : Nat} {A3 : Option Addr} {c_3 : Nat} {A4 : Option Addr} {c_4 : Nat} {r : List UInt8} (H : Q90.f k a0 a1 = some r) :
  Spec Tryz.prog 21 [.agg #[.int .i64 a0.1, .int .i64 a0.2.1, .int .i64 a0.2.2.1, .int .i64 a0.2.2.2.1, .int .i64 a0.2.2.2.2.1, .int .i64 a0.2.2.2.2.2.1, .int .i64 a0.2.2.2.2.2.2.1, .int .i64 a0.2.2.2.2.2.2.2], .agg #[.int .i64 a1.1, .slice A1 a1.2.1.length c_1, .slice A2 a1.2.2.1.length c_2, .slice A3 a1.2.2.2.1.length c_3, .slice A4 a1.2.2.2.2.length c_4]] [] [rdC 70 (.int .u32) a1.2.1 (.slice A1 a1.2.1.length c_1), rdC 9 .str a1.2.2.1 (.slice A2 a1.2.2.1.length c_2), rdC 49 (.pair .str (.pair .bool .str)) a1.2.2.2.1 (.slice A3 a1.2.2.2.1.length c_3), rdC 51 (.pair .str .str) a1.2.2.2.2 (.slice A4 a1.2.2.2.2.length c_4)] (fun v l => v = .string ⟨⟨r⟩⟩ ∧ l = []) := by
 refine Spec.enter Tryz.func21 rfl (by kernel_rfl) (by kernel_rfl) fun w0 F0 h0 => ?_
 unfold Q90.f at H
 refine J.seq (J.region ?_)
 refine RJ.op rfl rfl (Z2 rfl rfl h0) ?_
 rintro _ w1 ⟨b1, rfl, h1⟩
 replace h1 : St w0 F0 [Zh b1 23 [.int .i64 a0.1, .int .i64 a0.2.1, .int .i64 a0.2.2.1, .int .i64 a0.2.2.2.1, .int .i64 a0.2.2.2.2.1, .int .i64 a0.2.2.2.2.2.1, .int .i64 a0.2.2.2.2.2.2.1, .int .i64 a0.2.2.2.2.2.2.2]] _ _ := h1
 refine RJ.op rfl rfl (Z2 rfl rfl h1) ?_
 rintro _ w2 ⟨b2, rfl, h2⟩
 replace h2 : St w0 F0 [Zh b2 29 [.int .i64 a1.1, .slice A1 a1.2.1.length c_1, .slice A2 a1.2.2.1.length c_2, .slice A3 a1.2.2.2.1.length c_3, .slice A4 a1.2.2.2.2.length c_4], _] _ _ := h2
 refine RJ.run Za 1 rfl (RJ.fin [(2, .pointer (some ⟨b1, 0, none⟩)), (3, .pointer (some ⟨b2, 0, none⟩))] rfl (J.seq (J.region ?_)))
 refine RJ.run Za 1 rfl (RJ.fin [(2, _), (3, _)] rfl (J.seq (J.seq (J.region ?_))))
 refine RJ.run Za 1 rfl (RJ.q rfl rfl (Zc Za 0 h2.wht rfl rfl rfl rfl rfl) (RJ.run Za 1 rfl (RJ.fin [(2, _), (3, _), (13, .bool (decide (a1.1 = 0)))] rfl (J.cond rfl (fun c1 => ?_) (fun c1 => ?_)))))
 ·replace H := Zi c1 H
  refine J.seq (J.region ?_)
  refine RJ.run Za 1 rfl (RJ.q rfl rfl (Zc Za 0 h2.wht rfl rfl rfl rfl rfl) (RJ.run Za 1 rfl ?_))
  obtain ⟨r1, q1, H⟩ := Zj H
  refine RJ.op rfl rfl (Zd [] (Q96.spec q1) rfl rfl rfl h2 rfl Zm) ?_
  rintro _ w3 ⟨_, ⟨rfl, rfl⟩, h3⟩
  replace h3 : St w0 F0 [_, _] _ _ := h3
  obtain ⟨p1, H⟩ := Zo H
  refine RJ.q rfl rfl (Zu rfl rfl rfl p1) ?_
  obtain ⟨r2, q2, H⟩ := Zj H
  refine RJ.op rfl rfl (Zd [] (Q93.spec q2) rfl rfl rfl h3 rfl Zm) ?_
  rintro _ w4 ⟨_, ⟨rfl, rfl⟩, h4⟩
  replace h4 : St w0 F0 [_, _] _ _ := h4
  obtain ⟨p2, H⟩ := Zo H
  refine RJ.q rfl rfl (Zu rfl rfl rfl p2) (RJ.run Za 1 rfl (RJ.fin [(2, _), (3, _), (5, .string ⟨⟨((([1, 0] : List UInt8) ++ r1) ++ r2)⟩⟩)] rfl (J.seq (J.seq (J.region ?_)))))
  refine RJ.run Za 1 rfl (RJ.fin [(2, _), (3, _), (5, _), (6, .int .i64 0)] rfl (J.block ?_))
  have h11 := ((h4.only [1, 0] rfl).rds [0, 1, 2, 3] rfl)
  refine J.loop (fun kk env w => ∃ (x1 : List UInt8) (x2 : Int), env = [(2, .pointer (some ⟨b1, 0, none⟩)), (3, .pointer (some ⟨b2, 0, none⟩)), (5, .string ⟨⟨x1⟩⟩), (6, .int .i64 x2)] ∧ St w0 F0 [Zh b1 23 [.int .i64 a0.1, .int .i64 a0.2.1, .int .i64 a0.2.2.1, .int .i64 a0.2.2.2.1, .int .i64 a0.2.2.2.2.1, .int .i64 a0.2.2.2.2.2.1, .int .i64 a0.2.2.2.2.2.2.1, .int .i64 a0.2.2.2.2.2.2.2], Zh b2 29 [.int .i64 a1.1, .slice A1 a1.2.1.length c_1, .slice A2 a1.2.2.1.length c_2, .slice A3 a1.2.2.2.1.length c_3, .slice A4 a1.2.2.2.2.length c_4]] [rdC 70 (.int .u32) a1.2.1 (.slice A1 a1.2.1.length c_1), rdC 9 .str a1.2.2.1 (.slice A2 a1.2.2.1.length c_2), rdC 49 (.pair .str (.pair .bool .str)) a1.2.2.2.1 (.slice A3 a1.2.2.2.1.length c_3), rdC 51 (.pair .str .str) a1.2.2.2.2 (.slice A4 a1.2.2.2.2.length c_4)] w ∧ Q90.l0 kk a0 a1 x1 x2 = some r) (k := k) ⟨((([1, 0] : List UInt8) ++ r1) ++ r2), 0, rfl, h11, H⟩ ?_
  rintro k1 env w5 ⟨x1, x2, rfl, h5, H⟩
  cases k1 with
  | zero => exact nomatch (show none = some r from H)
  | succ k1 =>
   rw [Q90.l0] at H
   refine J.seq (J.seq (J.region ?_))
   refine RJ.run Za 2 rfl (RJ.q rfl rfl (Zc Za 1 h5.wht rfl rfl rfl rfl rfl) (RJ.run Za 2 rfl (RJ.fin [(2, _), (3, _), (5, _), (6, _), (25, .bool (decide (x2 < (a1.2.2.2.2.length : Int))))] rfl (J.cond rfl (fun c2 => ?_) (fun c2 => ?_)))))
   ·replace H := Zi c2 H
    refine J.skip (J.seq (J.block ?_))
    refine J.heldSt mix h5 ?_
    have h6 := h5.drew
    refine HJ.run Za rfl [0, 2, 4, 8, 10] rfl (HJ.q (i := 1) rfl rfl rfl rfl rfl rfl (Zc Za 0 (fun w e => e) rfl rfl rfl rfl rfl) ?_)
    refine HJ.q (i := 3) rfl rfl rfl rfl rfl rfl (Zc Za 1 (fun w e => e) rfl rfl rfl rfl rfl) ?_
    obtain ⟨⟨p3, p4⟩, H⟩ := Zo H
    have e1 := Zy h6.wh (Gives.self 5 rfl) p3 p4
    refine HJ.q (i := 5) rfl rfl rfl rfl rfl rfl (Zk Za rfl rfl rfl rfl rfl e1 p3 p4) (HJ.run Za rfl [6] rfl (HJ.q (i := 7) rfl rfl rfl rfl rfl rfl (Ze (f := 0) Za rfl (fun w e => e) (Gives.self 5 rfl) p3 p4 rfl rfl rfl rfl rfl) ?_))
    refine HJ.q (i := 9) rfl rfl rfl rfl rfl rfl (Zc Za 1 (fun w e => e) rfl rfl rfl rfl rfl) ?_
    refine HJ.q (i := 11) rfl rfl rfl rfl rfl rfl (Zk Za rfl rfl rfl rfl rfl e1 p3 p4) (HJ.run Za rfl [12] rfl (HJ.q (i := 13) rfl rfl rfl rfl rfl rfl (Ze (f := 1) Za rfl (fun w e => e) (Gives.self 5 rfl) p3 p4 rfl rfl rfl rfl rfl) ?_))
    obtain ⟨r3, q3, H⟩ := Zj H
    refine HJ.op (i := 14) rfl rfl rfl rfl rfl (Zd [] (Q97.spec q3) rfl rfl rfl h6 rfl Zm) ?_
    rintro _ w6 ⟨_, ⟨rfl, rfl⟩, h7⟩
    replace h7 : St w0 F0 [_, _] _ _ := h7
    refine ⟨⟨[], h7⟩, ?_⟩
    obtain ⟨p5, H⟩ := Zo H
    refine HJ.q (i := 15) rfl rfl rfl rfl rfl rfl (Zu rfl rfl rfl p5) (HJ.run Za rfl [16] rfl (HJ.fin [(2, _), (3, _), (5, .string ⟨⟨(x1 ++ r3)⟩⟩), (6, _)] rfl rfl (J.region (RJ.run Za 3 rfl (RJ.fin [(2, _), (3, _), (5, _), (6, .int .i64 (w64 (x2 + 1)))] rfl ?_)))))
    have h8 := ((h7.only [0, 0] rfl).rds [0, 1, 2, 3] rfl)
    exact ⟨k1, by omega, (x1 ++ r3), (w64 (x2 + 1)), rfl, h8, H⟩
   replace H := Zg c2 H
   refine J.exit (J.seq (J.region ?_))
   refine RJ.run Za 2 rfl (RJ.q rfl rfl (Zc Za 0 h5.wht rfl rfl rfl rfl rfl) ?_)
   obtain ⟨r4, q4, H⟩ := Zj H
   refine RJ.op rfl rfl (Zd [] (Q98.spec q4) rfl rfl rfl h5 rfl Zm) ?_
   rintro _ w7 ⟨_, ⟨rfl, rfl⟩, h9⟩
   replace h9 : St w0 F0 [_, _] _ _ := h9
   refine RJ.run Za 1 rfl (RJ.fin [(4, .string ⟨⟨r4⟩⟩)] rfl ?_)
   have h10 := h9.only [] rfl
   replace h10 : St w0 F0 [] _ _ := h10
   refine J.ret ?_
   obtain rfl := Option.some.inj H
   exact ⟨_, _, _, (Zb rfl), ⟨rfl, rfl⟩, h10.only [] rfl⟩
 replace H := Zg c1 H
 refine J.skip (J.seq ?_)
 obtain ⟨r5, q5, H⟩ := Zj H
 obtain ⟨p6, H⟩ := Zo H
 obtain ⟨r6, q6, H⟩ := Zj H
 obtain ⟨p7, H⟩ := Zo H
 obtain ⟨r7, q7, H⟩ := Zj H
 obtain ⟨p8, H⟩ := Zo H
 obtain ⟨r8, q8, H⟩ := Zj H
 obtain ⟨p9, H⟩ := Zo H
 refine J.midS (fun env w => env = [(2, .pointer (some ⟨b1, 0, none⟩)), (3, .pointer (some ⟨b2, 0, none⟩)), (5, .string ⟨⟨((((([2] : List UInt8) ++ r5) ++ r6) ++ r7) ++ r8)⟩⟩)] ∧ St w0 F0 [Zh b2 29 [.int .i64 a1.1, .slice A1 a1.2.1.length c_1, .slice A2 a1.2.2.1.length c_2, .slice A3 a1.2.2.2.1.length c_3, .slice A4 a1.2.2.2.2.length c_4], Zh b1 23 [.int .i64 a0.1, .int .i64 a0.2.1, .int .i64 a0.2.2.1, .int .i64 a0.2.2.2.1, .int .i64 a0.2.2.2.2.1, .int .i64 a0.2.2.2.2.2.1, .int .i64 a0.2.2.2.2.2.2.1, .int .i64 a0.2.2.2.2.2.2.2]] [rdC 70 (.int .u32) a1.2.1 (.slice A1 a1.2.1.length c_1), rdC 9 .str a1.2.2.1 (.slice A2 a1.2.2.1.length c_2), rdC 49 (.pair .str (.pair .bool .str)) a1.2.2.2.1 (.slice A3 a1.2.2.2.1.length c_3), rdC 51 (.pair .str .str) a1.2.2.2.2 (.slice A4 a1.2.2.2.2.length c_4)] w) ?_ ?_
 ·refine J.heldSt mix h2 ?_
  have h16 := h2.drew
  refine HJ.run Za rfl [0, 4, 9] rfl (HJ.q (i := 1) rfl rfl rfl rfl rfl rfl (Zc Za 0 (fun w e => e) rfl rfl rfl rfl rfl) ?_)
  refine HJ.q (i := 5) rfl rfl rfl rfl rfl rfl (Zc Za 0 (fun w e => e) rfl rfl rfl rfl rfl) ?_
  refine HJ.run Za rfl [6] rfl (HJ.q (i := 10) rfl rfl rfl rfl rfl rfl (Zc Za 0 (fun w e => e) rfl rfl rfl rfl rfl) ?_)
  refine HJ.run Za rfl [11] rfl (HJ.op (i := 2) rfl rfl rfl rfl rfl (Zd [] (Q96.spec q5) rfl rfl rfl h16 rfl Zm) ?_)
  rintro _ w12 ⟨_, ⟨rfl, rfl⟩, h17⟩
  replace h17 : St w0 F0 [_, _] _ _ := h17
  refine ⟨⟨[], h17⟩, ?_⟩
  refine HJ.pick [3, 7] (i := 3) rfl rfl rfl rfl ((Zs ?_ (Zs ?_ Z4)))
  ·refine HS.op (i := 3) rfl rfl rfl (OpT.ofq (Zu rfl rfl rfl p6)) ?_; rintro _ _ ⟨rfl, rfl⟩; replace h17 : St w0 F0 [_, _] _ _ := h17; refine ⟨⟨[], h17⟩, ?_⟩
   refine HJ.op (i := 7) rfl rfl rfl rfl rfl (Zd [] (Q96.spec q6) rfl rfl rfl h17 rfl Zm) ?_
   rintro _ w13 ⟨_, ⟨rfl, rfl⟩, h18⟩
   replace h18 : St w0 F0 [_, _] _ _ := h18
   refine ⟨⟨[], h18⟩, ?_⟩
   refine HJ.pick [8, 12] (i := 8) rfl rfl rfl rfl ((Zs ?_ (Zs ?_ Z4)))
   ·refine HS.op (i := 8) rfl rfl rfl (OpT.ofq (Zu rfl rfl rfl p7)) ?_; rintro _ _ ⟨rfl, rfl⟩; replace h18 : St w0 F0 [_, _] _ _ := h18; refine ⟨⟨[], h18⟩, ?_⟩
    refine HJ.op (i := 12) rfl rfl rfl rfl rfl (Zd [] (Q96.spec q7) rfl rfl rfl h18 rfl Zm) ?_
    rintro _ w14 ⟨_, ⟨rfl, rfl⟩, h19⟩
    replace h19 : St w0 F0 [_, _] _ _ := h19
    refine ⟨⟨[], h19⟩, ?_⟩
    refine HJ.pick [13, 14] (i := 13) rfl rfl rfl rfl ((Zs ?_ (Zs ?_ Z4)))
    ·refine HS.op (i := 13) rfl rfl rfl (OpT.ofq (Zu rfl rfl rfl p8)) ?_; rintro _ _ ⟨rfl, rfl⟩; replace h19 : St w0 F0 [_, _] _ _ := h19; refine ⟨⟨[], h19⟩, ?_⟩
     refine HJ.op (i := 14) rfl rfl rfl rfl rfl (Zd [] (Q93.spec q8) rfl rfl rfl h19 rfl Zm) ?_
     rintro _ w15 ⟨_, ⟨rfl, rfl⟩, h20⟩
     replace h20 : St w0 F0 [_, _] _ _ := h20
     refine ⟨⟨[], h20⟩, ?_⟩
     refine HJ.q (i := 15) rfl rfl rfl rfl rfl rfl (Zu rfl rfl rfl p9) (HJ.run Za rfl [16] rfl (HJ.fin [(2, .pointer (some ⟨b1, 0, none⟩)), (3, .pointer (some ⟨b2, 0, none⟩)), (5, .string ⟨⟨((((([2] : List UInt8) ++ r5) ++ r6) ++ r7) ++ r8)⟩⟩)] rfl rfl ?_))
     exact Zq ⟨rfl, ((h20.only [0, 0] rfl).rds [0, 1, 2, 3] rfl)⟩
    ·refine HS.op (i := 14) rfl rfl rfl (Zd [] (Q93.spec q8) rfl rfl rfl h19 rfl Zm) ?_
     rintro _ w16 ⟨_, ⟨rfl, rfl⟩, h21⟩
     replace h21 : St w0 F0 [_, _] _ _ := h21
     refine ⟨⟨[], h21⟩, ?_⟩
     refine HJ.q (i := 13) rfl rfl rfl rfl rfl rfl (Zu rfl rfl rfl p8) (HJ.q (i := 15) rfl rfl rfl rfl rfl rfl (Zu rfl rfl rfl p9) (HJ.run Za rfl [16] rfl (HJ.fin [(2, .pointer (some ⟨b1, 0, none⟩)), (3, .pointer (some ⟨b2, 0, none⟩)), (5, .string ⟨⟨((((([2] : List UInt8) ++ r5) ++ r6) ++ r7) ++ r8)⟩⟩)] rfl rfl ?_)))
     exact Zq ⟨rfl, ((h21.only [0, 0] rfl).rds [0, 1, 2, 3] rfl)⟩
   ·refine HS.op (i := 12) rfl rfl rfl (Zd [] (Q96.spec q7) rfl rfl rfl h18 rfl Zm) ?_
    rintro _ w17 ⟨_, ⟨rfl, rfl⟩, h22⟩
    replace h22 : St w0 F0 [_, _] _ _ := h22
    refine ⟨⟨[], h22⟩, ?_⟩
    refine HJ.pick [8, 14] (i := 8) rfl rfl rfl rfl ((Zs ?_ (Zs ?_ Z4)))
    ·refine HS.op (i := 8) rfl rfl rfl (OpT.ofq (Zu rfl rfl rfl p7)) ?_; rintro _ _ ⟨rfl, rfl⟩; replace h22 : St w0 F0 [_, _] _ _ := h22; refine ⟨⟨[], h22⟩, ?_⟩
     refine HJ.pick [13, 14] (i := 13) rfl rfl rfl rfl ((Zs ?_ (Zs ?_ Z4)))
     ·refine HS.op (i := 13) rfl rfl rfl (OpT.ofq (Zu rfl rfl rfl p8)) ?_; rintro _ _ ⟨rfl, rfl⟩; replace h22 : St w0 F0 [_, _] _ _ := h22; refine ⟨⟨[], h22⟩, ?_⟩
      refine HJ.op (i := 14) rfl rfl rfl rfl rfl (Zd [] (Q93.spec q8) rfl rfl rfl h22 rfl Zm) ?_
      rintro _ w18 ⟨_, ⟨rfl, rfl⟩, h23⟩
      replace h23 : St w0 F0 [_, _] _ _ := h23
      refine ⟨⟨[], h23⟩, ?_⟩
      refine HJ.q (i := 15) rfl rfl rfl rfl rfl rfl (Zu rfl rfl rfl p9) (HJ.run Za rfl [16] rfl (HJ.fin [(2, .pointer (some ⟨b1, 0, none⟩)), (3, .pointer (some ⟨b2, 0, none⟩)), (5, .string ⟨⟨((((([2] : List UInt8) ++ r5) ++ r6) ++ r7) ++ r8)⟩⟩)] rfl rfl ?_))
      exact Zq ⟨rfl, ((h23.only [0, 0] rfl).rds [0, 1, 2, 3] rfl)⟩
     ·refine HS.op (i := 14) rfl rfl rfl (Zd [] (Q93.spec q8) rfl rfl rfl h22 rfl Zm) ?_
      rintro _ w19 ⟨_, ⟨rfl, rfl⟩, h24⟩
      replace h24 : St w0 F0 [_, _] _ _ := h24
      refine ⟨⟨[], h24⟩, ?_⟩
      refine HJ.q (i := 13) rfl rfl rfl rfl rfl rfl (Zu rfl rfl rfl p8) (HJ.q (i := 15) rfl rfl rfl rfl rfl rfl (Zu rfl rfl rfl p9) (HJ.run Za rfl [16] rfl (HJ.fin [(2, .pointer (some ⟨b1, 0, none⟩)), (3, .pointer (some ⟨b2, 0, none⟩)), (5, .string ⟨⟨((((([2] : List UInt8) ++ r5) ++ r6) ++ r7) ++ r8)⟩⟩)] rfl rfl ?_)))
      exact Zq ⟨rfl, ((h24.only [0, 0] rfl).rds [0, 1, 2, 3] rfl)⟩
    ·refine HS.op (i := 14) rfl rfl rfl (Zd [] (Q93.spec q8) rfl rfl rfl h22 rfl Zm) ?_
     rintro _ w20 ⟨_, ⟨rfl, rfl⟩, h25⟩
     replace h25 : St w0 F0 [_, _] _ _ := h25
     refine ⟨⟨[], h25⟩, ?_⟩
     refine HJ.q (i := 8) rfl rfl rfl rfl rfl rfl (Zu rfl rfl rfl p7) (HJ.q (i := 13) rfl rfl rfl rfl rfl rfl (Zu rfl rfl rfl p8) (HJ.q (i := 15) rfl rfl rfl rfl rfl rfl (Zu rfl rfl rfl p9) (HJ.run Za rfl [16] rfl (HJ.fin [(2, .pointer (some ⟨b1, 0, none⟩)), (3, .pointer (some ⟨b2, 0, none⟩)), (5, .string ⟨⟨((((([2] : List UInt8) ++ r5) ++ r6) ++ r7) ++ r8)⟩⟩)] rfl rfl ?_))))
     exact Zq ⟨rfl, ((h25.only [0, 0] rfl).rds [0, 1, 2, 3] rfl)⟩
  ·refine HS.op (i := 7) rfl rfl rfl (Zd [] (Q96.spec q6) rfl rfl rfl h17 rfl Zm) ?_
   rintro _ w21 ⟨_, ⟨rfl, rfl⟩, h26⟩
   replace h26 : St w0 F0 [_, _] _ _ := h26
   refine ⟨⟨[], h26⟩, ?_⟩
   refine HJ.pick [3, 12] (i := 3) rfl rfl rfl rfl ((Zs ?_ (Zs ?_ Z4)))
   ·refine HS.op (i := 3) rfl rfl rfl (OpT.ofq (Zu rfl rfl rfl p6)) ?_; rintro _ _ ⟨rfl, rfl⟩; replace h26 : St w0 F0 [_, _] _ _ := h26; refine ⟨⟨[], h26⟩, ?_⟩
    refine HJ.pick [8, 12] (i := 8) rfl rfl rfl rfl ((Zs ?_ (Zs ?_ Z4)))
    ·refine HS.op (i := 8) rfl rfl rfl (OpT.ofq (Zu rfl rfl rfl p7)) ?_; rintro _ _ ⟨rfl, rfl⟩; replace h26 : St w0 F0 [_, _] _ _ := h26; refine ⟨⟨[], h26⟩, ?_⟩
     refine HJ.op (i := 12) rfl rfl rfl rfl rfl (Zd [] (Q96.spec q7) rfl rfl rfl h26 rfl Zm) ?_
     rintro _ w22 ⟨_, ⟨rfl, rfl⟩, h27⟩
     replace h27 : St w0 F0 [_, _] _ _ := h27
     refine ⟨⟨[], h27⟩, ?_⟩
     refine HJ.pick [13, 14] (i := 13) rfl rfl rfl rfl ((Zs ?_ (Zs ?_ Z4)))
     ·refine HS.op (i := 13) rfl rfl rfl (OpT.ofq (Zu rfl rfl rfl p8)) ?_; rintro _ _ ⟨rfl, rfl⟩; replace h27 : St w0 F0 [_, _] _ _ := h27; refine ⟨⟨[], h27⟩, ?_⟩
      refine HJ.op (i := 14) rfl rfl rfl rfl rfl (Zd [] (Q93.spec q8) rfl rfl rfl h27 rfl Zm) ?_
      rintro _ w23 ⟨_, ⟨rfl, rfl⟩, h28⟩
      replace h28 : St w0 F0 [_, _] _ _ := h28
      refine ⟨⟨[], h28⟩, ?_⟩
      refine HJ.q (i := 15) rfl rfl rfl rfl rfl rfl (Zu rfl rfl rfl p9) (HJ.run Za rfl [16] rfl (HJ.fin [(2, .pointer (some ⟨b1, 0, none⟩)), (3, .pointer (some ⟨b2, 0, none⟩)), (5, .string ⟨⟨((((([2] : List UInt8) ++ r5) ++ r6) ++ r7) ++ r8)⟩⟩)] rfl rfl ?_))
      exact Zq ⟨rfl, ((h28.only [0, 0] rfl).rds [0, 1, 2, 3] rfl)⟩
     ·refine HS.op (i := 14) rfl rfl rfl (Zd [] (Q93.spec q8) rfl rfl rfl h27 rfl Zm) ?_
      rintro _ w24 ⟨_, ⟨rfl, rfl⟩, h29⟩
      replace h29 : St w0 F0 [_, _] _ _ := h29
      refine ⟨⟨[], h29⟩, ?_⟩
      refine HJ.q (i := 13) rfl rfl rfl rfl rfl rfl (Zu rfl rfl rfl p8) (HJ.q (i := 15) rfl rfl rfl rfl rfl rfl (Zu rfl rfl rfl p9) (HJ.run Za rfl [16] rfl (HJ.fin [(2, .pointer (some ⟨b1, 0, none⟩)), (3, .pointer (some ⟨b2, 0, none⟩)), (5, .string ⟨⟨((((([2] : List UInt8) ++ r5) ++ r6) ++ r7) ++ r8)⟩⟩)] rfl rfl ?_)))
      exact Zq ⟨rfl, ((h29.only [0, 0] rfl).rds [0, 1, 2, 3] rfl)⟩
    ·refine HS.op (i := 12) rfl rfl rfl (Zd [] (Q96.spec q7) rfl rfl rfl h26 rfl Zm) ?_
     rintro _ w25 ⟨_, ⟨rfl, rfl⟩, h30⟩
     replace h30 : St w0 F0 [_, _] _ _ := h30
     refine ⟨⟨[], h30⟩, ?_⟩
     refine HJ.pick [8, 14] (i := 8) rfl rfl rfl rfl ((Zs ?_ (Zs ?_ Z4)))
     ·refine HS.op (i := 8) rfl rfl rfl (OpT.ofq (Zu rfl rfl rfl p7)) ?_; rintro _ _ ⟨rfl, rfl⟩; replace h30 : St w0 F0 [_, _] _ _ := h30; refine ⟨⟨[], h30⟩, ?_⟩
      refine HJ.pick [13, 14] (i := 13) rfl rfl rfl rfl ((Zs ?_ (Zs ?_ Z4)))
      ·refine HS.op (i := 13) rfl rfl rfl (OpT.ofq (Zu rfl rfl rfl p8)) ?_; rintro _ _ ⟨rfl, rfl⟩; replace h30 : St w0 F0 [_, _] _ _ := h30; refine ⟨⟨[], h30⟩, ?_⟩
       refine HJ.op (i := 14) rfl rfl rfl rfl rfl (Zd [] (Q93.spec q8) rfl rfl rfl h30 rfl Zm) ?_
       rintro _ w26 ⟨_, ⟨rfl, rfl⟩, h31⟩
       replace h31 : St w0 F0 [_, _] _ _ := h31
       refine ⟨⟨[], h31⟩, ?_⟩
       refine HJ.q (i := 15) rfl rfl rfl rfl rfl rfl (Zu rfl rfl rfl p9) (HJ.run Za rfl [16] rfl (HJ.fin [(2, .pointer (some ⟨b1, 0, none⟩)), (3, .pointer (some ⟨b2, 0, none⟩)), (5, .string ⟨⟨((((([2] : List UInt8) ++ r5) ++ r6) ++ r7) ++ r8)⟩⟩)] rfl rfl ?_))
       exact Zq ⟨rfl, ((h31.only [0, 0] rfl).rds [0, 1, 2, 3] rfl)⟩
      ·refine HS.op (i := 14) rfl rfl rfl (Zd [] (Q93.spec q8) rfl rfl rfl h30 rfl Zm) ?_
       rintro _ w27 ⟨_, ⟨rfl, rfl⟩, h32⟩
       replace h32 : St w0 F0 [_, _] _ _ := h32
       refine ⟨⟨[], h32⟩, ?_⟩
       refine HJ.q (i := 13) rfl rfl rfl rfl rfl rfl (Zu rfl rfl rfl p8) (HJ.q (i := 15) rfl rfl rfl rfl rfl rfl (Zu rfl rfl rfl p9) (HJ.run Za rfl [16] rfl (HJ.fin [(2, .pointer (some ⟨b1, 0, none⟩)), (3, .pointer (some ⟨b2, 0, none⟩)), (5, .string ⟨⟨((((([2] : List UInt8) ++ r5) ++ r6) ++ r7) ++ r8)⟩⟩)] rfl rfl ?_)))
       exact Zq ⟨rfl, ((h32.only [0, 0] rfl).rds [0, 1, 2, 3] rfl)⟩
     ·refine HS.op (i := 14) rfl rfl rfl (Zd [] (Q93.spec q8) rfl rfl rfl h30 rfl Zm) ?_
      rintro _ w28 ⟨_, ⟨rfl, rfl⟩, h33⟩
      replace h33 : St w0 F0 [_, _] _ _ := h33
      refine ⟨⟨[], h33⟩, ?_⟩
      refine HJ.q (i := 8) rfl rfl rfl rfl rfl rfl (Zu rfl rfl rfl p7) (HJ.q (i := 13) rfl rfl rfl rfl rfl rfl (Zu rfl rfl rfl p8) (HJ.q (i := 15) rfl rfl rfl rfl rfl rfl (Zu rfl rfl rfl p9) (HJ.run Za rfl [16] rfl (HJ.fin [(2, .pointer (some ⟨b1, 0, none⟩)), (3, .pointer (some ⟨b2, 0, none⟩)), (5, .string ⟨⟨((((([2] : List UInt8) ++ r5) ++ r6) ++ r7) ++ r8)⟩⟩)] rfl rfl ?_))))
      exact Zq ⟨rfl, ((h33.only [0, 0] rfl).rds [0, 1, 2, 3] rfl)⟩
   ·refine HS.op (i := 12) rfl rfl rfl (Zd [] (Q96.spec q7) rfl rfl rfl h26 rfl Zm) ?_
    rintro _ w29 ⟨_, ⟨rfl, rfl⟩, h34⟩
    replace h34 : St w0 F0 [_, _] _ _ := h34
    refine ⟨⟨[], h34⟩, ?_⟩
    refine HJ.pick [3, 14] (i := 3) rfl rfl rfl rfl ((Zs ?_ (Zs ?_ Z4)))
    ·refine HS.op (i := 3) rfl rfl rfl (OpT.ofq (Zu rfl rfl rfl p6)) ?_; rintro _ _ ⟨rfl, rfl⟩; replace h34 : St w0 F0 [_, _] _ _ := h34; refine ⟨⟨[], h34⟩, ?_⟩
     refine HJ.pick [8, 14] (i := 8) rfl rfl rfl rfl ((Zs ?_ (Zs ?_ Z4)))
     ·refine HS.op (i := 8) rfl rfl rfl (OpT.ofq (Zu rfl rfl rfl p7)) ?_; rintro _ _ ⟨rfl, rfl⟩; replace h34 : St w0 F0 [_, _] _ _ := h34; refine ⟨⟨[], h34⟩, ?_⟩
      refine HJ.pick [13, 14] (i := 13) rfl rfl rfl rfl ((Zs ?_ (Zs ?_ Z4)))
      ·refine HS.op (i := 13) rfl rfl rfl (OpT.ofq (Zu rfl rfl rfl p8)) ?_; rintro _ _ ⟨rfl, rfl⟩; replace h34 : St w0 F0 [_, _] _ _ := h34; refine ⟨⟨[], h34⟩, ?_⟩
       refine HJ.op (i := 14) rfl rfl rfl rfl rfl (Zd [] (Q93.spec q8) rfl rfl rfl h34 rfl Zm) ?_
       rintro _ w30 ⟨_, ⟨rfl, rfl⟩, h35⟩
       replace h35 : St w0 F0 [_, _] _ _ := h35
       refine ⟨⟨[], h35⟩, ?_⟩
       refine HJ.q (i := 15) rfl rfl rfl rfl rfl rfl (Zu rfl rfl rfl p9) (HJ.run Za rfl [16] rfl (HJ.fin [(2, .pointer (some ⟨b1, 0, none⟩)), (3, .pointer (some ⟨b2, 0, none⟩)), (5, .string ⟨⟨((((([2] : List UInt8) ++ r5) ++ r6) ++ r7) ++ r8)⟩⟩)] rfl rfl ?_))
       exact Zq ⟨rfl, ((h35.only [0, 0] rfl).rds [0, 1, 2, 3] rfl)⟩
      ·refine HS.op (i := 14) rfl rfl rfl (Zd [] (Q93.spec q8) rfl rfl rfl h34 rfl Zm) ?_
       rintro _ w31 ⟨_, ⟨rfl, rfl⟩, h36⟩
       replace h36 : St w0 F0 [_, _] _ _ := h36
       refine ⟨⟨[], h36⟩, ?_⟩
       refine HJ.q (i := 13) rfl rfl rfl rfl rfl rfl (Zu rfl rfl rfl p8) (HJ.q (i := 15) rfl rfl rfl rfl rfl rfl (Zu rfl rfl rfl p9) (HJ.run Za rfl [16] rfl (HJ.fin [(2, .pointer (some ⟨b1, 0, none⟩)), (3, .pointer (some ⟨b2, 0, none⟩)), (5, .string ⟨⟨((((([2] : List UInt8) ++ r5) ++ r6) ++ r7) ++ r8)⟩⟩)] rfl rfl ?_)))
       exact Zq ⟨rfl, ((h36.only [0, 0] rfl).rds [0, 1, 2, 3] rfl)⟩
     ·refine HS.op (i := 14) rfl rfl rfl (Zd [] (Q93.spec q8) rfl rfl rfl h34 rfl Zm) ?_
      rintro _ w32 ⟨_, ⟨rfl, rfl⟩, h37⟩
      replace h37 : St w0 F0 [_, _] _ _ := h37
      refine ⟨⟨[], h37⟩, ?_⟩
      refine HJ.q (i := 8) rfl rfl rfl rfl rfl rfl (Zu rfl rfl rfl p7) (HJ.q (i := 13) rfl rfl rfl rfl rfl rfl (Zu rfl rfl rfl p8) (HJ.q (i := 15) rfl rfl rfl rfl rfl rfl (Zu rfl rfl rfl p9) (HJ.run Za rfl [16] rfl (HJ.fin [(2, .pointer (some ⟨b1, 0, none⟩)), (3, .pointer (some ⟨b2, 0, none⟩)), (5, .string ⟨⟨((((([2] : List UInt8) ++ r5) ++ r6) ++ r7) ++ r8)⟩⟩)] rfl rfl ?_))))
      exact Zq ⟨rfl, ((h37.only [0, 0] rfl).rds [0, 1, 2, 3] rfl)⟩
    ·refine HS.op (i := 14) rfl rfl rfl (Zd [] (Q93.spec q8) rfl rfl rfl h34 rfl Zm) ?_
     rintro _ w33 ⟨_, ⟨rfl, rfl⟩, h38⟩
     replace h38 : St w0 F0 [_, _] _ _ := h38
     refine ⟨⟨[], h38⟩, ?_⟩
     refine HJ.q (i := 3) rfl rfl rfl rfl rfl rfl (Zu rfl rfl rfl p6) (HJ.q (i := 8) rfl rfl rfl rfl rfl rfl (Zu rfl rfl rfl p7) (HJ.q (i := 13) rfl rfl rfl rfl rfl rfl (Zu rfl rfl rfl p8) (HJ.q (i := 15) rfl rfl rfl rfl rfl rfl (Zu rfl rfl rfl p9) (HJ.run Za rfl [16] rfl (HJ.fin [(2, .pointer (some ⟨b1, 0, none⟩)), (3, .pointer (some ⟨b2, 0, none⟩)), (5, .string ⟨⟨((((([2] : List UInt8) ++ r5) ++ r6) ++ r7) ++ r8)⟩⟩)] rfl rfl ?_)))))
     exact Zq ⟨rfl, ((h38.only [0, 0] rfl).rds [0, 1, 2, 3] rfl)⟩
 rintro env w34 ⟨rfl, h39⟩
 refine J.seq (J.seq (J.region ?_))
 refine RJ.run Za 1 rfl (RJ.fin [(2, _), (3, _), (5, .string ⟨⟨((((([2] : List UInt8) ++ r5) ++ r6) ++ r7) ++ r8)⟩⟩), (7, .int .i64 0)] rfl (J.block ?_))
 have h71 := ((h39.only [1, 0] rfl).rds [0, 1, 2, 3] rfl)
 refine J.loop (fun kk env w => ∃ (x3 : List UInt8) (x4 : Int), env = [(2, .pointer (some ⟨b1, 0, none⟩)), (3, .pointer (some ⟨b2, 0, none⟩)), (5, .string ⟨⟨x3⟩⟩), (7, .int .i64 x4)] ∧ St w0 F0 [Zh b1 23 [.int .i64 a0.1, .int .i64 a0.2.1, .int .i64 a0.2.2.1, .int .i64 a0.2.2.2.1, .int .i64 a0.2.2.2.2.1, .int .i64 a0.2.2.2.2.2.1, .int .i64 a0.2.2.2.2.2.2.1, .int .i64 a0.2.2.2.2.2.2.2], Zh b2 29 [.int .i64 a1.1, .slice A1 a1.2.1.length c_1, .slice A2 a1.2.2.1.length c_2, .slice A3 a1.2.2.2.1.length c_3, .slice A4 a1.2.2.2.2.length c_4]] [rdC 70 (.int .u32) a1.2.1 (.slice A1 a1.2.1.length c_1), rdC 9 .str a1.2.2.1 (.slice A2 a1.2.2.1.length c_2), rdC 49 (.pair .str (.pair .bool .str)) a1.2.2.2.1 (.slice A3 a1.2.2.2.1.length c_3), rdC 51 (.pair .str .str) a1.2.2.2.2 (.slice A4 a1.2.2.2.2.length c_4)] w ∧ Q90.l1 kk a0 a1 x3 x4 = some r) (k := k) ⟨((((([2] : List UInt8) ++ r5) ++ r6) ++ r7) ++ r8), 0, rfl, h71, H⟩ ?_
 rintro k2 env w35 ⟨x3, x4, rfl, h40, H⟩
 cases k2 with
 | zero => exact nomatch (show none = some r from H)
 | succ k2 =>
  rw [Q90.l1] at H
  refine J.seq (J.seq (J.region ?_))
  refine RJ.run Za 2 rfl (RJ.q rfl rfl (Zc Za 1 h40.wht rfl rfl rfl rfl rfl) (RJ.run Za 2 rfl (RJ.fin [(2, _), (3, _), (5, _), (7, _), (68, .bool (decide (x4 < (a1.2.1.length : Int))))] rfl (J.cond rfl (fun c3 => ?_) (fun c3 => ?_)))))
  ·replace H := Zi c3 H
   refine J.skip (J.seq (J.block (J.region ?_)))
   refine RJ.run Za 2 rfl (RJ.q rfl rfl (Zc Za 1 h40.wht rfl rfl rfl rfl rfl) (RJ.run Za 1 rfl ?_))
   obtain ⟨⟨p10, p11⟩, H⟩ := Zo H
   have e2 := Zy h40.wh (Gives.self 2 rfl) p10 p11
   refine RJ.q rfl rfl (Zk Za rfl rfl rfl rfl rfl e2 p10 p11) (RJ.q rfl rfl (Ze (f := 0) Za rfl h40.wht (Gives.self 2 rfl) p10 p11 rfl rfl rfl rfl rfl) (RJ.run Za 1 rfl ?_))
   obtain ⟨r9, q9, H⟩ := Zj H
   refine RJ.op rfl rfl (Zd [] (Q70.spec q9) rfl rfl rfl h40 rfl Zm) ?_
   rintro _ w36 ⟨_, ⟨A5, c_5, rfl, rfl⟩, h41⟩
   replace h41 : St w0 F0 [Zf 5 (.int .u8) r9 (.slice A5 r9.length c_5), _, _] _ _ := h41
   refine RJ.q rfl rfl (Xz Za h41.wht (Gives.of 0 rfl Zl) rfl rfl rfl rfl rfl) ?_
   obtain ⟨p12, H⟩ := Zo H
   refine RJ.q rfl rfl (Zu rfl rfl rfl p12) (RJ.run Za 1 rfl (RJ.fin [(2, _), (3, _), (5, .string ⟨⟨(x3 ++ (toS r9))⟩⟩), (7, _)] rfl (J.region (RJ.run Za 3 rfl (RJ.fin [(2, _), (3, _), (5, _), (7, .int .i64 (w64 (x4 + 1)))] rfl ?_)))))
   have h42 := ((h41.only [1, 1] rfl).rds [0, 1, 2, 3] rfl)
   exact ⟨k2, by omega, (x3 ++ (toS r9)), (w64 (x4 + 1)), rfl, h42, H⟩
  replace H := Zg c3 H
  refine J.exit (J.seq (J.region ?_))
  refine RJ.run Za 2 rfl (RJ.q rfl rfl (Zc Za 0 h40.wht rfl rfl rfl rfl rfl) (RJ.run Za 1 rfl (RJ.q rfl rfl (Zc Za 1 h40.wht rfl rfl rfl rfl rfl) (RJ.run Za 3 rfl ?_))))
  obtain ⟨r10, q10, H⟩ := Zj H
  refine RJ.op rfl rfl (Zd [] (Q93.spec q10) rfl rfl rfl h40 rfl Zm) ?_
  rintro _ w37 ⟨_, ⟨rfl, rfl⟩, h43⟩
  replace h43 : St w0 F0 [_, _] _ _ := h43
  obtain ⟨p13, H⟩ := Zo H
  refine RJ.q rfl rfl (Zu rfl rfl rfl p13) (RJ.run Za 1 rfl (RJ.fin [(2, _), (3, _), (5, .string ⟨⟨(x3 ++ r10)⟩⟩)] rfl (J.seq (J.seq (J.region ?_)))))
  refine RJ.run Za 1 rfl (RJ.fin [(2, _), (3, _), (5, _), (8, .int .i64 0)] rfl (J.block ?_))
  have h70 := ((h43.only [0, 0] rfl).rds [0, 1, 2, 3] rfl)
  refine J.loop (fun kk env w => ∃ (x5 : List UInt8) (x6 : Int), env = [(2, .pointer (some ⟨b1, 0, none⟩)), (3, .pointer (some ⟨b2, 0, none⟩)), (5, .string ⟨⟨x5⟩⟩), (8, .int .i64 x6)] ∧ St w0 F0 [Zh b1 23 [.int .i64 a0.1, .int .i64 a0.2.1, .int .i64 a0.2.2.1, .int .i64 a0.2.2.2.1, .int .i64 a0.2.2.2.2.1, .int .i64 a0.2.2.2.2.2.1, .int .i64 a0.2.2.2.2.2.2.1, .int .i64 a0.2.2.2.2.2.2.2], Zh b2 29 [.int .i64 a1.1, .slice A1 a1.2.1.length c_1, .slice A2 a1.2.2.1.length c_2, .slice A3 a1.2.2.2.1.length c_3, .slice A4 a1.2.2.2.2.length c_4]] [rdC 70 (.int .u32) a1.2.1 (.slice A1 a1.2.1.length c_1), rdC 9 .str a1.2.2.1 (.slice A2 a1.2.2.1.length c_2), rdC 49 (.pair .str (.pair .bool .str)) a1.2.2.2.1 (.slice A3 a1.2.2.2.1.length c_3), rdC 51 (.pair .str .str) a1.2.2.2.2 (.slice A4 a1.2.2.2.2.length c_4)] w ∧ Q90.l2 kk a0 a1 x5 x6 = some r) (k := k2) ⟨(x3 ++ r10), 0, rfl, h70, H⟩ ?_
  rintro k3 env w38 ⟨x5, x6, rfl, h44, H⟩
  cases k3 with
  | zero => exact nomatch (show none = some r from H)
  | succ k3 =>
   rw [Q90.l2] at H
   refine J.seq (J.seq (J.region ?_))
   refine RJ.run Za 2 rfl (RJ.q rfl rfl (Zc Za 1 h44.wht rfl rfl rfl rfl rfl) (RJ.run Za 2 rfl (RJ.fin [(2, _), (3, _), (5, _), (8, _), (95, .bool (decide (x6 < (a1.2.2.1.length : Int))))] rfl (J.cond rfl (fun c4 => ?_) (fun c4 => ?_)))))
   ·replace H := Zi c4 H
    refine J.skip (J.seq (J.block ?_))
    obtain ⟨⟨p14, p15⟩, H⟩ := Zo H
    obtain ⟨r11, q11, H⟩ := Zj H
    obtain ⟨p16, H⟩ := Zo H
    obtain ⟨r12, q12, H⟩ := Zj H
    obtain ⟨p17, H⟩ := Zo H
    refine J.mid (fun env w => env = [(2, .pointer (some ⟨b1, 0, none⟩)), (3, .pointer (some ⟨b2, 0, none⟩)), (5, .string ⟨⟨((x5 ++ r11) ++ r12)⟩⟩), (8, .int .i64 x6)] ∧ St w0 F0 [Zh b1 23 [.int .i64 a0.1, .int .i64 a0.2.1, .int .i64 a0.2.2.1, .int .i64 a0.2.2.2.1, .int .i64 a0.2.2.2.2.1, .int .i64 a0.2.2.2.2.2.1, .int .i64 a0.2.2.2.2.2.2.1, .int .i64 a0.2.2.2.2.2.2.2], Zh b2 29 [.int .i64 a1.1, .slice A1 a1.2.1.length c_1, .slice A2 a1.2.2.1.length c_2, .slice A3 a1.2.2.2.1.length c_3, .slice A4 a1.2.2.2.2.length c_4]] [rdC 70 (.int .u32) a1.2.1 (.slice A1 a1.2.1.length c_1), rdC 9 .str a1.2.2.1 (.slice A2 a1.2.2.1.length c_2), rdC 49 (.pair .str (.pair .bool .str)) a1.2.2.2.1 (.slice A3 a1.2.2.2.1.length c_3), rdC 51 (.pair .str .str) a1.2.2.2.2 (.slice A4 a1.2.2.2.2.length c_4)] w) ?_ ?_
    ·refine J.heldSt mix h44 ?_
     have h47 := h44.drew
     refine HJ.run Za rfl [0, 1, 3, 9, 11, 14] rfl (HJ.q (i := 2) rfl rfl rfl rfl rfl rfl (Zc Za 1 (fun w e => e) rfl rfl rfl rfl rfl) ?_)
     have e4 := Zy h47.wh (Gives.self 3 rfl) p14 p15
     refine HJ.q (i := 4) rfl rfl rfl rfl rfl rfl (Zk Za rfl rfl rfl rfl rfl e4 p14 p15) (HJ.q (i := 5) rfl rfl rfl rfl rfl rfl (Ze (f := 0) Za rfl (fun w e => e) (Gives.self 3 rfl) p14 p15 rfl rfl rfl rfl rfl) ?_)
     refine HJ.run Za rfl [6] rfl (HJ.q (i := 10) rfl rfl rfl rfl rfl rfl (Zc Za 1 (fun w e => e) rfl rfl rfl rfl rfl) ?_)
     refine HJ.q (i := 12) rfl rfl rfl rfl rfl rfl (Zk Za rfl rfl rfl rfl rfl e4 p14 p15) (HJ.q (i := 13) rfl rfl rfl rfl rfl rfl (Ze (f := 0) Za rfl (fun w e => e) (Gives.self 3 rfl) p14 p15 rfl rfl rfl rfl rfl) ?_)
     refine HJ.q (i := 15) rfl rfl rfl rfl rfl rfl (Zc Za 0 (fun w e => e) rfl rfl rfl rfl rfl) ?_
     refine HJ.op (i := 7) rfl rfl rfl rfl rfl (Zd [] (Q96.spec q11) rfl rfl rfl h47 rfl Zm) ?_
     rintro _ w41 ⟨_, ⟨rfl, rfl⟩, h48⟩
     replace h48 : St w0 F0 [_, _] _ _ := h48
     refine ⟨⟨[], h48⟩, ?_⟩
     refine HJ.pick [8, 16] (i := 8) rfl rfl rfl rfl ((Zs ?_ (Zs ?_ Z4)))
     ·refine HS.op (i := 8) rfl rfl rfl (OpT.ofq (Zu rfl rfl rfl p16)) ?_; rintro _ _ ⟨rfl, rfl⟩; replace h48 : St w0 F0 [_, _] _ _ := h48; refine ⟨⟨[], h48⟩, ?_⟩
      refine HJ.op (i := 16) rfl rfl rfl rfl rfl (Zd [] (Q98.spec q12) rfl rfl rfl h48 rfl Zm) ?_
      rintro _ w42 ⟨_, ⟨rfl, rfl⟩, h49⟩
      replace h49 : St w0 F0 [_, _] _ _ := h49
      refine ⟨⟨[], h49⟩, ?_⟩
      refine HJ.q (i := 17) rfl rfl rfl rfl rfl rfl (Zu rfl rfl rfl p17) (HJ.run Za rfl [18] rfl (HJ.fin [(2, .pointer (some ⟨b1, 0, none⟩)), (3, .pointer (some ⟨b2, 0, none⟩)), (5, .string ⟨⟨((x5 ++ r11) ++ r12)⟩⟩), (8, .int .i64 x6)] rfl rfl ?_))
      exact Zq ⟨rfl, ((h49.only [0, 0] rfl).rds [0, 1, 2, 3] rfl)⟩
     ·refine HS.op (i := 16) rfl rfl rfl (Zd [] (Q98.spec q12) rfl rfl rfl h48 rfl Zm) ?_
      rintro _ w43 ⟨_, ⟨rfl, rfl⟩, h50⟩
      replace h50 : St w0 F0 [_, _] _ _ := h50
      refine ⟨⟨[], h50⟩, ?_⟩
      refine HJ.q (i := 8) rfl rfl rfl rfl rfl rfl (Zu rfl rfl rfl p16) (HJ.q (i := 17) rfl rfl rfl rfl rfl rfl (Zu rfl rfl rfl p17) (HJ.run Za rfl [18] rfl (HJ.fin [(2, .pointer (some ⟨b1, 0, none⟩)), (3, .pointer (some ⟨b2, 0, none⟩)), (5, .string ⟨⟨((x5 ++ r11) ++ r12)⟩⟩), (8, .int .i64 x6)] rfl rfl ?_)))
      exact Zq ⟨rfl, ((h50.only [0, 0] rfl).rds [0, 1, 2, 3] rfl)⟩
    rintro env w44 ⟨rfl, h51⟩
    refine J.region (RJ.run Za 3 rfl (RJ.fin [(2, _), (3, _), (5, .string ⟨⟨((x5 ++ r11) ++ r12)⟩⟩), (8, .int .i64 (w64 (x6 + 1)))] rfl ?_))
    have h52 := ((h51.only [0, 0] rfl).rds [0, 1, 2, 3] rfl)
    exact ⟨k3, by omega, ((x5 ++ r11) ++ r12), (w64 (x6 + 1)), rfl, h52, H⟩
   replace H := Zg c4 H
   refine J.exit (J.seq (J.region ?_))
   refine RJ.run Za 2 rfl (RJ.q rfl rfl (Zc Za 0 h44.wht rfl rfl rfl rfl rfl) (RJ.run Za 2 rfl (RJ.q rfl rfl (Zc Za 0 h44.wht rfl rfl rfl rfl rfl) (RJ.run Za 2 rfl (RJ.q rfl rfl (Zc Za 1 h44.wht rfl rfl rfl rfl rfl) (RJ.run Za 3 rfl ?_))))))
   obtain ⟨r13, q13, H⟩ := Zj H
   refine RJ.op rfl rfl (Zd [] (Q93.spec q13) rfl rfl rfl h44 rfl Zm) ?_
   rintro _ w45 ⟨_, ⟨rfl, rfl⟩, h53⟩
   replace h53 : St w0 F0 [_, _] _ _ := h53
   obtain ⟨p18, H⟩ := Zo H
   refine RJ.q rfl rfl (Zu rfl rfl rfl p18) (RJ.run Za 1 rfl (RJ.fin [(2, _), (3, _), (5, .string ⟨⟨(x5 ++ r13)⟩⟩)] rfl (J.seq (J.seq (J.region ?_)))))
   refine RJ.run Za 1 rfl (RJ.fin [(2, _), (3, _), (5, _), (9, .int .i64 0)] rfl (J.block ?_))
   have h69 := ((h53.only [0, 0] rfl).rds [0, 1, 2, 3] rfl)
   refine J.loop (fun kk env w => ∃ (x7 : List UInt8) (x8 : Int), env = [(2, .pointer (some ⟨b1, 0, none⟩)), (3, .pointer (some ⟨b2, 0, none⟩)), (5, .string ⟨⟨x7⟩⟩), (9, .int .i64 x8)] ∧ St w0 F0 [Zh b1 23 [.int .i64 a0.1, .int .i64 a0.2.1, .int .i64 a0.2.2.1, .int .i64 a0.2.2.2.1, .int .i64 a0.2.2.2.2.1, .int .i64 a0.2.2.2.2.2.1, .int .i64 a0.2.2.2.2.2.2.1, .int .i64 a0.2.2.2.2.2.2.2], Zh b2 29 [.int .i64 a1.1, .slice A1 a1.2.1.length c_1, .slice A2 a1.2.2.1.length c_2, .slice A3 a1.2.2.2.1.length c_3, .slice A4 a1.2.2.2.2.length c_4]] [rdC 70 (.int .u32) a1.2.1 (.slice A1 a1.2.1.length c_1), rdC 9 .str a1.2.2.1 (.slice A2 a1.2.2.1.length c_2), rdC 49 (.pair .str (.pair .bool .str)) a1.2.2.2.1 (.slice A3 a1.2.2.2.1.length c_3), rdC 51 (.pair .str .str) a1.2.2.2.2 (.slice A4 a1.2.2.2.2.length c_4)] w ∧ Q90.l3 kk a0 a1 x7 x8 = some r) (k := k3) ⟨(x5 ++ r13), 0, rfl, h69, H⟩ ?_
   rintro k4 env w46 ⟨x7, x8, rfl, h54, H⟩
   cases k4 with
   | zero => exact nomatch (show none = some r from H)
   | succ k4 =>
    rw [Q90.l3] at H
    refine J.seq (J.seq (J.region ?_))
    refine RJ.run Za 2 rfl (RJ.q rfl rfl (Zc Za 1 h54.wht rfl rfl rfl rfl rfl) (RJ.run Za 2 rfl (RJ.fin [(2, _), (3, _), (5, _), (9, _), (134, .bool (decide (x8 < (a1.2.2.2.1.length : Int))))] rfl (J.cond rfl (fun c5 => ?_) (fun c5 => ?_)))))
    ·replace H := Zi c5 H
     refine J.skip (J.seq (J.block (J.seq (J.region ?_))))
     refine RJ.run Za 1 rfl (RJ.fin [(2, _), (3, _), (5, _), (9, _), (10, .string ⟨⟨([1] : List UInt8)⟩⟩)] rfl (J.seq (J.seq (J.region ?_))))
     refine RJ.run Za 1 rfl (RJ.q rfl rfl (Zc Za 1 h54.wht rfl rfl rfl rfl rfl) (RJ.run Za 1 rfl ?_))
     obtain ⟨⟨p19, p20⟩, H⟩ := Zo H
     have e5 := Zy h54.wh (Gives.self 4 rfl) p19 p20
     refine RJ.q rfl rfl (Zk Za rfl rfl rfl rfl rfl e5 p19 p20) (RJ.run Za 1 rfl (RJ.q rfl rfl (Ze (f := 1) Za rfl h54.wht (Gives.self 4 rfl) p19 p20 rfl rfl rfl rfl rfl) (RJ.fin [(2, _), (3, _), (5, _), (9, _), (10, _), (142, .bool ((gt a1.2.2.2.1 x8).2.1))] rfl (J.cond rfl (fun c6 => ?_) (fun c6 => ?_)))))
     ·replace H := Zi c6 H
      refine J.region (RJ.run Za 1 rfl (RJ.fin [(2, _), (3, _), (5, _), (9, _), (10, .string ⟨⟨([2] : List UInt8)⟩⟩)] rfl ?_))
      obtain ⟨p21, H⟩ := Zo H
      obtain ⟨r14, q14, H⟩ := Zj H
      obtain ⟨p22, H⟩ := Zo H
      refine J.mid (fun env w => env = [(2, .pointer (some ⟨b1, 0, none⟩)), (3, .pointer (some ⟨b2, 0, none⟩)), (5, .string ⟨⟨((x7 ++ ([2] : List UInt8)) ++ r14)⟩⟩), (9, .int .i64 x8)] ∧ St w0 F0 [Zh b1 23 [.int .i64 a0.1, .int .i64 a0.2.1, .int .i64 a0.2.2.1, .int .i64 a0.2.2.2.1, .int .i64 a0.2.2.2.2.1, .int .i64 a0.2.2.2.2.2.1, .int .i64 a0.2.2.2.2.2.2.1, .int .i64 a0.2.2.2.2.2.2.2], Zh b2 29 [.int .i64 a1.1, .slice A1 a1.2.1.length c_1, .slice A2 a1.2.2.1.length c_2, .slice A3 a1.2.2.2.1.length c_3, .slice A4 a1.2.2.2.2.length c_4]] [rdC 70 (.int .u32) a1.2.1 (.slice A1 a1.2.1.length c_1), rdC 9 .str a1.2.2.1 (.slice A2 a1.2.2.1.length c_2), rdC 49 (.pair .str (.pair .bool .str)) a1.2.2.2.1 (.slice A3 a1.2.2.2.1.length c_3), rdC 51 (.pair .str .str) a1.2.2.2.2 (.slice A4 a1.2.2.2.2.length c_4)] w) ?_ ?_
      ·refine J.heldSt mix h54 ?_
       have h56 := h54.drew
       refine HJ.run Za rfl [0, 1, 4, 6, 10, 12] rfl (HJ.q (i := 3) rfl rfl rfl rfl rfl rfl (Zc Za 0 (fun w e => e) rfl rfl rfl rfl rfl) ?_)
       refine HJ.q (i := 5) rfl rfl rfl rfl rfl rfl (Zc Za 1 (fun w e => e) rfl rfl rfl rfl rfl) ?_
       refine HJ.q (i := 7) rfl rfl rfl rfl rfl rfl (Zk Za rfl rfl rfl rfl rfl e5 p19 p20) (HJ.run Za rfl [8] rfl (HJ.q (i := 9) rfl rfl rfl rfl rfl rfl (Ze (f := 0) Za rfl (fun w e => e) (Gives.self 4 rfl) p19 p20 rfl rfl rfl rfl rfl) ?_))
       refine HJ.q (i := 11) rfl rfl rfl rfl rfl rfl (Zc Za 1 (fun w e => e) rfl rfl rfl rfl rfl) ?_
       refine HJ.q (i := 13) rfl rfl rfl rfl rfl rfl (Zk Za rfl rfl rfl rfl rfl e5 p19 p20) (HJ.run Za rfl [14] rfl (HJ.q (i := 15) rfl rfl rfl rfl rfl rfl (Ze (f := 2) Za rfl (fun w e => e) (Gives.self 4 rfl) p19 p20 rfl rfl rfl rfl rfl) ?_))
       refine HJ.pick [2, 16] (i := 2) rfl rfl rfl rfl ((Zs ?_ (Zs ?_ Z4)))
       ·refine HS.op (i := 2) rfl rfl rfl (OpT.ofq (Zu rfl rfl rfl p21)) ?_; rintro _ _ ⟨rfl, rfl⟩; replace h56 : St w0 F0 [_, _] _ _ := h56; refine ⟨⟨[], h56⟩, ?_⟩
        refine HJ.op (i := 16) rfl rfl rfl rfl rfl (Zd [] (Q97.spec q14) rfl rfl rfl h56 rfl Zm) ?_
        rintro _ w48 ⟨_, ⟨rfl, rfl⟩, h57⟩
        replace h57 : St w0 F0 [_, _] _ _ := h57
        refine ⟨⟨[], h57⟩, ?_⟩
        refine HJ.q (i := 17) rfl rfl rfl rfl rfl rfl (Zu rfl rfl rfl p22) (HJ.run Za rfl [18] rfl (HJ.fin [(2, .pointer (some ⟨b1, 0, none⟩)), (3, .pointer (some ⟨b2, 0, none⟩)), (5, .string ⟨⟨((x7 ++ ([2] : List UInt8)) ++ r14)⟩⟩), (9, .int .i64 x8)] rfl rfl ?_))
        exact Zq ⟨rfl, ((h57.only [0, 0] rfl).rds [0, 1, 2, 3] rfl)⟩
       ·refine HS.op (i := 16) rfl rfl rfl (Zd [] (Q97.spec q14) rfl rfl rfl h56 rfl Zm) ?_
        rintro _ w49 ⟨_, ⟨rfl, rfl⟩, h58⟩
        replace h58 : St w0 F0 [_, _] _ _ := h58
        refine ⟨⟨[], h58⟩, ?_⟩
        refine HJ.q (i := 2) rfl rfl rfl rfl rfl rfl (Zu rfl rfl rfl p21) (HJ.q (i := 17) rfl rfl rfl rfl rfl rfl (Zu rfl rfl rfl p22) (HJ.run Za rfl [18] rfl (HJ.fin [(2, .pointer (some ⟨b1, 0, none⟩)), (3, .pointer (some ⟨b2, 0, none⟩)), (5, .string ⟨⟨((x7 ++ ([2] : List UInt8)) ++ r14)⟩⟩), (9, .int .i64 x8)] rfl rfl ?_)))
        exact Zq ⟨rfl, ((h58.only [0, 0] rfl).rds [0, 1, 2, 3] rfl)⟩
      rintro env w50 ⟨rfl, h59⟩
      refine J.region (RJ.run Za 3 rfl (RJ.fin [(2, _), (3, _), (5, .string ⟨⟨((x7 ++ ([2] : List UInt8)) ++ r14)⟩⟩), (9, .int .i64 (w64 (x8 + 1)))] rfl ?_))
      have h60 := ((h59.only [0, 0] rfl).rds [0, 1, 2, 3] rfl)
      exact ⟨k4, by omega, ((x7 ++ ([2] : List UInt8)) ++ r14), (w64 (x8 + 1)), rfl, h60, H⟩
     replace H := Zg c6 H
     refine J.skip ?_
     obtain ⟨p23, H⟩ := Zo H
     obtain ⟨r15, q15, H⟩ := Zj H
     obtain ⟨p24, H⟩ := Zo H
     refine J.mid (fun env w => env = [(2, .pointer (some ⟨b1, 0, none⟩)), (3, .pointer (some ⟨b2, 0, none⟩)), (5, .string ⟨⟨((x7 ++ ([1] : List UInt8)) ++ r15)⟩⟩), (9, .int .i64 x8)] ∧ St w0 F0 [Zh b1 23 [.int .i64 a0.1, .int .i64 a0.2.1, .int .i64 a0.2.2.1, .int .i64 a0.2.2.2.1, .int .i64 a0.2.2.2.2.1, .int .i64 a0.2.2.2.2.2.1, .int .i64 a0.2.2.2.2.2.2.1, .int .i64 a0.2.2.2.2.2.2.2], Zh b2 29 [.int .i64 a1.1, .slice A1 a1.2.1.length c_1, .slice A2 a1.2.2.1.length c_2, .slice A3 a1.2.2.2.1.length c_3, .slice A4 a1.2.2.2.2.length c_4]] [rdC 70 (.int .u32) a1.2.1 (.slice A1 a1.2.1.length c_1), rdC 9 .str a1.2.2.1 (.slice A2 a1.2.2.1.length c_2), rdC 49 (.pair .str (.pair .bool .str)) a1.2.2.2.1 (.slice A3 a1.2.2.2.1.length c_3), rdC 51 (.pair .str .str) a1.2.2.2.2 (.slice A4 a1.2.2.2.2.length c_4)] w) ?_ ?_
     ·refine J.heldSt mix h54 ?_
      have h62 := h54.drew
      refine HJ.run Za rfl [0, 1, 4, 6, 10, 12] rfl (HJ.q (i := 3) rfl rfl rfl rfl rfl rfl (Zc Za 0 (fun w e => e) rfl rfl rfl rfl rfl) ?_)
      refine HJ.q (i := 5) rfl rfl rfl rfl rfl rfl (Zc Za 1 (fun w e => e) rfl rfl rfl rfl rfl) ?_
      refine HJ.q (i := 7) rfl rfl rfl rfl rfl rfl (Zk Za rfl rfl rfl rfl rfl e5 p19 p20) (HJ.run Za rfl [8] rfl (HJ.q (i := 9) rfl rfl rfl rfl rfl rfl (Ze (f := 0) Za rfl (fun w e => e) (Gives.self 4 rfl) p19 p20 rfl rfl rfl rfl rfl) ?_))
      refine HJ.q (i := 11) rfl rfl rfl rfl rfl rfl (Zc Za 1 (fun w e => e) rfl rfl rfl rfl rfl) ?_
      refine HJ.q (i := 13) rfl rfl rfl rfl rfl rfl (Zk Za rfl rfl rfl rfl rfl e5 p19 p20) (HJ.run Za rfl [14] rfl (HJ.q (i := 15) rfl rfl rfl rfl rfl rfl (Ze (f := 2) Za rfl (fun w e => e) (Gives.self 4 rfl) p19 p20 rfl rfl rfl rfl rfl) ?_))
      refine HJ.pick [2, 16] (i := 2) rfl rfl rfl rfl ((Zs ?_ (Zs ?_ Z4)))
      ·refine HS.op (i := 2) rfl rfl rfl (OpT.ofq (Zu rfl rfl rfl p23)) ?_; rintro _ _ ⟨rfl, rfl⟩; replace h62 : St w0 F0 [_, _] _ _ := h62; refine ⟨⟨[], h62⟩, ?_⟩
       refine HJ.op (i := 16) rfl rfl rfl rfl rfl (Zd [] (Q97.spec q15) rfl rfl rfl h62 rfl Zm) ?_
       rintro _ w52 ⟨_, ⟨rfl, rfl⟩, h63⟩
       replace h63 : St w0 F0 [_, _] _ _ := h63
       refine ⟨⟨[], h63⟩, ?_⟩
       refine HJ.q (i := 17) rfl rfl rfl rfl rfl rfl (Zu rfl rfl rfl p24) (HJ.run Za rfl [18] rfl (HJ.fin [(2, .pointer (some ⟨b1, 0, none⟩)), (3, .pointer (some ⟨b2, 0, none⟩)), (5, .string ⟨⟨((x7 ++ ([1] : List UInt8)) ++ r15)⟩⟩), (9, .int .i64 x8)] rfl rfl ?_))
       exact Zq ⟨rfl, ((h63.only [0, 0] rfl).rds [0, 1, 2, 3] rfl)⟩
      ·refine HS.op (i := 16) rfl rfl rfl (Zd [] (Q97.spec q15) rfl rfl rfl h62 rfl Zm) ?_
       rintro _ w53 ⟨_, ⟨rfl, rfl⟩, h64⟩
       replace h64 : St w0 F0 [_, _] _ _ := h64
       refine ⟨⟨[], h64⟩, ?_⟩
       refine HJ.q (i := 2) rfl rfl rfl rfl rfl rfl (Zu rfl rfl rfl p23) (HJ.q (i := 17) rfl rfl rfl rfl rfl rfl (Zu rfl rfl rfl p24) (HJ.run Za rfl [18] rfl (HJ.fin [(2, .pointer (some ⟨b1, 0, none⟩)), (3, .pointer (some ⟨b2, 0, none⟩)), (5, .string ⟨⟨((x7 ++ ([1] : List UInt8)) ++ r15)⟩⟩), (9, .int .i64 x8)] rfl rfl ?_)))
       exact Zq ⟨rfl, ((h64.only [0, 0] rfl).rds [0, 1, 2, 3] rfl)⟩
     rintro env w54 ⟨rfl, h65⟩
     refine J.region (RJ.run Za 3 rfl (RJ.fin [(2, _), (3, _), (5, .string ⟨⟨((x7 ++ ([1] : List UInt8)) ++ r15)⟩⟩), (9, .int .i64 (w64 (x8 + 1)))] rfl ?_))
     have h66 := ((h65.only [0, 0] rfl).rds [0, 1, 2, 3] rfl)
     exact ⟨k4, by omega, ((x7 ++ ([1] : List UInt8)) ++ r15), (w64 (x8 + 1)), rfl, h66, H⟩
    replace H := Zg c5 H
    refine J.exit (J.seq (J.region ?_))
    refine RJ.run Za 2 rfl (RJ.q rfl rfl (Zc Za 0 h54.wht rfl rfl rfl rfl rfl) ?_)
    obtain ⟨r16, q16, H⟩ := Zj H
    refine RJ.op rfl rfl (Zd [] (Q98.spec q16) rfl rfl rfl h54 rfl Zm) ?_
    rintro _ w55 ⟨_, ⟨rfl, rfl⟩, h67⟩
    replace h67 : St w0 F0 [_, _] _ _ := h67
    refine RJ.run Za 1 rfl (RJ.fin [(4, .string ⟨⟨r16⟩⟩)] rfl ?_)
    have h68 := h67.only [] rfl
    replace h68 : St w0 F0 [] _ _ := h68
    refine J.ret ?_
    obtain rfl := Option.some.inj H
    exact ⟨_, _, _, (Zb rfl), ⟨rfl, rfl⟩, h68.only [] rfl⟩

end Go.SK.T
