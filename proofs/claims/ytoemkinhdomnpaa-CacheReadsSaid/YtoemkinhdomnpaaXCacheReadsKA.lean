/- Part of the library of this claim: how code is stepped through. -/
import Derived.Test.YtoemkinhdomnpaaXCacheReadsKz
set_option linter.unusedVariables false
set_option linter.unusedSimpArgs false
namespace Go.SK
open Go Go.RowKit

class TTI (P : Program) (tt : outParam TT) : Prop where
 ok : Yi P tt
 mix : P.follows .mixedOrders = true
def nfK {α R : Type} : List α → (List α → Option R) → Option R
 | [], k => k []
 | c :: l, k => nfK l fun t => k (c :: t)
theorem Uf {α R : Type} : ∀ (l : List α) (k : List α → Option R), nfK l k = k l
 | [], _ => rfl
 | c :: l, k => Uf l fun t => k (c :: t)
def nfV {R : Type} (v : Value) (k : Value → Option R) : Option R := match v with
 | .agg a => nfK a.toList fun l => k (.agg l.toArray)
 | v => k v
theorem Zgg {R : Type} (v : Value) (k : Value → Option R) : nfV v k = k v := by
 unfold nfV
 split
 ·rw [Uf]
 ·rfl
def J4 {R : Type} : List Nat → Env → (Env → Option R) → Option R
 | [], _, k => k []
 | t :: ts, env, k => match Y9 env t with
  | some v => nfV v fun v' => J4 ts env fun e => k ((t, v') :: e)
  | none => none
theorem Un {R : Type} {r : R} : ∀ {ts : List Nat} {env : Env} {k : Env → Option R}, J4 ts env k = some r → k (keep ts env) = some r
 | [], _, _, h => h
 | t :: ts, env, k, h => by
  unfold J4 at h
  unfold keep
  split at h
  ·rename_i v hv
   rw [Zgg] at h
   rw [hv]
   exact Un h
  ·cases h
def Js (tt : TT) (n : Nat) (ops : List Oper) (ts : List Nat) : List Oper → Env → Option Env
 | [], env => J4 ts env some
 | o :: l, env => match Yq ops env o with
  | some true => match pv tt env o with
   | some v => match o.dst with
    | some t => cond (Nat.ble (t + 1) n) (Js tt n ops ts l ((t, v) :: env)) none
    | none => Js tt n ops ts l env
   | none => none
  | some false => match o.dst with
   | some t => cond (Nat.ble (t + 1) n) (Js tt n ops ts l ((t, undef) :: env)) none
   | none => Js tt n ops ts l env
  | none => none
theorem B6 {env : Env} {t : Nat} {v : Value} (h : Y9 env t = some v) (ts : List Nat) : keep (t :: ts) env = (t, v) :: keep ts env := by simp only [keep, h]
theorem Zdp {env : Env} {t : Nat} (h : Y9 env t = none) (ts : List Nat) : keep (t :: ts) env = keep ts env := by simp only [keep, h]
theorem V0 (env : Env) : ∀ ts : List Nat, keep ((keep ts env).map (·.1)) env = keep ts env
 | [] => rfl
 | t :: ts => by
  cases h : Y9 env t with
  | none => rw [Zdp h]; exact V0 env ts
  | some v =>
   rw [B6 h, List.map_cons]
   show keep (t :: (keep ts env).map (·.1)) env = _
   rw [B6 h, V0 env ts]
section
variable {P : Program} {tt : TT} {n : Nat} {env : Env} {w w0 : World} {F0 : Ft} {Hs Rs : List Ch} {ops : List Oper} {K : Env → World → Prop} {o : Oper} {l : List Oper} {PQ : Yw} {S : World → Prop} {done : List Nat}
theorem nf (h : St w0 F0 Hs Rs w) {Hs' : List Ch} (e : nfK Hs some = some Hs' := by exact rfl) : St w0 F0 Hs' Rs w := by
 rw [Uf] at e
 injection e with e
 exact e ▸ h
theorem Zn [i : TTI P tt] : ∀ {l : List Oper} (ts : List Nat) {env E : Env}, Js tt n ops ts l env = some E → K E w → RJ P n ops l K env w
 | [], ts, env, E, h, hk => by
  have := Un h
  injection this with this
  subst this
  exact RJ.keep ts (RJ.done hk)
 | o :: l, ts, env, E, h, hk => by
  unfold Js at h
  split at h
  ·rename_i hw
   split at h
   ·rename_i v hv
    split at h
    ·rename_i t hd
     cases hb : Nat.ble (t + 1) n with
     | false => rw [hb] at h; cases h
     | true =>
      rw [hb] at h
      refine RJ.q hw (by rw [hd]; exact hb) (QOp.of_pv i.ok hv _) ?_
      rw [hd]
      exact Zn ts h hk
    ·rename_i hd
     refine RJ.q hw (by rw [hd]; rfl) (QOp.of_pv i.ok hv _) ?_
     rw [hd]
     exact Zn ts h hk
   ·cases h
  ·rename_i hw
   split at h
   ·rename_i t hd
    cases hb : Nat.ble (t + 1) n with
    | false => rw [hb] at h; cases h
    | true =>
     rw [hb] at h
     refine RJ.off hw (by rw [hd]; exact hb) ?_
     rw [hd]
     exact Zn ts h hk
   ·rename_i hd
    refine RJ.off hw (by rw [hd]; rfl) ?_
    rw [hd]
    exact Zn ts h hk
  ·cases h
theorem Zhl [i : TTI P tt] {id : Nat} (ts : List Nat) {E : Env} (h : Js tt n ops ts ops env = some E) (hk : PQ .normal E w) : J P n (.region id ops.toArray false) PQ env w := J.region (Zn ts h hk)
theorem Zy (ts : List Nat) {E : Env} (hk : K E w) (hr : (J9 ops && Vu done 0 ops) = true := by exact rfl) (h : J4 ts env some = some E := by exact rfl) : HJ P n ops S K done env w := by
 have := Un h
 injection this with this
 subst this
 refine HJ.fin (keep ts env) hr ?_ hk
 exact V0 env ts
theorem Y3 (t : Nat) {b : Bool} {α : Type} {x y r : α} (H : (if b = true then x else y) = r) (ht : b = true → x = r → RJ P n ops l K ((t, .bool true) :: env) w) (hn : b = false → y = r → RJ P n ops l K ((t, .bool false) :: env) w) (hl : Y9 env t = some (.bool b) := by exact rfl) : RJ P n ops l K env w := by
 cases b with
 | true => exact RJ.know hl rfl (ht rfl (by simpa using H))
 | false => exact RJ.know hl rfl (hn rfl (by simpa using H))
theorem Xz (t : Nat) {b : Bool} {α : Type} {x y r : α} (H : (if b = true then x else y) = r) (ht : b = true → x = r → HJ P n ops S K done ((t, .bool true) :: env) w) (hn : b = false → y = r → HJ P n ops S K done ((t, .bool false) :: env) w) (hl : Y9 env t = some (.bool b) := by exact rfl) : HJ P n ops S K done env w := by
 cases b with
 | true => exact HJ.know hl rfl (ht rfl (by simpa using H))
 | false => exact HJ.know hl rfl (hn rfl (by simpa using H))
theorem jIf {c : Operand} {u v : Code} {b : Bool} {α : Type} {x y r : α} (H : (if b = true then x else y) = r) (ht : b = true → x = r → J P n u PQ env w) (hn : b = false → y = r → J P n v PQ env w) (hc : Zu env c = some (.bool b) := by exact rfl) : J P n (.cond c u v) PQ env w :=
 J.cond hc (fun e => ht e (by subst e; simpa using H)) (fun e => hn e (by subst e; simpa using H))
theorem Wn {c : Code} (ts : List Nat) {E : Env} (hj : J P n c PQ E w) (h : J4 ts env some = some E := by exact rfl) : J P n c PQ env w := by
 have := Un h
 injection this with this
 subst this
 exact J.narrow (keep ts env) (V0 env ts) hj
theorem sOR (h : St w0 F0 Hs Rs w) (ks js : List Nat) {ps rest cs : List Ch} (hp : pick ks Hs = some (ps, rest) := by exact rfl) (hc : sel js Rs = some cs := by exact rfl) : St w0 F0 ps cs w := (h.only ks hp).rds js hc
theorem gO {E : Nat} {t : Ty} {xs : List t.D} {v : Value} {l : List Ch} (k : Nat) (h : nth l k = some (Yh E t xs v) := by exact rfl) : Gives l (rdC E t xs v) := Gives.of k h Ui
theorem Ws (hS : St w0 F0 Hs Rs w) {t : Nat} {x : Operand} {v : Value} {cs : List Value} (ho : o.op = .box t x := by exact rfl) (hx : Zu env x = some v := by exact rfl) (hc : nfK v.cells.toList some = some cs := by exact rfl) :
  OpT P o env w (fun v' w' => ∃ b, v' = .pointer (some ⟨b, 0, none⟩) ∧ St w0 F0 (Yr b t cs :: Hs) Rs w') := by
 rw [Uf] at hc
 injection hc with hc
 subst hc
 exact Zd7 ho hx hS
theorem Ug [q : TTI P tt] (hS : St w0 F0 Hs Rs w) {t : Nat} {i : TI} {cs : List Value} (ho : o.op = .alloc t := by exact rfl) (hi : find tt t = some i := by exact rfl) (hc : nfK i.zero.cells.toList some = some cs := by exact rfl) :
  OpT P o env w (fun v' w' => ∃ b, v' = .pointer (some ⟨b, 0, none⟩) ∧ St w0 F0 (Yr b t cs :: Hs) Rs w') := by
 rw [Uf] at hc
 injection hc with hc
 subst hc
 exact Zer q.ok ho hi hS
theorem Yj [q : TTI P tt] {t : Nat} {x y : Operand} {i : TI} {b off tb : Nat} {cs cs' : List Value} {v : Value} (k : Nat) (hS : St w0 F0 Hs Rs w) (ho : o.op = .store t x y := by exact rfl) (hk : nth Hs k = some (Yr b tb cs) := by exact rfl)
  (hi : find tt t = some i := by exact rfl) (ha : Zu env x = some (.pointer (some ⟨b, off, none⟩)) := by exact rfl) (hv : Zu env y = some v := by exact rfl) (hsz : Nat.beq v.cells.toList.length i.size = true := by exact rfl) (hle : Nat.ble (off + i.size) cs.length = true := by exact rfl) (h1 : v.cells.toList.all (fun u => u.oneCell') = true := by exact rfl)
  (hc : nfK (Z9 off v.cells.toList cs) some = some cs' := by exact rfl) : OpT P o env w (fun _ w' => St w0 F0 (Yr b tb cs' :: Hs.eraseIdx k) Rs w') := by
 rw [Uf] at hc
 injection hc with hc
 subst hc
 exact Ze2 q.ok k ho hS hk hi ha hv hsz hle h1
theorem Zm [q : TTI P tt] (k : Nat) {l' : List Oper} {env' : Env} (hr : RJ P n ops l' K env' w) (h : Jl tt n ops k l env = some (l', env') := by exact rfl) : RJ P n ops l K env w := RJ.run q.ok k h hr
theorem Zv [q : TTI P tt] (is : List Nat) {done' : List Nat} {env' : Env} (hr : HJ P n ops S K done' env' w) (hs : X4 ops = true := by exact rfl) (h : SK.runH tt n ops is done env = some (done', env') := by exact rfl) : HJ P n ops S K done env w := HJ.run q.ok hs is h hr
theorem wI {S : World → Prop} : ∀ w, S w → S w := fun _ h => h
theorem ttC {t : Nat} {i : TI} (hk : i.kind.ok P t) (ht : Yi P tt) (hi : (P.info? t).map (fun j => (j.size, j.bytes, j.zero)) = some (i.size, i.bytes, some i.zero) := by kernel_rfl) : Yi P ((t, i) :: tt) := B5 ⟨hi, hk⟩ ht
theorem ttS {t a b : Nat} {z : Value} {fs : List (Nat × Nat × Nat)} {fields : List Field} (hu : P.underlying t = some (.struct fields.toArray)) (ht : Yi P tt) (h1 : fields.map (fun f => (f.type, f.offset, P.cellsOf f.type)) = fs := by kernel_rfl) (h2 : (fs.all fun f => (P.info? f.1).isSome) = true := by kernel_rfl) (h3 : (fs.all fun f => !Nat.beq f.2.2 0) = true := by kernel_rfl) (h4 : P.stoodInHeld t = false := by kernel_rfl) (h5 : P.eqGuardType P.depth t = false := by kernel_rfl) (h6 : (fields.all fun f => f.name != "_") = true := by kernel_rfl)
  (hi : (P.info? t).map (fun j => (j.size, j.bytes, j.zero)) = some (a, b, some z) := by kernel_rfl) : Yi P ((t, ⟨.struct fs, a, b, z⟩) :: tt) := B5 ⟨hi, ⟨fields, hu, h1, h2, h3, h4, h5, h6⟩⟩ ht
theorem z0 {α : Type} {r : α} {p : Prop} (h : (none : Option α) = some r) : p := by cases h
theorem Zex [q : TTI P tt] {t : Nat} {i : TI} (ty : Ty) (N : Nat) (xs : List ty.D) (hS : St w0 F0 Hs Rs w) (ho : o.op = .alloc t := by exact rfl) (hi : find tt t = some i := by exact rfl) (hsc : ty.scal = true := by exact rfl) (hx : xs.length = N := by exact rfl) (hz : i.zero.cells.toList = xs.flatMap ty.enc := by exact rfl) (hN : Nat.ble N 65536 = true := by exact rfl) :
  OpT P o env w (fun v' w' => ∃ b, v' = .pointer (some ⟨b, 0, none⟩) ∧ St w0 F0 (Yh t ty xs (.slice (some ⟨b, 0, none⟩) xs.length N) :: Hs) Rs w') :=
 OpT.value fun n a hf => ⟨_, w.alloc (.cells i.zero.cells t), by simp [execOp, ho, Instr.alloc, Xl w (q.ok _ _ hi), newVar, newRow], w.heap.size, rfl, by
  have hz' : i.zero.cells = (xs.flatMap ty.enc).toArray := by rw [← hz]
  rw [hz', hx]
  have hm : N ≤ maxLen := Nat.le_trans (Nat.le_of_ble_eq_true hN) (by decide)
  refine hS.add (Chg.alloc w _ _) (Zco (F' := fun _ => False) w (Elems.scal hsc _ _ xs) hx hm (fun b hb => hb.elim)) (fun b hb => ?_)
  rcases hb with hb | hb
  ·exact hb.elim
  ·simp [hb]⟩
theorem X1 [q : TTI P tt] {t e N E : Nat} {x ix : Operand} {ty : Ty} {xs : List ty.D} {A : Option Addr} {m : Nat} {i : Int} {ki : IntKind} {ie : TI} (hS : ∀ w, S w → Wh w0 F0 Hs Rs w) (hg : Gives (Hs ++ Rs) (rdC E ty xs (.slice A m N))) (hA : A = some ⟨blk A, ofs A, none⟩) (hu : P.underlying t = some (.array N e)) (h1 : i < xs.length) (h0 : 0 ≤ i := by decide) (ho : o.op = .indexAddr t x ix := by exact rfl) (he : find tt e = some ie := by exact rfl)
  (hv : Zu env x = some (.pointer A) := by exact rfl) (hx : Zu env ix = some (.int ki i) := by exact rfl) : QOp P o env S (.pointer (some ⟨blk A, ofs A + i.toNat * ie.size, none⟩)) := by
 intro nn a w hf hw
 obtain ⟨F, hF, _⟩ := (hS w hw).gives hg
 obtain ⟨A', c', e', hle⟩ := Zel hF
 injection e' with _ _ e3
 subst e3
 have h2 : i < (N : Int) := by omega
 have hsz := Y2 w (q.ok _ _ he)
 have hv' := hf.eval hv
 rw [hA] at hv'
 have hadd := Wa (blk A) (ofs A)
 clear hA hv
 simp [execOp, ho, hv', hf.eval hx, Instr.indexAt, Instr.sureAddr, asIntOf, Zx w hu, h0, h2, hsz, hadd]
end
end Go.SK
