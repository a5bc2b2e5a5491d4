/- Part of the library of this claim: how code is stepped through. -/
import Derived.Test.YtoohimccifdbeaaKu
import Derived.FollowTie
import Derived.ChangeKeysEq
set_option linter.unusedVariables false
set_option linter.unusedSimpArgs false
namespace Go.SK
open Go

/-! ## methods behind an interface whose type is known -/
/-- a method's row, if it is the type's own -/
def mrow (P : Program) (t : TypeId) (name : String) : Option (FuncId × Bool) :=
  match P.info? t with
  | none => none
  | some i => match i.methods.find? (·.name == name) with
    | none => none
    | some m => match m.path.toList, m.func with
      | [], some x => some x
      | _, _ => none
theorem mrow_spec {P : Program} {t : TypeId} {name : String} {x : FuncId × Bool} (h : mrow P t name = some x) : ∃ i m, P.info? t = some i ∧ i.methods.find? (·.name == name) = some m ∧ m.path.toList = [] ∧ m.func = some x := by
  unfold mrow at h
  split at h
  · cases h
  · rename_i i hi
    split at h
    · cases h
    · rename_i m hm
      split at h
      · rename_i y hp hf
        cases h
        exact ⟨i, m, hi, hm, hp, hf⟩
      · cases h
theorem depth_succ (P : Program) : ∃ k, P.types.size + Made.depth = k + 1 := ⟨P.types.size + Made.depth - 1, by have : 0 < Made.depth := by decide
                                                                                                                omega⟩
theorem meth_ptr0 {P : Program} {t e : TypeId} {name : String} {f : FuncId} (hm : mrow P t name = some (f, true)) (hu : P.underlying t = some (.pointer e)) (v : Value) (w : World) (k : Nat) : (method (k + 1) t v name).run P w = .ok (f, v) w := by
  obtain ⟨i, m, h1, h2, h3, h4⟩ := mrow_spec hm
  simp [method, typeInfo, h1, h2, h3, h4, follow, receiverAt, run_und w hu, Place.get]
theorem meth_val0 {P : Program} {t e : TypeId} {name : String} {f : FuncId} (hm : mrow P t name = some (f, false)) (hu : P.underlying t = some (.pointer e)) {a : Addr} {v : Value} {w : World} (hl : (loadVar e a).run P w = .ok v w) (k : Nat) : (method (k + 1) t (.pointer (some a)) name).run P w = .ok (f, v) w := by
  obtain ⟨i, m, h1, h2, h3, h4⟩ := mrow_spec hm
  have hp : m.path = #[] := by simpa using h3
  have hc : ∀ (ats : Array TypeId) (ty : TypeId) (s r : String), (Builtin.ssaWrapNilChk_ ats ty #[.pointer (some a), strVal s, strVal r]).run P w = .ok (.pointer (some a)) w := fun _ _ _ _ => rfl
  simp [method, typeInfo, h1, h2, h3, h4, hp, follow, receiverAt, run_und w hu, Place.get, hc, asAddr, hl]
theorem meth_ptr {P : Program} {t e : TypeId} {name : String} {f : FuncId} (hm : mrow P t name = some (f, true)) (hu : P.underlying t = some (.pointer e)) (v : Value) (w : World) : (method (P.types.size + Made.depth) t v name).run P w = .ok (f, v) w := by
  obtain ⟨k, hk⟩ := depth_succ P
  rw [hk]
  exact meth_ptr0 hm hu v w k
theorem meth_val {P : Program} {t e : TypeId} {name : String} {f : FuncId} (hm : mrow P t name = some (f, false)) (hu : P.underlying t = some (.pointer e)) {a : Addr} {v : Value} {w : World} (hl : (loadVar e a).run P w = .ok v w) : (method (P.types.size + Made.depth) t (.pointer (some a)) name).run P w = .ok (f, v) w := by
  obtain ⟨k, hk⟩ := depth_succ P
  rw [hk]
  exact meth_val0 hm hu hl k
theorem loadVar_box {P : Program} {tt : TT} (hT : TTok P tt) {w0 w : World} {F0 : Ft} {Hs Rs : List Ch} {t b tb : Nat} {i : TI} {cs : List Value} {v : Value} (k : Nat) (hS : St w0 F0 Hs Rs w) (hk : nth Hs k = some (boxC b tb cs))
    (hi : find tt t = some i) (hp : packK i ((cs.drop 0).take i.size) = some v) : (loadVar t ⟨b, 0, none⟩).run P w = .ok v w := by
  have h1 := q_load_box (P := P) (tt := tt) (env := [(0, .pointer (some ⟨b, 0, none⟩))]) (S := fun w' => w' = w) (o := { dst := none, op := .load t (.tmp 0), type := 0, pos := "", after := #[], guard := none }) hT k (fun w' e => by subst e; exact hS.wh) hk rfl hi rfl hp 1
    { tmps := #[.pointer (some ⟨b, 0, none⟩)], defers := [] } w ⟨rfl, rfl, fun t v h => by
      simp only [look] at h
      cases hb : Nat.beq 0 t with
      | true => rw [hb] at h; have := Nat.eq_of_beq_eq_true hb; subst this; simpa using h
      | false => rw [hb] at h; cases h⟩ rfl
  have h3 : ({ tmps := #[.pointer (some ⟨b, 0, none⟩)], defers := [] } : Act).eval (.tmp 0) = .pointer (some ⟨b, 0, none⟩) := rfl
  simp only [execOp, Instr.loadAt, h3, Instr.sureAddr, Sem.run_bind, Sem.run_pure, Result.andThen_ok] at h1
  cases hl : (loadVar t ⟨b, 0, none⟩).run P w with
  | ok u w' => rw [hl] at h1; simp at h1; obtain ⟨rfl, rfl⟩ := h1; rfl
  | halt x w' => rw [hl] at h1; cases h1
section
variable {P : Program} {tt : TT} {env : Env} {o : Oper} {w0 w : World} {F0 : Ft} {Hs Rs : List Ch}
theorem op_callC {f : Nat} {xs : Array Operand} {ts : Array TypeId} {fx : Operand} {vs cs : List Value} {pre rd rest : List Ch} {Post : Value → List Ch → Prop} (ks : List Nat) (hsp : Spec P f (vs ++ cs) pre rd Post)
    (ho : o.op = .call { callee := .value fx, args := xs, argTypes := ts }) (hfx : evalO env fx = some (.func (.func f) #[] cs.toArray)) (hv : evalsO env xs.toList = some vs) (hS : St w0 F0 Hs Rs w) (hp : pick ks Hs = some (pre, rest))
    (hr : ∀ c ∈ rd, Gives (rest ++ Rs) c) : OpT P o env w (fun v w' => ∃ post, Post v post ∧ St w0 F0 (post ++ rest) Rs w') := by
  intro n a next Q hf hk
  obtain ⟨F, hF, hlt, hg, hs⟩ := hS.step hp
  have hm : xs.map a.eval = vs.toArray := evalsO_map hf hv
  have hcall := hsp.2 w F hF hlt (fun c hc => hg c (hr c hc))
  have hrun : (execOp a.eval o).run P w = .ok (.enter f (vs ++ cs).toArray) w := by
    have := run_callFunc hsp.1 (vs ++ cs).toArray w
    have e : vs.toArray ++ cs.toArray = (vs ++ cs).toArray := by simp
    rw [← e] at this ⊢
    simp only [execOp, ho, resolve, hf.eval hfx, Deferred.ofValue, invoke, hm, Sem.run_bind, Sem.run_pure, Result.andThen_ok]
    simpa using this
  unfold Oper.wp
  rw [hrun]
  refine hcall.mono ?_
  rintro e w' ⟨v, post, F', rfl, hP, hchg, hpost, hF'⟩
  exact hk v w' ⟨post, hP, hs w' post F' hchg hpost hF'⟩
theorem op_invoke {f t : Nat} {m : String} {v rv : Value} {xs : Array Operand} {ts : Array TypeId} {fx : Operand} {vs : List Value} {pre rd rest : List Ch} {Post : Value → List Ch → Prop} (ks : List Nat) (hsp : Spec P f (rv :: vs) pre rd Post)
    (ho : o.op = .call { callee := .invoke fx m, args := xs, argTypes := ts }) (hfx : evalO env fx = some (.iface t v)) (hm : (method (P.types.size + Made.depth) t v m).run P w = .ok (f, rv) w) (hv : evalsO env xs.toList = some vs) (hS : St w0 F0 Hs Rs w) (hp : pick ks Hs = some (pre, rest))
    (hr : ∀ c ∈ rd, Gives (rest ++ Rs) c) : OpT P o env w (fun v w' => ∃ post, Post v post ∧ St w0 F0 (post ++ rest) Rs w') := by
  intro n a next Q hf hk
  obtain ⟨F, hF, hlt, hg, hs⟩ := hS.step hp
  have hx : xs.map a.eval = vs.toArray := evalsO_map hf hv
  have hcall := hsp.2 w F hF hlt (fun c hc => hg c (hr c hc))
  have hrun : (execOp a.eval o).run P w = .ok (.enter f (rv :: vs).toArray) w := by
    have h2 := run_callFunc hsp.1 (rv :: vs).toArray w
    have h3 : (callMethod (.iface t v) m vs.toArray).run P w = .ok (.enter f (rv :: vs).toArray) w := by
      rcases callMethod_tie P w t v m vs.toArray with ⟨f', r', w', e1, e2⟩ | ⟨h, w', e1, _⟩
      · rw [hm] at e1
        cases e1
        rw [e2, show #[rv] ++ vs.toArray = (rv :: vs).toArray by simp]
        exact h2
      · rw [hm] at e1; cases e1
    have h4 : (#[Value.iface t v] ++ vs.toArray).extract 1 (#[Value.iface t v] ++ vs.toArray).size = vs.toArray := by simp
    simp only [execOp, ho, resolve, hf.eval hfx, Sem.run_bind, Sem.run_pure, Result.andThen_ok, invoke, hx, h4]
    simpa using h3
  unfold Oper.wp
  rw [hrun]
  refine hcall.mono ?_
  rintro e w' ⟨v, post, F', rfl, hP, hchg, hpost, hF'⟩
  exact hk v w' ⟨post, hP, hs w' post F' hchg hpost hF'⟩
end
def conc : TK → Bool
  | .iface => false
  | .other => false
  | _ => true
theorem q_assert {P : Program} {tt : TT} (hT : TTok P tt) {i : TI} {env : Env} {o : Oper} {S : World → Prop} {t xt : TypeId} {x : Operand} {v : Value} (ho : o.op = .typeAssert x xt t true) (hx : evalO env x = some (.iface t v)) (hi : find tt t = some i) (hc : conc i.kind = true) : QOp P o env S (.tuple #[v, .bool true]) := by
  intro n ac w hf _
  have hk := (hT _ _ hi).kind
  have : (Instr.typeAssert (.iface t v) xt t true).run P w = .ok (.tuple #[v, .bool true]) w := by
    cases hkk : i.kind with
    | iface => rw [hkk] at hc; cases hc
    | other => rw [hkk] at hc; cases hc
    | func => rw [hkk] at hk; obtain ⟨ps, rs, vv, hk⟩ := hk; simp [Instr.typeAssert, run_und w hk]
    | struct fs => rw [hkk] at hk; obtain ⟨fields, hk, _⟩ := hk; simp [Instr.typeAssert, run_und w hk]
    | int k => rw [hkk] at hk; simp only [TK.ok] at hk; simp [Instr.typeAssert, run_und w hk]
    | bool => rw [hkk] at hk; simp only [TK.ok] at hk; simp [Instr.typeAssert, run_und w hk]
    | str => rw [hkk] at hk; simp only [TK.ok] at hk; simp [Instr.typeAssert, run_und w hk]
    | slice e => rw [hkk] at hk; simp only [TK.ok] at hk; simp [Instr.typeAssert, run_und w hk]
    | ptr e => rw [hkk] at hk; simp only [TK.ok] at hk; simp [Instr.typeAssert, run_und w hk]
    | map k e => rw [hkk] at hk; simp only [TK.ok] at hk; simp [Instr.typeAssert, run_und w hk]
  simp only [execOp, ho, hf.eval hx, Sem.run_bind, this, Result.andThen_ok, Sem.run_pure]
end Go.SK
namespace Go.SK
open Go Go.RowKit
/-- clear of a part of a row of one's own -/
theorem op_clear_own {P : Program} {tt : TT} {env : Env} {o : Oper} {w0 w : World} {F0 : Ft} {Hs Rs : List Ch} (hT : TTok P tt) {d e l m c c2 : Nat} {sz : Nat} {xa : Operand} {z1 z2 : Nat} {z : Value} {ie : TI} {ty : Ty} (hsc : ty.scal = true) {xs : List ty.D} {A : Option Addr} (z0 : ty.D) (k : Nat)
    (ho : o.op = .call { callee := .builtin .clear, args := #[xa], argTypes := #[d] }) (hS : St w0 F0 Hs Rs w) (hk : nth Hs k = some (ownC e ty xs (.slice A xs.length c)))
    (hx : evalO env xa = some (.slice (cutA A c l sz) m c2)) (ht : find tt d = some ⟨.slice e, z1, z2, z⟩) (hi : find tt e = some ie) (hz : ie.zero.cells.toList = ty.enc z0) (hn : ty.n = sz) (hle : l + m ≤ xs.length) :
    OpT P o env w (fun _ w' => St w0 F0 (ownC e ty (patch xs l m (List.replicate m z0)) (.slice A (patch xs l m (List.replicate m z0)).length c) :: Hs.eraseIdx k) Rs w') := by
  have hpl := patch_length (ys := List.replicate m z0) hle
  by_cases h0 : m = 0
  · subst h0
    have hpe : patch xs l 0 (List.replicate 0 z0) = xs := by simp [patch]
    have hkk := (hT _ _ ht).kind
    simp only [TK.ok] at hkk
    obtain ⟨i0, hi0, hs0, hb0, hz0⟩ := (hT _ _ hi).info'
    refine OpT.value fun n a hf => ⟨.tuple #[], w, ?_, ?_⟩
    · have hst0 : ∀ ad : Addr, (storeCells ad ([] : List Value)).run P w = .ok () w := fun ad => by simp [storeCells]
      cases hq : cutA A c l sz with
      | none => simp [execOp, ho, resolve, invoke, builtin, hf.eval hx, hq, Builtin.clear_, run_und w hkk, zeroValue, typeInfo, hi0, hz0]
      | some ad => simp [execOp, ho, resolve, invoke, builtin, hf.eval hx, hq, Builtin.clear_, run_und w hkk, zeroValue, typeInfo, hi0, hz0, hst0]
    · rw [hpe]
      obtain ⟨F1, h1, h2, h3⟩ := hS.turn hk
      exact h3 w _ F1 (Chg.refl _ _) h1 fun b hb => ⟨.inl hb, h2 b hb⟩
  · rcases hS.openRow hsc k hk with ⟨_, e, _⟩ | ⟨b, sp, rfl, hc, hcm, hsp, h1⟩
    · subst e; simp at hle; omega
    · have hcl : ¬ c = l := by omega
      have hxa : evalO env xa = some (.slice (some ⟨b, l * sz, none⟩) m c2) := by
        rw [hx]
        simp [cutA, hcl, addr_add]
      have lX := flat_len hsc xs
      have lR : ((List.replicate m z0).flatMap ty.enc).length = m * sz := by rw [flat_len hsc, List.length_replicate, hn]
      have hmul : (l + m) * sz ≤ xs.length * sz := Nat.mul_le_mul_right _ hle
      rw [Nat.add_mul] at hmul
      rw [hn] at lX
      have hop := op_clearRaw (env := env) (o := o) hT hsc z0 0 ho h1 rfl hxa ht hi hz h0 (by rw [List.length_append, lX, hn]; omega)
      intro n a next Q hf hk'
      refine hop n a next Q hf fun v w' h2 => hk' v w' ?_
      have eP : (patch xs l m (List.replicate m z0)).flatMap ty.enc = (xs.flatMap ty.enc).take (l * sz) ++ (List.replicate m z0).flatMap ty.enc ++ (xs.flatMap ty.enc).drop ((l + m) * sz) := by
        unfold patch
        rw [List.take_of_length_le (i := m) (by simp), List.length_replicate, Nat.min_self, List.flatMap_append, List.flatMap_append, ← hn, flat_take hsc, flat_drop hsc]
      have lT : ((xs.flatMap ty.enc).take (l * sz)).length = l * sz := by rw [List.length_take]; omega
      have e1 : layAt (l * sz) ((List.replicate m z0).flatMap ty.enc) (xs.flatMap ty.enc ++ sp) = (patch xs l m (List.replicate m z0)).flatMap ty.enc ++ sp := by
        rw [eP, layAt, List.take_append_of_le_length (by omega), List.drop_append_of_le_length (by rw [lR, lX]; omega), lR, Nat.add_mul]
        simp only [List.append_assoc]
      rw [e1] at h2
      have lP : ((patch xs l m (List.replicate m z0)).flatMap ty.enc).length = xs.length * sz := by rw [flat_len hsc, hpl, hn]
      exact h2.closeRow hsc 0 rfl (by rw [hpl]; exact hc) hcm (by rw [List.length_append, lP, hsp, hn, Nat.sub_mul]; have := Nat.mul_le_mul_right sz hc; omega) (by rw [hpl, hn, ← lP, List.take_left])
end Go.SK
