/- Part of the library of this claim: how code is stepped through. -/
import Derived.Test.YtgdmpkhmedbnpaaGreatDoorXShelfFlushedKt
set_option linter.unusedVariables false
set_option linter.unusedSimpArgs false
namespace Go.SK
open Go

section
variable {P:Program} {tt:TT} {o:Oper} {env:Env}
theorem Zpg {t yt:Nat} {k:IntKind} {x y:Operand} {a b:Int} {S:World→Prop} (ho:o.op=.binOp .quo t x y yt) (hx:Zr env x=some (.int k a)) (hy:Zr env y=some (.int k b)) (hb:0<b) :
  QOp P o env S (.int k (k.wrap (a.tdiv b))):=by
 intro n ac w hf _
 have h0:¬ b=0:=by omega
 have hg:(eqGuard .quo t x y (.int k a) (.int k b)).run P w=.ok () w:=by simp [eqGuard]
 have hb:(binOp .quo t (.int k a) (.int k b)).run P w=.ok (.int k (k.wrap (a.tdiv b))) w:=by simp [binOp,Op.intDiv,h0]
 simp only [execOp,ho,hf.eval hx,hf.eval hy,Sem.run_bind,hg,hb,Result.andThen_ok,Sem.run_pure]
theorem Zjq {t yt:Nat} {k k':IntKind} {x y:Operand} {a b:Int} {S:World→Prop} (ho:o.op=.binOp .shl t x y yt) (hx:Zr env x=some (.int k a)) (hy:Zr env y=some (.int k' b)) (hb:0≤b) :
  QOp P o env S (.int k (k.wrap (a*2 ^ (min b.toNat k.bits)))):=by
 intro n ac w hf _
 obtain ⟨m,rfl⟩:=Int.eq_ofNat_of_zero_le hb
 have hg:(eqGuard .shl t x y (.int k a) (.int k' (m:Int))).run P w=.ok () w:=by simp [eqGuard]
 have hb:=Jn (P:=P) (op:=.shl) (k:=k) (k':=k') (x:=a) (y:=(m:Int)) (v:=.int k (k.wrap (a*2 ^ (min m k.bits)))) w t rfl
 simp only [execOp,ho,hf.eval hx,hf.eval hy,Sem.run_bind,hg,hb,Result.andThen_ok,Sem.run_pure,Int.toNat_natCast]
theorem Zpt {t yt:Nat} {k k':IntKind} {x y:Operand} {a b:Int} {S:World→Prop} (ho:o.op=.binOp .shr t x y yt) (hx:Zr env x=some (.int k a)) (hy:Zr env y=some (.int k' b)) (hb:0≤b) :
  QOp P o env S (.int k (a.fdiv (2 ^ (min b.toNat k.bits)))):=by
 intro n ac w hf _
 obtain ⟨m,rfl⟩:=Int.eq_ofNat_of_zero_le hb
 have hg:(eqGuard .shr t x y (.int k a) (.int k' (m:Int))).run P w=.ok () w:=by simp [eqGuard]
 have hb:=Jn (P:=P) (op:=.shr) (k:=k) (k':=k') (x:=a) (y:=(m:Int)) (v:=.int k (a.fdiv (2 ^ (min m k.bits)))) w t rfl
 simp only [execOp,ho,hf.eval hx,hf.eval hy,Sem.run_bind,hg,hb,Result.andThen_ok,Sem.run_pure,Int.toNat_natCast]
end
section
variable {P:Program} {n:Nat} {env:Env} {w:World} {ops:List Oper} {K:Env→World→Prop} {done:List Nat}
end
theorem J.narrow {P:Program} {n:Nat} {c:Code} {PQ:Xb} {env:Env} {w:World} (E:Env) (h:SK.keep (E.map (·.1)) env=E) (hj:J P n c PQ E w):J P n c PQ env w:=
 ⟨fun a Q hf hQ=>hj.go a Q (by rw [← h]; exact hf.keep _) hQ⟩
theorem St.wht {w0 w:World} {F0:Ft} {Hs Rs:List Ch} (h:St w0 F0 Hs Rs w):∀ x,x=w→Wh w0 F0 Hs Rs x:=fun x e=>by subst e; exact h.wh
end Go.SK
