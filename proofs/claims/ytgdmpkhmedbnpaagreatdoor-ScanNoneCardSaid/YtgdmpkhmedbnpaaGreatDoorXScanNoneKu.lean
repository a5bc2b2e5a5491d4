/- Part of the library of this claim: how code is stepped through. -/
import Derived.Test.YtgdmpkhmedbnpaaGreatDoorXScanNoneKt
set_option linter.unusedVariables false
set_option linter.unusedSimpArgs false
namespace Go.SK
open Go

section
variable {P:Program} {tt:TT} {o:Oper} {env:Env}
theorem Znh {t yt:Nat} {k:IntKind} {x y:Operand} {a b:Int} {S:World→Prop} (ho:o.op=.binOp .quo t x y yt) (hx:Zq env x=some (.int k a)) (hy:Zq env y=some (.int k b)) (hb:0<b) :
  QOp P o env S (.int k (k.wrap (a.tdiv b))):=by
 intro n ac w hf _
 have h0:¬ b=0:=by omega
 have hg:(eqGuard .quo t x y (.int k a) (.int k b)).run P w=.ok () w:=by simp [eqGuard]
 have hb:(binOp .quo t (.int k a) (.int k b)).run P w=.ok (.int k (k.wrap (a.tdiv b))) w:=by simp [binOp,Op.intDiv,h0]
 simp only [execOp,ho,hf.eval hx,hf.eval hy,Sem.run_bind,hg,hb,Result.andThen_ok,Sem.run_pure]
theorem Znj {t yt:Nat} {k:IntKind} {x y:Operand} {a b:Int} {S:World→Prop} (ho:o.op=.binOp .rem t x y yt) (hx:Zq env x=some (.int k a)) (hy:Zq env y=some (.int k b)) (hb:0<b) :
  QOp P o env S (.int k (a.tmod b)):=by
 intro n ac w hf _
 have h0:¬ b=0:=by omega
 have hg:(eqGuard .rem t x y (.int k a) (.int k b)).run P w=.ok () w:=by simp [eqGuard]
 have hb:(binOp .rem t (.int k a) (.int k b)).run P w=.ok (.int k (a.tmod b)) w:=by simp [binOp,Op.intDiv,h0]
 simp only [execOp,ho,hf.eval hx,hf.eval hy,Sem.run_bind,hg,hb,Result.andThen_ok,Sem.run_pure]
theorem Zhg {t yt:Nat} {k k':IntKind} {x y:Operand} {a b:Int} {S:World→Prop} (ho:o.op=.binOp .shl t x y yt) (hx:Zq env x=some (.int k a)) (hy:Zq env y=some (.int k' b)) (hb:0≤b) :
  QOp P o env S (.int k (k.wrap (a*2 ^ (min b.toNat k.bits)))):=by
 intro n ac w hf _
 obtain ⟨m,rfl⟩:=Int.eq_ofNat_of_zero_le hb
 have hg:(eqGuard .shl t x y (.int k a) (.int k' (m:Int))).run P w=.ok () w:=by simp [eqGuard]
 have hb:=U4 (P:=P) (op:=.shl) (k:=k) (k':=k') (x:=a) (y:=(m:Int)) (v:=.int k (k.wrap (a*2 ^ (min m k.bits)))) w t rfl
 simp only [execOp,ho,hf.eval hx,hf.eval hy,Sem.run_bind,hg,hb,Result.andThen_ok,Sem.run_pure,Int.toNat_natCast]
theorem Zne {t yt:Nat} {k k':IntKind} {x y:Operand} {a b:Int} {S:World→Prop} (ho:o.op=.binOp .shr t x y yt) (hx:Zq env x=some (.int k a)) (hy:Zq env y=some (.int k' b)) (hb:0≤b) :
  QOp P o env S (.int k (a.fdiv (2 ^ (min b.toNat k.bits)))):=by
 intro n ac w hf _
 obtain ⟨m,rfl⟩:=Int.eq_ofNat_of_zero_le hb
 have hg:(eqGuard .shr t x y (.int k a) (.int k' (m:Int))).run P w=.ok () w:=by simp [eqGuard]
 have hb:=U4 (P:=P) (op:=.shr) (k:=k) (k':=k') (x:=a) (y:=(m:Int)) (v:=.int k (a.fdiv (2 ^ (min m k.bits)))) w t rfl
 simp only [execOp,ho,hf.eval hx,hf.eval hy,Sem.run_bind,hg,hb,Result.andThen_ok,Sem.run_pure,Int.toNat_natCast]
end
section
variable {P:Program} {n:Nat} {env:Env} {w:World} {ops:List Oper} {K:Env→World→Prop} {done:List Nat}
theorem Za6 {S S':World→Prop} {Q:Exit→Act→World→Prop} {ops:Array Oper} (hs:∀ w,S' w→S w):∀(fuel:Nat) (listed:Array Bool) (a:Act) (w:World),wpAnyH P .any ops Q S' fuel listed a w→wpAnyH P .any ops Q S fuel listed a w
 | 0,_,_,_,h=>h
 | fuel+1,_,_,_,h=>⟨h.1,fun i hi=>wpOp_mono (fun a' w' h'=>⟨hs w' h'.1,Za6 hs fuel _ a' w' h'.2⟩) (h.2 i hi)⟩
theorem HJ.weaker {S S':World→Prop} (hs:∀ w,S' w→S w) (hw:S' w) (h:HJ P n ops S' K done env w):HJ P n ops S K done env w:=
 ⟨fun fuel _ a Q hf hQ hl=>Za6 hs fuel _ a w (h.go fuel hw a Q hf hQ hl)⟩
theorem HJ.more {w0:World} {F0:Ft} {c:Ch} {Hs Rs:List Ch} (hw:Wh w0 F0 (c :: Hs) Rs w) (h:HJ P n ops (Wh w0 F0 (c :: Hs) Rs) K done env w):HJ P n ops (Wh w0 F0 Hs Rs) K done env w:=
 HJ.weaker (fun w ⟨N,hN⟩=>⟨N ++ [c],by simpa using hN⟩) hw h
end
theorem J.narrow {P:Program} {n:Nat} {c:Code} {PQ:Xd} {env:Env} {w:World} (E:Env) (h:SK.keep (E.map (·.1)) env=E) (hj:J P n c PQ E w):J P n c PQ env w:=
 ⟨fun a Q hf hQ=>hj.go a Q (by rw [← h]; exact hf.keep _) hQ⟩
theorem St.wht {w0 w:World} {F0:Ft} {Hs Rs:List Ch} (h:St w0 F0 Hs Rs w):∀ x,x=w→Wh w0 F0 Hs Rs x:=fun x e=>by subst e; exact h.wh
end Go.SK
