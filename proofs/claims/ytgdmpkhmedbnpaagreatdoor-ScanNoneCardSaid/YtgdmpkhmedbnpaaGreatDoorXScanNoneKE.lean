/- Part of the library of this claim: how code is stepped through. -/
import Derived.Test.YtgdmpkhmedbnpaaGreatDoorXScanNoneKD
set_option linter.unusedVariables false
set_option linter.unusedSimpArgs false
namespace Go.SK
open Go Go.RowKit

section
variable {P:Program} {tt:TT} {n:Nat} {env:Env} {w w0:World} {F0:Ft} {Hs Rs HsS:List Ch} {ops:List Oper} {K:Env→World→Prop} {o:Oper} {l:List Oper} {PQ:Xd} {done:List Nat}
theorem cS {ρ α:Type} {c:Option α} {f:α→Option ρ} {r:ρ} {fno:Nat} {xs:Array Operand} {ts:Array TypeId} {fx:Operand} {vs:List Value} {pre rd rest:List Ch} {V:α→Value} {L Hs':α→List Ch} (H:c.bind f=some r) (ks:List Nat) (hS:St w0 F0 Hs Rs w) (hp:Vi ks Hs (fun p r=>some (p,r))=some (pre,rest))
  (hsp:∀ {x},c=some x→Spec P fno vs pre rd (fun v l=>v=V x∧l=L x)) (hr:∀ c∈rd,Gives (rest ++ Rs) c)
  (hk:∀ x w',f x=some r→St w0 F0 (Hs' x) Rs w'→RJ P n ops l K (Xu o.dst (V x) env) w') (hn:∀ x,nfK (L x ++ rest) some=some (Hs' x):=by exact fun _=>rfl)
  (hw:Yq ops env o=some true:=by exact rfl) (hd:Xw n o.dst=true:=by exact rfl) (ho:o.op=.call { callee:=.value fx,args:=xs,argTypes:=ts }:=by exact rfl) (hfx:Zq env fx=some (.func (.func fno) #[] #[]):=by exact rfl) (hv:Yv env xs.toList=some vs:=by exact rfl):RJ P n ops (o :: l) K env w:=by
 obtain ⟨x,q,H⟩:=Yj H
 refine RJ.op hw hd (Gi ks (hsp q) ho hfx hv hS (Zan hp) hr) ?_
 rintro _ w' ⟨_,⟨rfl,rfl⟩,h⟩
 exact hk x w' H (nf h (hn x))
theorem cE {ρ α:Type} {c:Option α} {f:α→Option ρ} {r:ρ} {fno:Nat} {xs:Array Operand} {ts:Array TypeId} {fx:Operand} {vs:List Value} {pre rd rest:List Ch} {Post:α→Value→List Ch→Prop} (H:c.bind f=some r) (ks:List Nat) (hS:St w0 F0 Hs Rs w) (hp:Vi ks Hs (fun p r=>some (p,r))=some (pre,rest))
  (hsp:∀ {x},c=some x→Spec P fno vs pre rd (Post x)) (hr:∀ c∈rd,Gives (rest ++ Rs) c)
  (hk:∀ x w' v post,f x=some r→Post x v post→St w0 F0 (post ++ rest) Rs w'→RJ P n ops l K (Xu o.dst v env) w')
  (hw:Yq ops env o=some true:=by exact rfl) (hd:Xw n o.dst=true:=by exact rfl) (ho:o.op=.call { callee:=.value fx,args:=xs,argTypes:=ts }:=by exact rfl) (hfx:Zq env fx=some (.func (.func fno) #[] #[]):=by exact rfl) (hv:Yv env xs.toList=some vs:=by exact rfl):RJ P n ops (o :: l) K env w:=by
 obtain ⟨x,q,H⟩:=Yj H
 refine RJ.op hw hd (Gi ks (hsp q) ho hfx hv hS (Zan hp) hr) ?_
 rintro v w' ⟨post,hp,h⟩
 exact hk x w' v post H hp h
theorem rS {Hs1 Hs':List Ch} (ho:OpT P o env w (fun _ w'=>St w0 F0 Hs1 Rs w')) (hk:∀ v w',St w0 F0 Hs' Rs w'→RJ P n ops l K (Xu o.dst v env) w') (hn:nfK Hs1 some=some Hs':=by exact rfl)
  (hw:Yq ops env o=some true:=by exact rfl) (hd:Xw n o.dst=true:=by exact rfl):RJ P n ops (o :: l) K env w:=
 RJ.op hw hd ho fun v w' h=>hk v w' (nf h hn)
theorem rB {V:Nat→Value} {Hs1 Hs':Nat→List Ch} (ho:OpT P o env w (fun v w'=>∃ b,v=V b∧St w0 F0 (Hs1 b) Rs w')) (hk:∀ b w',St w0 F0 (Hs' b) Rs w'→RJ P n ops l K (Xu o.dst (V b) env) w') (hn:∀ b,nfK (Hs1 b) some=some (Hs' b):=by exact fun _=>rfl)
  (hw:Yq ops env o=some true:=by exact rfl) (hd:Xw n o.dst=true:=by exact rfl):RJ P n ops (o :: l) K env w:=
 RJ.op hw hd ho (by rintro _ w' ⟨b,rfl,h⟩; exact hk b w' (nf h (hn b)))
theorem cSJ {ρ α:Type} {c:Option α} {f:α→Option ρ} {r:ρ} {fno:Nat} {xs:Array Operand} {ts:Array TypeId} {fx:Operand} {vs:List Value} {pre rd rest:List Ch} {V:α→Value} {L Hs':α→List Ch} (i:Nat) (hi:nth ops i=some o) (H:c.bind f=some r) (ks:List Nat) (hS:St w0 F0 Hs Rs w) (hp:Vi ks Hs (fun p r=>some (p,r))=some (pre,rest))
  (hsp:∀ {x},c=some x→Spec P fno vs pre rd (fun v l=>v=V x∧l=L x)) (hr:∀ c∈rd,Gives (rest ++ Rs) c) (d:Nat)
  (hk:∀ x w',f x=some r→St w0 F0 (Hs' x) Rs w'→HJ P n ops (Wh w0 F0 HsS Rs) K (i :: done) (Xu o.dst (V x) env) w') (hn:∀ x,nfK (L x ++ rest) some=some (Hs' x):=by exact fun _=>rfl) (hW:∀ x,(Hs' x).drop d=HsS:=by exact fun _=>rfl)
  (hs:Wa ops=true:=by exact rfl) (hl:U3 ops done i o=true:=by exact rfl) (hw:Yq ops env o=some true:=by exact rfl) (hd:Xw n o.dst=true:=by exact rfl) (ho:o.op=.call { callee:=.value fx,args:=xs,argTypes:=ts }:=by exact rfl) (hfx:Zq env fx=some (.func (.func fno) #[] #[]):=by exact rfl) (hv:Yv env xs.toList=some vs:=by exact rfl):HJ P n ops (Wh w0 F0 HsS Rs) K done env w:=by
 obtain ⟨x,q,H⟩:=Yj H
 refine HJ.op hs hi hl hw hd (Gi ks (hsp q) ho hfx hv hS (Zan hp) hr) ?_
 rintro _ w' ⟨_,⟨rfl,rfl⟩,h⟩
 have h2:=nf h (hn x)
 exact ⟨⟨(Hs' x).take d,by rw [← hW x,List.take_append_drop]; exact h2⟩,hk x w' H h2⟩
theorem cEJ {ρ α:Type} {c:Option α} {f:α→Option ρ} {r:ρ} {fno:Nat} {xs:Array Operand} {ts:Array TypeId} {fx:Operand} {vs:List Value} {pre rd rest:List Ch} {Post:α→Value→List Ch→Prop} (i:Nat) (hi:nth ops i=some o) (H:c.bind f=some r) (ks:List Nat) (hS:St w0 F0 Hs Rs w) (hp:Vi ks Hs (fun p r=>some (p,r))=some (pre,rest)) {S:World→Prop}
  (hsp:∀ {x},c=some x→Spec P fno vs pre rd (Post x)) (hr:∀ c∈rd,Gives (rest ++ Rs) c)
  (hk:∀ x w' v post,f x=some r→Post x v post→St w0 F0 (post ++ rest) Rs w'→S w'∧HJ P n ops S K (i :: done) (Xu o.dst v env) w')
  (hs:Wa ops=true:=by exact rfl) (hl:U3 ops done i o=true:=by exact rfl) (hw:Yq ops env o=some true:=by exact rfl) (hd:Xw n o.dst=true:=by exact rfl) (ho:o.op=.call { callee:=.value fx,args:=xs,argTypes:=ts }:=by exact rfl) (hfx:Zq env fx=some (.func (.func fno) #[] #[]):=by exact rfl) (hv:Yv env xs.toList=some vs:=by exact rfl):HJ P n ops S K done env w:=by
 obtain ⟨x,q,H⟩:=Yj H
 refine HJ.op hs hi hl hw hd (Gi ks (hsp q) ho hfx hv hS (Zan hp) hr) ?_
 rintro v w' ⟨post,hp,h⟩
 exact hk x w' v post H hp h
theorem hS {Hs1 Hs':List Ch} (i:Nat) (hi:nth ops i=some o) (ho:OpT P o env w (fun _ w'=>St w0 F0 Hs1 Rs w')) (d:Nat) (hk:∀ v w',St w0 F0 Hs' Rs w'→HJ P n ops (Wh w0 F0 HsS Rs) K (i :: done) (Xu o.dst v env) w') (hn:nfK Hs1 some=some Hs':=by exact rfl) (hW:Hs'.drop d=HsS:=by exact rfl)
  (hs:Wa ops=true:=by exact rfl) (hl:U3 ops done i o=true:=by exact rfl) (hw:Yq ops env o=some true:=by exact rfl) (hd:Xw n o.dst=true:=by exact rfl):HJ P n ops (Wh w0 F0 HsS Rs) K done env w:=
 HJ.op hs hi hl hw hd ho fun v w' h=>⟨⟨Hs'.take d,by rw [← hW,List.take_append_drop]; exact nf h hn⟩,hk v w' (nf h hn)⟩
theorem hB {V:Nat→Value} {Hs1 Hs':Nat→List Ch} (i:Nat) (hi:nth ops i=some o) (ho:OpT P o env w (fun v w'=>∃ b,v=V b∧St w0 F0 (Hs1 b) Rs w')) (d:Nat) (hk:∀ b w',St w0 F0 (Hs' b) Rs w'→HJ P n ops (Wh w0 F0 HsS Rs) K (i :: done) (Xu o.dst (V b) env) w') (hn:∀ b,nfK (Hs1 b) some=some (Hs' b):=by exact fun _=>rfl) (hW:∀ b,(Hs' b).drop d=HsS:=by exact fun _=>rfl)
  (hs:Wa ops=true:=by exact rfl) (hl:U3 ops done i o=true:=by exact rfl) (hw:Yq ops env o=some true:=by exact rfl) (hd:Xw n o.dst=true:=by exact rfl):HJ P n ops (Wh w0 F0 HsS Rs) K done env w:=
 HJ.op hs hi hl hw hd ho (by rintro _ w' ⟨b,rfl,h⟩; exact ⟨⟨(Hs' b).take d,by rw [← hW b,List.take_append_drop]; exact nf h (hn b)⟩,hk b w' (nf h (hn b))⟩)
theorem hQ {v:Value} {Hs':List Ch} (i:Nat) (hi:nth ops i=some o) (hq:QOp P o env (fun w'=>w'=w) v) (h:St w0 F0 Hs Rs w) (d:Nat) (hk:St w0 F0 Hs' Rs w→HJ P n ops (Wh w0 F0 HsS Rs) K (i :: done) (Xu o.dst v env) w) (hn:nfK Hs some=some Hs':=by exact rfl) (hW:Hs'.drop d=HsS:=by exact rfl)
  (hs:Wa ops=true:=by exact rfl) (hl:U3 ops done i o=true:=by exact rfl) (hw:Yq ops env o=some true:=by exact rfl) (hd:Xw n o.dst=true:=by exact rfl):HJ P n ops (Wh w0 F0 HsS Rs) K done env w:=
 HJ.op hs hi hl hw hd (OpT.ofq hq) (by rintro _ _ ⟨rfl,rfl⟩; exact ⟨⟨Hs'.take d,by rw [← hW,List.take_append_drop]; exact nf h hn⟩,hk (nf h hn)⟩)
theorem hQS {v:Value} {Hs':List Ch} (i:Nat) (hi:nth ops i=some o) (hq:QOp P o env (fun w'=>w'=w) v) (h:St w0 F0 Hs Rs w) (d:Nat) (hk:St w0 F0 Hs' Rs w→HJ P n ops (Wh w0 F0 HsS Rs) K (i :: done) (Xu o.dst v env) w) (hn:nfK Hs some=some Hs':=by exact rfl) (hW:Hs'.drop d=HsS:=by exact rfl)
  (hw:Yq ops env o=some true:=by exact rfl) (hd:Xw n o.dst=true:=by exact rfl):HS P n ops (Wh w0 F0 HsS Rs) K done env w i:=
 HS.op hi hw hd (OpT.ofq hq) (by rintro _ _ ⟨rfl,rfl⟩; exact ⟨⟨Hs'.take d,by rw [← hW,List.take_append_drop]; exact nf h hn⟩,hk (nf h hn)⟩)
theorem jH {id:Nat} {tt_:TT} [q_:TTI P tt_] (h0:St w0 F0 Hs Rs w) (h:St w0 F0 Hs Rs { w with drawn:=w.drawn+1 }→HJ P n ops (Wh w0 F0 Hs Rs) (PQ .normal) [] env { w with drawn:=w.drawn+1 }):J P n (.region id ops.toArray true) PQ env w:=
 J.heldSt q_.mix h0 (h h0.drew)
def Zho:List Nat→List Ch→Option (List Ch)
 | [],_=>some []
 | k :: ks,l=>match nth l k with | none=>none | some c=>(Zho ks l).map (c :: ·)
theorem gS {l:List Ch}:∀ {cs:List Ch} (ks:List Nat) (h:Zho ks l=some cs:=by exact rfl),∀ c∈cs,Gives l c
 | cs,[],h=>by injection h with h; subst h; exact Zp
 | cs,k :: ks,h=>by
  unfold Zho at h
  split at h
  ·cases h
  ·rename_i c hc
   cases h2:Zho ks l with
   | none=>rw [h2] at h; cases h
   | some cs2=>rw [h2] at h; injection h with h; subst h; exact Y5 (Gives.self k hc) (gS ks h2)
theorem jR0 {fn:Func} {V:Value} {post:List Ch} (h:St w0 F0 Hs Rs w) (ks:List Nat) (e:Vi ks Hs (fun p _=>some p)=some post:=by exact rfl) (hr:(Uo env fn.results.toList).map Ul=some V:=by exact rfl):Zcv P fn w0 F0 (fun v l=>v=V∧l=post) .ret env w:=by
 cases h1:Uo env fn.results.toList with
 | none=>rw [h1] at hr; cases hr
 | some vs=>
  rw [h1] at hr
  exact ⟨_,_,_,Xn h1,⟨by injection hr,rfl⟩,sO h ks e⟩
theorem jR {fn:Func} {Post:Value→List Ch→Prop} {vs:List Value} {post:List Ch} (hp:Post (Ul vs) post) (h:St w0 F0 Hs Rs w) (ks:List Nat) (e:Vi ks Hs (fun p _=>some p)=some post:=by exact rfl) (hr:Uo env fn.results.toList=some vs:=by exact rfl):Zcv P fn w0 F0 Post .ret env w:=
 ⟨_,_,_,Xn hr,hp,sO h ks e⟩
theorem jRA {fn:Func} {Post:Value→List Ch→List Ch→Prop} {vs:List Value} {post rp:List Ch} (hp:Post (Ul vs) post rp) (h:St w0 F0 post rp w) (hr:Uo env fn.results.toList=some vs:=by exact rfl):Zb4 P fn w0 F0 Post .ret env w:=
 ⟨_,_,_,Xn hr,hp,h⟩
theorem jR2 {fn:Func} {Post:Value→List Ch→Prop} {rs:List ResultVar} {vs:List Value} {post:List Ch} (hv:∀ p∈rs.zip vs,RV P w env p.1 p.2) (hp:Post (Ul vs) post) (h:St w0 F0 Hs Rs w) (ks:List Nat) (e:Vi ks Hs (fun p _=>some p)=some post:=by exact rfl) (hr:fn.results.toList=rs:=by exact rfl) (hl:Nat.beq rs.length vs.length=true:=by exact rfl):Zcv P fn w0 F0 Post .ret env w:=
 ⟨_,_,_,J7 hr hv hl,hp,sO h ks e⟩
theorem Zl2 {fn:Func} {Post:Value→List Ch→List Ch→Prop} {rs:List ResultVar} {vs:List Value} {post rp:List Ch} (hv:∀ p∈rs.zip vs,RV P w env p.1 p.2) (hp:Post (Ul vs) post rp) (h:St w0 F0 post rp w) (hr:fn.results.toList=rs:=by exact rfl) (hl:Nat.beq rs.length vs.length=true:=by exact rfl):Zb4 P fn w0 F0 Post .ret env w:=
 ⟨_,_,_,J7 hr hv hl,hp,h⟩
end
end Go.SK
