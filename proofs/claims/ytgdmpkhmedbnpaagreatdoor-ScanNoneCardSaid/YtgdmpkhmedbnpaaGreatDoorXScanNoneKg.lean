/- Part of the library of this claim: how code is stepped through. -/
import Derived.Test.YtgdmpkhmedbnpaaGreatDoorXScanNoneKf
set_option linter.unusedVariables false
set_option linter.unusedSimpArgs false
namespace Go.SK
open Go Go.RowKit

inductive Ty where
  | int (k:IntKind) | bool | str | val | unit
  | slice (E:Nat) (t:Ty)
  | pair (a b:Ty)
@[reducible] def Ty.D:Ty→Type
  | .int _=>Int | .bool=>Bool | .str=>List UInt8 | .val=>Value | .unit=>Unit
  | .slice _ t=>List t.D
  | .pair a b=>a.D×b.D
def Ty.n:Ty→Nat
  | .unit=>0 | .pair a b=>a.n+b.n | _=>1
def Elems {α:Type} (ok:α→List Value→Prop):List α→List Value→Prop
  | [],inner=>inner=[]
  | x :: xs,inner=>∃ c r,inner=c ++ r∧ok x c∧Elems ok xs r
def Ty.ok:(t:Ty)→World→(Nat→Prop)→t.D→List Value→Prop
  | .int k,_,_,x,cs=>cs=[.int k x]
  | .bool,_,_,x,cs=>cs=[.bool x]
  | .str,_,_,x,cs=>cs=[.string ⟨⟨x⟩⟩]
  | .val,_,_,x,cs=>cs=[x]∧x.oneCell'=true
  | .unit,_,_,_,cs=>cs=[]
  | .slice _ t,w,F,xs,cs=>∃ A c,cs=[.slice A xs.length c]∧xs.length≤c∧(xs=[]∨∃ b off inner,A=some ⟨b,off,none⟩∧F b∧Elems (t.ok w F) xs inner∧∀ j v,inner[j]?=some v→w.cell? ⟨b,off+j,none⟩=some v)
  | .pair a b,w,F,x,cs=>∃ c1 c2,cs=c1 ++ c2∧a.ok w F x.1 c1∧b.ok w F x.2 c2
def Ty.enc:(t:Ty)→t.D→List Value
  | .int k,x=>[.int k x]
  | .bool,x=>[.bool x]
  | .str,x=>[.string ⟨⟨x⟩⟩]
  | .val,x=>[x]
  | .unit,_=>[]
  | .slice _ _,_=>[]
  | .pair a b,x=>a.enc x.1 ++ b.enc x.2
def Ty.flat:Ty→Bool
  | .slice _ _=>false | .pair a b=>a.flat && b.flat | _=>true
def Ty.scal:Ty→Bool
  | .slice _ _ | .val=>false | .pair a b=>a.scal && b.scal | _=>true

theorem Elems.imp {α:Type} {ok ok':α→List Value→Prop} (h:∀ x c,ok x c→ok' x c):∀ {xs:List α} {inner:List Value},Elems ok xs inner→Elems ok' xs inner
  | [],_,e=>e
  | _ :: _,_,⟨c,r,e,h1,h2⟩=>⟨c,r,e,h _ _ h1,Elems.imp h h2⟩
theorem Elems.length {α:Type} {ok:α→List Value→Prop} {m:Nat} (h:∀ x c,ok x c→c.length=m):∀ {xs:List α} {inner:List Value},Elems ok xs inner→inner.length=xs.length*m
  | [],_,e=>by rw [e]; simp
  | x :: xs,_,⟨c,r,e,h1,h2⟩=>by rw [e,List.length_append,h _ _ h1,h2.length h,List.length_cons,Nat.add_mul]; omega
theorem Elems.append {α:Type} {ok:α→List Value→Prop}:∀ {xs ys:List α} {i1 i2:List Value},Elems ok xs i1→Elems ok ys i2→Elems ok (xs ++ ys) (i1 ++ i2)
  | [],_,_,_,e,h=>by rw [e]; exact h
  | _ :: _,_,_,_,⟨c,r,e,h1,h2⟩,h=>⟨c,r ++ _,by rw [e,List.append_assoc],h1,h2.append h⟩
theorem Elems.get {α:Type} {ok:α→List Value→Prop} {m:Nat} (h:∀ x c,ok x c→c.length=m):∀ {xs:List α} {inner:List Value},Elems ok xs inner→∀ {i:Nat} {x:α},xs[i]?=some x→
    ∃ c,ok x c∧∀ j v,c[j]?=some v→inner[i*m+j]?=some v
  | [],_,_,_,_,hx=>by simp at hx
  | y :: ys,inner,⟨c,r,e,h1,h2⟩,0,x,hx=>by
    simp only [List.getElem?_cons_zero,Option.some.injEq] at hx
    subst hx
    refine ⟨c,h1,fun j v hj=>?_⟩
    have hlt:j<c.length:=(List.getElem?_eq_some_iff.1 hj).1
    rw [e,Nat.zero_mul,Nat.zero_add,List.getElem?_append_left hlt,hj]
  | y :: ys,inner,⟨c,r,e,h1,h2⟩,i+1,x,hx=>by
    obtain ⟨c',hc,hg⟩:=h2.get h (i:=i) (x:=x) (by simpa using hx)
    refine ⟨c',hc,fun j v hj=>?_⟩
    have hl:=h _ _ h1
    rw [e,List.getElem?_append_right (by rw [hl,Nat.add_mul]; omega)]
    rw [hl,show (i+1)*m+j - m=i*m+j from by rw [Nat.add_mul]; omega]
    exact hg j v hj
theorem Elems.take {α:Type} {ok:α→List Value→Prop} {m:Nat} (h:∀ x c,ok x c→c.length=m):∀ {xs:List α} {inner:List Value},Elems ok xs inner→∀ k,Elems ok (xs.take k) (inner.take (k*m))
  | [],_,e,k=>by rw [show _=[] from e]; simp [Elems]
  | y :: ys,inner,⟨c,r,e,h1,h2⟩,0=>by simp [Elems]
  | y :: ys,inner,⟨c,r,e,h1,h2⟩,k+1=>by
    refine ⟨c,r.take (k*m),?_,h1,h2.take h k⟩
    rw [e,List.take_append,h _ _ h1,List.take_of_length_le (by rw [h _ _ h1,Nat.add_mul]; omega),show (k+1)*m - m=k*m from by rw [Nat.add_mul]; omega]
theorem Elems.drop {α:Type} {ok:α→List Value→Prop} {m:Nat} (h:∀ x c,ok x c→c.length=m):∀ {xs:List α} {inner:List Value},Elems ok xs inner→∀ k,Elems ok (xs.drop k) (inner.drop (k*m))
  | [],_,e,k=>by rw [show _=[] from e]; simp [Elems]
  | y :: ys,inner,h0,0=>by simpa using h0
  | y :: ys,inner,⟨c,r,e,h1,h2⟩,k+1=>by
    have:=h2.drop h k
    have e2:inner.drop ((k+1)*m)=r.drop (k*m):=by
      rw [e,List.drop_append,h _ _ h1,List.drop_of_length_le (by rw [h _ _ h1,Nat.add_mul]; omega),show (k+1)*m - m=k*m from by rw [Nat.add_mul]; omega]; rfl
    rw [e2]
    exact this

theorem Ty.ok_len:∀(t:Ty) {w:World} {F:Nat→Prop} {x:t.D} {cs:List Value},t.ok w F x cs→cs.length=t.n
  | .int _,_,_,_,_,h=>by rw [h]; rfl
  | .bool,_,_,_,_,h=>by rw [h]; rfl
  | .str,_,_,_,_,h=>by rw [h]; rfl
  | .val,_,_,_,_,h=>by rw [h.1]; rfl
  | .unit,_,_,_,_,h=>by rw [h]; rfl
  | .slice _ _,_,_,_,_,⟨A,c,h,_⟩=>by rw [h]; rfl
  | .pair a b,_,_,_,_,⟨c1,c2,h,h1,h2⟩=>by rw [h,List.length_append,a.ok_len h1,b.ok_len h2]; rfl
theorem Ty.ok_one:∀(t:Ty) {w:World} {F:Nat→Prop} {x:t.D} {cs:List Value},t.ok w F x cs→∀ v∈cs,v.oneCell'=true
  | .int _,_,_,_,_,h=>by rw [h]; simp [Value.oneCell']
  | .bool,_,_,_,_,h=>by rw [h]; simp [Value.oneCell']
  | .str,_,_,_,_,h=>by rw [h]; simp [Value.oneCell']
  | .val,_,_,_,_,h=>by rw [h.1]; simpa using h.2
  | .unit,_,_,_,_,h=>by rw [h]; simp
  | .slice _ _,_,_,_,_,⟨A,c,h,_⟩=>by rw [h]; simp [Value.oneCell']
  | .pair a b,_,_,_,_,⟨c1,c2,h,h1,h2⟩=>by
    rw [h]; intro v hv
    rcases List.mem_append.1 hv with hv | hv
    · exact a.ok_one h1 v hv
    · exact b.ok_one h2 v hv
theorem Ju {w w':World} {a:Addr} (h:w'.heap[a.block]?=w.heap[a.block]?):w'.cell? a=w.cell? a:=World.cell?_of_block (w:=w) h
theorem Ty.ok_stable:∀(t:Ty) {w w':World} {F:Nat→Prop} {x:t.D} {cs:List Value},(∀ b,F b→w'.heap[b]?=w.heap[b]?)→t.ok w F x cs→t.ok w' F x cs
  | .int _,_,_,_,_,_,_,h=>h
  | .bool,_,_,_,_,_,_,h=>h
  | .str,_,_,_,_,_,_,h=>h
  | .val,_,_,_,_,_,_,h=>h
  | .unit,_,_,_,_,_,_,h=>h
  | .slice _ t,w,w',F,xs,cs,hs,⟨A,c,h1,h2,h3⟩=>⟨A,c,h1,h2,h3.imp id fun ⟨b,off,inner,e,hb,he,hc⟩=>⟨b,off,inner,e,hb,he.imp fun x c h=>t.ok_stable hs h,fun j v hj=>by rw [Ju (hs b hb)]; exact hc j v hj⟩⟩
  | .pair a b,_,_,_,_,_,hs,⟨c1,c2,h,h1,h2⟩=>⟨c1,c2,h,a.ok_stable hs h1,b.ok_stable hs h2⟩
theorem Ty.ok_mono:∀(t:Ty) {w:World} {F F':Nat→Prop} {x:t.D} {cs:List Value},(∀ b,F b→F' b)→t.ok w F x cs→t.ok w F' x cs
  | .int _,_,_,_,_,_,_,h=>h
  | .bool,_,_,_,_,_,_,h=>h
  | .str,_,_,_,_,_,_,h=>h
  | .val,_,_,_,_,_,_,h=>h
  | .unit,_,_,_,_,_,_,h=>h
  | .slice _ t,w,F,F',xs,cs,hs,⟨A,c,h1,h2,h3⟩=>⟨A,c,h1,h2,h3.imp id fun ⟨b,off,inner,e,hb,he,hc⟩=>⟨b,off,inner,e,hs b hb,he.imp fun x c h=>t.ok_mono hs h,hc⟩⟩
  | .pair a b,_,_,_,_,_,hs,⟨c1,c2,h,h1,h2⟩=>⟨c1,c2,h,a.ok_mono hs h1,b.ok_mono hs h2⟩
theorem Ty.ok_enc:∀(t:Ty),t.flat=true→∀ {w:World} {F:Nat→Prop} {x:t.D} {cs:List Value},t.ok w F x cs→cs=t.enc x
  | .int _,_,_,_,_,_,h=>h
  | .bool,_,_,_,_,_,h=>h
  | .str,_,_,_,_,_,h=>h
  | .val,_,_,_,_,_,h=>h.1
  | .unit,_,_,_,_,_,h=>h
  | .slice _ _,hf,_,_,_,_,_=>by cases hf
  | .pair a b,hf,_,_,_,_,⟨c1,c2,h,h1,h2⟩=>by
    simp only [Ty.flat,Bool.and_eq_true] at hf
    rw [h,a.ok_enc hf.1 h1,b.ok_enc hf.2 h2]; rfl
theorem Ty.ok_scal:∀(t:Ty),t.scal=true→∀(w:World) (F:Nat→Prop) (x:t.D),t.ok w F x (t.enc x)
  | .int _,_,_,_,_=>rfl
  | .bool,_,_,_,_=>rfl
  | .str,_,_,_,_=>rfl
  | .val,hf,_,_,_=>by cases hf
  | .unit,_,_,_,_=>rfl
  | .slice _ _,hf,_,_,_=>by cases hf
  | .pair a b,hf,w,F,x=>by
    simp only [Ty.scal,Bool.and_eq_true] at hf
    exact ⟨_,_,rfl,a.ok_scal hf.1 w F x.1,b.ok_scal hf.2 w F x.2⟩
theorem Elems.scal {t:Ty} (h:t.scal=true) (w:World) (F:Nat→Prop):∀ xs:List t.D,Elems (t.ok w F) xs (xs.flatMap t.enc)
  | []=>rfl
  | x :: xs=>⟨t.enc x,xs.flatMap t.enc,by simp,t.ok_scal h w F x,Elems.scal h w F xs⟩

theorem Xg (b o j:Nat):(⟨b,o,none⟩:Addr).add j=⟨b,o+j,none⟩:=by unfold Addr.add; split <;> simp_all

def Yr (b t:Nat) (cs:List Value):Ch where
  ok w F:=F b∧w.heap[b]?=some (.cells cs.toArray t (0,0))
  stable hs h:=⟨h.1,by rw [hs b h.1]; exact h.2⟩
def rdC (E:Nat) (t:Ty) (xs:List t.D) (v:Value):Ch where
  ok w F:=(Ty.slice E t).ok w F xs [v]
  stable hs h:=Ty.ok_stable _ hs h
def Yg (E:Nat) (t:Ty) (xs:List t.D) (v:Value):Ch where
  ok w F:=∃ inner F',w.ownsRow 0 E t.n v xs.length inner∧Elems (t.ok w F') xs inner∧(∀ b,F' b→F b)∧(∀ b,v.ownBlock=some b→F b∧¬ F' b)
  stable:=fun {w w' F} hs ⟨inner,F',h1,h2,h3,h4⟩=>⟨inner,F',by
      refine ⟨h1.1,h1.2.imp id ?_⟩
      rintro ⟨g,cap,cur,rfl,hg,hh,r⟩
      exact ⟨g,cap,cur,rfl,hg,by rw [hs g (h4 g rfl).1]; exact hh,r⟩,h2.imp fun x c h=>Ty.ok_stable _ (fun b hb=>hs b (h3 b hb)) h,h3,h4⟩

theorem Yc {E:Nat} {t:Ty} {xs:List t.D} {v:Value} (w:World) (F:Nat→Prop) (h:(Yg E t xs v).ok w F):(rdC E t xs v).ok w F:=by
  obtain ⟨inner,F',⟨hlen,h1⟩,h2,h3,h4⟩:=h
  rcases h1 with ⟨rfl,hn⟩ | ⟨g,cap,cur,rfl,_,hh,hnc,_,hsz,htake⟩
  · have:xs=[]:=List.eq_nil_of_length_eq_zero hn
    subst this
    exact ⟨none,0,rfl,Nat.le_refl _,.inl rfl⟩
  · refine ⟨some ⟨g,0,none⟩,cap,rfl,hnc,.inr ⟨g,0,inner,rfl,(h4 g rfl).1,h2.imp fun x c h=>t.ok_mono h3 h,fun j u hu=>?_⟩⟩
    have:=World.ownsRow.cells (base:=0) (e:=E) (size:=t.n) (v:=.slice (some ⟨g,0,none⟩) xs.length cap) (n:=xs.length) (xs:=inner) ⟨hlen,.inr ⟨g,cap,cur,rfl,Nat.zero_le _,hh,hnc,by assumption,hsz,htake⟩⟩ (g:=g) rfl j u hu
    have hadd:(⟨g,0,none⟩:Addr).add j=⟨g,0+j,none⟩:=by unfold Addr.add; split <;> simp_all
    rw [hadd] at this
    exact this
def blk (A:Option Addr):Nat:=(A.getD ⟨0,0,none⟩).block
def ofs (A:Option Addr):Nat:=(A.getD ⟨0,0,none⟩).off
def gt {α:Type} [Inhabited α] (xs:List α) (i:Int):α:=xs.getD i.toNat default
theorem Up {α:Type} [Inhabited α] {xs:List α} {i:Int} (h0:0≤i) (h1:i<xs.length):xs[i.toNat]?=some (gt xs i):=by
  have:i.toNat<xs.length:=by omega
  simp [gt,List.getD_eq_getElem?_getD,this]
def Wh (w0:World) (F0:Ft) (Hs Rs:List Ch) (w:World):Prop:=∃ N,St w0 F0 (N ++ Hs) Rs w
theorem J.heldSt {P:Program} {n:Nat} {ops:List Oper} {id:Nat} {PQ:Xd} {env:Env} {w0 w:World} {F0:Ft} {Hs Rs:List Ch} (hm:P.follows .mixedOrders=true) (h0:St w0 F0 Hs Rs w)
    (h:HJ P n ops (Wh w0 F0 Hs Rs) (PQ .normal) [] env { w with drawn:=w.drawn+1 }):J P n (.region id ops.toArray true) PQ env w:=J.held hm _ ⟨[],h0.drew⟩ h
theorem St.wh {w0 w:World} {F0:Ft} {Hs Rs:List Ch} (h:St w0 F0 Hs Rs w):Wh w0 F0 Hs Rs w:=⟨[],h⟩
theorem Wh.gives {w0 w:World} {F0:Ft} {Hs Rs:List Ch} {c:Ch} (h:Wh w0 F0 Hs Rs w) (hc:Gives (Hs ++ Rs) c):∃ F,c.ok w F∧∀ b,F b→b<w.heap.size:=by
  obtain ⟨N,hN⟩:=h
  obtain ⟨c',hm,hi⟩:=hc
  exact hN.gives ⟨c',by rw [List.append_assoc]; exact List.mem_append_right _ hm,hi⟩

section
variable {P:Program} {tt:TT} {env:Env} {S:World→Prop} {o:Oper} {w0:World} {F0:Ft} {Hs Rs:List Ch}
def Wu (i:TI) (cs:List Value):Option Value:=
  match i.kind with
  | .struct _=>cond (Nat.beq cs.length i.size) (some (.agg cs.toArray)) none
  | .other=>none
  | _=>match cs with | [v]=>some v | _=>none
theorem Jk (hT:Yk P tt) {t:Nat} {x:Operand} {i:TI} {b off:Nat} {cs:List Value} {v:Value} (ho:o.op=.load t x) (hi:find tt t=some i) (ha:Zq env x=some (.pointer (some ⟨b,off,none⟩)))
    (hc:∀ w,S w→∀ j u,cs[j]?=some u→w.cell? ⟨b,off+j,none⟩=some u) (hp:Wu i cs=some v):QOp P o env S v:=by
  intro n a w hf hS
  have hok:=hT _ _ hi
  have hk:=hok.kind
  have hadd:=Xg b off
  have hone:∀ u,cs=[u]→w.cell? ⟨b,off,none⟩=some u:=fun u e=>by have:=hc w hS 0 u (by simp [e]); simpa using this
  have hsz:=Xe w hok
  have fin:(isAgg t).run P w=.ok false w→(∃ u,cs=[u]∧u=v)→(execOp a.eval o).run P w=.ok (.value v) w:=by
    rintro hag ⟨u,hu,rfl⟩
    have hl:=hone u hu
    simp [execOp,ho,hf.eval ha,Instr.loadAt,Instr.sureAddr,loadVar,hag,hl]
  unfold Wu at hp
  cases hkk:i.kind with
  | struct fs=>
    rw [hkk] at hp hk
    obtain ⟨fields,hu,_⟩:=hk
    cases hb:Nat.beq cs.length i.size with
    | false=>rw [hb] at hp; cases hp
    | true=>
      rw [hb] at hp
      have hlen:=Nat.eq_of_beq_eq_true hb
      simp only [cond_true,Option.some.injEq] at hp
      subst hp
      have hl:=run_loadCells_list (P:=P) (w:=w) ⟨b,off,none⟩ cs (fun j u hj=>by rw [hadd]; exact hc w hS j u hj)
      rw [hlen] at hl
      have hag:(isAgg t).run P w=.ok true w:=by simp [isAgg,Z2 w hu]
      simp [execOp,ho,hf.eval ha,Instr.loadAt,Instr.sureAddr,loadVar,hag,hsz,hl]
  | other=>rw [hkk] at hp; cases hp
  | int k => rw [hkk] at hp hk; simp only [TK.ok] at hk; simp only at hp; split at hp <;> first | (cases hp; done) | skip
             simp only [Option.some.injEq] at hp; exact fin (by simp [isAgg,Z2 w hk]) ⟨_,rfl,hp⟩
  | bool => rw [hkk] at hp hk; simp only [TK.ok] at hk; simp only at hp; split at hp <;> first | (cases hp; done) | skip
            simp only [Option.some.injEq] at hp; exact fin (by simp [isAgg,Z2 w hk]) ⟨_,rfl,hp⟩
  | str => rw [hkk] at hp hk; simp only [TK.ok] at hk; simp only at hp; split at hp <;> first | (cases hp; done) | skip
           simp only [Option.some.injEq] at hp; exact fin (by simp [isAgg,Z2 w hk]) ⟨_,rfl,hp⟩
  | slice e => rw [hkk] at hp hk; simp only [TK.ok] at hk; simp only at hp; split at hp <;> first | (cases hp; done) | skip
               simp only [Option.some.injEq] at hp; exact fin (by simp [isAgg,Z2 w hk]) ⟨_,rfl,hp⟩
  | ptr e => rw [hkk] at hp hk; simp only [TK.ok] at hk; simp only at hp; split at hp <;> first | (cases hp; done) | skip
             simp only [Option.some.injEq] at hp; exact fin (by simp [isAgg,Z2 w hk]) ⟨_,rfl,hp⟩
  | map k e => rw [hkk] at hp hk; simp only [TK.ok] at hk; simp only at hp; split at hp <;> first | (cases hp; done) | skip
               simp only [Option.some.injEq] at hp; exact fin (by simp [isAgg,Z2 w hk]) ⟨_,rfl,hp⟩
  | func => rw [hkk] at hp hk; obtain ⟨ps, rs, vv, hk⟩ := hk; simp only at hp; split at hp <;> first | (cases hp; done) | skip
            simp only [Option.some.injEq] at hp; exact fin (by simp [isAgg,Z2 w hk]) ⟨_,rfl,hp⟩
  | iface => rw [hkk] at hp hk; obtain ⟨ms, hk⟩ := hk; simp only at hp; split at hp <;> first | (cases hp; done) | skip
             simp only [Option.some.injEq] at hp; exact fin (by simp [isAgg,Z2 w hk]) ⟨_,rfl,hp⟩

theorem Zdp {w:World} {b t:Nat} {cs:List Value} (h:w.heap[b]?=some (.cells cs.toArray t (0,0))) (off m:Nat):∀ j u,((cs.drop off).take m)[j]?=some u→w.cell? ⟨b,off+j,none⟩=some u:=by
  intro j u hu
  rw [List.getElem?_take] at hu
  split at hu
  · rw [List.getElem?_drop] at hu
    simp [World.cell?,h,hu]
  · cases hu
theorem Zb6 (hT:Yk P tt) {t:Nat} {x:Operand} {i:TI} {b off tb:Nat} {cs:List Value} {v:Value} (k:Nat) (hS:∀ w,S w→Wh w0 F0 Hs Rs w) (hk:nth Hs k=some (Yr b tb cs)) (ho:o.op=.load t x)
    (hi:find tt t=some i) (ha:Zq env x=some (.pointer (some ⟨b,off,none⟩))) (hp:Wu i ((cs.drop off).take i.size)=some v):QOp P o env S v:=
  Jk hT ho hi ha (fun w h=>by
    obtain ⟨F,hF,_⟩:=(hS w h).gives (c:=Yr b tb cs) ⟨_,List.mem_append_left _ (by rw [Yu] at hk; exact List.mem_of_getElem? hk),fun _ _ h=>h⟩
    exact Zdp hF.2 off i.size) hp
theorem Zb2 {E:Nat} {t:Ty} [Inhabited t.D] {xs:List t.D} {A:Option Addr} {m c:Nat} {w:World} {F:Nat→Prop} (h:(rdC E t xs (.slice A m c)).ok w F) {i:Int} (h0:0≤i) (h1:i<xs.length) :
    A=some ⟨blk A,ofs A,none⟩∧F (blk A)∧∃ cs,t.ok w F (gt xs i) cs∧∀ j u,cs[j]?=some u→w.cell? ⟨blk A,ofs A+i.toNat*t.n+j,none⟩=some u:=by
  obtain ⟨A',c',e,hle,hr⟩:=h
  simp only [List.cons.injEq,and_true,Value.slice.injEq] at e
  obtain ⟨rfl,e2,rfl⟩:=e
  rcases hr with rfl | ⟨b,off,inner,rfl,hb,he,hc⟩
  · simp at h1; omega
  · refine ⟨rfl,hb,?_⟩
    obtain ⟨cs,hcs,hg⟩:=he.get (fun x c h=>t.ok_len h) (Up h0 h1)
    exact ⟨cs,hcs,fun j u hj=>by have:=hc _ _ (hg j u hj); rw [← Nat.add_assoc] at this; exact this⟩
theorem Z0 {E:Nat} {t:Ty} [Inhabited t.D] {xs:List t.D} {A:Option Addr} {m c:Nat} {w:World} (hS:Wh w0 F0 Hs Rs w) (hg:Gives (Hs ++ Rs) (rdC E t xs (.slice A m c))) {i:Int} (h0:0≤i) (h1:i<xs.length) :
    A=some ⟨blk A,ofs A,none⟩:=by
  obtain ⟨F,hF,_⟩:=hS.gives hg
  exact (Zb2 hF h0 h1).1
theorem Zay (hT:Yk P tt) {E:Nat} {t:Ty} [Inhabited t.D] (hfl:t.flat=true) {xs:List t.D} {A:Option Addr} {m c:Nat} {ty:Nat} {x:Operand} {i:TI} {ix:Int} {f sz:Nat} {v:Value}
    (hS:∀ w,S w→Wh w0 F0 Hs Rs w) (hg:Gives (Hs ++ Rs) (rdC E t xs (.slice A m c))) (h0:0≤ix) (h1:ix<xs.length) (ho:o.op=.load ty x) (hsz:t.n=sz)
    (hi:find tt ty=some i) (ha:Zq env x=some (.pointer (some ⟨blk A,ofs A+ix.toNat*sz+f,none⟩))) (hp:Wu i (((t.enc (gt xs ix)).drop f).take i.size)=some v):QOp P o env S v:=
  Jk hT ho hi ha (fun w h=>by
    obtain ⟨F,hF,_⟩:=(hS w h).gives hg
    obtain ⟨_,_,cs,hcs,hc⟩:=Zb2 hF h0 h1
    rw [t.ok_enc hfl hcs] at hc
    intro j u hu
    rw [List.getElem?_take] at hu
    split at hu
    · rw [List.getElem?_drop] at hu
      have:=hc _ _ hu
      rw [hsz,← Nat.add_assoc] at this
      exact this
    · cases hu) hp
theorem Zgb (hT:Yk P tt) {t e:Nat} {x ix:Operand} {A:Option Addr} {n c:Nat} {i:Int} {ki:IntKind} {z1 z2:Nat} {z:Value} {ie:TI} (ho:o.op=.indexAddr t x ix) (ht:find tt t=some ⟨.slice e,z1,z2,z⟩) (he:find tt e=some ie)
    (hv:Zq env x=some (.slice A n c)) (hx:Zq env ix=some (.int ki i)) (hA:A=some ⟨blk A,ofs A,none⟩) (h0:0≤i) (h1:i<n):QOp P o env S (.pointer (some ⟨blk A,ofs A+i.toNat*ie.size,none⟩)):=by
  intro nn a w hf _
  have hk:=(hT _ _ ht).kind
  simp only [TK.ok] at hk
  have hsz:=Xe w (hT _ _ he)
  have hv':=hf.eval hv
  rw [hA] at hv'
  have hadd:=Xg (blk A) (ofs A)
  clear hA hv
  simp [execOp,ho,hv',hf.eval hx,Instr.indexAt,asIntOf,Z2 w hk,h0,h1,hsz,hadd]
def gtb (l:List UInt8) (i:Int):Int:=((l.getD i.toNat 0).toNat:Int)
theorem Zmo (hT:Yk P tt) {t:Nat} {x ix:Operand} {l:List UInt8} {i:Int} {ki:IntKind} {z1 z2:Nat} {z:Value} (ho:o.op=.index t x ix) (ht:find tt t=some ⟨.str,z1,z2,z⟩)
    (hv:Zq env x=some (.string ⟨⟨l⟩⟩)) (hx:Zq env ix=some (.int ki i)) (h0:0≤i) (h1:i<l.length):QOp P o env S (.int .u8 (gtb l i)):=by
  intro nn a w hf _
  have hk:=(hT _ _ ht).kind
  simp only [TK.ok] at hk
  have hlt:i.toNat<l.length:=by omega
  have hget:(⟨⟨l⟩⟩:ByteArray)[i.toNat]?=some (l[i.toNat]):=by
    rw [getElem?_pos (⟨⟨l⟩⟩:ByteArray) i.toNat hlt]; rfl
  have hg:gtb l i=((l[i.toNat]).toNat:Int):=by unfold gtb; rw [List.getD_eq_getElem?_getD,List.getElem?_eq_getElem hlt]; rfl
  have hu:=Z2 w hk
  simp only [execOp,ho,hf.eval hv,hf.eval hx,Instr.index,asIntOf,Sem.run_bind,Sem.run_pure,Result.andThen_ok,hu,if_pos h0,hget,hg]
end
end Go.SK
