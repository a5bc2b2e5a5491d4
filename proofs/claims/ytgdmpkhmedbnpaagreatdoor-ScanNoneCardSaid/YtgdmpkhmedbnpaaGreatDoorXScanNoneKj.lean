/- Part of the library of this claim: how code is stepped through. -/
import Derived.Test.YtgdmpkhmedbnpaaGreatDoorXScanNoneKi
import Derived.Deep.Slices
import Derived.SizedLaws
import Derived.WideShapes
import Derived.ChangeShapes
import Derived.ChangeArms
import Derived.RowKit
import Derived.OpenShut
import Derived.ChangeOld
import Derived.Below
import Derived.Carry
set_option linter.unusedVariables false
set_option linter.unusedSimpArgs false
namespace Go.SK
open Go Go.RowKit Go.ChangeShapes Go.WideShapes

def Ty.fit (bo:Nat→Nat):(t:Ty)→t.D→Prop
 | .int k,x=>(Lit.int k x).wf=true
 | .bool,_=>True
 | .str,x=>x.length≤140737488351232
 | .val,_=>True
 | .unit,_=>True
 | .slice E t,xs=>xs.length≤maxLen∧xs.length*bo E≤140737488351232∧∀ x∈xs,t.fit bo x
 | .pair a b,x=>a.fit bo x.1∧b.fit bo x.2
def V0 (tt:TT) (E:Nat):Nat:=match find tt E with | some i=>i.bytes | none=>0
def Zhm (agg:Bool) (cs:List Value):Value:=cond agg (.agg cs.toArray) (cs.headD (.bool false))
structure Opens (P:Program) (bo:Nat→Nat) (t:Ty) (T:Nat) (agg:Bool):Prop where
 cells:P.cellsOf T=t.n
 val:∀ {W:World} {r:Reach} {base:Nat} {v:Value},Value.okWide P W r base T v→v=Zhm agg v.cells.toList
 op:∀ {H:Type} (enc:TypeId×Value→H) (W:World) (base:Nat) (sp:Nat→Bool) (held:Bool) (fuel:Nat) (cs:List Value) (x:DataW H×List MemPlace),DataW.trod enc P W base sp held fuel T cs=some x→
  (∀ n∈x.1.weights P T,n≤140737488351232)→∃ d:t.D,t.ok W (fun b=>b<W.heap.size) d cs∧t.fit bo d

section
variable {P:Program} {bo:Nat→Nat} {T:Nat}
theorem Opens.int {k:IntKind} (hT:P.underlying T=some (.int k)) (hc:P.cellsOf T=1):Opens P bo (.int k) T false:=
 ⟨hc,fun h=>by obtain ⟨n,rfl⟩:=okWide_int hT h; rfl,fun enc W base sp held fuel cs x h _=>by
  obtain ⟨n,rfl,_,hw⟩:=DataW.trod_int hT h
  exact ⟨n,rfl,hw⟩⟩
theorem Opens.bool (hT:P.underlying T=some .bool) (hc:P.cellsOf T=1):Opens P bo .bool T false:=
 ⟨hc,fun h=>by obtain ⟨n,rfl⟩:=okWide_bool hT h; rfl,fun enc W base sp held fuel cs x h _=>by
  obtain ⟨n,rfl,_⟩:=DataW.trod_bool hT h
  exact ⟨n,rfl,trivial⟩⟩
theorem Opens.str (hT:P.underlying T=some .string) (hc:P.cellsOf T=1):Opens P bo .str T false:=
 ⟨hc,fun h=>by obtain ⟨n,rfl⟩:=okWide_string hT h; rfl,fun enc W base sp held fuel cs x h hw=>by
  obtain ⟨⟨⟨l⟩⟩,rfl,rfl,_⟩:=DataW.trod_string hT h
  exact ⟨l,rfl,hw _ (by simp [DataW.weights])⟩⟩

theorem Be {H:Type} {e:Nat}:∀ {l:List (DataW H)} {d:DataW H},d∈l→∀ n∈d.weights P e,n∈DataW.weightsAll P e l
 | c :: l,d,hd,n,hn=>by
  simp only [DataW.weightsAll,List.mem_append]
  rcases List.mem_cons.1 hd with rfl | h
  ·exact .inl hn
  ·exact .inr (Be h n hn)
theorem Za1 {H:Type} {enc:TypeId×Value→H} {W:World} {base:Nat} {sp:Nat→Bool} {held:Bool} {n:Nat} {t:Ty} {E:Nat} {g:Bool} (h:Opens P bo t E g) {a:Addr} :
  ∀(l:List (DataW H×List MemPlace)) (k:Nat),(∀ i y,l[i]?=some y→∃ cs,W.cells? base (a.add ((k+i)*t.n)) t.n=some cs∧DataW.trod enc P W base sp held n E cs=some y)→
   (∀ y∈l,∀ n∈y.1.weights P E,n≤140737488351232)→
   ∃(xs:List t.D) (inner:List Value),xs.length=l.length∧Elems (t.ok W (fun b=>b<W.heap.size)) xs inner∧(∀ j v,inner[j]?=some v→W.cell? (a.add (k*t.n+j))=some v)∧∀ x∈xs,t.fit bo x
 | [],k,_,_=>by
  refine ⟨[],[],rfl,rfl,fun j v hv=>?_,fun x hx=>?_⟩
  ·cases hv
  ·cases hx
 | y :: l,k,hl,hw=>by
  obtain ⟨cs,h1,h2⟩:=hl 0 y rfl
  obtain ⟨d,hd,hf⟩:=h.op enc W base sp held n cs y h2 (hw y (List.mem_cons_self ..))
  obtain ⟨xs,inner,e1,e2,e3,e4⟩:=Za1 h l (k+1) (fun i z hz=>by
   obtain ⟨cs',h1',h2'⟩:=hl (i+1) z (by simpa using hz)
   exact ⟨cs',by rw [show k+1+i=k+(i+1) by omega]; exact h1',h2'⟩) fun z hz=>hw z (List.mem_cons_of_mem _ hz)
  refine ⟨d :: xs,cs ++ inner,by simp [e1],⟨cs,inner,rfl,hd,e2⟩,fun j v hj=>?_,fun x hx=>?_⟩
  ·obtain ⟨_,hlen,hc⟩:=World.cells?_some h1
   rw [List.getElem?_append] at hj
   split at hj
   ·rename_i hlt
    have:=hc j (by omega)
    rw [hj,Deep.add_add] at this
    simpa using this
   ·have:=e3 _ _ hj
    rw [hlen,show (k+1)*t.n+(j - t.n)=k*t.n+j by rw [Nat.succ_mul]; omega] at this
    exact this
  ·rcases List.mem_cons.1 hx with rfl | hx
   ·exact hf
   ·exact e4 x hx
theorem Opens.slice {t:Ty} {E:Nat} {g:Bool} (hT:P.underlying T=some (.slice E)) (hc:P.cellsOf T=1) (hb:P.bytesOf E=bo E) (hn:Nat.ble 1 t.n=true) (h:Opens P bo t E g):Opens P bo (.slice E t) T false:=
 ⟨hc,fun h=>by obtain ⟨a,l,c,rfl⟩:=okWide_slice hT h; rfl,fun enc W base sp held fuel cs x hx hw=>by
  have hn:1≤t.n:=Nat.le_of_ble_eq_true hn
  rcases DataW.trod_slice hT hx with ⟨rfl,rfl⟩ | ⟨a,len,cap,elems,rest,n,_,rfl,rfl,_,hl,hm,hlen,hel,hsp,hns⟩
  ·exact ⟨[],⟨none,0,rfl,Nat.le_refl _,.inl rfl⟩,by simp [Ty.fit]⟩
  ·have hw1:∀ n∈(elems.length+rest.length)*P.bytesOf E :: (DataW.weightsAll P E (elems.map (·.1)) ++ DataW.weightsAll P E (rest.map (·.1))),n≤140737488351232:=by
    intro n hn
    refine hw n ?_
    simpa [DataW.weights,hT] using hn
   obtain ⟨xs,inner,e1,e2,e3,e4⟩:=Za1 (enc:=enc) (W:=W) (base:=base) (sp:=sp) (held:=held) (n:=n) h (a:=a) elems 0 (fun i y hy=>by
    have hi:i<len:=by rw [← hlen]; exact (List.getElem?_eq_some_iff.1 hy).1
    have:=hel i hi
    rw [hy,h.cells] at this
    obtain ⟨cs,h1,h2⟩:=Option.bind_eq_some_iff.1 this
    exact ⟨cs,by simpa using h1,h2⟩) fun y hy n hn=>hw1 n (by
     simp only [List.mem_cons,List.mem_append]
     exact .inr (.inl (Be (List.mem_map.2 ⟨y,hy,rfl⟩) n hn)))
   refine ⟨xs,⟨some a,cap,by rw [e1,hlen],by omega,?_⟩,by simp only [maxLen] at *; omega,?_,e4⟩
   ·cases xs with
    | nil=>exact .inl rfl
    | cons x xs=>
     have hil:=e2.length (m:=t.n) fun x c h=>t.ok_len h
     have hpos:0<inner.length:=by
      rw [hil]
      simp only [List.length_cons,Nat.succ_mul]
      omega
     have h0:=e3 0 inner[0] (by simp [hpos])
     have ha0:a.add (0*t.n+0)=a:=by simp [Addr.add]
     rw [ha0] at h0
     obtain ⟨b,off,sp'⟩:=a
     have hs:sp'=none:=by
      unfold World.cell? at h0
      cases sp' with
      | none=>rfl
      | some z=>split at h0 <;> simp at h0
     subst hs
     have hbl:b<W.heap.size:=by
      rcases Nat.lt_or_ge b W.heap.size with h' | h'
      ·exact h'
      ·simp [World.cell?,Array.getElem?_eq_none h'] at h0
     refine .inr ⟨b,off,inner,rfl,hbl,e2,fun j v hj=>?_⟩
     have:=e3 j v hj
     rw [Xg] at this
     simpa using this
   ·have:=hw1 _ (List.mem_cons_self ..)
    rw [hb] at this
    refine Nat.le_trans (Nat.mul_le_mul_right _ ?_) this
    omega⟩

def Ty.tup:List Ty→Ty
 | []=>.unit | [a]=>a | a :: b :: r=>.pair a (Ty.tup (b :: r))
def V1 (P:Program) (bo:Nat→Nat):List Ty→List Field→Nat→Prop
 | [],[],_=>True
 | t :: ts,f :: fs,o=>f.offset=o∧(∃ g,Opens P bo t f.type g)∧V1 P bo ts fs (o+t.n)
 | _,_,_=>False
theorem Za2 {H:Type} {enc:TypeId×Value→H} {W:World} {base:Nat} {sp:Nat→Bool} {held:Bool} {n:Nat} {cs:List Value} :
  ∀(ts:List Ty) (fs:List Field) (xs:List (DataW H×List MemPlace)) (o:Nat),V1 P bo ts fs o→xs.length=fs.length→
   (∀(i:Nat) (f:Field),fs[i]?=some f→DataW.trod enc P W base sp held n f.type ((cs.drop f.offset).take (P.cellsOf f.type))=xs[i]?)→
   (∀ n∈DataW.weightsEach P (fs.map (·.type)) (xs.map (·.1)),n≤140737488351232)→cs.length=o+(Ty.tup ts).n→
   ∃ d:(Ty.tup ts).D,(Ty.tup ts).ok W (fun b=>b<W.heap.size) d (cs.drop o)∧(Ty.tup ts).fit bo d
 | [],[],xs,o,_,_,_,_,hl=>⟨(),by simp [Ty.tup,Ty.n] at hl; simp [Ty.tup,Ty.ok,List.drop_eq_nil_of_le,hl],trivial⟩
 | [t],[f],[x],o,⟨h1,⟨g,h2⟩,_⟩,_,hx,hw,hl=>by
  have:=hx 0 f rfl
  subst h1
  rw [h2.cells,List.take_of_length_le (by simp [Ty.tup] at hl; simp [hl])] at this
  exact h2.op enc W base sp held n _ x this fun m hm=>hw m (by simp only [List.map,DataW.weightsEach,List.append_nil]; exact hm)
 | t :: u :: ts,f :: fs,x :: xs,o,⟨h1,⟨g,h2⟩,h3⟩,hlen,hx,hw,hl=>by
  have:=hx 0 f rfl
  subst h1
  rw [h2.cells] at this
  simp only [Ty.tup,Ty.n] at hl
  obtain ⟨d,hd,hf⟩:=h2.op enc W base sp held n _ x this fun m hm=>hw m (by simp only [List.map,DataW.weightsEach,List.mem_append]; exact .inl hm)
  obtain ⟨d',hd',hf'⟩:=Za2 (u :: ts) fs xs _ h3 (by simpa using hlen) (fun i f' hf'=>by simpa using hx (i+1) f' (by simpa using hf')) (fun m hm=>hw m (by simp only [List.map,DataW.weightsEach,List.mem_append]; exact .inr hm)) (by omega)
  refine ⟨(d,d'),⟨_,_,?_,hd,hd'⟩,hf,hf'⟩
  rw [← List.drop_drop]
  exact (List.take_append_drop _ _).symm
 | [],_ :: _,_,_,h,_,_,_,_=>h.elim
 | _ :: _,[],_,_,h,_,_,_,_=>by simp [V1] at h
 | [_],_ :: _ :: _,_,_,h,_,_,_,_=>by simp [V1] at h
 | _ :: _ :: _,[_],_,_,h,_,_,_,_=>by simp [V1] at h
 | _ :: _,_ :: _,[],_,_,h,_,_,_=>by simp at h
 | [_],[_],_ :: _ :: _,_,_,h,_,_,_=>by simp at h
theorem Opens.struct {ts:List Ty} {fs:List Field} (hT:P.underlying T=some (.struct fs.toArray)) (hc:P.cellsOf T=(Ty.tup ts).n) (h:V1 P bo ts fs 0):Opens P bo (Ty.tup ts) T true:=
 ⟨hc,fun h=>by
  simp only [Value.okWide,hT] at h
  obtain ⟨cs,rfl,_⟩:=h
  simp [Zhm,Value.cells],fun enc W base sp held fuel cs x hx hw=>by
  obtain ⟨xs,n,_,rfl,hl,hlen,hf⟩:=DataW.trod_struct hT hx
  have:=Za2 (enc:=enc) (W:=W) (base:=base) (sp:=sp) (held:=held) (n:=n) (cs:=cs) ts fs xs 0 h (by simpa using hlen) (fun i f hi=>hf i f (by simpa using hi)) (fun m hm=>hw m (by simpa [DataW.weights,hT] using hm)) (by rw [hl,hc]; simp)
  simpa using this⟩
theorem Opens.arg {t:Ty} {g:Bool} (h:Opens P bo t T g) {H:Type} {enc:TypeId×Value→H} {W:World} {r:Reach} {base b0:Nat} {sp:Nat→Bool} {held:Bool} {v:Value} {d:DataW H} {p:List MemPlace}
  (hok:Value.okWide P W r b0 T v) (hd:DataW.Trod enc P W base sp held T v d p) {ts:List TypeId} {ds:List (DataW H)} {j:Nat}
  (hsz:(DataW.weightsEach P ts ds).all (·≤reachBytes)=true) (ht:ts[j]?=some T) (hds:ds[j]?=some d) :
  ∃(x:t.D) (cs:List Value),t.ok W (fun b=>b<W.heap.size) x cs∧t.fit bo x∧v=Zhm g cs:=by
 obtain ⟨fuel,hf⟩:=hd
 obtain ⟨x,hx,hfit⟩:=h.op enc W base sp held fuel _ _ hf fun n hn=>by
  have:=List.all_eq_true.1 hsz _ (DataW.weights_mem_each ht hds n hn)
  exact of_decide_eq_true this
 exact ⟨x,_,hx,hfit,h.val hok⟩
end
theorem Spec.law {P:Program} {f:Nat} {args:List Value} {rd:List Ch} {r:Bool} (h:Spec P f args [] rd (fun v l=>v=.bool r∧l=[])) {W:World} (hrd:∀ c∈rd,∃ R,c.ok W R∧∀ b,R b→b<W.heap.size) :
  Calls P f args.toArray W fun e W'=>e=.returned (.bool r)∧Below W.heap.size W W':=by
 refine (h.2 W (fun _=>False) trivial (fun b hb=>hb.elim) fun c hc=>?_).mono ?_
 ·obtain ⟨R,h1,h2⟩:=hrd c hc
  exact ⟨R,h1,fun b hb=>⟨h2 b hb,fun e=>e⟩⟩
 ·rintro e W' ⟨v,post,F',rfl,⟨rfl,rfl⟩,hchg,_⟩
  exact ⟨rfl,hchg.below⟩
end Go.SK
