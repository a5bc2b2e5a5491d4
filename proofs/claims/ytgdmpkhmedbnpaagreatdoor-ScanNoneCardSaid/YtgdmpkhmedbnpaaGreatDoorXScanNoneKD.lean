/- Part of the library of this claim: how code is stepped through. -/
import Derived.Test.YtgdmpkhmedbnpaaGreatDoorXScanNoneKC
set_option linter.unusedVariables false
set_option linter.unusedSimpArgs false
namespace Go.SK
open Go Go.RowKit

def rws (E n:Nat):List Value→List Nat→List (List Value)→List Ch
 | u :: us,m :: ms,cs :: css=>Xv E n m cs u :: rws E n us ms css
 | _,_,_=>[]
theorem Zb3 {E n:Nat}:∀ {us:List Value} {ms:List Nat} {css:List (List Value)} {us':List Value} {ms':List Nat} {css':List (List Value)},us.length=ms.length→css.length=ms.length→rws E n (us ++ us') (ms ++ ms') (css ++ css')=rws E n us ms css ++ rws E n us' ms' css'
 | [],[],[],_,_,_,_,_=>rfl
 | u :: us,m :: ms,cs :: css,us',ms',css',h1,h2=>by
  simp only [List.cons_append,rws]
  rw [Zb3 (by simpa using h1) (by simpa using h2)]
theorem Zap {E n:Nat} (us:List Value):∀ {ms:List Nat} {css:List (List Value)} {i:Nat} {u:Value} {m:Nat} {cs:List Value},us[i]?=some u→ms[i]?=some m→css[i]?=some cs→nth (rws E n us ms css) i=some (Xv E n m cs u):=by
 induction us with
 | nil=>intro _ _ _ _ _ _ h; simp at h
 | cons u0 us ih=>
  intro ms css i u m cs h1 h2 h3
  cases ms with
  | nil=>simp at h2
  | cons m0 ms=>cases css with
   | nil=>simp at h3
   | cons c0 css=>cases i with
    | zero=>
     simp only [List.getElem?_cons_zero,Option.some.injEq] at h1 h2 h3
     subst h1; subst h2; subst h3; rfl
    | succ i=>
     simp only [List.getElem?_cons_succ] at h1 h2 h3
     exact ih h1 h2 h3
theorem SatH.split:∀ {A B:List Ch} {w:World} {F:Nat→Prop},SatH (A ++ B) w F→∃ F1 F2,SatH A w F1∧SatH B w F2∧(∀ b,F1 b→F b∧¬ F2 b)∧(∀ b,F2 b→F b)
 | [],B,w,F,h=>⟨fun _=>False,F,trivial,h,fun b hb=>hb.elim,fun b hb=>hb⟩
 | c :: A,B,w,F,⟨G1,G2,h1,h2,h3,h4⟩=>by
  obtain ⟨F1,F2,a,b,d,e⟩:=SatH.split h2
  exact ⟨fun x=>G1 x∨F1 x,F2,⟨G1,F1,h1,a,fun x hx=>⟨.inl hx,fun q=>(h3 x hx).2 (d x q).1⟩,fun x hx=>.inr hx⟩,b,fun x hx=>hx.elim (fun q=>⟨(h3 x q).1,fun z=>(h3 x q).2 (e x z)⟩) (fun q=>⟨h4 x (d x q).1,(d x q).2⟩),fun x hx=>h4 x (e x hx)⟩
section
variable {w0 w:World} {F0:Ft} {Hs Rs:List Ch}
theorem St.unpack {α:Type} {c:Ch} {l:α→List Ch} {p:α→Prop} (hc:∀ w F,c.ok w F→∃ x,p x∧SatH (l x) w F) (h:St w0 F0 (c :: Hs) Rs w):∃ x,p x∧St w0 F0 (l x ++ Hs) Rs w:=by
 obtain ⟨F,⟨F1,F2,h1,h2,h3,h4⟩,hb,hR⟩:=h.sat
 obtain ⟨x,hp,hx⟩:=hc _ _ h1
 refine ⟨x,hp,h.chg,fun b=>F1 b∨F2 b,SatH.join hx h2 fun b hb'=>(h3 b hb').2,fun b hb'=>hb b (hb'.elim (fun q=>(h3 b q).1) (h4 b)),fun d hd=>?_⟩
 obtain ⟨R,r,hRb⟩:=hR d hd
 exact ⟨R,r,fun b hb'=>⟨⟨(hRb b hb').1.1,fun q=>(hRb b hb').1.2 (q.elim (fun q=>(h3 b q).1) (h4 b))⟩,(hRb b hb').2⟩⟩
theorem St.pack {c:Ch} {l:List Ch} (hc:∀ w F,SatH l w F→c.ok w F) (h:St w0 F0 (l ++ Hs) Rs w):St w0 F0 (c :: Hs) Rs w:=by
 obtain ⟨F,hF,hb,hR⟩:=h.sat
 obtain ⟨F1,F2,h1,h2,h3,h4⟩:=hF.split
 exact ⟨h.chg,F,⟨F1,F2,hc _ _ h1,h2,h3,h4⟩,hb,hR⟩
theorem St.swap (h:St w0 F0 Hs Rs w) {k:Nat} {c:Ch} (hk:nth Hs k=some c):St w0 F0 (c :: Hs.eraseIdx k) Rs w:=by
 obtain ⟨F,hF,hb,hR⟩:=h.sat
 obtain ⟨F1,F2,h1,h2,h3,h4⟩:=hF.out hk
 exact ⟨h.chg,F,⟨F1,F2,h1,h2,h3,h4⟩,hb,hR⟩
end
theorem St.swap2 {w0 w:World} {F0:Ft} {Hs Rs:List Ch} {c d:Ch} {k:Nat} (h:St w0 F0 (d :: Hs) Rs w) (hk:nth Hs k=some c):St w0 F0 (d :: c :: Hs.eraseIdx k) Rs w:=by
 obtain ⟨F,⟨G1,G2,g1,g2,g3,g4⟩,hb,hR⟩:=h.sat
 obtain ⟨F1,F2,h1,h2,h3,h4⟩:=g2.out hk
 exact ⟨h.chg,F,⟨G1,fun b=>F1 b∨F2 b,g1,⟨F1,F2,h1,h2,fun b hb=>⟨.inl hb,(h3 b hb).2⟩,fun b hb=>.inr hb⟩,fun b hb=>⟨(g3 b hb).1,fun q=>(g3 b hb).2 (q.elim (fun q=>(h3 b q).1) (h4 b))⟩,fun b hb=>g4 b (hb.elim (fun q=>(h3 b q).1) (h4 b))⟩,hb,hR⟩
def W3 (E1 E2 n:Nat) (ms:List Nat) (css:List (List Value)) (v:Value):Ch where
 ok w F:=∃ us:List Value,(us.length=ms.length∧css.length=ms.length)∧SatH (Xv E1 1 ms.length us v :: rws E2 n us ms css) w F
 stable hs h:=⟨h.choose,h.choose_spec.1,SatH.stable hs h.choose_spec.2⟩
def Vq (E1 E2 n:Nat) (ms:List Nat) (css:List (List Value)) (v:Value) (ix:Int) (m:Nat) (A2:Option Addr) (c2:Nat):Ch where
 ok w F:=∃ us:List Value,((us.length=ms.length∧css.length=ms.length)∧us[ix.toNat]?=some (.slice A2 m c2))∧SatH (Xv E1 1 ms.length us v :: rws E2 n us ms css) w F
 stable hs h:=⟨h.choose,h.choose_spec.1,SatH.stable hs h.choose_spec.2⟩
def Elems2 {α:Type} (ok:α→List Value→Prop):List (List α)→List (List Value)→Prop
 | [],[]=>True
 | xs :: xss,cs :: css=>Elems ok xs cs∧Elems2 ok xss css
 | _,_=>False
theorem Elems2.imp {α:Type} {ok ok':α→List Value→Prop} (h:∀ x c,ok x c→ok' x c):∀ {xss:List (List α)} {css:List (List Value)},Elems2 ok xss css→Elems2 ok' xss css
 | [],[],_=>trivial
 | _ :: _,_ :: _,⟨a,b⟩=>⟨a.imp h,Elems2.imp h b⟩
theorem Elems2.append {α:Type} {ok:α→List Value→Prop}:∀ {xss yss:List (List α)} {css dss:List (List Value)},Elems2 ok xss css→Elems2 ok yss dss→Elems2 ok (xss ++ yss) (css ++ dss)
 | [],_,[],_,_,h=>h
 | _ :: _,_,_ :: _,_,⟨a,b⟩,h=>⟨a,Elems2.append b h⟩
theorem Elems2.length {α:Type} {ok:α→List Value→Prop}:∀ {xss:List (List α)} {css:List (List Value)},Elems2 ok xss css→css.length=xss.length
 | [],[],_=>rfl
 | _ :: _,_ :: _,⟨_,b⟩=>by simp [Elems2.length b]
theorem Elems2.get {α:Type} {ok:α→List Value→Prop}:∀ {xss:List (List α)} {css:List (List Value)},Elems2 ok xss css→∀ {i:Nat} {xs:List α},xss[i]?=some xs→∃ cs,css[i]?=some cs∧Elems ok xs cs
 | [],_,_,_,_,hx=>by simp at hx
 | _ :: _,cs :: _,⟨a,b⟩,0,xs,hx=>by
  simp only [List.getElem?_cons_zero,Option.some.injEq] at hx
  subst hx
  exact ⟨cs,rfl,a⟩
 | _ :: _,_ :: _,⟨a,b⟩,i+1,xs,hx=>by
  simp only [List.getElem?_cons_succ] at hx ⊢
  exact Elems2.get b hx
theorem Elems2.set {α:Type} {ok:α→List Value→Prop}:∀ {xss:List (List α)} {css:List (List Value)},Elems2 ok xss css→∀(i:Nat) {xs:List α} {cs:List Value},Elems ok xs cs→Elems2 ok (xss.set i xs) (css.set i cs)
 | [],[],_,_,_,_,_=>trivial
 | _ :: _,_ :: _,⟨a,b⟩,0,_,_,h=>⟨h,b⟩
 | _ :: _,_ :: _,⟨a,b⟩,i+1,_,_,h=>⟨a,Elems2.set b i h⟩
def J6 (t:Ty) (xss:List (List t.D)) (css:List (List Value)):Ch where
 ok w F:=Elems2 (t.ok w F) xss css
 stable hs h:=h.imp fun x c h=>t.ok_stable hs h
section
variable {P:Program} {tt:TT} {env:Env} {o:Oper} {w0 w:World} {F0:Ft} {Hs Rs:List Ch}
abbrev Y6 {α:Type} (xss:List (List α)):List Nat:=xss.map List.length
theorem St.know (h:St w0 F0 Hs Rs w) {c:Ch} (hc:∀ w,c.ok w fun _=>False):St w0 F0 Hs (c :: Rs) w:=by
 obtain ⟨F,hF,hb,hR⟩:=h.sat
 refine ⟨h.chg,F,hF,hb,fun d hd=>?_⟩
 rcases List.mem_cons.1 hd with rfl | hd
 ·exact ⟨fun _=>False,hc w,fun _ hb=>hb.elim⟩
 ·exact hR d hd
theorem Zdc [q:TTI P tt] {T e:Nat} {z1 z2:Nat} {z:Value} {ie:TI} {x:Operand} {E2 n c:Nat} {A:Option Addr} {t:Ty} {xs:List t.D} {cs:List Value} (k i:Nat) (hS:St w0 F0 Hs Rs w) (hi:nth Rs i=some (esC t xs cs):=by exact rfl) (hk:nth Hs k=some (Xv E2 n xs.length cs (.slice A xs.length c)):=by exact rfl) (ho:o.op=.buildSlice T 1 #[(0,x)]:=by exact rfl) (hx:Zq env x=some (.slice A xs.length c):=by exact rfl)
  (ht:find tt T=some ⟨.slice e,z1,z2,z⟩:=by exact rfl) (hie:find tt e=some ie:=by exact rfl) (hz:ie.size=1:=by exact rfl) :
  OpT P o env w (fun v w'=>∃ b css,v=.slice (some ⟨b,0,none⟩) [xs].length 1∧St w0 F0 (W3 e E2 n (Y6 [xs]) css (.slice (some ⟨b,0,none⟩) [xs].length 1) :: Hs.eraseIdx k) (J6 t [xs] css :: Rs) w'):=
 OpT.value fun nn a hf=>⟨_,_,Zat q.ok ho ht hie (vs:=[.slice A xs.length c]) rfl (by rw [hz]; rfl) (by simp [Yv,hx]) rfl (by rw [hz]; rfl) hf,w.heap.size,[cs],rfl,by
  have hfl:([Value.slice A xs.length c].flatMap (fun v=>v.cells.toList))=[.slice A xs.length c]:=rfl
  rw [hfl]
  have hown:=World.ownsRow_lit (base:=0) (e:=e) (size:=1) w #[.slice A xs.length c] 1 (Nat.zero_le _) (by decide) (by simp)
  have h1:St w0 F0 (Xv e 1 1 [.slice A xs.length c] (.slice (some ⟨w.heap.size,0,none⟩) 1 1) :: Hs) Rs (w.alloc (.cells #[.slice A xs.length c] e)):=hS.add (F':=fun b=>b=w.heap.size) (Chg.alloc w _ _) ⟨by simpa using hown,fun b hb=>by simp [Value.ownBlock] at hb; exact hb.symm,fun u hu=>by
   simp only [List.mem_singleton] at hu
   subst hu; rfl⟩ (fun b hb=>by subst hb; simp)
  have h2:St w0 F0 ([Xv e 1 1 [.slice A xs.length c] (.slice (some ⟨w.heap.size,0,none⟩) 1 1),Xv E2 n xs.length cs (.slice A xs.length c)] ++ Hs.eraseIdx k) Rs (w.alloc (.cells #[.slice A xs.length c] e)):=by
   exact h1.swap2 hk
  have h3:=h2.pack (c:=W3 e E2 n (Y6 [xs]) [cs] (.slice (some ⟨w.heap.size,0,none⟩) [xs].length 1)) (fun w F hF=>⟨[.slice A xs.length c],⟨rfl,rfl⟩,hF⟩)
  exact h3.read (k:=i) hi fun w F h=>⟨h,trivial⟩⟩
theorem Zk4 {E n:Nat} (us:List Value):∀ {ms:List Nat} {css:List (List Value)},us.length=ms.length→css.length=ms.length→(rws E n us ms css).length=us.length:=by
 induction us with
 | nil=>intro ms css _ _; cases ms <;> cases css <;> rfl
 | cons u us ih=>
  intro ms css h1 h2
  cases ms with
  | nil=>simp at h1
  | cons m ms=>cases css with
   | nil=>simp at h2
   | cons c css=>simp only [rws,List.length_cons]; rw [ih (by simpa using h1) (by simpa using h2)]
theorem Zhy {E n:Nat} (us:List Value):∀ {ms:List Nat} {css:List (List Value)} {i:Nat} {cs:List Value} {u:Value} {m:Nat},us[i]?=some u→ms[i]?=some m→i<css.length→∀ {X:List Ch},(∀ w F,SatH (Xv E n m cs u :: (rws E n us ms css).eraseIdx i) w F→SatH (rws E n us ms (css.set i cs)) w F):=by
 induction us with
 | nil=>intro _ _ _ _ _ _ h; simp at h
 | cons u0 us ih=>
  intro ms css i cs u m h1 h2 h3 X
  cases ms with
  | nil=>simp at h2
  | cons m0 ms=>cases css with
   | nil=>simp at h3
   | cons c0 css=>cases i with
    | zero=>
     simp only [List.getElem?_cons_zero,Option.some.injEq] at h1 h2
     subst h1; subst h2
     exact fun w F h=>h
    | succ i=>
     simp only [List.getElem?_cons_succ] at h1 h2
     have hi:=ih (cs:=cs) h1 h2 (by simpa using h3) (X:=X)
     intro w F h
     simp only [rws,List.eraseIdx_cons_succ,List.set_cons_succ] at h ⊢
     obtain ⟨F1,F2,a1,⟨F3,F4,b1,b2,b3,b4⟩,a3,a4⟩:=h
     exact ⟨F3,fun b=>F1 b∨F4 b,b1,hi w _ ⟨F1,F4,a1,b2,fun b hb=>⟨.inl hb,fun q=>(a3 b hb).2 (b4 b q)⟩,fun b hb=>.inr hb⟩,fun b hb=>⟨a4 b (b3 b hb).1,fun q=>q.elim (fun q=>(a3 b q).2 (b3 b hb).1) (b3 b hb).2⟩,fun b hb=>hb.elim (fun q=>(a3 b q).1) (fun q=>a4 b (b4 b q))⟩
theorem Zbn {α:Type} [Inhabited α] {xss:List (List α)} {ix:Int} (h0:0≤ix) (h1:ix<xss.length):(Y6 xss)[ix.toNat]?=some (gt xss ix).length:=by
 rw [List.getElem?_map,Up h0 h1]; rfl
theorem St.openN {E1 E2 n c:Nat} {α:Type} [Inhabited α] {xss:List (List α)} {css:List (List Value)} {A:Option Addr} (k:Nat) (h:St w0 F0 Hs Rs w) {ix:Int} (h0:0≤ix) (h1:ix<xss.length) (hk:nth Hs k=some (W3 E1 E2 n (Y6 xss) css (.slice A xss.length c)):=by exact rfl) :
  ∃ A2 c2,St w0 F0 (Vq E1 E2 n (Y6 xss) css (.slice A xss.length c) ix (gt xss ix).length A2 c2 :: Hs.eraseIdx k) Rs w:=by
 have h2:=h.swap hk
 obtain ⟨F,⟨F1,F2,⟨us,⟨l1,l2⟩,hs⟩,s2,s3,s4⟩,hb,hR⟩:=h2.sat
 have hi:ix.toNat<us.length:=by rw [l1,List.length_map]; omega
 have hc:ix.toNat<css.length:=by rw [l2,List.length_map]; omega
 obtain ⟨G1,G2,g1,g2,g3,g4⟩:=hs
 obtain ⟨K,kk,_⟩:=g2.at (Zap us (List.getElem?_eq_getElem hi) (Zbn h0 h1) (List.getElem?_eq_getElem hc))
 have hsh:∃ A2 c2,us[ix.toNat]=.slice A2 (gt xss ix).length c2:=by
  rcases kk.1.2 with ⟨e,hn⟩ | ⟨g,cap,cur,e,_⟩
  ·exact ⟨none,0,by rw [e,hn]⟩
  ·exact ⟨_,_,e⟩
 obtain ⟨A2,c2,e⟩:=hsh
 exact ⟨A2,c2,h2.chg,F,⟨F1,F2,⟨us,⟨⟨l1,l2⟩,by rw [List.getElem?_eq_getElem hi,e]⟩,⟨G1,G2,g1,g2,g3,g4⟩⟩,s2,s3,s4⟩,hb,hR⟩
theorem Zgr {E1 E2 n m c2:Nat} {ms:List Nat} {css:List (List Value)} {v:Value} {ix:Int} {A2:Option Addr} (w:World) (F:Nat→Prop) (h:(Vq E1 E2 n ms css v ix m A2 c2).ok w F):(W3 E1 E2 n ms css v).ok w F:=by
 obtain ⟨us,⟨a,b⟩,c⟩:=h
 exact ⟨us,a,c⟩
theorem St.closeN {E1 E2 n m c2:Nat} {ms:List Nat} {css:List (List Value)} {v:Value} {ix:Int} {A2:Option Addr} (k:Nat) (h:St w0 F0 Hs Rs w) (hk:nth Hs k=some (Vq E1 E2 n ms css v ix m A2 c2):=by exact rfl):St w0 F0 (W3 E1 E2 n ms css v :: Hs.eraseIdx k) Rs w:=by
 have h2:=h.swap hk
 obtain ⟨F,⟨F1,F2,s1,s2,s3,s4⟩,hb,hR⟩:=h2.sat
 exact ⟨h2.chg,F,⟨F1,F2,Zgr _ _ s1,s2,s3,s4⟩,hb,hR⟩
theorem St.nestA {E1 E2 n c:Nat} {α:Type} {xss:List (List α)} {css:List (List Value)} {A:Option Addr} (k:Nat) (h:St w0 F0 Hs Rs w) {ix:Int} (h0:0≤ix) (h1:ix<xss.length) (hk:nth Hs k=some (W3 E1 E2 n (Y6 xss) css (.slice A xss.length c)):=by exact rfl):A=some ⟨blk A,ofs A,none⟩:=by
 obtain ⟨F,hF,_⟩:=h.own hk
 obtain ⟨us,_,G1,G2,g1,_⟩:=hF
 rcases g1.1.2 with ⟨e,hn⟩ | ⟨g,cap,cur,e,_⟩
 ·rw [List.length_map] at hn; omega
 ·simp only [Value.slice.injEq] at e
  rw [e.1]; rfl
theorem St.nestA2 {E1 E2 n m c2:Nat} {ms:List Nat} {css:List (List Value)} {v:Value} {ix jx:Int} {A2:Option Addr} (k:Nat) (h:St w0 F0 Hs Rs w) (h0:0≤jx) (h1:jx<m) (hk:nth Hs k=some (Vq E1 E2 n ms css v ix m A2 c2):=by exact rfl):A2=some ⟨blk A2,ofs A2,none⟩:=by
 obtain ⟨F,hF,_⟩:=h.own hk
 obtain ⟨us,⟨⟨l1,l2⟩,hu⟩,G1,G2,g1,g2,_⟩:=hF
 have hi:ix.toNat<us.length:=(List.getElem?_eq_some_iff.1 hu).1
 obtain ⟨K,kk,_⟩:=g2.at (Zap us hu (List.getElem?_eq_getElem (by omega)) (List.getElem?_eq_getElem (by omega)))
 rcases kk.1.2 with ⟨e,hn⟩ | ⟨g,cap,cur,e,_⟩
 ·simp only [Value.slice.injEq] at e
  omega
 ·simp only [Value.slice.injEq] at e
  rw [e.1]; rfl
theorem Zew [q:TTI P tt] {S:World→Prop} {ty E1 E2 n m mm c c2:Nat} {x:Operand} {i:TI} {A A2:Option Addr} {ms:List Nat} {css:List (List Value)} {v:Value} {ix:Int} (k:Nat) (hS:∀ w,S w→Wh w0 F0 Hs Rs w) (hA:A=some ⟨blk A,ofs A,none⟩) (hk:nth Hs k=some (Vq E1 E2 n ms css (.slice A mm c) ix m A2 c2):=by exact rfl) (ho:o.op=.load ty x:=by exact rfl)
  (hi:find tt ty=some i:=by exact rfl) (ha:Zq env x=some (.pointer (some ⟨blk A,ofs A+ix.toNat*1+0,none⟩)):=by exact rfl) (hn:i.size=1:=by exact rfl) (hp:Wu i [.slice A2 m c2]=some v:=by exact rfl):QOp P o env S v:=
 Jk q.ok ho hi ha (cs:=[.slice A2 m c2]) (fun w h=>by
  obtain ⟨F,hF,_⟩:=(hS w h).gives (c:=Vq E1 E2 n ms css (.slice A mm c) ix m A2 c2) ⟨_,List.mem_append_left _ (by rw [Yu] at hk; exact List.mem_of_getElem? hk),fun _ _ h=>h⟩
  obtain ⟨us,⟨⟨l1,l2⟩,hu⟩,G1,G2,g1,_⟩:=hF
  intro j u hj
  have hob:(Value.slice A mm c).ownBlock=some (blk A):=by rw [hA]; rfl
  have hof:ofs A=0:=by
   rcases g1.1.2 with ⟨e,_⟩ | ⟨g,cap,cur,e,_⟩
   ·simp only [Value.slice.injEq] at e
    rw [e.1] at hA; cases hA
   ·simp only [Value.slice.injEq] at e
    rw [e.1]; rfl
  cases j with
  | succ j=>simp at hj
  | zero=>
   simp only [List.getElem?_cons_zero,Option.some.injEq] at hj
   subst hj
   have hmm:ms.length=mm:=by
    rcases g1.1.2 with ⟨e,hn⟩ | ⟨g,cap,cur,e,_⟩
    ·simp only [Value.slice.injEq] at e; omega
    ·simp only [Value.slice.injEq] at e; omega
   have:=g1.1.cells hob ix.toNat _ hu
   rw [Xg] at this
   rw [hof,show 0+ix.toNat*1+0+0=0+ix.toNat by omega]
   exact this) hp
theorem St.essEl {t:Ty} [Inhabited t.D] {xss:List (List t.D)} {css:List (List Value)} (i:Nat) (h:St w0 F0 Hs Rs w) {ix jx:Int} (h0:0≤ix) (h1:ix<xss.length) (j0:0≤jx) (j1:jx<(gt xss ix).length) (hi:nth Rs i=some (J6 t xss css):=by exact rfl):∃ cl,cut (gt css ix) jx.toNat t.n=cl∧St w0 F0 Hs (okC t (gt (gt xss ix) jx) cl :: Rs) w:=by
 refine ⟨_,rfl,h.read (k:=i) hi fun w F hF=>?_⟩
 obtain ⟨cs,e,he⟩:=hF.get (Up h0 h1)
 have hcs:gt css ix=cs:=by unfold gt; rw [List.getD_eq_getElem?_getD,e]; rfl
 rw [hcs]
 exact Elems.cut (fun x c h=>t.ok_len h) he (Up j0 j1)
theorem Zk9 [q:TTI P tt] {S:World→Prop} {ty E1 E2 n m c2:Nat} {x:Operand} {i:TI} {A2:Option Addr} {ms:List Nat} {css:List (List Value)} {cl:List Value} {v vv:Value} {ix jx:Int} {f:Nat} (k:Nat) (hS:∀ w,S w→Wh w0 F0 Hs Rs w) (hA:A2=some ⟨blk A2,ofs A2,none⟩) (hc:cut (gt css ix) jx.toNat n=cl) (hk:nth Hs k=some (Vq E1 E2 n ms css vv ix m A2 c2):=by exact rfl) (ho:o.op=.load ty x:=by exact rfl)
  (hi:find tt ty=some i:=by exact rfl) (ha:Zq env x=some (.pointer (some ⟨blk A2,ofs A2+jx.toNat*n+f,none⟩)):=by exact rfl) (hn:f+i.size≤n:=by decide) (hp:Wu i ((cl.drop f).take i.size)=some v:=by exact rfl):QOp P o env S v:=
 Jk q.ok ho hi ha (fun w h=>by
  obtain ⟨F,hF,_⟩:=(hS w h).gives (c:=Vq E1 E2 n ms css vv ix m A2 c2) ⟨_,List.mem_append_left _ (by rw [Yu] at hk; exact List.mem_of_getElem? hk),fun _ _ h=>h⟩
  obtain ⟨us,⟨⟨l1,l2⟩,hu⟩,G1,G2,g1,g2,_⟩:=hF
  have hiu:ix.toNat<us.length:=(List.getElem?_eq_some_iff.1 hu).1
  have hcc:css[ix.toNat]?=some (gt css ix):=by unfold gt; rw [List.getD_eq_getElem?_getD,List.getElem?_eq_getElem (show ix.toNat<css.length by omega)]; rfl
  obtain ⟨K,kk,_⟩:=g2.at (Zap us hu (List.getElem?_eq_getElem (show ix.toNat<ms.length by omega)) hcc)
  intro j u hj
  have hob:(Value.slice A2 m c2).ownBlock=some (blk A2):=by rw [hA]; rfl
  have hof:ofs A2=0:=by
   rcases kk.1.2 with ⟨e,_⟩ | ⟨g,cap,cur,e,_⟩
   ·simp only [Value.slice.injEq] at e
    rw [e.1] at hA; cases hA
   ·simp only [Value.slice.injEq] at e
    rw [e.1]; rfl
  rw [List.getElem?_take] at hj
  split at hj
  ·rename_i hjj
   rw [List.getElem?_drop,← hc] at hj
   unfold cut at hj
   rw [List.getElem?_take] at hj
   split at hj
   ·rw [List.getElem?_drop] at hj
    have:=kk.1.cells hob _ u hj
    rw [Xg] at this
    rw [hof,show 0+jx.toNat*n+f+j=0+(jx.toNat*n+(f+j)) by omega]
    exact this
   ·cases hj
  ·cases hj) hp
theorem SatH.flip {a b:Ch} {L:List Ch} {w:World} {F:Nat→Prop} (h:SatH (a :: b :: L) w F):SatH (b :: a :: L) w F:=by
 obtain ⟨F1,F2,a1,⟨F3,F4,b1,b2,b3,b4⟩,a3,a4⟩:=h
 exact ⟨F3,fun b=>F1 b∨F4 b,b1,⟨F1,F4,a1,b2,fun b hb=>⟨.inl hb,fun q=>(a3 b hb).2 (b4 b q)⟩,fun b hb=>.inr hb⟩,fun b hb=>⟨a4 b (b3 b hb).1,fun q=>q.elim (fun q=>(a3 b q).2 (b3 b hb).1) (b3 b hb).2⟩,fun b hb=>hb.elim (fun q=>(a3 b q).1) (fun q=>a4 b (b4 b q))⟩
theorem Zkd {α:Type} [Inhabited α] {xss:List (List α)} {ix:Int} (h0:0≤ix) (h1:ix<xss.length) {ys:List α} (h:ys.length=(gt xss ix).length):Y6 (xss.set ix.toNat ys)=Y6 xss:=by
 apply List.ext_getElem?
 intro j
 rw [List.getElem?_map,List.getElem?_map,List.getElem?_set]
 by_cases e:ix.toNat=j
 ·subst e
  rw [if_pos rfl,if_pos (by omega),Up h0 h1]
  simp [h]
 ·rw [if_neg e]
theorem Zmj {α:Type} [Inhabited α] {xs:List α} {ix:Int} (h0:0≤ix) (h1:ix<xs.length) (y:α):gt (xs.set ix.toNat y) ix=y:=by
 have:=Up (xs:=xs.set ix.toNat y) h0 (by rw [List.length_set]; exact h1)
 rw [List.getElem?_set,if_pos rfl,if_pos (by omega)] at this
 exact (Option.some.inj this).symm
theorem Zfb [q:TTI P tt] {t E1 E2 n c c2:Nat} {x y:Operand} {i:TI} {ty:Ty} [Inhabited ty.D] {xss:List (List ty.D)} {A A2:Option Addr} {css:List (List Value)} {cl:List Value} {v:Value} {ix jx:Int} {f:Nat} (new:ty.D) (k j:Nat) (hS:St w0 F0 Hs Rs w) (h0:0≤ix) (h1:ix<xss.length) (j0:0≤jx) (j1:jx<(gt xss ix).length) (hA:A2=some ⟨blk A2,ofs A2,none⟩) (hc:cut (gt css ix) jx.toNat n=cl) {cl':List Value} (hel:Bq Rs ty new cl') (ho:o.op=.store t x y:=by exact rfl) (hj:nth Rs j=some (J6 ty xss css):=by exact rfl) (hk:nth Hs k=some (Vq E1 E2 n (Y6 xss) css (.slice A xss.length c) ix (gt xss ix).length A2 c2):=by exact rfl) (hi:find tt t=some i:=by exact rfl)
  (ha:Zq env x=some (.pointer (some ⟨blk A2,ofs A2+jx.toNat*n+f,none⟩)):=by exact rfl) (hv:Zq env y=some v:=by exact rfl) (hsz:Nat.beq v.cells.toList.length i.size=true:=by exact rfl) (hle:Nat.ble (f+i.size) n=true:=by exact rfl) (hc1:v.cells.toList.all (fun u=>u.oneCell')=true:=by exact rfl) (hty:ty.n=n:=by exact rfl) (hl:nfK (Zy f v.cells.toList cl) some=nfK cl' some:=by exact rfl) :
  OpT P o env w (fun _ w'=>∃ css',St w0 F0 (Vq E1 E2 n (Y6 (xss.set ix.toNat ((gt xss ix).set jx.toNat new))) css' (.slice A (xss.set ix.toNat ((gt xss ix).set jx.toNat new)).length c) ix (gt (xss.set ix.toNat ((gt xss ix).set jx.toNat new)) ix).length A2 c2 :: Hs.eraseIdx k) (J6 ty (xss.set ix.toNat ((gt xss ix).set jx.toNat new)) css' :: Rs) w'):=by
 rw [Ur,Ur] at hl
 injection hl with hl
 rw [← hl] at hel
 have h2:=(Zng hS hel).swap hk
 obtain ⟨us,⟨⟨l1,l2⟩,hu⟩,h3⟩:=St.unpack (l:=fun us=>Xv E1 1 (Y6 xss).length us (.slice A xss.length c) :: rws E2 n us (Y6 xss) css) (p:=fun us=>(us.length=(Y6 xss).length∧css.length=(Y6 xss).length)∧us[ix.toNat]?=some (.slice A2 (gt xss ix).length c2)) (fun w F h=>h) h2
 have hiu:ix.toNat<us.length:=(List.getElem?_eq_some_iff.1 hu).1
 have hcl:ix.toNat<css.length:=by omega
 have hcc:css[ix.toNat]?=some (gt css ix):=by unfold gt; rw [List.getD_eq_getElem?_getD,List.getElem?_eq_getElem hcl]; rfl
 have hr:=Zap (E:=E2) (n:=n) us hu (Zbn h0 h1) hcc
 have hlenr:(rws E2 n us (Y6 xss) css).length=us.length:=Zk4 us l1 l2
 have hk3:nth ((Xv E1 1 (Y6 xss).length us (.slice A xss.length c) :: rws E2 n us (Y6 xss) css) ++ Hs.eraseIdx k) (ix.toNat+1)=some (Xv E2 n (gt xss ix).length (gt css ix) (.slice A2 (gt xss ix).length c2)):=by
  rw [Yu] at hr ⊢
  rw [List.cons_append,List.getElem?_cons_succ,List.getElem?_append_left (by omega),hr]
 obtain ⟨F,hF,_⟩:=h3.own hk3
 have hlen:(gt css ix).length=(gt xss ix).length*n:=hF.1.1
 have hmul:jx.toNat*n+n≤(gt css ix).length:=by rw [hlen,← Nat.succ_mul]; exact Nat.mul_le_mul_right _ (by omega)
 have hle':f+v.cells.toList.length≤n:=by rw [Nat.eq_of_beq_eq_true hsz]; exact Nat.le_of_ble_eq_true hle
 have h4:=Zhh (P:=P) (o:=o) (env:=env) (w:=w) (ix:=jx.toNat) (f:=f) (ix.toNat+1) h3 (by omega) hA ho hk3 hi ha hv hsz hle hc1
 refine h4.imp fun v' w' h=>?_
 rw [Zia hc hle' hmul] at h
 have hel2:(gt xss ix).length=((gt xss ix).set jx.toNat new).length:=by rw [List.length_set]
 refine ⟨css.set ix.toNat (Zy (jx.toNat*n) (Zy f v.cells.toList cl) (gt css ix)),?_⟩
 rw [Zkd h0 h1 hel2.symm,List.length_set,Zmj h0 h1,List.length_set]
 rw [List.cons_append,List.eraseIdx_cons_succ,List.eraseIdx_append_of_lt_length (by omega),← List.cons_append,← List.cons_append] at h
 have h5:=h.pack (c:=Vq E1 E2 n (Y6 xss) (css.set ix.toNat (Zy (jx.toNat*n) (Zy f v.cells.toList cl) (gt css ix))) (.slice A xss.length c) ix (gt xss ix).length A2 c2) (fun w F hF=>by
  obtain ⟨F1,F2,a1,a2,a3,a4⟩:=SatH.flip hF
  exact ⟨us,⟨⟨l1,by rw [List.length_set]; exact l2⟩,hu⟩,⟨F1,F2,a1,Zhy us hu (Zbn h0 h1) hcl (X:=[]) _ _ a2,a3,a4⟩⟩)
 have h6:=h5.read2 (c:=J6 ty (xss.set ix.toNat ((gt xss ix).set jx.toNat new)) (css.set ix.toNat (Zy (jx.toNat*n) (Zy f v.cells.toList cl) (gt css ix)))) (j+1) 0 (by simpa [nth] using hj) rfl fun w F1 F2 a b=>by
  have a':Elems2 (ty.ok w fun b=>F1 b∨F2 b) xss css:=Elems2.imp (fun x c h=>ty.ok_mono (fun _ h=>.inl h) h) a
  obtain ⟨cs,e,he⟩:=a'.get (Up h0 h1)
  have hcs:gt css ix=cs:=by rw [hcc] at e; exact Option.some.inj e
  rw [hcs]
  refine a'.set ix.toNat ?_
  rw [← hty]
  exact Elems.set (fun x c h=>ty.ok_len h) he (by omega) (ty.ok_mono (fun _ h=>.inr h) b)
 exact h6.drop1
theorem Zls {E m:Nat} {t:Ty} {xs:List t.D} {cs:List Value} {v:Value} {w:World} {F1 F2:Nat→Prop} (a:(Xv E t.n m cs v).ok w F1) (b:Elems (t.ok w F2) xs cs) (hm:m=xs.length):(rdC E t xs v).ok w (fun b=>F1 b∨F2 b):=by
 subst hm
 obtain ⟨⟨hlen,hown⟩,hF,_⟩:=a
 rcases hown with ⟨rfl,hn⟩ | ⟨g,cap,cur,rfl,_,hh,hnc,_,hsz,htake⟩
 ·have:xs=[]:=List.eq_nil_of_length_eq_zero hn
  subst this
  exact ⟨none,0,rfl,Nat.le_refl _,.inl rfl⟩
 ·refine ⟨some ⟨g,0,none⟩,cap,rfl,hnc,.inr ⟨g,0,cs,rfl,.inl (hF g rfl),b.imp fun x c h=>t.ok_mono (fun _ h=>.inr h) h,fun j u hu=>?_⟩⟩
  have:=World.ownsRow.cells (base:=0) (e:=E) (size:=t.n) (v:=.slice (some ⟨g,0,none⟩) xs.length cap) (n:=xs.length) (xs:=cs) ⟨hlen,.inr ⟨g,cap,cur,rfl,Nat.zero_le _,hh,hnc,by assumption,hsz,htake⟩⟩ (g:=g) rfl j u hu
  rw [Xg] at this
  exact this
theorem Zmv {E:Nat} {t:Ty} {w:World} {F2:Nat→Prop} (xss:List (List t.D)):∀ {us:List Value} {css:List (List Value)} {F1:Nat→Prop},us.length=(Y6 xss).length→SatH (rws E t.n us (Y6 xss) css) w F1→Elems2 (t.ok w F2) xss css→Elems ((Ty.slice E t).ok w fun b=>F1 b∨F2 b) xss us:=by
 induction xss with
 | nil=>
  intro us css F1 hl _ _
  exact List.eq_nil_of_length_eq_zero (by simpa using hl)
 | cons xs xss ih=>
  intro us css F1 hl hs he
  cases us with
  | nil=>simp at hl
  | cons u us=>cases css with
   | nil=>exact he.elim
   | cons cs css=>
    obtain ⟨G1,G2,g1,g2,g3,g4⟩:=hs
    exact ⟨[u],us,rfl,(Ty.slice E t).ok_mono (fun b hb=>hb.imp (fun q=>(g3 b q).1) id) (Zls g1 he.1 rfl),(ih (by simpa using hl) g2 he.2).imp fun x c h=>(Ty.slice E t).ok_mono (fun b hb=>hb.imp (g4 b) id) h⟩
theorem St.nestFreeze {E1 E2 c:Nat} {t:Ty} {xss:List (List t.D)} {css:List (List Value)} {A:Option Addr} (k i:Nat) (h:St w0 F0 Hs Rs w) (hi:nth Rs i=some (J6 t xss css):=by exact rfl) (hk:nth Hs k=some (W3 E1 E2 t.n (Y6 xss) css (.slice A xss.length c)):=by exact rfl):St w0 F0 (Hs.eraseIdx k) (rdC E1 (.slice E2 t) xss (.slice A xss.length c) :: Rs) w:=by
 have h1:=h.freeze (c':=W3 E1 E2 t.n (Y6 xss) css (.slice A xss.length c)) hk (fun _ _ h=>h)
 refine (h1.read2 (c:=rdC E1 (.slice E2 t) xss (.slice A xss.length c)) 0 (i+1) rfl (by simpa [nth] using hi) fun w F1 F2 a b=>?_).drop1
 obtain ⟨us,⟨l1,l2⟩,G1,G2,g1,g2,g3,g4⟩:=a
 have hel:=Zmv xss l1 g2 b
 obtain ⟨⟨hlen,hown⟩,hF,hones⟩:=g1
 rcases hown with ⟨e,hn⟩ | ⟨g,cap,cur,e,_,hh,hnc,_,hsz,htake⟩
 ·have:xss=[]:=List.eq_nil_of_length_eq_zero (by rw [← List.length_map (f:=List.length)]; exact hn)
  subst this
  simp only [Value.slice.injEq] at e
  obtain ⟨rfl,_,rfl⟩:=e
  exact ⟨none,0,rfl,Nat.le_refl _,.inl rfl⟩
 ·simp only [Value.slice.injEq] at e
  obtain ⟨rfl,_,rfl⟩:=e
  refine ⟨some ⟨g,0,none⟩,c,rfl,by simpa using hnc,.inr ⟨g,0,us,rfl,.inl (g3 g (hF g rfl)).1,hel.imp fun x c h=>(Ty.slice E2 t).ok_mono (fun b hb=>hb.imp (g4 b) id) h,fun j u hu=>?_⟩⟩
  have:=World.ownsRow.cells (base:=0) (e:=E1) (size:=1) (v:=.slice (some ⟨g,0,none⟩) xss.length c) (n:=(Y6 xss).length) (xs:=us) ⟨hlen,.inr ⟨g,c,cur,by rw [List.length_map],Nat.zero_le _,hh,hnc,by assumption,hsz,htake⟩⟩ (g:=g) rfl j u hu
  rw [Xg] at this
  exact this
theorem Zf2 {w:World} {F:Nat→Prop}:∀ {us:List Value},(∀ u∈us,u.oneCell'=true)→Elems (Ty.val.ok w F) us us
 | [],_=>rfl
 | u :: us,h=>⟨[u],us,rfl,⟨rfl,h u List.mem_cons_self⟩,Zf2 fun x hx=>h x (List.mem_cons_of_mem _ hx)⟩
theorem Zh6 [q:TTI P tt] {t e:Nat} {xa ya:Operand} {z1 z2:Nat} {z:Value} {ie:TI} {ty:Ty} {xss yss:List (List ty.D)} {A B:Option Addr} {c d E2 n:Nat} {css dss:List (List Value)} (k1 k2 i1 i2:Nat) (hS:St w0 F0 Hs Rs w) (hl:(xss.length+yss.length)*ie.bytes≤140737488355328)
  (ho:o.op=.call { callee:=.builtin .append,args:=#[xa,ya],argTypes:=#[t,t] }:=by exact rfl) (hi1:nth Rs i1=some (J6 ty xss css):=by exact rfl) (hi2:nth Rs i2=some (J6 ty yss dss):=by exact rfl) (h1:nth Hs k1=some (W3 e E2 n (Y6 xss) css (.slice A xss.length c)):=by exact rfl) (h2:nth (Hs.eraseIdx k1) k2=some (W3 e E2 n (Y6 yss) dss (.slice B yss.length d)):=by exact rfl) (hx:Zq env xa=some (.slice A xss.length c):=by exact rfl) (hy:Zq env ya=some (.slice B yss.length d):=by exact rfl)
  (ht:find tt t=some ⟨.slice e,z1,z2,z⟩:=by exact rfl) (hie:find tt e=some ie:=by exact rfl) (hn:ie.size=1:=by exact rfl) (hz:Nat.beq ie.zero.cells.toList.length ie.size=true:=by exact rfl) (hby:0<ie.bytes:=by decide) :
  OpT P o env w (fun v' w'=>∃ A' c' css',v'=.slice A' (xss ++ yss).length c'∧St w0 F0 (W3 e E2 n (Y6 (xss ++ yss)) css' (.slice A' (xss ++ yss).length c') :: (Hs.eraseIdx k1).eraseIdx k2) (J6 ty (xss ++ yss) css' :: Rs) w'):=by
 have g1:=(hS.swap h1).swap2 h2
 have g2:=g1.both
 obtain ⟨⟨us,vs⟩,⟨⟨l1,l2⟩,l3,l4⟩,g3⟩:=St.unpack (c:=Zd7 (W3 e E2 n (Y6 xss) css (.slice A xss.length c)) (W3 e E2 n (Y6 yss) dss (.slice B yss.length d))) (l:=fun p:List Value×List Value=>Xv e 1 (Y6 xss).length p.1 (.slice A xss.length c) :: Xv e 1 (Y6 yss).length p.2 (.slice B yss.length d) :: (rws E2 n p.1 (Y6 xss) css ++ rws E2 n p.2 (Y6 yss) dss)) (p:=fun p=>(p.1.length=(Y6 xss).length∧css.length=(Y6 xss).length)∧p.2.length=(Y6 yss).length∧dss.length=(Y6 yss).length) (fun w F ⟨F1,F2,⟨us,a1,G1,G2,b1,b2,b3,b4⟩,⟨vs,a2,K1,K2,d1,d2,d3,d4⟩,a3,a4⟩=>by
  refine ⟨(us,vs),⟨a1,a2⟩,G1,fun b=>K1 b∨G2 b∨K2 b,b1,⟨K1,fun b=>G2 b∨K2 b,d1,SatH.join b2 d2 fun b hb q=>(a3 b (b4 b hb)).2 (d4 b q),fun b hb=>⟨.inl hb,fun q=>q.elim (fun q=>(a3 b (b4 b q)).2 (d3 b hb).1) (d3 b hb).2⟩,fun b hb=>.inr hb⟩,fun b hb=>⟨(a3 b (b3 b hb).1).1,fun q=>q.elim (fun q=>(a3 b (b3 b hb).1).2 (d3 b q).1) fun q=>q.elim (b3 b hb).2 fun q=>(a3 b (b3 b hb).1).2 (d4 b q)⟩,fun b hb=>hb.elim (fun q=>a4 b (d3 b q).1) fun q=>q.elim (fun q=>(a3 b (b4 b q)).1) fun q=>a4 b (d4 b q)⟩) g2
 have e1:(Y6 xss).length=xss.length:=List.length_map ..
 have e2:(Y6 yss).length=yss.length:=List.length_map ..
 rw [e1,e2] at g3
 have g4:=g3.freeze (k:=1) (c':=Xv e 1 yss.length vs (.slice B yss.length d)) rfl fun _ _ h=>h
 have g5:=g4.read (k:=0) (c:=Zfh .val vs vs B) rfl fun w F hF=>by
  obtain ⟨⟨hlen,hown⟩,hF2,hones⟩:=hF
  refine ⟨Zf2 hones,?_⟩
  rcases hown with ⟨e,hn0⟩ | ⟨g,cap,cur,e,hg0,hh,hnc,hcm,hsz,htake⟩
  ·left
   exact List.eq_nil_of_length_eq_zero (by rw [hlen,hn0,Nat.zero_mul])
  ·right
   simp only [Value.slice.injEq] at e
   obtain ⟨rfl,_,rfl⟩:=e
   refine ⟨g,0,rfl,hF2 g rfl,fun j u hu=>?_⟩
   have:=World.ownsRow.cells (base:=0) (e:=e) (size:=1) (v:=.slice (some ⟨g,0,none⟩) yss.length d) (n:=yss.length) (xs:=vs) ⟨hlen,.inr ⟨g,d,cur,rfl,hg0,hh,hnc,hcm,hsz,htake⟩⟩ (g:=g) rfl j u hu
   rw [Xg] at this
   exact this
 have lv:vs.length=yss.length:=by rw [l3,e2]
 have g6:=Za0 (P:=P) (o:=o) (env:=env) (tt:=tt) (w:=w) (ty:=.val) (ys:=vs) (n:=1) (c:=d) 0 0 g5 (by rw [lv]; exact hl) ho rfl rfl hx (by rw [lv]; exact hy) ht hie hn.symm rfl hz (by rw [hn]; decide) hby
 refine g6.imp fun v' w' ⟨A',c',ev,h⟩=>?_
 rw [lv] at ev h
 refine ⟨A',c',css ++ dss,by rw [ev,List.length_append],?_⟩
 have h5:St w0 F0 ((Xv e 1 (xss.length+yss.length) (us ++ vs) (.slice A' (xss.length+yss.length) c') :: (rws E2 n us (Y6 xss) css ++ rws E2 n vs (Y6 yss) dss)) ++ (Hs.eraseIdx k1).eraseIdx k2) _ w':=h
 have h6:=h5.pack (c:=W3 e E2 n (Y6 (xss ++ yss)) (css ++ dss) (.slice A' (xss ++ yss).length c')) fun w F hF=>by
  have em:Y6 (xss ++ yss)=Y6 xss ++ Y6 yss:=List.map_append ..
  refine ⟨us ++ vs,⟨by rw [em,List.length_append,List.length_append,l1,l3],by rw [em,List.length_append,List.length_append,l2,l4]⟩,?_⟩
  rw [em,List.length_append,List.length_append,e1,e2,Zb3 l1 l2]
  exact hF
 have h7:=h6.reads Rs fun x hx=>List.mem_cons_of_mem _ (List.mem_cons_of_mem _ hx)
 exact h7.read2 i1 i2 hi1 hi2 fun w F1 F2 a b=>Elems2.append (a.imp fun x c h=>ty.ok_mono (fun _ h=>.inl h) h) (b.imp fun x c h=>ty.ok_mono (fun _ h=>.inr h) h)
end
section
variable {P:Program} {tt:TT} {env:Env} {o:Oper} {w0 w:World} {F0:Ft} {Hs Rs:List Ch}
theorem Zd8 {l:List Ch} {t:Ty}:Zbr l ([]:List t.D) []:=trivial
theorem Zbv {l:List Ch} {t:Ty} {x:t.D} {xs:List t.D} {cs:List Value} {css:List (List Value)} (h:Bq l t x cs) (hs:Zbr l xs css):Zbr l (x :: xs) (cs :: css):=⟨h,hs⟩
theorem Zar [q:TTI P tt] {T e m:Nat} {z1 z2:Nat} {z:Value} {ie:TI} {ps:Array (Nat×Operand)} {vs:List Value} (ty:Ty) (xs:List ty.D) {css:List (List Value)} (hS:St w0 F0 Hs Rs w) (hel:Zbr Rs xs css) (ho:o.op=.buildSlice T m ps:=by exact rfl)
  (ht:find tt T=some ⟨.slice e,z1,z2,z⟩:=by exact rfl) (hi:find tt e=some ie:=by exact rfl) (hpos:0<ie.size:=by decide) (hv:Yv env (ps.toList.map (·.2))=some vs:=by exact rfl) (hm:vs.length=m:=by exact rfl) (hx:xs.length=m:=by exact rfl) (hm2:Nat.ble (m*ie.size) 16777216=true:=by exact rfl)
  (hix:ps.toList.map (·.1)=List.range' 0 vs.length:=by exact rfl) (hsz:vs.all (fun v=>Nat.beq v.cells.toList.length ie.size)=true:=by exact rfl) (hc:vs.map (fun v=>v.cells.toList)=css:=by exact rfl) :
  OpT P o env w (fun v w'=>∃ b,v=.slice (some ⟨b,0,none⟩) xs.length m∧St w0 F0 Hs (rdC e ty xs (.slice (some ⟨b,0,none⟩) xs.length m) :: Rs) w'):=
 Zix q.ok ty xs ho hS ht hi hpos hv hm hx hm2 hix hsz (by rw [hc]; exact hel)
end
end Go.SK
