/- Part of the library of this claim: how code is stepped through. -/
import Derived.Test.YtgdmpkhmedbnpaaGreatDoorXScanNoneKy
set_option linter.unusedVariables false
set_option linter.unusedSimpArgs false
namespace Go.SK
open Go Go.RowKit

def Ty.at?:(t:Ty)→t.D→Nat→Option Value
 | .int k,x,0=>some (.int k x)
 | .bool,x,0=>some (.bool x)
 | .str,x,0=>some (.string ⟨⟨x⟩⟩)
 | .pair a b,x,f=>if f<a.n then a.at? x.1 f else b.at? x.2 (f - a.n)
 | _,_,_=>none
theorem Ty.ok_at:∀(t:Ty) {w:World} {F:Nat→Prop} {x:t.D} {cs:List Value} {f:Nat} {u:Value},t.ok w F x cs→t.at? x f=some u→cs[f]?=some u
 | .int k,w,F,x,cs,f,u,h,hu=>by
  cases f with
  | zero=>simp only [Ty.at?,Option.some.injEq] at hu; rw [h,← hu]; rfl
  | succ f=>simp [Ty.at?] at hu
 | .bool,w,F,x,cs,f,u,h,hu=>by
  cases f with
  | zero=>simp only [Ty.at?,Option.some.injEq] at hu; rw [h,← hu]; rfl
  | succ f=>simp [Ty.at?] at hu
 | .str,w,F,x,cs,f,u,h,hu=>by
  cases f with
  | zero=>simp only [Ty.at?,Option.some.injEq] at hu; rw [h,← hu]; rfl
  | succ f=>simp [Ty.at?] at hu
 | .val,_,_,_,_,_,_,_,hu=>by simp [Ty.at?] at hu
 | .unit,_,_,_,_,_,_,_,hu=>by simp [Ty.at?] at hu
 | .slice _ _,_,_,_,_,_,_,_,hu=>by simp [Ty.at?] at hu
 | .pair a b,w,F,x,cs,f,u,⟨c1,c2,e,h1,h2⟩,hu=>by
  have l1:=a.ok_len h1
  rw [Ty.at?] at hu
  split at hu
  ·rw [e,List.getElem?_append_left (by omega)]; exact a.ok_at h1 hu
  ·rw [e,List.getElem?_append_right (by omega),l1]; exact b.ok_at h2 hu
def Ty.put?:(t:Ty)→t.D→Nat→Value→Option t.D
 | .int k,x,0,.int k' y=>if Zcp k k'=true then some y else none
 | .bool,x,0,.bool y=>some y
 | .pair a b,x,f,u=>if f<a.n then (a.put? x.1 f u).map fun y=>(y,x.2) else (b.put? x.2 (f - a.n) u).map fun y=>(x.1,y)
 | _,_,_,_=>none
theorem Zdb (f:Nat) (u:Value) (cs:List Value) (h:f<cs.length):Zy f [u] cs=cs.set f u:=by
 unfold Zy
 rw [List.set_eq_take_append_cons_drop,if_pos h]; simp
theorem Ty.ok_put:∀(t:Ty) {w:World} {F:Nat→Prop} {x new:t.D} {cs:List Value} {f:Nat} {u:Value},t.ok w F x cs→t.put? x f u=some new→t.ok w F new (cs.set f u)
 | .int k,w,F,x,new,cs,f,u,h,hu=>by
  cases f with
  | zero=>
   cases u <;> simp only [Ty.put?] at hu <;> try cases hu
   split at hu
   ·rename_i k' y e
    simp only [Option.some.injEq] at hu
    rw [h,← hu,Zcu e]; rfl
   ·cases hu
  | succ f=>simp [Ty.put?] at hu
 | .bool,w,F,x,new,cs,f,u,h,hu=>by
  cases f with
  | zero=>
   cases u <;> simp only [Ty.put?] at hu <;> try cases hu
   rw [h]; rfl
  | succ f=>simp [Ty.put?] at hu
 | .str,_,_,_,_,_,_,_,_,hu=>by simp [Ty.put?] at hu
 | .val,_,_,_,_,_,_,_,_,hu=>by simp [Ty.put?] at hu
 | .unit,_,_,_,_,_,_,_,_,hu=>by simp [Ty.put?] at hu
 | .slice _ _,_,_,_,_,_,_,_,_,hu=>by simp [Ty.put?] at hu
 | .pair a b,w,F,x,new,cs,f,u,⟨c1,c2,e,h1,h2⟩,hu=>by
  have l1:=a.ok_len h1
  rw [Ty.put?] at hu
  split at hu
  ·cases hp:a.put? x.1 f u with
   | none=>rw [hp] at hu; simp at hu
   | some y=>
    rw [hp] at hu
    simp only [Option.map_some,Option.some.injEq] at hu
    subst hu
    exact ⟨c1.set f u,c2,by rw [e,List.set_append_left _ _ (by omega)],a.ok_put h1 hp,h2⟩
  ·cases hp:b.put? x.2 (f - a.n) u with
   | none=>rw [hp] at hu; simp at hu
   | some y=>
    rw [hp] at hu
    simp only [Option.map_some,Option.some.injEq] at hu
    subst hu
    exact ⟨c1,c2.set (f - a.n) u,by rw [e,List.set_append_right _ _ (by omega),l1],h1,b.ok_put h2 hp⟩
theorem Elems.rep {α:Type} {ok:α→List Value→Prop} {z:α} {c:List Value} (h:ok z c):∀ n,Elems ok (List.replicate n z) (List.replicate n c).flatten
 | 0=>rfl
 | n+1=>⟨c,(List.replicate n c).flatten,by rw [List.replicate_succ,List.flatten_cons],h,Elems.rep h n⟩
theorem Elems.lay {α:Type} {ok ok':α→List Value→Prop} {m:Nat} (hl:∀ x c,ok x c→c.length=m) (hm:∀ x c,ok x c→ok' x c) {y:α} {f:Nat} {vs:List Value} (hf:f+vs.length≤m) :
  ∀ {xs:List α} {inner:List Value} {i:Nat} {x:α},Elems ok xs inner→xs[i]?=some x→(∀ c,ok x c→ok' y (Zy f vs c))→Elems ok' (xs.set i y) (Zy (i*m+f) vs inner)
 | [],_,_,_,_,h,_=>by simp at h
 | x :: xs,inner,0,x',⟨c,r,e,h1,h2⟩,h,hy=>by
  simp only [List.getElem?_cons_zero,Option.some.injEq] at h
  subst h
  have lc:=hl _ _ h1
  refine ⟨Zy f vs c,r,?_,hy c h1,h2.imp hm⟩
  rw [e,Nat.zero_mul,Nat.zero_add]
  unfold Zy
  rw [List.take_append_of_le_length (by omega),List.drop_append_of_le_length (by omega)]
  simp
 | x :: xs,inner,i+1,x',⟨c,r,e,h1,h2⟩,h,hy=>by
  have lc:=hl _ _ h1
  have ih:=Elems.lay hl hm hf h2 (i:=i) (by simpa using h) hy
  refine ⟨c,Zy (i*m+f) vs r,?_,hm _ _ h1,ih⟩
  rw [e]
  unfold Zy
  rw [show (i+1)*m+f=c.length+(i*m+f) by rw [lc,Nat.succ_mul]; omega,show c.length+(i*m+f)+vs.length=c.length+(i*m+f+vs.length) by omega,List.take_length_add_append,List.drop_length_add_append]
  simp
section
variable {P:Program} {tt:TT} {env:Env} {S:World→Prop} {o:Oper} {w0 w:World} {F0:Ft} {Hs Rs:List Ch}
theorem Zfw (hT:Yk P tt) {E:Nat} {t:Ty} [Inhabited t.D] {xs:List t.D} {A:Option Addr} {m c:Nat} {ty:Nat} {x:Operand} {i:TI} {ix:Int} {f sz:Nat} {u v:Value}
  (hS:∀ w,S w→Wh w0 F0 Hs Rs w) (hg:Gives (Hs ++ Rs) (rdC E t xs (.slice A m c))) (h0:0≤ix) (h1:ix<xs.length) (ho:o.op=.load ty x) (hsz:t.n=sz)
  (hi:find tt ty=some i) (ha:Zq env x=some (.pointer (some ⟨blk A,ofs A+ix.toNat*sz+f,none⟩))) (hu:t.at? (gt xs ix) f=some u) (hp:Wu i [u]=some v):QOp P o env S v:=
 Jk hT ho hi ha (fun w h=>by
  obtain ⟨F,hF,_⟩:=(hS w h).gives hg
  obtain ⟨_,_,cs,hcs,hc⟩:=Zb2 hF h0 h1
  intro j u' hu'
  cases j with
  | zero=>
   simp only [List.getElem?_cons_zero,Option.some.injEq] at hu'
   subst hu'
   have:=hc _ _ (t.ok_at hcs hu)
   rw [hsz] at this
   exact this
  | succ j=>simp at hu') hp
def Zd7 (c1 c2:Ch):Ch where
 ok w F:=∃ F1 F2,c1.ok w F1∧c2.ok w F2∧(∀ b,F1 b→F b∧¬ F2 b)∧∀ b,F2 b→F b
 stable hs:=fun ⟨F1,F2,h1,h2,h3,h4⟩=>⟨F1,F2,c1.stable (fun b hb=>hs b (h3 b hb).1) h1,c2.stable (fun b hb=>hs b (h4 b hb)) h2,h3,h4⟩
theorem St.both {c1 c2:Ch} (h:St w0 F0 (c1 :: c2 :: Hs) Rs w):St w0 F0 (Zd7 c1 c2 :: Hs) Rs w:=by
 obtain ⟨F,⟨F1,F2,h1,⟨G1,G2,g1,g2,g3,g4⟩,h3,h4⟩,hb,hR⟩:=h.sat
 exact ⟨h.chg,F,⟨fun b=>F1 b∨G1 b,G2,⟨F1,G1,h1,g1,fun b hb=>⟨.inl hb,fun e=>(h3 b hb).2 (g3 b e).1⟩,fun b hb=>.inr hb⟩,g2,
  fun b hb=>⟨hb.elim (fun e=>(h3 b e).1) (fun e=>h4 b (g3 b e).1),fun e=>hb.elim (fun e'=>(h3 b e').2 (g4 b e)) (fun e'=>(g3 b e').2 e)⟩,fun b hb=>h4 b (g4 b hb)⟩,hb,hR⟩
theorem Zd1 (hT:Yk P tt) {t e f sz c:Nat} {x y:Operand} {i:TI} {ty:Ty} [Inhabited ty.D] {xs:List ty.D} {A:Option Addr} {ix:Int} {v:Value} (new:ty.D) (k:Nat) (ho:o.op=.store t x y) (hS:St w0 F0 Hs Rs w)
  (hk:nth Hs k=some (Yg e ty xs (.slice A xs.length c))) (hi:find tt t=some i) (h0:0≤ix) (h1:ix<xs.length) (ha:Zq env x=some (.pointer (some ⟨blk A,ofs A+ix.toNat*sz+f,none⟩))) (hv:Zq env y=some v)
  (hn:ty.n=sz) (hsz:Nat.beq v.cells.toList.length i.size=true) (hle:Nat.ble (f+i.size) sz=true) (hc1:v.cells.toList.all (fun u=>u.oneCell')=true) (hnew:∀ w F cs,ty.ok w F (gt xs ix) cs→ty.ok w F new (Zy f v.cells.toList cs)) :
  OpT P o env w (fun _ w'=>St w0 F0 (Yg e ty (xs.set ix.toNat new) (.slice A (xs.set ix.toNat new).length c) :: Hs.eraseIdx k) Rs w'):=
 OpT.skip fun n a hf=>by
  obtain ⟨F,⟨inner,F',hown,hel,hF'1,hF'2⟩,hlt,hs⟩:=hS.turn hk
  rcases hown.2 with ⟨hnil,hz⟩ | ⟨g,cap,cur,hA,_,hh,hnc,hcm,hcs,htk⟩
  ·omega
  ·simp only [Value.slice.injEq] at hA
   obtain ⟨rfl,_,rfl⟩:=hA
   have hb:=hF'2 g rfl
   have hsz':v.cells.toList.length=i.size:=Nat.eq_of_beq_eq_true hsz
   have hle':f+i.size≤ty.n:=by rw [hn]; exact Nat.le_of_ble_eq_true hle
   have hix:ix.toNat<xs.length:=by omega
   have hmul:ix.toNat*ty.n+ty.n≤xs.length*ty.n:=by rw [← Nat.succ_mul]; exact Nat.mul_le_mul_right _ hix
   have hmul2:xs.length*ty.n≤c*ty.n:=Nat.mul_le_mul_right _ hnc
   have hil:inner.length=xs.length*ty.n:=hel.length fun x c h=>ty.ok_len h
   have hst:=run_storeCells_at P g (ix.toNat*ty.n+f) e v.cells.toList 0 cur w hh (by rw [hcs,Nat.add_zero]; omega) (by rw [List.all_eq_true] at hc1; exact hc1)
   have haddr:Zq env x=some (.pointer (some ⟨g,ix.toNat*ty.n+f,none⟩)):=by rw [ha,hn]; simp [blk,ofs]
   rw [Nat.add_zero] at hst
   have hsz2:v.cells.size=i.size:=by simpa using hsz'
   refine ⟨w.setRow g (cur.toList.take (ix.toNat*ty.n+f) ++ v.cells.toList ++ cur.toList.drop (ix.toNat*ty.n+f+v.cells.toList.length)).toArray,by simp [execOp,ho,hf.eval haddr,hf.eval hv,Instr.storeAt,Instr.sureAddr,storeVar,Xe w (hT _ _ hi),hsz2,hst],?_⟩
   have hstab:∀ b,F' b→(w.setRow g (cur.toList.take (ix.toNat*ty.n+f) ++ v.cells.toList ++ cur.toList.drop (ix.toNat*ty.n+f+v.cells.toList.length)).toArray).heap[b]?=w.heap[b]?:=fun b hb'=>setRow_other w g b _ (fun e=>hb.2 (e ▸ hb'))
   have hel':=Elems.lay (ok:=ty.ok w F') (ok':=ty.ok (w.setRow g (cur.toList.take (ix.toNat*ty.n+f) ++ v.cells.toList ++ cur.toList.drop (ix.toNat*ty.n+f+v.cells.toList.length)).toArray) F') (m:=ty.n) (fun x c h=>ty.ok_len h) (fun x c h=>ty.ok_stable hstab h) (y:=new) (f:=f) (vs:=v.cells.toList) (by omega) hel (Up h0 h1) (fun cs h=>ty.ok_stable hstab (hnew _ _ _ h))
   refine hs _ (Yg e ty (xs.set ix.toNat new) (.slice (some ⟨g,0,none⟩) (xs.set ix.toNat new).length c)) F (X9 w g _ hb.1) ⟨_,F',?_,hel',hF'1,hF'2⟩ (fun b hb=>⟨.inl hb,by simpa using hlt b hb⟩)
   have ll:(Zy (ix.toNat*ty.n+f) v.cells.toList inner).length=xs.length*ty.n:=by
    unfold Zy
    rw [List.length_append,List.length_append,List.length_take,List.length_drop,hil]; omega
   refine ⟨by rw [ll,List.length_set],.inr ⟨g,c,_,rfl,Nat.zero_le _,setRow_heap w g _ _ _ _ hh,by simpa using hnc,hcm,?_,?_⟩⟩
   ·simp only [List.size_toArray,List.length_append,List.length_take,List.length_drop,Array.length_toList,hcs]
    omega
   ·rw [List.length_set]
    have hcl:cur.toList.length=c*ty.n:=by rw [Array.length_toList,hcs]
    have e1:inner=cur.toList.take (xs.length*ty.n):=htk.symm
    show ((cur.toList.take (ix.toNat*ty.n+f) ++ v.cells.toList ++ cur.toList.drop (ix.toNat*ty.n+f+v.cells.toList.length)).toArray.toList).take (xs.length*ty.n)=_
    unfold Zy
    rw [e1,List.take_take,List.drop_take,show min (ix.toNat*ty.n+f) (xs.length*ty.n)=ix.toNat*ty.n+f by omega]
    rw [List.toList_toArray,List.take_append,List.take_of_length_le (by rw [List.length_append,List.length_take]; omega)]
    congr 1
    rw [List.length_append,List.length_take,show min (ix.toNat*ty.n+f) cur.toList.length=ix.toNat*ty.n+f by omega]
theorem G0 {t:Ty} {x new:t.D} {f:Nat} {u:Value} (hf:Nat.ble (f+1) t.n=true) (h:t.put? x f u=some new):∀(w:World) (F:Nat→Prop) (cs:List Value),t.ok w F x cs→t.ok w F new (Zy f [u] cs):=fun w F cs hc=>by
 rw [Zdb f u cs (by rw [t.ok_len hc]; exact Nat.le_of_ble_eq_true hf)]
 exact t.ok_put hc h
abbrev FrT (k:IntKind) (e:Nat) (t:Ty) (k2:IntKind):Ty:=.pair (.int k) (.pair (.slice e t) (.pair .bool (.int k2)))
theorem Zku {t:Ty} {w:World} {F:Nat→Prop} {x:t.D} {cs vs:List Value} (h:t.ok w F x cs) (hl:vs.length=t.n):Zy 0 vs cs=vs:=by
 unfold Zy
 rw [List.take_zero,List.nil_append,List.drop_eq_nil_of_le (by rw [t.ok_len h]; omega),List.append_nil]
theorem Zg1 {k k2:IntKind} {e:Nat} {t:Ty} {w:World} {F:Nat→Prop} {x p:Int} {d:Bool} {ys:List t.D} {s:Value} (h:(Ty.slice e t).ok w F ys [s]):(FrT k e t k2).ok w F (x,ys,d,p) [.int k x,s,.bool d,.int k2 p]:=
 ⟨[_],_,rfl,rfl,[_],_,rfl,h,[_],[_],rfl,rfl,rfl⟩
theorem Zcz {k k2:IntKind} {e:Nat} {t:Ty} {old:(FrT k e t k2).D} {x p:Int} {d:Bool} {ys:List t.D} {s:Value}:∀(w:World) (F:Nat→Prop) (cs:List Value),(FrT k e t k2).ok w F old cs→(rdC e t ys s).ok w F→(FrT k e t k2).ok w F (x,ys,d,p) (Zy 0 [.int k x,s,.bool d,.int k2 p] cs):=fun w F cs h hr=>by
 rw [Zku h rfl]
 exact Zg1 hr
theorem Zmf {k k2:IntKind} {e:Nat} {t:Ty} {old:(FrT k e t k2).D} {ys:List t.D} {s:Value}:∀(w:World) (F:Nat→Prop) (cs:List Value),(FrT k e t k2).ok w F old cs→(rdC e t ys s).ok w F→(FrT k e t k2).ok w F (old.1,ys,old.2.2) (Zy 1 [s] cs):=fun w F cs h hr=>by
 obtain ⟨c1,c2,rfl,h1,c3,c4,rfl,⟨A,c,h3,_⟩,h4⟩:=h
 rw [Zdb 1 s _ (by rw [h1,h3]; simp),h1,h3]
 exact ⟨[_],[s] ++ c4,rfl,rfl,[s],c4,rfl,hr,h4⟩
theorem Ze6 (hT:Yk P tt) {t e f sz c e2:Nat} {x y:Operand} {i:TI} {ty t2:Ty} [Inhabited ty.D] {xs:List ty.D} {A:Option Addr} {ix:Int} {v sv:Value} {ys:List t2.D} (new:ty.D) (ho:o.op=.store t x y) (hS:St w0 F0 (Zd7 (Yg e ty xs (.slice A xs.length c)) (Yg e2 t2 ys sv) :: Hs) Rs w)
  (hi:find tt t=some i) (h0:0≤ix) (h1:ix<xs.length) (ha:Zq env x=some (.pointer (some ⟨blk A,ofs A+ix.toNat*sz+f,none⟩))) (hv:Zq env y=some v)
  (hn:ty.n=sz) (hsz:Nat.beq v.cells.toList.length i.size=true) (hle:Nat.ble (f+i.size) sz=true) (hc1:v.cells.toList.all (fun u=>u.oneCell')=true) (hnew:∀ w F cs,ty.ok w F (gt xs ix) cs→(rdC e2 t2 ys sv).ok w F→ty.ok w F new (Zy f v.cells.toList cs)) :
  OpT P o env w (fun _ w'=>St w0 F0 (Yg e ty (xs.set ix.toNat new) (.slice A (xs.set ix.toNat new).length c) :: Hs) Rs w'):=
 OpT.skip fun n a hf=>by
  obtain ⟨F,⟨F1,F2,⟨inner,F',hown,hel,hF'1,hF'2⟩,hro,hd1,hd2⟩,hlt,hs⟩:=hS.turn (k:=0) rfl
  rcases hown.2 with ⟨hnil,hz⟩ | ⟨g,cap,cur,hA,_,hh,hnc,hcm,hcs,htk⟩
  ·omega
  ·simp only [Value.slice.injEq] at hA
   obtain ⟨rfl,_,rfl⟩:=hA
   have hb:=hF'2 g rfl
   have hg2:=hd1 g hb.1
   have hsz':v.cells.toList.length=i.size:=Nat.eq_of_beq_eq_true hsz
   have hle':f+i.size≤ty.n:=by rw [hn]; exact Nat.le_of_ble_eq_true hle
   have hix:ix.toNat<xs.length:=by omega
   have hmul:ix.toNat*ty.n+ty.n≤xs.length*ty.n:=by rw [← Nat.succ_mul]; exact Nat.mul_le_mul_right _ hix
   have hmul2:xs.length*ty.n≤c*ty.n:=Nat.mul_le_mul_right _ hnc
   have hil:inner.length=xs.length*ty.n:=hel.length fun x c h=>ty.ok_len h
   have hst:=run_storeCells_at P g (ix.toNat*ty.n+f) e v.cells.toList 0 cur w hh (by rw [hcs,Nat.add_zero]; omega) (by rw [List.all_eq_true] at hc1; exact hc1)
   have haddr:Zq env x=some (.pointer (some ⟨g,ix.toNat*ty.n+f,none⟩)):=by rw [ha,hn]; simp [blk,ofs]
   rw [Nat.add_zero] at hst
   have hsz2:v.cells.size=i.size:=by simpa using hsz'
   refine ⟨w.setRow g (cur.toList.take (ix.toNat*ty.n+f) ++ v.cells.toList ++ cur.toList.drop (ix.toNat*ty.n+f+v.cells.toList.length)).toArray,by simp [execOp,ho,hf.eval haddr,hf.eval hv,Instr.storeAt,Instr.sureAddr,storeVar,Xe w (hT _ _ hi),hsz2,hst],?_⟩
   have hstab:∀ b,(F' b∨F2 b)→(w.setRow g (cur.toList.take (ix.toNat*ty.n+f) ++ v.cells.toList ++ cur.toList.drop (ix.toNat*ty.n+f+v.cells.toList.length)).toArray).heap[b]?=w.heap[b]?:=fun b hb'=>setRow_other w g b _ (fun e=>by
    subst e
    exact hb'.elim hb.2 hg2.2)
   have hrd:(rdC e2 t2 ys sv).ok w (fun b=>F' b∨F2 b):=Ty.ok_mono _ (fun b hb=>.inr hb) (Yc w F2 hro)
   have hel':=Elems.lay (ok:=ty.ok w (fun b=>F' b∨F2 b)) (ok':=ty.ok (w.setRow g (cur.toList.take (ix.toNat*ty.n+f) ++ v.cells.toList ++ cur.toList.drop (ix.toNat*ty.n+f+v.cells.toList.length)).toArray) (fun b=>F' b∨F2 b)) (m:=ty.n) (fun x c h=>ty.ok_len h) (fun x c h=>ty.ok_stable hstab h) (y:=new) (f:=f) (vs:=v.cells.toList) (by omega) (hel.imp fun x c h=>ty.ok_mono (fun b hb=>.inl hb) h) (Up h0 h1) (fun cs h=>ty.ok_stable hstab (hnew _ _ _ h hrd))
   refine hs _ (Yg e ty (xs.set ix.toNat new) (.slice (some ⟨g,0,none⟩) (xs.set ix.toNat new).length c)) F (X9 w g _ hg2.1) ⟨_,fun b=>F' b∨F2 b,?_,hel',fun b hb'=>hb'.elim (fun e=>(hd1 b (hF'1 b e)).1) (hd2 b),fun b hb'=>?_⟩ (fun b hb=>⟨.inl hb,by simpa using hlt b hb⟩)
   ·have ll:(Zy (ix.toNat*ty.n+f) v.cells.toList inner).length=xs.length*ty.n:=by
     unfold Zy
     rw [List.length_append,List.length_append,List.length_take,List.length_drop,hil]; omega
    refine ⟨by rw [ll,List.length_set],.inr ⟨g,c,_,rfl,Nat.zero_le _,setRow_heap w g _ _ _ _ hh,by simpa using hnc,hcm,?_,?_⟩⟩
    ·simp only [List.size_toArray,List.length_append,List.length_take,List.length_drop,Array.length_toList,hcs]
     omega
    ·rw [List.length_set]
     have hcl:cur.toList.length=c*ty.n:=by rw [Array.length_toList,hcs]
     have e1:inner=cur.toList.take (xs.length*ty.n):=htk.symm
     show ((cur.toList.take (ix.toNat*ty.n+f) ++ v.cells.toList ++ cur.toList.drop (ix.toNat*ty.n+f+v.cells.toList.length)).toArray.toList).take (xs.length*ty.n)=_
     unfold Zy
     rw [e1,List.take_take,List.drop_take,show min (ix.toNat*ty.n+f) (xs.length*ty.n)=ix.toNat*ty.n+f by omega]
     rw [List.toList_toArray,List.take_append,List.take_of_length_le (by rw [List.length_append,List.length_take]; omega)]
     congr 1
     rw [List.length_append,List.length_take,show min (ix.toNat*ty.n+f) cur.toList.length=ix.toNat*ty.n+f by omega]
   ·simp only [Value.ownBlock,Option.some.injEq] at hb'
    subst hb'
    exact ⟨hg2.1,fun e=>e.elim hb.2 hg2.2⟩
theorem Zj1 (z:Array Value) (m:Nat):(madeCells z (m*z.size)).toList=(List.replicate m z.toList).flatten:=by
 have h2:∀(z:Array Value),(List.range z.size).map (fun i=>z[i % z.size]!)=z.toList:=fun z=>by
  apply List.ext_getElem
  ·simp
  ·intro i hi hj
   simp only [List.length_map,List.length_range] at hi
   simp [Nat.mod_eq_of_lt hi,hi]
 have h3:∀(z:Array Value) (m:Nat),(List.range (m*z.size)).map (fun i=>z[i % z.size]!)=(List.replicate m z.toList).flatten:=fun z m=>by
  induction m with
  | zero=>simp
  | succ m ih=>
   rw [List.replicate_succ',List.flatten_append,Nat.succ_mul,List.range_add,List.map_append,ih,List.map_map]
   congr 1
   simp only [List.flatten_cons,List.flatten_nil,List.append_nil]
   rw [← h2 z]
   apply List.map_congr_left
   intro i hi
   simp [Nat.mul_add_mod_self_right,Nat.add_comm]
 rw [← h3]
 simp [madeCells]
theorem Zac (hT:Yk P tt) {T e:Nat} {z1 z2:Nat} {z:Value} {ie:TI} {l c:Operand} {kl kc:IntKind} {n:Int} {ty:Ty} (zero:ty.D) (ho:o.op=.makeSlice T l c) (ht:find tt T=some ⟨.slice e,z1,z2,z⟩) (hi:find tt e=some ie)
  (hl:Zq env l=some (.int kl n)) (hc:Zq env c=some (.int kc n)) (hsz:ty.n=ie.size) (hz:∀ w F,ty.ok w F zero ie.zero.cells.toList) (hby:0<ie.bytes) (hS:St w0 F0 Hs Rs w) (h0:0≤n) (hb:n*ie.bytes≤281474976710656) :
  OpT P o env w (fun v w'=>∃ b,v=.slice (some ⟨b,0,none⟩) (List.replicate n.toNat zero).length n.toNat∧St w0 F0 (Yg e ty (List.replicate n.toNat zero) (.slice (some ⟨b,0,none⟩) (List.replicate n.toNat zero).length n.toNat) :: Hs) Rs w'):=
 OpT.value fun nn a hf=>by
  have hk:=(hT _ _ ht).kind
  simp only [TK.ok] at hk
  obtain ⟨j,hj,h1,h2,h3⟩:=(hT _ _ hi).info'
  obtain ⟨m,rfl⟩:∃ m:Nat,n=(m:Int):=⟨n.toNat,by omega⟩
  have hle:m*ie.bytes≤281474976710656:=by
   have:((m*ie.bytes:Nat):Int)≤281474976710656:=by rw [Int.natCast_mul]; exact hb
   omega
  have hm:m≤maxLen:=by
   have:m≤m*ie.bytes:=Nat.le_mul_of_pos_right _ hby
   simp only [maxLen]; omega
  have hzs:ie.zero.cells.size=ie.size:=by rw [← Array.length_toList,ty.ok_len (hz w fun _=>False),hsz]
  obtain ⟨w',hr,hown,hgr⟩:=run_make_full (P:=P) w 0 T e j ie.zero ie.size hk hj h3 h1 kl kc m (by rw [h2,Nat.mul_comm]; exact hle) hm (Nat.zero_le _)
  have hmade:(madeCells ie.zero.cells (m*ie.zero.cells.size)).toList=(List.replicate m ie.zero.cells.toList).flatten:=by
   exact Zj1 _ _
  rw [← hzs,hmade,hzs,← hsz] at hown
  have hlen:(List.replicate m zero).length=m:=by simp
  refine ⟨.slice (some ⟨w.heap.size,0,none⟩) m m,w',by simp [execOp,ho,hf.eval hl,hf.eval hc,hr],w.heap.size,by simp,?_⟩
  have hlt:w.heap.size<w'.heap.size:=by
   rcases hown.2 with ⟨h,_⟩ | ⟨g,cap,cur,hv,_,hg,_⟩
   ·cases h
   ·simp only [Value.slice.injEq,Option.some.injEq,Addr.mk.injEq] at hv
    rw [← hv.1.1] at hg
    exact (Array.getElem?_eq_some_iff.1 hg).1
  refine hS.add (F':=fun b=>b=w.heap.size) (Chg.of_grown hgr fun b hb=>by cases hb) ⟨_,fun _=>False,?_,Elems.rep (hz _ _) _,fun b hb=>hb.elim,fun b hb=>?_⟩ fun b hb=>?_
  ·simpa using hown
  ·simp [Value.ownBlock] at hb
   exact ⟨hb.symm,fun e=>e⟩
  ·subst hb
   exact ⟨Nat.le_refl _,hlt⟩
def Zc0 (E:Nat) (t:Ty) (xs:List t.D) (A:Option Addr) (c:Nat) (ix:Int) (f E2:Nat) (t2:Ty) (ys:List t2.D) (A2:Option Addr) (c2:Nat):Ch where
 ok w F:=(Yg E t xs (.slice A xs.length c)).ok w F∧(rdC E2 t2 ys (.slice A2 ys.length c2)).ok w F∧F (blk A)∧w.cell? ⟨blk A,ofs A+ix.toNat*t.n+f,none⟩=some (.slice A2 ys.length c2)
 stable hs h:=⟨(Yg _ _ _ _).stable hs h.1,(rdC _ _ _ _).stable hs h.2.1,h.2.2.1,(Ju (a:=⟨blk A,ofs A+ix.toNat*t.n+f,none⟩) (hs (blk A) h.2.2.1)).trans h.2.2.2⟩
theorem Zkr {E:Nat} {t:Ty} {xs:List t.D} {A:Option Addr} {c:Nat} {ix:Int} {f E2:Nat} {t2:Ty} {ys:List t2.D} {A2:Option Addr} {c2:Nat} (w:World) (F:Nat→Prop) (h:(Zc0 E t xs A c ix f E2 t2 ys A2 c2).ok w F):(rdC E t xs (.slice A xs.length c)).ok w F:=Yc w F h.1
theorem Zgl {E:Nat} {t:Ty} {xs:List t.D} {A:Option Addr} {c:Nat} {ix:Int} {f E2:Nat} {t2:Ty} {ys:List t2.D} {A2:Option Addr} {c2:Nat} (w:World) (F:Nat→Prop) (h:(Zc0 E t xs A c ix f E2 t2 ys A2 c2).ok w F):(rdC E2 t2 ys (.slice A2 ys.length c2)).ok w F:=h.2.1
theorem St.openI (h:St w0 F0 Hs Rs w) (k:Nat) {E c E2:Nat} {a t2 b:Ty} [Inhabited (Ty.pair a (.pair (.slice E2 t2) b)).D] {xs:List (Ty.pair a (.pair (.slice E2 t2) b)).D} {A:Option Addr} {ix:Int} (hk:nth Hs k=some (Yg E (.pair a (.pair (.slice E2 t2) b)) xs (.slice A xs.length c))) (h0:0≤ix) (h1:ix<xs.length) :
  ∃ A2 c2,St w0 F0 (Zc0 E (.pair a (.pair (.slice E2 t2) b)) xs A c ix a.n E2 t2 (gt xs ix).2.1 A2 c2 :: Hs.eraseIdx k) Rs w:=by
 obtain ⟨F,hF,hlt,hs⟩:=h.turn hk
 obtain ⟨_,hb,cs,hcs,hc⟩:=Zb2 (Yc w F hF) h0 h1
 obtain ⟨c1,c2,rfl,g1,c3,c4,rfl,⟨A2,c5,rfl,g3⟩,g4⟩:=hcs
 have l1:=a.ok_len g1
 refine ⟨A2,c5,hs w _ F (Chg.refl _ _) ⟨hF,⟨A2,c5,rfl,g3⟩,hb,hc _ _ ?_⟩ fun b hb=>⟨.inl hb,hlt b hb⟩⟩
 rw [List.getElem?_append_right (by omega),l1]; simp
theorem St.closeI (h:St w0 F0 Hs Rs w) (k:Nat) {E c E2 f:Nat} {t t2:Ty} {xs:List t.D} {A A2:Option Addr} {ix:Int} {ys:List t2.D} {c2:Nat} (hk:nth Hs k=some (Zc0 E t xs A c ix f E2 t2 ys A2 c2)):St w0 F0 (Yg E t xs (.slice A xs.length c) :: Hs.eraseIdx k) Rs w:=by
 obtain ⟨F,hF,hlt,hs⟩:=h.turn hk
 exact hs w _ F (Chg.refl _ _) hF.1 fun b hb=>⟨.inl hb,hlt b hb⟩
theorem Zj7 (hT:Yk P tt) {E:Nat} {t t2:Ty} {xs:List t.D} {A A2:Option Addr} {c c2 E2:Nat} {ys:List t2.D} {ty:Nat} {x:Operand} {i:TI} {ix:Int} {f sz:Nat} {v:Value}
  (hS:∀ w,S w→Wh w0 F0 Hs Rs w) (hg:Gives (Hs ++ Rs) (Zc0 E t xs A c ix f E2 t2 ys A2 c2)) (ho:o.op=.load ty x) (hsz:t.n=sz)
  (hi:find tt ty=some i) (ha:Zq env x=some (.pointer (some ⟨blk A,ofs A+ix.toNat*sz+f,none⟩))) (hp:Wu i [.slice A2 ys.length c2]=some v):QOp P o env S v:=
 Jk hT ho hi ha (fun w h=>by
  obtain ⟨F,hF,_⟩:=(hS w h).gives hg
  intro j u' hu'
  cases j with
  | zero=>
   simp only [List.getElem?_cons_zero,Option.some.injEq] at hu'
   subst hu'
   have:=hF.2.2.2
   rw [hsz] at this
   exact this
  | succ j=>simp at hu') hp
theorem Zhu (hT:Yk P tt) {α:Type} {k:IntKind} {f:α→Value} {t t' kt et:Nat} {x y:Operand} {b:Nat} {ix:Int} {es:List (Int×α)} {it ik:TI} (n:Nat) (ho:o.op=.call { callee:=.builtin .delete,args:=#[x,y],argTypes:=#[t,t'] }) (hS:St w0 F0 Hs Rs w) (hk:nth Hs n=some (Xa k f b es))
  (hi:find tt t=some it) (hkm:it.kind=.map kt et) (hki:find tt kt=some ik) (hkk:ik.kind=.int k) (hx:Zq env x=some (.map (some b))) (hy:Zq env y=some (.int k ix)) :
  OpT P o env w (fun _ w'=>St w0 F0 (Xa k f b (X7 ix es) :: Hs.eraseIdx n) Rs w'):=
 OpT.value fun nn a hf=>by
  obtain ⟨F,⟨hFb,M,clock,hh,hm,hst⟩,hlt,hs⟩:=hS.turn hk
  have h1:=(hT _ _ hi).kind
  have h2:=(hT _ _ hki).kind
  rw [hkm] at h1
  rw [hkk] at h2
  simp only [TK.ok] at h1 h2
  have hb:=hlt b hFb
  have hset:∀ ob,({ w with heap:=w.heap.setIfInBounds b ob }:World).heap[b]?=some ob:=fun ob=>by
   show (w.heap.setIfInBounds b ob)[b]?=some ob
   rw [Array.getElem?_setIfInBounds]; simp [hb]
  have hr:=G5 (k:=k) (f:=f) ix M.toList es 0 hm
  by_cases he:Y9 es ix=true
  ·rw [if_pos he,Nat.zero_add] at hr
   refine ⟨.tuple #[],{ w with heap:=w.heap.setIfInBounds b (.map (M.eraseIdxIfInBounds (es.findIdx fun p=>decide (p.1=ix))) clock) },?_,?_⟩
   ·simp [execOp,ho,resolve,invoke,builtin,hf.eval hx,hf.eval hy,Builtin.delete_,Z2 w h1,Wn hh,Ws _ hh,X5 _ h2,Wd h2 hr]
   ·refine hs _ (Xa k f b (X7 ix es)) F (U9 w b _ hFb) ⟨hFb,_,_,hset _,?_,Zgs _ hst⟩ (fun c hc=>⟨.inl hc,by simpa using hlt c hc⟩)
    rw [Zfe he,Array.toList_eraseIdxIfInBounds]
    exact Zfs _ _ _ hm
  ·have he':Y9 es ix=false:=by simpa using he
   rw [if_neg he] at hr
   refine ⟨.tuple #[],{ w with heap:=w.heap.setIfInBounds b (.map M clock) },?_,?_⟩
   ·simp [execOp,ho,resolve,invoke,builtin,hf.eval hx,hf.eval hy,Builtin.delete_,Z2 w h1,Wn hh,Ws _ hh,X5 _ h2,Wd h2 hr]
   ·refine hs _ (Xa k f b (X7 ix es)) F (U9 w b _ hFb) ⟨hFb,_,_,hset _,?_,hst⟩ (fun c hc=>⟨.inl hc,by simpa using hlt c hc⟩)
    rw [Zeg he',hm]
end
end Go.SK
