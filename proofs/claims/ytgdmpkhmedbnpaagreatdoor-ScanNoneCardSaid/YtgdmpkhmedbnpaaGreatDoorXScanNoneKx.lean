/- Part of the library of this claim: how code is stepped through. -/
import Derived.Test.YtgdmpkhmedbnpaaGreatDoorXScanNoneKw
import Derived.Lib.AppendStr
set_option linter.unusedVariables false
set_option linter.unusedSimpArgs false
namespace Go.SK
open Go Go.RowKit Go.Lib

section
variable {P:Program} {w:World}
theorem Zci (t u ty e:TypeId) (i:TypeInfo) (ht:P.underlying t=some (.slice e)) (hu:P.underlying u=some .string) (hi:P.info? e=some i) (hz:i.zero=some (.int .u8 0))
  (hsize:i.size=1) (hby:i.bytes=1) (v:Value) (n:Nat) (xs:List Value) (hown:w.ownsRow 0 e 1 v n xs) (s:ByteArray) (hbytes:n+s.size≤140737488355328) :
  ∃ v' w',(Builtin.append_ #[t,u] ty #[v,.string s]).run P w=.ok v' w'∧w'.ownsRow 0 e 1 v' (n+s.size) (xs ++ strCells s)∧w.grownBy w' v.ownBlock∧(v'.ownBlock=v.ownBlock∨∀ q,v'.ownBlock=some q→w.heap.size≤q):=by
 have h63:n+s.size≤maxLen:=by simp only [maxLen]; omega
 obtain ⟨v',w',h1,h2,h3,h4⟩:=run_append_own_string (P:=P) w 0 t u ty e i ht hu hi hz hsize hby v n xs hown s h63 hbytes (Nat.zero_le _)
 refine ⟨v',w',h1,h2,h3,?_⟩
 rcases hown.2 with ⟨rfl,rfl⟩ | ⟨g,cap,cur,rfl,hbg,hg,hnc,hcm,hcs,htake⟩
 ·obtain ⟨v2,w2,g1,g2,g3,g4⟩:=run_append_own_string (P:=P) w w.heap.size t u ty e i ht hu hi hz hsize hby (.slice none 0 0) 0 xs ⟨hown.1,.inl ⟨rfl,rfl⟩⟩ s h63 hbytes (Nat.le_refl _)
  rw [h1] at g1
  obtain ⟨rfl,rfl⟩:v'=v2∧w'=w2:=by injection g1 with a b; exact ⟨a,b⟩
  refine .inr fun q hq=>?_
  exact (g2.lt q hq).1
 ·by_cases hroom:n+s.size≤cap
  ·have hcs':cur.size=cap:=by simpa using hcs
   have hr:=run_append_room_string (P:=P) w t u ty e i ht hu hi hsize g n cap cur hg s hroom (by omega)
   rw [h1] at hr
   injection hr with a b
   exact .inl (by rw [a]; rfl)
  ·have holds:∀ j u,xs[j]?=some u→w.cell? ((⟨g,0,none⟩:Addr).add j)=some u:=hown.cells (g:=g) rfl
   have hr:=run_append_grow_string (P:=P) w t u ty e i (.int .u8 0) ht hu hi hz ⟨g,0,none⟩ n cap xs (by rw [hsize]; simpa using hown.1) holds s (by omega) (by omega) (by rw [hby]; exact growslice_fits (by omega) (by omega))
   rw [h1] at hr
   injection hr with a b
   refine .inr fun q hq=>?_
   rw [a] at hq
   simp only [Value.ownBlock,Option.some.injEq] at hq
   omega
end
section
variable {P:Program} {tt:TT} {env:Env} {o:Oper} {w0 w:World} {F0:Ft} {Hs Rs:List Ch}
theorem Zae:∀(s:List UInt8),strCells ⟨⟨s⟩⟩=(toB s).flatMap (Ty.int .u8).enc
 | []=>rfl
 | x :: r=>by
  have ih:=Zae r
  simp only [strCells,toB,List.map_cons,List.flatMap_cons] at ih ⊢
  rw [ih]
  rfl
theorem Zd2 (hT:Yk P tt) {t ts e:Nat} {xa ya:Operand} {z1 z2 z3 z4:Nat} {z zs:Value} {xs:List Int} {s:List UInt8} {v:Value} (k:Nat) (ho:o.op=.call { callee:=.builtin .append,args:=#[xa,ya],argTypes:=#[t,ts] })
  (hS:St w0 F0 Hs Rs w) (hk:nth Hs k=some (Yg e (.int .u8) xs v)) (hx:Zq env xa=some v) (hy:Zq env ya=some (.string ⟨⟨s⟩⟩))
  (ht:find tt t=some ⟨.slice e,z1,z2,z⟩) (hts:find tt ts=some ⟨.str,z3,z4,zs⟩) (hi:find tt e=some ⟨.int .u8,1,1,.int .u8 0⟩) (hl:xs.length+s.length≤140737488355328) :
  OpT P o env w (fun v' w'=>∃ A' c',v'=.slice A' (xs ++ toB s).length c'∧St w0 F0 (Yg e (.int .u8) (xs ++ toB s) (.slice A' (xs ++ toB s).length c') :: Hs.eraseIdx k) Rs w'):=
 OpT.value fun n a hf=>by
  have hkk:=(hT _ _ ht).kind
  have hks:=(hT _ _ hts).kind
  simp only [TK.ok] at hkk hks
  obtain ⟨i0,hi0,hs0,hb0,hz0⟩:=(hT _ _ hi).info'
  obtain ⟨F,⟨inner,F',hown,hel,hF'1,hF'2⟩,hlt,hs⟩:=hS.turn hk
  have hsc:(Ty.int .u8).scal=true:=rfl
  have hin:=W4 hsc hel
  subst hin
  have hss:(⟨⟨s⟩⟩:ByteArray).size=s.length:=rfl
  obtain ⟨v',w',hr,ho',hg,hb⟩:=Zci (P:=P) (w:=w) t ts o.type e i0 hkk hks hi0 hz0 hs0 hb0 v xs.length _ hown ⟨⟨s⟩⟩ (by rw [hss]; exact hl)
  have hsc2:=Zae s
  rw [hsc2] at ho'
  have hlen:(xs ++ toB s).length=xs.length+s.length:=by simp [toB]
  rw [hss] at ho'
  have hrun:(execOp a.eval o).run P w=.ok (.value v') w':=by simp [execOp,ho,resolve,invoke,builtin,hf.eval hx,hf.eval hy,hr]
  have hfm:(xs ++ toB s).flatMap (Ty.int .u8).enc=xs.flatMap (Ty.int .u8).enc ++ (toB s).flatMap (Ty.int .u8).enc:=by simp
  have hshape:∃ A' c',v'=.slice A' (xs.length+s.length) c':=by
   rcases ho'.2 with ⟨h,h2⟩ | ⟨g,cap,cur,h,_⟩
   ·exact ⟨none,0,by rw [h,h2]⟩
   ·exact ⟨_,_,h⟩
  obtain ⟨A',c',rfl⟩:=hshape
  refine ⟨_,w',hrun,A',c',by simp [hlen],?_⟩
  have hFv:∀ b,v.ownBlock=some b→F b:=fun b hb=>(hF'2 b hb).1
  have hown2:w'.ownsRow 0 e (Ty.int .u8).n (.slice A' (xs.length+s.length) c') (xs ++ toB s).length ((xs ++ toB s).flatMap (Ty.int .u8).enc):=by rw [hlen,hfm]; exact ho'
  have hlive:∀ b,(Value.slice A' (xs.length+s.length) c').ownBlock=some b→b<w'.heap.size:=fun b hb=>by
   rcases ho'.2 with ⟨h,h2⟩ | ⟨g,cap,cur,h,_,hh,_⟩
   ·rw [h] at hb; cases hb
   ·rw [h] at hb
    simp only [Value.ownBlock,Option.some.injEq] at hb
    subst hb
    exact (Array.getElem?_eq_some_iff.1 hh).1
  rw [show (Value.slice A' (xs ++ toB s).length c')=.slice A' (xs.length+s.length) c' by rw [hlen]]
  refine hs w' (Yg e (.int .u8) (xs ++ toB s) (.slice A' (xs.length+s.length) c')) (fun b=>(Value.slice A' (xs.length+s.length) c').ownBlock=some b) (Chg.of_grown hg hFv) ⟨_,fun _=>False,hown2,Elems.scal hsc _ _ _,fun b hb=>hb.elim,fun b hb=>⟨hb,fun e=>e⟩⟩ fun b hb'=>⟨?_,hlive b hb'⟩
  rcases hb with hb | hb
  ·exact .inl (hFv b (by rw [← hb]; exact hb'))
  ·exact .inr (hb b hb')
end
end Go.SK
namespace Go.SK
open Go Go.RowKit Go.Lib
section
variable {P:Program} {env:Env} {S:World→Prop} {o:Oper}
theorem Zl6 {xa ya za:Operand} {ts:Array TypeId} {k:IntKind} {x y z:Int} (ho:o.op=.call { callee:=.builtin .max,args:=#[xa,ya,za],argTypes:=ts }) (hx:Zq env xa=some (.int k x)) (hy:Zq env ya=some (.int k y)) (hz:Zq env za=some (.int k z)) :
  QOp P o env S (.int k (if z>(if y>x then y else x) then z else (if y>x then y else x))):=by
 intro n a w hf _
 simp [execOp,ho,resolve,invoke,builtin,hf.eval hx,hf.eval hy,hf.eval hz,Builtin.max_,Builtin.max2]
end
end Go.SK
