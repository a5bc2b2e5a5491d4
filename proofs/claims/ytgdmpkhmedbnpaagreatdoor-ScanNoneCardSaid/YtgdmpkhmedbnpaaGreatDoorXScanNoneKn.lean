/- Part of the library of this claim: how code is stepped through. -/
import Derived.Test.YtgdmpkhmedbnpaaGreatDoorXScanNoneKm
import Derived.Laws.AppendOwn
import Derived.Laws.CopyRow
set_option linter.unusedVariables false
set_option linter.unusedSimpArgs false
namespace Go.SK
open Go Go.RowKit

section
variable {P:Program}
theorem Zbi (w:World) (base:Nat) (t ti ty e:TypeId) (i:TypeInfo) (z:Value) (size bytes:Nat) (ht:P.underlying t=some (.slice e)) {k:IntKind} (hti:P.underlying ti=some (.int k)) (hi:P.info? e=some i) (hz:i.zero=some z)
  (hsize:i.size=size) (hby:i.bytes=bytes) (hzs:z.cells.size=size) (hsz:0<size) (hb0:0<bytes)
  (v:Value) (n:Nat) (xs:List Value) (hown:w.ownsRow base e size v n xs) (kx:IntKind) (m:Nat) (h1:∀ u∈(Builtin.zeroCells z.cells m).toList,u.oneCell'=true)
  (hbytes:(n+m)*bytes≤140737488355328) (hbase:base≤w.heap.size) :
  ∃ v' w',(Builtin.append_ #[t,ti] ty #[v,.int kx m]).run P w=.ok v' w'∧w'.ownsRow base e size v' (n+m) (xs ++ (Builtin.zeroCells z.cells m).toList)∧w.grownBy w' v.ownBlock∧
   (v'.ownBlock=v.ownBlock∨v'.ownBlock=some w.heap.size):=by
 subst hsize
 subst hby
 have hle:n+m≤140737488355328:=Nat.le_trans (Nat.le_mul_of_pos_right _ hb0) hbytes
 have h63:n+m≤maxLen:=by simp only [maxLen]; omega
 have hw:IntKind.i64.wrap (m:Int)=m:=by rw [IntKind.wrap_i64]; omega
 have hw0:IntKind.i64.wrap 0=0:=by rw [IntKind.wrap_i64]; rfl
 have hneg:¬ ((m:Int)<0):=by omega
 have hmb:m*i.bytes≤140737488355328:=Nat.le_trans (Nat.mul_le_mul_right _ (Nat.le_add_left m n)) hbytes
 have hbig:¬ (281474976710656<(m:Int)*(i.bytes:Int)):=by
  rw [← Int.natCast_mul]
  omega
 have hsn:i.size≠0:=by omega
 obtain ⟨news,hnews⟩:∃ news,news=(Builtin.zeroCells z.cells m).toList:=⟨_,rfl⟩
 rw [← hnews] at h1 ⊢
 have hl:news.length=m*i.size:=by rw [hnews,Array.length_toList,size_zeroCells,hzs]
 have hna:Builtin.zeroCells z.cells m=news.toArray:=by rw [hnews]
 have hlen:(xs ++ news).length=(n+m)*i.size:=by rw [List.length_append,hown.1,hl,Nat.add_mul]
 have hnil:m=0→news=[]:=fun h=>List.eq_nil_of_length_eq_zero (by rw [hl,h,Nat.zero_mul])
 have grown:∀(old:Nat),old<n+m→∀(row:Option Nat),
   (w.drew.alloc (.cells (xs.toArray ++ news.toArray ++ Builtin.zeroCells z.cells (grownCap w (n+m) old e - (n+m))) e)).ownsRow base e i.size
    (.slice (some ⟨w.heap.size,0,none⟩) (n+m) (grownCap w (n+m) old e)) (n+m) (xs ++ news)∧
   w.grownBy (w.drew.alloc (.cells (xs.toArray ++ news.toArray ++ Builtin.zeroCells z.cells (grownCap w (n+m) old e - (n+m))) e)) row:=by
  intro old ho row
  have hge:=grownCap_ge w (n+m) old e
  have hcm:grownCap w (n+m) old e≤maxLen:=grownCap_le_maxLen w (n+m) old e h63
  refine ⟨⟨hlen,.inr ⟨w.heap.size,_,_,rfl,hbase,heap_alloc_new w.drew _,hge,hcm,?_,?_⟩⟩,⟨rfl,rfl,rfl,by simp,fun k hk _=>heap_alloc_old w.drew _ hk⟩⟩
  ·simp only [Array.size_append,List.size_toArray,size_zeroCells,hzs,hown.1,hl,← Nat.add_mul]
   congr 1
   omega
  ·simp only [Array.toList_append,List.append_assoc]
   rw [← List.append_assoc,← hlen]
   exact List.take_left
 have runs:∀(A:Option Addr) (cap:Nat),cap<n+m→(Builtin.firstCells i.size n (.slice A n cap)).run P w.drew=.ok xs.toArray w.drew→(Builtin.append_ #[t,ti] ty #[.slice A n cap,.int kx m]).run P w =
   .ok (.slice (some ⟨w.heap.size,0,none⟩) (n+m) (grownCap w (n+m) cap e)) (w.drew.alloc (.cells (xs.toArray ++ news.toArray ++ Builtin.zeroCells z.cells (grownCap w (n+m) cap e - (n+m))) e)):=by
  intro A cap hcap hfo
  have hn:¬ (n+m≤cap):=by omega
  have h63':¬ (9223372036854775807<((n:Int)+(m:Int))):=by omega
  have hfit:=growslice_fits hcap hbytes
  have h48':¬ (281474976710656<Builtin.nextslicecap (n+m) cap*i.bytes):=by omega
  by_cases hm:m=0
  ·have hnl:=hnil hm
   subst hm
   rw [hnl]
   simp only [Nat.add_zero] at hn h63' h48' ⊢
   have h63'':¬ (9223372036854775807<(n:Int)):=by omega
   simp [Builtin.append_,run_underlying ht,run_underlying hti,sizeOf,typeInfo,zeroValue,hi,hz,asInt,asIntOf,hw0,hn,h63'',h48',Question.forced,hfo,newRow,grownCap]
  ·have hmz:¬ (m*i.size=0):=Nat.mul_ne_zero hm hsn
   simp [Builtin.append_,run_underlying ht,run_underlying hti,sizeOf,typeInfo,zeroValue,hi,hz,asInt,asIntOf,hw,hneg,hbig,hn,h63',h48',Question.forced,hfo,newRow,grownCap,hmz,hna]
   congr 2
   apply Array.ext'
   simp [List.append_assoc]
 rcases hown.2 with ⟨rfl,rfl⟩ | ⟨g,cap,cur,rfl,hbg,hg,hnc,hcm,hcs,htake⟩
 ·have hx:xs=[]:=List.eq_nil_of_length_eq_zero (by simpa using hown.1)
  subst hx
  by_cases hm:m=0
  ·have hnl:=hnil hm
   subst hm
   rw [hnl]
   refine ⟨.slice none 0 0,w,?_,World.ownsRow_nil w base e i.size,⟨rfl,rfl,rfl,Nat.le_refl _,fun _ _ _=>rfl⟩,Or.inl rfl⟩
   simp [Builtin.append_,run_underlying ht,run_underlying hti,sizeOf,typeInfo,hi,asInt,asIntOf,hw0]
  ·have hgr:=grown 0 (by omega) (Value.ownBlock (.slice none 0 0))
   exact ⟨_,_,runs none 0 (by omega) (by simp [Builtin.firstCells]),hgr.1,hgr.2,Or.inr rfl⟩
 ·by_cases hroom:n+m≤cap
  ·have hfit:n*i.size+news.length≤cur.size:=by rw [hl,hcs,← Nat.add_mul]; exact Nat.mul_le_mul_right _ hroom
   have hst:=run_storeCells_at P g (n*i.size) e news 0 cur w hg (by omega) h1
   simp only [Nat.add_zero] at hst
   have hadd:(⟨g,0,none⟩:Addr).add (n*i.size)=⟨g,n*i.size,none⟩:=by rw [Xg]; simp
   have htl:(cur.toList.take (n*i.size)).length=n*i.size:=by rw [List.length_take,Array.length_toList]; omega
   refine ⟨.slice (some ⟨g,0,none⟩) (n+m) cap,w.setRow g (cur.toList.take (n*i.size) ++ news ++ cur.toList.drop (n*i.size+news.length)).toArray,?_,⟨hlen,.inr ⟨g,cap,_,rfl,hbg,setRow_heap w g cur _ e _ hg,hroom,hcm,?_,?_⟩⟩,⟨rfl,rfl,rfl,by simp,fun k _ hk=>setRow_other w g k _ (fun e=>hk (by simp [Value.ownBlock,e]))⟩,Or.inl rfl⟩
   ·by_cases hm:m=0
    ·have hnl:=hnil hm
     subst hm
     rw [hnl] at hst ⊢
     simp [Builtin.append_,run_underlying ht,run_underlying hti,sizeOf,typeInfo,hi,asInt,asIntOf,hw0,hnc,hadd] at hst ⊢
     simp [hst]
    ·have hmz:¬ (m*i.size=0):=Nat.mul_ne_zero hm hsn
     simp [Builtin.append_,run_underlying ht,run_underlying hti,sizeOf,typeInfo,zeroValue,hi,hz,asInt,asIntOf,hw,hneg,hbig,hroom,hmz,hna,hadd] at hst ⊢
     simp [hst]
   ·simp only [List.size_toArray,List.length_append,List.length_drop,Array.length_toList,htl]
    omega
   ·have h6:cur.toList.take (n*i.size)=xs:=htake
    simp only [h6,← hlen]
    exact List.take_left
  ·have holds:∀ j u,xs[j]?=some u→w.cell? ((⟨g,0,none⟩:Addr).add j)=some u:=hown.cells (g:=g) rfl
   have hgr:=grown cap (by omega) (Value.ownBlock (.slice (some ⟨g,0,none⟩) n cap))
   exact ⟨_,_,runs (some ⟨g,0,none⟩) cap (by omega) (run_firstCells_some (P:=P) w.drew i.size n _ n cap xs hown.1 (by simpa using holds)),hgr.1,hgr.2,Or.inr rfl⟩

end
section
variable {P:Program} {tt:TT} {env:Env} {S:World→Prop} {o:Oper} {w0 w:World} {F0:Ft} {Hs Rs:List Ch}
theorem Ba {ty:Ty} {z:Value} {z0:ty.D} (hz:z.cells.toList=ty.enc z0) (m:Nat):(Builtin.zeroCells z.cells m).toList=(List.replicate m z0).flatMap ty.enc:=by
 have h1:∀(m:Nat),(List.replicate m z0).flatMap ty.enc=(List.replicate m z.cells.toList).flatten:=fun m=>by
  induction m with
  | zero=>rfl
  | succ m ih=>simp [List.replicate_succ,ih,hz]
 have h2:∀(z:Array Value),(List.range z.size).map (fun i=>z[i % z.size]!)=z.toList:=fun z=>by
  apply List.ext_getElem
  ·simp
  ·intro i hi hj
   simp only [List.length_map,List.length_range] at hi
   simp [Nat.mod_eq_of_lt hi,hi]
 have h3:∀(z:Array Value) (m:Nat),(List.range (m*z.size)).map (fun i=>z[i % z.size]!)=(List.replicate m z.toList).flatten:=fun z m=>by
  induction m with
  | zero=>simp
  | succ m ih=>
   rw [Nat.succ_mul,Nat.add_comm,List.range_add,List.map_append,h2,List.map_map,List.replicate_succ,List.flatten_cons,← ih]
   congr 1
   apply List.map_congr_left
   intro i _
   simp
 rw [h1,← h3]
 simp [Builtin.zeroCells]
theorem Vv {ty:Ty} (hsc:ty.scal=true) (xs:List ty.D):∀ u∈xs.flatMap ty.enc,u.oneCell'=true:=fun u hu=>by
 obtain ⟨x,_,hx⟩:=List.mem_flatMap.1 hu
 exact ty.ok_one (ty.ok_scal hsc default (fun _=>False) x) u hx
theorem V2 (hT:Yk P tt) {t ti e:Nat} {xa ya:Operand} {z1 z2 z3 z4:Nat} {z zi:Value} {ki kx:IntKind} {ie:TI} {ty:Ty} (hsc:ty.scal=true) {xs:List ty.D} {v:Value} {m:Int} (z0:ty.D) (k:Nat) (ho:o.op=.call { callee:=.builtin .append,args:=#[xa,ya],argTypes:=#[t,ti] })
  (hS:St w0 F0 Hs Rs w) (hk:nth Hs k=some (Yg e ty xs v)) (hx:Zq env xa=some v) (hy:Zq env ya=some (.int kx m))
  (ht:find tt t=some ⟨.slice e,z1,z2,z⟩) (hti:find tt ti=some ⟨.int ki,z3,z4,zi⟩) (hi:find tt e=some ie) (hn:ty.n=ie.size) (hz:ie.zero.cells.toList=ty.enc z0) (hpos:0<ie.size) (hby:0<ie.bytes) (h0:0≤m) (hl:((xs.length:Int)+m)*ie.bytes≤140737488355328) :
  OpT P o env w (fun v' w'=>∃ A' c',v'=.slice A' (xs ++ List.replicate m.toNat z0).length c'∧St w0 F0 (Yg e ty (xs ++ List.replicate m.toNat z0) (.slice A' (xs ++ List.replicate m.toNat z0).length c') :: Hs.eraseIdx k) Rs w'):=
 OpT.value fun n a hf=>by
  have hkk:=(hT _ _ ht).kind
  have hki:=(hT _ _ hti).kind
  simp only [TK.ok] at hkk hki
  obtain ⟨i0,hi0,hs0,hb0,hz0⟩:=(hT _ _ hi).info'
  obtain ⟨F,⟨inner,F',hown,hel,hF'1,hF'2⟩,hlt,hs⟩:=hS.turn hk
  have hin:=W4 hsc hel
  subst hin
  obtain ⟨m,rfl⟩:∃ q:Nat,m=(q:Int):=⟨m.toNat,by omega⟩
  have hl':(xs.length+m)*ie.bytes≤140737488355328:=by
   have:(((xs.length+m)*ie.bytes:Nat):Int)≤140737488355328:=by rw [Int.natCast_mul,Int.natCast_add]; exact hl
   omega
  have hzc:=Ba hz m
  obtain ⟨v',w',hr,ho',hg,hb⟩:=Zbi (P:=P) w 0 t ti o.type e i0 ie.zero ty.n ie.bytes hkk hki hi0 hz0 (by rw [hs0,hn]) hb0 (by rw [← Array.length_toList,hz,Jm hsc]) (by omega) hby v xs.length _ hown kx m
   (by rw [hzc]; exact Vv hsc _) hl' (Nat.zero_le _)
  rw [hzc] at ho'
  have hlen:(xs ++ List.replicate m z0).length=xs.length+m:=by simp
  have hrun:(execOp a.eval o).run P w=.ok (.value v') w':=by simp [execOp,ho,resolve,invoke,builtin,hf.eval hx,hf.eval hy,hr]
  have hfm:(xs ++ List.replicate m z0).flatMap ty.enc=xs.flatMap ty.enc ++ (List.replicate m z0).flatMap ty.enc:=by simp
  have hshape:∃ A' c',v'=.slice A' (xs.length+m) c':=by
   rcases ho'.2 with ⟨h,h2⟩ | ⟨g,cap,cur,h,_⟩
   ·exact ⟨none,0,by rw [h,h2]⟩
   ·exact ⟨_,_,h⟩
  obtain ⟨A',c',rfl⟩:=hshape
  refine ⟨_,w',hrun,A',c',by simp [hlen],?_⟩
  have hFv:∀ b,v.ownBlock=some b→F b:=fun b hb=>(hF'2 b hb).1
  have hown2:w'.ownsRow 0 e ty.n (.slice A' (xs.length+m) c') (xs ++ List.replicate m z0).length ((xs ++ List.replicate m z0).flatMap ty.enc):=by rw [hlen,hfm]; exact ho'
  have hlive:∀ b,(Value.slice A' (xs.length+m) c').ownBlock=some b→b<w'.heap.size:=fun b hb=>by
   rcases ho'.2 with ⟨h,h2⟩ | ⟨g,cap,cur,h,_,hh,_⟩
   ·rw [h] at hb; cases hb
   ·rw [h] at hb
    simp only [Value.ownBlock,Option.some.injEq] at hb
    subst hb
    exact (Array.getElem?_eq_some_iff.1 hh).1
  rw [show (Value.slice A' (xs ++ List.replicate ((m:Nat):Int).toNat z0).length c')=.slice A' (xs.length+m) c' by simp]
  refine hs w' (Yg e ty (xs ++ List.replicate m z0) (.slice A' (xs.length+m) c')) (fun b=>(Value.slice A' (xs.length+m) c').ownBlock=some b) (Chg.of_grown hg hFv) ⟨_,fun _=>False,hown2,Elems.scal hsc _ _ _,fun b hb=>hb.elim,fun b hb=>⟨hb,fun e=>e⟩⟩ fun b hb'=>⟨?_,hlive b hb'⟩
  rcases hb with hb | hb
  ·exact .inl (hFv b (by rw [← hb]; exact hb'))
  ·rw [hb] at hb'
   simp only [Option.some.injEq] at hb'
   exact .inr (by omega)
theorem Bn (A:Option Addr) (c s:Nat):Wf A c 0 s=A:=by
 unfold Wf
 split
 ·rfl
 ·cases A <;> simp [Addr.add]
theorem Zl0 {α:Type} (hT:Yk P tt) {t e:Nat} {x:Operand} {hi:Option Operand} {xs sub:List α} {A:Option Addr} {c:Nat} {h:Int} {z1 z2:Nat} {z:Value} {ie:TI} (ho:o.op=.slice t x none hi none) (ht:find tt t=some ⟨.slice e,z1,z2,z⟩) (he:find tt e=some ie)
  (hx:Zq env x=some (.slice A xs.length c)) (hlc:xs.length≤c) (hhi:W5 env hi (xs.length:Nat) h) (h1:0≤h) (h2:h≤(xs.length:Nat)) (hs:xs.take h.toNat=sub):QOp P o env S (.slice A sub.length c):=by
 have:=Zak (S:=S) (l:=0) (h:=h) (sub:=sub) hT ho ht he hx hlc rfl hhi (Int.le_refl _) h1 h2 (by simpa using hs)
 simpa [Bn] using this
theorem Zli {E:Nat} {ty:Ty} {xs sub:List ty.D} {A:Option Addr} {n c:Nat} {h:Int} (h1:0≤h) (h2:h≤(xs.length:Nat)) (hs:xs.take h.toNat=sub) (w:World) (F:Nat→Prop) (hr:(rdC E ty xs (.slice A n c)).ok w F):(rdC E ty sub (.slice A sub.length c)).ok w F:=by
 have:=V8 (l:=0) (h:=h) (sub:=sub) rfl (Int.le_refl _) h1 h2 (by simpa using hs) w F hr
 simpa [Bn] using this
theorem St.front {e:Nat} {ty:Ty} (hsc:ty.scal=true) {xs:List ty.D} {A:Option Addr} {n c:Nat} (k:Nat) (h:Nat) (hS:St w0 F0 Hs Rs w) (hk:nth Hs k=some (Yg e ty xs (.slice A n c))) (hle:h≤xs.length) :
  St w0 F0 (Yg e ty (xs.take h) (.slice A (xs.take h).length c) :: Hs.eraseIdx k) Rs w:=by
 obtain ⟨F,⟨inner,F',hown,hel,hF'1,hF'2⟩,hlt,hs⟩:=hS.turn hk
 have hin:=W4 hsc hel
 subst hin
 have hth:(xs.take h).length=h:=by rw [List.length_take]; omega
 refine hs w _ F (Chg.refl _ _) ⟨(xs.take h).flatMap ty.enc,F',?_,Elems.scal hsc _ _ _,hF'1,?_⟩ fun b hb=>⟨.inl hb,hlt b hb⟩
 ·rcases hown.2 with ⟨hv,hz⟩ | ⟨g,cap,cur,hv,hb,hg,hnc,hcm,hcs,htk⟩
  ·simp only [Value.slice.injEq] at hv
   obtain ⟨rfl,_,rfl⟩:=hv
   have:xs=[]:=List.eq_nil_of_length_eq_zero hz
   subst this
   simp only [List.take_nil,List.flatMap_nil,List.length_nil]
   exact ⟨by simp,.inl ⟨rfl,rfl⟩⟩
  ·simp only [Value.slice.injEq] at hv
   obtain ⟨rfl,_,rfl⟩:=hv
   refine ⟨by rw [Yw hsc],.inr ⟨g,c,cur,rfl,hb,hg,by omega,hcm,hcs,?_⟩⟩
   have hxs:xs.flatMap ty.enc=(xs.take h).flatMap ty.enc ++ (xs.drop h).flatMap ty.enc:=by rw [← List.flatMap_append,List.take_append_drop]
   have hle2:h*ty.n≤xs.length*ty.n:=Nat.mul_le_mul_right _ hle
   have e1:cur.toList.take (h*ty.n)=(cur.toList.take (xs.length*ty.n)).take (h*ty.n):=by rw [List.take_take,Nat.min_eq_left hle2]
   rw [hth,e1,htk,hxs]
   have:((xs.take h).flatMap ty.enc).length=h*ty.n:=by rw [Yw hsc,hth]
   rw [← this]
   exact List.take_left
 ·intro b hb
  exact hF'2 b (by cases A <;> exact hb)
end
end Go.SK
