/- The plain law behind ShelfPlays: what its code computes is true for all settings, calls and blocks. -/
import Derived.Test.YtgdmpkhmedbnpaaGreatDoorXShelfPlaysP0
import Derived.KernelRfl
import Derived.Sort.Walk13a
import Derived.Sort.AssemblyPlain
set_option linter.unusedVariables false
set_option linter.unusedSimpArgs false
namespace Go.SK.T
open Go Go.SK
def upd {α:Type} (g:Nat→α) (i:Nat) (v:α):Nat→α:=fun j=>if j=i then v else g j
theorem Ye {α:Type} (g:Nat→α) (i:Nat) (v:α):upd g i v i=v:=if_pos rfl
theorem Yg {α:Type} {g:Nat→α} {i j:Nat} {v:α} (h:j≠i):upd g i v j=g j:=if_neg h
structure Fm where
 b:List Int
 d:Bool
 p:Nat
structure MC where
 img:List Int
 rd:Int
 wr:Int
 fr:Nat→Option Fm
 used:Nat
 row:List Nat
def fm (x:Fr8):Fm:=⟨x.2.1,x.2.2.1,x.2.2.2.toNat⟩
def Xm (c:Ca) (i:Nat):Option Fm:=if Y7 c.2.2.1 (i:Int)=true then some (fm (c.2.1.getD (Zr 0 c.2.2.1 (i:Int)).toNat default)) else none
def X1 (c:Ca) (f:Nat):Nat:=(c.2.1.getD f default).1.toNat
def Z2 (c:Ca) (L:List Nat):MC:=⟨c.1.2.1,c.1.2.2.1,c.1.2.2.2,Xm c,c.2.2.1.length,L.map (X1 c)⟩
namespace MC
def evict (B:Nat) (m:MC) (q:Nat):MC:=match m.fr q with
 | none=>m
 | some x=>⟨if x.d=true then patch m.img (q*B) B x.b else m.img,m.rd,if x.d=true then m.wr+1 else m.wr,upd m.fr q none,m.used - 1,m.row.erase q⟩
def room (B n:Nat) (m:MC):Option MC:=if m.used<n then some m else match m.row.getLast? with
 | none=>none
 | some q=>some (m.evict B q)
def come (m:MC) (i:Nat) (x:Fm):MC:=⟨m.img,m.rd,m.wr,upd m.fr i (some x),m.used+1,m.row⟩
def put (m:MC) (i:Nat) (x:Fm):MC:=⟨m.img,m.rd,m.wr,upd m.fr i (some x),m.used,m.row⟩
def cut (m:MC) (i:Nat):MC:=⟨m.img,m.rd,m.wr,m.fr,m.used,m.row.erase i⟩
def pin (N B n:Nat) (m:MC) (i:Nat):Int×MC:=
 if N≤i then (4,m) else match m.fr i with
 | some x=>(0,(m.put i ⟨x.b,x.d,x.p+1⟩).cut i)
 | none=>match m.room B n with
  | none=>(7,m)
  | some k=>(0,(⟨k.img,k.rd+1,k.wr,k.fr,k.used,k.row⟩:MC).come i ⟨blk k.img B i,false,1⟩)
def fresh (N B n:Nat) (m:MC) (i:Nat):Int×MC:=
 if N≤i then (4,m) else match m.fr i with
 | some x=>if 0<x.p then (8,m) else (0,(m.put i ⟨List.replicate B 0,true,1⟩).cut i)
 | none=>match m.room B n with
  | none=>(7,m)
  | some k=>(0,k.come i ⟨List.replicate B 0,true,1⟩)
def unpin (m:MC) (i:Nat):Int×MC:=match m.fr i with
 | none=>(8,m)
 | some x=>if x.p=0 then (8,m) else (0,if x.p=1 then ⟨m.img,m.rd,m.wr,upd m.fr i (some ⟨x.b,x.d,0⟩),m.used,i :: m.row⟩ else m.put i ⟨x.b,x.d,x.p - 1⟩)
def write (B:Nat) (m:MC) (i:Nat) (b:TV):Int×MC:=match m.fr i with
 | none=>(8,m)
 | some x=>if x.p=0 then (8,m) else if b.length=B then (0,m.put i ⟨b,true,x.p⟩) else (3,m)
def read (m:MC) (i:Nat):List Int×Int:=match m.fr i with
 | none=>([],8)
 | some x=>if x.p=0 then ([],8) else (x.b,0)
def drop (m:MC) (i:Nat):Int×MC:=match m.fr i with
 | none=>(0,m)
 | some x=>if 0<x.p then (8,m) else (0,⟨m.img,m.rd,m.wr,upd m.fr i none,m.used - 1,m.row.erase i⟩)
def isD (m:MC) (i:Nat):Bool:=match m.fr i with
 | none=>false
 | some x=>x.d
def dirty (N:Nat) (m:MC):List Nat:=(List.range N).filter m.isD
def backI (B:Nat) (m:MC) (i:Nat):MC:=match m.fr i with
 | none=>m
 | some x=>⟨patch m.img (i*B) B x.b,m.rd,m.wr+1,upd m.fr i (some ⟨x.b,false,x.p⟩),m.used,m.row⟩
def flush (N B:Nat) (m:MC):MC:=(m.dirty N).foldl (backI B) m
def pins (m:MC) (i:Nat):Int:=match m.fr i with
 | none=>0
 | some x=>x.p
end MC
theorem MC.ext' {a b:MC} (h1:a.img=b.img) (h2:a.rd=b.rd) (h3:a.wr=b.wr) (h4:∀ i,a.fr i=b.fr i) (h5:a.used=b.used) (h6:a.row=b.row):a=b:=by
 cases a; cases b
 simp only at h1 h2 h3 h4 h5 h6
 subst h1 h2 h3 h5 h6
 have:=funext h4
 subst this
 rfl
theorem Zau {g:Nat→Nat}:∀ {L:List Nat} {a:Nat},(∀ x∈L,g x=g a→x=a)→(L.erase a).map g=(L.map g).erase (g a)
 | [],_,_=>rfl
 | x :: L,a,h=>by
  rw [List.map_cons,List.erase_cons,List.erase_cons]
  by_cases q:x=a
  ·subst q; simp
  ·have:¬ g x=g a:=fun e=>q (h x (by simp) e)
   simp only [beq_iff_eq,q,this,if_false,List.map_cons]
   rw [Zau fun y hy=>h y (by simp [hy])]
section
variable {N B n t:Nat} {H:List Nat} {c:Ca} {L:List Nat}
theorem Wd (h:CaI N B n t H c L) {i f:Nat} (ha:((i:Int),(f:Int))∈c.2.2.1):Xm c i=some (fm (c.2.1.getD f default)):=by
 unfold Xm
 rw [if_pos (mhas_iff.2 ⟨_,ha⟩),Xy h.mnd ha,Int.toNat_natCast]
theorem V5 {i:Nat} (h:∀ v,((i:Int),v)∉c.2.2.1):Xm c i=none:=by
 unfold Xm
 rw [if_neg fun q=>by obtain ⟨v,hv⟩:=mhas_iff.1 q; exact h v hv]
theorem Vp (h:CaI N B n t [] c L) {f:Nat} (hf:f∈L):∃ i:Nat,((i:Int),(f:Int))∈c.2.2.1∧X1 c f=i∧(c.2.1.getD f default).2.2.2=0∧Okf N B n t c i f:=by
 obtain ⟨⟨j,hj⟩,hp⟩:=(h.lok f).1 hf
 obtain ⟨i,f',e1,e2,ok⟩:=h.at hj
 have:f=f':=by omega
 subst this
 refine ⟨i,by rw [← e1]; exact hj,?_,hp,ok⟩
 unfold X1
 rw [ok.blk,Int.toNat_natCast]
theorem J2 (h:CaI N B n t H c L) {i f:Nat} (ha:((i:Int),(f:Int))∈c.2.2.1):X1 c f=i:=by
 unfold X1; rw [(h.atN ha).blk,Int.toNat_natCast]
theorem Za5 (h:CaI N B n t H c L) {i f f':Nat} (h1:((i:Int),(f:Int))∈c.2.2.1) (h2:((i:Int),(f':Int))∈c.2.2.1):f=f':=by
 have a1:=Xy (d:=0) h.mnd h1
 have a2:=Xy (d:=0) h.mnd h2
 omega
theorem U8 (h:CaI N B n t [] c L) {i f:Nat} (ha:((i:Int),(f:Int))∈c.2.2.1):(L.erase f).map (X1 c)=(L.map (X1 c)).erase i:=by
 have e:=J2 h ha
 conv=>rhs; rw [← e]
 refine Zau fun x hx q=>?_
 obtain ⟨j,hj,e2,_⟩:=Vp h hx
 have:j=i:=by omega
 subst this
 exact Za5 h hj ha
theorem Znt (h:CaI N B n t [] c L) {i f:Nat} (ha:((i:Int),(f:Int))∈c.2.2.1):i∈L.map (X1 c)↔f∈L:=by
 constructor
 ·intro q
  obtain ⟨x,hx,e⟩:=List.mem_map.1 q
  obtain ⟨j,hj,e2,_⟩:=Vp h hx
  have:j=i:=by omega
  subst this
  rw [← Za5 h hj ha]; exact hx
 ·intro q
  exact List.mem_map.2 ⟨f,q,J2 h ha⟩
theorem Zeo {f:Nat} {x:Fr8} (hf:f<c.2.1.length) {d:Dv} {mp:TL} {E:TV} {ch:Chn} (k:Nat):X1 (d,c.2.1.set f x,mp,E,ch) k=if f=k then x.1.toNat else X1 c k:=by
 unfold X1
 try dsimp only
 rw [Xa hf]
 split <;> rfl
theorem Wo {f:Nat} {x:Fr8} (hf:f<c.2.1.length) (hx:x.1.toNat=X1 c f) {d:Dv} {mp:TL} {E:TV} {ch:Chn} (M:List Nat):M.map (X1 (d,c.2.1.set f x,mp,E,ch))=M.map (X1 c):=List.map_congr_left fun k _=>by
 rw [Zeo hf]
 split
 ·rename_i q; rw [hx,q]
 ·rfl
theorem Ub {f:Nat} {x:Fr8} (hf:f<c.2.1.length) {d:Dv} {mp:TL} {E:TV} {ch:Chn} {M:List Nat} (hM:f∉M):M.map (X1 (d,c.2.1.set f x,mp,E,ch))=M.map (X1 c):=List.map_congr_left fun k hk=>by
 rw [Zeo hf,if_neg fun q=>hM (by rw [q]; exact hk)]
theorem Uh (h:CaI N B n t H c L) {i f:Nat} (ha:((i:Int),(f:Int))∈c.2.2.1) {x:Fr8} {d:Dv} {E:TV} {ch:Chn} (j:Nat):Xm (d,c.2.1.set f x,c.2.2.1,E,ch) j=upd (Xm c) i (some (fm x)) j:=by
 have ok:=h.atN ha
 have hfl:f<c.2.1.length:=by rw [h.frl]; exact ok.hf
 by_cases q:j=i
 ·subst q
  rw [Ye]
  unfold Xm
  try dsimp only
  rw [if_pos (mhas_iff.2 ⟨_,ha⟩),Xy h.mnd ha,Int.toNat_natCast,Xa hfl,if_pos rfl]
 ·rw [Yg q]
  unfold Xm
  try dsimp only
  split
  ·rename_i hm
   obtain ⟨v,hv⟩:=mhas_iff.1 hm
   obtain ⟨j',f',e1,rfl,ok'⟩:=h.at hv
   have e3:j=j':=by omega
   subst e3
   rw [Xy h.mnd hv,Int.toNat_natCast,Xa hfl,if_neg]
   intro e; subst e; exact q (h.one hv ha)
  ·rfl
theorem Zer (h:CaI N B n t H c L) (i j:Nat):Y7 (Wa (i:Int) c.2.2.1) (j:Int)=(Y7 c.2.2.1 (j:Int) && decide (j≠i)):=by
 rw [Bool.eq_iff_iff,mhas_iff,Bool.and_eq_true,mhas_iff,decide_eq_true_eq]
 constructor
 ·rintro ⟨v,hv⟩
  rw [Ug h.mnd] at hv
  exact ⟨⟨v,hv.1⟩,fun e=>hv.2 (by rw [e])⟩
 ·rintro ⟨⟨v,hv⟩,e⟩
  exact ⟨v,(Ug h.mnd).2 ⟨hv,fun q=>e (by have:(j:Int)=i:=q; omega)⟩⟩
theorem B3 (h:CaI N B n t H c L) {i f:Nat} (ha:((i:Int),(f:Int))∈c.2.2.1) {x:Fr8} {d:Dv} {E:TV} {ch:Chn} (j:Nat):Xm (d,c.2.1.set f x,Wa (i:Int) c.2.2.1,E,ch) j=upd (Xm c) i none j:=by
 have ok:=h.atN ha
 have hfl:f<c.2.1.length:=by rw [h.frl]; exact ok.hf
 by_cases q:j=i
 ·subst q
  rw [Ye]
  unfold Xm
  try dsimp only
  rw [if_neg (by rw [Zer h]; simp)]
 ·rw [Yg q]
  unfold Xm
  try dsimp only
  rw [Zer h]
  by_cases hm:Y7 c.2.2.1 (j:Int)=true
  ·obtain ⟨v,hv⟩:=mhas_iff.1 hm
   obtain ⟨j',f',e1,rfl,ok'⟩:=h.at hv
   have e3:j=j':=by omega
   subst e3
   have hv':((j:Int),(f':Int))∈Wa (i:Int) c.2.2.1:=(Ug h.mnd).2 ⟨hv,fun e=>q (by have:(j:Int)=i:=e; omega)⟩
   rw [if_pos (by rw [hm]; simp [q]),if_pos hm,Xy ((mdel_sub.map _).nodup h.mnd) hv',Xy h.mnd hv,Int.toNat_natCast,Xa hfl,if_neg]
   intro e; subst e; exact q (h.one hv ha)
  ·rw [if_neg hm,if_neg (by simp [hm])]
theorem Zfb {f:Nat} (h:CaI N B n t [f] c L) {i:Nat} (hno:∀ v,((i:Int),v)∉c.2.2.1) {x:Fr8} {d:Dv} {E:TV} {ch:Chn} (j:Nat):Xm (d,c.2.1.set f x,c.2.2.1 ++ [((i:Int),(f:Int))],E,ch) j=upd (Xm c) i (some (fm x)) j:=by
 obtain ⟨hf,hfe,hfm⟩:=h.hol f (by simp)
 have hfl:f<c.2.1.length:=by rw [h.frl]; exact hf
 have hnd:((c.2.2.1 ++ [((i:Int),(f:Int))]).map Prod.fst).Nodup:=by
  rw [List.map_append,List.nodup_append]
  refine ⟨h.mnd,by simp,fun a ha b hb e=>?_⟩
  obtain ⟨p,hp,rfl⟩:=List.mem_map.1 ha
  simp only [List.map_cons,List.map_nil,List.mem_singleton] at hb
  exact hno p.2 (by rw [← hb,← e]; exact hp)
 unfold Xm
 try dsimp only
 by_cases q:j=i
 ·subst q
  have hv:((j:Int),(f:Int))∈c.2.2.1 ++ [((j:Int),(f:Int))]:=by simp
  rw [Ye,if_pos (mhas_iff.2 ⟨_,hv⟩),Xy hnd hv,Int.toNat_natCast,Xa hfl,if_pos rfl]
 ·rw [Yg q]
  by_cases hm:Y7 c.2.2.1 (j:Int)=true
  ·obtain ⟨v,hv⟩:=mhas_iff.1 hm
   obtain ⟨j',f',e1,rfl,ok'⟩:=h.at hv
   have e3:j=j':=by omega
   subst e3
   have hv':((j:Int),(f':Int))∈c.2.2.1 ++ [((i:Int),(f:Int))]:=by simp [hv]
   rw [if_pos (mhas_iff.2 ⟨_,hv'⟩),if_pos hm,Xy hnd hv',Xy h.mnd hv,Int.toNat_natCast,Xa hfl,if_neg]
   intro e; subst e; exact hfm _ hv
  ·rw [if_neg hm,if_neg]
   intro hm2
   obtain ⟨v,hv⟩:=mhas_iff.1 hm2
   rcases List.mem_append.1 hv with hv | hv
   ·exact hm (mhas_iff.2 ⟨v,hv⟩)
   ·rw [List.mem_singleton,Prod.mk.injEq] at hv
    exact q (by omega)
theorem Znp (h:CaI N B n t H c L) {i:Nat} {x:Fm} (hx:Xm c i=some x):i<N∧x.b.length=B∧x.p≤t:=by
 unfold Xm at hx
 split at hx
 ·rename_i hm
  obtain ⟨v,hv⟩:=mhas_iff.1 hm
  obtain ⟨j',f',e1,rfl,ok'⟩:=h.at hv
  have e3:i=j':=by omega
  subst e3
  rw [Xy h.mnd hv,Int.toNat_natCast] at hx
  injection hx with hx
  subst hx
  refine ⟨ok'.hi,ok'.len,?_⟩
  have:=ok'.pin
  unfold fm
  try dsimp only
  omega
 ·cases hx
end
namespace MC
section
variable {N B n i:Nat} {m k:MC} {x:Fm} {b:TV}
theorem pin_out (h:N≤i):m.pin N B n i=(4,m):=by unfold pin; rw [if_pos h]
theorem pin_hit (h:¬ N≤i) (e:m.fr i=some x):m.pin N B n i=(0,(m.put i ⟨x.b,x.d,x.p+1⟩).cut i):=by unfold pin; rw [if_neg h,e]
theorem pin_full (h:¬ N≤i) (e:m.fr i=none) (r:m.room B n=none):m.pin N B n i=(7,m):=by unfold pin; rw [if_neg h,e,r]
theorem pin_miss (h:¬ N≤i) (e:m.fr i=none) (r:m.room B n=some k):m.pin N B n i=(0,(⟨k.img,k.rd+1,k.wr,k.fr,k.used,k.row⟩:MC).come i ⟨blk k.img B i,false,1⟩):=by unfold pin; rw [if_neg h,e,r]
theorem fresh_out (h:N≤i):m.fresh N B n i=(4,m):=by unfold fresh; rw [if_pos h]
theorem fresh_pin (h:¬ N≤i) (e:m.fr i=some x) (p:0<x.p):m.fresh N B n i=(8,m):=by unfold fresh; rw [if_neg h,e]; exact if_pos p
theorem fresh_hit (h:¬ N≤i) (e:m.fr i=some x) (p:¬ 0<x.p):m.fresh N B n i=(0,(m.put i ⟨List.replicate B 0,true,1⟩).cut i):=by unfold fresh; rw [if_neg h,e]; exact if_neg p
theorem fresh_full (h:¬ N≤i) (e:m.fr i=none) (r:m.room B n=none):m.fresh N B n i=(7,m):=by unfold fresh; rw [if_neg h,e,r]
theorem fresh_miss (h:¬ N≤i) (e:m.fr i=none) (r:m.room B n=some k):m.fresh N B n i=(0,k.come i ⟨List.replicate B 0,true,1⟩):=by unfold fresh; rw [if_neg h,e,r]
theorem unpin_no (e:m.fr i=none):m.unpin i=(8,m):=by unfold unpin; rw [e]
theorem unpin_out (e:m.fr i=some x) (p:x.p=0):m.unpin i=(8,m):=by unfold unpin; rw [e]; exact if_pos p
theorem unpin_one (e:m.fr i=some x) (p:x.p=1):m.unpin i=(0,⟨m.img,m.rd,m.wr,upd m.fr i (some ⟨x.b,x.d,0⟩),m.used,i :: m.row⟩):=by unfold unpin; rw [e]; dsimp only; rw [if_neg (by omega),if_pos p]
theorem unpin_more (e:m.fr i=some x) (p:x.p≠0) (q:x.p≠1):m.unpin i=(0,m.put i ⟨x.b,x.d,x.p - 1⟩):=by unfold unpin; rw [e]; dsimp only; rw [if_neg p,if_neg q]
theorem write_no (e:m.fr i=none):m.write B i b=(8,m):=by unfold write; rw [e]
theorem write_out (e:m.fr i=some x) (p:x.p=0):m.write B i b=(8,m):=by unfold write; rw [e]; exact if_pos p
theorem write_form (e:m.fr i=some x) (p:x.p≠0) (q:b.length≠B):m.write B i b=(3,m):=by unfold write; rw [e]; dsimp only; rw [if_neg p,if_neg q]
theorem write_hit (e:m.fr i=some x) (p:x.p≠0) (q:b.length=B):m.write B i b=(0,m.put i ⟨b,true,x.p⟩):=by unfold write; rw [e]; dsimp only; rw [if_neg p,if_pos q]
theorem read_no (e:m.fr i=none):m.read i=([],8):=by unfold read; rw [e]
theorem read_out (e:m.fr i=some x) (p:x.p=0):m.read i=([],8):=by unfold read; rw [e]; exact if_pos p
theorem read_hit (e:m.fr i=some x) (p:x.p≠0):m.read i=(x.b,0):=by unfold read; rw [e]; exact if_neg p
theorem drop_no (e:m.fr i=none):m.drop i=(0,m):=by unfold drop; rw [e]
theorem drop_pin (e:m.fr i=some x) (p:0<x.p):m.drop i=(8,m):=by unfold drop; rw [e]; exact if_pos p
theorem drop_hit (e:m.fr i=some x) (p:¬ 0<x.p):m.drop i=(0,⟨m.img,m.rd,m.wr,upd m.fr i none,m.used - 1,m.row.erase i⟩):=by unfold drop; rw [e]; exact if_neg p
theorem evict_eq (e:m.fr i=some x):m.evict B i=⟨if x.d=true then patch m.img (i*B) B x.b else m.img,m.rd,if x.d=true then m.wr+1 else m.wr,upd m.fr i none,m.used - 1,m.row.erase i⟩:=by unfold evict; rw [e]
end
end MC
section
variable {N B n t:Nat} {H:List Nat} {c:Ca} {L:List Nat}
theorem Znr {α:Type} (g:Nat→α) (i:Nat) (u v:α) (j:Nat):upd (upd g i u) i v j=upd g i v j:=by unfold upd; split <;> rfl
theorem Zlj {α:Type} {g g':Nat→α} (h:∀ j,g j=g' j) (i:Nat) (v:α) (j:Nat):upd g i v j=upd g' i v j:=by unfold upd; split; rfl; exact h j
theorem Zaf (h:CaI N B n t [] c L) (f:Nat):f∉L.erase f:=fun q=>(h.chn.nd.mem_erase_iff.1 q).1 rfl
theorem Zmw (z:Siz N B n) (h:CaI N B n t [] c L) (hw:0≤c.1.2.2.2∧c.1.2.2.2≤1000000000):(Q25.f c=some (0,false,c)∧(Z2 c L).room B n=none)∨
  ∃(f:Nat) (c':Ca) (L':List Nat),Q25.f c=some ((f:Int),true,c')∧CaI N B n t [f] c' L'∧(Z2 c L).room B n=some (Z2 c' L')∧f∉L':=by
 have h64:=z.h64
 have htot:=h.tot
 have hfl:=h.frl
 have wr:IntKind.u64.wrap (c.1.2.2.2+1)=c.1.2.2.2+1:=Zi2 hw
 have hru:(Z2 c L).used=c.2.2.1.length:=rfl
 by_cases he:c.2.2.2.1=[]
 ·have e0:(decide ((c.2.2.2.1.length:Int)=0))=true:=by rw [he]; rfl
  have eu:¬ (Z2 c L).used<n:=by rw [hru]; rw [he] at htot; simp only [List.length_nil] at htot; omega
  rcases List.eq_nil_or_concat L with rfl | ⟨L0,q,hq⟩
  ·left
   refine ⟨?_,?_⟩
   ·unfold Q25.f
    rw [if_pos e0,show Q29.f (c.2.2.2.2.1,c.2.2.2.2.2)=_ from Ze0 h.chn,Option.bind_some,if_pos (by simp)]
   ·unfold MC.room
    rw [if_neg eu]
    rfl
  ·right
   rw [List.concat_eq_append] at hq
   subst hq
   obtain ⟨⟨j,hj⟩,hp⟩:=(h.lok q).1 (by simp)
   obtain ⟨i,q',rfl,e2,ok⟩:=h.at hj
   have:q=q':=by omega
   subst this
   have hf:=ok.hf
   have hqn:q∉(L0 ++ [q]).erase q:=Zaf h q
   have hfr:=Wd h hj
   have g:gt c.2.1 (q:Int)=c.2.1.getD q default:=Z9 _ _
   have hrm:(Z2 c (L0 ++ [q])).room B n=some ((Z2 c (L0 ++ [q])).evict B i):=by
    unfold MC.room
    rw [if_neg eu]
    have:(Z2 c (L0 ++ [q])).row.getLast?=some i:=by
     show ((L0 ++ [q]).map (X1 c)).getLast?=_
     rw [List.map_append,List.map_cons,List.map_nil,List.getLast?_concat,J2 h hj]
    rw [this]
   have hml:=Bz (mhas_iff.2 ⟨_,hj⟩)
   unfold Q25.f
   rw [if_pos e0,show Q29.f (c.2.2.2.2.1,c.2.2.2.2.2)=_ from Zmz h.chn (by omega),Option.bind_some,if_neg (by simp)]
   try dsimp only
   rw [if_pos (by omega)]
   have one:w64 ((([] ++ [(q:Int)]:List Int).length:Int) - 1)=0:=by
    show w64 (((1:Nat):Int) - 1)=0
    decide
   rw [hrm,MC.evict_eq (show (Z2 c (L0 ++ [q])).fr i=_ from hfr)]
   by_cases hd:(gt c.2.1 (q:Int)).2.2.1=true
   ·have hb:=h.back z hj (c.1.2.2.1,c.1.2.2.2+1)
    obtain ⟨ch,e,hl⟩:=Zag z hb (by exact hj)
    have hd':(fm (c.2.1.getD q default)).d=true:=by rw [← g]; exact hd
    rw [if_pos hd,show Q58.f (c.1.1,c.1.2.1,(c.1.2.2.1,c.1.2.2.2)) (gt c.2.1 (q:Int)).1 (gt c.2.1 (q:Int)).2.1=_ from Zgi z h hj,Option.bind_some]
    try dsimp only
    rw [wr,Int.toNat_natCast,show Q23.f ((c.1.1,patch c.1.2.1 (i*B) B (gt c.2.1 (q:Int)).2.1,c.1.2.2.1,c.1.2.2.2+1),c.2.1.set q ((gt c.2.1 (q:Int)).1,(gt c.2.1 (q:Int)).2.1,false,(gt c.2.1 (q:Int)).2.2.2),c.2.2.1,c.2.2.2.1,c.2.2.2.2.1,c.2.2.2.2.2) (q:Int)=_ from e,Option.bind_some]
    try dsimp only
    rw [he,one,if_pos (by simp),if_pos (by simp),if_pos hd',if_pos hd']
    refine ⟨q,_,(L0 ++ [q]).erase q,rfl,hl.take (E:=[]) (by dsimp only; rw [he]),congrArg some (MC.ext' ?_ rfl rfl ?_ ?_ ?_),hqn⟩
    ·show patch c.1.2.1 (i*B) B (fm (c.2.1.getD q default)).b=_
     rw [← g]; rfl
    ·intro j
     show upd (Xm c) i none j=_
     refine Eq.trans ?_ (B3 hb hj j).symm
     refine Eq.trans (Znr (Xm c) i _ none j).symm (Zlj (fun j=>(Uh h hj j).symm) i none j)
    ·show c.2.2.1.length - 1=(Wa (i:Int) c.2.2.1).length
     omega
    ·show ((L0 ++ [q]).map (X1 c)).erase i=_
     have hfl2:=hb.frl
     refine Eq.trans (U8 h hj).symm ?_
     refine Eq.trans ?_ (Ub (c:=((c.1.1,patch c.1.2.1 (i*B) B (gt c.2.1 (q:Int)).2.1,c.1.2.2.1,c.1.2.2.2+1),c.2.1.set q ((gt c.2.1 (q:Int)).1,(gt c.2.1 (q:Int)).2.1,false,(gt c.2.1 (q:Int)).2.2.2),c.2.2)) (by rw [hfl2]; exact hf) hqn).symm
     exact (Wo (by omega) (by rw [g]; rfl) _).symm
   ·obtain ⟨ch,e,hl⟩:=Zag z h hj
    have hd':¬ (fm (c.2.1.getD q default)).d=true:=by rw [← g]; exact hd
    rw [if_neg hd,show Q23.f ((c.1.1,c.1.2.1,(c.1.2.2.1,c.1.2.2.2)),c.2.1,c.2.2.1,c.2.2.2.1,(c.2.2.2.2.1,c.2.2.2.2.2)) (q:Int)=_ from e,Option.bind_some]
    try dsimp only
    rw [he,one,if_pos (by simp),if_pos (by simp),if_neg hd',if_neg hd']
    refine ⟨q,_,(L0 ++ [q]).erase q,rfl,hl.take (E:=[]) (by dsimp only; rw [he]),congrArg some (MC.ext' rfl rfl rfl ?_ ?_ ?_),hqn⟩
    ·intro j
     exact (B3 h hj j).symm
    ·show c.2.2.1.length - 1=(Wa (i:Int) c.2.2.1).length
     omega
    ·show ((L0 ++ [q]).map (X1 c)).erase i=_
     refine Eq.trans (U8 h hj).symm ?_
     exact (Ub (by omega) hqn).symm
 ·right
  obtain ⟨E,x,hx⟩:∃ E x,c.2.2.2.1=E ++ [x]:=by
   rcases List.eq_nil_or_concat c.2.2.2.1 with e | ⟨E,x,e⟩
   ·exact absurd e he
   ·exact ⟨E,x,by rw [e,List.concat_eq_append]⟩
  obtain ⟨f,rfl,hf⟩:=h.emp x (by rw [hx]; simp)
  have hll:c.2.2.2.1.length=E.length+1:=by rw [hx]; simp
  have e1:w64 ((c.2.2.2.1.length:Int) - 1)=(E.length:Int):=by rw [Zz (by omega) (by omega)]; omega
  unfold Q25.f
  rw [if_neg (by simp only [decide_eq_true_eq]; omega),e1,if_pos (by omega),if_pos (by omega),Int.toNat_natCast]
  have e2:gt c.2.2.2.1 (E.length:Int)=(f:Int):=by
   rw [Z9,hx,List.getD_eq_getElem?_getD,List.getElem?_append_right (Nat.le_refl _)]; simp
  have e3:c.2.2.2.1.take E.length=E:=by rw [hx,List.take_left]
  rw [e2,e3]
  refine ⟨f,_,L,rfl,h.take hx,?_,fun q=>?_⟩
  ·unfold MC.room
   rw [if_pos (by rw [hru]; omega)]
   rfl
  ·obtain ⟨i,hi,_,_,ok⟩:=Vp h q
   exact ok.emp (by rw [hx]; simp)
theorem Zo5 (z:Siz N B n) (h:CaI N B n t [] c L) (fw:Few c) (ht:t≤1000000) (i:Nat) (hi:i<4294967296):∃ c' L',Q19.f c (i:Int)=some (((Z2 c L).pin N B n i).1,c')∧CaI N B n (t+1) [] c' L'∧Z2 c' L'=((Z2 c L).pin N B n i).2:=by
 have h64:=z.h64
 have hfl:=h.frl
 unfold Q19.f
 rw [show Q26.f ((c.1.1,c.1.2.1,(c.1.2.2.1,c.1.2.2.2)),c.2.1,c.2.2.1,c.2.2.2.1,(c.2.2.2.2.1,c.2.2.2.2.2)) (i:Int)=_ from Zld z h i hi,Option.bind_some]
 by_cases q:N≤i
 ·rw [if_pos q,if_pos (by simp),MC.pin_out q]
  exact ⟨_,L,rfl,h.mono (Nat.le_succ t),rfl⟩
 ·rw [if_neg q,if_neg (by simp)]
  rcases h.get i with ⟨g1,g2⟩ | ⟨f,ha,g1,g2,ok⟩
  ·have hno:(Z2 c L).fr i=none:=V5 g2
   rw [if_neg (by simp [g1])]
   rcases Zmw z h ⟨fw.wr.1,by have:=fw.wr.2; omega⟩ with ⟨e,er⟩ | ⟨f,c1,L1,e,h1,er,hfL⟩
   ·rw [show Q25.f ((c.1.1,c.1.2.1,(c.1.2.2.1,c.1.2.2.2)),c.2.1,c.2.2.1,c.2.2.2.1,(c.2.2.2.2.1,c.2.2.2.2.2))=_ from e,Option.bind_some,if_pos (by simp),MC.pin_full q hno er]
    exact ⟨_,L,rfl,h.mono (Nat.le_succ t),rfl⟩
   ·rcases Zm6 z h ⟨fw.wr.1,by have:=fw.wr.2; omega⟩ with e' | ⟨f',c1',L1',e',_,k1,k2,k3⟩
    ·rw [e] at e'; simp at e'
    ·rw [e] at e'
     simp only [Option.some.injEq,Prod.mk.injEq,true_and] at e'
     have ec:c1=c1':=e'.2
     subst ec
     obtain ⟨hf,hfe,hfm⟩:=h1.hol f (by simp)
     have hfl1:=h1.frl
     have hno1:∀ v,((i:Int),v)∉c1.2.2.1:=fun v hv=>g2 v (k3 _ hv)
     obtain ⟨r5,ch,e5,hc5⟩:=Zga h1.chn hf (by omega)
     rw [List.erase_of_not_mem hfL] at hc5
     rw [show Q25.f ((c.1.1,c.1.2.1,(c.1.2.2.1,c.1.2.2.2)),c.2.1,c.2.2.1,c.2.2.2.1,(c.2.2.2.2.1,c.2.2.2.2.2))=_ from e,Option.bind_some,if_neg (by simp)]
     try dsimp only
     rw [show Q56.f (c1.1.1,c1.1.2.1,(c1.1.2.2.1,c1.1.2.2.2)) (i:Int)=_ from Zoj z h1 (by omega),Option.bind_some,if_neg (by simp),if_pos (by omega),show Q27.f (c1.2.2.2.2.1,c1.2.2.2.2.2) (f:Int)=_ from e5,Option.bind_some]
     have hcm:=(h1.mono (Nat.le_succ t)).come (show i<N by omega) hno1 (x:=((i:Int),blk c1.1.2.1 B i,false,1)) rfl (Zc9 h1.dim (by omega)) rfl (by omega) hc5
     try dsimp only
     rw [Zi2 (by rw [k1]; have:=fw.rd; omega),Ze9 hno1,Int.toNat_natCast,MC.pin_miss q hno er]
     refine ⟨_,L1,rfl,hcm.dev (s:=(c1.1.2.2.1+1,c1.1.2.2.2)) h1.dim,MC.ext' rfl rfl rfl ?_ ?_ ?_⟩
     ·intro j; exact Zfb h1 hno1 j
     ·show (c1.2.2.1 ++ [((i:Int),(f:Int))]).length=c1.2.2.1.length+1
      simp
     ·exact Ub (by omega) hfL
  ·have hf:=ok.hf
   have hp:=ok.pin
   have hfr:(Z2 c L).fr i=_:=Wd h ha
   obtain ⟨r2,ch,e2,hc2⟩:=Zga h.chn ok.hf (by omega)
   have g:gt c.2.1 (f:Int)=c.2.1.getD f default:=Z9 _ _
   have wp:w64 ((c.2.1.getD f default).2.2.2+1)=(c.2.1.getD f default).2.2.2+1:=Zz (by omega) (by omega)
   have hs:=h.setfr ha (x:=((gt c.2.1 (f:Int)).1,(gt c.2.1 (f:Int)).2.1,(gt c.2.1 (f:Int)).2.2.1,w64 ((gt c.2.1 (f:Int)).2.2.2+1))) (t':=t+1) (by rw [g]; exact ok.blk) (by rw [g]; exact ok.len) (by rw [g]; dsimp only; rw [wp]; omega) (Nat.le_succ t) hc2 (Ze8 h (by rw [g]; dsimp only; rw [wp]; omega))
   rw [if_pos g1,g2,if_pos (by omega),show Q27.f (c.2.2.2.2.1,c.2.2.2.2.2) (f:Int)=_ from e2,Option.bind_some,Int.toNat_natCast,MC.pin_hit q hfr]
   refine ⟨_,L.erase f,rfl,hs,MC.ext' rfl rfl rfl (fun j=>?_) rfl ?_⟩
   ·refine Eq.trans (Uh h ha j) ?_
    show upd (Xm c) i _ j=upd (Xm c) i _ j
    congr 2
    unfold fm
    rw [g]
    try dsimp only
    rw [wp,show ((c.2.1.getD f default).2.2.2+1).toNat=(c.2.1.getD f default).2.2.2.toNat+1 by omega]
   ·exact Eq.trans (Wo (by omega) (by rw [g]; rfl) _) (U8 h ha)
theorem Zog (z:Siz N B n) (h:CaI N B n t [] c L) (fw:Few c) (ht:t≤1000000) (i:Nat) (hi:i<4294967296):∃ c' L',Q18.f c (i:Int)=some (((Z2 c L).fresh N B n i).1,c')∧CaI N B n (t+1) [] c' L'∧Z2 c' L'=((Z2 c L).fresh N B n i).2:=by
 have h64:=z.h64
 have hB:=z.B_le
 have hfl:=h.frl
 have hsz:=h.dsz
 unfold Q18.f Q55.f
 rw [show Q26.f ((c.1.1,c.1.2.1,(c.1.2.2.1,c.1.2.2.2)),c.2.1,c.2.2.1,c.2.2.2.1,(c.2.2.2.2.1,c.2.2.2.2.2)) (i:Int)=_ from Zld z h i hi,Option.bind_some]
 by_cases q:N≤i
 ·rw [if_pos q,if_pos (by simp),MC.fresh_out q]
  exact ⟨_,L,rfl,h.mono (Nat.le_succ t),rfl⟩
 ·rw [if_neg q,if_neg (by simp)]
  rcases h.get i with ⟨g1,g2⟩ | ⟨f,ha,g1,g2,ok⟩
  ·have hno:(Z2 c L).fr i=none:=V5 g2
   rw [if_neg (by simp [g1]),if_pos (by simp [g1])]
   rcases Zmw z h ⟨fw.wr.1,by have:=fw.wr.2; omega⟩ with ⟨e,er⟩ | ⟨f,c1,L1,e,h1,er,hfL⟩
   ·rw [show Q25.f ((c.1.1,c.1.2.1,(c.1.2.2.1,c.1.2.2.2)),c.2.1,c.2.2.1,c.2.2.2.1,(c.2.2.2.2.1,c.2.2.2.2.2))=_ from e,Option.bind_some,if_pos (by simp),MC.fresh_full q hno er]
    exact ⟨_,L,rfl,h.mono (Nat.le_succ t),rfl⟩
   ·rcases Zm6 z h ⟨fw.wr.1,by have:=fw.wr.2; omega⟩ with e' | ⟨f',c1',L1',e',_,k1,k2,k3⟩
    ·rw [e] at e'; simp at e'
    ·rw [e] at e'
     simp only [Option.some.injEq,Prod.mk.injEq,true_and] at e'
     have ec:c1=c1':=e'.2
     subst ec
     obtain ⟨hf,hfe,hfm⟩:=h1.hol f (by simp)
     have hfl1:=h1.frl
     have hsz1:=h1.dsz
     have hno1:∀ v,((i:Int),v)∉c1.2.2.1:=fun v hv=>g2 v (k3 _ hv)
     obtain ⟨r5,ch,e5,hc5⟩:=Zga h1.chn hf (by omega)
     rw [List.erase_of_not_mem hfL] at hc5
     rw [show Q25.f ((c.1.1,c.1.2.1,(c.1.2.2.1,c.1.2.2.2)),c.2.1,c.2.2.1,c.2.2.2.1,(c.2.2.2.2.1,c.2.2.2.2.2))=_ from e,Option.bind_some,if_neg (by simp),Option.bind_some]
     try dsimp only
     rw [if_pos (by omega),if_pos (by omega),show Q27.f (c1.2.2.2.2.1,c1.2.2.2.2.2) (f:Int)=_ from e5,Option.bind_some]
     have hBt:c1.1.1.toNat=B:=by omega
     have hcm:=(h1.mono (Nat.le_succ t)).come (show i<N by omega) hno1 (x:=((i:Int),List.replicate c1.1.1.toNat (0:Int),true,1)) rfl (by rw [List.length_replicate]; omega) rfl (by omega) hc5
     try dsimp only
     rw [Ze9 hno1,Int.toNat_natCast,MC.fresh_miss q hno er]
     refine ⟨_,L1,rfl,hcm,MC.ext' rfl rfl rfl ?_ ?_ ?_⟩
     ·intro j
      refine Eq.trans (Zfb h1 hno1 j) ?_
      show upd (Xm c1) i (some ⟨List.replicate c1.1.1.toNat 0,true,1⟩) j=_
      rw [hBt]; rfl
     ·show (c1.2.2.1 ++ [((i:Int),(f:Int))]).length=c1.2.2.1.length+1
      simp
     ·exact Ub (by omega) hfL
  ·have hf:=ok.hf
   have hp:=ok.pin
   have hfr:(Z2 c L).fr i=_:=Wd h ha
   have g:gt c.2.1 (f:Int)=c.2.1.getD f default:=Z9 _ _
   rw [if_pos g1,g2,if_pos (by omega)]
   by_cases hpp:0<(gt c.2.1 (f:Int)).2.2.2
   ·rw [if_pos (decide_eq_true hpp),MC.fresh_pin q hfr (by unfold fm; dsimp only; rw [g] at hpp; omega)]
    exact ⟨_,L,rfl,h.mono (Nat.le_succ t),rfl⟩
   ·obtain ⟨r2,ch,e2,hc2⟩:=Zga h.chn ok.hf (by omega)
    have hBt:c.1.1.toNat=B:=by omega
    have hs:=h.setfr ha (x:=((i:Int),List.replicate c.1.1.toNat (0:Int),true,1)) (t':=t+1) rfl (by rw [List.length_replicate]; omega) (by dsimp only; omega) (Nat.le_succ t) hc2 (Ze8 h (show (1:Int)≠0 by decide))
    rw [if_neg (by simpa using hpp),if_neg (by simp [g1]),Option.bind_some,if_pos (by omega),show Q27.f (c.2.2.2.2.1,c.2.2.2.2.2) (f:Int)=_ from e2,Option.bind_some,Int.toNat_natCast,Zep h.mnd ha,MC.fresh_hit q hfr (by unfold fm; dsimp only; rw [g] at hpp; omega)]
    try rw [if_pos (show 0≤(f:Int)∧(f:Int)<(c.2.1.length:Int) by omega)]
    refine ⟨_,L.erase f,rfl,hs,MC.ext' rfl rfl rfl (fun j=>?_) rfl ?_⟩
    ·refine Eq.trans (Uh h ha j) ?_
     show upd (Xm c) i (some ⟨List.replicate c.1.1.toNat 0,true,1⟩) j=_
     rw [hBt]; rfl
    ·exact Eq.trans (Wo (by omega) (by rw [J2 h ha]; rfl) _) (U8 h ha)
theorem Zcw (z:Siz N B n) (h:CaI N B n t [] c L) (ht:t≤1000000) (i:Nat):∃ c' L',Q21.f c (i:Int)=some (((Z2 c L).unpin i).1,c')∧CaI N B n t [] c' L'∧Z2 c' L'=((Z2 c L).unpin i).2:=by
 have h64:=z.h64
 have hfl:=h.frl
 unfold Q21.f Q24.f
 rw [Option.bind_some,if_neg (by simp)]
 rcases h.get i with ⟨g1,g2⟩ | ⟨f,ha,g1,g2,ok⟩
 ·rw [if_pos (by simp [g1]),MC.unpin_no (show (Z2 c L).fr i=none from V5 g2)]
  exact ⟨_,L,rfl,h,rfl⟩
 ·have hf:=ok.hf
  have hp:=ok.pin
  have hfr:(Z2 c L).fr i=_:=Wd h ha
  have g:gt c.2.1 (f:Int)=c.2.1.getD f default:=Z9 _ _
  rw [if_neg (by simp [g1]),g2,if_pos (by omega)]
  by_cases hp0:(gt c.2.1 (f:Int)).2.2.2=0
  ·rw [if_pos (decide_eq_true hp0),MC.unpin_out hfr (by unfold fm; dsimp only; rw [← g,hp0]; rfl)]
   exact ⟨_,L,rfl,h,rfl⟩
  ·have wp:w64 ((gt c.2.1 (f:Int)).2.2.2 - 1)=(gt c.2.1 (f:Int)).2.2.2 - 1:=by rw [g]; exact Zz (by omega) (by omega)
   have hp1:0<(gt c.2.1 (f:Int)).2.2.2:=by rw [g] at hp0 ⊢; omega
   have hp2:(gt c.2.1 (f:Int)).2.2.2≤t:=by rw [g]; omega
   have hset:gt (c.2.1.set f ((gt c.2.1 (f:Int)).1,(gt c.2.1 (f:Int)).2.1,(gt c.2.1 (f:Int)).2.2.1,w64 ((gt c.2.1 (f:Int)).2.2.2 - 1))) (f:Int)=((gt c.2.1 (f:Int)).1,(gt c.2.1 (f:Int)).2.1,(gt c.2.1 (f:Int)).2.2.1,w64 ((gt c.2.1 (f:Int)).2.2.2 - 1)):=by
    rw [Z9,Xa (by omega),if_pos rfl]
   have hfL:f∉L:=fun hx=>by have:=((h.lok f).1 hx).2; rw [← g] at this; omega
   have hx0:(fm (c.2.1.getD f default)).p=(c.2.1.getD f default).2.2.2.toNat:=rfl
   rw [if_neg (by simpa using hp0),Int.toNat_natCast,hset,wp]
   by_cases hp3:(gt c.2.1 (f:Int)).2.2.2 - 1=0
   ·obtain ⟨ch,e2,hc2⟩:=Zov h.chn ok.hf hfL (by omega)
    rw [if_pos (decide_eq_true hp3),show Q28.f (c.2.2.2.2.1,c.2.2.2.2.2) (f:Int)=_ from e2,Option.bind_some,MC.unpin_one hfr (by rw [hx0,← g]; omega)]
    have hs:=h.setfr ha (x:=((gt c.2.1 (f:Int)).1,(gt c.2.1 (f:Int)).2.1,(gt c.2.1 (f:Int)).2.2.1,(gt c.2.1 (f:Int)).2.2.2 - 1)) (t':=t) (by rw [g]; exact ok.blk) (by rw [g]; exact ok.len) (by dsimp only; omega) (Nat.le_refl t) hc2 (fun k=>by
     rw [List.mem_cons]
     split
     ·rename_i e; exact ⟨fun _=>hp3,fun _=>.inl e⟩
     ·rename_i e; exact ⟨fun q=>q.elim (fun e'=>absurd e' e) id,.inr⟩)
    refine ⟨_,f :: L,rfl,hs,MC.ext' rfl rfl rfl (fun j=>?_) rfl ?_⟩
    ·refine Eq.trans (Uh h ha j) ?_
     show upd (Xm c) i _ j=upd (Xm c) i _ j
     congr 2
     unfold fm
     try dsimp only
     rw [hp3,g]; rfl
    ·refine Eq.trans (Wo (by omega) (by rw [g]; rfl) _) ?_
     show X1 c f :: L.map (X1 c)=_
     rw [J2 h ha]; rfl
   ·rw [if_neg (by simpa using hp3),MC.unpin_more hfr (by rw [hx0,← g]; omega) (by rw [hx0,← g]; omega)]
    have hs:=h.setfr ha (x:=((gt c.2.1 (f:Int)).1,(gt c.2.1 (f:Int)).2.1,(gt c.2.1 (f:Int)).2.2.1,(gt c.2.1 (f:Int)).2.2.2 - 1)) (t':=t) (by rw [g]; exact ok.blk) (by rw [g]; exact ok.len) (by dsimp only; omega) (Nat.le_refl t) h.chn (fun k=>by
     split
     ·rename_i e; subst e; exact ⟨fun q=>absurd q hfL,fun q=>absurd q hp3⟩
     ·exact Iff.rfl)
    refine ⟨_,L,rfl,hs,MC.ext' rfl rfl rfl (fun j=>?_) rfl ?_⟩
    ·refine Eq.trans (Uh h ha j) ?_
     show upd (Xm c) i _ j=upd (Xm c) i _ j
     congr 2
     unfold fm
     try dsimp only
     rw [g,show ((c.2.1.getD f default).2.2.2 - 1).toNat=(c.2.1.getD f default).2.2.2.toNat - 1 by omega]
    ·exact Wo (by omega) (by rw [g]; rfl) _
theorem Zkf (z:Siz N B n) (h:CaI N B n t [] c L) (i:Nat) (b:TV):∃ c' L',Q22.f c (i:Int) b=some (((Z2 c L).write B i b).1,c')∧CaI N B n t [] c' L'∧Z2 c' L'=((Z2 c L).write B i b).2:=by
 have h64:=z.h64
 have hB:=z.B_le
 have hfl:=h.frl
 have hsz:=h.dsz
 unfold Q22.f Q24.f Q55.f
 rw [Option.bind_some,if_neg (by simp)]
 rcases h.get i with ⟨g1,g2⟩ | ⟨f,ha,g1,g2,ok⟩
 ·rw [if_pos (by simp [g1]),MC.write_no (show (Z2 c L).fr i=none from V5 g2)]
  exact ⟨_,L,rfl,h,rfl⟩
 ·have hf:=ok.hf
  have hp:=ok.pin
  have hfr:(Z2 c L).fr i=_:=Wd h ha
  have hx0:(fm (c.2.1.getD f default)).p=(c.2.1.getD f default).2.2.2.toNat:=rfl
  have g:gt c.2.1 (f:Int)=c.2.1.getD f default:=Z9 _ _
  rw [if_neg (by simp [g1]),g2,if_pos (by omega)]
  by_cases hp0:(gt c.2.1 (f:Int)).2.2.2=0
  ·rw [if_pos (decide_eq_true hp0),MC.write_out hfr (by rw [hx0,← g,hp0]; rfl)]
   exact ⟨_,L,rfl,h,rfl⟩
  ·have hp1:(fm (c.2.1.getD f default)).p≠0:=by rw [hx0]; rw [g] at hp0; omega
   rw [if_neg (by simpa using hp0),Option.bind_some]
   try dsimp only
   by_cases hb:(b.length:Int)=c.1.1
   ·have hset:gt (c.2.1.set f ((gt c.2.1 (f:Int)).1,b,(gt c.2.1 (f:Int)).2.2.1,(gt c.2.1 (f:Int)).2.2.2)) (f:Int)=((gt c.2.1 (f:Int)).1,b,(gt c.2.1 (f:Int)).2.2.1,(gt c.2.1 (f:Int)).2.2.2):=by
     rw [Z9,Xa (by omega),if_pos rfl]
    have hs:=h.setfr ha (x:=((gt c.2.1 (f:Int)).1,b,true,(gt c.2.1 (f:Int)).2.2.2)) (t':=t) (by rw [g]; exact ok.blk) (by dsimp only; omega) (by dsimp only; rw [g]; exact hp) (Nat.le_refl t) h.chn (by rw [g]; exact Zmu h ha)
    rw [if_neg (by simp [hb]),Bp (by omega),Option.bind_some,Int.toNat_natCast,hset,List.set_set,MC.write_hit hfr hp1 (by omega)]
    refine ⟨_,L,rfl,hs,MC.ext' rfl rfl rfl (fun j=>?_) rfl ?_⟩
    ·refine Eq.trans (Uh h ha j) ?_
     show upd (Xm c) i _ j=upd (Xm c) i _ j
     rw [g]; rfl
    ·exact Wo (by omega) (by rw [g]; rfl) _
   ·rw [if_pos (by simp [hb]),MC.write_form hfr hp1 (by omega)]
    exact ⟨_,L,rfl,h,rfl⟩
theorem Zpv (z:Siz N B n) (h:CaI N B n t [] c L) (i:Nat):∃ c' L',Q16.f c (i:Int)=some (((Z2 c L).drop i).1,c')∧CaI N B n t [] c' L'∧Z2 c' L'=((Z2 c L).drop i).2:=by
 have h64:=z.h64
 have hfl:=h.frl
 unfold Q16.f Q24.f
 rw [Option.bind_some,if_neg (by simp)]
 rcases h.get i with ⟨g1,g2⟩ | ⟨f,ha,g1,g2,ok⟩
 ·rw [if_pos (by simp [g1]),MC.drop_no (show (Z2 c L).fr i=none from V5 g2)]
  exact ⟨_,L,rfl,h,rfl⟩
 ·have hf:=ok.hf
  have hp:=ok.pin
  have hfr:(Z2 c L).fr i=_:=Wd h ha
  have hx0:(fm (c.2.1.getD f default)).p=(c.2.1.getD f default).2.2.2.toNat:=rfl
  have g:gt c.2.1 (f:Int)=c.2.1.getD f default:=Z9 _ _
  rw [if_neg (by simp [g1]),g2,if_pos (by omega)]
  by_cases hp0:0<(gt c.2.1 (f:Int)).2.2.2
  ·rw [if_pos (decide_eq_true hp0),MC.drop_pin hfr (by rw [hx0]; rw [g] at hp0; omega)]
   exact ⟨_,L,rfl,h,rfl⟩
  ·obtain ⟨ch,e,hl⟩:=Zag z h ha
   rw [if_neg (by simpa using hp0),show Q23.f ((c.1.1,c.1.2.1,(c.1.2.2.1,c.1.2.2.2)),c.2.1,c.2.2.1,c.2.2.2.1,(c.2.2.2.2.1,c.2.2.2.2.2)) (f:Int)=_ from e,Option.bind_some,MC.drop_hit hfr (by rw [hx0]; rw [g] at hp0; omega)]
   have hml:=Bz (mhas_iff.2 ⟨_,ha⟩)
   refine ⟨_,L.erase f,rfl,hl,MC.ext' rfl rfl rfl (fun j=>?_) ?_ ?_⟩
   ·exact B3 h ha j
   ·show (Wa (i:Int) c.2.2.1).length=c.2.2.1.length - 1
    omega
   ·exact Eq.trans (Ub (by omega) (Zaf h f)) (U8 h ha)
theorem Zqb (z:Siz N B n) (h:CaI N B n t [] c L) (i:Nat):Q20.f c (i:Int)=some ((Z2 c L).read i):=by
 have hfl:=h.frl
 have hB:=z.B_le
 unfold Q20.f Q24.f
 rw [Option.bind_some,if_neg (by simp)]
 rcases h.get i with ⟨g1,g2⟩ | ⟨f,ha,g1,g2,ok⟩
 ·rw [if_pos (by simp [g1]),MC.read_no (show (Z2 c L).fr i=none from V5 g2)]
 ·have hf:=ok.hf
  have hp:=ok.pin
  have hfr:(Z2 c L).fr i=_:=Wd h ha
  have hx0:(fm (c.2.1.getD f default)).p=(c.2.1.getD f default).2.2.2.toNat:=rfl
  have g:gt c.2.1 (f:Int)=c.2.1.getD f default:=Z9 _ _
  rw [if_neg (by simp [g1]),g2,if_pos (by omega)]
  by_cases hp0:(gt c.2.1 (f:Int)).2.2.2=0
  ·rw [if_pos (decide_eq_true hp0),MC.read_out hfr (by rw [hx0,← g,hp0]; rfl)]
  ·rw [if_neg (by simpa using hp0),Bp (by rw [g,ok.len]; omega),Option.bind_some,MC.read_hit hfr (by rw [hx0]; rw [g] at hp0; omega),g]; rfl
end
abbrev Rf:=Int×List UInt8×Bool×Int
abbrev Rc:=(Int×List TQ×Int×Int)×List Rf×Int×List Int
def rfm (i:Nat) (f:Fm):Rf:=((i:Int),toS f.b,f.d,(f.p:Int))
def V9 (i:Int) (l:List Rf):List Rf:=l.filter fun x=>!decide (x.1=i)
structure RL (l:List Rf) (g:Nat→Option Fm):Prop where
 nd:(l.map Prod.fst).Nodup
 mem:∀ x∈l,∃(i:Nat) (f:Fm),g i=some f∧x=rfm i f
 all:∀(i:Nat) (f:Fm),g i=some f→rfm i f∈l
section
variable {l:List Rf} {g:Nat→Option Fm} {i:Nat} {f:Fm}
theorem Zns (h:RL l g) (e:g i=none):V9 (i:Int) l=l:=List.filter_eq_self.2 fun x hx=>by
 obtain ⟨j,f,h1,rfl⟩:=h.mem x hx
 have:¬ (rfm j f).1=(i:Int):=fun q=>by
  have:j=i:=by have:(j:Int)=i:=q; omega
  subst this; rw [e] at h1; cases h1
 simp [this]
theorem Zb5:∀ {l:List Rf} {x:Rf},(l.map Prod.fst).Nodup→x∈l→(V9 x.1 l).length+1=l.length
 | [],x,_,h=>by simp at h
 | y :: l,x,nd,h=>by
  rw [List.map_cons,List.nodup_cons] at nd
  by_cases q:y.1=x.1
  ·have hl:V9 x.1 l=l:=List.filter_eq_self.2 fun z hz=>by
    have:¬ z.1=x.1:=fun e=>nd.1 (by rw [q,← e]; exact List.mem_map_of_mem hz)
    simp [this]
   have:V9 x.1 (y :: l)=l:=by
    unfold V9 at hl ⊢
    rw [List.filter_cons_of_neg (by simp [q]),hl]
   rw [this]; rfl
  ·have hx:x∈l:=by
    rcases List.mem_cons.1 h with e | e
    ·exact absurd (by rw [e]) q
    ·exact e
   have:V9 x.1 (y :: l)=y :: V9 x.1 l:=by
    unfold V9
    rw [List.filter_cons_of_pos (by simp [q])]
   rw [this,List.length_cons,List.length_cons,Zb5 nd.2 hx]
theorem RL.gone (h:RL l g) (i:Nat):RL (V9 (i:Int) l) (upd g i none):=by
 refine ⟨(List.filter_sublist.map _).nodup h.nd,fun x hx=>?_,fun j f hj=>?_⟩
 ·obtain ⟨h1,h2⟩:=List.mem_filter.1 hx
  obtain ⟨j,f,h3,rfl⟩:=h.mem x h1
  have hne:j≠i:=fun q=>by subst q; simp [rfm] at h2
  exact ⟨j,f,by rw [Yg hne,h3],rfl⟩
 ·by_cases q:j=i
  ·subst q; rw [Ye] at hj; cases hj
  ·rw [Yg q] at hj
   refine List.mem_filter.2 ⟨h.all j f hj,?_⟩
   have:¬ (j:Int)=i:=by omega
   simp [rfm,this]
theorem RL.put (h:RL l g) (i:Nat) (f:Fm):RL (V9 (i:Int) l ++ [rfm i f]) (upd g i (some f)):=by
 have hg:=h.gone i
 refine ⟨?_,fun x hx=>?_,fun j f' hj=>?_⟩
 ·rw [List.map_append,List.nodup_append]
  refine ⟨hg.nd,by simp,fun a ha b hb e=>?_⟩
  obtain ⟨x,hx,rfl⟩:=List.mem_map.1 ha
  simp only [List.map_cons,List.map_nil,List.mem_singleton] at hb
  obtain ⟨_,h2⟩:=List.mem_filter.1 hx
  rw [e,hb] at h2
  simp [rfm] at h2
 ·rcases List.mem_append.1 hx with hx | hx
  ·obtain ⟨j,f',h1,e⟩:=hg.mem x hx
   have hne:j≠i:=fun q=>by subst q; rw [Ye] at h1; cases h1
   exact ⟨j,f',by rw [Yg hne] at h1 ⊢; exact h1,e⟩
  ·rw [List.mem_singleton] at hx
   exact ⟨i,f,Ye _ _ _,hx⟩
 ·by_cases q:j=i
  ·subst q; rw [Ye] at hj; injection hj with hj; subst hj; simp
  ·rw [Yg q] at hj
   exact List.mem_append_left _ (hg.all j f' (by rw [Yg q]; exact hj))
theorem RL.congr (h:RL l g) {g':Nat→Option Fm} (e:∀ j,g j=g' j):RL l g':=by
 have:=funext e
 subst this; exact h
end
structure RR (N B n:Nat) (w:Rc) (m:MC):Prop where
 dev:w.1=((B:Int),Lb m.img N B,m.rd,m.wr)
 most:w.2.2.1=(n:Int)
 row:w.2.2.2=m.row.map fun(i:Nat)=>(i:Int)
 fr:RL w.2.1 m.fr
 used:w.2.1.length=m.used
structure MI (N B n t:Nat) (m:MC):Prop where
 dim:m.img.length=N*B
 len:∀ i f,m.fr i=some f→i<N∧f.b.length=B∧f.p≤t
 rnd:m.row.Nodup
 rfr:∀ q,q∈m.row↔∃ f,m.fr q=some f∧f.p=0
 ule:m.used≤n
 rle:m.row.length≤n
theorem Zej {g:Nat→Nat}:∀ {L:List Nat},L.Nodup→(∀ x∈L,∀ y∈L,g x=g y→x=y)→(L.map g).Nodup
 | [],_,_=>by simp
 | x :: L,nd,h=>by
  rw [List.nodup_cons] at nd
  rw [List.map_cons,List.nodup_cons]
  refine ⟨fun q=>?_,Zej nd.2 fun a ha b hb=>h a (by simp [ha]) b (by simp [hb])⟩
  obtain ⟨y,hy,e⟩:=List.mem_map.1 q
  exact nd.1 (by rw [h x (by simp) y (by simp [hy]) e.symm]; exact hy)
theorem CaI.mi {N B n t:Nat} {c:Ca} {L:List Nat} (h:CaI N B n t [] c L):MI N B n t (Z2 c L) where
 dim:=h.dim
 len i f hf:=Znp h hf
 rnd:=Zej h.chn.nd fun x hx y hy e=>by
  obtain ⟨i,hi,e1,_⟩:=Vp h hx
  obtain ⟨j,hj,e2,_⟩:=Vp h hy
  have:i=j:=by omega
  subst this
  exact Za5 h hi hj
 rfr q:=by
  constructor
  ·intro hq
   obtain ⟨f,hf,e⟩:=List.mem_map.1 hq
   obtain ⟨i,hi,e1,hp,_⟩:=Vp h hf
   have:i=q:=by omega
   subst this
   exact ⟨_,Wd h hi,by unfold fm; dsimp only; rw [hp]; rfl⟩
  ·rintro ⟨f,hf,hp⟩
   rcases h.get q with ⟨_,g2⟩ | ⟨f',ha,_,_,ok⟩
   ·have:=V5 g2
    rw [show Xm c q=some f from hf] at this; cases this
   ·have h1:=Wd h ha
    rw [show Xm c q=some f from hf] at h1
    injection h1 with h1
    subst h1
    refine (Znt h ha).2 ((h.lok f').2 ⟨⟨_,ha⟩,?_⟩)
    have:=ok.pin
    unfold fm at hp
    dsimp only at hp
    omega
 ule:=h.used
 rle:=by
  show (L.map (X1 c)).length≤n
  rw [List.length_map]
  exact h.chn.short
def findR (l:List Rf) (i:Int):Int:=match l.findIdx? fun x=>decide (x.1=i) with
 | none=>-1
 | some q=>(q:Int)
section
variable {N B n t:Nat} {w:Rc} {m:MC} {i:Nat} {f:Fm}
theorem RR.len (h:RR N B n w m) (mi:MI N B n t m) (h64:n≤64):w.2.1.length≤64:=by have:=h.used; have:=mi.ule; omega
theorem RR.put (h:RR N B n w m) {f0:Fm} (e:m.fr i=some f0) (f:Fm) (row:List Nat):RR N B n (w.1,V9 (i:Int) w.2.1 ++ [rfm i f],w.2.2.1,row.map fun(i:Nat)=>(i:Int)) ⟨m.img,m.rd,m.wr,upd m.fr i (some f),m.used,row⟩:=by
 refine ⟨h.dev,h.most,rfl,h.fr.put i f,?_⟩
 show (V9 (i:Int) w.2.1 ++ [rfm i f]).length=m.used
 have h1:=Zb5 h.fr.nd (h.fr.all i f0 e)
 rw [List.length_append,List.length_singleton,← h.used]
 exact h1
theorem RR.come (h:RR N B n w m) (e:m.fr i=none) (f:Fm) (rd:Int):RR N B n ((w.1.1,w.1.2.1,rd,w.1.2.2.2),V9 (i:Int) w.2.1 ++ [rfm i f],w.2.2) ⟨m.img,rd,m.wr,upd m.fr i (some f),m.used+1,m.row⟩:=by
 refine ⟨by rw [h.dev],h.most,h.row,h.fr.put i f,?_⟩
 show (V9 (i:Int) w.2.1 ++ [rfm i f]).length=m.used+1
 rw [Zns h.fr e,List.length_append,List.length_singleton,h.used]
theorem RR.gone (h:RR N B n w m) {f0:Fm} (e:m.fr i=some f0) (img:TV) (wr:Int) (row:List Nat):RR N B n (((B:Int),Lb img N B,m.rd,wr),V9 (i:Int) w.2.1,w.2.2.1,row.map fun(i:Nat)=>(i:Int)) ⟨img,m.rd,wr,upd m.fr i none,m.used - 1,row⟩:=by
 refine ⟨rfl,h.most,rfl,h.fr.gone i,?_⟩
 have h1:=Zb5 h.fr.nd (h.fr.all i f0 e)
 have h2:=h.used
 show (V9 (i:Int) w.2.1).length=m.used - 1
 have h3:(rfm i f0).1=(i:Int):=rfl
 rw [h3] at h1
 omega
end
structure Sz8 (N B n:Nat) (m:MC):Prop where
 hN:N≤65536
 hNB:N*B≤4294967296
 hB1:1≤B
 hN1:1≤N
 h64:n≤64
 rd:0≤m.rd∧m.rd≤1000000000
 wr:0≤m.wr∧m.wr≤1000000000
section
variable {N B n t:Nat} {w:Rc} {m:MC} {i:Nat} {f:Fm}
theorem Sz8.B_le (z:Sz8 N B n m):B≤4294967296:=Nat.le_trans (Nat.le_mul_of_pos_left B z.hN1) z.hNB
theorem RR.ext (h:RR N B n w m):w=(((B:Int),Lb m.img N B,m.rd,m.wr),w.2.1,(n:Int),m.row.map fun(i:Nat)=>(i:Int)):=by
 have h1:=h.dev
 have h2:=h.most
 have h3:=h.row
 obtain ⟨a,b,c,d⟩:=w
 dsimp only at h1 h2 h3 ⊢
 rw [h1,h2,h3]
end
section
variable {N B n t:Nat} {w:Rc} {m:MC} {i:Nat} {f:Fm}
theorem J3 (e:m.fr i=some f):m.backI B i=⟨patch m.img (i*B) B f.b,m.rd,m.wr+1,upd m.fr i (some ⟨f.b,false,f.p⟩),m.used,m.row⟩:=by unfold MC.backI; rw [e]
theorem Zb9 (e:m.fr i=none):m.backI B i=m:=by unfold MC.backI; rw [e]
theorem MI.back (mi:MI N B n t m) (i:Nat):MI N B n t (m.backI B i):=by
 cases e:m.fr i with
 | none=>rw [Zb9 e]; exact mi
 | some f=>
  have hlen:=mi.len i f e
  rw [J3 e]
  refine ⟨Zeg mi.dim hlen.1,fun j f' hj=>?_,mi.rnd,fun q=>?_,mi.ule,mi.rle⟩
  ·dsimp only at hj
   by_cases q:j=i
   ·subst q; rw [Ye] at hj; injection hj with hj; subst hj; exact hlen
   ·rw [Yg q] at hj; exact mi.len j f' hj
  ·show q∈m.row↔∃ f',upd m.fr i (some ⟨f.b,false,f.p⟩) q=some f'∧f'.p=0
   rw [mi.rfr q]
   by_cases hq:q=i
   ·subst hq
    rw [Ye,e]
    exact ⟨fun ⟨f',h1,h2⟩=>⟨_,rfl,by injection h1 with h1; subst h1; exact h2⟩,fun ⟨f',h1,h2⟩=>⟨_,rfl,by injection h1 with h1; subst h1; exact h2⟩⟩
   ·rw [Yg hq]
theorem Sz8.back (z:Sz8 N B n m) (i:Nat) (hw:m.wr≤999999999):Sz8 N B n (m.backI B i):=by
 cases e:m.fr i with
 | none=>rw [Zb9 e]; exact z
 | some f=>rw [J3 e]; exact ⟨z.hN,z.hNB,z.hB1,z.hN1,z.h64,z.rd,by have:=z.wr; dsimp only; omega⟩
end
theorem Zbz:∀ {l₁ l₂:TV},l₁.Pairwise (·<·)→l₂.Pairwise (·<·)→(∀ x,x∈l₁↔x∈l₂)→l₁=l₂
 | [],[],_,_,_=>rfl
 | [],y :: _,_,_,h=>by have:=(h y).2 (by simp); simp at this
 | x :: _,[],_,_,h=>by have:=(h x).1 (by simp); simp at this
 | x :: s,y :: t,h1,h2,h=>by
  rw [List.pairwise_cons] at h1 h2
  have e:x=y:=by
   have a:=(h x).1 (by simp)
   have b:=(h y).2 (by simp)
   rcases List.mem_cons.1 a with a | a
   ·exact a
   ·rcases List.mem_cons.1 b with b | b
    ·exact b.symm
    ·have:=h1.1 y b
     have:=h2.1 x a
     omega
  subst e
  rw [Zbz h1.2 h2.2 fun z=>?_]
  constructor
  ·intro hz
   rcases List.mem_cons.1 ((h z).1 (by simp [hz])) with e | e
   ·have:=h1.1 z hz; omega
   ·exact e
  ·intro hz
   rcases List.mem_cons.1 ((h z).2 (by simp [hz])) with e | e
   ·have:=h2.1 z hz; omega
   ·exact e
section
variable {N B n t:Nat} {c:Ca} {L:List Nat}
theorem Zm9 (h:CaI N B n t [] c L):V2 c=((Z2 c L).dirty N).map fun(i:Nat)=>(i:Int):=by
 refine Zbz ?_ ?_ fun x=>?_
 ·refine List.Pairwise.filter _ ?_
  have h1:=List.pairwise_mergeSort (le:=fun x y:Int=>decide (x≤y)) (fun a b c h1 h2=>by simp only [decide_eq_true_eq] at *; omega) (fun a b=>by simp only [Bool.or_eq_true,decide_eq_true_eq]; omega) (c.2.2.1.map Prod.fst)
  have h2:(Wv c).Nodup:=(Vm c).nodup_iff.2 h.mnd
  exact (h1.and h2).imp fun {a b} q=>by
   have q1:=q.1
   simp only [decide_eq_true_eq] at q1
   have q2:=q.2
   omega
 ·refine List.Pairwise.map _ (fun a b (q:a<b)=>by omega) ?_
  exact List.Pairwise.filter _ List.pairwise_lt_range
 ·unfold V2
  rw [List.mem_filter]
  constructor
  ·rintro ⟨h1,h2⟩
   obtain ⟨i,f,e1,hp,e2,ok⟩:=Zg0 h h1
   refine List.mem_map.2 ⟨i,List.mem_filter.2 ⟨List.mem_range.2 ok.hi,?_⟩,e1.symm⟩
   unfold MC.isD
   rw [show (Z2 c L).fr i=_ from Wd h hp]
   unfold J6 at h2
   rw [e2,Z9] at h2
   exact h2
  ·intro h1
   obtain ⟨i,hi,rfl⟩:=List.mem_map.1 h1
   obtain ⟨h2,h3⟩:=List.mem_filter.1 hi
   unfold MC.isD at h3
   rcases h.get i with ⟨_,g2⟩ | ⟨f,ha,_,g,ok⟩
   ·rw [show (Z2 c L).fr i=none from V5 g2] at h3; cases h3
   ·rw [show (Z2 c L).fr i=_ from Wd h ha] at h3
    refine ⟨(Vm c).mem_iff.2 (List.mem_map.2 ⟨_,ha,rfl⟩),?_⟩
    unfold J6
    rw [g,Z9]
    exact h3
theorem Zni (z:Siz N B n) (h:CaI N B n t [] c L) {i f:Nat} (ha:((i:Int),(f:Int))∈c.2.2.1):Z2 ((c.1.1,patch c.1.2.1 (i*B) B (gt c.2.1 (f:Int)).2.1,c.1.2.2.1,c.1.2.2.2+1),c.2.1.set f ((gt c.2.1 (f:Int)).1,(gt c.2.1 (f:Int)).2.1,false,(gt c.2.1 (f:Int)).2.2.2),c.2.2) L=(Z2 c L).backI B i:=by
 have g:gt c.2.1 (f:Int)=c.2.1.getD f default:=Z9 _ _
 have hf:=(h.atN ha).hf
 have hfl:=h.frl
 rw [J3 (show (Z2 c L).fr i=_ from Wd h ha)]
 refine MC.ext' ?_ rfl rfl (fun j=>?_) rfl ?_
 ·show patch c.1.2.1 (i*B) B _=patch c.1.2.1 (i*B) B _
  rw [g]; rfl
 ·refine Eq.trans (Uh h ha j) ?_
  rw [g]; rfl
 ·exact Wo (by omega) (by rw [g]; rfl) _
theorem Zek (z:Siz N B n) (h:CaI N B n t [] c L) {D:List Nat} (hD:V2 c=D.map fun(i:Nat)=>(i:Int)) (nd:D.Nodup):∀(q j:Nat) (d:Dv) (fr:List Fr8),D.length=j+q→CaI N B n t [] (d,fr,c.2.2) L→0≤d.2.2.2∧d.2.2.2+q≤200000000→(∀ i∈D.drop j,(Z2 (d,fr,c.2.2) L).isD i=true)→
  ∃ c',(∀ k,q<k→Q17.l0 k c (V2 c) d.1 d.2.1 d.2.2.1 d.2.2.2 fr (j:Int)=some (0,c'))∧CaI N B n t [] c' L∧Z2 c' L=(D.drop j).foldl (MC.backI B) (Z2 (d,fr,c.2.2) L)
 | 0,j,d,fr,hj,hi,hw,hd=>by
  have hl:=Bo z h
  have h64:=z.h64
  have hDl:(V2 c).length=D.length:=by rw [hD,List.length_map]
  refine ⟨(d,fr,c.2.2),fun k hk=>?_,hi,by rw [List.drop_eq_nil_of_le (by omega)]; rfl⟩
  obtain ⟨k,rfl⟩:∃ k2,k=k2+1:=⟨k - 1,by omega⟩
  rw [Q17.l0,if_neg (by simp only [decide_eq_true_eq]; omega)]
 | q+1,j,d,fr,hj,hi,hw,hd=>by
  have hl:=Bo z h
  have h64:=z.h64
  have hDl:(V2 c).length=D.length:=by rw [hD,List.length_map]
  have hjD:j<D.length:=by omega
  have hjl:j<(V2 c).length:=by omega
  have hin:(V2 c).getD j default∈Wv c:=(List.mem_filter.1 (Xv (l:=V2 c) hjl)).1
  obtain ⟨i,f,e1,hp,e2,ok⟩:=Zg0 h hin
  have hf:=ok.hf
  have hfl:=hi.frl
  have ei:D.getD j default=i:=by
   rw [hD,List.getD_eq_getElem?_getD,List.getElem?_map,List.getElem?_eq_getElem hjD] at e1
   rw [List.getD_eq_getElem?_getD,List.getElem?_eq_getElem hjD]
   have:((D[j]:Nat):Int)=i:=e1
   show D[j]=i
   omega
  have hdr:D.drop j=i :: D.drop (j+1):=by rw [Yk hjD,ei]
  have hni:i∉D.drop (j+1):=by
   have:=(List.drop_sublist j D).nodup nd
   rw [hdr,List.nodup_cons] at this
   exact this.1
  have hdi:=hd i (by rw [hdr]; simp)
  have hfri:(Z2 (d,fr,c.2.2) L).fr i=some (fm (fr.getD f default)):=Wd hi (i:=i) (f:=f) hp
  have q1:(gt fr (f:Int)).2.2.1=true:=by
   unfold MC.isD at hdi
   rw [hfri] at hdi
   rw [Z9]; exact hdi
  have hb:=hi.back z (i:=i) (f:=f) hp (d.2.2.1,d.2.2.2+1)
  have habs:=Zni z hi (i:=i) (f:=f) hp
  have hwr:=Zgi z hi (i:=i) (f:=f) hp
  obtain ⟨c',g1,g2,g3⟩:=Zek z h hD nd q (j+1) (d.1,patch d.2.1 (i*B) B (gt fr (f:Int)).2.1,d.2.2.1,d.2.2.2+1) (fr.set f ((gt fr (f:Int)).1,(gt fr (f:Int)).2.1,false,(gt fr (f:Int)).2.2.2)) (by omega) hb (by dsimp only; omega) (fun i' hi'=>by
   have hne:i'≠i:=fun e=>hni (by rw [← e]; exact hi')
   have h1:=hd i' (by rw [hdr]; simp [hi'])
   rw [show Z2 ((d.1,patch d.2.1 (i*B) B (gt fr (f:Int)).2.1,d.2.2.1,d.2.2.2+1),fr.set f ((gt fr (f:Int)).1,(gt fr (f:Int)).2.1,false,(gt fr (f:Int)).2.2.2),c.2.2) L=_ from habs,J3 hfri]
   unfold MC.isD at h1 ⊢
   dsimp only
   rw [Yg hne]; exact h1)
  refine ⟨c',fun k hk=>?_,g2,?_⟩
  ·obtain ⟨k,rfl⟩:∃ k2,k=k2+1:=⟨k - 1,by omega⟩
   rw [Q17.l0,if_pos (decide_eq_true (by omega)),if_pos (by omega),Z9,e2,if_pos (by dsimp only at hfl; omega)]
   rw [if_pos q1,show Q58.f (d.1,d.2.1,(d.2.2.1,d.2.2.2)) (gt fr (f:Int)).1 (gt fr (f:Int)).2.1=_ from hwr,Option.bind_some]
   dsimp only
   rw [Zi2 (by omega),Int.toNat_natCast,Ya (by omega)]
   exact g1 k (by omega)
  ·rw [g3,hdr,List.foldl_cons]
   exact congrArg (fun x=>List.foldl (MC.backI B) x (D.drop (j+1))) habs
theorem Zpg (z:Siz N B n) (h:CaI N B n t [] c L) (fw:Few c):∃ c',(∀ k,200<k→Q17.f k c=some (0,c'))∧CaI N B n t [] c' L∧Z2 c' L=(Z2 c L).flush N B:=by
 have hl:=Bo z h
 have h64:=z.h64
 have hD:=Zm9 h
 have hDl:(V2 c).length=((Z2 c L).dirty N).length:=by rw [hD,List.length_map]
 obtain ⟨c',g1,g2,g3⟩:=Zek z h hD ((List.filter_sublist).nodup List.nodup_range) ((Z2 c L).dirty N).length 0 c.1 c.2.1 (by omega) h ⟨fw.wr.1,by have:=fw.wr.2; omega⟩ (fun i hi=>(List.mem_filter.1 hi).2)
 refine ⟨c',fun k hk=>?_,g2,g3⟩
 unfold Q17.f Q24.f
 rw [Option.bind_some,if_neg (by simp),show Q15.f k c=_ from Zoi z h (by omega),Option.bind_some]
 exact g1 k (by omega)
end
def MC.act (N B n:Nat) (m:MC) (kd:Int) (i:Nat) (b:TV):Int×MC:=
 if kd=0 then m.pin N B n i else if kd=1 then m.pin N B n i else if kd=2 then m.fresh N B n i else if kd=3 then m.unpin i else if kd=4 then m.unpin i else
 if kd=5 then m.write B i b else if kd=6 then m.write B i b else if kd=7 then m.drop i else if kd=8 then (0,m.flush N B) else if kd=9 then ((m.read i).2,m) else (0,m)
section
variable {N B n t:Nat} {c:Ca} {L:List Nat} {w:Rc} {m:MC}
end
def Byt (l:TV):Prop:=∀ x∈l,0≤x∧x<256
theorem Byt.rep (n:Nat):Byt (List.replicate n 0):=fun x hx=>by rw [List.eq_of_mem_replicate hx]; omega
theorem Byt.blk {img:TV} (h:Byt img) (B i:Nat):Byt (blk img B i):=fun x hx=>h x (List.mem_of_mem_drop (List.mem_of_mem_take hx))
theorem Byt.patch {img b:TV} (h:Byt img) (hb:Byt b) (a n:Nat):Byt (patch img a n b):=fun x hx=>by
 unfold SK.patch at hx
 rcases List.mem_append.1 hx with hx | hx
 ·rcases List.mem_append.1 hx with hx | hx
  ·exact h x (List.mem_of_mem_take hx)
  ·exact hb x (List.mem_of_mem_take hx)
 ·exact h x (List.mem_of_mem_drop hx)
namespace MC
def cnt (m:MC) (i:Nat):Nat:=match m.fr i with
 | none=>0
 | some x=>x.p
theorem cnt_no {m:MC} {i:Nat} (e:m.fr i=none):m.cnt i=0:=by unfold cnt; rw [e]
theorem cnt_at {m:MC} {i:Nat} {x:Fm} (e:m.fr i=some x):m.cnt i=x.p:=by unfold cnt; rw [e]
structure By (m:MC):Prop where
 img:Byt m.img
 fr:∀ i x,m.fr i=some x→Byt x.b
structure To (a b:Nat) (m m':MC):Prop where
 rd:m.rd≤m'.rd∧m'.rd≤m.rd+a
 wr:m.wr≤m'.wr∧m'.wr≤m.wr+b
 by':By m→By m'
theorem To.refl (m:MC):To 0 0 m m:=⟨⟨Int.le_refl _,by omega⟩,⟨Int.le_refl _,by omega⟩,id⟩
theorem To.le {a b a' b':Nat} {m m':MC} (h:To a b m m') (ha:a≤a') (hb:b≤b'):To a' b' m m':=⟨⟨h.rd.1,by have:=h.rd.2; omega⟩,⟨h.wr.1,by have:=h.wr.2; omega⟩,h.by'⟩
theorem To.trans {a b a' b':Nat} {m m' m'':MC} (h:To a b m m') (g:To a' b' m' m''):To (a+a') (b+b') m m'':=⟨⟨Int.le_trans h.rd.1 g.rd.1,by have:=h.rd.2; have:=g.rd.2; omega⟩,⟨Int.le_trans h.wr.1 g.wr.1,by have:=h.wr.2; have:=g.wr.2; omega⟩,fun y=>g.by' (h.by' y)⟩
end MC
section
variable {N B n t:Nat} {m k:MC} {i:Nat} {x:Fm}
theorem Pm.lay {img:TV} {rd wr:Int} {fr:Nat→Option Fm} {u u':Nat} {row row':List Nat} (hx:Byt x.b):(MC.By ⟨img,rd,wr,fr,u,row⟩→MC.By ⟨img,rd,wr,upd fr i (some x),u',row'⟩)∧∀ j,(⟨img,rd,wr,upd fr i (some x),u',row'⟩:MC).cnt j=if j=i then x.p else (⟨img,rd,wr,fr,u,row⟩:MC).cnt j:=by
 refine ⟨fun h=>⟨h.img,fun j y hj=>?_⟩,fun j=>?_⟩
 ·have hj':upd fr i (some x) j=some y:=hj
  by_cases q:j=i
  ·subst q; rw [Ye] at hj'; injection hj' with hj'; subst hj'; exact hx
  ·rw [Yg q] at hj'; exact h.fr j y hj'
 ·by_cases q:j=i
  ·subst q; rw [if_pos rfl]; exact MC.cnt_at (Ye _ _ _)
  ·rw [if_neg q]; unfold MC.cnt; dsimp only; rw [Yg q]
theorem Pm.evict (e:m.fr i=some x) (p:x.p=0):MC.To 0 1 m (m.evict B i)∧(∀ j,(m.evict B i).cnt j=m.cnt j)∧∀ j,m.fr j=none→(m.evict B i).fr j=none:=by
 rw [MC.evict_eq e]
 refine ⟨⟨⟨Int.le_refl _,by dsimp only; omega⟩,by dsimp only; split <;> omega,fun h=>⟨?_,fun j y hj=>?_⟩⟩,fun j=>?_,fun j hj=>?_⟩
 ·dsimp only
  split
  ·exact h.img.patch (h.fr i x e) _ _
  ·exact h.img
 ·have hj':upd m.fr i none j=some y:=hj
  by_cases q:j=i
  ·subst q; rw [Ye] at hj'; cases hj'
  ·rw [Yg q] at hj'; exact h.fr j y hj'
 ·by_cases q:j=i
  ·subst q; rw [MC.cnt_at e,MC.cnt_no (Ye _ _ _),p]
  ·unfold MC.cnt; dsimp only; rw [Yg q]
 ·show upd m.fr i none j=none
  by_cases q:j=i
  ·subst q; exact Ye _ _ _
  ·rw [Yg q]; exact hj
theorem Pm.room (mi:MI N B n t m) (h:m.room B n=some k):MC.To 0 1 m k∧(∀ j,k.cnt j=m.cnt j)∧∀ j,m.fr j=none→k.fr j=none:=by
 unfold MC.room at h
 split at h
 ·injection h with h; subst h; exact ⟨(MC.To.refl _).le (by omega) (by omega),fun _=>rfl,fun _ h=>h⟩
 ·split at h
  ·cases h
  ·rename_i q hq
   injection h with h; subst h
   obtain ⟨x,e,p⟩:=(mi.rfr q).1 (List.mem_of_getLast? hq)
   exact Pm.evict e p
theorem Pm.pin (mi:MI N B n t m) (hy:m.By) (i:Nat):MC.To 1 1 m (m.pin N B n i).2∧(1≤m.cnt i→MC.To 0 0 m (m.pin N B n i).2)∧∀ j,(m.pin N B n i).2.cnt j=if (m.pin N B n i).1=0∧j=i then m.cnt i+1 else m.cnt j:=by
 have r0:=(MC.To.refl m).le (Nat.zero_le 1) (Nat.zero_le 1)
 by_cases h:N≤i
 ·rw [MC.pin_out h]; exact ⟨r0,fun _=>MC.To.refl m,fun _=>by rw [if_neg (by simp)]⟩
 cases e:m.fr i with
 | some x=>
  obtain ⟨h1,h2⟩:=Pm.lay (img:=m.img) (rd:=m.rd) (wr:=m.wr) (fr:=m.fr) (u:=m.used) (row:=m.row) (i:=i) (x:=⟨x.b,x.d,x.p+1⟩) (u':=m.used) (row':=m.row.erase i) (hy.fr i x e)
  have t0:MC.To 0 0 m (m.pin N B n i).2:=by rw [MC.pin_hit h e]; exact ⟨⟨Int.le_refl _,by show m.rd≤_; omega⟩,⟨Int.le_refl _,by show m.wr≤_; omega⟩,h1⟩
  refine ⟨t0.le (by omega) (by omega),fun _=>t0,fun j=>?_⟩
  rw [MC.pin_hit h e,show ((m.put i ⟨x.b,x.d,x.p+1⟩).cut i).cnt j=_ from h2 j]
  by_cases q:j=i
  ·rw [if_pos q,if_pos ⟨rfl,q⟩,MC.cnt_at e]
  ·rw [if_neg q,if_neg (fun z=>q z.2)]
 | none=>
  cases r:m.room B n with
  | none=>rw [MC.pin_full h e r]; exact ⟨r0,fun _=>MC.To.refl m,fun _=>by rw [if_neg (by simp)]⟩
  | some k=>
   obtain ⟨c1,c2,c3⟩:=Pm.room mi r
   have hk:=c1.by' hy
   obtain ⟨h1,h2⟩:=Pm.lay (img:=k.img) (rd:=k.rd+1) (wr:=k.wr) (fr:=k.fr) (u:=k.used) (row:=k.row) (i:=i) (x:=⟨blk k.img B i,false,1⟩) (u':=k.used+1) (row':=k.row) (hk.img.blk B i)
   rw [MC.pin_miss h e r]
   refine ⟨⟨by show m.rd≤k.rd+1∧k.rd+1≤_; have:=c1.rd; omega,by show m.wr≤k.wr∧k.wr≤_; have:=c1.wr; omega,fun _=>h1 ⟨hk.img,hk.fr⟩⟩,fun c=>by rw [MC.cnt_no e] at c; omega,fun j=>?_⟩
   rw [show ((⟨k.img,k.rd+1,k.wr,k.fr,k.used,k.row⟩:MC).come i ⟨blk k.img B i,false,1⟩).cnt j=_ from h2 j]
   by_cases q:j=i
   ·rw [if_pos q,if_pos ⟨rfl,q⟩,MC.cnt_no e]
   ·rw [if_neg q,if_neg (fun z=>q z.2)]; exact c2 j
theorem Pm.fresh (mi:MI N B n t m) (hy:m.By) (i:Nat):MC.To 0 1 m (m.fresh N B n i).2∧∀ j,(m.fresh N B n i).2.cnt j=if (m.fresh N B n i).1=0∧j=i then m.cnt i+1 else m.cnt j:=by
 have r0:=(MC.To.refl m).le (Nat.zero_le 0) (Nat.zero_le 1)
 by_cases h:N≤i
 ·rw [MC.fresh_out h]; exact ⟨r0,fun _=>by rw [if_neg (by simp)]⟩
 cases e:m.fr i with
 | some x=>
  by_cases p:0<x.p
  ·rw [MC.fresh_pin h e p]; exact ⟨r0,fun _=>by rw [if_neg (by simp)]⟩
  obtain ⟨h1,h2⟩:=Pm.lay (img:=m.img) (rd:=m.rd) (wr:=m.wr) (fr:=m.fr) (u:=m.used) (row:=m.row) (i:=i) (x:=⟨List.replicate B 0,true,1⟩) (u':=m.used) (row':=m.row.erase i) (Byt.rep B)
  rw [MC.fresh_hit h e p]
  refine ⟨⟨⟨Int.le_refl _,by show m.rd≤_; omega⟩,⟨Int.le_refl _,by show m.wr≤_; omega⟩,h1⟩,fun j=>?_⟩
  rw [show ((m.put i ⟨List.replicate B 0,true,1⟩).cut i).cnt j=_ from h2 j]
  by_cases q:j=i
  ·rw [if_pos q,if_pos ⟨rfl,q⟩,MC.cnt_at e]; dsimp only; omega
  ·rw [if_neg q,if_neg (fun z=>q z.2)]
 | none=>
  cases r:m.room B n with
  | none=>rw [MC.fresh_full h e r]; exact ⟨r0,fun _=>by rw [if_neg (by simp)]⟩
  | some k=>
   obtain ⟨c1,c2,c3⟩:=Pm.room mi r
   have hk:=c1.by' hy
   obtain ⟨h1,h2⟩:=Pm.lay (img:=k.img) (rd:=k.rd) (wr:=k.wr) (fr:=k.fr) (u:=k.used) (row:=k.row) (i:=i) (x:=⟨List.replicate B 0,true,1⟩) (u':=k.used+1) (row':=k.row) (Byt.rep B)
   rw [MC.fresh_miss h e r]
   refine ⟨⟨c1.rd,c1.wr,fun _=>h1 ⟨hk.img,hk.fr⟩⟩,fun j=>?_⟩
   rw [show (k.come i ⟨List.replicate B 0,true,1⟩).cnt j=_ from h2 j]
   by_cases q:j=i
   ·rw [if_pos q,if_pos ⟨rfl,q⟩,MC.cnt_no e]
   ·rw [if_neg q,if_neg (fun z=>q z.2)]; exact c2 j
theorem Pm.unpin (hy:m.By) (i:Nat):MC.To 0 0 m (m.unpin i).2∧∀ j,(m.unpin i).2.cnt j=if j=i then m.cnt i - 1 else m.cnt j:=by
 have same:(∀ j,m.cnt j=if j=i then m.cnt i - 1 else m.cnt j)↔m.cnt i=0:=⟨fun h=>by have:=h i; rw [if_pos rfl] at this; omega,fun h j=>by split; rename_i q; subst q; omega; rfl⟩
 cases e:m.fr i with
 | none=>rw [MC.unpin_no e]; exact ⟨MC.To.refl m,same.2 (MC.cnt_no e)⟩
 | some x=>
  have key:∀(p u:Nat) (row:List Nat),p=x.p - 1→MC.To 0 0 m (⟨m.img,m.rd,m.wr,upd m.fr i (some ⟨x.b,x.d,p⟩),u,row⟩:MC)∧∀ j,(⟨m.img,m.rd,m.wr,upd m.fr i (some ⟨x.b,x.d,p⟩),u,row⟩:MC).cnt j=if j=i then m.cnt i - 1 else m.cnt j:=fun p u row hp=>by
   obtain ⟨h1,h2⟩:=Pm.lay (img:=m.img) (rd:=m.rd) (wr:=m.wr) (fr:=m.fr) (u:=m.used) (row:=m.row) (i:=i) (x:=⟨x.b,x.d,p⟩) (u':=u) (row':=row) (hy.fr i x e)
   refine ⟨⟨⟨Int.le_refl _,by show m.rd≤_; omega⟩,⟨Int.le_refl _,by show m.wr≤_; omega⟩,h1⟩,fun j=>?_⟩
   rw [h2 j,MC.cnt_at e]
   split
   ·exact hp
   ·rfl
  by_cases p:x.p=0
  ·rw [MC.unpin_out e p]; exact ⟨MC.To.refl m,same.2 (by rw [MC.cnt_at e]; exact p)⟩
  ·by_cases p1:x.p=1
   ·rw [MC.unpin_one e p1]; exact key _ _ _ (by omega)
   ·rw [MC.unpin_more e p p1]; exact key _ _ _ rfl
theorem Pm.write (i:Nat) {b:TV} (hb:Byt b):MC.To 0 0 m (m.write B i b).2∧∀ j,(m.write B i b).2.cnt j=m.cnt j:=by
 cases e:m.fr i with
 | none=>rw [MC.write_no e]; exact ⟨MC.To.refl m,fun _=>rfl⟩
 | some x=>
  by_cases p:x.p=0
  ·rw [MC.write_out e p]; exact ⟨MC.To.refl m,fun _=>rfl⟩
  ·by_cases q:b.length=B
   ·rw [MC.write_hit e p q]
    obtain ⟨h1,h2⟩:=Pm.lay (img:=m.img) (rd:=m.rd) (wr:=m.wr) (fr:=m.fr) (u:=m.used) (row:=m.row) (i:=i) (x:=⟨b,true,x.p⟩) (u':=m.used) (row':=m.row) hb
    refine ⟨⟨⟨Int.le_refl _,by show m.rd≤_; omega⟩,⟨Int.le_refl _,by show m.wr≤_; omega⟩,h1⟩,fun j=>?_⟩
    rw [show (m.put i ⟨b,true,x.p⟩).cnt j=_ from h2 j]
    split
    ·rename_i q; subst q; exact (MC.cnt_at e).symm
    ·rfl
   ·rw [MC.write_form e p q]; exact ⟨MC.To.refl m,fun _=>rfl⟩
theorem Pm.drop (i:Nat):MC.To 0 0 m (m.drop i).2∧∀ j,(m.drop i).2.cnt j=m.cnt j:=by
 cases e:m.fr i with
 | none=>rw [MC.drop_no e]; exact ⟨MC.To.refl m,fun _=>rfl⟩
 | some x=>
  by_cases p:0<x.p
  ·rw [MC.drop_pin e p]; exact ⟨MC.To.refl m,fun _=>rfl⟩
  ·rw [MC.drop_hit e p]
   refine ⟨⟨⟨Int.le_refl _,by show m.rd≤_; omega⟩,⟨Int.le_refl _,by show m.wr≤_; omega⟩,fun h=>⟨h.img,fun j y hj=>?_⟩⟩,fun j=>?_⟩
   ·have hj':upd m.fr i none j=some y:=hj
    by_cases q:j=i
    ·subst q; rw [Ye] at hj'; cases hj'
    ·rw [Yg q] at hj'; exact h.fr j y hj'
   ·by_cases q:j=i
    ·subst q; rw [MC.cnt_at e,MC.cnt_no (Ye _ _ _)]; omega
    ·unfold MC.cnt; dsimp only; rw [Yg q]
theorem Pm.backI (hy:m.By) (i:Nat):MC.To 0 1 m (m.backI B i)∧∀ j,(m.backI B i).cnt j=m.cnt j:=by
 cases e:m.fr i with
 | none=>rw [show m.backI B i=m by unfold MC.backI; rw [e]]; exact ⟨(MC.To.refl m).le (Nat.zero_le 0) (Nat.zero_le 1),fun _=>rfl⟩
 | some x=>
  rw [show m.backI B i=⟨patch m.img (i*B) B x.b,m.rd,m.wr+1,upd m.fr i (some ⟨x.b,false,x.p⟩),m.used,m.row⟩ by unfold MC.backI; rw [e]]
  obtain ⟨h1,h2⟩:=Pm.lay (img:=patch m.img (i*B) B x.b) (rd:=m.rd) (wr:=m.wr+1) (fr:=m.fr) (u:=m.used) (row:=m.row) (i:=i) (x:=⟨x.b,false,x.p⟩) (u':=m.used) (row':=m.row) (hy.fr i x e)
  refine ⟨⟨⟨Int.le_refl _,by dsimp only; omega⟩,by dsimp only; omega,fun h=>h1 ⟨h.img.patch (hy.fr i x e) _ _,h.fr⟩⟩,fun j=>?_⟩
  rw [h2 j]
  split
  ·rename_i q; subst q; exact (MC.cnt_at e).symm
  ·rfl
theorem Pm.backs:∀(D:List Nat) (m:MC),m.By→MC.To 0 D.length m (D.foldl (MC.backI B) m)∧∀ j,(D.foldl (MC.backI B) m).cnt j=m.cnt j
 | [],m,_=>⟨MC.To.refl m,fun _=>rfl⟩
 | i :: D,m,hy=>by
  obtain ⟨c1,c2⟩:=Pm.backI (B:=B) hy i
  obtain ⟨d1,d2⟩:=Pm.backs D _ (c1.by' hy)
  rw [List.foldl_cons]
  exact ⟨(c1.trans d1).le (by omega) (by rw [List.length_cons]; omega),fun j=>(d2 j).trans (c2 j)⟩
end
abbrev Bt:=Int×Int×List Int
theorem Zif:IntKind.u64.bits=64:=rfl
theorem wrB {m:Nat} (h:m<18446744073709551616):IntKind.u64.wrap (m:Int)=(m:Int):=by
 have:IntKind.u64.wrap (m:Int)=((m % 18446744073709551616:Nat):Int):=by simp [IntKind.wrap,IntKind.bits,IntKind.signed]
 rw [this,Nat.mod_eq_of_lt h]
theorem ofB {x:Nat} (h:x<18446744073709551616):(BitVec.ofInt IntKind.u64.bits (x:Int)).toNat=x:=by
 rw [BitVec.ofInt_natCast,BitVec.toNat_ofNat,Zif]
 exact Nat.mod_eq_of_lt h
theorem Zf2 (v:BitVec IntKind.u64.bits):v.toNat<18446744073709551616:=v.isLt
theorem anB {x y:Nat} (hx:x<18446744073709551616) (hy:y<18446744073709551616):(BitVec.ofInt IntKind.u64.bits (x:Int) &&& BitVec.ofInt IntKind.u64.bits (y:Int)).toNat=x &&& y:=by rw [BitVec.toNat_and,ofB hx,ofB hy]
theorem orB {x y:Nat} (hx:x<18446744073709551616) (hy:y<18446744073709551616):(BitVec.ofInt IntKind.u64.bits (x:Int) ||| BitVec.ofInt IntKind.u64.bits (y:Int)).toNat=x ||| y:=by rw [BitVec.toNat_or,ofB hx,ofB hy]
theorem xoB {x y:Nat} (hx:x<18446744073709551616) (hy:y<18446744073709551616):(BitVec.ofInt IntKind.u64.bits (x:Int) ^^^ BitVec.ofInt IntKind.u64.bits (y:Int)).toNat=x ^^^ y:=by rw [BitVec.toNat_xor,ofB hx,ofB hy]
theorem Zqr {x y:Nat} (hx:x<18446744073709551616) (hy:y<18446744073709551616) (i:Nat) (hi:i<64):(BitVec.ofInt IntKind.u64.bits (x:Int) &&& ~~~(BitVec.ofInt IntKind.u64.bits (y:Int))).toNat.testBit i=(x.testBit i && !y.testBit i):=by
 rw [BitVec.toNat_and,Nat.testBit_and,ofB hx]
 congr 1
 rw [← BitVec.getLsbD,BitVec.getLsbD_not,BitVec.getLsbD,ofB hy]
 simp [Zif,hi]
theorem Zil {b:Nat} (h:b<64):IntKind.u64.wrap ((1:Int)*2 ^ (min b 64))=((2 ^ b:Nat):Int):=by
 have hb:min b 64=b:=by omega
 have hl:2 ^ b<18446744073709551616:=Nat.lt_of_lt_of_le (Nat.pow_lt_pow_right (by decide) h) (by decide)
 rw [hb,Int.one_mul,← wrB hl]
 congr 1
theorem Zmx {b:Nat} (h:b<64):2 ^ b<18446744073709551616:=Nat.lt_of_lt_of_le (Nat.pow_lt_pow_right (by decide) h) (by decide)
theorem Zoc {f:Nat} (h:f<64):∃ y:Nat,IntKind.u64.wrap ((18446744073709551615:Int)*2 ^ (min f 64))=(y:Int)∧y<18446744073709551616∧∀ i,i<64→y.testBit i=decide (f≤i):=by
 have hf:min f 64=f:=by omega
 refine ⟨(18446744073709551615*2 ^ f) % 18446744073709551616,?_,Nat.mod_lt _ (by decide),fun i hi=>?_⟩
 ·rw [hf]
  have:(18446744073709551615:Int)*2 ^ f=((18446744073709551615*2 ^ f:Nat):Int):=by
   rw [Int.natCast_mul,Int.natCast_pow]; rfl
  rw [this]
  simp [IntKind.wrap,IntKind.bits,IntKind.signed]
 ·have e1:(18446744073709551616:Nat)=2 ^ 64:=by decide
  have e2:(18446744073709551615:Nat)=2 ^ 64 - 1:=by decide
  rw [e1,Nat.testBit_mod_two_pow,e2,Nat.testBit_mul_two_pow,Nat.testBit_two_pow_sub_one]
  simp [hi]
  omega
structure BR (N:Nat) (p:Bt) (h:Nat→Bool):Prop where
 n:p.1=(N:Int)
 N1:1≤N∧N≤65536
 cnt:p.2.1=(((List.range N).filter h).length:Int)
 len:p.2.2.length=(N+63) / 64
 bit:∀ w,w<p.2.2.length→∃ x:Nat,p.2.2.getD w default=(x:Int)∧x<18446744073709551616∧∀ b,b<64→x.testBit b=(decide (64*w+b<N) && h (64*w+b))
section
variable {N:Nat} {p:Bt} {h:Nat→Bool}
theorem Zcr {i:Nat} (hi:i<4294967296):w64 (Int.tdiv (i:Int) 64)=((i / 64:Nat):Int)∧Int.tmod (i:Int) 64=((i % 64:Nat):Int):=by
 constructor
 ·rw [show Int.tdiv (i:Int) 64=((i / 64:Nat):Int) from rfl,Zz (by omega) (by omega)]
 ·rfl
theorem BR.there (b:BR N p h) {i:Nat}:Q11.f p (i:Int)=some (if N≤i then 4 else 0):=by
 have hN:=b.N1
 unfold Q11.f Q7.f
 rw [Option.bind_some,b.n,if_neg (by simp only [decide_eq_true_eq]; omega),if_neg (by simp only [decide_eq_true_eq]; omega)]
 by_cases q:N≤i
 ·rw [if_pos (decide_eq_true (by omega)),if_pos q]
 ·rw [if_neg (by simp only [decide_eq_true_eq]; omega),if_neg q]
theorem BR.has (b:BR N p h) {i:Nat} (hi:i<4294967296):Q6.f p (i:Int)=some (decide (i<N) && h i):=by
 have hN:=b.N1
 unfold Q6.f
 rw [b.there,Option.bind_some]
 by_cases q:N≤i
 ·rw [if_pos q,if_neg (by decide)]
  have:¬ i<N:=by omega
  simp [this]
 ·obtain ⟨e1,e2⟩:=Zcr hi
  have hl:=b.len
  have hw:i / 64<p.2.2.length:=by omega
  obtain ⟨x,hx,hx2,hx3⟩:=b.bit _ hw
  have hm:i % 64<64:=Nat.mod_lt _ (by decide)
  rw [if_neg q,if_pos (by decide),e1,e2,if_pos (by omega),if_pos (by omega),Z9,hx,Int.toNat_natCast,show min (i % 64) 64=i % 64 by omega]
  have e3:Int.fdiv (x:Int) (2 ^ (i % 64))=((x / 2 ^ (i % 64):Nat):Int):=by
   rw [Int.fdiv_eq_ediv_of_nonneg _ (Int.pow_nonneg (by decide)),Int.natCast_ediv,Int.natCast_pow]; rfl
  have hlt:x / 2 ^ (i % 64)<18446744073709551616:=Nat.lt_of_le_of_lt (Nat.div_le_self _ _) hx2
  rw [e3,show (BitVec.ofInt IntKind.u64.bits ((x / 2 ^ (i % 64):Nat):Int) &&& BitVec.ofInt IntKind.u64.bits 1).toNat=x / 2 ^ (i % 64) &&& 1 from anB (y:=1) hlt (by decide),Nat.and_one_is_mod,wrB (by omega)]
  have h1:=hx3 _ hm
  rw [show 64*(i / 64)+i % 64=i by omega] at h1
  rw [← h1,Nat.testBit_eq_decide_div_mod_eq]
  congr 1
  exact decide_eq_decide.2 (by omega)
theorem Zcq {N i:Nat} (hi:i<N) (hn:h i=false):((List.range N).filter (upd h i true)).length=((List.range N).filter h).length+1:=by
 have key:∀ l:List Nat,l.Nodup→i∈l→(l.filter (upd h i true)).length=(l.filter h).length+1:=by
  intro l
  induction l with
  | nil=>intro _ hx; simp at hx
  | cons y l ih=>
   intro nd hx
   rw [List.nodup_cons] at nd
   by_cases q:y=i
   ·subst q
    have hl:l.filter (upd h y true)=l.filter h:=List.filter_congr fun z hz=>Yg (fun e=>nd.1 (by rw [← e]; exact hz))
    rw [List.filter_cons_of_pos (by rw [Ye]),List.filter_cons_of_neg (by simp [hn]),hl,List.length_cons]
   ·have hx':i∈l:=by
     rcases List.mem_cons.1 hx with e | e
     ·exact absurd e.symm q
     ·exact e
    have:=ih nd.2 hx'
    by_cases hy:h y=true
    ·rw [List.filter_cons_of_pos (by rw [Yg q]; exact hy),List.filter_cons_of_pos hy,List.length_cons,List.length_cons,this]
    ·rw [List.filter_cons_of_neg (by rw [Yg q]; exact hy),List.filter_cons_of_neg hy,this]
 exact key _ List.nodup_range (List.mem_range.2 hi)
theorem Zlv {i:Nat} (hy:h i=true) (j:Nat):upd (upd h i false) i true j=h j:=by
 by_cases q:j=i
 ·subst q; rw [Ye,hy]
 ·rw [Yg q,Yg q]
theorem Zjw {N i:Nat} (hi:i<N) (hy:h i=true):((List.range N).filter (upd h i false)).length+1=((List.range N).filter h).length:=by
 have:=Zcq (h:=upd h i false) hi (Ye _ _ _)
 rw [show upd (upd h i false) i true=h from funext (Zlv hy)] at this
 exact this.symm
theorem BR.word (b:BR N p h) {i:Nat} (hi:i<N) {v:Bool} {y:Nat} (hy:y<18446744073709551616) (ht:∀ x:Nat,p.2.2.getD (i / 64) default=(x:Int)→∀ j,j<64→y.testBit j=if j=i % 64 then v else x.testBit j) {cnt:Int} (hc:cnt=(((List.range N).filter (upd h i v)).length:Int)) :
  BR N (p.1,cnt,p.2.2.set (i / 64) (y:Int)) (upd h i v):=by
 have hl:=b.len
 have hN:=b.N1
 have hw:i / 64<p.2.2.length:=by omega
 refine ⟨b.n,hN,hc,by rw [List.length_set]; exact hl,fun w hw2=>?_⟩
 rw [List.length_set] at hw2
 dsimp only
 rw [Xa hw]
 obtain ⟨x,hx,hx2,hx3⟩:=b.bit w hw2
 by_cases q:i / 64=w
 ·subst q
  refine ⟨y,if_pos rfl,hy,fun j hj=>?_⟩
  rw [ht x hx j hj]
  by_cases qj:j=i % 64
  ·subst qj
   rw [if_pos rfl,show 64*(i / 64)+i % 64=i by omega,Ye]
   simp [hi]
  ·rw [if_neg qj,hx3 j hj,Yg (by omega)]
 ·refine ⟨x,by rw [if_neg q]; exact hx,hx2,fun j hj=>?_⟩
  rw [hx3 j hj,Yg (by omega)]
theorem Zhe (b:BR N p h):((List.range N).filter h).length≤N:=by
 have:=List.length_filter_le h (List.range N)
 rw [List.length_range] at this
 exact this
theorem BR.set (b:BR N p h) {i:Nat} (hi:i<4294967296):∃ p',Q9.f p (i:Int)=some (if N≤i then 4 else if h i=true then 10 else 0,p')∧BR N p' (if N≤i then h else upd h i true):=by
 have hN:=b.N1
 unfold Q9.f
 rw [b.there,Option.bind_some]
 by_cases q:N≤i
 ·rw [if_pos q,if_pos (by decide),if_pos q,if_pos q]
  exact ⟨p,rfl,b⟩
 ·rw [if_neg q,if_neg (by decide),b.has hi,Option.bind_some,if_neg q,if_neg q]
  have hi':i<N:=by omega
  by_cases hh:h i=true
  ·rw [if_pos (by simp [hi',hh]),if_pos hh]
   refine ⟨p,rfl,?_⟩
   rw [show upd h i true=h from funext fun j=>by
    by_cases qj:j=i
    ·subst qj; rw [Ye,hh]
    ·rw [Yg qj]]
   exact b
  ·obtain ⟨e1,e2⟩:=Zcr hi
   have hl:=b.len
   have hw:i / 64<p.2.2.length:=by omega
   obtain ⟨x,hx,hx2,hx3⟩:=b.bit _ hw
   have hm:i % 64<64:=Nat.mod_lt _ (by decide)
   have hp:=Zmx hm
   have hcl:=Zhe b
   have hcn:=b.cnt
   rw [if_neg (by simp [hh]),if_neg hh,e1,e2,if_pos (by omega),if_pos (by omega),Z9,hx,Int.toNat_natCast,Int.toNat_natCast,Zil hm,orB hx2 hp]
   have hor:x ||| 2 ^ (i % 64)<18446744073709551616:=by rw [← orB hx2 hp]; exact Zf2 _
   rw [wrB hor]
   have hf:h i=false:=by simpa using hh
   refine ⟨_,rfl,b.word hi' hor (fun x' hx' j hj=>?_) ?_⟩
   ·have:x'=x:=by rw [hx] at hx'; omega
    subst this
    rw [Nat.testBit_or,Nat.testBit_two_pow]
    by_cases qj:j=i % 64
    ·subst qj; simp
    ·rw [if_neg qj]
     have:¬ i % 64=j:=fun e=>qj e.symm
     simp [this]
   ·rw [Zcq hi' hf,hcn,Zz (by omega) (by omega)]; omega
theorem BR.clear (b:BR N p h) {i:Nat} (hi:i<4294967296):∃ p',Q3.f p (i:Int)=some (if N≤i then 4 else if h i=true then 0 else 9,p')∧BR N p' (if N≤i then h else upd h i false):=by
 have hN:=b.N1
 unfold Q3.f
 rw [b.there,Option.bind_some]
 by_cases q:N≤i
 ·rw [if_pos q,if_pos (by decide),if_pos q,if_pos q]
  exact ⟨p,rfl,b⟩
 ·rw [if_neg q,if_neg (by decide),b.has hi,Option.bind_some,if_neg q,if_neg q]
  have hi':i<N:=by omega
  by_cases hh:h i=true
  ·obtain ⟨e1,e2⟩:=Zcr hi
   have hl:=b.len
   have hw:i / 64<p.2.2.length:=by omega
   obtain ⟨x,hx,hx2,hx3⟩:=b.bit _ hw
   have hm:i % 64<64:=Nat.mod_lt _ (by decide)
   have hp:=Zmx hm
   have hcl:=Zhe b
   have hcn:=b.cnt
   have hf:=Zjw hi' hh
   rw [if_neg (by simp [hi',hh]),if_pos hh,e1,e2,if_pos (by omega),if_pos (by omega),Z9,hx,Int.toNat_natCast,Int.toNat_natCast,Zil hm]
   have hlt:=Zf2 (BitVec.ofInt IntKind.u64.bits (x:Int) &&& ~~~(BitVec.ofInt IntKind.u64.bits ((2 ^ (i % 64):Nat):Int)))
   rw [wrB hlt]
   refine ⟨_,rfl,b.word hi' hlt (fun x' hx' j hj=>?_) ?_⟩
   ·have:x'=x:=by rw [hx] at hx'; omega
    subst this
    rw [Zqr hx2 hp j hj,Nat.testBit_two_pow]
    by_cases qj:j=i % 64
    ·subst qj; simp
    ·rw [if_neg qj]
     have:¬ i % 64=j:=fun e=>qj e.symm
     simp [this]
   ·rw [hcn,Zz (by omega) (by omega)]; omega
  ·rw [if_pos (by simp [hh]),if_neg hh]
   refine ⟨p,rfl,?_⟩
   have hf:h i=false:=by simpa using hh
   rw [show upd h i false=h from funext fun j=>by
    by_cases qj:j=i
    ·subst qj; rw [Ye,hf]
    ·rw [Yg qj]]
   exact b
theorem Zo9 {x:Nat} (h0:x≠0) (h1:x<18446744073709551616):Go.Lib.ctz 64 x<64∧x.testBit (Go.Lib.ctz 64 x)=true∧∀ j,j<Go.Lib.ctz 64 x→x.testBit j=false:=by
 unfold Go.Lib.ctz
 rw [if_neg h0]
 obtain ⟨m,hm,hc⟩:=Go.Lib.ctzFrom_spec 64 x (by omega) (by omega)
 generalize Go.Lib.ctzFrom 64 x=c at *
 refine ⟨hc,?_,fun j hj=>?_⟩
 ·rw [hm,Nat.mul_comm,Nat.testBit_mul_two_pow]
  simp
 ·rw [hm,Nat.mul_comm,Nat.testBit_mul_two_pow]
  have:¬ c≤j:=by omega
  simp [this]
def Wf (N:Nat) (h:Nat→Bool) (turn:Bool) (i:Nat):Bool:=if turn=true then !(decide (i<N) && h i) else decide (i<N) && h i
theorem Ziu (b:BR N p h) (turn:Bool) {fr:Nat} (hfr:fr<4294967296):∀(q w k:Nat),p.2.2.length=w+q→fr / 64≤w→q<k→(∀ j,fr≤j→j<64*w→Wf N h turn j=false)→
  (∃ i:Nat,Q10.l0 k p (fr:Int) (if turn=true then 18446744073709551615 else 0) (w:Int)=some ((i:Int),decide (i<N))∧fr≤i∧i<64*p.2.2.length∧Wf N h turn i=true∧∀ j,fr≤j→j<i→Wf N h turn j=false)∨
   (Q10.l0 k p (fr:Int) (if turn=true then 18446744073709551615 else 0) (w:Int)=some (0,false)∧∀ j,fr≤j→j<64*p.2.2.length→Wf N h turn j=false)
 | _,_,0,_,_,hk,_=>by omega
 | 0,w,k+1,hq,hw,hk,hn=>by
  have hN:=b.N1
  have hl:=b.len
  right
  rw [Q10.l0,if_neg (by simp only [decide_eq_true_eq]; omega)]
  exact ⟨rfl,fun j h1 h2=>hn j h1 (by omega)⟩
 | q+1,w,k+1,hq,hw,hk,hn=>by
  have hN:=b.N1
  have hl:=b.len
  have hwl:w<p.2.2.length:=by omega
  obtain ⟨x,hx,hx2,hx3⟩:=b.bit w hwl
  have hmx:(if (fr:Int)>0 then (fr:Int) else 0)=(fr:Int):=by split <;> omega
  obtain ⟨d1,d2⟩:=Zcr hfr
  -- the word,turned
  obtain ⟨y,hy,hy2,hy3⟩:∃ y:Nat,(IntKind.u64.wrap (((BitVec.ofInt IntKind.u64.bits (x:Int) ^^^ (BitVec.ofInt IntKind.u64.bits (if turn=true then 18446744073709551615 else 0))).toNat:Int)))=(y:Int)∧y<18446744073709551616∧∀ j,j<64→y.testBit j=Wf N h turn (64*w+j):=by
   cases turn with
   | true=>
    have e:=xoB (y:=18446744073709551615) hx2 (by decide)
    refine ⟨x ^^^ 18446744073709551615,?_,?_,fun j hj=>?_⟩
    ·rw [if_pos rfl,show (18446744073709551615:Int)=((18446744073709551615:Nat):Int) from rfl,e,wrB (by rw [← e]; exact Zf2 _)]
    ·rw [← e]; exact Zf2 _
    ·rw [Nat.testBit_xor,hx3 j hj,show (18446744073709551615:Nat)=2 ^ 64 - 1 by decide,Nat.testBit_two_pow_sub_one]
     unfold Wf
     simp [hj]
   | false=>
    have e:=xoB (y:=0) hx2 (by decide)
    refine ⟨x,?_,hx2,fun j hj=>?_⟩
    ·rw [if_neg (by decide),show (0:Int)=((0:Nat):Int) from rfl,e,Nat.xor_zero,wrB hx2]
    ·rw [hx3 j hj]; rfl
  rw [Q10.l0,if_pos (decide_eq_true (by omega)),if_pos (by omega),hmx,d1,d2,Z9,hx,hy]
  -- what is looked at,at this word
  have step:∀ z:Nat,z<18446744073709551616→(∀ j,j<64→z.testBit j=(decide (fr≤64*w+j) && Wf N h turn (64*w+j)))→
    (∃ i:Nat,(if (decide ((z:Int)=0))=true then Q10.l0 k p (fr:Int) (if turn=true then 18446744073709551615 else 0) (w64 ((w:Int)+1)) else (if 0≤(z:Int)∧(z:Int)<18446744073709551616 then some ((w64 ((w64 ((w:Int)*64))+(tzI (z:Int)))),(decide ((w64 ((w64 ((w:Int)*64))+(tzI (z:Int))))<p.1))) else none))=some ((i:Int),decide (i<N))∧fr≤i∧i<64*p.2.2.length∧Wf N h turn i=true∧∀ j,fr≤j→j<i→Wf N h turn j=false)∨
    ((if (decide ((z:Int)=0))=true then Q10.l0 k p (fr:Int) (if turn=true then 18446744073709551615 else 0) (w64 ((w:Int)+1)) else (if 0≤(z:Int)∧(z:Int)<18446744073709551616 then some ((w64 ((w64 ((w:Int)*64))+(tzI (z:Int)))),(decide ((w64 ((w64 ((w:Int)*64))+(tzI (z:Int))))<p.1))) else none))=some (0,false)∧∀ j,fr≤j→j<64*p.2.2.length→Wf N h turn j=false):=by
   intro z hz hzt
   by_cases z0:z=0
   ·subst z0
    rw [if_pos (by decide),Ya (by omega)]
    refine Ziu b turn hfr q (w+1) k (by omega) (by omega) (by omega) fun j h1 h2=>?_
    by_cases hj:j<64*w
    ·exact hn j h1 hj
    ·have:=hzt (j - 64*w) (by omega)
     rw [Nat.zero_testBit,show 64*w+(j - 64*w)=j by omega] at this
     have h3:decide (fr≤j)=true:=decide_eq_true h1
     rw [h3,Bool.true_and] at this
     exact this.symm
   ·obtain ⟨c1,c2,c3⟩:=Zo9 z0 hz
    left
    have tz:tzI (z:Int)=((Go.Lib.ctz 64 z:Nat):Int):=by unfold tzI; rw [Int.toNat_natCast]
    generalize Go.Lib.ctz 64 z=cz at *
    have hb:=hzt cz c1
    rw [c2] at hb
    have hb2:=(Bool.and_eq_true _ _).mp hb.symm
    have hfr2:=of_decide_eq_true hb2.1
    refine ⟨64*w+cz,?_,hfr2,by omega,hb2.2,fun j h1 h2=>?_⟩
    ·rw [if_neg (by simp; omega),if_pos (by omega),tz,Zz (x:=(w:Int)*64) (by omega) (by omega),Zz (by omega) (by omega),b.n]
     congr 2
     ·omega
     ·exact decide_eq_decide.2 (by omega)
    ·by_cases hj:j<64*w
     ·exact hn j h1 hj
     ·have:=hzt (j - 64*w) (by omega)
      rw [c3 (j - 64*w) (by omega),show 64*w+(j - 64*w)=j by omega] at this
      have h3:decide (fr≤j)=true:=decide_eq_true h1
      rw [h3,Bool.true_and] at this
      exact this.symm
  by_cases qw:w=fr / 64
  ·rw [if_pos (decide_eq_true (by omega)),if_pos (by omega),Int.toNat_natCast]
   obtain ⟨s,hs,hs2,hs3⟩:=Zoc (f:=fr % 64) (Nat.mod_lt _ (by decide))
   have ea:=anB hy2 hs2
   have hal:y &&& s<18446744073709551616:=by rw [← ea]; exact Zf2 _
   rw [hs,ea,wrB hal]
   refine step _ hal fun j hj=>?_
   rw [Nat.testBit_and,hy3 j hj,hs3 j hj,Bool.and_comm]
   congr 1
   exact decide_eq_decide.2 (by omega)
  ·rw [if_neg (by simp only [decide_eq_true_eq]; omega)]
   refine step y hy2 fun j hj=>?_
   rw [hy3 j hj]
   have:decide (fr≤64*w+j)=true:=decide_eq_true (by omega)
   rw [this,Bool.true_and]
theorem Zm8 (b:BR N p h) (turn:Bool) {fr:Nat} (hfr:fr<4294967296) {k:Nat} (hk:2000<k) :
  (∃ i:Nat,Q10.f k p (fr:Int) (if turn=true then 18446744073709551615 else 0)=some ((i:Int),decide (i<N))∧fr≤i∧i<64*p.2.2.length∧Wf N h turn i=true∧∀ j,fr≤j→j<i→Wf N h turn j=false)∨
   (Q10.f k p (fr:Int) (if turn=true then 18446744073709551615 else 0)=some (0,false)∧∀ j,fr≤j→j<64*p.2.2.length→Wf N h turn j=false):=by
 have hN:=b.N1
 have hl:=b.len
 have hmx:(if (fr:Int)>0 then (fr:Int) else 0)=(fr:Int):=by split <;> omega
 unfold Q10.f
 rw [hmx,(Zcr hfr).1]
 by_cases q:fr / 64≤p.2.2.length
 ·exact Ziu b turn hfr (p.2.2.length - fr / 64) (fr / 64) k (by omega) (Nat.le_refl _) (by omega) fun j h1 h2=>by omega
 ·obtain ⟨k,rfl⟩:∃ k',k=k'+1:=⟨k - 1,by omega⟩
  right
  rw [Q10.l0,if_neg (by simp only [decide_eq_true_eq]; omega)]
  exact ⟨rfl,fun j h1 h2=>by omega⟩
theorem BR.free (b:BR N p h) {k:Nat} (hk:2000<k) (hfree:∃ i,i<N∧h i=false):∃ i:Nat,Q5.f k p 0=some ((i:Int),true)∧i<N∧h i=false∧∀ j,j<i→h j=true:=by
 have hN:=b.N1
 have hl:=b.len
 obtain ⟨i0,h1,h2⟩:=hfree
 unfold Q5.f Q7.f Q12.f
 have hs:=Zm8 b true (fr:=0) (by decide) hk
 rw [if_pos rfl] at hs
 have hi0:Wf N h true i0=true:=by unfold Wf; simp [h1,h2]
 rcases hs with ⟨i,e,_,g2,g3,g4⟩ | ⟨e,g⟩
 ·have hiN:i<N:=by
   apply Nat.lt_of_not_le
   intro hge
   have:=g4 i0 (Nat.zero_le _) (by omega)
   rw [hi0] at this; cases this
  rw [Option.bind_some,b.n,if_neg (by simp only [decide_eq_true_eq]; omega),show Q10.f k p 0 18446744073709551615=_ from e,Option.bind_some,if_neg (by simp [hiN])]
  refine ⟨i,rfl,hiN,?_,fun j hj=>?_⟩
  ·unfold Wf at g3
   simpa [hiN] using g3
  ·have:=g4 j (Nat.zero_le _) hj
   have hjN:j<N:=by omega
   unfold Wf at this
   simpa [hjN] using this
 ·have:=g i0 (Nat.zero_le _) (by omega)
  rw [hi0] at this; cases this
end
namespace MC
def cont (B:Nat) (m:MC) (i:Nat):List Int:=match m.fr i with
 | none=>blk m.img B i
 | some x=>x.b
theorem cont_no {B:Nat} {m:MC} {i:Nat} (e:m.fr i=none):m.cont B i=blk m.img B i:=by unfold cont; rw [e]
theorem cont_at {B:Nat} {m:MC} {i:Nat} {x:Fm} (e:m.fr i=some x):m.cont B i=x.b:=by unfold cont; rw [e]
def Cl (B:Nat) (m:MC):Prop:=∀ i x,m.fr i=some x→x.d=false→x.b=blk m.img B i
end MC
section
variable {N B n t:Nat} {m k:MC} {i:Nat} {x:Fm}
theorem Cl.evict (mi:MI N B n t m) (cl:m.Cl B) (q:Nat):(m.evict B q).Cl B∧(∀ j,j<N→(m.evict B q).cont B j=m.cont B j)∧((m.evict B q).fr q=none)∧∀ j,m.fr j=none→(m.evict B q).fr j=none:=by
 cases e:m.fr q with
 | none=>
  have:m.evict B q=m:=by unfold MC.evict; rw [e]
  rw [this]
  exact ⟨cl,fun _ _=>rfl,e,fun _ h=>h⟩
 | some x=>
  obtain ⟨hq,hb,_⟩:=mi.len q x e
  rw [MC.evict_eq e]
  refine ⟨fun j y hj hd=>?_,fun j hj=>?_,Ye _ _ _,fun j hj=>?_⟩
  ·dsimp only at hj ⊢
   by_cases qj:j=q
   ·subst qj; rw [Ye] at hj; cases hj
   ·rw [Yg qj] at hj
    have h1:=cl j y hj hd
    split
    ·rw [Um mi.dim hq hb j (mi.len j y hj).1,if_neg qj]; exact h1
    ·exact h1
  ·by_cases qj:j=q
   ·subst qj
    rw [MC.cont_at e,MC.cont_no (Ye _ _ _)]
    dsimp only
    split
    ·rw [Um mi.dim hq hb j hq,if_pos rfl]
    ·rename_i hd
     exact (cl j x e (by simpa using hd)).symm
   ·cases ej:m.fr j with
    | none=>
     rw [MC.cont_no ej,MC.cont_no (by show upd m.fr q none j=none; rw [Yg qj]; exact ej)]
     dsimp only
     split
     ·rw [Um mi.dim hq hb j hj,if_neg qj]
     ·rfl
    | some y=>rw [MC.cont_at ej,MC.cont_at (show upd m.fr q none j=some y by rw [Yg qj]; exact ej)]
  ·show upd m.fr q none j=none
   by_cases qj:j=q
   ·subst qj; exact Ye _ _ _
   ·rw [Yg qj]; exact hj
theorem Cl.room (mi:MI N B n t m) (cl:m.Cl B) (h:m.room B n=some k):k.Cl B∧(∀ j,j<N→k.cont B j=m.cont B j)∧∀ j,m.fr j=none→k.fr j=none:=by
 unfold MC.room at h
 split at h
 ·injection h with h; subst h; exact ⟨cl,fun _ _=>rfl,fun _ h=>h⟩
 ·split at h
  ·cases h
  ·rename_i q _
   injection h with h; subst h
   obtain ⟨h1,h2,_,h3⟩:=Cl.evict mi cl q
   exact ⟨h1,h2,h3⟩
theorem Cl.lay {img:TV} {rd wr:Int} {fr:Nat→Option Fm} {u u':Nat} {row row':List Nat} (cl:(⟨img,rd,wr,fr,u,row⟩:MC).Cl B) {x:Fm} (hx:x.d=false→x.b=blk img B i) {rd':Int}:(⟨img,rd',wr,upd fr i (some x),u',row'⟩:MC).Cl B∧∀ j,(⟨img,rd',wr,upd fr i (some x),u',row'⟩:MC).cont B j=if j=i then x.b else (⟨img,rd,wr,fr,u,row⟩:MC).cont B j:=by
 refine ⟨fun j y hj hd=>?_,fun j=>?_⟩
 ·have hj':upd fr i (some x) j=some y:=hj
  by_cases q:j=i
  ·subst q; rw [Ye] at hj'; injection hj' with hj'; subst hj'; exact hx hd
  ·rw [Yg q] at hj'; exact cl j y hj' hd
 ·by_cases q:j=i
  ·subst q; rw [if_pos rfl]; exact MC.cont_at (Ye _ _ _)
  ·rw [if_neg q]; unfold MC.cont; dsimp only; rw [Yg q]
theorem Cl.pin (mi:MI N B n t m) (cl:m.Cl B) (i:Nat):(m.pin N B n i).2.Cl B∧∀ j,j<N→(m.pin N B n i).2.cont B j=m.cont B j:=by
 by_cases h:N≤i
 ·rw [MC.pin_out h]; exact ⟨cl,fun _ _=>rfl⟩
 cases e:m.fr i with
 | some x=>
  rw [MC.pin_hit h e]
  obtain ⟨h1,h2⟩:=Cl.lay (i:=i) (x:=⟨x.b,x.d,x.p+1⟩) (u':=m.used) (row':=m.row.erase i) (rd':=m.rd) (cl:(⟨m.img,m.rd,m.wr,m.fr,m.used,m.row⟩:MC).Cl B) (fun hd=>cl i x e hd)
  refine ⟨h1,fun j hj=>?_⟩
  rw [show (((m.put i ⟨x.b,x.d,x.p+1⟩).cut i).cont B j)=_ from h2 j]
  split
  ·rename_i q; subst q; exact (MC.cont_at e).symm
  ·rfl
 | none=>
  cases r:m.room B n with
  | none=>rw [MC.pin_full h e r]; exact ⟨cl,fun _ _=>rfl⟩
  | some k=>
   obtain ⟨c1,c2,c3⟩:=Cl.room mi cl r
   rw [MC.pin_miss h e r]
   obtain ⟨h1,h2⟩:=Cl.lay (i:=i) (x:=⟨blk k.img B i,false,1⟩) (u':=k.used+1) (row':=k.row) (rd':=k.rd+1) (c1:(⟨k.img,k.rd,k.wr,k.fr,k.used,k.row⟩:MC).Cl B) (fun _=>rfl)
   refine ⟨h1,fun j hj=>?_⟩
   rw [show ((⟨k.img,k.rd+1,k.wr,k.fr,k.used,k.row⟩:MC).come i ⟨blk k.img B i,false,1⟩).cont B j=_ from h2 j]
   split
   ·rename_i q; subst q; rw [← c2 j hj]; exact (MC.cont_no (c3 j e)).symm
   ·exact c2 j hj
theorem Cl.fresh (mi:MI N B n t m) (cl:m.Cl B) (i:Nat):(m.fresh N B n i).2.Cl B∧((m.fresh N B n i).1=0→i<N)∧∀ j,j<N→(m.fresh N B n i).2.cont B j=if (m.fresh N B n i).1=0∧j=i then List.replicate B 0 else m.cont B j:=by
 by_cases h:N≤i
 ·rw [MC.fresh_out h]; exact ⟨cl,fun e=>by simp at e,fun _ _=>by rw [if_neg (by simp)]⟩
 cases e:m.fr i with
 | some x=>
  by_cases p:0<x.p
  ·rw [MC.fresh_pin h e p]; exact ⟨cl,fun e=>by simp at e,fun _ _=>by rw [if_neg (by simp)]⟩
  ·rw [MC.fresh_hit h e p]
   obtain ⟨h1,h2⟩:=Cl.lay (i:=i) (x:=⟨List.replicate B 0,true,1⟩) (u':=m.used) (row':=m.row.erase i) (rd':=m.rd) (cl:(⟨m.img,m.rd,m.wr,m.fr,m.used,m.row⟩:MC).Cl B) (fun hd=>by cases hd)
   refine ⟨h1,fun _=>by omega,fun j hj=>?_⟩
   rw [show (((m.put i ⟨List.replicate B 0,true,1⟩).cut i).cont B j)=_ from h2 j]
   by_cases q:j=i
   ·rw [if_pos q,if_pos ⟨rfl,q⟩]
   ·rw [if_neg q,if_neg (fun z=>q z.2)]
 | none=>
  cases r:m.room B n with
  | none=>rw [MC.fresh_full h e r]; exact ⟨cl,fun e=>by simp at e,fun _ _=>by rw [if_neg (by simp)]⟩
  | some k=>
   obtain ⟨c1,c2,c3⟩:=Cl.room mi cl r
   rw [MC.fresh_miss h e r]
   obtain ⟨h1,h2⟩:=Cl.lay (i:=i) (x:=⟨List.replicate B 0,true,1⟩) (u':=k.used+1) (row':=k.row) (rd':=k.rd) (c1:(⟨k.img,k.rd,k.wr,k.fr,k.used,k.row⟩:MC).Cl B) (fun hd=>by cases hd)
   refine ⟨h1,fun _=>by omega,fun j hj=>?_⟩
   rw [show (k.come i ⟨List.replicate B 0,true,1⟩).cont B j=_ from h2 j]
   by_cases q:j=i
   ·rw [if_pos q,if_pos ⟨rfl,q⟩]
   ·rw [if_neg q,if_neg (fun z=>q z.2)]; exact c2 j hj
theorem Cl.unpin (cl:m.Cl B) (i:Nat):(m.unpin i).2.Cl B∧∀ j,(m.unpin i).2.cont B j=m.cont B j:=by
 cases e:m.fr i with
 | none=>rw [MC.unpin_no e]; exact ⟨cl,fun _=>rfl⟩
 | some x=>
  have key:∀(p u:Nat) (row:List Nat),(⟨m.img,m.rd,m.wr,upd m.fr i (some ⟨x.b,x.d,p⟩),u,row⟩:MC).Cl B∧∀ j,(⟨m.img,m.rd,m.wr,upd m.fr i (some ⟨x.b,x.d,p⟩),u,row⟩:MC).cont B j=m.cont B j:=fun p u row=>by
   obtain ⟨h1,h2⟩:=Cl.lay (i:=i) (x:=⟨x.b,x.d,p⟩) (u':=u) (row':=row) (rd':=m.rd) (cl:(⟨m.img,m.rd,m.wr,m.fr,m.used,m.row⟩:MC).Cl B) (fun hd=>cl i x e hd)
   refine ⟨h1,fun j=>?_⟩
   rw [h2 j]
   split
   ·rename_i q; subst q; exact (MC.cont_at e).symm
   ·rfl
  by_cases p:x.p=0
  ·rw [MC.unpin_out e p]; exact ⟨cl,fun _=>rfl⟩
  ·by_cases p1:x.p=1
   ·rw [MC.unpin_one e p1]; exact key _ _ _
   ·rw [MC.unpin_more e p p1]; exact key _ _ _
theorem Cl.write (mi:MI N B n t m) (cl:m.Cl B) (i:Nat) (b:TV):(m.write B i b).2.Cl B∧((m.write B i b).1=0→i<N)∧∀ j,(m.write B i b).2.cont B j=if (m.write B i b).1=0∧j=i then b else m.cont B j:=by
 cases e:m.fr i with
 | none=>rw [MC.write_no e]; exact ⟨cl,fun e=>by simp at e,fun _=>by rw [if_neg (by simp)]⟩
 | some x=>
  by_cases p:x.p=0
  ·rw [MC.write_out e p]; exact ⟨cl,fun e=>by simp at e,fun _=>by rw [if_neg (by simp)]⟩
  ·by_cases q:b.length=B
   ·rw [MC.write_hit e p q]
    obtain ⟨h1,h2⟩:=Cl.lay (i:=i) (x:=⟨b,true,x.p⟩) (u':=m.used) (row':=m.row) (rd':=m.rd) (cl:(⟨m.img,m.rd,m.wr,m.fr,m.used,m.row⟩:MC).Cl B) (fun hd=>by cases hd)
    refine ⟨h1,fun _=>(mi.len i x e).1,fun j=>?_⟩
    rw [show (m.put i ⟨b,true,x.p⟩).cont B j=_ from h2 j]
    by_cases q:j=i
    ·rw [if_pos q,if_pos ⟨rfl,q⟩]
    ·rw [if_neg q,if_neg (fun z=>q z.2)]
   ·rw [MC.write_form e p q]; exact ⟨cl,fun e=>by simp at e,fun _=>by rw [if_neg (by simp)]⟩
theorem Cl.backI (mi:MI N B n t m) (cl:m.Cl B) (i:Nat):(m.backI B i).Cl B∧(∀ j,j<N→(m.backI B i).cont B j=m.cont B j)∧∀ j,(m.backI B i).isD j=(m.isD j && decide (j≠i)):=by
 cases e:m.fr i with
 | none=>
  rw [Zb9 e]
  refine ⟨cl,fun _ _=>rfl,fun j=>?_⟩
  by_cases q:j=i
  ·subst q; unfold MC.isD; rw [e]; rfl
  ·simp [q]
 | some x=>
  obtain ⟨hq,hb,_⟩:=mi.len i x e
  rw [J3 e]
  refine ⟨fun j y hj hd=>?_,fun j hj=>?_,fun j=>?_⟩
  ·have hj':upd m.fr i (some ⟨x.b,false,x.p⟩) j=some y:=hj
   by_cases q:j=i
   ·subst q
    rw [Ye] at hj'; injection hj' with hj'; subst hj'
    show x.b=blk (patch m.img (j*B) B x.b) B j
    rw [Um mi.dim hq hb j hq,if_pos rfl]
   ·rw [Yg q] at hj'
    show y.b=blk (patch m.img (i*B) B x.b) B j
    rw [Um mi.dim hq hb j (mi.len j y hj').1,if_neg q]; exact cl j y hj' hd
  ·by_cases q:j=i
   ·subst q; rw [MC.cont_at e,MC.cont_at (show upd m.fr j (some ⟨x.b,false,x.p⟩) j=_ from Ye _ _ _)]
   ·cases ej:m.fr j with
    | some y=>rw [MC.cont_at ej,MC.cont_at (show upd m.fr i (some ⟨x.b,false,x.p⟩) j=some y by rw [Yg q]; exact ej)]
    | none=>
     rw [MC.cont_no ej,MC.cont_no (show upd m.fr i (some ⟨x.b,false,x.p⟩) j=none by rw [Yg q]; exact ej)]
     dsimp only
     rw [Um mi.dim hq hb j hj,if_neg q]
  ·unfold MC.isD
   dsimp only
   by_cases q:j=i
   ·subst q; rw [Ye]; simp
   ·rw [Yg q]; simp [q]
theorem Cl.backs:∀(D:List Nat) (m:MC),MI N B n t m→m.Cl B→MI N B n t (D.foldl (MC.backI B) m)∧(D.foldl (MC.backI B) m).Cl B∧(∀ j,j<N→(D.foldl (MC.backI B) m).cont B j=m.cont B j)∧∀ j,(D.foldl (MC.backI B) m).isD j=(m.isD j && decide (j∉D))
 | [],m,mi,cl=>⟨mi,cl,fun _ _=>rfl,fun j=>by simp⟩
 | i :: D,m,mi,cl=>by
  obtain ⟨c1,c2,c3⟩:=Cl.backI mi cl i
  obtain ⟨d0,d1,d2,d3⟩:=Cl.backs D _ (mi.back i) c1
  rw [List.foldl_cons]
  refine ⟨d0,d1,fun j hj=>(d2 j hj).trans (c2 j hj),fun j=>?_⟩
  rw [d3,c3]
  by_cases q:j=i
  ·simp [q]
  ·simp [q]
theorem Cl.flush (mi:MI N B n t m) (cl:m.Cl B):(m.flush N B).Cl B∧(∀ j,j<N→(m.flush N B).cont B j=m.cont B j)∧∀ j,j<N→(m.flush N B).isD j=false:=by
 obtain ⟨_,d1,d2,d3⟩:=Cl.backs (m.dirty N) m mi cl
 refine ⟨d1,d2,fun j hj=>?_⟩
 unfold MC.flush
 rw [d3]
 by_cases q:m.isD j=true
 ·have:j∈m.dirty N:=List.mem_filter.2 ⟨List.mem_range.2 hj,q⟩
  simp [this]
 ·simp [Bool.eq_false_iff.2 q]
theorem Cl.act (mi:MI N B n t m) (cl:m.Cl B) (kd:Int) (hk:kd≠7) (i:Nat) (b:TV):(m.act N B n kd i b).2.Cl B∧((m.act N B n kd i b).1=0∧(kd=2∨kd=5∨kd=6)→i<N)∧∀ j,j<N→(m.act N B n kd i b).2.cont B j=if (m.act N B n kd i b).1=0∧j=i∧(kd=2∨kd=5∨kd=6) then (if kd=2 then List.replicate B 0 else b) else m.cont B j:=by
 unfold MC.act
 by_cases q0:kd=0
 ·rw [if_pos q0]; subst q0
  obtain ⟨h1,h2⟩:=Cl.pin mi cl i
  exact ⟨h1,fun h=>absurd h.2 (by decide),fun j hj=>by rw [if_neg (fun z=>absurd z.2.2 (by decide))]; exact h2 j hj⟩
 rw [if_neg q0]
 by_cases q1:kd=1
 ·rw [if_pos q1]; subst q1
  obtain ⟨h1,h2⟩:=Cl.pin mi cl i
  exact ⟨h1,fun h=>absurd h.2 (by decide),fun j hj=>by rw [if_neg (fun z=>absurd z.2.2 (by decide))]; exact h2 j hj⟩
 rw [if_neg q1]
 by_cases q2:kd=2
 ·rw [if_pos q2]; subst q2
  obtain ⟨h1,h3,h2⟩:=Cl.fresh mi cl i
  refine ⟨h1,fun h=>h3 h.1,fun j hj=>?_⟩
  rw [h2 j hj]
  by_cases z:(m.fresh N B n i).1=0∧j=i
  ·rw [if_pos z,if_pos ⟨z.1,z.2,.inl rfl⟩,if_pos rfl]
  ·rw [if_neg z,if_neg (fun y=>z ⟨y.1,y.2.1⟩)]
 rw [if_neg q2]
 by_cases q3:kd=3
 ·rw [if_pos q3]; subst q3
  obtain ⟨h1,h2⟩:=Cl.unpin cl i
  exact ⟨h1,fun h=>absurd h.2 (by decide),fun j hj=>by rw [if_neg (fun z=>absurd z.2.2 (by decide))]; exact h2 j⟩
 rw [if_neg q3]
 by_cases q4:kd=4
 ·rw [if_pos q4]; subst q4
  obtain ⟨h1,h2⟩:=Cl.unpin cl i
  exact ⟨h1,fun h=>absurd h.2 (by decide),fun j hj=>by rw [if_neg (fun z=>absurd z.2.2 (by decide))]; exact h2 j⟩
 rw [if_neg q4]
 by_cases q5:kd=5
 ·rw [if_pos q5]; subst q5
  obtain ⟨h1,h3,h2⟩:=Cl.write mi cl i b
  refine ⟨h1,fun h=>h3 h.1,fun j hj=>?_⟩
  rw [h2 j]
  by_cases z:(m.write B i b).1=0∧j=i
  ·rw [if_pos z,if_pos ⟨z.1,z.2,.inr (.inl rfl)⟩,if_neg (by decide)]
  ·rw [if_neg z,if_neg (fun y=>z ⟨y.1,y.2.1⟩)]
 rw [if_neg q5]
 by_cases q6:kd=6
 ·rw [if_pos q6]; subst q6
  obtain ⟨h1,h3,h2⟩:=Cl.write mi cl i b
  refine ⟨h1,fun h=>h3 h.1,fun j hj=>?_⟩
  rw [h2 j]
  by_cases z:(m.write B i b).1=0∧j=i
  ·rw [if_pos z,if_pos ⟨z.1,z.2,.inr (.inr rfl)⟩,if_neg (by decide)]
  ·rw [if_neg z,if_neg (fun y=>z ⟨y.1,y.2.1⟩)]
 rw [if_neg q6,if_neg hk]
 have no:¬ (kd=2∨kd=5∨kd=6):=fun z=>z.elim q2 fun z=>z.elim q5 q6
 by_cases q8:kd=8
 ·rw [if_pos q8]
  obtain ⟨h1,h2,_⟩:=Cl.flush mi cl
  exact ⟨h1,fun h=>absurd h.2 no,fun j hj=>by rw [if_neg (fun z=>no z.2.2)]; exact h2 j hj⟩
 rw [if_neg q8]
 by_cases q9:kd=9
 ·rw [if_pos q9]
  exact ⟨cl,fun h=>absurd h.2 no,fun j hj=>by rw [if_neg (fun z=>no z.2.2)]⟩
 rw [if_neg q9]
 exact ⟨cl,fun h=>absurd h.2 no,fun j hj=>by rw [if_neg (fun z=>no z.2.2)]⟩
end
abbrev Shf:=Cfg×Ca×Bt×Int
structure ShI (c:Cfg) (N B n t:Nat) (s:Shf) (L:List Nat) (q:Nat):Prop where
 cfg:s.1=c
 ca:CaI N B n t [] s.2.1 L
 by':(Z2 s.2.1 L).By
 bits:∃ h,BR N s.2.2.1 h∧h 0=true
 kp:s.2.2.2=(q:Int)
 q32:q<4294967296
 pin:q≠0→1≤(Z2 s.2.1 L).cnt q
structure Sto (c:Cfg) (N B n t a b:Nat) (m:MC) (s':Shf) (q':Nat) (L':List Nat):Prop where
 i:ShI c N B n t s' L' q'
 to:MC.To a b m (Z2 s'.2.1 L')
section
variable {c:Cfg} {N B n t q:Nat} {s:Shf} {L:List Nat}
theorem ShI.up (h:ShI c N B n t s L q) {t':Nat} (ht:t≤t'):ShI c N B n t' s L q:=⟨h.cfg,h.ca.mono ht,h.by',h.bits,h.kp,h.q32,h.pin⟩
theorem ShI.id (h:ShI c N B n t s L q) (a b:Nat):Sto c N B n (t+1) a b (Z2 s.2.1 L) s q L:=⟨h.up (by omega),(MC.To.refl _).le (by omega) (by omega)⟩
theorem Zcd:∀ {l:TV},Byt l→toB (toS l)=l
 | [],_=>rfl
 | x :: l,h=>by
  have hx:=h x (by simp)
  have ih:=Zcd (l:=l) fun y hy=>h y (List.mem_cons_of_mem _ hy)
  obtain ⟨v,rfl⟩:=Int.eq_ofNat_of_zero_le hx.1
  unfold toS toB at *
  rw [List.map_cons,List.map_cons,ih]
  congr 1
  rw [Int.toNat_natCast,UInt8.toNat_ofNat']
  rw [Nat.mod_eq_of_lt (by omega)]
structure EncN (nd:Nd):Prop where
 sm:SmallN nd
 kd:∀ x∈nd.2.1,0≤x∧x<4294967296
theorem EncN.ev {nd:Nd} (h:EncN nd) (c:Cfg):Ev (fun k=>Q39.f k c nd) (Uj c nd):=Zoo h.sm.kids h.sm.pivs (by have:=h.sm.buf; omega) (by have:=h.sm.prs; omega) h.kd
def kR (kd:Int):Nat:=if kd=5 then 1 else 0
def kW (n:Nat) (kd:Int):Nat:=if kd=0∨kd=1∨kd=2∨kd=5 then 1 else if kd=6 then n else 0
end
theorem Zo8 {N B:Nat} (h:5≤N∧N≤65536∧1≤B∧B≤65536):Q59.f (N:Int) (B:Int)=some (some ((B:Int),List.replicate (N*B) 0,(0,0)),0):=by
 have hb:N*B≤65536*65536:=Nat.mul_le_mul h.2.1 h.2.2.2
 have e:w64 ((N:Int)*(B:Int))=((N*B:Nat):Int):=by rw [show (N:Int)*(B:Int)=((N*B:Nat):Int) by simp,Zz (by omega) (by omega)]
 unfold Q59.f Q60.f
 rw [if_pos (decide_eq_true (by omega)),if_pos (decide_eq_true (by omega)),if_pos (decide_eq_true (by omega)),Option.bind_some,if_neg (by simp; omega),e,if_pos (by omega),Int.toNat_natCast]
structure Geo (c:Cfg) (N B n:Nat):Prop where
 ok:okB c=true
 z:Siz N B n
 n8:8≤n
 N5:5≤N∧N≤65536
 hB:B≤65536
 eN:c.1=(N:Int)
 eB:c.2.1=(B:Int)
 en:c.2.2.1=(n:Int)
structure ShK (c:Cfg) (N B n t:Nat) (s:Shf) (L:List Nat) (q:Nat) (K:Nat→List Int) (h:Nat→Bool):Prop where
 cfg:s.1=c
 ca:CaI N B n t [] s.2.1 L
 by':(Z2 s.2.1 L).By
 cl:(Z2 s.2.1 L).Cl B
 ct:∀ j,j<N→(Z2 s.2.1 L).cont B j=K j
 bits:BR N s.2.2.1 h
 h0:h 0=true
 kp:s.2.2.2=(q:Int)
 qN:q<N
 pin:∀ j,(Z2 s.2.1 L).cnt j=if j=q∧q≠0 then 1 else 0
 rd:0≤s.2.1.1.2.2.1∧s.2.1.1.2.2.1≤t
 wr:0≤s.2.1.1.2.2.2∧s.2.1.1.2.2.2≤64*t
section
variable {c:Cfg} {N B n t q:Nat} {s:Shf} {L:List Nat} {K:Nat→List Int} {h:Nat→Bool}
theorem ShK.few (H:ShK c N B n t s L q K h) (ht:t≤900000):Few s.2.1:=⟨⟨H.rd.1,by have:=H.rd.2; omega⟩,⟨H.wr.1,by have:=H.wr.2; omega⟩⟩
theorem ShK.up (H:ShK c N B n t s L q K h) {t':Nat} (ht:t≤t'):ShK c N B n t' s L q K h:=⟨H.cfg,H.ca.mono ht,H.by',H.cl,H.ct,H.bits,H.h0,H.kp,H.qN,H.pin,⟨H.rd.1,by have:=H.rd.2; omega⟩,⟨H.wr.1,by have:=H.wr.2; omega⟩⟩
theorem Zgc (g:Geo c N B n) (ca:CaI N B n t [] s.2.1 L) (hp:∀ j,(Z2 s.2.1 L).cnt j=if j=q∧q≠0 then 1 else 0):∃ k,(Z2 s.2.1 L).room B n=some k:=by
 unfold MC.room
 by_cases hu:(Z2 s.2.1 L).used<n
 ·exact ⟨_,if_pos hu⟩
 ·rw [if_neg hu]
  have hlen:2≤s.2.1.2.2.1.length:=by
   have:=g.n8
   have e:(Z2 s.2.1 L).used=s.2.1.2.2.1.length:=rfl
   omega
  have hne:(Z2 s.2.1 L).row≠[]:=by
   have free:∀ i f:Nat,((i:Int),(f:Int))∈s.2.1.2.2.1→i≠q→(Z2 s.2.1 L).row≠[]:=fun i f hm hi e=>by
    have h1:=Wd ca hm
    have h2:=hp i
    rw [if_neg (fun z=>hi z.1)] at h2
    have h3:(Z2 s.2.1 L).fr i=some (fm (s.2.1.2.1.getD f default)):=h1
    rw [MC.cnt_at h3] at h2
    have:=(ca.mi.rfr i).2 ⟨_,h3,h2⟩
    rw [e] at this; cases this
   match hm:s.2.1.2.2.1,hlen with
   | a :: b :: r,_=>
    obtain ⟨i,f,ea,_⟩:=ca.mok a (by rw [hm]; simp)
    obtain ⟨j,f',eb,_⟩:=ca.mok b (by rw [hm]; simp)
    have hnd:=ca.mnd
    rw [hm,List.map_cons,List.map_cons,List.nodup_cons,List.mem_cons,ea,eb] at hnd
    by_cases q1:i=q
    ·refine free j f' (by rw [hm,eb]; simp) fun q2=>hnd.1 (.inl ?_)
     rw [q1,q2]
    ·exact free i f (by rw [hm,ea]; simp) q1
  cases e:(Z2 s.2.1 L).row.getLast? with
  | none=>exact absurd (List.getLast?_eq_none_iff.1 e) hne
  | some x=>exact ⟨_,rfl⟩
theorem MC.pin_ok {m:MC} {i:Nat} (hr:∃ k,m.room B n=some k) (hi:i<N):(m.pin N B n i).1=0:=by
 obtain ⟨k,hk⟩:=hr
 unfold MC.pin
 rw [if_neg (by omega)]
 cases m.fr i with
 | some x=>rfl
 | none=>rw [hk]
theorem MC.fresh_ok {m:MC} {i:Nat} (hr:∃ k,m.room B n=some k) (hi:i<N) (h0:m.cnt i=0):(m.fresh N B n i).1=0:=by
 obtain ⟨k,hk⟩:=hr
 unfold MC.fresh
 rw [if_neg (by omega)]
 cases e:m.fr i with
 | some x=>rw [MC.cnt_at e] at h0; dsimp only; rw [if_neg (by omega)]
 | none=>dsimp only; rw [hk]
theorem MC.write_ok {m:MC} {i:Nat} {b:TV} (h1:1≤m.cnt i) (hb:b.length=B):(m.write B i b).1=0:=by
 cases e:m.fr i with
 | none=>rw [MC.cnt_no e] at h1; omega
 | some x=>rw [MC.cnt_at e] at h1; rw [MC.write_hit e (by omega) hb]
theorem MC.read_ok {m:MC} {i:Nat} (h1:1≤m.cnt i):m.read i=(m.cont B i,0):=by
 cases e:m.fr i with
 | none=>rw [MC.cnt_no e] at h1; omega
 | some x=>rw [MC.cnt_at e] at h1; rw [MC.read_hit e (by omega),MC.cont_at e]
theorem ShK.there (g:Geo c N B n) (H:ShK c N B n t s L q K h) {i:Nat} (hi:i<4294967296):Q98.f s (i:Int)=some (if 1≤i∧i<N then 0 else 4):=by
 have e:=g.eN
 have hN:=g.N5
 unfold Q98.f
 rw [H.cfg,e]
 by_cases q0:i=0
 ·rw [if_pos (decide_eq_true (by omega)),if_neg (by omega)]
 ·have w1:w64 (i:Int)=(i:Int):=Zz (by omega) (by omega)
  rw [if_neg (by simp only [decide_eq_true_eq]; omega),w1]
  by_cases q1:N≤i
  ·rw [if_pos (decide_eq_true (by omega)),if_neg (by omega)]
  ·rw [if_neg (by simp only [decide_eq_true_eq]; omega),if_pos (by omega)]
theorem ShK.put (H:ShK c N B n t s L q K h) {c':Ca} {L':List Nat} {t' a b:Nat} {K':Nat→List Int} (hca:CaI N B n t' [] c' L') (hto:MC.To a b (Z2 s.2.1 L) (Z2 c' L')) (hcl:(Z2 c' L').Cl B) (hct:∀ j,j<N→(Z2 c' L').cont B j=K' j) (hpin:∀ j,(Z2 c' L').cnt j=if j=q∧q≠0 then 1 else 0) (ht:t+a≤t') (hb:b≤64*(t' - t)):ShK c N B n t' (s.1,c',s.2.2.1,s.2.2.2) L' q K' h:=
 ⟨H.cfg,hca,hto.by' H.by',hcl,hct,H.bits,H.h0,H.kp,H.qN,hpin,by
  have r1:=hto.rd
  have r2:=H.rd
  have e1:(Z2 s.2.1 L).rd=s.2.1.1.2.2.1:=rfl
  have e2:(Z2 c' L').rd=c'.1.2.2.1:=rfl
  show 0≤c'.1.2.2.1∧c'.1.2.2.1≤t'
  omega,by
  have r1:=hto.wr
  have r2:=H.wr
  have e1:(Z2 s.2.1 L).wr=s.2.1.1.2.2.2:=rfl
  have e2:(Z2 c' L').wr=c'.1.2.2.2:=rfl
  show 0≤c'.1.2.2.2∧c'.1.2.2.2≤64*t'
  omega⟩
def Vv (c:Cfg) (b:TV):Nd×Int:=Bw c (toS b)
theorem Zpl (g:Geo c N B n) (H:ShK c N B n t s L q K h) (ht:t≤800000) {i:Nat} (hi:i<4294967296):∃(s':Shf) (L':List Nat),Ev (fun k=>Q91.f k s (i:Int)) (if 1≤i∧i<N then ((Vv c (K i)).1,(Vv c (K i)).2,s') else (W5,4,s'))∧ShK c N B n (t+1) s' L' q K h∧MC.To 1 1 (Z2 s.2.1 L) (Z2 s'.2.1 L')∧(i=q→MC.To 0 0 (Z2 s.2.1 L) (Z2 s'.2.1 L')):=by
 have ht':=H.there g hi
 by_cases q1:1≤i∧i<N
 ·rw [if_pos q1] at ht'
  have hr:=Zgc g H.ca H.pin
  obtain ⟨c1,L1,e1,hc1,ha1⟩:=Zo5 g.z H.ca (H.few (by omega)) (by omega) i hi
  obtain ⟨f1,f0,f2⟩:=Pm.pin H.ca.mi H.by' i
  obtain ⟨cl1,ct1⟩:=Cl.pin H.ca.mi H.cl i
  have r0:=MC.pin_ok (i:=i) hr q1.2
  rw [← ha1] at f1 f0 f2 cl1 ct1
  have y1:=f1.by' H.by'
  have p1:1≤(Z2 c1 L1).cnt i:=by rw [f2,if_pos ⟨r0,rfl⟩]; omega
  obtain ⟨c3,L3,e3,hc3,ha3⟩:=Zcw g.z hc1 (by omega) i
  obtain ⟨u1,u2⟩:=Pm.unpin y1 i
  obtain ⟨cl3,ct3⟩:=Cl.unpin cl1 i
  rw [← ha3] at u1 u2 cl3 ct3
  have er:=Zqb g.z hc1 i
  rw [MC.read_ok (B:=B) p1,ct1 i q1.2,H.ct i q1.2] at er
  have hbK:Byt (K i)∧(K i).length=B:=by
   rw [← H.ct i q1.2,← ct1 i q1.2]
   cases ef:(Z2 c1 L1).fr i with
   | none=>rw [MC.cnt_no ef] at p1; omega
   | some x=>rw [MC.cont_at ef]; exact ⟨y1.fr i x ef,(hc1.mi.len i x ef).2.1⟩
  obtain ⟨k0,hk⟩:=Zqn (c:=c) (b:=toS (K i)) (by have:=hbK.2; have:=g.hB; rw [← Yb,Zcd hbK.1]; omega)
  refine ⟨(s.1,c3,s.2.2.1,s.2.2.2),L3,⟨k0,fun k kk=>?_⟩,H.put (a:=1) (b:=1) hc3 ((f1.trans u1).le (by omega) (by omega)) cl3 (fun j hj=>by rw [ct3,ct1 j hj,H.ct j hj]) (fun j=>?_) (by omega) (by omega),(f1.trans u1).le (by omega) (by omega),fun e=>?_⟩
  ·show Q91.f k s (i:Int)=_
   have hcfg:=H.cfg
   unfold Q91.f
   rw [ht',Option.bind_some,if_neg (by simp),e1,Option.bind_some,if_neg (by simpa using r0)]
   dsimp only
   rw [er,Option.bind_some,e3,Option.bind_some,if_neg (by simp),hcfg,if_pos q1]
   have:=hk k kk
   rw [Zcd hbK.1] at this
   rw [show Q38.f k c (K i)=_ from this,Option.bind_some]
   rfl
  ·rw [u2]
   by_cases e:j=i
   ·subst e
    rw [if_pos rfl,f2,if_pos ⟨r0,rfl⟩,Nat.add_sub_cancel,H.pin]
   ·rw [if_neg e,f2,if_neg (fun z=>e z.2),H.pin]
  ·subst e
   have:1≤(Z2 s.2.1 L).cnt i:=by rw [H.pin,if_pos ⟨rfl,by omega⟩]; omega
   exact ((f0 this).trans u1).le (by omega) (by omega)
 ·rw [if_neg q1] at ht'
  refine ⟨s,L,⟨0,fun k _=>?_⟩,H.up (by omega),(MC.To.refl _).le (by omega) (by omega),fun _=>MC.To.refl _⟩
  show Q91.f k s (i:Int)=_
  unfold Q91.f
  rw [ht',Option.bind_some,if_pos (by simp),if_neg q1]
  rfl
theorem Zoy (g:Geo c N B n) (H:ShK c N B n t s L q K h) (ht:t≤800000) {i:Nat} (hi:1≤i∧i<N) {b:TV} (hb:Byt b) (hl:b.length=B):∃ s' L',Q96.f s (i:Int) b=some (0,s')∧ShK c N B n (t+1) s' L' q (upd K i b) h∧MC.To 0 1 (Z2 s.2.1 L) (Z2 s'.2.1 L'):=by
 have hr:=Zgc g H.ca H.pin
 have hN:=g.N5
 unfold Q96.f
 rw [H.kp]
 by_cases qi:i=q
 ·obtain ⟨c',L',e,hc,ha⟩:=Zkf g.z H.ca i b
  obtain ⟨t1,t2⟩:=Pm.write (m:=Z2 s.2.1 L) (B:=B) i hb
  obtain ⟨cl1,_,ct1⟩:=Cl.write H.ca.mi H.cl i b
  have w0:((Z2 s.2.1 L).write B i b).1=0:=MC.write_ok (by rw [H.pin,if_pos ⟨qi,by omega⟩]; omega) hl
  rw [← ha] at t1 t2 cl1 ct1
  rw [if_pos (decide_eq_true (by omega)),e,Option.bind_some,w0]
  refine ⟨_,L',rfl,?_,t1.le (by omega) (by omega)⟩
  have:=H.put (a:=0) (b:=0) (t':=t+1) (K':=upd K i b) (hc.mono (by omega)) t1 cl1 (fun j hj=>by
   rw [ct1 j]
   by_cases e:j=i
   ·subst e; rw [if_pos ⟨w0,rfl⟩,Ye]
   ·rw [if_neg (fun z=>e z.2),Yg e,H.ct j hj]) (fun j=>by rw [t2,H.pin]) (by omega) (by omega)
  rw [H.kp] at this
  exact this
 ·obtain ⟨c1,L1,e1,hc1,ha1⟩:=Zog g.z H.ca (H.few (by omega)) (by omega) i (by omega)
  obtain ⟨f1,f2⟩:=Pm.fresh H.ca.mi H.by' i
  obtain ⟨cl1,_,ct1⟩:=Cl.fresh H.ca.mi H.cl i
  have r0:((Z2 s.2.1 L).fresh N B n i).1=0:=MC.fresh_ok hr hi.2 (by rw [H.pin,if_neg (fun z=>qi z.1)])
  rw [← ha1] at f1 f2 cl1 ct1
  have y1:=f1.by' H.by'
  obtain ⟨c2,L2,e2,hc2,ha2⟩:=Zkf g.z hc1 i b
  obtain ⟨t1,t2⟩:=Pm.write (m:=Z2 c1 L1) (B:=B) i hb
  obtain ⟨cl2,_,ct2⟩:=Cl.write hc1.mi cl1 i b
  have w0:((Z2 c1 L1).write B i b).1=0:=MC.write_ok (by rw [f2,if_pos ⟨r0,rfl⟩]; omega) hl
  rw [← ha2] at t1 t2 cl2 ct2
  have y2:=t1.by' y1
  obtain ⟨c3,L3,e3,hc3,ha3⟩:=Zcw g.z hc2 (by omega) i
  obtain ⟨u1,u2⟩:=Pm.unpin y2 i
  obtain ⟨cl3,ct3⟩:=Cl.unpin cl2 i
  rw [← ha3] at u1 u2 cl3 ct3
  rw [if_neg (by simp only [decide_eq_true_eq]; omega),e1,Option.bind_some,if_neg (by simpa using r0)]
  dsimp only
  rw [e2,Option.bind_some]
  dsimp only
  rw [e3,Option.bind_some,w0]
  refine ⟨_,L3,rfl,?_,((f1.trans t1).trans u1).le (by omega) (by omega)⟩
  have:=H.put (a:=0) (b:=1) (t':=t+1) (K':=upd K i b) hc3 (((f1.trans t1).trans u1).le (by omega) (by omega)) cl3 (fun j hj=>by
   rw [ct3,ct2 j]
   by_cases e:j=i
   ·subst e; rw [if_pos ⟨w0,rfl⟩,Ye]
   ·rw [if_neg (fun z=>e z.2),Yg e,ct1 j hj,if_neg (fun z=>e z.2),H.ct j hj]) (fun j=>by
   rw [u2]
   by_cases e:j=i
   ·subst e; rw [if_pos rfl,t2,f2,if_pos ⟨r0,rfl⟩,Nat.add_sub_cancel,H.pin]
   ·rw [if_neg e,t2,f2,if_neg (fun z=>e z.2),H.pin]) (by omega) (by omega)
  rw [H.kp] at this
  exact this
def Wk (c:Cfg) (nd:Nd):List Int:=toB (Ui c nd)
theorem Zib {c:Cfg} {nd:Nd} (hn:EncN nd) (g:Geo c N B n) (hr:Y9 c Wg nd=true):Byt (Wk c nd)∧(Wk c nd).length=B:=by
 have hf:=Gl (Zbe g.ok) hn.kd hr
 refine ⟨fun x hx=>?_,?_⟩
 ·unfold Wk toB at hx
  obtain ⟨y,_,rfl⟩:=List.mem_map.1 hx
  have:=y.toNat_lt
  omega
 ·unfold Wk
  rw [Yb,Zd3 g.ok hf]
  have:=(Zbj g.ok hf).2.2
  have:=g.eB
  omega
theorem Zjy {c:Cfg} {nd:Nd} (hok:okB c=true) (hl:∀ x∈nd.2.1,0≤x∧x<4294967296) (hr:Y9 c Wg nd=true):Vv c (Wk c nd)=(nd,0):=by
 unfold Vv Wk
 rw [Zba]
 exact Zms hok hl hr
theorem Zpn (g:Geo c N B n) (H:ShK c N B n t s L q K h) (ht:t≤800000) {i:Nat} (hi:i<4294967296) {nd:Nd} (hn:EncN nd):∃ s' L',Ev (fun k=>Q94.f k s (i:Int) nd) (if 1≤i∧i<N then (if Y9 c Wg nd=true then 0 else 3) else 4,s')∧ShK c N B n (t+1) s' L' q (if (1≤i∧i<N)∧Y9 c Wg nd=true then upd K i (Wk c nd) else K) h∧MC.To 0 1 (Z2 s.2.1 L) (Z2 s'.2.1 L'):=by
 have ht':=H.there g hi
 obtain ⟨k0,hk'⟩:=hn.ev c
 have hk:∀ k,k0≤k→Q39.f k s.1 nd=some (Uj c nd):=fun k kk=>by rw [H.cfg]; exact hk' k kk
 by_cases q1:1≤i∧i<N
 ·rw [if_pos q1] at ht' ⊢
  cases hr:Y9 c Wg nd with
  | true=>
   obtain ⟨b1,b2⟩:=Zib hn g hr
   obtain ⟨s',L',e,H',to⟩:=Zoy g H ht q1 b1 b2
   rw [if_pos rfl,if_pos ⟨q1,rfl⟩]
   refine ⟨s',L',⟨k0,fun k kk=>?_⟩,H',to⟩
   show Q94.f k s (i:Int) nd=_
   have ee:Uj c nd=(Wk c nd,0):=by unfold Uj Wk; rw [if_pos g.ok,if_pos hr]
   unfold Q94.f
   rw [ht',Option.bind_some,if_neg (by simp),hk k kk,Option.bind_some,ee,if_neg (by simp),e,Option.bind_some]
  | false=>
   rw [if_neg (by simp),if_neg (by simp)]
   refine ⟨s,L,⟨k0,fun k kk=>?_⟩,H.up (by omega),(MC.To.refl _).le (by omega) (by omega)⟩
   show Q94.f k s (i:Int) nd=_
   have ee:Uj c nd=([],3):=by unfold Uj; rw [if_pos g.ok,hr,if_neg (by simp)]
   unfold Q94.f
   rw [ht',Option.bind_some,if_neg (by simp),hk k kk,Option.bind_some,ee,if_pos (by simp)]
 ·rw [if_neg q1] at ht' ⊢
  rw [if_neg (fun z=>q1 z.1)]
  refine ⟨s,L,⟨k0,fun k kk=>?_⟩,H.up (by omega),(MC.To.refl _).le (by omega) (by omega)⟩
  show Q94.f k s (i:Int) nd=_
  unfold Q94.f
  rw [ht',Option.bind_some,if_pos (by simp)]
end
theorem Zfo {i:Nat} (h:i<4294967296):IntKind.u32.wrap (i:Int)=(i:Int):=by
 have:(i:Int) % 4294967296=(i:Int):=Int.emod_eq_of_lt (by omega) (by omega)
 simp [IntKind.wrap,IntKind.bits,IntKind.signed,this]
section
variable {c:Cfg} {N B n t q:Nat} {s:Shf} {L:List Nat} {K:Nat→List Int} {h:Nat→Bool} {p:Bt}
def Ud (N:Nat) (h:Nat→Bool):Nat:=N - ((List.range N).filter h).length
theorem Zm5 (b:BR N p h):Q75.f p=some ((Ud N h:Nat):Int):=by
 have hN:=b.N1
 have hc:=Zhe b
 unfold Q75.f Q82.f Q7.f Q4.f Ud
 rw [Option.bind_some,if_neg (by simp),Option.bind_some,Option.bind_some,b.n,b.cnt,Zz (by omega) (by omega)]
 congr 1
 omega
theorem Js (h:Nat→Bool):Ud N h=0↔∀ i,i<N→h i=true:=by
 unfold Ud
 constructor
 ·intro e i hi
  have hle:((List.range N).filter h).length≤N:=by have:=List.length_filter_le h (List.range N); rwa [List.length_range] at this
  have:((List.range N).filter h).length=(List.range N).length:=by rw [List.length_range]; omega
  exact List.length_filter_eq_length_iff.1 this i (List.mem_range.2 hi)
 ·intro e
  rw [List.filter_eq_self.2 fun x hx=>e x (List.mem_range.1 hx),List.length_range,Nat.sub_self]
theorem Zqd (b:BR N p h):(Ud N h=0∧∀ k,3000<k→Q81.f k p=some (0,11,p))∨∃(i:Nat) (p':Bt),i<N∧h i=false∧(∀ j,j<i→h j=true)∧(∀ k,3000<k→Q81.f k p=some ((i:Int),0,p'))∧BR N p' (upd h i true):=by
 have hN:=b.N1
 have eF:=Zm5 b
 by_cases qz:Ud N h=0
 ·refine .inl ⟨qz,fun k hk=>?_⟩
  unfold Q81.f Q77.f
  rw [Q82.f,Option.bind_some,if_neg (by simp),if_neg (by simp),eF,Option.bind_some,if_pos (decide_eq_true (by omega)),Option.bind_some,if_pos (by simp)]
 ·have hfree:∃ i,i<N∧h i=false:=by
   apply Classical.byContradiction
   intro hn
   refine qz ((Js h).2 fun i hi=>?_)
   cases hh:h i with
   | true=>rfl
   | false=>exact absurd ⟨i,hi,hh⟩ hn
  obtain ⟨i,_,hiN,hif,hil⟩:=b.free (k:=3001) (by omega) hfree
  obtain ⟨p',es,b'⟩:=b.set (i:=i) (by omega)
  rw [if_neg (by omega)] at b'
  refine .inr ⟨i,p',hiN,hif,hil,fun k hk=>?_,b'⟩
  obtain ⟨k2,rfl⟩:∃ k2,k=k2+2:=⟨k - 2,by omega⟩
  obtain ⟨i2,ei,hi2N,hi2f,hi2l⟩:=b.free (k:=k2+1) (by omega) hfree
  have:i2=i:=by
   rcases Nat.lt_trichotomy i2 i with z | z | z
   ·rw [hil _ z] at hi2f; cases hi2f
   ·exact z
   ·rw [hi2l _ z] at hif; cases hif
  subst this
  unfold Q81.f Q77.f
  rw [Q82.f,Option.bind_some,if_neg (by simp),if_neg (by simp),eF,Option.bind_some,if_neg (by simp only [decide_eq_true_eq]; omega),Q77.l0,if_pos (by decide),show Q5.f (k2+1) (p.1,p.2.1,p.2.2) 0=_ from ei,Option.bind_some]
  dsimp only
  rw [show Q9.f (p.1,p.2.1,p.2.2) (i2:Int)=_ from es,Option.bind_some,if_pos (by simp),Q77.l0,if_neg (by decide),Option.bind_some]
  dsimp only
  rw [if_neg (by simp),if_pos (by simp),List.nil_append,show gt [IntKind.u32.wrap (i2:Int)] 0=IntKind.u32.wrap (i2:Int) from rfl,Zfo (by omega)]
theorem Zp8 (b:BR N p h) {i:Nat} (h0:1≤i) (hi:i<N):∃ p',Q76.f p (i:Int)=some (if h i=true then 0 else 9,p')∧BR N p' (upd h i false):=by
 have hN:=b.N1
 unfold Q76.f Q82.f
 obtain ⟨p',e,b'⟩:=b.clear (i:=i) (by omega)
 rw [if_neg (by omega)] at e b'
 rw [Option.bind_some,if_neg (by simp),if_neg (by simp only [decide_eq_true_eq]; omega),Zz (by omega) (by omega),e,Option.bind_some]
 exact ⟨_,rfl,b'⟩
theorem Zp4 (b:BR N p h) {i:Nat} (hi:i<N):∃ p',Q79.f p (i:Int)=some (if h i=true then 10 else 0,p')∧BR N p' (upd h i true):=by
 have hN:=b.N1
 unfold Q79.f Q82.f
 obtain ⟨p',e,b'⟩:=b.set (i:=i) (by omega)
 rw [if_neg (by omega)] at e b'
 rw [Option.bind_some,if_neg (by simp),Zz (by omega) (by omega),e,Option.bind_some]
 exact ⟨_,rfl,b'⟩
theorem Zqg (b:BR N p h) {i:Nat} (hi:i<4294967296):Q78.f p (i:Int)=some (decide (i<N) && h i):=by
 unfold Q78.f Q82.f
 rw [Option.bind_some,if_pos (by simp),Zz (by omega) (by omega),b.has hi,Option.bind_some]
def Bh (N:Nat) (h:Nat→Bool):List Int:=((List.range N).filter h).map fun(i:Nat)=>(i:Int)
theorem Zc5 (b:BR N p h) {i:Nat} (hi:i<4294967296) {k:Nat} (hk:2000<k):(Q8.f k p (i:Int)=some (0,false)∧∀ j,i≤j→j<N→h j=false)∨∃ j:Nat,Q8.f k p (i:Int)=some ((j:Int),true)∧i≤j∧j<N∧h j=true∧∀ x,i≤x→x<j→h x=false:=by
 have hN:=b.N1
 unfold Q8.f Q7.f Q12.f
 rw [Option.bind_some,b.n]
 by_cases q0:N≤i
 ·rw [if_pos (decide_eq_true (by omega))]; exact .inl ⟨rfl,fun j h1 h2=>by omega⟩
 ·rw [if_neg (by simp only [decide_eq_true_eq]; omega)]
  have hs:=Zm8 b false (fr:=i) hi hk
  rw [if_neg (by simp)] at hs
  rcases hs with ⟨j,e,g1,g2,g3,g4⟩ | ⟨e,g⟩
  ·have hj:j<N∧h j=true:=by unfold Wf at g3; simpa using g3
   rw [e,Option.bind_some]
   refine .inr ⟨j,by simp [hj.1],g1,hj.1,hj.2,fun x h1 h2=>?_⟩
   have:=g4 x h1 h2
   unfold Wf at this
   simp at this
   exact this (by omega)
  ·rw [e,Option.bind_some]
   refine .inl ⟨by simp,fun j h1 h2=>?_⟩
   have hl:=b.len
   have:=g j h1 (by omega)
   unfold Wf at this
   simp at this
   exact this h2
theorem Zhy {a:Nat}:∀ {m j:Nat},(∀ x,a≤x→x<j→h x=false)→a≤j→j≤m→((List.range' a (m - a)).filter h)=(List.range' j (m - j)).filter h:=by
 intro m j hx haj hjm
 have:List.range' a (m - a)=List.range' a (j - a) ++ List.range' j (m - j):=by
  rw [show m - a=(j - a)+(m - j) by omega,← List.range'_append_1,show a+(j - a)=j by omega]
 rw [this,List.filter_append,List.filter_eq_nil_iff.2 (fun x hx'=>?_),List.nil_append]
 have:=List.mem_range'_1.1 hx'
 rw [hx x this.1 (by omega)]; simp
theorem Zkh (b:BR N p h):∀(m:Nat) (i:Nat) (acc:TV) (k:Nat),N - i≤m→i≤N→acc.length≤i→3000+m<k→((Q8.f (k - 1) p (i:Int)).bind fun r=>Q80.l0 k p acc r.1 r.2)=some (acc ++ (((List.range' i (N - i)).filter h).map fun(i:Nat)=>(i:Int)))
 | m,i,acc,k,hm,hi,hacc,hk=>by
  have hN:=b.N1
  obtain ⟨k,rfl⟩:∃ k2,k=k2+1:=⟨k - 1,by omega⟩
  rcases Zc5 b (i:=i) (by omega) (k:=k) (by omega) with ⟨e,g⟩ | ⟨j,e,g1,g2,g3,g4⟩
  ·rw [Nat.add_sub_cancel,e,Option.bind_some,Q80.l0,if_neg (by simp),List.filter_eq_nil_iff.2 (fun x hx=>by
    have:=List.mem_range'_1.1 hx
    rw [g x this.1 (by omega)]; simp)]
   simp
  ·rw [Nat.add_sub_cancel,e,Option.bind_some,Q80.l0,if_pos rfl,if_pos (by simp; omega),Zfo (by omega)]
   cases m with
   | zero=>omega
   | succ m=>
    have ih:=Zkh b m (j+1) (acc ++ [(j:Int)]) k (by omega) (by omega) (by simp; omega) (by omega)
    obtain ⟨k,rfl⟩:∃ k2,k=k2+1:=⟨k - 1,by omega⟩
    rw [Nat.add_sub_cancel] at ih
    have hn2:Q8.f (k+1) p (w64 ((j:Int)+1))=Q8.f k p ((j+1:Nat):Int):=by
     rw [Ya (by omega)]
     rcases Zc5 b (i:=j+1) (by omega) (k:=k) (by omega) with ⟨e1,f1⟩ | ⟨x,e1,f1,f2,f3,f4⟩ <;> rcases Zc5 b (i:=j+1) (by omega) (k:=k+1) (by omega) with ⟨e2,f5⟩ | ⟨y,e2,f6,f7,f8,f9⟩
     ·rw [e1,e2]
     ·rw [f1 y f6 f7] at f8; cases f8
     ·rw [f5 x f1 f2] at f3; cases f3
     ·have:x=y:=by
       rcases Nat.lt_trichotomy x y with z | z | z
       ·rw [f9 x f1 z] at f3; cases f3
       ·exact z
       ·rw [f4 y f6 z] at f8; cases f8
      rw [e1,e2,this]
    rw [hn2,ih,Zhy g4 g1 (by omega),show N - j=(N - (j+1))+1 by omega,List.range'_succ,List.filter_cons,if_pos g3]
    simp
theorem Zqs (b:BR N p h) {k:Nat} (hk:3001+N<k):Q80.f k p=some (Bh N h):=by
 unfold Q80.f Q82.f Bh
 rw [Option.bind_some,if_neg (by simp)]
 have:=Zkh b N 0 [] k (by omega) (by omega) (by simp) (by omega)
 rw [List.nil_append,Nat.sub_zero,← List.range_eq_range'] at this
 have hn2:Q8.f k p 0=Q8.f (k - 1) p ((0:Nat):Int):=by
  rcases Zc5 b (i:=0) (by omega) (k:=k - 1) (by omega) with ⟨e1,f1⟩ | ⟨x,e1,f1,f2,f3,f4⟩ <;> rcases Zc5 b (i:=0) (by omega) (k:=k) (by omega) with ⟨e2,f5⟩ | ⟨y,e2,f6,f7,f8,f9⟩
  ·rw [e1]; exact e2
  ·rw [f1 y f6 f7] at f8; cases f8
  ·rw [f5 x f1 f2] at f3; cases f3
  ·have:x=y:=by
    rcases Nat.lt_trichotomy x y with z | z | z
    ·rw [f9 x f1 z] at f3; cases f3
    ·exact z
    ·rw [f4 y f6 z] at f8; cases f8
   rw [e1,this]; exact e2
 rw [hn2]; exact this
theorem ShK.pool (H:ShK c N B n t s L q K h) {p':Bt} {h':Nat→Bool} (b:BR N p' h') (h0:h' 0=true):ShK c N B n t (s.1,s.2.1,p',s.2.2.2) L q K h':=⟨H.cfg,H.ca,H.by',H.cl,H.ct,b,h0,H.kp,H.qN,H.pin,H.rd,H.wr⟩
theorem Zps (g:Geo c N B n) (H:ShK c N B n t s L q K h) (ht:t≤800000) {nd:Nd} (hn:EncN nd) :
  (Y9 c Wg nd=false∧Ev (fun k=>Q92.f k s nd) (0,3,s))∨(Y9 c Wg nd=true∧Ud N h=0∧Ev (fun k=>Q92.f k s nd) (0,11,s))∨
  (Y9 c Wg nd=true∧∃(i:Nat) (s':Shf) (L':List Nat),1≤i∧i<N∧h i=false∧(∀ j,j<i→h j=true)∧Ev (fun k=>Q92.f k s nd) ((i:Int),0,s')∧ShK c N B n (t+1) s' L' q (upd K i (Wk c nd)) (upd h i true)∧MC.To 0 1 (Z2 s.2.1 L) (Z2 s'.2.1 L')):=by
 obtain ⟨k0,hk'⟩:=hn.ev c
 have hk:∀ k,k0≤k→Q39.f k s.1 nd=some (Uj c nd):=fun k kk=>by rw [H.cfg]; exact hk' k kk
 cases hr:Y9 c Wg nd with
 | false=>
  refine .inl ⟨rfl,k0,fun k kk=>?_⟩
  show Q92.f k s nd=_
  have ee:Uj c nd=([],3):=by unfold Uj; rw [if_pos g.ok,hr,if_neg (by simp)]
  unfold Q92.f Q97.f
  rw [Option.bind_some,if_neg (by simp),hk k kk,Option.bind_some,ee,if_pos (by simp)]
 | true=>
  have ee:Uj c nd=(Wk c nd,0):=by unfold Uj Wk; rw [if_pos g.ok,if_pos hr]
  rcases Zqd H.bits with ⟨z0,e⟩ | ⟨i,p',hiN,hif,hil,e,b'⟩
  ·refine .inr (.inl ⟨rfl,z0,k0+3001,fun k kk=>?_⟩)
   show Q92.f k s nd=_
   unfold Q92.f Q97.f
   rw [Option.bind_some,if_neg (by simp),hk k (by omega),Option.bind_some,ee,if_neg (by simp),e k (by omega),Option.bind_some,if_pos (by simp)]
  ·have hi1:1≤i:=by
    apply Nat.one_le_iff_ne_zero.2
    intro e0
    rw [e0,H.h0] at hif; cases hif
   have H1:=H.pool b' (by rw [Yg (by omega)]; exact H.h0)
   obtain ⟨b1,b2⟩:=Zib hn g hr
   obtain ⟨s',L',el,H',to⟩:=Zoy g H1 ht ⟨hi1,hiN⟩ b1 b2
   refine .inr (.inr ⟨rfl,i,s',L',hi1,hiN,hif,hil,⟨k0+3001,fun k kk=>?_⟩,H',to⟩)
   show Q92.f k s nd=_
   unfold Q92.f Q97.f
   rw [Option.bind_some,if_neg (by simp),hk k (by omega),Option.bind_some,ee,if_neg (by simp),e k (by omega),Option.bind_some,if_neg (by simp)]
   dsimp only
   rw [el,Option.bind_some,if_neg (by simp)]
theorem Zp2 (g:Geo c N B n) (H:ShK c N B n t s L q K h) (ht:t≤800000) {i:Nat} (hi:i<4294967296) :
  ∃(s':Shf) (L':List Nat) (K':Nat→List Int),Q86.f s (i:Int)=some (if 1≤i∧i<N then (if i=q then 8 else if h i=true then 0 else 9) else 4,s')∧ShK c N B n (t+1) s' L' q K' (if (1≤i∧i<N)∧i≠q then upd h i false else h)∧(∀ j,j≠i→K' j=K j)∧(¬ ((1≤i∧i<N)∧i≠q∧h i=true)→K'=K)∧MC.To 0 0 (Z2 s.2.1 L) (Z2 s'.2.1 L'):=by
 have ht':=H.there g hi
 unfold Q86.f
 by_cases q1:1≤i∧i<N
 ·rw [if_pos q1] at ht'
  rw [ht',Option.bind_some,if_neg (by simp),H.kp,if_pos q1]
  by_cases q2:i=q
  ·rw [if_pos (decide_eq_true (by omega)),if_pos q2,if_neg (fun z=>z.2 q2)]
   exact ⟨s,L,K,rfl,H.up (by omega),fun _ _=>rfl,fun _=>rfl,MC.To.refl _⟩
  ·obtain ⟨p',e,b'⟩:=Zp8 H.bits q1.1 q1.2
   have H1:=H.pool b' (by rw [Yg (by omega)]; exact H.h0)
   rw [if_neg (by simp only [decide_eq_true_eq]; omega),e,Option.bind_some,if_neg q2,if_pos (show (1≤i∧i<N)∧i≠q from ⟨q1,q2⟩)]
   by_cases hh:h i=true
   ·obtain ⟨c',L',ed,hc,ha⟩:=Zpv g.z H.ca i
    obtain ⟨t1,t2⟩:=Pm.drop (m:=Z2 s.2.1 L) i
    have d0:((Z2 s.2.1 L).drop i).1=0∧((Z2 s.2.1 L).drop i).2.Cl B∧∀ j,j≠i→((Z2 s.2.1 L).drop i).2.cont B j=(Z2 s.2.1 L).cont B j:=by
     have hp:=H.pin i
     rw [if_neg (fun z=>q2 z.1)] at hp
     cases ef:(Z2 s.2.1 L).fr i with
     | none=>rw [MC.drop_no ef]; exact ⟨rfl,H.cl,fun _ _=>rfl⟩
     | some x=>
      rw [MC.cnt_at ef] at hp
      rw [MC.drop_hit ef (by omega)]
      refine ⟨rfl,fun j y hy hd=>?_,fun j hj=>?_⟩
      ·dsimp only at hy
       by_cases e:j=i
       ·subst e; rw [Ye] at hy; cases hy
       ·rw [Yg e] at hy; exact H.cl j y hy hd
      ·unfold MC.cont
       dsimp only
       rw [Yg hj]
    have d2:=d0.2
    rw [← ha] at t1 t2 d2
    rw [if_pos hh]
    dsimp only
    rw [if_neg (by simp),ed,Option.bind_some,d0.1]
    have H2:=H1.put (a:=0) (b:=0) (t':=t+1) (K':=upd K i ((Z2 c' L').cont B i)) (hc.mono (by omega)) t1 d2.1 (fun j hj=>by
     by_cases e:j=i
     ·subst e; rw [Ye]
     ·rw [Yg e,d2.2 j e,H.ct j hj]) (fun j=>by rw [t2,H.pin]) (by omega) (by omega)
    dsimp only at H2
    rw [H.kp] at H2
    exact ⟨_,L',_,rfl,H2,fun j hj=>Yg hj,fun z=>absurd ⟨q1,q2,hh⟩ z,t1⟩
   ·rw [if_neg hh]
    dsimp only
    rw [if_pos (by simp)]
    have H2:=H1.up (t':=t+1) (by omega)
    rw [H.kp] at H2
    exact ⟨_,L,K,rfl,H2,fun _ _=>rfl,fun _=>rfl,MC.To.refl _⟩
 ·rw [if_neg q1] at ht'
  rw [ht',Option.bind_some,if_pos (by simp),if_neg q1,if_neg (fun z=>q1 z.1)]
  exact ⟨s,L,K,rfl,H.up (by omega),fun _ _=>rfl,fun _=>rfl,MC.To.refl _⟩
end
section
variable {c:Cfg} {N B n t q:Nat} {s:Shf} {L:List Nat} {K:Nat→List Int} {h:Nat→Bool} {p:Bt}
theorem Zpo (g:Geo c N B n) (H:ShK c N B n t s L q K h) {i:Nat} (hi:i<4294967296) :
  ∃ s',Q93.f s (i:Int)=some (if 1≤i∧i<N then (if h i=true then 10 else 0) else 4,s')∧ShK c N B n t s' L q K (if 1≤i∧i<N then upd h i true else h)∧Z2 s'.2.1 L=Z2 s.2.1 L:=by
 have ht':=H.there g hi
 unfold Q93.f
 by_cases q1:1≤i∧i<N
 ·rw [if_pos q1] at ht'
  obtain ⟨p',e,b'⟩:=Zp4 H.bits q1.2
  have H1:=H.pool b' (by rw [Yg (by omega)]; exact H.h0)
  rw [ht',Option.bind_some,if_neg (by simp),e,Option.bind_some,if_pos q1,if_pos q1]
  exact ⟨_,rfl,H1,rfl⟩
 ·rw [if_neg q1] at ht'
  rw [ht',Option.bind_some,if_pos (by simp),if_neg q1,if_neg q1]
  exact ⟨_,rfl,H,rfl⟩
theorem Gn (g:Geo c N B n) (H:ShK c N B n t s L q K h) (ht:t≤800000) {i:Nat} (hi:i<4294967296) :
  ∃(s':Shf) (L':List Nat),Q89.f s (i:Int)=some (if i<N then 0 else 4,s')∧ShK c N B n (t+1) s' L' (if i<N then i else q) K h∧MC.To 1 1 (Z2 s.2.1 L) (Z2 s'.2.1 L')∧(i=q→MC.To 0 0 (Z2 s.2.1 L) (Z2 s'.2.1 L')):=by
 have ht':=H.there g hi
 have hN:=g.N5
 have fin:∀(c':Ca) (L':List Nat),CaI N B n (t+1) [] c' L'→MC.To 1 1 (Z2 s.2.1 L) (Z2 c' L')→(Z2 c' L').Cl B→(∀ j,j<N→(Z2 c' L').cont B j=K j)→i<N→(∀ j,(Z2 c' L').cnt j=if j=i∧i≠0 then 1 else 0)→ShK c N B n (t+1) (s.1,c',s.2.2.1,(i:Int)) L' i K h:=fun c' L' hca hto hcl hct hiN hpin=>⟨H.cfg,hca,hto.by' H.by',hcl,hct,H.bits,H.h0,rfl,hiN,hpin,by
  have r1:=hto.rd
  have r2:=H.rd
  have e1:(Z2 s.2.1 L).rd=s.2.1.1.2.2.1:=rfl
  have e2:(Z2 c' L').rd=c'.1.2.2.1:=rfl
  show 0≤c'.1.2.2.1∧c'.1.2.2.1≤_
  omega,by
  have r1:=hto.wr
  have r2:=H.wr
  have e1:(Z2 s.2.1 L).wr=s.2.1.1.2.2.2:=rfl
  have e2:(Z2 c' L').wr=c'.1.2.2.2:=rfl
  show 0≤c'.1.2.2.2∧c'.1.2.2.2≤_
  omega⟩
 unfold Q89.f Q97.f
 rw [H.kp]
 by_cases q2:i=q
 ·have hiN:i<N:=by rw [q2]; exact H.qN
  rw [if_pos hiN,if_pos hiN]
  have same:ShK c N B n (t+1) s L i K h:=by rw [q2]; exact H.up (by omega)
  by_cases q0:i=0
  ·rw [if_neg (by simp [q0]),Option.bind_some,if_neg (by simp),if_pos (decide_eq_true (by omega))]
   exact ⟨s,L,rfl,same,(MC.To.refl _).le (by omega) (by omega),fun _=>MC.To.refl _⟩
  ·rw [if_pos (show 1≤i∧i<N from ⟨by omega,hiN⟩)] at ht'
   rw [if_pos (by simp; omega),ht',Option.bind_some,if_neg (by simp),Option.bind_some,if_neg (by simp),if_pos (decide_eq_true (by omega))]
   exact ⟨s,L,rfl,same,(MC.To.refl _).le (by omega) (by omega),fun _=>MC.To.refl _⟩
 ·by_cases q0:i=0
  ·obtain ⟨c3,L3,e3,hc3,ha3⟩:=Zcw g.z H.ca (by omega) q
   obtain ⟨u1,u2⟩:=Pm.unpin H.by' q
   obtain ⟨cl3,ct3⟩:=Cl.unpin H.cl q
   rw [← ha3] at u1 u2 cl3 ct3
   rw [if_neg (by simp [q0]),Option.bind_some,if_neg (by simp),if_neg (by simp only [decide_eq_true_eq]; omega),if_pos (by simp; omega),e3,Option.bind_some,if_pos (show i<N by omega),if_pos (show i<N by omega)]
   refine ⟨_,L3,rfl,fin c3 L3 (hc3.mono (by omega)) (u1.le (by omega) (by omega)) cl3 (fun j hj=>by rw [ct3,H.ct j hj]) (by omega) (fun j=>?_),u1.le (by omega) (by omega),fun e=>absurd e q2⟩
   rw [show (if j=i∧i≠0 then 1 else 0:Nat)=0 from if_neg (fun z=>z.2 q0),u2]
   by_cases e:j=q
   ·rw [if_pos e,H.pin]; split <;> rfl
   ·rw [if_neg e,H.pin,if_neg (fun z=>e z.1)]
  ·by_cases q1:i<N
   ·rw [if_pos (show 1≤i∧i<N from ⟨by omega,q1⟩)] at ht'
    obtain ⟨c1,L1,e1,hc1,ha1⟩:=Zo5 g.z H.ca (H.few (by omega)) (by omega) i hi
    obtain ⟨f1,_,f2⟩:=Pm.pin H.ca.mi H.by' i
    obtain ⟨cl1,ct1⟩:=Cl.pin H.ca.mi H.cl i
    have r0:=MC.pin_ok (i:=i) (Zgc g H.ca H.pin) q1
    rw [← ha1] at f1 f2 cl1 ct1
    have y1:=f1.by' H.by'
    rw [if_pos (by simp; omega),ht',Option.bind_some,if_neg (by simp),Option.bind_some,if_neg (by simp),if_neg (by simp only [decide_eq_true_eq]; omega),e1,Option.bind_some,if_neg (by simpa using r0),if_pos q1,if_pos q1]
    have pi:(Z2 s.2.1 L).cnt i=0:=by rw [H.pin,if_neg (fun z=>q2 z.1)]
    by_cases qk:q=0
    ·rw [if_neg (by simp [qk])]
     refine ⟨_,L1,rfl,fin c1 L1 hc1 f1 cl1 (fun j hj=>by rw [ct1 j hj,H.ct j hj]) q1 (fun j=>?_),f1,fun e=>absurd e q2⟩
     rw [f2]
     by_cases e:j=i
     ·rw [if_pos ⟨r0,e⟩,pi,if_pos ⟨e,q0⟩]
     ·rw [if_neg (fun z=>e z.2),H.pin,if_neg (fun z=>z.2 qk),if_neg (fun z=>e z.1)]
    ·obtain ⟨c3,L3,e3,hc3,ha3⟩:=Zcw g.z hc1 (by omega) q
     obtain ⟨u1,u2⟩:=Pm.unpin y1 q
     obtain ⟨cl3,ct3⟩:=Cl.unpin cl1 q
     rw [← ha3] at u1 u2 cl3 ct3
     rw [if_pos (by simp; omega)]
     dsimp only
     rw [e3,Option.bind_some]
     have tt:=(f1.trans u1).le (a':=1) (b':=1) (by omega) (by omega)
     refine ⟨_,L3,rfl,fin c3 L3 hc3 tt cl3 (fun j hj=>by rw [ct3,ct1 j hj,H.ct j hj]) q1 (fun j=>?_),tt,fun e=>absurd e q2⟩
     rw [u2]
     by_cases e:j=q
     ·rw [if_pos e,show (if j=i∧i≠0 then 1 else 0:Nat)=0 from if_neg (fun z=>q2 (z.1.symm.trans e)),f2,if_neg (fun z=>q2 z.2.symm),H.pin,if_pos ⟨rfl,qk⟩]
     ·rw [if_neg e,f2]
      by_cases e':j=i
      ·rw [if_pos ⟨r0,e'⟩,pi,if_pos ⟨e',q0⟩]
      ·rw [if_neg (fun z=>e' z.2),H.pin,if_neg (fun z=>e z.1),if_neg (fun z=>e' z.1)]
   ·rw [if_neg (show ¬ (1≤i∧i<N) from fun z=>q1 z.2)] at ht'
    rw [if_pos (by simp; omega),ht',Option.bind_some,if_pos (by simp),if_neg q1,if_neg q1]
    exact ⟨s,L,rfl,H.up (by omega),(MC.To.refl _).le (by omega) (by omega),fun _=>MC.To.refl _⟩
theorem Zoe (g:Geo c N B n) (H:ShK c N B n t s L q K h) (ht:t≤800000):∃ s',(∀ k,200<k→Q85.f k s=some (0,s'))∧ShK c N B n (t+1) s' L q K h∧MC.To 0 n (Z2 s.2.1 L) (Z2 s'.2.1 L)∧∀ j,j<N→blk s'.2.1.1.2.1 B j=K j:=by
 obtain ⟨c',e,hc,ha⟩:=Zpg g.z H.ca (H.few (by omega))
 obtain ⟨t1,t2⟩:=Pm.backs (B:=B) ((Z2 s.2.1 L).dirty N) _ H.by'
 have hD:((Z2 s.2.1 L).dirty N).length≤n:=by
  have:=Bo g.z H.ca
  rw [Zm9 H.ca,List.length_map] at this
  exact this
 obtain ⟨cl1,ct1,d1⟩:=Cl.flush H.ca.mi H.cl
 have hn:=g.z.h64
 have ha':=ha
 unfold MC.flush at ha
 rw [← ha] at t1 t2
 rw [← ha'] at cl1 ct1 d1
 have to:=t1.le (a':=0) (b':=n) (by omega) hD
 have H2:=H.put (a:=0) (b:=n) (t':=t+1) (K':=K) (hc.mono (by omega)) to cl1 (fun j hj=>by rw [ct1 j hj,H.ct j hj]) (fun j=>by rw [t2,H.pin]) (by omega) (by omega)
 refine ⟨_,fun k hk=>?_,H2,to,fun j hj=>?_⟩
 ·unfold Q85.f Q97.f
  rw [Option.bind_some,if_neg (by simp),e k hk,Option.bind_some]
 ·rw [← H.ct j hj,← ct1 j hj]
  have hd:=d1 j hj
  cases ef:(Z2 c' L).fr j with
  | none=>rw [MC.cont_no ef]; rfl
  | some x=>
   rw [MC.cont_at ef]
   unfold MC.isD at hd
   rw [ef] at hd
   exact (cl1 j x ef hd).symm
theorem Zmf {N:Nat} (h5:5≤N) (h:N≤65536):∃ p,Q74.f (N:Int)=some (some p,0)∧BR N p (upd (fun _=>false) 0 true):=by
 have e1:w64 ((N:Int)+64)=((N+64:Nat):Int):=by rw [Zz (by omega) (by omega)]; omega
 have e2:w64 (((N+64:Nat):Int) - 1)=((N+63:Nat):Int):=by rw [Zz (by omega) (by omega)]; omega
 have e3:w64 (Int.tdiv ((N+63:Nat):Int) 64)=(((N+63) / 64:Nat):Int):=by
  rw [show Int.tdiv ((N+63:Nat):Int) 64=(((N+63) / 64:Nat):Int) from rfl,Zz (by omega) (by omega)]
 have b0:BR N ((N:Int),0,List.replicate ((N+63) / 64) (0:Int)) (fun _=>false):=by
  refine ⟨rfl,by omega,?_,by simp,fun w hw=>⟨0,?_,by decide,fun b hb=>?_⟩⟩
  ·have:(List.range N).filter (fun _=>false)=[]:=List.filter_eq_nil_iff.2 (by simp)
   rw [this]; rfl
  ·rw [List.length_replicate] at hw
   rw [List.getD_eq_getElem?_getD,List.getElem?_replicate,if_pos hw]; rfl
  ·simp
 obtain ⟨p',es,b'⟩:=b0.set (i:=0) (by omega)
 rw [if_neg (by omega)] at b'
 refine ⟨p',?_,b'⟩
 unfold Q74.f Q2.f
 rw [if_neg (by simp only [decide_eq_true_eq]; omega),if_neg (by simp only [decide_eq_true_eq]; omega),if_neg (by simp only [decide_eq_true_eq]; omega),e1,e2,e3,if_pos (by omega),Option.bind_some]
 dsimp only [V1]
 rw [if_pos (by simp),Int.toNat_natCast,show Q9.f ((N:Int),0,List.replicate ((N+63) / 64) (0:Int)) 0=_ from es,Option.bind_some]
def Zdp (c:Cfg) (N B n:Nat) (ch:Chn) (p:Bt):Shf:=(c,(((B:Int),List.replicate (N*B) 0,(0,0)),List.replicate n (0,[],false,0),[],(List.range n).map (fun(i:Nat)=>(i:Int)),ch),p,0)
theorem Zqq (g:Geo c N B n) {ch:Chn} (hc:ChI n ch []) {p:Bt} (hp:BR N p (upd (fun _=>false) 0 true)):ShK c N B n 0 (Zdp c N B n ch p) [] 0 (fun _=>List.replicate B 0) (upd (fun _=>false) 0 true):=by
 have hi:=Zom g.z (img:=List.replicate (N*B) 0) (by simp) (0,0) hc
 have fr0:∀ i,(Z2 (Zdp c N B n ch p).2.1 []).fr i=none:=fun i=>by
  show Xm (Zdp c N B n ch p).2.1 i=none
  exact V5 (by simp [Zdp])
 refine ⟨rfl,hi,⟨Byt.rep _,fun i x hx=>by rw [fr0 i] at hx; cases hx⟩,fun i x hx=>(by rw [fr0 i] at hx; cases hx),fun j hj=>?_,hp,Ye _ _ _,rfl,by have:=g.N5; omega,fun j=>?_,⟨Int.le_refl _,Int.le_refl _⟩,⟨Int.le_refl _,Int.le_refl _⟩⟩
 ·rw [MC.cont_no (fr0 j)]
  show blk (List.replicate (N*B) 0) B j=_
  unfold blk
  have:j*B+B≤N*B:=by rw [← Nat.succ_mul]; exact Nat.mul_le_mul_right _ hj
  rw [List.drop_replicate,List.take_replicate,Nat.min_eq_left (by omega)]
 ·rw [show (Z2 (Zdp c N B n ch p).2.1 []).cnt j=0 from MC.cnt_no (fr0 j),if_neg (fun z=>z.2 rfl)]
theorem Zhu (hok:okB c=true):Vv c (List.replicate B 0)=(W5,12):=by
 unfold Vv
 rcases Znm (c:=c) (b:=toS (List.replicate B 0)) hok with ⟨e,h1,h2⟩ | e
 ·exfalso
  have hb:toS (List.replicate B 0)=zs B:=by unfold toS zs; rw [List.map_replicate]; rfl
  rw [hb] at h2
  have hx:∀ x∈Ui c (We c (zs B)).1,x=0:=by
   rw [hb] at e
   rw [h2]; intro x hx; exact List.eq_of_mem_replicate hx
  have:∃ x∈Ui c (We c (zs B)).1,x≠0:=by
   unfold Ui slt J9
   split
   ·exact ⟨1,by unfold hdO; simp,by decide⟩
   ·exact ⟨2,by unfold hdI; simp,by decide⟩
  obtain ⟨x,hm,hne⟩:=this
  exact hne (hx x hm)
 ·exact e
end
def Xj (N:Nat) (h:Nat→Bool):List Bool:=(List.range N).map h
theorem Vc (N:Nat) (h:Nat→Bool):(Xj N h).length=N:=by unfold Xj; rw [List.length_map,List.length_range]
theorem Zl8 {N:Nat} {h:Nat→Bool} {i:Nat} (hi:i<N):(Xj N h).getD i default=h i:=by
 unfold Xj
 rw [List.getD_eq_getElem?_getD,List.getElem?_map,List.getElem?_range hi]; rfl
theorem Jt {N:Nat} {h:Nat→Bool} {i:Nat} (hi:i<N):gt (Xj N h) (i:Int)=h i:=by rw [Z9,Zl8 hi]
theorem Zgy {N:Nat} {h:Nat→Bool} {i:Nat} (v:Bool):(Xj N h).set i v=Xj N (upd h i v):=by
 apply List.ext_getElem?
 intro j
 unfold Xj
 rw [List.getElem?_set,List.length_map,List.length_range,List.getElem?_map,List.getElem?_map]
 by_cases hj:j<N
 ·rw [List.getElem?_range hj]
  by_cases e:i=j
  ·subst e; rw [if_pos rfl,if_pos hj,Option.map_some,Ye]
  ·rw [if_neg e,Option.map_some,Option.map_some,Yg (fun z=>e z.symm)]
 ·rw [List.getElem?_eq_none (by rw [List.length_range]; omega)]
  by_cases e:i=j
  ·subst e; rw [if_pos rfl,if_neg hj]; rfl
  ·rw [if_neg e]; rfl
section
variable {N:Nat} {h:Nat→Bool}
theorem Zg5 (hN:N≤65536) {i:Nat} (hi:i<N) (v:Bool):Q145.f (Xj N h) (i:Int) v=some (Xj N (upd h i v)):=by
 unfold Q145.f
 simp only [Vc,List.length_nil,List.nil_append]
 rw [if_pos (by omega),if_pos (by omega),Int.toNat_natCast,Zgy]
theorem Zak (hN:N≤65536):∀(m i a k:Nat),N=i+m→m<k→a≤i→Q138.l0 k (Xj N h) (a:Int) (i:Int)=some ((a+(m - ((List.range' i m).filter h).length):Nat):Int)
 | 0,i,a,k,hm,hk,ha=>by
  obtain ⟨k,rfl⟩:∃ k2,k=k2+1:=⟨k - 1,by omega⟩
  rw [Q138.l0,Vc,if_neg (by simp only [decide_eq_true_eq]; omega)]; rfl
 | m+1,i,a,k,hm,hk,ha=>by
  obtain ⟨k,rfl⟩:∃ k2,k=k2+1:=⟨k - 1,by omega⟩
  have hl:=List.length_filter_le h (List.range' (i+1) m)
  rw [List.length_range'] at hl
  rw [Q138.l0,Vc,if_pos (decide_eq_true (by omega)),if_pos (by omega),Jt (by omega),List.range'_succ,List.filter_cons]
  cases hh:h i with
  | true=>
   rw [if_neg (by simp),Ya (by omega),Zak hN m (i+1) a k (by omega) (by omega) (by omega),if_pos rfl,List.length_cons]
   congr 2
   omega
  | false=>
   rw [if_pos (by simp),Ya (by omega),Ya (by omega),Zak hN m (i+1) (a+1) k (by omega) (by omega) (by omega),if_neg (by simp)]
   congr 2
   omega
theorem Zlo (hN:N≤65536) {k:Nat} (hk:N<k):Q138.f k (Xj N h)=some ((Ud N h:Nat):Int):=by
 unfold Q138.f Ud
 have:=Zak (h:=h) hN N 0 0 k (by omega) hk (by omega)
 rw [Nat.zero_add,← List.range_eq_range'] at this
 exact this
theorem Zb6 (hN:N≤65536):∀(m i k:Nat) (acc:TV),N=i+m→m<k→acc.length≤i→Q143.l0 k (Xj N h) acc (i:Int)=some (acc ++ ((List.range' i m).filter h).map fun(i:Nat)=>(i:Int))
 | 0,i,k,acc,hm,hk,ha=>by
  obtain ⟨k,rfl⟩:∃ k2,k=k2+1:=⟨k - 1,by omega⟩
  rw [Q143.l0,Vc,if_neg (by simp only [decide_eq_true_eq]; omega)]; simp
 | m+1,i,k,acc,hm,hk,ha=>by
  obtain ⟨k,rfl⟩:∃ k2,k=k2+1:=⟨k - 1,by omega⟩
  rw [Q143.l0,Vc,if_pos (decide_eq_true (by omega)),if_pos (by omega),Jt (by omega),Ya (by omega),List.range'_succ,List.filter_cons]
  cases hh:h i with
  | true=>rw [if_pos rfl,if_pos (by simp; omega),Zfo (by omega),Zb6 hN m (i+1) k _ (by omega) (by omega) (by simp; omega),if_pos rfl]; simp
  | false=>rw [if_neg (by simp),Zb6 hN m (i+1) k acc (by omega) (by omega) (by omega),if_neg (by simp)]
theorem Zqc (hN:N≤65536) {k:Nat} (hk:N<k):Q143.f k (Xj N h)=some (Bh N h):=by
 unfold Q143.f Bh
 have:=Zb6 (h:=h) hN N 0 k [] (by omega) hk (by simp)
 rw [List.nil_append,← List.range_eq_range'] at this
 exact this
theorem Zes (l:TV) (hl:l.length≤100000):∀(m i k:Nat),l.length=i+m→m<k→Q144.l0 k l l (i:Int)=some true
 | 0,i,k,hm,hk=>by
  obtain ⟨k,rfl⟩:∃ k2,k=k2+1:=⟨k - 1,by omega⟩
  rw [Q144.l0,if_neg (by simp only [decide_eq_true_eq]; omega)]
 | m+1,i,k,hm,hk=>by
  obtain ⟨k,rfl⟩:∃ k2,k=k2+1:=⟨k - 1,by omega⟩
  rw [Q144.l0,if_pos (decide_eq_true (by omega)),if_pos (by omega),if_pos (by omega),if_neg (by simp),Ya (by omega),Zes l hl m (i+1) k (by omega) (by omega)]
theorem Zos (l:TV) (hl:l.length≤100000) {k:Nat} (hk:l.length<k):Q144.f k l l=some true:=by
 unfold Q144.f
 rw [if_neg (by simp)]
 exact Zes l hl l.length 0 k (by omega) hk
theorem Zlk (N:Nat) (h:Nat→Bool):(Bh N h).length≤N:=by
 unfold Bh
 rw [List.length_map]
 have:=List.length_filter_le h (List.range N)
 rwa [List.length_range] at this
theorem Zea (hN:N≤65536):∀(m i k:Nat),N=i+m→m+1<k→(∀ j,j<i→h j=true)→(∃ j,j<N∧h j=false)→∃ j,j<N∧h j=false∧(∀ x,x<j→h x=true)∧Q140.l0 k 1 (Xj N h) [] (i:Int)=some (Xj N (upd h j true),[(j:Int)],0)
 | 0,i,k,hm,hk,hi,⟨j,h1,h2⟩=>by rw [hi j (by omega)] at h2; cases h2
 | m+1,i,k,hm,hk,hi,hf=>by
  obtain ⟨k,rfl⟩:∃ k2,k=k2+1:=⟨k - 1,by omega⟩
  rw [Q140.l0,Vc,if_pos (decide_eq_true (by omega)),if_pos (by decide),if_pos (by omega),Jt (by omega),Ya (by omega)]
  cases hh:h i with
  | true=>
   rw [if_neg (by simp)]
   exact Zea hN m (i+1) k (by omega) (by omega) (fun j hj=>by
    by_cases e:j=i
    ·rw [e,hh]
    ·exact hi j (by omega)) hf
  | false=>
   refine ⟨i,by omega,hh,hi,?_⟩
   rw [if_pos (by simp),Zg5 hN (by omega),Option.bind_some,if_pos (by simp),Zfo (by omega),List.nil_append]
   obtain ⟨k,rfl⟩:∃ k2,k=k2+1:=⟨k - 1,by omega⟩
   rw [Q140.l0,Vc]
   by_cases e:i+1<N
   ·rw [if_pos (decide_eq_true (by omega)),if_neg (by simp)]
   ·rw [if_neg (by simp only [decide_eq_true_eq]; omega)]
theorem Zk8 (hN:N≤65536) {k:Nat} (hk:N+2<k):(Ud N h=0∧Q140.f k (Xj N h) 1=some (Xj N h,[],11))∨∃ j,j<N∧h j=false∧(∀ x,x<j→h x=true)∧Q140.f k (Xj N h) 1=some (Xj N (upd h j true),[(j:Int)],0):=by
 unfold Q140.f
 rw [if_neg (by simp),Zlo hN (by omega),Option.bind_some]
 by_cases z:Ud N h=0
 ·rw [if_pos (decide_eq_true (by omega))]; exact .inl ⟨z,rfl⟩
 ·rw [if_neg (by simp only [decide_eq_true_eq]; omega)]
  refine .inr (Zea hN N 0 k (by omega) (by omega) (fun j hj=>by omega) ?_)
  apply Classical.byContradiction
  intro hn
  refine z ((Js h).2 fun i hi=>?_)
  cases hh:h i with
  | true=>rfl
  | false=>exact absurd ⟨i,hi,hh⟩ hn
theorem Zlh {a b:Nat} (ha:a<4294967296) (hb:b<4294967296):decide (IntKind.u64.wrap (a:Int)≤IntKind.u64.wrap (b:Int))=decide (a≤b):=by
 rw [wrB (by omega),wrB (by omega)]
 by_cases e:a≤b
 ·rw [decide_eq_true e,decide_eq_true (by omega)]
 ·rw [decide_eq_false e,decide_eq_false (by omega)]
theorem Zpd (hN:N≤65536) {i:Nat} (h0:1≤i) (hi:i<N):Q139.f (Xj N h) (i:Int)=some (if h i=true then (Xj N (upd h i false),0) else (Xj N h,9)):=by
 unfold Q139.f
 rw [Vc,Zlh (by omega) (by omega),if_neg (by simp; omega),if_neg (by simp only [decide_eq_true_eq]; omega),if_pos (by omega),Jt hi,Zz (by omega) (by omega)]
 cases hh:h i with
 | true=>rw [if_neg (by simp),if_pos rfl,Zg5 hN hi,Option.bind_some]
 | false=>rw [if_pos (by simp),if_neg (by simp)]
theorem Zou (hN:N≤65536) {i:Nat} (hi:i<N):Q141.f (Xj N h) (i:Int)=some (if h i=true then (Xj N h,10) else (Xj N (upd h i true),0)):=by
 unfold Q141.f
 rw [Vc,Zlh (by omega) (by omega),if_neg (by simp; omega),if_pos (by omega),Jt hi,Zz (by omega) (by omega)]
 cases hh:h i with
 | true=>rw [if_pos rfl,if_pos rfl]
 | false=>rw [if_neg (by simp),if_neg (by simp),Zg5 hN hi,Option.bind_some]
theorem Zqa (h5:1≤N) (hN:N≤65536):Q142.f (N:Int)=some (Xj N (upd (fun _=>false) 0 true)):=by
 unfold Q142.f
 rw [if_pos (by omega),if_pos (by rw [List.length_replicate,Int.toNat_natCast]; omega),Int.toNat_natCast,← Zgy]
 congr 2
 unfold Xj
 apply List.ext_getElem?
 intro j
 rw [List.getElem?_replicate,List.getElem?_map]
 by_cases hj:j<N
 ·rw [if_pos hj,List.getElem?_range hj]; rfl
 ·rw [if_neg hj,List.getElem?_eq_none (by rw [List.length_range]; omega)]; rfl
end
section
variable {c:Cfg} {n:Nd}
end
theorem Zhc {c:Cfg} {n:Nd} (hn:MidN n) {k:Nat} (hk:20000<k):Q164.f k c n=some (okB c && Y9 c Wg n):=by
 unfold Q164.f
 (try rw [Jj]); rw [Ze2 c (by omega),Option.bind_some]
 cases okB c with
 | false=>rfl
 | true=>
  rw [if_pos rfl,Q165.f,Option.bind_some,show Q160.f k c (([]:List UInt8),([]:List UInt8),true) (n.1,n.2.1,n.2.2.1,n.2.2.2.1,n.2.2.2.2)=_ from Zf4 (c:=c) (s:=Wg) hn (by simp) (by simp) (by omega)]
  rfl
abbrev W18:=Cfg×List (Int×Nd)×List Bool×Int
def Kn (c:Cfg) (B:Nat) (x:Int×Nd) (b:TV):Prop:=(x.1=0∧b=List.replicate B 0)∨(x.1=1∧EncN x.2∧Y9 c Wg x.2=true∧b=Wk c x.2)∨x.1=2
structure RW (c:Cfg) (N B q:Nat) (K:Nat→List Int) (h:Nat→Bool) (w:W18):Prop where
 cfg:w.1=c
 len:w.2.1.length=N
 held:w.2.2.1=Xj N h
 kept:w.2.2.2=(q:Int)
 kn:∀ i,i<N→Kn c B (w.2.1.getD i default) (K i)
section
variable {c:Cfg} {N B n t q:Nat} {s:Shf} {L:List Nat} {K:Nat→List Int} {h:Nat→Bool} {w:W18}
theorem Jw (g:Geo c N B n) (e:w.1=c) {i:Nat} (hi:i<4294967296):Q173.f w (i:Int)=some (decide (1≤i∧i<N)):=by
 have hN:=g.N5
 have w1:w64 (i:Int)=(i:Int):=Zz (by omega) (by omega)
 unfold Q173.f
 rw [e,g.eN,w1]
 by_cases q0:i=0
 ·rw [if_neg (by simp [q0]),decide_eq_false (by omega)]
 ·rw [if_pos (decide_eq_true (by omega))]
  by_cases q1:i<N
  ·rw [decide_eq_true (show (i:Int)<(N:Int) by omega),decide_eq_true (show 1≤i∧i<N by omega)]
  ·rw [decide_eq_false (show ¬ (i:Int)<(N:Int) by omega),decide_eq_false (show ¬ (1≤i∧i<N) by omega)]
theorem Zgu (g:Geo c N B n) {w:W18} (hl:w.2.1.length=N) {i:Nat} (hi:i<N) (x:Int×Nd):Q174.f w (i:Int) x=some (w.1,w.2.1.set i x,w.2.2.1,w.2.2.2):=by
 have hN:=g.N5
 unfold Q174.f
 simp only [List.length_nil,List.nil_append]
 rw [if_pos (by omega),if_pos (by omega),Int.toNat_natCast]
theorem RW.lay (R:RW c N B q K h w) {i:Nat} (hi:i<N) {x:Int×Nd} {b:TV} (hx:Kn c B x b) {h':Nat→Bool}:RW c N B q (upd K i b) h' (w.1,w.2.1.set i x,Xj N h',w.2.2.2):=
 ⟨R.cfg,by dsimp only; rw [List.length_set]; exact R.len,rfl,R.kept,fun j hj=>by
  dsimp only
  rw [List.getD_eq_getElem?_getD,List.getElem?_set]
  by_cases e:i=j
  ·subst e; rw [if_pos rfl,if_pos (by rw [R.len]; exact hi),Ye]; exact hx
  ·rw [if_neg e,Yg (fun z=>e z.symm),← List.getD_eq_getElem?_getD]; exact R.kn j hj⟩
theorem Zmy (g:Geo c N B n) (R:RW c N B q K h w) {i:Nat} (hi:i<4294967296) {nd:Nd} (hn:EncN nd) {k:Nat} (hk:20000<k):∃ w',Q172.f k w (i:Int) nd=some (w',if 1≤i∧i<N then (if Y9 c Wg nd=true then 0 else 3) else 4)∧RW c N B q (if (1≤i∧i<N)∧Y9 c Wg nd=true then upd K i (Wk c nd) else K) h w':=by
 unfold Q172.f
 rw [Jw g R.cfg hi,Option.bind_some]
 by_cases q1:1≤i∧i<N
 ·rw [decide_eq_true q1,if_neg (by simp),R.cfg,Zhc hn.sm.mid hk,g.ok,Option.bind_some,if_pos q1,Bool.true_and]
  cases hr:Y9 c Wg nd with
  | true=>
   rw [if_neg (by simp),Zgu g R.len q1.2,Option.bind_some,if_pos rfl,if_pos ⟨q1,rfl⟩]
   have:=R.lay (h':=h) q1.2 (x:=(1,nd)) (b:=Wk c nd) (.inr (.inl ⟨rfl,hn,hr,rfl⟩))
   rw [← R.held] at this
   exact ⟨_,rfl,this⟩
  | false=>rw [if_pos (by simp),if_neg (by simp),if_neg (fun z=>by cases z.2)]; exact ⟨_,rfl,R⟩
 ·rw [decide_eq_false q1,if_pos (by simp),if_neg q1,if_neg (fun z=>q1 z.1)]; exact ⟨_,rfl,R⟩
theorem Zme (g:Geo c N B n) (H:ShK c N B n t s L q K h) (R:RW c N B q K h w) (ht:t≤800000) (kd:Int) {i:Nat} (hi:i<4294967296) {nd:Nd} (hn:EncN nd):∃(w':W18) (j r:Int) (s':Shf) (L':List Nat) (q':Nat) (K':Nat→List Int) (h':Nat→Bool),Ev (fun k=>Q135.f k w (kd,(i:Int),nd)) (w',j,r)∧Ev (fun k=>Q134.f k s (kd,(i:Int),nd)) (j,r,s')∧ShK c N B n (t+1) s' L' q' K' h'∧RW c N B q' K' h' w':=by
 have hN:=g.N5
 have save:∃(w':W18) (r:Int) (s':Shf) (L':List Nat) (K':Nat→List Int),(∀ k,20000<k→Q172.f k w (i:Int) nd=some (w',r))∧Ev (fun k=>Q94.f k s (i:Int) nd) (r,s')∧ShK c N B n (t+1) s' L' q K' h∧RW c N B q K' h w':=by
  obtain ⟨s',L',e,H',_⟩:=Zpn g H ht hi hn
  obtain ⟨w',e2,R'⟩:=Zmy g R hi hn (k:=20001) (by omega)
  refine ⟨w',_,s',L',_,fun k hk=>?_,e,H',R'⟩
  obtain ⟨w2,e3,_⟩:=Zmy g R hi hn hk
  rw [e3]
  have:w2=w':=by
   unfold Q172.f at e2 e3
   rw [Jw g R.cfg hi,Option.bind_some] at e2 e3
   by_cases q1:1≤i∧i<N
   ·rw [decide_eq_true q1,if_neg (by simp),R.cfg,Zhc hn.sm.mid (by omega),Option.bind_some] at e2 e3
    rw [e2] at e3
    simp only [Option.some.injEq,Prod.mk.injEq] at e3
    exact e3.1.symm
   ·rw [decide_eq_false q1,if_pos (by simp)] at e2 e3
    rw [e2] at e3
    simp only [Option.some.injEq,Prod.mk.injEq] at e3
    exact e3.1.symm
  rw [this]
 by_cases k0:kd=0
 ·subst k0
  obtain ⟨w',r,s',L',K',e1,⟨b2,e2⟩,H',R'⟩:=save
  refine ⟨w',0,r,s',L',q,K',h,⟨20001,fun k hk=>?_⟩,⟨b2,fun k hk=>?_⟩,H',R'⟩
  ·show Q135.f k w (0,(i:Int),nd)=_
   unfold Q135.f
   rw [if_pos (by simp),e1 k (by omega),Option.bind_some]
  ·show Q134.f k s (0,(i:Int),nd)=_
   unfold Q134.f
   rw [if_pos (by simp),show Q94.f k s (i:Int) nd=_ from e2 k hk,Option.bind_some]
 by_cases k1:kd=1
 ·subst k1
  obtain ⟨w',r,s',L',K',e1,⟨b2,e2⟩,H',R'⟩:=save
  refine ⟨w',0,r,s',L',q,K',h,⟨20001,fun k hk=>?_⟩,⟨b2,fun k hk=>?_⟩,H',R'⟩
  ·show Q135.f k w (1,(i:Int),nd)=_
   unfold Q135.f
   rw [if_neg (by simp),if_pos (by simp),e1 k (by omega),Option.bind_some]
  ·show Q134.f k s (1,(i:Int),nd)=_
   unfold Q134.f
   rw [if_neg (by simp),if_pos (by simp),show Q94.f k s (i:Int) nd=_ from e2 k hk,Option.bind_some]
 by_cases k2:kd=2
 ·subst k2
  have wu:∀ k,Q135.f k w (2,(i:Int),nd)=(Q169.f k w nd).bind fun r3=>some r3:=fun k=>by
   unfold Q135.f
   rw [if_neg (by simp),if_neg (by simp),if_pos (by simp)]
  have su:∀ k,Q134.f k s (2,(i:Int),nd)=(Q92.f k s nd).bind fun r3=>some r3:=fun k=>by
   unfold Q134.f
   rw [if_neg (by simp),if_neg (by simp),if_pos (by simp)]
  have mu:∀ k,20000<k→Q169.f k w nd=if (!Y9 c Wg nd)=true then some (w,0,3) else ((Q140.f k (Xj N h) 1).bind fun r2=>(if (!decide (r2.2.2=0))=true then (some (w,0,r2.2.2)) else (if 0<(r2.2.1.length:Int) then ((Q174.f (w.1,w.2.1,r2.1,w.2.2.2) (gt r2.2.1 0) (1,nd)).bind fun r3=>(some (r3,(gt r2.2.1 0),0))) else none))):=fun k hk=>by
   unfold Q169.f
   rw [R.cfg,Zhc hn.sm.mid hk,g.ok,Option.bind_some,Bool.true_and,R.held]
  rcases Zps g H ht hn with ⟨hr,b,e⟩ | ⟨hr,z,b,e⟩ | ⟨hr,x,s',L',x1,xN,xf,xl,⟨b,e⟩,H',_⟩
  ·refine ⟨w,0,3,s,L,q,K,h,⟨20001,fun k hk=>?_⟩,⟨b,fun k hk=>?_⟩,H.up (by omega),R⟩
   ·show Q135.f k w (2,(i:Int),nd)=_
    rw [wu,mu k (by omega),hr,if_pos (by simp),Option.bind_some]
   ·show Q134.f k s (2,(i:Int),nd)=_
    rw [su,show Q92.f k s nd=_ from e k hk,Option.bind_some]
  ·refine ⟨w,0,11,s,L,q,K,h,⟨N+20003,fun k hk=>?_⟩,⟨b,fun k hk=>?_⟩,H.up (by omega),R⟩
   ·show Q135.f k w (2,(i:Int),nd)=_
    rw [wu,mu k (by omega),hr,if_neg (by simp)]
    rcases Zk8 (h:=h) hN.2 (k:=k) (by omega) with ⟨_,e7⟩ | ⟨j,j1,j2,_⟩
    ·rw [e7,Option.bind_some,if_pos (by simp),Option.bind_some]
    ·rw [(Js h).1 z j j1] at j2; cases j2
   ·show Q134.f k s (2,(i:Int),nd)=_
    rw [su,show Q92.f k s nd=_ from e k hk,Option.bind_some]
  ·have Rl:=R.lay (h':=upd h x true) xN (x:=(1,nd)) (b:=Wk c nd) (.inr (.inl ⟨rfl,hn,hr,rfl⟩))
   refine ⟨_,(x:Int),0,s',L',q,_,_,⟨N+20003,fun k hk=>?_⟩,⟨b,fun k hk=>?_⟩,H',Rl⟩
   ·show Q135.f k w (2,(i:Int),nd)=_
    rw [wu,mu k (by omega),hr,if_neg (by simp)]
    rcases Zk8 (h:=h) hN.2 (k:=k) (by omega) with ⟨z,_⟩ | ⟨j,j1,j2,j3,e7⟩
    ·rw [(Js h).1 z x xN] at xf; cases xf
    ·have:j=x:=by
      rcases Nat.lt_trichotomy j x with z | z | z
      ·rw [xl j z] at j2; cases j2
      ·exact z
      ·rw [j3 x z] at xf; cases xf
     subst this
     rw [e7,Option.bind_some,if_neg (by simp),if_pos (by simp),show gt [(j:Int)] 0=(j:Int) from rfl,Zgu g (w:=(w.1,w.2.1,Xj N (upd h j true),w.2.2.2)) R.len j1,Option.bind_some,Option.bind_some]
   ·show Q134.f k s (2,(i:Int),nd)=_
    rw [su,show Q92.f k s nd=_ from e k hk,Option.bind_some]
 by_cases k3:kd=3
 ·subst k3
  obtain ⟨s',L',K',e,H',c1,c2,_⟩:=Zp2 g H ht hi
  have su:∀ k,Q134.f k s (3,(i:Int),nd)=(Q86.f s (i:Int)).bind fun r4=>some (0,r4.1,r4.2):=fun k=>by
   unfold Q134.f
   rw [if_neg (by simp),if_neg (by simp),if_neg (by simp),if_pos (by simp)]
  have fin:∀(w':W18) (r:Int),Q166.f w (i:Int)=some (w',r)→Q86.f s (i:Int)=some (r,s')→RW c N B q K' (if (1≤i∧i<N)∧i≠q then upd h i false else h) w'→∃(w':W18) (j r:Int) (s':Shf) (L':List Nat) (q':Nat) (K':Nat→List Int) (h':Nat→Bool),Ev (fun k=>Q135.f k w (3,(i:Int),nd)) (w',j,r)∧Ev (fun k=>Q134.f k s (3,(i:Int),nd)) (j,r,s')∧ShK c N B n (t+1) s' L' q' K' h'∧RW c N B q' K' h' w':=fun w' r a1 a2 a3=>by
   refine ⟨w',0,r,s',L',q,K',_,⟨0,fun k hk=>?_⟩,⟨0,fun k hk=>?_⟩,H',a3⟩
   ·show Q135.f k w (3,(i:Int),nd)=_
    unfold Q135.f
    rw [if_neg (by simp),if_neg (by simp),if_neg (by simp),if_pos (by simp),a1,Option.bind_some]
   ·show Q134.f k s (3,(i:Int),nd)=_
    rw [su,a2,Option.bind_some]
  unfold Q166.f at fin
  rw [Jw g R.cfg hi,Option.bind_some] at fin
  by_cases q1:1≤i∧i<N
  ·rw [decide_eq_true q1,if_neg (by simp),R.kept] at fin
   rw [if_pos q1] at e
   by_cases q2:i=q
   ·rw [if_pos q2] at e
    rw [if_pos (decide_eq_true (by omega)),if_neg (fun z=>z.2 q2)] at fin
    have:K'=K:=c2 fun z=>z.2.1 q2
    exact fin w 8 rfl e (by rw [this]; exact R)
   ·rw [if_neg q2] at e
    rw [if_neg (by simp only [decide_eq_true_eq]; omega),if_pos (show (1≤i∧i<N)∧i≠q from ⟨q1,q2⟩),R.held,Zpd hN.2 q1.1 q1.2] at fin
    by_cases hh:h i=true
    ·rw [if_pos hh] at e fin
     rw [Option.bind_some,if_neg (by simp),show Q174.f (w.1,w.2.1,(Xj N (upd h i false),(0:Int)).1,(q:Int)) (i:Int) (2,(0,([]:List Int),([]:List TQ),([]:List Msg),([]:List Pr)))=_ from Zgu g (w:=(w.1,w.2.1,Xj N (upd h i false),(q:Int))) R.len q1.2 (2,W5),Option.bind_some] at fin
     refine fin _ 0 rfl e ?_
     have Rl:=R.lay (h':=upd h i false) q1.2 (x:=(2,W5)) (b:=K' i) (.inr (.inr rfl))
     have hK:upd K i (K' i)=K':=funext fun j=>by
      by_cases e:j=i
      ·subst e; exact Ye _ _ _
      ·rw [Yg e,c1 j e]
     rw [hK,R.kept] at Rl
     exact Rl
    ·rw [if_neg hh] at e fin
     rw [Option.bind_some,if_pos (by simp)] at fin
     have:K'=K:=c2 fun z=>hh z.2.2
     have hu:∀ j,upd h i false j=h j:=fun j=>by
      by_cases e:j=i
      ·subst e; rw [Ye]; cases hx:h j with
       | true=>exact absurd hx hh
       | false=>rfl
      ·exact Yg e
     refine fin w 9 rfl e ?_
     rw [this,show upd h i false=h from funext hu]
     exact R
  ·rw [decide_eq_false q1,if_pos (by simp),if_neg (fun z=>q1 z.1)] at fin
   rw [if_neg q1] at e
   have:K'=K:=c2 fun z=>q1 z.1
   exact fin w 4 rfl e (by rw [this]; exact R)
 by_cases k4:kd=4
 ·subst k4
  obtain ⟨s',e,H',_⟩:=Zpo g H hi
  refine ⟨_,0,if 1≤i∧i<N then (if h i=true then 10 else 0) else 4,s',L,q,K,(if 1≤i∧i<N then upd h i true else h),⟨0,fun k hk=>?_⟩,⟨0,fun k hk=>?_⟩,H'.up (by omega),(?_:RW c N B q K _ (if 1≤i∧i<N then (w.1,w.2.1,Xj N (upd h i true),w.2.2.2) else w))⟩
  ·show Q135.f k w (4,(i:Int),nd)=_
   unfold Q135.f
   rw [if_neg (by simp),if_neg (by simp),if_neg (by simp),if_neg (by simp),if_pos (by simp)]
   unfold Q170.f
   rw [Jw g R.cfg hi,Option.bind_some]
   by_cases q1:1≤i∧i<N
   ·rw [decide_eq_true q1,if_neg (by simp),R.held,Zou hN.2 q1.2,if_pos q1,if_pos q1]
    by_cases hh:h i=true
    ·have hu:upd h i true=h:=funext fun j=>by
      by_cases e:j=i
      ·subst e; rw [Ye,hh]
      ·exact Yg e
     rw [if_pos hh,if_pos hh,hu,Option.bind_some,Option.bind_some]
    ·rw [if_neg hh,if_neg hh,Option.bind_some,Option.bind_some]
   ·rw [decide_eq_false q1,if_pos (by simp),if_neg q1,if_neg q1,Option.bind_some]
  ·show Q134.f k s (4,(i:Int),nd)=_
   unfold Q134.f
   rw [if_neg (by simp),if_neg (by simp),if_neg (by simp),if_neg (by simp),if_pos (by simp),e,Option.bind_some]
  ·split
   ·exact ⟨R.cfg,R.len,rfl,R.kept,R.kn⟩
   ·exact R
 by_cases k5:kd=5
 ·subst k5
  obtain ⟨s',L',e,H',_⟩:=Gn g H ht hi
  refine ⟨(w.1,w.2.1,w.2.2.1,if i<N then (i:Int) else w.2.2.2),0,(if i<N then 0 else 4),s',L',(if i<N then i else q),K,h,⟨0,fun k hk=>?_⟩,⟨0,fun k hk=>?_⟩,H',⟨R.cfg,R.len,R.held,?_,R.kn⟩⟩
  ·show Q135.f k w (5,(i:Int),nd)=_
   unfold Q135.f
   rw [if_neg (by simp),if_neg (by simp),if_neg (by simp),if_neg (by simp),if_neg (by simp),if_pos (by simp)]
   unfold Q167.f
   by_cases q0:i=0
   ·rw [if_neg (by simp [q0]),if_pos (show i<N by omega),if_pos (show i<N by omega),Option.bind_some]
   ·rw [if_pos (decide_eq_true (show (0:Int)<(i:Int) by omega)),Jw g R.cfg hi,Option.bind_some]
    by_cases q1:i<N
    ·rw [decide_eq_true (show 1≤i∧i<N by omega),if_neg (by simp),if_pos q1,if_pos q1,Option.bind_some]
    ·rw [decide_eq_false (show ¬ (1≤i∧i<N) by omega),if_pos (by simp),if_neg q1,if_neg q1,Option.bind_some]
  ·show Q134.f k s (5,(i:Int),nd)=_
   unfold Q134.f
   rw [if_neg (by simp),if_neg (by simp),if_neg (by simp),if_neg (by simp),if_neg (by simp),if_pos (by simp),e,Option.bind_some]
  ·dsimp only
   split
   ·rfl
   ·exact R.kept
 have wu:∀ k,Q135.f k w (kd,(i:Int),nd)=some (w,0,0):=fun k=>by
  unfold Q135.f
  rw [if_neg (by simpa using k0),if_neg (by simpa using k1),if_neg (by simpa using k2),if_neg (by simpa using k3),if_neg (by simpa using k4),if_neg (by simpa using k5)]
 by_cases k6:kd=6
 ·obtain ⟨s',e,H',_⟩:=Zoe g H ht
  refine ⟨w,0,0,s',L,q,K,h,⟨0,fun k hk=>wu k⟩,⟨201,fun k hk=>?_⟩,H',R⟩
  show Q134.f k s (kd,(i:Int),nd)=_
  unfold Q134.f
  rw [if_neg (by simpa using k0),if_neg (by simpa using k1),if_neg (by simpa using k2),if_neg (by simpa using k3),if_neg (by simpa using k4),if_neg (by simpa using k5),if_pos (decide_eq_true k6),e k (by omega),Option.bind_some]
 ·refine ⟨w,0,0,s,L,q,K,h,⟨0,fun k hk=>wu k⟩,⟨0,fun k hk=>?_⟩,H.up (by omega),R⟩
  show Q134.f k s (kd,(i:Int),nd)=_
  unfold Q134.f
  rw [if_neg (by simpa using k0),if_neg (by simpa using k1),if_neg (by simpa using k2),if_neg (by simpa using k3),if_neg (by simpa using k4),if_neg (by simpa using k5),if_neg (by simpa using k6)]
end
theorem Zka (c:Cfg) {k:Nat} (hk:2000<k):Q130.f k c=some (okB c && (decide (c.2.1≤3000) && decide (c.1≤400))):=by
 unfold Q130.f
 rw [Ze2 c hk,Option.bind_some]
 cases okB c with
 | false=>rw [if_neg (by decide)]; rfl
 | true=>
  rw [if_pos rfl]
  by_cases q:c.2.1≤3000
  ·rw [if_pos (decide_eq_true q),decide_eq_true q]; rfl
  ·rw [if_neg (by simpa using q),decide_eq_false q]; rfl
theorem Zp3 {c:Cfg} (h:(okB c && (decide (c.2.1≤3000) && decide (c.1≤400)))=true):∃ N B n:Nat,Geo c N B n∧N≤400∧B≤3000:=by
 simp only [Bool.and_eq_true,decide_eq_true_eq] at h
 obtain ⟨hok,h1,h2⟩:=h
 have hc:=hok
 unfold okB at hc
 simp only [Bool.and_eq_true,decide_eq_true_eq] at hc
 obtain ⟨_,hN,hn,hB,_⟩:=hc
 obtain ⟨N,eN⟩:=Int.eq_ofNat_of_zero_le (show 0≤c.1 by omega)
 obtain ⟨B,eB⟩:=Int.eq_ofNat_of_zero_le (show 0≤c.2.1 by omega)
 obtain ⟨n,en⟩:=Int.eq_ofNat_of_zero_le (show 0≤c.2.2.1 by omega)
 have hNB:N*B≤400*3000:=Nat.mul_le_mul (by omega) (by omega)
 exact ⟨N,B,n,⟨hok,⟨by omega,by omega,by omega,by omega,by omega⟩,by omega,by omega,by omega,eN,eB,en⟩,by omega,by omega⟩
theorem Zgw (k:Nat) (hk:3000≤k):Q132.f k=some true:=by
 obtain ⟨k,rfl⟩:∃ k2,k=k2+3000:=⟨k - 3000,by omega⟩
 kernel_rfl
section
variable {c:Cfg} {N B n t q:Nat} {s:Shf} {L:List Nat} {K:Nat→List Int} {h:Nat→Bool} {w:W18}
theorem Zpt (g:Geo c N B n) (R:RW c N B q K h w) {i:Nat} (hi:i<4294967296):∃(nd:Nd) (e:Int) (kn:Bool),Q168.f w (i:Int)=some (nd,e,kn)∧(kn=true→(if 1≤i∧i<N then Vv c (K i) else (W5,4))=(nd,e)∧nd.2.1.length≤1500∧nd.2.2.1.length≤1500∧nd.2.2.2.1.length≤1500∧nd.2.2.2.2.length≤1500):=by
 unfold Q168.f
 rw [Jw g R.cfg hi,Option.bind_some]
 by_cases q1:1≤i∧i<N
 ·rw [decide_eq_true q1,if_neg (by simp),if_pos (by rw [R.len]; omega),Z9,if_pos q1]
  rcases R.kn i q1.2 with ⟨k0,kb⟩ | ⟨k1,kn,kr,kb⟩ | k2
  ·rw [if_pos (decide_eq_true k0)]
   exact ⟨_,_,_,rfl,fun _=>⟨by rw [kb,Zhu g.ok]; rfl,by simp⟩⟩
  ·rw [if_neg (by rw [k1]; simp)]
   refine ⟨_,_,_,rfl,fun _=>⟨by rw [kb,Zjy g.ok kn.kd kr],?_⟩⟩
   have:=kn.sm.kids
   have:=kn.sm.pivs
   have:=kn.sm.buf
   have:=kn.sm.prs
   omega
  ·rw [if_neg (by rw [k2]; simp)]
   exact ⟨_,_,_,rfl,fun z=>by rw [k2] at z; simp at z⟩
 ·rw [decide_eq_false q1,if_pos (by simp),if_neg q1]
  exact ⟨_,_,_,rfl,fun _=>⟨rfl,by simp⟩⟩
theorem Zqp (g:Geo c N B n):∃ w,Q171.f c=some w∧RW c N B 0 (fun _=>List.replicate B 0) (upd (fun _=>false) 0 true) w:=by
 have hN:=g.N5
 unfold Q171.f
 rw [g.eN,if_pos (by omega),Zqa (by omega) hN.2,Option.bind_some,Int.toNat_natCast]
 refine ⟨_,rfl,⟨rfl,by simp,rfl,rfl,fun i hi=>.inl ⟨?_,rfl⟩⟩⟩
 dsimp only
 rw [List.getD_eq_getElem?_getD,List.getElem?_replicate,if_pos hi]; rfl
end
abbrev Zdj:=Int×Int×Nd
abbrev P1 (k:Nat) (c:Cfg) (l:List Zdj) (a:Int) (s:Shf) (w:W18) (j:Int):Option Bool:=Q131.l1 k c l a s.1 s.2.1.1 s.2.1.2.2.2.2 s.2.2.1 w s.2.1.2.1 s.2.1.2.2.1 s.2.1.2.2.2.1 s.2.2.2 j
section
variable {c:Cfg} {N B n t q:Nat} {s:Shf} {L:List Nat} {K:Nat→List Int} {h:Nat→Bool} {w:W18}
theorem Zo4 (g:Geo c N B n) (H:ShK c N B n t s L q K h) (R:RW c N B q K h w) (hN:N≤400) {l:List Zdj} {a j:Nat} (ha:a<4294967296) (hj:j<40) (r1 r2:Int) (nd:Nd) (e:Int) (hx:Ev (fun k=>P1 k c l (a:Int) s w ((j+1:Nat):Int)) true):Ev (fun k=>Q131.l4 k c l (a:Int) (w,r1,r2) (nd,e,s) (j:Int) false) true:=by
 obtain ⟨b,hb⟩:=hx
 refine ⟨b+10000,fun k hk=>?_⟩
 show Q131.l4 k c l (a:Int) (w,r1,r2) (nd,e,s) (j:Int) false=_
 obtain ⟨k,rfl⟩:∃ k2,k=k2+2:=⟨k - 2,by omega⟩
 have hx':P1 k c l (a:Int) s w ((j+1:Nat):Int)=some true:=hb k (by omega)
 have l5:Q131.l5 (k+1) c l (a:Int) (w,r1,r2) (nd,e,s) (j:Int) false=some true:=by
  rw [Q131.l5,if_neg (by simp),Ya (by omega)]
  exact hx'
 have hl:=Zlk N h
 have eL:Q90.f s=some ((Ud N h:Nat):Int):=by unfold Q90.f; rw [Zm5 H.bits,Option.bind_some]
 have eH:Q88.f (k+1) s=some (Bh N h):=by unfold Q88.f; rw [Zqs H.bits (by omega),Option.bind_some]
 have eX:Q87.f s (a:Int)=some (decide (a<N) && h a):=by unfold Q87.f; rw [Zqg H.bits ha,Option.bind_some]
 have hs:(!((decide (s.2.1.1.2.2.1=s.2.1.1.2.2.1)) && ((decide (s.2.1.1.2.2.2=s.2.1.1.2.2.2)) && true)))=false:=by simp
 have hcfg:=H.cfg
 rw [Q131.l4,if_neg (by simp)]
 dsimp only
 rw [eL,Option.bind_some,R.held,Zlo g.N5.2 (by omega),Option.bind_some,if_neg (by simp),eH,Option.bind_some,Zqc g.N5.2 (by omega),Option.bind_some,Zos _ (by omega) (by omega),Option.bind_some,if_neg (by simp),eX,Option.bind_some,g.eN]
 have hlt:decide (IntKind.u64.wrap (a:Int)<IntKind.u64.wrap (N:Int))=decide (a<N):=by
  rw [wrB (by omega),wrB (by have:=g.N5; omega)]
  by_cases e:a<N
  ·rw [decide_eq_true e,decide_eq_true (by omega)]
  ·rw [decide_eq_false e,decide_eq_false (by omega)]
 rw [hlt,Q84.f,hcfg]
 unfold Q95.f Q57.f
 by_cases qa:a<N
 ·rw [decide_eq_true qa,if_pos rfl,if_pos (by rw [Vc]; omega),Jt qa,if_neg (by simp),Option.bind_some,if_neg (by simp [g.eN]),Option.bind_some,Option.bind_some,Option.bind_some,hs]
  exact l5
 ·rw [decide_eq_false qa,if_neg (by simp),if_neg (by simp),Option.bind_some,if_neg (by simp [g.eN]),Option.bind_some,Option.bind_some,Option.bind_some,hs]
  exact l5
theorem Zli (g:Geo c N B n) (hN:N≤400) {l:List Zdj} (hf:∀ x∈l,∃ i:Nat,x.2.1=(i:Int)∧i<4294967296∧∀ y∈x.2.2.2.1,0≤y∧y<4294967296) {a:Nat} (ha:a<4294967296):∀(m j:Nat) (s:Shf) (L:List Nat) (q:Nat) (K:Nat→List Int) (h:Nat→Bool) (w:W18),j+m=40→ShK c N B n (2*j) s L q K h→RW c N B q K h w→Ev (fun k=>P1 k c l (a:Int) s w (j:Int)) true
 | m,j,s,L,q,K,h,w,hm,H,R=>by
  have stop:∀ k,4000<k→Q131.l2 k c l (a:Int) s.1 s.2.1.1 s.2.1.2.2.2.2 s.2.2.1 w s.2.1.2.1 s.2.1.2.2.1 s.2.1.2.2.2.1 s.2.2.2 (j:Int) false=some true:=fun k hk=>by
   obtain ⟨k,rfl⟩:∃ k2,k=k2+1:=⟨k - 1,by omega⟩
   rw [Q131.l2,if_neg (by simp),Zgw k (by omega),Option.bind_some]
  by_cases q1:j<l.length
  ·cases m with
   | zero=>
    refine ⟨5000,fun k hk=>?_⟩
    show P1 k c l (a:Int) s w (j:Int)=_
    obtain ⟨k,rfl⟩:∃ k2,k=k2+1:=⟨k - 1,by omega⟩
    unfold P1
    rw [Q131.l1,if_pos (decide_eq_true (by omega)),decide_eq_false (show ¬ (j:Int)<40 by omega)]
    exact stop k (by omega)
   | succ m=>
    obtain ⟨i,ei,hi,hkd⟩:=hf _ (Xv (d:=default) q1)
    have hact:l.getD j default=((l.getD j default).1,(i:Int),(l.getD j default).2.2):=by rw [← ei]
    have enter:∀ k,6000<k→(SmallN (l.getD j default).2.2→((Q135.f (k - 2) w (l.getD j default)).bind fun r17=>((Q134.f (k - 2) s (l.getD j default)).bind fun r18=>(if (!decide (r18.2.1=r17.2.2))=true then (Q131.l3 (k - 2) c l (a:Int) r17 r18 (j:Int) true) else (Q131.l3 (k - 2) c l (a:Int) r17 r18 (j:Int) (!decide (r18.1=r17.2.1))))))=some true)→P1 k c l (a:Int) s w (j:Int)=some true:=fun k hk hx=>by
     obtain ⟨k,rfl⟩:∃ k2,k=k2+2:=⟨k - 2,by omega⟩
     unfold P1
     rw [Q131.l1,if_pos (decide_eq_true (by omega)),decide_eq_true (show (j:Int)<40 by omega),Q131.l2,if_pos rfl,if_pos (by omega),Z9]
     obtain ⟨g2,e2,h2⟩:=Zhz (l.getD j default).2.2 (k:=k) (by omega)
     rw [e2,Option.bind_some]
     cases g2 with
     | true=>rw [if_pos rfl,Zgw k (by omega),Option.bind_some]
     | false=>rw [if_neg (by simp)]; exact hx (h2 rfl)
    by_cases sm:SmallN (l.getD j default).2.2
    ·obtain ⟨w',x,r,s',L',q',K',h',⟨b1,e1⟩,⟨b2,e2⟩,H',R'⟩:=Zme g H R (by omega) (l.getD j default).1 hi (nd:=(l.getD j default).2.2) ⟨sm,hkd⟩
     rw [← hact] at e1 e2
     obtain ⟨s2,L2,⟨b3,e3⟩,H2,_⟩:=Zpl g H' (by omega) ha
     obtain ⟨nd,e,kn,e4,h4⟩:=Zpt g R' ha
     have ih:=Zli g hN hf ha m (j+1) s2 L2 q' K' h' w' (by omega) (H2.up (by omega)) R'
     obtain ⟨b5,e5⟩:=Zo4 g H2 R' hN (l:=l) (a:=a) (j:=j) ha (by omega) x r (if 1≤a∧a<N then Vv c (K' a) else (W5,4)).1 (if 1≤a∧a<N then Vv c (K' a) else (W5,4)).2 ih
     refine ⟨b1+b2+b3+b5+7000,fun k hk=>enter k (by omega) fun _=>?_⟩
     obtain ⟨k,rfl⟩:∃ k2,k=k2+3:=⟨k - 3,by omega⟩
     rw [show k+3 - 2=k+1 by omega,show Q135.f (k+1) w _=_ from e1 (k+1) (by omega),Option.bind_some,show Q134.f (k+1) s _=_ from e2 (k+1) (by omega),Option.bind_some,if_neg (by simp),show (!decide (x=x))=false by simp,Q131.l3,if_neg (by simp)]
     have e3':Q91.f k s' (a:Int)=some ((if 1≤a∧a<N then Vv c (K' a) else (W5,4)).1,(if 1≤a∧a<N then Vv c (K' a) else (W5,4)).2,s2):=by
      rw [show Q91.f k s' (a:Int)=_ from e3 k (by omega)]
      split <;> rfl
     have l4:=e5 k (by omega)
     dsimp only
     rw [e3',Option.bind_some,e4,Option.bind_some]
     dsimp only
     cases kn with
     | false=>rw [if_neg (by simp)]; exact l4
     | true=>
      obtain ⟨h5,h6,h7,h8,h9⟩:=h4 rfl
      rw [h5] at l4 ⊢
      rw [if_pos rfl,if_neg (by simp),Zh3 h6 h7 h8 h9 (by omega),Option.bind_some,decide_eq_true rfl]
      exact l4
    ·exact ⟨7000,fun k hk=>enter k (by omega) fun h=>absurd h sm⟩
  ·refine ⟨5000,fun k hk=>?_⟩
   show P1 k c l (a:Int) s w (j:Int)=_
   obtain ⟨k,rfl⟩:∃ k2,k=k2+1:=⟨k - 1,by omega⟩
   unfold P1
   rw [Q131.l1,if_neg (by simp only [decide_eq_true_eq]; omega)]
   exact stop k (by omega)
theorem Zk3 (g:Geo c N B n) (hN:N≤400) {l:List Zdj} (hf:∀ x∈l,∃ i:Nat,x.2.1=(i:Int)∧i<4294967296∧∀ y∈x.2.2.2.1,0≤y∧y<4294967296) {a:Nat} (ha:a<4294967296) {ch:Chn} (hc:ChI n ch []):∀(m j:Nat),j+m=n→Ev (fun k=>Q131.l0 k c l (a:Int) ((B:Int),List.replicate (N*B) 0,(0,0)) ch ((List.range j).map fun(i:Nat)=>(i:Int)) (j:Int)) true
 | 0,j,hj=>by
  have e:j=n:=by omega
  subst e
  have h64:=g.z.h64
  obtain ⟨p,ep,bp⟩:=Zmf g.N5.1 g.N5.2
  obtain ⟨w,ew,R⟩:=Zqp g
  obtain ⟨b,hb⟩:=Zli g hN hf ha 40 0 (Zdp c N B j ch p) [] 0 _ _ w (by omega) (Zqq g hc bp) R
  refine ⟨b+1,fun k hk=>?_⟩
  obtain ⟨k,rfl⟩:∃ k2,k=k2+1:=⟨k - 1,by omega⟩
  have hx:=hb k (by omega)
  have eb:=Ja (s:=(0,0)) (N:=N) (n:=B) g.z.hB (img:=List.replicate (N*B) 0) (by simp) g.z.hNB
  show Q131.l0 (k+1) c l _ _ _ _ _=_
  rw [Q131.l0,g.en,if_neg (by simp),eb,Option.bind_some,g.eN,if_neg (by simp),Q55.f,Option.bind_some,g.eB,if_neg (by simp),ep,Option.bind_some]
  dsimp only [V1]
  rw [if_pos (by simp),ew,Option.bind_some,Int.toNat_natCast]
  exact hx
 | m+1,j,hj=>by
  have h64:=g.z.h64
  obtain ⟨k0,hk⟩:=Zk3 g hN hf ha hc m (j+1) (by omega)
  refine ⟨k0+1,fun k hk2=>?_⟩
  obtain ⟨k,rfl⟩:∃ k2,k=k2+1:=⟨k - 1,by omega⟩
  have hx:=hk k (by omega)
  show Q131.l0 (k+1) c l _ _ _ _ _=_
  rw [Q131.l0,g.en,if_pos (decide_eq_true (by omega)),if_pos (by simp; omega),Ya (by omega)]
  dsimp only at hx
  rw [List.range_succ,List.map_append] at hx
  exact hx
end
theorem Zp9 {c:Cfg} {l:List Zdj} {a:Nat} (ha:a<4294967296) (hf:∀ x∈l,∃ i:Nat,x.2.1=(i:Int)∧i<4294967296∧∀ y∈x.2.2.2.1,0≤y∧y<4294967296):∃ k,Q131.f k c l (a:Int)=some true:=by
 by_cases light:(okB c && (decide (c.2.1≤3000) && decide (c.1≤400)))=true
 ·obtain ⟨N,B,n,g,hN,hB⟩:=Zp3 light
  obtain ⟨ch,ec,hch⟩:=Zqk (n:=n) g.z.hn g.z.h64
  obtain ⟨k0,hk⟩:=Zk3 g hN hf ha hch n 0 (by omega)
  have eb:=Ja (s:=(0,0)) (N:=N) (n:=B) g.z.hB (img:=List.replicate (N*B) 0) (by simp) g.z.hNB
  have h5:=g.N5
  have h8:=g.n8
  have h64:=g.z.h64
  refine ⟨k0+3000,?_⟩
  have hx:=hk (k0+3000) (by omega)
  unfold Q131.f
  rw [Zka c (by omega),light,Option.bind_some,if_neg (by simp),g.eN,g.eB,Zo8 ⟨g.N5.1,g.N5.2,g.z.hB,g.hB⟩,Option.bind_some]
  dsimp only [V1]
  rw [if_pos (by simp),show Q49.f c=_ from Zc7 c,if_pos g.ok,Option.bind_some,if_neg (by simp),eb,Option.bind_some,if_neg (by simp only [decide_eq_true_eq]; omega),g.en,if_neg (by simp only [decide_eq_true_eq]; omega),if_neg (by simp only [decide_eq_true_eq]; omega),ec,Option.bind_some]
  dsimp only [V1]
  rw [if_pos (by simp),if_pos (by omega)]
  exact hx
 ·refine ⟨3000,?_⟩
  unfold Q131.f
  rw [Zka c (by omega),Bool.eq_false_iff.2 light,Option.bind_some,if_pos (show (!false)=true from rfl),Zgw _ (by omega),Option.bind_some]
theorem ShelfPlays_pure (c:Cfg) (l:List Zdj) (a:Int) (_:Ty.fit (Ju tt) (.pair (.int .i64) (.pair (.int .i64) (.pair (.int .i64) (.pair (.int .i64) (.pair (.int .i64) (.pair (.int .i64) (.pair (.int .i64) (.int .i64)))))))) c) (hl:Ty.fit (Ju tt) (.slice 45 (.pair (.int .i64) (.pair (.int .u32) (.pair (.int .i64) (.pair (.slice 33 (.int .u32)) (.pair (.slice 9 .str) (.pair (.slice 115 (.pair .str (.pair .bool .str))) (.slice 106 (.pair .str .str))))))))) l) (ha:Ty.fit (Ju tt) (.int .u32) a):∃ k,Q131.f k c l a=some true:=by
 have h1:IntKind.u32.min=0:=rfl
 have h2:IntKind.u32.max=4294967295:=rfl
 have ha':0≤a∧a<4294967296:=by simp [Ty.fit,Lit.wf] at ha; omega
 obtain ⟨a,rfl⟩:=Int.eq_ofNat_of_zero_le ha'.1
 refine Zp9 (by omega) fun x hx=>?_
 have hx2:=hl.2.2 x hx
 have hi:=hx2.2.1
 have hk:=hx2.2.2.2.1
 simp only [Ty.fit,Lit.wf] at hi
 have hi':0≤x.2.1∧x.2.1<4294967296:=by
  simp at hi
  omega
 obtain ⟨i,e⟩:=Int.eq_ofNat_of_zero_le hi'.1
 refine ⟨i,e,by omega,fun y hy=>?_⟩
 have hy2:=hk.2.2 y hy
 simp [Ty.fit,Lit.wf] at hy2
 omega
end Go.SK.T
