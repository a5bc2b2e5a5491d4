/- The plain law behind WalkCorrupt: what its code computes is true for all settings, trees, places and nodes. -/
import Derived.Test.YtolapahaeipgfaaGreatDoorXWalkCorruptP0
import Derived.KernelRfl
import Derived.Sort.Walk13a
import Derived.Sort.AssemblyPlain
set_option linter.unusedVariables false
set_option linter.unusedSimpArgs false
namespace Go.SK.T
open Go Go.SK
open BitVec (ofInt)
open List (length_set length_nil append_assoc length_cons drop_eq_nil_of_le length_take length_drop length_map length_range length_replicate)
theorem Za6 {g:Nat->Nat}:∀ {L:List Nat} {a:Nat},(∀ x∈L,g x=g a->x=a)->(L.erase a).map g=(L.map g).erase (g a)
 | [],_,_=>rfl
 | x :: L,a,h=>by
  rw [List.map_cons,List.erase_cons,List.erase_cons];by_cases q:x=a
  ·subst q; simp
  ·have:¬ g x=g a:=fun e=>q (h x (by simp) e);simp only [beq_iff_eq,q,this,if_false,List.map_cons];rw [Za6 fun y hy=>h y (by simp [hy])]
section
variable {N B n t:Nat} {H:List Nat} {c:Ca} {L:List Nat}
theorem V5 (h:CaI N B n t H c L) {i f:Nat} (ha:((i:Int),(f:Int))∈c.2.2.1):Xq c i=some (fm (c.2.1.getD f default)):=by
 unfold Xq;rw [iT (mhas_iff.2 ⟨_,ha⟩),We h.mnd ha,tN]
theorem Ja {i:Nat} (h:∀ v,((i:Int),v)∉c.2.2.1):Xq c i=none:=by
 unfold Xq;rw [iF fun q=>by obtain ⟨v,hv⟩:=mhas_iff.1 q; exact h v hv]
theorem Vv (h:CaI N B n t [] c L) {f:Nat} (hf:f∈L):∃ i:Nat,((i:Int),(f:Int))∈c.2.2.1/\Wa c f=i/\(c.2.1.getD f default).2.2.2=0/\Okf N B n t c i f:=by
 obtain ⟨⟨j,hj⟩,hp⟩:=(h.lok f).1 hf;obtain ⟨i,f',e1,e2,ok⟩:=h.at hj;have:f=f':=by omega
 subst this;refine ⟨i,by rw [<- e1]; exact hj,?_,hp,ok⟩;unfold Wa;rw [ok.blk,tN]
theorem Ga (h:CaI N B n t H c L) {i f:Nat} (ha:((i:Int),(f:Int))∈c.2.2.1):Wa c f=i:=by
 unfold Wa; rw [(h.atN ha).blk,tN]
theorem Zbr (h:CaI N B n t H c L) {i f f':Nat} (h1:((i:Int),(f:Int))∈c.2.2.1) (h2:((i:Int),(f':Int))∈c.2.2.1):f=f':=by
 have a1:=We (d:=0) h.mnd h1;have a2:=We (d:=0) h.mnd h2;omega
theorem Gv (h:CaI N B n t [] c L) {i f:Nat} (ha:((i:Int),(f:Int))∈c.2.2.1):(L.erase f).map (Wa c)=(L.map (Wa c)).erase i:=by
 have e:=Ga h ha
 conv=>rhs; rw [<- e]
 refine Za6 fun x hx q=>?_;obtain ⟨j,hj,e2,_⟩:=Vv h hx;have:j=i:=by omega
 subst this;exact Zbr h hj ha
theorem Zpw (h:CaI N B n t [] c L) {i f:Nat} (ha:((i:Int),(f:Int))∈c.2.2.1):i∈L.map (Wa c)↔f∈L:=by
 constructor
 ·intro q;obtain ⟨x,hx,e⟩:=List.mem_map.1 q;obtain ⟨j,hj,e2,_⟩:=Vv h hx;have:j=i:=by omega
  subst this;rw [<- Zbr h hj ha]; exact hx
 ·intro q;exact List.mem_map.2 ⟨f,q,Ga h ha⟩
theorem Zfz {f:Nat} {x:Fr8} (hf:f<c.2.1.length) {d:Dv} {mp:TS} {E:T2} {ch:Chn} (k:Nat):Wa (d,c.2.1.set f x,mp,E,ch) k=if f=k then x.1.toNat else Wa c k:=by
 unfold Wa
 try dsimp only
 rw [Xc hf];split <;> rfl
theorem Vg {f:Nat} {x:Fr8} (hf:f<c.2.1.length) (hx:x.1.toNat=Wa c f) {d:Dv} {mp:TS} {E:T2} {ch:Chn} (M:List Nat):M.map (Wa (d,c.2.1.set f x,mp,E,ch))=M.map (Wa c):=List.map_congr_left fun k _=>by
 rw [Zfz hf];split
 ·rename_i q; rw [hx,q]
 ·rfl
theorem Jc {f:Nat} {x:Fr8} (hf:f<c.2.1.length) {d:Dv} {mp:TS} {E:T2} {ch:Chn} {M:List Nat} (hM:f∉M):M.map (Wa (d,c.2.1.set f x,mp,E,ch))=M.map (Wa c):=List.map_congr_left fun k hk=>by
 rw [Zfz hf,iF fun q=>hM (by rw [q]; exact hk)]
theorem U6 (h:CaI N B n t H c L) {i f:Nat} (ha:((i:Int),(f:Int))∈c.2.2.1) {x:Fr8} {d:Dv} {E:T2} {ch:Chn} (j:Nat):Xq (d,c.2.1.set f x,c.2.2.1,E,ch) j=upd (Xq c) i (some (fm x)) j:=by
 have ok:=h.atN ha;have hfl:f<c.2.1.length:=by rw [h.frl]; exact ok.hf
 by_cases q:j=i
 ·subst q;rw [Z7];unfold Xq
  try dsimp only
  rw [iT (mhas_iff.2 ⟨_,ha⟩),We h.mnd ha,tN,Xc hfl,iT rfl]
 ·rw [Yf q];unfold Xq
  try dsimp only
  split
  ·rename_i hm;obtain ⟨v,hv⟩:=mhas_iff.1 hm;obtain ⟨j',f',e1,rfl,ok'⟩:=h.at hv;have e3:j=j':=by omega
   subst e3;rw [We h.mnd hv,tN,Xc hfl,iF];intro e; subst e; exact q (h.one hv ha)
  ·rfl
theorem Ze9 (h:CaI N B n t H c L) (i j:Nat):Y6 (Wm (i:Int) c.2.2.1) (j:Int)=(Y6 c.2.2.1 (j:Int) && decide (j≠i)):=by
 rw [Bool.eq_iff_iff,mhas_iff,Bool.and_eq_true,mhas_iff,dE];constructor
 ·rintro ⟨v,hv⟩;rw [Uh h.mnd] at hv;exact ⟨⟨v,hv.1⟩,fun e=>hv.2 (by rw [e])⟩
 ·rintro ⟨⟨v,hv⟩,e⟩;exact ⟨v,(Uh h.mnd).2 ⟨hv,fun q=>e (by have:(j:Int)=i:=q; omega)⟩⟩
theorem Zd4 (h:CaI N B n t H c L) {i f:Nat} (ha:((i:Int),(f:Int))∈c.2.2.1) {x:Fr8} {d:Dv} {E:T2} {ch:Chn} (j:Nat):Xq (d,c.2.1.set f x,Wm (i:Int) c.2.2.1,E,ch) j=upd (Xq c) i none j:=by
 have ok:=h.atN ha;have hfl:f<c.2.1.length:=by rw [h.frl]; exact ok.hf
 by_cases q:j=i
 ·subst q;rw [Z7];unfold Xq
  try dsimp only
  rw [iF (by rw [Ze9 h]; simp)]
 ·rw [Yf q];unfold Xq
  try dsimp only
  rw [Ze9 h];by_cases hm:Y6 c.2.2.1 (j:Int)=true
  ·obtain ⟨v,hv⟩:=mhas_iff.1 hm;obtain ⟨j',f',e1,rfl,ok'⟩:=h.at hv;have e3:j=j':=by omega
   subst e3;have hv':((j:Int),(f':Int))∈Wm (i:Int) c.2.2.1:=(Uh h.mnd).2 ⟨hv,fun e=>q (by have:(j:Int)=i:=e; omega)⟩;rw [iT (by rw [hm]; simp [q]),iT hm,We ((mdel_sub.map _).nodup h.mnd) hv',We h.mnd hv,tN,Xc hfl,iF];intro e; subst e; exact q (h.one hv ha)
  ·rw [iF hm,iF (by simp [hm])]
theorem Zfi {f:Nat} (h:CaI N B n t [f] c L) {i:Nat} (hno:∀ v,((i:Int),v)∉c.2.2.1) {x:Fr8} {d:Dv} {E:T2} {ch:Chn} (j:Nat):Xq (d,c.2.1.set f x,c.2.2.1 ++ [((i:Int),(f:Int))],E,ch) j=upd (Xq c) i (some (fm x)) j:=by
 obtain ⟨hf,hfe,hfm⟩:=h.hol f (by simp);have hfl:f<c.2.1.length:=by rw [h.frl]; exact hf
 have hnd:((c.2.2.1 ++ [((i:Int),(f:Int))]).map Prod.fst).Nodup:=by
  rw [List.map_append,List.nodup_append];refine ⟨h.mnd,by simp,fun a ha b hb e=>?_⟩;obtain ⟨p,hp,rfl⟩:=List.mem_map.1 ha;simp only [List.map_cons,List.map_nil,List.mem_singleton] at hb;exact hno p.2 (by rw [<- hb,<- e]; exact hp)
 unfold Xq
 try dsimp only
 by_cases q:j=i
 ·subst q;have hv:((j:Int),(f:Int))∈c.2.2.1 ++ [((j:Int),(f:Int))]:=by simp
  rw [Z7,iT (mhas_iff.2 ⟨_,hv⟩),We hnd hv,tN,Xc hfl,iT rfl]
 ·rw [Yf q];by_cases hm:Y6 c.2.2.1 (j:Int)=true
  ·obtain ⟨v,hv⟩:=mhas_iff.1 hm;obtain ⟨j',f',e1,rfl,ok'⟩:=h.at hv;have e3:j=j':=by omega
   subst e3;have hv':((j:Int),(f':Int))∈c.2.2.1 ++ [((i:Int),(f:Int))]:=by simp [hv]
   rw [iT (mhas_iff.2 ⟨_,hv'⟩),iT hm,We hnd hv',We h.mnd hv,tN,Xc hfl,iF];intro e; subst e; exact hfm _ hv
  ·rw [iF hm,iF];intro hm2;obtain ⟨v,hv⟩:=mhas_iff.1 hm2;rcases List.mem_append.1 hv with hv | hv
   ·exact hm (mhas_iff.2 ⟨v,hv⟩)
   ·rw [List.mem_singleton,Prod.mk.injEq] at hv;exact q (by omega)
theorem Zpi (h:CaI N B n t H c L) {i:Nat} {x:Fm} (hx:Xq c i=some x):i<N/\x.b.length=B/\x.p<=t:=by
 unfold Xq at hx;split at hx
 ·rename_i hm;obtain ⟨v,hv⟩:=mhas_iff.1 hm;obtain ⟨j',f',e1,rfl,ok'⟩:=h.at hv;have e3:i=j':=by omega
  subst e3;rw [We h.mnd hv,tN] at hx;injection hx with hx;subst hx;refine ⟨ok'.hi,ok'.len,?_⟩;have:=ok'.pin;unfold fm
  try dsimp only
  omega
 ·cases hx
end
namespace MC
section
variable {N B n i:Nat} {m k:MC} {x:Fm} {b:T2}
theorem pin_out (h:N<=i):m.pin N B n i=(4,m):=by unfold pin; rw [iT h]
theorem pin_hit (h:¬ N<=i) (e:m.fr i=some x):m.pin N B n i=(0,(m.put i ⟨x.b,x.d,x.p+1⟩).cut i):=by unfold pin; rw [iF h,e]
theorem pin_full (h:¬ N<=i) (e:m.fr i=none) (r:m.room B n=none):m.pin N B n i=(7,m):=by unfold pin; rw [iF h,e,r]
theorem pin_miss (h:¬ N<=i) (e:m.fr i=none) (r:m.room B n=some k):m.pin N B n i=(0,(⟨k.img,k.rd+1,k.wr,k.fr,k.used,k.row⟩:MC).come i ⟨blk k.img B i,false,1⟩):=by unfold pin; rw [iF h,e,r]
theorem fresh_out (h:N<=i):m.fresh N B n i=(4,m):=by unfold fresh; rw [iT h]
theorem fresh_pin (h:¬ N<=i) (e:m.fr i=some x) (p:0<x.p):m.fresh N B n i=(8,m):=by unfold fresh; rw [iF h,e]; exact iT p
theorem fresh_hit (h:¬ N<=i) (e:m.fr i=some x) (p:¬ 0<x.p):m.fresh N B n i=(0,(m.put i ⟨List.replicate B 0,true,1⟩).cut i):=by unfold fresh; rw [iF h,e]; exact iF p
theorem fresh_full (h:¬ N<=i) (e:m.fr i=none) (r:m.room B n=none):m.fresh N B n i=(7,m):=by unfold fresh; rw [iF h,e,r]
theorem fresh_miss (h:¬ N<=i) (e:m.fr i=none) (r:m.room B n=some k):m.fresh N B n i=(0,k.come i ⟨List.replicate B 0,true,1⟩):=by unfold fresh; rw [iF h,e,r]
theorem unpin_no (e:m.fr i=none):m.unpin i=(8,m):=by unfold unpin; rw [e]
theorem unpin_out (e:m.fr i=some x) (p:x.p=0):m.unpin i=(8,m):=by unfold unpin; rw [e]; exact iT p
theorem unpin_one (e:m.fr i=some x) (p:x.p=1):m.unpin i=(0,⟨m.img,m.rd,m.wr,upd m.fr i (some ⟨x.b,x.d,0⟩),m.used,i :: m.row⟩):=by unfold unpin; rw [e]; dsimp only; rw [iQ,iT p]
theorem unpin_more (e:m.fr i=some x) (p:x.p≠0) (q:x.p≠1):m.unpin i=(0,m.put i ⟨x.b,x.d,x.p - 1⟩):=by unfold unpin; rw [e]; dsimp only; rw [iF p,iF q]
theorem write_no (e:m.fr i=none):m.write B i b=(8,m):=by unfold write; rw [e]
theorem write_out (e:m.fr i=some x) (p:x.p=0):m.write B i b=(8,m):=by unfold write; rw [e]; exact iT p
theorem write_form (e:m.fr i=some x) (p:x.p≠0) (q:b.length≠B):m.write B i b=(3,m):=by unfold write; rw [e]; dsimp only; rw [iF p,iF q]
theorem write_hit (e:m.fr i=some x) (p:x.p≠0) (q:b.length=B):m.write B i b=(0,m.put i ⟨b,true,x.p⟩):=by unfold write; rw [e]; dsimp only; rw [iF p,iT q]
theorem read_no (e:m.fr i=none):m.read i=([],8):=by unfold read; rw [e]
theorem read_out (e:m.fr i=some x) (p:x.p=0):m.read i=([],8):=by unfold read; rw [e]; exact iT p
theorem read_hit (e:m.fr i=some x) (p:x.p≠0):m.read i=(x.b,0):=by unfold read; rw [e]; exact iF p
theorem evict_eq (e:m.fr i=some x):m.evict B i=⟨if x.d=true then patch m.img (i*B) B x.b else m.img,m.rd,if x.d=true then m.wr+1 else m.wr,upd m.fr i none,m.used - 1,m.row.erase i⟩:=by unfold evict; rw [e]
end
end MC
section
variable {N B n t:Nat} {H:List Nat} {c:Ca} {L:List Nat}
theorem Zpo {α:Type} (g:Nat->α) (i:Nat) (u v:α) (j:Nat):upd (upd g i u) i v j=upd g i v j:=by unfold upd; split <;> rfl
theorem Zlp {α:Type} {g g':Nat->α} (h:∀ j,g j=g' j) (i:Nat) (v:α) (j:Nat):upd g i v j=upd g' i v j:=by unfold upd; split; rfl; exact h j
theorem Zg7 (h:CaI N B n t [] c L) (f:Nat):f∉L.erase f:=fun q=>(h.chn.nd.mem_erase_iff.1 q).1 rfl
theorem Zom (z:Siz N B n) (h:CaI N B n t [] c L) (hw:0<=c.1.2.2.2/\c.1.2.2.2<=1000000000):(Q21.f c=some (0,false,c)/\(Z6 c L).room B n=none)\/
  ∃(f:Nat) (c':Ca) (L':List Nat),Q21.f c=some ((f:Int),true,c')/\CaI N B n t [f] c' L'/\(Z6 c L).room B n=some (Z6 c' L')/\f∉L':=by
 have h64:=z.h64;have htot:=h.tot;have hfl:=h.frl;have wr:uH.wrap (c.1.2.2.2+1)=c.1.2.2.2+1:=Zoq hw;have hru:(Z6 c L).used=c.2.2.1.length:=rfl;by_cases he:c.2.2.2.1=[]
 ·have e0:(decide ((c.2.2.2.1.length:Int)=0))=true:=by rw [he]; rfl
  have eu:¬ (Z6 c L).used<n:=by rw [hru]; rw [he] at htot; simp only [length_nil] at htot; omega
  rcases List.eq_nil_or_concat L with rfl | ⟨L0,q,hq⟩
  ·left;refine ⟨?_,?_⟩
   ·unfold Q21.f;rw [iT e0,show Q25.f (c.2.2.2.2.1,c.2.2.2.2.2)=_ from Ze0 h.chn,bS,iU]
   ·unfold MC.room;rw [iF eu];rfl
  ·right;rw [List.concat_eq_append] at hq;subst hq;obtain ⟨⟨j,hj⟩,hp⟩:=(h.lok q).1 (by simp);obtain ⟨i,q',rfl,e2,ok⟩:=h.at hj;have:q=q':=by omega
   subst this;have hf:=ok.hf;have hqn:q∉(L0 ++ [q]).erase q:=Zg7 h q;have hfr:=V5 h hj;have g:gt c.2.1 (q:Int)=c.2.1.getD q default:=Zv _ _;have hrm:(Z6 c (L0 ++ [q])).room B n=some ((Z6 c (L0 ++ [q])).evict B i):=by
    unfold MC.room;rw [iF eu];have:(Z6 c (L0 ++ [q])).row.getLast?=some i:=by
     show ((L0 ++ [q]).map (Wa c)).getLast?=_;rw [List.map_append,List.map_cons,List.map_nil,List.getLast?_concat,Ga h hj]
    rw [this]
   have hml:=Zco (mhas_iff.2 ⟨_,hj⟩);unfold Q21.f;rw [iT e0,show Q25.f (c.2.2.2.2.1,c.2.2.2.2.2)=_ from Zou h.chn (by omega),bS,vS]
   try dsimp only
   rw [iO];have one:w64 ((([] ++ [(q:Int)]:List Int).length:Int) - 1)=0:=by
    show w64 (((1:Nat):Int) - 1)=0;decide
   rw [hrm,MC.evict_eq (show (Z6 c (L0 ++ [q])).fr i=_ from hfr)];by_cases hd:(gt c.2.1 (q:Int)).2.2.1=true
   ·have hb:=h.back z hj (c.1.2.2.1,c.1.2.2.2+1);obtain ⟨ch,e,hl⟩:=Zdt z hb (by exact hj);have hd':(fm (c.2.1.getD q default)).d=true:=by rw [<- g]; exact hd
    rw [iT hd,show Q53.f (c.1.1,c.1.2.1,(c.1.2.2.1,c.1.2.2.2)) (gt c.2.1 (q:Int)).1 (gt c.2.1 (q:Int)).2.1=_ from Zlw z h hj,bS]
    try dsimp only
    rw [wr,tN,show Q19.f ((c.1.1,patch c.1.2.1 (i*B) B (gt c.2.1 (q:Int)).2.1,c.1.2.2.1,c.1.2.2.2+1),c.2.1.set q ((gt c.2.1 (q:Int)).1,(gt c.2.1 (q:Int)).2.1,false,(gt c.2.1 (q:Int)).2.2.2),c.2.2.1,c.2.2.2.1,c.2.2.2.2.1,c.2.2.2.2.2) (q:Int)=_ from e,bS]
    try dsimp only
    rw [he,one,iU,iU,iT hd',iT hd'];refine ⟨q,_,(L0 ++ [q]).erase q,rfl,hl.take (E:=[]) (by dsimp only; rw [he]),congrArg some (MC.ext' ?_ rfl rfl ?_ ?_ ?_),hqn⟩
    ·show patch c.1.2.1 (i*B) B (fm (c.2.1.getD q default)).b=_;rw [<- g]; rfl
    ·intro j;show upd (Xq c) i none j=_;refine Eq.trans ?_ (Zd4 hb hj j).symm;refine Eq.trans (Zpo (Xq c) i _ none j).symm (Zlp (fun j=>(U6 h hj j).symm) i none j)
    ·show c.2.2.1.length - 1=(Wm (i:Int) c.2.2.1).length;omega
    ·show ((L0 ++ [q]).map (Wa c)).erase i=_;have hfl2:=hb.frl;refine Eq.trans (Gv h hj).symm ?_;refine Eq.trans ?_ (Jc (c:=((c.1.1,patch c.1.2.1 (i*B) B (gt c.2.1 (q:Int)).2.1,c.1.2.2.1,c.1.2.2.2+1),c.2.1.set q ((gt c.2.1 (q:Int)).1,(gt c.2.1 (q:Int)).2.1,false,(gt c.2.1 (q:Int)).2.2.2),c.2.2)) (by rw [hfl2]; exact hf) hqn).symm;exact (Vg (by omega) (by rw [g]; rfl) _).symm
   ·obtain ⟨ch,e,hl⟩:=Zdt z h hj;have hd':¬ (fm (c.2.1.getD q default)).d=true:=by rw [<- g]; exact hd
    rw [iF hd,show Q19.f ((c.1.1,c.1.2.1,(c.1.2.2.1,c.1.2.2.2)),c.2.1,c.2.2.1,c.2.2.2.1,(c.2.2.2.2.1,c.2.2.2.2.2)) (q:Int)=_ from e,bS]
    try dsimp only
    rw [he,one,iU,iU,iF hd',iF hd'];refine ⟨q,_,(L0 ++ [q]).erase q,rfl,hl.take (E:=[]) (by dsimp only; rw [he]),congrArg some (MC.ext' rfl rfl rfl ?_ ?_ ?_),hqn⟩
    ·intro j;exact (Zd4 h hj j).symm
    ·show c.2.2.1.length - 1=(Wm (i:Int) c.2.2.1).length;omega
    ·show ((L0 ++ [q]).map (Wa c)).erase i=_;refine Eq.trans (Gv h hj).symm ?_;exact (Jc (by omega) hqn).symm
 ·right;obtain ⟨E,x,hx⟩:∃ E x,c.2.2.2.1=E ++ [x]:=by
   rcases List.eq_nil_or_concat c.2.2.2.1 with e | ⟨E,x,e⟩
   ·exact absurd e he
   ·exact ⟨E,x,by rw [e,List.concat_eq_append]⟩
  obtain ⟨f,rfl,hf⟩:=h.emp x (by rw [hx]; simp);have hll:c.2.2.2.1.length=E.length+1:=by rw [hx]; simp
  have e1:w64 ((c.2.2.2.1.length:Int) - 1)=(E.length:Int):=by rw [wI2]; omega
  unfold Q21.f;rw [iN,e1,iO,iO,tN];have e2:gt c.2.2.2.1 (E.length:Int)=(f:Int):=by
   rw [Zv,hx,List.getD_eq_getElem?_getD,List.getElem?_append_right (Nat.le_refl _)]; simp
  have e3:c.2.2.2.1.take E.length=E:=by rw [hx,List.take_left]
  rw [e2,e3];refine ⟨f,_,L,rfl,h.take hx,?_,fun q=>?_⟩
  ·unfold MC.room;rw [iT (by rw [hru]; omega)];rfl
  ·obtain ⟨i,hi,_,_,ok⟩:=Vv h q;exact ok.emp (by rw [hx]; simp)
theorem Zsz (z:Siz N B n) (h:CaI N B n t [] c L) (fw:Few c) (ht:t<=1000000) (i:Nat) (hi:i<4294967296):∃ c' L',Q15.f c (i:Int)=some (((Z6 c L).pin N B n i).1,c')/\CaI N B n (t+1) [] c' L'/\Z6 c' L'=((Z6 c L).pin N B n i).2:=by
 have h64:=z.h64;have hfl:=h.frl;unfold Q15.f;rw [show Q22.f ((c.1.1,c.1.2.1,(c.1.2.2.1,c.1.2.2.2)),c.2.1,c.2.2.1,c.2.2.2.1,(c.2.2.2.2.1,c.2.2.2.2.2)) (i:Int)=_ from Zmr z h i hi,bS];by_cases q:N<=i
 ·rw [iT q,iU,MC.pin_out q];exact ⟨_,L,rfl,h.mono (Nat.le_succ t),rfl⟩
 ·rw [iF q,vS];rcases h.get i with ⟨g1,g2⟩ | ⟨f,ha,g1,g2,ok⟩
  ·have hno:(Z6 c L).fr i=none:=Ja g2;rw [iF (by simp [g1])];rcases Zom z h ⟨fw.wr.1,by have:=fw.wr.2; omega⟩ with ⟨e,er⟩ | ⟨f,c1,L1,e,h1,er,hfL⟩
   ·rw [show Q21.f ((c.1.1,c.1.2.1,(c.1.2.2.1,c.1.2.2.2)),c.2.1,c.2.2.1,c.2.2.2.1,(c.2.2.2.2.1,c.2.2.2.2.2))=_ from e,bS,iU,MC.pin_full q hno er];exact ⟨_,L,rfl,h.mono (Nat.le_succ t),rfl⟩
   ·rcases Zos z h ⟨fw.wr.1,by have:=fw.wr.2; omega⟩ with e' | ⟨f',c1',L1',e',_,k1,k2,k3⟩
    ·rw [e] at e'; simp at e'
    ·rw [e] at e';simp only [Option.some.injEq,Prod.mk.injEq,true_and] at e';have ec:c1=c1':=e'.2;subst ec;obtain ⟨hf,hfe,hfm⟩:=h1.hol f (by simp);have hfl1:=h1.frl;have hno1:∀ v,((i:Int),v)∉c1.2.2.1:=fun v hv=>g2 v (k3 _ hv);obtain ⟨r5,ch,e5,hc5⟩:=Zhv h1.chn hf (by omega);rw [List.erase_of_not_mem hfL] at hc5;rw [show Q21.f ((c.1.1,c.1.2.1,(c.1.2.2.1,c.1.2.2.2)),c.2.1,c.2.2.1,c.2.2.2.1,(c.2.2.2.2.1,c.2.2.2.2.2))=_ from e,bS,vS]
     try dsimp only
     rw [show Q52.f (c1.1.1,c1.1.2.1,(c1.1.2.2.1,c1.1.2.2.2)) (i:Int)=_ from Zqs z h1 (by omega),bS,vS,iO,show Q23.f (c1.2.2.2.2.1,c1.2.2.2.2.2) (f:Int)=_ from e5,bS];have hcm:=(h1.mono (Nat.le_succ t)).come (show i<N by omega) hno1 (x:=((i:Int),blk c1.1.2.1 B i,false,1)) rfl (Zdw h1.dim (by omega)) rfl (by omega) hc5
     try dsimp only
     rw [Zoq (by rw [k1]; have:=fw.rd; omega),Zf2 hno1,tN,MC.pin_miss q hno er];refine ⟨_,L1,rfl,hcm.dev (s:=(c1.1.2.2.1+1,c1.1.2.2.2)) h1.dim,MC.ext' rfl rfl rfl ?_ ?_ ?_⟩
     ·intro j; exact Zfi h1 hno1 j
     ·show (c1.2.2.1 ++ [((i:Int),(f:Int))]).length=c1.2.2.1.length+1;simp
     ·exact Jc (by omega) hfL
  ·have hf:=ok.hf;have hp:=ok.pin;have hfr:(Z6 c L).fr i=_:=V5 h ha;obtain ⟨r2,ch,e2,hc2⟩:=Zhv h.chn ok.hf (by omega);have g:gt c.2.1 (f:Int)=c.2.1.getD f default:=Zv _ _;have wp:w64 ((c.2.1.getD f default).2.2.2+1)=(c.2.1.getD f default).2.2.2+1:=wI2;have hs:=h.setfr ha (x:=((gt c.2.1 (f:Int)).1,(gt c.2.1 (f:Int)).2.1,(gt c.2.1 (f:Int)).2.2.1,w64 ((gt c.2.1 (f:Int)).2.2.2+1))) (t':=t+1) (by rw [g]; exact ok.blk) (by rw [g]; exact ok.len) (by rw [g]; dsimp only; rw [wp]; omega) (Nat.le_succ t) hc2 (Zff h (by rw [g]; dsimp only; rw [wp]; omega));rw [iT g1,g2,iO,show Q23.f (c.2.2.2.2.1,c.2.2.2.2.2) (f:Int)=_ from e2,bS,tN,MC.pin_hit q hfr];refine ⟨_,L.erase f,rfl,hs,MC.ext' rfl rfl rfl (fun j=>?_) rfl ?_⟩
   ·refine Eq.trans (U6 h ha j) ?_;show upd (Xq c) i _ j=upd (Xq c) i _ j;congr 2;unfold fm;rw [g]
    try dsimp only
    rw [wp,show ((c.2.1.getD f default).2.2.2+1).toNat=(c.2.1.getD f default).2.2.2.toNat+1 by omega]
   ·exact Eq.trans (Vg (by omega) (by rw [g]; rfl) _) (Gv h ha)
theorem Zqb (z:Siz N B n) (h:CaI N B n t [] c L) (fw:Few c) (ht:t<=1000000) (i:Nat) (hi:i<4294967296):∃ c' L',Q14.f c (i:Int)=some (((Z6 c L).fresh N B n i).1,c')/\CaI N B n (t+1) [] c' L'/\Z6 c' L'=((Z6 c L).fresh N B n i).2:=by
 have h64:=z.h64;have hB:=z.B_le;have hfl:=h.frl;have hsz:=h.dsz;unfold Q14.f Q51.f;rw [show Q22.f ((c.1.1,c.1.2.1,(c.1.2.2.1,c.1.2.2.2)),c.2.1,c.2.2.1,c.2.2.2.1,(c.2.2.2.2.1,c.2.2.2.2.2)) (i:Int)=_ from Zmr z h i hi,bS];by_cases q:N<=i
 ·rw [iT q,iU,MC.fresh_out q];exact ⟨_,L,rfl,h.mono (Nat.le_succ t),rfl⟩
 ·rw [iF q,vS];rcases h.get i with ⟨g1,g2⟩ | ⟨f,ha,g1,g2,ok⟩
  ·have hno:(Z6 c L).fr i=none:=Ja g2;rw [iF (by simp [g1]),iT (by simp [g1])];rcases Zom z h ⟨fw.wr.1,by have:=fw.wr.2; omega⟩ with ⟨e,er⟩ | ⟨f,c1,L1,e,h1,er,hfL⟩
   ·rw [show Q21.f ((c.1.1,c.1.2.1,(c.1.2.2.1,c.1.2.2.2)),c.2.1,c.2.2.1,c.2.2.2.1,(c.2.2.2.2.1,c.2.2.2.2.2))=_ from e,bS,iU,MC.fresh_full q hno er];exact ⟨_,L,rfl,h.mono (Nat.le_succ t),rfl⟩
   ·rcases Zos z h ⟨fw.wr.1,by have:=fw.wr.2; omega⟩ with e' | ⟨f',c1',L1',e',_,k1,k2,k3⟩
    ·rw [e] at e'; simp at e'
    ·rw [e] at e';simp only [Option.some.injEq,Prod.mk.injEq,true_and] at e';have ec:c1=c1':=e'.2;subst ec;obtain ⟨hf,hfe,hfm⟩:=h1.hol f (by simp);have hfl1:=h1.frl;have hsz1:=h1.dsz;have hno1:∀ v,((i:Int),v)∉c1.2.2.1:=fun v hv=>g2 v (k3 _ hv);obtain ⟨r5,ch,e5,hc5⟩:=Zhv h1.chn hf (by omega);rw [List.erase_of_not_mem hfL] at hc5;rw [show Q21.f ((c.1.1,c.1.2.1,(c.1.2.2.1,c.1.2.2.2)),c.2.1,c.2.2.1,c.2.2.2.1,(c.2.2.2.2.1,c.2.2.2.2.2))=_ from e,bS,vS,bS]
     try dsimp only
     rw [iO,iO,show Q23.f (c1.2.2.2.2.1,c1.2.2.2.2.2) (f:Int)=_ from e5,bS];have hBt:c1.1.1.toNat=B:=by omega
     have hcm:=(h1.mono (Nat.le_succ t)).come (show i<N by omega) hno1 (x:=((i:Int),List.replicate c1.1.1.toNat (0:Int),true,1)) rfl (by rw [length_replicate]; omega) rfl (by omega) hc5
     try dsimp only
     rw [Zf2 hno1,tN,MC.fresh_miss q hno er];refine ⟨_,L1,rfl,hcm,MC.ext' rfl rfl rfl ?_ ?_ ?_⟩
     ·intro j;refine Eq.trans (Zfi h1 hno1 j) ?_;show upd (Xq c1) i (some ⟨List.replicate c1.1.1.toNat 0,true,1⟩) j=_;rw [hBt]; rfl
     ·show (c1.2.2.1 ++ [((i:Int),(f:Int))]).length=c1.2.2.1.length+1;simp
     ·exact Jc (by omega) hfL
  ·have hf:=ok.hf;have hp:=ok.pin;have hfr:(Z6 c L).fr i=_:=V5 h ha;have g:gt c.2.1 (f:Int)=c.2.1.getD f default:=Zv _ _;rw [iT g1,g2,iO];by_cases hpp:0<(gt c.2.1 (f:Int)).2.2.2
   ·rw [iT (dT hpp),MC.fresh_pin q hfr (by unfold fm; dsimp only; rw [g] at hpp; omega)];exact ⟨_,L,rfl,h.mono (Nat.le_succ t),rfl⟩
   ·obtain ⟨r2,ch,e2,hc2⟩:=Zhv h.chn ok.hf (by omega);have hBt:c.1.1.toNat=B:=by omega
    have hs:=h.setfr ha (x:=((i:Int),List.replicate c.1.1.toNat (0:Int),true,1)) (t':=t+1) rfl (by rw [length_replicate]; omega) (by dsimp only; omega) (Nat.le_succ t) hc2 (Zff h (show (1:Int)≠0 by decide));rw [iF (by simpa using hpp),iF (by simp [g1]),bS,iO,show Q23.f (c.2.2.2.2.1,c.2.2.2.2.2) (f:Int)=_ from e2,bS,tN,Zga h.mnd ha,MC.fresh_hit q hfr (by unfold fm; dsimp only; rw [g] at hpp; omega)]
    try rw [iT (show 0<=(f:Int)/\(f:Int)<(c.2.1.length:Int) by omega)]
    refine ⟨_,L.erase f,rfl,hs,MC.ext' rfl rfl rfl (fun j=>?_) rfl ?_⟩
    ·refine Eq.trans (U6 h ha j) ?_;show upd (Xq c) i (some ⟨List.replicate c.1.1.toNat 0,true,1⟩) j=_;rw [hBt]; rfl
    ·exact Eq.trans (Vg (by omega) (by rw [Ga h ha]; rfl) _) (Gv h ha)
theorem Zl3 (z:Siz N B n) (h:CaI N B n t [] c L) (ht:t<=1000000) (i:Nat):∃ c' L',Q17.f c (i:Int)=some (((Z6 c L).unpin i).1,c')/\CaI N B n t [] c' L'/\Z6 c' L'=((Z6 c L).unpin i).2:=by
 have h64:=z.h64;have hfl:=h.frl;unfold Q17.f Q20.f;rw [bS,vS];rcases h.get i with ⟨g1,g2⟩ | ⟨f,ha,g1,g2,ok⟩
 ·rw [iT (by simp [g1]),MC.unpin_no (show (Z6 c L).fr i=none from Ja g2)];exact ⟨_,L,rfl,h,rfl⟩
 ·have hf:=ok.hf;have hp:=ok.pin;have hfr:(Z6 c L).fr i=_:=V5 h ha;have g:gt c.2.1 (f:Int)=c.2.1.getD f default:=Zv _ _;rw [iF (by simp [g1]),g2,iO];by_cases hp0:(gt c.2.1 (f:Int)).2.2.2=0
  ·rw [iT (dT hp0),MC.unpin_out hfr (by unfold fm; dsimp only; rw [<- g,hp0]; rfl)];exact ⟨_,L,rfl,h,rfl⟩
  ·have wp:w64 ((gt c.2.1 (f:Int)).2.2.2 - 1)=(gt c.2.1 (f:Int)).2.2.2 - 1:=by rw [g]; exact wI2
   have hp1:0<(gt c.2.1 (f:Int)).2.2.2:=by rw [g] at hp0 ⊢; omega
   have hp2:(gt c.2.1 (f:Int)).2.2.2<=t:=by rw [g]; omega
   have hset:gt (c.2.1.set f ((gt c.2.1 (f:Int)).1,(gt c.2.1 (f:Int)).2.1,(gt c.2.1 (f:Int)).2.2.1,w64 ((gt c.2.1 (f:Int)).2.2.2 - 1))) (f:Int)=((gt c.2.1 (f:Int)).1,(gt c.2.1 (f:Int)).2.1,(gt c.2.1 (f:Int)).2.2.1,w64 ((gt c.2.1 (f:Int)).2.2.2 - 1)):=by
    rw [Zv,Xc,iT rfl]
   have hfL:f∉L:=fun hx=>by have:=((h.lok f).1 hx).2; rw [<- g] at this; omega
   have hx0:(fm (c.2.1.getD f default)).p=(c.2.1.getD f default).2.2.2.toNat:=rfl;rw [iF (by simpa using hp0),tN,hset,wp];by_cases hp3:(gt c.2.1 (f:Int)).2.2.2 - 1=0
   ·obtain ⟨ch,e2,hc2⟩:=Zq1 h.chn ok.hf hfL (by omega);rw [iT (dT hp3),show Q24.f (c.2.2.2.2.1,c.2.2.2.2.2) (f:Int)=_ from e2,bS,MC.unpin_one hfr (by rw [hx0,<- g]; omega)];have hs:=h.setfr ha (x:=((gt c.2.1 (f:Int)).1,(gt c.2.1 (f:Int)).2.1,(gt c.2.1 (f:Int)).2.2.1,(gt c.2.1 (f:Int)).2.2.2 - 1)) (t':=t) (by rw [g]; exact ok.blk) (by rw [g]; exact ok.len) (by dsimp only; omega) (Nat.le_refl t) hc2 (fun k=>by
     rw [List.mem_cons];split
     ·rename_i e; exact ⟨fun _=>hp3,fun _=>.inl e⟩
     ·rename_i e; exact ⟨fun q=>q.elim (fun e'=>absurd e' e) id,.inr⟩)
    refine ⟨_,f :: L,rfl,hs,MC.ext' rfl rfl rfl (fun j=>?_) rfl ?_⟩
    ·refine Eq.trans (U6 h ha j) ?_;show upd (Xq c) i _ j=upd (Xq c) i _ j;congr 2;unfold fm
     try dsimp only
     rw [hp3,g]; rfl
    ·refine Eq.trans (Vg (by omega) (by rw [g]; rfl) _) ?_;show Wa c f :: L.map (Wa c)=_;rw [Ga h ha]; rfl
   ·rw [iF (by simpa using hp3),MC.unpin_more hfr (by rw [hx0,<- g]; omega) (by rw [hx0,<- g]; omega)];have hs:=h.setfr ha (x:=((gt c.2.1 (f:Int)).1,(gt c.2.1 (f:Int)).2.1,(gt c.2.1 (f:Int)).2.2.1,(gt c.2.1 (f:Int)).2.2.2 - 1)) (t':=t) (by rw [g]; exact ok.blk) (by rw [g]; exact ok.len) (by dsimp only; omega) (Nat.le_refl t) h.chn (fun k=>by
     split
     ·rename_i e; subst e; exact ⟨fun q=>absurd q hfL,fun q=>absurd q hp3⟩
     ·exact Iff.rfl)
    refine ⟨_,L,rfl,hs,MC.ext' rfl rfl rfl (fun j=>?_) rfl ?_⟩
    ·refine Eq.trans (U6 h ha j) ?_;show upd (Xq c) i _ j=upd (Xq c) i _ j;congr 2;unfold fm
     try dsimp only
     rw [g,show ((c.2.1.getD f default).2.2.2 - 1).toNat=(c.2.1.getD f default).2.2.2.toNat - 1 by omega]
    ·exact Vg (by omega) (by rw [g]; rfl) _
theorem Zmi (z:Siz N B n) (h:CaI N B n t [] c L) (i:Nat) (b:T2):∃ c' L',Q18.f c (i:Int) b=some (((Z6 c L).write B i b).1,c')/\CaI N B n t [] c' L'/\Z6 c' L'=((Z6 c L).write B i b).2:=by
 have h64:=z.h64;have hB:=z.B_le;have hfl:=h.frl;have hsz:=h.dsz;unfold Q18.f Q20.f Q51.f;rw [bS,vS];rcases h.get i with ⟨g1,g2⟩ | ⟨f,ha,g1,g2,ok⟩
 ·rw [iT (by simp [g1]),MC.write_no (show (Z6 c L).fr i=none from Ja g2)];exact ⟨_,L,rfl,h,rfl⟩
 ·have hf:=ok.hf;have hp:=ok.pin;have hfr:(Z6 c L).fr i=_:=V5 h ha;have hx0:(fm (c.2.1.getD f default)).p=(c.2.1.getD f default).2.2.2.toNat:=rfl;have g:gt c.2.1 (f:Int)=c.2.1.getD f default:=Zv _ _;rw [iF (by simp [g1]),g2,iO];by_cases hp0:(gt c.2.1 (f:Int)).2.2.2=0
  ·rw [iT (dT hp0),MC.write_out hfr (by rw [hx0,<- g,hp0]; rfl)];exact ⟨_,L,rfl,h,rfl⟩
  ·have hp1:(fm (c.2.1.getD f default)).p≠0:=by rw [hx0]; rw [g] at hp0; omega
   rw [iF (by simpa using hp0),bS]
   try dsimp only
   by_cases hb:(b.length:Int)=c.1.1
   ·have hset:gt (c.2.1.set f ((gt c.2.1 (f:Int)).1,b,(gt c.2.1 (f:Int)).2.2.1,(gt c.2.1 (f:Int)).2.2.2)) (f:Int)=((gt c.2.1 (f:Int)).1,b,(gt c.2.1 (f:Int)).2.2.1,(gt c.2.1 (f:Int)).2.2.2):=by
     rw [Zv,Xc,iT rfl]
    have hs:=h.setfr ha (x:=((gt c.2.1 (f:Int)).1,b,true,(gt c.2.1 (f:Int)).2.2.2)) (t':=t) (by rw [g]; exact ok.blk) (by dsimp only; omega) (by dsimp only; rw [g]; exact hp) (Nat.le_refl t) h.chn (by rw [g]; exact Znl h ha);rw [iF (by simp [hb]),B3 (by omega),bS,tN,hset,List.set_set,MC.write_hit hfr hp1 (by omega)];refine ⟨_,L,rfl,hs,MC.ext' rfl rfl rfl (fun j=>?_) rfl ?_⟩
    ·refine Eq.trans (U6 h ha j) ?_;show upd (Xq c) i _ j=upd (Xq c) i _ j;rw [g]; rfl
    ·exact Vg (by omega) (by rw [g]; rfl) _
   ·rw [iT (by simp [hb]),MC.write_form hfr hp1 (by omega)];exact ⟨_,L,rfl,h,rfl⟩
theorem Zr6 (z:Siz N B n) (h:CaI N B n t [] c L) (i:Nat):Q16.f c (i:Int)=some ((Z6 c L).read i):=by
 have hfl:=h.frl;have hB:=z.B_le;unfold Q16.f Q20.f;rw [bS,vS];rcases h.get i with ⟨g1,g2⟩ | ⟨f,ha,g1,g2,ok⟩
 ·rw [iT (by simp [g1]),MC.read_no (show (Z6 c L).fr i=none from Ja g2)]
 ·have hf:=ok.hf;have hp:=ok.pin;have hfr:(Z6 c L).fr i=_:=V5 h ha;have hx0:(fm (c.2.1.getD f default)).p=(c.2.1.getD f default).2.2.2.toNat:=rfl;have g:gt c.2.1 (f:Int)=c.2.1.getD f default:=Zv _ _;rw [iF (by simp [g1]),g2,iO];by_cases hp0:(gt c.2.1 (f:Int)).2.2.2=0
  ·rw [iT (dT hp0),MC.read_out hfr (by rw [hx0,<- g,hp0]; rfl)]
  ·rw [iF (by simpa using hp0),B3 (by rw [g,ok.len]; omega),bS,MC.read_hit hfr (by rw [hx0]; rw [g] at hp0; omega),g]; rfl
end
abbrev Rf:=Int×List UInt8×Bool×Int
abbrev Rc:=(Int×List TY×Int×Int)×List Rf×Int×List Int
section
variable {l:List Rf} {g:Nat->Option Fm} {i:Nat} {f:Fm}
end
structure MI (N B n t:Nat) (m:MC):Prop where
 dim:m.img.length=N*B
 len:∀ i f,m.fr i=some f->i<N/\f.b.length=B/\f.p<=t
 rnd:m.row.Nodup
 rfr:∀ q,q∈m.row↔∃ f,m.fr q=some f/\f.p=0
 ule:m.used<=n
 rle:m.row.length<=n
theorem Zfx {g:Nat->Nat}:∀ {L:List Nat},L.Nodup->(∀ x∈L,∀ y∈L,g x=g y->x=y)->(L.map g).Nodup
 | [],_,_=>by simp
 | x :: L,nd,h=>by
  rw [List.nodup_cons] at nd;rw [List.map_cons,List.nodup_cons];refine ⟨fun q=>?_,Zfx nd.2 fun a ha b hb=>h a (by simp [ha]) b (by simp [hb])⟩;obtain ⟨y,hy,e⟩:=List.mem_map.1 q;exact nd.1 (by rw [h x (by simp) y (by simp [hy]) e.symm]; exact hy)
theorem CaI.mi {N B n t:Nat} {c:Ca} {L:List Nat} (h:CaI N B n t [] c L):MI N B n t (Z6 c L) where
 dim:=h.dim
 len i f hf:=Zpi h hf
 rnd:=Zfx h.chn.nd fun x hx y hy e=>by
  obtain ⟨i,hi,e1,_⟩:=Vv h hx;obtain ⟨j,hj,e2,_⟩:=Vv h hy;have:i=j:=by omega
  subst this;exact Zbr h hi hj
 rfr q:=by
  constructor
  ·intro hq;obtain ⟨f,hf,e⟩:=List.mem_map.1 hq;obtain ⟨i,hi,e1,hp,_⟩:=Vv h hf;have:i=q:=by omega
   subst this;exact ⟨_,V5 h hi,by unfold fm; dsimp only; rw [hp]; rfl⟩
  ·rintro ⟨f,hf,hp⟩;rcases h.get q with ⟨_,g2⟩ | ⟨f',ha,_,_,ok⟩
   ·have:=Ja g2;rw [show Xq c q=some f from hf] at this; cases this
   ·have h1:=V5 h ha;rw [show Xq c q=some f from hf] at h1;injection h1 with h1;subst h1;refine (Zpw h ha).2 ((h.lok f').2 ⟨⟨_,ha⟩,?_⟩);have:=ok.pin;unfold fm at hp;dsimp only at hp;omega
 ule:=h.used
 rle:=by
  show (L.map (Wa c)).length<=n;rw [length_map];exact h.chn.short
section
variable {N B n t:Nat} {w:Rc} {m:MC} {i:Nat} {f:Fm}
end
section
variable {N B n t:Nat} {w:Rc} {m:MC} {i:Nat} {f:Fm}
end
section
variable {N B n t:Nat} {w:Rc} {m:MC} {i:Nat} {f:Fm}
end
section
variable {N B n t:Nat} {c:Ca} {L:List Nat}
end
section
variable {N B n t:Nat} {c:Ca} {L:List Nat} {w:Rc} {m:MC}
end
def Byt (l:T2):Prop:=∀ x∈l,0<=x/\x<256
theorem Byt.rep (n:Nat):Byt (List.replicate n 0):=fun x hx=>by rw [List.eq_of_mem_replicate hx]; omega
theorem Byt.blk {img:T2} (h:Byt img) (B i:Nat):Byt (blk img B i):=fun x hx=>h x (List.mem_of_mem_drop (List.mem_of_mem_take hx))
theorem Byt.patch {img b:T2} (h:Byt img) (hb:Byt b) (a n:Nat):Byt (patch img a n b):=fun x hx=>by
 unfold SK.patch at hx;rcases List.mem_append.1 hx with hx | hx
 ·rcases List.mem_append.1 hx with hx | hx
  ·exact h x (List.mem_of_mem_take hx)
  ·exact hb x (List.mem_of_mem_take hx)
 ·exact h x (List.mem_of_mem_drop hx)
namespace MC
def cnt (m:MC) (i:Nat):Nat:=match m.fr i with
 | none=>0
 | some x=>x.p
theorem cnt_no {m:MC} {i:Nat} (e:m.fr i=none):m.cnt i=0:=by unfold cnt; rw [e]
theorem cnt_at {m:MC} {i:Nat} {x:Fm} (e:m.fr i=some x):m.cnt i=x.p:=by unfold cnt; rw [e]
structure By (m:MC):Prop where
 img:Byt m.img
 fr:∀ i x,m.fr i=some x->Byt x.b
structure To (a b:Nat) (m m':MC):Prop where
 rd:m.rd<=m'.rd/\m'.rd<=m.rd+a
 wr:m.wr<=m'.wr/\m'.wr<=m.wr+b
 by':By m->By m'
theorem To.refl (m:MC):To 0 0 m m:=⟨⟨Int.le_refl _,by omega⟩,⟨Int.le_refl _,by omega⟩,id⟩
theorem To.le {a b a' b':Nat} {m m':MC} (h:To a b m m') (ha:a<=a') (hb:b<=b'):To a' b' m m':=⟨⟨h.rd.1,by have:=h.rd.2; omega⟩,⟨h.wr.1,by have:=h.wr.2; omega⟩,h.by'⟩
theorem To.trans {a b a' b':Nat} {m m' m'':MC} (h:To a b m m') (g:To a' b' m' m''):To (a+a') (b+b') m m'':=⟨⟨Int.le_trans h.rd.1 g.rd.1,by have:=h.rd.2; have:=g.rd.2; omega⟩,⟨Int.le_trans h.wr.1 g.wr.1,by have:=h.wr.2; have:=g.wr.2; omega⟩,fun y=>g.by' (h.by' y)⟩
end MC
section
variable {N B n t:Nat} {m k:MC} {i:Nat} {x:Fm}
theorem Pm.lay {img:T2} {rd wr:Int} {fr:Nat->Option Fm} {u u':Nat} {row row':List Nat} (hx:Byt x.b):(MC.By ⟨img,rd,wr,fr,u,row⟩->MC.By ⟨img,rd,wr,upd fr i (some x),u',row'⟩)/\∀ j,(⟨img,rd,wr,upd fr i (some x),u',row'⟩:MC).cnt j=if j=i then x.p else (⟨img,rd,wr,fr,u,row⟩:MC).cnt j:=by
 refine ⟨fun h=>⟨h.img,fun j y hj=>?_⟩,fun j=>?_⟩
 ·have hj':upd fr i (some x) j=some y:=hj;by_cases q:j=i
  ·subst q; rw [Z7] at hj'; injection hj' with hj'; subst hj'; exact hx
  ·rw [Yf q] at hj'; exact h.fr j y hj'
 ·by_cases q:j=i
  ·subst q; rw [iT rfl]; exact MC.cnt_at (Z7 _ _ _)
  ·rw [iF q]; unfold MC.cnt; dsimp only; rw [Yf q]
theorem Pm.evict (e:m.fr i=some x) (p:x.p=0):MC.To 0 1 m (m.evict B i)/\(∀ j,(m.evict B i).cnt j=m.cnt j)/\∀ j,m.fr j=none->(m.evict B i).fr j=none:=by
 rw [MC.evict_eq e];refine ⟨⟨⟨Int.le_refl _,by dsimp only; omega⟩,by dsimp only; split <;> omega,fun h=>⟨?_,fun j y hj=>?_⟩⟩,fun j=>?_,fun j hj=>?_⟩
 ·dsimp only;split
  ·exact h.img.patch (h.fr i x e) _ _
  ·exact h.img
 ·have hj':upd m.fr i none j=some y:=hj;by_cases q:j=i
  ·subst q; rw [Z7] at hj'; cases hj'
  ·rw [Yf q] at hj'; exact h.fr j y hj'
 ·by_cases q:j=i
  ·subst q; rw [MC.cnt_at e,MC.cnt_no (Z7 _ _ _),p]
  ·unfold MC.cnt; dsimp only; rw [Yf q]
 ·show upd m.fr i none j=none;by_cases q:j=i
  ·subst q; exact Z7 _ _ _
  ·rw [Yf q]; exact hj
theorem Pm.room (mi:MI N B n t m) (h:m.room B n=some k):MC.To 0 1 m k/\(∀ j,k.cnt j=m.cnt j)/\∀ j,m.fr j=none->k.fr j=none:=by
 unfold MC.room at h;split at h
 ·injection h with h; subst h; exact ⟨(MC.To.refl _).le (by omega) (by omega),fun _=>rfl,fun _ h=>h⟩
 ·split at h
  ·cases h
  ·rename_i q hq;injection h with h; subst h;obtain ⟨x,e,p⟩:=(mi.rfr q).1 (List.mem_of_getLast? hq);exact Pm.evict e p
theorem Pm.pin (mi:MI N B n t m) (hy:m.By) (i:Nat):MC.To 1 1 m (m.pin N B n i).2/\(1<=m.cnt i->MC.To 0 0 m (m.pin N B n i).2)/\∀ j,(m.pin N B n i).2.cnt j=if (m.pin N B n i).1=0/\j=i then m.cnt i+1 else m.cnt j:=by
 have r0:=(MC.To.refl m).le (Nat.zero_le 1) (Nat.zero_le 1);by_cases h:N<=i
 ·rw [MC.pin_out h]; exact ⟨r0,fun _=>MC.To.refl m,fun _=>by rw [vS]⟩
 cases e:m.fr i with
 | some x=>
  obtain ⟨h1,h2⟩:=Pm.lay (img:=m.img) (rd:=m.rd) (wr:=m.wr) (fr:=m.fr) (u:=m.used) (row:=m.row) (i:=i) (x:=⟨x.b,x.d,x.p+1⟩) (u':=m.used) (row':=m.row.erase i) (hy.fr i x e);have t0:MC.To 0 0 m (m.pin N B n i).2:=by rw [MC.pin_hit h e]; exact ⟨⟨Int.le_refl _,by show m.rd<=_; omega⟩,⟨Int.le_refl _,by show m.wr<=_; omega⟩,h1⟩
  refine ⟨t0.le (by omega) (by omega),fun _=>t0,fun j=>?_⟩;rw [MC.pin_hit h e,show ((m.put i ⟨x.b,x.d,x.p+1⟩).cut i).cnt j=_ from h2 j];by_cases q:j=i
  ·rw [iT q,iT ⟨rfl,q⟩,MC.cnt_at e]
  ·rw [iF q,iF (fun z=>q z.2)]
 | none=>
  cases r:m.room B n with
  | none=>rw [MC.pin_full h e r]; exact ⟨r0,fun _=>MC.To.refl m,fun _=>by rw [vS]⟩
  | some k=>
   obtain ⟨c1,c2,c3⟩:=Pm.room mi r;have hk:=c1.by' hy;obtain ⟨h1,h2⟩:=Pm.lay (img:=k.img) (rd:=k.rd+1) (wr:=k.wr) (fr:=k.fr) (u:=k.used) (row:=k.row) (i:=i) (x:=⟨blk k.img B i,false,1⟩) (u':=k.used+1) (row':=k.row) (hk.img.blk B i);rw [MC.pin_miss h e r];refine ⟨⟨by show m.rd<=k.rd+1/\k.rd+1<=_; have:=c1.rd; omega,by show m.wr<=k.wr/\k.wr<=_; have:=c1.wr; omega,fun _=>h1 ⟨hk.img,hk.fr⟩⟩,fun c=>by rw [MC.cnt_no e] at c; omega,fun j=>?_⟩;rw [show ((⟨k.img,k.rd+1,k.wr,k.fr,k.used,k.row⟩:MC).come i ⟨blk k.img B i,false,1⟩).cnt j=_ from h2 j];by_cases q:j=i
   ·rw [iT q,iT ⟨rfl,q⟩,MC.cnt_no e]
   ·rw [iF q,iF (fun z=>q z.2)]; exact c2 j
theorem Pm.fresh (mi:MI N B n t m) (hy:m.By) (i:Nat):MC.To 0 1 m (m.fresh N B n i).2/\∀ j,(m.fresh N B n i).2.cnt j=if (m.fresh N B n i).1=0/\j=i then m.cnt i+1 else m.cnt j:=by
 have r0:=(MC.To.refl m).le (Nat.zero_le 0) (Nat.zero_le 1);by_cases h:N<=i
 ·rw [MC.fresh_out h]; exact ⟨r0,fun _=>by rw [vS]⟩
 cases e:m.fr i with
 | some x=>
  by_cases p:0<x.p
  ·rw [MC.fresh_pin h e p]; exact ⟨r0,fun _=>by rw [vS]⟩
  obtain ⟨h1,h2⟩:=Pm.lay (img:=m.img) (rd:=m.rd) (wr:=m.wr) (fr:=m.fr) (u:=m.used) (row:=m.row) (i:=i) (x:=⟨List.replicate B 0,true,1⟩) (u':=m.used) (row':=m.row.erase i) (Byt.rep B);rw [MC.fresh_hit h e p];refine ⟨⟨⟨Int.le_refl _,by show m.rd<=_; omega⟩,⟨Int.le_refl _,by show m.wr<=_; omega⟩,h1⟩,fun j=>?_⟩;rw [show ((m.put i ⟨List.replicate B 0,true,1⟩).cut i).cnt j=_ from h2 j];by_cases q:j=i
  ·rw [iT q,iT ⟨rfl,q⟩,MC.cnt_at e]; dsimp only; omega
  ·rw [iF q,iF (fun z=>q z.2)]
 | none=>
  cases r:m.room B n with
  | none=>rw [MC.fresh_full h e r]; exact ⟨r0,fun _=>by rw [vS]⟩
  | some k=>
   obtain ⟨c1,c2,c3⟩:=Pm.room mi r;have hk:=c1.by' hy;obtain ⟨h1,h2⟩:=Pm.lay (img:=k.img) (rd:=k.rd) (wr:=k.wr) (fr:=k.fr) (u:=k.used) (row:=k.row) (i:=i) (x:=⟨List.replicate B 0,true,1⟩) (u':=k.used+1) (row':=k.row) (Byt.rep B);rw [MC.fresh_miss h e r];refine ⟨⟨c1.rd,c1.wr,fun _=>h1 ⟨hk.img,hk.fr⟩⟩,fun j=>?_⟩;rw [show (k.come i ⟨List.replicate B 0,true,1⟩).cnt j=_ from h2 j];by_cases q:j=i
   ·rw [iT q,iT ⟨rfl,q⟩,MC.cnt_no e]
   ·rw [iF q,iF (fun z=>q z.2)]; exact c2 j
theorem Pm.unpin (hy:m.By) (i:Nat):MC.To 0 0 m (m.unpin i).2/\∀ j,(m.unpin i).2.cnt j=if j=i then m.cnt i - 1 else m.cnt j:=by
 have same:(∀ j,m.cnt j=if j=i then m.cnt i - 1 else m.cnt j)↔m.cnt i=0:=⟨fun h=>by have:=h i; rw [iT rfl] at this; omega,fun h j=>by split; rename_i q; subst q; omega; rfl⟩
 cases e:m.fr i with
 | none=>rw [MC.unpin_no e]; exact ⟨MC.To.refl m,same.2 (MC.cnt_no e)⟩
 | some x=>
  have key:∀(p u:Nat) (row:List Nat),p=x.p - 1->MC.To 0 0 m (⟨m.img,m.rd,m.wr,upd m.fr i (some ⟨x.b,x.d,p⟩),u,row⟩:MC)/\∀ j,(⟨m.img,m.rd,m.wr,upd m.fr i (some ⟨x.b,x.d,p⟩),u,row⟩:MC).cnt j=if j=i then m.cnt i - 1 else m.cnt j:=fun p u row hp=>by
   obtain ⟨h1,h2⟩:=Pm.lay (img:=m.img) (rd:=m.rd) (wr:=m.wr) (fr:=m.fr) (u:=m.used) (row:=m.row) (i:=i) (x:=⟨x.b,x.d,p⟩) (u':=u) (row':=row) (hy.fr i x e);refine ⟨⟨⟨Int.le_refl _,by show m.rd<=_; omega⟩,⟨Int.le_refl _,by show m.wr<=_; omega⟩,h1⟩,fun j=>?_⟩;rw [h2 j,MC.cnt_at e];split
   ·exact hp
   ·rfl
  by_cases p:x.p=0
  ·rw [MC.unpin_out e p]; exact ⟨MC.To.refl m,same.2 (by rw [MC.cnt_at e]; exact p)⟩
  ·by_cases p1:x.p=1
   ·rw [MC.unpin_one e p1]; exact key _ _ _ (by omega)
   ·rw [MC.unpin_more e p p1]; exact key _ _ _ rfl
theorem Pm.write (i:Nat) {b:T2} (hb:Byt b):MC.To 0 0 m (m.write B i b).2/\∀ j,(m.write B i b).2.cnt j=m.cnt j:=by
 cases e:m.fr i with
 | none=>rw [MC.write_no e]; exact ⟨MC.To.refl m,fun _=>rfl⟩
 | some x=>
  by_cases p:x.p=0
  ·rw [MC.write_out e p]; exact ⟨MC.To.refl m,fun _=>rfl⟩
  ·by_cases q:b.length=B
   ·rw [MC.write_hit e p q];obtain ⟨h1,h2⟩:=Pm.lay (img:=m.img) (rd:=m.rd) (wr:=m.wr) (fr:=m.fr) (u:=m.used) (row:=m.row) (i:=i) (x:=⟨b,true,x.p⟩) (u':=m.used) (row':=m.row) hb;refine ⟨⟨⟨Int.le_refl _,by show m.rd<=_; omega⟩,⟨Int.le_refl _,by show m.wr<=_; omega⟩,h1⟩,fun j=>?_⟩;rw [show (m.put i ⟨b,true,x.p⟩).cnt j=_ from h2 j];split
    ·rename_i q; subst q; exact (MC.cnt_at e).symm
    ·rfl
   ·rw [MC.write_form e p q]; exact ⟨MC.To.refl m,fun _=>rfl⟩
end
abbrev Bt:=Int×Int×List Int
theorem Zpu:uH.bits=64:=rfl
theorem wrB {m:Nat} (h:m<18446744073709551616):uH.wrap (m:Int)=(m:Int):=by
 have:uH.wrap (m:Int)=((m % 18446744073709551616:Nat):Int):=by simp [IntKind.wrap,IntKind.bits,IntKind.signed]
 rw [this,Nat.mod_eq_of_lt h]
theorem ofB {x:Nat} (h:x<18446744073709551616):(ofInt uH.bits (x:Int)).toNat=x:=by
 rw [BitVec.ofInt_natCast,BitVec.toNat_ofNat,Zpu];exact Nat.mod_eq_of_lt h
theorem Zkm (v:BitVec uH.bits):v.toNat<18446744073709551616:=v.isLt
theorem anB {x y:Nat} (hx:x<18446744073709551616) (hy:y<18446744073709551616):(ofInt uH.bits (x:Int) &&& ofInt uH.bits (y:Int)).toNat=x &&& y:=by rw [BitVec.toNat_and,ofB hx,ofB hy]
theorem orB {x y:Nat} (hx:x<18446744073709551616) (hy:y<18446744073709551616):(ofInt uH.bits (x:Int) ||| ofInt uH.bits (y:Int)).toNat=x ||| y:=by rw [BitVec.toNat_or,ofB hx,ofB hy]
theorem xoB {x y:Nat} (hx:x<18446744073709551616) (hy:y<18446744073709551616):(ofInt uH.bits (x:Int) ^^^ ofInt uH.bits (y:Int)).toNat=x ^^^ y:=by rw [BitVec.toNat_xor,ofB hx,ofB hy]
theorem Zo6 {b:Nat} (h:b<64):uH.wrap ((1:Int)*2 ^ (min b 64))=((2 ^ b:Nat):Int):=by
 have hb:min b 64=b:=by omega
 have hl:2 ^ b<18446744073709551616:=Nat.lt_of_lt_of_le (Nat.pow_lt_pow_right (by decide) h) (by decide);rw [hb,Int.one_mul,<- wrB hl];congr 1
theorem Zsc {b:Nat} (h:b<64):2 ^ b<18446744073709551616:=Nat.lt_of_lt_of_le (Nat.pow_lt_pow_right (by decide) h) (by decide)
theorem Zpr {f:Nat} (h:f<64):∃ y:Nat,uH.wrap ((18446744073709551615:Int)*2 ^ (min f 64))=(y:Int)/\y<18446744073709551616/\∀ i,i<64->y.testBit i=decide (f<=i):=by
 have hf:min f 64=f:=by omega
 refine ⟨(18446744073709551615*2 ^ f) % 18446744073709551616,?_,Nat.mod_lt _ (by decide),fun i hi=>?_⟩
 ·rw [hf];have:(18446744073709551615:Int)*2 ^ f=((18446744073709551615*2 ^ f:Nat):Int):=by
   rw [Int.natCast_mul,Int.natCast_pow]; rfl
  rw [this];simp [IntKind.wrap,IntKind.bits,IntKind.signed]
 ·have e1:(18446744073709551616:Nat)=2 ^ 64:=by decide
  have e2:(18446744073709551615:Nat)=2 ^ 64 - 1:=by decide
  rw [e1,Nat.testBit_mod_two_pow,e2,Nat.testBit_mul_two_pow,Nat.testBit_two_pow_sub_one];simp [hi];omega
structure BR (N:Nat) (p:Bt) (h:Nat->Bool):Prop where
 n:p.1=(N:Int)
 N1:1<=N/\N<=65536
 cnt:p.2.1=(((List.range N).filter h).length:Int)
 len:p.2.2.length=(N+63) / 64
 bit:∀ w,w<p.2.2.length->∃ x:Nat,p.2.2.getD w default=(x:Int)/\x<18446744073709551616/\∀ b,b<64->x.testBit b=(decide (64*w+b<N) && h (64*w+b))
section
variable {N:Nat} {p:Bt} {h:Nat->Bool}
theorem Zgo {i:Nat} (hi:i<4294967296):w64 (Int.tdiv (i:Int) 64)=((i / 64:Nat):Int)/\Int.tmod (i:Int) 64=((i % 64:Nat):Int):=by
 constructor
 ·rw [show Int.tdiv (i:Int) 64=((i / 64:Nat):Int) from rfl,wI2]
 ·rfl
theorem BR.there (b:BR N p h) {i:Nat}:Q10.f p (i:Int)=some (if N<=i then 4 else 0):=by
 have hN:=b.N1;unfold Q10.f Q7.f;rw [bS,b.n,iN,iN];by_cases q:N<=i
 ·rw [iP,iT q]
 ·rw [iN,iF q]
theorem BR.has (b:BR N p h) {i:Nat} (hi:i<4294967296):Q6.f p (i:Int)=some (decide (i<N) && h i):=by
 have hN:=b.N1;unfold Q6.f;rw [b.there,bS];by_cases q:N<=i
 ·rw [iT q,iF (by decide)];have:¬ i<N:=by omega
  simp [this]
 ·obtain ⟨e1,e2⟩:=Zgo hi;have hl:=b.len;have hw:i / 64<p.2.2.length:=by omega
  obtain ⟨x,hx,hx2,hx3⟩:=b.bit _ hw;have hm:i % 64<64:=Nat.mod_lt _ (by decide);rw [iF q,iT (by decide),e1,e2,iO,iO,Zv,hx,tN,show min (i % 64) 64=i % 64 by omega];have e3:Int.fdiv (x:Int) (2 ^ (i % 64))=((x / 2 ^ (i % 64):Nat):Int):=by
   rw [Int.fdiv_eq_ediv_of_nonneg _ (Int.pow_nonneg (by decide)),Int.natCast_ediv,Int.natCast_pow]; rfl
  have hlt:x / 2 ^ (i % 64)<18446744073709551616:=Nat.lt_of_le_of_lt (Nat.div_le_self _ _) hx2;rw [e3,show (ofInt uH.bits ((x / 2 ^ (i % 64):Nat):Int) &&& ofInt uH.bits 1).toNat=x / 2 ^ (i % 64) &&& 1 from anB (y:=1) hlt (by decide),Nat.and_one_is_mod,wrB (by omega)];have h1:=hx3 _ hm;rw [show 64*(i / 64)+i % 64=i by omega] at h1;rw [<- h1,Nat.testBit_eq_decide_div_mod_eq];congr 1;exact decide_eq_decide.2 (by omega)
theorem Zj4 {N i:Nat} (hi:i<N) (hn:h i=false):((List.range N).filter (upd h i true)).length=((List.range N).filter h).length+1:=by
 have key:∀ l:List Nat,l.Nodup->i∈l->(l.filter (upd h i true)).length=(l.filter h).length+1:=by
  intro l
  induction l with
  | nil=>intro _ hx; simp at hx
  | cons y l ih=>
   intro nd hx;rw [List.nodup_cons] at nd;by_cases q:y=i
   ·subst q;have hl:l.filter (upd h y true)=l.filter h:=List.filter_congr fun z hz=>Yf (fun e=>nd.1 (by rw [<- e]; exact hz));rw [List.filter_cons_of_pos (by rw [Z7]),List.filter_cons_of_neg (by simp [hn]),hl,length_cons]
   ·have hx':i∈l:=by
     rcases List.mem_cons.1 hx with e | e
     ·exact absurd e.symm q
     ·exact e
    have:=ih nd.2 hx';by_cases hy:h y=true
    ·rw [List.filter_cons_of_pos (by rw [Yf q]; exact hy),List.filter_cons_of_pos hy,length_cons,length_cons,this]
    ·rw [List.filter_cons_of_neg (by rw [Yf q]; exact hy),List.filter_cons_of_neg hy,this]
 exact key _ List.nodup_range (List.mem_range.2 hi)
theorem BR.word (b:BR N p h) {i:Nat} (hi:i<N) {v:Bool} {y:Nat} (hy:y<18446744073709551616) (ht:∀ x:Nat,p.2.2.getD (i / 64) default=(x:Int)->∀ j,j<64->y.testBit j=if j=i % 64 then v else x.testBit j) {cnt:Int} (hc:cnt=(((List.range N).filter (upd h i v)).length:Int)) :
  BR N (p.1,cnt,p.2.2.set (i / 64) (y:Int)) (upd h i v):=by
 have hl:=b.len;have hN:=b.N1;have hw:i / 64<p.2.2.length:=by omega
 refine ⟨b.n,hN,hc,by rw [length_set]; exact hl,fun w hw2=>?_⟩;rw [length_set] at hw2;dsimp only;rw [Xc hw];obtain ⟨x,hx,hx2,hx3⟩:=b.bit w hw2;by_cases q:i / 64=w
 ·subst q;refine ⟨y,iT rfl,hy,fun j hj=>?_⟩;rw [ht x hx j hj];by_cases qj:j=i % 64
  ·subst qj;rw [iT rfl,show 64*(i / 64)+i % 64=i by omega,Z7];simp [hi]
  ·rw [iF qj,hx3 j hj,Yf]
 ·refine ⟨x,by rw [iF q]; exact hx,hx2,fun j hj=>?_⟩;rw [hx3 j hj,Yf]
theorem Zma (b:BR N p h):((List.range N).filter h).length<=N:=by
 have:=List.length_filter_le h (List.range N);rw [length_range] at this;exact this
theorem BR.set (b:BR N p h) {i:Nat} (hi:i<4294967296):∃ p',Q8.f p (i:Int)=some (if N<=i then 4 else if h i=true then 10 else 0,p')/\BR N p' (if N<=i then h else upd h i true):=by
 have hN:=b.N1;unfold Q8.f;rw [b.there,bS];by_cases q:N<=i
 ·rw [iT q,iT (by decide),iT q,iT q];exact ⟨p,rfl,b⟩
 ·rw [iF q,iF (by decide),b.has hi,bS,iF q,iF q];have hi':i<N:=by omega
  by_cases hh:h i=true
  ·rw [iT (by simp [hi',hh]),iT hh];refine ⟨p,rfl,?_⟩;rw [show upd h i true=h from funext fun j=>by
    by_cases qj:j=i
    ·subst qj; rw [Z7,hh]
    ·rw [Yf qj]]
   exact b
  ·obtain ⟨e1,e2⟩:=Zgo hi;have hl:=b.len;have hw:i / 64<p.2.2.length:=by omega
   obtain ⟨x,hx,hx2,hx3⟩:=b.bit _ hw;have hm:i % 64<64:=Nat.mod_lt _ (by decide);have hp:=Zsc hm;have hcl:=Zma b;have hcn:=b.cnt;rw [iF (by simp [hh]),iF hh,e1,e2,iO,iO,Zv,hx,tN,tN,Zo6 hm,orB hx2 hp];have hor:x ||| 2 ^ (i % 64)<18446744073709551616:=by rw [<- orB hx2 hp]; exact Zkm _
   rw [wrB hor];have hf:h i=false:=by simpa using hh
   refine ⟨_,rfl,b.word hi' hor (fun x' hx' j hj=>?_) ?_⟩
   ·have:x'=x:=by rw [hx] at hx'; omega
    subst this;rw [Nat.testBit_or,Nat.testBit_two_pow];by_cases qj:j=i % 64
    ·subst qj; simp
    ·rw [iF qj];have:¬ i % 64=j:=fun e=>qj e.symm;simp [this]
   ·rw [Zj4 hi' hf,hcn,wI2]; omega
theorem Zqg {x:Nat} (h0:x≠0) (h1:x<18446744073709551616):Go.Lib.ctz 64 x<64/\x.testBit (Go.Lib.ctz 64 x)=true/\∀ j,j<Go.Lib.ctz 64 x->x.testBit j=false:=by
 unfold Go.Lib.ctz;rw [iF h0];obtain ⟨m,hm,hc⟩:=Go.Lib.ctzFrom_spec 64 x (by omega) (by omega);generalize Go.Lib.ctzFrom 64 x=c at *;refine ⟨hc,?_,fun j hj=>?_⟩
 ·rw [hm,Nat.mul_comm,Nat.testBit_mul_two_pow];simp
 ·rw [hm,Nat.mul_comm,Nat.testBit_mul_two_pow];have:¬ c<=j:=by omega
  simp [this]
def W6 (N:Nat) (h:Nat->Bool) (turn:Bool) (i:Nat):Bool:=if turn=true then !(decide (i<N) && h i) else decide (i<N) && h i
theorem Zi9 (b:BR N p h) (turn:Bool) {fr:Nat} (hfr:fr<4294967296):∀(q w k:Nat),p.2.2.length=w+q->fr / 64<=w->q<k->(∀ j,fr<=j->j<64*w->W6 N h turn j=false)->
  (∃ i:Nat,Q9.l0 k p (fr:Int) (if turn=true then 18446744073709551615 else 0) (w:Int)=some ((i:Int),decide (i<N))/\fr<=i/\i<64*p.2.2.length/\W6 N h turn i=true/\∀ j,fr<=j->j<i->W6 N h turn j=false)\/
   (Q9.l0 k p (fr:Int) (if turn=true then 18446744073709551615 else 0) (w:Int)=some (0,false)/\∀ j,fr<=j->j<64*p.2.2.length->W6 N h turn j=false)
 | _,_,0,_,_,hk,_=>by omega
 | 0,w,k+1,hq,hw,hk,hn=>by
  have hN:=b.N1;have hl:=b.len;right;rw [Q9.l0,iN];exact ⟨rfl,fun j h1 h2=>hn j h1 (by omega)⟩
 | q+1,w,k+1,hq,hw,hk,hn=>by
  have hN:=b.N1;have hl:=b.len;have hwl:w<p.2.2.length:=by omega
  obtain ⟨x,hx,hx2,hx3⟩:=b.bit w hwl;have hmx:(if (fr:Int)>0 then (fr:Int) else 0)=(fr:Int):=by split <;> omega
  obtain ⟨d1,d2⟩:=Zgo hfr
  -- the word,turned
  obtain ⟨y,hy,hy2,hy3⟩:∃ y:Nat,(uH.wrap (((ofInt uH.bits (x:Int) ^^^ (ofInt uH.bits (if turn=true then 18446744073709551615 else 0))).toNat:Int)))=(y:Int)/\y<18446744073709551616/\∀ j,j<64->y.testBit j=W6 N h turn (64*w+j):=by
   cases turn with
   | true=>
    have e:=xoB (y:=18446744073709551615) hx2 (by decide);refine ⟨x ^^^ 18446744073709551615,?_,?_,fun j hj=>?_⟩
    ·rw [iT rfl,show (18446744073709551615:Int)=((18446744073709551615:Nat):Int) from rfl,e,wrB (by rw [<- e]; exact Zkm _)]
    ·rw [<- e]; exact Zkm _
    ·rw [Nat.testBit_xor,hx3 j hj,show (18446744073709551615:Nat)=2 ^ 64 - 1 by decide,Nat.testBit_two_pow_sub_one];unfold W6;simp [hj]
   | false=>
    have e:=xoB (y:=0) hx2 (by decide);refine ⟨x,?_,hx2,fun j hj=>?_⟩
    ·rw [iF (by decide),show (0:Int)=((0:Nat):Int) from rfl,e,Nat.xor_zero,wrB hx2]
    ·rw [hx3 j hj]; rfl
  rw [Q9.l0,iP,iO,hmx,d1,d2,Zv,hx,hy]
  -- what is looked at,at this word
  have step:∀ z:Nat,z<18446744073709551616->(∀ j,j<64->z.testBit j=(decide (fr<=64*w+j) && W6 N h turn (64*w+j)))->
    (∃ i:Nat,(if (decide ((z:Int)=0))=true then Q9.l0 k p (fr:Int) (if turn=true then 18446744073709551615 else 0) (w64 ((w:Int)+1)) else (if 0<=(z:Int)/\(z:Int)<18446744073709551616 then some ((w64 ((w64 ((w:Int)*64))+(tzI (z:Int)))),(decide ((w64 ((w64 ((w:Int)*64))+(tzI (z:Int))))<p.1))) else none))=some ((i:Int),decide (i<N))/\fr<=i/\i<64*p.2.2.length/\W6 N h turn i=true/\∀ j,fr<=j->j<i->W6 N h turn j=false)\/
    ((if (decide ((z:Int)=0))=true then Q9.l0 k p (fr:Int) (if turn=true then 18446744073709551615 else 0) (w64 ((w:Int)+1)) else (if 0<=(z:Int)/\(z:Int)<18446744073709551616 then some ((w64 ((w64 ((w:Int)*64))+(tzI (z:Int)))),(decide ((w64 ((w64 ((w:Int)*64))+(tzI (z:Int))))<p.1))) else none))=some (0,false)/\∀ j,fr<=j->j<64*p.2.2.length->W6 N h turn j=false):=by
   intro z hz hzt;by_cases z0:z=0
   ·subst z0;rw [iT (by decide),wS2];refine Zi9 b turn hfr q (w+1) k (by omega) (by omega) (by omega) fun j h1 h2=>?_;by_cases hj:j<64*w
    ·exact hn j h1 hj
    ·have:=hzt (j - 64*w) (by omega);rw [Nat.zero_testBit,show 64*w+(j - 64*w)=j by omega] at this;have h3:decide (fr<=j)=true:=dT h1;rw [h3,Bool.true_and] at this;exact this.symm
   ·obtain ⟨c1,c2,c3⟩:=Zqg z0 hz;left;have tz:tzI (z:Int)=((Go.Lib.ctz 64 z:Nat):Int):=by unfold tzI; rw [tN]
    generalize Go.Lib.ctz 64 z=cz at *;have hb:=hzt cz c1;rw [c2] at hb;have hb2:=(Bool.and_eq_true _ _).mp hb.symm;have hfr2:=of_decide_eq_true hb2.1;refine ⟨64*w+cz,?_,hfr2,by omega,hb2.2,fun j h1 h2=>?_⟩
    ·rw [iW,iO,tz,wI2 (x:=(w:Int)*64),wI2,b.n];congr 2
     ·omega
     ·exact decide_eq_decide.2 (by omega)
    ·by_cases hj:j<64*w
     ·exact hn j h1 hj
     ·have:=hzt (j - 64*w) (by omega);rw [c3 (j - 64*w) (by omega),show 64*w+(j - 64*w)=j by omega] at this;have h3:decide (fr<=j)=true:=dT h1;rw [h3,Bool.true_and] at this;exact this.symm
  by_cases qw:w=fr / 64
  ·rw [iP,iO,tN];obtain ⟨s,hs,hs2,hs3⟩:=Zpr (f:=fr % 64) (Nat.mod_lt _ (by decide));have ea:=anB hy2 hs2;have hal:y &&& s<18446744073709551616:=by rw [<- ea]; exact Zkm _
   rw [hs,ea,wrB hal];refine step _ hal fun j hj=>?_;rw [Nat.testBit_and,hy3 j hj,hs3 j hj,Bool.and_comm];congr 1;exact decide_eq_decide.2 (by omega)
  ·rw [iN];refine step y hy2 fun j hj=>?_;rw [hy3 j hj];have:decide (fr<=64*w+j)=true:=dT;rw [this,Bool.true_and]
theorem Zr4 (b:BR N p h) (turn:Bool) {fr:Nat} (hfr:fr<4294967296) {k:Nat} (hk:2000<k) :
  (∃ i:Nat,Q9.f k p (fr:Int) (if turn=true then 18446744073709551615 else 0)=some ((i:Int),decide (i<N))/\fr<=i/\i<64*p.2.2.length/\W6 N h turn i=true/\∀ j,fr<=j->j<i->W6 N h turn j=false)\/
   (Q9.f k p (fr:Int) (if turn=true then 18446744073709551615 else 0)=some (0,false)/\∀ j,fr<=j->j<64*p.2.2.length->W6 N h turn j=false):=by
 have hN:=b.N1;have hl:=b.len;have hmx:(if (fr:Int)>0 then (fr:Int) else 0)=(fr:Int):=by split <;> omega
 unfold Q9.f;rw [hmx,(Zgo hfr).1];by_cases q:fr / 64<=p.2.2.length
 ·exact Zi9 b turn hfr (p.2.2.length - fr / 64) (fr / 64) k (by omega) (Nat.le_refl _) (by omega) fun j h1 h2=>by omega
 ·obtain ⟨k,rfl⟩:∃ k',k=k'+1:=⟨k - 1,by omega⟩;right;rw [Q9.l0,iN];exact ⟨rfl,fun j h1 h2=>by omega⟩
theorem BR.free (b:BR N p h) {k:Nat} (hk:2000<k) (hfree:∃ i,i<N/\h i=false):∃ i:Nat,Q5.f k p 0=some ((i:Int),true)/\i<N/\h i=false/\∀ j,j<i->h j=true:=by
 have hN:=b.N1;have hl:=b.len;obtain ⟨i0,h1,h2⟩:=hfree;unfold Q5.f Q7.f Q11.f;have hs:=Zr4 b true (fr:=0) (by decide) hk;rw [iT rfl] at hs;have hi0:W6 N h true i0=true:=by unfold W6; simp [h1,h2]
 rcases hs with ⟨i,e,_,g2,g3,g4⟩ | ⟨e,g⟩
 ·have hiN:i<N:=by
   apply Nat.lt_of_not_le;intro hge;have:=g4 i0 (Nat.zero_le _) (by omega);rw [hi0] at this; cases this
  rw [bS,b.n,iN,show Q9.f k p 0 18446744073709551615=_ from e,bS,iF (by simp [hiN])];refine ⟨i,rfl,hiN,?_,fun j hj=>?_⟩
  ·unfold W6 at g3;simpa [hiN] using g3
  ·have:=g4 j (Nat.zero_le _) hj;have hjN:j<N:=by omega
   unfold W6 at this;simpa [hjN] using this
 ·have:=g i0 (Nat.zero_le _) (by omega);rw [hi0] at this; cases this
end
namespace MC
def cont (B:Nat) (m:MC) (i:Nat):List Int:=match m.fr i with
 | none=>blk m.img B i
 | some x=>x.b
theorem cont_no {B:Nat} {m:MC} {i:Nat} (e:m.fr i=none):m.cont B i=blk m.img B i:=by unfold cont; rw [e]
theorem cont_at {B:Nat} {m:MC} {i:Nat} {x:Fm} (e:m.fr i=some x):m.cont B i=x.b:=by unfold cont; rw [e]
def Cl (B:Nat) (m:MC):Prop:=∀ i x,m.fr i=some x->x.d=false->x.b=blk m.img B i
end MC
section
variable {N B n t:Nat} {m k:MC} {i:Nat} {x:Fm}
theorem Cl.evict (mi:MI N B n t m) (cl:m.Cl B) (q:Nat):(m.evict B q).Cl B/\(∀ j,j<N->(m.evict B q).cont B j=m.cont B j)/\((m.evict B q).fr q=none)/\∀ j,m.fr j=none->(m.evict B q).fr j=none:=by
 cases e:m.fr q with
 | none=>
  have:m.evict B q=m:=by unfold MC.evict; rw [e]
  rw [this];exact ⟨cl,fun _ _=>rfl,e,fun _ h=>h⟩
 | some x=>
  obtain ⟨hq,hb,_⟩:=mi.len q x e;rw [MC.evict_eq e];refine ⟨fun j y hj hd=>?_,fun j hj=>?_,Z7 _ _ _,fun j hj=>?_⟩
  ·dsimp only at hj ⊢;by_cases qj:j=q
   ·subst qj; rw [Z7] at hj; cases hj
   ·rw [Yf qj] at hj;have h1:=cl j y hj hd;split
    ·rw [Zbm mi.dim hq hb j (mi.len j y hj).1,iF qj]; exact h1
    ·exact h1
  ·by_cases qj:j=q
   ·subst qj;rw [MC.cont_at e,MC.cont_no (Z7 _ _ _)];dsimp only;split
    ·rw [Zbm mi.dim hq hb j hq,iT rfl]
    ·rename_i hd;exact (cl j x e (by simpa using hd)).symm
   ·cases ej:m.fr j with
    | none=>
     rw [MC.cont_no ej,MC.cont_no (by show upd m.fr q none j=none; rw [Yf qj]; exact ej)];dsimp only;split
     ·rw [Zbm mi.dim hq hb j hj,iF qj]
     ·rfl
    | some y=>rw [MC.cont_at ej,MC.cont_at (show upd m.fr q none j=some y by rw [Yf qj]; exact ej)]
  ·show upd m.fr q none j=none;by_cases qj:j=q
   ·subst qj; exact Z7 _ _ _
   ·rw [Yf qj]; exact hj
theorem Cl.room (mi:MI N B n t m) (cl:m.Cl B) (h:m.room B n=some k):k.Cl B/\(∀ j,j<N->k.cont B j=m.cont B j)/\∀ j,m.fr j=none->k.fr j=none:=by
 unfold MC.room at h;split at h
 ·injection h with h; subst h; exact ⟨cl,fun _ _=>rfl,fun _ h=>h⟩
 ·split at h
  ·cases h
  ·rename_i q _;injection h with h; subst h;obtain ⟨h1,h2,_,h3⟩:=Cl.evict mi cl q;exact ⟨h1,h2,h3⟩
theorem Cl.lay {img:T2} {rd wr:Int} {fr:Nat->Option Fm} {u u':Nat} {row row':List Nat} (cl:(⟨img,rd,wr,fr,u,row⟩:MC).Cl B) {x:Fm} (hx:x.d=false->x.b=blk img B i) {rd':Int}:(⟨img,rd',wr,upd fr i (some x),u',row'⟩:MC).Cl B/\∀ j,(⟨img,rd',wr,upd fr i (some x),u',row'⟩:MC).cont B j=if j=i then x.b else (⟨img,rd,wr,fr,u,row⟩:MC).cont B j:=by
 refine ⟨fun j y hj hd=>?_,fun j=>?_⟩
 ·have hj':upd fr i (some x) j=some y:=hj;by_cases q:j=i
  ·subst q; rw [Z7] at hj'; injection hj' with hj'; subst hj'; exact hx hd
  ·rw [Yf q] at hj'; exact cl j y hj' hd
 ·by_cases q:j=i
  ·subst q; rw [iT rfl]; exact MC.cont_at (Z7 _ _ _)
  ·rw [iF q]; unfold MC.cont; dsimp only; rw [Yf q]
theorem Cl.pin (mi:MI N B n t m) (cl:m.Cl B) (i:Nat):(m.pin N B n i).2.Cl B/\∀ j,j<N->(m.pin N B n i).2.cont B j=m.cont B j:=by
 by_cases h:N<=i
 ·rw [MC.pin_out h]; exact ⟨cl,fun _ _=>rfl⟩
 cases e:m.fr i with
 | some x=>
  rw [MC.pin_hit h e];obtain ⟨h1,h2⟩:=Cl.lay (i:=i) (x:=⟨x.b,x.d,x.p+1⟩) (u':=m.used) (row':=m.row.erase i) (rd':=m.rd) (cl:(⟨m.img,m.rd,m.wr,m.fr,m.used,m.row⟩:MC).Cl B) (fun hd=>cl i x e hd);refine ⟨h1,fun j hj=>?_⟩;rw [show (((m.put i ⟨x.b,x.d,x.p+1⟩).cut i).cont B j)=_ from h2 j];split
  ·rename_i q; subst q; exact (MC.cont_at e).symm
  ·rfl
 | none=>
  cases r:m.room B n with
  | none=>rw [MC.pin_full h e r]; exact ⟨cl,fun _ _=>rfl⟩
  | some k=>
   obtain ⟨c1,c2,c3⟩:=Cl.room mi cl r;rw [MC.pin_miss h e r];obtain ⟨h1,h2⟩:=Cl.lay (i:=i) (x:=⟨blk k.img B i,false,1⟩) (u':=k.used+1) (row':=k.row) (rd':=k.rd+1) (c1:(⟨k.img,k.rd,k.wr,k.fr,k.used,k.row⟩:MC).Cl B) (fun _=>rfl);refine ⟨h1,fun j hj=>?_⟩;rw [show ((⟨k.img,k.rd+1,k.wr,k.fr,k.used,k.row⟩:MC).come i ⟨blk k.img B i,false,1⟩).cont B j=_ from h2 j];split
   ·rename_i q; subst q; rw [<- c2 j hj]; exact (MC.cont_no (c3 j e)).symm
   ·exact c2 j hj
theorem Cl.fresh (mi:MI N B n t m) (cl:m.Cl B) (i:Nat):(m.fresh N B n i).2.Cl B/\((m.fresh N B n i).1=0->i<N)/\∀ j,j<N->(m.fresh N B n i).2.cont B j=if (m.fresh N B n i).1=0/\j=i then List.replicate B 0 else m.cont B j:=by
 by_cases h:N<=i
 ·rw [MC.fresh_out h]; exact ⟨cl,fun e=>by simp at e,fun _ _=>by rw [vS]⟩
 cases e:m.fr i with
 | some x=>
  by_cases p:0<x.p
  ·rw [MC.fresh_pin h e p]; exact ⟨cl,fun e=>by simp at e,fun _ _=>by rw [vS]⟩
  ·rw [MC.fresh_hit h e p];obtain ⟨h1,h2⟩:=Cl.lay (i:=i) (x:=⟨List.replicate B 0,true,1⟩) (u':=m.used) (row':=m.row.erase i) (rd':=m.rd) (cl:(⟨m.img,m.rd,m.wr,m.fr,m.used,m.row⟩:MC).Cl B) (fun hd=>by cases hd);refine ⟨h1,fun _=>by omega,fun j hj=>?_⟩;rw [show (((m.put i ⟨List.replicate B 0,true,1⟩).cut i).cont B j)=_ from h2 j];by_cases q:j=i
   ·rw [iT q,iT ⟨rfl,q⟩]
   ·rw [iF q,iF (fun z=>q z.2)]
 | none=>
  cases r:m.room B n with
  | none=>rw [MC.fresh_full h e r]; exact ⟨cl,fun e=>by simp at e,fun _ _=>by rw [vS]⟩
  | some k=>
   obtain ⟨c1,c2,c3⟩:=Cl.room mi cl r;rw [MC.fresh_miss h e r];obtain ⟨h1,h2⟩:=Cl.lay (i:=i) (x:=⟨List.replicate B 0,true,1⟩) (u':=k.used+1) (row':=k.row) (rd':=k.rd) (c1:(⟨k.img,k.rd,k.wr,k.fr,k.used,k.row⟩:MC).Cl B) (fun hd=>by cases hd);refine ⟨h1,fun _=>by omega,fun j hj=>?_⟩;rw [show (k.come i ⟨List.replicate B 0,true,1⟩).cont B j=_ from h2 j];by_cases q:j=i
   ·rw [iT q,iT ⟨rfl,q⟩]
   ·rw [iF q,iF (fun z=>q z.2)]; exact c2 j hj
theorem Cl.unpin (cl:m.Cl B) (i:Nat):(m.unpin i).2.Cl B/\∀ j,(m.unpin i).2.cont B j=m.cont B j:=by
 cases e:m.fr i with
 | none=>rw [MC.unpin_no e]; exact ⟨cl,fun _=>rfl⟩
 | some x=>
  have key:∀(p u:Nat) (row:List Nat),(⟨m.img,m.rd,m.wr,upd m.fr i (some ⟨x.b,x.d,p⟩),u,row⟩:MC).Cl B/\∀ j,(⟨m.img,m.rd,m.wr,upd m.fr i (some ⟨x.b,x.d,p⟩),u,row⟩:MC).cont B j=m.cont B j:=fun p u row=>by
   obtain ⟨h1,h2⟩:=Cl.lay (i:=i) (x:=⟨x.b,x.d,p⟩) (u':=u) (row':=row) (rd':=m.rd) (cl:(⟨m.img,m.rd,m.wr,m.fr,m.used,m.row⟩:MC).Cl B) (fun hd=>cl i x e hd);refine ⟨h1,fun j=>?_⟩;rw [h2 j];split
   ·rename_i q; subst q; exact (MC.cont_at e).symm
   ·rfl
  by_cases p:x.p=0
  ·rw [MC.unpin_out e p]; exact ⟨cl,fun _=>rfl⟩
  ·by_cases p1:x.p=1
   ·rw [MC.unpin_one e p1]; exact key _ _ _
   ·rw [MC.unpin_more e p p1]; exact key _ _ _
theorem Cl.write (mi:MI N B n t m) (cl:m.Cl B) (i:Nat) (b:T2):(m.write B i b).2.Cl B/\((m.write B i b).1=0->i<N)/\∀ j,(m.write B i b).2.cont B j=if (m.write B i b).1=0/\j=i then b else m.cont B j:=by
 cases e:m.fr i with
 | none=>rw [MC.write_no e]; exact ⟨cl,fun e=>by simp at e,fun _=>by rw [vS]⟩
 | some x=>
  by_cases p:x.p=0
  ·rw [MC.write_out e p]; exact ⟨cl,fun e=>by simp at e,fun _=>by rw [vS]⟩
  ·by_cases q:b.length=B
   ·rw [MC.write_hit e p q];obtain ⟨h1,h2⟩:=Cl.lay (i:=i) (x:=⟨b,true,x.p⟩) (u':=m.used) (row':=m.row) (rd':=m.rd) (cl:(⟨m.img,m.rd,m.wr,m.fr,m.used,m.row⟩:MC).Cl B) (fun hd=>by cases hd);refine ⟨h1,fun _=>(mi.len i x e).1,fun j=>?_⟩;rw [show (m.put i ⟨b,true,x.p⟩).cont B j=_ from h2 j];by_cases q:j=i
    ·rw [iT q,iT ⟨rfl,q⟩]
    ·rw [iF q,iF (fun z=>q z.2)]
   ·rw [MC.write_form e p q]; exact ⟨cl,fun e=>by simp at e,fun _=>by rw [vS]⟩
end
abbrev Shf:=Cfg×Ca×Bt×Int
section
variable {c:Cfg} {N B n t q:Nat} {s:Shf} {L:List Nat}
theorem Zdc:∀ {l:T2},Byt l->toB (toS l)=l
 | [],_=>rfl
 | x :: l,h=>by
  have hx:=h x (by simp);have ih:=Zdc (l:=l) fun y hy=>h y (List.mem_cons_of_mem _ hy);obtain ⟨v,rfl⟩:=Int.eq_ofNat_of_zero_le hx.1;unfold toS toB at *;rw [List.map_cons,List.map_cons,ih];congr 1;rw [tN,UInt8.toNat_ofNat'];rw [Nat.mod_eq_of_lt (by omega)]
structure EncN (nd:Nd):Prop where
 sm:SmallN nd
 kd:∀ x∈nd.2.1,0<=x/\x<4294967296
theorem EncN.ev {nd:Nd} (h:EncN nd) (c:Cfg):Ev (fun k=>Q35.f k c nd) (Uj c nd):=Zqy h.sm.kids h.sm.pivs (by have:=h.sm.buf; omega) (by have:=h.sm.prs; omega) h.kd
end
theorem Zqd {N B:Nat} (h:5<=N/\N<=65536/\1<=B/\B<=65536):Q54.f (N:Int) (B:Int)=some (some ((B:Int),List.replicate (N*B) 0,(0,0)),0):=by
 have hb:N*B<=65536*65536:=Nat.mul_le_mul h.2.1 h.2.2.2;have e:w64 ((N:Int)*(B:Int))=((N*B:Nat):Int):=by rw [show (N:Int)*(B:Int)=((N*B:Nat):Int) by simp,wI2]
 unfold Q54.f Q55.f;rw [iP,iP,iP,bS,iW,e,iO,tN]
structure Geo (c:Cfg) (N B n:Nat):Prop where
 ok:okB c=true
 z:Siz N B n
 n8:8<=n
 N5:5<=N/\N<=65536
 hB:B<=65536
 eN:c.1=(N:Int)
 eB:c.2.1=(B:Int)
 en:c.2.2.1=(n:Int)
structure ShK (c:Cfg) (N B n t:Nat) (s:Shf) (L:List Nat) (q:Nat) (K:Nat->List Int) (h:Nat->Bool):Prop where
 cfg:s.1=c
 ca:CaI N B n t [] s.2.1 L
 by':(Z6 s.2.1 L).By
 cl:(Z6 s.2.1 L).Cl B
 ct:∀ j,j<N->(Z6 s.2.1 L).cont B j=K j
 bits:BR N s.2.2.1 h
 h0:h 0=true
 kp:s.2.2.2=(q:Int)
 qN:q<N
 pin:∀ j,(Z6 s.2.1 L).cnt j=if j=q/\q≠0 then 1 else 0
 rd:0<=s.2.1.1.2.2.1/\s.2.1.1.2.2.1<=t
 wr:0<=s.2.1.1.2.2.2/\s.2.1.1.2.2.2<=64*t
section
variable {c:Cfg} {N B n t q:Nat} {s:Shf} {L:List Nat} {K:Nat->List Int} {h:Nat->Bool}
theorem ShK.few (H:ShK c N B n t s L q K h) (ht:t<=900000):Few s.2.1:=⟨⟨H.rd.1,by have:=H.rd.2; omega⟩,⟨H.wr.1,by have:=H.wr.2; omega⟩⟩
theorem ShK.up (H:ShK c N B n t s L q K h) {t':Nat} (ht:t<=t'):ShK c N B n t' s L q K h:=⟨H.cfg,H.ca.mono ht,H.by',H.cl,H.ct,H.bits,H.h0,H.kp,H.qN,H.pin,⟨H.rd.1,by have:=H.rd.2; omega⟩,⟨H.wr.1,by have:=H.wr.2; omega⟩⟩
theorem Zmm (g:Geo c N B n) (ca:CaI N B n t [] s.2.1 L) (hp:∀ j,(Z6 s.2.1 L).cnt j=if j=q/\q≠0 then 1 else 0):∃ k,(Z6 s.2.1 L).room B n=some k:=by
 unfold MC.room;by_cases hu:(Z6 s.2.1 L).used<n
 ·exact ⟨_,iT hu⟩
 ·rw [iF hu];have hlen:2<=s.2.1.2.2.1.length:=by
   have:=g.n8;have e:(Z6 s.2.1 L).used=s.2.1.2.2.1.length:=rfl;omega
  have hne:(Z6 s.2.1 L).row≠[]:=by
   have free:∀ i f:Nat,((i:Int),(f:Int))∈s.2.1.2.2.1->i≠q->(Z6 s.2.1 L).row≠[]:=fun i f hm hi e=>by
    have h1:=V5 ca hm;have h2:=hp i;rw [iF (fun z=>hi z.1)] at h2;have h3:(Z6 s.2.1 L).fr i=some (fm (s.2.1.2.1.getD f default)):=h1;rw [MC.cnt_at h3] at h2;have:=(ca.mi.rfr i).2 ⟨_,h3,h2⟩;rw [e] at this; cases this
   match hm:s.2.1.2.2.1,hlen with
   | a :: b :: r,_=>
    obtain ⟨i,f,ea,_⟩:=ca.mok a (by rw [hm]; simp);obtain ⟨j,f',eb,_⟩:=ca.mok b (by rw [hm]; simp);have hnd:=ca.mnd;rw [hm,List.map_cons,List.map_cons,List.nodup_cons,List.mem_cons,ea,eb] at hnd;by_cases q1:i=q
    ·refine free j f' (by rw [hm,eb]; simp) fun q2=>hnd.1 (.inl ?_);rw [q1,q2]
    ·exact free i f (by rw [hm,ea]; simp) q1
  cases e:(Z6 s.2.1 L).row.getLast? with
  | none=>exact absurd (List.getLast?_eq_none_iff.1 e) hne
  | some x=>exact ⟨_,rfl⟩
theorem MC.pin_ok {m:MC} {i:Nat} (hr:∃ k,m.room B n=some k) (hi:i<N):(m.pin N B n i).1=0:=by
 obtain ⟨k,hk⟩:=hr;unfold MC.pin;rw [iQ];cases m.fr i with
 | some x=>rfl
 | none=>rw [hk]
theorem MC.fresh_ok {m:MC} {i:Nat} (hr:∃ k,m.room B n=some k) (hi:i<N) (h0:m.cnt i=0):(m.fresh N B n i).1=0:=by
 obtain ⟨k,hk⟩:=hr;unfold MC.fresh;rw [iQ];cases e:m.fr i with
 | some x=>rw [MC.cnt_at e] at h0; dsimp only; rw [iQ]
 | none=>dsimp only; rw [hk]
theorem MC.write_ok {m:MC} {i:Nat} {b:T2} (h1:1<=m.cnt i) (hb:b.length=B):(m.write B i b).1=0:=by
 cases e:m.fr i with
 | none=>rw [MC.cnt_no e] at h1; omega
 | some x=>rw [MC.cnt_at e] at h1; rw [MC.write_hit e (by omega) hb]
theorem MC.read_ok {m:MC} {i:Nat} (h1:1<=m.cnt i):m.read i=(m.cont B i,0):=by
 cases e:m.fr i with
 | none=>rw [MC.cnt_no e] at h1; omega
 | some x=>rw [MC.cnt_at e] at h1; rw [MC.read_hit e (by omega),MC.cont_at e]
theorem ShK.there (g:Geo c N B n) (H:ShK c N B n t s L q K h) {i:Nat} (hi:i<4294967296):Q86.f s (i:Int)=some (if 1<=i/\i<N then 0 else 4):=by
 have e:=g.eN;have hN:=g.N5;unfold Q86.f;rw [H.cfg,e];by_cases q0:i=0
 ·rw [iP,iQ]
 ·have w1:w64 (i:Int)=(i:Int):=wI2;rw [iN,w1];by_cases q1:N<=i
  ·rw [iP,iQ]
  ·rw [iN,iO]
theorem ShK.put (H:ShK c N B n t s L q K h) {c':Ca} {L':List Nat} {t' a b:Nat} {K':Nat->List Int} (hca:CaI N B n t' [] c' L') (hto:MC.To a b (Z6 s.2.1 L) (Z6 c' L')) (hcl:(Z6 c' L').Cl B) (hct:∀ j,j<N->(Z6 c' L').cont B j=K' j) (hpin:∀ j,(Z6 c' L').cnt j=if j=q/\q≠0 then 1 else 0) (ht:t+a<=t') (hb:b<=64*(t' - t)):ShK c N B n t' (s.1,c',s.2.2.1,s.2.2.2) L' q K' h:=
 ⟨H.cfg,hca,hto.by' H.by',hcl,hct,H.bits,H.h0,H.kp,H.qN,hpin,by
  have r1:=hto.rd;have r2:=H.rd;have e1:(Z6 s.2.1 L).rd=s.2.1.1.2.2.1:=rfl;have e2:(Z6 c' L').rd=c'.1.2.2.1:=rfl;show 0<=c'.1.2.2.1/\c'.1.2.2.1<=t';omega,by
  have r1:=hto.wr;have r2:=H.wr;have e1:(Z6 s.2.1 L).wr=s.2.1.1.2.2.2:=rfl;have e2:(Z6 c' L').wr=c'.1.2.2.2:=rfl;show 0<=c'.1.2.2.2/\c'.1.2.2.2<=64*t';omega⟩
def Zba (c:Cfg) (b:T2):Nd×Int:=Zel c (toS b)
theorem Zoh (g:Geo c N B n) (H:ShK c N B n t s L q K h) (ht:t<=800000) {i:Nat} (hi:i<4294967296):∃(s':Shf) (L':List Nat),Ev (fun k=>Q80.f k s (i:Int)) (if 1<=i/\i<N then ((Zba c (K i)).1,(Zba c (K i)).2,s') else (Gw,4,s'))/\ShK c N B n (t+1) s' L' q K h/\MC.To 1 1 (Z6 s.2.1 L) (Z6 s'.2.1 L')/\(i=q->MC.To 0 0 (Z6 s.2.1 L) (Z6 s'.2.1 L')):=by
 have ht':=H.there g hi;by_cases q1:1<=i/\i<N
 ·rw [iT q1] at ht';have hr:=Zmm g H.ca H.pin;obtain ⟨c1,L1,e1,hc1,ha1⟩:=Zsz g.z H.ca (H.few (by omega)) (by omega) i hi;obtain ⟨f1,f0,f2⟩:=Pm.pin H.ca.mi H.by' i;obtain ⟨cl1,ct1⟩:=Cl.pin H.ca.mi H.cl i;have r0:=MC.pin_ok (i:=i) hr q1.2;rw [<- ha1] at f1 f0 f2 cl1 ct1;have y1:=f1.by' H.by';have p1:1<=(Z6 c1 L1).cnt i:=by rw [f2,iT ⟨r0,rfl⟩]; omega
  obtain ⟨c3,L3,e3,hc3,ha3⟩:=Zl3 g.z hc1 (by omega) i;obtain ⟨u1,u2⟩:=Pm.unpin y1 i;obtain ⟨cl3,ct3⟩:=Cl.unpin cl1 i;rw [<- ha3] at u1 u2 cl3 ct3;have er:=Zr6 g.z hc1 i;rw [MC.read_ok (B:=B) p1,ct1 i q1.2,H.ct i q1.2] at er;have hbK:Byt (K i)/\(K i).length=B:=by
   rw [<- H.ct i q1.2,<- ct1 i q1.2];cases ef:(Z6 c1 L1).fr i with
   | none=>rw [MC.cnt_no ef] at p1; omega
   | some x=>rw [MC.cont_at ef]; exact ⟨y1.fr i x ef,(hc1.mi.len i x ef).2.1⟩
  obtain ⟨k0,hk⟩:=Zsh (c:=c) (b:=toS (K i)) (by have:=hbK.2; have:=g.hB; rw [<- Z5,Zdc hbK.1]; omega);refine ⟨(s.1,c3,s.2.2.1,s.2.2.2),L3,⟨k0,fun k kk=>?_⟩,H.put (a:=1) (b:=1) hc3 ((f1.trans u1).le (by omega) (by omega)) cl3 (fun j hj=>by rw [ct3,ct1 j hj,H.ct j hj]) (fun j=>?_) (by omega) (by omega),(f1.trans u1).le (by omega) (by omega),fun e=>?_⟩
  ·show Q80.f k s (i:Int)=_;have hcfg:=H.cfg;unfold Q80.f;rw [ht',bS,vS,e1,bS,iF (by simpa using r0)];dsimp only;rw [er,bS,e3,bS,vS,hcfg,iT q1];have:=hk k kk;rw [Zdc hbK.1] at this;rw [show Q34.f k c (K i)=_ from this,bS];rfl
  ·rw [u2];by_cases e:j=i
   ·subst e;rw [iT rfl,f2,iT ⟨r0,rfl⟩,Nat.add_sub_cancel,H.pin]
   ·rw [iF e,f2,iF (fun z=>e z.2),H.pin]
  ·subst e;have:1<=(Z6 s.2.1 L).cnt i:=by rw [H.pin,iT ⟨rfl,by omega⟩]; omega
   exact ((f0 this).trans u1).le (by omega) (by omega)
 ·rw [iF q1] at ht';refine ⟨s,L,⟨0,fun k _=>?_⟩,H.up (by omega),(MC.To.refl _).le (by omega) (by omega),fun _=>MC.To.refl _⟩;show Q80.f k s (i:Int)=_;unfold Q80.f;rw [ht',bS,iU,iF q1];rfl
theorem Zqj (g:Geo c N B n) (H:ShK c N B n t s L q K h) (ht:t<=800000) {i:Nat} (hi:1<=i/\i<N) {b:T2} (hb:Byt b) (hl:b.length=B):∃ s' L',Q84.f s (i:Int) b=some (0,s')/\ShK c N B n (t+1) s' L' q (upd K i b) h/\MC.To 0 1 (Z6 s.2.1 L) (Z6 s'.2.1 L'):=by
 have hr:=Zmm g H.ca H.pin;have hN:=g.N5;unfold Q84.f;rw [H.kp];by_cases qi:i=q
 ·obtain ⟨c',L',e,hc,ha⟩:=Zmi g.z H.ca i b;obtain ⟨t1,t2⟩:=Pm.write (m:=Z6 s.2.1 L) (B:=B) i hb;obtain ⟨cl1,_,ct1⟩:=Cl.write H.ca.mi H.cl i b;have w0:((Z6 s.2.1 L).write B i b).1=0:=MC.write_ok (by rw [H.pin,iT ⟨qi,by omega⟩]; omega) hl;rw [<- ha] at t1 t2 cl1 ct1;rw [iP,e,bS,w0];refine ⟨_,L',rfl,?_,t1.le (by omega) (by omega)⟩;have:=H.put (a:=0) (b:=0) (t':=t+1) (K':=upd K i b) (hc.mono (by omega)) t1 cl1 (fun j hj=>by
   rw [ct1 j];by_cases e:j=i
   ·subst e; rw [iT ⟨w0,rfl⟩,Z7]
   ·rw [iF (fun z=>e z.2),Yf e,H.ct j hj]) (fun j=>by rw [t2,H.pin]) (by omega) (by omega)
  rw [H.kp] at this;exact this
 ·obtain ⟨c1,L1,e1,hc1,ha1⟩:=Zqb g.z H.ca (H.few (by omega)) (by omega) i (by omega);obtain ⟨f1,f2⟩:=Pm.fresh H.ca.mi H.by' i;obtain ⟨cl1,_,ct1⟩:=Cl.fresh H.ca.mi H.cl i;have r0:((Z6 s.2.1 L).fresh N B n i).1=0:=MC.fresh_ok hr hi.2 (by rw [H.pin,iF (fun z=>qi z.1)]);rw [<- ha1] at f1 f2 cl1 ct1;have y1:=f1.by' H.by';obtain ⟨c2,L2,e2,hc2,ha2⟩:=Zmi g.z hc1 i b;obtain ⟨t1,t2⟩:=Pm.write (m:=Z6 c1 L1) (B:=B) i hb;obtain ⟨cl2,_,ct2⟩:=Cl.write hc1.mi cl1 i b;have w0:((Z6 c1 L1).write B i b).1=0:=MC.write_ok (by rw [f2,iT ⟨r0,rfl⟩]; omega) hl;rw [<- ha2] at t1 t2 cl2 ct2;have y2:=t1.by' y1;obtain ⟨c3,L3,e3,hc3,ha3⟩:=Zl3 g.z hc2 (by omega) i;obtain ⟨u1,u2⟩:=Pm.unpin y2 i;obtain ⟨cl3,ct3⟩:=Cl.unpin cl2 i;rw [<- ha3] at u1 u2 cl3 ct3;rw [iN,e1,bS,iF (by simpa using r0)];dsimp only;rw [e2,bS];dsimp only;rw [e3,bS,w0];refine ⟨_,L3,rfl,?_,((f1.trans t1).trans u1).le (by omega) (by omega)⟩;have:=H.put (a:=0) (b:=1) (t':=t+1) (K':=upd K i b) hc3 (((f1.trans t1).trans u1).le (by omega) (by omega)) cl3 (fun j hj=>by
   rw [ct3,ct2 j];by_cases e:j=i
   ·subst e; rw [iT ⟨w0,rfl⟩,Z7]
   ·rw [iF (fun z=>e z.2),Yf e,ct1 j hj,iF (fun z=>e z.2),H.ct j hj]) (fun j=>by
   rw [u2];by_cases e:j=i
   ·subst e; rw [iT rfl,t2,f2,iT ⟨r0,rfl⟩,Nat.add_sub_cancel,H.pin]
   ·rw [iF e,t2,f2,iF (fun z=>e z.2),H.pin]) (by omega) (by omega)
  rw [H.kp] at this;exact this
def Xv (c:Cfg) (nd:Nd):List Int:=toB (Bf c nd)
theorem Zjk {c:Cfg} {nd:Nd} (hn:EncN nd) (g:Geo c N B n) (hr:Ym c X9 nd=true):Byt (Xv c nd)/\(Xv c nd).length=B:=by
 have hf:=Jp (Jw g.ok) hn.kd hr;refine ⟨fun x hx=>?_,?_⟩
 ·unfold Xv toB at hx;obtain ⟨y,_,rfl⟩:=List.mem_map.1 hx;have:=y.toNat_lt;omega
 ·unfold Xv;rw [Z5,Zev g.ok hf];have:=(Zbx g.ok hf).2.2;have:=g.eB;omega
theorem Zao {c:Cfg} {nd:Nd} (hok:okB c=true) (hl:∀ x∈nd.2.1,0<=x/\x<4294967296) (hr:Ym c X9 nd=true):Zba c (Xv c nd)=(nd,0):=by
 unfold Zba Xv;rw [Zca];exact Zn4 hok hl hr
theorem Zov (g:Geo c N B n) (H:ShK c N B n t s L q K h) (ht:t<=800000) {i:Nat} (hi:i<4294967296) {nd:Nd} (hn:EncN nd):∃ s' L',Ev (fun k=>Q82.f k s (i:Int) nd) (if 1<=i/\i<N then (if Ym c X9 nd=true then 0 else 3) else 4,s')/\ShK c N B n (t+1) s' L' q (if (1<=i/\i<N)/\Ym c X9 nd=true then upd K i (Xv c nd) else K) h/\MC.To 0 1 (Z6 s.2.1 L) (Z6 s'.2.1 L'):=by
 have ht':=H.there g hi;obtain ⟨k0,hk'⟩:=hn.ev c;have hk:∀ k,k0<=k->Q35.f k s.1 nd=some (Uj c nd):=fun k kk=>by rw [H.cfg]; exact hk' k kk
 by_cases q1:1<=i/\i<N
 ·rw [iT q1] at ht' ⊢;cases hr:Ym c X9 nd with
  | true=>
   obtain ⟨b1,b2⟩:=Zjk hn g hr;obtain ⟨s',L',e,H',to⟩:=Zqj g H ht q1 b1 b2;rw [iT rfl,iT ⟨q1,rfl⟩];refine ⟨s',L',⟨k0,fun k kk=>?_⟩,H',to⟩;show Q82.f k s (i:Int) nd=_;have ee:Uj c nd=(Xv c nd,0):=by unfold Uj Xv; rw [iT g.ok,iT hr]
   unfold Q82.f;rw [ht',bS,vS,hk k kk,bS,ee,vS,e,bS]
  | false=>
   rw [vS,vS];refine ⟨s,L,⟨k0,fun k kk=>?_⟩,H.up (by omega),(MC.To.refl _).le (by omega) (by omega)⟩;show Q82.f k s (i:Int) nd=_;have ee:Uj c nd=([],3):=by unfold Uj; rw [iT g.ok,hr,vS]
   unfold Q82.f;rw [ht',bS,vS,hk k kk,bS,ee,iU]
 ·rw [iF q1] at ht' ⊢;rw [iF (fun z=>q1 z.1)];refine ⟨s,L,⟨k0,fun k kk=>?_⟩,H.up (by omega),(MC.To.refl _).le (by omega) (by omega)⟩;show Q82.f k s (i:Int) nd=_;unfold Q82.f;rw [ht',bS,iU]
end
theorem Zk3 {i:Nat} (h:i<4294967296):uD.wrap (i:Int)=(i:Int):=by
 have:(i:Int) % 4294967296=(i:Int):=Int.emod_eq_of_lt (by omega) (by omega);simp [IntKind.wrap,IntKind.bits,IntKind.signed,this]
section
variable {c:Cfg} {N B n t q:Nat} {s:Shf} {L:List Nat} {K:Nat->List Int} {h:Nat->Bool} {p:Bt}
def B8 (N:Nat) (h:Nat->Bool):Nat:=N - ((List.range N).filter h).length
theorem Zr2 (b:BR N p h):Q74.f p=some ((B8 N h:Nat):Int):=by
 have hN:=b.N1;have hc:=Zma b;unfold Q74.f Q78.f Q7.f Q4.f B8;rw [bS,vS,bS,bS,b.n,b.cnt,wI2];congr 1;omega
theorem Zj0 (h:Nat->Bool):B8 N h=0↔∀ i,i<N->h i=true:=by
 unfold B8;constructor
 ·intro e i hi;have hle:((List.range N).filter h).length<=N:=by have:=List.length_filter_le h (List.range N); rwa [length_range] at this
  have:((List.range N).filter h).length=(List.range N).length:=by rw [length_range]; omega
  exact List.length_filter_eq_length_iff.1 this i (List.mem_range.2 hi)
 ·intro e;rw [List.filter_eq_self.2 fun x hx=>e x (List.mem_range.1 hx),length_range,Nat.sub_self]
theorem Zr5 (b:BR N p h):(B8 N h=0/\∀ k,3000<k->Q77.f k p=some (0,11,p))\/∃(i:Nat) (p':Bt),i<N/\h i=false/\(∀ j,j<i->h j=true)/\(∀ k,3000<k->Q77.f k p=some ((i:Int),0,p'))/\BR N p' (upd h i true):=by
 have hN:=b.N1;have eF:=Zr2 b;by_cases qz:B8 N h=0
 ·refine .inl ⟨qz,fun k hk=>?_⟩;unfold Q77.f Q76.f;rw [Q78.f,bS,vS,vS,eF,bS,iP,bS,iU]
 ·have hfree:∃ i,i<N/\h i=false:=by
   apply Classical.byContradiction;intro hn;refine qz ((Zj0 h).2 fun i hi=>?_);cases hh:h i with
   | true=>rfl
   | false=>exact absurd ⟨i,hi,hh⟩ hn
  obtain ⟨i,_,hiN,hif,hil⟩:=b.free (k:=3001) (by omega) hfree;obtain ⟨p',es,b'⟩:=b.set (i:=i) (by omega);rw [iQ] at b';refine .inr ⟨i,p',hiN,hif,hil,fun k hk=>?_,b'⟩;obtain ⟨k2,rfl⟩:∃ k2,k=k2+2:=⟨k - 2,by omega⟩;obtain ⟨i2,ei,hi2N,hi2f,hi2l⟩:=b.free (k:=k2+1) (by omega) hfree;have:i2=i:=by
   rcases Nat.lt_trichotomy i2 i with z | z | z
   ·rw [hil _ z] at hi2f; cases hi2f
   ·exact z
   ·rw [hi2l _ z] at hif; cases hif
  subst this;unfold Q77.f Q76.f;rw [Q78.f,bS,vS,vS,eF,bS,iN,Q76.l0,iT (by decide),show Q5.f (k2+1) (p.1,p.2.1,p.2.2) 0=_ from ei,bS];dsimp only;rw [show Q8.f (p.1,p.2.1,p.2.2) (i2:Int)=_ from es,bS,iU,Q76.l0,iF (by decide),bS];dsimp only;rw [vS,iU,List.nil_append,show gt [uD.wrap (i2:Int)] 0=uD.wrap (i2:Int) from rfl,Zk3 (by omega)]
theorem ShK.pool (H:ShK c N B n t s L q K h) {p':Bt} {h':Nat->Bool} (b:BR N p' h') (h0:h' 0=true):ShK c N B n t (s.1,s.2.1,p',s.2.2.2) L q K h':=⟨H.cfg,H.ca,H.by',H.cl,H.ct,b,h0,H.kp,H.qN,H.pin,H.rd,H.wr⟩
theorem Zsb (g:Geo c N B n) (H:ShK c N B n t s L q K h) (ht:t<=800000) {nd:Nd} (hn:EncN nd) :
  (Ym c X9 nd=false/\Ev (fun k=>Q81.f k s nd) (0,3,s))\/(Ym c X9 nd=true/\B8 N h=0/\Ev (fun k=>Q81.f k s nd) (0,11,s))\/
  (Ym c X9 nd=true/\∃(i:Nat) (s':Shf) (L':List Nat),1<=i/\i<N/\h i=false/\(∀ j,j<i->h j=true)/\Ev (fun k=>Q81.f k s nd) ((i:Int),0,s')/\ShK c N B n (t+1) s' L' q (upd K i (Xv c nd)) (upd h i true)/\MC.To 0 1 (Z6 s.2.1 L) (Z6 s'.2.1 L')):=by
 obtain ⟨k0,hk'⟩:=hn.ev c;have hk:∀ k,k0<=k->Q35.f k s.1 nd=some (Uj c nd):=fun k kk=>by rw [H.cfg]; exact hk' k kk
 cases hr:Ym c X9 nd with
 | false=>
  refine .inl ⟨rfl,k0,fun k kk=>?_⟩;show Q81.f k s nd=_;have ee:Uj c nd=([],3):=by unfold Uj; rw [iT g.ok,hr,vS]
  unfold Q81.f Q85.f;rw [bS,vS,hk k kk,bS,ee,iU]
 | true=>
  have ee:Uj c nd=(Xv c nd,0):=by unfold Uj Xv; rw [iT g.ok,iT hr]
  rcases Zr5 H.bits with ⟨z0,e⟩ | ⟨i,p',hiN,hif,hil,e,b'⟩
  ·refine .inr (.inl ⟨rfl,z0,k0+3001,fun k kk=>?_⟩);show Q81.f k s nd=_;unfold Q81.f Q85.f;rw [bS,vS,hk k (by omega),bS,ee,vS,e k (by omega),bS,iU]
  ·have hi1:1<=i:=by
    apply Nat.one_le_iff_ne_zero.2;intro e0;rw [e0,H.h0] at hif; cases hif
   have H1:=H.pool b' (by rw [Yf]; exact H.h0);obtain ⟨b1,b2⟩:=Zjk hn g hr;obtain ⟨s',L',el,H',to⟩:=Zqj g H1 ht ⟨hi1,hiN⟩ b1 b2;refine .inr (.inr ⟨rfl,i,s',L',hi1,hiN,hif,hil,⟨k0+3001,fun k kk=>?_⟩,H',to⟩);show Q81.f k s nd=_;unfold Q81.f Q85.f;rw [bS,vS,hk k (by omega),bS,ee,vS,e k (by omega),bS,vS];dsimp only;rw [el,bS,vS]
end
section
variable {c:Cfg} {N B n t q:Nat} {s:Shf} {L:List Nat} {K:Nat->List Int} {h:Nat->Bool} {p:Bt}
theorem Zoe {N:Nat} (h5:5<=N) (h:N<=65536):∃ p,Q73.f (N:Int)=some (some p,0)/\BR N p (upd (fun _=>false) 0 true):=by
 have e1:w64 ((N:Int)+64)=((N+64:Nat):Int):=by rw [wI2]; omega
 have e2:w64 (((N+64:Nat):Int) - 1)=((N+63:Nat):Int):=by rw [wI2]; omega
 have e3:w64 (Int.tdiv ((N+63:Nat):Int) 64)=(((N+63) / 64:Nat):Int):=by
  rw [show Int.tdiv ((N+63:Nat):Int) 64=(((N+63) / 64:Nat):Int) from rfl,wI2]
 have b0:BR N ((N:Int),0,List.replicate ((N+63) / 64) (0:Int)) (fun _=>false):=by
  refine ⟨rfl,by omega,?_,by simp,fun w hw=>⟨0,?_,by decide,fun b hb=>?_⟩⟩
  ·have:(List.range N).filter (fun _=>false)=[]:=List.filter_eq_nil_iff.2 (by simp);rw [this]; rfl
  ·rw [length_replicate] at hw;rw [List.getD_eq_getElem?_getD,List.getElem?_replicate,iT hw]; rfl
  ·simp
 obtain ⟨p',es,b'⟩:=b0.set (i:=0) (by omega);rw [iQ] at b';refine ⟨p',?_,b'⟩;unfold Q73.f Q2.f;rw [iN,iN,iN,e1,e2,e3,iO,bS];dsimp only [Vo];rw [iU,tN,show Q8.f ((N:Int),0,List.replicate ((N+63) / 64) (0:Int)) 0=_ from es,bS]
def Zep (c:Cfg) (N B n:Nat) (ch:Chn) (p:Bt):Shf:=(c,(((B:Int),List.replicate (N*B) 0,(0,0)),List.replicate n (0,[],false,0),[],(List.range n).map (fun(i:Nat)=>(i:Int)),ch),p,0)
theorem Zsw (g:Geo c N B n) {ch:Chn} (hc:ChI n ch []) {p:Bt} (hp:BR N p (upd (fun _=>false) 0 true)):ShK c N B n 0 (Zep c N B n ch p) [] 0 (fun _=>List.replicate B 0) (upd (fun _=>false) 0 true):=by
 have hi:=Zrh g.z (img:=List.replicate (N*B) 0) (by simp) (0,0) hc;have fr0:∀ i,(Z6 (Zep c N B n ch p).2.1 []).fr i=none:=fun i=>by
  show Xq (Zep c N B n ch p).2.1 i=none;exact Ja (by simp [Zep])
 refine ⟨rfl,hi,⟨Byt.rep _,fun i x hx=>by rw [fr0 i] at hx; cases hx⟩,fun i x hx=>(by rw [fr0 i] at hx; cases hx),fun j hj=>?_,hp,Z7 _ _ _,rfl,by have:=g.N5; omega,fun j=>?_,⟨Int.le_refl _,Int.le_refl _⟩,⟨Int.le_refl _,Int.le_refl _⟩⟩
 ·rw [MC.cont_no (fr0 j)];show blk (List.replicate (N*B) 0) B j=_;unfold blk;have:j*B+B<=N*B:=by rw [<- Nat.succ_mul]; exact Nat.mul_le_mul_right _ hj
  rw [List.drop_replicate,List.take_replicate,Nat.min_eq_left (by omega)]
 ·rw [show (Z6 (Zep c N B n ch p).2.1 []).cnt j=0 from MC.cnt_no (fr0 j),iF (fun z=>z.2 rfl)]
end
def emS (s:Sp):Bool:=!s.2.2 && !Op.bytesLess s.1 s.2.1
theorem Zgg (s:Sp):Q61.f s=some (emS s):=by
 unfold Q61.f emS;rw [Zfu];cases s.2.2 <;> rfl
abbrev pk (p:Pr):List UInt8:=p.1
abbrev mk (m:Msg):List UInt8:=m.1
def okN (N:Nat) (l:List Msg):Prop:=l.length<=N/\∀ m∈l,m.1.length<=300
theorem Bk {l:List Msg} {m:Msg} (hl:okN 1000 l) (hm:m.1.length<=300):∀(k i:Nat) (x1:List Msg),i<=l.length->x1.length<=2000+i->l.length - i<k->(∀ b∈l.drop i,b.1≠m.1)->Q140.l0 k l m x1 true (i:Int)=some (x1 ++ l.drop i)
 | 0,i,x1,_,_,h,_=>by omega
 | k+1,i,x1,hi,hx,hk,hn=>by
  have h1000:=hl.1;rw [Q140.l0];by_cases h:i<l.length
  ·have ne:(l.getD i default).1≠m.1:=hn _ (by rw [Yu h]; simp);have ih:=Bk hl hm k (i+1) (x1 ++ [l.getD i default]) (by omega) (by simp; omega) (by omega) (fun b hb=>hn b (by rw [Yu h]; simp [hb]));rw [iP,vS,iO,Zv,iT (by simp only [ne,decide_false]; rfl),iV,wS2,ih,Yu h];simp
  ·rw [iW,vS,dN];simp
theorem Zez {l:List Msg} {m:Msg} (hl:okN 1000 l) (hm:m.1.length<=300):∀(k i:Nat) (x1:List Msg),i<=l.length->x1.length<=1000+i->2001+(l.length - i)<k->RiseK mk (l.drop i)->Q140.l0 k l m x1 false (i:Int)=some (x1 ++ Xl mk m (l.drop i))
 | 0,i,x1,_,_,h,_=>by omega
 | k+1,i,x1,hi,hx,hk,hr=>by
  have h1000:=hl.1;rw [Q140.l0];by_cases h:i<l.length
  ·have kl:=hl.2 _ (Yw (d:=default) h);rw [Yu h] at hr ⊢;obtain ⟨r1,r2⟩:=List.pairwise_cons.1 hr;rw [iP,iT (by rfl),iO,Zv,V3 (by omega) (by omega) (by omega),bS,wS2];unfold Xl;cases q:Op.bytesLess (l.getD i default).1 m.1 with
   | true=>
    have ne:(l.getD i default).1≠m.1:=W8 q;rw [iF (by simp only [dE,scmp_le,q]; simp),iT (by simp only [ne,decide_false]; rfl),iV,Zez hl hm k (i+1) _ (by omega) (by simp; omega) (by omega) r2,
     iF (by rw [show Op.bytesLess (mk m) (mk (l.getD i default))=false from Wl q]; simp),iF (show ¬ mk m=mk (l.getD i default) from fun e=>ne e.symm)]
    simp
   | false=>
    rw [iT (dT (scmp_le.2 q)),iV];by_cases e:(l.getD i default).1=m.1
    ·have hn:∀ b∈l.drop (i+1),b.1≠m.1:=fun b hb=>by rw [<- e]; exact (W8 (r1 b hb)).symm
     rw [iF (by rw [dT e]; simp),Bk hl hm k (i+1) _ (by omega) (by simp; omega) (by omega) hn,iF (by rw [show mk m=mk (l.getD i default) from e.symm,Vs]; simp),iT (show mk m=mk (l.getD i default) from e.symm)];simp
    ·have lt:Op.bytesLess m.1 (l.getD i default).1=true:=(Zaa q).resolve_left e;have hn:∀ b∈l.drop (i+1),b.1≠m.1:=fun b hb=>(W8 (X5 lt (r1 b hb))).symm;rw [iT (by simp only [e,decide_false]; rfl),iV,Bk hl hm k (i+1) _ (by omega) (by simp; omega) (by omega) hn,iT (show Op.bytesLess (mk m) (mk (l.getD i default))=true from lt)];simp
  ·rw [iW,iT (by rfl),iV,dN];rfl
theorem Ziy {l:List Msg} {m:Msg} (hl:okN 1000 l) (hm:m.1.length<=300) (hr:RiseK mk l) {k:Nat} (hk:4000<k):Q140.f k l m=some (Xl mk m l):=by
 have:=Zez hl hm k 0 [] (by omega) (by simp) (by have:=hl.1; omega) (by simpa using hr);simpa [Q140.f] using this
theorem Za3 {l:List Pr} (x:TY) (hl:l.length<=1000000):∀(k i:Nat) (x1:List Pr),i<=l.length->x1.length<=i->l.length - i<k->Q141.l0 k l x x1 (i:Int)=some (x1 ++ Wo pk x (l.drop i))
 | 0,i,x1,_,_,h=>by omega
 | k+1,i,x1,hi,hx,hk=>by
  rw [Q141.l0];by_cases h:i<l.length
  ·rw [iP,iO,Zv,wS2,Yu h];unfold Wo;rw [List.filter_cons];by_cases e:(l.getD i default).1=x
   ·rw [iF (by rw [dT e]; simp),Za3 x hl k (i+1) x1 (by omega) (by omega) (by omega),iF (by rw [show pk (l.getD i default)=x from e]; simp)];rfl
   ·rw [iT (by rw [dF e]; rfl),iV,Za3 x hl k (i+1) _ (by omega) (by simp; omega) (by omega),iT (by rw [dF (show ¬ pk (l.getD i default)=x from e)]; rfl)];simp [Wo]
  ·rw [iW,dN];simp [Wo]
theorem Zgb {l:List Pr} (x:TY) (hl:l.length<=1000000) {k:Nat} (hk:l.length<k):Q141.f k l x=some (Wo pk x l):=by
 have:=Za3 x hl k 0 [] (by omega) (by simp) (by omega);simpa [Q141.f] using this
theorem Zcl {r:List Pr} {key val:TY} (hl:r.length<=1000000) (hk300:key.length<=300) (hr300:∀ p∈r,p.1.length<=300) (hr:RiseK pk r) (hne:∀ p∈r,p.1≠key):∀(k i:Nat),i<=r.length->2001+(r.length - i)<k->(∀ j,j<i->Op.bytesLess (r.getD j default).1 key=true)->
  Q142.l0 k key val r (i:Int)=some (Xl pk (key,val) r)
 | 0,i,_,h,_=>by omega
 | k+1,i,hi,hk,hb=>by
  rw [Q142.l0];have fin:(∀ j,i<=j->j<r.length->Op.bytesLess (r.getD j default).1 key=false)->r.take i ++ [(key,val)] ++ r.drop i=Xl pk (key,val) r:=fun h=>by
   have hat:AtK pk r (pk (key,val)) i:=⟨hi,hb,h⟩;rw [hat.put hr,iF (fun t=>hne _ (Yw t.1) t.2)];simp
  have rest:(if (0:Int)<=(i:Int)/\(i:Int)<=(r.length:Int) then (if (([]:List Pr).length+(r.take (i:Int).toNat).length)*32<=140737488355328 then (if ((([]:List Pr) ++ (r.take (i:Int).toNat)).length+([(key,val)]:List Pr).length)*32<=140737488355328 then (if 0<=(i:Int)/\(i:Int)<=(r.length:Int) then (if (((([]:List Pr) ++ (r.take (i:Int).toNat)) ++ ([(key,val)]:List Pr)).length+(r.drop (i:Int).toNat).length)*32<=140737488355328 then (some (((([]:List Pr) ++ (r.take (i:Int).toNat)) ++ ([(key,val)]:List Pr)) ++ (r.drop (i:Int).toNat))) else none) else none) else none) else none) else none)=some (r.take i ++ [(key,val)] ++ r.drop i):=by
   rw [iO,iV,iV,iO,iV];simp
  by_cases h:i<r.length
  ·rw [iP,iO,Zv,V3 (by have:=hr300 _ (Yw (d:=default) h); omega) (by omega) (by omega),bS];cases q:Op.bytesLess (r.getD i default).1 key with
   | true=>
    rw [iT (dT (scmp_lt.2 q)),wS2];refine Zcl hl hk300 hr300 hr hne k (i+1) (by omega) (by omega) fun j hj=>?_;by_cases e:j=i
    ·subst e; exact q
    ·exact hb j (by omega)
   | false=>
    rw [iF (by simp only [dE,scmp_lt,q]; simp),rest,fin];intro j hj hjl;by_cases e:j=i
    ·subst e; exact q
    ·exact Bb q (Wl (RiseK.get pk hr (show i<j by omega) hjl default))
  ·rw [iW,rest,fin];intro j hj hjl;omega
theorem Zoz {l:List Pr} {key val:TY} (hr:RiseK pk l):Xl pk (key,val) (Wo pk key l)=Xl pk (key,val) l:=
 Ze8 pk (Js pk (Zfo pk hr)) (Js pk hr) fun k=>by
  rw [Zcs,Zcs,Zhd];by_cases e:pk (key,val)=k
  ·rw [iT e,iT e]
  ·rw [iF e,iF e,iF (show ¬ key=k from e)]
theorem Zgj {l:List Pr} {key val:TY} (hl:l.length<=1000000) (hk300:key.length<=300) (hr300:∀ p∈l,p.1.length<=300) (hr:RiseK pk l) {k:Nat} (hk:2010+l.length<k):Q142.f k l key val=some (Xl pk (key,val) l):=by
 have hl2:(Wo pk key l).length<=l.length:=List.length_filter_le _ _;unfold Q142.f;rw [Zgb key (by omega) (by omega),bS];have:=Zcl (r:=Wo pk key l) (key:=key) (val:=val) (by omega) hk300 (fun p hp=>hr300 p (List.mem_filter.1 hp).1) (Zfo pk hr) (fun p hp e=>by have:=(List.mem_filter.1 hp).2; simp [show pk p=key from e] at this) k 0 (by omega) (by omega) (fun j hj=>by omega);rw [<- Zoz hr];exact this
def Zn9 (a b:Sp):Sp:=(if Op.bytesLess a.1 b.1=true then b.1 else a.1,if a.2.2=true then (if b.2.2=true then [] else b.2.1) else if b.2.2=true then a.2.1 else if Op.bytesLess b.2.1 a.2.1=true then b.2.1 else a.2.1,a.2.2 && b.2.2)
def U2 (a b:Sp):Sp×Bool:=if emS (Zn9 a b)=true then (([],[],false),false) else (Zn9 a b,true)
theorem Zlb (a b:Sp):Q63.f a b=some (U2 a b):=by
 obtain ⟨l,h,p⟩:=a;obtain ⟨m,i,q⟩:=b;have e:(if (!Op.bytesLess l m)=true then l else m)=if Op.bytesLess l m=true then m else l:=by cases Op.bytesLess l m <;> rfl
 have f:(if (Op.bytesLess h i || decide (h=i))=true then h else i)=if Op.bytesLess i h=true then i else h:=by rw [Zfu]; cases Op.bytesLess i h <;> rfl
 cases p <;> cases q <;> simp only [Q63.f,U2,Zn9,Zgg,bS,e,f,Bool.not_true,Bool.not_false,Bool.false_eq_true,if_false,if_true,Bool.and_true,Bool.true_and,Bool.and_false,Bool.false_and] <;> exact (apply_ite some _ _ _).symm
structure Small (l:TQ) (x:TY) (s:Sp):Prop where
 len:l.length<=80
 all:∀ p∈l,p.length<=300
 x:x.length<=300
 lo:s.1.length<=300
 hi:s.2.1.length<=300
theorem Small.get {l:TQ} {x:TY} {s:Sp} (h:Small l x s) (i:Nat):(l.getD i []).length<=300:=by
 by_cases hi:i<l.length
 ·exact h.all _ (Yw hi)
 ·rw [List.getD_eq_getElem?_getD,List.getElem?_eq_none (by omega)];exact Nat.zero_le _
def Zj3 (l:TQ) (x:TY) (w:Nat):Prop:=w<=l.length/\(∀ j,j<w->Op.bytesLess x (l.getD j [])=false)/\∀ j,w<=j->j<l.length->Op.bytesLess x (l.getD j [])=true
def Jb (l:TQ) (i:Nat):Sp:=(if 0<i then l.getD (i - 1) [] else [],if i=l.length then [] else l.getD i [],decide (i=l.length))
theorem Zmw {l:TQ} (hl:l.length<=80) (s:Sp) (i:Nat) (hi:i<=l.length):Q57.f l (i:Int) s=some (U2 (Jb l i) s):=by
 unfold Q57.f;have d:∀(m:Sp×Bool),some (((m.1.1,m.1.2.1,m.1.2.2),m.2):Sp×Bool)=some m:=fun m=>rfl;have eta:(s.1,s.2.1,s.2.2)=s:=rfl;rw [iN,iN];have de:decide ((i:Int)=(l.length:Int))=decide (i=l.length):=by congr 1; exact propext (by omega)
 simp only [Zlb,bS,d,eta,de];by_cases h0:0<i
 ·have g0:(0:Int)<=((i - 1:Nat):Int)/\((i - 1:Nat):Int)<(l.length:Int):=by omega
  rw [iP,Zhn h0 (by omega),iT g0,Zv];by_cases h1:i=l.length
  ·simp only [h1,decide_true,Bool.not_true,Bool.false_eq_true,if_false,Jb,if_true,show 0<l.length by omega];rfl
  ·have g1:(0:Int)<=(i:Int)/\(i:Int)<(l.length:Int):=by omega
   simp only [h1,decide_false,Bool.not_false,if_true,g1,and_self,Zv,Jb,h0,if_false];rfl
 ·obtain rfl:i=0:=by omega
  rw [vS];by_cases h1:0=l.length
  ·simp only [<- h1,decide_true,Bool.not_true,Bool.false_eq_true,if_false,Jb,if_true,Nat.lt_irrefl]
  ·have g1:(0:Int)<=((0:Nat):Int)/\((0:Nat):Int)<(l.length:Int):=by omega
   simp only [h1,decide_false,Bool.not_false,if_true,g1,and_self,Zv,Jb,Nat.lt_irrefl,if_false];rfl
theorem Zey {l:TQ} {x:TY} {s:Sp} {w:Nat} (hs:Small l x s) (hw:Zj3 l x w):∀(k i:Nat),i<=l.length->2001+(l.length - i)<k->Q143.l0 k l x ((min i w:Nat):Int) (i:Int)=some (w:Int)
 | 0,i,_,h=>by omega
 | k+1,i,hi,hk=>by
  have h80:=hs.len;have hx:=hs.x;obtain ⟨w1,w2,w3⟩:=hw;rw [Q143.l0];by_cases h:i<l.length
  ·have g1:(0:Int)<=(i:Int)/\(i:Int)<(l.length:Int):=by omega
   have k1:(l.getD i default).length<=300:=hs.get i;rw [iT (dT g1.2),iT g1,Zv,V3 (by omega) (by omega) (by omega),bS,B9 (i:=i) (by omega)];have ih:=Zey hs ⟨w1,w2,w3⟩ k (i+1) (by omega) (by omega);by_cases q:i<w
   ·have e:Op.bytesLess x (l.getD i default)=false:=w2 i q;rw [iT (dT (scmp_le.2 e)),wS2,show min i w+1=min (i+1) w by omega,ih]
   ·have e:Op.bytesLess x (l.getD i default)=true:=w3 i (by omega) h;rw [iF (by simp only [dE,scmp_le]; rw [e]; simp),show min i w=min (i+1) w by omega,ih]
  ·rw [iN,show min i w=w by omega]
theorem Ziq {l:TQ} {x:TY} {s:Sp} {w:Nat} (hs:Small l x s) (hw:Zj3 l x w) {k:Nat} (hk:3000<k):Q143.f k l x=some (w:Int):=by
 have:=Zey hs hw k 0 (by omega) (by have:=hs.len; omega);simpa [Q143.f] using this
theorem Zfw (a b:TY) (ha:a.length<=2000) (hb:b.length<=2000) (hlt:Op.bytesLess a b=true) (K:Nat):∀(k i:Nat),i<=shd a b+1->shd a b+1 - i<k->2001+(shd a b+1 - i)<k->
  Q134.l0 k a b (i:Int)=some (b.take (shd a b+1),true)
 | 0,i,_,h,_=>by omega
 | k+1,i,hi,hk,hK=>by
  have hs:=Zg8 hlt;unfold Q134.l0;have g0:(i:Int)<=(b.length:Int):=by omega
  have g1:(0:Int)<=(i:Int)/\(i:Int)<=(b.length:Int):=by omega
  rw [iT (dT g0),iT g1,tN,V3 ha (by rw [length_take]; omega) (by omega),bS];by_cases e:i=shd a b+1
  ·subst e;rw [iT (dT (scmp_lt.2 (Gl hlt)))]
  ·have:=Zcg (a:=a) (b:=b) (n:=i) (by omega);have w:w64 ((i:Int)+1)=((i+1:Nat):Int):=by rw [wI2]; omega
   rw [iF (by simp only [dE,scmp_lt,this]; simp),w,Zfw a b ha hb hlt K k (i+1) (by omega) (by omega) (by omega)]
theorem Ziz {k:Nat} {a b:TY} (ha:a.length<=2000) (hb:b.length<=2000) (hk:5000<k) :
  Q134.f k a b=some (if Op.bytesLess a b=true then (b.take (shd a b+1),true) else ([],false)):=by
 unfold Q134.f;rw [V3 ha hb (by omega),bS];cases h:Op.bytesLess a b with
 | false=>
  rw [iT]
  ·rfl
  ·have:=mt scmp_lt.1 (by simp [h]:¬ Op.bytesLess a b=true);simp only [dE];omega
 | true=>
  have:=scmp_lt.2 h;have hs:=Zg8 h;rw [iN];have:=Zfw a b ha hb h k k 0 (by omega) (by omega) (by omega);simpa using this
abbrev Tre:=List (List Nd)
def ndT (l:Tre) (k i:Nat):Nd:=(l.getD k default).getD i default
def wd (l:Tre) (k:Nat):Nat:=(l.getD k default).length
def Bc (p:TQ) (x:TY):Nat:=(p.filter fun y=>!Op.bytesLess x y).length
theorem Zex (x:TY):∀ {p:TQ},RiseK (fun y=>y) p->Zj3 p x (Bc p x)
 | [],_=>⟨Nat.le_refl _,fun j hj=>absurd hj (Nat.not_lt_zero _),fun j _ hj=>absurd hj (Nat.not_lt_zero _)⟩
 | a :: p,h=>by
  obtain ⟨h1,h2⟩:=List.pairwise_cons.1 h;obtain ⟨a1,a2,a3⟩:=Zex x h2;unfold Bc at *;rw [List.filter_cons];cases q:Op.bytesLess x a with
  | true=>
   have e:p.filter (fun y=>!Op.bytesLess x y)=[]:=List.filter_eq_nil_iff.2 fun y hy=>by rw [X5 q (h1 y hy)]; simp
   rw [vS,e];exact ⟨Nat.zero_le _,fun j hj=>absurd hj (Nat.not_lt_zero _),fun j _ hj=>match j,hj with
    | 0,_=>q
    | j+1,hj=>X5 q (h1 _ (Yw (d:=[]) (by simpa using hj)))⟩
  | false=>
   rw [iU];exact ⟨by simp only [length_cons]; omega,fun j hj=>match j,hj with
    | 0,_=>q
    | j+1,hj=>a2 j (by simpa using hj),fun j hj hl=>match j,hj,hl with
    | 0,hj,_=>by simp at hj
    | j+1,hj,hl=>a3 j (by simpa using hj) (by simpa using hl)⟩
def stR (row:List Nd) (i:Nat):Nat:=((row.map fun n=>n.2.1.length).take i).sum
theorem Zhm (row:List Nd):stR row 0=0:=rfl
theorem Wn {row:List Nd} {i:Nat} (h:i<row.length):stR row (i+1)=stR row i+(row.getD i default).2.1.length:=by
 unfold stR;rw [List.take_add_one,List.sum_append,List.getElem?_map,List.getElem?_eq_getElem h,Y5 h];simp
theorem J8 {row:List Nd} (p:List Nd) {i:Nat} (h:i<=row.length):stR (row ++ p) i=stR row i:=by
 unfold stR;rw [List.map_append,List.take_append_of_le_length (by simpa using h)]
theorem Ux {row:List Nd} {i:Nat}:∀ {j:Nat},i<=j->j<=row.length->stR row i<=stR row j
 | 0,h,_=>by rw [show i=0 by omega]; exact Nat.le_refl _
 | j+1,h,hj=>by
  by_cases e:i=j+1
  ·rw [e]; exact Nat.le_refl _
  ·have:=Ux (row:=row) (i:=i) (j:=j) (by omega) (by omega);have:=Wn (row:=row) (i:=j) (by omega);omega
structure NdOk (lo hi:Nat->List UInt8) (k:Nat) (n:Nd) (m:Nat):Prop where
 lvl:n.1=(k:Int)
 prs:n.2.2.2.2=[]
 pvl:n.2.2.1.length+1=n.2.1.length
 fan:n.2.1.length<=64
 kid:n.2.1=(List.range n.2.1.length).map fun(j:Nat)=>((m+j+1:Nat):Int)
 pv:∀ j,j<n.2.2.1.length->Op.bytesLess (hi (m+j)) (n.2.2.1.getD j [])=true/\Op.bytesLess (lo (m+j+1)) (n.2.2.1.getD j [])=false/\(n.2.2.1.getD j []).length<=200
def InnR (lo hi:Nat->List UInt8) (k:Nat) (row:List Nd):Prop:=∀ i,i<row.length->NdOk lo hi k (row.getD i default) (stR row i)
theorem Yl {α:Type} {a b:List α} {i:Nat} {d:α} (h:i<a.length:=by omega):(a ++ b).getD i d=a.getD i d:=by
 rw [List.getD_eq_getElem?_getD,List.getElem?_append_left h,<- List.getD_eq_getElem?_getD]
theorem Yp {α:Type} {a:List α} {x:α} {i:Nat} {d:α} (h:i=a.length:=by omega):(a ++ [x]).getD i d=x:=by
 subst h;rw [List.getD_eq_getElem?_getD,List.getElem?_append_right (Nat.le_refl _),Nat.sub_self]; rfl
theorem InnR.app {lo hi:Nat->List UInt8} {k:Nat} {row:List Nd} {p:Nd} (h:InnR lo hi k row) (hp:NdOk lo hi k p (stR row row.length)):InnR lo hi k (row ++ [p]):=fun i hi'=>by
 rw [lA] at hi';by_cases e:i<row.length
 ·rw [Yl e,J8 _ (by omega)]; exact h i e
 ·have e2:i=row.length:=by simp at hi'; omega
  rw [Yp e2,J8 _ (by omega),e2]; exact hp
structure Gro (l:Tre) (LO HI:Nat->Nat->List UInt8):Prop where
 ne:0<l.length
 leaf:∀ i,i<wd l 0->(ndT l 0 i).1=0/\(ndT l 0 i).2.1=[]/\(ndT l 0 i).2.2.1=[]/\(ndT l 0 i).2.2.2.1=[]/\∀ p∈(ndT l 0 i).2.2.2.2,Op.bytesLess p.1 (LO 0 i)=false/\Op.bytesLess (HI 0 i) p.1=false
 row:∀ k,k+1<l.length->InnR (LO k) (HI k) (k+1) (l.getD (k+1) default)/\stR (l.getD (k+1) default) (wd l (k+1))=wd l k/\∀ i,i<wd l (k+1)->LO (k+1) i=LO k (stR (l.getD (k+1) default) i)/\HI (k+1) i=HI k (stR (l.getD (k+1) default) (i+1) - 1)
 lh:∀ k i,k<l.length->i<wd l k->Op.bytesLess (HI k i) (LO k i)=false
 hl:∀ k i,k<l.length->i+1<wd l k->Op.bytesLess (HI k i) (LO k (i+1))=true
def kidI (n:Nd) (x:TY):Nat:=(n.2.1.getD (Bc n.2.2.1 x) default).toNat - 1
def dn (l:Tre) (x:TY):Nat->Nat
 | 0=>0
 | j+1=>kidI (ndT l (l.length - 1 - j) (dn l x j)) x
section
variable {l:Tre} {LO HI:Nat->Nat->List UInt8}
theorem Gro.nd (G:Gro l LO HI) {k i:Nat} (hk:k+1<l.length) (hi:i<wd l (k+1)):NdOk (LO k) (HI k) (k+1) (ndT l (k+1) i) (stR (l.getD (k+1) default) i):=(G.row k hk).1 i hi
theorem Gro.hlt (G:Gro l LO HI) {k:Nat} (hk:k<l.length) {i:Nat}:∀ {j:Nat},i<j->j<wd l k->Op.bytesLess (HI k i) (LO k j)=true
 | 0,h,_=>by omega
 | j+1,h,hj=>by
  by_cases e:i=j
  ·subst e; exact G.hl k i hk hj
  ·exact X5 (Zc2 (G.hlt hk (i:=i) (j:=j) (by omega) (by omega)) (G.lh k j hk (by omega))) (G.hl k j hk hj)
theorem Gro.hi_le (G:Gro l LO HI) {k:Nat} (hk:k<l.length) {i j:Nat} (h:i<=j) (hj:j<wd l k):Op.bytesLess (HI k j) (HI k i)=false:=by
 by_cases e:i=j
 ·subst e; exact Vs _
 ·exact Wl (Zc2 (G.hlt hk (show i<j by omega) hj) (G.lh k j hk hj))
theorem Gro.rise (G:Gro l LO HI) {k i:Nat} (hk:k+1<l.length) (hi:i<wd l (k+1)):RiseK (fun y=>y) (ndT l (k+1) i).2.2.1:=by
 have n:=G.nd hk hi;have hs:=Wn (row:=l.getD (k+1) default) hi;have hm:=Ux (row:=l.getD (k+1) default) (i:=i+1) (j:=wd l (k+1)) hi (Nat.le_refl _);rw [(G.row k hk).2.1,hs] at hm;have hm':stR (l.getD (k+1) default) i+(ndT l (k+1) i).2.1.length<=wd l k:=hm;have pl:=n.pvl;refine List.pairwise_iff_getElem.2 fun a b ha hb hab=>?_;have h1:=(n.pv a ha).2.1;have h2:=(n.pv b hb).1;rw [Y5 ha] at h1;rw [Y5 hb] at h2;show Op.bytesLess _ _=true;have h3:Op.bytesLess (HI k (stR (l.getD (k+1) default) i+b)) (LO k (stR (l.getD (k+1) default) i+a+1))=false:=by
  by_cases e:b=a+1
  ·rw [e]; exact G.lh k _ (by omega) (by omega)
  ·exact Wl (Zgw (G.lh k _ (by omega) (by omega)) (G.hlt (k:=k) (by omega) (show stR (l.getD (k+1) default) i+a+1<stR (l.getD (k+1) default) i+b by omega) (by omega)) |> fun q=>Zc2 q (G.lh k _ (by omega) (by omega)))
 exact Zgw (Bb h1 h3) h2
theorem Gro.kidI (G:Gro l LO HI) {k i:Nat} (hk:k+1<l.length) (hi:i<wd l (k+1)) (x:TY):Bc (ndT l (k+1) i).2.2.1 x<(ndT l (k+1) i).2.1.length/\kidI (ndT l (k+1) i) x=stR (l.getD (k+1) default) i+Bc (ndT l (k+1) i).2.2.1 x/\(ndT l (k+1) i).2.1.getD (Bc (ndT l (k+1) i).2.2.1 x) default=((kidI (ndT l (k+1) i) x+1:Nat):Int)/\kidI (ndT l (k+1) i) x<wd l k:=by
 have n:=G.nd hk hi;have hs:=Wn (row:=l.getD (k+1) default) hi;have hm:=Ux (row:=l.getD (k+1) default) (i:=i+1) (j:=wd l (k+1)) hi (Nat.le_refl _);rw [(G.row k hk).2.1,hs] at hm;have hm':stR (l.getD (k+1) default) i+(ndT l (k+1) i).2.1.length<=wd l k:=hm;have w1:=(Zex x (G.rise hk hi)).1;have pl:=n.pvl;have hw:Bc (ndT l (k+1) i).2.2.1 x<(ndT l (k+1) i).2.1.length:=by omega
 have e:(ndT l (k+1) i).2.1.getD (Bc (ndT l (k+1) i).2.2.1 x) default=((stR (l.getD (k+1) default) i+Bc (ndT l (k+1) i).2.2.1 x+1:Nat):Int):=by
  rw [n.kid,List.getD_eq_getElem?_getD,List.getElem?_map,List.getElem?_range hw]; rfl
 have e2:Go.SK.T.kidI (ndT l (k+1) i) x=stR (l.getD (k+1) default) i+Bc (ndT l (k+1) i).2.2.1 x:=by
  unfold Go.SK.T.kidI;rw [e]; omega
 exact ⟨hw,e2,by rw [e,e2],by omega⟩
theorem Gro.dn_lt (G:Gro l LO HI) (top:wd l (l.length - 1)=1) (x:TY):∀ j,j<l.length->dn l x j<wd l (l.length - 1 - j)
 | 0,_=>by rw [Nat.sub_zero,top]; exact Nat.one_pos
 | j+1,h=>by
  have ih:=G.dn_lt top x j (by omega);have e:l.length - 1 - j=(l.length - 1 - (j+1))+1:=by omega
  rw [dn];rw [e] at ih ⊢;exact (G.kidI (by omega) ih x).2.2.2
end
def Zor (c:Cfg) (N:Nat) (l:Tre):Prop:=∀ k i,0<k->k<l.length->i<wd l k->RiseK mk (ndT l k i).2.2.2.1/\(ndT l k i).2.2.2.1.length<=N/\∀ m∈(ndT l k i).2.2.2.1,Xf c m.1=true/\dn l m.1 (l.length - 1 - k)=i
abbrev Zsl (c:Cfg) (l:Tre):Prop:=Zor c 100 l
def V6 (row:List Nd):List Pr:=row.flatMap fun n=>n.2.2.2.2
def Lvs (c:Cfg) (l:Tre):Prop:=RiseK pk (V6 (l.getD 0 default))/\(V6 (l.getD 0 default)).length<=150/\∀ p∈V6 (l.getD 0 default),Xf c p.1=true
section
variable {l:Tre} {LO HI:Nat->Nat->List UInt8} {c:Cfg}
end
abbrev Spc:=List Pr×List Msg×List Int×List Int
def LvP (c:Cfg) (l:List Pr):Prop:=RiseK pk l/\l.length<=150/\∀ p∈l,Xf c p.1=true
theorem Zcz {c:Cfg} (hc:OkC c) {x:TY} (h:Xf c x=true):x.length<=64:=by
 have:=hc.key;simp only [Xf,dE] at h;omega
theorem Zqx {x:Spc} (hx:∀ y∈x.2.2.2,0<=y/\y<256) (i:Nat) {m:Nat} (h1:1<=m) (h2:m<=2000):∃ r:Nat,Q125.f x (i:Int) (m:Int)=some (r:Int)/\1<=r/\r<=m:=by
 unfold Q125.f;by_cases q:x.2.2.2.length=0
 ·exact ⟨m,by rw [iP],h1,Nat.le_refl _⟩
 ·have hm:i % x.2.2.2.length<x.2.2.2.length:=Nat.mod_lt _ (by omega);obtain ⟨y1,y2⟩:=hx _ (Yw (d:=default) hm);obtain ⟨y,ey⟩:=Int.eq_ofNat_of_zero_le y1;have:=Nat.mod_lt y (show 0<m by omega);rw [iN,iO,show Int.tmod (i:Int) (x.2.2.2.length:Int)=((i % x.2.2.2.length:Nat):Int) from rfl,iO,iO,Zv,ey,wI2 (x:=(y:Int)),show Int.tmod (y:Int) (m:Int)=((y % m:Nat):Int) from rfl,wI2];exact ⟨1+y % m,by congr 1,by omega,by omega⟩
theorem Zpe {c:Cfg} (hc:OkC c) {x:Spc}:∀(m i:Nat) (acc:List Pr),i+m=150->RiseK pk acc->acc.length<=i->(∀ p∈acc,Xf c p.1=true)->∃ ks,Ev (fun k=>Q126.l0 k c x acc (i:Int)) ks/\LvP c ks:=by
 have stop:∀(i:Nat) (acc:List Pr),¬ (i<x.1.length/\i<150)->Ev (fun k=>Q126.l0 k c x acc (i:Int)) acc:=fun i acc h=>by
  refine ⟨2,fun k hk=>?_⟩;obtain ⟨k,rfl⟩:=kS2 k;show Q126.l0 (k+2) c x acc (i:Int)=_;rw [Q126.l0];by_cases q:i<x.1.length
  ·rw [iP,dF,Q126.l1,vS]
  ·rw [iN,Q126.l1,vS]
 intro m
 induction m with
 | zero=>intro i acc hi hr hl hk; exact ⟨acc,stop i acc (by omega),hr,by omega,hk⟩
 | succ m ih=>
  intro i acc hi hr hl hk;by_cases q:i<x.1.length
  ·obtain ⟨p,ep⟩:∃ p,p=x.1.getD i default:=⟨_,rfl⟩;have step:∀ k,9000<k->Q126.l0 (k+3) c x acc (i:Int)=if (Xf c p.1 && decide ((p.2.length:Int)<=c.2.2.2.2.2.2.2))=true then Q126.l0 k c x (Xl pk p acc) ((i+1:Nat):Int) else Q126.l0 k c x acc ((i+1:Nat):Int):=fun k hk9=>by
    rw [Q126.l0,iP,dT (show (i:Int)<150 by omega),Q126.l1,iT rfl,iO,Zv,<- ep,Zd1,bS];have l2:∀ b:Bool,(b=true->Xf c p.1=true)->Q126.l2 (k+1) c x acc (i:Int) b=if b=true then Q126.l0 k c x (Xl pk p acc) ((i+1:Nat):Int) else Q126.l0 k c x acc ((i+1:Nat):Int):=fun b hb=>by
     rw [Q126.l2,wS2,Zv,<- ep];cases b with
     | false=>rfl
     | true=>
      have:=Zcz hc (hb rfl);rw [iT rfl,iT rfl,iO,Zgj (by omega) (by omega) (fun y hy=>by have:=Zcz hc (hk y hy); omega) hr (by omega),bS]
    cases e:Xf c p.1 with
    | true=>rw [iT rfl,l2 _ (fun _=>e),Bool.true_and]
    | false=>rw [vS,l2 _ (fun h=>by cases h),Bool.false_and]
   cases e:(Xf c p.1 && decide ((p.2.length:Int)<=c.2.2.2.2.2.2.2)) with
   | true=>
    have ek:Xf c p.1=true:=by rw [Bool.and_eq_true] at e; exact e.1
    obtain ⟨ks,⟨b,hb⟩,g⟩:=ih (i+1) (Xl pk p acc) (by omega) (Js pk hr) (by have:=Ba pk p acc; omega) (fun y hy=>by rcases Zad pk hy with rfl | hy; exact ek; exact hk y hy);refine ⟨ks,⟨b+9005,fun k kk=>?_⟩,g⟩;obtain ⟨k,rfl⟩:=kS3 k;show Q126.l0 (k+3) c x acc (i:Int)=_;rw [step k (by omega),e,iT rfl];exact hb k (by omega)
   | false=>
    obtain ⟨ks,⟨b,hb⟩,g⟩:=ih (i+1) acc (by omega) hr (by omega) hk;refine ⟨ks,⟨b+9005,fun k kk=>?_⟩,g⟩;obtain ⟨k,rfl⟩:=kS3 k;show Q126.l0 (k+3) c x acc (i:Int)=_;rw [step k (by omega),e,vS];exact hb k (by omega)
  ·exact ⟨acc,stop i acc (by omega),hr,by omega,hk⟩
theorem Zrq {c:Cfg} (hc:OkC c) (x:Spc):∃ ks,Ev (fun k=>Q126.f k c x) ks/\LvP c ks:=Zpe hc 150 0 [] (by omega) List.Pairwise.nil (Nat.le_refl _) (by simp)
theorem Zps {c:Cfg} {x:Spc}:∀(m i:Nat) (acc:List Msg),i+m=100->acc.length<=i->(∀ p∈acc,Xf c p.1=true)->∃ ks:List Msg,Ev (fun k=>Q127.l0 k c x acc (i:Int)) ks/\ks.length<=100/\∀ p∈ks,Xf c p.1=true:=by
 have stop:∀(i:Nat) (acc:List Msg),¬ (i<x.2.1.length/\i<100)->Ev (fun k=>Q127.l0 k c x acc (i:Int)) acc:=fun i acc h=>by
  refine ⟨2,fun k hk=>?_⟩;obtain ⟨k,rfl⟩:=kS2 k;show Q127.l0 (k+2) c x acc (i:Int)=_;rw [Q127.l0];by_cases q:i<x.2.1.length
  ·rw [iP,dF,Q127.l1,vS]
  ·rw [iN,Q127.l1,vS]
 intro m
 induction m with
 | zero=>intro i acc hi hl hk; exact ⟨acc,stop i acc (by omega),by omega,hk⟩
 | succ m ih=>
  intro i acc hi hl hk;by_cases q:i<x.2.1.length
  ·obtain ⟨p,ep⟩:∃ p,p=x.2.1.getD i default:=⟨_,rfl⟩;have step:∃ b:Bool,(b=true->Xf c p.1=true)/\∀ k,Q127.l0 (k+3) c x acc (i:Int)=if b=true then Q127.l0 k c x (acc ++ [p]) ((i+1:Nat):Int) else Q127.l0 k c x acc ((i+1:Nat):Int):=by
    have l2:∀(b:Bool) (k:Nat),Q127.l2 (k+1) c x acc (i:Int) b=if b=true then Q127.l0 k c x (acc ++ [p]) ((i+1:Nat):Int) else Q127.l0 k c x acc ((i+1:Nat):Int):=fun b k=>by
     rw [Q127.l2,wS2,Zv,<- ep];cases b with
     | false=>rfl
     | true=>rw [iT rfl,iT rfl,iV]
    have l1:∀ k,Q127.l0 (k+3) c x acc (i:Int)=if Xf c p.1=true then (if decide ((p.2.2.length:Int)<=c.2.2.2.2.2.2.2)=true then (if (!p.2.1)=true then Q127.l2 (k+1) c x acc (i:Int) true else Q127.l2 (k+1) c x acc (i:Int) (decide (p.2.2=[]))) else Q127.l2 (k+1) c x acc (i:Int) false) else Q127.l2 (k+1) c x acc (i:Int) false:=fun k=>by
     rw [Q127.l0,iP,dT (show (i:Int)<100 by omega),Q127.l1,iT rfl,iO,Zv,<- ep,Zd1,bS]
    cases e:Xf c p.1 with
    | false=>exact ⟨false,nofun,fun k=>by rw [l1,e,vS,l2]⟩
    | true=>
     by_cases e2:(p.2.2.length:Int)<=c.2.2.2.2.2.2.2
     ·cases e3:p.2.1 with
      | false=>exact ⟨true,fun _=>rfl,fun k=>by rw [l1,e,e3,iT rfl,iT (dT e2),iT (by rfl),l2]⟩
      | true=>exact ⟨decide (p.2.2=[]),fun _=>rfl,fun k=>by rw [l1,e,e3,iT rfl,iT (dT e2),vS,l2]⟩
     ·exact ⟨false,nofun,fun k=>by rw [l1,e,iT rfl,iF (by simpa using e2),l2]⟩
   obtain ⟨b,hb1,hb2⟩:=step;cases b with
   | true=>
    obtain ⟨ks,⟨b,hb⟩,g⟩:=ih (i+1) (acc ++ [p]) (by omega) (by simp; omega) (fun y hy=>by rcases List.mem_append.1 hy with hy | hy; exact hk y hy; rw [List.mem_singleton.1 hy]; exact hb1 rfl);refine ⟨ks,⟨b+3,fun k kk=>?_⟩,g⟩;obtain ⟨k,rfl⟩:=kS3 k;show Q127.l0 (k+3) c x acc (i:Int)=_;rw [hb2,iT rfl];exact hb k (by omega)
   | false=>
    obtain ⟨ks,⟨b,hb⟩,g⟩:=ih (i+1) acc (by omega) (by omega) hk;refine ⟨ks,⟨b+3,fun k kk=>?_⟩,g⟩;obtain ⟨k,rfl⟩:=kS3 k;show Q127.l0 (k+3) c x acc (i:Int)=_;rw [hb2,vS];exact hb k (by omega)
  ·exact ⟨acc,stop i acc (by omega),by omega,hk⟩
theorem Zse (c:Cfg) (x:Spc):∃ ks:List Msg,Ev (fun k=>Q127.f k c x) ks/\ks.length<=100/\∀ p∈ks,Xf c p.1=true:=Zps 100 0 [] (by omega) (Nat.le_refl _) (by simp)
theorem Zqo {out:Tre} {LO HI:Nat->Nat->List UInt8} (G:Gro out LO HI) {up:List Nd} {a b:TQ} (inn:InnR (LO (out.length - 1)) (HI (out.length - 1)) out.length up) (st:stR up up.length=wd out (out.length - 1)) (ab:∀ j,j<up.length->a.getD j []=LO (out.length - 1) (stR up j)/\b.getD j []=HI (out.length - 1) (stR up (j+1) - 1)):Gro (out ++ [up]) (upd LO out.length fun i=>a.getD i []) (upd HI out.length fun i=>b.getD i []):=by
 have hne:=G.ne;have eg:∀ k,k<out.length->(out ++ [up]).getD k default=out.getD k default:=fun k h=>Yl h;have en:(out ++ [up]).getD out.length default=up:=Yp rfl;have wg:∀ k,k<out.length->wd (out ++ [up]) k=wd out k:=fun k h=>by unfold wd; rw [eg k h]
 have wn:wd (out ++ [up]) out.length=up.length:=by unfold wd; rw [en]
 have ll:(out ++ [up]).length=out.length+1:=by simp
 have kd:∀ i,i<up.length->stR up i+1<=stR up (i+1)/\stR up (i+1)<=wd out (out.length - 1):=fun i hi=>by
  have h1:=Wn hi;have h2:=(inn i hi).pvl;have h3:=Ux (row:=up) (i:=i+1) (j:=up.length) hi (Nat.le_refl _);omega
 refine ⟨by omega,fun i hi=>?_,fun k hk=>?_,fun k i hk hi=>?_,fun k i hk hi=>?_⟩
 ·rw [wg 0 hne] at hi;unfold ndT;rw [eg 0 hne,Yf,Yf];exact G.leaf i hi
 ·rw [ll] at hk;by_cases e:k+1<out.length
  ·rw [eg _ e,wg _ e,wg k (by omega),Yf (g:=LO) (show k≠out.length by omega),Yf (g:=HI) (show k≠out.length by omega),Yf (g:=LO) (show k+1≠out.length by omega),Yf (g:=HI) (show k+1≠out.length by omega)];exact G.row k e
  ·have e2:k+1=out.length:=by omega
   have e3:k=out.length - 1:=by omega
   rw [wg k (by omega),Yf (g:=LO) (show k≠out.length by omega),Yf (g:=HI) (show k≠out.length by omega),e2,en,wn,Z7,Z7,e3];exact ⟨inn,st,ab⟩
 ·rw [ll] at hk;by_cases e:k<out.length
  ·rw [wg k e] at hi;rw [Yf,Yf];exact G.lh k i e hi
  ·have e2:k=out.length:=by omega
   subst e2;rw [wn] at hi;obtain ⟨h1,h2⟩:=kd i hi;rw [Z7,Z7,(ab i hi).1,(ab i hi).2];exact Bb (G.lh (out.length - 1) _ (by omega) (by omega)) (G.hi_le (by omega) (show stR up i<=stR up (i+1) - 1 by omega) (by omega))
 ·rw [ll] at hk;by_cases e:k<out.length
  ·rw [wg k e] at hi;rw [Yf,Yf];exact G.hl k i e hi
  ·have e2:k=out.length:=by omega
   subst e2;rw [wn] at hi;obtain ⟨h1,h2⟩:=kd i (by omega);obtain ⟨h3,h4⟩:=kd (i+1) hi;rw [Z7,Z7,(ab (i+1) hi).1,(ab i (by omega)).2];have:=G.hl (out.length - 1) (stR up (i+1) - 1) (by omega) (by omega)
   rwa [show stR up (i+1) - 1+1=stR up (i+1) by omega] at this
structure GoodT (c:Cfg) (r:Tre):Prop where
 gro:∃ LO HI,Gro r LO HI
 top:wd r (r.length - 1)=1
 len:r.length<=6
 lvs:Lvs c r
 buf:Zsl c r
 wb:∀ k,k<r.length->wd r k<=151
structure UpSt (c:Cfg) (out:Tre) (lo hi:TQ):Prop where
 gro:∃ LO HI,Gro out LO HI/\LO (out.length - 1)=(fun i=>lo.getD i [])/\HI (out.length - 1)=fun i=>hi.getD i []
 len:out.length<=6
 ll:lo.length=wd out (out.length - 1)
 hl:hi.length=wd out (out.length - 1)
 sh:∀ i,(lo.getD i []).length<=200/\(hi.getD i []).length<=200
 w1:1<=wd out (out.length - 1)
 wb:∀ k,k<out.length->wd out k<=151
 lvs:Lvs c out
 buf:∀ k i,k<out.length->i<wd out k->(ndT out k i).2.2.2.1=[]
structure UpRow (lo hi:TQ) (K N:Nat) (up:List Nd) (a b:TQ) (i:Nat):Prop where
 inn:InnR (fun i=>lo.getD i []) (fun i=>hi.getD i []) K up
 st:stR up up.length=i
 al:a.length=up.length
 bl:b.length=up.length
 ab:∀ j,j<up.length->a.getD j []=lo.getD (stR up j) []/\b.getD j []=hi.getD (stR up (j+1) - 1) []
 le:up.length<=i
 bf:∀ j,j<up.length->(up.getD j default).2.2.2.1=[]
section
variable {c:Cfg} {x:Spc} {lo hi:TQ} {out:Tre}
theorem Zqf (hc:OkC c) (hx:∀ y∈x.2.2.2,0<=y/\y<256) (U:UpSt c out lo hi) {up:List Nd} {a b:TQ} {i t nn:Nat} {r:Int} (R:UpRow lo hi out.length (wd out (out.length - 1)) up a b i)
  (hn:mnI (mxI r 2) (w64 (((out.getD (out.length - 1) default).length:Int) - (i:Int)))=(nn:Int)) (n1:1<=nn) (n2:nn<=64) (n3:i+nn<=wd out (out.length - 1)) (ht:t<=5000)
  {u:Nat} (hu:up.length=u) (H:∀(up:List Nd) (a b:TQ),UpRow lo hi out.length (wd out (out.length - 1)) up a b (i+nn)->up.length=u+1->∃ q,Ev (fun k=>Q123.l6 k c x (out.getD (out.length - 1) default) lo hi out ((t+1:Nat):Int) up a b ((i+nn:Nat):Int)) q/\GoodT c q) :
  ∀(m j:Nat) (kd:T2) (pv:TQ),j+m=nn->kd=((List.range j).map fun(q:Nat)=>((i+q+1:Nat):Int))->pv.length=j - 1->(∀ q,q<pv.length->Op.bytesLess (hi.getD (i+q) []) (pv.getD q [])=true/\Op.bytesLess (lo.getD (i+q+1) []) (pv.getD q [])=false/\(pv.getD q []).length<=200)->
  ∃ q,Ev (fun k=>Q123.l8 k c x r (out.getD (out.length - 1) default) lo hi out (t:Int) up a b (i:Int) kd pv (j:Int)) q/\GoodT c q:=by
 obtain ⟨LO,HI,G,eL,eH⟩:=U.gro;have hne:=G.ne;have wB:=U.wb (out.length - 1) (by omega);have hol:=U.len;have h1:=U.ll;have h2:=U.hl;intro m
 induction m with
 | zero=>
  intro j kd pv hj hkd hpl hpv;have ej:j=nn:=by omega
  subst ej;obtain ⟨q,⟨b0,hb⟩,g⟩:=H (up ++ [((out.length:Int),kd,pv,[],[])]) (a ++ [lo.getD i []]) (b ++ [hi.getD (i+j - 1) []]) ⟨R.inn.app ⟨rfl,rfl,by rw [hkd]; simp; omega,by rw [hkd]; simp; omega,by rw [R.st]; rw [hkd]; simp,fun q hq=>by rw [R.st]; exact hpv q hq⟩,by
    rw [lA,show up.length+[((out.length:Int),kd,pv,([]:List Msg),([]:List Pr))].length=up.length+1 from rfl,Wn (by simp),J8 _ (Nat.le_refl _),R.st,Yp rfl,hkd]; simp,by simp [R.al],by simp [R.bl],fun q hq=>by
    rw [lA] at hq;by_cases e:q<up.length
    ·rw [Yl (by rw [R.al]; exact e),Yl (by rw [R.bl]; exact e),J8 _ (by omega),J8 _ (by omega)];exact R.ab q e
    ·have e2:q=up.length:=by simp at hq; omega
     rw [Yp (by rw [R.al,e2]),Yp (by rw [R.bl,e2]),Wn (by simp; omega),J8 _ (by omega),e2,R.st,Yp rfl,hkd];simp,by have:=R.le; simp; omega,fun q hq=>by
    rw [lA] at hq;by_cases e:q<up.length
    ·rw [Yl e]; exact R.bf q e
    ·rw [Yp (by simp at hq; omega)]⟩ (by simp; omega)
  refine ⟨q,⟨b0+2,fun k hk=>?_⟩,g⟩;obtain ⟨k,rfl⟩:=kS2 k;have hb':=hb k (by omega);have hle:=R.le;have hal:=R.al;have hbl:=R.bl;show Q123.l8 (k+2) c x r _ lo hi out (t:Int) up a b (i:Int) kd pv (j:Int)=_;rw [Q123.l8,hn,vS,Q123.l7,hn,wI2 (x:=(i:Int)+(j:Int)),wI2 (x:=(i:Int)+(j:Int) - 1),iV,iO,iO,iV,iV,Zv,wS2,show (i:Int)+(j:Int) - 1=((i+j - 1:Nat):Int) by omega,Zv,show (i:Int)+(j:Int)=((i+j:Nat):Int) by omega];exact hb'
 | succ m ih=>
  intro j kd pv hj hkd hpl hpv;have kl:kd.length=j:=by rw [hkd]; simp
  have ek:kd ++ [((i+j+1:Nat):Int)]=(List.range (j+1)).map fun(q:Nat)=>((i+q+1:Nat):Int):=by rw [hkd,List.range_succ,List.map_append]; rfl
  have head:∀ k,Q123.l8 (k+1) c x r (out.getD (out.length - 1) default) lo hi out (t:Int) up a b (i:Int) kd pv (j:Int)=if 0<j then ((Q134.f k (hi.getD (i+j - 1) []) (lo.getD (i+j) [])).bind fun r6=>(if (pv.length+([r6.1]:List TY).length)*16<=140737488355328 then Q123.l8 k c x r (out.getD (out.length - 1) default) lo hi out (t:Int) up a b (i:Int) (kd ++ [((i+j+1:Nat):Int)]) (pv ++ [r6.1]) ((j+1:Nat):Int) else none)) else Q123.l8 k c x r (out.getD (out.length - 1) default) lo hi out (t:Int) up a b (i:Int) (kd ++ [((i+j+1:Nat):Int)]) pv ((j+1:Nat):Int):=fun k=>by
   rw [Q123.l8,hn,iP,wI2 (x:=(i:Int)+(j:Int)),wI2 (x:=(i:Int)+(j:Int)+1),show (i:Int)+(j:Int)+1=((i+j+1:Nat):Int) by omega,Zk3 (by omega),iV];by_cases q:0<j
   ·rw [iP,wI2 (x:=(i:Int)+(j:Int) - 1),iO,iO,show (i:Int)+(j:Int) - 1=((i+j - 1:Nat):Int) by omega,Zv,show (i:Int)+(j:Int)=((i+j:Nat):Int) by omega,Zv,wS2,iT q];rfl
   ·rw [iN,wS2,iF q]
  by_cases q:0<j
  ·have hlt:Op.bytesLess (hi.getD (i+j - 1) []) (lo.getD (i+j) [])=true:=by
    have:=G.hl (out.length - 1) (i+j - 1) (by omega) (by omega);rw [eL,eH] at this
    rwa [show i+j - 1+1=i+j by omega] at this
   obtain ⟨s1,_⟩:=U.sh (i+j);obtain ⟨_,s2⟩:=U.sh (i+j - 1);obtain ⟨z,⟨b0,hb⟩,g⟩:=ih (j+1) (kd ++ [((i+j+1:Nat):Int)]) (pv ++ [(lo.getD (i+j) []).take (shd (hi.getD (i+j - 1) []) (lo.getD (i+j) [])+1)]) (by omega) ek (by simp; omega) (fun w hw=>by
    rw [lA] at hw;by_cases e:w<pv.length
    ·rw [Yl e]; exact hpv w e
    ·have e2:w=pv.length:=by simp at hw; omega
     rw [Yp e2,show i+w=i+j - 1 by omega,show i+j - 1+1=i+j by omega];exact ⟨Gl hlt,Zdx _ _,by rw [length_take]; omega⟩)
   refine ⟨z,⟨b0+6000,fun k hk=>?_⟩,g⟩;obtain ⟨k,rfl⟩:=kS1 k;show Q123.l8 (k+1) c x r _ lo hi out (t:Int) up a b (i:Int) kd pv (j:Int)=_;rw [head,iT q,Ziz (by omega) (by omega) (by omega),iT hlt,bS,iV];exact hb k (by omega)
  ·obtain ⟨z,⟨b0,hb⟩,g⟩:=ih (j+1) (kd ++ [((i+j+1:Nat):Int)]) pv (by omega) ek (by omega) hpv;refine ⟨z,⟨b0+1,fun k hk=>?_⟩,g⟩;obtain ⟨k,rfl⟩:=kS1 k;show Q123.l8 (k+1) c x r _ lo hi out (t:Int) up a b (i:Int) kd pv (j:Int)=_;rw [head,iF q];exact hb k (by omega)
theorem Zq4 (hc:OkC c) (hx:∀ y∈x.2.2.2,0<=y/\y<256) (U:UpSt c out lo hi)
  (H:∀(up:List Nd) (a b:TQ) (t:Nat),UpSt c (out ++ [up]) a b->t<=200*(out.length+1)->∃ q,Ev (fun k=>Q123.l3 k c x up a b (t:Int) (out ++ [up])) q/\GoodT c q) (w2:1<wd out (out.length - 1)) (l6:out.length<6) :
  ∀(m i:Nat) (up:List Nd) (a b:TQ) (t:Nat),wd out (out.length - 1) - i<=m->i<=wd out (out.length - 1)->UpRow lo hi out.length (wd out (out.length - 1)) up a b i->t<=200*out.length+up.length->∃ q,Ev (fun k=>Q123.l6 k c x (out.getD (out.length - 1) default) lo hi out (t:Int) up a b (i:Int)) q/\GoodT c q:=by
 obtain ⟨LO,HI,G,eL,eH⟩:=U.gro;have hne:=G.ne;have wB:=U.wb (out.length - 1) (by omega);obtain ⟨F,eF⟩:=Int.eq_ofNat_of_zero_le (show 0<=c.2.2.2.1 by have:=hc.fan; omega);have hF:=hc.fan;intro m
 induction m with
 | zero=>
  intro i up a b t hm hi R ht;have ei:i=wd out (out.length - 1):=by omega
  have hu:=R.le;have hinn:InnR (LO (out.length - 1)) (HI (out.length - 1)) out.length up:=by rw [eL,eH]; exact R.inn
  have hup:1<=up.length:=by
   apply Nat.one_le_iff_ne_zero.2;intro e;have:=R.st;rw [e,Zhm] at this;omega
  have e1:(out ++ [up]).length - 1=out.length:=by simp
  have en:(out ++ [up]).getD out.length default=up:=Yp rfl;have U':UpSt c (out ++ [up]) a b:=by
   refine ⟨⟨_,_,Zqo G hinn (by rw [R.st,ei]) (fun j hj=>by rw [eL,eH]; exact R.ab j hj),by rw [e1,Z7],by rw [e1,Z7]⟩,by simp; omega,by rw [e1,R.al]; unfold wd; rw [en],by rw [e1,R.bl]; unfold wd; rw [en],fun j=>?_,by rw [e1]; unfold wd; rw [en]; exact hup,fun k hk=>?_,?_,fun k j hk hj=>?_⟩
   ·by_cases q:j<up.length
    ·rw [(R.ab j q).1,(R.ab j q).2];exact ⟨(U.sh _).1,(U.sh _).2⟩
    ·rw [List.getD_eq_getElem?_getD,List.getD_eq_getElem?_getD,List.getElem?_eq_none (by have:=R.al; omega),List.getElem?_eq_none (by have:=R.bl; omega)];exact ⟨Nat.zero_le _,Nat.zero_le _⟩
   ·rw [lA] at hk;by_cases q:k<out.length
    ·unfold wd; rw [Yl q]; exact U.wb k q
    ·rw [show k=out.length by simp at hk; omega]; unfold wd; rw [en]; omega
   ·unfold Lvs;rw [Yl hne];exact U.lvs
   ·rw [lA] at hk;by_cases q:k<out.length
    ·unfold wd at hj; unfold ndT;rw [Yl q] at hj ⊢;exact U.buf k j q hj
    ·have ek:k=out.length:=by simp at hk; omega
     subst ek;unfold wd at hj; unfold ndT;rw [en] at hj ⊢;exact R.bf j hj
  obtain ⟨q,⟨b0,hb⟩,g⟩:=H up a b t U' (by omega);refine ⟨q,⟨b0+2,fun k hk=>?_⟩,g⟩;obtain ⟨k,rfl⟩:=kS2 k;show Q123.l6 (k+2) c x _ _ _ out (t:Int) up a b (i:Int)=_;rw [Q123.l6,iF (by simp only [dE]; unfold wd at ei; omega),Q123.l5,iV];exact hb k (by omega)
 | succ m ih=>
  intro i up a b t hm hi R ht;by_cases q:i<wd out (out.length - 1)
  ·have hu:=R.le;have hst:up.length<=151:=by omega
   obtain ⟨r,er,r1,r2⟩:=Zqx hx t (m:=F) (by omega) (by omega);obtain ⟨nn,hn,n1,n2,n3⟩:∃ nn:Nat,mnI (mxI (r:Int) 2) (w64 (((out.getD (out.length - 1) default).length:Int) - (i:Int)))=(nn:Int)/\1<=nn/\nn<=64/\i+nn<=wd out (out.length - 1):=by
    unfold wd at q wB ⊢;unfold mnI mxI;rw [wI2];by_cases q1:(r:Int)>2
    ·rw [iT q1];by_cases q2:(r:Int)<((out.getD (out.length - 1) default).length:Int) - (i:Int)
     ·rw [iT q2]; exact ⟨r,rfl,by omega,by omega,by omega⟩
     ·rw [iF q2]; exact ⟨(out.getD (out.length - 1) default).length - i,by omega,by omega,by omega,by omega⟩
    ·rw [iF q1];by_cases q2:(2:Int)<((out.getD (out.length - 1) default).length:Int) - (i:Int)
     ·rw [iT q2]; exact ⟨2,rfl,by omega,by omega,by omega⟩
     ·rw [iF q2]; exact ⟨(out.getD (out.length - 1) default).length - i,by omega,by omega,by omega,by omega⟩
   obtain ⟨z,⟨b0,hb⟩,g⟩:=Zqf hc hx U R hn n1 n2 n3 (by omega) rfl (fun up' a' b' R' e=>ih (i+nn) up' a' b' (t+1) (by omega) n3 R' (by omega)) nn 0 [] [] (by omega) rfl rfl (fun w hw=>absurd hw (Nat.not_lt_zero _));refine ⟨z,⟨b0+1,fun k hk=>?_⟩,g⟩;obtain ⟨k,rfl⟩:=kS1 k;show Q123.l6 (k+1) c x _ _ _ out (t:Int) up a b (i:Int)=_;rw [Q123.l6,iT (dT (by unfold wd at q; omega)),eF,er,bS];exact hb k (by omega)
  ·exact ih i up a b t (by omega) hi R ht
end
theorem Zlz {α β:Type} (f:α->β) (l:List α) (i:Nat) (d:α):(l.map f).getD i (f d)=f (l.getD i d):=by
 rw [List.getD_eq_getElem?_getD,List.getElem?_map,List.getD_eq_getElem?_getD];cases l[i]? <;> rfl
def Jh (n:Nd):Int×List Int×List TY×List Pr:=(n.1,n.2.1,n.2.2.1,n.2.2.2.2)
structure SameB (l r:Tre):Prop where
 len:r.length=l.length
 row:∀ k,(r.getD k default).map Jh=(l.getD k default).map Jh
theorem G9 {n m:Nd} (h:Jh n=Jh m):n.1=m.1/\n.2.1=m.2.1/\n.2.2.1=m.2.2.1/\n.2.2.2.2=m.2.2.2.2:=⟨congrArg (fun z=>z.1) h,congrArg (fun z=>z.2.1) h,congrArg (fun z=>z.2.2.1) h,congrArg (fun z=>z.2.2.2) h⟩
section
variable {l r q:Tre} {LO HI:Nat->Nat->List UInt8} {c:Cfg}
theorem SameB.rfl' (l:Tre):SameB l l:=⟨rfl,fun _=>rfl⟩
theorem SameB.trans (S:SameB l r) (T:SameB r q):SameB l q:=⟨T.len.trans S.len,fun k=>(T.row k).trans (S.row k)⟩
theorem SameB.wd (S:SameB l r) (k:Nat):wd r k=wd l k:=by
 have:=congrArg List.length (S.row k);simpa [T.wd] using this
theorem SameB.nd (S:SameB l r) (k i:Nat):Jh (ndT r k i)=Jh (ndT l k i):=by
 have:=congrArg (fun z=>z.getD i (Jh default)) (S.row k);simp only [Zlz] at this;exact this
theorem SameB.st (S:SameB l r) (k i:Nat):stR (r.getD k default) i=stR (l.getD k default) i:=by
 have e:∀ row:List Nd,row.map (fun n=>n.2.1.length)=(row.map Jh).map fun s=>s.2.1.length:=fun row=>by rw [List.map_map]; rfl
 unfold stR;rw [e,e,S.row]
theorem SameB.flat (S:SameB l r) (k:Nat):V6 (r.getD k default)=V6 (l.getD k default):=by
 have e:∀ row:List Nd,V6 row=(row.map Jh).flatMap fun s=>s.2.2.2:=fun row=>by rw [List.flatMap_map]; rfl
 rw [e,e,S.row]
theorem SameB.kid (S:SameB l r) (k i:Nat) (x:TY):kidI (ndT r k i) x=kidI (ndT l k i) x:=by
 obtain ⟨_,h2,h3,_⟩:=G9 (S.nd k i);unfold kidI;rw [h2,h3]
theorem SameB.dn (S:SameB l r) (x:TY):∀ j,dn r x j=dn l x j
 | 0=>rfl
 | j+1=>by rw [T.dn,T.dn,S.dn x j,S.len,S.kid]
theorem SameB.gro (S:SameB l r) (G:Gro l LO HI) (h0:∀ i,i<T.wd l 0->(ndT r 0 i).2.2.2.1=[]):Gro r LO HI:=by
 refine ⟨by rw [S.len]; exact G.ne,fun i hi=>?_,fun k hk=>?_,fun k i hk hi=>?_,fun k i hk hi=>?_⟩
 ·rw [S.wd] at hi;obtain ⟨a1,a2,a3,a4⟩:=G9 (S.nd 0 i);obtain ⟨g1,g2,g3,_,g5⟩:=G.leaf i hi;rw [a1,a2,a3,a4];exact ⟨g1,g2,g3,h0 i hi,g5⟩
 ·rw [S.len] at hk;obtain ⟨r1,r2,r3⟩:=G.row k hk;refine ⟨fun i hi=>?_,by rw [S.wd,S.wd,S.st]; exact r2,fun i hi=>?_⟩
  ·have hi':i<(l.getD (k+1) default).length:=by have:=S.wd (k+1); unfold T.wd at this; omega
   obtain ⟨a1,a2,a3,a4⟩:=G9 (S.nd (k+1) i);have n:=r1 i hi';unfold ndT at a1 a2 a3 a4;rw [S.st];exact ⟨by rw [a1]; exact n.lvl,by rw [a4]; exact n.prs,by rw [a2,a3]; exact n.pvl,by rw [a2]; exact n.fan,by rw [a2]; exact n.kid,by rw [a3]; exact n.pv⟩
  ·rw [S.wd] at hi;rw [S.st,S.st];exact r3 i hi
 ·rw [S.len] at hk; rw [S.wd] at hi; exact G.lh k i hk hi
 ·rw [S.len] at hk; rw [S.wd] at hi; exact G.hl k i hk hi
end
def B5 (l:Tre) (k i:Nat) (b:List Msg):Tre:=l.set k ((l.getD k default).set i ((ndT l k i).1,(ndT l k i).2.1,(ndT l k i).2.2.1,b,(ndT l k i).2.2.2.2))
theorem Zbh {α:Type} (l:List α) (k j:Nat) (v d:α):(l.set k v).getD j d=if j=k/\k<l.length then v else l.getD j d:=by
 rw [List.getD_eq_getElem?_getD,List.getElem?_set,List.getD_eq_getElem?_getD];by_cases e:k=j
 ·subst e;by_cases h:k<l.length
  ·rw [iT rfl,iT h,iT ⟨rfl,h⟩]; rfl
  ·rw [iT rfl,iF h,iF (fun z=>h z.2),List.getElem?_eq_none (by omega)]
 ·rw [iF e,iF (fun z=>e z.1.symm)]
theorem Zjm {l:Tre} {k i:Nat} (hk:k<l.length) (hi:i<wd l k) (b:List Msg) (k' i':Nat):(ndT (B5 l k i b) k' i').2.2.2.1=if k'=k/\i'=i then b else (ndT l k' i').2.2.2.1:=by
 unfold ndT B5;rw [Zbh];by_cases e:k'=k
 ·subst e;rw [iT ⟨rfl,hk⟩,Zbh];by_cases e2:i'=i
  ·subst e2;rw [iT ⟨rfl,hi⟩,iT ⟨rfl,rfl⟩]
  ·rw [iF (fun z=>e2 z.1),iF (fun z=>e2 z.2)]
 ·rw [iF (fun z=>e z.1),iF (fun z=>e z.1)]
theorem Zm5 (l:Tre) (k i:Nat) (b:List Msg):SameB l (B5 l k i b):=by
 refine ⟨by unfold B5; rw [length_set],fun j=>?_⟩;unfold B5;rw [Zbh];by_cases e:j=k/\k<l.length
 ·rw [iT e,e.1,List.map_set];refine List.ext_getElem? fun z=>?_;rw [List.getElem?_set];by_cases ez:i=z
  ·subst ez;rw [iT rfl,List.getElem?_map];by_cases h:i<((l.getD k default).map Jh).length
   ·rw [iT h];rw [length_map] at h;unfold ndT;rw [Y5 h,List.getElem?_eq_getElem h];rfl
   ·rw [iF h];rw [length_map] at h;rw [List.getElem?_eq_none (by omega)]; rfl
  ·rw [iF ez]
 ·rw [iF e]
section
variable {l:Tre} {LO HI:Nat->Nat->List UInt8} {c:Cfg} {N:Nat}
structure PutS (c:Cfg) (N:Nat) (l r:Tre):Prop where
 same:SameB l r
 buf:Zor c N r
 z:∀ i,i<wd l 0->(ndT r 0 i).2.2.2.1=[]
theorem Zm6 {l0 l:Tre} (S:PutS c N l0 l) {m:Msg} (hm:Xf c m.1=true) {k:Nat} (h0:0<k) (hk:k<l.length) (hi:dn l m.1 (l.length - 1 - k)<wd l k):PutS c (N+1) l0 (B5 l k (dn l m.1 (l.length - 1 - k)) (Xl mk m (ndT l k (dn l m.1 (l.length - 1 - k))).2.2.2.1)):=by
 have V:=Zm5 l k (dn l m.1 (l.length - 1 - k)) (Xl mk m (ndT l k (dn l m.1 (l.length - 1 - k))).2.2.2.1);refine ⟨S.same.trans V,fun k' i' p0 p1 p2=>?_,fun i h=>?_⟩
 ·rw [V.len] at p1 ⊢;rw [V.wd] at p2;rw [Zjm hk hi];obtain ⟨b1,b2,b3⟩:=S.buf k' i' p0 p1 p2;by_cases e:k'=k/\i'=dn l m.1 (l.length - 1 - k)
  ·obtain ⟨rfl,rfl⟩:=e;rw [iT ⟨rfl,rfl⟩];refine ⟨Js mk b1,by have:=Ba mk m (ndT l k' (dn l m.1 (l.length - 1 - k'))).2.2.2.1; omega,fun y hy=>?_⟩;rw [V.dn];rcases Zad mk hy with rfl | hy
   ·exact ⟨hm,rfl⟩
   ·exact b3 y hy
  ·rw [iF e];exact ⟨b1,by omega,fun y hy=>by rw [V.dn]; exact b3 y hy⟩
 ·rw [Zjm hk hi,iF (fun z=>by omega)];exact S.z i h
theorem PutS.more {l0 l:Tre} (S:PutS c N l0 l):PutS c (N+1) l0 l:=⟨S.same,fun k i h1 h2 h3=>by obtain ⟨b1,b2,b3⟩:=S.buf k i h1 h2 h3; exact ⟨b1,by omega,b3⟩,S.z⟩
theorem Zjf (hc:OkC c) {l0:Tre} (S:PutS c N l0 l) (hN:N<=200) (G:Gro l LO HI) (top:wd l (l.length - 1)=1) (h6:l.length<=6) (wb:∀ k,k<l.length->wd l k<=151) {m:Msg} (hm:Xf c m.1=true) (most:Int):∀(lev d:Nat),d<=1000->lev<l.length->∃ r,Ev (fun k=>Q146.l0 k l m most (d:Int) ((dn l m.1 (l.length - 1 - lev):Nat):Int) (lev:Int)) r/\PutS c (N+1) l0 r
 | 0,d,hd,hl=>⟨l,⟨1,fun k hk=>by
   obtain ⟨k,rfl⟩:=kS1 k;show Q146.l0 (k+1) l m most (d:Int) _ ((0:Nat):Int)=_;rw [Q146.l0,vS]⟩,S.more⟩
 | lev+1,d,hd,hl=>by
  have hi:=G.dn_lt top m.1 (l.length - 1 - (lev+1)) (by omega);rw [show l.length - 1 - (l.length - 1 - (lev+1))=lev+1 by omega] at hi;have hi2:=hi;unfold wd at hi2;have hw:=wb (lev+1) hl;have hkl:=Zcz hc hm;obtain ⟨b1,b2,b3⟩:=S.buf (lev+1) _ (by omega) hl hi;have kd:=G.kidI hl hi m.1;have nd:=G.nd hl hi;have hs:=G.rise hl hi;have hdn:dn l m.1 (l.length - 1 - lev)=kidI (ndT l (lev+1) (dn l m.1 (l.length - 1 - (lev+1)))) m.1:=by
   rw [show l.length - 1 - lev=(l.length - 1 - (lev+1))+1 by omega,dn,show l.length - 1 - (l.length - 1 - (lev+1))=lev+1 by omega]
  have P:=Zm6 S hm (show 0<lev+1 by omega) hl hi;rw [show l.length - 1 - (lev+1)=l.length - 1 - (lev+1) from rfl] at P;have aw:=Zex m.1 hs;obtain ⟨w1,w2,w3,w4⟩:=kd;obtain ⟨nn,enn⟩:∃ nn,nn=ndT l (lev+1) (dn l m.1 (l.length - 1 - (lev+1))):=⟨_,rfl⟩;obtain ⟨a,ea⟩:∃ a,a=dn l m.1 (l.length - 1 - (lev+1)):=⟨_,rfl⟩;rw [<- ea] at enn hi hi2 P;rw [<- ea,<- enn] at b1 b2 b3 hs aw w1 w2 w3 w4 hdn nd;rw [<- enn] at P;have nd2:(l.getD (lev+1) default).getD a default=nn:=enn.symm;by_cases hput:d=0\/lev=0
  ·have fin:∀ k,5000<k->(((Q140.f k nn.2.2.2.1 m)).bind fun r1=>(if (decide ((r1.length:Int)<=most))=true then (some (l.set (lev+1) ((l.getD (lev+1) default).set a (nn.1,nn.2.1,nn.2.2.1,r1,nn.2.2.2.2)))) else (some l)))=some (if ((Xl mk m nn.2.2.2.1).length:Int)<=most then B5 l (lev+1) a (Xl mk m nn.2.2.2.1) else l):=fun k hk=>by
    rw [Ziy ⟨by omega,fun y hy=>by have:=Zcz hc (b3 y hy).1; omega⟩ (by omega) b1 (by omega),bS];by_cases z:((Xl mk m nn.2.2.2.1).length:Int)<=most
    ·rw [iT (dT z),iT z];unfold B5;rw [<- enn]
    ·rw [iF (by simpa using z),iF z]
   refine ⟨if ((Xl mk m nn.2.2.2.1).length:Int)<=most then B5 l (lev+1) a (Xl mk m nn.2.2.2.1) else l,⟨5002,fun k hk=>?_⟩,?_⟩
   ·obtain ⟨k,rfl⟩:=kS1 k;show Q146.l0 (k+1) l m most (d:Int) ((dn l m.1 (l.length - 1 - (lev+1)):Nat):Int) ((lev+1:Nat):Int)=_;rw [<- ea,Q146.l0,iP,iO,Zv,iO,Zv,nd2,tN,tN];rcases hput with z | z
    ·rw [iP]; exact fin k (by omega)
    ·by_cases z2:d=0
     ·rw [iP]; exact fin k (by omega)
     ·rw [iN,iP]; exact fin k (by omega)
   ·split
    ·exact P
    ·exact S.more
  ·obtain ⟨r,⟨b0,hb⟩,g⟩:=Zjf hc S hN G top h6 wb hm most lev (d - 1) (by omega) (by omega);refine ⟨r,⟨b0+4000,fun k hk=>?_⟩,g⟩;obtain ⟨k,rfl⟩:=kS1 k;have hb':=hb k (by omega);have hf:=nd.fan;have hpl:=nd.pvl;show Q146.l0 (k+1) l m most (d:Int) ((dn l m.1 (l.length - 1 - (lev+1)):Nat):Int) ((lev+1:Nat):Int)=_;rw [<- ea,Q146.l0,iP,iO,Zv,iO,Zv,nd2,iN,iN,Ziq (s:=([],[],true)) ⟨by omega,fun y hy=>by obtain ⟨j,hj,e⟩:=Ug hy []; rw [<- e]; have:=(nd.pv j hj).2.2; omega,by omega,Nat.zero_le _,Nat.zero_le _⟩ aw (by omega),bS,iO,Zv,w3,Bp (x:=((kidI nn m.1+1:Nat):Int)) (by have:=wb lev (by omega); omega) (by have:=wb lev (by omega); omega),show ((kidI nn m.1+1:Nat):Int) - 1=((kidI nn m.1:Nat):Int) by omega,Bp (x:=((kidI nn m.1:Nat):Int)) (by omega) (by have:=wb lev (by omega); omega),wI2 (x:=(d:Int) - 1),wI2 (x:=((lev+1:Nat):Int) - 1),show (d:Int) - 1=((d - 1:Nat):Int) by omega,show ((lev+1:Nat):Int) - 1=(lev:Int) by omega,<- hdn];exact hb'
end
section
variable {c:Cfg} {x:Spc}
theorem Zlc (hc:OkC c) {ms:List Msg} (h100:ms.length<=100) (hms:∀ m∈ms,Xf c m.1=true) {deep:T2} (hd:∀ y∈deep,0<=y/\y<256) (most:Int) {l0:Tre} {LO HI:Nat->Nat->List UInt8} (G:Gro l0 LO HI) (top:wd l0 (l0.length - 1)=1) (h6:l0.length<=6) (wb:∀ k,k<l0.length->wd l0 k<=151):∀(m i:Nat) (l:Tre),i+m=ms.length->PutS c i l0 l->∃ r,Ev (fun k=>Q145.l0 k ms deep most l (i:Int)) r/\PutS c ms.length l0 r
 | 0,i,l,hi,S=>⟨l,⟨1,fun k hk=>by
   obtain ⟨k,rfl⟩:=kS1 k;show Q145.l0 (k+1) ms deep most l (i:Int)=_;rw [Q145.l0,iN]⟩,by rw [<- hi]; exact S⟩
 | m+1,i,l,hi,S=>by
  have hne:=G.ne;have hl:=S.same.len;have wd':=S.same.wd;obtain ⟨d,hd1,hd2⟩:∃ d:Nat,d<=1000/\∀ k,Q145.l0 (k+1) ms deep most l (i:Int)=(Q146.f k l (ms.getD i default) (d:Int) most).bind fun r=>Q145.l0 k ms deep most r ((i+1:Nat):Int):=by
   by_cases q:i<deep.length
   ·obtain ⟨y1,y2⟩:=hd _ (Yw (d:=default) q);obtain ⟨y,ey⟩:=Int.eq_ofNat_of_zero_le y1;have:=Nat.mod_lt y (show 0<l.length by omega);refine ⟨y % l.length,by omega,fun k=>?_⟩;rw [Q145.l0,iP,iP,iO,iO,iO,Zv,Zv,ey,wI2 (x:=(y:Int)),wS2];rfl
   ·refine ⟨0,by omega,fun k=>?_⟩;rw [Q145.l0,iP,iN,iO,Zv,wS2];rfl
  obtain ⟨r,⟨b1,e1⟩,S1⟩:=Zjf hc S (by omega) (S.same.gro G S.z) (by rw [wd',hl]; exact top) (by omega) (fun k hk=>by rw [wd']; exact wb k (by omega)) (hms _ (Yw (d:=default) (show i<ms.length by omega))) most (l.length - 1) d hd1 (by omega);rw [Nat.sub_self] at e1;obtain ⟨r2,⟨b2,e2⟩,S2⟩:=Zlc hc h100 hms hd most G top h6 wb m (i+1) r (by omega) S1;refine ⟨r2,⟨b1+b2+1,fun k hk=>?_⟩,S2⟩;obtain ⟨k,rfl⟩:=kS1 k;have e1':=e1 k (by omega);show Q145.l0 (k+1) ms deep most l (i:Int)=_;rw [hd2];unfold Q146.f;rw [wI2,show (l.length:Int) - 1=((l.length - 1:Nat):Int) by omega];rw [show Q146.l0 k l (ms.getD i default) most (d:Int) 0 ((l.length - 1:Nat):Int)=_ from e1',bS];exact e2 k (by omega)
theorem Zsf (c:Cfg):GoodT c [[(0,[],[],[],[])]]:=by
 refine ⟨⟨fun _ _=>[],fun _ _=>[],by decide,fun i hi=>?_,fun k hk=>?_,fun _ _ _ _=>rfl,fun k i hk hi=>?_⟩,rfl,by decide,⟨List.Pairwise.nil,Nat.zero_le _,fun p hp=>by cases hp⟩,fun k i h1 h2 _=>?_,fun k hk=>?_⟩
 ·obtain rfl:i=0:=by have:i<1:=hi; omega
  exact ⟨rfl,rfl,rfl,rfl,fun p hp=>by cases hp⟩
 ·have:k+1<1:=hk;omega
 ·obtain rfl:k=0:=by have:k<1:=hk; omega
  have:i+1<1:=hi;omega
 ·have:k<1:=h2;omega
 ·obtain rfl:k=0:=by have:k<1:=hk; omega
  decide
theorem Zqi (hc:OkC c) (hd:∀ y∈x.2.2.1,0<=y/\y<256) {out:Tre} {lo hi:TQ} (U:UpSt c out lo hi) (t:Int) (b:Bool):∃ q,Ev (fun k=>Q123.l2 k c x (out.getD (out.length - 1) default) lo hi t out b) q/\GoodT c q:=by
 by_cases q:1<(out.getD (out.length - 1) default).length
 ·exact ⟨_,⟨1,fun k hk=>by
   obtain ⟨k,rfl⟩:=kS1 k;show Q123.l2 (k+1) c x _ lo hi t out b=_;rw [Q123.l2,iP]⟩,Zsf c⟩
 ·obtain ⟨LO,HI,G,_,_⟩:=U.gro;have hne:=G.ne;obtain ⟨ms,⟨b1,e1⟩,m1,m2⟩:=Zse c x;have top:wd out (out.length - 1)=1:=by have:=U.w1; unfold wd at this ⊢; omega
  obtain ⟨r,⟨b2,e2⟩,S⟩:=Zlc hc m1 m2 hd c.2.2.2.2.1 G top U.len U.wb ms.length 0 out (by omega) ⟨SameB.rfl' out,fun k i h1 h2 h3=>by rw [U.buf k i h2 h3]; exact ⟨List.Pairwise.nil,Nat.le_refl _,fun p hp=>by cases hp⟩,fun i hi=>U.buf 0 i hne hi⟩;refine ⟨r,⟨b1+b2+1,fun k hk=>?_⟩,⟨⟨LO,HI,S.same.gro G S.z⟩,by rw [S.same.len,S.same.wd]; exact top,by rw [S.same.len]; exact U.len,?_,fun k i h1 h2 h3=>?_,fun k hk=>by rw [S.same.wd]; rw [S.same.len] at hk; exact U.wb k hk⟩⟩
  ·obtain ⟨k,rfl⟩:=kS1 k;show Q123.l2 (k+1) c x _ lo hi t out b=_;rw [Q123.l2,iN,show Q127.f k c x=_ from e1 k (by omega),bS];unfold Q145.f;rw [show Q145.l0 k ms x.2.2.1 c.2.2.2.2.1 out 0=_ from e2 k (by omega),bS]
  ·unfold Lvs;rw [S.same.flat];exact U.lvs
  ·obtain ⟨g1,g2,g3⟩:=S.buf k i h1 h2 h3;exact ⟨g1,by omega,g3⟩
theorem Zrl (hc:OkC c) (hx:∀ y∈x.2.2.2,0<=y/\y<256) (hd:∀ y∈x.2.2.1,0<=y/\y<256):∀(m:Nat) (out:Tre) (lo hi:TQ) (t:Nat),out.length+m=6->UpSt c out lo hi->t<=200*out.length->∃ q,Ev (fun k=>Q123.l3 k c x (out.getD (out.length - 1) default) lo hi (t:Int) out) q/\GoodT c q:=by
 have low:∀(out:Tre) (lo hi:TQ) (t:Nat),UpSt c out lo hi->¬ (1<(out.getD (out.length - 1) default).length/\out.length<6)->∃ q,Ev (fun k=>Q123.l3 k c x (out.getD (out.length - 1) default) lo hi (t:Int) out) q/\GoodT c q:=fun out lo hi t U h=>by
  obtain ⟨q,⟨b0,hb⟩,g⟩:=Zqi hc hd U (t:Int) false;refine ⟨q,⟨b0+2,fun k hk=>?_⟩,g⟩;obtain ⟨k,rfl⟩:=kS2 k;show Q123.l3 (k+2) c x _ lo hi (t:Int) out=_;rw [Q123.l3];by_cases z:1<(out.getD (out.length - 1) default).length
  ·rw [iP,dF,Q123.l4,vS];exact hb k (by omega)
  ·rw [iN,Q123.l4,vS];exact hb k (by omega)
 intro m
 induction m with
 | zero=>intro out lo hi t hm U ht; exact low out lo hi t U (by omega)
 | succ m ih=>
  intro out lo hi t hm U ht;by_cases z:1<(out.getD (out.length - 1) default).length
  ·obtain ⟨q,⟨b0,hb⟩,g⟩:=Zq4 hc hx U (fun up a b t' U' ht'=>by
    have:=ih (out ++ [up]) a b t' (by simp; omega) U' (by simp; omega)
    rwa [show (out ++ [up]).length - 1=out.length by simp,Yp rfl] at this) z (by omega) (wd out (out.length - 1)) 0 [] [] [] t (by omega) (Nat.zero_le _) ⟨fun i hi=>absurd hi (Nat.not_lt_zero _),rfl,rfl,rfl,fun j hj=>absurd hj (Nat.not_lt_zero _),Nat.le_refl _,fun j hj=>absurd hj (Nat.not_lt_zero _)⟩ (by omega)
   refine ⟨q,⟨b0+2,fun k hk=>?_⟩,g⟩;obtain ⟨k,rfl⟩:=kS2 k;show Q123.l3 (k+2) c x _ lo hi (t:Int) out=_;rw [Q123.l3,iP,dT,Q123.l4,iT rfl];exact hb k (by omega)
  ·exact low out lo hi t U fun h=>z h.1
structure LeafSt (c:Cfg) (l:List Pr) (row:List Nd) (lo hi:TQ):Prop where
 lv:LvP c (V6 row ++ l)
 ll:lo.length=row.length
 hl:hi.length=row.length
 bd:row.length+l.length<=151
 nd:∀ i,i<row.length->(row.getD i default).1=0/\(row.getD i default).2.1=[]/\(row.getD i default).2.2.1=[]/\(row.getD i default).2.2.2.1=[]/\∀ p∈(row.getD i default).2.2.2.2,Op.bytesLess p.1 (lo.getD i [])=false/\Op.bytesLess (hi.getD i []) p.1=false
 lh:∀ i,i<row.length->Op.bytesLess (hi.getD i []) (lo.getD i [])=false
 sh:∀ i,(lo.getD i []).length<=200/\(hi.getD i []).length<=200
 inc:∀ i,i+1<row.length->Op.bytesLess (hi.getD i []) (lo.getD (i+1) [])=true
 rest:∀ i,i<row.length->∀ p∈l,Op.bytesLess (hi.getD i []) p.1=true
theorem Ze3 {α:Type} {l:List α} {i:Nat} {d:α} (h:l.length<=i):l.getD i d=d:=by rw [List.getD_eq_getElem?_getD,List.getElem?_eq_none h]; rfl
theorem Zd2 {l:List Pr} {row:List Nd} {lo hi:TQ} (L:LeafSt c l row lo hi) {a b:TY} {u v:List Pr} (e:l=u ++ v) (hb:row.length+1+v.length<=151) (hu:∀ p∈u,Op.bytesLess p.1 a=false/\Op.bytesLess b p.1=false) (hab:Op.bytesLess b a=false) (ha:a.length<=200/\b.length<=200) (hin:∀ i,i<row.length->Op.bytesLess (hi.getD i []) a=true) (hv:∀ p∈v,Op.bytesLess b p.1=true):LeafSt c v (row ++ [(0,[],[],[],u)]) (lo ++ [a]) (hi ++ [b]):=by
 have h1:=L.ll;have h2:=L.hl;have two:∀ i,i<(row ++ [((0,[],[],[],u):Nd)]).length->i<row.length\/i=row.length:=fun i h=>by simp at h; omega
 refine ⟨by unfold V6; rw [List.flatMap_append]; have:=L.lv; rw [e] at this; simpa [V6] using this,by simp [h1],by simp [h2],by simp; omega,fun i h=>?_,fun i h=>?_,fun i=>?_,fun i h=>?_,fun i h p hp=>?_⟩
 ·rcases two i h with q | q
  ·rw [Yl q,Yl,Yl]; exact L.nd i q
  ·rw [Yp q,Yp,Yp]; exact ⟨rfl,rfl,rfl,rfl,hu⟩
 ·rcases two i h with q | q
  ·rw [Yl,Yl]; exact L.lh i q
  ·rw [Yp,Yp]; exact hab
 ·by_cases q:i<row.length
  ·rw [Yl,Yl]; exact L.sh i
  ·by_cases q2:i=row.length
   ·rw [Yp,Yp]; exact ha
   ·rw [Ze3 (by simp; omega),Ze3 (by simp; omega)]; exact ⟨Nat.zero_le _,Nat.zero_le _⟩
 ·rcases two (i+1) h with q | q
  ·rw [Yl,Yl]; exact L.inc i q
  ·rw [Yl,Yp]; exact hin i (by omega)
 ·rcases two i h with q | q
  ·rw [Yl]; exact L.rest i q p (by rw [e]; exact List.mem_append.2 (.inr hp))
  ·rw [Yp]; exact hv p hp
theorem Zqe {row:List Nd} {lo hi:TQ} (L:LeafSt c [] row lo hi) (hr:row≠[]):UpSt c [row] lo hi:=by
 have hp:1<=row.length:=by cases row with | nil=>exact absurd rfl hr | cons a r=>simp
 have h1:=L.bd;have one:∀ k,k<[row].length->k=0:=fun k h=>by simp at h; omega
 refine ⟨⟨fun _ i=>lo.getD i [],fun _ i=>hi.getD i [],⟨by simp,L.nd,fun k hk=>by simp at hk,fun k i hk h=>?_,fun k i hk h=>?_⟩,rfl,rfl⟩,by simp,L.ll,L.hl,L.sh,hp,fun k hk=>?_,?_,fun k i hk h=>?_⟩
 ·rw [one k hk] at h; exact L.lh i h
 ·rw [one k hk] at h; exact L.inc i h
 ·rw [one k hk]; show row.length<=151; simp at h1; omega
 ·have:=L.lv; rw [List.append_nil] at this; exact this
 ·rw [one k hk] at h ⊢; exact (L.nd i h).2.2.2.1
theorem Zq9 (hc:OkC c) (hx:∀ y∈x.2.2.2,0<=y/\y<256) (hd:∀ y∈x.2.2.1,0<=y/\y<256):∀(m:Nat) (l:List Pr) (row:List Nd) (lo hi:TQ),l.length+(if row=[] then 1 else 0)<=m->LeafSt c l row lo hi->∃ q,Ev (fun k=>Q123.l0 k c x l row lo hi ((row.length:Nat):Int)) q/\GoodT c q:=by
 obtain ⟨F,eF⟩:=Int.eq_ofNat_of_zero_le (show 0<=c.2.2.2.2.2.1 by have:=hc.leaf; have:=hc.buf; omega);have hF:=hc.leaf;have hB:=hc.buf;have stop:∀(row:List Nd) (lo hi:TQ),LeafSt c [] row lo hi->row≠[]->∃ q,Ev (fun k=>Q123.l0 k c x [] row lo hi ((row.length:Nat):Int)) q/\GoodT c q:=fun row lo hi L hr=>by
  have h1:=L.bd;have hp:row.length≠0:=fun e=>hr (List.eq_nil_of_length_eq_zero e);obtain ⟨q,⟨b0,hb⟩,g⟩:=Zrl hc hx hd 5 [row] lo hi row.length (by simp) (Zqe L hr) (by simp at h1 ⊢; omega);refine ⟨q,⟨b0+2,fun k hk=>?_⟩,g⟩;obtain ⟨k,rfl⟩:=kS2 k;show Q123.l0 (k+2) c x [] row lo hi _=_;rw [Q123.l0,vS,dF,Q123.l1,vS];exact hb k (by omega)
 intro m
 induction m with
 | zero=>
  intro l row lo hi hm L;have hl:l=[]:=List.eq_nil_of_length_eq_zero (by omega);subst hl;exact stop row lo hi L fun e=>by rw [iT e] at hm; simp at hm
 | succ m ih=>
  intro l row lo hi hm L;have hbd:=L.bd;have h1:=L.ll;have h2:=L.hl;by_cases z:l=[]/\row≠[]
  ·obtain ⟨rfl,z⟩:=z;exact stop row lo hi L z
  ·obtain ⟨r,er,r1,r2⟩:=Zqx hx row.length (m:=F) (by omega) (by omega);obtain ⟨nn,en,n1⟩:∃ nn:Nat,mnI (r:Int) (l.length:Int)=(nn:Int)/\nn=min r l.length:=by
    unfold mnI;by_cases q:(r:Int)<(l.length:Int)
    ·rw [iT q]; exact ⟨r,rfl,by omega⟩
    ·rw [iF q]; exact ⟨l.length,rfl,by omega⟩
   have enter:∀ k,Q123.l0 (k+2) c x l row lo hi ((row.length:Nat):Int)=(if (0:Int)<(nn:Int) then (Q123.l0 k c x (l.drop nn) (row ++ [(0,[],[],[],l.take nn)]) (lo ++ [(l.getD 0 default).1]) (hi ++ [(l.getD (nn - 1) default).1]) ((row.length+1:Nat):Int)) else (Q123.l0 k c x (l.drop nn) (row ++ [(0,[],[],[],l.take nn)]) (lo ++ [[]]) (hi ++ [[]]) ((row.length+1:Nat):Int))):=fun k=>by
    have l1:Q123.l0 (k+2) c x l row lo hi ((row.length:Nat):Int)=Q123.l1 (k+1) c x l row lo hi ((row.length:Nat):Int) true:=by
     rw [Q123.l0];by_cases q:l=[]
     ·have:row=[]:=Classical.byContradiction fun h=>z ⟨q,h⟩;rw [iF (by simp [q]),dT (by simp [this])]
     ·have:l.length≠0:=fun e=>q (List.eq_nil_of_length_eq_zero e);rw [iP]
    rw [l1,Q123.l1,iT rfl,eF,er,bS,en,iO,iV,wS2,tN];by_cases q:0<nn
    ·rw [iP,iO,wI2,iO,iV,iV,iO,iO,show (nn:Int) - 1=((nn - 1:Nat):Int) by omega,Zv];rfl
    ·rw [iN,iV,iV,iO,iQ]
   have go:∀(a b:TY),(∀ k,Q123.l0 (k+2) c x l row lo hi ((row.length:Nat):Int)=Q123.l0 k c x (l.drop nn) (row ++ [(0,[],[],[],l.take nn)]) (lo ++ [a]) (hi ++ [b]) ((row.length+1:Nat):Int))->LeafSt c (l.drop nn) (row ++ [(0,[],[],[],l.take nn)]) (lo ++ [a]) (hi ++ [b])->∃ q,Ev (fun k=>Q123.l0 k c x l row lo hi ((row.length:Nat):Int)) q/\GoodT c q:=fun a b he L'=>by
    obtain ⟨q,⟨b0,hb⟩,g⟩:=ih _ _ _ _ (by
     rw [vS,length_drop];by_cases q:l=[]
     ·have:row=[]:=Classical.byContradiction fun h=>z ⟨q,h⟩;rw [iT this] at hm;omega
     ·have:l.length≠0:=fun e=>q (List.eq_nil_of_length_eq_zero e);split at hm <;> omega) L'
    refine ⟨q,⟨b0+2,fun k hk=>?_⟩,g⟩;obtain ⟨k,rfl⟩:=kS2 k;have hb':=hb k (by omega);rw [lA] at hb';show Q123.l0 (k+2) c x l row lo hi _=_;rw [he];exact hb'
   by_cases q:0<nn
   ·have hr:RiseK pk l:=(List.pairwise_append.1 L.lv.1).2.1;have hk:∀ p∈l,p.1.length<=200:=fun p hp=>by have:=Zcz hc (L.lv.2.2 p (List.mem_append.2 (.inr hp))); omega
    have le:∀ {i j:Nat},i<=j->j<l.length->Op.bytesLess (l.getD j default).1 (l.getD i default).1=false:=fun {i j} h hj=>by
     by_cases e:i=j
     ·subst e; exact Vs _
     ·exact Wl (RiseK.get pk hr (show i<j by omega) hj default)
    refine go (l.getD 0 default).1 (l.getD (nn - 1) default).1 (fun k=>by rw [enter,iO]) (Zd2 L (List.take_append_drop nn l).symm (by rw [length_drop]; omega) (fun p hp=>?_) (le (by omega) (by omega)) ⟨hk _ (Yw (by omega)),hk _ (Yw (by omega))⟩ (fun i h=>L.rest i h _ (Yw (by omega))) fun p hp=>?_)
    ·obtain ⟨j,hj,e⟩:=Ug hp default;rw [length_take] at hj;rw [Zlv (by omega)] at e;rw [<- e];exact ⟨le (Nat.zero_le _) (by omega),le (by omega) (by omega)⟩
    ·obtain ⟨j,hj,e⟩:=Ug hp default;rw [length_drop] at hj;rw [Zln] at e;rw [<- e];exact RiseK.get pk hr (show nn - 1<nn+j by omega) (by omega) default
   ·have hl:l=[]:=List.eq_nil_of_length_eq_zero (by omega);have hr:row=[]:=Classical.byContradiction fun h=>z ⟨hl,h⟩;refine go [] [] (fun k=>by rw [enter,iQ]) (Zd2 L (List.take_append_drop nn l).symm (by rw [hr,hl]; simp) (fun p hp=>by rw [hl] at hp; simp at hp) rfl ⟨Nat.zero_le _,Nat.zero_le _⟩ (fun i h=>by rw [hr] at h; exact absurd h (Nat.not_lt_zero _)) fun p hp=>by rw [hl] at hp; simp at hp)
theorem Zpa (hc:OkC c) (hx:∀ y∈x.2.2.2,0<=y/\y<256) (hd:∀ y∈x.2.2.1,0<=y/\y<256):∃ l,Ev (fun k=>Q123.f k c x) l/\GoodT c l:=by
 obtain ⟨ks,⟨b1,e1⟩,g1⟩:=Zrq hc x;obtain ⟨l,⟨b2,e2⟩,g2⟩:=Zq9 hc hx hd (ks.length+1) ks [] [] [] (by simp) ⟨g1,rfl,rfl,by have:=g1.2.1; simp; omega,fun i h=>absurd h (Nat.not_lt_zero _),fun i h=>absurd h (Nat.not_lt_zero _),fun i=>⟨Nat.zero_le _,Nat.zero_le _⟩,fun i h=>absurd h (Nat.not_lt_zero _),fun i h=>absurd h (Nat.not_lt_zero _)⟩;refine ⟨l,⟨b1+b2,fun k hk=>?_⟩,g2⟩;show Q123.f k c x=_;unfold Q123.f;rw [show Q126.f k c x=_ from e1 k (by omega),bS];exact e2 k (by omega)
end
section
variable {c:Cfg} {N B n t q:Nat} {s:Shf} {L:List Nat} {K:Nat->List Int} {h:Nat->Bool} {l:Tre} {BL:Nat->Nat->Nat}
def Z2 (l:Tre) (BL:Nat->Nat->Nat) (k i:Nat):Nd:=((ndT l k i).1,(ndT l k i).2.1.map (fun x=>((BL (k - 1) (x.toNat - 1):Nat):Int)),(ndT l k i).2.2.1,(ndT l k i).2.2.2.1,(ndT l k i).2.2.2.2)
structure Spot (c:Cfg) (N:Nat) (K:Nat->List Int) (h:Nat->Bool) (b:Nat) (nd:Nd):Prop where
 b1:1<=b
 bN:b<N
 hb:h b=true
 rt:Ym c X9 nd=true
 kb:K b=Xv c nd
 kd:∀ x∈nd.2.1,0<=x/\x<4294967296
 sm:SmallN nd
theorem Spot.upd {b b':Nat} {nd:Nd} {v:T2} (S:Spot c N K h b nd) (e:b≠b'):Spot c N (upd K b' v) (upd h b' true) b nd:=⟨S.b1,S.bN,by rw [Yf e]; exact S.hb,S.rt,by rw [Yf e]; exact S.kb,S.kd,S.sm⟩
structure RowsB (c:Cfg) (N:Nat) (K:Nat->List Int) (h:Nat->Bool) (l:Tre) (kk:Nat) (BL:Nat->Nat->Nat):Prop where
 sp:∀ k j,k<kk->j<wd l k->Spot c N K h (BL k j) (Z2 l BL k j)
 inj:∀ k j k' j',k<kk->j<wd l k->k'<kk->j'<wd l k'->BL k j=BL k' j'->k=k'/\j=j'
structure RowAt (c:Cfg) (N:Nat) (K:Nat->List Int) (h:Nat->Bool) (l:Tre) (kk:Nat) (BL:Nat->Nat->Nat) (nw:List Nat):Prop where
 R:RowsB c N K h l kk BL
 sp:∀ j,j<nw.length->Spot c N K h (nw.getD j 0) (Z2 l BL kk j)
 nd:nw.Nodup
 out:∀ b∈nw,∀ k j,k<kk->j<wd l k->BL k j≠b
 held:∀ b,h b=true->b=0\/b∈nw\/∃ k j,k<kk/\j<wd l k/\BL k j=b
abbrev LR:=Int×Bool×Shf
def Zkn (c:Cfg) (N B n:Nat) (l:Tre) (R:LR):Prop:=R.2.1=false\/(R.2.1=true/\∃ BL t L K h,t<=1000/\ShK c N B n t R.2.2 L 0 K h/\RowsB c N K h l l.length BL/\R.1=((BL (l.length - 1) 0:Nat):Int)/\∀ b,h b=true->b=0\/∃ k j,k<l.length/\j<wd l k/\BL k j=b)
abbrev LD0 (k:Nat) (l:Tre) (s:Shf) (at':List Int) (kk:Int):Option LR:=Q122.l0 k l s.1 s.2.1.1 s.2.1.2.2.2.2 s.2.2.1 s.2.1.2.1 s.2.1.2.2.1 s.2.1.2.2.2.1 s.2.2.2 at' kk
abbrev LD1 (k:Nat) (l:Tre) (at':List Int) (kk:Int) (s:Shf) (nw:T2) (i:Int):Option LR:=Q122.l1 k l at' kk s.1 s.2.1.1 s.2.1.2.2.2.2 s.2.2.1 s.2.1.2.1 s.2.1.2.2.1 s.2.1.2.2.2.1 s.2.2.2 nw i
abbrev LD2 (k:Nat) (l:Tre) (at':List Int) (kk:Int) (s:Shf) (nw:T2) (i:Int) (own:T2) (j:Int) (b:Bool):Option LR:=Q122.l2 k l at' kk s.1 s.2.1.1 s.2.1.2.2.2.2 s.2.2.1 s.2.1.2.1 s.2.1.2.2.1 s.2.1.2.2.2.1 s.2.2.2 nw i own j b
abbrev LD3 (k:Nat) (l:Tre) (at':List Int) (kk:Int) (s:Shf) (nw:T2) (i:Int) (own:T2) (j:Int):Option LR:=Q122.l3 k l at' kk s.1 s.2.1.1 s.2.1.2.2.2.2 s.2.2.1 s.2.1.2.1 s.2.1.2.2.1 s.2.1.2.2.2.1 s.2.2.2 nw i own j
def Xr (BL:Nat->Nat->Nat) (k w:Nat):List Int:=(List.range w).map fun j=>((BL k j:Nat):Int)
theorem J5 {BL:Nat->Nat->Nat} {k w j:Nat} (h:j<w):(Xr BL k w).getD j default=((BL k j:Nat):Int):=by
 unfold Xr;rw [List.getD_eq_getElem?_getD,List.getElem?_map,List.getElem?_range h]; rfl
theorem Zme {LO HI:Nat->Nat->List UInt8} (G:Gro l LO HI) {k i:Nat} (hk:k<l.length) (hi:i<wd l k) (j:Nat) (hj:j<(ndT l k i).2.1.length):∃ y:Nat,(ndT l k i).2.1.getD j default=((y+1:Nat):Int)/\1<=k/\y<wd l (k - 1):=by
 cases k with
 | zero=>rw [(G.leaf i hi).2.1] at hj; exact absurd hj (Nat.not_lt_zero _)
 | succ k=>
  have nd:=G.nd hk hi;have hs:=Wn (row:=l.getD (k+1) default) hi;have hm:=Ux (row:=l.getD (k+1) default) (i:=i+1) (j:=wd l (k+1)) hi (Nat.le_refl _);rw [(G.row k hk).2.1,hs] at hm;have hm':stR (l.getD (k+1) default) i+(ndT l (k+1) i).2.1.length<=wd l k:=hm;exact ⟨stR (l.getD (k+1) default) i+j,by rw [nd.kid,List.getD_eq_getElem?_getD,List.getElem?_map,List.getElem?_range hj]; rfl,by omega,by show _<wd l k; omega⟩
theorem Zo0 {row:List Nd} {i:Nat} (h:i<row.length):∃ a b,V6 row=a ++ ((row.getD i default).2.2.2.2 ++ b):=by
 refine ⟨V6 (row.take i),V6 (row.drop (i+1)),?_⟩;have e:row=row.take i ++ row.getD i default :: row.drop (i+1):=by rw [<- Yu h,List.take_append_drop]
 conv=>lhs; rw [e]
 unfold V6;rw [List.flatMap_append,List.flatMap_cons]
theorem Zrd (hc:OkC c) (T:GoodT c l) {LO HI:Nat->Nat->List UInt8} (G:Gro l LO HI) {k i:Nat} (hk:k<l.length) (hi:i<wd l k) (BL:Nat->Nat->Nat):SmallN (Z2 l BL k i):=by
 cases k with
 | zero=>
  obtain ⟨_,g2,g3,g4,_⟩:=G.leaf i hi;obtain ⟨a,b,e⟩:=Zo0 hi;have hl:=T.lvs.2.1;rw [e,lA,lA] at hl;refine ⟨by unfold Z2; rw [g2]; exact Nat.zero_le _,by unfold Z2; rw [g3]; exact Nat.zero_le _,by unfold Z2; rw [g4]; exact Nat.zero_le _,by show (ndT l 0 i).2.2.2.2.length<=150; unfold ndT; omega,fun p hp=>?_,fun p hp=>?_,fun p hp=>?_⟩
  ·unfold Z2 at hp; rw [g3] at hp; cases hp
  ·unfold Z2 at hp; rw [g4] at hp; cases hp
  ·have:=Zcz hc (T.lvs.2.2 p (by rw [e]; exact List.mem_append.2 (.inr (List.mem_append.2 (.inl hp)))));omega
 | succ k=>
  have nd:=G.nd hk hi;have hf:=nd.fan;have hp:=nd.pvl;obtain ⟨b1,b2,b3⟩:=T.buf (k+1) i (by omega) hk hi;refine ⟨by unfold Z2; rw [length_map]; omega,by show (ndT l (k+1) i).2.2.1.length<=80; omega,by show (ndT l (k+1) i).2.2.2.1.length<=150; omega,by show (ndT l (k+1) i).2.2.2.2.length<=150; rw [nd.prs]; exact Nat.zero_le _,fun p hp=>?_,fun p hp=>?_,fun p hp=>?_⟩
  ·obtain ⟨j,hj,e⟩:=Ug hp [];rw [<- e];exact (nd.pv j hj).2.2
  ·have:=Zcz hc (b3 p hp).1;omega
  ·have hp':p∈(ndT l (k+1) i).2.2.2.2:=hp;rw [nd.prs] at hp'; cases hp'
theorem Zjb (T:GoodT c l) {LO HI:Nat->Nat->List UInt8} (G:Gro l LO HI) {kk i:Nat} (hk:kk<l.length) (hi:i<wd l kk) {at':List Int} (hat:1<=kk->at'=Xr BL (kk - 1) (wd l (kk - 1))) (s:Shf) (nw:T2):∀(m j:Nat) (own:T2),j+m=(ndT l kk i).2.1.length->own=((ndT l kk i).2.1.take j).map (fun x=>((BL (kk - 1) (x.toNat - 1):Nat):Int))->∀ k,LD3 (k+m+1) l at' (kk:Int) s nw (i:Int) own (j:Int)=LD2 k l at' (kk:Int) s nw (i:Int) ((ndT l kk i).2.1.map fun x=>((BL (kk - 1) (x.toNat - 1):Nat):Int)) (((ndT l kk i).2.1.length:Nat):Int) false
 | 0,j,own,hj,ho,k=>by
  have e:gt (gt l (kk:Int)) (i:Int)=ndT l kk i:=by rw [Zv,Zv]; rfl
  have hj':j=(ndT l kk i).2.1.length:=by omega
  subst hj';rw [List.take_length] at ho;subst ho;show Q122.l3 (k+1) l at' _ _ _ _ _ _ _ _ _ _ _ _ _=_;rw [Q122.l3,e,vS,dF]
 | m+1,j,own,hj,ho,k=>by
  have e:gt (gt l (kk:Int)) (i:Int)=ndT l kk i:=by rw [Zv,Zv]; rfl
  obtain ⟨y,ey,y1,y2⟩:=Zme G hk hi j (by omega);have hw:=T.wb (kk - 1) (by omega);have ha:=hat y1;have ol:own.length=j:=by rw [ho,length_map,length_take]; omega
  have hl:(ndT l kk i).2.1.length<=64:=by
   obtain ⟨z,rfl⟩:∃ z,kk=z+1:=⟨kk - 1,by omega⟩;exact (G.nd hk hi).fan
  have ih:=Zjb T G hk hi hat s nw m (j+1) (own ++ [((BL (kk - 1) y:Nat):Int)]) (by omega) (by
   rw [Znv (show j<(ndT l kk i).2.1.length by omega),List.map_append,<- ho,ey];rfl) k
  show Q122.l3 ((k+m+1)+1) l at' _ _ _ _ _ _ _ _ _ _ _ _ _=_;rw [Q122.l3,e,iP,iO,Zv,ey,show ((y+1:Nat):Int) - 1=(y:Int) by omega,Zk3 (by omega),iT (by rw [ha]; unfold Xr; rw [length_map,length_range]; omega),Zv,show at'.getD y default=((BL (kk - 1) y:Nat):Int) by rw [ha,J5 y2],iT (by rw [ol]; simp; omega),wS2];exact ih
theorem RowAt.done {kk:Nat} {nw:List Nat} (S:RowAt c N K h l kk BL nw) (hl:nw.length=wd l kk) {LO HI:Nat->Nat->List UInt8} (G:Gro l LO HI) (hk:kk<l.length):RowsB c N K h l (kk+1) (upd BL kk fun j=>nw.getD j 0):=by
 have old:∀ k,k<kk->upd BL kk (fun j=>nw.getD j 0) k=BL k:=fun k h=>Yf;refine ⟨fun k j hk' hj=>?_,fun k j k' j' hk1 hj hk2 hj' e=>?_⟩
 ·by_cases e:k<kk
  ·have:=S.R.sp k j e hj;unfold Z2 at this ⊢;rw [old k e,old (k - 1) (by omega)];exact this
  ·have e2:k=kk:=by omega
   subst e2;have:=S.sp j (by omega);rw [Z7];unfold Z2 at this ⊢;cases k with
   | zero=>rw [(G.leaf j hj).2.1] at this ⊢; exact this
   | succ k=>rw [old (k+1 - 1) (by omega)]; exact this
 ·by_cases e1:k<kk
  ·rw [old k e1] at e;by_cases e2:k'<kk
   ·rw [old k' e2] at e; exact S.R.inj k j k' j' e1 hj e2 hj' e
   ·have e3:k'=kk:=by omega
    subst e3;rw [Z7] at e;exact absurd e (S.out _ (Yw (by omega)) k j e1 hj)
  ·have e3:k=kk:=by omega
   subst e3;rw [Z7] at e;by_cases e2:k'<k
   ·rw [old k' e2] at e;exact absurd e.symm (S.out _ (Yw (by omega)) k' j' e2 hj')
   ·have e4:k'=k:=by omega
    subst e4;rw [Z7] at e;refine ⟨rfl,?_⟩;rw [Y5 (by omega),Y5 (by omega)] at e;exact (List.getElem_inj S.nd).1 e
theorem Zp2 (g:Geo c N B n) (T:GoodT c l) {LO HI:Nat->Nat->List UInt8} (G:Gro l LO HI) {kk:Nat} (hk:kk<l.length) {at':List Int} (hat:1<=kk->at'=Xr BL (kk - 1) (wd l (kk - 1)))
  (H:∀(s:Shf) (L:List Nat) (t:Nat) (K:Nat->List Int) (h:Nat->Bool) (BL:Nat->Nat->Nat),ShK c N B n t s L 0 K h->t<=151*(kk+1)->RowsB c N K h l (kk+1) BL->(∀ b,h b=true->b=0\/∃ k j,k<kk+1/\j<wd l k/\BL k j=b)->∃ R,Ev (fun k=>LD0 k l s (Xr BL kk (wd l kk)) ((kk+1:Nat):Int)) R/\Zkn c N B n l R) :
  ∀(m:Nat) (nw:List Nat) (s:Shf) (L:List Nat) (t:Nat) (K:Nat->List Int) (h:Nat->Bool),nw.length+m=wd l kk->ShK c N B n t s L 0 K h->t<=151*kk+nw.length->RowAt c N K h l kk BL nw->∃ R,Ev (fun k=>LD1 k l at' (kk:Int) s (nw.map fun(b:Nat)=>(b:Int)) ((nw.length:Nat):Int)) R/\Zkn c N B n l R:=by
 have hok:=Jw g.ok;have hw:=T.wb kk hk;have h6:=T.len;intro m
 induction m with
 | zero=>
  intro nw s L t K h hm S ht P;have e:nw.map (fun(b:Nat)=>(b:Int))=Xr (upd BL kk fun j=>nw.getD j 0) kk (wd l kk):=by
   unfold Xr;refine List.ext_getElem? fun j=>?_;rw [List.getElem?_map,List.getElem?_map];by_cases q:j<nw.length
   ·rw [List.getElem?_range (by omega),List.getElem?_eq_getElem q,Z7];show some _=some (((nw.getD j 0:Nat)):Int);rw [Y5 q]
   ·rw [List.getElem?_eq_none (by omega),List.getElem?_eq_none (by rw [length_range]; omega)]; rfl
  obtain ⟨R,⟨b0,hb⟩,r⟩:=H s L t K h (upd BL kk fun j=>nw.getD j 0) S (by omega) (P.done (by omega) G hk) fun b hb=>by
   rcases P.held b hb with z | z | ⟨k,j,z1,z2,z3⟩
   ·exact .inl z
   ·obtain ⟨j,hj,ej⟩:=Ug z 0;exact .inr ⟨kk,j,by omega,by omega,by rw [Z7]; exact ej⟩
   ·exact .inr ⟨k,j,by omega,z2,by rw [Yf]; exact z3⟩
  refine ⟨R,⟨b0+1,fun k hk2=>?_⟩,r⟩;obtain ⟨k,rfl⟩:=kS1 k;have hb':=hb k (by omega);show Q122.l1 (k+1) l at' _ _ _ _ _ _ _ _ _ _ _=_;rw [Q122.l1,iO,Zv,iF (by unfold wd at hm; simp only [dE]; omega),wS2,e];exact hb'
 | succ m ih=>
  intro nw s L t K h hm S ht P;have hi:nw.length<wd l kk:=by omega
  have sm:=Zrd hok T G hk hi BL;have kd:∀ x∈(Z2 l BL kk nw.length).2.1,0<=x/\x<4294967296:=fun x hx=>by
   obtain ⟨z,hz,rfl⟩:=List.mem_map.1 hx;obtain ⟨j,hj,e⟩:=Ug hz default;obtain ⟨y,ey,y1,y2⟩:=Zme G hk hi j hj;rw [<- e,ey,show ((y+1:Nat):Int).toNat - 1=y by omega];have:=(P.R.sp (kk - 1) y (by omega) y2).bN;have:=g.N5;omega
  have l3:=Zjb T G hk hi hat s (nw.map fun(b:Nat)=>(b:Int)) (ndT l kk nw.length).2.1.length 0 [] (by omega) rfl;have hi2:=hi;unfold wd at hi2;have enter:∀(r:Int×Int×Shf),Ev (fun k=>Q81.f k s (Z2 l BL kk nw.length)) r->∀ R,Ev (fun k=>if (!decide (r.2.1=0))=true then some (0,false,r.2.2) else LD1 k l at' (kk:Int) r.2.2 (nw.map (fun(b:Nat)=>(b:Int)) ++ [r.1]) ((nw.length+1:Nat):Int)) R->Ev (fun k=>LD1 k l at' (kk:Int) s (nw.map fun(b:Nat)=>(b:Int)) ((nw.length:Nat):Int)) R:=fun r hr R hR=>by
   obtain ⟨b1,e1⟩:=hr;obtain ⟨b2,e2⟩:=hR;refine ⟨b1+b2+(ndT l kk nw.length).2.1.length+3,fun k hk2=>?_⟩;obtain ⟨k,rfl⟩:∃ k2,k=k2+1+(ndT l kk nw.length).2.1.length+1+1:=⟨k - 3 - (ndT l kk nw.length).2.1.length,by omega⟩;have hl3:=l3 (k+1);have e:gt (gt l (kk:Int)) ((nw.length:Nat):Int)=ndT l kk nw.length:=by rw [Zv,Zv]; rfl
   show Q122.l1 ((k+1+(ndT l kk nw.length).2.1.length+1)+1) l at' _ _ _ _ _ _ _ _ _ _ _=_;rw [Q122.l1,iO,Zv,iP,iO];refine hl3.trans ?_;show Q122.l2 (k+1) l at' _ _ _ _ _ _ _ _ _ _ _ _ _ _=_;rw [Q122.l2,e];show Option.bind (Q81.f k s (Z2 l BL kk nw.length)) _=_;rw [show Q81.f k s (Z2 l BL kk nw.length)=_ from e1 k (by omega),bS];have e2':=e2 k (by omega);dsimp only at e2';by_cases q0:(!decide (r.2.1=0))=true
   ·rw [iT q0] at e2' ⊢; exact e2'
   ·rw [iF q0] at e2' ⊢;rw [iV,wS2];exact e2'
  rcases Zsb g S (by omega) ⟨sm,kd⟩ with ⟨_,hm1⟩ | ⟨_,_,hm1⟩ | ⟨hr,b,s',L',b1,bN,bf,_,hm1,S',_⟩
  ·exact ⟨_,enter _ hm1 _ ⟨0,fun k _=>iU⟩,.inl rfl⟩
  ·exact ⟨_,enter _ hm1 _ ⟨0,fun k _=>iU⟩,.inl rfl⟩
  ·have ne:∀ x,h x=true->x≠b:=fun x hx e=>by rw [e,bf] at hx; cases hx
   have P':RowAt c N (upd K b (Xv c (Z2 l BL kk nw.length))) (upd h b true) l kk BL (nw ++ [b]):=by
    refine ⟨⟨fun k j z1 z2=>(P.R.sp k j z1 z2).upd (ne _ (P.R.sp k j z1 z2).hb),P.R.inj⟩,fun j hj=>?_,?_,fun y hy k j z1 z2=>?_,fun y hy=>?_⟩
    ·rw [lA] at hj;by_cases q:j<nw.length
     ·rw [Yl q]; exact (P.sp j q).upd (ne _ (P.sp j q).hb)
     ·have ej:j=nw.length:=by simp at hj; omega
      rw [Yp ej,ej];exact ⟨b1,bN,Z7 _ _ _,hr,Z7 _ _ _,kd,sm⟩
    ·rw [List.nodup_append];refine ⟨P.nd,by simp,fun y hy z hz=>?_⟩;rw [List.mem_singleton.1 hz];obtain ⟨j,hj,ej⟩:=Ug hy 0;have:=ne _ (P.sp j hj).hb
     rwa [ej] at this
    ·rcases List.mem_append.1 hy with z | z
     ·exact P.out y z k j z1 z2
     ·rw [List.mem_singleton.1 z]; exact ne _ (P.R.sp k j z1 z2).hb
    ·by_cases q:y=b
     ·exact .inr (.inl (by rw [q]; simp))
     ·rw [Yf q] at hy;rcases P.held y hy with z | z | z
      ·exact .inl z
      ·exact .inr (.inl (List.mem_append.2 (.inl z)))
      ·exact .inr (.inr z)
   obtain ⟨R,hR,r⟩:=ih (nw ++ [b]) s' L' (t+1) _ _ (by simp; omega) S' (by simp; omega) P';refine ⟨R,enter _ hm1 R ?_,r⟩;obtain ⟨b0,hb⟩:=hR;refine ⟨b0,fun k hk2=>?_⟩;have hb':=hb k hk2;rw [List.map_append,lA] at hb';show (if (!decide ((0:Int)=0))=true then _ else _)=_
   rw [vS];exact hb'
theorem Zpy (g:Geo c N B n) (T:GoodT c l) {LO HI:Nat->Nat->List UInt8} (G:Gro l LO HI):∀(m kk:Nat) (s:Shf) (L:List Nat) (t:Nat) (K:Nat->List Int) (h:Nat->Bool) (BL:Nat->Nat->Nat) (at':List Int),kk+m=l.length->ShK c N B n t s L 0 K h->t<=151*kk->RowsB c N K h l kk BL->(∀ b,h b=true->b=0\/∃ k j,k<kk/\j<wd l k/\BL k j=b)->(1<=kk->at'=Xr BL (kk - 1) (wd l (kk - 1)))->∃ R,Ev (fun k=>LD0 k l s at' (kk:Int)) R/\Zkn c N B n l R:=by
 have hne:=G.ne;have h6:=T.len;intro m
 induction m with
 | zero=>
  intro kk s L t K h BL at' hm S ht P hh hat
  have ek:kk=l.length:=by omega
  subst ek;have ha:=hat hne;have top:=T.top;have hl:at'.length=1:=by rw [ha]; unfold Xr; rw [length_map,length_range,top]
  refine ⟨(((BL (l.length - 1) 0:Nat):Int),true,s),⟨1,fun k hk=>?_⟩,.inr ⟨rfl,BL,t,L,K,h,by omega,S,P,rfl,hh⟩⟩;obtain ⟨k,rfl⟩:=kS1 k;show Q122.l0 (k+1) l _ _ _ _ _ _ _ _ at' _=_;rw [Q122.l0,vS,iO,show gt at' 0=at'.getD 0 default from Zv at' 0,ha,J5 (by omega)]
 | succ m ih=>
  intro kk s L t K h BL at' hm S ht P hh hat
  obtain ⟨R,⟨b0,hb⟩,r⟩:=Zp2 g T G (kk:=kk) (by omega) hat (fun s L t K h BL' S' ht' P' hh'=>ih (kk+1) s L t K h BL' _ (by omega) S' ht' P' hh' fun _=>rfl) (wd l kk) [] s L t K h (by simp) S (by simpa using ht) ⟨P,fun j hj=>absurd hj (Nat.not_lt_zero _),List.nodup_nil,fun b hb=>by simp at hb,fun b hb=>by
   rcases hh b hb with z | z
   ·exact .inl z
   ·exact .inr (.inr z)⟩
  refine ⟨R,⟨b0+1,fun k hk=>?_⟩,r⟩;obtain ⟨k,rfl⟩:=kS1 k;show Q122.l0 (k+1) l _ _ _ _ _ _ _ _ at' _=_;rw [Q122.l0,iP];exact hb k (by omega)
end
theorem Zl8 (c:Cfg) {k:Nat} (hk:2000<k):Q121.f k c=some (okB c && (decide (c.2.1<=3000) && decide (c.1<=400))):=by
 unfold Q121.f;rw [Zlh c hk,bS];cases okB c with
 | false=>rw [iF (by decide)]; rfl
 | true=>
  rw [iT rfl];by_cases q:c.2.1<=3000
  ·rw [iT (dT q),dT q]; rfl
  ·rw [iF (by simpa using q),dF q]; rfl
theorem Zsa {c:Cfg} (h:(okB c && (decide (c.2.1<=3000) && decide (c.1<=400)))=true):∃ N B n:Nat,Geo c N B n/\N<=400/\B<=3000:=by
 simp only [Bool.and_eq_true,dE] at h;obtain ⟨hok,h1,h2⟩:=h;have hc:=hok;unfold okB at hc;simp only [Bool.and_eq_true,dE] at hc;obtain ⟨_,hN,hn,hB,_⟩:=hc;obtain ⟨N,eN⟩:=Int.eq_ofNat_of_zero_le (show 0<=c.1 by omega);obtain ⟨B,eB⟩:=Int.eq_ofNat_of_zero_le (show 0<=c.2.1 by omega);obtain ⟨n,en⟩:=Int.eq_ofNat_of_zero_le (show 0<=c.2.2.1 by omega);have hNB:N*B<=400*3000:=Nat.mul_le_mul (by omega) (by omega);exact ⟨N,B,n,⟨hok,⟨by omega,by omega,by omega,by omega,by omega⟩,by omega,by omega,by omega,eN,eB,en⟩,by omega,by omega⟩
abbrev SR:=Option Shf×Int×Tre×Bool
structure StdI (c:Cfg) (s:Shf) (root:Int) (l:Tre) (N B n t:Nat) (L:List Nat) (K:Nat->List Int) (h:Nat->Bool) (BL:Nat->Nat->Nat):Prop where
 g:Geo c N B n
 N4:N<=400
 T:GoodT c l
 t1:t<=1000
 S:ShK c N B n t s L 0 K h
 P:RowsB c N K h l l.length BL
 rt:root=((BL (l.length - 1) 0:Nat):Int)
 held:∀ b,h b=true->b=0\/∃ k j,k<l.length/\j<wd l k/\BL k j=b
def B4 (c:Cfg) (R:SR):Prop:=R.2.2.2=false\/(R.2.2.2=true/\∃ s N B n t L K h BL,R.1=some s/\StdI c s R.2.1 R.2.2.1 N B n t L K h BL)
section
variable {c:Cfg} {N B n:Nat} {x:Spc}
theorem Zhh (g:Geo c N B n) (hN:N<=400) (hx:∀ y∈x.2.2.2,0<=y/\y<256) (hd:∀ y∈x.2.2.1,0<=y/\y<256) {ch:Chn} (hc:ChI n ch []):∀(m j:Nat),j+m=n->∃ R,Ev (fun k=>Q124.l2 k c x ((B:Int),List.replicate (N*B) 0,(0,0)) ch ((List.range j).map fun(i:Nat)=>(i:Int)) (j:Int)) R/\B4 c R
 | 0,j,hj=>by
  have e:j=n:=by omega
  subst e;have h64:=g.z.h64;obtain ⟨p,ep,bp⟩:=Zoe g.N5.1 g.N5.2;obtain ⟨l,⟨b1,e1⟩,T⟩:=Zpa (Jw g.ok) hx hd;obtain ⟨LO,HI,G⟩:=T.gro;have hne:=G.ne;obtain ⟨R,⟨b2,e2⟩,r⟩:=Zpy g T G l.length 0 (Zep c N B j ch p) [] 0 _ _ (fun _ _=>0) [] (by omega) (Zsw g hc bp) (by omega) ⟨fun k j h=>absurd h (Nat.not_lt_zero _),fun k j _ _ h=>absurd h (Nat.not_lt_zero _)⟩ (fun b hb=>by
   by_cases q:b=0
   ·exact .inl q
   ·rw [Yf q] at hb; cases hb) (fun h=>by omega)
  have eb:=Jn (s:=(0,0)) (N:=N) (n:=B) g.z.hB (img:=List.replicate (N*B) 0) (by simp) g.z.hNB;refine ⟨(some R.2.2,R.1,l,R.2.1),⟨b1+b2+1,fun k hk=>?_⟩,?_⟩
  ·obtain ⟨k,rfl⟩:=kS1 k;have e2':=e2 k (by omega);show Q124.l2 (k+1) c x _ _ _ _=_;rw [Q124.l2,g.en,vS,eb,bS,g.eN,vS,Q51.f,bS,g.eB,vS,ep,bS];dsimp only [Vo];rw [iU,show Q123.f k c x=_ from e1 k (by omega),bS,tN];have e3:Q122.f k (c,(((B:Int),List.replicate (N*B) 0,(0,0)),List.replicate j (0,[],false,0),[],(List.range j).map (fun(i:Nat)=>(i:Int)),ch),p,0) l=some R:=e2';rw [e3,bS]
  ·rcases r with q | ⟨q,BL,t,L,K,h,t1,S,P,rt,hh⟩
   ·exact .inl q
   ·exact .inr ⟨q,R.2.2,N,B,j,t,L,K,h,BL,rfl,g,hN,T,t1,S,P,rt,hh⟩
 | m+1,j,hj=>by
  have h64:=g.z.h64;obtain ⟨R,⟨k0,hk⟩,r⟩:=Zhh g hN hx hd hc m (j+1) (by omega);refine ⟨R,⟨k0+1,fun k hk2=>?_⟩,r⟩;obtain ⟨k,rfl⟩:=kS1 k;have hx:=hk k (by omega);show Q124.l2 (k+1) c x _ _ _ _=_;rw [Q124.l2,g.en,iP,iV,wS2];dsimp only at hx;rw [List.range_succ,List.map_append] at hx;exact hx
theorem Zn1 (g:Geo c N B n) (hN:N<=400) (hB:B<=3000) (hx:∀ y∈x.2.2.2,0<=y/\y<256) (hd:∀ y∈x.2.2.1,0<=y/\y<256):∃ R,(∀(a:Int) (b:Bool),Ev (fun k=>Q124.l1 k c x a b) R)/\B4 c R:=by
 obtain ⟨ch,ec,hch⟩:=Zsx (n:=n) g.z.hn g.z.h64;obtain ⟨R,⟨k0,hk⟩,r⟩:=Zhh g hN hx hd hch n 0 (by omega);have eb:=Jn (s:=(0,0)) (N:=N) (n:=B) g.z.hB (img:=List.replicate (N*B) 0) (by simp) g.z.hNB;have h5:=g.N5;have h8:=g.n8;have h64:=g.z.h64;refine ⟨R,fun a b=>⟨k0+1,fun k hk2=>?_⟩,r⟩;obtain ⟨k,rfl⟩:=kS1 k;have hx:=hk k (by omega);show Q124.l1 (k+1) c x a b=_;rw [Q124.l1,g.eN,g.eB,Zqd ⟨g.N5.1,g.N5.2,g.z.hB,g.hB⟩,bS];dsimp only [Vo];rw [iU,show Q45.f c=_ from Zdq c,iT g.ok,bS,vS,eb,bS,iN,g.en,iN,iN,ec,bS];dsimp only [Vo];rw [iU,iO];exact hx
theorem Zm7 {R:SR} (r:B4 c R) (hR:∀(a:Int) (b:Bool),Ev (fun k=>Q124.l1 k c x a b) R):∀(m i:Nat),i+m=100->∃ R,Ev (fun k=>Q124.l3 k c x (i:Int)) R/\B4 c R:=by
 have stop:∀ i:Nat,¬ (i<x.2.1.length/\i<100)->∃ R,Ev (fun k=>Q124.l3 k c x (i:Int)) R/\B4 c R:=fun i h=>by
  obtain ⟨b0,hb⟩:=hR (i:Int) false;refine ⟨R,⟨b0+2,fun k hk=>?_⟩,r⟩;obtain ⟨k,rfl⟩:=kS2 k;show Q124.l3 (k+2) c x (i:Int)=_;rw [Q124.l3];by_cases q:i<x.2.1.length
  ·rw [iP,dF,Q124.l4,vS]; exact hb k (by omega)
  ·rw [iN,Q124.l4,vS]; exact hb k (by omega)
 intro m
 induction m with
 | zero=>intro i hi; exact stop i (by omega)
 | succ m ih=>
  intro i hi;by_cases q:i<x.2.1.length
  ·have step:∀ k,Q124.l3 (k+2) c x (i:Int)=if decide (200<((x.2.1.getD i default).1.length:Int))=true then some (none,0,[],false) else Q124.l3 k c x ((i+1:Nat):Int):=fun k=>by
    rw [Q124.l3,iP,dT,Q124.l4,iT rfl,iO,Zv,wS2]
   by_cases z:200<((x.2.1.getD i default).1.length:Int)
   ·refine ⟨(none,0,[],false),⟨2,fun k hk=>?_⟩,.inl rfl⟩;obtain ⟨k,rfl⟩:=kS2 k;show Q124.l3 (k+2) c x (i:Int)=_;rw [step,iT (dT z)]
   ·obtain ⟨R',⟨b0,hb⟩,r'⟩:=ih (i+1) (by omega);refine ⟨R',⟨b0+2,fun k hk=>?_⟩,r'⟩;obtain ⟨k,rfl⟩:=kS2 k;show Q124.l3 (k+2) c x (i:Int)=_;rw [step,iF (by simpa using z)];exact hb k (by omega)
  ·exact stop i (by omega)
theorem Znt {R:SR} (r:B4 c R) (hR:Ev (fun k=>Q124.l3 k c x 0) R):∀(m i:Nat),i+m=150->∃ R,Ev (fun k=>Q124.l5 k c x (i:Int)) R/\B4 c R:=by
 have stop:∀ i:Nat,¬ (i<x.1.length/\i<150)->∃ R,Ev (fun k=>Q124.l5 k c x (i:Int)) R/\B4 c R:=fun i h=>by
  obtain ⟨b0,hb⟩:=hR;refine ⟨R,⟨b0+3,fun k hk=>?_⟩,r⟩;obtain ⟨k,rfl⟩:=kS3 k;show Q124.l5 (k+3) c x (i:Int)=_;rw [Q124.l5];by_cases q:i<x.1.length
  ·rw [iP,dF,Q124.l6,vS,Q124.l0]; exact hb k (by omega)
  ·rw [iN,Q124.l6,vS,Q124.l0]; exact hb k (by omega)
 intro m
 induction m with
 | zero=>intro i hi; exact stop i (by omega)
 | succ m ih=>
  intro i hi;by_cases q:i<x.1.length
  ·have step:∀ k,Q124.l5 (k+2) c x (i:Int)=if decide (200<((x.1.getD i default).1.length:Int))=true then some (none,0,[],false) else Q124.l5 k c x ((i+1:Nat):Int):=fun k=>by
    rw [Q124.l5,iP,dT,Q124.l6,iT rfl,iO,Zv,wS2]
   by_cases z:200<((x.1.getD i default).1.length:Int)
   ·refine ⟨(none,0,[],false),⟨2,fun k hk=>?_⟩,.inl rfl⟩;obtain ⟨k,rfl⟩:=kS2 k;show Q124.l5 (k+2) c x (i:Int)=_;rw [step,iT (dT z)]
   ·obtain ⟨R',⟨b0,hb⟩,r'⟩:=ih (i+1) (by omega);refine ⟨R',⟨b0+2,fun k hk=>?_⟩,r'⟩;obtain ⟨k,rfl⟩:=kS2 k;show Q124.l5 (k+2) c x (i:Int)=_;rw [step,iF (by simpa using z)];exact hb k (by omega)
  ·exact stop i (by omega)
theorem Zq6 (hx:∀ y∈x.2.2.2,0<=y/\y<256) (hd:∀ y∈x.2.2.1,0<=y/\y<256):∃ R,Ev (fun k=>Q124.f k c x) R/\B4 c R:=by
 by_cases light:(okB c && (decide (c.2.1<=3000) && decide (c.1<=400)))=true
 ·obtain ⟨N,B,n,g,hN,hB⟩:=Zsa light;obtain ⟨R,hR,r⟩:=Zn1 g hN hB hx hd;obtain ⟨R,hR,r⟩:=Zm7 r hR 100 0 (by omega);obtain ⟨R,⟨b0,hb⟩,r⟩:=Znt r hR 150 0 (by omega);refine ⟨R,⟨b0+3000,fun k hk=>?_⟩,r⟩;show Q124.f k c x=_;unfold Q124.f;rw [Zl8 c (by omega),light,bS,vS];exact hb k (by omega)
 ·refine ⟨(none,0,[],false),⟨3000,fun k hk=>?_⟩,.inl rfl⟩;show Q124.f k c x=some (none,0,[],false);unfold Q124.f;rw [Zl8 c (by omega),Bool.eq_false_iff.2 light,bS,iT (show (!false)=true from rfl)]
end
section
variable {c:Cfg} {N B n t q:Nat} {s:Shf} {L:List Nat} {K:Nat->List Int} {h:Nat->Bool} {l:Tre} {BL:Nat->Nat->Nat} {LO HI:Nat->Nat->List UInt8}
theorem Zkr (g:Geo c N B n) (S:ShK c N B n t s L q K h) (ht:t<=800000) {b:Nat} {nd:Nd} (P:Spot c N K h b nd):∃(s':Shf) (L':List Nat),Ev (fun k=>Q80.f k s (b:Int)) (nd,0,s')/\ShK c N B n (t+1) s' L' q K h/\MC.To 1 1 (Z6 s.2.1 L) (Z6 s'.2.1 L')/\(b=q->MC.To 0 0 (Z6 s.2.1 L) (Z6 s'.2.1 L')):=by
 have:=g.N5;have hb:=P.bN;obtain ⟨s',L',e,r⟩:=Zoh g S ht (i:=b) (by omega);rw [iT ⟨P.b1,hb⟩,P.kb,Zao g.ok P.kd P.rt] at e;exact ⟨s',L',e,r⟩
theorem Zre (T:GoodT c l) (G:Gro l LO HI) (k:Nat) (hk:k<l.length) (x:TY):dn l x (l.length - 1 - k)<wd l k:=by
 have:=G.dn_lt T.top x (l.length - 1 - k) (by omega)
 rwa [show l.length - 1 - (l.length - 1 - k)=k by omega] at this
end
section
variable {c:Cfg} {l:Tre} {BL:Nat->Nat->Nat} {LO HI:Nat->Nat->List UInt8}
end
theorem Ze2:∀ {M S:List Nat},M.Nodup->(∀ x∈M,x∈S)->M.length<=S.length
 | [],S,_,_=>Nat.zero_le _
 | a :: M,S,h,hs=>by
  obtain ⟨h1,h2⟩:=List.nodup_cons.1 h;have ha:=hs a List.mem_cons_self;have:=Ze2 (S:=S.erase a) h2 fun p hp=>(List.mem_erase_of_ne (fun e=>h1 (by rw [<- e]; exact hp))).2 (hs p (List.mem_cons_of_mem _ hp));rw [List.length_erase_of_mem ha] at this;have:=List.length_pos_of_mem ha;rw [length_cons]; omega
theorem Gi {α:Type} {d:α} (x:Int) (v:α) (y:Int):∀ m:List (Int×α),Zm d (Yz x v m) y=if y=x then v else Zm d m y
 | []=>by
  rw [Yz,Zm,Zm,Zm];by_cases q:y=x
  ·rw [iT q]; simp [q]
  ·rw [iF q]; simp; intro z; exact absurd z.symm q
 | (a,b) :: m=>by
  rw [Yz];by_cases q:a=x
  ·subst q;simp only [decide_true,if_true,Zm];by_cases w:y=a
   ·subst w; simp
   ·rw [iF w]; simp [show ¬ a=y from fun e=>w e.symm]
  ·simp only [q,decide_false,Zm];rw [vS];rw [Zm,Gi x v y m];by_cases w:a=y
   ·subst w; simp [q]
   ·simp [w]
abbrev Mp:=List T0
def MOk (N:Nat) (m:Mp):Prop:=∃ B:List Nat,B.Nodup/\(∀ b∈B,b<N)/\m=B.map fun(b:Nat)=>((b:Int),true)
theorem MOk.len {N:Nat} {m:Mp} (h:MOk N m):m.length<=N:=by
 obtain ⟨B,h1,h2,rfl⟩:=h;have:=Ze2 (S:=List.range N) h1 fun x hx=>List.mem_range.2 (h2 x hx);rw [length_range] at this;rw [length_map]; exact this
theorem Zi7 {b:Nat}:∀ {B:List Nat},b∉B->Yz (b:Int) true (B.map fun(b:Nat)=>((b:Int),true))=(B ++ [b]).map fun(b:Nat)=>((b:Int),true)
 | [],_=>rfl
 | a :: B,h=>by
  rw [List.mem_cons,not_or] at h;rw [List.map_cons,Yz,iW,Zi7 h.2];rfl
theorem map_get {b:Nat}:∀ {B:List Nat},Zm false (B.map fun(b:Nat)=>((b:Int),true)) (b:Int)=true↔b∈B
 | []=>⟨fun z=>Bool.noConfusion (show false=true from z),fun z=>by cases z⟩
 | a :: B=>by
  rw [List.map_cons,Zm,List.mem_cons];by_cases q:a=b
  ·subst q; simp
  ·rw [iW,map_get];exact ⟨.inr,fun z=>z.resolve_left fun e=>q e.symm⟩
theorem MOk.put {N:Nat} {m:Mp} (h:MOk N m) {b:Nat} (hb:b<N) (hm:Zm false m (b:Int)=false):MOk N (Yz (b:Int) true m)/\(Yz (b:Int) true m).length=m.length+1:=by
 obtain ⟨B,h1,h2,rfl⟩:=h;have nb:b∉B:=fun z=>by rw [map_get.2 z] at hm; cases hm
 rw [Zi7 nb];refine ⟨⟨B ++ [b],List.nodup_append.2 ⟨h1,by simp,fun x hx y hy=>by rw [List.mem_singleton.1 hy]; exact fun e=>nb (by rw [<- e]; exact hx)⟩,fun x hx=>?_,rfl⟩,by simp⟩;rcases List.mem_append.1 hx with q | q
 ·exact h2 x q
 ·rw [List.mem_singleton.1 q]; exact hb
section
variable {c:Cfg} {N B n q:Nat} {K:Nat->List Int} {h:Nat->Bool} {α:Type}
def Zbp (nd:Nd) (p:Sp) (g:Nat->Sp->Mp->Bool×Mp):Nat->Nat->Mp->Bool×Mp
 | 0,_,m=>(true,m)
 | r+1,j,m=>if Zm false m (nd.2.1.getD j default)=true then (false,m) else if (g (nd.2.1.getD j default).toNat (U2 (Jb nd.2.2.1 j) p).1 m).1=true then Zbp nd p g r (j+1) (g (nd.2.1.getD j default).toNat (U2 (Jb nd.2.2.1 j) p).1 m).2 else (false,(g (nd.2.1.getD j default).toNat (U2 (Jb nd.2.2.1 j) p).1 m).2)
def dfs (c:Cfg) (nd:Nat->Nd):Nat->Nat->Sp->Mp->Bool×Mp
 | 0,b,p,m=>if (nd b).1=0/\Ym c p (nd b)=true then (true,Yz (b:Int) true m) else (false,m)
 | k+1,b,p,m=>if (nd b).1=((k+1:Nat):Int)/\Ym c p (nd b)=true then Zbp (nd b) p (dfs c nd k) (nd b).2.1.length 0 (Yz (b:Int) true m) else (false,m)
structure DA (c:Cfg) (N:Nat) (K:Nat->List Int) (A:Nat->Nat->Prop) (nd:Nat->Nd):Prop where
 b1:∀ k b,A k b->1<=b/\b<N
 kb:∀ k b,A k b->K b=Xv c (nd b)
 kd:∀ k b,A k b->∀ x∈(nd b).2.1,0<=x/\x<4294967296
 rt:∀ k b,A k b->Ym c X9 (nd b)=true
 kid:∀ k b,A (k+1) b->(nd b).1=((k+1:Nat):Int)->∀ x∈(nd b).2.1,A k x.toNat
structure VisD (α:Type) (Inv:α->Mp->Prop) (V:Nat->Shf×Mp×Bool->Int->Int->Sp->α->Option (Int×α×Shf×Mp×Bool)) (G:Nat->Sp->Nd×Int×Shf->Shf->α->Mp->Bool->Int->Option (Int×α×Shf×Mp×Bool)):Prop where
 hV:∀(m:Mp) (i:Int) (p:Sp) (o:α) (nd:Nd),Zm false m i=false->Inv o m->∃ o',Inv o' (Yz i true m)/\∀(f:Nat) (s:Shf) (lv:Int) (s':Shf) (r:Bool),Q80.f (f+2) s i=some (nd,0,s')->(lv=-1\/lv=nd.1/\0<=lv)->Q66.f (f+2) s'.1 p nd=some r->Q64.f nd=some nd->V (f+3) (s,m,false) i lv p o=if r=true then G f p (nd,0,s') s' o' (Yz i true m) false 0 else some (12,o,s',m,false)
 hV2:∀(f:Nat) (s:Shf) (m:Mp) (i lv:Int) (p:Sp) (o:α) (nd:Nd) (s':Shf),Q80.f f s i=some (nd,0,s')->Zm false m i=false->0<=lv->nd.1≠lv->V (f+1) (s,m,false) i lv p o=some (12,o,s',m,false)
 hG:∀(f:Nat) (p:Sp) (r1:Nd×Int×Shf) (s:Shf) (o:α) (m:Mp) (j:Int),G (f+1) p r1 s o m false j=if decide (j<(r1.1.2.1.length:Int))=true then (if 0<=j/\j<(r1.1.2.1.length:Int) then ((Q57.f r1.1.2.2.1 j p).bind fun r6=>if Zm false m (gt r1.1.2.1 j)=true then some (12,o,s,m,false) else ((V f (s,m,false) (gt r1.1.2.1 j) (w64 (r1.1.1 - 1)) r6.1 o).bind fun r7=>if (!decide (r7.1=0))=true then some r7 else G f p r1 r7.2.2.1 r7.2.1 r7.2.2.2.1 r7.2.2.2.2 (w64 (j+1)))) else none) else some (0,o,s,m,false)
variable {Inv:α->Mp->Prop} {V:Nat->Shf×Mp×Bool->Int->Int->Sp->α->Option (Int×α×Shf×Mp×Bool)} {G:Nat->Sp->Nd×Int×Shf->Shf->α->Mp->Bool->Int->Option (Int×α×Shf×Mp×Bool)} {A:Nat->Nat->Prop} {nd:Nat->Nd}
theorem DA.small (D:DA c N K A nd) (hc:OkC c) {k b:Nat} (hb:A k b):(nd b).2.1.length<=64/\(nd b).2.2.1.length<=64/\(nd b).2.2.2.1.length<=512/\(nd b).2.2.2.2.length<=1024/\0<=(nd b).1/\(nd b).1<=40/\((nd b).1=0->(nd b).2.1=[])/\((nd b).1≠0->(nd b).2.2.1.length+1=(nd b).2.1.length):=by
 have hn:=Jp hc (D.kd k b hb) (D.rt k b hb);have h9:=hc.nat
 have lv:=hn.lv;by_cases z:(nd b).1=0
 ·have ho:=hn.o z;have:=ho.2.2.2;refine ⟨by rw [ho.1]; simp,by rw [ho.2.1]; simp,by rw [ho.2.2.1]; simp,by omega,lv.1,lv.2,fun _=>ho.1,fun w=>absurd z w⟩
 ·have hi:=hn.i z;refine ⟨by omega,by omega,by omega,by rw [hi.1]; simp,lv.1,lv.2,fun w=>absurd w z,fun _=>hi.2.2.2.1⟩
theorem DA.ev (D:DA c N K A nd) (hc:OkC c) {k b:Nat} (hb:A k b) (p:Sp):Ev (fun f=>Q66.f f c p (nd b)) (Ym c p (nd b))/\Q64.f (nd b)=some (nd b):=by
 obtain ⟨s1,s2,s3,s4,_⟩:=D.small hc hb;refine ⟨Zd0 (by omega) (by omega) (by omega) (by omega) (D.kd k b hb),?_⟩;unfold Q64.f;rw [Zhf (by omega),Zir (by omega),Zj9 (by omega),Zix (by omega)];rfl
theorem DA.load (g:Geo c N B n) (D:DA c N K A nd) {s:Shf} {L:List Nat} {t:Nat} (S:ShK c N B n t s L q K h) (ht:t<=800000) {k b:Nat} (hb:A k b):∃(s':Shf) (L':List Nat),Ev (fun f=>Q80.f f s (b:Int)) (nd b,0,s')/\ShK c N B n (t+1) s' L' q K h:=by
 have:=g.N5;obtain ⟨b1,bN⟩:=D.b1 k b hb;obtain ⟨s',L',e,r,_⟩:=Zoh g S ht (i:=b) (by omega);rw [iT ⟨b1,bN⟩,D.kb k b hb,Zao g.ok (D.kd k b hb) (D.rt k b hb)] at e;exact ⟨s',L',e,r⟩
def Res (c:Cfg) (N B n q:Nat) (K:Nat->List Int) (h:Nat->Bool) (Inv:α->Mp->Prop) (F:Nat->Option (Int×α×Shf×Mp×Bool)) (t:Nat) (m:Mp) (R:Bool×Mp):Prop:=∃ s' L' t' o',Ev F (if R.1=true then 0 else 12,o',s',R.2,false)/\ShK c N B n t' s' L' q K h/\t'+m.length<=t+R.2.length+1/\(R.1=true->t'+m.length<=t+R.2.length)/\Inv o' R.2/\MOk N R.2/\m.length<=R.2.length
theorem Zru (X:VisD α Inv V G) (hc:OkC c) (D:DA c N K A nd) {b:Nat} {k:Nat} (hb:A (k+1) b) (hk:(nd b).1=((k+1:Nat):Int)) (p:Sp) {r1:Nd×Int×Shf} (er:r1.1=nd b)
  (IH:∀(x:Nat) (s:Shf) (L:List Nat) (t:Nat) (p:Sp) (m:Mp) (o:α),A k x->Inv o m->MOk N m->Zm false m (x:Int)=false->ShK c N B n t s L q K h->t+2*(N - m.length)+3<=800000->Res c N B n q K h Inv (fun f=>V f (s,m,false) (x:Int) (k:Int) p o) t m (dfs c nd k x p m)) :
  ∀(rem j:Nat) (s:Shf) (L:List Nat) (t:Nat) (m:Mp) (o:α),j+rem=(nd b).2.1.length->Inv o m->MOk N m->ShK c N B n t s L q K h->t+2*(N - m.length)+3<=800000->Res c N B n q K h Inv (fun f=>G f p r1 s o m false (j:Int)) t m (Zbp (nd b) p (dfs c nd k) rem j m):=by
 obtain ⟨s1,s2,_,_,l0,l1,_,s5⟩:=D.small hc hb;have pl:=s5 (by omega);intro rem
 induction rem with
 | zero=>
  intro j s L t m o hj hI hM S ht;refine ⟨s,L,t,o,⟨1,fun f hf=>?_⟩,S,by show t+m.length<=t+m.length+1; omega,fun _=>Nat.le_refl _,hI,hM,Nat.le_refl _⟩;obtain ⟨f,rfl⟩:=kS1 f;show G (f+1) p r1 s o m false (j:Int)=_;rw [X.hG,er,iN];rfl
 | succ rem ih=>
  intro j s L t m o hj hI hM S ht;have hml:=hM.len;obtain ⟨x,ex⟩:∃ x:Nat,(nd b).2.1.getD j default=(x:Int):=by
   have:=(D.kd (k+1) b hb _ (Yw (d:=default) (show j<(nd b).2.1.length by omega))).1;exact Int.eq_ofNat_of_zero_le this
  have hx:A k x:=by
   have:=D.kid k b hb hk _ (Yw (d:=default) (show j<(nd b).2.1.length by omega))
   rwa [ex,tN] at this
  have step:∀ f,G (f+1) p r1 s o m false (j:Int)=if Zm false m (x:Int)=true then some (12,o,s,m,false) else (V f (s,m,false) (x:Int) (k:Int) (U2 (Jb (nd b).2.2.1 j) p).1 o).bind fun r7=>if (!decide (r7.1=0))=true then some r7 else G f p r1 r7.2.2.1 r7.2.1 r7.2.2.2.1 r7.2.2.2.2 ((j+1:Nat):Int):=fun f=>by
   rw [X.hG,er,iP,iO,Zmw (by omega) _ j (by omega),bS,Zv,ex,hk,wI2 (x:=((k+1:Nat):Int) - 1),show ((k+1:Nat):Int) - 1=(k:Int) by omega,wS2]
  rw [Zbp,ex,tN];cases hs:Zm false m (x:Int) with
  | true=>
   rw [iT rfl];refine ⟨s,L,t,o,⟨1,fun f hf=>?_⟩,S,by show t+m.length<=t+m.length+1; omega,fun z=>Bool.noConfusion z,hI,hM,Nat.le_refl _⟩;obtain ⟨f,rfl⟩:=kS1 f;show G (f+1) p r1 s o m false (j:Int)=_;rw [step,hs,iT rfl];rfl
  | false=>
   rw [iF (show ¬ false=true by simp)];obtain ⟨s3,L3,t3,o3,⟨b1,e1⟩,S3,u1,u2,I3,M3,n3⟩:=IH x s L t (U2 (Jb (nd b).2.2.1 j) p).1 m o hx hI hM hs S ht;cases hr:(dfs c nd k x (U2 (Jb (nd b).2.2.1 j) p).1 m).1 with
   | false=>
    rw [iF (show ¬ false=true by simp)];refine ⟨s3,L3,t3,o3,⟨b1+1,fun f hf=>?_⟩,S3,u1,fun z=>Bool.noConfusion z,I3,M3,n3⟩;obtain ⟨f,rfl⟩:=kS1 f;show G (f+1) p r1 s o m false (j:Int)=_;rw [step,hs,iF (show ¬ false=true by simp),show V f _ _ _ _ o=_ from e1 f (by omega),bS,hr,iF (show ¬ false=true by simp)];rfl
   | true=>
    rw [iT rfl];have u2':=u2 hr;have l3:=M3.len;obtain ⟨s4,L4,t4,o4,⟨b2,e2⟩,S4,v1,v2,I4,M4,n4⟩:=ih (j+1) s3 L3 t3 _ o3 (by omega) I3 M3 S3 (by omega);refine ⟨s4,L4,t4,o4,⟨b1+b2+1,fun f hf=>?_⟩,S4,by omega,fun z=>by have:=v2 z; omega,I4,M4,by omega⟩;obtain ⟨f,rfl⟩:=kS1 f;show G (f+1) p r1 s o m false (j:Int)=_;rw [step,hs,iF (show ¬ false=true by simp),show V f _ _ _ _ o=_ from e1 f (by omega),bS,hr,iT rfl,vS];exact e2 f (by omega)
theorem Zq7 (X:VisD α Inv V G) (g:Geo c N B n) (D:DA c N K A nd):∀(k x:Nat) (s:Shf) (L:List Nat) (t:Nat) (lv:Int) (p:Sp) (m:Mp) (o:α),A k x->Inv o m->MOk N m->Zm false m (x:Int)=false->ShK c N B n t s L q K h->t+2*(N - m.length)+3<=800000->(lv=-1/\(nd x).1=(k:Int)\/lv=(k:Int))->Res c N B n q K h Inv (fun f=>V f (s,m,false) (x:Int) lv p o) t m (dfs c nd k x p m):=by
 have hc:=Jw g.ok;have main:∀(k x:Nat) (s:Shf) (L:List Nat) (t:Nat) (lv:Int) (p:Sp) (m:Mp) (o:α) (R:Bool×Mp),A k x->Inv o m->MOk N m->Zm false m (x:Int)=false->ShK c N B n t s L q K h->t+2*(N - m.length)+3<=800000->(lv=-1/\(nd x).1=(k:Int)\/lv=(k:Int))->((nd x).1≠(k:Int)->R=(false,m))->((nd x).1=(k:Int)->Ym c p (nd x)=false->R=(false,m))->((nd x).1=(k:Int)->Ym c p (nd x)=true->∀(s':Shf) (L':List Nat) (o':α),Inv o' (Yz (x:Int) true m)->MOk N (Yz (x:Int) true m)->ShK c N B n (t+1) s' L' q K h->t+1+2*(N - (Yz (x:Int) true m).length)+3<=800000->Res c N B n q K h Inv (fun f=>G f p (nd x,0,s') s' o' (Yz (x:Int) true m) false 0) (t+1) (Yz (x:Int) true m) R)->Res c N B n q K h Inv (fun f=>V f (s,m,false) (x:Int) lv p o) t m R:=fun k x s L t lv p m o R hx hI hM hs S ht hv r1 r2 r3=>by
  have hml:=hM.len;obtain ⟨s1,L1,⟨b0,e⟩,S1⟩:=D.load g S (by omega) hx;obtain ⟨⟨b1,ev⟩,ec⟩:=D.ev hc hx p;have cfg:s1.1=c:=S1.cfg;obtain ⟨M1,M2⟩:=hM.put (D.b1 k x hx).2 hs;have hml1:=M1.len;by_cases z:(nd x).1=(k:Int)
  ·have hv':lv=-1\/lv=(nd x).1/\0<=lv:=by
    rcases hv with w | w
    ·exact .inl w.1
    ·exact .inr ⟨by rw [w,z],by rw [w]; omega⟩
   obtain ⟨o',I',hV'⟩:=X.hV m (x:Int) p o (nd x) hs hI;have head:∀ f,b0+b1<=f->V (f+3) (s,m,false) (x:Int) lv p o=if Ym c p (nd x)=true then G f p (nd x,0,s1) s1 o' (Yz (x:Int) true m) false 0 else some (12,o,s1,m,false):=fun f hf=>hV' f s lv s1 _ (e (f+2) (by omega)) hv' (by rw [cfg]; exact ev (f+2) (by omega)) ec
   cases hr:Ym c p (nd x) with
   | false=>
    rw [r2 z hr];refine ⟨s1,L1,t+1,o,⟨b0+b1+3,fun f hf=>?_⟩,S1,by show t+1+m.length<=t+m.length+1; omega,fun z=>Bool.noConfusion z,hI,hM,Nat.le_refl _⟩;obtain ⟨f,rfl⟩:=kS3 f;show V (f+3) _ _ _ _ o=_;rw [head f (by omega),hr,iF (show ¬ false=true by simp)];rfl
   | true=>
    obtain ⟨s2,L2,t2,o2,⟨b2,e2⟩,S2,v1,v2,I2,M3,n2⟩:=r3 z hr s1 L1 o' I' M1 S1 (by omega);refine ⟨s2,L2,t2,o2,⟨b0+b1+b2+3,fun f hf=>?_⟩,S2,by omega,fun w=>by have:=v2 w; omega,I2,M3,by omega⟩;obtain ⟨f,rfl⟩:=kS3 f;show V (f+3) _ _ _ _ o=_;rw [head f (by omega),hr,iT rfl];exact e2 f (by omega)
  ·have w:lv=(k:Int):=by
    rcases hv with w | w
    ·exact absurd w.2 z
    ·exact w
   rw [r1 z];refine ⟨s1,L1,t+1,o,⟨b0+1,fun f hf=>?_⟩,S1,by show t+1+m.length<=t+m.length+1; omega,fun z=>Bool.noConfusion z,hI,hM,Nat.le_refl _⟩;obtain ⟨f,rfl⟩:=kS1 f;show V (f+1) _ _ _ _ o=_;rw [X.hV2 f s m _ lv p o (nd x) s1 (e f (by omega)) hs (by omega) (by rw [w]; exact z)];rfl
 intro k
 induction k with
 | zero=>
  intro x s L t lv p m o hx hI hM hs S ht hv;refine main 0 x s L t lv p m o _ hx hI hM hs S ht hv (fun z=>?_) (fun _ w=>?_) fun z w s' L' o' I' M' S' u=>?_
  ·rw [dfs,iF (fun y=>z y.1)]
  ·rw [dfs,iF (fun y=>by rw [y.2] at w; cases w)]
  ·have e:dfs c nd 0 x p m=(true,Yz (x:Int) true m):=by rw [dfs,iT ⟨z,w⟩]
   rw [e];have k0:=(D.small hc hx).2.2.2.2.2.2.1 z;refine ⟨s',L',t+1,o',⟨1,fun f hf=>?_⟩,S',Nat.le_succ _,fun _=>Nat.le_refl _,I',M',Nat.le_refl _⟩;obtain ⟨f,rfl⟩:=kS1 f;show G (f+1) _ _ _ _ _ _ _=_;rw [X.hG,k0,vS];rfl
 | succ k ih=>
  intro x s L t lv p m o hx hI hM hs S ht hv;refine main (k+1) x s L t lv p m o _ hx hI hM hs S ht hv (fun z=>?_) (fun _ w=>?_) fun z w s' L' o' I' M' S' u=>?_
  ·rw [dfs,iF (fun y=>z y.1)]
  ·rw [dfs,iF (fun y=>by rw [y.2] at w; cases w)]
  ·have e:dfs c nd (k+1) x p m=Zbp (nd x) p (dfs c nd k) (nd x).2.1.length 0 (Yz (x:Int) true m):=by rw [dfs,iT ⟨z,w⟩]
   rw [e];exact Zru X hc D hx z p (r1:=(nd x,0,s')) rfl (fun y s L t p m o a1 a2 a3 a4 a5 a6=>ih y s L t (k:Int) p m o a1 a2 a3 a4 a5 a6 (.inr rfl)) (nd x).2.1.length 0 s' L' (t+1) _ o' (by omega) I' M' S' u
end
def tp (nd:Nat->Nd):Nat->Nat->List (Nat×Nat)
 | 0,b=>[(0,b)]
 | k+1,b=>(k+1,b) :: (nd b).2.1.flatMap fun x=>tp nd k x.toNat
section
variable {c:Cfg} {N:Nat} {K:Nat->List Int} {A:Nat->Nat->Prop} {nd:Nat->Nd}
structure Thr (nd:Nat->Nd) (T:List (Nat×Nat)) (m m':Mp):Prop where
 lv:∀ w∈T,(nd w.2).1=(w.1:Int)
 nd':(T.map (·.2)).Nodup
 new:∀ w∈T,Zm false m (w.2:Int)=false
 seen:∀ y:Nat,Zm false m' (y:Int)=true↔Zm false m (y:Int)=true\/y∈T.map (·.2)
theorem Zf6 (D:DA c N K A nd) {b:Nat} {k:Nat} (hb:A (k+1) b) (hk:(nd b).1=((k+1:Nat):Int)) (p:Sp) (IH:∀(x:Nat) (p:Sp) (m:Mp),A k x->Zm false m (x:Int)=false->(dfs c nd k x p m).1=true->Thr nd (tp nd k x) m (dfs c nd k x p m).2):∀(rem j:Nat) (m:Mp),j+rem=(nd b).2.1.length->(Zbp (nd b) p (dfs c nd k) rem j m).1=true->Thr nd (((nd b).2.1.drop j).flatMap fun x=>tp nd k x.toNat) m (Zbp (nd b) p (dfs c nd k) rem j m).2
 | 0,j,m,hj,_=>by
  rw [dN];exact ⟨fun w hw=>(by cases hw),List.nodup_nil,fun w hw=>(by cases hw),fun y=>⟨Or.inl,fun z=>z.resolve_right (fun w=>by cases w)⟩⟩
 | rem+1,j,m,hj,h=>by
  have hjl:j<(nd b).2.1.length:=by omega
  obtain ⟨x,ex⟩:∃ x:Nat,(nd b).2.1.getD j default=(x:Int):=Int.eq_ofNat_of_zero_le (D.kd (k+1) b hb _ (Yw (d:=default) hjl)).1;have hx:A k x:=by
   have:=D.kid k b hb hk _ (Yw (d:=default) hjl)
   rwa [ex,tN] at this
  rw [Zbp,ex,tN] at h ⊢;cases hs:Zm false m (x:Int) with
  | true=>rw [hs,iT rfl] at h; exact Bool.noConfusion h
  | false=>
   rw [hs,iF (show ¬ false=true by simp)] at h;rw [iF (show ¬ false=true by simp)];cases hr:(dfs c nd k x (U2 (Jb (nd b).2.2.1 j) p).1 m).1 with
   | false=>rw [hr,iF (show ¬ false=true by simp)] at h; exact Bool.noConfusion h
   | true=>
    rw [hr,iT rfl] at h;rw [iT rfl];have t1:=IH x _ m hx hs hr;have t2:=Zf6 D hb hk p IH rem (j+1) _ (by omega) h;have eT:(((nd b).2.1.drop j).flatMap fun x=>tp nd k x.toNat)=tp nd k x ++ (((nd b).2.1.drop (j+1)).flatMap fun x=>tp nd k x.toNat):=by
     rw [Yu hjl,List.flatMap_cons,ex,tN]
    rw [eT];refine ⟨fun w hw=>?_,?_,fun w hw=>?_,fun y=>?_⟩
    ·rcases List.mem_append.1 hw with z | z
     ·exact t1.lv w z
     ·exact t2.lv w z
    ·rw [List.map_append];refine List.nodup_append.2 ⟨t1.nd',t2.nd',fun y hy z hz e=>?_⟩;subst e;obtain ⟨w,hw,rfl⟩:=List.mem_map.1 hz;have:=(t1.seen w.2).2 (.inr hy);rw [t2.new w hw] at this;cases this
    ·rcases List.mem_append.1 hw with z | z
     ·exact t1.new w z
     ·refine Bool.eq_false_iff.2 fun y=>?_;have:=(t1.seen w.2).2 (.inl y);rw [t2.new w z] at this;cases this
    ·rw [t2.seen,t1.seen,List.map_append,List.mem_append,or_assoc]
theorem Zcr (D:DA c N K A nd):∀(k x:Nat) (p:Sp) (m:Mp),A k x->Zm false m (x:Int)=false->(dfs c nd k x p m).1=true->Thr nd (tp nd k x) m (dfs c nd k x p m).2
 | 0,x,p,m,hx,hs,h=>by
  rw [dfs] at h ⊢;by_cases q:(nd x).1=0/\Ym c p (nd x)=true
  ·rw [iT q];refine ⟨fun w hw=>?_,by rw [tp]; simp,fun w hw=>?_,fun y=>?_⟩
   ·rw [tp,List.mem_singleton] at hw; rw [hw]; exact q.1
   ·rw [tp,List.mem_singleton] at hw; rw [hw]; exact hs
   ·rw [Gi,tp,List.map_singleton,List.mem_singleton];by_cases z:y=x
    ·rw [z,iT rfl]; simp
    ·rw [iQ]; simp [z]
  ·rw [iF q] at h; exact Bool.noConfusion h
 | k+1,x,p,m,hx,hs,h=>by
  rw [dfs] at h ⊢;by_cases q:(nd x).1=((k+1:Nat):Int)/\Ym c p (nd x)=true
  ·rw [iT q] at h ⊢;have t:=Zf6 D hx q.1 p (fun y p m a b d=>Zcr D k y p m a b d) (nd x).2.1.length 0 _ (by omega) h;rw [List.drop_zero] at t;rw [tp];refine ⟨fun w hw=>?_,?_,fun w hw=>?_,fun y=>?_⟩
   ·rcases List.mem_cons.1 hw with z | z
    ·rw [z]; exact q.1
    ·exact t.lv w z
   ·rw [List.map_cons];refine List.nodup_cons.2 ⟨fun z=>?_,t.nd'⟩;obtain ⟨w,hw,e⟩:=List.mem_map.1 z;have:=t.new w hw;rw [Gi,e,iT rfl] at this;cases this
   ·rcases List.mem_cons.1 hw with z | z
    ·rw [z]; exact hs
    ·have:=t.new w z;rw [Gi] at this;by_cases e:(w.2:Int)=(x:Int)
     ·rw [iT e] at this; cases this
     ·rwa [iF e] at this
   ·rw [t.seen,Gi,List.map_cons,List.mem_cons];by_cases z:y=x
    ·rw [z,iT rfl]; simp
    ·rw [iQ]; simp [z]
  ·rw [iF q] at h; exact Bool.noConfusion h
end
section
variable {l:Tre} {LO HI:Nat->Nat->List UInt8} {c:Cfg} {BL:Nat->Nat->Nat}
def spL (l:Tre):Nat->List Sp
 | 0=>[([],[],true)]
 | d+1=>(List.range (wd l (l.length - 1 - d))).flatMap fun i=>(List.range (ndT l (l.length - 1 - d) i).2.1.length).map fun j=>(U2 (Jb (ndT l (l.length - 1 - d) i).2.2.1 j) ((spL l d).getD i default)).1
end
section
variable {c:Cfg} {N B n q:Nat} {K:Nat->List Int} {h:Nat->Bool} {l:Tre} {BL:Nat->Nat->Nat} {LO HI:Nat->Nat->List UInt8} {ND:Nat->Nat->Nd} {ok:Nat->Bool} {α:Type}
def fdn (l:Tre):Nat->Nat->Nat->Nat
 | 0,_,i=>i
 | d+1,k,i=>fdn l d (k - 1) (stR (l.getD k default) i)
structure VisC (α:Type) (on:Int->Nd->Sp->α->Option α) (V:Nat->Shf×List T0×Bool->Int->Int->Sp->α->Option (Int×α×Shf×List T0×Bool)) (G:Bool->Nat->Sp->Nd×Int×Shf->Shf->α->List T0->Bool->Int->Option (Int×α×Shf×List T0×Bool)):Prop where
 hV:∀(f:Nat) (s:Shf) (m:TR) (i lv:Int) (p:Sp) (o:α) (nd:Nd) (s':Shf) (r:Bool),Q80.f (f+2) s i=some (nd,0,s')->Zm false m i=false->(lv=-1\/lv=nd.1/\0<=lv)->Q66.f (f+2) s'.1 p nd=some r->Q64.f nd=some nd->V (f+3) (s,m,false) i lv p o=if r=true then (on i nd p o).bind fun o'=>G (decide (0<=lv)) f p (nd,0,s') s' o' (Yz i true m) false 0 else some (12,o,s',m,false)
 hG:∀(b:Bool) (f:Nat) (p:Sp) (r1:Nd×Int×Shf) (s:Shf) (o:α) (m:TR) (j:Int),G b (f+1) p r1 s o m false j=if decide (j<(r1.1.2.1.length:Int))=true then (if 0<=j/\j<(r1.1.2.1.length:Int) then ((Q57.f r1.1.2.2.1 j p).bind fun r6=>if Zm false m (gt r1.1.2.1 j)=true then some (12,o,s,m,false) else ((V f (s,m,false) (gt r1.1.2.1 j) (w64 (r1.1.1 - 1)) r6.1 o).bind fun r7=>if (!decide (r7.1=0))=true then some r7 else G b f p r1 r7.2.2.1 r7.2.1 r7.2.2.2.1 r7.2.2.2.2 (w64 (j+1)))) else none) else some (0,o,s,m,false)
section
variable {on:Int->Nd->Sp->α->Option α} {V:Nat->Shf×List T0×Bool->Int->Int->Sp->α->Option (Int×α×Shf×List T0×Bool)} {G:Bool->Nat->Sp->Nd×Int×Shf->Shf->α->List T0->Bool->Int->Option (Int×α×Shf×List T0×Bool)}
end
end
abbrev Rep:=Int×Int×Int×Int×Int
def Zgl (nd:Nd) (o:Rep):Rep:=(if w64 (nd.1+1)>o.1 then w64 (nd.1+1) else o.1,w64 (o.2.1+1),if nd.1=0 then w64 (o.2.2.1+1) else o.2.2.1,w64 (o.2.2.2.1+(nd.2.2.2.2.length:Int)),w64 (o.2.2.2.2+(nd.2.2.2.1.length:Int)))
theorem Zr7 (i:Int) (nd:Nd) (p:Sp) (o:Rep):Q151.f i nd p o=some (true,Zgl nd o):=by
 unfold Q151.f Zgl;by_cases q:nd.1=0
 ·rw [iT (dT q),iT q]
 ·rw [iF (by simpa using q),iF q]
def Zmp (_:Int) (nd:Nd) (_:Sp) (o:Rep):Option Rep:=some (Zgl nd o)
def Zkv (_:Bool) (f:Nat) (p:Sp) (r1:Nd×Int×Shf) (s:Shf) (o:Rep) (m:TR) (e:Bool) (j:Int):Option (Int×Rep×Shf×List T0×Bool):=Q153.l2 f p r1 s.1 s.2.1.1 s.2.1.2.2.2.2 s.2.2.1 o s.2.1.2.1 s.2.1.2.2.1 s.2.1.2.2.2.1 s.2.2.2 m e j
theorem visLook:VisC Rep Zmp Q153.f Zkv:=by
 refine ⟨fun f s m i lv p o nd s' r hL hm hv hr hc=>?_,fun b f p r1 s o m j=>?_⟩
 ·rw [Q153.f,show Q80.f (f+2) s i=_ from hL,bS,vS,iF (by simp [hm])];have cf:Q79.f s'=some s'.1:=rfl;have j:Q153.l0 (f+2) (s,m,false) i p o (nd,0,s') false=(Zmp i nd p o).bind fun o'=>Zkv (decide (0<=lv)) f p (nd,0,s') s' o' (Yz i true m) false 0:=by
   rw [Q153.l0,hc,bS,Zr7,bS,vS,Q153.l1];rfl
  rcases hv with rfl | ⟨rfl,h0⟩
  ·rw [iF (by decide)];dsimp only;rw [cf,bS,hr,bS];cases r with
   | false=>rfl
   | true=>rw [vS,iT rfl]; exact j
  ·rw [iT (dT h0),vS];dsimp only;rw [cf,bS,hr,bS];cases r with
   | false=>rfl
   | true=>rw [vS,iT rfl]; exact j
 ·show Q153.l2 (f+1) p r1 _ _ _ _ o _ _ _ _ m false j=_;rw [Q153.l2];rfl
def Vw (f:Nat->Nat):Nat->Nat
 | 0=>0
 | n+1=>Vw f n+f n
section
variable {c:Cfg} {l:Tre} {LO HI:Nat->Nat->List UInt8} {ok:Nat->Bool}
theorem Zh3 {l:Tre} {d k j:Nat}:∀(m a:Nat),fdn l d k a<=j->j<fdn l d k (a+m)->∃ i,a<=i/\i<a+m/\fdn l d k i<=j/\j<fdn l d k (i+1)
 | 0,a,h1,h2=>by rw [Nat.add_zero] at h2; omega
 | m+1,a,h1,h2=>by
  by_cases q:j<fdn l d k (a+1)
  ·exact ⟨a,Nat.le_refl _,by omega,h1,q⟩
  ·obtain ⟨i,i1,i2,i3⟩:=Zh3 m (a+1) (Nat.le_of_not_lt q) (by rw [show a+1+m=a+(m+1) by omega]; exact h2);exact ⟨i,by omega,by omega,i3⟩
end
section
variable {c:Cfg} {l:Tre} {LO HI:Nat->Nat->List UInt8} {ok:Nat->Bool} {BL:Nat->Nat->Nat} {ND:Nat->Nat->Nd}
theorem Zdd:∀ d k,fdn l d k 0=0
 | 0,_=>rfl
 | d+1,k=>by rw [fdn,Zhm,Zdd d]
theorem Zhq (G:Gro l LO HI):∀ {d k:Nat},d<=k->k<l.length->fdn l d k (wd l k)=wd l (k - d)
 | 0,k,_,_=>rfl
 | d+1,0,h,_=>by omega
 | d+1,k+1,h,hk=>by
  show fdn l d k (stR (l.getD (k+1) default) (wd l (k+1)))=_;rw [(G.row k hk).2.1,Zhq G (by omega) (by omega),show k+1 - (d+1)=k - d by omega]
end
section
variable {c:Cfg} {N B n q t:Nat} {s:Shf} {L:List Nat} {K:Nat->List Int} {h:Nat->Bool} {l:Tre} {BL:Nat->Nat->Nat} {LO HI:Nat->Nat->List UInt8} {ND:Nat->Nat->Nd}
def ndB (c:Cfg) (K:Nat->List Int) (b:Nat):Nd:=(Zba c (K b)).1
def atL (l:Tre) (BL:Nat->Nat->Nat) (k b:Nat):Prop:=∃ j,k<l.length/\j<wd l k/\BL k j=b
structure TB (c:Cfg) (N:Nat) (K:Nat->List Int) (l:Tre) (BL:Nat->Nat->Nat) (ND:Nat->Nat->Nd):Prop where
 b1:∀ k i,k<l.length->i<wd l k->1<=BL k i/\BL k i<N
 kb:∀ k i,k<l.length->i<wd l k->K (BL k i)=Xv c (ND k i)
 kd:∀ k i,k<l.length->i<wd l k->∀ x∈(ND k i).2.1,0<=x/\x<4294967296
 rt:∀ k i,k<l.length->i<wd l k->Ym c X9 (ND k i)=true
 kid:∀ k i,k+1<l.length->i<wd l (k+1)->(ND (k+1) i).1=((k+1:Nat):Int)->∀ x∈(ND (k+1) i).2.1,∃ j,j<wd l k/\x=((BL k j:Nat):Int)
theorem TB.nd (T:TB c N K l BL ND) (hok:okB c=true) {k i:Nat} (hk:k<l.length) (hi:i<wd l k):ndB c K (BL k i)=ND k i:=by
 unfold ndB;rw [T.kb k i hk hi,Zao hok (T.kd k i hk hi) (T.rt k i hk hi)]
theorem TB.da (T:TB c N K l BL ND) (hok:okB c=true):DA c N K (atL l BL) (ndB c K) where
 b1:=fun k b ⟨j,hk,hj,e⟩=>by subst e; exact T.b1 k j hk hj
 kb:=fun k b ⟨j,hk,hj,e⟩=>by subst e; rw [T.nd hok hk hj]; exact T.kb k j hk hj
 kd:=fun k b ⟨j,hk,hj,e⟩=>by subst e; rw [T.nd hok hk hj]; exact T.kd k j hk hj
 rt:=fun k b ⟨j,hk,hj,e⟩=>by subst e; rw [T.nd hok hk hj]; exact T.rt k j hk hj
 kid:=fun k b ⟨j,hk,hj,e⟩ lv x hx=>by
  subst e;rw [T.nd hok hk hj] at hx lv;obtain ⟨a,ha,e⟩:=T.kid k j hk hj lv x hx;exact ⟨a,by omega,ha,by rw [e,tN]⟩
theorem Zjp (G:Gro l LO HI) {k i:Nat} (hk:k+1<l.length) (hi:i<wd l (k+1)):(Z2 l BL (k+1) i).2.1=(List.range (ndT l (k+1) i).2.1.length).map fun j=>((BL k (stR (l.getD (k+1) default) i+j):Nat):Int):=by
 have nd:=G.nd hk hi;unfold Z2;dsimp only;rw [nd.kid,List.map_map,length_map,length_range];refine List.map_congr_left fun j _=>?_;show ((BL (k+1 - 1) ((((stR (l.getD (k+1) default) i+j+1:Nat):Int)).toNat - 1):Nat):Int)=_;rw [tN,Nat.add_sub_cancel,Nat.add_sub_cancel]
theorem Zek (G:Gro l LO HI) {k i:Nat} (hk:k+1<l.length) (hi:i<wd l (k+1)) {x:Int} (hx:x∈(Z2 l BL (k+1) i).2.1):∃ j,j<wd l k/\x=((BL k j:Nat):Int):=by
 have hs:=Wn (row:=l.getD (k+1) default) hi;have hs':stR (l.getD (k+1) default) (i+1)=stR (l.getD (k+1) default) i+(ndT l (k+1) i).2.1.length:=hs;have hm:=Ux (row:=l.getD (k+1) default) (i:=i+1) (j:=wd l (k+1)) hi (Nat.le_refl _);rw [(G.row k hk).2.1] at hm;rw [Zjp G hk hi] at hx;obtain ⟨j,hj,rfl⟩:=List.mem_map.1 hx;have:=List.mem_range.1 hj;exact ⟨_,by omega,rfl⟩
theorem Zlo (G:Gro l LO HI) {nd:Nat->Nd} {k i:Nat} (hk:k+1<l.length) (hi:i<wd l (k+1)) (e:nd (BL (k+1) i)=Z2 l BL (k+1) i):tp nd (k+1) (BL (k+1) i)=(k+1,BL (k+1) i) :: (List.range (ndT l (k+1) i).2.1.length).flatMap fun j=>tp nd k (BL k (stR (l.getD (k+1) default) i+j)):=by
 rw [tp,e,Zjp G hk hi,List.flatMap_map];congr 1
theorem Zi2 (G:Gro l LO HI) {nd:Nat->Nd} (hnd:∀ k i,k+1<l.length->i<wd l (k+1)->nd (BL (k+1) i)=Z2 l BL (k+1) i) {j:Nat}:∀ k i,k<l.length->i<wd l k->fdn l k k i<=j->j<fdn l k k (i+1)->(0,BL 0 j)∈tp nd k (BL k i)
 | 0,i,_,_,h1,h2=>by
  have h1':i<=j:=h1;have h2':j<i+1:=h2;rw [tp,show j=i by omega]; exact List.mem_singleton.2 rfl
 | k+1,i,hk,hi,h1,h2=>by
  have hs:=Wn (row:=l.getD (k+1) default) hi;have hs':stR (l.getD (k+1) default) (i+1)=stR (l.getD (k+1) default) i+(ndT l (k+1) i).2.1.length:=hs;have hm:=Ux (row:=l.getD (k+1) default) (i:=i+1) (j:=wd l (k+1)) hi (Nat.le_refl _);rw [(G.row k hk).2.1] at hm;have h1':fdn l k k (stR (l.getD (k+1) default) i)<=j:=h1;have h2':j<fdn l k k (stR (l.getD (k+1) default) (i+1)):=h2;rw [hs'] at h2';obtain ⟨a,a1,a2,a3,a4⟩:=Zh3 (l:=l) (d:=k) (k:=k) (j:=j) _ _ h1' h2';rw [Zlo G hk hi (hnd k i hk hi)];refine List.mem_cons_of_mem _ (List.mem_flatMap.2 ⟨a - stR (l.getD (k+1) default) i,List.mem_range.2 (by omega),?_⟩);rw [show stR (l.getD (k+1) default) i+(a - stR (l.getD (k+1) default) i)=a by omega];exact Zi2 G hnd k a (by omega) (by omega) a3 a4
def Vh (nd:Nat->Nd) (BL:Nat->Nat->Nat) (x k i:Nat):Nat:=((tp nd k (BL k i)).map (·.2)).count x
theorem Zje (G:Gro l LO HI) {nd:Nat->Nd} {x k:Nat} {P:Nat->Nat} (a:Nat):∀ r,(∀ i,a<=i->i<a+r->P (i+1)<=Vh nd BL x k i+P i)->P (a+r)<=((((List.range r).flatMap fun j=>tp nd k (BL k (a+j))).map (·.2)).count x)+P a
 | 0,_=>by show P a<=_; omega
 | r+1,h=>by
  have ih:=Zje G (nd:=nd) (x:=x) (k:=k) (P:=P) a r fun i h1 h2=>h i h1 (by omega);have h1:=h (a+r) (by omega) (by omega);rw [List.range_succ,List.flatMap_append,List.map_append,List.count_append];have e:([r].flatMap fun j=>tp nd k (BL k (a+j)))=tp nd k (BL k (a+r)):=by simp
  rw [e];unfold Vh at h1;rw [show a+(r+1)=a+r+1 by omega];omega
theorem Zly (G:Gro l LO HI) {nd:Nat->Nd} {x:Nat} (hnd:∀ k i,k+2<l.length->i<wd l (k+2)->nd (BL (k+2) i)=Z2 l BL (k+2) i):∀ k i,k+1<l.length->i<wd l (k+1)->Vw (Vh nd BL x 1) (fdn l k (k+1) (i+1))<=Vh nd BL x (k+1) i+Vw (Vh nd BL x 1) (fdn l k (k+1) i)
 | 0,i,_,_=>by
  show Vw (Vh nd BL x 1) (i+1)<=Vh nd BL x 1 i+Vw (Vh nd BL x 1) i;rw [Vw]; omega
 | k+1,i,hk,hi=>by
  have hs:=Wn (row:=l.getD (k+2) default) hi;have hs':stR (l.getD (k+2) default) (i+1)=stR (l.getD (k+2) default) i+(ndT l (k+2) i).2.1.length:=hs;have hm:=Ux (row:=l.getD (k+2) default) (i:=i+1) (j:=wd l (k+2)) hi (Nat.le_refl _);rw [(G.row (k+1) hk).2.1] at hm;have r:=Zje G (nd:=nd) (BL:=BL) (x:=x) (k:=k+1) (P:=fun a=>Vw (Vh nd BL x 1) (fdn l k (k+1) a)) (stR (l.getD (k+2) default) i) (ndT l (k+2) i).2.1.length fun a h1 h2=>Zly G hnd k a (by omega) (by omega);rw [<- hs'] at r;show Vw (Vh nd BL x 1) (fdn l k (k+1) (stR (l.getD (k+2) default) (i+1)))<=Vh nd BL x (k+2) i+Vw (Vh nd BL x 1) (fdn l k (k+1) (stR (l.getD (k+2) default) i));have e:(((List.range (ndT l (k+2) i).2.1.length).flatMap fun j=>tp nd (k+1) (BL (k+1) (stR (l.getD (k+2) default) i+j))).map (·.2)).count x<=Vh nd BL x (k+2) i:=by
   unfold Vh;rw [Zlo G hk hi (hnd k i hk hi),List.map_cons];exact (List.sublist_cons_self _ _).count_le x
  omega
theorem Za1 {f:Nat->Nat}:∀ {a b:Nat},a<=b->Vw f a<=Vw f b
 | a,0,h=>by rw [show a=0 by omega]; exact Nat.le_refl _
 | a,b+1,h=>by
  by_cases e:a=b+1
  ·rw [e]; exact Nat.le_refl _
  ·have:=Za1 (f:=f) (a:=a) (b:=b) (by omega);rw [Vw]; omega
theorem Zg3 {f:Nat->Nat} {a b n:Nat} (h1:a<b) (h2:b<n):f a+f b<=Vw f n:=by
 have e1:=Za1 (f:=f) (show b+1<=n by omega);have e2:=Za1 (f:=f) (show a+1<=b by omega);have e3:Vw f (b+1)=Vw f b+f b:=rfl;have e4:Vw f (a+1)=Vw f a+f a:=rfl;omega
theorem Zm8 (T:GoodT c l) (G:Gro l LO HI) {nd:Nat->Nd} {x:Nat} (hnd:∀ k i,k+2<l.length->i<wd l (k+2)->nd (BL (k+2) i)=Z2 l BL (k+2) i) {a b:Nat} (hl:1<l.length) (hab:a≠b) (ha:a<wd l 1) (hb:b<wd l 1) (xa:(x:Int)∈(nd (BL 1 a)).2.1) (xb:(x:Int)∈(nd (BL 1 b)).2.1):¬ ((tp nd (l.length - 1) (BL (l.length - 1) 0)).map (·.2)).Nodup:=fun z=>by
 have hne:=G.ne;have top:=T.top;obtain ⟨k,ek⟩:∃ k,l.length - 1=k+1:=⟨l.length - 2,by omega⟩;have one:∀ i,(x:Int)∈(nd (BL 1 i)).2.1->1<=Vh nd BL x 1 i:=fun i hi=>by
  unfold Vh;refine List.count_pos_iff.2 (List.mem_map.2 ⟨(0,x),?_,rfl⟩);rw [tp];exact List.mem_cons_of_mem _ (List.mem_flatMap.2 ⟨(x:Int),hi,by rw [tp,tN]; exact List.mem_singleton.2 rfl⟩)
 have u:=Zly G (x:=x) hnd k 0 (by omega) (by rw [<- ek,top]; omega);rw [Zdd] at u;have fw:=Zhq G (d:=k) (k:=k+1) (by omega) (by omega);rw [<- ek,top,ek,show k+1 - k=1 by omega] at fw;rw [show fdn l k (k+1) (0+1)=wd l 1 from fw] at u;have z0:Vw (Vh nd BL x 1) 0=0:=rfl;have c1:=List.nodup_iff_count.1 z x;rw [ek] at c1;have c2:Vh nd BL x (k+1) 0<=1:=c1;have o1:=one a xa;have o2:=one b xb;rcases Nat.lt_or_ge a b with w | w
 ·have:=Zg3 (f:=Vh nd BL x 1) w hb; omega
 ·have:=Zg3 (f:=Vh nd BL x 1) (show b<a by omega) ha; omega
end
section
variable {c:Cfg} {l:Tre} {LO HI:Nat->Nat->List UInt8} {BL:Nat->Nat->Nat}
theorem Zph (G:Gro l LO HI) {k i:Nat} (hk:k+1<l.length) (hi:i<wd l (k+1)):Xr BL k (stR (l.getD (k+1) default) i) ++ (Z2 l BL (k+1) i).2.1=Xr BL k (stR (l.getD (k+1) default) (i+1)):=by
 have nd:=G.nd hk hi;have hs:=Wn (row:=l.getD (k+1) default) hi;have hs':stR (l.getD (k+1) default) (i+1)=stR (l.getD (k+1) default) i+(ndT l (k+1) i).2.1.length:=hs;have e:(Z2 l BL (k+1) i).2.1=(List.range (ndT l (k+1) i).2.1.length).map fun j=>((BL k (stR (l.getD (k+1) default) i+j):Nat):Int):=by
  unfold Z2;dsimp only;rw [nd.kid,List.map_map,length_map,length_range];refine List.map_congr_left fun j _=>?_;show ((BL (k+1 - 1) ((((stR (l.getD (k+1) default) i+j+1:Nat):Int)).toNat - 1):Nat):Int)=_;rw [tN,Nat.add_sub_cancel,Nat.add_sub_cancel]
 rw [e,hs'];unfold Xr;rw [List.range_add,List.map_append,List.map_map];rfl
end
section
variable {c:Cfg} {N B n q t:Nat} {s:Shf} {L:List Nat} {K:Nat->List Int} {h:Nat->Bool} {l:Tre} {BL:Nat->Nat->Nat} {LO HI:Nat->Nat->List UInt8}
abbrev LW0 (w:Nat) (f:Nat) (s:Shf) (at':List Int) (k:Int):Option (List Int×Shf):=Q131.l0 f (w:Int) s.1 s.2.1.1 s.2.1.2.2.2.2 s.2.2.1 s.2.1.2.1 s.2.1.2.2.1 s.2.1.2.2.2.1 s.2.2.2 at' k
abbrev LW1 (w:Nat) (f:Nat) (at':List Int) (k:Int) (s:Shf) (now:T2) (i:Int):Option (List Int×Shf):=Q131.l1 f (w:Int) at' k s.1 s.2.1.1 s.2.1.2.2.2.2 s.2.2.1 s.2.1.2.1 s.2.1.2.2.1 s.2.1.2.2.2.1 s.2.2.2 now i
theorem Zjg {w:Nat} (g:Geo c N B n) (T:GoodT c l) (Gr:Gro l LO HI) (P:RowsB c N K h l l.length BL) {k:Nat} (hk:k+1<l.length) :
  ∀(m i:Nat) (s:Shf) (L:List Nat) (t:Nat),i+m=wd l (k+1)->ShK c N B n t s L q K h->t+m<=800000->∃ s' L',ShK c N B n (t+m) s' L' q K h/\∀ r,Ev (fun f=>LW0 w f s' (Xr BL k (wd l k)) (k:Int)) r->Ev (fun f=>LW1 w f (Xr BL (k+1) (wd l (k+1))) ((k+1:Nat):Int) s (Xr BL k (stR (l.getD (k+1) default) i)) (i:Int)) r
 | 0,i,s,L,t,hi,S,ht=>by
  have h6:=T.len;refine ⟨s,L,S,fun r he=>?_⟩;obtain ⟨b0,e⟩:=he;refine ⟨b0+1,fun f hf=>?_⟩;obtain ⟨f,rfl⟩:=kS1 f;have e':=e f (by omega);have rl:(Xr BL (k+1) (wd l (k+1))).length=wd l (k+1):=by unfold Xr; rw [length_map,length_range]
  show LW1 w (f+1) _ _ s _ _=_;unfold LW1;rw [Q131.l1,iF (by rw [rl]; simp only [dE]; omega),wI2 (x:=((k+1:Nat):Int) - 1),show ((k+1:Nat):Int) - 1=(k:Int) by omega,show i=wd l (k+1) by omega,(Gr.row k hk).2.1];exact e'
 | m+1,i,s,L,t,hi,S,ht=>by
  have h6:=T.len;have hil:i<wd l (k+1):=by omega
  obtain ⟨s',L',⟨b0,e⟩,S',_⟩:=Zkr g S (by omega) (P.sp (k+1) i hk hil);obtain ⟨s2,L2,S2,c2⟩:=Zjg g T Gr P hk m (i+1) s' L' (t+1) (by omega) S' (by omega);rw [show t+1+m=t+(m+1) by omega] at S2;refine ⟨s2,L2,S2,fun r he=>?_⟩;obtain ⟨b1,e1⟩:=c2 r he;refine ⟨b0+b1+1,fun f hf=>?_⟩;obtain ⟨f,rfl⟩:=kS1 f;have e1':=e1 f (by omega);have rl:(Xr BL (k+1) (wd l (k+1))).length=wd l (k+1):=by unfold Xr; rw [length_map,length_range]
  have kr:=Zph (BL:=BL) Gr hk hil;have hs:=Wn (row:=l.getD (k+1) default) hil;have hm:=Ux (row:=l.getD (k+1) default) (i:=i+1) (j:=wd l (k+1)) hil (Nat.le_refl _);rw [(Gr.row k hk).2.1] at hm;have wb:=T.wb k (by omega);have wb1:=T.wb (k+1) hk;have kl:(Xr BL k (stR (l.getD (k+1) default) i)).length+(Z2 l BL (k+1) i).2.1.length=stR (l.getD (k+1) default) (i+1):=by
   rw [<- lA,kr]; unfold Xr; rw [length_map,length_range]
  show LW1 w (f+1) _ _ s _ _=_;unfold LW1;rw [Q131.l1,iT (by rw [rl]; simp only [dE]; omega),iT (by rw [rl]; omega),Zv,J5 hil];show Option.bind (Q80.f f s _) _=_;rw [show Q80.f f s _=_ from e f (by omega),bS,iT (show ((Xr BL k (stR (l.getD (k+1) default) i)).length+(Z2 l BL (k+1) i).2.1.length)*4<=140737488355328 by omega),wS2];dsimp only;rw [kr];exact e1'
theorem Zjv {w:Nat} (g:Geo c N B n) (T:GoodT c l) (Gr:Gro l LO HI) (P:RowsB c N K h l l.length BL):∀(d k:Nat) (s:Shf) (L:List Nat) (t:Nat),w+d=k->k<l.length->ShK c N B n t s L q K h->t+200*k<=800000->∃ s' L' t',Ev (fun f=>LW0 w f s (Xr BL k (wd l k)) (k:Int)) (Xr BL w (wd l w),s')/\ShK c N B n t' s' L' q K h/\t'<=t+200*k
 | 0,k,s,L,t,hd,hk,S,ht=>by
  obtain rfl:w=k:=hd;refine ⟨s,L,t,⟨1,fun f hf=>?_⟩,S,by omega⟩;obtain ⟨f,rfl⟩:=kS1 f;show LW0 w (f+1) s _ _=_;unfold LW0;rw [Q131.l0,vS]
 | d+1,0,s,L,t,hd,hk,S,ht=>absurd hd (by omega)
 | d+1,k+1,s,L,t,hd,hk,S,ht=>by
  have wb:=T.wb (k+1) hk;obtain ⟨s1,L1,S1,c1⟩:=Zjg (w:=w) g T Gr P hk (wd l (k+1)) 0 s L t (by omega) S (by omega);obtain ⟨s',L',t',e,S',u⟩:=Zjv (w:=w) g T Gr P d k s1 L1 (t+wd l (k+1)) (by omega) (by omega) S1 (by omega);obtain ⟨b0,e0⟩:=c1 _ e;refine ⟨s',L',t',⟨b0+1,fun f hf=>?_⟩,S',by omega⟩;obtain ⟨f,rfl⟩:=kS1 f;show LW0 w (f+1) s _ _=_;unfold LW0;rw [Q131.l0,iP];exact e0 f (by omega)
theorem Zlf {w:Nat} (hw:w<l.length) (g:Geo c N B n) (T:GoodT c l) (Gr:Gro l LO HI) (P:RowsB c N K h l l.length BL) (S:ShK c N B n t s L q K h) (ht:t<=700000):∃ s' L' t',Ev (fun f=>Q131.f f s ((BL (l.length - 1) 0:Nat):Int) (l.length:Int) (w:Int)) (Xr BL w (wd l w),s')/\ShK c N B n t' s' L' q K h/\t'<=t+1200:=by
 have hne:=Gr.ne;have h6:=T.len;obtain ⟨s',L',t',⟨b0,e⟩,S',u⟩:=Zjv (w:=w) g T Gr P (l.length - 1 - w) (l.length - 1) s L t (by omega) (by omega) S (by omega);refine ⟨s',L',t',⟨b0,fun f hf=>?_⟩,S',by omega⟩;have e':=e f hf;rw [T.top] at e';show Q131.f f s _ _ _=_;unfold Q131.f;rw [wI2 (x:=(l.length:Int) - 1),show (l.length:Int) - 1=((l.length - 1:Nat):Int) by omega];exact e'
end
def Zrn (f:Nat) (p:Sp) (r1:Nd×Int×Shf) (s:Shf) (o:Rep) (m:Mp) (e:Bool) (j:Int):Option (Int×Rep×Shf×Mp×Bool):=Zkv true f p r1 s o m e j
theorem Znm:VisD Rep (fun _ _=>True) Q153.f Zrn where
 hV:=fun m i p o nd hm _=>⟨Zgl nd o,trivial,fun f s lv s' r a b c d=>visLook.hV f s m i lv p o nd s' r a hm b c d⟩
 hV2:=fun f s m i lv p o nd s' hL hm h0 hn=>by
  rw [Q153.f,show Q80.f f s i=_ from hL,bS,vS,iF (by simp [hm]),iT (dT h0),iT (by simpa using hn)]
 hG:=fun f p r1 s o m j=>visLook.hG true f p r1 s o m j
abbrev Met:=Bool×Mp
def Zcw (r:Int×Bool×Mp×Shf×Mp×Bool):Int×Met×Shf×Mp×Bool:=(r.1,(r.2.1,r.2.2.1),r.2.2.2)
def Zla (f:Nat) (w:Shf×Mp×Bool) (i lv:Int) (p:Sp) (o:Met):Option (Int×Met×Shf×Mp×Bool):=(Q152.f f w i lv p o.1 o.2).map Zcw
def Zqu (f:Nat) (p:Sp) (r1:Nd×Int×Shf) (s:Shf) (o:Met) (m:Mp) (e:Bool) (j:Int):Option (Int×Met×Shf×Mp×Bool):=(Q152.l2 f p r1 s.1 s.2.1.1 s.2.1.2.2.2.2 s.2.2.1 s.2.1.2.1 s.2.1.2.2.1 s.2.1.2.2.2.1 s.2.2.2 m o.1 o.2 e j).map Zcw
theorem Zql:VisD Met (fun o m=>o=(true,m)) Zla Zqu where
 hV:=fun m i p o nd hm ho=>by
  subst ho;refine ⟨_,rfl,fun f s lv s' r hL hv hr hc=>?_⟩;unfold Zla;dsimp only;rw [Q152.f,show Q80.f (f+2) s i=_ from hL,bS,vS,iF (by simp [hm])];have cf:Q79.f s'=some s'.1:=rfl;have j:(Q152.l0 (f+2) (s,m,false) i p true m (nd,0,s') false).map Zcw=Zqu f p (nd,0,s') s' (true,Yz i true m) (Yz i true m) false 0:=by
   rw [Q152.l0,hc,bS];unfold Q129.f;rw [iT rfl,bS,vS,Q152.l1];dsimp only;rw [hm];rfl
  rcases hv with rfl | ⟨rfl,h0⟩
  ·rw [iF (by decide)];dsimp only;rw [cf,bS,hr,bS];cases r with
   | false=>rfl
   | true=>rw [vS,iT rfl]; exact j
  ·rw [iT (dT h0),vS];dsimp only;rw [cf,bS,hr,bS];cases r with
   | false=>rfl
   | true=>rw [vS,iT rfl]; exact j
 hV2:=fun f s m i lv p o nd s' hL hm h0 hn=>by
  unfold Zla;rw [Q152.f,show Q80.f f s i=_ from hL,bS,vS,iF (by simp [hm]),iT (dT h0),iT (by simpa using hn)];rfl
 hG:=fun f p r1 s o m j=>by
  show (Q152.l2 (f+1) p r1 _ _ _ _ _ _ _ _ m o.1 o.2 false j).map Zcw=_;rw [Q152.l2];by_cases q1:decide (j<(r1.1.2.1.length:Int))=true
  ·rw [iT q1,iT q1];by_cases q2:0<=j/\j<(r1.1.2.1.length:Int)
   ·rw [iT q2,iT q2,iF (show ¬ false=true by simp)];cases Q57.f r1.1.2.2.1 j p with
    | none=>rfl
    | some r6=>
     rw [bS,bS];by_cases q3:Zm false m (gt r1.1.2.1 j)=true
     ·rw [iT q3,iT q3]; rfl
     ·rw [iF q3,iF q3];unfold Zla;show Option.map Zcw (Option.bind (Q152.f f (s,m,false) (gt r1.1.2.1 j) (w64 (r1.1.1 - 1)) r6.1 o.1 o.2) _)=_;cases Q152.f f (s,m,false) (gt r1.1.2.1 j) (w64 (r1.1.1 - 1)) r6.1 o.1 o.2 with
      | none=>rfl
      | some r5=>
       rw [bS,Option.map_some,bS];by_cases q4:(!decide (r5.1=0))=true
       ·rw [iT q4,iT (by exact q4)]; rfl
       ·rw [iF q4,iF (by exact q4)]; rfl
   ·rw [iF q2,iF q2]; rfl
  ·rw [iF q1,iF q1]; rfl
section
variable {c:Cfg} {N B n q t:Nat} {s:Shf} {L:List Nat} {K:Nat->List Int} {h:Nat->Bool} {A:Nat->Nat->Prop} {nd:Nat->Nd}
theorem MOk.nil {N:Nat}:MOk N []:=⟨[],List.nodup_nil,fun _ hb=>(by cases hb),rfl⟩
theorem Zoo (g:Geo c N B n) (D:DA c N K A nd) (S:ShK c N B n t s L q K h) (ht:t+2*N+3<=800000) {k x:Nat} (hx:A k x) (lv:(nd x).1=(k:Int)) (no:(dfs c nd k x ([],[],true) []).1=false):∃ s' L' t',Ev (fun f=>Q150.f f s (x:Int)) ((0,0,0,0,0),12,s')/\ShK c N B n t' s' L' q K h/\t'<=t+N+1:=by
 obtain ⟨s',L',t',o',⟨b0,e⟩,S',u,_,_,M,_⟩:=Zq7 Znm g D k x s L t (-1) ([],[],true) [] (0,0,0,0,0) hx trivial MOk.nil rfl S (by show t+2*(N - 0)+3<=_; omega) (.inl ⟨rfl,lv⟩);have ml:=M.len;refine ⟨s',L',t',⟨b0,fun f hf=>?_⟩,S',by have:t'+0<=_:=u; omega⟩;have e':=e f hf;rw [no,iF (show ¬ false=true by simp)] at e';show Q150.f f s _=_;unfold Q150.f Q149.f Q59.f;rw [bS,show Q153.f f (s,[],false) _ (-1) ([],[],true) (0,0,0,0,0)=_ from e',bS,bS,iU]
theorem Zst (g:Geo c N B n) (D:DA c N K A nd) (S:ShK c N B n t s L q K h) (ht:t+2*N+3<=800000) {k x:Nat} (hx:A k x) (lv:(nd x).1=(k:Int)):∃ r o s',Ev (fun f=>Q148.f f s (x:Int) true []) (r,s',true,o):=by
 obtain ⟨s',L',t',o',⟨b0,e⟩,S',u,_,I,M,_⟩:=Zq7 Zql g D k x s L t (-1) ([],[],true) [] (true,[]) hx rfl MOk.nil rfl S (by show t+2*(N - 0)+3<=_; omega) (.inl ⟨rfl,lv⟩);subst I;refine ⟨if (dfs c nd k x ([],[],true) []).1=true then 0 else 12,(dfs c nd k x ([],[],true) []).2,s',b0,fun f hf=>?_⟩
 have e':=e f hf;show Q148.f f s _ true []=_;unfold Q148.f Q59.f;rw [bS];replace e':(Q152.f f (s,[],false) (x:Int) (-1) ([],[],true) true []).map Zcw=_:=e';cases hv:Q152.f f (s,[],false) (x:Int) (-1) ([],[],true) true [] with
 | none=>rw [hv] at e'; cases e'
 | some r=>
  rw [hv] at e';obtain ⟨r1,r2,r3,r4,r5,r6⟩:=r;simp only [Option.map_some,Zcw,Option.some.injEq,Prod.mk.injEq] at e';obtain ⟨a1,⟨a2,a3⟩,a4,a5,a6⟩:=e';subst a2 a3 a4;rw [a1];rfl
variable {l:Tre} {BL:Nat->Nat->Nat} {LO HI:Nat->Nat->List UInt8}
def ndX (l:Tre) (BL:Nat->Nat->Nat) (a z:Nat) (m:Nd) (k i:Nat):Nd:=if k=a/\i=z then m else Z2 l BL k i
theorem U0 {a z k i:Nat} {m:Nd} (h:¬ (k=a/\i=z)):ndX l BL a z m k i=Z2 l BL k i:=iF h
theorem Bw {a z:Nat} {m:Nd}:ndX l BL a z m a z=m:=iT ⟨rfl,rfl⟩
theorem tbX (Gr:Gro l LO HI) (P:RowsB c N K h l l.length BL) {a z:Nat} (ha:a<l.length) (hz:z<wd l a) {m:Nd} (kd:∀ x∈m.2.1,0<=x/\x<4294967296) (rt:Ym c X9 m=true) (kid:∀ k,a=k+1->∀ x∈m.2.1,∃ j,j<wd l k/\x=((BL k j:Nat):Int)):TB c N (upd K (BL a z) (Xv c m)) l BL (ndX l BL a z m) where
 b1:=fun k i hk hi=>⟨(P.sp k i hk hi).b1,(P.sp k i hk hi).bN⟩
 kb:=fun k i hk hi=>by
  by_cases w:k=a/\i=z
  ·obtain ⟨rfl,rfl⟩:=w;rw [Z7,Bw]
  ·rw [U0 w,Yf (fun e=>w (P.inj k i a z hk hi ha hz e))];exact (P.sp k i hk hi).kb
 kd:=fun k i hk hi=>by
  by_cases w:k=a/\i=z
  ·obtain ⟨rfl,rfl⟩:=w;rw [Bw]; exact kd
  ·rw [U0 w]; exact (P.sp k i hk hi).kd
 rt:=fun k i hk hi=>by
  by_cases w:k=a/\i=z
  ·obtain ⟨rfl,rfl⟩:=w;rw [Bw]; exact rt
  ·rw [U0 w]; exact (P.sp k i hk hi).rt
 kid:=fun k i hk hi lv x hx=>by
  by_cases w:k+1=a/\i=z
  ·obtain ⟨e,rfl⟩:=w;subst e;rw [Bw] at hx;exact kid k rfl x hx
  ·rw [U0 w] at hx; exact Zek Gr hk hi hx
theorem Zlt (T:GoodT c l) (Gr:Gro l LO HI) {k:Nat} (hk:l.length=k+2):(Z2 l BL (k+1) 0).1=((k+1:Nat):Int):=by
 have top:=T.top;rw [show l.length - 1=k+1 by omega] at top;exact (Gr.nd (k:=k) (i:=0) (by omega) (by omega)).lvl
theorem noA (g:Geo c N B n) (T:GoodT c l) (Gr:Gro l LO HI) (P:RowsB c N K h l l.length BL) (h2:2<=l.length) {z:Nat} (hz:z<wd l 0) {m:Nd} (kd:∀ x∈m.2.1,0<=x/\x<4294967296) (rt:Ym c X9 m=true) (m0:m.1≠0):∃(nd:Nat->Nd) (A:Nat->Nat->Prop),DA c N (upd K (BL 0 z) (Xv c m)) A nd/\A (l.length - 1) (BL (l.length - 1) 0)/\(nd (BL (l.length - 1) 0)).1=((l.length - 1:Nat):Int)/\(dfs c nd (l.length - 1) (BL (l.length - 1) 0) ([],[],true) []).1=false:=by
 have top:=T.top;have X:=tbX Gr P (a:=0) (by omega) hz kd rt (fun k e=>absurd e (by omega));have D:=X.da g.ok;obtain ⟨k,ek⟩:∃ k,l.length=k+2:=⟨l.length - 2,by omega⟩;have hA:atL l BL (l.length - 1) (BL (l.length - 1) 0):=⟨0,by omega,by omega,rfl⟩;refine ⟨_,_,D,hA,?_,Bool.eq_false_iff.2 fun th=>?_⟩
 ·rw [X.nd g.ok (by omega) (by omega),show l.length - 1=k+1 by omega,U0 (by omega)];exact Zlt T Gr ek
 ·have t:=Zcr D _ _ _ [] hA rfl th;have fw:=Zhq Gr (d:=l.length - 1) (k:=l.length - 1) (Nat.le_refl _) (by omega);rw [top,Nat.sub_self] at fw;have tl:=Zi2 Gr (nd:=ndB c (upd K (BL 0 z) (Xv c m))) (fun k i hk hi=>by rw [X.nd g.ok hk hi,U0 (by omega)]) (j:=z) (l.length - 1) 0 (by omega) (by omega) (by rw [Zdd]; omega) (by rw [fw]; exact hz);have:=t.lv _ tl;dsimp only at this;rw [X.nd g.ok (by omega) hz,Bw] at this;exact m0 this
theorem noB (g:Geo c N B n) (T:GoodT c l) (Gr:Gro l LO HI) (P:RowsB c N K h l l.length BL) (h2:2<=l.length) {a b jj:Nat} (hab:a≠b) (ha:a<wd l 1) (hb:b<wd l 1) (hj:jj<(Z2 l BL 1 a).2.1.length) (hk0:0<(Z2 l BL 1 b).2.1.length) (rt:Ym c X9 ((Z2 l BL 1 a).1,(Z2 l BL 1 a).2.1.set jj ((Z2 l BL 1 b).2.1.getD 0 default),(Z2 l BL 1 a).2.2)=true):∃(nd:Nat->Nd) (A:Nat->Nat->Prop),DA c N (upd K (BL 1 a) (Xv c ((Z2 l BL 1 a).1,(Z2 l BL 1 a).2.1.set jj ((Z2 l BL 1 b).2.1.getD 0 default),(Z2 l BL 1 a).2.2))) A nd/\A (l.length - 1) (BL (l.length - 1) 0)/\(nd (BL (l.length - 1) 0)).1=((l.length - 1:Nat):Int)/\(dfs c nd (l.length - 1) (BL (l.length - 1) 0) ([],[],true) []).1=false:=by
 have top:=T.top;have hx0:=Yw (d:=default) hk0;obtain ⟨x,xw,ex⟩:=Zek Gr (k:=0) (by omega) hb hx0;have sub:∀ y∈(Z2 l BL 1 a).2.1.set jj ((Z2 l BL 1 b).2.1.getD 0 default),∃ j,j<wd l 0/\y=((BL 0 j:Nat):Int):=fun y hy=>by
  rcases List.mem_or_eq_of_mem_set hy with w | w
  ·exact Zek Gr (k:=0) (by omega) ha w
  ·exact ⟨x,xw,by rw [w,ex]⟩
 have sub2:∀ k,1=k+1->∀ y∈(Z2 l BL 1 a).2.1.set jj ((Z2 l BL 1 b).2.1.getD 0 default),∃ j,j<wd l k/\y=((BL k j:Nat):Int):=fun k e y hy=>by
  obtain rfl:k=0:=by omega
  exact sub y hy
 have X:=tbX Gr P (a:=1) (z:=a) (by omega) ha (m:=((Z2 l BL 1 a).1,(Z2 l BL 1 a).2.1.set jj ((Z2 l BL 1 b).2.1.getD 0 default),(Z2 l BL 1 a).2.2)) (fun y hy=>by
  obtain ⟨j,hj,e⟩:=sub y hy;have:=(P.sp 0 j (by omega) hj).bN;have:=g.N5;omega) rt sub2
 have D:=X.da g.ok;obtain ⟨k,ek⟩:∃ k,l.length=k+2:=⟨l.length - 2,by omega⟩;have hA:atL l BL (l.length - 1) (BL (l.length - 1) 0):=⟨0,by omega,by omega,rfl⟩;have k1:1<=k:=by
  rcases Nat.eq_zero_or_pos k with w | w
  ·rw [show l.length - 1=1 by omega] at top; omega
  ·exact w
 refine ⟨_,_,D,hA,?_,Bool.eq_false_iff.2 fun th=>?_⟩
 ·rw [X.nd g.ok (by omega) (by omega),show l.length - 1=k+1 by omega,U0 (by omega)];exact Zlt T Gr ek
 ·have t:=Zcr D _ _ _ [] hA rfl th;refine Zm8 T Gr (nd:=ndB c (upd K (BL 1 a) (Xv c ((Z2 l BL 1 a).1,(Z2 l BL 1 a).2.1.set jj ((Z2 l BL 1 b).2.1.getD 0 default),(Z2 l BL 1 a).2.2)))) (BL:=BL) (x:=BL 0 x) (fun k i hk hi=>by rw [X.nd g.ok hk hi,U0 (by omega)]) (by omega) hab ha hb ?_ ?_ t.nd'
  ·rw [X.nd g.ok (by omega) ha,Bw,<- ex];exact List.mem_set hj _
  ·rw [X.nd g.ok (by omega) hb,U0 (by omega),<- ex];exact hx0
end
theorem Ul (k:Nat) (hk:3000<=k):Q130.f k=some true:=by
 obtain ⟨k,rfl⟩:∃ k2,k=k2+3000:=⟨k - 3000,by omega⟩;kernel_rfl
section
variable {c:Cfg} {N B n t q:Nat} {s:Shf} {L:List Nat} {K:Nat->List Int} {h:Nat->Bool}
end
section
variable {c:Cfg}
theorem Zh9 {x:Spc} (hx:∀ y∈x.2.2.2,0<=y/\y<256) (hd:∀ y∈x.2.2.1,0<=y/\y<256) {wh:Nat} (hw:wh<65536) {m:Nd} (kd:∀ y∈m.2.1,0<=y/\y<4294967296) (tw:Bool):∃ k,Q128.f k c x (wh:Int) m tw=some true:=by
 obtain ⟨R,⟨b0,hb⟩,r⟩:=Zq6 (c:=c) hx hd;rcases r with r | ⟨r,s,N,B,n,t,L,K,h,BL,e,I⟩
 ·refine ⟨b0+3002,?_⟩;unfold Q128.f;rw [show Q124.f (b0+3002) c x=_ from hb _ (by omega),bS];cases e:R.1 with
  | none=>dsimp only [Vo]; rw [r,iT (by rfl),Q128.l0,iT rfl,Ul _ (by omega),bS]
  | some s=>dsimp only [Vo]; rw [r,iT (by rfl),Q128.l1,iT rfl,Ul _ (by omega),bS]
 ·obtain ⟨LO,HI,Gr⟩:=I.T.gro;have hne:=Gr.ne;have h6:=I.T.len;have ht:=I.t1;have N4:=I.N4;have wmod:Int.tmod (w64 (wh:Int))=Int.tmod (wh:Int):=by rw [wI2]
  have aw:∀ k,3001<k->Q128.l1 k (wh:Int) m tw R s true=some true:=fun k hk=>by
   obtain ⟨k,rfl⟩:=kS1 k;rw [Q128.l1,iT rfl,Ul _ (by omega),bS]
  have front:∀ k,4000<k->b0<=k->(SmallN m->2<=R.2.2.1.length->Q128.l1 k (wh:Int) m tw R s false=some true)->Q128.f k c x (wh:Int) m tw=some true:=fun k hk hb0 hl1=>by
   obtain ⟨g2,eg,h2⟩:=Zit m (k:=k) (by omega);unfold Q128.f;rw [show Q124.f k c x=_ from hb _ hb0,bS,e];dsimp only [Vo];rw [r,vS,eg,bS];cases g2 with
   | true=>rw [iT rfl]; exact aw k (by omega)
   | false=>
    rw [vS];by_cases q:R.2.2.1.length<2
    ·rw [dT]; exact aw k (by omega)
    ·rw [dF]; exact hl1 (h2 rfl) (by omega)
  by_cases pre:SmallN m/\2<=R.2.2.1.length
  ·obtain ⟨sm,l2⟩:=pre;cases tw with
   | false=>
    have wpos:0<wd R.2.2.1 0:=by have:=Zre I.T Gr 0 hne []; omega
    have wb:=I.T.wb 0 hne;obtain ⟨z,ez⟩:∃ z,z=wh % wd R.2.2.1 0:=⟨_,rfl⟩;have hz:z<wd R.2.2.1 0:=by rw [ez]; exact Nat.mod_lt _ wpos
    obtain ⟨s3,L3,t3,⟨b3,e3⟩,S3,u3⟩:=Zlf (w:=0) (by omega) I.g I.T Gr I.P I.S (by omega);have sk:=I.P.sp 0 z hne hz;have skN:=sk.bN;obtain ⟨s4,L4,⟨b4,e4⟩,S4,_⟩:=Zov I.g S3 (by omega) (i:=BL 0 z) (by omega) (nd:=m) ⟨sm,kd⟩;rw [iT ⟨sk.b1,sk.bN⟩] at e4;rw [<- I.rt] at e3;have rl:(Xr BL 0 (wd R.2.2.1 0)).length=wd R.2.2.1 0:=by unfold Xr; rw [length_map,length_range]
    have md:Int.tmod (w64 (wh:Int)) ((Xr BL 0 (wd R.2.2.1 0)).length:Int)=(z:Int):=by
     rw [wmod,rl,ez]; rfl
    have l2t:∀ k a b d e f g' h' i,3001<k->Q128.l2 k R a b d e f g' h' i true=some true:=fun k a b d e f g' h' i hk=>by
     obtain ⟨k,rfl⟩:=kS1 k;rw [Q128.l2,iT rfl,Ul _ (by omega),bS]
    have enter:∀ k,4000<k->b3+b4<=k->(m.1≠0->Ym c X9 m=true->Q128.l2 k R s4.1 s4.2.1.1 s4.2.1.2.2.2.2 s4.2.2.1 s4.2.1.2.1 s4.2.1.2.2.1 s4.2.1.2.2.2.1 s4.2.2.2 false=some true)->Q128.l1 (k+1) (wh:Int) m false R s false=some true:=fun k hk hbk hl2=>by
     rw [Q128.l1,vS,vS,show Q131.f k s R.2.1 (R.2.2.1.length:Int) 0=_ from e3 _ (by omega),bS];by_cases q:m.1=0
     ·rw [iT (dT q)]; exact l2t _ _ _ _ _ _ _ _ _ (by omega)
     ·rw [iF (by simpa using q)];dsimp only;rw [md,rl,iO,iO,Zv,J5 hz,show Q82.f k s3 _ m=_ from e4 k (by omega),bS];cases hr:Ym c X9 m with
      | false=>exact l2t _ _ _ _ _ _ _ _ _ (by omega)
      | true=>exact hl2 q hr
    by_cases post:m.1≠0/\Ym c X9 m=true
    ·obtain ⟨q1,q2⟩:=post;rw [iT ⟨⟨sk.b1,sk.bN⟩,q2⟩] at S4;obtain ⟨nd,A,D,rA,rL,no⟩:=noA I.g I.T Gr I.P l2 hz kd q2 q1;obtain ⟨s5,L5,t5,⟨b5,e5⟩,S5,u5⟩:=Zoo I.g D S4 (by omega) rA rL no;obtain ⟨ra,oa,s6,⟨b6,e6⟩⟩:=Zst I.g D S5 (by omega) rA rL;rw [<- I.rt] at e5 e6;refine ⟨b0+b3+b4+b5+b6+6003+1,front _ (by omega) (by omega) fun _ _=>enter _ (by omega) (by omega) fun _ _=>?_⟩;rw [Q128.l2,vS];show Option.bind (Q150.f _ s4 _) _=_;rw [show Q150.f _ s4 R.2.1=_ from e5 _ (by omega),bS];dsimp only;rw [show Q148.f _ s5 R.2.1 true []=_ from e6 _ (by omega),bS,iT (by rfl),iT (by rfl),iT rfl,Ul _ (by omega),bS]
    ·exact ⟨b0+b3+b4+6003+1,front _ (by omega) (by omega) fun _ _=>enter _ (by omega) (by omega) fun q1 q2=>absurd ⟨q1,q2⟩ post⟩
   | true=>
    have wb:=I.T.wb 1 (by omega);have wpos:0<wd R.2.2.1 1:=by have:=Zre I.T Gr 1 (by omega) []; omega
    obtain ⟨a,ea⟩:∃ a,a=wh % wd R.2.2.1 1:=⟨_,rfl⟩;have ha:a<wd R.2.2.1 1:=by rw [ea]; exact Nat.mod_lt _ wpos
    obtain ⟨b,eb⟩:∃ b,b=(a+1) % wd R.2.2.1 1:=⟨_,rfl⟩;have hb':b<wd R.2.2.1 1:=by rw [eb]; exact Nat.mod_lt _ wpos
    obtain ⟨s3,L3,t3,⟨b3,e3⟩,S3,u3⟩:=Zlf (w:=1) (by omega) I.g I.T Gr I.P I.S (by omega);have ska:=I.P.sp 1 a (by omega) ha;have skb:=I.P.sp 1 b (by omega) hb';have skN:=ska.bN;obtain ⟨s4,L4,⟨b4,e4⟩,S4,_⟩:=Zkr I.g S3 (by omega) ska;obtain ⟨s5,L5,⟨b5,e5⟩,S5,_⟩:=Zkr I.g S4 (by omega) skb;have na:=Gr.nd (k:=0) (by omega) ha;have nb:=Gr.nd (k:=0) (by omega) hb';have la:(Z2 R.2.2.1 BL 1 a).2.1.length=(ndT R.2.2.1 1 a).2.1.length:=by unfold Z2; rw [length_map]
    have lb:(Z2 R.2.2.1 BL 1 b).2.1.length=(ndT R.2.2.1 1 b).2.1.length:=by unfold Z2; rw [length_map]
    have pa:(ndT R.2.2.1 1 a).2.2.1.length+1=(ndT R.2.2.1 1 a).2.1.length:=na.pvl;have pb:(ndT R.2.2.1 1 b).2.2.1.length+1=(ndT R.2.2.1 1 b).2.1.length:=nb.pvl;have fa:=ska.sm.kids;obtain ⟨jj,ej⟩:∃ jj,jj=wh % (Z2 R.2.2.1 BL 1 a).2.1.length:=⟨_,rfl⟩;have hj:jj<(Z2 R.2.2.1 BL 1 a).2.1.length:=by rw [ej]; exact Nat.mod_lt _ (by omega)
    have hk0:0<(Z2 R.2.2.1 BL 1 b).2.1.length:=by omega
    have k0:=skb.kd _ (Yw (d:=default) hk0);obtain ⟨s6,L6,⟨b6,e6⟩,S6,_⟩:=Zov I.g S5 (by omega) (i:=BL 1 a) (by omega) (nd:=((Z2 R.2.2.1 BL 1 a).1,(Z2 R.2.2.1 BL 1 a).2.1.set jj ((Z2 R.2.2.1 BL 1 b).2.1.getD 0 default),(Z2 R.2.2.1 BL 1 a).2.2)) ⟨ska.sm.sub (by rw [length_set]; exact Nat.le_refl _) (List.Sublist.refl _) (List.Sublist.refl _) (List.Sublist.refl _),fun y hy=>by
     rcases List.mem_or_eq_of_mem_set hy with w | w
     ·exact ska.kd y w
     ·rw [w]; exact k0⟩
    rw [iT ⟨ska.b1,ska.bN⟩] at e6;rw [<- I.rt] at e3;have rl:(Xr BL 1 (wd R.2.2.1 1)).length=wd R.2.2.1 1:=by unfold Xr; rw [length_map,length_range]
    have md:Int.tmod (w64 (wh:Int)) ((Xr BL 1 (wd R.2.2.1 1)).length:Int)=(a:Int):=by
     rw [wmod,rl,ea]; rfl
    have md2:Int.tmod (w64 ((a:Int)+1)) ((Xr BL 1 (wd R.2.2.1 1)).length:Int)=(b:Int):=by
     rw [wS2,rl,eb]; rfl
    have md3:Int.tmod (w64 (wh:Int)) ((Z2 R.2.2.1 BL 1 a).2.1.length:Int)=(jj:Int):=by
     rw [wmod,ej]; rfl
    have enter:∀ k,4000<k->b3+b4+b5+b6<=k->(2<=wd R.2.2.1 1->Ym c X9 ((Z2 R.2.2.1 BL 1 a).1,(Z2 R.2.2.1 BL 1 a).2.1.set jj ((Z2 R.2.2.1 BL 1 b).2.1.getD 0 default),(Z2 R.2.2.1 BL 1 a).2.2)=true->∃ r s',Q150.f k s6 R.2.1=some (r,12,s'))->Q128.l1 (k+1) (wh:Int) m true R s false=some true:=fun k hk hbk hl2=>by
     rw [Q128.l1,vS,iT rfl,show Q131.f k s R.2.1 (R.2.2.1.length:Int) 1=_ from e3 _ (by omega),bS];dsimp only;rw [md,md2,rl,iO,iO,Zv,J5 ha,show Q80.f k s3 _=_ from e4 k (by omega),bS];dsimp only;rw [iO,Zv,J5 hb',show Q80.f k s4 _=_ from e5 k (by omega),bS];by_cases q:wd R.2.2.1 1<2
     ·rw [iP,Ul _ (by omega),bS]
     ·rw [iN];dsimp only;rw [iO,iO,md3,iO,tN,show gt (Z2 R.2.2.1 BL 1 b).2.1 0=(Z2 R.2.2.1 BL 1 b).2.1.getD 0 default from Zv _ 0,show Q82.f k s5 _ _=_ from e6 k (by omega),bS];cases hr:Ym c X9 ((Z2 R.2.2.1 BL 1 a).1,(Z2 R.2.2.1 BL 1 a).2.1.set jj ((Z2 R.2.2.1 BL 1 b).2.1.getD 0 default),(Z2 R.2.2.1 BL 1 a).2.2) with
      | false=>rw [iT (by rfl),Ul _ (by omega),bS]
      | true=>
       obtain ⟨r,s',el⟩:=hl2 (by omega) hr;rw [vS,el,bS,iT (by rfl),Ul _ (by omega),bS]
    by_cases post:2<=wd R.2.2.1 1/\Ym c X9 ((Z2 R.2.2.1 BL 1 a).1,(Z2 R.2.2.1 BL 1 a).2.1.set jj ((Z2 R.2.2.1 BL 1 b).2.1.getD 0 default),(Z2 R.2.2.1 BL 1 a).2.2)=true
    ·obtain ⟨q1,q2⟩:=post;rw [iT ⟨⟨ska.b1,ska.bN⟩,q2⟩] at S6;have hab:a≠b:=fun z=>by
      rw [<- z] at eb;rcases Nat.lt_or_ge (a+1) (wd R.2.2.1 1) with w | w
      ·rw [Nat.mod_eq_of_lt w] at eb; omega
      ·rw [show a+1=wd R.2.2.1 1 by omega,Nat.mod_self] at eb; omega
     obtain ⟨nd,A,D,rA,rL,no⟩:=noB I.g I.T Gr I.P l2 hab ha hb' hj hk0 q2;obtain ⟨s7,L7,t7,⟨b7,e7⟩,S7,u7⟩:=Zoo I.g D S6 (by omega) rA rL no;rw [<- I.rt] at e7;exact ⟨b0+b3+b4+b5+b6+b7+6003+1,front _ (by omega) (by omega) fun _ _=>enter _ (by omega) (by omega) fun _ _=>⟨_,_,e7 _ (by omega)⟩⟩
    ·exact ⟨b0+b3+b4+b5+b6+6003+1,front _ (by omega) (by omega) fun _ _=>enter _ (by omega) (by omega) fun q1 q2=>absurd ⟨q1,q2⟩ post⟩
  ·exact ⟨b0+5000,front _ (by omega) (by omega) fun a b=>absurd ⟨a,b⟩ pre⟩
end
theorem Zrk {n1 n2 n3 n4:Nat} {x:Spc} (h:Ty.fit (Vu tt) (.pair (.slice n1 (.pair .str .str)) (.pair (.slice n2 (.pair .str (.pair .bool .str))) (.pair (.slice n3 (.int .u8)) (.slice n4 (.int .u8))))) x):(∀ y∈x.2.2.2,0<=y/\y<256)/\∀ y∈x.2.2.1,0<=y/\y<256:=by
 have h1:IntKind.u8.min=0:=rfl;have h2:IntKind.u8.max=255:=rfl;refine ⟨fun y hy=>?_,fun y hy=>?_⟩
 ·have:=h.2.2.2.2.2 y hy;simp [Ty.fit,Lit.wf] at this;omega
 ·have:=h.2.2.1.2.2 y hy;simp [Ty.fit,Lit.wf] at this;omega
theorem WalkCorrupt_pure {p:Prop} {n1 n2 n3 n4 n5 n6 n7 n8:Nat} (c:Cfg) (x:Spc) (wh:Int) (m:Nd) (tw:Bool) (_:p) (hx:Ty.fit (Vu tt) (.pair (.slice n1 (.pair .str .str)) (.pair (.slice n2 (.pair .str (.pair .bool .str))) (.pair (.slice n3 (.int .u8)) (.slice n4 (.int .u8))))) x) (hw:Ty.fit (Vu tt) (.int .u16) wh) (hm:Ty.fit (Vu tt) (.pair (.int .i64) (.pair (.slice n5 (.int .u32)) (.pair (.slice n6 .str) (.pair (.slice n7 (.pair .str (.pair .bool .str))) (.slice n8 (.pair .str .str)))))) m) (_:Ty.fit (Vu tt) .bool tw):∃ k,Q128.f k c x wh m tw=some true:=by
 have h0:0<=wh/\wh<65536:=by
  have h1:IntKind.u16.min=0:=rfl;have h2:IntKind.u16.max=65535:=rfl;simp [Ty.fit,Lit.wf] at hw;omega
 obtain ⟨w,rfl⟩:=Int.eq_ofNat_of_zero_le h0.1;refine Zh9 (Zrk hx).1 (Zrk hx).2 (by omega) (fun y hy=>?_) tw;have h1:IntKind.u32.min=0:=rfl;have h2:IntKind.u32.max=4294967295:=rfl;have:=hm.2.1.2.2 y hy;simp [Ty.fit,Lit.wf] at this;omega
end Go.SK.T
