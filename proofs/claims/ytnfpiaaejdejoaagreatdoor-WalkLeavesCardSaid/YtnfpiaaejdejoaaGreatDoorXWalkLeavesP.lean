/- The plain law behind WalkLeaves: what its code computes is true for all settings, trees, leaves and nodes. -/
import Derived.Test.YtnfpiaaejdejoaaGreatDoorXWalkLeavesP0
import Derived.KernelRfl
import Derived.Sort.Walk13a
import Derived.Sort.AssemblyPlain
set_option linter.unusedVariables false
set_option linter.unusedSimpArgs false
namespace Go.SK.T
open Go Go.SK
open BitVec (ofInt)
open List (length_set length_nil append_assoc length_cons drop_eq_nil_of_le length_take length_drop length_map length_range length_replicate)
theorem Zb5 {g:Nat->Nat}:∀ {L:List Nat} {a:Nat},(∀ x∈L,g x=g a->x=a)->(L.erase a).map g=(L.map g).erase (g a)
 | [],_,_=>rfl
 | x :: L,a,h=>by
  rw [List.map_cons,List.erase_cons,List.erase_cons];by_cases q:x=a
  ·subst q; simp
  ·have:¬ g x=g a:=fun e=>q (h x (by simp) e);simp only [beq_iff_eq,q,this,if_false,List.map_cons];rw [Zb5 fun y hy=>h y (by simp [hy])]
section
variable {N B n t:Nat} {H:List Nat} {c:Ca} {L:List Nat}
theorem Ua (h:CaI N B n t H c L) {i f:Nat} (ha:((i:Int),(f:Int))∈c.2.2.1):Xy c i=some (fm (c.2.1.getD f default)):=by
 unfold Xy;rw [iT (mhas_iff.2 ⟨_,ha⟩),Wk h.mnd ha,tN]
theorem U9 {i:Nat} (h:∀ v,((i:Int),v)∉c.2.2.1):Xy c i=none:=by
 unfold Xy;rw [iF fun q=>by obtain ⟨v,hv⟩:=mhas_iff.1 q; exact h v hv]
theorem V1 (h:CaI N B n t [] c L) {f:Nat} (hf:f∈L):∃ i:Nat,((i:Int),(f:Int))∈c.2.2.1/\Wg c f=i/\(c.2.1.getD f default).2.2.2=0/\Okf N B n t c i f:=by
 obtain ⟨⟨j,hj⟩,hp⟩:=(h.lok f).1 hf;obtain ⟨i,f',e1,e2,ok⟩:=h.at hj;have:f=f':=by omega
 subst this;refine ⟨i,by rw [<- e1]; exact hj,?_,hp,ok⟩;unfold Wg;rw [ok.blk,tN]
theorem Gv (h:CaI N B n t H c L) {i f:Nat} (ha:((i:Int),(f:Int))∈c.2.2.1):Wg c f=i:=by
 unfold Wg; rw [(h.atN ha).blk,tN]
theorem Zby (h:CaI N B n t H c L) {i f f':Nat} (h1:((i:Int),(f:Int))∈c.2.2.1) (h2:((i:Int),(f':Int))∈c.2.2.1):f=f':=by
 have a1:=Wk (d:=0) h.mnd h1;have a2:=Wk (d:=0) h.mnd h2;omega
theorem Bg (h:CaI N B n t [] c L) {i f:Nat} (ha:((i:Int),(f:Int))∈c.2.2.1):(L.erase f).map (Wg c)=(L.map (Wg c)).erase i:=by
 have e:=Gv h ha
 conv=>rhs; rw [<- e]
 refine Zb5 fun x hx q=>?_;obtain ⟨j,hj,e2,_⟩:=V1 h hx;have:j=i:=by omega
 subst this;exact Zby h hj ha
theorem Zq2 (h:CaI N B n t [] c L) {i f:Nat} (ha:((i:Int),(f:Int))∈c.2.2.1):i∈L.map (Wg c)↔f∈L:=by
 constructor
 ·intro q;obtain ⟨x,hx,e⟩:=List.mem_map.1 q;obtain ⟨j,hj,e2,_⟩:=V1 h hx;have:j=i:=by omega
  subst this;rw [<- Zby h hj ha]; exact hx
 ·intro q;exact List.mem_map.2 ⟨f,q,Gv h ha⟩
theorem Zf5 {f:Nat} {x:Fr8} (hf:f<c.2.1.length) {d:Dv} {mp:TU} {E:T3} {ch:Chn} (k:Nat):Wg (d,c.2.1.set f x,mp,E,ch) k=if f=k then x.1.toNat else Wg c k:=by
 unfold Wg
 try dsimp only
 rw [Xg hf];split <;> rfl
theorem Vo {f:Nat} {x:Fr8} (hf:f<c.2.1.length) (hx:x.1.toNat=Wg c f) {d:Dv} {mp:TU} {E:T3} {ch:Chn} (M:List Nat):M.map (Wg (d,c.2.1.set f x,mp,E,ch))=M.map (Wg c):=List.map_congr_left fun k _=>by
 rw [Zf5 hf];split
 ·rename_i q; rw [hx,q]
 ·rfl
theorem Jm {f:Nat} {x:Fr8} (hf:f<c.2.1.length) {d:Dv} {mp:TU} {E:T3} {ch:Chn} {M:List Nat} (hM:f∉M):M.map (Wg (d,c.2.1.set f x,mp,E,ch))=M.map (Wg c):=List.map_congr_left fun k hk=>by
 rw [Zf5 hf,iF fun q=>hM (by rw [q]; exact hk)]
theorem U7 (h:CaI N B n t H c L) {i f:Nat} (ha:((i:Int),(f:Int))∈c.2.2.1) {x:Fr8} {d:Dv} {E:T3} {ch:Chn} (j:Nat):Xy (d,c.2.1.set f x,c.2.2.1,E,ch) j=upd (Xy c) i (some (fm x)) j:=by
 have ok:=h.atN ha;have hfl:f<c.2.1.length:=by rw [h.frl]; exact ok.hf
 by_cases q:j=i
 ·subst q;rw [Z8];unfold Xy
  try dsimp only
  rw [iT (mhas_iff.2 ⟨_,ha⟩),Wk h.mnd ha,tN,Xg hfl,iT rfl]
 ·rw [Yj q];unfold Xy
  try dsimp only
  split
  ·rename_i hm;obtain ⟨v,hv⟩:=mhas_iff.1 hm;obtain ⟨j',f',e1,rfl,ok'⟩:=h.at hv;have e3:j=j':=by omega
   subst e3;rw [Wk h.mnd hv,tN,Xg hfl,iF];intro e; subst e; exact q (h.one hv ha)
  ·rfl
theorem Zfx (h:CaI N B n t H c L) (i j:Nat):Xa (Ws (i:Int) c.2.2.1) (j:Int)=(Xa c.2.2.1 (j:Int) && decide (j≠i)):=by
 rw [Bool.eq_iff_iff,mhas_iff,Bool.and_eq_true,mhas_iff,dE];constructor
 ·rintro ⟨v,hv⟩;rw [Ul h.mnd] at hv;exact ⟨⟨v,hv.1⟩,fun e=>hv.2 (by rw [e])⟩
 ·rintro ⟨⟨v,hv⟩,e⟩;exact ⟨v,(Ul h.mnd).2 ⟨hv,fun q=>e (by have:(j:Int)=i:=q; omega)⟩⟩
theorem Zek (h:CaI N B n t H c L) {i f:Nat} (ha:((i:Int),(f:Int))∈c.2.2.1) {x:Fr8} {d:Dv} {E:T3} {ch:Chn} (j:Nat):Xy (d,c.2.1.set f x,Ws (i:Int) c.2.2.1,E,ch) j=upd (Xy c) i none j:=by
 have ok:=h.atN ha;have hfl:f<c.2.1.length:=by rw [h.frl]; exact ok.hf
 by_cases q:j=i
 ·subst q;rw [Z8];unfold Xy
  try dsimp only
  rw [iF (by rw [Zfx h]; simp)]
 ·rw [Yj q];unfold Xy
  try dsimp only
  rw [Zfx h];by_cases hm:Xa c.2.2.1 (j:Int)=true
  ·obtain ⟨v,hv⟩:=mhas_iff.1 hm;obtain ⟨j',f',e1,rfl,ok'⟩:=h.at hv;have e3:j=j':=by omega
   subst e3;have hv':((j:Int),(f':Int))∈Ws (i:Int) c.2.2.1:=(Ul h.mnd).2 ⟨hv,fun e=>q (by have:(j:Int)=i:=e; omega)⟩;rw [iT (by rw [hm]; simp [q]),iT hm,Wk ((mdel_sub.map _).nodup h.mnd) hv',Wk h.mnd hv,tN,Xg hfl,iF];intro e; subst e; exact q (h.one hv ha)
  ·rw [iF hm,iF (by simp [hm])]
theorem Zgg {f:Nat} (h:CaI N B n t [f] c L) {i:Nat} (hno:∀ v,((i:Int),v)∉c.2.2.1) {x:Fr8} {d:Dv} {E:T3} {ch:Chn} (j:Nat):Xy (d,c.2.1.set f x,c.2.2.1 ++ [((i:Int),(f:Int))],E,ch) j=upd (Xy c) i (some (fm x)) j:=by
 obtain ⟨hf,hfe,hfm⟩:=h.hol f (by simp);have hfl:f<c.2.1.length:=by rw [h.frl]; exact hf
 have hnd:((c.2.2.1 ++ [((i:Int),(f:Int))]).map Prod.fst).Nodup:=by
  rw [List.map_append,List.nodup_append];refine ⟨h.mnd,by simp,fun a ha b hb e=>?_⟩;obtain ⟨p,hp,rfl⟩:=List.mem_map.1 ha;simp only [List.map_cons,List.map_nil,List.mem_singleton] at hb;exact hno p.2 (by rw [<- hb,<- e]; exact hp)
 unfold Xy
 try dsimp only
 by_cases q:j=i
 ·subst q;have hv:((j:Int),(f:Int))∈c.2.2.1 ++ [((j:Int),(f:Int))]:=by simp
  rw [Z8,iT (mhas_iff.2 ⟨_,hv⟩),Wk hnd hv,tN,Xg hfl,iT rfl]
 ·rw [Yj q];by_cases hm:Xa c.2.2.1 (j:Int)=true
  ·obtain ⟨v,hv⟩:=mhas_iff.1 hm;obtain ⟨j',f',e1,rfl,ok'⟩:=h.at hv;have e3:j=j':=by omega
   subst e3;have hv':((j:Int),(f':Int))∈c.2.2.1 ++ [((i:Int),(f:Int))]:=by simp [hv]
   rw [iT (mhas_iff.2 ⟨_,hv'⟩),iT hm,Wk hnd hv',Wk h.mnd hv,tN,Xg hfl,iF];intro e; subst e; exact hfm _ hv
  ·rw [iF hm,iF];intro hm2;obtain ⟨v,hv⟩:=mhas_iff.1 hm2;rcases List.mem_append.1 hv with hv | hv
   ·exact hm (mhas_iff.2 ⟨v,hv⟩)
   ·rw [List.mem_singleton,Prod.mk.injEq] at hv;exact q (by omega)
theorem Zp8 (h:CaI N B n t H c L) {i:Nat} {x:Fm} (hx:Xy c i=some x):i<N/\x.b.length=B/\x.p<=t:=by
 unfold Xy at hx;split at hx
 ·rename_i hm;obtain ⟨v,hv⟩:=mhas_iff.1 hm;obtain ⟨j',f',e1,rfl,ok'⟩:=h.at hv;have e3:i=j':=by omega
  subst e3;rw [Wk h.mnd hv,tN] at hx;injection hx with hx;subst hx;refine ⟨ok'.hi,ok'.len,?_⟩;have:=ok'.pin;unfold fm
  try dsimp only
  omega
 ·cases hx
end
namespace MC
section
variable {N B n i:Nat} {m k:MC} {x:Fm} {b:T3}
theorem pin_out (h:N<=i):m.pin N B n i=(4,m):=by unfold pin; rw [iT h]
theorem pin_hit (h:¬ N<=i) (e:m.fr i=some x):m.pin N B n i=(0,(m.put i ⟨x.b,x.d,x.p+1⟩).cut i):=by unfold pin; rw [iF h,e]
theorem pin_full (h:¬ N<=i) (e:m.fr i=none) (r:m.room B n=none):m.pin N B n i=(7,m):=by unfold pin; rw [iF h,e,r]
theorem pin_miss (h:¬ N<=i) (e:m.fr i=none) (r:m.room B n=some k):m.pin N B n i=(0,(⟨k.img,k.rd+1,k.wr,k.fr,k.used,k.row⟩:MC).come i ⟨blk k.img B i,false,1⟩):=by unfold pin; rw [iF h,e,r]
theorem fresh_out (h:N<=i):m.fresh N B n i=(4,m):=by unfold fresh; rw [iT h]
theorem fresh_pin (h:¬ N<=i) (e:m.fr i=some x) (p:0<x.p):m.fresh N B n i=(8,m):=by unfold fresh; rw [iF h,e]; exact iT p
theorem fresh_hit (h:¬ N<=i) (e:m.fr i=some x) (p:¬ 0<x.p):m.fresh N B n i=(0,(m.put i ⟨List.replicate B 0,true,1⟩).cut i):=by unfold fresh; rw [iF h,e]; exact iF p
theorem fresh_full (h:¬ N<=i) (e:m.fr i=none) (r:m.room B n=none):m.fresh N B n i=(7,m):=by unfold fresh; rw [iF h,e,r]
theorem fresh_miss (h:¬ N<=i) (e:m.fr i=none) (r:m.room B n=some k):m.fresh N B n i=(0,k.come i ⟨List.replicate B 0,true,1⟩):=by unfold fresh; rw [iF h,e,r]
theorem unpin_no (e:m.fr i=none):m.unpin i=(8,m):=by unfold unpin; rw [e]
theorem unpin_out (e:m.fr i=some x) (p:x.p=0):m.unpin i=(8,m):=by unfold unpin; rw [e]; exact iT p
theorem unpin_one (e:m.fr i=some x) (p:x.p=1):m.unpin i=(0,⟨m.img,m.rd,m.wr,upd m.fr i (some ⟨x.b,x.d,0⟩),m.used,i :: m.row⟩):=by unfold unpin; rw [e]; dsimp only; rw [iQ,iT p]
theorem unpin_more (e:m.fr i=some x) (p:x.p≠0) (q:x.p≠1):m.unpin i=(0,m.put i ⟨x.b,x.d,x.p - 1⟩):=by unfold unpin; rw [e]; dsimp only; rw [iF p,iF q]
theorem write_no (e:m.fr i=none):m.write B i b=(8,m):=by unfold write; rw [e]
theorem write_out (e:m.fr i=some x) (p:x.p=0):m.write B i b=(8,m):=by unfold write; rw [e]; exact iT p
theorem write_form (e:m.fr i=some x) (p:x.p≠0) (q:b.length≠B):m.write B i b=(3,m):=by unfold write; rw [e]; dsimp only; rw [iF p,iF q]
theorem write_hit (e:m.fr i=some x) (p:x.p≠0) (q:b.length=B):m.write B i b=(0,m.put i ⟨b,true,x.p⟩):=by unfold write; rw [e]; dsimp only; rw [iF p,iT q]
theorem read_no (e:m.fr i=none):m.read i=([],8):=by unfold read; rw [e]
theorem read_out (e:m.fr i=some x) (p:x.p=0):m.read i=([],8):=by unfold read; rw [e]; exact iT p
theorem read_hit (e:m.fr i=some x) (p:x.p≠0):m.read i=(x.b,0):=by unfold read; rw [e]; exact iF p
theorem evict_eq (e:m.fr i=some x):m.evict B i=⟨if x.d=true then patch m.img (i*B) B x.b else m.img,m.rd,if x.d=true then m.wr+1 else m.wr,upd m.fr i none,m.used - 1,m.row.erase i⟩:=by unfold evict; rw [e]
end
end MC
section
variable {N B n t:Nat} {H:List Nat} {c:Ca} {L:List Nat}
theorem Zqs {α:Type} (g:Nat->α) (i:Nat) (u v:α) (j:Nat):upd (upd g i u) i v j=upd g i v j:=by unfold upd; split <;> rfl
theorem Znu {α:Type} {g g':Nat->α} (h:∀ j,g j=g' j) (i:Nat) (v:α) (j:Nat):upd g i v j=upd g' i v j:=by unfold upd; split; rfl; exact h j
theorem Ziu (h:CaI N B n t [] c L) (f:Nat):f∉L.erase f:=fun q=>(h.chn.nd.mem_erase_iff.1 q).1 rfl
theorem Zpn (z:Siz N B n) (h:CaI N B n t [] c L) (hw:0<=c.1.2.2.2/\c.1.2.2.2<=1000000000):(Q21.f c=some (0,false,c)/\(Z6 c L).room B n=none)\/
  ∃(f:Nat) (c':Ca) (L':List Nat),Q21.f c=some ((f:Int),true,c')/\CaI N B n t [f] c' L'/\(Z6 c L).room B n=some (Z6 c' L')/\f∉L':=by
 have h64:=z.h64;have htot:=h.tot;have hfl:=h.frl;have wr:uH.wrap (c.1.2.2.2+1)=c.1.2.2.2+1:=Zpo hw;have hru:(Z6 c L).used=c.2.2.1.length:=rfl;by_cases he:c.2.2.2.1=[]
 ·have e0:(decide ((c.2.2.2.1.length:Int)=0))=true:=by rw [he]; rfl
  have eu:¬ (Z6 c L).used<n:=by rw [hru]; rw [he] at htot; simp only [length_nil] at htot; omega
  rcases List.eq_nil_or_concat L with rfl | ⟨L0,q,hq⟩
  ·left;refine ⟨?_,?_⟩
   ·unfold Q21.f;rw [iT e0,show Q25.f (c.2.2.2.2.1,c.2.2.2.2.2)=_ from Zfu h.chn,bS,iU]
   ·unfold MC.room;rw [iF eu];rfl
  ·right;rw [List.concat_eq_append] at hq;subst hq;obtain ⟨⟨j,hj⟩,hp⟩:=(h.lok q).1 (by simp);obtain ⟨i,q',rfl,e2,ok⟩:=h.at hj;have:q=q':=by omega
   subst this;have hf:=ok.hf;have hqn:q∉(L0 ++ [q]).erase q:=Ziu h q;have hfr:=Ua h hj;have g:gt c.2.1 (q:Int)=c.2.1.getD q default:=Zt _ _;have hrm:(Z6 c (L0 ++ [q])).room B n=some ((Z6 c (L0 ++ [q])).evict B i):=by
    unfold MC.room;rw [iF eu];have:(Z6 c (L0 ++ [q])).row.getLast?=some i:=by
     show ((L0 ++ [q]).map (Wg c)).getLast?=_;rw [List.map_append,List.map_cons,List.map_nil,List.getLast?_concat,Gv h hj]
    rw [this]
   have hml:=Zde (mhas_iff.2 ⟨_,hj⟩);unfold Q21.f;rw [iT e0,show Q25.f (c.2.2.2.2.1,c.2.2.2.2.2)=_ from Zpp h.chn (by omega),bS,vS]
   try dsimp only
   rw [iO];have one:w64 ((([] ++ [(q:Int)]:List Int).length:Int) - 1)=0:=by
    show w64 (((1:Nat):Int) - 1)=0;decide
   rw [hrm,MC.evict_eq (show (Z6 c (L0 ++ [q])).fr i=_ from hfr)];by_cases hd:(gt c.2.1 (q:Int)).2.2.1=true
   ·have hb:=h.back z hj (c.1.2.2.1,c.1.2.2.2+1);obtain ⟨ch,e,hl⟩:=Zea z hb (by exact hj);have hd':(fm (c.2.1.getD q default)).d=true:=by rw [<- g]; exact hd
    rw [iT hd,show Q53.f (c.1.1,c.1.2.1,(c.1.2.2.1,c.1.2.2.2)) (gt c.2.1 (q:Int)).1 (gt c.2.1 (q:Int)).2.1=_ from Znl z h hj,bS]
    try dsimp only
    rw [wr,tN,show Q19.f ((c.1.1,patch c.1.2.1 (i*B) B (gt c.2.1 (q:Int)).2.1,c.1.2.2.1,c.1.2.2.2+1),c.2.1.set q ((gt c.2.1 (q:Int)).1,(gt c.2.1 (q:Int)).2.1,false,(gt c.2.1 (q:Int)).2.2.2),c.2.2.1,c.2.2.2.1,c.2.2.2.2.1,c.2.2.2.2.2) (q:Int)=_ from e,bS]
    try dsimp only
    rw [he,one,iU,iU,iT hd',iT hd'];refine ⟨q,_,(L0 ++ [q]).erase q,rfl,hl.take (E:=[]) (by dsimp only; rw [he]),congrArg some (MC.ext' ?_ rfl rfl ?_ ?_ ?_),hqn⟩
    ·show patch c.1.2.1 (i*B) B (fm (c.2.1.getD q default)).b=_;rw [<- g]; rfl
    ·intro j;show upd (Xy c) i none j=_;refine Eq.trans ?_ (Zek hb hj j).symm;refine Eq.trans (Zqs (Xy c) i _ none j).symm (Znu (fun j=>(U7 h hj j).symm) i none j)
    ·show c.2.2.1.length - 1=(Ws (i:Int) c.2.2.1).length;omega
    ·show ((L0 ++ [q]).map (Wg c)).erase i=_;have hfl2:=hb.frl;refine Eq.trans (Bg h hj).symm ?_;refine Eq.trans ?_ (Jm (c:=((c.1.1,patch c.1.2.1 (i*B) B (gt c.2.1 (q:Int)).2.1,c.1.2.2.1,c.1.2.2.2+1),c.2.1.set q ((gt c.2.1 (q:Int)).1,(gt c.2.1 (q:Int)).2.1,false,(gt c.2.1 (q:Int)).2.2.2),c.2.2)) (by rw [hfl2]; exact hf) hqn).symm;exact (Vo (by omega) (by rw [g]; rfl) _).symm
   ·obtain ⟨ch,e,hl⟩:=Zea z h hj;have hd':¬ (fm (c.2.1.getD q default)).d=true:=by rw [<- g]; exact hd
    rw [iF hd,show Q19.f ((c.1.1,c.1.2.1,(c.1.2.2.1,c.1.2.2.2)),c.2.1,c.2.2.1,c.2.2.2.1,(c.2.2.2.2.1,c.2.2.2.2.2)) (q:Int)=_ from e,bS]
    try dsimp only
    rw [he,one,iU,iU,iF hd',iF hd'];refine ⟨q,_,(L0 ++ [q]).erase q,rfl,hl.take (E:=[]) (by dsimp only; rw [he]),congrArg some (MC.ext' rfl rfl rfl ?_ ?_ ?_),hqn⟩
    ·intro j;exact (Zek h hj j).symm
    ·show c.2.2.1.length - 1=(Ws (i:Int) c.2.2.1).length;omega
    ·show ((L0 ++ [q]).map (Wg c)).erase i=_;refine Eq.trans (Bg h hj).symm ?_;exact (Jm (by omega) hqn).symm
 ·right;obtain ⟨E,x,hx⟩:∃ E x,c.2.2.2.1=E ++ [x]:=by
   rcases List.eq_nil_or_concat c.2.2.2.1 with e | ⟨E,x,e⟩
   ·exact absurd e he
   ·exact ⟨E,x,by rw [e,List.concat_eq_append]⟩
  obtain ⟨f,rfl,hf⟩:=h.emp x (by rw [hx]; simp);have hll:c.2.2.2.1.length=E.length+1:=by rw [hx]; simp
  have e1:w64 ((c.2.2.2.1.length:Int) - 1)=(E.length:Int):=by rw [wI2]; omega
  unfold Q21.f;rw [iN,e1,iO,iO,tN];have e2:gt c.2.2.2.1 (E.length:Int)=(f:Int):=by
   rw [Zt,hx,List.getD_eq_getElem?_getD,List.getElem?_append_right (Nat.le_refl _)]; simp
  have e3:c.2.2.2.1.take E.length=E:=by rw [hx,List.take_left]
  rw [e2,e3];refine ⟨f,_,L,rfl,h.take hx,?_,fun q=>?_⟩
  ·unfold MC.room;rw [iT (by rw [hru]; omega)];rfl
  ·obtain ⟨i,hi,_,_,ok⟩:=V1 h q;exact ok.emp (by rw [hx]; simp)
theorem Ztt (z:Siz N B n) (h:CaI N B n t [] c L) (fw:Few c) (ht:t<=1000000) (i:Nat) (hi:i<4294967296):∃ c' L',Q15.f c (i:Int)=some (((Z6 c L).pin N B n i).1,c')/\CaI N B n (t+1) [] c' L'/\Z6 c' L'=((Z6 c L).pin N B n i).2:=by
 have h64:=z.h64;have hfl:=h.frl;unfold Q15.f;rw [show Q22.f ((c.1.1,c.1.2.1,(c.1.2.2.1,c.1.2.2.2)),c.2.1,c.2.2.1,c.2.2.2.1,(c.2.2.2.2.1,c.2.2.2.2.2)) (i:Int)=_ from Zmm z h i hi,bS];by_cases q:N<=i
 ·rw [iT q,iU,MC.pin_out q];exact ⟨_,L,rfl,h.mono (Nat.le_succ t),rfl⟩
 ·rw [iF q,vS];rcases h.get i with ⟨g1,g2⟩ | ⟨f,ha,g1,g2,ok⟩
  ·have hno:(Z6 c L).fr i=none:=U9 g2;rw [iF (by simp [g1])];rcases Zpn z h ⟨fw.wr.1,by have:=fw.wr.2; omega⟩ with ⟨e,er⟩ | ⟨f,c1,L1,e,h1,er,hfL⟩
   ·rw [show Q21.f ((c.1.1,c.1.2.1,(c.1.2.2.1,c.1.2.2.2)),c.2.1,c.2.2.1,c.2.2.2.1,(c.2.2.2.2.1,c.2.2.2.2.2))=_ from e,bS,iU,MC.pin_full q hno er];exact ⟨_,L,rfl,h.mono (Nat.le_succ t),rfl⟩
   ·rcases Zpt z h ⟨fw.wr.1,by have:=fw.wr.2; omega⟩ with e' | ⟨f',c1',L1',e',_,k1,k2,k3⟩
    ·rw [e] at e'; simp at e'
    ·rw [e] at e';simp only [Option.some.injEq,Prod.mk.injEq,true_and] at e';have ec:c1=c1':=e'.2;subst ec;obtain ⟨hf,hfe,hfm⟩:=h1.hol f (by simp);have hfl1:=h1.frl;have hno1:∀ v,((i:Int),v)∉c1.2.2.1:=fun v hv=>g2 v (k3 _ hv);obtain ⟨r5,ch,e5,hc5⟩:=Zh7 h1.chn hf (by omega);rw [List.erase_of_not_mem hfL] at hc5;rw [show Q21.f ((c.1.1,c.1.2.1,(c.1.2.2.1,c.1.2.2.2)),c.2.1,c.2.2.1,c.2.2.2.1,(c.2.2.2.2.1,c.2.2.2.2.2))=_ from e,bS,vS]
     try dsimp only
     rw [show Q52.f (c1.1.1,c1.1.2.1,(c1.1.2.2.1,c1.1.2.2.2)) (i:Int)=_ from Zru z h1 (by omega),bS,vS,iO,show Q23.f (c1.2.2.2.2.1,c1.2.2.2.2.2) (f:Int)=_ from e5,bS];have hcm:=(h1.mono (Nat.le_succ t)).come (show i<N by omega) hno1 (x:=((i:Int),blk c1.1.2.1 B i,false,1)) rfl (Zd3 h1.dim (by omega)) rfl (by omega) hc5
     try dsimp only
     rw [Zpo (by rw [k1]; have:=fw.rd; omega),Zf9 hno1,tN,MC.pin_miss q hno er];refine ⟨_,L1,rfl,hcm.dev (s:=(c1.1.2.2.1+1,c1.1.2.2.2)) h1.dim,MC.ext' rfl rfl rfl ?_ ?_ ?_⟩
     ·intro j; exact Zgg h1 hno1 j
     ·show (c1.2.2.1 ++ [((i:Int),(f:Int))]).length=c1.2.2.1.length+1;simp
     ·exact Jm (by omega) hfL
  ·have hf:=ok.hf;have hp:=ok.pin;have hfr:(Z6 c L).fr i=_:=Ua h ha;obtain ⟨r2,ch,e2,hc2⟩:=Zh7 h.chn ok.hf (by omega);have g:gt c.2.1 (f:Int)=c.2.1.getD f default:=Zt _ _;have wp:w64 ((c.2.1.getD f default).2.2.2+1)=(c.2.1.getD f default).2.2.2+1:=wI2;have hs:=h.setfr ha (x:=((gt c.2.1 (f:Int)).1,(gt c.2.1 (f:Int)).2.1,(gt c.2.1 (f:Int)).2.2.1,w64 ((gt c.2.1 (f:Int)).2.2.2+1))) (t':=t+1) (by rw [g]; exact ok.blk) (by rw [g]; exact ok.len) (by rw [g]; dsimp only; rw [wp]; omega) (Nat.le_succ t) hc2 (Zgf h (by rw [g]; dsimp only; rw [wp]; omega));rw [iT g1,g2,iO,show Q23.f (c.2.2.2.2.1,c.2.2.2.2.2) (f:Int)=_ from e2,bS,tN,MC.pin_hit q hfr];refine ⟨_,L.erase f,rfl,hs,MC.ext' rfl rfl rfl (fun j=>?_) rfl ?_⟩
   ·refine Eq.trans (U7 h ha j) ?_;show upd (Xy c) i _ j=upd (Xy c) i _ j;congr 2;unfold fm;rw [g]
    try dsimp only
    rw [wp,show ((c.2.1.getD f default).2.2.2+1).toNat=(c.2.1.getD f default).2.2.2.toNat+1 by omega]
   ·exact Eq.trans (Vo (by omega) (by rw [g]; rfl) _) (Bg h ha)
theorem Zr5 (z:Siz N B n) (h:CaI N B n t [] c L) (fw:Few c) (ht:t<=1000000) (i:Nat) (hi:i<4294967296):∃ c' L',Q14.f c (i:Int)=some (((Z6 c L).fresh N B n i).1,c')/\CaI N B n (t+1) [] c' L'/\Z6 c' L'=((Z6 c L).fresh N B n i).2:=by
 have h64:=z.h64;have hB:=z.B_le;have hfl:=h.frl;have hsz:=h.dsz;unfold Q14.f Q51.f;rw [show Q22.f ((c.1.1,c.1.2.1,(c.1.2.2.1,c.1.2.2.2)),c.2.1,c.2.2.1,c.2.2.2.1,(c.2.2.2.2.1,c.2.2.2.2.2)) (i:Int)=_ from Zmm z h i hi,bS];by_cases q:N<=i
 ·rw [iT q,iU,MC.fresh_out q];exact ⟨_,L,rfl,h.mono (Nat.le_succ t),rfl⟩
 ·rw [iF q,vS];rcases h.get i with ⟨g1,g2⟩ | ⟨f,ha,g1,g2,ok⟩
  ·have hno:(Z6 c L).fr i=none:=U9 g2;rw [iF (by simp [g1]),iT (by simp [g1])];rcases Zpn z h ⟨fw.wr.1,by have:=fw.wr.2; omega⟩ with ⟨e,er⟩ | ⟨f,c1,L1,e,h1,er,hfL⟩
   ·rw [show Q21.f ((c.1.1,c.1.2.1,(c.1.2.2.1,c.1.2.2.2)),c.2.1,c.2.2.1,c.2.2.2.1,(c.2.2.2.2.1,c.2.2.2.2.2))=_ from e,bS,iU,MC.fresh_full q hno er];exact ⟨_,L,rfl,h.mono (Nat.le_succ t),rfl⟩
   ·rcases Zpt z h ⟨fw.wr.1,by have:=fw.wr.2; omega⟩ with e' | ⟨f',c1',L1',e',_,k1,k2,k3⟩
    ·rw [e] at e'; simp at e'
    ·rw [e] at e';simp only [Option.some.injEq,Prod.mk.injEq,true_and] at e';have ec:c1=c1':=e'.2;subst ec;obtain ⟨hf,hfe,hfm⟩:=h1.hol f (by simp);have hfl1:=h1.frl;have hsz1:=h1.dsz;have hno1:∀ v,((i:Int),v)∉c1.2.2.1:=fun v hv=>g2 v (k3 _ hv);obtain ⟨r5,ch,e5,hc5⟩:=Zh7 h1.chn hf (by omega);rw [List.erase_of_not_mem hfL] at hc5;rw [show Q21.f ((c.1.1,c.1.2.1,(c.1.2.2.1,c.1.2.2.2)),c.2.1,c.2.2.1,c.2.2.2.1,(c.2.2.2.2.1,c.2.2.2.2.2))=_ from e,bS,vS,bS]
     try dsimp only
     rw [iO,iO,show Q23.f (c1.2.2.2.2.1,c1.2.2.2.2.2) (f:Int)=_ from e5,bS];have hBt:c1.1.1.toNat=B:=by omega
     have hcm:=(h1.mono (Nat.le_succ t)).come (show i<N by omega) hno1 (x:=((i:Int),List.replicate c1.1.1.toNat (0:Int),true,1)) rfl (by rw [length_replicate]; omega) rfl (by omega) hc5
     try dsimp only
     rw [Zf9 hno1,tN,MC.fresh_miss q hno er];refine ⟨_,L1,rfl,hcm,MC.ext' rfl rfl rfl ?_ ?_ ?_⟩
     ·intro j;refine Eq.trans (Zgg h1 hno1 j) ?_;show upd (Xy c1) i (some ⟨List.replicate c1.1.1.toNat 0,true,1⟩) j=_;rw [hBt]; rfl
     ·show (c1.2.2.1 ++ [((i:Int),(f:Int))]).length=c1.2.2.1.length+1;simp
     ·exact Jm (by omega) hfL
  ·have hf:=ok.hf;have hp:=ok.pin;have hfr:(Z6 c L).fr i=_:=Ua h ha;have g:gt c.2.1 (f:Int)=c.2.1.getD f default:=Zt _ _;rw [iT g1,g2,iO];by_cases hpp:0<(gt c.2.1 (f:Int)).2.2.2
   ·rw [iT (dT hpp),MC.fresh_pin q hfr (by unfold fm; dsimp only; rw [g] at hpp; omega)];exact ⟨_,L,rfl,h.mono (Nat.le_succ t),rfl⟩
   ·obtain ⟨r2,ch,e2,hc2⟩:=Zh7 h.chn ok.hf (by omega);have hBt:c.1.1.toNat=B:=by omega
    have hs:=h.setfr ha (x:=((i:Int),List.replicate c.1.1.toNat (0:Int),true,1)) (t':=t+1) rfl (by rw [length_replicate]; omega) (by dsimp only; omega) (Nat.le_succ t) hc2 (Zgf h (show (1:Int)≠0 by decide));rw [iF (by simpa using hpp),iF (by simp [g1]),bS,iO,show Q23.f (c.2.2.2.2.1,c.2.2.2.2.2) (f:Int)=_ from e2,bS,tN,Zgs h.mnd ha,MC.fresh_hit q hfr (by unfold fm; dsimp only; rw [g] at hpp; omega)]
    try rw [iT (show 0<=(f:Int)/\(f:Int)<(c.2.1.length:Int) by omega)]
    refine ⟨_,L.erase f,rfl,hs,MC.ext' rfl rfl rfl (fun j=>?_) rfl ?_⟩
    ·refine Eq.trans (U7 h ha j) ?_;show upd (Xy c) i (some ⟨List.replicate c.1.1.toNat 0,true,1⟩) j=_;rw [hBt]; rfl
    ·exact Eq.trans (Vo (by omega) (by rw [Gv h ha]; rfl) _) (Bg h ha)
theorem Zma (z:Siz N B n) (h:CaI N B n t [] c L) (ht:t<=1000000) (i:Nat):∃ c' L',Q17.f c (i:Int)=some (((Z6 c L).unpin i).1,c')/\CaI N B n t [] c' L'/\Z6 c' L'=((Z6 c L).unpin i).2:=by
 have h64:=z.h64;have hfl:=h.frl;unfold Q17.f Q20.f;rw [bS,vS];rcases h.get i with ⟨g1,g2⟩ | ⟨f,ha,g1,g2,ok⟩
 ·rw [iT (by simp [g1]),MC.unpin_no (show (Z6 c L).fr i=none from U9 g2)];exact ⟨_,L,rfl,h,rfl⟩
 ·have hf:=ok.hf;have hp:=ok.pin;have hfr:(Z6 c L).fr i=_:=Ua h ha;have g:gt c.2.1 (f:Int)=c.2.1.getD f default:=Zt _ _;rw [iF (by simp [g1]),g2,iO];by_cases hp0:(gt c.2.1 (f:Int)).2.2.2=0
  ·rw [iT (dT hp0),MC.unpin_out hfr (by unfold fm; dsimp only; rw [<- g,hp0]; rfl)];exact ⟨_,L,rfl,h,rfl⟩
  ·have wp:w64 ((gt c.2.1 (f:Int)).2.2.2 - 1)=(gt c.2.1 (f:Int)).2.2.2 - 1:=by rw [g]; exact wI2
   have hp1:0<(gt c.2.1 (f:Int)).2.2.2:=by rw [g] at hp0 ⊢; omega
   have hp2:(gt c.2.1 (f:Int)).2.2.2<=t:=by rw [g]; omega
   have hset:gt (c.2.1.set f ((gt c.2.1 (f:Int)).1,(gt c.2.1 (f:Int)).2.1,(gt c.2.1 (f:Int)).2.2.1,w64 ((gt c.2.1 (f:Int)).2.2.2 - 1))) (f:Int)=((gt c.2.1 (f:Int)).1,(gt c.2.1 (f:Int)).2.1,(gt c.2.1 (f:Int)).2.2.1,w64 ((gt c.2.1 (f:Int)).2.2.2 - 1)):=by
    rw [Zt,Xg,iT rfl]
   have hfL:f∉L:=fun hx=>by have:=((h.lok f).1 hx).2; rw [<- g] at this; omega
   have hx0:(fm (c.2.1.getD f default)).p=(c.2.1.getD f default).2.2.2.toNat:=rfl;rw [iF (by simpa using hp0),tN,hset,wp];by_cases hp3:(gt c.2.1 (f:Int)).2.2.2 - 1=0
   ·obtain ⟨ch,e2,hc2⟩:=Zse h.chn ok.hf hfL (by omega);rw [iT (dT hp3),show Q24.f (c.2.2.2.2.1,c.2.2.2.2.2) (f:Int)=_ from e2,bS,MC.unpin_one hfr (by rw [hx0,<- g]; omega)];have hs:=h.setfr ha (x:=((gt c.2.1 (f:Int)).1,(gt c.2.1 (f:Int)).2.1,(gt c.2.1 (f:Int)).2.2.1,(gt c.2.1 (f:Int)).2.2.2 - 1)) (t':=t) (by rw [g]; exact ok.blk) (by rw [g]; exact ok.len) (by dsimp only; omega) (Nat.le_refl t) hc2 (fun k=>by
     rw [List.mem_cons];split
     ·rename_i e; exact ⟨fun _=>hp3,fun _=>.inl e⟩
     ·rename_i e; exact ⟨fun q=>q.elim (fun e'=>absurd e' e) id,.inr⟩)
    refine ⟨_,f :: L,rfl,hs,MC.ext' rfl rfl rfl (fun j=>?_) rfl ?_⟩
    ·refine Eq.trans (U7 h ha j) ?_;show upd (Xy c) i _ j=upd (Xy c) i _ j;congr 2;unfold fm
     try dsimp only
     rw [hp3,g]; rfl
    ·refine Eq.trans (Vo (by omega) (by rw [g]; rfl) _) ?_;show Wg c f :: L.map (Wg c)=_;rw [Gv h ha]; rfl
   ·rw [iF (by simpa using hp3),MC.unpin_more hfr (by rw [hx0,<- g]; omega) (by rw [hx0,<- g]; omega)];have hs:=h.setfr ha (x:=((gt c.2.1 (f:Int)).1,(gt c.2.1 (f:Int)).2.1,(gt c.2.1 (f:Int)).2.2.1,(gt c.2.1 (f:Int)).2.2.2 - 1)) (t':=t) (by rw [g]; exact ok.blk) (by rw [g]; exact ok.len) (by dsimp only; omega) (Nat.le_refl t) h.chn (fun k=>by
     split
     ·rename_i e; subst e; exact ⟨fun q=>absurd q hfL,fun q=>absurd q hp3⟩
     ·exact Iff.rfl)
    refine ⟨_,L,rfl,hs,MC.ext' rfl rfl rfl (fun j=>?_) rfl ?_⟩
    ·refine Eq.trans (U7 h ha j) ?_;show upd (Xy c) i _ j=upd (Xy c) i _ j;congr 2;unfold fm
     try dsimp only
     rw [g,show ((c.2.1.getD f default).2.2.2 - 1).toNat=(c.2.1.getD f default).2.2.2.toNat - 1 by omega]
    ·exact Vo (by omega) (by rw [g]; rfl) _
theorem Znc (z:Siz N B n) (h:CaI N B n t [] c L) (i:Nat) (b:T3):∃ c' L',Q18.f c (i:Int) b=some (((Z6 c L).write B i b).1,c')/\CaI N B n t [] c' L'/\Z6 c' L'=((Z6 c L).write B i b).2:=by
 have h64:=z.h64;have hB:=z.B_le;have hfl:=h.frl;have hsz:=h.dsz;unfold Q18.f Q20.f Q51.f;rw [bS,vS];rcases h.get i with ⟨g1,g2⟩ | ⟨f,ha,g1,g2,ok⟩
 ·rw [iT (by simp [g1]),MC.write_no (show (Z6 c L).fr i=none from U9 g2)];exact ⟨_,L,rfl,h,rfl⟩
 ·have hf:=ok.hf;have hp:=ok.pin;have hfr:(Z6 c L).fr i=_:=Ua h ha;have hx0:(fm (c.2.1.getD f default)).p=(c.2.1.getD f default).2.2.2.toNat:=rfl;have g:gt c.2.1 (f:Int)=c.2.1.getD f default:=Zt _ _;rw [iF (by simp [g1]),g2,iO];by_cases hp0:(gt c.2.1 (f:Int)).2.2.2=0
  ·rw [iT (dT hp0),MC.write_out hfr (by rw [hx0,<- g,hp0]; rfl)];exact ⟨_,L,rfl,h,rfl⟩
  ·have hp1:(fm (c.2.1.getD f default)).p≠0:=by rw [hx0]; rw [g] at hp0; omega
   rw [iF (by simpa using hp0),bS]
   try dsimp only
   by_cases hb:(b.length:Int)=c.1.1
   ·have hset:gt (c.2.1.set f ((gt c.2.1 (f:Int)).1,b,(gt c.2.1 (f:Int)).2.2.1,(gt c.2.1 (f:Int)).2.2.2)) (f:Int)=((gt c.2.1 (f:Int)).1,b,(gt c.2.1 (f:Int)).2.2.1,(gt c.2.1 (f:Int)).2.2.2):=by
     rw [Zt,Xg,iT rfl]
    have hs:=h.setfr ha (x:=((gt c.2.1 (f:Int)).1,b,true,(gt c.2.1 (f:Int)).2.2.2)) (t':=t) (by rw [g]; exact ok.blk) (by dsimp only; omega) (by dsimp only; rw [g]; exact hp) (Nat.le_refl t) h.chn (by rw [g]; exact Zo1 h ha);rw [iF (by simp [hb]),Za5 (by omega),bS,tN,hset,List.set_set,MC.write_hit hfr hp1 (by omega)];refine ⟨_,L,rfl,hs,MC.ext' rfl rfl rfl (fun j=>?_) rfl ?_⟩
    ·refine Eq.trans (U7 h ha j) ?_;show upd (Xy c) i _ j=upd (Xy c) i _ j;rw [g]; rfl
    ·exact Vo (by omega) (by rw [g]; rfl) _
   ·rw [iT (by simp [hb]),MC.write_form hfr hp1 (by omega)];exact ⟨_,L,rfl,h,rfl⟩
theorem Ztk (z:Siz N B n) (h:CaI N B n t [] c L) (i:Nat):Q16.f c (i:Int)=some ((Z6 c L).read i):=by
 have hfl:=h.frl;have hB:=z.B_le;unfold Q16.f Q20.f;rw [bS,vS];rcases h.get i with ⟨g1,g2⟩ | ⟨f,ha,g1,g2,ok⟩
 ·rw [iT (by simp [g1]),MC.read_no (show (Z6 c L).fr i=none from U9 g2)]
 ·have hf:=ok.hf;have hp:=ok.pin;have hfr:(Z6 c L).fr i=_:=Ua h ha;have hx0:(fm (c.2.1.getD f default)).p=(c.2.1.getD f default).2.2.2.toNat:=rfl;have g:gt c.2.1 (f:Int)=c.2.1.getD f default:=Zt _ _;rw [iF (by simp [g1]),g2,iO];by_cases hp0:(gt c.2.1 (f:Int)).2.2.2=0
  ·rw [iT (dT hp0),MC.read_out hfr (by rw [hx0,<- g,hp0]; rfl)]
  ·rw [iF (by simpa using hp0),Za5 (by rw [g,ok.len]; omega),bS,MC.read_hit hfr (by rw [hx0]; rw [g] at hp0; omega),g]; rfl
end
abbrev Rf:=Int×List UInt8×Bool×Int
abbrev Rc:=(Int×List TZ×Int×Int)×List Rf×Int×List Int
section
variable {l:List Rf} {g:Nat->Option Fm} {i:Nat} {f:Fm}
end
structure MI (N B n t:Nat) (m:MC):Prop where
 dim:m.img.length=N*B
 len:∀ i f,m.fr i=some f->i<N/\f.b.length=B/\f.p<=t
 rnd:m.row.Nodup
 rfr:∀ q,q∈m.row↔∃ f,m.fr q=some f/\f.p=0
 ule:m.used<=n
 rle:m.row.length<=n
theorem Zf2 {g:Nat->Nat}:∀ {L:List Nat},L.Nodup->(∀ x∈L,∀ y∈L,g x=g y->x=y)->(L.map g).Nodup
 | [],_,_=>by simp
 | x :: L,nd,h=>by
  rw [List.nodup_cons] at nd;rw [List.map_cons,List.nodup_cons];refine ⟨fun q=>?_,Zf2 nd.2 fun a ha b hb=>h a (by simp [ha]) b (by simp [hb])⟩;obtain ⟨y,hy,e⟩:=List.mem_map.1 q;exact nd.1 (by rw [h x (by simp) y (by simp [hy]) e.symm]; exact hy)
theorem CaI.mi {N B n t:Nat} {c:Ca} {L:List Nat} (h:CaI N B n t [] c L):MI N B n t (Z6 c L) where
 dim:=h.dim
 len i f hf:=Zp8 h hf
 rnd:=Zf2 h.chn.nd fun x hx y hy e=>by
  obtain ⟨i,hi,e1,_⟩:=V1 h hx;obtain ⟨j,hj,e2,_⟩:=V1 h hy;have:i=j:=by omega
  subst this;exact Zby h hi hj
 rfr q:=by
  constructor
  ·intro hq;obtain ⟨f,hf,e⟩:=List.mem_map.1 hq;obtain ⟨i,hi,e1,hp,_⟩:=V1 h hf;have:i=q:=by omega
   subst this;exact ⟨_,Ua h hi,by unfold fm; dsimp only; rw [hp]; rfl⟩
  ·rintro ⟨f,hf,hp⟩;rcases h.get q with ⟨_,g2⟩ | ⟨f',ha,_,_,ok⟩
   ·have:=U9 g2;rw [show Xy c q=some f from hf] at this; cases this
   ·have h1:=Ua h ha;rw [show Xy c q=some f from hf] at h1;injection h1 with h1;subst h1;refine (Zq2 h ha).2 ((h.lok f').2 ⟨⟨_,ha⟩,?_⟩);have:=ok.pin;unfold fm at hp;dsimp only at hp;omega
 ule:=h.used
 rle:=by
  show (L.map (Wg c)).length<=n;rw [length_map];exact h.chn.short
section
variable {N B n t:Nat} {w:Rc} {m:MC} {i:Nat} {f:Fm}
end
section
variable {N B n t:Nat} {w:Rc} {m:MC} {i:Nat} {f:Fm}
end
section
variable {N B n t:Nat} {w:Rc} {m:MC} {i:Nat} {f:Fm}
end
section
variable {N B n t:Nat} {c:Ca} {L:List Nat}
end
section
variable {N B n t:Nat} {c:Ca} {L:List Nat} {w:Rc} {m:MC}
end
def Byt (l:T3):Prop:=∀ x∈l,0<=x/\x<256
theorem Byt.rep (n:Nat):Byt (List.replicate n 0):=fun x hx=>by rw [List.eq_of_mem_replicate hx]; omega
theorem Byt.blk {img:T3} (h:Byt img) (B i:Nat):Byt (blk img B i):=fun x hx=>h x (List.mem_of_mem_drop (List.mem_of_mem_take hx))
theorem Byt.patch {img b:T3} (h:Byt img) (hb:Byt b) (a n:Nat):Byt (patch img a n b):=fun x hx=>by
 unfold SK.patch at hx;rcases List.mem_append.1 hx with hx | hx
 ·rcases List.mem_append.1 hx with hx | hx
  ·exact h x (List.mem_of_mem_take hx)
  ·exact hb x (List.mem_of_mem_take hx)
 ·exact h x (List.mem_of_mem_drop hx)
namespace MC
def cnt (m:MC) (i:Nat):Nat:=match m.fr i with
 | none=>0
 | some x=>x.p
theorem cnt_no {m:MC} {i:Nat} (e:m.fr i=none):m.cnt i=0:=by unfold cnt; rw [e]
theorem cnt_at {m:MC} {i:Nat} {x:Fm} (e:m.fr i=some x):m.cnt i=x.p:=by unfold cnt; rw [e]
structure By (m:MC):Prop where
 img:Byt m.img
 fr:∀ i x,m.fr i=some x->Byt x.b
structure To (a b:Nat) (m m':MC):Prop where
 rd:m.rd<=m'.rd/\m'.rd<=m.rd+a
 wr:m.wr<=m'.wr/\m'.wr<=m.wr+b
 by':By m->By m'
theorem To.refl (m:MC):To 0 0 m m:=⟨⟨Int.le_refl _,by omega⟩,⟨Int.le_refl _,by omega⟩,id⟩
theorem To.le {a b a' b':Nat} {m m':MC} (h:To a b m m') (ha:a<=a') (hb:b<=b'):To a' b' m m':=⟨⟨h.rd.1,by have:=h.rd.2; omega⟩,⟨h.wr.1,by have:=h.wr.2; omega⟩,h.by'⟩
theorem To.trans {a b a' b':Nat} {m m' m'':MC} (h:To a b m m') (g:To a' b' m' m''):To (a+a') (b+b') m m'':=⟨⟨Int.le_trans h.rd.1 g.rd.1,by have:=h.rd.2; have:=g.rd.2; omega⟩,⟨Int.le_trans h.wr.1 g.wr.1,by have:=h.wr.2; have:=g.wr.2; omega⟩,fun y=>g.by' (h.by' y)⟩
end MC
section
variable {N B n t:Nat} {m k:MC} {i:Nat} {x:Fm}
theorem Pm.lay {img:T3} {rd wr:Int} {fr:Nat->Option Fm} {u u':Nat} {row row':List Nat} (hx:Byt x.b):(MC.By ⟨img,rd,wr,fr,u,row⟩->MC.By ⟨img,rd,wr,upd fr i (some x),u',row'⟩)/\∀ j,(⟨img,rd,wr,upd fr i (some x),u',row'⟩:MC).cnt j=if j=i then x.p else (⟨img,rd,wr,fr,u,row⟩:MC).cnt j:=by
 refine ⟨fun h=>⟨h.img,fun j y hj=>?_⟩,fun j=>?_⟩
 ·have hj':upd fr i (some x) j=some y:=hj;by_cases q:j=i
  ·subst q; rw [Z8] at hj'; injection hj' with hj'; subst hj'; exact hx
  ·rw [Yj q] at hj'; exact h.fr j y hj'
 ·by_cases q:j=i
  ·subst q; rw [iT rfl]; exact MC.cnt_at (Z8 _ _ _)
  ·rw [iF q]; unfold MC.cnt; dsimp only; rw [Yj q]
theorem Pm.evict (e:m.fr i=some x) (p:x.p=0):MC.To 0 1 m (m.evict B i)/\(∀ j,(m.evict B i).cnt j=m.cnt j)/\∀ j,m.fr j=none->(m.evict B i).fr j=none:=by
 rw [MC.evict_eq e];refine ⟨⟨⟨Int.le_refl _,by dsimp only; omega⟩,by dsimp only; split <;> omega,fun h=>⟨?_,fun j y hj=>?_⟩⟩,fun j=>?_,fun j hj=>?_⟩
 ·dsimp only;split
  ·exact h.img.patch (h.fr i x e) _ _
  ·exact h.img
 ·have hj':upd m.fr i none j=some y:=hj;by_cases q:j=i
  ·subst q; rw [Z8] at hj'; cases hj'
  ·rw [Yj q] at hj'; exact h.fr j y hj'
 ·by_cases q:j=i
  ·subst q; rw [MC.cnt_at e,MC.cnt_no (Z8 _ _ _),p]
  ·unfold MC.cnt; dsimp only; rw [Yj q]
 ·show upd m.fr i none j=none;by_cases q:j=i
  ·subst q; exact Z8 _ _ _
  ·rw [Yj q]; exact hj
theorem Pm.room (mi:MI N B n t m) (h:m.room B n=some k):MC.To 0 1 m k/\(∀ j,k.cnt j=m.cnt j)/\∀ j,m.fr j=none->k.fr j=none:=by
 unfold MC.room at h;split at h
 ·injection h with h; subst h; exact ⟨(MC.To.refl _).le (by omega) (by omega),fun _=>rfl,fun _ h=>h⟩
 ·split at h
  ·cases h
  ·rename_i q hq;injection h with h; subst h;obtain ⟨x,e,p⟩:=(mi.rfr q).1 (List.mem_of_getLast? hq);exact Pm.evict e p
theorem Pm.pin (mi:MI N B n t m) (hy:m.By) (i:Nat):MC.To 1 1 m (m.pin N B n i).2/\(1<=m.cnt i->MC.To 0 0 m (m.pin N B n i).2)/\∀ j,(m.pin N B n i).2.cnt j=if (m.pin N B n i).1=0/\j=i then m.cnt i+1 else m.cnt j:=by
 have r0:=(MC.To.refl m).le (Nat.zero_le 1) (Nat.zero_le 1);by_cases h:N<=i
 ·rw [MC.pin_out h]; exact ⟨r0,fun _=>MC.To.refl m,fun _=>by rw [vS]⟩
 cases e:m.fr i with
 | some x=>
  obtain ⟨h1,h2⟩:=Pm.lay (img:=m.img) (rd:=m.rd) (wr:=m.wr) (fr:=m.fr) (u:=m.used) (row:=m.row) (i:=i) (x:=⟨x.b,x.d,x.p+1⟩) (u':=m.used) (row':=m.row.erase i) (hy.fr i x e);have t0:MC.To 0 0 m (m.pin N B n i).2:=by rw [MC.pin_hit h e]; exact ⟨⟨Int.le_refl _,by show m.rd<=_; omega⟩,⟨Int.le_refl _,by show m.wr<=_; omega⟩,h1⟩
  refine ⟨t0.le (by omega) (by omega),fun _=>t0,fun j=>?_⟩;rw [MC.pin_hit h e,show ((m.put i ⟨x.b,x.d,x.p+1⟩).cut i).cnt j=_ from h2 j];by_cases q:j=i
  ·rw [iT q,iT ⟨rfl,q⟩,MC.cnt_at e]
  ·rw [iF q,iF (fun z=>q z.2)]
 | none=>
  cases r:m.room B n with
  | none=>rw [MC.pin_full h e r]; exact ⟨r0,fun _=>MC.To.refl m,fun _=>by rw [vS]⟩
  | some k=>
   obtain ⟨c1,c2,c3⟩:=Pm.room mi r;have hk:=c1.by' hy;obtain ⟨h1,h2⟩:=Pm.lay (img:=k.img) (rd:=k.rd+1) (wr:=k.wr) (fr:=k.fr) (u:=k.used) (row:=k.row) (i:=i) (x:=⟨blk k.img B i,false,1⟩) (u':=k.used+1) (row':=k.row) (hk.img.blk B i);rw [MC.pin_miss h e r];refine ⟨⟨by show m.rd<=k.rd+1/\k.rd+1<=_; have:=c1.rd; omega,by show m.wr<=k.wr/\k.wr<=_; have:=c1.wr; omega,fun _=>h1 ⟨hk.img,hk.fr⟩⟩,fun c=>by rw [MC.cnt_no e] at c; omega,fun j=>?_⟩;rw [show ((⟨k.img,k.rd+1,k.wr,k.fr,k.used,k.row⟩:MC).come i ⟨blk k.img B i,false,1⟩).cnt j=_ from h2 j];by_cases q:j=i
   ·rw [iT q,iT ⟨rfl,q⟩,MC.cnt_no e]
   ·rw [iF q,iF (fun z=>q z.2)]; exact c2 j
theorem Pm.fresh (mi:MI N B n t m) (hy:m.By) (i:Nat):MC.To 0 1 m (m.fresh N B n i).2/\∀ j,(m.fresh N B n i).2.cnt j=if (m.fresh N B n i).1=0/\j=i then m.cnt i+1 else m.cnt j:=by
 have r0:=(MC.To.refl m).le (Nat.zero_le 0) (Nat.zero_le 1);by_cases h:N<=i
 ·rw [MC.fresh_out h]; exact ⟨r0,fun _=>by rw [vS]⟩
 cases e:m.fr i with
 | some x=>
  by_cases p:0<x.p
  ·rw [MC.fresh_pin h e p]; exact ⟨r0,fun _=>by rw [vS]⟩
  obtain ⟨h1,h2⟩:=Pm.lay (img:=m.img) (rd:=m.rd) (wr:=m.wr) (fr:=m.fr) (u:=m.used) (row:=m.row) (i:=i) (x:=⟨List.replicate B 0,true,1⟩) (u':=m.used) (row':=m.row.erase i) (Byt.rep B);rw [MC.fresh_hit h e p];refine ⟨⟨⟨Int.le_refl _,by show m.rd<=_; omega⟩,⟨Int.le_refl _,by show m.wr<=_; omega⟩,h1⟩,fun j=>?_⟩;rw [show ((m.put i ⟨List.replicate B 0,true,1⟩).cut i).cnt j=_ from h2 j];by_cases q:j=i
  ·rw [iT q,iT ⟨rfl,q⟩,MC.cnt_at e]; dsimp only; omega
  ·rw [iF q,iF (fun z=>q z.2)]
 | none=>
  cases r:m.room B n with
  | none=>rw [MC.fresh_full h e r]; exact ⟨r0,fun _=>by rw [vS]⟩
  | some k=>
   obtain ⟨c1,c2,c3⟩:=Pm.room mi r;have hk:=c1.by' hy;obtain ⟨h1,h2⟩:=Pm.lay (img:=k.img) (rd:=k.rd) (wr:=k.wr) (fr:=k.fr) (u:=k.used) (row:=k.row) (i:=i) (x:=⟨List.replicate B 0,true,1⟩) (u':=k.used+1) (row':=k.row) (Byt.rep B);rw [MC.fresh_miss h e r];refine ⟨⟨c1.rd,c1.wr,fun _=>h1 ⟨hk.img,hk.fr⟩⟩,fun j=>?_⟩;rw [show (k.come i ⟨List.replicate B 0,true,1⟩).cnt j=_ from h2 j];by_cases q:j=i
   ·rw [iT q,iT ⟨rfl,q⟩,MC.cnt_no e]
   ·rw [iF q,iF (fun z=>q z.2)]; exact c2 j
theorem Pm.unpin (hy:m.By) (i:Nat):MC.To 0 0 m (m.unpin i).2/\∀ j,(m.unpin i).2.cnt j=if j=i then m.cnt i - 1 else m.cnt j:=by
 have same:(∀ j,m.cnt j=if j=i then m.cnt i - 1 else m.cnt j)↔m.cnt i=0:=⟨fun h=>by have:=h i; rw [iT rfl] at this; omega,fun h j=>by split; rename_i q; subst q; omega; rfl⟩
 cases e:m.fr i with
 | none=>rw [MC.unpin_no e]; exact ⟨MC.To.refl m,same.2 (MC.cnt_no e)⟩
 | some x=>
  have key:∀(p u:Nat) (row:List Nat),p=x.p - 1->MC.To 0 0 m (⟨m.img,m.rd,m.wr,upd m.fr i (some ⟨x.b,x.d,p⟩),u,row⟩:MC)/\∀ j,(⟨m.img,m.rd,m.wr,upd m.fr i (some ⟨x.b,x.d,p⟩),u,row⟩:MC).cnt j=if j=i then m.cnt i - 1 else m.cnt j:=fun p u row hp=>by
   obtain ⟨h1,h2⟩:=Pm.lay (img:=m.img) (rd:=m.rd) (wr:=m.wr) (fr:=m.fr) (u:=m.used) (row:=m.row) (i:=i) (x:=⟨x.b,x.d,p⟩) (u':=u) (row':=row) (hy.fr i x e);refine ⟨⟨⟨Int.le_refl _,by show m.rd<=_; omega⟩,⟨Int.le_refl _,by show m.wr<=_; omega⟩,h1⟩,fun j=>?_⟩;rw [h2 j,MC.cnt_at e];split
   ·exact hp
   ·rfl
  by_cases p:x.p=0
  ·rw [MC.unpin_out e p]; exact ⟨MC.To.refl m,same.2 (by rw [MC.cnt_at e]; exact p)⟩
  ·by_cases p1:x.p=1
   ·rw [MC.unpin_one e p1]; exact key _ _ _ (by omega)
   ·rw [MC.unpin_more e p p1]; exact key _ _ _ rfl
theorem Pm.write (i:Nat) {b:T3} (hb:Byt b):MC.To 0 0 m (m.write B i b).2/\∀ j,(m.write B i b).2.cnt j=m.cnt j:=by
 cases e:m.fr i with
 | none=>rw [MC.write_no e]; exact ⟨MC.To.refl m,fun _=>rfl⟩
 | some x=>
  by_cases p:x.p=0
  ·rw [MC.write_out e p]; exact ⟨MC.To.refl m,fun _=>rfl⟩
  ·by_cases q:b.length=B
   ·rw [MC.write_hit e p q];obtain ⟨h1,h2⟩:=Pm.lay (img:=m.img) (rd:=m.rd) (wr:=m.wr) (fr:=m.fr) (u:=m.used) (row:=m.row) (i:=i) (x:=⟨b,true,x.p⟩) (u':=m.used) (row':=m.row) hb;refine ⟨⟨⟨Int.le_refl _,by show m.rd<=_; omega⟩,⟨Int.le_refl _,by show m.wr<=_; omega⟩,h1⟩,fun j=>?_⟩;rw [show (m.put i ⟨b,true,x.p⟩).cnt j=_ from h2 j];split
    ·rename_i q; subst q; exact (MC.cnt_at e).symm
    ·rfl
   ·rw [MC.write_form e p q]; exact ⟨MC.To.refl m,fun _=>rfl⟩
end
abbrev Bt:=Int×Int×List Int
theorem Zqd:uH.bits=64:=rfl
theorem wrB {m:Nat} (h:m<18446744073709551616):uH.wrap (m:Int)=(m:Int):=by
 have:uH.wrap (m:Int)=((m % 18446744073709551616:Nat):Int):=by simp [IntKind.wrap,IntKind.bits,IntKind.signed]
 rw [this,Nat.mod_eq_of_lt h]
theorem ofB {x:Nat} (h:x<18446744073709551616):(ofInt uH.bits (x:Int)).toNat=x:=by
 rw [BitVec.ofInt_natCast,BitVec.toNat_ofNat,Zqd];exact Nat.mod_eq_of_lt h
theorem Zlg (v:BitVec uH.bits):v.toNat<18446744073709551616:=v.isLt
theorem anB {x y:Nat} (hx:x<18446744073709551616) (hy:y<18446744073709551616):(ofInt uH.bits (x:Int) &&& ofInt uH.bits (y:Int)).toNat=x &&& y:=by rw [BitVec.toNat_and,ofB hx,ofB hy]
theorem orB {x y:Nat} (hx:x<18446744073709551616) (hy:y<18446744073709551616):(ofInt uH.bits (x:Int) ||| ofInt uH.bits (y:Int)).toNat=x ||| y:=by rw [BitVec.toNat_or,ofB hx,ofB hy]
theorem xoB {x y:Nat} (hx:x<18446744073709551616) (hy:y<18446744073709551616):(ofInt uH.bits (x:Int) ^^^ ofInt uH.bits (y:Int)).toNat=x ^^^ y:=by rw [BitVec.toNat_xor,ofB hx,ofB hy]
theorem Zqt {b:Nat} (h:b<64):uH.wrap ((1:Int)*2 ^ (min b 64))=((2 ^ b:Nat):Int):=by
 have hb:min b 64=b:=by omega
 have hl:2 ^ b<18446744073709551616:=Nat.lt_of_lt_of_le (Nat.pow_lt_pow_right (by decide) h) (by decide);rw [hb,Int.one_mul,<- wrB hl];congr 1
theorem Zs6 {b:Nat} (h:b<64):2 ^ b<18446744073709551616:=Nat.lt_of_lt_of_le (Nat.pow_lt_pow_right (by decide) h) (by decide)
theorem Zqr {f:Nat} (h:f<64):∃ y:Nat,uH.wrap ((18446744073709551615:Int)*2 ^ (min f 64))=(y:Int)/\y<18446744073709551616/\∀ i,i<64->y.testBit i=decide (f<=i):=by
 have hf:min f 64=f:=by omega
 refine ⟨(18446744073709551615*2 ^ f) % 18446744073709551616,?_,Nat.mod_lt _ (by decide),fun i hi=>?_⟩
 ·rw [hf];have:(18446744073709551615:Int)*2 ^ f=((18446744073709551615*2 ^ f:Nat):Int):=by
   rw [Int.natCast_mul,Int.natCast_pow]; rfl
  rw [this];simp [IntKind.wrap,IntKind.bits,IntKind.signed]
 ·have e1:(18446744073709551616:Nat)=2 ^ 64:=by decide
  have e2:(18446744073709551615:Nat)=2 ^ 64 - 1:=by decide
  rw [e1,Nat.testBit_mod_two_pow,e2,Nat.testBit_mul_two_pow,Nat.testBit_two_pow_sub_one];simp [hi];omega
structure BR (N:Nat) (p:Bt) (h:Nat->Bool):Prop where
 n:p.1=(N:Int)
 N1:1<=N/\N<=65536
 cnt:p.2.1=(((List.range N).filter h).length:Int)
 len:p.2.2.length=(N+63) / 64
 bit:∀ w,w<p.2.2.length->∃ x:Nat,p.2.2.getD w default=(x:Int)/\x<18446744073709551616/\∀ b,b<64->x.testBit b=(decide (64*w+b<N) && h (64*w+b))
section
variable {N:Nat} {p:Bt} {h:Nat->Bool}
theorem Zhb {i:Nat} (hi:i<4294967296):w64 (Int.tdiv (i:Int) 64)=((i / 64:Nat):Int)/\Int.tmod (i:Int) 64=((i % 64:Nat):Int):=by
 constructor
 ·rw [show Int.tdiv (i:Int) 64=((i / 64:Nat):Int) from rfl,wI2]
 ·rfl
theorem BR.there (b:BR N p h) {i:Nat}:Q10.f p (i:Int)=some (if N<=i then 4 else 0):=by
 have hN:=b.N1;unfold Q10.f Q7.f;rw [bS,b.n,iN,iN];by_cases q:N<=i
 ·rw [iP,iT q]
 ·rw [iN,iF q]
theorem BR.has (b:BR N p h) {i:Nat} (hi:i<4294967296):Q6.f p (i:Int)=some (decide (i<N) && h i):=by
 have hN:=b.N1;unfold Q6.f;rw [b.there,bS];by_cases q:N<=i
 ·rw [iT q,iF (by decide)];have:¬ i<N:=by omega
  simp [this]
 ·obtain ⟨e1,e2⟩:=Zhb hi;have hl:=b.len;have hw:i / 64<p.2.2.length:=by omega
  obtain ⟨x,hx,hx2,hx3⟩:=b.bit _ hw;have hm:i % 64<64:=Nat.mod_lt _ (by decide);rw [iF q,iT (by decide),e1,e2,iO,iO,Zt,hx,tN,show min (i % 64) 64=i % 64 by omega];have e3:Int.fdiv (x:Int) (2 ^ (i % 64))=((x / 2 ^ (i % 64):Nat):Int):=by
   rw [Int.fdiv_eq_ediv_of_nonneg _ (Int.pow_nonneg (by decide)),Int.natCast_ediv,Int.natCast_pow]; rfl
  have hlt:x / 2 ^ (i % 64)<18446744073709551616:=Nat.lt_of_le_of_lt (Nat.div_le_self _ _) hx2;rw [e3,show (ofInt uH.bits ((x / 2 ^ (i % 64):Nat):Int) &&& ofInt uH.bits 1).toNat=x / 2 ^ (i % 64) &&& 1 from anB (y:=1) hlt (by decide),Nat.and_one_is_mod,wrB (by omega)];have h1:=hx3 _ hm;rw [show 64*(i / 64)+i % 64=i by omega] at h1;rw [<- h1,Nat.testBit_eq_decide_div_mod_eq];congr 1;exact decide_eq_decide.2 (by omega)
theorem Zk5 {N i:Nat} (hi:i<N) (hn:h i=false):((List.range N).filter (upd h i true)).length=((List.range N).filter h).length+1:=by
 have key:∀ l:List Nat,l.Nodup->i∈l->(l.filter (upd h i true)).length=(l.filter h).length+1:=by
  intro l
  induction l with
  | nil=>intro _ hx; simp at hx
  | cons y l ih=>
   intro nd hx;rw [List.nodup_cons] at nd;by_cases q:y=i
   ·subst q;have hl:l.filter (upd h y true)=l.filter h:=List.filter_congr fun z hz=>Yj (fun e=>nd.1 (by rw [<- e]; exact hz));rw [List.filter_cons_of_pos (by rw [Z8]),List.filter_cons_of_neg (by simp [hn]),hl,length_cons]
   ·have hx':i∈l:=by
     rcases List.mem_cons.1 hx with e | e
     ·exact absurd e.symm q
     ·exact e
    have:=ih nd.2 hx';by_cases hy:h y=true
    ·rw [List.filter_cons_of_pos (by rw [Yj q]; exact hy),List.filter_cons_of_pos hy,length_cons,length_cons,this]
    ·rw [List.filter_cons_of_neg (by rw [Yj q]; exact hy),List.filter_cons_of_neg hy,this]
 exact key _ List.nodup_range (List.mem_range.2 hi)
theorem BR.word (b:BR N p h) {i:Nat} (hi:i<N) {v:Bool} {y:Nat} (hy:y<18446744073709551616) (ht:∀ x:Nat,p.2.2.getD (i / 64) default=(x:Int)->∀ j,j<64->y.testBit j=if j=i % 64 then v else x.testBit j) {cnt:Int} (hc:cnt=(((List.range N).filter (upd h i v)).length:Int)) :
  BR N (p.1,cnt,p.2.2.set (i / 64) (y:Int)) (upd h i v):=by
 have hl:=b.len;have hN:=b.N1;have hw:i / 64<p.2.2.length:=by omega
 refine ⟨b.n,hN,hc,by rw [length_set]; exact hl,fun w hw2=>?_⟩;rw [length_set] at hw2;dsimp only;rw [Xg hw];obtain ⟨x,hx,hx2,hx3⟩:=b.bit w hw2;by_cases q:i / 64=w
 ·subst q;refine ⟨y,iT rfl,hy,fun j hj=>?_⟩;rw [ht x hx j hj];by_cases qj:j=i % 64
  ·subst qj;rw [iT rfl,show 64*(i / 64)+i % 64=i by omega,Z8];simp [hi]
  ·rw [iF qj,hx3 j hj,Yj]
 ·refine ⟨x,by rw [iF q]; exact hx,hx2,fun j hj=>?_⟩;rw [hx3 j hj,Yj]
theorem Zmy (b:BR N p h):((List.range N).filter h).length<=N:=by
 have:=List.length_filter_le h (List.range N);rw [length_range] at this;exact this
theorem BR.set (b:BR N p h) {i:Nat} (hi:i<4294967296):∃ p',Q8.f p (i:Int)=some (if N<=i then 4 else if h i=true then 10 else 0,p')/\BR N p' (if N<=i then h else upd h i true):=by
 have hN:=b.N1;unfold Q8.f;rw [b.there,bS];by_cases q:N<=i
 ·rw [iT q,iT (by decide),iT q,iT q];exact ⟨p,rfl,b⟩
 ·rw [iF q,iF (by decide),b.has hi,bS,iF q,iF q];have hi':i<N:=by omega
  by_cases hh:h i=true
  ·rw [iT (by simp [hi',hh]),iT hh];refine ⟨p,rfl,?_⟩;rw [show upd h i true=h from funext fun j=>by
    by_cases qj:j=i
    ·subst qj; rw [Z8,hh]
    ·rw [Yj qj]]
   exact b
  ·obtain ⟨e1,e2⟩:=Zhb hi;have hl:=b.len;have hw:i / 64<p.2.2.length:=by omega
   obtain ⟨x,hx,hx2,hx3⟩:=b.bit _ hw;have hm:i % 64<64:=Nat.mod_lt _ (by decide);have hp:=Zs6 hm;have hcl:=Zmy b;have hcn:=b.cnt;rw [iF (by simp [hh]),iF hh,e1,e2,iO,iO,Zt,hx,tN,tN,Zqt hm,orB hx2 hp];have hor:x ||| 2 ^ (i % 64)<18446744073709551616:=by rw [<- orB hx2 hp]; exact Zlg _
   rw [wrB hor];have hf:h i=false:=by simpa using hh
   refine ⟨_,rfl,b.word hi' hor (fun x' hx' j hj=>?_) ?_⟩
   ·have:x'=x:=by rw [hx] at hx'; omega
    subst this;rw [Nat.testBit_or,Nat.testBit_two_pow];by_cases qj:j=i % 64
    ·subst qj; simp
    ·rw [iF qj];have:¬ i % 64=j:=fun e=>qj e.symm;simp [this]
   ·rw [Zk5 hi' hf,hcn,wI2]; omega
theorem Zr6 {x:Nat} (h0:x≠0) (h1:x<18446744073709551616):Go.Lib.ctz 64 x<64/\x.testBit (Go.Lib.ctz 64 x)=true/\∀ j,j<Go.Lib.ctz 64 x->x.testBit j=false:=by
 unfold Go.Lib.ctz;rw [iF h0];obtain ⟨m,hm,hc⟩:=Go.Lib.ctzFrom_spec 64 x (by omega) (by omega);generalize Go.Lib.ctzFrom 64 x=c at *;refine ⟨hc,?_,fun j hj=>?_⟩
 ·rw [hm,Nat.mul_comm,Nat.testBit_mul_two_pow];simp
 ·rw [hm,Nat.mul_comm,Nat.testBit_mul_two_pow];have:¬ c<=j:=by omega
  simp [this]
def Vb (N:Nat) (h:Nat->Bool) (turn:Bool) (i:Nat):Bool:=if turn=true then !(decide (i<N) && h i) else decide (i<N) && h i
theorem Zki (b:BR N p h) (turn:Bool) {fr:Nat} (hfr:fr<4294967296):∀(q w k:Nat),p.2.2.length=w+q->fr / 64<=w->q<k->(∀ j,fr<=j->j<64*w->Vb N h turn j=false)->
  (∃ i:Nat,Q9.l0 k p (fr:Int) (if turn=true then 18446744073709551615 else 0) (w:Int)=some ((i:Int),decide (i<N))/\fr<=i/\i<64*p.2.2.length/\Vb N h turn i=true/\∀ j,fr<=j->j<i->Vb N h turn j=false)\/
   (Q9.l0 k p (fr:Int) (if turn=true then 18446744073709551615 else 0) (w:Int)=some (0,false)/\∀ j,fr<=j->j<64*p.2.2.length->Vb N h turn j=false)
 | _,_,0,_,_,hk,_=>by omega
 | 0,w,k+1,hq,hw,hk,hn=>by
  have hN:=b.N1;have hl:=b.len;right;rw [Q9.l0,iN];exact ⟨rfl,fun j h1 h2=>hn j h1 (by omega)⟩
 | q+1,w,k+1,hq,hw,hk,hn=>by
  have hN:=b.N1;have hl:=b.len;have hwl:w<p.2.2.length:=by omega
  obtain ⟨x,hx,hx2,hx3⟩:=b.bit w hwl;have hmx:(if (fr:Int)>0 then (fr:Int) else 0)=(fr:Int):=by split <;> omega
  obtain ⟨d1,d2⟩:=Zhb hfr
  -- the word,turned
  obtain ⟨y,hy,hy2,hy3⟩:∃ y:Nat,(uH.wrap (((ofInt uH.bits (x:Int) ^^^ (ofInt uH.bits (if turn=true then 18446744073709551615 else 0))).toNat:Int)))=(y:Int)/\y<18446744073709551616/\∀ j,j<64->y.testBit j=Vb N h turn (64*w+j):=by
   cases turn with
   | true=>
    have e:=xoB (y:=18446744073709551615) hx2 (by decide);refine ⟨x ^^^ 18446744073709551615,?_,?_,fun j hj=>?_⟩
    ·rw [iT rfl,show (18446744073709551615:Int)=((18446744073709551615:Nat):Int) from rfl,e,wrB (by rw [<- e]; exact Zlg _)]
    ·rw [<- e]; exact Zlg _
    ·rw [Nat.testBit_xor,hx3 j hj,show (18446744073709551615:Nat)=2 ^ 64 - 1 by decide,Nat.testBit_two_pow_sub_one];unfold Vb;simp [hj]
   | false=>
    have e:=xoB (y:=0) hx2 (by decide);refine ⟨x,?_,hx2,fun j hj=>?_⟩
    ·rw [iF (by decide),show (0:Int)=((0:Nat):Int) from rfl,e,Nat.xor_zero,wrB hx2]
    ·rw [hx3 j hj]; rfl
  rw [Q9.l0,iP,iO,hmx,d1,d2,Zt,hx,hy]
  -- what is looked at,at this word
  have step:∀ z:Nat,z<18446744073709551616->(∀ j,j<64->z.testBit j=(decide (fr<=64*w+j) && Vb N h turn (64*w+j)))->
    (∃ i:Nat,(if (decide ((z:Int)=0))=true then Q9.l0 k p (fr:Int) (if turn=true then 18446744073709551615 else 0) (w64 ((w:Int)+1)) else (if 0<=(z:Int)/\(z:Int)<18446744073709551616 then some ((w64 ((w64 ((w:Int)*64))+(tzI (z:Int)))),(decide ((w64 ((w64 ((w:Int)*64))+(tzI (z:Int))))<p.1))) else none))=some ((i:Int),decide (i<N))/\fr<=i/\i<64*p.2.2.length/\Vb N h turn i=true/\∀ j,fr<=j->j<i->Vb N h turn j=false)\/
    ((if (decide ((z:Int)=0))=true then Q9.l0 k p (fr:Int) (if turn=true then 18446744073709551615 else 0) (w64 ((w:Int)+1)) else (if 0<=(z:Int)/\(z:Int)<18446744073709551616 then some ((w64 ((w64 ((w:Int)*64))+(tzI (z:Int)))),(decide ((w64 ((w64 ((w:Int)*64))+(tzI (z:Int))))<p.1))) else none))=some (0,false)/\∀ j,fr<=j->j<64*p.2.2.length->Vb N h turn j=false):=by
   intro z hz hzt;by_cases z0:z=0
   ·subst z0;rw [iT (by decide),wS2];refine Zki b turn hfr q (w+1) k (by omega) (by omega) (by omega) fun j h1 h2=>?_;by_cases hj:j<64*w
    ·exact hn j h1 hj
    ·have:=hzt (j - 64*w) (by omega);rw [Nat.zero_testBit,show 64*w+(j - 64*w)=j by omega] at this;have h3:decide (fr<=j)=true:=dT h1;rw [h3,Bool.true_and] at this;exact this.symm
   ·obtain ⟨c1,c2,c3⟩:=Zr6 z0 hz;left;have tz:tzI (z:Int)=((Go.Lib.ctz 64 z:Nat):Int):=by unfold tzI; rw [tN]
    generalize Go.Lib.ctz 64 z=cz at *;have hb:=hzt cz c1;rw [c2] at hb;have hb2:=(Bool.and_eq_true _ _).mp hb.symm;have hfr2:=of_decide_eq_true hb2.1;refine ⟨64*w+cz,?_,hfr2,by omega,hb2.2,fun j h1 h2=>?_⟩
    ·rw [iW,iO,tz,wI2 (x:=(w:Int)*64),wI2,b.n];congr 2
     ·omega
     ·exact decide_eq_decide.2 (by omega)
    ·by_cases hj:j<64*w
     ·exact hn j h1 hj
     ·have:=hzt (j - 64*w) (by omega);rw [c3 (j - 64*w) (by omega),show 64*w+(j - 64*w)=j by omega] at this;have h3:decide (fr<=j)=true:=dT h1;rw [h3,Bool.true_and] at this;exact this.symm
  by_cases qw:w=fr / 64
  ·rw [iP,iO,tN];obtain ⟨s,hs,hs2,hs3⟩:=Zqr (f:=fr % 64) (Nat.mod_lt _ (by decide));have ea:=anB hy2 hs2;have hal:y &&& s<18446744073709551616:=by rw [<- ea]; exact Zlg _
   rw [hs,ea,wrB hal];refine step _ hal fun j hj=>?_;rw [Nat.testBit_and,hy3 j hj,hs3 j hj,Bool.and_comm];congr 1;exact decide_eq_decide.2 (by omega)
  ·rw [iN];refine step y hy2 fun j hj=>?_;rw [hy3 j hj];have:decide (fr<=64*w+j)=true:=dT;rw [this,Bool.true_and]
theorem Zta (b:BR N p h) (turn:Bool) {fr:Nat} (hfr:fr<4294967296) {k:Nat} (hk:2000<k) :
  (∃ i:Nat,Q9.f k p (fr:Int) (if turn=true then 18446744073709551615 else 0)=some ((i:Int),decide (i<N))/\fr<=i/\i<64*p.2.2.length/\Vb N h turn i=true/\∀ j,fr<=j->j<i->Vb N h turn j=false)\/
   (Q9.f k p (fr:Int) (if turn=true then 18446744073709551615 else 0)=some (0,false)/\∀ j,fr<=j->j<64*p.2.2.length->Vb N h turn j=false):=by
 have hN:=b.N1;have hl:=b.len;have hmx:(if (fr:Int)>0 then (fr:Int) else 0)=(fr:Int):=by split <;> omega
 unfold Q9.f;rw [hmx,(Zhb hfr).1];by_cases q:fr / 64<=p.2.2.length
 ·exact Zki b turn hfr (p.2.2.length - fr / 64) (fr / 64) k (by omega) (Nat.le_refl _) (by omega) fun j h1 h2=>by omega
 ·obtain ⟨k,rfl⟩:∃ k',k=k'+1:=⟨k - 1,by omega⟩;right;rw [Q9.l0,iN];exact ⟨rfl,fun j h1 h2=>by omega⟩
theorem BR.free (b:BR N p h) {k:Nat} (hk:2000<k) (hfree:∃ i,i<N/\h i=false):∃ i:Nat,Q5.f k p 0=some ((i:Int),true)/\i<N/\h i=false/\∀ j,j<i->h j=true:=by
 have hN:=b.N1;have hl:=b.len;obtain ⟨i0,h1,h2⟩:=hfree;unfold Q5.f Q7.f Q11.f;have hs:=Zta b true (fr:=0) (by decide) hk;rw [iT rfl] at hs;have hi0:Vb N h true i0=true:=by unfold Vb; simp [h1,h2]
 rcases hs with ⟨i,e,_,g2,g3,g4⟩ | ⟨e,g⟩
 ·have hiN:i<N:=by
   apply Nat.lt_of_not_le;intro hge;have:=g4 i0 (Nat.zero_le _) (by omega);rw [hi0] at this; cases this
  rw [bS,b.n,iN,show Q9.f k p 0 18446744073709551615=_ from e,bS,iF (by simp [hiN])];refine ⟨i,rfl,hiN,?_,fun j hj=>?_⟩
  ·unfold Vb at g3;simpa [hiN] using g3
  ·have:=g4 j (Nat.zero_le _) hj;have hjN:j<N:=by omega
   unfold Vb at this;simpa [hjN] using this
 ·have:=g i0 (Nat.zero_le _) (by omega);rw [hi0] at this; cases this
end
namespace MC
def cont (B:Nat) (m:MC) (i:Nat):List Int:=match m.fr i with
 | none=>blk m.img B i
 | some x=>x.b
theorem cont_no {B:Nat} {m:MC} {i:Nat} (e:m.fr i=none):m.cont B i=blk m.img B i:=by unfold cont; rw [e]
theorem cont_at {B:Nat} {m:MC} {i:Nat} {x:Fm} (e:m.fr i=some x):m.cont B i=x.b:=by unfold cont; rw [e]
def Cl (B:Nat) (m:MC):Prop:=∀ i x,m.fr i=some x->x.d=false->x.b=blk m.img B i
end MC
section
variable {N B n t:Nat} {m k:MC} {i:Nat} {x:Fm}
theorem Cl.evict (mi:MI N B n t m) (cl:m.Cl B) (q:Nat):(m.evict B q).Cl B/\(∀ j,j<N->(m.evict B q).cont B j=m.cont B j)/\((m.evict B q).fr q=none)/\∀ j,m.fr j=none->(m.evict B q).fr j=none:=by
 cases e:m.fr q with
 | none=>
  have:m.evict B q=m:=by unfold MC.evict; rw [e]
  rw [this];exact ⟨cl,fun _ _=>rfl,e,fun _ h=>h⟩
 | some x=>
  obtain ⟨hq,hb,_⟩:=mi.len q x e;rw [MC.evict_eq e];refine ⟨fun j y hj hd=>?_,fun j hj=>?_,Z8 _ _ _,fun j hj=>?_⟩
  ·dsimp only at hj ⊢;by_cases qj:j=q
   ·subst qj; rw [Z8] at hj; cases hj
   ·rw [Yj qj] at hj;have h1:=cl j y hj hd;split
    ·rw [Zb2 mi.dim hq hb j (mi.len j y hj).1,iF qj]; exact h1
    ·exact h1
  ·by_cases qj:j=q
   ·subst qj;rw [MC.cont_at e,MC.cont_no (Z8 _ _ _)];dsimp only;split
    ·rw [Zb2 mi.dim hq hb j hq,iT rfl]
    ·rename_i hd;exact (cl j x e (by simpa using hd)).symm
   ·cases ej:m.fr j with
    | none=>
     rw [MC.cont_no ej,MC.cont_no (by show upd m.fr q none j=none; rw [Yj qj]; exact ej)];dsimp only;split
     ·rw [Zb2 mi.dim hq hb j hj,iF qj]
     ·rfl
    | some y=>rw [MC.cont_at ej,MC.cont_at (show upd m.fr q none j=some y by rw [Yj qj]; exact ej)]
  ·show upd m.fr q none j=none;by_cases qj:j=q
   ·subst qj; exact Z8 _ _ _
   ·rw [Yj qj]; exact hj
theorem Cl.room (mi:MI N B n t m) (cl:m.Cl B) (h:m.room B n=some k):k.Cl B/\(∀ j,j<N->k.cont B j=m.cont B j)/\∀ j,m.fr j=none->k.fr j=none:=by
 unfold MC.room at h;split at h
 ·injection h with h; subst h; exact ⟨cl,fun _ _=>rfl,fun _ h=>h⟩
 ·split at h
  ·cases h
  ·rename_i q _;injection h with h; subst h;obtain ⟨h1,h2,_,h3⟩:=Cl.evict mi cl q;exact ⟨h1,h2,h3⟩
theorem Cl.lay {img:T3} {rd wr:Int} {fr:Nat->Option Fm} {u u':Nat} {row row':List Nat} (cl:(⟨img,rd,wr,fr,u,row⟩:MC).Cl B) {x:Fm} (hx:x.d=false->x.b=blk img B i) {rd':Int}:(⟨img,rd',wr,upd fr i (some x),u',row'⟩:MC).Cl B/\∀ j,(⟨img,rd',wr,upd fr i (some x),u',row'⟩:MC).cont B j=if j=i then x.b else (⟨img,rd,wr,fr,u,row⟩:MC).cont B j:=by
 refine ⟨fun j y hj hd=>?_,fun j=>?_⟩
 ·have hj':upd fr i (some x) j=some y:=hj;by_cases q:j=i
  ·subst q; rw [Z8] at hj'; injection hj' with hj'; subst hj'; exact hx hd
  ·rw [Yj q] at hj'; exact cl j y hj' hd
 ·by_cases q:j=i
  ·subst q; rw [iT rfl]; exact MC.cont_at (Z8 _ _ _)
  ·rw [iF q]; unfold MC.cont; dsimp only; rw [Yj q]
theorem Cl.pin (mi:MI N B n t m) (cl:m.Cl B) (i:Nat):(m.pin N B n i).2.Cl B/\∀ j,j<N->(m.pin N B n i).2.cont B j=m.cont B j:=by
 by_cases h:N<=i
 ·rw [MC.pin_out h]; exact ⟨cl,fun _ _=>rfl⟩
 cases e:m.fr i with
 | some x=>
  rw [MC.pin_hit h e];obtain ⟨h1,h2⟩:=Cl.lay (i:=i) (x:=⟨x.b,x.d,x.p+1⟩) (u':=m.used) (row':=m.row.erase i) (rd':=m.rd) (cl:(⟨m.img,m.rd,m.wr,m.fr,m.used,m.row⟩:MC).Cl B) (fun hd=>cl i x e hd);refine ⟨h1,fun j hj=>?_⟩;rw [show (((m.put i ⟨x.b,x.d,x.p+1⟩).cut i).cont B j)=_ from h2 j];split
  ·rename_i q; subst q; exact (MC.cont_at e).symm
  ·rfl
 | none=>
  cases r:m.room B n with
  | none=>rw [MC.pin_full h e r]; exact ⟨cl,fun _ _=>rfl⟩
  | some k=>
   obtain ⟨c1,c2,c3⟩:=Cl.room mi cl r;rw [MC.pin_miss h e r];obtain ⟨h1,h2⟩:=Cl.lay (i:=i) (x:=⟨blk k.img B i,false,1⟩) (u':=k.used+1) (row':=k.row) (rd':=k.rd+1) (c1:(⟨k.img,k.rd,k.wr,k.fr,k.used,k.row⟩:MC).Cl B) (fun _=>rfl);refine ⟨h1,fun j hj=>?_⟩;rw [show ((⟨k.img,k.rd+1,k.wr,k.fr,k.used,k.row⟩:MC).come i ⟨blk k.img B i,false,1⟩).cont B j=_ from h2 j];split
   ·rename_i q; subst q; rw [<- c2 j hj]; exact (MC.cont_no (c3 j e)).symm
   ·exact c2 j hj
theorem Cl.fresh (mi:MI N B n t m) (cl:m.Cl B) (i:Nat):(m.fresh N B n i).2.Cl B/\((m.fresh N B n i).1=0->i<N)/\∀ j,j<N->(m.fresh N B n i).2.cont B j=if (m.fresh N B n i).1=0/\j=i then List.replicate B 0 else m.cont B j:=by
 by_cases h:N<=i
 ·rw [MC.fresh_out h]; exact ⟨cl,fun e=>by simp at e,fun _ _=>by rw [vS]⟩
 cases e:m.fr i with
 | some x=>
  by_cases p:0<x.p
  ·rw [MC.fresh_pin h e p]; exact ⟨cl,fun e=>by simp at e,fun _ _=>by rw [vS]⟩
  ·rw [MC.fresh_hit h e p];obtain ⟨h1,h2⟩:=Cl.lay (i:=i) (x:=⟨List.replicate B 0,true,1⟩) (u':=m.used) (row':=m.row.erase i) (rd':=m.rd) (cl:(⟨m.img,m.rd,m.wr,m.fr,m.used,m.row⟩:MC).Cl B) (fun hd=>by cases hd);refine ⟨h1,fun _=>by omega,fun j hj=>?_⟩;rw [show (((m.put i ⟨List.replicate B 0,true,1⟩).cut i).cont B j)=_ from h2 j];by_cases q:j=i
   ·rw [iT q,iT ⟨rfl,q⟩]
   ·rw [iF q,iF (fun z=>q z.2)]
 | none=>
  cases r:m.room B n with
  | none=>rw [MC.fresh_full h e r]; exact ⟨cl,fun e=>by simp at e,fun _ _=>by rw [vS]⟩
  | some k=>
   obtain ⟨c1,c2,c3⟩:=Cl.room mi cl r;rw [MC.fresh_miss h e r];obtain ⟨h1,h2⟩:=Cl.lay (i:=i) (x:=⟨List.replicate B 0,true,1⟩) (u':=k.used+1) (row':=k.row) (rd':=k.rd) (c1:(⟨k.img,k.rd,k.wr,k.fr,k.used,k.row⟩:MC).Cl B) (fun hd=>by cases hd);refine ⟨h1,fun _=>by omega,fun j hj=>?_⟩;rw [show (k.come i ⟨List.replicate B 0,true,1⟩).cont B j=_ from h2 j];by_cases q:j=i
   ·rw [iT q,iT ⟨rfl,q⟩]
   ·rw [iF q,iF (fun z=>q z.2)]; exact c2 j hj
theorem Cl.unpin (cl:m.Cl B) (i:Nat):(m.unpin i).2.Cl B/\∀ j,(m.unpin i).2.cont B j=m.cont B j:=by
 cases e:m.fr i with
 | none=>rw [MC.unpin_no e]; exact ⟨cl,fun _=>rfl⟩
 | some x=>
  have key:∀(p u:Nat) (row:List Nat),(⟨m.img,m.rd,m.wr,upd m.fr i (some ⟨x.b,x.d,p⟩),u,row⟩:MC).Cl B/\∀ j,(⟨m.img,m.rd,m.wr,upd m.fr i (some ⟨x.b,x.d,p⟩),u,row⟩:MC).cont B j=m.cont B j:=fun p u row=>by
   obtain ⟨h1,h2⟩:=Cl.lay (i:=i) (x:=⟨x.b,x.d,p⟩) (u':=u) (row':=row) (rd':=m.rd) (cl:(⟨m.img,m.rd,m.wr,m.fr,m.used,m.row⟩:MC).Cl B) (fun hd=>cl i x e hd);refine ⟨h1,fun j=>?_⟩;rw [h2 j];split
   ·rename_i q; subst q; exact (MC.cont_at e).symm
   ·rfl
  by_cases p:x.p=0
  ·rw [MC.unpin_out e p]; exact ⟨cl,fun _=>rfl⟩
  ·by_cases p1:x.p=1
   ·rw [MC.unpin_one e p1]; exact key _ _ _
   ·rw [MC.unpin_more e p p1]; exact key _ _ _
theorem Cl.write (mi:MI N B n t m) (cl:m.Cl B) (i:Nat) (b:T3):(m.write B i b).2.Cl B/\((m.write B i b).1=0->i<N)/\∀ j,(m.write B i b).2.cont B j=if (m.write B i b).1=0/\j=i then b else m.cont B j:=by
 cases e:m.fr i with
 | none=>rw [MC.write_no e]; exact ⟨cl,fun e=>by simp at e,fun _=>by rw [vS]⟩
 | some x=>
  by_cases p:x.p=0
  ·rw [MC.write_out e p]; exact ⟨cl,fun e=>by simp at e,fun _=>by rw [vS]⟩
  ·by_cases q:b.length=B
   ·rw [MC.write_hit e p q];obtain ⟨h1,h2⟩:=Cl.lay (i:=i) (x:=⟨b,true,x.p⟩) (u':=m.used) (row':=m.row) (rd':=m.rd) (cl:(⟨m.img,m.rd,m.wr,m.fr,m.used,m.row⟩:MC).Cl B) (fun hd=>by cases hd);refine ⟨h1,fun _=>(mi.len i x e).1,fun j=>?_⟩;rw [show (m.put i ⟨b,true,x.p⟩).cont B j=_ from h2 j];by_cases q:j=i
    ·rw [iT q,iT ⟨rfl,q⟩]
    ·rw [iF q,iF (fun z=>q z.2)]
   ·rw [MC.write_form e p q]; exact ⟨cl,fun e=>by simp at e,fun _=>by rw [vS]⟩
end
abbrev Shf:=Cfg×Ca×Bt×Int
section
variable {c:Cfg} {N B n t q:Nat} {s:Shf} {L:List Nat}
theorem Zdn:∀ {l:T3},Byt l->toB (toS l)=l
 | [],_=>rfl
 | x :: l,h=>by
  have hx:=h x (by simp);have ih:=Zdn (l:=l) fun y hy=>h y (List.mem_cons_of_mem _ hy);obtain ⟨v,rfl⟩:=Int.eq_ofNat_of_zero_le hx.1;unfold toS toB at *;rw [List.map_cons,List.map_cons,ih];congr 1;rw [tN,UInt8.toNat_ofNat'];rw [Nat.mod_eq_of_lt (by omega)]
structure EncN (nd:Nd):Prop where
 l1:nd.2.1.length<=35184372087808
 l2:nd.2.2.1.length<=35184372087808
 l3:nd.2.2.2.1.length<=35184372087808
 l4:nd.2.2.2.2.length<=35184372087808
 kd:∀ x∈nd.2.1,0<=x/\x<4294967296
theorem EncN.of {nd:Nd} (h:SmallN nd) (kd:∀ x∈nd.2.1,0<=x/\x<4294967296):EncN nd:=⟨by have:=h.kids; omega,by have:=h.pivs; omega,by have:=h.buf; omega,by have:=h.prs; omega,kd⟩
theorem EncN.ev {nd:Nd} (h:EncN nd) (c:Cfg):Ev (fun k=>Q35.f k c nd) (Um c nd):=Zsl h.l1 h.l2 h.l3 h.l4 h.kd
end
theorem Zrr {N B:Nat} (h:5<=N/\N<=65536/\1<=B/\B<=65536):Q54.f (N:Int) (B:Int)=some (some ((B:Int),List.replicate (N*B) 0,(0,0)),0):=by
 have hb:N*B<=65536*65536:=Nat.mul_le_mul h.2.1 h.2.2.2;have e:w64 ((N:Int)*(B:Int))=((N*B:Nat):Int):=by rw [show (N:Int)*(B:Int)=((N*B:Nat):Int) by simp,wI2]
 unfold Q54.f Q55.f;rw [iP,iP,iP,bS,iW,e,iO,tN]
structure Geo (c:Cfg) (N B n:Nat):Prop where
 ok:okB c=true
 z:Siz N B n
 n8:8<=n
 N5:5<=N/\N<=65536
 hB:B<=65536
 eN:c.1=(N:Int)
 eB:c.2.1=(B:Int)
 en:c.2.2.1=(n:Int)
structure ShK (c:Cfg) (N B n t:Nat) (s:Shf) (L:List Nat) (q:Nat) (K:Nat->List Int) (h:Nat->Bool):Prop where
 cfg:s.1=c
 ca:CaI N B n t [] s.2.1 L
 by':(Z6 s.2.1 L).By
 cl:(Z6 s.2.1 L).Cl B
 ct:∀ j,j<N->(Z6 s.2.1 L).cont B j=K j
 bits:BR N s.2.2.1 h
 h0:h 0=true
 kp:s.2.2.2=(q:Int)
 qN:q<N
 pin:∀ j,(Z6 s.2.1 L).cnt j=if j=q/\q≠0 then 1 else 0
 rd:0<=s.2.1.1.2.2.1/\s.2.1.1.2.2.1<=t
 wr:0<=s.2.1.1.2.2.2/\s.2.1.1.2.2.2<=64*t
section
variable {c:Cfg} {N B n t q:Nat} {s:Shf} {L:List Nat} {K:Nat->List Int} {h:Nat->Bool}
theorem ShK.few (H:ShK c N B n t s L q K h) (ht:t<=900000):Few s.2.1:=⟨⟨H.rd.1,by have:=H.rd.2; omega⟩,⟨H.wr.1,by have:=H.wr.2; omega⟩⟩
theorem ShK.up (H:ShK c N B n t s L q K h) {t':Nat} (ht:t<=t'):ShK c N B n t' s L q K h:=⟨H.cfg,H.ca.mono ht,H.by',H.cl,H.ct,H.bits,H.h0,H.kp,H.qN,H.pin,⟨H.rd.1,by have:=H.rd.2; omega⟩,⟨H.wr.1,by have:=H.wr.2; omega⟩⟩
theorem Znv (g:Geo c N B n) (ca:CaI N B n t [] s.2.1 L) (hp:∀ j,(Z6 s.2.1 L).cnt j=if j=q/\q≠0 then 1 else 0):∃ k,(Z6 s.2.1 L).room B n=some k:=by
 unfold MC.room;by_cases hu:(Z6 s.2.1 L).used<n
 ·exact ⟨_,iT hu⟩
 ·rw [iF hu];have hlen:2<=s.2.1.2.2.1.length:=by
   have:=g.n8;have e:(Z6 s.2.1 L).used=s.2.1.2.2.1.length:=rfl;omega
  have hne:(Z6 s.2.1 L).row≠[]:=by
   have free:∀ i f:Nat,((i:Int),(f:Int))∈s.2.1.2.2.1->i≠q->(Z6 s.2.1 L).row≠[]:=fun i f hm hi e=>by
    have h1:=Ua ca hm;have h2:=hp i;rw [iF (fun z=>hi z.1)] at h2;have h3:(Z6 s.2.1 L).fr i=some (fm (s.2.1.2.1.getD f default)):=h1;rw [MC.cnt_at h3] at h2;have:=(ca.mi.rfr i).2 ⟨_,h3,h2⟩;rw [e] at this; cases this
   match hm:s.2.1.2.2.1,hlen with
   | a :: b :: r,_=>
    obtain ⟨i,f,ea,_⟩:=ca.mok a (by rw [hm]; simp);obtain ⟨j,f',eb,_⟩:=ca.mok b (by rw [hm]; simp);have hnd:=ca.mnd;rw [hm,List.map_cons,List.map_cons,List.nodup_cons,List.mem_cons,ea,eb] at hnd;by_cases q1:i=q
    ·refine free j f' (by rw [hm,eb]; simp) fun q2=>hnd.1 (.inl ?_);rw [q1,q2]
    ·exact free i f (by rw [hm,ea]; simp) q1
  cases e:(Z6 s.2.1 L).row.getLast? with
  | none=>exact absurd (List.getLast?_eq_none_iff.1 e) hne
  | some x=>exact ⟨_,rfl⟩
theorem MC.pin_ok {m:MC} {i:Nat} (hr:∃ k,m.room B n=some k) (hi:i<N):(m.pin N B n i).1=0:=by
 obtain ⟨k,hk⟩:=hr;unfold MC.pin;rw [iQ];cases m.fr i with
 | some x=>rfl
 | none=>rw [hk]
theorem MC.fresh_ok {m:MC} {i:Nat} (hr:∃ k,m.room B n=some k) (hi:i<N) (h0:m.cnt i=0):(m.fresh N B n i).1=0:=by
 obtain ⟨k,hk⟩:=hr;unfold MC.fresh;rw [iQ];cases e:m.fr i with
 | some x=>rw [MC.cnt_at e] at h0; dsimp only; rw [iQ]
 | none=>dsimp only; rw [hk]
theorem MC.write_ok {m:MC} {i:Nat} {b:T3} (h1:1<=m.cnt i) (hb:b.length=B):(m.write B i b).1=0:=by
 cases e:m.fr i with
 | none=>rw [MC.cnt_no e] at h1; omega
 | some x=>rw [MC.cnt_at e] at h1; rw [MC.write_hit e (by omega) hb]
theorem MC.read_ok {m:MC} {i:Nat} (h1:1<=m.cnt i):m.read i=(m.cont B i,0):=by
 cases e:m.fr i with
 | none=>rw [MC.cnt_no e] at h1; omega
 | some x=>rw [MC.cnt_at e] at h1; rw [MC.read_hit e (by omega),MC.cont_at e]
theorem ShK.there (g:Geo c N B n) (H:ShK c N B n t s L q K h) {i:Nat} (hi:i<4294967296):Q86.f s (i:Int)=some (if 1<=i/\i<N then 0 else 4):=by
 have e:=g.eN;have hN:=g.N5;unfold Q86.f;rw [H.cfg,e];by_cases q0:i=0
 ·rw [iP,iQ]
 ·have w1:w64 (i:Int)=(i:Int):=wI2;rw [iN,w1];by_cases q1:N<=i
  ·rw [iP,iQ]
  ·rw [iN,iO]
theorem ShK.put (H:ShK c N B n t s L q K h) {c':Ca} {L':List Nat} {t' a b:Nat} {K':Nat->List Int} (hca:CaI N B n t' [] c' L') (hto:MC.To a b (Z6 s.2.1 L) (Z6 c' L')) (hcl:(Z6 c' L').Cl B) (hct:∀ j,j<N->(Z6 c' L').cont B j=K' j) (hpin:∀ j,(Z6 c' L').cnt j=if j=q/\q≠0 then 1 else 0) (ht:t+a<=t') (hb:b<=64*(t' - t)):ShK c N B n t' (s.1,c',s.2.2.1,s.2.2.2) L' q K' h:=
 ⟨H.cfg,hca,hto.by' H.by',hcl,hct,H.bits,H.h0,H.kp,H.qN,hpin,by
  have r1:=hto.rd;have r2:=H.rd;have e1:(Z6 s.2.1 L).rd=s.2.1.1.2.2.1:=rfl;have e2:(Z6 c' L').rd=c'.1.2.2.1:=rfl;show 0<=c'.1.2.2.1/\c'.1.2.2.1<=t';omega,by
  have r1:=hto.wr;have r2:=H.wr;have e1:(Z6 s.2.1 L).wr=s.2.1.1.2.2.2:=rfl;have e2:(Z6 c' L').wr=c'.1.2.2.2:=rfl;show 0<=c'.1.2.2.2/\c'.1.2.2.2<=64*t';omega⟩
def Zd9 (c:Cfg) (b:T3):Nd×Int:=Ze6 c (toS b)
theorem Zpq (g:Geo c N B n) (H:ShK c N B n t s L q K h) (ht:t<=800000) {i:Nat} (hi:i<4294967296):∃(s':Shf) (L':List Nat),Ev (fun k=>Q80.f k s (i:Int)) (if 1<=i/\i<N then ((Zd9 c (K i)).1,(Zd9 c (K i)).2,s') else (G8,4,s'))/\ShK c N B n (t+1) s' L' q K h/\MC.To 1 1 (Z6 s.2.1 L) (Z6 s'.2.1 L')/\(i=q->MC.To 0 0 (Z6 s.2.1 L) (Z6 s'.2.1 L')):=by
 have ht':=H.there g hi;by_cases q1:1<=i/\i<N
 ·rw [iT q1] at ht';have hr:=Znv g H.ca H.pin;obtain ⟨c1,L1,e1,hc1,ha1⟩:=Ztt g.z H.ca (H.few (by omega)) (by omega) i hi;obtain ⟨f1,f0,f2⟩:=Pm.pin H.ca.mi H.by' i;obtain ⟨cl1,ct1⟩:=Cl.pin H.ca.mi H.cl i;have r0:=MC.pin_ok (i:=i) hr q1.2;rw [<- ha1] at f1 f0 f2 cl1 ct1;have y1:=f1.by' H.by';have p1:1<=(Z6 c1 L1).cnt i:=by rw [f2,iT ⟨r0,rfl⟩]; omega
  obtain ⟨c3,L3,e3,hc3,ha3⟩:=Zma g.z hc1 (by omega) i;obtain ⟨u1,u2⟩:=Pm.unpin y1 i;obtain ⟨cl3,ct3⟩:=Cl.unpin cl1 i;rw [<- ha3] at u1 u2 cl3 ct3;have er:=Ztk g.z hc1 i;rw [MC.read_ok (B:=B) p1,ct1 i q1.2,H.ct i q1.2] at er;have hbK:Byt (K i)/\(K i).length=B:=by
   rw [<- H.ct i q1.2,<- ct1 i q1.2];cases ef:(Z6 c1 L1).fr i with
   | none=>rw [MC.cnt_no ef] at p1; omega
   | some x=>rw [MC.cont_at ef]; exact ⟨y1.fr i x ef,(hc1.mi.len i x ef).2.1⟩
  obtain ⟨k0,hk⟩:=Zt4 (c:=c) (b:=toS (K i)) (by have:=hbK.2; have:=g.hB; rw [<- Z5,Zdn hbK.1]; omega);refine ⟨(s.1,c3,s.2.2.1,s.2.2.2),L3,⟨k0,fun k kk=>?_⟩,H.put (a:=1) (b:=1) hc3 ((f1.trans u1).le (by omega) (by omega)) cl3 (fun j hj=>by rw [ct3,ct1 j hj,H.ct j hj]) (fun j=>?_) (by omega) (by omega),(f1.trans u1).le (by omega) (by omega),fun e=>?_⟩
  ·show Q80.f k s (i:Int)=_;have hcfg:=H.cfg;unfold Q80.f;rw [ht',bS,vS,e1,bS,iF (by simpa using r0)];dsimp only;rw [er,bS,e3,bS,vS,hcfg,iT q1];have:=hk k kk;rw [Zdn hbK.1] at this;rw [show Q34.f k c (K i)=_ from this,bS];rfl
  ·rw [u2];by_cases e:j=i
   ·subst e;rw [iT rfl,f2,iT ⟨r0,rfl⟩,Nat.add_sub_cancel,H.pin]
   ·rw [iF e,f2,iF (fun z=>e z.2),H.pin]
  ·subst e;have:1<=(Z6 s.2.1 L).cnt i:=by rw [H.pin,iT ⟨rfl,by omega⟩]; omega
   exact ((f0 this).trans u1).le (by omega) (by omega)
 ·rw [iF q1] at ht';refine ⟨s,L,⟨0,fun k _=>?_⟩,H.up (by omega),(MC.To.refl _).le (by omega) (by omega),fun _=>MC.To.refl _⟩;show Q80.f k s (i:Int)=_;unfold Q80.f;rw [ht',bS,iU,iF q1];rfl
theorem Zsq (g:Geo c N B n) (H:ShK c N B n t s L q K h) (ht:t<=800000) {i:Nat} (hi:1<=i/\i<N) {b:T3} (hb:Byt b) (hl:b.length=B):∃ s' L',Q84.f s (i:Int) b=some (0,s')/\ShK c N B n (t+1) s' L' q (upd K i b) h/\MC.To 0 1 (Z6 s.2.1 L) (Z6 s'.2.1 L'):=by
 have hr:=Znv g H.ca H.pin;have hN:=g.N5;unfold Q84.f;rw [H.kp];by_cases qi:i=q
 ·obtain ⟨c',L',e,hc,ha⟩:=Znc g.z H.ca i b;obtain ⟨t1,t2⟩:=Pm.write (m:=Z6 s.2.1 L) (B:=B) i hb;obtain ⟨cl1,_,ct1⟩:=Cl.write H.ca.mi H.cl i b;have w0:((Z6 s.2.1 L).write B i b).1=0:=MC.write_ok (by rw [H.pin,iT ⟨qi,by omega⟩]; omega) hl;rw [<- ha] at t1 t2 cl1 ct1;rw [iP,e,bS,w0];refine ⟨_,L',rfl,?_,t1.le (by omega) (by omega)⟩;have:=H.put (a:=0) (b:=0) (t':=t+1) (K':=upd K i b) (hc.mono (by omega)) t1 cl1 (fun j hj=>by
   rw [ct1 j];by_cases e:j=i
   ·subst e; rw [iT ⟨w0,rfl⟩,Z8]
   ·rw [iF (fun z=>e z.2),Yj e,H.ct j hj]) (fun j=>by rw [t2,H.pin]) (by omega) (by omega)
  rw [H.kp] at this;exact this
 ·obtain ⟨c1,L1,e1,hc1,ha1⟩:=Zr5 g.z H.ca (H.few (by omega)) (by omega) i (by omega);obtain ⟨f1,f2⟩:=Pm.fresh H.ca.mi H.by' i;obtain ⟨cl1,_,ct1⟩:=Cl.fresh H.ca.mi H.cl i;have r0:((Z6 s.2.1 L).fresh N B n i).1=0:=MC.fresh_ok hr hi.2 (by rw [H.pin,iF (fun z=>qi z.1)]);rw [<- ha1] at f1 f2 cl1 ct1;have y1:=f1.by' H.by';obtain ⟨c2,L2,e2,hc2,ha2⟩:=Znc g.z hc1 i b;obtain ⟨t1,t2⟩:=Pm.write (m:=Z6 c1 L1) (B:=B) i hb;obtain ⟨cl2,_,ct2⟩:=Cl.write hc1.mi cl1 i b;have w0:((Z6 c1 L1).write B i b).1=0:=MC.write_ok (by rw [f2,iT ⟨r0,rfl⟩]; omega) hl;rw [<- ha2] at t1 t2 cl2 ct2;have y2:=t1.by' y1;obtain ⟨c3,L3,e3,hc3,ha3⟩:=Zma g.z hc2 (by omega) i;obtain ⟨u1,u2⟩:=Pm.unpin y2 i;obtain ⟨cl3,ct3⟩:=Cl.unpin cl2 i;rw [<- ha3] at u1 u2 cl3 ct3;rw [iN,e1,bS,iF (by simpa using r0)];dsimp only;rw [e2,bS];dsimp only;rw [e3,bS,w0];refine ⟨_,L3,rfl,?_,((f1.trans t1).trans u1).le (by omega) (by omega)⟩;have:=H.put (a:=0) (b:=1) (t':=t+1) (K':=upd K i b) hc3 (((f1.trans t1).trans u1).le (by omega) (by omega)) cl3 (fun j hj=>by
   rw [ct3,ct2 j];by_cases e:j=i
   ·subst e; rw [iT ⟨w0,rfl⟩,Z8]
   ·rw [iF (fun z=>e z.2),Yj e,ct1 j hj,iF (fun z=>e z.2),H.ct j hj]) (fun j=>by
   rw [u2];by_cases e:j=i
   ·subst e; rw [iT rfl,t2,f2,iT ⟨r0,rfl⟩,Nat.add_sub_cancel,H.pin]
   ·rw [iF e,t2,f2,iF (fun z=>e z.2),H.pin]) (by omega) (by omega)
  rw [H.kp] at this;exact this
def Wu (c:Cfg) (nd:Nd):List Int:=toB (B1 c nd)
theorem Zko {c:Cfg} {nd:Nd} (hn:EncN nd) (g:Geo c N B n) (hr:Yx c W4 nd=true):Byt (Wu c nd)/\(Wu c nd).length=B:=by
 have hf:=Jq (Gc g.ok) hn.kd hr;refine ⟨fun x hx=>?_,?_⟩
 ·unfold Wu toB at hx;obtain ⟨y,_,rfl⟩:=List.mem_map.1 hx;have:=y.toNat_lt;omega
 ·unfold Wu;rw [Z5,Ze7 g.ok hf];have:=(Zcj g.ok hf).2.2;have:=g.eB;omega
theorem Zd4 {c:Cfg} {nd:Nd} (hok:okB c=true) (hl:∀ x∈nd.2.1,0<=x/\x<4294967296) (hr:Yx c W4 nd=true):Zd9 c (Wu c nd)=(nd,0):=by
 unfold Zd9 Wu;rw [Zcl];exact Zo6 hok hl hr
theorem Ztl (g:Geo c N B n) (H:ShK c N B n t s L q K h) (ht:t<=800000) {i:Nat} (hi:i<4294967296) {nd:Nd} (hn:EncN nd):∃ s' L',Ev (fun k=>Q82.f k s (i:Int) nd) (if 1<=i/\i<N then (if Yx c W4 nd=true then 0 else 3) else 4,s')/\ShK c N B n (t+1) s' L' q (if (1<=i/\i<N)/\Yx c W4 nd=true then upd K i (Wu c nd) else K) h/\MC.To 0 1 (Z6 s.2.1 L) (Z6 s'.2.1 L'):=by
 have ht':=H.there g hi;obtain ⟨k0,hk'⟩:=hn.ev c;have hk:∀ k,k0<=k->Q35.f k s.1 nd=some (Um c nd):=fun k kk=>by rw [H.cfg]; exact hk' k kk
 by_cases q1:1<=i/\i<N
 ·rw [iT q1] at ht' ⊢;cases hr:Yx c W4 nd with
  | true=>
   obtain ⟨b1,b2⟩:=Zko hn g hr;obtain ⟨s',L',e,H',to⟩:=Zsq g H ht q1 b1 b2;rw [iT rfl,iT ⟨q1,rfl⟩];refine ⟨s',L',⟨k0,fun k kk=>?_⟩,H',to⟩;show Q82.f k s (i:Int) nd=_;have ee:Um c nd=(Wu c nd,0):=by unfold Um Wu; rw [iT g.ok,iT hr]
   unfold Q82.f;rw [ht',bS,vS,hk k kk,bS,ee,vS,e,bS]
  | false=>
   rw [vS,vS];refine ⟨s,L,⟨k0,fun k kk=>?_⟩,H.up (by omega),(MC.To.refl _).le (by omega) (by omega)⟩;show Q82.f k s (i:Int) nd=_;have ee:Um c nd=([],3):=by unfold Um; rw [iT g.ok,hr,vS]
   unfold Q82.f;rw [ht',bS,vS,hk k kk,bS,ee,iU]
 ·rw [iF q1] at ht' ⊢;rw [iF (fun z=>q1 z.1)];refine ⟨s,L,⟨k0,fun k kk=>?_⟩,H.up (by omega),(MC.To.refl _).le (by omega) (by omega)⟩;show Q82.f k s (i:Int) nd=_;unfold Q82.f;rw [ht',bS,iU]
end
theorem Zle {i:Nat} (h:i<4294967296):uD.wrap (i:Int)=(i:Int):=by
 have:(i:Int) % 4294967296=(i:Int):=Int.emod_eq_of_lt (by omega) (by omega);simp [IntKind.wrap,IntKind.bits,IntKind.signed,this]
section
variable {c:Cfg} {N B n t q:Nat} {s:Shf} {L:List Nat} {K:Nat->List Int} {h:Nat->Bool} {p:Bt}
def Zak (N:Nat) (h:Nat->Bool):Nat:=N - ((List.range N).filter h).length
theorem Ztc (b:BR N p h):Q74.f p=some ((Zak N h:Nat):Int):=by
 have hN:=b.N1;have hc:=Zmy b;unfold Q74.f Q78.f Q7.f Q4.f Zak;rw [bS,vS,bS,bS,b.n,b.cnt,wI2];congr 1;omega
theorem Zl2 (h:Nat->Bool):Zak N h=0↔∀ i,i<N->h i=true:=by
 unfold Zak;constructor
 ·intro e i hi;have hle:((List.range N).filter h).length<=N:=by have:=List.length_filter_le h (List.range N); rwa [length_range] at this
  have:((List.range N).filter h).length=(List.range N).length:=by rw [length_range]; omega
  exact List.length_filter_eq_length_iff.1 this i (List.mem_range.2 hi)
 ·intro e;rw [List.filter_eq_self.2 fun x hx=>e x (List.mem_range.1 hx),length_range,Nat.sub_self]
theorem Zsx (b:BR N p h):(Zak N h=0/\∀ k,3000<k->Q77.f k p=some (0,11,p))\/∃(i:Nat) (p':Bt),i<N/\h i=false/\(∀ j,j<i->h j=true)/\(∀ k,3000<k->Q77.f k p=some ((i:Int),0,p'))/\BR N p' (upd h i true):=by
 have hN:=b.N1;have eF:=Ztc b;by_cases qz:Zak N h=0
 ·refine .inl ⟨qz,fun k hk=>?_⟩;unfold Q77.f Q76.f;rw [Q78.f,bS,vS,vS,eF,bS,iP,bS,iU]
 ·have hfree:∃ i,i<N/\h i=false:=by
   apply Classical.byContradiction;intro hn;refine qz ((Zl2 h).2 fun i hi=>?_);cases hh:h i with
   | true=>rfl
   | false=>exact absurd ⟨i,hi,hh⟩ hn
  obtain ⟨i,_,hiN,hif,hil⟩:=b.free (k:=3001) (by omega) hfree;obtain ⟨p',es,b'⟩:=b.set (i:=i) (by omega);rw [iQ] at b';refine .inr ⟨i,p',hiN,hif,hil,fun k hk=>?_,b'⟩;obtain ⟨k2,rfl⟩:∃ k2,k=k2+2:=⟨k - 2,by omega⟩;obtain ⟨i2,ei,hi2N,hi2f,hi2l⟩:=b.free (k:=k2+1) (by omega) hfree;have:i2=i:=by
   rcases Nat.lt_trichotomy i2 i with z | z | z
   ·rw [hil _ z] at hi2f; cases hi2f
   ·exact z
   ·rw [hi2l _ z] at hif; cases hif
  subst this;unfold Q77.f Q76.f;rw [Q78.f,bS,vS,vS,eF,bS,iN,Q76.l0,iT (by decide),show Q5.f (k2+1) (p.1,p.2.1,p.2.2) 0=_ from ei,bS];dsimp only;rw [show Q8.f (p.1,p.2.1,p.2.2) (i2:Int)=_ from es,bS,iU,Q76.l0,iF (by decide),bS];dsimp only;rw [vS,iU,List.nil_append,show gt [uD.wrap (i2:Int)] 0=uD.wrap (i2:Int) from rfl,Zle (by omega)]
theorem ShK.pool (H:ShK c N B n t s L q K h) {p':Bt} {h':Nat->Bool} (b:BR N p' h') (h0:h' 0=true):ShK c N B n t (s.1,s.2.1,p',s.2.2.2) L q K h':=⟨H.cfg,H.ca,H.by',H.cl,H.ct,b,h0,H.kp,H.qN,H.pin,H.rd,H.wr⟩
theorem Zsw (g:Geo c N B n) (H:ShK c N B n t s L q K h) (ht:t<=800000) {nd:Nd} (hn:EncN nd) :
  (Yx c W4 nd=false/\Ev (fun k=>Q81.f k s nd) (0,3,s))\/(Yx c W4 nd=true/\Zak N h=0/\Ev (fun k=>Q81.f k s nd) (0,11,s))\/
  (Yx c W4 nd=true/\∃(i:Nat) (s':Shf) (L':List Nat),1<=i/\i<N/\h i=false/\(∀ j,j<i->h j=true)/\Ev (fun k=>Q81.f k s nd) ((i:Int),0,s')/\ShK c N B n (t+1) s' L' q (upd K i (Wu c nd)) (upd h i true)/\MC.To 0 1 (Z6 s.2.1 L) (Z6 s'.2.1 L')):=by
 obtain ⟨k0,hk'⟩:=hn.ev c;have hk:∀ k,k0<=k->Q35.f k s.1 nd=some (Um c nd):=fun k kk=>by rw [H.cfg]; exact hk' k kk
 cases hr:Yx c W4 nd with
 | false=>
  refine .inl ⟨rfl,k0,fun k kk=>?_⟩;show Q81.f k s nd=_;have ee:Um c nd=([],3):=by unfold Um; rw [iT g.ok,hr,vS]
  unfold Q81.f Q85.f;rw [bS,vS,hk k kk,bS,ee,iU]
 | true=>
  have ee:Um c nd=(Wu c nd,0):=by unfold Um Wu; rw [iT g.ok,iT hr]
  rcases Zsx H.bits with ⟨z0,e⟩ | ⟨i,p',hiN,hif,hil,e,b'⟩
  ·refine .inr (.inl ⟨rfl,z0,k0+3001,fun k kk=>?_⟩);show Q81.f k s nd=_;unfold Q81.f Q85.f;rw [bS,vS,hk k (by omega),bS,ee,vS,e k (by omega),bS,iU]
  ·have hi1:1<=i:=by
    apply Nat.one_le_iff_ne_zero.2;intro e0;rw [e0,H.h0] at hif; cases hif
   have H1:=H.pool b' (by rw [Yj]; exact H.h0);obtain ⟨b1,b2⟩:=Zko hn g hr;obtain ⟨s',L',el,H',to⟩:=Zsq g H1 ht ⟨hi1,hiN⟩ b1 b2;refine .inr (.inr ⟨rfl,i,s',L',hi1,hiN,hif,hil,⟨k0+3001,fun k kk=>?_⟩,H',to⟩);show Q81.f k s nd=_;unfold Q81.f Q85.f;rw [bS,vS,hk k (by omega),bS,ee,vS,e k (by omega),bS,vS];dsimp only;rw [el,bS,vS]
end
section
variable {c:Cfg} {N B n t q:Nat} {s:Shf} {L:List Nat} {K:Nat->List Int} {h:Nat->Bool} {p:Bt}
theorem Zo4 {N:Nat} (h5:5<=N) (h:N<=65536):∃ p,Q73.f (N:Int)=some (some p,0)/\BR N p (upd (fun _=>false) 0 true):=by
 have e1:w64 ((N:Int)+64)=((N+64:Nat):Int):=by rw [wI2]; omega
 have e2:w64 (((N+64:Nat):Int) - 1)=((N+63:Nat):Int):=by rw [wI2]; omega
 have e3:w64 (Int.tdiv ((N+63:Nat):Int) 64)=(((N+63) / 64:Nat):Int):=by
  rw [show Int.tdiv ((N+63:Nat):Int) 64=(((N+63) / 64:Nat):Int) from rfl,wI2]
 have b0:BR N ((N:Int),0,List.replicate ((N+63) / 64) (0:Int)) (fun _=>false):=by
  refine ⟨rfl,by omega,?_,by simp,fun w hw=>⟨0,?_,by decide,fun b hb=>?_⟩⟩
  ·have:(List.range N).filter (fun _=>false)=[]:=List.filter_eq_nil_iff.2 (by simp);rw [this]; rfl
  ·rw [length_replicate] at hw;rw [List.getD_eq_getElem?_getD,List.getElem?_replicate,iT hw]; rfl
  ·simp
 obtain ⟨p',es,b'⟩:=b0.set (i:=0) (by omega);rw [iQ] at b';refine ⟨p',?_,b'⟩;unfold Q73.f Q2.f;rw [iN,iN,iN,e1,e2,e3,iO,bS];dsimp only [Vr];rw [iU,tN,show Q8.f ((N:Int),0,List.replicate ((N+63) / 64) (0:Int)) 0=_ from es,bS]
def Zev (c:Cfg) (N B n:Nat) (ch:Chn) (p:Bt):Shf:=(c,(((B:Int),List.replicate (N*B) 0,(0,0)),List.replicate n (0,[],false,0),[],(List.range n).map (fun(i:Nat)=>(i:Int)),ch),p,0)
theorem Ztw (g:Geo c N B n) {ch:Chn} (hc:ChI n ch []) {p:Bt} (hp:BR N p (upd (fun _=>false) 0 true)):ShK c N B n 0 (Zev c N B n ch p) [] 0 (fun _=>List.replicate B 0) (upd (fun _=>false) 0 true):=by
 have hi:=Zrn g.z (img:=List.replicate (N*B) 0) (by simp) (0,0) hc;have fr0:∀ i,(Z6 (Zev c N B n ch p).2.1 []).fr i=none:=fun i=>by
  show Xy (Zev c N B n ch p).2.1 i=none;exact U9 (by simp [Zev])
 refine ⟨rfl,hi,⟨Byt.rep _,fun i x hx=>by rw [fr0 i] at hx; cases hx⟩,fun i x hx=>(by rw [fr0 i] at hx; cases hx),fun j hj=>?_,hp,Z8 _ _ _,rfl,by have:=g.N5; omega,fun j=>?_,⟨Int.le_refl _,Int.le_refl _⟩,⟨Int.le_refl _,Int.le_refl _⟩⟩
 ·rw [MC.cont_no (fr0 j)];show blk (List.replicate (N*B) 0) B j=_;unfold blk;have:j*B+B<=N*B:=by rw [<- Nat.succ_mul]; exact Nat.mul_le_mul_right _ hj
  rw [List.drop_replicate,List.take_replicate,Nat.min_eq_left (by omega)]
 ·rw [show (Z6 (Zev c N B n ch p).2.1 []).cnt j=0 from MC.cnt_no (fr0 j),iF (fun z=>z.2 rfl)]
end
def emS (s:Sp):Bool:=!s.2.2 && !Op.bytesLess s.1 s.2.1
theorem Zgz (s:Sp):Q61.f s=some (emS s):=by
 unfold Q61.f emS;rw [Zfm];cases s.2.2 <;> rfl
abbrev pk (p:Pr):List UInt8:=p.1
abbrev mk (m:Msg):List UInt8:=m.1
def okN (N:Nat) (l:List Msg):Prop:=l.length<=N/\∀ m∈l,m.1.length<=300
theorem Bw {l:List Msg} {m:Msg} (hl:okN 1000 l) (hm:m.1.length<=300):∀(k i:Nat) (x1:List Msg),i<=l.length->x1.length<=2000+i->l.length - i<k->(∀ b∈l.drop i,b.1≠m.1)->Q141.l0 k l m x1 true (i:Int)=some (x1 ++ l.drop i)
 | 0,i,x1,_,_,h,_=>by omega
 | k+1,i,x1,hi,hx,hk,hn=>by
  have h1000:=hl.1;rw [Q141.l0];by_cases h:i<l.length
  ·have ne:(l.getD i default).1≠m.1:=hn _ (by rw [Z9 h]; simp);have ih:=Bw hl hm k (i+1) (x1 ++ [l.getD i default]) (by omega) (by simp; omega) (by omega) (fun b hb=>hn b (by rw [Z9 h]; simp [hb]));rw [iP,vS,iO,Zt,iT (by simp only [ne,decide_false]; rfl),iV,wS2,ih,Z9 h];simp
  ·rw [iW,vS,dN];simp
theorem Zgj {l:List Msg} {m:Msg} (hl:okN 1000 l) (hm:m.1.length<=300):∀(k i:Nat) (x1:List Msg),i<=l.length->x1.length<=1000+i->2001+(l.length - i)<k->RiseK mk (l.drop i)->Q141.l0 k l m x1 false (i:Int)=some (x1 ++ Xw mk m (l.drop i))
 | 0,i,x1,_,_,h,_=>by omega
 | k+1,i,x1,hi,hx,hk,hr=>by
  have h1000:=hl.1;rw [Q141.l0];by_cases h:i<l.length
  ·have kl:=hl.2 _ (Yz (d:=default) h);rw [Z9 h] at hr ⊢;obtain ⟨r1,r2⟩:=List.pairwise_cons.1 hr;rw [iP,iT (by rfl),iO,Zt,Xi (by omega) (by omega) (by omega),bS,wS2];unfold Xw;cases q:Op.bytesLess (l.getD i default).1 m.1 with
   | true=>
    have ne:(l.getD i default).1≠m.1:=Vk q;rw [iF (by simp only [dE,scmp_le,q]; simp),iT (by simp only [ne,decide_false]; rfl),iV,Zgj hl hm k (i+1) _ (by omega) (by simp; omega) (by omega) r2,
     iF (by rw [show Op.bytesLess (mk m) (mk (l.getD i default))=false from Xm q]; simp),iF (show ¬ mk m=mk (l.getD i default) from fun e=>ne e.symm)]
    simp
   | false=>
    rw [iT (dT (scmp_le.2 q)),iV];by_cases e:(l.getD i default).1=m.1
    ·have hn:∀ b∈l.drop (i+1),b.1≠m.1:=fun b hb=>by rw [<- e]; exact (Vk (r1 b hb)).symm
     rw [iF (by rw [dT e]; simp),Bw hl hm k (i+1) _ (by omega) (by simp; omega) (by omega) hn,iF (by rw [show mk m=mk (l.getD i default) from e.symm,Wv]; simp),iT (show mk m=mk (l.getD i default) from e.symm)];simp
    ·have lt:Op.bytesLess m.1 (l.getD i default).1=true:=(Gb q).resolve_left e;have hn:∀ b∈l.drop (i+1),b.1≠m.1:=fun b hb=>(Vk (Xn lt (r1 b hb))).symm;rw [iT (by simp only [e,decide_false]; rfl),iV,Bw hl hm k (i+1) _ (by omega) (by simp; omega) (by omega) hn,iT (show Op.bytesLess (mk m) (mk (l.getD i default))=true from lt)];simp
  ·rw [iW,iT (by rfl),iV,dN];rfl
theorem Zjq {l:List Msg} {m:Msg} (hl:okN 1000 l) (hm:m.1.length<=300) (hr:RiseK mk l) {k:Nat} (hk:4000<k):Q141.f k l m=some (Xw mk m l):=by
 have:=Zgj hl hm k 0 [] (by omega) (by simp) (by have:=hl.1; omega) (by simpa using hr);simpa [Q141.f] using this
theorem Zbm {l:List Pr} (x:TZ) (hl:l.length<=1000000):∀(k i:Nat) (x1:List Pr),i<=l.length->x1.length<=i->l.length - i<k->Q143.l0 k l x x1 (i:Int)=some (x1 ++ Ww pk x (l.drop i))
 | 0,i,x1,_,_,h=>by omega
 | k+1,i,x1,hi,hx,hk=>by
  rw [Q143.l0];by_cases h:i<l.length
  ·rw [iP,iO,Zt,wS2,Z9 h];unfold Ww;rw [List.filter_cons];by_cases e:(l.getD i default).1=x
   ·rw [iF (by rw [dT e]; simp),Zbm x hl k (i+1) x1 (by omega) (by omega) (by omega),iF (by rw [show pk (l.getD i default)=x from e]; simp)];rfl
   ·rw [iT (by rw [dF e]; rfl),iV,Zbm x hl k (i+1) _ (by omega) (by simp; omega) (by omega),iT (by rw [dF (show ¬ pk (l.getD i default)=x from e)]; rfl)];simp [Ww]
  ·rw [iW,dN];simp [Ww]
theorem Zgy {l:List Pr} (x:TZ) (hl:l.length<=1000000) {k:Nat} (hk:l.length<k):Q143.f k l x=some (Ww pk x l):=by
 have:=Zbm x hl k 0 [] (by omega) (by simp) (by omega);simpa [Q143.f] using this
theorem Zct {r:List Pr} {key val:TZ} (hl:r.length<=1000000) (hk300:key.length<=300) (hr300:∀ p∈r,p.1.length<=300) (hr:RiseK pk r) (hne:∀ p∈r,p.1≠key):∀(k i:Nat),i<=r.length->2001+(r.length - i)<k->(∀ j,j<i->Op.bytesLess (r.getD j default).1 key=true)->
  Q144.l0 k key val r (i:Int)=some (Xw pk (key,val) r)
 | 0,i,_,h,_=>by omega
 | k+1,i,hi,hk,hb=>by
  rw [Q144.l0];have fin:(∀ j,i<=j->j<r.length->Op.bytesLess (r.getD j default).1 key=false)->r.take i ++ [(key,val)] ++ r.drop i=Xw pk (key,val) r:=fun h=>by
   have hat:AtK pk r (pk (key,val)) i:=⟨hi,hb,h⟩;rw [hat.put hr,iF (fun t=>hne _ (Yz t.1) t.2)];simp
  have rest:(if (0:Int)<=(i:Int)/\(i:Int)<=(r.length:Int) then (if (([]:List Pr).length+(r.take (i:Int).toNat).length)*32<=140737488355328 then (if ((([]:List Pr) ++ (r.take (i:Int).toNat)).length+([(key,val)]:List Pr).length)*32<=140737488355328 then (if 0<=(i:Int)/\(i:Int)<=(r.length:Int) then (if (((([]:List Pr) ++ (r.take (i:Int).toNat)) ++ ([(key,val)]:List Pr)).length+(r.drop (i:Int).toNat).length)*32<=140737488355328 then (some (((([]:List Pr) ++ (r.take (i:Int).toNat)) ++ ([(key,val)]:List Pr)) ++ (r.drop (i:Int).toNat))) else none) else none) else none) else none) else none)=some (r.take i ++ [(key,val)] ++ r.drop i):=by
   rw [iO,iV,iV,iO,iV];simp
  by_cases h:i<r.length
  ·rw [iP,iO,Zt,Xi (by have:=hr300 _ (Yz (d:=default) h); omega) (by omega) (by omega),bS];cases q:Op.bytesLess (r.getD i default).1 key with
   | true=>
    rw [iT (dT (scmp_lt.2 q)),wS2];refine Zct hl hk300 hr300 hr hne k (i+1) (by omega) (by omega) fun j hj=>?_;by_cases e:j=i
    ·subst e; exact q
    ·exact hb j (by omega)
   | false=>
    rw [iF (by simp only [dE,scmp_lt,q]; simp),rest,fin];intro j hj hjl;by_cases e:j=i
    ·subst e; exact q
    ·exact Yn q (Xm (RiseK.get pk hr (show i<j by omega) hjl default))
  ·rw [iW,rest,fin];intro j hj hjl;omega
theorem Zq5 {l:List Pr} {key val:TZ} (hr:RiseK pk l):Xw pk (key,val) (Ww pk key l)=Xw pk (key,val) l:=
 Zf8 pk (Jw pk (Zge pk hr)) (Jw pk hr) fun k=>by
  rw [Zdc,Zdc,Zh4];by_cases e:pk (key,val)=k
  ·rw [iT e,iT e]
  ·rw [iF e,iF e,iF (show ¬ key=k from e)]
theorem Zgx {l:List Pr} {key val:TZ} (hl:l.length<=1000000) (hk300:key.length<=300) (hr300:∀ p∈l,p.1.length<=300) (hr:RiseK pk l) {k:Nat} (hk:2010+l.length<k):Q144.f k l key val=some (Xw pk (key,val) l):=by
 have hl2:(Ww pk key l).length<=l.length:=List.length_filter_le _ _;unfold Q144.f;rw [Zgy key (by omega) (by omega),bS];have:=Zct (r:=Ww pk key l) (key:=key) (val:=val) (by omega) hk300 (fun p hp=>hr300 p (List.mem_filter.1 hp).1) (Zge pk hr) (fun p hp e=>by have:=(List.mem_filter.1 hp).2; simp [show pk p=key from e] at this) k 0 (by omega) (by omega) (fun j hj=>by omega);rw [<- Zq5 hr];exact this
def Wp (a b:Sp):Sp:=(if Op.bytesLess a.1 b.1=true then b.1 else a.1,if a.2.2=true then (if b.2.2=true then [] else b.2.1) else if b.2.2=true then a.2.1 else if Op.bytesLess b.2.1 a.2.1=true then b.2.1 else a.2.1,a.2.2 && b.2.2)
def Wx (a b:Sp):Sp×Bool:=if emS (Wp a b)=true then (([],[],false),false) else (Wp a b,true)
theorem Zmb (a b:Sp):Q63.f a b=some (Wx a b):=by
 obtain ⟨l,h,p⟩:=a;obtain ⟨m,i,q⟩:=b;have e:(if (!Op.bytesLess l m)=true then l else m)=if Op.bytesLess l m=true then m else l:=by cases Op.bytesLess l m <;> rfl
 have f:(if (Op.bytesLess h i || decide (h=i))=true then h else i)=if Op.bytesLess i h=true then i else h:=by rw [Zfm]; cases Op.bytesLess i h <;> rfl
 cases p <;> cases q <;> simp only [Q63.f,Wx,Wp,Zgz,bS,e,f,Bool.not_true,Bool.not_false,Bool.false_eq_true,if_false,if_true,Bool.and_true,Bool.true_and,Bool.and_false,Bool.false_and] <;> exact (apply_ite some _ _ _).symm
theorem Zrf (a b:Sp) (x:TZ):inS (Wp a b) x=(inS a x && inS b x):=by
 obtain ⟨l,h,p⟩:=a;obtain ⟨m,i,q⟩:=b;have e:Op.bytesLess x (if Op.bytesLess l m=true then m else l)=(Op.bytesLess x l || Op.bytesLess x m):=by
  cases c:Op.bytesLess l m with
  | true=>
   simp only [if_true];cases d:Op.bytesLess x l with
   | false=>simp
   | true=>simp [Xn d c]
  | false=>
   simp only [Bool.false_eq_true,if_false];cases d:Op.bytesLess x m with
   | false=>simp
   | true=>simp [Uq d c]
 have f:Op.bytesLess x (if Op.bytesLess i h=true then i else h)=(Op.bytesLess x h && Op.bytesLess x i):=by
  cases c:Op.bytesLess i h with
  | true=>
   simp only [if_true];cases d:Op.bytesLess x i with
   | false=>simp
   | true=>simp [Xn d c]
  | false=>
   simp only [Bool.false_eq_true,if_false];cases d:Op.bytesLess x h with
   | false=>simp
   | true=>simp [Uq d c]
 cases p <;> cases q <;> simp only [inS,Wp,e,f,Bool.and_true,Bool.true_and,Bool.and_false,Bool.false_and,Bool.false_eq_true,if_false,if_true,Bool.true_or,Bool.false_or,Bool.not_or] <;> (cases Op.bytesLess x l <;> cases Op.bytesLess x m <;> cases Op.bytesLess x h <;> cases Op.bytesLess x i <;> rfl)
theorem Zgv {k:Nat} {s:Sp} (h1:s.1.length<=2000) (h2:s.2.1.length<=2000) (hk:2000<k):Q134.f k s=some (emS s):=by
 unfold Q134.f;rw [Gd h1 h2 h1 hk];simp only [bS,inS,emS,Wv];simp
structure Small (l:TR) (x:TZ) (s:Sp):Prop where
 len:l.length<=80
 all:∀ p∈l,p.length<=300
 x:x.length<=300
 lo:s.1.length<=300
 hi:s.2.1.length<=300
theorem Small.get {l:TR} {x:TZ} {s:Sp} (h:Small l x s) (i:Nat):(l.getD i []).length<=300:=by
 by_cases hi:i<l.length
 ·exact h.all _ (Yz hi)
 ·rw [List.getD_eq_getElem?_getD,List.getElem?_eq_none (by omega)];exact Nat.zero_le _
def AtWay (l:TR) (x:TZ) (w:Nat):Prop:=w<=l.length/\(∀ j,j<w->Op.bytesLess x (l.getD j [])=false)/\∀ j,w<=j->j<l.length->Op.bytesLess x (l.getD j [])=true
theorem Zns {l:TR} (h:Wc l=true):∀ {i j:Nat},i<j->j<l.length->Op.bytesLess (l.getD i []) (l.getD j [])=true:=by
 have step:∀ i,i+1<l.length->Wc (l.drop i)=true->Op.bytesLess (l.getD i []) (l.getD (i+1) [])=true/\Wc (l.drop (i+1))=true:=fun i hi hr=>by
  rw [Zaf hi,Bool.and_eq_true] at hr;exact hr
 have all:∀ i,i<l.length->Wc (l.drop i)=true:=fun i=>by
  induction i with
  | zero=>intro _; simpa using h
  | succ i ih=>intro hi; exact (step i hi (ih (by omega))).2
 intro i j hij hj
 induction j with
 | zero=>omega
 | succ j ih=>
  have one:=(step j hj (all j (by omega))).1;by_cases e:i=j
  ·subst e; exact one
  ·exact Xn (ih (by omega) (by omega)) one
def Yp (l:TR) (i:Nat):Sp:=(if 0<i then l.getD (i - 1) [] else [],if i=l.length then [] else l.getD i [],decide (i=l.length))
theorem Zmo {l:TR} (hl:l.length<=80) (s:Sp) (i:Nat) (hi:i<=l.length):Q57.f l (i:Int) s=some (Wx (Yp l i) s):=by
 unfold Q57.f;have d:∀(m:Sp×Bool),some (((m.1.1,m.1.2.1,m.1.2.2),m.2):Sp×Bool)=some m:=fun m=>rfl;have eta:(s.1,s.2.1,s.2.2)=s:=rfl;rw [iN,iN];have de:decide ((i:Int)=(l.length:Int))=decide (i=l.length):=by congr 1; exact propext (by omega)
 simp only [Zmb,bS,d,eta,de];by_cases h0:0<i
 ·have g0:(0:Int)<=((i - 1:Nat):Int)/\((i - 1:Nat):Int)<(l.length:Int):=by omega
  rw [iP,Jh h0 (by omega),iT g0,Zt];by_cases h1:i=l.length
  ·simp only [h1,decide_true,Bool.not_true,Bool.false_eq_true,if_false,Yp,if_true,show 0<l.length by omega];rfl
  ·have g1:(0:Int)<=(i:Int)/\(i:Int)<(l.length:Int):=by omega
   simp only [h1,decide_false,Bool.not_false,if_true,g1,and_self,Zt,Yp,h0,if_false];rfl
 ·obtain rfl:i=0:=by omega
  rw [vS];by_cases h1:0=l.length
  ·simp only [<- h1,decide_true,Bool.not_true,Bool.false_eq_true,if_false,Yp,if_true,Nat.lt_irrefl]
  ·have g1:(0:Int)<=((0:Nat):Int)/\((0:Nat):Int)<(l.length:Int):=by omega
   simp only [h1,decide_false,Bool.not_false,if_true,g1,and_self,Zt,Yp,Nat.lt_irrefl,if_false];rfl
theorem Zgr {l:TR} {x:TZ} {s:Sp} {w:Nat} (hs:Small l x s) (hw:AtWay l x w):∀(k i:Nat),i<=l.length->2001+(l.length - i)<k->Q149.l0 k l x ((min i w:Nat):Int) (i:Int)=some (w:Int)
 | 0,i,_,h=>by omega
 | k+1,i,hi,hk=>by
  have h80:=hs.len;have hx:=hs.x;obtain ⟨w1,w2,w3⟩:=hw;rw [Q149.l0];by_cases h:i<l.length
  ·have g1:(0:Int)<=(i:Int)/\(i:Int)<(l.length:Int):=by omega
   have k1:(l.getD i default).length<=300:=hs.get i;rw [iT (dT g1.2),iT g1,Zt,Xi (by omega) (by omega) (by omega),bS,Gl (i:=i) (by omega)];have ih:=Zgr hs ⟨w1,w2,w3⟩ k (i+1) (by omega) (by omega);by_cases q:i<w
   ·have e:Op.bytesLess x (l.getD i default)=false:=w2 i q;rw [iT (dT (scmp_le.2 e)),wS2,show min i w+1=min (i+1) w by omega,ih]
   ·have e:Op.bytesLess x (l.getD i default)=true:=w3 i (by omega) h;rw [iF (by simp only [dE,scmp_le]; rw [e]; simp),show min i w=min (i+1) w by omega,ih]
  ·rw [iN,show min i w=w by omega]
theorem Zjl {l:TR} {x:TZ} {s:Sp} {w:Nat} (hs:Small l x s) (hw:AtWay l x w) {k:Nat} (hk:3000<k):Q149.f k l x=some (w:Int):=by
 have:=Zgr hs hw k 0 (by omega) (by have:=hs.len; omega);simpa [Q149.f] using this
theorem Zh8 {l:TR} {x:TZ} {s:Sp} (hs:Small l x s) (i:Nat) (hi:i<=l.length) {k:Nat} (hk:3000<k):Q148.f k l (i:Int) s=some (Wx (Yp l i) s):=by
 have h80:=hs.len;have hlo:=hs.lo;have hhi:=hs.hi;have hi1:=hs.get i;have hi0:=hs.get (i - 1);have fin:∀(c:Sp),c.1.length<=2000->c.2.1.length<=2000->Wp (Yp l i) s=c->
   ((Q134.f k c).bind fun r=>(if r=true then some ((([]:List UInt8),([]:List UInt8),false),false) else some (c,true)))=some (Wx (Yp l i) s):=fun c e1 e2 e3=>by
  rw [Zgv e1 e2 (by omega),bS,Wx,e3];exact (apply_ite some _ _ _).symm
 unfold Q148.f;rw [iN,iN];have c1:Q132.f k (l.getD (i - 1) default) s.1=some (Xo (l.getD (i - 1) []) s.1):=Xi (a:=l.getD (i - 1) []) (by omega) (by omega) (by omega);have c2:Q132.f k (l.getD i default) s.2.1=some (Xo (l.getD i []) s.2.1):=Xi (a:=l.getD i []) (by omega) (by omega) (by omega);have n0:([]:List UInt8).length<=2000:=Nat.zero_le _
 -- the upper end,at a lower end that is right
 have up:∀(lo:TZ),lo.length<=2000->(Wp (Yp l i) s).1=lo->∀(X:Option (Sp×Bool)),X=(if (decide ((i:Int)<(l.length:Int)))=true then (if s.2.2=true then (if 0<=(i:Int)/\(i:Int)<(l.length:Int) then ((Q134.f k (lo,(gt l (i:Int)),false)).bind fun r2=>(if r2=true then (some ((([]:List UInt8),([]:List UInt8),false),false)) else (some ((lo,(gt l (i:Int)),false),true)))) else none) else (if 0<=(i:Int)/\(i:Int)<(l.length:Int) then ((Q132.f k (gt l (i:Int)) s.2.1).bind fun r3=>(if (decide (r3<0))=true then ((Q134.f k (lo,(gt l (i:Int)),false)).bind fun r4=>(if r4=true then (some ((([]:List UInt8),([]:List UInt8),false),false)) else (some ((lo,(gt l (i:Int)),false),true)))) else ((Q134.f k (lo,s.2.1,s.2.2)).bind fun r5=>(if r5=true then (some ((([]:List UInt8),([]:List UInt8),false),false)) else (some ((lo,s.2.1,s.2.2),true)))))) else none)) else (if s.2.2=true then ((Q134.f k (lo,([]:List UInt8),s.2.2)).bind fun r6=>(if r6=true then (some ((([]:List UInt8),([]:List UInt8),false),false)) else (some ((lo,([]:List UInt8),s.2.2),true)))) else ((Q134.f k (lo,s.2.1,s.2.2)).bind fun r7=>(if r7=true then (some ((([]:List UInt8),([]:List UInt8),false),false)) else (some ((lo,s.2.1,s.2.2),true))))))->X=some (Wx (Yp l i) s):=fun lo hl he X hX=>by
  rw [hX];have split3:Wp (Yp l i) s=((Wp (Yp l i) s).1,(Wp (Yp l i) s).2.1,(Wp (Yp l i) s).2.2):=rfl;by_cases h:i<l.length
  ·have hn:¬ i=l.length:=by omega
   have g1:(0:Int)<=(i:Int)/\(i:Int)<(l.length:Int):=by omega
   have ot:(Yp l i).2.2=false:=dF hn;have oh:(Yp l i).2.1=l.getD i []:=iF hn;rw [iP,iT g1,iT g1,Zt,c2,bS];cases ht:s.2.2 with
   | true=>
    rw [iT rfl];refine fin (lo,l.getD i [],false) hl (by show (l.getD i []).length<=2000; omega) ?_;rw [split3,he];simp only [Wp,ot,oh,ht,Bool.false_eq_true,if_false,if_true,Bool.false_and]
   | false=>
    rw [vS];cases e:Op.bytesLess (l.getD i []) s.2.1 with
    | true=>
     rw [iT (dT (scmp_lt.2 e))];refine fin (lo,l.getD i [],false) hl (by show (l.getD i []).length<=2000; omega) ?_;rw [split3,he];simp only [Wp,ot,oh,ht,Bool.false_eq_true,if_false,Xm e,Bool.false_and]
    | false=>
     rw [iF (by simp only [dE,scmp_lt,e]; simp)];refine fin (lo,s.2.1,false) hl (by show s.2.1.length<=2000; omega) ?_;rw [split3,he];have:(if Op.bytesLess s.2.1 (l.getD i [])=true then s.2.1 else l.getD i [])=s.2.1:=by
      rcases Gb e with q | q
      ·rw [q,Wv]; rfl
      ·rw [q]; rfl
     simp only [Wp,ot,oh,ht,Bool.false_eq_true,if_false,this,Bool.false_and]
  ·have hn:i=l.length:=by omega
   have ot:(Yp l i).2.2=true:=dT hn;rw [iN];cases ht:s.2.2 with
   | true=>
    rw [iT rfl];refine fin (lo,[],true) hl n0 ?_;rw [split3,he];simp only [Wp,ot,ht,if_true,Bool.true_and]
   | false=>
    rw [vS];refine fin (lo,s.2.1,false) hl (by show s.2.1.length<=2000; omega) ?_;rw [split3,he];simp only [Wp,ot,ht,if_true,Bool.true_and,Bool.false_eq_true,if_false]
 by_cases h0:0<i
 ·have g2:(0:Int)<=((i - 1:Nat):Int)/\((i - 1:Nat):Int)<(l.length:Int):=by omega
  have ol:(Yp l i).1=l.getD (i - 1) []:=iT h0;rw [iP,Jh h0 (by omega),iT g2,Zt l (i - 1),c1,bS];rcases Zbs (l.getD (i - 1) []) s.1 with ⟨e1,e2⟩ | ⟨e1,e2⟩ | ⟨e1,e2⟩
  ·rw [e1,iF (by decide)];refine up s.1 (by omega) ?_ _ rfl;show (if Op.bytesLess (Yp l i).1 s.1=true then s.1 else (Yp l i).1)=_
   rw [ol,e2]; rfl
  ·rw [e1,iF (by decide)];refine up s.1 (by omega) ?_ _ rfl;show (if Op.bytesLess (Yp l i).1 s.1=true then s.1 else (Yp l i).1)=_
   rw [ol,e2,Wv]; rfl
  ·rw [e1,iT (by decide)];refine up (l.getD (i - 1) []) (by omega) ?_ _ rfl;show (if Op.bytesLess (Yp l i).1 s.1=true then s.1 else (Yp l i).1)=_
   rw [ol,Xm e2]; rfl
 ·have ol:(Yp l i).1=[]:=iF h0;rw [iN];refine up s.1 (by omega) ?_ _ rfl;show (if Op.bytesLess (Yp l i).1 s.1=true then s.1 else (Yp l i).1)=_
  rw [ol];cases s.1 <;> rfl
theorem Zgp (a b:TZ) (ha:a.length<=2000) (hb:b.length<=2000) (hlt:Op.bytesLess a b=true) (K:Nat):∀(k i:Nat),i<=shd a b+1->shd a b+1 - i<k->2001+(shd a b+1 - i)<k->
  Q133.l0 k a b (i:Int)=some (b.take (shd a b+1),true)
 | 0,i,_,h,_=>by omega
 | k+1,i,hi,hk,hK=>by
  have hs:=Zif hlt;unfold Q133.l0;have g0:(i:Int)<=(b.length:Int):=by omega
  have g1:(0:Int)<=(i:Int)/\(i:Int)<=(b.length:Int):=by omega
  rw [iT (dT g0),iT g1,tN,Xi ha (by rw [length_take]; omega) (by omega),bS];by_cases e:i=shd a b+1
  ·subst e;rw [iT (dT (scmp_lt.2 (Gp hlt)))]
  ·have:=Zc0 (a:=a) (b:=b) (n:=i) (by omega);have w:w64 ((i:Int)+1)=((i+1:Nat):Int):=by rw [wI2]; omega
   rw [iF (by simp only [dE,scmp_lt,this]; simp),w,Zgp a b ha hb hlt K k (i+1) (by omega) (by omega) (by omega)]
theorem Zjn {k:Nat} {a b:TZ} (ha:a.length<=2000) (hb:b.length<=2000) (hk:5000<k) :
  Q133.f k a b=some (if Op.bytesLess a b=true then (b.take (shd a b+1),true) else ([],false)):=by
 unfold Q133.f;rw [Xi ha hb (by omega),bS];cases h:Op.bytesLess a b with
 | false=>
  rw [iT]
  ·rfl
  ·have:=mt scmp_lt.1 (by simp [h]:¬ Op.bytesLess a b=true);simp only [dE];omega
 | true=>
  have:=scmp_lt.2 h;have hs:=Zif h;rw [iN];have:=Zgp a b ha hb h k k 0 (by omega) (by omega) (by omega);simpa using this
abbrev Tre:=List (List Nd)
def ndT (l:Tre) (k i:Nat):Nd:=(l.getD k default).getD i default
def wd (l:Tre) (k:Nat):Nat:=(l.getD k default).length
def Gz (p:TR) (x:TZ):Nat:=(p.filter fun y=>!Op.bytesLess x y).length
theorem Gi (x:TZ):∀ {p:TR},RiseK (fun y=>y) p->AtWay p x (Gz p x)
 | [],_=>⟨Nat.le_refl _,fun j hj=>absurd hj (Nat.not_lt_zero _),fun j _ hj=>absurd hj (Nat.not_lt_zero _)⟩
 | a :: p,h=>by
  obtain ⟨h1,h2⟩:=List.pairwise_cons.1 h;obtain ⟨a1,a2,a3⟩:=Gi x h2;unfold Gz at *;rw [List.filter_cons];cases q:Op.bytesLess x a with
  | true=>
   have e:p.filter (fun y=>!Op.bytesLess x y)=[]:=List.filter_eq_nil_iff.2 fun y hy=>by rw [Xn q (h1 y hy)]; simp
   rw [vS,e];exact ⟨Nat.zero_le _,fun j hj=>absurd hj (Nat.not_lt_zero _),fun j _ hj=>match j,hj with
    | 0,_=>q
    | j+1,hj=>Xn q (h1 _ (Yz (d:=[]) (by simpa using hj)))⟩
  | false=>
   rw [iU];exact ⟨by simp only [length_cons]; omega,fun j hj=>match j,hj with
    | 0,_=>q
    | j+1,hj=>a2 j (by simpa using hj),fun j hj hl=>match j,hj,hl with
    | 0,hj,_=>by simp at hj
    | j+1,hj,hl=>a3 j (by simpa using hj) (by simpa using hl)⟩
theorem AtWay.uniq {p:TR} {x:TZ} {a b:Nat} (h:AtWay p x a) (g:AtWay p x b):a=b:=by
 rcases Nat.lt_trichotomy a b with q | q | q
 ·have:=h.2.2 a (Nat.le_refl _) (by have:=g.1; omega);rw [g.2.1 a q] at this; cases this
 ·exact q
 ·have:=g.2.2 b (Nat.le_refl _) (by have:=h.1; omega);rw [h.2.1 b q] at this; cases this
def stR (row:List Nd) (i:Nat):Nat:=((row.map fun n=>n.2.1.length).take i).sum
theorem Zas (row:List Nd):stR row 0=0:=rfl
theorem Y9 {row:List Nd} {i:Nat} (h:i<row.length):stR row (i+1)=stR row i+(row.getD i default).2.1.length:=by
 unfold stR;rw [List.take_add_one,List.sum_append,List.getElem?_map,List.getElem?_eq_getElem h,Y0 h];simp
theorem Gj {row:List Nd} (p:List Nd) {i:Nat} (h:i<=row.length):stR (row ++ p) i=stR row i:=by
 unfold stR;rw [List.map_append,List.take_append_of_le_length (by simpa using h)]
theorem Wi {row:List Nd} {i:Nat}:∀ {j:Nat},i<=j->j<=row.length->stR row i<=stR row j
 | 0,h,_=>by rw [show i=0 by omega]; exact Nat.le_refl _
 | j+1,h,hj=>by
  by_cases e:i=j+1
  ·rw [e]; exact Nat.le_refl _
  ·have:=Wi (row:=row) (i:=i) (j:=j) (by omega) (by omega);have:=Y9 (row:=row) (i:=j) (by omega);omega
theorem Uo {row:List Nd} {a:Nat}:∀ {m:Nat},m<=row.length->a<stR row m->∃ i,i<m/\stR row i<=a/\a<stR row (i+1)
 | 0,_,h=>by rw [Zas] at h; omega
 | m+1,hm,h=>by
  by_cases q:a<stR row m
  ·obtain ⟨i,h1,h2,h3⟩:=Uo (by omega) q;exact ⟨i,by omega,h2,h3⟩
  ·exact ⟨m,by omega,by omega,h⟩
structure NdOk (lo hi:Nat->List UInt8) (k:Nat) (n:Nd) (m:Nat):Prop where
 lvl:n.1=(k:Int)
 prs:n.2.2.2.2=[]
 pvl:n.2.2.1.length+1=n.2.1.length
 fan:n.2.1.length<=64
 kid:n.2.1=(List.range n.2.1.length).map fun(j:Nat)=>((m+j+1:Nat):Int)
 pv:∀ j,j<n.2.2.1.length->Op.bytesLess (hi (m+j)) (n.2.2.1.getD j [])=true/\Op.bytesLess (lo (m+j+1)) (n.2.2.1.getD j [])=false/\(n.2.2.1.getD j []).length<=200
def InnR (lo hi:Nat->List UInt8) (k:Nat) (row:List Nd):Prop:=∀ i,i<row.length->NdOk lo hi k (row.getD i default) (stR row i)
theorem Yk {α:Type} {a b:List α} {i:Nat} {d:α} (h:i<a.length:=by omega):(a ++ b).getD i d=a.getD i d:=by
 rw [List.getD_eq_getElem?_getD,List.getElem?_append_left h,<- List.getD_eq_getElem?_getD]
theorem Yq {α:Type} {a:List α} {x:α} {i:Nat} {d:α} (h:i=a.length:=by omega):(a ++ [x]).getD i d=x:=by
 subst h;rw [List.getD_eq_getElem?_getD,List.getElem?_append_right (Nat.le_refl _),Nat.sub_self]; rfl
theorem InnR.app {lo hi:Nat->List UInt8} {k:Nat} {row:List Nd} {p:Nd} (h:InnR lo hi k row) (hp:NdOk lo hi k p (stR row row.length)):InnR lo hi k (row ++ [p]):=fun i hi'=>by
 rw [lA] at hi';by_cases e:i<row.length
 ·rw [Yk e,Gj _ (by omega)]; exact h i e
 ·have e2:i=row.length:=by simp at hi'; omega
  rw [Yq e2,Gj _ (by omega),e2]; exact hp
structure Gro (l:Tre) (LO HI:Nat->Nat->List UInt8):Prop where
 ne:0<l.length
 leaf:∀ i,i<wd l 0->(ndT l 0 i).1=0/\(ndT l 0 i).2.1=[]/\(ndT l 0 i).2.2.1=[]/\(ndT l 0 i).2.2.2.1=[]/\∀ p∈(ndT l 0 i).2.2.2.2,Op.bytesLess p.1 (LO 0 i)=false/\Op.bytesLess (HI 0 i) p.1=false
 row:∀ k,k+1<l.length->InnR (LO k) (HI k) (k+1) (l.getD (k+1) default)/\stR (l.getD (k+1) default) (wd l (k+1))=wd l k/\∀ i,i<wd l (k+1)->LO (k+1) i=LO k (stR (l.getD (k+1) default) i)/\HI (k+1) i=HI k (stR (l.getD (k+1) default) (i+1) - 1)
 lh:∀ k i,k<l.length->i<wd l k->Op.bytesLess (HI k i) (LO k i)=false
 hl:∀ k i,k<l.length->i+1<wd l k->Op.bytesLess (HI k i) (LO k (i+1))=true
def kidI (n:Nd) (x:TZ):Nat:=(n.2.1.getD (Gz n.2.2.1 x) default).toNat - 1
def dn (l:Tre) (x:TZ):Nat->Nat
 | 0=>0
 | j+1=>kidI (ndT l (l.length - 1 - j) (dn l x j)) x
section
variable {l:Tre} {LO HI:Nat->Nat->List UInt8}
theorem Gro.nd (G:Gro l LO HI) {k i:Nat} (hk:k+1<l.length) (hi:i<wd l (k+1)):NdOk (LO k) (HI k) (k+1) (ndT l (k+1) i) (stR (l.getD (k+1) default) i):=(G.row k hk).1 i hi
theorem Gro.hlt (G:Gro l LO HI) {k:Nat} (hk:k<l.length) {i:Nat}:∀ {j:Nat},i<j->j<wd l k->Op.bytesLess (HI k i) (LO k j)=true
 | 0,h,_=>by omega
 | j+1,h,hj=>by
  by_cases e:i=j
  ·subst e; exact G.hl k i hk hj
  ·exact Xn (Uq (G.hlt hk (i:=i) (j:=j) (by omega) (by omega)) (G.lh k j hk (by omega))) (G.hl k j hk hj)
theorem Gro.lo_le (G:Gro l LO HI) {k:Nat} (hk:k<l.length) {i j:Nat} (h:i<=j) (hj:j<wd l k):Op.bytesLess (LO k j) (LO k i)=false:=by
 by_cases e:i=j
 ·subst e; exact Wv _
 ·exact Xm (Jd (G.lh k i hk (by omega)) (G.hlt hk (show i<j by omega) hj))
theorem Gro.hi_le (G:Gro l LO HI) {k:Nat} (hk:k<l.length) {i j:Nat} (h:i<=j) (hj:j<wd l k):Op.bytesLess (HI k j) (HI k i)=false:=by
 by_cases e:i=j
 ·subst e; exact Wv _
 ·exact Xm (Uq (G.hlt hk (show i<j by omega) hj) (G.lh k j hk hj))
theorem Gro.rise (G:Gro l LO HI) {k i:Nat} (hk:k+1<l.length) (hi:i<wd l (k+1)):RiseK (fun y=>y) (ndT l (k+1) i).2.2.1:=by
 have n:=G.nd hk hi;have hs:=Y9 (row:=l.getD (k+1) default) hi;have hm:=Wi (row:=l.getD (k+1) default) (i:=i+1) (j:=wd l (k+1)) hi (Nat.le_refl _);rw [(G.row k hk).2.1,hs] at hm;have hm':stR (l.getD (k+1) default) i+(ndT l (k+1) i).2.1.length<=wd l k:=hm;have pl:=n.pvl;refine List.pairwise_iff_getElem.2 fun a b ha hb hab=>?_;have h1:=(n.pv a ha).2.1;have h2:=(n.pv b hb).1;rw [Y0 ha] at h1;rw [Y0 hb] at h2;show Op.bytesLess _ _=true;have h3:Op.bytesLess (HI k (stR (l.getD (k+1) default) i+b)) (LO k (stR (l.getD (k+1) default) i+a+1))=false:=by
  by_cases e:b=a+1
  ·rw [e]; exact G.lh k _ (by omega) (by omega)
  ·exact Xm (Jd (G.lh k _ (by omega) (by omega)) (G.hlt (k:=k) (by omega) (show stR (l.getD (k+1) default) i+a+1<stR (l.getD (k+1) default) i+b by omega) (by omega)) |> fun q=>Uq q (G.lh k _ (by omega) (by omega)))
 exact Jd (Yn h1 h3) h2
theorem Gro.kidI (G:Gro l LO HI) {k i:Nat} (hk:k+1<l.length) (hi:i<wd l (k+1)) (x:TZ):Gz (ndT l (k+1) i).2.2.1 x<(ndT l (k+1) i).2.1.length/\kidI (ndT l (k+1) i) x=stR (l.getD (k+1) default) i+Gz (ndT l (k+1) i).2.2.1 x/\(ndT l (k+1) i).2.1.getD (Gz (ndT l (k+1) i).2.2.1 x) default=((kidI (ndT l (k+1) i) x+1:Nat):Int)/\kidI (ndT l (k+1) i) x<wd l k:=by
 have n:=G.nd hk hi;have hs:=Y9 (row:=l.getD (k+1) default) hi;have hm:=Wi (row:=l.getD (k+1) default) (i:=i+1) (j:=wd l (k+1)) hi (Nat.le_refl _);rw [(G.row k hk).2.1,hs] at hm;have hm':stR (l.getD (k+1) default) i+(ndT l (k+1) i).2.1.length<=wd l k:=hm;have w1:=(Gi x (G.rise hk hi)).1;have pl:=n.pvl;have hw:Gz (ndT l (k+1) i).2.2.1 x<(ndT l (k+1) i).2.1.length:=by omega
 have e:(ndT l (k+1) i).2.1.getD (Gz (ndT l (k+1) i).2.2.1 x) default=((stR (l.getD (k+1) default) i+Gz (ndT l (k+1) i).2.2.1 x+1:Nat):Int):=by
  rw [n.kid,List.getD_eq_getElem?_getD,List.getElem?_map,List.getElem?_range hw]; rfl
 have e2:Go.SK.T.kidI (ndT l (k+1) i) x=stR (l.getD (k+1) default) i+Gz (ndT l (k+1) i).2.2.1 x:=by
  unfold Go.SK.T.kidI;rw [e]; omega
 exact ⟨hw,e2,by rw [e,e2],by omega⟩
theorem Gro.dn_lt (G:Gro l LO HI) (top:wd l (l.length - 1)=1) (x:TZ):∀ j,j<l.length->dn l x j<wd l (l.length - 1 - j)
 | 0,_=>by rw [Nat.sub_zero,top]; exact Nat.one_pos
 | j+1,h=>by
  have ih:=G.dn_lt top x j (by omega);have e:l.length - 1 - j=(l.length - 1 - (j+1))+1:=by omega
  rw [dn];rw [e] at ih ⊢;exact (G.kidI (by omega) ih x).2.2.2
theorem Gro.uniq (G:Gro l LO HI) {k a b:Nat} (hk:k<l.length) (ha:a<wd l k) (hb:b<wd l k) {x:TZ} (a1:Op.bytesLess x (LO k a)=false) (a2:Op.bytesLess (HI k a) x=false) (b1:Op.bytesLess x (LO k b)=false) (b2:Op.bytesLess (HI k b) x=false):a=b:=by
 rcases Nat.lt_trichotomy a b with q | q | q
 ·have:=Uq (G.hlt hk q hb) b1; rw [a2] at this; cases this
 ·exact q
 ·have:=Uq (G.hlt hk q ha) a1; rw [b2] at this; cases this
theorem Gro.anc (G:Gro l LO HI) {x:TZ} {i:Nat} (hi:i<wd l 0) (h1:Op.bytesLess x (LO 0 i)=false) (h2:Op.bytesLess (HI 0 i) x=false):∀ k,k<l.length->∃ a,a<wd l k/\Op.bytesLess x (LO k a)=false/\Op.bytesLess (HI k a) x=false/\(k=0->a=i)
 | 0,_=>⟨i,hi,h1,h2,fun _=>rfl⟩
 | k+1,hk=>by
  obtain ⟨a,ha,a1,a2,_⟩:=G.anc hi h1 h2 k (by omega);obtain ⟨r1,r2,r3⟩:=G.row k hk;obtain ⟨p,hp,p1,p2⟩:=Uo (row:=l.getD (k+1) default) (a:=a) (m:=wd l (k+1)) (Nat.le_refl _) (by rw [r2]; exact ha);have hm:=Wi (row:=l.getD (k+1) default) (i:=p+1) (j:=wd l (k+1)) hp (Nat.le_refl _);rw [r2] at hm;obtain ⟨e1,e2⟩:=r3 p hp;exact ⟨p,hp,by rw [e1]; exact Yn (G.lo_le (by omega) p1 ha) a1,by rw [e2]; exact Yn a2 (G.hi_le (by omega) (show a<=stR (l.getD (k+1) default) (p+1) - 1 by omega) (by omega)),fun e=>by omega⟩
theorem Gro.dn_in (G:Gro l LO HI) (top:wd l (l.length - 1)=1) {x:TZ} {i:Nat} (hi:i<wd l 0) (h1:Op.bytesLess x (LO 0 i)=false) (h2:Op.bytesLess (HI 0 i) x=false):∀ j,j<l.length->Op.bytesLess x (LO (l.length - 1 - j) (dn l x j))=false/\Op.bytesLess (HI (l.length - 1 - j) (dn l x j)) x=false
 | 0,h=>by
  obtain ⟨a,ha,a1,a2,_⟩:=G.anc hi h1 h2 (l.length - 1) (by omega);rw [top] at ha;rw [show a=0 by omega] at a1 a2;exact ⟨a1,a2⟩
 | j+1,h=>by
  obtain ⟨i1,i2⟩:=G.dn_in top hi h1 h2 j (by omega);have ib:=G.dn_lt top x j (by omega);obtain ⟨k,ek⟩:∃ k,l.length - 1 - j=k+1:=⟨l.length - 1 - (j+1),by omega⟩;have ek':l.length - 1 - (j+1)=k:=by omega
  rw [ek] at i1 i2 ib;rw [ek',dn,ek];obtain ⟨a,ha,a1,a2,_⟩:=G.anc hi h1 h2 k (by omega);obtain ⟨r1,r2,r3⟩:=G.row k (by omega);obtain ⟨p,hp,p1,p2⟩:=Uo (row:=l.getD (k+1) default) (a:=a) (m:=wd l (k+1)) (Nat.le_refl _) (by rw [r2]; exact ha);have hm:=Wi (row:=l.getD (k+1) default) (i:=p+1) (j:=wd l (k+1)) hp (Nat.le_refl _);rw [r2] at hm;obtain ⟨e1,e2⟩:=r3 p hp;have ep:p=dn l x j:=G.uniq (by omega) hp ib (by rw [e1]; exact Yn (G.lo_le (by omega) p1 ha) a1) (by rw [e2]; exact Yn a2 (G.hi_le (by omega) (show a<=stR (l.getD (k+1) default) (p+1) - 1 by omega) (by omega))) i1 i2;subst ep;have n:=G.nd (by omega) hp;have hs:=Y9 (row:=l.getD (k+1) default) hp;have hs':stR (l.getD (k+1) default) (dn l x j+1)=stR (l.getD (k+1) default) (dn l x j)+(ndT l (k+1) (dn l x j)).2.1.length:=hs;have pl:=n.pvl;have w:AtWay (ndT l (k+1) (dn l x j)).2.2.1 x (a - stR (l.getD (k+1) default) (dn l x j)):=⟨by omega,fun b hb=>?_,fun b hb hbl=>?_⟩
  ·have ew:=w.uniq (Gi x (G.rise (by omega) hp));rw [(G.kidI (by omega) hp x).2.1,<- ew,show stR (l.getD (k+1) default) (dn l x j)+(a - stR (l.getD (k+1) default) (dn l x j))=a by omega];exact ⟨a1,a2⟩
  ·exact Yn (Yn (n.pv b (by omega)).2.1 (G.lo_le (by omega) (show stR (l.getD (k+1) default) (dn l x j)+b+1<=a by omega) ha)) a1
  ·exact Jd (Yn a2 (G.hi_le (k:=k) (by omega) (show a<=stR (l.getD (k+1) default) (dn l x j)+b by omega) (by omega))) (n.pv b hbl).1
theorem Gro.dn_leaf (G:Gro l LO HI) (top:wd l (l.length - 1)=1) {x:TZ} {i:Nat} (hi:i<wd l 0) (h1:Op.bytesLess x (LO 0 i)=false) (h2:Op.bytesLess (HI 0 i) x=false):dn l x (l.length - 1)=i:=by
 have hl:=G.ne;have hd:=G.dn_in top hi h1 h2 (l.length - 1) (by omega);have hb:=G.dn_lt top x (l.length - 1) (by omega);rw [Nat.sub_self] at hd hb;exact G.uniq hl hb hi hd.1 hd.2 h1 h2
end
def Zpw (c:Cfg) (N:Nat) (l:Tre):Prop:=∀ k i,0<k->k<l.length->i<wd l k->RiseK mk (ndT l k i).2.2.2.1/\(ndT l k i).2.2.2.1.length<=N/\∀ m∈(ndT l k i).2.2.2.1,Y7 c m.1=true/\dn l m.1 (l.length - 1 - k)=i
abbrev Ztz (c:Cfg) (l:Tre):Prop:=Zpw c 100 l
def Ub (row:List Nd):List Pr:=row.flatMap fun n=>n.2.2.2.2
def Lvs (c:Cfg) (l:Tre):Prop:=RiseK pk (Ub (l.getD 0 default))/\(Ub (l.getD 0 default)).length<=150/\∀ p∈Ub (l.getD 0 default),Y7 c p.1=true
section
variable {l:Tre} {LO HI:Nat->Nat->List UInt8} {c:Cfg}
end
abbrev Spc:=List Pr×List Msg×List Int×List Int
def LvP (c:Cfg) (l:List Pr):Prop:=RiseK pk l/\l.length<=150/\∀ p∈l,Y7 c p.1=true
theorem Zdh {c:Cfg} (hc:OkC c) {x:TZ} (h:Y7 c x=true):x.length<=64:=by
 have:=hc.key;simp only [Y7,dE] at h;omega
theorem Zrc {x:Spc} (hx:∀ y∈x.2.2.2,0<=y/\y<256) (i:Nat) {m:Nat} (h1:1<=m) (h2:m<=2000):∃ r:Nat,Q125.f x (i:Int) (m:Int)=some (r:Int)/\1<=r/\r<=m:=by
 unfold Q125.f;by_cases q:x.2.2.2.length=0
 ·exact ⟨m,by rw [iP],h1,Nat.le_refl _⟩
 ·have hm:i % x.2.2.2.length<x.2.2.2.length:=Nat.mod_lt _ (by omega);obtain ⟨y1,y2⟩:=hx _ (Yz (d:=default) hm);obtain ⟨y,ey⟩:=Int.eq_ofNat_of_zero_le y1;have:=Nat.mod_lt y (show 0<m by omega);rw [iN,iO,show Int.tmod (i:Int) (x.2.2.2.length:Int)=((i % x.2.2.2.length:Nat):Int) from rfl,iO,iO,Zt,ey,wI2 (x:=(y:Int)),show Int.tmod (y:Int) (m:Int)=((y % m:Nat):Int) from rfl,wI2];exact ⟨1+y % m,by congr 1,by omega,by omega⟩
theorem Zqf {c:Cfg} (hc:OkC c) {x:Spc}:∀(m i:Nat) (acc:List Pr),i+m=150->RiseK pk acc->acc.length<=i->(∀ p∈acc,Y7 c p.1=true)->∃ ks,Ev (fun k=>Q126.l0 k c x acc (i:Int)) ks/\LvP c ks:=by
 have stop:∀(i:Nat) (acc:List Pr),¬ (i<x.1.length/\i<150)->Ev (fun k=>Q126.l0 k c x acc (i:Int)) acc:=fun i acc h=>by
  refine ⟨2,fun k hk=>?_⟩;obtain ⟨k,rfl⟩:=kS2 k;show Q126.l0 (k+2) c x acc (i:Int)=_;rw [Q126.l0];by_cases q:i<x.1.length
  ·rw [iP,dF,Q126.l1,vS]
  ·rw [iN,Q126.l1,vS]
 intro m
 induction m with
 | zero=>intro i acc hi hr hl hk; exact ⟨acc,stop i acc (by omega),hr,by omega,hk⟩
 | succ m ih=>
  intro i acc hi hr hl hk;by_cases q:i<x.1.length
  ·obtain ⟨p,ep⟩:∃ p,p=x.1.getD i default:=⟨_,rfl⟩;have step:∀ k,9000<k->Q126.l0 (k+3) c x acc (i:Int)=if (Y7 c p.1 && decide ((p.2.length:Int)<=c.2.2.2.2.2.2.2))=true then Q126.l0 k c x (Xw pk p acc) ((i+1:Nat):Int) else Q126.l0 k c x acc ((i+1:Nat):Int):=fun k hk9=>by
    rw [Q126.l0,iP,dT (show (i:Int)<150 by omega),Q126.l1,iT rfl,iO,Zt,<- ep,Uz,bS];have l2:∀ b:Bool,(b=true->Y7 c p.1=true)->Q126.l2 (k+1) c x acc (i:Int) b=if b=true then Q126.l0 k c x (Xw pk p acc) ((i+1:Nat):Int) else Q126.l0 k c x acc ((i+1:Nat):Int):=fun b hb=>by
     rw [Q126.l2,wS2,Zt,<- ep];cases b with
     | false=>rfl
     | true=>
      have:=Zdh hc (hb rfl);rw [iT rfl,iT rfl,iO,Zgx (by omega) (by omega) (fun y hy=>by have:=Zdh hc (hk y hy); omega) hr (by omega),bS]
    cases e:Y7 c p.1 with
    | true=>rw [iT rfl,l2 _ (fun _=>e),Bool.true_and]
    | false=>rw [vS,l2 _ (fun h=>by cases h),Bool.false_and]
   cases e:(Y7 c p.1 && decide ((p.2.length:Int)<=c.2.2.2.2.2.2.2)) with
   | true=>
    have ek:Y7 c p.1=true:=by rw [Bool.and_eq_true] at e; exact e.1
    obtain ⟨ks,⟨b,hb⟩,g⟩:=ih (i+1) (Xw pk p acc) (by omega) (Jw pk hr) (by have:=B0 pk p acc; omega) (fun y hy=>by rcases Za2 pk hy with rfl | hy; exact ek; exact hk y hy);refine ⟨ks,⟨b+9005,fun k kk=>?_⟩,g⟩;obtain ⟨k,rfl⟩:=kS3 k;show Q126.l0 (k+3) c x acc (i:Int)=_;rw [step k (by omega),e,iT rfl];exact hb k (by omega)
   | false=>
    obtain ⟨ks,⟨b,hb⟩,g⟩:=ih (i+1) acc (by omega) hr (by omega) hk;refine ⟨ks,⟨b+9005,fun k kk=>?_⟩,g⟩;obtain ⟨k,rfl⟩:=kS3 k;show Q126.l0 (k+3) c x acc (i:Int)=_;rw [step k (by omega),e,vS];exact hb k (by omega)
  ·exact ⟨acc,stop i acc (by omega),hr,by omega,hk⟩
theorem Zs7 {c:Cfg} (hc:OkC c) (x:Spc):∃ ks,Ev (fun k=>Q126.f k c x) ks/\LvP c ks:=Zqf hc 150 0 [] (by omega) List.Pairwise.nil (Nat.le_refl _) (by simp)
theorem Zq6 {c:Cfg} {x:Spc}:∀(m i:Nat) (acc:List Msg),i+m=100->acc.length<=i->(∀ p∈acc,Y7 c p.1=true)->∃ ks:List Msg,Ev (fun k=>Q127.l0 k c x acc (i:Int)) ks/\ks.length<=100/\∀ p∈ks,Y7 c p.1=true:=by
 have stop:∀(i:Nat) (acc:List Msg),¬ (i<x.2.1.length/\i<100)->Ev (fun k=>Q127.l0 k c x acc (i:Int)) acc:=fun i acc h=>by
  refine ⟨2,fun k hk=>?_⟩;obtain ⟨k,rfl⟩:=kS2 k;show Q127.l0 (k+2) c x acc (i:Int)=_;rw [Q127.l0];by_cases q:i<x.2.1.length
  ·rw [iP,dF,Q127.l1,vS]
  ·rw [iN,Q127.l1,vS]
 intro m
 induction m with
 | zero=>intro i acc hi hl hk; exact ⟨acc,stop i acc (by omega),by omega,hk⟩
 | succ m ih=>
  intro i acc hi hl hk;by_cases q:i<x.2.1.length
  ·obtain ⟨p,ep⟩:∃ p,p=x.2.1.getD i default:=⟨_,rfl⟩;have step:∃ b:Bool,(b=true->Y7 c p.1=true)/\∀ k,Q127.l0 (k+3) c x acc (i:Int)=if b=true then Q127.l0 k c x (acc ++ [p]) ((i+1:Nat):Int) else Q127.l0 k c x acc ((i+1:Nat):Int):=by
    have l2:∀(b:Bool) (k:Nat),Q127.l2 (k+1) c x acc (i:Int) b=if b=true then Q127.l0 k c x (acc ++ [p]) ((i+1:Nat):Int) else Q127.l0 k c x acc ((i+1:Nat):Int):=fun b k=>by
     rw [Q127.l2,wS2,Zt,<- ep];cases b with
     | false=>rfl
     | true=>rw [iT rfl,iT rfl,iV]
    have l1:∀ k,Q127.l0 (k+3) c x acc (i:Int)=if Y7 c p.1=true then (if decide ((p.2.2.length:Int)<=c.2.2.2.2.2.2.2)=true then (if (!p.2.1)=true then Q127.l2 (k+1) c x acc (i:Int) true else Q127.l2 (k+1) c x acc (i:Int) (decide (p.2.2=[]))) else Q127.l2 (k+1) c x acc (i:Int) false) else Q127.l2 (k+1) c x acc (i:Int) false:=fun k=>by
     rw [Q127.l0,iP,dT (show (i:Int)<100 by omega),Q127.l1,iT rfl,iO,Zt,<- ep,Uz,bS]
    cases e:Y7 c p.1 with
    | false=>exact ⟨false,nofun,fun k=>by rw [l1,e,vS,l2]⟩
    | true=>
     by_cases e2:(p.2.2.length:Int)<=c.2.2.2.2.2.2.2
     ·cases e3:p.2.1 with
      | false=>exact ⟨true,fun _=>rfl,fun k=>by rw [l1,e,e3,iT rfl,iT (dT e2),iT (by rfl),l2]⟩
      | true=>exact ⟨decide (p.2.2=[]),fun _=>rfl,fun k=>by rw [l1,e,e3,iT rfl,iT (dT e2),vS,l2]⟩
     ·exact ⟨false,nofun,fun k=>by rw [l1,e,iT rfl,iF (by simpa using e2),l2]⟩
   obtain ⟨b,hb1,hb2⟩:=step;cases b with
   | true=>
    obtain ⟨ks,⟨b,hb⟩,g⟩:=ih (i+1) (acc ++ [p]) (by omega) (by simp; omega) (fun y hy=>by rcases List.mem_append.1 hy with hy | hy; exact hk y hy; rw [List.mem_singleton.1 hy]; exact hb1 rfl);refine ⟨ks,⟨b+3,fun k kk=>?_⟩,g⟩;obtain ⟨k,rfl⟩:=kS3 k;show Q127.l0 (k+3) c x acc (i:Int)=_;rw [hb2,iT rfl];exact hb k (by omega)
   | false=>
    obtain ⟨ks,⟨b,hb⟩,g⟩:=ih (i+1) acc (by omega) (by omega) hk;refine ⟨ks,⟨b+3,fun k kk=>?_⟩,g⟩;obtain ⟨k,rfl⟩:=kS3 k;show Q127.l0 (k+3) c x acc (i:Int)=_;rw [hb2,vS];exact hb k (by omega)
  ·exact ⟨acc,stop i acc (by omega),by omega,hk⟩
theorem Zs1 (c:Cfg) (x:Spc):∃ ks:List Msg,Ev (fun k=>Q127.f k c x) ks/\ks.length<=100/\∀ p∈ks,Y7 c p.1=true:=Zq6 100 0 [] (by omega) (Nat.le_refl _) (by simp)
theorem Zrz {out:Tre} {LO HI:Nat->Nat->List UInt8} (G:Gro out LO HI) {up:List Nd} {a b:TR} (inn:InnR (LO (out.length - 1)) (HI (out.length - 1)) out.length up) (st:stR up up.length=wd out (out.length - 1)) (ab:∀ j,j<up.length->a.getD j []=LO (out.length - 1) (stR up j)/\b.getD j []=HI (out.length - 1) (stR up (j+1) - 1)):Gro (out ++ [up]) (upd LO out.length fun i=>a.getD i []) (upd HI out.length fun i=>b.getD i []):=by
 have hne:=G.ne;have eg:∀ k,k<out.length->(out ++ [up]).getD k default=out.getD k default:=fun k h=>Yk h;have en:(out ++ [up]).getD out.length default=up:=Yq rfl;have wg:∀ k,k<out.length->wd (out ++ [up]) k=wd out k:=fun k h=>by unfold wd; rw [eg k h]
 have wn:wd (out ++ [up]) out.length=up.length:=by unfold wd; rw [en]
 have ll:(out ++ [up]).length=out.length+1:=by simp
 have kd:∀ i,i<up.length->stR up i+1<=stR up (i+1)/\stR up (i+1)<=wd out (out.length - 1):=fun i hi=>by
  have h1:=Y9 hi;have h2:=(inn i hi).pvl;have h3:=Wi (row:=up) (i:=i+1) (j:=up.length) hi (Nat.le_refl _);omega
 refine ⟨by omega,fun i hi=>?_,fun k hk=>?_,fun k i hk hi=>?_,fun k i hk hi=>?_⟩
 ·rw [wg 0 hne] at hi;unfold ndT;rw [eg 0 hne,Yj,Yj];exact G.leaf i hi
 ·rw [ll] at hk;by_cases e:k+1<out.length
  ·rw [eg _ e,wg _ e,wg k (by omega),Yj (g:=LO) (show k≠out.length by omega),Yj (g:=HI) (show k≠out.length by omega),Yj (g:=LO) (show k+1≠out.length by omega),Yj (g:=HI) (show k+1≠out.length by omega)];exact G.row k e
  ·have e2:k+1=out.length:=by omega
   have e3:k=out.length - 1:=by omega
   rw [wg k (by omega),Yj (g:=LO) (show k≠out.length by omega),Yj (g:=HI) (show k≠out.length by omega),e2,en,wn,Z8,Z8,e3];exact ⟨inn,st,ab⟩
 ·rw [ll] at hk;by_cases e:k<out.length
  ·rw [wg k e] at hi;rw [Yj,Yj];exact G.lh k i e hi
  ·have e2:k=out.length:=by omega
   subst e2;rw [wn] at hi;obtain ⟨h1,h2⟩:=kd i hi;rw [Z8,Z8,(ab i hi).1,(ab i hi).2];exact Yn (G.lh (out.length - 1) _ (by omega) (by omega)) (G.hi_le (by omega) (show stR up i<=stR up (i+1) - 1 by omega) (by omega))
 ·rw [ll] at hk;by_cases e:k<out.length
  ·rw [wg k e] at hi;rw [Yj,Yj];exact G.hl k i e hi
  ·have e2:k=out.length:=by omega
   subst e2;rw [wn] at hi;obtain ⟨h1,h2⟩:=kd i (by omega);obtain ⟨h3,h4⟩:=kd (i+1) hi;rw [Z8,Z8,(ab (i+1) hi).1,(ab i (by omega)).2];have:=G.hl (out.length - 1) (stR up (i+1) - 1) (by omega) (by omega)
   rwa [show stR up (i+1) - 1+1=stR up (i+1) by omega] at this
structure GoodT (c:Cfg) (r:Tre):Prop where
 gro:∃ LO HI,Gro r LO HI
 top:wd r (r.length - 1)=1
 len:r.length<=6
 lvs:Lvs c r
 buf:Ztz c r
 wb:∀ k,k<r.length->wd r k<=151
structure UpSt (c:Cfg) (out:Tre) (lo hi:TR):Prop where
 gro:∃ LO HI,Gro out LO HI/\LO (out.length - 1)=(fun i=>lo.getD i [])/\HI (out.length - 1)=fun i=>hi.getD i []
 len:out.length<=6
 ll:lo.length=wd out (out.length - 1)
 hl:hi.length=wd out (out.length - 1)
 sh:∀ i,(lo.getD i []).length<=200/\(hi.getD i []).length<=200
 w1:1<=wd out (out.length - 1)
 wb:∀ k,k<out.length->wd out k<=151
 lvs:Lvs c out
 buf:∀ k i,k<out.length->i<wd out k->(ndT out k i).2.2.2.1=[]
structure UpRow (lo hi:TR) (K N:Nat) (up:List Nd) (a b:TR) (i:Nat):Prop where
 inn:InnR (fun i=>lo.getD i []) (fun i=>hi.getD i []) K up
 st:stR up up.length=i
 al:a.length=up.length
 bl:b.length=up.length
 ab:∀ j,j<up.length->a.getD j []=lo.getD (stR up j) []/\b.getD j []=hi.getD (stR up (j+1) - 1) []
 le:up.length<=i
 bf:∀ j,j<up.length->(up.getD j default).2.2.2.1=[]
section
variable {c:Cfg} {x:Spc} {lo hi:TR} {out:Tre}
theorem Zre (hc:OkC c) (hx:∀ y∈x.2.2.2,0<=y/\y<256) (U:UpSt c out lo hi) {up:List Nd} {a b:TR} {i t nn:Nat} {r:Int} (R:UpRow lo hi out.length (wd out (out.length - 1)) up a b i)
  (hn:mnI (mxI r 2) (w64 (((out.getD (out.length - 1) default).length:Int) - (i:Int)))=(nn:Int)) (n1:1<=nn) (n2:nn<=64) (n3:i+nn<=wd out (out.length - 1)) (ht:t<=5000)
  {u:Nat} (hu:up.length=u) (H:∀(up:List Nd) (a b:TR),UpRow lo hi out.length (wd out (out.length - 1)) up a b (i+nn)->up.length=u+1->∃ q,Ev (fun k=>Q123.l6 k c x (out.getD (out.length - 1) default) lo hi out ((t+1:Nat):Int) up a b ((i+nn:Nat):Int)) q/\GoodT c q) :
  ∀(m j:Nat) (kd:T3) (pv:TR),j+m=nn->kd=((List.range j).map fun(q:Nat)=>((i+q+1:Nat):Int))->pv.length=j - 1->(∀ q,q<pv.length->Op.bytesLess (hi.getD (i+q) []) (pv.getD q [])=true/\Op.bytesLess (lo.getD (i+q+1) []) (pv.getD q [])=false/\(pv.getD q []).length<=200)->
  ∃ q,Ev (fun k=>Q123.l8 k c x r (out.getD (out.length - 1) default) lo hi out (t:Int) up a b (i:Int) kd pv (j:Int)) q/\GoodT c q:=by
 obtain ⟨LO,HI,G,eL,eH⟩:=U.gro;have hne:=G.ne;have wB:=U.wb (out.length - 1) (by omega);have hol:=U.len;have h1:=U.ll;have h2:=U.hl;intro m
 induction m with
 | zero=>
  intro j kd pv hj hkd hpl hpv;have ej:j=nn:=by omega
  subst ej;obtain ⟨q,⟨b0,hb⟩,g⟩:=H (up ++ [((out.length:Int),kd,pv,[],[])]) (a ++ [lo.getD i []]) (b ++ [hi.getD (i+j - 1) []]) ⟨R.inn.app ⟨rfl,rfl,by rw [hkd]; simp; omega,by rw [hkd]; simp; omega,by rw [R.st]; rw [hkd]; simp,fun q hq=>by rw [R.st]; exact hpv q hq⟩,by
    rw [lA,show up.length+[((out.length:Int),kd,pv,([]:List Msg),([]:List Pr))].length=up.length+1 from rfl,Y9 (by simp),Gj _ (Nat.le_refl _),R.st,Yq rfl,hkd]; simp,by simp [R.al],by simp [R.bl],fun q hq=>by
    rw [lA] at hq;by_cases e:q<up.length
    ·rw [Yk (by rw [R.al]; exact e),Yk (by rw [R.bl]; exact e),Gj _ (by omega),Gj _ (by omega)];exact R.ab q e
    ·have e2:q=up.length:=by simp at hq; omega
     rw [Yq (by rw [R.al,e2]),Yq (by rw [R.bl,e2]),Y9 (by simp; omega),Gj _ (by omega),e2,R.st,Yq rfl,hkd];simp,by have:=R.le; simp; omega,fun q hq=>by
    rw [lA] at hq;by_cases e:q<up.length
    ·rw [Yk e]; exact R.bf q e
    ·rw [Yq (by simp at hq; omega)]⟩ (by simp; omega)
  refine ⟨q,⟨b0+2,fun k hk=>?_⟩,g⟩;obtain ⟨k,rfl⟩:=kS2 k;have hb':=hb k (by omega);have hle:=R.le;have hal:=R.al;have hbl:=R.bl;show Q123.l8 (k+2) c x r _ lo hi out (t:Int) up a b (i:Int) kd pv (j:Int)=_;rw [Q123.l8,hn,vS,Q123.l7,hn,wI2 (x:=(i:Int)+(j:Int)),wI2 (x:=(i:Int)+(j:Int) - 1),iV,iO,iO,iV,iV,Zt,wS2,show (i:Int)+(j:Int) - 1=((i+j - 1:Nat):Int) by omega,Zt,show (i:Int)+(j:Int)=((i+j:Nat):Int) by omega];exact hb'
 | succ m ih=>
  intro j kd pv hj hkd hpl hpv;have kl:kd.length=j:=by rw [hkd]; simp
  have ek:kd ++ [((i+j+1:Nat):Int)]=(List.range (j+1)).map fun(q:Nat)=>((i+q+1:Nat):Int):=by rw [hkd,List.range_succ,List.map_append]; rfl
  have head:∀ k,Q123.l8 (k+1) c x r (out.getD (out.length - 1) default) lo hi out (t:Int) up a b (i:Int) kd pv (j:Int)=if 0<j then ((Q133.f k (hi.getD (i+j - 1) []) (lo.getD (i+j) [])).bind fun r6=>(if (pv.length+([r6.1]:List TZ).length)*16<=140737488355328 then Q123.l8 k c x r (out.getD (out.length - 1) default) lo hi out (t:Int) up a b (i:Int) (kd ++ [((i+j+1:Nat):Int)]) (pv ++ [r6.1]) ((j+1:Nat):Int) else none)) else Q123.l8 k c x r (out.getD (out.length - 1) default) lo hi out (t:Int) up a b (i:Int) (kd ++ [((i+j+1:Nat):Int)]) pv ((j+1:Nat):Int):=fun k=>by
   rw [Q123.l8,hn,iP,wI2 (x:=(i:Int)+(j:Int)),wI2 (x:=(i:Int)+(j:Int)+1),show (i:Int)+(j:Int)+1=((i+j+1:Nat):Int) by omega,Zle (by omega),iV];by_cases q:0<j
   ·rw [iP,wI2 (x:=(i:Int)+(j:Int) - 1),iO,iO,show (i:Int)+(j:Int) - 1=((i+j - 1:Nat):Int) by omega,Zt,show (i:Int)+(j:Int)=((i+j:Nat):Int) by omega,Zt,wS2,iT q];rfl
   ·rw [iN,wS2,iF q]
  by_cases q:0<j
  ·have hlt:Op.bytesLess (hi.getD (i+j - 1) []) (lo.getD (i+j) [])=true:=by
    have:=G.hl (out.length - 1) (i+j - 1) (by omega) (by omega);rw [eL,eH] at this
    rwa [show i+j - 1+1=i+j by omega] at this
   obtain ⟨s1,_⟩:=U.sh (i+j);obtain ⟨_,s2⟩:=U.sh (i+j - 1);obtain ⟨z,⟨b0,hb⟩,g⟩:=ih (j+1) (kd ++ [((i+j+1:Nat):Int)]) (pv ++ [(lo.getD (i+j) []).take (shd (hi.getD (i+j - 1) []) (lo.getD (i+j) [])+1)]) (by omega) ek (by simp; omega) (fun w hw=>by
    rw [lA] at hw;by_cases e:w<pv.length
    ·rw [Yk e]; exact hpv w e
    ·have e2:w=pv.length:=by simp at hw; omega
     rw [Yq e2,show i+w=i+j - 1 by omega,show i+j - 1+1=i+j by omega];exact ⟨Gp hlt,Zef _ _,by rw [length_take]; omega⟩)
   refine ⟨z,⟨b0+6000,fun k hk=>?_⟩,g⟩;obtain ⟨k,rfl⟩:=kS1 k;show Q123.l8 (k+1) c x r _ lo hi out (t:Int) up a b (i:Int) kd pv (j:Int)=_;rw [head,iT q,Zjn (by omega) (by omega) (by omega),iT hlt,bS,iV];exact hb k (by omega)
  ·obtain ⟨z,⟨b0,hb⟩,g⟩:=ih (j+1) (kd ++ [((i+j+1:Nat):Int)]) pv (by omega) ek (by omega) hpv;refine ⟨z,⟨b0+1,fun k hk=>?_⟩,g⟩;obtain ⟨k,rfl⟩:=kS1 k;show Q123.l8 (k+1) c x r _ lo hi out (t:Int) up a b (i:Int) kd pv (j:Int)=_;rw [head,iF q];exact hb k (by omega)
theorem Zrk (hc:OkC c) (hx:∀ y∈x.2.2.2,0<=y/\y<256) (U:UpSt c out lo hi)
  (H:∀(up:List Nd) (a b:TR) (t:Nat),UpSt c (out ++ [up]) a b->t<=200*(out.length+1)->∃ q,Ev (fun k=>Q123.l3 k c x up a b (t:Int) (out ++ [up])) q/\GoodT c q) (w2:1<wd out (out.length - 1)) (l6:out.length<6) :
  ∀(m i:Nat) (up:List Nd) (a b:TR) (t:Nat),wd out (out.length - 1) - i<=m->i<=wd out (out.length - 1)->UpRow lo hi out.length (wd out (out.length - 1)) up a b i->t<=200*out.length+up.length->∃ q,Ev (fun k=>Q123.l6 k c x (out.getD (out.length - 1) default) lo hi out (t:Int) up a b (i:Int)) q/\GoodT c q:=by
 obtain ⟨LO,HI,G,eL,eH⟩:=U.gro;have hne:=G.ne;have wB:=U.wb (out.length - 1) (by omega);obtain ⟨F,eF⟩:=Int.eq_ofNat_of_zero_le (show 0<=c.2.2.2.1 by have:=hc.fan; omega);have hF:=hc.fan;intro m
 induction m with
 | zero=>
  intro i up a b t hm hi R ht;have ei:i=wd out (out.length - 1):=by omega
  have hu:=R.le;have hinn:InnR (LO (out.length - 1)) (HI (out.length - 1)) out.length up:=by rw [eL,eH]; exact R.inn
  have hup:1<=up.length:=by
   apply Nat.one_le_iff_ne_zero.2;intro e;have:=R.st;rw [e,Zas] at this;omega
  have e1:(out ++ [up]).length - 1=out.length:=by simp
  have en:(out ++ [up]).getD out.length default=up:=Yq rfl;have U':UpSt c (out ++ [up]) a b:=by
   refine ⟨⟨_,_,Zrz G hinn (by rw [R.st,ei]) (fun j hj=>by rw [eL,eH]; exact R.ab j hj),by rw [e1,Z8],by rw [e1,Z8]⟩,by simp; omega,by rw [e1,R.al]; unfold wd; rw [en],by rw [e1,R.bl]; unfold wd; rw [en],fun j=>?_,by rw [e1]; unfold wd; rw [en]; exact hup,fun k hk=>?_,?_,fun k j hk hj=>?_⟩
   ·by_cases q:j<up.length
    ·rw [(R.ab j q).1,(R.ab j q).2];exact ⟨(U.sh _).1,(U.sh _).2⟩
    ·rw [List.getD_eq_getElem?_getD,List.getD_eq_getElem?_getD,List.getElem?_eq_none (by have:=R.al; omega),List.getElem?_eq_none (by have:=R.bl; omega)];exact ⟨Nat.zero_le _,Nat.zero_le _⟩
   ·rw [lA] at hk;by_cases q:k<out.length
    ·unfold wd; rw [Yk q]; exact U.wb k q
    ·rw [show k=out.length by simp at hk; omega]; unfold wd; rw [en]; omega
   ·unfold Lvs;rw [Yk hne];exact U.lvs
   ·rw [lA] at hk;by_cases q:k<out.length
    ·unfold wd at hj; unfold ndT;rw [Yk q] at hj ⊢;exact U.buf k j q hj
    ·have ek:k=out.length:=by simp at hk; omega
     subst ek;unfold wd at hj; unfold ndT;rw [en] at hj ⊢;exact R.bf j hj
  obtain ⟨q,⟨b0,hb⟩,g⟩:=H up a b t U' (by omega);refine ⟨q,⟨b0+2,fun k hk=>?_⟩,g⟩;obtain ⟨k,rfl⟩:=kS2 k;show Q123.l6 (k+2) c x _ _ _ out (t:Int) up a b (i:Int)=_;rw [Q123.l6,iF (by simp only [dE]; unfold wd at ei; omega),Q123.l5,iV];exact hb k (by omega)
 | succ m ih=>
  intro i up a b t hm hi R ht;by_cases q:i<wd out (out.length - 1)
  ·have hu:=R.le;have hst:up.length<=151:=by omega
   obtain ⟨r,er,r1,r2⟩:=Zrc hx t (m:=F) (by omega) (by omega);obtain ⟨nn,hn,n1,n2,n3⟩:∃ nn:Nat,mnI (mxI (r:Int) 2) (w64 (((out.getD (out.length - 1) default).length:Int) - (i:Int)))=(nn:Int)/\1<=nn/\nn<=64/\i+nn<=wd out (out.length - 1):=by
    unfold wd at q wB ⊢;unfold mnI mxI;rw [wI2];by_cases q1:(r:Int)>2
    ·rw [iT q1];by_cases q2:(r:Int)<((out.getD (out.length - 1) default).length:Int) - (i:Int)
     ·rw [iT q2]; exact ⟨r,rfl,by omega,by omega,by omega⟩
     ·rw [iF q2]; exact ⟨(out.getD (out.length - 1) default).length - i,by omega,by omega,by omega,by omega⟩
    ·rw [iF q1];by_cases q2:(2:Int)<((out.getD (out.length - 1) default).length:Int) - (i:Int)
     ·rw [iT q2]; exact ⟨2,rfl,by omega,by omega,by omega⟩
     ·rw [iF q2]; exact ⟨(out.getD (out.length - 1) default).length - i,by omega,by omega,by omega,by omega⟩
   obtain ⟨z,⟨b0,hb⟩,g⟩:=Zre hc hx U R hn n1 n2 n3 (by omega) rfl (fun up' a' b' R' e=>ih (i+nn) up' a' b' (t+1) (by omega) n3 R' (by omega)) nn 0 [] [] (by omega) rfl rfl (fun w hw=>absurd hw (Nat.not_lt_zero _));refine ⟨z,⟨b0+1,fun k hk=>?_⟩,g⟩;obtain ⟨k,rfl⟩:=kS1 k;show Q123.l6 (k+1) c x _ _ _ out (t:Int) up a b (i:Int)=_;rw [Q123.l6,iT (dT (by unfold wd at q; omega)),eF,er,bS];exact hb k (by omega)
  ·exact ih i up a b t (by omega) hi R ht
end
theorem Zn2 {α β:Type} (f:α->β) (l:List α) (i:Nat) (d:α):(l.map f).getD i (f d)=f (l.getD i d):=by
 rw [List.getD_eq_getElem?_getD,List.getElem?_map,List.getD_eq_getElem?_getD];cases l[i]? <;> rfl
def Jn (n:Nd):Int×List Int×List TZ×List Pr:=(n.1,n.2.1,n.2.2.1,n.2.2.2.2)
structure SameB (l r:Tre):Prop where
 len:r.length=l.length
 row:∀ k,(r.getD k default).map Jn=(l.getD k default).map Jn
theorem Br {n m:Nd} (h:Jn n=Jn m):n.1=m.1/\n.2.1=m.2.1/\n.2.2.1=m.2.2.1/\n.2.2.2.2=m.2.2.2.2:=⟨congrArg (fun z=>z.1) h,congrArg (fun z=>z.2.1) h,congrArg (fun z=>z.2.2.1) h,congrArg (fun z=>z.2.2.2) h⟩
section
variable {l r q:Tre} {LO HI:Nat->Nat->List UInt8} {c:Cfg}
theorem SameB.rfl' (l:Tre):SameB l l:=⟨rfl,fun _=>rfl⟩
theorem SameB.trans (S:SameB l r) (T:SameB r q):SameB l q:=⟨T.len.trans S.len,fun k=>(T.row k).trans (S.row k)⟩
theorem SameB.wd (S:SameB l r) (k:Nat):wd r k=wd l k:=by
 have:=congrArg List.length (S.row k);simpa [T.wd] using this
theorem SameB.nd (S:SameB l r) (k i:Nat):Jn (ndT r k i)=Jn (ndT l k i):=by
 have:=congrArg (fun z=>z.getD i (Jn default)) (S.row k);simp only [Zn2] at this;exact this
theorem SameB.st (S:SameB l r) (k i:Nat):stR (r.getD k default) i=stR (l.getD k default) i:=by
 have e:∀ row:List Nd,row.map (fun n=>n.2.1.length)=(row.map Jn).map fun s=>s.2.1.length:=fun row=>by rw [List.map_map]; rfl
 unfold stR;rw [e,e,S.row]
theorem SameB.flat (S:SameB l r) (k:Nat):Ub (r.getD k default)=Ub (l.getD k default):=by
 have e:∀ row:List Nd,Ub row=(row.map Jn).flatMap fun s=>s.2.2.2:=fun row=>by rw [List.flatMap_map]; rfl
 rw [e,e,S.row]
theorem SameB.kid (S:SameB l r) (k i:Nat) (x:TZ):kidI (ndT r k i) x=kidI (ndT l k i) x:=by
 obtain ⟨_,h2,h3,_⟩:=Br (S.nd k i);unfold kidI;rw [h2,h3]
theorem SameB.dn (S:SameB l r) (x:TZ):∀ j,dn r x j=dn l x j
 | 0=>rfl
 | j+1=>by rw [T.dn,T.dn,S.dn x j,S.len,S.kid]
theorem SameB.gro (S:SameB l r) (G:Gro l LO HI) (h0:∀ i,i<T.wd l 0->(ndT r 0 i).2.2.2.1=[]):Gro r LO HI:=by
 refine ⟨by rw [S.len]; exact G.ne,fun i hi=>?_,fun k hk=>?_,fun k i hk hi=>?_,fun k i hk hi=>?_⟩
 ·rw [S.wd] at hi;obtain ⟨a1,a2,a3,a4⟩:=Br (S.nd 0 i);obtain ⟨g1,g2,g3,_,g5⟩:=G.leaf i hi;rw [a1,a2,a3,a4];exact ⟨g1,g2,g3,h0 i hi,g5⟩
 ·rw [S.len] at hk;obtain ⟨r1,r2,r3⟩:=G.row k hk;refine ⟨fun i hi=>?_,by rw [S.wd,S.wd,S.st]; exact r2,fun i hi=>?_⟩
  ·have hi':i<(l.getD (k+1) default).length:=by have:=S.wd (k+1); unfold T.wd at this; omega
   obtain ⟨a1,a2,a3,a4⟩:=Br (S.nd (k+1) i);have n:=r1 i hi';unfold ndT at a1 a2 a3 a4;rw [S.st];exact ⟨by rw [a1]; exact n.lvl,by rw [a4]; exact n.prs,by rw [a2,a3]; exact n.pvl,by rw [a2]; exact n.fan,by rw [a2]; exact n.kid,by rw [a3]; exact n.pv⟩
  ·rw [S.wd] at hi;rw [S.st,S.st];exact r3 i hi
 ·rw [S.len] at hk; rw [S.wd] at hi; exact G.lh k i hk hi
 ·rw [S.len] at hk; rw [S.wd] at hi; exact G.hl k i hk hi
end
def Zat (l:Tre) (k i:Nat) (b:List Msg):Tre:=l.set k ((l.getD k default).set i ((ndT l k i).1,(ndT l k i).2.1,(ndT l k i).2.2.1,b,(ndT l k i).2.2.2.2))
theorem Zb1 {α:Type} (l:List α) (k j:Nat) (v d:α):(l.set k v).getD j d=if j=k/\k<l.length then v else l.getD j d:=by
 rw [List.getD_eq_getElem?_getD,List.getElem?_set,List.getD_eq_getElem?_getD];by_cases e:k=j
 ·subst e;by_cases h:k<l.length
  ·rw [iT rfl,iT h,iT ⟨rfl,h⟩]; rfl
  ·rw [iT rfl,iF h,iF (fun z=>h z.2),List.getElem?_eq_none (by omega)]
 ·rw [iF e,iF (fun z=>e z.1.symm)]
theorem Zkt {l:Tre} {k i:Nat} (hk:k<l.length) (hi:i<wd l k) (b:List Msg) (k' i':Nat):(ndT (Zat l k i b) k' i').2.2.2.1=if k'=k/\i'=i then b else (ndT l k' i').2.2.2.1:=by
 unfold ndT Zat
 rw [Zb1];by_cases e:k'=k
 ·subst e;rw [iT ⟨rfl,hk⟩,Zb1];by_cases e2:i'=i
  ·subst e2;rw [iT ⟨rfl,hi⟩,iT ⟨rfl,rfl⟩]
  ·rw [iF (fun z=>e2 z.1),iF (fun z=>e2 z.2)]
 ·rw [iF (fun z=>e z.1),iF (fun z=>e z.1)]
theorem Zm0 (l:Tre) (k i:Nat) (b:List Msg):SameB l (Zat l k i b):=by
 refine ⟨by unfold Zat; rw [length_set],fun j=>?_⟩;unfold Zat
 rw [Zb1];by_cases e:j=k/\k<l.length
 ·rw [iT e,e.1,List.map_set];refine List.ext_getElem? fun z=>?_;rw [List.getElem?_set];by_cases ez:i=z
  ·subst ez;rw [iT rfl,List.getElem?_map];by_cases h:i<((l.getD k default).map Jn).length
   ·rw [iT h];rw [length_map] at h;unfold ndT;rw [Y0 h,List.getElem?_eq_getElem h];rfl
   ·rw [iF h];rw [length_map] at h;rw [List.getElem?_eq_none (by omega)]; rfl
  ·rw [iF ez]
 ·rw [iF e]
section
variable {l:Tre} {LO HI:Nat->Nat->List UInt8} {c:Cfg} {N:Nat}
structure PutS (c:Cfg) (N:Nat) (l r:Tre):Prop where
 same:SameB l r
 buf:Zpw c N r
 z:∀ i,i<wd l 0->(ndT r 0 i).2.2.2.1=[]
theorem Zoq {l0 l:Tre} (S:PutS c N l0 l) {m:Msg} (hm:Y7 c m.1=true) {k:Nat} (h0:0<k) (hk:k<l.length) (hi:dn l m.1 (l.length - 1 - k)<wd l k):PutS c (N+1) l0 (Zat l k (dn l m.1 (l.length - 1 - k)) (Xw mk m (ndT l k (dn l m.1 (l.length - 1 - k))).2.2.2.1)):=by
 have V:=Zm0 l k (dn l m.1 (l.length - 1 - k)) (Xw mk m (ndT l k (dn l m.1 (l.length - 1 - k))).2.2.2.1);refine ⟨S.same.trans V,fun k' i' p0 p1 p2=>?_,fun i h=>?_⟩
 ·rw [V.len] at p1 ⊢;rw [V.wd] at p2;rw [Zkt hk hi];obtain ⟨b1,b2,b3⟩:=S.buf k' i' p0 p1 p2;by_cases e:k'=k/\i'=dn l m.1 (l.length - 1 - k)
  ·obtain ⟨rfl,rfl⟩:=e;rw [iT ⟨rfl,rfl⟩];refine ⟨Jw mk b1,by have:=B0 mk m (ndT l k' (dn l m.1 (l.length - 1 - k'))).2.2.2.1; omega,fun y hy=>?_⟩;rw [V.dn];rcases Za2 mk hy with rfl | hy
   ·exact ⟨hm,rfl⟩
   ·exact b3 y hy
  ·rw [iF e];exact ⟨b1,by omega,fun y hy=>by rw [V.dn]; exact b3 y hy⟩
 ·rw [Zkt hk hi,iF (fun z=>by omega)];exact S.z i h
theorem PutS.more {l0 l:Tre} (S:PutS c N l0 l):PutS c (N+1) l0 l:=⟨S.same,fun k i h1 h2 h3=>by obtain ⟨b1,b2,b3⟩:=S.buf k i h1 h2 h3; exact ⟨b1,by omega,b3⟩,S.z⟩
theorem Zky (hc:OkC c) {l0:Tre} (S:PutS c N l0 l) (hN:N<=200) (G:Gro l LO HI) (top:wd l (l.length - 1)=1) (h6:l.length<=6) (wb:∀ k,k<l.length->wd l k<=151) {m:Msg} (hm:Y7 c m.1=true) (most:Int):∀(lev d:Nat),d<=1000->lev<l.length->∃ r,Ev (fun k=>Q155.l0 k l m most (d:Int) ((dn l m.1 (l.length - 1 - lev):Nat):Int) (lev:Int)) r/\PutS c (N+1) l0 r
 | 0,d,hd,hl=>⟨l,⟨1,fun k hk=>by
   obtain ⟨k,rfl⟩:=kS1 k;show Q155.l0 (k+1) l m most (d:Int) _ ((0:Nat):Int)=_;rw [Q155.l0,vS]⟩,S.more⟩
 | lev+1,d,hd,hl=>by
  have hi:=G.dn_lt top m.1 (l.length - 1 - (lev+1)) (by omega);rw [show l.length - 1 - (l.length - 1 - (lev+1))=lev+1 by omega] at hi;have hi2:=hi;unfold wd at hi2;have hw:=wb (lev+1) hl;have hkl:=Zdh hc hm;obtain ⟨b1,b2,b3⟩:=S.buf (lev+1) _ (by omega) hl hi;have kd:=G.kidI hl hi m.1;have nd:=G.nd hl hi;have hs:=G.rise hl hi;have hdn:dn l m.1 (l.length - 1 - lev)=kidI (ndT l (lev+1) (dn l m.1 (l.length - 1 - (lev+1)))) m.1:=by
   rw [show l.length - 1 - lev=(l.length - 1 - (lev+1))+1 by omega,dn,show l.length - 1 - (l.length - 1 - (lev+1))=lev+1 by omega]
  have P:=Zoq S hm (show 0<lev+1 by omega) hl hi;rw [show l.length - 1 - (lev+1)=l.length - 1 - (lev+1) from rfl] at P;have aw:=Gi m.1 hs;obtain ⟨w1,w2,w3,w4⟩:=kd;obtain ⟨nn,enn⟩:∃ nn,nn=ndT l (lev+1) (dn l m.1 (l.length - 1 - (lev+1))):=⟨_,rfl⟩;obtain ⟨a,ea⟩:∃ a,a=dn l m.1 (l.length - 1 - (lev+1)):=⟨_,rfl⟩;rw [<- ea] at enn hi hi2 P;rw [<- ea,<- enn] at b1 b2 b3 hs aw w1 w2 w3 w4 hdn nd;rw [<- enn] at P;have nd2:(l.getD (lev+1) default).getD a default=nn:=enn.symm;by_cases hput:d=0\/lev=0
  ·have fin:∀ k,5000<k->(((Q141.f k nn.2.2.2.1 m)).bind fun r1=>(if (decide ((r1.length:Int)<=most))=true then (some (l.set (lev+1) ((l.getD (lev+1) default).set a (nn.1,nn.2.1,nn.2.2.1,r1,nn.2.2.2.2)))) else (some l)))=some (if ((Xw mk m nn.2.2.2.1).length:Int)<=most then Zat l (lev+1) a (Xw mk m nn.2.2.2.1) else l):=fun k hk=>by
    rw [Zjq ⟨by omega,fun y hy=>by have:=Zdh hc (b3 y hy).1; omega⟩ (by omega) b1 (by omega),bS];by_cases z:((Xw mk m nn.2.2.2.1).length:Int)<=most
    ·rw [iT (dT z),iT z];unfold Zat
     rw [<- enn]
    ·rw [iF (by simpa using z),iF z]
   refine ⟨if ((Xw mk m nn.2.2.2.1).length:Int)<=most then Zat l (lev+1) a (Xw mk m nn.2.2.2.1) else l,⟨5002,fun k hk=>?_⟩,?_⟩
   ·obtain ⟨k,rfl⟩:=kS1 k;show Q155.l0 (k+1) l m most (d:Int) ((dn l m.1 (l.length - 1 - (lev+1)):Nat):Int) ((lev+1:Nat):Int)=_;rw [<- ea,Q155.l0,iP,iO,Zt,iO,Zt,nd2,tN,tN];rcases hput with z | z
    ·rw [iP]; exact fin k (by omega)
    ·by_cases z2:d=0
     ·rw [iP]; exact fin k (by omega)
     ·rw [iN,iP]; exact fin k (by omega)
   ·split
    ·exact P
    ·exact S.more
  ·obtain ⟨r,⟨b0,hb⟩,g⟩:=Zky hc S hN G top h6 wb hm most lev (d - 1) (by omega) (by omega);refine ⟨r,⟨b0+4000,fun k hk=>?_⟩,g⟩;obtain ⟨k,rfl⟩:=kS1 k;have hb':=hb k (by omega);have hf:=nd.fan;have hpl:=nd.pvl;show Q155.l0 (k+1) l m most (d:Int) ((dn l m.1 (l.length - 1 - (lev+1)):Nat):Int) ((lev+1:Nat):Int)=_;rw [<- ea,Q155.l0,iP,iO,Zt,iO,Zt,nd2,iN,iN,Zjl (s:=([],[],true)) ⟨by omega,fun y hy=>by obtain ⟨j,hj,e⟩:=Vz hy []; rw [<- e]; have:=(nd.pv j hj).2.2; omega,by omega,Nat.zero_le _,Nat.zero_le _⟩ aw (by omega),bS,iO,Zt,w3,B2 (x:=((kidI nn m.1+1:Nat):Int)) (by have:=wb lev (by omega); omega) (by have:=wb lev (by omega); omega),show ((kidI nn m.1+1:Nat):Int) - 1=((kidI nn m.1:Nat):Int) by omega,B2 (x:=((kidI nn m.1:Nat):Int)) (by omega) (by have:=wb lev (by omega); omega),wI2 (x:=(d:Int) - 1),wI2 (x:=((lev+1:Nat):Int) - 1),show (d:Int) - 1=((d - 1:Nat):Int) by omega,show ((lev+1:Nat):Int) - 1=(lev:Int) by omega,<- hdn];exact hb'
end
section
variable {c:Cfg} {x:Spc}
theorem Zn5 (hc:OkC c) {ms:List Msg} (h100:ms.length<=100) (hms:∀ m∈ms,Y7 c m.1=true) {deep:T3} (hd:∀ y∈deep,0<=y/\y<256) (most:Int) {l0:Tre} {LO HI:Nat->Nat->List UInt8} (G:Gro l0 LO HI) (top:wd l0 (l0.length - 1)=1) (h6:l0.length<=6) (wb:∀ k,k<l0.length->wd l0 k<=151):∀(m i:Nat) (l:Tre),i+m=ms.length->PutS c i l0 l->∃ r,Ev (fun k=>Q154.l0 k ms deep most l (i:Int)) r/\PutS c ms.length l0 r
 | 0,i,l,hi,S=>⟨l,⟨1,fun k hk=>by
   obtain ⟨k,rfl⟩:=kS1 k;show Q154.l0 (k+1) ms deep most l (i:Int)=_;rw [Q154.l0,iN]⟩,by rw [<- hi]; exact S⟩
 | m+1,i,l,hi,S=>by
  have hne:=G.ne;have hl:=S.same.len;have wd':=S.same.wd;obtain ⟨d,hd1,hd2⟩:∃ d:Nat,d<=1000/\∀ k,Q154.l0 (k+1) ms deep most l (i:Int)=(Q155.f k l (ms.getD i default) (d:Int) most).bind fun r=>Q154.l0 k ms deep most r ((i+1:Nat):Int):=by
   by_cases q:i<deep.length
   ·obtain ⟨y1,y2⟩:=hd _ (Yz (d:=default) q);obtain ⟨y,ey⟩:=Int.eq_ofNat_of_zero_le y1;have:=Nat.mod_lt y (show 0<l.length by omega);refine ⟨y % l.length,by omega,fun k=>?_⟩;rw [Q154.l0,iP,iP,iO,iO,iO,Zt,Zt,ey,wI2 (x:=(y:Int)),wS2];rfl
   ·refine ⟨0,by omega,fun k=>?_⟩;rw [Q154.l0,iP,iN,iO,Zt,wS2];rfl
  obtain ⟨r,⟨b1,e1⟩,S1⟩:=Zky hc S (by omega) (S.same.gro G S.z) (by rw [wd',hl]; exact top) (by omega) (fun k hk=>by rw [wd']; exact wb k (by omega)) (hms _ (Yz (d:=default) (show i<ms.length by omega))) most (l.length - 1) d hd1 (by omega);rw [Nat.sub_self] at e1;obtain ⟨r2,⟨b2,e2⟩,S2⟩:=Zn5 hc h100 hms hd most G top h6 wb m (i+1) r (by omega) S1;refine ⟨r2,⟨b1+b2+1,fun k hk=>?_⟩,S2⟩;obtain ⟨k,rfl⟩:=kS1 k;have e1':=e1 k (by omega);show Q154.l0 (k+1) ms deep most l (i:Int)=_;rw [hd2];unfold Q155.f;rw [wI2,show (l.length:Int) - 1=((l.length - 1:Nat):Int) by omega];rw [show Q155.l0 k l (ms.getD i default) most (d:Int) 0 ((l.length - 1:Nat):Int)=_ from e1',bS];exact e2 k (by omega)
theorem Zs2 (c:Cfg):GoodT c [[(0,[],[],[],[])]]:=by
 refine ⟨⟨fun _ _=>[],fun _ _=>[],by decide,fun i hi=>?_,fun k hk=>?_,fun _ _ _ _=>rfl,fun k i hk hi=>?_⟩,rfl,by decide,⟨List.Pairwise.nil,Nat.zero_le _,fun p hp=>by cases hp⟩,fun k i h1 h2 _=>?_,fun k hk=>?_⟩
 ·obtain rfl:i=0:=by have:i<1:=hi; omega
  exact ⟨rfl,rfl,rfl,rfl,fun p hp=>by cases hp⟩
 ·have:k+1<1:=hk;omega
 ·obtain rfl:k=0:=by have:k<1:=hk; omega
  have:i+1<1:=hi;omega
 ·have:k<1:=h2;omega
 ·obtain rfl:k=0:=by have:k<1:=hk; omega
  decide
theorem Zrs (hc:OkC c) (hd:∀ y∈x.2.2.1,0<=y/\y<256) {out:Tre} {lo hi:TR} (U:UpSt c out lo hi) (t:Int) (b:Bool):∃ q,Ev (fun k=>Q123.l2 k c x (out.getD (out.length - 1) default) lo hi t out b) q/\GoodT c q:=by
 by_cases q:1<(out.getD (out.length - 1) default).length
 ·exact ⟨_,⟨1,fun k hk=>by
   obtain ⟨k,rfl⟩:=kS1 k;show Q123.l2 (k+1) c x _ lo hi t out b=_;rw [Q123.l2,iP]⟩,Zs2 c⟩
 ·obtain ⟨LO,HI,G,_,_⟩:=U.gro;have hne:=G.ne;obtain ⟨ms,⟨b1,e1⟩,m1,m2⟩:=Zs1 c x;have top:wd out (out.length - 1)=1:=by have:=U.w1; unfold wd at this ⊢; omega
  obtain ⟨r,⟨b2,e2⟩,S⟩:=Zn5 hc m1 m2 hd c.2.2.2.2.1 G top U.len U.wb ms.length 0 out (by omega) ⟨SameB.rfl' out,fun k i h1 h2 h3=>by rw [U.buf k i h2 h3]; exact ⟨List.Pairwise.nil,Nat.le_refl _,fun p hp=>by cases hp⟩,fun i hi=>U.buf 0 i hne hi⟩;refine ⟨r,⟨b1+b2+1,fun k hk=>?_⟩,⟨⟨LO,HI,S.same.gro G S.z⟩,by rw [S.same.len,S.same.wd]; exact top,by rw [S.same.len]; exact U.len,?_,fun k i h1 h2 h3=>?_,fun k hk=>by rw [S.same.wd]; rw [S.same.len] at hk; exact U.wb k hk⟩⟩
  ·obtain ⟨k,rfl⟩:=kS1 k;show Q123.l2 (k+1) c x _ lo hi t out b=_;rw [Q123.l2,iN,show Q127.f k c x=_ from e1 k (by omega),bS];unfold Q154.f;rw [show Q154.l0 k ms x.2.2.1 c.2.2.2.2.1 out 0=_ from e2 k (by omega),bS]
  ·unfold Lvs;rw [S.same.flat];exact U.lvs
  ·obtain ⟨g1,g2,g3⟩:=S.buf k i h1 h2 h3;exact ⟨g1,by omega,g3⟩
theorem Zsi (hc:OkC c) (hx:∀ y∈x.2.2.2,0<=y/\y<256) (hd:∀ y∈x.2.2.1,0<=y/\y<256):∀(m:Nat) (out:Tre) (lo hi:TR) (t:Nat),out.length+m=6->UpSt c out lo hi->t<=200*out.length->∃ q,Ev (fun k=>Q123.l3 k c x (out.getD (out.length - 1) default) lo hi (t:Int) out) q/\GoodT c q:=by
 have low:∀(out:Tre) (lo hi:TR) (t:Nat),UpSt c out lo hi->¬ (1<(out.getD (out.length - 1) default).length/\out.length<6)->∃ q,Ev (fun k=>Q123.l3 k c x (out.getD (out.length - 1) default) lo hi (t:Int) out) q/\GoodT c q:=fun out lo hi t U h=>by
  obtain ⟨q,⟨b0,hb⟩,g⟩:=Zrs hc hd U (t:Int) false;refine ⟨q,⟨b0+2,fun k hk=>?_⟩,g⟩;obtain ⟨k,rfl⟩:=kS2 k;show Q123.l3 (k+2) c x _ lo hi (t:Int) out=_;rw [Q123.l3];by_cases z:1<(out.getD (out.length - 1) default).length
  ·rw [iP,dF,Q123.l4,vS];exact hb k (by omega)
  ·rw [iN,Q123.l4,vS];exact hb k (by omega)
 intro m
 induction m with
 | zero=>intro out lo hi t hm U ht; exact low out lo hi t U (by omega)
 | succ m ih=>
  intro out lo hi t hm U ht;by_cases z:1<(out.getD (out.length - 1) default).length
  ·obtain ⟨q,⟨b0,hb⟩,g⟩:=Zrk hc hx U (fun up a b t' U' ht'=>by
    have:=ih (out ++ [up]) a b t' (by simp; omega) U' (by simp; omega)
    rwa [show (out ++ [up]).length - 1=out.length by simp,Yq rfl] at this) z (by omega) (wd out (out.length - 1)) 0 [] [] [] t (by omega) (Nat.zero_le _) ⟨fun i hi=>absurd hi (Nat.not_lt_zero _),rfl,rfl,rfl,fun j hj=>absurd hj (Nat.not_lt_zero _),Nat.le_refl _,fun j hj=>absurd hj (Nat.not_lt_zero _)⟩ (by omega)
   refine ⟨q,⟨b0+2,fun k hk=>?_⟩,g⟩;obtain ⟨k,rfl⟩:=kS2 k;show Q123.l3 (k+2) c x _ lo hi (t:Int) out=_;rw [Q123.l3,iP,dT,Q123.l4,iT rfl];exact hb k (by omega)
  ·exact low out lo hi t U fun h=>z h.1
structure LeafSt (c:Cfg) (l:List Pr) (row:List Nd) (lo hi:TR):Prop where
 lv:LvP c (Ub row ++ l)
 ll:lo.length=row.length
 hl:hi.length=row.length
 bd:row.length+l.length<=151
 nd:∀ i,i<row.length->(row.getD i default).1=0/\(row.getD i default).2.1=[]/\(row.getD i default).2.2.1=[]/\(row.getD i default).2.2.2.1=[]/\∀ p∈(row.getD i default).2.2.2.2,Op.bytesLess p.1 (lo.getD i [])=false/\Op.bytesLess (hi.getD i []) p.1=false
 lh:∀ i,i<row.length->Op.bytesLess (hi.getD i []) (lo.getD i [])=false
 sh:∀ i,(lo.getD i []).length<=200/\(hi.getD i []).length<=200
 inc:∀ i,i+1<row.length->Op.bytesLess (hi.getD i []) (lo.getD (i+1) [])=true
 rest:∀ i,i<row.length->∀ p∈l,Op.bytesLess (hi.getD i []) p.1=true
theorem Zb0 {α:Type} {l:List α} {i:Nat} {d:α} (h:l.length<=i):l.getD i d=d:=by rw [List.getD_eq_getElem?_getD,List.getElem?_eq_none h]; rfl
theorem Zd1 {l:List Pr} {row:List Nd} {lo hi:TR} (L:LeafSt c l row lo hi) {a b:TZ} {u v:List Pr} (e:l=u ++ v) (hb:row.length+1+v.length<=151) (hu:∀ p∈u,Op.bytesLess p.1 a=false/\Op.bytesLess b p.1=false) (hab:Op.bytesLess b a=false) (ha:a.length<=200/\b.length<=200) (hin:∀ i,i<row.length->Op.bytesLess (hi.getD i []) a=true) (hv:∀ p∈v,Op.bytesLess b p.1=true):LeafSt c v (row ++ [(0,[],[],[],u)]) (lo ++ [a]) (hi ++ [b]):=by
 have h1:=L.ll;have h2:=L.hl;have two:∀ i,i<(row ++ [((0,[],[],[],u):Nd)]).length->i<row.length\/i=row.length:=fun i h=>by simp at h; omega
 refine ⟨by unfold Ub; rw [List.flatMap_append]; have:=L.lv; rw [e] at this; simpa [Ub] using this,by simp [h1],by simp [h2],by simp; omega,fun i h=>?_,fun i h=>?_,fun i=>?_,fun i h=>?_,fun i h p hp=>?_⟩
 ·rcases two i h with q | q
  ·rw [Yk q,Yk,Yk]; exact L.nd i q
  ·rw [Yq q,Yq,Yq]; exact ⟨rfl,rfl,rfl,rfl,hu⟩
 ·rcases two i h with q | q
  ·rw [Yk,Yk]; exact L.lh i q
  ·rw [Yq,Yq]; exact hab
 ·by_cases q:i<row.length
  ·rw [Yk,Yk]; exact L.sh i
  ·by_cases q2:i=row.length
   ·rw [Yq,Yq]; exact ha
   ·rw [Zb0 (by simp; omega),Zb0 (by simp; omega)]; exact ⟨Nat.zero_le _,Nat.zero_le _⟩
 ·rcases two (i+1) h with q | q
  ·rw [Yk,Yk]; exact L.inc i q
  ·rw [Yk,Yq]; exact hin i (by omega)
 ·rcases two i h with q | q
  ·rw [Yk]; exact L.rest i q p (by rw [e]; exact List.mem_append.2 (.inr hp))
  ·rw [Yq]; exact hv p hp
theorem Zsd {row:List Nd} {lo hi:TR} (L:LeafSt c [] row lo hi) (hr:row≠[]):UpSt c [row] lo hi:=by
 have hp:1<=row.length:=by cases row with | nil=>exact absurd rfl hr | cons a r=>simp
 have h1:=L.bd;have one:∀ k,k<[row].length->k=0:=fun k h=>by simp at h; omega
 refine ⟨⟨fun _ i=>lo.getD i [],fun _ i=>hi.getD i [],⟨by simp,L.nd,fun k hk=>by simp at hk,fun k i hk h=>?_,fun k i hk h=>?_⟩,rfl,rfl⟩,by simp,L.ll,L.hl,L.sh,hp,fun k hk=>?_,?_,fun k i hk h=>?_⟩
 ·rw [one k hk] at h; exact L.lh i h
 ·rw [one k hk] at h; exact L.inc i h
 ·rw [one k hk]; show row.length<=151; simp at h1; omega
 ·have:=L.lv; rw [List.append_nil] at this; exact this
 ·rw [one k hk] at h ⊢; exact (L.nd i h).2.2.2.1
theorem Zso (hc:OkC c) (hx:∀ y∈x.2.2.2,0<=y/\y<256) (hd:∀ y∈x.2.2.1,0<=y/\y<256):∀(m:Nat) (l:List Pr) (row:List Nd) (lo hi:TR),l.length+(if row=[] then 1 else 0)<=m->LeafSt c l row lo hi->∃ q,Ev (fun k=>Q123.l0 k c x l row lo hi ((row.length:Nat):Int)) q/\GoodT c q:=by
 obtain ⟨F,eF⟩:=Int.eq_ofNat_of_zero_le (show 0<=c.2.2.2.2.2.1 by have:=hc.leaf; have:=hc.buf; omega);have hF:=hc.leaf;have hB:=hc.buf;have stop:∀(row:List Nd) (lo hi:TR),LeafSt c [] row lo hi->row≠[]->∃ q,Ev (fun k=>Q123.l0 k c x [] row lo hi ((row.length:Nat):Int)) q/\GoodT c q:=fun row lo hi L hr=>by
  have h1:=L.bd;have hp:row.length≠0:=fun e=>hr (List.eq_nil_of_length_eq_zero e);obtain ⟨q,⟨b0,hb⟩,g⟩:=Zsi hc hx hd 5 [row] lo hi row.length (by simp) (Zsd L hr) (by simp at h1 ⊢; omega);refine ⟨q,⟨b0+2,fun k hk=>?_⟩,g⟩;obtain ⟨k,rfl⟩:=kS2 k;show Q123.l0 (k+2) c x [] row lo hi _=_;rw [Q123.l0,vS,dF,Q123.l1,vS];exact hb k (by omega)
 intro m
 induction m with
 | zero=>
  intro l row lo hi hm L;have hl:l=[]:=List.eq_nil_of_length_eq_zero (by omega);subst hl;exact stop row lo hi L fun e=>by rw [iT e] at hm; simp at hm
 | succ m ih=>
  intro l row lo hi hm L;have hbd:=L.bd;have h1:=L.ll;have h2:=L.hl;by_cases z:l=[]/\row≠[]
  ·obtain ⟨rfl,z⟩:=z;exact stop row lo hi L z
  ·obtain ⟨r,er,r1,r2⟩:=Zrc hx row.length (m:=F) (by omega) (by omega);obtain ⟨nn,en,n1⟩:∃ nn:Nat,mnI (r:Int) (l.length:Int)=(nn:Int)/\nn=min r l.length:=by
    unfold mnI;by_cases q:(r:Int)<(l.length:Int)
    ·rw [iT q]; exact ⟨r,rfl,by omega⟩
    ·rw [iF q]; exact ⟨l.length,rfl,by omega⟩
   have enter:∀ k,Q123.l0 (k+2) c x l row lo hi ((row.length:Nat):Int)=(if (0:Int)<(nn:Int) then (Q123.l0 k c x (l.drop nn) (row ++ [(0,[],[],[],l.take nn)]) (lo ++ [(l.getD 0 default).1]) (hi ++ [(l.getD (nn - 1) default).1]) ((row.length+1:Nat):Int)) else (Q123.l0 k c x (l.drop nn) (row ++ [(0,[],[],[],l.take nn)]) (lo ++ [[]]) (hi ++ [[]]) ((row.length+1:Nat):Int))):=fun k=>by
    have l1:Q123.l0 (k+2) c x l row lo hi ((row.length:Nat):Int)=Q123.l1 (k+1) c x l row lo hi ((row.length:Nat):Int) true:=by
     rw [Q123.l0];by_cases q:l=[]
     ·have:row=[]:=Classical.byContradiction fun h=>z ⟨q,h⟩;rw [iF (by simp [q]),dT (by simp [this])]
     ·have:l.length≠0:=fun e=>q (List.eq_nil_of_length_eq_zero e);rw [iP]
    rw [l1,Q123.l1,iT rfl,eF,er,bS,en,iO,iV,wS2,tN];by_cases q:0<nn
    ·rw [iP,iO,wI2,iO,iV,iV,iO,iO,show (nn:Int) - 1=((nn - 1:Nat):Int) by omega,Zt];rfl
    ·rw [iN,iV,iV,iO,iQ]
   have go:∀(a b:TZ),(∀ k,Q123.l0 (k+2) c x l row lo hi ((row.length:Nat):Int)=Q123.l0 k c x (l.drop nn) (row ++ [(0,[],[],[],l.take nn)]) (lo ++ [a]) (hi ++ [b]) ((row.length+1:Nat):Int))->LeafSt c (l.drop nn) (row ++ [(0,[],[],[],l.take nn)]) (lo ++ [a]) (hi ++ [b])->∃ q,Ev (fun k=>Q123.l0 k c x l row lo hi ((row.length:Nat):Int)) q/\GoodT c q:=fun a b he L'=>by
    obtain ⟨q,⟨b0,hb⟩,g⟩:=ih _ _ _ _ (by
     rw [vS,length_drop];by_cases q:l=[]
     ·have:row=[]:=Classical.byContradiction fun h=>z ⟨q,h⟩;rw [iT this] at hm;omega
     ·have:l.length≠0:=fun e=>q (List.eq_nil_of_length_eq_zero e);split at hm <;> omega) L'
    refine ⟨q,⟨b0+2,fun k hk=>?_⟩,g⟩;obtain ⟨k,rfl⟩:=kS2 k;have hb':=hb k (by omega);rw [lA] at hb';show Q123.l0 (k+2) c x l row lo hi _=_;rw [he];exact hb'
   by_cases q:0<nn
   ·have hr:RiseK pk l:=(List.pairwise_append.1 L.lv.1).2.1;have hk:∀ p∈l,p.1.length<=200:=fun p hp=>by have:=Zdh hc (L.lv.2.2 p (List.mem_append.2 (.inr hp))); omega
    have le:∀ {i j:Nat},i<=j->j<l.length->Op.bytesLess (l.getD j default).1 (l.getD i default).1=false:=fun {i j} h hj=>by
     by_cases e:i=j
     ·subst e; exact Wv _
     ·exact Xm (RiseK.get pk hr (show i<j by omega) hj default)
    refine go (l.getD 0 default).1 (l.getD (nn - 1) default).1 (fun k=>by rw [enter,iO]) (Zd1 L (List.take_append_drop nn l).symm (by rw [length_drop]; omega) (fun p hp=>?_) (le (by omega) (by omega)) ⟨hk _ (Yz (by omega)),hk _ (Yz (by omega))⟩ (fun i h=>L.rest i h _ (Yz (by omega))) fun p hp=>?_)
    ·obtain ⟨j,hj,e⟩:=Vz hp default;rw [length_take] at hj;rw [Zna (by omega)] at e;rw [<- e];exact ⟨le (Nat.zero_le _) (by omega),le (by omega) (by omega)⟩
    ·obtain ⟨j,hj,e⟩:=Vz hp default;rw [length_drop] at hj;rw [Znj] at e;rw [<- e];exact RiseK.get pk hr (show nn - 1<nn+j by omega) (by omega) default
   ·have hl:l=[]:=List.eq_nil_of_length_eq_zero (by omega);have hr:row=[]:=Classical.byContradiction fun h=>z ⟨hl,h⟩;refine go [] [] (fun k=>by rw [enter,iQ]) (Zd1 L (List.take_append_drop nn l).symm (by rw [hr,hl]; simp) (fun p hp=>by rw [hl] at hp; simp at hp) rfl ⟨Nat.zero_le _,Nat.zero_le _⟩ (fun i h=>by rw [hr] at h; exact absurd h (Nat.not_lt_zero _)) fun p hp=>by rw [hl] at hp; simp at hp)
theorem Zqk (hc:OkC c) (hx:∀ y∈x.2.2.2,0<=y/\y<256) (hd:∀ y∈x.2.2.1,0<=y/\y<256):∃ l,Ev (fun k=>Q123.f k c x) l/\GoodT c l:=by
 obtain ⟨ks,⟨b1,e1⟩,g1⟩:=Zs7 hc x;obtain ⟨l,⟨b2,e2⟩,g2⟩:=Zso hc hx hd (ks.length+1) ks [] [] [] (by simp) ⟨g1,rfl,rfl,by have:=g1.2.1; simp; omega,fun i h=>absurd h (Nat.not_lt_zero _),fun i h=>absurd h (Nat.not_lt_zero _),fun i=>⟨Nat.zero_le _,Nat.zero_le _⟩,fun i h=>absurd h (Nat.not_lt_zero _),fun i h=>absurd h (Nat.not_lt_zero _)⟩;refine ⟨l,⟨b1+b2,fun k hk=>?_⟩,g2⟩;show Q123.f k c x=_;unfold Q123.f;rw [show Q126.f k c x=_ from e1 k (by omega),bS];exact e2 k (by omega)
end
section
variable {c:Cfg} {N B n t q:Nat} {s:Shf} {L:List Nat} {K:Nat->List Int} {h:Nat->Bool} {l:Tre} {BL:Nat->Nat->Nat}
def Xt (l:Tre) (BL:Nat->Nat->Nat) (k i:Nat):Nd:=((ndT l k i).1,(ndT l k i).2.1.map (fun x=>((BL (k - 1) (x.toNat - 1):Nat):Int)),(ndT l k i).2.2.1,(ndT l k i).2.2.2.1,(ndT l k i).2.2.2.2)
structure Spot (c:Cfg) (N:Nat) (K:Nat->List Int) (h:Nat->Bool) (b:Nat) (nd:Nd):Prop where
 b1:1<=b
 bN:b<N
 hb:h b=true
 rt:Yx c W4 nd=true
 kb:K b=Wu c nd
 kd:∀ x∈nd.2.1,0<=x/\x<4294967296
 sm:SmallN nd
theorem Spot.upd {b b':Nat} {nd:Nd} {v:T3} (S:Spot c N K h b nd) (e:b≠b'):Spot c N (upd K b' v) (upd h b' true) b nd:=⟨S.b1,S.bN,by rw [Yj e]; exact S.hb,S.rt,by rw [Yj e]; exact S.kb,S.kd,S.sm⟩
structure RowsB (c:Cfg) (N:Nat) (K:Nat->List Int) (h:Nat->Bool) (l:Tre) (kk:Nat) (BL:Nat->Nat->Nat):Prop where
 sp:∀ k j,k<kk->j<wd l k->Spot c N K h (BL k j) (Xt l BL k j)
 inj:∀ k j k' j',k<kk->j<wd l k->k'<kk->j'<wd l k'->BL k j=BL k' j'->k=k'/\j=j'
structure RowAt (c:Cfg) (N:Nat) (K:Nat->List Int) (h:Nat->Bool) (l:Tre) (kk:Nat) (BL:Nat->Nat->Nat) (nw:List Nat):Prop where
 R:RowsB c N K h l kk BL
 sp:∀ j,j<nw.length->Spot c N K h (nw.getD j 0) (Xt l BL kk j)
 nd:nw.Nodup
 out:∀ b∈nw,∀ k j,k<kk->j<wd l k->BL k j≠b
 held:∀ b,h b=true->b=0\/b∈nw\/∃ k j,k<kk/\j<wd l k/\BL k j=b
abbrev LR:=Int×Bool×Shf
def Zli (c:Cfg) (N B n:Nat) (l:Tre) (R:LR):Prop:=R.2.1=false\/(R.2.1=true/\∃ BL t L K h,t<=1000/\ShK c N B n t R.2.2 L 0 K h/\RowsB c N K h l l.length BL/\R.1=((BL (l.length - 1) 0:Nat):Int)/\∀ b,h b=true->b=0\/∃ k j,k<l.length/\j<wd l k/\BL k j=b)
abbrev LD0 (k:Nat) (l:Tre) (s:Shf) (at':List Int) (kk:Int):Option LR:=Q122.l0 k l s.1 s.2.1.1 s.2.1.2.2.2.2 s.2.2.1 s.2.1.2.1 s.2.1.2.2.1 s.2.1.2.2.2.1 s.2.2.2 at' kk
abbrev LD1 (k:Nat) (l:Tre) (at':List Int) (kk:Int) (s:Shf) (nw:T3) (i:Int):Option LR:=Q122.l1 k l at' kk s.1 s.2.1.1 s.2.1.2.2.2.2 s.2.2.1 s.2.1.2.1 s.2.1.2.2.1 s.2.1.2.2.2.1 s.2.2.2 nw i
abbrev LD2 (k:Nat) (l:Tre) (at':List Int) (kk:Int) (s:Shf) (nw:T3) (i:Int) (own:T3) (j:Int) (b:Bool):Option LR:=Q122.l2 k l at' kk s.1 s.2.1.1 s.2.1.2.2.2.2 s.2.2.1 s.2.1.2.1 s.2.1.2.2.1 s.2.1.2.2.2.1 s.2.2.2 nw i own j b
abbrev LD3 (k:Nat) (l:Tre) (at':List Int) (kk:Int) (s:Shf) (nw:T3) (i:Int) (own:T3) (j:Int):Option LR:=Q122.l3 k l at' kk s.1 s.2.1.1 s.2.1.2.2.2.2 s.2.2.1 s.2.1.2.1 s.2.1.2.2.1 s.2.1.2.2.2.1 s.2.2.2 nw i own j
def Wa (BL:Nat->Nat->Nat) (k w:Nat):List Int:=(List.range w).map fun j=>((BL k j:Nat):Int)
theorem B4 {BL:Nat->Nat->Nat} {k w j:Nat} (h:j<w):(Wa BL k w).getD j default=((BL k j:Nat):Int):=by
 unfold Wa;rw [List.getD_eq_getElem?_getD,List.getElem?_map,List.getElem?_range h]; rfl
theorem Zm6 {LO HI:Nat->Nat->List UInt8} (G:Gro l LO HI) {k i:Nat} (hk:k<l.length) (hi:i<wd l k) (j:Nat) (hj:j<(ndT l k i).2.1.length):∃ y:Nat,(ndT l k i).2.1.getD j default=((y+1:Nat):Int)/\1<=k/\y<wd l (k - 1):=by
 cases k with
 | zero=>rw [(G.leaf i hi).2.1] at hj; exact absurd hj (Nat.not_lt_zero _)
 | succ k=>
  have nd:=G.nd hk hi;have hs:=Y9 (row:=l.getD (k+1) default) hi;have hm:=Wi (row:=l.getD (k+1) default) (i:=i+1) (j:=wd l (k+1)) hi (Nat.le_refl _);rw [(G.row k hk).2.1,hs] at hm;have hm':stR (l.getD (k+1) default) i+(ndT l (k+1) i).2.1.length<=wd l k:=hm;exact ⟨stR (l.getD (k+1) default) i+j,by rw [nd.kid,List.getD_eq_getElem?_getD,List.getElem?_map,List.getElem?_range hj]; rfl,by omega,by show _<wd l k; omega⟩
theorem Zp9 {row:List Nd} {i:Nat} (h:i<row.length):∃ a b,Ub row=a ++ ((row.getD i default).2.2.2.2 ++ b):=by
 refine ⟨Ub (row.take i),Ub (row.drop (i+1)),?_⟩;have e:row=row.take i ++ row.getD i default :: row.drop (i+1):=by rw [<- Z9 h,List.take_append_drop]
 conv=>lhs; rw [e]
 unfold Ub;rw [List.flatMap_append,List.flatMap_cons]
theorem Zsu (hc:OkC c) (T:GoodT c l) {LO HI:Nat->Nat->List UInt8} (G:Gro l LO HI) {k i:Nat} (hk:k<l.length) (hi:i<wd l k) (BL:Nat->Nat->Nat):SmallN (Xt l BL k i):=by
 cases k with
 | zero=>
  obtain ⟨_,g2,g3,g4,_⟩:=G.leaf i hi;obtain ⟨a,b,e⟩:=Zp9 hi;have hl:=T.lvs.2.1;rw [e,lA,lA] at hl;refine ⟨by unfold Xt; rw [g2]; exact Nat.zero_le _,by unfold Xt; rw [g3]; exact Nat.zero_le _,by unfold Xt; rw [g4]; exact Nat.zero_le _,by show (ndT l 0 i).2.2.2.2.length<=150; unfold ndT; omega,fun p hp=>?_,fun p hp=>?_,fun p hp=>?_⟩
  ·unfold Xt at hp; rw [g3] at hp; cases hp
  ·unfold Xt at hp; rw [g4] at hp; cases hp
  ·have:=Zdh hc (T.lvs.2.2 p (by rw [e]; exact List.mem_append.2 (.inr (List.mem_append.2 (.inl hp)))));omega
 | succ k=>
  have nd:=G.nd hk hi;have hf:=nd.fan;have hp:=nd.pvl;obtain ⟨b1,b2,b3⟩:=T.buf (k+1) i (by omega) hk hi;refine ⟨by unfold Xt; rw [length_map]; omega,by show (ndT l (k+1) i).2.2.1.length<=80; omega,by show (ndT l (k+1) i).2.2.2.1.length<=150; omega,by show (ndT l (k+1) i).2.2.2.2.length<=150; rw [nd.prs]; exact Nat.zero_le _,fun p hp=>?_,fun p hp=>?_,fun p hp=>?_⟩
  ·obtain ⟨j,hj,e⟩:=Vz hp [];rw [<- e];exact (nd.pv j hj).2.2
  ·have:=Zdh hc (b3 p hp).1;omega
  ·have hp':p∈(ndT l (k+1) i).2.2.2.2:=hp;rw [nd.prs] at hp'; cases hp'
theorem Zkp (T:GoodT c l) {LO HI:Nat->Nat->List UInt8} (G:Gro l LO HI) {kk i:Nat} (hk:kk<l.length) (hi:i<wd l kk) {at':List Int} (hat:1<=kk->at'=Wa BL (kk - 1) (wd l (kk - 1))) (s:Shf) (nw:T3):∀(m j:Nat) (own:T3),j+m=(ndT l kk i).2.1.length->own=((ndT l kk i).2.1.take j).map (fun x=>((BL (kk - 1) (x.toNat - 1):Nat):Int))->∀ k,LD3 (k+m+1) l at' (kk:Int) s nw (i:Int) own (j:Int)=LD2 k l at' (kk:Int) s nw (i:Int) ((ndT l kk i).2.1.map fun x=>((BL (kk - 1) (x.toNat - 1):Nat):Int)) (((ndT l kk i).2.1.length:Nat):Int) false
 | 0,j,own,hj,ho,k=>by
  have e:gt (gt l (kk:Int)) (i:Int)=ndT l kk i:=by rw [Zt,Zt]; rfl
  have hj':j=(ndT l kk i).2.1.length:=by omega
  subst hj';rw [List.take_length] at ho;subst ho;show Q122.l3 (k+1) l at' _ _ _ _ _ _ _ _ _ _ _ _ _=_;rw [Q122.l3,e,vS,dF]
 | m+1,j,own,hj,ho,k=>by
  have e:gt (gt l (kk:Int)) (i:Int)=ndT l kk i:=by rw [Zt,Zt]; rfl
  obtain ⟨y,ey,y1,y2⟩:=Zm6 G hk hi j (by omega);have hw:=T.wb (kk - 1) (by omega);have ha:=hat y1;have ol:own.length=j:=by rw [ho,length_map,length_take]; omega
  have hl:(ndT l kk i).2.1.length<=64:=by
   obtain ⟨z,rfl⟩:∃ z,kk=z+1:=⟨kk - 1,by omega⟩;exact (G.nd hk hi).fan
  have ih:=Zkp T G hk hi hat s nw m (j+1) (own ++ [((BL (kk - 1) y:Nat):Int)]) (by omega) (by
   rw [Zot (show j<(ndT l kk i).2.1.length by omega),List.map_append,<- ho,ey];rfl) k
  show Q122.l3 ((k+m+1)+1) l at' _ _ _ _ _ _ _ _ _ _ _ _ _=_;rw [Q122.l3,e,iP,iO,Zt,ey,show ((y+1:Nat):Int) - 1=(y:Int) by omega,Zle (by omega),iT (by rw [ha]; unfold Wa; rw [length_map,length_range]; omega),Zt,show at'.getD y default=((BL (kk - 1) y:Nat):Int) by rw [ha,B4 y2],iT (by rw [ol]; simp; omega),wS2];exact ih
theorem RowAt.done {kk:Nat} {nw:List Nat} (S:RowAt c N K h l kk BL nw) (hl:nw.length=wd l kk) {LO HI:Nat->Nat->List UInt8} (G:Gro l LO HI) (hk:kk<l.length):RowsB c N K h l (kk+1) (upd BL kk fun j=>nw.getD j 0):=by
 have old:∀ k,k<kk->upd BL kk (fun j=>nw.getD j 0) k=BL k:=fun k h=>Yj;refine ⟨fun k j hk' hj=>?_,fun k j k' j' hk1 hj hk2 hj' e=>?_⟩
 ·by_cases e:k<kk
  ·have:=S.R.sp k j e hj;unfold Xt at this ⊢;rw [old k e,old (k - 1) (by omega)];exact this
  ·have e2:k=kk:=by omega
   subst e2;have:=S.sp j (by omega);rw [Z8];unfold Xt at this ⊢;cases k with
   | zero=>rw [(G.leaf j hj).2.1] at this ⊢; exact this
   | succ k=>rw [old (k+1 - 1) (by omega)]; exact this
 ·by_cases e1:k<kk
  ·rw [old k e1] at e;by_cases e2:k'<kk
   ·rw [old k' e2] at e; exact S.R.inj k j k' j' e1 hj e2 hj' e
   ·have e3:k'=kk:=by omega
    subst e3;rw [Z8] at e;exact absurd e (S.out _ (Yz (by omega)) k j e1 hj)
  ·have e3:k=kk:=by omega
   subst e3;rw [Z8] at e;by_cases e2:k'<k
   ·rw [old k' e2] at e;exact absurd e.symm (S.out _ (Yz (by omega)) k' j' e2 hj')
   ·have e4:k'=k:=by omega
    subst e4;rw [Z8] at e;refine ⟨rfl,?_⟩;rw [Y0 (by omega),Y0 (by omega)] at e;exact (List.getElem_inj S.nd).1 e
theorem Zqx (g:Geo c N B n) (T:GoodT c l) {LO HI:Nat->Nat->List UInt8} (G:Gro l LO HI) {kk:Nat} (hk:kk<l.length) {at':List Int} (hat:1<=kk->at'=Wa BL (kk - 1) (wd l (kk - 1)))
  (H:∀(s:Shf) (L:List Nat) (t:Nat) (K:Nat->List Int) (h:Nat->Bool) (BL:Nat->Nat->Nat),ShK c N B n t s L 0 K h->t<=151*(kk+1)->RowsB c N K h l (kk+1) BL->(∀ b,h b=true->b=0\/∃ k j,k<kk+1/\j<wd l k/\BL k j=b)->∃ R,Ev (fun k=>LD0 k l s (Wa BL kk (wd l kk)) ((kk+1:Nat):Int)) R/\Zli c N B n l R) :
  ∀(m:Nat) (nw:List Nat) (s:Shf) (L:List Nat) (t:Nat) (K:Nat->List Int) (h:Nat->Bool),nw.length+m=wd l kk->ShK c N B n t s L 0 K h->t<=151*kk+nw.length->RowAt c N K h l kk BL nw->∃ R,Ev (fun k=>LD1 k l at' (kk:Int) s (nw.map fun(b:Nat)=>(b:Int)) ((nw.length:Nat):Int)) R/\Zli c N B n l R:=by
 have hok:=Gc g.ok;have hw:=T.wb kk hk;have h6:=T.len;intro m
 induction m with
 | zero=>
  intro nw s L t K h hm S ht P;have e:nw.map (fun(b:Nat)=>(b:Int))=Wa (upd BL kk fun j=>nw.getD j 0) kk (wd l kk):=by
   unfold Wa;refine List.ext_getElem? fun j=>?_;rw [List.getElem?_map,List.getElem?_map];by_cases q:j<nw.length
   ·rw [List.getElem?_range (by omega),List.getElem?_eq_getElem q,Z8];show some _=some (((nw.getD j 0:Nat)):Int);rw [Y0 q]
   ·rw [List.getElem?_eq_none (by omega),List.getElem?_eq_none (by rw [length_range]; omega)]; rfl
  obtain ⟨R,⟨b0,hb⟩,r⟩:=H s L t K h (upd BL kk fun j=>nw.getD j 0) S (by omega) (P.done (by omega) G hk) fun b hb=>by
   rcases P.held b hb with z | z | ⟨k,j,z1,z2,z3⟩
   ·exact .inl z
   ·obtain ⟨j,hj,ej⟩:=Vz z 0;exact .inr ⟨kk,j,by omega,by omega,by rw [Z8]; exact ej⟩
   ·exact .inr ⟨k,j,by omega,z2,by rw [Yj]; exact z3⟩
  refine ⟨R,⟨b0+1,fun k hk2=>?_⟩,r⟩;obtain ⟨k,rfl⟩:=kS1 k;have hb':=hb k (by omega);show Q122.l1 (k+1) l at' _ _ _ _ _ _ _ _ _ _ _=_;rw [Q122.l1,iO,Zt,iF (by unfold wd at hm; simp only [dE]; omega),wS2,e];exact hb'
 | succ m ih=>
  intro nw s L t K h hm S ht P;have hi:nw.length<wd l kk:=by omega
  have sm:=Zsu hok T G hk hi BL;have kd:∀ x∈(Xt l BL kk nw.length).2.1,0<=x/\x<4294967296:=fun x hx=>by
   obtain ⟨z,hz,rfl⟩:=List.mem_map.1 hx;obtain ⟨j,hj,e⟩:=Vz hz default;obtain ⟨y,ey,y1,y2⟩:=Zm6 G hk hi j hj;rw [<- e,ey,show ((y+1:Nat):Int).toNat - 1=y by omega];have:=(P.R.sp (kk - 1) y (by omega) y2).bN;have:=g.N5;omega
  have l3:=Zkp T G hk hi hat s (nw.map fun(b:Nat)=>(b:Int)) (ndT l kk nw.length).2.1.length 0 [] (by omega) rfl;have hi2:=hi;unfold wd at hi2;have enter:∀(r:Int×Int×Shf),Ev (fun k=>Q81.f k s (Xt l BL kk nw.length)) r->∀ R,Ev (fun k=>if (!decide (r.2.1=0))=true then some (0,false,r.2.2) else LD1 k l at' (kk:Int) r.2.2 (nw.map (fun(b:Nat)=>(b:Int)) ++ [r.1]) ((nw.length+1:Nat):Int)) R->Ev (fun k=>LD1 k l at' (kk:Int) s (nw.map fun(b:Nat)=>(b:Int)) ((nw.length:Nat):Int)) R:=fun r hr R hR=>by
   obtain ⟨b1,e1⟩:=hr;obtain ⟨b2,e2⟩:=hR;refine ⟨b1+b2+(ndT l kk nw.length).2.1.length+3,fun k hk2=>?_⟩;obtain ⟨k,rfl⟩:∃ k2,k=k2+1+(ndT l kk nw.length).2.1.length+1+1:=⟨k - 3 - (ndT l kk nw.length).2.1.length,by omega⟩;have hl3:=l3 (k+1);have e:gt (gt l (kk:Int)) ((nw.length:Nat):Int)=ndT l kk nw.length:=by rw [Zt,Zt]; rfl
   show Q122.l1 ((k+1+(ndT l kk nw.length).2.1.length+1)+1) l at' _ _ _ _ _ _ _ _ _ _ _=_;rw [Q122.l1,iO,Zt,iP,iO];refine hl3.trans ?_;show Q122.l2 (k+1) l at' _ _ _ _ _ _ _ _ _ _ _ _ _ _=_;rw [Q122.l2,e];show Option.bind (Q81.f k s (Xt l BL kk nw.length)) _=_;rw [show Q81.f k s (Xt l BL kk nw.length)=_ from e1 k (by omega),bS];have e2':=e2 k (by omega);dsimp only at e2';by_cases q0:(!decide (r.2.1=0))=true
   ·rw [iT q0] at e2' ⊢; exact e2'
   ·rw [iF q0] at e2' ⊢;rw [iV,wS2];exact e2'
  rcases Zsw g S (by omega) (.of sm kd) with ⟨_,hm1⟩ | ⟨_,_,hm1⟩ | ⟨hr,b,s',L',b1,bN,bf,_,hm1,S',_⟩
  ·exact ⟨_,enter _ hm1 _ ⟨0,fun k _=>iU⟩,.inl rfl⟩
  ·exact ⟨_,enter _ hm1 _ ⟨0,fun k _=>iU⟩,.inl rfl⟩
  ·have ne:∀ x,h x=true->x≠b:=fun x hx e=>by rw [e,bf] at hx; cases hx
   have P':RowAt c N (upd K b (Wu c (Xt l BL kk nw.length))) (upd h b true) l kk BL (nw ++ [b]):=by
    refine ⟨⟨fun k j z1 z2=>(P.R.sp k j z1 z2).upd (ne _ (P.R.sp k j z1 z2).hb),P.R.inj⟩,fun j hj=>?_,?_,fun y hy k j z1 z2=>?_,fun y hy=>?_⟩
    ·rw [lA] at hj;by_cases q:j<nw.length
     ·rw [Yk q]; exact (P.sp j q).upd (ne _ (P.sp j q).hb)
     ·have ej:j=nw.length:=by simp at hj; omega
      rw [Yq ej,ej];exact ⟨b1,bN,Z8 _ _ _,hr,Z8 _ _ _,kd,sm⟩
    ·rw [List.nodup_append];refine ⟨P.nd,by simp,fun y hy z hz=>?_⟩;rw [List.mem_singleton.1 hz];obtain ⟨j,hj,ej⟩:=Vz hy 0;have:=ne _ (P.sp j hj).hb
     rwa [ej] at this
    ·rcases List.mem_append.1 hy with z | z
     ·exact P.out y z k j z1 z2
     ·rw [List.mem_singleton.1 z]; exact ne _ (P.R.sp k j z1 z2).hb
    ·by_cases q:y=b
     ·exact .inr (.inl (by rw [q]; simp))
     ·rw [Yj q] at hy;rcases P.held y hy with z | z | z
      ·exact .inl z
      ·exact .inr (.inl (List.mem_append.2 (.inl z)))
      ·exact .inr (.inr z)
   obtain ⟨R,hR,r⟩:=ih (nw ++ [b]) s' L' (t+1) _ _ (by simp; omega) S' (by simp; omega) P';refine ⟨R,enter _ hm1 R ?_,r⟩;obtain ⟨b0,hb⟩:=hR;refine ⟨b0,fun k hk2=>?_⟩;have hb':=hb k hk2;rw [List.map_append,lA] at hb';show (if (!decide ((0:Int)=0))=true then _ else _)=_
   rw [vS];exact hb'
theorem Zq7 (g:Geo c N B n) (T:GoodT c l) {LO HI:Nat->Nat->List UInt8} (G:Gro l LO HI):∀(m kk:Nat) (s:Shf) (L:List Nat) (t:Nat) (K:Nat->List Int) (h:Nat->Bool) (BL:Nat->Nat->Nat) (at':List Int),kk+m=l.length->ShK c N B n t s L 0 K h->t<=151*kk->RowsB c N K h l kk BL->(∀ b,h b=true->b=0\/∃ k j,k<kk/\j<wd l k/\BL k j=b)->(1<=kk->at'=Wa BL (kk - 1) (wd l (kk - 1)))->∃ R,Ev (fun k=>LD0 k l s at' (kk:Int)) R/\Zli c N B n l R:=by
 have hne:=G.ne;have h6:=T.len;intro m
 induction m with
 | zero=>
  intro kk s L t K h BL at' hm S ht P hh hat
  have ek:kk=l.length:=by omega
  subst ek;have ha:=hat hne;have top:=T.top;have hl:at'.length=1:=by rw [ha]; unfold Wa; rw [length_map,length_range,top]
  refine ⟨(((BL (l.length - 1) 0:Nat):Int),true,s),⟨1,fun k hk=>?_⟩,.inr ⟨rfl,BL,t,L,K,h,by omega,S,P,rfl,hh⟩⟩;obtain ⟨k,rfl⟩:=kS1 k;show Q122.l0 (k+1) l _ _ _ _ _ _ _ _ at' _=_;rw [Q122.l0,vS,iO,show gt at' 0=at'.getD 0 default from Zt at' 0,ha,B4 (by omega)]
 | succ m ih=>
  intro kk s L t K h BL at' hm S ht P hh hat
  obtain ⟨R,⟨b0,hb⟩,r⟩:=Zqx g T G (kk:=kk) (by omega) hat (fun s L t K h BL' S' ht' P' hh'=>ih (kk+1) s L t K h BL' _ (by omega) S' ht' P' hh' fun _=>rfl) (wd l kk) [] s L t K h (by simp) S (by simpa using ht) ⟨P,fun j hj=>absurd hj (Nat.not_lt_zero _),List.nodup_nil,fun b hb=>by simp at hb,fun b hb=>by
   rcases hh b hb with z | z
   ·exact .inl z
   ·exact .inr (.inr z)⟩
  refine ⟨R,⟨b0+1,fun k hk=>?_⟩,r⟩;obtain ⟨k,rfl⟩:=kS1 k;show Q122.l0 (k+1) l _ _ _ _ _ _ _ _ at' _=_;rw [Q122.l0,iP];exact hb k (by omega)
end
theorem Zm4 (c:Cfg) {k:Nat} (hk:2000<k):Q121.f k c=some (okB c && (decide (c.2.1<=3000) && decide (c.1<=400))):=by
 unfold Q121.f;rw [Zm5 c hk,bS];cases okB c with
 | false=>rw [iF (by decide)]; rfl
 | true=>
  rw [iT rfl];by_cases q:c.2.1<=3000
  ·rw [iT (dT q),dT q]; rfl
  ·rw [iF (by simpa using q),dF q]; rfl
theorem Zs0 {c:Cfg} (h:(okB c && (decide (c.2.1<=3000) && decide (c.1<=400)))=true):∃ N B n:Nat,Geo c N B n/\N<=400/\B<=3000:=by
 simp only [Bool.and_eq_true,dE] at h;obtain ⟨hok,h1,h2⟩:=h;have hc:=hok;unfold okB at hc;simp only [Bool.and_eq_true,dE] at hc;obtain ⟨_,hN,hn,hB,_⟩:=hc;obtain ⟨N,eN⟩:=Int.eq_ofNat_of_zero_le (show 0<=c.1 by omega);obtain ⟨B,eB⟩:=Int.eq_ofNat_of_zero_le (show 0<=c.2.1 by omega);obtain ⟨n,en⟩:=Int.eq_ofNat_of_zero_le (show 0<=c.2.2.1 by omega);have hNB:N*B<=400*3000:=Nat.mul_le_mul (by omega) (by omega);exact ⟨N,B,n,⟨hok,⟨by omega,by omega,by omega,by omega,by omega⟩,by omega,by omega,by omega,eN,eB,en⟩,by omega,by omega⟩
abbrev SR:=Option Shf×Int×Tre×Bool
structure StdI (c:Cfg) (s:Shf) (root:Int) (l:Tre) (N B n t:Nat) (L:List Nat) (K:Nat->List Int) (h:Nat->Bool) (BL:Nat->Nat->Nat):Prop where
 g:Geo c N B n
 N4:N<=400
 T:GoodT c l
 t1:t<=1000
 S:ShK c N B n t s L 0 K h
 P:RowsB c N K h l l.length BL
 rt:root=((BL (l.length - 1) 0:Nat):Int)
 held:∀ b,h b=true->b=0\/∃ k j,k<l.length/\j<wd l k/\BL k j=b
def Za6 (c:Cfg) (R:SR):Prop:=R.2.2.2=false\/(R.2.2.2=true/\∃ s N B n t L K h BL,R.1=some s/\StdI c s R.2.1 R.2.2.1 N B n t L K h BL)
section
variable {c:Cfg} {N B n:Nat} {x:Spc}
theorem Ziw (g:Geo c N B n) (hN:N<=400) (hx:∀ y∈x.2.2.2,0<=y/\y<256) (hd:∀ y∈x.2.2.1,0<=y/\y<256) {ch:Chn} (hc:ChI n ch []):∀(m j:Nat),j+m=n->∃ R,Ev (fun k=>Q124.l2 k c x ((B:Int),List.replicate (N*B) 0,(0,0)) ch ((List.range j).map fun(i:Nat)=>(i:Int)) (j:Int)) R/\Za6 c R
 | 0,j,hj=>by
  have e:j=n:=by omega
  subst e;have h64:=g.z.h64;obtain ⟨p,ep,bp⟩:=Zo4 g.N5.1 g.N5.2;obtain ⟨l,⟨b1,e1⟩,T⟩:=Zqk (Gc g.ok) hx hd;obtain ⟨LO,HI,G⟩:=T.gro;have hne:=G.ne;obtain ⟨R,⟨b2,e2⟩,r⟩:=Zq7 g T G l.length 0 (Zev c N B j ch p) [] 0 _ _ (fun _ _=>0) [] (by omega) (Ztw g hc bp) (by omega) ⟨fun k j h=>absurd h (Nat.not_lt_zero _),fun k j _ _ h=>absurd h (Nat.not_lt_zero _)⟩ (fun b hb=>by
   by_cases q:b=0
   ·exact .inl q
   ·rw [Yj q] at hb; cases hb) (fun h=>by omega)
  have eb:=J1 (s:=(0,0)) (N:=N) (n:=B) g.z.hB (img:=List.replicate (N*B) 0) (by simp) g.z.hNB;refine ⟨(some R.2.2,R.1,l,R.2.1),⟨b1+b2+1,fun k hk=>?_⟩,?_⟩
  ·obtain ⟨k,rfl⟩:=kS1 k;have e2':=e2 k (by omega);show Q124.l2 (k+1) c x _ _ _ _=_;rw [Q124.l2,g.en,vS,eb,bS,g.eN,vS,Q51.f,bS,g.eB,vS,ep,bS];dsimp only [Vr];rw [iU,show Q123.f k c x=_ from e1 k (by omega),bS,tN];have e3:Q122.f k (c,(((B:Int),List.replicate (N*B) 0,(0,0)),List.replicate j (0,[],false,0),[],(List.range j).map (fun(i:Nat)=>(i:Int)),ch),p,0) l=some R:=e2';rw [e3,bS]
  ·rcases r with q | ⟨q,BL,t,L,K,h,t1,S,P,rt,hh⟩
   ·exact .inl q
   ·exact .inr ⟨q,R.2.2,N,B,j,t,L,K,h,BL,rfl,g,hN,T,t1,S,P,rt,hh⟩
 | m+1,j,hj=>by
  have h64:=g.z.h64;obtain ⟨R,⟨k0,hk⟩,r⟩:=Ziw g hN hx hd hc m (j+1) (by omega);refine ⟨R,⟨k0+1,fun k hk2=>?_⟩,r⟩;obtain ⟨k,rfl⟩:=kS1 k;have hx:=hk k (by omega);show Q124.l2 (k+1) c x _ _ _ _=_;rw [Q124.l2,g.en,iP,iV,wS2];dsimp only at hx;rw [List.range_succ,List.map_append] at hx;exact hx
theorem Zon (g:Geo c N B n) (hN:N<=400) (hB:B<=3000) (hx:∀ y∈x.2.2.2,0<=y/\y<256) (hd:∀ y∈x.2.2.1,0<=y/\y<256):∃ R,(∀(a:Int) (b:Bool),Ev (fun k=>Q124.l1 k c x a b) R)/\Za6 c R:=by
 obtain ⟨ch,ec,hch⟩:=Ztu (n:=n) g.z.hn g.z.h64;obtain ⟨R,⟨k0,hk⟩,r⟩:=Ziw g hN hx hd hch n 0 (by omega);have eb:=J1 (s:=(0,0)) (N:=N) (n:=B) g.z.hB (img:=List.replicate (N*B) 0) (by simp) g.z.hNB;have h5:=g.N5;have h8:=g.n8;have h64:=g.z.h64;refine ⟨R,fun a b=>⟨k0+1,fun k hk2=>?_⟩,r⟩;obtain ⟨k,rfl⟩:=kS1 k;have hx:=hk k (by omega);show Q124.l1 (k+1) c x a b=_;rw [Q124.l1,g.eN,g.eB,Zrr ⟨g.N5.1,g.N5.2,g.z.hB,g.hB⟩,bS];dsimp only [Vr];rw [iU,show Q45.f c=_ from Zej c,iT g.ok,bS,vS,eb,bS,iN,g.en,iN,iN,ec,bS];dsimp only [Vr];rw [iU,iO];exact hx
theorem Zop {R:SR} (r:Za6 c R) (hR:∀(a:Int) (b:Bool),Ev (fun k=>Q124.l1 k c x a b) R):∀(m i:Nat),i+m=100->∃ R,Ev (fun k=>Q124.l3 k c x (i:Int)) R/\Za6 c R:=by
 have stop:∀ i:Nat,¬ (i<x.2.1.length/\i<100)->∃ R,Ev (fun k=>Q124.l3 k c x (i:Int)) R/\Za6 c R:=fun i h=>by
  obtain ⟨b0,hb⟩:=hR (i:Int) false;refine ⟨R,⟨b0+2,fun k hk=>?_⟩,r⟩;obtain ⟨k,rfl⟩:=kS2 k;show Q124.l3 (k+2) c x (i:Int)=_;rw [Q124.l3];by_cases q:i<x.2.1.length
  ·rw [iP,dF,Q124.l4,vS]; exact hb k (by omega)
  ·rw [iN,Q124.l4,vS]; exact hb k (by omega)
 intro m
 induction m with
 | zero=>intro i hi; exact stop i (by omega)
 | succ m ih=>
  intro i hi;by_cases q:i<x.2.1.length
  ·have step:∀ k,Q124.l3 (k+2) c x (i:Int)=if decide (200<((x.2.1.getD i default).1.length:Int))=true then some (none,0,[],false) else Q124.l3 k c x ((i+1:Nat):Int):=fun k=>by
    rw [Q124.l3,iP,dT,Q124.l4,iT rfl,iO,Zt,wS2]
   by_cases z:200<((x.2.1.getD i default).1.length:Int)
   ·refine ⟨(none,0,[],false),⟨2,fun k hk=>?_⟩,.inl rfl⟩;obtain ⟨k,rfl⟩:=kS2 k;show Q124.l3 (k+2) c x (i:Int)=_;rw [step,iT (dT z)]
   ·obtain ⟨R',⟨b0,hb⟩,r'⟩:=ih (i+1) (by omega);refine ⟨R',⟨b0+2,fun k hk=>?_⟩,r'⟩;obtain ⟨k,rfl⟩:=kS2 k;show Q124.l3 (k+2) c x (i:Int)=_;rw [step,iF (by simpa using z)];exact hb k (by omega)
  ·exact stop i (by omega)
theorem Zod {R:SR} (r:Za6 c R) (hR:Ev (fun k=>Q124.l3 k c x 0) R):∀(m i:Nat),i+m=150->∃ R,Ev (fun k=>Q124.l5 k c x (i:Int)) R/\Za6 c R:=by
 have stop:∀ i:Nat,¬ (i<x.1.length/\i<150)->∃ R,Ev (fun k=>Q124.l5 k c x (i:Int)) R/\Za6 c R:=fun i h=>by
  obtain ⟨b0,hb⟩:=hR;refine ⟨R,⟨b0+3,fun k hk=>?_⟩,r⟩;obtain ⟨k,rfl⟩:=kS3 k;show Q124.l5 (k+3) c x (i:Int)=_;rw [Q124.l5];by_cases q:i<x.1.length
  ·rw [iP,dF,Q124.l6,vS,Q124.l0]; exact hb k (by omega)
  ·rw [iN,Q124.l6,vS,Q124.l0]; exact hb k (by omega)
 intro m
 induction m with
 | zero=>intro i hi; exact stop i (by omega)
 | succ m ih=>
  intro i hi;by_cases q:i<x.1.length
  ·have step:∀ k,Q124.l5 (k+2) c x (i:Int)=if decide (200<((x.1.getD i default).1.length:Int))=true then some (none,0,[],false) else Q124.l5 k c x ((i+1:Nat):Int):=fun k=>by
    rw [Q124.l5,iP,dT,Q124.l6,iT rfl,iO,Zt,wS2]
   by_cases z:200<((x.1.getD i default).1.length:Int)
   ·refine ⟨(none,0,[],false),⟨2,fun k hk=>?_⟩,.inl rfl⟩;obtain ⟨k,rfl⟩:=kS2 k;show Q124.l5 (k+2) c x (i:Int)=_;rw [step,iT (dT z)]
   ·obtain ⟨R',⟨b0,hb⟩,r'⟩:=ih (i+1) (by omega);refine ⟨R',⟨b0+2,fun k hk=>?_⟩,r'⟩;obtain ⟨k,rfl⟩:=kS2 k;show Q124.l5 (k+2) c x (i:Int)=_;rw [step,iF (by simpa using z)];exact hb k (by omega)
  ·exact stop i (by omega)
theorem Zsp (hx:∀ y∈x.2.2.2,0<=y/\y<256) (hd:∀ y∈x.2.2.1,0<=y/\y<256):∃ R,Ev (fun k=>Q124.f k c x) R/\Za6 c R:=by
 by_cases light:(okB c && (decide (c.2.1<=3000) && decide (c.1<=400)))=true
 ·obtain ⟨N,B,n,g,hN,hB⟩:=Zs0 light;obtain ⟨R,hR,r⟩:=Zon g hN hB hx hd;obtain ⟨R,hR,r⟩:=Zop r hR 100 0 (by omega);obtain ⟨R,⟨b0,hb⟩,r⟩:=Zod r hR 150 0 (by omega);refine ⟨R,⟨b0+3000,fun k hk=>?_⟩,r⟩;show Q124.f k c x=_;unfold Q124.f;rw [Zm4 c (by omega),light,bS,vS];exact hb k (by omega)
 ·refine ⟨(none,0,[],false),⟨3000,fun k hk=>?_⟩,.inl rfl⟩;show Q124.f k c x=some (none,0,[],false);unfold Q124.f;rw [Zm4 c (by omega),Bool.eq_false_iff.2 light,bS,iT (show (!false)=true from rfl)]
end
section
variable {c:Cfg} {N B n t q:Nat} {s:Shf} {L:List Nat} {K:Nat->List Int} {h:Nat->Bool} {l:Tre} {BL:Nat->Nat->Nat} {LO HI:Nat->Nat->List UInt8}
theorem Zsz (g:Geo c N B n) (S:ShK c N B n t s L q K h) (ht:t<=800000) {b:Nat} {nd:Nd} (P:Spot c N K h b nd):∃(s':Shf) (L':List Nat),Ev (fun k=>Q80.f k s (b:Int)) (nd,0,s')/\ShK c N B n (t+1) s' L' q K h/\MC.To 1 1 (Z6 s.2.1 L) (Z6 s'.2.1 L')/\(b=q->MC.To 0 0 (Z6 s.2.1 L) (Z6 s'.2.1 L')):=by
 have:=g.N5;have hb:=P.bN;obtain ⟨s',L',e,r⟩:=Zpq g S ht (i:=b) (by omega);rw [iT ⟨P.b1,hb⟩,P.kb,Zd4 g.ok P.kd P.rt] at e;exact ⟨s',L',e,r⟩
theorem Zp1 (k:Nat) (hk:k+1<l.length) (x:TZ):dn l x (l.length - 1 - k)=kidI (ndT l (k+1) (dn l x (l.length - 1 - (k+1)))) x:=by
 rw [show l.length - 1 - k=(l.length - 1 - (k+1))+1 by omega,dn,show l.length - 1 - (l.length - 1 - (k+1))=k+1 by omega]
theorem Zty (T:GoodT c l) (G:Gro l LO HI) (k:Nat) (hk:k<l.length) (x:TZ):dn l x (l.length - 1 - k)<wd l k:=by
 have:=G.dn_lt T.top x (l.length - 1 - k) (by omega)
 rwa [show l.length - 1 - (l.length - 1 - k)=k by omega] at this
end
theorem Zro {l:TR} {x:TZ} {w i:Nat} (hw:AtWay l x w) (hi:i<=l.length) (hr:Wc l=true):inS (Yp l i) x=decide (i=w):=by
 obtain ⟨h1,h2,h3⟩:=hw;have e1:Op.bytesLess x (if 0<i then l.getD (i - 1) [] else [])=decide (w<i):=by
  by_cases h0:0<i
  ·rw [iT h0];by_cases q:w<i
   ·rw [h3 (i - 1) (by omega) (by omega),dT q]
   ·rw [h2 (i - 1) (by omega),dF q]
  ·rw [iF h0,X2,dF]
 have e2:(decide (i=l.length) || Op.bytesLess x (if i=l.length then [] else l.getD i []))=decide (w<=i):=by
  by_cases h0:i=l.length
  ·rw [dT h0,Bool.true_or,dT]
  ·rw [iF h0,dF h0,Bool.false_or];by_cases q:w<=i
   ·rw [h3 i q (by omega),dT q]
   ·rw [h2 i (by omega),dF q]
 simp only [inS,Yp,e1,e2];by_cases a:w<i
 ·simp [a]; omega
 ·by_cases b:w<=i
  ·simp [show i=w by omega]
  ·simp [b]; omega
theorem Zor {l:TR} {s:Sp} {i:Nat} (hi:i<=l.length) (hr:Wc l=true) (hp:l.all (piv s)=true) (hs:emS s=false):emS (Wp (Yp l i) s)=false:=by
 have pv:∀ j,j<l.length->inS s (l.getD j [])=true/\l.getD j []≠s.1:=fun j hj=>by
  have:=List.all_eq_true.1 hp _ (Yz (d:=[]) hj);simp only [piv,Bool.and_eq_true,Bool.not_eq_true',decide_eq_false_iff_not] at this;exact this
 have lo:∀ j,j<l.length->Op.bytesLess s.1 (l.getD j [])=true:=fun j hj=>by
  have:=(pv j hj).1;simp only [inS,Bool.and_eq_true,Bool.not_eq_true'] at this;rcases Gb this.1 with e | e
  ·exact absurd e (pv j hj).2
  ·exact e
 have hi':∀ j,j<l.length->s.2.2=false->Op.bytesLess (l.getD j []) s.2.1=true:=fun j hj ht=>by
  have:=(pv j hj).1;simp only [inS,ht,Bool.and_eq_true,Bool.false_or] at this;exact this.2
 have elo:(Wp (Yp l i) s).1=if 0<i then l.getD (i - 1) [] else s.1:=by
  show (if Op.bytesLess (Yp l i).1 s.1=true then s.1 else (Yp l i).1)=_
  by_cases h0:0<i
  ·have e:(Yp l i).1=l.getD (i - 1) []:=iT h0;rw [iT h0,e,Xm (lo (i - 1) (by omega))];rfl
  ·have e:(Yp l i).1=[]:=iF h0;rw [iF h0,e];cases hsl:s.1 with
   | nil=>rfl
   | cons a b=>rfl
 have ehi:i<l.length->(Wp (Yp l i) s).2=(l.getD i [],false):=fun h=>by
  have hn:¬ i=l.length:=by omega
  simp only [Wp,Yp,hn,decide_false,Bool.false_eq_true,if_false,Bool.false_and];cases ht:s.2.2 with
  | true=>rfl
  | false=>
   rw [Xm (hi' i h ht)];rfl
 have ehi':i=l.length->(Wp (Yp l i) s).2.2=s.2.2/\(s.2.2=false->(Wp (Yp l i) s).2.1=s.2.1):=fun h=>by
  simp only [Wp,Yp,h,decide_true,if_true,Bool.true_and];refine ⟨trivial,fun ht=>?_⟩;rw [ht];rfl
 by_cases h:i<l.length
 ·have e:=ehi h;simp only [emS,e,elo,Bool.not_false,Bool.true_and];by_cases h0:0<i
  ·rw [iT h0,Zns hr (i:=i - 1) (j:=i) (by omega) h];rfl
  ·rw [iF h0,lo i h];rfl
 ·obtain ⟨e1,e2⟩:=ehi' (by omega);simp only [emS,e1,elo];cases ht:s.2.2 with
  | true=>rfl
  | false=>
   rw [e2 ht];by_cases h0:0<i
   ·rw [iT h0,hi' (i - 1) (by omega) ht];rfl
   ·rw [iF h0];simp only [emS,ht] at hs;simpa using hs
section
variable {l:Tre} {LO HI:Nat->Nat->List UInt8} {c:Cfg} {BL:Nat->Nat->Nat}
def spL (l:Tre):Nat->List Sp
 | 0=>[([],[],true)]
 | d+1=>(List.range (wd l (l.length - 1 - d))).flatMap fun i=>(List.range (ndT l (l.length - 1 - d) i).2.1.length).map fun j=>(Wx (Yp (ndT l (l.length - 1 - d) i).2.2.1 j) ((spL l d).getD i default)).1
def spA (l:Tre) (k i:Nat):Sp:=(spL l (l.length - 1 - k)).getD i default
theorem Zaz {α:Type} [Inhabited α] {row:List Nd} {f:Nat->List α} (hf:∀ i,i<row.length->(f i).length=(row.getD i default).2.1.length):∀ n,n<=row.length->((List.range n).flatMap f).length=stR row n/\∀ i j,i<n->j<(f i).length->((List.range n).flatMap f).getD (stR row i+j) default=(f i).getD j default
 | 0,_=>⟨rfl,fun i j h=>absurd h (Nat.not_lt_zero _)⟩
 | n+1,hn=>by
  obtain ⟨h1,h2⟩:=Zaz hf n (by omega);have hs:=Y9 (row:=row) (i:=n) hn;have e:(List.range (n+1)).flatMap f=(List.range n).flatMap f ++ f n:=by rw [List.range_succ,List.flatMap_append]; simp
  rw [e];refine ⟨by rw [lA,h1,hs,hf n hn],fun i j hi hj=>?_⟩;by_cases q:i<n
  ·have hi2:=Y9 (row:=row) (i:=i) (by omega);have hl:=Wi (row:=row) (i:=i+1) (j:=n) (by omega) (by omega);have:=hf i (by omega);rw [Yk];exact h2 i j q hj
  ·obtain rfl:i=n:=by omega
   rw [List.getD_eq_getElem?_getD,List.getElem?_append_right (by omega),h1,show stR row i+j - stR row i=j by omega,<- List.getD_eq_getElem?_getD]
theorem Zfe {k i j:Nat} (hk:k+1<l.length) (hi:i<wd l (k+1)) (hj:j<(ndT l (k+1) i).2.1.length):spA l k (stR (l.getD (k+1) default) i+j)=(Wx (Yp (ndT l (k+1) i).2.2.1 j) (spA l (k+1) i)).1:=by
 unfold spA;rw [show l.length - 1 - k=(l.length - 1 - (k+1))+1 by omega,spL,show l.length - 1 - (l.length - 1 - (k+1))=k+1 by omega];have h:=(Zaz (row:=l.getD (k+1) default) (f:=fun i=>(List.range (ndT l (k+1) i).2.1.length).map fun j=>(Wx (Yp (ndT l (k+1) i).2.2.1 j) ((spL l (l.length - 1 - (k+1))).getD i default)).1) (fun i _=>by rw [length_map,length_range]; rfl) (wd l (k+1)) (Nat.le_refl _)).2 i j hi (by rw [length_map,length_range]; exact hj);rw [h,List.getD_eq_getElem?_getD,List.getElem?_map,List.getElem?_range hj];rfl
theorem Gro.ancK (G:Gro l LO HI) {x:TZ} {K i:Nat} (hK:K<l.length) (hi:i<wd l K) (h1:Op.bytesLess x (LO K i)=false) (h2:Op.bytesLess (HI K i) x=false):∀ k,K+k<l.length->∃ a,a<wd l (K+k)/\Op.bytesLess x (LO (K+k) a)=false/\Op.bytesLess (HI (K+k) a) x=false
 | 0,_=>⟨i,hi,h1,h2⟩
 | k+1,hk=>by
  obtain ⟨a,ha,a1,a2⟩:=G.ancK hK hi h1 h2 k (by omega);obtain ⟨r1,r2,r3⟩:=G.row (K+k) hk;obtain ⟨p,hp,p1,p2⟩:=Uo (row:=l.getD (K+k+1) default) (a:=a) (m:=wd l (K+k+1)) (Nat.le_refl _) (by rw [r2]; exact ha);have hm:=Wi (row:=l.getD (K+k+1) default) (i:=p+1) (j:=wd l (K+k+1)) hp (Nat.le_refl _);rw [r2] at hm;obtain ⟨e1,e2⟩:=r3 p hp;exact ⟨p,hp,by show Op.bytesLess x (LO (K+k+1) p)=false; rw [e1]; exact Yn (G.lo_le (by omega) p1 ha) a1,by show Op.bytesLess (HI (K+k+1) p) x=false; rw [e2]; exact Yn a2 (G.hi_le (by omega) (show a<=stR (l.getD (K+k+1) default) (p+1) - 1 by omega) (by omega))⟩
theorem Gro.dn_inK (G:Gro l LO HI) (top:wd l (l.length - 1)=1) {x:TZ} {K:Nat} (A:∀ k,K<=k->k<l.length->∃ a,a<wd l k/\Op.bytesLess x (LO k a)=false/\Op.bytesLess (HI k a) x=false):∀ j,j<l.length->K<=l.length - 1 - j->Op.bytesLess x (LO (l.length - 1 - j) (dn l x j))=false/\Op.bytesLess (HI (l.length - 1 - j) (dn l x j)) x=false
 | 0,h,hK=>by
  obtain ⟨a,ha,a1,a2⟩:=A (l.length - 1) (by omega) (by omega);rw [top] at ha;rw [show a=0 by omega] at a1 a2;exact ⟨a1,a2⟩
 | j+1,h,hK=>by
  obtain ⟨i1,i2⟩:=G.dn_inK top A j (by omega) (by omega);have ib:=G.dn_lt top x j (by omega);obtain ⟨k,ek⟩:∃ k,l.length - 1 - j=k+1:=⟨l.length - 1 - (j+1),by omega⟩;have ek':l.length - 1 - (j+1)=k:=by omega
  rw [ek] at i1 i2 ib;rw [ek',dn,ek];obtain ⟨a,ha,a1,a2⟩:=A k (by omega) (by omega);obtain ⟨r1,r2,r3⟩:=G.row k (by omega);obtain ⟨p,hp,p1,p2⟩:=Uo (row:=l.getD (k+1) default) (a:=a) (m:=wd l (k+1)) (Nat.le_refl _) (by rw [r2]; exact ha);have hm:=Wi (row:=l.getD (k+1) default) (i:=p+1) (j:=wd l (k+1)) hp (Nat.le_refl _);rw [r2] at hm;obtain ⟨e1,e2⟩:=r3 p hp;have ep:p=dn l x j:=G.uniq (by omega) hp ib (by rw [e1]; exact Yn (G.lo_le (by omega) p1 ha) a1) (by rw [e2]; exact Yn a2 (G.hi_le (by omega) (show a<=stR (l.getD (k+1) default) (p+1) - 1 by omega) (by omega))) i1 i2;subst ep;have n:=G.nd (by omega) hp;have hs:=Y9 (row:=l.getD (k+1) default) hp;have hs':stR (l.getD (k+1) default) (dn l x j+1)=stR (l.getD (k+1) default) (dn l x j)+(ndT l (k+1) (dn l x j)).2.1.length:=hs;have pl:=n.pvl;have w:AtWay (ndT l (k+1) (dn l x j)).2.2.1 x (a - stR (l.getD (k+1) default) (dn l x j)):=⟨by omega,fun b hb=>?_,fun b hb hbl=>?_⟩
  ·have ew:=w.uniq (Gi x (G.rise (by omega) hp));rw [(G.kidI (by omega) hp x).2.1,<- ew,show stR (l.getD (k+1) default) (dn l x j)+(a - stR (l.getD (k+1) default) (dn l x j))=a by omega];exact ⟨a1,a2⟩
  ·exact Yn (Yn (n.pv b (by omega)).2.1 (G.lo_le (by omega) (show stR (l.getD (k+1) default) (dn l x j)+b+1<=a by omega) ha)) a1
  ·exact Jd (Yn a2 (G.hi_le (k:=k) (by omega) (show a<=stR (l.getD (k+1) default) (dn l x j)+b by omega) (by omega))) (n.pv b hbl).1
theorem Gro.dnK (G:Gro l LO HI) (top:wd l (l.length - 1)=1) {x:TZ} {K i:Nat} (hK:K<l.length) (hi:i<wd l K) (h1:Op.bytesLess x (LO K i)=false) (h2:Op.bytesLess (HI K i) x=false):dn l x (l.length - 1 - K)=i:=by
 have hd:=G.dn_inK top (x:=x) (K:=K) (fun k h1' h2'=>by
  obtain ⟨a,b⟩:=G.ancK hK hi h1 h2 (k - K) (by omega);rw [show K+(k - K)=k by omega] at b;exact ⟨a,b⟩) (l.length - 1 - K) (by omega) (by omega)
 have hb:=G.dn_lt top x (l.length - 1 - K) (by omega);rw [show l.length - 1 - (l.length - 1 - K)=K by omega] at hd hb;exact G.uniq hK hb hi hd.1 hd.2 h1 h2
structure SpOk (l:Tre) (LO:Nat->Nat->List UInt8) (k i:Nat):Prop where
 ins:∀ x,inS (spA l k i) x=decide (dn l x (l.length - 1 - k)=i)
 lo:Op.bytesLess (LO k i) (spA l k i).1=false
 em:emS (spA l k i)=false
theorem Zmk (T:GoodT c l) (G:Gro l LO HI) {k i:Nat} (hk:k+1<l.length) (hi:i<wd l (k+1)) (S:SpOk l LO (k+1) i):(ndT l (k+1) i).2.2.1.all (piv (spA l (k+1) i))=true:=by
 have nd:=G.nd hk hi;have pl:=nd.pvl;obtain ⟨r1,r2,r3⟩:=G.row k hk;obtain ⟨e1,e2⟩:=r3 i hi;have hs:=Y9 (row:=l.getD (k+1) default) hi;have hs':stR (l.getD (k+1) default) (i+1)=stR (l.getD (k+1) default) i+(ndT l (k+1) i).2.1.length:=hs;have hm:=Wi (row:=l.getD (k+1) default) (i:=i+1) (j:=wd l (k+1)) hi (Nat.le_refl _);rw [r2] at hm;refine List.all_eq_true.2 fun y hy=>?_;obtain ⟨b,hb,eb⟩:=Vz hy [];obtain ⟨p1,p2,_⟩:=nd.pv b hb;rw [eb] at p1 p2;have lo:Op.bytesLess (LO (k+1) i) y=true:=by
  rw [e1];exact Jd (Yn (G.lo_le (k:=k) (by omega) (show stR (l.getD (k+1) default) i<=stR (l.getD (k+1) default) i+b by omega) (by omega)) (G.lh k _ (by omega) (by omega))) p1
 have hi':Op.bytesLess (HI (k+1) i) y=false:=by
  rw [e2];exact Yn p2 (Yn (G.lh k _ (by omega) (by omega)) (G.hi_le (k:=k) (by omega) (show stR (l.getD (k+1) default) i+b+1<=stR (l.getD (k+1) default) (i+1) - 1 by omega) (by omega)))
 have d:=G.dnK T.top hk hi (Xm lo) hi';unfold piv;rw [S.ins,d,dT rfl,dF (fun z=>by
  have:=S.lo;rw [<- z,lo] at this;cases this)]
 rfl
theorem Zsm (T:GoodT c l) (G:Gro l LO HI):∀(d k i:Nat),k+d+1=l.length->i<wd l k->SpOk l LO k i
 | 0,k,i,hk,hi=>by
  have top:=T.top;obtain rfl:k=l.length - 1:=by omega
  rw [top] at hi;obtain rfl:i=0:=by omega
  have e:spA l (l.length - 1) 0=([],[],true):=by unfold spA; rw [Nat.sub_self]; rfl
  refine ⟨fun x=>?_,by rw [e,X2],by rw [e]; rfl⟩;rw [e,Nat.sub_self];unfold inS;rw [X2];rfl
 | d+1,k,a,hk,ha=>by
  obtain ⟨r1,r2,r3⟩:=G.row k (by omega);obtain ⟨i,hi,i1,i2⟩:=Uo (row:=l.getD (k+1) default) (a:=a) (m:=wd l (k+1)) (Nat.le_refl _) (by rw [r2]; exact ha);have S:=Zsm T G d (k+1) i (by omega) hi;have nd:=G.nd (k:=k) (by omega) hi;have pl:=nd.pvl;have hs:=Y9 (row:=l.getD (k+1) default) hi;have hs':stR (l.getD (k+1) default) (i+1)=stR (l.getD (k+1) default) i+(ndT l (k+1) i).2.1.length:=hs;have hm:=Wi (row:=l.getD (k+1) default) (i:=i+1) (j:=wd l (k+1)) hi (Nat.le_refl _);rw [r2] at hm;obtain ⟨j,ej⟩:∃ j,a=stR (l.getD (k+1) default) i+j:=⟨a - stR (l.getD (k+1) default) i,by omega⟩;subst ej;have rs:=G.rise (k:=k) (by omega) hi;have rb:Wc (ndT l (k+1) i).2.2.1=true:=by rw [Zkj]; exact (Zf0 _ _).2 rs
  have hjp:j<=(ndT l (k+1) i).2.2.1.length:=by omega
  have em:=Zor hjp rb (Zmk T G (by omega) hi S) S.em;have es:spA l k (stR (l.getD (k+1) default) i+j)=Wp (Yp (ndT l (k+1) i).2.2.1 j) (spA l (k+1) i):=by
   rw [Zfe (by omega) hi (by omega)];unfold Wx;rw [em,vS]
  refine ⟨fun x=>?_,?_,by rw [es]; exact em⟩
  ·rw [es,Zrf,Zro (Gi x rs) hjp rb,S.ins,Zp1 k (by omega) x];by_cases z:dn l x (l.length - 1 - (k+1))=i
   ·rw [z,(G.kidI (by omega) hi x).2.1,dT rfl,Bool.and_true];by_cases w:j=Gz (ndT l (k+1) i).2.2.1 x
    ·rw [dT w,dT]
    ·rw [dF w,dF]
   ·rw [dF z,Bool.and_false];have hb:=G.dn_lt T.top x (l.length - 1 - (k+1)) (by omega);rw [show l.length - 1 - (l.length - 1 - (k+1))=k+1 by omega] at hb;have kk:=G.kidI (by omega) hb x;have hs2:=Y9 (row:=l.getD (k+1) default) hb;have hs2':stR (l.getD (k+1) default) (dn l x (l.length - 1 - (k+1))+1)=stR (l.getD (k+1) default) (dn l x (l.length - 1 - (k+1)))+(ndT l (k+1) (dn l x (l.length - 1 - (k+1)))).2.1.length:=hs2;refine (dF fun w=>?_).symm;rw [kk.2.1] at w;rcases Nat.lt_trichotomy (dn l x (l.length - 1 - (k+1))) i with q | q | q
    ·have:=Wi (row:=l.getD (k+1) default) (i:=dn l x (l.length - 1 - (k+1))+1) (j:=i) q (Nat.le_of_lt hi);have:=kk.1;omega
    ·exact z q
    ·have:=Wi (row:=l.getD (k+1) default) (i:=i+1) (j:=dn l x (l.length - 1 - (k+1))) q (Nat.le_of_lt hb);omega
  ·rw [es];have l1:Op.bytesLess (LO k (stR (l.getD (k+1) default) i+j)) (spA l (k+1) i).1=false:=by
    have:=S.lo;rw [(r3 i hi).1] at this;exact Yn this (G.lo_le (by omega) (Nat.le_add_right _ _) ha)
   have l2:Op.bytesLess (LO k (stR (l.getD (k+1) default) i+j)) (Yp (ndT l (k+1) i).2.2.1 j).1=false:=by
    unfold Yp;dsimp only;by_cases z:0<j
    ·rw [iT z];have:=(nd.pv (j - 1) (by omega)).2.1;rw [show stR (l.getD (k+1) default) i+(j - 1)+1=stR (l.getD (k+1) default) i+j by omega] at this;exact this
    ·rw [iF z,X2]
   unfold Wp;dsimp only;split
   ·exact l1
   ·exact l2
theorem Zix {s:Sp} {n:Nd} (h:Yx c W4 n=true) (h1:n.1≠0->n.2.2.1.all (piv s)=true) (h2:n.1≠0->∀ m∈n.2.2.2.1,inS s m.1=true) (h3:n.1=0->∀ p∈n.2.2.2.2,inS s p.1=true):Yx c s n=true:=by
 unfold Yx at h ⊢;by_cases z:n.1=0
 ·rw [iT z] at h ⊢;simp only [Za4,Bool.and_eq_true,List.all_eq_true] at h ⊢;refine ⟨fun p hp=>?_,h.2⟩;have:=h.1 p hp;unfold prB at this ⊢;simp only [Bool.and_eq_true] at this ⊢;exact ⟨this.1,h3 z p hp,this.2.2⟩
 ·rw [iF z] at h ⊢;simp only [Zbz,Zah,Za7,Bool.and_eq_true] at h ⊢;obtain ⟨a1,a2,a3,a4,a5,a6,a7,a8,a9,a10,a11⟩:=h;refine ⟨a1,a2,a3,List.all_eq_true.2 fun m hm=>?_,a5,a6,a7,a8,a9,⟨h1 z,a10.2⟩,a11⟩;have:=List.all_eq_true.1 a4 m hm;unfold Gw at this ⊢;simp only [Bool.and_eq_true] at this ⊢;exact ⟨this.1,h2 z m hm,this.2.2⟩
theorem Zno (T:GoodT c l) (G:Gro l LO HI) {k i:Nat} (hk:k<l.length) (hi:i<wd l k) (h:Yx c W4 (Xt l BL k i)=true):Yx c (spA l k i) (Xt l BL k i)=true:=by
 have S:=Zsm T G (l.length - 1 - k) k i (by omega) hi;cases k with
 | zero=>
  obtain ⟨g1,_,_,g4,g5⟩:=G.leaf i hi;refine Zix h (fun z=>absurd g1 z) (fun z=>absurd g1 z) fun _ p hp=>?_;have:=g5 p hp;rw [S.ins,Nat.sub_zero,G.dn_leaf T.top hi this.1 this.2,dT rfl]
 | succ k=>
  have nd:=G.nd hk hi;refine Zix h (fun _=>Zmk T G hk hi S) (fun _ m hm=>?_) fun z p hp=>?_
  ·have:=((T.buf (k+1) i (by omega) hk hi).2.2 m hm).2;rw [S.ins,this,dT rfl]
  ·have:p∈(ndT l (k+1) i).2.2.2.2:=hp;rw [nd.prs] at this;cases this
end
def Wr (f:Nat->Nat) (a:Nat):Nat->Nat
 | 0=>0
 | m+1=>f a+1+Wr f (a+1) m
def ds (l:Tre):Nat->Nat->Nat
 | 0,_=>0
 | k+1,i=>Wr (ds l k) (stR (l.getD (k+1) default) i) (ndT l (k+1) i).2.1.length
theorem Zdt (f:Nat->Nat):∀(m a n:Nat),Wr f a (m+n)=Wr f a m+Wr f (a+m) n
 | 0,a,n=>by rw [Nat.zero_add]; exact (Nat.zero_add _).symm
 | m+1,a,n=>by
  rw [show m+1+n=(m+n)+1 by omega];show f a+1+Wr f (a+1) (m+n)=f a+1+Wr f (a+1) m+Wr f (a+(m+1)) n;rw [Zdt f m (a+1) n,show a+1+m=a+(m+1) by omega]; omega
theorem Zi0 (f:Nat->Nat) (m:Nat):Wr f 0 (m+1)=Wr f 0 m+(f m+1):=by
 rw [Zdt,Nat.zero_add]; rfl
def Zeu (l:Tre):Nat->Nat
 | 0=>wd l 0
 | k+1=>Zeu l k+wd l (k+1)
section
variable {c:Cfg} {l:Tre} {BL:Nat->Nat->Nat} {LO HI:Nat->Nat->List UInt8}
theorem Zmx (k:Nat):∀ i,i<=wd l (k+1)->Wr (ds l (k+1)) 0 i=i+Wr (ds l k) 0 (stR (l.getD (k+1) default) i)
 | 0,_=>by rw [Zas]; rfl
 | i+1,hi=>by
  have e:ds l (k+1) i=Wr (ds l k) (stR (l.getD (k+1) default) i) (ndT l (k+1) i).2.1.length:=rfl;rw [Zi0,Zmx k i (by omega),e,Y9 (show i<(l.getD (k+1) default).length from hi),Zdt,Nat.zero_add];show _=_+(_+Wr (ds l k) _ (ndT l (k+1) i).2.1.length);omega
theorem Zj6:∀ m,Wr (ds l 0) 0 m=m
 | 0=>rfl
 | m+1=>by rw [Zi0,Zj6 m]; rfl
theorem Zl6 (G:Gro l LO HI):∀ k,k<l.length->Wr (ds l k) 0 (wd l k)=Zeu l k
 | 0,_=>Zj6 _
 | k+1,hk=>by
  rw [Zmx k _ (Nat.le_refl _),(G.row k hk).2.1,Zl6 G k (by omega),Zeu]; omega
theorem Zmi (T:GoodT c l):∀ k,k<l.length->Zeu l k<=151*(k+1)
 | 0,h=>by have:=T.wb 0 h; show wd l 0<=_; omega
 | k+1,h=>by
  have:=T.wb (k+1) h;have:=Zmi T k (by omega);rw [Zeu]; omega
theorem Zr9 (T:GoodT c l) (G:Gro l LO HI):ds l (l.length - 1) 0+1=Zeu l (l.length - 1):=by
 have hne:=G.ne;rw [<- Zl6 G _ (by omega),T.top]; rfl
theorem Zsv (G:Gro l LO HI) {k i j:Nat} (hk:k+1<l.length) (hi:i<wd l (k+1)) (hj:j<(ndT l (k+1) i).2.1.length):(Xt l BL (k+1) i).2.1.getD j default=((BL k (stR (l.getD (k+1) default) i+j):Nat):Int):=by
 have e:(ndT l (k+1) i).2.1.getD j default=((stR (l.getD (k+1) default) i+j+1:Nat):Int):=by
  have:=(G.nd hk hi).kid;rw [this,List.getD_eq_getElem?_getD,List.getElem?_map,List.getElem?_range (by omega)]; rfl
 show ((ndT l (k+1) i).2.1.map _).getD j default=_;rw [Y0 (by rw [length_map]; omega),List.getElem_map];rw [Y0 hj] at e;rw [e];rfl
end
theorem Zc7 {α:Type} {d:α} (x:Int) (v:α) (y:Int):∀ m:List (Int×α),Zr d (X6 x v m) y=if y=x then v else Zr d m y
 | []=>by
  rw [X6,Zr,Zr,Zr];by_cases q:y=x
  ·rw [iT q]; simp [q]
  ·rw [iF q]; simp; intro z; exact absurd z.symm q
 | (a,b) :: m=>by
  rw [X6];by_cases q:a=x
  ·subst q;simp only [decide_true,if_true,Zr];by_cases w:y=a
   ·subst w; simp
   ·rw [iF w]; simp [show ¬ a=y from fun e=>w e.symm]
  ·simp only [q,decide_false,Zr];rw [vS];rw [Zr,Zc7 x v y m];by_cases w:a=y
   ·subst w; simp [q]
   ·simp [w]
section
variable {c:Cfg} {N B n q:Nat} {K:Nat->List Int} {h:Nat->Bool} {l:Tre} {BL:Nat->Nat->Nat} {LO HI:Nat->Nat->List UInt8} {ND:Nat->Nat->Nd} {ok:Nat->Bool} {α:Type}
def wkR (f:Nat->List T4×Bool) (a:Nat):Nat->List T4×Bool
 | 0=>([],true)
 | m+1=>if (f a).2=true then ((f a).1 ++ (wkR f (a+1) m).1,(wkR f (a+1) m).2) else ((f a).1,false)
def wk (l:Tre) (ok:Nat->Bool):Nat->Nat->List T4×Bool
 | 0,i=>if ok i=true then ([(0,i)],true) else ([],false)
 | k+1,i=>((k+1,i) :: (wkR (wk l ok k) (stR (l.getD (k+1) default) i) (ndT l (k+1) i).2.1.length).1,(wkR (wk l ok k) (stR (l.getD (k+1) default) i) (ndT l (k+1) i).2.1.length).2)
def fdn (l:Tre):Nat->Nat->Nat->Nat
 | 0,_,i=>i
 | d+1,k,i=>fdn l d (k - 1) (stR (l.getD k default) i)
def Zai (l:Tre) (BL:Nat->Nat->Nat) (m:TS) (cnt:Nat->Nat):Prop:=∀ k j,k<l.length->j<wd l k->(Zr false m ((BL k j:Nat):Int)=true↔j<cnt k)
structure VT (c:Cfg) (N:Nat) (K:Nat->List Int) (l:Tre) (BL:Nat->Nat->Nat) (ND:Nat->Nat->Nd) (ok:Nat->Bool):Prop where
 b1:∀ k i,k<l.length->i<wd l k->1<=BL k i
 bN:∀ k i,k<l.length->i<wd l k->BL k i<N
 kb:∀ k i,k<l.length->i<wd l k->K (BL k i)=Wu c (ND k i)
 kd:∀ k i,k<l.length->i<wd l k->∀ x∈(ND k i).2.1,0<=x/\x<4294967296
 rt:∀ k i,k<l.length->i<wd l k->Yx c W4 (ND k i)=true
 inn:∀ k i,k+1<l.length->i<wd l (k+1)->ND (k+1) i=Xt l BL (k+1) i
 inR:∀ k i,k+1<l.length->i<wd l (k+1)->Yx c (spA l (k+1) i) (ND (k+1) i)=true
 lf:∀ i,i<wd l 0->(ND 0 i).1=0
 lfR:∀ i,i<wd l 0->Yx c (spA l 0 i) (ND 0 i)=ok i
 inj:∀ k j k' j',k<l.length->j<wd l k->k'<l.length->j'<wd l k'->BL k j=BL k' j'->k=k'/\j=j'
theorem VT.ev (V:VT c N K l BL ND ok) (hc:OkC c) {k i:Nat} (hk:k<l.length) (hi:i<wd l k) (p:Sp):Ev (fun f=>Q66.f f c p (ND k i)) (Yx c p (ND k i))/\Q64.f (ND k i)=some (ND k i):=by
 have hn:=Jq hc (V.kd k i hk hi) (V.rt k i hk hi);have h9:=hc.nat
 have hs:(ND k i).2.1.length<=64/\(ND k i).2.2.1.length<=64/\(ND k i).2.2.2.1.length<=512/\(ND k i).2.2.2.2.length<=1024:=by
  by_cases z:(ND k i).1=0
  ·have ho:=hn.o z;rw [ho.1,ho.2.1,ho.2.2.1];have:=ho.2.2.2;simp; omega
  ·have hi:=hn.i z;rw [hi.1];simp; omega
 obtain ⟨s1,s2,s3,s4⟩:=hs;refine ⟨Zeq (by omega) (by omega) (by omega) (by omega) (V.kd k i hk hi),?_⟩;unfold Q64.f;rw [Zhy (by omega),Zju (by omega),Zk4 (by omega),Zjw (by omega)];rfl
theorem VT.load (g:Geo c N B n) (V:VT c N K l BL ND ok) {s:Shf} {L:List Nat} {t:Nat} (S:ShK c N B n t s L q K h) (ht:t<=800000) {k i:Nat} (hk:k<l.length) (hi:i<wd l k):∃(s':Shf) (L':List Nat),Ev (fun f=>Q80.f f s ((BL k i:Nat):Int)) (ND k i,0,s')/\ShK c N B n (t+1) s' L' q K h:=by
 have:=g.N5;have bN:=V.bN k i hk hi;obtain ⟨s',L',e,r,_⟩:=Zpq g S ht (i:=BL k i) (by omega);rw [iT ⟨V.b1 k i hk hi,bN⟩,V.kb k i hk hi,Zd4 g.ok (V.kd k i hk hi) (V.rt k i hk hi)] at e;exact ⟨s',L',e,r⟩
structure VisC (α:Type) (on:Int->Nd->Sp->α->Option α) (V:Nat->Shf×List T1×Bool->Int->Int->Sp->α->Option (Int×α×Shf×List T1×Bool)) (G:Bool->Nat->Sp->Nd×Int×Shf->Shf->α->List T1->Bool->Int->Option (Int×α×Shf×List T1×Bool)):Prop where
 hV:∀(f:Nat) (s:Shf) (m:TS) (i lv:Int) (p:Sp) (o:α) (nd:Nd) (s':Shf) (r:Bool),Q80.f (f+2) s i=some (nd,0,s')->Zr false m i=false->(lv=-1\/lv=nd.1/\0<=lv)->Q66.f (f+2) s'.1 p nd=some r->Q64.f nd=some nd->V (f+3) (s,m,false) i lv p o=if r=true then (on i nd p o).bind fun o'=>G (decide (0<=lv)) f p (nd,0,s') s' o' (X6 i true m) false 0 else some (12,o,s',m,false)
 hG:∀(b:Bool) (f:Nat) (p:Sp) (r1:Nd×Int×Shf) (s:Shf) (o:α) (m:TS) (j:Int),G b (f+1) p r1 s o m false j=if decide (j<(r1.1.2.1.length:Int))=true then (if 0<=j/\j<(r1.1.2.1.length:Int) then ((Q57.f r1.1.2.2.1 j p).bind fun r6=>if Zr false m (gt r1.1.2.1 j)=true then some (12,o,s,m,false) else ((V f (s,m,false) (gt r1.1.2.1 j) (w64 (r1.1.1 - 1)) r6.1 o).bind fun r7=>if (!decide (r7.1=0))=true then some r7 else G b f p r1 r7.2.2.1 r7.2.1 r7.2.2.2.1 r7.2.2.2.2 (w64 (j+1)))) else none) else some (0,o,s,m,false)
section
variable {on:Int->Nd->Sp->α->Option α} {V:Nat->Shf×List T1×Bool->Int->Int->Sp->α->Option (Int×α×Shf×List T1×Bool)} {G:Bool->Nat->Sp->Nd×Int×Shf->Shf->α->List T1->Bool->Int->Option (Int×α×Shf×List T1×Bool)}
def onW (on:Int->Nd->Sp->α->Option α) (l:Tre) (BL:Nat->Nat->Nat) (ND:Nat->Nat->Nd) (o:α) (w:T4):Option α:=on ((BL w.1 w.2:Nat):Int) (ND w.1 w.2) (spA l w.1 w.2) o
theorem Zqq (X:VisC α on V G) (T:GoodT c l) (Gr:Gro l LO HI) (VT':VT c N K l BL ND ok) {k i:Nat} (hk:k+1<l.length) (hi:i<wd l (k+1)) (b:Bool) {r1:Nd×Int×Shf} (er:r1.1=ND (k+1) i)
  (IH:∀(i:Nat) (s:Shf) (L:List Nat) (t:Nat) (lv:Int) (m:TS) (cnt:Nat->Nat) (o o':α),i<wd l k->ShK c N B n t s L q K h->t+(ds l k i+1)<=800000->(lv=-1\/lv=(k:Int))->Zai l BL m cnt->(∀ d,d<=k->cnt (k - d)=fdn l d k i)->(wk l ok k i).1.foldlM (onW on l BL ND) o=some o'->∃ s' L' t' m',Ev (fun f=>V f (s,m,false) ((BL k i:Nat):Int) lv (spA l k i) o) (if (wk l ok k i).2=true then 0 else 12,o',s',m',false)/\ShK c N B n t' s' L' q K h/\t'<=t+(ds l k i+1)/\((wk l ok k i).2=true->Zai l BL m' fun k'=>if k'<=k then fdn l (k - k') k (i+1) else cnt k')) :
  ∀(rem j:Nat) (s:Shf) (L:List Nat) (t:Nat) (m:TS) (cnt:Nat->Nat) (o o':α),j+rem=(ndT l (k+1) i).2.1.length->ShK c N B n t s L q K h->t+Wr (ds l k) (stR (l.getD (k+1) default) i+j) rem<=800000->Zai l BL m cnt->(∀ d,d<=k->cnt (k - d)=fdn l d k (stR (l.getD (k+1) default) i+j))->(wkR (wk l ok k) (stR (l.getD (k+1) default) i+j) rem).1.foldlM (onW on l BL ND) o=some o'->
  ∃ s' L' t' m',Ev (fun f=>G b f (spA l (k+1) i) r1 s o m false (j:Int)) (if (wkR (wk l ok k) (stR (l.getD (k+1) default) i+j) rem).2=true then 0 else 12,o',s',m',false)/\ShK c N B n t' s' L' q K h/\t'<=t+Wr (ds l k) (stR (l.getD (k+1) default) i+j) rem/\((wkR (wk l ok k) (stR (l.getD (k+1) default) i+j) rem).2=true->Zai l BL m' fun k'=>if k'<=k then fdn l (k - k') k (stR (l.getD (k+1) default) i+j+rem) else cnt k'):=by
 have nd:=Gr.nd hk hi;have h6:=T.len;have pvl:=nd.pvl;have fan:=nd.fan;have e1:(ND (k+1) i).2.1.length=(ndT l (k+1) i).2.1.length:=by rw [VT'.inn k i hk hi]; unfold Xt; rw [length_map]
 have e2:(ND (k+1) i).2.2.1=(ndT l (k+1) i).2.2.1:=by rw [VT'.inn k i hk hi]; rfl
 have e3:(ND (k+1) i).1=((k+1:Nat):Int):=by rw [VT'.inn k i hk hi]; exact nd.lvl
 have hs:=Y9 (row:=l.getD (k+1) default) hi;have hm:=Wi (row:=l.getD (k+1) default) (i:=i+1) (j:=wd l (k+1)) hi (Nat.le_refl _);rw [(Gr.row k hk).2.1,hs] at hm;have hm':stR (l.getD (k+1) default) i+(ndT l (k+1) i).2.1.length<=wd l k:=hm;intro rem
 induction rem with
 | zero=>
  intro j s L t m cnt o o' hj S ht hm hc hf;have ho:o'=o:=by simpa [wkR] using hf.symm
  subst ho;refine ⟨s,L,t,m,⟨1,fun f hf=>?_⟩,S,Nat.le_refl _,fun _ k' j' hk' hj'=>?_⟩
  ·obtain ⟨f,rfl⟩:=kS1 f;show G b (f+1) _ _ s _ m false (j:Int)=_;rw [X.hG,er,iF (by rw [e1]; simp only [dE]; omega)];rfl
  ·rw [hm k' j' hk' hj'];dsimp only;by_cases z:k'<=k
   ·rw [iT z,Nat.add_zero,<- hc (k - k') (by omega),show k - (k - k')=k' by omega]
   ·rw [iF z]
 | succ rem ih=>
  intro j s L t m cnt o o' hj S ht hm hc hf;have hjl:j<(ndT l (k+1) i).2.1.length:=by omega
  have dsu:Wr (ds l k) (stR (l.getD (k+1) default) i+j) (rem+1)=ds l k (stR (l.getD (k+1) default) i+j)+1+Wr (ds l k) (stR (l.getD (k+1) default) i+(j+1)) rem:=rfl;rw [dsu] at ht ⊢;have ck:cnt k=stR (l.getD (k+1) default) i+j:=hc 0 (Nat.zero_le _);have hseen:Zr false m ((BL k (stR (l.getD (k+1) default) i+j):Nat):Int)=false:=by
   exact Bool.eq_false_iff.2 fun z=>by have:=(hm k _ (by omega) (by omega)).1 z; omega
  have wkS:wkR (wk l ok k) (stR (l.getD (k+1) default) i+j) (rem+1)=if (wk l ok k (stR (l.getD (k+1) default) i+j)).2=true then ((wk l ok k (stR (l.getD (k+1) default) i+j)).1 ++ (wkR (wk l ok k) (stR (l.getD (k+1) default) i+(j+1)) rem).1,(wkR (wk l ok k) (stR (l.getD (k+1) default) i+(j+1)) rem).2) else ((wk l ok k (stR (l.getD (k+1) default) i+j)).1,false):=rfl
  have step:∀ f,G b (f+1) (spA l (k+1) i) r1 s o m false (j:Int)=(V f (s,m,false) ((BL k (stR (l.getD (k+1) default) i+j):Nat):Int) (k:Int) (spA l k (stR (l.getD (k+1) default) i+j)) o).bind fun r7=>if (!decide (r7.1=0))=true then some r7 else G b f (spA l (k+1) i) r1 r7.2.2.1 r7.2.1 r7.2.2.2.1 r7.2.2.2.2 ((j+1:Nat):Int):=fun f=>by
   rw [X.hG,er,iT (by rw [e1]; simp only [dE]; omega),iT (by rw [e1]; omega),e2,Zmo (by omega) _ j (by omega),bS,Zt,VT'.inn k i hk hi,Zsv Gr hk hi hjl,hseen,vS,<- Zfe hk hi hjl];rw [<- VT'.inn k i hk hi,e3,wI2 (x:=((k+1:Nat):Int) - 1),show ((k+1:Nat):Int) - 1=(k:Int) by omega,wS2]
  rw [wkS] at hf ⊢;cases q:(wk l ok k (stR (l.getD (k+1) default) i+j)).2 with
  | false=>
   rw [q,vS] at hf;obtain ⟨s1,L1,t1,m1,⟨b1,x1⟩,S1,u1,_⟩:=IH (stR (l.getD (k+1) default) i+j) s L t (k:Int) m cnt o o' (by omega) S (by omega) (.inr rfl) hm hc hf;rw [vS];refine ⟨s1,L1,t1,m1,⟨b1+1,fun f hf2=>?_⟩,S1,by omega,fun z=>by cases z⟩;obtain ⟨f,rfl⟩:=kS1 f;show G b (f+1) _ _ s o m false (j:Int)=_;rw [step,show V f _ _ _ _ o=_ from x1 f (by omega),bS,q,iF (show ¬ false=true by simp)];rfl
  | true=>
   rw [q,iT rfl,List.foldlM_append] at hf;cases ho:(wk l ok k (stR (l.getD (k+1) default) i+j)).1.foldlM (onW on l BL ND) o with
   | none=>rw [ho] at hf; cases hf
   | some o1=>
    rw [ho] at hf;replace hf:(wkR (wk l ok k) (stR (l.getD (k+1) default) i+(j+1)) rem).1.foldlM (onW on l BL ND) o1=some o':=hf;obtain ⟨s1,L1,t1,m1,⟨b1,x1⟩,S1,u1,c1⟩:=IH (stR (l.getD (k+1) default) i+j) s L t (k:Int) m cnt o o1 (by omega) S (by omega) (.inr rfl) hm hc ho;have c1':=c1 q;obtain ⟨s2,L2,t2,m2,⟨b2,x2⟩,S2,u2,c2⟩:=ih (j+1) s1 L1 t1 m1 _ o1 o' (by omega) S1 (by omega) c1' (fun d hd=>by
     show (if k - d<=k then _ else _)=_
     rw [iO,show k - (k - d)=d by omega]; rfl) hf
    rw [iT rfl];refine ⟨s2,L2,t2,m2,⟨b1+b2+1,fun f hf2=>?_⟩,S2,by omega,fun z=>?_⟩
    ·obtain ⟨f,rfl⟩:=kS1 f;show G b (f+1) _ _ s o m false (j:Int)=_;rw [step,show V f _ _ _ _ o=_ from x1 f (by omega),bS,q,iT rfl,vS];exact x2 f (by omega)
    ·have c2':=c2 z;intro k' j' hk' hj';rw [c2' k' j' hk' hj'];dsimp only;by_cases w:k'<=k
     ·rw [iT w,iT w,show stR (l.getD (k+1) default) i+(j+1)+rem=stR (l.getD (k+1) default) i+j+(rem+1) by omega]
     ·rw [iF w,iF w,iF w]
theorem Ztv (X:VisC α on V G) (g:Geo c N B n) (T:GoodT c l) (Gr:Gro l LO HI) (VT':VT c N K l BL ND ok):∀(k i:Nat) (s:Shf) (L:List Nat) (t:Nat) (lv:Int) (m:TS) (cnt:Nat->Nat) (o o':α),k<l.length->i<wd l k->ShK c N B n t s L q K h->t+(ds l k i+1)<=800000->(lv=-1\/lv=(k:Int))->Zai l BL m cnt->(∀ d,d<=k->cnt (k - d)=fdn l d k i)->(wk l ok k i).1.foldlM (onW on l BL ND) o=some o'->∃ s' L' t' m',Ev (fun f=>V f (s,m,false) ((BL k i:Nat):Int) lv (spA l k i) o) (if (wk l ok k i).2=true then 0 else 12,o',s',m',false)/\ShK c N B n t' s' L' q K h/\t'<=t+(ds l k i+1)/\((wk l ok k i).2=true->Zai l BL m' fun k'=>if k'<=k then fdn l (k - k') k (i+1) else cnt k'):=by
 have hc:=Gc g.ok;intro k
 induction k with
 | zero=>
  intro i s L t lv m cnt o o' hk hi S ht hv hm hcn hf;obtain ⟨s1,L1,⟨b0,e⟩,S1⟩:=VT'.load g S (by omega) hk hi;obtain ⟨⟨b1,er⟩,ec⟩:=VT'.ev hc hk hi (spA l 0 i);have l0:=VT'.lf i hi;have c0:cnt 0=i:=hcn 0 (Nat.zero_le _);have hs:Zr false m ((BL 0 i:Nat):Int)=false:=Bool.eq_false_iff.2 fun z=>by have:=(hm 0 i hk hi).1 z; omega
  have rr:=VT'.lfR i hi;have cfg:s1.1=c:=S1.cfg;have head:∀ f,b0+b1<=f->V (f+3) (s,m,false) ((BL 0 i:Nat):Int) lv (spA l 0 i) o=if ok i=true then (on ((BL 0 i:Nat):Int) (ND 0 i) (spA l 0 i) o).bind fun o'=>G (decide (0<=lv)) f (spA l 0 i) (ND 0 i,0,s1) s1 o' (X6 ((BL 0 i:Nat):Int) true m) false 0 else some (12,o,s1,m,false):=fun f hf=>by
   rw [<- rr];exact X.hV f s m _ lv _ o (ND 0 i) s1 _ (e (f+2) (by omega)) hs (by rcases hv with z | z; exact .inl z; exact .inr ⟨by rw [l0,z]; rfl,by rw [z]; exact Int.le_refl _⟩) (by rw [cfg]; exact er (f+2) (by omega)) ec
  have wk0:wk l ok 0 i=if ok i=true then ([(0,i)],true) else ([],false):=rfl
  rw [wk0] at hf ⊢;cases q:ok i with
  | false=>
   rw [q,vS] at hf;have ho:o'=o:=by simpa using hf.symm
   subst ho;rw [iF (show ¬ false=true by simp)];refine ⟨s1,L1,t+1,m,⟨b0+b1+3,fun f hf2=>?_⟩,S1,by omega,fun z=>by cases z⟩;obtain ⟨f,rfl⟩:=kS3 f;show V (f+3) _ _ _ _ _=_;rw [head f (by omega),q,vS];rfl
  | true=>
   rw [q,iT rfl] at hf;rw [iT rfl];have ho:on ((BL 0 i:Nat):Int) (ND 0 i) (spA l 0 i) o=some o':=by simpa [onW] using hf
   have kd0:(ND 0 i).2.1=[]:=by
    have:=VT'.rt 0 i hk hi;unfold Yx at this;rw [iT l0] at this;simp only [Za4,Bool.and_eq_true,dE] at this;exact this.2.1
   refine ⟨s1,L1,t+1,X6 ((BL 0 i:Nat):Int) true m,⟨b0+b1+4,fun f hf2=>?_⟩,S1,by omega,fun _ k' j' hk' hj'=>?_⟩
   ·obtain ⟨f,rfl⟩:∃ k2,f=k2+4:=⟨f - 4,by omega⟩;show V (f+1+3) _ _ _ _ _=_;rw [head (f+1) (by omega),q,iT rfl,ho,bS,X.hG,kd0,vS];rfl
   ·rw [Zc7];dsimp only;by_cases z:k'<=0
    ·obtain rfl:k'=0:=by omega
     rw [iT z];show _↔j'<i+1;by_cases w:j'=i
     ·rw [w,iT rfl]; exact ⟨fun _=>by omega,fun _=>rfl⟩
     ·rw [iF (fun y=>w (VT'.inj 0 j' 0 i hk' hj' hk hi (by omega)).2),hm 0 j' hk' hj',c0]; omega
    ·rw [iF z,iF (fun y=>z (by have:=(VT'.inj k' j' 0 i hk' hj' hk hi (by omega)).1; omega)),hm k' j' hk' hj']
 | succ k ih=>
  intro i s L t lv m cnt o o' hk hi S ht hv hm hcn hf;obtain ⟨s1,L1,⟨b0,e⟩,S1⟩:=VT'.load g S (by omega) hk hi;obtain ⟨⟨b1,er⟩,ec⟩:=VT'.ev hc hk hi (spA l (k+1) i);have lv1:(ND (k+1) i).1=((k+1:Nat):Int):=by rw [VT'.inn k i hk hi]; exact (Gr.nd hk hi).lvl
  have c0:cnt (k+1)=i:=hcn 0 (Nat.zero_le _);have hs:Zr false m ((BL (k+1) i:Nat):Int)=false:=Bool.eq_false_iff.2 fun z=>by have:=(hm (k+1) i hk hi).1 z; omega
  have rr:=VT'.inR k i hk hi;have cfg:s1.1=c:=S1.cfg;have head:∀ f,b0+b1<=f->V (f+3) (s,m,false) ((BL (k+1) i:Nat):Int) lv (spA l (k+1) i) o=(on ((BL (k+1) i:Nat):Int) (ND (k+1) i) (spA l (k+1) i) o).bind fun o'=>G (decide (0<=lv)) f (spA l (k+1) i) (ND (k+1) i,0,s1) s1 o' (X6 ((BL (k+1) i:Nat):Int) true m) false 0:=fun f hf=>by
   have hb:=X.hV f s m _ lv _ o (ND (k+1) i) s1 _ (e (f+2) (by omega)) hs (by rcases hv with z | z; exact .inl z; exact .inr ⟨by rw [lv1,z],by rw [z]; omega⟩) (by rw [cfg]; exact er (f+2) (by omega)) ec;rw [rr,iT rfl] at hb;exact hb
  have wkS:wk l ok (k+1) i=((k+1,i) :: (wkR (wk l ok k) (stR (l.getD (k+1) default) i) (ndT l (k+1) i).2.1.length).1,(wkR (wk l ok k) (stR (l.getD (k+1) default) i) (ndT l (k+1) i).2.1.length).2):=rfl;rw [wkS] at hf ⊢;dsimp only at hf ⊢;rw [List.foldlM_cons] at hf;have hon:onW on l BL ND o (k+1,i)=on ((BL (k+1) i:Nat):Int) (ND (k+1) i) (spA l (k+1) i) o:=rfl;cases ho:on ((BL (k+1) i:Nat):Int) (ND (k+1) i) (spA l (k+1) i) o with
  | none=>rw [hon,ho] at hf; cases hf
  | some o1=>
   rw [hon,ho] at hf;replace hf:(wkR (wk l ok k) (stR (l.getD (k+1) default) i) (ndT l (k+1) i).2.1.length).1.foldlM (onW on l BL ND) o1=some o':=hf;have m1:Zai l BL (X6 ((BL (k+1) i:Nat):Int) true m) fun k'=>if k'=k+1 then i+1 else cnt k':=fun k' j' hk' hj'=>by
    rw [Zc7];dsimp only;by_cases z:k'=k+1
    ·subst z;rw [iT rfl];by_cases w:j'=i
     ·rw [w,iT rfl]; exact ⟨fun _=>by omega,fun _=>rfl⟩
     ·rw [iF (fun y=>w (VT'.inj (k+1) j' (k+1) i hk' hj' hk hi (by omega)).2),hm (k+1) j' hk' hj',c0]; omega
    ·rw [iF z,iF (fun y=>z (VT'.inj k' j' (k+1) i hk' hj' hk hi (by omega)).1),hm k' j' hk' hj']
   obtain ⟨s2,L2,t2,m2,⟨b2,x2⟩,S2,u2,c2⟩:=Zqq (q:=q) (h:=h) (B:=B) (n:=n) X T Gr VT' hk hi (decide (0<=lv)) (r1:=(ND (k+1) i,0,s1)) rfl (fun i s L t lv m cnt o o' a1 a2 a3 a4 a5 a6 a7=>ih i s L t lv m cnt o o' (by omega) a1 a2 a3 a4 a5 a6 a7) (ndT l (k+1) i).2.1.length 0 s1 L1 (t+1) _ _ o1 o' (by omega) S1 (by show t+1+ds l (k+1) i<=_; omega) m1 (fun d hd=>by
    show (if k - d=k+1 then _ else _)=_
    rw [iQ,show k - d=k+1 - (d+1) by omega,hcn (d+1) (by omega)]; rfl) hf
   refine ⟨s2,L2,t2,m2,⟨b0+b1+b2+3,fun f hf2=>?_⟩,S2,by show t2<=t+(Wr (ds l k) (stR (l.getD (k+1) default) i) (ndT l (k+1) i).2.1.length+1); exact Nat.le_trans u2 (by show t+1+Wr (ds l k) (stR (l.getD (k+1) default) i) (ndT l (k+1) i).2.1.length<=_; omega),fun z k' j' hk' hj'=>?_⟩
   ·obtain ⟨f,rfl⟩:=kS3 f;show V (f+3) _ _ _ _ _=_;rw [head f (by omega),ho,bS];exact x2 f (by omega)
   ·rw [c2 z k' j' hk' hj'];dsimp only;have hs:=Y9 (row:=l.getD (k+1) default) hi;have hs':stR (l.getD (k+1) default) (i+1)=stR (l.getD (k+1) default) i+(ndT l (k+1) i).2.1.length:=hs;by_cases w:k'<=k
    ·rw [iT w,iO,show k+1 - k'=(k - k')+1 by omega];show j'<fdn l (k - k') k (stR (l.getD (k+1) default) i+0+_)↔j'<fdn l (k - k') (k+1 - 1) (stR (l.getD (k+1) default) (i+1));rw [hs',Nat.add_zero,Nat.add_sub_cancel]
    ·rw [iF w];by_cases y:k'=k+1
     ·subst y;rw [iT rfl,iT (Nat.le_refl _),Nat.sub_self]; rfl
     ·rw [iF y,iQ]
end
end
abbrev Rep:=Int×Int×Int×Int×Int
def Zhc (nd:Nd) (o:Rep):Rep:=(if w64 (nd.1+1)>o.1 then w64 (nd.1+1) else o.1,w64 (o.2.1+1),if nd.1=0 then w64 (o.2.2.1+1) else o.2.2.1,w64 (o.2.2.2.1+(nd.2.2.2.2.length:Int)),w64 (o.2.2.2.2+(nd.2.2.2.1.length:Int)))
theorem Zth (i:Int) (nd:Nd) (p:Sp) (o:Rep):Q163.f i nd p o=some (true,Zhc nd o):=by
 unfold Q163.f Zhc;by_cases q:nd.1=0
 ·rw [iT (dT q),iT q]
 ·rw [iF (by simpa using q),iF q]
def Zig (_:Int) (nd:Nd) (_:Sp) (o:Rep):Option Rep:=some (Zhc nd o)
def Zpm (_:Bool) (f:Nat) (p:Sp) (r1:Nd×Int×Shf) (s:Shf) (o:Rep) (m:TS) (e:Bool) (j:Int):Option (Int×Rep×Shf×List T1×Bool):=Q165.l2 f p r1 s.1 s.2.1.1 s.2.1.2.2.2.2 s.2.2.1 o s.2.1.2.1 s.2.1.2.2.1 s.2.1.2.2.2.1 s.2.2.2 m e j
theorem Zqo:VisC Rep Zig Q165.f Zpm:=by
 refine ⟨fun f s m i lv p o nd s' r hL hm hv hr hc=>?_,fun b f p r1 s o m j=>?_⟩
 ·rw [Q165.f,show Q80.f (f+2) s i=_ from hL,bS,vS,iF (by simp [hm])];have cf:Q79.f s'=some s'.1:=rfl;have j:Q165.l0 (f+2) (s,m,false) i p o (nd,0,s') false=(Zig i nd p o).bind fun o'=>Zpm (decide (0<=lv)) f p (nd,0,s') s' o' (X6 i true m) false 0:=by
   rw [Q165.l0,hc,bS,Zth,bS,vS,Q165.l1];rfl
  rcases hv with rfl | ⟨rfl,h0⟩
  ·rw [iF (by decide)];dsimp only;rw [cf,bS,hr,bS];cases r with
   | false=>rfl
   | true=>rw [vS,iT rfl]; exact j
  ·rw [iT (dT h0),vS];dsimp only;rw [cf,bS,hr,bS];cases r with
   | false=>rfl
   | true=>rw [vS,iT rfl]; exact j
 ·show Q165.l2 (f+1) p r1 _ _ _ _ o _ _ _ _ m false j=_;rw [Q165.l2];rfl
section
variable {c:Cfg} {l:Tre} {LO HI:Nat->Nat->List UInt8} {ok:Nat->Bool}
end
section
variable {c:Cfg} {l:Tre} {LO HI:Nat->Nat->List UInt8} {ok:Nat->Bool} {BL:Nat->Nat->Nat} {ND:Nat->Nat->Nd}
theorem Zdu:∀ d k,fdn l d k 0=0
 | 0,_=>rfl
 | d+1,k=>by rw [fdn,Zas,Zdu d]
theorem Zmj (G:Gro l LO HI):∀ {d k:Nat},d<=k->k<l.length->fdn l d k (wd l k)=wd l (k - d)
 | 0,k,_,_=>rfl
 | d+1,0,h,_=>by omega
 | d+1,k+1,h,hk=>by
  show fdn l d k (stR (l.getD (k+1) default) (wd l (k+1)))=_;rw [(G.row k hk).2.1,Zmj G (by omega) (by omega),show k+1 - (d+1)=k - d by omega]
end
section
variable {c:Cfg} {N B n q t:Nat} {s:Shf} {L:List Nat} {K:Nat->List Int} {h:Nat->Bool} {l:Tre} {BL:Nat->Nat->Nat} {LO HI:Nat->Nat->List UInt8} {ND:Nat->Nat->Nd} {ok:Nat->Bool} {α:Type}
variable {on:Int->Nd->Sp->α->Option α} {V:Nat->Shf×List T1×Bool->Int->Int->Sp->α->Option (Int×α×Shf×List T1×Bool)} {G:Bool->Nat->Sp->Nd×Int×Shf->Shf->α->List T1->Bool->Int->Option (Int×α×Shf×List T1×Bool)}
theorem Zhm (T:GoodT c l) (Gr:Gro l LO HI):ds l (l.length - 1) 0+1<=906:=by
 have hne:=Gr.ne;have h6:=T.len;have:=Zmi T (l.length - 1) (by omega);rw [Zr9 T Gr];omega
theorem Zj2 (hne:0<l.length):spA l (l.length - 1) 0=([],[],true):=by
 unfold spA;rw [Nat.sub_self]; rfl
theorem Zkl (X:VisC α on V G) (g:Geo c N B n) (T:GoodT c l) (Gr:Gro l LO HI) (VT':VT c N K l BL ND ok) (S:ShK c N B n t s L q K h) (ht:t<=700000) {o o':α} (hf:(wk l ok (l.length - 1) 0).1.foldlM (onW on l BL ND) o=some o'):∃ s' L' t' m',Ev (fun f=>V f (s,[],false) ((BL (l.length - 1) 0:Nat):Int) (-1) ([],[],true) o) (if (wk l ok (l.length - 1) 0).2=true then 0 else 12,o',s',m',false)/\ShK c N B n t' s' L' q K h/\t'<=t+1000:=by
 have hne:=Gr.ne;have top:=T.top;have d:=Zhm T Gr;obtain ⟨s',L',t',m',e,S',u,_⟩:=Ztv X g T Gr VT' (l.length - 1) 0 s L t (-1) [] (fun _=>0) o o' (by omega) (by omega) S (by omega) (.inl rfl) (fun k j _ _=>⟨fun z=>Bool.noConfusion (show false=true from z),fun z=>absurd z (Nat.not_lt_zero _)⟩) (fun d _=>(Zdu d _).symm) hf;rw [Zj2 hne] at e;exact ⟨s',L',t',m',e,S',by omega⟩
end
def Bj (i:Int) (_:Nd) (_:Sp) (o:T3):Option T3:=if (o.length+1)*4<=140737488355328 then some (o ++ [i]) else none
section
variable {c:Cfg} {N B n q t:Nat} {s:Shf} {L:List Nat} {K:Nat->List Int} {h:Nat->Bool} {l:Tre} {BL:Nat->Nat->Nat} {LO HI:Nat->Nat->List UInt8} {ND:Nat->Nat->Nd}
theorem Zjb:∀(W:List T4) (o:T3),o.length+W.length<=1000000->W.foldlM (onW Bj l BL ND) o=some (o ++ W.map fun w=>((BL w.1 w.2:Nat):Int))
 | [],o,_=>by rw [List.map_nil,List.append_nil]; rfl
 | w :: W,o,h=>by
  rw [length_cons] at h;have e:onW Bj l BL ND o w=some (o ++ [((BL w.1 w.2:Nat):Int)]):=by unfold onW Bj; rw [iO]
  rw [List.foldlM_cons,e];show W.foldlM _ _=_;rw [Zjb W _ (by simp; omega),List.map_cons,append_assoc]; rfl
end
section
variable {c:Cfg} {N B n q t:Nat} {s:Shf} {L:List Nat} {K:Nat->List Int} {h:Nat->Bool} {l:Tre} {BL:Nat->Nat->Nat} {LO HI:Nat->Nat->List UInt8} {ND:Nat->Nat->Nd} {ok:Nat->Bool}
theorem Zjy {g:Nat->List T4×Bool} {F:Nat->Nat} {z:Nat} {b:Bool}:∀ m a,(∀ i,a<=i->i<a+m->F i<=F (i+1)/\(g i).2=if F i<=z/\z<F (i+1) then b else true)->F a<=F (a+m)/\(wkR g a m).2=if F a<=z/\z<F (a+m) then b else true
 | 0,a,_=>⟨Nat.le_refl _,by rw [iF (by rw [Nat.add_zero]; omega)]; rfl⟩
 | m+1,a,h=>by
  obtain ⟨h0,h1⟩:=h a (Nat.le_refl _) (by omega);obtain ⟨r0,r1⟩:=Zjy m (a+1) fun i hi hi2=>h i (by omega) (by omega);rw [show a+1+m=a+(m+1) by omega] at r0 r1;refine ⟨by omega,?_⟩;have e:(wkR g a (m+1)).2=if (g a).2=true then (wkR g (a+1) m).2 else false:=by
   rw [wkR];split <;> rfl
  rw [e,h1,r1];by_cases q:F a<=z/\z<F (a+1)
  ·rw [iT q,iT (show F a<=z/\z<F (a+(m+1)) by omega),iF (show ¬ (F (a+1)<=z/\z<F (a+(m+1))) by omega)];cases b <;> rfl
  ·rw [iF q,iT rfl];by_cases w:F (a+1)<=z/\z<F (a+(m+1))
   ·rw [iT w,iT (show F a<=z/\z<F (a+(m+1)) by omega)]
   ·rw [iF w,iF (show ¬ (F a<=z/\z<F (a+(m+1))) by omega)]
theorem Znz (G:Gro l LO HI) {z:Nat} {b:Bool} (hok:∀ i,ok i=if i=z then b else true):∀ k i,k<l.length->i<wd l k->fdn l k k i<=fdn l k k (i+1)/\(wk l ok k i).2=if fdn l k k i<=z/\z<fdn l k k (i+1) then b else true
 | 0,i,_,_=>by
  have e:(wk l ok 0 i).2=ok i:=by rw [wk]; cases ok i <;> rfl
  refine ⟨Nat.le_succ _,?_⟩;rw [e,hok i];show _=if i<=z/\z<i+1 then b else true
  by_cases q:i=z
  ·rw [iT q,iT (show i<=z/\z<i+1 by omega)]
  ·rw [iF q,iF (show ¬ (i<=z/\z<i+1) by omega)]
 | k+1,i,hk,hi=>by
  have hs:=Y9 (row:=l.getD (k+1) default) hi;have hs':stR (l.getD (k+1) default) (i+1)=stR (l.getD (k+1) default) i+(ndT l (k+1) i).2.1.length:=hs;have hm:=Wi (row:=l.getD (k+1) default) (i:=i+1) (j:=wd l (k+1)) hi (Nat.le_refl _);rw [(G.row k hk).2.1] at hm;have r:=Zjy (g:=wk l ok k) (F:=fdn l k k) (z:=z) (b:=b) (ndT l (k+1) i).2.1.length (stR (l.getD (k+1) default) i) fun a h1 h2=>Znz G hok k a (by omega) (by omega);rw [<- hs'] at r;exact r
theorem Zk1 (T:GoodT c l) (G:Gro l LO HI) {z:Nat} (hz:z<wd l 0) {b:Bool} (hok:∀ i,ok i=if i=z then b else true):(wk l ok (l.length - 1) 0).2=b:=by
 have hne:=G.ne;have top:=T.top;have e:=Zmj G (d:=l.length - 1) (k:=l.length - 1) (by omega) (by omega);rw [top,Nat.sub_self] at e;rw [(Znz G hok (l.length - 1) 0 (by omega) (by omega)).2,Zdu,show fdn l (l.length - 1) (l.length - 1) (0+1)=wd l 0 from e,iT ⟨Nat.zero_le _,hz⟩]
theorem Zj4 {g:Nat->List T4×Bool} {f:Nat->Nat}:∀ m a,(∀ i,(g i).1.length<=f i+1)->(wkR g a m).1.length<=Wr f a m
 | 0,a,_=>Nat.le_refl _
 | m+1,a,h=>by
  have h1:=h a;have h2:=Zj4 m (a+1) h;rw [wkR];show _<=f a+1+Wr f (a+1) m;split
  ·rw [lA]; omega
  ·show (g a).1.length<=_; omega
theorem Zke:∀ k i,(wk l ok k i).1.length<=ds l k i+1
 | 0,i=>by rw [wk]; split <;> simp [ds]
 | k+1,i=>by
  have:=Zj4 (g:=wk l ok k) (f:=ds l k) (ndT l (k+1) i).2.1.length (stR (l.getD (k+1) default) i) (Zke k);rw [wk,length_cons];show _<=Wr (ds l k) _ _+1;omega
theorem Zhq:∀(W:List T4) (o:Rep),∃ o',W.foldlM (onW Zig l BL ND) o=some o'
 | [],o=>⟨o,rfl⟩
 | w :: W,o=>by
  obtain ⟨o',h⟩:=Zhq W (Zhc (ND w.1 w.2) o);exact ⟨o',by rw [List.foldlM_cons]; exact h⟩
def ndZ (l:Tre) (BL:Nat->Nat->Nat) (z:Nat) (m:Nd) (k i:Nat):Nd:=if k=0/\i=z then m else Xt l BL k i
theorem Zsb (T:GoodT c l) (Gr:Gro l LO HI) (P:RowsB c N K h l l.length BL) {z:Nat} (hz:z<wd l 0) {m:Nd} (m0:m.1=0) (kd:∀ x∈m.2.1,0<=x/\x<4294967296) (rt:Yx c W4 m=true):VT c N (upd K (BL 0 z) (Wu c m)) l BL (ndZ l BL z m) (fun i=>if i=z then Yx c (spA l 0 z) m else true):=by
 have z0:∀ k i,¬ (k=0/\i=z)->ndZ l BL z m k i=Xt l BL k i:=fun k i q=>by unfold ndZ; rw [iF q]
 have z1:ndZ l BL z m 0 z=m:=by unfold ndZ; rw [iT ⟨rfl,rfl⟩]
 exact {
  b1:=fun k i hk hi=>(P.sp k i hk hi).b1
  bN:=fun k i hk hi=>(P.sp k i hk hi).bN
  kb:=fun k i hk hi=>by
   by_cases q:k=0/\i=z
   ·obtain ⟨rfl,rfl⟩:=q;rw [z1,Z8]
   ·rw [z0 k i q,Yj (fun e=>q (P.inj k i 0 z hk hi Gr.ne hz e))];exact (P.sp k i hk hi).kb
  kd:=fun k i hk hi=>by
   by_cases q:k=0/\i=z
   ·obtain ⟨rfl,rfl⟩:=q;rw [z1]; exact kd
   ·rw [z0 k i q]; exact (P.sp k i hk hi).kd
  rt:=fun k i hk hi=>by
   by_cases q:k=0/\i=z
   ·obtain ⟨rfl,rfl⟩:=q;rw [z1]; exact rt
   ·rw [z0 k i q]; exact (P.sp k i hk hi).rt
  inn:=fun k i _ _=>z0 _ _ (by omega)
  inR:=fun k i hk hi=>by
   rw [z0 _ _ (by omega)];exact Zno T Gr hk hi (P.sp (k+1) i hk hi).rt
  lf:=fun i hi=>by
   by_cases q:i=z
   ·subst q; rw [z1]; exact m0
   ·rw [z0 _ _ (by omega)]; exact (Gr.leaf i hi).1
  lfR:=fun i hi=>by
   by_cases q:i=z
   ·subst q; rw [z1,iT rfl]
   ·rw [z0 _ _ (by omega),iF q];exact Zno T Gr Gr.ne hi (P.sp 0 i Gr.ne hi).rt
  inj:=fun k j k' j' a b c d e=>P.inj k j k' j' a b c d e }
end
section
variable {c:Cfg} {l:Tre} {LO HI:Nat->Nat->List UInt8}
theorem Zoe {p:TR} (hp:∀ i,(p.getD i []).length<=300) (j:Nat) {s:Sp} (h1:s.1.length<=300) (h2:s.2.1.length<=300):(Wx (Yp p j) s).1.1.length<=300/\(Wx (Yp p j) s).1.2.1.length<=300:=by
 have o1:(Yp p j).1.length<=300:=by
  unfold Yp;dsimp only;split
  ·exact hp _
  ·exact Nat.zero_le _
 have o2:(Yp p j).2.1.length<=300:=by
  unfold Yp;dsimp only;split
  ·exact Nat.zero_le _
  ·exact hp _
 unfold Wx;split
 ·exact ⟨Nat.zero_le _,Nat.zero_le _⟩
 ·unfold Wp;dsimp only;constructor
  ·split
   ·exact h1
   ·exact o1
  ·split
   ·split
    ·exact Nat.zero_le _
    ·exact h2
   ·split
    ·exact o2
    ·split
     ·exact h2
     ·exact o2
theorem Zfc (T:GoodT c l) (G:Gro l LO HI):∀(d k i:Nat),k+d+1=l.length->i<wd l k->(spA l k i).1.length<=300/\(spA l k i).2.1.length<=300
 | 0,k,i,hk,hi=>by
  have top:=T.top;obtain rfl:k=l.length - 1:=by omega
  rw [top] at hi;obtain rfl:i=0:=by omega
  rw [Zj2 (by omega)];exact ⟨Nat.zero_le _,Nat.zero_le _⟩
 | d+1,k,a,hk,ha=>by
  obtain ⟨r1,r2,r3⟩:=G.row k (by omega);obtain ⟨i,hi,i1,i2⟩:=Uo (row:=l.getD (k+1) default) (a:=a) (m:=wd l (k+1)) (Nat.le_refl _) (by rw [r2]; exact ha);obtain ⟨h1,h2⟩:=Zfc T G d (k+1) i (by omega) hi;have nd:=G.nd (k:=k) (by omega) hi;have hs:=Y9 (row:=l.getD (k+1) default) hi;have hs':stR (l.getD (k+1) default) (i+1)=stR (l.getD (k+1) default) i+(ndT l (k+1) i).2.1.length:=hs;obtain ⟨j,ej⟩:∃ j,a=stR (l.getD (k+1) default) i+j:=⟨a - stR (l.getD (k+1) default) i,by omega⟩;subst ej;rw [Zfe (by omega) hi (by omega)];refine Zoe (fun b=>?_) j h1 h2;by_cases q:b<(ndT l (k+1) i).2.2.1.length
  ·have:=(nd.pv b q).2.2; omega
  ·rw [Zb0 (by omega)]; exact Nat.zero_le _
end
section
variable {c:Cfg} {l:Tre} {LO HI:Nat->Nat->List UInt8} {BL:Nat->Nat->Nat}
theorem Zp7 (G:Gro l LO HI) {k i:Nat} (hk:k+1<l.length) (hi:i<wd l (k+1)):Wa BL k (stR (l.getD (k+1) default) i) ++ (Xt l BL (k+1) i).2.1=Wa BL k (stR (l.getD (k+1) default) (i+1)):=by
 have nd:=G.nd hk hi;have hs:=Y9 (row:=l.getD (k+1) default) hi;have hs':stR (l.getD (k+1) default) (i+1)=stR (l.getD (k+1) default) i+(ndT l (k+1) i).2.1.length:=hs;have e:(Xt l BL (k+1) i).2.1=(List.range (ndT l (k+1) i).2.1.length).map fun j=>((BL k (stR (l.getD (k+1) default) i+j):Nat):Int):=by
  unfold Xt;dsimp only;rw [nd.kid,List.map_map,length_map,length_range];refine List.map_congr_left fun j _=>?_;show ((BL (k+1 - 1) ((((stR (l.getD (k+1) default) i+j+1:Nat):Int)).toNat - 1):Nat):Int)=_;rw [tN,Nat.add_sub_cancel,Nat.add_sub_cancel]
 rw [e,hs'];unfold Wa;rw [List.range_add,List.map_append,List.map_map];rfl
end
def Zrq (_:Bool) (f:Nat) (p:Sp) (r1:Nd×Int×Shf) (s:Shf) (o:T3) (m:TS) (e:Bool) (j:Int):Option (Int×List Int×Shf×List T1×Bool):=Q164.l2 f p r1 s.1 s.2.1.1 s.2.1.2.2.2.2 s.2.2.1 s.2.1.2.1 s.2.1.2.2.1 s.2.1.2.2.2.1 s.2.2.2 m o e j
theorem Zsf:VisC T3 Bj Q164.f Zrq:=by
 refine ⟨fun f s m i lv p o nd s' r hL hm hv hr hc=>?_,fun b f p r1 s o m j=>?_⟩
 ·rw [Q164.f,show Q80.f (f+2) s i=_ from hL,bS,vS,iF (by simp [hm])];have cf:Q79.f s'=some s'.1:=rfl;have bl:Q161.f i nd p o=(Bj i nd p o).bind fun o'=>some (true,o'):=by
   unfold Q161.f Bj;by_cases q:(o.length+1)*4<=140737488355328
   ·rw [iT q,iT (by exact q)]; rfl
   ·rw [iF q,iF (by exact q)]; rfl
  have j:Q164.l0 (f+2) (s,m,false) i p o (nd,0,s') false=(Bj i nd p o).bind fun o'=>Zrq (decide (0<=lv)) f p (nd,0,s') s' o' (X6 i true m) false 0:=by
   rw [Q164.l0,hc,bS,bl];cases Bj i nd p o with
   | none=>rfl
   | some o'=>rw [bS,bS,vS,Q164.l1]; rfl
  rcases hv with rfl | ⟨rfl,h0⟩
  ·rw [iF (by decide)];dsimp only;rw [cf,bS,hr,bS];cases r with
   | false=>rfl
   | true=>rw [vS,iT rfl]; exact j
  ·rw [iT (dT h0),vS];dsimp only;rw [cf,bS,hr,bS];cases r with
   | false=>rfl
   | true=>rw [vS,iT rfl]; exact j
 ·show Q164.l2 (f+1) p r1 _ _ _ _ _ _ _ _ m o false j=_;rw [Q164.l2];rfl
section
variable {c:Cfg} {N B n q t:Nat} {s:Shf} {L:List Nat} {K:Nat->List Int} {h:Nat->Bool} {l:Tre} {BL:Nat->Nat->Nat} {LO HI:Nat->Nat->List UInt8} {ND:Nat->Nat->Nd} {ok:Nat->Bool}
theorem Zmw (g:Geo c N B n) (T:GoodT c l) (Gr:Gro l LO HI) (VT':VT c N K l BL ND ok) (S:ShK c N B n t s L q K h) (ht:t<=700000):∃ s' L' t',Ev (fun f=>Q160.f f s ((BL (l.length - 1) 0:Nat):Int)) (if (wk l ok (l.length - 1) 0).2=true then (((wk l ok (l.length - 1) 0).1.map fun w=>((BL w.1 w.2:Nat):Int)).mergeSort fun x y=>decide (x<=y),0,s') else ([],12,s'))/\ShK c N B n t' s' L' q K h/\t'<=t+1000:=by
 have wl:(wk l ok (l.length - 1) 0).1.length<=906:=Nat.le_trans (Zke _ _) (Zhm T Gr);have fo:=Zjb (l:=l) (BL:=BL) (ND:=ND) (wk l ok (l.length - 1) 0).1 [] (by simp; omega);rw [List.nil_append] at fo;obtain ⟨s',L',t',m',⟨b0,e⟩,S',u⟩:=Zkl Zsf g T Gr VT' S ht fo;obtain ⟨b1,e1⟩:=Zps (l:=(wk l ok (l.length - 1) 0).1.map fun w=>((BL w.1 w.2:Nat):Int)) (by rw [length_map]; omega);refine ⟨s',L',t',⟨b0+b1,fun f hf=>?_⟩,S',u⟩;have e':=e f (by omega);show Q160.f f s _=_;unfold Q160.f Q158.f Q59.f;rw [bS,show Q164.f f (s,[],false) _ (-1) ([],[],true) []=_ from e',bS,bS];cases (wk l ok (l.length - 1) 0).2 with
 | true=>
  rw [iT rfl,vS];dsimp only;rw [show Q104.f f _=_ from e1 f (by omega),bS,iT rfl]
 | false=>rw [iF (show ¬ false=true by simp),iU,iF (show ¬ false=true by simp)]
theorem Zqp (g:Geo c N B n) (T:GoodT c l) (Gr:Gro l LO HI) (VT':VT c N K l BL ND ok) (S:ShK c N B n t s L q K h) (ht:t<=700000):∃ r s' L' t',Ev (fun f=>Q162.f f s ((BL (l.length - 1) 0:Nat):Int)) (r,if (wk l ok (l.length - 1) 0).2=true then 0 else 12,s')/\ShK c N B n t' s' L' q K h/\t'<=t+1000:=by
 obtain ⟨o',fo⟩:=Zhq (l:=l) (BL:=BL) (ND:=ND) (wk l ok (l.length - 1) 0).1 (0,0,0,0,0);obtain ⟨s',L',t',m',⟨b0,e⟩,S',u⟩:=Zkl Zqo g T Gr VT' S ht fo;refine ⟨if (wk l ok (l.length - 1) 0).2=true then o' else (0,0,0,0,0),s',L',t',⟨b0,fun f hf=>?_⟩,S',u⟩
 have e':=e f (by omega);show Q162.f f s _=_;unfold Q162.f Q159.f Q59.f;rw [bS,show Q165.f f (s,[],false) _ (-1) ([],[],true) (0,0,0,0,0)=_ from e',bS,bS];cases (wk l ok (l.length - 1) 0).2 with
 | true=>rw [iT rfl,vS,iT rfl]
 | false=>rw [iF (show ¬ false=true by simp),iU,iF (show ¬ false=true by simp)]
abbrev LV0 (f:Nat) (s:Shf) (at':List Int) (k:Int):Option (List Int×Shf):=Q130.l0 f 0 s.1 s.2.1.1 s.2.1.2.2.2.2 s.2.2.1 s.2.1.2.1 s.2.1.2.2.1 s.2.1.2.2.2.1 s.2.2.2 at' k
abbrev LV1 (f:Nat) (at':List Int) (k:Int) (s:Shf) (now:T3) (i:Int):Option (List Int×Shf):=Q130.l1 f 0 at' k s.1 s.2.1.1 s.2.1.2.2.2.2 s.2.2.1 s.2.1.2.1 s.2.1.2.2.1 s.2.1.2.2.2.1 s.2.2.2 now i
theorem Zhz (g:Geo c N B n) (T:GoodT c l) (Gr:Gro l LO HI) (P:RowsB c N K h l l.length BL) {k:Nat} (hk:k+1<l.length) :
  ∀(m i:Nat) (s:Shf) (L:List Nat) (t:Nat),i+m=wd l (k+1)->ShK c N B n t s L q K h->t+m<=800000->∃ s' L',ShK c N B n (t+m) s' L' q K h/\∀ r,Ev (fun f=>LV0 f s' (Wa BL k (wd l k)) (k:Int)) r->Ev (fun f=>LV1 f (Wa BL (k+1) (wd l (k+1))) ((k+1:Nat):Int) s (Wa BL k (stR (l.getD (k+1) default) i)) (i:Int)) r
 | 0,i,s,L,t,hi,S,ht=>by
  have h6:=T.len;refine ⟨s,L,S,fun r he=>?_⟩;obtain ⟨b0,e⟩:=he;refine ⟨b0+1,fun f hf=>?_⟩;obtain ⟨f,rfl⟩:=kS1 f;have e':=e f (by omega);have rl:(Wa BL (k+1) (wd l (k+1))).length=wd l (k+1):=by unfold Wa; rw [length_map,length_range]
  show LV1 (f+1) _ _ s _ _=_;unfold LV1;rw [Q130.l1,iF (by rw [rl]; simp only [dE]; omega),wI2 (x:=((k+1:Nat):Int) - 1),show ((k+1:Nat):Int) - 1=(k:Int) by omega,show i=wd l (k+1) by omega,(Gr.row k hk).2.1];exact e'
 | m+1,i,s,L,t,hi,S,ht=>by
  have h6:=T.len;have hil:i<wd l (k+1):=by omega
  obtain ⟨s',L',⟨b0,e⟩,S',_⟩:=Zsz g S (by omega) (P.sp (k+1) i hk hil);obtain ⟨s2,L2,S2,c2⟩:=Zhz g T Gr P hk m (i+1) s' L' (t+1) (by omega) S' (by omega);rw [show t+1+m=t+(m+1) by omega] at S2;refine ⟨s2,L2,S2,fun r he=>?_⟩;obtain ⟨b1,e1⟩:=c2 r he;refine ⟨b0+b1+1,fun f hf=>?_⟩;obtain ⟨f,rfl⟩:=kS1 f;have e1':=e1 f (by omega);have rl:(Wa BL (k+1) (wd l (k+1))).length=wd l (k+1):=by unfold Wa; rw [length_map,length_range]
  have kr:=Zp7 (BL:=BL) Gr hk hil;have hs:=Y9 (row:=l.getD (k+1) default) hil;have hm:=Wi (row:=l.getD (k+1) default) (i:=i+1) (j:=wd l (k+1)) hil (Nat.le_refl _);rw [(Gr.row k hk).2.1] at hm;have wb:=T.wb k (by omega);have wb1:=T.wb (k+1) hk;have kl:(Wa BL k (stR (l.getD (k+1) default) i)).length+(Xt l BL (k+1) i).2.1.length=stR (l.getD (k+1) default) (i+1):=by
   rw [<- lA,kr]; unfold Wa; rw [length_map,length_range]
  show LV1 (f+1) _ _ s _ _=_;unfold LV1;rw [Q130.l1,iT (by rw [rl]; simp only [dE]; omega),iT (by rw [rl]; omega),Zt,B4 hil];show Option.bind (Q80.f f s _) _=_;rw [show Q80.f f s _=_ from e f (by omega),bS,iT (show ((Wa BL k (stR (l.getD (k+1) default) i)).length+(Xt l BL (k+1) i).2.1.length)*4<=140737488355328 by omega),wS2];dsimp only;rw [kr];exact e1'
theorem Zhr (g:Geo c N B n) (T:GoodT c l) (Gr:Gro l LO HI) (P:RowsB c N K h l l.length BL):∀(k:Nat) (s:Shf) (L:List Nat) (t:Nat),k<l.length->ShK c N B n t s L q K h->t+200*k<=800000->∃ s' L' t',Ev (fun f=>LV0 f s (Wa BL k (wd l k)) (k:Int)) (Wa BL 0 (wd l 0),s')/\ShK c N B n t' s' L' q K h/\t'<=t+200*k
 | 0,s,L,t,hk,S,ht=>by
  refine ⟨s,L,t,⟨1,fun f hf=>?_⟩,S,by omega⟩;obtain ⟨f,rfl⟩:=kS1 f;show LV0 (f+1) s _ _=_;unfold LV0;rw [Q130.l0,vS]
 | k+1,s,L,t,hk,S,ht=>by
  have wb:=T.wb (k+1) hk;obtain ⟨s1,L1,S1,c1⟩:=Zhz g T Gr P hk (wd l (k+1)) 0 s L t (by omega) S (by omega);obtain ⟨s',L',t',e,S',u⟩:=Zhr g T Gr P k s1 L1 _ (by omega) S1 (by omega);obtain ⟨b0,e0⟩:=c1 _ e;refine ⟨s',L',t',⟨b0+1,fun f hf=>?_⟩,S',by omega⟩;obtain ⟨f,rfl⟩:=kS1 f;show LV0 (f+1) s _ _=_;unfold LV0;rw [Q130.l0,iP];exact e0 f (by omega)
theorem Zsj (g:Geo c N B n) (T:GoodT c l) (Gr:Gro l LO HI) (P:RowsB c N K h l l.length BL) (S:ShK c N B n t s L q K h) (ht:t<=700000):∃ s' L' t',Ev (fun f=>Q130.f f s ((BL (l.length - 1) 0:Nat):Int) (l.length:Int) 0) (Wa BL 0 (wd l 0),s')/\ShK c N B n t' s' L' q K h/\t'<=t+1200:=by
 have hne:=Gr.ne;have h6:=T.len;obtain ⟨s',L',t',⟨b0,e⟩,S',u⟩:=Zhr g T Gr P (l.length - 1) s L t (by omega) S (by omega);refine ⟨s',L',t',⟨b0,fun f hf=>?_⟩,S',by omega⟩;have e':=e f hf;rw [T.top] at e';show Q130.f f s _ _ 0=_;unfold Q130.f;rw [wI2 (x:=(l.length:Int) - 1),show (l.length:Int) - 1=((l.length - 1:Nat):Int) by omega];exact e'
theorem Zkk (Gr:Gro l LO HI) (top:wd l (l.length - 1)=1):∀ d,d<l.length->(spL l d).length=wd l (l.length - 1 - d)
 | 0,_=>by rw [Nat.sub_zero,top]; rfl
 | d+1,hd=>by
  have e:=(Zaz (row:=l.getD (l.length - 1 - d) default) (f:=fun i=>(List.range (ndT l (l.length - 1 - d) i).2.1.length).map fun j=>(Wx (Yp (ndT l (l.length - 1 - d) i).2.2.1 j) ((spL l d).getD i default)).1) (fun i _=>by rw [length_map,length_range]; rfl) (wd l (l.length - 1 - d)) (Nat.le_refl _)).1;obtain ⟨k,ek⟩:∃ k,l.length - 1 - d=k+1:=⟨l.length - 1 - d - 1,by omega⟩;have r:=(Gr.row k (by omega)).2.1;rw [spL,e,ek,r,show l.length - 1 - (d+1)=k by omega]
def spP (l:Tre) (d i:Nat):List Sp:=(List.range i).flatMap fun i=>(List.range (ndT l (l.length - 1 - d) i).2.1.length).map fun j=>(Wx (Yp (ndT l (l.length - 1 - d) i).2.2.1 j) ((spL l d).getD i default)).1
theorem Zo3 (d i:Nat):spP l d (i+1)=spP l d i ++ (List.range (ndT l (l.length - 1 - d) i).2.1.length).map fun j=>(Wx (Yp (ndT l (l.length - 1 - d) i).2.2.1 j) ((spL l d).getD i default)).1:=by
 unfold spP;rw [List.range_succ,List.flatMap_append]; simp
theorem Zje (T:GoodT c l) (Gr:Gro l LO HI) {d k i:Nat} (hd:k+1+d+1=l.length) (hi:i<wd l (k+1)) {r:List Sp} (hx:Ev (fun f=>Q156.l1 f l 0 (spL l d) ((k+1:Nat):Int) (spP l d (i+1)) ((i+1:Nat):Int)) r):∀(m j:Nat),j+m=(ndT l (k+1) i).2.1.length->Ev (fun f=>Q156.l2 f l 0 (spL l d) ((k+1:Nat):Int) (i:Int) (spP l d i ++ (List.range j).map fun j=>(Wx (Yp (ndT l (k+1) i).2.2.1 j) ((spL l d).getD i default)).1) (j:Int)) r
 | 0,j,hj=>by
  have ek:l.length - 1 - d=k+1:=by omega
  obtain ⟨b0,e⟩:=hx;refine ⟨b0+1,fun f hf=>?_⟩;obtain ⟨f,rfl⟩:=kS1 f;have e':=e f (by omega);have hi':i<(l.getD (k+1) default).length:=hi;have ei:gt (gt l ((k+1:Nat):Int)) (i:Int)=ndT l (k+1) i:=by rw [Zt,Zt]; rfl
  show Q156.l2 (f+1) l 0 _ _ _ _ _=_;rw [Q156.l2,ei,Zt,iO,iN,Gl (by have:=T.wb (k+1) (by omega); omega),show j=(ndT l (k+1) i).2.1.length by omega];rw [Zo3,ek] at e';exact e'
 | m+1,j,hj=>by
  have ek:l.length - 1 - d=k+1:=by omega
  have h6:=T.len;have nd:=Gr.nd (k:=k) (by omega) hi;have fan:=nd.fan;have pl:=nd.pvl;obtain ⟨b0,e⟩:=Zje T Gr hd hi hx m (j+1) (by omega);refine ⟨b0+4000,fun f hf=>?_⟩;obtain ⟨f,rfl⟩:=kS1 f;have e':=e f (by omega);have hi':i<(l.getD (k+1) default).length:=hi;have ei:gt (gt l ((k+1:Nat):Int)) (i:Int)=ndT l (k+1) i:=by rw [Zt,Zt]; rfl
  have sl:=Zkk Gr T.top d (by omega);rw [ek] at sl;have hsp:(spL l d).getD i default=spA l (k+1) i:=by unfold spA; rw [show l.length - 1 - (k+1)=d by omega]
  obtain ⟨q1,q2⟩:=Zfc T Gr d (k+1) i (by omega) hi;have sm:Small (ndT l (k+1) i).2.2.1 [] (spA l (k+1) i):=⟨by omega,fun p hp=>by
   obtain ⟨b,hb,eb⟩:=Vz hp [];rw [<- eb];have:=(nd.pv b hb).2.2;omega,Nat.zero_le _,q1,q2⟩
  have len:(spP l d i).length<=151:=by
   have e:=(Zaz (row:=l.getD (l.length - 1 - d) default) (f:=fun i=>(List.range (ndT l (l.length - 1 - d) i).2.1.length).map fun j=>(Wx (Yp (ndT l (l.length - 1 - d) i).2.2.1 j) ((spL l d).getD i default)).1) (fun i _=>by rw [length_map,length_range]; rfl) i (by rw [ek]; exact Nat.le_of_lt hi)).1;show (List.flatMap _ _).length<=151;rw [e,ek];have hm:=Wi (row:=l.getD (k+1) default) (i:=i) (j:=wd l (k+1)) (Nat.le_of_lt hi) (Nat.le_refl _);rw [(Gr.row k (by omega)).2.1] at hm;have:=T.wb k (by omega);omega
  show Q156.l2 (f+1) l 0 _ _ _ _ _=_;rw [Q156.l2,ei,Zt,iO,iT (by simp only [dE]; omega),iO,Zt,hsp,Zh8 sm j (by omega) (by omega),bS,iT (by rw [lA,length_map,length_range,List.length_singleton]; omega),wS2];rw [List.range_succ,List.map_append,<- append_assoc,hsp] at e';exact e'
theorem Zi2 (T:GoodT c l) (Gr:Gro l LO HI) {d k:Nat} (hd:k+1+d+1=l.length) {r:List Sp} (hx:Ev (fun f=>Q156.l0 f l 0 (spL l (d+1)) (k:Int)) r):∀(m i:Nat),i+m=wd l (k+1)->Ev (fun f=>Q156.l1 f l 0 (spL l d) ((k+1:Nat):Int) (spP l d i) (i:Int)) r
 | 0,i,hi=>by
  have ek:l.length - 1 - d=k+1:=by omega
  have h6:=T.len;obtain ⟨b0,e⟩:=hx;refine ⟨b0+1,fun f hf=>?_⟩;obtain ⟨f,rfl⟩:=kS1 f;have e':=e f (by omega);have ei:(gt l ((k+1:Nat):Int)).length=wd l (k+1):=by rw [Zt]; rfl
  show Q156.l1 (f+1) l 0 _ _ _ _=_;rw [Q156.l1,iO,iF (by rw [ei]; simp only [dE]; omega),wI2 (x:=((k+1:Nat):Int) - 1),show ((k+1:Nat):Int) - 1=(k:Int) by omega];rw [show spL l (d+1)=spP l d (wd l (k+1)) by unfold spP; rw [spL,ek],show wd l (k+1)=i by omega] at e';exact e'
 | m+1,i,hi=>by
  have h6:=T.len;have ih:=Zi2 T Gr hd hx m (i+1) (by omega);obtain ⟨b0,e⟩:=Zje T Gr hd (i:=i) (by omega) ih (ndT l (k+1) i).2.1.length 0 (by omega);refine ⟨b0+1,fun f hf=>?_⟩;obtain ⟨f,rfl⟩:=kS1 f;have e':=e f (by omega);have ei:(gt l ((k+1:Nat):Int)).length=wd l (k+1):=by rw [Zt]; rfl
  show Q156.l1 (f+1) l 0 _ _ _ _=_;rw [Q156.l1,iO,iT (by rw [ei]; simp only [dE]; omega)];rw [List.range_zero,List.map_nil,List.append_nil] at e';exact e'
theorem Zl4 (T:GoodT c l) (Gr:Gro l LO HI):∀ k d,k+d+1=l.length->Ev (fun f=>Q156.l0 f l 0 (spL l d) (k:Int)) (spL l (l.length - 1))
 | 0,d,hd=>by
  refine ⟨1,fun f hf=>?_⟩;obtain ⟨f,rfl⟩:=kS1 f;show Q156.l0 (f+1) l 0 _ _=_;rw [Q156.l0,vS,show l.length - 1=d by omega]
 | k+1,d,hd=>by
  obtain ⟨b0,e⟩:=Zi2 T Gr (d:=d) (k:=k) (by omega) (Zl4 T Gr k (d+1) (by omega)) (wd l (k+1)) 0 (by omega);refine ⟨b0+1,fun f hf=>?_⟩;obtain ⟨f,rfl⟩:=kS1 f;show Q156.l0 (f+1) l 0 _ _=_;rw [Q156.l0,iP];exact e f (by omega)
theorem Zmd (T:GoodT c l) (Gr:Gro l LO HI):Ev (fun f=>Q156.f f l 0) (spL l (l.length - 1)):=by
 have hne:=Gr.ne;have h6:=T.len;obtain ⟨b0,e⟩:=Zl4 T Gr (l.length - 1) 0 (by omega);refine ⟨b0,fun f hf=>?_⟩;have e':=e f hf;show Q156.f f l 0=_;unfold Q156.f;rw [wI2 (x:=(l.length:Int) - 1),show (l.length:Int) - 1=((l.length - 1:Nat):Int) by omega];exact e'
end
theorem Gh (k:Nat) (hk:3000<=k):Q129.f k=some true:=by
 obtain ⟨k,rfl⟩:∃ k2,k=k2+3000:=⟨k - 3000,by omega⟩;kernel_rfl
section
variable {c:Cfg} {N B n t q:Nat} {s:Shf} {L:List Nat} {K:Nat->List Int} {h:Nat->Bool}
end
section
variable {c:Cfg}
theorem Zjo {x:Spc} (hx:∀ y∈x.2.2.2,0<=y/\y<256) (hd:∀ y∈x.2.2.1,0<=y/\y<256) {wh:Nat} (hw:wh<65536) {m:Nd} (kd:∀ y∈m.2.1,0<=y/\y<4294967296):∃ k,Q128.f k c x (wh:Int) m=some true:=by
 obtain ⟨R,⟨b0,hb⟩,r⟩:=Zsp (c:=c) hx hd;rcases r with r | ⟨r,s,N,B,n,t,L,K,h,BL,e,I⟩
 ·refine ⟨b0+3002,?_⟩;unfold Q128.f;rw [show Q124.f (b0+3002) c x=_ from hb _ (by omega),bS];cases e:R.1 with
  | none=>dsimp only [Vr]; rw [r,iT (by rfl),Q128.l0,iT rfl,Gh _ (by omega),bS]
  | some s=>dsimp only [Vr]; rw [r,iT (by rfl),Q128.l1,iT rfl,Gh _ (by omega),bS]
 ·obtain ⟨LO,HI,Gr⟩:=I.T.gro;have hne:=Gr.ne;have h6:=I.T.len;have ht:=I.t1;have N4:=I.N4;have wpos:0<wd R.2.2.1 0:=by have:=Zty I.T Gr 0 hne []; omega
  have wb:=I.T.wb 0 hne;have front:∀ k,4000<k->b0<=k->(SmallN m->m.1=0->Q128.l1 k c (wh:Int) m R s false=some true)->Q128.f k c x (wh:Int) m=some true:=fun k hk hb0 hl1=>by
   obtain ⟨g2,eg,h2⟩:=Zjj m (k:=k) (by omega);have aw:Q128.l1 k c (wh:Int) m R s true=some true:=by
    obtain ⟨k,rfl⟩:=kS1 k;rw [Q128.l1,iT rfl,Gh _ (by omega),bS]
   unfold Q128.f;rw [show Q124.f k c x=_ from hb _ hb0,bS,e];dsimp only [Vr];rw [r,vS,eg,bS];cases g2 with
   | true=>rw [iT rfl]; exact aw
   | false=>
    rw [vS];by_cases q:m.1=0
    ·rw [dT q]; exact hl1 (h2 rfl) q
    ·rw [dF q]; exact aw
  by_cases pre:SmallN m/\m.1=0
  ·obtain ⟨sm,m0⟩:=pre;obtain ⟨z,ez⟩:∃ z,z=wh % wd R.2.2.1 0:=⟨_,rfl⟩;have hz:z<wd R.2.2.1 0:=by rw [ez]; exact Nat.mod_lt _ wpos
   obtain ⟨s3,L3,t3,⟨b3,e3⟩,S3,u3⟩:=Zsj I.g I.T Gr I.P I.S (by omega);have sk:=I.P.sp 0 z hne hz;have skN:=sk.bN;obtain ⟨s4,L4,⟨b4,e4⟩,S4,_⟩:=Ztl I.g S3 (by omega) (i:=BL 0 z) (by omega) (nd:=m) (.of sm kd);rw [iT ⟨sk.b1,sk.bN⟩] at e4;rw [<- I.rt] at e3;have rl:(Wa BL 0 (wd R.2.2.1 0)).length=wd R.2.2.1 0:=by unfold Wa; rw [length_map,length_range]
   have md:Int.tmod (w64 (wh:Int)) ((Wa BL 0 (wd R.2.2.1 0)).length:Int)=(z:Int):=by
    rw [wI2,rl,ez]; rfl
   cases hr:Yx c W4 m with
   | false=>
    rw [hr] at e4;refine ⟨b0+b3+b4+5001,front _ (by omega) (by omega) fun _ _=>?_⟩;rw [Q128.l1,vS,show Q130.f _ s R.2.1 (R.2.2.1.length:Int) 0=_ from e3 _ (by omega),bS];dsimp only;rw [md,rl,iO,iO,Zt,B4 hz,show Q82.f _ s3 _ m=_ from e4 _ (by omega),bS,iU,Gh _ (by omega),bS]
   | true=>
    rw [hr,iT rfl] at e4;rw [iT ⟨⟨sk.b1,sk.bN⟩,hr⟩] at S4;have VT':=Zsb I.T Gr I.P hz m0 kd hr;obtain ⟨rp,s5,L5,t5,⟨b5,e5⟩,S5,u5⟩:=Zqp I.g I.T Gr VT' S4 (by omega);obtain ⟨s6,L6,t6,⟨b6,e6⟩,S6,u6⟩:=Zmw I.g I.T Gr VT' S5 (by omega);obtain ⟨b7,e7⟩:=Zmd I.T Gr;rw [<- I.rt] at e5 e6;have wb2:=Zk1 I.T Gr hz (ok:=fun i=>if i=z then Yx c (spA R.2.2.1 0 z) m else true) (b:=Yx c (spA R.2.2.1 0 z) m) fun i=>rfl
    rw [wb2] at e5 e6;obtain ⟨q1,q2⟩:=Zfc I.T Gr (R.2.2.1.length - 1) 0 z (by omega) hz;have sl:=Zkk Gr I.T.top (R.2.2.1.length - 1) (by omega);rw [Nat.sub_self] at sl;have hsp:(spL R.2.2.1 (R.2.2.1.length - 1)).getD z default=spA R.2.2.1 0 z:=rfl;have r13:∀ k,15000<k->Q151.f k c (spA R.2.2.1 0 z) m=some (Yx c (spA R.2.2.1 0 z) m):=fun k hk=>Zhh sm.mid q1 q2 hk;refine ⟨b0+b3+b4+b5+b6+b7+20001,front _ (by omega) (by omega) fun _ _=>?_⟩;rw [Q128.l1,vS,show Q130.f _ s R.2.1 (R.2.2.1.length:Int) 0=_ from e3 _ (by omega),bS];dsimp only;rw [md,rl,iO,iO,Zt,B4 hz,show Q82.f _ s3 _ m=_ from e4 _ (by omega),bS,vS,show Q162.f _ s4 R.2.1=_ from e5 _ (by omega),bS];dsimp only;rw [show Q160.f _ s5 R.2.1=_ from e6 _ (by omega),bS,show Q156.f _ R.2.2.1 0=_ from e7 _ (by omega),bS,sl,iO,Zt,hsp,r13 _ (by omega),bS];cases Yx c (spA R.2.2.1 0 z) m with
    | true=>rw [iT (by rfl),iT (by rfl),iT rfl,Gh _ (by omega),bS]
    | false=>rw [iT (by rfl),iT (by rfl),iF (show ¬ false=true by simp),iT (by rfl),iT (by rfl),Gh _ (by omega),bS]
  ·exact ⟨b0+5000,front _ (by omega) (by omega) fun a b=>absurd ⟨a,b⟩ pre⟩
end
theorem Zrt {n1 n2 n3 n4:Nat} {x:Spc} (h:Ty.fit (Ur tt) (.pair (.slice n1 (.pair .str .str)) (.pair (.slice n2 (.pair .str (.pair .bool .str))) (.pair (.slice n3 (.int .u8)) (.slice n4 (.int .u8))))) x):(∀ y∈x.2.2.2,0<=y/\y<256)/\∀ y∈x.2.2.1,0<=y/\y<256:=by
 have h1:IntKind.u8.min=0:=rfl;have h2:IntKind.u8.max=255:=rfl;refine ⟨fun y hy=>?_,fun y hy=>?_⟩
 ·have:=h.2.2.2.2.2 y hy;simp [Ty.fit,Lit.wf] at this;omega
 ·have:=h.2.2.1.2.2 y hy;simp [Ty.fit,Lit.wf] at this;omega
theorem WalkLeaves_pure {p:Prop} {n1 n2 n3 n4 n5 n6 n7 n8:Nat} (c:Cfg) (x:Spc) (wh:Int) (m:Nd) (_:p) (hx:Ty.fit (Ur tt) (.pair (.slice n1 (.pair .str .str)) (.pair (.slice n2 (.pair .str (.pair .bool .str))) (.pair (.slice n3 (.int .u8)) (.slice n4 (.int .u8))))) x) (hw:Ty.fit (Ur tt) (.int .u16) wh) (hm:Ty.fit (Ur tt) (.pair (.int .i64) (.pair (.slice n5 (.int .u32)) (.pair (.slice n6 .str) (.pair (.slice n7 (.pair .str (.pair .bool .str))) (.slice n8 (.pair .str .str)))))) m):∃ k,Q128.f k c x wh m=some true:=by
 have h0:0<=wh/\wh<65536:=by
  have h1:IntKind.u16.min=0:=rfl;have h2:IntKind.u16.max=65535:=rfl;simp [Ty.fit,Lit.wf] at hw;omega
 obtain ⟨w,rfl⟩:=Int.eq_ofNat_of_zero_le h0.1;refine Zjo (Zrt hx).1 (Zrt hx).2 (by omega) fun y hy=>?_;have h1:IntKind.u32.min=0:=rfl;have h2:IntKind.u32.max=4294967295:=rfl;have:=hm.2.1.2.2 y hy;simp [Ty.fit,Lit.wf] at this;omega
end Go.SK.T
