/- The plain law behind ScanParts: what its code computes is true for all settings, trees, spans and keys. -/
import Derived.Test.YtpghkhgccflcgaaGreatDoorXScanPartsP0
import Derived.KernelRfl
import Derived.Sort.Walk13a
import Derived.Sort.AssemblyPlain
set_option linter.unusedVariables false
set_option linter.unusedSimpArgs false
namespace Go.SK.T
open Go Go.SK
open BitVec (ofInt)
open List (length_set length_nil append_assoc length_cons drop_eq_nil_of_le length_take length_drop length_map length_range length_replicate)
theorem Zb2 {g:Nat->Nat}:∀ {L:List Nat} {a:Nat},(∀ x∈L,g x=g a->x=a)->(L.erase a).map g=(L.map g).erase (g a)
 | [],_,_=>rfl
 | x :: L,a,h=>by
  rw [List.map_cons,List.erase_cons,List.erase_cons];by_cases q:x=a
  ·subst q; simp
  ·have:¬ g x=g a:=fun e=>q (h x (by simp) e);simp only [beq_iff_eq,q,this,if_false,List.map_cons];rw [Zb2 fun y hy=>h y (by simp [hy])]
section
variable {N B n t:Nat} {H:List Nat} {c:Ca} {L:List Nat}
theorem Uk (h:CaI N B n t H c L) {i f:Nat} (ha:((i:Int),(f:Int))∈c.2.2.1):Xt c i=some (fm (c.2.1.getD f default)):=by
 unfold Xt;rw [iT (mhas_iff.2 ⟨_,ha⟩),X9 h.mnd ha,tN]
theorem Jf {i:Nat} (h:∀ v,((i:Int),v)∉c.2.2.1):Xt c i=none:=by
 unfold Xt;rw [iF fun q=>by obtain ⟨v,hv⟩:=mhas_iff.1 q; exact h v hv]
theorem V5 (h:CaI N B n t [] c L) {f:Nat} (hf:f∈L):∃ i:Nat,((i:Int),(f:Int))∈c.2.2.1/\X8 c f=i/\(c.2.1.getD f default).2.2.2=0/\Okf N B n t c i f:=by
 obtain ⟨⟨j,hj⟩,hp⟩:=(h.lok f).1 hf;obtain ⟨i,f',e1,e2,ok⟩:=h.at hj;have:f=f':=by omega
 subst this;refine ⟨i,by rw [<- e1]; exact hj,?_,hp,ok⟩;unfold X8;rw [ok.blk,tN]
theorem Gy (h:CaI N B n t H c L) {i f:Nat} (ha:((i:Int),(f:Int))∈c.2.2.1):X8 c f=i:=by
 unfold X8; rw [(h.atN ha).blk,tN]
theorem Zb9 (h:CaI N B n t H c L) {i f f':Nat} (h1:((i:Int),(f:Int))∈c.2.2.1) (h2:((i:Int),(f':Int))∈c.2.2.1):f=f':=by
 have a1:=X9 (d:=0) h.mnd h1;have a2:=X9 (d:=0) h.mnd h2;omega
theorem Bn (h:CaI N B n t [] c L) {i f:Nat} (ha:((i:Int),(f:Int))∈c.2.2.1):(L.erase f).map (X8 c)=(L.map (X8 c)).erase i:=by
 have e:=Gy h ha
 conv=>rhs; rw [<- e]
 refine Zb2 fun x hx q=>?_;obtain ⟨j,hj,e2,_⟩:=V5 h hx;have:j=i:=by omega
 subst this;exact Zb9 h hj ha
theorem Zq4 (h:CaI N B n t [] c L) {i f:Nat} (ha:((i:Int),(f:Int))∈c.2.2.1):i∈L.map (X8 c)↔f∈L:=by
 constructor
 ·intro q;obtain ⟨x,hx,e⟩:=List.mem_map.1 q;obtain ⟨j,hj,e2,_⟩:=V5 h hx;have:j=i:=by omega
  subst this;rw [<- Zb9 h hj ha]; exact hx
 ·intro q;exact List.mem_map.2 ⟨f,q,Gy h ha⟩
theorem Zfx {f:Nat} {x:Fr8} (hf:f<c.2.1.length) {d:Dv} {mp:TM} {E:TU} {ch:Chn} (k:Nat):X8 (d,c.2.1.set f x,mp,E,ch) k=if f=k then x.1.toNat else X8 c k:=by
 unfold X8
 try dsimp only
 rw [Xc hf];split <;> rfl
theorem Vl {f:Nat} {x:Fr8} (hf:f<c.2.1.length) (hx:x.1.toNat=X8 c f) {d:Dv} {mp:TM} {E:TU} {ch:Chn} (M:List Nat):M.map (X8 (d,c.2.1.set f x,mp,E,ch))=M.map (X8 c):=List.map_congr_left fun k _=>by
 rw [Zfx hf];split
 ·rename_i q; rw [hx,q]
 ·rfl
theorem Jq {f:Nat} {x:Fr8} (hf:f<c.2.1.length) {d:Dv} {mp:TM} {E:TU} {ch:Chn} {M:List Nat} (hM:f∉M):M.map (X8 (d,c.2.1.set f x,mp,E,ch))=M.map (X8 c):=List.map_congr_left fun k hk=>by
 rw [Zfx hf,iF fun q=>hM (by rw [q]; exact hk)]
theorem Jj (h:CaI N B n t H c L) {i f:Nat} (ha:((i:Int),(f:Int))∈c.2.2.1) {x:Fr8} {d:Dv} {E:TU} {ch:Chn} (j:Nat):Xt (d,c.2.1.set f x,c.2.2.1,E,ch) j=upd (Xt c) i (some (fm x)) j:=by
 have ok:=h.atN ha;have hfl:f<c.2.1.length:=by rw [h.frl]; exact ok.hf
 by_cases q:j=i
 ·subst q;rw [Z8];unfold Xt
  try dsimp only
  rw [iT (mhas_iff.2 ⟨_,ha⟩),X9 h.mnd ha,tN,Xc hfl,iT rfl]
 ·rw [Yg q];unfold Xt
  try dsimp only
  split
  ·rename_i hm;obtain ⟨v,hv⟩:=mhas_iff.1 hm;obtain ⟨j',f',e1,rfl,ok'⟩:=h.at hv;have e3:j=j':=by omega
   subst e3;rw [X9 h.mnd hv,tN,Xc hfl,iF];intro e; subst e; exact q (h.one hv ha)
  ·rfl
theorem Zgr (h:CaI N B n t H c L) (i j:Nat):Y7 (Wk (i:Int) c.2.2.1) (j:Int)=(Y7 c.2.2.1 (j:Int) && decide (j≠i)):=by
 rw [Bool.eq_iff_iff,mhas_iff,Bool.and_eq_true,mhas_iff,dE];constructor
 ·rintro ⟨v,hv⟩;rw [Uv h.mnd] at hv;exact ⟨⟨v,hv.1⟩,fun e=>hv.2 (by rw [e])⟩
 ·rintro ⟨⟨v,hv⟩,e⟩;exact ⟨v,(Uv h.mnd).2 ⟨hv,fun q=>e (by have:(j:Int)=i:=q; omega)⟩⟩
theorem Zef (h:CaI N B n t H c L) {i f:Nat} (ha:((i:Int),(f:Int))∈c.2.2.1) {x:Fr8} {d:Dv} {E:TU} {ch:Chn} (j:Nat):Xt (d,c.2.1.set f x,Wk (i:Int) c.2.2.1,E,ch) j=upd (Xt c) i none j:=by
 have ok:=h.atN ha;have hfl:f<c.2.1.length:=by rw [h.frl]; exact ok.hf
 by_cases q:j=i
 ·subst q;rw [Z8];unfold Xt
  try dsimp only
  rw [iF (by rw [Zgr h]; simp)]
 ·rw [Yg q];unfold Xt
  try dsimp only
  rw [Zgr h];by_cases hm:Y7 c.2.2.1 (j:Int)=true
  ·obtain ⟨v,hv⟩:=mhas_iff.1 hm;obtain ⟨j',f',e1,rfl,ok'⟩:=h.at hv;have e3:j=j':=by omega
   subst e3;have hv':((j:Int),(f':Int))∈Wk (i:Int) c.2.2.1:=(Uv h.mnd).2 ⟨hv,fun e=>q (by have:(j:Int)=i:=e; omega)⟩;rw [iT (by rw [hm]; simp [q]),iT hm,X9 ((mdel_sub.map _).nodup h.mnd) hv',X9 h.mnd hv,tN,Xc hfl,iF];intro e; subst e; exact q (h.one hv ha)
  ·rw [iF hm,iF (by simp [hm])]
theorem Zgp {f:Nat} (h:CaI N B n t [f] c L) {i:Nat} (hno:∀ v,((i:Int),v)∉c.2.2.1) {x:Fr8} {d:Dv} {E:TU} {ch:Chn} (j:Nat):Xt (d,c.2.1.set f x,c.2.2.1 ++ [((i:Int),(f:Int))],E,ch) j=upd (Xt c) i (some (fm x)) j:=by
 obtain ⟨hf,hfe,hfm⟩:=h.hol f (by simp);have hfl:f<c.2.1.length:=by rw [h.frl]; exact hf
 have hnd:((c.2.2.1 ++ [((i:Int),(f:Int))]).map Prod.fst).Nodup:=by
  rw [List.map_append,List.nodup_append];refine ⟨h.mnd,by simp,fun a ha b hb e=>?_⟩;obtain ⟨p,hp,rfl⟩:=List.mem_map.1 ha;simp only [List.map_cons,List.map_nil,List.mem_singleton] at hb;exact hno p.2 (by rw [<- hb,<- e]; exact hp)
 unfold Xt
 try dsimp only
 by_cases q:j=i
 ·subst q;have hv:((j:Int),(f:Int))∈c.2.2.1 ++ [((j:Int),(f:Int))]:=by simp
  rw [Z8,iT (mhas_iff.2 ⟨_,hv⟩),X9 hnd hv,tN,Xc hfl,iT rfl]
 ·rw [Yg q];by_cases hm:Y7 c.2.2.1 (j:Int)=true
  ·obtain ⟨v,hv⟩:=mhas_iff.1 hm;obtain ⟨j',f',e1,rfl,ok'⟩:=h.at hv;have e3:j=j':=by omega
   subst e3;have hv':((j:Int),(f':Int))∈c.2.2.1 ++ [((i:Int),(f:Int))]:=by simp [hv]
   rw [iT (mhas_iff.2 ⟨_,hv'⟩),iT hm,X9 hnd hv',X9 h.mnd hv,tN,Xc hfl,iF];intro e; subst e; exact hfm _ hv
  ·rw [iF hm,iF];intro hm2;obtain ⟨v,hv⟩:=mhas_iff.1 hm2;rcases List.mem_append.1 hv with hv | hv
   ·exact hm (mhas_iff.2 ⟨v,hv⟩)
   ·rw [List.mem_singleton,Prod.mk.injEq] at hv;exact q (by omega)
theorem Zqb (h:CaI N B n t H c L) {i:Nat} {x:Fm} (hx:Xt c i=some x):i<N/\x.b.length=B/\x.p<=t:=by
 unfold Xt at hx;split at hx
 ·rename_i hm;obtain ⟨v,hv⟩:=mhas_iff.1 hm;obtain ⟨j',f',e1,rfl,ok'⟩:=h.at hv;have e3:i=j':=by omega
  subst e3;rw [X9 h.mnd hv,tN] at hx;injection hx with hx;subst hx;refine ⟨ok'.hi,ok'.len,?_⟩;have:=ok'.pin;unfold fm
  try dsimp only
  omega
 ·cases hx
end
namespace MC
section
variable {N B n i:Nat} {m k:MC} {x:Fm} {b:TU}
theorem pin_out (h:N<=i):m.pin N B n i=(4,m):=by unfold pin; rw [iT h]
theorem pin_hit (h:¬ N<=i) (e:m.fr i=some x):m.pin N B n i=(0,(m.put i ⟨x.b,x.d,x.p+1⟩).cut i):=by unfold pin; rw [iF h,e]
theorem pin_full (h:¬ N<=i) (e:m.fr i=none) (r:m.room B n=none):m.pin N B n i=(7,m):=by unfold pin; rw [iF h,e,r]
theorem pin_miss (h:¬ N<=i) (e:m.fr i=none) (r:m.room B n=some k):m.pin N B n i=(0,(⟨k.img,k.rd+1,k.wr,k.fr,k.used,k.row⟩:MC).come i ⟨blk k.img B i,false,1⟩):=by unfold pin; rw [iF h,e,r]
theorem fresh_out (h:N<=i):m.fresh N B n i=(4,m):=by unfold fresh; rw [iT h]
theorem fresh_pin (h:¬ N<=i) (e:m.fr i=some x) (p:0<x.p):m.fresh N B n i=(8,m):=by unfold fresh; rw [iF h,e]; exact iT p
theorem fresh_hit (h:¬ N<=i) (e:m.fr i=some x) (p:¬ 0<x.p):m.fresh N B n i=(0,(m.put i ⟨List.replicate B 0,true,1⟩).cut i):=by unfold fresh; rw [iF h,e]; exact iF p
theorem fresh_full (h:¬ N<=i) (e:m.fr i=none) (r:m.room B n=none):m.fresh N B n i=(7,m):=by unfold fresh; rw [iF h,e,r]
theorem fresh_miss (h:¬ N<=i) (e:m.fr i=none) (r:m.room B n=some k):m.fresh N B n i=(0,k.come i ⟨List.replicate B 0,true,1⟩):=by unfold fresh; rw [iF h,e,r]
theorem unpin_no (e:m.fr i=none):m.unpin i=(8,m):=by unfold unpin; rw [e]
theorem unpin_out (e:m.fr i=some x) (p:x.p=0):m.unpin i=(8,m):=by unfold unpin; rw [e]; exact iT p
theorem unpin_one (e:m.fr i=some x) (p:x.p=1):m.unpin i=(0,⟨m.img,m.rd,m.wr,upd m.fr i (some ⟨x.b,x.d,0⟩),m.used,i :: m.row⟩):=by unfold unpin; rw [e]; dsimp only; rw [iQ,iT p]
theorem unpin_more (e:m.fr i=some x) (p:x.p≠0) (q:x.p≠1):m.unpin i=(0,m.put i ⟨x.b,x.d,x.p - 1⟩):=by unfold unpin; rw [e]; dsimp only; rw [iF p,iF q]
theorem write_no (e:m.fr i=none):m.write B i b=(8,m):=by unfold write; rw [e]
theorem write_out (e:m.fr i=some x) (p:x.p=0):m.write B i b=(8,m):=by unfold write; rw [e]; exact iT p
theorem write_form (e:m.fr i=some x) (p:x.p≠0) (q:b.length≠B):m.write B i b=(3,m):=by unfold write; rw [e]; dsimp only; rw [iF p,iF q]
theorem write_hit (e:m.fr i=some x) (p:x.p≠0) (q:b.length=B):m.write B i b=(0,m.put i ⟨b,true,x.p⟩):=by unfold write; rw [e]; dsimp only; rw [iF p,iT q]
theorem read_no (e:m.fr i=none):m.read i=([],8):=by unfold read; rw [e]
theorem read_out (e:m.fr i=some x) (p:x.p=0):m.read i=([],8):=by unfold read; rw [e]; exact iT p
theorem read_hit (e:m.fr i=some x) (p:x.p≠0):m.read i=(x.b,0):=by unfold read; rw [e]; exact iF p
theorem evict_eq (e:m.fr i=some x):m.evict B i=⟨if x.d=true then patch m.img (i*B) B x.b else m.img,m.rd,if x.d=true then m.wr+1 else m.wr,upd m.fr i none,m.used - 1,m.row.erase i⟩:=by unfold evict; rw [e]
end
end MC
section
variable {N B n t:Nat} {H:List Nat} {c:Ca} {L:List Nat}
theorem Zqg {α:Type} (g:Nat->α) (i:Nat) (u v:α) (j:Nat):upd (upd g i u) i v j=upd g i v j:=by unfold upd; split <;> rfl
theorem Zmf {α:Type} {g g':Nat->α} (h:∀ j,g j=g' j) (i:Nat) (v:α) (j:Nat):upd g i v j=upd g' i v j:=by unfold upd; split; rfl; exact h j
theorem Zih (h:CaI N B n t [] c L) (f:Nat):f∉L.erase f:=fun q=>(h.chn.nd.mem_erase_iff.1 q).1 rfl
theorem Zpx (z:Siz N B n) (h:CaI N B n t [] c L) (hw:0<=c.1.2.2.2/\c.1.2.2.2<=1000000000):(Q25.f c=some (0,false,c)/\(Z6 c L).room B n=none)\/
  ∃(f:Nat) (c':Ca) (L':List Nat),Q25.f c=some ((f:Int),true,c')/\CaI N B n t [f] c' L'/\(Z6 c L).room B n=some (Z6 c' L')/\f∉L':=by
 have h64:=z.h64;have htot:=h.tot;have hfl:=h.frl;have wr:uH.wrap (c.1.2.2.2+1)=c.1.2.2.2+1:=Zpw hw;have hru:(Z6 c L).used=c.2.2.1.length:=rfl;by_cases he:c.2.2.2.1=[]
 ·have e0:(decide ((c.2.2.2.1.length:Int)=0))=true:=by rw [he]; rfl
  have eu:¬ (Z6 c L).used<n:=by rw [hru]; rw [he] at htot; simp only [length_nil] at htot; omega
  rcases List.eq_nil_or_concat L with rfl | ⟨L0,q,hq⟩
  ·left;refine ⟨?_,?_⟩
   ·unfold Q25.f;rw [iT e0,show Q29.f (c.2.2.2.2.1,c.2.2.2.2.2)=_ from Zgb h.chn,bS,iU]
   ·unfold MC.room;rw [iF eu];rfl
  ·right;rw [List.concat_eq_append] at hq;subst hq;obtain ⟨⟨j,hj⟩,hp⟩:=(h.lok q).1 (by simp);obtain ⟨i,q',rfl,e2,ok⟩:=h.at hj;have:q=q':=by omega
   subst this;have hf:=ok.hf;have hqn:q∉(L0 ++ [q]).erase q:=Zih h q;have hfr:=Uk h hj;have g:gt c.2.1 (q:Int)=c.2.1.getD q default:=Zx _ _;have hrm:(Z6 c (L0 ++ [q])).room B n=some ((Z6 c (L0 ++ [q])).evict B i):=by
    unfold MC.room;rw [iF eu];have:(Z6 c (L0 ++ [q])).row.getLast?=some i:=by
     show ((L0 ++ [q]).map (X8 c)).getLast?=_;rw [List.map_append,List.map_cons,List.map_nil,List.getLast?_concat,Gy h hj]
    rw [this]
   have hml:=Zdw (mhas_iff.2 ⟨_,hj⟩);unfold Q25.f;rw [iT e0,show Q29.f (c.2.2.2.2.1,c.2.2.2.2.2)=_ from Zpy h.chn (by omega),bS,vS]
   try dsimp only
   rw [iO];have one:w64 ((([] ++ [(q:Int)]:List Int).length:Int) - 1)=0:=by
    show w64 (((1:Nat):Int) - 1)=0;decide
   rw [hrm,MC.evict_eq (show (Z6 c (L0 ++ [q])).fr i=_ from hfr)];by_cases hd:(gt c.2.1 (q:Int)).2.2.1=true
   ·have hb:=h.back z hj (c.1.2.2.1,c.1.2.2.2+1);obtain ⟨ch,e,hl⟩:=Zem z hb (by exact hj);have hd':(fm (c.2.1.getD q default)).d=true:=by rw [<- g]; exact hd
    rw [iT hd,show Q57.f (c.1.1,c.1.2.1,(c.1.2.2.1,c.1.2.2.2)) (gt c.2.1 (q:Int)).1 (gt c.2.1 (q:Int)).2.1=_ from Zni z h hj,bS]
    try dsimp only
    rw [wr,tN,show Q23.f ((c.1.1,patch c.1.2.1 (i*B) B (gt c.2.1 (q:Int)).2.1,c.1.2.2.1,c.1.2.2.2+1),c.2.1.set q ((gt c.2.1 (q:Int)).1,(gt c.2.1 (q:Int)).2.1,false,(gt c.2.1 (q:Int)).2.2.2),c.2.2.1,c.2.2.2.1,c.2.2.2.2.1,c.2.2.2.2.2) (q:Int)=_ from e,bS]
    try dsimp only
    rw [he,one,iU,iU,iT hd',iT hd'];refine ⟨q,_,(L0 ++ [q]).erase q,rfl,hl.take (E:=[]) (by dsimp only; rw [he]),congrArg some (MC.ext' ?_ rfl rfl ?_ ?_ ?_),hqn⟩
    ·show patch c.1.2.1 (i*B) B (fm (c.2.1.getD q default)).b=_;rw [<- g]; rfl
    ·intro j;show upd (Xt c) i none j=_;refine Eq.trans ?_ (Zef hb hj j).symm;refine Eq.trans (Zqg (Xt c) i _ none j).symm (Zmf (fun j=>(Jj h hj j).symm) i none j)
    ·show c.2.2.1.length - 1=(Wk (i:Int) c.2.2.1).length;omega
    ·show ((L0 ++ [q]).map (X8 c)).erase i=_;have hfl2:=hb.frl;refine Eq.trans (Bn h hj).symm ?_;refine Eq.trans ?_ (Jq (c:=((c.1.1,patch c.1.2.1 (i*B) B (gt c.2.1 (q:Int)).2.1,c.1.2.2.1,c.1.2.2.2+1),c.2.1.set q ((gt c.2.1 (q:Int)).1,(gt c.2.1 (q:Int)).2.1,false,(gt c.2.1 (q:Int)).2.2.2),c.2.2)) (by rw [hfl2]; exact hf) hqn).symm;exact (Vl (by omega) (by rw [g]; rfl) _).symm
   ·obtain ⟨ch,e,hl⟩:=Zem z h hj;have hd':¬ (fm (c.2.1.getD q default)).d=true:=by rw [<- g]; exact hd
    rw [iF hd,show Q23.f ((c.1.1,c.1.2.1,(c.1.2.2.1,c.1.2.2.2)),c.2.1,c.2.2.1,c.2.2.2.1,(c.2.2.2.2.1,c.2.2.2.2.2)) (q:Int)=_ from e,bS]
    try dsimp only
    rw [he,one,iU,iU,iF hd',iF hd'];refine ⟨q,_,(L0 ++ [q]).erase q,rfl,hl.take (E:=[]) (by dsimp only; rw [he]),congrArg some (MC.ext' rfl rfl rfl ?_ ?_ ?_),hqn⟩
    ·intro j;exact (Zef h hj j).symm
    ·show c.2.2.1.length - 1=(Wk (i:Int) c.2.2.1).length;omega
    ·show ((L0 ++ [q]).map (X8 c)).erase i=_;refine Eq.trans (Bn h hj).symm ?_;exact (Jq (by omega) hqn).symm
 ·right;obtain ⟨E,x,hx⟩:∃ E x,c.2.2.2.1=E ++ [x]:=by
   rcases List.eq_nil_or_concat c.2.2.2.1 with e | ⟨E,x,e⟩
   ·exact absurd e he
   ·exact ⟨E,x,by rw [e,List.concat_eq_append]⟩
  obtain ⟨f,rfl,hf⟩:=h.emp x (by rw [hx]; simp);have hll:c.2.2.2.1.length=E.length+1:=by rw [hx]; simp
  have e1:w64 ((c.2.2.2.1.length:Int) - 1)=(E.length:Int):=by rw [wI2]; omega
  unfold Q25.f;rw [iN,e1,iO,iO,tN];have e2:gt c.2.2.2.1 (E.length:Int)=(f:Int):=by
   rw [Zx,hx,List.getD_eq_getElem?_getD,List.getElem?_append_right (Nat.le_refl _)]; simp
  have e3:c.2.2.2.1.take E.length=E:=by rw [hx,List.take_left]
  rw [e2,e3];refine ⟨f,_,L,rfl,h.take hx,?_,fun q=>?_⟩
  ·unfold MC.room;rw [iT (by rw [hru]; omega)];rfl
  ·obtain ⟨i,hi,_,_,ok⟩:=V5 h q;exact ok.emp (by rw [hx]; simp)
theorem Zt7 (z:Siz N B n) (h:CaI N B n t [] c L) (fw:Few c) (ht:t<=1000000) (i:Nat) (hi:i<4294967296):∃ c' L',Q19.f c (i:Int)=some (((Z6 c L).pin N B n i).1,c')/\CaI N B n (t+1) [] c' L'/\Z6 c' L'=((Z6 c L).pin N B n i).2:=by
 have h64:=z.h64;have hfl:=h.frl;unfold Q19.f;rw [show Q26.f ((c.1.1,c.1.2.1,(c.1.2.2.1,c.1.2.2.2)),c.2.1,c.2.2.1,c.2.2.2.1,(c.2.2.2.2.1,c.2.2.2.2.2)) (i:Int)=_ from Zms z h i hi,bS];by_cases q:N<=i
 ·rw [iT q,iU,MC.pin_out q];exact ⟨_,L,rfl,h.mono (Nat.le_succ t),rfl⟩
 ·rw [iF q,vS];rcases h.get i with ⟨g1,g2⟩ | ⟨f,ha,g1,g2,ok⟩
  ·have hno:(Z6 c L).fr i=none:=Jf g2;rw [iF (by simp [g1])];rcases Zpx z h ⟨fw.wr.1,by have:=fw.wr.2; omega⟩ with ⟨e,er⟩ | ⟨f,c1,L1,e,h1,er,hfL⟩
   ·rw [show Q25.f ((c.1.1,c.1.2.1,(c.1.2.2.1,c.1.2.2.2)),c.2.1,c.2.2.1,c.2.2.2.1,(c.2.2.2.2.1,c.2.2.2.2.2))=_ from e,bS,iU,MC.pin_full q hno er];exact ⟨_,L,rfl,h.mono (Nat.le_succ t),rfl⟩
   ·rcases Zpz z h ⟨fw.wr.1,by have:=fw.wr.2; omega⟩ with e' | ⟨f',c1',L1',e',_,k1,k2,k3⟩
    ·rw [e] at e'; simp at e'
    ·rw [e] at e';simp only [Option.some.injEq,Prod.mk.injEq,true_and] at e';have ec:c1=c1':=e'.2;subst ec;obtain ⟨hf,hfe,hfm⟩:=h1.hol f (by simp);have hfl1:=h1.frl;have hno1:∀ v,((i:Int),v)∉c1.2.2.1:=fun v hv=>g2 v (k3 _ hv);obtain ⟨r5,ch,e5,hc5⟩:=Zji h1.chn hf (by omega);rw [List.erase_of_not_mem hfL] at hc5;rw [show Q25.f ((c.1.1,c.1.2.1,(c.1.2.2.1,c.1.2.2.2)),c.2.1,c.2.2.1,c.2.2.2.1,(c.2.2.2.2.1,c.2.2.2.2.2))=_ from e,bS,vS]
     try dsimp only
     rw [show Q56.f (c1.1.1,c1.1.2.1,(c1.1.2.2.1,c1.1.2.2.2)) (i:Int)=_ from Zso z h1 (by omega),bS,vS,iO,show Q27.f (c1.2.2.2.2.1,c1.2.2.2.2.2) (f:Int)=_ from e5,bS];have hcm:=(h1.mono (Nat.le_succ t)).come (show i<N by omega) hno1 (x:=((i:Int),blk c1.1.2.1 B i,false,1)) rfl (Zec h1.dim (by omega)) rfl (by omega) hc5
     try dsimp only
     rw [Zpw (by rw [k1]; have:=fw.rd; omega),Zf0 hno1,tN,MC.pin_miss q hno er];refine ⟨_,L1,rfl,hcm.dev (s:=(c1.1.2.2.1+1,c1.1.2.2.2)) h1.dim,MC.ext' rfl rfl rfl ?_ ?_ ?_⟩
     ·intro j; exact Zgp h1 hno1 j
     ·show (c1.2.2.1 ++ [((i:Int),(f:Int))]).length=c1.2.2.1.length+1;simp
     ·exact Jq (by omega) hfL
  ·have hf:=ok.hf;have hp:=ok.pin;have hfr:(Z6 c L).fr i=_:=Uk h ha;obtain ⟨r2,ch,e2,hc2⟩:=Zji h.chn ok.hf (by omega);have g:gt c.2.1 (f:Int)=c.2.1.getD f default:=Zx _ _;have wp:w64 ((c.2.1.getD f default).2.2.2+1)=(c.2.1.getD f default).2.2.2+1:=wI2;have hs:=h.setfr ha (x:=((gt c.2.1 (f:Int)).1,(gt c.2.1 (f:Int)).2.1,(gt c.2.1 (f:Int)).2.2.1,w64 ((gt c.2.1 (f:Int)).2.2.2+1))) (t':=t+1) (by rw [g]; exact ok.blk) (by rw [g]; exact ok.len) (by rw [g]; dsimp only; rw [wp]; omega) (Nat.le_succ t) hc2 (Zfw h (by rw [g]; dsimp only; rw [wp]; omega));rw [iT g1,g2,iO,show Q27.f (c.2.2.2.2.1,c.2.2.2.2.2) (f:Int)=_ from e2,bS,tN,MC.pin_hit q hfr];refine ⟨_,L.erase f,rfl,hs,MC.ext' rfl rfl rfl (fun j=>?_) rfl ?_⟩
   ·refine Eq.trans (Jj h ha j) ?_;show upd (Xt c) i _ j=upd (Xt c) i _ j;congr 2;unfold fm;rw [g]
    try dsimp only
    rw [wp,show ((c.2.1.getD f default).2.2.2+1).toNat=(c.2.1.getD f default).2.2.2.toNat+1 by omega]
   ·exact Eq.trans (Vl (by omega) (by rw [g]; rfl) _) (Bn h ha)
theorem Zse (z:Siz N B n) (h:CaI N B n t [] c L) (fw:Few c) (ht:t<=1000000) (i:Nat) (hi:i<4294967296):∃ c' L',Q18.f c (i:Int)=some (((Z6 c L).fresh N B n i).1,c')/\CaI N B n (t+1) [] c' L'/\Z6 c' L'=((Z6 c L).fresh N B n i).2:=by
 have h64:=z.h64;have hB:=z.B_le;have hfl:=h.frl;have hsz:=h.dsz;unfold Q18.f Q55.f;rw [show Q26.f ((c.1.1,c.1.2.1,(c.1.2.2.1,c.1.2.2.2)),c.2.1,c.2.2.1,c.2.2.2.1,(c.2.2.2.2.1,c.2.2.2.2.2)) (i:Int)=_ from Zms z h i hi,bS];by_cases q:N<=i
 ·rw [iT q,iU,MC.fresh_out q];exact ⟨_,L,rfl,h.mono (Nat.le_succ t),rfl⟩
 ·rw [iF q,vS];rcases h.get i with ⟨g1,g2⟩ | ⟨f,ha,g1,g2,ok⟩
  ·have hno:(Z6 c L).fr i=none:=Jf g2;rw [iF (by simp [g1]),iT (by simp [g1])];rcases Zpx z h ⟨fw.wr.1,by have:=fw.wr.2; omega⟩ with ⟨e,er⟩ | ⟨f,c1,L1,e,h1,er,hfL⟩
   ·rw [show Q25.f ((c.1.1,c.1.2.1,(c.1.2.2.1,c.1.2.2.2)),c.2.1,c.2.2.1,c.2.2.2.1,(c.2.2.2.2.1,c.2.2.2.2.2))=_ from e,bS,iU,MC.fresh_full q hno er];exact ⟨_,L,rfl,h.mono (Nat.le_succ t),rfl⟩
   ·rcases Zpz z h ⟨fw.wr.1,by have:=fw.wr.2; omega⟩ with e' | ⟨f',c1',L1',e',_,k1,k2,k3⟩
    ·rw [e] at e'; simp at e'
    ·rw [e] at e';simp only [Option.some.injEq,Prod.mk.injEq,true_and] at e';have ec:c1=c1':=e'.2;subst ec;obtain ⟨hf,hfe,hfm⟩:=h1.hol f (by simp);have hfl1:=h1.frl;have hsz1:=h1.dsz;have hno1:∀ v,((i:Int),v)∉c1.2.2.1:=fun v hv=>g2 v (k3 _ hv);obtain ⟨r5,ch,e5,hc5⟩:=Zji h1.chn hf (by omega);rw [List.erase_of_not_mem hfL] at hc5;rw [show Q25.f ((c.1.1,c.1.2.1,(c.1.2.2.1,c.1.2.2.2)),c.2.1,c.2.2.1,c.2.2.2.1,(c.2.2.2.2.1,c.2.2.2.2.2))=_ from e,bS,vS,bS]
     try dsimp only
     rw [iO,iO,show Q27.f (c1.2.2.2.2.1,c1.2.2.2.2.2) (f:Int)=_ from e5,bS];have hBt:c1.1.1.toNat=B:=by omega
     have hcm:=(h1.mono (Nat.le_succ t)).come (show i<N by omega) hno1 (x:=((i:Int),List.replicate c1.1.1.toNat (0:Int),true,1)) rfl (by rw [length_replicate]; omega) rfl (by omega) hc5
     try dsimp only
     rw [Zf0 hno1,tN,MC.fresh_miss q hno er];refine ⟨_,L1,rfl,hcm,MC.ext' rfl rfl rfl ?_ ?_ ?_⟩
     ·intro j;refine Eq.trans (Zgp h1 hno1 j) ?_;show upd (Xt c1) i (some ⟨List.replicate c1.1.1.toNat 0,true,1⟩) j=_;rw [hBt]; rfl
     ·show (c1.2.2.1 ++ [((i:Int),(f:Int))]).length=c1.2.2.1.length+1;simp
     ·exact Jq (by omega) hfL
  ·have hf:=ok.hf;have hp:=ok.pin;have hfr:(Z6 c L).fr i=_:=Uk h ha;have g:gt c.2.1 (f:Int)=c.2.1.getD f default:=Zx _ _;rw [iT g1,g2,iO];by_cases hpp:0<(gt c.2.1 (f:Int)).2.2.2
   ·rw [iT (dT hpp),MC.fresh_pin q hfr (by unfold fm; dsimp only; rw [g] at hpp; omega)];exact ⟨_,L,rfl,h.mono (Nat.le_succ t),rfl⟩
   ·obtain ⟨r2,ch,e2,hc2⟩:=Zji h.chn ok.hf (by omega);have hBt:c.1.1.toNat=B:=by omega
    have hs:=h.setfr ha (x:=((i:Int),List.replicate c.1.1.toNat (0:Int),true,1)) (t':=t+1) rfl (by rw [length_replicate]; omega) (by dsimp only; omega) (Nat.le_succ t) hc2 (Zfw h (show (1:Int)≠0 by decide));rw [iF (by simpa using hpp),iF (by simp [g1]),bS,iO,show Q27.f (c.2.2.2.2.1,c.2.2.2.2.2) (f:Int)=_ from e2,bS,tN,Zf1 h.mnd ha,MC.fresh_hit q hfr (by unfold fm; dsimp only; rw [g] at hpp; omega)]
    try rw [iT (show 0<=(f:Int)/\(f:Int)<(c.2.1.length:Int) by omega)]
    refine ⟨_,L.erase f,rfl,hs,MC.ext' rfl rfl rfl (fun j=>?_) rfl ?_⟩
    ·refine Eq.trans (Jj h ha j) ?_;show upd (Xt c) i (some ⟨List.replicate c.1.1.toNat 0,true,1⟩) j=_;rw [hBt]; rfl
    ·exact Eq.trans (Vl (by omega) (by rw [Gy h ha]; rfl) _) (Bn h ha)
theorem Znp (z:Siz N B n) (h:CaI N B n t [] c L) (ht:t<=1000000) (i:Nat):∃ c' L',Q21.f c (i:Int)=some (((Z6 c L).unpin i).1,c')/\CaI N B n t [] c' L'/\Z6 c' L'=((Z6 c L).unpin i).2:=by
 have h64:=z.h64;have hfl:=h.frl;unfold Q21.f Q24.f;rw [bS,vS];rcases h.get i with ⟨g1,g2⟩ | ⟨f,ha,g1,g2,ok⟩
 ·rw [iT (by simp [g1]),MC.unpin_no (show (Z6 c L).fr i=none from Jf g2)];exact ⟨_,L,rfl,h,rfl⟩
 ·have hf:=ok.hf;have hp:=ok.pin;have hfr:(Z6 c L).fr i=_:=Uk h ha;have g:gt c.2.1 (f:Int)=c.2.1.getD f default:=Zx _ _;rw [iF (by simp [g1]),g2,iO];by_cases hp0:(gt c.2.1 (f:Int)).2.2.2=0
  ·rw [iT (dT hp0),MC.unpin_out hfr (by unfold fm; dsimp only; rw [<- g,hp0]; rfl)];exact ⟨_,L,rfl,h,rfl⟩
  ·have wp:w64 ((gt c.2.1 (f:Int)).2.2.2 - 1)=(gt c.2.1 (f:Int)).2.2.2 - 1:=by rw [g]; exact wI2
   have hp1:0<(gt c.2.1 (f:Int)).2.2.2:=by rw [g] at hp0 ⊢; omega
   have hp2:(gt c.2.1 (f:Int)).2.2.2<=t:=by rw [g]; omega
   have hset:gt (c.2.1.set f ((gt c.2.1 (f:Int)).1,(gt c.2.1 (f:Int)).2.1,(gt c.2.1 (f:Int)).2.2.1,w64 ((gt c.2.1 (f:Int)).2.2.2 - 1))) (f:Int)=((gt c.2.1 (f:Int)).1,(gt c.2.1 (f:Int)).2.1,(gt c.2.1 (f:Int)).2.2.1,w64 ((gt c.2.1 (f:Int)).2.2.2 - 1)):=by
    rw [Zx,Xc,iT rfl]
   have hfL:f∉L:=fun hx=>by have:=((h.lok f).1 hx).2; rw [<- g] at this; omega
   have hx0:(fm (c.2.1.getD f default)).p=(c.2.1.getD f default).2.2.2.toNat:=rfl;rw [iF (by simpa using hp0),tN,hset,wp];by_cases hp3:(gt c.2.1 (f:Int)).2.2.2 - 1=0
   ·obtain ⟨ch,e2,hc2⟩:=Zrn h.chn ok.hf hfL (by omega);rw [iT (dT hp3),show Q28.f (c.2.2.2.2.1,c.2.2.2.2.2) (f:Int)=_ from e2,bS,MC.unpin_one hfr (by rw [hx0,<- g]; omega)];have hs:=h.setfr ha (x:=((gt c.2.1 (f:Int)).1,(gt c.2.1 (f:Int)).2.1,(gt c.2.1 (f:Int)).2.2.1,(gt c.2.1 (f:Int)).2.2.2 - 1)) (t':=t) (by rw [g]; exact ok.blk) (by rw [g]; exact ok.len) (by dsimp only; omega) (Nat.le_refl t) hc2 (fun k=>by
     rw [List.mem_cons];split
     ·rename_i e; exact ⟨fun _=>hp3,fun _=>.inl e⟩
     ·rename_i e; exact ⟨fun q=>q.elim (fun e'=>absurd e' e) id,.inr⟩)
    refine ⟨_,f :: L,rfl,hs,MC.ext' rfl rfl rfl (fun j=>?_) rfl ?_⟩
    ·refine Eq.trans (Jj h ha j) ?_;show upd (Xt c) i _ j=upd (Xt c) i _ j;congr 2;unfold fm
     try dsimp only
     rw [hp3,g]; rfl
    ·refine Eq.trans (Vl (by omega) (by rw [g]; rfl) _) ?_;show X8 c f :: L.map (X8 c)=_;rw [Gy h ha]; rfl
   ·rw [iF (by simpa using hp3),MC.unpin_more hfr (by rw [hx0,<- g]; omega) (by rw [hx0,<- g]; omega)];have hs:=h.setfr ha (x:=((gt c.2.1 (f:Int)).1,(gt c.2.1 (f:Int)).2.1,(gt c.2.1 (f:Int)).2.2.1,(gt c.2.1 (f:Int)).2.2.2 - 1)) (t':=t) (by rw [g]; exact ok.blk) (by rw [g]; exact ok.len) (by dsimp only; omega) (Nat.le_refl t) h.chn (fun k=>by
     split
     ·rename_i e; subst e; exact ⟨fun q=>absurd q hfL,fun q=>absurd q hp3⟩
     ·exact Iff.rfl)
    refine ⟨_,L,rfl,hs,MC.ext' rfl rfl rfl (fun j=>?_) rfl ?_⟩
    ·refine Eq.trans (Jj h ha j) ?_;show upd (Xt c) i _ j=upd (Xt c) i _ j;congr 2;unfold fm
     try dsimp only
     rw [g,show ((c.2.1.getD f default).2.2.2 - 1).toNat=(c.2.1.getD f default).2.2.2.toNat - 1 by omega]
    ·exact Vl (by omega) (by rw [g]; rfl) _
theorem Zmd (z:Siz N B n) (h:CaI N B n t [] c L) (i:Nat) (b:TU):∃ c' L',Q22.f c (i:Int) b=some (((Z6 c L).write B i b).1,c')/\CaI N B n t [] c' L'/\Z6 c' L'=((Z6 c L).write B i b).2:=by
 have h64:=z.h64;have hB:=z.B_le;have hfl:=h.frl;have hsz:=h.dsz;unfold Q22.f Q24.f Q55.f;rw [bS,vS];rcases h.get i with ⟨g1,g2⟩ | ⟨f,ha,g1,g2,ok⟩
 ·rw [iT (by simp [g1]),MC.write_no (show (Z6 c L).fr i=none from Jf g2)];exact ⟨_,L,rfl,h,rfl⟩
 ·have hf:=ok.hf;have hp:=ok.pin;have hfr:(Z6 c L).fr i=_:=Uk h ha;have hx0:(fm (c.2.1.getD f default)).p=(c.2.1.getD f default).2.2.2.toNat:=rfl;have g:gt c.2.1 (f:Int)=c.2.1.getD f default:=Zx _ _;rw [iF (by simp [g1]),g2,iO];by_cases hp0:(gt c.2.1 (f:Int)).2.2.2=0
  ·rw [iT (dT hp0),MC.write_out hfr (by rw [hx0,<- g,hp0]; rfl)];exact ⟨_,L,rfl,h,rfl⟩
  ·have hp1:(fm (c.2.1.getD f default)).p≠0:=by rw [hx0]; rw [g] at hp0; omega
   rw [iF (by simpa using hp0),bS]
   try dsimp only
   by_cases hb:(b.length:Int)=c.1.1
   ·have hset:gt (c.2.1.set f ((gt c.2.1 (f:Int)).1,b,(gt c.2.1 (f:Int)).2.2.1,(gt c.2.1 (f:Int)).2.2.2)) (f:Int)=((gt c.2.1 (f:Int)).1,b,(gt c.2.1 (f:Int)).2.2.1,(gt c.2.1 (f:Int)).2.2.2):=by
     rw [Zx,Xc,iT rfl]
    have hs:=h.setfr ha (x:=((gt c.2.1 (f:Int)).1,b,true,(gt c.2.1 (f:Int)).2.2.2)) (t':=t) (by rw [g]; exact ok.blk) (by dsimp only; omega) (by dsimp only; rw [g]; exact hp) (Nat.le_refl t) h.chn (by rw [g]; exact Zod h ha);rw [iF (by simp [hb]),Zbb (by omega),bS,tN,hset,List.set_set,MC.write_hit hfr hp1 (by omega)];refine ⟨_,L,rfl,hs,MC.ext' rfl rfl rfl (fun j=>?_) rfl ?_⟩
    ·refine Eq.trans (Jj h ha j) ?_;show upd (Xt c) i _ j=upd (Xt c) i _ j;rw [g]; rfl
    ·exact Vl (by omega) (by rw [g]; rfl) _
   ·rw [iT (by simp [hb]),MC.write_form hfr hp1 (by omega)];exact ⟨_,L,rfl,h,rfl⟩
theorem Zs3 (z:Siz N B n) (h:CaI N B n t [] c L) (i:Nat):Q20.f c (i:Int)=some ((Z6 c L).read i):=by
 have hfl:=h.frl;have hB:=z.B_le;unfold Q20.f Q24.f;rw [bS,vS];rcases h.get i with ⟨g1,g2⟩ | ⟨f,ha,g1,g2,ok⟩
 ·rw [iT (by simp [g1]),MC.read_no (show (Z6 c L).fr i=none from Jf g2)]
 ·have hf:=ok.hf;have hp:=ok.pin;have hfr:(Z6 c L).fr i=_:=Uk h ha;have hx0:(fm (c.2.1.getD f default)).p=(c.2.1.getD f default).2.2.2.toNat:=rfl;have g:gt c.2.1 (f:Int)=c.2.1.getD f default:=Zx _ _;rw [iF (by simp [g1]),g2,iO];by_cases hp0:(gt c.2.1 (f:Int)).2.2.2=0
  ·rw [iT (dT hp0),MC.read_out hfr (by rw [hx0,<- g,hp0]; rfl)]
  ·rw [iF (by simpa using hp0),Zbb (by rw [g,ok.len]; omega),bS,MC.read_hit hfr (by rw [hx0]; rw [g] at hp0; omega),g]; rfl
end
abbrev Rf:=Int×List UInt8×Bool×Int
abbrev Rc:=(Int×List TQ×Int×Int)×List Rf×Int×List Int
section
variable {l:List Rf} {g:Nat->Option Fm} {i:Nat} {f:Fm}
end
structure MI (N B n t:Nat) (m:MC):Prop where
 dim:m.img.length=N*B
 len:∀ i f,m.fr i=some f->i<N/\f.b.length=B/\f.p<=t
 rnd:m.row.Nodup
 rfr:∀ q,q∈m.row↔∃ f,m.fr q=some f/\f.p=0
 ule:m.used<=n
 rle:m.row.length<=n
theorem Zf8 {g:Nat->Nat}:∀ {L:List Nat},L.Nodup->(∀ x∈L,∀ y∈L,g x=g y->x=y)->(L.map g).Nodup
 | [],_,_=>by simp
 | x :: L,nd,h=>by
  rw [List.nodup_cons] at nd;rw [List.map_cons,List.nodup_cons];refine ⟨fun q=>?_,Zf8 nd.2 fun a ha b hb=>h a (by simp [ha]) b (by simp [hb])⟩;obtain ⟨y,hy,e⟩:=List.mem_map.1 q;exact nd.1 (by rw [h x (by simp) y (by simp [hy]) e.symm]; exact hy)
theorem CaI.mi {N B n t:Nat} {c:Ca} {L:List Nat} (h:CaI N B n t [] c L):MI N B n t (Z6 c L) where
 dim:=h.dim
 len i f hf:=Zqb h hf
 rnd:=Zf8 h.chn.nd fun x hx y hy e=>by
  obtain ⟨i,hi,e1,_⟩:=V5 h hx;obtain ⟨j,hj,e2,_⟩:=V5 h hy;have:i=j:=by omega
  subst this;exact Zb9 h hi hj
 rfr q:=by
  constructor
  ·intro hq;obtain ⟨f,hf,e⟩:=List.mem_map.1 hq;obtain ⟨i,hi,e1,hp,_⟩:=V5 h hf;have:i=q:=by omega
   subst this;exact ⟨_,Uk h hi,by unfold fm; dsimp only; rw [hp]; rfl⟩
  ·rintro ⟨f,hf,hp⟩;rcases h.get q with ⟨_,g2⟩ | ⟨f',ha,_,_,ok⟩
   ·have:=Jf g2;rw [show Xt c q=some f from hf] at this; cases this
   ·have h1:=Uk h ha;rw [show Xt c q=some f from hf] at h1;injection h1 with h1;subst h1;refine (Zq4 h ha).2 ((h.lok f').2 ⟨⟨_,ha⟩,?_⟩);have:=ok.pin;unfold fm at hp;dsimp only at hp;omega
 ule:=h.used
 rle:=by
  show (L.map (X8 c)).length<=n;rw [length_map];exact h.chn.short
section
variable {N B n t:Nat} {w:Rc} {m:MC} {i:Nat} {f:Fm}
end
section
variable {N B n t:Nat} {w:Rc} {m:MC} {i:Nat} {f:Fm}
end
section
variable {N B n t:Nat} {w:Rc} {m:MC} {i:Nat} {f:Fm}
end
section
variable {N B n t:Nat} {c:Ca} {L:List Nat}
end
section
variable {N B n t:Nat} {c:Ca} {L:List Nat} {w:Rc} {m:MC}
end
def Byt (l:TU):Prop:=∀ x∈l,0<=x/\x<256
theorem Byt.rep (n:Nat):Byt (List.replicate n 0):=fun x hx=>by rw [List.eq_of_mem_replicate hx]; omega
theorem Byt.blk {img:TU} (h:Byt img) (B i:Nat):Byt (blk img B i):=fun x hx=>h x (List.mem_of_mem_drop (List.mem_of_mem_take hx))
theorem Byt.patch {img b:TU} (h:Byt img) (hb:Byt b) (a n:Nat):Byt (patch img a n b):=fun x hx=>by
 unfold SK.patch at hx;rcases List.mem_append.1 hx with hx | hx
 ·rcases List.mem_append.1 hx with hx | hx
  ·exact h x (List.mem_of_mem_take hx)
  ·exact hb x (List.mem_of_mem_take hx)
 ·exact h x (List.mem_of_mem_drop hx)
namespace MC
def cnt (m:MC) (i:Nat):Nat:=match m.fr i with
 | none=>0
 | some x=>x.p
theorem cnt_no {m:MC} {i:Nat} (e:m.fr i=none):m.cnt i=0:=by unfold cnt; rw [e]
theorem cnt_at {m:MC} {i:Nat} {x:Fm} (e:m.fr i=some x):m.cnt i=x.p:=by unfold cnt; rw [e]
structure By (m:MC):Prop where
 img:Byt m.img
 fr:∀ i x,m.fr i=some x->Byt x.b
structure To (a b:Nat) (m m':MC):Prop where
 rd:m.rd<=m'.rd/\m'.rd<=m.rd+a
 wr:m.wr<=m'.wr/\m'.wr<=m.wr+b
 by':By m->By m'
theorem To.refl (m:MC):To 0 0 m m:=⟨⟨Int.le_refl _,by omega⟩,⟨Int.le_refl _,by omega⟩,id⟩
theorem To.le {a b a' b':Nat} {m m':MC} (h:To a b m m') (ha:a<=a') (hb:b<=b'):To a' b' m m':=⟨⟨h.rd.1,by have:=h.rd.2; omega⟩,⟨h.wr.1,by have:=h.wr.2; omega⟩,h.by'⟩
theorem To.trans {a b a' b':Nat} {m m' m'':MC} (h:To a b m m') (g:To a' b' m' m''):To (a+a') (b+b') m m'':=⟨⟨Int.le_trans h.rd.1 g.rd.1,by have:=h.rd.2; have:=g.rd.2; omega⟩,⟨Int.le_trans h.wr.1 g.wr.1,by have:=h.wr.2; have:=g.wr.2; omega⟩,fun y=>g.by' (h.by' y)⟩
end MC
section
variable {N B n t:Nat} {m k:MC} {i:Nat} {x:Fm}
theorem Pm.lay {img:TU} {rd wr:Int} {fr:Nat->Option Fm} {u u':Nat} {row row':List Nat} (hx:Byt x.b):(MC.By ⟨img,rd,wr,fr,u,row⟩->MC.By ⟨img,rd,wr,upd fr i (some x),u',row'⟩)/\∀ j,(⟨img,rd,wr,upd fr i (some x),u',row'⟩:MC).cnt j=if j=i then x.p else (⟨img,rd,wr,fr,u,row⟩:MC).cnt j:=by
 refine ⟨fun h=>⟨h.img,fun j y hj=>?_⟩,fun j=>?_⟩
 ·have hj':upd fr i (some x) j=some y:=hj;by_cases q:j=i
  ·subst q; rw [Z8] at hj'; injection hj' with hj'; subst hj'; exact hx
  ·rw [Yg q] at hj'; exact h.fr j y hj'
 ·by_cases q:j=i
  ·subst q; rw [iT rfl]; exact MC.cnt_at (Z8 _ _ _)
  ·rw [iF q]; unfold MC.cnt; dsimp only; rw [Yg q]
theorem Pm.evict (e:m.fr i=some x) (p:x.p=0):MC.To 0 1 m (m.evict B i)/\(∀ j,(m.evict B i).cnt j=m.cnt j)/\∀ j,m.fr j=none->(m.evict B i).fr j=none:=by
 rw [MC.evict_eq e];refine ⟨⟨⟨Int.le_refl _,by dsimp only; omega⟩,by dsimp only; split <;> omega,fun h=>⟨?_,fun j y hj=>?_⟩⟩,fun j=>?_,fun j hj=>?_⟩
 ·dsimp only;split
  ·exact h.img.patch (h.fr i x e) _ _
  ·exact h.img
 ·have hj':upd m.fr i none j=some y:=hj;by_cases q:j=i
  ·subst q; rw [Z8] at hj'; cases hj'
  ·rw [Yg q] at hj'; exact h.fr j y hj'
 ·by_cases q:j=i
  ·subst q; rw [MC.cnt_at e,MC.cnt_no (Z8 _ _ _),p]
  ·unfold MC.cnt; dsimp only; rw [Yg q]
 ·show upd m.fr i none j=none;by_cases q:j=i
  ·subst q; exact Z8 _ _ _
  ·rw [Yg q]; exact hj
theorem Pm.room (mi:MI N B n t m) (h:m.room B n=some k):MC.To 0 1 m k/\(∀ j,k.cnt j=m.cnt j)/\∀ j,m.fr j=none->k.fr j=none:=by
 unfold MC.room at h;split at h
 ·injection h with h; subst h; exact ⟨(MC.To.refl _).le (by omega) (by omega),fun _=>rfl,fun _ h=>h⟩
 ·split at h
  ·cases h
  ·rename_i q hq;injection h with h; subst h;obtain ⟨x,e,p⟩:=(mi.rfr q).1 (List.mem_of_getLast? hq);exact Pm.evict e p
theorem Pm.pin (mi:MI N B n t m) (hy:m.By) (i:Nat):MC.To 1 1 m (m.pin N B n i).2/\(1<=m.cnt i->MC.To 0 0 m (m.pin N B n i).2)/\∀ j,(m.pin N B n i).2.cnt j=if (m.pin N B n i).1=0/\j=i then m.cnt i+1 else m.cnt j:=by
 have r0:=(MC.To.refl m).le (Nat.zero_le 1) (Nat.zero_le 1);by_cases h:N<=i
 ·rw [MC.pin_out h]; exact ⟨r0,fun _=>MC.To.refl m,fun _=>by rw [vS]⟩
 cases e:m.fr i with
 | some x=>
  obtain ⟨h1,h2⟩:=Pm.lay (img:=m.img) (rd:=m.rd) (wr:=m.wr) (fr:=m.fr) (u:=m.used) (row:=m.row) (i:=i) (x:=⟨x.b,x.d,x.p+1⟩) (u':=m.used) (row':=m.row.erase i) (hy.fr i x e);have t0:MC.To 0 0 m (m.pin N B n i).2:=by rw [MC.pin_hit h e]; exact ⟨⟨Int.le_refl _,by show m.rd<=_; omega⟩,⟨Int.le_refl _,by show m.wr<=_; omega⟩,h1⟩
  refine ⟨t0.le (by omega) (by omega),fun _=>t0,fun j=>?_⟩;rw [MC.pin_hit h e,show ((m.put i ⟨x.b,x.d,x.p+1⟩).cut i).cnt j=_ from h2 j];by_cases q:j=i
  ·rw [iT q,iT ⟨rfl,q⟩,MC.cnt_at e]
  ·rw [iF q,iF (fun z=>q z.2)]
 | none=>
  cases r:m.room B n with
  | none=>rw [MC.pin_full h e r]; exact ⟨r0,fun _=>MC.To.refl m,fun _=>by rw [vS]⟩
  | some k=>
   obtain ⟨c1,c2,c3⟩:=Pm.room mi r;have hk:=c1.by' hy;obtain ⟨h1,h2⟩:=Pm.lay (img:=k.img) (rd:=k.rd+1) (wr:=k.wr) (fr:=k.fr) (u:=k.used) (row:=k.row) (i:=i) (x:=⟨blk k.img B i,false,1⟩) (u':=k.used+1) (row':=k.row) (hk.img.blk B i);rw [MC.pin_miss h e r];refine ⟨⟨by show m.rd<=k.rd+1/\k.rd+1<=_; have:=c1.rd; omega,by show m.wr<=k.wr/\k.wr<=_; have:=c1.wr; omega,fun _=>h1 ⟨hk.img,hk.fr⟩⟩,fun c=>by rw [MC.cnt_no e] at c; omega,fun j=>?_⟩;rw [show ((⟨k.img,k.rd+1,k.wr,k.fr,k.used,k.row⟩:MC).come i ⟨blk k.img B i,false,1⟩).cnt j=_ from h2 j];by_cases q:j=i
   ·rw [iT q,iT ⟨rfl,q⟩,MC.cnt_no e]
   ·rw [iF q,iF (fun z=>q z.2)]; exact c2 j
theorem Pm.fresh (mi:MI N B n t m) (hy:m.By) (i:Nat):MC.To 0 1 m (m.fresh N B n i).2/\∀ j,(m.fresh N B n i).2.cnt j=if (m.fresh N B n i).1=0/\j=i then m.cnt i+1 else m.cnt j:=by
 have r0:=(MC.To.refl m).le (Nat.zero_le 0) (Nat.zero_le 1);by_cases h:N<=i
 ·rw [MC.fresh_out h]; exact ⟨r0,fun _=>by rw [vS]⟩
 cases e:m.fr i with
 | some x=>
  by_cases p:0<x.p
  ·rw [MC.fresh_pin h e p]; exact ⟨r0,fun _=>by rw [vS]⟩
  obtain ⟨h1,h2⟩:=Pm.lay (img:=m.img) (rd:=m.rd) (wr:=m.wr) (fr:=m.fr) (u:=m.used) (row:=m.row) (i:=i) (x:=⟨List.replicate B 0,true,1⟩) (u':=m.used) (row':=m.row.erase i) (Byt.rep B);rw [MC.fresh_hit h e p];refine ⟨⟨⟨Int.le_refl _,by show m.rd<=_; omega⟩,⟨Int.le_refl _,by show m.wr<=_; omega⟩,h1⟩,fun j=>?_⟩;rw [show ((m.put i ⟨List.replicate B 0,true,1⟩).cut i).cnt j=_ from h2 j];by_cases q:j=i
  ·rw [iT q,iT ⟨rfl,q⟩,MC.cnt_at e]; dsimp only; omega
  ·rw [iF q,iF (fun z=>q z.2)]
 | none=>
  cases r:m.room B n with
  | none=>rw [MC.fresh_full h e r]; exact ⟨r0,fun _=>by rw [vS]⟩
  | some k=>
   obtain ⟨c1,c2,c3⟩:=Pm.room mi r;have hk:=c1.by' hy;obtain ⟨h1,h2⟩:=Pm.lay (img:=k.img) (rd:=k.rd) (wr:=k.wr) (fr:=k.fr) (u:=k.used) (row:=k.row) (i:=i) (x:=⟨List.replicate B 0,true,1⟩) (u':=k.used+1) (row':=k.row) (Byt.rep B);rw [MC.fresh_miss h e r];refine ⟨⟨c1.rd,c1.wr,fun _=>h1 ⟨hk.img,hk.fr⟩⟩,fun j=>?_⟩;rw [show (k.come i ⟨List.replicate B 0,true,1⟩).cnt j=_ from h2 j];by_cases q:j=i
   ·rw [iT q,iT ⟨rfl,q⟩,MC.cnt_no e]
   ·rw [iF q,iF (fun z=>q z.2)]; exact c2 j
theorem Pm.unpin (hy:m.By) (i:Nat):MC.To 0 0 m (m.unpin i).2/\∀ j,(m.unpin i).2.cnt j=if j=i then m.cnt i - 1 else m.cnt j:=by
 have same:(∀ j,m.cnt j=if j=i then m.cnt i - 1 else m.cnt j)↔m.cnt i=0:=⟨fun h=>by have:=h i; rw [iT rfl] at this; omega,fun h j=>by split; rename_i q; subst q; omega; rfl⟩
 cases e:m.fr i with
 | none=>rw [MC.unpin_no e]; exact ⟨MC.To.refl m,same.2 (MC.cnt_no e)⟩
 | some x=>
  have key:∀(p u:Nat) (row:List Nat),p=x.p - 1->MC.To 0 0 m (⟨m.img,m.rd,m.wr,upd m.fr i (some ⟨x.b,x.d,p⟩),u,row⟩:MC)/\∀ j,(⟨m.img,m.rd,m.wr,upd m.fr i (some ⟨x.b,x.d,p⟩),u,row⟩:MC).cnt j=if j=i then m.cnt i - 1 else m.cnt j:=fun p u row hp=>by
   obtain ⟨h1,h2⟩:=Pm.lay (img:=m.img) (rd:=m.rd) (wr:=m.wr) (fr:=m.fr) (u:=m.used) (row:=m.row) (i:=i) (x:=⟨x.b,x.d,p⟩) (u':=u) (row':=row) (hy.fr i x e);refine ⟨⟨⟨Int.le_refl _,by show m.rd<=_; omega⟩,⟨Int.le_refl _,by show m.wr<=_; omega⟩,h1⟩,fun j=>?_⟩;rw [h2 j,MC.cnt_at e];split
   ·exact hp
   ·rfl
  by_cases p:x.p=0
  ·rw [MC.unpin_out e p]; exact ⟨MC.To.refl m,same.2 (by rw [MC.cnt_at e]; exact p)⟩
  ·by_cases p1:x.p=1
   ·rw [MC.unpin_one e p1]; exact key _ _ _ (by omega)
   ·rw [MC.unpin_more e p p1]; exact key _ _ _ rfl
theorem Pm.write (i:Nat) {b:TU} (hb:Byt b):MC.To 0 0 m (m.write B i b).2/\∀ j,(m.write B i b).2.cnt j=m.cnt j:=by
 cases e:m.fr i with
 | none=>rw [MC.write_no e]; exact ⟨MC.To.refl m,fun _=>rfl⟩
 | some x=>
  by_cases p:x.p=0
  ·rw [MC.write_out e p]; exact ⟨MC.To.refl m,fun _=>rfl⟩
  ·by_cases q:b.length=B
   ·rw [MC.write_hit e p q];obtain ⟨h1,h2⟩:=Pm.lay (img:=m.img) (rd:=m.rd) (wr:=m.wr) (fr:=m.fr) (u:=m.used) (row:=m.row) (i:=i) (x:=⟨b,true,x.p⟩) (u':=m.used) (row':=m.row) hb;refine ⟨⟨⟨Int.le_refl _,by show m.rd<=_; omega⟩,⟨Int.le_refl _,by show m.wr<=_; omega⟩,h1⟩,fun j=>?_⟩;rw [show (m.put i ⟨b,true,x.p⟩).cnt j=_ from h2 j];split
    ·rename_i q; subst q; exact (MC.cnt_at e).symm
    ·rfl
   ·rw [MC.write_form e p q]; exact ⟨MC.To.refl m,fun _=>rfl⟩
end
abbrev Bt:=Int×Int×List Int
theorem Zp1:uH.bits=64:=rfl
theorem wrB {m:Nat} (h:m<18446744073709551616):uH.wrap (m:Int)=(m:Int):=by
 have:uH.wrap (m:Int)=((m % 18446744073709551616:Nat):Int):=by simp [IntKind.wrap,IntKind.bits,IntKind.signed]
 rw [this,Nat.mod_eq_of_lt h]
theorem ofB {x:Nat} (h:x<18446744073709551616):(ofInt uH.bits (x:Int)).toNat=x:=by
 rw [BitVec.ofInt_natCast,BitVec.toNat_ofNat,Zp1];exact Nat.mod_eq_of_lt h
theorem Zku (v:BitVec uH.bits):v.toNat<18446744073709551616:=v.isLt
theorem anB {x y:Nat} (hx:x<18446744073709551616) (hy:y<18446744073709551616):(ofInt uH.bits (x:Int) &&& ofInt uH.bits (y:Int)).toNat=x &&& y:=by rw [BitVec.toNat_and,ofB hx,ofB hy]
theorem orB {x y:Nat} (hx:x<18446744073709551616) (hy:y<18446744073709551616):(ofInt uH.bits (x:Int) ||| ofInt uH.bits (y:Int)).toNat=x ||| y:=by rw [BitVec.toNat_or,ofB hx,ofB hy]
theorem xoB {x y:Nat} (hx:x<18446744073709551616) (hy:y<18446744073709551616):(ofInt uH.bits (x:Int) ^^^ ofInt uH.bits (y:Int)).toNat=x ^^^ y:=by rw [BitVec.toNat_xor,ofB hx,ofB hy]
theorem Zqs {b:Nat} (h:b<64):uH.wrap ((1:Int)*2 ^ (min b 64))=((2 ^ b:Nat):Int):=by
 have hb:min b 64=b:=by omega
 have hl:2 ^ b<18446744073709551616:=Nat.lt_of_lt_of_le (Nat.pow_lt_pow_right (by decide) h) (by decide);rw [hb,Int.one_mul,<- wrB hl];congr 1
theorem Zth {b:Nat} (h:b<64):2 ^ b<18446744073709551616:=Nat.lt_of_lt_of_le (Nat.pow_lt_pow_right (by decide) h) (by decide)
theorem Zrc {f:Nat} (h:f<64):∃ y:Nat,uH.wrap ((18446744073709551615:Int)*2 ^ (min f 64))=(y:Int)/\y<18446744073709551616/\∀ i,i<64->y.testBit i=decide (f<=i):=by
 have hf:min f 64=f:=by omega
 refine ⟨(18446744073709551615*2 ^ f) % 18446744073709551616,?_,Nat.mod_lt _ (by decide),fun i hi=>?_⟩
 ·rw [hf];have:(18446744073709551615:Int)*2 ^ f=((18446744073709551615*2 ^ f:Nat):Int):=by
   rw [Int.natCast_mul,Int.natCast_pow]; rfl
  rw [this];simp [IntKind.wrap,IntKind.bits,IntKind.signed]
 ·have e1:(18446744073709551616:Nat)=2 ^ 64:=by decide
  have e2:(18446744073709551615:Nat)=2 ^ 64 - 1:=by decide
  rw [e1,Nat.testBit_mod_two_pow,e2,Nat.testBit_mul_two_pow,Nat.testBit_two_pow_sub_one];simp [hi];omega
structure BR (N:Nat) (p:Bt) (h:Nat->Bool):Prop where
 n:p.1=(N:Int)
 N1:1<=N/\N<=65536
 cnt:p.2.1=(((List.range N).filter h).length:Int)
 len:p.2.2.length=(N+63) / 64
 bit:∀ w,w<p.2.2.length->∃ x:Nat,p.2.2.getD w default=(x:Int)/\x<18446744073709551616/\∀ b,b<64->x.testBit b=(decide (64*w+b<N) && h (64*w+b))
section
variable {N:Nat} {p:Bt} {h:Nat->Bool}
theorem Zhd {i:Nat} (hi:i<4294967296):w64 (Int.tdiv (i:Int) 64)=((i / 64:Nat):Int)/\Int.tmod (i:Int) 64=((i % 64:Nat):Int):=by
 constructor
 ·rw [show Int.tdiv (i:Int) 64=((i / 64:Nat):Int) from rfl,wI2]
 ·rfl
theorem BR.there (b:BR N p h) {i:Nat}:Q10.f p (i:Int)=some (if N<=i then 4 else 0):=by
 have hN:=b.N1;unfold Q10.f Q7.f;rw [bS,b.n,iN,iN];by_cases q:N<=i
 ·rw [iP,iT q]
 ·rw [iN,iF q]
theorem BR.has (b:BR N p h) {i:Nat} (hi:i<4294967296):Q6.f p (i:Int)=some (decide (i<N) && h i):=by
 have hN:=b.N1;unfold Q6.f;rw [b.there,bS];by_cases q:N<=i
 ·rw [iT q,iF (by decide)];have:¬ i<N:=by omega
  simp [this]
 ·obtain ⟨e1,e2⟩:=Zhd hi;have hl:=b.len;have hw:i / 64<p.2.2.length:=by omega
  obtain ⟨x,hx,hx2,hx3⟩:=b.bit _ hw;have hm:i % 64<64:=Nat.mod_lt _ (by decide);rw [iF q,iT (by decide),e1,e2,iO,iO,Zx,hx,tN,show min (i % 64) 64=i % 64 by omega];have e3:Int.fdiv (x:Int) (2 ^ (i % 64))=((x / 2 ^ (i % 64):Nat):Int):=by
   rw [Int.fdiv_eq_ediv_of_nonneg _ (Int.pow_nonneg (by decide)),Int.natCast_ediv,Int.natCast_pow]; rfl
  have hlt:x / 2 ^ (i % 64)<18446744073709551616:=Nat.lt_of_le_of_lt (Nat.div_le_self _ _) hx2;rw [e3,show (ofInt uH.bits ((x / 2 ^ (i % 64):Nat):Int) &&& ofInt uH.bits 1).toNat=x / 2 ^ (i % 64) &&& 1 from anB (y:=1) hlt (by decide),Nat.and_one_is_mod,wrB (by omega)];have h1:=hx3 _ hm;rw [show 64*(i / 64)+i % 64=i by omega] at h1;rw [<- h1,Nat.testBit_eq_decide_div_mod_eq];congr 1;exact decide_eq_decide.2 (by omega)
theorem Zk9 {N i:Nat} (hi:i<N) (hn:h i=false):((List.range N).filter (upd h i true)).length=((List.range N).filter h).length+1:=by
 have key:∀ l:List Nat,l.Nodup->i∈l->(l.filter (upd h i true)).length=(l.filter h).length+1:=by
  intro l
  induction l with
  | nil=>intro _ hx; simp at hx
  | cons y l ih=>
   intro nd hx;rw [List.nodup_cons] at nd;by_cases q:y=i
   ·subst q;have hl:l.filter (upd h y true)=l.filter h:=List.filter_congr fun z hz=>Yg (fun e=>nd.1 (by rw [<- e]; exact hz));rw [List.filter_cons_of_pos (by rw [Z8]),List.filter_cons_of_neg (by simp [hn]),hl,length_cons]
   ·have hx':i∈l:=by
     rcases List.mem_cons.1 hx with e | e
     ·exact absurd e.symm q
     ·exact e
    have:=ih nd.2 hx';by_cases hy:h y=true
    ·rw [List.filter_cons_of_pos (by rw [Yg q]; exact hy),List.filter_cons_of_pos hy,length_cons,length_cons,this]
    ·rw [List.filter_cons_of_neg (by rw [Yg q]; exact hy),List.filter_cons_of_neg hy,this]
 exact key _ List.nodup_range (List.mem_range.2 hi)
theorem BR.word (b:BR N p h) {i:Nat} (hi:i<N) {v:Bool} {y:Nat} (hy:y<18446744073709551616) (ht:∀ x:Nat,p.2.2.getD (i / 64) default=(x:Int)->∀ j,j<64->y.testBit j=if j=i % 64 then v else x.testBit j) {cnt:Int} (hc:cnt=(((List.range N).filter (upd h i v)).length:Int)) :
  BR N (p.1,cnt,p.2.2.set (i / 64) (y:Int)) (upd h i v):=by
 have hl:=b.len;have hN:=b.N1;have hw:i / 64<p.2.2.length:=by omega
 refine ⟨b.n,hN,hc,by rw [length_set]; exact hl,fun w hw2=>?_⟩;rw [length_set] at hw2;dsimp only;rw [Xc hw];obtain ⟨x,hx,hx2,hx3⟩:=b.bit w hw2;by_cases q:i / 64=w
 ·subst q;refine ⟨y,iT rfl,hy,fun j hj=>?_⟩;rw [ht x hx j hj];by_cases qj:j=i % 64
  ·subst qj;rw [iT rfl,show 64*(i / 64)+i % 64=i by omega,Z8];simp [hi]
  ·rw [iF qj,hx3 j hj,Yg]
 ·refine ⟨x,by rw [iF q]; exact hx,hx2,fun j hj=>?_⟩;rw [hx3 j hj,Yg]
theorem Znz (b:BR N p h):((List.range N).filter h).length<=N:=by
 have:=List.length_filter_le h (List.range N);rw [length_range] at this;exact this
theorem BR.set (b:BR N p h) {i:Nat} (hi:i<4294967296):∃ p',Q8.f p (i:Int)=some (if N<=i then 4 else if h i=true then 10 else 0,p')/\BR N p' (if N<=i then h else upd h i true):=by
 have hN:=b.N1;unfold Q8.f;rw [b.there,bS];by_cases q:N<=i
 ·rw [iT q,iT (by decide),iT q,iT q];exact ⟨p,rfl,b⟩
 ·rw [iF q,iF (by decide),b.has hi,bS,iF q,iF q];have hi':i<N:=by omega
  by_cases hh:h i=true
  ·rw [iT (by simp [hi',hh]),iT hh];refine ⟨p,rfl,?_⟩;rw [show upd h i true=h from funext fun j=>by
    by_cases qj:j=i
    ·subst qj; rw [Z8,hh]
    ·rw [Yg qj]]
   exact b
  ·obtain ⟨e1,e2⟩:=Zhd hi;have hl:=b.len;have hw:i / 64<p.2.2.length:=by omega
   obtain ⟨x,hx,hx2,hx3⟩:=b.bit _ hw;have hm:i % 64<64:=Nat.mod_lt _ (by decide);have hp:=Zth hm;have hcl:=Znz b;have hcn:=b.cnt;rw [iF (by simp [hh]),iF hh,e1,e2,iO,iO,Zx,hx,tN,tN,Zqs hm,orB hx2 hp];have hor:x ||| 2 ^ (i % 64)<18446744073709551616:=by rw [<- orB hx2 hp]; exact Zku _
   rw [wrB hor];have hf:h i=false:=by simpa using hh
   refine ⟨_,rfl,b.word hi' hor (fun x' hx' j hj=>?_) ?_⟩
   ·have:x'=x:=by rw [hx] at hx'; omega
    subst this;rw [Nat.testBit_or,Nat.testBit_two_pow];by_cases qj:j=i % 64
    ·subst qj; simp
    ·rw [iF qj];have:¬ i % 64=j:=fun e=>qj e.symm;simp [this]
   ·rw [Zk9 hi' hf,hcn,wI2]; omega
theorem Zst {x:Nat} (h0:x≠0) (h1:x<18446744073709551616):Go.Lib.ctz 64 x<64/\x.testBit (Go.Lib.ctz 64 x)=true/\∀ j,j<Go.Lib.ctz 64 x->x.testBit j=false:=by
 unfold Go.Lib.ctz;rw [iF h0];obtain ⟨m,hm,hc⟩:=Go.Lib.ctzFrom_spec 64 x (by omega) (by omega);generalize Go.Lib.ctzFrom 64 x=c at *;refine ⟨hc,?_,fun j hj=>?_⟩
 ·rw [hm,Nat.mul_comm,Nat.testBit_mul_two_pow];simp
 ·rw [hm,Nat.mul_comm,Nat.testBit_mul_two_pow];have:¬ c<=j:=by omega
  simp [this]
def W6 (N:Nat) (h:Nat->Bool) (turn:Bool) (i:Nat):Bool:=if turn=true then !(decide (i<N) && h i) else decide (i<N) && h i
theorem Zjz (b:BR N p h) (turn:Bool) {fr:Nat} (hfr:fr<4294967296):∀(q w k:Nat),p.2.2.length=w+q->fr / 64<=w->q<k->(∀ j,fr<=j->j<64*w->W6 N h turn j=false)->
  (∃ i:Nat,Q9.l0 k p (fr:Int) (if turn=true then 18446744073709551615 else 0) (w:Int)=some ((i:Int),decide (i<N))/\fr<=i/\i<64*p.2.2.length/\W6 N h turn i=true/\∀ j,fr<=j->j<i->W6 N h turn j=false)\/
   (Q9.l0 k p (fr:Int) (if turn=true then 18446744073709551615 else 0) (w:Int)=some (0,false)/\∀ j,fr<=j->j<64*p.2.2.length->W6 N h turn j=false)
 | _,_,0,_,_,hk,_=>by omega
 | 0,w,k+1,hq,hw,hk,hn=>by
  have hN:=b.N1;have hl:=b.len;right;rw [Q9.l0,iN];exact ⟨rfl,fun j h1 h2=>hn j h1 (by omega)⟩
 | q+1,w,k+1,hq,hw,hk,hn=>by
  have hN:=b.N1;have hl:=b.len;have hwl:w<p.2.2.length:=by omega
  obtain ⟨x,hx,hx2,hx3⟩:=b.bit w hwl;have hmx:(if (fr:Int)>0 then (fr:Int) else 0)=(fr:Int):=by split <;> omega
  obtain ⟨d1,d2⟩:=Zhd hfr
  -- the word,turned
  obtain ⟨y,hy,hy2,hy3⟩:∃ y:Nat,(uH.wrap (((ofInt uH.bits (x:Int) ^^^ (ofInt uH.bits (if turn=true then 18446744073709551615 else 0))).toNat:Int)))=(y:Int)/\y<18446744073709551616/\∀ j,j<64->y.testBit j=W6 N h turn (64*w+j):=by
   cases turn with
   | true=>
    have e:=xoB (y:=18446744073709551615) hx2 (by decide);refine ⟨x ^^^ 18446744073709551615,?_,?_,fun j hj=>?_⟩
    ·rw [iT rfl,show (18446744073709551615:Int)=((18446744073709551615:Nat):Int) from rfl,e,wrB (by rw [<- e]; exact Zku _)]
    ·rw [<- e]; exact Zku _
    ·rw [Nat.testBit_xor,hx3 j hj,show (18446744073709551615:Nat)=2 ^ 64 - 1 by decide,Nat.testBit_two_pow_sub_one];unfold W6;simp [hj]
   | false=>
    have e:=xoB (y:=0) hx2 (by decide);refine ⟨x,?_,hx2,fun j hj=>?_⟩
    ·rw [iF (by decide),show (0:Int)=((0:Nat):Int) from rfl,e,Nat.xor_zero,wrB hx2]
    ·rw [hx3 j hj]; rfl
  rw [Q9.l0,iP,iO,hmx,d1,d2,Zx,hx,hy]
  -- what is looked at,at this word
  have step:∀ z:Nat,z<18446744073709551616->(∀ j,j<64->z.testBit j=(decide (fr<=64*w+j) && W6 N h turn (64*w+j)))->
    (∃ i:Nat,(if (decide ((z:Int)=0))=true then Q9.l0 k p (fr:Int) (if turn=true then 18446744073709551615 else 0) (w64 ((w:Int)+1)) else (if 0<=(z:Int)/\(z:Int)<18446744073709551616 then some ((w64 ((w64 ((w:Int)*64))+(tzI (z:Int)))),(decide ((w64 ((w64 ((w:Int)*64))+(tzI (z:Int))))<p.1))) else none))=some ((i:Int),decide (i<N))/\fr<=i/\i<64*p.2.2.length/\W6 N h turn i=true/\∀ j,fr<=j->j<i->W6 N h turn j=false)\/
    ((if (decide ((z:Int)=0))=true then Q9.l0 k p (fr:Int) (if turn=true then 18446744073709551615 else 0) (w64 ((w:Int)+1)) else (if 0<=(z:Int)/\(z:Int)<18446744073709551616 then some ((w64 ((w64 ((w:Int)*64))+(tzI (z:Int)))),(decide ((w64 ((w64 ((w:Int)*64))+(tzI (z:Int))))<p.1))) else none))=some (0,false)/\∀ j,fr<=j->j<64*p.2.2.length->W6 N h turn j=false):=by
   intro z hz hzt;by_cases z0:z=0
   ·subst z0;rw [iT (by decide),wS2];refine Zjz b turn hfr q (w+1) k (by omega) (by omega) (by omega) fun j h1 h2=>?_;by_cases hj:j<64*w
    ·exact hn j h1 hj
    ·have:=hzt (j - 64*w) (by omega);rw [Nat.zero_testBit,show 64*w+(j - 64*w)=j by omega] at this;have h3:decide (fr<=j)=true:=dT h1;rw [h3,Bool.true_and] at this;exact this.symm
   ·obtain ⟨c1,c2,c3⟩:=Zst z0 hz;left;have tz:tzI (z:Int)=((Go.Lib.ctz 64 z:Nat):Int):=by unfold tzI; rw [tN]
    generalize Go.Lib.ctz 64 z=cz at *;have hb:=hzt cz c1;rw [c2] at hb;have hb2:=(Bool.and_eq_true _ _).mp hb.symm;have hfr2:=of_decide_eq_true hb2.1;refine ⟨64*w+cz,?_,hfr2,by omega,hb2.2,fun j h1 h2=>?_⟩
    ·rw [iW,iO,tz,wI2 (x:=(w:Int)*64),wI2,b.n];congr 2
     ·omega
     ·exact decide_eq_decide.2 (by omega)
    ·by_cases hj:j<64*w
     ·exact hn j h1 hj
     ·have:=hzt (j - 64*w) (by omega);rw [c3 (j - 64*w) (by omega),show 64*w+(j - 64*w)=j by omega] at this;have h3:decide (fr<=j)=true:=dT h1;rw [h3,Bool.true_and] at this;exact this.symm
  by_cases qw:w=fr / 64
  ·rw [iP,iO,tN];obtain ⟨s,hs,hs2,hs3⟩:=Zrc (f:=fr % 64) (Nat.mod_lt _ (by decide));have ea:=anB hy2 hs2;have hal:y &&& s<18446744073709551616:=by rw [<- ea]; exact Zku _
   rw [hs,ea,wrB hal];refine step _ hal fun j hj=>?_;rw [Nat.testBit_and,hy3 j hj,hs3 j hj,Bool.and_comm];congr 1;exact decide_eq_decide.2 (by omega)
  ·rw [iN];refine step y hy2 fun j hj=>?_;rw [hy3 j hj];have:decide (fr<=64*w+j)=true:=dT;rw [this,Bool.true_and]
theorem Ztm (b:BR N p h) (turn:Bool) {fr:Nat} (hfr:fr<4294967296) {k:Nat} (hk:2000<k) :
  (∃ i:Nat,Q9.f k p (fr:Int) (if turn=true then 18446744073709551615 else 0)=some ((i:Int),decide (i<N))/\fr<=i/\i<64*p.2.2.length/\W6 N h turn i=true/\∀ j,fr<=j->j<i->W6 N h turn j=false)\/
   (Q9.f k p (fr:Int) (if turn=true then 18446744073709551615 else 0)=some (0,false)/\∀ j,fr<=j->j<64*p.2.2.length->W6 N h turn j=false):=by
 have hN:=b.N1;have hl:=b.len;have hmx:(if (fr:Int)>0 then (fr:Int) else 0)=(fr:Int):=by split <;> omega
 unfold Q9.f;rw [hmx,(Zhd hfr).1];by_cases q:fr / 64<=p.2.2.length
 ·exact Zjz b turn hfr (p.2.2.length - fr / 64) (fr / 64) k (by omega) (Nat.le_refl _) (by omega) fun j h1 h2=>by omega
 ·obtain ⟨k,rfl⟩:∃ k',k=k'+1:=⟨k - 1,by omega⟩;right;rw [Q9.l0,iN];exact ⟨rfl,fun j h1 h2=>by omega⟩
theorem BR.free (b:BR N p h) {k:Nat} (hk:2000<k) (hfree:∃ i,i<N/\h i=false):∃ i:Nat,Q5.f k p 0=some ((i:Int),true)/\i<N/\h i=false/\∀ j,j<i->h j=true:=by
 have hN:=b.N1;have hl:=b.len;obtain ⟨i0,h1,h2⟩:=hfree;unfold Q5.f Q7.f Q11.f;have hs:=Ztm b true (fr:=0) (by decide) hk;rw [iT rfl] at hs;have hi0:W6 N h true i0=true:=by unfold W6; simp [h1,h2]
 rcases hs with ⟨i,e,_,g2,g3,g4⟩ | ⟨e,g⟩
 ·have hiN:i<N:=by
   apply Nat.lt_of_not_le;intro hge;have:=g4 i0 (Nat.zero_le _) (by omega);rw [hi0] at this; cases this
  rw [bS,b.n,iN,show Q9.f k p 0 18446744073709551615=_ from e,bS,iF (by simp [hiN])];refine ⟨i,rfl,hiN,?_,fun j hj=>?_⟩
  ·unfold W6 at g3;simpa [hiN] using g3
  ·have:=g4 j (Nat.zero_le _) hj;have hjN:j<N:=by omega
   unfold W6 at this;simpa [hjN] using this
 ·have:=g i0 (Nat.zero_le _) (by omega);rw [hi0] at this; cases this
end
namespace MC
def cont (B:Nat) (m:MC) (i:Nat):List Int:=match m.fr i with
 | none=>blk m.img B i
 | some x=>x.b
theorem cont_no {B:Nat} {m:MC} {i:Nat} (e:m.fr i=none):m.cont B i=blk m.img B i:=by unfold cont; rw [e]
theorem cont_at {B:Nat} {m:MC} {i:Nat} {x:Fm} (e:m.fr i=some x):m.cont B i=x.b:=by unfold cont; rw [e]
def Cl (B:Nat) (m:MC):Prop:=∀ i x,m.fr i=some x->x.d=false->x.b=blk m.img B i
end MC
section
variable {N B n t:Nat} {m k:MC} {i:Nat} {x:Fm}
theorem Cl.evict (mi:MI N B n t m) (cl:m.Cl B) (q:Nat):(m.evict B q).Cl B/\(∀ j,j<N->(m.evict B q).cont B j=m.cont B j)/\((m.evict B q).fr q=none)/\∀ j,m.fr j=none->(m.evict B q).fr j=none:=by
 cases e:m.fr q with
 | none=>
  have:m.evict B q=m:=by unfold MC.evict; rw [e]
  rw [this];exact ⟨cl,fun _ _=>rfl,e,fun _ h=>h⟩
 | some x=>
  obtain ⟨hq,hb,_⟩:=mi.len q x e;rw [MC.evict_eq e];refine ⟨fun j y hj hd=>?_,fun j hj=>?_,Z8 _ _ _,fun j hj=>?_⟩
  ·dsimp only at hj ⊢;by_cases qj:j=q
   ·subst qj; rw [Z8] at hj; cases hj
   ·rw [Yg qj] at hj;have h1:=cl j y hj hd;split
    ·rw [Zbq mi.dim hq hb j (mi.len j y hj).1,iF qj]; exact h1
    ·exact h1
  ·by_cases qj:j=q
   ·subst qj;rw [MC.cont_at e,MC.cont_no (Z8 _ _ _)];dsimp only;split
    ·rw [Zbq mi.dim hq hb j hq,iT rfl]
    ·rename_i hd;exact (cl j x e (by simpa using hd)).symm
   ·cases ej:m.fr j with
    | none=>
     rw [MC.cont_no ej,MC.cont_no (by show upd m.fr q none j=none; rw [Yg qj]; exact ej)];dsimp only;split
     ·rw [Zbq mi.dim hq hb j hj,iF qj]
     ·rfl
    | some y=>rw [MC.cont_at ej,MC.cont_at (show upd m.fr q none j=some y by rw [Yg qj]; exact ej)]
  ·show upd m.fr q none j=none;by_cases qj:j=q
   ·subst qj; exact Z8 _ _ _
   ·rw [Yg qj]; exact hj
theorem Cl.room (mi:MI N B n t m) (cl:m.Cl B) (h:m.room B n=some k):k.Cl B/\(∀ j,j<N->k.cont B j=m.cont B j)/\∀ j,m.fr j=none->k.fr j=none:=by
 unfold MC.room at h;split at h
 ·injection h with h; subst h; exact ⟨cl,fun _ _=>rfl,fun _ h=>h⟩
 ·split at h
  ·cases h
  ·rename_i q _;injection h with h; subst h;obtain ⟨h1,h2,_,h3⟩:=Cl.evict mi cl q;exact ⟨h1,h2,h3⟩
theorem Cl.lay {img:TU} {rd wr:Int} {fr:Nat->Option Fm} {u u':Nat} {row row':List Nat} (cl:(⟨img,rd,wr,fr,u,row⟩:MC).Cl B) {x:Fm} (hx:x.d=false->x.b=blk img B i) {rd':Int}:(⟨img,rd',wr,upd fr i (some x),u',row'⟩:MC).Cl B/\∀ j,(⟨img,rd',wr,upd fr i (some x),u',row'⟩:MC).cont B j=if j=i then x.b else (⟨img,rd,wr,fr,u,row⟩:MC).cont B j:=by
 refine ⟨fun j y hj hd=>?_,fun j=>?_⟩
 ·have hj':upd fr i (some x) j=some y:=hj;by_cases q:j=i
  ·subst q; rw [Z8] at hj'; injection hj' with hj'; subst hj'; exact hx hd
  ·rw [Yg q] at hj'; exact cl j y hj' hd
 ·by_cases q:j=i
  ·subst q; rw [iT rfl]; exact MC.cont_at (Z8 _ _ _)
  ·rw [iF q]; unfold MC.cont; dsimp only; rw [Yg q]
theorem Cl.pin (mi:MI N B n t m) (cl:m.Cl B) (i:Nat):(m.pin N B n i).2.Cl B/\∀ j,j<N->(m.pin N B n i).2.cont B j=m.cont B j:=by
 by_cases h:N<=i
 ·rw [MC.pin_out h]; exact ⟨cl,fun _ _=>rfl⟩
 cases e:m.fr i with
 | some x=>
  rw [MC.pin_hit h e];obtain ⟨h1,h2⟩:=Cl.lay (i:=i) (x:=⟨x.b,x.d,x.p+1⟩) (u':=m.used) (row':=m.row.erase i) (rd':=m.rd) (cl:(⟨m.img,m.rd,m.wr,m.fr,m.used,m.row⟩:MC).Cl B) (fun hd=>cl i x e hd);refine ⟨h1,fun j hj=>?_⟩;rw [show (((m.put i ⟨x.b,x.d,x.p+1⟩).cut i).cont B j)=_ from h2 j];split
  ·rename_i q; subst q; exact (MC.cont_at e).symm
  ·rfl
 | none=>
  cases r:m.room B n with
  | none=>rw [MC.pin_full h e r]; exact ⟨cl,fun _ _=>rfl⟩
  | some k=>
   obtain ⟨c1,c2,c3⟩:=Cl.room mi cl r;rw [MC.pin_miss h e r];obtain ⟨h1,h2⟩:=Cl.lay (i:=i) (x:=⟨blk k.img B i,false,1⟩) (u':=k.used+1) (row':=k.row) (rd':=k.rd+1) (c1:(⟨k.img,k.rd,k.wr,k.fr,k.used,k.row⟩:MC).Cl B) (fun _=>rfl);refine ⟨h1,fun j hj=>?_⟩;rw [show ((⟨k.img,k.rd+1,k.wr,k.fr,k.used,k.row⟩:MC).come i ⟨blk k.img B i,false,1⟩).cont B j=_ from h2 j];split
   ·rename_i q; subst q; rw [<- c2 j hj]; exact (MC.cont_no (c3 j e)).symm
   ·exact c2 j hj
theorem Cl.fresh (mi:MI N B n t m) (cl:m.Cl B) (i:Nat):(m.fresh N B n i).2.Cl B/\((m.fresh N B n i).1=0->i<N)/\∀ j,j<N->(m.fresh N B n i).2.cont B j=if (m.fresh N B n i).1=0/\j=i then List.replicate B 0 else m.cont B j:=by
 by_cases h:N<=i
 ·rw [MC.fresh_out h]; exact ⟨cl,fun e=>by simp at e,fun _ _=>by rw [vS]⟩
 cases e:m.fr i with
 | some x=>
  by_cases p:0<x.p
  ·rw [MC.fresh_pin h e p]; exact ⟨cl,fun e=>by simp at e,fun _ _=>by rw [vS]⟩
  ·rw [MC.fresh_hit h e p];obtain ⟨h1,h2⟩:=Cl.lay (i:=i) (x:=⟨List.replicate B 0,true,1⟩) (u':=m.used) (row':=m.row.erase i) (rd':=m.rd) (cl:(⟨m.img,m.rd,m.wr,m.fr,m.used,m.row⟩:MC).Cl B) (fun hd=>by cases hd);refine ⟨h1,fun _=>by omega,fun j hj=>?_⟩;rw [show (((m.put i ⟨List.replicate B 0,true,1⟩).cut i).cont B j)=_ from h2 j];by_cases q:j=i
   ·rw [iT q,iT ⟨rfl,q⟩]
   ·rw [iF q,iF (fun z=>q z.2)]
 | none=>
  cases r:m.room B n with
  | none=>rw [MC.fresh_full h e r]; exact ⟨cl,fun e=>by simp at e,fun _ _=>by rw [vS]⟩
  | some k=>
   obtain ⟨c1,c2,c3⟩:=Cl.room mi cl r;rw [MC.fresh_miss h e r];obtain ⟨h1,h2⟩:=Cl.lay (i:=i) (x:=⟨List.replicate B 0,true,1⟩) (u':=k.used+1) (row':=k.row) (rd':=k.rd) (c1:(⟨k.img,k.rd,k.wr,k.fr,k.used,k.row⟩:MC).Cl B) (fun hd=>by cases hd);refine ⟨h1,fun _=>by omega,fun j hj=>?_⟩;rw [show (k.come i ⟨List.replicate B 0,true,1⟩).cont B j=_ from h2 j];by_cases q:j=i
   ·rw [iT q,iT ⟨rfl,q⟩]
   ·rw [iF q,iF (fun z=>q z.2)]; exact c2 j hj
theorem Cl.unpin (cl:m.Cl B) (i:Nat):(m.unpin i).2.Cl B/\∀ j,(m.unpin i).2.cont B j=m.cont B j:=by
 cases e:m.fr i with
 | none=>rw [MC.unpin_no e]; exact ⟨cl,fun _=>rfl⟩
 | some x=>
  have key:∀(p u:Nat) (row:List Nat),(⟨m.img,m.rd,m.wr,upd m.fr i (some ⟨x.b,x.d,p⟩),u,row⟩:MC).Cl B/\∀ j,(⟨m.img,m.rd,m.wr,upd m.fr i (some ⟨x.b,x.d,p⟩),u,row⟩:MC).cont B j=m.cont B j:=fun p u row=>by
   obtain ⟨h1,h2⟩:=Cl.lay (i:=i) (x:=⟨x.b,x.d,p⟩) (u':=u) (row':=row) (rd':=m.rd) (cl:(⟨m.img,m.rd,m.wr,m.fr,m.used,m.row⟩:MC).Cl B) (fun hd=>cl i x e hd);refine ⟨h1,fun j=>?_⟩;rw [h2 j];split
   ·rename_i q; subst q; exact (MC.cont_at e).symm
   ·rfl
  by_cases p:x.p=0
  ·rw [MC.unpin_out e p]; exact ⟨cl,fun _=>rfl⟩
  ·by_cases p1:x.p=1
   ·rw [MC.unpin_one e p1]; exact key _ _ _
   ·rw [MC.unpin_more e p p1]; exact key _ _ _
theorem Cl.write (mi:MI N B n t m) (cl:m.Cl B) (i:Nat) (b:TU):(m.write B i b).2.Cl B/\((m.write B i b).1=0->i<N)/\∀ j,(m.write B i b).2.cont B j=if (m.write B i b).1=0/\j=i then b else m.cont B j:=by
 cases e:m.fr i with
 | none=>rw [MC.write_no e]; exact ⟨cl,fun e=>by simp at e,fun _=>by rw [vS]⟩
 | some x=>
  by_cases p:x.p=0
  ·rw [MC.write_out e p]; exact ⟨cl,fun e=>by simp at e,fun _=>by rw [vS]⟩
  ·by_cases q:b.length=B
   ·rw [MC.write_hit e p q];obtain ⟨h1,h2⟩:=Cl.lay (i:=i) (x:=⟨b,true,x.p⟩) (u':=m.used) (row':=m.row) (rd':=m.rd) (cl:(⟨m.img,m.rd,m.wr,m.fr,m.used,m.row⟩:MC).Cl B) (fun hd=>by cases hd);refine ⟨h1,fun _=>(mi.len i x e).1,fun j=>?_⟩;rw [show (m.put i ⟨b,true,x.p⟩).cont B j=_ from h2 j];by_cases q:j=i
    ·rw [iT q,iT ⟨rfl,q⟩]
    ·rw [iF q,iF (fun z=>q z.2)]
   ·rw [MC.write_form e p q]; exact ⟨cl,fun e=>by simp at e,fun _=>by rw [vS]⟩
end
abbrev Shf:=Cfg×Ca×Bt×Int
section
variable {c:Cfg} {N B n t q:Nat} {s:Shf} {L:List Nat}
theorem Zd3:∀ {l:TU},Byt l->toB (toS l)=l
 | [],_=>rfl
 | x :: l,h=>by
  have hx:=h x (by simp);have ih:=Zd3 (l:=l) fun y hy=>h y (List.mem_cons_of_mem _ hy);obtain ⟨v,rfl⟩:=Int.eq_ofNat_of_zero_le hx.1;unfold toS toB at *;rw [List.map_cons,List.map_cons,ih];congr 1;rw [tN,UInt8.toNat_ofNat'];rw [Nat.mod_eq_of_lt (by omega)]
structure EncN (nd:Nd):Prop where
 sm:SmallN nd
 kd:∀ x∈nd.2.1,0<=x/\x<4294967296
theorem EncN.ev {nd:Nd} (h:EncN nd) (c:Cfg):Ev (fun k=>Q39.f k c nd) (B7 c nd):=Zsc h.sm.kids h.sm.pivs (by have:=h.sm.buf; omega) (by have:=h.sm.prs; omega) h.kd
end
theorem Zrm {N B:Nat} (h:5<=N/\N<=65536/\1<=B/\B<=65536):Q58.f (N:Int) (B:Int)=some (some ((B:Int),List.replicate (N*B) 0,(0,0)),0):=by
 have hb:N*B<=65536*65536:=Nat.mul_le_mul h.2.1 h.2.2.2;have e:w64 ((N:Int)*(B:Int))=((N*B:Nat):Int):=by rw [show (N:Int)*(B:Int)=((N*B:Nat):Int) by simp,wI2]
 unfold Q58.f Q59.f;rw [iP,iP,iP,bS,iW,e,iO,tN]
structure Geo (c:Cfg) (N B n:Nat):Prop where
 ok:okB c=true
 z:Siz N B n
 n8:8<=n
 N5:5<=N/\N<=65536
 hB:B<=65536
 eN:c.1=(N:Int)
 eB:c.2.1=(B:Int)
 en:c.2.2.1=(n:Int)
structure ShK (c:Cfg) (N B n t:Nat) (s:Shf) (L:List Nat) (q:Nat) (K:Nat->List Int) (h:Nat->Bool):Prop where
 cfg:s.1=c
 ca:CaI N B n t [] s.2.1 L
 by':(Z6 s.2.1 L).By
 cl:(Z6 s.2.1 L).Cl B
 ct:∀ j,j<N->(Z6 s.2.1 L).cont B j=K j
 bits:BR N s.2.2.1 h
 h0:h 0=true
 kp:s.2.2.2=(q:Int)
 qN:q<N
 pin:∀ j,(Z6 s.2.1 L).cnt j=if j=q/\q≠0 then 1 else 0
 rd:0<=s.2.1.1.2.2.1/\s.2.1.1.2.2.1<=t
 wr:0<=s.2.1.1.2.2.2/\s.2.1.1.2.2.2<=64*t
section
variable {c:Cfg} {N B n t q:Nat} {s:Shf} {L:List Nat} {K:Nat->List Int} {h:Nat->Bool}
theorem ShK.few (H:ShK c N B n t s L q K h) (ht:t<=900000):Few s.2.1:=⟨⟨H.rd.1,by have:=H.rd.2; omega⟩,⟨H.wr.1,by have:=H.wr.2; omega⟩⟩
theorem ShK.up (H:ShK c N B n t s L q K h) {t':Nat} (ht:t<=t'):ShK c N B n t' s L q K h:=⟨H.cfg,H.ca.mono ht,H.by',H.cl,H.ct,H.bits,H.h0,H.kp,H.qN,H.pin,⟨H.rd.1,by have:=H.rd.2; omega⟩,⟨H.wr.1,by have:=H.wr.2; omega⟩⟩
theorem Zmn (g:Geo c N B n) (ca:CaI N B n t [] s.2.1 L) (hp:∀ j,(Z6 s.2.1 L).cnt j=if j=q/\q≠0 then 1 else 0):∃ k,(Z6 s.2.1 L).room B n=some k:=by
 unfold MC.room;by_cases hu:(Z6 s.2.1 L).used<n
 ·exact ⟨_,iT hu⟩
 ·rw [iF hu];have hlen:2<=s.2.1.2.2.1.length:=by
   have:=g.n8;have e:(Z6 s.2.1 L).used=s.2.1.2.2.1.length:=rfl;omega
  have hne:(Z6 s.2.1 L).row≠[]:=by
   have free:∀ i f:Nat,((i:Int),(f:Int))∈s.2.1.2.2.1->i≠q->(Z6 s.2.1 L).row≠[]:=fun i f hm hi e=>by
    have h1:=Uk ca hm;have h2:=hp i;rw [iF (fun z=>hi z.1)] at h2;have h3:(Z6 s.2.1 L).fr i=some (fm (s.2.1.2.1.getD f default)):=h1;rw [MC.cnt_at h3] at h2;have:=(ca.mi.rfr i).2 ⟨_,h3,h2⟩;rw [e] at this; cases this
   match hm:s.2.1.2.2.1,hlen with
   | a :: b :: r,_=>
    obtain ⟨i,f,ea,_⟩:=ca.mok a (by rw [hm]; simp);obtain ⟨j,f',eb,_⟩:=ca.mok b (by rw [hm]; simp);have hnd:=ca.mnd;rw [hm,List.map_cons,List.map_cons,List.nodup_cons,List.mem_cons,ea,eb] at hnd;by_cases q1:i=q
    ·refine free j f' (by rw [hm,eb]; simp) fun q2=>hnd.1 (.inl ?_);rw [q1,q2]
    ·exact free i f (by rw [hm,ea]; simp) q1
  cases e:(Z6 s.2.1 L).row.getLast? with
  | none=>exact absurd (List.getLast?_eq_none_iff.1 e) hne
  | some x=>exact ⟨_,rfl⟩
theorem MC.pin_ok {m:MC} {i:Nat} (hr:∃ k,m.room B n=some k) (hi:i<N):(m.pin N B n i).1=0:=by
 obtain ⟨k,hk⟩:=hr;unfold MC.pin;rw [iQ];cases m.fr i with
 | some x=>rfl
 | none=>rw [hk]
theorem MC.fresh_ok {m:MC} {i:Nat} (hr:∃ k,m.room B n=some k) (hi:i<N) (h0:m.cnt i=0):(m.fresh N B n i).1=0:=by
 obtain ⟨k,hk⟩:=hr;unfold MC.fresh;rw [iQ];cases e:m.fr i with
 | some x=>rw [MC.cnt_at e] at h0; dsimp only; rw [iQ]
 | none=>dsimp only; rw [hk]
theorem MC.write_ok {m:MC} {i:Nat} {b:TU} (h1:1<=m.cnt i) (hb:b.length=B):(m.write B i b).1=0:=by
 cases e:m.fr i with
 | none=>rw [MC.cnt_no e] at h1; omega
 | some x=>rw [MC.cnt_at e] at h1; rw [MC.write_hit e (by omega) hb]
theorem MC.read_ok {m:MC} {i:Nat} (h1:1<=m.cnt i):m.read i=(m.cont B i,0):=by
 cases e:m.fr i with
 | none=>rw [MC.cnt_no e] at h1; omega
 | some x=>rw [MC.cnt_at e] at h1; rw [MC.read_hit e (by omega),MC.cont_at e]
theorem ShK.there (g:Geo c N B n) (H:ShK c N B n t s L q K h) {i:Nat} (hi:i<4294967296):Q92.f s (i:Int)=some (if 1<=i/\i<N then 0 else 4):=by
 have e:=g.eN;have hN:=g.N5;unfold Q92.f;rw [H.cfg,e];by_cases q0:i=0
 ·rw [iP,iQ]
 ·have w1:w64 (i:Int)=(i:Int):=wI2;rw [iN,w1];by_cases q1:N<=i
  ·rw [iP,iQ]
  ·rw [iN,iO]
theorem ShK.put (H:ShK c N B n t s L q K h) {c':Ca} {L':List Nat} {t' a b:Nat} {K':Nat->List Int} (hca:CaI N B n t' [] c' L') (hto:MC.To a b (Z6 s.2.1 L) (Z6 c' L')) (hcl:(Z6 c' L').Cl B) (hct:∀ j,j<N->(Z6 c' L').cont B j=K' j) (hpin:∀ j,(Z6 c' L').cnt j=if j=q/\q≠0 then 1 else 0) (ht:t+a<=t') (hb:b<=64*(t' - t)):ShK c N B n t' (s.1,c',s.2.2.1,s.2.2.2) L' q K' h:=
 ⟨H.cfg,hca,hto.by' H.by',hcl,hct,H.bits,H.h0,H.kp,H.qN,hpin,by
  have r1:=hto.rd;have r2:=H.rd;have e1:(Z6 s.2.1 L).rd=s.2.1.1.2.2.1:=rfl;have e2:(Z6 c' L').rd=c'.1.2.2.1:=rfl;show 0<=c'.1.2.2.1/\c'.1.2.2.1<=t';omega,by
  have r1:=hto.wr;have r2:=H.wr;have e1:(Z6 s.2.1 L).wr=s.2.1.1.2.2.2:=rfl;have e2:(Z6 c' L').wr=c'.1.2.2.2:=rfl;show 0<=c'.1.2.2.2/\c'.1.2.2.2<=64*t';omega⟩
def Zei (c:Cfg) (b:TU):Nd×Int:=Zfj c (toS b)
theorem Ztn (g:Geo c N B n) (H:ShK c N B n t s L q K h) (ht:t<=800000) {i:Nat} (hi:i<4294967296):∃(s':Shf) (L':List Nat),Ev (fun k=>Q88.f k s (i:Int)) (if 1<=i/\i<N then ((Zei c (K i)).1,(Zei c (K i)).2,s') else (Bf,4,s'))/\ShK c N B n (t+1) s' L' q K h/\MC.To 1 1 (Z6 s.2.1 L) (Z6 s'.2.1 L')/\(i=q->MC.To 0 0 (Z6 s.2.1 L) (Z6 s'.2.1 L')):=by
 have ht':=H.there g hi;by_cases q1:1<=i/\i<N
 ·rw [iT q1] at ht';have hr:=Zmn g H.ca H.pin;obtain ⟨c1,L1,e1,hc1,ha1⟩:=Zt7 g.z H.ca (H.few (by omega)) (by omega) i hi;obtain ⟨f1,f0,f2⟩:=Pm.pin H.ca.mi H.by' i;obtain ⟨cl1,ct1⟩:=Cl.pin H.ca.mi H.cl i;have r0:=MC.pin_ok (i:=i) hr q1.2;rw [<- ha1] at f1 f0 f2 cl1 ct1;have y1:=f1.by' H.by';have p1:1<=(Z6 c1 L1).cnt i:=by rw [f2,iT ⟨r0,rfl⟩]; omega
  obtain ⟨c3,L3,e3,hc3,ha3⟩:=Znp g.z hc1 (by omega) i;obtain ⟨u1,u2⟩:=Pm.unpin y1 i;obtain ⟨cl3,ct3⟩:=Cl.unpin cl1 i;rw [<- ha3] at u1 u2 cl3 ct3;have er:=Zs3 g.z hc1 i;rw [MC.read_ok (B:=B) p1,ct1 i q1.2,H.ct i q1.2] at er;have hbK:Byt (K i)/\(K i).length=B:=by
   rw [<- H.ct i q1.2,<- ct1 i q1.2];cases ef:(Z6 c1 L1).fr i with
   | none=>rw [MC.cnt_no ef] at p1; omega
   | some x=>rw [MC.cont_at ef]; exact ⟨y1.fr i x ef,(hc1.mi.len i x ef).2.1⟩
  obtain ⟨k0,hk⟩:=Ztw (c:=c) (b:=toS (K i)) (by have:=hbK.2; have:=g.hB; rw [<- Z5,Zd3 hbK.1]; omega);refine ⟨(s.1,c3,s.2.2.1,s.2.2.2),L3,⟨k0,fun k kk=>?_⟩,H.put (a:=1) (b:=1) hc3 ((f1.trans u1).le (by omega) (by omega)) cl3 (fun j hj=>by rw [ct3,ct1 j hj,H.ct j hj]) (fun j=>?_) (by omega) (by omega),(f1.trans u1).le (by omega) (by omega),fun e=>?_⟩
  ·show Q88.f k s (i:Int)=_;have hcfg:=H.cfg;unfold Q88.f;rw [ht',bS,vS,e1,bS,iF (by simpa using r0)];dsimp only;rw [er,bS,e3,bS,vS,hcfg,iT q1];have:=hk k kk;rw [Zd3 hbK.1] at this;rw [show Q38.f k c (K i)=_ from this,bS];rfl
  ·rw [u2];by_cases e:j=i
   ·subst e;rw [iT rfl,f2,iT ⟨r0,rfl⟩,Nat.add_sub_cancel,H.pin]
   ·rw [iF e,f2,iF (fun z=>e z.2),H.pin]
  ·subst e;have:1<=(Z6 s.2.1 L).cnt i:=by rw [H.pin,iT ⟨rfl,by omega⟩]; omega
   exact ((f0 this).trans u1).le (by omega) (by omega)
 ·rw [iF q1] at ht';refine ⟨s,L,⟨0,fun k _=>?_⟩,H.up (by omega),(MC.To.refl _).le (by omega) (by omega),fun _=>MC.To.refl _⟩;show Q88.f k s (i:Int)=_;unfold Q88.f;rw [ht',bS,iU,iF q1];rfl
theorem Zt2 (g:Geo c N B n) (H:ShK c N B n t s L q K h) (ht:t<=800000) {i:Nat} (hi:1<=i/\i<N) {b:TU} (hb:Byt b) (hl:b.length=B):∃ s' L',Q90.f s (i:Int) b=some (0,s')/\ShK c N B n (t+1) s' L' q (upd K i b) h/\MC.To 0 1 (Z6 s.2.1 L) (Z6 s'.2.1 L'):=by
 have hr:=Zmn g H.ca H.pin;have hN:=g.N5;unfold Q90.f;rw [H.kp];by_cases qi:i=q
 ·obtain ⟨c',L',e,hc,ha⟩:=Zmd g.z H.ca i b;obtain ⟨t1,t2⟩:=Pm.write (m:=Z6 s.2.1 L) (B:=B) i hb;obtain ⟨cl1,_,ct1⟩:=Cl.write H.ca.mi H.cl i b;have w0:((Z6 s.2.1 L).write B i b).1=0:=MC.write_ok (by rw [H.pin,iT ⟨qi,by omega⟩]; omega) hl;rw [<- ha] at t1 t2 cl1 ct1;rw [iP,e,bS,w0];refine ⟨_,L',rfl,?_,t1.le (by omega) (by omega)⟩;have:=H.put (a:=0) (b:=0) (t':=t+1) (K':=upd K i b) (hc.mono (by omega)) t1 cl1 (fun j hj=>by
   rw [ct1 j];by_cases e:j=i
   ·subst e; rw [iT ⟨w0,rfl⟩,Z8]
   ·rw [iF (fun z=>e z.2),Yg e,H.ct j hj]) (fun j=>by rw [t2,H.pin]) (by omega) (by omega)
  rw [H.kp] at this;exact this
 ·obtain ⟨c1,L1,e1,hc1,ha1⟩:=Zse g.z H.ca (H.few (by omega)) (by omega) i (by omega);obtain ⟨f1,f2⟩:=Pm.fresh H.ca.mi H.by' i;obtain ⟨cl1,_,ct1⟩:=Cl.fresh H.ca.mi H.cl i;have r0:((Z6 s.2.1 L).fresh N B n i).1=0:=MC.fresh_ok hr hi.2 (by rw [H.pin,iF (fun z=>qi z.1)]);rw [<- ha1] at f1 f2 cl1 ct1;have y1:=f1.by' H.by';obtain ⟨c2,L2,e2,hc2,ha2⟩:=Zmd g.z hc1 i b;obtain ⟨t1,t2⟩:=Pm.write (m:=Z6 c1 L1) (B:=B) i hb;obtain ⟨cl2,_,ct2⟩:=Cl.write hc1.mi cl1 i b;have w0:((Z6 c1 L1).write B i b).1=0:=MC.write_ok (by rw [f2,iT ⟨r0,rfl⟩]; omega) hl;rw [<- ha2] at t1 t2 cl2 ct2;have y2:=t1.by' y1;obtain ⟨c3,L3,e3,hc3,ha3⟩:=Znp g.z hc2 (by omega) i;obtain ⟨u1,u2⟩:=Pm.unpin y2 i;obtain ⟨cl3,ct3⟩:=Cl.unpin cl2 i;rw [<- ha3] at u1 u2 cl3 ct3;rw [iN,e1,bS,iF (by simpa using r0)];dsimp only;rw [e2,bS];dsimp only;rw [e3,bS,w0];refine ⟨_,L3,rfl,?_,((f1.trans t1).trans u1).le (by omega) (by omega)⟩;have:=H.put (a:=0) (b:=1) (t':=t+1) (K':=upd K i b) hc3 (((f1.trans t1).trans u1).le (by omega) (by omega)) cl3 (fun j hj=>by
   rw [ct3,ct2 j];by_cases e:j=i
   ·subst e; rw [iT ⟨w0,rfl⟩,Z8]
   ·rw [iF (fun z=>e z.2),Yg e,ct1 j hj,iF (fun z=>e z.2),H.ct j hj]) (fun j=>by
   rw [u2];by_cases e:j=i
   ·subst e; rw [iT rfl,t2,f2,iT ⟨r0,rfl⟩,Nat.add_sub_cancel,H.pin]
   ·rw [iF e,t2,f2,iF (fun z=>e z.2),H.pin]) (by omega) (by omega)
  rw [H.kp] at this;exact this
def Ub (c:Cfg) (nd:Nd):List Int:=toB (B8 c nd)
theorem Zqu {c:Cfg} {nd:Nd} (hn:EncN nd) (g:Geo c N B n) (hr:Wm c U8 nd=true):Byt (Ub c nd)/\(Ub c nd).length=B:=by
 have hf:=Bj (Br g.ok) hn.kd hr;refine ⟨fun x hx=>?_,?_⟩
 ·unfold Ub toB at hx;obtain ⟨y,_,rfl⟩:=List.mem_map.1 hx;have:=y.toNat_lt;omega
 ·unfold Ub;rw [Z5,Zff g.ok hf];have:=(Zc0 g.ok hf).2.2;have:=g.eB;omega
theorem Zlh {c:Cfg} {nd:Nd} (hok:okB c=true) (hl:∀ x∈nd.2.1,0<=x/\x<4294967296) (hr:Wm c U8 nd=true):Zei c (Ub c nd)=(nd,0):=by
 unfold Zei Ub;rw [Zcr];exact Zn5 hok hl hr
end
theorem Zlw {i:Nat} (h:i<4294967296):uD.wrap (i:Int)=(i:Int):=by
 have:(i:Int) % 4294967296=(i:Int):=Int.emod_eq_of_lt (by omega) (by omega);simp [IntKind.wrap,IntKind.bits,IntKind.signed,this]
section
variable {c:Cfg} {N B n t q:Nat} {s:Shf} {L:List Nat} {K:Nat->List Int} {h:Nat->Bool} {p:Bt}
def Zav (N:Nat) (h:Nat->Bool):Nat:=N - ((List.range N).filter h).length
theorem Ztg (b:BR N p h):Q80.f p=some ((Zav N h:Nat):Int):=by
 have hN:=b.N1;have hc:=Znz b;unfold Q80.f Q84.f Q7.f Q4.f Zav;rw [bS,vS,bS,bS,b.n,b.cnt,wI2];congr 1;omega
theorem Zlc (h:Nat->Bool):Zav N h=0↔∀ i,i<N->h i=true:=by
 unfold Zav;constructor
 ·intro e i hi;have hle:((List.range N).filter h).length<=N:=by have:=List.length_filter_le h (List.range N); rwa [length_range] at this
  have:((List.range N).filter h).length=(List.range N).length:=by rw [length_range]; omega
  exact List.length_filter_eq_length_iff.1 this i (List.mem_range.2 hi)
 ·intro e;rw [List.filter_eq_self.2 fun x hx=>e x (List.mem_range.1 hx),length_range,Nat.sub_self]
theorem Ztk (b:BR N p h):(Zav N h=0/\∀ k,3000<k->Q83.f k p=some (0,11,p))\/∃(i:Nat) (p':Bt),i<N/\h i=false/\(∀ j,j<i->h j=true)/\(∀ k,3000<k->Q83.f k p=some ((i:Int),0,p'))/\BR N p' (upd h i true):=by
 have hN:=b.N1;have eF:=Ztg b;by_cases qz:Zav N h=0
 ·refine .inl ⟨qz,fun k hk=>?_⟩;unfold Q83.f Q82.f;rw [Q84.f,bS,vS,vS,eF,bS,iP,bS,iU]
 ·have hfree:∃ i,i<N/\h i=false:=by
   apply Classical.byContradiction;intro hn;refine qz ((Zlc h).2 fun i hi=>?_);cases hh:h i with
   | true=>rfl
   | false=>exact absurd ⟨i,hi,hh⟩ hn
  obtain ⟨i,_,hiN,hif,hil⟩:=b.free (k:=3001) (by omega) hfree;obtain ⟨p',es,b'⟩:=b.set (i:=i) (by omega);rw [iQ] at b';refine .inr ⟨i,p',hiN,hif,hil,fun k hk=>?_,b'⟩;obtain ⟨k2,rfl⟩:∃ k2,k=k2+2:=⟨k - 2,by omega⟩;obtain ⟨i2,ei,hi2N,hi2f,hi2l⟩:=b.free (k:=k2+1) (by omega) hfree;have:i2=i:=by
   rcases Nat.lt_trichotomy i2 i with z | z | z
   ·rw [hil _ z] at hi2f; cases hi2f
   ·exact z
   ·rw [hi2l _ z] at hif; cases hif
  subst this;unfold Q83.f Q82.f;rw [Q84.f,bS,vS,vS,eF,bS,iN,Q82.l0,iT (by decide),show Q5.f (k2+1) (p.1,p.2.1,p.2.2) 0=_ from ei,bS];dsimp only;rw [show Q8.f (p.1,p.2.1,p.2.2) (i2:Int)=_ from es,bS,iU,Q82.l0,iF (by decide),bS];dsimp only;rw [vS,iU,List.nil_append,show gt [uD.wrap (i2:Int)] 0=uD.wrap (i2:Int) from rfl,Zlw (by omega)]
theorem ShK.pool (H:ShK c N B n t s L q K h) {p':Bt} {h':Nat->Bool} (b:BR N p' h') (h0:h' 0=true):ShK c N B n t (s.1,s.2.1,p',s.2.2.2) L q K h':=⟨H.cfg,H.ca,H.by',H.cl,H.ct,b,h0,H.kp,H.qN,H.pin,H.rd,H.wr⟩
theorem Zs1 (g:Geo c N B n) (H:ShK c N B n t s L q K h) (ht:t<=800000) {nd:Nd} (hn:EncN nd) :
  (Wm c U8 nd=false/\Ev (fun k=>Q89.f k s nd) (0,3,s))\/(Wm c U8 nd=true/\Zav N h=0/\Ev (fun k=>Q89.f k s nd) (0,11,s))\/
  (Wm c U8 nd=true/\∃(i:Nat) (s':Shf) (L':List Nat),1<=i/\i<N/\h i=false/\(∀ j,j<i->h j=true)/\Ev (fun k=>Q89.f k s nd) ((i:Int),0,s')/\ShK c N B n (t+1) s' L' q (upd K i (Ub c nd)) (upd h i true)/\MC.To 0 1 (Z6 s.2.1 L) (Z6 s'.2.1 L')):=by
 obtain ⟨k0,hk'⟩:=hn.ev c;have hk:∀ k,k0<=k->Q39.f k s.1 nd=some (B7 c nd):=fun k kk=>by rw [H.cfg]; exact hk' k kk
 cases hr:Wm c U8 nd with
 | false=>
  refine .inl ⟨rfl,k0,fun k kk=>?_⟩;show Q89.f k s nd=_;have ee:B7 c nd=([],3):=by unfold B7; rw [iT g.ok,hr,vS]
  unfold Q89.f Q91.f;rw [bS,vS,hk k kk,bS,ee,iU]
 | true=>
  have ee:B7 c nd=(Ub c nd,0):=by unfold B7 Ub; rw [iT g.ok,iT hr]
  rcases Ztk H.bits with ⟨z0,e⟩ | ⟨i,p',hiN,hif,hil,e,b'⟩
  ·refine .inr (.inl ⟨rfl,z0,k0+3001,fun k kk=>?_⟩);show Q89.f k s nd=_;unfold Q89.f Q91.f;rw [bS,vS,hk k (by omega),bS,ee,vS,e k (by omega),bS,iU]
  ·have hi1:1<=i:=by
    apply Nat.one_le_iff_ne_zero.2;intro e0;rw [e0,H.h0] at hif; cases hif
   have H1:=H.pool b' (by rw [Yg]; exact H.h0);obtain ⟨b1,b2⟩:=Zqu hn g hr;obtain ⟨s',L',el,H',to⟩:=Zt2 g H1 ht ⟨hi1,hiN⟩ b1 b2;refine .inr (.inr ⟨rfl,i,s',L',hi1,hiN,hif,hil,⟨k0+3001,fun k kk=>?_⟩,H',to⟩);show Q89.f k s nd=_;unfold Q89.f Q91.f;rw [bS,vS,hk k (by omega),bS,ee,vS,e k (by omega),bS,vS];dsimp only;rw [el,bS,vS]
end
section
variable {c:Cfg} {N B n t q:Nat} {s:Shf} {L:List Nat} {K:Nat->List Int} {h:Nat->Bool} {p:Bt}
theorem Zov {N:Nat} (h5:5<=N) (h:N<=65536):∃ p,Q79.f (N:Int)=some (some p,0)/\BR N p (upd (fun _=>false) 0 true):=by
 have e1:w64 ((N:Int)+64)=((N+64:Nat):Int):=by rw [wI2]; omega
 have e2:w64 (((N+64:Nat):Int) - 1)=((N+63:Nat):Int):=by rw [wI2]; omega
 have e3:w64 (Int.tdiv ((N+63:Nat):Int) 64)=(((N+63) / 64:Nat):Int):=by
  rw [show Int.tdiv ((N+63:Nat):Int) 64=(((N+63) / 64:Nat):Int) from rfl,wI2]
 have b0:BR N ((N:Int),0,List.replicate ((N+63) / 64) (0:Int)) (fun _=>false):=by
  refine ⟨rfl,by omega,?_,by simp,fun w hw=>⟨0,?_,by decide,fun b hb=>?_⟩⟩
  ·have:(List.range N).filter (fun _=>false)=[]:=List.filter_eq_nil_iff.2 (by simp);rw [this]; rfl
  ·rw [length_replicate] at hw;rw [List.getD_eq_getElem?_getD,List.getElem?_replicate,iT hw]; rfl
  ·simp
 obtain ⟨p',es,b'⟩:=b0.set (i:=0) (by omega);rw [iQ] at b';refine ⟨p',?_,b'⟩;unfold Q79.f Q2.f;rw [iN,iN,iN,e1,e2,e3,iO,bS];dsimp only [Vn];rw [iU,tN,show Q8.f ((N:Int),0,List.replicate ((N+63) / 64) (0:Int)) 0=_ from es,bS]
def Zfi (c:Cfg) (N B n:Nat) (ch:Chn) (p:Bt):Shf:=(c,(((B:Int),List.replicate (N*B) 0,(0,0)),List.replicate n (0,[],false,0),[],(List.range n).map (fun(i:Nat)=>(i:Int)),ch),p,0)
theorem Zt1 (g:Geo c N B n) {ch:Chn} (hc:ChI n ch []) {p:Bt} (hp:BR N p (upd (fun _=>false) 0 true)):ShK c N B n 0 (Zfi c N B n ch p) [] 0 (fun _=>List.replicate B 0) (upd (fun _=>false) 0 true):=by
 have hi:=Zsa g.z (img:=List.replicate (N*B) 0) (by simp) (0,0) hc;have fr0:∀ i,(Z6 (Zfi c N B n ch p).2.1 []).fr i=none:=fun i=>by
  show Xt (Zfi c N B n ch p).2.1 i=none;exact Jf (by simp [Zfi])
 refine ⟨rfl,hi,⟨Byt.rep _,fun i x hx=>by rw [fr0 i] at hx; cases hx⟩,fun i x hx=>(by rw [fr0 i] at hx; cases hx),fun j hj=>?_,hp,Z8 _ _ _,rfl,by have:=g.N5; omega,fun j=>?_,⟨Int.le_refl _,Int.le_refl _⟩,⟨Int.le_refl _,Int.le_refl _⟩⟩
 ·rw [MC.cont_no (fr0 j)];show blk (List.replicate (N*B) 0) B j=_;unfold blk;have:j*B+B<=N*B:=by rw [<- Nat.succ_mul]; exact Nat.mul_le_mul_right _ hj
  rw [List.drop_replicate,List.take_replicate,Nat.min_eq_left (by omega)]
 ·rw [show (Z6 (Zfi c N B n ch p).2.1 []).cnt j=0 from MC.cnt_no (fr0 j),iF (fun z=>z.2 rfl)]
end
def emS (s:Sp):Bool:=!s.2.2 && !Op.bytesLess s.1 s.2.1
theorem W3 (s:Sp):Q68.f s=some (emS s):=by
 unfold Q68.f emS;rw [Zgv];cases s.2.2 <;> rfl
theorem Zaq {s:Sp} {x:TQ} (h:emS s=true):inS s x=false:=by
 simp only [emS,Bool.and_eq_true,Bool.not_eq_true'] at h;cases k:Op.bytesLess x s.1 with
 | true=>simp [inS,k]
 | false=>
  simp only [inS,k,h.1,Bool.not_false,Bool.true_and,Bool.false_or];exact Vb h.2 k
abbrev pk (p:Pr):List UInt8:=p.1
abbrev mk (m:Msg):List UInt8:=m.1
def okN (N:Nat) (l:List Msg):Prop:=l.length<=N/\∀ m∈l,m.1.length<=300
theorem B0 {l:List Msg} {m:Msg} (hl:okN 1000 l) (hm:m.1.length<=300):∀(k i:Nat) (x1:List Msg),i<=l.length->x1.length<=2000+i->l.length - i<k->(∀ b∈l.drop i,b.1≠m.1)->Q147.l0 k l m x1 true (i:Int)=some (x1 ++ l.drop i)
 | 0,i,x1,_,_,h,_=>by omega
 | k+1,i,x1,hi,hx,hk,hn=>by
  have h1000:=hl.1;rw [Q147.l0];by_cases h:i<l.length
  ·have ne:(l.getD i default).1≠m.1:=hn _ (by rw [Yn h]; simp);have ih:=B0 hl hm k (i+1) (x1 ++ [l.getD i default]) (by omega) (by simp; omega) (by omega) (fun b hb=>hn b (by rw [Yn h]; simp [hb]));rw [iP,vS,iO,Zx,iT (by simp only [ne,decide_false]; rfl),iV,wS2,ih,Yn h];simp
  ·rw [iW,vS,dN];simp
theorem Zfz {l:List Msg} {m:Msg} (hl:okN 1000 l) (hm:m.1.length<=300):∀(k i:Nat) (x1:List Msg),i<=l.length->x1.length<=1000+i->2001+(l.length - i)<k->RiseK mk (l.drop i)->Q147.l0 k l m x1 false (i:Int)=some (x1 ++ Y8 mk m (l.drop i))
 | 0,i,x1,_,_,h,_=>by omega
 | k+1,i,x1,hi,hx,hk,hr=>by
  have h1000:=hl.1;rw [Q147.l0];by_cases h:i<l.length
  ·have kl:=hl.2 _ (Xj (d:=default) h);rw [Yn h] at hr ⊢;obtain ⟨r1,r2⟩:=List.pairwise_cons.1 hr;rw [iP,iT (by rfl),iO,Zx,Wv (by omega) (by omega) (by omega),bS,wS2];unfold Y8;cases q:Op.bytesLess (l.getD i default).1 m.1 with
   | true=>
    have ne:(l.getD i default).1≠m.1:=We q;rw [iF (by simp only [dE,scmp_le,q]; simp),iT (by simp only [ne,decide_false]; rfl),iV,Zfz hl hm k (i+1) _ (by omega) (by simp; omega) (by omega) r2,
     iF (by rw [show Op.bytesLess (mk m) (mk (l.getD i default))=false from Xu q]; simp),iF (show ¬ mk m=mk (l.getD i default) from fun e=>ne e.symm)]
    simp
   | false=>
    rw [iT (dT (scmp_le.2 q)),iV];by_cases e:(l.getD i default).1=m.1
    ·have hn:∀ b∈l.drop (i+1),b.1≠m.1:=fun b hb=>by rw [<- e]; exact (We (r1 b hb)).symm
     rw [iF (by rw [dT e]; simp),B0 hl hm k (i+1) _ (by omega) (by simp; omega) (by omega) hn,iF (by rw [show mk m=mk (l.getD i default) from e.symm,W0]; simp),iT (show mk m=mk (l.getD i default) from e.symm)];simp
    ·have lt:Op.bytesLess m.1 (l.getD i default).1=true:=(Bo q).resolve_left e;have hn:∀ b∈l.drop (i+1),b.1≠m.1:=fun b hb=>(We (Yw lt (r1 b hb))).symm;rw [iT (by simp only [e,decide_false]; rfl),iV,B0 hl hm k (i+1) _ (by omega) (by simp; omega) (by omega) hn,iT (show Op.bytesLess (mk m) (mk (l.getD i default))=true from lt)];simp
  ·rw [iW,iT (by rfl),iV,dN];rfl
theorem Zjp {l:List Msg} {m:Msg} (hl:okN 1000 l) (hm:m.1.length<=300) (hr:RiseK mk l) {k:Nat} (hk:4000<k):Q147.f k l m=some (Y8 mk m l):=by
 have:=Zfz hl hm k 0 [] (by omega) (by simp) (by have:=hl.1; omega) (by simpa using hr);simpa [Q147.f] using this
theorem Zb4 {l:List Pr} (x:TQ) (hl:l.length<=1000000) (hr:RiseK pk l) {k:Nat} (hk:l.length<k) :
  ∃ c:Nat,Q94.f k l x=some ((c:Int),decide (c<l.length/\(l.getD c default).1=x))/\AtK pk l x c:=
 B3 (key:=pk) (F:=fun k a b=>Q94.l0 k l x a b) hl hr (fun k a b=>rfl) k 0 l.length (by omega) (by omega) (by omega) (fun j hj=>by omega) (fun j hj hjl=>by omega)
theorem G4 {l:List Pr} (hl:l.length<=1000000):Q96.f l=some l:=by
 unfold Q96.f;rw [iV];rfl
def V6 (l:List Pr) (x:Msg):List Pr:=if x.2.1=true then Wg pk x.1 l else Y8 pk (x.1,x.2.2) l
theorem Zht {l:List Pr} (x:Msg) (h:RiseK pk l):RiseK pk (V6 l x):=by
 unfold V6;split
 ·exact Zb1 pk h
 ·exact Uh pk h
theorem Zeb (l:List Pr) (x:Msg):(V6 l x).length<=l.length+1:=by
 unfold V6;split
 ·exact Nat.le_trans (List.length_filter_le _ _) (by omega)
 ·exact Un pk _ l
theorem Zh3 {m:List Msg} (hm:m.length<=1000):∀(k i:Nat) (x1:List Pr),i<=m.length->5000+(m.length - i)<k->x1.length<=2000+i->RiseK pk x1->Q62.l0 k m x1 (i:Int)=some ((m.drop i).foldl V6 x1)
 | 0,i,x1,_,h,_,_=>by omega
 | k+1,i,x1,hi,hk,hx,hr=>by
  rw [Q62.l0];by_cases h:i<m.length
  ·obtain ⟨c,e1,e2⟩:=Zb4 (m.getD i default).1 (l:=x1) (k:=k) (by omega) hr (by omega);have c1:=e2.1;have ih:=Zh3 hm k (i+1) (V6 x1 (m.getD i default)) (by omega) (by omega) (by have:=Zeb x1 (m.getD i default); omega) (Zht _ hr);have wi:w64 ((i:Int)+1)=((i+1:Nat):Int):=wS2;rw [iP,iO,Zx,e1,bS,wi,Yn h,List.foldl_cons,<- ih];generalize m.getD i default=x at e1 e2;by_cases q:c<x1.length/\(x1.getD c default).1=x.1
   ·rw [iT (dT q)];cases d:x.2.1 with
    | true=>
     have hc:=e2.cut hr;rw [iT (show c<x1.length/\pk (x1.getD c default)=x.1 from q)] at hc;rw [iT rfl,wS2];unfold Q105.f;rw [iO,bS,tN,tN,<- hc];unfold V6;rw [iT d]
    | false=>
     have hc:=AtK.put (key:=pk) (m:=(x.1,x.2.2)) hr e2;rw [iT (show c<x1.length/\pk (x1.getD c default)=pk (x.1,x.2.2) from q)] at hc;rw [vS,iO,Zx,tN,q.2,<- hc];unfold V6;rw [iF (by rw [d]; simp)]
   ·rw [iF (by simpa using q)];cases d:x.2.1 with
    | true=>
     have hc:=e2.cut hr;rw [iF (show ¬ (c<x1.length/\pk (x1.getD c default)=x.1) from q)] at hc;rw [vS];unfold V6;rw [iT d,hc]
    | false=>
     have hc:=AtK.put (key:=pk) (m:=(x.1,x.2.2)) hr e2;rw [iF (show ¬ (c<x1.length/\pk (x1.getD c default)=pk (x.1,x.2.2)) from q)] at hc;rw [iT (by rfl)];unfold Q112.f;rw [iO,iV,bS,tN];unfold V6;rw [iF (by rw [d]; simp),hc];simp
  ·rw [iW,dN];rfl
theorem Zlq {l:List Pr} {m:List Msg} (hl:l.length<=1000) (hm:m.length<=1000) (hr:RiseK pk l) {k:Nat} (hk:7000<k):Q62.f k l m=some (m.foldl V6 l):=by
 unfold Q62.f;rw [G4 (by omega),bS];have:=Zh3 hm k 0 l (by omega) (by omega) (by omega) hr;simpa using this
theorem Zci {l:List Pr} (x:TQ) (hl:l.length<=1000000):∀(k i:Nat) (x1:List Pr),i<=l.length->x1.length<=i->l.length - i<k->Q148.l0 k l x x1 (i:Int)=some (x1 ++ Wg pk x (l.drop i))
 | 0,i,x1,_,_,h=>by omega
 | k+1,i,x1,hi,hx,hk=>by
  rw [Q148.l0];by_cases h:i<l.length
  ·rw [iP,iO,Zx,wS2,Yn h];unfold Wg;rw [List.filter_cons];by_cases e:(l.getD i default).1=x
   ·rw [iF (by rw [dT e]; simp),Zci x hl k (i+1) x1 (by omega) (by omega) (by omega),iF (by rw [show pk (l.getD i default)=x from e]; simp)];rfl
   ·rw [iT (by rw [dF e]; rfl),iV,Zci x hl k (i+1) _ (by omega) (by simp; omega) (by omega),iT (by rw [dF (show ¬ pk (l.getD i default)=x from e)]; rfl)];simp [Wg]
  ·rw [iW,dN];simp [Wg]
theorem Zg9 {l:List Pr} (x:TQ) (hl:l.length<=1000000) {k:Nat} (hk:l.length<k):Q148.f k l x=some (Wg pk x l):=by
 have:=Zci x hl k 0 [] (by omega) (by simp) (by omega);simpa [Q148.f] using this
theorem Zdb {r:List Pr} {key val:TQ} (hl:r.length<=1000000) (hk300:key.length<=300) (hr300:∀ p∈r,p.1.length<=300) (hr:RiseK pk r) (hne:∀ p∈r,p.1≠key):∀(k i:Nat),i<=r.length->2001+(r.length - i)<k->(∀ j,j<i->Op.bytesLess (r.getD j default).1 key=true)->
  Q149.l0 k key val r (i:Int)=some (Y8 pk (key,val) r)
 | 0,i,_,h,_=>by omega
 | k+1,i,hi,hk,hb=>by
  rw [Q149.l0];have fin:(∀ j,i<=j->j<r.length->Op.bytesLess (r.getD j default).1 key=false)->r.take i ++ [(key,val)] ++ r.drop i=Y8 pk (key,val) r:=fun h=>by
   have hat:AtK pk r (pk (key,val)) i:=⟨hi,hb,h⟩;rw [hat.put hr,iF (fun t=>hne _ (Xj t.1) t.2)];simp
  have rest:(if (0:Int)<=(i:Int)/\(i:Int)<=(r.length:Int) then (if (([]:List Pr).length+(r.take (i:Int).toNat).length)*32<=140737488355328 then (if ((([]:List Pr) ++ (r.take (i:Int).toNat)).length+([(key,val)]:List Pr).length)*32<=140737488355328 then (if 0<=(i:Int)/\(i:Int)<=(r.length:Int) then (if (((([]:List Pr) ++ (r.take (i:Int).toNat)) ++ ([(key,val)]:List Pr)).length+(r.drop (i:Int).toNat).length)*32<=140737488355328 then (some (((([]:List Pr) ++ (r.take (i:Int).toNat)) ++ ([(key,val)]:List Pr)) ++ (r.drop (i:Int).toNat))) else none) else none) else none) else none) else none)=some (r.take i ++ [(key,val)] ++ r.drop i):=by
   rw [iO,iV,iV,iO,iV];simp
  by_cases h:i<r.length
  ·rw [iP,iO,Zx,Wv (by have:=hr300 _ (Xj (d:=default) h); omega) (by omega) (by omega),bS];cases q:Op.bytesLess (r.getD i default).1 key with
   | true=>
    rw [iT (dT (scmp_lt.2 q)),wS2];refine Zdb hl hk300 hr300 hr hne k (i+1) (by omega) (by omega) fun j hj=>?_;by_cases e:j=i
    ·subst e; exact q
    ·exact hb j (by omega)
   | false=>
    rw [iF (by simp only [dE,scmp_lt,q]; simp),rest,fin];intro j hj hjl;by_cases e:j=i
    ·subst e; exact q
    ·exact Vb q (Xu (RiseK.get pk hr (show i<j by omega) hjl default))
  ·rw [iW,rest,fin];intro j hj hjl;omega
theorem Zq2 {l:List Pr} {key val:TQ} (hr:RiseK pk l):Y8 pk (key,val) (Wg pk key l)=Y8 pk (key,val) l:=
 J1 pk (Uh pk (Zb1 pk hr)) (Uh pk hr) fun k=>by
  rw [Gp,Gp,Zd5];by_cases e:pk (key,val)=k
  ·rw [iT e,iT e]
  ·rw [iF e,iF e,iF (show ¬ key=k from e)]
theorem Zg7 {l:List Pr} {key val:TQ} (hl:l.length<=1000000) (hk300:key.length<=300) (hr300:∀ p∈l,p.1.length<=300) (hr:RiseK pk l) {k:Nat} (hk:2010+l.length<k):Q149.f k l key val=some (Y8 pk (key,val) l):=by
 have hl2:(Wg pk key l).length<=l.length:=List.length_filter_le _ _;unfold Q149.f;rw [Zg9 key (by omega) (by omega),bS];have:=Zdb (r:=Wg pk key l) (key:=key) (val:=val) (by omega) hk300 (fun p hp=>hr300 p (List.mem_filter.1 hp).1) (Zb1 pk hr) (fun p hp e=>by have:=(List.mem_filter.1 hp).2; simp [show pk p=key from e] at this) k 0 (by omega) (by omega) (fun j hj=>by omega);rw [<- Zq2 hr];exact this
theorem Zf5:∀(m:List Msg) (l:List Pr),RiseK pk l->RiseK pk (m.foldl V6 l)
 | [],l,h=>h
 | x :: m,l,h=>Zf5 m _ (Zht x h)
theorem Zdj:∀(m:List Msg) (l:List Pr),(m.foldl V6 l).length<=l.length+m.length
 | [],l=>by simp
 | x :: m,l=>by
  have h1:=Zdj m (V6 l x);have h2:=Zeb l x;simp only [List.foldl_cons,length_cons];omega
def Vm (a b:Sp):Sp:=(if Op.bytesLess a.1 b.1=true then b.1 else a.1,if a.2.2=true then (if b.2.2=true then [] else b.2.1) else if b.2.2=true then a.2.1 else if Op.bytesLess b.2.1 a.2.1=true then b.2.1 else a.2.1,a.2.2 && b.2.2)
def Jr (a b:Sp):Sp×Bool:=if emS (Vm a b)=true then (([],[],false),false) else (Vm a b,true)
theorem Zmj (a b:Sp):Q70.f a b=some (Jr a b):=by
 obtain ⟨l,h,p⟩:=a;obtain ⟨m,i,q⟩:=b;have e:(if (!Op.bytesLess l m)=true then l else m)=if Op.bytesLess l m=true then m else l:=by cases Op.bytesLess l m <;> rfl
 have f:(if (Op.bytesLess h i || decide (h=i))=true then h else i)=if Op.bytesLess i h=true then i else h:=by rw [Zgv]; cases Op.bytesLess i h <;> rfl
 cases p <;> cases q <;> simp only [Q70.f,Jr,Vm,W3,bS,e,f,Bool.not_true,Bool.not_false,Bool.false_eq_true,if_false,if_true,Bool.and_true,Bool.true_and,Bool.and_false,Bool.false_and] <;> exact (apply_ite some _ _ _).symm
theorem Zh0 (a b:Sp) (x:TQ):inS (Vm a b) x=(inS a x && inS b x):=by
 obtain ⟨l,h,p⟩:=a;obtain ⟨m,i,q⟩:=b;have e:Op.bytesLess x (if Op.bytesLess l m=true then m else l)=(Op.bytesLess x l || Op.bytesLess x m):=by
  cases c:Op.bytesLess l m with
  | true=>
   simp only [if_true];cases d:Op.bytesLess x l with
   | false=>simp
   | true=>simp [Yw d c]
  | false=>
   simp only [Bool.false_eq_true,if_false];cases d:Op.bytesLess x m with
   | false=>simp
   | true=>simp [Uw d c]
 have f:Op.bytesLess x (if Op.bytesLess i h=true then i else h)=(Op.bytesLess x h && Op.bytesLess x i):=by
  cases c:Op.bytesLess i h with
  | true=>
   simp only [if_true];cases d:Op.bytesLess x i with
   | false=>simp
   | true=>simp [Yw d c]
  | false=>
   simp only [Bool.false_eq_true,if_false];cases d:Op.bytesLess x h with
   | false=>simp
   | true=>simp [Uw d c]
 cases p <;> cases q <;> simp only [inS,Vm,e,f,Bool.and_true,Bool.true_and,Bool.and_false,Bool.false_and,Bool.false_eq_true,if_false,if_true,Bool.true_or,Bool.false_or,Bool.not_or] <;> (cases Op.bytesLess x l <;> cases Op.bytesLess x m <;> cases Op.bytesLess x h <;> cases Op.bytesLess x i <;> rfl)
structure Small (l:TJ) (x:TQ) (s:Sp):Prop where
 len:l.length<=80
 all:∀ p∈l,p.length<=300
 x:x.length<=300
 lo:s.1.length<=300
 hi:s.2.1.length<=300
theorem Small.get {l:TJ} {x:TQ} {s:Sp} (h:Small l x s) (i:Nat):(l.getD i []).length<=300:=by
 by_cases hi:i<l.length
 ·exact h.all _ (Xj hi)
 ·rw [List.getD_eq_getElem?_getD,List.getElem?_eq_none (by omega)];exact Nat.zero_le _
def Zhg (l:TJ) (x:TQ) (w:Nat):Prop:=w<=l.length/\(∀ j,j<w->Op.bytesLess x (l.getD j [])=false)/\∀ j,w<=j->j<l.length->Op.bytesLess x (l.getD j [])=true
def Wf (l:TJ) (i:Nat):Sp:=(if 0<i then l.getD (i - 1) [] else [],if i=l.length then [] else l.getD i [],decide (i=l.length))
theorem Zmq {l:TJ} (hl:l.length<=80) (s:Sp) (i:Nat) (hi:i<=l.length):Q61.f l (i:Int) s=some (Jr (Wf l i) s):=by
 unfold Q61.f;have d:∀(m:Sp×Bool),some (((m.1.1,m.1.2.1,m.1.2.2),m.2):Sp×Bool)=some m:=fun m=>rfl;have eta:(s.1,s.2.1,s.2.2)=s:=rfl;rw [iN,iN];have de:decide ((i:Int)=(l.length:Int))=decide (i=l.length):=by congr 1; exact propext (by omega)
 simp only [Zmj,bS,d,eta,de];by_cases h0:0<i
 ·have g0:(0:Int)<=((i - 1:Nat):Int)/\((i - 1:Nat):Int)<(l.length:Int):=by omega
  rw [iP,Zhw h0 (by omega),iT g0,Zx];by_cases h1:i=l.length
  ·simp only [h1,decide_true,Bool.not_true,Bool.false_eq_true,if_false,Wf,if_true,show 0<l.length by omega];rfl
  ·have g1:(0:Int)<=(i:Int)/\(i:Int)<(l.length:Int):=by omega
   simp only [h1,decide_false,Bool.not_false,if_true,g1,and_self,Zx,Wf,h0,if_false];rfl
 ·obtain rfl:i=0:=by omega
  rw [vS];by_cases h1:0=l.length
  ·simp only [<- h1,decide_true,Bool.not_true,Bool.false_eq_true,if_false,Wf,if_true,Nat.lt_irrefl]
  ·have g1:(0:Int)<=((0:Nat):Int)/\((0:Nat):Int)<(l.length:Int):=by omega
   simp only [h1,decide_false,Bool.not_false,if_true,g1,and_self,Zx,Wf,Nat.lt_irrefl,if_false];rfl
theorem Zgx {l:TJ} {x:TQ} {s:Sp} {w:Nat} (hs:Small l x s) (hw:Zhg l x w):∀(k i:Nat),i<=l.length->2001+(l.length - i)<k->Q151.l0 k l x ((min i w:Nat):Int) (i:Int)=some (w:Int)
 | 0,i,_,h=>by omega
 | k+1,i,hi,hk=>by
  have h80:=hs.len;have hx:=hs.x;obtain ⟨w1,w2,w3⟩:=hw;rw [Q151.l0];by_cases h:i<l.length
  ·have g1:(0:Int)<=(i:Int)/\(i:Int)<(l.length:Int):=by omega
   have k1:(l.getD i default).length<=300:=hs.get i;rw [iT (dT g1.2),iT g1,Zx,Wv (by omega) (by omega) (by omega),bS,G6 (i:=i) (by omega)];have ih:=Zgx hs ⟨w1,w2,w3⟩ k (i+1) (by omega) (by omega);by_cases q:i<w
   ·have e:Op.bytesLess x (l.getD i default)=false:=w2 i q;rw [iT (dT (scmp_le.2 e)),wS2,show min i w+1=min (i+1) w by omega,ih]
   ·have e:Op.bytesLess x (l.getD i default)=true:=w3 i (by omega) h;rw [iF (by simp only [dE,scmp_le]; rw [e]; simp),show min i w=min (i+1) w by omega,ih]
  ·rw [iN,show min i w=w by omega]
theorem Zjr {l:TJ} {x:TQ} {s:Sp} {w:Nat} (hs:Small l x s) (hw:Zhg l x w) {k:Nat} (hk:3000<k):Q151.f k l x=some (w:Int):=by
 have:=Zgx hs hw k 0 (by omega) (by have:=hs.len; omega);simpa [Q151.f] using this
theorem Zgs (a b:TQ) (ha:a.length<=2000) (hb:b.length<=2000) (hlt:Op.bytesLess a b=true) (K:Nat):∀(k i:Nat),i<=shd a b+1->shd a b+1 - i<k->2001+(shd a b+1 - i)<k->
  Q140.l0 k a b (i:Int)=some (b.take (shd a b+1),true)
 | 0,i,_,h,_=>by omega
 | k+1,i,hi,hk,hK=>by
  have hs:=Zi4 hlt;unfold Q140.l0;have g0:(i:Int)<=(b.length:Int):=by omega
  have g1:(0:Int)<=(i:Int)/\(i:Int)<=(b.length:Int):=by omega
  rw [iT (dT g0),iT g1,tN,Wv ha (by rw [length_take]; omega) (by omega),bS];by_cases e:i=shd a b+1
  ·subst e;rw [iT (dT (scmp_lt.2 (Gv hlt)))]
  ·have:=Zdg (a:=a) (b:=b) (n:=i) (by omega);have w:w64 ((i:Int)+1)=((i+1:Nat):Int):=by rw [wI2]; omega
   rw [iF (by simp only [dE,scmp_lt,this]; simp),w,Zgs a b ha hb hlt K k (i+1) (by omega) (by omega) (by omega)]
theorem Zjo {k:Nat} {a b:TQ} (ha:a.length<=2000) (hb:b.length<=2000) (hk:5000<k) :
  Q140.f k a b=some (if Op.bytesLess a b=true then (b.take (shd a b+1),true) else ([],false)):=by
 unfold Q140.f;rw [Wv ha hb (by omega),bS];cases h:Op.bytesLess a b with
 | false=>
  rw [iT]
  ·rfl
  ·have:=mt scmp_lt.1 (by simp [h]:¬ Op.bytesLess a b=true);simp only [dE];omega
 | true=>
  have:=scmp_lt.2 h;have hs:=Zi4 h;rw [iN];have:=Zgs a b ha hb h k k 0 (by omega) (by omega) (by omega);simpa using this
abbrev Tre:=List (List Nd)
def ndT (l:Tre) (k i:Nat):Nd:=(l.getD k default).getD i default
def wd (l:Tre) (k:Nat):Nat:=(l.getD k default).length
def Xy (p:TJ) (x:TQ):Nat:=(p.filter fun y=>!Op.bytesLess x y).length
theorem V4 (x:TQ):∀ {p:TJ},RiseK (fun y=>y) p->Zhg p x (Xy p x)
 | [],_=>⟨Nat.le_refl _,fun j hj=>absurd hj (Nat.not_lt_zero _),fun j _ hj=>absurd hj (Nat.not_lt_zero _)⟩
 | a :: p,h=>by
  obtain ⟨h1,h2⟩:=List.pairwise_cons.1 h;obtain ⟨a1,a2,a3⟩:=V4 x h2;unfold Xy at *;rw [List.filter_cons];cases q:Op.bytesLess x a with
  | true=>
   have e:p.filter (fun y=>!Op.bytesLess x y)=[]:=List.filter_eq_nil_iff.2 fun y hy=>by rw [Yw q (h1 y hy)]; simp
   rw [vS,e];exact ⟨Nat.zero_le _,fun j hj=>absurd hj (Nat.not_lt_zero _),fun j _ hj=>match j,hj with
    | 0,_=>q
    | j+1,hj=>Yw q (h1 _ (Xj (d:=[]) (by simpa using hj)))⟩
  | false=>
   rw [iU];exact ⟨by simp only [length_cons]; omega,fun j hj=>match j,hj with
    | 0,_=>q
    | j+1,hj=>a2 j (by simpa using hj),fun j hj hl=>match j,hj,hl with
    | 0,hj,_=>by simp at hj
    | j+1,hj,hl=>a3 j (by simpa using hj) (by simpa using hl)⟩
def stR (row:List Nd) (i:Nat):Nat:=((row.map fun n=>n.2.1.length).take i).sum
theorem Zi3 (row:List Nd):stR row 0=0:=rfl
theorem Vx {row:List Nd} {i:Nat} (h:i<row.length):stR row (i+1)=stR row i+(row.getD i default).2.1.length:=by
 unfold stR;rw [List.take_add_one,List.sum_append,List.getElem?_map,List.getElem?_eq_getElem h,Y0 h];simp
theorem Gi {row:List Nd} (p:List Nd) {i:Nat} (h:i<=row.length):stR (row ++ p) i=stR row i:=by
 unfold stR;rw [List.map_append,List.take_append_of_le_length (by simpa using h)]
theorem Zaf {row:List Nd} {i:Nat}:∀ {j:Nat},i<=j->j<=row.length->stR row i<=stR row j
 | 0,h,_=>by rw [show i=0 by omega]; exact Nat.le_refl _
 | j+1,h,hj=>by
  by_cases e:i=j+1
  ·rw [e]; exact Nat.le_refl _
  ·have:=Zaf (row:=row) (i:=i) (j:=j) (by omega) (by omega);have:=Vx (row:=row) (i:=j) (by omega);omega
structure NdOk (lo hi:Nat->List UInt8) (k:Nat) (n:Nd) (m:Nat):Prop where
 lvl:n.1=(k:Int)
 prs:n.2.2.2.2=[]
 pvl:n.2.2.1.length+1=n.2.1.length
 fan:n.2.1.length<=64
 kid:n.2.1=(List.range n.2.1.length).map fun(j:Nat)=>((m+j+1:Nat):Int)
 pv:∀ j,j<n.2.2.1.length->Op.bytesLess (hi (m+j)) (n.2.2.1.getD j [])=true/\Op.bytesLess (lo (m+j+1)) (n.2.2.1.getD j [])=false/\(n.2.2.1.getD j []).length<=200
def InnR (lo hi:Nat->List UInt8) (k:Nat) (row:List Nd):Prop:=∀ i,i<row.length->NdOk lo hi k (row.getD i default) (stR row i)
theorem Yk {α:Type} {a b:List α} {i:Nat} {d:α} (h:i<a.length:=by omega):(a ++ b).getD i d=a.getD i d:=by
 rw [List.getD_eq_getElem?_getD,List.getElem?_append_left h,<- List.getD_eq_getElem?_getD]
theorem Yp {α:Type} {a:List α} {x:α} {i:Nat} {d:α} (h:i=a.length:=by omega):(a ++ [x]).getD i d=x:=by
 subst h;rw [List.getD_eq_getElem?_getD,List.getElem?_append_right (Nat.le_refl _),Nat.sub_self]; rfl
theorem InnR.app {lo hi:Nat->List UInt8} {k:Nat} {row:List Nd} {p:Nd} (h:InnR lo hi k row) (hp:NdOk lo hi k p (stR row row.length)):InnR lo hi k (row ++ [p]):=fun i hi'=>by
 rw [lA] at hi';by_cases e:i<row.length
 ·rw [Yk e,Gi _ (by omega)]; exact h i e
 ·have e2:i=row.length:=by simp at hi'; omega
  rw [Yp e2,Gi _ (by omega),e2]; exact hp
structure Gro (l:Tre) (LO HI:Nat->Nat->List UInt8):Prop where
 ne:0<l.length
 leaf:∀ i,i<wd l 0->(ndT l 0 i).1=0/\(ndT l 0 i).2.1=[]/\(ndT l 0 i).2.2.1=[]/\(ndT l 0 i).2.2.2.1=[]/\∀ p∈(ndT l 0 i).2.2.2.2,Op.bytesLess p.1 (LO 0 i)=false/\Op.bytesLess (HI 0 i) p.1=false
 row:∀ k,k+1<l.length->InnR (LO k) (HI k) (k+1) (l.getD (k+1) default)/\stR (l.getD (k+1) default) (wd l (k+1))=wd l k/\∀ i,i<wd l (k+1)->LO (k+1) i=LO k (stR (l.getD (k+1) default) i)/\HI (k+1) i=HI k (stR (l.getD (k+1) default) (i+1) - 1)
 lh:∀ k i,k<l.length->i<wd l k->Op.bytesLess (HI k i) (LO k i)=false
 hl:∀ k i,k<l.length->i+1<wd l k->Op.bytesLess (HI k i) (LO k (i+1))=true
def kidI (n:Nd) (x:TQ):Nat:=(n.2.1.getD (Xy n.2.2.1 x) default).toNat - 1
def dn (l:Tre) (x:TQ):Nat->Nat
 | 0=>0
 | j+1=>kidI (ndT l (l.length - 1 - j) (dn l x j)) x
section
variable {l:Tre} {LO HI:Nat->Nat->List UInt8}
theorem Gro.nd (G:Gro l LO HI) {k i:Nat} (hk:k+1<l.length) (hi:i<wd l (k+1)):NdOk (LO k) (HI k) (k+1) (ndT l (k+1) i) (stR (l.getD (k+1) default) i):=(G.row k hk).1 i hi
theorem Gro.hlt (G:Gro l LO HI) {k:Nat} (hk:k<l.length) {i:Nat}:∀ {j:Nat},i<j->j<wd l k->Op.bytesLess (HI k i) (LO k j)=true
 | 0,h,_=>by omega
 | j+1,h,hj=>by
  by_cases e:i=j
  ·subst e; exact G.hl k i hk hj
  ·exact Yw (Uw (G.hlt hk (i:=i) (j:=j) (by omega) (by omega)) (G.lh k j hk (by omega))) (G.hl k j hk hj)
theorem Gro.hi_le (G:Gro l LO HI) {k:Nat} (hk:k<l.length) {i j:Nat} (h:i<=j) (hj:j<wd l k):Op.bytesLess (HI k j) (HI k i)=false:=by
 by_cases e:i=j
 ·subst e; exact W0 _
 ·exact Xu (Uw (G.hlt hk (show i<j by omega) hj) (G.lh k j hk hj))
theorem Gro.rise (G:Gro l LO HI) {k i:Nat} (hk:k+1<l.length) (hi:i<wd l (k+1)):RiseK (fun y=>y) (ndT l (k+1) i).2.2.1:=by
 have n:=G.nd hk hi;have hs:=Vx (row:=l.getD (k+1) default) hi;have hm:=Zaf (row:=l.getD (k+1) default) (i:=i+1) (j:=wd l (k+1)) hi (Nat.le_refl _);rw [(G.row k hk).2.1,hs] at hm;have hm':stR (l.getD (k+1) default) i+(ndT l (k+1) i).2.1.length<=wd l k:=hm;have pl:=n.pvl;refine List.pairwise_iff_getElem.2 fun a b ha hb hab=>?_;have h1:=(n.pv a ha).2.1;have h2:=(n.pv b hb).1;rw [Y0 ha] at h1;rw [Y0 hb] at h2;show Op.bytesLess _ _=true;have h3:Op.bytesLess (HI k (stR (l.getD (k+1) default) i+b)) (LO k (stR (l.getD (k+1) default) i+a+1))=false:=by
  by_cases e:b=a+1
  ·rw [e]; exact G.lh k _ (by omega) (by omega)
  ·exact Xu (Zjk (G.lh k _ (by omega) (by omega)) (G.hlt (k:=k) (by omega) (show stR (l.getD (k+1) default) i+a+1<stR (l.getD (k+1) default) i+b by omega) (by omega)) |> fun q=>Uw q (G.lh k _ (by omega) (by omega)))
 exact Zjk (Vb h1 h3) h2
theorem Gro.kidI (G:Gro l LO HI) {k i:Nat} (hk:k+1<l.length) (hi:i<wd l (k+1)) (x:TQ):Xy (ndT l (k+1) i).2.2.1 x<(ndT l (k+1) i).2.1.length/\kidI (ndT l (k+1) i) x=stR (l.getD (k+1) default) i+Xy (ndT l (k+1) i).2.2.1 x/\(ndT l (k+1) i).2.1.getD (Xy (ndT l (k+1) i).2.2.1 x) default=((kidI (ndT l (k+1) i) x+1:Nat):Int)/\kidI (ndT l (k+1) i) x<wd l k:=by
 have n:=G.nd hk hi;have hs:=Vx (row:=l.getD (k+1) default) hi;have hm:=Zaf (row:=l.getD (k+1) default) (i:=i+1) (j:=wd l (k+1)) hi (Nat.le_refl _);rw [(G.row k hk).2.1,hs] at hm;have hm':stR (l.getD (k+1) default) i+(ndT l (k+1) i).2.1.length<=wd l k:=hm;have w1:=(V4 x (G.rise hk hi)).1;have pl:=n.pvl;have hw:Xy (ndT l (k+1) i).2.2.1 x<(ndT l (k+1) i).2.1.length:=by omega
 have e:(ndT l (k+1) i).2.1.getD (Xy (ndT l (k+1) i).2.2.1 x) default=((stR (l.getD (k+1) default) i+Xy (ndT l (k+1) i).2.2.1 x+1:Nat):Int):=by
  rw [n.kid,List.getD_eq_getElem?_getD,List.getElem?_map,List.getElem?_range hw]; rfl
 have e2:Go.SK.T.kidI (ndT l (k+1) i) x=stR (l.getD (k+1) default) i+Xy (ndT l (k+1) i).2.2.1 x:=by
  unfold Go.SK.T.kidI;rw [e]; omega
 exact ⟨hw,e2,by rw [e,e2],by omega⟩
theorem Gro.dn_lt (G:Gro l LO HI) (top:wd l (l.length - 1)=1) (x:TQ):∀ j,j<l.length->dn l x j<wd l (l.length - 1 - j)
 | 0,_=>by rw [Nat.sub_zero,top]; exact Nat.one_pos
 | j+1,h=>by
  have ih:=G.dn_lt top x j (by omega);have e:l.length - 1 - j=(l.length - 1 - (j+1))+1:=by omega
  rw [dn];rw [e] at ih ⊢;exact (G.kidI (by omega) ih x).2.2.2
end
def Ziz (m:Msg):Option Pr:=if m.2.1=true then none else some (m.1,m.2.2)
theorem Zph (l:List Pr) (a:Msg) (x:TQ):Yi pk (V6 l a) x=if a.1=x then Ziz a else Yi pk l x:=by
 unfold V6 Ziz;cases a.2.1 with
 | true=>rw [iT rfl,Zd5]; rfl
 | false=>rw [vS,Gp]; rfl
theorem Zi5 (x:TQ):∀(m:List Msg) (l:List Pr),RiseK mk m->Yi pk (m.foldl V6 l) x=match Yi mk m x with | some a=>Ziz a | none=>Yi pk l x
 | [],l,_=>rfl
 | a :: m,l,h=>by
  rw [List.foldl_cons,Zi5 x m _ (List.pairwise_cons.1 h).2,Z7,Zph];by_cases e:a.1=x
  ·have:=Bv mk h;rw [show mk a=x from e] at this;rw [this,iT e,iT (show mk a=x from e)]
  ·rw [iF e,iF (show ¬ mk a=x from e)]
def Zpm (c:Cfg) (N:Nat) (l:Tre):Prop:=∀ k i,0<k->k<l.length->i<wd l k->RiseK mk (ndT l k i).2.2.2.1/\(ndT l k i).2.2.2.1.length<=N/\∀ m∈(ndT l k i).2.2.2.1,Xi c m.1=true/\dn l m.1 (l.length - 1 - k)=i
abbrev Zt3 (c:Cfg) (l:Tre):Prop:=Zpm c 100 l
def Vt (row:List Nd):List Pr:=row.flatMap fun n=>n.2.2.2.2
def Lvs (c:Cfg) (l:Tre):Prop:=RiseK pk (Vt (l.getD 0 default))/\(Vt (l.getD 0 default)).length<=150/\∀ p∈Vt (l.getD 0 default),Xi c p.1=true
def G5 (l:Tre) (x:TQ):Nat->Option Pr
 | 0=>Yi pk (ndT l 0 (dn l x (l.length - 1))).2.2.2.2 x
 | k+1=>match Yi mk (ndT l (k+1) (dn l x (l.length - 1 - (k+1)))).2.2.2.1 x with | some a=>Ziz a | none=>G5 l x k
section
variable {l:Tre} {LO HI:Nat->Nat->List UInt8} {c:Cfg}
end
abbrev Spc:=List Pr×List Msg×List Int×List Int
def LvP (c:Cfg) (l:List Pr):Prop:=RiseK pk l/\l.length<=150/\∀ p∈l,Xi c p.1=true
theorem Zdy {c:Cfg} (hc:OkC c) {x:TQ} (h:Xi c x=true):x.length<=64:=by
 have:=hc.key;simp only [Xi,dE] at h;omega
theorem Zsq {x:Spc} (hx:∀ y∈x.2.2.2,0<=y/\y<256) (i:Nat) {m:Nat} (h1:1<=m) (h2:m<=2000):∃ r:Nat,Q133.f x (i:Int) (m:Int)=some (r:Int)/\1<=r/\r<=m:=by
 unfold Q133.f;by_cases q:x.2.2.2.length=0
 ·exact ⟨m,by rw [iP],h1,Nat.le_refl _⟩
 ·have hm:i % x.2.2.2.length<x.2.2.2.length:=Nat.mod_lt _ (by omega);obtain ⟨y1,y2⟩:=hx _ (Xj (d:=default) hm);obtain ⟨y,ey⟩:=Int.eq_ofNat_of_zero_le y1;have:=Nat.mod_lt y (show 0<m by omega);rw [iN,iO,show Int.tmod (i:Int) (x.2.2.2.length:Int)=((i % x.2.2.2.length:Nat):Int) from rfl,iO,iO,Zx,ey,wI2 (x:=(y:Int)),show Int.tmod (y:Int) (m:Int)=((y % m:Nat):Int) from rfl,wI2];exact ⟨1+y % m,by congr 1,by omega,by omega⟩
theorem Zqf {c:Cfg} (hc:OkC c) {x:Spc}:∀(m i:Nat) (acc:List Pr),i+m=150->RiseK pk acc->acc.length<=i->(∀ p∈acc,Xi c p.1=true)->∃ ks,Ev (fun k=>Q134.l0 k c x acc (i:Int)) ks/\LvP c ks:=by
 have stop:∀(i:Nat) (acc:List Pr),¬ (i<x.1.length/\i<150)->Ev (fun k=>Q134.l0 k c x acc (i:Int)) acc:=fun i acc h=>by
  refine ⟨2,fun k hk=>?_⟩;obtain ⟨k,rfl⟩:=kS2 k;show Q134.l0 (k+2) c x acc (i:Int)=_;rw [Q134.l0];by_cases q:i<x.1.length
  ·rw [iP,dF,Q134.l1,vS]
  ·rw [iN,Q134.l1,vS]
 intro m
 induction m with
 | zero=>intro i acc hi hr hl hk; exact ⟨acc,stop i acc (by omega),hr,by omega,hk⟩
 | succ m ih=>
  intro i acc hi hr hl hk;by_cases q:i<x.1.length
  ·obtain ⟨p,ep⟩:∃ p,p=x.1.getD i default:=⟨_,rfl⟩;have step:∀ k,9000<k->Q134.l0 (k+3) c x acc (i:Int)=if (Xi c p.1 && decide ((p.2.length:Int)<=c.2.2.2.2.2.2.2))=true then Q134.l0 k c x (Y8 pk p acc) ((i+1:Nat):Int) else Q134.l0 k c x acc ((i+1:Nat):Int):=fun k hk9=>by
    rw [Q134.l0,iP,dT (show (i:Int)<150 by omega),Q134.l1,iT rfl,iO,Zx,<- ep,Zeo,bS];have l2:∀ b:Bool,(b=true->Xi c p.1=true)->Q134.l2 (k+1) c x acc (i:Int) b=if b=true then Q134.l0 k c x (Y8 pk p acc) ((i+1:Nat):Int) else Q134.l0 k c x acc ((i+1:Nat):Int):=fun b hb=>by
     rw [Q134.l2,wS2,Zx,<- ep];cases b with
     | false=>rfl
     | true=>
      have:=Zdy hc (hb rfl);rw [iT rfl,iT rfl,iO,Zg7 (by omega) (by omega) (fun y hy=>by have:=Zdy hc (hk y hy); omega) hr (by omega),bS]
    cases e:Xi c p.1 with
    | true=>rw [iT rfl,l2 _ (fun _=>e),Bool.true_and]
    | false=>rw [vS,l2 _ (fun h=>by cases h),Bool.false_and]
   cases e:(Xi c p.1 && decide ((p.2.length:Int)<=c.2.2.2.2.2.2.2)) with
   | true=>
    have ek:Xi c p.1=true:=by rw [Bool.and_eq_true] at e; exact e.1
    obtain ⟨ks,⟨b,hb⟩,g⟩:=ih (i+1) (Y8 pk p acc) (by omega) (Uh pk hr) (by have:=Un pk p acc; omega) (fun y hy=>by rcases Gw pk hy with rfl | hy; exact ek; exact hk y hy);refine ⟨ks,⟨b+9005,fun k kk=>?_⟩,g⟩;obtain ⟨k,rfl⟩:=kS3 k;show Q134.l0 (k+3) c x acc (i:Int)=_;rw [step k (by omega),e,iT rfl];exact hb k (by omega)
   | false=>
    obtain ⟨ks,⟨b,hb⟩,g⟩:=ih (i+1) acc (by omega) hr (by omega) hk;refine ⟨ks,⟨b+9005,fun k kk=>?_⟩,g⟩;obtain ⟨k,rfl⟩:=kS3 k;show Q134.l0 (k+3) c x acc (i:Int)=_;rw [step k (by omega),e,vS];exact hb k (by omega)
  ·exact ⟨acc,stop i acc (by omega),hr,by omega,hk⟩
theorem Zsx {c:Cfg} (hc:OkC c) (x:Spc):∃ ks,Ev (fun k=>Q134.f k c x) ks/\LvP c ks:=Zqf hc 150 0 [] (by omega) List.Pairwise.nil (Nat.le_refl _) (by simp)
theorem Zq9 {c:Cfg} {x:Spc}:∀(m i:Nat) (acc:List Msg),i+m=100->acc.length<=i->(∀ p∈acc,Xi c p.1=true)->∃ ks:List Msg,Ev (fun k=>Q135.l0 k c x acc (i:Int)) ks/\ks.length<=100/\∀ p∈ks,Xi c p.1=true:=by
 have stop:∀(i:Nat) (acc:List Msg),¬ (i<x.2.1.length/\i<100)->Ev (fun k=>Q135.l0 k c x acc (i:Int)) acc:=fun i acc h=>by
  refine ⟨2,fun k hk=>?_⟩;obtain ⟨k,rfl⟩:=kS2 k;show Q135.l0 (k+2) c x acc (i:Int)=_;rw [Q135.l0];by_cases q:i<x.2.1.length
  ·rw [iP,dF,Q135.l1,vS]
  ·rw [iN,Q135.l1,vS]
 intro m
 induction m with
 | zero=>intro i acc hi hl hk; exact ⟨acc,stop i acc (by omega),by omega,hk⟩
 | succ m ih=>
  intro i acc hi hl hk;by_cases q:i<x.2.1.length
  ·obtain ⟨p,ep⟩:∃ p,p=x.2.1.getD i default:=⟨_,rfl⟩;have step:∃ b:Bool,(b=true->Xi c p.1=true)/\∀ k,Q135.l0 (k+3) c x acc (i:Int)=if b=true then Q135.l0 k c x (acc ++ [p]) ((i+1:Nat):Int) else Q135.l0 k c x acc ((i+1:Nat):Int):=by
    have l2:∀(b:Bool) (k:Nat),Q135.l2 (k+1) c x acc (i:Int) b=if b=true then Q135.l0 k c x (acc ++ [p]) ((i+1:Nat):Int) else Q135.l0 k c x acc ((i+1:Nat):Int):=fun b k=>by
     rw [Q135.l2,wS2,Zx,<- ep];cases b with
     | false=>rfl
     | true=>rw [iT rfl,iT rfl,iV]
    have l1:∀ k,Q135.l0 (k+3) c x acc (i:Int)=if Xi c p.1=true then (if decide ((p.2.2.length:Int)<=c.2.2.2.2.2.2.2)=true then (if (!p.2.1)=true then Q135.l2 (k+1) c x acc (i:Int) true else Q135.l2 (k+1) c x acc (i:Int) (decide (p.2.2=[]))) else Q135.l2 (k+1) c x acc (i:Int) false) else Q135.l2 (k+1) c x acc (i:Int) false:=fun k=>by
     rw [Q135.l0,iP,dT (show (i:Int)<100 by omega),Q135.l1,iT rfl,iO,Zx,<- ep,Zeo,bS]
    cases e:Xi c p.1 with
    | false=>exact ⟨false,nofun,fun k=>by rw [l1,e,vS,l2]⟩
    | true=>
     by_cases e2:(p.2.2.length:Int)<=c.2.2.2.2.2.2.2
     ·cases e3:p.2.1 with
      | false=>exact ⟨true,fun _=>rfl,fun k=>by rw [l1,e,e3,iT rfl,iT (dT e2),iT (by rfl),l2]⟩
      | true=>exact ⟨decide (p.2.2=[]),fun _=>rfl,fun k=>by rw [l1,e,e3,iT rfl,iT (dT e2),vS,l2]⟩
     ·exact ⟨false,nofun,fun k=>by rw [l1,e,iT rfl,iF (by simpa using e2),l2]⟩
   obtain ⟨b,hb1,hb2⟩:=step;cases b with
   | true=>
    obtain ⟨ks,⟨b,hb⟩,g⟩:=ih (i+1) (acc ++ [p]) (by omega) (by simp; omega) (fun y hy=>by rcases List.mem_append.1 hy with hy | hy; exact hk y hy; rw [List.mem_singleton.1 hy]; exact hb1 rfl);refine ⟨ks,⟨b+3,fun k kk=>?_⟩,g⟩;obtain ⟨k,rfl⟩:=kS3 k;show Q135.l0 (k+3) c x acc (i:Int)=_;rw [hb2,iT rfl];exact hb k (by omega)
   | false=>
    obtain ⟨ks,⟨b,hb⟩,g⟩:=ih (i+1) acc (by omega) (by omega) hk;refine ⟨ks,⟨b+3,fun k kk=>?_⟩,g⟩;obtain ⟨k,rfl⟩:=kS3 k;show Q135.l0 (k+3) c x acc (i:Int)=_;rw [hb2,vS];exact hb k (by omega)
  ·exact ⟨acc,stop i acc (by omega),by omega,hk⟩
theorem Zs9 (c:Cfg) (x:Spc):∃ ks:List Msg,Ev (fun k=>Q135.f k c x) ks/\ks.length<=100/\∀ p∈ks,Xi c p.1=true:=Zq9 100 0 [] (by omega) (Nat.le_refl _) (by simp)
theorem Zrk {out:Tre} {LO HI:Nat->Nat->List UInt8} (G:Gro out LO HI) {up:List Nd} {a b:TJ} (inn:InnR (LO (out.length - 1)) (HI (out.length - 1)) out.length up) (st:stR up up.length=wd out (out.length - 1)) (ab:∀ j,j<up.length->a.getD j []=LO (out.length - 1) (stR up j)/\b.getD j []=HI (out.length - 1) (stR up (j+1) - 1)):Gro (out ++ [up]) (upd LO out.length fun i=>a.getD i []) (upd HI out.length fun i=>b.getD i []):=by
 have hne:=G.ne;have eg:∀ k,k<out.length->(out ++ [up]).getD k default=out.getD k default:=fun k h=>Yk h;have en:(out ++ [up]).getD out.length default=up:=Yp rfl;have wg:∀ k,k<out.length->wd (out ++ [up]) k=wd out k:=fun k h=>by unfold wd; rw [eg k h]
 have wn:wd (out ++ [up]) out.length=up.length:=by unfold wd; rw [en]
 have ll:(out ++ [up]).length=out.length+1:=by simp
 have kd:∀ i,i<up.length->stR up i+1<=stR up (i+1)/\stR up (i+1)<=wd out (out.length - 1):=fun i hi=>by
  have h1:=Vx hi;have h2:=(inn i hi).pvl;have h3:=Zaf (row:=up) (i:=i+1) (j:=up.length) hi (Nat.le_refl _);omega
 refine ⟨by omega,fun i hi=>?_,fun k hk=>?_,fun k i hk hi=>?_,fun k i hk hi=>?_⟩
 ·rw [wg 0 hne] at hi;unfold ndT;rw [eg 0 hne,Yg,Yg];exact G.leaf i hi
 ·rw [ll] at hk;by_cases e:k+1<out.length
  ·rw [eg _ e,wg _ e,wg k (by omega),Yg (g:=LO) (show k≠out.length by omega),Yg (g:=HI) (show k≠out.length by omega),Yg (g:=LO) (show k+1≠out.length by omega),Yg (g:=HI) (show k+1≠out.length by omega)];exact G.row k e
  ·have e2:k+1=out.length:=by omega
   have e3:k=out.length - 1:=by omega
   rw [wg k (by omega),Yg (g:=LO) (show k≠out.length by omega),Yg (g:=HI) (show k≠out.length by omega),e2,en,wn,Z8,Z8,e3];exact ⟨inn,st,ab⟩
 ·rw [ll] at hk;by_cases e:k<out.length
  ·rw [wg k e] at hi;rw [Yg,Yg];exact G.lh k i e hi
  ·have e2:k=out.length:=by omega
   subst e2;rw [wn] at hi;obtain ⟨h1,h2⟩:=kd i hi;rw [Z8,Z8,(ab i hi).1,(ab i hi).2];exact Vb (G.lh (out.length - 1) _ (by omega) (by omega)) (G.hi_le (by omega) (show stR up i<=stR up (i+1) - 1 by omega) (by omega))
 ·rw [ll] at hk;by_cases e:k<out.length
  ·rw [wg k e] at hi;rw [Yg,Yg];exact G.hl k i e hi
  ·have e2:k=out.length:=by omega
   subst e2;rw [wn] at hi;obtain ⟨h1,h2⟩:=kd i (by omega);obtain ⟨h3,h4⟩:=kd (i+1) hi;rw [Z8,Z8,(ab (i+1) hi).1,(ab i (by omega)).2];have:=G.hl (out.length - 1) (stR up (i+1) - 1) (by omega) (by omega)
   rwa [show stR up (i+1) - 1+1=stR up (i+1) by omega] at this
def Zpk (N:Nat) (r:Tre):Prop:=∃ ks:List TQ,ks.length<=N/\∀ k i,0<k->k<r.length->i<wd r k->∀ m∈(ndT r k i).2.2.2.1,m.1∈ks
structure GoodT (c:Cfg) (r:Tre):Prop where
 gro:∃ LO HI,Gro r LO HI
 top:wd r (r.length - 1)=1
 len:r.length<=6
 lvs:Lvs c r
 buf:Zt3 c r
 wb:∀ k,k<r.length->wd r k<=151
 ks:Zpk 100 r
structure UpSt (c:Cfg) (out:Tre) (lo hi:TJ):Prop where
 gro:∃ LO HI,Gro out LO HI/\LO (out.length - 1)=(fun i=>lo.getD i [])/\HI (out.length - 1)=fun i=>hi.getD i []
 len:out.length<=6
 ll:lo.length=wd out (out.length - 1)
 hl:hi.length=wd out (out.length - 1)
 sh:∀ i,(lo.getD i []).length<=200/\(hi.getD i []).length<=200
 w1:1<=wd out (out.length - 1)
 wb:∀ k,k<out.length->wd out k<=151
 lvs:Lvs c out
 buf:∀ k i,k<out.length->i<wd out k->(ndT out k i).2.2.2.1=[]
structure UpRow (lo hi:TJ) (K N:Nat) (up:List Nd) (a b:TJ) (i:Nat):Prop where
 inn:InnR (fun i=>lo.getD i []) (fun i=>hi.getD i []) K up
 st:stR up up.length=i
 al:a.length=up.length
 bl:b.length=up.length
 ab:∀ j,j<up.length->a.getD j []=lo.getD (stR up j) []/\b.getD j []=hi.getD (stR up (j+1) - 1) []
 le:up.length<=i
 bf:∀ j,j<up.length->(up.getD j default).2.2.2.1=[]
section
variable {c:Cfg} {x:Spc} {lo hi:TJ} {out:Tre}
theorem Zsk (hc:OkC c) (hx:∀ y∈x.2.2.2,0<=y/\y<256) (U:UpSt c out lo hi) {up:List Nd} {a b:TJ} {i t nn:Nat} {r:Int} (R:UpRow lo hi out.length (wd out (out.length - 1)) up a b i)
  (hn:mnI (mxI r 2) (w64 (((out.getD (out.length - 1) default).length:Int) - (i:Int)))=(nn:Int)) (n1:1<=nn) (n2:nn<=64) (n3:i+nn<=wd out (out.length - 1)) (ht:t<=5000)
  {u:Nat} (hu:up.length=u) (H:∀(up:List Nd) (a b:TJ),UpRow lo hi out.length (wd out (out.length - 1)) up a b (i+nn)->up.length=u+1->∃ q,Ev (fun k=>Q131.l6 k c x (out.getD (out.length - 1) default) lo hi out ((t+1:Nat):Int) up a b ((i+nn:Nat):Int)) q/\GoodT c q) :
  ∀(m j:Nat) (kd:TU) (pv:TJ),j+m=nn->kd=((List.range j).map fun(q:Nat)=>((i+q+1:Nat):Int))->pv.length=j - 1->(∀ q,q<pv.length->Op.bytesLess (hi.getD (i+q) []) (pv.getD q [])=true/\Op.bytesLess (lo.getD (i+q+1) []) (pv.getD q [])=false/\(pv.getD q []).length<=200)->
  ∃ q,Ev (fun k=>Q131.l8 k c x r (out.getD (out.length - 1) default) lo hi out (t:Int) up a b (i:Int) kd pv (j:Int)) q/\GoodT c q:=by
 obtain ⟨LO,HI,G,eL,eH⟩:=U.gro;have hne:=G.ne;have wB:=U.wb (out.length - 1) (by omega);have hol:=U.len;have h1:=U.ll;have h2:=U.hl;intro m
 induction m with
 | zero=>
  intro j kd pv hj hkd hpl hpv;have ej:j=nn:=by omega
  subst ej;obtain ⟨q,⟨b0,hb⟩,g⟩:=H (up ++ [((out.length:Int),kd,pv,[],[])]) (a ++ [lo.getD i []]) (b ++ [hi.getD (i+j - 1) []]) ⟨R.inn.app ⟨rfl,rfl,by rw [hkd]; simp; omega,by rw [hkd]; simp; omega,by rw [R.st]; rw [hkd]; simp,fun q hq=>by rw [R.st]; exact hpv q hq⟩,by
    rw [lA,show up.length+[((out.length:Int),kd,pv,([]:List Msg),([]:List Pr))].length=up.length+1 from rfl,Vx (by simp),Gi _ (Nat.le_refl _),R.st,Yp rfl,hkd]; simp,by simp [R.al],by simp [R.bl],fun q hq=>by
    rw [lA] at hq;by_cases e:q<up.length
    ·rw [Yk (by rw [R.al]; exact e),Yk (by rw [R.bl]; exact e),Gi _ (by omega),Gi _ (by omega)];exact R.ab q e
    ·have e2:q=up.length:=by simp at hq; omega
     rw [Yp (by rw [R.al,e2]),Yp (by rw [R.bl,e2]),Vx (by simp; omega),Gi _ (by omega),e2,R.st,Yp rfl,hkd];simp,by have:=R.le; simp; omega,fun q hq=>by
    rw [lA] at hq;by_cases e:q<up.length
    ·rw [Yk e]; exact R.bf q e
    ·rw [Yp (by simp at hq; omega)]⟩ (by simp; omega)
  refine ⟨q,⟨b0+2,fun k hk=>?_⟩,g⟩;obtain ⟨k,rfl⟩:=kS2 k;have hb':=hb k (by omega);have hle:=R.le;have hal:=R.al;have hbl:=R.bl;show Q131.l8 (k+2) c x r _ lo hi out (t:Int) up a b (i:Int) kd pv (j:Int)=_;rw [Q131.l8,hn,vS,Q131.l7,hn,wI2 (x:=(i:Int)+(j:Int)),wI2 (x:=(i:Int)+(j:Int) - 1),iV,iO,iO,iV,iV,Zx,wS2,show (i:Int)+(j:Int) - 1=((i+j - 1:Nat):Int) by omega,Zx,show (i:Int)+(j:Int)=((i+j:Nat):Int) by omega];exact hb'
 | succ m ih=>
  intro j kd pv hj hkd hpl hpv;have kl:kd.length=j:=by rw [hkd]; simp
  have ek:kd ++ [((i+j+1:Nat):Int)]=(List.range (j+1)).map fun(q:Nat)=>((i+q+1:Nat):Int):=by rw [hkd,List.range_succ,List.map_append]; rfl
  have head:∀ k,Q131.l8 (k+1) c x r (out.getD (out.length - 1) default) lo hi out (t:Int) up a b (i:Int) kd pv (j:Int)=if 0<j then ((Q140.f k (hi.getD (i+j - 1) []) (lo.getD (i+j) [])).bind fun r6=>(if (pv.length+([r6.1]:List TQ).length)*16<=140737488355328 then Q131.l8 k c x r (out.getD (out.length - 1) default) lo hi out (t:Int) up a b (i:Int) (kd ++ [((i+j+1:Nat):Int)]) (pv ++ [r6.1]) ((j+1:Nat):Int) else none)) else Q131.l8 k c x r (out.getD (out.length - 1) default) lo hi out (t:Int) up a b (i:Int) (kd ++ [((i+j+1:Nat):Int)]) pv ((j+1:Nat):Int):=fun k=>by
   rw [Q131.l8,hn,iP,wI2 (x:=(i:Int)+(j:Int)),wI2 (x:=(i:Int)+(j:Int)+1),show (i:Int)+(j:Int)+1=((i+j+1:Nat):Int) by omega,Zlw (by omega),iV];by_cases q:0<j
   ·rw [iP,wI2 (x:=(i:Int)+(j:Int) - 1),iO,iO,show (i:Int)+(j:Int) - 1=((i+j - 1:Nat):Int) by omega,Zx,show (i:Int)+(j:Int)=((i+j:Nat):Int) by omega,Zx,wS2,iT q];rfl
   ·rw [iN,wS2,iF q]
  by_cases q:0<j
  ·have hlt:Op.bytesLess (hi.getD (i+j - 1) []) (lo.getD (i+j) [])=true:=by
    have:=G.hl (out.length - 1) (i+j - 1) (by omega) (by omega);rw [eL,eH] at this
    rwa [show i+j - 1+1=i+j by omega] at this
   obtain ⟨s1,_⟩:=U.sh (i+j);obtain ⟨_,s2⟩:=U.sh (i+j - 1);obtain ⟨z,⟨b0,hb⟩,g⟩:=ih (j+1) (kd ++ [((i+j+1:Nat):Int)]) (pv ++ [(lo.getD (i+j) []).take (shd (hi.getD (i+j - 1) []) (lo.getD (i+j) [])+1)]) (by omega) ek (by simp; omega) (fun w hw=>by
    rw [lA] at hw;by_cases e:w<pv.length
    ·rw [Yk e]; exact hpv w e
    ·have e2:w=pv.length:=by simp at hw; omega
     rw [Yp e2,show i+w=i+j - 1 by omega,show i+j - 1+1=i+j by omega];exact ⟨Gv hlt,Zes _ _,by rw [length_take]; omega⟩)
   refine ⟨z,⟨b0+6000,fun k hk=>?_⟩,g⟩;obtain ⟨k,rfl⟩:=kS1 k;show Q131.l8 (k+1) c x r _ lo hi out (t:Int) up a b (i:Int) kd pv (j:Int)=_;rw [head,iT q,Zjo (by omega) (by omega) (by omega),iT hlt,bS,iV];exact hb k (by omega)
  ·obtain ⟨z,⟨b0,hb⟩,g⟩:=ih (j+1) (kd ++ [((i+j+1:Nat):Int)]) pv (by omega) ek (by omega) hpv;refine ⟨z,⟨b0+1,fun k hk=>?_⟩,g⟩;obtain ⟨k,rfl⟩:=kS1 k;show Q131.l8 (k+1) c x r _ lo hi out (t:Int) up a b (i:Int) kd pv (j:Int)=_;rw [head,iF q];exact hb k (by omega)
theorem Zre (hc:OkC c) (hx:∀ y∈x.2.2.2,0<=y/\y<256) (U:UpSt c out lo hi)
  (H:∀(up:List Nd) (a b:TJ) (t:Nat),UpSt c (out ++ [up]) a b->t<=200*(out.length+1)->∃ q,Ev (fun k=>Q131.l3 k c x up a b (t:Int) (out ++ [up])) q/\GoodT c q) (w2:1<wd out (out.length - 1)) (l6:out.length<6) :
  ∀(m i:Nat) (up:List Nd) (a b:TJ) (t:Nat),wd out (out.length - 1) - i<=m->i<=wd out (out.length - 1)->UpRow lo hi out.length (wd out (out.length - 1)) up a b i->t<=200*out.length+up.length->∃ q,Ev (fun k=>Q131.l6 k c x (out.getD (out.length - 1) default) lo hi out (t:Int) up a b (i:Int)) q/\GoodT c q:=by
 obtain ⟨LO,HI,G,eL,eH⟩:=U.gro;have hne:=G.ne;have wB:=U.wb (out.length - 1) (by omega);obtain ⟨F,eF⟩:=Int.eq_ofNat_of_zero_le (show 0<=c.2.2.2.1 by have:=hc.fan; omega);have hF:=hc.fan;intro m
 induction m with
 | zero=>
  intro i up a b t hm hi R ht;have ei:i=wd out (out.length - 1):=by omega
  have hu:=R.le;have hinn:InnR (LO (out.length - 1)) (HI (out.length - 1)) out.length up:=by rw [eL,eH]; exact R.inn
  have hup:1<=up.length:=by
   apply Nat.one_le_iff_ne_zero.2;intro e;have:=R.st;rw [e,Zi3] at this;omega
  have e1:(out ++ [up]).length - 1=out.length:=by simp
  have en:(out ++ [up]).getD out.length default=up:=Yp rfl;have U':UpSt c (out ++ [up]) a b:=by
   refine ⟨⟨_,_,Zrk G hinn (by rw [R.st,ei]) (fun j hj=>by rw [eL,eH]; exact R.ab j hj),by rw [e1,Z8],by rw [e1,Z8]⟩,by simp; omega,by rw [e1,R.al]; unfold wd; rw [en],by rw [e1,R.bl]; unfold wd; rw [en],fun j=>?_,by rw [e1]; unfold wd; rw [en]; exact hup,fun k hk=>?_,?_,fun k j hk hj=>?_⟩
   ·by_cases q:j<up.length
    ·rw [(R.ab j q).1,(R.ab j q).2];exact ⟨(U.sh _).1,(U.sh _).2⟩
    ·rw [List.getD_eq_getElem?_getD,List.getD_eq_getElem?_getD,List.getElem?_eq_none (by have:=R.al; omega),List.getElem?_eq_none (by have:=R.bl; omega)];exact ⟨Nat.zero_le _,Nat.zero_le _⟩
   ·rw [lA] at hk;by_cases q:k<out.length
    ·unfold wd; rw [Yk q]; exact U.wb k q
    ·rw [show k=out.length by simp at hk; omega]; unfold wd; rw [en]; omega
   ·unfold Lvs;rw [Yk hne];exact U.lvs
   ·rw [lA] at hk;by_cases q:k<out.length
    ·unfold wd at hj; unfold ndT;rw [Yk q] at hj ⊢;exact U.buf k j q hj
    ·have ek:k=out.length:=by simp at hk; omega
     subst ek;unfold wd at hj; unfold ndT;rw [en] at hj ⊢;exact R.bf j hj
  obtain ⟨q,⟨b0,hb⟩,g⟩:=H up a b t U' (by omega);refine ⟨q,⟨b0+2,fun k hk=>?_⟩,g⟩;obtain ⟨k,rfl⟩:=kS2 k;show Q131.l6 (k+2) c x _ _ _ out (t:Int) up a b (i:Int)=_;rw [Q131.l6,iF (by simp only [dE]; unfold wd at ei; omega),Q131.l5,iV];exact hb k (by omega)
 | succ m ih=>
  intro i up a b t hm hi R ht;by_cases q:i<wd out (out.length - 1)
  ·have hu:=R.le;have hst:up.length<=151:=by omega
   obtain ⟨r,er,r1,r2⟩:=Zsq hx t (m:=F) (by omega) (by omega);obtain ⟨nn,hn,n1,n2,n3⟩:∃ nn:Nat,mnI (mxI (r:Int) 2) (w64 (((out.getD (out.length - 1) default).length:Int) - (i:Int)))=(nn:Int)/\1<=nn/\nn<=64/\i+nn<=wd out (out.length - 1):=by
    unfold wd at q wB ⊢;unfold mnI mxI;rw [wI2];by_cases q1:(r:Int)>2
    ·rw [iT q1];by_cases q2:(r:Int)<((out.getD (out.length - 1) default).length:Int) - (i:Int)
     ·rw [iT q2]; exact ⟨r,rfl,by omega,by omega,by omega⟩
     ·rw [iF q2]; exact ⟨(out.getD (out.length - 1) default).length - i,by omega,by omega,by omega,by omega⟩
    ·rw [iF q1];by_cases q2:(2:Int)<((out.getD (out.length - 1) default).length:Int) - (i:Int)
     ·rw [iT q2]; exact ⟨2,rfl,by omega,by omega,by omega⟩
     ·rw [iF q2]; exact ⟨(out.getD (out.length - 1) default).length - i,by omega,by omega,by omega,by omega⟩
   obtain ⟨z,⟨b0,hb⟩,g⟩:=Zsk hc hx U R hn n1 n2 n3 (by omega) rfl (fun up' a' b' R' e=>ih (i+nn) up' a' b' (t+1) (by omega) n3 R' (by omega)) nn 0 [] [] (by omega) rfl rfl (fun w hw=>absurd hw (Nat.not_lt_zero _));refine ⟨z,⟨b0+1,fun k hk=>?_⟩,g⟩;obtain ⟨k,rfl⟩:=kS1 k;show Q131.l6 (k+1) c x _ _ _ out (t:Int) up a b (i:Int)=_;rw [Q131.l6,iT (dT (by unfold wd at q; omega)),eF,er,bS];exact hb k (by omega)
  ·exact ih i up a b t (by omega) hi R ht
end
theorem Zm7 {α β:Type} (f:α->β) (l:List α) (i:Nat) (d:α):(l.map f).getD i (f d)=f (l.getD i d):=by
 rw [List.getD_eq_getElem?_getD,List.getElem?_map,List.getD_eq_getElem?_getD];cases l[i]? <;> rfl
def Jn (n:Nd):Int×List Int×List TQ×List Pr:=(n.1,n.2.1,n.2.2.1,n.2.2.2.2)
structure SameB (l r:Tre):Prop where
 len:r.length=l.length
 row:∀ k,(r.getD k default).map Jn=(l.getD k default).map Jn
theorem B6 {n m:Nd} (h:Jn n=Jn m):n.1=m.1/\n.2.1=m.2.1/\n.2.2.1=m.2.2.1/\n.2.2.2.2=m.2.2.2.2:=⟨congrArg (fun z=>z.1) h,congrArg (fun z=>z.2.1) h,congrArg (fun z=>z.2.2.1) h,congrArg (fun z=>z.2.2.2) h⟩
section
variable {l r q:Tre} {LO HI:Nat->Nat->List UInt8} {c:Cfg}
theorem SameB.rfl' (l:Tre):SameB l l:=⟨rfl,fun _=>rfl⟩
theorem SameB.trans (S:SameB l r) (T:SameB r q):SameB l q:=⟨T.len.trans S.len,fun k=>(T.row k).trans (S.row k)⟩
theorem SameB.wd (S:SameB l r) (k:Nat):wd r k=wd l k:=by
 have:=congrArg List.length (S.row k);simpa [T.wd] using this
theorem SameB.nd (S:SameB l r) (k i:Nat):Jn (ndT r k i)=Jn (ndT l k i):=by
 have:=congrArg (fun z=>z.getD i (Jn default)) (S.row k);simp only [Zm7] at this;exact this
theorem SameB.st (S:SameB l r) (k i:Nat):stR (r.getD k default) i=stR (l.getD k default) i:=by
 have e:∀ row:List Nd,row.map (fun n=>n.2.1.length)=(row.map Jn).map fun s=>s.2.1.length:=fun row=>by rw [List.map_map]; rfl
 unfold stR;rw [e,e,S.row]
theorem SameB.flat (S:SameB l r) (k:Nat):Vt (r.getD k default)=Vt (l.getD k default):=by
 have e:∀ row:List Nd,Vt row=(row.map Jn).flatMap fun s=>s.2.2.2:=fun row=>by rw [List.flatMap_map]; rfl
 rw [e,e,S.row]
theorem SameB.kid (S:SameB l r) (k i:Nat) (x:TQ):kidI (ndT r k i) x=kidI (ndT l k i) x:=by
 obtain ⟨_,h2,h3,_⟩:=B6 (S.nd k i);unfold kidI;rw [h2,h3]
theorem SameB.dn (S:SameB l r) (x:TQ):∀ j,dn r x j=dn l x j
 | 0=>rfl
 | j+1=>by rw [T.dn,T.dn,S.dn x j,S.len,S.kid]
theorem SameB.gro (S:SameB l r) (G:Gro l LO HI) (h0:∀ i,i<T.wd l 0->(ndT r 0 i).2.2.2.1=[]):Gro r LO HI:=by
 refine ⟨by rw [S.len]; exact G.ne,fun i hi=>?_,fun k hk=>?_,fun k i hk hi=>?_,fun k i hk hi=>?_⟩
 ·rw [S.wd] at hi;obtain ⟨a1,a2,a3,a4⟩:=B6 (S.nd 0 i);obtain ⟨g1,g2,g3,_,g5⟩:=G.leaf i hi;rw [a1,a2,a3,a4];exact ⟨g1,g2,g3,h0 i hi,g5⟩
 ·rw [S.len] at hk;obtain ⟨r1,r2,r3⟩:=G.row k hk;refine ⟨fun i hi=>?_,by rw [S.wd,S.wd,S.st]; exact r2,fun i hi=>?_⟩
  ·have hi':i<(l.getD (k+1) default).length:=by have:=S.wd (k+1); unfold T.wd at this; omega
   obtain ⟨a1,a2,a3,a4⟩:=B6 (S.nd (k+1) i);have n:=r1 i hi';unfold ndT at a1 a2 a3 a4;rw [S.st];exact ⟨by rw [a1]; exact n.lvl,by rw [a4]; exact n.prs,by rw [a2,a3]; exact n.pvl,by rw [a2]; exact n.fan,by rw [a2]; exact n.kid,by rw [a3]; exact n.pv⟩
  ·rw [S.wd] at hi;rw [S.st,S.st];exact r3 i hi
 ·rw [S.len] at hk; rw [S.wd] at hi; exact G.lh k i hk hi
 ·rw [S.len] at hk; rw [S.wd] at hi; exact G.hl k i hk hi
end
def Za7 (l:Tre) (k i:Nat) (b:List Msg):Tre:=l.set k ((l.getD k default).set i ((ndT l k i).1,(ndT l k i).2.1,(ndT l k i).2.2.1,b,(ndT l k i).2.2.2.2))
theorem Zbw {α:Type} (l:List α) (k j:Nat) (v d:α):(l.set k v).getD j d=if j=k/\k<l.length then v else l.getD j d:=by
 rw [List.getD_eq_getElem?_getD,List.getElem?_set,List.getD_eq_getElem?_getD];by_cases e:k=j
 ·subst e;by_cases h:k<l.length
  ·rw [iT rfl,iT h,iT ⟨rfl,h⟩]; rfl
  ·rw [iT rfl,iF h,iF (fun z=>h z.2),List.getElem?_eq_none (by omega)]
 ·rw [iF e,iF (fun z=>e z.1.symm)]
theorem Zfs {l:Tre} {k i:Nat} (hk:k<l.length) (hi:i<wd l k) (b:List Msg) (k' i':Nat):(ndT (Za7 l k i b) k' i').2.2.2.1=if k'=k/\i'=i then b else (ndT l k' i').2.2.2.1:=by
 unfold ndT Za7;rw [Zbw];by_cases e:k'=k
 ·subst e;rw [iT ⟨rfl,hk⟩,Zbw];by_cases e2:i'=i
  ·subst e2;rw [iT ⟨rfl,hi⟩,iT ⟨rfl,rfl⟩]
  ·rw [iF (fun z=>e2 z.1),iF (fun z=>e2 z.2)]
 ·rw [iF (fun z=>e z.1),iF (fun z=>e z.1)]
theorem Zmo (l:Tre) (k i:Nat) (b:List Msg):SameB l (Za7 l k i b):=by
 refine ⟨by unfold Za7; rw [length_set],fun j=>?_⟩;unfold Za7;rw [Zbw];by_cases e:j=k/\k<l.length
 ·rw [iT e,e.1,List.map_set];refine List.ext_getElem? fun z=>?_;rw [List.getElem?_set];by_cases ez:i=z
  ·subst ez;rw [iT rfl,List.getElem?_map];by_cases h:i<((l.getD k default).map Jn).length
   ·rw [iT h];rw [length_map] at h;unfold ndT;rw [Y0 h,List.getElem?_eq_getElem h];rfl
   ·rw [iF h];rw [length_map] at h;rw [List.getElem?_eq_none (by omega)]; rfl
  ·rw [iF ez]
 ·rw [iF e]
section
variable {l:Tre} {LO HI:Nat->Nat->List UInt8} {c:Cfg} {N:Nat}
structure PutS (c:Cfg) (N:Nat) (l r:Tre):Prop where
 same:SameB l r
 buf:Zpm c N r
 z:∀ i,i<wd l 0->(ndT r 0 i).2.2.2.1=[]
 ks:Zpk N r
theorem Zpi {l0 l:Tre} (S:PutS c N l0 l) {m:Msg} (hm:Xi c m.1=true) {k:Nat} (h0:0<k) (hk:k<l.length) (hi:dn l m.1 (l.length - 1 - k)<wd l k):PutS c (N+1) l0 (Za7 l k (dn l m.1 (l.length - 1 - k)) (Y8 mk m (ndT l k (dn l m.1 (l.length - 1 - k))).2.2.2.1)):=by
 have V:=Zmo l k (dn l m.1 (l.length - 1 - k)) (Y8 mk m (ndT l k (dn l m.1 (l.length - 1 - k))).2.2.2.1);refine ⟨S.same.trans V,fun k' i' p0 p1 p2=>?_,fun i h=>?_,?_⟩
 ·rw [V.len] at p1 ⊢;rw [V.wd] at p2;rw [Zfs hk hi];obtain ⟨b1,b2,b3⟩:=S.buf k' i' p0 p1 p2;by_cases e:k'=k/\i'=dn l m.1 (l.length - 1 - k)
  ·obtain ⟨rfl,rfl⟩:=e;rw [iT ⟨rfl,rfl⟩];refine ⟨Uh mk b1,by have:=Un mk m (ndT l k' (dn l m.1 (l.length - 1 - k'))).2.2.2.1; omega,fun y hy=>?_⟩;rw [V.dn];rcases Gw mk hy with rfl | hy
   ·exact ⟨hm,rfl⟩
   ·exact b3 y hy
  ·rw [iF e];exact ⟨b1,by omega,fun y hy=>by rw [V.dn]; exact b3 y hy⟩
 ·rw [Zfs hk hi,iF (fun z=>by omega)];exact S.z i h
 ·obtain ⟨ks,k1,k2⟩:=S.ks;refine ⟨m.1 :: ks,by rw [length_cons]; omega,fun k' i' p0 p1 p2 y hy=>?_⟩;rw [V.len] at p1;rw [V.wd] at p2;rw [Zfs hk hi] at hy;by_cases e:k'=k/\i'=dn l m.1 (l.length - 1 - k)
  ·rw [iT e] at hy;rcases Gw mk hy with rfl | hy
   ·exact List.mem_cons_self
   ·exact List.mem_cons_of_mem _ (k2 k _ h0 hk hi y hy)
  ·rw [iF e] at hy;exact List.mem_cons_of_mem _ (k2 k' i' p0 p1 p2 y hy)
theorem PutS.more {l0 l:Tre} (S:PutS c N l0 l):PutS c (N+1) l0 l:=⟨S.same,fun k i h1 h2 h3=>by obtain ⟨b1,b2,b3⟩:=S.buf k i h1 h2 h3; exact ⟨b1,by omega,b3⟩,S.z,by obtain ⟨ks,k1,k2⟩:=S.ks; exact ⟨ks,by omega,k2⟩⟩
theorem Zka (hc:OkC c) {l0:Tre} (S:PutS c N l0 l) (hN:N<=200) (G:Gro l LO HI) (top:wd l (l.length - 1)=1) (h6:l.length<=6) (wb:∀ k,k<l.length->wd l k<=151) {m:Msg} (hm:Xi c m.1=true) (most:Int):∀(lev d:Nat),d<=1000->lev<l.length->∃ r,Ev (fun k=>Q154.l0 k l m most (d:Int) ((dn l m.1 (l.length - 1 - lev):Nat):Int) (lev:Int)) r/\PutS c (N+1) l0 r
 | 0,d,hd,hl=>⟨l,⟨1,fun k hk=>by
   obtain ⟨k,rfl⟩:=kS1 k;show Q154.l0 (k+1) l m most (d:Int) _ ((0:Nat):Int)=_;rw [Q154.l0,vS]⟩,S.more⟩
 | lev+1,d,hd,hl=>by
  have hi:=G.dn_lt top m.1 (l.length - 1 - (lev+1)) (by omega);rw [show l.length - 1 - (l.length - 1 - (lev+1))=lev+1 by omega] at hi;have hi2:=hi;unfold wd at hi2;have hw:=wb (lev+1) hl;have hkl:=Zdy hc hm;obtain ⟨b1,b2,b3⟩:=S.buf (lev+1) _ (by omega) hl hi;have kd:=G.kidI hl hi m.1;have nd:=G.nd hl hi;have hs:=G.rise hl hi;have hdn:dn l m.1 (l.length - 1 - lev)=kidI (ndT l (lev+1) (dn l m.1 (l.length - 1 - (lev+1)))) m.1:=by
   rw [show l.length - 1 - lev=(l.length - 1 - (lev+1))+1 by omega,dn,show l.length - 1 - (l.length - 1 - (lev+1))=lev+1 by omega]
  have P:=Zpi S hm (show 0<lev+1 by omega) hl hi;rw [show l.length - 1 - (lev+1)=l.length - 1 - (lev+1) from rfl] at P;have aw:=V4 m.1 hs;obtain ⟨w1,w2,w3,w4⟩:=kd;obtain ⟨nn,enn⟩:∃ nn,nn=ndT l (lev+1) (dn l m.1 (l.length - 1 - (lev+1))):=⟨_,rfl⟩;obtain ⟨a,ea⟩:∃ a,a=dn l m.1 (l.length - 1 - (lev+1)):=⟨_,rfl⟩;rw [<- ea] at enn hi hi2 P;rw [<- ea,<- enn] at b1 b2 b3 hs aw w1 w2 w3 w4 hdn nd;rw [<- enn] at P;have nd2:(l.getD (lev+1) default).getD a default=nn:=enn.symm;by_cases hput:d=0\/lev=0
  ·have fin:∀ k,5000<k->(((Q147.f k nn.2.2.2.1 m)).bind fun r1=>(if (decide ((r1.length:Int)<=most))=true then (some (l.set (lev+1) ((l.getD (lev+1) default).set a (nn.1,nn.2.1,nn.2.2.1,r1,nn.2.2.2.2)))) else (some l)))=some (if ((Y8 mk m nn.2.2.2.1).length:Int)<=most then Za7 l (lev+1) a (Y8 mk m nn.2.2.2.1) else l):=fun k hk=>by
    rw [Zjp ⟨by omega,fun y hy=>by have:=Zdy hc (b3 y hy).1; omega⟩ (by omega) b1 (by omega),bS];by_cases z:((Y8 mk m nn.2.2.2.1).length:Int)<=most
    ·rw [iT (dT z),iT z];unfold Za7;rw [<- enn]
    ·rw [iF (by simpa using z),iF z]
   refine ⟨if ((Y8 mk m nn.2.2.2.1).length:Int)<=most then Za7 l (lev+1) a (Y8 mk m nn.2.2.2.1) else l,⟨5002,fun k hk=>?_⟩,?_⟩
   ·obtain ⟨k,rfl⟩:=kS1 k;show Q154.l0 (k+1) l m most (d:Int) ((dn l m.1 (l.length - 1 - (lev+1)):Nat):Int) ((lev+1:Nat):Int)=_;rw [<- ea,Q154.l0,iP,iO,Zx,iO,Zx,nd2,tN,tN];rcases hput with z | z
    ·rw [iP]; exact fin k (by omega)
    ·by_cases z2:d=0
     ·rw [iP]; exact fin k (by omega)
     ·rw [iN,iP]; exact fin k (by omega)
   ·split
    ·exact P
    ·exact S.more
  ·obtain ⟨r,⟨b0,hb⟩,g⟩:=Zka hc S hN G top h6 wb hm most lev (d - 1) (by omega) (by omega);refine ⟨r,⟨b0+4000,fun k hk=>?_⟩,g⟩;obtain ⟨k,rfl⟩:=kS1 k;have hb':=hb k (by omega);have hf:=nd.fan;have hpl:=nd.pvl;show Q154.l0 (k+1) l m most (d:Int) ((dn l m.1 (l.length - 1 - (lev+1)):Nat):Int) ((lev+1:Nat):Int)=_;rw [<- ea,Q154.l0,iP,iO,Zx,iO,Zx,nd2,iN,iN,Zjr (s:=([],[],true)) ⟨by omega,fun y hy=>by obtain ⟨j,hj,e⟩:=Vc hy []; rw [<- e]; have:=(nd.pv j hj).2.2; omega,by omega,Nat.zero_le _,Nat.zero_le _⟩ aw (by omega),bS,iO,Zx,w3,V3 (x:=((kidI nn m.1+1:Nat):Int)) (by have:=wb lev (by omega); omega) (by have:=wb lev (by omega); omega),show ((kidI nn m.1+1:Nat):Int) - 1=((kidI nn m.1:Nat):Int) by omega,V3 (x:=((kidI nn m.1:Nat):Int)) (by omega) (by have:=wb lev (by omega); omega),wI2 (x:=(d:Int) - 1),wI2 (x:=((lev+1:Nat):Int) - 1),show (d:Int) - 1=((d - 1:Nat):Int) by omega,show ((lev+1:Nat):Int) - 1=(lev:Int) by omega,<- hdn];exact hb'
end
section
variable {c:Cfg} {x:Spc}
theorem Zm6 (hc:OkC c) {ms:List Msg} (h100:ms.length<=100) (hms:∀ m∈ms,Xi c m.1=true) {deep:TU} (hd:∀ y∈deep,0<=y/\y<256) (most:Int) {l0:Tre} {LO HI:Nat->Nat->List UInt8} (G:Gro l0 LO HI) (top:wd l0 (l0.length - 1)=1) (h6:l0.length<=6) (wb:∀ k,k<l0.length->wd l0 k<=151):∀(m i:Nat) (l:Tre),i+m=ms.length->PutS c i l0 l->∃ r,Ev (fun k=>Q153.l0 k ms deep most l (i:Int)) r/\PutS c ms.length l0 r
 | 0,i,l,hi,S=>⟨l,⟨1,fun k hk=>by
   obtain ⟨k,rfl⟩:=kS1 k;show Q153.l0 (k+1) ms deep most l (i:Int)=_;rw [Q153.l0,iN]⟩,by rw [<- hi]; exact S⟩
 | m+1,i,l,hi,S=>by
  have hne:=G.ne;have hl:=S.same.len;have wd':=S.same.wd;obtain ⟨d,hd1,hd2⟩:∃ d:Nat,d<=1000/\∀ k,Q153.l0 (k+1) ms deep most l (i:Int)=(Q154.f k l (ms.getD i default) (d:Int) most).bind fun r=>Q153.l0 k ms deep most r ((i+1:Nat):Int):=by
   by_cases q:i<deep.length
   ·obtain ⟨y1,y2⟩:=hd _ (Xj (d:=default) q);obtain ⟨y,ey⟩:=Int.eq_ofNat_of_zero_le y1;have:=Nat.mod_lt y (show 0<l.length by omega);refine ⟨y % l.length,by omega,fun k=>?_⟩;rw [Q153.l0,iP,iP,iO,iO,iO,Zx,Zx,ey,wI2 (x:=(y:Int)),wS2];rfl
   ·refine ⟨0,by omega,fun k=>?_⟩;rw [Q153.l0,iP,iN,iO,Zx,wS2];rfl
  obtain ⟨r,⟨b1,e1⟩,S1⟩:=Zka hc S (by omega) (S.same.gro G S.z) (by rw [wd',hl]; exact top) (by omega) (fun k hk=>by rw [wd']; exact wb k (by omega)) (hms _ (Xj (d:=default) (show i<ms.length by omega))) most (l.length - 1) d hd1 (by omega);rw [Nat.sub_self] at e1;obtain ⟨r2,⟨b2,e2⟩,S2⟩:=Zm6 hc h100 hms hd most G top h6 wb m (i+1) r (by omega) S1;refine ⟨r2,⟨b1+b2+1,fun k hk=>?_⟩,S2⟩;obtain ⟨k,rfl⟩:=kS1 k;have e1':=e1 k (by omega);show Q153.l0 (k+1) ms deep most l (i:Int)=_;rw [hd2];unfold Q154.f;rw [wI2,show (l.length:Int) - 1=((l.length - 1:Nat):Int) by omega];rw [show Q154.l0 k l (ms.getD i default) most (d:Int) 0 ((l.length - 1:Nat):Int)=_ from e1',bS];exact e2 k (by omega)
theorem Ztb (c:Cfg):GoodT c [[(0,[],[],[],[])]]:=by
 refine ⟨⟨fun _ _=>[],fun _ _=>[],by decide,fun i hi=>?_,fun k hk=>?_,fun _ _ _ _=>rfl,fun k i hk hi=>?_⟩,rfl,by decide,⟨List.Pairwise.nil,Nat.zero_le _,fun p hp=>by cases hp⟩,fun k i h1 h2 _=>?_,fun k hk=>?_,⟨[],Nat.zero_le _,fun k i h1 h2 _=>absurd (show k<1 from h2) (by omega)⟩⟩
 ·obtain rfl:i=0:=by have:i<1:=hi; omega
  exact ⟨rfl,rfl,rfl,rfl,fun p hp=>by cases hp⟩
 ·have:k+1<1:=hk;omega
 ·obtain rfl:k=0:=by have:k<1:=hk; omega
  have:i+1<1:=hi;omega
 ·have:k<1:=h2;omega
 ·obtain rfl:k=0:=by have:k<1:=hk; omega
  decide
theorem Zro (hc:OkC c) (hd:∀ y∈x.2.2.1,0<=y/\y<256) {out:Tre} {lo hi:TJ} (U:UpSt c out lo hi) (t:Int) (b:Bool):∃ q,Ev (fun k=>Q131.l2 k c x (out.getD (out.length - 1) default) lo hi t out b) q/\GoodT c q:=by
 by_cases q:1<(out.getD (out.length - 1) default).length
 ·exact ⟨_,⟨1,fun k hk=>by
   obtain ⟨k,rfl⟩:=kS1 k;show Q131.l2 (k+1) c x _ lo hi t out b=_;rw [Q131.l2,iP]⟩,Ztb c⟩
 ·obtain ⟨LO,HI,G,_,_⟩:=U.gro;have hne:=G.ne;obtain ⟨ms,⟨b1,e1⟩,m1,m2⟩:=Zs9 c x;have top:wd out (out.length - 1)=1:=by have:=U.w1; unfold wd at this ⊢; omega
  obtain ⟨r,⟨b2,e2⟩,S⟩:=Zm6 hc m1 m2 hd c.2.2.2.2.1 G top U.len U.wb ms.length 0 out (by omega) ⟨SameB.rfl' out,fun k i h1 h2 h3=>by rw [U.buf k i h2 h3]; exact ⟨List.Pairwise.nil,Nat.le_refl _,fun p hp=>by cases hp⟩,fun i hi=>U.buf 0 i hne hi,⟨[],Nat.le_refl _,fun k i _ h2 h3 m hm=>by rw [U.buf k i h2 h3] at hm; cases hm⟩⟩;refine ⟨r,⟨b1+b2+1,fun k hk=>?_⟩,⟨⟨LO,HI,S.same.gro G S.z⟩,by rw [S.same.len,S.same.wd]; exact top,by rw [S.same.len]; exact U.len,?_,fun k i h1 h2 h3=>?_,fun k hk=>by rw [S.same.wd]; rw [S.same.len] at hk; exact U.wb k hk,by obtain ⟨ks,k1,k2⟩:=S.ks; exact ⟨ks,by omega,k2⟩⟩⟩
  ·obtain ⟨k,rfl⟩:=kS1 k;show Q131.l2 (k+1) c x _ lo hi t out b=_;rw [Q131.l2,iN,show Q135.f k c x=_ from e1 k (by omega),bS];unfold Q153.f;rw [show Q153.l0 k ms x.2.2.1 c.2.2.2.2.1 out 0=_ from e2 k (by omega),bS]
  ·unfold Lvs;rw [S.same.flat];exact U.lvs
  ·obtain ⟨g1,g2,g3⟩:=S.buf k i h1 h2 h3;exact ⟨g1,by omega,g3⟩
theorem Zsm (hc:OkC c) (hx:∀ y∈x.2.2.2,0<=y/\y<256) (hd:∀ y∈x.2.2.1,0<=y/\y<256):∀(m:Nat) (out:Tre) (lo hi:TJ) (t:Nat),out.length+m=6->UpSt c out lo hi->t<=200*out.length->∃ q,Ev (fun k=>Q131.l3 k c x (out.getD (out.length - 1) default) lo hi (t:Int) out) q/\GoodT c q:=by
 have low:∀(out:Tre) (lo hi:TJ) (t:Nat),UpSt c out lo hi->¬ (1<(out.getD (out.length - 1) default).length/\out.length<6)->∃ q,Ev (fun k=>Q131.l3 k c x (out.getD (out.length - 1) default) lo hi (t:Int) out) q/\GoodT c q:=fun out lo hi t U h=>by
  obtain ⟨q,⟨b0,hb⟩,g⟩:=Zro hc hd U (t:Int) false;refine ⟨q,⟨b0+2,fun k hk=>?_⟩,g⟩;obtain ⟨k,rfl⟩:=kS2 k;show Q131.l3 (k+2) c x _ lo hi (t:Int) out=_;rw [Q131.l3];by_cases z:1<(out.getD (out.length - 1) default).length
  ·rw [iP,dF,Q131.l4,vS];exact hb k (by omega)
  ·rw [iN,Q131.l4,vS];exact hb k (by omega)
 intro m
 induction m with
 | zero=>intro out lo hi t hm U ht; exact low out lo hi t U (by omega)
 | succ m ih=>
  intro out lo hi t hm U ht;by_cases z:1<(out.getD (out.length - 1) default).length
  ·obtain ⟨q,⟨b0,hb⟩,g⟩:=Zre hc hx U (fun up a b t' U' ht'=>by
    have:=ih (out ++ [up]) a b t' (by simp; omega) U' (by simp; omega)
    rwa [show (out ++ [up]).length - 1=out.length by simp,Yp rfl] at this) z (by omega) (wd out (out.length - 1)) 0 [] [] [] t (by omega) (Nat.zero_le _) ⟨fun i hi=>absurd hi (Nat.not_lt_zero _),rfl,rfl,rfl,fun j hj=>absurd hj (Nat.not_lt_zero _),Nat.le_refl _,fun j hj=>absurd hj (Nat.not_lt_zero _)⟩ (by omega)
   refine ⟨q,⟨b0+2,fun k hk=>?_⟩,g⟩;obtain ⟨k,rfl⟩:=kS2 k;show Q131.l3 (k+2) c x _ lo hi (t:Int) out=_;rw [Q131.l3,iP,dT,Q131.l4,iT rfl];exact hb k (by omega)
  ·exact low out lo hi t U fun h=>z h.1
structure LeafSt (c:Cfg) (l:List Pr) (row:List Nd) (lo hi:TJ):Prop where
 lv:LvP c (Vt row ++ l)
 ll:lo.length=row.length
 hl:hi.length=row.length
 bd:row.length+l.length<=151
 nd:∀ i,i<row.length->(row.getD i default).1=0/\(row.getD i default).2.1=[]/\(row.getD i default).2.2.1=[]/\(row.getD i default).2.2.2.1=[]/\∀ p∈(row.getD i default).2.2.2.2,Op.bytesLess p.1 (lo.getD i [])=false/\Op.bytesLess (hi.getD i []) p.1=false
 lh:∀ i,i<row.length->Op.bytesLess (hi.getD i []) (lo.getD i [])=false
 sh:∀ i,(lo.getD i []).length<=200/\(hi.getD i []).length<=200
 inc:∀ i,i+1<row.length->Op.bytesLess (hi.getD i []) (lo.getD (i+1) [])=true
 rest:∀ i,i<row.length->∀ p∈l,Op.bytesLess (hi.getD i []) p.1=true
theorem Zgc {α:Type} {l:List α} {i:Nat} {d:α} (h:l.length<=i):l.getD i d=d:=by rw [List.getD_eq_getElem?_getD,List.getElem?_eq_none h]; rfl
theorem Zee {l:List Pr} {row:List Nd} {lo hi:TJ} (L:LeafSt c l row lo hi) {a b:TQ} {u v:List Pr} (e:l=u ++ v) (hb:row.length+1+v.length<=151) (hu:∀ p∈u,Op.bytesLess p.1 a=false/\Op.bytesLess b p.1=false) (hab:Op.bytesLess b a=false) (ha:a.length<=200/\b.length<=200) (hin:∀ i,i<row.length->Op.bytesLess (hi.getD i []) a=true) (hv:∀ p∈v,Op.bytesLess b p.1=true):LeafSt c v (row ++ [(0,[],[],[],u)]) (lo ++ [a]) (hi ++ [b]):=by
 have h1:=L.ll;have h2:=L.hl;have two:∀ i,i<(row ++ [((0,[],[],[],u):Nd)]).length->i<row.length\/i=row.length:=fun i h=>by simp at h; omega
 refine ⟨by unfold Vt; rw [List.flatMap_append]; have:=L.lv; rw [e] at this; simpa [Vt] using this,by simp [h1],by simp [h2],by simp; omega,fun i h=>?_,fun i h=>?_,fun i=>?_,fun i h=>?_,fun i h p hp=>?_⟩
 ·rcases two i h with q | q
  ·rw [Yk q,Yk,Yk]; exact L.nd i q
  ·rw [Yp q,Yp,Yp]; exact ⟨rfl,rfl,rfl,rfl,hu⟩
 ·rcases two i h with q | q
  ·rw [Yk,Yk]; exact L.lh i q
  ·rw [Yp,Yp]; exact hab
 ·by_cases q:i<row.length
  ·rw [Yk,Yk]; exact L.sh i
  ·by_cases q2:i=row.length
   ·rw [Yp,Yp]; exact ha
   ·rw [Zgc (by simp; omega),Zgc (by simp; omega)]; exact ⟨Nat.zero_le _,Nat.zero_le _⟩
 ·rcases two (i+1) h with q | q
  ·rw [Yk,Yk]; exact L.inc i q
  ·rw [Yk,Yp]; exact hin i (by omega)
 ·rcases two i h with q | q
  ·rw [Yk]; exact L.rest i q p (by rw [e]; exact List.mem_append.2 (.inr hp))
  ·rw [Yp]; exact hv p hp
theorem Zsr {row:List Nd} {lo hi:TJ} (L:LeafSt c [] row lo hi) (hr:row≠[]):UpSt c [row] lo hi:=by
 have hp:1<=row.length:=by cases row with | nil=>exact absurd rfl hr | cons a r=>simp
 have h1:=L.bd;have one:∀ k,k<[row].length->k=0:=fun k h=>by simp at h; omega
 refine ⟨⟨fun _ i=>lo.getD i [],fun _ i=>hi.getD i [],⟨by simp,L.nd,fun k hk=>by simp at hk,fun k i hk h=>?_,fun k i hk h=>?_⟩,rfl,rfl⟩,by simp,L.ll,L.hl,L.sh,hp,fun k hk=>?_,?_,fun k i hk h=>?_⟩
 ·rw [one k hk] at h; exact L.lh i h
 ·rw [one k hk] at h; exact L.inc i h
 ·rw [one k hk]; show row.length<=151; simp at h1; omega
 ·have:=L.lv; rw [List.append_nil] at this; exact this
 ·rw [one k hk] at h ⊢; exact (L.nd i h).2.2.2.1
theorem Zsi (hc:OkC c) (hx:∀ y∈x.2.2.2,0<=y/\y<256) (hd:∀ y∈x.2.2.1,0<=y/\y<256):∀(m:Nat) (l:List Pr) (row:List Nd) (lo hi:TJ),l.length+(if row=[] then 1 else 0)<=m->LeafSt c l row lo hi->∃ q,Ev (fun k=>Q131.l0 k c x l row lo hi ((row.length:Nat):Int)) q/\GoodT c q:=by
 obtain ⟨F,eF⟩:=Int.eq_ofNat_of_zero_le (show 0<=c.2.2.2.2.2.1 by have:=hc.leaf; have:=hc.buf; omega);have hF:=hc.leaf;have hB:=hc.buf;have stop:∀(row:List Nd) (lo hi:TJ),LeafSt c [] row lo hi->row≠[]->∃ q,Ev (fun k=>Q131.l0 k c x [] row lo hi ((row.length:Nat):Int)) q/\GoodT c q:=fun row lo hi L hr=>by
  have h1:=L.bd;have hp:row.length≠0:=fun e=>hr (List.eq_nil_of_length_eq_zero e);obtain ⟨q,⟨b0,hb⟩,g⟩:=Zsm hc hx hd 5 [row] lo hi row.length (by simp) (Zsr L hr) (by simp at h1 ⊢; omega);refine ⟨q,⟨b0+2,fun k hk=>?_⟩,g⟩;obtain ⟨k,rfl⟩:=kS2 k;show Q131.l0 (k+2) c x [] row lo hi _=_;rw [Q131.l0,vS,dF,Q131.l1,vS];exact hb k (by omega)
 intro m
 induction m with
 | zero=>
  intro l row lo hi hm L;have hl:l=[]:=List.eq_nil_of_length_eq_zero (by omega);subst hl;exact stop row lo hi L fun e=>by rw [iT e] at hm; simp at hm
 | succ m ih=>
  intro l row lo hi hm L;have hbd:=L.bd;have h1:=L.ll;have h2:=L.hl;by_cases z:l=[]/\row≠[]
  ·obtain ⟨rfl,z⟩:=z;exact stop row lo hi L z
  ·obtain ⟨r,er,r1,r2⟩:=Zsq hx row.length (m:=F) (by omega) (by omega);obtain ⟨nn,en,n1⟩:∃ nn:Nat,mnI (r:Int) (l.length:Int)=(nn:Int)/\nn=min r l.length:=by
    unfold mnI;by_cases q:(r:Int)<(l.length:Int)
    ·rw [iT q]; exact ⟨r,rfl,by omega⟩
    ·rw [iF q]; exact ⟨l.length,rfl,by omega⟩
   have enter:∀ k,Q131.l0 (k+2) c x l row lo hi ((row.length:Nat):Int)=(if (0:Int)<(nn:Int) then (Q131.l0 k c x (l.drop nn) (row ++ [(0,[],[],[],l.take nn)]) (lo ++ [(l.getD 0 default).1]) (hi ++ [(l.getD (nn - 1) default).1]) ((row.length+1:Nat):Int)) else (Q131.l0 k c x (l.drop nn) (row ++ [(0,[],[],[],l.take nn)]) (lo ++ [[]]) (hi ++ [[]]) ((row.length+1:Nat):Int))):=fun k=>by
    have l1:Q131.l0 (k+2) c x l row lo hi ((row.length:Nat):Int)=Q131.l1 (k+1) c x l row lo hi ((row.length:Nat):Int) true:=by
     rw [Q131.l0];by_cases q:l=[]
     ·have:row=[]:=Classical.byContradiction fun h=>z ⟨q,h⟩;rw [iF (by simp [q]),dT (by simp [this])]
     ·have:l.length≠0:=fun e=>q (List.eq_nil_of_length_eq_zero e);rw [iP]
    rw [l1,Q131.l1,iT rfl,eF,er,bS,en,iO,iV,wS2,tN];by_cases q:0<nn
    ·rw [iP,iO,wI2,iO,iV,iV,iO,iO,show (nn:Int) - 1=((nn - 1:Nat):Int) by omega,Zx];rfl
    ·rw [iN,iV,iV,iO,iQ]
   have go:∀(a b:TQ),(∀ k,Q131.l0 (k+2) c x l row lo hi ((row.length:Nat):Int)=Q131.l0 k c x (l.drop nn) (row ++ [(0,[],[],[],l.take nn)]) (lo ++ [a]) (hi ++ [b]) ((row.length+1:Nat):Int))->LeafSt c (l.drop nn) (row ++ [(0,[],[],[],l.take nn)]) (lo ++ [a]) (hi ++ [b])->∃ q,Ev (fun k=>Q131.l0 k c x l row lo hi ((row.length:Nat):Int)) q/\GoodT c q:=fun a b he L'=>by
    obtain ⟨q,⟨b0,hb⟩,g⟩:=ih _ _ _ _ (by
     rw [vS,length_drop];by_cases q:l=[]
     ·have:row=[]:=Classical.byContradiction fun h=>z ⟨q,h⟩;rw [iT this] at hm;omega
     ·have:l.length≠0:=fun e=>q (List.eq_nil_of_length_eq_zero e);split at hm <;> omega) L'
    refine ⟨q,⟨b0+2,fun k hk=>?_⟩,g⟩;obtain ⟨k,rfl⟩:=kS2 k;have hb':=hb k (by omega);rw [lA] at hb';show Q131.l0 (k+2) c x l row lo hi _=_;rw [he];exact hb'
   by_cases q:0<nn
   ·have hr:RiseK pk l:=(List.pairwise_append.1 L.lv.1).2.1;have hk:∀ p∈l,p.1.length<=200:=fun p hp=>by have:=Zdy hc (L.lv.2.2 p (List.mem_append.2 (.inr hp))); omega
    have le:∀ {i j:Nat},i<=j->j<l.length->Op.bytesLess (l.getD j default).1 (l.getD i default).1=false:=fun {i j} h hj=>by
     by_cases e:i=j
     ·subst e; exact W0 _
     ·exact Xu (RiseK.get pk hr (show i<j by omega) hj default)
    refine go (l.getD 0 default).1 (l.getD (nn - 1) default).1 (fun k=>by rw [enter,iO]) (Zee L (List.take_append_drop nn l).symm (by rw [length_drop]; omega) (fun p hp=>?_) (le (by omega) (by omega)) ⟨hk _ (Xj (by omega)),hk _ (Xj (by omega))⟩ (fun i h=>L.rest i h _ (Xj (by omega))) fun p hp=>?_)
    ·obtain ⟨j,hj,e⟩:=Vc hp default;rw [length_take] at hj;rw [Zca (by omega)] at e;rw [<- e];exact ⟨le (Nat.zero_le _) (by omega),le (by omega) (by omega)⟩
    ·obtain ⟨j,hj,e⟩:=Vc hp default;rw [length_drop] at hj;rw [Zch] at e;rw [<- e];exact RiseK.get pk hr (show nn - 1<nn+j by omega) (by omega) default
   ·have hl:l=[]:=List.eq_nil_of_length_eq_zero (by omega);have hr:row=[]:=Classical.byContradiction fun h=>z ⟨hl,h⟩;refine go [] [] (fun k=>by rw [enter,iQ]) (Zee L (List.take_append_drop nn l).symm (by rw [hr,hl]; simp) (fun p hp=>by rw [hl] at hp; simp at hp) rfl ⟨Nat.zero_le _,Nat.zero_le _⟩ (fun i h=>by rw [hr] at h; exact absurd h (Nat.not_lt_zero _)) fun p hp=>by rw [hl] at hp; simp at hp)
theorem Zq7 (hc:OkC c) (hx:∀ y∈x.2.2.2,0<=y/\y<256) (hd:∀ y∈x.2.2.1,0<=y/\y<256):∃ l,Ev (fun k=>Q131.f k c x) l/\GoodT c l:=by
 obtain ⟨ks,⟨b1,e1⟩,g1⟩:=Zsx hc x;obtain ⟨l,⟨b2,e2⟩,g2⟩:=Zsi hc hx hd (ks.length+1) ks [] [] [] (by simp) ⟨g1,rfl,rfl,by have:=g1.2.1; simp; omega,fun i h=>absurd h (Nat.not_lt_zero _),fun i h=>absurd h (Nat.not_lt_zero _),fun i=>⟨Nat.zero_le _,Nat.zero_le _⟩,fun i h=>absurd h (Nat.not_lt_zero _),fun i h=>absurd h (Nat.not_lt_zero _)⟩;refine ⟨l,⟨b1+b2,fun k hk=>?_⟩,g2⟩;show Q131.f k c x=_;unfold Q131.f;rw [show Q134.f k c x=_ from e1 k (by omega),bS];exact e2 k (by omega)
end
section
variable {c:Cfg} {N B n t q:Nat} {s:Shf} {L:List Nat} {K:Nat->List Int} {h:Nat->Bool} {l:Tre} {BL:Nat->Nat->Nat}
def Xr (l:Tre) (BL:Nat->Nat->Nat) (k i:Nat):Nd:=((ndT l k i).1,(ndT l k i).2.1.map (fun x=>((BL (k - 1) (x.toNat - 1):Nat):Int)),(ndT l k i).2.2.1,(ndT l k i).2.2.2.1,(ndT l k i).2.2.2.2)
structure Spot (c:Cfg) (N:Nat) (K:Nat->List Int) (h:Nat->Bool) (b:Nat) (nd:Nd):Prop where
 b1:1<=b
 bN:b<N
 hb:h b=true
 rt:Wm c U8 nd=true
 kb:K b=Ub c nd
 kd:∀ x∈nd.2.1,0<=x/\x<4294967296
 sm:SmallN nd
theorem Spot.upd {b b':Nat} {nd:Nd} {v:TU} (S:Spot c N K h b nd) (e:b≠b'):Spot c N (upd K b' v) (upd h b' true) b nd:=⟨S.b1,S.bN,by rw [Yg e]; exact S.hb,S.rt,by rw [Yg e]; exact S.kb,S.kd,S.sm⟩
structure RowsB (c:Cfg) (N:Nat) (K:Nat->List Int) (h:Nat->Bool) (l:Tre) (kk:Nat) (BL:Nat->Nat->Nat):Prop where
 sp:∀ k j,k<kk->j<wd l k->Spot c N K h (BL k j) (Xr l BL k j)
 inj:∀ k j k' j',k<kk->j<wd l k->k'<kk->j'<wd l k'->BL k j=BL k' j'->k=k'/\j=j'
structure RowAt (c:Cfg) (N:Nat) (K:Nat->List Int) (h:Nat->Bool) (l:Tre) (kk:Nat) (BL:Nat->Nat->Nat) (nw:List Nat):Prop where
 R:RowsB c N K h l kk BL
 sp:∀ j,j<nw.length->Spot c N K h (nw.getD j 0) (Xr l BL kk j)
 nd:nw.Nodup
 out:∀ b∈nw,∀ k j,k<kk->j<wd l k->BL k j≠b
 held:∀ b,h b=true->b=0\/b∈nw\/∃ k j,k<kk/\j<wd l k/\BL k j=b
abbrev LR:=Int×Bool×Shf
def Zl3 (c:Cfg) (N B n:Nat) (l:Tre) (R:LR):Prop:=R.2.1=false\/(R.2.1=true/\∃ BL t L K h,t<=1000/\ShK c N B n t R.2.2 L 0 K h/\RowsB c N K h l l.length BL/\R.1=((BL (l.length - 1) 0:Nat):Int)/\∀ b,h b=true->b=0\/∃ k j,k<l.length/\j<wd l k/\BL k j=b)
abbrev LD0 (k:Nat) (l:Tre) (s:Shf) (at':List Int) (kk:Int):Option LR:=Q130.l0 k l s.1 s.2.1.1 s.2.1.2.2.2.2 s.2.2.1 s.2.1.2.1 s.2.1.2.2.1 s.2.1.2.2.2.1 s.2.2.2 at' kk
abbrev LD1 (k:Nat) (l:Tre) (at':List Int) (kk:Int) (s:Shf) (nw:TU) (i:Int):Option LR:=Q130.l1 k l at' kk s.1 s.2.1.1 s.2.1.2.2.2.2 s.2.2.1 s.2.1.2.1 s.2.1.2.2.1 s.2.1.2.2.2.1 s.2.2.2 nw i
abbrev LD2 (k:Nat) (l:Tre) (at':List Int) (kk:Int) (s:Shf) (nw:TU) (i:Int) (own:TU) (j:Int) (b:Bool):Option LR:=Q130.l2 k l at' kk s.1 s.2.1.1 s.2.1.2.2.2.2 s.2.2.1 s.2.1.2.1 s.2.1.2.2.1 s.2.1.2.2.2.1 s.2.2.2 nw i own j b
abbrev LD3 (k:Nat) (l:Tre) (at':List Int) (kk:Int) (s:Shf) (nw:TU) (i:Int) (own:TU) (j:Int):Option LR:=Q130.l3 k l at' kk s.1 s.2.1.1 s.2.1.2.2.2.2 s.2.2.1 s.2.1.2.1 s.2.1.2.2.1 s.2.1.2.2.2.1 s.2.2.2 nw i own j
def B1 (BL:Nat->Nat->Nat) (k w:Nat):List Int:=(List.range w).map fun j=>((BL k j:Nat):Int)
theorem Zkb {BL:Nat->Nat->Nat} {k w j:Nat} (h:j<w):(B1 BL k w).getD j default=((BL k j:Nat):Int):=by
 unfold B1;rw [List.getD_eq_getElem?_getD,List.getElem?_map,List.getElem?_range h]; rfl
theorem Zmb {LO HI:Nat->Nat->List UInt8} (G:Gro l LO HI) {k i:Nat} (hk:k<l.length) (hi:i<wd l k) (j:Nat) (hj:j<(ndT l k i).2.1.length):∃ y:Nat,(ndT l k i).2.1.getD j default=((y+1:Nat):Int)/\1<=k/\y<wd l (k - 1):=by
 cases k with
 | zero=>rw [(G.leaf i hi).2.1] at hj; exact absurd hj (Nat.not_lt_zero _)
 | succ k=>
  have nd:=G.nd hk hi;have hs:=Vx (row:=l.getD (k+1) default) hi;have hm:=Zaf (row:=l.getD (k+1) default) (i:=i+1) (j:=wd l (k+1)) hi (Nat.le_refl _);rw [(G.row k hk).2.1,hs] at hm;have hm':stR (l.getD (k+1) default) i+(ndT l (k+1) i).2.1.length<=wd l k:=hm;exact ⟨stR (l.getD (k+1) default) i+j,by rw [nd.kid,List.getD_eq_getElem?_getD,List.getElem?_map,List.getElem?_range hj]; rfl,by omega,by show _<wd l k; omega⟩
theorem Zkj {row:List Nd} {i:Nat} (h:i<row.length):∃ a b,Vt row=a ++ ((row.getD i default).2.2.2.2 ++ b):=by
 refine ⟨Vt (row.take i),Vt (row.drop (i+1)),?_⟩;have e:row=row.take i ++ row.getD i default :: row.drop (i+1):=by rw [<- Yn h,List.take_append_drop]
 conv=>lhs; rw [e]
 unfold Vt;rw [List.flatMap_append,List.flatMap_cons]
theorem Zr0 (hc:OkC c) (T:GoodT c l) {LO HI:Nat->Nat->List UInt8} (G:Gro l LO HI) {k i:Nat} (hk:k<l.length) (hi:i<wd l k) (BL:Nat->Nat->Nat):SmallN (Xr l BL k i):=by
 cases k with
 | zero=>
  obtain ⟨_,g2,g3,g4,_⟩:=G.leaf i hi;obtain ⟨a,b,e⟩:=Zkj hi;have hl:=T.lvs.2.1;rw [e,lA,lA] at hl;refine ⟨by unfold Xr; rw [g2]; exact Nat.zero_le _,by unfold Xr; rw [g3]; exact Nat.zero_le _,by unfold Xr; rw [g4]; exact Nat.zero_le _,by show (ndT l 0 i).2.2.2.2.length<=150; unfold ndT; omega,fun p hp=>?_,fun p hp=>?_,fun p hp=>?_⟩
  ·unfold Xr at hp; rw [g3] at hp; cases hp
  ·unfold Xr at hp; rw [g4] at hp; cases hp
  ·have:=Zdy hc (T.lvs.2.2 p (by rw [e]; exact List.mem_append.2 (.inr (List.mem_append.2 (.inl hp)))));omega
 | succ k=>
  have nd:=G.nd hk hi;have hf:=nd.fan;have hp:=nd.pvl;obtain ⟨b1,b2,b3⟩:=T.buf (k+1) i (by omega) hk hi;refine ⟨by unfold Xr; rw [length_map]; omega,by show (ndT l (k+1) i).2.2.1.length<=80; omega,by show (ndT l (k+1) i).2.2.2.1.length<=150; omega,by show (ndT l (k+1) i).2.2.2.2.length<=150; rw [nd.prs]; exact Nat.zero_le _,fun p hp=>?_,fun p hp=>?_,fun p hp=>?_⟩
  ·obtain ⟨j,hj,e⟩:=Vc hp [];rw [<- e];exact (nd.pv j hj).2.2
  ·have:=Zdy hc (b3 p hp).1;omega
  ·have hp':p∈(ndT l (k+1) i).2.2.2.2:=hp;rw [nd.prs] at hp'; cases hp'
theorem Zko (T:GoodT c l) {LO HI:Nat->Nat->List UInt8} (G:Gro l LO HI) {kk i:Nat} (hk:kk<l.length) (hi:i<wd l kk) {at':List Int} (hat:1<=kk->at'=B1 BL (kk - 1) (wd l (kk - 1))) (s:Shf) (nw:TU):∀(m j:Nat) (own:TU),j+m=(ndT l kk i).2.1.length->own=((ndT l kk i).2.1.take j).map (fun x=>((BL (kk - 1) (x.toNat - 1):Nat):Int))->∀ k,LD3 (k+m+1) l at' (kk:Int) s nw (i:Int) own (j:Int)=LD2 k l at' (kk:Int) s nw (i:Int) ((ndT l kk i).2.1.map fun x=>((BL (kk - 1) (x.toNat - 1):Nat):Int)) (((ndT l kk i).2.1.length:Nat):Int) false
 | 0,j,own,hj,ho,k=>by
  have e:gt (gt l (kk:Int)) (i:Int)=ndT l kk i:=by rw [Zx,Zx]; rfl
  have hj':j=(ndT l kk i).2.1.length:=by omega
  subst hj';rw [List.take_length] at ho;subst ho;show Q130.l3 (k+1) l at' _ _ _ _ _ _ _ _ _ _ _ _ _=_;rw [Q130.l3,e,vS,dF]
 | m+1,j,own,hj,ho,k=>by
  have e:gt (gt l (kk:Int)) (i:Int)=ndT l kk i:=by rw [Zx,Zx]; rfl
  obtain ⟨y,ey,y1,y2⟩:=Zmb G hk hi j (by omega);have hw:=T.wb (kk - 1) (by omega);have ha:=hat y1;have ol:own.length=j:=by rw [ho,length_map,length_take]; omega
  have hl:(ndT l kk i).2.1.length<=64:=by
   obtain ⟨z,rfl⟩:∃ z,kk=z+1:=⟨kk - 1,by omega⟩;exact (G.nd hk hi).fan
  have ih:=Zko T G hk hi hat s nw m (j+1) (own ++ [((BL (kk - 1) y:Nat):Int)]) (by omega) (by
   rw [Zn4 (show j<(ndT l kk i).2.1.length by omega),List.map_append,<- ho,ey];rfl) k
  show Q130.l3 ((k+m+1)+1) l at' _ _ _ _ _ _ _ _ _ _ _ _ _=_;rw [Q130.l3,e,iP,iO,Zx,ey,show ((y+1:Nat):Int) - 1=(y:Int) by omega,Zlw (by omega),iT (by rw [ha]; unfold B1; rw [length_map,length_range]; omega),Zx,show at'.getD y default=((BL (kk - 1) y:Nat):Int) by rw [ha,Zkb y2],iT (by rw [ol]; simp; omega),wS2];exact ih
theorem RowAt.done {kk:Nat} {nw:List Nat} (S:RowAt c N K h l kk BL nw) (hl:nw.length=wd l kk) {LO HI:Nat->Nat->List UInt8} (G:Gro l LO HI) (hk:kk<l.length):RowsB c N K h l (kk+1) (upd BL kk fun j=>nw.getD j 0):=by
 have old:∀ k,k<kk->upd BL kk (fun j=>nw.getD j 0) k=BL k:=fun k h=>Yg;refine ⟨fun k j hk' hj=>?_,fun k j k' j' hk1 hj hk2 hj' e=>?_⟩
 ·by_cases e:k<kk
  ·have:=S.R.sp k j e hj;unfold Xr at this ⊢;rw [old k e,old (k - 1) (by omega)];exact this
  ·have e2:k=kk:=by omega
   subst e2;have:=S.sp j (by omega);rw [Z8];unfold Xr at this ⊢;cases k with
   | zero=>rw [(G.leaf j hj).2.1] at this ⊢; exact this
   | succ k=>rw [old (k+1 - 1) (by omega)]; exact this
 ·by_cases e1:k<kk
  ·rw [old k e1] at e;by_cases e2:k'<kk
   ·rw [old k' e2] at e; exact S.R.inj k j k' j' e1 hj e2 hj' e
   ·have e3:k'=kk:=by omega
    subst e3;rw [Z8] at e;exact absurd e (S.out _ (Xj (by omega)) k j e1 hj)
  ·have e3:k=kk:=by omega
   subst e3;rw [Z8] at e;by_cases e2:k'<k
   ·rw [old k' e2] at e;exact absurd e.symm (S.out _ (Xj (by omega)) k' j' e2 hj')
   ·have e4:k'=k:=by omega
    subst e4;rw [Z8] at e;refine ⟨rfl,?_⟩;rw [Y0 (by omega),Y0 (by omega)] at e;exact (List.getElem_inj S.nd).1 e
theorem Zqm (g:Geo c N B n) (T:GoodT c l) {LO HI:Nat->Nat->List UInt8} (G:Gro l LO HI) {kk:Nat} (hk:kk<l.length) {at':List Int} (hat:1<=kk->at'=B1 BL (kk - 1) (wd l (kk - 1)))
  (H:∀(s:Shf) (L:List Nat) (t:Nat) (K:Nat->List Int) (h:Nat->Bool) (BL:Nat->Nat->Nat),ShK c N B n t s L 0 K h->t<=151*(kk+1)->RowsB c N K h l (kk+1) BL->(∀ b,h b=true->b=0\/∃ k j,k<kk+1/\j<wd l k/\BL k j=b)->∃ R,Ev (fun k=>LD0 k l s (B1 BL kk (wd l kk)) ((kk+1:Nat):Int)) R/\Zl3 c N B n l R) :
  ∀(m:Nat) (nw:List Nat) (s:Shf) (L:List Nat) (t:Nat) (K:Nat->List Int) (h:Nat->Bool),nw.length+m=wd l kk->ShK c N B n t s L 0 K h->t<=151*kk+nw.length->RowAt c N K h l kk BL nw->∃ R,Ev (fun k=>LD1 k l at' (kk:Int) s (nw.map fun(b:Nat)=>(b:Int)) ((nw.length:Nat):Int)) R/\Zl3 c N B n l R:=by
 have hok:=Br g.ok;have hw:=T.wb kk hk;have h6:=T.len;intro m
 induction m with
 | zero=>
  intro nw s L t K h hm S ht P;have e:nw.map (fun(b:Nat)=>(b:Int))=B1 (upd BL kk fun j=>nw.getD j 0) kk (wd l kk):=by
   unfold B1;refine List.ext_getElem? fun j=>?_;rw [List.getElem?_map,List.getElem?_map];by_cases q:j<nw.length
   ·rw [List.getElem?_range (by omega),List.getElem?_eq_getElem q,Z8];show some _=some (((nw.getD j 0:Nat)):Int);rw [Y0 q]
   ·rw [List.getElem?_eq_none (by omega),List.getElem?_eq_none (by rw [length_range]; omega)]; rfl
  obtain ⟨R,⟨b0,hb⟩,r⟩:=H s L t K h (upd BL kk fun j=>nw.getD j 0) S (by omega) (P.done (by omega) G hk) fun b hb=>by
   rcases P.held b hb with z | z | ⟨k,j,z1,z2,z3⟩
   ·exact .inl z
   ·obtain ⟨j,hj,ej⟩:=Vc z 0;exact .inr ⟨kk,j,by omega,by omega,by rw [Z8]; exact ej⟩
   ·exact .inr ⟨k,j,by omega,z2,by rw [Yg]; exact z3⟩
  refine ⟨R,⟨b0+1,fun k hk2=>?_⟩,r⟩;obtain ⟨k,rfl⟩:=kS1 k;have hb':=hb k (by omega);show Q130.l1 (k+1) l at' _ _ _ _ _ _ _ _ _ _ _=_;rw [Q130.l1,iO,Zx,iF (by unfold wd at hm; simp only [dE]; omega),wS2,e];exact hb'
 | succ m ih=>
  intro nw s L t K h hm S ht P;have hi:nw.length<wd l kk:=by omega
  have sm:=Zr0 hok T G hk hi BL;have kd:∀ x∈(Xr l BL kk nw.length).2.1,0<=x/\x<4294967296:=fun x hx=>by
   obtain ⟨z,hz,rfl⟩:=List.mem_map.1 hx;obtain ⟨j,hj,e⟩:=Vc hz default;obtain ⟨y,ey,y1,y2⟩:=Zmb G hk hi j hj;rw [<- e,ey,show ((y+1:Nat):Int).toNat - 1=y by omega];have:=(P.R.sp (kk - 1) y (by omega) y2).bN;have:=g.N5;omega
  have l3:=Zko T G hk hi hat s (nw.map fun(b:Nat)=>(b:Int)) (ndT l kk nw.length).2.1.length 0 [] (by omega) rfl;have hi2:=hi;unfold wd at hi2;have enter:∀(r:Int×Int×Shf),Ev (fun k=>Q89.f k s (Xr l BL kk nw.length)) r->∀ R,Ev (fun k=>if (!decide (r.2.1=0))=true then some (0,false,r.2.2) else LD1 k l at' (kk:Int) r.2.2 (nw.map (fun(b:Nat)=>(b:Int)) ++ [r.1]) ((nw.length+1:Nat):Int)) R->Ev (fun k=>LD1 k l at' (kk:Int) s (nw.map fun(b:Nat)=>(b:Int)) ((nw.length:Nat):Int)) R:=fun r hr R hR=>by
   obtain ⟨b1,e1⟩:=hr;obtain ⟨b2,e2⟩:=hR;refine ⟨b1+b2+(ndT l kk nw.length).2.1.length+3,fun k hk2=>?_⟩;obtain ⟨k,rfl⟩:∃ k2,k=k2+1+(ndT l kk nw.length).2.1.length+1+1:=⟨k - 3 - (ndT l kk nw.length).2.1.length,by omega⟩;have hl3:=l3 (k+1);have e:gt (gt l (kk:Int)) ((nw.length:Nat):Int)=ndT l kk nw.length:=by rw [Zx,Zx]; rfl
   show Q130.l1 ((k+1+(ndT l kk nw.length).2.1.length+1)+1) l at' _ _ _ _ _ _ _ _ _ _ _=_;rw [Q130.l1,iO,Zx,iP,iO];refine hl3.trans ?_;show Q130.l2 (k+1) l at' _ _ _ _ _ _ _ _ _ _ _ _ _ _=_;rw [Q130.l2,e];show Option.bind (Q89.f k s (Xr l BL kk nw.length)) _=_;rw [show Q89.f k s (Xr l BL kk nw.length)=_ from e1 k (by omega),bS];have e2':=e2 k (by omega);dsimp only at e2';by_cases q0:(!decide (r.2.1=0))=true
   ·rw [iT q0] at e2' ⊢; exact e2'
   ·rw [iF q0] at e2' ⊢;rw [iV,wS2];exact e2'
  rcases Zs1 g S (by omega) ⟨sm,kd⟩ with ⟨_,hm1⟩ | ⟨_,_,hm1⟩ | ⟨hr,b,s',L',b1,bN,bf,_,hm1,S',_⟩
  ·exact ⟨_,enter _ hm1 _ ⟨0,fun k _=>iU⟩,.inl rfl⟩
  ·exact ⟨_,enter _ hm1 _ ⟨0,fun k _=>iU⟩,.inl rfl⟩
  ·have ne:∀ x,h x=true->x≠b:=fun x hx e=>by rw [e,bf] at hx; cases hx
   have P':RowAt c N (upd K b (Ub c (Xr l BL kk nw.length))) (upd h b true) l kk BL (nw ++ [b]):=by
    refine ⟨⟨fun k j z1 z2=>(P.R.sp k j z1 z2).upd (ne _ (P.R.sp k j z1 z2).hb),P.R.inj⟩,fun j hj=>?_,?_,fun y hy k j z1 z2=>?_,fun y hy=>?_⟩
    ·rw [lA] at hj;by_cases q:j<nw.length
     ·rw [Yk q]; exact (P.sp j q).upd (ne _ (P.sp j q).hb)
     ·have ej:j=nw.length:=by simp at hj; omega
      rw [Yp ej,ej];exact ⟨b1,bN,Z8 _ _ _,hr,Z8 _ _ _,kd,sm⟩
    ·rw [List.nodup_append];refine ⟨P.nd,by simp,fun y hy z hz=>?_⟩;rw [List.mem_singleton.1 hz];obtain ⟨j,hj,ej⟩:=Vc hy 0;have:=ne _ (P.sp j hj).hb
     rwa [ej] at this
    ·rcases List.mem_append.1 hy with z | z
     ·exact P.out y z k j z1 z2
     ·rw [List.mem_singleton.1 z]; exact ne _ (P.R.sp k j z1 z2).hb
    ·by_cases q:y=b
     ·exact .inr (.inl (by rw [q]; simp))
     ·rw [Yg q] at hy;rcases P.held y hy with z | z | z
      ·exact .inl z
      ·exact .inr (.inl (List.mem_append.2 (.inl z)))
      ·exact .inr (.inr z)
   obtain ⟨R,hR,r⟩:=ih (nw ++ [b]) s' L' (t+1) _ _ (by simp; omega) S' (by simp; omega) P';refine ⟨R,enter _ hm1 R ?_,r⟩;obtain ⟨b0,hb⟩:=hR;refine ⟨b0,fun k hk2=>?_⟩;have hb':=hb k hk2;rw [List.map_append,lA] at hb';show (if (!decide ((0:Int)=0))=true then _ else _)=_
   rw [vS];exact hb'
theorem Zqc (g:Geo c N B n) (T:GoodT c l) {LO HI:Nat->Nat->List UInt8} (G:Gro l LO HI):∀(m kk:Nat) (s:Shf) (L:List Nat) (t:Nat) (K:Nat->List Int) (h:Nat->Bool) (BL:Nat->Nat->Nat) (at':List Int),kk+m=l.length->ShK c N B n t s L 0 K h->t<=151*kk->RowsB c N K h l kk BL->(∀ b,h b=true->b=0\/∃ k j,k<kk/\j<wd l k/\BL k j=b)->(1<=kk->at'=B1 BL (kk - 1) (wd l (kk - 1)))->∃ R,Ev (fun k=>LD0 k l s at' (kk:Int)) R/\Zl3 c N B n l R:=by
 have hne:=G.ne;have h6:=T.len;intro m
 induction m with
 | zero=>
  intro kk s L t K h BL at' hm S ht P hh hat
  have ek:kk=l.length:=by omega
  subst ek;have ha:=hat hne;have top:=T.top;have hl:at'.length=1:=by rw [ha]; unfold B1; rw [length_map,length_range,top]
  refine ⟨(((BL (l.length - 1) 0:Nat):Int),true,s),⟨1,fun k hk=>?_⟩,.inr ⟨rfl,BL,t,L,K,h,by omega,S,P,rfl,hh⟩⟩;obtain ⟨k,rfl⟩:=kS1 k;show Q130.l0 (k+1) l _ _ _ _ _ _ _ _ at' _=_;rw [Q130.l0,vS,iO,show gt at' 0=at'.getD 0 default from Zx at' 0,ha,Zkb (by omega)]
 | succ m ih=>
  intro kk s L t K h BL at' hm S ht P hh hat
  obtain ⟨R,⟨b0,hb⟩,r⟩:=Zqm g T G (kk:=kk) (by omega) hat (fun s L t K h BL' S' ht' P' hh'=>ih (kk+1) s L t K h BL' _ (by omega) S' ht' P' hh' fun _=>rfl) (wd l kk) [] s L t K h (by simp) S (by simpa using ht) ⟨P,fun j hj=>absurd hj (Nat.not_lt_zero _),List.nodup_nil,fun b hb=>by simp at hb,fun b hb=>by
   rcases hh b hb with z | z
   ·exact .inl z
   ·exact .inr (.inr z)⟩
  refine ⟨R,⟨b0+1,fun k hk=>?_⟩,r⟩;obtain ⟨k,rfl⟩:=kS1 k;show Q130.l0 (k+1) l _ _ _ _ _ _ _ _ at' _=_;rw [Q130.l0,iP];exact hb k (by omega)
end
theorem Znc (c:Cfg) {k:Nat} (hk:2000<k):Q129.f k c=some (okB c && (decide (c.2.1<=3000) && decide (c.1<=400))):=by
 unfold Q129.f;rw [Zmh c hk,bS];cases okB c with
 | false=>rw [iF (by decide)]; rfl
 | true=>
  rw [iT rfl];by_cases q:c.2.1<=3000
  ·rw [iT (dT q),dT q]; rfl
  ·rw [iF (by simpa using q),dF q]; rfl
theorem Zs8 {c:Cfg} (h:(okB c && (decide (c.2.1<=3000) && decide (c.1<=400)))=true):∃ N B n:Nat,Geo c N B n/\N<=400/\B<=3000:=by
 simp only [Bool.and_eq_true,dE] at h;obtain ⟨hok,h1,h2⟩:=h;have hc:=hok;unfold okB at hc;simp only [Bool.and_eq_true,dE] at hc;obtain ⟨_,hN,hn,hB,_⟩:=hc;obtain ⟨N,eN⟩:=Int.eq_ofNat_of_zero_le (show 0<=c.1 by omega);obtain ⟨B,eB⟩:=Int.eq_ofNat_of_zero_le (show 0<=c.2.1 by omega);obtain ⟨n,en⟩:=Int.eq_ofNat_of_zero_le (show 0<=c.2.2.1 by omega);have hNB:N*B<=400*3000:=Nat.mul_le_mul (by omega) (by omega);exact ⟨N,B,n,⟨hok,⟨by omega,by omega,by omega,by omega,by omega⟩,by omega,by omega,by omega,eN,eB,en⟩,by omega,by omega⟩
abbrev SR:=Option Shf×Int×Tre×Bool
structure StdI (c:Cfg) (s:Shf) (root:Int) (l:Tre) (N B n t:Nat) (L:List Nat) (K:Nat->List Int) (h:Nat->Bool) (BL:Nat->Nat->Nat):Prop where
 g:Geo c N B n
 N4:N<=400
 T:GoodT c l
 t1:t<=1000
 S:ShK c N B n t s L 0 K h
 P:RowsB c N K h l l.length BL
 rt:root=((BL (l.length - 1) 0:Nat):Int)
 held:∀ b,h b=true->b=0\/∃ k j,k<l.length/\j<wd l k/\BL k j=b
def Zax (c:Cfg) (R:SR):Prop:=R.2.2.2=false\/(R.2.2.2=true/\∃ s N B n t L K h BL,R.1=some s/\StdI c s R.2.1 R.2.2.1 N B n t L K h BL)
section
variable {c:Cfg} {N B n:Nat} {x:Spc}
theorem Zjm (g:Geo c N B n) (hN:N<=400) (hx:∀ y∈x.2.2.2,0<=y/\y<256) (hd:∀ y∈x.2.2.1,0<=y/\y<256) {ch:Chn} (hc:ChI n ch []):∀(m j:Nat),j+m=n->∃ R,Ev (fun k=>Q132.l2 k c x ((B:Int),List.replicate (N*B) 0,(0,0)) ch ((List.range j).map fun(i:Nat)=>(i:Int)) (j:Int)) R/\Zax c R
 | 0,j,hj=>by
  have e:j=n:=by omega
  subst e;have h64:=g.z.h64;obtain ⟨p,ep,bp⟩:=Zov g.N5.1 g.N5.2;obtain ⟨l,⟨b1,e1⟩,T⟩:=Zq7 (Br g.ok) hx hd;obtain ⟨LO,HI,G⟩:=T.gro;have hne:=G.ne;obtain ⟨R,⟨b2,e2⟩,r⟩:=Zqc g T G l.length 0 (Zfi c N B j ch p) [] 0 _ _ (fun _ _=>0) [] (by omega) (Zt1 g hc bp) (by omega) ⟨fun k j h=>absurd h (Nat.not_lt_zero _),fun k j _ _ h=>absurd h (Nat.not_lt_zero _)⟩ (fun b hb=>by
   by_cases q:b=0
   ·exact .inl q
   ·rw [Yg q] at hb; cases hb) (fun h=>by omega)
  have eb:=Jw (s:=(0,0)) (N:=N) (n:=B) g.z.hB (img:=List.replicate (N*B) 0) (by simp) g.z.hNB;refine ⟨(some R.2.2,R.1,l,R.2.1),⟨b1+b2+1,fun k hk=>?_⟩,?_⟩
  ·obtain ⟨k,rfl⟩:=kS1 k;have e2':=e2 k (by omega);show Q132.l2 (k+1) c x _ _ _ _=_;rw [Q132.l2,g.en,vS,eb,bS,g.eN,vS,Q55.f,bS,g.eB,vS,ep,bS];dsimp only [Vn];rw [iU,show Q131.f k c x=_ from e1 k (by omega),bS,tN];have e3:Q130.f k (c,(((B:Int),List.replicate (N*B) 0,(0,0)),List.replicate j (0,[],false,0),[],(List.range j).map (fun(i:Nat)=>(i:Int)),ch),p,0) l=some R:=e2';rw [e3,bS]
  ·rcases r with q | ⟨q,BL,t,L,K,h,t1,S,P,rt,hh⟩
   ·exact .inl q
   ·exact .inr ⟨q,R.2.2,N,B,j,t,L,K,h,BL,rfl,g,hN,T,t1,S,P,rt,hh⟩
 | m+1,j,hj=>by
  have h64:=g.z.h64;obtain ⟨R,⟨k0,hk⟩,r⟩:=Zjm g hN hx hd hc m (j+1) (by omega);refine ⟨R,⟨k0+1,fun k hk2=>?_⟩,r⟩;obtain ⟨k,rfl⟩:=kS1 k;have hx:=hk k (by omega);show Q132.l2 (k+1) c x _ _ _ _=_;rw [Q132.l2,g.en,iP,iV,wS2];dsimp only at hx;rw [List.range_succ,List.map_append] at hx;exact hx
theorem Zo5 (g:Geo c N B n) (hN:N<=400) (hB:B<=3000) (hx:∀ y∈x.2.2.2,0<=y/\y<256) (hd:∀ y∈x.2.2.1,0<=y/\y<256):∃ R,(∀(a:Int) (b:Bool),Ev (fun k=>Q132.l1 k c x a b) R)/\Zax c R:=by
 obtain ⟨ch,ec,hch⟩:=Zt5 (n:=n) g.z.hn g.z.h64;obtain ⟨R,⟨k0,hk⟩,r⟩:=Zjm g hN hx hd hch n 0 (by omega);have eb:=Jw (s:=(0,0)) (N:=N) (n:=B) g.z.hB (img:=List.replicate (N*B) 0) (by simp) g.z.hNB;have h5:=g.N5;have h8:=g.n8;have h64:=g.z.h64;refine ⟨R,fun a b=>⟨k0+1,fun k hk2=>?_⟩,r⟩;obtain ⟨k,rfl⟩:=kS1 k;have hx:=hk k (by omega);show Q132.l1 (k+1) c x a b=_;rw [Q132.l1,g.eN,g.eB,Zrm ⟨g.N5.1,g.N5.2,g.z.hB,g.hB⟩,bS];dsimp only [Vn];rw [iU,show Q49.f c=_ from Zeq c,iT g.ok,bS,vS,eb,bS,iN,g.en,iN,iN,ec,bS];dsimp only [Vn];rw [iU,iO];exact hx
theorem Zo6 {R:SR} (r:Zax c R) (hR:∀(a:Int) (b:Bool),Ev (fun k=>Q132.l1 k c x a b) R):∀(m i:Nat),i+m=100->∃ R,Ev (fun k=>Q132.l3 k c x (i:Int)) R/\Zax c R:=by
 have stop:∀ i:Nat,¬ (i<x.2.1.length/\i<100)->∃ R,Ev (fun k=>Q132.l3 k c x (i:Int)) R/\Zax c R:=fun i h=>by
  obtain ⟨b0,hb⟩:=hR (i:Int) false;refine ⟨R,⟨b0+2,fun k hk=>?_⟩,r⟩;obtain ⟨k,rfl⟩:=kS2 k;show Q132.l3 (k+2) c x (i:Int)=_;rw [Q132.l3];by_cases q:i<x.2.1.length
  ·rw [iP,dF,Q132.l4,vS]; exact hb k (by omega)
  ·rw [iN,Q132.l4,vS]; exact hb k (by omega)
 intro m
 induction m with
 | zero=>intro i hi; exact stop i (by omega)
 | succ m ih=>
  intro i hi;by_cases q:i<x.2.1.length
  ·have step:∀ k,Q132.l3 (k+2) c x (i:Int)=if decide (200<((x.2.1.getD i default).1.length:Int))=true then some (none,0,[],false) else Q132.l3 k c x ((i+1:Nat):Int):=fun k=>by
    rw [Q132.l3,iP,dT,Q132.l4,iT rfl,iO,Zx,wS2]
   by_cases z:200<((x.2.1.getD i default).1.length:Int)
   ·refine ⟨(none,0,[],false),⟨2,fun k hk=>?_⟩,.inl rfl⟩;obtain ⟨k,rfl⟩:=kS2 k;show Q132.l3 (k+2) c x (i:Int)=_;rw [step,iT (dT z)]
   ·obtain ⟨R',⟨b0,hb⟩,r'⟩:=ih (i+1) (by omega);refine ⟨R',⟨b0+2,fun k hk=>?_⟩,r'⟩;obtain ⟨k,rfl⟩:=kS2 k;show Q132.l3 (k+2) c x (i:Int)=_;rw [step,iF (by simpa using z)];exact hb k (by omega)
  ·exact stop i (by omega)
theorem Zo3 {R:SR} (r:Zax c R) (hR:Ev (fun k=>Q132.l3 k c x 0) R):∀(m i:Nat),i+m=150->∃ R,Ev (fun k=>Q132.l5 k c x (i:Int)) R/\Zax c R:=by
 have stop:∀ i:Nat,¬ (i<x.1.length/\i<150)->∃ R,Ev (fun k=>Q132.l5 k c x (i:Int)) R/\Zax c R:=fun i h=>by
  obtain ⟨b0,hb⟩:=hR;refine ⟨R,⟨b0+3,fun k hk=>?_⟩,r⟩;obtain ⟨k,rfl⟩:=kS3 k;show Q132.l5 (k+3) c x (i:Int)=_;rw [Q132.l5];by_cases q:i<x.1.length
  ·rw [iP,dF,Q132.l6,vS,Q132.l0]; exact hb k (by omega)
  ·rw [iN,Q132.l6,vS,Q132.l0]; exact hb k (by omega)
 intro m
 induction m with
 | zero=>intro i hi; exact stop i (by omega)
 | succ m ih=>
  intro i hi;by_cases q:i<x.1.length
  ·have step:∀ k,Q132.l5 (k+2) c x (i:Int)=if decide (200<((x.1.getD i default).1.length:Int))=true then some (none,0,[],false) else Q132.l5 k c x ((i+1:Nat):Int):=fun k=>by
    rw [Q132.l5,iP,dT,Q132.l6,iT rfl,iO,Zx,wS2]
   by_cases z:200<((x.1.getD i default).1.length:Int)
   ·refine ⟨(none,0,[],false),⟨2,fun k hk=>?_⟩,.inl rfl⟩;obtain ⟨k,rfl⟩:=kS2 k;show Q132.l5 (k+2) c x (i:Int)=_;rw [step,iT (dT z)]
   ·obtain ⟨R',⟨b0,hb⟩,r'⟩:=ih (i+1) (by omega);refine ⟨R',⟨b0+2,fun k hk=>?_⟩,r'⟩;obtain ⟨k,rfl⟩:=kS2 k;show Q132.l5 (k+2) c x (i:Int)=_;rw [step,iF (by simpa using z)];exact hb k (by omega)
  ·exact stop i (by omega)
theorem Zr1 (hx:∀ y∈x.2.2.2,0<=y/\y<256) (hd:∀ y∈x.2.2.1,0<=y/\y<256):∃ R,Ev (fun k=>Q132.f k c x) R/\Zax c R:=by
 by_cases light:(okB c && (decide (c.2.1<=3000) && decide (c.1<=400)))=true
 ·obtain ⟨N,B,n,g,hN,hB⟩:=Zs8 light;obtain ⟨R,hR,r⟩:=Zo5 g hN hB hx hd;obtain ⟨R,hR,r⟩:=Zo6 r hR 100 0 (by omega);obtain ⟨R,⟨b0,hb⟩,r⟩:=Zo3 r hR 150 0 (by omega);refine ⟨R,⟨b0+3000,fun k hk=>?_⟩,r⟩;show Q132.f k c x=_;unfold Q132.f;rw [Znc c (by omega),light,bS,vS];exact hb k (by omega)
 ·refine ⟨(none,0,[],false),⟨3000,fun k hk=>?_⟩,.inl rfl⟩;show Q132.f k c x=some (none,0,[],false);unfold Q132.f;rw [Znc c (by omega),Bool.eq_false_iff.2 light,bS,iT (show (!false)=true from rfl)]
end
theorem Zpb {l:List Msg} (h:V9 l=true):∀ {i j:Nat},i<j->j<l.length->Op.bytesLess (l.getD i default).1 (l.getD j default).1=true:=by
 have step:∀ i,i+1<l.length->V9 (l.drop i)=true->Op.bytesLess (l.getD i default).1 (l.getD (i+1) default).1=true/\V9 (l.drop (i+1))=true:=fun i hi hr=>by
  rw [Zlb hi,Bool.and_eq_true] at hr;exact hr
 have all:∀ i,i<l.length->V9 (l.drop i)=true:=fun i=>by
  induction i with
  | zero=>intro _; simpa using h
  | succ i ih=>intro hi; exact (step i hi (ih (by omega))).2
 intro i j hij hj
 induction j with
 | zero=>omega
 | succ j ih=>
  have one:=(step j hj (all j (by omega))).1;by_cases e:i=j
  ·subst e; exact one
  ·exact Yw (ih (by omega) (by omega)) one
def Zhh (l:List Msg) (x:TQ) (c:Nat):Prop:=c<=l.length/\(∀ j,j<c->Op.bytesLess (l.getD j default).1 x=true)/\∀ j,c<=j->j<l.length->Op.bytesLess (l.getD j default).1 x=false
theorem Bp (m:Msg) (x:TQ):Q15.f (m.1,m.2.1,m.2.2) x=some (Y6 m.1 x):=rfl
theorem Zl7 {l:List Msg} (hl:l.length<=1000000):Q95.f l=some l:=by
 unfold Q95.f;rw [iV];rfl
def Zmz (l:List Msg) (s:Sp) (f t:Nat):Prop:=f<=t/\t<=l.length/\∀ j,j<l.length->inS s (l.getD j default).1=decide (f<=j/\j<t)
theorem Ziy {l:List Msg} {s:Sp} {f t:Nat} (hs:emS s=false) (h1:Zhh l s.1 f) (h2:if s.2.2=true then t=l.length else Zhh l s.2.1 t):Zmz l s f t:=by
 obtain ⟨f1,f2,f3⟩:=h1;cases ht:s.2.2 with
 | true=>
  rw [ht,iT rfl] at h2;subst h2;refine ⟨f1,Nat.le_refl _,fun j hj=>?_⟩;by_cases q:j<f
  ·rw [dF]; simp only [inS,f2 j q,Bool.not_true,Bool.false_and]
  ·rw [dT]; simp only [inS,ht,f3 j (by omega) hj,Bool.not_false,Bool.true_and,Bool.true_or]
 | false=>
  rw [ht,vS] at h2;obtain ⟨t1,t2,t3⟩:=h2;have hlt:Op.bytesLess s.1 s.2.1=true:=by simpa [emS,ht] using hs
  refine ⟨?_,t1,fun j hj=>?_⟩
  ·rcases Nat.lt_or_ge t f with h | h
   ·have a:=f2 t h;have b:=t3 t (Nat.le_refl _) (by omega);rw [Yw a hlt] at b;cases b
   ·exact h
  ·by_cases q:j<f
   ·rw [dF]; simp only [inS,f2 j q,Bool.not_true,Bool.false_and]
   ·by_cases q2:j<t
    ·rw [dT]; simp only [inS,ht,f3 j (by omega) hj,t2 j q2,Bool.not_false,Bool.true_and,Bool.false_or]
    ·rw [dF]; simp only [inS,ht,f3 j (by omega) hj,t3 j (by omega) hj,Bool.not_false,Bool.true_and,Bool.false_or]
theorem Zag (k:Nat) (hk:3000<=k):Q137.f k=some true:=by
 obtain ⟨k,rfl⟩:∃ k2,k=k2+3000:=⟨k - 3000,by omega⟩;kernel_rfl
theorem Zej {α:Type} [Inhabited α] {l:List α} {p:α->Bool} {f t:Nat} (h1:f<=t) (h2:t<=l.length) (h:∀ j,j<l.length->p (l.getD j default)=decide (f<=j/\j<t)):l.filter p=(l.drop f).take (t - f):=by
 have e:l=l.take f ++ ((l.drop f).take (t - f) ++ l.drop t):=by
  rw [show l.drop t=(l.drop f).drop (t - f) by rw [List.drop_drop]; congr 1; omega,List.take_append_drop,List.take_append_drop]
 have a1:(l.take f).filter p=[]:=List.filter_eq_nil_iff.2 fun x hx=>by
  obtain ⟨j,hj,ej⟩:=Vc hx default;rw [length_take] at hj;rw [Zca (by omega)] at ej;rw [<- ej,h j (by omega),dF]; simp
 have a2:((l.drop f).take (t - f)).filter p=(l.drop f).take (t - f):=List.filter_eq_self.2 fun x hx=>by
  obtain ⟨j,hj,ej⟩:=Vc hx default;rw [length_take,length_drop] at hj;rw [Zca (by omega),Zch] at ej;rw [<- ej,h (f+j) (by omega),dT]
 have a3:(l.drop t).filter p=[]:=List.filter_eq_nil_iff.2 fun x hx=>by
  obtain ⟨j,hj,ej⟩:=Vc hx default;rw [length_drop] at hj;rw [Zch] at ej;rw [<- ej,h (t+j) (by omega),dF]; simp
 conv=>lhs; rw [e]
 rw [List.filter_append,List.filter_append,a1,a2,a3,List.nil_append,List.append_nil]
def Bi (l:List Msg) (s:Sp):List Msg:=l.filter fun m=>inS s m.1
theorem Zia {l:TJ} {x:TQ} {w i:Nat} (hw:Zhg l x w) (hi:i<=l.length) (hr:Ui l=true):inS (Wf l i) x=decide (i=w):=by
 obtain ⟨h1,h2,h3⟩:=hw;have e1:Op.bytesLess x (if 0<i then l.getD (i - 1) [] else [])=decide (w<i):=by
  by_cases h0:0<i
  ·rw [iT h0];by_cases q:w<i
   ·rw [h3 (i - 1) (by omega) (by omega),dT q]
   ·rw [h2 (i - 1) (by omega),dF q]
  ·rw [iF h0,Wt,dF]
 have e2:(decide (i=l.length) || Op.bytesLess x (if i=l.length then [] else l.getD i []))=decide (w<=i):=by
  by_cases h0:i=l.length
  ·rw [dT h0,Bool.true_or,dT]
  ·rw [iF h0,dF h0,Bool.false_or];by_cases q:w<=i
   ·rw [h3 i q (by omega),dT q]
   ·rw [h2 i (by omega),dF q]
 simp only [inS,Wf,e1,e2];by_cases a:w<i
 ·simp [a]; omega
 ·by_cases b:w<=i
  ·simp [show i=w by omega]
  ·simp [b]; omega
section
variable {c:Cfg} {N B n t q:Nat} {s:Shf} {L:List Nat} {K:Nat->List Int} {h:Nat->Bool} {l:Tre} {BL:Nat->Nat->Nat} {LO HI:Nat->Nat->List UInt8}
theorem Zpu (g:Geo c N B n) (S:ShK c N B n t s L q K h) (ht:t<=800000) {b:Nat} {nd:Nd} (P:Spot c N K h b nd):∃(s':Shf) (L':List Nat),Ev (fun k=>Q88.f k s (b:Int)) (nd,0,s')/\ShK c N B n (t+1) s' L' q K h/\MC.To 1 1 (Z6 s.2.1 L) (Z6 s'.2.1 L')/\(b=q->MC.To 0 0 (Z6 s.2.1 L) (Z6 s'.2.1 L')):=by
 have:=g.N5;have hb:=P.bN;obtain ⟨s',L',e,r⟩:=Ztn g S ht (i:=b) (by omega);rw [iT ⟨P.b1,hb⟩,P.kb,Zlh g.ok P.kd P.rt] at e;exact ⟨s',L',e,r⟩
theorem Zql (k:Nat) (hk:k+1<l.length) (x:TQ):dn l x (l.length - 1 - k)=kidI (ndT l (k+1) (dn l x (l.length - 1 - (k+1)))) x:=by
 rw [show l.length - 1 - k=(l.length - 1 - (k+1))+1 by omega,dn,show l.length - 1 - (l.length - 1 - (k+1))=k+1 by omega]
theorem Zlf (G:Gro l LO HI) {i:Nat} (hi:i<wd l 0):(Xr l BL 0 i).1=0/\(Xr l BL 0 i).2.2.2.1=[]:=⟨(G.leaf i hi).1,(G.leaf i hi).2.2.2.1⟩
end
def Zrf (l:List Pr) (s:Sp) (f t:Nat):Prop:=f<=t/\t<=l.length/\∀ j,j<l.length->inS s (l.getD j default).1=decide (f<=j/\j<t)
theorem Zek {l:List Pr} {s:Sp} {f t:Nat} (hs:emS s=false) (h1:AtK pk l s.1 f) (h2:if s.2.2=true then t=l.length else AtK pk l s.2.1 t):Zrf l s f t:=by
 obtain ⟨f1,f2,f3⟩:=h1;cases ht:s.2.2 with
 | true=>
  rw [ht,iT rfl] at h2;subst h2;refine ⟨f1,Nat.le_refl _,fun j hj=>?_⟩;by_cases q:j<f
  ·rw [dF]; simp only [inS,show Op.bytesLess (l.getD j default).1 s.1=true from f2 j q,Bool.not_true,Bool.false_and]
  ·rw [dT]; simp only [inS,ht,show Op.bytesLess (l.getD j default).1 s.1=false from f3 j (by omega) hj,Bool.not_false,Bool.true_and,Bool.true_or]
 | false=>
  rw [ht,vS] at h2;obtain ⟨t1,t2,t3⟩:=h2;have hlt:Op.bytesLess s.1 s.2.1=true:=by simpa [emS,ht] using hs
  refine ⟨?_,t1,fun j hj=>?_⟩
  ·rcases Nat.lt_or_ge t f with h | h
   ·have a:=f2 t h;have b:=t3 t (Nat.le_refl _) (by omega);rw [Yw a hlt] at b;cases b
   ·exact h
  ·by_cases q:j<f
   ·rw [dF]; simp only [inS,show Op.bytesLess (l.getD j default).1 s.1=true from f2 j q,Bool.not_true,Bool.false_and]
   ·by_cases q2:j<t
    ·rw [dT]; simp only [inS,ht,show Op.bytesLess (l.getD j default).1 s.1=false from f3 j (by omega) hj,show Op.bytesLess (l.getD j default).1 s.2.1=true from t2 j q2,Bool.not_false,Bool.true_and,Bool.false_or]
    ·rw [dF]; simp only [inS,ht,show Op.bytesLess (l.getD j default).1 s.1=false from f3 j (by omega) hj,show Op.bytesLess (l.getD j default).1 s.2.1=false from t3 j (by omega) hj,Bool.not_false,Bool.true_and,Bool.false_or]
def Vi (f t:Nat) (most:Int):Nat:=f+min (t - f) most.toNat
theorem Zl8 {l:List Pr} {s:Sp} {most:Int} (hm:(Lit.int .i64 most).wf=true) (hl:l.length<=100000) (hr:RiseK pk l) {k:Nat} (hk:l.length<k) :
  ∃ f t:Nat,Q63.f k l s most=some ((l.drop f).take (Vi f t most - f))/\Zrf l s f t:=by
 have hb:-9223372036854775808<=most/\most<=9223372036854775807:=by
  simp [Lit.wf,IntKind.min,IntKind.max,IntKind.signed,IntKind.bits] at hm;omega
 have eta:(s.1,s.2.1,s.2.2)=s:=rfl;unfold Q63.f
 first | rw [eta,W3,bS] | rw [W3,bS]
 cases he:emS s with
 | true=>exact ⟨0,0,by simp [Vi],Nat.le_refl _,Nat.zero_le _,fun j hj=>by rw [Zaq he]; simp⟩
 | false=>
  obtain ⟨f,e1,e2⟩:=Zb4 s.1 (by omega) hr hk;obtain ⟨t,e3,e4⟩:=Zb4 s.2.1 (by omega) hr hk;rw [vS];have c1:=e2.1;have c2:=e4.1;by_cases h:most<1
  ·rw [iT (dT h)];have z:∀ t,Vi f t most - f=0:=fun t=>by unfold Vi; omega
   cases ht:s.2.2 with
   | true=>exact ⟨f,l.length,by rw [z]; simp,Zek he e2 (by rw [ht,iT rfl])⟩
   | false=>exact ⟨f,t,by rw [z]; simp,Zek he e2 (by rw [ht,vS]; exact e4)⟩
  ·have w:w64 ((f:Int)+(if (l.length:Int)<most then (l.length:Int) else most))=(f:Int)+(if (l.length:Int)<most then (l.length:Int) else most):=V3 (by split <;> omega) (by split <;> omega)
   rw [iF (by simpa using h),e1,bS,e3];simp only [w];cases ht:s.2.2 with
   | true=>
    have hp:=Zek (t:=l.length) he e2 (by rw [ht,iT rfl]);have u:(if (f:Int)+(if (l.length:Int)<most then (l.length:Int) else most)<(l.length:Int) then (f:Int)+(if (l.length:Int)<most then (l.length:Int) else most) else (l.length:Int))=((Vi f l.length most:Nat):Int):=by
     unfold Vi;split <;> split <;> omega
    have u1:f<=Vi f l.length most/\Vi f l.length most<=l.length:=by unfold Vi; omega
    refine ⟨f,l.length,?_,hp⟩;rw [vS];simp only [u,tN];rw [iO,G4 (by rw [length_take,length_drop]; omega)];rfl
   | false=>
    have hp:=Zek (t:=t) he e2 (by rw [ht,vS]; exact e4);have hft:=hp.1;have u:(if (f:Int)+(if (l.length:Int)<most then (l.length:Int) else most)<(t:Int) then (f:Int)+(if (l.length:Int)<most then (l.length:Int) else most) else (t:Int))=((Vi f t most:Nat):Int):=by
     unfold Vi;split <;> split <;> omega
    have u1:f<=Vi f t most/\Vi f t most<=t:=by unfold Vi; omega
    refine ⟨f,t,?_,hp⟩;rw [iT (by rfl),bS];simp only [u,tN];rw [iO,G4 (by rw [length_take,length_drop]; omega)];rfl
theorem Zba {l:List Msg} {x:TQ} (hl:l.length<=1000):∀(k a b:Nat),a<=b->b<=l.length->b - a<k->(∀ i j,i<j->j<l.length->Op.bytesLess (l.getD i default).1 (l.getD j default).1=true)->(∀ j,j<a->Op.bytesLess (l.getD j default).1 x=true)->(∀ j,b<=j->j<l.length->Op.bytesLess (l.getD j default).1 x=false)->
  ∃ c:Nat,Q93.l0 k l x (a:Int) (b:Int)=some ((c:Int),decide (c<l.length/\(l.getD c default).1=x))/\Zhh l x c
 | 0,a,b,_,_,h,_,_,_=>by omega
 | k+1,a,b,hab,hb,hk,hr,h1,h2=>by
  rw [Q93.l0];by_cases h:a<b
  ·have w:w64 ((Int.fdiv (uH.wrap ((w64 ((a:Int)+(b:Int))))) (2 ^ 1)))=(((a+b) / 2:Nat):Int):=by
    rw [wI2 (x:=(a:Int)+(b:Int))];have u:uH.wrap ((a:Int)+(b:Int))=(a:Int)+(b:Int):=by
     simp only [IntKind.wrap,IntKind.signed,IntKind.bits];simp;omega
    rw [u,Int.fdiv_eq_ediv_of_nonneg _ (by decide)];rw [wI2];omega
   have g1:(0:Int)<=(((a+b) / 2:Nat):Int)/\(((a+b) / 2:Nat):Int)<(l.length:Int):=by omega
   rw [iP,w,iT g1,Zx,Bp,bS,wS2];cases e:Op.bytesLess (l.getD ((a+b) / 2) default).1 x with
   | true=>
    rw [iT (dT (scmp_lt.2 e))];refine Zba hl k _ b (by omega) hb (by omega) hr (fun j hj=>?_) h2;by_cases q:j=(a+b) / 2
    ·subst q; exact e
    ·exact Yw (hr j ((a+b) / 2) (by omega) (by omega)) e
   | false=>
    rw [iF (by simp only [dE,scmp_lt,e]; simp)];refine Zba hl k a _ (by omega) (by omega) (by omega) hr h1 fun j hj hjl=>?_;by_cases q:j=(a+b) / 2
    ·subst q; exact e
    ·exact Vb e (Xu (hr ((a+b) / 2) j (by omega) hjl))
  ·obtain rfl:a=b:=by omega
   rw [iN];refine ⟨a,?_,hb,h1,h2⟩;by_cases q:a<l.length
   ·have g1:(0:Int)<=(a:Int)/\(a:Int)<(l.length:Int):=by omega
    rw [iP,iT g1,Zx,Bp,bS];simp only [scmp_eq,q,true_and]
   ·rw [iN];simp [q]
theorem Zke {l:List Msg} (x:TQ) (hl:l.length<=1000) (hr:V9 l=true) {k:Nat} (hk:1100<k):∃ c:Nat,Q93.f k l x=some ((c:Int),decide (c<l.length/\(l.getD c default).1=x))/\Zhh l x c:=
 Zba hl k 0 l.length (by omega) (by omega) (by omega) (fun i j=>Zpb hr) (fun j hj=>by omega) (fun j hj hjl=>by omega)
theorem Zs2 {l:List Msg} {s:Sp} (hl:l.length<=1000) (hr:V9 l=true) {k:Nat} (hk:1100<k):∃ f t:Nat,Q16.f k l s=some ((f:Int),(t:Int))/\Zmz l s f t:=by
 unfold Q16.f;rw [W3,bS];cases he:emS s with
 | true=>exact ⟨0,0,rfl,Nat.le_refl _,Nat.zero_le _,fun j hj=>by rw [Zaq he]; simp⟩
 | false=>
  obtain ⟨f,e1,e2⟩:=Zke s.1 hl hr hk;rw [vS,e1,bS];cases ht:s.2.2 with
  | true=>exact ⟨f,l.length,rfl,Ziy he e2 (by rw [ht,iT rfl])⟩
  | false=>
   obtain ⟨t,e3,e4⟩:=Zke s.2.1 hl hr hk;rw [iT (show (!false)=true from rfl),e3];exact ⟨f,t,rfl,Ziy he e2 (by rw [ht,vS]; exact e4)⟩
theorem Zmv {l:List Msg} (s:Sp) (hl:l.length<=1000) (hr:RiseK mk l) {k:Nat} (hk:1100<k):Q13.f k l s=some (Bi l s):=by
 obtain ⟨f,t,e,a1,a2,a3⟩:=Zs2 (s:=s) hl (by rw [Ze4]; exact (Bc _ _).2 hr) hk;unfold Q13.f Bi;rw [e,bS,iO,tN,tN,Zl7 (by rw [length_take,length_drop]; omega),bS,Zej (p:=fun m=>inS s m.1) a1 a2 a3]
theorem Gk {α:Type} (key:α->List UInt8) (s:Sp) (x:TQ):∀ l:List α,Yi key (l.filter fun m=>inS s (key m)) x=if inS s x=true then Yi key l x else none
 | []=>by rw [List.filter_nil,Vq]; split <;> rfl
 | a :: l=>by
  rw [List.filter_cons];by_cases e:key a=x
  ·by_cases q:inS s (key a)=true
   ·rw [iT q,Z7,iT e,<- e,iT q,Z7,iT rfl]
   ·rw [iF q,Gk key s x l,<- e,iF q,iF q]
  ·by_cases q:inS s (key a)=true
   ·rw [iT q,Z7,iF e,Z7,iF e,Gk key s x l]
   ·rw [iF q,Z7,iF e,Gk key s x l]
theorem Zif {α:Type} (key:α->List UInt8) {l:List α} {a:α} (h:a∈l):Yi key l (key a)≠none:=fun z=>by
 unfold Yi at z;exact absurd (dT rfl) (List.find?_eq_none.1 z a h)
theorem Zqv {p:TJ} (hr:RiseK (fun y=>y) p) {a b:TQ} (h:Xy p a<Xy p b):Op.bytesLess a b=true:=
 Uw ((V4 a hr).2.2 (Xy p a) (Nat.le_refl _) (by have:=(V4 b hr).1; omega)) ((V4 b hr).2.1 (Xy p a) h)
def Zlz (l:Tre) (over:List Msg) (x:TQ) (k:Nat):Option Pr:=match Yi mk over x with | some a=>Ziz a | none=>G5 l x k
def Wo (f:Nat->Nat) (a:Nat):Nat->Nat
 | 0=>0
 | m+1=>f a+1+Wo f (a+1) m
def ds (l:Tre):Nat->Nat->Nat
 | 0,_=>0
 | k+1,i=>Wo (ds l k) (stR (l.getD (k+1) default) i) (ndT l (k+1) i).2.1.length
structure Told (l:Tre) (over:List Msg) (p:Sp) (k:Nat) (w:List UInt8->Bool) (R:List Pr):Prop where
 rise:RiseK pk R
 fnd:∀ x,Yi pk R x=if (inS p x && w x)=true then Zlz l over x k else none
structure Went (c:Cfg) (N B n q:Nat) (K:Nat->List Int) (h:Nat->Bool) (s:Shf) (L:List Nat) (t u d:Nat) (s':Shf) (L':List Nat) (t':Nat):Prop where
 S:ShK c N B n t' s' L' q K h
 t1:t'<=t+u
 to:MC.To d d (Z6 s.2.1 L) (Z6 s'.2.1 L')
section
variable {c:Cfg} {N B n q:Nat} {K:Nat->List Int} {h:Nat->Bool} {l:Tre} {BL:Nat->Nat->Nat} {LO HI:Nat->Nat->List UInt8}
theorem Went.trans {s s1 s2:Shf} {L L1 L2:List Nat} {t t1 t2 u u1 d d1 u2 d2:Nat} (a:Went c N B n q K h s L t u d s1 L1 t1) (b:Went c N B n q K h s1 L1 t1 u1 d1 s2 L2 t2) (hu:u+u1<=u2) (hd:d+d1<=d2):Went c N B n q K h s L t u2 d2 s2 L2 t2:=
 ⟨b.S,by have:=a.t1; have:=b.t1; omega,(a.to.trans b.to).le hd hd⟩
theorem Went.refl {s:Shf} {L:List Nat} {t:Nat} (S:ShK c N B n t s L q K h) (u d:Nat):Went c N B n q K h s L t u d s L t:=⟨S,by omega,(MC.To.refl _).le (Nat.zero_le _) (Nat.zero_le _)⟩
theorem went1 {s s':Shf} {L L':List Nat} {t b:Nat} (S':ShK c N B n (t+1) s' L' q K h) (to1:MC.To 1 1 (Z6 s.2.1 L) (Z6 s'.2.1 L')) (to0:b=q->MC.To 0 0 (Z6 s.2.1 L) (Z6 s'.2.1 L')):Went c N B n q K h s L t 1 (if b=q then 0 else 1) s' L' (t+1):=by
 refine ⟨S',Nat.le_refl _,?_⟩;by_cases e:b=q
 ·rw [iT e]; exact to0 e
 ·rw [iF e]; exact to1
theorem Znv {over:List Msg} {p:Sp} (o3:∀ m∈over,inS p m.1=true) {x:TQ} (hx:¬ inS p x=true):Yi mk over x=none:=by
 cases z:Yi mk over x with
 | none=>rfl
 | some a=>
  obtain ⟨z1,z2⟩:=Zb8 mk z;have:=o3 a z1;rw [show a.1=x from z2] at this;exact absurd this hx
theorem Zki {nd:Nd} {s s':Shf} {k:Nat} {i lv:Int} {lim:Int} {out:List Pr} {p:Sp} {over:List Msg} (hL:Q88.f k s i=some (nd,0,s')) (hv:lv=-1\/lv=nd.1/\0<=nd.1):∃ b,Q87.f (k+1) (s,lim,out) i lv p over=Q87.l0 k (s,lim,out) p over (nd,0,s') b:=by
 rcases hv with rfl | ⟨rfl,h0⟩
 ·refine ⟨false,?_⟩;rw [Q87.f,show Q88.f k _ i=_ from hL,bS,vS,iF (by decide)]
 ·refine ⟨!decide (nd.1=nd.1),?_⟩;rw [Q87.f,show Q88.f k _ i=_ from hL,bS,vS,iT (dT h0),vS]
theorem Zol (T:GoodT c l) {i:Nat} (hi:i<wd l 0):RiseK pk (ndT l 0 i).2.2.2.2/\(ndT l 0 i).2.2.2.2.length<=150:=by
 obtain ⟨a,b,e⟩:=Zkj hi;have hr:=T.lvs.1;have hl:=T.lvs.2.1;rw [e] at hr hl;rw [lA,lA] at hl;exact ⟨(List.pairwise_append.1 (List.pairwise_append.1 hr).2.1).1,by unfold ndT; omega⟩
theorem Zry {l:List Pr} (s:Sp) (hl:l.length<=100000) (hr:RiseK pk l) {k:Nat} (hk:l.length<k):Q63.f k l s (l.length:Int)=some (l.filter fun y=>inS s (pk y)):=by
 obtain ⟨f,t,e,a1,a2,a3⟩:=Zl8 (l:=l) (s:=s) (most:=(l.length:Int)) (by simp [Lit.wf,IntKind.min,IntKind.max,IntKind.signed,IntKind.bits]; omega) hl hr hk;rw [e,Zej (p:=fun y=>inS s (pk y)) a1 a2 a3,show Vi f t (l.length:Int) - f=t - f by unfold Vi; omega]
theorem Zn3 (g:Geo c N B n) (T:GoodT c l) (G:Gro l LO HI) (P:RowsB c N K h l l.length BL) {i:Nat} (hi:i<wd l 0) {s:Shf} {L:List Nat} {t:Nat} (S:ShK c N B n t s L q K h) (ht:t<=800000) {lv:Int} (hv:lv=-1\/lv=0) {p:Sp} (hp:∀ x,inS p x=true->dn l x (l.length - 1)=i) {over:List Msg} (o1:RiseK mk over) (o2:over.length<=600) (o3:∀ m∈over,inS p m.1=true) {lim:Int} {out:List Pr} (h1:(out.length:Int)<=lim) (h2:lim<9223372036854775808) (h3:out.length<=1000000000) :
  ∃ R s' L',Ev (fun f=>Q87.f f (s,lim,out) ((BL 0 i:Nat):Int) lv p over) (0,(s',lim,out ++ R.take (lim - out.length).toNat))/\Told l over p 0 (fun _=>true) R/\R.length<=1000/\Went c N B n q K h s L t 1 (if BL 0 i=q then 0 else 1) s' L' (t+1):=by
 have hne:=G.ne;obtain ⟨s',L',⟨b0,e⟩,S',to1,to0⟩:=Zpu g S ht (P.sp 0 i hne hi);obtain ⟨l0,lb⟩:=Zlf (BL:=BL) G hi;obtain ⟨r1,r2⟩:=Zol T hi;obtain ⟨prs,ep⟩:∃ prs,prs=(Xr l BL 0 i).2.2.2.2:=⟨_,rfl⟩;have r1:RiseK pk prs:=by rw [ep]; exact r1
 have r2:prs.length<=150:=by rw [ep]; exact r2
 have fl:=Zdj over (prs.filter fun y=>inS p (pk y));have ff:=List.length_filter_le (fun y=>inS p (pk y)) prs;have fr:RiseK pk (prs.filter fun y=>inS p (pk y)):=r1.sublist List.filter_sublist;obtain ⟨R,eR⟩:∃ R,R=over.foldl V6 (prs.filter fun y=>inS p (pk y)):=⟨_,rfl⟩;rw [<- eR] at fl;refine ⟨R,s',L',⟨b0+8000,fun k hk=>?_⟩,⟨by rw [eR]; exact Zf5 _ _ fr,fun x=>?_⟩,by omega,went1 S' to1 to0⟩
 ·obtain ⟨k,rfl⟩:=kS2 k;obtain ⟨b,hb⟩:=Zki (lim:=lim) (out:=out) (p:=p) (over:=over) (e (k+1) (by omega)) (hv.imp id fun z=>⟨by rw [l0,z],by rw [l0]; decide⟩);show Q87.f (k+1+1) _ _ _ _ _=_;rw [hb,Q87.l0];dsimp only;rw [iT (dT l0),<- ep,Zry p (by omega) r1 (by omega),bS,Zlq (by omega) (by omega) fr (by omega),bS,<- eR];obtain ⟨d,hd⟩:=Int.eq_ofNat_of_zero_le (show 0<=lim - (out.length:Int) by omega);rw [wI2 (x:=lim - (out.length:Int)),hd];have tk:R.take (if (d:Int)<(R.length:Int) then (d:Int) else (R.length:Int)).toNat=R.take d:=by
   split
   ·rw [tN]
   ·rw [tN,List.take_of_length_le (Nat.le_refl _),tO]
  have tl:(R.take d).length<=R.length:=by rw [length_take]; omega
  rw [iT (by split <;> omega),tk,iO];rfl
 ·rw [eR,Zi5 x _ _ o1,Gk,Bool.and_true,Zlz];by_cases q:inS p x=true
  ·rw [iT q,iT q,G5,hp x q,ep]; rfl
  ·rw [iF q,iF q,Znv o3 q]
end
section
variable {c:Cfg} {N B n q:Nat} {K:Nat->List Int} {h:Nat->Bool} {l:Tre} {BL:Nat->Nat->Nat} {LO HI:Nat->Nat->List UInt8}
abbrev VL (f:Nat) (p:Sp) (r1:Nd×Int×Shf) (ov:List Msg) (s:Shf) (lim:Int) (out:List Pr) (j:Int):Option (Int×Shf×Int×List Pr):=Q87.l1 f p r1 ov s.1 s.2.1.1 s.2.1.2.2.2.2 s.2.2.1 s.2.1.2.1 s.2.1.2.2.1 s.2.1.2.2.2.1 s.2.2.2 lim out j
theorem Went.le {s s':Shf} {L L':List Nat} {t t' u u' d d':Nat} (a:Went c N B n q K h s L t u d s' L' t') (hu:u<=u') (hd:d<=d'):Went c N B n q K h s L t u' d' s' L' t':=⟨a.S,by have:=a.t1; omega,a.to.le hd hd⟩
theorem Zs0 {s:Sp} (h:emS s=false):inS s s.1=true:=by
 unfold inS;rw [W0];cases ht:s.2.2 with
 | true=>rfl
 | false=>
  have:Op.bytesLess s.1 s.2.1=true:=by simpa [emS,ht] using h
  rw [this]; rfl
theorem Ztd (G:Gro l LO HI) {k i j:Nat} (hk:k+1<l.length) (hi:i<wd l (k+1)) (hj:j<(ndT l (k+1) i).2.1.length):(Xr l BL (k+1) i).2.1.getD j default=((BL k (stR (l.getD (k+1) default) i+j):Nat):Int):=by
 have e:(ndT l (k+1) i).2.1.getD j default=((stR (l.getD (k+1) default) i+j+1:Nat):Int):=by
  have:=(G.nd hk hi).kid;rw [this,List.getD_eq_getElem?_getD,List.getElem?_map,List.getElem?_range (by omega)]; rfl
 show ((ndT l (k+1) i).2.1.map _).getD j default=_;rw [Y0 (by rw [length_map]; omega),List.getElem_map];rw [Y0 hj] at e;rw [e];rfl
theorem Told.more {ov:List Msg} {p:Sp} {k j:Nat} {piv:TJ} {A R:List Pr} (rs:RiseK (fun y=>y) piv) (hj:j<=piv.length) (hA:Told l ov p k (fun x=>decide (Xy piv x<j)) A) (hR:Told l (Bi ov (Vm (Wf piv j) p)) (Vm (Wf piv j) p) k (fun _=>true) R):Told l ov p k (fun x=>decide (Xy piv x<j+1)) (A ++ R):=by
 have rb:Ui piv=true:=by rw [Zfh]; exact (Bc _ _).2 rs
 have own:∀ x,inS (Vm (Wf piv j) p) x=(decide (Xy piv x=j) && inS p x):=fun x=>by
  rw [Zh0,Zia (V4 x rs) hj rb];by_cases e:Xy piv x=j
  ·rw [dT e,dT e.symm]
  ·rw [dF e,dF fun z=>e z.symm]
 refine ⟨List.pairwise_append.2 ⟨hA.rise,hR.rise,fun a ha b hb=>?_⟩,fun x=>?_⟩
 ·have a1:=Zif pk ha;have b1:=Zif pk hb;rw [hA.fnd] at a1;rw [hR.fnd,own] at b1;have a2:Xy piv (pk a)<j:=by
   by_cases z:Xy piv (pk a)<j
   ·exact z
   ·rw [dF z,Bool.and_false,vS] at a1; exact absurd rfl a1
  have b2:Xy piv (pk b)=j:=by
   by_cases z:Xy piv (pk b)=j
   ·exact z
   ·rw [dF z,Bool.false_and,Bool.false_and,vS] at b1; exact absurd rfl b1
  exact Zqv rs (by omega)
 ·rw [Zdh,hA.fnd,hR.fnd,own,Bool.and_true];cases ip:inS p x with
  | false=>simp
  | true=>
   by_cases e:Xy piv x=j
   ·have iq:inS (Vm (Wf piv j) p) x=true:=by rw [own,dT e,ip]; rfl
    rw [dF,dT e,dT,vS,iT (by rfl),iT (by rfl),Option.none_or];unfold Zlz;rw [show Bi ov (Vm (Wf piv j) p)=ov.filter fun m=>inS (Vm (Wf piv j) p) (Go.SK.T.mk m) from rfl,Gk,iT iq]
   ·rw [dF e,Bool.false_and,iF (show ¬ false=true by simp),Option.or_none];by_cases w:Xy piv x<j
    ·rw [dT w,dT]
    ·rw [dF w,dF]
theorem Zog (g:Geo c N B n) (T:GoodT c l) (G:Gro l LO HI) {k i:Nat} (hk:k+1<l.length) (hi:i<wd l (k+1)) {p:Sp} {one:Bool} {x0:TQ} (hone:one=true->∀ x,inS p x=true->x=x0) (hp:∀ x,inS p x=true->dn l x (l.length - 1 - (k+1))=i) {ov:List Msg} (v1:RiseK mk ov) (v2:ov.length<=100*(l.length - 1 - k)) {lim:Int} (m2:lim<9223372036854775808) {r1:Nd×Int×Shf} (er:r1.1=Xr l BL (k+1) i)
  (IH:∀(i:Nat) (s:Shf) (L:List Nat) (t:Nat) (p:Sp) (over:List Msg) (out:List Pr),i<wd l k->ShK c N B n t s L q K h->t+(ds l k i+1)<=800000->(∀ x,inS p x=true->dn l x (l.length - 1 - k)=i)->RiseK mk over->over.length<=100*(l.length - 1 - k)->(∀ m∈over,inS p m.1=true)->(out.length:Int)<=lim->out.length+1000*(ds l k i+1)<=1000000000->(one=true->∀ x,inS p x=true->x=x0)->∃ R s' L' t',Ev (fun f=>Q87.f f (s,lim,out) ((BL k i:Nat):Int) (k:Int) p over) (0,(s',lim,out ++ R.take (lim - out.length).toNat))/\Told l over p k (fun _=>true) R/\R.length<=1000*(ds l k i+1)/\Went c N B n q K h s L t (ds l k i+1) (1+if one=true then k else ds l k i) s' L' t')
  {out:List Pr} (m1:(out.length:Int)<=lim):∀(m j:Nat) (s:Shf) (L:List Nat) (t:Nat) (A:List Pr),j+m=(ndT l (k+1) i).2.1.length->ShK c N B n t s L q K h->t+Wo (ds l k) (stR (l.getD (k+1) default) i+j) m<=800000->Told l ov p k (fun x=>decide (Xy (ndT l (k+1) i).2.2.1 x<j)) A->out.length+A.length+1000*Wo (ds l k) (stR (l.getD (k+1) default) i+j) m<=1000000000->
  ∃ R s' L' t',Ev (fun f=>VL f p r1 ov s lim (out ++ A.take (lim - out.length).toNat) (j:Int)) (0,(s',lim,out ++ (A ++ R).take (lim - out.length).toNat))/\Told l ov p k (fun _=>true) (A ++ R)/\R.length<=1000*Wo (ds l k) (stR (l.getD (k+1) default) i+j) m/\Went c N B n q K h s L t (Wo (ds l k) (stR (l.getD (k+1) default) i+j) m) (if one=true then (if j<=Xy (ndT l (k+1) i).2.2.1 x0 then k+1 else 0) else Wo (ds l k) (stR (l.getD (k+1) default) i+j) m) s' L' t':=by
 have nd:=G.nd hk hi;have h6:=T.len;have pvl:=nd.pvl;have fan:=nd.fan;have rs:RiseK (fun y=>y) (ndT l (k+1) i).2.2.1:=G.rise hk hi;have rb:Ui (ndT l (k+1) i).2.2.1=true:=by rw [Zfh]; exact (Bc _ _).2 rs
 have kl:(Xr l BL (k+1) i).2.1.length=(ndT l (k+1) i).2.1.length:=by unfold Xr; rw [length_map]
 have hs:=Vx (row:=l.getD (k+1) default) hi;have hm:=Zaf (row:=l.getD (k+1) default) (i:=i+1) (j:=wd l (k+1)) hi (Nat.le_refl _);rw [(G.row k hk).2.1,hs] at hm;have hm':stR (l.getD (k+1) default) i+(ndT l (k+1) i).2.1.length<=wd l k:=hm;have lv:(Xr l BL (k+1) i).1=((k+1:Nat):Int):=nd.lvl;obtain ⟨D,hD⟩:∃ D:Nat,(D:Int)=lim - out.length:=⟨(lim - out.length).toNat,by omega⟩;rw [show (lim - (out.length:Int)).toNat=D by omega];intro m
 induction m with
 | zero=>
  intro j s L t A hj S ht hA hl;refine ⟨[],s,L,t,⟨1,fun f hf=>?_⟩,⟨by rw [List.append_nil]; exact hA.rise,fun x=>?_⟩,Nat.zero_le _,Went.refl S _ _⟩
  ·obtain ⟨f,rfl⟩:=kS1 f;show VL (f+1) p r1 ov s lim _ (j:Int)=_;unfold VL;rw [Q87.l1,er,iF (by rw [kl]; simp only [dE]; omega),List.append_nil]
  ·have:=(V4 x rs).1;rw [List.append_nil,hA.fnd,dT]
 | succ m ih=>
  intro j s L t A hj S ht hA hl;have hjl:j<(ndT l (k+1) i).2.1.length:=by omega
  have hjp:j<=(ndT l (k+1) i).2.2.1.length:=by omega
  have own:∀ x,inS (Vm (Wf (ndT l (k+1) i).2.2.1 j) p) x=true->Xy (ndT l (k+1) i).2.2.1 x=j/\inS p x=true:=fun x hx=>by
   rw [Zh0,Zia (V4 x rs) hjp rb,Bool.and_eq_true,dE] at hx;exact ⟨hx.1.symm,hx.2⟩
  have dsu:Wo (ds l k) (stR (l.getD (k+1) default) i+j) (m+1)=ds l k (stR (l.getD (k+1) default) i+j)+1+Wo (ds l k) (stR (l.getD (k+1) default) i+(j+1)) m:=rfl;rw [dsu] at ht hl ⊢;have step:∀(f:Nat) (o:List Pr),VL (f+1) p r1 ov s lim o (j:Int)=((some (Jr (Wf (ndT l (k+1) i).2.2.1 j) p)).bind fun r6=>(if (!r6.2)=true then VL f p r1 ov s lim o ((j+1:Nat):Int) else (if decide (lim<=(o.length:Int))=true then some (0,(s,lim,o)) else ((Q13.f f ov r6.1).bind fun r8=>((Q87.f f (s,lim,o) ((BL k (stR (l.getD (k+1) default) i+j):Nat):Int) (k:Int) r6.1 r8).bind fun r9=>(if (!decide (r9.1=0))=true then (some r9) else VL f p r1 ov r9.2.1 r9.2.2.1 r9.2.2.2 ((j+1:Nat):Int))))))):=fun f o=>by
   unfold VL;rw [Q87.l1,er,iT (by rw [kl]; simp only [dE]; omega),iO];show Option.bind (Q61.f (ndT l (k+1) i).2.2.1 (j:Int) p) _=_;rw [Zmq (by omega) p j hjp,Zx,Ztd G hk hi hjl,lv,wI2 (x:=((k+1:Nat):Int) - 1),show ((k+1:Nat):Int) - 1=(k:Int) by omega,wS2];rfl
  by_cases em:emS (Vm (Wf (ndT l (k+1) i).2.2.1 j) p)=true
  ·have hA':Told l ov p k (fun x=>decide (Xy (ndT l (k+1) i).2.2.1 x<j+1)) A:=⟨hA.rise,fun x=>by
    rw [hA.fnd];cases ip:inS p x with
    | false=>rfl
    | true=>
     have ne:Xy (ndT l (k+1) i).2.2.1 x≠j:=fun z=>by
      have:=Zaq (x:=x) em;rw [Zh0,Zia (V4 x rs) hjp rb,dT z.symm,ip] at this;cases this
     by_cases w:Xy (ndT l (k+1) i).2.2.1 x<j
     ·rw [dT w,dT]
     ·rw [dF w,dF]⟩
   obtain ⟨R,s',L',t',⟨b1,e1⟩,r1',r2',r3'⟩:=ih (j+1) s L t A (by omega) S (by omega) hA' (by omega);refine ⟨R,s',L',t',⟨b1+1,fun f hf=>?_⟩,r1',by omega,r3'.le (by omega) ?_⟩
   ·obtain ⟨f,rfl⟩:=kS1 f;show VL (f+1) p r1 ov s lim _ (j:Int)=_;rw [step,show Jr (Wf (ndT l (k+1) i).2.2.1 j) p=(([],[],false),false) by unfold Jr; rw [iT em],bS,iT (by rfl)];exact e1 f (by omega)
   ·split
    ·split
     ·rw [iO]; exact Nat.le_refl _
     ·exact Nat.zero_le _
    ·omega
  ·have em':emS (Vm (Wf (ndT l (k+1) i).2.2.1 j) p)=false:=by simpa using em
   have sub:(Bi ov (Vm (Wf (ndT l (k+1) i).2.2.1 j) p)).Sublist ov:=List.filter_sublist;have sl:=sub.length_le;have tl:(A.take D).length=min D A.length:=length_take;have ol:(out ++ A.take D).length=out.length+min D A.length:=by rw [lA,tl]
   have hd':∀ x,inS (Vm (Wf (ndT l (k+1) i).2.2.1 j) p) x=true->dn l x (l.length - 1 - k)=stR (l.getD (k+1) default) i+j:=fun x hx=>by
    rw [Zql k hk,hp x (own x hx).2,(G.kidI hk hi x).2.1,(own x hx).1]
   obtain ⟨R1,s1,L1,t1,⟨b1,e1⟩,told1,len1,went1⟩:=IH (stR (l.getD (k+1) default) i+j) s L t (Vm (Wf (ndT l (k+1) i).2.2.1 j) p) (Bi ov (Vm (Wf (ndT l (k+1) i).2.2.1 j) p)) (out ++ A.take D) (by omega) S (by omega) hd' (v1.sublist sub) (by omega) (fun m hm=>(List.mem_filter.1 hm).2) (by omega) (by omega) fun z x hx=>hone z x (own x hx).2;have told2:=Told.more rs hjp hA told1;rw [show (lim - ((out ++ A.take D).length:Int)).toNat=D - A.length by omega] at e1;have tk:out ++ A.take D ++ R1.take (D - A.length)=out ++ (A ++ R1).take D:=by rw [List.take_append,append_assoc]
   rw [tk] at e1;by_cases fl:lim<=((out ++ A.take D).length:Int)
   ·obtain ⟨R,s',L',t',_,r1',r2',_⟩:=ih (j+1) s L t (A ++ R1) (by omega) S (by omega) told2 (by rw [lA]; omega);refine ⟨R1 ++ R,s,L,t,⟨1,fun f hf=>?_⟩,by rw [<- append_assoc]; exact r1',by rw [lA]; omega,Went.refl S _ _⟩;obtain ⟨f,rfl⟩:=kS1 f;show VL (f+1) p r1 ov s lim _ (j:Int)=_;rw [step,show Jr (Wf (ndT l (k+1) i).2.2.1 j) p=(Vm (Wf (ndT l (k+1) i).2.2.1 j) p,true) by unfold Jr; rw [iF em],bS,vS,iT (dT fl),List.take_append_of_le_length (by omega)]
   ·obtain ⟨R,s',L',t',⟨b2,e2⟩,r1',r2',r3'⟩:=ih (j+1) s1 L1 t1 (A ++ R1) (by omega) went1.S (by have:=went1.t1; omega) told2 (by rw [lA]; omega);refine ⟨R1 ++ R,s',L',t',⟨b1+b2+1200,fun f hf=>?_⟩,by rw [<- append_assoc]; exact r1',by rw [lA]; omega,went1.trans r3' (by omega) ?_⟩
    ·obtain ⟨f,rfl⟩:=kS1 f;show VL (f+1) p r1 ov s lim _ (j:Int)=_;rw [step,show Jr (Wf (ndT l (k+1) i).2.2.1 j) p=(Vm (Wf (ndT l (k+1) i).2.2.1 j) p,true) by unfold Jr; rw [iF em],bS,vS,iF (by simpa using fl),Zmv _ (by omega) v1 (by omega),bS,show Q87.f f _ _ _ _ _=_ from e1 f (by omega),bS,vS,<- append_assoc A R1 R];exact e2 f (by omega)
    ·by_cases o:one=true
     ·have w:Xy (ndT l (k+1) i).2.2.1 x0=j:=by
       have z:=own _ (Zs0 em');rw [hone o _ z.2] at z;exact z.1
      rw [iT o,iT o,iT o,w,iQ,iT (Nat.le_refl _)]; omega
     ·rw [iF o,iF o,iF o]; omega
end
theorem Zow (a b:TQ):decide (Y6 a b=1)=Op.bytesLess b a:=by
 rcases Zce a b with ⟨e,h⟩ | ⟨e,rfl⟩ | ⟨e,h⟩
 ·simp [e,Xu h]
 ·simp [e,W0]
 ·simp [e,h]
theorem Zic (a b:TQ):Q67.f a b=some (Y6 a b):=rfl
theorem Zbc:∀(k:Nat) (n o out:List Msg),n.length+o.length<k->out.length+(n.length+o.length)<=1000000->Q12.l0 k n o out=some (out ++ Xo mk k n o)
 | 0,n,o,out,h,_=>by omega
 | k+1,[],o,out,h,hs=>by
  rw [Q12.l0,vS,iT (by first | (simp; done) | (simp; omega)),iT (by simp at hs ⊢; omega)]
  simp [Xo]
 | k+1,a :: n,[],out,h,hs=>by
  rw [Q12.l0,iT (by first | (simp; done) | (simp; omega)),vS,iT (by simp at hs ⊢; omega),iT (by simp at hs ⊢; omega)]
  simp [Xo]
 | k+1,a :: n,b :: o,out,h,hs=>by
  have ga:gt (a :: n) 0=a:=rfl;have gb:gt (b :: o) 0=b:=rfl;have eta:∀ a:Msg,(a.1,a.2.1,a.2.2)=a:=fun _=>rfl;simp only [length_cons] at h hs;rw [Q12.l0,iT (by first | (simp; done) | (simp; omega)),iT (by first | (simp; done) | (simp; omega)),iT (by first | (simp; done) | (simp; omega)),iT (by first | (simp; done) | (simp; omega)),ga,gb,Zic,bS,Zow]
  unfold Xo;have d1:List.drop 1 (a :: n)=n:=rfl;have d2:List.drop 1 (b :: o)=o:=rfl;rw [d1,d2];cases q:Op.bytesLess b.1 a.1 with
  | true=>
   rw [iT rfl,iT (by first | (simp; done) | (simp; omega)),iT (by first | (simp; done) | (simp; omega)),Zbc k (a :: n) o _ (by first | (simp; done) | (simp; omega)) (by first | (simp; done) | (simp; omega)),iF (by rw [show Op.bytesLess (mk a) (mk b)=false from Xu q]; simp),iF (show ¬ mk a=mk b from (We q).symm)]
   simp
  | false=>
   rw [vS];by_cases e:a.1=b.1
   ·rw [iT (dT (scmp_eq.2 e)),iT (by first | (simp; done) | (simp; omega)),iT (by first | (simp; done) | (simp; omega)),iT (by first | (simp; done) | (simp; omega)),Zbc k n o _ (by omega) (by first | (simp; done) | (simp; omega)),iF (by rw [show mk a=mk b from e,W0]; simp),iT (show mk a=mk b from e)]
    simp
   ·have lt:Op.bytesLess a.1 b.1=true:=by
     rcases Bo q with t | t
     ·exact absurd t.symm e
     ·exact t
    rw [iF (by simpa [scmp_eq] using e),iT (by first | (simp; done) | (simp; omega)),iT (by first | (simp; done) | (simp; omega)),Zbc k n (b :: o) _ (by first | (simp; done) | (simp; omega)) (by first | (simp; done) | (simp; omega)),iT (show Op.bytesLess (mk a) (mk b)=true from lt)]
    simp
theorem Zjf {n o:List Msg} (hn:n.length<=100000) (ho:o.length<=100000) {k:Nat} (hk:n.length+o.length<k):Q12.f k n o=some (Xo mk k n o):=by
 unfold Q12.f;rw [wI2,iO,Zbc k n o [] hk (by simp; omega)];rfl
theorem Zde:∀(n o:List Msg),(n.foldl (fun l m=>Y8 mk m l) o).length<=n.length+o.length
 | [],o=>by simp
 | a :: n,o=>by
  have h1:=Zde n (Y8 mk a o);have h2:=Un mk a o;rw [List.foldl_cons,length_cons];omega
theorem mrg {n o:List Msg} (hn:RiseK mk n) (ho:RiseK mk o) (l1:n.length<=1000) (l2:o.length<=1000):∃ r,(∀ k,2000<k->Q12.f k n o=some r)/\RiseK mk r/\r.length<=n.length+o.length/\(∀ x,Yi mk r x=(Yi mk n x).or (Yi mk o x))/\∀ m∈r,m∈n\/m∈o:=by
 have e:=Zc8 mk (f:=n.length+o.length+1) (by omega) hn ho;refine ⟨Xo mk (n.length+o.length+1) n o,fun k hk=>?_,Uo mk (by omega) hn ho,by rw [e]; exact Zde n o,fun x=>U6 mk x (by omega) hn ho,fun m hm=>Vz mk hm⟩;rw [Zjf (by omega) (by omega) (by omega),Zc8 mk (f:=k) (by omega) hn ho,e]
theorem Zdq (f:Nat->Nat):∀(m a n:Nat),Wo f a (m+n)=Wo f a m+Wo f (a+m) n
 | 0,a,n=>by rw [Nat.zero_add]; exact (Nat.zero_add _).symm
 | m+1,a,n=>by
  rw [show m+1+n=(m+n)+1 by omega];show f a+1+Wo f (a+1) (m+n)=f a+1+Wo f (a+1) m+Wo f (a+(m+1)) n;rw [Zdq f m (a+1) n,show a+1+m=a+(m+1) by omega]; omega
theorem Zii (f:Nat->Nat) (m:Nat):Wo f 0 (m+1)=Wo f 0 m+(f m+1):=by
 rw [Zdq,Nat.zero_add]; rfl
def Zb7 (l:Tre):Nat->Nat
 | 0=>wd l 0
 | k+1=>Zb7 l k+wd l (k+1)
section
variable {c:Cfg} {N B n q:Nat} {K:Nat->List Int} {h:Nat->Bool} {l:Tre} {BL:Nat->Nat->Nat} {LO HI:Nat->Nat->List UInt8}
theorem Zm1 (k:Nat):∀ i,i<=wd l (k+1)->Wo (ds l (k+1)) 0 i=i+Wo (ds l k) 0 (stR (l.getD (k+1) default) i)
 | 0,_=>by rw [Zi3]; rfl
 | i+1,hi=>by
  have e:ds l (k+1) i=Wo (ds l k) (stR (l.getD (k+1) default) i) (ndT l (k+1) i).2.1.length:=rfl;rw [Zii,Zm1 k i (by omega),e,Vx (show i<(l.getD (k+1) default).length from hi),Zdq,Nat.zero_add];show _=_+(_+Wo (ds l k) _ (ndT l (k+1) i).2.1.length);omega
theorem Zkd:∀ m,Wo (ds l 0) 0 m=m
 | 0=>rfl
 | m+1=>by rw [Zii,Zkd m]; rfl
theorem Znq (G:Gro l LO HI):∀ k,k<l.length->Wo (ds l k) 0 (wd l k)=Zb7 l k
 | 0,_=>Zkd _
 | k+1,hk=>by
  rw [Zm1 k _ (Nat.le_refl _),(G.row k hk).2.1,Znq G k (by omega),Zb7]; omega
theorem Znl (T:GoodT c l):∀ k,k<l.length->Zb7 l k<=151*(k+1)
 | 0,h=>by have:=T.wb 0 h; show wd l 0<=_; omega
 | k+1,h=>by
  have:=T.wb (k+1) h;have:=Znl T k (by omega);rw [Zb7]; omega
theorem Zsh (T:GoodT c l) (G:Gro l LO HI):ds l (l.length - 1) 0+1=Zb7 l (l.length - 1):=by
 have hne:=G.ne;rw [<- Znq G _ (by omega),T.top]; rfl
theorem Zsg (g:Geo c N B n) (T:GoodT c l) (G:Gro l LO HI) (P:RowsB c N K h l l.length BL) {one:Bool} {x0:TQ} {lim:Int} (m2:lim<9223372036854775808):∀(k i:Nat) (s:Shf) (L:List Nat) (t:Nat) (lv:Int) (p:Sp) (over:List Msg) (out:List Pr),k<l.length->i<wd l k->ShK c N B n t s L q K h->t+(ds l k i+1)<=800000->(lv=-1\/lv=(k:Int))->(∀ x,inS p x=true->dn l x (l.length - 1 - k)=i)->RiseK mk over->over.length<=100*(l.length - 1 - k)->(∀ m∈over,inS p m.1=true)->(out.length:Int)<=lim->out.length+1000*(ds l k i+1)<=1000000000->(one=true->∀ x,inS p x=true->x=x0)->
  ∃ R s' L' t',Ev (fun f=>Q87.f f (s,lim,out) ((BL k i:Nat):Int) lv p over) (0,(s',lim,out ++ R.take (lim - out.length).toNat))/\Told l over p k (fun _=>true) R/\R.length<=1000*(ds l k i+1)/\Went c N B n q K h s L t (ds l k i+1) ((if one=true then k else ds l k i)+if BL k i=q then 0 else 1) s' L' t':=by
 have h6:=T.len;intro k
 induction k with
 | zero=>
  intro i s L t lv p over out hk hi S ht hv hp o1 o2 o3 h1 h2 hone;obtain ⟨R,s',L',e,a,b,w⟩:=Zn3 g T G P hi S (by omega) hv hp o1 (by omega) o3 h1 m2 (by omega);exact ⟨R,s',L',t+1,e,a,by omega,w.le (by omega) (by omega)⟩
 | succ k ih=>
  intro i s L t lv p over out hk hi S ht hv hp o1 o2 o3 h1 h2 hone;obtain ⟨s1,L1,⟨b0,e⟩,S1,to1,to0⟩:=Zpu g S (by omega) (P.sp (k+1) i hk hi);have w0:=went1 S1 to1 to0;obtain ⟨b1,b2,b3⟩:=T.buf (k+1) i (by omega) hk hi;have lv0:(Xr l BL (k+1) i).1=((k+1:Nat):Int):=(G.nd hk hi).lvl;obtain ⟨bf,ebf⟩:∃ bf,bf=(Xr l BL (k+1) i).2.2.2.1:=⟨_,rfl⟩;have ebf2:bf=(ndT l (k+1) i).2.2.2.1:=ebf;rw [<- ebf2] at b1 b2;have sub:(Bi bf p).Sublist bf:=List.filter_sublist;have sl:=sub.length_le;obtain ⟨ov,eo,v1,v2,v3,v4⟩:=mrg o1 (b1.sublist sub) (by omega) (by omega);obtain ⟨R,s2,L2,t2,⟨b5,e5⟩,told,len,went⟩:=Zog (one:=one) (x0:=x0) g T G hk hi hone hp v1 (by omega) m2 (r1:=(Xr l BL (k+1) i,0,s1)) rfl (fun i s L t p over out a1 a2 a3 a4 a5 a6 a7 a8 a9 a10=>by
   obtain ⟨R,s',L',t',r1,r2,r3,r4⟩:=ih i s L t (k:Int) p over out (by omega) a1 a2 a3 (.inr rfl) a4 a5 a6 a7 a8 a9 a10;exact ⟨R,s',L',t',r1,r2,r3,r4.le (Nat.le_refl _) (by split <;> split <;> omega)⟩) h1 (ndT l (k+1) i).2.1.length 0 s1 L1 (t+1) [] (by omega) S1 (by show t+1+ds l (k+1) i<=_; omega) ⟨List.Pairwise.nil,fun x=>by rw [Vq,dF,Bool.and_false,vS]⟩ (by show out.length+0+1000*ds l (k+1) i<=_; omega)
  have ed:Wo (ds l k) (stR (l.getD (k+1) default) i+0) (ndT l (k+1) i).2.1.length=ds l (k+1) i:=rfl;rw [ed] at len went;rw [List.nil_append] at told;refine ⟨R,s2,L2,t2,⟨b0+b5+2003,fun f hf=>?_⟩,⟨told.rise,fun x=>?_⟩,by omega,w0.trans went (by omega) ?_⟩
  ·obtain ⟨f,rfl⟩:=kS2 f;obtain ⟨b,hb⟩:=Zki (lim:=lim) (out:=out) (p:=p) (over:=over) (e (f+1) (by omega)) (hv.imp id fun z=>⟨by rw [lv0,z],by rw [lv0]; omega⟩);have e5':=e5 f (by omega);rw [List.take_nil,List.append_nil,List.nil_append] at e5';show Q87.f (f+1+1) _ _ _ _ _=_;rw [hb,Q87.l0];dsimp only;rw [iF (by rw [lv0]; simp only [dE]; omega),<- ebf,Zmv p (by omega) b1 (by omega),bS,eo f (by omega),bS];exact e5'
  ·rw [told.fnd];cases ip:inS p x with
   | false=>rfl
   | true=>
    rw [iT (by rfl),iT (by rfl)];unfold Zlz;rw [v3,show Bi bf p=bf.filter fun m=>inS p (Go.SK.T.mk m) from rfl,Gk,iT ip];cases Yi mk over x with
    | some a=>rfl
    | none=>
     rw [Option.none_or,G5,hp x ip,ebf2] <;> rfl
  ·by_cases o:one=true
   ·rw [iT o,iT o,iT (Nat.zero_le _)]; omega
   ·rw [iF o,iF o]; omega
theorem Zrd (g:Geo c N B n) (T:GoodT c l) (P:RowsB c N K h l l.length BL) {s:Shf} {L:List Nat} {t:Nat} (S:ShK c N B n t s L q K h) (ht:t<=700000) (p:Sp) {most:Int} (hm:most<9223372036854775808) {one:Bool} {x0:TQ} (hone:one=true->∀ x,inS p x=true->x=x0) :
  ∃ R s' L' t',Ev (fun f=>Q85.f f s ((BL (l.length - 1) 0:Nat):Int) p most) (R.take most.toNat,0,s')/\RiseK pk R/\(∀ x,Yi pk R x=if inS p x=true then G5 l x (l.length - 1) else none)/\Went c N B n q K h s L t 1000 ((if one=true then l.length - 1 else Zb7 l (l.length - 1) - 1)+if BL (l.length - 1) 0=q then 0 else 1) s' L' t':=by
 obtain ⟨LO,HI,G⟩:=T.gro;have hne:=G.ne;have h6:=T.len;have dt:=Zsh T G;have tl:=Znl T (l.length - 1) (by omega);have ex:∀ lim:Int,0<=lim->lim<9223372036854775808->∃ R s' L' t',Ev (fun f=>Q87.f f (s,lim,[]) ((BL (l.length - 1) 0:Nat):Int) (-1) p []) (0,(s',lim,R.take lim.toNat))/\RiseK pk R/\(∀ x,Yi pk R x=if inS p x=true then G5 l x (l.length - 1) else none)/\Went c N B n q K h s L t 1000 ((if one=true then l.length - 1 else Zb7 l (l.length - 1) - 1)+if BL (l.length - 1) 0=q then 0 else 1) s' L' t':=fun lim h0 h1=>by
  obtain ⟨R,s',L',t',e,told,_,went⟩:=Zsg (one:=one) (x0:=x0) (lim:=lim) g T G P h1 (l.length - 1) 0 s L t (-1) p [] [] (by omega) (by rw [T.top]; exact Nat.one_pos) S (by omega) (.inl rfl) (fun x _=>by rw [Nat.sub_self]; rfl) List.Pairwise.nil (Nat.zero_le _) (fun m hm=>absurd hm (List.not_mem_nil)) (by simp; omega) (by simp; omega) hone;refine ⟨R,s',L',t',?_,told.rise,fun x=>by rw [told.fnd,Bool.and_true]; rfl,went.le (by omega) (by split <;> split <;> omega)⟩;rw [List.nil_append,length_nil,show lim - ((0:Nat):Int)=lim by omega] at e;exact e
 by_cases q1:most<1
 ·obtain ⟨R,_,_,_,_,r1,r2,_⟩:=ex 1 (by decide) (by decide);refine ⟨R,s,L,t,⟨0,fun f _=>?_⟩,r1,r2,Went.refl S _ _⟩;show Q85.f f s _ p most=_;unfold Q85.f;rw [iT (dT q1),show most.toNat=0 by omega]; rfl
 ·obtain ⟨R,s',L',t',⟨b,e⟩,r1,r2,went⟩:=ex most (by omega) hm;cases em:emS p with
  | true=>
   have eR:R=[]:=J1 pk r1 List.Pairwise.nil fun x=>by rw [r2,Zaq em]; rfl
   refine ⟨R,s,L,t,⟨0,fun f _=>?_⟩,r1,r2,Went.refl S _ _⟩;show Q85.f f s _ p most=_;unfold Q85.f;rw [iF (by simpa using q1),W3,bS,em,iT rfl,eR,List.take_nil]
  | false=>
   refine ⟨R,s',L',t',⟨b+1,fun f hf=>?_⟩,r1,r2,went⟩;have e':=e f (by omega);show Q85.f f s _ p most=_;unfold Q85.f;rw [iF (by simpa using q1),W3,bS,em,vS,show Q87.f f _ _ _ _ _=_ from e',bS,vS]
end
theorem Zjc:∀ {M:List Pr} {S:TJ},RiseK pk M->(∀ p∈M,pk p∈S)->M.length<=S.length
 | [],S,_,_=>Nat.zero_le _
 | a :: M,S,h,hs=>by
  obtain ⟨h1,h2⟩:=List.pairwise_cons.1 h;have ha:=hs a List.mem_cons_self;have:=Zjc (S:=S.erase (pk a)) h2 fun p hp=>(List.mem_erase_of_ne (We (h1 p hp)).symm).2 (hs p (List.mem_cons_of_mem _ hp));rw [List.length_erase_of_mem ha] at this;have:=List.length_pos_of_mem ha;rw [length_cons]; omega
section
variable {l:Tre} {LO HI:Nat->Nat->List UInt8} {c:Cfg}
theorem Zks (T:GoodT c l) (G:Gro l LO HI) {ks:TJ} (hk:∀ k i,0<k->k<l.length->i<wd l k->∀ m∈(ndT l k i).2.2.2.1,m.1∈ks) (x:TQ):∀ k,k<l.length->G5 l x k≠none->x∈(Vt (l.getD 0 default)).map pk ++ ks
 | 0,h,hv=>by
  have hi:=G.dn_lt T.top x (l.length - 1) (by omega);rw [Nat.sub_self] at hi;rw [G5] at hv;cases z:Yi pk (ndT l 0 (dn l x (l.length - 1))).2.2.2.2 x with
  | none=>exact absurd z hv
  | some p=>
   obtain ⟨z1,z2⟩:=Zb8 pk z;refine List.mem_append_left _ (List.mem_map.2 ⟨p,List.mem_flatMap.2 ⟨_,Xj (d:=default) hi,z1⟩,z2⟩)
 | k+1,h,hv=>by
  have hi:=G.dn_lt T.top x (l.length - 1 - (k+1)) (by omega);rw [show l.length - 1 - (l.length - 1 - (k+1))=k+1 by omega] at hi;rw [G5] at hv;cases z:Yi mk (ndT l (k+1) (dn l x (l.length - 1 - (k+1)))).2.2.2.1 x with
  | none=>rw [z] at hv; exact Zks T G hk x k (by omega) hv
  | some a=>
   obtain ⟨z1,z2⟩:=Zb8 mk z;have:=hk (k+1) _ (by omega) h hi a z1;rw [show a.1=x from z2] at this;exact List.mem_append_right _ this
end
theorem Zsy (p:Sp):∃ b:Bool,(∀ k,Q138.f k p=some b)/\(b=false->p.1.length<=200/\p.2.1.length<=200):=by
 unfold Q138.f;by_cases h:200<p.1.length
 ·exact ⟨true,fun k=>by rw [iP],fun z=>by cases z⟩
 ·refine ⟨decide ((200:Int)<p.2.1.length),fun k=>by rw [iN],fun z=>?_⟩;have:=of_decide_eq_false z;omega
section
variable {c:Cfg} {N B n t q:Nat} {s:Shf} {L:List Nat} {K:Nat->List Int} {h:Nat->Bool} {l:Tre} {BL:Nat->Nat->Nat} {LO HI:Nat->Nat->List UInt8}
end
theorem Zq1 {p:Sp} {key:TQ} (hk:inS p key=true) (x:TQ):if Op.bytesLess x key=true then inS (key,p.2.1,p.2.2) x=false/\inS (p.1,key,false) x=inS p x else inS (p.1,key,false) x=false/\inS (key,p.2.1,p.2.2) x=inS p x:=by
 obtain ⟨k1,k2⟩:=inS_iff.1 hk;cases q:Op.bytesLess x key with
 | true=>
  have z:(p.2.2 || Op.bytesLess x p.2.1)=true:=by
   rcases k2 with t | t
   ·rw [t,Bool.true_or]
   ·rw [Yw q t,Bool.or_true]
  rw [iT rfl];exact ⟨by simp only [inS,q,Bool.not_true,Bool.false_and],by simp only [inS,q,z,Bool.false_or]⟩
 | false=>
  rw [vS];exact ⟨by simp only [inS,q,Bool.false_or,Bool.and_false],by simp only [inS,q,Vb k1 q]⟩
theorem Zig {R:List Pr} {P:List UInt8->Bool} {V:List UInt8->Option Pr} (r2:∀ x,Yi pk R x=if P x=true then V x else none) {y:Pr} (hy:y∈R):P (pk y)=true/\V (pk y)≠none:=by
 have h:Yi pk R (pk y)≠none:=by unfold Yi; exact fun z=>absurd (dT rfl) (List.find?_eq_none.1 z y hy)
 rw [r2] at h;by_cases q:P (pk y)=true
 ·rw [iT q] at h; exact ⟨q,h⟩
 ·rw [iF q] at h; exact absurd rfl h
theorem Zra {p:Sp} {key:TQ} (hk:inS p key=true) {R0 R1 R2:List Pr} {V:List UInt8->Option Pr} (a1:RiseK pk R0) (a2:∀ x,Yi pk R0 x=if inS p x=true then V x else none) (b1:RiseK pk R1) (b2:∀ x,Yi pk R1 x=if inS (p.1,key,false) x=true then V x else none) (c1:RiseK pk R2) (c2:∀ x,Yi pk R2 x=if inS (key,p.2.1,p.2.2) x=true then V x else none):R1 ++ R2=R0:=by
 refine J1 pk (List.pairwise_append.2 ⟨b1,c1,fun y hy z hz=>?_⟩) a1 fun x=>?_
 ·have e1:=(inS_iff.1 (Zig b2 hy).1).2;have e2:=(inS_iff.1 (Zig c2 hz).1).1;rcases e1 with e | e
  ·cases e
  ·exact Uw e e2
 ·have e:Yi pk (R1 ++ R2) x=(Yi pk R1 x).or (Yi pk R2 x):=by unfold Yi; rw [List.find?_append]
  rw [e,b2,c2,a2];have h:=Zq1 hk x;cases q:Op.bytesLess x key with
  | true=>rw [q,iT rfl] at h; rw [h.1,h.2]; cases inS p x <;> simp
  | false=>rw [q,vS] at h; rw [h.1,h.2]; cases inS p x <;> simp
theorem Zqr {c:Cfg} {l:Tre} (T:GoodT c l) {R:List Pr} (r1:RiseK pk R) {P:List UInt8->Bool} (r2:∀ x,Yi pk R x=if P x=true then G5 l x (l.length - 1) else none):R.length<=250:=by
 obtain ⟨LO,HI,G⟩:=T.gro;obtain ⟨ks,k1,k2⟩:=T.ks;have hne:=G.ne;have h1:=Zjc (S:=(Vt (l.getD 0 default)).map pk ++ ks) r1 fun p hp=>Zks T G k2 (pk p) (l.length - 1) (by omega) (Zig r2 hp).2;have h2:=T.lvs.2.1;rw [lA,length_map] at h1;omega
section
variable {c:Cfg}
theorem Zlr {x:Spc} (hx:∀ y∈x.2.2.2,0<=y/\y<256) (hd:∀ y∈x.2.2.1,0<=y/\y<256) (p:Sp) (key:TQ):∃ k,Q136.f k c x p key=some true:=by
 obtain ⟨R,⟨b0,hb⟩,r⟩:=Zr1 (c:=c) hx hd;obtain ⟨lg,elg,hlg⟩:=Zsy p;rcases r with r | ⟨r,s,N,B,n,t,L,K,h,BL,e,I⟩
 ·refine ⟨b0+3002,?_⟩;unfold Q136.f;rw [show Q132.f (b0+3002) c x=_ from hb _ (by omega),bS];cases e:R.1 with
  | none=>dsimp only [Vn]; rw [r,iT (by rfl),Q136.l0,iT rfl,Zag _ (by omega),bS]
  | some s=>dsimp only [Vn]; rw [r,iT (by rfl),Q136.l1,iT rfl,Zag _ (by omega),bS]
 ·have ht:=I.t1;have rg:∀ {s:Shf} {L:List Nat} {t:Nat} (q:Sp),ShK c N B n t s L 0 K h->t<=700000->∃ F s' L' t',Ev (fun f=>Q85.f f s R.2.1 q 1000) (F,0,s')/\F.length<=250/\RiseK pk F/\(∀ x,Yi pk F x=if inS q x=true then G5 R.2.2.1 x (R.2.2.1.length - 1) else none)/\ShK c N B n t' s' L' 0 K h/\t'<=t+1000:=fun q S u=>by
   obtain ⟨F,s',L',t',e',r1,r2,W⟩:=Zrd (one:=false) (x0:=[]) I.g I.T I.P S u q (most:=1000) (by decide) (fun z=>by cases z);have fl:=Zqr I.T r1 r2;rw [List.take_of_length_le (show F.length<=(1000:Int).toNat by show F.length<=1000; omega),<- I.rt] at e';exact ⟨F,s',L',t',e',fl,r1,r2,W.S,W.t1⟩
  obtain ⟨F0,s2,L2,t2,⟨b2,e2⟩,l0,p0,q0,S2,u2⟩:=rg p I.S (by omega);obtain ⟨F1,s3,L3,t3,⟨b3,e3⟩,l1,p1,q1,S3,u3⟩:=rg (p.1,key,false) S2 (by omega);obtain ⟨F2,s4,L4,t4,⟨b4,e4⟩,l2,p2,q2,_⟩:=rg (key,p.2.1,p.2.2) S3 (by omega);refine ⟨b0+b2+b3+b4+9003,?_⟩;unfold Q136.f;rw [show Q132.f (b0+b2+b3+b4+9003) c x=_ from hb _ (by omega),bS,e];dsimp only [Vn];rw [r,vS,elg,bS];cases lg with
  | true=>rw [iT rfl,Q136.l1,iT rfl,Zag _ (by omega),bS]
  | false=>
   obtain ⟨g1,g2⟩:=hlg rfl;rw [vS,Q136.l1];by_cases kl:key.length<=200
   ·rw [dF,vS,show Q85.f _ s R.2.1 p 1000=_ from e2 _ (by omega),bS,Zln (by omega) (by omega) (by omega) (by omega),bS];cases q:inS p key with
    | false=>rw [iT (by rfl),iU,Zag _ (by omega),bS]
    | true=>
     have tp:=Zra q p0 q0 p1 q1 p2 q2;dsimp only;rw [vS,show Q85.f _ s2 R.2.1 (p.1,key,false) 1000=_ from e3 _ (by omega),bS];dsimp only;rw [show Q85.f _ s3 R.2.1 (key,p.2.1,p.2.2) 1000=_ from e4 _ (by omega),bS];dsimp only;rw [iU,iU,iU,iO,tp,Zjw (by omega) (by omega),bS,iT (dT rfl),Zag _ (by omega),bS]
   ·rw [dT,iT rfl,Zag _ (by omega),bS]
end
theorem Zrv {n1 n2 n3 n4:Nat} {x:Spc} (h:Ty.fit (Gm tt) (.pair (.slice n1 (.pair .str .str)) (.pair (.slice n2 (.pair .str (.pair .bool .str))) (.pair (.slice n3 (.int .u8)) (.slice n4 (.int .u8))))) x):(∀ y∈x.2.2.2,0<=y/\y<256)/\∀ y∈x.2.2.1,0<=y/\y<256:=by
 have h1:IntKind.u8.min=0:=rfl;have h2:IntKind.u8.max=255:=rfl;refine ⟨fun y hy=>?_,fun y hy=>?_⟩
 ·have:=h.2.2.2.2.2 y hy;simp [Ty.fit,Lit.wf] at this;omega
 ·have:=h.2.2.1.2.2 y hy;simp [Ty.fit,Lit.wf] at this;omega
theorem ScanParts_pure {p q r:Prop} {n1 n2 n3 n4:Nat} (c:Cfg) (x:Spc) (s:Sp) (key:TQ) (_:p) (hx:Ty.fit (Gm tt) (.pair (.slice n1 (.pair .str .str)) (.pair (.slice n2 (.pair .str (.pair .bool .str))) (.pair (.slice n3 (.int .u8)) (.slice n4 (.int .u8))))) x) (_:q) (_:r):∃ k,Q136.f k c x s key=some true:=Zlr (Zrv hx).1 (Zrv hx).2 s key
end Go.SK.T
