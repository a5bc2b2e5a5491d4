/- The plain law behind ShelfFlushed: what its code computes is true for all settings and calls. -/
import Derived.Test.YtgdmpkhmedbnpaaGreatDoorXShelfFlushedP0
import Derived.KernelRfl
import Derived.Sort.Walk13a
import Derived.Sort.AssemblyPlain
set_option linter.unusedVariables false
set_option linter.unusedSimpArgs false
namespace Go.SK.T
open Go Go.SK
structure Siz (N B n:Nat):Prop where
 hB:1≤B
 hN:1≤N
 hNB:N*B≤4294967296
 hn:1≤n
 h64:n≤64
section
variable {N B n t:Nat} {H:List Nat} {c:Ca} {L:List Nat}
theorem Siz.N_le (z:Siz N B n):N≤4294967296:=Nat.le_trans (Nat.le_mul_of_pos_right N z.hB) z.hNB
theorem Siz.B_le (z:Siz N B n):B≤4294967296:=Nat.le_trans (Nat.le_mul_of_pos_left B z.hN) z.hNB
theorem B8 (z:Siz N B n) (h:CaI N B n t [] c L) {i f:Nat} (ha:((i:Int),(f:Int))∈c.2.2.1):∃ ch,Q22.f c (f:Int)=some (c.1,c.2.1.set f (0,[],false,0),X8 (i:Int) c.2.2.1,c.2.2.2.1 ++ [(f:Int)],ch)∧CaI N B n t [] (c.1,c.2.1.set f (0,[],false,0),X8 (i:Int) c.2.2.1,c.2.2.2.1 ++ [(f:Int)],ch) (L.erase f):=by
 have ok:=h.atN ha
 have h64:=z.h64
 obtain ⟨r,ch,e,hc⟩:=Zfs h.chn ok.hf (by omega)
 have hfl:=h.frl
 have htot:=h.tot
 have hf:=ok.hf
 refine ⟨ch,?_,h.leave ha h64 hc⟩
 unfold Q22.f
 rw [if_pos (by omega),show Q26.f (c.2.2.2.2.1,c.2.2.2.2.2) (f:Int)=_ from e,Option.bind_some,if_pos (by simp only [List.length_singleton]; omega),show (gt c.2.1 (f:Int)).1=(i:Int) by rw [Z8]; exact ok.blk,Int.toNat_natCast]
theorem Zgb (z:Siz N B n) (h:CaI N B n t H c L) {i f:Nat} (ha:((i:Int),(f:Int))∈c.2.2.1):Q56.f c.1 (gt c.2.1 (f:Int)).1 (gt c.2.1 (f:Int)).2.1=some (0,c.1.1,patch c.1.2.1 (i*B) B (gt c.2.1 (f:Int)).2.1,c.1.2.2.1,IntKind.u64.wrap (c.1.2.2.2+1)):=by
 have ok:=h.atN ha
 have hi:=ok.hi
 have hNl:=z.N_le
 rw [show (gt c.2.1 (f:Int)).1=(i:Int) by rw [Z8]; exact ok.blk]
 have:=Zlo (b:=(gt c.2.1 (f:Int)).2.1) (s:=c.1.2.2) z.hB z.hN h.dim z.hNB (show i<4294967296 by omega)
 rw [← h.dsz] at this
 rw [show Q56.f c.1 (i:Int) (gt c.2.1 (f:Int)).2.1=_ from this,if_neg (by omega),if_pos (by rw [Z8]; exact ok.len)]
theorem CaI.back (z:Siz N B n) (h:CaI N B n t H c L) {i f:Nat} (ha:((i:Int),(f:Int))∈c.2.2.1) (s:TS):CaI N B n t H ((c.1.1,patch c.1.2.1 (i*B) B (gt c.2.1 (f:Int)).2.1,s),c.2.1.set f ((gt c.2.1 (f:Int)).1,(gt c.2.1 (f:Int)).2.1,false,(gt c.2.1 (f:Int)).2.2.2),c.2.2) L:=by
 have ok:=h.atN ha
 have g:gt c.2.1 (f:Int)=c.2.1.getD f default:=Z8 _ _
 have h1:=h.setfr ha (x:=((gt c.2.1 (f:Int)).1,(gt c.2.1 (f:Int)).2.1,false,(gt c.2.1 (f:Int)).2.2.2)) (by rw [g]; exact ok.blk) (by rw [g]; exact ok.len) (by rw [g]; exact ok.pin) (Nat.le_refl t) h.chn (fun k=>by
  split
  ·rename_i q
   subst q
   rw [h.lok k,g]
   exact ⟨fun e=>e.2,fun e=>⟨⟨_,ha⟩,e⟩⟩
  ·exact Iff.rfl)
 exact h1.dev (Ze5 h.dim ok.hi) s
theorem Zm3 (z:Siz N B n) (h:CaI N B n t [] c L) (hw:0≤c.1.2.2.2∧c.1.2.2.2≤1000000000):Q24.f c=some (0,false,c)∨
  ∃(f:Nat) (c':Ca) (L':List Nat),Q24.f c=some ((f:Int),true,c')∧CaI N B n t [f] c' L'∧c'.1.2.2.1=c.1.2.2.1∧(c.1.2.2.2≤c'.1.2.2.2∧c'.1.2.2.2≤c.1.2.2.2+1)∧∀ p∈c'.2.2.1,p∈c.2.2.1:=by
 have h64:=z.h64
 have htot:=h.tot
 have hfl:=h.frl
 have wr:IntKind.u64.wrap (c.1.2.2.2+1)=c.1.2.2.2+1:=by
  obtain ⟨m,hm⟩:=Int.eq_ofNat_of_zero_le hw.1
  have:c.1.2.2.2+1=((m+1:Nat):Int):=by omega
  rw [this]
  simp [IntKind.wrap,IntKind.bits,IntKind.signed]
  omega
 by_cases he:c.2.2.2.1=[]
 ·have e0:(decide ((c.2.2.2.1.length:Int)=0))=true:=by rw [he]; rfl
  rcases List.eq_nil_or_concat L with rfl | ⟨L0,q,hq⟩
  ·left
   unfold Q24.f
   rw [if_pos e0,show Q28.f (c.2.2.2.2.1,c.2.2.2.2.2)=_ from Ze7 h.chn,Option.bind_some,if_pos (by simp)]
  ·right
   rw [List.concat_eq_append] at hq
   subst hq
   obtain ⟨⟨j,hj⟩,hp⟩:=(h.lok q).1 (by simp)
   obtain ⟨i,q',rfl,e2,ok⟩:=h.at hj
   have:q=q':=by omega
   subst this
   have hf:=ok.hf
   unfold Q24.f
   rw [if_pos e0,show Q28.f (c.2.2.2.2.1,c.2.2.2.2.2)=_ from Zmw h.chn (by omega),Option.bind_some,if_neg (by simp)]
   try dsimp only
   rw [if_pos (by omega)]
   have one:w64 ((([] ++ [(q:Int)]:List Int).length:Int) - 1)=0:=by
    show w64 (((1:Nat):Int) - 1)=0
    decide
   by_cases hd:(gt c.2.1 (q:Int)).2.2.1=true
   ·have hb:=h.back z hj (c.1.2.2.1,c.1.2.2.2+1)
    obtain ⟨ch,e,hl⟩:=B8 z hb (by exact hj)
    rw [if_pos hd,show Q56.f (c.1.1,c.1.2.1,(c.1.2.2.1,c.1.2.2.2)) (gt c.2.1 (q:Int)).1 (gt c.2.1 (q:Int)).2.1=_ from Zgb z h hj,Option.bind_some]
    try dsimp only
    rw [wr,Int.toNat_natCast,show Q22.f ((c.1.1,patch c.1.2.1 (i*B) B (gt c.2.1 (q:Int)).2.1,c.1.2.2.1,c.1.2.2.2+1),c.2.1.set q ((gt c.2.1 (q:Int)).1,(gt c.2.1 (q:Int)).2.1,false,(gt c.2.1 (q:Int)).2.2.2),c.2.2.1,c.2.2.2.1,c.2.2.2.2.1,c.2.2.2.2.2) (q:Int)=_ from e,Option.bind_some]
    try dsimp only
    rw [he,one,if_pos (by simp),if_pos (by simp)]
    refine ⟨q,_,_,rfl,hl.take (E:=[]) (by dsimp only; rw [he]),rfl,by dsimp only; omega,fun p hp=>mdel_sub.subset hp⟩
   ·obtain ⟨ch,e,hl⟩:=B8 z h hj
    rw [if_neg hd,show Q22.f ((c.1.1,c.1.2.1,(c.1.2.2.1,c.1.2.2.2)),c.2.1,c.2.2.1,c.2.2.2.1,(c.2.2.2.2.1,c.2.2.2.2.2)) (q:Int)=_ from e,Option.bind_some]
    try dsimp only
    rw [he,one,if_pos (by simp),if_pos (by simp)]
    refine ⟨q,_,_,rfl,hl.take (E:=[]) (by dsimp only; rw [he]),rfl,by dsimp only; omega,fun p hp=>mdel_sub.subset hp⟩
 ·right
  obtain ⟨E,x,hx⟩:∃ E x,c.2.2.2.1=E ++ [x]:=by
   rcases List.eq_nil_or_concat c.2.2.2.1 with e | ⟨E,x,e⟩
   ·exact absurd e he
   ·exact ⟨E,x,by rw [e,List.concat_eq_append]⟩
  obtain ⟨f,rfl,hf⟩:=h.emp x (by rw [hx]; simp)
  have hll:c.2.2.2.1.length=E.length+1:=by rw [hx]; simp
  have e1:w64 ((c.2.2.2.1.length:Int) - 1)=(E.length:Int):=by rw [Zy (by omega) (by omega)]; omega
  unfold Q24.f
  rw [if_neg (by simp only [decide_eq_true_eq]; omega),e1,if_pos (by omega),if_pos (by omega),Int.toNat_natCast]
  have e2:gt c.2.2.2.1 (E.length:Int)=(f:Int):=by
   rw [Z8,hx,List.getD_eq_getElem?_getD,List.getElem?_append_right (Nat.le_refl _)]; simp
  have e3:c.2.2.2.1.take E.length=E:=by rw [hx,List.take_left]
  rw [e2,e3]
  exact ⟨f,_,_,rfl,h.take hx,rfl,by dsimp only; omega,fun p hp=>hp⟩
end
section
variable {N B n t:Nat} {c:Ca} {L:List Nat}
structure Costs (N B n t:Nat) (a b:Nat) (c c':Ca):Prop where
 inv:∃ L,CaI N B n t [] c' L
 rd:c.1.2.2.1≤c'.1.2.2.1∧c'.1.2.2.1≤c.1.2.2.1+a
 wr:c.1.2.2.2≤c'.1.2.2.2∧c'.1.2.2.2≤c.1.2.2.2+b
theorem Costs.same (h:CaI N B n t [] c L) (a b:Nat):Costs N B n t a b c c:=⟨⟨L,h⟩,by omega,by omega⟩
structure Few (c:Ca):Prop where
 rd:0≤c.1.2.2.1∧c.1.2.2.1≤100000000
 wr:0≤c.1.2.2.2∧c.1.2.2.2≤100000000
theorem Zi5 {x:Int} (h:0≤x∧x≤1000000000):IntKind.u64.wrap (x+1)=x+1:=by
 obtain ⟨m,hm⟩:=Int.eq_ofNat_of_zero_le h.1
 have:x+1=((m+1:Nat):Int):=by omega
 rw [this]
 simp [IntKind.wrap,IntKind.bits,IntKind.signed]
 omega
theorem Znk (z:Siz N B n) {H:List Nat} (h:CaI N B n t H c L):Q53.f c.1=some (N:Int):=by
 have:=U5 (s:=c.1.2.2) z.hB h.dim z.hNB
 rw [← h.dsz] at this
 exact this
theorem Zkw (z:Siz N B n) {H:List Nat} (h:CaI N B n t H c L) (i:Nat) (hi:i<4294967296):Q25.f c (i:Int)=some (if N≤i then 4 else 0):=by
 have hN:=z.N_le
 unfold Q25.f Q23.f
 rw [Option.bind_some,if_neg (by simp),show Q53.f (c.1.1,c.1.2.1,(c.1.2.2.1,c.1.2.2.2))=_ from Znk z h,Option.bind_some,Zy (x:=(i:Int)) (by omega) (by omega)]
 by_cases q:N≤i
 ·rw [if_pos (decide_eq_true (by omega)),if_pos q]
 ·rw [if_neg (by simp only [decide_eq_true_eq]; omega),if_neg q]
theorem Zox (z:Siz N B n) {H:List Nat} (h:CaI N B n t H c L) {i:Nat} (hi:i<N):Q55.f c.1 (i:Int)=some (blk c.1.2.1 B i,0,(c.1.1,c.1.2.1,IntKind.u64.wrap (c.1.2.2.1+1),c.1.2.2.2)):=by
 have hN:=z.N_le
 have:=Zh4 (s:=c.1.2.2) z.hB z.hN h.dim z.hNB (show i<4294967296 by omega)
 rw [← h.dsz] at this
 rw [show Q55.f c.1 (i:Int)=_ from this,if_neg (by omega)]
theorem Zel {es:TJ} {x v:Int} (h:∀ v,(x,v)∉es):Vt x v es=es ++ [(x,v)]:=Zch (by
 cases q:Y1 es x with
 | false=>rfl
 | true=>obtain ⟨v,hv⟩:=mhas_iff.1 q; exact absurd hv (h v))
theorem Zem (h:CaI N B n t [] c L) {f:Nat} {p:Int} (hp:p≠0) (g:Nat):g∈L.erase f↔if g=f then p=0 else g∈L:=by
 rw [h.chn.nd.mem_erase_iff]
 split
 ·rename_i e; exact ⟨fun q=>absurd e q.1,fun q=>absurd q hp⟩
 ·rename_i e; exact ⟨fun q=>q.2,fun q=>⟨e,q⟩⟩
theorem Zl4 (h:CaI N B n t [] c L) {i f:Nat} (ha:((i:Int),(f:Int))∈c.2.2.1) (g:Nat):g∈L↔if g=f then (c.2.1.getD f default).2.2.2=0 else g∈L:=by
 split
 ·rename_i q
  subst q
  rw [h.lok g]
  exact ⟨fun e=>e.2,fun e=>⟨⟨_,ha⟩,e⟩⟩
 ·exact Iff.rfl
end
section
variable {N B n t:Nat} {c:Ca} {L:List Nat}
def J6 (fr:List Fr8) (mp:TJ) (i:Int):Bool:=(gt fr (Zq 0 mp i)).2.2.1
def Wr (c:Ca):List Int:=(c.2.2.1.map Prod.fst).mergeSort fun x y=>decide (x≤y)
theorem Vf (c:Ca):(Wr c).Perm (c.2.2.1.map Prod.fst):=List.mergeSort_perm _ _
theorem Zn3 (z:Siz N B n) (h:CaI N B n t [] c L):Q166.f c.2.2.1=some (Wr c):=by
 have h64:=z.h64
 have hN:=z.N_le
 have hu:=h.used
 unfold Q166.f
 rw [if_pos ?_]
 ·rfl
 ·unfold U7
  simp only [Bool.and_eq_true,decide_eq_true_eq,List.all_eq_true]
  refine ⟨by omega,h.mnd,fun p hp=>?_⟩
  obtain ⟨i,f,e,ok⟩:=h.mok p hp
  have h1:=ok.hi
  have h2:=ok.hf
  rw [e]
  simp [Lit.wf,IntKind.min,IntKind.max,IntKind.signed,IntKind.bits]
  omega
theorem Zgm (h:CaI N B n t [] c L) {x:Int} (hx:x∈Wr c):∃ i f:Nat,x=(i:Int)∧((i:Int),(f:Int))∈c.2.2.1∧Zq 0 c.2.2.1 x=(f:Int)∧Okf N B n t c i f:=by
 have:=(Vf c).mem_iff.1 hx
 obtain ⟨p,hp,rfl⟩:=List.mem_map.1 this
 obtain ⟨i,f,e1,e2,ok⟩:=h.at (i:=p.1) (f:=p.2) hp
 have hp':((i:Int),(f:Int))∈c.2.2.1:=by rw [← e1,← e2]; exact hp
 exact ⟨i,f,e1,hp',by rw [e1]; exact Xu h.mnd hp',ok⟩
theorem Zb2 (z:Siz N B n) (h:CaI N B n t [] c L):∀(m j k:Nat) (acc:TU),(Wr c).length=j+m→m<k→acc.length+m≤1000→Q14.l0 k c (Wr c) acc (j:Int)=some (acc ++ ((Wr c).drop j).filter (J6 c.2.1 c.2.2.1))
 | 0,j,k+1,acc,hj,hk,ha=>by
  have hl:(Wr c).length≤64:=by rw [(Vf c).length_eq,List.length_map]; have:=h.used; have:=z.h64; omega
  rw [Q14.l0,if_neg (by simp only [decide_eq_true_eq]; omega),List.drop_eq_nil_of_le (by omega)]; simp
 | m+1,j,k+1,acc,hj,hk,ha=>by
  have hl:(Wr c).length≤64:=by rw [(Vf c).length_eq,List.length_map]; have:=h.used; have:=z.h64; omega
  have hjl:j<(Wr c).length:=by omega
  obtain ⟨i,f,e1,hp,e2,ok⟩:=Zgm h (x:=(Wr c).getD j default) (Xs hjl)
  have hf:=ok.hf
  have hfl:=h.frl
  rw [Q14.l0,if_pos (decide_eq_true (by omega)),if_pos (by omega),Z8,e2,if_pos (by omega),Yi hjl,List.filter_cons]
  have hd:J6 c.2.1 c.2.2.1 ((Wr c).getD j default)=(gt c.2.1 (f:Int)).2.2.1:=by unfold J6; rw [e2]
  rw [hd]
  by_cases q:(gt c.2.1 (f:Int)).2.2.1=true
  ·rw [if_pos q,if_pos q,if_pos (by simp only [List.length_singleton]; omega),Z9 (by omega),Zb2 z h m (j+1) k _ (by omega) (by omega) (by rw [List.length_append,List.length_singleton]; omega),List.append_assoc]; rfl
  ·rw [if_neg q,if_neg q,Z9 (by omega),Zb2 z h m (j+1) k _ (by omega) (by omega) (by omega)]
def Vx (c:Ca):List Int:=(Wr c).filter (J6 c.2.1 c.2.2.1)
theorem Zoy (z:Siz N B n) (h:CaI N B n t [] c L) {k:Nat} (hk:100<k):Q14.f k c=some (Vx c):=by
 have hl:(Wr c).length≤64:=by rw [(Vf c).length_eq,List.length_map]; have:=h.used; have:=z.h64; omega
 unfold Q14.f Q23.f
 rw [Option.bind_some,if_neg (by simp),Zn3 z h,Option.bind_some]
 exact Zb2 z h (Wr c).length 0 k [] (by omega) (by omega) (by simp; omega)
theorem Bi (z:Siz N B n) (h:CaI N B n t [] c L):(Vx c).length≤n:=by
 have h1:=List.length_filter_le (J6 c.2.1 c.2.2.1) (Wr c)
 have h2:(Wr c).length=c.2.2.1.length:=by rw [(Vf c).length_eq,List.length_map]
 have h3:=h.used
 unfold Vx
 omega
def cR (kd:Int):Nat:=if kd=0∨kd=1 then 1 else 0
def cW (n:Nat) (kd:Int):Nat:=if kd=0∨kd=1∨kd=2 then 1 else if kd=8 then n else 0
theorem Costs.le {a a' b b' t':Nat} {c c':Ca} (h:Costs N B n t a b c c') (ht:t≤t') (ha:a≤a') (hb:b≤b'):Costs N B n t' a' b' c c':=
 ⟨by obtain ⟨L,hL⟩:=h.inv; exact ⟨L,hL.mono ht⟩,by have:=h.rd; omega,by have:=h.wr; omega⟩
theorem Zoa (z:Siz N B n) {img:TU} (hl:img.length=N*B) (s:TS) {ch:Chn} (hc:ChI n ch []):CaI N B n 0 [] (((B:Int),img,s),List.replicate n (0,[],false,0),[],(List.range n).map (fun(i:Nat)=>(i:Int)),ch) []:=by
 refine ⟨rfl,hl,by simp,by simp,by simp,fun x hx=>?_,?_,by simp,by simp,hc,by simp⟩
 ·obtain ⟨i,hi,rfl⟩:=List.mem_map.1 hx
  exact ⟨i,rfl,List.mem_range.1 hi⟩
 ·exact List.Pairwise.map _ (fun a b hne e=>hne (by have:(a:Int)=(b:Int):=e; omega)) List.nodup_range
end
def upd {α:Type} (g:Nat→α) (i:Nat) (v:α):Nat→α:=fun j=>if j=i then v else g j
theorem Yc {α:Type} (g:Nat→α) (i:Nat) (v:α):upd g i v i=v:=if_pos rfl
theorem Yf {α:Type} {g:Nat→α} {i j:Nat} {v:α} (h:j≠i):upd g i v j=g j:=if_neg h
structure Fm where
 b:List Int
 d:Bool
 p:Nat
structure MC where
 img:List Int
 rd:Int
 wr:Int
 fr:Nat→Option Fm
 used:Nat
 row:List Nat
def fm (x:Fr8):Fm:=⟨x.2.1,x.2.2.1,x.2.2.2.toNat⟩
def Xj (c:Ca) (i:Nat):Option Fm:=if Y1 c.2.2.1 (i:Int)=true then some (fm (c.2.1.getD (Zq 0 c.2.2.1 (i:Int)).toNat default)) else none
def Xx (c:Ca) (f:Nat):Nat:=(c.2.1.getD f default).1.toNat
def Z2 (c:Ca) (L:List Nat):MC:=⟨c.1.2.1,c.1.2.2.1,c.1.2.2.2,Xj c,c.2.2.1.length,L.map (Xx c)⟩
namespace MC
def evict (B:Nat) (m:MC) (q:Nat):MC:=match m.fr q with
 | none=>m
 | some x=>⟨if x.d=true then patch m.img (q*B) B x.b else m.img,m.rd,if x.d=true then m.wr+1 else m.wr,upd m.fr q none,m.used - 1,m.row.erase q⟩
def room (B n:Nat) (m:MC):Option MC:=if m.used<n then some m else match m.row.getLast? with
 | none=>none
 | some q=>some (m.evict B q)
def come (m:MC) (i:Nat) (x:Fm):MC:=⟨m.img,m.rd,m.wr,upd m.fr i (some x),m.used+1,m.row⟩
def put (m:MC) (i:Nat) (x:Fm):MC:=⟨m.img,m.rd,m.wr,upd m.fr i (some x),m.used,m.row⟩
def cut (m:MC) (i:Nat):MC:=⟨m.img,m.rd,m.wr,m.fr,m.used,m.row.erase i⟩
def pin (N B n:Nat) (m:MC) (i:Nat):Int×MC:=
 if N≤i then (4,m) else match m.fr i with
 | some x=>(0,(m.put i ⟨x.b,x.d,x.p+1⟩).cut i)
 | none=>match m.room B n with
  | none=>(7,m)
  | some k=>(0,(⟨k.img,k.rd+1,k.wr,k.fr,k.used,k.row⟩:MC).come i ⟨blk k.img B i,false,1⟩)
def fresh (N B n:Nat) (m:MC) (i:Nat):Int×MC:=
 if N≤i then (4,m) else match m.fr i with
 | some x=>if 0<x.p then (8,m) else (0,(m.put i ⟨List.replicate B 0,true,1⟩).cut i)
 | none=>match m.room B n with
  | none=>(7,m)
  | some k=>(0,k.come i ⟨List.replicate B 0,true,1⟩)
def unpin (m:MC) (i:Nat):Int×MC:=match m.fr i with
 | none=>(8,m)
 | some x=>if x.p=0 then (8,m) else (0,if x.p=1 then ⟨m.img,m.rd,m.wr,upd m.fr i (some ⟨x.b,x.d,0⟩),m.used,i :: m.row⟩ else m.put i ⟨x.b,x.d,x.p - 1⟩)
def write (B:Nat) (m:MC) (i:Nat) (b:TU):Int×MC:=match m.fr i with
 | none=>(8,m)
 | some x=>if x.p=0 then (8,m) else if b.length=B then (0,m.put i ⟨b,true,x.p⟩) else (3,m)
def read (m:MC) (i:Nat):List Int×Int:=match m.fr i with
 | none=>([],8)
 | some x=>if x.p=0 then ([],8) else (x.b,0)
def drop (m:MC) (i:Nat):Int×MC:=match m.fr i with
 | none=>(0,m)
 | some x=>if 0<x.p then (8,m) else (0,⟨m.img,m.rd,m.wr,upd m.fr i none,m.used - 1,m.row.erase i⟩)
def isD (m:MC) (i:Nat):Bool:=match m.fr i with
 | none=>false
 | some x=>x.d
def dirty (N:Nat) (m:MC):List Nat:=(List.range N).filter m.isD
def backI (B:Nat) (m:MC) (i:Nat):MC:=match m.fr i with
 | none=>m
 | some x=>⟨patch m.img (i*B) B x.b,m.rd,m.wr+1,upd m.fr i (some ⟨x.b,false,x.p⟩),m.used,m.row⟩
def flush (N B:Nat) (m:MC):MC:=(m.dirty N).foldl (backI B) m
def pins (m:MC) (i:Nat):Int:=match m.fr i with
 | none=>0
 | some x=>x.p
end MC
theorem MC.ext' {a b:MC} (h1:a.img=b.img) (h2:a.rd=b.rd) (h3:a.wr=b.wr) (h4:∀ i,a.fr i=b.fr i) (h5:a.used=b.used) (h6:a.row=b.row):a=b:=by
 cases a; cases b
 simp only at h1 h2 h3 h4 h5 h6
 subst h1 h2 h3 h5 h6
 have:=funext h4
 subst this
 rfl
theorem Zam {g:Nat→Nat}:∀ {L:List Nat} {a:Nat},(∀ x∈L,g x=g a→x=a)→(L.erase a).map g=(L.map g).erase (g a)
 | [],_,_=>rfl
 | x :: L,a,h=>by
  rw [List.map_cons,List.erase_cons,List.erase_cons]
  by_cases q:x=a
  ·subst q; simp
  ·have:¬ g x=g a:=fun e=>q (h x (by simp) e)
   simp only [beq_iff_eq,q,this,if_false,List.map_cons]
   rw [Zam fun y hy=>h y (by simp [hy])]
section
variable {N B n t:Nat} {H:List Nat} {c:Ca} {L:List Nat}
theorem Wi (h:CaI N B n t H c L) {i f:Nat} (ha:((i:Int),(f:Int))∈c.2.2.1):Xj c i=some (fm (c.2.1.getD f default)):=by
 unfold Xj
 rw [if_pos (mhas_iff.2 ⟨_,ha⟩),Xu h.mnd ha,Int.toNat_natCast]
theorem Ue {i:Nat} (h:∀ v,((i:Int),v)∉c.2.2.1):Xj c i=none:=by
 unfold Xj
 rw [if_neg fun q=>by obtain ⟨v,hv⟩:=mhas_iff.1 q; exact h v hv]
theorem Vl (h:CaI N B n t [] c L) {f:Nat} (hf:f∈L):∃ i:Nat,((i:Int),(f:Int))∈c.2.2.1∧Xx c f=i∧(c.2.1.getD f default).2.2.2=0∧Okf N B n t c i f:=by
 obtain ⟨⟨j,hj⟩,hp⟩:=(h.lok f).1 hf
 obtain ⟨i,f',e1,e2,ok⟩:=h.at hj
 have:f=f':=by omega
 subst this
 refine ⟨i,by rw [← e1]; exact hj,?_,hp,ok⟩
 unfold Xx
 rw [ok.blk,Int.toNat_natCast]
theorem Jv (h:CaI N B n t H c L) {i f:Nat} (ha:((i:Int),(f:Int))∈c.2.2.1):Xx c f=i:=by
 unfold Xx; rw [(h.atN ha).blk,Int.toNat_natCast]
theorem Zav (h:CaI N B n t H c L) {i f f':Nat} (h1:((i:Int),(f:Int))∈c.2.2.1) (h2:((i:Int),(f':Int))∈c.2.2.1):f=f':=by
 have a1:=Xu (d:=0) h.mnd h1
 have a2:=Xu (d:=0) h.mnd h2
 omega
theorem Jb (h:CaI N B n t [] c L) {i f:Nat} (ha:((i:Int),(f:Int))∈c.2.2.1):(L.erase f).map (Xx c)=(L.map (Xx c)).erase i:=by
 have e:=Jv h ha
 conv=>rhs; rw [← e]
 refine Zam fun x hx q=>?_
 obtain ⟨j,hj,e2,_⟩:=Vl h hx
 have:j=i:=by omega
 subst this
 exact Zav h hj ha
theorem Znx (h:CaI N B n t [] c L) {i f:Nat} (ha:((i:Int),(f:Int))∈c.2.2.1):i∈L.map (Xx c)↔f∈L:=by
 constructor
 ·intro q
  obtain ⟨x,hx,e⟩:=List.mem_map.1 q
  obtain ⟨j,hj,e2,_⟩:=Vl h hx
  have:j=i:=by omega
  subst this
  rw [← Zav h hj ha]; exact hx
 ·intro q
  exact List.mem_map.2 ⟨f,q,Jv h ha⟩
theorem Zd4 {f:Nat} {x:Fr8} (hf:f<c.2.1.length) {d:Dv} {mp:TJ} {E:TU} {ch:Chn} (k:Nat):Xx (d,c.2.1.set f x,mp,E,ch) k=if f=k then x.1.toNat else Xx c k:=by
 unfold Xx
 try dsimp only
 rw [Y8 hf]
 split <;> rfl
theorem Wm {f:Nat} {x:Fr8} (hf:f<c.2.1.length) (hx:x.1.toNat=Xx c f) {d:Dv} {mp:TJ} {E:TU} {ch:Chn} (M:List Nat):M.map (Xx (d,c.2.1.set f x,mp,E,ch))=M.map (Xx c):=List.map_congr_left fun k _=>by
 rw [Zd4 hf]
 split
 ·rename_i q; rw [hx,q]
 ·rfl
theorem V5 {f:Nat} {x:Fr8} (hf:f<c.2.1.length) {d:Dv} {mp:TJ} {E:TU} {ch:Chn} {M:List Nat} (hM:f∉M):M.map (Xx (d,c.2.1.set f x,mp,E,ch))=M.map (Xx c):=List.map_congr_left fun k hk=>by
 rw [Zd4 hf,if_neg fun q=>hM (by rw [q]; exact hk)]
theorem Uc (h:CaI N B n t H c L) {i f:Nat} (ha:((i:Int),(f:Int))∈c.2.2.1) {x:Fr8} {d:Dv} {E:TU} {ch:Chn} (j:Nat):Xj (d,c.2.1.set f x,c.2.2.1,E,ch) j=upd (Xj c) i (some (fm x)) j:=by
 have ok:=h.atN ha
 have hfl:f<c.2.1.length:=by rw [h.frl]; exact ok.hf
 by_cases q:j=i
 ·subst q
  rw [Yc]
  unfold Xj
  try dsimp only
  rw [if_pos (mhas_iff.2 ⟨_,ha⟩),Xu h.mnd ha,Int.toNat_natCast,Y8 hfl,if_pos rfl]
 ·rw [Yf q]
  unfold Xj
  try dsimp only
  split
  ·rename_i hm
   obtain ⟨v,hv⟩:=mhas_iff.1 hm
   obtain ⟨j',f',e1,rfl,ok'⟩:=h.at hv
   have e3:j=j':=by omega
   subst e3
   rw [Xu h.mnd hv,Int.toNat_natCast,Y8 hfl,if_neg]
   intro e; subst e; exact q (h.one hv ha)
  ·rfl
theorem Zey (h:CaI N B n t H c L) (i j:Nat):Y1 (X8 (i:Int) c.2.2.1) (j:Int)=(Y1 c.2.2.1 (j:Int) && decide (j≠i)):=by
 rw [Bool.eq_iff_iff,mhas_iff,Bool.and_eq_true,mhas_iff,decide_eq_true_eq]
 constructor
 ·rintro ⟨v,hv⟩
  rw [Ud h.mnd] at hv
  exact ⟨⟨v,hv.1⟩,fun e=>hv.2 (by rw [e])⟩
 ·rintro ⟨⟨v,hv⟩,e⟩
  exact ⟨v,(Ud h.mnd).2 ⟨hv,fun q=>e (by have:(j:Int)=i:=q; omega)⟩⟩
theorem G8 (h:CaI N B n t H c L) {i f:Nat} (ha:((i:Int),(f:Int))∈c.2.2.1) {x:Fr8} {d:Dv} {E:TU} {ch:Chn} (j:Nat):Xj (d,c.2.1.set f x,X8 (i:Int) c.2.2.1,E,ch) j=upd (Xj c) i none j:=by
 have ok:=h.atN ha
 have hfl:f<c.2.1.length:=by rw [h.frl]; exact ok.hf
 by_cases q:j=i
 ·subst q
  rw [Yc]
  unfold Xj
  try dsimp only
  rw [if_neg (by rw [Zey h]; simp)]
 ·rw [Yf q]
  unfold Xj
  try dsimp only
  rw [Zey h]
  by_cases hm:Y1 c.2.2.1 (j:Int)=true
  ·obtain ⟨v,hv⟩:=mhas_iff.1 hm
   obtain ⟨j',f',e1,rfl,ok'⟩:=h.at hv
   have e3:j=j':=by omega
   subst e3
   have hv':((j:Int),(f':Int))∈X8 (i:Int) c.2.2.1:=(Ud h.mnd).2 ⟨hv,fun e=>q (by have:(j:Int)=i:=e; omega)⟩
   rw [if_pos (by rw [hm]; simp [q]),if_pos hm,Xu ((mdel_sub.map _).nodup h.mnd) hv',Xu h.mnd hv,Int.toNat_natCast,Y8 hfl,if_neg]
   intro e; subst e; exact q (h.one hv ha)
  ·rw [if_neg hm,if_neg (by simp [hm])]
theorem Zd9 {f:Nat} (h:CaI N B n t [f] c L) {i:Nat} (hno:∀ v,((i:Int),v)∉c.2.2.1) {x:Fr8} {d:Dv} {E:TU} {ch:Chn} (j:Nat):Xj (d,c.2.1.set f x,c.2.2.1 ++ [((i:Int),(f:Int))],E,ch) j=upd (Xj c) i (some (fm x)) j:=by
 obtain ⟨hf,hfe,hfm⟩:=h.hol f (by simp)
 have hfl:f<c.2.1.length:=by rw [h.frl]; exact hf
 have hnd:((c.2.2.1 ++ [((i:Int),(f:Int))]).map Prod.fst).Nodup:=by
  rw [List.map_append,List.nodup_append]
  refine ⟨h.mnd,by simp,fun a ha b hb e=>?_⟩
  obtain ⟨p,hp,rfl⟩:=List.mem_map.1 ha
  simp only [List.map_cons,List.map_nil,List.mem_singleton] at hb
  exact hno p.2 (by rw [← hb,← e]; exact hp)
 unfold Xj
 try dsimp only
 by_cases q:j=i
 ·subst q
  have hv:((j:Int),(f:Int))∈c.2.2.1 ++ [((j:Int),(f:Int))]:=by simp
  rw [Yc,if_pos (mhas_iff.2 ⟨_,hv⟩),Xu hnd hv,Int.toNat_natCast,Y8 hfl,if_pos rfl]
 ·rw [Yf q]
  by_cases hm:Y1 c.2.2.1 (j:Int)=true
  ·obtain ⟨v,hv⟩:=mhas_iff.1 hm
   obtain ⟨j',f',e1,rfl,ok'⟩:=h.at hv
   have e3:j=j':=by omega
   subst e3
   have hv':((j:Int),(f':Int))∈c.2.2.1 ++ [((i:Int),(f:Int))]:=by simp [hv]
   rw [if_pos (mhas_iff.2 ⟨_,hv'⟩),if_pos hm,Xu hnd hv',Xu h.mnd hv,Int.toNat_natCast,Y8 hfl,if_neg]
   intro e; subst e; exact hfm _ hv
  ·rw [if_neg hm,if_neg]
   intro hm2
   obtain ⟨v,hv⟩:=mhas_iff.1 hm2
   rcases List.mem_append.1 hv with hv | hv
   ·exact hm (mhas_iff.2 ⟨v,hv⟩)
   ·rw [List.mem_singleton,Prod.mk.injEq] at hv
    exact q (by omega)
theorem Zn0 (h:CaI N B n t H c L) {i:Nat} {x:Fm} (hx:Xj c i=some x):i<N∧x.b.length=B∧x.p≤t:=by
 unfold Xj at hx
 split at hx
 ·rename_i hm
  obtain ⟨v,hv⟩:=mhas_iff.1 hm
  obtain ⟨j',f',e1,rfl,ok'⟩:=h.at hv
  have e3:i=j':=by omega
  subst e3
  rw [Xu h.mnd hv,Int.toNat_natCast] at hx
  injection hx with hx
  subst hx
  refine ⟨ok'.hi,ok'.len,?_⟩
  have:=ok'.pin
  unfold fm
  try dsimp only
  omega
 ·cases hx
end
namespace MC
section
variable {N B n i:Nat} {m k:MC} {x:Fm} {b:TU}
theorem pin_out (h:N≤i):m.pin N B n i=(4,m):=by unfold pin; rw [if_pos h]
theorem pin_hit (h:¬ N≤i) (e:m.fr i=some x):m.pin N B n i=(0,(m.put i ⟨x.b,x.d,x.p+1⟩).cut i):=by unfold pin; rw [if_neg h,e]
theorem pin_full (h:¬ N≤i) (e:m.fr i=none) (r:m.room B n=none):m.pin N B n i=(7,m):=by unfold pin; rw [if_neg h,e,r]
theorem pin_miss (h:¬ N≤i) (e:m.fr i=none) (r:m.room B n=some k):m.pin N B n i=(0,(⟨k.img,k.rd+1,k.wr,k.fr,k.used,k.row⟩:MC).come i ⟨blk k.img B i,false,1⟩):=by unfold pin; rw [if_neg h,e,r]
theorem fresh_out (h:N≤i):m.fresh N B n i=(4,m):=by unfold fresh; rw [if_pos h]
theorem fresh_pin (h:¬ N≤i) (e:m.fr i=some x) (p:0<x.p):m.fresh N B n i=(8,m):=by unfold fresh; rw [if_neg h,e]; exact if_pos p
theorem fresh_hit (h:¬ N≤i) (e:m.fr i=some x) (p:¬ 0<x.p):m.fresh N B n i=(0,(m.put i ⟨List.replicate B 0,true,1⟩).cut i):=by unfold fresh; rw [if_neg h,e]; exact if_neg p
theorem fresh_full (h:¬ N≤i) (e:m.fr i=none) (r:m.room B n=none):m.fresh N B n i=(7,m):=by unfold fresh; rw [if_neg h,e,r]
theorem fresh_miss (h:¬ N≤i) (e:m.fr i=none) (r:m.room B n=some k):m.fresh N B n i=(0,k.come i ⟨List.replicate B 0,true,1⟩):=by unfold fresh; rw [if_neg h,e,r]
theorem unpin_no (e:m.fr i=none):m.unpin i=(8,m):=by unfold unpin; rw [e]
theorem unpin_out (e:m.fr i=some x) (p:x.p=0):m.unpin i=(8,m):=by unfold unpin; rw [e]; exact if_pos p
theorem unpin_one (e:m.fr i=some x) (p:x.p=1):m.unpin i=(0,⟨m.img,m.rd,m.wr,upd m.fr i (some ⟨x.b,x.d,0⟩),m.used,i :: m.row⟩):=by unfold unpin; rw [e]; dsimp only; rw [if_neg (by omega),if_pos p]
theorem unpin_more (e:m.fr i=some x) (p:x.p≠0) (q:x.p≠1):m.unpin i=(0,m.put i ⟨x.b,x.d,x.p - 1⟩):=by unfold unpin; rw [e]; dsimp only; rw [if_neg p,if_neg q]
theorem write_no (e:m.fr i=none):m.write B i b=(8,m):=by unfold write; rw [e]
theorem write_out (e:m.fr i=some x) (p:x.p=0):m.write B i b=(8,m):=by unfold write; rw [e]; exact if_pos p
theorem write_form (e:m.fr i=some x) (p:x.p≠0) (q:b.length≠B):m.write B i b=(3,m):=by unfold write; rw [e]; dsimp only; rw [if_neg p,if_neg q]
theorem write_hit (e:m.fr i=some x) (p:x.p≠0) (q:b.length=B):m.write B i b=(0,m.put i ⟨b,true,x.p⟩):=by unfold write; rw [e]; dsimp only; rw [if_neg p,if_pos q]
theorem drop_no (e:m.fr i=none):m.drop i=(0,m):=by unfold drop; rw [e]
theorem drop_pin (e:m.fr i=some x) (p:0<x.p):m.drop i=(8,m):=by unfold drop; rw [e]; exact if_pos p
theorem drop_hit (e:m.fr i=some x) (p:¬ 0<x.p):m.drop i=(0,⟨m.img,m.rd,m.wr,upd m.fr i none,m.used - 1,m.row.erase i⟩):=by unfold drop; rw [e]; exact if_neg p
theorem evict_eq (e:m.fr i=some x):m.evict B i=⟨if x.d=true then patch m.img (i*B) B x.b else m.img,m.rd,if x.d=true then m.wr+1 else m.wr,upd m.fr i none,m.used - 1,m.row.erase i⟩:=by unfold evict; rw [e]
end
end MC
section
variable {N B n t:Nat} {H:List Nat} {c:Ca} {L:List Nat}
theorem Znt {α:Type} (g:Nat→α) (i:Nat) (u v:α) (j:Nat):upd (upd g i u) i v j=upd g i v j:=by unfold upd; split <;> rfl
theorem Zkt {α:Type} {g g':Nat→α} (h:∀ j,g j=g' j) (i:Nat) (v:α) (j:Nat):upd g i v j=upd g' i v j:=by unfold upd; split; rfl; exact h j
theorem Zai (h:CaI N B n t [] c L) (f:Nat):f∉L.erase f:=fun q=>(h.chn.nd.mem_erase_iff.1 q).1 rfl
theorem Zmz (z:Siz N B n) (h:CaI N B n t [] c L) (hw:0≤c.1.2.2.2∧c.1.2.2.2≤1000000000):(Q24.f c=some (0,false,c)∧(Z2 c L).room B n=none)∨
  ∃(f:Nat) (c':Ca) (L':List Nat),Q24.f c=some ((f:Int),true,c')∧CaI N B n t [f] c' L'∧(Z2 c L).room B n=some (Z2 c' L')∧f∉L':=by
 have h64:=z.h64
 have htot:=h.tot
 have hfl:=h.frl
 have wr:IntKind.u64.wrap (c.1.2.2.2+1)=c.1.2.2.2+1:=Zi5 hw
 have hru:(Z2 c L).used=c.2.2.1.length:=rfl
 by_cases he:c.2.2.2.1=[]
 ·have e0:(decide ((c.2.2.2.1.length:Int)=0))=true:=by rw [he]; rfl
  have eu:¬ (Z2 c L).used<n:=by rw [hru]; rw [he] at htot; simp only [List.length_nil] at htot; omega
  rcases List.eq_nil_or_concat L with rfl | ⟨L0,q,hq⟩
  ·left
   refine ⟨?_,?_⟩
   ·unfold Q24.f
    rw [if_pos e0,show Q28.f (c.2.2.2.2.1,c.2.2.2.2.2)=_ from Ze7 h.chn,Option.bind_some,if_pos (by simp)]
   ·unfold MC.room
    rw [if_neg eu]
    rfl
  ·right
   rw [List.concat_eq_append] at hq
   subst hq
   obtain ⟨⟨j,hj⟩,hp⟩:=(h.lok q).1 (by simp)
   obtain ⟨i,q',rfl,e2,ok⟩:=h.at hj
   have:q=q':=by omega
   subst this
   have hf:=ok.hf
   have hqn:q∉(L0 ++ [q]).erase q:=Zai h q
   have hfr:=Wi h hj
   have g:gt c.2.1 (q:Int)=c.2.1.getD q default:=Z8 _ _
   have hrm:(Z2 c (L0 ++ [q])).room B n=some ((Z2 c (L0 ++ [q])).evict B i):=by
    unfold MC.room
    rw [if_neg eu]
    have:(Z2 c (L0 ++ [q])).row.getLast?=some i:=by
     show ((L0 ++ [q]).map (Xx c)).getLast?=_
     rw [List.map_append,List.map_cons,List.map_nil,List.getLast?_concat,Jv h hj]
    rw [this]
   have hml:=Br (mhas_iff.2 ⟨_,hj⟩)
   unfold Q24.f
   rw [if_pos e0,show Q28.f (c.2.2.2.2.1,c.2.2.2.2.2)=_ from Zmw h.chn (by omega),Option.bind_some,if_neg (by simp)]
   try dsimp only
   rw [if_pos (by omega)]
   have one:w64 ((([] ++ [(q:Int)]:List Int).length:Int) - 1)=0:=by
    show w64 (((1:Nat):Int) - 1)=0
    decide
   rw [hrm,MC.evict_eq (show (Z2 c (L0 ++ [q])).fr i=_ from hfr)]
   by_cases hd:(gt c.2.1 (q:Int)).2.2.1=true
   ·have hb:=h.back z hj (c.1.2.2.1,c.1.2.2.2+1)
    obtain ⟨ch,e,hl⟩:=B8 z hb (by exact hj)
    have hd':(fm (c.2.1.getD q default)).d=true:=by rw [← g]; exact hd
    rw [if_pos hd,show Q56.f (c.1.1,c.1.2.1,(c.1.2.2.1,c.1.2.2.2)) (gt c.2.1 (q:Int)).1 (gt c.2.1 (q:Int)).2.1=_ from Zgb z h hj,Option.bind_some]
    try dsimp only
    rw [wr,Int.toNat_natCast,show Q22.f ((c.1.1,patch c.1.2.1 (i*B) B (gt c.2.1 (q:Int)).2.1,c.1.2.2.1,c.1.2.2.2+1),c.2.1.set q ((gt c.2.1 (q:Int)).1,(gt c.2.1 (q:Int)).2.1,false,(gt c.2.1 (q:Int)).2.2.2),c.2.2.1,c.2.2.2.1,c.2.2.2.2.1,c.2.2.2.2.2) (q:Int)=_ from e,Option.bind_some]
    try dsimp only
    rw [he,one,if_pos (by simp),if_pos (by simp),if_pos hd',if_pos hd']
    refine ⟨q,_,(L0 ++ [q]).erase q,rfl,hl.take (E:=[]) (by dsimp only; rw [he]),congrArg some (MC.ext' ?_ rfl rfl ?_ ?_ ?_),hqn⟩
    ·show patch c.1.2.1 (i*B) B (fm (c.2.1.getD q default)).b=_
     rw [← g]; rfl
    ·intro j
     show upd (Xj c) i none j=_
     refine Eq.trans ?_ (G8 hb hj j).symm
     refine Eq.trans (Znt (Xj c) i _ none j).symm (Zkt (fun j=>(Uc h hj j).symm) i none j)
    ·show c.2.2.1.length - 1=(X8 (i:Int) c.2.2.1).length
     omega
    ·show ((L0 ++ [q]).map (Xx c)).erase i=_
     have hfl2:=hb.frl
     refine Eq.trans (Jb h hj).symm ?_
     refine Eq.trans ?_ (V5 (c:=((c.1.1,patch c.1.2.1 (i*B) B (gt c.2.1 (q:Int)).2.1,c.1.2.2.1,c.1.2.2.2+1),c.2.1.set q ((gt c.2.1 (q:Int)).1,(gt c.2.1 (q:Int)).2.1,false,(gt c.2.1 (q:Int)).2.2.2),c.2.2)) (by rw [hfl2]; exact hf) hqn).symm
     exact (Wm (by omega) (by rw [g]; rfl) _).symm
   ·obtain ⟨ch,e,hl⟩:=B8 z h hj
    have hd':¬ (fm (c.2.1.getD q default)).d=true:=by rw [← g]; exact hd
    rw [if_neg hd,show Q22.f ((c.1.1,c.1.2.1,(c.1.2.2.1,c.1.2.2.2)),c.2.1,c.2.2.1,c.2.2.2.1,(c.2.2.2.2.1,c.2.2.2.2.2)) (q:Int)=_ from e,Option.bind_some]
    try dsimp only
    rw [he,one,if_pos (by simp),if_pos (by simp),if_neg hd',if_neg hd']
    refine ⟨q,_,(L0 ++ [q]).erase q,rfl,hl.take (E:=[]) (by dsimp only; rw [he]),congrArg some (MC.ext' rfl rfl rfl ?_ ?_ ?_),hqn⟩
    ·intro j
     exact (G8 h hj j).symm
    ·show c.2.2.1.length - 1=(X8 (i:Int) c.2.2.1).length
     omega
    ·show ((L0 ++ [q]).map (Xx c)).erase i=_
     refine Eq.trans (Jb h hj).symm ?_
     exact (V5 (by omega) hqn).symm
 ·right
  obtain ⟨E,x,hx⟩:∃ E x,c.2.2.2.1=E ++ [x]:=by
   rcases List.eq_nil_or_concat c.2.2.2.1 with e | ⟨E,x,e⟩
   ·exact absurd e he
   ·exact ⟨E,x,by rw [e,List.concat_eq_append]⟩
  obtain ⟨f,rfl,hf⟩:=h.emp x (by rw [hx]; simp)
  have hll:c.2.2.2.1.length=E.length+1:=by rw [hx]; simp
  have e1:w64 ((c.2.2.2.1.length:Int) - 1)=(E.length:Int):=by rw [Zy (by omega) (by omega)]; omega
  unfold Q24.f
  rw [if_neg (by simp only [decide_eq_true_eq]; omega),e1,if_pos (by omega),if_pos (by omega),Int.toNat_natCast]
  have e2:gt c.2.2.2.1 (E.length:Int)=(f:Int):=by
   rw [Z8,hx,List.getD_eq_getElem?_getD,List.getElem?_append_right (Nat.le_refl _)]; simp
  have e3:c.2.2.2.1.take E.length=E:=by rw [hx,List.take_left]
  rw [e2,e3]
  refine ⟨f,_,L,rfl,h.take hx,?_,fun q=>?_⟩
  ·unfold MC.room
   rw [if_pos (by rw [hru]; omega)]
   rfl
  ·obtain ⟨i,hi,_,_,ok⟩:=Vl h q
   exact ok.emp (by rw [hx]; simp)
theorem Zqh (z:Siz N B n) (h:CaI N B n t [] c L) (fw:Few c) (ht:t≤1000000) (i:Nat) (hi:i<4294967296):∃ c' L',Q18.f c (i:Int)=some (((Z2 c L).pin N B n i).1,c')∧CaI N B n (t+1) [] c' L'∧Z2 c' L'=((Z2 c L).pin N B n i).2:=by
 have h64:=z.h64
 have hfl:=h.frl
 unfold Q18.f
 rw [show Q25.f ((c.1.1,c.1.2.1,(c.1.2.2.1,c.1.2.2.2)),c.2.1,c.2.2.1,c.2.2.2.1,(c.2.2.2.2.1,c.2.2.2.2.2)) (i:Int)=_ from Zkw z h i hi,Option.bind_some]
 by_cases q:N≤i
 ·rw [if_pos q,if_pos (by simp),MC.pin_out q]
  exact ⟨_,L,rfl,h.mono (Nat.le_succ t),rfl⟩
 ·rw [if_neg q,if_neg (by simp)]
  rcases h.get i with ⟨g1,g2⟩ | ⟨f,ha,g1,g2,ok⟩
  ·have hno:(Z2 c L).fr i=none:=Ue g2
   rw [if_neg (by simp [g1])]
   rcases Zmz z h ⟨fw.wr.1,by have:=fw.wr.2; omega⟩ with ⟨e,er⟩ | ⟨f,c1,L1,e,h1,er,hfL⟩
   ·rw [show Q24.f ((c.1.1,c.1.2.1,(c.1.2.2.1,c.1.2.2.2)),c.2.1,c.2.2.1,c.2.2.2.1,(c.2.2.2.2.1,c.2.2.2.2.2))=_ from e,Option.bind_some,if_pos (by simp),MC.pin_full q hno er]
    exact ⟨_,L,rfl,h.mono (Nat.le_succ t),rfl⟩
   ·rcases Zm3 z h ⟨fw.wr.1,by have:=fw.wr.2; omega⟩ with e' | ⟨f',c1',L1',e',_,k1,k2,k3⟩
    ·rw [e] at e'; simp at e'
    ·rw [e] at e'
     simp only [Option.some.injEq,Prod.mk.injEq,true_and] at e'
     have ec:c1=c1':=e'.2
     subst ec
     obtain ⟨hf,hfe,hfm⟩:=h1.hol f (by simp)
     have hfl1:=h1.frl
     have hno1:∀ v,((i:Int),v)∉c1.2.2.1:=fun v hv=>g2 v (k3 _ hv)
     obtain ⟨r5,ch,e5,hc5⟩:=Zfs h1.chn hf (by omega)
     rw [List.erase_of_not_mem hfL] at hc5
     rw [show Q24.f ((c.1.1,c.1.2.1,(c.1.2.2.1,c.1.2.2.2)),c.2.1,c.2.2.1,c.2.2.2.1,(c.2.2.2.2.1,c.2.2.2.2.2))=_ from e,Option.bind_some,if_neg (by simp)]
     try dsimp only
     rw [show Q55.f (c1.1.1,c1.1.2.1,(c1.1.2.2.1,c1.1.2.2.2)) (i:Int)=_ from Zox z h1 (by omega),Option.bind_some,if_neg (by simp),if_pos (by omega),show Q26.f (c1.2.2.2.2.1,c1.2.2.2.2.2) (f:Int)=_ from e5,Option.bind_some]
     have hcm:=(h1.mono (Nat.le_succ t)).come (show i<N by omega) hno1 (x:=((i:Int),blk c1.1.2.1 B i,false,1)) rfl (Zcq h1.dim (by omega)) rfl (by omega) hc5
     try dsimp only
     rw [Zi5 (by rw [k1]; have:=fw.rd; omega),Zel hno1,Int.toNat_natCast,MC.pin_miss q hno er]
     refine ⟨_,L1,rfl,hcm.dev (s:=(c1.1.2.2.1+1,c1.1.2.2.2)) h1.dim,MC.ext' rfl rfl rfl ?_ ?_ ?_⟩
     ·intro j; exact Zd9 h1 hno1 j
     ·show (c1.2.2.1 ++ [((i:Int),(f:Int))]).length=c1.2.2.1.length+1
      simp
     ·exact V5 (by omega) hfL
  ·have hf:=ok.hf
   have hp:=ok.pin
   have hfr:(Z2 c L).fr i=_:=Wi h ha
   obtain ⟨r2,ch,e2,hc2⟩:=Zfs h.chn ok.hf (by omega)
   have g:gt c.2.1 (f:Int)=c.2.1.getD f default:=Z8 _ _
   have wp:w64 ((c.2.1.getD f default).2.2.2+1)=(c.2.1.getD f default).2.2.2+1:=Zy (by omega) (by omega)
   have hs:=h.setfr ha (x:=((gt c.2.1 (f:Int)).1,(gt c.2.1 (f:Int)).2.1,(gt c.2.1 (f:Int)).2.2.1,w64 ((gt c.2.1 (f:Int)).2.2.2+1))) (t':=t+1) (by rw [g]; exact ok.blk) (by rw [g]; exact ok.len) (by rw [g]; dsimp only; rw [wp]; omega) (Nat.le_succ t) hc2 (Zem h (by rw [g]; dsimp only; rw [wp]; omega))
   rw [if_pos g1,g2,if_pos (by omega),show Q26.f (c.2.2.2.2.1,c.2.2.2.2.2) (f:Int)=_ from e2,Option.bind_some,Int.toNat_natCast,MC.pin_hit q hfr]
   refine ⟨_,L.erase f,rfl,hs,MC.ext' rfl rfl rfl (fun j=>?_) rfl ?_⟩
   ·refine Eq.trans (Uc h ha j) ?_
    show upd (Xj c) i _ j=upd (Xj c) i _ j
    congr 2
    unfold fm
    rw [g]
    try dsimp only
    rw [wp,show ((c.2.1.getD f default).2.2.2+1).toNat=(c.2.1.getD f default).2.2.2.toNat+1 by omega]
   ·exact Eq.trans (Wm (by omega) (by rw [g]; rfl) _) (Jb h ha)
theorem Zot (z:Siz N B n) (h:CaI N B n t [] c L) (fw:Few c) (ht:t≤1000000) (i:Nat) (hi:i<4294967296):∃ c' L',Q17.f c (i:Int)=some (((Z2 c L).fresh N B n i).1,c')∧CaI N B n (t+1) [] c' L'∧Z2 c' L'=((Z2 c L).fresh N B n i).2:=by
 have h64:=z.h64
 have hB:=z.B_le
 have hfl:=h.frl
 have hsz:=h.dsz
 unfold Q17.f Q54.f
 rw [show Q25.f ((c.1.1,c.1.2.1,(c.1.2.2.1,c.1.2.2.2)),c.2.1,c.2.2.1,c.2.2.2.1,(c.2.2.2.2.1,c.2.2.2.2.2)) (i:Int)=_ from Zkw z h i hi,Option.bind_some]
 by_cases q:N≤i
 ·rw [if_pos q,if_pos (by simp),MC.fresh_out q]
  exact ⟨_,L,rfl,h.mono (Nat.le_succ t),rfl⟩
 ·rw [if_neg q,if_neg (by simp)]
  rcases h.get i with ⟨g1,g2⟩ | ⟨f,ha,g1,g2,ok⟩
  ·have hno:(Z2 c L).fr i=none:=Ue g2
   rw [if_neg (by simp [g1]),if_pos (by simp [g1])]
   rcases Zmz z h ⟨fw.wr.1,by have:=fw.wr.2; omega⟩ with ⟨e,er⟩ | ⟨f,c1,L1,e,h1,er,hfL⟩
   ·rw [show Q24.f ((c.1.1,c.1.2.1,(c.1.2.2.1,c.1.2.2.2)),c.2.1,c.2.2.1,c.2.2.2.1,(c.2.2.2.2.1,c.2.2.2.2.2))=_ from e,Option.bind_some,if_pos (by simp),MC.fresh_full q hno er]
    exact ⟨_,L,rfl,h.mono (Nat.le_succ t),rfl⟩
   ·rcases Zm3 z h ⟨fw.wr.1,by have:=fw.wr.2; omega⟩ with e' | ⟨f',c1',L1',e',_,k1,k2,k3⟩
    ·rw [e] at e'; simp at e'
    ·rw [e] at e'
     simp only [Option.some.injEq,Prod.mk.injEq,true_and] at e'
     have ec:c1=c1':=e'.2
     subst ec
     obtain ⟨hf,hfe,hfm⟩:=h1.hol f (by simp)
     have hfl1:=h1.frl
     have hsz1:=h1.dsz
     have hno1:∀ v,((i:Int),v)∉c1.2.2.1:=fun v hv=>g2 v (k3 _ hv)
     obtain ⟨r5,ch,e5,hc5⟩:=Zfs h1.chn hf (by omega)
     rw [List.erase_of_not_mem hfL] at hc5
     rw [show Q24.f ((c.1.1,c.1.2.1,(c.1.2.2.1,c.1.2.2.2)),c.2.1,c.2.2.1,c.2.2.2.1,(c.2.2.2.2.1,c.2.2.2.2.2))=_ from e,Option.bind_some,if_neg (by simp),Option.bind_some]
     try dsimp only
     rw [if_pos (by omega),if_pos (by omega),show Q26.f (c1.2.2.2.2.1,c1.2.2.2.2.2) (f:Int)=_ from e5,Option.bind_some]
     have hBt:c1.1.1.toNat=B:=by omega
     have hcm:=(h1.mono (Nat.le_succ t)).come (show i<N by omega) hno1 (x:=((i:Int),List.replicate c1.1.1.toNat (0:Int),true,1)) rfl (by rw [List.length_replicate]; omega) rfl (by omega) hc5
     try dsimp only
     rw [Zel hno1,Int.toNat_natCast,MC.fresh_miss q hno er]
     refine ⟨_,L1,rfl,hcm,MC.ext' rfl rfl rfl ?_ ?_ ?_⟩
     ·intro j
      refine Eq.trans (Zd9 h1 hno1 j) ?_
      show upd (Xj c1) i (some ⟨List.replicate c1.1.1.toNat 0,true,1⟩) j=_
      rw [hBt]; rfl
     ·show (c1.2.2.1 ++ [((i:Int),(f:Int))]).length=c1.2.2.1.length+1
      simp
     ·exact V5 (by omega) hfL
  ·have hf:=ok.hf
   have hp:=ok.pin
   have hfr:(Z2 c L).fr i=_:=Wi h ha
   have g:gt c.2.1 (f:Int)=c.2.1.getD f default:=Z8 _ _
   rw [if_pos g1,g2,if_pos (by omega)]
   by_cases hpp:0<(gt c.2.1 (f:Int)).2.2.2
   ·rw [if_pos (decide_eq_true hpp),MC.fresh_pin q hfr (by unfold fm; dsimp only; rw [g] at hpp; omega)]
    exact ⟨_,L,rfl,h.mono (Nat.le_succ t),rfl⟩
   ·obtain ⟨r2,ch,e2,hc2⟩:=Zfs h.chn ok.hf (by omega)
    have hBt:c.1.1.toNat=B:=by omega
    have hs:=h.setfr ha (x:=((i:Int),List.replicate c.1.1.toNat (0:Int),true,1)) (t':=t+1) rfl (by rw [List.length_replicate]; omega) (by dsimp only; omega) (Nat.le_succ t) hc2 (Zem h (show (1:Int)≠0 by decide))
    rw [if_neg (by simpa using hpp),if_neg (by simp [g1]),Option.bind_some,if_pos (by omega),show Q26.f (c.2.2.2.2.1,c.2.2.2.2.2) (f:Int)=_ from e2,Option.bind_some,Int.toNat_natCast,Zet h.mnd ha,MC.fresh_hit q hfr (by unfold fm; dsimp only; rw [g] at hpp; omega)]
    try rw [if_pos (show 0≤(f:Int)∧(f:Int)<(c.2.1.length:Int) by omega)]
    refine ⟨_,L.erase f,rfl,hs,MC.ext' rfl rfl rfl (fun j=>?_) rfl ?_⟩
    ·refine Eq.trans (Uc h ha j) ?_
     show upd (Xj c) i (some ⟨List.replicate c.1.1.toNat 0,true,1⟩) j=_
     rw [hBt]; rfl
    ·exact Eq.trans (Wm (by omega) (by rw [Jv h ha]; rfl) _) (Jb h ha)
theorem Zg5 (z:Siz N B n) (h:CaI N B n t [] c L) (ht:t≤1000000) (i:Nat):∃ c' L',Q20.f c (i:Int)=some (((Z2 c L).unpin i).1,c')∧CaI N B n t [] c' L'∧Z2 c' L'=((Z2 c L).unpin i).2:=by
 have h64:=z.h64
 have hfl:=h.frl
 unfold Q20.f Q23.f
 rw [Option.bind_some,if_neg (by simp)]
 rcases h.get i with ⟨g1,g2⟩ | ⟨f,ha,g1,g2,ok⟩
 ·rw [if_pos (by simp [g1]),MC.unpin_no (show (Z2 c L).fr i=none from Ue g2)]
  exact ⟨_,L,rfl,h,rfl⟩
 ·have hf:=ok.hf
  have hp:=ok.pin
  have hfr:(Z2 c L).fr i=_:=Wi h ha
  have g:gt c.2.1 (f:Int)=c.2.1.getD f default:=Z8 _ _
  rw [if_neg (by simp [g1]),g2,if_pos (by omega)]
  by_cases hp0:(gt c.2.1 (f:Int)).2.2.2=0
  ·rw [if_pos (decide_eq_true hp0),MC.unpin_out hfr (by unfold fm; dsimp only; rw [← g,hp0]; rfl)]
   exact ⟨_,L,rfl,h,rfl⟩
  ·have wp:w64 ((gt c.2.1 (f:Int)).2.2.2 - 1)=(gt c.2.1 (f:Int)).2.2.2 - 1:=by rw [g]; exact Zy (by omega) (by omega)
   have hp1:0<(gt c.2.1 (f:Int)).2.2.2:=by rw [g] at hp0 ⊢; omega
   have hp2:(gt c.2.1 (f:Int)).2.2.2≤t:=by rw [g]; omega
   have hset:gt (c.2.1.set f ((gt c.2.1 (f:Int)).1,(gt c.2.1 (f:Int)).2.1,(gt c.2.1 (f:Int)).2.2.1,w64 ((gt c.2.1 (f:Int)).2.2.2 - 1))) (f:Int)=((gt c.2.1 (f:Int)).1,(gt c.2.1 (f:Int)).2.1,(gt c.2.1 (f:Int)).2.2.1,w64 ((gt c.2.1 (f:Int)).2.2.2 - 1)):=by
    rw [Z8,Y8 (by omega),if_pos rfl]
   have hfL:f∉L:=fun hx=>by have:=((h.lok f).1 hx).2; rw [← g] at this; omega
   have hx0:(fm (c.2.1.getD f default)).p=(c.2.1.getD f default).2.2.2.toNat:=rfl
   rw [if_neg (by simpa using hp0),Int.toNat_natCast,hset,wp]
   by_cases hp3:(gt c.2.1 (f:Int)).2.2.2 - 1=0
   ·obtain ⟨ch,e2,hc2⟩:=Zon h.chn ok.hf hfL (by omega)
    rw [if_pos (decide_eq_true hp3),show Q27.f (c.2.2.2.2.1,c.2.2.2.2.2) (f:Int)=_ from e2,Option.bind_some,MC.unpin_one hfr (by rw [hx0,← g]; omega)]
    have hs:=h.setfr ha (x:=((gt c.2.1 (f:Int)).1,(gt c.2.1 (f:Int)).2.1,(gt c.2.1 (f:Int)).2.2.1,(gt c.2.1 (f:Int)).2.2.2 - 1)) (t':=t) (by rw [g]; exact ok.blk) (by rw [g]; exact ok.len) (by dsimp only; omega) (Nat.le_refl t) hc2 (fun k=>by
     rw [List.mem_cons]
     split
     ·rename_i e; exact ⟨fun _=>hp3,fun _=>.inl e⟩
     ·rename_i e; exact ⟨fun q=>q.elim (fun e'=>absurd e' e) id,.inr⟩)
    refine ⟨_,f :: L,rfl,hs,MC.ext' rfl rfl rfl (fun j=>?_) rfl ?_⟩
    ·refine Eq.trans (Uc h ha j) ?_
     show upd (Xj c) i _ j=upd (Xj c) i _ j
     congr 2
     unfold fm
     try dsimp only
     rw [hp3,g]; rfl
    ·refine Eq.trans (Wm (by omega) (by rw [g]; rfl) _) ?_
     show Xx c f :: L.map (Xx c)=_
     rw [Jv h ha]; rfl
   ·rw [if_neg (by simpa using hp3),MC.unpin_more hfr (by rw [hx0,← g]; omega) (by rw [hx0,← g]; omega)]
    have hs:=h.setfr ha (x:=((gt c.2.1 (f:Int)).1,(gt c.2.1 (f:Int)).2.1,(gt c.2.1 (f:Int)).2.2.1,(gt c.2.1 (f:Int)).2.2.2 - 1)) (t':=t) (by rw [g]; exact ok.blk) (by rw [g]; exact ok.len) (by dsimp only; omega) (Nat.le_refl t) h.chn (fun k=>by
     split
     ·rename_i e; subst e; exact ⟨fun q=>absurd q hfL,fun q=>absurd q hp3⟩
     ·exact Iff.rfl)
    refine ⟨_,L,rfl,hs,MC.ext' rfl rfl rfl (fun j=>?_) rfl ?_⟩
    ·refine Eq.trans (Uc h ha j) ?_
     show upd (Xj c) i _ j=upd (Xj c) i _ j
     congr 2
     unfold fm
     try dsimp only
     rw [g,show ((c.2.1.getD f default).2.2.2 - 1).toNat=(c.2.1.getD f default).2.2.2.toNat - 1 by omega]
    ·exact Wm (by omega) (by rw [g]; rfl) _
theorem Zla (z:Siz N B n) (h:CaI N B n t [] c L) (i:Nat) (b:TU):∃ c' L',Q21.f c (i:Int) b=some (((Z2 c L).write B i b).1,c')∧CaI N B n t [] c' L'∧Z2 c' L'=((Z2 c L).write B i b).2:=by
 have h64:=z.h64
 have hB:=z.B_le
 have hfl:=h.frl
 have hsz:=h.dsz
 unfold Q21.f Q23.f Q54.f
 rw [Option.bind_some,if_neg (by simp)]
 rcases h.get i with ⟨g1,g2⟩ | ⟨f,ha,g1,g2,ok⟩
 ·rw [if_pos (by simp [g1]),MC.write_no (show (Z2 c L).fr i=none from Ue g2)]
  exact ⟨_,L,rfl,h,rfl⟩
 ·have hf:=ok.hf
  have hp:=ok.pin
  have hfr:(Z2 c L).fr i=_:=Wi h ha
  have hx0:(fm (c.2.1.getD f default)).p=(c.2.1.getD f default).2.2.2.toNat:=rfl
  have g:gt c.2.1 (f:Int)=c.2.1.getD f default:=Z8 _ _
  rw [if_neg (by simp [g1]),g2,if_pos (by omega)]
  by_cases hp0:(gt c.2.1 (f:Int)).2.2.2=0
  ·rw [if_pos (decide_eq_true hp0),MC.write_out hfr (by rw [hx0,← g,hp0]; rfl)]
   exact ⟨_,L,rfl,h,rfl⟩
  ·have hp1:(fm (c.2.1.getD f default)).p≠0:=by rw [hx0]; rw [g] at hp0; omega
   rw [if_neg (by simpa using hp0),Option.bind_some]
   try dsimp only
   by_cases hb:(b.length:Int)=c.1.1
   ·have hset:gt (c.2.1.set f ((gt c.2.1 (f:Int)).1,b,(gt c.2.1 (f:Int)).2.2.1,(gt c.2.1 (f:Int)).2.2.2)) (f:Int)=((gt c.2.1 (f:Int)).1,b,(gt c.2.1 (f:Int)).2.2.1,(gt c.2.1 (f:Int)).2.2.2):=by
     rw [Z8,Y8 (by omega),if_pos rfl]
    have hs:=h.setfr ha (x:=((gt c.2.1 (f:Int)).1,b,true,(gt c.2.1 (f:Int)).2.2.2)) (t':=t) (by rw [g]; exact ok.blk) (by dsimp only; omega) (by dsimp only; rw [g]; exact hp) (Nat.le_refl t) h.chn (by rw [g]; exact Zl4 h ha)
    rw [if_neg (by simp [hb]),Zc2 (by omega),Option.bind_some,Int.toNat_natCast,hset,List.set_set,MC.write_hit hfr hp1 (by omega)]
    refine ⟨_,L,rfl,hs,MC.ext' rfl rfl rfl (fun j=>?_) rfl ?_⟩
    ·refine Eq.trans (Uc h ha j) ?_
     show upd (Xj c) i _ j=upd (Xj c) i _ j
     rw [g]; rfl
    ·exact Wm (by omega) (by rw [g]; rfl) _
   ·rw [if_pos (by simp [hb]),MC.write_form hfr hp1 (by omega)]
    exact ⟨_,L,rfl,h,rfl⟩
theorem Zps (z:Siz N B n) (h:CaI N B n t [] c L) (i:Nat):∃ c' L',Q15.f c (i:Int)=some (((Z2 c L).drop i).1,c')∧CaI N B n t [] c' L'∧Z2 c' L'=((Z2 c L).drop i).2:=by
 have h64:=z.h64
 have hfl:=h.frl
 unfold Q15.f Q23.f
 rw [Option.bind_some,if_neg (by simp)]
 rcases h.get i with ⟨g1,g2⟩ | ⟨f,ha,g1,g2,ok⟩
 ·rw [if_pos (by simp [g1]),MC.drop_no (show (Z2 c L).fr i=none from Ue g2)]
  exact ⟨_,L,rfl,h,rfl⟩
 ·have hf:=ok.hf
  have hp:=ok.pin
  have hfr:(Z2 c L).fr i=_:=Wi h ha
  have hx0:(fm (c.2.1.getD f default)).p=(c.2.1.getD f default).2.2.2.toNat:=rfl
  have g:gt c.2.1 (f:Int)=c.2.1.getD f default:=Z8 _ _
  rw [if_neg (by simp [g1]),g2,if_pos (by omega)]
  by_cases hp0:0<(gt c.2.1 (f:Int)).2.2.2
  ·rw [if_pos (decide_eq_true hp0),MC.drop_pin hfr (by rw [hx0]; rw [g] at hp0; omega)]
   exact ⟨_,L,rfl,h,rfl⟩
  ·obtain ⟨ch,e,hl⟩:=B8 z h ha
   rw [if_neg (by simpa using hp0),show Q22.f ((c.1.1,c.1.2.1,(c.1.2.2.1,c.1.2.2.2)),c.2.1,c.2.2.1,c.2.2.2.1,(c.2.2.2.2.1,c.2.2.2.2.2)) (f:Int)=_ from e,Option.bind_some,MC.drop_hit hfr (by rw [hx0]; rw [g] at hp0; omega)]
   have hml:=Br (mhas_iff.2 ⟨_,ha⟩)
   refine ⟨_,L.erase f,rfl,hl,MC.ext' rfl rfl rfl (fun j=>?_) ?_ ?_⟩
   ·exact G8 h ha j
   ·show (X8 (i:Int) c.2.2.1).length=c.2.2.1.length - 1
    omega
   ·exact Eq.trans (V5 (by omega) (Zai h f)) (Jb h ha)
end
abbrev Rf:=Int×List UInt8×Bool×Int
abbrev Rc:=(Int×List TP×Int×Int)×List Rf×Int×List Int
def rfm (i:Nat) (f:Fm):Rf:=((i:Int),toS f.b,f.d,(f.p:Int))
def V2 (i:Int) (l:List Rf):List Rf:=l.filter fun x=>!decide (x.1=i)
structure RL (l:List Rf) (g:Nat→Option Fm):Prop where
 nd:(l.map Prod.fst).Nodup
 mem:∀ x∈l,∃(i:Nat) (f:Fm),g i=some f∧x=rfm i f
 all:∀(i:Nat) (f:Fm),g i=some f→rfm i f∈l
section
variable {l:List Rf} {g:Nat→Option Fm} {i:Nat} {f:Fm}
theorem Zm6 (h:RL l g) (e:g i=none):V2 (i:Int) l=l:=List.filter_eq_self.2 fun x hx=>by
 obtain ⟨j,f,h1,rfl⟩:=h.mem x hx
 have:¬ (rfm j f).1=(i:Int):=fun q=>by
  have:j=i:=by have:(j:Int)=i:=q; omega
  subst this; rw [e] at h1; cases h1
 simp [this]
theorem Zb4:∀ {l:List Rf} {x:Rf},(l.map Prod.fst).Nodup→x∈l→(V2 x.1 l).length+1=l.length
 | [],x,_,h=>by simp at h
 | y :: l,x,nd,h=>by
  rw [List.map_cons,List.nodup_cons] at nd
  by_cases q:y.1=x.1
  ·have hl:V2 x.1 l=l:=List.filter_eq_self.2 fun z hz=>by
    have:¬ z.1=x.1:=fun e=>nd.1 (by rw [q,← e]; exact List.mem_map_of_mem hz)
    simp [this]
   have:V2 x.1 (y :: l)=l:=by
    unfold V2 at hl ⊢
    rw [List.filter_cons_of_neg (by simp [q]),hl]
   rw [this]; rfl
  ·have hx:x∈l:=by
    rcases List.mem_cons.1 h with e | e
    ·exact absurd (by rw [e]) q
    ·exact e
   have:V2 x.1 (y :: l)=y :: V2 x.1 l:=by
    unfold V2
    rw [List.filter_cons_of_pos (by simp [q])]
   rw [this,List.length_cons,List.length_cons,Zb4 nd.2 hx]
theorem RL.gone (h:RL l g) (i:Nat):RL (V2 (i:Int) l) (upd g i none):=by
 refine ⟨(List.filter_sublist.map _).nodup h.nd,fun x hx=>?_,fun j f hj=>?_⟩
 ·obtain ⟨h1,h2⟩:=List.mem_filter.1 hx
  obtain ⟨j,f,h3,rfl⟩:=h.mem x h1
  have hne:j≠i:=fun q=>by subst q; simp [rfm] at h2
  exact ⟨j,f,by rw [Yf hne,h3],rfl⟩
 ·by_cases q:j=i
  ·subst q; rw [Yc] at hj; cases hj
  ·rw [Yf q] at hj
   refine List.mem_filter.2 ⟨h.all j f hj,?_⟩
   have:¬ (j:Int)=i:=by omega
   simp [rfm,this]
theorem RL.put (h:RL l g) (i:Nat) (f:Fm):RL (V2 (i:Int) l ++ [rfm i f]) (upd g i (some f)):=by
 have hg:=h.gone i
 refine ⟨?_,fun x hx=>?_,fun j f' hj=>?_⟩
 ·rw [List.map_append,List.nodup_append]
  refine ⟨hg.nd,by simp,fun a ha b hb e=>?_⟩
  obtain ⟨x,hx,rfl⟩:=List.mem_map.1 ha
  simp only [List.map_cons,List.map_nil,List.mem_singleton] at hb
  obtain ⟨_,h2⟩:=List.mem_filter.1 hx
  rw [e,hb] at h2
  simp [rfm] at h2
 ·rcases List.mem_append.1 hx with hx | hx
  ·obtain ⟨j,f',h1,e⟩:=hg.mem x hx
   have hne:j≠i:=fun q=>by subst q; rw [Yc] at h1; cases h1
   exact ⟨j,f',by rw [Yf hne] at h1 ⊢; exact h1,e⟩
  ·rw [List.mem_singleton] at hx
   exact ⟨i,f,Yc _ _ _,hx⟩
 ·by_cases q:j=i
  ·subst q; rw [Yc] at hj; injection hj with hj; subst hj; simp
  ·rw [Yf q] at hj
   exact List.mem_append_left _ (hg.all j f' (by rw [Yf q]; exact hj))
theorem RL.congr (h:RL l g) {g':Nat→Option Fm} (e:∀ j,g j=g' j):RL l g':=by
 have:=funext e
 subst this; exact h
end
structure RR (N B n:Nat) (w:Rc) (m:MC):Prop where
 dev:w.1=((B:Int),Lb m.img N B,m.rd,m.wr)
 most:w.2.2.1=(n:Int)
 row:w.2.2.2=m.row.map fun(i:Nat)=>(i:Int)
 fr:RL w.2.1 m.fr
 used:w.2.1.length=m.used
structure MI (N B n t:Nat) (m:MC):Prop where
 dim:m.img.length=N*B
 len:∀ i f,m.fr i=some f→i<N∧f.b.length=B∧f.p≤t
 rnd:m.row.Nodup
 rfr:∀ q,q∈m.row↔∃ f,m.fr q=some f∧f.p=0
 ule:m.used≤n
 rle:m.row.length≤n
theorem Zeg {g:Nat→Nat}:∀ {L:List Nat},L.Nodup→(∀ x∈L,∀ y∈L,g x=g y→x=y)→(L.map g).Nodup
 | [],_,_=>by simp
 | x :: L,nd,h=>by
  rw [List.nodup_cons] at nd
  rw [List.map_cons,List.nodup_cons]
  refine ⟨fun q=>?_,Zeg nd.2 fun a ha b hb=>h a (by simp [ha]) b (by simp [hb])⟩
  obtain ⟨y,hy,e⟩:=List.mem_map.1 q
  exact nd.1 (by rw [h x (by simp) y (by simp [hy]) e.symm]; exact hy)
theorem CaI.mi {N B n t:Nat} {c:Ca} {L:List Nat} (h:CaI N B n t [] c L):MI N B n t (Z2 c L) where
 dim:=h.dim
 len i f hf:=Zn0 h hf
 rnd:=Zeg h.chn.nd fun x hx y hy e=>by
  obtain ⟨i,hi,e1,_⟩:=Vl h hx
  obtain ⟨j,hj,e2,_⟩:=Vl h hy
  have:i=j:=by omega
  subst this
  exact Zav h hi hj
 rfr q:=by
  constructor
  ·intro hq
   obtain ⟨f,hf,e⟩:=List.mem_map.1 hq
   obtain ⟨i,hi,e1,hp,_⟩:=Vl h hf
   have:i=q:=by omega
   subst this
   exact ⟨_,Wi h hi,by unfold fm; dsimp only; rw [hp]; rfl⟩
  ·rintro ⟨f,hf,hp⟩
   rcases h.get q with ⟨_,g2⟩ | ⟨f',ha,_,_,ok⟩
   ·have:=Ue g2
    rw [show Xj c q=some f from hf] at this; cases this
   ·have h1:=Wi h ha
    rw [show Xj c q=some f from hf] at h1
    injection h1 with h1
    subst h1
    refine (Znx h ha).2 ((h.lok f').2 ⟨⟨_,ha⟩,?_⟩)
    have:=ok.pin
    unfold fm at hp
    dsimp only at hp
    omega
 ule:=h.used
 rle:=by
  show (L.map (Xx c)).length≤n
  rw [List.length_map]
  exact h.chn.short
def findR (l:List Rf) (i:Int):Int:=match l.findIdx? fun x=>decide (x.1=i) with
 | none=>-1
 | some q=>(q:Int)
section
variable {N B n t:Nat} {w:Rc} {m:MC} {i:Nat} {f:Fm}
theorem RR.len (h:RR N B n w m) (mi:MI N B n t m) (h64:n≤64):w.2.1.length≤64:=by have:=h.used; have:=mi.ule; omega
theorem RR.put (h:RR N B n w m) {f0:Fm} (e:m.fr i=some f0) (f:Fm) (row:List Nat):RR N B n (w.1,V2 (i:Int) w.2.1 ++ [rfm i f],w.2.2.1,row.map fun(i:Nat)=>(i:Int)) ⟨m.img,m.rd,m.wr,upd m.fr i (some f),m.used,row⟩:=by
 refine ⟨h.dev,h.most,rfl,h.fr.put i f,?_⟩
 show (V2 (i:Int) w.2.1 ++ [rfm i f]).length=m.used
 have h1:=Zb4 h.fr.nd (h.fr.all i f0 e)
 rw [List.length_append,List.length_singleton,← h.used]
 exact h1
theorem RR.come (h:RR N B n w m) (e:m.fr i=none) (f:Fm) (rd:Int):RR N B n ((w.1.1,w.1.2.1,rd,w.1.2.2.2),V2 (i:Int) w.2.1 ++ [rfm i f],w.2.2) ⟨m.img,rd,m.wr,upd m.fr i (some f),m.used+1,m.row⟩:=by
 refine ⟨by rw [h.dev],h.most,h.row,h.fr.put i f,?_⟩
 show (V2 (i:Int) w.2.1 ++ [rfm i f]).length=m.used+1
 rw [Zm6 h.fr e,List.length_append,List.length_singleton,h.used]
theorem RR.gone (h:RR N B n w m) {f0:Fm} (e:m.fr i=some f0) (img:TU) (wr:Int) (row:List Nat):RR N B n (((B:Int),Lb img N B,m.rd,wr),V2 (i:Int) w.2.1,w.2.2.1,row.map fun(i:Nat)=>(i:Int)) ⟨img,m.rd,wr,upd m.fr i none,m.used - 1,row⟩:=by
 refine ⟨rfl,h.most,rfl,h.fr.gone i,?_⟩
 have h1:=Zb4 h.fr.nd (h.fr.all i f0 e)
 have h2:=h.used
 show (V2 (i:Int) w.2.1).length=m.used - 1
 have h3:(rfm i f0).1=(i:Int):=rfl
 rw [h3] at h1
 omega
end
structure Sz8 (N B n:Nat) (m:MC):Prop where
 hN:N≤65536
 hNB:N*B≤4294967296
 hB1:1≤B
 hN1:1≤N
 h64:n≤64
 rd:0≤m.rd∧m.rd≤1000000000
 wr:0≤m.wr∧m.wr≤1000000000
section
variable {N B n t:Nat} {w:Rc} {m:MC} {i:Nat} {f:Fm}
theorem Sz8.B_le (z:Sz8 N B n m):B≤4294967296:=Nat.le_trans (Nat.le_mul_of_pos_left B z.hN1) z.hNB
theorem RR.ext (h:RR N B n w m):w=(((B:Int),Lb m.img N B,m.rd,m.wr),w.2.1,(n:Int),m.row.map fun(i:Nat)=>(i:Int)):=by
 have h1:=h.dev
 have h2:=h.most
 have h3:=h.row
 obtain ⟨a,b,c,d⟩:=w
 dsimp only at h1 h2 h3 ⊢
 rw [h1,h2,h3]
end
section
variable {N B n t:Nat} {w:Rc} {m:MC} {i:Nat} {f:Fm}
theorem Jw (e:m.fr i=some f):m.backI B i=⟨patch m.img (i*B) B f.b,m.rd,m.wr+1,upd m.fr i (some ⟨f.b,false,f.p⟩),m.used,m.row⟩:=by unfold MC.backI; rw [e]
theorem Zb8 (e:m.fr i=none):m.backI B i=m:=by unfold MC.backI; rw [e]
theorem MI.back (mi:MI N B n t m) (i:Nat):MI N B n t (m.backI B i):=by
 cases e:m.fr i with
 | none=>rw [Zb8 e]; exact mi
 | some f=>
  have hlen:=mi.len i f e
  rw [Jw e]
  refine ⟨Ze5 mi.dim hlen.1,fun j f' hj=>?_,mi.rnd,fun q=>?_,mi.ule,mi.rle⟩
  ·dsimp only at hj
   by_cases q:j=i
   ·subst q; rw [Yc] at hj; injection hj with hj; subst hj; exact hlen
   ·rw [Yf q] at hj; exact mi.len j f' hj
  ·show q∈m.row↔∃ f',upd m.fr i (some ⟨f.b,false,f.p⟩) q=some f'∧f'.p=0
   rw [mi.rfr q]
   by_cases hq:q=i
   ·subst hq
    rw [Yc,e]
    exact ⟨fun ⟨f',h1,h2⟩=>⟨_,rfl,by injection h1 with h1; subst h1; exact h2⟩,fun ⟨f',h1,h2⟩=>⟨_,rfl,by injection h1 with h1; subst h1; exact h2⟩⟩
   ·rw [Yf hq]
theorem Sz8.back (z:Sz8 N B n m) (i:Nat) (hw:m.wr≤999999999):Sz8 N B n (m.backI B i):=by
 cases e:m.fr i with
 | none=>rw [Zb8 e]; exact z
 | some f=>rw [Jw e]; exact ⟨z.hN,z.hNB,z.hB1,z.hN1,z.h64,z.rd,by have:=z.wr; dsimp only; omega⟩
end
theorem Zbs:∀ {l₁ l₂:TU},l₁.Pairwise (·<·)→l₂.Pairwise (·<·)→(∀ x,x∈l₁↔x∈l₂)→l₁=l₂
 | [],[],_,_,_=>rfl
 | [],y :: _,_,_,h=>by have:=(h y).2 (by simp); simp at this
 | x :: _,[],_,_,h=>by have:=(h x).1 (by simp); simp at this
 | x :: s,y :: t,h1,h2,h=>by
  rw [List.pairwise_cons] at h1 h2
  have e:x=y:=by
   have a:=(h x).1 (by simp)
   have b:=(h y).2 (by simp)
   rcases List.mem_cons.1 a with a | a
   ·exact a
   ·rcases List.mem_cons.1 b with b | b
    ·exact b.symm
    ·have:=h1.1 y b
     have:=h2.1 x a
     omega
  subst e
  rw [Zbs h1.2 h2.2 fun z=>?_]
  constructor
  ·intro hz
   rcases List.mem_cons.1 ((h z).1 (by simp [hz])) with e | e
   ·have:=h1.1 z hz; omega
   ·exact e
  ·intro hz
   rcases List.mem_cons.1 ((h z).2 (by simp [hz])) with e | e
   ·have:=h2.1 z hz; omega
   ·exact e
section
variable {N B n t:Nat} {c:Ca} {L:List Nat}
theorem Zmt (h:CaI N B n t [] c L):Vx c=((Z2 c L).dirty N).map fun(i:Nat)=>(i:Int):=by
 refine Zbs ?_ ?_ fun x=>?_
 ·refine List.Pairwise.filter _ ?_
  have h1:=List.pairwise_mergeSort (le:=fun x y:Int=>decide (x≤y)) (fun a b c h1 h2=>by simp only [decide_eq_true_eq] at *; omega) (fun a b=>by simp only [Bool.or_eq_true,decide_eq_true_eq]; omega) (c.2.2.1.map Prod.fst)
  have h2:(Wr c).Nodup:=(Vf c).nodup_iff.2 h.mnd
  exact (h1.and h2).imp fun {a b} q=>by
   have q1:=q.1
   simp only [decide_eq_true_eq] at q1
   have q2:=q.2
   omega
 ·refine List.Pairwise.map _ (fun a b (q:a<b)=>by omega) ?_
  exact List.Pairwise.filter _ List.pairwise_lt_range
 ·unfold Vx
  rw [List.mem_filter]
  constructor
  ·rintro ⟨h1,h2⟩
   obtain ⟨i,f,e1,hp,e2,ok⟩:=Zgm h h1
   refine List.mem_map.2 ⟨i,List.mem_filter.2 ⟨List.mem_range.2 ok.hi,?_⟩,e1.symm⟩
   unfold MC.isD
   rw [show (Z2 c L).fr i=_ from Wi h hp]
   unfold J6 at h2
   rw [e2,Z8] at h2
   exact h2
  ·intro h1
   obtain ⟨i,hi,rfl⟩:=List.mem_map.1 h1
   obtain ⟨h2,h3⟩:=List.mem_filter.1 hi
   unfold MC.isD at h3
   rcases h.get i with ⟨_,g2⟩ | ⟨f,ha,_,g,ok⟩
   ·rw [show (Z2 c L).fr i=none from Ue g2] at h3; cases h3
   ·rw [show (Z2 c L).fr i=_ from Wi h ha] at h3
    refine ⟨(Vf c).mem_iff.2 (List.mem_map.2 ⟨_,ha,rfl⟩),?_⟩
    unfold J6
    rw [g,Z8]
    exact h3
theorem Znd (z:Siz N B n) (h:CaI N B n t [] c L) {i f:Nat} (ha:((i:Int),(f:Int))∈c.2.2.1):Z2 ((c.1.1,patch c.1.2.1 (i*B) B (gt c.2.1 (f:Int)).2.1,c.1.2.2.1,c.1.2.2.2+1),c.2.1.set f ((gt c.2.1 (f:Int)).1,(gt c.2.1 (f:Int)).2.1,false,(gt c.2.1 (f:Int)).2.2.2),c.2.2) L=(Z2 c L).backI B i:=by
 have g:gt c.2.1 (f:Int)=c.2.1.getD f default:=Z8 _ _
 have hf:=(h.atN ha).hf
 have hfl:=h.frl
 rw [Jw (show (Z2 c L).fr i=_ from Wi h ha)]
 refine MC.ext' ?_ rfl rfl (fun j=>?_) rfl ?_
 ·show patch c.1.2.1 (i*B) B _=patch c.1.2.1 (i*B) B _
  rw [g]; rfl
 ·refine Eq.trans (Uc h ha j) ?_
  rw [g]; rfl
 ·exact Wm (by omega) (by rw [g]; rfl) _
theorem Zej (z:Siz N B n) (h:CaI N B n t [] c L) {D:List Nat} (hD:Vx c=D.map fun(i:Nat)=>(i:Int)) (nd:D.Nodup):∀(q j:Nat) (d:Dv) (fr:List Fr8),D.length=j+q→CaI N B n t [] (d,fr,c.2.2) L→0≤d.2.2.2∧d.2.2.2+q≤200000000→(∀ i∈D.drop j,(Z2 (d,fr,c.2.2) L).isD i=true)→
  ∃ c',(∀ k,q<k→Q16.l0 k c (Vx c) d.1 d.2.1 d.2.2.1 d.2.2.2 fr (j:Int)=some (0,c'))∧CaI N B n t [] c' L∧Z2 c' L=(D.drop j).foldl (MC.backI B) (Z2 (d,fr,c.2.2) L)
 | 0,j,d,fr,hj,hi,hw,hd=>by
  have hl:=Bi z h
  have h64:=z.h64
  have hDl:(Vx c).length=D.length:=by rw [hD,List.length_map]
  refine ⟨(d,fr,c.2.2),fun k hk=>?_,hi,by rw [List.drop_eq_nil_of_le (by omega)]; rfl⟩
  obtain ⟨k,rfl⟩:∃ k2,k=k2+1:=⟨k - 1,by omega⟩
  rw [Q16.l0,if_neg (by simp only [decide_eq_true_eq]; omega)]
 | q+1,j,d,fr,hj,hi,hw,hd=>by
  have hl:=Bi z h
  have h64:=z.h64
  have hDl:(Vx c).length=D.length:=by rw [hD,List.length_map]
  have hjD:j<D.length:=by omega
  have hjl:j<(Vx c).length:=by omega
  have hin:(Vx c).getD j default∈Wr c:=(List.mem_filter.1 (Xs (l:=Vx c) hjl)).1
  obtain ⟨i,f,e1,hp,e2,ok⟩:=Zgm h hin
  have hf:=ok.hf
  have hfl:=hi.frl
  have ei:D.getD j default=i:=by
   rw [hD,List.getD_eq_getElem?_getD,List.getElem?_map,List.getElem?_eq_getElem hjD] at e1
   rw [List.getD_eq_getElem?_getD,List.getElem?_eq_getElem hjD]
   have:((D[j]:Nat):Int)=i:=e1
   show D[j]=i
   omega
  have hdr:D.drop j=i :: D.drop (j+1):=by rw [Yi hjD,ei]
  have hni:i∉D.drop (j+1):=by
   have:=(List.drop_sublist j D).nodup nd
   rw [hdr,List.nodup_cons] at this
   exact this.1
  have hdi:=hd i (by rw [hdr]; simp)
  have hfri:(Z2 (d,fr,c.2.2) L).fr i=some (fm (fr.getD f default)):=Wi hi (i:=i) (f:=f) hp
  have q1:(gt fr (f:Int)).2.2.1=true:=by
   unfold MC.isD at hdi
   rw [hfri] at hdi
   rw [Z8]; exact hdi
  have hb:=hi.back z (i:=i) (f:=f) hp (d.2.2.1,d.2.2.2+1)
  have habs:=Znd z hi (i:=i) (f:=f) hp
  have hwr:=Zgb z hi (i:=i) (f:=f) hp
  obtain ⟨c',g1,g2,g3⟩:=Zej z h hD nd q (j+1) (d.1,patch d.2.1 (i*B) B (gt fr (f:Int)).2.1,d.2.2.1,d.2.2.2+1) (fr.set f ((gt fr (f:Int)).1,(gt fr (f:Int)).2.1,false,(gt fr (f:Int)).2.2.2)) (by omega) hb (by dsimp only; omega) (fun i' hi'=>by
   have hne:i'≠i:=fun e=>hni (by rw [← e]; exact hi')
   have h1:=hd i' (by rw [hdr]; simp [hi'])
   rw [show Z2 ((d.1,patch d.2.1 (i*B) B (gt fr (f:Int)).2.1,d.2.2.1,d.2.2.2+1),fr.set f ((gt fr (f:Int)).1,(gt fr (f:Int)).2.1,false,(gt fr (f:Int)).2.2.2),c.2.2) L=_ from habs,Jw hfri]
   unfold MC.isD at h1 ⊢
   dsimp only
   rw [Yf hne]; exact h1)
  refine ⟨c',fun k hk=>?_,g2,?_⟩
  ·obtain ⟨k,rfl⟩:∃ k2,k=k2+1:=⟨k - 1,by omega⟩
   rw [Q16.l0,if_pos (decide_eq_true (by omega)),if_pos (by omega),Z8,e2,if_pos (by dsimp only at hfl; omega)]
   rw [if_pos q1,show Q56.f (d.1,d.2.1,(d.2.2.1,d.2.2.2)) (gt fr (f:Int)).1 (gt fr (f:Int)).2.1=_ from hwr,Option.bind_some]
   dsimp only
   rw [Zi5 (by omega),Int.toNat_natCast,Z9 (by omega)]
   exact g1 k (by omega)
  ·rw [g3,hdr,List.foldl_cons]
   exact congrArg (fun x=>List.foldl (MC.backI B) x (D.drop (j+1))) habs
theorem Zoo (z:Siz N B n) (h:CaI N B n t [] c L) (fw:Few c):∃ c',(∀ k,200<k→Q16.f k c=some (0,c'))∧CaI N B n t [] c' L∧Z2 c' L=(Z2 c L).flush N B:=by
 have hl:=Bi z h
 have h64:=z.h64
 have hD:=Zmt h
 have hDl:(Vx c).length=((Z2 c L).dirty N).length:=by rw [hD,List.length_map]
 obtain ⟨c',g1,g2,g3⟩:=Zej z h hD ((List.filter_sublist).nodup List.nodup_range) ((Z2 c L).dirty N).length 0 c.1 c.2.1 (by omega) h ⟨fw.wr.1,by have:=fw.wr.2; omega⟩ (fun i hi=>(List.mem_filter.1 hi).2)
 refine ⟨c',fun k hk=>?_,g2,g3⟩
 unfold Q16.f Q23.f
 rw [Option.bind_some,if_neg (by simp),show Q14.f k c=_ from Zoy z h (by omega),Option.bind_some]
 exact g1 k (by omega)
end
def MC.act (N B n:Nat) (m:MC) (kd:Int) (i:Nat) (b:TU):Int×MC:=
 if kd=0 then m.pin N B n i else if kd=1 then m.pin N B n i else if kd=2 then m.fresh N B n i else if kd=3 then m.unpin i else if kd=4 then m.unpin i else
 if kd=5 then m.write B i b else if kd=6 then m.write B i b else if kd=7 then m.drop i else if kd=8 then (0,m.flush N B) else if kd=9 then ((m.read i).2,m) else (0,m)
section
variable {N B n t:Nat} {c:Ca} {L:List Nat} {w:Rc} {m:MC}
end
def Byt (l:TU):Prop:=∀ x∈l,0≤x∧x<256
theorem Byt.rep (n:Nat):Byt (List.replicate n 0):=fun x hx=>by rw [List.eq_of_mem_replicate hx]; omega
theorem Byt.blk {img:TU} (h:Byt img) (B i:Nat):Byt (blk img B i):=fun x hx=>h x (List.mem_of_mem_drop (List.mem_of_mem_take hx))
theorem Byt.patch {img b:TU} (h:Byt img) (hb:Byt b) (a n:Nat):Byt (patch img a n b):=fun x hx=>by
 unfold SK.patch at hx
 rcases List.mem_append.1 hx with hx | hx
 ·rcases List.mem_append.1 hx with hx | hx
  ·exact h x (List.mem_of_mem_take hx)
  ·exact hb x (List.mem_of_mem_take hx)
 ·exact h x (List.mem_of_mem_drop hx)
namespace MC
def cnt (m:MC) (i:Nat):Nat:=match m.fr i with
 | none=>0
 | some x=>x.p
theorem cnt_no {m:MC} {i:Nat} (e:m.fr i=none):m.cnt i=0:=by unfold cnt; rw [e]
theorem cnt_at {m:MC} {i:Nat} {x:Fm} (e:m.fr i=some x):m.cnt i=x.p:=by unfold cnt; rw [e]
structure By (m:MC):Prop where
 img:Byt m.img
 fr:∀ i x,m.fr i=some x→Byt x.b
structure To (a b:Nat) (m m':MC):Prop where
 rd:m.rd≤m'.rd∧m'.rd≤m.rd+a
 wr:m.wr≤m'.wr∧m'.wr≤m.wr+b
 by':By m→By m'
theorem To.refl (m:MC):To 0 0 m m:=⟨⟨Int.le_refl _,by omega⟩,⟨Int.le_refl _,by omega⟩,id⟩
theorem To.le {a b a' b':Nat} {m m':MC} (h:To a b m m') (ha:a≤a') (hb:b≤b'):To a' b' m m':=⟨⟨h.rd.1,by have:=h.rd.2; omega⟩,⟨h.wr.1,by have:=h.wr.2; omega⟩,h.by'⟩
theorem To.trans {a b a' b':Nat} {m m' m'':MC} (h:To a b m m') (g:To a' b' m' m''):To (a+a') (b+b') m m'':=⟨⟨Int.le_trans h.rd.1 g.rd.1,by have:=h.rd.2; have:=g.rd.2; omega⟩,⟨Int.le_trans h.wr.1 g.wr.1,by have:=h.wr.2; have:=g.wr.2; omega⟩,fun y=>g.by' (h.by' y)⟩
end MC
section
variable {N B n t:Nat} {m k:MC} {i:Nat} {x:Fm}
theorem Pm.lay {img:TU} {rd wr:Int} {fr:Nat→Option Fm} {u u':Nat} {row row':List Nat} (hx:Byt x.b):(MC.By ⟨img,rd,wr,fr,u,row⟩→MC.By ⟨img,rd,wr,upd fr i (some x),u',row'⟩)∧∀ j,(⟨img,rd,wr,upd fr i (some x),u',row'⟩:MC).cnt j=if j=i then x.p else (⟨img,rd,wr,fr,u,row⟩:MC).cnt j:=by
 refine ⟨fun h=>⟨h.img,fun j y hj=>?_⟩,fun j=>?_⟩
 ·have hj':upd fr i (some x) j=some y:=hj
  by_cases q:j=i
  ·subst q; rw [Yc] at hj'; injection hj' with hj'; subst hj'; exact hx
  ·rw [Yf q] at hj'; exact h.fr j y hj'
 ·by_cases q:j=i
  ·subst q; rw [if_pos rfl]; exact MC.cnt_at (Yc _ _ _)
  ·rw [if_neg q]; unfold MC.cnt; dsimp only; rw [Yf q]
theorem Pm.evict (e:m.fr i=some x) (p:x.p=0):MC.To 0 1 m (m.evict B i)∧(∀ j,(m.evict B i).cnt j=m.cnt j)∧∀ j,m.fr j=none→(m.evict B i).fr j=none:=by
 rw [MC.evict_eq e]
 refine ⟨⟨⟨Int.le_refl _,by dsimp only; omega⟩,by dsimp only; split <;> omega,fun h=>⟨?_,fun j y hj=>?_⟩⟩,fun j=>?_,fun j hj=>?_⟩
 ·dsimp only
  split
  ·exact h.img.patch (h.fr i x e) _ _
  ·exact h.img
 ·have hj':upd m.fr i none j=some y:=hj
  by_cases q:j=i
  ·subst q; rw [Yc] at hj'; cases hj'
  ·rw [Yf q] at hj'; exact h.fr j y hj'
 ·by_cases q:j=i
  ·subst q; rw [MC.cnt_at e,MC.cnt_no (Yc _ _ _),p]
  ·unfold MC.cnt; dsimp only; rw [Yf q]
 ·show upd m.fr i none j=none
  by_cases q:j=i
  ·subst q; exact Yc _ _ _
  ·rw [Yf q]; exact hj
theorem Pm.room (mi:MI N B n t m) (h:m.room B n=some k):MC.To 0 1 m k∧(∀ j,k.cnt j=m.cnt j)∧∀ j,m.fr j=none→k.fr j=none:=by
 unfold MC.room at h
 split at h
 ·injection h with h; subst h; exact ⟨(MC.To.refl _).le (by omega) (by omega),fun _=>rfl,fun _ h=>h⟩
 ·split at h
  ·cases h
  ·rename_i q hq
   injection h with h; subst h
   obtain ⟨x,e,p⟩:=(mi.rfr q).1 (List.mem_of_getLast? hq)
   exact Pm.evict e p
theorem Pm.pin (mi:MI N B n t m) (hy:m.By) (i:Nat):MC.To 1 1 m (m.pin N B n i).2∧(1≤m.cnt i→MC.To 0 0 m (m.pin N B n i).2)∧∀ j,(m.pin N B n i).2.cnt j=if (m.pin N B n i).1=0∧j=i then m.cnt i+1 else m.cnt j:=by
 have r0:=(MC.To.refl m).le (Nat.zero_le 1) (Nat.zero_le 1)
 by_cases h:N≤i
 ·rw [MC.pin_out h]; exact ⟨r0,fun _=>MC.To.refl m,fun _=>by rw [if_neg (by simp)]⟩
 cases e:m.fr i with
 | some x=>
  obtain ⟨h1,h2⟩:=Pm.lay (img:=m.img) (rd:=m.rd) (wr:=m.wr) (fr:=m.fr) (u:=m.used) (row:=m.row) (i:=i) (x:=⟨x.b,x.d,x.p+1⟩) (u':=m.used) (row':=m.row.erase i) (hy.fr i x e)
  have t0:MC.To 0 0 m (m.pin N B n i).2:=by rw [MC.pin_hit h e]; exact ⟨⟨Int.le_refl _,by show m.rd≤_; omega⟩,⟨Int.le_refl _,by show m.wr≤_; omega⟩,h1⟩
  refine ⟨t0.le (by omega) (by omega),fun _=>t0,fun j=>?_⟩
  rw [MC.pin_hit h e,show ((m.put i ⟨x.b,x.d,x.p+1⟩).cut i).cnt j=_ from h2 j]
  by_cases q:j=i
  ·rw [if_pos q,if_pos ⟨rfl,q⟩,MC.cnt_at e]
  ·rw [if_neg q,if_neg (fun z=>q z.2)]
 | none=>
  cases r:m.room B n with
  | none=>rw [MC.pin_full h e r]; exact ⟨r0,fun _=>MC.To.refl m,fun _=>by rw [if_neg (by simp)]⟩
  | some k=>
   obtain ⟨c1,c2,c3⟩:=Pm.room mi r
   have hk:=c1.by' hy
   obtain ⟨h1,h2⟩:=Pm.lay (img:=k.img) (rd:=k.rd+1) (wr:=k.wr) (fr:=k.fr) (u:=k.used) (row:=k.row) (i:=i) (x:=⟨blk k.img B i,false,1⟩) (u':=k.used+1) (row':=k.row) (hk.img.blk B i)
   rw [MC.pin_miss h e r]
   refine ⟨⟨by show m.rd≤k.rd+1∧k.rd+1≤_; have:=c1.rd; omega,by show m.wr≤k.wr∧k.wr≤_; have:=c1.wr; omega,fun _=>h1 ⟨hk.img,hk.fr⟩⟩,fun c=>by rw [MC.cnt_no e] at c; omega,fun j=>?_⟩
   rw [show ((⟨k.img,k.rd+1,k.wr,k.fr,k.used,k.row⟩:MC).come i ⟨blk k.img B i,false,1⟩).cnt j=_ from h2 j]
   by_cases q:j=i
   ·rw [if_pos q,if_pos ⟨rfl,q⟩,MC.cnt_no e]
   ·rw [if_neg q,if_neg (fun z=>q z.2)]; exact c2 j
theorem Pm.fresh (mi:MI N B n t m) (hy:m.By) (i:Nat):MC.To 0 1 m (m.fresh N B n i).2∧∀ j,(m.fresh N B n i).2.cnt j=if (m.fresh N B n i).1=0∧j=i then m.cnt i+1 else m.cnt j:=by
 have r0:=(MC.To.refl m).le (Nat.zero_le 0) (Nat.zero_le 1)
 by_cases h:N≤i
 ·rw [MC.fresh_out h]; exact ⟨r0,fun _=>by rw [if_neg (by simp)]⟩
 cases e:m.fr i with
 | some x=>
  by_cases p:0<x.p
  ·rw [MC.fresh_pin h e p]; exact ⟨r0,fun _=>by rw [if_neg (by simp)]⟩
  obtain ⟨h1,h2⟩:=Pm.lay (img:=m.img) (rd:=m.rd) (wr:=m.wr) (fr:=m.fr) (u:=m.used) (row:=m.row) (i:=i) (x:=⟨List.replicate B 0,true,1⟩) (u':=m.used) (row':=m.row.erase i) (Byt.rep B)
  rw [MC.fresh_hit h e p]
  refine ⟨⟨⟨Int.le_refl _,by show m.rd≤_; omega⟩,⟨Int.le_refl _,by show m.wr≤_; omega⟩,h1⟩,fun j=>?_⟩
  rw [show ((m.put i ⟨List.replicate B 0,true,1⟩).cut i).cnt j=_ from h2 j]
  by_cases q:j=i
  ·rw [if_pos q,if_pos ⟨rfl,q⟩,MC.cnt_at e]; dsimp only; omega
  ·rw [if_neg q,if_neg (fun z=>q z.2)]
 | none=>
  cases r:m.room B n with
  | none=>rw [MC.fresh_full h e r]; exact ⟨r0,fun _=>by rw [if_neg (by simp)]⟩
  | some k=>
   obtain ⟨c1,c2,c3⟩:=Pm.room mi r
   have hk:=c1.by' hy
   obtain ⟨h1,h2⟩:=Pm.lay (img:=k.img) (rd:=k.rd) (wr:=k.wr) (fr:=k.fr) (u:=k.used) (row:=k.row) (i:=i) (x:=⟨List.replicate B 0,true,1⟩) (u':=k.used+1) (row':=k.row) (Byt.rep B)
   rw [MC.fresh_miss h e r]
   refine ⟨⟨c1.rd,c1.wr,fun _=>h1 ⟨hk.img,hk.fr⟩⟩,fun j=>?_⟩
   rw [show (k.come i ⟨List.replicate B 0,true,1⟩).cnt j=_ from h2 j]
   by_cases q:j=i
   ·rw [if_pos q,if_pos ⟨rfl,q⟩,MC.cnt_no e]
   ·rw [if_neg q,if_neg (fun z=>q z.2)]; exact c2 j
theorem Pm.unpin (hy:m.By) (i:Nat):MC.To 0 0 m (m.unpin i).2∧∀ j,(m.unpin i).2.cnt j=if j=i then m.cnt i - 1 else m.cnt j:=by
 have same:(∀ j,m.cnt j=if j=i then m.cnt i - 1 else m.cnt j)↔m.cnt i=0:=⟨fun h=>by have:=h i; rw [if_pos rfl] at this; omega,fun h j=>by split; rename_i q; subst q; omega; rfl⟩
 cases e:m.fr i with
 | none=>rw [MC.unpin_no e]; exact ⟨MC.To.refl m,same.2 (MC.cnt_no e)⟩
 | some x=>
  have key:∀(p u:Nat) (row:List Nat),p=x.p - 1→MC.To 0 0 m (⟨m.img,m.rd,m.wr,upd m.fr i (some ⟨x.b,x.d,p⟩),u,row⟩:MC)∧∀ j,(⟨m.img,m.rd,m.wr,upd m.fr i (some ⟨x.b,x.d,p⟩),u,row⟩:MC).cnt j=if j=i then m.cnt i - 1 else m.cnt j:=fun p u row hp=>by
   obtain ⟨h1,h2⟩:=Pm.lay (img:=m.img) (rd:=m.rd) (wr:=m.wr) (fr:=m.fr) (u:=m.used) (row:=m.row) (i:=i) (x:=⟨x.b,x.d,p⟩) (u':=u) (row':=row) (hy.fr i x e)
   refine ⟨⟨⟨Int.le_refl _,by show m.rd≤_; omega⟩,⟨Int.le_refl _,by show m.wr≤_; omega⟩,h1⟩,fun j=>?_⟩
   rw [h2 j,MC.cnt_at e]
   split
   ·exact hp
   ·rfl
  by_cases p:x.p=0
  ·rw [MC.unpin_out e p]; exact ⟨MC.To.refl m,same.2 (by rw [MC.cnt_at e]; exact p)⟩
  ·by_cases p1:x.p=1
   ·rw [MC.unpin_one e p1]; exact key _ _ _ (by omega)
   ·rw [MC.unpin_more e p p1]; exact key _ _ _ rfl
theorem Pm.write (i:Nat) {b:TU} (hb:Byt b):MC.To 0 0 m (m.write B i b).2∧∀ j,(m.write B i b).2.cnt j=m.cnt j:=by
 cases e:m.fr i with
 | none=>rw [MC.write_no e]; exact ⟨MC.To.refl m,fun _=>rfl⟩
 | some x=>
  by_cases p:x.p=0
  ·rw [MC.write_out e p]; exact ⟨MC.To.refl m,fun _=>rfl⟩
  ·by_cases q:b.length=B
   ·rw [MC.write_hit e p q]
    obtain ⟨h1,h2⟩:=Pm.lay (img:=m.img) (rd:=m.rd) (wr:=m.wr) (fr:=m.fr) (u:=m.used) (row:=m.row) (i:=i) (x:=⟨b,true,x.p⟩) (u':=m.used) (row':=m.row) hb
    refine ⟨⟨⟨Int.le_refl _,by show m.rd≤_; omega⟩,⟨Int.le_refl _,by show m.wr≤_; omega⟩,h1⟩,fun j=>?_⟩
    rw [show (m.put i ⟨b,true,x.p⟩).cnt j=_ from h2 j]
    split
    ·rename_i q; subst q; exact (MC.cnt_at e).symm
    ·rfl
   ·rw [MC.write_form e p q]; exact ⟨MC.To.refl m,fun _=>rfl⟩
theorem Pm.drop (i:Nat):MC.To 0 0 m (m.drop i).2∧∀ j,(m.drop i).2.cnt j=m.cnt j:=by
 cases e:m.fr i with
 | none=>rw [MC.drop_no e]; exact ⟨MC.To.refl m,fun _=>rfl⟩
 | some x=>
  by_cases p:0<x.p
  ·rw [MC.drop_pin e p]; exact ⟨MC.To.refl m,fun _=>rfl⟩
  ·rw [MC.drop_hit e p]
   refine ⟨⟨⟨Int.le_refl _,by show m.rd≤_; omega⟩,⟨Int.le_refl _,by show m.wr≤_; omega⟩,fun h=>⟨h.img,fun j y hj=>?_⟩⟩,fun j=>?_⟩
   ·have hj':upd m.fr i none j=some y:=hj
    by_cases q:j=i
    ·subst q; rw [Yc] at hj'; cases hj'
    ·rw [Yf q] at hj'; exact h.fr j y hj'
   ·by_cases q:j=i
    ·subst q; rw [MC.cnt_at e,MC.cnt_no (Yc _ _ _)]; omega
    ·unfold MC.cnt; dsimp only; rw [Yf q]
theorem Pm.backI (hy:m.By) (i:Nat):MC.To 0 1 m (m.backI B i)∧∀ j,(m.backI B i).cnt j=m.cnt j:=by
 cases e:m.fr i with
 | none=>rw [show m.backI B i=m by unfold MC.backI; rw [e]]; exact ⟨(MC.To.refl m).le (Nat.zero_le 0) (Nat.zero_le 1),fun _=>rfl⟩
 | some x=>
  rw [show m.backI B i=⟨patch m.img (i*B) B x.b,m.rd,m.wr+1,upd m.fr i (some ⟨x.b,false,x.p⟩),m.used,m.row⟩ by unfold MC.backI; rw [e]]
  obtain ⟨h1,h2⟩:=Pm.lay (img:=patch m.img (i*B) B x.b) (rd:=m.rd) (wr:=m.wr+1) (fr:=m.fr) (u:=m.used) (row:=m.row) (i:=i) (x:=⟨x.b,false,x.p⟩) (u':=m.used) (row':=m.row) (hy.fr i x e)
  refine ⟨⟨⟨Int.le_refl _,by dsimp only; omega⟩,by dsimp only; omega,fun h=>h1 ⟨h.img.patch (hy.fr i x e) _ _,h.fr⟩⟩,fun j=>?_⟩
  rw [h2 j]
  split
  ·rename_i q; subst q; exact (MC.cnt_at e).symm
  ·rfl
theorem Pm.backs:∀(D:List Nat) (m:MC),m.By→MC.To 0 D.length m (D.foldl (MC.backI B) m)∧∀ j,(D.foldl (MC.backI B) m).cnt j=m.cnt j
 | [],m,_=>⟨MC.To.refl m,fun _=>rfl⟩
 | i :: D,m,hy=>by
  obtain ⟨c1,c2⟩:=Pm.backI (B:=B) hy i
  obtain ⟨d1,d2⟩:=Pm.backs D _ (c1.by' hy)
  rw [List.foldl_cons]
  exact ⟨(c1.trans d1).le (by omega) (by rw [List.length_cons]; omega),fun j=>(d2 j).trans (c2 j)⟩
end
abbrev Bt:=Int×Int×List Int
theorem Zif:IntKind.u64.bits=64:=rfl
theorem wrB {m:Nat} (h:m<18446744073709551616):IntKind.u64.wrap (m:Int)=(m:Int):=by
 have:IntKind.u64.wrap (m:Int)=((m % 18446744073709551616:Nat):Int):=by simp [IntKind.wrap,IntKind.bits,IntKind.signed]
 rw [this,Nat.mod_eq_of_lt h]
theorem ofB {x:Nat} (h:x<18446744073709551616):(BitVec.ofInt IntKind.u64.bits (x:Int)).toNat=x:=by
 rw [BitVec.ofInt_natCast,BitVec.toNat_ofNat,Zif]
 exact Nat.mod_eq_of_lt h
theorem Zgp (v:BitVec IntKind.u64.bits):v.toNat<18446744073709551616:=v.isLt
theorem anB {x y:Nat} (hx:x<18446744073709551616) (hy:y<18446744073709551616):(BitVec.ofInt IntKind.u64.bits (x:Int) &&& BitVec.ofInt IntKind.u64.bits (y:Int)).toNat=x &&& y:=by rw [BitVec.toNat_and,ofB hx,ofB hy]
theorem orB {x y:Nat} (hx:x<18446744073709551616) (hy:y<18446744073709551616):(BitVec.ofInt IntKind.u64.bits (x:Int) ||| BitVec.ofInt IntKind.u64.bits (y:Int)).toNat=x ||| y:=by rw [BitVec.toNat_or,ofB hx,ofB hy]
theorem xoB {x y:Nat} (hx:x<18446744073709551616) (hy:y<18446744073709551616):(BitVec.ofInt IntKind.u64.bits (x:Int) ^^^ BitVec.ofInt IntKind.u64.bits (y:Int)).toNat=x ^^^ y:=by rw [BitVec.toNat_xor,ofB hx,ofB hy]
theorem Zqe {x y:Nat} (hx:x<18446744073709551616) (hy:y<18446744073709551616) (i:Nat) (hi:i<64):(BitVec.ofInt IntKind.u64.bits (x:Int) &&& ~~~(BitVec.ofInt IntKind.u64.bits (y:Int))).toNat.testBit i=(x.testBit i && !y.testBit i):=by
 rw [BitVec.toNat_and,Nat.testBit_and,ofB hx]
 congr 1
 rw [← BitVec.getLsbD,BitVec.getLsbD_not,BitVec.getLsbD,ofB hy]
 simp [Zif,hi]
theorem Zin {b:Nat} (h:b<64):IntKind.u64.wrap ((1:Int)*2 ^ (min b 64))=((2 ^ b:Nat):Int):=by
 have hb:min b 64=b:=by omega
 have hl:2 ^ b<18446744073709551616:=Nat.lt_of_lt_of_le (Nat.pow_lt_pow_right (by decide) h) (by decide)
 rw [hb,Int.one_mul,← wrB hl]
 congr 1
theorem Zm2 {b:Nat} (h:b<64):2 ^ b<18446744073709551616:=Nat.lt_of_lt_of_le (Nat.pow_lt_pow_right (by decide) h) (by decide)
theorem Znf {f:Nat} (h:f<64):∃ y:Nat,IntKind.u64.wrap ((18446744073709551615:Int)*2 ^ (min f 64))=(y:Int)∧y<18446744073709551616∧∀ i,i<64→y.testBit i=decide (f≤i):=by
 have hf:min f 64=f:=by omega
 refine ⟨(18446744073709551615*2 ^ f) % 18446744073709551616,?_,Nat.mod_lt _ (by decide),fun i hi=>?_⟩
 ·rw [hf]
  have:(18446744073709551615:Int)*2 ^ f=((18446744073709551615*2 ^ f:Nat):Int):=by
   rw [Int.natCast_mul,Int.natCast_pow]; rfl
  rw [this]
  simp [IntKind.wrap,IntKind.bits,IntKind.signed]
 ·have e1:(18446744073709551616:Nat)=2 ^ 64:=by decide
  have e2:(18446744073709551615:Nat)=2 ^ 64 - 1:=by decide
  rw [e1,Nat.testBit_mod_two_pow,e2,Nat.testBit_mul_two_pow,Nat.testBit_two_pow_sub_one]
  simp [hi]
  omega
structure BR (N:Nat) (p:Bt) (h:Nat→Bool):Prop where
 n:p.1=(N:Int)
 N1:1≤N∧N≤65536
 cnt:p.2.1=(((List.range N).filter h).length:Int)
 len:p.2.2.length=(N+63) / 64
 bit:∀ w,w<p.2.2.length→∃ x:Nat,p.2.2.getD w default=(x:Int)∧x<18446744073709551616∧∀ b,b<64→x.testBit b=(decide (64*w+b<N) && h (64*w+b))
section
variable {N:Nat} {p:Bt} {h:Nat→Bool}
theorem Zcm {i:Nat} (hi:i<4294967296):w64 (Int.tdiv (i:Int) 64)=((i / 64:Nat):Int)∧Int.tmod (i:Int) 64=((i % 64:Nat):Int):=by
 constructor
 ·rw [show Int.tdiv (i:Int) 64=((i / 64:Nat):Int) from rfl,Zy (by omega) (by omega)]
 ·rfl
theorem BR.there (b:BR N p h) {i:Nat}:Q10.f p (i:Int)=some (if N≤i then 4 else 0):=by
 have hN:=b.N1
 unfold Q10.f Q7.f
 rw [Option.bind_some,b.n,if_neg (by simp only [decide_eq_true_eq]; omega),if_neg (by simp only [decide_eq_true_eq]; omega)]
 by_cases q:N≤i
 ·rw [if_pos (decide_eq_true (by omega)),if_pos q]
 ·rw [if_neg (by simp only [decide_eq_true_eq]; omega),if_neg q]
theorem BR.has (b:BR N p h) {i:Nat} (hi:i<4294967296):Q6.f p (i:Int)=some (decide (i<N) && h i):=by
 have hN:=b.N1
 unfold Q6.f
 rw [b.there,Option.bind_some]
 by_cases q:N≤i
 ·rw [if_pos q,if_neg (by decide)]
  have:¬ i<N:=by omega
  simp [this]
 ·obtain ⟨e1,e2⟩:=Zcm hi
  have hl:=b.len
  have hw:i / 64<p.2.2.length:=by omega
  obtain ⟨x,hx,hx2,hx3⟩:=b.bit _ hw
  have hm:i % 64<64:=Nat.mod_lt _ (by decide)
  rw [if_neg q,if_pos (by decide),e1,e2,if_pos (by omega),if_pos (by omega),Z8,hx,Int.toNat_natCast,show min (i % 64) 64=i % 64 by omega]
  have e3:Int.fdiv (x:Int) (2 ^ (i % 64))=((x / 2 ^ (i % 64):Nat):Int):=by
   rw [Int.fdiv_eq_ediv_of_nonneg _ (Int.pow_nonneg (by decide)),Int.natCast_ediv,Int.natCast_pow]; rfl
  have hlt:x / 2 ^ (i % 64)<18446744073709551616:=Nat.lt_of_le_of_lt (Nat.div_le_self _ _) hx2
  rw [e3,show (BitVec.ofInt IntKind.u64.bits ((x / 2 ^ (i % 64):Nat):Int) &&& BitVec.ofInt IntKind.u64.bits 1).toNat=x / 2 ^ (i % 64) &&& 1 from anB (y:=1) hlt (by decide),Nat.and_one_is_mod,wrB (by omega)]
  have h1:=hx3 _ hm
  rw [show 64*(i / 64)+i % 64=i by omega] at h1
  rw [← h1,Nat.testBit_eq_decide_div_mod_eq]
  congr 1
  exact decide_eq_decide.2 (by omega)
theorem Zck {N i:Nat} (hi:i<N) (hn:h i=false):((List.range N).filter (upd h i true)).length=((List.range N).filter h).length+1:=by
 have key:∀ l:List Nat,l.Nodup→i∈l→(l.filter (upd h i true)).length=(l.filter h).length+1:=by
  intro l
  induction l with
  | nil=>intro _ hx; simp at hx
  | cons y l ih=>
   intro nd hx
   rw [List.nodup_cons] at nd
   by_cases q:y=i
   ·subst q
    have hl:l.filter (upd h y true)=l.filter h:=List.filter_congr fun z hz=>Yf (fun e=>nd.1 (by rw [← e]; exact hz))
    rw [List.filter_cons_of_pos (by rw [Yc]),List.filter_cons_of_neg (by simp [hn]),hl,List.length_cons]
   ·have hx':i∈l:=by
     rcases List.mem_cons.1 hx with e | e
     ·exact absurd e.symm q
     ·exact e
    have:=ih nd.2 hx'
    by_cases hy:h y=true
    ·rw [List.filter_cons_of_pos (by rw [Yf q]; exact hy),List.filter_cons_of_pos hy,List.length_cons,List.length_cons,this]
    ·rw [List.filter_cons_of_neg (by rw [Yf q]; exact hy),List.filter_cons_of_neg hy,this]
 exact key _ List.nodup_range (List.mem_range.2 hi)
theorem Zlu {i:Nat} (hy:h i=true) (j:Nat):upd (upd h i false) i true j=h j:=by
 by_cases q:j=i
 ·subst q; rw [Yc,hy]
 ·rw [Yf q,Yf q]
theorem Zjl {N i:Nat} (hi:i<N) (hy:h i=true):((List.range N).filter (upd h i false)).length+1=((List.range N).filter h).length:=by
 have:=Zck (h:=upd h i false) hi (Yc _ _ _)
 rw [show upd (upd h i false) i true=h from funext (Zlu hy)] at this
 exact this.symm
theorem BR.word (b:BR N p h) {i:Nat} (hi:i<N) {v:Bool} {y:Nat} (hy:y<18446744073709551616) (ht:∀ x:Nat,p.2.2.getD (i / 64) default=(x:Int)→∀ j,j<64→y.testBit j=if j=i % 64 then v else x.testBit j) {cnt:Int} (hc:cnt=(((List.range N).filter (upd h i v)).length:Int)) :
  BR N (p.1,cnt,p.2.2.set (i / 64) (y:Int)) (upd h i v):=by
 have hl:=b.len
 have hN:=b.N1
 have hw:i / 64<p.2.2.length:=by omega
 refine ⟨b.n,hN,hc,by rw [List.length_set]; exact hl,fun w hw2=>?_⟩
 rw [List.length_set] at hw2
 dsimp only
 rw [Y8 hw]
 obtain ⟨x,hx,hx2,hx3⟩:=b.bit w hw2
 by_cases q:i / 64=w
 ·subst q
  refine ⟨y,if_pos rfl,hy,fun j hj=>?_⟩
  rw [ht x hx j hj]
  by_cases qj:j=i % 64
  ·subst qj
   rw [if_pos rfl,show 64*(i / 64)+i % 64=i by omega,Yc]
   simp [hi]
  ·rw [if_neg qj,hx3 j hj,Yf (by omega)]
 ·refine ⟨x,by rw [if_neg q]; exact hx,hx2,fun j hj=>?_⟩
  rw [hx3 j hj,Yf (by omega)]
theorem Zfv (b:BR N p h):((List.range N).filter h).length≤N:=by
 have:=List.length_filter_le h (List.range N)
 rw [List.length_range] at this
 exact this
theorem BR.set (b:BR N p h) {i:Nat} (hi:i<4294967296):∃ p',Q8.f p (i:Int)=some (if N≤i then 4 else if h i=true then 10 else 0,p')∧BR N p' (if N≤i then h else upd h i true):=by
 have hN:=b.N1
 unfold Q8.f
 rw [b.there,Option.bind_some]
 by_cases q:N≤i
 ·rw [if_pos q,if_pos (by decide),if_pos q,if_pos q]
  exact ⟨p,rfl,b⟩
 ·rw [if_neg q,if_neg (by decide),b.has hi,Option.bind_some,if_neg q,if_neg q]
  have hi':i<N:=by omega
  by_cases hh:h i=true
  ·rw [if_pos (by simp [hi',hh]),if_pos hh]
   refine ⟨p,rfl,?_⟩
   rw [show upd h i true=h from funext fun j=>by
    by_cases qj:j=i
    ·subst qj; rw [Yc,hh]
    ·rw [Yf qj]]
   exact b
  ·obtain ⟨e1,e2⟩:=Zcm hi
   have hl:=b.len
   have hw:i / 64<p.2.2.length:=by omega
   obtain ⟨x,hx,hx2,hx3⟩:=b.bit _ hw
   have hm:i % 64<64:=Nat.mod_lt _ (by decide)
   have hp:=Zm2 hm
   have hcl:=Zfv b
   have hcn:=b.cnt
   rw [if_neg (by simp [hh]),if_neg hh,e1,e2,if_pos (by omega),if_pos (by omega),Z8,hx,Int.toNat_natCast,Int.toNat_natCast,Zin hm,orB hx2 hp]
   have hor:x ||| 2 ^ (i % 64)<18446744073709551616:=by rw [← orB hx2 hp]; exact Zgp _
   rw [wrB hor]
   have hf:h i=false:=by simpa using hh
   refine ⟨_,rfl,b.word hi' hor (fun x' hx' j hj=>?_) ?_⟩
   ·have:x'=x:=by rw [hx] at hx'; omega
    subst this
    rw [Nat.testBit_or,Nat.testBit_two_pow]
    by_cases qj:j=i % 64
    ·subst qj; simp
    ·rw [if_neg qj]
     have:¬ i % 64=j:=fun e=>qj e.symm
     simp [this]
   ·rw [Zck hi' hf,hcn,Zy (by omega) (by omega)]; omega
theorem BR.clear (b:BR N p h) {i:Nat} (hi:i<4294967296):∃ p',Q3.f p (i:Int)=some (if N≤i then 4 else if h i=true then 0 else 9,p')∧BR N p' (if N≤i then h else upd h i false):=by
 have hN:=b.N1
 unfold Q3.f
 rw [b.there,Option.bind_some]
 by_cases q:N≤i
 ·rw [if_pos q,if_pos (by decide),if_pos q,if_pos q]
  exact ⟨p,rfl,b⟩
 ·rw [if_neg q,if_neg (by decide),b.has hi,Option.bind_some,if_neg q,if_neg q]
  have hi':i<N:=by omega
  by_cases hh:h i=true
  ·obtain ⟨e1,e2⟩:=Zcm hi
   have hl:=b.len
   have hw:i / 64<p.2.2.length:=by omega
   obtain ⟨x,hx,hx2,hx3⟩:=b.bit _ hw
   have hm:i % 64<64:=Nat.mod_lt _ (by decide)
   have hp:=Zm2 hm
   have hcl:=Zfv b
   have hcn:=b.cnt
   have hf:=Zjl hi' hh
   rw [if_neg (by simp [hi',hh]),if_pos hh,e1,e2,if_pos (by omega),if_pos (by omega),Z8,hx,Int.toNat_natCast,Int.toNat_natCast,Zin hm]
   have hlt:=Zgp (BitVec.ofInt IntKind.u64.bits (x:Int) &&& ~~~(BitVec.ofInt IntKind.u64.bits ((2 ^ (i % 64):Nat):Int)))
   rw [wrB hlt]
   refine ⟨_,rfl,b.word hi' hlt (fun x' hx' j hj=>?_) ?_⟩
   ·have:x'=x:=by rw [hx] at hx'; omega
    subst this
    rw [Zqe hx2 hp j hj,Nat.testBit_two_pow]
    by_cases qj:j=i % 64
    ·subst qj; simp
    ·rw [if_neg qj]
     have:¬ i % 64=j:=fun e=>qj e.symm
     simp [this]
   ·rw [hcn,Zy (by omega) (by omega)]; omega
  ·rw [if_pos (by simp [hh]),if_neg hh]
   refine ⟨p,rfl,?_⟩
   have hf:h i=false:=by simpa using hh
   rw [show upd h i false=h from funext fun j=>by
    by_cases qj:j=i
    ·subst qj; rw [Yc,hf]
    ·rw [Yf qj]]
   exact b
theorem Zor {x:Nat} (h0:x≠0) (h1:x<18446744073709551616):Go.Lib.ctz 64 x<64∧x.testBit (Go.Lib.ctz 64 x)=true∧∀ j,j<Go.Lib.ctz 64 x→x.testBit j=false:=by
 unfold Go.Lib.ctz
 rw [if_neg h0]
 obtain ⟨m,hm,hc⟩:=Go.Lib.ctzFrom_spec 64 x (by omega) (by omega)
 generalize Go.Lib.ctzFrom 64 x=c at *
 refine ⟨hc,?_,fun j hj=>?_⟩
 ·rw [hm,Nat.mul_comm,Nat.testBit_mul_two_pow]
  simp
 ·rw [hm,Nat.mul_comm,Nat.testBit_mul_two_pow]
  have:¬ c≤j:=by omega
  simp [this]
def Wv (N:Nat) (h:Nat→Bool) (turn:Bool) (i:Nat):Bool:=if turn=true then !(decide (i<N) && h i) else decide (i<N) && h i
theorem Zh7 (b:BR N p h) (turn:Bool) {fr:Nat} (hfr:fr<4294967296):∀(q w k:Nat),p.2.2.length=w+q→fr / 64≤w→q<k→(∀ j,fr≤j→j<64*w→Wv N h turn j=false)→
  (∃ i:Nat,Q9.l0 k p (fr:Int) (if turn=true then 18446744073709551615 else 0) (w:Int)=some ((i:Int),decide (i<N))∧fr≤i∧i<64*p.2.2.length∧Wv N h turn i=true∧∀ j,fr≤j→j<i→Wv N h turn j=false)∨
   (Q9.l0 k p (fr:Int) (if turn=true then 18446744073709551615 else 0) (w:Int)=some (0,false)∧∀ j,fr≤j→j<64*p.2.2.length→Wv N h turn j=false)
 | _,_,0,_,_,hk,_=>by omega
 | 0,w,k+1,hq,hw,hk,hn=>by
  have hN:=b.N1
  have hl:=b.len
  right
  rw [Q9.l0,if_neg (by simp only [decide_eq_true_eq]; omega)]
  exact ⟨rfl,fun j h1 h2=>hn j h1 (by omega)⟩
 | q+1,w,k+1,hq,hw,hk,hn=>by
  have hN:=b.N1
  have hl:=b.len
  have hwl:w<p.2.2.length:=by omega
  obtain ⟨x,hx,hx2,hx3⟩:=b.bit w hwl
  have hmx:(if (fr:Int)>0 then (fr:Int) else 0)=(fr:Int):=by split <;> omega
  obtain ⟨d1,d2⟩:=Zcm hfr
  -- the word,turned
  obtain ⟨y,hy,hy2,hy3⟩:∃ y:Nat,(IntKind.u64.wrap (((BitVec.ofInt IntKind.u64.bits (x:Int) ^^^ (BitVec.ofInt IntKind.u64.bits (if turn=true then 18446744073709551615 else 0))).toNat:Int)))=(y:Int)∧y<18446744073709551616∧∀ j,j<64→y.testBit j=Wv N h turn (64*w+j):=by
   cases turn with
   | true=>
    have e:=xoB (y:=18446744073709551615) hx2 (by decide)
    refine ⟨x ^^^ 18446744073709551615,?_,?_,fun j hj=>?_⟩
    ·rw [if_pos rfl,show (18446744073709551615:Int)=((18446744073709551615:Nat):Int) from rfl,e,wrB (by rw [← e]; exact Zgp _)]
    ·rw [← e]; exact Zgp _
    ·rw [Nat.testBit_xor,hx3 j hj,show (18446744073709551615:Nat)=2 ^ 64 - 1 by decide,Nat.testBit_two_pow_sub_one]
     unfold Wv
     simp [hj]
   | false=>
    have e:=xoB (y:=0) hx2 (by decide)
    refine ⟨x,?_,hx2,fun j hj=>?_⟩
    ·rw [if_neg (by decide),show (0:Int)=((0:Nat):Int) from rfl,e,Nat.xor_zero,wrB hx2]
    ·rw [hx3 j hj]; rfl
  rw [Q9.l0,if_pos (decide_eq_true (by omega)),if_pos (by omega),hmx,d1,d2,Z8,hx,hy]
  -- what is looked at,at this word
  have step:∀ z:Nat,z<18446744073709551616→(∀ j,j<64→z.testBit j=(decide (fr≤64*w+j) && Wv N h turn (64*w+j)))→
    (∃ i:Nat,(if (decide ((z:Int)=0))=true then Q9.l0 k p (fr:Int) (if turn=true then 18446744073709551615 else 0) (w64 ((w:Int)+1)) else (if 0≤(z:Int)∧(z:Int)<18446744073709551616 then some ((w64 ((w64 ((w:Int)*64))+(tzI (z:Int)))),(decide ((w64 ((w64 ((w:Int)*64))+(tzI (z:Int))))<p.1))) else none))=some ((i:Int),decide (i<N))∧fr≤i∧i<64*p.2.2.length∧Wv N h turn i=true∧∀ j,fr≤j→j<i→Wv N h turn j=false)∨
    ((if (decide ((z:Int)=0))=true then Q9.l0 k p (fr:Int) (if turn=true then 18446744073709551615 else 0) (w64 ((w:Int)+1)) else (if 0≤(z:Int)∧(z:Int)<18446744073709551616 then some ((w64 ((w64 ((w:Int)*64))+(tzI (z:Int)))),(decide ((w64 ((w64 ((w:Int)*64))+(tzI (z:Int))))<p.1))) else none))=some (0,false)∧∀ j,fr≤j→j<64*p.2.2.length→Wv N h turn j=false):=by
   intro z hz hzt
   by_cases z0:z=0
   ·subst z0
    rw [if_pos (by decide),Z9 (by omega)]
    refine Zh7 b turn hfr q (w+1) k (by omega) (by omega) (by omega) fun j h1 h2=>?_
    by_cases hj:j<64*w
    ·exact hn j h1 hj
    ·have:=hzt (j - 64*w) (by omega)
     rw [Nat.zero_testBit,show 64*w+(j - 64*w)=j by omega] at this
     have h3:decide (fr≤j)=true:=decide_eq_true h1
     rw [h3,Bool.true_and] at this
     exact this.symm
   ·obtain ⟨c1,c2,c3⟩:=Zor z0 hz
    left
    have tz:tzI (z:Int)=((Go.Lib.ctz 64 z:Nat):Int):=by unfold tzI; rw [Int.toNat_natCast]
    generalize Go.Lib.ctz 64 z=cz at *
    have hb:=hzt cz c1
    rw [c2] at hb
    have hb2:=(Bool.and_eq_true _ _).mp hb.symm
    have hfr2:=of_decide_eq_true hb2.1
    refine ⟨64*w+cz,?_,hfr2,by omega,hb2.2,fun j h1 h2=>?_⟩
    ·rw [if_neg (by simp; omega),if_pos (by omega),tz,Zy (x:=(w:Int)*64) (by omega) (by omega),Zy (by omega) (by omega),b.n]
     congr 2
     ·omega
     ·exact decide_eq_decide.2 (by omega)
    ·by_cases hj:j<64*w
     ·exact hn j h1 hj
     ·have:=hzt (j - 64*w) (by omega)
      rw [c3 (j - 64*w) (by omega),show 64*w+(j - 64*w)=j by omega] at this
      have h3:decide (fr≤j)=true:=decide_eq_true h1
      rw [h3,Bool.true_and] at this
      exact this.symm
  by_cases qw:w=fr / 64
  ·rw [if_pos (decide_eq_true (by omega)),if_pos (by omega),Int.toNat_natCast]
   obtain ⟨s,hs,hs2,hs3⟩:=Znf (f:=fr % 64) (Nat.mod_lt _ (by decide))
   have ea:=anB hy2 hs2
   have hal:y &&& s<18446744073709551616:=by rw [← ea]; exact Zgp _
   rw [hs,ea,wrB hal]
   refine step _ hal fun j hj=>?_
   rw [Nat.testBit_and,hy3 j hj,hs3 j hj,Bool.and_comm]
   congr 1
   exact decide_eq_decide.2 (by omega)
  ·rw [if_neg (by simp only [decide_eq_true_eq]; omega)]
   refine step y hy2 fun j hj=>?_
   rw [hy3 j hj]
   have:decide (fr≤64*w+j)=true:=decide_eq_true (by omega)
   rw [this,Bool.true_and]
theorem Zpx (b:BR N p h) (turn:Bool) {fr:Nat} (hfr:fr<4294967296) {k:Nat} (hk:2000<k) :
  (∃ i:Nat,Q9.f k p (fr:Int) (if turn=true then 18446744073709551615 else 0)=some ((i:Int),decide (i<N))∧fr≤i∧i<64*p.2.2.length∧Wv N h turn i=true∧∀ j,fr≤j→j<i→Wv N h turn j=false)∨
   (Q9.f k p (fr:Int) (if turn=true then 18446744073709551615 else 0)=some (0,false)∧∀ j,fr≤j→j<64*p.2.2.length→Wv N h turn j=false):=by
 have hN:=b.N1
 have hl:=b.len
 have hmx:(if (fr:Int)>0 then (fr:Int) else 0)=(fr:Int):=by split <;> omega
 unfold Q9.f
 rw [hmx,(Zcm hfr).1]
 by_cases q:fr / 64≤p.2.2.length
 ·exact Zh7 b turn hfr (p.2.2.length - fr / 64) (fr / 64) k (by omega) (Nat.le_refl _) (by omega) fun j h1 h2=>by omega
 ·obtain ⟨k,rfl⟩:∃ k',k=k'+1:=⟨k - 1,by omega⟩
  right
  rw [Q9.l0,if_neg (by simp only [decide_eq_true_eq]; omega)]
  exact ⟨rfl,fun j h1 h2=>by omega⟩
theorem BR.free (b:BR N p h) {k:Nat} (hk:2000<k) (hfree:∃ i,i<N∧h i=false):∃ i:Nat,Q5.f k p 0=some ((i:Int),true)∧i<N∧h i=false∧∀ j,j<i→h j=true:=by
 have hN:=b.N1
 have hl:=b.len
 obtain ⟨i0,h1,h2⟩:=hfree
 unfold Q5.f Q7.f Q11.f
 have hs:=Zpx b true (fr:=0) (by decide) hk
 rw [if_pos rfl] at hs
 have hi0:Wv N h true i0=true:=by unfold Wv; simp [h1,h2]
 rcases hs with ⟨i,e,_,g2,g3,g4⟩ | ⟨e,g⟩
 ·have hiN:i<N:=by
   apply Nat.lt_of_not_le
   intro hge
   have:=g4 i0 (Nat.zero_le _) (by omega)
   rw [hi0] at this; cases this
  rw [Option.bind_some,b.n,if_neg (by simp only [decide_eq_true_eq]; omega),show Q9.f k p 0 18446744073709551615=_ from e,Option.bind_some,if_neg (by simp [hiN])]
  refine ⟨i,rfl,hiN,?_,fun j hj=>?_⟩
  ·unfold Wv at g3
   simpa [hiN] using g3
  ·have:=g4 j (Nat.zero_le _) hj
   have hjN:j<N:=by omega
   unfold Wv at this
   simpa [hjN] using this
 ·have:=g i0 (Nat.zero_le _) (by omega)
  rw [hi0] at this; cases this
end
namespace MC
def cont (B:Nat) (m:MC) (i:Nat):List Int:=match m.fr i with
 | none=>blk m.img B i
 | some x=>x.b
theorem cont_no {B:Nat} {m:MC} {i:Nat} (e:m.fr i=none):m.cont B i=blk m.img B i:=by unfold cont; rw [e]
theorem cont_at {B:Nat} {m:MC} {i:Nat} {x:Fm} (e:m.fr i=some x):m.cont B i=x.b:=by unfold cont; rw [e]
def Cl (B:Nat) (m:MC):Prop:=∀ i x,m.fr i=some x→x.d=false→x.b=blk m.img B i
end MC
section
variable {N B n t:Nat} {m k:MC} {i:Nat} {x:Fm}
theorem Cl.evict (mi:MI N B n t m) (cl:m.Cl B) (q:Nat):(m.evict B q).Cl B∧(∀ j,j<N→(m.evict B q).cont B j=m.cont B j)∧((m.evict B q).fr q=none)∧∀ j,m.fr j=none→(m.evict B q).fr j=none:=by
 cases e:m.fr q with
 | none=>
  have:m.evict B q=m:=by unfold MC.evict; rw [e]
  rw [this]
  exact ⟨cl,fun _ _=>rfl,e,fun _ h=>h⟩
 | some x=>
  obtain ⟨hq,hb,_⟩:=mi.len q x e
  rw [MC.evict_eq e]
  refine ⟨fun j y hj hd=>?_,fun j hj=>?_,Yc _ _ _,fun j hj=>?_⟩
  ·dsimp only at hj ⊢
   by_cases qj:j=q
   ·subst qj; rw [Yc] at hj; cases hj
   ·rw [Yf qj] at hj
    have h1:=cl j y hj hd
    split
    ·rw [Uf mi.dim hq hb j (mi.len j y hj).1,if_neg qj]; exact h1
    ·exact h1
  ·by_cases qj:j=q
   ·subst qj
    rw [MC.cont_at e,MC.cont_no (Yc _ _ _)]
    dsimp only
    split
    ·rw [Uf mi.dim hq hb j hq,if_pos rfl]
    ·rename_i hd
     exact (cl j x e (by simpa using hd)).symm
   ·cases ej:m.fr j with
    | none=>
     rw [MC.cont_no ej,MC.cont_no (by show upd m.fr q none j=none; rw [Yf qj]; exact ej)]
     dsimp only
     split
     ·rw [Uf mi.dim hq hb j hj,if_neg qj]
     ·rfl
    | some y=>rw [MC.cont_at ej,MC.cont_at (show upd m.fr q none j=some y by rw [Yf qj]; exact ej)]
  ·show upd m.fr q none j=none
   by_cases qj:j=q
   ·subst qj; exact Yc _ _ _
   ·rw [Yf qj]; exact hj
theorem Cl.room (mi:MI N B n t m) (cl:m.Cl B) (h:m.room B n=some k):k.Cl B∧(∀ j,j<N→k.cont B j=m.cont B j)∧∀ j,m.fr j=none→k.fr j=none:=by
 unfold MC.room at h
 split at h
 ·injection h with h; subst h; exact ⟨cl,fun _ _=>rfl,fun _ h=>h⟩
 ·split at h
  ·cases h
  ·rename_i q _
   injection h with h; subst h
   obtain ⟨h1,h2,_,h3⟩:=Cl.evict mi cl q
   exact ⟨h1,h2,h3⟩
theorem Cl.lay {img:TU} {rd wr:Int} {fr:Nat→Option Fm} {u u':Nat} {row row':List Nat} (cl:(⟨img,rd,wr,fr,u,row⟩:MC).Cl B) {x:Fm} (hx:x.d=false→x.b=blk img B i) {rd':Int}:(⟨img,rd',wr,upd fr i (some x),u',row'⟩:MC).Cl B∧∀ j,(⟨img,rd',wr,upd fr i (some x),u',row'⟩:MC).cont B j=if j=i then x.b else (⟨img,rd,wr,fr,u,row⟩:MC).cont B j:=by
 refine ⟨fun j y hj hd=>?_,fun j=>?_⟩
 ·have hj':upd fr i (some x) j=some y:=hj
  by_cases q:j=i
  ·subst q; rw [Yc] at hj'; injection hj' with hj'; subst hj'; exact hx hd
  ·rw [Yf q] at hj'; exact cl j y hj' hd
 ·by_cases q:j=i
  ·subst q; rw [if_pos rfl]; exact MC.cont_at (Yc _ _ _)
  ·rw [if_neg q]; unfold MC.cont; dsimp only; rw [Yf q]
theorem Cl.pin (mi:MI N B n t m) (cl:m.Cl B) (i:Nat):(m.pin N B n i).2.Cl B∧∀ j,j<N→(m.pin N B n i).2.cont B j=m.cont B j:=by
 by_cases h:N≤i
 ·rw [MC.pin_out h]; exact ⟨cl,fun _ _=>rfl⟩
 cases e:m.fr i with
 | some x=>
  rw [MC.pin_hit h e]
  obtain ⟨h1,h2⟩:=Cl.lay (i:=i) (x:=⟨x.b,x.d,x.p+1⟩) (u':=m.used) (row':=m.row.erase i) (rd':=m.rd) (cl:(⟨m.img,m.rd,m.wr,m.fr,m.used,m.row⟩:MC).Cl B) (fun hd=>cl i x e hd)
  refine ⟨h1,fun j hj=>?_⟩
  rw [show (((m.put i ⟨x.b,x.d,x.p+1⟩).cut i).cont B j)=_ from h2 j]
  split
  ·rename_i q; subst q; exact (MC.cont_at e).symm
  ·rfl
 | none=>
  cases r:m.room B n with
  | none=>rw [MC.pin_full h e r]; exact ⟨cl,fun _ _=>rfl⟩
  | some k=>
   obtain ⟨c1,c2,c3⟩:=Cl.room mi cl r
   rw [MC.pin_miss h e r]
   obtain ⟨h1,h2⟩:=Cl.lay (i:=i) (x:=⟨blk k.img B i,false,1⟩) (u':=k.used+1) (row':=k.row) (rd':=k.rd+1) (c1:(⟨k.img,k.rd,k.wr,k.fr,k.used,k.row⟩:MC).Cl B) (fun _=>rfl)
   refine ⟨h1,fun j hj=>?_⟩
   rw [show ((⟨k.img,k.rd+1,k.wr,k.fr,k.used,k.row⟩:MC).come i ⟨blk k.img B i,false,1⟩).cont B j=_ from h2 j]
   split
   ·rename_i q; subst q; rw [← c2 j hj]; exact (MC.cont_no (c3 j e)).symm
   ·exact c2 j hj
theorem Cl.fresh (mi:MI N B n t m) (cl:m.Cl B) (i:Nat):(m.fresh N B n i).2.Cl B∧((m.fresh N B n i).1=0→i<N)∧∀ j,j<N→(m.fresh N B n i).2.cont B j=if (m.fresh N B n i).1=0∧j=i then List.replicate B 0 else m.cont B j:=by
 by_cases h:N≤i
 ·rw [MC.fresh_out h]; exact ⟨cl,fun e=>by simp at e,fun _ _=>by rw [if_neg (by simp)]⟩
 cases e:m.fr i with
 | some x=>
  by_cases p:0<x.p
  ·rw [MC.fresh_pin h e p]; exact ⟨cl,fun e=>by simp at e,fun _ _=>by rw [if_neg (by simp)]⟩
  ·rw [MC.fresh_hit h e p]
   obtain ⟨h1,h2⟩:=Cl.lay (i:=i) (x:=⟨List.replicate B 0,true,1⟩) (u':=m.used) (row':=m.row.erase i) (rd':=m.rd) (cl:(⟨m.img,m.rd,m.wr,m.fr,m.used,m.row⟩:MC).Cl B) (fun hd=>by cases hd)
   refine ⟨h1,fun _=>by omega,fun j hj=>?_⟩
   rw [show (((m.put i ⟨List.replicate B 0,true,1⟩).cut i).cont B j)=_ from h2 j]
   by_cases q:j=i
   ·rw [if_pos q,if_pos ⟨rfl,q⟩]
   ·rw [if_neg q,if_neg (fun z=>q z.2)]
 | none=>
  cases r:m.room B n with
  | none=>rw [MC.fresh_full h e r]; exact ⟨cl,fun e=>by simp at e,fun _ _=>by rw [if_neg (by simp)]⟩
  | some k=>
   obtain ⟨c1,c2,c3⟩:=Cl.room mi cl r
   rw [MC.fresh_miss h e r]
   obtain ⟨h1,h2⟩:=Cl.lay (i:=i) (x:=⟨List.replicate B 0,true,1⟩) (u':=k.used+1) (row':=k.row) (rd':=k.rd) (c1:(⟨k.img,k.rd,k.wr,k.fr,k.used,k.row⟩:MC).Cl B) (fun hd=>by cases hd)
   refine ⟨h1,fun _=>by omega,fun j hj=>?_⟩
   rw [show (k.come i ⟨List.replicate B 0,true,1⟩).cont B j=_ from h2 j]
   by_cases q:j=i
   ·rw [if_pos q,if_pos ⟨rfl,q⟩]
   ·rw [if_neg q,if_neg (fun z=>q z.2)]; exact c2 j hj
theorem Cl.unpin (cl:m.Cl B) (i:Nat):(m.unpin i).2.Cl B∧∀ j,(m.unpin i).2.cont B j=m.cont B j:=by
 cases e:m.fr i with
 | none=>rw [MC.unpin_no e]; exact ⟨cl,fun _=>rfl⟩
 | some x=>
  have key:∀(p u:Nat) (row:List Nat),(⟨m.img,m.rd,m.wr,upd m.fr i (some ⟨x.b,x.d,p⟩),u,row⟩:MC).Cl B∧∀ j,(⟨m.img,m.rd,m.wr,upd m.fr i (some ⟨x.b,x.d,p⟩),u,row⟩:MC).cont B j=m.cont B j:=fun p u row=>by
   obtain ⟨h1,h2⟩:=Cl.lay (i:=i) (x:=⟨x.b,x.d,p⟩) (u':=u) (row':=row) (rd':=m.rd) (cl:(⟨m.img,m.rd,m.wr,m.fr,m.used,m.row⟩:MC).Cl B) (fun hd=>cl i x e hd)
   refine ⟨h1,fun j=>?_⟩
   rw [h2 j]
   split
   ·rename_i q; subst q; exact (MC.cont_at e).symm
   ·rfl
  by_cases p:x.p=0
  ·rw [MC.unpin_out e p]; exact ⟨cl,fun _=>rfl⟩
  ·by_cases p1:x.p=1
   ·rw [MC.unpin_one e p1]; exact key _ _ _
   ·rw [MC.unpin_more e p p1]; exact key _ _ _
theorem Cl.write (mi:MI N B n t m) (cl:m.Cl B) (i:Nat) (b:TU):(m.write B i b).2.Cl B∧((m.write B i b).1=0→i<N)∧∀ j,(m.write B i b).2.cont B j=if (m.write B i b).1=0∧j=i then b else m.cont B j:=by
 cases e:m.fr i with
 | none=>rw [MC.write_no e]; exact ⟨cl,fun e=>by simp at e,fun _=>by rw [if_neg (by simp)]⟩
 | some x=>
  by_cases p:x.p=0
  ·rw [MC.write_out e p]; exact ⟨cl,fun e=>by simp at e,fun _=>by rw [if_neg (by simp)]⟩
  ·by_cases q:b.length=B
   ·rw [MC.write_hit e p q]
    obtain ⟨h1,h2⟩:=Cl.lay (i:=i) (x:=⟨b,true,x.p⟩) (u':=m.used) (row':=m.row) (rd':=m.rd) (cl:(⟨m.img,m.rd,m.wr,m.fr,m.used,m.row⟩:MC).Cl B) (fun hd=>by cases hd)
    refine ⟨h1,fun _=>(mi.len i x e).1,fun j=>?_⟩
    rw [show (m.put i ⟨b,true,x.p⟩).cont B j=_ from h2 j]
    by_cases q:j=i
    ·rw [if_pos q,if_pos ⟨rfl,q⟩]
    ·rw [if_neg q,if_neg (fun z=>q z.2)]
   ·rw [MC.write_form e p q]; exact ⟨cl,fun e=>by simp at e,fun _=>by rw [if_neg (by simp)]⟩
theorem Cl.backI (mi:MI N B n t m) (cl:m.Cl B) (i:Nat):(m.backI B i).Cl B∧(∀ j,j<N→(m.backI B i).cont B j=m.cont B j)∧∀ j,(m.backI B i).isD j=(m.isD j && decide (j≠i)):=by
 cases e:m.fr i with
 | none=>
  rw [Zb8 e]
  refine ⟨cl,fun _ _=>rfl,fun j=>?_⟩
  by_cases q:j=i
  ·subst q; unfold MC.isD; rw [e]; rfl
  ·simp [q]
 | some x=>
  obtain ⟨hq,hb,_⟩:=mi.len i x e
  rw [Jw e]
  refine ⟨fun j y hj hd=>?_,fun j hj=>?_,fun j=>?_⟩
  ·have hj':upd m.fr i (some ⟨x.b,false,x.p⟩) j=some y:=hj
   by_cases q:j=i
   ·subst q
    rw [Yc] at hj'; injection hj' with hj'; subst hj'
    show x.b=blk (patch m.img (j*B) B x.b) B j
    rw [Uf mi.dim hq hb j hq,if_pos rfl]
   ·rw [Yf q] at hj'
    show y.b=blk (patch m.img (i*B) B x.b) B j
    rw [Uf mi.dim hq hb j (mi.len j y hj').1,if_neg q]; exact cl j y hj' hd
  ·by_cases q:j=i
   ·subst q; rw [MC.cont_at e,MC.cont_at (show upd m.fr j (some ⟨x.b,false,x.p⟩) j=_ from Yc _ _ _)]
   ·cases ej:m.fr j with
    | some y=>rw [MC.cont_at ej,MC.cont_at (show upd m.fr i (some ⟨x.b,false,x.p⟩) j=some y by rw [Yf q]; exact ej)]
    | none=>
     rw [MC.cont_no ej,MC.cont_no (show upd m.fr i (some ⟨x.b,false,x.p⟩) j=none by rw [Yf q]; exact ej)]
     dsimp only
     rw [Uf mi.dim hq hb j hj,if_neg q]
  ·unfold MC.isD
   dsimp only
   by_cases q:j=i
   ·subst q; rw [Yc]; simp
   ·rw [Yf q]; simp [q]
theorem Cl.backs:∀(D:List Nat) (m:MC),MI N B n t m→m.Cl B→MI N B n t (D.foldl (MC.backI B) m)∧(D.foldl (MC.backI B) m).Cl B∧(∀ j,j<N→(D.foldl (MC.backI B) m).cont B j=m.cont B j)∧∀ j,(D.foldl (MC.backI B) m).isD j=(m.isD j && decide (j∉D))
 | [],m,mi,cl=>⟨mi,cl,fun _ _=>rfl,fun j=>by simp⟩
 | i :: D,m,mi,cl=>by
  obtain ⟨c1,c2,c3⟩:=Cl.backI mi cl i
  obtain ⟨d0,d1,d2,d3⟩:=Cl.backs D _ (mi.back i) c1
  rw [List.foldl_cons]
  refine ⟨d0,d1,fun j hj=>(d2 j hj).trans (c2 j hj),fun j=>?_⟩
  rw [d3,c3]
  by_cases q:j=i
  ·simp [q]
  ·simp [q]
theorem Cl.flush (mi:MI N B n t m) (cl:m.Cl B):(m.flush N B).Cl B∧(∀ j,j<N→(m.flush N B).cont B j=m.cont B j)∧∀ j,j<N→(m.flush N B).isD j=false:=by
 obtain ⟨_,d1,d2,d3⟩:=Cl.backs (m.dirty N) m mi cl
 refine ⟨d1,d2,fun j hj=>?_⟩
 unfold MC.flush
 rw [d3]
 by_cases q:m.isD j=true
 ·have:j∈m.dirty N:=List.mem_filter.2 ⟨List.mem_range.2 hj,q⟩
  simp [this]
 ·simp [Bool.eq_false_iff.2 q]
theorem Cl.act (mi:MI N B n t m) (cl:m.Cl B) (kd:Int) (hk:kd≠7) (i:Nat) (b:TU):(m.act N B n kd i b).2.Cl B∧((m.act N B n kd i b).1=0∧(kd=2∨kd=5∨kd=6)→i<N)∧∀ j,j<N→(m.act N B n kd i b).2.cont B j=if (m.act N B n kd i b).1=0∧j=i∧(kd=2∨kd=5∨kd=6) then (if kd=2 then List.replicate B 0 else b) else m.cont B j:=by
 unfold MC.act
 by_cases q0:kd=0
 ·rw [if_pos q0]; subst q0
  obtain ⟨h1,h2⟩:=Cl.pin mi cl i
  exact ⟨h1,fun h=>absurd h.2 (by decide),fun j hj=>by rw [if_neg (fun z=>absurd z.2.2 (by decide))]; exact h2 j hj⟩
 rw [if_neg q0]
 by_cases q1:kd=1
 ·rw [if_pos q1]; subst q1
  obtain ⟨h1,h2⟩:=Cl.pin mi cl i
  exact ⟨h1,fun h=>absurd h.2 (by decide),fun j hj=>by rw [if_neg (fun z=>absurd z.2.2 (by decide))]; exact h2 j hj⟩
 rw [if_neg q1]
 by_cases q2:kd=2
 ·rw [if_pos q2]; subst q2
  obtain ⟨h1,h3,h2⟩:=Cl.fresh mi cl i
  refine ⟨h1,fun h=>h3 h.1,fun j hj=>?_⟩
  rw [h2 j hj]
  by_cases z:(m.fresh N B n i).1=0∧j=i
  ·rw [if_pos z,if_pos ⟨z.1,z.2,.inl rfl⟩,if_pos rfl]
  ·rw [if_neg z,if_neg (fun y=>z ⟨y.1,y.2.1⟩)]
 rw [if_neg q2]
 by_cases q3:kd=3
 ·rw [if_pos q3]; subst q3
  obtain ⟨h1,h2⟩:=Cl.unpin cl i
  exact ⟨h1,fun h=>absurd h.2 (by decide),fun j hj=>by rw [if_neg (fun z=>absurd z.2.2 (by decide))]; exact h2 j⟩
 rw [if_neg q3]
 by_cases q4:kd=4
 ·rw [if_pos q4]; subst q4
  obtain ⟨h1,h2⟩:=Cl.unpin cl i
  exact ⟨h1,fun h=>absurd h.2 (by decide),fun j hj=>by rw [if_neg (fun z=>absurd z.2.2 (by decide))]; exact h2 j⟩
 rw [if_neg q4]
 by_cases q5:kd=5
 ·rw [if_pos q5]; subst q5
  obtain ⟨h1,h3,h2⟩:=Cl.write mi cl i b
  refine ⟨h1,fun h=>h3 h.1,fun j hj=>?_⟩
  rw [h2 j]
  by_cases z:(m.write B i b).1=0∧j=i
  ·rw [if_pos z,if_pos ⟨z.1,z.2,.inr (.inl rfl)⟩,if_neg (by decide)]
  ·rw [if_neg z,if_neg (fun y=>z ⟨y.1,y.2.1⟩)]
 rw [if_neg q5]
 by_cases q6:kd=6
 ·rw [if_pos q6]; subst q6
  obtain ⟨h1,h3,h2⟩:=Cl.write mi cl i b
  refine ⟨h1,fun h=>h3 h.1,fun j hj=>?_⟩
  rw [h2 j]
  by_cases z:(m.write B i b).1=0∧j=i
  ·rw [if_pos z,if_pos ⟨z.1,z.2,.inr (.inr rfl)⟩,if_neg (by decide)]
  ·rw [if_neg z,if_neg (fun y=>z ⟨y.1,y.2.1⟩)]
 rw [if_neg q6,if_neg hk]
 have no:¬ (kd=2∨kd=5∨kd=6):=fun z=>z.elim q2 fun z=>z.elim q5 q6
 by_cases q8:kd=8
 ·rw [if_pos q8]
  obtain ⟨h1,h2,_⟩:=Cl.flush mi cl
  exact ⟨h1,fun h=>absurd h.2 no,fun j hj=>by rw [if_neg (fun z=>no z.2.2)]; exact h2 j hj⟩
 rw [if_neg q8]
 by_cases q9:kd=9
 ·rw [if_pos q9]
  exact ⟨cl,fun h=>absurd h.2 no,fun j hj=>by rw [if_neg (fun z=>no z.2.2)]⟩
 rw [if_neg q9]
 exact ⟨cl,fun h=>absurd h.2 no,fun j hj=>by rw [if_neg (fun z=>no z.2.2)]⟩
end
abbrev Shf:=Cfg×Ca×Bt×Int
structure ShI (c:Cfg) (N B n t:Nat) (s:Shf) (L:List Nat) (q:Nat):Prop where
 cfg:s.1=c
 ca:CaI N B n t [] s.2.1 L
 by':(Z2 s.2.1 L).By
 bits:∃ h,BR N s.2.2.1 h∧h 0=true
 kp:s.2.2.2=(q:Int)
 q32:q<4294967296
 pin:q≠0→1≤(Z2 s.2.1 L).cnt q
structure Sto (c:Cfg) (N B n t a b:Nat) (m:MC) (s':Shf) (q':Nat) (L':List Nat):Prop where
 i:ShI c N B n t s' L' q'
 to:MC.To a b m (Z2 s'.2.1 L')
section
variable {c:Cfg} {N B n t q:Nat} {s:Shf} {L:List Nat}
theorem ShI.up (h:ShI c N B n t s L q) {t':Nat} (ht:t≤t'):ShI c N B n t' s L q:=⟨h.cfg,h.ca.mono ht,h.by',h.bits,h.kp,h.q32,h.pin⟩
theorem ShI.id (h:ShI c N B n t s L q) (a b:Nat):Sto c N B n (t+1) a b (Z2 s.2.1 L) s q L:=⟨h.up (by omega),(MC.To.refl _).le (by omega) (by omega)⟩
theorem Zb3:∀ {l:TU},Byt l→toB (toS l)=l
 | [],_=>rfl
 | x :: l,h=>by
  have hx:=h x (by simp)
  have ih:=Zb3 (l:=l) fun y hy=>h y (List.mem_cons_of_mem _ hy)
  obtain ⟨v,rfl⟩:=Int.eq_ofNat_of_zero_le hx.1
  unfold toS toB at *
  rw [List.map_cons,List.map_cons,ih]
  congr 1
  rw [Int.toNat_natCast,UInt8.toNat_ofNat']
  rw [Nat.mod_eq_of_lt (by omega)]
structure EncN (nd:Nd):Prop where
 sm:SmallN nd
 kd:∀ x∈nd.2.1,0≤x∧x<4294967296
theorem EncN.ev {nd:Nd} (h:EncN nd) (c:Cfg):Ev (fun k=>Q38.f k c nd) (Ua c nd):=Zoz h.sm.kids h.sm.pivs (by have:=h.sm.buf; omega) (by have:=h.sm.prs; omega) h.kd
def kR (kd:Int):Nat:=if kd=5 then 1 else 0
def kW (n:Nat) (kd:Int):Nat:=if kd=0∨kd=1∨kd=2∨kd=5 then 1 else if kd=6 then n else 0
end
theorem Zov {N B:Nat} (h:5≤N∧N≤65536∧1≤B∧B≤65536):Q57.f (N:Int) (B:Int)=some (some ((B:Int),List.replicate (N*B) 0,(0,0)),0):=by
 have hb:N*B≤65536*65536:=Nat.mul_le_mul h.2.1 h.2.2.2
 have e:w64 ((N:Int)*(B:Int))=((N*B:Nat):Int):=by rw [show (N:Int)*(B:Int)=((N*B:Nat):Int) by simp,Zy (by omega) (by omega)]
 unfold Q57.f Q58.f
 rw [if_pos (decide_eq_true (by omega)),if_pos (decide_eq_true (by omega)),if_pos (decide_eq_true (by omega)),Option.bind_some,if_neg (by simp; omega),e,if_pos (by omega),Int.toNat_natCast]
structure Geo (c:Cfg) (N B n:Nat):Prop where
 ok:okB c=true
 z:Siz N B n
 n8:8≤n
 N5:5≤N∧N≤65536
 hB:B≤65536
 eN:c.1=(N:Int)
 eB:c.2.1=(B:Int)
 en:c.2.2.1=(n:Int)
structure ShK (c:Cfg) (N B n t:Nat) (s:Shf) (L:List Nat) (q:Nat) (K:Nat→List Int) (h:Nat→Bool):Prop where
 cfg:s.1=c
 ca:CaI N B n t [] s.2.1 L
 by':(Z2 s.2.1 L).By
 cl:(Z2 s.2.1 L).Cl B
 ct:∀ j,j<N→(Z2 s.2.1 L).cont B j=K j
 bits:BR N s.2.2.1 h
 h0:h 0=true
 kp:s.2.2.2=(q:Int)
 qN:q<N
 pin:∀ j,(Z2 s.2.1 L).cnt j=if j=q∧q≠0 then 1 else 0
 rd:0≤s.2.1.1.2.2.1∧s.2.1.1.2.2.1≤t
 wr:0≤s.2.1.1.2.2.2∧s.2.1.1.2.2.2≤64*t
section
variable {c:Cfg} {N B n t q:Nat} {s:Shf} {L:List Nat} {K:Nat→List Int} {h:Nat→Bool}
theorem ShK.few (H:ShK c N B n t s L q K h) (ht:t≤900000):Few s.2.1:=⟨⟨H.rd.1,by have:=H.rd.2; omega⟩,⟨H.wr.1,by have:=H.wr.2; omega⟩⟩
theorem ShK.up (H:ShK c N B n t s L q K h) {t':Nat} (ht:t≤t'):ShK c N B n t' s L q K h:=⟨H.cfg,H.ca.mono ht,H.by',H.cl,H.ct,H.bits,H.h0,H.kp,H.qN,H.pin,⟨H.rd.1,by have:=H.rd.2; omega⟩,⟨H.wr.1,by have:=H.wr.2; omega⟩⟩
theorem Zlb (g:Geo c N B n) (ca:CaI N B n t [] s.2.1 L) (hp:∀ j,(Z2 s.2.1 L).cnt j=if j=q∧q≠0 then 1 else 0):∃ k,(Z2 s.2.1 L).room B n=some k:=by
 unfold MC.room
 by_cases hu:(Z2 s.2.1 L).used<n
 ·exact ⟨_,if_pos hu⟩
 ·rw [if_neg hu]
  have hlen:2≤s.2.1.2.2.1.length:=by
   have:=g.n8
   have e:(Z2 s.2.1 L).used=s.2.1.2.2.1.length:=rfl
   omega
  have hne:(Z2 s.2.1 L).row≠[]:=by
   have free:∀ i f:Nat,((i:Int),(f:Int))∈s.2.1.2.2.1→i≠q→(Z2 s.2.1 L).row≠[]:=fun i f hm hi e=>by
    have h1:=Wi ca hm
    have h2:=hp i
    rw [if_neg (fun z=>hi z.1)] at h2
    have h3:(Z2 s.2.1 L).fr i=some (fm (s.2.1.2.1.getD f default)):=h1
    rw [MC.cnt_at h3] at h2
    have:=(ca.mi.rfr i).2 ⟨_,h3,h2⟩
    rw [e] at this; cases this
   match hm:s.2.1.2.2.1,hlen with
   | a :: b :: r,_=>
    obtain ⟨i,f,ea,_⟩:=ca.mok a (by rw [hm]; simp)
    obtain ⟨j,f',eb,_⟩:=ca.mok b (by rw [hm]; simp)
    have hnd:=ca.mnd
    rw [hm,List.map_cons,List.map_cons,List.nodup_cons,List.mem_cons,ea,eb] at hnd
    by_cases q1:i=q
    ·refine free j f' (by rw [hm,eb]; simp) fun q2=>hnd.1 (.inl ?_)
     rw [q1,q2]
    ·exact free i f (by rw [hm,ea]; simp) q1
  cases e:(Z2 s.2.1 L).row.getLast? with
  | none=>exact absurd (List.getLast?_eq_none_iff.1 e) hne
  | some x=>exact ⟨_,rfl⟩
theorem MC.pin_ok {m:MC} {i:Nat} (hr:∃ k,m.room B n=some k) (hi:i<N):(m.pin N B n i).1=0:=by
 obtain ⟨k,hk⟩:=hr
 unfold MC.pin
 rw [if_neg (by omega)]
 cases m.fr i with
 | some x=>rfl
 | none=>rw [hk]
theorem MC.fresh_ok {m:MC} {i:Nat} (hr:∃ k,m.room B n=some k) (hi:i<N) (h0:m.cnt i=0):(m.fresh N B n i).1=0:=by
 obtain ⟨k,hk⟩:=hr
 unfold MC.fresh
 rw [if_neg (by omega)]
 cases e:m.fr i with
 | some x=>rw [MC.cnt_at e] at h0; dsimp only; rw [if_neg (by omega)]
 | none=>dsimp only; rw [hk]
theorem MC.write_ok {m:MC} {i:Nat} {b:TU} (h1:1≤m.cnt i) (hb:b.length=B):(m.write B i b).1=0:=by
 cases e:m.fr i with
 | none=>rw [MC.cnt_no e] at h1; omega
 | some x=>rw [MC.cnt_at e] at h1; rw [MC.write_hit e (by omega) hb]
theorem ShK.there (g:Geo c N B n) (H:ShK c N B n t s L q K h) {i:Nat} (hi:i<4294967296):Q92.f s (i:Int)=some (if 1≤i∧i<N then 0 else 4):=by
 have e:=g.eN
 have hN:=g.N5
 unfold Q92.f
 rw [H.cfg,e]
 by_cases q0:i=0
 ·rw [if_pos (decide_eq_true (by omega)),if_neg (by omega)]
 ·have w1:w64 (i:Int)=(i:Int):=Zy (by omega) (by omega)
  rw [if_neg (by simp only [decide_eq_true_eq]; omega),w1]
  by_cases q1:N≤i
  ·rw [if_pos (decide_eq_true (by omega)),if_neg (by omega)]
  ·rw [if_neg (by simp only [decide_eq_true_eq]; omega),if_pos (by omega)]
theorem ShK.put (H:ShK c N B n t s L q K h) {c':Ca} {L':List Nat} {t' a b:Nat} {K':Nat→List Int} (hca:CaI N B n t' [] c' L') (hto:MC.To a b (Z2 s.2.1 L) (Z2 c' L')) (hcl:(Z2 c' L').Cl B) (hct:∀ j,j<N→(Z2 c' L').cont B j=K' j) (hpin:∀ j,(Z2 c' L').cnt j=if j=q∧q≠0 then 1 else 0) (ht:t+a≤t') (hb:b≤64*(t' - t)):ShK c N B n t' (s.1,c',s.2.2.1,s.2.2.2) L' q K' h:=
 ⟨H.cfg,hca,hto.by' H.by',hcl,hct,H.bits,H.h0,H.kp,H.qN,hpin,by
  have r1:=hto.rd
  have r2:=H.rd
  have e1:(Z2 s.2.1 L).rd=s.2.1.1.2.2.1:=rfl
  have e2:(Z2 c' L').rd=c'.1.2.2.1:=rfl
  show 0≤c'.1.2.2.1∧c'.1.2.2.1≤t'
  omega,by
  have r1:=hto.wr
  have r2:=H.wr
  have e1:(Z2 s.2.1 L).wr=s.2.1.1.2.2.2:=rfl
  have e2:(Z2 c' L').wr=c'.1.2.2.2:=rfl
  show 0≤c'.1.2.2.2∧c'.1.2.2.2≤64*t'
  omega⟩
def Zgu (c:Cfg) (b:TU):Nd×Int:=Zdd c (toS b)
theorem Zow (g:Geo c N B n) (H:ShK c N B n t s L q K h) (ht:t≤800000) {i:Nat} (hi:1≤i∧i<N) {b:TU} (hb:Byt b) (hl:b.length=B):∃ s' L',Q90.f s (i:Int) b=some (0,s')∧ShK c N B n (t+1) s' L' q (upd K i b) h∧MC.To 0 1 (Z2 s.2.1 L) (Z2 s'.2.1 L'):=by
 have hr:=Zlb g H.ca H.pin
 have hN:=g.N5
 unfold Q90.f
 rw [H.kp]
 by_cases qi:i=q
 ·obtain ⟨c',L',e,hc,ha⟩:=Zla g.z H.ca i b
  obtain ⟨t1,t2⟩:=Pm.write (m:=Z2 s.2.1 L) (B:=B) i hb
  obtain ⟨cl1,_,ct1⟩:=Cl.write H.ca.mi H.cl i b
  have w0:((Z2 s.2.1 L).write B i b).1=0:=MC.write_ok (by rw [H.pin,if_pos ⟨qi,by omega⟩]; omega) hl
  rw [← ha] at t1 t2 cl1 ct1
  rw [if_pos (decide_eq_true (by omega)),e,Option.bind_some,w0]
  refine ⟨_,L',rfl,?_,t1.le (by omega) (by omega)⟩
  have:=H.put (a:=0) (b:=0) (t':=t+1) (K':=upd K i b) (hc.mono (by omega)) t1 cl1 (fun j hj=>by
   rw [ct1 j]
   by_cases e:j=i
   ·subst e; rw [if_pos ⟨w0,rfl⟩,Yc]
   ·rw [if_neg (fun z=>e z.2),Yf e,H.ct j hj]) (fun j=>by rw [t2,H.pin]) (by omega) (by omega)
  rw [H.kp] at this
  exact this
 ·obtain ⟨c1,L1,e1,hc1,ha1⟩:=Zot g.z H.ca (H.few (by omega)) (by omega) i (by omega)
  obtain ⟨f1,f2⟩:=Pm.fresh H.ca.mi H.by' i
  obtain ⟨cl1,_,ct1⟩:=Cl.fresh H.ca.mi H.cl i
  have r0:((Z2 s.2.1 L).fresh N B n i).1=0:=MC.fresh_ok hr hi.2 (by rw [H.pin,if_neg (fun z=>qi z.1)])
  rw [← ha1] at f1 f2 cl1 ct1
  have y1:=f1.by' H.by'
  obtain ⟨c2,L2,e2,hc2,ha2⟩:=Zla g.z hc1 i b
  obtain ⟨t1,t2⟩:=Pm.write (m:=Z2 c1 L1) (B:=B) i hb
  obtain ⟨cl2,_,ct2⟩:=Cl.write hc1.mi cl1 i b
  have w0:((Z2 c1 L1).write B i b).1=0:=MC.write_ok (by rw [f2,if_pos ⟨r0,rfl⟩]; omega) hl
  rw [← ha2] at t1 t2 cl2 ct2
  have y2:=t1.by' y1
  obtain ⟨c3,L3,e3,hc3,ha3⟩:=Zg5 g.z hc2 (by omega) i
  obtain ⟨u1,u2⟩:=Pm.unpin y2 i
  obtain ⟨cl3,ct3⟩:=Cl.unpin cl2 i
  rw [← ha3] at u1 u2 cl3 ct3
  rw [if_neg (by simp only [decide_eq_true_eq]; omega),e1,Option.bind_some,if_neg (by simpa using r0)]
  dsimp only
  rw [e2,Option.bind_some]
  dsimp only
  rw [e3,Option.bind_some,w0]
  refine ⟨_,L3,rfl,?_,((f1.trans t1).trans u1).le (by omega) (by omega)⟩
  have:=H.put (a:=0) (b:=1) (t':=t+1) (K':=upd K i b) hc3 (((f1.trans t1).trans u1).le (by omega) (by omega)) cl3 (fun j hj=>by
   rw [ct3,ct2 j]
   by_cases e:j=i
   ·subst e; rw [if_pos ⟨w0,rfl⟩,Yc]
   ·rw [if_neg (fun z=>e z.2),Yf e,ct1 j hj,if_neg (fun z=>e z.2),H.ct j hj]) (fun j=>by
   rw [u2]
   by_cases e:j=i
   ·subst e; rw [if_pos rfl,t2,f2,if_pos ⟨r0,rfl⟩,Nat.add_sub_cancel,H.pin]
   ·rw [if_neg e,t2,f2,if_neg (fun z=>e z.2),H.pin]) (by omega) (by omega)
  rw [H.kp] at this
  exact this
def Wc (c:Cfg) (nd:Nd):List Int:=toB (Gt c nd)
theorem Zdg {c:Cfg} {nd:Nd} (hn:EncN nd) (g:Geo c N B n) (hr:Xe c Wk nd=true):Byt (Wc c nd)∧(Wc c nd).length=B:=by
 have hf:=Gl (Za7 g.ok) hn.kd hr
 refine ⟨fun x hx=>?_,?_⟩
 ·unfold Wc toB at hx
  obtain ⟨y,_,rfl⟩:=List.mem_map.1 hx
  have:=y.toNat_lt
  omega
 ·unfold Wc
  rw [Ya,Zdo g.ok hf]
  have:=(Zbg g.ok hf).2.2
  have:=g.eB
  omega
theorem Zi3 {c:Cfg} {nd:Nd} (hok:okB c=true) (hl:∀ x∈nd.2.1,0≤x∧x<4294967296) (hr:Xe c Wk nd=true):Zgu c (Wc c nd)=(nd,0):=by
 unfold Zgu Wc
 rw [Za3]
 exact Zmf hok hl hr
theorem Zpw (g:Geo c N B n) (H:ShK c N B n t s L q K h) (ht:t≤800000) {i:Nat} (hi:i<4294967296) {nd:Nd} (hn:EncN nd):∃ s' L',Ev (fun k=>Q89.f k s (i:Int) nd) (if 1≤i∧i<N then (if Xe c Wk nd=true then 0 else 3) else 4,s')∧ShK c N B n (t+1) s' L' q (if (1≤i∧i<N)∧Xe c Wk nd=true then upd K i (Wc c nd) else K) h∧MC.To 0 1 (Z2 s.2.1 L) (Z2 s'.2.1 L'):=by
 have ht':=H.there g hi
 obtain ⟨k0,hk'⟩:=hn.ev c
 have hk:∀ k,k0≤k→Q38.f k s.1 nd=some (Ua c nd):=fun k kk=>by rw [H.cfg]; exact hk' k kk
 by_cases q1:1≤i∧i<N
 ·rw [if_pos q1] at ht' ⊢
  cases hr:Xe c Wk nd with
  | true=>
   obtain ⟨b1,b2⟩:=Zdg hn g hr
   obtain ⟨s',L',e,H',to⟩:=Zow g H ht q1 b1 b2
   rw [if_pos rfl,if_pos ⟨q1,rfl⟩]
   refine ⟨s',L',⟨k0,fun k kk=>?_⟩,H',to⟩
   show Q89.f k s (i:Int) nd=_
   have ee:Ua c nd=(Wc c nd,0):=by unfold Ua Wc; rw [if_pos g.ok,if_pos hr]
   unfold Q89.f
   rw [ht',Option.bind_some,if_neg (by simp),hk k kk,Option.bind_some,ee,if_neg (by simp),e,Option.bind_some]
  | false=>
   rw [if_neg (by simp),if_neg (by simp)]
   refine ⟨s,L,⟨k0,fun k kk=>?_⟩,H.up (by omega),(MC.To.refl _).le (by omega) (by omega)⟩
   show Q89.f k s (i:Int) nd=_
   have ee:Ua c nd=([],3):=by unfold Ua; rw [if_pos g.ok,hr,if_neg (by simp)]
   unfold Q89.f
   rw [ht',Option.bind_some,if_neg (by simp),hk k kk,Option.bind_some,ee,if_pos (by simp)]
 ·rw [if_neg q1] at ht' ⊢
  rw [if_neg (fun z=>q1 z.1)]
  refine ⟨s,L,⟨k0,fun k kk=>?_⟩,H.up (by omega),(MC.To.refl _).le (by omega) (by omega)⟩
  show Q89.f k s (i:Int) nd=_
  unfold Q89.f
  rw [ht',Option.bind_some,if_pos (by simp)]
end
theorem Zjw {i:Nat} (h:i<4294967296):IntKind.u32.wrap (i:Int)=(i:Int):=by
 have:(i:Int) % 4294967296=(i:Int):=Int.emod_eq_of_lt (by omega) (by omega)
 simp [IntKind.wrap,IntKind.bits,IntKind.signed,this]
section
variable {c:Cfg} {N B n t q:Nat} {s:Shf} {L:List Nat} {K:Nat→List Int} {h:Nat→Bool} {p:Bt}
def Un (N:Nat) (h:Nat→Bool):Nat:=N - ((List.range N).filter h).length
theorem Zp0 (b:BR N p h):Q73.f p=some ((Un N h:Nat):Int):=by
 have hN:=b.N1
 have hc:=Zfv b
 unfold Q73.f Q79.f Q7.f Q4.f Un
 rw [Option.bind_some,if_neg (by simp),Option.bind_some,Option.bind_some,b.n,b.cnt,Zy (by omega) (by omega)]
 congr 1
 omega
theorem Jj (h:Nat→Bool):Un N h=0↔∀ i,i<N→h i=true:=by
 unfold Un
 constructor
 ·intro e i hi
  have hle:((List.range N).filter h).length≤N:=by have:=List.length_filter_le h (List.range N); rwa [List.length_range] at this
  have:((List.range N).filter h).length=(List.range N).length:=by rw [List.length_range]; omega
  exact List.length_filter_eq_length_iff.1 this i (List.mem_range.2 hi)
 ·intro e
  rw [List.filter_eq_self.2 fun x hx=>e x (List.mem_range.1 hx),List.length_range,Nat.sub_self]
theorem Zpi (b:BR N p h):(Un N h=0∧∀ k,3000<k→Q78.f k p=some (0,11,p))∨∃(i:Nat) (p':Bt),i<N∧h i=false∧(∀ j,j<i→h j=true)∧(∀ k,3000<k→Q78.f k p=some ((i:Int),0,p'))∧BR N p' (upd h i true):=by
 have hN:=b.N1
 have eF:=Zp0 b
 by_cases qz:Un N h=0
 ·refine .inl ⟨qz,fun k hk=>?_⟩
  unfold Q78.f Q75.f
  rw [Q79.f,Option.bind_some,if_neg (by simp),if_neg (by simp),eF,Option.bind_some,if_pos (decide_eq_true (by omega)),Option.bind_some,if_pos (by simp)]
 ·have hfree:∃ i,i<N∧h i=false:=by
   apply Classical.byContradiction
   intro hn
   refine qz ((Jj h).2 fun i hi=>?_)
   cases hh:h i with
   | true=>rfl
   | false=>exact absurd ⟨i,hi,hh⟩ hn
  obtain ⟨i,_,hiN,hif,hil⟩:=b.free (k:=3001) (by omega) hfree
  obtain ⟨p',es,b'⟩:=b.set (i:=i) (by omega)
  rw [if_neg (by omega)] at b'
  refine .inr ⟨i,p',hiN,hif,hil,fun k hk=>?_,b'⟩
  obtain ⟨k2,rfl⟩:∃ k2,k=k2+2:=⟨k - 2,by omega⟩
  obtain ⟨i2,ei,hi2N,hi2f,hi2l⟩:=b.free (k:=k2+1) (by omega) hfree
  have:i2=i:=by
   rcases Nat.lt_trichotomy i2 i with z | z | z
   ·rw [hil _ z] at hi2f; cases hi2f
   ·exact z
   ·rw [hi2l _ z] at hif; cases hif
  subst this
  unfold Q78.f Q75.f
  rw [Q79.f,Option.bind_some,if_neg (by simp),if_neg (by simp),eF,Option.bind_some,if_neg (by simp only [decide_eq_true_eq]; omega),Q75.l0,if_pos (by decide),show Q5.f (k2+1) (p.1,p.2.1,p.2.2) 0=_ from ei,Option.bind_some]
  dsimp only
  rw [show Q8.f (p.1,p.2.1,p.2.2) (i2:Int)=_ from es,Option.bind_some,if_pos (by simp),Q75.l0,if_neg (by decide),Option.bind_some]
  dsimp only
  rw [if_neg (by simp),if_pos (by simp),List.nil_append,show gt [IntKind.u32.wrap (i2:Int)] 0=IntKind.u32.wrap (i2:Int) from rfl,Zjw (by omega)]
theorem Zpj (b:BR N p h) {i:Nat} (h0:1≤i) (hi:i<N):∃ p',Q74.f p (i:Int)=some (if h i=true then 0 else 9,p')∧BR N p' (upd h i false):=by
 have hN:=b.N1
 unfold Q74.f Q79.f
 obtain ⟨p',e,b'⟩:=b.clear (i:=i) (by omega)
 rw [if_neg (by omega)] at e b'
 rw [Option.bind_some,if_neg (by simp),if_neg (by simp only [decide_eq_true_eq]; omega),Zy (by omega) (by omega),e,Option.bind_some]
 exact ⟨_,rfl,b'⟩
theorem Zpu (b:BR N p h) {i:Nat} (hi:i<N):∃ p',Q77.f p (i:Int)=some (if h i=true then 10 else 0,p')∧BR N p' (upd h i true):=by
 have hN:=b.N1
 unfold Q77.f Q79.f
 obtain ⟨p',e,b'⟩:=b.set (i:=i) (by omega)
 rw [if_neg (by omega)] at e b'
 rw [Option.bind_some,if_neg (by simp),Zy (by omega) (by omega),e,Option.bind_some]
 exact ⟨_,rfl,b'⟩
def heldR (N:Nat) (h:Nat→Bool):List Int:=((List.range N).filter h).map fun(i:Nat)=>(i:Int)
theorem ShK.pool (H:ShK c N B n t s L q K h) {p':Bt} {h':Nat→Bool} (b:BR N p' h') (h0:h' 0=true):ShK c N B n t (s.1,s.2.1,p',s.2.2.2) L q K h':=⟨H.cfg,H.ca,H.by',H.cl,H.ct,b,h0,H.kp,H.qN,H.pin,H.rd,H.wr⟩
theorem Zpq (g:Geo c N B n) (H:ShK c N B n t s L q K h) (ht:t≤800000) {nd:Nd} (hn:EncN nd) :
  (Xe c Wk nd=false∧Ev (fun k=>Q87.f k s nd) (0,3,s))∨(Xe c Wk nd=true∧Un N h=0∧Ev (fun k=>Q87.f k s nd) (0,11,s))∨
  (Xe c Wk nd=true∧∃(i:Nat) (s':Shf) (L':List Nat),1≤i∧i<N∧h i=false∧(∀ j,j<i→h j=true)∧Ev (fun k=>Q87.f k s nd) ((i:Int),0,s')∧ShK c N B n (t+1) s' L' q (upd K i (Wc c nd)) (upd h i true)∧MC.To 0 1 (Z2 s.2.1 L) (Z2 s'.2.1 L')):=by
 obtain ⟨k0,hk'⟩:=hn.ev c
 have hk:∀ k,k0≤k→Q38.f k s.1 nd=some (Ua c nd):=fun k kk=>by rw [H.cfg]; exact hk' k kk
 cases hr:Xe c Wk nd with
 | false=>
  refine .inl ⟨rfl,k0,fun k kk=>?_⟩
  show Q87.f k s nd=_
  have ee:Ua c nd=([],3):=by unfold Ua; rw [if_pos g.ok,hr,if_neg (by simp)]
  unfold Q87.f Q91.f
  rw [Option.bind_some,if_neg (by simp),hk k kk,Option.bind_some,ee,if_pos (by simp)]
 | true=>
  have ee:Ua c nd=(Wc c nd,0):=by unfold Ua Wc; rw [if_pos g.ok,if_pos hr]
  rcases Zpi H.bits with ⟨z0,e⟩ | ⟨i,p',hiN,hif,hil,e,b'⟩
  ·refine .inr (.inl ⟨rfl,z0,k0+3001,fun k kk=>?_⟩)
   show Q87.f k s nd=_
   unfold Q87.f Q91.f
   rw [Option.bind_some,if_neg (by simp),hk k (by omega),Option.bind_some,ee,if_neg (by simp),e k (by omega),Option.bind_some,if_pos (by simp)]
  ·have hi1:1≤i:=by
    apply Nat.one_le_iff_ne_zero.2
    intro e0
    rw [e0,H.h0] at hif; cases hif
   have H1:=H.pool b' (by rw [Yf (by omega)]; exact H.h0)
   obtain ⟨b1,b2⟩:=Zdg hn g hr
   obtain ⟨s',L',el,H',to⟩:=Zow g H1 ht ⟨hi1,hiN⟩ b1 b2
   refine .inr (.inr ⟨rfl,i,s',L',hi1,hiN,hif,hil,⟨k0+3001,fun k kk=>?_⟩,H',to⟩)
   show Q87.f k s nd=_
   unfold Q87.f Q91.f
   rw [Option.bind_some,if_neg (by simp),hk k (by omega),Option.bind_some,ee,if_neg (by simp),e k (by omega),Option.bind_some,if_neg (by simp)]
   dsimp only
   rw [el,Option.bind_some,if_neg (by simp)]
theorem Zpn (g:Geo c N B n) (H:ShK c N B n t s L q K h) (ht:t≤800000) {i:Nat} (hi:i<4294967296) :
  ∃(s':Shf) (L':List Nat) (K':Nat→List Int),Q82.f s (i:Int)=some (if 1≤i∧i<N then (if i=q then 8 else if h i=true then 0 else 9) else 4,s')∧ShK c N B n (t+1) s' L' q K' (if (1≤i∧i<N)∧i≠q then upd h i false else h)∧(∀ j,j≠i→K' j=K j)∧(¬ ((1≤i∧i<N)∧i≠q∧h i=true)→K'=K)∧MC.To 0 0 (Z2 s.2.1 L) (Z2 s'.2.1 L'):=by
 have ht':=H.there g hi
 unfold Q82.f
 by_cases q1:1≤i∧i<N
 ·rw [if_pos q1] at ht'
  rw [ht',Option.bind_some,if_neg (by simp),H.kp,if_pos q1]
  by_cases q2:i=q
  ·rw [if_pos (decide_eq_true (by omega)),if_pos q2,if_neg (fun z=>z.2 q2)]
   exact ⟨s,L,K,rfl,H.up (by omega),fun _ _=>rfl,fun _=>rfl,MC.To.refl _⟩
  ·obtain ⟨p',e,b'⟩:=Zpj H.bits q1.1 q1.2
   have H1:=H.pool b' (by rw [Yf (by omega)]; exact H.h0)
   rw [if_neg (by simp only [decide_eq_true_eq]; omega),e,Option.bind_some,if_neg q2,if_pos (show (1≤i∧i<N)∧i≠q from ⟨q1,q2⟩)]
   by_cases hh:h i=true
   ·obtain ⟨c',L',ed,hc,ha⟩:=Zps g.z H.ca i
    obtain ⟨t1,t2⟩:=Pm.drop (m:=Z2 s.2.1 L) i
    have d0:((Z2 s.2.1 L).drop i).1=0∧((Z2 s.2.1 L).drop i).2.Cl B∧∀ j,j≠i→((Z2 s.2.1 L).drop i).2.cont B j=(Z2 s.2.1 L).cont B j:=by
     have hp:=H.pin i
     rw [if_neg (fun z=>q2 z.1)] at hp
     cases ef:(Z2 s.2.1 L).fr i with
     | none=>rw [MC.drop_no ef]; exact ⟨rfl,H.cl,fun _ _=>rfl⟩
     | some x=>
      rw [MC.cnt_at ef] at hp
      rw [MC.drop_hit ef (by omega)]
      refine ⟨rfl,fun j y hy hd=>?_,fun j hj=>?_⟩
      ·dsimp only at hy
       by_cases e:j=i
       ·subst e; rw [Yc] at hy; cases hy
       ·rw [Yf e] at hy; exact H.cl j y hy hd
      ·unfold MC.cont
       dsimp only
       rw [Yf hj]
    have d2:=d0.2
    rw [← ha] at t1 t2 d2
    rw [if_pos hh]
    dsimp only
    rw [if_neg (by simp),ed,Option.bind_some,d0.1]
    have H2:=H1.put (a:=0) (b:=0) (t':=t+1) (K':=upd K i ((Z2 c' L').cont B i)) (hc.mono (by omega)) t1 d2.1 (fun j hj=>by
     by_cases e:j=i
     ·subst e; rw [Yc]
     ·rw [Yf e,d2.2 j e,H.ct j hj]) (fun j=>by rw [t2,H.pin]) (by omega) (by omega)
    dsimp only at H2
    rw [H.kp] at H2
    exact ⟨_,L',_,rfl,H2,fun j hj=>Yf hj,fun z=>absurd ⟨q1,q2,hh⟩ z,t1⟩
   ·rw [if_neg hh]
    dsimp only
    rw [if_pos (by simp)]
    have H2:=H1.up (t':=t+1) (by omega)
    rw [H.kp] at H2
    exact ⟨_,L,K,rfl,H2,fun _ _=>rfl,fun _=>rfl,MC.To.refl _⟩
 ·rw [if_neg q1] at ht'
  rw [ht',Option.bind_some,if_pos (by simp),if_neg q1,if_neg (fun z=>q1 z.1)]
  exact ⟨s,L,K,rfl,H.up (by omega),fun _ _=>rfl,fun _=>rfl,MC.To.refl _⟩
end
section
variable {c:Cfg} {N B n t q:Nat} {s:Shf} {L:List Nat} {K:Nat→List Int} {h:Nat→Bool} {p:Bt}
theorem Zpv (g:Geo c N B n) (H:ShK c N B n t s L q K h) {i:Nat} (hi:i<4294967296) :
  ∃ s',Q88.f s (i:Int)=some (if 1≤i∧i<N then (if h i=true then 10 else 0) else 4,s')∧ShK c N B n t s' L q K (if 1≤i∧i<N then upd h i true else h)∧Z2 s'.2.1 L=Z2 s.2.1 L:=by
 have ht':=H.there g hi
 unfold Q88.f
 by_cases q1:1≤i∧i<N
 ·rw [if_pos q1] at ht'
  obtain ⟨p',e,b'⟩:=Zpu H.bits q1.2
  have H1:=H.pool b' (by rw [Yf (by omega)]; exact H.h0)
  rw [ht',Option.bind_some,if_neg (by simp),e,Option.bind_some,if_pos q1,if_pos q1]
  exact ⟨_,rfl,H1,rfl⟩
 ·rw [if_neg q1] at ht'
  rw [ht',Option.bind_some,if_pos (by simp),if_neg q1,if_neg q1]
  exact ⟨_,rfl,H,rfl⟩
theorem Gd (g:Geo c N B n) (H:ShK c N B n t s L q K h) (ht:t≤800000) {i:Nat} (hi:i<4294967296) :
  ∃(s':Shf) (L':List Nat),Q84.f s (i:Int)=some (if i<N then 0 else 4,s')∧ShK c N B n (t+1) s' L' (if i<N then i else q) K h∧MC.To 1 1 (Z2 s.2.1 L) (Z2 s'.2.1 L')∧(i=q→MC.To 0 0 (Z2 s.2.1 L) (Z2 s'.2.1 L')):=by
 have ht':=H.there g hi
 have hN:=g.N5
 have fin:∀(c':Ca) (L':List Nat),CaI N B n (t+1) [] c' L'→MC.To 1 1 (Z2 s.2.1 L) (Z2 c' L')→(Z2 c' L').Cl B→(∀ j,j<N→(Z2 c' L').cont B j=K j)→i<N→(∀ j,(Z2 c' L').cnt j=if j=i∧i≠0 then 1 else 0)→ShK c N B n (t+1) (s.1,c',s.2.2.1,(i:Int)) L' i K h:=fun c' L' hca hto hcl hct hiN hpin=>⟨H.cfg,hca,hto.by' H.by',hcl,hct,H.bits,H.h0,rfl,hiN,hpin,by
  have r1:=hto.rd
  have r2:=H.rd
  have e1:(Z2 s.2.1 L).rd=s.2.1.1.2.2.1:=rfl
  have e2:(Z2 c' L').rd=c'.1.2.2.1:=rfl
  show 0≤c'.1.2.2.1∧c'.1.2.2.1≤_
  omega,by
  have r1:=hto.wr
  have r2:=H.wr
  have e1:(Z2 s.2.1 L).wr=s.2.1.1.2.2.2:=rfl
  have e2:(Z2 c' L').wr=c'.1.2.2.2:=rfl
  show 0≤c'.1.2.2.2∧c'.1.2.2.2≤_
  omega⟩
 unfold Q84.f Q91.f
 rw [H.kp]
 by_cases q2:i=q
 ·have hiN:i<N:=by rw [q2]; exact H.qN
  rw [if_pos hiN,if_pos hiN]
  have same:ShK c N B n (t+1) s L i K h:=by rw [q2]; exact H.up (by omega)
  by_cases q0:i=0
  ·rw [if_neg (by simp [q0]),Option.bind_some,if_neg (by simp),if_pos (decide_eq_true (by omega))]
   exact ⟨s,L,rfl,same,(MC.To.refl _).le (by omega) (by omega),fun _=>MC.To.refl _⟩
  ·rw [if_pos (show 1≤i∧i<N from ⟨by omega,hiN⟩)] at ht'
   rw [if_pos (by simp; omega),ht',Option.bind_some,if_neg (by simp),Option.bind_some,if_neg (by simp),if_pos (decide_eq_true (by omega))]
   exact ⟨s,L,rfl,same,(MC.To.refl _).le (by omega) (by omega),fun _=>MC.To.refl _⟩
 ·by_cases q0:i=0
  ·obtain ⟨c3,L3,e3,hc3,ha3⟩:=Zg5 g.z H.ca (by omega) q
   obtain ⟨u1,u2⟩:=Pm.unpin H.by' q
   obtain ⟨cl3,ct3⟩:=Cl.unpin H.cl q
   rw [← ha3] at u1 u2 cl3 ct3
   rw [if_neg (by simp [q0]),Option.bind_some,if_neg (by simp),if_neg (by simp only [decide_eq_true_eq]; omega),if_pos (by simp; omega),e3,Option.bind_some,if_pos (show i<N by omega),if_pos (show i<N by omega)]
   refine ⟨_,L3,rfl,fin c3 L3 (hc3.mono (by omega)) (u1.le (by omega) (by omega)) cl3 (fun j hj=>by rw [ct3,H.ct j hj]) (by omega) (fun j=>?_),u1.le (by omega) (by omega),fun e=>absurd e q2⟩
   rw [show (if j=i∧i≠0 then 1 else 0:Nat)=0 from if_neg (fun z=>z.2 q0),u2]
   by_cases e:j=q
   ·rw [if_pos e,H.pin]; split <;> rfl
   ·rw [if_neg e,H.pin,if_neg (fun z=>e z.1)]
  ·by_cases q1:i<N
   ·rw [if_pos (show 1≤i∧i<N from ⟨by omega,q1⟩)] at ht'
    obtain ⟨c1,L1,e1,hc1,ha1⟩:=Zqh g.z H.ca (H.few (by omega)) (by omega) i hi
    obtain ⟨f1,_,f2⟩:=Pm.pin H.ca.mi H.by' i
    obtain ⟨cl1,ct1⟩:=Cl.pin H.ca.mi H.cl i
    have r0:=MC.pin_ok (i:=i) (Zlb g H.ca H.pin) q1
    rw [← ha1] at f1 f2 cl1 ct1
    have y1:=f1.by' H.by'
    rw [if_pos (by simp; omega),ht',Option.bind_some,if_neg (by simp),Option.bind_some,if_neg (by simp),if_neg (by simp only [decide_eq_true_eq]; omega),e1,Option.bind_some,if_neg (by simpa using r0),if_pos q1,if_pos q1]
    have pi:(Z2 s.2.1 L).cnt i=0:=by rw [H.pin,if_neg (fun z=>q2 z.1)]
    by_cases qk:q=0
    ·rw [if_neg (by simp [qk])]
     refine ⟨_,L1,rfl,fin c1 L1 hc1 f1 cl1 (fun j hj=>by rw [ct1 j hj,H.ct j hj]) q1 (fun j=>?_),f1,fun e=>absurd e q2⟩
     rw [f2]
     by_cases e:j=i
     ·rw [if_pos ⟨r0,e⟩,pi,if_pos ⟨e,q0⟩]
     ·rw [if_neg (fun z=>e z.2),H.pin,if_neg (fun z=>z.2 qk),if_neg (fun z=>e z.1)]
    ·obtain ⟨c3,L3,e3,hc3,ha3⟩:=Zg5 g.z hc1 (by omega) q
     obtain ⟨u1,u2⟩:=Pm.unpin y1 q
     obtain ⟨cl3,ct3⟩:=Cl.unpin cl1 q
     rw [← ha3] at u1 u2 cl3 ct3
     rw [if_pos (by simp; omega)]
     dsimp only
     rw [e3,Option.bind_some]
     have tt:=(f1.trans u1).le (a':=1) (b':=1) (by omega) (by omega)
     refine ⟨_,L3,rfl,fin c3 L3 hc3 tt cl3 (fun j hj=>by rw [ct3,ct1 j hj,H.ct j hj]) q1 (fun j=>?_),tt,fun e=>absurd e q2⟩
     rw [u2]
     by_cases e:j=q
     ·rw [if_pos e,show (if j=i∧i≠0 then 1 else 0:Nat)=0 from if_neg (fun z=>q2 (z.1.symm.trans e)),f2,if_neg (fun z=>q2 z.2.symm),H.pin,if_pos ⟨rfl,qk⟩]
     ·rw [if_neg e,f2]
      by_cases e':j=i
      ·rw [if_pos ⟨r0,e'⟩,pi,if_pos ⟨e',q0⟩]
      ·rw [if_neg (fun z=>e' z.2),H.pin,if_neg (fun z=>e z.1),if_neg (fun z=>e' z.1)]
   ·rw [if_neg (show ¬ (1≤i∧i<N) from fun z=>q1 z.2)] at ht'
    rw [if_pos (by simp; omega),ht',Option.bind_some,if_pos (by simp),if_neg q1,if_neg q1]
    exact ⟨s,L,rfl,H.up (by omega),(MC.To.refl _).le (by omega) (by omega),fun _=>MC.To.refl _⟩
theorem Zkz (g:Geo c N B n) (H:ShK c N B n t s L q K h) (ht:t≤800000):∃ s',(∀ k,200<k→Q81.f k s=some (0,s'))∧ShK c N B n (t+1) s' L q K h∧MC.To 0 n (Z2 s.2.1 L) (Z2 s'.2.1 L)∧∀ j,j<N→blk s'.2.1.1.2.1 B j=K j:=by
 obtain ⟨c',e,hc,ha⟩:=Zoo g.z H.ca (H.few (by omega))
 obtain ⟨t1,t2⟩:=Pm.backs (B:=B) ((Z2 s.2.1 L).dirty N) _ H.by'
 have hD:((Z2 s.2.1 L).dirty N).length≤n:=by
  have:=Bi g.z H.ca
  rw [Zmt H.ca,List.length_map] at this
  exact this
 obtain ⟨cl1,ct1,d1⟩:=Cl.flush H.ca.mi H.cl
 have hn:=g.z.h64
 have ha':=ha
 unfold MC.flush at ha
 rw [← ha] at t1 t2
 rw [← ha'] at cl1 ct1 d1
 have to:=t1.le (a':=0) (b':=n) (by omega) hD
 have H2:=H.put (a:=0) (b:=n) (t':=t+1) (K':=K) (hc.mono (by omega)) to cl1 (fun j hj=>by rw [ct1 j hj,H.ct j hj]) (fun j=>by rw [t2,H.pin]) (by omega) (by omega)
 refine ⟨_,fun k hk=>?_,H2,to,fun j hj=>?_⟩
 ·unfold Q81.f Q91.f
  rw [Option.bind_some,if_neg (by simp),e k hk,Option.bind_some]
 ·rw [← H.ct j hj,← ct1 j hj]
  have hd:=d1 j hj
  cases ef:(Z2 c' L).fr j with
  | none=>rw [MC.cont_no ef]; rfl
  | some x=>
   rw [MC.cont_at ef]
   unfold MC.isD at hd
   rw [ef] at hd
   exact (cl1 j x ef hd).symm
theorem Zmj {N:Nat} (h5:5≤N) (h:N≤65536):∃ p,Q72.f (N:Int)=some (some p,0)∧BR N p (upd (fun _=>false) 0 true):=by
 have e1:w64 ((N:Int)+64)=((N+64:Nat):Int):=by rw [Zy (by omega) (by omega)]; omega
 have e2:w64 (((N+64:Nat):Int) - 1)=((N+63:Nat):Int):=by rw [Zy (by omega) (by omega)]; omega
 have e3:w64 (Int.tdiv ((N+63:Nat):Int) 64)=(((N+63) / 64:Nat):Int):=by
  rw [show Int.tdiv ((N+63:Nat):Int) 64=(((N+63) / 64:Nat):Int) from rfl,Zy (by omega) (by omega)]
 have b0:BR N ((N:Int),0,List.replicate ((N+63) / 64) (0:Int)) (fun _=>false):=by
  refine ⟨rfl,by omega,?_,by simp,fun w hw=>⟨0,?_,by decide,fun b hb=>?_⟩⟩
  ·have:(List.range N).filter (fun _=>false)=[]:=List.filter_eq_nil_iff.2 (by simp)
   rw [this]; rfl
  ·rw [List.length_replicate] at hw
   rw [List.getD_eq_getElem?_getD,List.getElem?_replicate,if_pos hw]; rfl
  ·simp
 obtain ⟨p',es,b'⟩:=b0.set (i:=0) (by omega)
 rw [if_neg (by omega)] at b'
 refine ⟨p',?_,b'⟩
 unfold Q72.f Q2.f
 rw [if_neg (by simp only [decide_eq_true_eq]; omega),if_neg (by simp only [decide_eq_true_eq]; omega),if_neg (by simp only [decide_eq_true_eq]; omega),e1,e2,e3,if_pos (by omega),Option.bind_some]
 dsimp only [V1]
 rw [if_pos (by simp),Int.toNat_natCast,show Q8.f ((N:Int),0,List.replicate ((N+63) / 64) (0:Int)) 0=_ from es,Option.bind_some]
def Zdl (c:Cfg) (N B n:Nat) (ch:Chn) (p:Bt):Shf:=(c,(((B:Int),List.replicate (N*B) 0,(0,0)),List.replicate n (0,[],false,0),[],(List.range n).map (fun(i:Nat)=>(i:Int)),ch),p,0)
theorem Zqa (g:Geo c N B n) {ch:Chn} (hc:ChI n ch []) {p:Bt} (hp:BR N p (upd (fun _=>false) 0 true)):ShK c N B n 0 (Zdl c N B n ch p) [] 0 (fun _=>List.replicate B 0) (upd (fun _=>false) 0 true):=by
 have hi:=Zoa g.z (img:=List.replicate (N*B) 0) (by simp) (0,0) hc
 have fr0:∀ i,(Z2 (Zdl c N B n ch p).2.1 []).fr i=none:=fun i=>by
  show Xj (Zdl c N B n ch p).2.1 i=none
  exact Ue (by simp [Zdl])
 refine ⟨rfl,hi,⟨Byt.rep _,fun i x hx=>by rw [fr0 i] at hx; cases hx⟩,fun i x hx=>(by rw [fr0 i] at hx; cases hx),fun j hj=>?_,hp,Yc _ _ _,rfl,by have:=g.N5; omega,fun j=>?_,⟨Int.le_refl _,Int.le_refl _⟩,⟨Int.le_refl _,Int.le_refl _⟩⟩
 ·rw [MC.cont_no (fr0 j)]
  show blk (List.replicate (N*B) 0) B j=_
  unfold blk
  have:j*B+B≤N*B:=by rw [← Nat.succ_mul]; exact Nat.mul_le_mul_right _ hj
  rw [List.drop_replicate,List.take_replicate,Nat.min_eq_left (by omega)]
 ·rw [show (Z2 (Zdl c N B n ch p).2.1 []).cnt j=0 from MC.cnt_no (fr0 j),if_neg (fun z=>z.2 rfl)]
end
def Xi (N:Nat) (h:Nat→Bool):List Bool:=(List.range N).map h
theorem Ub (N:Nat) (h:Nat→Bool):(Xi N h).length=N:=by unfold Xi; rw [List.length_map,List.length_range]
theorem Zlp {N:Nat} {h:Nat→Bool} {i:Nat} (hi:i<N):(Xi N h).getD i default=h i:=by
 unfold Xi
 rw [List.getD_eq_getElem?_getD,List.getElem?_map,List.getElem?_range hi]; rfl
theorem Zbm {N:Nat} {h:Nat→Bool} {i:Nat} (hi:i<N):gt (Xi N h) (i:Int)=h i:=by rw [Z8,Zlp hi]
theorem Zgs {N:Nat} {h:Nat→Bool} {i:Nat} (v:Bool):(Xi N h).set i v=Xi N (upd h i v):=by
 apply List.ext_getElem?
 intro j
 unfold Xi
 rw [List.getElem?_set,List.length_map,List.length_range,List.getElem?_map,List.getElem?_map]
 by_cases hj:j<N
 ·rw [List.getElem?_range hj]
  by_cases e:i=j
  ·subst e; rw [if_pos rfl,if_pos hj,Option.map_some,Yc]
  ·rw [if_neg e,Option.map_some,Option.map_some,Yf (fun z=>e z.symm)]
 ·rw [List.getElem?_eq_none (by rw [List.length_range]; omega)]
  by_cases e:i=j
  ·subst e; rw [if_pos rfl,if_neg hj]; rfl
  ·rw [if_neg e]; rfl
section
variable {N:Nat} {h:Nat→Bool}
theorem Zfu (hN:N≤65536) {i:Nat} (hi:i<N) (v:Bool):Q137.f (Xi N h) (i:Int) v=some (Xi N (upd h i v)):=by
 unfold Q137.f
 simp only [Ub,List.length_nil,List.nil_append]
 rw [if_pos (by omega),if_pos (by omega),Int.toNat_natCast,Zgs]
theorem Zap (hN:N≤65536):∀(m i a k:Nat),N=i+m→m<k→a≤i→Q132.l0 k (Xi N h) (a:Int) (i:Int)=some ((a+(m - ((List.range' i m).filter h).length):Nat):Int)
 | 0,i,a,k,hm,hk,ha=>by
  obtain ⟨k,rfl⟩:∃ k2,k=k2+1:=⟨k - 1,by omega⟩
  rw [Q132.l0,Ub,if_neg (by simp only [decide_eq_true_eq]; omega)]; rfl
 | m+1,i,a,k,hm,hk,ha=>by
  obtain ⟨k,rfl⟩:∃ k2,k=k2+1:=⟨k - 1,by omega⟩
  have hl:=List.length_filter_le h (List.range' (i+1) m)
  rw [List.length_range'] at hl
  rw [Q132.l0,Ub,if_pos (decide_eq_true (by omega)),if_pos (by omega),Zbm (by omega),List.range'_succ,List.filter_cons]
  cases hh:h i with
  | true=>
   rw [if_neg (by simp),Z9 (by omega),Zap hN m (i+1) a k (by omega) (by omega) (by omega),if_pos rfl,List.length_cons]
   congr 2
   omega
  | false=>
   rw [if_pos (by simp),Z9 (by omega),Z9 (by omega),Zap hN m (i+1) (a+1) k (by omega) (by omega) (by omega),if_neg (by simp)]
   congr 2
   omega
theorem Zoq (hN:N≤65536) {k:Nat} (hk:N<k):Q132.f k (Xi N h)=some ((Un N h:Nat):Int):=by
 unfold Q132.f Un
 have:=Zap (h:=h) hN N 0 0 k (by omega) hk (by omega)
 rw [Nat.zero_add,← List.range_eq_range'] at this
 exact this
theorem Zeq (hN:N≤65536):∀(m i k:Nat),N=i+m→m+1<k→(∀ j,j<i→h j=true)→(∃ j,j<N∧h j=false)→∃ j,j<N∧h j=false∧(∀ x,x<j→h x=true)∧Q134.l0 k 1 (Xi N h) [] (i:Int)=some (Xi N (upd h j true),[(j:Int)],0)
 | 0,i,k,hm,hk,hi,⟨j,h1,h2⟩=>by rw [hi j (by omega)] at h2; cases h2
 | m+1,i,k,hm,hk,hi,hf=>by
  obtain ⟨k,rfl⟩:∃ k2,k=k2+1:=⟨k - 1,by omega⟩
  rw [Q134.l0,Ub,if_pos (decide_eq_true (by omega)),if_pos (by decide),if_pos (by omega),Zbm (by omega),Z9 (by omega)]
  cases hh:h i with
  | true=>
   rw [if_neg (by simp)]
   exact Zeq hN m (i+1) k (by omega) (by omega) (fun j hj=>by
    by_cases e:j=i
    ·rw [e,hh]
    ·exact hi j (by omega)) hf
  | false=>
   refine ⟨i,by omega,hh,hi,?_⟩
   rw [if_pos (by simp),Zfu hN (by omega),Option.bind_some,if_pos (by simp),Zjw (by omega),List.nil_append]
   obtain ⟨k,rfl⟩:∃ k2,k=k2+1:=⟨k - 1,by omega⟩
   rw [Q134.l0,Ub]
   by_cases e:i+1<N
   ·rw [if_pos (decide_eq_true (by omega)),if_neg (by simp)]
   ·rw [if_neg (by simp only [decide_eq_true_eq]; omega)]
theorem Zk2 (hN:N≤65536) {k:Nat} (hk:N+2<k):(Un N h=0∧Q134.f k (Xi N h) 1=some (Xi N h,[],11))∨∃ j,j<N∧h j=false∧(∀ x,x<j→h x=true)∧Q134.f k (Xi N h) 1=some (Xi N (upd h j true),[(j:Int)],0):=by
 unfold Q134.f
 rw [if_neg (by simp),Zoq hN (by omega),Option.bind_some]
 by_cases z:Un N h=0
 ·rw [if_pos (decide_eq_true (by omega))]; exact .inl ⟨z,rfl⟩
 ·rw [if_neg (by simp only [decide_eq_true_eq]; omega)]
  refine .inr (Zeq hN N 0 k (by omega) (by omega) (fun j hj=>by omega) ?_)
  apply Classical.byContradiction
  intro hn
  refine z ((Jj h).2 fun i hi=>?_)
  cases hh:h i with
  | true=>rfl
  | false=>exact absurd ⟨i,hi,hh⟩ hn
theorem Zkp {a b:Nat} (ha:a<4294967296) (hb:b<4294967296):decide (IntKind.u64.wrap (a:Int)≤IntKind.u64.wrap (b:Int))=decide (a≤b):=by
 rw [wrB (by omega),wrB (by omega)]
 by_cases e:a≤b
 ·rw [decide_eq_true e,decide_eq_true (by omega)]
 ·rw [decide_eq_false e,decide_eq_false (by omega)]
theorem Zn5 (hN:N≤65536) {i:Nat} (h0:1≤i) (hi:i<N):Q133.f (Xi N h) (i:Int)=some (if h i=true then (Xi N (upd h i false),0) else (Xi N h,9)):=by
 unfold Q133.f
 rw [Ub,Zkp (by omega) (by omega),if_neg (by simp; omega),if_neg (by simp only [decide_eq_true_eq]; omega),if_pos (by omega),Zbm hi,Zy (by omega) (by omega)]
 cases hh:h i with
 | true=>rw [if_neg (by simp),if_pos rfl,Zfu hN hi,Option.bind_some]
 | false=>rw [if_pos (by simp),if_neg (by simp)]
theorem Zod (hN:N≤65536) {i:Nat} (hi:i<N):Q135.f (Xi N h) (i:Int)=some (if h i=true then (Xi N h,10) else (Xi N (upd h i true),0)):=by
 unfold Q135.f
 rw [Ub,Zkp (by omega) (by omega),if_neg (by simp; omega),if_pos (by omega),Zbm hi,Zy (by omega) (by omega)]
 cases hh:h i with
 | true=>rw [if_pos rfl,if_pos rfl]
 | false=>rw [if_neg (by simp),if_neg (by simp),Zfu hN hi,Option.bind_some]
theorem Zpf (h5:1≤N) (hN:N≤65536):Q136.f (N:Int)=some (Xi N (upd (fun _=>false) 0 true)):=by
 unfold Q136.f
 rw [if_pos (by omega),if_pos (by rw [List.length_replicate,Int.toNat_natCast]; omega),Int.toNat_natCast,← Zgs]
 congr 2
 unfold Xi
 apply List.ext_getElem?
 intro j
 rw [List.getElem?_replicate,List.getElem?_map]
 by_cases hj:j<N
 ·rw [if_pos hj,List.getElem?_range hj]; rfl
 ·rw [if_neg hj,List.getElem?_eq_none (by rw [List.length_range]; omega)]; rfl
end
section
variable {c:Cfg} {n:Nd}
end
theorem Zfz {c:Cfg} {n:Nd} (hn:MidN n) {k:Nat} (hk:20000<k):Q156.f k c n=some (okB c && Xe c Wk n):=by
 unfold Q156.f
 (try rw [Jf]); rw [Ze9 c (by omega),Option.bind_some]
 cases okB c with
 | false=>rfl
 | true=>
  rw [if_pos rfl,Q157.f,Option.bind_some,show Q152.f k c (([]:List UInt8),([]:List UInt8),true) (n.1,n.2.1,n.2.2.1,n.2.2.2.1,n.2.2.2.2)=_ from Zfw (c:=c) (s:=Wk) hn (by simp) (by simp) (by omega)]
  rfl
abbrev W18:=Cfg×List (Int×Nd)×List Bool×Int
def Kn (c:Cfg) (B:Nat) (x:Int×Nd) (b:TU):Prop:=(x.1=0∧b=List.replicate B 0)∨(x.1=1∧EncN x.2∧Xe c Wk x.2=true∧b=Wc c x.2)∨x.1=2
structure RW (c:Cfg) (N B q:Nat) (K:Nat→List Int) (h:Nat→Bool) (w:W18):Prop where
 cfg:w.1=c
 len:w.2.1.length=N
 held:w.2.2.1=Xi N h
 kept:w.2.2.2=(q:Int)
 kn:∀ i,i<N→Kn c B (w.2.1.getD i default) (K i)
section
variable {c:Cfg} {N B n t q:Nat} {s:Shf} {L:List Nat} {K:Nat→List Int} {h:Nat→Bool} {w:W18}
theorem Gz (g:Geo c N B n) (e:w.1=c) {i:Nat} (hi:i<4294967296):Q164.f w (i:Int)=some (decide (1≤i∧i<N)):=by
 have hN:=g.N5
 have w1:w64 (i:Int)=(i:Int):=Zy (by omega) (by omega)
 unfold Q164.f
 rw [e,g.eN,w1]
 by_cases q0:i=0
 ·rw [if_neg (by simp [q0]),decide_eq_false (by omega)]
 ·rw [if_pos (decide_eq_true (by omega))]
  by_cases q1:i<N
  ·rw [decide_eq_true (show (i:Int)<(N:Int) by omega),decide_eq_true (show 1≤i∧i<N by omega)]
  ·rw [decide_eq_false (show ¬ (i:Int)<(N:Int) by omega),decide_eq_false (show ¬ (1≤i∧i<N) by omega)]
theorem Zhf (g:Geo c N B n) {w:W18} (hl:w.2.1.length=N) {i:Nat} (hi:i<N) (x:Int×Nd):Q165.f w (i:Int) x=some (w.1,w.2.1.set i x,w.2.2.1,w.2.2.2):=by
 have hN:=g.N5
 unfold Q165.f
 simp only [List.length_nil,List.nil_append]
 rw [if_pos (by omega),if_pos (by omega),Int.toNat_natCast]
theorem RW.lay (R:RW c N B q K h w) {i:Nat} (hi:i<N) {x:Int×Nd} {b:TU} (hx:Kn c B x b) {h':Nat→Bool}:RW c N B q (upd K i b) h' (w.1,w.2.1.set i x,Xi N h',w.2.2.2):=
 ⟨R.cfg,by dsimp only; rw [List.length_set]; exact R.len,rfl,R.kept,fun j hj=>by
  dsimp only
  rw [List.getD_eq_getElem?_getD,List.getElem?_set]
  by_cases e:i=j
  ·subst e; rw [if_pos rfl,if_pos (by rw [R.len]; exact hi),Yc]; exact hx
  ·rw [if_neg e,Yf (fun z=>e z.symm),← List.getD_eq_getElem?_getD]; exact R.kn j hj⟩
theorem Zms (g:Geo c N B n) (R:RW c N B q K h w) {i:Nat} (hi:i<4294967296) {nd:Nd} (hn:EncN nd) {k:Nat} (hk:20000<k):∃ w',Q163.f k w (i:Int) nd=some (w',if 1≤i∧i<N then (if Xe c Wk nd=true then 0 else 3) else 4)∧RW c N B q (if (1≤i∧i<N)∧Xe c Wk nd=true then upd K i (Wc c nd) else K) h w':=by
 unfold Q163.f
 rw [Gz g R.cfg hi,Option.bind_some]
 by_cases q1:1≤i∧i<N
 ·rw [decide_eq_true q1,if_neg (by simp),R.cfg,Zfz hn.sm.mid hk,g.ok,Option.bind_some,if_pos q1,Bool.true_and]
  cases hr:Xe c Wk nd with
  | true=>
   rw [if_neg (by simp),Zhf g R.len q1.2,Option.bind_some,if_pos rfl,if_pos ⟨q1,rfl⟩]
   have:=R.lay (h':=h) q1.2 (x:=(1,nd)) (b:=Wc c nd) (.inr (.inl ⟨rfl,hn,hr,rfl⟩))
   rw [← R.held] at this
   exact ⟨_,rfl,this⟩
  | false=>rw [if_pos (by simp),if_neg (by simp),if_neg (fun z=>by cases z.2)]; exact ⟨_,rfl,R⟩
 ·rw [decide_eq_false q1,if_pos (by simp),if_neg q1,if_neg (fun z=>q1 z.1)]; exact ⟨_,rfl,R⟩
theorem Zlj (g:Geo c N B n) (H:ShK c N B n t s L q K h) (R:RW c N B q K h w) (ht:t≤800000) (kd:Int) {i:Nat} (hi:i<4294967296) {nd:Nd} (hn:EncN nd):∃(w':W18) (j r:Int) (s':Shf) (L':List Nat) (q':Nat) (K':Nat→List Int) (h':Nat→Bool),Ev (fun k=>Q129.f k w (kd,(i:Int),nd)) (w',j,r)∧Ev (fun k=>Q128.f k s (kd,(i:Int),nd)) (j,r,s')∧ShK c N B n (t+1) s' L' q' K' h'∧RW c N B q' K' h' w':=by
 have hN:=g.N5
 have save:∃(w':W18) (r:Int) (s':Shf) (L':List Nat) (K':Nat→List Int),(∀ k,20000<k→Q163.f k w (i:Int) nd=some (w',r))∧Ev (fun k=>Q89.f k s (i:Int) nd) (r,s')∧ShK c N B n (t+1) s' L' q K' h∧RW c N B q K' h w':=by
  obtain ⟨s',L',e,H',_⟩:=Zpw g H ht hi hn
  obtain ⟨w',e2,R'⟩:=Zms g R hi hn (k:=20001) (by omega)
  refine ⟨w',_,s',L',_,fun k hk=>?_,e,H',R'⟩
  obtain ⟨w2,e3,_⟩:=Zms g R hi hn hk
  rw [e3]
  have:w2=w':=by
   unfold Q163.f at e2 e3
   rw [Gz g R.cfg hi,Option.bind_some] at e2 e3
   by_cases q1:1≤i∧i<N
   ·rw [decide_eq_true q1,if_neg (by simp),R.cfg,Zfz hn.sm.mid (by omega),Option.bind_some] at e2 e3
    rw [e2] at e3
    simp only [Option.some.injEq,Prod.mk.injEq] at e3
    exact e3.1.symm
   ·rw [decide_eq_false q1,if_pos (by simp)] at e2 e3
    rw [e2] at e3
    simp only [Option.some.injEq,Prod.mk.injEq] at e3
    exact e3.1.symm
  rw [this]
 by_cases k0:kd=0
 ·subst k0
  obtain ⟨w',r,s',L',K',e1,⟨b2,e2⟩,H',R'⟩:=save
  refine ⟨w',0,r,s',L',q,K',h,⟨20001,fun k hk=>?_⟩,⟨b2,fun k hk=>?_⟩,H',R'⟩
  ·show Q129.f k w (0,(i:Int),nd)=_
   unfold Q129.f
   rw [if_pos (by simp),e1 k (by omega),Option.bind_some]
  ·show Q128.f k s (0,(i:Int),nd)=_
   unfold Q128.f
   rw [if_pos (by simp),show Q89.f k s (i:Int) nd=_ from e2 k hk,Option.bind_some]
 by_cases k1:kd=1
 ·subst k1
  obtain ⟨w',r,s',L',K',e1,⟨b2,e2⟩,H',R'⟩:=save
  refine ⟨w',0,r,s',L',q,K',h,⟨20001,fun k hk=>?_⟩,⟨b2,fun k hk=>?_⟩,H',R'⟩
  ·show Q129.f k w (1,(i:Int),nd)=_
   unfold Q129.f
   rw [if_neg (by simp),if_pos (by simp),e1 k (by omega),Option.bind_some]
  ·show Q128.f k s (1,(i:Int),nd)=_
   unfold Q128.f
   rw [if_neg (by simp),if_pos (by simp),show Q89.f k s (i:Int) nd=_ from e2 k hk,Option.bind_some]
 by_cases k2:kd=2
 ·subst k2
  have wu:∀ k,Q129.f k w (2,(i:Int),nd)=(Q160.f k w nd).bind fun r3=>some r3:=fun k=>by
   unfold Q129.f
   rw [if_neg (by simp),if_neg (by simp),if_pos (by simp)]
  have su:∀ k,Q128.f k s (2,(i:Int),nd)=(Q87.f k s nd).bind fun r3=>some r3:=fun k=>by
   unfold Q128.f
   rw [if_neg (by simp),if_neg (by simp),if_pos (by simp)]
  have mu:∀ k,20000<k→Q160.f k w nd=if (!Xe c Wk nd)=true then some (w,0,3) else ((Q134.f k (Xi N h) 1).bind fun r2=>(if (!decide (r2.2.2=0))=true then (some (w,0,r2.2.2)) else (if 0<(r2.2.1.length:Int) then ((Q165.f (w.1,w.2.1,r2.1,w.2.2.2) (gt r2.2.1 0) (1,nd)).bind fun r3=>(some (r3,(gt r2.2.1 0),0))) else none))):=fun k hk=>by
   unfold Q160.f
   rw [R.cfg,Zfz hn.sm.mid hk,g.ok,Option.bind_some,Bool.true_and,R.held]
  rcases Zpq g H ht hn with ⟨hr,b,e⟩ | ⟨hr,z,b,e⟩ | ⟨hr,x,s',L',x1,xN,xf,xl,⟨b,e⟩,H',_⟩
  ·refine ⟨w,0,3,s,L,q,K,h,⟨20001,fun k hk=>?_⟩,⟨b,fun k hk=>?_⟩,H.up (by omega),R⟩
   ·show Q129.f k w (2,(i:Int),nd)=_
    rw [wu,mu k (by omega),hr,if_pos (by simp),Option.bind_some]
   ·show Q128.f k s (2,(i:Int),nd)=_
    rw [su,show Q87.f k s nd=_ from e k hk,Option.bind_some]
  ·refine ⟨w,0,11,s,L,q,K,h,⟨N+20003,fun k hk=>?_⟩,⟨b,fun k hk=>?_⟩,H.up (by omega),R⟩
   ·show Q129.f k w (2,(i:Int),nd)=_
    rw [wu,mu k (by omega),hr,if_neg (by simp)]
    rcases Zk2 (h:=h) hN.2 (k:=k) (by omega) with ⟨_,e7⟩ | ⟨j,j1,j2,_⟩
    ·rw [e7,Option.bind_some,if_pos (by simp),Option.bind_some]
    ·rw [(Jj h).1 z j j1] at j2; cases j2
   ·show Q128.f k s (2,(i:Int),nd)=_
    rw [su,show Q87.f k s nd=_ from e k hk,Option.bind_some]
  ·have Rl:=R.lay (h':=upd h x true) xN (x:=(1,nd)) (b:=Wc c nd) (.inr (.inl ⟨rfl,hn,hr,rfl⟩))
   refine ⟨_,(x:Int),0,s',L',q,_,_,⟨N+20003,fun k hk=>?_⟩,⟨b,fun k hk=>?_⟩,H',Rl⟩
   ·show Q129.f k w (2,(i:Int),nd)=_
    rw [wu,mu k (by omega),hr,if_neg (by simp)]
    rcases Zk2 (h:=h) hN.2 (k:=k) (by omega) with ⟨z,_⟩ | ⟨j,j1,j2,j3,e7⟩
    ·rw [(Jj h).1 z x xN] at xf; cases xf
    ·have:j=x:=by
      rcases Nat.lt_trichotomy j x with z | z | z
      ·rw [xl j z] at j2; cases j2
      ·exact z
      ·rw [j3 x z] at xf; cases xf
     subst this
     rw [e7,Option.bind_some,if_neg (by simp),if_pos (by simp),show gt [(j:Int)] 0=(j:Int) from rfl,Zhf g (w:=(w.1,w.2.1,Xi N (upd h j true),w.2.2.2)) R.len j1,Option.bind_some,Option.bind_some]
   ·show Q128.f k s (2,(i:Int),nd)=_
    rw [su,show Q87.f k s nd=_ from e k hk,Option.bind_some]
 by_cases k3:kd=3
 ·subst k3
  obtain ⟨s',L',K',e,H',c1,c2,_⟩:=Zpn g H ht hi
  have su:∀ k,Q128.f k s (3,(i:Int),nd)=(Q82.f s (i:Int)).bind fun r4=>some (0,r4.1,r4.2):=fun k=>by
   unfold Q128.f
   rw [if_neg (by simp),if_neg (by simp),if_neg (by simp),if_pos (by simp)]
  have fin:∀(w':W18) (r:Int),Q158.f w (i:Int)=some (w',r)→Q82.f s (i:Int)=some (r,s')→RW c N B q K' (if (1≤i∧i<N)∧i≠q then upd h i false else h) w'→∃(w':W18) (j r:Int) (s':Shf) (L':List Nat) (q':Nat) (K':Nat→List Int) (h':Nat→Bool),Ev (fun k=>Q129.f k w (3,(i:Int),nd)) (w',j,r)∧Ev (fun k=>Q128.f k s (3,(i:Int),nd)) (j,r,s')∧ShK c N B n (t+1) s' L' q' K' h'∧RW c N B q' K' h' w':=fun w' r a1 a2 a3=>by
   refine ⟨w',0,r,s',L',q,K',_,⟨0,fun k hk=>?_⟩,⟨0,fun k hk=>?_⟩,H',a3⟩
   ·show Q129.f k w (3,(i:Int),nd)=_
    unfold Q129.f
    rw [if_neg (by simp),if_neg (by simp),if_neg (by simp),if_pos (by simp),a1,Option.bind_some]
   ·show Q128.f k s (3,(i:Int),nd)=_
    rw [su,a2,Option.bind_some]
  unfold Q158.f at fin
  rw [Gz g R.cfg hi,Option.bind_some] at fin
  by_cases q1:1≤i∧i<N
  ·rw [decide_eq_true q1,if_neg (by simp),R.kept] at fin
   rw [if_pos q1] at e
   by_cases q2:i=q
   ·rw [if_pos q2] at e
    rw [if_pos (decide_eq_true (by omega)),if_neg (fun z=>z.2 q2)] at fin
    have:K'=K:=c2 fun z=>z.2.1 q2
    exact fin w 8 rfl e (by rw [this]; exact R)
   ·rw [if_neg q2] at e
    rw [if_neg (by simp only [decide_eq_true_eq]; omega),if_pos (show (1≤i∧i<N)∧i≠q from ⟨q1,q2⟩),R.held,Zn5 hN.2 q1.1 q1.2] at fin
    by_cases hh:h i=true
    ·rw [if_pos hh] at e fin
     rw [Option.bind_some,if_neg (by simp),show Q165.f (w.1,w.2.1,(Xi N (upd h i false),(0:Int)).1,(q:Int)) (i:Int) (2,(0,([]:List Int),([]:List TP),([]:List Msg),([]:List Pr)))=_ from Zhf g (w:=(w.1,w.2.1,Xi N (upd h i false),(q:Int))) R.len q1.2 (2,Jk),Option.bind_some] at fin
     refine fin _ 0 rfl e ?_
     have Rl:=R.lay (h':=upd h i false) q1.2 (x:=(2,Jk)) (b:=K' i) (.inr (.inr rfl))
     have hK:upd K i (K' i)=K':=funext fun j=>by
      by_cases e:j=i
      ·subst e; exact Yc _ _ _
      ·rw [Yf e,c1 j e]
     rw [hK,R.kept] at Rl
     exact Rl
    ·rw [if_neg hh] at e fin
     rw [Option.bind_some,if_pos (by simp)] at fin
     have:K'=K:=c2 fun z=>hh z.2.2
     have hu:∀ j,upd h i false j=h j:=fun j=>by
      by_cases e:j=i
      ·subst e; rw [Yc]; cases hx:h j with
       | true=>exact absurd hx hh
       | false=>rfl
      ·exact Yf e
     refine fin w 9 rfl e ?_
     rw [this,show upd h i false=h from funext hu]
     exact R
  ·rw [decide_eq_false q1,if_pos (by simp),if_neg (fun z=>q1 z.1)] at fin
   rw [if_neg q1] at e
   have:K'=K:=c2 fun z=>q1 z.1
   exact fin w 4 rfl e (by rw [this]; exact R)
 by_cases k4:kd=4
 ·subst k4
  obtain ⟨s',e,H',_⟩:=Zpv g H hi
  refine ⟨_,0,if 1≤i∧i<N then (if h i=true then 10 else 0) else 4,s',L,q,K,(if 1≤i∧i<N then upd h i true else h),⟨0,fun k hk=>?_⟩,⟨0,fun k hk=>?_⟩,H'.up (by omega),(?_:RW c N B q K _ (if 1≤i∧i<N then (w.1,w.2.1,Xi N (upd h i true),w.2.2.2) else w))⟩
  ·show Q129.f k w (4,(i:Int),nd)=_
   unfold Q129.f
   rw [if_neg (by simp),if_neg (by simp),if_neg (by simp),if_neg (by simp),if_pos (by simp)]
   unfold Q161.f
   rw [Gz g R.cfg hi,Option.bind_some]
   by_cases q1:1≤i∧i<N
   ·rw [decide_eq_true q1,if_neg (by simp),R.held,Zod hN.2 q1.2,if_pos q1,if_pos q1]
    by_cases hh:h i=true
    ·have hu:upd h i true=h:=funext fun j=>by
      by_cases e:j=i
      ·subst e; rw [Yc,hh]
      ·exact Yf e
     rw [if_pos hh,if_pos hh,hu,Option.bind_some,Option.bind_some]
    ·rw [if_neg hh,if_neg hh,Option.bind_some,Option.bind_some]
   ·rw [decide_eq_false q1,if_pos (by simp),if_neg q1,if_neg q1,Option.bind_some]
  ·show Q128.f k s (4,(i:Int),nd)=_
   unfold Q128.f
   rw [if_neg (by simp),if_neg (by simp),if_neg (by simp),if_neg (by simp),if_pos (by simp),e,Option.bind_some]
  ·split
   ·exact ⟨R.cfg,R.len,rfl,R.kept,R.kn⟩
   ·exact R
 by_cases k5:kd=5
 ·subst k5
  obtain ⟨s',L',e,H',_⟩:=Gd g H ht hi
  refine ⟨(w.1,w.2.1,w.2.2.1,if i<N then (i:Int) else w.2.2.2),0,(if i<N then 0 else 4),s',L',(if i<N then i else q),K,h,⟨0,fun k hk=>?_⟩,⟨0,fun k hk=>?_⟩,H',⟨R.cfg,R.len,R.held,?_,R.kn⟩⟩
  ·show Q129.f k w (5,(i:Int),nd)=_
   unfold Q129.f
   rw [if_neg (by simp),if_neg (by simp),if_neg (by simp),if_neg (by simp),if_neg (by simp),if_pos (by simp)]
   unfold Q159.f
   by_cases q0:i=0
   ·rw [if_neg (by simp [q0]),if_pos (show i<N by omega),if_pos (show i<N by omega),Option.bind_some]
   ·rw [if_pos (decide_eq_true (show (0:Int)<(i:Int) by omega)),Gz g R.cfg hi,Option.bind_some]
    by_cases q1:i<N
    ·rw [decide_eq_true (show 1≤i∧i<N by omega),if_neg (by simp),if_pos q1,if_pos q1,Option.bind_some]
    ·rw [decide_eq_false (show ¬ (1≤i∧i<N) by omega),if_pos (by simp),if_neg q1,if_neg q1,Option.bind_some]
  ·show Q128.f k s (5,(i:Int),nd)=_
   unfold Q128.f
   rw [if_neg (by simp),if_neg (by simp),if_neg (by simp),if_neg (by simp),if_neg (by simp),if_pos (by simp),e,Option.bind_some]
  ·dsimp only
   split
   ·rfl
   ·exact R.kept
 have wu:∀ k,Q129.f k w (kd,(i:Int),nd)=some (w,0,0):=fun k=>by
  unfold Q129.f
  rw [if_neg (by simpa using k0),if_neg (by simpa using k1),if_neg (by simpa using k2),if_neg (by simpa using k3),if_neg (by simpa using k4),if_neg (by simpa using k5)]
 by_cases k6:kd=6
 ·obtain ⟨s',e,H',_⟩:=Zkz g H ht
  refine ⟨w,0,0,s',L,q,K,h,⟨0,fun k hk=>wu k⟩,⟨201,fun k hk=>?_⟩,H',R⟩
  show Q128.f k s (kd,(i:Int),nd)=_
  unfold Q128.f
  rw [if_neg (by simpa using k0),if_neg (by simpa using k1),if_neg (by simpa using k2),if_neg (by simpa using k3),if_neg (by simpa using k4),if_neg (by simpa using k5),if_pos (decide_eq_true k6),e k (by omega),Option.bind_some]
 ·refine ⟨w,0,0,s,L,q,K,h,⟨0,fun k hk=>wu k⟩,⟨0,fun k hk=>?_⟩,H.up (by omega),R⟩
  show Q128.f k s (kd,(i:Int),nd)=_
  unfold Q128.f
  rw [if_neg (by simpa using k0),if_neg (by simpa using k1),if_neg (by simpa using k2),if_neg (by simpa using k3),if_neg (by simpa using k4),if_neg (by simpa using k5),if_neg (by simpa using k6)]
end
theorem Zke (c:Cfg) {k:Nat} (hk:2000<k):Q124.f k c=some (okB c && (decide (c.2.1≤3000) && decide (c.1≤400))):=by
 unfold Q124.f
 rw [Ze9 c hk,Option.bind_some]
 cases okB c with
 | false=>rw [if_neg (by decide)]; rfl
 | true=>
  rw [if_pos rfl]
  by_cases q:c.2.1≤3000
  ·rw [if_pos (decide_eq_true q),decide_eq_true q]; rfl
  ·rw [if_neg (by simpa using q),decide_eq_false q]; rfl
theorem Zpo {c:Cfg} (h:(okB c && (decide (c.2.1≤3000) && decide (c.1≤400)))=true):∃ N B n:Nat,Geo c N B n∧N≤400∧B≤3000:=by
 simp only [Bool.and_eq_true,decide_eq_true_eq] at h
 obtain ⟨hok,h1,h2⟩:=h
 have hc:=hok
 unfold okB at hc
 simp only [Bool.and_eq_true,decide_eq_true_eq] at hc
 obtain ⟨_,hN,hn,hB,_⟩:=hc
 obtain ⟨N,eN⟩:=Int.eq_ofNat_of_zero_le (show 0≤c.1 by omega)
 obtain ⟨B,eB⟩:=Int.eq_ofNat_of_zero_le (show 0≤c.2.1 by omega)
 obtain ⟨n,en⟩:=Int.eq_ofNat_of_zero_le (show 0≤c.2.2.1 by omega)
 have hNB:N*B≤400*3000:=Nat.mul_le_mul (by omega) (by omega)
 exact ⟨N,B,n,⟨hok,⟨by omega,by omega,by omega,by omega,by omega⟩,by omega,by omega,by omega,eN,eB,en⟩,by omega,by omega⟩
theorem Zg7 (k:Nat) (hk:3000≤k):Q126.f k=some true:=by
 obtain ⟨k,rfl⟩:∃ k2,k=k2+3000:=⟨k - 3000,by omega⟩
 kernel_rfl
section
variable {c:Cfg} {N B n t q:Nat} {s:Shf} {L:List Nat} {K:Nat→List Int} {h:Nat→Bool} {w:W18}
theorem Zqc (g:Geo c N B n):∃ w,Q162.f c=some w∧RW c N B 0 (fun _=>List.replicate B 0) (upd (fun _=>false) 0 true) w:=by
 have hN:=g.N5
 unfold Q162.f
 rw [g.eN,if_pos (by omega),Zpf (by omega) hN.2,Option.bind_some,Int.toNat_natCast]
 refine ⟨_,rfl,⟨rfl,by simp,rfl,rfl,fun i hi=>.inl ⟨?_,rfl⟩⟩⟩
 dsimp only
 rw [List.getD_eq_getElem?_getD,List.getElem?_replicate,if_pos hi]; rfl
end
abbrev G1 (k:Nat) (c:Cfg) (l:List (Int×Int×Nd)) (s:Shf) (w:W18) (j:Int):Option Bool:=Q125.l1 k c l s.1 s.2.1.1 s.2.1.2.2.2.2 s.2.2.1 w s.2.1.2.1 s.2.1.2.2.1 s.2.1.2.2.2.1 s.2.2.2 j
section
variable {c:Cfg} {N B n t q:Nat} {s:Shf} {L:List Nat} {K:Nat→List Int} {h:Nat→Bool} {w:W18}
theorem Zju (g:Geo c N B n) (R:RW c N B q K h w) {img:TU} (hl:img.length=N*B) (hj:∀ j,j<N→blk img B j=K j):∀(m i:Nat) (sd:TS),1≤i→i+m=N→Ev (fun k=>Q125.l3 k c w ((B:Int),img,sd) (i:Int)) true
 | 0,i,sd,h1,hm=>by
  have h5:=g.N5
  refine ⟨5000,fun k hk=>?_⟩
  show Q125.l3 k c w ((B:Int),img,sd) (i:Int)=_
  obtain ⟨k,rfl⟩:∃ k2,k=k2+1:=⟨k - 1,by omega⟩
  rw [Q125.l3,g.eN,if_neg (by simp only [decide_eq_true_eq]; omega),Zg7 k (by omega),Option.bind_some]
 | m+1,i,sd,h1,hm=>by
  have h5:=g.N5
  have h8:=g.n8
  have step:∀ k,Q125.l3 (k+1) c w ((B:Int),img,sd) (i:Int)=(if (!decide ((w.2.1.getD i default).1=1))=true then Q125.l3 k c w ((B:Int),img,sd) ((i+1:Nat):Int) else ((Q37.f k c (K i)).bind fun r21=>(if (!decide (r21.2=0))=true then some false else ((Q153.f k r21.1 (w.2.1.getD i default).2).bind fun r22=>(if (!r22)=true then some false else Q125.l3 k c w ((B:Int),img,(IntKind.u64.wrap (sd.1+1),sd.2)) ((i+1:Nat):Int)))))):=fun k=>by
   have ed:Q55.f ((B:Int),img,sd) (i:Int)=some (K i,0,((B:Int),img,IntKind.u64.wrap (sd.1+1),sd.2)):=by
    rw [Zh4 (N:=N) (i:=i) g.z.hB (by omega) hl g.z.hNB (by omega),if_neg (by omega),hj i (by omega)]
   rw [Q125.l3,g.eN,if_pos (decide_eq_true (by omega)),if_pos (by rw [R.len]; omega),Z8,Zjw (by omega),ed,Z9 (by omega)]
   rfl
  rcases R.kn i (by omega) with ⟨k0,_⟩ | ⟨k1,kn,kr,kb⟩ | k2
  ·refine (Zju g R hl hj m (i+1) sd (by omega) (by omega)).step fun k hk=>?_
   rw [step,if_pos (by rw [k0]; rfl)]
   exact hk
  ·have ek:=Zdg kn g kr
   rw [← kb] at ek
   obtain ⟨b1,e1⟩:=Zp3 (c:=c) (b:=toS (K i)) (by have:=ek.2; have:=g.hB; rw [← Ya,Zb3 ek.1]; omega)
   obtain ⟨b2,e2⟩:=Zju g R hl hj m (i+1) (IntKind.u64.wrap (sd.1+1),sd.2) (by omega) (by omega)
   refine ⟨b1+b2+10000,fun k hk=>?_⟩
   obtain ⟨k,rfl⟩:∃ k2,k=k2+1:=⟨k - 1,by omega⟩
   have e3:Q37.f k c (K i)=some (Zgu c (K i)):=by
    have:=e1 k (by omega)
    rw [Zb3 ek.1] at this
    exact this
   have:=kn.sm.kids
   have:=kn.sm.pivs
   have:=kn.sm.buf
   have:=kn.sm.prs
   show Q125.l3 (k+1) c w ((B:Int),img,sd) (i:Int)=_
   rw [step,if_neg (by rw [k1]; simp),e3,Option.bind_some,kb,Zi3 g.ok kn.kd kr]
   dsimp only
   rw [if_neg (by simp),Zhk (by omega) (by omega) (by omega) (by omega) (by omega),Option.bind_some,decide_eq_true rfl,if_neg (by simp)]
   exact e2 k (by omega)
  ·refine (Zju g R hl hj m (i+1) sd (by omega) (by omega)).step fun k hk=>?_
   rw [step,if_pos (by rw [k2]; rfl)]
   exact hk
theorem Zmv (g:Geo c N B n) (H:ShK c N B n t s L q K h) (R:RW c N B q K h w) (ht:t≤800000) {l:List (Int×Int×Nd)} {j:Int}:Ev (fun k=>Q125.l2 k c l s.1 s.2.1.1 s.2.1.2.2.2.2 s.2.2.1 w s.2.1.2.1 s.2.1.2.2.1 s.2.1.2.2.2.1 s.2.2.2 j false) true:=by
 have h5:=g.N5
 obtain ⟨s',e1,H',_,hj⟩:=Zkz g H ht
 obtain ⟨b,e2⟩:=Zju g R H'.ca.dim hj (N - 1) 1 s'.2.1.1.2.2 (Nat.le_refl _) (by omega)
 refine ⟨b+1000,fun k hk=>?_⟩
 obtain ⟨k,rfl⟩:∃ k2,k=k2+1:=⟨k - 1,by omega⟩
 have e3:Q125.l3 k c w (s'.2.1.1.1,s'.2.1.1.2.1,s'.2.1.1.2.2) 1=some true:=by
  rw [H'.ca.dsz]
  exact e2 k (by omega)
 show Q125.l2 (k+1) c l s.1 s.2.1.1 s.2.1.2.2.2.2 s.2.2.1 w s.2.1.2.1 s.2.1.2.2.1 s.2.1.2.2.2.1 s.2.2.2 j false=_
 rw [Q125.l2,if_neg (by simp),show Q81.f k (s.1,(s.2.1.1,s.2.1.2.1,s.2.1.2.2.1,s.2.1.2.2.2.1,s.2.1.2.2.2.2),s.2.2.1,s.2.2.2)=_ from e1 k (by omega),Option.bind_some,if_neg (by simp)]
 exact e3
theorem Zom (g:Geo c N B n) {l:List (Int×Int×Nd)} (hf:∀ x∈l,∃ i:Nat,x.2.1=(i:Int)∧i<4294967296∧∀ y∈x.2.2.2.1,0≤y∧y<4294967296):∀(m j:Nat) (s:Shf) (L:List Nat) (q:Nat) (K:Nat→List Int) (h:Nat→Bool) (w:W18),j+m=40→ShK c N B n (2*j) s L q K h→RW c N B q K h w→Ev (fun k=>G1 k c l s w (j:Int)) true
 | m,j,s,L,q,K,h,w,hm,H,R=>by
  by_cases q1:j<l.length
  ·cases m with
   | zero=>
    refine (Zmv g H R (by omega) (l:=l) (j:=(j:Int))).step fun k hk=>?_
    unfold G1
    rw [Q125.l1,if_pos (decide_eq_true (by omega)),decide_eq_false (show ¬ (j:Int)<40 by omega)]
    exact hk
   | succ m=>
    obtain ⟨i,ei,hi,hkd⟩:=hf _ (Xs (d:=default) q1)
    have hact:l.getD j default=((l.getD j default).1,(i:Int),(l.getD j default).2.2):=by rw [← ei]
    have enter:∀ k,6000<k→(SmallN (l.getD j default).2.2→((Q129.f (k - 2) w (l.getD j default)).bind fun r17=>((Q128.f (k - 2) s (l.getD j default)).bind fun r18=>G1 (k - 2) c l r18.2.2 r17.1 ((j+1:Nat):Int)))=some true)→G1 k c l s w (j:Int)=some true:=fun k hk hx=>by
     obtain ⟨k,rfl⟩:∃ k2,k=k2+2:=⟨k - 2,by omega⟩
     unfold G1
     rw [Q125.l1,if_pos (decide_eq_true (by omega)),decide_eq_true (show (j:Int)<40 by omega),Q125.l2,if_pos rfl,if_pos (by omega),Z8]
     obtain ⟨g2,e2,h2⟩:=Zhu (l.getD j default).2.2 (k:=k) (by omega)
     rw [e2,Option.bind_some]
     cases g2 with
     | true=>rw [if_pos rfl,Zg7 k (by omega),Option.bind_some]
     | false=>rw [if_neg (by simp),Z9 (by omega)]; exact hx (h2 rfl)
    by_cases sm:SmallN (l.getD j default).2.2
    ·obtain ⟨w',x,r,s',L',q',K',h',⟨b1,e1⟩,⟨b2,e2⟩,H',R'⟩:=Zlj g H R (by omega) (l.getD j default).1 hi (nd:=(l.getD j default).2.2) ⟨sm,hkd⟩
     rw [← hact] at e1 e2
     obtain ⟨b3,e3⟩:=Zom g hf m (j+1) s' L' q' K' h' w' (by omega) (H'.up (by omega)) R'
     refine ⟨b1+b2+b3+7000,fun k hk=>enter k (by omega) fun _=>?_⟩
     rw [show Q129.f (k - 2) w _=_ from e1 (k - 2) (by omega),Option.bind_some,show Q128.f (k - 2) s _=_ from e2 (k - 2) (by omega),Option.bind_some]
     exact e3 (k - 2) (by omega)
    ·exact ⟨7000,fun k hk=>enter k (by omega) fun h=>absurd h sm⟩
  ·refine (Zmv g H R (by omega) (l:=l) (j:=(j:Int))).step fun k hk=>?_
   unfold G1
   rw [Q125.l1,if_neg (by simp only [decide_eq_true_eq]; omega)]
   exact hk
theorem Zo0 (g:Geo c N B n) (hN:N≤400) {l:List (Int×Int×Nd)} (hf:∀ x∈l,∃ i:Nat,x.2.1=(i:Int)∧i<4294967296∧∀ y∈x.2.2.2.1,0≤y∧y<4294967296) {ch:Chn} (hc:ChI n ch []):∀(m j:Nat),j+m=n→Ev (fun k=>Q125.l0 k c l ((B:Int),List.replicate (N*B) 0,(0,0)) ch ((List.range j).map fun(i:Nat)=>(i:Int)) (j:Int)) true
 | 0,j,hj=>by
  have e:j=n:=by omega
  subst e
  have h64:=g.z.h64
  obtain ⟨p,ep,bp⟩:=Zmj g.N5.1 g.N5.2
  obtain ⟨w,ew,R⟩:=Zqc g
  obtain ⟨b,hb⟩:=Zom g hf 40 0 (Zdl c N B j ch p) [] 0 _ _ w (by omega) (Zqa g hc bp) R
  refine ⟨b+1,fun k hk=>?_⟩
  obtain ⟨k,rfl⟩:∃ k2,k=k2+1:=⟨k - 1,by omega⟩
  have hx:=hb k (by omega)
  have eb:=U5 (s:=(0,0)) (N:=N) (n:=B) g.z.hB (img:=List.replicate (N*B) 0) (by simp) g.z.hNB
  show Q125.l0 (k+1) c l _ _ _ _=_
  rw [Q125.l0,g.en,if_neg (by simp),eb,Option.bind_some,g.eN,if_neg (by simp),Q54.f,Option.bind_some,g.eB,if_neg (by simp),ep,Option.bind_some]
  dsimp only [V1]
  rw [if_pos (by simp),ew,Option.bind_some,Int.toNat_natCast]
  exact hx
 | m+1,j,hj=>by
  have h64:=g.z.h64
  obtain ⟨k0,hk⟩:=Zo0 g hN hf hc m (j+1) (by omega)
  refine ⟨k0+1,fun k hk2=>?_⟩
  obtain ⟨k,rfl⟩:∃ k2,k=k2+1:=⟨k - 1,by omega⟩
  have hx:=hk k (by omega)
  show Q125.l0 (k+1) c l _ _ _ _=_
  rw [Q125.l0,g.en,if_pos (decide_eq_true (by omega)),if_pos (by simp; omega),Z9 (by omega)]
  dsimp only at hx
  rw [List.range_succ,List.map_append] at hx
  exact hx
end
theorem flF {c:Cfg} {l:List (Int×Int×Nd)} (hf:∀ x∈l,∃ i:Nat,x.2.1=(i:Int)∧i<4294967296∧∀ y∈x.2.2.2.1,0≤y∧y<4294967296):∃ k,Q125.f k c l=some true:=by
 by_cases light:(okB c && (decide (c.2.1≤3000) && decide (c.1≤400)))=true
 ·obtain ⟨N,B,n,g,hN,hB⟩:=Zpo light
  obtain ⟨ch,ec,hch⟩:=Zp6 (n:=n) g.z.hn g.z.h64
  obtain ⟨k0,hk⟩:=Zo0 g hN hf hch n 0 (by omega)
  have eb:=U5 (s:=(0,0)) (N:=N) (n:=B) g.z.hB (img:=List.replicate (N*B) 0) (by simp) g.z.hNB
  have h5:=g.N5
  have h8:=g.n8
  have h64:=g.z.h64
  refine ⟨k0+3000,?_⟩
  have hx:=hk (k0+3000) (by omega)
  unfold Q125.f
  rw [Zke c (by omega),light,Option.bind_some,if_neg (by simp),g.eN,g.eB,Zov ⟨g.N5.1,g.N5.2,g.z.hB,g.hB⟩,Option.bind_some]
  dsimp only [V1]
  rw [if_pos (by simp),show Q48.f c=_ from Zc3 c,if_pos g.ok,Option.bind_some,if_neg (by simp),eb,Option.bind_some,if_neg (by simp only [decide_eq_true_eq]; omega),g.en,if_neg (by simp only [decide_eq_true_eq]; omega),if_neg (by simp only [decide_eq_true_eq]; omega),ec,Option.bind_some]
  dsimp only [V1]
  rw [if_pos (by simp),if_pos (by omega)]
  exact hx
 ·refine ⟨3000,?_⟩
  unfold Q125.f
  rw [Zke c (by omega),Bool.eq_false_iff.2 light,Option.bind_some,if_pos (show (!false)=true from rfl),Zg7 _ (by omega),Option.bind_some]
theorem ShelfFlushed_pure (c:Cfg) (l:List (Int×Int×Nd)) (_:Ty.fit (Zbh tt) (.pair (.int .i64) (.pair (.int .i64) (.pair (.int .i64) (.pair (.int .i64) (.pair (.int .i64) (.pair (.int .i64) (.pair (.int .i64) (.int .i64)))))))) c) (hl:Ty.fit (Zbh tt) (.slice 45 (.pair (.int .i64) (.pair (.int .u32) (.pair (.int .i64) (.pair (.slice 33 (.int .u32)) (.pair (.slice 9 .str) (.pair (.slice 115 (.pair .str (.pair .bool .str))) (.slice 106 (.pair .str .str))))))))) l):∃ k,Q125.f k c l=some true:=by
 have h1:IntKind.u32.min=0:=rfl
 have h2:IntKind.u32.max=4294967295:=rfl
 refine flF fun x hx=>?_
 have hx2:=hl.2.2 x hx
 have hi:=hx2.2.1
 have hk:=hx2.2.2.2.1
 simp only [Ty.fit,Lit.wf] at hi
 have hi':0≤x.2.1∧x.2.1<4294967296:=by
  simp at hi
  omega
 obtain ⟨i,e⟩:=Int.eq_ofNat_of_zero_le hi'.1
 refine ⟨i,e,by omega,fun y hy=>?_⟩
 have hy2:=hk.2.2 y hy
 simp [Ty.fit,Lit.wf] at hy2
 omega
end Go.SK.T
