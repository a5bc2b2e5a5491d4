/- The plain law behind WalkLooks: what its code computes is true for all settings, trees and heights. -/
import Derived.Test.YtolapahaeipgfaaGreatDoorXWalkLooksP0
import Derived.KernelRfl
import Derived.Sort.Walk13a
import Derived.Sort.AssemblyPlain
set_option linter.unusedVariables false
set_option linter.unusedSimpArgs false
namespace Go.SK.T
open Go Go.SK
open BitVec (ofInt)
open List (length_set length_nil append_assoc length_cons drop_eq_nil_of_le length_take length_drop length_map length_range length_replicate)
abbrev Rf:=Int×List UInt8×Bool×Int
abbrev Rc:=(Int×List TX×Int×Int)×List Rf×Int×List Int
section
variable {l:List Rf} {g:Nat->Option Fm} {i:Nat} {f:Fm}
end
structure MI (N B n t:Nat) (m:MC):Prop where
 dim:m.img.length=N*B
 len:∀ i f,m.fr i=some f->i<N/\f.b.length=B/\f.p<=t
 rnd:m.row.Nodup
 rfr:∀ q,q∈m.row↔∃ f,m.fr q=some f/\f.p=0
 ule:m.used<=n
 rle:m.row.length<=n
theorem Zgh {g:Nat->Nat}:∀ {L:List Nat},L.Nodup->(∀ x∈L,∀ y∈L,g x=g y->x=y)->(L.map g).Nodup
 | [],_,_=>by simp
 | x :: L,nd,h=>by
  rw [List.nodup_cons] at nd;rw [List.map_cons,List.nodup_cons];refine ⟨fun q=>?_,Zgh nd.2 fun a ha b hb=>h a (by simp [ha]) b (by simp [hb])⟩;obtain ⟨y,hy,e⟩:=List.mem_map.1 q;exact nd.1 (by rw [h x (by simp) y (by simp [hy]) e.symm]; exact hy)
theorem CaI.mi {N B n t:Nat} {c:Ca} {L:List Nat} (h:CaI N B n t [] c L):MI N B n t (Z6 c L) where
 dim:=h.dim
 len i f hf:=Zq4 h hf
 rnd:=Zgh h.chn.nd fun x hx y hy e=>by
  obtain ⟨i,hi,e1,_⟩:=Vu h hx;obtain ⟨j,hj,e2,_⟩:=Vu h hy;have:i=j:=by omega
  subst this;exact Zb4 h hi hj
 rfr q:=by
  constructor
  ·intro hq;obtain ⟨f,hf,e⟩:=List.mem_map.1 hq;obtain ⟨i,hi,e1,hp,_⟩:=Vu h hf;have:i=q:=by omega
   subst this;exact ⟨_,V7 h hi,by unfold fm; dsimp only; rw [hp]; rfl⟩
  ·rintro ⟨f,hf,hp⟩;rcases h.get q with ⟨_,g2⟩ | ⟨f',ha,_,_,ok⟩
   ·have:=U6 g2;rw [show Xu c q=some f from hf] at this; cases this
   ·have h1:=V7 h ha;rw [show Xu c q=some f from hf] at h1;injection h1 with h1;subst h1;refine (Zqn h ha).2 ((h.lok f').2 ⟨⟨_,ha⟩,?_⟩);have:=ok.pin;unfold fm at hp;dsimp only at hp;omega
 ule:=h.used
 rle:=by
  show (L.map (We c)).length<=n;rw [length_map];exact h.chn.short
section
variable {N B n t:Nat} {w:Rc} {m:MC} {i:Nat} {f:Fm}
end
section
variable {N B n t:Nat} {w:Rc} {m:MC} {i:Nat} {f:Fm}
end
section
variable {N B n t:Nat} {w:Rc} {m:MC} {i:Nat} {f:Fm}
end
section
variable {N B n t:Nat} {c:Ca} {L:List Nat}
end
section
variable {N B n t:Nat} {c:Ca} {L:List Nat} {w:Rc} {m:MC}
end
def Byt (l:T0):Prop:=∀ x∈l,0<=x/\x<256
theorem Byt.rep (n:Nat):Byt (List.replicate n 0):=fun x hx=>by rw [List.eq_of_mem_replicate hx]; omega
theorem Byt.blk {img:T0} (h:Byt img) (B i:Nat):Byt (blk img B i):=fun x hx=>h x (List.mem_of_mem_drop (List.mem_of_mem_take hx))
theorem Byt.patch {img b:T0} (h:Byt img) (hb:Byt b) (a n:Nat):Byt (patch img a n b):=fun x hx=>by
 unfold SK.patch at hx;rcases List.mem_append.1 hx with hx | hx
 ·rcases List.mem_append.1 hx with hx | hx
  ·exact h x (List.mem_of_mem_take hx)
  ·exact hb x (List.mem_of_mem_take hx)
 ·exact h x (List.mem_of_mem_drop hx)
namespace MC
def cnt (m:MC) (i:Nat):Nat:=match m.fr i with
 | none=>0
 | some x=>x.p
theorem cnt_no {m:MC} {i:Nat} (e:m.fr i=none):m.cnt i=0:=by unfold cnt; rw [e]
theorem cnt_at {m:MC} {i:Nat} {x:Fm} (e:m.fr i=some x):m.cnt i=x.p:=by unfold cnt; rw [e]
structure By (m:MC):Prop where
 img:Byt m.img
 fr:∀ i x,m.fr i=some x->Byt x.b
structure To (a b:Nat) (m m':MC):Prop where
 rd:m.rd<=m'.rd/\m'.rd<=m.rd+a
 wr:m.wr<=m'.wr/\m'.wr<=m.wr+b
 by':By m->By m'
theorem To.refl (m:MC):To 0 0 m m:=⟨⟨Int.le_refl _,by omega⟩,⟨Int.le_refl _,by omega⟩,id⟩
theorem To.le {a b a' b':Nat} {m m':MC} (h:To a b m m') (ha:a<=a') (hb:b<=b'):To a' b' m m':=⟨⟨h.rd.1,by have:=h.rd.2; omega⟩,⟨h.wr.1,by have:=h.wr.2; omega⟩,h.by'⟩
theorem To.trans {a b a' b':Nat} {m m' m'':MC} (h:To a b m m') (g:To a' b' m' m''):To (a+a') (b+b') m m'':=⟨⟨Int.le_trans h.rd.1 g.rd.1,by have:=h.rd.2; have:=g.rd.2; omega⟩,⟨Int.le_trans h.wr.1 g.wr.1,by have:=h.wr.2; have:=g.wr.2; omega⟩,fun y=>g.by' (h.by' y)⟩
end MC
section
variable {N B n t:Nat} {m k:MC} {i:Nat} {x:Fm}
theorem Pm.lay {img:T0} {rd wr:Int} {fr:Nat->Option Fm} {u u':Nat} {row row':List Nat} (hx:Byt x.b):(MC.By ⟨img,rd,wr,fr,u,row⟩->MC.By ⟨img,rd,wr,upd fr i (some x),u',row'⟩)/\∀ j,(⟨img,rd,wr,upd fr i (some x),u',row'⟩:MC).cnt j=if j=i then x.p else (⟨img,rd,wr,fr,u,row⟩:MC).cnt j:=by
 refine ⟨fun h=>⟨h.img,fun j y hj=>?_⟩,fun j=>?_⟩
 ·have hj':upd fr i (some x) j=some y:=hj;by_cases q:j=i
  ·subst q; rw [Z5] at hj'; injection hj' with hj'; subst hj'; exact hx
  ·rw [Yh q] at hj'; exact h.fr j y hj'
 ·by_cases q:j=i
  ·subst q; rw [iT rfl]; exact MC.cnt_at (Z5 _ _ _)
  ·rw [iF q]; unfold MC.cnt; dsimp only; rw [Yh q]
theorem Pm.evict (e:m.fr i=some x) (p:x.p=0):MC.To 0 1 m (m.evict B i)/\(∀ j,(m.evict B i).cnt j=m.cnt j)/\∀ j,m.fr j=none->(m.evict B i).fr j=none:=by
 rw [MC.evict_eq e];refine ⟨⟨⟨Int.le_refl _,by dsimp only; omega⟩,by dsimp only; split <;> omega,fun h=>⟨?_,fun j y hj=>?_⟩⟩,fun j=>?_,fun j hj=>?_⟩
 ·dsimp only;split
  ·exact h.img.patch (h.fr i x e) _ _
  ·exact h.img
 ·have hj':upd m.fr i none j=some y:=hj;by_cases q:j=i
  ·subst q; rw [Z5] at hj'; cases hj'
  ·rw [Yh q] at hj'; exact h.fr j y hj'
 ·by_cases q:j=i
  ·subst q; rw [MC.cnt_at e,MC.cnt_no (Z5 _ _ _),p]
  ·unfold MC.cnt; dsimp only; rw [Yh q]
 ·show upd m.fr i none j=none;by_cases q:j=i
  ·subst q; exact Z5 _ _ _
  ·rw [Yh q]; exact hj
theorem Pm.room (mi:MI N B n t m) (h:m.room B n=some k):MC.To 0 1 m k/\(∀ j,k.cnt j=m.cnt j)/\∀ j,m.fr j=none->k.fr j=none:=by
 unfold MC.room at h;split at h
 ·injection h with h; subst h; exact ⟨(MC.To.refl _).le (by omega) (by omega),fun _=>rfl,fun _ h=>h⟩
 ·split at h
  ·cases h
  ·rename_i q hq;injection h with h; subst h;obtain ⟨x,e,p⟩:=(mi.rfr q).1 (List.mem_of_getLast? hq);exact Pm.evict e p
theorem Pm.pin (mi:MI N B n t m) (hy:m.By) (i:Nat):MC.To 1 1 m (m.pin N B n i).2/\(1<=m.cnt i->MC.To 0 0 m (m.pin N B n i).2)/\∀ j,(m.pin N B n i).2.cnt j=if (m.pin N B n i).1=0/\j=i then m.cnt i+1 else m.cnt j:=by
 have r0:=(MC.To.refl m).le (Nat.zero_le 1) (Nat.zero_le 1);by_cases h:N<=i
 ·rw [MC.pin_out h]; exact ⟨r0,fun _=>MC.To.refl m,fun _=>by rw [vS]⟩
 cases e:m.fr i with
 | some x=>
  obtain ⟨h1,h2⟩:=Pm.lay (img:=m.img) (rd:=m.rd) (wr:=m.wr) (fr:=m.fr) (u:=m.used) (row:=m.row) (i:=i) (x:=⟨x.b,x.d,x.p+1⟩) (u':=m.used) (row':=m.row.erase i) (hy.fr i x e);have t0:MC.To 0 0 m (m.pin N B n i).2:=by rw [MC.pin_hit h e]; exact ⟨⟨Int.le_refl _,by show m.rd<=_; omega⟩,⟨Int.le_refl _,by show m.wr<=_; omega⟩,h1⟩
  refine ⟨t0.le (by omega) (by omega),fun _=>t0,fun j=>?_⟩;rw [MC.pin_hit h e,show ((m.put i ⟨x.b,x.d,x.p+1⟩).cut i).cnt j=_ from h2 j];by_cases q:j=i
  ·rw [iT q,iT ⟨rfl,q⟩,MC.cnt_at e]
  ·rw [iF q,iF (fun z=>q z.2)]
 | none=>
  cases r:m.room B n with
  | none=>rw [MC.pin_full h e r]; exact ⟨r0,fun _=>MC.To.refl m,fun _=>by rw [vS]⟩
  | some k=>
   obtain ⟨c1,c2,c3⟩:=Pm.room mi r;have hk:=c1.by' hy;obtain ⟨h1,h2⟩:=Pm.lay (img:=k.img) (rd:=k.rd+1) (wr:=k.wr) (fr:=k.fr) (u:=k.used) (row:=k.row) (i:=i) (x:=⟨blk k.img B i,false,1⟩) (u':=k.used+1) (row':=k.row) (hk.img.blk B i);rw [MC.pin_miss h e r];refine ⟨⟨by show m.rd<=k.rd+1/\k.rd+1<=_; have:=c1.rd; omega,by show m.wr<=k.wr/\k.wr<=_; have:=c1.wr; omega,fun _=>h1 ⟨hk.img,hk.fr⟩⟩,fun c=>by rw [MC.cnt_no e] at c; omega,fun j=>?_⟩;rw [show ((⟨k.img,k.rd+1,k.wr,k.fr,k.used,k.row⟩:MC).come i ⟨blk k.img B i,false,1⟩).cnt j=_ from h2 j];by_cases q:j=i
   ·rw [iT q,iT ⟨rfl,q⟩,MC.cnt_no e]
   ·rw [iF q,iF (fun z=>q z.2)]; exact c2 j
theorem Pm.fresh (mi:MI N B n t m) (hy:m.By) (i:Nat):MC.To 0 1 m (m.fresh N B n i).2/\∀ j,(m.fresh N B n i).2.cnt j=if (m.fresh N B n i).1=0/\j=i then m.cnt i+1 else m.cnt j:=by
 have r0:=(MC.To.refl m).le (Nat.zero_le 0) (Nat.zero_le 1);by_cases h:N<=i
 ·rw [MC.fresh_out h]; exact ⟨r0,fun _=>by rw [vS]⟩
 cases e:m.fr i with
 | some x=>
  by_cases p:0<x.p
  ·rw [MC.fresh_pin h e p]; exact ⟨r0,fun _=>by rw [vS]⟩
  obtain ⟨h1,h2⟩:=Pm.lay (img:=m.img) (rd:=m.rd) (wr:=m.wr) (fr:=m.fr) (u:=m.used) (row:=m.row) (i:=i) (x:=⟨List.replicate B 0,true,1⟩) (u':=m.used) (row':=m.row.erase i) (Byt.rep B);rw [MC.fresh_hit h e p];refine ⟨⟨⟨Int.le_refl _,by show m.rd<=_; omega⟩,⟨Int.le_refl _,by show m.wr<=_; omega⟩,h1⟩,fun j=>?_⟩;rw [show ((m.put i ⟨List.replicate B 0,true,1⟩).cut i).cnt j=_ from h2 j];by_cases q:j=i
  ·rw [iT q,iT ⟨rfl,q⟩,MC.cnt_at e]; dsimp only; omega
  ·rw [iF q,iF (fun z=>q z.2)]
 | none=>
  cases r:m.room B n with
  | none=>rw [MC.fresh_full h e r]; exact ⟨r0,fun _=>by rw [vS]⟩
  | some k=>
   obtain ⟨c1,c2,c3⟩:=Pm.room mi r;have hk:=c1.by' hy;obtain ⟨h1,h2⟩:=Pm.lay (img:=k.img) (rd:=k.rd) (wr:=k.wr) (fr:=k.fr) (u:=k.used) (row:=k.row) (i:=i) (x:=⟨List.replicate B 0,true,1⟩) (u':=k.used+1) (row':=k.row) (Byt.rep B);rw [MC.fresh_miss h e r];refine ⟨⟨c1.rd,c1.wr,fun _=>h1 ⟨hk.img,hk.fr⟩⟩,fun j=>?_⟩;rw [show (k.come i ⟨List.replicate B 0,true,1⟩).cnt j=_ from h2 j];by_cases q:j=i
   ·rw [iT q,iT ⟨rfl,q⟩,MC.cnt_no e]
   ·rw [iF q,iF (fun z=>q z.2)]; exact c2 j
theorem Pm.unpin (hy:m.By) (i:Nat):MC.To 0 0 m (m.unpin i).2/\∀ j,(m.unpin i).2.cnt j=if j=i then m.cnt i - 1 else m.cnt j:=by
 have same:(∀ j,m.cnt j=if j=i then m.cnt i - 1 else m.cnt j)↔m.cnt i=0:=⟨fun h=>by have:=h i; rw [iT rfl] at this; omega,fun h j=>by split; rename_i q; subst q; omega; rfl⟩
 cases e:m.fr i with
 | none=>rw [MC.unpin_no e]; exact ⟨MC.To.refl m,same.2 (MC.cnt_no e)⟩
 | some x=>
  have key:∀(p u:Nat) (row:List Nat),p=x.p - 1->MC.To 0 0 m (⟨m.img,m.rd,m.wr,upd m.fr i (some ⟨x.b,x.d,p⟩),u,row⟩:MC)/\∀ j,(⟨m.img,m.rd,m.wr,upd m.fr i (some ⟨x.b,x.d,p⟩),u,row⟩:MC).cnt j=if j=i then m.cnt i - 1 else m.cnt j:=fun p u row hp=>by
   obtain ⟨h1,h2⟩:=Pm.lay (img:=m.img) (rd:=m.rd) (wr:=m.wr) (fr:=m.fr) (u:=m.used) (row:=m.row) (i:=i) (x:=⟨x.b,x.d,p⟩) (u':=u) (row':=row) (hy.fr i x e);refine ⟨⟨⟨Int.le_refl _,by show m.rd<=_; omega⟩,⟨Int.le_refl _,by show m.wr<=_; omega⟩,h1⟩,fun j=>?_⟩;rw [h2 j,MC.cnt_at e];split
   ·exact hp
   ·rfl
  by_cases p:x.p=0
  ·rw [MC.unpin_out e p]; exact ⟨MC.To.refl m,same.2 (by rw [MC.cnt_at e]; exact p)⟩
  ·by_cases p1:x.p=1
   ·rw [MC.unpin_one e p1]; exact key _ _ _ (by omega)
   ·rw [MC.unpin_more e p p1]; exact key _ _ _ rfl
theorem Pm.write (i:Nat) {b:T0} (hb:Byt b):MC.To 0 0 m (m.write B i b).2/\∀ j,(m.write B i b).2.cnt j=m.cnt j:=by
 cases e:m.fr i with
 | none=>rw [MC.write_no e]; exact ⟨MC.To.refl m,fun _=>rfl⟩
 | some x=>
  by_cases p:x.p=0
  ·rw [MC.write_out e p]; exact ⟨MC.To.refl m,fun _=>rfl⟩
  ·by_cases q:b.length=B
   ·rw [MC.write_hit e p q];obtain ⟨h1,h2⟩:=Pm.lay (img:=m.img) (rd:=m.rd) (wr:=m.wr) (fr:=m.fr) (u:=m.used) (row:=m.row) (i:=i) (x:=⟨b,true,x.p⟩) (u':=m.used) (row':=m.row) hb;refine ⟨⟨⟨Int.le_refl _,by show m.rd<=_; omega⟩,⟨Int.le_refl _,by show m.wr<=_; omega⟩,h1⟩,fun j=>?_⟩;rw [show (m.put i ⟨b,true,x.p⟩).cnt j=_ from h2 j];split
    ·rename_i q; subst q; exact (MC.cnt_at e).symm
    ·rfl
   ·rw [MC.write_form e p q]; exact ⟨MC.To.refl m,fun _=>rfl⟩
end
abbrev Bt:=Int×Int×List Int
theorem Zpx:uH.bits=64:=rfl
theorem wrB {m:Nat} (h:m<18446744073709551616):uH.wrap (m:Int)=(m:Int):=by
 have:uH.wrap (m:Int)=((m % 18446744073709551616:Nat):Int):=by simp [IntKind.wrap,IntKind.bits,IntKind.signed]
 rw [this,Nat.mod_eq_of_lt h]
theorem ofB {x:Nat} (h:x<18446744073709551616):(ofInt uH.bits (x:Int)).toNat=x:=by
 rw [BitVec.ofInt_natCast,BitVec.toNat_ofNat,Zpx];exact Nat.mod_eq_of_lt h
theorem Zlf (v:BitVec uH.bits):v.toNat<18446744073709551616:=v.isLt
theorem anB {x y:Nat} (hx:x<18446744073709551616) (hy:y<18446744073709551616):(ofInt uH.bits (x:Int) &&& ofInt uH.bits (y:Int)).toNat=x &&& y:=by rw [BitVec.toNat_and,ofB hx,ofB hy]
theorem orB {x y:Nat} (hx:x<18446744073709551616) (hy:y<18446744073709551616):(ofInt uH.bits (x:Int) ||| ofInt uH.bits (y:Int)).toNat=x ||| y:=by rw [BitVec.toNat_or,ofB hx,ofB hy]
theorem xoB {x y:Nat} (hx:x<18446744073709551616) (hy:y<18446744073709551616):(ofInt uH.bits (x:Int) ^^^ ofInt uH.bits (y:Int)).toNat=x ^^^ y:=by rw [BitVec.toNat_xor,ofB hx,ofB hy]
theorem Zqj {b:Nat} (h:b<64):uH.wrap ((1:Int)*2 ^ (min b 64))=((2 ^ b:Nat):Int):=by
 have hb:min b 64=b:=by omega
 have hl:2 ^ b<18446744073709551616:=Nat.lt_of_lt_of_le (Nat.pow_lt_pow_right (by decide) h) (by decide);rw [hb,Int.one_mul,<- wrB hl];congr 1
theorem Zs1 {b:Nat} (h:b<64):2 ^ b<18446744073709551616:=Nat.lt_of_lt_of_le (Nat.pow_lt_pow_right (by decide) h) (by decide)
theorem Zqx {f:Nat} (h:f<64):∃ y:Nat,uH.wrap ((18446744073709551615:Int)*2 ^ (min f 64))=(y:Int)/\y<18446744073709551616/\∀ i,i<64->y.testBit i=decide (f<=i):=by
 have hf:min f 64=f:=by omega
 refine ⟨(18446744073709551615*2 ^ f) % 18446744073709551616,?_,Nat.mod_lt _ (by decide),fun i hi=>?_⟩
 ·rw [hf];have:(18446744073709551615:Int)*2 ^ f=((18446744073709551615*2 ^ f:Nat):Int):=by
   rw [Int.natCast_mul,Int.natCast_pow]; rfl
  rw [this];simp [IntKind.wrap,IntKind.bits,IntKind.signed]
 ·have e1:(18446744073709551616:Nat)=2 ^ 64:=by decide
  have e2:(18446744073709551615:Nat)=2 ^ 64 - 1:=by decide
  rw [e1,Nat.testBit_mod_two_pow,e2,Nat.testBit_mul_two_pow,Nat.testBit_two_pow_sub_one];simp [hi];omega
structure BR (N:Nat) (p:Bt) (h:Nat->Bool):Prop where
 n:p.1=(N:Int)
 N1:1<=N/\N<=65536
 cnt:p.2.1=(((List.range N).filter h).length:Int)
 len:p.2.2.length=(N+63) / 64
 bit:∀ w,w<p.2.2.length->∃ x:Nat,p.2.2.getD w default=(x:Int)/\x<18446744073709551616/\∀ b,b<64->x.testBit b=(decide (64*w+b<N) && h (64*w+b))
section
variable {N:Nat} {p:Bt} {h:Nat->Bool}
theorem Zhd {i:Nat} (hi:i<4294967296):w64 (Int.tdiv (i:Int) 64)=((i / 64:Nat):Int)/\Int.tmod (i:Int) 64=((i % 64:Nat):Int):=by
 constructor
 ·rw [show Int.tdiv (i:Int) 64=((i / 64:Nat):Int) from rfl,wI2]
 ·rfl
theorem BR.there (b:BR N p h) {i:Nat}:Q11.f p (i:Int)=some (if N<=i then 4 else 0):=by
 have hN:=b.N1;unfold Q11.f Q7.f;rw [bS,b.n,iN,iN];by_cases q:N<=i
 ·rw [iP,iT q]
 ·rw [iN,iF q]
theorem BR.has (b:BR N p h) {i:Nat} (hi:i<4294967296):Q6.f p (i:Int)=some (decide (i<N) && h i):=by
 have hN:=b.N1;unfold Q6.f;rw [b.there,bS];by_cases q:N<=i
 ·rw [iT q,iF (by decide)];have:¬ i<N:=by omega
  simp [this]
 ·obtain ⟨e1,e2⟩:=Zhd hi;have hl:=b.len;have hw:i / 64<p.2.2.length:=by omega
  obtain ⟨x,hx,hx2,hx3⟩:=b.bit _ hw;have hm:i % 64<64:=Nat.mod_lt _ (by decide);rw [iF q,iT (by decide),e1,e2,iO,iO,Zw,hx,tN,show min (i % 64) 64=i % 64 by omega];have e3:Int.fdiv (x:Int) (2 ^ (i % 64))=((x / 2 ^ (i % 64):Nat):Int):=by
   rw [Int.fdiv_eq_ediv_of_nonneg _ (Int.pow_nonneg (by decide)),Int.natCast_ediv,Int.natCast_pow]; rfl
  have hlt:x / 2 ^ (i % 64)<18446744073709551616:=Nat.lt_of_le_of_lt (Nat.div_le_self _ _) hx2;rw [e3,show (ofInt uH.bits ((x / 2 ^ (i % 64):Nat):Int) &&& ofInt uH.bits 1).toNat=x / 2 ^ (i % 64) &&& 1 from anB (y:=1) hlt (by decide),Nat.and_one_is_mod,wrB (by omega)];have h1:=hx3 _ hm;rw [show 64*(i / 64)+i % 64=i by omega] at h1;rw [<- h1,Nat.testBit_eq_decide_div_mod_eq];congr 1;exact decide_eq_decide.2 (by omega)
theorem Zlv {N i:Nat} (hi:i<N) (hn:h i=false):((List.range N).filter (upd h i true)).length=((List.range N).filter h).length+1:=by
 have key:∀ l:List Nat,l.Nodup->i∈l->(l.filter (upd h i true)).length=(l.filter h).length+1:=by
  intro l
  induction l with
  | nil=>intro _ hx; simp at hx
  | cons y l ih=>
   intro nd hx;rw [List.nodup_cons] at nd;by_cases q:y=i
   ·subst q;have hl:l.filter (upd h y true)=l.filter h:=List.filter_congr fun z hz=>Yh (fun e=>nd.1 (by rw [<- e]; exact hz));rw [List.filter_cons_of_pos (by rw [Z5]),List.filter_cons_of_neg (by simp [hn]),hl,length_cons]
   ·have hx':i∈l:=by
     rcases List.mem_cons.1 hx with e | e
     ·exact absurd e.symm q
     ·exact e
    have:=ih nd.2 hx';by_cases hy:h y=true
    ·rw [List.filter_cons_of_pos (by rw [Yh q]; exact hy),List.filter_cons_of_pos hy,length_cons,length_cons,this]
    ·rw [List.filter_cons_of_neg (by rw [Yh q]; exact hy),List.filter_cons_of_neg hy,this]
 exact key _ List.nodup_range (List.mem_range.2 hi)
theorem BR.word (b:BR N p h) {i:Nat} (hi:i<N) {v:Bool} {y:Nat} (hy:y<18446744073709551616) (ht:∀ x:Nat,p.2.2.getD (i / 64) default=(x:Int)->∀ j,j<64->y.testBit j=if j=i % 64 then v else x.testBit j) {cnt:Int} (hc:cnt=(((List.range N).filter (upd h i v)).length:Int)) :
  BR N (p.1,cnt,p.2.2.set (i / 64) (y:Int)) (upd h i v):=by
 have hl:=b.len;have hN:=b.N1;have hw:i / 64<p.2.2.length:=by omega
 refine ⟨b.n,hN,hc,by rw [length_set]; exact hl,fun w hw2=>?_⟩;rw [length_set] at hw2;dsimp only;rw [Xe hw];obtain ⟨x,hx,hx2,hx3⟩:=b.bit w hw2;by_cases q:i / 64=w
 ·subst q;refine ⟨y,iT rfl,hy,fun j hj=>?_⟩;rw [ht x hx j hj];by_cases qj:j=i % 64
  ·subst qj;rw [iT rfl,show 64*(i / 64)+i % 64=i by omega,Z5];simp [hi]
  ·rw [iF qj,hx3 j hj,Yh]
 ·refine ⟨x,by rw [iF q]; exact hx,hx2,fun j hj=>?_⟩;rw [hx3 j hj,Yh]
theorem Zmv (b:BR N p h):((List.range N).filter h).length<=N:=by
 have:=List.length_filter_le h (List.range N);rw [length_range] at this;exact this
theorem BR.set (b:BR N p h) {i:Nat} (hi:i<4294967296):∃ p',Q9.f p (i:Int)=some (if N<=i then 4 else if h i=true then 10 else 0,p')/\BR N p' (if N<=i then h else upd h i true):=by
 have hN:=b.N1;unfold Q9.f;rw [b.there,bS];by_cases q:N<=i
 ·rw [iT q,iT (by decide),iT q,iT q];exact ⟨p,rfl,b⟩
 ·rw [iF q,iF (by decide),b.has hi,bS,iF q,iF q];have hi':i<N:=by omega
  by_cases hh:h i=true
  ·rw [iT (by simp [hi',hh]),iT hh];refine ⟨p,rfl,?_⟩;rw [show upd h i true=h from funext fun j=>by
    by_cases qj:j=i
    ·subst qj; rw [Z5,hh]
    ·rw [Yh qj]]
   exact b
  ·obtain ⟨e1,e2⟩:=Zhd hi;have hl:=b.len;have hw:i / 64<p.2.2.length:=by omega
   obtain ⟨x,hx,hx2,hx3⟩:=b.bit _ hw;have hm:i % 64<64:=Nat.mod_lt _ (by decide);have hp:=Zs1 hm;have hcl:=Zmv b;have hcn:=b.cnt;rw [iF (by simp [hh]),iF hh,e1,e2,iO,iO,Zw,hx,tN,tN,Zqj hm,orB hx2 hp];have hor:x ||| 2 ^ (i % 64)<18446744073709551616:=by rw [<- orB hx2 hp]; exact Zlf _
   rw [wrB hor];have hf:h i=false:=by simpa using hh
   refine ⟨_,rfl,b.word hi' hor (fun x' hx' j hj=>?_) ?_⟩
   ·have:x'=x:=by rw [hx] at hx'; omega
    subst this;rw [Nat.testBit_or,Nat.testBit_two_pow];by_cases qj:j=i % 64
    ·subst qj; simp
    ·rw [iF qj];have:¬ i % 64=j:=fun e=>qj e.symm;simp [this]
   ·rw [Zlv hi' hf,hcn,wI2]; omega
theorem Zsf {x:Nat} (h0:x≠0) (h1:x<18446744073709551616):Go.Lib.ctz 64 x<64/\x.testBit (Go.Lib.ctz 64 x)=true/\∀ j,j<Go.Lib.ctz 64 x->x.testBit j=false:=by
 unfold Go.Lib.ctz;rw [iF h0];obtain ⟨m,hm,hc⟩:=Go.Lib.ctzFrom_spec 64 x (by omega) (by omega);generalize Go.Lib.ctzFrom 64 x=c at *;refine ⟨hc,?_,fun j hj=>?_⟩
 ·rw [hm,Nat.mul_comm,Nat.testBit_mul_two_pow];simp
 ·rw [hm,Nat.mul_comm,Nat.testBit_mul_two_pow];have:¬ c<=j:=by omega
  simp [this]
def Wm (N:Nat) (h:Nat->Bool) (turn:Bool) (i:Nat):Bool:=if turn=true then !(decide (i<N) && h i) else decide (i<N) && h i
theorem Zjt (b:BR N p h) (turn:Bool) {fr:Nat} (hfr:fr<4294967296):∀(q w k:Nat),p.2.2.length=w+q->fr / 64<=w->q<k->(∀ j,fr<=j->j<64*w->Wm N h turn j=false)->
  (∃ i:Nat,Q10.l0 k p (fr:Int) (if turn=true then 18446744073709551615 else 0) (w:Int)=some ((i:Int),decide (i<N))/\fr<=i/\i<64*p.2.2.length/\Wm N h turn i=true/\∀ j,fr<=j->j<i->Wm N h turn j=false)\/
   (Q10.l0 k p (fr:Int) (if turn=true then 18446744073709551615 else 0) (w:Int)=some (0,false)/\∀ j,fr<=j->j<64*p.2.2.length->Wm N h turn j=false)
 | _,_,0,_,_,hk,_=>by omega
 | 0,w,k+1,hq,hw,hk,hn=>by
  have hN:=b.N1;have hl:=b.len;right;rw [Q10.l0,iN];exact ⟨rfl,fun j h1 h2=>hn j h1 (by omega)⟩
 | q+1,w,k+1,hq,hw,hk,hn=>by
  have hN:=b.N1;have hl:=b.len;have hwl:w<p.2.2.length:=by omega
  obtain ⟨x,hx,hx2,hx3⟩:=b.bit w hwl;have hmx:(if (fr:Int)>0 then (fr:Int) else 0)=(fr:Int):=by split <;> omega
  obtain ⟨d1,d2⟩:=Zhd hfr
  -- the word,turned
  obtain ⟨y,hy,hy2,hy3⟩:∃ y:Nat,(uH.wrap (((ofInt uH.bits (x:Int) ^^^ (ofInt uH.bits (if turn=true then 18446744073709551615 else 0))).toNat:Int)))=(y:Int)/\y<18446744073709551616/\∀ j,j<64->y.testBit j=Wm N h turn (64*w+j):=by
   cases turn with
   | true=>
    have e:=xoB (y:=18446744073709551615) hx2 (by decide);refine ⟨x ^^^ 18446744073709551615,?_,?_,fun j hj=>?_⟩
    ·rw [iT rfl,show (18446744073709551615:Int)=((18446744073709551615:Nat):Int) from rfl,e,wrB (by rw [<- e]; exact Zlf _)]
    ·rw [<- e]; exact Zlf _
    ·rw [Nat.testBit_xor,hx3 j hj,show (18446744073709551615:Nat)=2 ^ 64 - 1 by decide,Nat.testBit_two_pow_sub_one];unfold Wm;simp [hj]
   | false=>
    have e:=xoB (y:=0) hx2 (by decide);refine ⟨x,?_,hx2,fun j hj=>?_⟩
    ·rw [iF (by decide),show (0:Int)=((0:Nat):Int) from rfl,e,Nat.xor_zero,wrB hx2]
    ·rw [hx3 j hj]; rfl
  rw [Q10.l0,iP,iO,hmx,d1,d2,Zw,hx,hy]
  -- what is looked at,at this word
  have step:∀ z:Nat,z<18446744073709551616->(∀ j,j<64->z.testBit j=(decide (fr<=64*w+j) && Wm N h turn (64*w+j)))->
    (∃ i:Nat,(if (decide ((z:Int)=0))=true then Q10.l0 k p (fr:Int) (if turn=true then 18446744073709551615 else 0) (w64 ((w:Int)+1)) else (if 0<=(z:Int)/\(z:Int)<18446744073709551616 then some ((w64 ((w64 ((w:Int)*64))+(tzI (z:Int)))),(decide ((w64 ((w64 ((w:Int)*64))+(tzI (z:Int))))<p.1))) else none))=some ((i:Int),decide (i<N))/\fr<=i/\i<64*p.2.2.length/\Wm N h turn i=true/\∀ j,fr<=j->j<i->Wm N h turn j=false)\/
    ((if (decide ((z:Int)=0))=true then Q10.l0 k p (fr:Int) (if turn=true then 18446744073709551615 else 0) (w64 ((w:Int)+1)) else (if 0<=(z:Int)/\(z:Int)<18446744073709551616 then some ((w64 ((w64 ((w:Int)*64))+(tzI (z:Int)))),(decide ((w64 ((w64 ((w:Int)*64))+(tzI (z:Int))))<p.1))) else none))=some (0,false)/\∀ j,fr<=j->j<64*p.2.2.length->Wm N h turn j=false):=by
   intro z hz hzt;by_cases z0:z=0
   ·subst z0;rw [iT (by decide),wS2];refine Zjt b turn hfr q (w+1) k (by omega) (by omega) (by omega) fun j h1 h2=>?_;by_cases hj:j<64*w
    ·exact hn j h1 hj
    ·have:=hzt (j - 64*w) (by omega);rw [Nat.zero_testBit,show 64*w+(j - 64*w)=j by omega] at this;have h3:decide (fr<=j)=true:=dT h1;rw [h3,Bool.true_and] at this;exact this.symm
   ·obtain ⟨c1,c2,c3⟩:=Zsf z0 hz;left;have tz:tzI (z:Int)=((Go.Lib.ctz 64 z:Nat):Int):=by unfold tzI; rw [tN]
    generalize Go.Lib.ctz 64 z=cz at *;have hb:=hzt cz c1;rw [c2] at hb;have hb2:=(Bool.and_eq_true _ _).mp hb.symm;have hfr2:=of_decide_eq_true hb2.1;refine ⟨64*w+cz,?_,hfr2,by omega,hb2.2,fun j h1 h2=>?_⟩
    ·rw [iW,iO,tz,wI2 (x:=(w:Int)*64),wI2,b.n];congr 2
     ·omega
     ·exact decide_eq_decide.2 (by omega)
    ·by_cases hj:j<64*w
     ·exact hn j h1 hj
     ·have:=hzt (j - 64*w) (by omega);rw [c3 (j - 64*w) (by omega),show 64*w+(j - 64*w)=j by omega] at this;have h3:decide (fr<=j)=true:=dT h1;rw [h3,Bool.true_and] at this;exact this.symm
  by_cases qw:w=fr / 64
  ·rw [iP,iO,tN];obtain ⟨s,hs,hs2,hs3⟩:=Zqx (f:=fr % 64) (Nat.mod_lt _ (by decide));have ea:=anB hy2 hs2;have hal:y &&& s<18446744073709551616:=by rw [<- ea]; exact Zlf _
   rw [hs,ea,wrB hal];refine step _ hal fun j hj=>?_;rw [Nat.testBit_and,hy3 j hj,hs3 j hj,Bool.and_comm];congr 1;exact decide_eq_decide.2 (by omega)
  ·rw [iN];refine step y hy2 fun j hj=>?_;rw [hy3 j hj];have:decide (fr<=64*w+j)=true:=dT;rw [this,Bool.true_and]
theorem Zpp (b:BR N p h) (turn:Bool) {fr:Nat} (hfr:fr<4294967296) {k:Nat} (hk:2000<k) :
  (∃ i:Nat,Q10.f k p (fr:Int) (if turn=true then 18446744073709551615 else 0)=some ((i:Int),decide (i<N))/\fr<=i/\i<64*p.2.2.length/\Wm N h turn i=true/\∀ j,fr<=j->j<i->Wm N h turn j=false)\/
   (Q10.f k p (fr:Int) (if turn=true then 18446744073709551615 else 0)=some (0,false)/\∀ j,fr<=j->j<64*p.2.2.length->Wm N h turn j=false):=by
 have hN:=b.N1;have hl:=b.len;have hmx:(if (fr:Int)>0 then (fr:Int) else 0)=(fr:Int):=by split <;> omega
 unfold Q10.f;rw [hmx,(Zhd hfr).1];by_cases q:fr / 64<=p.2.2.length
 ·exact Zjt b turn hfr (p.2.2.length - fr / 64) (fr / 64) k (by omega) (Nat.le_refl _) (by omega) fun j h1 h2=>by omega
 ·obtain ⟨k,rfl⟩:∃ k',k=k'+1:=⟨k - 1,by omega⟩;right;rw [Q10.l0,iN];exact ⟨rfl,fun j h1 h2=>by omega⟩
theorem BR.free (b:BR N p h) {k:Nat} (hk:2000<k) (hfree:∃ i,i<N/\h i=false):∃ i:Nat,Q5.f k p 0=some ((i:Int),true)/\i<N/\h i=false/\∀ j,j<i->h j=true:=by
 have hN:=b.N1;have hl:=b.len;obtain ⟨i0,h1,h2⟩:=hfree;unfold Q5.f Q7.f Q12.f;have hs:=Zpp b true (fr:=0) (by decide) hk;rw [iT rfl] at hs;have hi0:Wm N h true i0=true:=by unfold Wm; simp [h1,h2]
 rcases hs with ⟨i,e,_,g2,g3,g4⟩ | ⟨e,g⟩
 ·have hiN:i<N:=by
   apply Nat.lt_of_not_le;intro hge;have:=g4 i0 (Nat.zero_le _) (by omega);rw [hi0] at this; cases this
  rw [bS,b.n,iN,show Q10.f k p 0 18446744073709551615=_ from e,bS,iF (by simp [hiN])];refine ⟨i,rfl,hiN,?_,fun j hj=>?_⟩
  ·unfold Wm at g3;simpa [hiN] using g3
  ·have:=g4 j (Nat.zero_le _) hj;have hjN:j<N:=by omega
   unfold Wm at this;simpa [hjN] using this
 ·have:=g i0 (Nat.zero_le _) (by omega);rw [hi0] at this; cases this
end
namespace MC
def cont (B:Nat) (m:MC) (i:Nat):List Int:=match m.fr i with
 | none=>blk m.img B i
 | some x=>x.b
theorem cont_no {B:Nat} {m:MC} {i:Nat} (e:m.fr i=none):m.cont B i=blk m.img B i:=by unfold cont; rw [e]
theorem cont_at {B:Nat} {m:MC} {i:Nat} {x:Fm} (e:m.fr i=some x):m.cont B i=x.b:=by unfold cont; rw [e]
def Cl (B:Nat) (m:MC):Prop:=∀ i x,m.fr i=some x->x.d=false->x.b=blk m.img B i
end MC
section
variable {N B n t:Nat} {m k:MC} {i:Nat} {x:Fm}
theorem Cl.evict (mi:MI N B n t m) (cl:m.Cl B) (q:Nat):(m.evict B q).Cl B/\(∀ j,j<N->(m.evict B q).cont B j=m.cont B j)/\((m.evict B q).fr q=none)/\∀ j,m.fr j=none->(m.evict B q).fr j=none:=by
 cases e:m.fr q with
 | none=>
  have:m.evict B q=m:=by unfold MC.evict; rw [e]
  rw [this];exact ⟨cl,fun _ _=>rfl,e,fun _ h=>h⟩
 | some x=>
  obtain ⟨hq,hb,_⟩:=mi.len q x e;rw [MC.evict_eq e];refine ⟨fun j y hj hd=>?_,fun j hj=>?_,Z5 _ _ _,fun j hj=>?_⟩
  ·dsimp only at hj ⊢;by_cases qj:j=q
   ·subst qj; rw [Z5] at hj; cases hj
   ·rw [Yh qj] at hj;have h1:=cl j y hj hd;split
    ·rw [Zbe mi.dim hq hb j (mi.len j y hj).1,iF qj]; exact h1
    ·exact h1
  ·by_cases qj:j=q
   ·subst qj;rw [MC.cont_at e,MC.cont_no (Z5 _ _ _)];dsimp only;split
    ·rw [Zbe mi.dim hq hb j hq,iT rfl]
    ·rename_i hd;exact (cl j x e (by simpa using hd)).symm
   ·cases ej:m.fr j with
    | none=>
     rw [MC.cont_no ej,MC.cont_no (by show upd m.fr q none j=none; rw [Yh qj]; exact ej)];dsimp only;split
     ·rw [Zbe mi.dim hq hb j hj,iF qj]
     ·rfl
    | some y=>rw [MC.cont_at ej,MC.cont_at (show upd m.fr q none j=some y by rw [Yh qj]; exact ej)]
  ·show upd m.fr q none j=none;by_cases qj:j=q
   ·subst qj; exact Z5 _ _ _
   ·rw [Yh qj]; exact hj
theorem Cl.room (mi:MI N B n t m) (cl:m.Cl B) (h:m.room B n=some k):k.Cl B/\(∀ j,j<N->k.cont B j=m.cont B j)/\∀ j,m.fr j=none->k.fr j=none:=by
 unfold MC.room at h;split at h
 ·injection h with h; subst h; exact ⟨cl,fun _ _=>rfl,fun _ h=>h⟩
 ·split at h
  ·cases h
  ·rename_i q _;injection h with h; subst h;obtain ⟨h1,h2,_,h3⟩:=Cl.evict mi cl q;exact ⟨h1,h2,h3⟩
theorem Cl.lay {img:T0} {rd wr:Int} {fr:Nat->Option Fm} {u u':Nat} {row row':List Nat} (cl:(⟨img,rd,wr,fr,u,row⟩:MC).Cl B) {x:Fm} (hx:x.d=false->x.b=blk img B i) {rd':Int}:(⟨img,rd',wr,upd fr i (some x),u',row'⟩:MC).Cl B/\∀ j,(⟨img,rd',wr,upd fr i (some x),u',row'⟩:MC).cont B j=if j=i then x.b else (⟨img,rd,wr,fr,u,row⟩:MC).cont B j:=by
 refine ⟨fun j y hj hd=>?_,fun j=>?_⟩
 ·have hj':upd fr i (some x) j=some y:=hj;by_cases q:j=i
  ·subst q; rw [Z5] at hj'; injection hj' with hj'; subst hj'; exact hx hd
  ·rw [Yh q] at hj'; exact cl j y hj' hd
 ·by_cases q:j=i
  ·subst q; rw [iT rfl]; exact MC.cont_at (Z5 _ _ _)
  ·rw [iF q]; unfold MC.cont; dsimp only; rw [Yh q]
theorem Cl.pin (mi:MI N B n t m) (cl:m.Cl B) (i:Nat):(m.pin N B n i).2.Cl B/\∀ j,j<N->(m.pin N B n i).2.cont B j=m.cont B j:=by
 by_cases h:N<=i
 ·rw [MC.pin_out h]; exact ⟨cl,fun _ _=>rfl⟩
 cases e:m.fr i with
 | some x=>
  rw [MC.pin_hit h e];obtain ⟨h1,h2⟩:=Cl.lay (i:=i) (x:=⟨x.b,x.d,x.p+1⟩) (u':=m.used) (row':=m.row.erase i) (rd':=m.rd) (cl:(⟨m.img,m.rd,m.wr,m.fr,m.used,m.row⟩:MC).Cl B) (fun hd=>cl i x e hd);refine ⟨h1,fun j hj=>?_⟩;rw [show (((m.put i ⟨x.b,x.d,x.p+1⟩).cut i).cont B j)=_ from h2 j];split
  ·rename_i q; subst q; exact (MC.cont_at e).symm
  ·rfl
 | none=>
  cases r:m.room B n with
  | none=>rw [MC.pin_full h e r]; exact ⟨cl,fun _ _=>rfl⟩
  | some k=>
   obtain ⟨c1,c2,c3⟩:=Cl.room mi cl r;rw [MC.pin_miss h e r];obtain ⟨h1,h2⟩:=Cl.lay (i:=i) (x:=⟨blk k.img B i,false,1⟩) (u':=k.used+1) (row':=k.row) (rd':=k.rd+1) (c1:(⟨k.img,k.rd,k.wr,k.fr,k.used,k.row⟩:MC).Cl B) (fun _=>rfl);refine ⟨h1,fun j hj=>?_⟩;rw [show ((⟨k.img,k.rd+1,k.wr,k.fr,k.used,k.row⟩:MC).come i ⟨blk k.img B i,false,1⟩).cont B j=_ from h2 j];split
   ·rename_i q; subst q; rw [<- c2 j hj]; exact (MC.cont_no (c3 j e)).symm
   ·exact c2 j hj
theorem Cl.fresh (mi:MI N B n t m) (cl:m.Cl B) (i:Nat):(m.fresh N B n i).2.Cl B/\((m.fresh N B n i).1=0->i<N)/\∀ j,j<N->(m.fresh N B n i).2.cont B j=if (m.fresh N B n i).1=0/\j=i then List.replicate B 0 else m.cont B j:=by
 by_cases h:N<=i
 ·rw [MC.fresh_out h]; exact ⟨cl,fun e=>by simp at e,fun _ _=>by rw [vS]⟩
 cases e:m.fr i with
 | some x=>
  by_cases p:0<x.p
  ·rw [MC.fresh_pin h e p]; exact ⟨cl,fun e=>by simp at e,fun _ _=>by rw [vS]⟩
  ·rw [MC.fresh_hit h e p];obtain ⟨h1,h2⟩:=Cl.lay (i:=i) (x:=⟨List.replicate B 0,true,1⟩) (u':=m.used) (row':=m.row.erase i) (rd':=m.rd) (cl:(⟨m.img,m.rd,m.wr,m.fr,m.used,m.row⟩:MC).Cl B) (fun hd=>by cases hd);refine ⟨h1,fun _=>by omega,fun j hj=>?_⟩;rw [show (((m.put i ⟨List.replicate B 0,true,1⟩).cut i).cont B j)=_ from h2 j];by_cases q:j=i
   ·rw [iT q,iT ⟨rfl,q⟩]
   ·rw [iF q,iF (fun z=>q z.2)]
 | none=>
  cases r:m.room B n with
  | none=>rw [MC.fresh_full h e r]; exact ⟨cl,fun e=>by simp at e,fun _ _=>by rw [vS]⟩
  | some k=>
   obtain ⟨c1,c2,c3⟩:=Cl.room mi cl r;rw [MC.fresh_miss h e r];obtain ⟨h1,h2⟩:=Cl.lay (i:=i) (x:=⟨List.replicate B 0,true,1⟩) (u':=k.used+1) (row':=k.row) (rd':=k.rd) (c1:(⟨k.img,k.rd,k.wr,k.fr,k.used,k.row⟩:MC).Cl B) (fun hd=>by cases hd);refine ⟨h1,fun _=>by omega,fun j hj=>?_⟩;rw [show (k.come i ⟨List.replicate B 0,true,1⟩).cont B j=_ from h2 j];by_cases q:j=i
   ·rw [iT q,iT ⟨rfl,q⟩]
   ·rw [iF q,iF (fun z=>q z.2)]; exact c2 j hj
theorem Cl.unpin (cl:m.Cl B) (i:Nat):(m.unpin i).2.Cl B/\∀ j,(m.unpin i).2.cont B j=m.cont B j:=by
 cases e:m.fr i with
 | none=>rw [MC.unpin_no e]; exact ⟨cl,fun _=>rfl⟩
 | some x=>
  have key:∀(p u:Nat) (row:List Nat),(⟨m.img,m.rd,m.wr,upd m.fr i (some ⟨x.b,x.d,p⟩),u,row⟩:MC).Cl B/\∀ j,(⟨m.img,m.rd,m.wr,upd m.fr i (some ⟨x.b,x.d,p⟩),u,row⟩:MC).cont B j=m.cont B j:=fun p u row=>by
   obtain ⟨h1,h2⟩:=Cl.lay (i:=i) (x:=⟨x.b,x.d,p⟩) (u':=u) (row':=row) (rd':=m.rd) (cl:(⟨m.img,m.rd,m.wr,m.fr,m.used,m.row⟩:MC).Cl B) (fun hd=>cl i x e hd);refine ⟨h1,fun j=>?_⟩;rw [h2 j];split
   ·rename_i q; subst q; exact (MC.cont_at e).symm
   ·rfl
  by_cases p:x.p=0
  ·rw [MC.unpin_out e p]; exact ⟨cl,fun _=>rfl⟩
  ·by_cases p1:x.p=1
   ·rw [MC.unpin_one e p1]; exact key _ _ _
   ·rw [MC.unpin_more e p p1]; exact key _ _ _
theorem Cl.write (mi:MI N B n t m) (cl:m.Cl B) (i:Nat) (b:T0):(m.write B i b).2.Cl B/\((m.write B i b).1=0->i<N)/\∀ j,(m.write B i b).2.cont B j=if (m.write B i b).1=0/\j=i then b else m.cont B j:=by
 cases e:m.fr i with
 | none=>rw [MC.write_no e]; exact ⟨cl,fun e=>by simp at e,fun _=>by rw [vS]⟩
 | some x=>
  by_cases p:x.p=0
  ·rw [MC.write_out e p]; exact ⟨cl,fun e=>by simp at e,fun _=>by rw [vS]⟩
  ·by_cases q:b.length=B
   ·rw [MC.write_hit e p q];obtain ⟨h1,h2⟩:=Cl.lay (i:=i) (x:=⟨b,true,x.p⟩) (u':=m.used) (row':=m.row) (rd':=m.rd) (cl:(⟨m.img,m.rd,m.wr,m.fr,m.used,m.row⟩:MC).Cl B) (fun hd=>by cases hd);refine ⟨h1,fun _=>(mi.len i x e).1,fun j=>?_⟩;rw [show (m.put i ⟨b,true,x.p⟩).cont B j=_ from h2 j];by_cases q:j=i
    ·rw [iT q,iT ⟨rfl,q⟩]
    ·rw [iF q,iF (fun z=>q z.2)]
   ·rw [MC.write_form e p q]; exact ⟨cl,fun e=>by simp at e,fun _=>by rw [vS]⟩
end
abbrev Shf:=Cfg×Ca×Bt×Int
section
variable {c:Cfg} {N B n t q:Nat} {s:Shf} {L:List Nat}
theorem Zc5:∀ {l:T0},Byt l->toB (toS l)=l
 | [],_=>rfl
 | x :: l,h=>by
  have hx:=h x (by simp);have ih:=Zc5 (l:=l) fun y hy=>h y (List.mem_cons_of_mem _ hy);obtain ⟨v,rfl⟩:=Int.eq_ofNat_of_zero_le hx.1;unfold toS toB at *;rw [List.map_cons,List.map_cons,ih];congr 1;rw [tN,UInt8.toNat_ofNat'];rw [Nat.mod_eq_of_lt (by omega)]
structure EncN (nd:Nd):Prop where
 l1:nd.2.1.length<=35184372087808
 l2:nd.2.2.1.length<=35184372087808
 l3:nd.2.2.2.1.length<=35184372087808
 l4:nd.2.2.2.2.length<=35184372087808
 kd:∀ x∈nd.2.1,0<=x/\x<4294967296
theorem EncN.of {nd:Nd} (h:SmallN nd) (kd:∀ x∈nd.2.1,0<=x/\x<4294967296):EncN nd:=⟨by have:=h.kids; omega,by have:=h.pivs; omega,by have:=h.buf; omega,by have:=h.prs; omega,kd⟩
theorem EncN.ev {nd:Nd} (h:EncN nd) (c:Cfg):Ev (fun k=>Q36.f k c nd) (Bq c nd):=Zr2 h.l1 h.l2 h.l3 h.l4 h.kd
end
theorem Zrl {N B:Nat} (h:5<=N/\N<=65536/\1<=B/\B<=65536):Q55.f (N:Int) (B:Int)=some (some ((B:Int),List.replicate (N*B) 0,(0,0)),0):=by
 have hb:N*B<=65536*65536:=Nat.mul_le_mul h.2.1 h.2.2.2;have e:w64 ((N:Int)*(B:Int))=((N*B:Nat):Int):=by rw [show (N:Int)*(B:Int)=((N*B:Nat):Int) by simp,wI2]
 unfold Q55.f Q56.f;rw [iP,iP,iP,bS,iW,e,iO,tN]
structure Geo (c:Cfg) (N B n:Nat):Prop where
 ok:okB c=true
 z:Siz N B n
 n8:8<=n
 N5:5<=N/\N<=65536
 hB:B<=65536
 eN:c.1=(N:Int)
 eB:c.2.1=(B:Int)
 en:c.2.2.1=(n:Int)
structure ShK (c:Cfg) (N B n t:Nat) (s:Shf) (L:List Nat) (q:Nat) (K:Nat->List Int) (h:Nat->Bool):Prop where
 cfg:s.1=c
 ca:CaI N B n t [] s.2.1 L
 by':(Z6 s.2.1 L).By
 cl:(Z6 s.2.1 L).Cl B
 ct:∀ j,j<N->(Z6 s.2.1 L).cont B j=K j
 bits:BR N s.2.2.1 h
 h0:h 0=true
 kp:s.2.2.2=(q:Int)
 qN:q<N
 pin:∀ j,(Z6 s.2.1 L).cnt j=if j=q/\q≠0 then 1 else 0
 rd:0<=s.2.1.1.2.2.1/\s.2.1.1.2.2.1<=t
 wr:0<=s.2.1.1.2.2.2/\s.2.1.1.2.2.2<=64*t
section
variable {c:Cfg} {N B n t q:Nat} {s:Shf} {L:List Nat} {K:Nat->List Int} {h:Nat->Bool}
theorem ShK.few (H:ShK c N B n t s L q K h) (ht:t<=900000):Few s.2.1:=⟨⟨H.rd.1,by have:=H.rd.2; omega⟩,⟨H.wr.1,by have:=H.wr.2; omega⟩⟩
theorem ShK.up (H:ShK c N B n t s L q K h) {t':Nat} (ht:t<=t'):ShK c N B n t' s L q K h:=⟨H.cfg,H.ca.mono ht,H.by',H.cl,H.ct,H.bits,H.h0,H.kp,H.qN,H.pin,⟨H.rd.1,by have:=H.rd.2; omega⟩,⟨H.wr.1,by have:=H.wr.2; omega⟩⟩
theorem Zng (g:Geo c N B n) (ca:CaI N B n t [] s.2.1 L) (hp:∀ j,(Z6 s.2.1 L).cnt j=if j=q/\q≠0 then 1 else 0):∃ k,(Z6 s.2.1 L).room B n=some k:=by
 unfold MC.room;by_cases hu:(Z6 s.2.1 L).used<n
 ·exact ⟨_,iT hu⟩
 ·rw [iF hu];have hlen:2<=s.2.1.2.2.1.length:=by
   have:=g.n8;have e:(Z6 s.2.1 L).used=s.2.1.2.2.1.length:=rfl;omega
  have hne:(Z6 s.2.1 L).row≠[]:=by
   have free:∀ i f:Nat,((i:Int),(f:Int))∈s.2.1.2.2.1->i≠q->(Z6 s.2.1 L).row≠[]:=fun i f hm hi e=>by
    have h1:=V7 ca hm;have h2:=hp i;rw [iF (fun z=>hi z.1)] at h2;have h3:(Z6 s.2.1 L).fr i=some (fm (s.2.1.2.1.getD f default)):=h1;rw [MC.cnt_at h3] at h2;have:=(ca.mi.rfr i).2 ⟨_,h3,h2⟩;rw [e] at this; cases this
   match hm:s.2.1.2.2.1,hlen with
   | a :: b :: r,_=>
    obtain ⟨i,f,ea,_⟩:=ca.mok a (by rw [hm]; simp);obtain ⟨j,f',eb,_⟩:=ca.mok b (by rw [hm]; simp);have hnd:=ca.mnd;rw [hm,List.map_cons,List.map_cons,List.nodup_cons,List.mem_cons,ea,eb] at hnd;by_cases q1:i=q
    ·refine free j f' (by rw [hm,eb]; simp) fun q2=>hnd.1 (.inl ?_);rw [q1,q2]
    ·exact free i f (by rw [hm,ea]; simp) q1
  cases e:(Z6 s.2.1 L).row.getLast? with
  | none=>exact absurd (List.getLast?_eq_none_iff.1 e) hne
  | some x=>exact ⟨_,rfl⟩
theorem MC.pin_ok {m:MC} {i:Nat} (hr:∃ k,m.room B n=some k) (hi:i<N):(m.pin N B n i).1=0:=by
 obtain ⟨k,hk⟩:=hr;unfold MC.pin;rw [iQ];cases m.fr i with
 | some x=>rfl
 | none=>rw [hk]
theorem MC.fresh_ok {m:MC} {i:Nat} (hr:∃ k,m.room B n=some k) (hi:i<N) (h0:m.cnt i=0):(m.fresh N B n i).1=0:=by
 obtain ⟨k,hk⟩:=hr;unfold MC.fresh;rw [iQ];cases e:m.fr i with
 | some x=>rw [MC.cnt_at e] at h0; dsimp only; rw [iQ]
 | none=>dsimp only; rw [hk]
theorem MC.write_ok {m:MC} {i:Nat} {b:T0} (h1:1<=m.cnt i) (hb:b.length=B):(m.write B i b).1=0:=by
 cases e:m.fr i with
 | none=>rw [MC.cnt_no e] at h1; omega
 | some x=>rw [MC.cnt_at e] at h1; rw [MC.write_hit e (by omega) hb]
theorem MC.read_ok {m:MC} {i:Nat} (h1:1<=m.cnt i):m.read i=(m.cont B i,0):=by
 cases e:m.fr i with
 | none=>rw [MC.cnt_no e] at h1; omega
 | some x=>rw [MC.cnt_at e] at h1; rw [MC.read_hit e (by omega),MC.cont_at e]
theorem ShK.there (g:Geo c N B n) (H:ShK c N B n t s L q K h) {i:Nat} (hi:i<4294967296):Q87.f s (i:Int)=some (if 1<=i/\i<N then 0 else 4):=by
 have e:=g.eN;have hN:=g.N5;unfold Q87.f;rw [H.cfg,e];by_cases q0:i=0
 ·rw [iP,iQ]
 ·have w1:w64 (i:Int)=(i:Int):=wI2;rw [iN,w1];by_cases q1:N<=i
  ·rw [iP,iQ]
  ·rw [iN,iO]
theorem ShK.put (H:ShK c N B n t s L q K h) {c':Ca} {L':List Nat} {t' a b:Nat} {K':Nat->List Int} (hca:CaI N B n t' [] c' L') (hto:MC.To a b (Z6 s.2.1 L) (Z6 c' L')) (hcl:(Z6 c' L').Cl B) (hct:∀ j,j<N->(Z6 c' L').cont B j=K' j) (hpin:∀ j,(Z6 c' L').cnt j=if j=q/\q≠0 then 1 else 0) (ht:t+a<=t') (hb:b<=64*(t' - t)):ShK c N B n t' (s.1,c',s.2.2.1,s.2.2.2) L' q K' h:=
 ⟨H.cfg,hca,hto.by' H.by',hcl,hct,H.bits,H.h0,H.kp,H.qN,hpin,by
  have r1:=hto.rd;have r2:=H.rd;have e1:(Z6 s.2.1 L).rd=s.2.1.1.2.2.1:=rfl;have e2:(Z6 c' L').rd=c'.1.2.2.1:=rfl;show 0<=c'.1.2.2.1/\c'.1.2.2.1<=t';omega,by
  have r1:=hto.wr;have r2:=H.wr;have e1:(Z6 s.2.1 L).wr=s.2.1.1.2.2.2:=rfl;have e2:(Z6 c' L').wr=c'.1.2.2.2:=rfl;show 0<=c'.1.2.2.2/\c'.1.2.2.2<=64*t';omega⟩
def Zer (c:Cfg) (b:T0):Nd×Int:=Zex c (toS b)
theorem Zs8 (g:Geo c N B n) (H:ShK c N B n t s L q K h) (ht:t<=800000) {i:Nat} (hi:i<4294967296):∃(s':Shf) (L':List Nat),Ev (fun k=>Q83.f k s (i:Int)) (if 1<=i/\i<N then ((Zer c (K i)).1,(Zer c (K i)).2,s') else (G5,4,s'))/\ShK c N B n (t+1) s' L' q K h/\MC.To 1 1 (Z6 s.2.1 L) (Z6 s'.2.1 L')/\(i=q->MC.To 0 0 (Z6 s.2.1 L) (Z6 s'.2.1 L')):=by
 have ht':=H.there g hi;by_cases q1:1<=i/\i<N
 ·rw [iT q1] at ht';have hr:=Zng g H.ca H.pin;obtain ⟨c1,L1,e1,hc1,ha1⟩:=Zts g.z H.ca (H.few (by omega)) (by omega) i hi;obtain ⟨f1,f0,f2⟩:=Pm.pin H.ca.mi H.by' i;obtain ⟨cl1,ct1⟩:=Cl.pin H.ca.mi H.cl i;have r0:=MC.pin_ok (i:=i) hr q1.2;rw [<- ha1] at f1 f0 f2 cl1 ct1;have y1:=f1.by' H.by';have p1:1<=(Z6 c1 L1).cnt i:=by rw [f2,iT ⟨r0,rfl⟩]; omega
  obtain ⟨c3,L3,e3,hc3,ha3⟩:=Znt g.z hc1 (by omega) i;obtain ⟨u1,u2⟩:=Pm.unpin y1 i;obtain ⟨cl3,ct3⟩:=Cl.unpin cl1 i;rw [<- ha3] at u1 u2 cl3 ct3;have er:=Zs0 g.z hc1 i;rw [MC.read_ok (B:=B) p1,ct1 i q1.2,H.ct i q1.2] at er;have hbK:Byt (K i)/\(K i).length=B:=by
   rw [<- H.ct i q1.2,<- ct1 i q1.2];cases ef:(Z6 c1 L1).fr i with
   | none=>rw [MC.cnt_no ef] at p1; omega
   | some x=>rw [MC.cont_at ef]; exact ⟨y1.fr i x ef,(hc1.mi.len i x ef).2.1⟩
  obtain ⟨k0,hk⟩:=Ztz (c:=c) (b:=toS (K i)) (by have:=hbK.2; have:=g.hB; rw [<- Z3,Zc5 hbK.1]; omega);refine ⟨(s.1,c3,s.2.2.1,s.2.2.2),L3,⟨k0,fun k kk=>?_⟩,H.put (a:=1) (b:=1) hc3 ((f1.trans u1).le (by omega) (by omega)) cl3 (fun j hj=>by rw [ct3,ct1 j hj,H.ct j hj]) (fun j=>?_) (by omega) (by omega),(f1.trans u1).le (by omega) (by omega),fun e=>?_⟩
  ·show Q83.f k s (i:Int)=_;have hcfg:=H.cfg;unfold Q83.f;rw [ht',bS,vS,e1,bS,iF (by simpa using r0)];dsimp only;rw [er,bS,e3,bS,vS,hcfg,iT q1];have:=hk k kk;rw [Zc5 hbK.1] at this;rw [show Q35.f k c (K i)=_ from this,bS];rfl
  ·rw [u2];by_cases e:j=i
   ·subst e;rw [iT rfl,f2,iT ⟨r0,rfl⟩,Nat.add_sub_cancel,H.pin]
   ·rw [iF e,f2,iF (fun z=>e z.2),H.pin]
  ·subst e;have:1<=(Z6 s.2.1 L).cnt i:=by rw [H.pin,iT ⟨rfl,by omega⟩]; omega
   exact ((f0 this).trans u1).le (by omega) (by omega)
 ·rw [iF q1] at ht';refine ⟨s,L,⟨0,fun k _=>?_⟩,H.up (by omega),(MC.To.refl _).le (by omega) (by omega),fun _=>MC.To.refl _⟩;show Q83.f k s (i:Int)=_;unfold Q83.f;rw [ht',bS,iU,iF q1];rfl
theorem Zty (g:Geo c N B n) (H:ShK c N B n t s L q K h) (ht:t<=800000) {i:Nat} (hi:1<=i/\i<N) {b:T0} (hb:Byt b) (hl:b.length=B):∃ s' L',Q85.f s (i:Int) b=some (0,s')/\ShK c N B n (t+1) s' L' q (upd K i b) h/\MC.To 0 1 (Z6 s.2.1 L) (Z6 s'.2.1 L'):=by
 have hr:=Zng g H.ca H.pin;have hN:=g.N5;unfold Q85.f;rw [H.kp];by_cases qi:i=q
 ·obtain ⟨c',L',e,hc,ha⟩:=Zm9 g.z H.ca i b;obtain ⟨t1,t2⟩:=Pm.write (m:=Z6 s.2.1 L) (B:=B) i hb;obtain ⟨cl1,_,ct1⟩:=Cl.write H.ca.mi H.cl i b;have w0:((Z6 s.2.1 L).write B i b).1=0:=MC.write_ok (by rw [H.pin,iT ⟨qi,by omega⟩]; omega) hl;rw [<- ha] at t1 t2 cl1 ct1;rw [iP,e,bS,w0];refine ⟨_,L',rfl,?_,t1.le (by omega) (by omega)⟩;have:=H.put (a:=0) (b:=0) (t':=t+1) (K':=upd K i b) (hc.mono (by omega)) t1 cl1 (fun j hj=>by
   rw [ct1 j];by_cases e:j=i
   ·subst e; rw [iT ⟨w0,rfl⟩,Z5]
   ·rw [iF (fun z=>e z.2),Yh e,H.ct j hj]) (fun j=>by rw [t2,H.pin]) (by omega) (by omega)
  rw [H.kp] at this;exact this
 ·obtain ⟨c1,L1,e1,hc1,ha1⟩:=Zrv g.z H.ca (H.few (by omega)) (by omega) i (by omega);obtain ⟨f1,f2⟩:=Pm.fresh H.ca.mi H.by' i;obtain ⟨cl1,_,ct1⟩:=Cl.fresh H.ca.mi H.cl i;have r0:((Z6 s.2.1 L).fresh N B n i).1=0:=MC.fresh_ok hr hi.2 (by rw [H.pin,iF (fun z=>qi z.1)]);rw [<- ha1] at f1 f2 cl1 ct1;have y1:=f1.by' H.by';obtain ⟨c2,L2,e2,hc2,ha2⟩:=Zm9 g.z hc1 i b;obtain ⟨t1,t2⟩:=Pm.write (m:=Z6 c1 L1) (B:=B) i hb;obtain ⟨cl2,_,ct2⟩:=Cl.write hc1.mi cl1 i b;have w0:((Z6 c1 L1).write B i b).1=0:=MC.write_ok (by rw [f2,iT ⟨r0,rfl⟩]; omega) hl;rw [<- ha2] at t1 t2 cl2 ct2;have y2:=t1.by' y1;obtain ⟨c3,L3,e3,hc3,ha3⟩:=Znt g.z hc2 (by omega) i;obtain ⟨u1,u2⟩:=Pm.unpin y2 i;obtain ⟨cl3,ct3⟩:=Cl.unpin cl2 i;rw [<- ha3] at u1 u2 cl3 ct3;rw [iN,e1,bS,iF (by simpa using r0)];dsimp only;rw [e2,bS];dsimp only;rw [e3,bS,w0];refine ⟨_,L3,rfl,?_,((f1.trans t1).trans u1).le (by omega) (by omega)⟩;have:=H.put (a:=0) (b:=1) (t':=t+1) (K':=upd K i b) hc3 (((f1.trans t1).trans u1).le (by omega) (by omega)) cl3 (fun j hj=>by
   rw [ct3,ct2 j];by_cases e:j=i
   ·subst e; rw [iT ⟨w0,rfl⟩,Z5]
   ·rw [iF (fun z=>e z.2),Yh e,ct1 j hj,iF (fun z=>e z.2),H.ct j hj]) (fun j=>by
   rw [u2];by_cases e:j=i
   ·subst e; rw [iT rfl,t2,f2,iT ⟨r0,rfl⟩,Nat.add_sub_cancel,H.pin]
   ·rw [iF e,t2,f2,iF (fun z=>e z.2),H.pin]) (by omega) (by omega)
  rw [H.kp] at this;exact this
def Vs (c:Cfg) (nd:Nd):List Int:=toB (Bl c nd)
theorem Zqi {c:Cfg} {nd:Nd} (hn:EncN nd) (g:Geo c N B n) (hr:Xc c V2 nd=true):Byt (Vs c nd)/\(Vs c nd).length=B:=by
 have hf:=Jn (Uf g.ok) hn.kd hr;refine ⟨fun x hx=>?_,?_⟩
 ·unfold Vs toB at hx;obtain ⟨y,_,rfl⟩:=List.mem_map.1 hx;have:=y.toNat_lt;omega
 ·unfold Vs;rw [Z3,Zfe g.ok hf];have:=(Zcn g.ok hf).2.2;have:=g.eB;omega
theorem Zlo {c:Cfg} {nd:Nd} (hok:okB c=true) (hl:∀ x∈nd.2.1,0<=x/\x<4294967296) (hr:Xc c V2 nd=true):Zer c (Vs c nd)=(nd,0):=by
 unfold Zer Vs;rw [Zb9];exact Zn7 hok hl hr
end
theorem Zhb {i:Nat} (h:i<4294967296):uD.wrap (i:Int)=(i:Int):=by
 have:(i:Int) % 4294967296=(i:Int):=Int.emod_eq_of_lt (by omega) (by omega);simp [IntKind.wrap,IntKind.bits,IntKind.signed,this]
section
variable {c:Cfg} {N B n t q:Nat} {s:Shf} {L:List Nat} {K:Nat->List Int} {h:Nat->Bool} {p:Bt}
def Zal (N:Nat) (h:Nat->Bool):Nat:=N - ((List.range N).filter h).length
theorem Zs3 (b:BR N p h):Q75.f p=some ((Zal N h:Nat):Int):=by
 have hN:=b.N1;have hc:=Zmv b;unfold Q75.f Q80.f Q7.f Q4.f Zal;rw [bS,vS,bS,bS,b.n,b.cnt,wI2];congr 1;omega
theorem Zlb (h:Nat->Bool):Zal N h=0↔∀ i,i<N->h i=true:=by
 unfold Zal;constructor
 ·intro e i hi;have hle:((List.range N).filter h).length<=N:=by have:=List.length_filter_le h (List.range N); rwa [length_range] at this
  have:((List.range N).filter h).length=(List.range N).length:=by rw [length_range]; omega
  exact List.length_filter_eq_length_iff.1 this i (List.mem_range.2 hi)
 ·intro e;rw [List.filter_eq_self.2 fun x hx=>e x (List.mem_range.1 hx),length_range,Nat.sub_self]
theorem Zsx (b:BR N p h):(Zal N h=0/\∀ k,3000<k->Q79.f k p=some (0,11,p))\/∃(i:Nat) (p':Bt),i<N/\h i=false/\(∀ j,j<i->h j=true)/\(∀ k,3000<k->Q79.f k p=some ((i:Int),0,p'))/\BR N p' (upd h i true):=by
 have hN:=b.N1;have eF:=Zs3 b;by_cases qz:Zal N h=0
 ·refine .inl ⟨qz,fun k hk=>?_⟩;unfold Q79.f Q77.f;rw [Q80.f,bS,vS,vS,eF,bS,iP,bS,iU]
 ·have hfree:∃ i,i<N/\h i=false:=by
   apply Classical.byContradiction;intro hn;refine qz ((Zlb h).2 fun i hi=>?_);cases hh:h i with
   | true=>rfl
   | false=>exact absurd ⟨i,hi,hh⟩ hn
  obtain ⟨i,_,hiN,hif,hil⟩:=b.free (k:=3001) (by omega) hfree;obtain ⟨p',es,b'⟩:=b.set (i:=i) (by omega);rw [iQ] at b';refine .inr ⟨i,p',hiN,hif,hil,fun k hk=>?_,b'⟩;obtain ⟨k2,rfl⟩:∃ k2,k=k2+2:=⟨k - 2,by omega⟩;obtain ⟨i2,ei,hi2N,hi2f,hi2l⟩:=b.free (k:=k2+1) (by omega) hfree;have:i2=i:=by
   rcases Nat.lt_trichotomy i2 i with z | z | z
   ·rw [hil _ z] at hi2f; cases hi2f
   ·exact z
   ·rw [hi2l _ z] at hif; cases hif
  subst this;unfold Q79.f Q77.f;rw [Q80.f,bS,vS,vS,eF,bS,iN,Q77.l0,iT (by decide),show Q5.f (k2+1) (p.1,p.2.1,p.2.2) 0=_ from ei,bS];dsimp only;rw [show Q9.f (p.1,p.2.1,p.2.2) (i2:Int)=_ from es,bS,iU,Q77.l0,iF (by decide),bS];dsimp only;rw [vS,iU,List.nil_append,show gt [uD.wrap (i2:Int)] 0=uD.wrap (i2:Int) from rfl,Zhb (by omega)]
def G4 (N:Nat) (h:Nat->Bool):List Int:=((List.range N).filter h).map fun(i:Nat)=>(i:Int)
theorem Zes (b:BR N p h) {i:Nat} (hi:i<4294967296) {k:Nat} (hk:2000<k):(Q8.f k p (i:Int)=some (0,false)/\∀ j,i<=j->j<N->h j=false)\/∃ j:Nat,Q8.f k p (i:Int)=some ((j:Int),true)/\i<=j/\j<N/\h j=true/\∀ x,i<=x->x<j->h x=false:=by
 have hN:=b.N1;unfold Q8.f Q7.f Q12.f;rw [bS,b.n];by_cases q0:N<=i
 ·rw [iP]; exact .inl ⟨rfl,fun j h1 h2=>by omega⟩
 ·rw [iN];have hs:=Zpp b false (fr:=i) hi hk;rw [vS] at hs;rcases hs with ⟨j,e,g1,g2,g3,g4⟩ | ⟨e,g⟩
  ·have hj:j<N/\h j=true:=by unfold Wm at g3; simpa using g3
   rw [e,bS];refine .inr ⟨j,by simp [hj.1],g1,hj.1,hj.2,fun x h1 h2=>?_⟩;have:=g4 x h1 h2;unfold Wm at this;simp at this;exact this (by omega)
  ·rw [e,bS];refine .inl ⟨by simp,fun j h1 h2=>?_⟩;have hl:=b.len;have:=g j h1 (by omega);unfold Wm at this;simp at this;exact this h2
theorem Zje {a:Nat}:∀ {m j:Nat},(∀ x,a<=x->x<j->h x=false)->a<=j->j<=m->((List.range' a (m - a)).filter h)=(List.range' j (m - j)).filter h:=by
 intro m j hx haj hjm;have:List.range' a (m - a)=List.range' a (j - a) ++ List.range' j (m - j):=by
  rw [show m - a=(j - a)+(m - j) by omega,<- List.range'_append_1,show a+(j - a)=j by omega]
 rw [this,List.filter_append,List.filter_eq_nil_iff.2 (fun x hx'=>?_),List.nil_append];have:=List.mem_range'_1.1 hx';rw [hx x this.1 (by omega)]; simp
theorem Zl1 (b:BR N p h):∀(m:Nat) (i:Nat) (acc:T0) (k:Nat),N - i<=m->i<=N->acc.length<=i->3000+m<k->((Q8.f (k - 1) p (i:Int)).bind fun r=>Q78.l0 k p acc r.1 r.2)=some (acc ++ (((List.range' i (N - i)).filter h).map fun(i:Nat)=>(i:Int)))
 | m,i,acc,k,hm,hi,hacc,hk=>by
  have hN:=b.N1;obtain ⟨k,rfl⟩:=kS1 k;rcases Zes b (i:=i) (by omega) (k:=k) (by omega) with ⟨e,g⟩ | ⟨j,e,g1,g2,g3,g4⟩
  ·rw [Nat.add_sub_cancel,e,bS,Q78.l0,vS,List.filter_eq_nil_iff.2 (fun x hx=>by
    have:=List.mem_range'_1.1 hx;rw [g x this.1 (by omega)]; simp)]
   simp
  ·rw [Nat.add_sub_cancel,e,bS,Q78.l0,iT rfl,iV,Zhb (by omega)];cases m with
   | zero=>omega
   | succ m=>
    have ih:=Zl1 b m (j+1) (acc ++ [(j:Int)]) k (by omega) (by omega) (by simp; omega) (by omega);obtain ⟨k,rfl⟩:=kS1 k;rw [Nat.add_sub_cancel] at ih;have hn2:Q8.f (k+1) p (w64 ((j:Int)+1))=Q8.f k p ((j+1:Nat):Int):=by
     rw [wS2];rcases Zes b (i:=j+1) (by omega) (k:=k) (by omega) with ⟨e1,f1⟩ | ⟨x,e1,f1,f2,f3,f4⟩ <;> rcases Zes b (i:=j+1) (by omega) (k:=k+1) (by omega) with ⟨e2,f5⟩ | ⟨y,e2,f6,f7,f8,f9⟩
     ·rw [e1,e2]
     ·rw [f1 y f6 f7] at f8; cases f8
     ·rw [f5 x f1 f2] at f3; cases f3
     ·have:x=y:=by
       rcases Nat.lt_trichotomy x y with z | z | z
       ·rw [f9 x f1 z] at f3; cases f3
       ·exact z
       ·rw [f4 y f6 z] at f8; cases f8
      rw [e1,e2,this]
    rw [hn2,ih,Zje g4 g1 (by omega),show N - j=(N - (j+1))+1 by omega,List.range'_succ,List.filter_cons,iT g3];simp
theorem Ztm (b:BR N p h) {k:Nat} (hk:3001+N<k):Q78.f k p=some (G4 N h):=by
 unfold Q78.f Q80.f G4;rw [bS,vS];have:=Zl1 b N 0 [] k (by omega) (by omega) (by simp) (by omega);rw [List.nil_append,Nat.sub_zero,<- List.range_eq_range'] at this;have hn2:Q8.f k p 0=Q8.f (k - 1) p ((0:Nat):Int):=by
  rcases Zes b (i:=0) (by omega) (k:=k - 1) (by omega) with ⟨e1,f1⟩ | ⟨x,e1,f1,f2,f3,f4⟩ <;> rcases Zes b (i:=0) (by omega) (k:=k) (by omega) with ⟨e2,f5⟩ | ⟨y,e2,f6,f7,f8,f9⟩
  ·rw [e1]; exact e2
  ·rw [f1 y f6 f7] at f8; cases f8
  ·rw [f5 x f1 f2] at f3; cases f3
  ·have:x=y:=by
    rcases Nat.lt_trichotomy x y with z | z | z
    ·rw [f9 x f1 z] at f3; cases f3
    ·exact z
    ·rw [f4 y f6 z] at f8; cases f8
   rw [e1,this]; exact e2
 rw [hn2]; exact this
theorem ShK.pool (H:ShK c N B n t s L q K h) {p':Bt} {h':Nat->Bool} (b:BR N p' h') (h0:h' 0=true):ShK c N B n t (s.1,s.2.1,p',s.2.2.2) L q K h':=⟨H.cfg,H.ca,H.by',H.cl,H.ct,b,h0,H.kp,H.qN,H.pin,H.rd,H.wr⟩
theorem Zs5 (g:Geo c N B n) (H:ShK c N B n t s L q K h) (ht:t<=800000) {nd:Nd} (hn:EncN nd) :
  (Xc c V2 nd=false/\Ev (fun k=>Q84.f k s nd) (0,3,s))\/(Xc c V2 nd=true/\Zal N h=0/\Ev (fun k=>Q84.f k s nd) (0,11,s))\/
  (Xc c V2 nd=true/\∃(i:Nat) (s':Shf) (L':List Nat),1<=i/\i<N/\h i=false/\(∀ j,j<i->h j=true)/\Ev (fun k=>Q84.f k s nd) ((i:Int),0,s')/\ShK c N B n (t+1) s' L' q (upd K i (Vs c nd)) (upd h i true)/\MC.To 0 1 (Z6 s.2.1 L) (Z6 s'.2.1 L')):=by
 obtain ⟨k0,hk'⟩:=hn.ev c;have hk:∀ k,k0<=k->Q36.f k s.1 nd=some (Bq c nd):=fun k kk=>by rw [H.cfg]; exact hk' k kk
 cases hr:Xc c V2 nd with
 | false=>
  refine .inl ⟨rfl,k0,fun k kk=>?_⟩;show Q84.f k s nd=_;have ee:Bq c nd=([],3):=by unfold Bq; rw [iT g.ok,hr,vS]
  unfold Q84.f Q86.f;rw [bS,vS,hk k kk,bS,ee,iU]
 | true=>
  have ee:Bq c nd=(Vs c nd,0):=by unfold Bq Vs; rw [iT g.ok,iT hr]
  rcases Zsx H.bits with ⟨z0,e⟩ | ⟨i,p',hiN,hif,hil,e,b'⟩
  ·refine .inr (.inl ⟨rfl,z0,k0+3001,fun k kk=>?_⟩);show Q84.f k s nd=_;unfold Q84.f Q86.f;rw [bS,vS,hk k (by omega),bS,ee,vS,e k (by omega),bS,iU]
  ·have hi1:1<=i:=by
    apply Nat.one_le_iff_ne_zero.2;intro e0;rw [e0,H.h0] at hif; cases hif
   have H1:=H.pool b' (by rw [Yh]; exact H.h0);obtain ⟨b1,b2⟩:=Zqi hn g hr;obtain ⟨s',L',el,H',to⟩:=Zty g H1 ht ⟨hi1,hiN⟩ b1 b2;refine .inr (.inr ⟨rfl,i,s',L',hi1,hiN,hif,hil,⟨k0+3001,fun k kk=>?_⟩,H',to⟩);show Q84.f k s nd=_;unfold Q84.f Q86.f;rw [bS,vS,hk k (by omega),bS,ee,vS,e k (by omega),bS,vS];dsimp only;rw [el,bS,vS]
end
section
variable {c:Cfg} {N B n t q:Nat} {s:Shf} {L:List Nat} {K:Nat->List Int} {h:Nat->Bool} {p:Bt}
theorem Zos {N:Nat} (h5:5<=N) (h:N<=65536):∃ p,Q74.f (N:Int)=some (some p,0)/\BR N p (upd (fun _=>false) 0 true):=by
 have e1:w64 ((N:Int)+64)=((N+64:Nat):Int):=by rw [wI2]; omega
 have e2:w64 (((N+64:Nat):Int) - 1)=((N+63:Nat):Int):=by rw [wI2]; omega
 have e3:w64 (Int.tdiv ((N+63:Nat):Int) 64)=(((N+63) / 64:Nat):Int):=by
  rw [show Int.tdiv ((N+63:Nat):Int) 64=(((N+63) / 64:Nat):Int) from rfl,wI2]
 have b0:BR N ((N:Int),0,List.replicate ((N+63) / 64) (0:Int)) (fun _=>false):=by
  refine ⟨rfl,by omega,?_,by simp,fun w hw=>⟨0,?_,by decide,fun b hb=>?_⟩⟩
  ·have:(List.range N).filter (fun _=>false)=[]:=List.filter_eq_nil_iff.2 (by simp);rw [this]; rfl
  ·rw [length_replicate] at hw;rw [List.getD_eq_getElem?_getD,List.getElem?_replicate,iT hw]; rfl
  ·simp
 obtain ⟨p',es,b'⟩:=b0.set (i:=0) (by omega);rw [iQ] at b';refine ⟨p',?_,b'⟩;unfold Q74.f Q2.f;rw [iN,iN,iN,e1,e2,e3,iO,bS];dsimp only [Vj];rw [iU,tN,show Q9.f ((N:Int),0,List.replicate ((N+63) / 64) (0:Int)) 0=_ from es,bS]
def Zfj (c:Cfg) (N B n:Nat) (ch:Chn) (p:Bt):Shf:=(c,(((B:Int),List.replicate (N*B) 0,(0,0)),List.replicate n (0,[],false,0),[],(List.range n).map (fun(i:Nat)=>(i:Int)),ch),p,0)
theorem Zt0 (g:Geo c N B n) {ch:Chn} (hc:ChI n ch []) {p:Bt} (hp:BR N p (upd (fun _=>false) 0 true)):ShK c N B n 0 (Zfj c N B n ch p) [] 0 (fun _=>List.replicate B 0) (upd (fun _=>false) 0 true):=by
 have hi:=Zsd g.z (img:=List.replicate (N*B) 0) (by simp) (0,0) hc;have fr0:∀ i,(Z6 (Zfj c N B n ch p).2.1 []).fr i=none:=fun i=>by
  show Xu (Zfj c N B n ch p).2.1 i=none;exact U6 (by simp [Zfj])
 refine ⟨rfl,hi,⟨Byt.rep _,fun i x hx=>by rw [fr0 i] at hx; cases hx⟩,fun i x hx=>(by rw [fr0 i] at hx; cases hx),fun j hj=>?_,hp,Z5 _ _ _,rfl,by have:=g.N5; omega,fun j=>?_,⟨Int.le_refl _,Int.le_refl _⟩,⟨Int.le_refl _,Int.le_refl _⟩⟩
 ·rw [MC.cont_no (fr0 j)];show blk (List.replicate (N*B) 0) B j=_;unfold blk;have:j*B+B<=N*B:=by rw [<- Nat.succ_mul]; exact Nat.mul_le_mul_right _ hj
  rw [List.drop_replicate,List.take_replicate,Nat.min_eq_left (by omega)]
 ·rw [show (Z6 (Zfj c N B n ch p).2.1 []).cnt j=0 from MC.cnt_no (fr0 j),iF (fun z=>z.2 rfl)]
end
def emS (s:Sp):Bool:=!s.2.2 && !Op.bytesLess s.1 s.2.1
theorem Zg0 (s:Sp):Q62.f s=some (emS s):=by
 unfold Q62.f emS;rw [Zge];cases s.2.2 <;> rfl
abbrev pk (p:Pr):List UInt8:=p.1
abbrev mk (m:Msg):List UInt8:=m.1
def okN (N:Nat) (l:List Msg):Prop:=l.length<=N/\∀ m∈l,m.1.length<=300
theorem Bm {l:List Msg} {m:Msg} (hl:okN 1000 l) (hm:m.1.length<=300):∀(k i:Nat) (x1:List Msg),i<=l.length->x1.length<=2000+i->l.length - i<k->(∀ b∈l.drop i,b.1≠m.1)->Q139.l0 k l m x1 true (i:Int)=some (x1 ++ l.drop i)
 | 0,i,x1,_,_,h,_=>by omega
 | k+1,i,x1,hi,hx,hk,hn=>by
  have h1000:=hl.1;rw [Q139.l0];by_cases h:i<l.length
  ·have ne:(l.getD i default).1≠m.1:=hn _ (by rw [Yv h]; simp);have ih:=Bm hl hm k (i+1) (x1 ++ [l.getD i default]) (by omega) (by simp; omega) (by omega) (fun b hb=>hn b (by rw [Yv h]; simp [hb]));rw [iP,vS,iO,Zw,iT (by simp only [ne,decide_false]; rfl),iV,wS2,ih,Yv h];simp
  ·rw [iW,vS,dN];simp
theorem Zf9 {l:List Msg} {m:Msg} (hl:okN 1000 l) (hm:m.1.length<=300):∀(k i:Nat) (x1:List Msg),i<=l.length->x1.length<=1000+i->2001+(l.length - i)<k->RiseK mk (l.drop i)->Q139.l0 k l m x1 false (i:Int)=some (x1 ++ Xr mk m (l.drop i))
 | 0,i,x1,_,_,h,_=>by omega
 | k+1,i,x1,hi,hx,hk,hr=>by
  have h1000:=hl.1;rw [Q139.l0];by_cases h:i<l.length
  ·have kl:=hl.2 _ (Xl (d:=default) h);rw [Yv h] at hr ⊢;obtain ⟨r1,r2⟩:=List.pairwise_cons.1 hr;rw [iP,iT (by rfl),iO,Zw,V1 (by omega) (by omega) (by omega),bS,wS2];unfold Xr;cases q:Op.bytesLess (l.getD i default).1 m.1 with
   | true=>
    have ne:(l.getD i default).1≠m.1:=Vc q;rw [iF (by simp only [dE,scmp_le,q]; simp),iT (by simp only [ne,decide_false]; rfl),iV,Zf9 hl hm k (i+1) _ (by omega) (by simp; omega) (by omega) r2,
     iF (by rw [show Op.bytesLess (mk m) (mk (l.getD i default))=false from Xx q]; simp),iF (show ¬ mk m=mk (l.getD i default) from fun e=>ne e.symm)]
    simp
   | false=>
    rw [iT (dT (scmp_le.2 q)),iV];by_cases e:(l.getD i default).1=m.1
    ·have hn:∀ b∈l.drop (i+1),b.1≠m.1:=fun b hb=>by rw [<- e]; exact (Vc (r1 b hb)).symm
     rw [iF (by rw [dT e]; simp),Bm hl hm k (i+1) _ (by omega) (by simp; omega) (by omega) hn,iF (by rw [show mk m=mk (l.getD i default) from e.symm,Vf]; simp),iT (show mk m=mk (l.getD i default) from e.symm)];simp
    ·have lt:Op.bytesLess m.1 (l.getD i default).1=true:=(Bi q).resolve_left e;have hn:∀ b∈l.drop (i+1),b.1≠m.1:=fun b hb=>(Vc (Xi lt (r1 b hb))).symm;rw [iT (by simp only [e,decide_false]; rfl),iV,Bm hl hm k (i+1) _ (by omega) (by simp; omega) (by omega) hn,iT (show Op.bytesLess (mk m) (mk (l.getD i default))=true from lt)];simp
  ·rw [iW,iT (by rfl),iV,dN];rfl
theorem Zji {l:List Msg} {m:Msg} (hl:okN 1000 l) (hm:m.1.length<=300) (hr:RiseK mk l) {k:Nat} (hk:4000<k):Q139.f k l m=some (Xr mk m l):=by
 have:=Zf9 hl hm k 0 [] (by omega) (by simp) (by have:=hl.1; omega) (by simpa using hr);simpa [Q139.f] using this
theorem Zbf {l:List Pr} (x:TX) (hl:l.length<=1000000):∀(k i:Nat) (x1:List Pr),i<=l.length->x1.length<=i->l.length - i<k->Q140.l0 k l x x1 (i:Int)=some (x1 ++ Wq pk x (l.drop i))
 | 0,i,x1,_,_,h=>by omega
 | k+1,i,x1,hi,hx,hk=>by
  rw [Q140.l0];by_cases h:i<l.length
  ·rw [iP,iO,Zw,wS2,Yv h];unfold Wq;rw [List.filter_cons];by_cases e:(l.getD i default).1=x
   ·rw [iF (by rw [dT e]; simp),Zbf x hl k (i+1) x1 (by omega) (by omega) (by omega),iF (by rw [show pk (l.getD i default)=x from e]; simp)];rfl
   ·rw [iT (by rw [dF e]; rfl),iV,Zbf x hl k (i+1) _ (by omega) (by simp; omega) (by omega),iT (by rw [dF (show ¬ pk (l.getD i default)=x from e)]; rfl)];simp [Wq]
  ·rw [iW,dN];simp [Wq]
theorem Zg9 {l:List Pr} (x:TX) (hl:l.length<=1000000) {k:Nat} (hk:l.length<k):Q140.f k l x=some (Wq pk x l):=by
 have:=Zbf x hl k 0 [] (by omega) (by simp) (by omega);simpa [Q140.f] using this
theorem Zcz {r:List Pr} {key val:TX} (hl:r.length<=1000000) (hk300:key.length<=300) (hr300:∀ p∈r,p.1.length<=300) (hr:RiseK pk r) (hne:∀ p∈r,p.1≠key):∀(k i:Nat),i<=r.length->2001+(r.length - i)<k->(∀ j,j<i->Op.bytesLess (r.getD j default).1 key=true)->
  Q141.l0 k key val r (i:Int)=some (Xr pk (key,val) r)
 | 0,i,_,h,_=>by omega
 | k+1,i,hi,hk,hb=>by
  rw [Q141.l0];have fin:(∀ j,i<=j->j<r.length->Op.bytesLess (r.getD j default).1 key=false)->r.take i ++ [(key,val)] ++ r.drop i=Xr pk (key,val) r:=fun h=>by
   have hat:AtK pk r (pk (key,val)) i:=⟨hi,hb,h⟩;rw [hat.put hr,iF (fun t=>hne _ (Xl t.1) t.2)];simp
  have rest:(if (0:Int)<=(i:Int)/\(i:Int)<=(r.length:Int) then (if (([]:List Pr).length+(r.take (i:Int).toNat).length)*32<=140737488355328 then (if ((([]:List Pr) ++ (r.take (i:Int).toNat)).length+([(key,val)]:List Pr).length)*32<=140737488355328 then (if 0<=(i:Int)/\(i:Int)<=(r.length:Int) then (if (((([]:List Pr) ++ (r.take (i:Int).toNat)) ++ ([(key,val)]:List Pr)).length+(r.drop (i:Int).toNat).length)*32<=140737488355328 then (some (((([]:List Pr) ++ (r.take (i:Int).toNat)) ++ ([(key,val)]:List Pr)) ++ (r.drop (i:Int).toNat))) else none) else none) else none) else none) else none)=some (r.take i ++ [(key,val)] ++ r.drop i):=by
   rw [iO,iV,iV,iO,iV];simp
  by_cases h:i<r.length
  ·rw [iP,iO,Zw,V1 (by have:=hr300 _ (Xl (d:=default) h); omega) (by omega) (by omega),bS];cases q:Op.bytesLess (r.getD i default).1 key with
   | true=>
    rw [iT (dT (scmp_lt.2 q)),wS2];refine Zcz hl hk300 hr300 hr hne k (i+1) (by omega) (by omega) fun j hj=>?_;by_cases e:j=i
    ·subst e; exact q
    ·exact hb j (by omega)
   | false=>
    rw [iF (by simp only [dE,scmp_lt,q]; simp),rest,fin];intro j hj hjl;by_cases e:j=i
    ·subst e; exact q
    ·exact Yl q (Xx (RiseK.get pk hr (show i<j by omega) hjl default))
  ·rw [iW,rest,fin];intro j hj hjl;omega
theorem Zq3 {l:List Pr} {key val:TX} (hr:RiseK pk l):Xr pk (key,val) (Wq pk key l)=Xr pk (key,val) l:=
 Zgt pk (Jp pk (Zgx pk hr)) (Jp pk hr) fun k=>by
  rw [Zc8,Zc8,Zjc];by_cases e:pk (key,val)=k
  ·rw [iT e,iT e]
  ·rw [iF e,iF e,iF (show ¬ key=k from e)]
theorem Zg6 {l:List Pr} {key val:TX} (hl:l.length<=1000000) (hk300:key.length<=300) (hr300:∀ p∈l,p.1.length<=300) (hr:RiseK pk l) {k:Nat} (hk:2010+l.length<k):Q141.f k l key val=some (Xr pk (key,val) l):=by
 have hl2:(Wq pk key l).length<=l.length:=List.length_filter_le _ _;unfold Q141.f;rw [Zg9 key (by omega) (by omega),bS];have:=Zcz (r:=Wq pk key l) (key:=key) (val:=val) (by omega) hk300 (fun p hp=>hr300 p (List.mem_filter.1 hp).1) (Zgx pk hr) (fun p hp e=>by have:=(List.mem_filter.1 hp).2; simp [show pk p=key from e] at this) k 0 (by omega) (by omega) (fun j hj=>by omega);rw [<- Zq3 hr];exact this
def Us (a b:Sp):Sp:=(if Op.bytesLess a.1 b.1=true then b.1 else a.1,if a.2.2=true then (if b.2.2=true then [] else b.2.1) else if b.2.2=true then a.2.1 else if Op.bytesLess b.2.1 a.2.1=true then b.2.1 else a.2.1,a.2.2 && b.2.2)
def Zaf (a b:Sp):Sp×Bool:=if emS (Us a b)=true then (([],[],false),false) else (Us a b,true)
theorem Zm6 (a b:Sp):Q64.f a b=some (Zaf a b):=by
 obtain ⟨l,h,p⟩:=a;obtain ⟨m,i,q⟩:=b;have e:(if (!Op.bytesLess l m)=true then l else m)=if Op.bytesLess l m=true then m else l:=by cases Op.bytesLess l m <;> rfl
 have f:(if (Op.bytesLess h i || decide (h=i))=true then h else i)=if Op.bytesLess i h=true then i else h:=by rw [Zge]; cases Op.bytesLess i h <;> rfl
 cases p <;> cases q <;> simp only [Q64.f,Zaf,Us,Zg0,bS,e,f,Bool.not_true,Bool.not_false,Bool.false_eq_true,if_false,if_true,Bool.and_true,Bool.true_and,Bool.and_false,Bool.false_and] <;> exact (apply_ite some _ _ _).symm
theorem Zru (a b:Sp) (x:TX):inS (Us a b) x=(inS a x && inS b x):=by
 obtain ⟨l,h,p⟩:=a;obtain ⟨m,i,q⟩:=b;have e:Op.bytesLess x (if Op.bytesLess l m=true then m else l)=(Op.bytesLess x l || Op.bytesLess x m):=by
  cases c:Op.bytesLess l m with
  | true=>
   simp only [if_true];cases d:Op.bytesLess x l with
   | false=>simp
   | true=>simp [Xi d c]
  | false=>
   simp only [Bool.false_eq_true,if_false];cases d:Op.bytesLess x m with
   | false=>simp
   | true=>simp [Uk d c]
 have f:Op.bytesLess x (if Op.bytesLess i h=true then i else h)=(Op.bytesLess x h && Op.bytesLess x i):=by
  cases c:Op.bytesLess i h with
  | true=>
   simp only [if_true];cases d:Op.bytesLess x i with
   | false=>simp
   | true=>simp [Xi d c]
  | false=>
   simp only [Bool.false_eq_true,if_false];cases d:Op.bytesLess x h with
   | false=>simp
   | true=>simp [Uk d c]
 cases p <;> cases q <;> simp only [inS,Us,e,f,Bool.and_true,Bool.true_and,Bool.and_false,Bool.false_and,Bool.false_eq_true,if_false,if_true,Bool.true_or,Bool.false_or,Bool.not_or] <;> (cases Op.bytesLess x l <;> cases Op.bytesLess x m <;> cases Op.bytesLess x h <;> cases Op.bytesLess x i <;> rfl)
structure Small (l:TO) (x:TX) (s:Sp):Prop where
 len:l.length<=80
 all:∀ p∈l,p.length<=300
 x:x.length<=300
 lo:s.1.length<=300
 hi:s.2.1.length<=300
theorem Small.get {l:TO} {x:TX} {s:Sp} (h:Small l x s) (i:Nat):(l.getD i []).length<=300:=by
 by_cases hi:i<l.length
 ·exact h.all _ (Xl hi)
 ·rw [List.getD_eq_getElem?_getD,List.getElem?_eq_none (by omega)];exact Nat.zero_le _
def AtWay (l:TO) (x:TX) (w:Nat):Prop:=w<=l.length/\(∀ j,j<w->Op.bytesLess x (l.getD j [])=false)/\∀ j,w<=j->j<l.length->Op.bytesLess x (l.getD j [])=true
theorem Znv {l:TO} (h:W7 l=true):∀ {i j:Nat},i<j->j<l.length->Op.bytesLess (l.getD i []) (l.getD j [])=true:=by
 have step:∀ i,i+1<l.length->W7 (l.drop i)=true->Op.bytesLess (l.getD i []) (l.getD (i+1) [])=true/\W7 (l.drop (i+1))=true:=fun i hi hr=>by
  rw [Zea hi,Bool.and_eq_true] at hr;exact hr
 have all:∀ i,i<l.length->W7 (l.drop i)=true:=fun i=>by
  induction i with
  | zero=>intro _; simpa using h
  | succ i ih=>intro hi; exact (step i hi (ih (by omega))).2
 intro i j hij hj
 induction j with
 | zero=>omega
 | succ j ih=>
  have one:=(step j hj (all j (by omega))).1;by_cases e:i=j
  ·subst e; exact one
  ·exact Xi (ih (by omega) (by omega)) one
def Ws (l:TO) (i:Nat):Sp:=(if 0<i then l.getD (i - 1) [] else [],if i=l.length then [] else l.getD i [],decide (i=l.length))
theorem Zmo {l:TO} (hl:l.length<=80) (s:Sp) (i:Nat) (hi:i<=l.length):Q58.f l (i:Int) s=some (Zaf (Ws l i) s):=by
 unfold Q58.f;have d:∀(m:Sp×Bool),some (((m.1.1,m.1.2.1,m.1.2.2),m.2):Sp×Bool)=some m:=fun m=>rfl;have eta:(s.1,s.2.1,s.2.2)=s:=rfl;rw [iN,iN];have de:decide ((i:Int)=(l.length:Int))=decide (i=l.length):=by congr 1; exact propext (by omega)
 simp only [Zm6,bS,d,eta,de];by_cases h0:0<i
 ·have g0:(0:Int)<=((i - 1:Nat):Int)/\((i - 1:Nat):Int)<(l.length:Int):=by omega
  rw [iP,Zi1 h0 (by omega),iT g0,Zw];by_cases h1:i=l.length
  ·simp only [h1,decide_true,Bool.not_true,Bool.false_eq_true,if_false,Ws,if_true,show 0<l.length by omega];rfl
  ·have g1:(0:Int)<=(i:Int)/\(i:Int)<(l.length:Int):=by omega
   simp only [h1,decide_false,Bool.not_false,if_true,g1,and_self,Zw,Ws,h0,if_false];rfl
 ·obtain rfl:i=0:=by omega
  rw [vS];by_cases h1:0=l.length
  ·simp only [<- h1,decide_true,Bool.not_true,Bool.false_eq_true,if_false,Ws,if_true,Nat.lt_irrefl]
  ·have g1:(0:Int)<=((0:Nat):Int)/\((0:Nat):Int)<(l.length:Int):=by omega
   simp only [h1,decide_false,Bool.not_false,if_true,g1,and_self,Zw,Ws,Nat.lt_irrefl,if_false];rfl
theorem Zgd {l:TO} {x:TX} {s:Sp} {w:Nat} (hs:Small l x s) (hw:AtWay l x w):∀(k i:Nat),i<=l.length->2001+(l.length - i)<k->Q142.l0 k l x ((min i w:Nat):Int) (i:Int)=some (w:Int)
 | 0,i,_,h=>by omega
 | k+1,i,hi,hk=>by
  have h80:=hs.len;have hx:=hs.x;obtain ⟨w1,w2,w3⟩:=hw;rw [Q142.l0];by_cases h:i<l.length
  ·have g1:(0:Int)<=(i:Int)/\(i:Int)<(l.length:Int):=by omega
   have k1:(l.getD i default).length<=300:=hs.get i;rw [iT (dT g1.2),iT g1,Zw,V1 (by omega) (by omega) (by omega),bS,Gf (i:=i) (by omega)];have ih:=Zgd hs ⟨w1,w2,w3⟩ k (i+1) (by omega) (by omega);by_cases q:i<w
   ·have e:Op.bytesLess x (l.getD i default)=false:=w2 i q;rw [iT (dT (scmp_le.2 e)),wS2,show min i w+1=min (i+1) w by omega,ih]
   ·have e:Op.bytesLess x (l.getD i default)=true:=w3 i (by omega) h;rw [iF (by simp only [dE,scmp_le]; rw [e]; simp),show min i w=min (i+1) w by omega,ih]
  ·rw [iN,show min i w=w by omega]
theorem Zjg {l:TO} {x:TX} {s:Sp} {w:Nat} (hs:Small l x s) (hw:AtWay l x w) {k:Nat} (hk:3000<k):Q142.f k l x=some (w:Int):=by
 have:=Zgd hs hw k 0 (by omega) (by have:=hs.len; omega);simpa [Q142.f] using this
theorem Zgk (a b:TX) (ha:a.length<=2000) (hb:b.length<=2000) (hlt:Op.bytesLess a b=true) (K:Nat):∀(k i:Nat),i<=shd a b+1->shd a b+1 - i<k->2001+(shd a b+1 - i)<k->
  Q132.l0 k a b (i:Int)=some (b.take (shd a b+1),true)
 | 0,i,_,h,_=>by omega
 | k+1,i,hi,hk,hK=>by
  have hs:=Zia hlt;unfold Q132.l0;have g0:(i:Int)<=(b.length:Int):=by omega
  have g1:(0:Int)<=(i:Int)/\(i:Int)<=(b.length:Int):=by omega
  rw [iT (dT g0),iT g1,tN,V1 ha (by rw [length_take]; omega) (by omega),bS];by_cases e:i=shd a b+1
  ·subst e;rw [iT (dT (scmp_lt.2 (Gd hlt)))]
  ·have:=Zcs (a:=a) (b:=b) (n:=i) (by omega);have w:w64 ((i:Int)+1)=((i+1:Nat):Int):=by rw [wI2]; omega
   rw [iF (by simp only [dE,scmp_lt,this]; simp),w,Zgk a b ha hb hlt K k (i+1) (by omega) (by omega) (by omega)]
theorem Zjo {k:Nat} {a b:TX} (ha:a.length<=2000) (hb:b.length<=2000) (hk:5000<k) :
  Q132.f k a b=some (if Op.bytesLess a b=true then (b.take (shd a b+1),true) else ([],false)):=by
 unfold Q132.f;rw [V1 ha hb (by omega),bS];cases h:Op.bytesLess a b with
 | false=>
  rw [iT]
  ·rfl
  ·have:=mt scmp_lt.1 (by simp [h]:¬ Op.bytesLess a b=true);simp only [dE];omega
 | true=>
  have:=scmp_lt.2 h;have hs:=Zia h;rw [iN];have:=Zgk a b ha hb h k k 0 (by omega) (by omega) (by omega);simpa using this
abbrev Tre:=List (List Nd)
def ndT (l:Tre) (k i:Nat):Nd:=(l.getD k default).getD i default
def wd (l:Tre) (k:Nat):Nat:=(l.getD k default).length
def Gm (p:TO) (x:TX):Nat:=(p.filter fun y=>!Op.bytesLess x y).length
theorem J9 (x:TX):∀ {p:TO},RiseK (fun y=>y) p->AtWay p x (Gm p x)
 | [],_=>⟨Nat.le_refl _,fun j hj=>absurd hj (Nat.not_lt_zero _),fun j _ hj=>absurd hj (Nat.not_lt_zero _)⟩
 | a :: p,h=>by
  obtain ⟨h1,h2⟩:=List.pairwise_cons.1 h;obtain ⟨a1,a2,a3⟩:=J9 x h2;unfold Gm at *;rw [List.filter_cons];cases q:Op.bytesLess x a with
  | true=>
   have e:p.filter (fun y=>!Op.bytesLess x y)=[]:=List.filter_eq_nil_iff.2 fun y hy=>by rw [Xi q (h1 y hy)]; simp
   rw [vS,e];exact ⟨Nat.zero_le _,fun j hj=>absurd hj (Nat.not_lt_zero _),fun j _ hj=>match j,hj with
    | 0,_=>q
    | j+1,hj=>Xi q (h1 _ (Xl (d:=[]) (by simpa using hj)))⟩
  | false=>
   rw [iU];exact ⟨by simp only [length_cons]; omega,fun j hj=>match j,hj with
    | 0,_=>q
    | j+1,hj=>a2 j (by simpa using hj),fun j hj hl=>match j,hj,hl with
    | 0,hj,_=>by simp at hj
    | j+1,hj,hl=>a3 j (by simpa using hj) (by simpa using hl)⟩
theorem AtWay.uniq {p:TO} {x:TX} {a b:Nat} (h:AtWay p x a) (g:AtWay p x b):a=b:=by
 rcases Nat.lt_trichotomy a b with q | q | q
 ·have:=h.2.2 a (Nat.le_refl _) (by have:=g.1; omega);rw [g.2.1 a q] at this; cases this
 ·exact q
 ·have:=g.2.2 b (Nat.le_refl _) (by have:=h.1; omega);rw [h.2.1 b q] at this; cases this
def stR (row:List Nd) (i:Nat):Nat:=((row.map fun n=>n.2.1.length).take i).sum
theorem Gg (row:List Nd):stR row 0=0:=rfl
theorem Xa {row:List Nd} {i:Nat} (h:i<row.length):stR row (i+1)=stR row i+(row.getD i default).2.1.length:=by
 unfold stR;rw [List.take_add_one,List.sum_append,List.getElem?_map,List.getElem?_eq_getElem h,Yu h];simp
theorem J7 {row:List Nd} (p:List Nd) {i:Nat} (h:i<=row.length):stR (row ++ p) i=stR row i:=by
 unfold stR;rw [List.map_append,List.take_append_of_le_length (by simpa using h)]
theorem X6 {row:List Nd} {i:Nat}:∀ {j:Nat},i<=j->j<=row.length->stR row i<=stR row j
 | 0,h,_=>by rw [show i=0 by omega]; exact Nat.le_refl _
 | j+1,h,hj=>by
  by_cases e:i=j+1
  ·rw [e]; exact Nat.le_refl _
  ·have:=X6 (row:=row) (i:=i) (j:=j) (by omega) (by omega);have:=Xa (row:=row) (i:=j) (by omega);omega
theorem Jd {row:List Nd} {a:Nat}:∀ {m:Nat},m<=row.length->a<stR row m->∃ i,i<m/\stR row i<=a/\a<stR row (i+1)
 | 0,_,h=>by rw [Gg] at h; omega
 | m+1,hm,h=>by
  by_cases q:a<stR row m
  ·obtain ⟨i,h1,h2,h3⟩:=Jd (by omega) q;exact ⟨i,by omega,h2,h3⟩
  ·exact ⟨m,by omega,by omega,h⟩
structure NdOk (lo hi:Nat->List UInt8) (k:Nat) (n:Nd) (m:Nat):Prop where
 lvl:n.1=(k:Int)
 prs:n.2.2.2.2=[]
 pvl:n.2.2.1.length+1=n.2.1.length
 fan:n.2.1.length<=64
 kid:n.2.1=(List.range n.2.1.length).map fun(j:Nat)=>((m+j+1:Nat):Int)
 pv:∀ j,j<n.2.2.1.length->Op.bytesLess (hi (m+j)) (n.2.2.1.getD j [])=true/\Op.bytesLess (lo (m+j+1)) (n.2.2.1.getD j [])=false/\(n.2.2.1.getD j []).length<=200
def InnR (lo hi:Nat->List UInt8) (k:Nat) (row:List Nd):Prop:=∀ i,i<row.length->NdOk lo hi k (row.getD i default) (stR row i)
theorem Yg {α:Type} {a b:List α} {i:Nat} {d:α} (h:i<a.length:=by omega):(a ++ b).getD i d=a.getD i d:=by
 rw [List.getD_eq_getElem?_getD,List.getElem?_append_left h,<- List.getD_eq_getElem?_getD]
theorem Ym {α:Type} {a:List α} {x:α} {i:Nat} {d:α} (h:i=a.length:=by omega):(a ++ [x]).getD i d=x:=by
 subst h;rw [List.getD_eq_getElem?_getD,List.getElem?_append_right (Nat.le_refl _),Nat.sub_self]; rfl
theorem InnR.app {lo hi:Nat->List UInt8} {k:Nat} {row:List Nd} {p:Nd} (h:InnR lo hi k row) (hp:NdOk lo hi k p (stR row row.length)):InnR lo hi k (row ++ [p]):=fun i hi'=>by
 rw [lA] at hi';by_cases e:i<row.length
 ·rw [Yg e,J7 _ (by omega)]; exact h i e
 ·have e2:i=row.length:=by simp at hi'; omega
  rw [Ym e2,J7 _ (by omega),e2]; exact hp
structure Gro (l:Tre) (LO HI:Nat->Nat->List UInt8):Prop where
 ne:0<l.length
 leaf:∀ i,i<wd l 0->(ndT l 0 i).1=0/\(ndT l 0 i).2.1=[]/\(ndT l 0 i).2.2.1=[]/\(ndT l 0 i).2.2.2.1=[]/\∀ p∈(ndT l 0 i).2.2.2.2,Op.bytesLess p.1 (LO 0 i)=false/\Op.bytesLess (HI 0 i) p.1=false
 row:∀ k,k+1<l.length->InnR (LO k) (HI k) (k+1) (l.getD (k+1) default)/\stR (l.getD (k+1) default) (wd l (k+1))=wd l k/\∀ i,i<wd l (k+1)->LO (k+1) i=LO k (stR (l.getD (k+1) default) i)/\HI (k+1) i=HI k (stR (l.getD (k+1) default) (i+1) - 1)
 lh:∀ k i,k<l.length->i<wd l k->Op.bytesLess (HI k i) (LO k i)=false
 hl:∀ k i,k<l.length->i+1<wd l k->Op.bytesLess (HI k i) (LO k (i+1))=true
def kidI (n:Nd) (x:TX):Nat:=(n.2.1.getD (Gm n.2.2.1 x) default).toNat - 1
def dn (l:Tre) (x:TX):Nat->Nat
 | 0=>0
 | j+1=>kidI (ndT l (l.length - 1 - j) (dn l x j)) x
section
variable {l:Tre} {LO HI:Nat->Nat->List UInt8}
theorem Gro.nd (G:Gro l LO HI) {k i:Nat} (hk:k+1<l.length) (hi:i<wd l (k+1)):NdOk (LO k) (HI k) (k+1) (ndT l (k+1) i) (stR (l.getD (k+1) default) i):=(G.row k hk).1 i hi
theorem Gro.hlt (G:Gro l LO HI) {k:Nat} (hk:k<l.length) {i:Nat}:∀ {j:Nat},i<j->j<wd l k->Op.bytesLess (HI k i) (LO k j)=true
 | 0,h,_=>by omega
 | j+1,h,hj=>by
  by_cases e:i=j
  ·subst e; exact G.hl k i hk hj
  ·exact Xi (Uk (G.hlt hk (i:=i) (j:=j) (by omega) (by omega)) (G.lh k j hk (by omega))) (G.hl k j hk hj)
theorem Gro.lo_le (G:Gro l LO HI) {k:Nat} (hk:k<l.length) {i j:Nat} (h:i<=j) (hj:j<wd l k):Op.bytesLess (LO k j) (LO k i)=false:=by
 by_cases e:i=j
 ·subst e; exact Vf _
 ·exact Xx (Jb (G.lh k i hk (by omega)) (G.hlt hk (show i<j by omega) hj))
theorem Gro.hi_le (G:Gro l LO HI) {k:Nat} (hk:k<l.length) {i j:Nat} (h:i<=j) (hj:j<wd l k):Op.bytesLess (HI k j) (HI k i)=false:=by
 by_cases e:i=j
 ·subst e; exact Vf _
 ·exact Xx (Uk (G.hlt hk (show i<j by omega) hj) (G.lh k j hk hj))
theorem Gro.rise (G:Gro l LO HI) {k i:Nat} (hk:k+1<l.length) (hi:i<wd l (k+1)):RiseK (fun y=>y) (ndT l (k+1) i).2.2.1:=by
 have n:=G.nd hk hi;have hs:=Xa (row:=l.getD (k+1) default) hi;have hm:=X6 (row:=l.getD (k+1) default) (i:=i+1) (j:=wd l (k+1)) hi (Nat.le_refl _);rw [(G.row k hk).2.1,hs] at hm;have hm':stR (l.getD (k+1) default) i+(ndT l (k+1) i).2.1.length<=wd l k:=hm;have pl:=n.pvl;refine List.pairwise_iff_getElem.2 fun a b ha hb hab=>?_;have h1:=(n.pv a ha).2.1;have h2:=(n.pv b hb).1;rw [Yu ha] at h1;rw [Yu hb] at h2;show Op.bytesLess _ _=true;have h3:Op.bytesLess (HI k (stR (l.getD (k+1) default) i+b)) (LO k (stR (l.getD (k+1) default) i+a+1))=false:=by
  by_cases e:b=a+1
  ·rw [e]; exact G.lh k _ (by omega) (by omega)
  ·exact Xx (Jb (G.lh k _ (by omega) (by omega)) (G.hlt (k:=k) (by omega) (show stR (l.getD (k+1) default) i+a+1<stR (l.getD (k+1) default) i+b by omega) (by omega)) |> fun q=>Uk q (G.lh k _ (by omega) (by omega)))
 exact Jb (Yl h1 h3) h2
theorem Gro.kidI (G:Gro l LO HI) {k i:Nat} (hk:k+1<l.length) (hi:i<wd l (k+1)) (x:TX):Gm (ndT l (k+1) i).2.2.1 x<(ndT l (k+1) i).2.1.length/\kidI (ndT l (k+1) i) x=stR (l.getD (k+1) default) i+Gm (ndT l (k+1) i).2.2.1 x/\(ndT l (k+1) i).2.1.getD (Gm (ndT l (k+1) i).2.2.1 x) default=((kidI (ndT l (k+1) i) x+1:Nat):Int)/\kidI (ndT l (k+1) i) x<wd l k:=by
 have n:=G.nd hk hi;have hs:=Xa (row:=l.getD (k+1) default) hi;have hm:=X6 (row:=l.getD (k+1) default) (i:=i+1) (j:=wd l (k+1)) hi (Nat.le_refl _);rw [(G.row k hk).2.1,hs] at hm;have hm':stR (l.getD (k+1) default) i+(ndT l (k+1) i).2.1.length<=wd l k:=hm;have w1:=(J9 x (G.rise hk hi)).1;have pl:=n.pvl;have hw:Gm (ndT l (k+1) i).2.2.1 x<(ndT l (k+1) i).2.1.length:=by omega
 have e:(ndT l (k+1) i).2.1.getD (Gm (ndT l (k+1) i).2.2.1 x) default=((stR (l.getD (k+1) default) i+Gm (ndT l (k+1) i).2.2.1 x+1:Nat):Int):=by
  rw [n.kid,List.getD_eq_getElem?_getD,List.getElem?_map,List.getElem?_range hw]; rfl
 have e2:Go.SK.T.kidI (ndT l (k+1) i) x=stR (l.getD (k+1) default) i+Gm (ndT l (k+1) i).2.2.1 x:=by
  unfold Go.SK.T.kidI;rw [e]; omega
 exact ⟨hw,e2,by rw [e,e2],by omega⟩
theorem Gro.dn_lt (G:Gro l LO HI) (top:wd l (l.length - 1)=1) (x:TX):∀ j,j<l.length->dn l x j<wd l (l.length - 1 - j)
 | 0,_=>by rw [Nat.sub_zero,top]; exact Nat.one_pos
 | j+1,h=>by
  have ih:=G.dn_lt top x j (by omega);have e:l.length - 1 - j=(l.length - 1 - (j+1))+1:=by omega
  rw [dn];rw [e] at ih ⊢;exact (G.kidI (by omega) ih x).2.2.2
theorem Gro.uniq (G:Gro l LO HI) {k a b:Nat} (hk:k<l.length) (ha:a<wd l k) (hb:b<wd l k) {x:TX} (a1:Op.bytesLess x (LO k a)=false) (a2:Op.bytesLess (HI k a) x=false) (b1:Op.bytesLess x (LO k b)=false) (b2:Op.bytesLess (HI k b) x=false):a=b:=by
 rcases Nat.lt_trichotomy a b with q | q | q
 ·have:=Uk (G.hlt hk q hb) b1; rw [a2] at this; cases this
 ·exact q
 ·have:=Uk (G.hlt hk q ha) a1; rw [b2] at this; cases this
theorem Gro.anc (G:Gro l LO HI) {x:TX} {i:Nat} (hi:i<wd l 0) (h1:Op.bytesLess x (LO 0 i)=false) (h2:Op.bytesLess (HI 0 i) x=false):∀ k,k<l.length->∃ a,a<wd l k/\Op.bytesLess x (LO k a)=false/\Op.bytesLess (HI k a) x=false/\(k=0->a=i)
 | 0,_=>⟨i,hi,h1,h2,fun _=>rfl⟩
 | k+1,hk=>by
  obtain ⟨a,ha,a1,a2,_⟩:=G.anc hi h1 h2 k (by omega);obtain ⟨r1,r2,r3⟩:=G.row k hk;obtain ⟨p,hp,p1,p2⟩:=Jd (row:=l.getD (k+1) default) (a:=a) (m:=wd l (k+1)) (Nat.le_refl _) (by rw [r2]; exact ha);have hm:=X6 (row:=l.getD (k+1) default) (i:=p+1) (j:=wd l (k+1)) hp (Nat.le_refl _);rw [r2] at hm;obtain ⟨e1,e2⟩:=r3 p hp;exact ⟨p,hp,by rw [e1]; exact Yl (G.lo_le (by omega) p1 ha) a1,by rw [e2]; exact Yl a2 (G.hi_le (by omega) (show a<=stR (l.getD (k+1) default) (p+1) - 1 by omega) (by omega)),fun e=>by omega⟩
theorem Gro.dn_in (G:Gro l LO HI) (top:wd l (l.length - 1)=1) {x:TX} {i:Nat} (hi:i<wd l 0) (h1:Op.bytesLess x (LO 0 i)=false) (h2:Op.bytesLess (HI 0 i) x=false):∀ j,j<l.length->Op.bytesLess x (LO (l.length - 1 - j) (dn l x j))=false/\Op.bytesLess (HI (l.length - 1 - j) (dn l x j)) x=false
 | 0,h=>by
  obtain ⟨a,ha,a1,a2,_⟩:=G.anc hi h1 h2 (l.length - 1) (by omega);rw [top] at ha;rw [show a=0 by omega] at a1 a2;exact ⟨a1,a2⟩
 | j+1,h=>by
  obtain ⟨i1,i2⟩:=G.dn_in top hi h1 h2 j (by omega);have ib:=G.dn_lt top x j (by omega);obtain ⟨k,ek⟩:∃ k,l.length - 1 - j=k+1:=⟨l.length - 1 - (j+1),by omega⟩;have ek':l.length - 1 - (j+1)=k:=by omega
  rw [ek] at i1 i2 ib;rw [ek',dn,ek];obtain ⟨a,ha,a1,a2,_⟩:=G.anc hi h1 h2 k (by omega);obtain ⟨r1,r2,r3⟩:=G.row k (by omega);obtain ⟨p,hp,p1,p2⟩:=Jd (row:=l.getD (k+1) default) (a:=a) (m:=wd l (k+1)) (Nat.le_refl _) (by rw [r2]; exact ha);have hm:=X6 (row:=l.getD (k+1) default) (i:=p+1) (j:=wd l (k+1)) hp (Nat.le_refl _);rw [r2] at hm;obtain ⟨e1,e2⟩:=r3 p hp;have ep:p=dn l x j:=G.uniq (by omega) hp ib (by rw [e1]; exact Yl (G.lo_le (by omega) p1 ha) a1) (by rw [e2]; exact Yl a2 (G.hi_le (by omega) (show a<=stR (l.getD (k+1) default) (p+1) - 1 by omega) (by omega))) i1 i2;subst ep;have n:=G.nd (by omega) hp;have hs:=Xa (row:=l.getD (k+1) default) hp;have hs':stR (l.getD (k+1) default) (dn l x j+1)=stR (l.getD (k+1) default) (dn l x j)+(ndT l (k+1) (dn l x j)).2.1.length:=hs;have pl:=n.pvl;have w:AtWay (ndT l (k+1) (dn l x j)).2.2.1 x (a - stR (l.getD (k+1) default) (dn l x j)):=⟨by omega,fun b hb=>?_,fun b hb hbl=>?_⟩
  ·have ew:=w.uniq (J9 x (G.rise (by omega) hp));rw [(G.kidI (by omega) hp x).2.1,<- ew,show stR (l.getD (k+1) default) (dn l x j)+(a - stR (l.getD (k+1) default) (dn l x j))=a by omega];exact ⟨a1,a2⟩
  ·exact Yl (Yl (n.pv b (by omega)).2.1 (G.lo_le (by omega) (show stR (l.getD (k+1) default) (dn l x j)+b+1<=a by omega) ha)) a1
  ·exact Jb (Yl a2 (G.hi_le (k:=k) (by omega) (show a<=stR (l.getD (k+1) default) (dn l x j)+b by omega) (by omega))) (n.pv b hbl).1
theorem Gro.dn_leaf (G:Gro l LO HI) (top:wd l (l.length - 1)=1) {x:TX} {i:Nat} (hi:i<wd l 0) (h1:Op.bytesLess x (LO 0 i)=false) (h2:Op.bytesLess (HI 0 i) x=false):dn l x (l.length - 1)=i:=by
 have hl:=G.ne;have hd:=G.dn_in top hi h1 h2 (l.length - 1) (by omega);have hb:=G.dn_lt top x (l.length - 1) (by omega);rw [Nat.sub_self] at hd hb;exact G.uniq hl hb hi hd.1 hd.2 h1 h2
end
def Zpl (c:Cfg) (N:Nat) (l:Tre):Prop:=∀ k i,0<k->k<l.length->i<wd l k->RiseK mk (ndT l k i).2.2.2.1/\(ndT l k i).2.2.2.1.length<=N/\∀ m∈(ndT l k i).2.2.2.1,Xh c m.1=true/\dn l m.1 (l.length - 1 - k)=i
abbrev Ztl (c:Cfg) (l:Tre):Prop:=Zpl c 100 l
def Ua (row:List Nd):List Pr:=row.flatMap fun n=>n.2.2.2.2
def Lvs (c:Cfg) (l:Tre):Prop:=RiseK pk (Ua (l.getD 0 default))/\(Ua (l.getD 0 default)).length<=150/\∀ p∈Ua (l.getD 0 default),Xh c p.1=true
section
variable {l:Tre} {LO HI:Nat->Nat->List UInt8} {c:Cfg}
end
abbrev Spc:=List Pr×List Msg×List Int×List Int
def LvP (c:Cfg) (l:List Pr):Prop:=RiseK pk l/\l.length<=150/\∀ p∈l,Xh c p.1=true
theorem Zdc {c:Cfg} (hc:OkC c) {x:TX} (h:Xh c x=true):x.length<=64:=by
 have:=hc.key;simp only [Xh,dE] at h;omega
theorem Zr8 {x:Spc} (hx:∀ y∈x.2.2.2,0<=y/\y<256) (i:Nat) {m:Nat} (h1:1<=m) (h2:m<=2000):∃ r:Nat,Q125.f x (i:Int) (m:Int)=some (r:Int)/\1<=r/\r<=m:=by
 unfold Q125.f;by_cases q:x.2.2.2.length=0
 ·exact ⟨m,by rw [iP],h1,Nat.le_refl _⟩
 ·have hm:i % x.2.2.2.length<x.2.2.2.length:=Nat.mod_lt _ (by omega);obtain ⟨y1,y2⟩:=hx _ (Xl (d:=default) hm);obtain ⟨y,ey⟩:=Int.eq_ofNat_of_zero_le y1;have:=Nat.mod_lt y (show 0<m by omega);rw [iN,iO,show Int.tmod (i:Int) (x.2.2.2.length:Int)=((i % x.2.2.2.length:Nat):Int) from rfl,iO,iO,Zw,ey,wI2 (x:=(y:Int)),show Int.tmod (y:Int) (m:Int)=((y % m:Nat):Int) from rfl,wI2];exact ⟨1+y % m,by congr 1,by omega,by omega⟩
theorem Zrb {c:Cfg} (hc:OkC c) {x:Spc}:∀(m i:Nat) (acc:List Pr),i+m=150->RiseK pk acc->acc.length<=i->(∀ p∈acc,Xh c p.1=true)->∃ ks,Ev (fun k=>Q126.l0 k c x acc (i:Int)) ks/\LvP c ks:=by
 have stop:∀(i:Nat) (acc:List Pr),¬ (i<x.1.length/\i<150)->Ev (fun k=>Q126.l0 k c x acc (i:Int)) acc:=fun i acc h=>by
  refine ⟨2,fun k hk=>?_⟩;obtain ⟨k,rfl⟩:=kS2 k;show Q126.l0 (k+2) c x acc (i:Int)=_;rw [Q126.l0];by_cases q:i<x.1.length
  ·rw [iP,dF,Q126.l1,vS]
  ·rw [iN,Q126.l1,vS]
 intro m
 induction m with
 | zero=>intro i acc hi hr hl hk; exact ⟨acc,stop i acc (by omega),hr,by omega,hk⟩
 | succ m ih=>
  intro i acc hi hr hl hk;by_cases q:i<x.1.length
  ·obtain ⟨p,ep⟩:∃ p,p=x.1.getD i default:=⟨_,rfl⟩;have step:∀ k,9000<k->Q126.l0 (k+3) c x acc (i:Int)=if (Xh c p.1 && decide ((p.2.length:Int)<=c.2.2.2.2.2.2.2))=true then Q126.l0 k c x (Xr pk p acc) ((i+1:Nat):Int) else Q126.l0 k c x acc ((i+1:Nat):Int):=fun k hk9=>by
    rw [Q126.l0,iP,dT (show (i:Int)<150 by omega),Q126.l1,iT rfl,iO,Zw,<- ep,Zef,bS];have l2:∀ b:Bool,(b=true->Xh c p.1=true)->Q126.l2 (k+1) c x acc (i:Int) b=if b=true then Q126.l0 k c x (Xr pk p acc) ((i+1:Nat):Int) else Q126.l0 k c x acc ((i+1:Nat):Int):=fun b hb=>by
     rw [Q126.l2,wS2,Zw,<- ep];cases b with
     | false=>rfl
     | true=>
      have:=Zdc hc (hb rfl);rw [iT rfl,iT rfl,iO,Zg6 (by omega) (by omega) (fun y hy=>by have:=Zdc hc (hk y hy); omega) hr (by omega),bS]
    cases e:Xh c p.1 with
    | true=>rw [iT rfl,l2 _ (fun _=>e),Bool.true_and]
    | false=>rw [vS,l2 _ (fun h=>by cases h),Bool.false_and]
   cases e:(Xh c p.1 && decide ((p.2.length:Int)<=c.2.2.2.2.2.2.2)) with
   | true=>
    have ek:Xh c p.1=true:=by rw [Bool.and_eq_true] at e; exact e.1
    obtain ⟨ks,⟨b,hb⟩,g⟩:=ih (i+1) (Xr pk p acc) (by omega) (Jp pk hr) (by have:=Bv pk p acc; omega) (fun y hy=>by rcases Zaq pk hy with rfl | hy; exact ek; exact hk y hy);refine ⟨ks,⟨b+9005,fun k kk=>?_⟩,g⟩;obtain ⟨k,rfl⟩:=kS3 k;show Q126.l0 (k+3) c x acc (i:Int)=_;rw [step k (by omega),e,iT rfl];exact hb k (by omega)
   | false=>
    obtain ⟨ks,⟨b,hb⟩,g⟩:=ih (i+1) acc (by omega) hr (by omega) hk;refine ⟨ks,⟨b+9005,fun k kk=>?_⟩,g⟩;obtain ⟨k,rfl⟩:=kS3 k;show Q126.l0 (k+3) c x acc (i:Int)=_;rw [step k (by omega),e,vS];exact hb k (by omega)
  ·exact ⟨acc,stop i acc (by omega),hr,by omega,hk⟩
theorem Zsv {c:Cfg} (hc:OkC c) (x:Spc):∃ ks,Ev (fun k=>Q126.f k c x) ks/\LvP c ks:=Zrb hc 150 0 [] (by omega) List.Pairwise.nil (Nat.le_refl _) (by simp)
theorem Zqy {c:Cfg} {x:Spc}:∀(m i:Nat) (acc:List Msg),i+m=100->acc.length<=i->(∀ p∈acc,Xh c p.1=true)->∃ ks:List Msg,Ev (fun k=>Q127.l0 k c x acc (i:Int)) ks/\ks.length<=100/\∀ p∈ks,Xh c p.1=true:=by
 have stop:∀(i:Nat) (acc:List Msg),¬ (i<x.2.1.length/\i<100)->Ev (fun k=>Q127.l0 k c x acc (i:Int)) acc:=fun i acc h=>by
  refine ⟨2,fun k hk=>?_⟩;obtain ⟨k,rfl⟩:=kS2 k;show Q127.l0 (k+2) c x acc (i:Int)=_;rw [Q127.l0];by_cases q:i<x.2.1.length
  ·rw [iP,dF,Q127.l1,vS]
  ·rw [iN,Q127.l1,vS]
 intro m
 induction m with
 | zero=>intro i acc hi hl hk; exact ⟨acc,stop i acc (by omega),by omega,hk⟩
 | succ m ih=>
  intro i acc hi hl hk;by_cases q:i<x.2.1.length
  ·obtain ⟨p,ep⟩:∃ p,p=x.2.1.getD i default:=⟨_,rfl⟩;have step:∃ b:Bool,(b=true->Xh c p.1=true)/\∀ k,Q127.l0 (k+3) c x acc (i:Int)=if b=true then Q127.l0 k c x (acc ++ [p]) ((i+1:Nat):Int) else Q127.l0 k c x acc ((i+1:Nat):Int):=by
    have l2:∀(b:Bool) (k:Nat),Q127.l2 (k+1) c x acc (i:Int) b=if b=true then Q127.l0 k c x (acc ++ [p]) ((i+1:Nat):Int) else Q127.l0 k c x acc ((i+1:Nat):Int):=fun b k=>by
     rw [Q127.l2,wS2,Zw,<- ep];cases b with
     | false=>rfl
     | true=>rw [iT rfl,iT rfl,iV]
    have l1:∀ k,Q127.l0 (k+3) c x acc (i:Int)=if Xh c p.1=true then (if decide ((p.2.2.length:Int)<=c.2.2.2.2.2.2.2)=true then (if (!p.2.1)=true then Q127.l2 (k+1) c x acc (i:Int) true else Q127.l2 (k+1) c x acc (i:Int) (decide (p.2.2=[]))) else Q127.l2 (k+1) c x acc (i:Int) false) else Q127.l2 (k+1) c x acc (i:Int) false:=fun k=>by
     rw [Q127.l0,iP,dT (show (i:Int)<100 by omega),Q127.l1,iT rfl,iO,Zw,<- ep,Zef,bS]
    cases e:Xh c p.1 with
    | false=>exact ⟨false,nofun,fun k=>by rw [l1,e,vS,l2]⟩
    | true=>
     by_cases e2:(p.2.2.length:Int)<=c.2.2.2.2.2.2.2
     ·cases e3:p.2.1 with
      | false=>exact ⟨true,fun _=>rfl,fun k=>by rw [l1,e,e3,iT rfl,iT (dT e2),iT (by rfl),l2]⟩
      | true=>exact ⟨decide (p.2.2=[]),fun _=>rfl,fun k=>by rw [l1,e,e3,iT rfl,iT (dT e2),vS,l2]⟩
     ·exact ⟨false,nofun,fun k=>by rw [l1,e,iT rfl,iF (by simpa using e2),l2]⟩
   obtain ⟨b,hb1,hb2⟩:=step;cases b with
   | true=>
    obtain ⟨ks,⟨b,hb⟩,g⟩:=ih (i+1) (acc ++ [p]) (by omega) (by simp; omega) (fun y hy=>by rcases List.mem_append.1 hy with hy | hy; exact hk y hy; rw [List.mem_singleton.1 hy]; exact hb1 rfl);refine ⟨ks,⟨b+3,fun k kk=>?_⟩,g⟩;obtain ⟨k,rfl⟩:=kS3 k;show Q127.l0 (k+3) c x acc (i:Int)=_;rw [hb2,iT rfl];exact hb k (by omega)
   | false=>
    obtain ⟨ks,⟨b,hb⟩,g⟩:=ih (i+1) acc (by omega) (by omega) hk;refine ⟨ks,⟨b+3,fun k kk=>?_⟩,g⟩;obtain ⟨k,rfl⟩:=kS3 k;show Q127.l0 (k+3) c x acc (i:Int)=_;rw [hb2,vS];exact hb k (by omega)
  ·exact ⟨acc,stop i acc (by omega),by omega,hk⟩
theorem Zti (c:Cfg) (x:Spc):∃ ks:List Msg,Ev (fun k=>Q127.f k c x) ks/\ks.length<=100/\∀ p∈ks,Xh c p.1=true:=Zqy 100 0 [] (by omega) (Nat.le_refl _) (by simp)
theorem Zsm {out:Tre} {LO HI:Nat->Nat->List UInt8} (G:Gro out LO HI) {up:List Nd} {a b:TO} (inn:InnR (LO (out.length - 1)) (HI (out.length - 1)) out.length up) (st:stR up up.length=wd out (out.length - 1)) (ab:∀ j,j<up.length->a.getD j []=LO (out.length - 1) (stR up j)/\b.getD j []=HI (out.length - 1) (stR up (j+1) - 1)):Gro (out ++ [up]) (upd LO out.length fun i=>a.getD i []) (upd HI out.length fun i=>b.getD i []):=by
 have hne:=G.ne;have eg:∀ k,k<out.length->(out ++ [up]).getD k default=out.getD k default:=fun k h=>Yg h;have en:(out ++ [up]).getD out.length default=up:=Ym rfl;have wg:∀ k,k<out.length->wd (out ++ [up]) k=wd out k:=fun k h=>by unfold wd; rw [eg k h]
 have wn:wd (out ++ [up]) out.length=up.length:=by unfold wd; rw [en]
 have ll:(out ++ [up]).length=out.length+1:=by simp
 have kd:∀ i,i<up.length->stR up i+1<=stR up (i+1)/\stR up (i+1)<=wd out (out.length - 1):=fun i hi=>by
  have h1:=Xa hi;have h2:=(inn i hi).pvl;have h3:=X6 (row:=up) (i:=i+1) (j:=up.length) hi (Nat.le_refl _);omega
 refine ⟨by omega,fun i hi=>?_,fun k hk=>?_,fun k i hk hi=>?_,fun k i hk hi=>?_⟩
 ·rw [wg 0 hne] at hi;unfold ndT;rw [eg 0 hne,Yh,Yh];exact G.leaf i hi
 ·rw [ll] at hk;by_cases e:k+1<out.length
  ·rw [eg _ e,wg _ e,wg k (by omega),Yh (g:=LO) (show k≠out.length by omega),Yh (g:=HI) (show k≠out.length by omega),Yh (g:=LO) (show k+1≠out.length by omega),Yh (g:=HI) (show k+1≠out.length by omega)];exact G.row k e
  ·have e2:k+1=out.length:=by omega
   have e3:k=out.length - 1:=by omega
   rw [wg k (by omega),Yh (g:=LO) (show k≠out.length by omega),Yh (g:=HI) (show k≠out.length by omega),e2,en,wn,Z5,Z5,e3];exact ⟨inn,st,ab⟩
 ·rw [ll] at hk;by_cases e:k<out.length
  ·rw [wg k e] at hi;rw [Yh,Yh];exact G.lh k i e hi
  ·have e2:k=out.length:=by omega
   subst e2;rw [wn] at hi;obtain ⟨h1,h2⟩:=kd i hi;rw [Z5,Z5,(ab i hi).1,(ab i hi).2];exact Yl (G.lh (out.length - 1) _ (by omega) (by omega)) (G.hi_le (by omega) (show stR up i<=stR up (i+1) - 1 by omega) (by omega))
 ·rw [ll] at hk;by_cases e:k<out.length
  ·rw [wg k e] at hi;rw [Yh,Yh];exact G.hl k i e hi
  ·have e2:k=out.length:=by omega
   subst e2;rw [wn] at hi;obtain ⟨h1,h2⟩:=kd i (by omega);obtain ⟨h3,h4⟩:=kd (i+1) hi;rw [Z5,Z5,(ab (i+1) hi).1,(ab i (by omega)).2];have:=G.hl (out.length - 1) (stR up (i+1) - 1) (by omega) (by omega)
   rwa [show stR up (i+1) - 1+1=stR up (i+1) by omega] at this
structure GoodT (c:Cfg) (r:Tre):Prop where
 gro:∃ LO HI,Gro r LO HI
 top:wd r (r.length - 1)=1
 len:r.length<=6
 lvs:Lvs c r
 buf:Ztl c r
 wb:∀ k,k<r.length->wd r k<=151
structure UpSt (c:Cfg) (out:Tre) (lo hi:TO):Prop where
 gro:∃ LO HI,Gro out LO HI/\LO (out.length - 1)=(fun i=>lo.getD i [])/\HI (out.length - 1)=fun i=>hi.getD i []
 len:out.length<=6
 ll:lo.length=wd out (out.length - 1)
 hl:hi.length=wd out (out.length - 1)
 sh:∀ i,(lo.getD i []).length<=200/\(hi.getD i []).length<=200
 w1:1<=wd out (out.length - 1)
 wb:∀ k,k<out.length->wd out k<=151
 lvs:Lvs c out
 buf:∀ k i,k<out.length->i<wd out k->(ndT out k i).2.2.2.1=[]
structure UpRow (lo hi:TO) (K N:Nat) (up:List Nd) (a b:TO) (i:Nat):Prop where
 inn:InnR (fun i=>lo.getD i []) (fun i=>hi.getD i []) K up
 st:stR up up.length=i
 al:a.length=up.length
 bl:b.length=up.length
 ab:∀ j,j<up.length->a.getD j []=lo.getD (stR up j) []/\b.getD j []=hi.getD (stR up (j+1) - 1) []
 le:up.length<=i
 bf:∀ j,j<up.length->(up.getD j default).2.2.2.1=[]
section
variable {c:Cfg} {x:Spc} {lo hi:TO} {out:Tre}
theorem Zrx (hc:OkC c) (hx:∀ y∈x.2.2.2,0<=y/\y<256) (U:UpSt c out lo hi) {up:List Nd} {a b:TO} {i t nn:Nat} {r:Int} (R:UpRow lo hi out.length (wd out (out.length - 1)) up a b i)
  (hn:mnI (mxI r 2) (w64 (((out.getD (out.length - 1) default).length:Int) - (i:Int)))=(nn:Int)) (n1:1<=nn) (n2:nn<=64) (n3:i+nn<=wd out (out.length - 1)) (ht:t<=5000)
  {u:Nat} (hu:up.length=u) (H:∀(up:List Nd) (a b:TO),UpRow lo hi out.length (wd out (out.length - 1)) up a b (i+nn)->up.length=u+1->∃ q,Ev (fun k=>Q123.l6 k c x (out.getD (out.length - 1) default) lo hi out ((t+1:Nat):Int) up a b ((i+nn:Nat):Int)) q/\GoodT c q) :
  ∀(m j:Nat) (kd:T0) (pv:TO),j+m=nn->kd=((List.range j).map fun(q:Nat)=>((i+q+1:Nat):Int))->pv.length=j - 1->(∀ q,q<pv.length->Op.bytesLess (hi.getD (i+q) []) (pv.getD q [])=true/\Op.bytesLess (lo.getD (i+q+1) []) (pv.getD q [])=false/\(pv.getD q []).length<=200)->
  ∃ q,Ev (fun k=>Q123.l8 k c x r (out.getD (out.length - 1) default) lo hi out (t:Int) up a b (i:Int) kd pv (j:Int)) q/\GoodT c q:=by
 obtain ⟨LO,HI,G,eL,eH⟩:=U.gro;have hne:=G.ne;have wB:=U.wb (out.length - 1) (by omega);have hol:=U.len;have h1:=U.ll;have h2:=U.hl;intro m
 induction m with
 | zero=>
  intro j kd pv hj hkd hpl hpv;have ej:j=nn:=by omega
  subst ej;obtain ⟨q,⟨b0,hb⟩,g⟩:=H (up ++ [((out.length:Int),kd,pv,[],[])]) (a ++ [lo.getD i []]) (b ++ [hi.getD (i+j - 1) []]) ⟨R.inn.app ⟨rfl,rfl,by rw [hkd]; simp; omega,by rw [hkd]; simp; omega,by rw [R.st]; rw [hkd]; simp,fun q hq=>by rw [R.st]; exact hpv q hq⟩,by
    rw [lA,show up.length+[((out.length:Int),kd,pv,([]:List Msg),([]:List Pr))].length=up.length+1 from rfl,Xa (by simp),J7 _ (Nat.le_refl _),R.st,Ym rfl,hkd]; simp,by simp [R.al],by simp [R.bl],fun q hq=>by
    rw [lA] at hq;by_cases e:q<up.length
    ·rw [Yg (by rw [R.al]; exact e),Yg (by rw [R.bl]; exact e),J7 _ (by omega),J7 _ (by omega)];exact R.ab q e
    ·have e2:q=up.length:=by simp at hq; omega
     rw [Ym (by rw [R.al,e2]),Ym (by rw [R.bl,e2]),Xa (by simp; omega),J7 _ (by omega),e2,R.st,Ym rfl,hkd];simp,by have:=R.le; simp; omega,fun q hq=>by
    rw [lA] at hq;by_cases e:q<up.length
    ·rw [Yg e]; exact R.bf q e
    ·rw [Ym (by simp at hq; omega)]⟩ (by simp; omega)
  refine ⟨q,⟨b0+2,fun k hk=>?_⟩,g⟩;obtain ⟨k,rfl⟩:=kS2 k;have hb':=hb k (by omega);have hle:=R.le;have hal:=R.al;have hbl:=R.bl;show Q123.l8 (k+2) c x r _ lo hi out (t:Int) up a b (i:Int) kd pv (j:Int)=_;rw [Q123.l8,hn,vS,Q123.l7,hn,wI2 (x:=(i:Int)+(j:Int)),wI2 (x:=(i:Int)+(j:Int) - 1),iV,iO,iO,iV,iV,Zw,wS2,show (i:Int)+(j:Int) - 1=((i+j - 1:Nat):Int) by omega,Zw,show (i:Int)+(j:Int)=((i+j:Nat):Int) by omega];exact hb'
 | succ m ih=>
  intro j kd pv hj hkd hpl hpv;have kl:kd.length=j:=by rw [hkd]; simp
  have ek:kd ++ [((i+j+1:Nat):Int)]=(List.range (j+1)).map fun(q:Nat)=>((i+q+1:Nat):Int):=by rw [hkd,List.range_succ,List.map_append]; rfl
  have head:∀ k,Q123.l8 (k+1) c x r (out.getD (out.length - 1) default) lo hi out (t:Int) up a b (i:Int) kd pv (j:Int)=if 0<j then ((Q132.f k (hi.getD (i+j - 1) []) (lo.getD (i+j) [])).bind fun r6=>(if (pv.length+([r6.1]:List TX).length)*16<=140737488355328 then Q123.l8 k c x r (out.getD (out.length - 1) default) lo hi out (t:Int) up a b (i:Int) (kd ++ [((i+j+1:Nat):Int)]) (pv ++ [r6.1]) ((j+1:Nat):Int) else none)) else Q123.l8 k c x r (out.getD (out.length - 1) default) lo hi out (t:Int) up a b (i:Int) (kd ++ [((i+j+1:Nat):Int)]) pv ((j+1:Nat):Int):=fun k=>by
   rw [Q123.l8,hn,iP,wI2 (x:=(i:Int)+(j:Int)),wI2 (x:=(i:Int)+(j:Int)+1),show (i:Int)+(j:Int)+1=((i+j+1:Nat):Int) by omega,Zhb (by omega),iV];by_cases q:0<j
   ·rw [iP,wI2 (x:=(i:Int)+(j:Int) - 1),iO,iO,show (i:Int)+(j:Int) - 1=((i+j - 1:Nat):Int) by omega,Zw,show (i:Int)+(j:Int)=((i+j:Nat):Int) by omega,Zw,wS2,iT q];rfl
   ·rw [iN,wS2,iF q]
  by_cases q:0<j
  ·have hlt:Op.bytesLess (hi.getD (i+j - 1) []) (lo.getD (i+j) [])=true:=by
    have:=G.hl (out.length - 1) (i+j - 1) (by omega) (by omega);rw [eL,eH] at this
    rwa [show i+j - 1+1=i+j by omega] at this
   obtain ⟨s1,_⟩:=U.sh (i+j);obtain ⟨_,s2⟩:=U.sh (i+j - 1);obtain ⟨z,⟨b0,hb⟩,g⟩:=ih (j+1) (kd ++ [((i+j+1:Nat):Int)]) (pv ++ [(lo.getD (i+j) []).take (shd (hi.getD (i+j - 1) []) (lo.getD (i+j) [])+1)]) (by omega) ek (by simp; omega) (fun w hw=>by
    rw [lA] at hw;by_cases e:w<pv.length
    ·rw [Yg e]; exact hpv w e
    ·have e2:w=pv.length:=by simp at hw; omega
     rw [Ym e2,show i+w=i+j - 1 by omega,show i+j - 1+1=i+j by omega];exact ⟨Gd hlt,Zd0 _ _,by rw [length_take]; omega⟩)
   refine ⟨z,⟨b0+6000,fun k hk=>?_⟩,g⟩;obtain ⟨k,rfl⟩:=kS1 k;show Q123.l8 (k+1) c x r _ lo hi out (t:Int) up a b (i:Int) kd pv (j:Int)=_;rw [head,iT q,Zjo (by omega) (by omega) (by omega),iT hlt,bS,iV];exact hb k (by omega)
  ·obtain ⟨z,⟨b0,hb⟩,g⟩:=ih (j+1) (kd ++ [((i+j+1:Nat):Int)]) pv (by omega) ek (by omega) hpv;refine ⟨z,⟨b0+1,fun k hk=>?_⟩,g⟩;obtain ⟨k,rfl⟩:=kS1 k;show Q123.l8 (k+1) c x r _ lo hi out (t:Int) up a b (i:Int) kd pv (j:Int)=_;rw [head,iF q];exact hb k (by omega)
theorem Zri (hc:OkC c) (hx:∀ y∈x.2.2.2,0<=y/\y<256) (U:UpSt c out lo hi)
  (H:∀(up:List Nd) (a b:TO) (t:Nat),UpSt c (out ++ [up]) a b->t<=200*(out.length+1)->∃ q,Ev (fun k=>Q123.l3 k c x up a b (t:Int) (out ++ [up])) q/\GoodT c q) (w2:1<wd out (out.length - 1)) (l6:out.length<6) :
  ∀(m i:Nat) (up:List Nd) (a b:TO) (t:Nat),wd out (out.length - 1) - i<=m->i<=wd out (out.length - 1)->UpRow lo hi out.length (wd out (out.length - 1)) up a b i->t<=200*out.length+up.length->∃ q,Ev (fun k=>Q123.l6 k c x (out.getD (out.length - 1) default) lo hi out (t:Int) up a b (i:Int)) q/\GoodT c q:=by
 obtain ⟨LO,HI,G,eL,eH⟩:=U.gro;have hne:=G.ne;have wB:=U.wb (out.length - 1) (by omega);obtain ⟨F,eF⟩:=Int.eq_ofNat_of_zero_le (show 0<=c.2.2.2.1 by have:=hc.fan; omega);have hF:=hc.fan;intro m
 induction m with
 | zero=>
  intro i up a b t hm hi R ht;have ei:i=wd out (out.length - 1):=by omega
  have hu:=R.le;have hinn:InnR (LO (out.length - 1)) (HI (out.length - 1)) out.length up:=by rw [eL,eH]; exact R.inn
  have hup:1<=up.length:=by
   apply Nat.one_le_iff_ne_zero.2;intro e;have:=R.st;rw [e,Gg] at this;omega
  have e1:(out ++ [up]).length - 1=out.length:=by simp
  have en:(out ++ [up]).getD out.length default=up:=Ym rfl;have U':UpSt c (out ++ [up]) a b:=by
   refine ⟨⟨_,_,Zsm G hinn (by rw [R.st,ei]) (fun j hj=>by rw [eL,eH]; exact R.ab j hj),by rw [e1,Z5],by rw [e1,Z5]⟩,by simp; omega,by rw [e1,R.al]; unfold wd; rw [en],by rw [e1,R.bl]; unfold wd; rw [en],fun j=>?_,by rw [e1]; unfold wd; rw [en]; exact hup,fun k hk=>?_,?_,fun k j hk hj=>?_⟩
   ·by_cases q:j<up.length
    ·rw [(R.ab j q).1,(R.ab j q).2];exact ⟨(U.sh _).1,(U.sh _).2⟩
    ·rw [List.getD_eq_getElem?_getD,List.getD_eq_getElem?_getD,List.getElem?_eq_none (by have:=R.al; omega),List.getElem?_eq_none (by have:=R.bl; omega)];exact ⟨Nat.zero_le _,Nat.zero_le _⟩
   ·rw [lA] at hk;by_cases q:k<out.length
    ·unfold wd; rw [Yg q]; exact U.wb k q
    ·rw [show k=out.length by simp at hk; omega]; unfold wd; rw [en]; omega
   ·unfold Lvs;rw [Yg hne];exact U.lvs
   ·rw [lA] at hk;by_cases q:k<out.length
    ·unfold wd at hj; unfold ndT;rw [Yg q] at hj ⊢;exact U.buf k j q hj
    ·have ek:k=out.length:=by simp at hk; omega
     subst ek;unfold wd at hj; unfold ndT;rw [en] at hj ⊢;exact R.bf j hj
  obtain ⟨q,⟨b0,hb⟩,g⟩:=H up a b t U' (by omega);refine ⟨q,⟨b0+2,fun k hk=>?_⟩,g⟩;obtain ⟨k,rfl⟩:=kS2 k;show Q123.l6 (k+2) c x _ _ _ out (t:Int) up a b (i:Int)=_;rw [Q123.l6,iF (by simp only [dE]; unfold wd at ei; omega),Q123.l5,iV];exact hb k (by omega)
 | succ m ih=>
  intro i up a b t hm hi R ht;by_cases q:i<wd out (out.length - 1)
  ·have hu:=R.le;have hst:up.length<=151:=by omega
   obtain ⟨r,er,r1,r2⟩:=Zr8 hx t (m:=F) (by omega) (by omega);obtain ⟨nn,hn,n1,n2,n3⟩:∃ nn:Nat,mnI (mxI (r:Int) 2) (w64 (((out.getD (out.length - 1) default).length:Int) - (i:Int)))=(nn:Int)/\1<=nn/\nn<=64/\i+nn<=wd out (out.length - 1):=by
    unfold wd at q wB ⊢;unfold mnI mxI;rw [wI2];by_cases q1:(r:Int)>2
    ·rw [iT q1];by_cases q2:(r:Int)<((out.getD (out.length - 1) default).length:Int) - (i:Int)
     ·rw [iT q2]; exact ⟨r,rfl,by omega,by omega,by omega⟩
     ·rw [iF q2]; exact ⟨(out.getD (out.length - 1) default).length - i,by omega,by omega,by omega,by omega⟩
    ·rw [iF q1];by_cases q2:(2:Int)<((out.getD (out.length - 1) default).length:Int) - (i:Int)
     ·rw [iT q2]; exact ⟨2,rfl,by omega,by omega,by omega⟩
     ·rw [iF q2]; exact ⟨(out.getD (out.length - 1) default).length - i,by omega,by omega,by omega,by omega⟩
   obtain ⟨z,⟨b0,hb⟩,g⟩:=Zrx hc hx U R hn n1 n2 n3 (by omega) rfl (fun up' a' b' R' e=>ih (i+nn) up' a' b' (t+1) (by omega) n3 R' (by omega)) nn 0 [] [] (by omega) rfl rfl (fun w hw=>absurd hw (Nat.not_lt_zero _));refine ⟨z,⟨b0+1,fun k hk=>?_⟩,g⟩;obtain ⟨k,rfl⟩:=kS1 k;show Q123.l6 (k+1) c x _ _ _ out (t:Int) up a b (i:Int)=_;rw [Q123.l6,iT (dT (by unfold wd at q; omega)),eF,er,bS];exact hb k (by omega)
  ·exact ih i up a b t (by omega) hi R ht
end
theorem Zm2 {α β:Type} (f:α->β) (l:List α) (i:Nat) (d:α):(l.map f).getD i (f d)=f (l.getD i d):=by
 rw [List.getD_eq_getElem?_getD,List.getElem?_map,List.getD_eq_getElem?_getD];cases l[i]? <;> rfl
def Je (n:Nd):Int×List Int×List TX×List Pr:=(n.1,n.2.1,n.2.2.1,n.2.2.2.2)
structure SameB (l r:Tre):Prop where
 len:r.length=l.length
 row:∀ k,(r.getD k default).map Je=(l.getD k default).map Je
theorem Bs {n m:Nd} (h:Je n=Je m):n.1=m.1/\n.2.1=m.2.1/\n.2.2.1=m.2.2.1/\n.2.2.2.2=m.2.2.2.2:=⟨congrArg (fun z=>z.1) h,congrArg (fun z=>z.2.1) h,congrArg (fun z=>z.2.2.1) h,congrArg (fun z=>z.2.2.2) h⟩
section
variable {l r q:Tre} {LO HI:Nat->Nat->List UInt8} {c:Cfg}
theorem SameB.rfl' (l:Tre):SameB l l:=⟨rfl,fun _=>rfl⟩
theorem SameB.trans (S:SameB l r) (T:SameB r q):SameB l q:=⟨T.len.trans S.len,fun k=>(T.row k).trans (S.row k)⟩
theorem SameB.wd (S:SameB l r) (k:Nat):wd r k=wd l k:=by
 have:=congrArg List.length (S.row k);simpa [T.wd] using this
theorem SameB.nd (S:SameB l r) (k i:Nat):Je (ndT r k i)=Je (ndT l k i):=by
 have:=congrArg (fun z=>z.getD i (Je default)) (S.row k);simp only [Zm2] at this;exact this
theorem SameB.st (S:SameB l r) (k i:Nat):stR (r.getD k default) i=stR (l.getD k default) i:=by
 have e:∀ row:List Nd,row.map (fun n=>n.2.1.length)=(row.map Je).map fun s=>s.2.1.length:=fun row=>by rw [List.map_map]; rfl
 unfold stR;rw [e,e,S.row]
theorem SameB.flat (S:SameB l r) (k:Nat):Ua (r.getD k default)=Ua (l.getD k default):=by
 have e:∀ row:List Nd,Ua row=(row.map Je).flatMap fun s=>s.2.2.2:=fun row=>by rw [List.flatMap_map]; rfl
 rw [e,e,S.row]
theorem SameB.kid (S:SameB l r) (k i:Nat) (x:TX):kidI (ndT r k i) x=kidI (ndT l k i) x:=by
 obtain ⟨_,h2,h3,_⟩:=Bs (S.nd k i);unfold kidI;rw [h2,h3]
theorem SameB.dn (S:SameB l r) (x:TX):∀ j,dn r x j=dn l x j
 | 0=>rfl
 | j+1=>by rw [T.dn,T.dn,S.dn x j,S.len,S.kid]
theorem SameB.gro (S:SameB l r) (G:Gro l LO HI) (h0:∀ i,i<T.wd l 0->(ndT r 0 i).2.2.2.1=[]):Gro r LO HI:=by
 refine ⟨by rw [S.len]; exact G.ne,fun i hi=>?_,fun k hk=>?_,fun k i hk hi=>?_,fun k i hk hi=>?_⟩
 ·rw [S.wd] at hi;obtain ⟨a1,a2,a3,a4⟩:=Bs (S.nd 0 i);obtain ⟨g1,g2,g3,_,g5⟩:=G.leaf i hi;rw [a1,a2,a3,a4];exact ⟨g1,g2,g3,h0 i hi,g5⟩
 ·rw [S.len] at hk;obtain ⟨r1,r2,r3⟩:=G.row k hk;refine ⟨fun i hi=>?_,by rw [S.wd,S.wd,S.st]; exact r2,fun i hi=>?_⟩
  ·have hi':i<(l.getD (k+1) default).length:=by have:=S.wd (k+1); unfold T.wd at this; omega
   obtain ⟨a1,a2,a3,a4⟩:=Bs (S.nd (k+1) i);have n:=r1 i hi';unfold ndT at a1 a2 a3 a4;rw [S.st];exact ⟨by rw [a1]; exact n.lvl,by rw [a4]; exact n.prs,by rw [a2,a3]; exact n.pvl,by rw [a2]; exact n.fan,by rw [a2]; exact n.kid,by rw [a3]; exact n.pv⟩
  ·rw [S.wd] at hi;rw [S.st,S.st];exact r3 i hi
 ·rw [S.len] at hk; rw [S.wd] at hi; exact G.lh k i hk hi
 ·rw [S.len] at hk; rw [S.wd] at hi; exact G.hl k i hk hi
end
def Zak (l:Tre) (k i:Nat) (b:List Msg):Tre:=l.set k ((l.getD k default).set i ((ndT l k i).1,(ndT l k i).2.1,(ndT l k i).2.2.1,b,(ndT l k i).2.2.2.2))
theorem Zbi {α:Type} (l:List α) (k j:Nat) (v d:α):(l.set k v).getD j d=if j=k/\k<l.length then v else l.getD j d:=by
 rw [List.getD_eq_getElem?_getD,List.getElem?_set,List.getD_eq_getElem?_getD];by_cases e:k=j
 ·subst e;by_cases h:k<l.length
  ·rw [iT rfl,iT h,iT ⟨rfl,h⟩]; rfl
  ·rw [iT rfl,iF h,iF (fun z=>h z.2),List.getElem?_eq_none (by omega)]
 ·rw [iF e,iF (fun z=>e z.1.symm)]
theorem Zj2 {l:Tre} {k i:Nat} (hk:k<l.length) (hi:i<wd l k) (b:List Msg) (k' i':Nat):(ndT (Zak l k i b) k' i').2.2.2.1=if k'=k/\i'=i then b else (ndT l k' i').2.2.2.1:=by
 unfold ndT Zak;rw [Zbi];by_cases e:k'=k
 ·subst e;rw [iT ⟨rfl,hk⟩,Zbi];by_cases e2:i'=i
  ·subst e2;rw [iT ⟨rfl,hi⟩,iT ⟨rfl,rfl⟩]
  ·rw [iF (fun z=>e2 z.1),iF (fun z=>e2 z.2)]
 ·rw [iF (fun z=>e z.1),iF (fun z=>e z.1)]
theorem Zmq (l:Tre) (k i:Nat) (b:List Msg):SameB l (Zak l k i b):=by
 refine ⟨by unfold Zak; rw [length_set],fun j=>?_⟩;unfold Zak;rw [Zbi];by_cases e:j=k/\k<l.length
 ·rw [iT e,e.1,List.map_set];refine List.ext_getElem? fun z=>?_;rw [List.getElem?_set];by_cases ez:i=z
  ·subst ez;rw [iT rfl,List.getElem?_map];by_cases h:i<((l.getD k default).map Je).length
   ·rw [iT h];rw [length_map] at h;unfold ndT;rw [Yu h,List.getElem?_eq_getElem h];rfl
   ·rw [iF h];rw [length_map] at h;rw [List.getElem?_eq_none (by omega)]; rfl
  ·rw [iF ez]
 ·rw [iF e]
section
variable {l:Tre} {LO HI:Nat->Nat->List UInt8} {c:Cfg} {N:Nat}
structure PutS (c:Cfg) (N:Nat) (l r:Tre):Prop where
 same:SameB l r
 buf:Zpl c N r
 z:∀ i,i<wd l 0->(ndT r 0 i).2.2.2.1=[]
theorem Zog {l0 l:Tre} (S:PutS c N l0 l) {m:Msg} (hm:Xh c m.1=true) {k:Nat} (h0:0<k) (hk:k<l.length) (hi:dn l m.1 (l.length - 1 - k)<wd l k):PutS c (N+1) l0 (Zak l k (dn l m.1 (l.length - 1 - k)) (Xr mk m (ndT l k (dn l m.1 (l.length - 1 - k))).2.2.2.1)):=by
 have V:=Zmq l k (dn l m.1 (l.length - 1 - k)) (Xr mk m (ndT l k (dn l m.1 (l.length - 1 - k))).2.2.2.1);refine ⟨S.same.trans V,fun k' i' p0 p1 p2=>?_,fun i h=>?_⟩
 ·rw [V.len] at p1 ⊢;rw [V.wd] at p2;rw [Zj2 hk hi];obtain ⟨b1,b2,b3⟩:=S.buf k' i' p0 p1 p2;by_cases e:k'=k/\i'=dn l m.1 (l.length - 1 - k)
  ·obtain ⟨rfl,rfl⟩:=e;rw [iT ⟨rfl,rfl⟩];refine ⟨Jp mk b1,by have:=Bv mk m (ndT l k' (dn l m.1 (l.length - 1 - k'))).2.2.2.1; omega,fun y hy=>?_⟩;rw [V.dn];rcases Zaq mk hy with rfl | hy
   ·exact ⟨hm,rfl⟩
   ·exact b3 y hy
  ·rw [iF e];exact ⟨b1,by omega,fun y hy=>by rw [V.dn]; exact b3 y hy⟩
 ·rw [Zj2 hk hi,iF (fun z=>by omega)];exact S.z i h
theorem PutS.more {l0 l:Tre} (S:PutS c N l0 l):PutS c (N+1) l0 l:=⟨S.same,fun k i h1 h2 h3=>by obtain ⟨b1,b2,b3⟩:=S.buf k i h1 h2 h3; exact ⟨b1,by omega,b3⟩,S.z⟩
theorem Zjv (hc:OkC c) {l0:Tre} (S:PutS c N l0 l) (hN:N<=200) (G:Gro l LO HI) (top:wd l (l.length - 1)=1) (h6:l.length<=6) (wb:∀ k,k<l.length->wd l k<=151) {m:Msg} (hm:Xh c m.1=true) (most:Int):∀(lev d:Nat),d<=1000->lev<l.length->∃ r,Ev (fun k=>Q145.l0 k l m most (d:Int) ((dn l m.1 (l.length - 1 - lev):Nat):Int) (lev:Int)) r/\PutS c (N+1) l0 r
 | 0,d,hd,hl=>⟨l,⟨1,fun k hk=>by
   obtain ⟨k,rfl⟩:=kS1 k;show Q145.l0 (k+1) l m most (d:Int) _ ((0:Nat):Int)=_;rw [Q145.l0,vS]⟩,S.more⟩
 | lev+1,d,hd,hl=>by
  have hi:=G.dn_lt top m.1 (l.length - 1 - (lev+1)) (by omega);rw [show l.length - 1 - (l.length - 1 - (lev+1))=lev+1 by omega] at hi;have hi2:=hi;unfold wd at hi2;have hw:=wb (lev+1) hl;have hkl:=Zdc hc hm;obtain ⟨b1,b2,b3⟩:=S.buf (lev+1) _ (by omega) hl hi;have kd:=G.kidI hl hi m.1;have nd:=G.nd hl hi;have hs:=G.rise hl hi;have hdn:dn l m.1 (l.length - 1 - lev)=kidI (ndT l (lev+1) (dn l m.1 (l.length - 1 - (lev+1)))) m.1:=by
   rw [show l.length - 1 - lev=(l.length - 1 - (lev+1))+1 by omega,dn,show l.length - 1 - (l.length - 1 - (lev+1))=lev+1 by omega]
  have P:=Zog S hm (show 0<lev+1 by omega) hl hi;rw [show l.length - 1 - (lev+1)=l.length - 1 - (lev+1) from rfl] at P;have aw:=J9 m.1 hs;obtain ⟨w1,w2,w3,w4⟩:=kd;obtain ⟨nn,enn⟩:∃ nn,nn=ndT l (lev+1) (dn l m.1 (l.length - 1 - (lev+1))):=⟨_,rfl⟩;obtain ⟨a,ea⟩:∃ a,a=dn l m.1 (l.length - 1 - (lev+1)):=⟨_,rfl⟩;rw [<- ea] at enn hi hi2 P;rw [<- ea,<- enn] at b1 b2 b3 hs aw w1 w2 w3 w4 hdn nd;rw [<- enn] at P;have nd2:(l.getD (lev+1) default).getD a default=nn:=enn.symm;by_cases hput:d=0\/lev=0
  ·have fin:∀ k,5000<k->(((Q139.f k nn.2.2.2.1 m)).bind fun r1=>(if (decide ((r1.length:Int)<=most))=true then (some (l.set (lev+1) ((l.getD (lev+1) default).set a (nn.1,nn.2.1,nn.2.2.1,r1,nn.2.2.2.2)))) else (some l)))=some (if ((Xr mk m nn.2.2.2.1).length:Int)<=most then Zak l (lev+1) a (Xr mk m nn.2.2.2.1) else l):=fun k hk=>by
    rw [Zji ⟨by omega,fun y hy=>by have:=Zdc hc (b3 y hy).1; omega⟩ (by omega) b1 (by omega),bS];by_cases z:((Xr mk m nn.2.2.2.1).length:Int)<=most
    ·rw [iT (dT z),iT z];unfold Zak;rw [<- enn]
    ·rw [iF (by simpa using z),iF z]
   refine ⟨if ((Xr mk m nn.2.2.2.1).length:Int)<=most then Zak l (lev+1) a (Xr mk m nn.2.2.2.1) else l,⟨5002,fun k hk=>?_⟩,?_⟩
   ·obtain ⟨k,rfl⟩:=kS1 k;show Q145.l0 (k+1) l m most (d:Int) ((dn l m.1 (l.length - 1 - (lev+1)):Nat):Int) ((lev+1:Nat):Int)=_;rw [<- ea,Q145.l0,iP,iO,Zw,iO,Zw,nd2,tN,tN];rcases hput with z | z
    ·rw [iP]; exact fin k (by omega)
    ·by_cases z2:d=0
     ·rw [iP]; exact fin k (by omega)
     ·rw [iN,iP]; exact fin k (by omega)
   ·split
    ·exact P
    ·exact S.more
  ·obtain ⟨r,⟨b0,hb⟩,g⟩:=Zjv hc S hN G top h6 wb hm most lev (d - 1) (by omega) (by omega);refine ⟨r,⟨b0+4000,fun k hk=>?_⟩,g⟩;obtain ⟨k,rfl⟩:=kS1 k;have hb':=hb k (by omega);have hf:=nd.fan;have hpl:=nd.pvl;show Q145.l0 (k+1) l m most (d:Int) ((dn l m.1 (l.length - 1 - (lev+1)):Nat):Int) ((lev+1:Nat):Int)=_;rw [<- ea,Q145.l0,iP,iO,Zw,iO,Zw,nd2,iN,iN,Zjg (s:=([],[],true)) ⟨by omega,fun y hy=>by obtain ⟨j,hj,e⟩:=V5 hy []; rw [<- e]; have:=(nd.pv j hj).2.2; omega,by omega,Nat.zero_le _,Nat.zero_le _⟩ aw (by omega),bS,iO,Zw,w3,Bw (x:=((kidI nn m.1+1:Nat):Int)) (by have:=wb lev (by omega); omega) (by have:=wb lev (by omega); omega),show ((kidI nn m.1+1:Nat):Int) - 1=((kidI nn m.1:Nat):Int) by omega,Bw (x:=((kidI nn m.1:Nat):Int)) (by omega) (by have:=wb lev (by omega); omega),wI2 (x:=(d:Int) - 1),wI2 (x:=((lev+1:Nat):Int) - 1),show (d:Int) - 1=((d - 1:Nat):Int) by omega,show ((lev+1:Nat):Int) - 1=(lev:Int) by omega,<- hdn];exact hb'
end
section
variable {c:Cfg} {x:Spc}
theorem Zny (hc:OkC c) {ms:List Msg} (h100:ms.length<=100) (hms:∀ m∈ms,Xh c m.1=true) {deep:T0} (hd:∀ y∈deep,0<=y/\y<256) (most:Int) {l0:Tre} {LO HI:Nat->Nat->List UInt8} (G:Gro l0 LO HI) (top:wd l0 (l0.length - 1)=1) (h6:l0.length<=6) (wb:∀ k,k<l0.length->wd l0 k<=151):∀(m i:Nat) (l:Tre),i+m=ms.length->PutS c i l0 l->∃ r,Ev (fun k=>Q144.l0 k ms deep most l (i:Int)) r/\PutS c ms.length l0 r
 | 0,i,l,hi,S=>⟨l,⟨1,fun k hk=>by
   obtain ⟨k,rfl⟩:=kS1 k;show Q144.l0 (k+1) ms deep most l (i:Int)=_;rw [Q144.l0,iN]⟩,by rw [<- hi]; exact S⟩
 | m+1,i,l,hi,S=>by
  have hne:=G.ne;have hl:=S.same.len;have wd':=S.same.wd;obtain ⟨d,hd1,hd2⟩:∃ d:Nat,d<=1000/\∀ k,Q144.l0 (k+1) ms deep most l (i:Int)=(Q145.f k l (ms.getD i default) (d:Int) most).bind fun r=>Q144.l0 k ms deep most r ((i+1:Nat):Int):=by
   by_cases q:i<deep.length
   ·obtain ⟨y1,y2⟩:=hd _ (Xl (d:=default) q);obtain ⟨y,ey⟩:=Int.eq_ofNat_of_zero_le y1;have:=Nat.mod_lt y (show 0<l.length by omega);refine ⟨y % l.length,by omega,fun k=>?_⟩;rw [Q144.l0,iP,iP,iO,iO,iO,Zw,Zw,ey,wI2 (x:=(y:Int)),wS2];rfl
   ·refine ⟨0,by omega,fun k=>?_⟩;rw [Q144.l0,iP,iN,iO,Zw,wS2];rfl
  obtain ⟨r,⟨b1,e1⟩,S1⟩:=Zjv hc S (by omega) (S.same.gro G S.z) (by rw [wd',hl]; exact top) (by omega) (fun k hk=>by rw [wd']; exact wb k (by omega)) (hms _ (Xl (d:=default) (show i<ms.length by omega))) most (l.length - 1) d hd1 (by omega);rw [Nat.sub_self] at e1;obtain ⟨r2,⟨b2,e2⟩,S2⟩:=Zny hc h100 hms hd most G top h6 wb m (i+1) r (by omega) S1;refine ⟨r2,⟨b1+b2+1,fun k hk=>?_⟩,S2⟩;obtain ⟨k,rfl⟩:=kS1 k;have e1':=e1 k (by omega);show Q144.l0 (k+1) ms deep most l (i:Int)=_;rw [hd2];unfold Q145.f;rw [wI2,show (l.length:Int) - 1=((l.length - 1:Nat):Int) by omega];rw [show Q145.l0 k l (ms.getD i default) most (d:Int) 0 ((l.length - 1:Nat):Int)=_ from e1',bS];exact e2 k (by omega)
theorem Zsu (c:Cfg):GoodT c [[(0,[],[],[],[])]]:=by
 refine ⟨⟨fun _ _=>[],fun _ _=>[],by decide,fun i hi=>?_,fun k hk=>?_,fun _ _ _ _=>rfl,fun k i hk hi=>?_⟩,rfl,by decide,⟨List.Pairwise.nil,Nat.zero_le _,fun p hp=>by cases hp⟩,fun k i h1 h2 _=>?_,fun k hk=>?_⟩
 ·obtain rfl:i=0:=by have:i<1:=hi; omega
  exact ⟨rfl,rfl,rfl,rfl,fun p hp=>by cases hp⟩
 ·have:k+1<1:=hk;omega
 ·obtain rfl:k=0:=by have:k<1:=hk; omega
  have:i+1<1:=hi;omega
 ·have:k<1:=h2;omega
 ·obtain rfl:k=0:=by have:k<1:=hk; omega
  decide
theorem Zr6 (hc:OkC c) (hd:∀ y∈x.2.2.1,0<=y/\y<256) {out:Tre} {lo hi:TO} (U:UpSt c out lo hi) (t:Int) (b:Bool):∃ q,Ev (fun k=>Q123.l2 k c x (out.getD (out.length - 1) default) lo hi t out b) q/\GoodT c q:=by
 by_cases q:1<(out.getD (out.length - 1) default).length
 ·exact ⟨_,⟨1,fun k hk=>by
   obtain ⟨k,rfl⟩:=kS1 k;show Q123.l2 (k+1) c x _ lo hi t out b=_;rw [Q123.l2,iP]⟩,Zsu c⟩
 ·obtain ⟨LO,HI,G,_,_⟩:=U.gro;have hne:=G.ne;obtain ⟨ms,⟨b1,e1⟩,m1,m2⟩:=Zti c x;have top:wd out (out.length - 1)=1:=by have:=U.w1; unfold wd at this ⊢; omega
  obtain ⟨r,⟨b2,e2⟩,S⟩:=Zny hc m1 m2 hd c.2.2.2.2.1 G top U.len U.wb ms.length 0 out (by omega) ⟨SameB.rfl' out,fun k i h1 h2 h3=>by rw [U.buf k i h2 h3]; exact ⟨List.Pairwise.nil,Nat.le_refl _,fun p hp=>by cases hp⟩,fun i hi=>U.buf 0 i hne hi⟩;refine ⟨r,⟨b1+b2+1,fun k hk=>?_⟩,⟨⟨LO,HI,S.same.gro G S.z⟩,by rw [S.same.len,S.same.wd]; exact top,by rw [S.same.len]; exact U.len,?_,fun k i h1 h2 h3=>?_,fun k hk=>by rw [S.same.wd]; rw [S.same.len] at hk; exact U.wb k hk⟩⟩
  ·obtain ⟨k,rfl⟩:=kS1 k;show Q123.l2 (k+1) c x _ lo hi t out b=_;rw [Q123.l2,iN,show Q127.f k c x=_ from e1 k (by omega),bS];unfold Q144.f;rw [show Q144.l0 k ms x.2.2.1 c.2.2.2.2.1 out 0=_ from e2 k (by omega),bS]
  ·unfold Lvs;rw [S.same.flat];exact U.lvs
  ·obtain ⟨g1,g2,g3⟩:=S.buf k i h1 h2 h3;exact ⟨g1,by omega,g3⟩
theorem Zr3 (hc:OkC c) (hx:∀ y∈x.2.2.2,0<=y/\y<256) (hd:∀ y∈x.2.2.1,0<=y/\y<256):∀(m:Nat) (out:Tre) (lo hi:TO) (t:Nat),out.length+m=6->UpSt c out lo hi->t<=200*out.length->∃ q,Ev (fun k=>Q123.l3 k c x (out.getD (out.length - 1) default) lo hi (t:Int) out) q/\GoodT c q:=by
 have low:∀(out:Tre) (lo hi:TO) (t:Nat),UpSt c out lo hi->¬ (1<(out.getD (out.length - 1) default).length/\out.length<6)->∃ q,Ev (fun k=>Q123.l3 k c x (out.getD (out.length - 1) default) lo hi (t:Int) out) q/\GoodT c q:=fun out lo hi t U h=>by
  obtain ⟨q,⟨b0,hb⟩,g⟩:=Zr6 hc hd U (t:Int) false;refine ⟨q,⟨b0+2,fun k hk=>?_⟩,g⟩;obtain ⟨k,rfl⟩:=kS2 k;show Q123.l3 (k+2) c x _ lo hi (t:Int) out=_;rw [Q123.l3];by_cases z:1<(out.getD (out.length - 1) default).length
  ·rw [iP,dF,Q123.l4,vS];exact hb k (by omega)
  ·rw [iN,Q123.l4,vS];exact hb k (by omega)
 intro m
 induction m with
 | zero=>intro out lo hi t hm U ht; exact low out lo hi t U (by omega)
 | succ m ih=>
  intro out lo hi t hm U ht;by_cases z:1<(out.getD (out.length - 1) default).length
  ·obtain ⟨q,⟨b0,hb⟩,g⟩:=Zri hc hx U (fun up a b t' U' ht'=>by
    have:=ih (out ++ [up]) a b t' (by simp; omega) U' (by simp; omega)
    rwa [show (out ++ [up]).length - 1=out.length by simp,Ym rfl] at this) z (by omega) (wd out (out.length - 1)) 0 [] [] [] t (by omega) (Nat.zero_le _) ⟨fun i hi=>absurd hi (Nat.not_lt_zero _),rfl,rfl,rfl,fun j hj=>absurd hj (Nat.not_lt_zero _),Nat.le_refl _,fun j hj=>absurd hj (Nat.not_lt_zero _)⟩ (by omega)
   refine ⟨q,⟨b0+2,fun k hk=>?_⟩,g⟩;obtain ⟨k,rfl⟩:=kS2 k;show Q123.l3 (k+2) c x _ lo hi (t:Int) out=_;rw [Q123.l3,iP,dT,Q123.l4,iT rfl];exact hb k (by omega)
  ·exact low out lo hi t U fun h=>z h.1
structure LeafSt (c:Cfg) (l:List Pr) (row:List Nd) (lo hi:TO):Prop where
 lv:LvP c (Ua row ++ l)
 ll:lo.length=row.length
 hl:hi.length=row.length
 bd:row.length+l.length<=151
 nd:∀ i,i<row.length->(row.getD i default).1=0/\(row.getD i default).2.1=[]/\(row.getD i default).2.2.1=[]/\(row.getD i default).2.2.2.1=[]/\∀ p∈(row.getD i default).2.2.2.2,Op.bytesLess p.1 (lo.getD i [])=false/\Op.bytesLess (hi.getD i []) p.1=false
 lh:∀ i,i<row.length->Op.bytesLess (hi.getD i []) (lo.getD i [])=false
 sh:∀ i,(lo.getD i []).length<=200/\(hi.getD i []).length<=200
 inc:∀ i,i+1<row.length->Op.bytesLess (hi.getD i []) (lo.getD (i+1) [])=true
 rest:∀ i,i<row.length->∀ p∈l,Op.bytesLess (hi.getD i []) p.1=true
theorem Zfl {α:Type} {l:List α} {i:Nat} {d:α} (h:l.length<=i):l.getD i d=d:=by rw [List.getD_eq_getElem?_getD,List.getElem?_eq_none h]; rfl
theorem Zee {l:List Pr} {row:List Nd} {lo hi:TO} (L:LeafSt c l row lo hi) {a b:TX} {u v:List Pr} (e:l=u ++ v) (hb:row.length+1+v.length<=151) (hu:∀ p∈u,Op.bytesLess p.1 a=false/\Op.bytesLess b p.1=false) (hab:Op.bytesLess b a=false) (ha:a.length<=200/\b.length<=200) (hin:∀ i,i<row.length->Op.bytesLess (hi.getD i []) a=true) (hv:∀ p∈v,Op.bytesLess b p.1=true):LeafSt c v (row ++ [(0,[],[],[],u)]) (lo ++ [a]) (hi ++ [b]):=by
 have h1:=L.ll;have h2:=L.hl;have two:∀ i,i<(row ++ [((0,[],[],[],u):Nd)]).length->i<row.length\/i=row.length:=fun i h=>by simp at h; omega
 refine ⟨by unfold Ua; rw [List.flatMap_append]; have:=L.lv; rw [e] at this; simpa [Ua] using this,by simp [h1],by simp [h2],by simp; omega,fun i h=>?_,fun i h=>?_,fun i=>?_,fun i h=>?_,fun i h p hp=>?_⟩
 ·rcases two i h with q | q
  ·rw [Yg q,Yg,Yg]; exact L.nd i q
  ·rw [Ym q,Ym,Ym]; exact ⟨rfl,rfl,rfl,rfl,hu⟩
 ·rcases two i h with q | q
  ·rw [Yg,Yg]; exact L.lh i q
  ·rw [Ym,Ym]; exact hab
 ·by_cases q:i<row.length
  ·rw [Yg,Yg]; exact L.sh i
  ·by_cases q2:i=row.length
   ·rw [Ym,Ym]; exact ha
   ·rw [Zfl (by simp; omega),Zfl (by simp; omega)]; exact ⟨Nat.zero_le _,Nat.zero_le _⟩
 ·rcases two (i+1) h with q | q
  ·rw [Yg,Yg]; exact L.inc i q
  ·rw [Yg,Ym]; exact hin i (by omega)
 ·rcases two i h with q | q
  ·rw [Yg]; exact L.rest i q p (by rw [e]; exact List.mem_append.2 (.inr hp))
  ·rw [Ym]; exact hv p hp
theorem Zrg {row:List Nd} {lo hi:TO} (L:LeafSt c [] row lo hi) (hr:row≠[]):UpSt c [row] lo hi:=by
 have hp:1<=row.length:=by cases row with | nil=>exact absurd rfl hr | cons a r=>simp
 have h1:=L.bd;have one:∀ k,k<[row].length->k=0:=fun k h=>by simp at h; omega
 refine ⟨⟨fun _ i=>lo.getD i [],fun _ i=>hi.getD i [],⟨by simp,L.nd,fun k hk=>by simp at hk,fun k i hk h=>?_,fun k i hk h=>?_⟩,rfl,rfl⟩,by simp,L.ll,L.hl,L.sh,hp,fun k hk=>?_,?_,fun k i hk h=>?_⟩
 ·rw [one k hk] at h; exact L.lh i h
 ·rw [one k hk] at h; exact L.inc i h
 ·rw [one k hk]; show row.length<=151; simp at h1; omega
 ·have:=L.lv; rw [List.append_nil] at this; exact this
 ·rw [one k hk] at h ⊢; exact (L.nd i h).2.2.2.1
theorem Zrd (hc:OkC c) (hx:∀ y∈x.2.2.2,0<=y/\y<256) (hd:∀ y∈x.2.2.1,0<=y/\y<256):∀(m:Nat) (l:List Pr) (row:List Nd) (lo hi:TO),l.length+(if row=[] then 1 else 0)<=m->LeafSt c l row lo hi->∃ q,Ev (fun k=>Q123.l0 k c x l row lo hi ((row.length:Nat):Int)) q/\GoodT c q:=by
 obtain ⟨F,eF⟩:=Int.eq_ofNat_of_zero_le (show 0<=c.2.2.2.2.2.1 by have:=hc.leaf; have:=hc.buf; omega);have hF:=hc.leaf;have hB:=hc.buf;have stop:∀(row:List Nd) (lo hi:TO),LeafSt c [] row lo hi->row≠[]->∃ q,Ev (fun k=>Q123.l0 k c x [] row lo hi ((row.length:Nat):Int)) q/\GoodT c q:=fun row lo hi L hr=>by
  have h1:=L.bd;have hp:row.length≠0:=fun e=>hr (List.eq_nil_of_length_eq_zero e);obtain ⟨q,⟨b0,hb⟩,g⟩:=Zr3 hc hx hd 5 [row] lo hi row.length (by simp) (Zrg L hr) (by simp at h1 ⊢; omega);refine ⟨q,⟨b0+2,fun k hk=>?_⟩,g⟩;obtain ⟨k,rfl⟩:=kS2 k;show Q123.l0 (k+2) c x [] row lo hi _=_;rw [Q123.l0,vS,dF,Q123.l1,vS];exact hb k (by omega)
 intro m
 induction m with
 | zero=>
  intro l row lo hi hm L;have hl:l=[]:=List.eq_nil_of_length_eq_zero (by omega);subst hl;exact stop row lo hi L fun e=>by rw [iT e] at hm; simp at hm
 | succ m ih=>
  intro l row lo hi hm L;have hbd:=L.bd;have h1:=L.ll;have h2:=L.hl;by_cases z:l=[]/\row≠[]
  ·obtain ⟨rfl,z⟩:=z;exact stop row lo hi L z
  ·obtain ⟨r,er,r1,r2⟩:=Zr8 hx row.length (m:=F) (by omega) (by omega);obtain ⟨nn,en,n1⟩:∃ nn:Nat,mnI (r:Int) (l.length:Int)=(nn:Int)/\nn=min r l.length:=by
    unfold mnI;by_cases q:(r:Int)<(l.length:Int)
    ·rw [iT q]; exact ⟨r,rfl,by omega⟩
    ·rw [iF q]; exact ⟨l.length,rfl,by omega⟩
   have enter:∀ k,Q123.l0 (k+2) c x l row lo hi ((row.length:Nat):Int)=(if (0:Int)<(nn:Int) then (Q123.l0 k c x (l.drop nn) (row ++ [(0,[],[],[],l.take nn)]) (lo ++ [(l.getD 0 default).1]) (hi ++ [(l.getD (nn - 1) default).1]) ((row.length+1:Nat):Int)) else (Q123.l0 k c x (l.drop nn) (row ++ [(0,[],[],[],l.take nn)]) (lo ++ [[]]) (hi ++ [[]]) ((row.length+1:Nat):Int))):=fun k=>by
    have l1:Q123.l0 (k+2) c x l row lo hi ((row.length:Nat):Int)=Q123.l1 (k+1) c x l row lo hi ((row.length:Nat):Int) true:=by
     rw [Q123.l0];by_cases q:l=[]
     ·have:row=[]:=Classical.byContradiction fun h=>z ⟨q,h⟩;rw [iF (by simp [q]),dT (by simp [this])]
     ·have:l.length≠0:=fun e=>q (List.eq_nil_of_length_eq_zero e);rw [iP]
    rw [l1,Q123.l1,iT rfl,eF,er,bS,en,iO,iV,wS2,tN];by_cases q:0<nn
    ·rw [iP,iO,wI2,iO,iV,iV,iO,iO,show (nn:Int) - 1=((nn - 1:Nat):Int) by omega,Zw];rfl
    ·rw [iN,iV,iV,iO,iQ]
   have go:∀(a b:TX),(∀ k,Q123.l0 (k+2) c x l row lo hi ((row.length:Nat):Int)=Q123.l0 k c x (l.drop nn) (row ++ [(0,[],[],[],l.take nn)]) (lo ++ [a]) (hi ++ [b]) ((row.length+1:Nat):Int))->LeafSt c (l.drop nn) (row ++ [(0,[],[],[],l.take nn)]) (lo ++ [a]) (hi ++ [b])->∃ q,Ev (fun k=>Q123.l0 k c x l row lo hi ((row.length:Nat):Int)) q/\GoodT c q:=fun a b he L'=>by
    obtain ⟨q,⟨b0,hb⟩,g⟩:=ih _ _ _ _ (by
     rw [vS,length_drop];by_cases q:l=[]
     ·have:row=[]:=Classical.byContradiction fun h=>z ⟨q,h⟩;rw [iT this] at hm;omega
     ·have:l.length≠0:=fun e=>q (List.eq_nil_of_length_eq_zero e);split at hm <;> omega) L'
    refine ⟨q,⟨b0+2,fun k hk=>?_⟩,g⟩;obtain ⟨k,rfl⟩:=kS2 k;have hb':=hb k (by omega);rw [lA] at hb';show Q123.l0 (k+2) c x l row lo hi _=_;rw [he];exact hb'
   by_cases q:0<nn
   ·have hr:RiseK pk l:=(List.pairwise_append.1 L.lv.1).2.1;have hk:∀ p∈l,p.1.length<=200:=fun p hp=>by have:=Zdc hc (L.lv.2.2 p (List.mem_append.2 (.inr hp))); omega
    have le:∀ {i j:Nat},i<=j->j<l.length->Op.bytesLess (l.getD j default).1 (l.getD i default).1=false:=fun {i j} h hj=>by
     by_cases e:i=j
     ·subst e; exact Vf _
     ·exact Xx (RiseK.get pk hr (show i<j by omega) hj default)
    refine go (l.getD 0 default).1 (l.getD (nn - 1) default).1 (fun k=>by rw [enter,iO]) (Zee L (List.take_append_drop nn l).symm (by rw [length_drop]; omega) (fun p hp=>?_) (le (by omega) (by omega)) ⟨hk _ (Xl (by omega)),hk _ (Xl (by omega))⟩ (fun i h=>L.rest i h _ (Xl (by omega))) fun p hp=>?_)
    ·obtain ⟨j,hj,e⟩:=V5 hp default;rw [length_take] at hj;rw [Zmp (by omega)] at e;rw [<- e];exact ⟨le (Nat.zero_le _) (by omega),le (by omega) (by omega)⟩
    ·obtain ⟨j,hj,e⟩:=V5 hp default;rw [length_drop] at hj;rw [Zmt] at e;rw [<- e];exact RiseK.get pk hr (show nn - 1<nn+j by omega) (by omega) default
   ·have hl:l=[]:=List.eq_nil_of_length_eq_zero (by omega);have hr:row=[]:=Classical.byContradiction fun h=>z ⟨hl,h⟩;refine go [] [] (fun k=>by rw [enter,iQ]) (Zee L (List.take_append_drop nn l).symm (by rw [hr,hl]; simp) (fun p hp=>by rw [hl] at hp; simp at hp) rfl ⟨Nat.zero_le _,Nat.zero_le _⟩ (fun i h=>by rw [hr] at h; exact absurd h (Nat.not_lt_zero _)) fun p hp=>by rw [hl] at hp; simp at hp)
theorem Zp4 (hc:OkC c) (hx:∀ y∈x.2.2.2,0<=y/\y<256) (hd:∀ y∈x.2.2.1,0<=y/\y<256):∃ l,Ev (fun k=>Q123.f k c x) l/\GoodT c l:=by
 obtain ⟨ks,⟨b1,e1⟩,g1⟩:=Zsv hc x;obtain ⟨l,⟨b2,e2⟩,g2⟩:=Zrd hc hx hd (ks.length+1) ks [] [] [] (by simp) ⟨g1,rfl,rfl,by have:=g1.2.1; simp; omega,fun i h=>absurd h (Nat.not_lt_zero _),fun i h=>absurd h (Nat.not_lt_zero _),fun i=>⟨Nat.zero_le _,Nat.zero_le _⟩,fun i h=>absurd h (Nat.not_lt_zero _),fun i h=>absurd h (Nat.not_lt_zero _)⟩;refine ⟨l,⟨b1+b2,fun k hk=>?_⟩,g2⟩;show Q123.f k c x=_;unfold Q123.f;rw [show Q126.f k c x=_ from e1 k (by omega),bS];exact e2 k (by omega)
end
section
variable {c:Cfg} {N B n t q:Nat} {s:Shf} {L:List Nat} {K:Nat->List Int} {h:Nat->Bool} {l:Tre} {BL:Nat->Nat->Nat}
def Y7 (l:Tre) (BL:Nat->Nat->Nat) (k i:Nat):Nd:=((ndT l k i).1,(ndT l k i).2.1.map (fun x=>((BL (k - 1) (x.toNat - 1):Nat):Int)),(ndT l k i).2.2.1,(ndT l k i).2.2.2.1,(ndT l k i).2.2.2.2)
structure Spot (c:Cfg) (N:Nat) (K:Nat->List Int) (h:Nat->Bool) (b:Nat) (nd:Nd):Prop where
 b1:1<=b
 bN:b<N
 hb:h b=true
 rt:Xc c V2 nd=true
 kb:K b=Vs c nd
 kd:∀ x∈nd.2.1,0<=x/\x<4294967296
 sm:SmallN nd
theorem Spot.upd {b b':Nat} {nd:Nd} {v:T0} (S:Spot c N K h b nd) (e:b≠b'):Spot c N (upd K b' v) (upd h b' true) b nd:=⟨S.b1,S.bN,by rw [Yh e]; exact S.hb,S.rt,by rw [Yh e]; exact S.kb,S.kd,S.sm⟩
structure RowsB (c:Cfg) (N:Nat) (K:Nat->List Int) (h:Nat->Bool) (l:Tre) (kk:Nat) (BL:Nat->Nat->Nat):Prop where
 sp:∀ k j,k<kk->j<wd l k->Spot c N K h (BL k j) (Y7 l BL k j)
 inj:∀ k j k' j',k<kk->j<wd l k->k'<kk->j'<wd l k'->BL k j=BL k' j'->k=k'/\j=j'
structure RowAt (c:Cfg) (N:Nat) (K:Nat->List Int) (h:Nat->Bool) (l:Tre) (kk:Nat) (BL:Nat->Nat->Nat) (nw:List Nat):Prop where
 R:RowsB c N K h l kk BL
 sp:∀ j,j<nw.length->Spot c N K h (nw.getD j 0) (Y7 l BL kk j)
 nd:nw.Nodup
 out:∀ b∈nw,∀ k j,k<kk->j<wd l k->BL k j≠b
 held:∀ b,h b=true->b=0\/b∈nw\/∃ k j,k<kk/\j<wd l k/\BL k j=b
abbrev LR:=Int×Bool×Shf
def Zlg (c:Cfg) (N B n:Nat) (l:Tre) (R:LR):Prop:=R.2.1=false\/(R.2.1=true/\∃ BL t L K h,t<=1000/\ShK c N B n t R.2.2 L 0 K h/\RowsB c N K h l l.length BL/\R.1=((BL (l.length - 1) 0:Nat):Int)/\∀ b,h b=true->b=0\/∃ k j,k<l.length/\j<wd l k/\BL k j=b)
abbrev LD0 (k:Nat) (l:Tre) (s:Shf) (at':List Int) (kk:Int):Option LR:=Q122.l0 k l s.1 s.2.1.1 s.2.1.2.2.2.2 s.2.2.1 s.2.1.2.1 s.2.1.2.2.1 s.2.1.2.2.2.1 s.2.2.2 at' kk
abbrev LD1 (k:Nat) (l:Tre) (at':List Int) (kk:Int) (s:Shf) (nw:T0) (i:Int):Option LR:=Q122.l1 k l at' kk s.1 s.2.1.1 s.2.1.2.2.2.2 s.2.2.1 s.2.1.2.1 s.2.1.2.2.1 s.2.1.2.2.2.1 s.2.2.2 nw i
abbrev LD2 (k:Nat) (l:Tre) (at':List Int) (kk:Int) (s:Shf) (nw:T0) (i:Int) (own:T0) (j:Int) (b:Bool):Option LR:=Q122.l2 k l at' kk s.1 s.2.1.1 s.2.1.2.2.2.2 s.2.2.1 s.2.1.2.1 s.2.1.2.2.1 s.2.1.2.2.2.1 s.2.2.2 nw i own j b
abbrev LD3 (k:Nat) (l:Tre) (at':List Int) (kk:Int) (s:Shf) (nw:T0) (i:Int) (own:T0) (j:Int):Option LR:=Q122.l3 k l at' kk s.1 s.2.1.1 s.2.1.2.2.2.2 s.2.2.1 s.2.1.2.1 s.2.1.2.2.1 s.2.1.2.2.2.1 s.2.2.2 nw i own j
def Bo (BL:Nat->Nat->Nat) (k w:Nat):List Int:=(List.range w).map fun j=>((BL k j:Nat):Int)
theorem Zjy {BL:Nat->Nat->Nat} {k w j:Nat} (h:j<w):(Bo BL k w).getD j default=((BL k j:Nat):Int):=by
 unfold Bo;rw [List.getD_eq_getElem?_getD,List.getElem?_map,List.getElem?_range h]; rfl
theorem Zm0 {LO HI:Nat->Nat->List UInt8} (G:Gro l LO HI) {k i:Nat} (hk:k<l.length) (hi:i<wd l k) (j:Nat) (hj:j<(ndT l k i).2.1.length):∃ y:Nat,(ndT l k i).2.1.getD j default=((y+1:Nat):Int)/\1<=k/\y<wd l (k - 1):=by
 cases k with
 | zero=>rw [(G.leaf i hi).2.1] at hj; exact absurd hj (Nat.not_lt_zero _)
 | succ k=>
  have nd:=G.nd hk hi;have hs:=Xa (row:=l.getD (k+1) default) hi;have hm:=X6 (row:=l.getD (k+1) default) (i:=i+1) (j:=wd l (k+1)) hi (Nat.le_refl _);rw [(G.row k hk).2.1,hs] at hm;have hm':stR (l.getD (k+1) default) i+(ndT l (k+1) i).2.1.length<=wd l k:=hm;exact ⟨stR (l.getD (k+1) default) i+j,by rw [nd.kid,List.getD_eq_getElem?_getD,List.getElem?_map,List.getElem?_range hj]; rfl,by omega,by show _<wd l k; omega⟩
theorem Zqc {row:List Nd} {i:Nat} (h:i<row.length):∃ a b,Ua row=a ++ ((row.getD i default).2.2.2.2 ++ b):=by
 refine ⟨Ua (row.take i),Ua (row.drop (i+1)),?_⟩;have e:row=row.take i ++ row.getD i default :: row.drop (i+1):=by rw [<- Yv h,List.take_append_drop]
 conv=>lhs; rw [e]
 unfold Ua;rw [List.flatMap_append,List.flatMap_cons]
theorem Zbc (hc:OkC c) (T:GoodT c l) {LO HI:Nat->Nat->List UInt8} (G:Gro l LO HI) {k i:Nat} (hk:k<l.length) (hi:i<wd l k) (BL:Nat->Nat->Nat):SmallN (Y7 l BL k i):=by
 cases k with
 | zero=>
  obtain ⟨_,g2,g3,g4,_⟩:=G.leaf i hi;obtain ⟨a,b,e⟩:=Zqc hi;have hl:=T.lvs.2.1;rw [e,lA,lA] at hl;refine ⟨by unfold Y7; rw [g2]; exact Nat.zero_le _,by unfold Y7; rw [g3]; exact Nat.zero_le _,by unfold Y7; rw [g4]; exact Nat.zero_le _,by show (ndT l 0 i).2.2.2.2.length<=150; unfold ndT; omega,fun p hp=>?_,fun p hp=>?_,fun p hp=>?_⟩
  ·unfold Y7 at hp; rw [g3] at hp; cases hp
  ·unfold Y7 at hp; rw [g4] at hp; cases hp
  ·have:=Zdc hc (T.lvs.2.2 p (by rw [e]; exact List.mem_append.2 (.inr (List.mem_append.2 (.inl hp)))));omega
 | succ k=>
  have nd:=G.nd hk hi;have hf:=nd.fan;have hp:=nd.pvl;obtain ⟨b1,b2,b3⟩:=T.buf (k+1) i (by omega) hk hi;refine ⟨by unfold Y7; rw [length_map]; omega,by show (ndT l (k+1) i).2.2.1.length<=80; omega,by show (ndT l (k+1) i).2.2.2.1.length<=150; omega,by show (ndT l (k+1) i).2.2.2.2.length<=150; rw [nd.prs]; exact Nat.zero_le _,fun p hp=>?_,fun p hp=>?_,fun p hp=>?_⟩
  ·obtain ⟨j,hj,e⟩:=V5 hp [];rw [<- e];exact (nd.pv j hj).2.2
  ·have:=Zdc hc (b3 p hp).1;omega
  ·have hp':p∈(ndT l (k+1) i).2.2.2.2:=hp;rw [nd.prs] at hp'; cases hp'
theorem Zju (T:GoodT c l) {LO HI:Nat->Nat->List UInt8} (G:Gro l LO HI) {kk i:Nat} (hk:kk<l.length) (hi:i<wd l kk) {at':List Int} (hat:1<=kk->at'=Bo BL (kk - 1) (wd l (kk - 1))) (s:Shf) (nw:T0):∀(m j:Nat) (own:T0),j+m=(ndT l kk i).2.1.length->own=((ndT l kk i).2.1.take j).map (fun x=>((BL (kk - 1) (x.toNat - 1):Nat):Int))->∀ k,LD3 (k+m+1) l at' (kk:Int) s nw (i:Int) own (j:Int)=LD2 k l at' (kk:Int) s nw (i:Int) ((ndT l kk i).2.1.map fun x=>((BL (kk - 1) (x.toNat - 1):Nat):Int)) (((ndT l kk i).2.1.length:Nat):Int) false
 | 0,j,own,hj,ho,k=>by
  have e:gt (gt l (kk:Int)) (i:Int)=ndT l kk i:=by rw [Zw,Zw]; rfl
  have hj':j=(ndT l kk i).2.1.length:=by omega
  subst hj';rw [List.take_length] at ho;subst ho;show Q122.l3 (k+1) l at' _ _ _ _ _ _ _ _ _ _ _ _ _=_;rw [Q122.l3,e,vS,dF]
 | m+1,j,own,hj,ho,k=>by
  have e:gt (gt l (kk:Int)) (i:Int)=ndT l kk i:=by rw [Zw,Zw]; rfl
  obtain ⟨y,ey,y1,y2⟩:=Zm0 G hk hi j (by omega);have hw:=T.wb (kk - 1) (by omega);have ha:=hat y1;have ol:own.length=j:=by rw [ho,length_map,length_take]; omega
  have hl:(ndT l kk i).2.1.length<=64:=by
   obtain ⟨z,rfl⟩:∃ z,kk=z+1:=⟨kk - 1,by omega⟩;exact (G.nd hk hi).fan
  have ih:=Zju T G hk hi hat s nw m (j+1) (own ++ [((BL (kk - 1) y:Nat):Int)]) (by omega) (by
   rw [Zpb (show j<(ndT l kk i).2.1.length by omega),List.map_append,<- ho,ey];rfl) k
  show Q122.l3 ((k+m+1)+1) l at' _ _ _ _ _ _ _ _ _ _ _ _ _=_;rw [Q122.l3,e,iP,iO,Zw,ey,show ((y+1:Nat):Int) - 1=(y:Int) by omega,Zhb (by omega),iT (by rw [ha]; unfold Bo; rw [length_map,length_range]; omega),Zw,show at'.getD y default=((BL (kk - 1) y:Nat):Int) by rw [ha,Zjy y2],iT (by rw [ol]; simp; omega),wS2];exact ih
theorem RowAt.done {kk:Nat} {nw:List Nat} (S:RowAt c N K h l kk BL nw) (hl:nw.length=wd l kk) {LO HI:Nat->Nat->List UInt8} (G:Gro l LO HI) (hk:kk<l.length):RowsB c N K h l (kk+1) (upd BL kk fun j=>nw.getD j 0):=by
 have old:∀ k,k<kk->upd BL kk (fun j=>nw.getD j 0) k=BL k:=fun k h=>Yh;refine ⟨fun k j hk' hj=>?_,fun k j k' j' hk1 hj hk2 hj' e=>?_⟩
 ·by_cases e:k<kk
  ·have:=S.R.sp k j e hj;unfold Y7 at this ⊢;rw [old k e,old (k - 1) (by omega)];exact this
  ·have e2:k=kk:=by omega
   subst e2;have:=S.sp j (by omega);rw [Z5];unfold Y7 at this ⊢;cases k with
   | zero=>rw [(G.leaf j hj).2.1] at this ⊢; exact this
   | succ k=>rw [old (k+1 - 1) (by omega)]; exact this
 ·by_cases e1:k<kk
  ·rw [old k e1] at e;by_cases e2:k'<kk
   ·rw [old k' e2] at e; exact S.R.inj k j k' j' e1 hj e2 hj' e
   ·have e3:k'=kk:=by omega
    subst e3;rw [Z5] at e;exact absurd e (S.out _ (Xl (by omega)) k j e1 hj)
  ·have e3:k=kk:=by omega
   subst e3;rw [Z5] at e;by_cases e2:k'<k
   ·rw [old k' e2] at e;exact absurd e.symm (S.out _ (Xl (by omega)) k' j' e2 hj')
   ·have e4:k'=k:=by omega
    subst e4;rw [Z5] at e;refine ⟨rfl,?_⟩;rw [Yu (by omega),Yu (by omega)] at e;exact (List.getElem_inj S.nd).1 e
theorem Zq9 (g:Geo c N B n) (T:GoodT c l) {LO HI:Nat->Nat->List UInt8} (G:Gro l LO HI) {kk:Nat} (hk:kk<l.length) {at':List Int} (hat:1<=kk->at'=Bo BL (kk - 1) (wd l (kk - 1)))
  (H:∀(s:Shf) (L:List Nat) (t:Nat) (K:Nat->List Int) (h:Nat->Bool) (BL:Nat->Nat->Nat),ShK c N B n t s L 0 K h->t<=151*(kk+1)->RowsB c N K h l (kk+1) BL->(∀ b,h b=true->b=0\/∃ k j,k<kk+1/\j<wd l k/\BL k j=b)->∃ R,Ev (fun k=>LD0 k l s (Bo BL kk (wd l kk)) ((kk+1:Nat):Int)) R/\Zlg c N B n l R) :
  ∀(m:Nat) (nw:List Nat) (s:Shf) (L:List Nat) (t:Nat) (K:Nat->List Int) (h:Nat->Bool),nw.length+m=wd l kk->ShK c N B n t s L 0 K h->t<=151*kk+nw.length->RowAt c N K h l kk BL nw->∃ R,Ev (fun k=>LD1 k l at' (kk:Int) s (nw.map fun(b:Nat)=>(b:Int)) ((nw.length:Nat):Int)) R/\Zlg c N B n l R:=by
 have hok:=Uf g.ok;have hw:=T.wb kk hk;have h6:=T.len;intro m
 induction m with
 | zero=>
  intro nw s L t K h hm S ht P;have e:nw.map (fun(b:Nat)=>(b:Int))=Bo (upd BL kk fun j=>nw.getD j 0) kk (wd l kk):=by
   unfold Bo;refine List.ext_getElem? fun j=>?_;rw [List.getElem?_map,List.getElem?_map];by_cases q:j<nw.length
   ·rw [List.getElem?_range (by omega),List.getElem?_eq_getElem q,Z5];show some _=some (((nw.getD j 0:Nat)):Int);rw [Yu q]
   ·rw [List.getElem?_eq_none (by omega),List.getElem?_eq_none (by rw [length_range]; omega)]; rfl
  obtain ⟨R,⟨b0,hb⟩,r⟩:=H s L t K h (upd BL kk fun j=>nw.getD j 0) S (by omega) (P.done (by omega) G hk) fun b hb=>by
   rcases P.held b hb with z | z | ⟨k,j,z1,z2,z3⟩
   ·exact .inl z
   ·obtain ⟨j,hj,ej⟩:=V5 z 0;exact .inr ⟨kk,j,by omega,by omega,by rw [Z5]; exact ej⟩
   ·exact .inr ⟨k,j,by omega,z2,by rw [Yh]; exact z3⟩
  refine ⟨R,⟨b0+1,fun k hk2=>?_⟩,r⟩;obtain ⟨k,rfl⟩:=kS1 k;have hb':=hb k (by omega);show Q122.l1 (k+1) l at' _ _ _ _ _ _ _ _ _ _ _=_;rw [Q122.l1,iO,Zw,iF (by unfold wd at hm; simp only [dE]; omega),wS2,e];exact hb'
 | succ m ih=>
  intro nw s L t K h hm S ht P;have hi:nw.length<wd l kk:=by omega
  have sm:=Zbc hok T G hk hi BL;have kd:∀ x∈(Y7 l BL kk nw.length).2.1,0<=x/\x<4294967296:=fun x hx=>by
   obtain ⟨z,hz,rfl⟩:=List.mem_map.1 hx;obtain ⟨j,hj,e⟩:=V5 hz default;obtain ⟨y,ey,y1,y2⟩:=Zm0 G hk hi j hj;rw [<- e,ey,show ((y+1:Nat):Int).toNat - 1=y by omega];have:=(P.R.sp (kk - 1) y (by omega) y2).bN;have:=g.N5;omega
  have l3:=Zju T G hk hi hat s (nw.map fun(b:Nat)=>(b:Int)) (ndT l kk nw.length).2.1.length 0 [] (by omega) rfl;have hi2:=hi;unfold wd at hi2;have enter:∀(r:Int×Int×Shf),Ev (fun k=>Q84.f k s (Y7 l BL kk nw.length)) r->∀ R,Ev (fun k=>if (!decide (r.2.1=0))=true then some (0,false,r.2.2) else LD1 k l at' (kk:Int) r.2.2 (nw.map (fun(b:Nat)=>(b:Int)) ++ [r.1]) ((nw.length+1:Nat):Int)) R->Ev (fun k=>LD1 k l at' (kk:Int) s (nw.map fun(b:Nat)=>(b:Int)) ((nw.length:Nat):Int)) R:=fun r hr R hR=>by
   obtain ⟨b1,e1⟩:=hr;obtain ⟨b2,e2⟩:=hR;refine ⟨b1+b2+(ndT l kk nw.length).2.1.length+3,fun k hk2=>?_⟩;obtain ⟨k,rfl⟩:∃ k2,k=k2+1+(ndT l kk nw.length).2.1.length+1+1:=⟨k - 3 - (ndT l kk nw.length).2.1.length,by omega⟩;have hl3:=l3 (k+1);have e:gt (gt l (kk:Int)) ((nw.length:Nat):Int)=ndT l kk nw.length:=by rw [Zw,Zw]; rfl
   show Q122.l1 ((k+1+(ndT l kk nw.length).2.1.length+1)+1) l at' _ _ _ _ _ _ _ _ _ _ _=_;rw [Q122.l1,iO,Zw,iP,iO];refine hl3.trans ?_;show Q122.l2 (k+1) l at' _ _ _ _ _ _ _ _ _ _ _ _ _ _=_;rw [Q122.l2,e];show Option.bind (Q84.f k s (Y7 l BL kk nw.length)) _=_;rw [show Q84.f k s (Y7 l BL kk nw.length)=_ from e1 k (by omega),bS];have e2':=e2 k (by omega);dsimp only at e2';by_cases q0:(!decide (r.2.1=0))=true
   ·rw [iT q0] at e2' ⊢; exact e2'
   ·rw [iF q0] at e2' ⊢;rw [iV,wS2];exact e2'
  rcases Zs5 g S (by omega) (.of sm kd) with ⟨_,hm1⟩ | ⟨_,_,hm1⟩ | ⟨hr,b,s',L',b1,bN,bf,_,hm1,S',_⟩
  ·exact ⟨_,enter _ hm1 _ ⟨0,fun k _=>iU⟩,.inl rfl⟩
  ·exact ⟨_,enter _ hm1 _ ⟨0,fun k _=>iU⟩,.inl rfl⟩
  ·have ne:∀ x,h x=true->x≠b:=fun x hx e=>by rw [e,bf] at hx; cases hx
   have P':RowAt c N (upd K b (Vs c (Y7 l BL kk nw.length))) (upd h b true) l kk BL (nw ++ [b]):=by
    refine ⟨⟨fun k j z1 z2=>(P.R.sp k j z1 z2).upd (ne _ (P.R.sp k j z1 z2).hb),P.R.inj⟩,fun j hj=>?_,?_,fun y hy k j z1 z2=>?_,fun y hy=>?_⟩
    ·rw [lA] at hj;by_cases q:j<nw.length
     ·rw [Yg q]; exact (P.sp j q).upd (ne _ (P.sp j q).hb)
     ·have ej:j=nw.length:=by simp at hj; omega
      rw [Ym ej,ej];exact ⟨b1,bN,Z5 _ _ _,hr,Z5 _ _ _,kd,sm⟩
    ·rw [List.nodup_append];refine ⟨P.nd,by simp,fun y hy z hz=>?_⟩;rw [List.mem_singleton.1 hz];obtain ⟨j,hj,ej⟩:=V5 hy 0;have:=ne _ (P.sp j hj).hb
     rwa [ej] at this
    ·rcases List.mem_append.1 hy with z | z
     ·exact P.out y z k j z1 z2
     ·rw [List.mem_singleton.1 z]; exact ne _ (P.R.sp k j z1 z2).hb
    ·by_cases q:y=b
     ·exact .inr (.inl (by rw [q]; simp))
     ·rw [Yh q] at hy;rcases P.held y hy with z | z | z
      ·exact .inl z
      ·exact .inr (.inl (List.mem_append.2 (.inl z)))
      ·exact .inr (.inr z)
   obtain ⟨R,hR,r⟩:=ih (nw ++ [b]) s' L' (t+1) _ _ (by simp; omega) S' (by simp; omega) P';refine ⟨R,enter _ hm1 R ?_,r⟩;obtain ⟨b0,hb⟩:=hR;refine ⟨b0,fun k hk2=>?_⟩;have hb':=hb k hk2;rw [List.map_append,lA] at hb';show (if (!decide ((0:Int)=0))=true then _ else _)=_
   rw [vS];exact hb'
theorem Zp2 (g:Geo c N B n) (T:GoodT c l) {LO HI:Nat->Nat->List UInt8} (G:Gro l LO HI):∀(m kk:Nat) (s:Shf) (L:List Nat) (t:Nat) (K:Nat->List Int) (h:Nat->Bool) (BL:Nat->Nat->Nat) (at':List Int),kk+m=l.length->ShK c N B n t s L 0 K h->t<=151*kk->RowsB c N K h l kk BL->(∀ b,h b=true->b=0\/∃ k j,k<kk/\j<wd l k/\BL k j=b)->(1<=kk->at'=Bo BL (kk - 1) (wd l (kk - 1)))->∃ R,Ev (fun k=>LD0 k l s at' (kk:Int)) R/\Zlg c N B n l R:=by
 have hne:=G.ne;have h6:=T.len;intro m
 induction m with
 | zero=>
  intro kk s L t K h BL at' hm S ht P hh hat
  have ek:kk=l.length:=by omega
  subst ek;have ha:=hat hne;have top:=T.top;have hl:at'.length=1:=by rw [ha]; unfold Bo; rw [length_map,length_range,top]
  refine ⟨(((BL (l.length - 1) 0:Nat):Int),true,s),⟨1,fun k hk=>?_⟩,.inr ⟨rfl,BL,t,L,K,h,by omega,S,P,rfl,hh⟩⟩;obtain ⟨k,rfl⟩:=kS1 k;show Q122.l0 (k+1) l _ _ _ _ _ _ _ _ at' _=_;rw [Q122.l0,vS,iO,show gt at' 0=at'.getD 0 default from Zw at' 0,ha,Zjy (by omega)]
 | succ m ih=>
  intro kk s L t K h BL at' hm S ht P hh hat
  obtain ⟨R,⟨b0,hb⟩,r⟩:=Zq9 g T G (kk:=kk) (by omega) hat (fun s L t K h BL' S' ht' P' hh'=>ih (kk+1) s L t K h BL' _ (by omega) S' ht' P' hh' fun _=>rfl) (wd l kk) [] s L t K h (by simp) S (by simpa using ht) ⟨P,fun j hj=>absurd hj (Nat.not_lt_zero _),List.nodup_nil,fun b hb=>by simp at hb,fun b hb=>by
   rcases hh b hb with z | z
   ·exact .inl z
   ·exact .inr (.inr z)⟩
  refine ⟨R,⟨b0+1,fun k hk=>?_⟩,r⟩;obtain ⟨k,rfl⟩:=kS1 k;show Q122.l0 (k+1) l _ _ _ _ _ _ _ _ at' _=_;rw [Q122.l0,iP];exact hb k (by omega)
end
theorem Znh (c:Cfg) {k:Nat} (hk:2000<k):Q121.f k c=some (okB c && (decide (c.2.1<=3000) && decide (c.1<=400))):=by
 unfold Q121.f;rw [Zbb c hk,bS];cases okB c with
 | false=>rw [iF (by decide)]; rfl
 | true=>
  rw [iT rfl];by_cases q:c.2.1<=3000
  ·rw [iT (dT q),dT q]; rfl
  ·rw [iF (by simpa using q),dF q]; rfl
theorem Zth {c:Cfg} (h:(okB c && (decide (c.2.1<=3000) && decide (c.1<=400)))=true):∃ N B n:Nat,Geo c N B n/\N<=400/\B<=3000:=by
 simp only [Bool.and_eq_true,dE] at h;obtain ⟨hok,h1,h2⟩:=h;have hc:=hok;unfold okB at hc;simp only [Bool.and_eq_true,dE] at hc;obtain ⟨_,hN,hn,hB,_⟩:=hc;obtain ⟨N,eN⟩:=Int.eq_ofNat_of_zero_le (show 0<=c.1 by omega);obtain ⟨B,eB⟩:=Int.eq_ofNat_of_zero_le (show 0<=c.2.1 by omega);obtain ⟨n,en⟩:=Int.eq_ofNat_of_zero_le (show 0<=c.2.2.1 by omega);have hNB:N*B<=400*3000:=Nat.mul_le_mul (by omega) (by omega);exact ⟨N,B,n,⟨hok,⟨by omega,by omega,by omega,by omega,by omega⟩,by omega,by omega,by omega,eN,eB,en⟩,by omega,by omega⟩
abbrev SR:=Option Shf×Int×Tre×Bool
structure StdI (c:Cfg) (s:Shf) (root:Int) (l:Tre) (N B n t:Nat) (L:List Nat) (K:Nat->List Int) (h:Nat->Bool) (BL:Nat->Nat->Nat):Prop where
 g:Geo c N B n
 N4:N<=400
 T:GoodT c l
 t1:t<=1000
 S:ShK c N B n t s L 0 K h
 P:RowsB c N K h l l.length BL
 rt:root=((BL (l.length - 1) 0:Nat):Int)
 held:∀ b,h b=true->b=0\/∃ k j,k<l.length/\j<wd l k/\BL k j=b
def Zau (c:Cfg) (R:SR):Prop:=R.2.2.2=false\/(R.2.2.2=true/\∃ s N B n t L K h BL,R.1=some s/\StdI c s R.2.1 R.2.2.1 N B n t L K h BL)
section
variable {c:Cfg} {N B n:Nat} {x:Spc}
theorem Zho (g:Geo c N B n) (hN:N<=400) (hx:∀ y∈x.2.2.2,0<=y/\y<256) (hd:∀ y∈x.2.2.1,0<=y/\y<256) {ch:Chn} (hc:ChI n ch []):∀(m j:Nat),j+m=n->∃ R,Ev (fun k=>Q124.l2 k c x ((B:Int),List.replicate (N*B) 0,(0,0)) ch ((List.range j).map fun(i:Nat)=>(i:Int)) (j:Int)) R/\Zau c R
 | 0,j,hj=>by
  have e:j=n:=by omega
  subst e;have h64:=g.z.h64;obtain ⟨p,ep,bp⟩:=Zos g.N5.1 g.N5.2;obtain ⟨l,⟨b1,e1⟩,T⟩:=Zp4 (Uf g.ok) hx hd;obtain ⟨LO,HI,G⟩:=T.gro;have hne:=G.ne;obtain ⟨R,⟨b2,e2⟩,r⟩:=Zp2 g T G l.length 0 (Zfj c N B j ch p) [] 0 _ _ (fun _ _=>0) [] (by omega) (Zt0 g hc bp) (by omega) ⟨fun k j h=>absurd h (Nat.not_lt_zero _),fun k j _ _ h=>absurd h (Nat.not_lt_zero _)⟩ (fun b hb=>by
   by_cases q:b=0
   ·exact .inl q
   ·rw [Yh q] at hb; cases hb) (fun h=>by omega)
  have eb:=Jt (s:=(0,0)) (N:=N) (n:=B) g.z.hB (img:=List.replicate (N*B) 0) (by simp) g.z.hNB;refine ⟨(some R.2.2,R.1,l,R.2.1),⟨b1+b2+1,fun k hk=>?_⟩,?_⟩
  ·obtain ⟨k,rfl⟩:=kS1 k;have e2':=e2 k (by omega);show Q124.l2 (k+1) c x _ _ _ _=_;rw [Q124.l2,g.en,vS,eb,bS,g.eN,vS,Q52.f,bS,g.eB,vS,ep,bS];dsimp only [Vj];rw [iU,show Q123.f k c x=_ from e1 k (by omega),bS,tN];have e3:Q122.f k (c,(((B:Int),List.replicate (N*B) 0,(0,0)),List.replicate j (0,[],false,0),[],(List.range j).map (fun(i:Nat)=>(i:Int)),ch),p,0) l=some R:=e2';rw [e3,bS]
  ·rcases r with q | ⟨q,BL,t,L,K,h,t1,S,P,rt,hh⟩
   ·exact .inl q
   ·exact .inr ⟨q,R.2.2,N,B,j,t,L,K,h,BL,rfl,g,hN,T,t1,S,P,rt,hh⟩
 | m+1,j,hj=>by
  have h64:=g.z.h64;obtain ⟨R,⟨k0,hk⟩,r⟩:=Zho g hN hx hd hc m (j+1) (by omega);refine ⟨R,⟨k0+1,fun k hk2=>?_⟩,r⟩;obtain ⟨k,rfl⟩:=kS1 k;have hx:=hk k (by omega);show Q124.l2 (k+1) c x _ _ _ _=_;rw [Q124.l2,g.en,iP,iV,wS2];dsimp only at hx;rw [List.range_succ,List.map_append] at hx;exact hx
theorem Zo9 (g:Geo c N B n) (hN:N<=400) (hB:B<=3000) (hx:∀ y∈x.2.2.2,0<=y/\y<256) (hd:∀ y∈x.2.2.1,0<=y/\y<256):∃ R,(∀(a:Int) (b:Bool),Ev (fun k=>Q124.l1 k c x a b) R)/\Zau c R:=by
 obtain ⟨ch,ec,hch⟩:=Zto (n:=n) g.z.hn g.z.h64;obtain ⟨R,⟨k0,hk⟩,r⟩:=Zho g hN hx hd hch n 0 (by omega);have eb:=Jt (s:=(0,0)) (N:=N) (n:=B) g.z.hB (img:=List.replicate (N*B) 0) (by simp) g.z.hNB;have h5:=g.N5;have h8:=g.n8;have h64:=g.z.h64;refine ⟨R,fun a b=>⟨k0+1,fun k hk2=>?_⟩,r⟩;obtain ⟨k,rfl⟩:=kS1 k;have hx:=hk k (by omega);show Q124.l1 (k+1) c x a b=_;rw [Q124.l1,g.eN,g.eB,Zrl ⟨g.N5.1,g.N5.2,g.z.hB,g.hB⟩,bS];dsimp only [Vj];rw [iU,show Q46.f c=_ from B5 c,iT g.ok,bS,vS,eb,bS,iN,g.en,iN,iN,ec,bS];dsimp only [Vj];rw [iU,iO];exact hx
theorem Zop {R:SR} (r:Zau c R) (hR:∀(a:Int) (b:Bool),Ev (fun k=>Q124.l1 k c x a b) R):∀(m i:Nat),i+m=100->∃ R,Ev (fun k=>Q124.l3 k c x (i:Int)) R/\Zau c R:=by
 have stop:∀ i:Nat,¬ (i<x.2.1.length/\i<100)->∃ R,Ev (fun k=>Q124.l3 k c x (i:Int)) R/\Zau c R:=fun i h=>by
  obtain ⟨b0,hb⟩:=hR (i:Int) false;refine ⟨R,⟨b0+2,fun k hk=>?_⟩,r⟩;obtain ⟨k,rfl⟩:=kS2 k;show Q124.l3 (k+2) c x (i:Int)=_;rw [Q124.l3];by_cases q:i<x.2.1.length
  ·rw [iP,dF,Q124.l4,vS]; exact hb k (by omega)
  ·rw [iN,Q124.l4,vS]; exact hb k (by omega)
 intro m
 induction m with
 | zero=>intro i hi; exact stop i (by omega)
 | succ m ih=>
  intro i hi;by_cases q:i<x.2.1.length
  ·have step:∀ k,Q124.l3 (k+2) c x (i:Int)=if decide (200<((x.2.1.getD i default).1.length:Int))=true then some (none,0,[],false) else Q124.l3 k c x ((i+1:Nat):Int):=fun k=>by
    rw [Q124.l3,iP,dT,Q124.l4,iT rfl,iO,Zw,wS2]
   by_cases z:200<((x.2.1.getD i default).1.length:Int)
   ·refine ⟨(none,0,[],false),⟨2,fun k hk=>?_⟩,.inl rfl⟩;obtain ⟨k,rfl⟩:=kS2 k;show Q124.l3 (k+2) c x (i:Int)=_;rw [step,iT (dT z)]
   ·obtain ⟨R',⟨b0,hb⟩,r'⟩:=ih (i+1) (by omega);refine ⟨R',⟨b0+2,fun k hk=>?_⟩,r'⟩;obtain ⟨k,rfl⟩:=kS2 k;show Q124.l3 (k+2) c x (i:Int)=_;rw [step,iF (by simpa using z)];exact hb k (by omega)
  ·exact stop i (by omega)
theorem Zoa {R:SR} (r:Zau c R) (hR:Ev (fun k=>Q124.l3 k c x 0) R):∀(m i:Nat),i+m=150->∃ R,Ev (fun k=>Q124.l5 k c x (i:Int)) R/\Zau c R:=by
 have stop:∀ i:Nat,¬ (i<x.1.length/\i<150)->∃ R,Ev (fun k=>Q124.l5 k c x (i:Int)) R/\Zau c R:=fun i h=>by
  obtain ⟨b0,hb⟩:=hR;refine ⟨R,⟨b0+3,fun k hk=>?_⟩,r⟩;obtain ⟨k,rfl⟩:=kS3 k;show Q124.l5 (k+3) c x (i:Int)=_;rw [Q124.l5];by_cases q:i<x.1.length
  ·rw [iP,dF,Q124.l6,vS,Q124.l0]; exact hb k (by omega)
  ·rw [iN,Q124.l6,vS,Q124.l0]; exact hb k (by omega)
 intro m
 induction m with
 | zero=>intro i hi; exact stop i (by omega)
 | succ m ih=>
  intro i hi;by_cases q:i<x.1.length
  ·have step:∀ k,Q124.l5 (k+2) c x (i:Int)=if decide (200<((x.1.getD i default).1.length:Int))=true then some (none,0,[],false) else Q124.l5 k c x ((i+1:Nat):Int):=fun k=>by
    rw [Q124.l5,iP,dT,Q124.l6,iT rfl,iO,Zw,wS2]
   by_cases z:200<((x.1.getD i default).1.length:Int)
   ·refine ⟨(none,0,[],false),⟨2,fun k hk=>?_⟩,.inl rfl⟩;obtain ⟨k,rfl⟩:=kS2 k;show Q124.l5 (k+2) c x (i:Int)=_;rw [step,iT (dT z)]
   ·obtain ⟨R',⟨b0,hb⟩,r'⟩:=ih (i+1) (by omega);refine ⟨R',⟨b0+2,fun k hk=>?_⟩,r'⟩;obtain ⟨k,rfl⟩:=kS2 k;show Q124.l5 (k+2) c x (i:Int)=_;rw [step,iF (by simpa using z)];exact hb k (by omega)
  ·exact stop i (by omega)
theorem Zrn (hx:∀ y∈x.2.2.2,0<=y/\y<256) (hd:∀ y∈x.2.2.1,0<=y/\y<256):∃ R,Ev (fun k=>Q124.f k c x) R/\Zau c R:=by
 by_cases light:(okB c && (decide (c.2.1<=3000) && decide (c.1<=400)))=true
 ·obtain ⟨N,B,n,g,hN,hB⟩:=Zth light;obtain ⟨R,hR,r⟩:=Zo9 g hN hB hx hd;obtain ⟨R,hR,r⟩:=Zop r hR 100 0 (by omega);obtain ⟨R,⟨b0,hb⟩,r⟩:=Zoa r hR 150 0 (by omega);refine ⟨R,⟨b0+3000,fun k hk=>?_⟩,r⟩;show Q124.f k c x=_;unfold Q124.f;rw [Znh c (by omega),light,bS,vS];exact hb k (by omega)
 ·refine ⟨(none,0,[],false),⟨3000,fun k hk=>?_⟩,.inl rfl⟩;show Q124.f k c x=some (none,0,[],false);unfold Q124.f;rw [Znh c (by omega),Bool.eq_false_iff.2 light,bS,iT (show (!false)=true from rfl)]
end
section
variable {c:Cfg} {N B n t q:Nat} {s:Shf} {L:List Nat} {K:Nat->List Int} {h:Nat->Bool} {l:Tre} {BL:Nat->Nat->Nat} {LO HI:Nat->Nat->List UInt8}
theorem Zqd (k:Nat) (hk:k+1<l.length) (x:TX):dn l x (l.length - 1 - k)=kidI (ndT l (k+1) (dn l x (l.length - 1 - (k+1)))) x:=by
 rw [show l.length - 1 - k=(l.length - 1 - (k+1))+1 by omega,dn,show l.length - 1 - (l.length - 1 - (k+1))=k+1 by omega]
end
theorem Zsb {l:TO} {x:TX} {w i:Nat} (hw:AtWay l x w) (hi:i<=l.length) (hr:W7 l=true):inS (Ws l i) x=decide (i=w):=by
 obtain ⟨h1,h2,h3⟩:=hw;have e1:Op.bytesLess x (if 0<i then l.getD (i - 1) [] else [])=decide (w<i):=by
  by_cases h0:0<i
  ·rw [iT h0];by_cases q:w<i
   ·rw [h3 (i - 1) (by omega) (by omega),dT q]
   ·rw [h2 (i - 1) (by omega),dF q]
  ·rw [iF h0,X0,dF]
 have e2:(decide (i=l.length) || Op.bytesLess x (if i=l.length then [] else l.getD i []))=decide (w<=i):=by
  by_cases h0:i=l.length
  ·rw [dT h0,Bool.true_or,dT]
  ·rw [iF h0,dF h0,Bool.false_or];by_cases q:w<=i
   ·rw [h3 i q (by omega),dT q]
   ·rw [h2 i (by omega),dF q]
 simp only [inS,Ws,e1,e2];by_cases a:w<i
 ·simp [a]; omega
 ·by_cases b:w<=i
  ·simp [show i=w by omega]
  ·simp [b]; omega
theorem Zoq {l:TO} {s:Sp} {i:Nat} (hi:i<=l.length) (hr:W7 l=true) (hp:l.all (piv s)=true) (hs:emS s=false):emS (Us (Ws l i) s)=false:=by
 have pv:∀ j,j<l.length->inS s (l.getD j [])=true/\l.getD j []≠s.1:=fun j hj=>by
  have:=List.all_eq_true.1 hp _ (Xl (d:=[]) hj);simp only [piv,Bool.and_eq_true,Bool.not_eq_true',decide_eq_false_iff_not] at this;exact this
 have lo:∀ j,j<l.length->Op.bytesLess s.1 (l.getD j [])=true:=fun j hj=>by
  have:=(pv j hj).1;simp only [inS,Bool.and_eq_true,Bool.not_eq_true'] at this;rcases Bi this.1 with e | e
  ·exact absurd e (pv j hj).2
  ·exact e
 have hi':∀ j,j<l.length->s.2.2=false->Op.bytesLess (l.getD j []) s.2.1=true:=fun j hj ht=>by
  have:=(pv j hj).1;simp only [inS,ht,Bool.and_eq_true,Bool.false_or] at this;exact this.2
 have elo:(Us (Ws l i) s).1=if 0<i then l.getD (i - 1) [] else s.1:=by
  show (if Op.bytesLess (Ws l i).1 s.1=true then s.1 else (Ws l i).1)=_
  by_cases h0:0<i
  ·have e:(Ws l i).1=l.getD (i - 1) []:=iT h0;rw [iT h0,e,Xx (lo (i - 1) (by omega))];rfl
  ·have e:(Ws l i).1=[]:=iF h0;rw [iF h0,e];cases hsl:s.1 with
   | nil=>rfl
   | cons a b=>rfl
 have ehi:i<l.length->(Us (Ws l i) s).2=(l.getD i [],false):=fun h=>by
  have hn:¬ i=l.length:=by omega
  simp only [Us,Ws,hn,decide_false,Bool.false_eq_true,if_false,Bool.false_and];cases ht:s.2.2 with
  | true=>rfl
  | false=>
   rw [Xx (hi' i h ht)];rfl
 have ehi':i=l.length->(Us (Ws l i) s).2.2=s.2.2/\(s.2.2=false->(Us (Ws l i) s).2.1=s.2.1):=fun h=>by
  simp only [Us,Ws,h,decide_true,if_true,Bool.true_and];refine ⟨trivial,fun ht=>?_⟩;rw [ht];rfl
 by_cases h:i<l.length
 ·have e:=ehi h;simp only [emS,e,elo,Bool.not_false,Bool.true_and];by_cases h0:0<i
  ·rw [iT h0,Znv hr (i:=i - 1) (j:=i) (by omega) h];rfl
  ·rw [iF h0,lo i h];rfl
 ·obtain ⟨e1,e2⟩:=ehi' (by omega);simp only [emS,e1,elo];cases ht:s.2.2 with
  | true=>rfl
  | false=>
   rw [e2 ht];by_cases h0:0<i
   ·rw [iT h0,hi' (i - 1) (by omega) ht];rfl
   ·rw [iF h0];simp only [emS,ht] at hs;simpa using hs
section
variable {l:Tre} {LO HI:Nat->Nat->List UInt8} {c:Cfg} {BL:Nat->Nat->Nat}
def spL (l:Tre):Nat->List Sp
 | 0=>[([],[],true)]
 | d+1=>(List.range (wd l (l.length - 1 - d))).flatMap fun i=>(List.range (ndT l (l.length - 1 - d) i).2.1.length).map fun j=>(Zaf (Ws (ndT l (l.length - 1 - d) i).2.2.1 j) ((spL l d).getD i default)).1
def spA (l:Tre) (k i:Nat):Sp:=(spL l (l.length - 1 - k)).getD i default
theorem Zih {α:Type} [Inhabited α] {row:List Nd} {f:Nat->List α} (hf:∀ i,i<row.length->(f i).length=(row.getD i default).2.1.length):∀ n,n<=row.length->((List.range n).flatMap f).length=stR row n/\∀ i j,i<n->j<(f i).length->((List.range n).flatMap f).getD (stR row i+j) default=(f i).getD j default
 | 0,_=>⟨rfl,fun i j h=>absurd h (Nat.not_lt_zero _)⟩
 | n+1,hn=>by
  obtain ⟨h1,h2⟩:=Zih hf n (by omega);have hs:=Xa (row:=row) (i:=n) hn;have e:(List.range (n+1)).flatMap f=(List.range n).flatMap f ++ f n:=by rw [List.range_succ,List.flatMap_append]; simp
  rw [e];refine ⟨by rw [lA,h1,hs,hf n hn],fun i j hi hj=>?_⟩;by_cases q:i<n
  ·have hi2:=Xa (row:=row) (i:=i) (by omega);have hl:=X6 (row:=row) (i:=i+1) (j:=n) (by omega) (by omega);have:=hf i (by omega);rw [Yg];exact h2 i j q hj
  ·obtain rfl:i=n:=by omega
   rw [List.getD_eq_getElem?_getD,List.getElem?_append_right (by omega),h1,show stR row i+j - stR row i=j by omega,<- List.getD_eq_getElem?_getD]
theorem Zkm {k i j:Nat} (hk:k+1<l.length) (hi:i<wd l (k+1)) (hj:j<(ndT l (k+1) i).2.1.length):spA l k (stR (l.getD (k+1) default) i+j)=(Zaf (Ws (ndT l (k+1) i).2.2.1 j) (spA l (k+1) i)).1:=by
 unfold spA;rw [show l.length - 1 - k=(l.length - 1 - (k+1))+1 by omega,spL,show l.length - 1 - (l.length - 1 - (k+1))=k+1 by omega];have h:=(Zih (row:=l.getD (k+1) default) (f:=fun i=>(List.range (ndT l (k+1) i).2.1.length).map fun j=>(Zaf (Ws (ndT l (k+1) i).2.2.1 j) ((spL l (l.length - 1 - (k+1))).getD i default)).1) (fun i _=>by rw [length_map,length_range]; rfl) (wd l (k+1)) (Nat.le_refl _)).2 i j hi (by rw [length_map,length_range]; exact hj);rw [h,List.getD_eq_getElem?_getD,List.getElem?_map,List.getElem?_range hj];rfl
theorem Gro.ancK (G:Gro l LO HI) {x:TX} {K i:Nat} (hK:K<l.length) (hi:i<wd l K) (h1:Op.bytesLess x (LO K i)=false) (h2:Op.bytesLess (HI K i) x=false):∀ k,K+k<l.length->∃ a,a<wd l (K+k)/\Op.bytesLess x (LO (K+k) a)=false/\Op.bytesLess (HI (K+k) a) x=false
 | 0,_=>⟨i,hi,h1,h2⟩
 | k+1,hk=>by
  obtain ⟨a,ha,a1,a2⟩:=G.ancK hK hi h1 h2 k (by omega);obtain ⟨r1,r2,r3⟩:=G.row (K+k) hk;obtain ⟨p,hp,p1,p2⟩:=Jd (row:=l.getD (K+k+1) default) (a:=a) (m:=wd l (K+k+1)) (Nat.le_refl _) (by rw [r2]; exact ha);have hm:=X6 (row:=l.getD (K+k+1) default) (i:=p+1) (j:=wd l (K+k+1)) hp (Nat.le_refl _);rw [r2] at hm;obtain ⟨e1,e2⟩:=r3 p hp;exact ⟨p,hp,by show Op.bytesLess x (LO (K+k+1) p)=false; rw [e1]; exact Yl (G.lo_le (by omega) p1 ha) a1,by show Op.bytesLess (HI (K+k+1) p) x=false; rw [e2]; exact Yl a2 (G.hi_le (by omega) (show a<=stR (l.getD (K+k+1) default) (p+1) - 1 by omega) (by omega))⟩
theorem Gro.dn_inK (G:Gro l LO HI) (top:wd l (l.length - 1)=1) {x:TX} {K:Nat} (A:∀ k,K<=k->k<l.length->∃ a,a<wd l k/\Op.bytesLess x (LO k a)=false/\Op.bytesLess (HI k a) x=false):∀ j,j<l.length->K<=l.length - 1 - j->Op.bytesLess x (LO (l.length - 1 - j) (dn l x j))=false/\Op.bytesLess (HI (l.length - 1 - j) (dn l x j)) x=false
 | 0,h,hK=>by
  obtain ⟨a,ha,a1,a2⟩:=A (l.length - 1) (by omega) (by omega);rw [top] at ha;rw [show a=0 by omega] at a1 a2;exact ⟨a1,a2⟩
 | j+1,h,hK=>by
  obtain ⟨i1,i2⟩:=G.dn_inK top A j (by omega) (by omega);have ib:=G.dn_lt top x j (by omega);obtain ⟨k,ek⟩:∃ k,l.length - 1 - j=k+1:=⟨l.length - 1 - (j+1),by omega⟩;have ek':l.length - 1 - (j+1)=k:=by omega
  rw [ek] at i1 i2 ib;rw [ek',dn,ek];obtain ⟨a,ha,a1,a2⟩:=A k (by omega) (by omega);obtain ⟨r1,r2,r3⟩:=G.row k (by omega);obtain ⟨p,hp,p1,p2⟩:=Jd (row:=l.getD (k+1) default) (a:=a) (m:=wd l (k+1)) (Nat.le_refl _) (by rw [r2]; exact ha);have hm:=X6 (row:=l.getD (k+1) default) (i:=p+1) (j:=wd l (k+1)) hp (Nat.le_refl _);rw [r2] at hm;obtain ⟨e1,e2⟩:=r3 p hp;have ep:p=dn l x j:=G.uniq (by omega) hp ib (by rw [e1]; exact Yl (G.lo_le (by omega) p1 ha) a1) (by rw [e2]; exact Yl a2 (G.hi_le (by omega) (show a<=stR (l.getD (k+1) default) (p+1) - 1 by omega) (by omega))) i1 i2;subst ep;have n:=G.nd (by omega) hp;have hs:=Xa (row:=l.getD (k+1) default) hp;have hs':stR (l.getD (k+1) default) (dn l x j+1)=stR (l.getD (k+1) default) (dn l x j)+(ndT l (k+1) (dn l x j)).2.1.length:=hs;have pl:=n.pvl;have w:AtWay (ndT l (k+1) (dn l x j)).2.2.1 x (a - stR (l.getD (k+1) default) (dn l x j)):=⟨by omega,fun b hb=>?_,fun b hb hbl=>?_⟩
  ·have ew:=w.uniq (J9 x (G.rise (by omega) hp));rw [(G.kidI (by omega) hp x).2.1,<- ew,show stR (l.getD (k+1) default) (dn l x j)+(a - stR (l.getD (k+1) default) (dn l x j))=a by omega];exact ⟨a1,a2⟩
  ·exact Yl (Yl (n.pv b (by omega)).2.1 (G.lo_le (by omega) (show stR (l.getD (k+1) default) (dn l x j)+b+1<=a by omega) ha)) a1
  ·exact Jb (Yl a2 (G.hi_le (k:=k) (by omega) (show a<=stR (l.getD (k+1) default) (dn l x j)+b by omega) (by omega))) (n.pv b hbl).1
theorem Gro.dnK (G:Gro l LO HI) (top:wd l (l.length - 1)=1) {x:TX} {K i:Nat} (hK:K<l.length) (hi:i<wd l K) (h1:Op.bytesLess x (LO K i)=false) (h2:Op.bytesLess (HI K i) x=false):dn l x (l.length - 1 - K)=i:=by
 have hd:=G.dn_inK top (x:=x) (K:=K) (fun k h1' h2'=>by
  obtain ⟨a,b⟩:=G.ancK hK hi h1 h2 (k - K) (by omega);rw [show K+(k - K)=k by omega] at b;exact ⟨a,b⟩) (l.length - 1 - K) (by omega) (by omega)
 have hb:=G.dn_lt top x (l.length - 1 - K) (by omega);rw [show l.length - 1 - (l.length - 1 - K)=K by omega] at hd hb;exact G.uniq hK hb hi hd.1 hd.2 h1 h2
structure SpOk (l:Tre) (LO:Nat->Nat->List UInt8) (k i:Nat):Prop where
 ins:∀ x,inS (spA l k i) x=decide (dn l x (l.length - 1 - k)=i)
 lo:Op.bytesLess (LO k i) (spA l k i).1=false
 em:emS (spA l k i)=false
theorem Zmb (T:GoodT c l) (G:Gro l LO HI) {k i:Nat} (hk:k+1<l.length) (hi:i<wd l (k+1)) (S:SpOk l LO (k+1) i):(ndT l (k+1) i).2.2.1.all (piv (spA l (k+1) i))=true:=by
 have nd:=G.nd hk hi;have pl:=nd.pvl;obtain ⟨r1,r2,r3⟩:=G.row k hk;obtain ⟨e1,e2⟩:=r3 i hi;have hs:=Xa (row:=l.getD (k+1) default) hi;have hs':stR (l.getD (k+1) default) (i+1)=stR (l.getD (k+1) default) i+(ndT l (k+1) i).2.1.length:=hs;have hm:=X6 (row:=l.getD (k+1) default) (i:=i+1) (j:=wd l (k+1)) hi (Nat.le_refl _);rw [r2] at hm;refine List.all_eq_true.2 fun y hy=>?_;obtain ⟨b,hb,eb⟩:=V5 hy [];obtain ⟨p1,p2,_⟩:=nd.pv b hb;rw [eb] at p1 p2;have lo:Op.bytesLess (LO (k+1) i) y=true:=by
  rw [e1];exact Jb (Yl (G.lo_le (k:=k) (by omega) (show stR (l.getD (k+1) default) i<=stR (l.getD (k+1) default) i+b by omega) (by omega)) (G.lh k _ (by omega) (by omega))) p1
 have hi':Op.bytesLess (HI (k+1) i) y=false:=by
  rw [e2];exact Yl p2 (Yl (G.lh k _ (by omega) (by omega)) (G.hi_le (k:=k) (by omega) (show stR (l.getD (k+1) default) i+b+1<=stR (l.getD (k+1) default) (i+1) - 1 by omega) (by omega)))
 have d:=G.dnK T.top hk hi (Xx lo) hi';unfold piv;rw [S.ins,d,dT rfl,dF (fun z=>by
  have:=S.lo;rw [<- z,lo] at this;cases this)]
 rfl
theorem Zrw (T:GoodT c l) (G:Gro l LO HI):∀(d k i:Nat),k+d+1=l.length->i<wd l k->SpOk l LO k i
 | 0,k,i,hk,hi=>by
  have top:=T.top;obtain rfl:k=l.length - 1:=by omega
  rw [top] at hi;obtain rfl:i=0:=by omega
  have e:spA l (l.length - 1) 0=([],[],true):=by unfold spA; rw [Nat.sub_self]; rfl
  refine ⟨fun x=>?_,by rw [e,X0],by rw [e]; rfl⟩;rw [e,Nat.sub_self];unfold inS;rw [X0];rfl
 | d+1,k,a,hk,ha=>by
  obtain ⟨r1,r2,r3⟩:=G.row k (by omega);obtain ⟨i,hi,i1,i2⟩:=Jd (row:=l.getD (k+1) default) (a:=a) (m:=wd l (k+1)) (Nat.le_refl _) (by rw [r2]; exact ha);have S:=Zrw T G d (k+1) i (by omega) hi;have nd:=G.nd (k:=k) (by omega) hi;have pl:=nd.pvl;have hs:=Xa (row:=l.getD (k+1) default) hi;have hs':stR (l.getD (k+1) default) (i+1)=stR (l.getD (k+1) default) i+(ndT l (k+1) i).2.1.length:=hs;have hm:=X6 (row:=l.getD (k+1) default) (i:=i+1) (j:=wd l (k+1)) hi (Nat.le_refl _);rw [r2] at hm;obtain ⟨j,ej⟩:∃ j,a=stR (l.getD (k+1) default) i+j:=⟨a - stR (l.getD (k+1) default) i,by omega⟩;subst ej;have rs:=G.rise (k:=k) (by omega) hi;have rb:W7 (ndT l (k+1) i).2.2.1=true:=by rw [Zjz]; exact (Zft _ _).2 rs
  have hjp:j<=(ndT l (k+1) i).2.2.1.length:=by omega
  have em:=Zoq hjp rb (Zmb T G (by omega) hi S) S.em;have es:spA l k (stR (l.getD (k+1) default) i+j)=Us (Ws (ndT l (k+1) i).2.2.1 j) (spA l (k+1) i):=by
   rw [Zkm (by omega) hi (by omega)];unfold Zaf;rw [em,vS]
  refine ⟨fun x=>?_,?_,by rw [es]; exact em⟩
  ·rw [es,Zru,Zsb (J9 x rs) hjp rb,S.ins,Zqd k (by omega) x];by_cases z:dn l x (l.length - 1 - (k+1))=i
   ·rw [z,(G.kidI (by omega) hi x).2.1,dT rfl,Bool.and_true];by_cases w:j=Gm (ndT l (k+1) i).2.2.1 x
    ·rw [dT w,dT]
    ·rw [dF w,dF]
   ·rw [dF z,Bool.and_false];have hb:=G.dn_lt T.top x (l.length - 1 - (k+1)) (by omega);rw [show l.length - 1 - (l.length - 1 - (k+1))=k+1 by omega] at hb;have kk:=G.kidI (by omega) hb x;have hs2:=Xa (row:=l.getD (k+1) default) hb;have hs2':stR (l.getD (k+1) default) (dn l x (l.length - 1 - (k+1))+1)=stR (l.getD (k+1) default) (dn l x (l.length - 1 - (k+1)))+(ndT l (k+1) (dn l x (l.length - 1 - (k+1)))).2.1.length:=hs2;refine (dF fun w=>?_).symm;rw [kk.2.1] at w;rcases Nat.lt_trichotomy (dn l x (l.length - 1 - (k+1))) i with q | q | q
    ·have:=X6 (row:=l.getD (k+1) default) (i:=dn l x (l.length - 1 - (k+1))+1) (j:=i) q (Nat.le_of_lt hi);have:=kk.1;omega
    ·exact z q
    ·have:=X6 (row:=l.getD (k+1) default) (i:=i+1) (j:=dn l x (l.length - 1 - (k+1))) q (Nat.le_of_lt hb);omega
  ·rw [es];have l1:Op.bytesLess (LO k (stR (l.getD (k+1) default) i+j)) (spA l (k+1) i).1=false:=by
    have:=S.lo;rw [(r3 i hi).1] at this;exact Yl this (G.lo_le (by omega) (Nat.le_add_right _ _) ha)
   have l2:Op.bytesLess (LO k (stR (l.getD (k+1) default) i+j)) (Ws (ndT l (k+1) i).2.2.1 j).1=false:=by
    unfold Ws;dsimp only;by_cases z:0<j
    ·rw [iT z];have:=(nd.pv (j - 1) (by omega)).2.1;rw [show stR (l.getD (k+1) default) i+(j - 1)+1=stR (l.getD (k+1) default) i+j by omega] at this;exact this
    ·rw [iF z,X0]
   unfold Us;dsimp only;split
   ·exact l1
   ·exact l2
theorem Zir {s:Sp} {n:Nd} (h:Xc c V2 n=true) (h1:n.1≠0->n.2.2.1.all (piv s)=true) (h2:n.1≠0->∀ m∈n.2.2.2.1,inS s m.1=true) (h3:n.1=0->∀ p∈n.2.2.2.2,inS s p.1=true):Xc c s n=true:=by
 unfold Xc at h ⊢;by_cases z:n.1=0
 ·rw [iT z] at h ⊢;simp only [Zev,Bool.and_eq_true,List.all_eq_true] at h ⊢;refine ⟨fun p hp=>?_,h.2⟩;have:=h.1 p hp;unfold prB at this ⊢;simp only [Bool.and_eq_true] at this ⊢;exact ⟨this.1,h3 z p hp,this.2.2⟩
 ·rw [iF z] at h ⊢;simp only [Zit,Zha,Zhe,Bool.and_eq_true] at h ⊢;obtain ⟨a1,a2,a3,a4,a5,a6,a7,a8,a9,a10,a11⟩:=h;refine ⟨a1,a2,a3,List.all_eq_true.2 fun m hm=>?_,a5,a6,a7,a8,a9,⟨h1 z,a10.2⟩,a11⟩;have:=List.all_eq_true.1 a4 m hm;unfold Zb5 at this ⊢;simp only [Bool.and_eq_true] at this ⊢;exact ⟨this.1,h2 z m hm,this.2.2⟩
theorem Zmn (T:GoodT c l) (G:Gro l LO HI) {k i:Nat} (hk:k<l.length) (hi:i<wd l k) (h:Xc c V2 (Y7 l BL k i)=true):Xc c (spA l k i) (Y7 l BL k i)=true:=by
 have S:=Zrw T G (l.length - 1 - k) k i (by omega) hi;cases k with
 | zero=>
  obtain ⟨g1,_,_,g4,g5⟩:=G.leaf i hi;refine Zir h (fun z=>absurd g1 z) (fun z=>absurd g1 z) fun _ p hp=>?_;have:=g5 p hp;rw [S.ins,Nat.sub_zero,G.dn_leaf T.top hi this.1 this.2,dT rfl]
 | succ k=>
  have nd:=G.nd hk hi;refine Zir h (fun _=>Zmb T G hk hi S) (fun _ m hm=>?_) fun z p hp=>?_
  ·have:=((T.buf (k+1) i (by omega) hk hi).2.2 m hm).2;rw [S.ins,this,dT rfl]
  ·have:p∈(ndT l (k+1) i).2.2.2.2:=hp;rw [nd.prs] at this;cases this
end
def Wn (f:Nat->Nat) (a:Nat):Nat->Nat
 | 0=>0
 | m+1=>f a+1+Wn f (a+1) m
def ds (l:Tre):Nat->Nat->Nat
 | 0,_=>0
 | k+1,i=>Wn (ds l k) (stR (l.getD (k+1) default) i) (ndT l (k+1) i).2.1.length
theorem Zc3 (f:Nat->Nat):∀(m a n:Nat),Wn f a (m+n)=Wn f a m+Wn f (a+m) n
 | 0,a,n=>by rw [Nat.zero_add]; exact (Nat.zero_add _).symm
 | m+1,a,n=>by
  rw [show m+1+n=(m+n)+1 by omega];show f a+1+Wn f (a+1) (m+n)=f a+1+Wn f (a+1) m+Wn f (a+(m+1)) n;rw [Zc3 f m (a+1) n,show a+1+m=a+(m+1) by omega]; omega
theorem Zii (f:Nat->Nat) (m:Nat):Wn f 0 (m+1)=Wn f 0 m+(f m+1):=by
 rw [Zc3,Nat.zero_add]; rfl
def Zbz (l:Tre):Nat->Nat
 | 0=>wd l 0
 | k+1=>Zbz l k+wd l (k+1)
section
variable {c:Cfg} {l:Tre} {BL:Nat->Nat->Nat} {LO HI:Nat->Nat->List UInt8}
theorem Zl5 (k:Nat):∀ i,i<=wd l (k+1)->Wn (ds l (k+1)) 0 i=i+Wn (ds l k) 0 (stR (l.getD (k+1) default) i)
 | 0,_=>by rw [Gg]; rfl
 | i+1,hi=>by
  have e:ds l (k+1) i=Wn (ds l k) (stR (l.getD (k+1) default) i) (ndT l (k+1) i).2.1.length:=rfl;rw [Zii,Zl5 k i (by omega),e,Xa (show i<(l.getD (k+1) default).length from hi),Zc3,Nat.zero_add];show _=_+(_+Wn (ds l k) _ (ndT l (k+1) i).2.1.length);omega
theorem Zkt:∀ m,Wn (ds l 0) 0 m=m
 | 0=>rfl
 | m+1=>by rw [Zii,Zkt m]; rfl
theorem Zmm (G:Gro l LO HI):∀ k,k<l.length->Wn (ds l k) 0 (wd l k)=Zbz l k
 | 0,_=>Zkt _
 | k+1,hk=>by
  rw [Zl5 k _ (Nat.le_refl _),(G.row k hk).2.1,Zmm G k (by omega),Zbz]; omega
theorem Zht (T:GoodT c l):∀ k,k<l.length->Zbz l k<=151*(k+1)
 | 0,h=>by have:=T.wb 0 h; show wd l 0<=_; omega
 | k+1,h=>by
  have:=T.wb (k+1) h;have:=Zht T k (by omega);rw [Zbz]; omega
theorem Zr0 (T:GoodT c l) (G:Gro l LO HI):ds l (l.length - 1) 0+1=Zbz l (l.length - 1):=by
 have hne:=G.ne;rw [<- Zmm G _ (by omega),T.top]; rfl
theorem Zsw (G:Gro l LO HI) {k i j:Nat} (hk:k+1<l.length) (hi:i<wd l (k+1)) (hj:j<(ndT l (k+1) i).2.1.length):(Y7 l BL (k+1) i).2.1.getD j default=((BL k (stR (l.getD (k+1) default) i+j):Nat):Int):=by
 have e:(ndT l (k+1) i).2.1.getD j default=((stR (l.getD (k+1) default) i+j+1:Nat):Int):=by
  have:=(G.nd hk hi).kid;rw [this,List.getD_eq_getElem?_getD,List.getElem?_map,List.getElem?_range (by omega)]; rfl
 show ((ndT l (k+1) i).2.1.map _).getD j default=_;rw [Yu (by rw [length_map]; omega),List.getElem_map];rw [Yu hj] at e;rw [e];rfl
end
theorem Zds {α:Type} {d:α} (x:Int) (v:α) (y:Int):∀ m:List (Int×α),Zp d (X5 x v m) y=if y=x then v else Zp d m y
 | []=>by
  rw [X5,Zp,Zp,Zp];by_cases q:y=x
  ·rw [iT q]; simp [q]
  ·rw [iF q]; simp; intro z; exact absurd z.symm q
 | (a,b) :: m=>by
  rw [X5];by_cases q:a=x
  ·subst q;simp only [decide_true,if_true,Zp];by_cases w:y=a
   ·subst w; simp
   ·rw [iF w]; simp [show ¬ a=y from fun e=>w e.symm]
  ·simp only [q,decide_false,Zp];rw [vS];rw [Zp,Zds x v y m];by_cases w:a=y
   ·subst w; simp [q]
   ·simp [w]
section
variable {c:Cfg} {N B n q:Nat} {K:Nat->List Int} {h:Nat->Bool} {l:Tre} {BL:Nat->Nat->Nat} {LO HI:Nat->Nat->List UInt8} {ND:Nat->Nat->Nd} {ok:Nat->Bool} {α:Type}
def wkR (f:Nat->List T2×Bool) (a:Nat):Nat->List T2×Bool
 | 0=>([],true)
 | m+1=>if (f a).2=true then ((f a).1 ++ (wkR f (a+1) m).1,(wkR f (a+1) m).2) else ((f a).1,false)
def wk (l:Tre) (ok:Nat->Bool):Nat->Nat->List T2×Bool
 | 0,i=>if ok i=true then ([(0,i)],true) else ([],false)
 | k+1,i=>((k+1,i) :: (wkR (wk l ok k) (stR (l.getD (k+1) default) i) (ndT l (k+1) i).2.1.length).1,(wkR (wk l ok k) (stR (l.getD (k+1) default) i) (ndT l (k+1) i).2.1.length).2)
def fdn (l:Tre):Nat->Nat->Nat->Nat
 | 0,_,i=>i
 | d+1,k,i=>fdn l d (k - 1) (stR (l.getD k default) i)
def Zac (l:Tre) (BL:Nat->Nat->Nat) (m:TP) (cnt:Nat->Nat):Prop:=∀ k j,k<l.length->j<wd l k->(Zp false m ((BL k j:Nat):Int)=true↔j<cnt k)
structure VT (c:Cfg) (N:Nat) (K:Nat->List Int) (l:Tre) (BL:Nat->Nat->Nat) (ND:Nat->Nat->Nd) (ok:Nat->Bool):Prop where
 b1:∀ k i,k<l.length->i<wd l k->1<=BL k i
 bN:∀ k i,k<l.length->i<wd l k->BL k i<N
 kb:∀ k i,k<l.length->i<wd l k->K (BL k i)=Vs c (ND k i)
 kd:∀ k i,k<l.length->i<wd l k->∀ x∈(ND k i).2.1,0<=x/\x<4294967296
 rt:∀ k i,k<l.length->i<wd l k->Xc c V2 (ND k i)=true
 inn:∀ k i,k+1<l.length->i<wd l (k+1)->ND (k+1) i=Y7 l BL (k+1) i
 inR:∀ k i,k+1<l.length->i<wd l (k+1)->Xc c (spA l (k+1) i) (ND (k+1) i)=true
 lf:∀ i,i<wd l 0->(ND 0 i).1=0
 lfR:∀ i,i<wd l 0->Xc c (spA l 0 i) (ND 0 i)=ok i
 inj:∀ k j k' j',k<l.length->j<wd l k->k'<l.length->j'<wd l k'->BL k j=BL k' j'->k=k'/\j=j'
theorem VT.ev (V:VT c N K l BL ND ok) (hc:OkC c) {k i:Nat} (hk:k<l.length) (hi:i<wd l k) (p:Sp):Ev (fun f=>Q67.f f c p (ND k i)) (Xc c p (ND k i))/\Q65.f (ND k i)=some (ND k i):=by
 have hn:=Jn hc (V.kd k i hk hi) (V.rt k i hk hi);have h9:=hc.nat
 have hs:(ND k i).2.1.length<=64/\(ND k i).2.2.1.length<=64/\(ND k i).2.2.2.1.length<=512/\(ND k i).2.2.2.2.length<=1024:=by
  by_cases z:(ND k i).1=0
  ·have ho:=hn.o z;rw [ho.1,ho.2.1,ho.2.2.1];have:=ho.2.2.2;simp; omega
  ·have hi:=hn.i z;rw [hi.1];simp; omega
 obtain ⟨s1,s2,s3,s4⟩:=hs;refine ⟨Zdz (by omega) (by omega) (by omega) (by omega) (V.kd k i hk hi),?_⟩;unfold Q65.f;rw [Ziw (by omega),Zjr (by omega),Zk5 (by omega),Zjl (by omega)];rfl
theorem VT.load (g:Geo c N B n) (V:VT c N K l BL ND ok) {s:Shf} {L:List Nat} {t:Nat} (S:ShK c N B n t s L q K h) (ht:t<=800000) {k i:Nat} (hk:k<l.length) (hi:i<wd l k):∃(s':Shf) (L':List Nat),Ev (fun f=>Q83.f f s ((BL k i:Nat):Int)) (ND k i,0,s')/\ShK c N B n (t+1) s' L' q K h:=by
 have:=g.N5;have bN:=V.bN k i hk hi;obtain ⟨s',L',e,r,_⟩:=Zs8 g S ht (i:=BL k i) (by omega);rw [iT ⟨V.b1 k i hk hi,bN⟩,V.kb k i hk hi,Zlo g.ok (V.kd k i hk hi) (V.rt k i hk hi)] at e;exact ⟨s',L',e,r⟩
structure VisC (α:Type) (on:Int->Nd->Sp->α->Option α) (V:Nat->Shf×List TZ×Bool->Int->Int->Sp->α->Option (Int×α×Shf×List TZ×Bool)) (G:Bool->Nat->Sp->Nd×Int×Shf->Shf->α->List TZ->Bool->Int->Option (Int×α×Shf×List TZ×Bool)):Prop where
 hV:∀(f:Nat) (s:Shf) (m:TP) (i lv:Int) (p:Sp) (o:α) (nd:Nd) (s':Shf) (r:Bool),Q83.f (f+2) s i=some (nd,0,s')->Zp false m i=false->(lv=-1\/lv=nd.1/\0<=lv)->Q67.f (f+2) s'.1 p nd=some r->Q65.f nd=some nd->V (f+3) (s,m,false) i lv p o=if r=true then (on i nd p o).bind fun o'=>G (decide (0<=lv)) f p (nd,0,s') s' o' (X5 i true m) false 0 else some (12,o,s',m,false)
 hG:∀(b:Bool) (f:Nat) (p:Sp) (r1:Nd×Int×Shf) (s:Shf) (o:α) (m:TP) (j:Int),G b (f+1) p r1 s o m false j=if decide (j<(r1.1.2.1.length:Int))=true then (if 0<=j/\j<(r1.1.2.1.length:Int) then ((Q58.f r1.1.2.2.1 j p).bind fun r6=>if Zp false m (gt r1.1.2.1 j)=true then some (12,o,s,m,false) else ((V f (s,m,false) (gt r1.1.2.1 j) (w64 (r1.1.1 - 1)) r6.1 o).bind fun r7=>if (!decide (r7.1=0))=true then some r7 else G b f p r1 r7.2.2.1 r7.2.1 r7.2.2.2.1 r7.2.2.2.2 (w64 (j+1)))) else none) else some (0,o,s,m,false)
section
variable {on:Int->Nd->Sp->α->Option α} {V:Nat->Shf×List TZ×Bool->Int->Int->Sp->α->Option (Int×α×Shf×List TZ×Bool)} {G:Bool->Nat->Sp->Nd×Int×Shf->Shf->α->List TZ->Bool->Int->Option (Int×α×Shf×List TZ×Bool)}
def onW (on:Int->Nd->Sp->α->Option α) (l:Tre) (BL:Nat->Nat->Nat) (ND:Nat->Nat->Nd) (o:α) (w:T2):Option α:=on ((BL w.1 w.2:Nat):Int) (ND w.1 w.2) (spA l w.1 w.2) o
theorem Zqu (X:VisC α on V G) (T:GoodT c l) (Gr:Gro l LO HI) (VT':VT c N K l BL ND ok) {k i:Nat} (hk:k+1<l.length) (hi:i<wd l (k+1)) (b:Bool) {r1:Nd×Int×Shf} (er:r1.1=ND (k+1) i)
  (IH:∀(i:Nat) (s:Shf) (L:List Nat) (t:Nat) (lv:Int) (m:TP) (cnt:Nat->Nat) (o o':α),i<wd l k->ShK c N B n t s L q K h->t+(ds l k i+1)<=800000->(lv=-1\/lv=(k:Int))->Zac l BL m cnt->(∀ d,d<=k->cnt (k - d)=fdn l d k i)->(wk l ok k i).1.foldlM (onW on l BL ND) o=some o'->∃ s' L' t' m',Ev (fun f=>V f (s,m,false) ((BL k i:Nat):Int) lv (spA l k i) o) (if (wk l ok k i).2=true then 0 else 12,o',s',m',false)/\ShK c N B n t' s' L' q K h/\t'<=t+(ds l k i+1)/\((wk l ok k i).2=true->Zac l BL m' fun k'=>if k'<=k then fdn l (k - k') k (i+1) else cnt k')) :
  ∀(rem j:Nat) (s:Shf) (L:List Nat) (t:Nat) (m:TP) (cnt:Nat->Nat) (o o':α),j+rem=(ndT l (k+1) i).2.1.length->ShK c N B n t s L q K h->t+Wn (ds l k) (stR (l.getD (k+1) default) i+j) rem<=800000->Zac l BL m cnt->(∀ d,d<=k->cnt (k - d)=fdn l d k (stR (l.getD (k+1) default) i+j))->(wkR (wk l ok k) (stR (l.getD (k+1) default) i+j) rem).1.foldlM (onW on l BL ND) o=some o'->
  ∃ s' L' t' m',Ev (fun f=>G b f (spA l (k+1) i) r1 s o m false (j:Int)) (if (wkR (wk l ok k) (stR (l.getD (k+1) default) i+j) rem).2=true then 0 else 12,o',s',m',false)/\ShK c N B n t' s' L' q K h/\t'<=t+Wn (ds l k) (stR (l.getD (k+1) default) i+j) rem/\((wkR (wk l ok k) (stR (l.getD (k+1) default) i+j) rem).2=true->Zac l BL m' fun k'=>if k'<=k then fdn l (k - k') k (stR (l.getD (k+1) default) i+j+rem) else cnt k'):=by
 have nd:=Gr.nd hk hi;have h6:=T.len;have pvl:=nd.pvl;have fan:=nd.fan;have e1:(ND (k+1) i).2.1.length=(ndT l (k+1) i).2.1.length:=by rw [VT'.inn k i hk hi]; unfold Y7; rw [length_map]
 have e2:(ND (k+1) i).2.2.1=(ndT l (k+1) i).2.2.1:=by rw [VT'.inn k i hk hi]; rfl
 have e3:(ND (k+1) i).1=((k+1:Nat):Int):=by rw [VT'.inn k i hk hi]; exact nd.lvl
 have hs:=Xa (row:=l.getD (k+1) default) hi;have hm:=X6 (row:=l.getD (k+1) default) (i:=i+1) (j:=wd l (k+1)) hi (Nat.le_refl _);rw [(Gr.row k hk).2.1,hs] at hm;have hm':stR (l.getD (k+1) default) i+(ndT l (k+1) i).2.1.length<=wd l k:=hm;intro rem
 induction rem with
 | zero=>
  intro j s L t m cnt o o' hj S ht hm hc hf;have ho:o'=o:=by simpa [wkR] using hf.symm
  subst ho;refine ⟨s,L,t,m,⟨1,fun f hf=>?_⟩,S,Nat.le_refl _,fun _ k' j' hk' hj'=>?_⟩
  ·obtain ⟨f,rfl⟩:=kS1 f;show G b (f+1) _ _ s _ m false (j:Int)=_;rw [X.hG,er,iF (by rw [e1]; simp only [dE]; omega)];rfl
  ·rw [hm k' j' hk' hj'];dsimp only;by_cases z:k'<=k
   ·rw [iT z,Nat.add_zero,<- hc (k - k') (by omega),show k - (k - k')=k' by omega]
   ·rw [iF z]
 | succ rem ih=>
  intro j s L t m cnt o o' hj S ht hm hc hf;have hjl:j<(ndT l (k+1) i).2.1.length:=by omega
  have dsu:Wn (ds l k) (stR (l.getD (k+1) default) i+j) (rem+1)=ds l k (stR (l.getD (k+1) default) i+j)+1+Wn (ds l k) (stR (l.getD (k+1) default) i+(j+1)) rem:=rfl;rw [dsu] at ht ⊢;have ck:cnt k=stR (l.getD (k+1) default) i+j:=hc 0 (Nat.zero_le _);have hseen:Zp false m ((BL k (stR (l.getD (k+1) default) i+j):Nat):Int)=false:=by
   exact Bool.eq_false_iff.2 fun z=>by have:=(hm k _ (by omega) (by omega)).1 z; omega
  have wkS:wkR (wk l ok k) (stR (l.getD (k+1) default) i+j) (rem+1)=if (wk l ok k (stR (l.getD (k+1) default) i+j)).2=true then ((wk l ok k (stR (l.getD (k+1) default) i+j)).1 ++ (wkR (wk l ok k) (stR (l.getD (k+1) default) i+(j+1)) rem).1,(wkR (wk l ok k) (stR (l.getD (k+1) default) i+(j+1)) rem).2) else ((wk l ok k (stR (l.getD (k+1) default) i+j)).1,false):=rfl
  have step:∀ f,G b (f+1) (spA l (k+1) i) r1 s o m false (j:Int)=(V f (s,m,false) ((BL k (stR (l.getD (k+1) default) i+j):Nat):Int) (k:Int) (spA l k (stR (l.getD (k+1) default) i+j)) o).bind fun r7=>if (!decide (r7.1=0))=true then some r7 else G b f (spA l (k+1) i) r1 r7.2.2.1 r7.2.1 r7.2.2.2.1 r7.2.2.2.2 ((j+1:Nat):Int):=fun f=>by
   rw [X.hG,er,iT (by rw [e1]; simp only [dE]; omega),iT (by rw [e1]; omega),e2,Zmo (by omega) _ j (by omega),bS,Zw,VT'.inn k i hk hi,Zsw Gr hk hi hjl,hseen,vS,<- Zkm hk hi hjl];rw [<- VT'.inn k i hk hi,e3,wI2 (x:=((k+1:Nat):Int) - 1),show ((k+1:Nat):Int) - 1=(k:Int) by omega,wS2]
  rw [wkS] at hf ⊢;cases q:(wk l ok k (stR (l.getD (k+1) default) i+j)).2 with
  | false=>
   rw [q,vS] at hf;obtain ⟨s1,L1,t1,m1,⟨b1,x1⟩,S1,u1,_⟩:=IH (stR (l.getD (k+1) default) i+j) s L t (k:Int) m cnt o o' (by omega) S (by omega) (.inr rfl) hm hc hf;rw [vS];refine ⟨s1,L1,t1,m1,⟨b1+1,fun f hf2=>?_⟩,S1,by omega,fun z=>by cases z⟩;obtain ⟨f,rfl⟩:=kS1 f;show G b (f+1) _ _ s o m false (j:Int)=_;rw [step,show V f _ _ _ _ o=_ from x1 f (by omega),bS,q,iF (show ¬ false=true by simp)];rfl
  | true=>
   rw [q,iT rfl,List.foldlM_append] at hf;cases ho:(wk l ok k (stR (l.getD (k+1) default) i+j)).1.foldlM (onW on l BL ND) o with
   | none=>rw [ho] at hf; cases hf
   | some o1=>
    rw [ho] at hf;replace hf:(wkR (wk l ok k) (stR (l.getD (k+1) default) i+(j+1)) rem).1.foldlM (onW on l BL ND) o1=some o':=hf;obtain ⟨s1,L1,t1,m1,⟨b1,x1⟩,S1,u1,c1⟩:=IH (stR (l.getD (k+1) default) i+j) s L t (k:Int) m cnt o o1 (by omega) S (by omega) (.inr rfl) hm hc ho;have c1':=c1 q;obtain ⟨s2,L2,t2,m2,⟨b2,x2⟩,S2,u2,c2⟩:=ih (j+1) s1 L1 t1 m1 _ o1 o' (by omega) S1 (by omega) c1' (fun d hd=>by
     show (if k - d<=k then _ else _)=_
     rw [iO,show k - (k - d)=d by omega]; rfl) hf
    rw [iT rfl];refine ⟨s2,L2,t2,m2,⟨b1+b2+1,fun f hf2=>?_⟩,S2,by omega,fun z=>?_⟩
    ·obtain ⟨f,rfl⟩:=kS1 f;show G b (f+1) _ _ s o m false (j:Int)=_;rw [step,show V f _ _ _ _ o=_ from x1 f (by omega),bS,q,iT rfl,vS];exact x2 f (by omega)
    ·have c2':=c2 z;intro k' j' hk' hj';rw [c2' k' j' hk' hj'];dsimp only;by_cases w:k'<=k
     ·rw [iT w,iT w,show stR (l.getD (k+1) default) i+(j+1)+rem=stR (l.getD (k+1) default) i+j+(rem+1) by omega]
     ·rw [iF w,iF w,iF w]
theorem Zt5 (X:VisC α on V G) (g:Geo c N B n) (T:GoodT c l) (Gr:Gro l LO HI) (VT':VT c N K l BL ND ok):∀(k i:Nat) (s:Shf) (L:List Nat) (t:Nat) (lv:Int) (m:TP) (cnt:Nat->Nat) (o o':α),k<l.length->i<wd l k->ShK c N B n t s L q K h->t+(ds l k i+1)<=800000->(lv=-1\/lv=(k:Int))->Zac l BL m cnt->(∀ d,d<=k->cnt (k - d)=fdn l d k i)->(wk l ok k i).1.foldlM (onW on l BL ND) o=some o'->∃ s' L' t' m',Ev (fun f=>V f (s,m,false) ((BL k i:Nat):Int) lv (spA l k i) o) (if (wk l ok k i).2=true then 0 else 12,o',s',m',false)/\ShK c N B n t' s' L' q K h/\t'<=t+(ds l k i+1)/\((wk l ok k i).2=true->Zac l BL m' fun k'=>if k'<=k then fdn l (k - k') k (i+1) else cnt k'):=by
 have hc:=Uf g.ok;intro k
 induction k with
 | zero=>
  intro i s L t lv m cnt o o' hk hi S ht hv hm hcn hf;obtain ⟨s1,L1,⟨b0,e⟩,S1⟩:=VT'.load g S (by omega) hk hi;obtain ⟨⟨b1,er⟩,ec⟩:=VT'.ev hc hk hi (spA l 0 i);have l0:=VT'.lf i hi;have c0:cnt 0=i:=hcn 0 (Nat.zero_le _);have hs:Zp false m ((BL 0 i:Nat):Int)=false:=Bool.eq_false_iff.2 fun z=>by have:=(hm 0 i hk hi).1 z; omega
  have rr:=VT'.lfR i hi;have cfg:s1.1=c:=S1.cfg;have head:∀ f,b0+b1<=f->V (f+3) (s,m,false) ((BL 0 i:Nat):Int) lv (spA l 0 i) o=if ok i=true then (on ((BL 0 i:Nat):Int) (ND 0 i) (spA l 0 i) o).bind fun o'=>G (decide (0<=lv)) f (spA l 0 i) (ND 0 i,0,s1) s1 o' (X5 ((BL 0 i:Nat):Int) true m) false 0 else some (12,o,s1,m,false):=fun f hf=>by
   rw [<- rr];exact X.hV f s m _ lv _ o (ND 0 i) s1 _ (e (f+2) (by omega)) hs (by rcases hv with z | z; exact .inl z; exact .inr ⟨by rw [l0,z]; rfl,by rw [z]; exact Int.le_refl _⟩) (by rw [cfg]; exact er (f+2) (by omega)) ec
  have wk0:wk l ok 0 i=if ok i=true then ([(0,i)],true) else ([],false):=rfl
  rw [wk0] at hf ⊢;cases q:ok i with
  | false=>
   rw [q,vS] at hf;have ho:o'=o:=by simpa using hf.symm
   subst ho;rw [iF (show ¬ false=true by simp)];refine ⟨s1,L1,t+1,m,⟨b0+b1+3,fun f hf2=>?_⟩,S1,by omega,fun z=>by cases z⟩;obtain ⟨f,rfl⟩:=kS3 f;show V (f+3) _ _ _ _ _=_;rw [head f (by omega),q,vS];rfl
  | true=>
   rw [q,iT rfl] at hf;rw [iT rfl];have ho:on ((BL 0 i:Nat):Int) (ND 0 i) (spA l 0 i) o=some o':=by simpa [onW] using hf
   have kd0:(ND 0 i).2.1=[]:=by
    have:=VT'.rt 0 i hk hi;unfold Xc at this;rw [iT l0] at this;simp only [Zev,Bool.and_eq_true,dE] at this;exact this.2.1
   refine ⟨s1,L1,t+1,X5 ((BL 0 i:Nat):Int) true m,⟨b0+b1+4,fun f hf2=>?_⟩,S1,by omega,fun _ k' j' hk' hj'=>?_⟩
   ·obtain ⟨f,rfl⟩:∃ k2,f=k2+4:=⟨f - 4,by omega⟩;show V (f+1+3) _ _ _ _ _=_;rw [head (f+1) (by omega),q,iT rfl,ho,bS,X.hG,kd0,vS];rfl
   ·rw [Zds];dsimp only;by_cases z:k'<=0
    ·obtain rfl:k'=0:=by omega
     rw [iT z];show _↔j'<i+1;by_cases w:j'=i
     ·rw [w,iT rfl]; exact ⟨fun _=>by omega,fun _=>rfl⟩
     ·rw [iF (fun y=>w (VT'.inj 0 j' 0 i hk' hj' hk hi (by omega)).2),hm 0 j' hk' hj',c0]; omega
    ·rw [iF z,iF (fun y=>z (by have:=(VT'.inj k' j' 0 i hk' hj' hk hi (by omega)).1; omega)),hm k' j' hk' hj']
 | succ k ih=>
  intro i s L t lv m cnt o o' hk hi S ht hv hm hcn hf;obtain ⟨s1,L1,⟨b0,e⟩,S1⟩:=VT'.load g S (by omega) hk hi;obtain ⟨⟨b1,er⟩,ec⟩:=VT'.ev hc hk hi (spA l (k+1) i);have lv1:(ND (k+1) i).1=((k+1:Nat):Int):=by rw [VT'.inn k i hk hi]; exact (Gr.nd hk hi).lvl
  have c0:cnt (k+1)=i:=hcn 0 (Nat.zero_le _);have hs:Zp false m ((BL (k+1) i:Nat):Int)=false:=Bool.eq_false_iff.2 fun z=>by have:=(hm (k+1) i hk hi).1 z; omega
  have rr:=VT'.inR k i hk hi;have cfg:s1.1=c:=S1.cfg;have head:∀ f,b0+b1<=f->V (f+3) (s,m,false) ((BL (k+1) i:Nat):Int) lv (spA l (k+1) i) o=(on ((BL (k+1) i:Nat):Int) (ND (k+1) i) (spA l (k+1) i) o).bind fun o'=>G (decide (0<=lv)) f (spA l (k+1) i) (ND (k+1) i,0,s1) s1 o' (X5 ((BL (k+1) i:Nat):Int) true m) false 0:=fun f hf=>by
   have hb:=X.hV f s m _ lv _ o (ND (k+1) i) s1 _ (e (f+2) (by omega)) hs (by rcases hv with z | z; exact .inl z; exact .inr ⟨by rw [lv1,z],by rw [z]; omega⟩) (by rw [cfg]; exact er (f+2) (by omega)) ec;rw [rr,iT rfl] at hb;exact hb
  have wkS:wk l ok (k+1) i=((k+1,i) :: (wkR (wk l ok k) (stR (l.getD (k+1) default) i) (ndT l (k+1) i).2.1.length).1,(wkR (wk l ok k) (stR (l.getD (k+1) default) i) (ndT l (k+1) i).2.1.length).2):=rfl;rw [wkS] at hf ⊢;dsimp only at hf ⊢;rw [List.foldlM_cons] at hf;have hon:onW on l BL ND o (k+1,i)=on ((BL (k+1) i:Nat):Int) (ND (k+1) i) (spA l (k+1) i) o:=rfl;cases ho:on ((BL (k+1) i:Nat):Int) (ND (k+1) i) (spA l (k+1) i) o with
  | none=>rw [hon,ho] at hf; cases hf
  | some o1=>
   rw [hon,ho] at hf;replace hf:(wkR (wk l ok k) (stR (l.getD (k+1) default) i) (ndT l (k+1) i).2.1.length).1.foldlM (onW on l BL ND) o1=some o':=hf;have m1:Zac l BL (X5 ((BL (k+1) i:Nat):Int) true m) fun k'=>if k'=k+1 then i+1 else cnt k':=fun k' j' hk' hj'=>by
    rw [Zds];dsimp only;by_cases z:k'=k+1
    ·subst z;rw [iT rfl];by_cases w:j'=i
     ·rw [w,iT rfl]; exact ⟨fun _=>by omega,fun _=>rfl⟩
     ·rw [iF (fun y=>w (VT'.inj (k+1) j' (k+1) i hk' hj' hk hi (by omega)).2),hm (k+1) j' hk' hj',c0]; omega
    ·rw [iF z,iF (fun y=>z (VT'.inj k' j' (k+1) i hk' hj' hk hi (by omega)).1),hm k' j' hk' hj']
   obtain ⟨s2,L2,t2,m2,⟨b2,x2⟩,S2,u2,c2⟩:=Zqu (q:=q) (h:=h) (B:=B) (n:=n) X T Gr VT' hk hi (decide (0<=lv)) (r1:=(ND (k+1) i,0,s1)) rfl (fun i s L t lv m cnt o o' a1 a2 a3 a4 a5 a6 a7=>ih i s L t lv m cnt o o' (by omega) a1 a2 a3 a4 a5 a6 a7) (ndT l (k+1) i).2.1.length 0 s1 L1 (t+1) _ _ o1 o' (by omega) S1 (by show t+1+ds l (k+1) i<=_; omega) m1 (fun d hd=>by
    show (if k - d=k+1 then _ else _)=_
    rw [iQ,show k - d=k+1 - (d+1) by omega,hcn (d+1) (by omega)]; rfl) hf
   refine ⟨s2,L2,t2,m2,⟨b0+b1+b2+3,fun f hf2=>?_⟩,S2,by show t2<=t+(Wn (ds l k) (stR (l.getD (k+1) default) i) (ndT l (k+1) i).2.1.length+1); exact Nat.le_trans u2 (by show t+1+Wn (ds l k) (stR (l.getD (k+1) default) i) (ndT l (k+1) i).2.1.length<=_; omega),fun z k' j' hk' hj'=>?_⟩
   ·obtain ⟨f,rfl⟩:=kS3 f;show V (f+3) _ _ _ _ _=_;rw [head f (by omega),ho,bS];exact x2 f (by omega)
   ·rw [c2 z k' j' hk' hj'];dsimp only;have hs:=Xa (row:=l.getD (k+1) default) hi;have hs':stR (l.getD (k+1) default) (i+1)=stR (l.getD (k+1) default) i+(ndT l (k+1) i).2.1.length:=hs;by_cases w:k'<=k
    ·rw [iT w,iO,show k+1 - k'=(k - k')+1 by omega];show j'<fdn l (k - k') k (stR (l.getD (k+1) default) i+0+_)↔j'<fdn l (k - k') (k+1 - 1) (stR (l.getD (k+1) default) (i+1));rw [hs',Nat.add_zero,Nat.add_sub_cancel]
    ·rw [iF w];by_cases y:k'=k+1
     ·subst y;rw [iT rfl,iT (Nat.le_refl _),Nat.sub_self]; rfl
     ·rw [iF y,iQ]
end
end
abbrev Rep:=Int×Int×Int×Int×Int
def Zd8 (nd:Nd) (o:Rep):Rep:=(if w64 (nd.1+1)>o.1 then w64 (nd.1+1) else o.1,w64 (o.2.1+1),if nd.1=0 then w64 (o.2.2.1+1) else o.2.2.1,w64 (o.2.2.2.1+(nd.2.2.2.2.length:Int)),w64 (o.2.2.2.2+(nd.2.2.2.1.length:Int)))
theorem Zte (i:Int) (nd:Nd) (p:Sp) (o:Rep):Q155.f i nd p o=some (true,Zd8 nd o):=by
 unfold Q155.f Zd8;by_cases q:nd.1=0
 ·rw [iT (dT q),iT q]
 ·rw [iF (by simpa using q),iF q]
def Uv (_:Int) (nd:Nd) (_:Sp) (o:Rep):Option Rep:=some (Zd8 nd o)
def Zpo (_:Bool) (f:Nat) (p:Sp) (r1:Nd×Int×Shf) (s:Shf) (o:Rep) (m:TP) (e:Bool) (j:Int):Option (Int×Rep×Shf×List TZ×Bool):=Q157.l2 f p r1 s.1 s.2.1.1 s.2.1.2.2.2.2 s.2.2.1 o s.2.1.2.1 s.2.1.2.2.1 s.2.1.2.2.2.1 s.2.2.2 m e j
theorem Zqv:VisC Rep Uv Q157.f Zpo:=by
 refine ⟨fun f s m i lv p o nd s' r hL hm hv hr hc=>?_,fun b f p r1 s o m j=>?_⟩
 ·rw [Q157.f,show Q83.f (f+2) s i=_ from hL,bS,vS,iF (by simp [hm])];have cf:Q81.f s'=some s'.1:=rfl;have j:Q157.l0 (f+2) (s,m,false) i p o (nd,0,s') false=(Uv i nd p o).bind fun o'=>Zpo (decide (0<=lv)) f p (nd,0,s') s' o' (X5 i true m) false 0:=by
   rw [Q157.l0,hc,bS,Zte,bS,vS,Q157.l1];rfl
  rcases hv with rfl | ⟨rfl,h0⟩
  ·rw [iF (by decide)];dsimp only;rw [cf,bS,hr,bS];cases r with
   | false=>rfl
   | true=>rw [vS,iT rfl]; exact j
  ·rw [iT (dT h0),vS];dsimp only;rw [cf,bS,hr,bS];cases r with
   | false=>rfl
   | true=>rw [vS,iT rfl]; exact j
 ·show Q157.l2 (f+1) p r1 _ _ _ _ o _ _ _ _ m false j=_;rw [Q157.l2];rfl
def Y1 (f:Nat->Nat):Nat->Nat
 | 0=>0
 | n+1=>Y1 f n+f n
def sW (f:Nat->Nat->Nat) (W:TS):Nat:=(W.map fun w=>f w.1 w.2).sum
theorem Zro (f:Nat->Nat->Nat) (a b:TS):sW f (a ++ b)=sW f a+sW f b:=by unfold sW; rw [List.map_append,List.sum_append]
section
variable {c:Cfg} {l:Tre} {LO HI:Nat->Nat->List UInt8} {ok:Nat->Bool}
def pS (l:Tre) (f:Nat->Nat->Nat):Nat->Nat->Nat
 | 0,a=>Y1 (f 0) a
 | k+1,a=>Y1 (f (k+1)) a+pS l f k (stR (l.getD (k+1) default) a)
def tS (l:Tre) (f:Nat->Nat->Nat):Nat->Nat
 | 0=>Y1 (f 0) (wd l 0)
 | k+1=>Y1 (f (k+1)) (wd l (k+1))+tS l f k
theorem Zpw (G:Gro l LO HI) (f:Nat->Nat->Nat):∀ k,k<l.length->pS l f k (wd l k)=tS l f k
 | 0,_=>rfl
 | k+1,hk=>by rw [pS,(G.row k hk).2.1,Zpw G f k (by omega),tS]
theorem Zkh (f:Nat->Nat->Nat):∀ k,pS l f k 0=0
 | 0=>rfl
 | k+1=>by rw [pS,Gg,Zkh f k]; rfl
theorem Zj6 (f:Nat->Nat->Nat) {g:Nat->List T2×Bool} {P:Nat->Nat}:∀ m a,(∀ i,a<=i->i<a+m->(g i).2=true/\sW f (g i).1+P i=P (i+1))->(wkR g a m).2=true/\sW f (wkR g a m).1+P a=P (a+m)
 | 0,a,_=>⟨rfl,by show 0+P a=P a; omega⟩
 | m+1,a,h=>by
  obtain ⟨h1,h2⟩:=h a (Nat.le_refl _) (by omega);obtain ⟨r1,r2⟩:=Zj6 f m (a+1) fun i hi hi2=>h i (by omega) (by omega);rw [wkR,iT h1];refine ⟨r1,?_⟩;rw [Zro];rw [show a+(m+1)=a+1+m by omega,<- r2,<- h2]; omega
theorem Zb6 (G:Gro l LO HI) (hok:∀ i,ok i=true) (f:Nat->Nat->Nat):∀ k i,k<l.length->i<wd l k->(wk l ok k i).2=true/\sW f (wk l ok k i).1+pS l f k i=pS l f k (i+1)
 | 0,i,_,_=>by
  rw [wk,iT (hok i)];exact ⟨rfl,by show f 0 i+0+Y1 (f 0) i=Y1 (f 0) i+f 0 i; omega⟩
 | k+1,i,hk,hi=>by
  have hs:=Xa (row:=l.getD (k+1) default) hi;have hs':stR (l.getD (k+1) default) (i+1)=stR (l.getD (k+1) default) i+(ndT l (k+1) i).2.1.length:=hs;have hm:=X6 (row:=l.getD (k+1) default) (i:=i+1) (j:=wd l (k+1)) hi (Nat.le_refl _);rw [(G.row k hk).2.1] at hm;obtain ⟨r1,r2⟩:=Zj6 f (P:=pS l f k) (ndT l (k+1) i).2.1.length (stR (l.getD (k+1) default) i) fun a h1 h2=>Zb6 G hok f k a (by omega) (by omega);rw [wk];refine ⟨r1,?_⟩;show (f (k+1) i+sW f (wkR (wk l ok k) _ _).1)+(Y1 (f (k+1)) i+pS l f k (stR (l.getD (k+1) default) i))=(Y1 (f (k+1)) i+f (k+1) i)+pS l f k (stR (l.getD (k+1) default) (i+1));rw [hs',<- r2]; omega
theorem Gj (T:GoodT c l) (G:Gro l LO HI) (hok:∀ i,ok i=true) (f:Nat->Nat->Nat):(wk l ok (l.length - 1) 0).2=true/\sW f (wk l ok (l.length - 1) 0).1=tS l f (l.length - 1):=by
 have hne:=G.ne;have top:=T.top;obtain ⟨h1,h2⟩:=Zb6 G hok f (l.length - 1) 0 (by omega) (by omega);refine ⟨h1,?_⟩;rw [Zkh,Nat.add_zero] at h2;rw [h2,<- Zpw G f _ (by omega),top]
theorem Zd6 (G:Gro l LO HI):∀ {d k a b:Nat},d<=k->k<l.length->a<=b->b<=wd l k->fdn l d k a<=fdn l d k b
 | 0,k,a,b,_,_,h,_=>h
 | d+1,0,a,b,hd,_,_,_=>by omega
 | d+1,k+1,a,b,hd,hk,h,hb=>by
  have m1:=X6 (row:=l.getD (k+1) default) h hb;have m2:=X6 (row:=l.getD (k+1) default) (i:=b) (j:=wd l (k+1)) hb (Nat.le_refl _);rw [(G.row k hk).2.1] at m2;exact Zd6 G (d:=d) (k:=k) (by omega) (by omega) m1 m2
theorem Zi8 {l:Tre} {d k j:Nat}:∀(m a:Nat),fdn l d k a<=j->j<fdn l d k (a+m)->∃ i,a<=i/\i<a+m/\fdn l d k i<=j/\j<fdn l d k (i+1)
 | 0,a,h1,h2=>by rw [Nat.add_zero] at h2; omega
 | m+1,a,h1,h2=>by
  by_cases q:j<fdn l d k (a+1)
  ·exact ⟨a,Nat.le_refl _,by omega,h1,q⟩
  ·obtain ⟨i,i1,i2,i3⟩:=Zi8 m (a+1) (Nat.le_of_not_lt q) (by rw [show a+1+m=a+(m+1) by omega]; exact h2);exact ⟨i,by omega,by omega,i3⟩
theorem Zcj {g:Nat->List T2×Bool} {w:T2}:∀ m a,(∀ i,a<=i->i<a+m->(g i).2=true)->(w∈(wkR g a m).1↔∃ i,a<=i/\i<a+m/\w∈(g i).1)
 | 0,a,_=>by
  rw [wkR];constructor
  ·intro h; cases h
  ·rintro ⟨i,h1,h2,_⟩; omega
 | m+1,a,h=>by
  rw [wkR,iT (h a (Nat.le_refl _) (by omega)),List.mem_append,Zcj m (a+1) fun i hi hi2=>h i (by omega) (by omega)];constructor
  ·rintro (q | ⟨i,h1,h2,q⟩)
   ·exact ⟨a,Nat.le_refl _,by omega,q⟩
   ·exact ⟨i,by omega,by omega,q⟩
  ·rintro ⟨i,h1,h2,q⟩;by_cases z:i=a
   ·subst z; exact .inl q
   ·exact .inr ⟨i,by omega,by omega,q⟩
theorem Zbd (G:Gro l LO HI) (hok:∀ i,ok i=true) {k' j':Nat}:∀ k i,k<l.length->i<wd l k->((k',j')∈(wk l ok k i).1↔k'<=k/\fdn l (k - k') k i<=j'/\j'<fdn l (k - k') k (i+1))
 | 0,i,_,_=>by
  rw [wk,iT (hok i),List.mem_singleton];constructor
  ·intro h;obtain ⟨rfl,rfl⟩:=Prod.mk.inj h;exact ⟨Nat.le_refl _,Nat.le_refl _,Nat.lt_succ_self _⟩
  ·rintro ⟨h1,h2,h3⟩;obtain rfl:k'=0:=by omega
   have h2':i<=j':=h2;have h3':j'<i+1:=h3;rw [show j'=i by omega]
 | k+1,i,hk,hi=>by
  have hs:=Xa (row:=l.getD (k+1) default) hi;have hs':stR (l.getD (k+1) default) (i+1)=stR (l.getD (k+1) default) i+(ndT l (k+1) i).2.1.length:=hs;have hm:=X6 (row:=l.getD (k+1) default) (i:=i+1) (j:=wd l (k+1)) hi (Nat.le_refl _);rw [(G.row k hk).2.1] at hm;have IH:=fun a (h1:stR (l.getD (k+1) default) i<=a) (h2:a<stR (l.getD (k+1) default) i+(ndT l (k+1) i).2.1.length)=>Zbd G hok (k':=k') (j':=j') k a (by omega) (by omega);rw [wk,List.mem_cons,Zcj _ _ fun a h1 h2=>(Zb6 G hok (fun _ _=>0) k a (by omega) (by omega)).1];by_cases z:k'=k+1
  ·subst z;rw [Nat.sub_self];constructor
   ·rintro (q | ⟨a,h1,h2,q⟩)
    ·have:j'=i:=(Prod.mk.inj q).2;exact ⟨Nat.le_refl _,by show i<=j'; omega,by show j'<i+1; omega⟩
    ·have:=((IH a h1 h2).1 q).1; omega
   ·rintro ⟨_,h2,h3⟩;have h2':i<=j':=h2;have h3':j'<i+1:=h3;exact .inl (by rw [show j'=i by omega])
  ·have fd:∀ x,k'<=k->fdn l (k+1 - k') (k+1) x=fdn l (k - k') k (stR (l.getD (k+1) default) x):=fun x hx=>by rw [show k+1 - k'=(k - k')+1 by omega]; rfl
   constructor
   ·rintro (q | ⟨a,h1,h2,q⟩)
    ·exact absurd (Prod.mk.inj q).1 z
    ·obtain ⟨q1,q2,q3⟩:=(IH a h1 h2).1 q;have m1:=Zd6 G (k:=k) (d:=k - k') (by omega) (by omega) h1 (show a<=wd l k by omega);have m2:=Zd6 G (k:=k) (d:=k - k') (by omega) (by omega) (show a+1<=stR (l.getD (k+1) default) (i+1) by omega) hm;exact ⟨by omega,by rw [fd _ q1]; omega,by rw [fd _ q1]; omega⟩
   ·rintro ⟨h1,h2,h3⟩;have hk':k'<=k:=by omega
    rw [fd _ hk'] at h2 h3;rw [hs'] at h3;obtain ⟨a,a1,a2,a3,a4⟩:=Zi8 (l:=l) (d:=k - k') (k:=k) (j:=j') _ (stR (l.getD (k+1) default) i) h2 h3;exact .inr ⟨a,a1,a2,(IH a a1 a2).2 ⟨hk',a3,a4⟩⟩
end
theorem Zkb:∀ {a b:T0},a.Pairwise (fun x y=>x<y)->b.Pairwise (fun x y=>x<y)->(∀ x,x∈a↔x∈b)->a=b
 | [],[],_,_,_=>rfl
 | [],y :: b,_,_,h=>absurd ((h y).2 List.mem_cons_self) (by simp)
 | x :: a,[],_,_,h=>absurd ((h x).1 List.mem_cons_self) (by simp)
 | x :: a,y :: b,ha,hb,h=>by
  obtain ⟨a1,a2⟩:=List.pairwise_cons.1 ha;obtain ⟨b1,b2⟩:=List.pairwise_cons.1 hb;have e:x=y:=by
   have h1:=(h x).1 List.mem_cons_self;have h2:=(h y).2 List.mem_cons_self;rcases List.mem_cons.1 h1 with q | q
   ·exact q
   ·rcases List.mem_cons.1 h2 with w | w
    ·exact w.symm
    ·have:=a1 y w; have:=b1 x q; omega
  subst e;rw [Zkb a2 b2 fun z=>?_];constructor
  ·intro hz;rcases List.mem_cons.1 ((h z).1 (List.mem_cons_of_mem _ hz)) with q | q
   ·have:=a1 z hz; omega
   ·exact q
  ·intro hz;rcases List.mem_cons.1 ((h z).2 (List.mem_cons_of_mem _ hz)) with q | q
   ·have:=b1 z hz; omega
   ·exact q
theorem Zp9 {N:Nat} {h:Nat->Bool} {B:T0} (hN:1<=N) (h0:h 0=true) (nd:B.Nodup) (mem:∀ x,x∈B↔∃ b:Nat,1<=b/\b<N/\h b=true/\x=(b:Int)):(0:Int) :: (B.mergeSort fun x y=>decide (x<=y))=G4 N h:=by
 have hp:(B.mergeSort fun x y=>decide (x<=y)).Perm B:=List.mergeSort_perm _ _;have hs:(B.mergeSort fun x y=>decide (x<=y)).Pairwise (fun x y=>x<=y):=by
  have:=List.pairwise_mergeSort (le:=fun x y:Int=>decide (x<=y)) (fun a b c h1 h2=>by simp only [dE] at *; omega) (fun a b=>by simp only [Bool.or_eq_true,dE]; omega) B;exact this.imp fun h=>of_decide_eq_true h
 have hn:(B.mergeSort fun x y=>decide (x<=y)).Pairwise (fun x y=>x≠y):=hp.nodup_iff.2 nd;refine Zkb (List.pairwise_cons.2 ⟨fun y hy=>?_,?_⟩) ?_ fun x=>?_
 ·obtain ⟨b,b1,_,_,e⟩:=(mem y).1 (hp.mem_iff.1 hy);omega
 ·exact (hs.and hn).imp fun q=>by obtain ⟨q1,q2⟩:=q; omega
 ·unfold G4;rw [List.pairwise_map];exact (List.pairwise_lt_range.sublist List.filter_sublist).imp fun q=>by omega
 ·rw [List.mem_cons,hp.mem_iff,mem];unfold G4;rw [List.mem_map];constructor
  ·rintro (rfl | ⟨b,b1,b2,b3,rfl⟩)
   ·exact ⟨0,List.mem_filter.2 ⟨List.mem_range.2 hN,h0⟩,rfl⟩
   ·exact ⟨b,List.mem_filter.2 ⟨List.mem_range.2 b2,b3⟩,rfl⟩
  ·rintro ⟨b,hb,rfl⟩;obtain ⟨q1,q2⟩:=List.mem_filter.1 hb;by_cases z:b=0
   ·subst z; exact .inl rfl
   ·exact .inr ⟨b,by omega,List.mem_range.1 q1,q2,rfl⟩
section
variable {c:Cfg} {l:Tre} {LO HI:Nat->Nat->List UInt8} {ok:Nat->Bool} {BL:Nat->Nat->Nat} {ND:Nat->Nat->Nd}
theorem Zf5 (G:Gro l LO HI) (hok:∀ i,ok i=true) {k:Nat} (hk:k<l.length) (IH:∀ i,i<wd l k->(wk l ok k i).1.Nodup):∀ m a,a+m<=wd l k->(wkR (wk l ok k) a m).1.Nodup
 | 0,a,_=>List.nodup_nil
 | m+1,a,h=>by
  have h2:=fun i (hi:i<wd l k)=>(Zb6 G hok (fun _ _=>0) k i hk hi).1;rw [wkR,iT (h2 a (by omega))];refine List.nodup_append.2 ⟨IH a (by omega),Zf5 G hok hk IH m (a+1) (by omega),fun x hx y hy e=>?_⟩;subst e;obtain ⟨i,i1,i2,i3⟩:=(Zcj m (a+1) fun i _ hi2=>h2 i (by omega)).1 hy;obtain ⟨k',j'⟩:=x;obtain ⟨p1,p2,p3⟩:=(Zbd G hok k a hk (by omega)).1 hx;obtain ⟨q1,q2,q3⟩:=(Zbd G hok k i hk (by omega)).1 i3;have:=Zd6 G (d:=k - k') (k:=k) (by omega) hk i1 (by omega);omega
theorem Zi7 (G:Gro l LO HI) (hok:∀ i,ok i=true):∀ k i,k<l.length->i<wd l k->(wk l ok k i).1.Nodup
 | 0,i,_,_=>by rw [wk,iT (hok i)]; simp
 | k+1,i,hk,hi=>by
  have hs:=Xa (row:=l.getD (k+1) default) hi;have hs':stR (l.getD (k+1) default) (i+1)=stR (l.getD (k+1) default) i+(ndT l (k+1) i).2.1.length:=hs;have hm:=X6 (row:=l.getD (k+1) default) (i:=i+1) (j:=wd l (k+1)) hi (Nat.le_refl _);rw [(G.row k hk).2.1] at hm;rw [wk];refine List.nodup_cons.2 ⟨fun z=>?_,Zf5 G hok (by omega) (fun a ha=>Zi7 G hok k a (by omega) ha) _ _ (by omega)⟩;obtain ⟨a,a1,a2,a3⟩:=(Zcj _ _ fun a _ h2=>(Zb6 G hok (fun _ _=>0) k a (by omega) (by omega)).1).1 z;have:=((Zbd G hok k a (by omega) (by omega)).1 a3).1;omega
theorem Zdh:∀ d k,fdn l d k 0=0
 | 0,_=>rfl
 | d+1,k=>by rw [fdn,Gg,Zdh d]
theorem Znx (G:Gro l LO HI):∀ {d k:Nat},d<=k->k<l.length->fdn l d k (wd l k)=wd l (k - d)
 | 0,k,_,_=>rfl
 | d+1,0,h,_=>by omega
 | d+1,k+1,h,hk=>by
  show fdn l d k (stR (l.getD (k+1) default) (wd l (k+1)))=_;rw [(G.row k hk).2.1,Znx G (by omega) (by omega),show k+1 - (d+1)=k - d by omega]
theorem Zbu (T:GoodT c l) (G:Gro l LO HI) (hok:∀ i,ok i=true) {k' j':Nat}:(k',j')∈(wk l ok (l.length - 1) 0).1↔k'<l.length/\j'<wd l k':=by
 have hne:=G.ne;have top:=T.top;have e:k'<l.length->fdn l (l.length - 1 - k') (l.length - 1) (0+1)=wd l k':=fun hk=>by
  have:=Znx G (d:=l.length - 1 - k') (k:=l.length - 1) (by omega) (by omega);rw [top,show l.length - 1 - (l.length - 1 - k')=k' by omega] at this;exact this
 rw [Zbd G hok (l.length - 1) 0 (by omega) (by omega),Zdh];constructor
 ·rintro ⟨h1,_,h2⟩;rw [e (by omega)] at h2;exact ⟨by omega,h2⟩
 ·rintro ⟨h1,h2⟩;exact ⟨by omega,Nat.zero_le _,by rw [e h1]; exact h2⟩
theorem Zf4 {BL:Nat->Nat->Nat} {H:Nat} (hH:H<=100):∀(W:TS) (a b p m:Nat),(∀ w∈W,w.1+1<=H/\(ND w.1 w.2).1=(w.1:Int))->a+sW (fun _ _=>1) W<=1000000000->b+sW (fun k _=>if k=0 then 1 else 0) W<=1000000000->p+sW (fun k i=>(ND k i).2.2.2.2.length) W<=1000000000->m+sW (fun k i=>(ND k i).2.2.2.1.length) W<=1000000000->
  W.foldlM (onW Uv l BL ND) (((H:Int),(a:Int),(b:Int),(p:Int),(m:Int)):Rep)=some ((H:Int),((a+sW (fun _ _=>1) W:Nat):Int),((b+sW (fun k _=>if k=0 then 1 else 0) W:Nat):Int),((p+sW (fun k i=>(ND k i).2.2.2.2.length) W:Nat):Int),((m+sW (fun k i=>(ND k i).2.2.2.1.length) W:Nat):Int))
 | [],a,b,p,m,_,_,_,_,_=>rfl
 | w :: W,a,b,p,m,hw,h1,h2,h3,h4=>by
  obtain ⟨w1,w2⟩:=hw w List.mem_cons_self;have s1:sW (fun _ _=>1) (w :: W)=1+sW (fun _ _=>1) W:=rfl;have s2:sW (fun k _=>if k=0 then 1 else 0) (w :: W)=(if w.1=0 then 1 else 0)+sW (fun k _=>if k=0 then 1 else 0) W:=rfl
  have s3:sW (fun k i=>(ND k i).2.2.2.2.length) (w :: W)=(ND w.1 w.2).2.2.2.2.length+sW (fun k i=>(ND k i).2.2.2.2.length) W:=rfl;have s4:sW (fun k i=>(ND k i).2.2.2.1.length) (w :: W)=(ND w.1 w.2).2.2.2.1.length+sW (fun k i=>(ND k i).2.2.2.1.length) W:=rfl;rw [s1] at h1 ⊢;rw [s2] at h2 ⊢;rw [s3] at h3 ⊢;rw [s4] at h4 ⊢;have e:onW Uv l BL ND (((H:Int),(a:Int),(b:Int),(p:Int),(m:Int)):Rep) w=some ((H:Int),((a+1:Nat):Int),((b+(if w.1=0 then 1 else 0):Nat):Int),((p+(ND w.1 w.2).2.2.2.2.length:Nat):Int),((m+(ND w.1 w.2).2.2.2.1.length:Nat):Int)):=by
   unfold onW Uv Zd8;dsimp only;rw [w2,wI2 (x:=((w.1:Nat):Int)+1),iQ,wI2 (x:=(a:Int)+1),wI2 (x:=(p:Int)+_),wI2 (x:=(m:Int)+_)];by_cases z:w.1=0
   ·rw [iO,iT z,wI2 (x:=(b:Int)+1)]; rfl
   ·rw [iQ,iF z]; rfl
  rw [List.foldlM_cons,e];show W.foldlM _ _=_;rw [Zf4 hH W _ _ _ _ (fun v hv=>hw v (List.mem_cons_of_mem _ hv)) (by omega) (by omega) (by omega) (by omega)];simp only [Nat.add_assoc]
end
section
variable {c:Cfg} {N B n q t:Nat} {s:Shf} {L:List Nat} {K:Nat->List Int} {h:Nat->Bool} {l:Tre} {BL:Nat->Nat->Nat} {LO HI:Nat->Nat->List UInt8} {ND:Nat->Nat->Nd} {ok:Nat->Bool} {α:Type}
variable {on:Int->Nd->Sp->α->Option α} {V:Nat->Shf×List TZ×Bool->Int->Int->Sp->α->Option (Int×α×Shf×List TZ×Bool)} {G:Bool->Nat->Sp->Nd×Int×Shf->Shf->α->List TZ->Bool->Int->Option (Int×α×Shf×List TZ×Bool)}
theorem Zkc (T:GoodT c l) (Gr:Gro l LO HI) (P:RowsB c N K h l l.length BL):VT c N K l BL (Y7 l BL) fun _=>true where
 b1:=fun k i hk hi=>(P.sp k i hk hi).b1
 bN:=fun k i hk hi=>(P.sp k i hk hi).bN
 kb:=fun k i hk hi=>(P.sp k i hk hi).kb
 kd:=fun k i hk hi=>(P.sp k i hk hi).kd
 rt:=fun k i hk hi=>(P.sp k i hk hi).rt
 inn:=fun _ _ _ _=>rfl
 inR:=fun k i hk hi=>Zmn T Gr hk hi (P.sp (k+1) i hk hi).rt
 lf:=fun i hi=>(Gr.leaf i hi).1
 lfR:=fun i hi=>Zmn T Gr Gr.ne hi (P.sp 0 i Gr.ne hi).rt
 inj:=fun k j k' j' a b c d e=>P.inj k j k' j' a b c d e
theorem Zhl (T:GoodT c l) (Gr:Gro l LO HI):ds l (l.length - 1) 0+1<=906:=by
 have hne:=Gr.ne;have h6:=T.len;have:=Zht T (l.length - 1) (by omega);rw [Zr0 T Gr];omega
theorem Zq7 (hne:0<l.length):spA l (l.length - 1) 0=([],[],true):=by
 unfold spA;rw [Nat.sub_self]; rfl
theorem Zj5 (X:VisC α on V G) (g:Geo c N B n) (T:GoodT c l) (Gr:Gro l LO HI) (VT':VT c N K l BL ND ok) (S:ShK c N B n t s L q K h) (ht:t<=700000) {o o':α} (hf:(wk l ok (l.length - 1) 0).1.foldlM (onW on l BL ND) o=some o'):∃ s' L' t' m',Ev (fun f=>V f (s,[],false) ((BL (l.length - 1) 0:Nat):Int) (-1) ([],[],true) o) (if (wk l ok (l.length - 1) 0).2=true then 0 else 12,o',s',m',false)/\ShK c N B n t' s' L' q K h/\t'<=t+1000:=by
 have hne:=Gr.ne;have top:=T.top;have d:=Zhl T Gr;obtain ⟨s',L',t',m',e,S',u,_⟩:=Zt5 X g T Gr VT' (l.length - 1) 0 s L t (-1) [] (fun _=>0) o o' (by omega) (by omega) S (by omega) (.inl rfl) (fun k j _ _=>⟨fun z=>Bool.noConfusion (show false=true from z),fun z=>absurd z (Nat.not_lt_zero _)⟩) (fun d _=>(Zdh d _).symm) hf;rw [Zq7 hne] at e;exact ⟨s',L',t',m',e,S',by omega⟩
theorem Zem {f:Nat->Nat->Nat} {M:Nat}:∀ W:List T2,(∀ w∈W,f w.1 w.2<=M)->sW f W<=M*W.length
 | [],_=>Nat.zero_le _
 | w :: W,h=>by
  have h1:=h w List.mem_cons_self;have h2:=Zem W fun v hv=>h v (List.mem_cons_of_mem _ hv);show f w.1 w.2+sW f W<=M*(W.length+1);rw [Nat.mul_add]; omega
theorem Zl4:∀ W:List T2,sW (fun _ _=>1) W=W.length
 | []=>rfl
 | w :: W=>by show 1+sW (fun _ _=>1) W=W.length+1; rw [Zl4 W]; omega
theorem Zdr:∀ m,Y1 (fun _=>1) m=m
 | 0=>rfl
 | m+1=>by rw [Y1,Zdr m]
theorem Zmz:∀ k,tS l (fun _ _=>1) k=Zbz l k
 | 0=>Zdr _
 | k+1=>by rw [tS,Zmz k,Zdr,Zbz]; omega
theorem Zq2 (hok:∀ i,ok i=true):∀ k i,∃ W,(wk l ok k i).1=(k,i) :: W
 | 0,i=>⟨[],by rw [wk,iT (hok i)]⟩
 | k+1,i=>⟨_,rfl⟩
theorem Zmi (T:GoodT c l) (Gr:Gro l LO HI) (hok:∀ i,ok i=true):(wk l ok (l.length - 1) 0).1.length<=906:=by
 have hne:=Gr.ne;have h6:=T.len;have:=Zht T (l.length - 1) (by omega);rw [<- Zl4,(Gj T Gr hok _).2,Zmz];omega
def Zky (l:Tre):Rep:=((l.length:Int),((tS l (fun _ _=>1) (l.length - 1):Nat):Int),((tS l (fun k _=>if k=0 then 1 else 0) (l.length - 1):Nat):Int),((tS l (fun k i=>(ndT l k i).2.2.2.2.length) (l.length - 1):Nat):Int),((tS l (fun k i=>(ndT l k i).2.2.2.1.length) (l.length - 1):Nat):Int))
theorem Znq (g:Geo c N B n) (T:GoodT c l) (Gr:Gro l LO HI) (P:RowsB c N K h l l.length BL) (S:ShK c N B n t s L q K h) (ht:t<=700000):∃ s' L' t',Ev (fun f=>Q154.f f s ((BL (l.length - 1) 0:Nat):Int)) (Zky l,0,s')/\ShK c N B n t' s' L' q K h/\t'<=t+1000:=by
 have hne:=Gr.ne;have h6:=T.len;have hc:=Uf g.ok;have hok:∀ i:Nat,(fun _=>true:Nat->Bool) i=true:=fun _=>rfl;have wl:=Zmi T Gr hok;have lv:∀ w∈(wk l (fun _=>true) (l.length - 1) 0).1,w.1<l.length/\w.2<wd l w.1:=fun w hw=>(Zbu T Gr hok).1 hw;have lv1:∀ w∈(wk l (fun _=>true) (l.length - 1) 0).1,(Y7 l BL w.1 w.2).1=(w.1:Int):=fun w hw=>by
  obtain ⟨k,i⟩:=w;obtain ⟨h1,h2⟩:=lv _ hw;cases k with
  | zero=>exact (Gr.leaf i h2).1
  | succ k=>exact (Gr.nd h1 h2).lvl
 have bd:∀ w∈(wk l (fun _=>true) (l.length - 1) 0).1,(Y7 l BL w.1 w.2).2.2.2.2.length<=150/\(Y7 l BL w.1 w.2).2.2.2.1.length<=150:=fun w hw=>by
  obtain ⟨h1,h2⟩:=lv w hw;have sm:=Zbc hc T Gr h1 h2 BL;exact ⟨sm.prs,sm.buf⟩
 have s1:=Zem (f:=fun _ _=>1) (M:=1) (wk l (fun _=>true) (l.length - 1) 0).1 fun _ _=>Nat.le_refl _;have s2:=Zem (f:=fun k _=>if k=0 then 1 else 0) (M:=1) (wk l (fun _=>true) (l.length - 1) 0).1 fun w _=>by show (if w.1=0 then 1 else 0)<=1; split <;> omega
 have s3:=Zem (f:=fun k i=>(Y7 l BL k i).2.2.2.2.length) (M:=150) (wk l (fun _=>true) (l.length - 1) 0).1 fun w hw=>(bd w hw).1;have s4:=Zem (f:=fun k i=>(Y7 l BL k i).2.2.2.1.length) (M:=150) (wk l (fun _=>true) (l.length - 1) 0).1 fun w hw=>(bd w hw).2;have fo:=Zf4 (l:=l) (ND:=Y7 l BL) (BL:=BL) (H:=l.length) (by omega) (wk l (fun _=>true) (l.length - 1) 0).1 0 0 0 0 (fun w hw=>⟨(lv w hw).1,lv1 w hw⟩) (by omega) (by omega) (by omega) (by omega);have f0:(wk l (fun _=>true) (l.length - 1) 0).1.foldlM (onW Uv l BL (Y7 l BL)) ((0,0,0,0,0):Rep)=some (Zky l):=by
  obtain ⟨W,eW⟩:=Zq2 (l:=l) hok (l.length - 1) 0;have l1:=lv1 (l.length - 1,0) (by rw [eW]; exact List.mem_cons_self);have t1:=(Gj T Gr hok (fun _ _=>1)).2;have t2:=(Gj T Gr hok (fun k _=>if k=0 then 1 else 0)).2
  have t3:=(Gj T Gr hok (fun k i=>(Y7 l BL k i).2.2.2.2.length)).2;have t4:=(Gj T Gr hok (fun k i=>(Y7 l BL k i).2.2.2.1.length)).2;rw [t1,t2,t3,t4] at fo;simp only [Nat.zero_add] at fo;have e:onW Uv l BL (Y7 l BL) ((0,0,0,0,0):Rep) (l.length - 1,0)=onW Uv l BL (Y7 l BL) (((l.length:Int),((0:Nat):Int),((0:Nat):Int),((0:Nat):Int),((0:Nat):Int)):Rep) (l.length - 1,0):=by
   unfold onW Uv Zd8;dsimp only at l1 ⊢;rw [l1,wI2 (x:=((l.length - 1:Nat):Int)+1),show ((l.length - 1:Nat):Int)+1=(l.length:Int) by omega,iT (show (l.length:Int)>0 by omega),iF (show ¬ (l.length:Int)>(l.length:Int) by omega)];rfl
  rw [eW,List.foldlM_cons,e,<- List.foldlM_cons,<- eW];exact fo
 obtain ⟨s',L',t',m',⟨b0,e⟩,S',u⟩:=Zj5 Zqv g T Gr (Zkc T Gr P) S ht f0;rw [iT (Gj T Gr hok (fun _ _=>0)).1] at e;refine ⟨s',L',t',⟨b0,fun f hf=>?_⟩,S',u⟩;have e':=e f hf;show Q154.f f s _=_;unfold Q154.f Q150.f Q60.f;rw [bS,show Q157.f f (s,[],false) _ (-1) ([],[],true) (0,0,0,0,0)=_ from e',bS,bS,vS]
end
def G8 (i:Int) (_:Nd) (_:Sp) (o:T0):Option T0:=if (o.length+1)*4<=140737488355328 then some (o ++ [i]) else none
section
variable {c:Cfg} {N B n q t:Nat} {s:Shf} {L:List Nat} {K:Nat->List Int} {h:Nat->Bool} {l:Tre} {BL:Nat->Nat->Nat} {LO HI:Nat->Nat->List UInt8} {ND:Nat->Nat->Nd}
theorem Zim:∀(W:TS) (o:T0),o.length+W.length<=1000000->W.foldlM (onW G8 l BL ND) o=some (o ++ W.map fun w=>((BL w.1 w.2:Nat):Int))
 | [],o,_=>by rw [List.map_nil,List.append_nil]; rfl
 | w :: W,o,h=>by
  rw [length_cons] at h;have e:onW G8 l BL ND o w=some (o ++ [((BL w.1 w.2:Nat):Int)]):=by unfold onW G8; rw [iO]
  rw [List.foldlM_cons,e];show W.foldlM _ _=_;rw [Zim W _ (by simp; omega),List.map_cons,append_assoc]; rfl
theorem Zoe (T:GoodT c l) (Gr:Gro l LO HI) (P:RowsB c N K h l l.length BL) (hN:1<=N) (h0:h 0=true) (hh:∀ b,h b=true->b=0\/∃ k j,k<l.length/\j<wd l k/\BL k j=b):(0:Int) :: (((wk l (fun _=>true) (l.length - 1) 0).1.map fun w=>((BL w.1 w.2:Nat):Int)).mergeSort fun x y=>decide (x<=y))=G4 N h:=by
 have hok:∀ i:Nat,(fun _=>true:Nat->Bool) i=true:=fun _=>rfl;have hne:=Gr.ne;have top:=T.top;refine Zp9 hN h0 ?_ fun x=>?_
 ·have nd:=Zi7 Gr hok (l.length - 1) 0 (by omega) (by omega);refine List.pairwise_map.2 (nd.imp_of_mem fun {a b} ha hb ne e=>ne ?_);obtain ⟨a1,a2⟩:=a;obtain ⟨b1,b2⟩:=b;obtain ⟨p1,p2⟩:=(Zbu T Gr hok).1 ha;obtain ⟨q1,q2⟩:=(Zbu T Gr hok).1 hb;have e':BL a1 a2=BL b1 b2:=by have:((BL a1 a2:Nat):Int)=((BL b1 b2:Nat):Int):=e; omega
  obtain ⟨r1,r2⟩:=P.inj a1 a2 b1 b2 p1 p2 q1 q2 e';rw [r1,r2]
 ·rw [List.mem_map];constructor
  ·rintro ⟨⟨k,j⟩,hw,rfl⟩;obtain ⟨p1,p2⟩:=(Zbu T Gr hok).1 hw;have sp:=P.sp k j p1 p2;exact ⟨BL k j,sp.b1,sp.bN,sp.hb,rfl⟩
  ·rintro ⟨b,b1,b2,b3,rfl⟩;rcases hh b b3 with z | ⟨k,j,h1,h2,rfl⟩
   ·omega
   ·exact ⟨(k,j),(Zbu T Gr hok).2 ⟨h1,h2⟩,rfl⟩
end
section
variable {c:Cfg} {N B n q t:Nat} {s:Shf} {L:List Nat} {K:Nat->List Int} {h:Nat->Bool} {l:Tre} {BL:Nat->Nat->Nat} {LO HI:Nat->Nat->List UInt8} {ND:Nat->Nat->Nd} {ok:Nat->Bool}
theorem Zj7 {g:Nat->List T2×Bool} {f:Nat->Nat}:∀ m a,(∀ i,(g i).1.length<=f i+1)->(wkR g a m).1.length<=Wn f a m
 | 0,a,_=>Nat.le_refl _
 | m+1,a,h=>by
  have h1:=h a;have h2:=Zj7 m (a+1) h;rw [wkR];show _<=f a+1+Wn f (a+1) m;split
  ·rw [lA]; omega
  ·show (g a).1.length<=_; omega
theorem Zkq:∀ k i,(wk l ok k i).1.length<=ds l k i+1
 | 0,i=>by rw [wk]; split <;> simp [ds]
 | k+1,i=>by
  have:=Zj7 (g:=wk l ok k) (f:=ds l k) (ndT l (k+1) i).2.1.length (stR (l.getD (k+1) default) i) (Zkq k);rw [wk,length_cons];show _<=Wn (ds l k) _ _+1;omega
end
section
variable {c:Cfg} {l:Tre} {LO HI:Nat->Nat->List UInt8}
end
section
variable {c:Cfg} {l:Tre} {LO HI:Nat->Nat->List UInt8} {BL:Nat->Nat->Nat}
end
def Zr5 (_:Bool) (f:Nat) (p:Sp) (r1:Nd×Int×Shf) (s:Shf) (o:T0) (m:TP) (e:Bool) (j:Int):Option (Int×List Int×Shf×List TZ×Bool):=Q156.l2 f p r1 s.1 s.2.1.1 s.2.1.2.2.2.2 s.2.2.1 s.2.1.2.1 s.2.1.2.2.1 s.2.1.2.2.2.1 s.2.2.2 m o e j
theorem Zsl:VisC T0 G8 Q156.f Zr5:=by
 refine ⟨fun f s m i lv p o nd s' r hL hm hv hr hc=>?_,fun b f p r1 s o m j=>?_⟩
 ·rw [Q156.f,show Q83.f (f+2) s i=_ from hL,bS,vS,iF (by simp [hm])];have cf:Q81.f s'=some s'.1:=rfl;have bl:Q152.f i nd p o=(G8 i nd p o).bind fun o'=>some (true,o'):=by
   unfold Q152.f G8;by_cases q:(o.length+1)*4<=140737488355328
   ·rw [iT q,iT (by exact q)]; rfl
   ·rw [iF q,iF (by exact q)]; rfl
  have j:Q156.l0 (f+2) (s,m,false) i p o (nd,0,s') false=(G8 i nd p o).bind fun o'=>Zr5 (decide (0<=lv)) f p (nd,0,s') s' o' (X5 i true m) false 0:=by
   rw [Q156.l0,hc,bS,bl];cases G8 i nd p o with
   | none=>rfl
   | some o'=>rw [bS,bS,vS,Q156.l1]; rfl
  rcases hv with rfl | ⟨rfl,h0⟩
  ·rw [iF (by decide)];dsimp only;rw [cf,bS,hr,bS];cases r with
   | false=>rfl
   | true=>rw [vS,iT rfl]; exact j
  ·rw [iT (dT h0),vS];dsimp only;rw [cf,bS,hr,bS];cases r with
   | false=>rfl
   | true=>rw [vS,iT rfl]; exact j
 ·show Q156.l2 (f+1) p r1 _ _ _ _ _ _ _ _ m o false j=_;rw [Q156.l2];rfl
section
variable {c:Cfg} {N B n q t:Nat} {s:Shf} {L:List Nat} {K:Nat->List Int} {h:Nat->Bool} {l:Tre} {BL:Nat->Nat->Nat} {LO HI:Nat->Nat->List UInt8} {ND:Nat->Nat->Nd} {ok:Nat->Bool}
theorem Znd (g:Geo c N B n) (T:GoodT c l) (Gr:Gro l LO HI) (VT':VT c N K l BL ND ok) (S:ShK c N B n t s L q K h) (ht:t<=700000):∃ s' L' t',Ev (fun f=>Q151.f f s ((BL (l.length - 1) 0:Nat):Int)) (if (wk l ok (l.length - 1) 0).2=true then (((wk l ok (l.length - 1) 0).1.map fun w=>((BL w.1 w.2:Nat):Int)).mergeSort fun x y=>decide (x<=y),0,s') else ([],12,s'))/\ShK c N B n t' s' L' q K h/\t'<=t+1000:=by
 have wl:(wk l ok (l.length - 1) 0).1.length<=906:=Nat.le_trans (Zkq _ _) (Zhl T Gr);have fo:=Zim (l:=l) (BL:=BL) (ND:=ND) (wk l ok (l.length - 1) 0).1 [] (by simp; omega);rw [List.nil_append] at fo;obtain ⟨s',L',t',m',⟨b0,e⟩,S',u⟩:=Zj5 Zsl g T Gr VT' S ht fo;obtain ⟨b1,e1⟩:=Zpk (l:=(wk l ok (l.length - 1) 0).1.map fun w=>((BL w.1 w.2:Nat):Int)) (by rw [length_map]; omega);refine ⟨s',L',t',⟨b0+b1,fun f hf=>?_⟩,S',u⟩;have e':=e f (by omega);show Q151.f f s _=_;unfold Q151.f Q149.f Q60.f;rw [bS,show Q156.f f (s,[],false) _ (-1) ([],[],true) []=_ from e',bS,bS];cases (wk l ok (l.length - 1) 0).2 with
 | true=>
  rw [iT rfl,vS];dsimp only;rw [show Q105.f f _=_ from e1 f (by omega),bS,iT rfl]
 | false=>rw [iF (show ¬ false=true by simp),iU,iF (show ¬ false=true by simp)]
end
theorem Zfa (k:Nat) (hk:3000<=k):Q130.f k=some true:=by
 obtain ⟨k,rfl⟩:∃ k2,k=k2+3000:=⟨k - 3000,by omega⟩;kernel_rfl
section
variable {c:Cfg} {N B n t q:Nat} {s:Shf} {L:List Nat} {K:Nat->List Int} {h:Nat->Bool}
end
def lvN (a b j:Nat):Nat:=min 1099511627776 (a*b ^ j)
theorem Zn4 {a b j:Nat} (hb:1<=b):min 1099511627776 (lvN a b j*b)=lvN a b (j+1):=by
 unfold lvN;rw [Nat.pow_succ,<- Nat.mul_assoc];generalize a*b ^ j=x;by_cases q:x<=1099511627776
 ·rw [Nat.min_eq_right q]
 ·rw [Nat.min_eq_left (show 1099511627776<=x by omega)];have h1:1099511627776*1<=1099511627776*b:=Nat.mul_le_mul_left _ hb;have h2:x*1<=x*b:=Nat.mul_le_mul_left _ hb;rw [Nat.min_eq_left (show 1099511627776<=1099511627776*b by omega),Nat.min_eq_left (show 1099511627776<=x*b by omega)]
theorem Ze5 {a b j:Nat} (ha:4<=a) (hb:4<=b) (hj:20<=j):lvN a b j=1099511627776/\1099511627776<=a*b ^ j:=by
 have h1:4 ^ 20<=b ^ j:=Nat.le_trans (Nat.pow_le_pow_right (by decide) hj) (Nat.pow_le_pow_left hb j);have h2:4*4 ^ 20<=a*b ^ j:=Nat.mul_le_mul ha h1;have h3:1099511627776<=a*b ^ j:=Nat.le_trans (by decide) h2;exact ⟨Nat.min_eq_left h3,h3⟩
section
variable {N:Nat} {h:Nat->Bool}
theorem Zfw (l:T0) (hl:l.length<=100000):∀(m i k:Nat),l.length=i+m->m<k->Q133.l0 k l l (i:Int)=some true
 | 0,i,k,hm,hk=>by
  obtain ⟨k,rfl⟩:=kS1 k;rw [Q133.l0,iN]
 | m+1,i,k,hm,hk=>by
  obtain ⟨k,rfl⟩:=kS1 k;rw [Q133.l0,iP,iO,iO,vS,wS2,Zfw l hl m (i+1) k (by omega) (by omega)]
theorem Zrk (l:T0) (hl:l.length<=100000) {k:Nat} (hk:l.length<k):Q133.f k l l=some true:=by
 unfold Q133.f;rw [vS];exact Zfw l hl l.length 0 k (by omega) hk
theorem Znf (N:Nat) (h:Nat->Bool):(G4 N h).length<=N:=by
 unfold G4;rw [length_map];have:=List.length_filter_le h (List.range N)
 rwa [length_range] at this
end
theorem Zbh {c:Cfg} {h:Int} {a b M:Nat} (hb:w64 (Int.tdiv c.2.2.2.1 2)=(b:Int)) (b1:4<=b) (b2:b<=32) (hM:(if 40<w64 (h - 2) then 40 else w64 (h - 2))=(M:Int)) (hM2:M<=40):∀(m j:Nat),j+m=M->Ev (fun k=>Q153.l0 k c h ((lvN a b j:Nat):Int) (j:Int)) ((lvN a b M:Nat):Int)
 | 0,j,hj=>by
  refine ⟨1,fun f hf=>?_⟩;obtain ⟨f,rfl⟩:=kS1 f;show Q153.l0 (f+1) c h _ _=_;rw [Q153.l0,hM,iN,show j=M by omega]
 | m+1,j,hj=>by
  obtain ⟨b0,e⟩:=Zbh (a:=a) hb b1 b2 hM hM2 m (j+1) (by omega);refine ⟨b0+1,fun f hf=>?_⟩;obtain ⟨f,rfl⟩:=kS1 f;have e':=e f (by omega);have hs:=Zn4 (a:=a) (b:=b) (j:=j) (by omega);have hl:lvN a b j<=1099511627776:=Nat.min_le_left _ _;have hp:lvN a b j*b<=1099511627776*32:=Nat.mul_le_mul hl b2;have mu:w64 (((lvN a b j:Nat):Int)*(b:Int))=((lvN a b j*b:Nat):Int):=by
   rw [<- Int.natCast_mul,wI2]
  show Q153.l0 (f+1) c h _ _=_;rw [Q153.l0,hM,iP,hb,mu,wS2];have st:(if ((lvN a b j*b:Nat):Int)<1099511627776 then ((lvN a b j*b:Nat):Int) else 1099511627776)=((lvN a b (j+1):Nat):Int):=by
   rw [<- hs];by_cases q:lvN a b j*b<1099511627776
   ·rw [iO,Nat.min_eq_right (by omega)]
   ·rw [iQ,Nat.min_eq_left (by omega)]; rfl
  rw [st];exact e'
theorem Zjf {c:Cfg} {h:Int} {a b H:Nat} (hb:w64 (Int.tdiv c.2.2.2.1 2)=(b:Int)) (a1:4<=a) (b1:4<=b) (b2:b<=32) (hH:h=(H:Int)+2):∀(m j:Nat),j+m=21->j<=H->a*b ^ j<=1099511627776*32->Ev (fun k=>Q146.l0 k c h ((a*b ^ j:Nat):Int) ((j:Int)+2)) ((lvN a b H:Nat):Int):=by
 have fin:∀ j,j<=H->(j=H\/1099511627776<=a*b ^ j)->(if decide (1099511627776<((a*b ^ j:Nat):Int))=true then some 1099511627776 else some ((a*b ^ j:Nat):Int))=some ((lvN a b H:Nat):Int):=fun j hj q=>by
  have mono:a*b ^ j<=a*b ^ H:=Nat.mul_le_mul_left _ (Nat.pow_le_pow_right (by omega) hj);have e:lvN a b H=min 1099511627776 (a*b ^ j):=by
   rcases q with rfl | q
   ·rfl
   ·unfold lvN;rw [Nat.min_eq_left (show 1099511627776<=a*b ^ H by omega),Nat.min_eq_left q]
  rw [e];by_cases w:1099511627776<a*b ^ j
  ·rw [iP,Nat.min_eq_left (by omega)]; rfl
  ·rw [iN,Nat.min_eq_right (by omega)]
 intro m
 induction m with
 | zero=>
  intro j hj hjH hbd;refine ⟨1,fun f hf=>?_⟩;obtain ⟨f,rfl⟩:=kS1 f;have big:=(Ze5 (a:=a) (b:=b) (j:=j) a1 b1 (by omega)).2;show Q146.l0 (f+1) c h _ _=_;rw [Q146.l0];by_cases q:j<H
  ·rw [iP,iN];exact fin j hjH (.inr big)
  ·rw [iN];exact fin j hjH (.inr big)
 | succ m ih=>
  intro j hj hjH hbd;by_cases q:j<H/\a*b ^ j<1099511627776
  ·have hp:a*b ^ j*b<=1099511627776*32:=Nat.mul_le_mul (by omega) b2;obtain ⟨b0,e⟩:=ih (j+1) (by omega) (by omega) (by rw [Nat.pow_succ,<- Nat.mul_assoc]; exact hp);refine ⟨b0+1,fun f hf=>?_⟩;obtain ⟨f,rfl⟩:=kS1 f;have e':=e f (by omega);have mu:w64 (((a*b ^ j:Nat):Int)*(b:Int))=((a*b ^ (j+1):Nat):Int):=by
    rw [<- Int.natCast_mul,wI2,Nat.pow_succ,<- Nat.mul_assoc]
   show Q146.l0 (f+1) c h _ _=_;rw [Q146.l0,iP,iP,hb,mu,wI2 (x:=(j:Int)+2+1),show (j:Int)+2+1=((j+1:Nat):Int)+2 by omega];exact e'
  ·refine ⟨1,fun f hf=>?_⟩;obtain ⟨f,rfl⟩:=kS1 f;show Q146.l0 (f+1) c h _ _=_;rw [Q146.l0];by_cases w:j<H
   ·rw [iP,iN];exact fin j hjH (.inr (by omega))
   ·rw [iN];exact fin j hjH (.inl (by omega))
theorem Zr4 (c:Cfg) {h:Int} (h1:h<9223372036854775808):∃ v,Ev (fun k=>Q153.f k c h) v/\Ev (fun k=>Q146.f k c h) v:=by
 by_cases q:h<2
 ·refine ⟨0,⟨0,fun f _=>?_⟩,⟨0,fun f _=>?_⟩⟩
  ·show Q153.f f c h=_;unfold Q153.f;rw [iT (dT q)]
  ·show Q146.f f c h=_;unfold Q146.f;rw [iT (dT q)]
 ·cases ok:okB c with
  | false=>
   refine ⟨0,⟨0,fun f _=>?_⟩,⟨3000,fun f hf=>?_⟩⟩
   ·show Q153.f f c h=_;unfold Q153.f;rw [iF (by simpa using q),show Q46.f c=_ from B5 c,ok,bS,iU]
   ·show Q146.f f c h=_;unfold Q146.f;rw [iF (by simpa using q),show Q136.f f c=_ from Zbb c (by omega),ok,bS,iT (by rfl)]
  | true=>
   have hc:=Uf ok;have hf:=hc.fan;have hbf:=hc.buf;have hl:=hc.leaf;obtain ⟨fa,efa⟩:=Int.eq_ofNat_of_zero_le (show 0<=c.2.2.2.1 by omega);obtain ⟨le,ele⟩:=Int.eq_ofNat_of_zero_le (show 0<=c.2.2.2.2.2.1 by omega);obtain ⟨H,eH⟩:=Int.eq_ofNat_of_zero_le (show 0<=h - 2 by omega);have hb:w64 (Int.tdiv c.2.2.2.1 2)=((fa / 2:Nat):Int):=by
    rw [efa,show Int.tdiv (fa:Int) 2=((fa / 2:Nat):Int) from rfl,wI2]
   have ha:w64 (Int.tdiv c.2.2.2.2.2.1 4)=((le / 4:Nat):Int):=by
    rw [ele,show Int.tdiv (le:Int) 4=((le / 4:Nat):Int) from rfl,wI2]
   obtain ⟨M,eM⟩:∃ M,M=min 40 H:=⟨_,rfl⟩;have hM:(if 40<w64 (h - 2) then 40 else w64 (h - 2))=(M:Int):=by
    rw [wI2 (x:=h - 2)];split <;> omega
   obtain ⟨b0,e0⟩:=Zbh (c:=c) (h:=h) (a:=le / 4) (b:=fa / 2) (M:=M) hb (by omega) (by omega) hM (by omega) M 0 (by omega);obtain ⟨b1,e1⟩:=Zjf (c:=c) (h:=h) (a:=le / 4) (b:=fa / 2) (H:=H) hb (by omega) (by omega) (by omega) (by omega) 21 0 (by omega) (Nat.zero_le _) (by rw [Nat.pow_zero]; omega);have eMH:lvN (le / 4) (fa / 2) M=lvN (le / 4) (fa / 2) H:=by
    by_cases w:H<=40
    ·rw [show M=H by omega]
    ·rw [(Ze5 (a:=le / 4) (b:=fa / 2) (j:=M) (by omega) (by omega) (by omega)).1,(Ze5 (a:=le / 4) (b:=fa / 2) (j:=H) (by omega) (by omega) (by omega)).1]
   rw [eMH] at e0;have l0:lvN (le / 4) (fa / 2) 0=le / 4:=by unfold lvN; rw [Nat.pow_zero]; omega
   refine ⟨((lvN (le / 4) (fa / 2) H:Nat):Int),⟨b0,fun f hf=>?_⟩,⟨b1+3000,fun f hf=>?_⟩⟩
   ·have e':=e0 f (by omega);rw [l0] at e';show Q153.f f c h=_;unfold Q153.f;rw [iF (by simpa using q),show Q46.f c=_ from B5 c,ok,iT rfl,bS,vS,ha];exact e'
   ·have e':=e1 f (by omega);rw [Nat.pow_zero,Nat.mul_one] at e';show Q146.f f c h=_;unfold Q146.f;rw [iF (by simpa using q),show Q136.f f c=_ from Zbb c (by omega),ok,bS,vS,ha];exact e'
section
variable {c:Cfg} {l:Tre} {LO HI:Nat->Nat->List UInt8}
def uS (l:Tre) (f:Nat->Nat->Nat):Nat->Nat
 | 0=>0
 | k+1=>tS l f k
theorem B2 (f:Nat->Nat->Nat) (k:Nat):uS l f (k+1)=uS l f k+Y1 (f k) (wd l k):=by
 cases k with
 | zero=>show Y1 (f 0) (wd l 0)=0+Y1 (f 0) (wd l 0); omega
 | succ k=>show Y1 (f (k+1)) (wd l (k+1))+tS l f k=tS l f k+Y1 (f (k+1)) (wd l (k+1)); omega
theorem J8 {f:Nat->Nat} {M:Nat}:∀ n,(∀ i,i<n->f i<=M)->Y1 f n<=M*n
 | 0,_=>Nat.zero_le _
 | n+1,h=>by
  have h1:=J8 n fun i hi=>h i (by omega);have h2:=h n (by omega);rw [Y1,Nat.mul_add]; omega
theorem Zei (T:GoodT c l) {f:Nat->Nat->Nat} {M:Nat} (hf:∀ k i,k<l.length->i<wd l k->f k i<=M):∀ k,k<=l.length->uS l f k<=M*(151*k)
 | 0,_=>Nat.zero_le _
 | k+1,hk=>by
  have h1:=Zei T hf k (by omega);have h2:=J8 (f:=f k) (M:=M) (wd l k) fun i hi=>hf k i (by omega) hi;have h3:M*wd l k<=M*151:=Nat.mul_le_mul_left _ (T.wb k (by omega));rw [B2,Nat.mul_add 151,Nat.mul_add];omega
abbrev RL0 (f:Nat) (l:Tre) (a b p m k:Nat):Option Rep:=Q147.l0 f l (a:Int) (b:Int) (p:Int) (m:Int) (k:Int)
theorem Zdy (hc:OkC c) (T:GoodT c l) (G:Gro l LO HI) {k:Nat} (hk:k<l.length) {a b p m:Nat} (ha:a<=1000000) (hb:b<=1000000) (hp:p<=1000000) (hm:m<=1000000) {r:Rep} (hx:Ev (fun f=>RL0 f l (a+Y1 (fun _=>1) (wd l k)) (b+Y1 (fun _=>if k=0 then 1 else 0) (wd l k)) (p+Y1 (fun i=>(ndT l k i).2.2.2.2.length) (wd l k)) (m+Y1 (fun i=>(ndT l k i).2.2.2.1.length) (wd l k)) (k+1)) r):∀(n i:Nat),i+n=wd l k->Ev (fun f=>Q147.l1 f l (k:Int) ((a+Y1 (fun _=>1) i:Nat):Int) ((b+Y1 (fun _=>if k=0 then 1 else 0) i:Nat):Int) ((p+Y1 (fun i=>(ndT l k i).2.2.2.2.length) i:Nat):Int) ((m+Y1 (fun i=>(ndT l k i).2.2.2.1.length) i:Nat):Int) (i:Int)) r
 | 0,i,hi=>by
  have h6:=T.len;obtain ⟨b0,e⟩:=hx;refine ⟨b0+1,fun f hf=>?_⟩;obtain ⟨f,rfl⟩:=kS1 f;have e':=e f (by omega);have ei:(gt l (k:Int)).length=wd l k:=by rw [Zw]; rfl
  show Q147.l1 (f+1) l _ _ _ _ _ _=_;rw [Q147.l1,iO,iF (by rw [ei]; simp only [dE]; omega),wS2,show i=wd l k by omega];exact e'
 | n+1,i,hi=>by
  have h6:=T.len;have hik:i<wd l k:=by omega
  have wb:=T.wb k hk;have sm:=Zbc hc T G hk hik (fun _ _=>0);have q1:(ndT l k i).2.2.2.2.length<=150:=sm.prs;have q2:(ndT l k i).2.2.2.1.length<=150:=sm.buf;have sb:∀ j,j<i->(ndT l k j).2.2.2.2.length<=150/\(ndT l k j).2.2.2.1.length<=150:=fun j hj=>by
   have sm:=Zbc hc T G hk (show j<wd l k by omega) (fun _ _=>0);exact ⟨sm.prs,sm.buf⟩
  have s1:=J8 (f:=fun _=>1) (M:=1) i fun _ _=>Nat.le_refl _;have s2:=J8 (f:=fun _=>if k=0 then 1 else 0) (M:=1) i fun _ _=>by split <;> omega
  have s3:=J8 (f:=fun i=>(ndT l k i).2.2.2.2.length) (M:=150) i fun j hj=>(sb j hj).1;have s4:=J8 (f:=fun i=>(ndT l k i).2.2.2.1.length) (M:=150) i fun j hj=>(sb j hj).2;obtain ⟨b0,e⟩:=Zdy hc T G hk ha hb hp hm hx n (i+1) (by omega);refine ⟨b0+1,fun f hf=>?_⟩;obtain ⟨f,rfl⟩:=kS1 f;have e':=e f (by omega);have ei:(gt l (k:Int)).length=wd l k:=by rw [Zw]; rfl
  have en:gt (gt l (k:Int)) (i:Int)=ndT l k i:=by rw [Zw,Zw]; rfl
  have p1:Y1 (fun _=>1) (i+1)=Y1 (fun _=>1) i+1:=rfl;have p3:Y1 (fun i=>(ndT l k i).2.2.2.2.length) (i+1)=Y1 (fun i=>(ndT l k i).2.2.2.2.length) i+(ndT l k i).2.2.2.2.length:=rfl;have p4:Y1 (fun i=>(ndT l k i).2.2.2.1.length) (i+1)=Y1 (fun i=>(ndT l k i).2.2.2.1.length) i+(ndT l k i).2.2.2.1.length:=rfl;rw [p1,p3,p4] at e';have w1:w64 (((a+Y1 (fun _=>1) i:Nat):Int)+1)=((a+(Y1 (fun _=>1) i+1):Nat):Int):=by rw [wI2]; omega
  have w3:w64 (((p+Y1 (fun i=>(ndT l k i).2.2.2.2.length) i:Nat):Int)+((ndT l k i).2.2.2.2.length:Int))=((p+(Y1 (fun i=>(ndT l k i).2.2.2.2.length) i+(ndT l k i).2.2.2.2.length):Nat):Int):=by rw [wI2]; omega
  have w4:w64 (((m+Y1 (fun i=>(ndT l k i).2.2.2.1.length) i:Nat):Int)+((ndT l k i).2.2.2.1.length:Int))=((m+(Y1 (fun i=>(ndT l k i).2.2.2.1.length) i+(ndT l k i).2.2.2.1.length):Nat):Int):=by rw [wI2]; omega
  show Q147.l1 (f+1) l _ _ _ _ _ _=_;rw [Q147.l1,iO,iT (by rw [ei]; simp only [dE]; omega),en,w1,w3,w4,Gf (i:=i) (by omega)];by_cases z:k=0
  ·rw [iP,iT (by rw [ei]; omega),wI2 (x:=((b+Y1 (fun _=>if k=0 then 1 else 0) i:Nat):Int)+1)]
   have p2:Y1 (fun _=>if k=0 then 1 else 0) (i+1)=Y1 (fun _=>if k=0 then 1 else 0) i+1:=by
    show Y1 (fun _=>if k=0 then 1 else 0) i+(if k=0 then 1 else 0)=_
    rw [iT z]
   rw [p2] at e';exact e'
  ·rw [iN,iT (by rw [ei]; omega)];have p2:Y1 (fun _=>if k=0 then 1 else 0) (i+1)=Y1 (fun _=>if k=0 then 1 else 0) i:=by
    show Y1 (fun _=>if k=0 then 1 else 0) i+(if k=0 then 1 else 0)=_
    rw [iF z]; rfl
   rw [p2] at e';exact e'
theorem Zdx (hc:OkC c) (T:GoodT c l) (G:Gro l LO HI):∀(n k:Nat),k+n=l.length->Ev (fun f=>RL0 f l (uS l (fun _ _=>1) k) (uS l (fun k _=>if k=0 then 1 else 0) k) (uS l (fun k i=>(ndT l k i).2.2.2.2.length) k) (uS l (fun k i=>(ndT l k i).2.2.2.1.length) k) k) ((l.length:Int),((uS l (fun _ _=>1) l.length:Nat):Int),((uS l (fun k _=>if k=0 then 1 else 0) l.length:Nat):Int),((uS l (fun k i=>(ndT l k i).2.2.2.2.length) l.length:Nat):Int),((uS l (fun k i=>(ndT l k i).2.2.2.1.length) l.length:Nat):Int))
 | 0,k,hk=>by
  refine ⟨1,fun f hf=>?_⟩;obtain ⟨f,rfl⟩:=kS1 f;show Q147.l0 (f+1) l _ _ _ _ _=_;rw [Q147.l0,iN,show k=l.length by omega]
 | n+1,k,hk=>by
  have h6:=T.len;have sb:∀ k i,k<l.length->i<wd l k->(ndT l k i).2.2.2.2.length<=150/\(ndT l k i).2.2.2.1.length<=150:=fun k i h1 h2=>by
   have sm:=Zbc hc T G h1 h2 (fun _ _=>0);exact ⟨sm.prs,sm.buf⟩
  have s1:=Zei T (f:=fun _ _=>1) (M:=1) (fun _ _ _ _=>Nat.le_refl _) k (by omega);have s2:=Zei T (f:=fun k _=>if k=0 then 1 else 0) (M:=1) (fun k _ _ _=>by show (if k=0 then 1 else 0)<=1; split <;> omega) k (by omega)
  have s3:=Zei T (f:=fun k i=>(ndT l k i).2.2.2.2.length) (M:=150) (fun k i h1 h2=>(sb k i h1 h2).1) k (by omega);have s4:=Zei T (f:=fun k i=>(ndT l k i).2.2.2.1.length) (M:=150) (fun k i h1 h2=>(sb k i h1 h2).2) k (by omega);have ih:=Zdx hc T G n (k+1) (by omega);rw [B2,B2,B2,B2] at ih;obtain ⟨b0,e⟩:=Zdy hc T G (k:=k) (by omega) (by omega) (by omega) (by omega) (by omega) ih (wd l k) 0 (by omega);refine ⟨b0+1,fun f hf=>?_⟩;obtain ⟨f,rfl⟩:=kS1 f;show Q147.l0 (f+1) l _ _ _ _ _=_;rw [Q147.l0,iP];exact e f (by omega)
theorem Zpe (hc:OkC c) (T:GoodT c l) (G:Gro l LO HI):Ev (fun f=>Q147.f f l) (Zky l):=by
 have hne:=G.ne;obtain ⟨b0,e⟩:=Zdx hc T G l.length 0 (by omega);obtain ⟨k,ek⟩:∃ k,l.length=k+1:=⟨l.length - 1,by omega⟩;refine ⟨b0,fun f hf=>?_⟩;have e':=e f hf;show Q147.f f l=_;unfold Q147.f Zky;rw [show l.length - 1=k by omega];rw [show ∀ g:Nat->Nat->Nat,uS l g l.length=tS l g k from fun g=>by rw [ek]; rfl,show ∀ g:Nat->Nat->Nat,uS l g l.length=tS l g k from fun g=>by rw [ek]; rfl,show ∀ g:Nat->Nat->Nat,uS l g l.length=tS l g k from fun g=>by rw [ek]; rfl,show ∀ g:Nat->Nat->Nat,uS l g l.length=tS l g k from fun g=>by rw [ek]; rfl] at e';exact e'
end
section
variable {c:Cfg}
theorem Zlz {x:Spc} (hx:∀ y∈x.2.2.2,0<=y/\y<256) (hd:∀ y∈x.2.2.1,0<=y/\y<256) {h':Int} (hh:h'<9223372036854775808):∃ k,Q128.f k c x h'=some true:=by
 obtain ⟨R,⟨b0,hb⟩,r⟩:=Zrn (c:=c) hx hd;obtain ⟨v,⟨b1,e1⟩,⟨b2,e2⟩⟩:=Zr4 c hh;rcases r with r | ⟨r,s,N,B,n,t,L,K,h,BL,e,I⟩
 ·refine ⟨b0+b1+b2+3002,?_⟩;unfold Q128.f;rw [show Q124.f _ c x=_ from hb _ (by omega),bS];cases e:R.1 with
  | none=>dsimp only [Vj]; rw [show Q153.f _ c h'=_ from e1 _ (by omega),bS,show Q146.f _ c h'=_ from e2 _ (by omega),bS,vS,r,iT (by rfl),Zfa _ (by omega),bS]
  | some s=>dsimp only [Vj]; rw [show Q153.f _ c h'=_ from e1 _ (by omega),bS,show Q146.f _ c h'=_ from e2 _ (by omega),bS,vS,r,iT (by rfl),Zfa _ (by omega),bS]
 ·obtain ⟨LO,HI,Gr⟩:=I.T.gro;have hne:=Gr.ne;have h6:=I.T.len;have ht:=I.t1;have N4:=I.N4;have N5:=I.g.N5;have hc:=Uf I.g.ok;obtain ⟨s3,L3,t3,⟨b3,e3⟩,S3,u3⟩:=Znq I.g I.T Gr I.P I.S (by omega);obtain ⟨s4,L4,t4,⟨b4,e4⟩,S4,u4⟩:=Znd I.g I.T Gr (Zkc I.T Gr I.P) S3 (by omega);rw [iT (Gj I.T Gr (fun _=>rfl) (fun _ _=>0)).1] at e4;obtain ⟨b5,e5⟩:=Zpe hc I.T Gr;rw [<- I.rt] at e3 e4;have hr:=Zoe I.T Gr I.P (by omega) I.S.h0 I.held;have hl:=Znf N h;have wl:=Zmi I.T Gr (ok:=fun _=>true) fun _=>rfl;refine ⟨b0+b1+b2+b3+b4+b5+N+6002,?_⟩;unfold Q128.f;rw [show Q124.f _ c x=_ from hb _ (by omega),bS,e];dsimp only [Vj];rw [show Q153.f _ c h'=_ from e1 _ (by omega),bS,show Q146.f _ c h'=_ from e2 _ (by omega),bS,vS,r,vS,show Q154.f _ s R.2.1=_ from e3 _ (by omega),bS];dsimp only;rw [show Q151.f _ s3 R.2.1=_ from e4 _ (by omega),bS,iT (by rfl)];dsimp only;rw [iT (by rfl),Q129.f,bS,show Q147.f _ R.2.2.1=_ from e5 _ (by omega),bS,iU];rw [List.singleton_append,hr,iT (by
   rw [List.length_mergeSort,length_map,List.length_singleton]; omega)]
  unfold Q82.f;rw [Ztm S4.bits (by omega),bS,bS,Zrk _ (by omega) (by omega),bS,iT rfl,Zfa _ (by omega),bS]
end
theorem Zsk {n1 n2 n3 n4:Nat} {x:Spc} (h:Ty.fit (Gb tt) (.pair (.slice n1 (.pair .str .str)) (.pair (.slice n2 (.pair .str (.pair .bool .str))) (.pair (.slice n3 (.int .u8)) (.slice n4 (.int .u8))))) x):(∀ y∈x.2.2.2,0<=y/\y<256)/\∀ y∈x.2.2.1,0<=y/\y<256:=by
 have h1:IntKind.u8.min=0:=rfl;have h2:IntKind.u8.max=255:=rfl;refine ⟨fun y hy=>?_,fun y hy=>?_⟩
 ·have:=h.2.2.2.2.2 y hy;simp [Ty.fit,Lit.wf] at this;omega
 ·have:=h.2.2.1.2.2 y hy;simp [Ty.fit,Lit.wf] at this;omega
theorem WalkLooks_pure {p:Prop} {n1 n2 n3 n4:Nat} (c:Cfg) (x:Spc) (h:Int) (_:p) (hx:Ty.fit (Gb tt) (.pair (.slice n1 (.pair .str .str)) (.pair (.slice n2 (.pair .str (.pair .bool .str))) (.pair (.slice n3 (.int .u8)) (.slice n4 (.int .u8))))) x) (hh:Ty.fit (Gb tt) (.int .i64) h):∃ k,Q128.f k c x h=some true:=by
 refine Zlz (Zsk hx).1 (Zsk hx).2 ?_;simp [Ty.fit,Lit.wf,IntKind.min,IntKind.max,IntKind.signed,IntKind.bits] at hh;omega
end Go.SK.T
