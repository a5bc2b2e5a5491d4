/- The plain law behind ScanParts: what its code computes is true for all settings, trees, spans and keys. -/
import Derived.Test.YtpghkhgccflcgaaGreatDoorXScanPartsF3
import Derived.KernelRfl
import Derived.Sort.Walk13a
import Derived.Sort.AssemblyPlain
set_option linter.unusedVariables false
set_option linter.unusedSimpArgs false
namespace Go.SK.T
open Go Go.SK
open BitVec (ofInt)
theorem iN {p:Prop} [Decidable p] {α:Type} {a b:α} (h:¬ p:=by omega):(if decide p=true then a else b)=b:=if_neg (by simpa using h)
theorem iP {p:Prop} [Decidable p] {α:Type} {a b:α} (h:p:=by omega):(if decide p=true then a else b)=a:=if_pos (decide_eq_true h)
theorem kS1 (k:Nat) (h:1<=k:=by omega):∃ j,k=j+1:=⟨k - 1,by omega⟩
theorem kS2 (k:Nat) (h:2<=k:=by omega):∃ j,k=j+2:=⟨k - 2,by omega⟩
theorem kS3 (k:Nat) (h:3<=k:=by omega):∃ j,k=j+3:=⟨k - 3,by omega⟩
theorem bS {α β:Type} (a:α) (f:α->Option β):(some a).bind f=f a:=rfl
theorem iT.{u} {c:Prop} {h:Decidable c} (hc:c) {α:Sort u} {t e:α}:ite c t e=t:=if_pos hc
theorem iF.{u} {c:Prop} {h:Decidable c} (hc:¬ c) {α:Sort u} {t e:α}:ite c t e=e:=if_neg hc
theorem dE {p:Prop} [Decidable p]:(decide p=true)=p:=decide_eq_true_eq
theorem dT {p:Prop} [Decidable p] (h:p:=by omega):decide p=true:=decide_eq_true h
theorem dF {p:Prop} [Decidable p] (h:¬ p:=by omega):decide p=false:=decide_eq_false h
theorem tN (n:Nat):(n:Int).toNat=n:=rfl
theorem lA {α:Type} {a b:List α}:(a ++ b).length=a.length+b.length:=List.length_append
theorem iO.{u} {c:Prop} {_:Decidable c} {α:Sort u} {t e:α} (hc:c:=by omega):ite c t e=t:=if_pos hc
theorem iQ.{u} {c:Prop} {_:Decidable c} {α:Sort u} {t e:α} (hc:¬ c:=by omega):ite c t e=e:=if_neg hc
theorem vS.{u} {c:Prop} {_:Decidable c} {α:Sort u} {t e:α} (hc:¬ c:=by simp):ite c t e=e:=if_neg hc
theorem iU.{u} {c:Prop} {_:Decidable c} {α:Sort u} {t e:α} (hc:c:=by simp):ite c t e=t:=if_pos hc
theorem iV.{u} {c:Prop} {_:Decidable c} {α:Sort u} {t e:α} (hc:c:=by (simp; omega)):ite c t e=t:=if_pos hc
theorem iW.{u} {c:Prop} {_:Decidable c} {α:Sort u} {t e:α} (hc:¬ c:=by (simp; omega)):ite c t e=e:=if_neg hc
theorem dN {α:Type} {l:List α} {i:Nat} (h:l.length<=i:=by omega):l.drop i=[]:=List.drop_eq_nil_of_le h
theorem tO {α:Type} {l:List α} {i:Nat} (h:l.length<=i:=by omega):l.take i=l:=List.take_of_length_le h
theorem wS2 {i:Nat} (h:i<4611686018427387904:=by omega):w64 ((i:Int)+1)=((i+1:Nat):Int):=Zen h
theorem wI2 {x} (h0:-9223372036854775808<=x:=by omega) (h1:x<=9223372036854775807:=by omega):w64 x=x:=Jy h0 h1
abbrev Msg:=List UInt8×Bool×List UInt8
abbrev Cfg:=Int×Int×Int×Int×Int×Int×Int×Int
abbrev Pr:=List UInt8×List UInt8
abbrev Nd:=Int×List Int×List TQ×List Msg×List Pr
structure SmallN (n:Nd):Prop where
 kids:n.2.1.length<=80
 pivs:n.2.2.1.length<=80
 buf:n.2.2.2.1.length<=150
 prs:n.2.2.2.2.length<=150
 pk:∀ p∈n.2.2.1,p.length<=200
 bk:∀ m∈n.2.2.2.1,m.1.length<=200
 rk:∀ m∈n.2.2.2.2,m.1.length<=200
structure OkC (c:Cfg):Prop where
 fan:8<=c.2.2.2.1/\c.2.2.2.1<=64
 key:1<=c.2.2.2.2.2.2.1/\c.2.2.2.2.2.2.1<=64
 val:0<=c.2.2.2.2.2.2.2/\c.2.2.2.2.2.2.2<=256
 buf:16<=c.2.2.2.2.1/\c.2.2.2.2.1<=512
 leaf:c.2.2.2.2.1<=c.2.2.2.2.2.1/\c.2.2.2.2.2.1<=1024
abbrev Sp:=List UInt8×List UInt8×Bool
def inS (s:Sp) (x:TQ):Bool:=!Op.bytesLess x s.1 && (s.2.2 || Op.bytesLess x s.2.1)
def Ze3:List Pr->Bool
 | a :: b :: r=>Op.bytesLess a.1 b.1 && Ze3 (b :: r)
 | _=>true
def Bv (c:Cfg) (x:TQ):Bool:=decide (1<=(x.length:Int)/\(x.length:Int)<=c.2.2.2.2.2.2.1)
def prB (c:Cfg) (s:Sp) (p:Pr):Bool:=Bv c p.1 && (inS s p.1 && decide ((p.2.length:Int)<=c.2.2.2.2.2.2.2))
def Zg5 (c:Cfg) (s:Sp) (n:Nd):Bool:=n.2.2.2.2.all (prB c s) && (decide (n.2.1=[]) && (decide (n.2.2.1=[]) && (decide (n.2.2.2.1=[]) && (decide ((n.2.2.2.2.length:Int)<=c.2.2.2.2.2.1) && Ze3 n.2.2.2.2))))
def piv (s:Sp) (p:TQ):Bool:=inS s p && !decide (p=s.1)
def Ze0:List Msg->Bool
 | a :: b :: r=>Op.bytesLess a.1 b.1 && Ze0 (b :: r)
 | _=>true
def Zgy (c:Cfg) (s:Sp) (m:Msg):Bool:=Bv c m.1 && (inS s m.1 && (decide ((m.2.2.length:Int)<=c.2.2.2.2.2.2.2) && (!m.2.1 || decide (m.2.2=[]))))
def Zgl (c:Cfg) (s:Sp) (n:Nd):Bool:=decide (n.1<=40) && (decide (n.2.2.2.2=[]) && (decide (1<=n.2.1.length) && (decide ((n.2.1.length:Int)<=c.2.2.2.1) && (decide (n.2.2.1.length+1=n.2.1.length) && ((n.2.2.1.all (piv s) && Ze1 n.2.2.1) && (decide ((n.2.2.2.1.length:Int)<=c.2.2.2.2.1) && Ze0 n.2.2.2.1))))))
def neB (l:TV) (i q:Nat):Bool:=!decide (l.getD q 0=l.getD i 0)
def Zf6 (c:Cfg) (l:TV) (i:Nat):Bool:=!decide (l.getD i 0=0) && (!decide (c.1<=w64 (l.getD i 0)) && (List.range' 0 i).all (neB l i))
def Zgj (c:Cfg) (s:Sp) (n:Nd):Bool:=n.2.2.1.all (Bv c) && (n.2.2.2.1.all (Zgy c s) && Zgl c s n)
def Zgr (c:Cfg) (s:Sp) (n:Nd):Bool:=(List.range' 0 n.2.1.length).all (Zf6 c n.2.1) && Zgj c s n
instance decNd4:DecidableEq (List Msg×List Pr):=instDecidableEqProd
instance decNd3:DecidableEq (List TQ×List Msg×List Pr):=instDecidableEqProd
instance decNd2:DecidableEq (List Int×List TQ×List Msg×List Pr):=instDecidableEqProd
instance decNd1:DecidableEq Nd:=instDecidableEqProd
abbrev ltI:=Go.Sort.ltInt
def hintI:Go.Sort.Hint->Int
 | .unknown=>0
 | .increasing=>1
 | .decreasing=>2
def restI (a b s i:Nat) (d:Array Int):Array Int×Bool:=
 if i=b then (d,true) else if b - a<50 then (d,false) else
  Go.Sort.partialIns ltI a b s i (let d1:=Go.Sort.swp d i (i - 1); let d2:=if i - a>=2 then Go.Sort.shiftDown ltI (i - 1) d1 else d1; if b - i>=2 then Go.Sort.shiftUp ltI b (i+1) d2 else d2)
def pairI (p:Array Int×Bool):Bool×List Int:=(p.2,p.1.toList)
def pairE (p:Nat×Array Int):Int×List Int:=((p.1:Int),p.2.toList)
def restE (a i2 j2:Nat) (d:Array Int):Nat×Array Int:=if i2>j2 then (i2,d) else Go.Sort.partEqLoop ltI a (i2+1) (j2 - 1) (Go.Sort.swp d i2 j2)
def finI (d:Array Int) (a j:Nat):Int×Bool×List Int:=((j:Int),false,(Go.Sort.swp d j a).toList)
def restP (a i2 j2:Nat) (d:Array Int):Nat×Array Int:=if i2>j2 then (j2,d) else Go.Sort.partLoop ltI a (i2+1) (j2 - 1) (Go.Sort.swp d i2 j2)
structure Part4 (a:Nat) (F2 F3 F4:Nat->List Int->Int->Int->Option TG):Prop where
 h2:∀ k x i j,F2 (k+1) x i j=F3 k x j i
 h3:∀ k x j i,F3 (k+1) x j i=if (decide (i<=j))=true then (if 0<=i/\i<(x.length:Int) then (if 0<=(a:Int)/\(a:Int)<(x.length:Int) then ((Q36.f (gt x i) (gt x (a:Int))).bind fun r3=>(if r3=true then (F3 k x j (w64 (i+1))) else (F4 k x i j))) else none) else none) else (F4 k x i j)
 h4:∀ k x i j,F4 (k+1) x i j=if (decide (i<=j))=true then (if 0<=j/\j<(x.length:Int) then (if 0<=(a:Int)/\(a:Int)<(x.length:Int) then ((Q36.f (gt x j) (gt x (a:Int))).bind fun r4=>(if (!r4)=true then (F4 k x i (w64 (j - 1))) else (if (decide (j<i))=true then (if 0<=(a:Int)/\(a:Int)<(x.length:Int) then (if 0<=j/\j<(x.length:Int) then (some (j,false,((x.set j.toNat (gt x (a:Int))).set (a:Int).toNat (gt x j)))) else none) else none) else (if 0<=j/\j<(x.length:Int) then (if 0<=i/\i<(x.length:Int) then (F2 k ((x.set i.toNat (gt x j)).set j.toNat (gt x i)) (w64 (i+1)) (w64 (j - 1))) else none) else none)))) else none) else none) else (if (decide (j<i))=true then (if 0<=(a:Int)/\(a:Int)<(x.length:Int) then (if 0<=j/\j<(x.length:Int) then (some (j,false,((x.set j.toNat (gt x (a:Int))).set (a:Int).toNat (gt x j)))) else none) else none) else (if 0<=j/\j<(x.length:Int) then (if 0<=i/\i<(x.length:Int) then (F2 k ((x.set i.toNat (gt x j)).set j.toNat (gt x i)) (w64 (i+1)) (w64 (j - 1))) else none) else none))
section
variable {a:Nat} {F2 F3 F4:Nat->List Int->Int->Int->Option TG} (P:Part4 a F2 F3 F4)
include P
end
def outT (r:Nat×Bool×Array Int):Int×Bool×List Int:=((r.1:Int),r.2.1,r.2.2.toList)
def restT (a i j:Nat) (d:Array Int):Nat×Bool×Array Int:=if i>j then (j,true,Go.Sort.swp d j a) else ((Go.Sort.partLoop ltI a (i+1) (j - 1) (Go.Sort.swp d i j)).1,false,Go.Sort.swp (Go.Sort.partLoop ltI a (i+1) (j - 1) (Go.Sort.swp d i j)).2 (Go.Sort.partLoop ltI a (i+1) (j - 1) (Go.Sort.swp d i j)).1 a)
def rePt (k:Nat) (a b lim m:Int) (ap:Bool) (d:TV):Option TV:=if (decide ((w64 (m - a))<(w64 (b - m))))=true then ((Q125.f k d a m lim).bind fun r10=>(Q125.l0 k r10 (w64 (m+1)) b lim (decide ((w64 (Int.tdiv (w64 (b - a)) 8))<=(w64 (m - a)))) ap)) else ((Q125.f k d (w64 (m+1)) b lim).bind fun r11=>(Q125.l0 k r11 a m lim (decide ((w64 (Int.tdiv (w64 (b - a)) 8))<=(w64 (b - m)))) ap))
section
variable {a b p lim:Nat} {d:Array Int} {wb wp:Bool} {r:TV}
end
def piP (k:Nat) (s:Go.Sort.Rd Int) (a b:Nat) (wb wp:Bool):Option TV:=if s.pi.2=true then some s.pi.1.toList else Q125.l4 k (a:Int) (b:Int) wb wp (s.lim:Int) (s.pivot:Int) s.pi.1.toList
section
variable {a b limit:Nat} {d:Array Int} {wb wp:Bool} {r:TV}
end
def adjI (l:TV):Prop:=∀ q,q+1<l.length->l.getD (q+1) 0≠l.getD q 0
def kidsB (c:Cfg) (l:TV):Bool:=decide (1<=l.length) && (decide ((l.length:Int)<=c.2.2.2.1) && (List.range' 0 l.length).all (Zf6 c l))
def Zb4 (c:Cfg) (s:Sp) (n:Nd):Bool:=if n.1=0 then Zg5 c s n else decide (0<n.1) && Zgr c s n
def be:Nat->Nat->List UInt8
 | 0,_=>[]
 | w+1,v=>UInt8.ofNat (v / 256 ^ w) :: be w v
def rdv (l:TQ):Nat:=l.foldl (fun a c=>a*256+c.toNat) 0
def zs (n:Nat):List UInt8:=List.replicate n 0
def slt (s:TQ) (n:Nat):List UInt8:=s ++ zs (n - s.length)
def prS (K V:Nat) (p:TD):List UInt8:=be 1 p.1.length ++ (be 2 p.2.length ++ (slt p.1 K ++ slt p.2 V))
def msS (K V:Nat) (m:Tz):List UInt8:=(if m.2.1=true then 2 else 1) :: prS K V (m.1,m.2.2)
def pvS (K:Nat) (p:TQ):List UInt8:=be 1 p.length ++ slt p K
def cat {α:Type} (f:α->List UInt8) (l:List α):List UInt8:=l.flatMap f
def kdS (x:Int):List UInt8:=be 4 x.toNat
def cBy (c:Cfg):Nat:=c.2.1.toNat
def cFa (c:Cfg):Nat:=c.2.2.2.1.toNat
def cBu (c:Cfg):Nat:=c.2.2.2.2.1.toNat
def cLe (c:Cfg):Nat:=c.2.2.2.2.2.1.toNat
def cK (c:Cfg):Nat:=c.2.2.2.2.2.2.1.toNat
def cV (c:Cfg):Nat:=c.2.2.2.2.2.2.2.toNat
def hdO (n:Nd):List UInt8:=1 :: 0 :: (be 2 n.2.2.2.2.length ++ zs 4)
def hdI (n:Nd):List UInt8:=2 :: (be 1 n.1.toNat ++ (be 2 n.2.1.length ++ (be 2 n.2.2.2.1.length ++ zs 2)))
def bdO (c:Cfg) (n:Nd):List UInt8:=cat (prS (cK c) (cV c)) n.2.2.2.2
def bdI (c:Cfg) (n:Nd):List UInt8:=cat kdS n.2.1 ++ (zs (4*(cFa c - n.2.1.length)) ++ (cat (pvS (cK c)) n.2.2.1 ++ (zs ((1+cK c)*(cFa c - 1 - n.2.2.1.length)) ++ cat (msS (cK c) (cV c)) n.2.2.2.1)))
def Zg6 (c:Cfg) (n:Nd):List UInt8:=if n.1=0 then hdO n ++ bdO c n else hdI n ++ bdI c n
def Zd7 (c:Cfg) (n:Nd):List UInt8:=slt (Zg6 c n) (cBy c)
structure FitN (c:Cfg) (n:Nd):Prop where
 lv:0<=n.1/\n.1<=40
 kd:∀ x∈n.2.1,0<=x/\x<4294967296
 o:n.1=0->n.2.1=[]/\n.2.2.1=[]/\n.2.2.2.1=[]/\n.2.2.2.2.length<=cLe c
 i:n.1≠0->n.2.2.2.2=[]/\1<=n.2.1.length/\n.2.1.length<=cFa c/\n.2.2.1.length+1=n.2.1.length/\n.2.2.2.1.length<=cBu c
 pk:∀ p∈n.2.2.1,p.length<=cK c
 ms:∀ m∈n.2.2.2.1,m.1.length<=cK c/\m.2.2.length<=cV c
 rk:∀ p∈n.2.2.2.2,p.1.length<=cK c/\p.2.length<=cV c
def szB (c:Cfg):Bool:=decide (8<=c.2.2.2.1/\c.2.2.2.1<=64) && (decide (1<=c.2.2.2.2.2.2.1/\c.2.2.2.2.2.2.1<=64) && (decide (0<=c.2.2.2.2.2.2.2/\c.2.2.2.2.2.2.2<=256) && (decide (2*c.2.2.2.1<=c.2.2.2.2.1/\c.2.2.2.2.1<=512) && decide (c.2.2.2.2.1<=c.2.2.2.2.2.1/\c.2.2.2.2.2.1<=1024))))
def Zg1 (c:Cfg):Int:=8+(4+(c.2.2.2.1 - 1)*(5+c.2.2.2.2.2.2.1)+c.2.2.2.2.1*(4+c.2.2.2.2.2.2.1+c.2.2.2.2.2.2.2))
def Zgw (c:Cfg):Int:=8+c.2.2.2.2.2.1*(3+c.2.2.2.2.2.2.1+c.2.2.2.2.2.2.2)
def okB (c:Cfg):Bool:=szB c && (decide (5<=c.1/\c.1<=65536) && (decide (8<=c.2.2.1/\c.2.2.1<=64) && (decide (64<=c.2.1/\c.2.1<=65536) && (decide (Zg1 c<=c.2.1) && decide (Zgw c<=c.2.1)))))
abbrev Zei:Sp:=([],[],true)
structure NatC (c:Cfg):Prop where
 f:c.2.2.2.1=(cFa c:Int)
 k:c.2.2.2.2.2.2.1=(cK c:Int)
 v:c.2.2.2.2.2.2.2=(cV c:Int)
 b:c.2.2.2.2.1=(cBu c:Int)
 l:c.2.2.2.2.2.1=(cLe c:Int)
def rest1 (c:Cfg) (n:Nd):List UInt8:=cat (pvS (cK c)) n.2.2.1 ++ (zs ((1+cK c)*(cFa c - 1 - n.2.2.1.length)) ++ cat (msS (cK c) (cV c)) n.2.2.2.1)
def encV (c:Cfg) (n:Nd):List Int×Int:=if okB c=true then (if Zb4 c Zei n=true then (toB (Zd7 c n),0) else ([],3)) else ([],2)
def rbS (s:TM) (n:Nat):List UInt8×TM:=if s.2=0 then (if s.1.length<n then ([],([],5)) else (s.1.take n,(s.1.drop n,0))) else ([],s)
def iS (s:TM):List Int×Int:=(toB s.1,s.2)
def spS (s:TM) (x:Int):List UInt8×Int:=([],if s.2=0 then x else s.2)
def Ws (s:TM) (w:Nat):Nat×TM:=(rdv (rbS s w).1,(rbS s w).2)
def nzS (l:TQ):Bool:=l.any fun x=>!decide (x=0)
def Zgd (s:TM) (n:Nat):List UInt8×Int:=if nzS (rbS s n).1=true then spS (rbS s n).2 3 else (rbS s n).2
def Zax (s:TM) (n most:Nat):List UInt8×TM:=if most<n then ([],spS s 2) else if (rbS s most).1.length<most then ([],(rbS s most).2) else if nzS ((rbS s most).1.drop n)=true then ([],spS (rbS s most).2 3) else ((rbS s most).1.take n,(rbS s most).2)
def Bj (c:Cfg) (s:TM):Pr×TM:=
 let k:=Ws s 1
 let v:=Ws k.2 2
 let x:=Zax v.2 k.1 (cK c)
 let y:=Zax x.2 v.1 (cV c)
 ((x.1,y.1),y.2)
def Zej (c:Cfg):Nat->List UInt8×Int->List Pr->List Pr×TM
 | 0,s,acc=>(acc,s)
 | m+1,s,acc=>Zej c m (Bj c s).2 (acc ++ [(Bj c s).1])
def Ze9:Nat->Nat->Nat->List UInt8×Int->List Int->List Int×TM
 | 0,_,_,s,acc=>(acc,s)
 | m+1,i,cnt,s,acc=>Ze9 m (i+1) cnt (Ws s 4).2 (if i<cnt then acc ++ [((Ws s 4).1:Int)] else acc)
def Zfb (c:Cfg):Nat->Nat->Nat->List UInt8×Int->List TQ->List TQ×TM
 | 0,_,_,s,acc=>(acc,s)
 | m+1,i,cnt,s,acc=>Zfb c m (i+1) cnt (Zax (Ws s 1).2 (Ws s 1).1 (cK c)).2 (if i+1<cnt then acc ++ [(Zax (Ws s 1).2 (Ws s 1).1 (cK c)).1] else acc)
def Ze8 (c:Cfg):Nat->List UInt8×Int->List Msg->List Msg×TM
 | 0,s,acc=>(acc,s)
 | m+1,s,acc=>Ze8 c m (Bj c (Ws s 1).2).2 (acc ++ [((Bj c (Ws s 1).2).1.1,decide (((Ws s 1).1:Int)=2),(Bj c (Ws s 1).2).1.2)])
def Zgu (c:Cfg) (lv:Int) (cnt bf:Nat) (s:TM):Nd×TM:=
 let a:=Ze9 (cFa c) 0 cnt s []
 let b:=Zfb c (cFa c - 1) 0 cnt a.2 []
 let d:=Ze8 c (min (cBu c) bf) b.2 []
 ((lv,a.1,b.1,d.1,[]),d.2)
def Ze6 (c:Cfg) (b:TQ):Nd×TM:=
 let a1:=Ws (b,0) 1
 let a2:=Ws a1.2 1
 let a3:=Ws a2.2 2
 let a4:=Ws a3.2 2
 let z:=Zgd a4.2 2
 if a1.1=1 then ((0,[],[],[],(Zej c (min (cLe c) a3.1) z []).1),(Zej c (min (cLe c) a3.1) z []).2)
 else if a1.1=2 then Zgu c (if a2.1>1 then (a2.1:Int) else 1) a3.1 a4.1 z
 else ((-1,[],[],[],[]),z)
structure Rd (n:Nd):Prop where
 kids:n.2.1.length<=64
 pivs:n.2.2.1.length<=64
 buf:n.2.2.2.1.length<=512
 prs:n.2.2.2.2.length<=1024
 kd:∀ x∈n.2.1,0<=x/\x<4294967296
def Zat:Nd:=(0,[],[],[],[])
def Zgz (c:Cfg) (b:TQ) (n:Nd) (e:Int):Nd×Int:=if e=0 then (if Zb4 c Zei n=true then (if Zd7 c n=b then (n,0) else (Zat,12)) else (Zat,12)) else (Zat,12)
def Zg3 (c:Cfg) (b:TQ):Nd×Int:=if okB c=true then Zgz c b (Ze6 c b).1 (Ze6 c b).2.2 else (Zat,2)
abbrev Lnk:=Int×Int×Bool
abbrev Chn:=List Lnk×Int
def ah (l:List Lnk) (k:Nat):Int:=(l.getD k default).1
def bh (l:List Lnk) (k:Nat):Int:=(l.getD k default).2.1
def inn (l:List Lnk) (k:Nat):Bool:=(l.getD k default).2.2
theorem G4 {α:Type} {l:List α} {j k:Nat} {v d:α} (hj:j<l.length:=by omega):(l.set j v).getD k d=if j=k then v else l.getD k d:=by
 rw [List.getD_eq_getElem?_getD,List.getD_eq_getElem?_getD,List.getElem?_set];split
 ·rename_i h;subst h;simp [hj]
 ·rfl
def Lk (l:List Lnk) (a b:Nat):Prop:=bh l a=(b:Int)/\ah l b=(a:Int)
def Vp (l:List Lnk):Nat->List Nat->Prop
 | _,[]=>True
 | a,x :: L=>Lk l a x/\Vp l x L
def Vu:Nat->List Nat->Nat
 | a,[]=>a
 | _,x :: L=>Vu x L
theorem Za0 {l:List Lnk}:∀ {a:Nat} {X Y:List Nat},Vp l a (X ++ Y)↔Vp l a X/\Vp l (Vu a X) Y
 | a,[],Y=>by simp [Vp,Vu]
 | a,x :: X,Y=>by
  rw [List.cons_append,Vp,Vp,Vu,Za0,and_assoc]
theorem Zad:∀ {a:Nat} {L:List Nat},Vu a L∈a :: L
 | a,[]=>by simp [Vu]
 | a,x :: L=>by
  rw [Vu];have:=Zad (a:=x) (L:=L);simp only [List.mem_cons] at this ⊢;rcases this with h | h
  ·exact .inr (.inl h)
  ·exact .inr (.inr h)
structure ChI (n:Nat) (c:Chn) (L:List Nat):Prop where
 len:c.1.length=n+1
 cnt:c.2=(L.length:Int)
 nd:L.Nodup
 lt:∀ x∈L,x<n
 inn:∀ x,x<=n->(inn c.1 x=true↔x∈L)
 ring:Vp c.1 n (L ++ [n])
theorem Zbl:∀ {n:Nat} {L:List Nat},L.Nodup->(∀ x∈L,x<n)->L.length<=n
 | 0,[],_,_=>Nat.le_refl _
 | 0,x :: L,_,h=>by have:=h x (by simp); omega
 | n+1,L,hd,h=>by
  have:=Zbl (n:=n) (hd.erase n) fun x hx=>by
   have h1:=h x (List.mem_of_mem_erase hx);have h2:=(hd.mem_erase_iff.1 hx).1;omega
  rw [List.length_erase] at this;split at this <;> omega
theorem ChI.short {n:Nat} {c:Chn} {L:List Nat} (h:ChI n c L):L.length<=n:=Zbl h.nd h.lt
section
variable {n:Nat} {c:Chn} {L:List Nat}
theorem ChI.split (h:ChI n c L) {i:Nat} (hi:i∈L):∃(P S:List Nat) (s:Nat) (T:List Nat),L=P ++ i :: S/\S ++ [n]=s :: T/\Vp c.1 n P/\Lk c.1 (Vu n P) i/\Lk c.1 i s/\Vp c.1 s T/\Vu n P<=n/\s<=n:=by
 obtain ⟨P,S,rfl⟩:=List.append_of_mem hi;obtain ⟨s,T,e⟩:∃ s T,S ++ [n]=s :: T:=by
  cases S with
  | nil=>exact ⟨n,[],rfl⟩
  | cons x S=>exact ⟨x,S ++ [n],rfl⟩
 have hr:=h.ring;rw [List.append_assoc,List.cons_append,Za0,Vp,e,Vp] at hr;refine ⟨P,S,s,T,rfl,e,hr.1,hr.2.1,hr.2.2.1,hr.2.2.2,?_,?_⟩
 ·have:=Zad (a:=n) (L:=P);rcases List.mem_cons.1 this with h1 | h1
  ·omega
  ·have:=h.lt _ (List.mem_append_left _ h1); omega
 ·have:s∈S ++ [n]:=by rw [e]; simp
  rcases List.mem_append.1 this with h1 | h1
  ·have:=h.lt s (by simp [h1]); omega
  ·simp at h1; omega
end
abbrev Dv:=Int×List Int×TU
def blk (img:TV) (n i:Nat):List Int:=(img.drop (i*n)).take n
theorem Zca {N n i:Nat} (h:i<N):i*n+n<=N*n:=by
 have:=Nat.mul_le_mul_right n h;rw [Nat.succ_mul] at this;exact this
theorem Ju {img b:TV} {N n i:Nat} (hl:img.length=N*n) (h:i<N) (hb:b.length=n) (j:Nat) (hj:j<N):blk (patch img (i*n) n b) n j=if j=i then b else blk img n j:=by
 have h1:=Zca (n:=n) h;have h2:=Zca (n:=n) hj;have e0:(img.take (i*n)).length=i*n:=by rw [List.length_take]; omega
 unfold blk patch;rw [List.take_of_length_le (i:=n) (l:=b) (by omega),show i*n+min n b.length=i*n+n from by omega];by_cases e:j=i
 ·subst e;rw [iT rfl,List.append_assoc,List.drop_append_of_le_length (by omega),List.drop_of_length_le (by omega),List.nil_append,List.take_append_of_le_length (by omega),tO]
 ·rw [iF e];by_cases lt:j<i
  ·have h3:=Nat.mul_le_mul_right n (show j+1<=i from lt);rw [Nat.succ_mul] at h3;rw [List.append_assoc,List.drop_append_of_le_length (by omega),List.take_append_of_le_length (by rw [List.length_drop]; omega),List.drop_take,List.take_take];congr 1;omega
  ·have h3:=Nat.mul_le_mul_right n (show i+1<=j from by omega);rw [Nat.succ_mul] at h3;rw [List.drop_append,List.drop_of_length_le (by rw [lA]; omega),List.nil_append,List.drop_drop];congr 2;rw [lA,e0];omega
theorem Zdk {img b:TV} {N n i:Nat} (hl:img.length=N*n) (h:i<N):(patch img (i*n) n b).length=N*n:=by
 have:=Zca (n:=n) h;rw [Xe (by omega),hl]
abbrev Fr8:=Int×List Int×Bool×Int
abbrev Ca:=Dv×List Fr8×List TU×List Int×Chn
section
variable {es:TL} {x v d:Int}
theorem mhas_iff:∀ {es:TL},Y4 es x=true↔∃ v,(x,v)∈es
 | []=>by simp [Y4]
 | p :: es=>by
  rw [Y4];split
  ·rename_i h;exact ⟨fun _=>⟨p.2,by simp [<- h]⟩,fun _=>rfl⟩
  ·rename_i h;rw [mhas_iff];constructor
   ·rintro ⟨v,hv⟩; exact ⟨v,by simp [hv]⟩
   ·rintro ⟨v,hv⟩;rcases List.mem_cons.1 hv with e | e
    ·exact absurd (by rw [<- e]) h
    ·exact ⟨v,e⟩
theorem Vz:∀ {es:TL},(es.map Prod.fst).Nodup->(x,v)∈es->Zp d es x=v
 | [],_,h=>by simp at h
 | p :: es,nd,h=>by
  rw [List.map_cons,List.nodup_cons] at nd;rw [Zp];rcases List.mem_cons.1 h with e | e
  ·rw [iT (by rw [<- e]),<- e]
  ·rw [iF (fun q=>nd.1 (List.mem_map.2 ⟨_,e,by simpa using q.symm⟩)),Vz nd.2 e]
end
structure Okf (N B n t:Nat) (c:Ca) (i f:Nat):Prop where
 hi:i<N
 hf:f<n
 blk:(c.2.1.getD f default).1=(i:Int)
 len:(c.2.1.getD f default).2.1.length=B
 pin:0<=(c.2.1.getD f default).2.2.2/\(c.2.1.getD f default).2.2.2<=t
 emp:(f:Int)∉c.2.2.2.1
structure CaI (N B n t:Nat) (H:List Nat) (c:Ca) (L:List Nat):Prop where
 dsz:c.1.1=(B:Int)
 dim:c.1.2.1.length=N*B
 frl:c.2.1.length=n
 mnd:(c.2.2.1.map Prod.fst).Nodup
 mok:∀ p∈c.2.2.1,∃ i f:Nat,p=((i:Int),(f:Int))/\Okf N B n t c i f
 emp:∀ x∈c.2.2.2.1,∃ f:Nat,x=(f:Int)/\f<n
 end_:c.2.2.2.1.Nodup
 hol:∀ f∈H,f<n/\(f:Int)∉c.2.2.2.1/\∀ i:Int,(i,(f:Int))∉c.2.2.1
 tot:c.2.2.1.length+c.2.2.2.1.length+H.length=n
 chn:ChI n c.2.2.2.2 L
 lok:∀ f:Nat,f∈L↔(∃ i:Int,(i,(f:Int))∈c.2.2.1)/\(c.2.1.getD f default).2.2.2=0
section
variable {N B n t:Nat} {H:List Nat} {c:Ca} {L:List Nat}
theorem CaI.at (h:CaI N B n t H c L) {i f:Int} (hp:(i,f)∈c.2.2.1):∃ i' f':Nat,i=(i':Int)/\f=(f':Int)/\Okf N B n t c i' f':=by
 obtain ⟨i',f',e,ok⟩:=h.mok _ hp;rw [Prod.mk.injEq] at e;exact ⟨i',f',e.1,e.2,ok⟩
theorem CaI.atN (h:CaI N B n t H c L) {i f:Nat} (hp:((i:Int),(f:Int))∈c.2.2.1):Okf N B n t c i f:=by
 obtain ⟨i',f',e1,e2,ok⟩:=h.at hp;have:i=i':=by omega
 have:f=f':=by omega
 subst_vars;exact ok
theorem CaI.one (h:CaI N B n t H c L) {i j f:Nat} (hi:((i:Int),(f:Int))∈c.2.2.1) (hj:((j:Int),(f:Int))∈c.2.2.1):i=j:=by
 have h1:=(h.atN hi).blk;have h2:=(h.atN hj).blk;omega
theorem CaI.get (h:CaI N B n t H c L) (i:Nat):(Y4 c.2.2.1 (i:Int)=false/\∀ v,((i:Int),v)∉c.2.2.1)\/∃ f:Nat,((i:Int),(f:Int))∈c.2.2.1/\Y4 c.2.2.1 (i:Int)=true/\Zp 0 c.2.2.1 (i:Int)=(f:Int)/\Okf N B n t c i f:=by
 cases q:Y4 c.2.2.1 (i:Int) with
 | false=>exact .inl ⟨rfl,fun v hv=>by rw [mhas_iff.2 ⟨v,hv⟩] at q; cases q⟩
 | true=>
  obtain ⟨v,hv⟩:=mhas_iff.1 q;obtain ⟨i',f,e1,rfl,ok⟩:=h.at hv;have:i=i':=by omega
  subst this;exact .inr ⟨f,hv,rfl,Vz h.mnd hv,ok⟩
theorem CaI.used (h:CaI N B n t H c L):c.2.2.1.length<=n:=by have:=h.tot; omega
theorem CaI.mono (h:CaI N B n t H c L) {t':Nat} (ht:t<=t'):CaI N B n t' H c L:=
 ⟨h.dsz,h.dim,h.frl,h.mnd,fun p hp=>by
  obtain ⟨i,f,e,ok⟩:=h.mok p hp;exact ⟨i,f,e,ok.hi,ok.hf,ok.blk,ok.len,⟨ok.pin.1,by have:=ok.pin.2; omega⟩,ok.emp⟩,h.emp,h.end_,h.hol,h.tot,h.chn,h.lok⟩
theorem CaI.dev (h:CaI N B n t H c L) {img:TV} (hl:img.length=N*B) (s:TU):CaI N B n t H ((c.1.1,img,s),c.2) L:=
 ⟨h.dsz,hl,h.frl,h.mnd,fun p hp=>by
  obtain ⟨i,f,e,ok⟩:=h.mok p hp;exact ⟨i,f,e,ok.hi,ok.hf,ok.blk,ok.len,ok.pin,ok.emp⟩,h.emp,h.end_,h.hol,h.tot,h.chn,h.lok⟩
theorem CaI.setfr (h:CaI N B n t H c L) {i f:Nat} (ha:((i:Int),(f:Int))∈c.2.2.1) {x:Fr8} (h1:x.1=(i:Int)) (h2:x.2.1.length=B) {t':Nat} (h3:0<=x.2.2.2/\x.2.2.2<=t') (ht:t<=t') {ch:Chn} {L':List Nat} (hc:ChI n ch L')
  (hL:∀ g,g∈L'↔if g=f then x.2.2.2=0 else g∈L):CaI N B n t' H (c.1,c.2.1.set f x,c.2.2.1,c.2.2.2.1,ch) L':=by
 have ok:=h.atN ha;have hfl:f<c.2.1.length:=by rw [h.frl]; exact ok.hf
 have g:∀ k,(c.2.1.set f x).getD k default=if f=k then x else c.2.1.getD k default:=fun k=>G4 hfl
 refine ⟨h.dsz,h.dim,by rw [List.length_set,h.frl],h.mnd,fun p hp=>?_,h.emp,h.end_,h.hol,h.tot,hc,fun k=>?_⟩
 ·obtain ⟨j,k,e,okk⟩:=h.mok p hp;refine ⟨j,k,e,okk.hi,okk.hf,?_,?_,?_,okk.emp⟩
  all_goals
   show _
   try dsimp only
   rw [g k];split
  ·rename_i q;subst q;have:i=j:=h.one ha (by rw [<- e]; exact hp);subst this; exact h1
  ·exact okk.blk
  ·exact h2
  ·exact okk.len
  ·exact h3
  ·exact ⟨okk.pin.1,by have:=okk.pin.2; omega⟩
 ·rw [hL k]
  try dsimp only
  rw [g k];by_cases q:k=f
  ·subst q;rw [iT rfl,iT rfl];exact ⟨fun e=>⟨⟨_,ha⟩,e⟩,fun e=>e.2⟩
  ·rw [iF q,iF (Ne.symm q)];exact h.lok k
theorem CaI.take (h:CaI N B n t [] c L) {E:TV} {f:Nat} (he:c.2.2.2.1=E ++ [(f:Int)]):CaI N B n t [f] (c.1,c.2.1,c.2.2.1,E,c.2.2.2.2) L:=by
 have hnd:=h.end_;rw [he] at hnd;have hnd2:=List.nodup_append.1 hnd;refine ⟨h.dsz,h.dim,h.frl,h.mnd,fun p hp=>?_,fun x hx=>h.emp x (by rw [he]; simp [hx]),hnd2.1,fun g hg=>?_,?_,h.chn,h.lok⟩
 ·obtain ⟨i,k,e,ok⟩:=h.mok p hp;exact ⟨i,k,e,ok.hi,ok.hf,ok.blk,ok.len,ok.pin,fun q=>ok.emp (by rw [he]; simp [show (k:Int)∈E from q])⟩
 ·rw [List.mem_singleton] at hg;subst hg;refine ⟨?_,fun q=>hnd2.2.2 _ q (g:Int) (by simp) rfl,fun i hi=>?_⟩
  ·obtain ⟨f',e,hf⟩:=h.emp (g:Int) (by rw [he]; simp);omega
  ·obtain ⟨j,k,e1,e2,ok⟩:=h.at hi;exact ok.emp (by rw [<- e2,he]; simp)
 ·have h1:=h.tot;rw [he] at h1;simp only [lA,List.length_singleton,List.length_nil] at h1 ⊢;omega
theorem CaI.come {f:Nat} (h:CaI N B n t [f] c L) {i:Nat} (hi:i<N) (hno:∀ v,((i:Int),v)∉c.2.2.1) {x:Fr8} (h1:x.1=(i:Int)) (h2:x.2.1.length=B) (h3:x.2.2.2=1) (ht:1<=t) {ch:Chn} (hc:ChI n ch L) :
  CaI N B n t [] (c.1,c.2.1.set f x,c.2.2.1 ++ [((i:Int),(f:Int))],c.2.2.2.1,ch) L:=by
 obtain ⟨hf,hfe,hfm⟩:=h.hol f (by simp);have hfl:f<c.2.1.length:=by rw [h.frl]; exact hf
 have g:∀ k,(c.2.1.set f x).getD k default=if f=k then x else c.2.1.getD k default:=fun k=>G4 hfl
 have hne:∀ {j:Int} {k:Nat},(j,(k:Int))∈c.2.2.1->f≠k:=fun {j k} hjk e=>hfm j (by rw [e]; exact hjk);refine ⟨h.dsz,h.dim,by rw [List.length_set,h.frl],?_,fun p hp=>?_,h.emp,h.end_,by simp,?_,hc,fun k=>?_⟩
 ·dsimp only;rw [List.map_append,List.nodup_append];refine ⟨h.mnd,by simp,fun a ha b hb e=>?_⟩;obtain ⟨p,hp,rfl⟩:=List.mem_map.1 ha;simp only [List.map_cons,List.map_nil,List.mem_singleton] at hb;exact hno p.2 (by rw [<- hb,<- e]; exact hp)
 ·rcases List.mem_append.1 hp with q | q
  ·obtain ⟨j,k,e,okk⟩:=h.mok p q;have hk:f≠k:=hne (j:=(j:Int)) (by rw [<- e]; exact q);refine ⟨j,k,e,okk.hi,okk.hf,?_,?_,?_,okk.emp⟩
   ·dsimp only; rw [g k,iF hk]; exact okk.blk
   ·dsimp only; rw [g k,iF hk]; exact okk.len
   ·dsimp only; rw [g k,iF hk]; exact okk.pin
  ·rw [List.mem_singleton] at q;refine ⟨i,f,q,hi,hf,?_,?_,?_,hfe⟩
   ·dsimp only; rw [g f,iT rfl]; exact h1
   ·dsimp only; rw [g f,iT rfl]; exact h2
   ·dsimp only; rw [g f,iT rfl,h3]; omega
 ·have h1:=h.tot;simp only [lA,List.length_singleton,List.length_nil] at h1 ⊢;omega
 ·dsimp only;rw [g k];constructor
  ·intro hk;obtain ⟨⟨j,hj⟩,hp⟩:=(h.lok k).1 hk;rw [iF (hne hj)];exact ⟨⟨j,by simp [hj]⟩,hp⟩
  ·rintro ⟨⟨j,hj⟩,hp⟩;rcases List.mem_append.1 hj with q | q
   ·rw [iF (hne q)] at hp;exact (h.lok k).2 ⟨⟨j,q⟩,hp⟩
   ·rw [List.mem_singleton,Prod.mk.injEq] at q;have:f=k:=by omega
    rw [iT this,h3] at hp;omega
end
structure Siz (N B n:Nat):Prop where
 hB:1<=B
 hN:1<=N
 hNB:N*B<=4294967296
 hn:1<=n
 h64:n<=64
section
variable {N B n t:Nat} {H:List Nat} {c:Ca} {L:List Nat}
theorem CaI.back (z:Siz N B n) (h:CaI N B n t H c L) {i f:Nat} (ha:((i:Int),(f:Int))∈c.2.2.1) (s:TU):CaI N B n t H ((c.1.1,patch c.1.2.1 (i*B) B (gt c.2.1 (f:Int)).2.1,s),c.2.1.set f ((gt c.2.1 (f:Int)).1,(gt c.2.1 (f:Int)).2.1,false,(gt c.2.1 (f:Int)).2.2.2),c.2.2) L:=by
 have ok:=h.atN ha;have g:gt c.2.1 (f:Int)=c.2.1.getD f default:=Zbg _ _;have h1:=h.setfr ha (x:=((gt c.2.1 (f:Int)).1,(gt c.2.1 (f:Int)).2.1,false,(gt c.2.1 (f:Int)).2.2.2)) (by rw [g]; exact ok.blk) (by rw [g]; exact ok.len) (by rw [g]; exact ok.pin) (Nat.le_refl t) h.chn (fun k=>by
  split
  ·rename_i q;subst q;rw [h.lok k,g];exact ⟨fun e=>e.2,fun e=>⟨⟨_,ha⟩,e⟩⟩
  ·exact Iff.rfl)
 exact h1.dev (Zdk h.dim ok.hi) s
end
section
variable {N B n t:Nat} {c:Ca} {L:List Nat}
structure Few (c:Ca):Prop where
 rd:0<=c.1.2.2.1/\c.1.2.2.1<=100000000
 wr:0<=c.1.2.2.2/\c.1.2.2.2<=100000000
end
section
variable {N B n t:Nat} {c:Ca} {L:List Nat}
end
def upd {α:Type} (g:Nat->α) (i:Nat) (v:α):Nat->α:=fun j=>if j=i then v else g j
theorem Xd {α:Type} (g:Nat->α) (i:Nat) (v:α):upd g i v i=v:=iT rfl
theorem Xc {α:Type} {g:Nat->α} {i j:Nat} {v:α} (h:j≠i:=by omega):upd g i v j=g j:=iF h
structure Fm where
 b:List Int
 d:Bool
 p:Nat
structure MC where
 img:List Int
 rd:Int
 wr:Int
 fr:Nat->Option Fm
 used:Nat
 row:List Nat
def fm (x:Fr8):Fm:=⟨x.2.1,x.2.2.1,x.2.2.2.toNat⟩
def U5 (c:Ca) (i:Nat):Option Fm:=if Y4 c.2.2.1 (i:Int)=true then some (fm (c.2.1.getD (Zp 0 c.2.2.1 (i:Int)).toNat default)) else none
def Uw (c:Ca) (f:Nat):Nat:=(c.2.1.getD f default).1.toNat
def Wt (c:Ca) (L:List Nat):MC:=⟨c.1.2.1,c.1.2.2.1,c.1.2.2.2,U5 c,c.2.2.1.length,L.map (Uw c)⟩
namespace MC
def evict (B:Nat) (m:MC) (q:Nat):MC:=match m.fr q with
 | none=>m
 | some x=>⟨if x.d=true then patch m.img (q*B) B x.b else m.img,m.rd,if x.d=true then m.wr+1 else m.wr,upd m.fr q none,m.used - 1,m.row.erase q⟩
def room (B n:Nat) (m:MC):Option MC:=if m.used<n then some m else match m.row.getLast? with
 | none=>none
 | some q=>some (m.evict B q)
def come (m:MC) (i:Nat) (x:Fm):MC:=⟨m.img,m.rd,m.wr,upd m.fr i (some x),m.used+1,m.row⟩
def put (m:MC) (i:Nat) (x:Fm):MC:=⟨m.img,m.rd,m.wr,upd m.fr i (some x),m.used,m.row⟩
def cut (m:MC) (i:Nat):MC:=⟨m.img,m.rd,m.wr,m.fr,m.used,m.row.erase i⟩
def pin (N B n:Nat) (m:MC) (i:Nat):Int×MC:=
 if N<=i then (4,m) else match m.fr i with
 | some x=>(0,(m.put i ⟨x.b,x.d,x.p+1⟩).cut i)
 | none=>match m.room B n with
  | none=>(7,m)
  | some k=>(0,(⟨k.img,k.rd+1,k.wr,k.fr,k.used,k.row⟩:MC).come i ⟨blk k.img B i,false,1⟩)
def fresh (N B n:Nat) (m:MC) (i:Nat):Int×MC:=
 if N<=i then (4,m) else match m.fr i with
 | some x=>if 0<x.p then (8,m) else (0,(m.put i ⟨List.replicate B 0,true,1⟩).cut i)
 | none=>match m.room B n with
  | none=>(7,m)
  | some k=>(0,k.come i ⟨List.replicate B 0,true,1⟩)
def unpin (m:MC) (i:Nat):Int×MC:=match m.fr i with
 | none=>(8,m)
 | some x=>if x.p=0 then (8,m) else (0,if x.p=1 then ⟨m.img,m.rd,m.wr,upd m.fr i (some ⟨x.b,x.d,0⟩),m.used,i :: m.row⟩ else m.put i ⟨x.b,x.d,x.p - 1⟩)
def write (B:Nat) (m:MC) (i:Nat) (b:TV):Int×MC:=match m.fr i with
 | none=>(8,m)
 | some x=>if x.p=0 then (8,m) else if b.length=B then (0,m.put i ⟨b,true,x.p⟩) else (3,m)
def read (m:MC) (i:Nat):List Int×Int:=match m.fr i with
 | none=>([],8)
 | some x=>if x.p=0 then ([],8) else (x.b,0)
end MC
section
variable {N B n t:Nat} {H:List Nat} {c:Ca} {L:List Nat}
theorem Zcj (h:CaI N B n t H c L) {i f:Nat} (ha:((i:Int),(f:Int))∈c.2.2.1):U5 c i=some (fm (c.2.1.getD f default)):=by
 unfold U5;rw [iT (mhas_iff.2 ⟨_,ha⟩),Vz h.mnd ha,tN]
theorem Zfn {i:Nat} (h:∀ v,((i:Int),v)∉c.2.2.1):U5 c i=none:=by
 unfold U5;rw [iF fun q=>by obtain ⟨v,hv⟩:=mhas_iff.1 q; exact h v hv]
theorem Vf (h:CaI N B n t [] c L) {f:Nat} (hf:f∈L):∃ i:Nat,((i:Int),(f:Int))∈c.2.2.1/\Uw c f=i/\(c.2.1.getD f default).2.2.2=0/\Okf N B n t c i f:=by
 obtain ⟨⟨j,hj⟩,hp⟩:=(h.lok f).1 hf;obtain ⟨i,f',e1,e2,ok⟩:=h.at hj;have:f=f':=by omega
 subst this;refine ⟨i,by rw [<- e1]; exact hj,?_,hp,ok⟩;unfold Uw;rw [ok.blk,tN]
theorem Zea (h:CaI N B n t H c L) {i f:Nat} (ha:((i:Int),(f:Int))∈c.2.2.1):Uw c f=i:=by
 unfold Uw; rw [(h.atN ha).blk,tN]
theorem Zai (h:CaI N B n t H c L) {i f f':Nat} (h1:((i:Int),(f:Int))∈c.2.2.1) (h2:((i:Int),(f':Int))∈c.2.2.1):f=f':=by
 have a1:=Vz (d:=0) h.mnd h1;have a2:=Vz (d:=0) h.mnd h2;omega
theorem Zfh (h:CaI N B n t [] c L) {i f:Nat} (ha:((i:Int),(f:Int))∈c.2.2.1):i∈L.map (Uw c)↔f∈L:=by
 constructor
 ·intro q;obtain ⟨x,hx,e⟩:=List.mem_map.1 q;obtain ⟨j,hj,e2,_⟩:=Vf h hx;have:j=i:=by omega
  subst this;rw [<- Zai h hj ha]; exact hx
 ·intro q;exact List.mem_map.2 ⟨f,q,Zea h ha⟩
theorem Zfm (h:CaI N B n t H c L) {i:Nat} {x:Fm} (hx:U5 c i=some x):i<N/\x.b.length=B/\x.p<=t:=by
 unfold U5 at hx;split at hx
 ·rename_i hm;obtain ⟨v,hv⟩:=mhas_iff.1 hm;obtain ⟨j',f',e1,rfl,ok'⟩:=h.at hv;have e3:i=j':=by omega
  subst e3;rw [Vz h.mnd hv,tN] at hx;injection hx with hx;subst hx;refine ⟨ok'.hi,ok'.len,?_⟩;have:=ok'.pin;unfold fm
  try dsimp only
  omega
 ·cases hx
end
namespace MC
section
variable {N B n i:Nat} {m k:MC} {x:Fm} {b:TV}
theorem pin_out (h:N<=i):m.pin N B n i=(4,m):=by unfold pin; rw [iT h]
theorem pin_hit (h:¬ N<=i) (e:m.fr i=some x):m.pin N B n i=(0,(m.put i ⟨x.b,x.d,x.p+1⟩).cut i):=by unfold pin; rw [iF h,e]
theorem pin_full (h:¬ N<=i) (e:m.fr i=none) (r:m.room B n=none):m.pin N B n i=(7,m):=by unfold pin; rw [iF h,e,r]
theorem pin_miss (h:¬ N<=i) (e:m.fr i=none) (r:m.room B n=some k):m.pin N B n i=(0,(⟨k.img,k.rd+1,k.wr,k.fr,k.used,k.row⟩:MC).come i ⟨blk k.img B i,false,1⟩):=by unfold pin; rw [iF h,e,r]
theorem fresh_out (h:N<=i):m.fresh N B n i=(4,m):=by unfold fresh; rw [iT h]
theorem fresh_pin (h:¬ N<=i) (e:m.fr i=some x) (p:0<x.p):m.fresh N B n i=(8,m):=by unfold fresh; rw [iF h,e]; exact iT p
theorem fresh_hit (h:¬ N<=i) (e:m.fr i=some x) (p:¬ 0<x.p):m.fresh N B n i=(0,(m.put i ⟨List.replicate B 0,true,1⟩).cut i):=by unfold fresh; rw [iF h,e]; exact iF p
theorem fresh_full (h:¬ N<=i) (e:m.fr i=none) (r:m.room B n=none):m.fresh N B n i=(7,m):=by unfold fresh; rw [iF h,e,r]
theorem fresh_miss (h:¬ N<=i) (e:m.fr i=none) (r:m.room B n=some k):m.fresh N B n i=(0,k.come i ⟨List.replicate B 0,true,1⟩):=by unfold fresh; rw [iF h,e,r]
theorem unpin_no (e:m.fr i=none):m.unpin i=(8,m):=by unfold unpin; rw [e]
theorem unpin_out (e:m.fr i=some x) (p:x.p=0):m.unpin i=(8,m):=by unfold unpin; rw [e]; exact iT p
theorem unpin_one (e:m.fr i=some x) (p:x.p=1):m.unpin i=(0,⟨m.img,m.rd,m.wr,upd m.fr i (some ⟨x.b,x.d,0⟩),m.used,i :: m.row⟩):=by unfold unpin; rw [e]; dsimp only; rw [iQ,iT p]
theorem unpin_more (e:m.fr i=some x) (p:x.p≠0) (q:x.p≠1):m.unpin i=(0,m.put i ⟨x.b,x.d,x.p - 1⟩):=by unfold unpin; rw [e]; dsimp only; rw [iF p,iF q]
theorem write_no (e:m.fr i=none):m.write B i b=(8,m):=by unfold write; rw [e]
theorem write_out (e:m.fr i=some x) (p:x.p=0):m.write B i b=(8,m):=by unfold write; rw [e]; exact iT p
theorem write_form (e:m.fr i=some x) (p:x.p≠0) (q:b.length≠B):m.write B i b=(3,m):=by unfold write; rw [e]; dsimp only; rw [iF p,iF q]
theorem write_hit (e:m.fr i=some x) (p:x.p≠0) (q:b.length=B):m.write B i b=(0,m.put i ⟨b,true,x.p⟩):=by unfold write; rw [e]; dsimp only; rw [iF p,iT q]
theorem evict_eq (e:m.fr i=some x):m.evict B i=⟨if x.d=true then patch m.img (i*B) B x.b else m.img,m.rd,if x.d=true then m.wr+1 else m.wr,upd m.fr i none,m.used - 1,m.row.erase i⟩:=by unfold evict; rw [e]
end
end MC
section
variable {N B n t:Nat} {H:List Nat} {c:Ca} {L:List Nat}
end
abbrev Rf:=Int×List UInt8×Bool×Int
abbrev Rc:=(Int×List TQ×Int×Int)×List Rf×Int×List Int
section
variable {l:List Rf} {g:Nat->Option Fm} {i:Nat} {f:Fm}
end
structure MI (N B n t:Nat) (m:MC):Prop where
 dim:m.img.length=N*B
 len:∀ i f,m.fr i=some f->i<N/\f.b.length=B/\f.p<=t
 rnd:m.row.Nodup
 rfr:∀ q,q∈m.row↔∃ f,m.fr q=some f/\f.p=0
 ule:m.used<=n
 rle:m.row.length<=n
theorem Zaa {g:Nat->Nat}:∀ {L:List Nat},L.Nodup->(∀ x∈L,∀ y∈L,g x=g y->x=y)->(L.map g).Nodup
 | [],_,_=>by simp
 | x :: L,nd,h=>by
  rw [List.nodup_cons] at nd;rw [List.map_cons,List.nodup_cons];refine ⟨fun q=>?_,Zaa nd.2 fun a ha b hb=>h a (by simp [ha]) b (by simp [hb])⟩;obtain ⟨y,hy,e⟩:=List.mem_map.1 q;exact nd.1 (by rw [h x (by simp) y (by simp [hy]) e.symm]; exact hy)
theorem CaI.mi {N B n t:Nat} {c:Ca} {L:List Nat} (h:CaI N B n t [] c L):MI N B n t (Wt c L) where
 dim:=h.dim
 len i f hf:=Zfm h hf
 rnd:=Zaa h.chn.nd fun x hx y hy e=>by
  obtain ⟨i,hi,e1,_⟩:=Vf h hx;obtain ⟨j,hj,e2,_⟩:=Vf h hy;have:i=j:=by omega
  subst this;exact Zai h hi hj
 rfr q:=by
  constructor
  ·intro hq;obtain ⟨f,hf,e⟩:=List.mem_map.1 hq;obtain ⟨i,hi,e1,hp,_⟩:=Vf h hf;have:i=q:=by omega
   subst this;exact ⟨_,Zcj h hi,by unfold fm; dsimp only; rw [hp]; rfl⟩
  ·rintro ⟨f,hf,hp⟩;rcases h.get q with ⟨_,g2⟩ | ⟨f',ha,_,_,ok⟩
   ·have:=Zfn g2;rw [show U5 c q=some f from hf] at this; cases this
   ·have h1:=Zcj h ha;rw [show U5 c q=some f from hf] at h1;injection h1 with h1;subst h1;refine (Zfh h ha).2 ((h.lok f').2 ⟨⟨_,ha⟩,?_⟩);have:=ok.pin;unfold fm at hp;dsimp only at hp;omega
 ule:=h.used
 rle:=by
  show (L.map (Uw c)).length<=n;rw [List.length_map];exact h.chn.short
section
variable {N B n t:Nat} {w:Rc} {m:MC} {i:Nat} {f:Fm}
end
section
variable {N B n t:Nat} {w:Rc} {m:MC} {i:Nat} {f:Fm}
end
section
variable {N B n t:Nat} {w:Rc} {m:MC} {i:Nat} {f:Fm}
end
section
variable {N B n t:Nat} {c:Ca} {L:List Nat}
end
section
variable {N B n t:Nat} {c:Ca} {L:List Nat} {w:Rc} {m:MC}
end
def Byt (l:TV):Prop:=∀ x∈l,0<=x/\x<256
theorem Byt.rep (n:Nat):Byt (List.replicate n 0):=fun x hx=>by rw [List.eq_of_mem_replicate hx]; omega
theorem Byt.blk {img:TV} (h:Byt img) (B i:Nat):Byt (blk img B i):=fun x hx=>h x (List.mem_of_mem_drop (List.mem_of_mem_take hx))
theorem Byt.patch {img b:TV} (h:Byt img) (hb:Byt b) (a n:Nat):Byt (patch img a n b):=fun x hx=>by
 unfold SK.patch at hx;rcases List.mem_append.1 hx with hx | hx
 ·rcases List.mem_append.1 hx with hx | hx
  ·exact h x (List.mem_of_mem_take hx)
  ·exact hb x (List.mem_of_mem_take hx)
 ·exact h x (List.mem_of_mem_drop hx)
namespace MC
def cnt (m:MC) (i:Nat):Nat:=match m.fr i with
 | none=>0
 | some x=>x.p
theorem cnt_no {m:MC} {i:Nat} (e:m.fr i=none):m.cnt i=0:=by unfold cnt; rw [e]
theorem cnt_at {m:MC} {i:Nat} {x:Fm} (e:m.fr i=some x):m.cnt i=x.p:=by unfold cnt; rw [e]
structure By (m:MC):Prop where
 img:Byt m.img
 fr:∀ i x,m.fr i=some x->Byt x.b
structure To (a b:Nat) (m m':MC):Prop where
 rd:m.rd<=m'.rd/\m'.rd<=m.rd+a
 wr:m.wr<=m'.wr/\m'.wr<=m.wr+b
 by':By m->By m'
theorem To.refl (m:MC):To 0 0 m m:=⟨⟨Int.le_refl _,by omega⟩,⟨Int.le_refl _,by omega⟩,id⟩
theorem To.le {a b a' b':Nat} {m m':MC} (h:To a b m m') (ha:a<=a') (hb:b<=b'):To a' b' m m':=⟨⟨h.rd.1,by have:=h.rd.2; omega⟩,⟨h.wr.1,by have:=h.wr.2; omega⟩,h.by'⟩
theorem To.trans {a b a' b':Nat} {m m' m'':MC} (h:To a b m m') (g:To a' b' m' m''):To (a+a') (b+b') m m'':=⟨⟨Int.le_trans h.rd.1 g.rd.1,by have:=h.rd.2; have:=g.rd.2; omega⟩,⟨Int.le_trans h.wr.1 g.wr.1,by have:=h.wr.2; have:=g.wr.2; omega⟩,fun y=>g.by' (h.by' y)⟩
end MC
section
variable {N B n t:Nat} {m k:MC} {i:Nat} {x:Fm}
theorem Pm.lay {img:TV} {rd wr:Int} {fr:Nat->Option Fm} {u u':Nat} {row row':List Nat} (hx:Byt x.b):(MC.By ⟨img,rd,wr,fr,u,row⟩->MC.By ⟨img,rd,wr,upd fr i (some x),u',row'⟩)/\∀ j,(⟨img,rd,wr,upd fr i (some x),u',row'⟩:MC).cnt j=if j=i then x.p else (⟨img,rd,wr,fr,u,row⟩:MC).cnt j:=by
 refine ⟨fun h=>⟨h.img,fun j y hj=>?_⟩,fun j=>?_⟩
 ·have hj':upd fr i (some x) j=some y:=hj;by_cases q:j=i
  ·subst q; rw [Xd] at hj'; injection hj' with hj'; subst hj'; exact hx
  ·rw [Xc q] at hj'; exact h.fr j y hj'
 ·by_cases q:j=i
  ·subst q; rw [iT rfl]; exact MC.cnt_at (Xd _ _ _)
  ·rw [iF q]; unfold MC.cnt; dsimp only; rw [Xc q]
theorem Pm.evict (e:m.fr i=some x) (p:x.p=0):MC.To 0 1 m (m.evict B i)/\(∀ j,(m.evict B i).cnt j=m.cnt j)/\∀ j,m.fr j=none->(m.evict B i).fr j=none:=by
 rw [MC.evict_eq e];refine ⟨⟨⟨Int.le_refl _,by dsimp only; omega⟩,by dsimp only; split <;> omega,fun h=>⟨?_,fun j y hj=>?_⟩⟩,fun j=>?_,fun j hj=>?_⟩
 ·dsimp only;split
  ·exact h.img.patch (h.fr i x e) _ _
  ·exact h.img
 ·have hj':upd m.fr i none j=some y:=hj;by_cases q:j=i
  ·subst q; rw [Xd] at hj'; cases hj'
  ·rw [Xc q] at hj'; exact h.fr j y hj'
 ·by_cases q:j=i
  ·subst q; rw [MC.cnt_at e,MC.cnt_no (Xd _ _ _),p]
  ·unfold MC.cnt; dsimp only; rw [Xc q]
 ·show upd m.fr i none j=none;by_cases q:j=i
  ·subst q; exact Xd _ _ _
  ·rw [Xc q]; exact hj
theorem Pm.room (mi:MI N B n t m) (h:m.room B n=some k):MC.To 0 1 m k/\(∀ j,k.cnt j=m.cnt j)/\∀ j,m.fr j=none->k.fr j=none:=by
 unfold MC.room at h;split at h
 ·injection h with h; subst h; exact ⟨(MC.To.refl _).le (by omega) (by omega),fun _=>rfl,fun _ h=>h⟩
 ·split at h
  ·cases h
  ·rename_i q hq;injection h with h; subst h;obtain ⟨x,e,p⟩:=(mi.rfr q).1 (List.mem_of_getLast? hq);exact Pm.evict e p
theorem Pm.pin (mi:MI N B n t m) (hy:m.By) (i:Nat):MC.To 1 1 m (m.pin N B n i).2/\(1<=m.cnt i->MC.To 0 0 m (m.pin N B n i).2)/\∀ j,(m.pin N B n i).2.cnt j=if (m.pin N B n i).1=0/\j=i then m.cnt i+1 else m.cnt j:=by
 have r0:=(MC.To.refl m).le (Nat.zero_le 1) (Nat.zero_le 1);by_cases h:N<=i
 ·rw [MC.pin_out h]; exact ⟨r0,fun _=>MC.To.refl m,fun _=>by rw [vS]⟩
 cases e:m.fr i with
 | some x=>
  obtain ⟨h1,h2⟩:=Pm.lay (img:=m.img) (rd:=m.rd) (wr:=m.wr) (fr:=m.fr) (u:=m.used) (row:=m.row) (i:=i) (x:=⟨x.b,x.d,x.p+1⟩) (u':=m.used) (row':=m.row.erase i) (hy.fr i x e);have t0:MC.To 0 0 m (m.pin N B n i).2:=by rw [MC.pin_hit h e]; exact ⟨⟨Int.le_refl _,by show m.rd<=_; omega⟩,⟨Int.le_refl _,by show m.wr<=_; omega⟩,h1⟩
  refine ⟨t0.le (by omega) (by omega),fun _=>t0,fun j=>?_⟩;rw [MC.pin_hit h e,show ((m.put i ⟨x.b,x.d,x.p+1⟩).cut i).cnt j=_ from h2 j];by_cases q:j=i
  ·rw [iT q,iT ⟨rfl,q⟩,MC.cnt_at e]
  ·rw [iF q,iF (fun z=>q z.2)]
 | none=>
  cases r:m.room B n with
  | none=>rw [MC.pin_full h e r]; exact ⟨r0,fun _=>MC.To.refl m,fun _=>by rw [vS]⟩
  | some k=>
   obtain ⟨c1,c2,c3⟩:=Pm.room mi r;have hk:=c1.by' hy;obtain ⟨h1,h2⟩:=Pm.lay (img:=k.img) (rd:=k.rd+1) (wr:=k.wr) (fr:=k.fr) (u:=k.used) (row:=k.row) (i:=i) (x:=⟨blk k.img B i,false,1⟩) (u':=k.used+1) (row':=k.row) (hk.img.blk B i);rw [MC.pin_miss h e r];refine ⟨⟨by show m.rd<=k.rd+1/\k.rd+1<=_; have:=c1.rd; omega,by show m.wr<=k.wr/\k.wr<=_; have:=c1.wr; omega,fun _=>h1 ⟨hk.img,hk.fr⟩⟩,fun c=>by rw [MC.cnt_no e] at c; omega,fun j=>?_⟩;rw [show ((⟨k.img,k.rd+1,k.wr,k.fr,k.used,k.row⟩:MC).come i ⟨blk k.img B i,false,1⟩).cnt j=_ from h2 j];by_cases q:j=i
   ·rw [iT q,iT ⟨rfl,q⟩,MC.cnt_no e]
   ·rw [iF q,iF (fun z=>q z.2)]; exact c2 j
theorem Pm.fresh (mi:MI N B n t m) (hy:m.By) (i:Nat):MC.To 0 1 m (m.fresh N B n i).2/\∀ j,(m.fresh N B n i).2.cnt j=if (m.fresh N B n i).1=0/\j=i then m.cnt i+1 else m.cnt j:=by
 have r0:=(MC.To.refl m).le (Nat.zero_le 0) (Nat.zero_le 1);by_cases h:N<=i
 ·rw [MC.fresh_out h]; exact ⟨r0,fun _=>by rw [vS]⟩
 cases e:m.fr i with
 | some x=>
  by_cases p:0<x.p
  ·rw [MC.fresh_pin h e p]; exact ⟨r0,fun _=>by rw [vS]⟩
  obtain ⟨h1,h2⟩:=Pm.lay (img:=m.img) (rd:=m.rd) (wr:=m.wr) (fr:=m.fr) (u:=m.used) (row:=m.row) (i:=i) (x:=⟨List.replicate B 0,true,1⟩) (u':=m.used) (row':=m.row.erase i) (Byt.rep B);rw [MC.fresh_hit h e p];refine ⟨⟨⟨Int.le_refl _,by show m.rd<=_; omega⟩,⟨Int.le_refl _,by show m.wr<=_; omega⟩,h1⟩,fun j=>?_⟩;rw [show ((m.put i ⟨List.replicate B 0,true,1⟩).cut i).cnt j=_ from h2 j];by_cases q:j=i
  ·rw [iT q,iT ⟨rfl,q⟩,MC.cnt_at e]; dsimp only; omega
  ·rw [iF q,iF (fun z=>q z.2)]
 | none=>
  cases r:m.room B n with
  | none=>rw [MC.fresh_full h e r]; exact ⟨r0,fun _=>by rw [vS]⟩
  | some k=>
   obtain ⟨c1,c2,c3⟩:=Pm.room mi r;have hk:=c1.by' hy;obtain ⟨h1,h2⟩:=Pm.lay (img:=k.img) (rd:=k.rd) (wr:=k.wr) (fr:=k.fr) (u:=k.used) (row:=k.row) (i:=i) (x:=⟨List.replicate B 0,true,1⟩) (u':=k.used+1) (row':=k.row) (Byt.rep B);rw [MC.fresh_miss h e r];refine ⟨⟨c1.rd,c1.wr,fun _=>h1 ⟨hk.img,hk.fr⟩⟩,fun j=>?_⟩;rw [show (k.come i ⟨List.replicate B 0,true,1⟩).cnt j=_ from h2 j];by_cases q:j=i
   ·rw [iT q,iT ⟨rfl,q⟩,MC.cnt_no e]
   ·rw [iF q,iF (fun z=>q z.2)]; exact c2 j
theorem Pm.unpin (hy:m.By) (i:Nat):MC.To 0 0 m (m.unpin i).2/\∀ j,(m.unpin i).2.cnt j=if j=i then m.cnt i - 1 else m.cnt j:=by
 have same:(∀ j,m.cnt j=if j=i then m.cnt i - 1 else m.cnt j)↔m.cnt i=0:=⟨fun h=>by have:=h i; rw [iT rfl] at this; omega,fun h j=>by split; rename_i q; subst q; omega; rfl⟩
 cases e:m.fr i with
 | none=>rw [MC.unpin_no e]; exact ⟨MC.To.refl m,same.2 (MC.cnt_no e)⟩
 | some x=>
  have key:∀(p u:Nat) (row:List Nat),p=x.p - 1->MC.To 0 0 m (⟨m.img,m.rd,m.wr,upd m.fr i (some ⟨x.b,x.d,p⟩),u,row⟩:MC)/\∀ j,(⟨m.img,m.rd,m.wr,upd m.fr i (some ⟨x.b,x.d,p⟩),u,row⟩:MC).cnt j=if j=i then m.cnt i - 1 else m.cnt j:=fun p u row hp=>by
   obtain ⟨h1,h2⟩:=Pm.lay (img:=m.img) (rd:=m.rd) (wr:=m.wr) (fr:=m.fr) (u:=m.used) (row:=m.row) (i:=i) (x:=⟨x.b,x.d,p⟩) (u':=u) (row':=row) (hy.fr i x e);refine ⟨⟨⟨Int.le_refl _,by show m.rd<=_; omega⟩,⟨Int.le_refl _,by show m.wr<=_; omega⟩,h1⟩,fun j=>?_⟩;rw [h2 j,MC.cnt_at e];split
   ·exact hp
   ·rfl
  by_cases p:x.p=0
  ·rw [MC.unpin_out e p]; exact ⟨MC.To.refl m,same.2 (by rw [MC.cnt_at e]; exact p)⟩
  ·by_cases p1:x.p=1
   ·rw [MC.unpin_one e p1]; exact key _ _ _ (by omega)
   ·rw [MC.unpin_more e p p1]; exact key _ _ _ rfl
theorem Pm.write (i:Nat) {b:TV} (hb:Byt b):MC.To 0 0 m (m.write B i b).2/\∀ j,(m.write B i b).2.cnt j=m.cnt j:=by
 cases e:m.fr i with
 | none=>rw [MC.write_no e]; exact ⟨MC.To.refl m,fun _=>rfl⟩
 | some x=>
  by_cases p:x.p=0
  ·rw [MC.write_out e p]; exact ⟨MC.To.refl m,fun _=>rfl⟩
  ·by_cases q:b.length=B
   ·rw [MC.write_hit e p q];obtain ⟨h1,h2⟩:=Pm.lay (img:=m.img) (rd:=m.rd) (wr:=m.wr) (fr:=m.fr) (u:=m.used) (row:=m.row) (i:=i) (x:=⟨b,true,x.p⟩) (u':=m.used) (row':=m.row) hb;refine ⟨⟨⟨Int.le_refl _,by show m.rd<=_; omega⟩,⟨Int.le_refl _,by show m.wr<=_; omega⟩,h1⟩,fun j=>?_⟩;rw [show (m.put i ⟨b,true,x.p⟩).cnt j=_ from h2 j];split
    ·rename_i q; subst q; exact (MC.cnt_at e).symm
    ·rfl
   ·rw [MC.write_form e p q]; exact ⟨MC.To.refl m,fun _=>rfl⟩
end
abbrev Bt:=Int×Int×List Int
theorem Zfp:uH.bits=64:=rfl
theorem wrB {m:Nat} (h:m<18446744073709551616):uH.wrap (m:Int)=(m:Int):=by
 have:uH.wrap (m:Int)=((m % 18446744073709551616:Nat):Int):=by simp [IntKind.wrap,IntKind.bits,IntKind.signed]
 rw [this,Nat.mod_eq_of_lt h]
theorem ofB {x:Nat} (h:x<18446744073709551616):(ofInt uH.bits (x:Int)).toNat=x:=by
 rw [BitVec.ofInt_natCast,BitVec.toNat_ofNat,Zfp];exact Nat.mod_eq_of_lt h
theorem Zg4 (v:BitVec uH.bits):v.toNat<18446744073709551616:=v.isLt
theorem anB {x y:Nat} (hx:x<18446744073709551616) (hy:y<18446744073709551616):(ofInt uH.bits (x:Int) &&& ofInt uH.bits (y:Int)).toNat=x &&& y:=by rw [BitVec.toNat_and,ofB hx,ofB hy]
theorem orB {x y:Nat} (hx:x<18446744073709551616) (hy:y<18446744073709551616):(ofInt uH.bits (x:Int) ||| ofInt uH.bits (y:Int)).toNat=x ||| y:=by rw [BitVec.toNat_or,ofB hx,ofB hy]
theorem Zfl {b:Nat} (h:b<64):uH.wrap ((1:Int)*2 ^ (min b 64))=((2 ^ b:Nat):Int):=by
 have hb:min b 64=b:=by omega
 have hl:2 ^ b<18446744073709551616:=Nat.lt_of_lt_of_le (Nat.pow_lt_pow_right (by decide) h) (by decide);rw [hb,Int.one_mul,<- wrB hl];congr 1
theorem Zgn {b:Nat} (h:b<64):2 ^ b<18446744073709551616:=Nat.lt_of_lt_of_le (Nat.pow_lt_pow_right (by decide) h) (by decide)
structure BR (N:Nat) (p:Bt) (h:Nat->Bool):Prop where
 n:p.1=(N:Int)
 N1:1<=N/\N<=65536
 cnt:p.2.1=(((List.range N).filter h).length:Int)
 len:p.2.2.length=(N+63) / 64
 bit:∀ w,w<p.2.2.length->∃ x:Nat,p.2.2.getD w default=(x:Int)/\x<18446744073709551616/\∀ b,b<64->x.testBit b=(decide (64*w+b<N) && h (64*w+b))
section
variable {N:Nat} {p:Bt} {h:Nat->Bool}
theorem Ze7 {i:Nat} (hi:i<4294967296):w64 (Int.tdiv (i:Int) 64)=((i / 64:Nat):Int)/\Int.tmod (i:Int) 64=((i % 64:Nat):Int):=by
 constructor
 ·rw [show Int.tdiv (i:Int) 64=((i / 64:Nat):Int) from rfl,wI2]
 ·rfl
theorem BR.there (b:BR N p h) {i:Nat}:Q10.f p (i:Int)=some (if N<=i then 4 else 0):=by
 have hN:=b.N1;unfold Q10.f Q7.f;rw [bS,b.n,iN,iN];by_cases q:N<=i
 ·rw [iP,iT q]
 ·rw [iN,iF q]
theorem BR.has (b:BR N p h) {i:Nat} (hi:i<4294967296):Q6.f p (i:Int)=some (decide (i<N) && h i):=by
 have hN:=b.N1;unfold Q6.f;rw [b.there,bS];by_cases q:N<=i
 ·rw [iT q,iF (by decide)];have:¬ i<N:=by omega
  simp [this]
 ·obtain ⟨e1,e2⟩:=Ze7 hi;have hl:=b.len;have hw:i / 64<p.2.2.length:=by omega
  obtain ⟨x,hx,hx2,hx3⟩:=b.bit _ hw;have hm:i % 64<64:=Nat.mod_lt _ (by decide);rw [iF q,iT (by decide),e1,e2,iO,iO,Zbg,hx,tN,show min (i % 64) 64=i % 64 by omega];have e3:Int.fdiv (x:Int) (2 ^ (i % 64))=((x / 2 ^ (i % 64):Nat):Int):=by
   rw [Int.fdiv_eq_ediv_of_nonneg _ (Int.pow_nonneg (by decide)),Int.natCast_ediv,Int.natCast_pow]; rfl
  have hlt:x / 2 ^ (i % 64)<18446744073709551616:=Nat.lt_of_le_of_lt (Nat.div_le_self _ _) hx2;rw [e3,show (ofInt uH.bits ((x / 2 ^ (i % 64):Nat):Int) &&& ofInt uH.bits 1).toNat=x / 2 ^ (i % 64) &&& 1 from anB (y:=1) hlt (by decide),Nat.and_one_is_mod,wrB (by omega)];have h1:=hx3 _ hm;rw [show 64*(i / 64)+i % 64=i by omega] at h1;rw [<- h1,Nat.testBit_eq_decide_div_mod_eq];congr 1;exact decide_eq_decide.2 (by omega)
theorem Zc1 {N i:Nat} (hi:i<N) (hn:h i=false):((List.range N).filter (upd h i true)).length=((List.range N).filter h).length+1:=by
 have key:∀ l:List Nat,l.Nodup->i∈l->(l.filter (upd h i true)).length=(l.filter h).length+1:=by
  intro l
  induction l with
  | nil=>intro _ hx; simp at hx
  | cons y l ih=>
   intro nd hx;rw [List.nodup_cons] at nd;by_cases q:y=i
   ·subst q;have hl:l.filter (upd h y true)=l.filter h:=List.filter_congr fun z hz=>Xc (fun e=>nd.1 (by rw [<- e]; exact hz));rw [List.filter_cons_of_pos (by rw [Xd]),List.filter_cons_of_neg (by simp [hn]),hl,List.length_cons]
   ·have hx':i∈l:=by
     rcases List.mem_cons.1 hx with e | e
     ·exact absurd e.symm q
     ·exact e
    have:=ih nd.2 hx';by_cases hy:h y=true
    ·rw [List.filter_cons_of_pos (by rw [Xc q]; exact hy),List.filter_cons_of_pos hy,List.length_cons,List.length_cons,this]
    ·rw [List.filter_cons_of_neg (by rw [Xc q]; exact hy),List.filter_cons_of_neg hy,this]
 exact key _ List.nodup_range (List.mem_range.2 hi)
theorem BR.word (b:BR N p h) {i:Nat} (hi:i<N) {v:Bool} {y:Nat} (hy:y<18446744073709551616) (ht:∀ x:Nat,p.2.2.getD (i / 64) default=(x:Int)->∀ j,j<64->y.testBit j=if j=i % 64 then v else x.testBit j) {cnt:Int} (hc:cnt=(((List.range N).filter (upd h i v)).length:Int)) :
  BR N (p.1,cnt,p.2.2.set (i / 64) (y:Int)) (upd h i v):=by
 have hl:=b.len;have hN:=b.N1;have hw:i / 64<p.2.2.length:=by omega
 refine ⟨b.n,hN,hc,by rw [List.length_set]; exact hl,fun w hw2=>?_⟩;rw [List.length_set] at hw2;dsimp only;rw [G4 hw];obtain ⟨x,hx,hx2,hx3⟩:=b.bit w hw2;by_cases q:i / 64=w
 ·subst q;refine ⟨y,iT rfl,hy,fun j hj=>?_⟩;rw [ht x hx j hj];by_cases qj:j=i % 64
  ·subst qj;rw [iT rfl,show 64*(i / 64)+i % 64=i by omega,Xd];simp [hi]
  ·rw [iF qj,hx3 j hj,Xc]
 ·refine ⟨x,by rw [iF q]; exact hx,hx2,fun j hj=>?_⟩;rw [hx3 j hj,Xc]
theorem Zfw (b:BR N p h):((List.range N).filter h).length<=N:=by
 have:=List.length_filter_le h (List.range N);rw [List.length_range] at this;exact this
theorem BR.set (b:BR N p h) {i:Nat} (hi:i<4294967296):∃ p',Q8.f p (i:Int)=some (if N<=i then 4 else if h i=true then 10 else 0,p')/\BR N p' (if N<=i then h else upd h i true):=by
 have hN:=b.N1;unfold Q8.f;rw [b.there,bS];by_cases q:N<=i
 ·rw [iT q,iT (by decide),iT q,iT q];exact ⟨p,rfl,b⟩
 ·rw [iF q,iF (by decide),b.has hi,bS,iF q,iF q];have hi':i<N:=by omega
  by_cases hh:h i=true
  ·rw [iT (by simp [hi',hh]),iT hh];refine ⟨p,rfl,?_⟩;rw [show upd h i true=h from funext fun j=>by
    by_cases qj:j=i
    ·subst qj; rw [Xd,hh]
    ·rw [Xc qj]]
   exact b
  ·obtain ⟨e1,e2⟩:=Ze7 hi;have hl:=b.len;have hw:i / 64<p.2.2.length:=by omega
   obtain ⟨x,hx,hx2,hx3⟩:=b.bit _ hw;have hm:i % 64<64:=Nat.mod_lt _ (by decide);have hp:=Zgn hm;have hcl:=Zfw b;have hcn:=b.cnt;rw [iF (by simp [hh]),iF hh,e1,e2,iO,iO,Zbg,hx,tN,tN,Zfl hm,orB hx2 hp];have hor:x ||| 2 ^ (i % 64)<18446744073709551616:=by rw [<- orB hx2 hp]; exact Zg4 _
   rw [wrB hor];have hf:h i=false:=by simpa using hh
   refine ⟨_,rfl,b.word hi' hor (fun x' hx' j hj=>?_) ?_⟩
   ·have:x'=x:=by rw [hx] at hx'; omega
    subst this;rw [Nat.testBit_or,Nat.testBit_two_pow];by_cases qj:j=i % 64
    ·subst qj; simp
    ·rw [iF qj];have:¬ i % 64=j:=fun e=>qj e.symm;simp [this]
   ·rw [Zc1 hi' hf,hcn,wI2]; omega
def seekB (N:Nat) (h:Nat->Bool) (turn:Bool) (i:Nat):Bool:=if turn=true then !(decide (i<N) && h i) else decide (i<N) && h i
end
namespace MC
def cont (B:Nat) (m:MC) (i:Nat):List Int:=match m.fr i with
 | none=>blk m.img B i
 | some x=>x.b
theorem cont_no {B:Nat} {m:MC} {i:Nat} (e:m.fr i=none):m.cont B i=blk m.img B i:=by unfold cont; rw [e]
theorem cont_at {B:Nat} {m:MC} {i:Nat} {x:Fm} (e:m.fr i=some x):m.cont B i=x.b:=by unfold cont; rw [e]
def Cl (B:Nat) (m:MC):Prop:=∀ i x,m.fr i=some x->x.d=false->x.b=blk m.img B i
end MC
section
variable {N B n t:Nat} {m k:MC} {i:Nat} {x:Fm}
theorem Cl.evict (mi:MI N B n t m) (cl:m.Cl B) (q:Nat):(m.evict B q).Cl B/\(∀ j,j<N->(m.evict B q).cont B j=m.cont B j)/\((m.evict B q).fr q=none)/\∀ j,m.fr j=none->(m.evict B q).fr j=none:=by
 cases e:m.fr q with
 | none=>
  have:m.evict B q=m:=by unfold MC.evict; rw [e]
  rw [this];exact ⟨cl,fun _ _=>rfl,e,fun _ h=>h⟩
 | some x=>
  obtain ⟨hq,hb,_⟩:=mi.len q x e;rw [MC.evict_eq e];refine ⟨fun j y hj hd=>?_,fun j hj=>?_,Xd _ _ _,fun j hj=>?_⟩
  ·dsimp only at hj ⊢;by_cases qj:j=q
   ·subst qj; rw [Xd] at hj; cases hj
   ·rw [Xc qj] at hj;have h1:=cl j y hj hd;split
    ·rw [Ju mi.dim hq hb j (mi.len j y hj).1,iF qj]; exact h1
    ·exact h1
  ·by_cases qj:j=q
   ·subst qj;rw [MC.cont_at e,MC.cont_no (Xd _ _ _)];dsimp only;split
    ·rw [Ju mi.dim hq hb j hq,iT rfl]
    ·rename_i hd;exact (cl j x e (by simpa using hd)).symm
   ·cases ej:m.fr j with
    | none=>
     rw [MC.cont_no ej,MC.cont_no (by show upd m.fr q none j=none; rw [Xc qj]; exact ej)];dsimp only;split
     ·rw [Ju mi.dim hq hb j hj,iF qj]
     ·rfl
    | some y=>rw [MC.cont_at ej,MC.cont_at (show upd m.fr q none j=some y by rw [Xc qj]; exact ej)]
  ·show upd m.fr q none j=none;by_cases qj:j=q
   ·subst qj; exact Xd _ _ _
   ·rw [Xc qj]; exact hj
theorem Cl.room (mi:MI N B n t m) (cl:m.Cl B) (h:m.room B n=some k):k.Cl B/\(∀ j,j<N->k.cont B j=m.cont B j)/\∀ j,m.fr j=none->k.fr j=none:=by
 unfold MC.room at h;split at h
 ·injection h with h; subst h; exact ⟨cl,fun _ _=>rfl,fun _ h=>h⟩
 ·split at h
  ·cases h
  ·rename_i q _;injection h with h; subst h;obtain ⟨h1,h2,_,h3⟩:=Cl.evict mi cl q;exact ⟨h1,h2,h3⟩
theorem Cl.lay {img:TV} {rd wr:Int} {fr:Nat->Option Fm} {u u':Nat} {row row':List Nat} (cl:(⟨img,rd,wr,fr,u,row⟩:MC).Cl B) {x:Fm} (hx:x.d=false->x.b=blk img B i) {rd':Int}:(⟨img,rd',wr,upd fr i (some x),u',row'⟩:MC).Cl B/\∀ j,(⟨img,rd',wr,upd fr i (some x),u',row'⟩:MC).cont B j=if j=i then x.b else (⟨img,rd,wr,fr,u,row⟩:MC).cont B j:=by
 refine ⟨fun j y hj hd=>?_,fun j=>?_⟩
 ·have hj':upd fr i (some x) j=some y:=hj;by_cases q:j=i
  ·subst q; rw [Xd] at hj'; injection hj' with hj'; subst hj'; exact hx hd
  ·rw [Xc q] at hj'; exact cl j y hj' hd
 ·by_cases q:j=i
  ·subst q; rw [iT rfl]; exact MC.cont_at (Xd _ _ _)
  ·rw [iF q]; unfold MC.cont; dsimp only; rw [Xc q]
theorem Cl.pin (mi:MI N B n t m) (cl:m.Cl B) (i:Nat):(m.pin N B n i).2.Cl B/\∀ j,j<N->(m.pin N B n i).2.cont B j=m.cont B j:=by
 by_cases h:N<=i
 ·rw [MC.pin_out h]; exact ⟨cl,fun _ _=>rfl⟩
 cases e:m.fr i with
 | some x=>
  rw [MC.pin_hit h e];obtain ⟨h1,h2⟩:=Cl.lay (i:=i) (x:=⟨x.b,x.d,x.p+1⟩) (u':=m.used) (row':=m.row.erase i) (rd':=m.rd) (cl:(⟨m.img,m.rd,m.wr,m.fr,m.used,m.row⟩:MC).Cl B) (fun hd=>cl i x e hd);refine ⟨h1,fun j hj=>?_⟩;rw [show (((m.put i ⟨x.b,x.d,x.p+1⟩).cut i).cont B j)=_ from h2 j];split
  ·rename_i q; subst q; exact (MC.cont_at e).symm
  ·rfl
 | none=>
  cases r:m.room B n with
  | none=>rw [MC.pin_full h e r]; exact ⟨cl,fun _ _=>rfl⟩
  | some k=>
   obtain ⟨c1,c2,c3⟩:=Cl.room mi cl r;rw [MC.pin_miss h e r];obtain ⟨h1,h2⟩:=Cl.lay (i:=i) (x:=⟨blk k.img B i,false,1⟩) (u':=k.used+1) (row':=k.row) (rd':=k.rd+1) (c1:(⟨k.img,k.rd,k.wr,k.fr,k.used,k.row⟩:MC).Cl B) (fun _=>rfl);refine ⟨h1,fun j hj=>?_⟩;rw [show ((⟨k.img,k.rd+1,k.wr,k.fr,k.used,k.row⟩:MC).come i ⟨blk k.img B i,false,1⟩).cont B j=_ from h2 j];split
   ·rename_i q; subst q; rw [<- c2 j hj]; exact (MC.cont_no (c3 j e)).symm
   ·exact c2 j hj
theorem Cl.fresh (mi:MI N B n t m) (cl:m.Cl B) (i:Nat):(m.fresh N B n i).2.Cl B/\((m.fresh N B n i).1=0->i<N)/\∀ j,j<N->(m.fresh N B n i).2.cont B j=if (m.fresh N B n i).1=0/\j=i then List.replicate B 0 else m.cont B j:=by
 by_cases h:N<=i
 ·rw [MC.fresh_out h]; exact ⟨cl,fun e=>by simp at e,fun _ _=>by rw [vS]⟩
 cases e:m.fr i with
 | some x=>
  by_cases p:0<x.p
  ·rw [MC.fresh_pin h e p]; exact ⟨cl,fun e=>by simp at e,fun _ _=>by rw [vS]⟩
  ·rw [MC.fresh_hit h e p];obtain ⟨h1,h2⟩:=Cl.lay (i:=i) (x:=⟨List.replicate B 0,true,1⟩) (u':=m.used) (row':=m.row.erase i) (rd':=m.rd) (cl:(⟨m.img,m.rd,m.wr,m.fr,m.used,m.row⟩:MC).Cl B) (fun hd=>by cases hd);refine ⟨h1,fun _=>by omega,fun j hj=>?_⟩;rw [show (((m.put i ⟨List.replicate B 0,true,1⟩).cut i).cont B j)=_ from h2 j];by_cases q:j=i
   ·rw [iT q,iT ⟨rfl,q⟩]
   ·rw [iF q,iF (fun z=>q z.2)]
 | none=>
  cases r:m.room B n with
  | none=>rw [MC.fresh_full h e r]; exact ⟨cl,fun e=>by simp at e,fun _ _=>by rw [vS]⟩
  | some k=>
   obtain ⟨c1,c2,c3⟩:=Cl.room mi cl r;rw [MC.fresh_miss h e r];obtain ⟨h1,h2⟩:=Cl.lay (i:=i) (x:=⟨List.replicate B 0,true,1⟩) (u':=k.used+1) (row':=k.row) (rd':=k.rd) (c1:(⟨k.img,k.rd,k.wr,k.fr,k.used,k.row⟩:MC).Cl B) (fun hd=>by cases hd);refine ⟨h1,fun _=>by omega,fun j hj=>?_⟩;rw [show (k.come i ⟨List.replicate B 0,true,1⟩).cont B j=_ from h2 j];by_cases q:j=i
   ·rw [iT q,iT ⟨rfl,q⟩]
   ·rw [iF q,iF (fun z=>q z.2)]; exact c2 j hj
theorem Cl.unpin (cl:m.Cl B) (i:Nat):(m.unpin i).2.Cl B/\∀ j,(m.unpin i).2.cont B j=m.cont B j:=by
 cases e:m.fr i with
 | none=>rw [MC.unpin_no e]; exact ⟨cl,fun _=>rfl⟩
 | some x=>
  have key:∀(p u:Nat) (row:List Nat),(⟨m.img,m.rd,m.wr,upd m.fr i (some ⟨x.b,x.d,p⟩),u,row⟩:MC).Cl B/\∀ j,(⟨m.img,m.rd,m.wr,upd m.fr i (some ⟨x.b,x.d,p⟩),u,row⟩:MC).cont B j=m.cont B j:=fun p u row=>by
   obtain ⟨h1,h2⟩:=Cl.lay (i:=i) (x:=⟨x.b,x.d,p⟩) (u':=u) (row':=row) (rd':=m.rd) (cl:(⟨m.img,m.rd,m.wr,m.fr,m.used,m.row⟩:MC).Cl B) (fun hd=>cl i x e hd);refine ⟨h1,fun j=>?_⟩;rw [h2 j];split
   ·rename_i q; subst q; exact (MC.cont_at e).symm
   ·rfl
  by_cases p:x.p=0
  ·rw [MC.unpin_out e p]; exact ⟨cl,fun _=>rfl⟩
  ·by_cases p1:x.p=1
   ·rw [MC.unpin_one e p1]; exact key _ _ _
   ·rw [MC.unpin_more e p p1]; exact key _ _ _
theorem Cl.write (mi:MI N B n t m) (cl:m.Cl B) (i:Nat) (b:TV):(m.write B i b).2.Cl B/\((m.write B i b).1=0->i<N)/\∀ j,(m.write B i b).2.cont B j=if (m.write B i b).1=0/\j=i then b else m.cont B j:=by
 cases e:m.fr i with
 | none=>rw [MC.write_no e]; exact ⟨cl,fun e=>by simp at e,fun _=>by rw [vS]⟩
 | some x=>
  by_cases p:x.p=0
  ·rw [MC.write_out e p]; exact ⟨cl,fun e=>by simp at e,fun _=>by rw [vS]⟩
  ·by_cases q:b.length=B
   ·rw [MC.write_hit e p q];obtain ⟨h1,h2⟩:=Cl.lay (i:=i) (x:=⟨b,true,x.p⟩) (u':=m.used) (row':=m.row) (rd':=m.rd) (cl:(⟨m.img,m.rd,m.wr,m.fr,m.used,m.row⟩:MC).Cl B) (fun hd=>by cases hd);refine ⟨h1,fun _=>(mi.len i x e).1,fun j=>?_⟩;rw [show (m.put i ⟨b,true,x.p⟩).cont B j=_ from h2 j];by_cases q:j=i
    ·rw [iT q,iT ⟨rfl,q⟩]
    ·rw [iF q,iF (fun z=>q z.2)]
   ·rw [MC.write_form e p q]; exact ⟨cl,fun e=>by simp at e,fun _=>by rw [vS]⟩
end
abbrev Shf:=Cfg×Ca×Bt×Int
section
variable {c:Cfg} {N B n t q:Nat} {s:Shf} {L:List Nat}
structure EncN (nd:Nd):Prop where
 sm:SmallN nd
 kd:∀ x∈nd.2.1,0<=x/\x<4294967296
end
structure Geo (c:Cfg) (N B n:Nat):Prop where
 ok:okB c=true
 z:Siz N B n
 n8:8<=n
 N5:5<=N/\N<=65536
 hB:B<=65536
 eN:c.1=(N:Int)
 eB:c.2.1=(B:Int)
 en:c.2.2.1=(n:Int)
structure ShK (c:Cfg) (N B n t:Nat) (s:Shf) (L:List Nat) (q:Nat) (K:Nat->List Int) (h:Nat->Bool):Prop where
 cfg:s.1=c
 ca:CaI N B n t [] s.2.1 L
 by':(Wt s.2.1 L).By
 cl:(Wt s.2.1 L).Cl B
 ct:∀ j,j<N->(Wt s.2.1 L).cont B j=K j
 bits:BR N s.2.2.1 h
 h0:h 0=true
 kp:s.2.2.2=(q:Int)
 qN:q<N
 pin:∀ j,(Wt s.2.1 L).cnt j=if j=q/\q≠0 then 1 else 0
 rd:0<=s.2.1.1.2.2.1/\s.2.1.1.2.2.1<=t
 wr:0<=s.2.1.1.2.2.2/\s.2.1.1.2.2.2<=64*t
section
variable {c:Cfg} {N B n t q:Nat} {s:Shf} {L:List Nat} {K:Nat->List Int} {h:Nat->Bool}
theorem ShK.up (H:ShK c N B n t s L q K h) {t':Nat} (ht:t<=t'):ShK c N B n t' s L q K h:=⟨H.cfg,H.ca.mono ht,H.by',H.cl,H.ct,H.bits,H.h0,H.kp,H.qN,H.pin,⟨H.rd.1,by have:=H.rd.2; omega⟩,⟨H.wr.1,by have:=H.wr.2; omega⟩⟩
theorem ShK.there (g:Geo c N B n) (H:ShK c N B n t s L q K h) {i:Nat} (hi:i<4294967296):Q92.f s (i:Int)=some (if 1<=i/\i<N then 0 else 4):=by
 have e:=g.eN;have hN:=g.N5;unfold Q92.f;rw [H.cfg,e];by_cases q0:i=0
 ·rw [iP,iQ]
 ·have w1:w64 (i:Int)=(i:Int):=wI2;rw [iN,w1];by_cases q1:N<=i
  ·rw [iP,iQ]
  ·rw [iN,iO]
theorem ShK.put (H:ShK c N B n t s L q K h) {c':Ca} {L':List Nat} {t' a b:Nat} {K':Nat->List Int} (hca:CaI N B n t' [] c' L') (hto:MC.To a b (Wt s.2.1 L) (Wt c' L')) (hcl:(Wt c' L').Cl B) (hct:∀ j,j<N->(Wt c' L').cont B j=K' j) (hpin:∀ j,(Wt c' L').cnt j=if j=q/\q≠0 then 1 else 0) (ht:t+a<=t') (hb:b<=64*(t' - t)):ShK c N B n t' (s.1,c',s.2.2.1,s.2.2.2) L' q K' h:=
 ⟨H.cfg,hca,hto.by' H.by',hcl,hct,H.bits,H.h0,H.kp,H.qN,hpin,by
  have r1:=hto.rd;have r2:=H.rd;have e1:(Wt s.2.1 L).rd=s.2.1.1.2.2.1:=rfl;have e2:(Wt c' L').rd=c'.1.2.2.1:=rfl;show 0<=c'.1.2.2.1/\c'.1.2.2.1<=t';omega,by
  have r1:=hto.wr;have r2:=H.wr;have e1:(Wt s.2.1 L).wr=s.2.1.1.2.2.2:=rfl;have e2:(Wt c' L').wr=c'.1.2.2.2:=rfl;show 0<=c'.1.2.2.2/\c'.1.2.2.2<=64*t';omega⟩
def nodeOf (c:Cfg) (b:TV):Nd×Int:=Zg3 c (toS b)
def Zf1 (c:Cfg) (nd:Nd):List Int:=toB (Zd7 c nd)
end
section
variable {c:Cfg} {N B n t q:Nat} {s:Shf} {L:List Nat} {K:Nat->List Int} {h:Nat->Bool} {p:Bt}
def freeC (N:Nat) (h:Nat->Bool):Nat:=N - ((List.range N).filter h).length
end
section
variable {c:Cfg} {N B n t q:Nat} {s:Shf} {L:List Nat} {K:Nat->List Int} {h:Nat->Bool} {p:Bt}
def shf0 (c:Cfg) (N B n:Nat) (ch:Chn) (p:Bt):Shf:=(c,(((B:Int),List.replicate (N*B) 0,(0,0)),List.replicate n (0,[],false,0),[],(List.range n).map (fun(i:Nat)=>(i:Int)),ch),p,0)
end
def emS (s:Sp):Bool:=!s.2.2 && !Op.bytesLess s.1 s.2.1
abbrev pk (p:Pr):List UInt8:=p.1
abbrev mk (m:Msg):List UInt8:=m.1
def okN (N:Nat) (l:List Msg):Prop:=l.length<=N/\∀ m∈l,m.1.length<=300
def app1 (l:List Pr) (x:Msg):List Pr:=if x.2.1=true then Jr pk x.1 l else B1 pk (x.1,x.2.2) l
def Zf7 (a b:Sp):Sp:=(if Op.bytesLess a.1 b.1=true then b.1 else a.1,if a.2.2=true then (if b.2.2=true then [] else b.2.1) else if b.2.2=true then a.2.1 else if Op.bytesLess b.2.1 a.2.1=true then b.2.1 else a.2.1,a.2.2 && b.2.2)
def meetS (a b:Sp):Sp×Bool:=if emS (Zf7 a b)=true then (([],[],false),false) else (Zf7 a b,true)
structure Small (l:TJ) (x:TQ) (s:Sp):Prop where
 len:l.length<=80
 all:∀ p∈l,p.length<=300
 x:x.length<=300
 lo:s.1.length<=300
 hi:s.2.1.length<=300
theorem Small.get {l:TJ} {x:TQ} {s:Sp} (h:Small l x s) (i:Nat):(l.getD i []).length<=300:=by
 by_cases hi:i<l.length
 ·exact h.all _ (Zb8 hi)
 ·rw [List.getD_eq_getElem?_getD,List.getElem?_eq_none (by omega)];exact Nat.zero_le _
def Zgq (l:TJ) (x:TQ) (w:Nat):Prop:=w<=l.length/\(∀ j,j<w->Op.bytesLess x (l.getD j [])=false)/\∀ j,w<=j->j<l.length->Op.bytesLess x (l.getD j [])=true
def ownS (l:TJ) (i:Nat):Sp:=(if 0<i then l.getD (i - 1) [] else [],if i=l.length then [] else l.getD i [],decide (i=l.length))
abbrev Tre:=List (List Nd)
def ndT (l:Tre) (k i:Nat):Nd:=(l.getD k default).getD i default
def wd (l:Tre) (k:Nat):Nat:=(l.getD k default).length
def Uj (p:TJ) (x:TQ):Nat:=(p.filter fun y=>!Op.bytesLess x y).length
theorem Zcm (x:TQ):∀ {p:TJ},RiseK (fun y=>y) p->Zgq p x (Uj p x)
 | [],_=>⟨Nat.le_refl _,fun j hj=>absurd hj (Nat.not_lt_zero _),fun j _ hj=>absurd hj (Nat.not_lt_zero _)⟩
 | a :: p,h=>by
  obtain ⟨h1,h2⟩:=List.pairwise_cons.1 h;obtain ⟨a1,a2,a3⟩:=Zcm x h2;unfold Uj at *;rw [List.filter_cons];cases q:Op.bytesLess x a with
  | true=>
   have e:p.filter (fun y=>!Op.bytesLess x y)=[]:=List.filter_eq_nil_iff.2 fun y hy=>by rw [X4 q (h1 y hy)]; simp
   rw [vS,e];exact ⟨Nat.zero_le _,fun j hj=>absurd hj (Nat.not_lt_zero _),fun j _ hj=>match j,hj with
    | 0,_=>q
    | j+1,hj=>X4 q (h1 _ (Zb8 (d:=[]) (by simpa using hj)))⟩
  | false=>
   rw [iU];exact ⟨by simp only [List.length_cons]; omega,fun j hj=>match j,hj with
    | 0,_=>q
    | j+1,hj=>a2 j (by simpa using hj),fun j hj hl=>match j,hj,hl with
    | 0,hj,_=>by simp at hj
    | j+1,hj,hl=>a3 j (by simpa using hj) (by simpa using hl)⟩
def stR (row:List Nd) (i:Nat):Nat:=((row.map fun n=>n.2.1.length).take i).sum
theorem Gv {row:List Nd} {i:Nat} (h:i<row.length):stR row (i+1)=stR row i+(row.getD i default).2.1.length:=by
 unfold stR;rw [List.take_add_one,List.sum_append,List.getElem?_map,List.getElem?_eq_getElem h,Xt h];simp
theorem Za3 {row:List Nd} {i:Nat}:∀ {j:Nat},i<=j->j<=row.length->stR row i<=stR row j
 | 0,h,_=>by rw [show i=0 by omega]; exact Nat.le_refl _
 | j+1,h,hj=>by
  by_cases e:i=j+1
  ·rw [e]; exact Nat.le_refl _
  ·have:=Za3 (row:=row) (i:=i) (j:=j) (by omega) (by omega);have:=Gv (row:=row) (i:=j) (by omega);omega
structure NdOk (lo hi:Nat->List UInt8) (k:Nat) (n:Nd) (m:Nat):Prop where
 lvl:n.1=(k:Int)
 prs:n.2.2.2.2=[]
 pvl:n.2.2.1.length+1=n.2.1.length
 fan:n.2.1.length<=64
 kid:n.2.1=(List.range n.2.1.length).map fun(j:Nat)=>((m+j+1:Nat):Int)
 pv:∀ j,j<n.2.2.1.length->Op.bytesLess (hi (m+j)) (n.2.2.1.getD j [])=true/\Op.bytesLess (lo (m+j+1)) (n.2.2.1.getD j [])=false/\(n.2.2.1.getD j []).length<=200
def Zf3 (lo hi:Nat->List UInt8) (k:Nat) (row:List Nd):Prop:=∀ i,i<row.length->NdOk lo hi k (row.getD i default) (stR row i)
structure Gro (l:Tre) (LO HI:Nat->Nat->List UInt8):Prop where
 ne:0<l.length
 leaf:∀ i,i<wd l 0->(ndT l 0 i).1=0/\(ndT l 0 i).2.1=[]/\(ndT l 0 i).2.2.1=[]/\(ndT l 0 i).2.2.2.1=[]/\∀ p∈(ndT l 0 i).2.2.2.2,Op.bytesLess p.1 (LO 0 i)=false/\Op.bytesLess (HI 0 i) p.1=false
 row:∀ k,k+1<l.length->Zf3 (LO k) (HI k) (k+1) (l.getD (k+1) default)/\stR (l.getD (k+1) default) (wd l (k+1))=wd l k/\∀ i,i<wd l (k+1)->LO (k+1) i=LO k (stR (l.getD (k+1) default) i)/\HI (k+1) i=HI k (stR (l.getD (k+1) default) (i+1) - 1)
 lh:∀ k i,k<l.length->i<wd l k->Op.bytesLess (HI k i) (LO k i)=false
 hl:∀ k i,k<l.length->i+1<wd l k->Op.bytesLess (HI k i) (LO k (i+1))=true
def kidI (n:Nd) (x:TQ):Nat:=(n.2.1.getD (Uj n.2.2.1 x) default).toNat - 1
def dn (l:Tre) (x:TQ):Nat->Nat
 | 0=>0
 | j+1=>kidI (ndT l (l.length - 1 - j) (dn l x j)) x
section
variable {l:Tre} {LO HI:Nat->Nat->List UInt8}
theorem Gro.nd (G:Gro l LO HI) {k i:Nat} (hk:k+1<l.length) (hi:i<wd l (k+1)):NdOk (LO k) (HI k) (k+1) (ndT l (k+1) i) (stR (l.getD (k+1) default) i):=(G.row k hk).1 i hi
theorem Gro.hlt (G:Gro l LO HI) {k:Nat} (hk:k<l.length) {i:Nat}:∀ {j:Nat},i<j->j<wd l k->Op.bytesLess (HI k i) (LO k j)=true
 | 0,h,_=>by omega
 | j+1,h,hj=>by
  by_cases e:i=j
  ·subst e; exact G.hl k i hk hj
  ·exact X4 (Zb1 (G.hlt hk (i:=i) (j:=j) (by omega) (by omega)) (G.lh k j hk (by omega))) (G.hl k j hk hj)
theorem Gro.rise (G:Gro l LO HI) {k i:Nat} (hk:k+1<l.length) (hi:i<wd l (k+1)):RiseK (fun y=>y) (ndT l (k+1) i).2.2.1:=by
 have n:=G.nd hk hi;have hs:=Gv (row:=l.getD (k+1) default) hi;have hm:=Za3 (row:=l.getD (k+1) default) (i:=i+1) (j:=wd l (k+1)) hi (Nat.le_refl _);rw [(G.row k hk).2.1,hs] at hm;have hm':stR (l.getD (k+1) default) i+(ndT l (k+1) i).2.1.length<=wd l k:=hm;have pl:=n.pvl;refine List.pairwise_iff_getElem.2 fun a b ha hb hab=>?_;have h1:=(n.pv a ha).2.1;have h2:=(n.pv b hb).1;rw [Xt ha] at h1;rw [Xt hb] at h2;show Op.bytesLess _ _=true;have h3:Op.bytesLess (HI k (stR (l.getD (k+1) default) i+b)) (LO k (stR (l.getD (k+1) default) i+a+1))=false:=by
  by_cases e:b=a+1
  ·rw [e]; exact G.lh k _ (by omega) (by omega)
  ·exact Zbe (Zbf (G.lh k _ (by omega) (by omega)) (G.hlt (k:=k) (by omega) (show stR (l.getD (k+1) default) i+a+1<stR (l.getD (k+1) default) i+b by omega) (by omega)) |> fun q=>Zb1 q (G.lh k _ (by omega) (by omega)))
 exact Zbf (Zcd h1 h3) h2
theorem Gro.kidI (G:Gro l LO HI) {k i:Nat} (hk:k+1<l.length) (hi:i<wd l (k+1)) (x:TQ):Uj (ndT l (k+1) i).2.2.1 x<(ndT l (k+1) i).2.1.length/\kidI (ndT l (k+1) i) x=stR (l.getD (k+1) default) i+Uj (ndT l (k+1) i).2.2.1 x/\(ndT l (k+1) i).2.1.getD (Uj (ndT l (k+1) i).2.2.1 x) default=((kidI (ndT l (k+1) i) x+1:Nat):Int)/\kidI (ndT l (k+1) i) x<wd l k:=by
 have n:=G.nd hk hi;have hs:=Gv (row:=l.getD (k+1) default) hi;have hm:=Za3 (row:=l.getD (k+1) default) (i:=i+1) (j:=wd l (k+1)) hi (Nat.le_refl _);rw [(G.row k hk).2.1,hs] at hm;have hm':stR (l.getD (k+1) default) i+(ndT l (k+1) i).2.1.length<=wd l k:=hm;have w1:=(Zcm x (G.rise hk hi)).1;have pl:=n.pvl;have hw:Uj (ndT l (k+1) i).2.2.1 x<(ndT l (k+1) i).2.1.length:=by omega
 have e:(ndT l (k+1) i).2.1.getD (Uj (ndT l (k+1) i).2.2.1 x) default=((stR (l.getD (k+1) default) i+Uj (ndT l (k+1) i).2.2.1 x+1:Nat):Int):=by
  rw [n.kid,List.getD_eq_getElem?_getD,List.getElem?_map,List.getElem?_range hw]; rfl
 have e2:Go.SK.T.kidI (ndT l (k+1) i) x=stR (l.getD (k+1) default) i+Uj (ndT l (k+1) i).2.2.1 x:=by
  unfold Go.SK.T.kidI;rw [e]; omega
 exact ⟨hw,e2,by rw [e,e2],by omega⟩
end
def Zf9 (m:Msg):Option Pr:=if m.2.1=true then none else some (m.1,m.2.2)
def Ze4 (c:Cfg) (N:Nat) (l:Tre):Prop:=∀ k i,0<k->k<l.length->i<wd l k->RiseK mk (ndT l k i).2.2.2.1/\(ndT l k i).2.2.2.1.length<=N/\∀ m∈(ndT l k i).2.2.2.1,Bv c m.1=true/\dn l m.1 (l.length - 1 - k)=i
abbrev Zgv (c:Cfg) (l:Tre):Prop:=Ze4 c 100 l
def Zau (row:List Nd):List Pr:=row.flatMap fun n=>n.2.2.2.2
def Lvs (c:Cfg) (l:Tre):Prop:=RiseK pk (Zau (l.getD 0 default))/\(Zau (l.getD 0 default)).length<=150/\∀ p∈Zau (l.getD 0 default),Bv c p.1=true
def Zes (l:Tre) (x:TQ):Nat->Option Pr
 | 0=>Vq pk (ndT l 0 (dn l x (l.length - 1))).2.2.2.2 x
 | k+1=>match Vq mk (ndT l (k+1) (dn l x (l.length - 1 - (k+1)))).2.2.2.1 x with | some a=>Zf9 a | none=>Zes l x k
section
variable {l:Tre} {LO HI:Nat->Nat->List UInt8} {c:Cfg}
end
abbrev Spc:=List Pr×List Msg×List Int×List Int
def LvP (c:Cfg) (l:List Pr):Prop:=RiseK pk l/\l.length<=150/\∀ p∈l,Bv c p.1=true
def Ze2 (N:Nat) (r:Tre):Prop:=∃ ks:List TQ,ks.length<=N/\∀ k i,0<k->k<r.length->i<wd r k->∀ m∈(ndT r k i).2.2.2.1,m.1∈ks
structure GoodT (c:Cfg) (r:Tre):Prop where
 gro:∃ LO HI,Gro r LO HI
 top:wd r (r.length - 1)=1
 len:r.length<=6
 lvs:Lvs c r
 buf:Zgv c r
 wb:∀ k,k<r.length->wd r k<=151
 ks:Ze2 100 r
structure UpSt (c:Cfg) (out:Tre) (lo hi:TJ):Prop where
 gro:∃ LO HI,Gro out LO HI/\LO (out.length - 1)=(fun i=>lo.getD i [])/\HI (out.length - 1)=fun i=>hi.getD i []
 len:out.length<=6
 ll:lo.length=wd out (out.length - 1)
 hl:hi.length=wd out (out.length - 1)
 sh:∀ i,(lo.getD i []).length<=200/\(hi.getD i []).length<=200
 w1:1<=wd out (out.length - 1)
 wb:∀ k,k<out.length->wd out k<=151
 lvs:Lvs c out
 buf:∀ k i,k<out.length->i<wd out k->(ndT out k i).2.2.2.1=[]
structure UpRow (lo hi:TJ) (K N:Nat) (up:List Nd) (a b:TJ) (i:Nat):Prop where
 inn:Zf3 (fun i=>lo.getD i []) (fun i=>hi.getD i []) K up
 st:stR up up.length=i
 al:a.length=up.length
 bl:b.length=up.length
 ab:∀ j,j<up.length->a.getD j []=lo.getD (stR up j) []/\b.getD j []=hi.getD (stR up (j+1) - 1) []
 le:up.length<=i
 bf:∀ j,j<up.length->(up.getD j default).2.2.2.1=[]
section
variable {c:Cfg} {x:Spc} {lo hi:TJ} {out:Tre}
end
theorem Zdx {α β:Type} (f:α->β) (l:List α) (i:Nat) (d:α):(l.map f).getD i (f d)=f (l.getD i d):=by
 rw [List.getD_eq_getElem?_getD,List.getElem?_map,List.getD_eq_getElem?_getD];cases l[i]? <;> rfl
def Ue (n:Nd):Int×List Int×List TQ×List Pr:=(n.1,n.2.1,n.2.2.1,n.2.2.2.2)
structure SameB (l r:Tre):Prop where
 len:r.length=l.length
 row:∀ k,(r.getD k default).map Ue=(l.getD k default).map Ue
theorem Uo {n m:Nd} (h:Ue n=Ue m):n.1=m.1/\n.2.1=m.2.1/\n.2.2.1=m.2.2.1/\n.2.2.2.2=m.2.2.2.2:=⟨congrArg (fun z=>z.1) h,congrArg (fun z=>z.2.1) h,congrArg (fun z=>z.2.2.1) h,congrArg (fun z=>z.2.2.2) h⟩
section
variable {l r q:Tre} {LO HI:Nat->Nat->List UInt8} {c:Cfg}
theorem SameB.trans (S:SameB l r) (T:SameB r q):SameB l q:=⟨T.len.trans S.len,fun k=>(T.row k).trans (S.row k)⟩
theorem SameB.wd (S:SameB l r) (k:Nat):wd r k=wd l k:=by
 have:=congrArg List.length (S.row k);simpa [T.wd] using this
theorem SameB.nd (S:SameB l r) (k i:Nat):Ue (ndT r k i)=Ue (ndT l k i):=by
 have:=congrArg (fun z=>z.getD i (Ue default)) (S.row k);simp only [Zdx] at this;exact this
theorem SameB.st (S:SameB l r) (k i:Nat):stR (r.getD k default) i=stR (l.getD k default) i:=by
 have e:∀ row:List Nd,row.map (fun n=>n.2.1.length)=(row.map Ue).map fun s=>s.2.1.length:=fun row=>by rw [List.map_map]; rfl
 unfold stR;rw [e,e,S.row]
theorem SameB.kid (S:SameB l r) (k i:Nat) (x:TQ):kidI (ndT r k i) x=kidI (ndT l k i) x:=by
 obtain ⟨_,h2,h3,_⟩:=Uo (S.nd k i);unfold kidI;rw [h2,h3]
theorem SameB.dn (S:SameB l r) (x:TQ):∀ j,dn r x j=dn l x j
 | 0=>rfl
 | j+1=>by rw [T.dn,T.dn,S.dn x j,S.len,S.kid]
theorem SameB.gro (S:SameB l r) (G:Gro l LO HI) (h0:∀ i,i<T.wd l 0->(ndT r 0 i).2.2.2.1=[]):Gro r LO HI:=by
 refine ⟨by rw [S.len]; exact G.ne,fun i hi=>?_,fun k hk=>?_,fun k i hk hi=>?_,fun k i hk hi=>?_⟩
 ·rw [S.wd] at hi;obtain ⟨a1,a2,a3,a4⟩:=Uo (S.nd 0 i);obtain ⟨g1,g2,g3,_,g5⟩:=G.leaf i hi;rw [a1,a2,a3,a4];exact ⟨g1,g2,g3,h0 i hi,g5⟩
 ·rw [S.len] at hk;obtain ⟨r1,r2,r3⟩:=G.row k hk;refine ⟨fun i hi=>?_,by rw [S.wd,S.wd,S.st]; exact r2,fun i hi=>?_⟩
  ·have hi':i<(l.getD (k+1) default).length:=by have:=S.wd (k+1); unfold T.wd at this; omega
   obtain ⟨a1,a2,a3,a4⟩:=Uo (S.nd (k+1) i);have n:=r1 i hi';unfold ndT at a1 a2 a3 a4;rw [S.st];exact ⟨by rw [a1]; exact n.lvl,by rw [a4]; exact n.prs,by rw [a2,a3]; exact n.pvl,by rw [a2]; exact n.fan,by rw [a2]; exact n.kid,by rw [a3]; exact n.pv⟩
  ·rw [S.wd] at hi;rw [S.st,S.st];exact r3 i hi
 ·rw [S.len] at hk; rw [S.wd] at hi; exact G.lh k i hk hi
 ·rw [S.len] at hk; rw [S.wd] at hi; exact G.hl k i hk hi
end
def setB (l:Tre) (k i:Nat) (b:List Msg):Tre:=l.set k ((l.getD k default).set i ((ndT l k i).1,(ndT l k i).2.1,(ndT l k i).2.2.1,b,(ndT l k i).2.2.2.2))
section
variable {l:Tre} {LO HI:Nat->Nat->List UInt8} {c:Cfg} {N:Nat}
structure PutS (c:Cfg) (N:Nat) (l r:Tre):Prop where
 same:SameB l r
 buf:Ze4 c N r
 z:∀ i,i<wd l 0->(ndT r 0 i).2.2.2.1=[]
 ks:Ze2 N r
end
section
variable {c:Cfg} {x:Spc}
structure LeafSt (c:Cfg) (l:List Pr) (row:List Nd) (lo hi:TJ):Prop where
 lv:LvP c (Zau row ++ l)
 ll:lo.length=row.length
 hl:hi.length=row.length
 bd:row.length+l.length<=151
 nd:∀ i,i<row.length->(row.getD i default).1=0/\(row.getD i default).2.1=[]/\(row.getD i default).2.2.1=[]/\(row.getD i default).2.2.2.1=[]/\∀ p∈(row.getD i default).2.2.2.2,Op.bytesLess p.1 (lo.getD i [])=false/\Op.bytesLess (hi.getD i []) p.1=false
 lh:∀ i,i<row.length->Op.bytesLess (hi.getD i []) (lo.getD i [])=false
 sh:∀ i,(lo.getD i []).length<=200/\(hi.getD i []).length<=200
 inc:∀ i,i+1<row.length->Op.bytesLess (hi.getD i []) (lo.getD (i+1) [])=true
 rest:∀ i,i<row.length->∀ p∈l,Op.bytesLess (hi.getD i []) p.1=true
end
section
variable {l:Tre} {LO HI:Nat->Nat->List UInt8} {c:Cfg}
def MapR (l:Tre) (o:List Pr):Prop:=RiseK pk o/\o.length<=150+15100*6/\∀ x,Vq pk o x=Zes l x (l.length - 1)
end
section
variable {c:Cfg} {N B n t q:Nat} {s:Shf} {L:List Nat} {K:Nat->List Int} {h:Nat->Bool} {l:Tre} {BL:Nat->Nat->Nat}
def Ze5 (l:Tre) (BL:Nat->Nat->Nat) (k i:Nat):Nd:=((ndT l k i).1,(ndT l k i).2.1.map (fun x=>((BL (k - 1) (x.toNat - 1):Nat):Int)),(ndT l k i).2.2.1,(ndT l k i).2.2.2.1,(ndT l k i).2.2.2.2)
structure Spot (c:Cfg) (N:Nat) (K:Nat->List Int) (h:Nat->Bool) (b:Nat) (nd:Nd):Prop where
 b1:1<=b
 bN:b<N
 hb:h b=true
 rt:Zb4 c Zei nd=true
 kb:K b=Zf1 c nd
 kd:∀ x∈nd.2.1,0<=x/\x<4294967296
 sm:SmallN nd
theorem Spot.upd {b b':Nat} {nd:Nd} {v:TV} (S:Spot c N K h b nd) (e:b≠b'):Spot c N (upd K b' v) (upd h b' true) b nd:=⟨S.b1,S.bN,by rw [Xc e]; exact S.hb,S.rt,by rw [Xc e]; exact S.kb,S.kd,S.sm⟩
structure RowsB (c:Cfg) (N:Nat) (K:Nat->List Int) (h:Nat->Bool) (l:Tre) (kk:Nat) (BL:Nat->Nat->Nat):Prop where
 sp:∀ k j,k<kk->j<wd l k->Spot c N K h (BL k j) (Ze5 l BL k j)
 inj:∀ k j k' j',k<kk->j<wd l k->k'<kk->j'<wd l k'->BL k j=BL k' j'->k=k'/\j=j'
structure RowAt (c:Cfg) (N:Nat) (K:Nat->List Int) (h:Nat->Bool) (l:Tre) (kk:Nat) (BL:Nat->Nat->Nat) (nw:List Nat):Prop where
 R:RowsB c N K h l kk BL
 sp:∀ j,j<nw.length->Spot c N K h (nw.getD j 0) (Ze5 l BL kk j)
 nd:nw.Nodup
 out:∀ b∈nw,∀ k j,k<kk->j<wd l k->BL k j≠b
 held:∀ b,h b=true->b=0\/b∈nw\/∃ k j,k<kk/\j<wd l k/\BL k j=b
abbrev LR:=Int×Bool×Shf
def LaidR (c:Cfg) (N B n:Nat) (l:Tre) (R:LR):Prop:=R.2.1=false\/(R.2.1=true/\∃ BL t L K h,t<=1000/\ShK c N B n t R.2.2 L 0 K h/\RowsB c N K h l l.length BL/\R.1=((BL (l.length - 1) 0:Nat):Int)/\∀ b,h b=true->b=0\/∃ k j,k<l.length/\j<wd l k/\BL k j=b)
abbrev LD0 (k:Nat) (l:Tre) (s:Shf) (at':List Int) (kk:Int):Option LR:=Q130.l0 k l s.1 s.2.1.1 s.2.1.2.2.2.2 s.2.2.1 s.2.1.2.1 s.2.1.2.2.1 s.2.1.2.2.2.1 s.2.2.2 at' kk
abbrev LD1 (k:Nat) (l:Tre) (at':List Int) (kk:Int) (s:Shf) (nw:TV) (i:Int):Option LR:=Q130.l1 k l at' kk s.1 s.2.1.1 s.2.1.2.2.2.2 s.2.2.1 s.2.1.2.1 s.2.1.2.2.1 s.2.1.2.2.2.1 s.2.2.2 nw i
abbrev LD2 (k:Nat) (l:Tre) (at':List Int) (kk:Int) (s:Shf) (nw:TV) (i:Int) (own:TV) (j:Int) (b:Bool):Option LR:=Q130.l2 k l at' kk s.1 s.2.1.1 s.2.1.2.2.2.2 s.2.2.1 s.2.1.2.1 s.2.1.2.2.1 s.2.1.2.2.2.1 s.2.2.2 nw i own j b
abbrev LD3 (k:Nat) (l:Tre) (at':List Int) (kk:Int) (s:Shf) (nw:TV) (i:Int) (own:TV) (j:Int):Option LR:=Q130.l3 k l at' kk s.1 s.2.1.1 s.2.1.2.2.2.2 s.2.2.1 s.2.1.2.1 s.2.1.2.2.1 s.2.1.2.2.2.1 s.2.2.2 nw i own j
def rowI (BL:Nat->Nat->Nat) (k w:Nat):List Int:=(List.range w).map fun j=>((BL k j:Nat):Int)
end
abbrev SR:=Option Shf×Int×Tre×Bool
structure StdI (c:Cfg) (s:Shf) (root:Int) (l:Tre) (N B n t:Nat) (L:List Nat) (K:Nat->List Int) (h:Nat->Bool) (BL:Nat->Nat->Nat):Prop where
 g:Geo c N B n
 N4:N<=400
 T:GoodT c l
 t1:t<=1000
 S:ShK c N B n t s L 0 K h
 P:RowsB c N K h l l.length BL
 rt:root=((BL (l.length - 1) 0:Nat):Int)
 held:∀ b,h b=true->b=0\/∃ k j,k<l.length/\j<wd l k/\BL k j=b
def StdR (c:Cfg) (R:SR):Prop:=R.2.2.2=false\/(R.2.2.2=true/\∃ s N B n t L K h BL,R.1=some s/\StdI c s R.2.1 R.2.2.1 N B n t L K h BL)
section
variable {c:Cfg} {N B n:Nat} {x:Spc}
end
def AtLow (l:List Msg) (x:TQ) (c:Nat):Prop:=c<=l.length/\(∀ j,j<c->Op.bytesLess (l.getD j default).1 x=true)/\∀ j,c<=j->j<l.length->Op.bytesLess (l.getD j default).1 x=false
def AtPart (l:List Msg) (s:Sp) (f t:Nat):Prop:=f<=t/\t<=l.length/\∀ j,j<l.length->inS s (l.getD j default).1=decide (f<=j/\j<t)
def partM (l:List Msg) (s:Sp):List Msg:=l.filter fun m=>inS s m.1
section
variable {c:Cfg} {N B n t q:Nat} {s:Shf} {L:List Nat} {K:Nat->List Int} {h:Nat->Bool} {l:Tre} {BL:Nat->Nat->Nat} {LO HI:Nat->Nat->List UInt8}
end
def AtPt (l:List Pr) (s:Sp) (f t:Nat):Prop:=f<=t/\t<=l.length/\∀ j,j<l.length->inS s (l.getD j default).1=decide (f<=j/\j<t)
def uptoP (f t:Nat) (most:Int):Nat:=f+min (t - f) most.toNat
def Zgx (l:Tre) (over:List Msg) (x:TQ) (k:Nat):Option Pr:=match Vq mk over x with | some a=>Zf9 a | none=>Zes l x k
def Zgh (f:Nat->Nat) (a:Nat):Nat->Nat
 | 0=>0
 | m+1=>f a+1+Zgh f (a+1) m
def ds (l:Tre):Nat->Nat->Nat
 | 0,_=>0
 | k+1,i=>Zgh (ds l k) (stR (l.getD (k+1) default) i) (ndT l (k+1) i).2.1.length
structure Told (l:Tre) (over:List Msg) (p:Sp) (k:Nat) (w:List UInt8->Bool) (R:List Pr):Prop where
 rise:RiseK pk R
 fnd:∀ x,Vq pk R x=if (inS p x && w x)=true then Zgx l over x k else none
structure Went (c:Cfg) (N B n q:Nat) (K:Nat->List Int) (h:Nat->Bool) (s:Shf) (L:List Nat) (t u d:Nat) (s':Shf) (L':List Nat) (t':Nat):Prop where
 S:ShK c N B n t' s' L' q K h
 t1:t'<=t+u
 to:MC.To d d (Wt s.2.1 L) (Wt s'.2.1 L')
section
variable {c:Cfg} {N B n q:Nat} {K:Nat->List Int} {h:Nat->Bool} {l:Tre} {BL:Nat->Nat->Nat} {LO HI:Nat->Nat->List UInt8}
theorem Went.trans {s s1 s2:Shf} {L L1 L2:List Nat} {t t1 t2 u u1 d d1 u2 d2:Nat} (a:Went c N B n q K h s L t u d s1 L1 t1) (b:Went c N B n q K h s1 L1 t1 u1 d1 s2 L2 t2) (hu:u+u1<=u2) (hd:d+d1<=d2):Went c N B n q K h s L t u2 d2 s2 L2 t2:=
 ⟨b.S,by have:=a.t1; have:=b.t1; omega,(a.to.trans b.to).le hd hd⟩
theorem Went.refl {s:Shf} {L:List Nat} {t:Nat} (S:ShK c N B n t s L q K h) (u d:Nat):Went c N B n q K h s L t u d s L t:=⟨S,by omega,(MC.To.refl _).le (Nat.zero_le _) (Nat.zero_le _)⟩
end
section
variable {c:Cfg} {N B n q:Nat} {K:Nat->List Int} {h:Nat->Bool} {l:Tre} {BL:Nat->Nat->Nat} {LO HI:Nat->Nat->List UInt8}
abbrev VL (f:Nat) (p:Sp) (r1:Nd×Int×Shf) (ov:List Msg) (s:Shf) (lim:Int) (out:List Pr) (j:Int):Option (Int×Shf×Int×List Pr):=Q87.l1 f p r1 ov s.1 s.2.1.1 s.2.1.2.2.2.2 s.2.2.1 s.2.1.2.1 s.2.1.2.2.1 s.2.1.2.2.2.1 s.2.2.2 lim out j
theorem Went.le {s s':Shf} {L L':List Nat} {t t' u u' d d':Nat} (a:Went c N B n q K h s L t u d s' L' t') (hu:u<=u') (hd:d<=d'):Went c N B n q K h s L t u' d' s' L' t':=⟨a.S,by have:=a.t1; omega,a.to.le hd hd⟩
end
def Zgs (l:Tre):Nat->Nat
 | 0=>wd l 0
 | k+1=>Zgs l k+wd l (k+1)
section
variable {c:Cfg} {N B n q:Nat} {K:Nat->List Int} {h:Nat->Bool} {l:Tre} {BL:Nat->Nat->Nat} {LO HI:Nat->Nat->List UInt8}
end
section
variable {l:Tre} {LO HI:Nat->Nat->List UInt8} {c:Cfg}
end
section
variable {c:Cfg} {N B n t q:Nat} {s:Shf} {L:List Nat} {K:Nat->List Int} {h:Nat->Bool} {l:Tre} {BL:Nat->Nat->Nat} {LO HI:Nat->Nat->List UInt8}
end
section
variable {c:Cfg}
end
end Go.SK.T
