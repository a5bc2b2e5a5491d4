/- Part of the library of this claim: how code is stepped through. -/
import Derived.Test.YtgdmpkhmedbnpaaGreatDoorXScanNoneKa
import Derived.Laws.StructEq
set_option linter.unusedVariables false
set_option linter.unusedSimpArgs false
namespace Go.SK
open Go

def Zlw (op:BinOp) (x y:Int):Option Bool:=
 match op with
 | .eql=>some (decide (x=y))
 | .neq=>some (!decide (x=y))
 | .lss=>some (decide (x<y))
 | .leq=>some (decide (x≤y))
 | .gtr=>some (decide (y<x))
 | .geq=>some (decide (y≤x))
 | _=>none
def Zhn (op:BinOp) (k:IntKind) (x y:Int):Option Value:=
 match op with
 | .add=>some (.int k (k.wrap (x+y)))
 | .sub=>some (.int k (k.wrap (x - y)))
 | .mul=>some (.int k (k.wrap (x*y)))
 | .and=>some (.int k (k.wrap ((BitVec.ofInt k.bits x &&& BitVec.ofInt k.bits y).toNat)))
 | .or=>some (.int k (k.wrap ((BitVec.ofInt k.bits x ||| BitVec.ofInt k.bits y).toNat)))
 | .xor=>some (.int k (k.wrap ((BitVec.ofInt k.bits x ^^^ BitVec.ofInt k.bits y).toNat)))
 | .andNot=>some (.int k (k.wrap ((BitVec.ofInt k.bits x &&& ~~~BitVec.ofInt k.bits y).toNat)))
 | .quo=>match y with | .ofNat (m+1)=>some (.int k (k.wrap (x.tdiv (.ofNat (m+1))))) | _=>none
 | .rem=>match y with | .ofNat (m+1)=>some (.int k (x.tmod (.ofNat (m+1)))) | _=>none
 | op=>(Zlw op x y).map .bool
def Zeo (op:BinOp) (k:IntKind) (x:Int) (y:Int):Option Value:=
 match op,y with
 | .shl,.ofNat m=>some (.int k (k.wrap (x*2 ^ (min m k.bits))))
 | .shr,.ofNat m=>some (.int k (x.fdiv (2 ^ (min m k.bits))))
 | _,_=>none
def Zhc (op:BinOp) (x y:List UInt8):Option Bool:=
 match op with
 | .eql=>some (decide (x=y))
 | .neq=>some (!decide (x=y))
 | .lss=>some (Op.bytesLess x y)
 | .leq=>some (Op.bytesLess x y || decide (x=y))
 | .gtr=>some (!(Op.bytesLess x y || decide (x=y)))
 | .geq=>some (!Op.bytesLess x y)
 | _=>none
def Zcp:IntKind→IntKind→Bool
 | .i8,.i8 | .i16,.i16 | .i32,.i32 | .i64,.i64 | .u8,.u8 | .u16,.u16 | .u32,.u32 | .u64,.u64=>true
 | _,_=>false
theorem Zcu {a b:IntKind} (h:Zcp a b=true):a=b:=by cases a <;> cases b <;> first | rfl | cases h

def peq (tt:TT) (t:Nat) (x y:Value):Option Bool:=
 match find tt t,x,y with
 | some ⟨.bool,_,_,_⟩,.bool a,.bool b=>some (a == b)
 | some ⟨.slice _,_,_,_⟩,.slice a _ _,.slice none _ _=>some a.isNone
 | some ⟨.slice _,_,_,_⟩,.slice none _ _,.slice b _ _=>some b.isNone
 | some ⟨.ptr _,_,_,_⟩,.pointer a,.pointer none=>some a.isNone
 | some ⟨.ptr _,_,_,_⟩,.pointer none,.pointer b=>some b.isNone
 | some ⟨.func,_,_,_⟩,.nilFunc,.nilFunc=>some true
 | some ⟨.func,_,_,_⟩,.func _ _ _,.nilFunc=>some false
 | some ⟨.map _ _,_,_,_⟩,.map a,.map none=>some a.isNone
 | _,_,_=>none

def nth {α:Type}:List α→Nat→Option α
 | [],_=>none
 | x :: r,n=>match n with | 0=>some x | n+1=>nth r n
theorem Yu {α:Type} (l:List α) (n:Nat):nth l n=l[n]?:=by
 induction l generalizing n with
 | nil=>rfl
 | cons x r ih=>cases n with
  | zero=>rfl
  | succ n=>simpa [nth] using ih n

theorem Za7 {P:Program} {tt:TT} (hT:Yk P tt) {t:Nat} {i:TI} (hi:find tt t=some i) (w:World) (cs:Array Value) (off:Nat) {v:Value}
  (h:(match i.kind with | .struct _=>some (.agg ((cs.toList.drop off).take i.size).toArray) | .other=>none | _=>nth cs.toList off)=some v) :
  (part t cs off).run P w=.ok v w:=by
 have hok:=hT _ _ hi
 have hk:=hok.kind
 have hsz:=Xe w hok
 cases hkk:i.kind with
 | struct fs=>
  rw [hkk] at h hk
  obtain ⟨fields,hu,_⟩:=hk
  simp only [Option.some.injEq] at h
  subst h
  simp only [part,isAgg,Sem.run_bind,Z2 w hu,Result.andThen_ok,hsz,Sem.run_pure,Sem.run_ite,if_true,Sem.run_map]
  congr 2
  apply Array.ext'
  simp [Array.toList_extract,List.extract_eq_take_drop]
 | other=>rw [hkk] at h; cases h
 | int k=>
  rw [hkk] at h hk; simp only [TK.ok] at hk; rw [Yu] at h; have h':cs[off]?=some v:=by simpa using h
  simp [part,isAgg,Z2 w hk,h']
 | bool=>
  rw [hkk] at h hk; simp only [TK.ok] at hk; rw [Yu] at h; have h':cs[off]?=some v:=by simpa using h
  simp [part,isAgg,Z2 w hk,h']
 | str=>
  rw [hkk] at h hk; simp only [TK.ok] at hk; rw [Yu] at h; have h':cs[off]?=some v:=by simpa using h
  simp [part,isAgg,Z2 w hk,h']
 | slice e=>
  rw [hkk] at h hk; simp only [TK.ok] at hk; rw [Yu] at h; have h':cs[off]?=some v:=by simpa using h
  simp [part,isAgg,Z2 w hk,h']
 | ptr e=>
  rw [hkk] at h hk; simp only [TK.ok] at hk; rw [Yu] at h; have h':cs[off]?=some v:=by simpa using h
  simp [part,isAgg,Z2 w hk,h']
 | map k e=>
  rw [hkk] at h hk; simp only [TK.ok] at hk; rw [Yu] at h; have h':cs[off]?=some v:=by simpa using h
  simp [part,isAgg,Z2 w hk,h']
 | func=>
  rw [hkk] at h hk; obtain ⟨ps,rs,vv,hk⟩:=hk; rw [Yu] at h; have h':cs[off]?=some v:=by simpa using h
  simp [part,isAgg,Z2 w hk,h']
 | iface=>
  rw [hkk] at h hk; obtain ⟨ms,hk⟩:=hk; rw [Yu] at h; have h':cs[off]?=some v:=by simpa using h
  simp [part,isAgg,Z2 w hk,h']
def Zea (tt:TT) (t:Nat) (cs:List Value) (off:Nat):Option Value:=
 match find tt t with
 | some i=>match i.kind with
  | .struct _=>some (.agg ((cs.drop off).take i.size).toArray)
  | .other=>none
  | _=>nth cs off
 | none=>none
theorem Zc8 {P:Program} {tt:TT} (hT:Yk P tt) {t:Nat} {cs:Array Value} {off:Nat} {v:Value} (h:Zea tt t cs.toList off=some v) (w:World):(part t cs off).run P w=.ok v w:=by
 unfold Zea at h
 split at h
 ·rename_i i hi; exact Za7 hT hi w cs off h
 ·cases h
def Zfl (tt:TT) (eq:Nat→Value→Value→Option Bool) (xs ys:List Value):List (Nat×Nat×Nat)→Option Bool
 | []=>some true
 | (t,off,_) :: r=>match Zea tt t xs off,Zea tt t ys off with
  | some a,some b=>match eq t a b,Zfl tt eq xs ys r with
   | some p,some q=>some (p && q)
   | _,_=>none
  | _,_=>none
def Ug (tt:TT):Nat→Nat→Value→Value→Option Bool
 | 0,_,_,_=>none
 | d+1,t,x,y=>match find tt t,x,y with
  | some ⟨.int _,_,_,_⟩,.int k a,.int k' b=>cond (Zcp k k') (some (decide (a=b))) none
  | some ⟨.str,_,_,_⟩,.string a,.string b=>some (decide (a.data.toList=b.data.toList))
  | some ⟨.struct fs,_,_,_⟩,.agg xs,.agg ys=>Zfl tt (Ug tt d) xs.toList ys.toList fs
  | _,_,_=>peq tt t x y
def Zek (tt:TT) (op:BinOp) (t:Nat) (x y:Value):Option Value:=
 match x,y with
 | .int k a,.int k' b=>match op with
  | .shl | .shr=>Zeo op k a b
  | _=>cond (Zcp k k') (Zhn op k a b) none
 | .string a,.string b=>(Zhc op a.data.toList b.data.toList).map .bool
 | _,_=>match op with
  | .eql=>(Ug tt 6 t x y).map .bool
  | .neq=>(Ug tt 6 t x y).map fun b=>.bool (!b)
  | _=>none

theorem Zi6 {P:Program} {op:BinOp} {k:IntKind} {x y:Int} {v:Value} (w:World) (t:Nat) (h:Zhn op k x y=some v) (h1:op≠.shl) (h2:op≠.shr) :
  (binOp op t (.int k x) (.int k y)).run P w=.ok v w:=by
 by_cases hq:op=.quo∨op=.rem
 ·cases y with
  | negSucc m=>rcases hq with rfl | rfl <;> cases h
  | ofNat m=>
   cases m with
   | zero=>rcases hq with rfl | rfl <;> cases h
   | succ m=>
    have hd:¬ ((m:Int)+1=0):=by omega
    rcases hq with rfl | rfl <;> simp only [Zhn,Option.some.injEq] at h <;> subst h <;> simp [binOp,Op.intDiv,hd]
 ·have hne:∀ a b:Int,(a != b)=!decide (a=b):=fun a b=>by by_cases hh:a=b <;> simp [hh]
  cases op <;> simp only [Zhn,Zlw,Option.map_some,Option.some.injEq] at h <;> first
   | exact absurd rfl h1
   | exact absurd rfl h2
   | exact absurd (Or.inl rfl) hq
   | exact absurd (Or.inr rfl) hq
   | (cases h; done)
   | (subst h; simp [binOp,Op.intArith,Op.intBits,Op.intCmp]; done)
   | (subst h; simp [binOp,Op.intCmp,hne]; done)
   | (subst h; simp [binOp,Op.intCmp]; rfl)

theorem U4 {P:Program} {op:BinOp} {k k':IntKind} {x y:Int} {v:Value} (w:World) (t:Nat) (h:Zeo op k x y=some v) :
  (binOp op t (.int k x) (.int k' y)).run P w=.ok v w:=by
 cases op <;> simp only [Zeo] at h <;> first | (cases h; done) | skip
 all_goals
  cases y with
  | negSucc m=>cases h
  | ofNat m=>
   simp only [Option.some.injEq] at h
   subst h
   have:¬ ((m:Int)<0):=by omega
   simp [binOp,Op.shift,this]

theorem Zbl {P:Program} {op:BinOp} {x y:ByteArray} {b:Bool} (w:World) (t:Nat) (h:Zhc op x.data.toList y.data.toList=some b) :
  (binOp op t (.string x) (.string y)).run P w=.ok (.bool b) w:=by
 have e:∀ s:ByteArray,s.toList=s.data.toList:=ByteArray.toList_eq
 have hbeq:∀ a b:List UInt8,(a == b)=decide (a=b):=fun a b=>by by_cases hh:a=b <;> simp [hh]
 cases op <;> simp only [Zhc] at h <;> first
  | (cases h; done)
  | (simp only [Option.some.injEq] at h; subst h; simp only [binOp,Op.stringOp,e,hbeq,Sem.run_pure])

section
variable {P:Program} {t:Nat} (w:World) (d:Nat)
theorem Zje (h:P.underlying t=some .bool) (a b:Bool):(Op.equalIn (d+1) t (.bool a) (.bool b)).run P w=.ok (a == b) w:=by
 unfold Op.equalIn; simp [Z2 w h]
theorem Ziq {e:Nat} (h:P.underlying t=some (.slice e)) (a:Option Addr) (n c n' c':Nat):(Op.equalIn (d+1) t (.slice a n c) (.slice none n' c')).run P w=.ok a.isNone w:=by
 unfold Op.equalIn; cases a <;> simp [Z2 w h]
theorem Zhd {e:Nat} (h:P.underlying t=some (.slice e)) (a:Option Addr) (n c n' c':Nat):(Op.equalIn (d+1) t (.slice none n c) (.slice a n' c')).run P w=.ok a.isNone w:=by
 unfold Op.equalIn; cases a <;> simp [Z2 w h]
theorem Zlf {e:Nat} (h:P.underlying t=some (.pointer e)) (a:Option Addr):(Op.equalIn (d+1) t (.pointer a) (.pointer none)).run P w=.ok a.isNone w:=by
 unfold Op.equalIn; cases a <;> simp [Z2 w h]
theorem Zjf {e:Nat} (h:P.underlying t=some (.pointer e)) (a:Option Addr):(Op.equalIn (d+1) t (.pointer none) (.pointer a)).run P w=.ok a.isNone w:=by
 unfold Op.equalIn; cases a <;> simp [Z2 w h]
theorem Zjo {ps rs:Array TypeId} {v:Bool} (h:P.underlying t=some (.func ps rs v)):(Op.equalIn (d+1) t .nilFunc .nilFunc).run P w=.ok true w:=by
 unfold Op.equalIn; simp [Z2 w h]
theorem Zh5 {ps rs:Array TypeId} {v:Bool} (h:P.underlying t=some (.func ps rs v)) (f:Fn) (a b:Array Value):(Op.equalIn (d+1) t (.func f a b) .nilFunc).run P w=.ok false w:=by
 unfold Op.equalIn; simp [Z2 w h]
theorem Zlm {k e:Nat} (h:P.underlying t=some (.map k e)) (a:Option Nat):(Op.equalIn (d+1) t (.map a) (.map none)).run P w=.ok a.isNone w:=by
 unfold Op.equalIn; cases a <;> simp [Z2 w h]
end
theorem Zhr {P:Program} {tt:TT} (hT:Yk P tt) {t:Nat} {x y:Value} {b:Bool} (w:World) (d:Nat) (h:peq tt t x y=some b) :
  (Op.equalIn (d+1) t x y).run P w=.ok b w:=by
 unfold peq at h
 split at h
 case h_9=>cases h
 all_goals
  rename_i hf
  have hk:=(hT _ _ hf).kind
  simp only [TK.ok] at hk
  simp only [Option.some.injEq] at h
  subst h
 ·exact Zje w d hk _ _
 ·exact Ziq w d hk _ _ _ _ _
 ·exact Zhd w d hk _ _ _ _ _
 ·exact Zlf w d hk _
 ·exact Zjf w d hk _
 ·obtain ⟨ps,rs,vv,hk⟩:=hk; exact Zjo w d hk
 ·obtain ⟨ps,rs,vv,hk⟩:=hk; exact Zh5 w d hk _ _ _
 ·exact Zlm w d hk _
theorem Zem {P:Program} {tt:TT} (hT:Yk P tt) {eq:Nat→Value→Value→Option Bool} {D:Nat} (he:∀ t a b r w,eq t a b=some r→(Op.equalIn D t a b).run P w=.ok r w) {xs ys:Array Value} (w:World) :
  ∀ (fields : List Field) (r : Bool), (∀ f ∈ fields, (f.name != "_") = true) → Zfl tt eq xs.toList ys.toList (fields.map fun f => (f.type, f.offset, P.cellsOf f.type)) = some r → (Op.eqFields D xs ys fields).run P w = .ok r w
 | [],r,_,h=>by simp only [List.map_nil,Zfl,Option.some.injEq] at h; subst h; simp [Op.eqFields]
 | f :: fs,r,hn,h=>by
  have hn' : f.name ≠ "_" := by have := hn f (by simp); simpa using this
  simp only [List.map_cons,Zfl] at h
  split at h
  ·rename_i a b ha hb
   split at h
   ·rename_i p q hp hq
    simp only [Option.some.injEq] at h
    subst h
    have ih:=Zem hT he w fs q (fun g hg=>hn g (by simp [hg])) hq
    rw [Op.eqFields]
    simp only [if_pos hn',Sem.run_bind,Zc8 hT ha w,Zc8 hT hb w,he _ _ _ _ w hp,Result.andThen_ok]
    cases p
    ·simp
    ·simpa using ih
   ·cases h
  ·cases h
theorem Zll {P:Program} {t:Nat} {kk:IntKind} (w:World) (d:Nat) (h:P.underlying t=some (.int kk)) (k:IntKind) (a b:Int):(Op.equalIn (d+1) t (.int k a) (.int k b)).run P w=.ok (a == b) w:=run_equalIn_int w d t k kk a b h
theorem Zfg {P:Program} {tt:TT} (hT:Yk P tt):∀(d m:Nat) (t:Nat) (x y:Value) (b:Bool) (w:World),Ug tt d t x y=some b→(Op.equalIn (m+d) t x y).run P w=.ok b w
 | 0,m,t,x,y,b,w,h=>by cases h
 | d+1,m,t,x,y,b,w,h=>by
  simp only [Ug] at h
  split at h
  ·rename_i hf
   have hk:=(hT _ _ hf).kind
   simp only [TK.ok] at hk
   rename_i kk _ _ _ k a k' b'
   cases hb:Zcp k k' with
   | false=>rw [hb] at h; cases h
   | true=>
    rw [hb] at h
    have:=Zcu hb
    subst this
    simp only [cond_true,Option.some.injEq] at h
    subst h
    rw [show m+(d+1)=(m+d)+1 from rfl,Zll w (m+d) hk]
    congr 1
  ·rename_i hf
   have hk:=(hT _ _ hf).kind
   simp only [TK.ok] at hk
   simp only [Option.some.injEq] at h
   subst h
   rw [show m+(d+1)=(m+d)+1 from rfl,run_equalIn_string w (m+d) t _ _ hk,ByteArray.toList_eq,ByteArray.toList_eq]
   rename_i a b
   congr 1
   by_cases hh:a.data.toList=b.data.toList
   ·simp [hh]
   ·rw [decide_eq_false hh]; exact beq_eq_false_iff_ne.2 hh
  ·rename_i hf
   obtain ⟨fields,hu,hfs,_,_,hst,_,hnm⟩:=(hT _ _ hf).kind
   have hfo:P.fieldsOf t=fields.toArray:=by simp [Program.fieldsOf,hu]
   rw [show m+(d+1)=(m+d)+1 from rfl,run_equalIn_struct (P:=P) w (m+d) t _ _ (by rw [hfo]; exact hu) hst,hfo]
   rw [← hfs] at h
   exact Zem hT (fun t a b r w he=>Zfg hT d m t a b r w he) w fields b (fun f hf=>List.all_eq_true.1 hnm f hf) h
  ·exact Zhr hT w (m+d) h
theorem Zef {P:Program} {tt:TT} (hT:Yk P tt) {t:Nat} {x y:Value} {b:Bool} (w:World) (h:Ug tt 6 t x y=some b) :
  (Op.equal t x y).run P w=.ok b w:=Zfg hT 6 9994 t x y b w h
theorem Zb0 {tt:TT} {d t:Nat} {x y:Value} {r:Bool} (he:Ug tt (d+1) t x y=some r) :
  (∃ k a k' b,x=.int k a∧y=.int k' b)∨(∃ a b,x=.string a∧y=.string b)∨(∃ a b,x=.agg a∧y=.agg b∧∃ fs z1 z2 z,find tt t=some ⟨.struct fs,z1,z2,z⟩)∨peq tt t x y=some r:=by
 simp only [Ug] at he
 split at he
 ·exact .inl ⟨_,_,_,_,rfl,rfl⟩
 ·exact .inr (.inl ⟨_,_,rfl,rfl⟩)
 ·rename_i hf; exact .inr (.inr (.inl ⟨_,_,rfl,rfl,_,_,_,_,hf⟩))
 ·exact .inr (.inr (.inr he))
theorem Za4 {P:Program} {tt:TT} {t:Nat} {x y:Value} {r:Bool} {w:World} (hni:∀ k a k' b,x=.int k a→y=.int k' b→False) (hns:∀ a b,x=.string a→y=.string b→False) (he:Ug tt 6 t x y=some r) (hr:(Op.equal t x y).run P w=.ok r w) :
  (binOp .eql t x y).run P w=.ok (.bool r) w∧(binOp .neq t x y).run P w=.ok (.bool (!r)) w:=by
 rcases Zb0 he with ⟨k,a,k',b,rfl,rfl⟩ | ⟨a,b,rfl,rfl⟩ | ⟨a,b,rfl,rfl,_⟩ | he
 ·exact (hni _ _ _ _ rfl rfl).elim
 ·exact (hns _ _ rfl rfl).elim
 ·constructor <;> simp [binOp,hr]
 ·unfold peq at he
  split at he <;> first | (cases he; done) | (constructor <;> simp [binOp,hr]; done)
theorem Zj2 {P:Program} {tt:TT} (hT:Yk P tt) {op:BinOp} {t:Nat} {x y v:Value} (w:World) (h:Zek tt op t x y=some v) :
  (binOp op t x y).run P w=.ok v w:=by
 unfold Zek at h
 split at h
 ·rename_i k a k' b
  split at h
  ·exact U4 w t h
  ·exact U4 w t h
  ·rename_i h1 h2
   cases hk:Zcp k k' with
   | false=>rw [hk] at h; cases h
   | true=>
    rw [hk] at h
    have:=Zcu hk
    subst this
    exact Zi6 w t h (fun e=>h1 e) (fun e=>h2 e)
 ·rename_i a b
  cases hs:Zhc op a.data.toList b.data.toList with
  | none=>rw [hs] at h; cases h
  | some r=>rw [hs] at h; simp only [Option.map_some,Option.some.injEq] at h; subst h; exact Zbl w t hs
 ·rename_i hni hns
  split at h
  ·cases he:Ug tt 6 t x y with
   | none=>rw [he] at h; cases h
   | some r=>
    rw [he] at h; simp only [Option.map_some,Option.some.injEq] at h; subst h
    have hr:=Zef hT w he
    exact (Za4 (fun k a k' b=>hni k a k' b) (fun a b=>hns a b) he hr).1
  ·cases he:Ug tt 6 t x y with
   | none=>rw [he] at h; cases h
   | some r=>
    rw [he] at h; simp only [Option.map_some,Option.some.injEq] at h; subst h
    have hr:=Zef hT w he
    exact (Za4 (fun k a k' b=>hni k a k' b) (fun a b=>hns a b) he hr).2
  ·cases h
end Go.SK
