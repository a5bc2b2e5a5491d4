/- Part of the library of this claim: how code is stepped through. -/
import Derived.WalkKit
import Derived.OrdersHeld
import Derived.KernelRfl
import Derived.Laws.StructEq
import Derived.Deep.RegionHeld3
import Derived.Maps.AppendAt
import Derived.Deep.Slices
import Derived.SizedLaws
import Derived.WideShapes
import Derived.ChangeShapes
import Derived.ChangeArms
import Derived.RowKit
import Derived.OpenShut
import Derived.ChangeOld
import Derived.Below
import Derived.Carry
import Derived.Laws.MakeOwn
import Derived.Laws.OwnMore
import Derived.Laws.AppendOwn
import Derived.Laws.CopyRow
import Derived.Laws.Externs
import Derived.Laws.BytesArg
import Derived.Lib.ConvBytes
import Derived.FollowTie
import Derived.ChangeKeysEq
set_option linter.unusedVariables false
set_option linter.unusedSimpArgs false
namespace Go.SK
open Go

abbrev Env:=List (Nat×Value)
def Z8:Env->Nat->Option Value
  | [],_=>none
  | (t,v) :: r,u=>cond (Nat.beq t u) (some v) (Z8 r u)
def Zl (env:Env):Operand->Option Value
  | .tmp t=>Z8 env t
  | .const v=>some v
  | .global g=>some (.pointer (some ⟨g,0,none⟩))
  | .func f=>some (.func (.func f) #[] #[])
def Yt (env:Env):List Operand->Option (List Value)
  | []=>some []
  | x :: r=>match Zl env x,Yt env r with
    | some v,some vs=>some (v :: vs)
    | _,_=>none

structure Fr (n:Nat) (env:Env) (a:Act):Prop where
  size:a.tmps.size=n
  defers:a.defers=[]
  get:∀ t v,Z8 env t=some v->a.tmps[t]?=some v

theorem Fr.eval {n} {env} {a:Act} (h:Fr n env a) {x} {v} (hv:Zl env x=some v):a.eval x=v:=by
  cases x with
  | tmp t=>have:=h.get t v hv; simp [Act.eval,this]
  | const u=>simpa [Zl,Act.eval] using hv
  | global g=>simpa [Zl,Act.eval] using hv
  | func f=>simpa [Zl,Act.eval] using hv

theorem Fr.evals {n} {env} {a:Act} (h:Fr n env a):∀ {xs} {vs},Yt env xs=some vs->xs.map a.eval=vs
  | [],vs,hv=>by simp [Yt] at hv; simp [hv]
  | x :: r,vs,hv=>by
    simp only [Yt] at hv;split at hv
    · rename_i v us h1 h2
      simp only [Option.some.injEq] at hv;subst hv;simp [h.eval h1,h.evals h2]
    · cases hv

theorem Fr.put {n} {env} {a:Act} (h:Fr n env a) {t} (v) (ht:Nat.ble (t+1) n=true):Fr n ((t,v) :: env) (a.put (some t) v):=by
  have ht':t<a.tmps.size:=by rw [h.size]; exact Nat.le_of_ble_eq_true ht
  refine ⟨by simp [Act.put,h.size],h.defers,fun u x hx=>?_⟩;simp only [Z8] at hx;cases hb:Nat.beq t u with
  | true=>
    rw [hb] at hx;have e:t=u:=Nat.eq_of_beq_eq_true hb;subst e;simp only [cond_true,Option.some.injEq] at hx;subst hx;simp [Act.put,ht']
  | false=>
    rw [hb] at hx;have e:t≠u:=Nat.ne_of_beq_eq_false hb;simp only [cond_false] at hx;simp [Act.put,Array.getElem?_setIfInBounds_ne e,h.get u x hx]

def Xe (d:Option Nat) (v:Value) (env:Env):Env:=match d with | some t=>(t,v) :: env | none=>env
def Xs (n:Nat) (d:Option Nat):Bool:=match d with | some t=>Nat.ble (t+1) n | none=>true
theorem Fr.putD {n} {env} {a:Act} (h:Fr n env a) {d} (v) (hd:Xs n d=true):Fr n (Xe d v env) (a.put d v):=by
  cases d with
  | none=>exact h
  | some t=>exact h.put v hd

def keep:List Nat->Env->Env
  | [],_=>[]
  | t :: ts,env=>match Z8 env t with | some v=>(t,v) :: keep ts env | none=>keep ts env
theorem Zms {ts} {env} {t} {v} (h:Z8 (keep ts env) t=some v):Z8 env t=some v:=by
  induction ts with
  | nil=>simp [keep,Z8] at h
  | cons u us ih=>
    simp only [keep] at h;split at h
    · rename_i x hx
      simp only [Z8] at h;cases hb:Nat.beq u t with
      | true=>
        rw [hb] at h;have e:u=t:=Nat.eq_of_beq_eq_true hb;subst e;simp only [cond_true] at h;rw [hx]; exact h
      | false=>rw [hb] at h; exact ih h
    · exact ih h
theorem Fr.keep {n} {env} {a:Act} (h:Fr n env a) (ts):Fr n (SK.keep ts env) a:=⟨h.size,h.defers,fun t v hv=>h.get t v (Zms hv)⟩

inductive TK where
  | int (k:IntKind) | bool | str | slice (e:Nat)
  | struct (fs:List (Nat×Nat×Nat))   -- type,offset,cells
  | ptr (e:Nat) | map (k e:Nat) | func | iface | other
structure TI where
  kind:TK
  size:Nat
  bytes:Nat
  zero:Value
abbrev TT:=List (Nat×TI)
def find:TT->Nat->Option TI
  | [],_=>none
  | (t,i) :: r,u=>cond (Nat.beq t u) (some i) (find r u)
def TK.ok (P:Program) (t:Nat):TK->Prop
  | .int k=>P.underlying t=some (.int k)
  | .bool=>P.underlying t=some .bool
  | .str=>P.underlying t=some .string
  | .slice e=>P.underlying t=some (.slice e)
  | .struct fs => ∃ fields : List Field, P.underlying t = some (.struct fields.toArray) ∧ fields.map (fun f => (f.type, f.offset, P.cellsOf f.type)) = fs ∧ (fs.all fun f => (P.info? f.1).isSome) = true ∧ (fs.all fun f => !Nat.beq f.2.2 0) = true ∧ P.stoodInHeld t = false ∧ P.eqGuardType P.depth t = false ∧ (fields.all fun f => f.name != "_") = true
  | .ptr e=>P.underlying t=some (.pointer e)
  | .map k e=>P.underlying t=some (.map k e)
  | .func=>∃ ps rs v,P.underlying t=some (.func ps rs v)
  | .iface=>∃ ms,P.underlying t=some (.interface ms)
  | .other=>True
structure TI.ok (P:Program) (t:Nat) (i:TI):Prop where
  info:(P.info? t).map (fun j=>(j.size,j.bytes,j.zero))=some (i.size,i.bytes,some i.zero)
  kind:i.kind.ok P t
def Yq (P:Program) (tt:TT):Prop:=∀ t i,find tt t=some i->i.ok P t
theorem Zns (P):Yq P []:=fun t i h=>by cases h
theorem Zfa {P} {tt} {t} {i} (h:i.ok P t) (ht:Yq P tt):Yq P ((t,i) :: tt):=fun u j hj=>by
  simp only [find] at hj;cases hb:Nat.beq t u with
  | true=>
    rw [hb] at hj;have e:t=u:=Nat.eq_of_beq_eq_true hb;subst e;simp only [cond_true,Option.some.injEq] at hj;subst hj; exact h
  | false=>rw [hb] at hj; exact ht u j hj

theorem TI.ok.info' {P:Program} {t:Nat} {i:TI} (h:i.ok P t):∃ j,P.info? t=some j/\j.size=i.size/\j.bytes=i.bytes/\j.zero=some i.zero:=by
  have:=h.info;cases hj:P.info? t with
  | none=>rw [hj] at this; cases this
  | some j=>rw [hj] at this; simp at this; exact ⟨j,rfl,this⟩
theorem TI.ok.cellsOf {P:Program} {t:Nat} {i:TI} (h:i.ok P t):P.cellsOf t=i.size:=by
  obtain ⟨j,hj,h1,_⟩:=h.info';simp [Program.cellsOf,hj,h1]

section runs
variable {P:Program} {t:Nat} {i:TI} (w:World)
theorem Zat (h:i.ok P t):∃ j,(typeInfo t).run P w=.ok j w/\j.size=i.size/\j.bytes=i.bytes/\j.zero=some i.zero:=by
  obtain ⟨j,hj,r⟩:=h.info';exact ⟨j,by simp [typeInfo,hj],r⟩
theorem X1 (h:i.ok P t):(sizeOf t).run P w=.ok i.size w:=by
  obtain ⟨j,hj,h1,_⟩:=Zat w h;simp [sizeOf,hj,h1]
theorem Vd (h:i.ok P t):(zeroValue t).run P w=.ok i.zero w:=by
  obtain ⟨j,hj,h1,h2,h3⟩:=Zat w h;simp [zeroValue,hj,h3]
theorem Zw {d:TypeDesc} (h:P.underlying t=some d):(underlying t).run P w=.ok d w:=by simp [underlying,h]
end runs
end Go.SK

namespace Go.SK
open Go

def Zqm (op:BinOp) (x y:Int):Option Bool:=
  match op with
  | .eql=>some (decide (x=y))
  | .neq=>some (!decide (x=y))
  | .lss=>some (decide (x<y))
  | .leq=>some (decide (x<=y))
  | .gtr=>some (decide (y<x))
  | .geq=>some (decide (y<=x))
  | _=>none
def Zkp (op:BinOp) (k:IntKind) (x y:Int):Option Value:=
  match op with
  | .add=>some (.int k (k.wrap (x+y)))
  | .sub=>some (.int k (k.wrap (x - y)))
  | .mul=>some (.int k (k.wrap (x*y)))
  | .and=>some (.int k (k.wrap ((BitVec.ofInt k.bits x &&& BitVec.ofInt k.bits y).toNat)))
  | .or=>some (.int k (k.wrap ((BitVec.ofInt k.bits x ||| BitVec.ofInt k.bits y).toNat)))
  | .xor=>some (.int k (k.wrap ((BitVec.ofInt k.bits x ^^^ BitVec.ofInt k.bits y).toNat)))
  | .andNot=>some (.int k (k.wrap ((BitVec.ofInt k.bits x &&& ~~~BitVec.ofInt k.bits y).toNat)))
  | .quo=>match y with | .ofNat (m+1)=>some (.int k (k.wrap (x.tdiv (.ofNat (m+1))))) | _=>none
  | .rem=>match y with | .ofNat (m+1)=>some (.int k (x.tmod (.ofNat (m+1)))) | _=>none
  | op=>(Zqm op x y).map .bool
def Zhr (op:BinOp) (k:IntKind) (x:Int) (y:Int):Option Value:=
  match op,y with
  | .shl,.ofNat m=>some (.int k (k.wrap (x*2 ^ (min m k.bits))))
  | .shr,.ofNat m=>some (.int k (x.fdiv (2 ^ (min m k.bits))))
  | _,_=>none
def Zkc (op:BinOp) (x y:List UInt8):Option Bool:=
  match op with
  | .eql=>some (decide (x=y))
  | .neq=>some (!decide (x=y))
  | .lss=>some (Op.bytesLess x y)
  | .leq=>some (Op.bytesLess x y || decide (x=y))
  | .gtr=>some (!(Op.bytesLess x y || decide (x=y)))
  | .geq=>some (!Op.bytesLess x y)
  | _=>none
def Zeh:IntKind->IntKind->Bool
  | .i8,.i8 | .i16,.i16 | .i32,.i32 | .i64,.i64 | .u8,.u8 | .u16,.u16 | .u32,.u32 | .u64,.u64=>true
  | _,_=>false
theorem Zei {a b} (h:Zeh a b=true):a=b:=by cases a <;> cases b <;> first | rfl | cases h

def peq (tt:TT) (t:Nat) (x y:Value):Option Bool:=
  match find tt t,x,y with
  | some ⟨.bool,_,_,_⟩,.bool a,.bool b=>some (a == b)
  | some ⟨.slice _,_,_,_⟩,.slice a _ _,.slice none _ _=>some a.isNone
  | some ⟨.slice _,_,_,_⟩,.slice none _ _,.slice b _ _=>some b.isNone
  | some ⟨.ptr _,_,_,_⟩,.pointer a,.pointer none=>some a.isNone
  | some ⟨.ptr _,_,_,_⟩,.pointer none,.pointer b=>some b.isNone
  | some ⟨.func,_,_,_⟩,.nilFunc,.nilFunc=>some true
  | some ⟨.func,_,_,_⟩,.func _ _ _,.nilFunc=>some false
  | some ⟨.map _ _,_,_,_⟩,.map a,.map none=>some a.isNone
  | _,_,_=>none

def nth {α:Type}:List α->Nat->Option α
  | [],_=>none
  | x :: r,n=>match n with | 0=>some x | n+1=>nth r n
theorem Yk {α:Type} (l:List α) (n):nth l n=l[n]?:=by
  induction l generalizing n with
  | nil=>rfl
  | cons x r ih=>cases n with
    | zero=>rfl
    | succ n=>simpa [nth] using ih n

theorem Zc4 {P} {tt} (hT:Yq P tt) {t} {i} (hi:find tt t=some i) (w) (cs) (off) {v}
    (h:(match i.kind with | .struct _=>some (.agg ((cs.toList.drop off).take i.size).toArray) | .other=>none | _=>nth cs.toList off)=some v) :
    (part t cs off).run P w=.ok v w:=by
  have hok:=hT _ _ hi;have hk:=hok.kind;have hsz:=X1 w hok;cases hkk:i.kind with
  | struct fs=>
    rw [hkk] at h hk;obtain ⟨fields,hu,_⟩:=hk;simp only [Option.some.injEq] at h;subst h;simp only [part,isAgg,Sem.run_bind,Zw w hu,Result.andThen_ok,hsz,Sem.run_pure,Sem.run_ite,if_true,Sem.run_map];congr 2;apply Array.ext';simp [Array.toList_extract,List.extract_eq_take_drop]
  | other=>rw [hkk] at h; cases h
  | int k=>
    rw [hkk] at h hk; simp only [TK.ok] at hk; rw [Yk] at h; have h':cs[off]?=some v:=by simpa using h
    simp [part,isAgg,Zw w hk,h']
  | bool=>
    rw [hkk] at h hk; simp only [TK.ok] at hk; rw [Yk] at h; have h':cs[off]?=some v:=by simpa using h
    simp [part,isAgg,Zw w hk,h']
  | str=>
    rw [hkk] at h hk; simp only [TK.ok] at hk; rw [Yk] at h; have h':cs[off]?=some v:=by simpa using h
    simp [part,isAgg,Zw w hk,h']
  | slice e=>
    rw [hkk] at h hk; simp only [TK.ok] at hk; rw [Yk] at h; have h':cs[off]?=some v:=by simpa using h
    simp [part,isAgg,Zw w hk,h']
  | ptr e=>
    rw [hkk] at h hk; simp only [TK.ok] at hk; rw [Yk] at h; have h':cs[off]?=some v:=by simpa using h
    simp [part,isAgg,Zw w hk,h']
  | map k e=>
    rw [hkk] at h hk; simp only [TK.ok] at hk; rw [Yk] at h; have h':cs[off]?=some v:=by simpa using h
    simp [part,isAgg,Zw w hk,h']
  | func=>
    rw [hkk] at h hk; obtain ⟨ps,rs,vv,hk⟩:=hk; rw [Yk] at h; have h':cs[off]?=some v:=by simpa using h
    simp [part,isAgg,Zw w hk,h']
  | iface=>
    rw [hkk] at h hk; obtain ⟨ms,hk⟩:=hk; rw [Yk] at h; have h':cs[off]?=some v:=by simpa using h
    simp [part,isAgg,Zw w hk,h']
def Zgq (tt:TT) (t:Nat) (cs:List Value) (off:Nat):Option Value:=
  match find tt t with
  | some i=>match i.kind with
    | .struct _=>some (.agg ((cs.drop off).take i.size).toArray)
    | .other=>none
    | _=>nth cs off
  | none=>none
theorem Zfr {P} {tt} (hT:Yq P tt) {t} {cs} {off} {v} (h:Zgq tt t cs.toList off=some v) (w):(part t cs off).run P w=.ok v w:=by
  unfold Zgq at h;split at h
  · rename_i i hi; exact Zc4 hT hi w cs off h
  · cases h
def Zhe (tt:TT) (eq:Nat->Value->Value->Option Bool) (xs ys:List Value):List (Nat×Nat×Nat)->Option Bool
  | []=>some true
  | (t,off,_) :: r=>match Zgq tt t xs off,Zgq tt t ys off with
    | some a,some b=>match eq t a b,Zhe tt eq xs ys r with
      | some p,some q=>some (p && q)
      | _,_=>none
    | _,_=>none
def U8 (tt:TT):Nat->Nat->Value->Value->Option Bool
  | 0,_,_,_=>none
  | d+1,t,x,y=>match find tt t,x,y with
    | some ⟨.int _,_,_,_⟩,.int k a,.int k' b=>cond (Zeh k k') (some (decide (a=b))) none
    | some ⟨.str,_,_,_⟩,.string a,.string b=>some (decide (a.data.toList=b.data.toList))
    | some ⟨.struct fs,_,_,_⟩,.agg xs,.agg ys=>Zhe tt (U8 tt d) xs.toList ys.toList fs
    | _,_,_=>peq tt t x y
def Zgt (tt:TT) (op:BinOp) (t:Nat) (x y:Value):Option Value:=
  match x,y with
  | .int k a,.int k' b=>match op with
    | .shl | .shr=>Zhr op k a b
    | _=>cond (Zeh k k') (Zkp op k a b) none
  | .string a,.string b=>(Zkc op a.data.toList b.data.toList).map .bool
  | _,_=>match op with
    | .eql=>(U8 tt 6 t x y).map .bool
    | .neq=>(U8 tt 6 t x y).map fun b=>.bool (!b)
    | _=>none

theorem Znq {P:Program} {op:BinOp} {k:IntKind} {x y:Int} {v:Value} (w:World) (t:Nat) (h:Zkp op k x y=some v) (h1:op≠.shl) (h2:op≠.shr) :
    (binOp op t (.int k x) (.int k y)).run P w=.ok v w:=by
  by_cases hq:op=.quo\/op=.rem
  · cases y with
    | negSucc m=>rcases hq with rfl | rfl <;> cases h
    | ofNat m=>
      cases m with
      | zero=>rcases hq with rfl | rfl <;> cases h
      | succ m=>
        have hd:¬ ((m:Int)+1=0):=by omega
        rcases hq with rfl | rfl <;> simp only [Zkp,Option.some.injEq] at h <;> subst h <;> simp [binOp,Op.intDiv,hd]
  · have hne:∀ a b:Int,(a != b)=!decide (a=b):=fun a b=>by by_cases hh:a=b <;> simp [hh]
    cases op <;> simp only [Zkp,Zqm,Option.map_some,Option.some.injEq] at h <;> first
      | exact absurd rfl h1
      | exact absurd rfl h2
      | exact absurd (Or.inl rfl) hq
      | exact absurd (Or.inr rfl) hq
      | (cases h; done)
      | (subst h; simp [binOp,Op.intArith,Op.intBits,Op.intCmp]; done)
      | (subst h; simp [binOp,Op.intCmp,hne]; done)
      | (subst h; simp [binOp,Op.intCmp]; rfl)

theorem J2 {P:Program} {op:BinOp} {k k':IntKind} {x y:Int} {v:Value} (w:World) (t:Nat) (h:Zhr op k x y=some v) :
    (binOp op t (.int k x) (.int k' y)).run P w=.ok v w:=by
  cases op <;> simp only [Zhr] at h <;> first | (cases h; done) | skip
  all_goals
    cases y with
    | negSucc m=>cases h
    | ofNat m=>
      simp only [Option.some.injEq] at h;subst h;have:¬ ((m:Int)<0):=by omega
      simp [binOp,Op.shift,this]

theorem Zc5 {P:Program} {op:BinOp} {x y:ByteArray} {b:Bool} (w:World) (t:Nat) (h:Zkc op x.data.toList y.data.toList=some b) :
    (binOp op t (.string x) (.string y)).run P w=.ok (.bool b) w:=by
  have e:∀ s:ByteArray,s.toList=s.data.toList:=ByteArray.toList_eq;have hbeq:∀ a b:List UInt8,(a == b)=decide (a=b):=fun a b=>by by_cases hh:a=b <;> simp [hh]
  cases op <;> simp only [Zkc] at h <;> first
    | (cases h; done)
    | (simp only [Option.some.injEq] at h; subst h; simp only [binOp,Op.stringOp,e,hbeq,Sem.run_pure])

section
variable {P:Program} {t:Nat} (w:World) (d:Nat)
theorem Znp (h:P.underlying t=some .bool) (a b):(Op.equalIn (d+1) t (.bool a) (.bool b)).run P w=.ok (a == b) w:=by
  unfold Op.equalIn; simp [Zw w h]
theorem Zl1 {e:Nat} (h:P.underlying t=some (.slice e)) (a:Option Addr) (n c n' c':Nat):(Op.equalIn (d+1) t (.slice a n c) (.slice none n' c')).run P w=.ok a.isNone w:=by
  unfold Op.equalIn; cases a <;> simp [Zw w h]
theorem Zku {e:Nat} (h:P.underlying t=some (.slice e)) (a:Option Addr) (n c n' c':Nat):(Op.equalIn (d+1) t (.slice none n c) (.slice a n' c')).run P w=.ok a.isNone w:=by
  unfold Op.equalIn; cases a <;> simp [Zw w h]
theorem Zpd {e:Nat} (h:P.underlying t=some (.pointer e)) (a:Option Addr):(Op.equalIn (d+1) t (.pointer a) (.pointer none)).run P w=.ok a.isNone w:=by
  unfold Op.equalIn; cases a <;> simp [Zw w h]
theorem Zna {e:Nat} (h:P.underlying t=some (.pointer e)) (a:Option Addr):(Op.equalIn (d+1) t (.pointer none) (.pointer a)).run P w=.ok a.isNone w:=by
  unfold Op.equalIn; cases a <;> simp [Zw w h]
theorem Zn7 {ps rs:Array TypeId} {v} (h:P.underlying t=some (.func ps rs v)):(Op.equalIn (d+1) t .nilFunc .nilFunc).run P w=.ok true w:=by
  unfold Op.equalIn; simp [Zw w h]
theorem Zlq {ps rs:Array TypeId} {v} (h:P.underlying t=some (.func ps rs v)) (f:Fn) (a b):(Op.equalIn (d+1) t (.func f a b) .nilFunc).run P w=.ok false w:=by
  unfold Op.equalIn; simp [Zw w h]
theorem Zo1 {k e:Nat} (h:P.underlying t=some (.map k e)) (a:Option Nat):(Op.equalIn (d+1) t (.map a) (.map none)).run P w=.ok a.isNone w:=by
  unfold Op.equalIn; cases a <;> simp [Zw w h]
end
theorem Zj5 {P} {tt} (hT:Yq P tt) {t} {x y} {b} (w) (d) (h:peq tt t x y=some b) :
    (Op.equalIn (d+1) t x y).run P w=.ok b w:=by
  unfold peq at h;split at h
  case h_9=>cases h
  all_goals
    rename_i hf;have hk:=(hT _ _ hf).kind;simp only [TK.ok] at hk;simp only [Option.some.injEq] at h;subst h
  · exact Znp w d hk _ _
  · exact Zl1 w d hk _ _ _ _ _
  · exact Zku w d hk _ _ _ _ _
  · exact Zpd w d hk _
  · exact Zna w d hk _
  · obtain ⟨ps,rs,vv,hk⟩:=hk; exact Zn7 w d hk
  · obtain ⟨ps,rs,vv,hk⟩:=hk; exact Zlq w d hk _ _ _
  · exact Zo1 w d hk _
theorem Zii {P:Program} {tt:TT} (hT:Yq P tt) {eq:Nat->Value->Value->Option Bool} {D:Nat} (he:∀ t a b r w,eq t a b=some r->(Op.equalIn D t a b).run P w=.ok r w) {xs ys:Array Value} (w:World) :
    ∀ (fields : List Field) (r : Bool), (∀ f ∈ fields, (f.name != "_") = true) → Zhe tt eq xs.toList ys.toList (fields.map fun f => (f.type, f.offset, P.cellsOf f.type)) = some r → (Op.eqFields D xs ys fields).run P w = .ok r w
  | [],r,_,h=>by simp only [List.map_nil,Zhe,Option.some.injEq] at h; subst h; simp [Op.eqFields]
  | f :: fs,r,hn,h=>by
    have hn' : f.name ≠ "_" := by have := hn f (by simp); simpa using this
    simp only [List.map_cons,Zhe] at h;split at h
    · rename_i a b ha hb
      split at h
      · rename_i p q hp hq
        simp only [Option.some.injEq] at h;subst h;have ih:=Zii hT he w fs q (fun g hg=>hn g (by simp [hg])) hq;rw [Op.eqFields];simp only [if_pos hn',Sem.run_bind,Zfr hT ha w,Zfr hT hb w,he _ _ _ _ w hp,Result.andThen_ok];cases p
        · simp
        · simpa using ih
      · cases h
    · cases h
theorem Zpm {P:Program} {t:Nat} {kk:IntKind} (w:World) (d:Nat) (h:P.underlying t=some (.int kk)) (k:IntKind) (a b:Int):(Op.equalIn (d+1) t (.int k a) (.int k b)).run P w=.ok (a == b) w:=run_equalIn_int w d t k kk a b h
theorem Zhc {P} {tt} (hT:Yq P tt):∀ d m t x y b w,U8 tt d t x y=some b->(Op.equalIn (m+d) t x y).run P w=.ok b w
  | 0,m,t,x,y,b,w,h=>by cases h
  | d+1,m,t,x,y,b,w,h=>by
    simp only [U8] at h;split at h
    · rename_i hf
      have hk:=(hT _ _ hf).kind;simp only [TK.ok] at hk;rename_i kk _ _ _ k a k' b';cases hb:Zeh k k' with
      | false=>rw [hb] at h; cases h
      | true=>
        rw [hb] at h;have:=Zei hb;subst this;simp only [cond_true,Option.some.injEq] at h;subst h;rw [show m+(d+1)=(m+d)+1 from rfl,Zpm w (m+d) hk];congr 1
    · rename_i hf
      have hk:=(hT _ _ hf).kind;simp only [TK.ok] at hk;simp only [Option.some.injEq] at h;subst h;rw [show m+(d+1)=(m+d)+1 from rfl,run_equalIn_string w (m+d) t _ _ hk,ByteArray.toList_eq,ByteArray.toList_eq];rename_i a b;congr 1;by_cases hh:a.data.toList=b.data.toList
      · simp [hh]
      · rw [decide_eq_false hh]; exact beq_eq_false_iff_ne.2 hh
    · rename_i hf
      obtain ⟨fields,hu,hfs,_,_,hst,_,hnm⟩:=(hT _ _ hf).kind;have hfo:P.fieldsOf t=fields.toArray:=by simp [Program.fieldsOf,hu]
      rw [show m+(d+1)=(m+d)+1 from rfl,run_equalIn_struct (P:=P) w (m+d) t _ _ (by rw [hfo]; exact hu) hst,hfo];rw [<- hfs] at h;exact Zii hT (fun t a b r w he=>Zhc hT d m t a b r w he) w fields b (fun f hf=>List.all_eq_true.1 hnm f hf) h
    · exact Zj5 hT w (m+d) h
theorem Zg5 {P} {tt} (hT:Yq P tt) {t} {x y} {b} (w) (h:U8 tt 6 t x y=some b) :
    (Op.equal t x y).run P w=.ok b w:=Zhc hT 6 9994 t x y b w h
theorem Zdv {tt} {d t} {x y} {r} (he:U8 tt (d+1) t x y=some r) :
    (∃ k a k' b,x=.int k a/\y=.int k' b)\/(∃ a b,x=.string a/\y=.string b)\/(∃ a b,x=.agg a/\y=.agg b/\∃ fs z1 z2 z,find tt t=some ⟨.struct fs,z1,z2,z⟩)\/peq tt t x y=some r:=by
  simp only [U8] at he;split at he
  · exact .inl ⟨_,_,_,_,rfl,rfl⟩
  · exact .inr (.inl ⟨_,_,rfl,rfl⟩)
  · rename_i hf; exact .inr (.inr (.inl ⟨_,_,rfl,rfl,_,_,_,_,hf⟩))
  · exact .inr (.inr (.inr he))
theorem Zcn {P} {tt} {t} {x y} {r} {w} (hni:∀ k a k' b,x=.int k a->y=.int k' b->False) (hns:∀ a b,x=.string a->y=.string b->False) (he:U8 tt 6 t x y=some r) (hr:(Op.equal t x y).run P w=.ok r w) :
    (binOp .eql t x y).run P w=.ok (.bool r) w/\(binOp .neq t x y).run P w=.ok (.bool (!r)) w:=by
  rcases Zdv he with ⟨k,a,k',b,rfl,rfl⟩ | ⟨a,b,rfl,rfl⟩ | ⟨a,b,rfl,rfl,_⟩ | he
  · exact (hni _ _ _ _ rfl rfl).elim
  · exact (hns _ _ rfl rfl).elim
  · constructor <;> simp [binOp,hr]
  · unfold peq at he
    split at he <;> first | (cases he; done) | (constructor <;> simp [binOp,hr]; done)
theorem Zni {P} {tt} (hT:Yq P tt) {op:BinOp} {t} {x y v} (w) (h:Zgt tt op t x y=some v) :
    (binOp op t x y).run P w=.ok v w:=by
  unfold Zgt at h;split at h
  · rename_i k a k' b
    split at h
    · exact J2 w t h
    · exact J2 w t h
    · rename_i h1 h2
      cases hk:Zeh k k' with
      | false=>rw [hk] at h; cases h
      | true=>
        rw [hk] at h;have:=Zei hk;subst this;exact Znq w t h (fun e=>h1 e) (fun e=>h2 e)
  · rename_i a b
    cases hs:Zkc op a.data.toList b.data.toList with
    | none=>rw [hs] at h; cases h
    | some r=>rw [hs] at h; simp only [Option.map_some,Option.some.injEq] at h; subst h; exact Zc5 w t hs
  · rename_i hni hns
    split at h
    · cases he:U8 tt 6 t x y with
      | none=>rw [he] at h; cases h
      | some r=>
        rw [he] at h; simp only [Option.map_some,Option.some.injEq] at h; subst h;have hr:=Zg5 hT w he;exact (Zcn (fun k a k' b=>hni k a k' b) (fun a b=>hns a b) he hr).1
    · cases he:U8 tt 6 t x y with
      | none=>rw [he] at h; cases h
      | some r=>
        rw [he] at h; simp only [Option.map_some,Option.some.injEq] at h; subst h;have hr:=Zg5 hT w he;exact (Zcn (fun k a k' b=>hni k a k' b) (fun a b=>hns a b) he hr).2
    · cases h
end Go.SK

namespace Go.SK
open Go

def Z0 (off:Nat) (vs:List Value) (cs:List Value):List Value:=cs.take off ++ vs ++ cs.drop (off+vs.length)
def lay (fs:List (Nat×Nat×Nat)):List (Nat×Value)->List Value->Option (List Value)
  | [],cs=>some cs
  | (i,v) :: r,cs=>match nth fs i with
    | some (_,off,sz)=>cond (Nat.beq v.cells.toList.length sz && Nat.ble (off+sz) cs.length) (lay fs r (Z0 off v.cells.toList cs)) none
    | none=>none

theorem Zf0 (vs:List Value) (off:Nat):∀(j:Nat) (cs:Array Value),off+j+vs.length<=cs.size->
    ((vs.zipIdx j).foldl (fun cs (x:Value×Nat)=>cs.setIfInBounds (off+x.2) x.1) cs).toList=Z0 (off+j) vs cs.toList:=by
  induction vs with
  | nil=>intro j cs h; simp [Z0]
  | cons v vs ih=>
    intro j cs h;simp only [List.length_cons] at h;simp only [List.zipIdx_cons,List.foldl_cons];have:=ih (j+1) (cs.setIfInBounds (off+j) v) (by simp; omega);rw [this];simp only [Z0,Array.toList_setIfInBounds,List.length_cons];have hl:off+j<cs.toList.length:=by simp; omega
    have e1:(cs.toList.set (off+j) v).take (off+(j+1))=cs.toList.take (off+j) ++ [v]:=by
      rw [List.take_set,show off+(j+1)=(off+j)+1 from by omega,List.take_succ_eq_append_getElem hl,List.set_append];have hm:min (off+j) cs.size=off+j:=Nat.min_eq_left (by simp at hl; omega);simp [hm]
    have e2:(cs.toList.set (off+j) v).drop (off+(j+1)+vs.length)=cs.toList.drop (off+j+(vs.length+1)):=by
      rw [List.drop_set,if_pos (by omega)]; congr 1; omega
    rw [e1,e2];simp

theorem Zau (xs:Array Value):xs.zipIdx.toList=xs.toList.zipIdx:=by simp

theorem Zik {P:Program} (fs:List (Nat×Nat×Nat)) (place:Nat->Option (Nat×Nat)) (hp:∀ i,place i=(fs[i]?).map fun f=>(f.2.1,f.2.2)) :
    ∀(parts:List (Nat×Value)) (cs:Array Value) (r:List Value),lay fs parts cs.toList=some r->Instr.fill place cs parts=some r.toArray
  | [],cs,r,h=>by
    simp only [lay,Option.some.injEq] at h;simp [Instr.fill,<- h]
  | (i,v) :: rest,cs,r,h=>by
    simp only [lay,Yk] at h;split at h
    · rename_i t off sz hn
      cases hc:(Nat.beq v.cells.toList.length sz && Nat.ble (off+sz) cs.toList.length) with
      | false=>rw [hc] at h; cases h
      | true=>
        rw [hc] at h;simp only [Bool.and_eq_true] at hc;have h1:v.cells.size=sz:=by have:=Nat.eq_of_beq_eq_true hc.1; simpa using this
        have h2:off+sz<=cs.size:=by have:=Nat.le_of_ble_eq_true hc.2; simpa using this
        simp only [Instr.fill,hp,hn,Option.map_some];rw [if_neg (by simp [h1]; omega)];simp only [cond_true] at h;have hf:(Array.foldl (fun(cs:Array Value) (x:Value×Nat)=>cs.setIfInBounds (off+x.2) x.1) cs v.cells.zipIdx).toList=Z0 off v.cells.toList cs.toList:=by
          rw [<- Array.foldl_toList,Zau];have:=Zf0 v.cells.toList off 0 cs (by simp; omega);simpa using this
        exact Zik (P:=P) fs place hp rest _ r (by rw [hf]; exact h)
    · cases h

def isAggK:TK->Bool | .struct _=>true | _=>false

def pv (tt:TT) (env:Env) (o:Oper):Option Value:=
  match o.op with
  | .move x=>Zl env x
  | .assign x=>Zl env x
  | .nilCheck x=>match Zl env x with | some (.pointer (some a))=>some (.pointer (some a)) | some (.func (.func f) a b)=>some (.func (.func f) a b) | _=>none
  | .pick c a b=>match Zl env c with | some (.bool true)=>Zl env a | some (.bool false)=>Zl env b | _=>none
  | .binOp op t x y _=>match Zl env x,Zl env y with | some a,some b=>Zgt tt op t a b | _,_=>none
  | .unOp op _ x=>match op,Zl env x with
    | .not,some (.bool b)=>some (.bool (!b))
    | .neg,some (.int k n)=>some (.int k (k.wrap (0 - n)))
    | .xor,some (.int k n)=>some (.int k (k.wrap ((BitVec.ofInt k.bits (if k.signed then -1 else k.max) ^^^ BitVec.ofInt k.bits n).toNat)))
    | _,_=>none
  | .convert s d x=>match find tt s,find tt d,Zl env x with
    | some ⟨.int _,_,_,_⟩,some ⟨.int k,_,_,_⟩,some (.int _ n)=>some (.int k (k.wrap n))
    | some ⟨.str,_,_,_⟩,some ⟨.str,_,_,_⟩,some (.string b)=>some (.string b)
    | _,_,_=>none
  | .extract x i=>match Zl env x with | some (.tuple vs)=>nth vs.toList i | _=>none
  | .fieldAddr s x f=>match find tt s,Zl env x with
    | some ⟨.struct fs,_,_,_⟩,some (.pointer (some ⟨b,off,none⟩))=>match nth fs f with
      | some (_,fo,_)=>some (.pointer (some ⟨b,off+fo,none⟩))
      | none=>none
    | _,_=>none
  | .field s x f=>match find tt s,Zl env x with
    | some ⟨.struct fs,_,_,_⟩,some (.agg cs)=>match nth fs f with
      | some (t,fo,sz)=>match find tt t with
        | some ⟨.struct _,_,_,_⟩=>some (.agg ((cs.toList.drop fo).take sz).toArray)
        | some ⟨.other,_,_,_⟩=>none
        | some _=>nth cs.toList fo
        | none=>none
      | none=>none
    | _,_=>none
  | .build t parts=>match find tt t,Yt env (parts.toList.map (·.2)) with
    | some ⟨.struct fs,_,_,z⟩,some vs=>match lay fs ((parts.toList.map (·.1)).zip vs) z.cells.toList with
      | some cs=>some (.agg cs.toArray)
      | none=>none
    | _,_=>none
  | .makeFunc fn first captured=>match Yt env first.toList,Yt env captured.toList with
    | some a,some b=>some (.func fn a.toArray b.toArray)
    | _,_=>none
  | .makeInterface t x=>match find tt t,Zl env x with
    | some ⟨.iface,_,_,_⟩,_=>none
    | some ⟨.other,_,_,_⟩,_=>none
    | some _,some v=>some (.iface t v)
    | _,_=>none
  | .call { callee:=.builtin b,args:=xs,argTypes:=ts }=>match b,ts.toList,Yt env xs.toList with
    | .len,t :: _,some [.slice _ n _]=>match find tt t with | some ⟨.slice _,_,_,_⟩=>some (.int .i64 (n:Nat)) | _=>none
    | .len,t :: _,some [.string s]=>match find tt t with | some ⟨.str,_,_,_⟩=>some (.int .i64 (s.data.toList.length:Nat)) | _=>none
    | .cap,t :: _,some [.slice _ _ n]=>match find tt t with | some ⟨.slice _,_,_,_⟩=>some (.int .i64 (n:Nat)) | _=>none
    | .max,_,some [.int k x,.int _ y]=>some (.int k (if y>x then y else x))
    | .min,_,some [.int k x,.int _ y]=>some (.int k (if y<x then y else x))
    | .max,_,some [.string x,.string y]=>some (.string ⟨⟨if (!Op.bytesLess x.data.toList y.data.toList)=true then x.data.toList else y.data.toList⟩⟩)
    | .min,_,some [.string x,.string y]=>some (.string ⟨⟨if (Op.bytesLess x.data.toList y.data.toList || decide (x.data.toList=y.data.toList))=true then x.data.toList else y.data.toList⟩⟩)
    | _,_,_=>none
  | _=>none

theorem Wy {n:Nat} {env:Env} {a:Act} (hf:Fr n env a) {xs:Array Operand} {vs:List Value} (h:Yt env xs.toList=some vs):xs.map a.eval=vs.toArray:=by
  apply Array.ext'; rw [Array.toList_map,hf.evals h]
end Go.SK

namespace Go.SK
open Go

theorem Znf {P} {op:BinOp} {t} {x y} {a b v} {tt} (hT:Yq P tt) (w) (h:Zgt tt op t a b=some v) :
    (eqGuard op t x y a b).run P w=.ok () w:=by
  by_cases hop:op=.eql\/op=.neq
  · have agg:∀ p q,a=.agg p->b=.agg q->(∃ fs z1 z2 z,find tt t=some ⟨.struct fs,z1,z2,z⟩)->(eqGuard op t x y a b).run P w=.ok () w:=by
      rintro p q rfl rfl ⟨fs,z1,z2,z,hf⟩;obtain ⟨fields,hu,hfs,_,_,_,hg,_⟩:=(hT _ _ hf).kind;rcases hop with rfl | rfl <;> exact run_eqGuard_agg w _ t x y p q hg
    have other:∀ r,peq tt t a b=some r->(eqGuard op t x y a b).run P w=.ok () w:=by
      intro r he;unfold peq at he;split at he <;> first | (cases he; done) | (simp [eqGuard]; done)
    unfold Zgt at h;split at h
    · rename_i k p k' q; simp [eqGuard]
    · simp [eqGuard]
    · have:∃ r,U8 tt 6 t a b=some r:=by
        rcases hop with rfl | rfl <;> (simp only at h; cases he:U8 tt 6 t a b with
          | none=>rw [he] at h; cases h
          | some r=>exact ⟨r,rfl⟩)
      obtain ⟨r,he⟩:=this;rcases Zdv he with ⟨k,p,k',q,rfl,rfl⟩ | ⟨p,q,rfl,rfl⟩ | ⟨p,q,e1,e2,hf⟩ | he
      · simp [eqGuard]
      · simp [eqGuard]
      · exact agg p q e1 e2 hf
      · exact other r he
  · unfold eqGuard
    cases op <;> first | (simp; done) | exact absurd (Or.inl rfl) hop | exact absurd (Or.inr rfl) hop

theorem Gp {P} (w):∀(fields:List Field),(∀ f∈fields,∃ i,P.info? f.type=some i)->
    (fields.mapM (fun f=>Prod.mk f.offset <$> sizeOf f.type):Sem (List (Nat×Nat))).run P w=.ok (fields.map fun f=>(f.offset,P.cellsOf f.type)) w
  | [],_=>by simp
  | f :: fs,h=>by
    obtain ⟨i,hi⟩:=h f (by simp);have hs:(sizeOf f.type).run P w=.ok (P.cellsOf f.type) w:=by simp [sizeOf,typeInfo,hi,Program.cellsOf]
    have ih:=Gp w fs (fun g hg=>h g (by simp [hg]));simp only [List.mapM_cons,Sem.run_bind,Sem.run_map,hs,Result.andThen_ok,Sem.run_pure,List.map_cons];rw [ih]; rfl

theorem Zc3 {n:Nat} {env:Env} {a:Act} (hf:Fr n env a):∀(parts:List (Nat×Operand)) (vs:List Value),Yt env (parts.map (·.2))=some vs->parts.map (fun x=>(x.1,a.eval x.2))=(parts.map (·.1)).zip vs
  | [],vs,h=>by simp
  | p :: ps,vs,h=>by
    simp only [List.map_cons,Yt] at h;split at h
    · rename_i v us h1 h2
      simp only [Option.some.injEq] at h; subst h;simp [hf.eval h1,Zc3 hf ps us h2]
    · cases h

set_option maxHeartbeats 1000000 in
theorem Znz {P:Program} {tt:TT} (hT:Yq P tt) {n:Nat} {env:Env} {a:Act} (hf:Fr n env a) {o:Oper} {v:Value} (h:pv tt env o=some v) (w:World) :
    (execOp a.eval o).run P w=.ok (.value v) w:=by
  obtain ⟨dst,op,ty,pos,after,guard⟩:=o;cases op <;> simp only [pv] at h <;> try (cases h; done)
  case move x=>simp [execOp,hf.eval h]
  case assign x=>simp [execOp,hf.eval h]
  case pick c x y=>
    split at h
    · rename_i hc; simp [execOp,hf.eval hc,hf.eval h,asBool]
    · rename_i hc; simp [execOp,hf.eval hc,hf.eval h,asBool]
    · cases h
  case nilCheck x=>
    split at h
    · rename_i hx; simp only [Option.some.injEq] at h; subst h; simp [execOp,hf.eval hx]
    · rename_i hx; simp only [Option.some.injEq] at h; subst h; simp [execOp,hf.eval hx]
    · cases h
  case binOp op t x y yt=>
    split at h
    · rename_i p q hp hq
      simp [execOp,hf.eval hp,hf.eval hq,Znf hT w h,Zni hT w h]
    · cases h
  case unOp op t x=>
    split at h
    · rename_i hx; simp only [Option.some.injEq] at h; subst h; simp [execOp,hf.eval hx,Op.unary]
    · rename_i hx; simp only [Option.some.injEq] at h; subst h; simp [execOp,hf.eval hx,Op.unary,Op.intArith]
    · rename_i hx; simp only [Option.some.injEq] at h; subst h; simp [execOp,hf.eval hx,Op.unary,Op.intBits]
    · cases h
  case convert s d x=>
    split at h
    · rename_i hs hd hx
      have h1:=(hT _ _ hs).kind; have h2:=(hT _ _ hd).kind;simp only [TK.ok] at h1 h2;simp only [Option.some.injEq] at h; subst h;simp [execOp,hf.eval hx,convert,Zw w h1,Zw w h2,Conv.intToInt]
    · rename_i hs hd hx
      have h1:=(hT _ _ hs).kind; have h2:=(hT _ _ hd).kind;simp only [TK.ok] at h1 h2;simp only [Option.some.injEq] at h; subst h;simp [execOp,hf.eval hx,convert,Zw w h1,Zw w h2]
    · cases h
  case extract x i=>
    split at h
    · rename_i vs hx
      rw [Yk] at h;have h':vs[i]?=some v:=by simpa using h
      simp [execOp,hf.eval hx,Instr.extract,h']
    · cases h
  case fieldAddr s x f=>
    split at h
    · rename_i fs _ _ _ b off hs hx
      split at h
      · rename_i ft fo sz hn
        obtain ⟨fields,hu,hfs,hinf,hsz,_⟩:=(hT _ _ hs).kind;simp only [Option.some.injEq] at h; subst h;rw [Yk] at hn;have hmem:=List.mem_of_getElem? hn;rw [<- hfs,List.getElem?_map] at hn;obtain ⟨g,hg,hge⟩:=Option.map_eq_some_iff.1 hn;simp only [Prod.mk.injEq] at hge;obtain ⟨rfl,rfl,rfl⟩:=hge;obtain ⟨j,hj⟩:=Option.isSome_iff_exists.1 (List.all_eq_true.1 hinf _ hmem);have hs0:P.cellsOf g.type≠0:=fun e=>by
          have:=List.all_eq_true.1 hsz _ hmem;simp only [e] at this;cases this
        have hjs:(sizeOf g.type).run P w=.ok j.size w:=by simp [sizeOf,typeInfo,hj]
        have hj0:¬ j.size=0:=by simpa [Program.cellsOf,hj] using hs0
        have hadd:(⟨b,off,none⟩:Addr).add g.offset=⟨b,off+g.offset,none⟩:=by unfold Addr.add; split <;> simp_all
        simp [execOp,hf.eval hx,Instr.fieldAt,Zw w hu,hg,Instr.sureAddr,fieldPlace,hjs,hj0,hadd]
      · cases h
    · cases h
  case field s x f=>
    split at h
    · rename_i fs _ _ _ cs hs hx
      split at h
      · rename_i ft fo sz hn
        obtain ⟨fields,hu,hfs,hinf,hsz,_⟩:=(hT _ _ hs).kind;rw [Yk] at hn;rw [<- hfs,List.getElem?_map] at hn;obtain ⟨g,hg,hge⟩:=Option.map_eq_some_iff.1 hn;simp only [Prod.mk.injEq] at hge;obtain ⟨rfl,rfl,rfl⟩:=hge;split at h
        · rename_i hft
          have hp:=Zc4 hT hft w cs g.offset (v:=v) (by rw [<- (hT _ _ hft).cellsOf]; simpa using h);simp [execOp,hf.eval hx,Instr.field,Zw w hu,hg,asAgg,hp]
        · cases h
        · rename_i i hno hso hft
          have hp:=Zc4 hT hft w cs g.offset (v:=v) (by
            cases hk:i.kind <;> first
              | exact h
              | (exfalso; obtain ⟨ik,a1,a2,a3⟩:=i; simp only at hk; subst hk; first | exact hno _ _ _ _ rfl | exact hso _ _ _ rfl))
          simp [execOp,hf.eval hx,Instr.field,Zw w hu,hg,asAgg,hp]
        · cases h
      · cases h
    · cases h
  case makeFunc fn first captured=>
    split at h
    · rename_i x y hx hy
      simp only [Option.some.injEq] at h; subst h;simp [execOp,Instr.makeFunc,Wy hf hx,Wy hf hy]
    · cases h
  case makeInterface t x=>
    split at h
    · cases h
    · cases h
    · rename_i i u hno1 hno2 ht hx
      simp only [Option.some.injEq] at h; subst h;have hk:=(hT _ _ ht).kind;cases hkk:i.kind with
      | iface=>exfalso; obtain ⟨ik,a1,a2,a3⟩:=i; simp only at hkk; subst hkk; exact hno1 _ _ _ rfl
      | other=>exfalso; obtain ⟨ik,a1,a2,a3⟩:=i; simp only at hkk; subst hkk; exact hno2 _ _ _ rfl
      | int k=>rw [hkk] at hk; simp only [TK.ok] at hk; simp [execOp,Instr.makeInterface,Zw w hk,hf.eval hx]
      | bool=>rw [hkk] at hk; simp only [TK.ok] at hk; simp [execOp,Instr.makeInterface,Zw w hk,hf.eval hx]
      | str=>rw [hkk] at hk; simp only [TK.ok] at hk; simp [execOp,Instr.makeInterface,Zw w hk,hf.eval hx]
      | slice e=>rw [hkk] at hk; simp only [TK.ok] at hk; simp [execOp,Instr.makeInterface,Zw w hk,hf.eval hx]
      | ptr e=>rw [hkk] at hk; simp only [TK.ok] at hk; simp [execOp,Instr.makeInterface,Zw w hk,hf.eval hx]
      | map k e=>rw [hkk] at hk; simp only [TK.ok] at hk; simp [execOp,Instr.makeInterface,Zw w hk,hf.eval hx]
      | func=>rw [hkk] at hk; obtain ⟨ps,rs,vv,hk⟩:=hk; simp [execOp,Instr.makeInterface,Zw w hk,hf.eval hx]
      | struct fs=>rw [hkk] at hk; obtain ⟨fields,hk,_⟩:=hk; simp [execOp,Instr.makeInterface,Zw w hk,hf.eval hx]
    · cases h
  case build t parts=>
    split at h
    · rename_i fs z0 z1 z vs hs hvs
      split at h
      · rename_i cs hl
        simp only [Option.some.injEq] at h; subst h;have hok:=hT _ _ hs;obtain ⟨fields,hu,hfs,hinf,hsz,_⟩:=hok.kind;have hz:=Vd w hok;have hmap:parts.map (fun x=>(x.1,a.eval x.2))=((parts.toList.map (·.1)).zip vs).toArray:=by
          apply Array.ext';rw [Array.toList_map];exact Zc3 hf _ _ hvs
        have hinf':∀ f∈fields,∃ i,P.info? f.type=some i:=fun f hm=>Option.isSome_iff_exists.1 (List.all_eq_true.1 hinf (f.type,f.offset,P.cellsOf f.type) (by rw [<- hfs]; exact List.mem_map.2 ⟨f,hm,rfl⟩));have hm:=Gp w fields hinf';have hfill:=Zik (P:=P) fs (fun i=>(fields[i]?).map fun f=>(f.offset,P.cellsOf f.type)) (fun i=>by rw [<- hfs]; simp [List.getElem?_map]; try (cases fields[i]? <;> rfl)) _ z.cells cs hl
        simp [execOp,Instr.build,hz,Zw w hu,hmap,hm,hfill]
      · cases h
    · cases h
  case call c=>
    obtain ⟨cal,xs,ts⟩:=c;cases cal with
    | value f=>cases h
    | invoke r m=>cases h
    | builtin b=>
      simp only at h;have hresolve:∀ us:List Value,Yt env xs.toList=some us->xs.map a.eval=us.toArray:=fun us hu=>Wy hf hu;have hts:∀ t l,ts.toList=t :: l->ts[0]?=some t:=fun t l e=>by rw [<- Array.getElem?_toList,e]; rfl
      split at h
      · rename_i t l x n c htl hx
        have hm:=hresolve _ hx;split at h
        · rename_i ht
          have hk:=(hT _ _ ht).kind;simp only [TK.ok] at hk;simp only [Option.some.injEq] at h; subst h;simp [execOp,resolve,invoke,builtin,hm,Builtin.len_,hts _ _ htl,Zw w hk,goInt]
        · cases h
      · rename_i t l s htl hx
        have hm:=hresolve _ hx;split at h
        · rename_i ht
          have hk:=(hT _ _ ht).kind;simp only [TK.ok] at hk;simp only [Option.some.injEq] at h; subst h;simp [execOp,resolve,invoke,builtin,hm,Builtin.len_,hts _ _ htl,Zw w hk,goInt]
        · cases h
      · rename_i t l x n c htl hx
        have hm:=hresolve _ hx;split at h
        · rename_i ht
          have hk:=(hT _ _ ht).kind;simp only [TK.ok] at hk;simp only [Option.some.injEq] at h; subst h;simp [execOp,resolve,invoke,builtin,hm,Builtin.cap_,hts _ _ htl,Zw w hk,goInt]
        · cases h
      · rename_i k x k' y hx
        have hm:=hresolve _ hx;simp only [Option.some.injEq] at h; subst h;simp [execOp,resolve,invoke,builtin,hm,Builtin.max_,Builtin.max2]
      · rename_i k x k' y hx
        have hm:=hresolve _ hx;simp only [Option.some.injEq] at h; subst h;simp [execOp,resolve,invoke,builtin,hm,Builtin.min_,Builtin.min2]
      · rename_i x y hx
        have hm:=hresolve _ hx;simp only [Option.some.injEq] at h; subst h;have:=Zc5 (P:=P) (op:=.geq) (x:=x) (y:=y) w 0 rfl;simp only [binOp] at this;simp only [execOp,resolve,invoke,builtin,hm,Builtin.max_,List.foldlM,Builtin.max2,Sem.run_bind,Sem.run_pure,Result.andThen_ok,this,asBool];congr 3;split <;> rfl
      · rename_i x y hx
        have hm:=hresolve _ hx;simp only [Option.some.injEq] at h; subst h;have:=Zc5 (P:=P) (op:=.leq) (x:=x) (y:=y) w 0 rfl;simp only [binOp] at this;simp only [execOp,resolve,invoke,builtin,hm,Builtin.min_,List.foldlM,Builtin.min2,Sem.run_bind,Sem.run_pure,Result.andThen_ok,this,asBool];congr 3;split <;> rfl
      · cases h
end Go.SK

namespace Go.SK
open Go

abbrev Xg:=Exit->Env->World->Prop
def Zsm (n:Nat) (PQ:Xg) (Q:Exit->Act->World->Prop):Prop:=∀ e env a w,Fr n env a->PQ e env w->Q e a w
structure J (P:Program) (n:Nat) (c:Code) (PQ:Xg) (env:Env) (w:World):Prop where
  go:∀ a Q,Fr n env a->Zsm n PQ Q->c.wp P Q a w

def Zaf (next:Env->World->Prop) (PQ:Xg):Xg
  | .normal,env,w=>next env w
  | e,env,w=>PQ e env w
def Zl5 (id:Nat) (PQ:Xg):Xg
  | .exit id',env,w=>cond (Nat.beq id' id) (PQ .normal env w) (PQ (.exit id') env w)
  | e,env,w=>PQ e env w

section
variable {P:Program} {n:Nat} {PQ:Xg} {env:Env} {w:World}
theorem J.mono {c} {PQ':Xg} (h:J P n c PQ' env w) (hq:∀ e env w,PQ' e env w->PQ e env w):J P n c PQ env w:=
  ⟨fun a Q hf hQ=>h.go a Q hf fun e env a w hf h=>hQ e env a w hf (hq _ _ _ h)⟩
theorem J.keep (ts) {c} (h:J P n c PQ (keep ts env) w):J P n c PQ env w:=⟨fun a Q hf hQ=>h.go a Q (hf.keep ts) hQ⟩
theorem J.seq {c d} (h:J P n c (Zaf (fun env w=>J P n d PQ env w) PQ) env w):J P n (.seq c d) PQ env w:=⟨fun a Q hf hQ=>
  wp_seq (h.go a _ hf fun e env' a' w' hf' hp=>by cases e <;> first | exact hp.go a' Q hf' hQ | exact hQ _ _ _ _ hf' hp)⟩
theorem J.cond {c} {x y} {b} (hc:Zl env c=some (.bool b)) (ht:b=true->J P n x PQ env w) (hn:b=false->J P n y PQ env w):J P n (.cond c x y) PQ env w:=
  ⟨fun a Q hf hQ=>wp_cond_split (hf.eval hc) (fun e=>(ht e).go a Q hf hQ) (fun e=>(hn e).go a Q hf hQ)⟩
theorem J.block {id} {c} (h:J P n c (Zl5 id PQ) env w):J P n (.block id c) PQ env w:=⟨fun a Q hf hQ=>
  wp_block (h.go a _ hf fun e env' a' w' hf' hp=>by
    cases e with
    | exit id'=>
      simp only [Zl5] at hp;by_cases hid:id'=id
      · subst hid; rw [Nat.beq_refl] at hp; simp only [Exit.inBlock,if_true]; exact hQ _ _ _ _ hf' hp
      · have:Nat.beq id' id=false:=by
          cases hb:Nat.beq id' id with
          | false=>rfl
          | true=>exact absurd (Nat.eq_of_beq_eq_true hb) hid
        rw [this] at hp; simp only [Exit.inBlock,hid,if_false]; exact hQ _ _ _ _ hf' hp
    | normal=>exact hQ _ _ _ _ hf' hp
    | goto l=>exact hQ _ _ _ _ hf' hp
    | ret=>exact hQ _ _ _ _ hf' hp
    | panic c=>exact hQ _ _ _ _ hf' hp
    | outgrown=>exact hQ _ _ _ _ hf' hp)⟩
theorem J.skip (h:PQ .normal env w):J P n .skip PQ env w:=⟨fun a Q hf hQ=>wp_skip (hQ _ _ _ _ hf h)⟩
theorem J.exit {id} (h:PQ (.exit id) env w):J P n (.exit id) PQ env w:=⟨fun a Q hf hQ=>wp_exit (hQ _ _ _ _ hf h)⟩
theorem J.ret (h:PQ .ret env w):J P n .ret PQ env w:=⟨fun a Q hf hQ=>wp_ret (hQ _ _ _ _ hf h)⟩
theorem J.loop {c:Code} (I:Nat->Env->World->Prop) {k:Nat} (h0:I k env w)
    (round:∀ k env w,I k env w->J P n c (Zaf (fun env' w'=>∃ k',k'<k/\I k' env' w') PQ) env w):J P n (.loop c) PQ env w:=by
  refine ⟨fun a Q hf hQ=>?_⟩;have key:∀ k env w a,I k env w->Fr n env a->∀(b:Frame) (kk:List Item) (cs:List Frame),
      ∃ e a' w',Q e a' w'/\Arrives P (lone (b.at a (.code c :: .inLoop c :: kk)) cs w) b kk cs e a' w':=by
    intro k
    induction k using Nat.strongRecOn with
    | _ k ih=>
      intro env w a hI hf b kk cs;obtain ⟨e,a₁,w₁,hq,harr⟩:=(round k env w hI).go a (Exit.then (fun a' w'=>∃ k' env',k'<k/\I k' env' w'/\Fr n env' a') Q) hf (fun e env' a' w' hf' hp=>by
        cases e <;> first
          | (obtain ⟨k',hk,hi⟩:=hp; exact ⟨k',env',hk,hi,hf'⟩)
          | exact hQ _ _ _ _ hf' hp) b (.inLoop c :: kk) cs
      cases e with
      | normal=>
        obtain ⟨k',env',hk,hi,hf'⟩:=hq;obtain ⟨e₂,a₂,w₂,hq₂,harr₂⟩:=ih k' hk env' w₁ a₁ hi hf' b kk cs;exact ⟨e₂,a₂,w₂,hq₂,.of_steps (Steps.trans harr (.one step_inLoop)) harr₂⟩
      | exit id=>exact ⟨_,a₁,w₁,hq,.pass (x:=.inLoop c) rfl (fun _ _=>.inl (by simp)) harr⟩
      | goto l=>exact ⟨_,a₁,w₁,hq,.pass (x:=.inLoop c) rfl (fun _ _=>.inl (by simp)) harr⟩
      | ret=>exact ⟨_,a₁,w₁,hq,.pass (x:=.inLoop c) rfl (fun _ _=>.inl (by simp)) harr⟩
      | panic ch=>exact ⟨_,a₁,w₁,hq,.pass (x:=.inLoop c) rfl (fun _ _=>.inl (by simp)) harr⟩
      | outgrown=>exact ⟨_,a₁,w₁,hq,.pass (x:=.inLoop c) rfl (fun _ _=>.inl (by simp)) harr⟩
  intro b kk cs;obtain ⟨e,a',w',hq,harr⟩:=key k env w a h0 hf b kk cs;exact ⟨e,a',w',hq,.of_steps (.one step_loop) harr⟩
end

def Ye (ops:List Oper) (env:Env) (o:Oper):Option Bool:=
  match o.guard with
  | none=>some true
  | some (j,want)=>match nth ops j with
    | some g=>match g.dst with
      | some t=>match Z8 env t with
        | some (.bool b)=>some (cond want b (!b))
        | some (.tuple _)=>some false
        | _=>none
      | none=>none
    | none=>none
theorem Wx {ops} {n} {env} {a:Act} (hf:Fr n env a) {o} {b} (h:Ye ops.toList env o=some b):Region.wanted o (yielded ops a.tmps)=b:=by
  unfold Ye at h;unfold Region.wanted;split at h
  · rename_i hg; rw [hg]; simpa using h
  · rename_i j want hg
    rw [hg];split at h
    · rename_i g hn
      split at h
      · rename_i t ht
        split at h
        · rename_i c hl
          have hget:=hf.get _ _ hl;rw [Yk] at hn;have hn':ops[j]?=some g:=by simpa using hn
          have hy:yielded ops a.tmps j=some c:=by simp [yielded,hn',ht,hget]
          simp only [Option.some.injEq] at h;subst h;simp only [hy];cases want <;> cases c <;> rfl
        · rename_i c hl
          have hget:=hf.get _ _ hl;rw [Yk] at hn;have hn':ops[j]?=some g:=by simpa using hn
          have hy:yielded ops a.tmps j=none:=by simp [yielded,hn',ht,hget]
          simp only [Option.some.injEq] at h;subst h;simp only [hy];cases want <;> rfl
        · cases h
      · cases h
    · cases h

def QOp (P:Program) (o:Oper) (env:Env) (S:World->Prop) (v:Value):Prop:=∀ n a w,Fr n env a->S w->(execOp a.eval o).run P w=.ok (.value v) w
def OpT (P:Program) (o:Oper) (env:Env) (w:World) (K:Value->World->Prop):Prop:=
  ∀ n a next Q,Fr n env a->(∀ v w',K v w'->next (a.put o.dst v) w')->o.wp P a w next Q

theorem QOp.of_pv {P} {tt} (hT:Yq P tt) {o} {env} {v} (h:pv tt env o=some v) (S):QOp P o env S v:=fun n a w hf _=>Znz hT hf h w

structure RJ (P:Program) (n:Nat) (ops:List Oper) (l:List Oper) (K:Env->World->Prop) (env:Env) (w:World):Prop where
  go:∀ a Q,Fr n env a->(∀ env a w,Fr n env a->K env w->Q .normal a w)->wpList P ops.toArray Q l a w

section
variable {P:Program} {n:Nat} {env:Env} {w:World} {ops:List Oper} {K:Env->World->Prop} {o:Oper} {l:List Oper}
theorem J.region {id} {PQ:Xg} (h:RJ P n ops ops (PQ .normal) env w):J P n (.region id ops.toArray false) PQ env w:=⟨fun a Q hf hQ=>
  wp_region_list (by simpa using h.go a Q hf fun env a w hf h=>hQ _ _ _ _ hf h)⟩
theorem RJ.done (h:K env w):RJ P n ops [] K env w:=⟨fun a Q hf hQ=>hQ _ _ _ hf h⟩
theorem RJ.keep (ts) (h:RJ P n ops l K (keep ts env) w):RJ P n ops l K env w:=⟨fun a Q hf hQ=>h.go a Q (hf.keep ts) hQ⟩
theorem RJ.op {K'} (hw:Ye ops env o=some true) (hd:Xs n o.dst=true) (ho:OpT P o env w K') (h:∀ v w',K' v w'->RJ P n ops l K (Xe o.dst v env) w'):RJ P n ops (o :: l) K env w:=⟨fun a Q hf hQ=>by
  unfold wpList;rw [if_pos (Wx (ops:=ops.toArray) hf (by simpa using hw))];exact .inl (ho n a _ Q hf fun v w' hk=>(h v w' hk).go _ Q (hf.putD v hd) hQ)⟩
theorem RJ.q {v} (hw:Ye ops env o=some true) (hd:Xs n o.dst=true) (ho:QOp P o env (·=w) v) (h:RJ P n ops l K (Xe o.dst v env) w):RJ P n ops (o :: l) K env w:=
  RJ.op (K':=fun v' w'=>v'=v/\w'=w) hw hd (fun n a next Q hf hk=>by unfold Oper.wp; rw [ho n a w hf rfl]; exact hk v w ⟨rfl,rfl⟩) (by rintro _ _ ⟨rfl,rfl⟩; exact h)
theorem RJ.off (hw:Ye ops env o=some false) (hd:Xs n o.dst=true) (h:RJ P n ops l K (Xe o.dst undef env) w):RJ P n ops (o :: l) K env w:=⟨fun a Q hf hQ=>by
  unfold wpList;rw [if_neg (by rw [Wx (ops:=ops.toArray) hf (by simpa using hw)]; simp)];exact h.go _ Q (hf.putD _ hd) hQ⟩
theorem RJ.know {t} {u v} (hl:Z8 env t=some u) (hv:u=v) (h:RJ P n ops l K ((t,v) :: env) w):RJ P n ops l K env w:=⟨fun a Q hf hQ=>
  h.go a Q ⟨hf.size,hf.defers,fun s x hx=>by
    simp only [Z8] at hx;cases hb:Nat.beq t s with
    | true=>rw [hb] at hx; have:=Nat.eq_of_beq_eq_true hb; subst this; simp only [cond_true,Option.some.injEq] at hx; subst hx; subst hv; exact hf.get _ _ hl
    | false=>rw [hb] at hx; exact hf.get _ _ hx⟩ hQ⟩
def B2 (tt:TT) (n:Nat) (ops:List Oper):Nat->List Oper->Env->Option (List Oper×Env)
  | 0,l,env=>some (l,env)
  | _+1,[],env=>none
  | k+1,o :: l,env=>match Ye ops env o with
    | some true=>match pv tt env o with
      | some v=>match o.dst with
        | some t=>cond (Nat.ble (t+1) n) (B2 tt n ops k l ((t,v) :: env)) none
        | none=>B2 tt n ops k l env
      | none=>none
    | some false=>match o.dst with
      | some t=>cond (Nat.ble (t+1) n) (B2 tt n ops k l ((t,undef) :: env)) none
      | none=>B2 tt n ops k l env
    | none=>none
theorem RJ.run {tt} (hT:Yq P tt):∀(k) {l l'} {env env'},B2 tt n ops k l env=some (l',env')->RJ P n ops l' K env' w->RJ P n ops l K env w
  | 0,l,l',env,env',h,hr=>by simp only [B2,Option.some.injEq,Prod.mk.injEq] at h; obtain ⟨rfl,rfl⟩:=h; exact hr
  | k+1,[],l',env,env',h,hr=>by cases h
  | k+1,o :: l,l',env,env',h,hr=>by
    simp only [B2] at h;split at h
    · rename_i hw
      split at h
      · rename_i v hv
        split at h
        · rename_i t hd
          cases hb:Nat.ble (t+1) n with
          | false=>rw [hb] at h; cases h
          | true=>
            rw [hb] at h;refine RJ.q hw (by rw [hd]; exact hb) (QOp.of_pv hT hv _) ?_;rw [hd];exact RJ.run hT k h hr
        · rename_i hd
          refine RJ.q hw (by rw [hd]; rfl) (QOp.of_pv hT hv _) ?_;rw [hd];exact RJ.run hT k h hr
      · cases h
    · rename_i hw
      split at h
      · rename_i t hd
        cases hb:Nat.ble (t+1) n with
        | false=>rw [hb] at h; cases h
        | true=>
          rw [hb] at h;refine RJ.off hw (by rw [hd]; exact hb) ?_;rw [hd];exact RJ.run hT k h hr
      · rename_i hd
        refine RJ.off hw (by rw [hd]; rfl) ?_;rw [hd];exact RJ.run hT k h hr
    · cases h
theorem RJ.fin (E) (h:SK.keep (E.map (·.1)) env=E) (hk:K E w):RJ P n ops [] K env w:=⟨fun a Q hf hQ=>hQ E a w (by rw [<- h]; exact hf.keep _) hk⟩
theorem Zge {P} {opsA} {Q:Exit->Act->World->Prop}:∀(l1 l2) (a:Act) (w),wpList P opsA (fun e a w=>match e with | .normal=>wpList P opsA Q l2 a w | e=>Q e a w) l1 a w->wpList P opsA Q (l1 ++ l2) a w:=by
  intro l1
  induction l1 with
  | nil=>intro l2 a w h; exact h
  | cons o l1 ih=>
    intro l2 a w h;simp only [List.cons_append];unfold wpList at h ⊢;split at h
    · rename_i hw
      rw [if_pos hw];rcases h with h | ⟨h,a0,w0,hq⟩
      · refine .inl ?_
        have h1:=Oper.wp_mono (fun a w h=>ih l2 a w h) h;unfold Oper.wp at *;generalize (execOp a.eval o).run P w=r at *;cases r with
        | ok nx w'=>
          cases nx <;> simp only [Oper.upon] at h1 ⊢ <;> first
            | exact h1
            | exact Calls.mono h1 (fun e w'' he=>by cases e <;> first | exact he | (obtain ⟨a0,w0,hq⟩:=he; exact ⟨a0,w0,hq⟩))
        | halt x w'=>cases x <;> simp only [Oper.upon] at h1 ⊢ <;> exact h1
      · exact .inr ⟨h,a0,w0,hq⟩
    · rename_i hw
      rw [if_neg hw];exact ih l2 _ w h
theorem RJ.join {l l1 l2} (k) (E) (h1:l.take k=l1) (h2:l.drop k=l2) (ha:RJ P n ops l1 (fun env' w'=>env'=E/\w'=w) env w) (hb:RJ P n ops l2 K E w):RJ P n ops l K env w:=⟨fun a Q hf hQ=>by
  rw [<- List.take_append_drop k l,h1,h2];refine Zge l1 l2 a w (ha.go a _ hf ?_);rintro env' a' w' hf' ⟨rfl,rfl⟩;exact hb.go a' Q hf' hQ⟩
end

def Vb (n:Nat) (done:List Nat):Array Bool:=((List.range n).map fun i=>done.contains i).toArray
theorem Zlk (n):Vb n []=Array.replicate n false:=by
  apply Array.ext';simp [Vb,List.map_const']
theorem Gx {n i} {done} (h:i<n):(Vb n done).setIfInBounds i true=Vb n (i :: done):=by
  apply Array.ext';apply List.ext_getElem?;intro j;simp only [Vb,Array.toList_setIfInBounds,List.getElem?_set,List.getElem?_map,List.length_map,List.length_range];by_cases hij:i=j
  · subst hij
    simp [h]
  · rw [if_neg hij]
    cases hj:(List.range n)[j]? with
    | none=>rfl
    | some k=>
      have:k=j:=by
        have hlt:j<n:=by
          have:=(List.getElem?_eq_some_iff.1 hj).1;simpa using this
        simp [List.getElem?_range,hlt] at hj;exact hj.symm
      subst this;simp only [Option.map_some,List.contains_cons];have:(k == i)=false:=by simp; exact fun e=>hij e.symm
      rw [this]; rfl
theorem Jl {n j} {done} (h:j<n) (d):(Vb n done).getD j d=done.contains j:=by
  simp [Vb,Array.getD,h]
def Z3:Nat->List Nat->Bool
  | _,[]=>false
  | i,j :: l=>cond (Nat.beq i j) true (Z3 i l)
theorem Wb (i) (l):Z3 i l=l.contains i:=by
  induction l with
  | nil=>rfl
  | cons j l ih=>
    simp only [Z3,List.contains_cons,ih];by_cases h:i=j
    · subst h; simp
    · have h1:Nat.beq i j=false:=by
        cases hb:Nat.beq i j with
        | false=>rfl
        | true=>exact absurd (Nat.eq_of_beq_eq_true hb) h
      simp [h1,h]
def W4:Operand->List Nat | .tmp t=>[t] | _=>[]
def Bv:Option Operand->List Nat | some x=>W4 x | none=>[]
def Vr:List Operand->List Nat | []=>[] | x :: r=>W4 x ++ Vr r
def Zbw (c:Call):List Nat:=(match c.callee with | .value f=>W4 f | .invoke r _=>W4 r | .builtin _=>[]) ++ Vr c.args.toList
def Uw:Op->List Nat
  | .alloc _ | .ready _ | .waits _=>[]
  | .move x | .assign x | .box _ x | .load _ x | .nilCheck x | .unOp _ _ x | .convert _ _ x | .sliceToArrayPointer _ x | .makeInterface _ x
  | .makeChan _ x | .fieldAddr _ x _ | .field _ x _ | .range _ x | .next x _ | .entry x | .typeAssert x _ _ _ | .extract x _ | .panic x | .recv _ x _=>W4 x
  | .pick c a b=>W4 c ++ (W4 a ++ W4 b)
  | .build _ ps | .buildSlice _ _ ps=>Vr (ps.toList.map (·.2))
  | .store _ a v | .binOp _ _ a v _ | .makeSlice _ a v | .indexAddr _ a v | .index _ a v | .lookup _ a v _ | .mapEntry _ a v | .send a v=>W4 a ++ W4 v
  | .makeFunc _ first captured=>Vr first.toList ++ Vr captured.toList
  | .makeMap _ r=>Bv r
  | .slice _ x l h m=>W4 x ++ (Bv l ++ (Bv h ++ Bv m))
  | .mapUpdate _ m k v | .entryStore _ m k v | .insert _ m k v=>W4 m ++ (W4 k ++ W4 v)
  | .call c | .go c | .defer c=>Zbw c
  | .select _ _=>[]
def Zb9:Op->Bool | .select _ _=>true | _=>false
def Zdg:Operand->Option Nat:=fun | .tmp t=>some t | _=>none
theorem Zk2 (x) (l):(x :: l).filterMap Zdg=W4 x ++ l.filterMap Zdg:=by
  cases x <;> simp [List.filterMap_cons,Zdg,W4]
theorem Xh:∀ l:List Operand,l.filterMap Zdg=Vr l
  | []=>rfl
  | x :: l=>by rw [Zk2,Xh l]; rfl
theorem Zl9 (op) (h:Zb9 op=false):op.operands.toList.filterMap Zdg=Uw op:=by
  cases op
  case select cs b=>cases h
  case build t ps=>show (ps.toList.map (·.2)).toArray.toList.filterMap Zdg=_; rw [List.toList_toArray,Xh]; rfl
  case buildSlice t n ps=>show (ps.toList.map (·.2)).toArray.toList.filterMap Zdg=_; rw [List.toList_toArray,Xh]; rfl
  case makeFunc fn a b=>simp only [Op.operands,Uw]; rw [Array.toList_append,List.filterMap_append,Xh,Xh]
  case makeMap t r=>cases r <;> simp [Op.operands,Uw,Bv,W4,Xh,Vr]
  case slice t x lo hi mx=>cases lo <;> cases hi <;> cases mx <;> simp [Op.operands,Uw,Bv,Xh,Vr]
  case call c=>obtain ⟨cal,xs,ts⟩:=c; cases cal <;> (simp only [Op.operands,Call.operands,Uw,Zbw]; rw [Array.toList_append,List.filterMap_append,Xh,Xh]; simp [Vr])
  case go c=>obtain ⟨cal,xs,ts⟩:=c; cases cal <;> (simp only [Op.operands,Call.operands,Uw,Zbw]; rw [Array.toList_append,List.filterMap_append,Xh,Xh]; simp [Vr])
  case defer c=>obtain ⟨cal,xs,ts⟩:=c; cases cal <;> (simp only [Op.operands,Call.operands,Uw,Zbw]; rw [Array.toList_append,List.filterMap_append,Xh,Xh]; simp [Vr])
  all_goals (simp only [Op.operands,Uw]; rw [Xh]; simp [Vr])
def Zg2 (ops:List Oper) (o:Oper):List Nat:=match o.guard with
  | some (g,_)=>(match nth ops g with | some og=>(match og.dst with | some t=>[t] | none=>[]) | none=>[])
  | none=>[]
def Zdy (ops:List Oper) (o:Oper):List Nat:=Uw o.op ++ Zg2 ops o
theorem Zfk (ops) (o) (h:Zb9 o.op=false):o.looksAt ops.toArray=Zdy ops o:=by
  unfold Oper.looksAt Zdy;have:=Zl9 o.op h;refine congr (congrArg _ this) ?_;unfold Zg2;cases hg:o.guard with
  | none=>rfl
  | some g=>
    obtain ⟨g,u⟩:=g;simp only [Yk];cases hn:ops[g]? with
    | none=>simp [hn]
    | some og=>cases hd:og.dst <;> simp [hn,hd]
def Zsu:List Nat->List Nat->Bool
  | [],_=>true
  | x :: l,m=>cond (Z3 x m) false (Zsu l m)
def Zmn:Option Nat->Nat->Bool | some a,b=>Nat.beq a b | none,_=>false
def Zg0 (ops:List Oper) (x y:Oper):Bool:=
  !Zb9 x.op && !Zb9 y.op && (match x.dst with | some d=>!Z3 d (Zdy ops y) && !Zmn y.dst d | none=>true) && (match y.dst with | some d=>!Z3 d (Zdy ops x) | none=>true)
theorem Zlu {ops} {x y} (h:Zg0 ops x y=true):x.apart ops.toArray y=true:=by
  simp only [Zg0,Bool.and_eq_true,Bool.not_eq_true'] at h;obtain ⟨⟨⟨h1,h2⟩,h3⟩,h4⟩:=h;unfold Oper.apart;rw [Zfk _ _ h1,Zfk _ _ h2];cases hx:x.dst <;> cases hy:y.dst <;> simp_all [Wb,Zmn];intro e; subst e; simp at h3

def Wk (done:List Nat) (o:Oper):Bool:=o.after.toList.all fun e=>!Region.binds .any e || Z3 e.on done
def Zam (ops:List Oper) (done:List Nat) (i:Nat) (oi:Oper):Nat->List Oper->Bool
  | _,[]=>true
  | j,oj :: r=>(Nat.beq j i || Z3 j done || oj.after.toList.any (fun e=>Region.binds .any e && Nat.beq e.on i) || Zg0 ops oi oj) && Zam ops done i oi (j+1) r
def Jx (ops:List Oper) (done:List Nat) (i:Nat) (oi:Oper):Bool:=!Z3 i done && Wk done oi && Zam ops done i oi 0 ops
def Zap (done:List Nat) (i:Nat):Nat->List Oper->Bool
  | _,[]=>true
  | j,oj :: r=>(Nat.beq j i || Z3 j done || !Wk done oj) && Zap done i (j+1) r
def J1 (ops:List Oper) (done:List Nat) (i:Nat) (oi:Oper):Bool:=!Z3 i done && Wk done oi && Zap done i 0 ops
def U7 (done:List Nat):Nat->List Oper->Bool
  | _,[]=>true
  | j,oj :: r=>(Z3 j done || !Wk done oj) && U7 done (j+1) r
def Bo (ops:List Oper):Bool:=ops.all fun o=>o.after.toList.all fun e=>Nat.ble (e.on+1) ops.length

section
variable {ops:List Oper} {done:List Nat}
theorem Um (he:Bo ops=true) {i}:i∈Region.ready .any ops.toArray (Vb ops.length done)↔∃ o,ops[i]?=some o/\Z3 i done=false/\Wk done o=true:=by
  rw [mem_ready];have key:∀ o,ops[i]?=some o->((∀ e∈o.after,Region.binds .any e=true->(Vb ops.length done).getD e.on false=true)↔Wk done o=true):=by
    intro o ho;have hm:=List.mem_of_getElem? ho;have hall:=List.all_eq_true.1 (List.all_eq_true.1 he o hm);simp only [Wk,List.all_eq_true,Bool.or_eq_true,Bool.not_eq_true'];constructor
    · intro h e hmem
      have hlt:e.on<ops.length:=Nat.le_of_ble_eq_true (hall e hmem);cases hb:Region.binds .any e with
      | false=>exact .inl rfl
      | true=>right; rw [Wb,<- Jl hlt false]; exact h e (by simpa using hmem) hb
    · intro h e hmem hb
      have hlt:e.on<ops.length:=Nat.le_of_ble_eq_true (hall e (by simpa using hmem));rw [Jl hlt,<- Wb];exact (h e (by simpa using hmem)).resolve_left (by simp [hb])
  constructor
  · rintro ⟨h1,o,ho,h2⟩
    have ho':ops[i]?=some o:=by simpa using ho
    have hlt:i<ops.length:=(List.getElem?_eq_some_iff.1 ho').1;rw [Jl hlt,<- Wb] at h1;exact ⟨o,ho',h1,(key o ho').1 h2⟩
  · rintro ⟨o,ho,h1,h2⟩
    have hlt:i<ops.length:=(List.getElem?_eq_some_iff.1 ho).1;exact ⟨by rw [Jl hlt,<- Wb]; exact h1,o,by simpa using ho,(key o ho).2 h2⟩
theorem Zax {i} {oi}:∀ r k,Zam ops done i oi k r=true->∀ j oj,r[j]?=some oj->k+j≠i->Z3 (k+j) done=false->(∀ e∈oj.after,Region.binds .any e=true->e.on≠i)->oi.apart ops.toArray oj=true
  | [],_,_,j,oj,hj,_,_,_=>by simp at hj
  | o :: r,k,h,j,oj,hj,hne,hun,hno=>by
    simp only [Zam,Bool.and_eq_true] at h;cases j with
    | zero=>
      simp only [List.getElem?_cons_zero,Option.some.injEq] at hj;subst hj;simp only [Nat.add_zero] at hne hun;have h1:=h.1;simp only [Bool.or_eq_true,hun,Bool.false_eq_true,or_false] at h1;rcases h1 with (h1 | h1) | h1
      · exact absurd (Nat.eq_of_beq_eq_true h1) hne
      · obtain ⟨e,hm,hb⟩:=List.any_eq_true.1 h1
        simp only [Bool.and_eq_true] at hb;exact absurd (Nat.eq_of_beq_eq_true hb.2) (hno e (by simpa using hm) hb.1)
      · exact Zlu h1
    | succ j=>
      refine Zax r (k+1) h.2 j oj (by simpa using hj) ?_ ?_ hno
      · rw [show k+1+j=k+(j+1) from by omega]; exact hne
      · rw [show k+1+j=k+(j+1) from by omega]; exact hun
theorem Zav {i}:∀ r k,Zap done i k r=true->∀ j oj,r[j]?=some oj->Z3 (k+j) done=false->Wk done oj=true->k+j=i
  | [],_,_,j,oj,hj,_,_=>by simp at hj
  | o :: r,k,h,j,oj,hj,hun,hr=>by
    simp only [Zap,Bool.and_eq_true] at h;cases j with
    | zero=>
      simp only [List.getElem?_cons_zero,Option.some.injEq] at hj;subst hj;have h1:=h.1;simp only [Nat.add_zero] at hun;simp only [Bool.or_eq_true,hun,hr,Bool.false_eq_true,or_false,Bool.not_true] at h1;exact Nat.eq_of_beq_eq_true h1
    | succ j=>
      have:=Zav r (k+1) h.2 j oj (by simpa using hj) (by rw [show k+1+j=k+(j+1) from by omega]; exact hun) hr;omega
theorem Zay:∀ r k,U7 done k r=true->∀ j oj,r[j]?=some oj->Z3 (k+j) done=false->Wk done oj=true->False
  | [],_,_,j,oj,hj,_,_=>by simp at hj
  | o :: r,k,h,j,oj,hj,hun,hr=>by
    simp only [U7,Bool.and_eq_true] at h;cases j with
    | zero=>
      simp only [List.getElem?_cons_zero,Option.some.injEq] at hj;subst hj;have h1:=h.1;simp only [Nat.add_zero] at hun;simp [hun,hr] at h1
    | succ j=>exact Zay r (k+1) h.2 j oj (by simpa using hj) (by rw [show k+1+j=k+(j+1) from by omega]; exact hun) hr
end

def Gz (n:Nat) (done:List Nat):Nat:=((List.range n).filter fun j=>!Z3 j done).length
theorem Zci {i:Nat} {done:List Nat}:∀(l:List Nat),i∈l->Z3 i done=false->(l.filter fun j=>!Z3 j (i :: done)).length+1<=(l.filter fun j=>!Z3 j done).length
  | [],h,_=>by cases h
  | j :: l,h,hn=>by
    have mono:∀ l:List Nat,(l.filter fun j=>!Z3 j (i :: done)).length<=(l.filter fun j=>!Z3 j done).length:=by
      intro l
      induction l with
      | nil=>simp
      | cons k l ih=>
        simp only [List.filter_cons];by_cases hk:Z3 k done=true
        · have:Z3 k (i :: done)=true:=by simp only [Z3]; rw [hk]; cases Nat.beq k i <;> rfl
          simp [hk,this]; exact ih
        · have hk':Z3 k done=false:=by simpa using hk
          rw [hk'];simp only [Bool.not_false,if_true,List.length_cons];split
          · simp only [List.length_cons]; omega
          · omega
    simp only [List.filter_cons];rcases List.mem_cons.1 h with rfl | h
    · have h1:Z3 i (i :: done)=true:=by simp [Z3]
      rw [h1,hn];simp only [Bool.not_true,Bool.false_eq_true,if_false,Bool.not_false,if_true,List.length_cons];have:=mono l;omega
    · have ih:=Zci l h hn
      by_cases hk:Z3 j done=true
      · have:Z3 j (i :: done)=true:=by simp only [Z3]; rw [hk]; cases Nat.beq j i <;> rfl
        simp [hk,this]; exact ih
      · have hk':Z3 j done=false:=by simpa using hk
        rw [hk'];simp only [Bool.not_false,if_true,List.length_cons];split
        · simp only [List.length_cons]; omega
        · omega
theorem Up {n i:Nat} {done:List Nat} (h:i<n) (hn:Z3 i done=false):Gz n (i :: done)+1<=Gz n done:=Zci _ (List.mem_range.2 h) hn

structure HJ (P:Program) (n:Nat) (ops:List Oper) (S:World->Prop) (K:Env->World->Prop) (done:List Nat) (env:Env) (w:World):Prop where
  go:∀ fuel,S w->∀ a Q,Fr n env a->(∀ env a w,Fr n env a->K env w->Q .normal a w)->Gz ops.length done<=fuel->wpAnyH P .any ops.toArray (NoPanic Q) S fuel (Vb ops.length done) a w
def Zoj (ops:List Oper):Bool:=ops.all fun o=>!Zb9 o.op
theorem Zk6 {ops} (h:Zoj ops=true):Region.noSelect ops.toArray=true:=by
  unfold Region.noSelect;rw [Array.all_eq_true_iff_forall_mem];intro o ho;have:=List.all_eq_true.1 h o (by simpa using ho);cases hop:o.op <;> simp_all [Zb9]
def X0 (ops:List Oper):Bool:=Bo ops && Zoj ops
section
variable {P:Program} {n:Nat} {env:Env} {w:World} {ops:List Oper} {K:Env->World->Prop} {S:World->Prop} {o:Oper} {done:List Nat}
theorem J.held {id} {PQ:Xg} (hm:P.follows .mixedOrders=true) (S) (hS:S { w with drawn:=w.drawn+1 })
    (h:HJ P n ops S (PQ .normal) [] env { w with drawn:=w.drawn+1 }):J P n (.region id ops.toArray true) PQ env w:=⟨fun a Q hf hQ=>
  wp_region_noPanic (wp_region_held hm (by
    have:=h.go ops.length hS a Q hf (fun env a w hf h=>hQ _ _ _ _ hf h) (Nat.le_trans (List.length_filter_le _ _) (by simp));rw [Zlk] at this;simpa using this))⟩
theorem HJ.fin (E) (hr:(Bo ops && U7 done 0 ops)=true) (h:SK.keep (E.map (·.1)) env=E) (hk:K E w):HJ P n ops S K done env w:=⟨fun fuel _ a Q hf hQ _=>
  wpAnyH_done (by
    simp only [Bool.and_eq_true] at hr;apply List.eq_nil_iff_forall_not_mem.2;intro j hj;obtain ⟨oj,h1,h2,h3⟩:=(Um hr.1).1 hj;exact Zay ops 0 hr.2 j oj h1 (by simpa using h2) h3) (NoPanic.normal (hQ E a w (by rw [<- h]; exact hf.keep _) hk)) fuel⟩
theorem HJ.take {v} {i} (hs:X0 ops=true) (hi:nth ops i=some o) (ht:Jx ops done i o=true)
    (hy:∀ n a,Fr n env a->YieldsIf P ops.toArray S o v a) {env'} (hd:∀ a,Fr n env a->Fr n env' (a.put o.dst v))
    (h:HJ P n ops S K (i :: done) env' w):HJ P n ops S K done env w:=⟨fun fuel hS a Q hf hQ hfu=>by
  simp only [X0,Bool.and_eq_true] at hs;simp only [Jx,Bool.and_eq_true,Bool.not_eq_true'] at ht;rw [Yk] at hi;have hi':ops.toArray[i]?=some o:=by simpa using hi
  have hlt:i<ops.length:=(List.getElem?_eq_some_iff.1 hi).1;have hrdy:=(Um (done:=done) hs.1).2 ⟨o,hi,ht.1.1,ht.1.2⟩;have hless:=Up hlt ht.1.1;cases fuel with
  | zero=>omega
  | succ fuel=>
    refine wpAnyH_first hi' (Region.noSelect_spec (Zk6 hs.2)) (fun c a w h=>h) fuel (Vb ops.length done) a w ?_ hrdy (hy n a hf) hS ?_
    · intro j oj hj hne hun hno
      have hj':ops[j]?=some oj:=by simpa using hj
      have hjl:j<ops.length:=(List.getElem?_eq_some_iff.1 hj').1;rw [Jl hjl,<- Wb] at hun;exact Zax ops 0 ht.2 j oj hj' (by simpa using hne) (by simpa using hun) hno
    · rw [Gx hlt]
      exact h.go fuel hS _ Q (hd a hf) hQ (by omega)⟩
theorem HJ.q {v:Value} {i t:Nat} (hs:X0 ops=true) (hi:nth ops i=some o) (ht:Jx ops done i o=true) (hw:Ye ops env o=some true) (hd:o.dst=some t) (hn:Nat.ble (t+1) n=true) (ho:QOp P o env S v)
    (h:HJ P n ops S K (i :: done) ((t,v) :: env) w):HJ P n ops S K done env w:=
  HJ.take hs hi ht (fun n a hf=>.inl ⟨Wx (ops:=ops.toArray) hf (by simpa using hw),fun w hS=>ho n a w hf hS⟩) (fun a hf=>by rw [hd]; exact hf.put v hn) h
theorem HJ.off {i t:Nat} (hs:X0 ops=true) (hi:nth ops i=some o) (ht:Jx ops done i o=true) (hw:Ye ops env o=some false) (hd:o.dst=some t) (hn:Nat.ble (t+1) n=true)
    (h:HJ P n ops S K (i :: done) ((t,undef) :: env) w):HJ P n ops S K done env w:=
  HJ.take hs hi ht (fun n a hf=>.inr ⟨Wx (ops:=ops.toArray) hf (by simpa using hw),rfl⟩) (fun a hf=>by rw [hd]; exact hf.put _ hn) h
theorem HJ.off0 {i} (hs:X0 ops=true) (hi:nth ops i=some o) (ht:Jx ops done i o=true) (hw:Ye ops env o=some false) (hd:o.dst=none)
    (h:HJ P n ops S K (i :: done) env w):HJ P n ops S K done env w:=
  HJ.take hs hi ht (fun n a hf=>.inr ⟨Wx (ops:=ops.toArray) hf (by simpa using hw),rfl⟩) (fun a hf=>by rw [hd]; exact hf) h
theorem HJ.op {K'} {i} (hs:X0 ops=true) (hi:nth ops i=some o) (hr:J1 ops done i o=true) (hw:Ye ops env o=some true) (hd:Xs n o.dst=true) (ho:OpT P o env w K')
    (h:∀ v w',K' v w'->S w'/\HJ P n ops S K (i :: done) (Xe o.dst v env) w'):HJ P n ops S K done env w:=⟨fun fuel hS a Q hf hQ hfu=>by
  simp only [X0,Bool.and_eq_true] at hs;simp only [J1,Bool.and_eq_true,Bool.not_eq_true'] at hr;rw [Yk] at hi;have hi':ops.toArray[i]?=some o:=by simpa using hi
  have hlt:i<ops.length:=(List.getElem?_eq_some_iff.1 hi).1;have hless:=Up hlt hr.1.1;have honly:∀ j,j∈Region.ready .any ops.toArray (Vb ops.length done)->j=i:=fun j hj=>by
    obtain ⟨oj,h1,h2,h3⟩:=(Um hs.1).1 hj;have:=Zav ops 0 hr.2 j oj h1 (by simpa using h2) h3;omega
  have hrdy:=(Um (done:=done) hs.1).2 ⟨o,hi,hr.1.1,hr.1.2⟩;cases fuel with
  | zero=>omega
  | succ fuel=>
    refine ⟨fun h0=>(by rw [h0] at hrdy; cases hrdy),fun j hj=>?_⟩;have:=honly j hj;subst this;unfold wpOp;simp only [hi'];rw [if_pos (Wx (ops:=ops.toArray) hf (by simpa using hw))];refine .inl (ho n a _ _ hf fun v w' hk=>⟨(h v w' hk).1,?_⟩);rw [Gx hlt];exact (h v w' hk).2.go fuel (h v w' hk).1 _ Q (hf.putD v hd) hQ (by omega)⟩
theorem HJ.know {t} {u v} (hl:Z8 env t=some u) (hv:u=v) (h:HJ P n ops S K done ((t,v) :: env) w):HJ P n ops S K done env w:=⟨fun fuel hS a Q hf hQ hfu=>
  h.go fuel hS a Q ⟨hf.size,hf.defers,fun s x hx=>by
    simp only [Z8] at hx;cases hb:Nat.beq t s with
    | true=>rw [hb] at hx; have:=Nat.eq_of_beq_eq_true hb; subst this; simp only [cond_true,Option.some.injEq] at hx; subst hx; subst hv; exact hf.get _ _ hl
    | false=>rw [hb] at hx; exact hf.get _ _ hx⟩ hQ hfu⟩
def runH (tt:TT) (n:Nat) (ops:List Oper):List Nat->List Nat->Env->Option (List Nat×Env)
  | [],done,env=>some (done,env)
  | i :: is,done,env=>match nth ops i with
    | none=>none
    | some o=>cond (Jx ops done i o) (match Ye ops env o with
      | some true=>match pv tt env o with
        | some v=>match o.dst with
          | some t=>cond (Nat.ble (t+1) n) (runH tt n ops is (i :: done) ((t,v) :: env)) none
          | none=>none
        | none=>none
      | some false=>match o.dst with
        | some t=>cond (Nat.ble (t+1) n) (runH tt n ops is (i :: done) ((t,undef) :: env)) none
        | none=>runH tt n ops is (i :: done) env
      | none=>none) none
theorem HJ.run {tt} (hT:Yq P tt) (hs:X0 ops=true):∀(is) {done done'} {env env'},SK.runH tt n ops is done env=some (done',env')->
    HJ P n ops S K done' env' w->HJ P n ops S K done env w
  | [],done,done',env,env',h,hr=>by simp only [SK.runH,Option.some.injEq,Prod.mk.injEq] at h; obtain ⟨rfl,rfl⟩:=h; exact hr
  | i :: is,done,done',env,env',h,hr=>by
    simp only [SK.runH] at h;split at h
    · cases h
    · rename_i o hi
      cases ht:Jx ops done i o with
      | false=>rw [ht] at h; cases h
      | true=>
        rw [ht] at h;simp only [cond_true] at h;split at h
        · rename_i hw
          split at h
          · rename_i v hv
            split at h
            · rename_i t hd
              cases hb:Nat.ble (t+1) n with
              | false=>rw [hb] at h; cases h
              | true=>rw [hb] at h; exact HJ.q hs hi ht hw hd hb (QOp.of_pv hT hv S) (HJ.run hT hs is h hr)
            · cases h
          · cases h
        · rename_i hw
          split at h
          · rename_i t hd
            cases hb:Nat.ble (t+1) n with
            | false=>rw [hb] at h; cases h
            | true=>rw [hb] at h; exact HJ.off hs hi ht hw hd hb (HJ.run hT hs is h hr)
          · rename_i hd; exact HJ.off0 hs hi ht hw hd (HJ.run hT hs is h hr)
        · cases h
end
end Go.SK

namespace Go.SK
open Go Go.RowKit

structure Ch where
  ok:World->(Nat->Prop)->Prop
  stable:∀ {w w':World} {F:Nat->Prop},(∀ b,F b->w'.heap[b]?=w.heap[b]?)->ok w F->ok w' F

def SatH:List Ch->World->(Nat->Prop)->Prop
  | [],_,_=>True
  | c :: cs,w,F=>∃ F1 F2,c.ok w F1/\SatH cs w F2/\(∀ b,F1 b->F b/\¬ F2 b)/\(∀ b,F2 b->F b)
theorem SatH.stable:∀ {Hs} {w w'} {F},(∀ b,F b->w'.heap[b]?=w.heap[b]?)->SatH Hs w F->SatH Hs w' F
  | [],_,_,_,_,_=>trivial
  | c :: cs,w,w',F,h,⟨F1,F2,h1,h2,h3,h4⟩=>⟨F1,F2,c.stable (fun b hb=>h b (h3 b hb).1) h1,SatH.stable (fun b hb=>h b (h4 b hb)) h2,h3,h4⟩
theorem SatH.mono:∀ {Hs} {w} {F F'},(∀ b,F b->F' b)->SatH Hs w F->SatH Hs w F'
  | [],_,_,_,_,_=>trivial
  | _ :: _,_,_,_,h,⟨F1,F2,h1,h2,h3,h4⟩=>⟨F1,F2,h1,h2,fun b hb=>⟨h b (h3 b hb).1,(h3 b hb).2⟩,fun b hb=>h b (h4 b hb)⟩
theorem SatH.join:∀ {Hs Gs} {w} {F G},SatH Hs w F->SatH Gs w G->(∀ b,F b->¬ G b)->SatH (Hs ++ Gs) w (fun b=>F b\/G b)
  | [],_,_,_,_,_,h,_=>h.mono fun b hb=>.inr hb
  | c :: cs,Gs,w,F,G,⟨F1,F2,h1,h2,h3,h4⟩,h,hd=>⟨F1,fun b=>F2 b\/G b,h1,SatH.join h2 h (fun b hb=>hd b (h4 b hb)),
      fun b hb=>⟨.inl (h3 b hb).1,fun e=>e.elim (h3 b hb).2 (hd b (h3 b hb).1)⟩,fun b hb=>hb.imp (h4 b) id⟩
theorem SatH.out:∀ {Hs} {w} {F} {k} {c},SatH Hs w F->nth Hs k=some c->
    ∃ F1 F2,c.ok w F1/\SatH (Hs.eraseIdx k) w F2/\(∀ b,F1 b->F b/\¬ F2 b)/\(∀ b,F2 b->F b)
  | [],_,_,_,_,_,hk=>by cases hk
  | d :: cs,w,F,0,c,⟨F1,F2,h1,h2,h3,h4⟩,hk=>by
    simp only [nth,Option.some.injEq] at hk;subst hk;exact ⟨F1,F2,h1,h2,h3,h4⟩
  | d :: cs,w,F,k+1,c,⟨F1,F2,h1,h2,h3,h4⟩,hk=>by
    obtain ⟨G1,G2,g1,g2,g3,g4⟩:=SatH.out h2 (k:=k) hk;exact ⟨G1,fun b=>F1 b\/G2 b,g1,⟨F1,G2,h1,g2,fun b hb=>⟨.inl hb,fun e=>(h3 b hb).2 (g4 b e)⟩,fun b hb=>.inr hb⟩,
      fun b hb=>⟨h4 b (g3 b hb).1,fun e=>e.elim (fun e=>(h3 b e).2 (g3 b hb).1) (g3 b hb).2⟩,fun b hb=>hb.elim (fun e=>(h3 b e).1) (fun e=>h4 b (g4 b e))⟩
theorem SatH.at:∀ {Hs} {w} {F} {k} {c},SatH Hs w F->nth Hs k=some c->∃ F1,c.ok w F1/\∀ b,F1 b->F b:=fun h hk=>by
  obtain ⟨F1,F2,h1,_,h3,_⟩:=h.out hk;exact ⟨F1,h1,fun b hb=>(h3 b hb).1⟩
def pick:List Nat->List Ch->Option (List Ch×List Ch)
  | [],Hs=>some ([],Hs)
  | k :: ks,Hs=>match nth Hs k with
    | some c=>match pick ks (Hs.eraseIdx k) with
      | some (ps,rest)=>some (c :: ps,rest)
      | none=>none
    | none=>none
theorem SatH.pick:∀ {ks} {Hs ps rest} {w} {F},SatH Hs w F->SK.pick ks Hs=some (ps,rest)->
    ∃ F1 F2,SatH ps w F1/\SatH rest w F2/\(∀ b,F1 b->F b/\¬ F2 b)/\(∀ b,F2 b->F b)
  | [],Hs,ps,rest,w,F,h,hp=>by
    simp only [SK.pick,Option.some.injEq,Prod.mk.injEq] at hp;obtain ⟨rfl,rfl⟩:=hp;exact ⟨fun _=>False,F,trivial,h,fun b hb=>hb.elim,fun b hb=>hb⟩
  | k :: ks,Hs,ps,rest,w,F,h,hp=>by
    simp only [SK.pick] at hp;split at hp
    · rename_i c hk
      split at hp
      · rename_i ps' rest' hp'
        simp only [Option.some.injEq,Prod.mk.injEq] at hp;obtain ⟨rfl,rfl⟩:=hp;obtain ⟨F1,F2,h1,h2,h3,h4⟩:=h.out hk;obtain ⟨G1,G2,g1,g2,g3,g4⟩:=SatH.pick h2 hp';exact ⟨fun b=>F1 b\/G1 b,G2,⟨F1,G1,h1,g1,fun b hb=>⟨.inl hb,fun e=>(h3 b hb).2 (g3 b e).1⟩,fun b hb=>.inr hb⟩,g2,
          fun b hb=>⟨hb.elim (fun e=>(h3 b e).1) (fun e=>h4 b (g3 b e).1),fun e=>hb.elim (fun e'=>(h3 b e').2 (g4 b e)) (fun e'=>(g3 b e').2 e)⟩,fun b hb=>h4 b (g4 b hb)⟩
      · cases hp
    · cases hp

structure Chg (w w':World) (F:Nat->Prop):Prop where
  os:w'.os=w.os
  tape:w'.tape=w.tape
  output:w'.output=w.output
  size:w.heap.size<=w'.heap.size
  block:∀ b,b<w.heap.size->¬ F b->w'.heap[b]?=w.heap[b]?
theorem Chg.refl (w) (F):Chg w w F:=⟨rfl,rfl,rfl,Nat.le_refl _,fun _ _ _=>rfl⟩
theorem Chg.mono {w w'} {F F'} (h:Chg w w' F) (hF:∀ b,F b->F' b):Chg w w' F':=⟨h.os,h.tape,h.output,h.size,fun b hb hn=>h.block b hb fun e=>hn (hF b e)⟩
theorem Chg.trans {w w1 w2} {F F1} (h:Chg w w1 F) (k:Chg w1 w2 F1) (hF:∀ b,F1 b->F b\/w.heap.size<=b):Chg w w2 F:=
  ⟨k.os.trans h.os,k.tape.trans h.tape,k.output.trans h.output,Nat.le_trans h.size k.size,fun b hb hn=>(k.block b (Nat.lt_of_lt_of_le hb h.size) fun e=>(hF b e).elim hn (by omega)).trans (h.block b hb hn)⟩
theorem Chg.below {w w'} (h:Chg w w' (fun _=>False)):Below w.heap.size w w':=⟨h.os,h.tape,h.output,h.size,fun b hb=>h.block b hb (fun e=>e)⟩
theorem Chg.of_below {w w'} (h:Below w.heap.size w w') (F):Chg w w' F:=⟨h.os,h.tape,h.output,h.size,fun b hb _=>h.block b hb⟩
theorem Chg.drew (w) (F):Chg w { w with drawn:=w.drawn+1 } F:=⟨rfl,rfl,rfl,Nat.le_refl _,fun _ _ _=>rfl⟩
theorem Chg.of_grown {w w'} {row} (h:w.grownBy w' row) {F} (hF:∀ b,row=some b->F b):Chg w w' F:=
  ⟨h.os,h.tape,h.output,h.size,fun b hb hn=>h.block b hb fun e=>hn (hF b e.symm)⟩
theorem Chg.alloc (w) (o) (F):Chg w (w.alloc o) F:=Chg.of_below ((Below.refl _ _).alloc (Nat.le_refl _) o) F
structure Ft where
  own:Nat->Prop
  rd:Nat->Prop
def Ft.has (F0:Ft) (w0:World) (b:Nat):Prop:=F0.rd b\/F0.own b\/w0.heap.size<=b
structure St (w0:World) (F0:Ft) (Hs Rs:List Ch) (w:World):Prop where
  chg:Chg w0 w F0.own
  sat:∃ F,SatH Hs w F/\(∀ b,F b->b<w.heap.size/\(F0.own b\/w0.heap.size<=b))/\∀ c∈Rs,∃ R,c.ok w R/\∀ b,R b->(b<w.heap.size/\¬ F b)/\F0.has w0 b

def Gives (l:List Ch) (c:Ch):Prop:=∃ c'∈l,∀ w F,c'.ok w F->c.ok w F
theorem Gives.self {l} {c} (k) (h:nth l k=some c):Gives l c:=⟨c,by rw [Yk] at h; exact List.mem_of_getElem? h,fun _ _ h=>h⟩
theorem Gives.of {l} {c c'} (k) (h:nth l k=some c') (hc:∀ w F,c'.ok w F->c.ok w F):Gives l c:=⟨c',by rw [Yk] at h; exact List.mem_of_getElem? h,hc⟩

section
variable {w0 w:World} {F0:Ft} {Hs Rs:List Ch}
theorem SatH.mem:∀ {Hs} {w} {F} {c},SatH Hs w F->c∈Hs->∃ F1,c.ok w F1/\∀ b,F1 b->F b
  | [],_,_,_,_,h=>by cases h
  | d :: cs,w,F,c,⟨F1,F2,h1,h2,h3,h4⟩,h=>by
    rcases List.mem_cons.1 h with rfl | h
    · exact ⟨F1,h1,fun b hb=>(h3 b hb).1⟩
    · obtain ⟨G,g,hG⟩:=SatH.mem h2 h
      exact ⟨G,g,fun b hb=>h4 b (hG b hb)⟩
theorem St.step (h:St w0 F0 Hs Rs w) {ks} {pre rest} (hp:pick ks Hs=some (pre,rest)) :
    ∃ F,SatH pre w F/\(∀ b,F b->b<w.heap.size)/\(∀ c,Gives (rest ++ Rs) c->∃ R,c.ok w R/\∀ b,R b->b<w.heap.size/\¬ F b)/\
      ∀ w' post F',Chg w w' F->SatH post w' F'->(∀ b,F' b->(F b\/w.heap.size<=b)/\b<w'.heap.size)->St w0 F0 (post ++ rest) Rs w':=by
  obtain ⟨F,hF,hb,hR⟩:=h.sat
  obtain ⟨F1,F2,h1,h2,h3,h4⟩:=hF.pick hp;refine ⟨F1,h1,fun b hb'=>(hb b (h3 b hb').1).1,?_,?_⟩
  · rintro c ⟨c',hm,hc⟩
    rcases List.mem_append.1 hm with hm | hm
    · obtain ⟨G,g,hG⟩:=h2.mem hm
      exact ⟨G,hc _ _ g,fun b hb'=>⟨(hb b (h4 b (hG b hb'))).1,fun e=>(h3 b e).2 (hG b hb')⟩⟩
    · obtain ⟨R,r,hRb⟩:=hR c' hm
      exact ⟨R,hc _ _ r,fun b hb'=>⟨(hRb b hb').1.1,fun e=>(hRb b hb').1.2 (h3 b e).1⟩⟩
  · intro w' post F' hchg hpost hF'
    have hsame:∀ b,F2 b->w'.heap[b]?=w.heap[b]?:=fun b hb'=>hchg.block b (hb b (h4 b hb')).1 fun e=>(h3 b e).2 hb';refine ⟨h.chg.trans hchg fun b hb'=>(hb b (h3 b hb').1).2,fun b=>F' b\/F2 b,SatH.join hpost (h2.stable hsame) ?_,?_,?_⟩
    · intro b hb' e
      rcases (hF' b hb').1 with q | q
      · exact (h3 b q).2 e
      · have:=(hb b (h4 b e)).1; omega
    · intro b hb'
      rcases hb' with q | q
      · refine ⟨(hF' b q).2,?_⟩
        rcases (hF' b q).1 with q' | q'
        · exact (hb b (h3 b q').1).2
        · exact .inr (Nat.le_trans h.chg.size q')
      · exact ⟨Nat.lt_of_lt_of_le (hb b (h4 b q)).1 hchg.size,(hb b (h4 b q)).2⟩
    · intro c hc
      obtain ⟨R,r,hRb⟩:=hR c hc;have hnF:∀ b,R b->¬ F1 b:=fun b hb' e=>(hRb b hb').1.2 (h3 b e).1;refine ⟨R,c.stable (fun b hb'=>hchg.block b (hRb b hb').1.1 (hnF b hb')) r,fun b hb'=>⟨⟨Nat.lt_of_lt_of_le (hRb b hb').1.1 hchg.size,fun e=>?_⟩,(hRb b hb').2⟩⟩;rcases e with e | e
      · rcases (hF' b e).1 with q | q
        · exact hnF b hb' q
        · have:=(hRb b hb').1.1; omega
      · exact (hRb b hb').1.2 (h4 b e)
theorem St.add (h:St w0 F0 Hs Rs w) {w'} {c} {F'} (hchg:Chg w w' (fun _=>False)) (hc:c.ok w' F') (hF:∀ b,F' b->w.heap.size<=b/\b<w'.heap.size):St w0 F0 (c :: Hs) Rs w':=by
  obtain ⟨F,_,_,_,hk⟩:=h.step (ks:=[]) rfl;exact hk w' [c] F' (hchg.mono fun b hb=>hb.elim) ⟨F',fun _=>False,hc,trivial,fun b hb=>⟨hb,fun e=>e⟩,fun b hb=>hb.elim⟩ (fun b hb=>⟨.inr (hF b hb).1,(hF b hb).2⟩)
theorem St.same (h:St w0 F0 Hs Rs w) {w'} (hchg:Chg w w' (fun _=>False)):St w0 F0 Hs Rs w':=by
  obtain ⟨F,_,_,_,hk⟩:=h.step (ks:=[]) rfl;exact hk w' [] (fun _=>False) (hchg.mono fun b hb=>hb.elim) trivial (fun b hb=>hb.elim)
theorem St.drew (h:St w0 F0 Hs Rs w):St w0 F0 Hs Rs { w with drawn:=w.drawn+1 }:=h.same (Chg.drew w _)
theorem St.turn (h:St w0 F0 Hs Rs w) {k} {c} (hk:nth Hs k=some c) :
    ∃ F,c.ok w F/\(∀ b,F b->b<w.heap.size)/\∀ w' c' F',Chg w w' F->c'.ok w' F'->(∀ b,F' b->(F b\/w.heap.size<=b)/\b<w'.heap.size)->St w0 F0 (c' :: Hs.eraseIdx k) Rs w':=by
  have hp:pick [k] Hs=some ([c],Hs.eraseIdx k):=by simp [pick,hk]
  obtain ⟨F,⟨F1,F2,h1,_,h3,_⟩,hb,_,hs⟩:=h.step hp;exact ⟨F1,h1,fun b hb'=>hb b (h3 b hb').1,fun w' c' F' hchg hc hF'=>hs w' [c'] F' (hchg.mono fun b hb'=>(h3 b hb').1)
    ⟨F',fun _=>False,hc,trivial,fun b hb'=>⟨hb',fun e=>e⟩,fun b hb'=>hb'.elim⟩ (fun b hb'=>⟨(hF' b hb').1.imp (fun e=>(h3 b e).1) id,(hF' b hb').2⟩)⟩
theorem St.own (h:St w0 F0 Hs Rs w) {k} {c} (hk:nth Hs k=some c):∃ F,c.ok w F/\∀ b,F b->b<w.heap.size:=by
  obtain ⟨F,h1,h2,_⟩:=h.turn hk;exact ⟨F,h1,h2⟩
theorem St.rd (h:St w0 F0 Hs Rs w) {k} {c} (hk:nth Rs k=some c):∃ F,c.ok w F/\∀ b,F b->b<w.heap.size:=by
  obtain ⟨F,hF,hb,hR⟩:=h.sat
  rw [Yk] at hk;obtain ⟨R,r,hRb⟩:=hR c (List.mem_of_getElem? hk);exact ⟨R,r,fun b hb'=>(hRb b hb').1.1⟩
theorem St.gives (h:St w0 F0 Hs Rs w) {c} (hc:Gives (Hs ++ Rs) c):∃ F,c.ok w F/\∀ b,F b->b<w.heap.size:=by
  obtain ⟨F,_,_,hg,_⟩:=h.step (ks:=[]) rfl;obtain ⟨R,r,hb⟩:=hg c hc;exact ⟨R,r,fun b hb'=>(hb b hb').1⟩
theorem St.read (h:St w0 F0 Hs Rs w) {c} {k} {c0} (hk:nth Rs k=some c0) (hc:∀ w F,c0.ok w F->c.ok w F):St w0 F0 Hs (c :: Rs) w:=by
  obtain ⟨F,hF,hb,hR⟩:=h.sat
  refine ⟨h.chg,F,hF,hb,fun d hd=>?_⟩;rcases List.mem_cons.1 hd with rfl | hd
  · rw [Yk] at hk
    obtain ⟨R,r,hRb⟩:=hR c0 (List.mem_of_getElem? hk);exact ⟨R,hc _ _ r,hRb⟩
  · exact hR d hd
theorem St.freeze (h:St w0 F0 Hs Rs w) {k} {c c'} (hk:nth Hs k=some c) (hc:∀ w F,c.ok w F->c'.ok w F):St w0 F0 (Hs.eraseIdx k) (c' :: Rs) w:=by
  obtain ⟨F,hF,hb,hR⟩:=h.sat
  obtain ⟨F1,F2,h1,h2,h3,h4⟩:=hF.out hk;refine ⟨h.chg,F2,h2,fun b hb'=>hb b (h4 b hb'),fun d hd=>?_⟩;rcases List.mem_cons.1 hd with rfl | hd
  · exact ⟨F1,hc _ _ h1,fun b hb'=>⟨⟨(hb b (h3 b hb').1).1,(h3 b hb').2⟩,.inr (hb b (h3 b hb').1).2⟩⟩
  · obtain ⟨R,r,hRb⟩:=hR d hd
    exact ⟨R,r,fun b hb'=>⟨⟨(hRb b hb').1.1,fun e=>(hRb b hb').1.2 (h4 b e)⟩,(hRb b hb').2⟩⟩
theorem St.only (h:St w0 F0 Hs Rs w) (ks) {ps rest} (hp:pick ks Hs=some (ps,rest)):St w0 F0 ps Rs w:=by
  obtain ⟨F,hF,hb,hR⟩:=h.sat
  obtain ⟨F1,F2,h1,h2,h3,h4⟩:=hF.pick hp;exact ⟨h.chg,F1,h1,fun b hb'=>hb b (h3 b hb').1,fun d hd=>by
    obtain ⟨R,r,hRb⟩:=hR d hd;exact ⟨R,r,fun b hb'=>⟨⟨(hRb b hb').1.1,fun e=>(hRb b hb').1.2 (h3 b e).1⟩,(hRb b hb').2⟩⟩⟩
theorem St.reads (h:St w0 F0 Hs Rs w) (Rs') (hs:∀ c∈Rs',c∈Rs):St w0 F0 Hs Rs' w:=by
  obtain ⟨F,hF,hb,hR⟩:=h.sat
  exact ⟨h.chg,F,hF,hb,fun d hd=>hR d (hs d hd)⟩
end

def Zdf (P : Program) (f : Nat) : Prop := ∃ fn, P.funcs[f]? = some fn ∧ (fn.name == "runtime.NumGoroutine") = false ∧ fn.body.isNone = false
def Spec (P:Program) (f:Nat) (args:List Value) (pre rd:List Ch) (Post:Value->List Ch->Prop):Prop:=
  Zdf P f/\∀ w F,SatH pre w F->(∀ b,F b->b<w.heap.size)->(∀ c∈rd,∃ R,c.ok w R/\∀ b,R b->b<w.heap.size/\¬ F b)->
    Calls P f args.toArray w fun e w'=>∃ v post F',e=.returned v/\Post v post/\Chg w w' F/\SatH post w' F'/\∀ b,F' b->(F b\/w.heap.size<=b)/\b<w'.heap.size
theorem Ut {P} {f} (h:Zdf P f) (args) (w):(callFunc f args).run P w=.ok (.enter f args) w:=by
  obtain ⟨fn,hf,hn,hb⟩:=h;have hn' : ¬ fn.name = "runtime.NumGoroutine" := by simpa using hn
  have hb':¬ fn.body=none:=by intro e; rw [e] at hb; cases hb
  simp [callFunc,hf,hn',hb']
theorem Spec.mono {P} {f} {args} {pre rd} {Post Post'} (h:Spec P f args pre rd Post) (hp:∀ v l,Post v l->Post' v l):Spec P f args pre rd Post':=
  ⟨h.1,fun w F h1 h2 h3=>(h.2 w F h1 h2 h3).mono fun e w' ⟨v,post,F',e1,e2,r⟩=>⟨v,post,F',e1,hp _ _ e2,r⟩⟩

def Jd (env:Env):List ResultVar->Option (List Value)
  | []=>some []
  | .tmp t :: r=>match Z8 env t,Jd env r with | some v,some vs=>some (v :: vs) | _,_=>none
  | .cell _ _ :: _=>none
def Jg:List Value->Value | [v]=>v | vs=>.tuple vs.toArray
def Zde (P:Program) (fn:Func) (w0:World) (F0:Ft) (Post:Value->List Ch->Prop):Xg
  | .ret,env,w | .normal,env,w=>∃ v post Rs,(∀ n a,Fr n env a->(results fn a.tmps).run P w=.ok v w)/\Post v post/\St w0 F0 post Rs w
  | _,_,_=>False

def Ww:Nat->List Value->Env
  | _,[]=>[]
  | k,v :: vs=>(k,v) :: Ww (k+1) vs
theorem Uz:∀ vs k t v,Z8 (Ww k vs) t=some v->k<=t/\vs[t - k]?=some v
  | [],k,t,v,h=>by cases h
  | u :: vs,k,t,v,h=>by
    simp only [Ww,Z8] at h;cases hb:Nat.beq k t with
    | true=>
      rw [hb] at h;have:=Nat.eq_of_beq_eq_true hb;subst this;simp only [cond_true,Option.some.injEq] at h;subst h;exact ⟨Nat.le_refl _,by simp⟩
    | false=>
      rw [hb] at h;obtain ⟨h1,h2⟩:=Uz vs (k+1) t v h;refine ⟨by omega,?_⟩;rw [show t - k=(t - (k+1))+1 from by omega];simpa using h2
theorem Spec.enter {P} {f} {fn} {c} {args} {pre rd} {Post}
    (hf : P.funcs[f]? = some fn) (hb : fn.body = some c) (hn : (fn.name == "runtime.NumGoroutine") = false) (hs : Nat.ble args.length fn.ntmps = true)
    (h:∀ w0 F0,St w0 F0 pre rd w0->J P fn.ntmps c (Zde P fn w0 F0 Post) (Ww 0 args) w0):Spec P f args pre rd Post:=by
  refine ⟨⟨fn,hf,hn,by simp [hb]⟩,fun w F hF hlt hR=>?_⟩;have hst:St w ⟨F,fun b=>b<w.heap.size/\¬ F b⟩ pre rd w:=⟨Chg.refl _ _,F,hF,fun b hb=>⟨hlt b hb,.inl hb⟩,fun c hc=>by
    obtain ⟨R,r,hRb⟩:=hR c hc;exact ⟨R,r,fun b hb=>⟨hRb b hb,.inl (hRb b hb)⟩⟩⟩
  have hj:=h w _ hst;refine calls_of_wp hf hb ?_;have hsz:args.length<=fn.ntmps:=Nat.le_of_ble_eq_true hs;refine hj.go _ _ ⟨by simp; omega,rfl,fun t v hl=>?_⟩ fun e env a w' hfr hp=>?_
  · obtain ⟨_,hv⟩:=Uz args 0 t v hl
    simp only [Nat.sub_zero] at hv;have hlt:t<args.length:=(List.getElem?_eq_some_iff.1 hv).1;simpa [Array.getElem?_append,hlt] using hv
  · cases e <;> simp only [Zde] at hp <;> first
      | exact hp.elim
      | (obtain ⟨v,post,Rs,hres,hpost,hst⟩:=hp
         obtain ⟨F',hF',hb',_⟩:=hst.sat
         exact ⟨hfr.defers,v,hres _ _ hfr,v,post,F',rfl,hpost,hst.chg,hF',fun b hb=>⟨(hb' b hb).2,(hb' b hb).1⟩⟩)

def SpecA (P:Program) (f:Nat) (args:List Value) (pre rd:List Ch) (Post:Value->List Ch->List Ch->Prop):Prop:=
  Zdf P f/\∀ w F (RR:Nat->Prop),SatH pre w F->(∀ b,F b->b<w.heap.size)->(∀ b,RR b->b<w.heap.size/\¬ F b)->(∀ c∈rd,∃ R,c.ok w R/\∀ b,R b->RR b)->
    Calls P f args.toArray w fun e w'=>∃ v post rp F',e=.returned v/\Post v post rp/\Chg w w' F/\SatH post w' F'/\(∀ b,F' b->(F b\/w.heap.size<=b)/\b<w'.heap.size)/\
      ∀ c∈rp,∃ R,c.ok w' R/\∀ b,R b->(b<w'.heap.size/\¬ F' b)/\(RR b\/F b\/w.heap.size<=b)
def Zdz (P:Program) (fn:Func) (w0:World) (F0:Ft) (Post:Value->List Ch->List Ch->Prop):Xg
  | .ret,env,w | .normal,env,w=>∃ v post rp,(∀ n a,Fr n env a->(results fn a.tmps).run P w=.ok v w)/\Post v post rp/\St w0 F0 post rp w
  | _,_,_=>False
theorem SpecA.enter {P} {f} {fn} {c} {args} {pre rd} {Post}
    (hf : P.funcs[f]? = some fn) (hb : fn.body = some c) (hn : (fn.name == "runtime.NumGoroutine") = false) (hs : Nat.ble args.length fn.ntmps = true)
    (h:∀ w0 F0,St w0 F0 pre rd w0->J P fn.ntmps c (Zdz P fn w0 F0 Post) (Ww 0 args) w0):SpecA P f args pre rd Post:=by
  refine ⟨⟨fn,hf,hn,by simp [hb]⟩,fun w F RR hF hlt hRR hR=>?_⟩;have hst:St w ⟨F,RR⟩ pre rd w:=⟨Chg.refl _ _,F,hF,fun b hb=>⟨hlt b hb,.inl hb⟩,fun c hc=>by
    obtain ⟨R,r,hRb⟩:=hR c hc;exact ⟨R,r,fun b hb=>⟨hRR b (hRb b hb),.inl (hRb b hb)⟩⟩⟩
  have hj:=h w _ hst;refine calls_of_wp hf hb ?_;have hsz:args.length<=fn.ntmps:=Nat.le_of_ble_eq_true hs;refine hj.go _ _ ⟨by simp; omega,rfl,fun t v hl=>?_⟩ fun e env a w' hfr hp=>?_
  · obtain ⟨_,hv⟩:=Uz args 0 t v hl
    simp only [Nat.sub_zero] at hv;have hlt:t<args.length:=(List.getElem?_eq_some_iff.1 hv).1;simpa [Array.getElem?_append,hlt] using hv
  · cases e <;> simp only [Zdz] at hp <;> first
      | exact hp.elim
      | (obtain ⟨v,post,rp,hres,hpost,hst⟩:=hp
         obtain ⟨F',hF',hb',hrp⟩:=hst.sat
         exact ⟨hfr.defers,v,hres _ _ hfr,v,post,rp,F',rfl,hpost,hst.chg,hF',fun b hb=>⟨(hb' b hb).2,(hb' b hb).1⟩,hrp⟩)
theorem St.stepA {w0 w:World} {F0:Ft} {Hs Rs:List Ch} (h:St w0 F0 Hs Rs w) {ks:List Nat} {pre rest:List Ch} (hp:pick ks Hs=some (pre,rest)) :
    ∃(F RR:Nat->Prop),SatH pre w F/\(∀ b,F b->b<w.heap.size)/\(∀ b,RR b->b<w.heap.size/\¬ F b)/\(∀ c,Gives Rs c->∃ R,c.ok w R/\∀ b,R b->RR b)/\
      ∀ w' post rp F',Chg w w' F->SatH post w' F'->(∀ b,F' b->(F b\/w.heap.size<=b)/\b<w'.heap.size)->(∀ c∈rp,∃ R,c.ok w' R/\∀ b,R b->(b<w'.heap.size/\¬ F' b)/\(RR b\/F b\/w.heap.size<=b))->St w0 F0 (post ++ rest) (rp ++ Rs) w':=by
  obtain ⟨F,hF,hb,hR⟩:=h.sat
  obtain ⟨F1,F2,h1,h2,h3,h4⟩:=hF.pick hp;refine ⟨F1,fun b=>(b<w.heap.size/\¬ F b)/\F0.has w0 b,h1,fun b hb'=>(hb b (h3 b hb').1).1,fun b hb'=>⟨hb'.1.1,fun e=>hb'.1.2 (h3 b e).1⟩,?_,?_⟩
  · rintro c ⟨c',hm,hc⟩
    obtain ⟨R,r,hRb⟩:=hR c' hm;exact ⟨R,hc _ _ r,hRb⟩
  · intro w' post rp F' hchg hpost hF' hrp
    have hsame:∀ b,F2 b->w'.heap[b]?=w.heap[b]?:=fun b hb'=>hchg.block b (hb b (h4 b hb')).1 fun e=>(h3 b e).2 hb';refine ⟨h.chg.trans hchg fun b hb'=>(hb b (h3 b hb').1).2,fun b=>F' b\/F2 b,SatH.join hpost (h2.stable hsame) ?_,?_,?_⟩
    · intro b hb' e
      rcases (hF' b hb').1 with q | q
      · exact (h3 b q).2 e
      · have:=(hb b (h4 b e)).1; omega
    · intro b hb'
      rcases hb' with q | q
      · refine ⟨(hF' b q).2,?_⟩
        rcases (hF' b q).1 with q' | q'
        · exact (hb b (h3 b q').1).2
        · exact .inr (Nat.le_trans h.chg.size q')
      · exact ⟨Nat.lt_of_lt_of_le (hb b (h4 b q)).1 hchg.size,(hb b (h4 b q)).2⟩
    · intro c hc
      rcases List.mem_append.1 hc with hc | hc
      · obtain ⟨R,r,hRb⟩:=hrp c hc
        refine ⟨R,r,fun b hb'=>⟨⟨(hRb b hb').1.1,fun e=>?_⟩,?_⟩⟩
        · rcases e with e | e
          · exact (hRb b hb').1.2 e
          · rcases (hRb b hb').2 with q | q | q
            · exact q.1.2 (h4 b e)
            · exact (h3 b q).2 e
            · have:=(hb b (h4 b e)).1; omega
        · rcases (hRb b hb').2 with q | q | q
          · exact q.2
          · exact .inr (hb b (h3 b q).1).2
          · exact .inr (.inr (Nat.le_trans h.chg.size q))
      · obtain ⟨R,r,hRb⟩:=hR c hc
        have hnF:∀ b,R b->¬ F1 b:=fun b hb' e=>(hRb b hb').1.2 (h3 b e).1;refine ⟨R,c.stable (fun b hb'=>hchg.block b (hRb b hb').1.1 (hnF b hb')) r,fun b hb'=>⟨⟨Nat.lt_of_lt_of_le (hRb b hb').1.1 hchg.size,fun e=>?_⟩,(hRb b hb').2⟩⟩;rcases e with e | e
        · rcases (hF' b e).1 with q | q
          · exact hnF b hb' q
          · have:=(hRb b hb').1.1; omega
        · exact (hRb b hb').1.2 (h4 b e)

theorem Ue {P} {fn} {env} {w} {vs} (h:Jd env fn.results.toList=some vs):∀ n a,Fr n env a->(results fn a.tmps).run P w=.ok (Jg vs) w:=by
  intro n a hf;have key:∀(rs:List ResultVar) (vs:List Value),Jd env rs=some vs->
      (rs.mapM (fun x=>match x with | .tmp t=>pure (a.tmps.getD t undef) | .cell q t=>do loadVar t (<- asAddr (a.tmps.getD q undef))):Sem (List Value)).run P w=.ok vs w:=by
    intro rs
    induction rs with
    | nil=>intro vs h; simp only [Jd,Option.some.injEq] at h; subst h; simp
    | cons r rs ih=>
      intro vs h;cases r with
      | cell q t=>cases h
      | tmp t=>
        simp only [Jd] at h;split at h
        · rename_i v us hv hus
          simp only [Option.some.injEq] at h;subst h;have hg:=hf.get _ _ hv;have:=ih us hus;simp only [List.mapM_cons,Sem.run_bind,Sem.run_pure,Result.andThen_ok];rw [this];simp [hg]
        · cases h
  have hk:=key _ _ h;have hm:(fn.results.mapM (fun x=>match x with | .tmp t=>pure (a.tmps.getD t undef) | .cell q t=>do loadVar t (<- asAddr (a.tmps.getD q undef))):Sem (Array Value)).run P w=.ok vs.toArray w:=by
    have e:fn.results=fn.results.toList.toArray:=by simp
    rw [e,List.mapM_toArray];simp only [Sem.run_map,hk,Result.andThen_ok]
  unfold results;rw [Sem.run_bind];refine (congrArg (fun r=>Result.andThen r _) hm).trans ?_;simp only [Result.andThen_ok,Sem.run_pure];congr 1
  match vs with
  | []=>rfl
  | [v]=>rfl
  | v :: u :: r=>simp [Jg]
end Go.SK

namespace Go.SK
open Go Go.RowKit

inductive Ty where
  | int (k:IntKind) | bool | str | val | unit
  | slice (E:Nat) (t:Ty)
  | pair (a b:Ty)
@[reducible] def Ty.D:Ty->Type
  | .int _=>Int | .bool=>Bool | .str=>List UInt8 | .val=>Value | .unit=>Unit
  | .slice _ t=>List t.D
  | .pair a b=>a.D×b.D
def Ty.n:Ty->Nat
  | .unit=>0 | .pair a b=>a.n+b.n | _=>1
def Elems {α:Type} (ok:α->List Value->Prop):List α->List Value->Prop
  | [],inner=>inner=[]
  | x :: xs,inner=>∃ c r,inner=c ++ r/\ok x c/\Elems ok xs r
def Ty.ok:(t:Ty)->World->(Nat->Prop)->t.D->List Value->Prop
  | .int k,_,_,x,cs=>cs=[.int k x]
  | .bool,_,_,x,cs=>cs=[.bool x]
  | .str,_,_,x,cs=>cs=[.string ⟨⟨x⟩⟩]
  | .val,_,_,x,cs=>cs=[x]/\x.oneCell'=true
  | .unit,_,_,_,cs=>cs=[]
  | .slice _ t,w,F,xs,cs=>∃ A c,cs=[.slice A xs.length c]/\xs.length<=c/\(xs=[]\/∃ b off inner,A=some ⟨b,off,none⟩/\F b/\Elems (t.ok w F) xs inner/\∀ j v,inner[j]?=some v->w.cell? ⟨b,off+j,none⟩=some v)
  | .pair a b,w,F,x,cs=>∃ c1 c2,cs=c1 ++ c2/\a.ok w F x.1 c1/\b.ok w F x.2 c2
def Ty.enc:(t:Ty)->t.D->List Value
  | .int k,x=>[.int k x]
  | .bool,x=>[.bool x]
  | .str,x=>[.string ⟨⟨x⟩⟩]
  | .val,x=>[x]
  | .unit,_=>[]
  | .slice _ _,_=>[]
  | .pair a b,x=>a.enc x.1 ++ b.enc x.2
def Ty.flat:Ty->Bool
  | .slice _ _=>false | .pair a b=>a.flat && b.flat | _=>true
def Ty.scal:Ty->Bool
  | .slice _ _ | .val=>false | .pair a b=>a.scal && b.scal | _=>true

theorem Elems.imp {α:Type} {ok ok':α->List Value->Prop} (h:∀ x c,ok x c->ok' x c):∀ {xs:List α} {inner},Elems ok xs inner->Elems ok' xs inner
  | [],_,e=>e
  | _ :: _,_,⟨c,r,e,h1,h2⟩=>⟨c,r,e,h _ _ h1,Elems.imp h h2⟩
theorem Elems.length {α:Type} {ok:α->List Value->Prop} {m} (h:∀ x c,ok x c->c.length=m):∀ {xs:List α} {inner},Elems ok xs inner->inner.length=xs.length*m
  | [],_,e=>by rw [e]; simp
  | x :: xs,_,⟨c,r,e,h1,h2⟩=>by rw [e,List.length_append,h _ _ h1,h2.length h,List.length_cons,Nat.add_mul]; omega
theorem Elems.append {α:Type} {ok:α->List Value->Prop}:∀ {xs ys:List α} {i1 i2},Elems ok xs i1->Elems ok ys i2->Elems ok (xs ++ ys) (i1 ++ i2)
  | [],_,_,_,e,h=>by rw [e]; exact h
  | _ :: _,_,_,_,⟨c,r,e,h1,h2⟩,h=>⟨c,r ++ _,by rw [e,List.append_assoc],h1,h2.append h⟩
theorem Elems.get {α:Type} {ok:α->List Value->Prop} {m} (h:∀ x c,ok x c->c.length=m):∀ {xs:List α} {inner},Elems ok xs inner->∀ {i} {x:α},xs[i]?=some x->
    ∃ c,ok x c/\∀ j v,c[j]?=some v->inner[i*m+j]?=some v
  | [],_,_,_,_,hx=>by simp at hx
  | y :: ys,inner,⟨c,r,e,h1,h2⟩,0,x,hx=>by
    simp only [List.getElem?_cons_zero,Option.some.injEq] at hx;subst hx;refine ⟨c,h1,fun j v hj=>?_⟩;have hlt:j<c.length:=(List.getElem?_eq_some_iff.1 hj).1;rw [e,Nat.zero_mul,Nat.zero_add,List.getElem?_append_left hlt,hj]
  | y :: ys,inner,⟨c,r,e,h1,h2⟩,i+1,x,hx=>by
    obtain ⟨c',hc,hg⟩:=h2.get h (i:=i) (x:=x) (by simpa using hx);refine ⟨c',hc,fun j v hj=>?_⟩;have hl:=h _ _ h1;rw [e,List.getElem?_append_right (by rw [hl,Nat.add_mul]; omega)];rw [hl,show (i+1)*m+j - m=i*m+j from by rw [Nat.add_mul]; omega];exact hg j v hj
theorem Elems.take {α:Type} {ok:α->List Value->Prop} {m} (h:∀ x c,ok x c->c.length=m):∀ {xs:List α} {inner},Elems ok xs inner->∀ k,Elems ok (xs.take k) (inner.take (k*m))
  | [],_,e,k=>by rw [show _=[] from e]; simp [Elems]
  | y :: ys,inner,⟨c,r,e,h1,h2⟩,0=>by simp [Elems]
  | y :: ys,inner,⟨c,r,e,h1,h2⟩,k+1=>by
    refine ⟨c,r.take (k*m),?_,h1,h2.take h k⟩;rw [e,List.take_append,h _ _ h1,List.take_of_length_le (by rw [h _ _ h1,Nat.add_mul]; omega),show (k+1)*m - m=k*m from by rw [Nat.add_mul]; omega]
theorem Elems.drop {α:Type} {ok:α->List Value->Prop} {m} (h:∀ x c,ok x c->c.length=m):∀ {xs:List α} {inner},Elems ok xs inner->∀ k,Elems ok (xs.drop k) (inner.drop (k*m))
  | [],_,e,k=>by rw [show _=[] from e]; simp [Elems]
  | y :: ys,inner,h0,0=>by simpa using h0
  | y :: ys,inner,⟨c,r,e,h1,h2⟩,k+1=>by
    have:=h2.drop h k;have e2:inner.drop ((k+1)*m)=r.drop (k*m):=by
      rw [e,List.drop_append,h _ _ h1,List.drop_of_length_le (by rw [h _ _ h1,Nat.add_mul]; omega),show (k+1)*m - m=k*m from by rw [Nat.add_mul]; omega]; rfl
    rw [e2];exact this

theorem Ty.ok_len:∀(t:Ty) {w:World} {F:Nat->Prop} {x:t.D} {cs:List Value},t.ok w F x cs->cs.length=t.n
  | .int _,_,_,_,_,h=>by rw [h]; rfl
  | .bool,_,_,_,_,h=>by rw [h]; rfl
  | .str,_,_,_,_,h=>by rw [h]; rfl
  | .val,_,_,_,_,h=>by rw [h.1]; rfl
  | .unit,_,_,_,_,h=>by rw [h]; rfl
  | .slice _ _,_,_,_,_,⟨A,c,h,_⟩=>by rw [h]; rfl
  | .pair a b,_,_,_,_,⟨c1,c2,h,h1,h2⟩=>by rw [h,List.length_append,a.ok_len h1,b.ok_len h2]; rfl
theorem Ty.ok_one:∀(t:Ty) {w:World} {F:Nat->Prop} {x:t.D} {cs:List Value},t.ok w F x cs->∀ v∈cs,v.oneCell'=true
  | .int _,_,_,_,_,h=>by rw [h]; simp [Value.oneCell']
  | .bool,_,_,_,_,h=>by rw [h]; simp [Value.oneCell']
  | .str,_,_,_,_,h=>by rw [h]; simp [Value.oneCell']
  | .val,_,_,_,_,h=>by rw [h.1]; simpa using h.2
  | .unit,_,_,_,_,h=>by rw [h]; simp
  | .slice _ _,_,_,_,_,⟨A,c,h,_⟩=>by rw [h]; simp [Value.oneCell']
  | .pair a b,_,_,_,_,⟨c1,c2,h,h1,h2⟩=>by
    rw [h]; intro v hv;rcases List.mem_append.1 hv with hv | hv
    · exact a.ok_one h1 v hv
    · exact b.ok_one h2 v hv
theorem Gq {w w':World} {a:Addr} (h:w'.heap[a.block]?=w.heap[a.block]?):w'.cell? a=w.cell? a:=World.cell?_of_block (w:=w) h
theorem Ty.ok_stable:∀(t:Ty) {w w':World} {F:Nat->Prop} {x:t.D} {cs:List Value},(∀ b,F b->w'.heap[b]?=w.heap[b]?)->t.ok w F x cs->t.ok w' F x cs
  | .int _,_,_,_,_,_,_,h=>h
  | .bool,_,_,_,_,_,_,h=>h
  | .str,_,_,_,_,_,_,h=>h
  | .val,_,_,_,_,_,_,h=>h
  | .unit,_,_,_,_,_,_,h=>h
  | .slice _ t,w,w',F,xs,cs,hs,⟨A,c,h1,h2,h3⟩=>⟨A,c,h1,h2,h3.imp id fun ⟨b,off,inner,e,hb,he,hc⟩=>⟨b,off,inner,e,hb,he.imp fun x c h=>t.ok_stable hs h,fun j v hj=>by rw [Gq (hs b hb)]; exact hc j v hj⟩⟩
  | .pair a b,_,_,_,_,_,hs,⟨c1,c2,h,h1,h2⟩=>⟨c1,c2,h,a.ok_stable hs h1,b.ok_stable hs h2⟩
theorem Ty.ok_mono:∀(t:Ty) {w:World} {F F':Nat->Prop} {x:t.D} {cs:List Value},(∀ b,F b->F' b)->t.ok w F x cs->t.ok w F' x cs
  | .int _,_,_,_,_,_,_,h=>h
  | .bool,_,_,_,_,_,_,h=>h
  | .str,_,_,_,_,_,_,h=>h
  | .val,_,_,_,_,_,_,h=>h
  | .unit,_,_,_,_,_,_,h=>h
  | .slice _ t,w,F,F',xs,cs,hs,⟨A,c,h1,h2,h3⟩=>⟨A,c,h1,h2,h3.imp id fun ⟨b,off,inner,e,hb,he,hc⟩=>⟨b,off,inner,e,hs b hb,he.imp fun x c h=>t.ok_mono hs h,hc⟩⟩
  | .pair a b,_,_,_,_,_,hs,⟨c1,c2,h,h1,h2⟩=>⟨c1,c2,h,a.ok_mono hs h1,b.ok_mono hs h2⟩
theorem Ty.ok_enc:∀(t:Ty),t.flat=true->∀ {w:World} {F:Nat->Prop} {x:t.D} {cs:List Value},t.ok w F x cs->cs=t.enc x
  | .int _,_,_,_,_,_,h=>h
  | .bool,_,_,_,_,_,h=>h
  | .str,_,_,_,_,_,h=>h
  | .val,_,_,_,_,_,h=>h.1
  | .unit,_,_,_,_,_,h=>h
  | .slice _ _,hf,_,_,_,_,_=>by cases hf
  | .pair a b,hf,_,_,_,_,⟨c1,c2,h,h1,h2⟩=>by
    simp only [Ty.flat,Bool.and_eq_true] at hf;rw [h,a.ok_enc hf.1 h1,b.ok_enc hf.2 h2]; rfl
theorem Ty.ok_scal:∀(t:Ty),t.scal=true->∀(w:World) (F:Nat->Prop) (x:t.D),t.ok w F x (t.enc x)
  | .int _,_,_,_,_=>rfl
  | .bool,_,_,_,_=>rfl
  | .str,_,_,_,_=>rfl
  | .val,hf,_,_,_=>by cases hf
  | .unit,_,_,_,_=>rfl
  | .slice _ _,hf,_,_,_=>by cases hf
  | .pair a b,hf,w,F,x=>by
    simp only [Ty.scal,Bool.and_eq_true] at hf;exact ⟨_,_,rfl,a.ok_scal hf.1 w F x.1,b.ok_scal hf.2 w F x.2⟩
theorem Elems.scal {t:Ty} (h:t.scal=true) (w:World) (F:Nat->Prop):∀ xs:List t.D,Elems (t.ok w F) xs (xs.flatMap t.enc)
  | []=>rfl
  | x :: xs=>⟨t.enc x,xs.flatMap t.enc,by simp,t.ok_scal h w F x,Elems.scal h w F xs⟩

theorem Xz (b o j:Nat):(⟨b,o,none⟩:Addr).add j=⟨b,o+j,none⟩:=by unfold Addr.add; split <;> simp_all

def Yx (b t:Nat) (cs:List Value):Ch where
  ok w F:=F b/\w.heap[b]?=some (.cells cs.toArray t (0,0))
  stable hs h:=⟨h.1,by rw [hs b h.1]; exact h.2⟩
def rdC (E:Nat) (t:Ty) (xs:List t.D) (v:Value):Ch where
  ok w F:=(Ty.slice E t).ok w F xs [v]
  stable hs h:=Ty.ok_stable _ hs h
def Yg (E:Nat) (t:Ty) (xs:List t.D) (v:Value):Ch where
  ok w F:=∃ inner F',w.ownsRow 0 E t.n v xs.length inner/\Elems (t.ok w F') xs inner/\(∀ b,F' b->F b)/\(∀ b,v.ownBlock=some b->F b/\¬ F' b)
  stable:=fun {w w' F} hs ⟨inner,F',h1,h2,h3,h4⟩=>⟨inner,F',by
      refine ⟨h1.1,h1.2.imp id ?_⟩;rintro ⟨g,cap,cur,rfl,hg,hh,r⟩;exact ⟨g,cap,cur,rfl,hg,by rw [hs g (h4 g rfl).1]; exact hh,r⟩,h2.imp fun x c h=>Ty.ok_stable _ (fun b hb=>hs b (h3 b hb)) h,h3,h4⟩

theorem Yj {E:Nat} {t:Ty} {xs:List t.D} {v:Value} (w:World) (F:Nat->Prop) (h:(Yg E t xs v).ok w F):(rdC E t xs v).ok w F:=by
  obtain ⟨inner,F',⟨hlen,h1⟩,h2,h3,h4⟩:=h;rcases h1 with ⟨rfl,hn⟩ | ⟨g,cap,cur,rfl,_,hh,hnc,_,hsz,htake⟩
  · have:xs=[]:=List.eq_nil_of_length_eq_zero hn
    subst this;exact ⟨none,0,rfl,Nat.le_refl _,.inl rfl⟩
  · refine ⟨some ⟨g,0,none⟩,cap,rfl,hnc,.inr ⟨g,0,inner,rfl,(h4 g rfl).1,h2.imp fun x c h=>t.ok_mono h3 h,fun j u hu=>?_⟩⟩
    have:=World.ownsRow.cells (base:=0) (e:=E) (size:=t.n) (v:=.slice (some ⟨g,0,none⟩) xs.length cap) (n:=xs.length) (xs:=inner) ⟨hlen,.inr ⟨g,cap,cur,rfl,Nat.zero_le _,hh,hnc,by assumption,hsz,htake⟩⟩ (g:=g) rfl j u hu;have hadd:(⟨g,0,none⟩:Addr).add j=⟨g,0+j,none⟩:=by unfold Addr.add; split <;> simp_all
    rw [hadd] at this;exact this
def blk (A:Option Addr):Nat:=(A.getD ⟨0,0,none⟩).block
def ofs (A:Option Addr):Nat:=(A.getD ⟨0,0,none⟩).off
def gt {α:Type} [Inhabited α] (xs:List α) (i:Int):α:=xs.getD i.toNat default
theorem Je {α:Type} [Inhabited α] {xs:List α} {i:Int} (h0:0<=i) (h1:i<xs.length):xs[i.toNat]?=some (gt xs i):=by
  have:i.toNat<xs.length:=by omega
  simp [gt,List.getD_eq_getElem?_getD,this]
def Wh (w0:World) (F0:Ft) (Hs Rs:List Ch) (w:World):Prop:=∃ N,St w0 F0 (N ++ Hs) Rs w
theorem J.heldSt {P} {n} {ops} {id} {PQ:Xg} {env} {w0 w} {F0} {Hs Rs} (hm:P.follows .mixedOrders=true) (h0:St w0 F0 Hs Rs w)
    (h:HJ P n ops (Wh w0 F0 Hs Rs) (PQ .normal) [] env { w with drawn:=w.drawn+1 }):J P n (.region id ops.toArray true) PQ env w:=J.held hm _ ⟨[],h0.drew⟩ h
theorem St.wh {w0 w} {F0} {Hs Rs} (h:St w0 F0 Hs Rs w):Wh w0 F0 Hs Rs w:=⟨[],h⟩
theorem Wh.gives {w0 w} {F0} {Hs Rs} {c} (h:Wh w0 F0 Hs Rs w) (hc:Gives (Hs ++ Rs) c):∃ F,c.ok w F/\∀ b,F b->b<w.heap.size:=by
  obtain ⟨N,hN⟩:=h;obtain ⟨c',hm,hi⟩:=hc;exact hN.gives ⟨c',by rw [List.append_assoc]; exact List.mem_append_right _ hm,hi⟩

section
variable {P:Program} {tt:TT} {env:Env} {S:World->Prop} {o:Oper} {w0:World} {F0:Ft} {Hs Rs:List Ch}
def Wv (i:TI) (cs:List Value):Option Value:=
  match i.kind with
  | .struct _=>cond (Nat.beq cs.length i.size) (some (.agg cs.toArray)) none
  | .other=>none
  | _=>match cs with | [v]=>some v | _=>none
theorem Gj (hT:Yq P tt) {t:Nat} {x:Operand} {i:TI} {b off:Nat} {cs:List Value} {v:Value} (ho:o.op=.load t x) (hi:find tt t=some i) (ha:Zl env x=some (.pointer (some ⟨b,off,none⟩)))
    (hc:∀ w,S w->∀ j u,cs[j]?=some u->w.cell? ⟨b,off+j,none⟩=some u) (hp:Wv i cs=some v):QOp P o env S v:=by
  intro n a w hf hS;have hok:=hT _ _ hi;have hk:=hok.kind;have hadd:=Xz b off;have hone:∀ u,cs=[u]->w.cell? ⟨b,off,none⟩=some u:=fun u e=>by have:=hc w hS 0 u (by simp [e]); simpa using this
  have hsz:=X1 w hok;have fin:(isAgg t).run P w=.ok false w->(∃ u,cs=[u]/\u=v)->(execOp a.eval o).run P w=.ok (.value v) w:=by
    rintro hag ⟨u,hu,rfl⟩;have hl:=hone u hu;simp [execOp,ho,hf.eval ha,Instr.loadAt,Instr.sureAddr,loadVar,hag,hl]
  unfold Wv at hp;cases hkk:i.kind with
  | struct fs=>
    rw [hkk] at hp hk;obtain ⟨fields,hu,_⟩:=hk;cases hb:Nat.beq cs.length i.size with
    | false=>rw [hb] at hp; cases hp
    | true=>
      rw [hb] at hp;have hlen:=Nat.eq_of_beq_eq_true hb;simp only [cond_true,Option.some.injEq] at hp;subst hp;have hl:=run_loadCells_list (P:=P) (w:=w) ⟨b,off,none⟩ cs (fun j u hj=>by rw [hadd]; exact hc w hS j u hj);rw [hlen] at hl;have hag:(isAgg t).run P w=.ok true w:=by simp [isAgg,Zw w hu]
      simp [execOp,ho,hf.eval ha,Instr.loadAt,Instr.sureAddr,loadVar,hag,hsz,hl]
  | other=>rw [hkk] at hp; cases hp
  | int k => rw [hkk] at hp hk; simp only [TK.ok] at hk; simp only at hp; split at hp <;> first | (cases hp; done) | skip
             simp only [Option.some.injEq] at hp; exact fin (by simp [isAgg,Zw w hk]) ⟨_,rfl,hp⟩
  | bool => rw [hkk] at hp hk; simp only [TK.ok] at hk; simp only at hp; split at hp <;> first | (cases hp; done) | skip
            simp only [Option.some.injEq] at hp; exact fin (by simp [isAgg,Zw w hk]) ⟨_,rfl,hp⟩
  | str => rw [hkk] at hp hk; simp only [TK.ok] at hk; simp only at hp; split at hp <;> first | (cases hp; done) | skip
           simp only [Option.some.injEq] at hp; exact fin (by simp [isAgg,Zw w hk]) ⟨_,rfl,hp⟩
  | slice e => rw [hkk] at hp hk; simp only [TK.ok] at hk; simp only at hp; split at hp <;> first | (cases hp; done) | skip
               simp only [Option.some.injEq] at hp; exact fin (by simp [isAgg,Zw w hk]) ⟨_,rfl,hp⟩
  | ptr e => rw [hkk] at hp hk; simp only [TK.ok] at hk; simp only at hp; split at hp <;> first | (cases hp; done) | skip
             simp only [Option.some.injEq] at hp; exact fin (by simp [isAgg,Zw w hk]) ⟨_,rfl,hp⟩
  | map k e => rw [hkk] at hp hk; simp only [TK.ok] at hk; simp only at hp; split at hp <;> first | (cases hp; done) | skip
               simp only [Option.some.injEq] at hp; exact fin (by simp [isAgg,Zw w hk]) ⟨_,rfl,hp⟩
  | func => rw [hkk] at hp hk; obtain ⟨ps, rs, vv, hk⟩ := hk; simp only at hp; split at hp <;> first | (cases hp; done) | skip
            simp only [Option.some.injEq] at hp; exact fin (by simp [isAgg,Zw w hk]) ⟨_,rfl,hp⟩
  | iface => rw [hkk] at hp hk; obtain ⟨ms, hk⟩ := hk; simp only at hp; split at hp <;> first | (cases hp; done) | skip
             simp only [Option.some.injEq] at hp; exact fin (by simp [isAgg,Zw w hk]) ⟨_,rfl,hp⟩

theorem Zmc {w:World} {b t:Nat} {cs:List Value} (h:w.heap[b]?=some (.cells cs.toArray t (0,0))) (off m:Nat):∀ j u,((cs.drop off).take m)[j]?=some u->w.cell? ⟨b,off+j,none⟩=some u:=by
  intro j u hu;rw [List.getElem?_take] at hu;split at hu
  · rw [List.getElem?_drop] at hu
    simp [World.cell?,h,hu]
  · cases hu
theorem Jz (hT:Yq P tt) {t:Nat} {x:Operand} {i:TI} {b off tb:Nat} {cs:List Value} {v:Value} (k:Nat) (hS:∀ w,S w->Wh w0 F0 Hs Rs w) (hk:nth Hs k=some (Yx b tb cs)) (ho:o.op=.load t x)
    (hi:find tt t=some i) (ha:Zl env x=some (.pointer (some ⟨b,off,none⟩))) (hp:Wv i ((cs.drop off).take i.size)=some v):QOp P o env S v:=
  Gj hT ho hi ha (fun w h=>by
    obtain ⟨F,hF,_⟩:=(hS w h).gives (c:=Yx b tb cs) ⟨_,List.mem_append_left _ (by rw [Yk] at hk; exact List.mem_of_getElem? hk),fun _ _ h=>h⟩;exact Zmc hF.2 off i.size) hp
theorem Zd5 {E:Nat} {t:Ty} [Inhabited t.D] {xs:List t.D} {A:Option Addr} {m c:Nat} {w:World} {F:Nat->Prop} (h:(rdC E t xs (.slice A m c)).ok w F) {i:Int} (h0:0<=i) (h1:i<xs.length) :
    A=some ⟨blk A,ofs A,none⟩/\F (blk A)/\∃ cs,t.ok w F (gt xs i) cs/\∀ j u,cs[j]?=some u->w.cell? ⟨blk A,ofs A+i.toNat*t.n+j,none⟩=some u:=by
  obtain ⟨A',c',e,hle,hr⟩:=h;simp only [List.cons.injEq,and_true,Value.slice.injEq] at e;obtain ⟨rfl,e2,rfl⟩:=e;rcases hr with rfl | ⟨b,off,inner,rfl,hb,he,hc⟩
  · simp at h1; omega
  · refine ⟨rfl,hb,?_⟩
    obtain ⟨cs,hcs,hg⟩:=he.get (fun x c h=>t.ok_len h) (Je h0 h1);exact ⟨cs,hcs,fun j u hj=>by have:=hc _ _ (hg j u hj); rw [<- Nat.add_assoc] at this; exact this⟩
theorem J9 {E:Nat} {t:Ty} [Inhabited t.D] {xs:List t.D} {A:Option Addr} {m c:Nat} {w:World} (hS:Wh w0 F0 Hs Rs w) (hg:Gives (Hs ++ Rs) (rdC E t xs (.slice A m c))) {i:Int} (h0:0<=i) (h1:i<xs.length) :
    A=some ⟨blk A,ofs A,none⟩:=by
  obtain ⟨F,hF,_⟩:=hS.gives hg;exact (Zd5 hF h0 h1).1
theorem Zck (hT:Yq P tt) {E:Nat} {t:Ty} [Inhabited t.D] (hfl:t.flat=true) {xs:List t.D} {A:Option Addr} {m c:Nat} {ty:Nat} {x:Operand} {i:TI} {ix:Int} {f sz:Nat} {v:Value}
    (hS:∀ w,S w->Wh w0 F0 Hs Rs w) (hg:Gives (Hs ++ Rs) (rdC E t xs (.slice A m c))) (h0:0<=ix) (h1:ix<xs.length) (ho:o.op=.load ty x) (hsz:t.n=sz)
    (hi:find tt ty=some i) (ha:Zl env x=some (.pointer (some ⟨blk A,ofs A+ix.toNat*sz+f,none⟩))) (hp:Wv i (((t.enc (gt xs ix)).drop f).take i.size)=some v):QOp P o env S v:=
  Gj hT ho hi ha (fun w h=>by
    obtain ⟨F,hF,_⟩:=(hS w h).gives hg;obtain ⟨_,_,cs,hcs,hc⟩:=Zd5 hF h0 h1;rw [t.ok_enc hfl hcs] at hc;intro j u hu;rw [List.getElem?_take] at hu;split at hu
    · rw [List.getElem?_drop] at hu
      have:=hc _ _ hu;rw [hsz,<- Nat.add_assoc] at this;exact this
    · cases hu) hp
theorem Zb5 (hT:Yq P tt) {t e:Nat} {x ix:Operand} {A:Option Addr} {n c:Nat} {i:Int} {ki:IntKind} {z1 z2:Nat} {z:Value} {ie:TI} (ho:o.op=.indexAddr t x ix) (ht:find tt t=some ⟨.slice e,z1,z2,z⟩) (he:find tt e=some ie)
    (hv:Zl env x=some (.slice A n c)) (hx:Zl env ix=some (.int ki i)) (hA:A=some ⟨blk A,ofs A,none⟩) (h0:0<=i) (h1:i<n):QOp P o env S (.pointer (some ⟨blk A,ofs A+i.toNat*ie.size,none⟩)):=by
  intro nn a w hf _;have hk:=(hT _ _ ht).kind;simp only [TK.ok] at hk;have hsz:=X1 w (hT _ _ he);have hv':=hf.eval hv;rw [hA] at hv';have hadd:=Xz (blk A) (ofs A);clear hA hv;simp [execOp,ho,hv',hf.eval hx,Instr.indexAt,asIntOf,Zw w hk,h0,h1,hsz,hadd]
def gtb (l:List UInt8) (i:Int):Int:=((l.getD i.toNat 0).toNat:Int)
theorem Zp9 (hT:Yq P tt) {t:Nat} {x ix:Operand} {l:List UInt8} {i:Int} {ki:IntKind} {z1 z2:Nat} {z:Value} (ho:o.op=.index t x ix) (ht:find tt t=some ⟨.str,z1,z2,z⟩)
    (hv:Zl env x=some (.string ⟨⟨l⟩⟩)) (hx:Zl env ix=some (.int ki i)) (h0:0<=i) (h1:i<l.length):QOp P o env S (.int .u8 (gtb l i)):=by
  intro nn a w hf _;have hk:=(hT _ _ ht).kind;simp only [TK.ok] at hk;have hlt:i.toNat<l.length:=by omega
  have hget:(⟨⟨l⟩⟩:ByteArray)[i.toNat]?=some (l[i.toNat]):=by
    rw [getElem?_pos (⟨⟨l⟩⟩:ByteArray) i.toNat hlt]; rfl
  have hg:gtb l i=((l[i.toNat]).toNat:Int):=by unfold gtb; rw [List.getD_eq_getElem?_getD,List.getElem?_eq_getElem hlt]; rfl
  have hu:=Zw w hk;simp only [execOp,ho,hf.eval hv,hf.eval hx,Instr.index,asIntOf,Sem.run_bind,Sem.run_pure,Result.andThen_ok,hu,if_pos h0,hget,hg]
end
end Go.SK

namespace Go.SK
open Go Go.RowKit

def two (A:List Ch):List Ch:=A
section
variable {P:Program} {tt:TT} {env:Env} {o:Oper} {w0 w:World} {F0:Ft} {Hs Rs:List Ch}

theorem B0 (w:World) (ob:Obj):(w.alloc ob).heap[w.heap.size]?=some ob:=heap_alloc_new w ob
theorem OpT.value {K} (h:∀ n a,Fr n env a->∃ v w',(execOp a.eval o).run P w=.ok (.value v) w'/\K v w'):OpT P o env w K:=by
  intro n a next Q hf hk
  obtain ⟨v,w',hr,hK⟩:=h n a hf;unfold Oper.wp;rw [hr];exact hk v w' hK
theorem OpT.skip {K} (h:∀ n a,Fr n env a->∃ w',(execOp a.eval o).run P w=.ok .skip w'/\K undef w'):OpT P o env w K:=by
  intro n a next Q hf hk
  obtain ⟨w',hr,hK⟩:=h n a hf;unfold Oper.wp;rw [hr];exact hk _ w' hK
theorem St.box (hS:St w0 F0 Hs Rs w) (t:Nat) (cs:Array Value):St w0 F0 (Yx w.heap.size t cs.toList :: Hs) Rs (w.alloc (.cells cs t)):=
  hS.add (F':=fun b=>b=w.heap.size) (Chg.alloc w _ _) ⟨rfl,by rw [Array.toArray_toList]; exact B0 w _⟩ (fun b hb=>by simp [hb])
theorem Zqp {t:Nat} {x:Operand} {v:Value} (ho:o.op=.box t x) (hx:Zl env x=some v) (hS:St w0 F0 Hs Rs w) :
    OpT P o env w (fun v' w'=>∃ b,v'=.pointer (some ⟨b,0,none⟩)/\St w0 F0 (Yx b t v.cells.toList :: Hs) Rs w'):=
  OpT.value fun n a hf=>⟨_,w.alloc (.cells v.cells t),by simp [execOp,ho,hf.eval hx,Instr.box,newVar,newRow],w.heap.size,rfl,hS.box t v.cells⟩
theorem Zn2 (hT:Yq P tt) {t:Nat} {i:TI} (ho:o.op=.alloc t) (hi:find tt t=some i) (hS:St w0 F0 Hs Rs w) :
    OpT P o env w (fun v' w'=>∃ b,v'=.pointer (some ⟨b,0,none⟩)/\St w0 F0 (Yx b t i.zero.cells.toList :: Hs) Rs w'):=
  OpT.value fun n a hf=>⟨_,w.alloc (.cells i.zero.cells t),by simp [execOp,ho,Instr.alloc,Vd w (hT _ _ hi),newVar,newRow],w.heap.size,rfl,hS.box t i.zero.cells⟩
theorem W1 (w) (g) (cs) {F} (h:F g):Chg w (w.setRow g cs) F:=
  ⟨rfl,rfl,rfl,by simp,fun b _ hn=>setRow_other w g b cs (fun e=>hn (e ▸ h))⟩
theorem Zn8 (hT:Yq P tt) {t:Nat} {x y:Operand} {i:TI} {b off tb:Nat} {cs:List Value} {v:Value} (k:Nat) (ho:o.op=.store t x y) (hS:St w0 F0 Hs Rs w) (hk:nth Hs k=some (Yx b tb cs))
    (hi:find tt t=some i) (ha:Zl env x=some (.pointer (some ⟨b,off,none⟩))) (hv:Zl env y=some v) (hsz:Nat.beq v.cells.toList.length i.size=true) (hle:Nat.ble (off+i.size) cs.length=true) (h1:v.cells.toList.all (fun u=>u.oneCell')=true) :
    OpT P o env w (fun _ w'=>St w0 F0 (Yx b tb (Z0 off v.cells.toList cs) :: Hs.eraseIdx k) Rs w'):=
  OpT.skip fun n a hf=>by
    obtain ⟨F,⟨hFb,hh⟩,hlt,hs⟩:=hS.turn hk;have hsz':v.cells.size=i.size:=by have:=Nat.eq_of_beq_eq_true hsz; simpa using this
    have hle':off+i.size<=cs.length:=Nat.le_of_ble_eq_true hle;have hst:=run_storeCells_at P b off tb v.cells.toList 0 cs.toArray w hh (by simp; omega) (by rw [List.all_eq_true] at h1; exact h1);have hlist:cs.toArray.toList.take (off+0) ++ v.cells.toList ++ cs.toArray.toList.drop (off+0+v.cells.toList.length)=Z0 off v.cells.toList cs:=by simp [Z0]
    rw [hlist] at hst;refine ⟨w.setRow b (Z0 off v.cells.toList cs).toArray,by simp [execOp,ho,hf.eval ha,hf.eval hv,Instr.storeAt,Instr.sureAddr,storeVar,X1 w (hT _ _ hi),hsz',hst],?_⟩;exact hs _ (Yx b tb (Z0 off v.cells.toList cs)) F (W1 w b _ hFb) ⟨hFb,setRow_heap w b _ _ _ _ hh⟩ (fun c hc=>⟨.inl hc,by simpa using hlt c hc⟩)
theorem Zh1 (sz):∀ vs k done rest,(∀ v∈vs,v.cells.size=sz)->done.length=k*sz->rest.length=vs.length*sz->
    Instr.fill (fun i=>some (i*sz,sz)) (done ++ rest).toArray ((List.range' k vs.length).zip vs)=some (done ++ vs.flatMap (fun v=>v.cells.toList)).toArray
  | [],k,done,rest,_,_,hr=>by
    have:rest=[]:=List.eq_nil_of_length_eq_zero (by simpa using hr);subst this;simp [Instr.fill]
  | v :: vs,k,done,rest,h,hd,hr=>by
    have hv:=h v (by simp);simp only [List.length_cons,Nat.add_mul,Nat.one_mul] at hr;simp only [List.length_cons,List.range'_succ,List.zip_cons_cons,Instr.fill];rw [if_neg (by simp [hv,hd]; omega)];have hf:(v.cells.zipIdx.foldl (fun(cs:Array Value) (x:Value×Nat)=>cs.setIfInBounds (k*sz+x.2) x.1) (done ++ rest).toArray)=((done ++ v.cells.toList) ++ rest.drop sz).toArray:=by
      apply Array.ext';rw [<- Array.foldl_toList,Zau];have:=Zf0 v.cells.toList (k*sz) 0 (done ++ rest).toArray (by simp [hv,hd]; omega);simp only [Nat.add_zero] at this;rw [this];simp only [Z0];rw [List.take_append_of_le_length (by omega),List.take_of_length_le (by omega),List.drop_append];rw [List.drop_of_length_le (by simp [hv]; omega)];simp only [Array.length_toList,hv,hd,List.nil_append];congr 2; omega
    have:=Zh1 sz vs (k+1) (done ++ v.cells.toList) (rest.drop sz) (fun u hu=>h u (by simp [hu])) (by simp [hv,hd,Nat.add_mul]) (by simp; omega);simp only [List.flatMap_cons,<- List.append_assoc];rw [<- this];exact congrArg (fun cs=>Instr.fill _ cs _) hf
theorem Zbt (hT:Yq P tt) {T e m:Nat} {z1 z2:Nat} {z:Value} {ie:TI} {ps:Array (Nat×Operand)} {vs:List Value} (ho:o.op=.buildSlice T m ps)
    (ht:find tt T=some ⟨.slice e,z1,z2,z⟩) (hi:find tt e=some ie) (hm:vs.length=m) (hm2:Nat.ble (m*ie.size) 16777216=true)
    (hv:Yt env (ps.toList.map (·.2))=some vs) (hix:ps.toList.map (·.1)=List.range' 0 vs.length) (hsz:vs.all (fun v=>Nat.beq v.cells.toList.length ie.size)=true) {n:Nat} {a:Act} (hf:Fr n env a) :
    (execOp a.eval o).run P w=.ok (.value (.slice (some ⟨w.heap.size,0,none⟩) m m)) (w.alloc (.cells (vs.flatMap (fun v=>v.cells.toList)).toArray e)):=by
  have hk:=(hT _ _ ht).kind;simp only [TK.ok] at hk;have hszr:=X1 w (hT _ _ hi);have hz:=Vd w (hT _ _ hi);have hmap:ps.map (fun x=>(x.1,a.eval x.2))=((List.range' 0 vs.length).zip vs).toArray:=by
    apply Array.ext';rw [Array.toList_map,<- hix];exact Zc3 hf _ _ hv
  have hne:¬ (m*ie.size>2 ^ 24):=by
    have:=Nat.le_of_ble_eq_true hm2;have:(2:Nat) ^ 24=16777216:=by decide
    omega
  have hall:∀ v∈vs,v.cells.size=ie.size:=fun v hv=>by
    have:=List.all_eq_true.1 hsz v hv;simpa using Nat.eq_of_beq_eq_true this
  have hfill:∀ zs:Array Value,zs.size=m*ie.size->Instr.fill (fun i=>some (i*ie.size,ie.size)) zs ((List.range' 0 vs.length).zip vs)=some (vs.flatMap (fun v=>v.cells.toList)).toArray:=fun zs hzs=>by
    have:=Zh1 ie.size vs 0 [] zs.toList hall (by simp) (by simp [hzs,hm]);simpa using this
  by_cases h0:m*ie.size=0
  · have h1:=hfill ((Array.range (m*ie.size)).map fun i=>(#[]:Array Value)[i % (#[]:Array Value).size]!) (by simp)
    simp only [execOp,ho,hmap,Instr.buildSlice,Sem.run_bind,Zw w hk,Result.andThen_ok,hszr,Sem.run_ite,if_neg hne,Sem.run_pure,if_pos h0];simp only [h1];simp [newRow]
  · have h1:=hfill ((Array.range (m*ie.size)).map fun i=>ie.zero.cells[i % ie.zero.cells.size]!) (by simp)
    simp only [execOp,ho,hmap,Instr.buildSlice,Sem.run_bind,Zw w hk,Result.andThen_ok,hszr,Sem.run_ite,if_neg hne,Sem.run_pure,if_neg h0,hz];simp only [h1];simp [newRow]
theorem Zp6 (w:World) {e m:Nat} {ty:Ty} {xs:List ty.D} {inner:List Value} {F':Nat->Prop} (he:Elems (ty.ok (w.alloc (.cells inner.toArray e)) F') xs inner) (hm:xs.length=m) (hm2:m<=maxLen) (hF:∀ b,F' b->b<w.heap.size) :
    (Yg e ty xs (.slice (some ⟨w.heap.size,0,none⟩) m m)).ok (w.alloc (.cells inner.toArray e)) (fun b=>F' b\/b=w.heap.size):=by
  have hlen:=he.length (m:=ty.n) (fun x c h=>ty.ok_len h);have hown:=World.ownsRow_lit (base:=0) (e:=e) (size:=ty.n) w inner.toArray m (Nat.zero_le _) hm2 (by simp [hlen,hm]);refine ⟨inner,F',by rw [hm]; simpa using hown,he,fun b hb=>.inl hb,fun b hb=>?_⟩;simp [Value.ownBlock] at hb;exact ⟨.inr hb.symm,fun e=>by have:=hF b e; omega⟩
theorem Zlm {m s} (h:Nat.ble (m*s) 16777216=true) (hs:0<s):m<=maxLen:=by
  have:=Nat.le_of_ble_eq_true h;have:m<=m*s:=Nat.le_mul_of_pos_right _ hs;simp only [maxLen]; omega
theorem Zqw (hT:Yq P tt) {T e m:Nat} {z1 z2:Nat} {z:Value} {ie:TI} {ps:Array (Nat×Operand)} {vs:List Value} (ty:Ty) (hsc:ty.scal=true) (xs:List ty.D) (ho:o.op=.buildSlice T m ps) (hS:St w0 F0 Hs Rs w)
    (ht:find tt T=some ⟨.slice e,z1,z2,z⟩) (hi:find tt e=some ie) (hpos:0<ie.size) (hv:Yt env (ps.toList.map (·.2))=some vs) (hm:vs.length=m) (hx:xs.length=m) (hm2:Nat.ble (m*ie.size) 16777216=true)
    (hix:ps.toList.map (·.1)=List.range' 0 vs.length) (hsz:vs.all (fun v=>Nat.beq v.cells.toList.length ie.size)=true) (hin:vs.flatMap (fun v=>v.cells.toList)=xs.flatMap ty.enc) :
    OpT P o env w (fun v w'=>∃ b,v=.slice (some ⟨b,0,none⟩) xs.length m/\St w0 F0 (Yg e ty xs (.slice (some ⟨b,0,none⟩) xs.length m) :: Hs) Rs w'):=
  OpT.value fun n a hf=>⟨_,_,Zbt hT ho ht hi hm hm2 hv hix hsz hf,w.heap.size,by rw [hx],by
    rw [hin,hx];refine hS.add (Chg.alloc w _ _) (Zp6 (F':=fun _=>False) w (Elems.scal hsc _ _ xs) hx (Zlm hm2 hpos) (fun b hb=>hb.elim)) (fun b hb=>?_);rcases hb with hb | hb
    · exact hb.elim
    · simp [hb]⟩
theorem Bl {f} {xs} {ts:Array TypeId} {fx} {vs} {pre rd rest} {Post} (ks) (hsp:Spec P f vs pre rd Post)
    (ho:o.op=.call { callee:=.value fx,args:=xs,argTypes:=ts }) (hfx:Zl env fx=some (.func (.func f) #[] #[])) (hv:Yt env xs.toList=some vs) (hS:St w0 F0 Hs Rs w) (hp:pick ks Hs=some (pre,rest))
    (hr:∀ c∈rd,Gives (rest ++ Rs) c):OpT P o env w (fun v w'=>∃ post,Post v post/\St w0 F0 (post ++ rest) Rs w'):=by
  intro n a next Q hf hk
  obtain ⟨F,hF,hlt,hg,hs⟩:=hS.step hp;have hm:xs.map a.eval=vs.toArray:=Wy hf hv;have hcall:=hsp.2 w F hF hlt (fun c hc=>hg c (hr c hc));have hrun:(execOp a.eval o).run P w=.ok (.enter f vs.toArray) w:=by
    have:=Ut hsp.1 vs.toArray w;simp [execOp,ho,resolve,hf.eval hfx,Deferred.ofValue,invoke,hm,this]
  unfold Oper.wp;rw [hrun];refine hcall.mono ?_;rintro e w' ⟨v,post,F',rfl,hP,hchg,hpost,hF'⟩;exact hk v w' ⟨post,hP,hs w' post F' hchg hpost hF'⟩
theorem Zof {f} {xs} {ts:Array TypeId} {fx} {vs} {pre rd rest} {Post} (ks) (hsp:SpecA P f vs pre rd Post)
    (ho:o.op=.call { callee:=.value fx,args:=xs,argTypes:=ts }) (hfx:Zl env fx=some (.func (.func f) #[] #[])) (hv:Yt env xs.toList=some vs) (hS:St w0 F0 Hs Rs w) (hp:pick ks Hs=some (pre,rest))
    (hr:∀ c∈rd,Gives Rs c):OpT P o env w (fun v w'=>∃ post rp,Post v post rp/\St w0 F0 (post ++ rest) (rp ++ Rs) w'):=by
  intro n a next Q hf hk
  obtain ⟨F,RR,hF,hlt,hRR,hg,hs⟩:=hS.stepA hp;have hm:xs.map a.eval=vs.toArray:=Wy hf hv;have hcall:=hsp.2 w F RR hF hlt hRR (fun c hc=>hg c (hr c hc));have hrun:(execOp a.eval o).run P w=.ok (.enter f vs.toArray) w:=by
    have:=Ut hsp.1 vs.toArray w;simp [execOp,ho,resolve,hf.eval hfx,Deferred.ofValue,invoke,hm,this]
  unfold Oper.wp;rw [hrun];refine hcall.mono ?_;rintro e w' ⟨v,post,rp,F',rfl,hP,hchg,hpost,hF',hrp⟩;exact hk v w' ⟨post,rp,hP,hs w' post rp F' hchg hpost hF' hrp⟩
end
end Go.SK
namespace Go.SK
open Go Go.RowKit
@[reducible] def w64 (x:Int):Int:=IntKind.i64.wrap x
theorem Zp {α:Type} {p} [Decidable p] {x:Option α} {r:α} (h:(if p then x else none)=some r):p/\x=some r:=by
  by_cases c:p
  · rw [if_pos c] at h; exact ⟨c,h⟩
  · rw [if_neg c] at h; cases h
theorem Yc {α β:Type} {o:Option α} {f:α->Option β} {r:β} (h:(o.bind f)=some r):∃ x,o=some x/\f x=some r:=by
  cases o with
  | none=>cases h
  | some x=>exact ⟨x,rfl,h⟩
theorem Zk {l}:∀ c∈([]:List Ch),Gives l c:=fun _ h=>by cases h
theorem Ya {l cs} {c} (h:Gives l c) (hs:∀ c∈cs,Gives l c):∀ d∈c :: cs,Gives l d:=fun d hd=>by
  rcases List.mem_cons.1 hd with rfl | hd
  · exact h
  · exact hs d hd
theorem J.condT {P} {n} {PQ:Xg} {env} {w} {c} {x y} (hc:Zl env c=some (.bool true)) (h:J P n x PQ env w):J P n (.cond c x y) PQ env w:=J.cond hc (fun _=>h) (fun e=>by cases e)
theorem J.condF {P} {n} {PQ:Xg} {env} {w} {c} {x y} (hc:Zl env c=some (.bool false)) (h:J P n y PQ env w):J P n (.cond c x y) PQ env w:=J.cond hc (fun e=>by cases e) (fun _=>h)
theorem St.addNil {w0 w} {F0} {Hs Rs} (h:St w0 F0 Hs Rs w) (E) (ty):St w0 F0 (Yg E ty [] (.slice none 0 0) :: Hs) Rs w:=
  h.add (F':=fun _=>False) (Chg.refl _ _) ⟨[],fun _=>False,World.ownsRow_nil w 0 E ty.n,rfl,fun _ hb=>hb.elim,fun b hb=>by simp [Value.ownBlock] at hb⟩ (fun _ hb=>hb.elim)
def sel:List Nat->List Ch->Option (List Ch)
  | [],_=>some []
  | k :: ks,Hs=>match nth Hs k,sel ks Hs with | some c,some cs=>some (c :: cs) | _,_=>none
theorem Zi8:∀ {ks} {Hs cs},sel ks Hs=some cs->∀ c∈cs,c∈Hs
  | [],Hs,cs,h,c,hc=>by simp only [sel,Option.some.injEq] at h; subst h; cases hc
  | k :: ks,Hs,cs,h,c,hc=>by
    simp only [sel] at h;split at h
    · rename_i d ds h1 h2
      simp only [Option.some.injEq] at h;subst h;rcases List.mem_cons.1 hc with rfl | hc
      · rw [Yk] at h1; exact List.mem_of_getElem? h1
      · exact Zi8 h2 c hc
    · cases h
theorem St.rds {w0 w} {F0} {Hs Rs} (h:St w0 F0 Hs Rs w) (ks) {cs} (hc:sel ks Rs=some cs):St w0 F0 Hs cs w:=h.reads cs (Zi8 hc)
def RV (P:Program) (w:World) (env:Env) (r:ResultVar) (v:Value):Prop:=∀ n a,Fr n env a->((match r with | .tmp t=>pure (a.tmps.getD t undef) | .cell q t=>do loadVar t (<- asAddr (a.tmps.getD q undef))):Sem Value).run P w=.ok v w
theorem RV.tmp {P} {w} {env} {t} {v} (h:Z8 env t=some v):RV P w env (.tmp t) v:=fun n a hf=>by
  have:=hf.get _ _ h;simp [this]
theorem RV.cell {P} {tt} (hT:Yq P tt) {w0 w} {F0} {Hs Rs} {env} {q t b tb} {i} {cs} {v} (k) (hS:St w0 F0 Hs Rs w) (hk:nth Hs k=some (Yx b tb cs))
    (hi:find tt t=some i) (ha:Z8 env q=some (.pointer (some ⟨b,0,none⟩))) (hp:Wv i ((cs.drop 0).take i.size)=some v):RV P w env (.cell q t) v:=fun n a hf=>by
  have h1 := Jz (P := P) (tt := tt) (env := env) (S := fun w' => w' = w) (o := { dst := none, op := .load t (.tmp q), type := 0, pos := "", after := #[], guard := none }) hT k (fun w' e => e ▸ hS.wh) hk rfl hi (by simpa [Zl] using ha) hp n a w hf rfl;have h2:=hf.get _ _ ha;have h3:a.eval (.tmp q)=.pointer (some ⟨b,0,none⟩):=hf.eval (x:=.tmp q) ha;simp only [execOp,Instr.loadAt,h3,Instr.sureAddr,Sem.run_bind,Sem.run_pure,Result.andThen_ok] at h1;have h4:a.tmps.getD q undef=.pointer (some ⟨b,0,none⟩):=by simp [h2]
  simp only [h4,asAddr,Sem.run_bind,Sem.run_pure,Result.andThen_ok];cases hl:(loadVar t ⟨b,0,none⟩).run P w with
  | ok u w'=>rw [hl] at h1; simp at h1; obtain ⟨rfl,rfl⟩:=h1; rfl
  | halt x w'=>rw [hl] at h1; cases h1
theorem Zcj {P} {fn} {env} {w} {rs:List ResultVar} {vs} (h:fn.results.toList=rs) (hv:∀ p∈rs.zip vs,RV P w env p.1 p.2) (hl:Nat.beq rs.length vs.length=true):∀ n a,Fr n env a->(results fn a.tmps).run P w=.ok (Jg vs) w:=by
  intro n a hf;have key:∀(rs:List ResultVar) (vs:List Value),(∀ p∈rs.zip vs,RV P w env p.1 p.2)->rs.length=vs.length->
      (rs.mapM (fun x=>match x with | .tmp t=>pure (a.tmps.getD t undef) | .cell q t=>do loadVar t (<- asAddr (a.tmps.getD q undef))):Sem (List Value)).run P w=.ok vs w:=by
    intro rs
    induction rs with
    | nil=>intro vs _ hl; have:vs=[]:=List.eq_nil_of_length_eq_zero hl.symm; subst this; simp
    | cons r rs ih=>
      intro vs hv hl;cases vs with
      | nil=>cases hl
      | cons v vs=>
        have h1:=hv (r,v) (by simp) n a hf;have:=ih vs (fun p hp=>hv p (by simp [hp])) (by simpa using hl);simp only [List.mapM_cons,Sem.run_bind];rw [h1];simp only [Result.andThen_ok];rw [this];rfl
  have hk:=key rs vs hv (Nat.eq_of_beq_eq_true hl);have hm:(fn.results.mapM (fun x=>match x with | .tmp t=>pure (a.tmps.getD t undef) | .cell q t=>do loadVar t (<- asAddr (a.tmps.getD q undef))):Sem (Array Value)).run P w=.ok vs.toArray w:=by
    have e:fn.results=rs.toArray:=by rw [<- h]
    rw [e,List.mapM_toArray];simp only [Sem.run_map,hk,Result.andThen_ok]
  unfold results;rw [Sem.run_bind];refine (congrArg (fun r=>Result.andThen r _) hm).trans ?_;simp only [Result.andThen_ok,Sem.run_pure];congr 1
  match vs with
  | []=>rfl
  | [v]=>rfl
  | v :: u :: r=>simp [Jg]
theorem Xu {P} {w} {env}:∀ p∈([]:List ResultVar).zip ([]:List Value),RV P w env p.1 p.2:=fun p hp=>by simp at hp
theorem Yb {P} {w} {env} {r:ResultVar} {rs:List ResultVar} {v} {vs} (h:RV P w env r v) (hs:∀ p∈rs.zip vs,RV P w env p.1 p.2):∀ p∈(r :: rs).zip (v :: vs),RV P w env p.1 p.2:=fun p hp=>by
  simp only [List.zip_cons_cons,List.mem_cons] at hp;rcases hp with rfl | hp
  · exact h
  · exact hs p hp
end Go.SK

namespace Go.SK
open Go Go.RowKit

section
variable {P:Program} {tt:TT} {env:Env} {S:World->Prop} {o:Oper}
def Uk (env:Env) (x:Option Operand) (d v:Int):Prop:=match x with | none=>v=d | some y=>∃ k,Zl env y=some (.int k v)
theorem Zgc (l) (i j):(⟨⟨l⟩⟩:ByteArray).extract i j=⟨⟨(l.drop i).take (j - i)⟩⟩:=by
  apply ByteArray.ext;rw [ByteArray.data_extract];apply Array.ext';simp [Array.toList_extract,List.extract_eq_take_drop]
theorem Gu {P:Program} {w:World} {k:IntKind} {i:Int} {y:Nat} {code:BoundsCode} (h0:0<=i) (h1:i<=y):(Instr.sliceBound (.int k i) y code).run P w=.ok i.toNat w:=by
  simp [Instr.sliceBound,asIntOf,h0,h1]
theorem Zd6 {P:Program} {w:World} {b:Bool} {len cap:Nat} {lo hi:Option Operand} {n:Nat} {a:Act} (hf:Fr n env a) {l h:Int} (hlo:Uk env lo 0 l) (hhi:Uk env hi len h) (h0:0<=l) (h1:l<=h) (h2:h<=cap) (hlc:len<=cap) :
    (Instr.sliceBounds b len cap (lo.map a.eval) (hi.map a.eval) none).run P w=.ok (l.toNat,h.toNat,cap) w:=by
  cases lo <;> cases hi <;> simp only [Uk] at hlo hhi
  · subst hlo; subst hhi; simp [Instr.sliceBounds]
  · subst hlo; obtain ⟨k,hk⟩:=hhi
    simp only [Option.map_none,Option.map_some,hf.eval hk,Instr.sliceBounds,Sem.run_bind,Sem.run_pure,Result.andThen_ok];rw [Gu (by omega) h2]; simp
  · subst hhi; obtain ⟨k,hk⟩:=hlo
    simp only [Option.map_none,Option.map_some,hf.eval hk,Instr.sliceBounds,Sem.run_bind,Sem.run_pure,Result.andThen_ok];rw [Gu h0 h1]; simp
  · obtain ⟨k,hk⟩:=hlo; obtain ⟨k',hk'⟩:=hhi
    simp only [Option.map_some,hf.eval hk,hf.eval hk',Instr.sliceBounds,Sem.run_bind,Sem.run_pure,Result.andThen_ok];rw [Gu (by omega) h2];simp only [Result.andThen_ok,Option.isSome_none,Bool.false_eq_true,if_false];rw [Gu h0 (by omega)]; simp
theorem Zob (hT:Yq P tt) {t:Nat} {x:Operand} {lo hi:Option Operand} {xs sub:List UInt8} {l h:Int} {z1 z2:Nat} {z:Value} (ho:o.op=.slice t x lo hi none) (ht:find tt t=some ⟨.str,z1,z2,z⟩)
    (hx:Zl env x=some (.string ⟨⟨xs⟩⟩)) (hlo:Uk env lo 0 l) (hhi:Uk env hi (xs.length:Nat) h) (h0:0<=l) (h1:l<=h) (h2:h<=(xs.length:Nat)) (hs:(xs.drop l.toNat).take (h.toNat - l.toNat)=sub):QOp P o env S (.string ⟨⟨sub⟩⟩):=by
  intro n a w hf _;have hk:=(hT _ _ ht).kind;simp only [TK.ok] at hk;have hb:=Zd6 (P:=P) (w:=w) (b:=false) (len:=xs.length) (cap:=xs.length) hf hlo hhi h0 h1 h2 (Nat.le_refl _);have hsz:(⟨⟨xs⟩⟩:ByteArray).size=xs.length:=rfl;have hsl:(Instr.sliceAt t (.string ⟨⟨xs⟩⟩) (lo.map a.eval) (hi.map a.eval) none).run P w=.ok (.string ⟨⟨sub⟩⟩) w:=by
    simp only [Instr.sliceAt,Sem.run_bind,Zw w hk,Result.andThen_ok,Instr.slice,Option.isSome_none,Bool.false_eq_true,if_false,hsz,Sem.run_pure];rw [hb];simp only [Result.andThen_ok,Sem.run_pure,Zgc,hs]
  simp only [execOp,ho,hf.eval hx,Option.map_none,Sem.run_bind,hsl,Result.andThen_ok,Sem.run_pure]
theorem Xp {α:Type} (xs:List α) (l:Int):(xs.drop l.toNat).take (((xs.length:Nat):Int).toNat - l.toNat)=xs.drop l.toNat:=by
  apply List.take_of_length_le; simp
theorem Zgx {α:Type} (xs:List α) (h:Int):(xs.drop (0:Int).toNat).take (h.toNat - (0:Int).toNat)=xs.take h.toNat:=by simp
end

def Vn (A:Option Addr) (c l s:Nat):Option Addr:=if c=l then A else A.map (·.add (l*s))
theorem Zbq {E:Nat} {ty:Ty} {xs sub:List ty.D} {A:Option Addr} {n c:Nat} {l h:Int} {sz:Nat} (hsz:ty.n=sz) (h0:0<=l) (h1:l<=h) (h2:h<=(xs.length:Nat)) (hs:(xs.drop l.toNat).take (h.toNat - l.toNat)=sub)
    (w:World) (F:Nat->Prop) (hr:(rdC E ty xs (.slice A n c)).ok w F):(rdC E ty sub (.slice (Vn A c l.toNat sz) sub.length (c - l.toNat))).ok w F:=by
  obtain ⟨A',c',e,hle,hr⟩:=hr;simp only [List.cons.injEq,and_true,Value.slice.injEq] at e;obtain ⟨rfl,e2,rfl⟩:=e;have hlen:sub.length=h.toNat - l.toNat:=by rw [<- hs]; simp; omega
  refine ⟨_,_,rfl,by omega,?_⟩;rcases hr with rfl | ⟨b,off,inner,rfl,hb,he,hc⟩
  · left; rw [<- hs]; simp
  · by_cases hsub:sub=[]
    · exact .inl hsub
    · right
      have hpos:0<sub.length:=List.length_pos_iff.2 hsub;have hne:¬ c=l.toNat:=by omega
      refine ⟨b,off+l.toNat*sz,(inner.drop (l.toNat*sz)).take ((h.toNat - l.toNat)*sz),?_,hb,?_,?_⟩
      · unfold Vn; rw [if_neg hne]; simp [Xz]
      · rw [<- hs,<- hsz]
        exact (he.drop (fun x c h=>ty.ok_len h) _).take (fun x c h=>ty.ok_len h) _
      · intro j v hj
        rw [List.getElem?_take] at hj;split at hj
        · rw [List.getElem?_drop] at hj
          have:=hc _ _ hj;rw [<- Nat.add_assoc] at this;exact this
        · cases hj
theorem Gives.trans {l} {c c'} (h:Gives l c) (hc:∀ w F,c.ok w F->c'.ok w F):Gives l c':=by
  obtain ⟨d,hm,hd⟩:=h;exact ⟨d,hm,fun w F h=>hc w F (hd w F h)⟩
section
variable {P:Program} {tt:TT} {env:Env} {S:World->Prop} {o:Oper} {w0 w:World} {F0:Ft} {Hs Rs:List Ch}
theorem Zj7 {α:Type} (hT:Yq P tt) {t e:Nat} {x:Operand} {lo hi:Option Operand} {xs sub:List α} {A:Option Addr} {c:Nat} {l h:Int} {z1 z2:Nat} {z:Value} {ie:TI} (ho:o.op=.slice t x lo hi none) (ht:find tt t=some ⟨.slice e,z1,z2,z⟩) (he:find tt e=some ie)
    (hx:Zl env x=some (.slice A xs.length c)) (hlc:xs.length<=c) (hlo:Uk env lo 0 l) (hhi:Uk env hi (xs.length:Nat) h) (h0:0<=l) (h1:l<=h) (h2:h<=(xs.length:Nat)) (hs:(xs.drop l.toNat).take (h.toNat - l.toNat)=sub) :
    QOp P o env S (.slice (Vn A c l.toNat ie.size) sub.length (c - l.toNat)):=by
  intro n a w hf _;have hk:=(hT _ _ ht).kind;simp only [TK.ok] at hk;have hsz:=X1 w (hT _ _ he);have hb:=Zd6 (P:=P) (w:=w) (b:=true) (len:=xs.length) (cap:=c) hf hlo hhi h0 h1 (by omega) hlc;have hlen:sub.length=h.toNat - l.toNat:=by rw [<- hs]; simp; omega
  have hsl:(Instr.sliceAt t (.slice A xs.length c) (lo.map a.eval) (hi.map a.eval) none).run P w=.ok (.slice (Vn A c l.toNat ie.size) sub.length (c - l.toNat)) w:=by
    simp only [Instr.sliceAt,Sem.run_bind,Zw w hk,Result.andThen_ok,Instr.slice];rw [hb];simp only [Result.andThen_ok,hsz,Sem.run_pure,hlen,Vn]
  simp only [execOp,ho,hf.eval hx,Option.map_none,Sem.run_bind,hsl,Result.andThen_ok,Sem.run_pure]
theorem St.cap (h:St w0 F0 Hs Rs w) {E} {ty} {xs:List ty.D} {A} {n c} (hg:Gives (Hs ++ Rs) (rdC E ty xs (.slice A n c))):xs.length<=c:=by
  obtain ⟨F,hF,_⟩:=h.gives hg;obtain ⟨A',c',e,hle,_⟩:=hF;simp only [List.cons.injEq,and_true,Value.slice.injEq] at e;obtain ⟨_,_,rfl⟩:=e;exact hle

theorem Zmu (hT:Yq P tt) {t e:Nat} {xa ya:Operand} {z1 z2:Nat} {z:Value} {ie:TI} {ty:Ty} (hsc:ty.scal=true) {xs ys:List ty.D} {v:Value} {A:Option Addr} {m c:Nat} (k:Nat) (ho:o.op=.call { callee:=.builtin .append,args:=#[xa,ya],argTypes:=#[t,t] })
    (hS:St w0 F0 Hs Rs w) (hk:nth Hs k=some (Yg e ty xs v)) (hg:Gives (Hs.eraseIdx k ++ Rs) (rdC e ty ys (.slice A m c))) (hx:Zl env xa=some v) (hy:Zl env ya=some (.slice A m c))
    (ht:find tt t=some ⟨.slice e,z1,z2,z⟩) (hi:find tt e=some ie) (hn:ty.n=ie.size) (hz:Nat.beq ie.zero.cells.toList.length ie.size=true) (hpos:0<ie.size) (hby:0<ie.bytes) (hl:(xs.length+ys.length)*ie.bytes<=140737488355328) :
    OpT P o env w (fun v' w'=>∃ A' c',v'=.slice A' (xs ++ ys).length c'/\St w0 F0 (Yg e ty (xs ++ ys) (.slice A' (xs ++ ys).length c') :: Hs.eraseIdx k) Rs w'):=
  OpT.value fun n a hf=>by
    have hkk:=(hT _ _ ht).kind;simp only [TK.ok] at hkk;obtain ⟨i0,hi0,hs0,hb0,hz0⟩:=(hT _ _ hi).info';have hpk:pick [k] Hs=some ([Yg e ty xs v],Hs.eraseIdx k):=by simp [pick,hk]
    obtain ⟨F,hF,hlt,hgv,hst⟩:=hS.step hpk;obtain ⟨F1,F2,⟨inner,F',hown,hel,hF'1,hF'2⟩,_,h3,_⟩:=hF;obtain ⟨R,hR,hRb⟩:=hgv _ hg;obtain ⟨A',c',he,hle,hr⟩:=hR;simp only [List.cons.injEq,and_true,Value.slice.injEq] at he;obtain ⟨rfl,rfl,rfl⟩:=he;have hlen:xs.length+ys.length<=140737488355328:=Nat.le_trans (Nat.le_mul_of_pos_right _ hby) hl;have hml:xs.length+ys.length<=maxLen:=by simp only [maxLen]; omega
    have main:∃ v' w',(Builtin.append_ #[t,t] o.type #[v,.slice A ys.length c]).run P w=.ok v' w'/\w'.ownsRow 0 e ty.n v' (xs.length+ys.length) (inner ++ ys.flatMap ty.enc)/\w.grownBy w' v.ownBlock/\(v'.ownBlock=v.ownBlock\/v'.ownBlock=some w.heap.size):=by
      rcases hr with rfl | ⟨b,off,inn,rfl,hbR,he2,hc2⟩
      · -- nothing is appended
        refine ⟨v,w,?_,by simpa using hown,World.grownBy.refl w _,.inl rfl⟩;have hfc:(Builtin.firstCells ie.size 0 (.slice A 0 c)).run P w=.ok #[] w:=by
          cases A with
          | none=>simp [Builtin.firstCells]
          | some ad=>simp [Builtin.firstCells,loadCells,loadCellsFrom]
        rcases hown.2 with ⟨rfl,hn0⟩ | ⟨g,cap,cur,rfl,_,_,hnc,_⟩
        · simp [Builtin.append_,Zw w hkk,sizeOf,typeInfo,hi0,Builtin.lenOf,hs0,hfc]
        · simp [Builtin.append_,Zw w hkk,sizeOf,typeInfo,hi0,Builtin.lenOf,hnc,storeCells,hs0,hfc]
      · have hinn:inn=ys.flatMap ty.enc:=by
          have:∀(ys:List ty.D) (inn:List Value),Elems (ty.ok w R) ys inn->inn=ys.flatMap ty.enc:=by
            intro ys
            induction ys with
            | nil=>intro inn h; simpa [Elems] using h
            | cons y ys ih=>
              rintro inn ⟨c1,r,rfl,h1,h2⟩;have hfl:ty.flat=true:=by
                have:∀ t:Ty,t.scal=true->t.flat=true:=by
                  intro t
                  induction t with
                  | pair a b iha ihb=>intro h; simp only [Ty.scal,Bool.and_eq_true] at h; simp only [Ty.flat,Bool.and_eq_true]; exact ⟨iha h.1,ihb h.2⟩
                  | _=>intro h; first | rfl | cases h
                exact this ty hsc
              rw [ty.ok_enc hfl h1,ih r h2]; simp
          exact this ys inn he2
        subst hinn;have hll:(ys.flatMap ty.enc).length=ys.length*ty.n:=he2.length (fun x c h=>ty.ok_len h);have hone:∀ u∈ys.flatMap ty.enc,u.oneCell'=true:=by
          intro u hu;obtain ⟨y,_,hu⟩:=List.mem_flatMap.1 hu;exact ty.ok_one (ty.ok_scal hsc w (fun _=>False) y) u hu
        obtain ⟨v1,w1,hr1,h2,h3',_,h5⟩:=run_append_own_at (P:=P) w 0 t o.type e i0 ie.zero ty.n ie.bytes hkk hi0 hz0 (by rw [hs0,hn]) hb0 (by have:=Nat.eq_of_beq_eq_true hz; rw [hn]; simpa using this) (by rw [hn]; exact hpos) v xs.length inner hown
          ⟨b,off,none⟩ ys.length c (ys.flatMap ty.enc) hll (fun j u hj=>by rw [Xz]; exact hc2 j u hj) hone hml hl (Nat.zero_le _)
        exact ⟨v1,w1,hr1,h2,h3',h5⟩
    obtain ⟨v1,w1,hr1,hown1,hg1,hat⟩:=main;have hshape:∃ A' c',v1=.slice A' (xs.length+ys.length) c':=by
      rcases hown1.2 with ⟨rfl,hn0⟩ | ⟨g,cap,cur,rfl,_⟩
      · exact ⟨none,0,by rw [hn0]⟩
      · exact ⟨_,_,rfl⟩
    obtain ⟨A1,c1,rfl⟩:=hshape;refine ⟨.slice A1 (xs.length+ys.length) c1,w1,by simp [execOp,ho,resolve,invoke,builtin,hf.eval hx,hf.eval hy,hr1],A1,c1,by rw [List.length_append],?_⟩;have hsz:=hg1.size;refine hst w1 [Yg e ty (xs ++ ys) (.slice A1 (xs ++ ys).length c1)] (fun q=>F1 q\/(w.heap.size<=q/\q<w1.heap.size)) (Chg.of_grown hg1 fun q hq=>(h3 q (hF'2 q hq).1).1) ⟨fun q=>F1 q\/(w.heap.size<=q/\q<w1.heap.size),fun _=>False,?_,trivial,fun q hq=>⟨hq,fun e=>e⟩,fun q hq=>hq.elim⟩ ?_
    · refine ⟨inner ++ ys.flatMap ty.enc,fun _=>False,by rw [List.length_append]; exact hown1,?_,fun q hq=>hq.elim,fun q hq=>⟨?_,fun e=>e⟩⟩
      · have hx':inner=xs.flatMap ty.enc:=by
          have:∀(ys:List ty.D) (inn:List Value),Elems (ty.ok w F') ys inn->inn=ys.flatMap ty.enc:=by
            intro ys
            induction ys with
            | nil=>intro inn h; simpa [Elems] using h
            | cons y ys ih=>
              rintro inn ⟨c1,r,rfl,h1,h2⟩;have hfl:ty.flat=true:=by
                have:∀ t:Ty,t.scal=true->t.flat=true:=by
                  intro t
                  induction t with
                  | pair a b iha ihb=>intro h; simp only [Ty.scal,Bool.and_eq_true] at h; simp only [Ty.flat,Bool.and_eq_true]; exact ⟨iha h.1,ihb h.2⟩
                  | _=>intro h; first | rfl | cases h
                exact this ty hsc
              rw [ty.ok_enc hfl h1,ih r h2]; simp
          exact this xs inner hel
        rw [hx'];exact Elems.append (Elems.scal hsc w1 _ xs) (Elems.scal hsc w1 _ ys)
      · have hob:(Value.slice A1 (xs ++ ys).length c1).ownBlock=(Value.slice A1 (xs.length+ys.length) c1).ownBlock:=by cases A1 <;> rfl
        rw [hob] at hq;rcases hat with hat | hat
        · have:v.ownBlock=some q:=by rw [<- hat]; exact hq
          exact .inl (hF'2 q this).1
        · have hq':q=w.heap.size:=by
            rw [hat] at hq; exact (Option.some.inj hq).symm
          have hlt2:q<w1.heap.size:=by
            have hq2:(Value.slice A1 (xs.length+ys.length) c1).ownBlock=some q:=by rw [hat,hq']
            exact (hown1.lt q hq2).2
          exact .inr ⟨by omega,hlt2⟩
    · intro q hq
      rcases hq with hq | hq
      · exact ⟨.inl (h3 q hq).1,Nat.lt_of_lt_of_le (hlt q (h3 q hq).1) hsz⟩
      · exact ⟨.inr hq.1,hq.2⟩
end

def Xm (a b:List UInt8):Int:=if Op.bytesLess a b=true then -1 else if a=b then 0 else 1
theorem Zoc (l) (i):(⟨⟨l⟩⟩:ByteArray)[i]! = l.getD i 0:=by
  by_cases h:i<l.length
  · have h':i<(⟨⟨l⟩⟩:ByteArray).size:=h
    rw [getElem!_pos (⟨⟨l⟩⟩:ByteArray) i h'];simp [List.getD_eq_getElem?_getD,h]
    try rfl
  · have h':¬ i<(⟨⟨l⟩⟩:ByteArray).size:=h
    rw [getElem!_neg (⟨⟨l⟩⟩:ByteArray) i h'];simp [List.getD_eq_getElem?_getD,List.getElem?_eq_none (Nat.le_of_not_lt h)]
    try rfl
def Zbb (a b:List UInt8):Int:=
  match (List.range (min a.length b.length)).find? (fun i=>a.getD i 0 != b.getD i 0) with
  | some i=>if a.getD i 0<b.getD i 0 then -1 else 1
  | none=>if a.length<b.length then -1 else if a.length>b.length then 1 else 0
theorem Zie (x) (a b):Zbb (x :: a) (x :: b)=Zbb a b:=by
  unfold Zbb;have hm:min (x :: a).length (x :: b).length=min a.length b.length+1:=by simp only [List.length_cons]; omega
  rw [hm,List.range_succ_eq_map];have h0:((x :: a).getD 0 0 != (x :: b).getD 0 0)=false:=by simp
  rw [List.find?_cons_of_neg (by simp),List.find?_map];have hf:(fun i=>(x :: a).getD i 0 != (x :: b).getD i 0) ∘ Nat.succ=fun i=>a.getD i 0 != b.getD i 0:=by funext i; simp
  rw [hf];cases hfd:(List.range (min a.length b.length)).find? (fun i=>a.getD i 0 != b.getD i 0) with
  | none=>simp
  | some i=>simp
theorem Zi3:∀ a b,Zbb a b=Xm a b
  | [],[]=>by decide
  | [],y :: b=>by simp [Zbb,Xm,Op.bytesLess]
  | x :: a,[]=>by simp [Zbb,Xm,Op.bytesLess]
  | x :: a,y :: b=>by
    by_cases h:x=y
    · subst h
      rw [Zie,Zi3 a b];unfold Xm;simp [Op.bytesLess]
    · unfold Zbb Xm
      have hm:min (x :: a).length (y :: b).length=min a.length b.length+1:=by simp only [List.length_cons]; omega
      rw [hm,List.range_succ_eq_map,List.find?_cons_of_pos (by simpa using h)];simp only [List.getD_cons_zero,Op.bytesLess];by_cases hl:x<y
      · simp [hl]
      · simp [hl,h]
theorem Znc (a b):Extern.BytealgCompare.cmp ⟨⟨a⟩⟩ ⟨⟨b⟩⟩=Xm a b:=by
  rw [<- Zi3];unfold Extern.BytealgCompare.cmp Zbb;simp only [Zoc];rfl
def CmpStr (P:Program) (f:Nat):Prop:=∀ a b w,(callFunc f #[.string a,.string b]).run P w=.ok (.value (.int .i64 (Extern.BytealgCompare.cmp a b))) w
theorem Znn {P} {env} {S} {o} {f} {xs} {ts:Array TypeId} {fx} {a b} (hc:CmpStr P f) (ho:o.op=.call { callee:=.value fx,args:=xs,argTypes:=ts })
    (hfx:Zl env fx=some (.func (.func f) #[] #[])) (hv:Yt env xs.toList=some [.string ⟨⟨a⟩⟩,.string ⟨⟨b⟩⟩]):QOp P o env S (.int .i64 (Xm a b)):=by
  intro n ac w hf _;have hm:xs.map ac.eval=#[.string ⟨⟨a⟩⟩,.string ⟨⟨b⟩⟩]:=Wy hf hv;have:=hc ⟨⟨a⟩⟩ ⟨⟨b⟩⟩ w;simp [execOp,ho,resolve,hf.eval hfx,Deferred.ofValue,invoke,hm,this,Znc]
theorem CmpStr.of {P} {f} {fn} (hf : P.funcs[f]? = some fn) (hn : (fn.name == "runtime.NumGoroutine") = false) (hb : fn.body.isNone = true) (h1 : (Extern.findNext fn).isNone = true)
    (h2:Extern.find fn=some Extern.BytealgCompare.compare):CmpStr P f:=fun a b w=>by
  have hn' : ¬ fn.name = "runtime.NumGoroutine" := by simpa using hn
  have hb':fn.body=none:=by simpa using hb
  have h1':Extern.findNext fn=none:=by simpa using h1
  have hc:Extern.BytealgCompare.compare #[.string a,.string b]=(do pure (goInt (Extern.BytealgCompare.cmp (<- Extern.Bytes.bytesOf (.string a)) (<- Extern.Bytes.bytesOf (.string b)))):Sem Value):=rfl;simp [callFunc,hf,hn',hb',h1',h2,hc,Extern.Bytes.bytesOf,goInt]
end Go.SK

namespace Go.SK
open Go Go.RowKit Go.ChangeShapes Go.WideShapes

def Ty.fit (bo:Nat->Nat):(t:Ty)->t.D->Prop
  | .int k,x=>(Lit.int k x).wf=true
  | .bool,_=>True
  | .str,x=>x.length<=140737488351232
  | .val,_=>True
  | .unit,_=>True
  | .slice E t,xs=>xs.length<=maxLen/\xs.length*bo E<=140737488351232/\∀ x∈xs,t.fit bo x
  | .pair a b,x=>a.fit bo x.1/\b.fit bo x.2
def Vu (tt:TT) (E:Nat):Nat:=match find tt E with | some i=>i.bytes | none=>0
def Zj6 (agg:Bool) (cs:List Value):Value:=cond agg (.agg cs.toArray) (cs.headD (.bool false))
structure Opens (P:Program) (bo:Nat->Nat) (t:Ty) (T:Nat) (agg:Bool):Prop where
  cells:P.cellsOf T=t.n
  val:∀ {W:World} {r:Reach} {base:Nat} {v:Value},Value.okWide P W r base T v->v=Zj6 agg v.cells.toList
  op:∀ {H:Type} (enc:TypeId×Value->H) (W:World) (base:Nat) (sp:Nat->Bool) (held:Bool) (fuel:Nat) (cs:List Value) (x:DataW H×List MemPlace),DataW.trod enc P W base sp held fuel T cs=some x->
    (∀ n∈x.1.weights P T,n<=140737488351232)->∃ d:t.D,t.ok W (fun b=>b<W.heap.size) d cs/\t.fit bo d

section
variable {P:Program} {bo:Nat->Nat} {T:Nat}
theorem Opens.int {k} (hT:P.underlying T=some (.int k)) (hc:P.cellsOf T=1):Opens P bo (.int k) T false:=
  ⟨hc,fun h=>by obtain ⟨n,rfl⟩:=okWide_int hT h; rfl,fun enc W base sp held fuel cs x h _=>by
    obtain ⟨n,rfl,_,hw⟩:=DataW.trod_int hT h;exact ⟨n,rfl,hw⟩⟩
theorem Opens.bool (hT:P.underlying T=some .bool) (hc:P.cellsOf T=1):Opens P bo .bool T false:=
  ⟨hc,fun h=>by obtain ⟨n,rfl⟩:=okWide_bool hT h; rfl,fun enc W base sp held fuel cs x h _=>by
    obtain ⟨n,rfl,_⟩:=DataW.trod_bool hT h;exact ⟨n,rfl,trivial⟩⟩
theorem Opens.str (hT:P.underlying T=some .string) (hc:P.cellsOf T=1):Opens P bo .str T false:=
  ⟨hc,fun h=>by obtain ⟨n,rfl⟩:=okWide_string hT h; rfl,fun enc W base sp held fuel cs x h hw=>by
    obtain ⟨⟨⟨l⟩⟩,rfl,rfl,_⟩:=DataW.trod_string hT h;exact ⟨l,rfl,hw _ (by simp [DataW.weights])⟩⟩

theorem Zar {H:Type} {e:Nat}:∀ {l:List (DataW H)} {d:DataW H},d∈l->∀ n∈d.weights P e,n∈DataW.weightsAll P e l
  | c :: l,d,hd,n,hn=>by
    simp only [DataW.weightsAll,List.mem_append];rcases List.mem_cons.1 hd with rfl | h
    · exact .inl hn
    · exact .inr (Zar h n hn)
theorem Zcd {H:Type} {enc:TypeId×Value->H} {W:World} {base:Nat} {sp:Nat->Bool} {held:Bool} {n:Nat} {t:Ty} {E:Nat} {g:Bool} (h:Opens P bo t E g) {a:Addr} :
    ∀(l:List (DataW H×List MemPlace)) (k:Nat),(∀ i y,l[i]?=some y->∃ cs,W.cells? base (a.add ((k+i)*t.n)) t.n=some cs/\DataW.trod enc P W base sp held n E cs=some y)->
      (∀ y∈l,∀ n∈y.1.weights P E,n<=140737488351232)->
      ∃(xs:List t.D) (inner:List Value),xs.length=l.length/\Elems (t.ok W (fun b=>b<W.heap.size)) xs inner/\(∀ j v,inner[j]?=some v->W.cell? (a.add (k*t.n+j))=some v)/\∀ x∈xs,t.fit bo x
  | [],k,_,_=>by
    refine ⟨[],[],rfl,rfl,fun j v hv=>?_,fun x hx=>?_⟩
    · cases hv
    · cases hx
  | y :: l,k,hl,hw=>by
    obtain ⟨cs,h1,h2⟩:=hl 0 y rfl;obtain ⟨d,hd,hf⟩:=h.op enc W base sp held n cs y h2 (hw y (List.mem_cons_self ..));obtain ⟨xs,inner,e1,e2,e3,e4⟩:=Zcd h l (k+1) (fun i z hz=>by
      obtain ⟨cs',h1',h2'⟩:=hl (i+1) z (by simpa using hz);exact ⟨cs',by rw [show k+1+i=k+(i+1) by omega]; exact h1',h2'⟩) fun z hz=>hw z (List.mem_cons_of_mem _ hz)
    refine ⟨d :: xs,cs ++ inner,by simp [e1],⟨cs,inner,rfl,hd,e2⟩,fun j v hj=>?_,fun x hx=>?_⟩
    · obtain ⟨_,hlen,hc⟩:=World.cells?_some h1
      rw [List.getElem?_append] at hj;split at hj
      · rename_i hlt
        have:=hc j (by omega);rw [hj,Deep.add_add] at this;simpa using this
      · have:=e3 _ _ hj
        rw [hlen,show (k+1)*t.n+(j - t.n)=k*t.n+j by rw [Nat.succ_mul]; omega] at this;exact this
    · rcases List.mem_cons.1 hx with rfl | hx
      · exact hf
      · exact e4 x hx
theorem Opens.slice {t:Ty} {E:Nat} {g:Bool} (hT:P.underlying T=some (.slice E)) (hc:P.cellsOf T=1) (hb:P.bytesOf E=bo E) (hn:Nat.ble 1 t.n=true) (h:Opens P bo t E g):Opens P bo (.slice E t) T false:=
  ⟨hc,fun h=>by obtain ⟨a,l,c,rfl⟩:=okWide_slice hT h; rfl,fun enc W base sp held fuel cs x hx hw=>by
    have hn:1<=t.n:=Nat.le_of_ble_eq_true hn;rcases DataW.trod_slice hT hx with ⟨rfl,rfl⟩ | ⟨a,len,cap,elems,rest,n,_,rfl,rfl,_,hl,hm,hlen,hel,hsp,hns⟩
    · exact ⟨[],⟨none,0,rfl,Nat.le_refl _,.inl rfl⟩,by simp [Ty.fit]⟩
    · have hw1:∀ n∈(elems.length+rest.length)*P.bytesOf E :: (DataW.weightsAll P E (elems.map (·.1)) ++ DataW.weightsAll P E (rest.map (·.1))),n<=140737488351232:=by
        intro n hn;refine hw n ?_;simpa [DataW.weights,hT] using hn
      obtain ⟨xs,inner,e1,e2,e3,e4⟩:=Zcd (enc:=enc) (W:=W) (base:=base) (sp:=sp) (held:=held) (n:=n) h (a:=a) elems 0 (fun i y hy=>by
        have hi:i<len:=by rw [<- hlen]; exact (List.getElem?_eq_some_iff.1 hy).1
        have:=hel i hi;rw [hy,h.cells] at this;obtain ⟨cs,h1,h2⟩:=Option.bind_eq_some_iff.1 this;exact ⟨cs,by simpa using h1,h2⟩) fun y hy n hn=>hw1 n (by
          simp only [List.mem_cons,List.mem_append];exact .inr (.inl (Zar (List.mem_map.2 ⟨y,hy,rfl⟩) n hn)))
      refine ⟨xs,⟨some a,cap,by rw [e1,hlen],by omega,?_⟩,by simp only [maxLen] at *; omega,?_,e4⟩
      · cases xs with
        | nil=>exact .inl rfl
        | cons x xs=>
          have hil:=e2.length (m:=t.n) fun x c h=>t.ok_len h;have hpos:0<inner.length:=by
            rw [hil];simp only [List.length_cons,Nat.succ_mul];omega
          have h0:=e3 0 inner[0] (by simp [hpos]);have ha0:a.add (0*t.n+0)=a:=by simp [Addr.add]
          rw [ha0] at h0;obtain ⟨b,off,sp'⟩:=a;have hs:sp'=none:=by
            unfold World.cell? at h0;cases sp' with
            | none=>rfl
            | some z=>split at h0 <;> simp at h0
          subst hs;have hbl:b<W.heap.size:=by
            rcases Nat.lt_or_ge b W.heap.size with h' | h'
            · exact h'
            · simp [World.cell?,Array.getElem?_eq_none h'] at h0
          refine .inr ⟨b,off,inner,rfl,hbl,e2,fun j v hj=>?_⟩;have:=e3 j v hj;rw [Xz] at this;simpa using this
      · have:=hw1 _ (List.mem_cons_self ..)
        rw [hb] at this;refine Nat.le_trans (Nat.mul_le_mul_right _ ?_) this;omega⟩

def Ty.tup:List Ty->Ty
  | []=>.unit | [a]=>a | a :: b :: r=>.pair a (Ty.tup (b :: r))
def Uq (P:Program) (bo:Nat->Nat):List Ty->List Field->Nat->Prop
  | [],[],_=>True
  | t :: ts,f :: fs,o=>f.offset=o/\(∃ g,Opens P bo t f.type g)/\Uq P bo ts fs (o+t.n)
  | _,_,_=>False
theorem Zcf {H:Type} {enc:TypeId×Value->H} {W:World} {base:Nat} {sp:Nat->Bool} {held:Bool} {n:Nat} {cs:List Value} :
    ∀(ts:List Ty) (fs:List Field) (xs:List (DataW H×List MemPlace)) (o:Nat),Uq P bo ts fs o->xs.length=fs.length->
      (∀(i:Nat) (f:Field),fs[i]?=some f->DataW.trod enc P W base sp held n f.type ((cs.drop f.offset).take (P.cellsOf f.type))=xs[i]?)->
      (∀ n∈DataW.weightsEach P (fs.map (·.type)) (xs.map (·.1)),n<=140737488351232)->cs.length=o+(Ty.tup ts).n->
      ∃ d:(Ty.tup ts).D,(Ty.tup ts).ok W (fun b=>b<W.heap.size) d (cs.drop o)/\(Ty.tup ts).fit bo d
  | [],[],xs,o,_,_,_,_,hl=>⟨(),by simp [Ty.tup,Ty.n] at hl; simp [Ty.tup,Ty.ok,List.drop_eq_nil_of_le,hl],trivial⟩
  | [t],[f],[x],o,⟨h1,⟨g,h2⟩,_⟩,_,hx,hw,hl=>by
    have:=hx 0 f rfl;subst h1;rw [h2.cells,List.take_of_length_le (by simp [Ty.tup] at hl; simp [hl])] at this;exact h2.op enc W base sp held n _ x this fun m hm=>hw m (by simp only [List.map,DataW.weightsEach,List.append_nil]; exact hm)
  | t :: u :: ts,f :: fs,x :: xs,o,⟨h1,⟨g,h2⟩,h3⟩,hlen,hx,hw,hl=>by
    have:=hx 0 f rfl;subst h1;rw [h2.cells] at this;simp only [Ty.tup,Ty.n] at hl;obtain ⟨d,hd,hf⟩:=h2.op enc W base sp held n _ x this fun m hm=>hw m (by simp only [List.map,DataW.weightsEach,List.mem_append]; exact .inl hm);obtain ⟨d',hd',hf'⟩:=Zcf (u :: ts) fs xs _ h3 (by simpa using hlen) (fun i f' hf'=>by simpa using hx (i+1) f' (by simpa using hf')) (fun m hm=>hw m (by simp only [List.map,DataW.weightsEach,List.mem_append]; exact .inr hm)) (by omega);refine ⟨(d,d'),⟨_,_,?_,hd,hd'⟩,hf,hf'⟩;rw [<- List.drop_drop];exact (List.take_append_drop _ _).symm
  | [],_ :: _,_,_,h,_,_,_,_=>h.elim
  | _ :: _,[],_,_,h,_,_,_,_=>by simp [Uq] at h
  | [_],_ :: _ :: _,_,_,h,_,_,_,_=>by simp [Uq] at h
  | _ :: _ :: _,[_],_,_,h,_,_,_,_=>by simp [Uq] at h
  | _ :: _,_ :: _,[],_,_,h,_,_,_=>by simp at h
  | [_],[_],_ :: _ :: _,_,_,h,_,_,_=>by simp at h
theorem Opens.struct {ts:List Ty} {fs:List Field} (hT:P.underlying T=some (.struct fs.toArray)) (hc:P.cellsOf T=(Ty.tup ts).n) (h:Uq P bo ts fs 0):Opens P bo (Ty.tup ts) T true:=
  ⟨hc,fun h=>by
    simp only [Value.okWide,hT] at h;obtain ⟨cs,rfl,_⟩:=h;simp [Zj6,Value.cells],fun enc W base sp held fuel cs x hx hw=>by
    obtain ⟨xs,n,_,rfl,hl,hlen,hf⟩:=DataW.trod_struct hT hx;have:=Zcf (enc:=enc) (W:=W) (base:=base) (sp:=sp) (held:=held) (n:=n) (cs:=cs) ts fs xs 0 h (by simpa using hlen) (fun i f hi=>hf i f (by simpa using hi)) (fun m hm=>hw m (by simpa [DataW.weights,hT] using hm)) (by rw [hl,hc]; simp);simpa using this⟩
theorem Opens.arg {t:Ty} {g:Bool} (h:Opens P bo t T g) {H:Type} {enc:TypeId×Value->H} {W:World} {r:Reach} {base b0:Nat} {sp:Nat->Bool} {held:Bool} {v:Value} {d:DataW H} {p:List MemPlace}
    (hok:Value.okWide P W r b0 T v) (hd:DataW.Trod enc P W base sp held T v d p) {ts:List TypeId} {ds:List (DataW H)} {j:Nat}
    (hsz:(DataW.weightsEach P ts ds).all (·<=reachBytes)=true) (ht:ts[j]?=some T) (hds:ds[j]?=some d) :
    ∃(x:t.D) (cs:List Value),t.ok W (fun b=>b<W.heap.size) x cs/\t.fit bo x/\v=Zj6 g cs:=by
  obtain ⟨fuel,hf⟩:=hd;obtain ⟨x,hx,hfit⟩:=h.op enc W base sp held fuel _ _ hf fun n hn=>by
    have:=List.all_eq_true.1 hsz _ (DataW.weights_mem_each ht hds n hn);exact of_decide_eq_true this
  exact ⟨x,_,hx,hfit,h.val hok⟩
end
theorem Spec.law {P} {f} {args} {rd} {r} (h:Spec P f args [] rd (fun v l=>v=.bool r/\l=[])) {W} (hrd:∀ c∈rd,∃ R,c.ok W R/\∀ b,R b->b<W.heap.size) :
    Calls P f args.toArray W fun e W'=>e=.returned (.bool r)/\Below W.heap.size W W':=by
  refine (h.2 W (fun _=>False) trivial (fun b hb=>hb.elim) fun c hc=>?_).mono ?_
  · obtain ⟨R,h1,h2⟩:=hrd c hc
    exact ⟨R,h1,fun b hb=>⟨h2 b hb,fun e=>e⟩⟩
  · rintro e W' ⟨v,post,F',rfl,⟨rfl,rfl⟩,hchg,_⟩
    exact ⟨rfl,hchg.below⟩
end Go.SK

namespace Go.SK
open Go Go.RowKit


def okC (t:Ty) (x:t.D) (cs:List Value):Ch where
  ok w F:=t.ok w F x cs
  stable hs h:=Ty.ok_stable _ hs h
def elC (A:Option Addr) (off:Nat) (cs:List Value):Ch where
  ok w F:=F (blk A)/\∀ j u,cs[j]?=some u->w.cell? ⟨blk A,off+j,none⟩=some u
  stable hs h:=⟨h.1,fun j u hu=>by rw [Gq (a:=⟨blk A,off+j,none⟩) (hs _ h.1)]; exact h.2 j u hu⟩
section
variable {P:Program} {tt:TT} {env:Env} {S:World->Prop} {o:Oper} {w0 w:World} {F0:Ft} {Hs Rs:List Ch}
theorem St.elem {E:Nat} {t:Ty} [Inhabited t.D] {xs:List t.D} {A:Option Addr} {m c:Nat} (h:St w0 F0 Hs Rs w) (k:Nat) (hk:nth Rs k=some (rdC E t xs (.slice A m c))) {i:Int} (h0:0<=i) (h1:i<xs.length) :
    ∃ cs,St w0 F0 Hs (okC t (gt xs i) cs :: elC A (ofs A+i.toNat*t.n) cs :: Rs) w:=by
  obtain ⟨F,hF,hb,hR⟩:=h.sat
  have hk':=hk;rw [Yk] at hk';obtain ⟨R,r,hRb⟩:=hR _ (List.mem_of_getElem? hk');obtain ⟨_,hbl,cs,hcs,hc⟩:=Zd5 r h0 h1;refine ⟨cs,h.chg,F,hF,hb,fun d hd=>?_⟩;rcases List.mem_cons.1 hd with rfl | hd
  · exact ⟨R,hcs,hRb⟩
  · rcases List.mem_cons.1 hd with rfl | hd
    · exact ⟨R,⟨hbl,hc⟩,hRb⟩
    · exact hR d hd
theorem St.okslice {E} {t} {xs:List t.D} {cs} (k) (h:St w0 F0 Hs Rs w) (hk:nth Rs k=some (okC (.slice E t) xs cs)):∃ A c,cs=[.slice A xs.length c]:=by
  obtain ⟨F,hF,_⟩:=h.rd hk;obtain ⟨A,c,e,_⟩:=hF;exact ⟨A,c,e⟩
theorem St.okflat {t} (hfl:t.flat=true) {x:t.D} {cs} (k) (h:St w0 F0 Hs Rs w) (hk:nth Rs k=some (okC t x cs)):cs=t.enc x:=by
  obtain ⟨F,hF,_⟩:=h.rd hk;exact t.ok_enc hfl hF
theorem St.okpair {a b} {x:a.D} {y:b.D} {cs} (k) (h:St w0 F0 Hs Rs w) (hk:nth Rs k=some (okC (.pair a b) (x,y) cs)):∃ c1 c2,cs=c1 ++ c2/\St w0 F0 Hs (okC a x c1 :: okC b y c2 :: Rs) w:=by
  obtain ⟨F,hF,hb,hR⟩:=h.sat
  have hk':=hk;rw [Yk] at hk';obtain ⟨R,⟨c1,c2,e,r1,r2⟩,hRb⟩:=hR _ (List.mem_of_getElem? hk');refine ⟨c1,c2,e,h.chg,F,hF,hb,fun d hd=>?_⟩;rcases List.mem_cons.1 hd with rfl | hd
  · exact ⟨R,r1,hRb⟩
  · rcases List.mem_cons.1 hd with rfl | hd
    · exact ⟨R,r2,hRb⟩
    · exact hR d hd
theorem St.okpr {a b} {x:(Ty.pair a b).D} {cs} (k) (h:St w0 F0 Hs Rs w) (hk:nth Rs k=some (okC (.pair a b) x cs)):∃ c1 c2,cs=c1 ++ c2/\St w0 F0 Hs (okC a x.1 c1 :: okC b x.2 c2 :: Rs) w:=St.okpair (x:=x.1) (y:=x.2) k h hk
theorem Zl0 (hT:Yq P tt) {ty:Nat} {x:Operand} {i:TI} {A:Option Addr} {off f:Nat} {cs:List Value} {v:Value}
    (hS:∀ w,S w->Wh w0 F0 Hs Rs w) (hg:Gives (Hs ++ Rs) (elC A off cs)) (ho:o.op=.load ty x)
    (hi:find tt ty=some i) (ha:Zl env x=some (.pointer (some ⟨blk A,off+f,none⟩))) (hp:Wv i ((cs.drop f).take i.size)=some v):QOp P o env S v:=
  Gj hT ho hi ha (fun w h=>by
    obtain ⟨F,hF,_⟩:=(hS w h).gives hg;intro j u hu;rw [List.getElem?_take] at hu;split at hu
    · rw [List.getElem?_drop] at hu
      have:=hF.2 _ _ hu;rw [<- Nat.add_assoc] at this;exact this
    · cases hu) hp
end

def Gk (l:List Ch) (c:Ch):Prop:=Gives l c\/∀ w F,c.ok w F
def Za5 (l:List Ch):(t:Ty)->t.D->List Value->Prop
  | .pair a b,x,cs=>∃ c1 c2,cs=c1 ++ c2/\Za5 l a x.1 c1/\Za5 l b x.2 c2
  | .int k,x,cs=>Gk l (okC (.int k) x cs)
  | .bool,x,cs=>Gk l (okC .bool x cs)
  | .str,x,cs=>Gk l (okC .str x cs)
  | .val,x,cs=>Gk l (okC .val x cs)
  | .unit,x,cs=>Gk l (okC .unit x cs)
  | .slice E t,x,cs=>Gk l (okC (.slice E t) x cs)
def Zc9 (l:List Ch) {t:Ty}:List t.D->List (List Value)->Prop
  | [],[]=>True
  | x :: xs,cs :: css=>Za5 l t x cs/\Zc9 l xs css
  | _,_=>False
theorem V2 {l}:∀ {t},t.scal=true->∀ x:t.D,Za5 l t x (t.enc x)
  | .int k,_,x=>.inr fun w F=>rfl
  | .bool,_,x=>.inr fun w F=>rfl
  | .str,_,x=>.inr fun w F=>rfl
  | .val,h,x=>by cases h
  | .unit,_,x=>.inr fun w F=>rfl
  | .slice E t,h,x=>by cases h
  | .pair a b,h,x=>by
    simp only [Ty.scal,Bool.and_eq_true] at h;exact ⟨_,_,rfl,V2 h.1 x.1,V2 h.2 x.2⟩
theorem Ua {E} {t} (w) (F):(okC (.slice E t) [] [.slice none 0 0]).ok w F:=⟨none,0,rfl,Nat.le_refl _,.inl rfl⟩
section
variable {P:Program} {tt:TT} {env:Env} {o:Oper} {w0 w:World} {F0:Ft} {Hs Rs:List Ch}
theorem U4 {t} {w'} {Q} (hR:∀ c∈Rs,∃ R,c.ok w R/\∀ b,R b->Q b) (hQ:∀ b,Q b->b<w.heap.size) (hs:∀ b,b<w.heap.size->w'.heap[b]?=w.heap[b]?) {x:t.D} {cs} (h:Gk Rs (okC t x cs)):t.ok w' Q x cs:=by
  rcases h with ⟨c',hm,hc⟩ | h
  · obtain ⟨R,r,hRb⟩:=hR c' hm
    have:=hc _ _ r;exact t.ok_mono (F:=R) (fun b hb=>hRb b hb) (t.ok_stable (fun b hb=>hs b (hQ b (hRb b hb))) this)
  · have:=h w' (fun _=>False)
    exact t.ok_mono (F:=fun _=>False) (fun b hb=>hb.elim) this
theorem Zbv {w'} {Q} (hR:∀ c∈Rs,∃ R,c.ok w R/\∀ b,R b->Q b) (hQ:∀ b,Q b->b<w.heap.size) (hs:∀ b,b<w.heap.size->w'.heap[b]?=w.heap[b]?):∀ {t} {x:t.D} {cs},Za5 Rs t x cs->t.ok w' Q x cs
  | .int k,x,cs,h=>U4 hR hQ hs h
  | .bool,x,cs,h=>U4 hR hQ hs h
  | .str,x,cs,h=>U4 hR hQ hs h
  | .val,x,cs,h=>U4 hR hQ hs h
  | .unit,x,cs,h=>U4 hR hQ hs h
  | .slice E t,x,cs,h=>U4 hR hQ hs h
  | .pair a b,x,cs,⟨c1,c2,e,h1,h2⟩=>⟨c1,c2,e,Zbv hR hQ hs h1,Zbv hR hQ hs h2⟩
theorem Zds {t:Ty} {w':World} {Q:Nat->Prop} (hR:∀ c∈Rs,∃ R,c.ok w R/\∀ b,R b->Q b) (hQ:∀ b,Q b->b<w.heap.size) (hs:∀ b,b<w.heap.size->w'.heap[b]?=w.heap[b]?) :
    ∀(xs:List t.D) (css:List (List Value)),Zc9 Rs xs css->Elems (t.ok w' Q) xs css.flatten
  | [],[],_=>rfl
  | x :: xs,cs :: css,⟨h,hs'⟩=>by
    exact ⟨cs,css.flatten,rfl,Zbv hR hQ hs h,Zds hR hQ hs xs css hs'⟩
theorem Zmk (hT:Yq P tt) {T e m:Nat} {z1 z2:Nat} {z:Value} {ie:TI} {ps:Array (Nat×Operand)} {vs:List Value} (ty:Ty) (xs:List ty.D) (ho:o.op=.buildSlice T m ps) (hS:St w0 F0 Hs Rs w)
    (ht:find tt T=some ⟨.slice e,z1,z2,z⟩) (hi:find tt e=some ie) (hpos:0<ie.size) (hv:Yt env (ps.toList.map (·.2))=some vs) (hm:vs.length=m) (hx:xs.length=m) (hm2:Nat.ble (m*ie.size) 16777216=true)
    (hix:ps.toList.map (·.1)=List.range' 0 vs.length) (hsz:vs.all (fun v=>Nat.beq v.cells.toList.length ie.size)=true) (hel:Zc9 Rs xs (vs.map (fun v=>v.cells.toList))) :
    OpT P o env w (fun v w'=>∃ b,v=.slice (some ⟨b,0,none⟩) xs.length m/\St w0 F0 Hs (rdC e ty xs (.slice (some ⟨b,0,none⟩) xs.length m) :: Rs) w'):=
  OpT.value fun n a hf=>⟨_,_,Zbt hT ho ht hi hm hm2 hv hix hsz hf,w.heap.size,by rw [hx],by
    obtain ⟨F,hF,hb,hR⟩:=hS.sat
    have hchg:=Chg.alloc w (.cells (vs.flatMap (fun v=>v.cells.toList)).toArray e) (fun _=>False);obtain ⟨c1,F1,s1,s2,s3⟩:=hS.same hchg;have hold:∀ b,b<w.heap.size->(w.alloc (.cells (vs.flatMap (fun v=>v.cells.toList)).toArray e)).heap[b]?=w.heap[b]?:=fun b hb=>hchg.block b hb fun e=>e;have hE:=Zds (w':=w.alloc (.cells (vs.flatMap (fun v=>v.cells.toList)).toArray e)) hR (fun b hb=>hb.1.1) hold xs _ hel;have hfl:(vs.map (fun v=>v.cells.toList)).flatten=vs.flatMap (fun v=>v.cells.toList):=by rw [List.flatMap_def]
    rw [hfl] at hE;refine ⟨hS.chg.trans hchg fun b hb=>hb.elim,F,hF.stable (fun b hb'=>hold b (hb b hb').1),fun b hb'=>⟨Nat.lt_of_lt_of_le (hb b hb').1 hchg.size,(hb b hb').2⟩,fun d hd=>?_⟩;rcases List.mem_cons.1 hd with rfl | hd
    · refine ⟨fun b=>((b<w.heap.size/\¬ F b)/\F0.has w0 b)\/b=w.heap.size,⟨some ⟨w.heap.size,0,none⟩,m,rfl,by omega,?_⟩,fun b hb'=>?_⟩
      · refine .inr ⟨w.heap.size,0,_,rfl,.inr rfl,hE.imp fun x c h=>ty.ok_mono (fun b hb=>.inl hb) h,fun j u hu=>?_⟩
        simp only [World.cell?,B0];simpa using hu
      · rcases hb' with hb' | hb'
        · exact ⟨⟨Nat.lt_of_lt_of_le hb'.1.1 hchg.size,hb'.1.2⟩,hb'.2⟩
        · subst hb'
          exact ⟨⟨by simp,fun e=>Nat.lt_irrefl _ (hb _ e).1⟩,.inr (.inr hS.chg.size)⟩
    · obtain ⟨R,r,hRb⟩:=hR d hd
      exact ⟨R,d.stable (fun b hb'=>hold b (hRb b hb').1.1) r,fun b hb'=>⟨⟨Nat.lt_of_lt_of_le (hRb b hb').1.1 hchg.size,(hRb b hb').1.2⟩,(hRb b hb').2⟩⟩⟩
end
end Go.SK

namespace Go.SK
open Go Go.RowKit

section
variable {P:Program} {tt:TT} {env:Env} {o:Oper} {w0 w:World} {F0:Ft} {Hs Rs:List Ch}
theorem St.nilrow {E} {t} {xs:List t.D} {A} {n c} (h:St w0 F0 Hs Rs w) (hg:Gives (Hs ++ Rs) (rdC E t xs (.slice A n c))) (hA:A.isNone=true):xs=[]:=by
  obtain ⟨F,hF,_⟩:=h.gives hg;obtain ⟨A',c',e,_,hr⟩:=hF;simp only [List.cons.injEq,and_true,Value.slice.injEq] at e;obtain ⟨rfl,_,_⟩:=e;rcases hr with hr | ⟨b,off,inner,hA',_⟩
  · exact hr
  · rw [hA'] at hA; cases hA
theorem J.envEq {n} {c} {PQ:Xg} {env env'} (he:env'=env) (h:J P n c PQ env' w):J P n c PQ env w:=he ▸ h
theorem Vj {ty:Ty} (hsc:ty.scal=true) {w:World} {F:Nat->Prop}:∀ {xs:List ty.D} {inner:List Value},Elems (ty.ok w F) xs inner->inner=xs.flatMap ty.enc
  | [],inner,h=>by simpa [Elems] using h
  | x :: xs,inner,⟨c1,r,e,h1,h2⟩=>by
    have hfl:ty.flat=true:=by
      have:∀ t:Ty,t.scal=true->t.flat=true:=by
        intro t
        induction t with
        | pair a b iha ihb=>intro h; simp only [Ty.scal,Bool.and_eq_true] at h; simp only [Ty.flat,Bool.and_eq_true]; exact ⟨iha h.1,ihb h.2⟩
        | _=>intro h; first | rfl | cases h
      exact this ty hsc
    rw [e,ty.ok_enc hfl h1,Vj hsc h2]; simp
theorem Gf {ty:Ty} (hsc:ty.scal=true) (x:ty.D):(ty.enc x).length=ty.n:=ty.ok_len (ty.ok_scal hsc default (fun _=>False) x)
theorem Y4 {ty:Ty} (hsc:ty.scal=true):∀ xs:List ty.D,(xs.flatMap ty.enc).length=xs.length*ty.n
  | []=>by simp
  | x :: xs=>by simp [Gf hsc,Y4 hsc xs,Nat.add_mul,Nat.add_comm]
theorem Zjw {ty:Ty} (hsc:ty.scal=true):∀(xs:List ty.D) (i f:Nat) (vs:List Value) (x new:ty.D) (rest:List Value),xs[i]?=some x->f+vs.length<=ty.n->Z0 f vs (ty.enc x)=ty.enc new->
    (xs.flatMap ty.enc ++ rest).take (i*ty.n+f) ++ vs ++ (xs.flatMap ty.enc ++ rest).drop (i*ty.n+f+vs.length)=(xs.set i new).flatMap ty.enc ++ rest
  | [],i,f,vs,x,new,rest,h,_,_=>by simp at h
  | y :: xs,0,f,vs,x,new,rest,h,hf,hl=>by
    simp only [List.getElem?_cons_zero,Option.some.injEq] at h;subst h;have hy:=Gf hsc y;simp only [List.flatMap_cons,List.set_cons_zero,Nat.zero_mul,Nat.zero_add,List.append_assoc];rw [<- hl];simp only [Z0];rw [List.take_append_of_le_length (by omega),List.drop_append_of_le_length (by omega)];simp
  | y :: xs,i+1,f,vs,x,new,rest,h,hf,hl=>by
    have hy:=Gf hsc y;have ih:=Zjw hsc xs i f vs x new rest (by simpa using h) hf hl;simp only [List.flatMap_cons,List.set_cons_succ,List.append_assoc];rw [show (i+1)*ty.n+f=(ty.enc y).length+(i*ty.n+f) by rw [hy,Nat.succ_mul]; omega,show (ty.enc y).length+(i*ty.n+f)+vs.length=(ty.enc y).length+(i*ty.n+f+vs.length) by omega];rw [List.take_length_add_append,List.drop_length_add_append,<- ih];simp
theorem Zgk (hT:Yq P tt) {t e f sz c:Nat} {x y:Operand} {i:TI} {ty:Ty} [Inhabited ty.D] (hsc:ty.scal=true) {xs:List ty.D} {A:Option Addr} {ix:Int} {v:Value} (new:ty.D) (k:Nat) (ho:o.op=.store t x y) (hS:St w0 F0 Hs Rs w)
    (hk:nth Hs k=some (Yg e ty xs (.slice A xs.length c))) (hi:find tt t=some i) (h0:0<=ix) (h1:ix<xs.length) (ha:Zl env x=some (.pointer (some ⟨blk A,ofs A+ix.toNat*sz+f,none⟩))) (hv:Zl env y=some v)
    (hn:ty.n=sz) (hsz:Nat.beq v.cells.toList.length i.size=true) (hle:Nat.ble (f+i.size) sz=true) (hc1:v.cells.toList.all (fun u=>u.oneCell')=true) (hnew:Z0 f v.cells.toList (ty.enc (gt xs ix))=ty.enc new) :
    OpT P o env w (fun _ w'=>St w0 F0 (Yg e ty (xs.set ix.toNat new) (.slice A (xs.set ix.toNat new).length c) :: Hs.eraseIdx k) Rs w'):=
  OpT.skip fun n a hf=>by
    obtain ⟨F,⟨inner,F',hown,hel,hF'1,hF'2⟩,hlt,hs⟩:=hS.turn hk;have hin:=Vj hsc hel;subst hin;rcases hown.2 with ⟨hnil,hz⟩ | ⟨g,cap,cur,hA,_,hh,hnc,hcm,hcs,htk⟩
    · omega
    · simp only [Value.slice.injEq] at hA
      obtain ⟨rfl,_,rfl⟩:=hA;have hb:=hF'2 g rfl;have hsz':v.cells.size=i.size:=by have:=Nat.eq_of_beq_eq_true hsz; simpa using this
      have hle':f+i.size<=ty.n:=by rw [hn]; exact Nat.le_of_ble_eq_true hle
      have hix:ix.toNat<xs.length:=by omega
      have hmul:ix.toNat*ty.n+ty.n<=xs.length*ty.n:=by rw [<- Nat.succ_mul]; exact Nat.mul_le_mul_right _ hix
      have hmul2:xs.length*ty.n<=c*ty.n:=Nat.mul_le_mul_right _ hnc;have hst:=run_storeCells_at P g (ix.toNat*ty.n+f) e v.cells.toList 0 cur w hh (by rw [hcs]; simp [hsz']; omega) (by rw [List.all_eq_true] at hc1; exact hc1);have hsplit:cur.toList=xs.flatMap ty.enc ++ cur.toList.drop (xs.length*ty.n):=by rw [<- htk,List.take_append_drop]
      have hlay:=Zjw hsc xs ix.toNat f v.cells.toList _ new (cur.toList.drop (xs.length*ty.n)) (Je h0 h1) (by simp [hsz']; omega) hnew;rw [<- hsplit] at hlay;rw [Nat.add_zero,hlay] at hst;have haddr:Zl env x=some (.pointer (some ⟨g,ix.toNat*ty.n+f,none⟩)):=by rw [ha,hn]; simp [blk,ofs]
      refine ⟨_,by simp [execOp,ho,hf.eval haddr,hf.eval hv,Instr.storeAt,Instr.sureAddr,storeVar,X1 w (hT _ _ hi),hsz',hst]; rfl,?_⟩;refine hs _ (Yg e ty (xs.set ix.toNat new) (.slice (some ⟨g,0,none⟩) (xs.set ix.toNat new).length c)) F (W1 w g _ hb.1) ⟨(xs.set ix.toNat new).flatMap ty.enc,F',?_,Elems.scal hsc _ _ _,hF'1,hF'2⟩ (fun b hb=>⟨.inl hb,by simpa using hlt b hb⟩);refine ⟨by rw [Y4 hsc],.inr ⟨g,c,_,rfl,Nat.zero_le _,setRow_heap w g _ _ _ _ hh,by simpa using hnc,hcm,?_,?_⟩⟩
      · simp only [List.size_toArray,List.length_append,Y4 hsc,List.length_set,List.length_drop,Array.length_toList,hcs]
        omega
      · simp only [List.length_set]
        rw [List.take_append_of_le_length (by rw [Y4 hsc]; simp),List.take_of_length_le (by rw [Y4 hsc]; simp)]
end
end Go.SK

namespace Go.SK
open Go Go.RowKit

structure HS (P:Program) (n:Nat) (ops:List Oper) (S:World->Prop) (K:Env->World->Prop) (done:List Nat) (env:Env) (w:World) (i:Nat):Prop where
  go:∀ fuel a Q,Fr n env a->(∀ env a w,Fr n env a->K env w->Q .normal a w)->Gz ops.length (i :: done)<=fuel->i<ops.length->
    wpOp P ops.toArray (NoPanic Q) i (fun a' w'=>S w'/\wpAnyH P .any ops.toArray (NoPanic Q) S fuel ((Vb ops.length done).setIfInBounds i true) a' w') a w
def Zae (done is:List Nat):Nat->List Oper->Bool
  | _,[]=>true
  | j,oj :: r=>(Z3 j is || Z3 j done || !Wk done oj) && Zae done is (j+1) r
theorem Zaq {done is}:∀ r k,Zae done is k r=true->∀ j oj,r[j]?=some oj->Z3 (k+j) done=false->Wk done oj=true->Z3 (k+j) is=true
  | [],_,_,j,oj,hj,_,_=>by simp at hj
  | o :: r,k,h,j,oj,hj,hun,hr=>by
    simp only [Zae,Bool.and_eq_true] at h;cases j with
    | zero=>
      simp only [List.getElem?_cons_zero,Option.some.injEq] at hj;subst hj;have h1:=h.1;simp only [Nat.add_zero] at hun ⊢;simpa [hun,hr] using h1
    | succ j=>
      have:=Zaq r (k+1) h.2 j oj (by simpa using hj) (by rw [show k+1+j=k+(j+1) from by omega]; exact hun) hr
      rwa [show k+1+j=k+(j+1) from by omega] at this
section
variable {P:Program} {n:Nat} {env:Env} {w:World} {ops:List Oper} {K:Env->World->Prop} {S:World->Prop} {o:Oper} {done:List Nat}
theorem HS.op {K'} {i} (hi:nth ops i=some o) (hw:Ye ops env o=some true) (hd:Xs n o.dst=true) (ho:OpT P o env w K')
    (h:∀ v w',K' v w'->S w'/\HJ P n ops S K (i :: done) (Xe o.dst v env) w'):HS P n ops S K done env w i:=⟨fun fuel a Q hf hQ hfu hlt=>by
  rw [Yk] at hi;have hi':ops.toArray[i]?=some o:=by simpa using hi
  unfold wpOp;simp only [hi'];rw [if_pos (Wx (ops:=ops.toArray) hf (by simpa using hw))];refine .inl (ho n a _ _ hf fun v w' hk=>⟨(h v w' hk).1,?_⟩);rw [Gx hlt];exact (h v w' hk).2.go fuel (h v w' hk).1 _ Q (hf.putD v hd) hQ hfu⟩
theorem Uu:∀ i∈([]:List Nat),HS P n ops S K done env w i:=fun i h=>by cases h
theorem Xo {i} {is} (h:HS P n ops S K done env w i) (hs:∀ j∈is,HS P n ops S K done env w j):∀ j∈i :: is,HS P n ops S K done env w j:=fun j hj=>by
  rcases List.mem_cons.1 hj with rfl | hj
  · exact h
  · exact hs j hj
theorem HJ.pick (is) {i} (hs:X0 ops=true) (hr:Zae done is 0 ops=true) (hi:nth ops i=some o) (h0:(!Z3 i done && Wk done o)=true) (h:∀ i∈is,HS P n ops S K done env w i):HJ P n ops S K done env w:=⟨fun fuel hS a Q hf hQ hfu=>by
  simp only [X0,Bool.and_eq_true] at hs;simp only [Bool.and_eq_true,Bool.not_eq_true'] at h0;rw [Yk] at hi;have hrdy:=(Um (done:=done) hs.1).2 ⟨o,hi,h0.1,h0.2⟩;have hlt0:i<ops.length:=(List.getElem?_eq_some_iff.1 hi).1;have hless0:=Up hlt0 h0.1;cases fuel with
  | zero=>omega
  | succ fuel=>
    refine ⟨fun he=>(by rw [he] at hrdy; cases hrdy),fun j hj=>?_⟩;obtain ⟨oj,h1,h2,h3⟩:=(Um hs.1).1 hj;have hm:=Zaq ops 0 hr j oj h1 (by simpa using h2) h3;rw [Nat.zero_add,Wb] at hm;have hjl:j<ops.length:=(List.getElem?_eq_some_iff.1 h1).1;have hless:=Up hjl h2;exact (h j (by simpa using hm)).go fuel a Q hf hQ (by omega) hjl⟩
end
theorem J.mid {P} {n} {c} {PQ:Xg} {env} {w} (R) (h1:J P n c (Zaf R PQ) env w) (h2:∀ env w,R env w->PQ .normal env w):J P n c PQ env w:=
  ⟨fun a Q hf hQ=>h1.go a Q hf fun e env a w hf h=>by
    cases e <;> first | exact hQ _ _ _ _ hf (h2 _ _ h) | exact hQ _ _ _ _ hf h⟩
theorem J.midS {P} {n} {c} {PQ:Xg} {next} {env} {w} (R) (h1:J P n c (Zaf R PQ) env w) (h2:∀ env w,R env w->next env w):J P n c (Zaf next PQ) env w:=
  ⟨fun a Q hf hQ=>h1.go a Q hf fun e env a w hf h=>by
    cases e <;> first | exact hQ _ _ _ _ hf (h2 _ _ h) | exact hQ _ _ _ _ hf h⟩
theorem Y3 {R} {PQ:Xg} {env} {w} (h:R env w):Zaf R PQ .normal env w:=h
end Go.SK
namespace Go.SK
open Go Go.RowKit
theorem OpT.ofq {P} {o} {env} {w} {v} (h:QOp P o env (fun w'=>w'=w) v):OpT P o env w (fun v' w'=>v'=v/\w'=w):=
  OpT.value fun n a hf=>⟨v,w,h n a w hf rfl,rfl,rfl⟩
end Go.SK

namespace Go.SK
open Go Go.RowKit

section
variable {P:Program}
theorem Zcu (w) (base) (t ti ty e:TypeId) (i:TypeInfo) (z) (size bytes) (ht:P.underlying t=some (.slice e)) {k} (hti:P.underlying ti=some (.int k)) (hi:P.info? e=some i) (hz:i.zero=some z)
    (hsize:i.size=size) (hby:i.bytes=bytes) (hzs:z.cells.size=size) (hsz:0<size) (hb0:0<bytes)
    (v) (n) (xs) (hown:w.ownsRow base e size v n xs) (kx) (m) (h1:∀ u∈(Builtin.zeroCells z.cells m).toList,u.oneCell'=true)
    (hbytes:(n+m)*bytes<=140737488355328) (hbase:base<=w.heap.size) :
    ∃ v' w',(Builtin.append_ #[t,ti] ty #[v,.int kx m]).run P w=.ok v' w'/\w'.ownsRow base e size v' (n+m) (xs ++ (Builtin.zeroCells z.cells m).toList)/\w.grownBy w' v.ownBlock/\
      (v'.ownBlock=v.ownBlock\/v'.ownBlock=some w.heap.size):=by
  subst hsize;subst hby
  have hle:n+m<=140737488355328:=Nat.le_trans (Nat.le_mul_of_pos_right _ hb0) hbytes;have h63:n+m<=maxLen:=by simp only [maxLen]; omega
  have hw:IntKind.i64.wrap (m:Int)=m:=by rw [IntKind.wrap_i64]; omega
  have hw0:IntKind.i64.wrap 0=0:=by rw [IntKind.wrap_i64]; rfl
  have hneg:¬ ((m:Int)<0):=by omega
  have hmb:m*i.bytes<=140737488355328:=Nat.le_trans (Nat.mul_le_mul_right _ (Nat.le_add_left m n)) hbytes;have hbig:¬ (281474976710656<(m:Int)*(i.bytes:Int)):=by
    rw [<- Int.natCast_mul];omega
  have hsn:i.size≠0:=by omega
  obtain ⟨news,hnews⟩:∃ news,news=(Builtin.zeroCells z.cells m).toList:=⟨_,rfl⟩;rw [<- hnews] at h1 ⊢;have hl:news.length=m*i.size:=by rw [hnews,Array.length_toList,size_zeroCells,hzs]
  have hna:Builtin.zeroCells z.cells m=news.toArray:=by rw [hnews]
  have hlen:(xs ++ news).length=(n+m)*i.size:=by rw [List.length_append,hown.1,hl,Nat.add_mul]
  have hnil:m=0->news=[]:=fun h=>List.eq_nil_of_length_eq_zero (by rw [hl,h,Nat.zero_mul]);have grown:∀(old:Nat),old<n+m->∀(row:Option Nat),
      (w.drew.alloc (.cells (xs.toArray ++ news.toArray ++ Builtin.zeroCells z.cells (grownCap w (n+m) old e - (n+m))) e)).ownsRow base e i.size
        (.slice (some ⟨w.heap.size,0,none⟩) (n+m) (grownCap w (n+m) old e)) (n+m) (xs ++ news)/\
      w.grownBy (w.drew.alloc (.cells (xs.toArray ++ news.toArray ++ Builtin.zeroCells z.cells (grownCap w (n+m) old e - (n+m))) e)) row:=by
    intro old ho row;have hge:=grownCap_ge w (n+m) old e;have hcm:grownCap w (n+m) old e<=maxLen:=grownCap_le_maxLen w (n+m) old e h63;refine ⟨⟨hlen,.inr ⟨w.heap.size,_,_,rfl,hbase,heap_alloc_new w.drew _,hge,hcm,?_,?_⟩⟩,⟨rfl,rfl,rfl,by simp,fun k hk _=>heap_alloc_old w.drew _ hk⟩⟩
    · simp only [Array.size_append,List.size_toArray,size_zeroCells,hzs,hown.1,hl,<- Nat.add_mul]
      congr 1;omega
    · simp only [Array.toList_append,List.append_assoc]
      rw [<- List.append_assoc,<- hlen];exact List.take_left
  have runs:∀(A:Option Addr) (cap:Nat),cap<n+m->(Builtin.firstCells i.size n (.slice A n cap)).run P w.drew=.ok xs.toArray w.drew->(Builtin.append_ #[t,ti] ty #[.slice A n cap,.int kx m]).run P w =
      .ok (.slice (some ⟨w.heap.size,0,none⟩) (n+m) (grownCap w (n+m) cap e)) (w.drew.alloc (.cells (xs.toArray ++ news.toArray ++ Builtin.zeroCells z.cells (grownCap w (n+m) cap e - (n+m))) e)):=by
    intro A cap hcap hfo;have hn:¬ (n+m<=cap):=by omega
    have h63':¬ (9223372036854775807<((n:Int)+(m:Int))):=by omega
    have hfit:=growslice_fits hcap hbytes;have h48':¬ (281474976710656<Builtin.nextslicecap (n+m) cap*i.bytes):=by omega
    by_cases hm:m=0
    · have hnl:=hnil hm
      subst hm;rw [hnl];simp only [Nat.add_zero] at hn h63' h48' ⊢;have h63'':¬ (9223372036854775807<(n:Int)):=by omega
      simp [Builtin.append_,run_underlying ht,run_underlying hti,sizeOf,typeInfo,zeroValue,hi,hz,asInt,asIntOf,hw0,hn,h63'',h48',Question.forced,hfo,newRow,grownCap]
    · have hmz:¬ (m*i.size=0):=Nat.mul_ne_zero hm hsn
      simp [Builtin.append_,run_underlying ht,run_underlying hti,sizeOf,typeInfo,zeroValue,hi,hz,asInt,asIntOf,hw,hneg,hbig,hn,h63',h48',Question.forced,hfo,newRow,grownCap,hmz,hna];congr 2;apply Array.ext';simp [List.append_assoc]
  rcases hown.2 with ⟨rfl,rfl⟩ | ⟨g,cap,cur,rfl,hbg,hg,hnc,hcm,hcs,htake⟩
  · have hx:xs=[]:=List.eq_nil_of_length_eq_zero (by simpa using hown.1)
    subst hx;by_cases hm:m=0
    · have hnl:=hnil hm
      subst hm;rw [hnl];refine ⟨.slice none 0 0,w,?_,World.ownsRow_nil w base e i.size,⟨rfl,rfl,rfl,Nat.le_refl _,fun _ _ _=>rfl⟩,Or.inl rfl⟩;simp [Builtin.append_,run_underlying ht,run_underlying hti,sizeOf,typeInfo,hi,asInt,asIntOf,hw0]
    · have hgr:=grown 0 (by omega) (Value.ownBlock (.slice none 0 0))
      exact ⟨_,_,runs none 0 (by omega) (by simp [Builtin.firstCells]),hgr.1,hgr.2,Or.inr rfl⟩
  · by_cases hroom:n+m<=cap
    · have hfit:n*i.size+news.length<=cur.size:=by rw [hl,hcs,<- Nat.add_mul]; exact Nat.mul_le_mul_right _ hroom
      have hst:=run_storeCells_at P g (n*i.size) e news 0 cur w hg (by omega) h1;simp only [Nat.add_zero] at hst;have hadd:(⟨g,0,none⟩:Addr).add (n*i.size)=⟨g,n*i.size,none⟩:=by rw [Xz]; simp
      have htl:(cur.toList.take (n*i.size)).length=n*i.size:=by rw [List.length_take,Array.length_toList]; omega
      refine ⟨.slice (some ⟨g,0,none⟩) (n+m) cap,w.setRow g (cur.toList.take (n*i.size) ++ news ++ cur.toList.drop (n*i.size+news.length)).toArray,?_,⟨hlen,.inr ⟨g,cap,_,rfl,hbg,setRow_heap w g cur _ e _ hg,hroom,hcm,?_,?_⟩⟩,⟨rfl,rfl,rfl,by simp,fun k _ hk=>setRow_other w g k _ (fun e=>hk (by simp [Value.ownBlock,e]))⟩,Or.inl rfl⟩
      · by_cases hm:m=0
        · have hnl:=hnil hm
          subst hm;rw [hnl] at hst ⊢;simp [Builtin.append_,run_underlying ht,run_underlying hti,sizeOf,typeInfo,hi,asInt,asIntOf,hw0,hnc,hadd] at hst ⊢;simp [hst]
        · have hmz:¬ (m*i.size=0):=Nat.mul_ne_zero hm hsn
          simp [Builtin.append_,run_underlying ht,run_underlying hti,sizeOf,typeInfo,zeroValue,hi,hz,asInt,asIntOf,hw,hneg,hbig,hroom,hmz,hna,hadd] at hst ⊢;simp [hst]
      · simp only [List.size_toArray,List.length_append,List.length_drop,Array.length_toList,htl]
        omega
      · have h6:cur.toList.take (n*i.size)=xs:=htake
        simp only [h6,<- hlen];exact List.take_left
    · have holds:∀ j u,xs[j]?=some u->w.cell? ((⟨g,0,none⟩:Addr).add j)=some u:=hown.cells (g:=g) rfl
      have hgr:=grown cap (by omega) (Value.ownBlock (.slice (some ⟨g,0,none⟩) n cap));exact ⟨_,_,runs (some ⟨g,0,none⟩) cap (by omega) (run_firstCells_some (P:=P) w.drew i.size n _ n cap xs hown.1 (by simpa using holds)),hgr.1,hgr.2,Or.inr rfl⟩

end
section
variable {P:Program} {tt:TT} {env:Env} {S:World->Prop} {o:Oper} {w0 w:World} {F0:Ft} {Hs Rs:List Ch}
theorem Zaj {ty:Ty} {z:Value} {z0:ty.D} (hz:z.cells.toList=ty.enc z0) (m:Nat):(Builtin.zeroCells z.cells m).toList=(List.replicate m z0).flatMap ty.enc:=by
  have h1:∀(m:Nat),(List.replicate m z0).flatMap ty.enc=(List.replicate m z.cells.toList).flatten:=fun m=>by
    induction m with
    | zero=>rfl
    | succ m ih=>simp [List.replicate_succ,ih,hz]
  have h2:∀(z:Array Value),(List.range z.size).map (fun i=>z[i % z.size]!)=z.toList:=fun z=>by
    apply List.ext_getElem
    · simp
    · intro i hi hj
      simp only [List.length_map,List.length_range] at hi;simp [Nat.mod_eq_of_lt hi,hi]
  have h3:∀(z:Array Value) (m:Nat),(List.range (m*z.size)).map (fun i=>z[i % z.size]!)=(List.replicate m z.toList).flatten:=fun z m=>by
    induction m with
    | zero=>simp
    | succ m ih=>
      rw [Nat.succ_mul,Nat.add_comm,List.range_add,List.map_append,h2,List.map_map,List.replicate_succ,List.flatten_cons,<- ih];congr 1;apply List.map_congr_left;intro i _;simp
  rw [h1,<- h3];simp [Builtin.zeroCells]
theorem B7 {ty:Ty} (hsc:ty.scal=true) (xs:List ty.D):∀ u∈xs.flatMap ty.enc,u.oneCell'=true:=fun u hu=>by
  obtain ⟨x,_,hx⟩:=List.mem_flatMap.1 hu;exact ty.ok_one (ty.ok_scal hsc default (fun _=>False) x) u hx
theorem Us (hT:Yq P tt) {t ti e:Nat} {xa ya:Operand} {z1 z2 z3 z4:Nat} {z zi:Value} {ki kx:IntKind} {ie:TI} {ty:Ty} (hsc:ty.scal=true) {xs:List ty.D} {v:Value} {m:Int} (z0:ty.D) (k:Nat) (ho:o.op=.call { callee:=.builtin .append,args:=#[xa,ya],argTypes:=#[t,ti] })
    (hS:St w0 F0 Hs Rs w) (hk:nth Hs k=some (Yg e ty xs v)) (hx:Zl env xa=some v) (hy:Zl env ya=some (.int kx m))
    (ht:find tt t=some ⟨.slice e,z1,z2,z⟩) (hti:find tt ti=some ⟨.int ki,z3,z4,zi⟩) (hi:find tt e=some ie) (hn:ty.n=ie.size) (hz:ie.zero.cells.toList=ty.enc z0) (hpos:0<ie.size) (hby:0<ie.bytes) (h0:0<=m) (hl:((xs.length:Int)+m)*ie.bytes<=140737488355328) :
    OpT P o env w (fun v' w'=>∃ A' c',v'=.slice A' (xs ++ List.replicate m.toNat z0).length c'/\St w0 F0 (Yg e ty (xs ++ List.replicate m.toNat z0) (.slice A' (xs ++ List.replicate m.toNat z0).length c') :: Hs.eraseIdx k) Rs w'):=
  OpT.value fun n a hf=>by
    have hkk:=(hT _ _ ht).kind;have hki:=(hT _ _ hti).kind;simp only [TK.ok] at hkk hki;obtain ⟨i0,hi0,hs0,hb0,hz0⟩:=(hT _ _ hi).info';obtain ⟨F,⟨inner,F',hown,hel,hF'1,hF'2⟩,hlt,hs⟩:=hS.turn hk;have hin:=Vj hsc hel;subst hin;obtain ⟨m,rfl⟩:∃ q:Nat,m=(q:Int):=⟨m.toNat,by omega⟩;have hl':(xs.length+m)*ie.bytes<=140737488355328:=by
      have:(((xs.length+m)*ie.bytes:Nat):Int)<=140737488355328:=by rw [Int.natCast_mul,Int.natCast_add]; exact hl
      omega
    have hzc:=Zaj hz m;obtain ⟨v',w',hr,ho',hg,hb⟩:=Zcu (P:=P) w 0 t ti o.type e i0 ie.zero ty.n ie.bytes hkk hki hi0 hz0 (by rw [hs0,hn]) hb0 (by rw [<- Array.length_toList,hz,Gf hsc]) (by omega) hby v xs.length _ hown kx m
      (by rw [hzc]; exact B7 hsc _) hl' (Nat.zero_le _)
    rw [hzc] at ho';have hlen:(xs ++ List.replicate m z0).length=xs.length+m:=by simp
    have hrun:(execOp a.eval o).run P w=.ok (.value v') w':=by simp [execOp,ho,resolve,invoke,builtin,hf.eval hx,hf.eval hy,hr]
    have hfm:(xs ++ List.replicate m z0).flatMap ty.enc=xs.flatMap ty.enc ++ (List.replicate m z0).flatMap ty.enc:=by simp
    have hshape:∃ A' c',v'=.slice A' (xs.length+m) c':=by
      rcases ho'.2 with ⟨h,h2⟩ | ⟨g,cap,cur,h,_⟩
      · exact ⟨none,0,by rw [h,h2]⟩
      · exact ⟨_,_,h⟩
    obtain ⟨A',c',rfl⟩:=hshape;refine ⟨_,w',hrun,A',c',by simp [hlen],?_⟩;have hFv:∀ b,v.ownBlock=some b->F b:=fun b hb=>(hF'2 b hb).1;have hown2:w'.ownsRow 0 e ty.n (.slice A' (xs.length+m) c') (xs ++ List.replicate m z0).length ((xs ++ List.replicate m z0).flatMap ty.enc):=by rw [hlen,hfm]; exact ho'
    have hlive:∀ b,(Value.slice A' (xs.length+m) c').ownBlock=some b->b<w'.heap.size:=fun b hb=>by
      rcases ho'.2 with ⟨h,h2⟩ | ⟨g,cap,cur,h,_,hh,_⟩
      · rw [h] at hb; cases hb
      · rw [h] at hb
        simp only [Value.ownBlock,Option.some.injEq] at hb;subst hb;exact (Array.getElem?_eq_some_iff.1 hh).1
    rw [show (Value.slice A' (xs ++ List.replicate ((m:Nat):Int).toNat z0).length c')=.slice A' (xs.length+m) c' by simp];refine hs w' (Yg e ty (xs ++ List.replicate m z0) (.slice A' (xs.length+m) c')) (fun b=>(Value.slice A' (xs.length+m) c').ownBlock=some b) (Chg.of_grown hg hFv) ⟨_,fun _=>False,hown2,Elems.scal hsc _ _ _,fun b hb=>hb.elim,fun b hb=>⟨hb,fun e=>e⟩⟩ fun b hb'=>⟨?_,hlive b hb'⟩;rcases hb with hb | hb
    · exact .inl (hFv b (by rw [<- hb]; exact hb'))
    · rw [hb] at hb'
      simp only [Option.some.injEq] at hb';exact .inr (by omega)
theorem Zbk (A) (c s):Vn A c 0 s=A:=by
  unfold Vn;split
  · rfl
  · cases A <;> simp [Addr.add]
theorem Zqh {α:Type} (hT:Yq P tt) {t e:Nat} {x:Operand} {hi:Option Operand} {xs sub:List α} {A:Option Addr} {c:Nat} {h:Int} {z1 z2:Nat} {z:Value} {ie:TI} (ho:o.op=.slice t x none hi none) (ht:find tt t=some ⟨.slice e,z1,z2,z⟩) (he:find tt e=some ie)
    (hx:Zl env x=some (.slice A xs.length c)) (hlc:xs.length<=c) (hhi:Uk env hi (xs.length:Nat) h) (h1:0<=h) (h2:h<=(xs.length:Nat)) (hs:xs.take h.toNat=sub):QOp P o env S (.slice A sub.length c):=by
  have:=Zj7 (S:=S) (l:=0) (h:=h) (sub:=sub) hT ho ht he hx hlc rfl hhi (Int.le_refl _) h1 h2 (by simpa using hs);simpa [Zbk] using this
theorem Zo8 {E:Nat} {ty:Ty} {xs sub:List ty.D} {A:Option Addr} {n c:Nat} {h:Int} (h1:0<=h) (h2:h<=(xs.length:Nat)) (hs:xs.take h.toNat=sub) (w:World) (F:Nat->Prop) (hr:(rdC E ty xs (.slice A n c)).ok w F):(rdC E ty sub (.slice A sub.length c)).ok w F:=by
  have:=Zbq (l:=0) (h:=h) (sub:=sub) rfl (Int.le_refl _) h1 h2 (by simpa using hs) w F hr;simpa [Zbk] using this
theorem St.front {e} {ty} (hsc:ty.scal=true) {xs:List ty.D} {A} {n c} (k) (h) (hS:St w0 F0 Hs Rs w) (hk:nth Hs k=some (Yg e ty xs (.slice A n c))) (hle:h<=xs.length) :
    St w0 F0 (Yg e ty (xs.take h) (.slice A (xs.take h).length c) :: Hs.eraseIdx k) Rs w:=by
  obtain ⟨F,⟨inner,F',hown,hel,hF'1,hF'2⟩,hlt,hs⟩:=hS.turn hk;have hin:=Vj hsc hel;subst hin;have hth:(xs.take h).length=h:=by rw [List.length_take]; omega
  refine hs w _ F (Chg.refl _ _) ⟨(xs.take h).flatMap ty.enc,F',?_,Elems.scal hsc _ _ _,hF'1,?_⟩ fun b hb=>⟨.inl hb,hlt b hb⟩
  · rcases hown.2 with ⟨hv,hz⟩ | ⟨g,cap,cur,hv,hb,hg,hnc,hcm,hcs,htk⟩
    · simp only [Value.slice.injEq] at hv
      obtain ⟨rfl,_,rfl⟩:=hv;have:xs=[]:=List.eq_nil_of_length_eq_zero hz;subst this;simp only [List.take_nil,List.flatMap_nil,List.length_nil];exact ⟨by simp,.inl ⟨rfl,rfl⟩⟩
    · simp only [Value.slice.injEq] at hv
      obtain ⟨rfl,_,rfl⟩:=hv;refine ⟨by rw [Y4 hsc],.inr ⟨g,c,cur,rfl,hb,hg,by omega,hcm,hcs,?_⟩⟩;have hxs:xs.flatMap ty.enc=(xs.take h).flatMap ty.enc ++ (xs.drop h).flatMap ty.enc:=by rw [<- List.flatMap_append,List.take_append_drop]
      have hle2:h*ty.n<=xs.length*ty.n:=Nat.mul_le_mul_right _ hle;have e1:cur.toList.take (h*ty.n)=(cur.toList.take (xs.length*ty.n)).take (h*ty.n):=by rw [List.take_take,Nat.min_eq_left hle2]
      rw [hth,e1,htk,hxs];have:((xs.take h).flatMap ty.enc).length=h*ty.n:=by rw [Y4 hsc,hth]
      rw [<- this];exact List.take_left
  · intro b hb
    exact hF'2 b (by cases A <;> exact hb)
end
end Go.SK

namespace Go.SK
open Go Go.RowKit

section
variable {P:Program} {tt:TT} {env:Env} {o:Oper} {w0 w:World} {F0:Ft} {Hs Rs:List Ch}
theorem Zkh {ty:Ty} {z:Value} {z0:ty.D} (hz:z.cells.toList=ty.enc z0) (m:Nat):(madeCells z.cells (m*z.cells.size)).toList=(List.replicate m z0).flatMap ty.enc:=by
  have:=Zaj hz m;rw [<- this];simp [madeCells,Builtin.zeroCells]
theorem Bn (hT:Yq P tt) {T e:Nat} {z1 z2:Nat} {z:Value} {ie:TI} {l c:Operand} {kl kc:IntKind} {n:Int} {ty:Ty} (hsc:ty.scal=true) (zero:ty.D) (ho:o.op=.makeSlice T l c) (ht:find tt T=some ⟨.slice e,z1,z2,z⟩) (hi:find tt e=some ie)
    (hl:Zl env l=some (.int kl n)) (hc:Zl env c=some (.int kc n)) (hsz:ty.n=ie.size) (hz:ie.zero.cells.toList=ty.enc zero) (hby:0<ie.bytes) (hS:St w0 F0 Hs Rs w) (h0:0<=n) (hb:n*ie.bytes<=281474976710656) :
    OpT P o env w (fun v w'=>∃ b,v=.slice (some ⟨b,0,none⟩) (List.replicate n.toNat zero).length n.toNat/\St w0 F0 (Yg e ty (List.replicate n.toNat zero) (.slice (some ⟨b,0,none⟩) (List.replicate n.toNat zero).length n.toNat) :: Hs) Rs w'):=
  OpT.value fun nn a hf=>by
    have hk:=(hT _ _ ht).kind;simp only [TK.ok] at hk;obtain ⟨j,hj,h1,h2,h3⟩:=(hT _ _ hi).info';obtain ⟨m,rfl⟩:∃ m:Nat,n=(m:Int):=⟨n.toNat,by omega⟩;have hle:m*ie.bytes<=281474976710656:=by
      have:((m*ie.bytes:Nat):Int)<=281474976710656:=by rw [Int.natCast_mul]; exact hb
      omega
    have hm:m<=maxLen:=by
      have:m<=m*ie.bytes:=Nat.le_mul_of_pos_right _ hby
      simp only [maxLen]; omega
    have hzs:ie.zero.cells.size=ie.size:=by rw [<- Array.length_toList,hz,Gf hsc,hsz]
    obtain ⟨w',hr,hown,hgr⟩:=run_make_full (P:=P) w 0 T e j ie.zero ie.size hk hj h3 h1 kl kc m (by rw [h2,Nat.mul_comm]; exact hle) hm (Nat.zero_le _);rw [<- hzs,Zkh hz,hzs,<- hsz] at hown;have hlen:(List.replicate m zero).length=m:=by simp
    refine ⟨.slice (some ⟨w.heap.size,0,none⟩) m m,w',by simp [execOp,ho,hf.eval hl,hf.eval hc,hr],w.heap.size,by simp,?_⟩;have hlt:w.heap.size<w'.heap.size:=by
      rcases hown.2 with ⟨h,_⟩ | ⟨g,cap,cur,hv,_,hg,_⟩
      · cases h
      · simp only [Value.slice.injEq,Option.some.injEq,Addr.mk.injEq] at hv
        rw [<- hv.1.1] at hg;exact (Array.getElem?_eq_some_iff.1 hg).1
    refine hS.add (F':=fun b=>b=w.heap.size) (Chg.of_grown hgr fun b hb=>by cases hb) ⟨_,fun _=>False,?_,Elems.scal hsc _ _ _,fun b hb=>hb.elim,fun b hb=>?_⟩ fun b hb=>?_
    · simpa using hown
    · simp [Value.ownBlock] at hb
      exact ⟨hb.symm,fun e=>e⟩
    · subst hb
      exact ⟨Nat.le_refl _,hlt⟩
end
end Go.SK

namespace Go.SK
open Go

theorem Ve (a):Op.bytesLess a []=false:=by cases a <;> rfl
theorem Un (x y) (a b):Op.bytesLess (x :: a) (y :: b)=(decide (x<y) || (x == y && Op.bytesLess a b)):=rfl
theorem Zmb (x y:UInt8):x<y\/x=y\/y<x:=by
  rcases Nat.lt_trichotomy x.toNat y.toNat with h | h | h
  · exact .inl (UInt8.lt_iff_toNat_lt.2 h)
  · exact .inr (.inl (UInt8.toNat_inj.1 h))
  · exact .inr (.inr (UInt8.lt_iff_toNat_lt.2 h))
theorem Bm (x:UInt8):¬ x<x:=fun h=>Nat.lt_irrefl _ (UInt8.lt_iff_toNat_lt.1 h)
theorem Znh {x y:UInt8} (h:x<y):¬ y<x:=fun k=>Nat.lt_asymm (UInt8.lt_iff_toNat_lt.1 h) (UInt8.lt_iff_toNat_lt.1 k)
theorem Zn6 {x y z:UInt8} (h:x<y) (k:y<z):x<z:=UInt8.lt_iff_toNat_lt.2 (Nat.lt_trans (UInt8.lt_iff_toNat_lt.1 h) (UInt8.lt_iff_toNat_lt.1 k))
theorem bl_cons_iff {x y} {a b}:Op.bytesLess (x :: a) (y :: b)=true↔x<y\/x=y/\Op.bytesLess a b=true:=by simp [Un]
theorem Vs:∀ a:List UInt8,Op.bytesLess a a=false
  | []=>rfl
  | x :: a=>by
    cases h:Op.bytesLess (x :: a) (x :: a) with
    | false=>rfl
    | true=>
      rcases bl_cons_iff.1 h with h | ⟨_,h⟩
      · exact absurd h (Bm x)
      · rw [Vs a] at h; cases h
theorem X5:∀ {a b c:List UInt8},Op.bytesLess a b=true->Op.bytesLess b c=true->Op.bytesLess a c=true
  | _,[],_,h,_=>by rw [Ve] at h; cases h
  | _,_ :: _,[],_,h=>by rw [Ve] at h; cases h
  | [],_ :: _,_ :: _,_,_=>rfl
  | x :: a,y :: b,z :: c,h,k=>by
    rw [bl_cons_iff] at h k ⊢;rcases h with h | ⟨rfl,h⟩ <;> rcases k with k | ⟨rfl,k⟩
    · exact .inl (Zn6 h k)
    · exact .inl h
    · exact .inl k
    · exact .inr ⟨rfl,X5 h k⟩
theorem Gc:∀(a b:List UInt8),Op.bytesLess a b=true\/a=b\/Op.bytesLess b a=true
  | [],[]=>.inr (.inl rfl)
  | [],_ :: _=>.inl rfl
  | _ :: _,[]=>.inr (.inr rfl)
  | x :: a,y :: b=>by
    rw [bl_cons_iff,bl_cons_iff];rcases Zmb x y with h | rfl | h
    · exact .inl (.inl h)
    · rcases Gc a b with h | rfl | h
      · exact .inl (.inr ⟨rfl,h⟩)
      · exact .inr (.inl rfl)
      · exact .inr (.inr (.inr ⟨rfl,h⟩))
    · exact .inr (.inr (.inl h))
theorem Wl {a b} (h:Op.bytesLess a b=true):Op.bytesLess b a=false:=by
  cases k:Op.bytesLess b a with
  | false=>rfl
  | true=>have:=X5 h k; rw [Vs] at this; cases this
theorem W8 {a b} (h:Op.bytesLess a b=true):a≠b:=fun e=>by subst e; rw [Vs] at h; cases h
theorem Zaa {a b} (h:Op.bytesLess a b=false):a=b\/Op.bytesLess b a=true:=(Gc a b).resolve_left (by simp [h])
theorem Bb {a b c} (h:Op.bytesLess b a=false) (k:Op.bytesLess c b=false):Op.bytesLess c a=false:=by
  cases e:Op.bytesLess c a with
  | false=>rfl
  | true=>
    rcases Zaa k with rfl | k'
    · rw [e] at h; cases h
    · rw [X5 k' e] at h; cases h
theorem Zc2 {a b c} (h:Op.bytesLess a b=true) (k:Op.bytesLess c b=false):Op.bytesLess a c=true:=by
  rcases Zaa k with rfl | k'
  · exact h
  · exact X5 h k'
theorem Zgw {a b c} (h:Op.bytesLess b a=false) (k:Op.bytesLess b c=true):Op.bytesLess a c=true:=by
  rcases Zaa h with rfl | h'
  · exact k
  · exact X5 h' k
theorem Zfu (a b):(Op.bytesLess a b || decide (a=b))=!Op.bytesLess b a:=by
  rcases Gc a b with h | rfl | h
  · simp [h,Wl h]
  · simp [Vs]
  · have:=W8 h
    simp only [Wl h,h,Bool.false_or,Bool.not_true,decide_eq_false_iff_not]; exact fun e=>this e.symm
theorem scmp_lt {a b}:Xm a b<0↔Op.bytesLess a b=true:=by
  unfold Xm; split
  · simp_all
  · split <;> simp_all
theorem Zpc {a b}:0<Xm a b↔Op.bytesLess b a=true:=by
  unfold Xm; split
  · rename_i h; simp [Wl h]
  · split
    · rename_i h; subst h; simp [Vs]
    · rename_i h1 h2; rcases Gc a b with h | h | h <;> simp_all
theorem scmp_le {a b}:Xm a b<=0↔Op.bytesLess b a=false:=by
  have:=@Zpc a b;constructor
  · intro h
    cases k:Op.bytesLess b a with
    | false=>rfl
    | true=>have:=this.2 k; omega
  · intro h
    rw [h] at this;simp at this;exact this
theorem Zm1 (x y:UInt8) (a b:List UInt8):Xm (x :: a) (y :: b)=if x<y then -1 else if y<x then 1 else Xm a b:=by
  rcases Zmb x y with h | rfl | h
  · simp [Xm,Un,h]
  · simp [Xm,Un,Bm]
  · have h':=Znh h
    have h2:¬ x=y:=fun e=>by subst e; exact Bm _ h
    simp [Xm,Un,h,h',h2]
theorem Zgh (b):Xm [] b=if b.length=0 then 0 else -1:=by cases b <;> simp [Xm,Op.bytesLess]
theorem Zd8 (a):Xm a []=if a.length=0 then 0 else 1:=by cases a <;> simp [Xm,Op.bytesLess]
theorem Zfb (a b):Xm a b=-1/\Op.bytesLess a b=true\/Xm a b=0/\a=b\/Xm a b=1/\Op.bytesLess b a=true:=by
  rcases Gc a b with h | rfl | h
  · exact .inl ⟨by simp [Xm,h],h⟩
  · exact .inr (.inl ⟨by simp [Xm,Vs],rfl⟩)
  · have e:¬ a=b:=fun e=>W8 h e.symm
    exact .inr (.inr ⟨by simp [Xm,Wl h,e],h⟩)

def shd:List UInt8->List UInt8->Nat
  | x :: a,y :: b=>if x=y then shd a b+1 else 0
  | _,_=>0
theorem Zg8:∀ {a b:List UInt8},Op.bytesLess a b=true->shd a b<b.length
  | a,[],h=>by rw [Ve] at h; cases h
  | [],_ :: _,_=>by simp [shd]
  | x :: a,y :: b,h=>by
    unfold shd;rcases bl_cons_iff.1 h with h' | ⟨rfl,h'⟩
    · have:¬ x=y:=fun e=>by subst e; exact Bm _ h'
      simp [this]
    · have:=Zg8 h'
      simpa using this
theorem Zcg:∀ {a b:List UInt8} {n:Nat},n<=shd a b->Op.bytesLess a (b.take n)=false
  | a,b,0,_=>by rw [List.take_zero,Ve]
  | [],[],n+1,h=>by simp [shd] at h
  | [],_ :: _,n+1,h=>by simp [shd] at h
  | _ :: _,[],n+1,h=>by simp [shd] at h
  | x :: a,y :: b,n+1,h=>by
    unfold shd at h;split at h
    · rename_i e
      subst e;have:=Zcg (a:=a) (b:=b) (n:=n) (by omega);simp [Un,Bm,this]
    · omega
theorem Gl:∀ {a b},Op.bytesLess a b=true->Op.bytesLess a (b.take (shd a b+1))=true
  | a,[],h=>by rw [Ve] at h; cases h
  | [],_ :: _,_=>rfl
  | x :: a,y :: b,h=>by
    rcases bl_cons_iff.1 h with h' | ⟨rfl,h'⟩
    · simp [Un,h']
    · have:=Gl h'
      simp [shd,Un,this]
theorem Zdx:∀(b:List UInt8) (n:Nat),Op.bytesLess b (b.take n)=false
  | b,0=>by rw [List.take_zero,Ve]
  | [],n+1=>rfl
  | y :: b,n+1=>by simp [Un,Bm,Zdx b n]

theorem Bp {x} (h0:-9223372036854775808<=x) (h1:x<=9223372036854775807):w64 x=x:=by
  simp only [w64,IntKind.wrap,IntKind.signed,IntKind.bits];simp;omega
theorem B9 {i:Nat} (h:i<4611686018427387904):w64 ((i:Int)+1)=((i+1:Nat):Int):=by rw [Bp (by omega) (by omega)]; omega
theorem Zhn {i:Nat} (h:0<i) (h':i<4611686018427387904):w64 ((i:Int) - 1)=((i - 1:Nat):Int):=by rw [Bp (by omega) (by omega)]; omega
theorem Yu {α:Type} [Inhabited α] {l:List α} {i} (h:i<l.length):l.drop i=l.getD i default :: l.drop (i+1):=by
  rw [List.drop_eq_getElem_cons h]; simp [List.getD_eq_getElem?_getD,h]
theorem Zfv {l:List UInt8} {i:Nat} (h:i<l.length):l.drop i=l.getD i 0 :: l.drop (i+1):=by
  rw [List.drop_eq_getElem_cons h]; simp [List.getD_eq_getElem?_getD,h]
theorem Zv {α:Type} [Inhabited α] (l:List α) (i:Nat):gt l (i:Int)=l.getD i default:=by simp [gt]
theorem Zq5 (l m) (i j):gtb l i<gtb m j↔l.getD i.toNat 0<m.getD j.toNat 0:=by
  unfold gtb; rw [UInt8.lt_iff_toNat_lt]; omega
theorem Yw {α:Type} {l:List α} {i} {d:α} (h:i<l.length):l.getD i d∈l:=by
  rw [List.getD_eq_getElem?_getD,List.getElem?_eq_getElem h];exact List.getElem_mem h
def Gm:List (List UInt8)->Bool
  | a :: b :: r=>Op.bytesLess a b && Gm (b :: r)
  | _=>true
end Go.SK

namespace Go.SK
open Go

def Ev {α:Type} (F:Nat->Option α) (r:α):Prop:=∃ k0,∀ k,k0<=k->F k=some r
section
variable {α β γ δ:Type} {F:Nat->Option α} {G:Nat->Option β} {G2:Nat->Option γ} {G3:Nat->Option δ} {r:α} {s:β} {t:γ} {u:δ}
theorem Ev.of {K} (h:∀ k,K<k->F k=some r):Ev F r:=⟨K+1,fun k hk=>h k (by omega)⟩
theorem Ev.all (h:∀ k,F k=some r):Ev F r:=⟨0,fun k _=>h k⟩
theorem Ev.ok (h:Ev F r):∃ k,F k=some r:=by obtain ⟨k,h⟩:=h; exact ⟨k,h k (Nat.le_refl _)⟩
theorem Ev.step (h:Ev G s) (hs:∀ k,G k=some s->F (k+1)=some r):Ev F r:=by
  obtain ⟨k0,h⟩:=h;refine ⟨k0+1,fun k hk=>?_⟩;obtain ⟨j,rfl⟩:∃ j,k=j+1:=⟨k - 1,by omega⟩;exact hs j (h j (by omega))
theorem Ev.step2 (h:Ev G s) (h2:Ev G2 t) (hs:∀ k,G k=some s->G2 k=some t->F (k+1)=some r):Ev F r:=by
  obtain ⟨k0,h⟩:=h;obtain ⟨k1,h2⟩:=h2;refine ⟨k0+k1+1,fun k hk=>?_⟩;obtain ⟨j,rfl⟩:∃ j,k=j+1:=⟨k - 1,by omega⟩;exact hs j (h j (by omega)) (h2 j (by omega))
theorem Ev.last (hs:∀ k,F (k+1)=some r):Ev F r:=by
  refine ⟨1,fun k hk=>?_⟩;obtain ⟨j,rfl⟩:∃ j,k=j+1:=⟨k - 1,by omega⟩;exact hs j
theorem Ev.next (h:Ev G s) (hs:∀ k,G k=some s->F k=some r):Ev F r:=by
  obtain ⟨k0,h⟩:=h;exact ⟨k0,fun k hk=>hs k (h k hk)⟩
theorem Ev.next2 (h:Ev G s) (h2:Ev G2 t) (hs:∀ k,G k=some s->G2 k=some t->F k=some r):Ev F r:=by
  obtain ⟨k0,h⟩:=h;obtain ⟨k1,h2⟩:=h2;exact ⟨k0+k1,fun k hk=>hs k (h k (by omega)) (h2 k (by omega))⟩
theorem Ev.bind {H:β->Nat->Option α} (h:Ev G s) (h2:Ev (H s) r):Ev (fun k=>(G k).bind fun x=>H x k) r:=
  Ev.next2 h h2 fun k e1 e2=>by rw [e1,Option.bind_some,e2]
end

section
variable {α:Type} [Inhabited α]
theorem Znv {l:List α} {i} (h:i<l.length):l.take (i+1)=l.take i ++ [l.getD i default]:=by
  rw [List.take_add_one,List.getElem?_eq_getElem h,List.getD_eq_getElem?_getD,List.getElem?_eq_getElem h];rfl
end
section
variable {α:Type}
theorem Zlv {l:List α} {i h} {d:α} (hi:i<h):(l.take h).getD i d=l.getD i d:=by
  rw [List.getD_eq_getElem?_getD,List.getD_eq_getElem?_getD,List.getElem?_take_of_lt hi]
theorem Zln {l:List α} {i h} {d:α}:(l.drop h).getD i d=l.getD (h+i) d:=by
  rw [List.getD_eq_getElem?_getD,List.getD_eq_getElem?_getD,List.getElem?_drop]
theorem Y5 {l:List α} {i} {d:α} (h:i<l.length):l.getD i d=l[i]:=by
  rw [List.getD_eq_getElem?_getD,List.getElem?_eq_getElem h];rfl
theorem Ug {l:List α} {x:α} (h:x∈l) (d:α):∃ i,i<l.length/\l.getD i d=x:=by
  obtain ⟨i,hi,e⟩:=List.mem_iff_getElem.1 h;exact ⟨i,hi,by rw [Y5 hi,e]⟩
end

section
variable {α:Type} (key:α->List UInt8)
def J4:List α->Bool
  | a :: b :: r=>Op.bytesLess (key a) (key b) && J4 (b :: r)
  | _=>true
def LtK (a b:α):Prop:=Op.bytesLess (key a) (key b)=true
abbrev RiseK (l:List α):Prop:=l.Pairwise (LtK key)
theorem RiseK.get [Inhabited α] {l:List α} (h:RiseK key l) {i j} (hij:i<j) (hj:j<l.length) (d:α):Op.bytesLess (key (l.getD i d)) (key (l.getD j d))=true:=by
  have:=List.pairwise_iff_getElem.1 h i j (by omega) hj hij;rw [Y5 (by omega),Y5 hj];exact this
end
end Go.SK

namespace Go.SK
open Go Go.RowKit

section
variable {P:Program} {tt:TT} {env:Env} {S:World->Prop} {o:Oper} {w0 w:World} {F0:Ft} {Hs Rs:List Ch}
theorem St.openRow {e} {ty} (hsc:ty.scal=true) {xs:List ty.D} {A} {n c} (k) (hS:St w0 F0 Hs Rs w) (hk:nth Hs k=some (Yg e ty xs (.slice A n c))) :
    (A=none/\xs=[]/\c=0)\/∃ b sp,A=some ⟨b,0,none⟩/\xs.length<=c/\c<=maxLen/\sp.length=(c - xs.length)*ty.n/\St w0 F0 (Yx b e (xs.flatMap ty.enc ++ sp) :: Hs.eraseIdx k) Rs w:=by
  obtain ⟨F,⟨inner,F',hown,hel,hF'1,hF'2⟩,hlt,hs⟩:=hS.turn hk;have hin:=Vj hsc hel;subst hin;rcases hown.2 with ⟨hv,hz⟩ | ⟨g,cap,cur,hv,hb,hg,hnc,hcm,hcs,htk⟩
  · simp only [Value.slice.injEq] at hv
    obtain ⟨rfl,_,rfl⟩:=hv;exact .inl ⟨rfl,List.eq_nil_of_length_eq_zero hz,rfl⟩
  · simp only [Value.slice.injEq] at hv
    obtain ⟨rfl,rfl,rfl⟩:=hv;refine .inr ⟨g,cur.toList.drop (xs.length*ty.n),rfl,hnc,hcm,?_,hs w _ F (Chg.refl _ _) ⟨(hF'2 g rfl).1,?_⟩ fun b hb=>⟨.inl hb,hlt b hb⟩⟩
    · rw [List.length_drop,Array.length_toList,hcs,Nat.sub_mul]
    · rw [hg,<- htk,List.take_append_drop]
theorem St.closeRow {e b} {ty} (hsc:ty.scal=true) {ys:List ty.D} {L} {c} (k) (hS:St w0 F0 Hs Rs w) (hk:nth Hs k=some (Yx b e L)) (hle:ys.length<=c) (hcm:c<=maxLen) (hL:L.length=c*ty.n) (ht:L.take (ys.length*ty.n)=ys.flatMap ty.enc) :
    St w0 F0 (Yg e ty ys (.slice (some ⟨b,0,none⟩) ys.length c) :: Hs.eraseIdx k) Rs w:=by
  obtain ⟨F,⟨hFb,hh⟩,hlt,hs⟩:=hS.turn hk;refine hs w _ F (Chg.refl _ _) ⟨ys.flatMap ty.enc,fun _=>False,?_,Elems.scal hsc _ _ _,fun b hb=>hb.elim,?_⟩ fun b hb=>⟨.inl hb,hlt b hb⟩
  · exact ⟨Y4 hsc ys,.inr ⟨b,c,L.toArray,rfl,Nat.zero_le _,hh,hle,hcm,by simpa using hL,by simpa using ht⟩⟩
  · intro g hg
    simp only [Value.ownBlock,Option.some.injEq] at hg;subst hg;exact ⟨hFb,fun h=>h⟩
theorem G6 {ty:Ty} (hsc:ty.scal=true) (xs:List ty.D) (i:Nat):(xs.flatMap ty.enc).take (i*ty.n)=(xs.take i).flatMap ty.enc:=by
  rcases Nat.lt_or_ge xs.length i with h | h
  · rw [List.take_of_length_le (by rw [Y4 hsc]; exact Nat.mul_le_mul_right _ (by omega)),List.take_of_length_le (by omega)]
  · have e:xs.flatMap ty.enc=(xs.take i).flatMap ty.enc ++ (xs.drop i).flatMap ty.enc:=by rw [<- List.flatMap_append,List.take_append_drop]
    have l:((xs.take i).flatMap ty.enc).length=i*ty.n:=by rw [Y4 hsc,List.length_take,Nat.min_eq_left h]
    rw [e,<- l,List.take_left]
theorem Zfj {ty:Ty} (hsc:ty.scal=true) (xs:List ty.D) (i:Nat):(xs.flatMap ty.enc).drop (i*ty.n)=(xs.drop i).flatMap ty.enc:=by
  rcases Nat.lt_or_ge xs.length i with h | h
  · rw [List.drop_of_length_le (by rw [Y4 hsc]; exact Nat.mul_le_mul_right _ (by omega)),List.drop_of_length_le (by omega)]; rfl
  · have e:xs.flatMap ty.enc=(xs.take i).flatMap ty.enc ++ (xs.drop i).flatMap ty.enc:=by rw [<- List.flatMap_append,List.take_append_drop]
    have l:((xs.take i).flatMap ty.enc).length=i*ty.n:=by rw [Y4 hsc,List.length_take,Nat.min_eq_left h]
    rw [e,<- l,List.drop_left]
def Lies (w:World) (A:Option Addr) (cs:List Value):Prop:=cs=[]\/∃ b off,A=some ⟨b,off,none⟩/\∀ j u,cs[j]?=some u->w.cell? ⟨b,off+j,none⟩=some u
theorem Zjx {E} {ty} (hsc:ty.scal=true) {xs:List ty.D} {A} {n c} {F} (h:(rdC E ty xs (.slice A n c)).ok w F):n=xs.length/\Lies w A (xs.flatMap ty.enc)/\∀ b off,A=some ⟨b,off,none⟩->xs≠[]->F b:=by
  obtain ⟨A',c',he,hle,hr⟩:=h;simp only [List.cons.injEq,and_true,Value.slice.injEq] at he;obtain ⟨rfl,rfl,rfl⟩:=he;refine ⟨rfl,?_,?_⟩
  · rcases hr with rfl | ⟨b,off,inn,rfl,hb,he,hc⟩
    · exact .inl rfl
    · rw [Vj hsc he] at hc
      exact .inr ⟨b,off,rfl,hc⟩
  · rintro b off rfl hne
    rcases hr with rfl | ⟨b',off',inn,he,hb,_⟩
    · exact absurd rfl hne
    · simp only [Option.some.injEq,Addr.mk.injEq,and_true] at he
      rw [he.1]; exact hb
theorem Lies.take {A} {cs} (h:Lies w A cs) (m):Lies w A (cs.take m):=by
  rcases h with rfl | ⟨b,off,e,h⟩
  · exact .inl (by simp)
  · refine .inr ⟨b,off,e,fun j u hj=>h j u ?_⟩
    rw [List.getElem?_take] at hj;split at hj
    · exact hj
    · cases hj
theorem Zf8 {A} {cs} (h:Lies w A cs) {size m n c} (hl:cs.length=m*size):(Builtin.firstCells size m (.slice A n c)).run P w=.ok cs.toArray w:=by
  rcases h with rfl | ⟨b,off,rfl,h⟩
  · have hz:m*size=0:=by simpa using hl.symm
    cases A with
    | none=>simp [Builtin.firstCells]
    | some ad=>simp [Builtin.firstCells,hz,loadCells,loadCellsFrom]
  · exact run_firstCells_some (P:=P) w size m ⟨b,off,none⟩ n c cs hl (fun j u hj=>by rw [Xz]; exact h j u hj)
theorem Zk0 (hT:Yq P tt) {d s e b o1 n1 c1 n2 c2:Nat} {xa ya:Operand} {z1 z2:Nat} {z:Value} {ie:TI} {B:Option Addr} {cells cs:List Value} (k:Nat) (ho:o.op=.call { callee:=.builtin .copy,args:=#[xa,ya],argTypes:=#[d,s] })
    (hS:St w0 F0 Hs Rs w) (hk:nth Hs k=some (Yx b e cells)) (hx:Zl env xa=some (.slice (some ⟨b,o1,none⟩) n1 c1)) (hy:Zl env ya=some (.slice B n2 c2))
    (ht:find tt d=some ⟨.slice e,z1,z2,z⟩) (hi:find tt e=some ie) (hl:cs.length=min n2 n1*ie.size) (hle:o1+cs.length<=cells.length) (hsrc:Lies w B cs) (h1:∀ u∈cs,u.oneCell'=true) :
    OpT P o env w (fun _ w'=>St w0 F0 (Yx b e (Z0 o1 cs cells) :: Hs.eraseIdx k) Rs w'):=
  OpT.value fun n a hf=>by
    have hkk:=(hT _ _ ht).kind;simp only [TK.ok] at hkk;obtain ⟨i0,hi0,hs0,hb0,hz0⟩:=(hT _ _ hi).info';obtain ⟨F,⟨hFb,hh⟩,hlt,hs⟩:=hS.turn hk;have hst:=run_storeCells_at P b o1 e cs 0 cells.toArray w hh (by simp; omega) h1;have hlist:cells.toArray.toList.take (o1+0) ++ cs ++ cells.toArray.toList.drop (o1+0+cs.length)=Z0 o1 cs cells:=by simp [Z0]
    rw [hlist] at hst;have hfc:(Builtin.firstCells ie.size (Nat.min n2 n1) (.slice B n2 c2)).run P w=.ok cs.toArray w:=Zf8 hsrc hl;refine ⟨goInt (Nat.min n2 n1),w.setRow b (Z0 o1 cs cells).toArray,?_,?_⟩
    · simp [execOp,ho,resolve,invoke,builtin,hf.eval hx,hf.eval hy,Builtin.copy_,Zw w hkk,Builtin.lenOf,sizeOf,typeInfo,hi0,hs0,hfc,hst]
    · exact hs _ (Yx b e (Z0 o1 cs cells)) F (W1 w b _ hFb) ⟨hFb,setRow_heap w b _ _ _ _ hh⟩ (fun c hc=>⟨.inl hc,by simpa using hlt c hc⟩)
theorem Zip (hT:Yq P tt) {d e b o1 n1 c1:Nat} {xa:Operand} {z1 z2:Nat} {z:Value} {ie:TI} {ty:Ty} (hsc:ty.scal=true) {cells:List Value} (z0:ty.D) (k:Nat) (ho:o.op=.call { callee:=.builtin .clear,args:=#[xa],argTypes:=#[d] })
    (hS:St w0 F0 Hs Rs w) (hk:nth Hs k=some (Yx b e cells)) (hx:Zl env xa=some (.slice (some ⟨b,o1,none⟩) n1 c1))
    (ht:find tt d=some ⟨.slice e,z1,z2,z⟩) (hi:find tt e=some ie) (hz:ie.zero.cells.toList=ty.enc z0) (hn0:n1≠0) (hle:o1+n1*ty.n<=cells.length) :
    OpT P o env w (fun _ w'=>St w0 F0 (Yx b e (Z0 o1 ((List.replicate n1 z0).flatMap ty.enc) cells) :: Hs.eraseIdx k) Rs w'):=
  OpT.value fun n a hf=>by
    have hkk:=(hT _ _ ht).kind;simp only [TK.ok] at hkk;obtain ⟨i0,hi0,hs0,hb0,hz0⟩:=(hT _ _ hi).info';obtain ⟨F,⟨hFb,hh⟩,hlt,hs⟩:=hS.turn hk;have hzc:=Zaj hz n1;have hll:((List.replicate n1 z0).flatMap ty.enc).length=n1*ty.n:=by rw [Y4 hsc,List.length_replicate]
    have hst:=run_storeCells_at P b o1 e ((List.replicate n1 z0).flatMap ty.enc) 0 cells.toArray w hh (by rw [hll]; simp; omega) (B7 hsc _);have hlist:cells.toArray.toList.take (o1+0) ++ ((List.replicate n1 z0).flatMap ty.enc) ++ cells.toArray.toList.drop (o1+0+((List.replicate n1 z0).flatMap ty.enc).length)=Z0 o1 ((List.replicate n1 z0).flatMap ty.enc) cells:=by simp [Z0]
    rw [hlist,<- hzc] at hst;refine ⟨.tuple #[],w.setRow b (Z0 o1 ((List.replicate n1 z0).flatMap ty.enc) cells).toArray,?_,?_⟩
    · obtain ⟨m,rfl⟩:∃ m,n1=m+1:=⟨n1 - 1,by omega⟩
      simp [execOp,ho,resolve,invoke,builtin,hf.eval hx,Builtin.clear_,Zw w hkk,zeroValue,typeInfo,hi0,hz0,hst];rw [hzc]
    · exact hs _ (Yx b e (Z0 o1 ((List.replicate n1 z0).flatMap ty.enc) cells)) F (W1 w b _ hFb) ⟨hFb,setRow_heap w b _ _ _ _ hh⟩ (fun c hc=>⟨.inl hc,by simpa using hlt c hc⟩)
def Ov (P:Program) (f d:Nat):Prop:=∃ rs,∀ x y w,(callFunc f #[x,y]).run P w=(do pure (Next.value (<- Extern.SlicesOverlaps.overlaps #[d,d] rs #[x,y])):Sem Next).run P w
theorem Ov.of {f d : Nat} {fn : Func} {rs : Array TypeId} (hf : P.funcs[f]? = some fn) (hn : (fn.name == "runtime.NumGoroutine") = false) (hb : fn.body.isNone = true) (h1 : (Extern.findNext fn).isNone = true)
    (h2:Extern.find fn=some (Extern.SlicesOverlaps.overlaps #[d,d] rs)):Ov P f d:=⟨rs,fun x y w=>by
  have hn' : ¬ fn.name = "runtime.NumGoroutine" := by simpa using hn
  have hb':fn.body=none:=by simpa using hb
  have h1':Extern.findNext fn=none:=by simpa using h1
  simp [callFunc,hf,hn',hb',h1',h2]⟩
end
end Go.SK

namespace Go.SK
open Go

section
variable {α:Type} (key:α->List UInt8)
def Uv (l:List α) (k:List UInt8):Option α:=l.find? fun x=>decide (key x=k)
theorem Zct (k):Uv key [] k=none:=rfl
theorem Y2 (a:α) (l:List α) (k):Uv key (a :: l) k=if key a=k then some a else Uv key l k:=by
  unfold Uv;rw [List.find?_cons];by_cases h:key a=k <;> simp [h]
theorem G4 {l:List α} {k} (h:∀ b∈l,key b≠k):Uv key l k=none:=by
  unfold Uv;rw [List.find?_eq_none];intro x hx;simpa using h x hx
theorem Ze5 {a:α} {l:List α} (h:RiseK key (a :: l)):Uv key l (key a)=none:=
  G4 key fun b hb=>(W8 ((List.pairwise_cons.1 h).1 b hb)).symm
theorem Ze8:∀ {l l':List α},RiseK key l->RiseK key l'->(∀ k,Uv key l k=Uv key l' k)->l=l'
  | [],[],_,_,_=>rfl
  | [],b :: l',_,_,h=>by have:=h (key b); rw [Y2,if_pos rfl] at this; cases this
  | a :: l,[],_,_,h=>by have:=h (key a); rw [Y2,if_pos rfl] at this; cases this
  | a :: l,b :: l',h1,h2,h=>by
    have e:key a=key b:=by
      rcases Gc (key a) (key b) with q | q | q
      · have:=h (key a)
        rw [Y2,if_pos rfl,G4 key (l:=b :: l') (k:=key a)] at this
        · cases this
        · intro x hx
          rcases List.mem_cons.1 hx with rfl | hx
          · exact (W8 q).symm
          · exact (W8 (X5 q ((List.pairwise_cons.1 h2).1 x hx))).symm
      · exact q
      · have:=h (key b)
        rw [Y2 key b,if_pos rfl,G4 key (l:=a :: l) (k:=key b)] at this
        · cases this
        · intro x hx
          rcases List.mem_cons.1 hx with rfl | hx
          · exact (W8 q).symm
          · exact (W8 (X5 q ((List.pairwise_cons.1 h1).1 x hx))).symm
    have e2:a=b:=by
      have:=h (key a);rw [Y2,if_pos rfl,Y2,if_pos e.symm] at this;exact Option.some.inj this
    subst e2;refine congrArg (a :: ·) (Ze8 (List.pairwise_cons.1 h1).2 (List.pairwise_cons.1 h2).2 fun k=>?_);by_cases q:key a=k
    · subst q
      rw [Ze5 key h1,Ze5 key h2]
    · have:=h k
      rwa [Y2,if_neg q,Y2,if_neg q] at this
def Xl (m:α):List α->List α
  | []=>[m]
  | a :: r=>if Op.bytesLess (key m) (key a)=true then m :: a :: r else if key m=key a then m :: r else a :: Xl m r
theorem Zad {m x:α}:∀ {l:List α},x∈Xl key m l->x=m\/x∈l
  | [],h=>by simp [Xl] at h; exact .inl h
  | a :: r,h=>by
    unfold Xl at h;split at h
    · rcases List.mem_cons.1 h with h | h
      · exact .inl h
      · exact .inr h
    · split at h
      · rcases List.mem_cons.1 h with h | h
        · exact .inl h
        · exact .inr (List.mem_cons_of_mem _ h)
      · rcases List.mem_cons.1 h with h | h
        · exact .inr (by simp [h])
        · exact (Zad h).imp id (List.mem_cons_of_mem _)
theorem Ba (m:α):∀ l:List α,(Xl key m l).length<=l.length+1
  | []=>by simp [Xl]
  | a :: r=>by
    unfold Xl;have:=Ba m r;split
    · simp
    · split <;> simp <;> omega
theorem Js {m:α}:∀ {l:List α},RiseK key l->RiseK key (Xl key m l)
  | [],_=>by simp [Xl]
  | a :: r,h=>by
    obtain ⟨h1,h2⟩:=List.pairwise_cons.1 h;unfold Xl;split
    · rename_i q
      refine List.pairwise_cons.2 ⟨fun x hx=>?_,h⟩;rcases List.mem_cons.1 hx with rfl | hx
      · exact q
      · exact X5 q (h1 x hx)
    · rename_i q
      split
      · rename_i e
        refine List.pairwise_cons.2 ⟨fun x hx=>?_,h2⟩;have:=h1 x hx;unfold LtK at this ⊢
        rwa [e]
      · rename_i e
        refine List.pairwise_cons.2 ⟨fun x hx=>?_,Js h2⟩;rcases Zad key hx with rfl | hx
        · rcases Gc (key a) (key x) with t | t | t
          · exact t
          · exact absurd t.symm e
          · exact absurd t q
        · exact h1 x hx
theorem Zcs (m:α) (k):∀ l:List α,Uv key (Xl key m l) k=if key m=k then some m else Uv key l k
  | []=>by simp [Xl,Y2,Zct]
  | a :: r=>by
    unfold Xl;split
    · rw [Y2]
    · rename_i q
      split
      · rename_i e
        rw [Y2,Y2];by_cases t:key m=k
        · rw [if_pos t,if_pos t]
        · rw [if_neg t,if_neg t,if_neg (by rw [<- e]; exact t)]
      · rename_i e
        rw [Y2,Zcs m k r,Y2];by_cases t:key a=k
        · rw [if_pos t,if_neg (by rw [<- t]; exact e),if_pos t]
        · rw [if_neg t]
          by_cases u:key m=k
          · rw [if_pos u,if_pos u]
          · rw [if_neg u,if_neg u,if_neg t]
def Wo (k:List UInt8) (l:List α):List α:=l.filter fun x=>!decide (key x=k)
theorem Zfo {k} {l:List α} (h:RiseK key l):RiseK key (Wo key k l):=h.sublist List.filter_sublist
theorem Zhd (k0 k):∀ l:List α,Uv key (Wo key k0 l) k=if k0=k then none else Uv key l k
  | []=>by simp [Wo,Zct]
  | a :: r=>by
    have ih:=Zhd k0 k r;unfold Wo at ih ⊢;rw [List.filter_cons];by_cases e:key a=k0
    · rw [if_neg (by simp [e]),ih,Y2]
      by_cases t:k0=k
      · rw [if_pos t,if_pos t]
      · rw [if_neg t,if_neg t,if_neg (by rw [e]; exact t)]
    · rw [if_pos (by simp [e]),Y2,ih,Y2]
      by_cases t:key a=k
      · rw [if_pos t,if_pos t,if_neg (by rw [<- t]; exact fun h=>e h.symm)]
      · rw [if_neg t,if_neg t]
def AtK [Inhabited α] (l:List α) (x:List UInt8) (c:Nat):Prop:=c<=l.length/\(∀ j,j<c->Op.bytesLess (key (l.getD j default)) x=true)/\∀ j,c<=j->j<l.length->Op.bytesLess (key (l.getD j default)) x=false
section
variable {key} [Inhabited α]
theorem AtK.zero {a:α} {r:List α} {x} (h:AtK key (a :: r) x 0):Op.bytesLess (key a) x=false:=h.2.2 0 (Nat.le_refl _) (by simp)
theorem AtK.succ {a:α} {r:List α} {x} {c} (h:AtK key (a :: r) x (c+1)):Op.bytesLess (key a) x=true/\AtK key r x c:=by
  obtain ⟨h1,h2,h3⟩:=h;refine ⟨h2 0 (by omega),by simpa using h1,fun j hj=>?_,fun j hj hl=>?_⟩
  · have:=h2 (j+1) (by omega); simpa using this
  · have:=h3 (j+1) (by omega) (by simpa using hl); simpa using this
theorem AtK.find {x}:∀ {l:List α} {c},RiseK key l->AtK key l x c->Uv key l x=if c<l.length/\key (l.getD c default)=x then some (l.getD c default) else none
  | [],c,_,h=>by simp [Zct]
  | a :: r,0,hr,h=>by
    have q:=h.zero;rw [Y2];by_cases e:key a=x
    · rw [if_pos e,if_pos ⟨by simp,by simpa using e⟩]; rfl
    · rw [if_neg e,if_neg (fun t=>e (by simpa using t.2))]
      refine G4 key fun b hb=>?_;have:=(List.pairwise_cons.1 hr).1 b hb;rcases Zaa q with t | t
      · exact absurd t e
      · exact (W8 (X5 t this)).symm
  | a :: r,c+1,hr,h=>by
    obtain ⟨q,h'⟩:=h.succ;rw [Y2,if_neg (W8 q),AtK.find (List.pairwise_cons.1 hr).2 h'];simp
theorem AtK.put {m:α}:∀ {l:List α} {c},RiseK key l->AtK key l (key m) c->Xl key m l=if c<l.length/\key (l.getD c default)=key m then l.set c m else l.take c ++ m :: l.drop c
  | [],c,_,h=>by
    have:c=0:=by have:=h.1; simpa using this
    subst this;simp [Xl]
  | a :: r,0,hr,h=>by
    have q:=h.zero;unfold Xl;by_cases e:key m=key a
    · rw [if_neg (by rw [e,Vs]; simp),if_pos e,if_pos ⟨by simp,by simpa using e.symm⟩]; rfl
    · have:Op.bytesLess (key m) (key a)=true:=(Zaa q).resolve_left fun t=>e t.symm
      rw [if_pos this,if_neg (fun t=>e (by simpa using t.2.symm))];rfl
  | a :: r,c+1,hr,h=>by
    obtain ⟨q,h'⟩:=h.succ;unfold Xl;rw [if_neg (by rw [Wl q]; simp),if_neg (W8 q).symm,AtK.put (List.pairwise_cons.1 hr).2 h'];by_cases e:c<r.length/\key (r.getD c default)=key m
    · rw [if_pos e,if_pos ⟨by simp; omega,by simpa using e.2⟩]; rfl
    · rw [if_neg e,if_neg (fun t=>e ⟨by simpa using t.1,by simpa using t.2⟩)]; rfl
theorem AtK.cut {x}:∀ {l:List α} {c},RiseK key l->AtK key l x c->Wo key x l=if c<l.length/\key (l.getD c default)=x then l.take c ++ l.drop (c+1) else l
  | [],c,_,h=>by simp [Wo]
  | a :: r,0,hr,h=>by
    have q:=h.zero;have hgt:∀ b∈r,key b≠x:=fun b hb=>by
      have:=(List.pairwise_cons.1 hr).1 b hb;rcases Zaa q with t | t
      · rw [<- t]; exact (W8 this).symm
      · exact (W8 (X5 t this)).symm
    have hr':r.filter (fun y=>!decide (key y=x))=r:=List.filter_eq_self.2 fun b hb=>by simpa using hgt b hb
    unfold Wo;rw [List.filter_cons,hr'];by_cases e:key a=x
    · rw [if_neg (by simp [e]),if_pos ⟨by simp,by simpa using e⟩]; rfl
    · rw [if_pos (by simp [e]),if_neg (fun t=>e (by simpa using t.2))]
  | a :: r,c+1,hr,h=>by
    obtain ⟨q,h'⟩:=h.succ;have ih:=AtK.cut (List.pairwise_cons.1 hr).2 h';unfold Wo at ih ⊢;rw [List.filter_cons,if_pos (by simp [W8 q]),ih];by_cases e:c<r.length/\key (r.getD c default)=x
    · rw [if_pos e,if_pos ⟨by simp; omega,by simpa using e.2⟩]; rfl
    · rw [if_neg e,if_neg (fun t=>e ⟨by simpa using t.1,by simpa using t.2⟩)]
end
def Zib:Nat->List α->List α->List α
  | 0,_,_=>[]
  | _+1,[],o=>o
  | _+1,n,[]=>n
  | f+1,a :: n,b :: o=>if Op.bytesLess (key a) (key b)=true then a :: Zib f n (b :: o) else if key a=key b then a :: Zib f n o else b :: Zib f (a :: n) o
section
variable [Inhabited α]
theorem Zk8 {l:List α} {i} (h:i+1<l.length):J4 key (l.drop i)=(Op.bytesLess (key (l.getD i default)) (key (l.getD (i+1) default)) && J4 key (l.drop (i+1))):=by
  rw [Yu (show i<l.length by omega),Yu h];rfl
theorem Zle {l:List α} {i} (h:l.length<=i+1):J4 key (l.drop i)=true:=by
  by_cases h':i<l.length
  · rw [Yu h',List.drop_eq_nil_of_le (by omega)]
    rfl
  · rw [List.drop_eq_nil_of_le (by omega)]
    rfl
theorem Znk (a b):decide (0<=Xm a b)=!Op.bytesLess a b:=by
  rcases Zfb a b with ⟨e,h⟩ | ⟨e,rfl⟩ | ⟨e,h⟩
  · simp [e,h]
  · simp [e,Vs]
  · simp [e,Wl h]
theorem Bh {F:Nat->Int->Option Bool} {l:List α} (hl:l.length<=1000000000000000)
    (hF:∀ k i,F (k+1) i=if (decide (i<(w64 ((l.length:Int) - 1))))=true then (if 0<=i/\i<(l.length:Int) then (if 0<=(w64 (i+1))/\(w64 (i+1))<(l.length:Int) then ((some (Xm (key (gt l i)) (key (gt l (w64 (i+1)))))).bind fun r1=>(if (decide (0<=r1))=true then (some false) else (F k (w64 (i+1))))) else none) else none) else (some true)) :
    ∀(k i:Nat),i<=l.length->l.length - i<k->F k (i:Int)=some (J4 key (l.drop i))
  | 0,i,_,h=>by omega
  | k+1,i,hi,hk=>by
    rw [hF,Bp (x:=(l.length:Int) - 1) (by omega) (by omega)];by_cases h:i+1<l.length
    · rw [if_pos (decide_eq_true (by omega)),B9 (by omega),if_pos (by omega),if_pos (by omega),Zv,Zv,Option.bind_some,Znk,Bh hl hF k (i+1) (by omega) (by omega),Zk8 key h]
      cases Op.bytesLess (key (l.getD i default)) (key (l.getD (i+1) default)) <;> rfl
    · rw [if_neg (by simp only [decide_eq_true_eq]; omega),Zle key (by omega)]
theorem G5 [DecidableEq α] {F:Nat->Int->Option Bool} {a b:List α} {eqb:α->α->Bool} (he:∀ x y,eqb x y=decide (x=y)) (hab:a.length=b.length) (ha:a.length<=1000000)
    (hF:∀ k i,F (k+1) i=if (decide (i<(a.length:Int)))=true then (if 0<=i/\i<(a.length:Int) then (if 0<=i/\i<(b.length:Int) then (if (!(eqb (gt a i) (gt b i)))=true then (some false) else (F k (w64 (i+1)))) else none) else none) else (some true)) :
    ∀(k i:Nat),i<=a.length->a.length - i<k->F k (i:Int)=some (decide (a.drop i=b.drop i))
  | 0,i,_,h=>by omega
  | k+1,i,hi,hk=>by
    rw [hF];by_cases h:i<a.length
    · have g1:(0:Int)<=(i:Int)/\(i:Int)<(a.length:Int):=by omega
      have g2:(0:Int)<=(i:Int)/\(i:Int)<(b.length:Int):=by omega
      rw [if_pos (decide_eq_true g1.2),if_pos g1,if_pos g2,he,B9 (by omega),G5 he hab ha hF k (i+1) (by omega) (by omega),Yu h,Yu (show i<b.length by omega),Zv,Zv];generalize a.getD i default=x;generalize b.getD i default=y;by_cases e:x=y
      · simp [e]
      · simp [e]
    · rw [if_neg (by simp; omega),List.drop_eq_nil_of_le (by omega),List.drop_eq_nil_of_le (by omega)]
      rfl
end
end
end Go.SK

namespace Go.SK
open Go Go.RowKit

def Zdu (P:Program) (fn:Func) (K:Value->World->Prop):Xg
  | .ret,env,w | .normal,env,w=>∃ v,(∀ n a,Fr n env a->(results fn a.tmps).run P w=.ok v w)/\K v w
  | _,_,_=>False
section
variable {P:Program} {tt:TT} {env:Env} {o:Oper} {w0 w:World} {F0:Ft} {Hs Rs:List Ch}
theorem Zfl {f:Nat} {fn:Func} {c:Code} {xs:Array Operand} {ts:Array TypeId} {fx:Operand} {vs:List Value} {K:Value->World->Prop}
    (ho:o.op=.call { callee:=.value fx,args:=xs,argTypes:=ts }) (hfx:Zl env fx=some (.func (.func f) #[] #[])) (hv:Yt env xs.toList=some vs)
    (hf : P.funcs[f]? = some fn) (hb : fn.body = some c) (hn : (fn.name == "runtime.NumGoroutine") = false) (hs : Nat.ble vs.length fn.ntmps = true)
    (hj:J P fn.ntmps c (Zdu P fn K) (Ww 0 vs) w):OpT P o env w K:=by
  intro n a next Q hfr hk
  have hm:xs.map a.eval=vs.toArray:=Wy hfr hv;have hrun:(execOp a.eval o).run P w=.ok (.enter f vs.toArray) w:=by
    have:=Ut (P:=P) (f:=f) ⟨fn,hf,hn,by simp [hb]⟩ vs.toArray w;simp [execOp,ho,resolve,hfr.eval hfx,Deferred.ofValue,invoke,hm,this]
  have hcall:Calls P f vs.toArray w fun e w'=>∃ v,e=.returned v/\K v w':=by
    refine calls_of_wp hf hb ?_;have hsz:vs.length<=fn.ntmps:=Nat.le_of_ble_eq_true hs;refine hj.go _ _ ⟨by simp; omega,rfl,fun t v hl=>?_⟩ fun e env a w' hfr hp=>?_
    · obtain ⟨_,hv⟩:=Uz vs 0 t v hl
      simp only [Nat.sub_zero] at hv;have hlt:t<vs.length:=(List.getElem?_eq_some_iff.1 hv).1;simpa [Array.getElem?_append,hlt] using hv
    · cases e <;> simp only [Zdu] at hp <;> first
        | exact hp.elim
        | (obtain ⟨v,hres,hK⟩:=hp
           exact ⟨hfr.defers,v,hres _ _ hfr,v,rfl,hK⟩)
  unfold Oper.wp;rw [hrun];refine hcall.mono ?_;rintro e w' ⟨v,rfl,hK⟩;exact hk v w' hK
theorem RJ.inline {n:Nat} {ops l:List Oper} {K:Env->World->Prop} {f:Nat} {fn:Func} {c:Code} {xs:Array Operand} {ts:Array TypeId} {fx:Operand} {vs:List Value} (hw:Ye ops env o=some true) (hd:Xs n o.dst=true)
    (ho:o.op=.call { callee:=.value fx,args:=xs,argTypes:=ts }) (hfx:Zl env fx=some (.func (.func f) #[] #[])) (hv:Yt env xs.toList=some vs)
    (hf : P.funcs[f]? = some fn) (hb : fn.body = some c) (hn : (fn.name == "runtime.NumGoroutine") = false) (hs : Nat.ble vs.length fn.ntmps = true)
    (hj:J P fn.ntmps c (Zdu P fn (fun v w'=>RJ P n ops l K (Xe o.dst v env) w')) (Ww 0 vs) w):RJ P n ops (o :: l) K env w:=
  RJ.op hw hd (Zfl ho hfx hv hf hb hn hs hj) fun _ _ h=>h
theorem HJ.inline {n:Nat} {ops:List Oper} {S:World->Prop} {done:List Nat} {K:Env->World->Prop} {i f:Nat} {fn:Func} {c:Code} {xs:Array Operand} {ts:Array TypeId} {fx:Operand} {vs:List Value}
    (hs:X0 ops=true) (hi:nth ops i=some o) (hr:J1 ops done i o=true) (hw:Ye ops env o=some true) (hd:Xs n o.dst=true)
    (ho:o.op=.call { callee:=.value fx,args:=xs,argTypes:=ts }) (hfx:Zl env fx=some (.func (.func f) #[] #[])) (hv:Yt env xs.toList=some vs)
    (hf : P.funcs[f]? = some fn) (hb : fn.body = some c) (hn : (fn.name == "runtime.NumGoroutine") = false) (hsz : Nat.ble vs.length fn.ntmps = true)
    (hj:J P fn.ntmps c (Zdu P fn (fun v w'=>S w'/\HJ P n ops S K (i :: done) (Xe o.dst v env) w')) (Ww 0 vs) w):HJ P n ops S K done env w:=
  HJ.op hs hi hr hw hd (Zfl ho hfx hv hf hb hn hsz hj) fun _ _ h=>h
theorem St.retell {Hs'} (h:St w0 F0 Hs Rs w) (e:Hs'=Hs):St w0 F0 Hs' Rs w:=e ▸ h

def patch {α:Type} (xs:List α) (l m:Nat) (ys:List α):List α:=xs.take l ++ ys.take m ++ xs.drop (l+min m ys.length)
theorem X6 {α:Type} {xs ys:List α} {l m} (h:l+m<=xs.length):(patch xs l m ys).length=xs.length:=by
  simp only [patch,List.length_append,List.length_take,List.length_drop];omega
theorem Zce (hT:Yq P tt) {d s e l m c c2 n2 c3:Nat} {sz:Nat} {xa ya:Operand} {z1 z2:Nat} {z:Value} {ie:TI} {ty:Ty} (hsc:ty.scal=true) {xs ys:List ty.D} {A B:Option Addr} (k:Nat)
    (ho:o.op=.call { callee:=.builtin .copy,args:=#[xa,ya],argTypes:=#[d,s] }) (hS:St w0 F0 Hs Rs w) (hk:nth Hs k=some (Yg e ty xs (.slice A xs.length c))) (hg:Gives (Hs.eraseIdx k ++ Rs) (rdC e ty ys (.slice B n2 c3)))
    (hx:Zl env xa=some (.slice (Vn A c l sz) m c2)) (hy:Zl env ya=some (.slice B n2 c3)) (ht:find tt d=some ⟨.slice e,z1,z2,z⟩) (hi:find tt e=some ie) (hn:ty.n=sz) (hsz:ie.size=sz) (hle:l+m<=xs.length) :
    OpT P o env w (fun v w'=>v=.int .i64 ((min m ys.length:Nat):Int)/\St w0 F0 (Yg e ty (patch xs l m ys) (.slice A (patch xs l m ys).length c) :: Hs.eraseIdx k) Rs w'):=by
  have hpl:=X6 (ys:=ys) hle;have hpk:pick [k] Hs=some ([Yg e ty xs (.slice A xs.length c)],Hs.eraseIdx k):=by simp [pick,hk]
  obtain ⟨F,hF,hlt,hgv,hst⟩:=hS.step hpk;obtain ⟨R,hR,hRb⟩:=hgv _ hg;obtain ⟨rfl,hl,hRB⟩:=Zjx hsc hR;have hkk:=(hT _ _ ht).kind;simp only [TK.ok] at hkk;obtain ⟨i0,hi0,hs0,hb0,hz0⟩:=(hT _ _ hi).info';have hly:(ys.flatMap ty.enc).length=ys.length*ty.n:=Y4 hsc ys;have hfc:(Builtin.firstCells ie.size (min ys.length m) (.slice B ys.length c3)).run P w=.ok ((ys.take m).flatMap ty.enc).toArray w:=by
    refine Zf8 (cs:=(ys.take m).flatMap ty.enc) ?_ ?_
    · have:=hl.take (m*ty.n)
      rwa [G6 hsc] at this
    · rw [Y4 hsc,List.length_take,hsz,hn,Nat.min_comm]
  have hmin:(min m ys.length)=min ys.length m:=Nat.min_comm _ _;by_cases h0:m=0\/ys=[]
  · -- nothing is copied
    have hpe:patch xs l m ys=xs:=by
      rcases h0 with rfl | rfl <;> simp [patch]
    have he:ys.take m=[]:=by rcases h0 with rfl | rfl <;> simp
    refine OpT.value fun n a hf=>⟨.int .i64 ((min m ys.length:Nat):Int),w,?_,rfl,?_⟩
    · rw [he] at hfc
      have hst0:∀ ad:Addr,(storeCells ad ([]:List Value)).run P w=.ok () w:=fun ad=>by simp [storeCells]
      cases hq:Vn A c l sz with
      | none=>simp [execOp,ho,resolve,invoke,builtin,hf.eval hx,hf.eval hy,hq,Builtin.copy_,Zw w hkk,Builtin.lenOf,sizeOf,typeInfo,hi0,hs0,hfc,goInt,hmin]
      | some ad=>simp [execOp,ho,resolve,invoke,builtin,hf.eval hx,hf.eval hy,hq,Builtin.copy_,Zw w hkk,Builtin.lenOf,sizeOf,typeInfo,hi0,hs0,hfc,goInt,hst0,hmin]
    · rw [hpe]
      obtain ⟨_,_,_,hs'⟩:=hS.turn hk;have:=hS.only (ks:=[]) (ps:=[]) (rest:=Hs) rfl;obtain ⟨F1,h1,h2,h3⟩:=hS.turn hk;exact h3 w _ F1 (Chg.refl _ _) h1 fun b hb=>⟨.inl hb,h2 b hb⟩
  · have hm0:m≠0:=fun e=>h0 (.inl e)
    rcases hS.openRow hsc k hk with ⟨_,e,_⟩ | ⟨b,sp,rfl,hc,hcm,hsp,h1⟩
    · subst e; simp at hle; omega
    · have hcl:¬ c=l:=by omega
      have hxa:Zl env xa=some (.slice (some ⟨b,l*sz,none⟩) m c2):=by
        rw [hx];simp [Vn,hcl,Xz]
      have lX:=Y4 hsc xs;have lYm:((ys.take m).flatMap ty.enc).length=min ys.length m*sz:=by rw [Y4 hsc,List.length_take,hn,Nat.min_comm]
      have hmul:(l+m)*sz<=xs.length*sz:=Nat.mul_le_mul_right _ hle;have hmm:min ys.length m*sz<=m*sz:=Nat.mul_le_mul_right _ (Nat.min_le_right _ _);rw [Nat.add_mul] at hmul;rw [hn] at lX hly;have hop:=Zk0 (env:=env) (o:=o) hT (cs:=(ys.take m).flatMap ty.enc) 0 ho h1 rfl hxa hy ht hi (by rw [lYm,hsz]) (by rw [List.length_append,lX,lYm]; omega) (by have:=hl.take (m*ty.n); rwa [G6 hsc] at this) (B7 hsc _);intro n a next Q hf hk'
      have hval:∀ w',(∃ v,(execOp a.eval o).run P w=.ok (.value v) w')->True:=fun _ _=>trivial;refine (OpT.value (K:=fun v w'=>v=.int .i64 ((min m ys.length:Nat):Int)/\St w0 F0 (Yx b e (Z0 (l*sz) ((ys.take m).flatMap ty.enc) (xs.flatMap ty.enc ++ sp)) :: Hs.eraseIdx k) Rs w') fun n a hf=>?_) n a next Q hf fun v w' ⟨hv,h2⟩=>hk' v w' ⟨hv,?_⟩
      · obtain ⟨F2,⟨hFb,hh⟩,hlt2,hs2⟩:=h1.turn (k:=0) rfl
        have hst':=run_storeCells_at P b (l*sz) e ((ys.take m).flatMap ty.enc) 0 (xs.flatMap ty.enc ++ sp).toArray w hh (by rw [lYm]; simp only [List.size_toArray,List.length_append,lX]; omega) (B7 hsc _);have hlist:(xs.flatMap ty.enc ++ sp).toArray.toList.take (l*sz+0) ++ ((ys.take m).flatMap ty.enc) ++ (xs.flatMap ty.enc ++ sp).toArray.toList.drop (l*sz+0+((ys.take m).flatMap ty.enc).length)=Z0 (l*sz) ((ys.take m).flatMap ty.enc) (xs.flatMap ty.enc ++ sp):=by simp [Z0]
        rw [hlist] at hst';refine ⟨.int .i64 ((min m ys.length:Nat):Int),w.setRow b (Z0 (l*sz) ((ys.take m).flatMap ty.enc) (xs.flatMap ty.enc ++ sp)).toArray,?_,rfl,?_⟩
        · simp [execOp,ho,resolve,invoke,builtin,hf.eval hxa,hf.eval hy,Builtin.copy_,Zw w hkk,Builtin.lenOf,sizeOf,typeInfo,hi0,hs0,hfc,hst',goInt,hmin]
        · exact hs2 _ (Yx b e (Z0 (l*sz) ((ys.take m).flatMap ty.enc) (xs.flatMap ty.enc ++ sp))) F2 (W1 w b _ hFb) ⟨hFb,setRow_heap w b _ _ _ _ hh⟩ (fun c hc=>⟨.inl hc,by simpa using hlt2 c hc⟩)
      · have eP:(patch xs l m ys).flatMap ty.enc=(xs.flatMap ty.enc).take (l*sz) ++ (ys.take m).flatMap ty.enc ++ (xs.flatMap ty.enc).drop ((l+min m ys.length)*sz):=by
          unfold patch;rw [List.flatMap_append,List.flatMap_append,<- hn,G6 hsc,Zfj hsc]
        have lT:((xs.flatMap ty.enc).take (l*sz)).length=l*sz:=by rw [List.length_take]; omega
        have e1:Z0 (l*sz) ((ys.take m).flatMap ty.enc) (xs.flatMap ty.enc ++ sp)=(patch xs l m ys).flatMap ty.enc ++ sp:=by
          rw [eP,Z0,List.take_append_of_le_length (by omega),List.drop_append_of_le_length (by rw [lYm,lX]; omega),lYm,hmin,Nat.add_mul];simp only [List.append_assoc]
        rw [e1] at h2;have lP:((patch xs l m ys).flatMap ty.enc).length=xs.length*sz:=by rw [Y4 hsc,hpl,hn]
        exact h2.closeRow hsc 0 rfl (by rw [hpl]; exact hc) hcm (by rw [List.length_append,lP,hsp,hn,Nat.sub_mul]; have:=Nat.mul_le_mul_right sz hc; omega) (by rw [hpl,hn,<- lP,List.take_left])

def toS (xs:List Int):List UInt8:=xs.map fun n=>UInt8.ofNat n.toNat
def toB (s:List UInt8):List Int:=s.map fun b=>(b.toNat:Int)
theorem Zjs:∀ xs:List Int,xs.flatMap (Ty.enc (.int .u8))=xs.map (Value.int .u8)
  | []=>rfl
  | y :: ys=>by rw [List.flatMap_cons,Zjs ys]; rfl
theorem Zpn (hT:Yq P tt) {s d e:Nat} {x:Operand} {z1 z2 z3 z4 z5 z6:Nat} {z z' z'':Value} {xs:List Int} {A:Option Addr} {n c:Nat} {S:World->Prop} (hS:∀ w,S w->Wh w0 F0 Hs Rs w) (hg:Gives (Hs ++ Rs) (rdC e (.int .u8) xs (.slice A n c)))
    (ho:o.op=.convert s d x) (hs:find tt s=some ⟨.slice e,z1,z2,z⟩) (he:find tt e=some ⟨.int .u8,z5,z6,z''⟩) (hd:find tt d=some ⟨.str,z3,z4,z'⟩) (hx:Zl env x=some (.slice A n c)):QOp P o env S (.string ⟨⟨toS xs⟩⟩):=by
  intro n' a w hf hw;have k1:=(hT _ _ hs).kind;have k2:=(hT _ _ he).kind;have k3:=(hT _ _ hd).kind;simp only [TK.ok] at k1 k2 k3;obtain ⟨F,hR,_⟩:=(hS w hw).gives hg;obtain ⟨rfl,hl,_⟩:=Zjx (ty:=.int .u8) rfl hR;have main:(convert s d (.slice A xs.length c)).run P w=.ok (.string ⟨⟨toS xs⟩⟩) w:=by
    cases A with
    | none=>
      rcases hl with hl | ⟨b,off,e',_⟩
      · have hx0:xs=[]:=by
          cases xs with
          | nil=>rfl
          | cons y ys=>simp [Ty.enc] at hl
        subst hx0;exact run_convert_bytes_nil (P:=P) w s e k1 k2 0 c d k3
      · cases e'
    | some ad=>
      rcases hl with hl | ⟨b,off,e',hc⟩
      · have hx0:xs=[]:=by
          cases xs with
          | nil=>rfl
          | cons y ys=>simp [Ty.enc] at hl
        subst hx0;obtain ⟨b,off,sp⟩:=ad;rw [run_convert_bytes_string (P:=P) w s d e _ _ _ k1 k2 k3];simp only [Conv.bytesToString,loadCells,List.length_nil];simp [loadCellsFrom];rfl
      · simp only [Option.some.injEq] at e'
        subst e';have hcell:∀ i,i<xs.length->w.cell? ⟨b,off+i,none⟩=some (.int .u8 (xs.getD i 0)):=fun i hi=>by
          refine hc i _ ?_;have:=Zjs xs;rw [this];simp [hi]
        have:=run_convert_bytes_arg (P:=P) w s e k1 k2 b off xs.length c xs rfl hcell d k3;rw [this];rfl
  simp [execOp,ho,hf.eval hx,main]
end

def OptC {α:Type} (o:Option α) (K:α->Value->List Ch->Prop) (v:Value) (l:List Ch):Prop:=match o with | none=>v=.pointer none/\l=[] | some d=>K d v l
@[reducible] def Vo {α β:Type} (o:Option α) (x:β) (f:α->β):β:=match o with | none=>x | some d=>f d
theorem J7 {α β:Type} {o:Option α} {x:β} {f:α->β} {r:β} (h:o=none) (H:Vo o x f=r):x=r:=by subst h; exact H
theorem J6 {α β:Type} {o:Option α} {d:α} {x:β} {f:α->β} {r:β} (h:o=some d) (H:Vo o x f=r):f d=r:=by subst h; exact H
end Go.SK
namespace Go.SK
open Go Go.RowKit
theorem OptC.no {α:Type} {K:α->Value->List Ch->Prop}:OptC none K (.pointer none) []:=⟨rfl,rfl⟩
theorem OptC.yes {α:Type} {d:α} {K:α->Value->List Ch->Prop} {v} {l} (h:K d v l):OptC (some d) K v l:=h
theorem Zhs {P:Program} {tt:TT} {env:Env} {o:Oper} {w0 w:World} {F0:Ft} {Hs Rs:List Ch} (hT:Yq P tt) {d s e m c c2 n2 c3:Nat} {sz:Nat} {xa ya:Operand} {z1 z2:Nat} {z:Value} {ie:TI} {ty:Ty} (hsc:ty.scal=true) {xs ys:List ty.D} {A B:Option Addr} (k:Nat)
    (ho:o.op=.call { callee:=.builtin .copy,args:=#[xa,ya],argTypes:=#[d,s] }) (hS:St w0 F0 Hs Rs w) (hk:nth Hs k=some (Yg e ty xs (.slice A xs.length c))) (hg:Gives (Hs.eraseIdx k ++ Rs) (rdC e ty ys (.slice B n2 c3)))
    (hx:Zl env xa=some (.slice A m c2)) (hy:Zl env ya=some (.slice B n2 c3)) (ht:find tt d=some ⟨.slice e,z1,z2,z⟩) (hi:find tt e=some ie) (hn:ty.n=sz) (hsz:ie.size=sz) (hle:0+m<=xs.length) :
    OpT P o env w (fun v w'=>v=.int .i64 ((min m ys.length:Nat):Int)/\St w0 F0 (Yg e ty (patch xs 0 m ys) (.slice A (patch xs 0 m ys).length c) :: Hs.eraseIdx k) Rs w'):=
  Zce hT (l:=0) hsc k ho hS hk hg (by rw [Zbk]; exact hx) hy ht hi hn hsz hle
end Go.SK

namespace Go.SK
open Go

section
variable {P:Program} {tt:TT} {o:Oper} {env:Env}
theorem Zr0 {t yt:Nat} {k:IntKind} {x y:Operand} {a b:Int} {S:World->Prop} (ho:o.op=.binOp .quo t x y yt) (hx:Zl env x=some (.int k a)) (hy:Zl env y=some (.int k b)) (hb:0<b) :
    QOp P o env S (.int k (k.wrap (a.tdiv b))):=by
  intro n ac w hf _;have h0:¬ b=0:=by omega
  have hg:(eqGuard .quo t x y (.int k a) (.int k b)).run P w=.ok () w:=by simp [eqGuard]
  have hb:(binOp .quo t (.int k a) (.int k b)).run P w=.ok (.int k (k.wrap (a.tdiv b))) w:=by simp [binOp,Op.intDiv,h0]
  simp only [execOp,ho,hf.eval hx,hf.eval hy,Sem.run_bind,hg,hb,Result.andThen_ok,Sem.run_pure]
theorem Zrw {t yt:Nat} {k:IntKind} {x y:Operand} {a b:Int} {S:World->Prop} (ho:o.op=.binOp .rem t x y yt) (hx:Zl env x=some (.int k a)) (hy:Zl env y=some (.int k b)) (hb:0<b) :
    QOp P o env S (.int k (a.tmod b)):=by
  intro n ac w hf _;have h0:¬ b=0:=by omega
  have hg:(eqGuard .rem t x y (.int k a) (.int k b)).run P w=.ok () w:=by simp [eqGuard]
  have hb:(binOp .rem t (.int k a) (.int k b)).run P w=.ok (.int k (a.tmod b)) w:=by simp [binOp,Op.intDiv,h0]
  simp only [execOp,ho,hf.eval hx,hf.eval hy,Sem.run_bind,hg,hb,Result.andThen_ok,Sem.run_pure]
theorem Zkd {t yt:Nat} {k k':IntKind} {x y:Operand} {a b:Int} {S:World->Prop} (ho:o.op=.binOp .shl t x y yt) (hx:Zl env x=some (.int k a)) (hy:Zl env y=some (.int k' b)) (hb:0<=b) :
    QOp P o env S (.int k (k.wrap (a*2 ^ (min b.toNat k.bits)))):=by
  intro n ac w hf _;obtain ⟨m,rfl⟩:=Int.eq_ofNat_of_zero_le hb;have hg:(eqGuard .shl t x y (.int k a) (.int k' (m:Int))).run P w=.ok () w:=by simp [eqGuard]
  have hb:=J2 (P:=P) (op:=.shl) (k:=k) (k':=k') (x:=a) (y:=(m:Int)) (v:=.int k (k.wrap (a*2 ^ (min m k.bits)))) w t rfl;simp only [execOp,ho,hf.eval hx,hf.eval hy,Sem.run_bind,hg,hb,Result.andThen_ok,Sem.run_pure,Int.toNat_natCast]
theorem Zr8 {t yt:Nat} {k k':IntKind} {x y:Operand} {a b:Int} {S:World->Prop} (ho:o.op=.binOp .shr t x y yt) (hx:Zl env x=some (.int k a)) (hy:Zl env y=some (.int k' b)) (hb:0<=b) :
    QOp P o env S (.int k (a.fdiv (2 ^ (min b.toNat k.bits)))):=by
  intro n ac w hf _;obtain ⟨m,rfl⟩:=Int.eq_ofNat_of_zero_le hb;have hg:(eqGuard .shr t x y (.int k a) (.int k' (m:Int))).run P w=.ok () w:=by simp [eqGuard]
  have hb:=J2 (P:=P) (op:=.shr) (k:=k) (k':=k') (x:=a) (y:=(m:Int)) (v:=.int k (a.fdiv (2 ^ (min m k.bits)))) w t rfl;simp only [execOp,ho,hf.eval hx,hf.eval hy,Sem.run_bind,hg,hb,Result.andThen_ok,Sem.run_pure,Int.toNat_natCast]
end
section
variable {P:Program} {n:Nat} {env:Env} {w:World} {ops:List Oper} {K:Env->World->Prop} {done:List Nat}
theorem Zch {S S'} {Q:Exit->Act->World->Prop} {ops} (hs:∀ w,S' w->S w):∀(fuel) (listed) (a:Act) (w),wpAnyH P .any ops Q S' fuel listed a w->wpAnyH P .any ops Q S fuel listed a w
  | 0,_,_,_,h=>h
  | fuel+1,_,_,_,h=>⟨h.1,fun i hi=>wpOp_mono (fun a' w' h'=>⟨hs w' h'.1,Zch hs fuel _ a' w' h'.2⟩) (h.2 i hi)⟩
theorem HJ.weaker {S S'} (hs:∀ w,S' w->S w) (hw:S' w) (h:HJ P n ops S' K done env w):HJ P n ops S K done env w:=
  ⟨fun fuel _ a Q hf hQ hl=>Zch hs fuel _ a w (h.go fuel hw a Q hf hQ hl)⟩
theorem HJ.more {w0} {F0} {c} {Hs Rs} (hw:Wh w0 F0 (c :: Hs) Rs w) (h:HJ P n ops (Wh w0 F0 (c :: Hs) Rs) K done env w):HJ P n ops (Wh w0 F0 Hs Rs) K done env w:=
  HJ.weaker (fun w ⟨N,hN⟩=>⟨N ++ [c],by simpa using hN⟩) hw h
end
theorem J.narrow {P} {n} {c} {PQ:Xg} {env} {w} (E) (h:SK.keep (E.map (·.1)) env=E) (hj:J P n c PQ E w):J P n c PQ env w:=
  ⟨fun a Q hf hQ=>hj.go a Q (by rw [<- h]; exact hf.keep _) hQ⟩
theorem St.wht {w0 w} {F0} {Hs Rs} (h:St w0 F0 Hs Rs w):∀ x,x=w->Wh w0 F0 Hs Rs x:=fun x e=>by subst e; exact h.wh
end Go.SK

namespace Go.SK
open Go

def mrow (P:Program) (t:TypeId) (name:String):Option (FuncId×Bool):=
  match P.info? t with
  | none=>none
  | some i=>match i.methods.find? (·.name == name) with
    | none=>none
    | some m=>match m.path.toList,m.func with
      | [],some x=>some x
      | _,_=>none
section
variable {P:Program} {tt:TT} {env:Env} {o:Oper} {w0 w:World} {F0:Ft} {Hs Rs:List Ch}
theorem Znw {f} {xs} {ts:Array TypeId} {fx} {vs cs} {pre rd rest} {Post} (ks) (hsp:Spec P f (vs ++ cs) pre rd Post)
    (ho:o.op=.call { callee:=.value fx,args:=xs,argTypes:=ts }) (hfx:Zl env fx=some (.func (.func f) #[] cs.toArray)) (hv:Yt env xs.toList=some vs) (hS:St w0 F0 Hs Rs w) (hp:pick ks Hs=some (pre,rest))
    (hr:∀ c∈rd,Gives (rest ++ Rs) c):OpT P o env w (fun v w'=>∃ post,Post v post/\St w0 F0 (post ++ rest) Rs w'):=by
  intro n a next Q hf hk
  obtain ⟨F,hF,hlt,hg,hs⟩:=hS.step hp;have hm:xs.map a.eval=vs.toArray:=Wy hf hv;have hcall:=hsp.2 w F hF hlt (fun c hc=>hg c (hr c hc));have hrun:(execOp a.eval o).run P w=.ok (.enter f (vs ++ cs).toArray) w:=by
    have:=Ut hsp.1 (vs ++ cs).toArray w;have e:vs.toArray ++ cs.toArray=(vs ++ cs).toArray:=by simp
    rw [<- e] at this ⊢;simp only [execOp,ho,resolve,hf.eval hfx,Deferred.ofValue,invoke,hm,Sem.run_bind,Sem.run_pure,Result.andThen_ok];simpa using this
  unfold Oper.wp;rw [hrun];refine hcall.mono ?_;rintro e w' ⟨v,post,F',rfl,hP,hchg,hpost,hF'⟩;exact hk v w' ⟨post,hP,hs w' post F' hchg hpost hF'⟩
end
def conc:TK->Bool
  | .iface=>false
  | .other=>false
  | _=>true
end Go.SK
namespace Go.SK
open Go Go.RowKit
theorem Zgr {P} {tt} {env} {o} {w0 w} {F0} {Hs Rs} (hT:Yq P tt) {d e l m c c2} {sz} {xa} {z1 z2} {z} {ie} {ty} (hsc:ty.scal=true) {xs:List ty.D} {A} (z0:ty.D) (k)
    (ho:o.op=.call { callee:=.builtin .clear,args:=#[xa],argTypes:=#[d] }) (hS:St w0 F0 Hs Rs w) (hk:nth Hs k=some (Yg e ty xs (.slice A xs.length c)))
    (hx:Zl env xa=some (.slice (Vn A c l sz) m c2)) (ht:find tt d=some ⟨.slice e,z1,z2,z⟩) (hi:find tt e=some ie) (hz:ie.zero.cells.toList=ty.enc z0) (hn:ty.n=sz) (hle:l+m<=xs.length) :
    OpT P o env w (fun _ w'=>St w0 F0 (Yg e ty (patch xs l m (List.replicate m z0)) (.slice A (patch xs l m (List.replicate m z0)).length c) :: Hs.eraseIdx k) Rs w'):=by
  have hpl:=X6 (ys:=List.replicate m z0) hle;by_cases h0:m=0
  · subst h0
    have hpe:patch xs l 0 (List.replicate 0 z0)=xs:=by simp [patch]
    have hkk:=(hT _ _ ht).kind;simp only [TK.ok] at hkk;obtain ⟨i0,hi0,hs0,hb0,hz0⟩:=(hT _ _ hi).info';refine OpT.value fun n a hf=>⟨.tuple #[],w,?_,?_⟩
    · have hst0:∀ ad:Addr,(storeCells ad ([]:List Value)).run P w=.ok () w:=fun ad=>by simp [storeCells]
      cases hq:Vn A c l sz with
      | none=>simp [execOp,ho,resolve,invoke,builtin,hf.eval hx,hq,Builtin.clear_,Zw w hkk,zeroValue,typeInfo,hi0,hz0]
      | some ad=>simp [execOp,ho,resolve,invoke,builtin,hf.eval hx,hq,Builtin.clear_,Zw w hkk,zeroValue,typeInfo,hi0,hz0,hst0]
    · rw [hpe]
      obtain ⟨F1,h1,h2,h3⟩:=hS.turn hk;exact h3 w _ F1 (Chg.refl _ _) h1 fun b hb=>⟨.inl hb,h2 b hb⟩
  · rcases hS.openRow hsc k hk with ⟨_,e,_⟩ | ⟨b,sp,rfl,hc,hcm,hsp,h1⟩
    · subst e; simp at hle; omega
    · have hcl:¬ c=l:=by omega
      have hxa:Zl env xa=some (.slice (some ⟨b,l*sz,none⟩) m c2):=by
        rw [hx];simp [Vn,hcl,Xz]
      have lX:=Y4 hsc xs;have lR:((List.replicate m z0).flatMap ty.enc).length=m*sz:=by rw [Y4 hsc,List.length_replicate,hn]
      have hmul:(l+m)*sz<=xs.length*sz:=Nat.mul_le_mul_right _ hle;rw [Nat.add_mul] at hmul;rw [hn] at lX;have hop:=Zip (env:=env) (o:=o) hT hsc z0 0 ho h1 rfl hxa ht hi hz h0 (by rw [List.length_append,lX,hn]; omega);intro n a next Q hf hk'
      refine hop n a next Q hf fun v w' h2=>hk' v w' ?_
      have eP:(patch xs l m (List.replicate m z0)).flatMap ty.enc=(xs.flatMap ty.enc).take (l*sz) ++ (List.replicate m z0).flatMap ty.enc ++ (xs.flatMap ty.enc).drop ((l+m)*sz):=by
        unfold patch;rw [List.take_of_length_le (i:=m) (by simp),List.length_replicate,Nat.min_self,List.flatMap_append,List.flatMap_append,<- hn,G6 hsc,Zfj hsc]
      have lT:((xs.flatMap ty.enc).take (l*sz)).length=l*sz:=by rw [List.length_take]; omega
      have e1:Z0 (l*sz) ((List.replicate m z0).flatMap ty.enc) (xs.flatMap ty.enc ++ sp)=(patch xs l m (List.replicate m z0)).flatMap ty.enc ++ sp:=by
        rw [eP,Z0,List.take_append_of_le_length (by omega),List.drop_append_of_le_length (by rw [lR,lX]; omega),lR,Nat.add_mul];simp only [List.append_assoc]
      rw [e1] at h2;have lP:((patch xs l m (List.replicate m z0)).flatMap ty.enc).length=xs.length*sz:=by rw [Y4 hsc,hpl,hn]
      exact h2.closeRow hsc 0 rfl (by rw [hpl]; exact hc) hcm (by rw [List.length_append,lP,hsp,hn,Nat.sub_mul]; have:=Nat.mul_le_mul_right sz hc; omega) (by rw [hpl,hn,<- lP,List.take_left])
end Go.SK
