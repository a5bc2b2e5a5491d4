/- Part of the library of this claim: how code is stepped through. -/
import Derived.WalkKit
import Derived.OrdersHeld
import Derived.KernelRfl
set_option linter.unusedVariables false
set_option linter.unusedSimpArgs false
namespace Go.SK
open Go

abbrev Env:=List (Nat×Value)
def X2:Env→Nat→Option Value
 | [],_=>none
 | (t,v) :: r,u=>cond (Nat.beq t u) (some v) (X2 r u)
def Zq (env:Env):Operand→Option Value
 | .tmp t=>X2 env t
 | .const v=>some v
 | .global g=>some (.pointer (some ⟨g,0,none⟩))
 | .func f=>some (.func (.func f) #[] #[])
def Yv (env:Env):List Operand→Option (List Value)
 | []=>some []
 | x :: r=>match Zq env x,Yv env r with
  | some v,some vs=>some (v :: vs)
  | _,_=>none

structure Fr (n:Nat) (env:Env) (a:Act):Prop where
 size:a.tmps.size=n
 defers:a.defers=[]
 get:∀ t v,X2 env t=some v→a.tmps[t]?=some v

theorem Fr.eval {n:Nat} {env:Env} {a:Act} (h:Fr n env a) {x:Operand} {v:Value} (hv:Zq env x=some v):a.eval x=v:=by
 cases x with
 | tmp t=>have:=h.get t v hv; simp [Act.eval,this]
 | const u=>simpa [Zq,Act.eval] using hv
 | global g=>simpa [Zq,Act.eval] using hv
 | func f=>simpa [Zq,Act.eval] using hv

theorem Fr.evals {n:Nat} {env:Env} {a:Act} (h:Fr n env a):∀ {xs:List Operand} {vs:List Value},Yv env xs=some vs→xs.map a.eval=vs
 | [],vs,hv=>by simp [Yv] at hv; simp [hv]
 | x :: r,vs,hv=>by
  simp only [Yv] at hv
  split at hv
  ·rename_i v us h1 h2
   simp only [Option.some.injEq] at hv
   subst hv
   simp [h.eval h1,h.evals h2]
  ·cases hv

theorem Fr.put {n:Nat} {env:Env} {a:Act} (h:Fr n env a) {t:Nat} (v:Value) (ht:Nat.ble (t+1) n=true):Fr n ((t,v) :: env) (a.put (some t) v):=by
 have ht':t<a.tmps.size:=by rw [h.size]; exact Nat.le_of_ble_eq_true ht
 refine ⟨by simp [Act.put,h.size],h.defers,fun u x hx=>?_⟩
 simp only [X2] at hx
 cases hb:Nat.beq t u with
 | true=>
  rw [hb] at hx
  have e:t=u:=Nat.eq_of_beq_eq_true hb
  subst e
  simp only [cond_true,Option.some.injEq] at hx
  subst hx
  simp [Act.put,ht']
 | false=>
  rw [hb] at hx
  have e:t≠u:=Nat.ne_of_beq_eq_false hb
  simp only [cond_false] at hx
  simp [Act.put,Array.getElem?_setIfInBounds_ne e,h.get u x hx]

def Xu (d:Option Nat) (v:Value) (env:Env):Env:=match d with | some t=>(t,v) :: env | none=>env
def Xw (n:Nat) (d:Option Nat):Bool:=match d with | some t=>Nat.ble (t+1) n | none=>true
theorem Fr.putD {n:Nat} {env:Env} {a:Act} (h:Fr n env a) {d:Option Nat} (v:Value) (hd:Xw n d=true):Fr n (Xu d v env) (a.put d v):=by
 cases d with
 | none=>exact h
 | some t=>exact h.put v hd

def keep:List Nat→Env→Env
 | [],_=>[]
 | t :: ts,env=>match X2 env t with | some v=>(t,v) :: keep ts env | none=>keep ts env
theorem Zio {ts:List Nat} {env:Env} {t:Nat} {v:Value} (h:X2 (keep ts env) t=some v):X2 env t=some v:=by
 induction ts with
 | nil=>simp [keep,X2] at h
 | cons u us ih=>
  simp only [keep] at h
  split at h
  ·rename_i x hx
   simp only [X2] at h
   cases hb:Nat.beq u t with
   | true=>
    rw [hb] at h
    have e:u=t:=Nat.eq_of_beq_eq_true hb
    subst e
    simp only [cond_true] at h
    rw [hx]; exact h
   | false=>rw [hb] at h; exact ih h
  ·exact ih h
theorem Fr.keep {n:Nat} {env:Env} {a:Act} (h:Fr n env a) (ts:List Nat):Fr n (SK.keep ts env) a:=⟨h.size,h.defers,fun t v hv=>h.get t v (Zio hv)⟩

inductive TK where
 | int (k:IntKind) | bool | str | slice (e:Nat)
 | struct (fs:List (Nat×Nat×Nat))   -- type,offset,cells
 | ptr (e:Nat) | map (k e:Nat) | func | iface | other
structure TI where
 kind:TK
 size:Nat
 bytes:Nat
 zero:Value
abbrev TT:=List (Nat×TI)
def find:TT→Nat→Option TI
 | [],_=>none
 | (t,i) :: r,u=>cond (Nat.beq t u) (some i) (find r u)
def TK.ok (P:Program) (t:Nat):TK→Prop
 | .int k=>P.underlying t=some (.int k)
 | .bool=>P.underlying t=some .bool
 | .str=>P.underlying t=some .string
 | .slice e=>P.underlying t=some (.slice e)
 | .struct fs => ∃ fields : List Field, P.underlying t = some (.struct fields.toArray) ∧ fields.map (fun f => (f.type, f.offset, P.cellsOf f.type)) = fs ∧ (fs.all fun f => (P.info? f.1).isSome) = true ∧ (fs.all fun f => !Nat.beq f.2.2 0) = true ∧ P.stoodInHeld t = false ∧ P.eqGuardType P.depth t = false ∧ (fields.all fun f => f.name != "_") = true
 | .ptr e=>P.underlying t=some (.pointer e)
 | .map k e=>P.underlying t=some (.map k e)
 | .func=>∃ ps rs v,P.underlying t=some (.func ps rs v)
 | .iface=>∃ ms,P.underlying t=some (.interface ms)
 | .other=>True
structure TI.ok (P:Program) (t:Nat) (i:TI):Prop where
 info:(P.info? t).map (fun j=>(j.size,j.bytes,j.zero))=some (i.size,i.bytes,some i.zero)
 kind:i.kind.ok P t
def Yk (P:Program) (tt:TT):Prop:=∀ t i,find tt t=some i→i.ok P t
theorem Zjk (P:Program):Yk P []:=fun t i h=>by cases h
theorem Zdm {P:Program} {tt:TT} {t:Nat} {i:TI} (h:i.ok P t) (ht:Yk P tt):Yk P ((t,i) :: tt):=fun u j hj=>by
 simp only [find] at hj
 cases hb:Nat.beq t u with
 | true=>
  rw [hb] at hj
  have e:t=u:=Nat.eq_of_beq_eq_true hb
  subst e
  simp only [cond_true,Option.some.injEq] at hj
  subst hj; exact h
 | false=>rw [hb] at hj; exact ht u j hj

theorem TI.ok.info' {P:Program} {t:Nat} {i:TI} (h:i.ok P t):∃ j,P.info? t=some j∧j.size=i.size∧j.bytes=i.bytes∧j.zero=some i.zero:=by
 have:=h.info
 cases hj:P.info? t with
 | none=>rw [hj] at this; cases this
 | some j=>rw [hj] at this; simp at this; exact ⟨j,rfl,this⟩
theorem TI.ok.cellsOf {P:Program} {t:Nat} {i:TI} (h:i.ok P t):P.cellsOf t=i.size:=by
 obtain ⟨j,hj,h1,_⟩:=h.info'
 simp [Program.cellsOf,hj,h1]

section runs
variable {P:Program} {t:Nat} {i:TI} (w:World)
theorem Bc (h:i.ok P t):∃ j,(typeInfo t).run P w=.ok j w∧j.size=i.size∧j.bytes=i.bytes∧j.zero=some i.zero:=by
 obtain ⟨j,hj,r⟩:=h.info'
 exact ⟨j,by simp [typeInfo,hj],r⟩
theorem Xe (h:i.ok P t):(sizeOf t).run P w=.ok i.size w:=by
 obtain ⟨j,hj,h1,_⟩:=Bc w h
 simp [sizeOf,hj,h1]
theorem Wx (h:i.ok P t):(zeroValue t).run P w=.ok i.zero w:=by
 obtain ⟨j,hj,h1,h2,h3⟩:=Bc w h
 simp [zeroValue,hj,h3]
theorem Z2 {d:TypeDesc} (h:P.underlying t=some d):(underlying t).run P w=.ok d w:=by simp [underlying,h]
end runs
end Go.SK
