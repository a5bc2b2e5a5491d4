/- Part of the library of this claim: how code is stepped through. -/
import Derived.Test.YtgdmpkhmedbnpaaGreatDoorXScanNoneKb
set_option linter.unusedVariables false
set_option linter.unusedSimpArgs false
namespace Go.SK
open Go

def Zy (off:Nat) (vs:List Value) (cs:List Value):List Value:=cs.take off ++ vs ++ cs.drop (off+vs.length)
def lay (fs:List (Nat×Nat×Nat)):List (Nat×Value)→List Value→Option (List Value)
 | [],cs=>some cs
 | (i,v) :: r,cs=>match nth fs i with
  | some (_,off,sz)=>cond (Nat.beq v.cells.toList.length sz && Nat.ble (off+sz) cs.length) (lay fs r (Zy off v.cells.toList cs)) none
  | none=>none

theorem Zdk (vs:List Value) (off:Nat):∀(j:Nat) (cs:Array Value),off+j+vs.length≤cs.size→
  ((vs.zipIdx j).foldl (fun cs (x:Value×Nat)=>cs.setIfInBounds (off+x.2) x.1) cs).toList=Zy (off+j) vs cs.toList:=by
 induction vs with
 | nil=>intro j cs h; simp [Zy]
 | cons v vs ih=>
  intro j cs h
  simp only [List.length_cons] at h
  simp only [List.zipIdx_cons,List.foldl_cons]
  have:=ih (j+1) (cs.setIfInBounds (off+j) v) (by simp; omega)
  rw [this]
  simp only [Zy,Array.toList_setIfInBounds,List.length_cons]
  have hl:off+j<cs.toList.length:=by simp; omega
  have e1:(cs.toList.set (off+j) v).take (off+(j+1))=cs.toList.take (off+j) ++ [v]:=by
   rw [List.take_set,show off+(j+1)=(off+j)+1 from by omega,List.take_succ_eq_append_getElem hl,List.set_append]
   have hm:min (off+j) cs.size=off+j:=Nat.min_eq_left (by simp at hl; omega)
   simp [hm]
  have e2:(cs.toList.set (off+j) v).drop (off+(j+1)+vs.length)=cs.toList.drop (off+j+(vs.length+1)):=by
   rw [List.drop_set,if_pos (by omega)]; congr 1; omega
  rw [e1,e2]
  simp

theorem Bf (xs:Array Value):xs.zipIdx.toList=xs.toList.zipIdx:=by simp

theorem Zel {P:Program} (fs:List (Nat×Nat×Nat)) (place:Nat→Option (Nat×Nat)) (hp:∀ i,place i=(fs[i]?).map fun f=>(f.2.1,f.2.2)) :
  ∀(parts:List (Nat×Value)) (cs:Array Value) (r:List Value),lay fs parts cs.toList=some r→Instr.fill place cs parts=some r.toArray
 | [],cs,r,h=>by
  simp only [lay,Option.some.injEq] at h
  simp [Instr.fill,← h]
 | (i,v) :: rest,cs,r,h=>by
  simp only [lay,Yu] at h
  split at h
  ·rename_i t off sz hn
   cases hc:(Nat.beq v.cells.toList.length sz && Nat.ble (off+sz) cs.toList.length) with
   | false=>rw [hc] at h; cases h
   | true=>
    rw [hc] at h
    simp only [Bool.and_eq_true] at hc
    have h1:v.cells.size=sz:=by have:=Nat.eq_of_beq_eq_true hc.1; simpa using this
    have h2:off+sz≤cs.size:=by have:=Nat.le_of_ble_eq_true hc.2; simpa using this
    simp only [Instr.fill,hp,hn,Option.map_some]
    rw [if_neg (by simp [h1]; omega)]
    simp only [cond_true] at h
    have hf:(Array.foldl (fun(cs:Array Value) (x:Value×Nat)=>cs.setIfInBounds (off+x.2) x.1) cs v.cells.zipIdx).toList=Zy off v.cells.toList cs.toList:=by
     rw [← Array.foldl_toList,Bf]
     have:=Zdk v.cells.toList off 0 cs (by simp; omega)
     simpa using this
    exact Zel (P:=P) fs place hp rest _ r (by rw [hf]; exact h)
  ·cases h

def isAggK:TK→Bool | .struct _=>true | _=>false

def pv (tt:TT) (env:Env) (o:Oper):Option Value:=
 match o.op with
 | .move x=>Zq env x
 | .assign x=>Zq env x
 | .nilCheck x=>match Zq env x with | some (.pointer (some a))=>some (.pointer (some a)) | some (.func (.func f) a b)=>some (.func (.func f) a b) | _=>none
 | .pick c a b=>match Zq env c with | some (.bool true)=>Zq env a | some (.bool false)=>Zq env b | _=>none
 | .binOp op t x y _=>match Zq env x,Zq env y with | some a,some b=>Zek tt op t a b | _,_=>none
 | .unOp op _ x=>match op,Zq env x with
  | .not,some (.bool b)=>some (.bool (!b))
  | .neg,some (.int k n)=>some (.int k (k.wrap (0 - n)))
  | .xor,some (.int k n)=>some (.int k (k.wrap ((BitVec.ofInt k.bits (if k.signed then -1 else k.max) ^^^ BitVec.ofInt k.bits n).toNat)))
  | _,_=>none
 | .convert s d x=>match find tt s,find tt d,Zq env x with
  | some ⟨.int _,_,_,_⟩,some ⟨.int k,_,_,_⟩,some (.int _ n)=>some (.int k (k.wrap n))
  | some ⟨.str,_,_,_⟩,some ⟨.str,_,_,_⟩,some (.string b)=>some (.string b)
  | _,_,_=>none
 | .extract x i=>match Zq env x with | some (.tuple vs)=>nth vs.toList i | _=>none
 | .fieldAddr s x f=>match find tt s,Zq env x with
  | some ⟨.struct fs,_,_,_⟩,some (.pointer (some ⟨b,off,none⟩))=>match nth fs f with
   | some (_,fo,_)=>some (.pointer (some ⟨b,off+fo,none⟩))
   | none=>none
  | _,_=>none
 | .field s x f=>match find tt s,Zq env x with
  | some ⟨.struct fs,_,_,_⟩,some (.agg cs)=>match nth fs f with
   | some (t,fo,sz)=>match find tt t with
    | some ⟨.struct _,_,_,_⟩=>some (.agg ((cs.toList.drop fo).take sz).toArray)
    | some ⟨.other,_,_,_⟩=>none
    | some _=>nth cs.toList fo
    | none=>none
   | none=>none
  | _,_=>none
 | .build t parts=>match find tt t,Yv env (parts.toList.map (·.2)) with
  | some ⟨.struct fs,_,_,z⟩,some vs=>match lay fs ((parts.toList.map (·.1)).zip vs) z.cells.toList with
   | some cs=>some (.agg cs.toArray)
   | none=>none
  | _,_=>none
 | .makeFunc fn first captured=>match Yv env first.toList,Yv env captured.toList with
  | some a,some b=>some (.func fn a.toArray b.toArray)
  | _,_=>none
 | .makeInterface t x=>match find tt t,Zq env x with
  | some ⟨.iface,_,_,_⟩,_=>none
  | some ⟨.other,_,_,_⟩,_=>none
  | some _,some v=>some (.iface t v)
  | _,_=>none
 | .call { callee:=.builtin b,args:=xs,argTypes:=ts }=>match b,ts.toList,Yv env xs.toList with
  | .len,t :: _,some [.slice _ n _]=>match find tt t with | some ⟨.slice _,_,_,_⟩=>some (.int .i64 (n:Nat)) | _=>none
  | .len,t :: _,some [.string s]=>match find tt t with | some ⟨.str,_,_,_⟩=>some (.int .i64 (s.data.toList.length:Nat)) | _=>none
  | .cap,t :: _,some [.slice _ _ n]=>match find tt t with | some ⟨.slice _,_,_,_⟩=>some (.int .i64 (n:Nat)) | _=>none
  | .max,_,some [.int k x,.int _ y]=>some (.int k (if y>x then y else x))
  | .min,_,some [.int k x,.int _ y]=>some (.int k (if y<x then y else x))
  | .max,_,some [.string x,.string y]=>some (.string ⟨⟨if (!Op.bytesLess x.data.toList y.data.toList)=true then x.data.toList else y.data.toList⟩⟩)
  | .min,_,some [.string x,.string y]=>some (.string ⟨⟨if (Op.bytesLess x.data.toList y.data.toList || decide (x.data.toList=y.data.toList))=true then x.data.toList else y.data.toList⟩⟩)
  | _,_,_=>none
 | _=>none

theorem Wb {n:Nat} {env:Env} {a:Act} (hf:Fr n env a) {xs:Array Operand} {vs:List Value} (h:Yv env xs.toList=some vs):xs.map a.eval=vs.toArray:=by
 apply Array.ext'; rw [Array.toList_map,hf.evals h]
end Go.SK
