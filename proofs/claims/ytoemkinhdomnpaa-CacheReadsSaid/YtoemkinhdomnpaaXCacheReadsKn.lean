/- Part of the library of this claim: how code is stepped through. -/
import Derived.Test.YtoemkinhdomnpaaXCacheReadsKm
import Derived.Laws.AppendOwn
import Derived.Laws.CopyRow
set_option linter.unusedVariables false
set_option linter.unusedSimpArgs false
namespace Go.SK
open Go Go.RowKit

section
variable {P : Program}
end
section
variable {P : Program} {tt : TT} {env : Env} {S : World → Prop} {o : Oper} {w0 w : World} {F0 : Ft} {Hs Rs : List Ch}
theorem Zc1 {ty : Ty} {z : Value} {z0 : ty.D} (hz : z.cells.toList = ty.enc z0) (m : Nat) : (Builtin.zeroCells z.cells m).toList = (List.replicate m z0).flatMap ty.enc := by
 have h1 : ∀ (m : Nat), (List.replicate m z0).flatMap ty.enc = (List.replicate m z.cells.toList).flatten := fun m => by
  induction m with
  | zero => rfl
  | succ m ih => simp [List.replicate_succ, ih, hz]
 have h2 : ∀ (z : Array Value), (List.range z.size).map (fun i => z[i % z.size]!) = z.toList := fun z => by
  apply List.ext_getElem
  ·simp
  ·intro i hi hj
   simp only [List.length_map, List.length_range] at hi
   simp [Nat.mod_eq_of_lt hi, hi]
 have h3 : ∀ (z : Array Value) (m : Nat), (List.range (m * z.size)).map (fun i => z[i % z.size]!) = (List.replicate m z.toList).flatten := fun z m => by
  induction m with
  | zero => simp
  | succ m ih =>
   rw [Nat.succ_mul, Nat.add_comm, List.range_add, List.map_append, h2, List.map_map, List.replicate_succ, List.flatten_cons, ← ih]
   congr 1
   apply List.map_congr_left
   intro i _
   simp
 rw [h1, ← h3]
 simp [Builtin.zeroCells]
theorem Za7 {ty : Ty} (hsc : ty.scal = true) (xs : List ty.D) : ∀ u ∈ xs.flatMap ty.enc, u.oneCell' = true := fun u hu => by
 obtain ⟨x, _, hx⟩ := List.mem_flatMap.1 hu
 exact ty.ok_one (ty.ok_scal hsc default (fun _ => False) x) u hx
theorem Zal (A : Option Addr) (c s : Nat) : Ve A c 0 s = A := by
 unfold Ve
 split
 ·rfl
 ·cases A <;> simp [Addr.add]
theorem Zgq {α : Type} (hT : Yi P tt) {t e : Nat} {x : Operand} {hi : Option Operand} {xs sub : List α} {A : Option Addr} {c : Nat} {h : Int} {z1 z2 : Nat} {z : Value} {ie : TI} (ho : o.op = .slice t x none hi none) (ht : find tt t = some ⟨.slice e, z1, z2, z⟩) (he : find tt e = some ie)
  (hx : Zu env x = some (.slice A xs.length c)) (hlc : xs.length ≤ c) (hhi : U0 env hi (xs.length : Nat) h) (h1 : 0 ≤ h) (h2 : h ≤ (xs.length : Nat)) (hs : xs.take h.toNat = sub) : QOp P o env S (.slice A sub.length c) := by
 have := Zfj (S := S) (l := 0) (h := h) (sub := sub) hT ho ht he hx hlc rfl hhi (Int.le_refl _) h1 h2 (by simpa using hs)
 simpa [Zal] using this
theorem Zfw {E : Nat} {ty : Ty} {xs sub : List ty.D} {A : Option Addr} {n c : Nat} {h : Int} (h1 : 0 ≤ h) (h2 : h ≤ (xs.length : Nat)) (hs : xs.take h.toNat = sub) (w : World) (F : Nat → Prop) (hr : (rdC E ty xs (.slice A n c)).ok w F) : (rdC E ty sub (.slice A sub.length c)).ok w F := by
 have := Zdx (l := 0) (h := h) (sub := sub) rfl (Int.le_refl _) h1 h2 (by simpa using hs) w F hr
 simpa [Zal] using this
theorem St.front {e : Nat} {ty : Ty} (hsc : ty.scal = true) {xs : List ty.D} {A : Option Addr} {n c : Nat} (k : Nat) (h : Nat) (hS : St w0 F0 Hs Rs w) (hk : nth Hs k = some (Yh e ty xs (.slice A n c))) (hle : h ≤ xs.length) :
  St w0 F0 (Yh e ty (xs.take h) (.slice A (xs.take h).length c) :: Hs.eraseIdx k) Rs w := by
 obtain ⟨F, ⟨inner, F', hown, hel, hF'1, hF'2⟩, hlt, hs⟩ := hS.turn hk
 have hin := Wx hsc hel
 subst hin
 have hth : (xs.take h).length = h := by rw [List.length_take]; omega
 refine hs w _ F (Chg.refl _ _) ⟨(xs.take h).flatMap ty.enc, F', ?_, Elems.scal hsc _ _ _, hF'1, ?_⟩ fun b hb => ⟨.inl hb, hlt b hb⟩
 ·rcases hown.2 with ⟨hv, hz⟩ | ⟨g, cap, cur, hv, hb, hg, hnc, hcm, hcs, htk⟩
  ·simp only [Value.slice.injEq] at hv
   obtain ⟨rfl, _, rfl⟩ := hv
   have : xs = [] := List.eq_nil_of_length_eq_zero hz
   subst this
   simp only [List.take_nil, List.flatMap_nil, List.length_nil]
   exact ⟨by simp, .inl ⟨rfl, rfl⟩⟩
  ·simp only [Value.slice.injEq] at hv
   obtain ⟨rfl, _, rfl⟩ := hv
   refine ⟨by rw [Yx hsc], .inr ⟨g, c, cur, rfl, hb, hg, by omega, hcm, hcs, ?_⟩⟩
   have hxs : xs.flatMap ty.enc = (xs.take h).flatMap ty.enc ++ (xs.drop h).flatMap ty.enc := by rw [← List.flatMap_append, List.take_append_drop]
   have hle2 : h * ty.n ≤ xs.length * ty.n := Nat.mul_le_mul_right _ hle
   have e1 : cur.toList.take (h * ty.n) = (cur.toList.take (xs.length * ty.n)).take (h * ty.n) := by rw [List.take_take, Nat.min_eq_left hle2]
   rw [hth, e1, htk, hxs]
   have : ((xs.take h).flatMap ty.enc).length = h * ty.n := by rw [Yx hsc, hth]
   rw [← this]
   exact List.take_left
 ·intro b hb
  exact hF'2 b (by cases A <;> exact hb)
end
end Go.SK
