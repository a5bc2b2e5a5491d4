/- The functions, further. -/
import Derived.Test.YtoemkinhdomnpaaXPourKeepsF1
set_option linter.unusedVariables false
set_option linter.unusedSimpArgs false
namespace Go.SK.T
open Go Go.SK Go.Proofs
/-! slices.Insert[[]sluicegate/api.Pair,sluicegate/api.Pair] -/
theorem slices_Insert_api_Pair_api_Pair.ov : Ov Try.prog 156 68 := Ov.of (rs := Try.f156.resultTypes) Try.func156 (by kernel_rfl) (by kernel_rfl) (by kernel_rfl) (by kernel_rfl)
def slices_Insert_api_Pair_api_Pair.f (a0 : List (List UInt8 × List UInt8)) (a1 : Int) (a2 : List (List UInt8 × List UInt8)) : Option (List (List UInt8 × List UInt8)) :=
  if 0 ≤ a1 ∧ a1 ≤ (a0.length : Int) then (if (a0.length + a2.length) * 32 ≤ 140737488355328 then some (a0.take a1.toNat ++ a2 ++ a0.drop a1.toNat) else none) else none
set_option maxRecDepth 20000 in
set_option maxHeartbeats 4000000 in
theorem slices_Insert_api_Pair_api_Pair.spec {a0 : List (List UInt8 × List UInt8)} {a1 : Int} {a2 : List (List UInt8 × List UInt8)} {A1 : Option Addr} {c_1 : Nat} {A2 : Option Addr} {c_2 : Nat} {r : List (List UInt8 × List UInt8)} (H : slices_Insert_api_Pair_api_Pair.f a0 a1 a2 = some r) :
    Spec Try.prog 121 [.slice A1 a0.length c_1, .int .i64 a1, .slice A2 a2.length c_2] [ownC 75 (.pair .str .str) a0 (.slice A1 a0.length c_1)] [rdC 75 (.pair .str .str) a2 (.slice A2 a2.length c_2)]
      (fun v l => ∃ (A_0 : Option Addr) (c_0 : Nat), v = .slice A_0 r.length c_0 ∧ l = [ownC 75 (.pair .str .str) r (.slice A_0 r.length c_0)]) := by
  refine Spec.enter Try.func121 rfl (by kernel_rfl) (by kernel_rfl) fun w0 F0 h0 => ?_
  unfold slices_Insert_api_Pair_api_Pair.f at H
  obtain ⟨⟨p0, p1⟩, H⟩ := guard_t H
  obtain ⟨p2, H⟩ := guard_t H
  obtain rfl := Option.some.inj H
  clear H
  obtain ⟨i, rfl⟩ := Int.eq_ofNat_of_zero_le p0
  have hi : i ≤ a0.length := by omega
  have hc1 := h0.cap (Gives.of 0 rfl own_rd)
  simp only [Int.toNat_natCast]
  refine J.seq ?_
  refine J.region ?_
  refine RJ.run ttok 1 rfl ?_
  refine RJ.fin [(0, .slice A1 a0.length c_1), (1, .int .i64 (i : Int)), (2, .slice A2 a2.length c_2)] rfl ?_
  refine J.seq ?_
  refine J.region ?_
  refine RJ.run ttok 2 rfl ?_
  refine RJ.q rfl rfl (q_cut (l := (i : Int)) (h := (a0.length : Int)) (sub := a0.drop i) ttok rfl rfl rfl rfl hc1 ⟨_, rfl⟩ rfl p0 p1 (Int.le_refl _) (by simpa using cut_from a0 (i : Int))) ?_
  refine RJ.fin [(0, .slice A1 a0.length c_1), (1, .int .i64 (i : Int)), (2, .slice A2 a2.length c_2)] rfl ?_
  refine J.seq ?_
  refine J.region ?_
  refine RJ.run ttok 3 rfl ?_
  refine RJ.fin [(0, .slice A1 a0.length c_1), (1, .int .i64 (i : Int)), (2, .slice A2 a2.length c_2), (7, .int .i64 (a2.length : Int))] rfl ?_
  refine J.seq ?_
  refine J.seq ?_
  refine J.region ?_
  refine RJ.run ttok 2 rfl ?_
  refine RJ.fin [(0, .slice A1 a0.length c_1), (1, .int .i64 (i : Int)), (2, .slice A2 a2.length c_2), (7, .int .i64 (a2.length : Int)), (16, .bool (decide ((a2.length : Int) = 0)))] rfl ?_
  refine J.cond rfl (fun c => ?_) (fun c => ?_)
  · have hz : a2 = [] := List.eq_nil_of_length_eq_zero (by have := of_decide_eq_true c; omega)
    subst hz
    refine J.seq ?_
    refine J.region ?_
    refine RJ.run ttok 2 rfl ?_
    refine RJ.fin [(6, .slice A1 a0.length c_1)] rfl ?_
    refine J.ret ?_
    have e : a0.take i ++ [] ++ a0.drop i = a0 := by simp
    rw [e]
    exact ⟨_, _, _, (results_slots rfl), ⟨_, _, rfl, rfl⟩, h0.only [0] rfl⟩
  · refine J.skip ?_
    have hm : a2.length ≠ 0 := by have := of_decide_eq_false c; omega
    refine J.seq ?_
    refine J.region ?_
    refine RJ.run ttok 3 rfl ?_
    refine RJ.fin [(0, .slice A1 a0.length c_1), (1, .int .i64 (i : Int)), (2, .slice A2 a2.length c_2), (7, .int .i64 (a2.length : Int)), (8, .int .i64 (a0.length : Int))] rfl ?_
    refine J.seq ?_
    refine J.seq ?_
    refine J.region ?_
    refine RJ.run ttok 3 rfl ?_
    refine RJ.fin [(0, .slice A1 a0.length c_1), (1, .int .i64 (i : Int)), (2, .slice A2 a2.length c_2), (7, .int .i64 (a2.length : Int)), (8, .int .i64 (a0.length : Int)), (22, .bool (decide ((i : Int) = (a0.length : Int))))] rfl ?_
    refine J.cond rfl (fun c => ?_) (fun c => ?_)
    · have hie : i = a0.length := by have := of_decide_eq_true c; omega
      refine J.seq ?_
      refine J.region ?_
      refine RJ.run ttok 2 rfl ?_
      refine RJ.op rfl rfl (op_append ttok (ty := (.pair .str .str)) rfl 0 rfl h0 rfl (Gives.self 0 rfl) rfl rfl rfl rfl rfl rfl (by decide) (by decide) p2) ?_
      rintro _ w1 ⟨A, c_3, rfl, h1⟩
      refine RJ.run ttok 1 rfl ?_
      refine RJ.fin [(6, .slice A (a0 ++ a2).length c_3)] rfl ?_
      refine J.ret ?_
      have e : a0.take i ++ a2 ++ a0.drop i = a0 ++ a2 := by rw [hie]; simp
      rw [e]
      exact ⟨_, _, _, (results_slots rfl), ⟨_, _, rfl, rfl⟩, h1.only [0] rfl⟩
    · refine J.skip ?_
      have hlt : i < a0.length := by have := of_decide_eq_false c; omega
      have w1 : w64 ((a0.length : Int) + (a2.length : Int)) = ((a0.length + a2.length : Nat) : Int) := by rw [w64_id (by omega) (by omega)]; omega
      have wim : w64 ((i : Int) + (a2.length : Int)) = ((i + a2.length : Nat) : Int) := by rw [w64_id (by omega) (by omega)]; omega
      rcases h0.openRow (ty := (.pair .str .str)) rfl 0 rfl with ⟨_, e, _⟩ | ⟨b, sp, rfl, hc, hcm, hsp, h1⟩
      · rw [e] at hlt; cases hlt
      have hX := flat_len (ty := (.pair .str .str)) rfl a0
      have hY := flat_len (ty := (.pair .str .str)) rfl a2
      have nn : Ty.n (.pair .str .str) = 2 := rfl
      have oX := scal_one (ty := (.pair .str .str)) rfl a0
      have oY := scal_one (ty := (.pair .str .str)) rfl a2
      have eT : (a0.flatMap (Ty.enc (.pair .str .str))).take (i * 2) = (a0.take i).flatMap (Ty.enc (.pair .str .str)) := flat_take (ty := (.pair .str .str)) rfl a0 i
      have eD : (a0.flatMap (Ty.enc (.pair .str .str))).drop (i * 2) = (a0.drop i).flatMap (Ty.enc (.pair .str .str)) := flat_drop (ty := (.pair .str .str)) rfl a0 i
      have eR : (a0.take i ++ a2 ++ a0.drop i).flatMap (Ty.enc (.pair .str .str)) = (a0.flatMap (Ty.enc (.pair .str .str))).take (i * 2) ++ a2.flatMap (Ty.enc (.pair .str .str)) ++ (a0.flatMap (Ty.enc (.pair .str .str))).drop (i * 2) := by rw [eT, eD, List.flatMap_append, List.flatMap_append]
      have lR : (a0.take i ++ a2 ++ a0.drop i).length = a0.length + a2.length := by simp only [List.length_append, List.length_take, List.length_drop]; omega
      rw [nn] at hX hY hsp
      obtain ⟨X, hXe⟩ : ∃ X, X = a0.flatMap (Ty.enc (.pair .str .str)) := ⟨_, rfl⟩
      obtain ⟨Y, hYe⟩ : ∃ Y, Y = a2.flatMap (Ty.enc (.pair .str .str)) := ⟨_, rfl⟩
      rw [← hXe] at hX eR h1 oX
      rw [← hYe] at hY eR oY
      refine J.seq ?_
      refine J.seq ?_
      refine J.region ?_
      refine RJ.run ttok 3 rfl ?_
      refine RJ.know (t := 28) rfl (congrArg (Value.int .i64) w1) ?_
      refine RJ.run ttok 3 rfl ?_
      refine RJ.fin [(0, .slice (some ⟨b, 0, none⟩) a0.length c_1), (1, .int .i64 (i : Int)), (2, .slice A2 a2.length c_2), (7, .int .i64 (a2.length : Int)), (8, .int .i64 (a0.length : Int)), (31, .bool (decide ((c_1 : Int) < ((a0.length + a2.length : Nat) : Int))))] rfl ?_
      refine J.cond rfl (fun c => ?_) (fun c => ?_)
      · -- a new row
        have hgr := of_decide_eq_true c
        have w2 : w64 (((a0.length + a2.length : Nat) : Int) - (i : Int)) = ((a0.length + a2.length - i : Nat) : Int) := by rw [w64_id (by omega) (by omega)]; omega
        refine J.seq ?_
        refine J.region ?_
        refine RJ.run ttok 2 rfl ?_
        refine RJ.q rfl rfl (q_cutRaw ttok 0 (i : Int) (0) (i) (c_1) rfl rfl rfl rfl hc rfl ⟨_, rfl⟩ (Int.le_refl _) p0 (by omega) (by omega) (by show 0 + 0 * 2 = 0; omega) (by omega) (by omega)) ?_
        refine RJ.run ttok 3 rfl ?_
        refine RJ.know (t := 37) rfl (congrArg (Value.int .i64) w1) ?_
        refine RJ.run ttok 2 rfl ?_
        refine RJ.know (t := 39) rfl (congrArg (Value.int .i64) w2) ?_
        refine RJ.op rfl rfl (op_growRaw ttok 0 rfl h1 rfl rfl rfl rfl rfl rfl rfl (by decide) (by decide) (by omega) (by omega) (by rw [List.length_append]; show i * 2 ≤ _; omega) (by show ((i : Int) + _) * (32 : Nat) ≤ _; omega)) ?_
        rintro _ w2' ⟨b2, cap, tail, rfl, hcap, hcap2, htail, h2⟩
        rw [Int.toNat_natCast] at hcap
        replace hcap : a0.length + a2.length ≤ cap := by omega
        replace htail : tail.length = (cap - i) * 2 := htail
        refine RJ.know (t := 40) (v := .slice (some ⟨b2, 0, none⟩) (a0.length + a2.length) cap) rfl (by rw [Int.toNat_natCast]; congr 1; omega) ?_
        have eX : (X ++ sp).take (i * 2) = X.take (i * 2) := List.take_append_of_le_length (by omega)
        have lX : (X.take (i * 2)).length = i * 2 := by rw [List.length_take]; omega
        replace h2 : St w0 F0 (boxC b2 75 (X.take (i * 2) ++ tail) :: [boxC b 75 (X ++ sp)]) [rdC 75 (.pair .str .str) a2 (.slice A2 a2.length c_2)] w2' := by rw [← eX]; exact h2
        obtain ⟨R, hR, _⟩ := h2.gives (c := rdC 75 (.pair .str .str) a2 (.slice A2 a2.length c_2)) (Gives.self 2 rfl)
        have lY := (rd_lies (ty := (.pair .str .str)) rfl hR).2.1
        rw [← hYe] at lY
        refine RJ.run ttok 1 rfl ?_
        refine RJ.fin [(0, .slice (some ⟨b, 0, none⟩) a0.length c_1), (1, .int .i64 (i : Int)), (2, .slice A2 a2.length c_2), (7, .int .i64 (a2.length : Int)), (9, .slice (some ⟨b2, 0, none⟩) (a0.length + a2.length) cap)] rfl ?_
        refine J.seq ?_
        refine J.region ?_
        refine RJ.run ttok 2 rfl ?_
        refine RJ.q rfl rfl (q_cutRaw ttok (i : Int) ((a0.length + a2.length : Nat) : Int) (i * 2) (a0.length + a2.length - i) (cap - i) rfl rfl rfl rfl hcap ⟨_, rfl⟩ rfl p0 (by omega) (by omega) (by omega) (by show 0 + (i : Int).toNat * 2 = i * 2; omega) (by omega) (by omega)) ?_
        refine RJ.run ttok 1 rfl ?_
        refine RJ.op rfl rfl (op_copyRaw ttok (cs := Y) 0 rfl h2 rfl rfl rfl rfl rfl (by show Y.length = min a2.length (a0.length + a2.length - i) * 2; rw [Nat.min_eq_left (by omega)]; exact hY) (by rw [List.length_append]; omega) lY oY) ?_
        intro _ w3 h3
        refine RJ.fin [(0, .slice (some ⟨b, 0, none⟩) a0.length c_1), (1, .int .i64 (i : Int)), (7, .int .i64 (a2.length : Int)), (9, .slice (some ⟨b2, 0, none⟩) (a0.length + a2.length) cap)] rfl ?_
        obtain ⟨G, ⟨hG, hh⟩, _⟩ := h3.own (k := 1) (c := boxC b 75 (X ++ sp)) rfl
        have l3 : (layAt (i * 2) Y (X.take (i * 2) ++ tail)).length = cap * 2 := by simp only [layAt, List.length_append, List.length_take, List.length_drop]; omega
        refine J.seq ?_
        refine J.heldSt mix (h3.only [] rfl) ?_
        have h3 := h3.drew
        have lS : ∀ w', w'.heap[b]? = some (.cells (X ++ sp).toArray 75 (0, 0)) → Lies w' (some ⟨b, i * 2, none⟩) (X.drop (i * 2)) := fun w' hw => by
          have := (box_lies hw (i * 2)).take ((a0.length - i) * 2)
          rwa [List.drop_append_of_le_length (by omega), List.take_append_of_le_length (by rw [List.length_drop]; omega), List.take_of_length_le (by rw [List.length_drop]; omega)] at this
        refine HJ.run ttok rfl [0, 1, 2, 3] rfl ?_
        refine HJ.know (t := 49) rfl (congrArg (Value.int .i64) wim) ?_
        refine HJ.q (i := 4) rfl rfl rfl rfl rfl rfl (q_cutRaw ttok ((i + a2.length : Nat) : Int) ((a0.length + a2.length : Nat) : Int) ((i + a2.length) * 2) (a0.length - i) (cap - (i + a2.length)) rfl rfl rfl rfl hcap ⟨_, rfl⟩ rfl (by omega) (by omega) (by omega) (by omega) (by show 0 + ((i + a2.length : Nat) : Int).toNat * 2 = (i + a2.length) * 2; omega) (by omega) (by omega)) ?_
        refine HJ.run ttok rfl [5, 6] rfl ?_
        refine HJ.q (i := 7) rfl rfl rfl rfl rfl rfl (q_cutRaw ttok (i : Int) (a0.length : Int) (i * 2) (a0.length - i) (c_1 - i) rfl rfl rfl rfl hc ⟨_, rfl⟩ rfl p0 p1 (by omega) (by omega) (by show 0 + (i : Int).toNat * 2 = i * 2; omega) (by omega) (by omega)) ?_
        refine HJ.op (i := 8) rfl rfl rfl rfl rfl (op_copyRaw ttok (cs := X.drop (i * 2)) 0 rfl h3 rfl rfl rfl rfl rfl (by show (X.drop (i * 2)).length = min (a0.length - i) (a0.length - i) * 2; rw [List.length_drop, Nat.min_self]; omega) (by rw [l3, List.length_drop]; omega) (lS _ hh) (fun u hu => oX u (List.mem_of_mem_drop hu))) ?_
        intro _ w4 h4
        refine ⟨⟨[_, _], h4⟩, ?_⟩
        refine HJ.fin [(9, .slice (some ⟨b2, 0, none⟩) (a0.length + a2.length) cap)] rfl rfl ?_
        refine J.seq ?_
        refine J.region ?_
        refine RJ.run ttok 2 rfl ?_
        refine RJ.fin [(6, .slice (some ⟨b2, 0, none⟩) (a0.length + a2.length) cap)] rfl ?_
        refine J.ret ?_
        have q := ins_grow (X := X) (Y := Y) (tail := tail) (a := i * 2) (by omega) (by omega)
        have e1 : (i + a2.length) * 2 = i * 2 + Y.length := by omega
        rw [e1] at h4
        have h5 := h4.closeRow (ty := (.pair .str .str)) (ys := a0.take i ++ a2 ++ a0.drop i) (c := cap) rfl 0 rfl (by rw [lR]; exact hcap) hcap2 (by rw [q.1, List.length_append, lX, nn]; omega) (by rw [eR, lR, nn, ← q.2]; congr 1; omega)
        exact ⟨_, _, _, (results_slots rfl), ⟨_, _, by rw [lR]; rfl, rfl⟩, h5.only [0] rfl⟩
      · -- in place
        have hroom : a0.length + a2.length ≤ c_1 := by have := of_decide_eq_false c; omega
        refine J.skip ?_
        refine J.seq ?_
        refine J.region ?_
        refine RJ.run ttok 4 rfl ?_
        refine RJ.know (t := 59) rfl (congrArg (Value.int .i64) w1) ?_
        refine RJ.q rfl rfl (q_cutRaw ttok 0 ((a0.length + a2.length : Nat) : Int) (0) (a0.length + a2.length) (c_1) rfl rfl rfl rfl hc rfl ⟨_, rfl⟩ (Int.le_refl _) (by omega) (by omega) (by omega) (by show 0 + 0 * 2 = 0; omega) (by omega) (by omega)) ?_
        refine RJ.run ttok 1 rfl ?_
        refine RJ.fin [(0, .slice (some ⟨b, 0, none⟩) (a0.length + a2.length) c_1), (1, .int .i64 (i : Int)), (2, .slice A2 a2.length c_2), (7, .int .i64 (a2.length : Int)), (8, .int .i64 (a0.length : Int))] rfl ?_
        refine J.seq ?_
        refine J.seq ?_
        refine J.region ?_
        refine RJ.run ttok 4 rfl ?_
        refine RJ.run ttok 1 rfl ?_
        refine RJ.know (t := 65) rfl (congrArg (Value.int .i64) wim) ?_
        refine RJ.q rfl rfl (q_cutRaw ttok ((i + a2.length : Nat) : Int) ((a0.length + a2.length : Nat) : Int) ((i + a2.length) * 2) (a0.length - i) (c_1 - (i + a2.length)) rfl rfl rfl rfl hroom ⟨_, rfl⟩ rfl (by omega) (by omega) (by omega) (by omega) (by show 0 + ((i + a2.length : Nat) : Int).toNat * 2 = (i + a2.length) * 2; omega) (by omega) (by omega)) ?_
        refine RJ.q rfl rfl (q_overlaps ttok (ty := (.pair .str .str)) (ys := a2) rfl 0 slices_Insert_api_Pair_api_Pair.ov rfl rfl rfl h1 rfl (Gives.self 0 rfl) rfl rfl (by decide)) ?_
        refine RJ.run ttok 1 rfl ?_
        refine RJ.fin [(0, .slice (some ⟨b, 0, none⟩) (a0.length + a2.length) c_1), (1, .int .i64 (i : Int)), (2, .slice A2 a2.length c_2), (7, .int .i64 (a2.length : Int)), (8, .int .i64 (a0.length : Int)), (68, .bool true)] rfl ?_
        refine J.condT rfl ?_
        obtain ⟨G, ⟨hG, hh⟩, _⟩ := h1.own (k := 0) (c := boxC b 75 (X ++ sp)) rfl
        have lS : ∀ w', w'.heap[b]? = some (.cells (X ++ sp).toArray 75 (0, 0)) → Lies w' (some ⟨b, i * 2, none⟩) (X.drop (i * 2)) := fun w' hw => by
          have := (box_lies hw (i * 2)).take ((a0.length - i) * 2)
          rwa [List.drop_append_of_le_length (by omega), List.take_append_of_le_length (by rw [List.length_drop]; omega), List.take_of_length_le (by rw [List.length_drop]; omega)] at this
        refine J.seq ?_
        refine J.heldSt mix (h1.only [] rfl) ?_
        have h2 := h1.drew
        refine HJ.run ttok rfl [0, 1, 2, 3] rfl ?_
        refine HJ.know (t := 72) rfl (congrArg (Value.int .i64) wim) ?_
        refine HJ.q (i := 4) rfl rfl rfl rfl rfl rfl (q_cutRaw ttok ((i + a2.length : Nat) : Int) ((a0.length + a2.length : Nat) : Int) ((i + a2.length) * 2) (a0.length - i) (c_1 - (i + a2.length)) rfl rfl rfl rfl hroom ⟨_, rfl⟩ rfl (by omega) (by omega) (by omega) (by omega) (by show 0 + ((i + a2.length : Nat) : Int).toNat * 2 = (i + a2.length) * 2; omega) (by omega) (by omega)) ?_
        refine HJ.run ttok rfl [5, 6] rfl ?_
        refine HJ.q (i := 7) rfl rfl rfl rfl rfl rfl (q_cutRaw ttok (i : Int) ((a0.length + a2.length : Nat) : Int) (i * 2) (a0.length + a2.length - i) (c_1 - i) rfl rfl rfl rfl hroom ⟨_, rfl⟩ rfl p0 (by omega) (by omega) (by omega) (by show 0 + (i : Int).toNat * 2 = i * 2; omega) (by omega) (by omega)) ?_
        refine HJ.op (i := 8) rfl rfl rfl rfl rfl (op_copyRaw ttok (cs := X.drop (i * 2)) 0 rfl h2 rfl rfl rfl rfl rfl (by show (X.drop (i * 2)).length = min (a0.length + a2.length - i) (a0.length - i) * 2; rw [List.length_drop, Nat.min_eq_right (by omega)]; omega) (by rw [List.length_append, List.length_drop]; omega) (lS _ hh) (fun u hu => oX u (List.mem_of_mem_drop hu))) ?_
        intro _ w3 h3
        refine ⟨⟨[_], h3⟩, ?_⟩
        refine HJ.fin [(0, .slice (some ⟨b, 0, none⟩) (a0.length + a2.length) c_1), (1, .int .i64 (i : Int)), (2, .slice A2 a2.length c_2)] rfl rfl ?_
        obtain ⟨R, hR, _⟩ := h3.gives (c := rdC 75 (.pair .str .str) a2 (.slice A2 a2.length c_2)) (Gives.self 1 rfl)
        have lY := (rd_lies (ty := (.pair .str .str)) rfl hR).2.1
        rw [← hYe] at lY
        have q := ins_room (X := X) (Y := Y) (sp := sp) (a := i * 2) (by omega) (by omega)
        have e1 : (i + a2.length) * 2 = i * 2 + Y.length := by omega
        rw [e1] at h3
        refine J.seq ?_
        refine J.region ?_
        refine RJ.run ttok 2 rfl ?_
        refine RJ.q rfl rfl (q_cutRaw ttok (i : Int) ((a0.length + a2.length : Nat) : Int) (i * 2) (a0.length + a2.length - i) (c_1 - i) rfl rfl rfl rfl hroom ⟨_, rfl⟩ rfl p0 (by omega) (by omega) (by omega) (by show 0 + (i : Int).toNat * 2 = i * 2; omega) (by omega) (by omega)) ?_
        refine RJ.run ttok 1 rfl ?_
        refine RJ.op rfl rfl (op_copyRaw ttok (cs := Y) 0 rfl h3 rfl rfl rfl rfl rfl (by show Y.length = min a2.length (a0.length + a2.length - i) * 2; rw [Nat.min_eq_left (by omega)]; exact hY) (by simp only [layAt, List.length_append, List.length_take, List.length_drop]; omega) lY oY) ?_
        intro _ w4 h4
        refine RJ.fin [(0, .slice (some ⟨b, 0, none⟩) (a0.length + a2.length) c_1)] rfl ?_
        refine J.seq ?_
        refine J.region ?_
        refine RJ.run ttok 2 rfl ?_
        refine RJ.fin [(6, .slice (some ⟨b, 0, none⟩) (a0.length + a2.length) c_1)] rfl ?_
        refine J.ret ?_
        have h5 := h4.closeRow (ty := (.pair .str .str)) (ys := a0.take i ++ a2 ++ a0.drop i) (c := c_1) rfl 0 rfl (by rw [lR]; exact hroom) hcm (by rw [q.1, List.length_append, nn]; omega) (by rw [eR, lR, nn, ← q.2]; congr 1; omega)
        exact ⟨_, _, _, (results_slots rfl), ⟨_, _, by rw [lR]; rfl, rfl⟩, h5.only [0] rfl⟩

/-! sluicegate/leaf.Apply -/
def leaf_Apply.l0 : Nat → (List (List UInt8 × Bool × List UInt8)) → (List (List UInt8 × List UInt8)) → (Int) → Option ((List (List UInt8 × List UInt8)))
  | 0, _, _, _ => none
  | k + 1, a1, x1, x2 => if (decide (x2 < (a1.length : Int))) = true then (if 0 ≤ x2 ∧ x2 < (a1.length : Int) then ((slices_BinarySearchFunc_api_Pair_api_Pair_string_leaf_compare.f k x1 ((gt a1 x2).1)).bind fun r2 => (if r2.2 = true then (if (gt a1 x2).2.1 = true then ((slices_Delete_api_Pair_api_Pair.f x1 r2.1 (w64 (r2.1 + 1))).bind fun r3 => (leaf_Apply.l0 k a1 r3 (w64 (x2 + 1)))) else (if 0 ≤ r2.1 ∧ r2.1 < (x1.length : Int) then (leaf_Apply.l0 k a1 (x1.set r2.1.toNat ((gt x1 r2.1).1, (gt a1 x2).2.2)) (w64 (x2 + 1))) else none)) else (if (!((gt a1 x2).2.1)) = true then ((slices_Insert_api_Pair_api_Pair.f x1 r2.1 ([((gt a1 x2).1, (gt a1 x2).2.2)] : List (List UInt8 × List UInt8))).bind fun r4 => (leaf_Apply.l0 k a1 r4 (w64 (x2 + 1)))) else (leaf_Apply.l0 k a1 x1 (w64 (x2 + 1)))))) else none) else (some x1)
def leaf_Apply.f (k : Nat) (a0 : List (List UInt8 × List UInt8)) (a1 : List (List UInt8 × Bool × List UInt8)) : Option ((List (List UInt8 × List UInt8))) := (slices_Clone_api_Pair_api_Pair.f a0).bind fun r1 => (leaf_Apply.l0 k a1 r1 0)
set_option maxRecDepth 20000 in
set_option maxHeartbeats 40000000 in
theorem leaf_Apply.spec {k : Nat} {a0 : List (List UInt8 × List UInt8)} {a1 : List (List UInt8 × Bool × List UInt8)} {A1 : Option Addr} {c_1 : Nat} {A2 : Option Addr} {c_2 : Nat} {r : (List (List UInt8 × List UInt8))} (H : leaf_Apply.f k a0 a1 = some r) :
    Spec Try.prog 72 [.slice A1 a0.length c_1, .slice A2 a1.length c_2] [] [rdC 75 (.pair .str .str) a0 (.slice A1 a0.length c_1), rdC 135 (.pair .str (.pair .bool .str)) a1 (.slice A2 a1.length c_2)] (fun v l => ∃ (A_0 : Option Addr) (c_0 : Nat), v = .slice A_0 r.length c_0 ∧ l = [ownC 75 (.pair .str .str) r (.slice A_0 r.length c_0)]) := by
  refine Spec.enter Try.func72 rfl (by kernel_rfl) (by kernel_rfl) fun w0 F0 h0 => ?_
  unfold leaf_Apply.f at H
  refine J.seq ?_
  refine J.region ?_
  refine RJ.run ttok 1 rfl ?_
  refine RJ.fin [(0, .slice A1 a0.length c_1), (1, .slice A2 a1.length c_2)] rfl ?_
  refine J.seq ?_
  refine J.region ?_
  refine RJ.run ttok 1 rfl ?_
  obtain ⟨r1, q1, H⟩ := bind_t H
  refine RJ.op rfl rfl (op_call [] (slices_Clone_api_Pair_api_Pair.spec q1) rfl rfl rfl h0 rfl (gcons (Gives.self 0 rfl) gnil)) ?_
  rintro _ w1 ⟨_, ⟨A3, c_3, rfl, rfl⟩, h1⟩
  replace h1 : St w0 F0 [ownC 75 (.pair .str .str) r1 (.slice A3 r1.length c_3)] _ _ := h1
  refine RJ.run ttok 1 rfl ?_
  refine RJ.fin [(1, .slice A2 a1.length c_2), (5, .slice A3 r1.length c_3)] rfl ?_
  refine J.seq ?_
  refine J.seq ?_
  refine J.region ?_
  refine RJ.run ttok 3 rfl ?_
  refine RJ.fin [(5, .slice A3 r1.length c_3), (12, .slice A2 a1.length c_2), (13, .int .i64 (a1.length : Int)), (14, .int .i64 0)] rfl ?_
  refine J.block ?_
  have h15 := ((h1.only [0] rfl).rds [1] rfl)
  refine J.loop (fun k env w => ∃ (x1 : List (List UInt8 × List UInt8)) (A4 : Option Addr) (c_4 : Nat) (x2 : Int), env = [(5, .slice A4 x1.length c_4), (12, .slice A2 a1.length c_2), (13, .int .i64 (a1.length : Int)), (14, .int .i64 x2)] ∧ St w0 F0 [ownC 75 (.pair .str .str) x1 (.slice A4 x1.length c_4)] [rdC 135 (.pair .str (.pair .bool .str)) a1 (.slice A2 a1.length c_2)] w ∧ leaf_Apply.l0 k a1 x1 x2 = some r) (k := k) ⟨r1, A3, c_3, 0, rfl, h15, H⟩ ?_
  rintro k1 env w2 ⟨x1, A4, c_4, x2, rfl, h2, H⟩
  cases k1 with
  | zero => exact nomatch (show none = some r from H)
  | succ k1 =>
    rw [leaf_Apply.l0] at H
    refine J.seq ?_
    refine J.region ?_
    refine RJ.run ttok 1 rfl ?_
    refine RJ.fin [(5, .slice A4 x1.length c_4), (12, .slice A2 a1.length c_2), (13, .int .i64 (a1.length : Int)), (14, .int .i64 x2), (15, .bool (decide (x2 < (a1.length : Int))))] rfl ?_
    refine J.seq ?_
    refine J.cond rfl (fun c1 => ?_) (fun c1 => ?_)
    · replace H := ite_t c1 H
      refine J.skip ?_
      refine J.seq ?_
      refine J.block ?_
      refine J.seq ?_
      refine J.region ?_
      obtain ⟨⟨p1, p2⟩, H⟩ := guard_t H
      have e1 := elem_A h2.wh (Gives.self 1 rfl) p1 p2
      refine RJ.q rfl rfl (q_index ttok rfl rfl rfl rfl rfl e1 p1 p2) ?_
      refine RJ.q rfl rfl (q_load_elem (f := 0) ttok rfl (fun w e => e ▸ h2.wh) (Gives.self 1 rfl) p1 p2 rfl rfl rfl rfl rfl) ?_
      refine RJ.op rfl rfl (op_alloc ttok rfl rfl h2) ?_
      rintro _ w3 ⟨b1, rfl, h3⟩
      replace h3 : St w0 F0 [boxC b1 135 [.string ⟨⟨([] : List UInt8)⟩⟩, .bool false, .string ⟨⟨([] : List UInt8)⟩⟩], ownC 75 (.pair .str .str) x1 (.slice A4 x1.length c_4)] _ _ := h3
      refine RJ.op rfl rfl (op_store ttok 0 rfl h3 rfl rfl rfl rfl rfl rfl rfl) ?_
      intro _ w4 h4
      replace h4 : St w0 F0 [boxC b1 135 [.string ⟨⟨(gt a1 x2).1⟩⟩, .bool ((gt a1 x2).2.1), .string ⟨⟨(gt a1 x2).2.2⟩⟩], ownC 75 (.pair .str .str) x1 (.slice A4 x1.length c_4)] _ _ := h4
      refine RJ.fin [(5, .slice A4 x1.length c_4), (7, .pointer (some ⟨b1, 0, none⟩)), (12, .slice A2 a1.length c_2), (13, .int .i64 (a1.length : Int)), (14, .int .i64 x2)] rfl ?_
      refine J.seq ?_
      refine J.region ?_
      refine RJ.run ttok 2 rfl ?_
      refine RJ.q rfl rfl (q_load_box ttok 0 (fun w e => e ▸ h4.wh) rfl rfl rfl rfl rfl) ?_
      obtain ⟨r2, q2, H⟩ := bind_t H
      refine RJ.op rfl rfl (op_call [] (slices_BinarySearchFunc_api_Pair_api_Pair_string_leaf_compare.spec q2) rfl rfl rfl h4 rfl (gcons (Gives.of 1 rfl own_rd) gnil)) ?_
      rintro _ w5 ⟨_, ⟨rfl, rfl⟩, h5⟩
      replace h5 : St w0 F0 [boxC b1 135 [.string ⟨⟨(gt a1 x2).1⟩⟩, .bool ((gt a1 x2).2.1), .string ⟨⟨(gt a1 x2).2.2⟩⟩], ownC 75 (.pair .str .str) x1 (.slice A4 x1.length c_4)] _ _ := h5
      refine RJ.run ttok 5 rfl ?_
      refine RJ.fin [(5, .slice A4 x1.length c_4), (7, .pointer (some ⟨b1, 0, none⟩)), (8, .int .i64 r2.1), (9, .bool r2.2), (12, .slice A2 a1.length c_2), (13, .int .i64 (a1.length : Int)), (14, .int .i64 x2)] rfl ?_
      refine J.block ?_
      refine J.seq ?_
      refine J.region ?_
      refine RJ.run ttok 2 rfl ?_
      rcases Bool.eq_false_or_eq_true r2.2 with c2 | c2
      · replace H := ite_t c2 H
        refine RJ.know (t := 27) rfl (congrArg Value.bool c2) ?_
        refine RJ.run ttok 1 rfl ?_
        refine RJ.q rfl rfl (q_load_box ttok 0 (fun w e => e ▸ h5.wh) rfl rfl rfl rfl rfl) ?_
        refine RJ.run ttok 2 rfl ?_
        refine RJ.fin [(5, .slice A4 x1.length c_4), (7, .pointer (some ⟨b1, 0, none⟩)), (8, .int .i64 r2.1), (9, .bool r2.2), (12, .slice A2 a1.length c_2), (13, .int .i64 (a1.length : Int)), (14, .int .i64 x2), (25, .bool ((gt a1 x2).2.1))] rfl ?_
        refine J.cond rfl (fun c3 => ?_) (fun c3 => ?_)
        · replace H := ite_t c3 H
          refine J.region ?_
          refine RJ.run ttok 4 rfl ?_
          obtain ⟨r3, q3, H⟩ := bind_t H
          refine RJ.op rfl rfl (op_call [1] (slices_Delete_api_Pair_api_Pair.spec q3) rfl rfl rfl h5 rfl gnil) ?_
          rintro _ w6 ⟨_, ⟨A5, c_5, rfl, rfl⟩, h6⟩
          replace h6 : St w0 F0 [ownC 75 (.pair .str .str) r3 (.slice A5 r3.length c_5), boxC b1 135 [.string ⟨⟨(gt a1 x2).1⟩⟩, .bool ((gt a1 x2).2.1), .string ⟨⟨(gt a1 x2).2.2⟩⟩]] _ _ := h6
          refine RJ.run ttok 1 rfl ?_
          refine RJ.fin [(5, .slice A5 r3.length c_5), (12, .slice A2 a1.length c_2), (13, .int .i64 (a1.length : Int)), (14, .int .i64 x2)] rfl ?_
          refine J.region ?_
          refine RJ.run ttok 2 rfl ?_
          refine RJ.fin [(5, .slice A5 r3.length c_5), (12, .slice A2 a1.length c_2), (13, .int .i64 (a1.length : Int)), (14, .int .i64 (w64 (x2 + 1)))] rfl ?_
          have h7 := ((h6.only [0] rfl).rds [0] rfl)
          exact ⟨k1, by omega, r3, A5, c_5, (w64 (x2 + 1)), rfl, h7, H⟩
        · replace H := ite_f c3 H
          refine J.seq ?_
          refine J.region ?_
          refine RJ.run ttok 2 rfl ?_
          refine RJ.fin [(5, .slice A4 x1.length c_4), (7, .pointer (some ⟨b1, 0, none⟩)), (8, .int .i64 r2.1), (12, .slice A2 a1.length c_2), (13, .int .i64 (a1.length : Int)), (14, .int .i64 x2), (36, .bool r2.2)] rfl ?_
          refine J.cond rfl (fun e => ?_) (fun e => ?_)
          · refine J.region ?_
            refine RJ.run ttok 3 rfl ?_
            refine RJ.q rfl rfl (q_load_box ttok 0 (fun w e => e ▸ h5.wh) rfl rfl rfl rfl rfl) ?_
            obtain ⟨⟨p3, p4⟩, H⟩ := guard_t H
            have e2 := elem_A h5.wh (Gives.of 1 rfl own_rd) p3 p4
            refine RJ.q rfl rfl (q_index ttok rfl rfl rfl rfl rfl e2 p3 p4) ?_
            refine RJ.run ttok 1 rfl ?_
            refine RJ.op rfl rfl (op_store_elem (f := 1) (ix := r2.1) ttok rfl ((gt x1 r2.1).1, (gt a1 x2).2.2) 1 rfl h5 rfl rfl p3 p4 rfl rfl rfl rfl rfl rfl rfl) ?_
            intro _ w7 h8
            replace h8 : St w0 F0 [ownC 75 (.pair .str .str) (x1.set r2.1.toNat ((gt x1 r2.1).1, (gt a1 x2).2.2)) (.slice A4 (x1.set r2.1.toNat ((gt x1 r2.1).1, (gt a1 x2).2.2)).length c_4), boxC b1 135 [.string ⟨⟨(gt a1 x2).1⟩⟩, .bool ((gt a1 x2).2.1), .string ⟨⟨(gt a1 x2).2.2⟩⟩]] _ _ := h8
            refine RJ.fin [(5, .slice A4 x1.length c_4), (12, .slice A2 a1.length c_2), (13, .int .i64 (a1.length : Int)), (14, .int .i64 x2)] rfl ?_
            refine J.envEq (env' := [(5, .slice A4 (x1.set r2.1.toNat ((gt x1 r2.1).1, (gt a1 x2).2.2)).length c_4), (12, .slice A2 a1.length c_2), (13, .int .i64 (a1.length : Int)), (14, .int .i64 x2)]) (by simp only [List.length_set]) ?_
            refine J.region ?_
            refine RJ.run ttok 2 rfl ?_
            refine RJ.fin [(5, .slice A4 (x1.set r2.1.toNat ((gt x1 r2.1).1, (gt a1 x2).2.2)).length c_4), (12, .slice A2 a1.length c_2), (13, .int .i64 (a1.length : Int)), (14, .int .i64 (w64 (x2 + 1)))] rfl ?_
            have h9 := ((h8.only [0] rfl).rds [0] rfl)
            exact ⟨k1, by omega, (x1.set r2.1.toNat ((gt x1 r2.1).1, (gt a1 x2).2.2)), A4, c_4, (w64 (x2 + 1)), rfl, h9, H⟩
          · rw [c2] at e; cases e
      · replace H := ite_f c2 H
        refine RJ.know (t := 27) rfl (congrArg Value.bool c2) ?_
        refine RJ.run ttok 4 rfl ?_
        refine RJ.fin [(5, .slice A4 x1.length c_4), (7, .pointer (some ⟨b1, 0, none⟩)), (8, .int .i64 r2.1), (9, .bool r2.2), (12, .slice A2 a1.length c_2), (13, .int .i64 (a1.length : Int)), (14, .int .i64 x2), (25, .bool false)] rfl ?_
        refine J.condF rfl ?_
        refine J.seq ?_
        refine J.region ?_
        refine RJ.run ttok 2 rfl ?_
        refine RJ.fin [(5, .slice A4 x1.length c_4), (7, .pointer (some ⟨b1, 0, none⟩)), (8, .int .i64 r2.1), (12, .slice A2 a1.length c_2), (13, .int .i64 (a1.length : Int)), (14, .int .i64 x2), (36, .bool r2.2)] rfl ?_
        refine J.cond rfl (fun e => ?_) (fun e => ?_)
        · rw [c2] at e; cases e
        · refine J.seq ?_
          refine J.region ?_
          refine RJ.run ttok 1 rfl ?_
          refine RJ.q rfl rfl (q_load_box ttok 0 (fun w e => e ▸ h5.wh) rfl rfl rfl rfl rfl) ?_
          refine RJ.run ttok 2 rfl ?_
          refine RJ.fin [(5, .slice A4 x1.length c_4), (7, .pointer (some ⟨b1, 0, none⟩)), (8, .int .i64 r2.1), (12, .slice A2 a1.length c_2), (13, .int .i64 (a1.length : Int)), (14, .int .i64 x2), (44, .bool (!((gt a1 x2).2.1)))] rfl ?_
          refine J.cond rfl (fun c4 => ?_) (fun c4 => ?_)
          · replace H := ite_t c4 H
            refine J.region ?_
            refine RJ.run ttok 3 rfl ?_
            refine RJ.q rfl rfl (q_load_box ttok 0 (fun w e => e ▸ h5.wh) rfl rfl rfl rfl rfl) ?_
            refine RJ.run ttok 1 rfl ?_
            refine RJ.q rfl rfl (q_load_box ttok 0 (fun w e => e ▸ h5.wh) rfl rfl rfl rfl rfl) ?_
            refine RJ.run ttok 1 rfl ?_
            refine RJ.op rfl rfl (op_lit ttok (.pair .str .str) rfl ([((gt a1 x2).1, (gt a1 x2).2.2)] : List (List UInt8 × List UInt8)) rfl h5 rfl rfl (by decide) rfl rfl rfl rfl rfl rfl rfl) ?_
            rintro _ w8 ⟨b2, rfl, h10⟩
            replace h10 : St w0 F0 [ownC 75 (.pair .str .str) ([((gt a1 x2).1, (gt a1 x2).2.2)] : List (List UInt8 × List UInt8)) (.slice (some ⟨b2, 0, none⟩) ([((gt a1 x2).1, (gt a1 x2).2.2)] : List (List UInt8 × List UInt8)).length 1), boxC b1 135 [.string ⟨⟨(gt a1 x2).1⟩⟩, .bool ((gt a1 x2).2.1), .string ⟨⟨(gt a1 x2).2.2⟩⟩], ownC 75 (.pair .str .str) x1 (.slice A4 x1.length c_4)] _ _ := h10
            obtain ⟨r4, q4, H⟩ := bind_t H
            refine RJ.op rfl rfl (op_call [2] (slices_Insert_api_Pair_api_Pair.spec q4) rfl rfl rfl h10 rfl (gcons (Gives.of 0 rfl own_rd) gnil)) ?_
            rintro _ w9 ⟨_, ⟨A6, c_6, rfl, rfl⟩, h11⟩
            replace h11 : St w0 F0 [ownC 75 (.pair .str .str) r4 (.slice A6 r4.length c_6), ownC 75 (.pair .str .str) ([((gt a1 x2).1, (gt a1 x2).2.2)] : List (List UInt8 × List UInt8)) (.slice (some ⟨b2, 0, none⟩) ([((gt a1 x2).1, (gt a1 x2).2.2)] : List (List UInt8 × List UInt8)).length 1), boxC b1 135 [.string ⟨⟨(gt a1 x2).1⟩⟩, .bool ((gt a1 x2).2.1), .string ⟨⟨(gt a1 x2).2.2⟩⟩]] _ _ := h11
            refine RJ.run ttok 1 rfl ?_
            refine RJ.fin [(5, .slice A6 r4.length c_6), (12, .slice A2 a1.length c_2), (13, .int .i64 (a1.length : Int)), (14, .int .i64 x2)] rfl ?_
            have h12 := h11.only [0] rfl
            replace h12 : St w0 F0 [ownC 75 (.pair .str .str) r4 (.slice A6 r4.length c_6)] _ _ := h12
            refine J.region ?_
            refine RJ.run ttok 2 rfl ?_
            refine RJ.fin [(5, .slice A6 r4.length c_6), (12, .slice A2 a1.length c_2), (13, .int .i64 (a1.length : Int)), (14, .int .i64 (w64 (x2 + 1)))] rfl ?_
            have h13 := ((h12.only [0] rfl).rds [0] rfl)
            exact ⟨k1, by omega, r4, A6, c_6, (w64 (x2 + 1)), rfl, h13, H⟩
          · replace H := ite_f c4 H
            refine J.skip ?_
            refine J.region ?_
            refine RJ.run ttok 2 rfl ?_
            refine RJ.fin [(5, .slice A4 x1.length c_4), (12, .slice A2 a1.length c_2), (13, .int .i64 (a1.length : Int)), (14, .int .i64 (w64 (x2 + 1)))] rfl ?_
            have h14 := ((h5.only [1] rfl).rds [0] rfl)
            exact ⟨k1, by omega, x1, A4, c_4, (w64 (x2 + 1)), rfl, h14, H⟩
    · replace H := ite_f c1 H
      refine J.exit ?_
      refine J.seq ?_
      refine J.region ?_
      refine RJ.run ttok 2 rfl ?_
      refine RJ.fin [(4, .slice A4 x1.length c_4)] rfl ?_
      refine J.ret ?_
      obtain rfl := Option.some.inj H
      exact ⟨_, _, _, (results_slots rfl), ⟨_, _, rfl, rfl⟩, h2.only [0] rfl⟩

/-! sluicegate/buf.Merge -/
def buf_Merge.l0 : Nat → (List (List UInt8 × Bool × List UInt8)) → (List (List UInt8 × Bool × List UInt8)) → (List (List UInt8 × Bool × List UInt8)) → Option ((List (List UInt8 × Bool × List UInt8)))
  | 0, _, _, _ => none
  | k + 1, x1, x2, x3 => if (decide (0 < (x1.length : Int))) = true then (if (decide (0 < (x2.length : Int))) = true then (if 0 < (x1.length : Int) then (if 0 < (x2.length : Int) then ((lex_Compare.f ((gt x1 0).1) ((gt x2 0).1)).bind fun r1 => (if (decide (r1 = 1)) = true then (if (x3.length + ([((gt x2 0).1, (gt x2 0).2.1, (gt x2 0).2.2)] : List (List UInt8 × Bool × List UInt8)).length) * 40 ≤ 140737488355328 then (if (1 : Int) ≤ (x2.length : Int) then (buf_Merge.l0 k x1 (x2.drop 1) (x3 ++ ([((gt x2 0).1, (gt x2 0).2.1, (gt x2 0).2.2)] : List (List UInt8 × Bool × List UInt8)))) else none) else none) else (if (decide (r1 = 0)) = true then (if (1 : Int) ≤ (x2.length : Int) then (if (x3.length + ([((gt x1 0).1, (gt x1 0).2.1, (gt x1 0).2.2)] : List (List UInt8 × Bool × List UInt8)).length) * 40 ≤ 140737488355328 then (if (1 : Int) ≤ (x1.length : Int) then (buf_Merge.l0 k (x1.drop 1) (x2.drop 1) (x3 ++ ([((gt x1 0).1, (gt x1 0).2.1, (gt x1 0).2.2)] : List (List UInt8 × Bool × List UInt8)))) else none) else none) else none) else (if (x3.length + ([((gt x1 0).1, (gt x1 0).2.1, (gt x1 0).2.2)] : List (List UInt8 × Bool × List UInt8)).length) * 40 ≤ 140737488355328 then (if (1 : Int) ≤ (x1.length : Int) then (buf_Merge.l0 k (x1.drop 1) x2 (x3 ++ ([((gt x1 0).1, (gt x1 0).2.1, (gt x1 0).2.2)] : List (List UInt8 × Bool × List UInt8)))) else none) else none)))) else none) else none) else (if (x3.length + x1.length) * 40 ≤ 140737488355328 then (if ((x3 ++ x1).length + x2.length) * 40 ≤ 140737488355328 then (some ((x3 ++ x1) ++ x2)) else none) else none)) else (if (x3.length + x1.length) * 40 ≤ 140737488355328 then (if ((x3 ++ x1).length + x2.length) * 40 ≤ 140737488355328 then (some ((x3 ++ x1) ++ x2)) else none) else none)
def buf_Merge.f (k : Nat) (a0 : List (List UInt8 × Bool × List UInt8)) (a1 : List (List UInt8 × Bool × List UInt8)) : Option ((List (List UInt8 × Bool × List UInt8))) := if 0 ≤ (w64 ((a0.length : Int) + (a1.length : Int))) ∧ (w64 ((a0.length : Int) + (a1.length : Int))) * 40 ≤ 281474976710656 then (buf_Merge.l0 k a0 a1 ([] : List (List UInt8 × Bool × List UInt8))) else none
set_option maxRecDepth 20000 in
set_option maxHeartbeats 40000000 in
theorem buf_Merge.spec {k : Nat} {a0 : List (List UInt8 × Bool × List UInt8)} {a1 : List (List UInt8 × Bool × List UInt8)} {A1 : Option Addr} {c_1 : Nat} {A2 : Option Addr} {c_2 : Nat} {r : (List (List UInt8 × Bool × List UInt8))} (H : buf_Merge.f k a0 a1 = some r) :
    Spec Try.prog 86 [.slice A1 a0.length c_1, .slice A2 a1.length c_2] [] [rdC 135 (.pair .str (.pair .bool .str)) a0 (.slice A1 a0.length c_1), rdC 135 (.pair .str (.pair .bool .str)) a1 (.slice A2 a1.length c_2)] (fun v l => ∃ (A_0 : Option Addr) (c_0 : Nat), v = .slice A_0 r.length c_0 ∧ l = [ownC 135 (.pair .str (.pair .bool .str)) r (.slice A_0 r.length c_0)]) := by
  refine Spec.enter Try.func86 rfl (by kernel_rfl) (by kernel_rfl) fun w0 F0 h0 => ?_
  unfold buf_Merge.f at H
  refine J.seq ?_
  refine J.region ?_
  refine RJ.run ttok 1 rfl ?_
  refine RJ.fin [(0, .slice A1 a0.length c_1), (1, .slice A2 a1.length c_2)] rfl ?_
  refine J.seq ?_
  refine J.region ?_
  refine RJ.run ttok 5 rfl ?_
  obtain ⟨⟨p1, p2⟩, H⟩ := guard_t H
  refine RJ.op rfl rfl (op_make0 ttok (.pair .str (.pair .bool .str)) rfl rfl rfl rfl rfl rfl (by decide) h0 p1 p2) ?_
  rintro _ w1 ⟨b1, rfl, h1⟩
  replace h1 : St w0 F0 [ownC 135 (.pair .str (.pair .bool .str)) ([] : List (List UInt8 × Bool × List UInt8)) (.slice (some ⟨b1, 0, none⟩) ([] : List (List UInt8 × Bool × List UInt8)).length ((w64 ((a0.length : Int) + (a1.length : Int))).toNat))] _ _ := h1
  refine RJ.run ttok 1 rfl ?_
  refine RJ.fin [(0, .slice A1 a0.length c_1), (1, .slice A2 a1.length c_2), (5, .slice (some ⟨b1, 0, none⟩) ([] : List (List UInt8 × Bool × List UInt8)).length ((w64 ((a0.length : Int) + (a1.length : Int))).toNat))] rfl ?_
  refine J.seq ?_
  refine J.block ?_
  have h22 := ((h1.only [0] rfl).rds [0, 1] rfl)
  refine J.loop (fun k env w => ∃ (x1 : List (List UInt8 × Bool × List UInt8)) (A3 : Option Addr) (c_3 : Nat) (x2 : List (List UInt8 × Bool × List UInt8)) (A4 : Option Addr) (c_4 : Nat) (x3 : List (List UInt8 × Bool × List UInt8)) (A5 : Option Addr) (c_5 : Nat), env = [(0, .slice A3 x1.length c_3), (1, .slice A4 x2.length c_4), (5, .slice A5 x3.length c_5)] ∧ St w0 F0 [ownC 135 (.pair .str (.pair .bool .str)) x3 (.slice A5 x3.length c_5)] [rdC 135 (.pair .str (.pair .bool .str)) x1 (.slice A3 x1.length c_3), rdC 135 (.pair .str (.pair .bool .str)) x2 (.slice A4 x2.length c_4)] w ∧ buf_Merge.l0 k x1 x2 x3 = some r) (k := k) ⟨a0, A1, c_1, a1, A2, c_2, ([] : List (List UInt8 × Bool × List UInt8)), (some ⟨b1, 0, none⟩), ((w64 ((a0.length : Int) + (a1.length : Int))).toNat), rfl, h22, H⟩ ?_
  rintro k1 env w2 ⟨x1, A3, c_3, x2, A4, c_4, x3, A5, c_5, rfl, h2, H⟩
  cases k1 with
  | zero => exact nomatch (show none = some r from H)
  | succ k1 =>
    rw [buf_Merge.l0] at H
    refine J.seq ?_
    refine J.seq ?_
    refine J.region ?_
    refine RJ.run ttok 4 rfl ?_
    rcases Bool.eq_false_or_eq_true (decide (0 < (x1.length : Int))) with c1 | c1
    · replace H := ite_t c1 H
      refine RJ.know (t := 15) rfl (congrArg Value.bool c1) ?_
      refine RJ.run ttok 4 rfl ?_
      refine RJ.fin [(0, .slice A3 x1.length c_3), (1, .slice A4 x2.length c_4), (5, .slice A5 x3.length c_5), (19, .bool (decide (0 < (x2.length : Int))))] rfl ?_
      refine J.cond rfl (fun c2 => ?_) (fun c2 => ?_)
      · replace H := ite_t c2 H
        refine J.skip ?_
        refine J.block ?_
        refine J.seq ?_
        refine J.seq ?_
        refine J.heldSt mix h2 ?_
        have h3 := h2.drew
        refine HJ.run ttok rfl [0, 4] rfl ?_
        obtain ⟨p3, H⟩ := guard_t H
        have e1 := elem_A h3.wh (Gives.self 1 rfl) (by decide) p3
        refine HJ.q (i := 1) rfl rfl rfl rfl rfl rfl (q_index ttok rfl rfl rfl rfl rfl e1 (by decide) p3) ?_
        refine HJ.run ttok rfl [2] rfl ?_
        refine HJ.q (i := 3) rfl rfl rfl rfl rfl rfl (q_load_elem (f := 0) ttok rfl (fun w e => e) (Gives.self 1 rfl) (by decide) p3 rfl rfl rfl rfl rfl) ?_
        obtain ⟨p4, H⟩ := guard_t H
        have e2 := elem_A h3.wh (Gives.self 2 rfl) (by decide) p4
        refine HJ.q (i := 5) rfl rfl rfl rfl rfl rfl (q_index ttok rfl rfl rfl rfl rfl e2 (by decide) p4) ?_
        refine HJ.run ttok rfl [6] rfl ?_
        refine HJ.q (i := 7) rfl rfl rfl rfl rfl rfl (q_load_elem (f := 0) ttok rfl (fun w e => e) (Gives.self 2 rfl) (by decide) p4 rfl rfl rfl rfl rfl) ?_
        obtain ⟨r1, q1, H⟩ := bind_t H
        refine HJ.op (i := 8) rfl rfl rfl rfl rfl (op_call [] (lex_Compare.spec q1) rfl rfl rfl h3 rfl gnil) ?_
        rintro _ w3 ⟨_, ⟨rfl, rfl⟩, h4⟩
        replace h4 : St w0 F0 [ownC 135 (.pair .str (.pair .bool .str)) x3 (.slice A5 x3.length c_5)] _ _ := h4
        refine ⟨⟨[], h4⟩, ?_⟩
        refine HJ.fin [(0, .slice A3 x1.length c_3), (1, .slice A4 x2.length c_4), (5, .slice A5 x3.length c_5), (28, .int .i64 r1)] rfl rfl ?_
        refine J.block ?_
        refine J.seq ?_
        refine J.region ?_
        refine RJ.run ttok 2 rfl ?_
        refine RJ.fin [(0, .slice A3 x1.length c_3), (1, .slice A4 x2.length c_4), (5, .slice A5 x3.length c_5), (28, .int .i64 r1), (29, .bool (decide (r1 = 1)))] rfl ?_
        refine J.cond rfl (fun c3 => ?_) (fun c3 => ?_)
        · replace H := ite_t c3 H
          refine J.seq ?_
          refine J.region ?_
          refine RJ.run ttok 2 rfl ?_
          refine RJ.q rfl rfl (q_index ttok rfl rfl rfl rfl rfl e2 (by decide) p4) ?_
          refine RJ.q rfl rfl (q_load_elem (f := 0) ttok rfl (fun w e => e ▸ h4.wh) (Gives.self 2 rfl) (by decide) p4 rfl rfl rfl rfl rfl) ?_
          refine RJ.op rfl rfl (op_lit ttok (.pair .str (.pair .bool .str)) rfl ([((gt x2 0).1, (gt x2 0).2.1, (gt x2 0).2.2)] : List (List UInt8 × Bool × List UInt8)) rfl h4 rfl rfl (by decide) rfl rfl rfl rfl rfl rfl rfl) ?_
          rintro _ w4 ⟨b2, rfl, h5⟩
          replace h5 : St w0 F0 [ownC 135 (.pair .str (.pair .bool .str)) ([((gt x2 0).1, (gt x2 0).2.1, (gt x2 0).2.2)] : List (List UInt8 × Bool × List UInt8)) (.slice (some ⟨b2, 0, none⟩) ([((gt x2 0).1, (gt x2 0).2.1, (gt x2 0).2.2)] : List (List UInt8 × Bool × List UInt8)).length 1), ownC 135 (.pair .str (.pair .bool .str)) x3 (.slice A5 x3.length c_5)] _ _ := h5
          obtain ⟨p5, H⟩ := guard_t H
          refine RJ.op rfl rfl (op_append ttok rfl 1 rfl h5 rfl (Gives.of 0 rfl own_rd) rfl rfl rfl rfl rfl rfl (by decide) (by decide) p5) ?_
          rintro _ w5 ⟨A6, c_6, rfl, h6⟩
          replace h6 : St w0 F0 [ownC 135 (.pair .str (.pair .bool .str)) (x3 ++ ([((gt x2 0).1, (gt x2 0).2.1, (gt x2 0).2.2)] : List (List UInt8 × Bool × List UInt8))) (.slice A6 (x3 ++ ([((gt x2 0).1, (gt x2 0).2.1, (gt x2 0).2.2)] : List (List UInt8 × Bool × List UInt8))).length c_6), ownC 135 (.pair .str (.pair .bool .str)) ([((gt x2 0).1, (gt x2 0).2.1, (gt x2 0).2.2)] : List (List UInt8 × Bool × List UInt8)) (.slice (some ⟨b2, 0, none⟩) ([((gt x2 0).1, (gt x2 0).2.1, (gt x2 0).2.2)] : List (List UInt8 × Bool × List UInt8)).length 1)] _ _ := h6
          refine RJ.run ttok 1 rfl ?_
          refine RJ.fin [(0, .slice A3 x1.length c_3), (1, .slice A4 x2.length c_4), (5, .slice A6 (x3 ++ ([((gt x2 0).1, (gt x2 0).2.1, (gt x2 0).2.2)] : List (List UInt8 × Bool × List UInt8))).length c_6)] rfl ?_
          refine J.seq ?_
          refine J.region ?_
          refine RJ.run ttok 1 rfl ?_
          obtain ⟨p6, H⟩ := guard_t H
          have e3 := h6.cap (Gives.self 3 rfl)
          refine RJ.q rfl rfl (q_cut (l := 1) (h := (x2.length : Int)) (sub := (x2.drop 1)) ttok rfl rfl rfl rfl e3 ⟨_, rfl⟩ rfl (by decide) p6 (Int.le_refl _) (cut_from _ _)) ?_
          refine RJ.run ttok 1 rfl ?_
          refine RJ.fin [(0, .slice A3 x1.length c_3), (1, .slice (cutA A4 c_4 1 3) (x2.drop 1).length (c_4 - 1)), (5, .slice A6 (x3 ++ ([((gt x2 0).1, (gt x2 0).2.1, (gt x2 0).2.2)] : List (List UInt8 × Bool × List UInt8))).length c_6)] rfl ?_
          refine J.exit ?_
          have h7 := h6.read (k := 1) rfl (fun w F h => ((rd_cut (ty := (.pair .str (.pair .bool .str))) (l := 1) (h := (x2.length : Int)) (sub := (x2.drop 1)) rfl (by decide) p6 (Int.le_refl _) (cut_from _ _)) w F h))
          have h8 := ((h7.only [0] rfl).rds [1, 0] rfl)
          exact ⟨k1, by omega, x1, A3, c_3, (x2.drop 1), (cutA A4 c_4 1 3), (c_4 - 1), (x3 ++ ([((gt x2 0).1, (gt x2 0).2.1, (gt x2 0).2.2)] : List (List UInt8 × Bool × List UInt8))), A6, c_6, rfl, h8, H⟩
        · replace H := ite_f c3 H
          refine J.seq ?_
          refine J.region ?_
          refine RJ.run ttok 2 rfl ?_
          refine RJ.fin [(0, .slice A3 x1.length c_3), (1, .slice A4 x2.length c_4), (5, .slice A5 x3.length c_5), (39, .bool (decide (r1 = 0)))] rfl ?_
          refine J.cond rfl (fun c4 => ?_) (fun c4 => ?_)
          · replace H := ite_t c4 H
            refine J.region ?_
            refine RJ.run ttok 1 rfl ?_
            obtain ⟨p7, H⟩ := guard_t H
            have e4 := h4.cap (Gives.self 2 rfl)
            refine RJ.q rfl rfl (q_cut (l := 1) (h := (x2.length : Int)) (sub := (x2.drop 1)) ttok rfl rfl rfl rfl e4 ⟨_, rfl⟩ rfl (by decide) p7 (Int.le_refl _) (cut_from _ _)) ?_
            refine RJ.run ttok 1 rfl ?_
            refine RJ.fin [(0, .slice A3 x1.length c_3), (1, .slice (cutA A4 c_4 1 3) (x2.drop 1).length (c_4 - 1)), (5, .slice A5 x3.length c_5)] rfl ?_
            refine J.seq ?_
            refine J.region ?_
            refine RJ.run ttok 2 rfl ?_
            refine RJ.q rfl rfl (q_index ttok rfl rfl rfl rfl rfl e1 (by decide) p3) ?_
            refine RJ.q rfl rfl (q_load_elem (f := 0) ttok rfl (fun w e => e ▸ h4.wh) (Gives.self 1 rfl) (by decide) p3 rfl rfl rfl rfl rfl) ?_
            refine RJ.op rfl rfl (op_lit ttok (.pair .str (.pair .bool .str)) rfl ([((gt x1 0).1, (gt x1 0).2.1, (gt x1 0).2.2)] : List (List UInt8 × Bool × List UInt8)) rfl h4 rfl rfl (by decide) rfl rfl rfl rfl rfl rfl rfl) ?_
            rintro _ w6 ⟨b3, rfl, h9⟩
            replace h9 : St w0 F0 [ownC 135 (.pair .str (.pair .bool .str)) ([((gt x1 0).1, (gt x1 0).2.1, (gt x1 0).2.2)] : List (List UInt8 × Bool × List UInt8)) (.slice (some ⟨b3, 0, none⟩) ([((gt x1 0).1, (gt x1 0).2.1, (gt x1 0).2.2)] : List (List UInt8 × Bool × List UInt8)).length 1), ownC 135 (.pair .str (.pair .bool .str)) x3 (.slice A5 x3.length c_5)] _ _ := h9
            obtain ⟨p8, H⟩ := guard_t H
            refine RJ.op rfl rfl (op_append ttok rfl 1 rfl h9 rfl (Gives.of 0 rfl own_rd) rfl rfl rfl rfl rfl rfl (by decide) (by decide) p8) ?_
            rintro _ w7 ⟨A7, c_7, rfl, h10⟩
            replace h10 : St w0 F0 [ownC 135 (.pair .str (.pair .bool .str)) (x3 ++ ([((gt x1 0).1, (gt x1 0).2.1, (gt x1 0).2.2)] : List (List UInt8 × Bool × List UInt8))) (.slice A7 (x3 ++ ([((gt x1 0).1, (gt x1 0).2.1, (gt x1 0).2.2)] : List (List UInt8 × Bool × List UInt8))).length c_7), ownC 135 (.pair .str (.pair .bool .str)) ([((gt x1 0).1, (gt x1 0).2.1, (gt x1 0).2.2)] : List (List UInt8 × Bool × List UInt8)) (.slice (some ⟨b3, 0, none⟩) ([((gt x1 0).1, (gt x1 0).2.1, (gt x1 0).2.2)] : List (List UInt8 × Bool × List UInt8)).length 1)] _ _ := h10
            refine RJ.run ttok 1 rfl ?_
            refine RJ.fin [(0, .slice A3 x1.length c_3), (1, .slice (cutA A4 c_4 1 3) (x2.drop 1).length (c_4 - 1)), (5, .slice A7 (x3 ++ ([((gt x1 0).1, (gt x1 0).2.1, (gt x1 0).2.2)] : List (List UInt8 × Bool × List UInt8))).length c_7)] rfl ?_
            refine J.region ?_
            refine RJ.run ttok 1 rfl ?_
            obtain ⟨p9, H⟩ := guard_t H
            have e5 := h10.cap (Gives.self 2 rfl)
            refine RJ.q rfl rfl (q_cut (l := 1) (h := (x1.length : Int)) (sub := (x1.drop 1)) ttok rfl rfl rfl rfl e5 ⟨_, rfl⟩ rfl (by decide) p9 (Int.le_refl _) (cut_from _ _)) ?_
            refine RJ.run ttok 1 rfl ?_
            refine RJ.fin [(0, .slice (cutA A3 c_3 1 3) (x1.drop 1).length (c_3 - 1)), (1, .slice (cutA A4 c_4 1 3) (x2.drop 1).length (c_4 - 1)), (5, .slice A7 (x3 ++ ([((gt x1 0).1, (gt x1 0).2.1, (gt x1 0).2.2)] : List (List UInt8 × Bool × List UInt8))).length c_7)] rfl ?_
            have h11 := h10.read (k := 0) rfl (fun w F h => ((rd_cut (ty := (.pair .str (.pair .bool .str))) (l := 1) (h := (x1.length : Int)) (sub := (x1.drop 1)) rfl (by decide) p9 (Int.le_refl _) (cut_from _ _)) w F h))
            have h12 := h11.read (k := 2) rfl (fun w F h => ((rd_cut (ty := (.pair .str (.pair .bool .str))) (l := 1) (h := (x2.length : Int)) (sub := (x2.drop 1)) rfl (by decide) p7 (Int.le_refl _) (cut_from _ _)) w F h))
            have h13 := ((h12.only [0] rfl).rds [1, 0] rfl)
            exact ⟨k1, by omega, (x1.drop 1), (cutA A3 c_3 1 3), (c_3 - 1), (x2.drop 1), (cutA A4 c_4 1 3), (c_4 - 1), (x3 ++ ([((gt x1 0).1, (gt x1 0).2.1, (gt x1 0).2.2)] : List (List UInt8 × Bool × List UInt8))), A7, c_7, rfl, h13, H⟩
          · replace H := ite_f c4 H
            refine J.skip ?_
            refine J.seq ?_
            refine J.region ?_
            refine RJ.run ttok 2 rfl ?_
            refine RJ.q rfl rfl (q_index ttok rfl rfl rfl rfl rfl e1 (by decide) p3) ?_
            refine RJ.q rfl rfl (q_load_elem (f := 0) ttok rfl (fun w e => e ▸ h4.wh) (Gives.self 1 rfl) (by decide) p3 rfl rfl rfl rfl rfl) ?_
            refine RJ.op rfl rfl (op_lit ttok (.pair .str (.pair .bool .str)) rfl ([((gt x1 0).1, (gt x1 0).2.1, (gt x1 0).2.2)] : List (List UInt8 × Bool × List UInt8)) rfl h4 rfl rfl (by decide) rfl rfl rfl rfl rfl rfl rfl) ?_
            rintro _ w8 ⟨b4, rfl, h14⟩
            replace h14 : St w0 F0 [ownC 135 (.pair .str (.pair .bool .str)) ([((gt x1 0).1, (gt x1 0).2.1, (gt x1 0).2.2)] : List (List UInt8 × Bool × List UInt8)) (.slice (some ⟨b4, 0, none⟩) ([((gt x1 0).1, (gt x1 0).2.1, (gt x1 0).2.2)] : List (List UInt8 × Bool × List UInt8)).length 1), ownC 135 (.pair .str (.pair .bool .str)) x3 (.slice A5 x3.length c_5)] _ _ := h14
            obtain ⟨p10, H⟩ := guard_t H
            refine RJ.op rfl rfl (op_append ttok rfl 1 rfl h14 rfl (Gives.of 0 rfl own_rd) rfl rfl rfl rfl rfl rfl (by decide) (by decide) p10) ?_
            rintro _ w9 ⟨A8, c_8, rfl, h15⟩
            replace h15 : St w0 F0 [ownC 135 (.pair .str (.pair .bool .str)) (x3 ++ ([((gt x1 0).1, (gt x1 0).2.1, (gt x1 0).2.2)] : List (List UInt8 × Bool × List UInt8))) (.slice A8 (x3 ++ ([((gt x1 0).1, (gt x1 0).2.1, (gt x1 0).2.2)] : List (List UInt8 × Bool × List UInt8))).length c_8), ownC 135 (.pair .str (.pair .bool .str)) ([((gt x1 0).1, (gt x1 0).2.1, (gt x1 0).2.2)] : List (List UInt8 × Bool × List UInt8)) (.slice (some ⟨b4, 0, none⟩) ([((gt x1 0).1, (gt x1 0).2.1, (gt x1 0).2.2)] : List (List UInt8 × Bool × List UInt8)).length 1)] _ _ := h15
            refine RJ.run ttok 1 rfl ?_
            refine RJ.fin [(0, .slice A3 x1.length c_3), (1, .slice A4 x2.length c_4), (5, .slice A8 (x3 ++ ([((gt x1 0).1, (gt x1 0).2.1, (gt x1 0).2.2)] : List (List UInt8 × Bool × List UInt8))).length c_8)] rfl ?_
            refine J.region ?_
            refine RJ.run ttok 1 rfl ?_
            obtain ⟨p11, H⟩ := guard_t H
            have e6 := h15.cap (Gives.self 2 rfl)
            refine RJ.q rfl rfl (q_cut (l := 1) (h := (x1.length : Int)) (sub := (x1.drop 1)) ttok rfl rfl rfl rfl e6 ⟨_, rfl⟩ rfl (by decide) p11 (Int.le_refl _) (cut_from _ _)) ?_
            refine RJ.run ttok 1 rfl ?_
            refine RJ.fin [(0, .slice (cutA A3 c_3 1 3) (x1.drop 1).length (c_3 - 1)), (1, .slice A4 x2.length c_4), (5, .slice A8 (x3 ++ ([((gt x1 0).1, (gt x1 0).2.1, (gt x1 0).2.2)] : List (List UInt8 × Bool × List UInt8))).length c_8)] rfl ?_
            have h16 := h15.read (k := 0) rfl (fun w F h => ((rd_cut (ty := (.pair .str (.pair .bool .str))) (l := 1) (h := (x1.length : Int)) (sub := (x1.drop 1)) rfl (by decide) p11 (Int.le_refl _) (cut_from _ _)) w F h))
            have h17 := ((h16.only [0] rfl).rds [0, 2] rfl)
            exact ⟨k1, by omega, (x1.drop 1), (cutA A3 c_3 1 3), (c_3 - 1), x2, A4, c_4, (x3 ++ ([((gt x1 0).1, (gt x1 0).2.1, (gt x1 0).2.2)] : List (List UInt8 × Bool × List UInt8))), A8, c_8, rfl, h17, H⟩
      · replace H := ite_f c2 H
        refine J.exit ?_
        refine J.seq ?_
        refine J.region ?_
        refine RJ.run ttok 2 rfl ?_
        obtain ⟨p12, H⟩ := guard_t H
        refine RJ.op rfl rfl (op_append ttok rfl 0 rfl h2 rfl (Gives.self 0 rfl) rfl rfl rfl rfl rfl rfl (by decide) (by decide) p12) ?_
        rintro _ w10 ⟨A9, c_9, rfl, h18⟩
        replace h18 : St w0 F0 [ownC 135 (.pair .str (.pair .bool .str)) (x3 ++ x1) (.slice A9 (x3 ++ x1).length c_9)] _ _ := h18
        refine RJ.run ttok 1 rfl ?_
        refine RJ.fin [(1, .slice A4 x2.length c_4), (5, .slice A9 (x3 ++ x1).length c_9)] rfl ?_
        refine J.seq ?_
        refine J.region ?_
        refine RJ.run ttok 2 rfl ?_
        obtain ⟨p13, H⟩ := guard_t H
        refine RJ.op rfl rfl (op_append ttok rfl 0 rfl h18 rfl (Gives.self 1 rfl) rfl rfl rfl rfl rfl rfl (by decide) (by decide) p13) ?_
        rintro _ w11 ⟨A10, c_10, rfl, h19⟩
        replace h19 : St w0 F0 [ownC 135 (.pair .str (.pair .bool .str)) ((x3 ++ x1) ++ x2) (.slice A10 ((x3 ++ x1) ++ x2).length c_10)] _ _ := h19
        refine RJ.run ttok 1 rfl ?_
        refine RJ.fin [(4, .slice A10 ((x3 ++ x1) ++ x2).length c_10)] rfl ?_
        refine J.ret ?_
        obtain rfl := Option.some.inj H
        exact ⟨_, _, _, (results_slots rfl), ⟨_, _, rfl, rfl⟩, h19.only [0] rfl⟩
    · replace H := ite_f c1 H
      refine RJ.know (t := 15) rfl (congrArg Value.bool c1) ?_
      refine RJ.run ttok 4 rfl ?_
      refine RJ.fin [(0, .slice A3 x1.length c_3), (1, .slice A4 x2.length c_4), (5, .slice A5 x3.length c_5), (19, .bool false)] rfl ?_
      refine J.condF rfl ?_
      refine J.exit ?_
      refine J.seq ?_
      refine J.region ?_
      refine RJ.run ttok 2 rfl ?_
      obtain ⟨p14, H⟩ := guard_t H
      refine RJ.op rfl rfl (op_append ttok rfl 0 rfl h2 rfl (Gives.self 0 rfl) rfl rfl rfl rfl rfl rfl (by decide) (by decide) p14) ?_
      rintro _ w12 ⟨A11, c_11, rfl, h20⟩
      replace h20 : St w0 F0 [ownC 135 (.pair .str (.pair .bool .str)) (x3 ++ x1) (.slice A11 (x3 ++ x1).length c_11)] _ _ := h20
      refine RJ.run ttok 1 rfl ?_
      refine RJ.fin [(1, .slice A4 x2.length c_4), (5, .slice A11 (x3 ++ x1).length c_11)] rfl ?_
      refine J.seq ?_
      refine J.region ?_
      refine RJ.run ttok 2 rfl ?_
      obtain ⟨p15, H⟩ := guard_t H
      refine RJ.op rfl rfl (op_append ttok rfl 0 rfl h20 rfl (Gives.self 1 rfl) rfl rfl rfl rfl rfl rfl (by decide) (by decide) p15) ?_
      rintro _ w13 ⟨A12, c_12, rfl, h21⟩
      replace h21 : St w0 F0 [ownC 135 (.pair .str (.pair .bool .str)) ((x3 ++ x1) ++ x2) (.slice A12 ((x3 ++ x1) ++ x2).length c_12)] _ _ := h21
      refine RJ.run ttok 1 rfl ?_
      refine RJ.fin [(4, .slice A12 ((x3 ++ x1) ++ x2).length c_12)] rfl ?_
      refine J.ret ?_
      obtain rfl := Option.some.inj H
      exact ⟨_, _, _, (results_slots rfl), ⟨_, _, rfl, rfl⟩, h21.only [0] rfl⟩

/-! sluicegate/pour.Pour -/
def pour_Pour.f (k : Nat) (a0 : Int × Int × Int × Int × Int × Int × Int × Int) (a1 : Int × List (Int) × List (List UInt8) × (List (List UInt8 × Bool × List UInt8)) × (List (List UInt8 × List UInt8))) (a2 : Int) (a3 : Int × List (Int) × List (List UInt8) × (List (List UInt8 × Bool × List UInt8)) × (List (List UInt8 × List UInt8))) (a4 : Int) : Option ((Int × List (Int) × List (List UInt8) × (List (List UInt8 × Bool × List UInt8)) × (List (List UInt8 × List UInt8))) × (Int × List (Int) × List (List UInt8) × (List (List UInt8 × Bool × List UInt8)) × (List (List UInt8 × List UInt8))) × Int) := (node_Clone.f (a1.1, a1.2.1, a1.2.2.1, a1.2.2.2.1, a1.2.2.2.2)).bind fun r1 => ((node_Clone.f (a3.1, a3.2.1, a3.2.2.1, a3.2.2.2.1, a3.2.2.2.2)).bind fun r2 => (if (decide (a2 < 0)) = true then (some ((r1.1, r1.2.1, r1.2.2.1, r1.2.2.2.1, r1.2.2.2.2), (r2.1, r2.2.1, r2.2.2.1, r2.2.2.2.1, r2.2.2.2.2), 0)) else (if (decide ((r1.2.1.length : Int) ≤ a2)) = true then (some ((r1.1, r1.2.1, r1.2.2.1, r1.2.2.2.1, r1.2.2.2.2), (r2.1, r2.2.1, r2.2.2.1, r2.2.2.2.1, r2.2.2.2.2), 0)) else (if (!decide (r1.1 = (w64 (r2.1 + 1)))) = true then (some ((r1.1, r1.2.1, r1.2.2.1, r1.2.2.2.1, r1.2.2.2.2), (r2.1, r2.2.1, r2.2.2.1, r2.2.2.2.1, r2.2.2.2.2), 0)) else (if (decide (a4 < 1)) = true then (some ((r1.1, r1.2.1, r1.2.2.1, r1.2.2.2.1, r1.2.2.2.2), (r2.1, r2.2.1, r2.2.2.1, r2.2.2.2.1, r2.2.2.2.2), 0)) else ((lex_All.f).bind fun r3 => ((fan_Span.f r1.2.2.1 a2 (r3.1, r3.2.1, r3.2.2)).bind fun r4 => (if (!r4.2) = true then (some ((r1.1, r1.2.1, r1.2.2.1, r1.2.2.2.1, r1.2.2.2.2), (r2.1, r2.2.1, r2.2.2.1, r2.2.2.2.1, r2.2.2.2.2), 0)) else (if (decide (0 < r2.1)) = true then ((buf_Take.f k r1.2.2.2.1 (r4.1.1, r4.1.2.1, r4.1.2.2) (if (w64 (a0.2.2.2.2.1 - (r2.2.2.2.1.length : Int))) < a4 then (w64 (a0.2.2.2.2.1 - (r2.2.2.2.1.length : Int))) else a4)).bind fun r5 => (if (decide (r2.1 = 0)) = true then ((leaf_Apply.f k r2.2.2.2.2 r5.1).bind fun r6 => (some ((r1.1, r1.2.1, r1.2.2.1, r5.2, r1.2.2.2.2), (r2.1, r2.2.1, r2.2.2.1, r2.2.2.2.1, r6), (r5.1.length : Int)))) else ((buf_Merge.f k r5.1 r2.2.2.2.1).bind fun r7 => (some ((r1.1, r1.2.1, r1.2.2.1, r5.2, r1.2.2.2.2), (r2.1, r2.2.1, r2.2.2.1, r7, r2.2.2.2.2), (r5.1.length : Int)))))) else ((buf_Take.f k r1.2.2.2.1 (r4.1.1, r4.1.2.1, r4.1.2.2) a4).bind fun r8 => (if (decide (r2.1 = 0)) = true then ((leaf_Apply.f k r2.2.2.2.2 r8.1).bind fun r9 => (some ((r1.1, r1.2.1, r1.2.2.1, r8.2, r1.2.2.2.2), (r2.1, r2.2.1, r2.2.2.1, r2.2.2.2.1, r9), (r8.1.length : Int)))) else ((buf_Merge.f k r8.1 r2.2.2.2.1).bind fun r10 => (some ((r1.1, r1.2.1, r1.2.2.1, r8.2, r1.2.2.2.2), (r2.1, r2.2.1, r2.2.2.1, r10, r2.2.2.2.2), (r8.1.length : Int)))))))))))))))
set_option maxRecDepth 20000 in
set_option maxHeartbeats 40000000 in
theorem pour_Pour.spec {k : Nat} {a0 : Int × Int × Int × Int × Int × Int × Int × Int} {a1 : Int × List (Int) × List (List UInt8) × (List (List UInt8 × Bool × List UInt8)) × (List (List UInt8 × List UInt8))} {a2 : Int} {a3 : Int × List (Int) × List (List UInt8) × (List (List UInt8 × Bool × List UInt8)) × (List (List UInt8 × List UInt8))} {a4 : Int} {A1 : Option Addr} {c_1 : Nat} {A2 : Option Addr} {c_2 : Nat} {A3 : Option Addr} {c_3 : Nat} {A4 : Option Addr} {c_4 : Nat} {A5 : Option Addr} {c_5 : Nat} {A6 : Option Addr} {c_6 : Nat} {A7 : Option Addr} {c_7 : Nat} {A8 : Option Addr} {c_8 : Nat} {r : (Int × List (Int) × List (List UInt8) × (List (List UInt8 × Bool × List UInt8)) × (List (List UInt8 × List UInt8))) × (Int × List (Int) × List (List UInt8) × (List (List UInt8 × Bool × List UInt8)) × (List (List UInt8 × List UInt8))) × Int} (H : pour_Pour.f k a0 a1 a2 a3 a4 = some r) :
    Spec Try.prog 44 [.agg #[.int .i64 a0.1, .int .i64 a0.2.1, .int .i64 a0.2.2.1, .int .i64 a0.2.2.2.1, .int .i64 a0.2.2.2.2.1, .int .i64 a0.2.2.2.2.2.1, .int .i64 a0.2.2.2.2.2.2.1, .int .i64 a0.2.2.2.2.2.2.2], .agg #[.int .i64 a1.1, .slice A1 a1.2.1.length c_1, .slice A2 a1.2.2.1.length c_2, .slice A3 a1.2.2.2.1.length c_3, .slice A4 a1.2.2.2.2.length c_4], .int .i64 a2, .agg #[.int .i64 a3.1, .slice A5 a3.2.1.length c_5, .slice A6 a3.2.2.1.length c_6, .slice A7 a3.2.2.2.1.length c_7, .slice A8 a3.2.2.2.2.length c_8], .int .i64 a4] [] [rdC 23 (.int .u32) a1.2.1 (.slice A1 a1.2.1.length c_1), rdC 9 .str a1.2.2.1 (.slice A2 a1.2.2.1.length c_2), rdC 135 (.pair .str (.pair .bool .str)) a1.2.2.2.1 (.slice A3 a1.2.2.2.1.length c_3), rdC 75 (.pair .str .str) a1.2.2.2.2 (.slice A4 a1.2.2.2.2.length c_4), rdC 23 (.int .u32) a3.2.1 (.slice A5 a3.2.1.length c_5), rdC 9 .str a3.2.2.1 (.slice A6 a3.2.2.1.length c_6), rdC 135 (.pair .str (.pair .bool .str)) a3.2.2.2.1 (.slice A7 a3.2.2.2.1.length c_7), rdC 75 (.pair .str .str) a3.2.2.2.2 (.slice A8 a3.2.2.2.2.length c_8)] (fun v l => ∃ (A_0 : Option Addr) (c_0 : Nat) (A_1 : Option Addr) (c_1 : Nat) (A_2 : Option Addr) (c_2 : Nat) (A_3 : Option Addr) (c_3 : Nat) (A_4 : Option Addr) (c_4 : Nat) (A_5 : Option Addr) (c_5 : Nat) (A_6 : Option Addr) (c_6 : Nat) (A_7 : Option Addr) (c_7 : Nat), v = .tuple #[.agg #[.int .i64 r.1.1, .slice A_0 r.1.2.1.length c_0, .slice A_1 r.1.2.2.1.length c_1, .slice A_2 r.1.2.2.2.1.length c_2, .slice A_3 r.1.2.2.2.2.length c_3], .agg #[.int .i64 r.2.1.1, .slice A_4 r.2.1.2.1.length c_4, .slice A_5 r.2.1.2.2.1.length c_5, .slice A_6 r.2.1.2.2.2.1.length c_6, .slice A_7 r.2.1.2.2.2.2.length c_7], .int .i64 r.2.2] ∧ l = [ownC 23 (.int .u32) r.1.2.1 (.slice A_0 r.1.2.1.length c_0), ownC 9 .str r.1.2.2.1 (.slice A_1 r.1.2.2.1.length c_1), ownC 135 (.pair .str (.pair .bool .str)) r.1.2.2.2.1 (.slice A_2 r.1.2.2.2.1.length c_2), ownC 75 (.pair .str .str) r.1.2.2.2.2 (.slice A_3 r.1.2.2.2.2.length c_3), ownC 23 (.int .u32) r.2.1.2.1 (.slice A_4 r.2.1.2.1.length c_4), ownC 9 .str r.2.1.2.2.1 (.slice A_5 r.2.1.2.2.1.length c_5), ownC 135 (.pair .str (.pair .bool .str)) r.2.1.2.2.2.1 (.slice A_6 r.2.1.2.2.2.1.length c_6), ownC 75 (.pair .str .str) r.2.1.2.2.2.2 (.slice A_7 r.2.1.2.2.2.2.length c_7)]) := by
  refine Spec.enter Try.func44 rfl (by kernel_rfl) (by kernel_rfl) fun w0 F0 h0 => ?_
  unfold pour_Pour.f at H
  refine J.seq ?_
  refine J.region ?_
  refine RJ.op rfl rfl (op_box rfl rfl h0) ?_
  rintro _ w1 ⟨b1, rfl, h1⟩
  replace h1 : St w0 F0 [boxC b1 61 [.int .i64 a0.1, .int .i64 a0.2.1, .int .i64 a0.2.2.1, .int .i64 a0.2.2.2.1, .int .i64 a0.2.2.2.2.1, .int .i64 a0.2.2.2.2.2.1, .int .i64 a0.2.2.2.2.2.2.1, .int .i64 a0.2.2.2.2.2.2.2]] _ _ := h1
  refine RJ.op rfl rfl (op_box rfl rfl h1) ?_
  rintro _ w2 ⟨b2, rfl, h2⟩
  replace h2 : St w0 F0 [boxC b2 86 [.int .i64 a1.1, .slice A1 a1.2.1.length c_1, .slice A2 a1.2.2.1.length c_2, .slice A3 a1.2.2.2.1.length c_3, .slice A4 a1.2.2.2.2.length c_4], boxC b1 61 [.int .i64 a0.1, .int .i64 a0.2.1, .int .i64 a0.2.2.1, .int .i64 a0.2.2.2.1, .int .i64 a0.2.2.2.2.1, .int .i64 a0.2.2.2.2.2.1, .int .i64 a0.2.2.2.2.2.2.1, .int .i64 a0.2.2.2.2.2.2.2]] _ _ := h2
  refine RJ.op rfl rfl (op_box rfl rfl h2) ?_
  rintro _ w3 ⟨b3, rfl, h3⟩
  replace h3 : St w0 F0 [boxC b3 86 [.int .i64 a3.1, .slice A5 a3.2.1.length c_5, .slice A6 a3.2.2.1.length c_6, .slice A7 a3.2.2.2.1.length c_7, .slice A8 a3.2.2.2.2.length c_8], boxC b2 86 [.int .i64 a1.1, .slice A1 a1.2.1.length c_1, .slice A2 a1.2.2.1.length c_2, .slice A3 a1.2.2.2.1.length c_3, .slice A4 a1.2.2.2.2.length c_4], boxC b1 61 [.int .i64 a0.1, .int .i64 a0.2.1, .int .i64 a0.2.2.1, .int .i64 a0.2.2.2.1, .int .i64 a0.2.2.2.2.1, .int .i64 a0.2.2.2.2.2.1, .int .i64 a0.2.2.2.2.2.2.1, .int .i64 a0.2.2.2.2.2.2.2]] _ _ := h3
  refine RJ.op rfl rfl (op_alloc ttok rfl rfl h3) ?_
  rintro _ w4 ⟨b4, rfl, h4⟩
  replace h4 : St w0 F0 [boxC b4 86 [.int .i64 0, .slice none ([] : List (Int)).length 0, .slice none ([] : List (List UInt8)).length 0, .slice none ([] : List (List UInt8 × Bool × List UInt8)).length 0, .slice none ([] : List (List UInt8 × List UInt8)).length 0], boxC b3 86 [.int .i64 a3.1, .slice A5 a3.2.1.length c_5, .slice A6 a3.2.2.1.length c_6, .slice A7 a3.2.2.2.1.length c_7, .slice A8 a3.2.2.2.2.length c_8], boxC b2 86 [.int .i64 a1.1, .slice A1 a1.2.1.length c_1, .slice A2 a1.2.2.1.length c_2, .slice A3 a1.2.2.2.1.length c_3, .slice A4 a1.2.2.2.2.length c_4], boxC b1 61 [.int .i64 a0.1, .int .i64 a0.2.1, .int .i64 a0.2.2.1, .int .i64 a0.2.2.2.1, .int .i64 a0.2.2.2.2.1, .int .i64 a0.2.2.2.2.2.1, .int .i64 a0.2.2.2.2.2.2.1, .int .i64 a0.2.2.2.2.2.2.2]] _ _ := h4
  refine RJ.op rfl rfl (op_alloc ttok rfl rfl h4) ?_
  rintro _ w5 ⟨b5, rfl, h5⟩
  replace h5 : St w0 F0 [boxC b5 86 [.int .i64 0, .slice none ([] : List (Int)).length 0, .slice none ([] : List (List UInt8)).length 0, .slice none ([] : List (List UInt8 × Bool × List UInt8)).length 0, .slice none ([] : List (List UInt8 × List UInt8)).length 0], boxC b4 86 [.int .i64 0, .slice none ([] : List (Int)).length 0, .slice none ([] : List (List UInt8)).length 0, .slice none ([] : List (List UInt8 × Bool × List UInt8)).length 0, .slice none ([] : List (List UInt8 × List UInt8)).length 0], boxC b3 86 [.int .i64 a3.1, .slice A5 a3.2.1.length c_5, .slice A6 a3.2.2.1.length c_6, .slice A7 a3.2.2.2.1.length c_7, .slice A8 a3.2.2.2.2.length c_8], boxC b2 86 [.int .i64 a1.1, .slice A1 a1.2.1.length c_1, .slice A2 a1.2.2.1.length c_2, .slice A3 a1.2.2.2.1.length c_3, .slice A4 a1.2.2.2.2.length c_4], boxC b1 61 [.int .i64 a0.1, .int .i64 a0.2.1, .int .i64 a0.2.2.1, .int .i64 a0.2.2.2.1, .int .i64 a0.2.2.2.2.1, .int .i64 a0.2.2.2.2.2.1, .int .i64 a0.2.2.2.2.2.2.1, .int .i64 a0.2.2.2.2.2.2.2]] _ _ := h5
  refine RJ.run ttok 1 rfl ?_
  refine RJ.fin [(2, .int .i64 a2), (4, .int .i64 a4), (5, .pointer (some ⟨b1, 0, none⟩)), (6, .pointer (some ⟨b2, 0, none⟩)), (8, .pointer (some ⟨b3, 0, none⟩)), (10, .pointer (some ⟨b4, 0, none⟩)), (11, .pointer (some ⟨b5, 0, none⟩))] rfl ?_
  refine J.seq ?_
  obtain ⟨r1, q1, H⟩ := bind_t H
  obtain ⟨r2, q2, H⟩ := bind_t H
  refine J.midS (fun env w => ∃ (A9 : Option Addr) (c_9 : Nat) (A10 : Option Addr) (c_10 : Nat) (A11 : Option Addr) (c_11 : Nat) (A12 : Option Addr) (c_12 : Nat) (A13 : Option Addr) (c_13 : Nat) (A14 : Option Addr) (c_14 : Nat) (A15 : Option Addr) (c_15 : Nat) (A16 : Option Addr) (c_16 : Nat), env = [(2, .int .i64 a2), (4, .int .i64 a4), (5, .pointer (some ⟨b1, 0, none⟩)), (6, .pointer (some ⟨b2, 0, none⟩)), (8, .pointer (some ⟨b3, 0, none⟩)), (10, .pointer (some ⟨b4, 0, none⟩)), (11, .pointer (some ⟨b5, 0, none⟩))] ∧ St w0 F0 [boxC b2 86 [.int .i64 r1.1, .slice A9 r1.2.1.length c_9, .slice A10 r1.2.2.1.length c_10, .slice A11 r1.2.2.2.1.length c_11, .slice A12 r1.2.2.2.2.length c_12], ownC 23 (.int .u32) r1.2.1 (.slice A9 r1.2.1.length c_9), ownC 9 .str r1.2.2.1 (.slice A10 r1.2.2.1.length c_10), ownC 135 (.pair .str (.pair .bool .str)) r1.2.2.2.1 (.slice A11 r1.2.2.2.1.length c_11), ownC 75 (.pair .str .str) r1.2.2.2.2 (.slice A12 r1.2.2.2.2.length c_12), boxC b3 86 [.int .i64 r2.1, .slice A13 r2.2.1.length c_13, .slice A14 r2.2.2.1.length c_14, .slice A15 r2.2.2.2.1.length c_15, .slice A16 r2.2.2.2.2.length c_16], ownC 23 (.int .u32) r2.2.1 (.slice A13 r2.2.1.length c_13), ownC 9 .str r2.2.2.1 (.slice A14 r2.2.2.1.length c_14), ownC 135 (.pair .str (.pair .bool .str)) r2.2.2.2.1 (.slice A15 r2.2.2.2.1.length c_15), ownC 75 (.pair .str .str) r2.2.2.2.2 (.slice A16 r2.2.2.2.2.length c_16), boxC b5 86 [.int .i64 0, .slice none ([] : List (Int)).length 0, .slice none ([] : List (List UInt8)).length 0, .slice none ([] : List (List UInt8 × Bool × List UInt8)).length 0, .slice none ([] : List (List UInt8 × List UInt8)).length 0], boxC b4 86 [.int .i64 0, .slice none ([] : List (Int)).length 0, .slice none ([] : List (List UInt8)).length 0, .slice none ([] : List (List UInt8 × Bool × List UInt8)).length 0, .slice none ([] : List (List UInt8 × List UInt8)).length 0], boxC b1 61 [.int .i64 a0.1, .int .i64 a0.2.1, .int .i64 a0.2.2.1, .int .i64 a0.2.2.2.1, .int .i64 a0.2.2.2.2.1, .int .i64 a0.2.2.2.2.2.1, .int .i64 a0.2.2.2.2.2.2.1, .int .i64 a0.2.2.2.2.2.2.2]] [rdC 23 (.int .u32) a1.2.1 (.slice A1 a1.2.1.length c_1), rdC 9 .str a1.2.2.1 (.slice A2 a1.2.2.1.length c_2), rdC 135 (.pair .str (.pair .bool .str)) a1.2.2.2.1 (.slice A3 a1.2.2.2.1.length c_3), rdC 75 (.pair .str .str) a1.2.2.2.2 (.slice A4 a1.2.2.2.2.length c_4), rdC 23 (.int .u32) a3.2.1 (.slice A5 a3.2.1.length c_5), rdC 9 .str a3.2.2.1 (.slice A6 a3.2.2.1.length c_6), rdC 135 (.pair .str (.pair .bool .str)) a3.2.2.2.1 (.slice A7 a3.2.2.2.1.length c_7), rdC 75 (.pair .str .str) a3.2.2.2.2 (.slice A8 a3.2.2.2.2.length c_8)] w) ?_ ?_
  · refine J.heldSt mix (h5.only [0, 0, 2] rfl) ?_
    have h10 := h5.drew
    refine HJ.pick [0, 2] (i := 0) rfl rfl rfl rfl ?_
    refine (hscons ?_ (hscons ?_ hsnil))
    · refine HS.op (i := 0) rfl rfl rfl (OpT.ofq (q_load_box ttok 3 (fun w e => e ▸ h10.wh) rfl rfl rfl rfl rfl)) ?_
      rintro _ _ ⟨rfl, rfl⟩
      replace h10 : St w0 F0 [boxC b5 86 [.int .i64 0, .slice none ([] : List (Int)).length 0, .slice none ([] : List (List UInt8)).length 0, .slice none ([] : List (List UInt8 × Bool × List UInt8)).length 0, .slice none ([] : List (List UInt8 × List UInt8)).length 0], boxC b4 86 [.int .i64 0, .slice none ([] : List (Int)).length 0, .slice none ([] : List (List UInt8)).length 0, .slice none ([] : List (List UInt8 × Bool × List UInt8)).length 0, .slice none ([] : List (List UInt8 × List UInt8)).length 0], boxC b3 86 [.int .i64 a3.1, .slice A5 a3.2.1.length c_5, .slice A6 a3.2.2.1.length c_6, .slice A7 a3.2.2.2.1.length c_7, .slice A8 a3.2.2.2.2.length c_8], boxC b2 86 [.int .i64 a1.1, .slice A1 a1.2.1.length c_1, .slice A2 a1.2.2.1.length c_2, .slice A3 a1.2.2.2.1.length c_3, .slice A4 a1.2.2.2.2.length c_4], boxC b1 61 [.int .i64 a0.1, .int .i64 a0.2.1, .int .i64 a0.2.2.1, .int .i64 a0.2.2.2.1, .int .i64 a0.2.2.2.2.1, .int .i64 a0.2.2.2.2.2.1, .int .i64 a0.2.2.2.2.2.2.1, .int .i64 a0.2.2.2.2.2.2.2]] _ _ := h10
      refine ⟨⟨[_, _], (h10.only [2, 2, 0, 0, 0] rfl)⟩, ?_⟩
      refine HJ.pick [1, 2] (i := 1) rfl rfl rfl rfl ?_
      refine (hscons ?_ (hscons ?_ hsnil))
      · refine HS.op (i := 1) rfl rfl rfl (op_call [] (node_Clone.spec q1) rfl rfl rfl h10 rfl (gcons (Gives.self 5 rfl) (gcons (Gives.self 6 rfl) (gcons (Gives.self 7 rfl) (gcons (Gives.self 8 rfl) gnil))))) ?_
        rintro _ w13 ⟨_, ⟨A17, c_17, A18, c_18, A19, c_19, A20, c_20, rfl, rfl⟩, h11⟩
        replace h11 : St w0 F0 [ownC 23 (.int .u32) r1.2.1 (.slice A17 r1.2.1.length c_17), ownC 9 .str r1.2.2.1 (.slice A18 r1.2.2.1.length c_18), ownC 135 (.pair .str (.pair .bool .str)) r1.2.2.2.1 (.slice A19 r1.2.2.2.1.length c_19), ownC 75 (.pair .str .str) r1.2.2.2.2 (.slice A20 r1.2.2.2.2.length c_20), boxC b5 86 [.int .i64 0, .slice none ([] : List (Int)).length 0, .slice none ([] : List (List UInt8)).length 0, .slice none ([] : List (List UInt8 × Bool × List UInt8)).length 0, .slice none ([] : List (List UInt8 × List UInt8)).length 0], boxC b4 86 [.int .i64 0, .slice none ([] : List (Int)).length 0, .slice none ([] : List (List UInt8)).length 0, .slice none ([] : List (List UInt8 × Bool × List UInt8)).length 0, .slice none ([] : List (List UInt8 × List UInt8)).length 0], boxC b3 86 [.int .i64 a3.1, .slice A5 a3.2.1.length c_5, .slice A6 a3.2.2.1.length c_6, .slice A7 a3.2.2.2.1.length c_7, .slice A8 a3.2.2.2.2.length c_8], boxC b2 86 [.int .i64 a1.1, .slice A1 a1.2.1.length c_1, .slice A2 a1.2.2.1.length c_2, .slice A3 a1.2.2.2.1.length c_3, .slice A4 a1.2.2.2.2.length c_4], boxC b1 61 [.int .i64 a0.1, .int .i64 a0.2.1, .int .i64 a0.2.2.1, .int .i64 a0.2.2.2.1, .int .i64 a0.2.2.2.2.1, .int .i64 a0.2.2.2.2.2.1, .int .i64 a0.2.2.2.2.2.2.1, .int .i64 a0.2.2.2.2.2.2.2]] _ _ := h11
        refine ⟨⟨[_, _, _, _, _, _], (h11.only [0, 0, 0, 0, 2, 2, 0, 0, 0] rfl)⟩, ?_⟩
        refine HJ.op (i := 2) rfl rfl rfl rfl rfl (OpT.ofq (q_load_box ttok 6 (fun w e => e ▸ h11.wh) rfl rfl rfl rfl rfl)) ?_
        rintro _ _ ⟨rfl, rfl⟩
        replace h11 : St w0 F0 [ownC 23 (.int .u32) r1.2.1 (.slice A17 r1.2.1.length c_17), ownC 9 .str r1.2.2.1 (.slice A18 r1.2.2.1.length c_18), ownC 135 (.pair .str (.pair .bool .str)) r1.2.2.2.1 (.slice A19 r1.2.2.2.1.length c_19), ownC 75 (.pair .str .str) r1.2.2.2.2 (.slice A20 r1.2.2.2.2.length c_20), boxC b5 86 [.int .i64 0, .slice none ([] : List (Int)).length 0, .slice none ([] : List (List UInt8)).length 0, .slice none ([] : List (List UInt8 × Bool × List UInt8)).length 0, .slice none ([] : List (List UInt8 × List UInt8)).length 0], boxC b4 86 [.int .i64 0, .slice none ([] : List (Int)).length 0, .slice none ([] : List (List UInt8)).length 0, .slice none ([] : List (List UInt8 × Bool × List UInt8)).length 0, .slice none ([] : List (List UInt8 × List UInt8)).length 0], boxC b3 86 [.int .i64 a3.1, .slice A5 a3.2.1.length c_5, .slice A6 a3.2.2.1.length c_6, .slice A7 a3.2.2.2.1.length c_7, .slice A8 a3.2.2.2.2.length c_8], boxC b2 86 [.int .i64 a1.1, .slice A1 a1.2.1.length c_1, .slice A2 a1.2.2.1.length c_2, .slice A3 a1.2.2.2.1.length c_3, .slice A4 a1.2.2.2.2.length c_4], boxC b1 61 [.int .i64 a0.1, .int .i64 a0.2.1, .int .i64 a0.2.2.1, .int .i64 a0.2.2.2.1, .int .i64 a0.2.2.2.2.1, .int .i64 a0.2.2.2.2.2.1, .int .i64 a0.2.2.2.2.2.2.1, .int .i64 a0.2.2.2.2.2.2.2]] _ _ := h11
        refine ⟨⟨[_, _, _, _, _, _], (h11.only [0, 0, 0, 0, 2, 2, 0, 0, 0] rfl)⟩, ?_⟩
        refine HJ.op (i := 3) rfl rfl rfl rfl rfl (op_call [] (node_Clone.spec q2) rfl rfl rfl h11 rfl (gcons (Gives.self 13 rfl) (gcons (Gives.self 14 rfl) (gcons (Gives.self 15 rfl) (gcons (Gives.self 16 rfl) gnil))))) ?_
        rintro _ w15 ⟨_, ⟨A21, c_21, A22, c_22, A23, c_23, A24, c_24, rfl, rfl⟩, h12⟩
        replace h12 : St w0 F0 [ownC 23 (.int .u32) r2.2.1 (.slice A21 r2.2.1.length c_21), ownC 9 .str r2.2.2.1 (.slice A22 r2.2.2.1.length c_22), ownC 135 (.pair .str (.pair .bool .str)) r2.2.2.2.1 (.slice A23 r2.2.2.2.1.length c_23), ownC 75 (.pair .str .str) r2.2.2.2.2 (.slice A24 r2.2.2.2.2.length c_24), ownC 23 (.int .u32) r1.2.1 (.slice A17 r1.2.1.length c_17), ownC 9 .str r1.2.2.1 (.slice A18 r1.2.2.1.length c_18), ownC 135 (.pair .str (.pair .bool .str)) r1.2.2.2.1 (.slice A19 r1.2.2.2.1.length c_19), ownC 75 (.pair .str .str) r1.2.2.2.2 (.slice A20 r1.2.2.2.2.length c_20), boxC b5 86 [.int .i64 0, .slice none ([] : List (Int)).length 0, .slice none ([] : List (List UInt8)).length 0, .slice none ([] : List (List UInt8 × Bool × List UInt8)).length 0, .slice none ([] : List (List UInt8 × List UInt8)).length 0], boxC b4 86 [.int .i64 0, .slice none ([] : List (Int)).length 0, .slice none ([] : List (List UInt8)).length 0, .slice none ([] : List (List UInt8 × Bool × List UInt8)).length 0, .slice none ([] : List (List UInt8 × List UInt8)).length 0], boxC b3 86 [.int .i64 a3.1, .slice A5 a3.2.1.length c_5, .slice A6 a3.2.2.1.length c_6, .slice A7 a3.2.2.2.1.length c_7, .slice A8 a3.2.2.2.2.length c_8], boxC b2 86 [.int .i64 a1.1, .slice A1 a1.2.1.length c_1, .slice A2 a1.2.2.1.length c_2, .slice A3 a1.2.2.2.1.length c_3, .slice A4 a1.2.2.2.2.length c_4], boxC b1 61 [.int .i64 a0.1, .int .i64 a0.2.1, .int .i64 a0.2.2.1, .int .i64 a0.2.2.2.1, .int .i64 a0.2.2.2.2.1, .int .i64 a0.2.2.2.2.2.1, .int .i64 a0.2.2.2.2.2.2.1, .int .i64 a0.2.2.2.2.2.2.2]] _ _ := h12
        refine ⟨⟨[_, _, _, _, _, _, _, _, _, _], (h12.only [0, 0, 0, 0, 0, 0, 0, 0, 2, 2, 0, 0, 0] rfl)⟩, ?_⟩
        refine HJ.op (i := 4) rfl rfl rfl rfl rfl (op_store ttok 11 rfl h12 rfl rfl rfl rfl rfl rfl rfl) ?_
        intro _ w16 h13
        replace h13 : St w0 F0 [boxC b2 86 [.int .i64 r1.1, .slice A17 r1.2.1.length c_17, .slice A18 r1.2.2.1.length c_18, .slice A19 r1.2.2.2.1.length c_19, .slice A20 r1.2.2.2.2.length c_20], ownC 23 (.int .u32) r2.2.1 (.slice A21 r2.2.1.length c_21), ownC 9 .str r2.2.2.1 (.slice A22 r2.2.2.1.length c_22), ownC 135 (.pair .str (.pair .bool .str)) r2.2.2.2.1 (.slice A23 r2.2.2.2.1.length c_23), ownC 75 (.pair .str .str) r2.2.2.2.2 (.slice A24 r2.2.2.2.2.length c_24), ownC 23 (.int .u32) r1.2.1 (.slice A17 r1.2.1.length c_17), ownC 9 .str r1.2.2.1 (.slice A18 r1.2.2.1.length c_18), ownC 135 (.pair .str (.pair .bool .str)) r1.2.2.2.1 (.slice A19 r1.2.2.2.1.length c_19), ownC 75 (.pair .str .str) r1.2.2.2.2 (.slice A20 r1.2.2.2.2.length c_20), boxC b5 86 [.int .i64 0, .slice none ([] : List (Int)).length 0, .slice none ([] : List (List UInt8)).length 0, .slice none ([] : List (List UInt8 × Bool × List UInt8)).length 0, .slice none ([] : List (List UInt8 × List UInt8)).length 0], boxC b4 86 [.int .i64 0, .slice none ([] : List (Int)).length 0, .slice none ([] : List (List UInt8)).length 0, .slice none ([] : List (List UInt8 × Bool × List UInt8)).length 0, .slice none ([] : List (List UInt8 × List UInt8)).length 0], boxC b3 86 [.int .i64 a3.1, .slice A5 a3.2.1.length c_5, .slice A6 a3.2.2.1.length c_6, .slice A7 a3.2.2.2.1.length c_7, .slice A8 a3.2.2.2.2.length c_8], boxC b1 61 [.int .i64 a0.1, .int .i64 a0.2.1, .int .i64 a0.2.2.1, .int .i64 a0.2.2.2.1, .int .i64 a0.2.2.2.2.1, .int .i64 a0.2.2.2.2.2.1, .int .i64 a0.2.2.2.2.2.2.1, .int .i64 a0.2.2.2.2.2.2.2]] _ _ := h13
        refine ⟨⟨[_, _, _, _, _, _, _, _, _, _], (h13.only [0, 0, 0, 0, 0, 0, 0, 0, 0, 2, 0, 0, 0] rfl)⟩, ?_⟩
        refine HJ.op (i := 5) rfl rfl rfl rfl rfl (op_store ttok 11 rfl h13 rfl rfl rfl rfl rfl rfl rfl) ?_
        intro _ w17 h14
        replace h14 : St w0 F0 [boxC b3 86 [.int .i64 r2.1, .slice A21 r2.2.1.length c_21, .slice A22 r2.2.2.1.length c_22, .slice A23 r2.2.2.2.1.length c_23, .slice A24 r2.2.2.2.2.length c_24], boxC b2 86 [.int .i64 r1.1, .slice A17 r1.2.1.length c_17, .slice A18 r1.2.2.1.length c_18, .slice A19 r1.2.2.2.1.length c_19, .slice A20 r1.2.2.2.2.length c_20], ownC 23 (.int .u32) r2.2.1 (.slice A21 r2.2.1.length c_21), ownC 9 .str r2.2.2.1 (.slice A22 r2.2.2.1.length c_22), ownC 135 (.pair .str (.pair .bool .str)) r2.2.2.2.1 (.slice A23 r2.2.2.2.1.length c_23), ownC 75 (.pair .str .str) r2.2.2.2.2 (.slice A24 r2.2.2.2.2.length c_24), ownC 23 (.int .u32) r1.2.1 (.slice A17 r1.2.1.length c_17), ownC 9 .str r1.2.2.1 (.slice A18 r1.2.2.1.length c_18), ownC 135 (.pair .str (.pair .bool .str)) r1.2.2.2.1 (.slice A19 r1.2.2.2.1.length c_19), ownC 75 (.pair .str .str) r1.2.2.2.2 (.slice A20 r1.2.2.2.2.length c_20), boxC b5 86 [.int .i64 0, .slice none ([] : List (Int)).length 0, .slice none ([] : List (List UInt8)).length 0, .slice none ([] : List (List UInt8 × Bool × List UInt8)).length 0, .slice none ([] : List (List UInt8 × List UInt8)).length 0], boxC b4 86 [.int .i64 0, .slice none ([] : List (Int)).length 0, .slice none ([] : List (List UInt8)).length 0, .slice none ([] : List (List UInt8 × Bool × List UInt8)).length 0, .slice none ([] : List (List UInt8 × List UInt8)).length 0], boxC b1 61 [.int .i64 a0.1, .int .i64 a0.2.1, .int .i64 a0.2.2.1, .int .i64 a0.2.2.2.1, .int .i64 a0.2.2.2.2.1, .int .i64 a0.2.2.2.2.2.1, .int .i64 a0.2.2.2.2.2.2.1, .int .i64 a0.2.2.2.2.2.2.2]] _ _ := h14
        refine ⟨⟨[_, _, _, _, _, _, _, _, _, _], h14⟩, ?_⟩
        refine HJ.fin [(2, .int .i64 a2), (4, .int .i64 a4), (5, .pointer (some ⟨b1, 0, none⟩)), (6, .pointer (some ⟨b2, 0, none⟩)), (8, .pointer (some ⟨b3, 0, none⟩)), (10, .pointer (some ⟨b4, 0, none⟩)), (11, .pointer (some ⟨b5, 0, none⟩))] rfl rfl ?_
        exact thenP_intro ⟨A17, c_17, A18, c_18, A19, c_19, A20, c_20, A21, c_21, A22, c_22, A23, c_23, A24, c_24, rfl, ((h14.only [1, 5, 5, 5, 5, 0, 0, 0, 0, 0, 0, 0, 0] rfl).rds [0, 1, 2, 3, 4, 5, 6, 7] rfl)⟩
      · refine HS.op (i := 2) rfl rfl rfl (OpT.ofq (q_load_box ttok 2 (fun w e => e ▸ h10.wh) rfl rfl rfl rfl rfl)) ?_
        rintro _ _ ⟨rfl, rfl⟩
        replace h10 : St w0 F0 [boxC b5 86 [.int .i64 0, .slice none ([] : List (Int)).length 0, .slice none ([] : List (List UInt8)).length 0, .slice none ([] : List (List UInt8 × Bool × List UInt8)).length 0, .slice none ([] : List (List UInt8 × List UInt8)).length 0], boxC b4 86 [.int .i64 0, .slice none ([] : List (Int)).length 0, .slice none ([] : List (List UInt8)).length 0, .slice none ([] : List (List UInt8 × Bool × List UInt8)).length 0, .slice none ([] : List (List UInt8 × List UInt8)).length 0], boxC b3 86 [.int .i64 a3.1, .slice A5 a3.2.1.length c_5, .slice A6 a3.2.2.1.length c_6, .slice A7 a3.2.2.2.1.length c_7, .slice A8 a3.2.2.2.2.length c_8], boxC b2 86 [.int .i64 a1.1, .slice A1 a1.2.1.length c_1, .slice A2 a1.2.2.1.length c_2, .slice A3 a1.2.2.2.1.length c_3, .slice A4 a1.2.2.2.2.length c_4], boxC b1 61 [.int .i64 a0.1, .int .i64 a0.2.1, .int .i64 a0.2.2.1, .int .i64 a0.2.2.2.1, .int .i64 a0.2.2.2.2.1, .int .i64 a0.2.2.2.2.2.1, .int .i64 a0.2.2.2.2.2.2.1, .int .i64 a0.2.2.2.2.2.2.2]] _ _ := h10
        refine ⟨⟨[_, _], (h10.only [2, 2, 0, 0, 0] rfl)⟩, ?_⟩
        refine HJ.op (i := 1) rfl rfl rfl rfl rfl (op_call [] (node_Clone.spec q1) rfl rfl rfl h10 rfl (gcons (Gives.self 5 rfl) (gcons (Gives.self 6 rfl) (gcons (Gives.self 7 rfl) (gcons (Gives.self 8 rfl) gnil))))) ?_
        rintro _ w19 ⟨_, ⟨A25, c_25, A26, c_26, A27, c_27, A28, c_28, rfl, rfl⟩, h15⟩
        replace h15 : St w0 F0 [ownC 23 (.int .u32) r1.2.1 (.slice A25 r1.2.1.length c_25), ownC 9 .str r1.2.2.1 (.slice A26 r1.2.2.1.length c_26), ownC 135 (.pair .str (.pair .bool .str)) r1.2.2.2.1 (.slice A27 r1.2.2.2.1.length c_27), ownC 75 (.pair .str .str) r1.2.2.2.2 (.slice A28 r1.2.2.2.2.length c_28), boxC b5 86 [.int .i64 0, .slice none ([] : List (Int)).length 0, .slice none ([] : List (List UInt8)).length 0, .slice none ([] : List (List UInt8 × Bool × List UInt8)).length 0, .slice none ([] : List (List UInt8 × List UInt8)).length 0], boxC b4 86 [.int .i64 0, .slice none ([] : List (Int)).length 0, .slice none ([] : List (List UInt8)).length 0, .slice none ([] : List (List UInt8 × Bool × List UInt8)).length 0, .slice none ([] : List (List UInt8 × List UInt8)).length 0], boxC b3 86 [.int .i64 a3.1, .slice A5 a3.2.1.length c_5, .slice A6 a3.2.2.1.length c_6, .slice A7 a3.2.2.2.1.length c_7, .slice A8 a3.2.2.2.2.length c_8], boxC b2 86 [.int .i64 a1.1, .slice A1 a1.2.1.length c_1, .slice A2 a1.2.2.1.length c_2, .slice A3 a1.2.2.2.1.length c_3, .slice A4 a1.2.2.2.2.length c_4], boxC b1 61 [.int .i64 a0.1, .int .i64 a0.2.1, .int .i64 a0.2.2.1, .int .i64 a0.2.2.2.1, .int .i64 a0.2.2.2.2.1, .int .i64 a0.2.2.2.2.2.1, .int .i64 a0.2.2.2.2.2.2.1, .int .i64 a0.2.2.2.2.2.2.2]] _ _ := h15
        refine ⟨⟨[_, _, _, _, _, _], (h15.only [0, 0, 0, 0, 2, 2, 0, 0, 0] rfl)⟩, ?_⟩
        refine HJ.op (i := 3) rfl rfl rfl rfl rfl (op_call [] (node_Clone.spec q2) rfl rfl rfl h15 rfl (gcons (Gives.self 13 rfl) (gcons (Gives.self 14 rfl) (gcons (Gives.self 15 rfl) (gcons (Gives.self 16 rfl) gnil))))) ?_
        rintro _ w20 ⟨_, ⟨A29, c_29, A30, c_30, A31, c_31, A32, c_32, rfl, rfl⟩, h16⟩
        replace h16 : St w0 F0 [ownC 23 (.int .u32) r2.2.1 (.slice A29 r2.2.1.length c_29), ownC 9 .str r2.2.2.1 (.slice A30 r2.2.2.1.length c_30), ownC 135 (.pair .str (.pair .bool .str)) r2.2.2.2.1 (.slice A31 r2.2.2.2.1.length c_31), ownC 75 (.pair .str .str) r2.2.2.2.2 (.slice A32 r2.2.2.2.2.length c_32), ownC 23 (.int .u32) r1.2.1 (.slice A25 r1.2.1.length c_25), ownC 9 .str r1.2.2.1 (.slice A26 r1.2.2.1.length c_26), ownC 135 (.pair .str (.pair .bool .str)) r1.2.2.2.1 (.slice A27 r1.2.2.2.1.length c_27), ownC 75 (.pair .str .str) r1.2.2.2.2 (.slice A28 r1.2.2.2.2.length c_28), boxC b5 86 [.int .i64 0, .slice none ([] : List (Int)).length 0, .slice none ([] : List (List UInt8)).length 0, .slice none ([] : List (List UInt8 × Bool × List UInt8)).length 0, .slice none ([] : List (List UInt8 × List UInt8)).length 0], boxC b4 86 [.int .i64 0, .slice none ([] : List (Int)).length 0, .slice none ([] : List (List UInt8)).length 0, .slice none ([] : List (List UInt8 × Bool × List UInt8)).length 0, .slice none ([] : List (List UInt8 × List UInt8)).length 0], boxC b3 86 [.int .i64 a3.1, .slice A5 a3.2.1.length c_5, .slice A6 a3.2.2.1.length c_6, .slice A7 a3.2.2.2.1.length c_7, .slice A8 a3.2.2.2.2.length c_8], boxC b2 86 [.int .i64 a1.1, .slice A1 a1.2.1.length c_1, .slice A2 a1.2.2.1.length c_2, .slice A3 a1.2.2.2.1.length c_3, .slice A4 a1.2.2.2.2.length c_4], boxC b1 61 [.int .i64 a0.1, .int .i64 a0.2.1, .int .i64 a0.2.2.1, .int .i64 a0.2.2.2.1, .int .i64 a0.2.2.2.2.1, .int .i64 a0.2.2.2.2.2.1, .int .i64 a0.2.2.2.2.2.2.1, .int .i64 a0.2.2.2.2.2.2.2]] _ _ := h16
        refine ⟨⟨[_, _, _, _, _, _, _, _, _, _], (h16.only [0, 0, 0, 0, 0, 0, 0, 0, 2, 2, 0, 0, 0] rfl)⟩, ?_⟩
        refine HJ.op (i := 4) rfl rfl rfl rfl rfl (op_store ttok 11 rfl h16 rfl rfl rfl rfl rfl rfl rfl) ?_
        intro _ w21 h17
        replace h17 : St w0 F0 [boxC b2 86 [.int .i64 r1.1, .slice A25 r1.2.1.length c_25, .slice A26 r1.2.2.1.length c_26, .slice A27 r1.2.2.2.1.length c_27, .slice A28 r1.2.2.2.2.length c_28], ownC 23 (.int .u32) r2.2.1 (.slice A29 r2.2.1.length c_29), ownC 9 .str r2.2.2.1 (.slice A30 r2.2.2.1.length c_30), ownC 135 (.pair .str (.pair .bool .str)) r2.2.2.2.1 (.slice A31 r2.2.2.2.1.length c_31), ownC 75 (.pair .str .str) r2.2.2.2.2 (.slice A32 r2.2.2.2.2.length c_32), ownC 23 (.int .u32) r1.2.1 (.slice A25 r1.2.1.length c_25), ownC 9 .str r1.2.2.1 (.slice A26 r1.2.2.1.length c_26), ownC 135 (.pair .str (.pair .bool .str)) r1.2.2.2.1 (.slice A27 r1.2.2.2.1.length c_27), ownC 75 (.pair .str .str) r1.2.2.2.2 (.slice A28 r1.2.2.2.2.length c_28), boxC b5 86 [.int .i64 0, .slice none ([] : List (Int)).length 0, .slice none ([] : List (List UInt8)).length 0, .slice none ([] : List (List UInt8 × Bool × List UInt8)).length 0, .slice none ([] : List (List UInt8 × List UInt8)).length 0], boxC b4 86 [.int .i64 0, .slice none ([] : List (Int)).length 0, .slice none ([] : List (List UInt8)).length 0, .slice none ([] : List (List UInt8 × Bool × List UInt8)).length 0, .slice none ([] : List (List UInt8 × List UInt8)).length 0], boxC b3 86 [.int .i64 a3.1, .slice A5 a3.2.1.length c_5, .slice A6 a3.2.2.1.length c_6, .slice A7 a3.2.2.2.1.length c_7, .slice A8 a3.2.2.2.2.length c_8], boxC b1 61 [.int .i64 a0.1, .int .i64 a0.2.1, .int .i64 a0.2.2.1, .int .i64 a0.2.2.2.1, .int .i64 a0.2.2.2.2.1, .int .i64 a0.2.2.2.2.2.1, .int .i64 a0.2.2.2.2.2.2.1, .int .i64 a0.2.2.2.2.2.2.2]] _ _ := h17
        refine ⟨⟨[_, _, _, _, _, _, _, _, _, _], (h17.only [0, 0, 0, 0, 0, 0, 0, 0, 0, 2, 0, 0, 0] rfl)⟩, ?_⟩
        refine HJ.op (i := 5) rfl rfl rfl rfl rfl (op_store ttok 11 rfl h17 rfl rfl rfl rfl rfl rfl rfl) ?_
        intro _ w22 h18
        replace h18 : St w0 F0 [boxC b3 86 [.int .i64 r2.1, .slice A29 r2.2.1.length c_29, .slice A30 r2.2.2.1.length c_30, .slice A31 r2.2.2.2.1.length c_31, .slice A32 r2.2.2.2.2.length c_32], boxC b2 86 [.int .i64 r1.1, .slice A25 r1.2.1.length c_25, .slice A26 r1.2.2.1.length c_26, .slice A27 r1.2.2.2.1.length c_27, .slice A28 r1.2.2.2.2.length c_28], ownC 23 (.int .u32) r2.2.1 (.slice A29 r2.2.1.length c_29), ownC 9 .str r2.2.2.1 (.slice A30 r2.2.2.1.length c_30), ownC 135 (.pair .str (.pair .bool .str)) r2.2.2.2.1 (.slice A31 r2.2.2.2.1.length c_31), ownC 75 (.pair .str .str) r2.2.2.2.2 (.slice A32 r2.2.2.2.2.length c_32), ownC 23 (.int .u32) r1.2.1 (.slice A25 r1.2.1.length c_25), ownC 9 .str r1.2.2.1 (.slice A26 r1.2.2.1.length c_26), ownC 135 (.pair .str (.pair .bool .str)) r1.2.2.2.1 (.slice A27 r1.2.2.2.1.length c_27), ownC 75 (.pair .str .str) r1.2.2.2.2 (.slice A28 r1.2.2.2.2.length c_28), boxC b5 86 [.int .i64 0, .slice none ([] : List (Int)).length 0, .slice none ([] : List (List UInt8)).length 0, .slice none ([] : List (List UInt8 × Bool × List UInt8)).length 0, .slice none ([] : List (List UInt8 × List UInt8)).length 0], boxC b4 86 [.int .i64 0, .slice none ([] : List (Int)).length 0, .slice none ([] : List (List UInt8)).length 0, .slice none ([] : List (List UInt8 × Bool × List UInt8)).length 0, .slice none ([] : List (List UInt8 × List UInt8)).length 0], boxC b1 61 [.int .i64 a0.1, .int .i64 a0.2.1, .int .i64 a0.2.2.1, .int .i64 a0.2.2.2.1, .int .i64 a0.2.2.2.2.1, .int .i64 a0.2.2.2.2.2.1, .int .i64 a0.2.2.2.2.2.2.1, .int .i64 a0.2.2.2.2.2.2.2]] _ _ := h18
        refine ⟨⟨[_, _, _, _, _, _, _, _, _, _], h18⟩, ?_⟩
        refine HJ.fin [(2, .int .i64 a2), (4, .int .i64 a4), (5, .pointer (some ⟨b1, 0, none⟩)), (6, .pointer (some ⟨b2, 0, none⟩)), (8, .pointer (some ⟨b3, 0, none⟩)), (10, .pointer (some ⟨b4, 0, none⟩)), (11, .pointer (some ⟨b5, 0, none⟩))] rfl rfl ?_
        exact thenP_intro ⟨A25, c_25, A26, c_26, A27, c_27, A28, c_28, A29, c_29, A30, c_30, A31, c_31, A32, c_32, rfl, ((h18.only [1, 5, 5, 5, 5, 0, 0, 0, 0, 0, 0, 0, 0] rfl).rds [0, 1, 2, 3, 4, 5, 6, 7] rfl)⟩
    · refine HS.op (i := 2) rfl rfl rfl (OpT.ofq (q_load_box ttok 2 (fun w e => e ▸ h10.wh) rfl rfl rfl rfl rfl)) ?_
      rintro _ _ ⟨rfl, rfl⟩
      replace h10 : St w0 F0 [boxC b5 86 [.int .i64 0, .slice none ([] : List (Int)).length 0, .slice none ([] : List (List UInt8)).length 0, .slice none ([] : List (List UInt8 × Bool × List UInt8)).length 0, .slice none ([] : List (List UInt8 × List UInt8)).length 0], boxC b4 86 [.int .i64 0, .slice none ([] : List (Int)).length 0, .slice none ([] : List (List UInt8)).length 0, .slice none ([] : List (List UInt8 × Bool × List UInt8)).length 0, .slice none ([] : List (List UInt8 × List UInt8)).length 0], boxC b3 86 [.int .i64 a3.1, .slice A5 a3.2.1.length c_5, .slice A6 a3.2.2.1.length c_6, .slice A7 a3.2.2.2.1.length c_7, .slice A8 a3.2.2.2.2.length c_8], boxC b2 86 [.int .i64 a1.1, .slice A1 a1.2.1.length c_1, .slice A2 a1.2.2.1.length c_2, .slice A3 a1.2.2.2.1.length c_3, .slice A4 a1.2.2.2.2.length c_4], boxC b1 61 [.int .i64 a0.1, .int .i64 a0.2.1, .int .i64 a0.2.2.1, .int .i64 a0.2.2.2.1, .int .i64 a0.2.2.2.2.1, .int .i64 a0.2.2.2.2.2.1, .int .i64 a0.2.2.2.2.2.2.1, .int .i64 a0.2.2.2.2.2.2.2]] _ _ := h10
      refine ⟨⟨[_, _], (h10.only [2, 2, 0, 0, 0] rfl)⟩, ?_⟩
      refine HJ.op (i := 0) rfl rfl rfl rfl rfl (OpT.ofq (q_load_box ttok 3 (fun w e => e ▸ h10.wh) rfl rfl rfl rfl rfl)) ?_
      rintro _ _ ⟨rfl, rfl⟩
      replace h10 : St w0 F0 [boxC b5 86 [.int .i64 0, .slice none ([] : List (Int)).length 0, .slice none ([] : List (List UInt8)).length 0, .slice none ([] : List (List UInt8 × Bool × List UInt8)).length 0, .slice none ([] : List (List UInt8 × List UInt8)).length 0], boxC b4 86 [.int .i64 0, .slice none ([] : List (Int)).length 0, .slice none ([] : List (List UInt8)).length 0, .slice none ([] : List (List UInt8 × Bool × List UInt8)).length 0, .slice none ([] : List (List UInt8 × List UInt8)).length 0], boxC b3 86 [.int .i64 a3.1, .slice A5 a3.2.1.length c_5, .slice A6 a3.2.2.1.length c_6, .slice A7 a3.2.2.2.1.length c_7, .slice A8 a3.2.2.2.2.length c_8], boxC b2 86 [.int .i64 a1.1, .slice A1 a1.2.1.length c_1, .slice A2 a1.2.2.1.length c_2, .slice A3 a1.2.2.2.1.length c_3, .slice A4 a1.2.2.2.2.length c_4], boxC b1 61 [.int .i64 a0.1, .int .i64 a0.2.1, .int .i64 a0.2.2.1, .int .i64 a0.2.2.2.1, .int .i64 a0.2.2.2.2.1, .int .i64 a0.2.2.2.2.2.1, .int .i64 a0.2.2.2.2.2.2.1, .int .i64 a0.2.2.2.2.2.2.2]] _ _ := h10
      refine ⟨⟨[_, _], (h10.only [2, 2, 0, 0, 0] rfl)⟩, ?_⟩
      refine HJ.op (i := 1) rfl rfl rfl rfl rfl (op_call [] (node_Clone.spec q1) rfl rfl rfl h10 rfl (gcons (Gives.self 5 rfl) (gcons (Gives.self 6 rfl) (gcons (Gives.self 7 rfl) (gcons (Gives.self 8 rfl) gnil))))) ?_
      rintro _ w25 ⟨_, ⟨A33, c_33, A34, c_34, A35, c_35, A36, c_36, rfl, rfl⟩, h19⟩
      replace h19 : St w0 F0 [ownC 23 (.int .u32) r1.2.1 (.slice A33 r1.2.1.length c_33), ownC 9 .str r1.2.2.1 (.slice A34 r1.2.2.1.length c_34), ownC 135 (.pair .str (.pair .bool .str)) r1.2.2.2.1 (.slice A35 r1.2.2.2.1.length c_35), ownC 75 (.pair .str .str) r1.2.2.2.2 (.slice A36 r1.2.2.2.2.length c_36), boxC b5 86 [.int .i64 0, .slice none ([] : List (Int)).length 0, .slice none ([] : List (List UInt8)).length 0, .slice none ([] : List (List UInt8 × Bool × List UInt8)).length 0, .slice none ([] : List (List UInt8 × List UInt8)).length 0], boxC b4 86 [.int .i64 0, .slice none ([] : List (Int)).length 0, .slice none ([] : List (List UInt8)).length 0, .slice none ([] : List (List UInt8 × Bool × List UInt8)).length 0, .slice none ([] : List (List UInt8 × List UInt8)).length 0], boxC b3 86 [.int .i64 a3.1, .slice A5 a3.2.1.length c_5, .slice A6 a3.2.2.1.length c_6, .slice A7 a3.2.2.2.1.length c_7, .slice A8 a3.2.2.2.2.length c_8], boxC b2 86 [.int .i64 a1.1, .slice A1 a1.2.1.length c_1, .slice A2 a1.2.2.1.length c_2, .slice A3 a1.2.2.2.1.length c_3, .slice A4 a1.2.2.2.2.length c_4], boxC b1 61 [.int .i64 a0.1, .int .i64 a0.2.1, .int .i64 a0.2.2.1, .int .i64 a0.2.2.2.1, .int .i64 a0.2.2.2.2.1, .int .i64 a0.2.2.2.2.2.1, .int .i64 a0.2.2.2.2.2.2.1, .int .i64 a0.2.2.2.2.2.2.2]] _ _ := h19
      refine ⟨⟨[_, _, _, _, _, _], (h19.only [0, 0, 0, 0, 2, 2, 0, 0, 0] rfl)⟩, ?_⟩
      refine HJ.op (i := 3) rfl rfl rfl rfl rfl (op_call [] (node_Clone.spec q2) rfl rfl rfl h19 rfl (gcons (Gives.self 13 rfl) (gcons (Gives.self 14 rfl) (gcons (Gives.self 15 rfl) (gcons (Gives.self 16 rfl) gnil))))) ?_
      rintro _ w26 ⟨_, ⟨A37, c_37, A38, c_38, A39, c_39, A40, c_40, rfl, rfl⟩, h20⟩
      replace h20 : St w0 F0 [ownC 23 (.int .u32) r2.2.1 (.slice A37 r2.2.1.length c_37), ownC 9 .str r2.2.2.1 (.slice A38 r2.2.2.1.length c_38), ownC 135 (.pair .str (.pair .bool .str)) r2.2.2.2.1 (.slice A39 r2.2.2.2.1.length c_39), ownC 75 (.pair .str .str) r2.2.2.2.2 (.slice A40 r2.2.2.2.2.length c_40), ownC 23 (.int .u32) r1.2.1 (.slice A33 r1.2.1.length c_33), ownC 9 .str r1.2.2.1 (.slice A34 r1.2.2.1.length c_34), ownC 135 (.pair .str (.pair .bool .str)) r1.2.2.2.1 (.slice A35 r1.2.2.2.1.length c_35), ownC 75 (.pair .str .str) r1.2.2.2.2 (.slice A36 r1.2.2.2.2.length c_36), boxC b5 86 [.int .i64 0, .slice none ([] : List (Int)).length 0, .slice none ([] : List (List UInt8)).length 0, .slice none ([] : List (List UInt8 × Bool × List UInt8)).length 0, .slice none ([] : List (List UInt8 × List UInt8)).length 0], boxC b4 86 [.int .i64 0, .slice none ([] : List (Int)).length 0, .slice none ([] : List (List UInt8)).length 0, .slice none ([] : List (List UInt8 × Bool × List UInt8)).length 0, .slice none ([] : List (List UInt8 × List UInt8)).length 0], boxC b3 86 [.int .i64 a3.1, .slice A5 a3.2.1.length c_5, .slice A6 a3.2.2.1.length c_6, .slice A7 a3.2.2.2.1.length c_7, .slice A8 a3.2.2.2.2.length c_8], boxC b2 86 [.int .i64 a1.1, .slice A1 a1.2.1.length c_1, .slice A2 a1.2.2.1.length c_2, .slice A3 a1.2.2.2.1.length c_3, .slice A4 a1.2.2.2.2.length c_4], boxC b1 61 [.int .i64 a0.1, .int .i64 a0.2.1, .int .i64 a0.2.2.1, .int .i64 a0.2.2.2.1, .int .i64 a0.2.2.2.2.1, .int .i64 a0.2.2.2.2.2.1, .int .i64 a0.2.2.2.2.2.2.1, .int .i64 a0.2.2.2.2.2.2.2]] _ _ := h20
      refine ⟨⟨[_, _, _, _, _, _, _, _, _, _], (h20.only [0, 0, 0, 0, 0, 0, 0, 0, 2, 2, 0, 0, 0] rfl)⟩, ?_⟩
      refine HJ.op (i := 4) rfl rfl rfl rfl rfl (op_store ttok 11 rfl h20 rfl rfl rfl rfl rfl rfl rfl) ?_
      intro _ w27 h21
      replace h21 : St w0 F0 [boxC b2 86 [.int .i64 r1.1, .slice A33 r1.2.1.length c_33, .slice A34 r1.2.2.1.length c_34, .slice A35 r1.2.2.2.1.length c_35, .slice A36 r1.2.2.2.2.length c_36], ownC 23 (.int .u32) r2.2.1 (.slice A37 r2.2.1.length c_37), ownC 9 .str r2.2.2.1 (.slice A38 r2.2.2.1.length c_38), ownC 135 (.pair .str (.pair .bool .str)) r2.2.2.2.1 (.slice A39 r2.2.2.2.1.length c_39), ownC 75 (.pair .str .str) r2.2.2.2.2 (.slice A40 r2.2.2.2.2.length c_40), ownC 23 (.int .u32) r1.2.1 (.slice A33 r1.2.1.length c_33), ownC 9 .str r1.2.2.1 (.slice A34 r1.2.2.1.length c_34), ownC 135 (.pair .str (.pair .bool .str)) r1.2.2.2.1 (.slice A35 r1.2.2.2.1.length c_35), ownC 75 (.pair .str .str) r1.2.2.2.2 (.slice A36 r1.2.2.2.2.length c_36), boxC b5 86 [.int .i64 0, .slice none ([] : List (Int)).length 0, .slice none ([] : List (List UInt8)).length 0, .slice none ([] : List (List UInt8 × Bool × List UInt8)).length 0, .slice none ([] : List (List UInt8 × List UInt8)).length 0], boxC b4 86 [.int .i64 0, .slice none ([] : List (Int)).length 0, .slice none ([] : List (List UInt8)).length 0, .slice none ([] : List (List UInt8 × Bool × List UInt8)).length 0, .slice none ([] : List (List UInt8 × List UInt8)).length 0], boxC b3 86 [.int .i64 a3.1, .slice A5 a3.2.1.length c_5, .slice A6 a3.2.2.1.length c_6, .slice A7 a3.2.2.2.1.length c_7, .slice A8 a3.2.2.2.2.length c_8], boxC b1 61 [.int .i64 a0.1, .int .i64 a0.2.1, .int .i64 a0.2.2.1, .int .i64 a0.2.2.2.1, .int .i64 a0.2.2.2.2.1, .int .i64 a0.2.2.2.2.2.1, .int .i64 a0.2.2.2.2.2.2.1, .int .i64 a0.2.2.2.2.2.2.2]] _ _ := h21
      refine ⟨⟨[_, _, _, _, _, _, _, _, _, _], (h21.only [0, 0, 0, 0, 0, 0, 0, 0, 0, 2, 0, 0, 0] rfl)⟩, ?_⟩
      refine HJ.op (i := 5) rfl rfl rfl rfl rfl (op_store ttok 11 rfl h21 rfl rfl rfl rfl rfl rfl rfl) ?_
      intro _ w28 h22
      replace h22 : St w0 F0 [boxC b3 86 [.int .i64 r2.1, .slice A37 r2.2.1.length c_37, .slice A38 r2.2.2.1.length c_38, .slice A39 r2.2.2.2.1.length c_39, .slice A40 r2.2.2.2.2.length c_40], boxC b2 86 [.int .i64 r1.1, .slice A33 r1.2.1.length c_33, .slice A34 r1.2.2.1.length c_34, .slice A35 r1.2.2.2.1.length c_35, .slice A36 r1.2.2.2.2.length c_36], ownC 23 (.int .u32) r2.2.1 (.slice A37 r2.2.1.length c_37), ownC 9 .str r2.2.2.1 (.slice A38 r2.2.2.1.length c_38), ownC 135 (.pair .str (.pair .bool .str)) r2.2.2.2.1 (.slice A39 r2.2.2.2.1.length c_39), ownC 75 (.pair .str .str) r2.2.2.2.2 (.slice A40 r2.2.2.2.2.length c_40), ownC 23 (.int .u32) r1.2.1 (.slice A33 r1.2.1.length c_33), ownC 9 .str r1.2.2.1 (.slice A34 r1.2.2.1.length c_34), ownC 135 (.pair .str (.pair .bool .str)) r1.2.2.2.1 (.slice A35 r1.2.2.2.1.length c_35), ownC 75 (.pair .str .str) r1.2.2.2.2 (.slice A36 r1.2.2.2.2.length c_36), boxC b5 86 [.int .i64 0, .slice none ([] : List (Int)).length 0, .slice none ([] : List (List UInt8)).length 0, .slice none ([] : List (List UInt8 × Bool × List UInt8)).length 0, .slice none ([] : List (List UInt8 × List UInt8)).length 0], boxC b4 86 [.int .i64 0, .slice none ([] : List (Int)).length 0, .slice none ([] : List (List UInt8)).length 0, .slice none ([] : List (List UInt8 × Bool × List UInt8)).length 0, .slice none ([] : List (List UInt8 × List UInt8)).length 0], boxC b1 61 [.int .i64 a0.1, .int .i64 a0.2.1, .int .i64 a0.2.2.1, .int .i64 a0.2.2.2.1, .int .i64 a0.2.2.2.2.1, .int .i64 a0.2.2.2.2.2.1, .int .i64 a0.2.2.2.2.2.2.1, .int .i64 a0.2.2.2.2.2.2.2]] _ _ := h22
      refine ⟨⟨[_, _, _, _, _, _, _, _, _, _], h22⟩, ?_⟩
      refine HJ.fin [(2, .int .i64 a2), (4, .int .i64 a4), (5, .pointer (some ⟨b1, 0, none⟩)), (6, .pointer (some ⟨b2, 0, none⟩)), (8, .pointer (some ⟨b3, 0, none⟩)), (10, .pointer (some ⟨b4, 0, none⟩)), (11, .pointer (some ⟨b5, 0, none⟩))] rfl rfl ?_
      exact thenP_intro ⟨A33, c_33, A34, c_34, A35, c_35, A36, c_36, A37, c_37, A38, c_38, A39, c_39, A40, c_40, rfl, ((h22.only [1, 5, 5, 5, 5, 0, 0, 0, 0, 0, 0, 0, 0] rfl).rds [0, 1, 2, 3, 4, 5, 6, 7] rfl)⟩
  · rintro env w29 ⟨A9, c_9, A10, c_10, A11, c_11, A12, c_12, A13, c_13, A14, c_14, A15, c_15, A16, c_16, rfl, h23⟩
    refine J.seq ?_
    refine J.seq ?_
    refine J.region ?_
    refine RJ.run ttok 3 rfl ?_
    rcases Bool.eq_false_or_eq_true (decide (a2 < 0)) with c1 | c1
    · replace H := ite_t c1 H
      refine RJ.know (t := 23) rfl (congrArg Value.bool c1) ?_
      refine RJ.run ttok 18 rfl ?_
      refine RJ.fin [(2, .int .i64 a2), (4, .int .i64 a4), (5, .pointer (some ⟨b1, 0, none⟩)), (6, .pointer (some ⟨b2, 0, none⟩)), (8, .pointer (some ⟨b3, 0, none⟩)), (10, .pointer (some ⟨b4, 0, none⟩)), (11, .pointer (some ⟨b5, 0, none⟩)), (41, .bool true)] rfl ?_
      refine J.condT rfl ?_
      refine J.seq ?_
      refine J.heldSt mix (h23.only [0, 0, 0, 0, 0, 0, 0, 0, 0, 0, 2] rfl) ?_
      have h24 := h23.drew
      refine HJ.q (i := 0) rfl rfl rfl rfl rfl rfl (q_load_box ttok 0 (fun w e => e) rfl rfl rfl rfl rfl) ?_
      refine HJ.q (i := 1) rfl rfl rfl rfl rfl rfl (q_load_box ttok 5 (fun w e => e) rfl rfl rfl rfl rfl) ?_
      refine HJ.op (i := 2) rfl rfl rfl rfl rfl (op_store ttok 11 rfl h24 rfl rfl rfl rfl rfl rfl rfl) ?_
      intro _ w30 h25
      replace h25 : St w0 F0 [boxC b4 86 [.int .i64 r1.1, .slice A9 r1.2.1.length c_9, .slice A10 r1.2.2.1.length c_10, .slice A11 r1.2.2.2.1.length c_11, .slice A12 r1.2.2.2.2.length c_12], boxC b2 86 [.int .i64 r1.1, .slice A9 r1.2.1.length c_9, .slice A10 r1.2.2.1.length c_10, .slice A11 r1.2.2.2.1.length c_11, .slice A12 r1.2.2.2.2.length c_12], ownC 23 (.int .u32) r1.2.1 (.slice A9 r1.2.1.length c_9), ownC 9 .str r1.2.2.1 (.slice A10 r1.2.2.1.length c_10), ownC 135 (.pair .str (.pair .bool .str)) r1.2.2.2.1 (.slice A11 r1.2.2.2.1.length c_11), ownC 75 (.pair .str .str) r1.2.2.2.2 (.slice A12 r1.2.2.2.2.length c_12), boxC b3 86 [.int .i64 r2.1, .slice A13 r2.2.1.length c_13, .slice A14 r2.2.2.1.length c_14, .slice A15 r2.2.2.2.1.length c_15, .slice A16 r2.2.2.2.2.length c_16], ownC 23 (.int .u32) r2.2.1 (.slice A13 r2.2.1.length c_13), ownC 9 .str r2.2.2.1 (.slice A14 r2.2.2.1.length c_14), ownC 135 (.pair .str (.pair .bool .str)) r2.2.2.2.1 (.slice A15 r2.2.2.2.1.length c_15), ownC 75 (.pair .str .str) r2.2.2.2.2 (.slice A16 r2.2.2.2.2.length c_16), boxC b5 86 [.int .i64 0, .slice none ([] : List (Int)).length 0, .slice none ([] : List (List UInt8)).length 0, .slice none ([] : List (List UInt8 × Bool × List UInt8)).length 0, .slice none ([] : List (List UInt8 × List UInt8)).length 0], boxC b1 61 [.int .i64 a0.1, .int .i64 a0.2.1, .int .i64 a0.2.2.1, .int .i64 a0.2.2.2.1, .int .i64 a0.2.2.2.2.1, .int .i64 a0.2.2.2.2.2.1, .int .i64 a0.2.2.2.2.2.2.1, .int .i64 a0.2.2.2.2.2.2.2]] _ _ := h25
      refine ⟨⟨[_, _], (h25.only [0, 10, 0, 0, 0, 0, 0, 0, 0, 0, 0, 0, 0] rfl)⟩, ?_⟩
      refine HJ.op (i := 3) rfl rfl rfl rfl rfl (op_store ttok 11 rfl h25 rfl rfl rfl rfl rfl rfl rfl) ?_
      intro _ w31 h26
      replace h26 : St w0 F0 [boxC b5 86 [.int .i64 r2.1, .slice A13 r2.2.1.length c_13, .slice A14 r2.2.2.1.length c_14, .slice A15 r2.2.2.2.1.length c_15, .slice A16 r2.2.2.2.2.length c_16], boxC b4 86 [.int .i64 r1.1, .slice A9 r1.2.1.length c_9, .slice A10 r1.2.2.1.length c_10, .slice A11 r1.2.2.2.1.length c_11, .slice A12 r1.2.2.2.2.length c_12], boxC b2 86 [.int .i64 r1.1, .slice A9 r1.2.1.length c_9, .slice A10 r1.2.2.1.length c_10, .slice A11 r1.2.2.2.1.length c_11, .slice A12 r1.2.2.2.2.length c_12], ownC 23 (.int .u32) r1.2.1 (.slice A9 r1.2.1.length c_9), ownC 9 .str r1.2.2.1 (.slice A10 r1.2.2.1.length c_10), ownC 135 (.pair .str (.pair .bool .str)) r1.2.2.2.1 (.slice A11 r1.2.2.2.1.length c_11), ownC 75 (.pair .str .str) r1.2.2.2.2 (.slice A12 r1.2.2.2.2.length c_12), boxC b3 86 [.int .i64 r2.1, .slice A13 r2.2.1.length c_13, .slice A14 r2.2.2.1.length c_14, .slice A15 r2.2.2.2.1.length c_15, .slice A16 r2.2.2.2.2.length c_16], ownC 23 (.int .u32) r2.2.1 (.slice A13 r2.2.1.length c_13), ownC 9 .str r2.2.2.1 (.slice A14 r2.2.2.1.length c_14), ownC 135 (.pair .str (.pair .bool .str)) r2.2.2.2.1 (.slice A15 r2.2.2.2.1.length c_15), ownC 75 (.pair .str .str) r2.2.2.2.2 (.slice A16 r2.2.2.2.2.length c_16), boxC b1 61 [.int .i64 a0.1, .int .i64 a0.2.1, .int .i64 a0.2.2.1, .int .i64 a0.2.2.2.1, .int .i64 a0.2.2.2.2.1, .int .i64 a0.2.2.2.2.2.1, .int .i64 a0.2.2.2.2.2.2.1, .int .i64 a0.2.2.2.2.2.2.2]] _ _ := h26
      refine ⟨⟨[_, _], h26⟩, ?_⟩
      refine HJ.run ttok rfl [4] rfl ?_
      refine HJ.fin [(10, .pointer (some ⟨b4, 0, none⟩)), (11, .pointer (some ⟨b5, 0, none⟩)), (12, .int .i64 0)] rfl rfl ?_
      have h27 := h26.only [0, 0, 1, 1, 1, 1, 2, 2, 2, 2] rfl
      replace h27 : St w0 F0 [boxC b5 86 [.int .i64 r2.1, .slice A13 r2.2.1.length c_13, .slice A14 r2.2.2.1.length c_14, .slice A15 r2.2.2.2.1.length c_15, .slice A16 r2.2.2.2.2.length c_16], boxC b4 86 [.int .i64 r1.1, .slice A9 r1.2.1.length c_9, .slice A10 r1.2.2.1.length c_10, .slice A11 r1.2.2.2.1.length c_11, .slice A12 r1.2.2.2.2.length c_12], ownC 23 (.int .u32) r1.2.1 (.slice A9 r1.2.1.length c_9), ownC 9 .str r1.2.2.1 (.slice A10 r1.2.2.1.length c_10), ownC 135 (.pair .str (.pair .bool .str)) r1.2.2.2.1 (.slice A11 r1.2.2.2.1.length c_11), ownC 75 (.pair .str .str) r1.2.2.2.2 (.slice A12 r1.2.2.2.2.length c_12), ownC 23 (.int .u32) r2.2.1 (.slice A13 r2.2.1.length c_13), ownC 9 .str r2.2.2.1 (.slice A14 r2.2.2.1.length c_14), ownC 135 (.pair .str (.pair .bool .str)) r2.2.2.2.1 (.slice A15 r2.2.2.2.1.length c_15), ownC 75 (.pair .str .str) r2.2.2.2.2 (.slice A16 r2.2.2.2.2.length c_16)] _ _ := h27
      refine J.ret ?_
      obtain rfl := Option.some.inj H
      exact ⟨_, _, _, (results_two rfl (rvcons (RV.cell ttok 1 h27 rfl rfl rfl rfl) (rvcons (RV.cell ttok 0 h27 rfl rfl rfl rfl) (rvcons (RV.tmp rfl) rvnil))) rfl), ⟨_, _, _, _, _, _, _, _, _, _, _, _, _, _, _, _, rfl, rfl⟩, h27.only [2, 2, 2, 2, 2, 2, 2, 2] rfl⟩
    · replace H := ite_f c1 H
      refine RJ.know (t := 23) rfl (congrArg Value.bool c1) ?_
      refine RJ.run ttok 2 rfl ?_
      refine RJ.q rfl rfl (q_load_box ttok 0 (fun w e => e ▸ h23.wh) rfl rfl rfl rfl rfl) ?_
      refine RJ.run ttok 4 rfl ?_
      rcases Bool.eq_false_or_eq_true (decide ((r1.2.1.length : Int) ≤ a2)) with c2 | c2
      · replace H := ite_t c2 H
        refine RJ.know (t := 30) rfl (congrArg Value.bool c2) ?_
        refine RJ.run ttok 11 rfl ?_
        refine RJ.fin [(2, .int .i64 a2), (4, .int .i64 a4), (5, .pointer (some ⟨b1, 0, none⟩)), (6, .pointer (some ⟨b2, 0, none⟩)), (8, .pointer (some ⟨b3, 0, none⟩)), (10, .pointer (some ⟨b4, 0, none⟩)), (11, .pointer (some ⟨b5, 0, none⟩)), (41, .bool true)] rfl ?_
        refine J.condT rfl ?_
        refine J.seq ?_
        refine J.heldSt mix (h23.only [0, 0, 0, 0, 0, 0, 0, 0, 0, 0, 2] rfl) ?_
        have h28 := h23.drew
        refine HJ.q (i := 0) rfl rfl rfl rfl rfl rfl (q_load_box ttok 0 (fun w e => e) rfl rfl rfl rfl rfl) ?_
        refine HJ.q (i := 1) rfl rfl rfl rfl rfl rfl (q_load_box ttok 5 (fun w e => e) rfl rfl rfl rfl rfl) ?_
        refine HJ.op (i := 2) rfl rfl rfl rfl rfl (op_store ttok 11 rfl h28 rfl rfl rfl rfl rfl rfl rfl) ?_
        intro _ w32 h29
        replace h29 : St w0 F0 [boxC b4 86 [.int .i64 r1.1, .slice A9 r1.2.1.length c_9, .slice A10 r1.2.2.1.length c_10, .slice A11 r1.2.2.2.1.length c_11, .slice A12 r1.2.2.2.2.length c_12], boxC b2 86 [.int .i64 r1.1, .slice A9 r1.2.1.length c_9, .slice A10 r1.2.2.1.length c_10, .slice A11 r1.2.2.2.1.length c_11, .slice A12 r1.2.2.2.2.length c_12], ownC 23 (.int .u32) r1.2.1 (.slice A9 r1.2.1.length c_9), ownC 9 .str r1.2.2.1 (.slice A10 r1.2.2.1.length c_10), ownC 135 (.pair .str (.pair .bool .str)) r1.2.2.2.1 (.slice A11 r1.2.2.2.1.length c_11), ownC 75 (.pair .str .str) r1.2.2.2.2 (.slice A12 r1.2.2.2.2.length c_12), boxC b3 86 [.int .i64 r2.1, .slice A13 r2.2.1.length c_13, .slice A14 r2.2.2.1.length c_14, .slice A15 r2.2.2.2.1.length c_15, .slice A16 r2.2.2.2.2.length c_16], ownC 23 (.int .u32) r2.2.1 (.slice A13 r2.2.1.length c_13), ownC 9 .str r2.2.2.1 (.slice A14 r2.2.2.1.length c_14), ownC 135 (.pair .str (.pair .bool .str)) r2.2.2.2.1 (.slice A15 r2.2.2.2.1.length c_15), ownC 75 (.pair .str .str) r2.2.2.2.2 (.slice A16 r2.2.2.2.2.length c_16), boxC b5 86 [.int .i64 0, .slice none ([] : List (Int)).length 0, .slice none ([] : List (List UInt8)).length 0, .slice none ([] : List (List UInt8 × Bool × List UInt8)).length 0, .slice none ([] : List (List UInt8 × List UInt8)).length 0], boxC b1 61 [.int .i64 a0.1, .int .i64 a0.2.1, .int .i64 a0.2.2.1, .int .i64 a0.2.2.2.1, .int .i64 a0.2.2.2.2.1, .int .i64 a0.2.2.2.2.2.1, .int .i64 a0.2.2.2.2.2.2.1, .int .i64 a0.2.2.2.2.2.2.2]] _ _ := h29
        refine ⟨⟨[_, _], (h29.only [0, 10, 0, 0, 0, 0, 0, 0, 0, 0, 0, 0, 0] rfl)⟩, ?_⟩
        refine HJ.op (i := 3) rfl rfl rfl rfl rfl (op_store ttok 11 rfl h29 rfl rfl rfl rfl rfl rfl rfl) ?_
        intro _ w33 h30
        replace h30 : St w0 F0 [boxC b5 86 [.int .i64 r2.1, .slice A13 r2.2.1.length c_13, .slice A14 r2.2.2.1.length c_14, .slice A15 r2.2.2.2.1.length c_15, .slice A16 r2.2.2.2.2.length c_16], boxC b4 86 [.int .i64 r1.1, .slice A9 r1.2.1.length c_9, .slice A10 r1.2.2.1.length c_10, .slice A11 r1.2.2.2.1.length c_11, .slice A12 r1.2.2.2.2.length c_12], boxC b2 86 [.int .i64 r1.1, .slice A9 r1.2.1.length c_9, .slice A10 r1.2.2.1.length c_10, .slice A11 r1.2.2.2.1.length c_11, .slice A12 r1.2.2.2.2.length c_12], ownC 23 (.int .u32) r1.2.1 (.slice A9 r1.2.1.length c_9), ownC 9 .str r1.2.2.1 (.slice A10 r1.2.2.1.length c_10), ownC 135 (.pair .str (.pair .bool .str)) r1.2.2.2.1 (.slice A11 r1.2.2.2.1.length c_11), ownC 75 (.pair .str .str) r1.2.2.2.2 (.slice A12 r1.2.2.2.2.length c_12), boxC b3 86 [.int .i64 r2.1, .slice A13 r2.2.1.length c_13, .slice A14 r2.2.2.1.length c_14, .slice A15 r2.2.2.2.1.length c_15, .slice A16 r2.2.2.2.2.length c_16], ownC 23 (.int .u32) r2.2.1 (.slice A13 r2.2.1.length c_13), ownC 9 .str r2.2.2.1 (.slice A14 r2.2.2.1.length c_14), ownC 135 (.pair .str (.pair .bool .str)) r2.2.2.2.1 (.slice A15 r2.2.2.2.1.length c_15), ownC 75 (.pair .str .str) r2.2.2.2.2 (.slice A16 r2.2.2.2.2.length c_16), boxC b1 61 [.int .i64 a0.1, .int .i64 a0.2.1, .int .i64 a0.2.2.1, .int .i64 a0.2.2.2.1, .int .i64 a0.2.2.2.2.1, .int .i64 a0.2.2.2.2.2.1, .int .i64 a0.2.2.2.2.2.2.1, .int .i64 a0.2.2.2.2.2.2.2]] _ _ := h30
        refine ⟨⟨[_, _], h30⟩, ?_⟩
        refine HJ.run ttok rfl [4] rfl ?_
        refine HJ.fin [(10, .pointer (some ⟨b4, 0, none⟩)), (11, .pointer (some ⟨b5, 0, none⟩)), (12, .int .i64 0)] rfl rfl ?_
        have h31 := h30.only [0, 0, 1, 1, 1, 1, 2, 2, 2, 2] rfl
        replace h31 : St w0 F0 [boxC b5 86 [.int .i64 r2.1, .slice A13 r2.2.1.length c_13, .slice A14 r2.2.2.1.length c_14, .slice A15 r2.2.2.2.1.length c_15, .slice A16 r2.2.2.2.2.length c_16], boxC b4 86 [.int .i64 r1.1, .slice A9 r1.2.1.length c_9, .slice A10 r1.2.2.1.length c_10, .slice A11 r1.2.2.2.1.length c_11, .slice A12 r1.2.2.2.2.length c_12], ownC 23 (.int .u32) r1.2.1 (.slice A9 r1.2.1.length c_9), ownC 9 .str r1.2.2.1 (.slice A10 r1.2.2.1.length c_10), ownC 135 (.pair .str (.pair .bool .str)) r1.2.2.2.1 (.slice A11 r1.2.2.2.1.length c_11), ownC 75 (.pair .str .str) r1.2.2.2.2 (.slice A12 r1.2.2.2.2.length c_12), ownC 23 (.int .u32) r2.2.1 (.slice A13 r2.2.1.length c_13), ownC 9 .str r2.2.2.1 (.slice A14 r2.2.2.1.length c_14), ownC 135 (.pair .str (.pair .bool .str)) r2.2.2.2.1 (.slice A15 r2.2.2.2.1.length c_15), ownC 75 (.pair .str .str) r2.2.2.2.2 (.slice A16 r2.2.2.2.2.length c_16)] _ _ := h31
        refine J.ret ?_
        obtain rfl := Option.some.inj H
        exact ⟨_, _, _, (results_two rfl (rvcons (RV.cell ttok 1 h31 rfl rfl rfl rfl) (rvcons (RV.cell ttok 0 h31 rfl rfl rfl rfl) (rvcons (RV.tmp rfl) rvnil))) rfl), ⟨_, _, _, _, _, _, _, _, _, _, _, _, _, _, _, _, rfl, rfl⟩, h31.only [2, 2, 2, 2, 2, 2, 2, 2] rfl⟩
      · replace H := ite_f c2 H
        refine RJ.know (t := 30) rfl (congrArg Value.bool c2) ?_
        refine RJ.run ttok 1 rfl ?_
        refine RJ.q rfl rfl (q_load_box ttok 0 (fun w e => e ▸ h23.wh) rfl rfl rfl rfl rfl) ?_
        refine RJ.run ttok 1 rfl ?_
        refine RJ.q rfl rfl (q_load_box ttok 5 (fun w e => e ▸ h23.wh) rfl rfl rfl rfl rfl) ?_
        refine RJ.run ttok 4 rfl ?_
        rcases Bool.eq_false_or_eq_true (!decide (r1.1 = (w64 (r2.1 + 1)))) with c3 | c3
        · replace H := ite_t c3 H
          refine RJ.know (t := 38) rfl (congrArg Value.bool c3) ?_
          refine RJ.run ttok 3 rfl ?_
          refine RJ.fin [(2, .int .i64 a2), (4, .int .i64 a4), (5, .pointer (some ⟨b1, 0, none⟩)), (6, .pointer (some ⟨b2, 0, none⟩)), (8, .pointer (some ⟨b3, 0, none⟩)), (10, .pointer (some ⟨b4, 0, none⟩)), (11, .pointer (some ⟨b5, 0, none⟩)), (41, .bool true)] rfl ?_
          refine J.condT rfl ?_
          refine J.seq ?_
          refine J.heldSt mix (h23.only [0, 0, 0, 0, 0, 0, 0, 0, 0, 0, 2] rfl) ?_
          have h32 := h23.drew
          refine HJ.q (i := 0) rfl rfl rfl rfl rfl rfl (q_load_box ttok 0 (fun w e => e) rfl rfl rfl rfl rfl) ?_
          refine HJ.q (i := 1) rfl rfl rfl rfl rfl rfl (q_load_box ttok 5 (fun w e => e) rfl rfl rfl rfl rfl) ?_
          refine HJ.op (i := 2) rfl rfl rfl rfl rfl (op_store ttok 11 rfl h32 rfl rfl rfl rfl rfl rfl rfl) ?_
          intro _ w34 h33
          replace h33 : St w0 F0 [boxC b4 86 [.int .i64 r1.1, .slice A9 r1.2.1.length c_9, .slice A10 r1.2.2.1.length c_10, .slice A11 r1.2.2.2.1.length c_11, .slice A12 r1.2.2.2.2.length c_12], boxC b2 86 [.int .i64 r1.1, .slice A9 r1.2.1.length c_9, .slice A10 r1.2.2.1.length c_10, .slice A11 r1.2.2.2.1.length c_11, .slice A12 r1.2.2.2.2.length c_12], ownC 23 (.int .u32) r1.2.1 (.slice A9 r1.2.1.length c_9), ownC 9 .str r1.2.2.1 (.slice A10 r1.2.2.1.length c_10), ownC 135 (.pair .str (.pair .bool .str)) r1.2.2.2.1 (.slice A11 r1.2.2.2.1.length c_11), ownC 75 (.pair .str .str) r1.2.2.2.2 (.slice A12 r1.2.2.2.2.length c_12), boxC b3 86 [.int .i64 r2.1, .slice A13 r2.2.1.length c_13, .slice A14 r2.2.2.1.length c_14, .slice A15 r2.2.2.2.1.length c_15, .slice A16 r2.2.2.2.2.length c_16], ownC 23 (.int .u32) r2.2.1 (.slice A13 r2.2.1.length c_13), ownC 9 .str r2.2.2.1 (.slice A14 r2.2.2.1.length c_14), ownC 135 (.pair .str (.pair .bool .str)) r2.2.2.2.1 (.slice A15 r2.2.2.2.1.length c_15), ownC 75 (.pair .str .str) r2.2.2.2.2 (.slice A16 r2.2.2.2.2.length c_16), boxC b5 86 [.int .i64 0, .slice none ([] : List (Int)).length 0, .slice none ([] : List (List UInt8)).length 0, .slice none ([] : List (List UInt8 × Bool × List UInt8)).length 0, .slice none ([] : List (List UInt8 × List UInt8)).length 0], boxC b1 61 [.int .i64 a0.1, .int .i64 a0.2.1, .int .i64 a0.2.2.1, .int .i64 a0.2.2.2.1, .int .i64 a0.2.2.2.2.1, .int .i64 a0.2.2.2.2.2.1, .int .i64 a0.2.2.2.2.2.2.1, .int .i64 a0.2.2.2.2.2.2.2]] _ _ := h33
          refine ⟨⟨[_, _], (h33.only [0, 10, 0, 0, 0, 0, 0, 0, 0, 0, 0, 0, 0] rfl)⟩, ?_⟩
          refine HJ.op (i := 3) rfl rfl rfl rfl rfl (op_store ttok 11 rfl h33 rfl rfl rfl rfl rfl rfl rfl) ?_
          intro _ w35 h34
          replace h34 : St w0 F0 [boxC b5 86 [.int .i64 r2.1, .slice A13 r2.2.1.length c_13, .slice A14 r2.2.2.1.length c_14, .slice A15 r2.2.2.2.1.length c_15, .slice A16 r2.2.2.2.2.length c_16], boxC b4 86 [.int .i64 r1.1, .slice A9 r1.2.1.length c_9, .slice A10 r1.2.2.1.length c_10, .slice A11 r1.2.2.2.1.length c_11, .slice A12 r1.2.2.2.2.length c_12], boxC b2 86 [.int .i64 r1.1, .slice A9 r1.2.1.length c_9, .slice A10 r1.2.2.1.length c_10, .slice A11 r1.2.2.2.1.length c_11, .slice A12 r1.2.2.2.2.length c_12], ownC 23 (.int .u32) r1.2.1 (.slice A9 r1.2.1.length c_9), ownC 9 .str r1.2.2.1 (.slice A10 r1.2.2.1.length c_10), ownC 135 (.pair .str (.pair .bool .str)) r1.2.2.2.1 (.slice A11 r1.2.2.2.1.length c_11), ownC 75 (.pair .str .str) r1.2.2.2.2 (.slice A12 r1.2.2.2.2.length c_12), boxC b3 86 [.int .i64 r2.1, .slice A13 r2.2.1.length c_13, .slice A14 r2.2.2.1.length c_14, .slice A15 r2.2.2.2.1.length c_15, .slice A16 r2.2.2.2.2.length c_16], ownC 23 (.int .u32) r2.2.1 (.slice A13 r2.2.1.length c_13), ownC 9 .str r2.2.2.1 (.slice A14 r2.2.2.1.length c_14), ownC 135 (.pair .str (.pair .bool .str)) r2.2.2.2.1 (.slice A15 r2.2.2.2.1.length c_15), ownC 75 (.pair .str .str) r2.2.2.2.2 (.slice A16 r2.2.2.2.2.length c_16), boxC b1 61 [.int .i64 a0.1, .int .i64 a0.2.1, .int .i64 a0.2.2.1, .int .i64 a0.2.2.2.1, .int .i64 a0.2.2.2.2.1, .int .i64 a0.2.2.2.2.2.1, .int .i64 a0.2.2.2.2.2.2.1, .int .i64 a0.2.2.2.2.2.2.2]] _ _ := h34
          refine ⟨⟨[_, _], h34⟩, ?_⟩
          refine HJ.run ttok rfl [4] rfl ?_
          refine HJ.fin [(10, .pointer (some ⟨b4, 0, none⟩)), (11, .pointer (some ⟨b5, 0, none⟩)), (12, .int .i64 0)] rfl rfl ?_
          have h35 := h34.only [0, 0, 1, 1, 1, 1, 2, 2, 2, 2] rfl
          replace h35 : St w0 F0 [boxC b5 86 [.int .i64 r2.1, .slice A13 r2.2.1.length c_13, .slice A14 r2.2.2.1.length c_14, .slice A15 r2.2.2.2.1.length c_15, .slice A16 r2.2.2.2.2.length c_16], boxC b4 86 [.int .i64 r1.1, .slice A9 r1.2.1.length c_9, .slice A10 r1.2.2.1.length c_10, .slice A11 r1.2.2.2.1.length c_11, .slice A12 r1.2.2.2.2.length c_12], ownC 23 (.int .u32) r1.2.1 (.slice A9 r1.2.1.length c_9), ownC 9 .str r1.2.2.1 (.slice A10 r1.2.2.1.length c_10), ownC 135 (.pair .str (.pair .bool .str)) r1.2.2.2.1 (.slice A11 r1.2.2.2.1.length c_11), ownC 75 (.pair .str .str) r1.2.2.2.2 (.slice A12 r1.2.2.2.2.length c_12), ownC 23 (.int .u32) r2.2.1 (.slice A13 r2.2.1.length c_13), ownC 9 .str r2.2.2.1 (.slice A14 r2.2.2.1.length c_14), ownC 135 (.pair .str (.pair .bool .str)) r2.2.2.2.1 (.slice A15 r2.2.2.2.1.length c_15), ownC 75 (.pair .str .str) r2.2.2.2.2 (.slice A16 r2.2.2.2.2.length c_16)] _ _ := h35
          refine J.ret ?_
          obtain rfl := Option.some.inj H
          exact ⟨_, _, _, (results_two rfl (rvcons (RV.cell ttok 1 h35 rfl rfl rfl rfl) (rvcons (RV.cell ttok 0 h35 rfl rfl rfl rfl) (rvcons (RV.tmp rfl) rvnil))) rfl), ⟨_, _, _, _, _, _, _, _, _, _, _, _, _, _, _, _, rfl, rfl⟩, h35.only [2, 2, 2, 2, 2, 2, 2, 2] rfl⟩
        · replace H := ite_f c3 H
          refine RJ.know (t := 38) rfl (congrArg Value.bool c3) ?_
          refine RJ.run ttok 3 rfl ?_
          refine RJ.fin [(2, .int .i64 a2), (4, .int .i64 a4), (5, .pointer (some ⟨b1, 0, none⟩)), (6, .pointer (some ⟨b2, 0, none⟩)), (8, .pointer (some ⟨b3, 0, none⟩)), (10, .pointer (some ⟨b4, 0, none⟩)), (11, .pointer (some ⟨b5, 0, none⟩)), (41, .bool (decide (a4 < 1)))] rfl ?_
          refine J.cond rfl (fun c4 => ?_) (fun c4 => ?_)
          · replace H := ite_t c4 H
            refine J.seq ?_
            refine J.heldSt mix (h23.only [0, 0, 0, 0, 0, 0, 0, 0, 0, 0, 2] rfl) ?_
            have h36 := h23.drew
            refine HJ.q (i := 0) rfl rfl rfl rfl rfl rfl (q_load_box ttok 0 (fun w e => e) rfl rfl rfl rfl rfl) ?_
            refine HJ.q (i := 1) rfl rfl rfl rfl rfl rfl (q_load_box ttok 5 (fun w e => e) rfl rfl rfl rfl rfl) ?_
            refine HJ.op (i := 2) rfl rfl rfl rfl rfl (op_store ttok 11 rfl h36 rfl rfl rfl rfl rfl rfl rfl) ?_
            intro _ w36 h37
            replace h37 : St w0 F0 [boxC b4 86 [.int .i64 r1.1, .slice A9 r1.2.1.length c_9, .slice A10 r1.2.2.1.length c_10, .slice A11 r1.2.2.2.1.length c_11, .slice A12 r1.2.2.2.2.length c_12], boxC b2 86 [.int .i64 r1.1, .slice A9 r1.2.1.length c_9, .slice A10 r1.2.2.1.length c_10, .slice A11 r1.2.2.2.1.length c_11, .slice A12 r1.2.2.2.2.length c_12], ownC 23 (.int .u32) r1.2.1 (.slice A9 r1.2.1.length c_9), ownC 9 .str r1.2.2.1 (.slice A10 r1.2.2.1.length c_10), ownC 135 (.pair .str (.pair .bool .str)) r1.2.2.2.1 (.slice A11 r1.2.2.2.1.length c_11), ownC 75 (.pair .str .str) r1.2.2.2.2 (.slice A12 r1.2.2.2.2.length c_12), boxC b3 86 [.int .i64 r2.1, .slice A13 r2.2.1.length c_13, .slice A14 r2.2.2.1.length c_14, .slice A15 r2.2.2.2.1.length c_15, .slice A16 r2.2.2.2.2.length c_16], ownC 23 (.int .u32) r2.2.1 (.slice A13 r2.2.1.length c_13), ownC 9 .str r2.2.2.1 (.slice A14 r2.2.2.1.length c_14), ownC 135 (.pair .str (.pair .bool .str)) r2.2.2.2.1 (.slice A15 r2.2.2.2.1.length c_15), ownC 75 (.pair .str .str) r2.2.2.2.2 (.slice A16 r2.2.2.2.2.length c_16), boxC b5 86 [.int .i64 0, .slice none ([] : List (Int)).length 0, .slice none ([] : List (List UInt8)).length 0, .slice none ([] : List (List UInt8 × Bool × List UInt8)).length 0, .slice none ([] : List (List UInt8 × List UInt8)).length 0], boxC b1 61 [.int .i64 a0.1, .int .i64 a0.2.1, .int .i64 a0.2.2.1, .int .i64 a0.2.2.2.1, .int .i64 a0.2.2.2.2.1, .int .i64 a0.2.2.2.2.2.1, .int .i64 a0.2.2.2.2.2.2.1, .int .i64 a0.2.2.2.2.2.2.2]] _ _ := h37
            refine ⟨⟨[_, _], (h37.only [0, 10, 0, 0, 0, 0, 0, 0, 0, 0, 0, 0, 0] rfl)⟩, ?_⟩
            refine HJ.op (i := 3) rfl rfl rfl rfl rfl (op_store ttok 11 rfl h37 rfl rfl rfl rfl rfl rfl rfl) ?_
            intro _ w37 h38
            replace h38 : St w0 F0 [boxC b5 86 [.int .i64 r2.1, .slice A13 r2.2.1.length c_13, .slice A14 r2.2.2.1.length c_14, .slice A15 r2.2.2.2.1.length c_15, .slice A16 r2.2.2.2.2.length c_16], boxC b4 86 [.int .i64 r1.1, .slice A9 r1.2.1.length c_9, .slice A10 r1.2.2.1.length c_10, .slice A11 r1.2.2.2.1.length c_11, .slice A12 r1.2.2.2.2.length c_12], boxC b2 86 [.int .i64 r1.1, .slice A9 r1.2.1.length c_9, .slice A10 r1.2.2.1.length c_10, .slice A11 r1.2.2.2.1.length c_11, .slice A12 r1.2.2.2.2.length c_12], ownC 23 (.int .u32) r1.2.1 (.slice A9 r1.2.1.length c_9), ownC 9 .str r1.2.2.1 (.slice A10 r1.2.2.1.length c_10), ownC 135 (.pair .str (.pair .bool .str)) r1.2.2.2.1 (.slice A11 r1.2.2.2.1.length c_11), ownC 75 (.pair .str .str) r1.2.2.2.2 (.slice A12 r1.2.2.2.2.length c_12), boxC b3 86 [.int .i64 r2.1, .slice A13 r2.2.1.length c_13, .slice A14 r2.2.2.1.length c_14, .slice A15 r2.2.2.2.1.length c_15, .slice A16 r2.2.2.2.2.length c_16], ownC 23 (.int .u32) r2.2.1 (.slice A13 r2.2.1.length c_13), ownC 9 .str r2.2.2.1 (.slice A14 r2.2.2.1.length c_14), ownC 135 (.pair .str (.pair .bool .str)) r2.2.2.2.1 (.slice A15 r2.2.2.2.1.length c_15), ownC 75 (.pair .str .str) r2.2.2.2.2 (.slice A16 r2.2.2.2.2.length c_16), boxC b1 61 [.int .i64 a0.1, .int .i64 a0.2.1, .int .i64 a0.2.2.1, .int .i64 a0.2.2.2.1, .int .i64 a0.2.2.2.2.1, .int .i64 a0.2.2.2.2.2.1, .int .i64 a0.2.2.2.2.2.2.1, .int .i64 a0.2.2.2.2.2.2.2]] _ _ := h38
            refine ⟨⟨[_, _], h38⟩, ?_⟩
            refine HJ.run ttok rfl [4] rfl ?_
            refine HJ.fin [(10, .pointer (some ⟨b4, 0, none⟩)), (11, .pointer (some ⟨b5, 0, none⟩)), (12, .int .i64 0)] rfl rfl ?_
            have h39 := h38.only [0, 0, 1, 1, 1, 1, 2, 2, 2, 2] rfl
            replace h39 : St w0 F0 [boxC b5 86 [.int .i64 r2.1, .slice A13 r2.2.1.length c_13, .slice A14 r2.2.2.1.length c_14, .slice A15 r2.2.2.2.1.length c_15, .slice A16 r2.2.2.2.2.length c_16], boxC b4 86 [.int .i64 r1.1, .slice A9 r1.2.1.length c_9, .slice A10 r1.2.2.1.length c_10, .slice A11 r1.2.2.2.1.length c_11, .slice A12 r1.2.2.2.2.length c_12], ownC 23 (.int .u32) r1.2.1 (.slice A9 r1.2.1.length c_9), ownC 9 .str r1.2.2.1 (.slice A10 r1.2.2.1.length c_10), ownC 135 (.pair .str (.pair .bool .str)) r1.2.2.2.1 (.slice A11 r1.2.2.2.1.length c_11), ownC 75 (.pair .str .str) r1.2.2.2.2 (.slice A12 r1.2.2.2.2.length c_12), ownC 23 (.int .u32) r2.2.1 (.slice A13 r2.2.1.length c_13), ownC 9 .str r2.2.2.1 (.slice A14 r2.2.2.1.length c_14), ownC 135 (.pair .str (.pair .bool .str)) r2.2.2.2.1 (.slice A15 r2.2.2.2.1.length c_15), ownC 75 (.pair .str .str) r2.2.2.2.2 (.slice A16 r2.2.2.2.2.length c_16)] _ _ := h39
            refine J.ret ?_
            obtain rfl := Option.some.inj H
            exact ⟨_, _, _, (results_two rfl (rvcons (RV.cell ttok 1 h39 rfl rfl rfl rfl) (rvcons (RV.cell ttok 0 h39 rfl rfl rfl rfl) (rvcons (RV.tmp rfl) rvnil))) rfl), ⟨_, _, _, _, _, _, _, _, _, _, _, _, _, _, _, _, rfl, rfl⟩, h39.only [2, 2, 2, 2, 2, 2, 2, 2] rfl⟩
          · replace H := ite_f c4 H
            refine J.skip ?_
            refine J.seq ?_
            obtain ⟨r3, q3, H⟩ := bind_t H
            obtain ⟨r4, q4, H⟩ := bind_t H
            refine J.midS (fun env w => ∃ (b6 : Nat), env = [(4, .int .i64 a4), (5, .pointer (some ⟨b1, 0, none⟩)), (6, .pointer (some ⟨b2, 0, none⟩)), (8, .pointer (some ⟨b3, 0, none⟩)), (10, .pointer (some ⟨b4, 0, none⟩)), (11, .pointer (some ⟨b5, 0, none⟩)), (13, .pointer (some ⟨b6, 0, none⟩)), (14, .bool r4.2)] ∧ St w0 F0 [boxC b6 93 [.string ⟨⟨r4.1.1⟩⟩, .string ⟨⟨r4.1.2.1⟩⟩, .bool r4.1.2.2], boxC b2 86 [.int .i64 r1.1, .slice A9 r1.2.1.length c_9, .slice A10 r1.2.2.1.length c_10, .slice A11 r1.2.2.2.1.length c_11, .slice A12 r1.2.2.2.2.length c_12], ownC 23 (.int .u32) r1.2.1 (.slice A9 r1.2.1.length c_9), ownC 9 .str r1.2.2.1 (.slice A10 r1.2.2.1.length c_10), ownC 135 (.pair .str (.pair .bool .str)) r1.2.2.2.1 (.slice A11 r1.2.2.2.1.length c_11), ownC 75 (.pair .str .str) r1.2.2.2.2 (.slice A12 r1.2.2.2.2.length c_12), boxC b3 86 [.int .i64 r2.1, .slice A13 r2.2.1.length c_13, .slice A14 r2.2.2.1.length c_14, .slice A15 r2.2.2.2.1.length c_15, .slice A16 r2.2.2.2.2.length c_16], ownC 23 (.int .u32) r2.2.1 (.slice A13 r2.2.1.length c_13), ownC 9 .str r2.2.2.1 (.slice A14 r2.2.2.1.length c_14), ownC 135 (.pair .str (.pair .bool .str)) r2.2.2.2.1 (.slice A15 r2.2.2.2.1.length c_15), ownC 75 (.pair .str .str) r2.2.2.2.2 (.slice A16 r2.2.2.2.2.length c_16), boxC b5 86 [.int .i64 0, .slice none ([] : List (Int)).length 0, .slice none ([] : List (List UInt8)).length 0, .slice none ([] : List (List UInt8 × Bool × List UInt8)).length 0, .slice none ([] : List (List UInt8 × List UInt8)).length 0], boxC b4 86 [.int .i64 0, .slice none ([] : List (Int)).length 0, .slice none ([] : List (List UInt8)).length 0, .slice none ([] : List (List UInt8 × Bool × List UInt8)).length 0, .slice none ([] : List (List UInt8 × List UInt8)).length 0], boxC b1 61 [.int .i64 a0.1, .int .i64 a0.2.1, .int .i64 a0.2.2.1, .int .i64 a0.2.2.2.1, .int .i64 a0.2.2.2.2.1, .int .i64 a0.2.2.2.2.2.1, .int .i64 a0.2.2.2.2.2.2.1, .int .i64 a0.2.2.2.2.2.2.2]] [rdC 23 (.int .u32) a1.2.1 (.slice A1 a1.2.1.length c_1), rdC 9 .str a1.2.2.1 (.slice A2 a1.2.2.1.length c_2), rdC 135 (.pair .str (.pair .bool .str)) a1.2.2.2.1 (.slice A3 a1.2.2.2.1.length c_3), rdC 75 (.pair .str .str) a1.2.2.2.2 (.slice A4 a1.2.2.2.2.length c_4), rdC 23 (.int .u32) a3.2.1 (.slice A5 a3.2.1.length c_5), rdC 9 .str a3.2.2.1 (.slice A6 a3.2.2.1.length c_6), rdC 135 (.pair .str (.pair .bool .str)) a3.2.2.2.1 (.slice A7 a3.2.2.2.1.length c_7), rdC 75 (.pair .str .str) a3.2.2.2.2 (.slice A8 a3.2.2.2.2.length c_8)] w) ?_ ?_
            · refine J.heldSt mix h23 ?_
              have h44 := h23.drew
              refine HJ.run ttok rfl [0, 2] rfl ?_
              refine HJ.q (i := 1) rfl rfl rfl rfl rfl rfl (q_load_box ttok 0 (fun w e => e) rfl rfl rfl rfl rfl) ?_
              refine HJ.pick [3, 8] (i := 3) rfl rfl rfl rfl ?_
              refine (hscons ?_ (hscons ?_ hsnil))
              · refine HS.op (i := 3) rfl rfl rfl (op_call [] (lex_All.spec q3) rfl rfl rfl h44 rfl gnil) ?_
                rintro _ w42 ⟨_, ⟨rfl, rfl⟩, h45⟩
                replace h45 : St w0 F0 [boxC b2 86 [.int .i64 r1.1, .slice A9 r1.2.1.length c_9, .slice A10 r1.2.2.1.length c_10, .slice A11 r1.2.2.2.1.length c_11, .slice A12 r1.2.2.2.2.length c_12], ownC 23 (.int .u32) r1.2.1 (.slice A9 r1.2.1.length c_9), ownC 9 .str r1.2.2.1 (.slice A10 r1.2.2.1.length c_10), ownC 135 (.pair .str (.pair .bool .str)) r1.2.2.2.1 (.slice A11 r1.2.2.2.1.length c_11), ownC 75 (.pair .str .str) r1.2.2.2.2 (.slice A12 r1.2.2.2.2.length c_12), boxC b3 86 [.int .i64 r2.1, .slice A13 r2.2.1.length c_13, .slice A14 r2.2.2.1.length c_14, .slice A15 r2.2.2.2.1.length c_15, .slice A16 r2.2.2.2.2.length c_16], ownC 23 (.int .u32) r2.2.1 (.slice A13 r2.2.1.length c_13), ownC 9 .str r2.2.2.1 (.slice A14 r2.2.2.1.length c_14), ownC 135 (.pair .str (.pair .bool .str)) r2.2.2.2.1 (.slice A15 r2.2.2.2.1.length c_15), ownC 75 (.pair .str .str) r2.2.2.2.2 (.slice A16 r2.2.2.2.2.length c_16), boxC b5 86 [.int .i64 0, .slice none ([] : List (Int)).length 0, .slice none ([] : List (List UInt8)).length 0, .slice none ([] : List (List UInt8 × Bool × List UInt8)).length 0, .slice none ([] : List (List UInt8 × List UInt8)).length 0], boxC b4 86 [.int .i64 0, .slice none ([] : List (Int)).length 0, .slice none ([] : List (List UInt8)).length 0, .slice none ([] : List (List UInt8 × Bool × List UInt8)).length 0, .slice none ([] : List (List UInt8 × List UInt8)).length 0], boxC b1 61 [.int .i64 a0.1, .int .i64 a0.2.1, .int .i64 a0.2.2.1, .int .i64 a0.2.2.2.1, .int .i64 a0.2.2.2.2.1, .int .i64 a0.2.2.2.2.2.1, .int .i64 a0.2.2.2.2.2.2.1, .int .i64 a0.2.2.2.2.2.2.2]] _ _ := h45
                refine ⟨⟨[], h45⟩, ?_⟩
                refine HJ.pick [4, 8] (i := 4) rfl rfl rfl rfl ?_
                refine (hscons ?_ (hscons ?_ hsnil))
                · refine HS.op (i := 4) rfl rfl rfl (op_call [] (fan_Span.spec q4) rfl rfl rfl h45 rfl (gcons (Gives.of 2 rfl own_rd) gnil)) ?_
                  rintro _ w43 ⟨_, ⟨rfl, rfl⟩, h46⟩
                  replace h46 : St w0 F0 [boxC b2 86 [.int .i64 r1.1, .slice A9 r1.2.1.length c_9, .slice A10 r1.2.2.1.length c_10, .slice A11 r1.2.2.2.1.length c_11, .slice A12 r1.2.2.2.2.length c_12], ownC 23 (.int .u32) r1.2.1 (.slice A9 r1.2.1.length c_9), ownC 9 .str r1.2.2.1 (.slice A10 r1.2.2.1.length c_10), ownC 135 (.pair .str (.pair .bool .str)) r1.2.2.2.1 (.slice A11 r1.2.2.2.1.length c_11), ownC 75 (.pair .str .str) r1.2.2.2.2 (.slice A12 r1.2.2.2.2.length c_12), boxC b3 86 [.int .i64 r2.1, .slice A13 r2.2.1.length c_13, .slice A14 r2.2.2.1.length c_14, .slice A15 r2.2.2.2.1.length c_15, .slice A16 r2.2.2.2.2.length c_16], ownC 23 (.int .u32) r2.2.1 (.slice A13 r2.2.1.length c_13), ownC 9 .str r2.2.2.1 (.slice A14 r2.2.2.1.length c_14), ownC 135 (.pair .str (.pair .bool .str)) r2.2.2.2.1 (.slice A15 r2.2.2.2.1.length c_15), ownC 75 (.pair .str .str) r2.2.2.2.2 (.slice A16 r2.2.2.2.2.length c_16), boxC b5 86 [.int .i64 0, .slice none ([] : List (Int)).length 0, .slice none ([] : List (List UInt8)).length 0, .slice none ([] : List (List UInt8 × Bool × List UInt8)).length 0, .slice none ([] : List (List UInt8 × List UInt8)).length 0], boxC b4 86 [.int .i64 0, .slice none ([] : List (Int)).length 0, .slice none ([] : List (List UInt8)).length 0, .slice none ([] : List (List UInt8 × Bool × List UInt8)).length 0, .slice none ([] : List (List UInt8 × List UInt8)).length 0], boxC b1 61 [.int .i64 a0.1, .int .i64 a0.2.1, .int .i64 a0.2.2.1, .int .i64 a0.2.2.2.1, .int .i64 a0.2.2.2.2.1, .int .i64 a0.2.2.2.2.2.1, .int .i64 a0.2.2.2.2.2.2.1, .int .i64 a0.2.2.2.2.2.2.2]] _ _ := h46
                  refine ⟨⟨[], h46⟩, ?_⟩
                  refine HJ.run ttok rfl [5, 6, 7] rfl ?_
                  refine HJ.op (i := 8) rfl rfl rfl rfl rfl (op_alloc ttok rfl rfl h46) ?_
                  rintro _ w44 ⟨b7, rfl, h47⟩
                  replace h47 : St w0 F0 [boxC b7 93 [.string ⟨⟨([] : List UInt8)⟩⟩, .string ⟨⟨([] : List UInt8)⟩⟩, .bool false], boxC b2 86 [.int .i64 r1.1, .slice A9 r1.2.1.length c_9, .slice A10 r1.2.2.1.length c_10, .slice A11 r1.2.2.2.1.length c_11, .slice A12 r1.2.2.2.2.length c_12], ownC 23 (.int .u32) r1.2.1 (.slice A9 r1.2.1.length c_9), ownC 9 .str r1.2.2.1 (.slice A10 r1.2.2.1.length c_10), ownC 135 (.pair .str (.pair .bool .str)) r1.2.2.2.1 (.slice A11 r1.2.2.2.1.length c_11), ownC 75 (.pair .str .str) r1.2.2.2.2 (.slice A12 r1.2.2.2.2.length c_12), boxC b3 86 [.int .i64 r2.1, .slice A13 r2.2.1.length c_13, .slice A14 r2.2.2.1.length c_14, .slice A15 r2.2.2.2.1.length c_15, .slice A16 r2.2.2.2.2.length c_16], ownC 23 (.int .u32) r2.2.1 (.slice A13 r2.2.1.length c_13), ownC 9 .str r2.2.2.1 (.slice A14 r2.2.2.1.length c_14), ownC 135 (.pair .str (.pair .bool .str)) r2.2.2.2.1 (.slice A15 r2.2.2.2.1.length c_15), ownC 75 (.pair .str .str) r2.2.2.2.2 (.slice A16 r2.2.2.2.2.length c_16), boxC b5 86 [.int .i64 0, .slice none ([] : List (Int)).length 0, .slice none ([] : List (List UInt8)).length 0, .slice none ([] : List (List UInt8 × Bool × List UInt8)).length 0, .slice none ([] : List (List UInt8 × List UInt8)).length 0], boxC b4 86 [.int .i64 0, .slice none ([] : List (Int)).length 0, .slice none ([] : List (List UInt8)).length 0, .slice none ([] : List (List UInt8 × Bool × List UInt8)).length 0, .slice none ([] : List (List UInt8 × List UInt8)).length 0], boxC b1 61 [.int .i64 a0.1, .int .i64 a0.2.1, .int .i64 a0.2.2.1, .int .i64 a0.2.2.2.1, .int .i64 a0.2.2.2.2.1, .int .i64 a0.2.2.2.2.2.1, .int .i64 a0.2.2.2.2.2.2.1, .int .i64 a0.2.2.2.2.2.2.2]] _ _ := h47
                  refine ⟨⟨[_], h47⟩, ?_⟩
                  refine HJ.op (i := 9) rfl rfl rfl rfl rfl (op_store ttok 0 rfl h47 rfl rfl rfl rfl rfl rfl rfl) ?_
                  intro _ w45 h48
                  replace h48 : St w0 F0 [boxC b7 93 [.string ⟨⟨r4.1.1⟩⟩, .string ⟨⟨r4.1.2.1⟩⟩, .bool r4.1.2.2], boxC b2 86 [.int .i64 r1.1, .slice A9 r1.2.1.length c_9, .slice A10 r1.2.2.1.length c_10, .slice A11 r1.2.2.2.1.length c_11, .slice A12 r1.2.2.2.2.length c_12], ownC 23 (.int .u32) r1.2.1 (.slice A9 r1.2.1.length c_9), ownC 9 .str r1.2.2.1 (.slice A10 r1.2.2.1.length c_10), ownC 135 (.pair .str (.pair .bool .str)) r1.2.2.2.1 (.slice A11 r1.2.2.2.1.length c_11), ownC 75 (.pair .str .str) r1.2.2.2.2 (.slice A12 r1.2.2.2.2.length c_12), boxC b3 86 [.int .i64 r2.1, .slice A13 r2.2.1.length c_13, .slice A14 r2.2.2.1.length c_14, .slice A15 r2.2.2.2.1.length c_15, .slice A16 r2.2.2.2.2.length c_16], ownC 23 (.int .u32) r2.2.1 (.slice A13 r2.2.1.length c_13), ownC 9 .str r2.2.2.1 (.slice A14 r2.2.2.1.length c_14), ownC 135 (.pair .str (.pair .bool .str)) r2.2.2.2.1 (.slice A15 r2.2.2.2.1.length c_15), ownC 75 (.pair .str .str) r2.2.2.2.2 (.slice A16 r2.2.2.2.2.length c_16), boxC b5 86 [.int .i64 0, .slice none ([] : List (Int)).length 0, .slice none ([] : List (List UInt8)).length 0, .slice none ([] : List (List UInt8 × Bool × List UInt8)).length 0, .slice none ([] : List (List UInt8 × List UInt8)).length 0], boxC b4 86 [.int .i64 0, .slice none ([] : List (Int)).length 0, .slice none ([] : List (List UInt8)).length 0, .slice none ([] : List (List UInt8 × Bool × List UInt8)).length 0, .slice none ([] : List (List UInt8 × List UInt8)).length 0], boxC b1 61 [.int .i64 a0.1, .int .i64 a0.2.1, .int .i64 a0.2.2.1, .int .i64 a0.2.2.2.1, .int .i64 a0.2.2.2.2.1, .int .i64 a0.2.2.2.2.2.1, .int .i64 a0.2.2.2.2.2.2.1, .int .i64 a0.2.2.2.2.2.2.2]] _ _ := h48
                  refine ⟨⟨[_], h48⟩, ?_⟩
                  refine HJ.run ttok rfl [10] rfl ?_
                  refine HJ.fin [(4, .int .i64 a4), (5, .pointer (some ⟨b1, 0, none⟩)), (6, .pointer (some ⟨b2, 0, none⟩)), (8, .pointer (some ⟨b3, 0, none⟩)), (10, .pointer (some ⟨b4, 0, none⟩)), (11, .pointer (some ⟨b5, 0, none⟩)), (13, .pointer (some ⟨b7, 0, none⟩)), (14, .bool r4.2)] rfl rfl ?_
                  exact thenP_intro ⟨b7, rfl, ((h48.only [0, 0, 0, 0, 0, 0, 0, 0, 0, 0, 0, 0, 0, 0] rfl).rds [0, 1, 2, 3, 4, 5, 6, 7] rfl)⟩
                · refine HS.op (i := 8) rfl rfl rfl (op_alloc ttok rfl rfl h45) ?_
                  rintro _ w46 ⟨b8, rfl, h49⟩
                  replace h49 : St w0 F0 [boxC b8 93 [.string ⟨⟨([] : List UInt8)⟩⟩, .string ⟨⟨([] : List UInt8)⟩⟩, .bool false], boxC b2 86 [.int .i64 r1.1, .slice A9 r1.2.1.length c_9, .slice A10 r1.2.2.1.length c_10, .slice A11 r1.2.2.2.1.length c_11, .slice A12 r1.2.2.2.2.length c_12], ownC 23 (.int .u32) r1.2.1 (.slice A9 r1.2.1.length c_9), ownC 9 .str r1.2.2.1 (.slice A10 r1.2.2.1.length c_10), ownC 135 (.pair .str (.pair .bool .str)) r1.2.2.2.1 (.slice A11 r1.2.2.2.1.length c_11), ownC 75 (.pair .str .str) r1.2.2.2.2 (.slice A12 r1.2.2.2.2.length c_12), boxC b3 86 [.int .i64 r2.1, .slice A13 r2.2.1.length c_13, .slice A14 r2.2.2.1.length c_14, .slice A15 r2.2.2.2.1.length c_15, .slice A16 r2.2.2.2.2.length c_16], ownC 23 (.int .u32) r2.2.1 (.slice A13 r2.2.1.length c_13), ownC 9 .str r2.2.2.1 (.slice A14 r2.2.2.1.length c_14), ownC 135 (.pair .str (.pair .bool .str)) r2.2.2.2.1 (.slice A15 r2.2.2.2.1.length c_15), ownC 75 (.pair .str .str) r2.2.2.2.2 (.slice A16 r2.2.2.2.2.length c_16), boxC b5 86 [.int .i64 0, .slice none ([] : List (Int)).length 0, .slice none ([] : List (List UInt8)).length 0, .slice none ([] : List (List UInt8 × Bool × List UInt8)).length 0, .slice none ([] : List (List UInt8 × List UInt8)).length 0], boxC b4 86 [.int .i64 0, .slice none ([] : List (Int)).length 0, .slice none ([] : List (List UInt8)).length 0, .slice none ([] : List (List UInt8 × Bool × List UInt8)).length 0, .slice none ([] : List (List UInt8 × List UInt8)).length 0], boxC b1 61 [.int .i64 a0.1, .int .i64 a0.2.1, .int .i64 a0.2.2.1, .int .i64 a0.2.2.2.1, .int .i64 a0.2.2.2.2.1, .int .i64 a0.2.2.2.2.2.1, .int .i64 a0.2.2.2.2.2.2.1, .int .i64 a0.2.2.2.2.2.2.2]] _ _ := h49
                  refine ⟨⟨[_], h49⟩, ?_⟩
                  refine HJ.op (i := 4) rfl rfl rfl rfl rfl (op_call [] (fan_Span.spec q4) rfl rfl rfl h49 rfl (gcons (Gives.of 3 rfl own_rd) gnil)) ?_
                  rintro _ w47 ⟨_, ⟨rfl, rfl⟩, h50⟩
                  replace h50 : St w0 F0 [boxC b8 93 [.string ⟨⟨([] : List UInt8)⟩⟩, .string ⟨⟨([] : List UInt8)⟩⟩, .bool false], boxC b2 86 [.int .i64 r1.1, .slice A9 r1.2.1.length c_9, .slice A10 r1.2.2.1.length c_10, .slice A11 r1.2.2.2.1.length c_11, .slice A12 r1.2.2.2.2.length c_12], ownC 23 (.int .u32) r1.2.1 (.slice A9 r1.2.1.length c_9), ownC 9 .str r1.2.2.1 (.slice A10 r1.2.2.1.length c_10), ownC 135 (.pair .str (.pair .bool .str)) r1.2.2.2.1 (.slice A11 r1.2.2.2.1.length c_11), ownC 75 (.pair .str .str) r1.2.2.2.2 (.slice A12 r1.2.2.2.2.length c_12), boxC b3 86 [.int .i64 r2.1, .slice A13 r2.2.1.length c_13, .slice A14 r2.2.2.1.length c_14, .slice A15 r2.2.2.2.1.length c_15, .slice A16 r2.2.2.2.2.length c_16], ownC 23 (.int .u32) r2.2.1 (.slice A13 r2.2.1.length c_13), ownC 9 .str r2.2.2.1 (.slice A14 r2.2.2.1.length c_14), ownC 135 (.pair .str (.pair .bool .str)) r2.2.2.2.1 (.slice A15 r2.2.2.2.1.length c_15), ownC 75 (.pair .str .str) r2.2.2.2.2 (.slice A16 r2.2.2.2.2.length c_16), boxC b5 86 [.int .i64 0, .slice none ([] : List (Int)).length 0, .slice none ([] : List (List UInt8)).length 0, .slice none ([] : List (List UInt8 × Bool × List UInt8)).length 0, .slice none ([] : List (List UInt8 × List UInt8)).length 0], boxC b4 86 [.int .i64 0, .slice none ([] : List (Int)).length 0, .slice none ([] : List (List UInt8)).length 0, .slice none ([] : List (List UInt8 × Bool × List UInt8)).length 0, .slice none ([] : List (List UInt8 × List UInt8)).length 0], boxC b1 61 [.int .i64 a0.1, .int .i64 a0.2.1, .int .i64 a0.2.2.1, .int .i64 a0.2.2.2.1, .int .i64 a0.2.2.2.2.1, .int .i64 a0.2.2.2.2.2.1, .int .i64 a0.2.2.2.2.2.2.1, .int .i64 a0.2.2.2.2.2.2.2]] _ _ := h50
                  refine ⟨⟨[_], h50⟩, ?_⟩
                  refine HJ.run ttok rfl [5, 6, 7] rfl ?_
                  refine HJ.op (i := 9) rfl rfl rfl rfl rfl (op_store ttok 0 rfl h50 rfl rfl rfl rfl rfl rfl rfl) ?_
                  intro _ w48 h51
                  replace h51 : St w0 F0 [boxC b8 93 [.string ⟨⟨r4.1.1⟩⟩, .string ⟨⟨r4.1.2.1⟩⟩, .bool r4.1.2.2], boxC b2 86 [.int .i64 r1.1, .slice A9 r1.2.1.length c_9, .slice A10 r1.2.2.1.length c_10, .slice A11 r1.2.2.2.1.length c_11, .slice A12 r1.2.2.2.2.length c_12], ownC 23 (.int .u32) r1.2.1 (.slice A9 r1.2.1.length c_9), ownC 9 .str r1.2.2.1 (.slice A10 r1.2.2.1.length c_10), ownC 135 (.pair .str (.pair .bool .str)) r1.2.2.2.1 (.slice A11 r1.2.2.2.1.length c_11), ownC 75 (.pair .str .str) r1.2.2.2.2 (.slice A12 r1.2.2.2.2.length c_12), boxC b3 86 [.int .i64 r2.1, .slice A13 r2.2.1.length c_13, .slice A14 r2.2.2.1.length c_14, .slice A15 r2.2.2.2.1.length c_15, .slice A16 r2.2.2.2.2.length c_16], ownC 23 (.int .u32) r2.2.1 (.slice A13 r2.2.1.length c_13), ownC 9 .str r2.2.2.1 (.slice A14 r2.2.2.1.length c_14), ownC 135 (.pair .str (.pair .bool .str)) r2.2.2.2.1 (.slice A15 r2.2.2.2.1.length c_15), ownC 75 (.pair .str .str) r2.2.2.2.2 (.slice A16 r2.2.2.2.2.length c_16), boxC b5 86 [.int .i64 0, .slice none ([] : List (Int)).length 0, .slice none ([] : List (List UInt8)).length 0, .slice none ([] : List (List UInt8 × Bool × List UInt8)).length 0, .slice none ([] : List (List UInt8 × List UInt8)).length 0], boxC b4 86 [.int .i64 0, .slice none ([] : List (Int)).length 0, .slice none ([] : List (List UInt8)).length 0, .slice none ([] : List (List UInt8 × Bool × List UInt8)).length 0, .slice none ([] : List (List UInt8 × List UInt8)).length 0], boxC b1 61 [.int .i64 a0.1, .int .i64 a0.2.1, .int .i64 a0.2.2.1, .int .i64 a0.2.2.2.1, .int .i64 a0.2.2.2.2.1, .int .i64 a0.2.2.2.2.2.1, .int .i64 a0.2.2.2.2.2.2.1, .int .i64 a0.2.2.2.2.2.2.2]] _ _ := h51
                  refine ⟨⟨[_], h51⟩, ?_⟩
                  refine HJ.run ttok rfl [10] rfl ?_
                  refine HJ.fin [(4, .int .i64 a4), (5, .pointer (some ⟨b1, 0, none⟩)), (6, .pointer (some ⟨b2, 0, none⟩)), (8, .pointer (some ⟨b3, 0, none⟩)), (10, .pointer (some ⟨b4, 0, none⟩)), (11, .pointer (some ⟨b5, 0, none⟩)), (13, .pointer (some ⟨b8, 0, none⟩)), (14, .bool r4.2)] rfl rfl ?_
                  exact thenP_intro ⟨b8, rfl, ((h51.only [0, 0, 0, 0, 0, 0, 0, 0, 0, 0, 0, 0, 0, 0] rfl).rds [0, 1, 2, 3, 4, 5, 6, 7] rfl)⟩
              · refine HS.op (i := 8) rfl rfl rfl (op_alloc ttok rfl rfl h44) ?_
                rintro _ w49 ⟨b9, rfl, h52⟩
                replace h52 : St w0 F0 [boxC b9 93 [.string ⟨⟨([] : List UInt8)⟩⟩, .string ⟨⟨([] : List UInt8)⟩⟩, .bool false], boxC b2 86 [.int .i64 r1.1, .slice A9 r1.2.1.length c_9, .slice A10 r1.2.2.1.length c_10, .slice A11 r1.2.2.2.1.length c_11, .slice A12 r1.2.2.2.2.length c_12], ownC 23 (.int .u32) r1.2.1 (.slice A9 r1.2.1.length c_9), ownC 9 .str r1.2.2.1 (.slice A10 r1.2.2.1.length c_10), ownC 135 (.pair .str (.pair .bool .str)) r1.2.2.2.1 (.slice A11 r1.2.2.2.1.length c_11), ownC 75 (.pair .str .str) r1.2.2.2.2 (.slice A12 r1.2.2.2.2.length c_12), boxC b3 86 [.int .i64 r2.1, .slice A13 r2.2.1.length c_13, .slice A14 r2.2.2.1.length c_14, .slice A15 r2.2.2.2.1.length c_15, .slice A16 r2.2.2.2.2.length c_16], ownC 23 (.int .u32) r2.2.1 (.slice A13 r2.2.1.length c_13), ownC 9 .str r2.2.2.1 (.slice A14 r2.2.2.1.length c_14), ownC 135 (.pair .str (.pair .bool .str)) r2.2.2.2.1 (.slice A15 r2.2.2.2.1.length c_15), ownC 75 (.pair .str .str) r2.2.2.2.2 (.slice A16 r2.2.2.2.2.length c_16), boxC b5 86 [.int .i64 0, .slice none ([] : List (Int)).length 0, .slice none ([] : List (List UInt8)).length 0, .slice none ([] : List (List UInt8 × Bool × List UInt8)).length 0, .slice none ([] : List (List UInt8 × List UInt8)).length 0], boxC b4 86 [.int .i64 0, .slice none ([] : List (Int)).length 0, .slice none ([] : List (List UInt8)).length 0, .slice none ([] : List (List UInt8 × Bool × List UInt8)).length 0, .slice none ([] : List (List UInt8 × List UInt8)).length 0], boxC b1 61 [.int .i64 a0.1, .int .i64 a0.2.1, .int .i64 a0.2.2.1, .int .i64 a0.2.2.2.1, .int .i64 a0.2.2.2.2.1, .int .i64 a0.2.2.2.2.2.1, .int .i64 a0.2.2.2.2.2.2.1, .int .i64 a0.2.2.2.2.2.2.2]] _ _ := h52
                refine ⟨⟨[_], h52⟩, ?_⟩
                refine HJ.op (i := 3) rfl rfl rfl rfl rfl (op_call [] (lex_All.spec q3) rfl rfl rfl h52 rfl gnil) ?_
                rintro _ w50 ⟨_, ⟨rfl, rfl⟩, h53⟩
                replace h53 : St w0 F0 [boxC b9 93 [.string ⟨⟨([] : List UInt8)⟩⟩, .string ⟨⟨([] : List UInt8)⟩⟩, .bool false], boxC b2 86 [.int .i64 r1.1, .slice A9 r1.2.1.length c_9, .slice A10 r1.2.2.1.length c_10, .slice A11 r1.2.2.2.1.length c_11, .slice A12 r1.2.2.2.2.length c_12], ownC 23 (.int .u32) r1.2.1 (.slice A9 r1.2.1.length c_9), ownC 9 .str r1.2.2.1 (.slice A10 r1.2.2.1.length c_10), ownC 135 (.pair .str (.pair .bool .str)) r1.2.2.2.1 (.slice A11 r1.2.2.2.1.length c_11), ownC 75 (.pair .str .str) r1.2.2.2.2 (.slice A12 r1.2.2.2.2.length c_12), boxC b3 86 [.int .i64 r2.1, .slice A13 r2.2.1.length c_13, .slice A14 r2.2.2.1.length c_14, .slice A15 r2.2.2.2.1.length c_15, .slice A16 r2.2.2.2.2.length c_16], ownC 23 (.int .u32) r2.2.1 (.slice A13 r2.2.1.length c_13), ownC 9 .str r2.2.2.1 (.slice A14 r2.2.2.1.length c_14), ownC 135 (.pair .str (.pair .bool .str)) r2.2.2.2.1 (.slice A15 r2.2.2.2.1.length c_15), ownC 75 (.pair .str .str) r2.2.2.2.2 (.slice A16 r2.2.2.2.2.length c_16), boxC b5 86 [.int .i64 0, .slice none ([] : List (Int)).length 0, .slice none ([] : List (List UInt8)).length 0, .slice none ([] : List (List UInt8 × Bool × List UInt8)).length 0, .slice none ([] : List (List UInt8 × List UInt8)).length 0], boxC b4 86 [.int .i64 0, .slice none ([] : List (Int)).length 0, .slice none ([] : List (List UInt8)).length 0, .slice none ([] : List (List UInt8 × Bool × List UInt8)).length 0, .slice none ([] : List (List UInt8 × List UInt8)).length 0], boxC b1 61 [.int .i64 a0.1, .int .i64 a0.2.1, .int .i64 a0.2.2.1, .int .i64 a0.2.2.2.1, .int .i64 a0.2.2.2.2.1, .int .i64 a0.2.2.2.2.2.1, .int .i64 a0.2.2.2.2.2.2.1, .int .i64 a0.2.2.2.2.2.2.2]] _ _ := h53
                refine ⟨⟨[_], h53⟩, ?_⟩
                refine HJ.op (i := 4) rfl rfl rfl rfl rfl (op_call [] (fan_Span.spec q4) rfl rfl rfl h53 rfl (gcons (Gives.of 3 rfl own_rd) gnil)) ?_
                rintro _ w51 ⟨_, ⟨rfl, rfl⟩, h54⟩
                replace h54 : St w0 F0 [boxC b9 93 [.string ⟨⟨([] : List UInt8)⟩⟩, .string ⟨⟨([] : List UInt8)⟩⟩, .bool false], boxC b2 86 [.int .i64 r1.1, .slice A9 r1.2.1.length c_9, .slice A10 r1.2.2.1.length c_10, .slice A11 r1.2.2.2.1.length c_11, .slice A12 r1.2.2.2.2.length c_12], ownC 23 (.int .u32) r1.2.1 (.slice A9 r1.2.1.length c_9), ownC 9 .str r1.2.2.1 (.slice A10 r1.2.2.1.length c_10), ownC 135 (.pair .str (.pair .bool .str)) r1.2.2.2.1 (.slice A11 r1.2.2.2.1.length c_11), ownC 75 (.pair .str .str) r1.2.2.2.2 (.slice A12 r1.2.2.2.2.length c_12), boxC b3 86 [.int .i64 r2.1, .slice A13 r2.2.1.length c_13, .slice A14 r2.2.2.1.length c_14, .slice A15 r2.2.2.2.1.length c_15, .slice A16 r2.2.2.2.2.length c_16], ownC 23 (.int .u32) r2.2.1 (.slice A13 r2.2.1.length c_13), ownC 9 .str r2.2.2.1 (.slice A14 r2.2.2.1.length c_14), ownC 135 (.pair .str (.pair .bool .str)) r2.2.2.2.1 (.slice A15 r2.2.2.2.1.length c_15), ownC 75 (.pair .str .str) r2.2.2.2.2 (.slice A16 r2.2.2.2.2.length c_16), boxC b5 86 [.int .i64 0, .slice none ([] : List (Int)).length 0, .slice none ([] : List (List UInt8)).length 0, .slice none ([] : List (List UInt8 × Bool × List UInt8)).length 0, .slice none ([] : List (List UInt8 × List UInt8)).length 0], boxC b4 86 [.int .i64 0, .slice none ([] : List (Int)).length 0, .slice none ([] : List (List UInt8)).length 0, .slice none ([] : List (List UInt8 × Bool × List UInt8)).length 0, .slice none ([] : List (List UInt8 × List UInt8)).length 0], boxC b1 61 [.int .i64 a0.1, .int .i64 a0.2.1, .int .i64 a0.2.2.1, .int .i64 a0.2.2.2.1, .int .i64 a0.2.2.2.2.1, .int .i64 a0.2.2.2.2.2.1, .int .i64 a0.2.2.2.2.2.2.1, .int .i64 a0.2.2.2.2.2.2.2]] _ _ := h54
                refine ⟨⟨[_], h54⟩, ?_⟩
                refine HJ.run ttok rfl [5, 6, 7] rfl ?_
                refine HJ.op (i := 9) rfl rfl rfl rfl rfl (op_store ttok 0 rfl h54 rfl rfl rfl rfl rfl rfl rfl) ?_
                intro _ w52 h55
                replace h55 : St w0 F0 [boxC b9 93 [.string ⟨⟨r4.1.1⟩⟩, .string ⟨⟨r4.1.2.1⟩⟩, .bool r4.1.2.2], boxC b2 86 [.int .i64 r1.1, .slice A9 r1.2.1.length c_9, .slice A10 r1.2.2.1.length c_10, .slice A11 r1.2.2.2.1.length c_11, .slice A12 r1.2.2.2.2.length c_12], ownC 23 (.int .u32) r1.2.1 (.slice A9 r1.2.1.length c_9), ownC 9 .str r1.2.2.1 (.slice A10 r1.2.2.1.length c_10), ownC 135 (.pair .str (.pair .bool .str)) r1.2.2.2.1 (.slice A11 r1.2.2.2.1.length c_11), ownC 75 (.pair .str .str) r1.2.2.2.2 (.slice A12 r1.2.2.2.2.length c_12), boxC b3 86 [.int .i64 r2.1, .slice A13 r2.2.1.length c_13, .slice A14 r2.2.2.1.length c_14, .slice A15 r2.2.2.2.1.length c_15, .slice A16 r2.2.2.2.2.length c_16], ownC 23 (.int .u32) r2.2.1 (.slice A13 r2.2.1.length c_13), ownC 9 .str r2.2.2.1 (.slice A14 r2.2.2.1.length c_14), ownC 135 (.pair .str (.pair .bool .str)) r2.2.2.2.1 (.slice A15 r2.2.2.2.1.length c_15), ownC 75 (.pair .str .str) r2.2.2.2.2 (.slice A16 r2.2.2.2.2.length c_16), boxC b5 86 [.int .i64 0, .slice none ([] : List (Int)).length 0, .slice none ([] : List (List UInt8)).length 0, .slice none ([] : List (List UInt8 × Bool × List UInt8)).length 0, .slice none ([] : List (List UInt8 × List UInt8)).length 0], boxC b4 86 [.int .i64 0, .slice none ([] : List (Int)).length 0, .slice none ([] : List (List UInt8)).length 0, .slice none ([] : List (List UInt8 × Bool × List UInt8)).length 0, .slice none ([] : List (List UInt8 × List UInt8)).length 0], boxC b1 61 [.int .i64 a0.1, .int .i64 a0.2.1, .int .i64 a0.2.2.1, .int .i64 a0.2.2.2.1, .int .i64 a0.2.2.2.2.1, .int .i64 a0.2.2.2.2.2.1, .int .i64 a0.2.2.2.2.2.2.1, .int .i64 a0.2.2.2.2.2.2.2]] _ _ := h55
                refine ⟨⟨[_], h55⟩, ?_⟩
                refine HJ.run ttok rfl [10] rfl ?_
                refine HJ.fin [(4, .int .i64 a4), (5, .pointer (some ⟨b1, 0, none⟩)), (6, .pointer (some ⟨b2, 0, none⟩)), (8, .pointer (some ⟨b3, 0, none⟩)), (10, .pointer (some ⟨b4, 0, none⟩)), (11, .pointer (some ⟨b5, 0, none⟩)), (13, .pointer (some ⟨b9, 0, none⟩)), (14, .bool r4.2)] rfl rfl ?_
                exact thenP_intro ⟨b9, rfl, ((h55.only [0, 0, 0, 0, 0, 0, 0, 0, 0, 0, 0, 0, 0, 0] rfl).rds [0, 1, 2, 3, 4, 5, 6, 7] rfl)⟩
            · rintro env w53 ⟨b6, rfl, h56⟩
              refine J.seq ?_
              refine J.seq ?_
              refine J.region ?_
              refine RJ.run ttok 2 rfl ?_
              refine RJ.fin [(4, .int .i64 a4), (5, .pointer (some ⟨b1, 0, none⟩)), (6, .pointer (some ⟨b2, 0, none⟩)), (8, .pointer (some ⟨b3, 0, none⟩)), (10, .pointer (some ⟨b4, 0, none⟩)), (11, .pointer (some ⟨b5, 0, none⟩)), (13, .pointer (some ⟨b6, 0, none⟩)), (53, .bool (!r4.2))] rfl ?_
              refine J.cond rfl (fun c5 => ?_) (fun c5 => ?_)
              · replace H := ite_t c5 H
                refine J.seq ?_
                refine J.heldSt mix (h56.only [0, 0, 0, 0, 0, 0, 0, 0, 0, 0, 0, 2] rfl) ?_
                have h57 := h56.drew
                refine HJ.q (i := 0) rfl rfl rfl rfl rfl rfl (q_load_box ttok 1 (fun w e => e) rfl rfl rfl rfl rfl) ?_
                refine HJ.q (i := 1) rfl rfl rfl rfl rfl rfl (q_load_box ttok 6 (fun w e => e) rfl rfl rfl rfl rfl) ?_
                refine HJ.op (i := 2) rfl rfl rfl rfl rfl (op_store ttok 12 rfl h57 rfl rfl rfl rfl rfl rfl rfl) ?_
                intro _ w54 h58
                replace h58 : St w0 F0 [boxC b4 86 [.int .i64 r1.1, .slice A9 r1.2.1.length c_9, .slice A10 r1.2.2.1.length c_10, .slice A11 r1.2.2.2.1.length c_11, .slice A12 r1.2.2.2.2.length c_12], boxC b6 93 [.string ⟨⟨r4.1.1⟩⟩, .string ⟨⟨r4.1.2.1⟩⟩, .bool r4.1.2.2], boxC b2 86 [.int .i64 r1.1, .slice A9 r1.2.1.length c_9, .slice A10 r1.2.2.1.length c_10, .slice A11 r1.2.2.2.1.length c_11, .slice A12 r1.2.2.2.2.length c_12], ownC 23 (.int .u32) r1.2.1 (.slice A9 r1.2.1.length c_9), ownC 9 .str r1.2.2.1 (.slice A10 r1.2.2.1.length c_10), ownC 135 (.pair .str (.pair .bool .str)) r1.2.2.2.1 (.slice A11 r1.2.2.2.1.length c_11), ownC 75 (.pair .str .str) r1.2.2.2.2 (.slice A12 r1.2.2.2.2.length c_12), boxC b3 86 [.int .i64 r2.1, .slice A13 r2.2.1.length c_13, .slice A14 r2.2.2.1.length c_14, .slice A15 r2.2.2.2.1.length c_15, .slice A16 r2.2.2.2.2.length c_16], ownC 23 (.int .u32) r2.2.1 (.slice A13 r2.2.1.length c_13), ownC 9 .str r2.2.2.1 (.slice A14 r2.2.2.1.length c_14), ownC 135 (.pair .str (.pair .bool .str)) r2.2.2.2.1 (.slice A15 r2.2.2.2.1.length c_15), ownC 75 (.pair .str .str) r2.2.2.2.2 (.slice A16 r2.2.2.2.2.length c_16), boxC b5 86 [.int .i64 0, .slice none ([] : List (Int)).length 0, .slice none ([] : List (List UInt8)).length 0, .slice none ([] : List (List UInt8 × Bool × List UInt8)).length 0, .slice none ([] : List (List UInt8 × List UInt8)).length 0], boxC b1 61 [.int .i64 a0.1, .int .i64 a0.2.1, .int .i64 a0.2.2.1, .int .i64 a0.2.2.2.1, .int .i64 a0.2.2.2.2.1, .int .i64 a0.2.2.2.2.2.1, .int .i64 a0.2.2.2.2.2.2.1, .int .i64 a0.2.2.2.2.2.2.2]] _ _ := h58
                refine ⟨⟨[_, _], (h58.only [0, 11, 0, 0, 0, 0, 0, 0, 0, 0, 0, 0, 0, 0] rfl)⟩, ?_⟩
                refine HJ.op (i := 3) rfl rfl rfl rfl rfl (op_store ttok 12 rfl h58 rfl rfl rfl rfl rfl rfl rfl) ?_
                intro _ w55 h59
                replace h59 : St w0 F0 [boxC b5 86 [.int .i64 r2.1, .slice A13 r2.2.1.length c_13, .slice A14 r2.2.2.1.length c_14, .slice A15 r2.2.2.2.1.length c_15, .slice A16 r2.2.2.2.2.length c_16], boxC b4 86 [.int .i64 r1.1, .slice A9 r1.2.1.length c_9, .slice A10 r1.2.2.1.length c_10, .slice A11 r1.2.2.2.1.length c_11, .slice A12 r1.2.2.2.2.length c_12], boxC b6 93 [.string ⟨⟨r4.1.1⟩⟩, .string ⟨⟨r4.1.2.1⟩⟩, .bool r4.1.2.2], boxC b2 86 [.int .i64 r1.1, .slice A9 r1.2.1.length c_9, .slice A10 r1.2.2.1.length c_10, .slice A11 r1.2.2.2.1.length c_11, .slice A12 r1.2.2.2.2.length c_12], ownC 23 (.int .u32) r1.2.1 (.slice A9 r1.2.1.length c_9), ownC 9 .str r1.2.2.1 (.slice A10 r1.2.2.1.length c_10), ownC 135 (.pair .str (.pair .bool .str)) r1.2.2.2.1 (.slice A11 r1.2.2.2.1.length c_11), ownC 75 (.pair .str .str) r1.2.2.2.2 (.slice A12 r1.2.2.2.2.length c_12), boxC b3 86 [.int .i64 r2.1, .slice A13 r2.2.1.length c_13, .slice A14 r2.2.2.1.length c_14, .slice A15 r2.2.2.2.1.length c_15, .slice A16 r2.2.2.2.2.length c_16], ownC 23 (.int .u32) r2.2.1 (.slice A13 r2.2.1.length c_13), ownC 9 .str r2.2.2.1 (.slice A14 r2.2.2.1.length c_14), ownC 135 (.pair .str (.pair .bool .str)) r2.2.2.2.1 (.slice A15 r2.2.2.2.1.length c_15), ownC 75 (.pair .str .str) r2.2.2.2.2 (.slice A16 r2.2.2.2.2.length c_16), boxC b1 61 [.int .i64 a0.1, .int .i64 a0.2.1, .int .i64 a0.2.2.1, .int .i64 a0.2.2.2.1, .int .i64 a0.2.2.2.2.1, .int .i64 a0.2.2.2.2.2.1, .int .i64 a0.2.2.2.2.2.2.1, .int .i64 a0.2.2.2.2.2.2.2]] _ _ := h59
                refine ⟨⟨[_, _], h59⟩, ?_⟩
                refine HJ.run ttok rfl [4] rfl ?_
                refine HJ.fin [(10, .pointer (some ⟨b4, 0, none⟩)), (11, .pointer (some ⟨b5, 0, none⟩)), (12, .int .i64 0)] rfl rfl ?_
                have h60 := h59.only [0, 0, 2, 2, 2, 2, 3, 3, 3, 3] rfl
                replace h60 : St w0 F0 [boxC b5 86 [.int .i64 r2.1, .slice A13 r2.2.1.length c_13, .slice A14 r2.2.2.1.length c_14, .slice A15 r2.2.2.2.1.length c_15, .slice A16 r2.2.2.2.2.length c_16], boxC b4 86 [.int .i64 r1.1, .slice A9 r1.2.1.length c_9, .slice A10 r1.2.2.1.length c_10, .slice A11 r1.2.2.2.1.length c_11, .slice A12 r1.2.2.2.2.length c_12], ownC 23 (.int .u32) r1.2.1 (.slice A9 r1.2.1.length c_9), ownC 9 .str r1.2.2.1 (.slice A10 r1.2.2.1.length c_10), ownC 135 (.pair .str (.pair .bool .str)) r1.2.2.2.1 (.slice A11 r1.2.2.2.1.length c_11), ownC 75 (.pair .str .str) r1.2.2.2.2 (.slice A12 r1.2.2.2.2.length c_12), ownC 23 (.int .u32) r2.2.1 (.slice A13 r2.2.1.length c_13), ownC 9 .str r2.2.2.1 (.slice A14 r2.2.2.1.length c_14), ownC 135 (.pair .str (.pair .bool .str)) r2.2.2.2.1 (.slice A15 r2.2.2.2.1.length c_15), ownC 75 (.pair .str .str) r2.2.2.2.2 (.slice A16 r2.2.2.2.2.length c_16)] _ _ := h60
                refine J.ret ?_
                obtain rfl := Option.some.inj H
                exact ⟨_, _, _, (results_two rfl (rvcons (RV.cell ttok 1 h60 rfl rfl rfl rfl) (rvcons (RV.cell ttok 0 h60 rfl rfl rfl rfl) (rvcons (RV.tmp rfl) rvnil))) rfl), ⟨_, _, _, _, _, _, _, _, _, _, _, _, _, _, _, _, rfl, rfl⟩, h60.only [2, 2, 2, 2, 2, 2, 2, 2] rfl⟩
              · replace H := ite_f c5 H
                refine J.skip ?_
                refine J.seq ?_
                refine J.seq ?_
                refine J.region ?_
                refine RJ.run ttok 1 rfl ?_
                refine RJ.q rfl rfl (q_load_box ttok 6 (fun w e => e ▸ h56.wh) rfl rfl rfl rfl rfl) ?_
                refine RJ.run ttok 1 rfl ?_
                refine RJ.fin [(4, .int .i64 a4), (5, .pointer (some ⟨b1, 0, none⟩)), (6, .pointer (some ⟨b2, 0, none⟩)), (8, .pointer (some ⟨b3, 0, none⟩)), (10, .pointer (some ⟨b4, 0, none⟩)), (11, .pointer (some ⟨b5, 0, none⟩)), (13, .pointer (some ⟨b6, 0, none⟩)), (58, .bool (decide (0 < r2.1)))] rfl ?_
                refine J.cond rfl (fun c6 => ?_) (fun c6 => ?_)
                · replace H := ite_t c6 H
                  refine J.region ?_
                  refine RJ.run ttok 2 rfl ?_
                  refine RJ.q rfl rfl (q_load_box ttok 13 (fun w e => e ▸ h56.wh) rfl rfl rfl rfl rfl) ?_
                  refine RJ.run ttok 1 rfl ?_
                  refine RJ.q rfl rfl (q_load_box ttok 6 (fun w e => e ▸ h56.wh) rfl rfl rfl rfl rfl) ?_
                  refine RJ.run ttok 4 rfl ?_
                  refine RJ.fin [(4, .int .i64 (if (w64 (a0.2.2.2.2.1 - (r2.2.2.2.1.length : Int))) < a4 then (w64 (a0.2.2.2.2.1 - (r2.2.2.2.1.length : Int))) else a4)), (6, .pointer (some ⟨b2, 0, none⟩)), (8, .pointer (some ⟨b3, 0, none⟩)), (10, .pointer (some ⟨b4, 0, none⟩)), (11, .pointer (some ⟨b5, 0, none⟩)), (13, .pointer (some ⟨b6, 0, none⟩))] rfl ?_
                  refine J.seq ?_
                  refine J.region ?_
                  refine RJ.run ttok 1 rfl ?_
                  refine RJ.q rfl rfl (q_load_box ttok 1 (fun w e => e ▸ h56.wh) rfl rfl rfl rfl rfl) ?_
                  refine RJ.q rfl rfl (q_load_box ttok 0 (fun w e => e ▸ h56.wh) rfl rfl rfl rfl rfl) ?_
                  refine RJ.run ttok 1 rfl ?_
                  obtain ⟨r5, q5, H⟩ := bind_t H
                  refine RJ.op rfl rfl (op_call [] (buf_Take.spec q5) rfl rfl rfl h56 rfl (gcons (Gives.of 4 rfl own_rd) gnil)) ?_
                  rintro _ w56 ⟨_, ⟨A41, c_41, A42, c_42, rfl, rfl⟩, h61⟩
                  replace h61 : St w0 F0 [ownC 135 (.pair .str (.pair .bool .str)) r5.1 (.slice A41 r5.1.length c_41), ownC 135 (.pair .str (.pair .bool .str)) r5.2 (.slice A42 r5.2.length c_42), boxC b6 93 [.string ⟨⟨r4.1.1⟩⟩, .string ⟨⟨r4.1.2.1⟩⟩, .bool r4.1.2.2], boxC b2 86 [.int .i64 r1.1, .slice A9 r1.2.1.length c_9, .slice A10 r1.2.2.1.length c_10, .slice A11 r1.2.2.2.1.length c_11, .slice A12 r1.2.2.2.2.length c_12], ownC 23 (.int .u32) r1.2.1 (.slice A9 r1.2.1.length c_9), ownC 9 .str r1.2.2.1 (.slice A10 r1.2.2.1.length c_10), ownC 135 (.pair .str (.pair .bool .str)) r1.2.2.2.1 (.slice A11 r1.2.2.2.1.length c_11), ownC 75 (.pair .str .str) r1.2.2.2.2 (.slice A12 r1.2.2.2.2.length c_12), boxC b3 86 [.int .i64 r2.1, .slice A13 r2.2.1.length c_13, .slice A14 r2.2.2.1.length c_14, .slice A15 r2.2.2.2.1.length c_15, .slice A16 r2.2.2.2.2.length c_16], ownC 23 (.int .u32) r2.2.1 (.slice A13 r2.2.1.length c_13), ownC 9 .str r2.2.2.1 (.slice A14 r2.2.2.1.length c_14), ownC 135 (.pair .str (.pair .bool .str)) r2.2.2.2.1 (.slice A15 r2.2.2.2.1.length c_15), ownC 75 (.pair .str .str) r2.2.2.2.2 (.slice A16 r2.2.2.2.2.length c_16), boxC b5 86 [.int .i64 0, .slice none ([] : List (Int)).length 0, .slice none ([] : List (List UInt8)).length 0, .slice none ([] : List (List UInt8 × Bool × List UInt8)).length 0, .slice none ([] : List (List UInt8 × List UInt8)).length 0], boxC b4 86 [.int .i64 0, .slice none ([] : List (Int)).length 0, .slice none ([] : List (List UInt8)).length 0, .slice none ([] : List (List UInt8 × Bool × List UInt8)).length 0, .slice none ([] : List (List UInt8 × List UInt8)).length 0], boxC b1 61 [.int .i64 a0.1, .int .i64 a0.2.1, .int .i64 a0.2.2.1, .int .i64 a0.2.2.2.1, .int .i64 a0.2.2.2.2.1, .int .i64 a0.2.2.2.2.2.1, .int .i64 a0.2.2.2.2.2.2.1, .int .i64 a0.2.2.2.2.2.2.2]] _ _ := h61
                  refine RJ.run ttok 5 rfl ?_
                  refine RJ.fin [(6, .pointer (some ⟨b2, 0, none⟩)), (8, .pointer (some ⟨b3, 0, none⟩)), (10, .pointer (some ⟨b4, 0, none⟩)), (11, .pointer (some ⟨b5, 0, none⟩)), (15, .slice A41 r5.1.length c_41), (16, .slice A42 r5.2.length c_42)] rfl ?_
                  have h62 := h61.only [0, 0, 1, 1, 1, 1, 1, 1, 1, 1, 1, 1, 1, 1] rfl
                  replace h62 : St w0 F0 [ownC 135 (.pair .str (.pair .bool .str)) r5.1 (.slice A41 r5.1.length c_41), ownC 135 (.pair .str (.pair .bool .str)) r5.2 (.slice A42 r5.2.length c_42), boxC b2 86 [.int .i64 r1.1, .slice A9 r1.2.1.length c_9, .slice A10 r1.2.2.1.length c_10, .slice A11 r1.2.2.2.1.length c_11, .slice A12 r1.2.2.2.2.length c_12], ownC 23 (.int .u32) r1.2.1 (.slice A9 r1.2.1.length c_9), ownC 9 .str r1.2.2.1 (.slice A10 r1.2.2.1.length c_10), ownC 135 (.pair .str (.pair .bool .str)) r1.2.2.2.1 (.slice A11 r1.2.2.2.1.length c_11), ownC 75 (.pair .str .str) r1.2.2.2.2 (.slice A12 r1.2.2.2.2.length c_12), boxC b3 86 [.int .i64 r2.1, .slice A13 r2.2.1.length c_13, .slice A14 r2.2.2.1.length c_14, .slice A15 r2.2.2.2.1.length c_15, .slice A16 r2.2.2.2.2.length c_16], ownC 23 (.int .u32) r2.2.1 (.slice A13 r2.2.1.length c_13), ownC 9 .str r2.2.2.1 (.slice A14 r2.2.2.1.length c_14), ownC 135 (.pair .str (.pair .bool .str)) r2.2.2.2.1 (.slice A15 r2.2.2.2.1.length c_15), ownC 75 (.pair .str .str) r2.2.2.2.2 (.slice A16 r2.2.2.2.2.length c_16), boxC b5 86 [.int .i64 0, .slice none ([] : List (Int)).length 0, .slice none ([] : List (List UInt8)).length 0, .slice none ([] : List (List UInt8 × Bool × List UInt8)).length 0, .slice none ([] : List (List UInt8 × List UInt8)).length 0], boxC b4 86 [.int .i64 0, .slice none ([] : List (Int)).length 0, .slice none ([] : List (List UInt8)).length 0, .slice none ([] : List (List UInt8 × Bool × List UInt8)).length 0, .slice none ([] : List (List UInt8 × List UInt8)).length 0]] _ _ := h62
                  refine J.seq ?_
                  refine J.region ?_
                  refine RJ.run ttok 2 rfl ?_
                  refine RJ.op rfl rfl (op_store ttok 2 rfl h62 rfl rfl rfl rfl rfl rfl rfl) ?_
                  intro _ w57 h63
                  replace h63 : St w0 F0 [boxC b2 86 [.int .i64 r1.1, .slice A9 r1.2.1.length c_9, .slice A10 r1.2.2.1.length c_10, .slice A42 r5.2.length c_42, .slice A12 r1.2.2.2.2.length c_12], ownC 135 (.pair .str (.pair .bool .str)) r5.1 (.slice A41 r5.1.length c_41), ownC 135 (.pair .str (.pair .bool .str)) r5.2 (.slice A42 r5.2.length c_42), ownC 23 (.int .u32) r1.2.1 (.slice A9 r1.2.1.length c_9), ownC 9 .str r1.2.2.1 (.slice A10 r1.2.2.1.length c_10), ownC 135 (.pair .str (.pair .bool .str)) r1.2.2.2.1 (.slice A11 r1.2.2.2.1.length c_11), ownC 75 (.pair .str .str) r1.2.2.2.2 (.slice A12 r1.2.2.2.2.length c_12), boxC b3 86 [.int .i64 r2.1, .slice A13 r2.2.1.length c_13, .slice A14 r2.2.2.1.length c_14, .slice A15 r2.2.2.2.1.length c_15, .slice A16 r2.2.2.2.2.length c_16], ownC 23 (.int .u32) r2.2.1 (.slice A13 r2.2.1.length c_13), ownC 9 .str r2.2.2.1 (.slice A14 r2.2.2.1.length c_14), ownC 135 (.pair .str (.pair .bool .str)) r2.2.2.2.1 (.slice A15 r2.2.2.2.1.length c_15), ownC 75 (.pair .str .str) r2.2.2.2.2 (.slice A16 r2.2.2.2.2.length c_16), boxC b5 86 [.int .i64 0, .slice none ([] : List (Int)).length 0, .slice none ([] : List (List UInt8)).length 0, .slice none ([] : List (List UInt8 × Bool × List UInt8)).length 0, .slice none ([] : List (List UInt8 × List UInt8)).length 0], boxC b4 86 [.int .i64 0, .slice none ([] : List (Int)).length 0, .slice none ([] : List (List UInt8)).length 0, .slice none ([] : List (List UInt8 × Bool × List UInt8)).length 0, .slice none ([] : List (List UInt8 × List UInt8)).length 0]] _ _ := h63
                  refine RJ.fin [(6, .pointer (some ⟨b2, 0, none⟩)), (8, .pointer (some ⟨b3, 0, none⟩)), (10, .pointer (some ⟨b4, 0, none⟩)), (11, .pointer (some ⟨b5, 0, none⟩)), (15, .slice A41 r5.1.length c_41)] rfl ?_
                  refine J.seq ?_
                  refine J.seq ?_
                  refine J.region ?_
                  refine RJ.run ttok 1 rfl ?_
                  refine RJ.q rfl rfl (q_load_box ttok 7 (fun w e => e ▸ h63.wh) rfl rfl rfl rfl rfl) ?_
                  refine RJ.run ttok 1 rfl ?_
                  refine RJ.fin [(6, .pointer (some ⟨b2, 0, none⟩)), (8, .pointer (some ⟨b3, 0, none⟩)), (10, .pointer (some ⟨b4, 0, none⟩)), (11, .pointer (some ⟨b5, 0, none⟩)), (15, .slice A41 r5.1.length c_41), (79, .bool (decide (r2.1 = 0)))] rfl ?_
                  refine J.cond rfl (fun c7 => ?_) (fun c7 => ?_)
                  · replace H := ite_t c7 H
                    refine J.region ?_
                    refine RJ.run ttok 1 rfl ?_
                    refine RJ.q rfl rfl (q_load_box ttok 7 (fun w e => e ▸ h63.wh) rfl rfl rfl rfl rfl) ?_
                    refine RJ.run ttok 1 rfl ?_
                    obtain ⟨r6, q6, H⟩ := bind_t H
                    refine RJ.op rfl rfl (op_call [] (leaf_Apply.spec q6) rfl rfl rfl h63 rfl (gcons (Gives.of 11 rfl own_rd) (gcons (Gives.of 1 rfl own_rd) gnil))) ?_
                    rintro _ w58 ⟨_, ⟨A43, c_43, rfl, rfl⟩, h64⟩
                    replace h64 : St w0 F0 [ownC 75 (.pair .str .str) r6 (.slice A43 r6.length c_43), boxC b2 86 [.int .i64 r1.1, .slice A9 r1.2.1.length c_9, .slice A10 r1.2.2.1.length c_10, .slice A42 r5.2.length c_42, .slice A12 r1.2.2.2.2.length c_12], ownC 135 (.pair .str (.pair .bool .str)) r5.1 (.slice A41 r5.1.length c_41), ownC 135 (.pair .str (.pair .bool .str)) r5.2 (.slice A42 r5.2.length c_42), ownC 23 (.int .u32) r1.2.1 (.slice A9 r1.2.1.length c_9), ownC 9 .str r1.2.2.1 (.slice A10 r1.2.2.1.length c_10), ownC 135 (.pair .str (.pair .bool .str)) r1.2.2.2.1 (.slice A11 r1.2.2.2.1.length c_11), ownC 75 (.pair .str .str) r1.2.2.2.2 (.slice A12 r1.2.2.2.2.length c_12), boxC b3 86 [.int .i64 r2.1, .slice A13 r2.2.1.length c_13, .slice A14 r2.2.2.1.length c_14, .slice A15 r2.2.2.2.1.length c_15, .slice A16 r2.2.2.2.2.length c_16], ownC 23 (.int .u32) r2.2.1 (.slice A13 r2.2.1.length c_13), ownC 9 .str r2.2.2.1 (.slice A14 r2.2.2.1.length c_14), ownC 135 (.pair .str (.pair .bool .str)) r2.2.2.2.1 (.slice A15 r2.2.2.2.1.length c_15), ownC 75 (.pair .str .str) r2.2.2.2.2 (.slice A16 r2.2.2.2.2.length c_16), boxC b5 86 [.int .i64 0, .slice none ([] : List (Int)).length 0, .slice none ([] : List (List UInt8)).length 0, .slice none ([] : List (List UInt8 × Bool × List UInt8)).length 0, .slice none ([] : List (List UInt8 × List UInt8)).length 0], boxC b4 86 [.int .i64 0, .slice none ([] : List (Int)).length 0, .slice none ([] : List (List UInt8)).length 0, .slice none ([] : List (List UInt8 × Bool × List UInt8)).length 0, .slice none ([] : List (List UInt8 × List UInt8)).length 0]] _ _ := h64
                    refine RJ.run ttok 1 rfl ?_
                    refine RJ.op rfl rfl (op_store ttok 8 rfl h64 rfl rfl rfl rfl rfl rfl rfl) ?_
                    intro _ w59 h65
                    replace h65 : St w0 F0 [boxC b3 86 [.int .i64 r2.1, .slice A13 r2.2.1.length c_13, .slice A14 r2.2.2.1.length c_14, .slice A15 r2.2.2.2.1.length c_15, .slice A43 r6.length c_43], ownC 75 (.pair .str .str) r6 (.slice A43 r6.length c_43), boxC b2 86 [.int .i64 r1.1, .slice A9 r1.2.1.length c_9, .slice A10 r1.2.2.1.length c_10, .slice A42 r5.2.length c_42, .slice A12 r1.2.2.2.2.length c_12], ownC 135 (.pair .str (.pair .bool .str)) r5.1 (.slice A41 r5.1.length c_41), ownC 135 (.pair .str (.pair .bool .str)) r5.2 (.slice A42 r5.2.length c_42), ownC 23 (.int .u32) r1.2.1 (.slice A9 r1.2.1.length c_9), ownC 9 .str r1.2.2.1 (.slice A10 r1.2.2.1.length c_10), ownC 135 (.pair .str (.pair .bool .str)) r1.2.2.2.1 (.slice A11 r1.2.2.2.1.length c_11), ownC 75 (.pair .str .str) r1.2.2.2.2 (.slice A12 r1.2.2.2.2.length c_12), ownC 23 (.int .u32) r2.2.1 (.slice A13 r2.2.1.length c_13), ownC 9 .str r2.2.2.1 (.slice A14 r2.2.2.1.length c_14), ownC 135 (.pair .str (.pair .bool .str)) r2.2.2.2.1 (.slice A15 r2.2.2.2.1.length c_15), ownC 75 (.pair .str .str) r2.2.2.2.2 (.slice A16 r2.2.2.2.2.length c_16), boxC b5 86 [.int .i64 0, .slice none ([] : List (Int)).length 0, .slice none ([] : List (List UInt8)).length 0, .slice none ([] : List (List UInt8 × Bool × List UInt8)).length 0, .slice none ([] : List (List UInt8 × List UInt8)).length 0], boxC b4 86 [.int .i64 0, .slice none ([] : List (Int)).length 0, .slice none ([] : List (List UInt8)).length 0, .slice none ([] : List (List UInt8 × Bool × List UInt8)).length 0, .slice none ([] : List (List UInt8 × List UInt8)).length 0]] _ _ := h65
                    refine RJ.fin [(6, .pointer (some ⟨b2, 0, none⟩)), (8, .pointer (some ⟨b3, 0, none⟩)), (10, .pointer (some ⟨b4, 0, none⟩)), (11, .pointer (some ⟨b5, 0, none⟩)), (15, .slice A41 r5.1.length c_41)] rfl ?_
                    have h66 := h65.only [0, 0, 0, 0, 0, 0, 0, 1, 1, 1, 1, 2, 2] rfl
                    replace h66 : St w0 F0 [boxC b3 86 [.int .i64 r2.1, .slice A13 r2.2.1.length c_13, .slice A14 r2.2.2.1.length c_14, .slice A15 r2.2.2.2.1.length c_15, .slice A43 r6.length c_43], ownC 75 (.pair .str .str) r6 (.slice A43 r6.length c_43), boxC b2 86 [.int .i64 r1.1, .slice A9 r1.2.1.length c_9, .slice A10 r1.2.2.1.length c_10, .slice A42 r5.2.length c_42, .slice A12 r1.2.2.2.2.length c_12], ownC 135 (.pair .str (.pair .bool .str)) r5.1 (.slice A41 r5.1.length c_41), ownC 135 (.pair .str (.pair .bool .str)) r5.2 (.slice A42 r5.2.length c_42), ownC 23 (.int .u32) r1.2.1 (.slice A9 r1.2.1.length c_9), ownC 9 .str r1.2.2.1 (.slice A10 r1.2.2.1.length c_10), ownC 75 (.pair .str .str) r1.2.2.2.2 (.slice A12 r1.2.2.2.2.length c_12), ownC 23 (.int .u32) r2.2.1 (.slice A13 r2.2.1.length c_13), ownC 9 .str r2.2.2.1 (.slice A14 r2.2.2.1.length c_14), ownC 135 (.pair .str (.pair .bool .str)) r2.2.2.2.1 (.slice A15 r2.2.2.2.1.length c_15), boxC b5 86 [.int .i64 0, .slice none ([] : List (Int)).length 0, .slice none ([] : List (List UInt8)).length 0, .slice none ([] : List (List UInt8 × Bool × List UInt8)).length 0, .slice none ([] : List (List UInt8 × List UInt8)).length 0], boxC b4 86 [.int .i64 0, .slice none ([] : List (Int)).length 0, .slice none ([] : List (List UInt8)).length 0, .slice none ([] : List (List UInt8 × Bool × List UInt8)).length 0, .slice none ([] : List (List UInt8 × List UInt8)).length 0]] _ _ := h66
                    refine J.seq ?_
                    refine J.heldSt mix (h66.only [0, 0, 0, 0, 0, 0, 0, 0, 0, 0, 0] rfl) ?_
                    have h67 := h66.drew
                    refine HJ.run ttok rfl [2, 3] rfl ?_
                    refine HJ.q (i := 0) rfl rfl rfl rfl rfl rfl (q_load_box ttok 2 (fun w e => e) rfl rfl rfl rfl rfl) ?_
                    refine HJ.q (i := 1) rfl rfl rfl rfl rfl rfl (q_load_box ttok 0 (fun w e => e) rfl rfl rfl rfl rfl) ?_
                    refine HJ.op (i := 4) rfl rfl rfl rfl rfl (op_store ttok 12 rfl h67 rfl rfl rfl rfl rfl rfl rfl) ?_
                    intro _ w60 h68
                    replace h68 : St w0 F0 [boxC b4 86 [.int .i64 r1.1, .slice A9 r1.2.1.length c_9, .slice A10 r1.2.2.1.length c_10, .slice A42 r5.2.length c_42, .slice A12 r1.2.2.2.2.length c_12], boxC b3 86 [.int .i64 r2.1, .slice A13 r2.2.1.length c_13, .slice A14 r2.2.2.1.length c_14, .slice A15 r2.2.2.2.1.length c_15, .slice A43 r6.length c_43], ownC 75 (.pair .str .str) r6 (.slice A43 r6.length c_43), boxC b2 86 [.int .i64 r1.1, .slice A9 r1.2.1.length c_9, .slice A10 r1.2.2.1.length c_10, .slice A42 r5.2.length c_42, .slice A12 r1.2.2.2.2.length c_12], ownC 135 (.pair .str (.pair .bool .str)) r5.1 (.slice A41 r5.1.length c_41), ownC 135 (.pair .str (.pair .bool .str)) r5.2 (.slice A42 r5.2.length c_42), ownC 23 (.int .u32) r1.2.1 (.slice A9 r1.2.1.length c_9), ownC 9 .str r1.2.2.1 (.slice A10 r1.2.2.1.length c_10), ownC 75 (.pair .str .str) r1.2.2.2.2 (.slice A12 r1.2.2.2.2.length c_12), ownC 23 (.int .u32) r2.2.1 (.slice A13 r2.2.1.length c_13), ownC 9 .str r2.2.2.1 (.slice A14 r2.2.2.1.length c_14), ownC 135 (.pair .str (.pair .bool .str)) r2.2.2.2.1 (.slice A15 r2.2.2.2.1.length c_15), boxC b5 86 [.int .i64 0, .slice none ([] : List (Int)).length 0, .slice none ([] : List (List UInt8)).length 0, .slice none ([] : List (List UInt8 × Bool × List UInt8)).length 0, .slice none ([] : List (List UInt8 × List UInt8)).length 0]] _ _ := h68
                    refine ⟨⟨[_, _], (h68.only [0, 11, 0, 0, 0, 0, 0, 0, 0, 0, 0, 0, 0] rfl)⟩, ?_⟩
                    refine HJ.op (i := 5) rfl rfl rfl rfl rfl (op_store ttok 12 rfl h68 rfl rfl rfl rfl rfl rfl rfl) ?_
                    intro _ w61 h69
                    replace h69 : St w0 F0 [boxC b5 86 [.int .i64 r2.1, .slice A13 r2.2.1.length c_13, .slice A14 r2.2.2.1.length c_14, .slice A15 r2.2.2.2.1.length c_15, .slice A43 r6.length c_43], boxC b4 86 [.int .i64 r1.1, .slice A9 r1.2.1.length c_9, .slice A10 r1.2.2.1.length c_10, .slice A42 r5.2.length c_42, .slice A12 r1.2.2.2.2.length c_12], boxC b3 86 [.int .i64 r2.1, .slice A13 r2.2.1.length c_13, .slice A14 r2.2.2.1.length c_14, .slice A15 r2.2.2.2.1.length c_15, .slice A43 r6.length c_43], ownC 75 (.pair .str .str) r6 (.slice A43 r6.length c_43), boxC b2 86 [.int .i64 r1.1, .slice A9 r1.2.1.length c_9, .slice A10 r1.2.2.1.length c_10, .slice A42 r5.2.length c_42, .slice A12 r1.2.2.2.2.length c_12], ownC 135 (.pair .str (.pair .bool .str)) r5.1 (.slice A41 r5.1.length c_41), ownC 135 (.pair .str (.pair .bool .str)) r5.2 (.slice A42 r5.2.length c_42), ownC 23 (.int .u32) r1.2.1 (.slice A9 r1.2.1.length c_9), ownC 9 .str r1.2.2.1 (.slice A10 r1.2.2.1.length c_10), ownC 75 (.pair .str .str) r1.2.2.2.2 (.slice A12 r1.2.2.2.2.length c_12), ownC 23 (.int .u32) r2.2.1 (.slice A13 r2.2.1.length c_13), ownC 9 .str r2.2.2.1 (.slice A14 r2.2.2.1.length c_14), ownC 135 (.pair .str (.pair .bool .str)) r2.2.2.2.1 (.slice A15 r2.2.2.2.1.length c_15)] _ _ := h69
                    refine ⟨⟨[_, _], h69⟩, ?_⟩
                    refine HJ.run ttok rfl [6] rfl ?_
                    refine HJ.fin [(10, .pointer (some ⟨b4, 0, none⟩)), (11, .pointer (some ⟨b5, 0, none⟩)), (12, .int .i64 (r5.1.length : Int))] rfl rfl ?_
                    have h70 := h69.only [0, 0, 1, 3, 3, 3, 3, 3, 3, 3] rfl
                    replace h70 : St w0 F0 [boxC b5 86 [.int .i64 r2.1, .slice A13 r2.2.1.length c_13, .slice A14 r2.2.2.1.length c_14, .slice A15 r2.2.2.2.1.length c_15, .slice A43 r6.length c_43], boxC b4 86 [.int .i64 r1.1, .slice A9 r1.2.1.length c_9, .slice A10 r1.2.2.1.length c_10, .slice A42 r5.2.length c_42, .slice A12 r1.2.2.2.2.length c_12], ownC 75 (.pair .str .str) r6 (.slice A43 r6.length c_43), ownC 135 (.pair .str (.pair .bool .str)) r5.2 (.slice A42 r5.2.length c_42), ownC 23 (.int .u32) r1.2.1 (.slice A9 r1.2.1.length c_9), ownC 9 .str r1.2.2.1 (.slice A10 r1.2.2.1.length c_10), ownC 75 (.pair .str .str) r1.2.2.2.2 (.slice A12 r1.2.2.2.2.length c_12), ownC 23 (.int .u32) r2.2.1 (.slice A13 r2.2.1.length c_13), ownC 9 .str r2.2.2.1 (.slice A14 r2.2.2.1.length c_14), ownC 135 (.pair .str (.pair .bool .str)) r2.2.2.2.1 (.slice A15 r2.2.2.2.1.length c_15)] _ _ := h70
                    refine J.ret ?_
                    obtain rfl := Option.some.inj H
                    exact ⟨_, _, _, (results_two rfl (rvcons (RV.cell ttok 1 h70 rfl rfl rfl rfl) (rvcons (RV.cell ttok 0 h70 rfl rfl rfl rfl) (rvcons (RV.tmp rfl) rvnil))) rfl), ⟨_, _, _, _, _, _, _, _, _, _, _, _, _, _, _, _, rfl, rfl⟩, h70.only [4, 4, 3, 3, 3, 3, 3, 2] rfl⟩
                  · replace H := ite_f c7 H
                    refine J.region ?_
                    refine RJ.run ttok 2 rfl ?_
                    refine RJ.q rfl rfl (q_load_box ttok 7 (fun w e => e ▸ h63.wh) rfl rfl rfl rfl rfl) ?_
                    obtain ⟨r7, q7, H⟩ := bind_t H
                    refine RJ.op rfl rfl (op_call [] (buf_Merge.spec q7) rfl rfl rfl h63 rfl (gcons (Gives.of 1 rfl own_rd) (gcons (Gives.of 10 rfl own_rd) gnil))) ?_
                    rintro _ w62 ⟨_, ⟨A44, c_44, rfl, rfl⟩, h71⟩
                    replace h71 : St w0 F0 [ownC 135 (.pair .str (.pair .bool .str)) r7 (.slice A44 r7.length c_44), boxC b2 86 [.int .i64 r1.1, .slice A9 r1.2.1.length c_9, .slice A10 r1.2.2.1.length c_10, .slice A42 r5.2.length c_42, .slice A12 r1.2.2.2.2.length c_12], ownC 135 (.pair .str (.pair .bool .str)) r5.1 (.slice A41 r5.1.length c_41), ownC 135 (.pair .str (.pair .bool .str)) r5.2 (.slice A42 r5.2.length c_42), ownC 23 (.int .u32) r1.2.1 (.slice A9 r1.2.1.length c_9), ownC 9 .str r1.2.2.1 (.slice A10 r1.2.2.1.length c_10), ownC 135 (.pair .str (.pair .bool .str)) r1.2.2.2.1 (.slice A11 r1.2.2.2.1.length c_11), ownC 75 (.pair .str .str) r1.2.2.2.2 (.slice A12 r1.2.2.2.2.length c_12), boxC b3 86 [.int .i64 r2.1, .slice A13 r2.2.1.length c_13, .slice A14 r2.2.2.1.length c_14, .slice A15 r2.2.2.2.1.length c_15, .slice A16 r2.2.2.2.2.length c_16], ownC 23 (.int .u32) r2.2.1 (.slice A13 r2.2.1.length c_13), ownC 9 .str r2.2.2.1 (.slice A14 r2.2.2.1.length c_14), ownC 135 (.pair .str (.pair .bool .str)) r2.2.2.2.1 (.slice A15 r2.2.2.2.1.length c_15), ownC 75 (.pair .str .str) r2.2.2.2.2 (.slice A16 r2.2.2.2.2.length c_16), boxC b5 86 [.int .i64 0, .slice none ([] : List (Int)).length 0, .slice none ([] : List (List UInt8)).length 0, .slice none ([] : List (List UInt8 × Bool × List UInt8)).length 0, .slice none ([] : List (List UInt8 × List UInt8)).length 0], boxC b4 86 [.int .i64 0, .slice none ([] : List (Int)).length 0, .slice none ([] : List (List UInt8)).length 0, .slice none ([] : List (List UInt8 × Bool × List UInt8)).length 0, .slice none ([] : List (List UInt8 × List UInt8)).length 0]] _ _ := h71
                    refine RJ.run ttok 1 rfl ?_
                    refine RJ.op rfl rfl (op_store ttok 8 rfl h71 rfl rfl rfl rfl rfl rfl rfl) ?_
                    intro _ w63 h72
                    replace h72 : St w0 F0 [boxC b3 86 [.int .i64 r2.1, .slice A13 r2.2.1.length c_13, .slice A14 r2.2.2.1.length c_14, .slice A44 r7.length c_44, .slice A16 r2.2.2.2.2.length c_16], ownC 135 (.pair .str (.pair .bool .str)) r7 (.slice A44 r7.length c_44), boxC b2 86 [.int .i64 r1.1, .slice A9 r1.2.1.length c_9, .slice A10 r1.2.2.1.length c_10, .slice A42 r5.2.length c_42, .slice A12 r1.2.2.2.2.length c_12], ownC 135 (.pair .str (.pair .bool .str)) r5.1 (.slice A41 r5.1.length c_41), ownC 135 (.pair .str (.pair .bool .str)) r5.2 (.slice A42 r5.2.length c_42), ownC 23 (.int .u32) r1.2.1 (.slice A9 r1.2.1.length c_9), ownC 9 .str r1.2.2.1 (.slice A10 r1.2.2.1.length c_10), ownC 135 (.pair .str (.pair .bool .str)) r1.2.2.2.1 (.slice A11 r1.2.2.2.1.length c_11), ownC 75 (.pair .str .str) r1.2.2.2.2 (.slice A12 r1.2.2.2.2.length c_12), ownC 23 (.int .u32) r2.2.1 (.slice A13 r2.2.1.length c_13), ownC 9 .str r2.2.2.1 (.slice A14 r2.2.2.1.length c_14), ownC 135 (.pair .str (.pair .bool .str)) r2.2.2.2.1 (.slice A15 r2.2.2.2.1.length c_15), ownC 75 (.pair .str .str) r2.2.2.2.2 (.slice A16 r2.2.2.2.2.length c_16), boxC b5 86 [.int .i64 0, .slice none ([] : List (Int)).length 0, .slice none ([] : List (List UInt8)).length 0, .slice none ([] : List (List UInt8 × Bool × List UInt8)).length 0, .slice none ([] : List (List UInt8 × List UInt8)).length 0], boxC b4 86 [.int .i64 0, .slice none ([] : List (Int)).length 0, .slice none ([] : List (List UInt8)).length 0, .slice none ([] : List (List UInt8 × Bool × List UInt8)).length 0, .slice none ([] : List (List UInt8 × List UInt8)).length 0]] _ _ := h72
                    refine RJ.fin [(6, .pointer (some ⟨b2, 0, none⟩)), (8, .pointer (some ⟨b3, 0, none⟩)), (10, .pointer (some ⟨b4, 0, none⟩)), (11, .pointer (some ⟨b5, 0, none⟩)), (15, .slice A41 r5.1.length c_41)] rfl ?_
                    have h73 := h72.only [0, 0, 0, 0, 0, 0, 0, 1, 1, 1, 2, 2, 2] rfl
                    replace h73 : St w0 F0 [boxC b3 86 [.int .i64 r2.1, .slice A13 r2.2.1.length c_13, .slice A14 r2.2.2.1.length c_14, .slice A44 r7.length c_44, .slice A16 r2.2.2.2.2.length c_16], ownC 135 (.pair .str (.pair .bool .str)) r7 (.slice A44 r7.length c_44), boxC b2 86 [.int .i64 r1.1, .slice A9 r1.2.1.length c_9, .slice A10 r1.2.2.1.length c_10, .slice A42 r5.2.length c_42, .slice A12 r1.2.2.2.2.length c_12], ownC 135 (.pair .str (.pair .bool .str)) r5.1 (.slice A41 r5.1.length c_41), ownC 135 (.pair .str (.pair .bool .str)) r5.2 (.slice A42 r5.2.length c_42), ownC 23 (.int .u32) r1.2.1 (.slice A9 r1.2.1.length c_9), ownC 9 .str r1.2.2.1 (.slice A10 r1.2.2.1.length c_10), ownC 75 (.pair .str .str) r1.2.2.2.2 (.slice A12 r1.2.2.2.2.length c_12), ownC 23 (.int .u32) r2.2.1 (.slice A13 r2.2.1.length c_13), ownC 9 .str r2.2.2.1 (.slice A14 r2.2.2.1.length c_14), ownC 75 (.pair .str .str) r2.2.2.2.2 (.slice A16 r2.2.2.2.2.length c_16), boxC b5 86 [.int .i64 0, .slice none ([] : List (Int)).length 0, .slice none ([] : List (List UInt8)).length 0, .slice none ([] : List (List UInt8 × Bool × List UInt8)).length 0, .slice none ([] : List (List UInt8 × List UInt8)).length 0], boxC b4 86 [.int .i64 0, .slice none ([] : List (Int)).length 0, .slice none ([] : List (List UInt8)).length 0, .slice none ([] : List (List UInt8 × Bool × List UInt8)).length 0, .slice none ([] : List (List UInt8 × List UInt8)).length 0]] _ _ := h73
                    refine J.seq ?_
                    refine J.heldSt mix (h73.only [0, 0, 0, 0, 0, 0, 0, 0, 0, 0, 0] rfl) ?_
                    have h74 := h73.drew
                    refine HJ.run ttok rfl [2, 3] rfl ?_
                    refine HJ.q (i := 0) rfl rfl rfl rfl rfl rfl (q_load_box ttok 2 (fun w e => e) rfl rfl rfl rfl rfl) ?_
                    refine HJ.q (i := 1) rfl rfl rfl rfl rfl rfl (q_load_box ttok 0 (fun w e => e) rfl rfl rfl rfl rfl) ?_
                    refine HJ.op (i := 4) rfl rfl rfl rfl rfl (op_store ttok 12 rfl h74 rfl rfl rfl rfl rfl rfl rfl) ?_
                    intro _ w65 h75
                    replace h75 : St w0 F0 [boxC b4 86 [.int .i64 r1.1, .slice A9 r1.2.1.length c_9, .slice A10 r1.2.2.1.length c_10, .slice A42 r5.2.length c_42, .slice A12 r1.2.2.2.2.length c_12], boxC b3 86 [.int .i64 r2.1, .slice A13 r2.2.1.length c_13, .slice A14 r2.2.2.1.length c_14, .slice A44 r7.length c_44, .slice A16 r2.2.2.2.2.length c_16], ownC 135 (.pair .str (.pair .bool .str)) r7 (.slice A44 r7.length c_44), boxC b2 86 [.int .i64 r1.1, .slice A9 r1.2.1.length c_9, .slice A10 r1.2.2.1.length c_10, .slice A42 r5.2.length c_42, .slice A12 r1.2.2.2.2.length c_12], ownC 135 (.pair .str (.pair .bool .str)) r5.1 (.slice A41 r5.1.length c_41), ownC 135 (.pair .str (.pair .bool .str)) r5.2 (.slice A42 r5.2.length c_42), ownC 23 (.int .u32) r1.2.1 (.slice A9 r1.2.1.length c_9), ownC 9 .str r1.2.2.1 (.slice A10 r1.2.2.1.length c_10), ownC 75 (.pair .str .str) r1.2.2.2.2 (.slice A12 r1.2.2.2.2.length c_12), ownC 23 (.int .u32) r2.2.1 (.slice A13 r2.2.1.length c_13), ownC 9 .str r2.2.2.1 (.slice A14 r2.2.2.1.length c_14), ownC 75 (.pair .str .str) r2.2.2.2.2 (.slice A16 r2.2.2.2.2.length c_16), boxC b5 86 [.int .i64 0, .slice none ([] : List (Int)).length 0, .slice none ([] : List (List UInt8)).length 0, .slice none ([] : List (List UInt8 × Bool × List UInt8)).length 0, .slice none ([] : List (List UInt8 × List UInt8)).length 0]] _ _ := h75
                    refine ⟨⟨[_, _], (h75.only [0, 11, 0, 0, 0, 0, 0, 0, 0, 0, 0, 0, 0] rfl)⟩, ?_⟩
                    refine HJ.op (i := 5) rfl rfl rfl rfl rfl (op_store ttok 12 rfl h75 rfl rfl rfl rfl rfl rfl rfl) ?_
                    intro _ w66 h76
                    replace h76 : St w0 F0 [boxC b5 86 [.int .i64 r2.1, .slice A13 r2.2.1.length c_13, .slice A14 r2.2.2.1.length c_14, .slice A44 r7.length c_44, .slice A16 r2.2.2.2.2.length c_16], boxC b4 86 [.int .i64 r1.1, .slice A9 r1.2.1.length c_9, .slice A10 r1.2.2.1.length c_10, .slice A42 r5.2.length c_42, .slice A12 r1.2.2.2.2.length c_12], boxC b3 86 [.int .i64 r2.1, .slice A13 r2.2.1.length c_13, .slice A14 r2.2.2.1.length c_14, .slice A44 r7.length c_44, .slice A16 r2.2.2.2.2.length c_16], ownC 135 (.pair .str (.pair .bool .str)) r7 (.slice A44 r7.length c_44), boxC b2 86 [.int .i64 r1.1, .slice A9 r1.2.1.length c_9, .slice A10 r1.2.2.1.length c_10, .slice A42 r5.2.length c_42, .slice A12 r1.2.2.2.2.length c_12], ownC 135 (.pair .str (.pair .bool .str)) r5.1 (.slice A41 r5.1.length c_41), ownC 135 (.pair .str (.pair .bool .str)) r5.2 (.slice A42 r5.2.length c_42), ownC 23 (.int .u32) r1.2.1 (.slice A9 r1.2.1.length c_9), ownC 9 .str r1.2.2.1 (.slice A10 r1.2.2.1.length c_10), ownC 75 (.pair .str .str) r1.2.2.2.2 (.slice A12 r1.2.2.2.2.length c_12), ownC 23 (.int .u32) r2.2.1 (.slice A13 r2.2.1.length c_13), ownC 9 .str r2.2.2.1 (.slice A14 r2.2.2.1.length c_14), ownC 75 (.pair .str .str) r2.2.2.2.2 (.slice A16 r2.2.2.2.2.length c_16)] _ _ := h76
                    refine ⟨⟨[_, _], h76⟩, ?_⟩
                    refine HJ.run ttok rfl [6] rfl ?_
                    refine HJ.fin [(10, .pointer (some ⟨b4, 0, none⟩)), (11, .pointer (some ⟨b5, 0, none⟩)), (12, .int .i64 (r5.1.length : Int))] rfl rfl ?_
                    have h77 := h76.only [0, 0, 1, 3, 3, 3, 3, 3, 3, 3] rfl
                    replace h77 : St w0 F0 [boxC b5 86 [.int .i64 r2.1, .slice A13 r2.2.1.length c_13, .slice A14 r2.2.2.1.length c_14, .slice A44 r7.length c_44, .slice A16 r2.2.2.2.2.length c_16], boxC b4 86 [.int .i64 r1.1, .slice A9 r1.2.1.length c_9, .slice A10 r1.2.2.1.length c_10, .slice A42 r5.2.length c_42, .slice A12 r1.2.2.2.2.length c_12], ownC 135 (.pair .str (.pair .bool .str)) r7 (.slice A44 r7.length c_44), ownC 135 (.pair .str (.pair .bool .str)) r5.2 (.slice A42 r5.2.length c_42), ownC 23 (.int .u32) r1.2.1 (.slice A9 r1.2.1.length c_9), ownC 9 .str r1.2.2.1 (.slice A10 r1.2.2.1.length c_10), ownC 75 (.pair .str .str) r1.2.2.2.2 (.slice A12 r1.2.2.2.2.length c_12), ownC 23 (.int .u32) r2.2.1 (.slice A13 r2.2.1.length c_13), ownC 9 .str r2.2.2.1 (.slice A14 r2.2.2.1.length c_14), ownC 75 (.pair .str .str) r2.2.2.2.2 (.slice A16 r2.2.2.2.2.length c_16)] _ _ := h77
                    refine J.ret ?_
                    obtain rfl := Option.some.inj H
                    exact ⟨_, _, _, (results_two rfl (rvcons (RV.cell ttok 1 h77 rfl rfl rfl rfl) (rvcons (RV.cell ttok 0 h77 rfl rfl rfl rfl) (rvcons (RV.tmp rfl) rvnil))) rfl), ⟨_, _, _, _, _, _, _, _, _, _, _, _, _, _, _, _, rfl, rfl⟩, h77.only [4, 4, 3, 3, 3, 3, 2, 2] rfl⟩
                · replace H := ite_f c6 H
                  refine J.skip ?_
                  refine J.seq ?_
                  refine J.region ?_
                  refine RJ.run ttok 1 rfl ?_
                  refine RJ.q rfl rfl (q_load_box ttok 1 (fun w e => e ▸ h56.wh) rfl rfl rfl rfl rfl) ?_
                  refine RJ.q rfl rfl (q_load_box ttok 0 (fun w e => e ▸ h56.wh) rfl rfl rfl rfl rfl) ?_
                  refine RJ.run ttok 1 rfl ?_
                  obtain ⟨r8, q8, H⟩ := bind_t H
                  refine RJ.op rfl rfl (op_call [] (buf_Take.spec q8) rfl rfl rfl h56 rfl (gcons (Gives.of 4 rfl own_rd) gnil)) ?_
                  rintro _ w67 ⟨_, ⟨A45, c_45, A46, c_46, rfl, rfl⟩, h78⟩
                  replace h78 : St w0 F0 [ownC 135 (.pair .str (.pair .bool .str)) r8.1 (.slice A45 r8.1.length c_45), ownC 135 (.pair .str (.pair .bool .str)) r8.2 (.slice A46 r8.2.length c_46), boxC b6 93 [.string ⟨⟨r4.1.1⟩⟩, .string ⟨⟨r4.1.2.1⟩⟩, .bool r4.1.2.2], boxC b2 86 [.int .i64 r1.1, .slice A9 r1.2.1.length c_9, .slice A10 r1.2.2.1.length c_10, .slice A11 r1.2.2.2.1.length c_11, .slice A12 r1.2.2.2.2.length c_12], ownC 23 (.int .u32) r1.2.1 (.slice A9 r1.2.1.length c_9), ownC 9 .str r1.2.2.1 (.slice A10 r1.2.2.1.length c_10), ownC 135 (.pair .str (.pair .bool .str)) r1.2.2.2.1 (.slice A11 r1.2.2.2.1.length c_11), ownC 75 (.pair .str .str) r1.2.2.2.2 (.slice A12 r1.2.2.2.2.length c_12), boxC b3 86 [.int .i64 r2.1, .slice A13 r2.2.1.length c_13, .slice A14 r2.2.2.1.length c_14, .slice A15 r2.2.2.2.1.length c_15, .slice A16 r2.2.2.2.2.length c_16], ownC 23 (.int .u32) r2.2.1 (.slice A13 r2.2.1.length c_13), ownC 9 .str r2.2.2.1 (.slice A14 r2.2.2.1.length c_14), ownC 135 (.pair .str (.pair .bool .str)) r2.2.2.2.1 (.slice A15 r2.2.2.2.1.length c_15), ownC 75 (.pair .str .str) r2.2.2.2.2 (.slice A16 r2.2.2.2.2.length c_16), boxC b5 86 [.int .i64 0, .slice none ([] : List (Int)).length 0, .slice none ([] : List (List UInt8)).length 0, .slice none ([] : List (List UInt8 × Bool × List UInt8)).length 0, .slice none ([] : List (List UInt8 × List UInt8)).length 0], boxC b4 86 [.int .i64 0, .slice none ([] : List (Int)).length 0, .slice none ([] : List (List UInt8)).length 0, .slice none ([] : List (List UInt8 × Bool × List UInt8)).length 0, .slice none ([] : List (List UInt8 × List UInt8)).length 0], boxC b1 61 [.int .i64 a0.1, .int .i64 a0.2.1, .int .i64 a0.2.2.1, .int .i64 a0.2.2.2.1, .int .i64 a0.2.2.2.2.1, .int .i64 a0.2.2.2.2.2.1, .int .i64 a0.2.2.2.2.2.2.1, .int .i64 a0.2.2.2.2.2.2.2]] _ _ := h78
                  refine RJ.run ttok 5 rfl ?_
                  refine RJ.fin [(6, .pointer (some ⟨b2, 0, none⟩)), (8, .pointer (some ⟨b3, 0, none⟩)), (10, .pointer (some ⟨b4, 0, none⟩)), (11, .pointer (some ⟨b5, 0, none⟩)), (15, .slice A45 r8.1.length c_45), (16, .slice A46 r8.2.length c_46)] rfl ?_
                  have h79 := h78.only [0, 0, 1, 1, 1, 1, 1, 1, 1, 1, 1, 1, 1, 1] rfl
                  replace h79 : St w0 F0 [ownC 135 (.pair .str (.pair .bool .str)) r8.1 (.slice A45 r8.1.length c_45), ownC 135 (.pair .str (.pair .bool .str)) r8.2 (.slice A46 r8.2.length c_46), boxC b2 86 [.int .i64 r1.1, .slice A9 r1.2.1.length c_9, .slice A10 r1.2.2.1.length c_10, .slice A11 r1.2.2.2.1.length c_11, .slice A12 r1.2.2.2.2.length c_12], ownC 23 (.int .u32) r1.2.1 (.slice A9 r1.2.1.length c_9), ownC 9 .str r1.2.2.1 (.slice A10 r1.2.2.1.length c_10), ownC 135 (.pair .str (.pair .bool .str)) r1.2.2.2.1 (.slice A11 r1.2.2.2.1.length c_11), ownC 75 (.pair .str .str) r1.2.2.2.2 (.slice A12 r1.2.2.2.2.length c_12), boxC b3 86 [.int .i64 r2.1, .slice A13 r2.2.1.length c_13, .slice A14 r2.2.2.1.length c_14, .slice A15 r2.2.2.2.1.length c_15, .slice A16 r2.2.2.2.2.length c_16], ownC 23 (.int .u32) r2.2.1 (.slice A13 r2.2.1.length c_13), ownC 9 .str r2.2.2.1 (.slice A14 r2.2.2.1.length c_14), ownC 135 (.pair .str (.pair .bool .str)) r2.2.2.2.1 (.slice A15 r2.2.2.2.1.length c_15), ownC 75 (.pair .str .str) r2.2.2.2.2 (.slice A16 r2.2.2.2.2.length c_16), boxC b5 86 [.int .i64 0, .slice none ([] : List (Int)).length 0, .slice none ([] : List (List UInt8)).length 0, .slice none ([] : List (List UInt8 × Bool × List UInt8)).length 0, .slice none ([] : List (List UInt8 × List UInt8)).length 0], boxC b4 86 [.int .i64 0, .slice none ([] : List (Int)).length 0, .slice none ([] : List (List UInt8)).length 0, .slice none ([] : List (List UInt8 × Bool × List UInt8)).length 0, .slice none ([] : List (List UInt8 × List UInt8)).length 0]] _ _ := h79
                  refine J.seq ?_
                  refine J.region ?_
                  refine RJ.run ttok 2 rfl ?_
                  refine RJ.op rfl rfl (op_store ttok 2 rfl h79 rfl rfl rfl rfl rfl rfl rfl) ?_
                  intro _ w68 h80
                  replace h80 : St w0 F0 [boxC b2 86 [.int .i64 r1.1, .slice A9 r1.2.1.length c_9, .slice A10 r1.2.2.1.length c_10, .slice A46 r8.2.length c_46, .slice A12 r1.2.2.2.2.length c_12], ownC 135 (.pair .str (.pair .bool .str)) r8.1 (.slice A45 r8.1.length c_45), ownC 135 (.pair .str (.pair .bool .str)) r8.2 (.slice A46 r8.2.length c_46), ownC 23 (.int .u32) r1.2.1 (.slice A9 r1.2.1.length c_9), ownC 9 .str r1.2.2.1 (.slice A10 r1.2.2.1.length c_10), ownC 135 (.pair .str (.pair .bool .str)) r1.2.2.2.1 (.slice A11 r1.2.2.2.1.length c_11), ownC 75 (.pair .str .str) r1.2.2.2.2 (.slice A12 r1.2.2.2.2.length c_12), boxC b3 86 [.int .i64 r2.1, .slice A13 r2.2.1.length c_13, .slice A14 r2.2.2.1.length c_14, .slice A15 r2.2.2.2.1.length c_15, .slice A16 r2.2.2.2.2.length c_16], ownC 23 (.int .u32) r2.2.1 (.slice A13 r2.2.1.length c_13), ownC 9 .str r2.2.2.1 (.slice A14 r2.2.2.1.length c_14), ownC 135 (.pair .str (.pair .bool .str)) r2.2.2.2.1 (.slice A15 r2.2.2.2.1.length c_15), ownC 75 (.pair .str .str) r2.2.2.2.2 (.slice A16 r2.2.2.2.2.length c_16), boxC b5 86 [.int .i64 0, .slice none ([] : List (Int)).length 0, .slice none ([] : List (List UInt8)).length 0, .slice none ([] : List (List UInt8 × Bool × List UInt8)).length 0, .slice none ([] : List (List UInt8 × List UInt8)).length 0], boxC b4 86 [.int .i64 0, .slice none ([] : List (Int)).length 0, .slice none ([] : List (List UInt8)).length 0, .slice none ([] : List (List UInt8 × Bool × List UInt8)).length 0, .slice none ([] : List (List UInt8 × List UInt8)).length 0]] _ _ := h80
                  refine RJ.fin [(6, .pointer (some ⟨b2, 0, none⟩)), (8, .pointer (some ⟨b3, 0, none⟩)), (10, .pointer (some ⟨b4, 0, none⟩)), (11, .pointer (some ⟨b5, 0, none⟩)), (15, .slice A45 r8.1.length c_45)] rfl ?_
                  refine J.seq ?_
                  refine J.seq ?_
                  refine J.region ?_
                  refine RJ.run ttok 1 rfl ?_
                  refine RJ.q rfl rfl (q_load_box ttok 7 (fun w e => e ▸ h80.wh) rfl rfl rfl rfl rfl) ?_
                  refine RJ.run ttok 1 rfl ?_
                  refine RJ.fin [(6, .pointer (some ⟨b2, 0, none⟩)), (8, .pointer (some ⟨b3, 0, none⟩)), (10, .pointer (some ⟨b4, 0, none⟩)), (11, .pointer (some ⟨b5, 0, none⟩)), (15, .slice A45 r8.1.length c_45), (79, .bool (decide (r2.1 = 0)))] rfl ?_
                  refine J.cond rfl (fun c8 => ?_) (fun c8 => ?_)
                  · replace H := ite_t c8 H
                    refine J.region ?_
                    refine RJ.run ttok 1 rfl ?_
                    refine RJ.q rfl rfl (q_load_box ttok 7 (fun w e => e ▸ h80.wh) rfl rfl rfl rfl rfl) ?_
                    refine RJ.run ttok 1 rfl ?_
                    obtain ⟨r9, q9, H⟩ := bind_t H
                    refine RJ.op rfl rfl (op_call [] (leaf_Apply.spec q9) rfl rfl rfl h80 rfl (gcons (Gives.of 11 rfl own_rd) (gcons (Gives.of 1 rfl own_rd) gnil))) ?_
                    rintro _ w69 ⟨_, ⟨A47, c_47, rfl, rfl⟩, h81⟩
                    replace h81 : St w0 F0 [ownC 75 (.pair .str .str) r9 (.slice A47 r9.length c_47), boxC b2 86 [.int .i64 r1.1, .slice A9 r1.2.1.length c_9, .slice A10 r1.2.2.1.length c_10, .slice A46 r8.2.length c_46, .slice A12 r1.2.2.2.2.length c_12], ownC 135 (.pair .str (.pair .bool .str)) r8.1 (.slice A45 r8.1.length c_45), ownC 135 (.pair .str (.pair .bool .str)) r8.2 (.slice A46 r8.2.length c_46), ownC 23 (.int .u32) r1.2.1 (.slice A9 r1.2.1.length c_9), ownC 9 .str r1.2.2.1 (.slice A10 r1.2.2.1.length c_10), ownC 135 (.pair .str (.pair .bool .str)) r1.2.2.2.1 (.slice A11 r1.2.2.2.1.length c_11), ownC 75 (.pair .str .str) r1.2.2.2.2 (.slice A12 r1.2.2.2.2.length c_12), boxC b3 86 [.int .i64 r2.1, .slice A13 r2.2.1.length c_13, .slice A14 r2.2.2.1.length c_14, .slice A15 r2.2.2.2.1.length c_15, .slice A16 r2.2.2.2.2.length c_16], ownC 23 (.int .u32) r2.2.1 (.slice A13 r2.2.1.length c_13), ownC 9 .str r2.2.2.1 (.slice A14 r2.2.2.1.length c_14), ownC 135 (.pair .str (.pair .bool .str)) r2.2.2.2.1 (.slice A15 r2.2.2.2.1.length c_15), ownC 75 (.pair .str .str) r2.2.2.2.2 (.slice A16 r2.2.2.2.2.length c_16), boxC b5 86 [.int .i64 0, .slice none ([] : List (Int)).length 0, .slice none ([] : List (List UInt8)).length 0, .slice none ([] : List (List UInt8 × Bool × List UInt8)).length 0, .slice none ([] : List (List UInt8 × List UInt8)).length 0], boxC b4 86 [.int .i64 0, .slice none ([] : List (Int)).length 0, .slice none ([] : List (List UInt8)).length 0, .slice none ([] : List (List UInt8 × Bool × List UInt8)).length 0, .slice none ([] : List (List UInt8 × List UInt8)).length 0]] _ _ := h81
                    refine RJ.run ttok 1 rfl ?_
                    refine RJ.op rfl rfl (op_store ttok 8 rfl h81 rfl rfl rfl rfl rfl rfl rfl) ?_
                    intro _ w70 h82
                    replace h82 : St w0 F0 [boxC b3 86 [.int .i64 r2.1, .slice A13 r2.2.1.length c_13, .slice A14 r2.2.2.1.length c_14, .slice A15 r2.2.2.2.1.length c_15, .slice A47 r9.length c_47], ownC 75 (.pair .str .str) r9 (.slice A47 r9.length c_47), boxC b2 86 [.int .i64 r1.1, .slice A9 r1.2.1.length c_9, .slice A10 r1.2.2.1.length c_10, .slice A46 r8.2.length c_46, .slice A12 r1.2.2.2.2.length c_12], ownC 135 (.pair .str (.pair .bool .str)) r8.1 (.slice A45 r8.1.length c_45), ownC 135 (.pair .str (.pair .bool .str)) r8.2 (.slice A46 r8.2.length c_46), ownC 23 (.int .u32) r1.2.1 (.slice A9 r1.2.1.length c_9), ownC 9 .str r1.2.2.1 (.slice A10 r1.2.2.1.length c_10), ownC 135 (.pair .str (.pair .bool .str)) r1.2.2.2.1 (.slice A11 r1.2.2.2.1.length c_11), ownC 75 (.pair .str .str) r1.2.2.2.2 (.slice A12 r1.2.2.2.2.length c_12), ownC 23 (.int .u32) r2.2.1 (.slice A13 r2.2.1.length c_13), ownC 9 .str r2.2.2.1 (.slice A14 r2.2.2.1.length c_14), ownC 135 (.pair .str (.pair .bool .str)) r2.2.2.2.1 (.slice A15 r2.2.2.2.1.length c_15), ownC 75 (.pair .str .str) r2.2.2.2.2 (.slice A16 r2.2.2.2.2.length c_16), boxC b5 86 [.int .i64 0, .slice none ([] : List (Int)).length 0, .slice none ([] : List (List UInt8)).length 0, .slice none ([] : List (List UInt8 × Bool × List UInt8)).length 0, .slice none ([] : List (List UInt8 × List UInt8)).length 0], boxC b4 86 [.int .i64 0, .slice none ([] : List (Int)).length 0, .slice none ([] : List (List UInt8)).length 0, .slice none ([] : List (List UInt8 × Bool × List UInt8)).length 0, .slice none ([] : List (List UInt8 × List UInt8)).length 0]] _ _ := h82
                    refine RJ.fin [(6, .pointer (some ⟨b2, 0, none⟩)), (8, .pointer (some ⟨b3, 0, none⟩)), (10, .pointer (some ⟨b4, 0, none⟩)), (11, .pointer (some ⟨b5, 0, none⟩)), (15, .slice A45 r8.1.length c_45)] rfl ?_
                    have h83 := h82.only [0, 0, 0, 0, 0, 0, 0, 1, 1, 1, 1, 2, 2] rfl
                    replace h83 : St w0 F0 [boxC b3 86 [.int .i64 r2.1, .slice A13 r2.2.1.length c_13, .slice A14 r2.2.2.1.length c_14, .slice A15 r2.2.2.2.1.length c_15, .slice A47 r9.length c_47], ownC 75 (.pair .str .str) r9 (.slice A47 r9.length c_47), boxC b2 86 [.int .i64 r1.1, .slice A9 r1.2.1.length c_9, .slice A10 r1.2.2.1.length c_10, .slice A46 r8.2.length c_46, .slice A12 r1.2.2.2.2.length c_12], ownC 135 (.pair .str (.pair .bool .str)) r8.1 (.slice A45 r8.1.length c_45), ownC 135 (.pair .str (.pair .bool .str)) r8.2 (.slice A46 r8.2.length c_46), ownC 23 (.int .u32) r1.2.1 (.slice A9 r1.2.1.length c_9), ownC 9 .str r1.2.2.1 (.slice A10 r1.2.2.1.length c_10), ownC 75 (.pair .str .str) r1.2.2.2.2 (.slice A12 r1.2.2.2.2.length c_12), ownC 23 (.int .u32) r2.2.1 (.slice A13 r2.2.1.length c_13), ownC 9 .str r2.2.2.1 (.slice A14 r2.2.2.1.length c_14), ownC 135 (.pair .str (.pair .bool .str)) r2.2.2.2.1 (.slice A15 r2.2.2.2.1.length c_15), boxC b5 86 [.int .i64 0, .slice none ([] : List (Int)).length 0, .slice none ([] : List (List UInt8)).length 0, .slice none ([] : List (List UInt8 × Bool × List UInt8)).length 0, .slice none ([] : List (List UInt8 × List UInt8)).length 0], boxC b4 86 [.int .i64 0, .slice none ([] : List (Int)).length 0, .slice none ([] : List (List UInt8)).length 0, .slice none ([] : List (List UInt8 × Bool × List UInt8)).length 0, .slice none ([] : List (List UInt8 × List UInt8)).length 0]] _ _ := h83
                    refine J.seq ?_
                    refine J.heldSt mix (h83.only [0, 0, 0, 0, 0, 0, 0, 0, 0, 0, 0] rfl) ?_
                    have h84 := h83.drew
                    refine HJ.run ttok rfl [2, 3] rfl ?_
                    refine HJ.q (i := 0) rfl rfl rfl rfl rfl rfl (q_load_box ttok 2 (fun w e => e) rfl rfl rfl rfl rfl) ?_
                    refine HJ.q (i := 1) rfl rfl rfl rfl rfl rfl (q_load_box ttok 0 (fun w e => e) rfl rfl rfl rfl rfl) ?_
                    refine HJ.op (i := 4) rfl rfl rfl rfl rfl (op_store ttok 12 rfl h84 rfl rfl rfl rfl rfl rfl rfl) ?_
                    intro _ w71 h85
                    replace h85 : St w0 F0 [boxC b4 86 [.int .i64 r1.1, .slice A9 r1.2.1.length c_9, .slice A10 r1.2.2.1.length c_10, .slice A46 r8.2.length c_46, .slice A12 r1.2.2.2.2.length c_12], boxC b3 86 [.int .i64 r2.1, .slice A13 r2.2.1.length c_13, .slice A14 r2.2.2.1.length c_14, .slice A15 r2.2.2.2.1.length c_15, .slice A47 r9.length c_47], ownC 75 (.pair .str .str) r9 (.slice A47 r9.length c_47), boxC b2 86 [.int .i64 r1.1, .slice A9 r1.2.1.length c_9, .slice A10 r1.2.2.1.length c_10, .slice A46 r8.2.length c_46, .slice A12 r1.2.2.2.2.length c_12], ownC 135 (.pair .str (.pair .bool .str)) r8.1 (.slice A45 r8.1.length c_45), ownC 135 (.pair .str (.pair .bool .str)) r8.2 (.slice A46 r8.2.length c_46), ownC 23 (.int .u32) r1.2.1 (.slice A9 r1.2.1.length c_9), ownC 9 .str r1.2.2.1 (.slice A10 r1.2.2.1.length c_10), ownC 75 (.pair .str .str) r1.2.2.2.2 (.slice A12 r1.2.2.2.2.length c_12), ownC 23 (.int .u32) r2.2.1 (.slice A13 r2.2.1.length c_13), ownC 9 .str r2.2.2.1 (.slice A14 r2.2.2.1.length c_14), ownC 135 (.pair .str (.pair .bool .str)) r2.2.2.2.1 (.slice A15 r2.2.2.2.1.length c_15), boxC b5 86 [.int .i64 0, .slice none ([] : List (Int)).length 0, .slice none ([] : List (List UInt8)).length 0, .slice none ([] : List (List UInt8 × Bool × List UInt8)).length 0, .slice none ([] : List (List UInt8 × List UInt8)).length 0]] _ _ := h85
                    refine ⟨⟨[_, _], (h85.only [0, 11, 0, 0, 0, 0, 0, 0, 0, 0, 0, 0, 0] rfl)⟩, ?_⟩
                    refine HJ.op (i := 5) rfl rfl rfl rfl rfl (op_store ttok 12 rfl h85 rfl rfl rfl rfl rfl rfl rfl) ?_
                    intro _ w72 h86
                    replace h86 : St w0 F0 [boxC b5 86 [.int .i64 r2.1, .slice A13 r2.2.1.length c_13, .slice A14 r2.2.2.1.length c_14, .slice A15 r2.2.2.2.1.length c_15, .slice A47 r9.length c_47], boxC b4 86 [.int .i64 r1.1, .slice A9 r1.2.1.length c_9, .slice A10 r1.2.2.1.length c_10, .slice A46 r8.2.length c_46, .slice A12 r1.2.2.2.2.length c_12], boxC b3 86 [.int .i64 r2.1, .slice A13 r2.2.1.length c_13, .slice A14 r2.2.2.1.length c_14, .slice A15 r2.2.2.2.1.length c_15, .slice A47 r9.length c_47], ownC 75 (.pair .str .str) r9 (.slice A47 r9.length c_47), boxC b2 86 [.int .i64 r1.1, .slice A9 r1.2.1.length c_9, .slice A10 r1.2.2.1.length c_10, .slice A46 r8.2.length c_46, .slice A12 r1.2.2.2.2.length c_12], ownC 135 (.pair .str (.pair .bool .str)) r8.1 (.slice A45 r8.1.length c_45), ownC 135 (.pair .str (.pair .bool .str)) r8.2 (.slice A46 r8.2.length c_46), ownC 23 (.int .u32) r1.2.1 (.slice A9 r1.2.1.length c_9), ownC 9 .str r1.2.2.1 (.slice A10 r1.2.2.1.length c_10), ownC 75 (.pair .str .str) r1.2.2.2.2 (.slice A12 r1.2.2.2.2.length c_12), ownC 23 (.int .u32) r2.2.1 (.slice A13 r2.2.1.length c_13), ownC 9 .str r2.2.2.1 (.slice A14 r2.2.2.1.length c_14), ownC 135 (.pair .str (.pair .bool .str)) r2.2.2.2.1 (.slice A15 r2.2.2.2.1.length c_15)] _ _ := h86
                    refine ⟨⟨[_, _], h86⟩, ?_⟩
                    refine HJ.run ttok rfl [6] rfl ?_
                    refine HJ.fin [(10, .pointer (some ⟨b4, 0, none⟩)), (11, .pointer (some ⟨b5, 0, none⟩)), (12, .int .i64 (r8.1.length : Int))] rfl rfl ?_
                    have h87 := h86.only [0, 0, 1, 3, 3, 3, 3, 3, 3, 3] rfl
                    replace h87 : St w0 F0 [boxC b5 86 [.int .i64 r2.1, .slice A13 r2.2.1.length c_13, .slice A14 r2.2.2.1.length c_14, .slice A15 r2.2.2.2.1.length c_15, .slice A47 r9.length c_47], boxC b4 86 [.int .i64 r1.1, .slice A9 r1.2.1.length c_9, .slice A10 r1.2.2.1.length c_10, .slice A46 r8.2.length c_46, .slice A12 r1.2.2.2.2.length c_12], ownC 75 (.pair .str .str) r9 (.slice A47 r9.length c_47), ownC 135 (.pair .str (.pair .bool .str)) r8.2 (.slice A46 r8.2.length c_46), ownC 23 (.int .u32) r1.2.1 (.slice A9 r1.2.1.length c_9), ownC 9 .str r1.2.2.1 (.slice A10 r1.2.2.1.length c_10), ownC 75 (.pair .str .str) r1.2.2.2.2 (.slice A12 r1.2.2.2.2.length c_12), ownC 23 (.int .u32) r2.2.1 (.slice A13 r2.2.1.length c_13), ownC 9 .str r2.2.2.1 (.slice A14 r2.2.2.1.length c_14), ownC 135 (.pair .str (.pair .bool .str)) r2.2.2.2.1 (.slice A15 r2.2.2.2.1.length c_15)] _ _ := h87
                    refine J.ret ?_
                    obtain rfl := Option.some.inj H
                    exact ⟨_, _, _, (results_two rfl (rvcons (RV.cell ttok 1 h87 rfl rfl rfl rfl) (rvcons (RV.cell ttok 0 h87 rfl rfl rfl rfl) (rvcons (RV.tmp rfl) rvnil))) rfl), ⟨_, _, _, _, _, _, _, _, _, _, _, _, _, _, _, _, rfl, rfl⟩, h87.only [4, 4, 3, 3, 3, 3, 3, 2] rfl⟩
                  · replace H := ite_f c8 H
                    refine J.region ?_
                    refine RJ.run ttok 2 rfl ?_
                    refine RJ.q rfl rfl (q_load_box ttok 7 (fun w e => e ▸ h80.wh) rfl rfl rfl rfl rfl) ?_
                    obtain ⟨r10, q10, H⟩ := bind_t H
                    refine RJ.op rfl rfl (op_call [] (buf_Merge.spec q10) rfl rfl rfl h80 rfl (gcons (Gives.of 1 rfl own_rd) (gcons (Gives.of 10 rfl own_rd) gnil))) ?_
                    rintro _ w73 ⟨_, ⟨A48, c_48, rfl, rfl⟩, h88⟩
                    replace h88 : St w0 F0 [ownC 135 (.pair .str (.pair .bool .str)) r10 (.slice A48 r10.length c_48), boxC b2 86 [.int .i64 r1.1, .slice A9 r1.2.1.length c_9, .slice A10 r1.2.2.1.length c_10, .slice A46 r8.2.length c_46, .slice A12 r1.2.2.2.2.length c_12], ownC 135 (.pair .str (.pair .bool .str)) r8.1 (.slice A45 r8.1.length c_45), ownC 135 (.pair .str (.pair .bool .str)) r8.2 (.slice A46 r8.2.length c_46), ownC 23 (.int .u32) r1.2.1 (.slice A9 r1.2.1.length c_9), ownC 9 .str r1.2.2.1 (.slice A10 r1.2.2.1.length c_10), ownC 135 (.pair .str (.pair .bool .str)) r1.2.2.2.1 (.slice A11 r1.2.2.2.1.length c_11), ownC 75 (.pair .str .str) r1.2.2.2.2 (.slice A12 r1.2.2.2.2.length c_12), boxC b3 86 [.int .i64 r2.1, .slice A13 r2.2.1.length c_13, .slice A14 r2.2.2.1.length c_14, .slice A15 r2.2.2.2.1.length c_15, .slice A16 r2.2.2.2.2.length c_16], ownC 23 (.int .u32) r2.2.1 (.slice A13 r2.2.1.length c_13), ownC 9 .str r2.2.2.1 (.slice A14 r2.2.2.1.length c_14), ownC 135 (.pair .str (.pair .bool .str)) r2.2.2.2.1 (.slice A15 r2.2.2.2.1.length c_15), ownC 75 (.pair .str .str) r2.2.2.2.2 (.slice A16 r2.2.2.2.2.length c_16), boxC b5 86 [.int .i64 0, .slice none ([] : List (Int)).length 0, .slice none ([] : List (List UInt8)).length 0, .slice none ([] : List (List UInt8 × Bool × List UInt8)).length 0, .slice none ([] : List (List UInt8 × List UInt8)).length 0], boxC b4 86 [.int .i64 0, .slice none ([] : List (Int)).length 0, .slice none ([] : List (List UInt8)).length 0, .slice none ([] : List (List UInt8 × Bool × List UInt8)).length 0, .slice none ([] : List (List UInt8 × List UInt8)).length 0]] _ _ := h88
                    refine RJ.run ttok 1 rfl ?_
                    refine RJ.op rfl rfl (op_store ttok 8 rfl h88 rfl rfl rfl rfl rfl rfl rfl) ?_
                    intro _ w74 h89
                    replace h89 : St w0 F0 [boxC b3 86 [.int .i64 r2.1, .slice A13 r2.2.1.length c_13, .slice A14 r2.2.2.1.length c_14, .slice A48 r10.length c_48, .slice A16 r2.2.2.2.2.length c_16], ownC 135 (.pair .str (.pair .bool .str)) r10 (.slice A48 r10.length c_48), boxC b2 86 [.int .i64 r1.1, .slice A9 r1.2.1.length c_9, .slice A10 r1.2.2.1.length c_10, .slice A46 r8.2.length c_46, .slice A12 r1.2.2.2.2.length c_12], ownC 135 (.pair .str (.pair .bool .str)) r8.1 (.slice A45 r8.1.length c_45), ownC 135 (.pair .str (.pair .bool .str)) r8.2 (.slice A46 r8.2.length c_46), ownC 23 (.int .u32) r1.2.1 (.slice A9 r1.2.1.length c_9), ownC 9 .str r1.2.2.1 (.slice A10 r1.2.2.1.length c_10), ownC 135 (.pair .str (.pair .bool .str)) r1.2.2.2.1 (.slice A11 r1.2.2.2.1.length c_11), ownC 75 (.pair .str .str) r1.2.2.2.2 (.slice A12 r1.2.2.2.2.length c_12), ownC 23 (.int .u32) r2.2.1 (.slice A13 r2.2.1.length c_13), ownC 9 .str r2.2.2.1 (.slice A14 r2.2.2.1.length c_14), ownC 135 (.pair .str (.pair .bool .str)) r2.2.2.2.1 (.slice A15 r2.2.2.2.1.length c_15), ownC 75 (.pair .str .str) r2.2.2.2.2 (.slice A16 r2.2.2.2.2.length c_16), boxC b5 86 [.int .i64 0, .slice none ([] : List (Int)).length 0, .slice none ([] : List (List UInt8)).length 0, .slice none ([] : List (List UInt8 × Bool × List UInt8)).length 0, .slice none ([] : List (List UInt8 × List UInt8)).length 0], boxC b4 86 [.int .i64 0, .slice none ([] : List (Int)).length 0, .slice none ([] : List (List UInt8)).length 0, .slice none ([] : List (List UInt8 × Bool × List UInt8)).length 0, .slice none ([] : List (List UInt8 × List UInt8)).length 0]] _ _ := h89
                    refine RJ.fin [(6, .pointer (some ⟨b2, 0, none⟩)), (8, .pointer (some ⟨b3, 0, none⟩)), (10, .pointer (some ⟨b4, 0, none⟩)), (11, .pointer (some ⟨b5, 0, none⟩)), (15, .slice A45 r8.1.length c_45)] rfl ?_
                    have h90 := h89.only [0, 0, 0, 0, 0, 0, 0, 1, 1, 1, 2, 2, 2] rfl
                    replace h90 : St w0 F0 [boxC b3 86 [.int .i64 r2.1, .slice A13 r2.2.1.length c_13, .slice A14 r2.2.2.1.length c_14, .slice A48 r10.length c_48, .slice A16 r2.2.2.2.2.length c_16], ownC 135 (.pair .str (.pair .bool .str)) r10 (.slice A48 r10.length c_48), boxC b2 86 [.int .i64 r1.1, .slice A9 r1.2.1.length c_9, .slice A10 r1.2.2.1.length c_10, .slice A46 r8.2.length c_46, .slice A12 r1.2.2.2.2.length c_12], ownC 135 (.pair .str (.pair .bool .str)) r8.1 (.slice A45 r8.1.length c_45), ownC 135 (.pair .str (.pair .bool .str)) r8.2 (.slice A46 r8.2.length c_46), ownC 23 (.int .u32) r1.2.1 (.slice A9 r1.2.1.length c_9), ownC 9 .str r1.2.2.1 (.slice A10 r1.2.2.1.length c_10), ownC 75 (.pair .str .str) r1.2.2.2.2 (.slice A12 r1.2.2.2.2.length c_12), ownC 23 (.int .u32) r2.2.1 (.slice A13 r2.2.1.length c_13), ownC 9 .str r2.2.2.1 (.slice A14 r2.2.2.1.length c_14), ownC 75 (.pair .str .str) r2.2.2.2.2 (.slice A16 r2.2.2.2.2.length c_16), boxC b5 86 [.int .i64 0, .slice none ([] : List (Int)).length 0, .slice none ([] : List (List UInt8)).length 0, .slice none ([] : List (List UInt8 × Bool × List UInt8)).length 0, .slice none ([] : List (List UInt8 × List UInt8)).length 0], boxC b4 86 [.int .i64 0, .slice none ([] : List (Int)).length 0, .slice none ([] : List (List UInt8)).length 0, .slice none ([] : List (List UInt8 × Bool × List UInt8)).length 0, .slice none ([] : List (List UInt8 × List UInt8)).length 0]] _ _ := h90
                    refine J.seq ?_
                    refine J.heldSt mix (h90.only [0, 0, 0, 0, 0, 0, 0, 0, 0, 0, 0] rfl) ?_
                    have h91 := h90.drew
                    refine HJ.run ttok rfl [2, 3] rfl ?_
                    refine HJ.q (i := 0) rfl rfl rfl rfl rfl rfl (q_load_box ttok 2 (fun w e => e) rfl rfl rfl rfl rfl) ?_
                    refine HJ.q (i := 1) rfl rfl rfl rfl rfl rfl (q_load_box ttok 0 (fun w e => e) rfl rfl rfl rfl rfl) ?_
                    refine HJ.op (i := 4) rfl rfl rfl rfl rfl (op_store ttok 12 rfl h91 rfl rfl rfl rfl rfl rfl rfl) ?_
                    intro _ w75 h92
                    replace h92 : St w0 F0 [boxC b4 86 [.int .i64 r1.1, .slice A9 r1.2.1.length c_9, .slice A10 r1.2.2.1.length c_10, .slice A46 r8.2.length c_46, .slice A12 r1.2.2.2.2.length c_12], boxC b3 86 [.int .i64 r2.1, .slice A13 r2.2.1.length c_13, .slice A14 r2.2.2.1.length c_14, .slice A48 r10.length c_48, .slice A16 r2.2.2.2.2.length c_16], ownC 135 (.pair .str (.pair .bool .str)) r10 (.slice A48 r10.length c_48), boxC b2 86 [.int .i64 r1.1, .slice A9 r1.2.1.length c_9, .slice A10 r1.2.2.1.length c_10, .slice A46 r8.2.length c_46, .slice A12 r1.2.2.2.2.length c_12], ownC 135 (.pair .str (.pair .bool .str)) r8.1 (.slice A45 r8.1.length c_45), ownC 135 (.pair .str (.pair .bool .str)) r8.2 (.slice A46 r8.2.length c_46), ownC 23 (.int .u32) r1.2.1 (.slice A9 r1.2.1.length c_9), ownC 9 .str r1.2.2.1 (.slice A10 r1.2.2.1.length c_10), ownC 75 (.pair .str .str) r1.2.2.2.2 (.slice A12 r1.2.2.2.2.length c_12), ownC 23 (.int .u32) r2.2.1 (.slice A13 r2.2.1.length c_13), ownC 9 .str r2.2.2.1 (.slice A14 r2.2.2.1.length c_14), ownC 75 (.pair .str .str) r2.2.2.2.2 (.slice A16 r2.2.2.2.2.length c_16), boxC b5 86 [.int .i64 0, .slice none ([] : List (Int)).length 0, .slice none ([] : List (List UInt8)).length 0, .slice none ([] : List (List UInt8 × Bool × List UInt8)).length 0, .slice none ([] : List (List UInt8 × List UInt8)).length 0]] _ _ := h92
                    refine ⟨⟨[_, _], (h92.only [0, 11, 0, 0, 0, 0, 0, 0, 0, 0, 0, 0, 0] rfl)⟩, ?_⟩
                    refine HJ.op (i := 5) rfl rfl rfl rfl rfl (op_store ttok 12 rfl h92 rfl rfl rfl rfl rfl rfl rfl) ?_
                    intro _ w76 h93
                    replace h93 : St w0 F0 [boxC b5 86 [.int .i64 r2.1, .slice A13 r2.2.1.length c_13, .slice A14 r2.2.2.1.length c_14, .slice A48 r10.length c_48, .slice A16 r2.2.2.2.2.length c_16], boxC b4 86 [.int .i64 r1.1, .slice A9 r1.2.1.length c_9, .slice A10 r1.2.2.1.length c_10, .slice A46 r8.2.length c_46, .slice A12 r1.2.2.2.2.length c_12], boxC b3 86 [.int .i64 r2.1, .slice A13 r2.2.1.length c_13, .slice A14 r2.2.2.1.length c_14, .slice A48 r10.length c_48, .slice A16 r2.2.2.2.2.length c_16], ownC 135 (.pair .str (.pair .bool .str)) r10 (.slice A48 r10.length c_48), boxC b2 86 [.int .i64 r1.1, .slice A9 r1.2.1.length c_9, .slice A10 r1.2.2.1.length c_10, .slice A46 r8.2.length c_46, .slice A12 r1.2.2.2.2.length c_12], ownC 135 (.pair .str (.pair .bool .str)) r8.1 (.slice A45 r8.1.length c_45), ownC 135 (.pair .str (.pair .bool .str)) r8.2 (.slice A46 r8.2.length c_46), ownC 23 (.int .u32) r1.2.1 (.slice A9 r1.2.1.length c_9), ownC 9 .str r1.2.2.1 (.slice A10 r1.2.2.1.length c_10), ownC 75 (.pair .str .str) r1.2.2.2.2 (.slice A12 r1.2.2.2.2.length c_12), ownC 23 (.int .u32) r2.2.1 (.slice A13 r2.2.1.length c_13), ownC 9 .str r2.2.2.1 (.slice A14 r2.2.2.1.length c_14), ownC 75 (.pair .str .str) r2.2.2.2.2 (.slice A16 r2.2.2.2.2.length c_16)] _ _ := h93
                    refine ⟨⟨[_, _], h93⟩, ?_⟩
                    refine HJ.run ttok rfl [6] rfl ?_
                    refine HJ.fin [(10, .pointer (some ⟨b4, 0, none⟩)), (11, .pointer (some ⟨b5, 0, none⟩)), (12, .int .i64 (r8.1.length : Int))] rfl rfl ?_
                    have h94 := h93.only [0, 0, 1, 3, 3, 3, 3, 3, 3, 3] rfl
                    replace h94 : St w0 F0 [boxC b5 86 [.int .i64 r2.1, .slice A13 r2.2.1.length c_13, .slice A14 r2.2.2.1.length c_14, .slice A48 r10.length c_48, .slice A16 r2.2.2.2.2.length c_16], boxC b4 86 [.int .i64 r1.1, .slice A9 r1.2.1.length c_9, .slice A10 r1.2.2.1.length c_10, .slice A46 r8.2.length c_46, .slice A12 r1.2.2.2.2.length c_12], ownC 135 (.pair .str (.pair .bool .str)) r10 (.slice A48 r10.length c_48), ownC 135 (.pair .str (.pair .bool .str)) r8.2 (.slice A46 r8.2.length c_46), ownC 23 (.int .u32) r1.2.1 (.slice A9 r1.2.1.length c_9), ownC 9 .str r1.2.2.1 (.slice A10 r1.2.2.1.length c_10), ownC 75 (.pair .str .str) r1.2.2.2.2 (.slice A12 r1.2.2.2.2.length c_12), ownC 23 (.int .u32) r2.2.1 (.slice A13 r2.2.1.length c_13), ownC 9 .str r2.2.2.1 (.slice A14 r2.2.2.1.length c_14), ownC 75 (.pair .str .str) r2.2.2.2.2 (.slice A16 r2.2.2.2.2.length c_16)] _ _ := h94
                    refine J.ret ?_
                    obtain rfl := Option.some.inj H
                    exact ⟨_, _, _, (results_two rfl (rvcons (RV.cell ttok 1 h94 rfl rfl rfl rfl) (rvcons (RV.cell ttok 0 h94 rfl rfl rfl rfl) (rvcons (RV.tmp rfl) rvnil))) rfl), ⟨_, _, _, _, _, _, _, _, _, _, _, _, _, _, _, _, rfl, rfl⟩, h94.only [4, 4, 3, 3, 3, 3, 2, 2] rfl⟩

/-! sluicegate/leaf.Get -/
def leaf_Get.f (k : Nat) (a0 : List (List UInt8 × List UInt8)) (a1 : List UInt8) : Option (List UInt8 × Bool) := (slices_BinarySearchFunc_api_Pair_api_Pair_string_leaf_compare.f k a0 a1).bind fun r1 => (if (!r1.2) = true then (some (([] : List UInt8), false)) else (if 0 ≤ r1.1 ∧ r1.1 < (a0.length : Int) then (some ((gt a0 r1.1).2, true)) else none))
set_option maxRecDepth 20000 in
set_option maxHeartbeats 40000000 in
theorem leaf_Get.spec {k : Nat} {a0 : List (List UInt8 × List UInt8)} {a1 : List UInt8} {A1 : Option Addr} {c_1 : Nat} {r : List UInt8 × Bool} (H : leaf_Get.f k a0 a1 = some r) :
    Spec Try.prog 77 [.slice A1 a0.length c_1, .string ⟨⟨a1⟩⟩] [] [rdC 75 (.pair .str .str) a0 (.slice A1 a0.length c_1)] (fun v l => v = .tuple #[.string ⟨⟨r.1⟩⟩, .bool r.2] ∧ l = []) := by
  refine Spec.enter Try.func77 rfl (by kernel_rfl) (by kernel_rfl) fun w0 F0 h0 => ?_
  unfold leaf_Get.f at H
  refine J.seq ?_
  refine J.region ?_
  refine RJ.run ttok 2 rfl ?_
  refine RJ.fin [(0, .slice A1 a0.length c_1), (1, .string ⟨⟨a1⟩⟩)] rfl ?_
  refine J.seq ?_
  refine J.region ?_
  refine RJ.run ttok 2 rfl ?_
  obtain ⟨r1, q1, H⟩ := bind_t H
  refine RJ.op rfl rfl (op_call [] (slices_BinarySearchFunc_api_Pair_api_Pair_string_leaf_compare.spec q1) rfl rfl rfl h0 rfl (gcons (Gives.self 0 rfl) gnil)) ?_
  rintro _ w1 ⟨_, ⟨rfl, rfl⟩, h1⟩
  replace h1 : St w0 F0 [] _ _ := h1
  refine RJ.run ttok 5 rfl ?_
  refine RJ.fin [(0, .slice A1 a0.length c_1), (6, .int .i64 r1.1), (7, .bool r1.2)] rfl ?_
  refine J.seq ?_
  refine J.seq ?_
  refine J.region ?_
  refine RJ.run ttok 2 rfl ?_
  refine RJ.fin [(0, .slice A1 a0.length c_1), (6, .int .i64 r1.1), (15, .bool (!r1.2))] rfl ?_
  refine J.cond rfl (fun c1 => ?_) (fun c1 => ?_)
  · replace H := ite_t c1 H
    refine J.seq ?_
    refine J.region ?_
    refine RJ.run ttok 2 rfl ?_
    refine RJ.fin [(4, .string ⟨⟨([] : List UInt8)⟩⟩), (5, .bool false)] rfl ?_
    refine J.ret ?_
    obtain rfl := Option.some.inj H
    exact ⟨_, _, _, (results_slots rfl), ⟨rfl, rfl⟩, h1.only [] rfl⟩
  · replace H := ite_f c1 H
    refine J.skip ?_
    refine J.seq ?_
    refine J.region ?_
    refine RJ.run ttok 2 rfl ?_
    obtain ⟨⟨p1, p2⟩, H⟩ := guard_t H
    have e1 := elem_A h1.wh (Gives.self 0 rfl) p1 p2
    refine RJ.q rfl rfl (q_index ttok rfl rfl rfl rfl rfl e1 p1 p2) ?_
    refine RJ.run ttok 1 rfl ?_
    refine RJ.q rfl rfl (q_load_elem (f := 1) ttok rfl (fun w e => e ▸ h1.wh) (Gives.self 0 rfl) p1 p2 rfl rfl rfl rfl rfl) ?_
    refine RJ.run ttok 2 rfl ?_
    refine RJ.fin [(4, .string ⟨⟨(gt a0 r1.1).2⟩⟩), (5, .bool true)] rfl ?_
    refine J.ret ?_
    obtain rfl := Option.some.inj H
    exact ⟨_, _, _, (results_slots rfl), ⟨rfl, rfl⟩, h1.only [] rfl⟩

/-! sluicegate/buf.Find -/
def buf_Find.f (k : Nat) (a0 : List (List UInt8 × Bool × List UInt8)) (a1 : List UInt8) : Option ((List UInt8 × Bool × List UInt8) × Bool) := (slices_BinarySearchFunc_api_Msg_api_Msg_string_buf_compare.f k a0 a1).bind fun r1 => (if (!r1.2) = true then (some ((([] : List UInt8), false, ([] : List UInt8)), false)) else (if 0 ≤ r1.1 ∧ r1.1 < (a0.length : Int) then (some (((gt a0 r1.1).1, (gt a0 r1.1).2.1, (gt a0 r1.1).2.2), true)) else none))
set_option maxRecDepth 20000 in
set_option maxHeartbeats 40000000 in
theorem buf_Find.spec {k : Nat} {a0 : List (List UInt8 × Bool × List UInt8)} {a1 : List UInt8} {A1 : Option Addr} {c_1 : Nat} {r : (List UInt8 × Bool × List UInt8) × Bool} (H : buf_Find.f k a0 a1 = some r) :
    Spec Try.prog 129 [.slice A1 a0.length c_1, .string ⟨⟨a1⟩⟩] [] [rdC 135 (.pair .str (.pair .bool .str)) a0 (.slice A1 a0.length c_1)] (fun v l => v = .tuple #[.agg #[.string ⟨⟨r.1.1⟩⟩, .bool r.1.2.1, .string ⟨⟨r.1.2.2⟩⟩], .bool r.2] ∧ l = []) := by
  refine Spec.enter Try.func129 rfl (by kernel_rfl) (by kernel_rfl) fun w0 F0 h0 => ?_
  unfold buf_Find.f at H
  refine J.seq ?_
  refine J.region ?_
  refine RJ.op rfl rfl (op_alloc ttok rfl rfl h0) ?_
  rintro _ w1 ⟨b1, rfl, h1⟩
  replace h1 : St w0 F0 [boxC b1 135 [.string ⟨⟨([] : List UInt8)⟩⟩, .bool false, .string ⟨⟨([] : List UInt8)⟩⟩]] _ _ := h1
  refine RJ.run ttok 1 rfl ?_
  refine RJ.fin [(0, .slice A1 a0.length c_1), (1, .string ⟨⟨a1⟩⟩), (4, .pointer (some ⟨b1, 0, none⟩))] rfl ?_
  refine J.seq ?_
  refine J.region ?_
  refine RJ.run ttok 2 rfl ?_
  obtain ⟨r1, q1, H⟩ := bind_t H
  refine RJ.op rfl rfl (op_call [] (slices_BinarySearchFunc_api_Msg_api_Msg_string_buf_compare.spec q1) rfl rfl rfl h1 rfl (gcons (Gives.self 1 rfl) gnil)) ?_
  rintro _ w2 ⟨_, ⟨rfl, rfl⟩, h2⟩
  replace h2 : St w0 F0 [boxC b1 135 [.string ⟨⟨([] : List UInt8)⟩⟩, .bool false, .string ⟨⟨([] : List UInt8)⟩⟩]] _ _ := h2
  refine RJ.run ttok 5 rfl ?_
  refine RJ.fin [(0, .slice A1 a0.length c_1), (4, .pointer (some ⟨b1, 0, none⟩)), (6, .int .i64 r1.1), (7, .bool r1.2)] rfl ?_
  refine J.seq ?_
  refine J.seq ?_
  refine J.region ?_
  refine RJ.run ttok 2 rfl ?_
  refine RJ.fin [(0, .slice A1 a0.length c_1), (4, .pointer (some ⟨b1, 0, none⟩)), (6, .int .i64 r1.1), (15, .bool (!r1.2))] rfl ?_
  refine J.cond rfl (fun c1 => ?_) (fun c1 => ?_)
  · replace H := ite_t c1 H
    refine J.seq ?_
    refine J.region ?_
    refine RJ.run ttok 1 rfl ?_
    refine RJ.op rfl rfl (op_store ttok 0 rfl h2 rfl rfl rfl rfl rfl rfl rfl) ?_
    intro _ w3 h3
    replace h3 : St w0 F0 [boxC b1 135 [.string ⟨⟨([] : List UInt8)⟩⟩, .bool false, .string ⟨⟨([] : List UInt8)⟩⟩]] _ _ := h3
    refine RJ.run ttok 1 rfl ?_
    refine RJ.fin [(4, .pointer (some ⟨b1, 0, none⟩)), (5, .bool false)] rfl ?_
    refine J.ret ?_
    obtain rfl := Option.some.inj H
    exact ⟨_, _, _, (results_two rfl (rvcons (RV.cell ttok 0 h3 rfl rfl rfl rfl) (rvcons (RV.tmp rfl) rvnil)) rfl), ⟨rfl, rfl⟩, h3.only [] rfl⟩
  · replace H := ite_f c1 H
    refine J.skip ?_
    refine J.seq ?_
    refine J.region ?_
    refine RJ.run ttok 2 rfl ?_
    obtain ⟨⟨p1, p2⟩, H⟩ := guard_t H
    have e1 := elem_A h2.wh (Gives.self 1 rfl) p1 p2
    refine RJ.q rfl rfl (q_index ttok rfl rfl rfl rfl rfl e1 p1 p2) ?_
    refine RJ.q rfl rfl (q_load_elem (f := 0) ttok rfl (fun w e => e ▸ h2.wh) (Gives.self 1 rfl) p1 p2 rfl rfl rfl rfl rfl) ?_
    refine RJ.op rfl rfl (op_store ttok 0 rfl h2 rfl rfl rfl rfl rfl rfl rfl) ?_
    intro _ w4 h4
    replace h4 : St w0 F0 [boxC b1 135 [.string ⟨⟨(gt a0 r1.1).1⟩⟩, .bool ((gt a0 r1.1).2.1), .string ⟨⟨(gt a0 r1.1).2.2⟩⟩]] _ _ := h4
    refine RJ.run ttok 1 rfl ?_
    refine RJ.fin [(4, .pointer (some ⟨b1, 0, none⟩)), (5, .bool true)] rfl ?_
    refine J.ret ?_
    obtain rfl := Option.some.inj H
    exact ⟨_, _, _, (results_two rfl (rvcons (RV.cell ttok 0 h4 rfl rfl rfl rfl) (rvcons (RV.tmp rfl) rvnil)) rfl), ⟨rfl, rfl⟩, h4.only [] rfl⟩

/-! sluicegate/pour.Value -/
def pour_Value.l0 : Nat → (List (Int × List (Int) × List (List UInt8) × (List (List UInt8 × Bool × List UInt8)) × (List (List UInt8 × List UInt8)))) → (List UInt8) → (Int) → Option (List UInt8 × Bool)
  | 0, _, _, _ => none
  | k + 1, a0, a1, x1 => if (decide (x1 < (a0.length : Int))) = true then (if 0 ≤ x1 ∧ x1 < (a0.length : Int) then (if (decide (((gt a0 x1).1) = 0)) = true then ((leaf_Get.f k ((gt a0 x1).2.2.2.2) a1).bind fun r1 => (some (r1.1, r1.2))) else ((buf_Find.f k ((gt a0 x1).2.2.2.1) a1).bind fun r2 => (if r2.2 = true then (some (r2.1.2.2, (!r2.1.2.1))) else (pour_Value.l0 k a0 a1 (w64 (x1 + 1)))))) else none) else (some (([] : List UInt8), false))
def pour_Value.f (k : Nat) (a0 : List (Int × List (Int) × List (List UInt8) × (List (List UInt8 × Bool × List UInt8)) × (List (List UInt8 × List UInt8)))) (a1 : List UInt8) : Option (List UInt8 × Bool) := pour_Value.l0 k a0 a1 0
set_option maxRecDepth 20000 in
set_option maxHeartbeats 40000000 in
theorem pour_Value.spec {k : Nat} {a0 : List (Int × List (Int) × List (List UInt8) × (List (List UInt8 × Bool × List UInt8)) × (List (List UInt8 × List UInt8)))} {a1 : List UInt8} {A1 : Option Addr} {c_1 : Nat} {r : List UInt8 × Bool} (H : pour_Value.f k a0 a1 = some r) :
    Spec Try.prog 81 [.slice A1 a0.length c_1, .string ⟨⟨a1⟩⟩] [] [rdC 86 (.pair (.int .i64) (.pair (.slice 23 (.int .u32)) (.pair (.slice 9 .str) (.pair (.slice 135 (.pair .str (.pair .bool .str))) (.slice 75 (.pair .str .str)))))) a0 (.slice A1 a0.length c_1)] (fun v l => v = .tuple #[.string ⟨⟨r.1⟩⟩, .bool r.2] ∧ l = []) := by
  refine Spec.enter Try.func81 rfl (by kernel_rfl) (by kernel_rfl) fun w0 F0 h0 => ?_
  unfold pour_Value.f at H
  refine J.seq ?_
  refine J.region ?_
  refine RJ.run ttok 2 rfl ?_
  refine RJ.fin [(0, .slice A1 a0.length c_1), (1, .string ⟨⟨a1⟩⟩)] rfl ?_
  refine J.seq ?_
  refine J.seq ?_
  refine J.region ?_
  refine RJ.run ttok 3 rfl ?_
  refine RJ.fin [(1, .string ⟨⟨a1⟩⟩), (10, .slice A1 a0.length c_1), (11, .int .i64 (a0.length : Int)), (12, .int .i64 0)] rfl ?_
  refine J.block ?_
  have h17 := ((h0.only [] rfl).rds [0] rfl)
  refine J.loop (fun k env w => ∃ (x1 : Int), env = [(1, .string ⟨⟨a1⟩⟩), (10, .slice A1 a0.length c_1), (11, .int .i64 (a0.length : Int)), (12, .int .i64 x1)] ∧ St w0 F0 [] [rdC 86 (.pair (.int .i64) (.pair (.slice 23 (.int .u32)) (.pair (.slice 9 .str) (.pair (.slice 135 (.pair .str (.pair .bool .str))) (.slice 75 (.pair .str .str)))))) a0 (.slice A1 a0.length c_1)] w ∧ pour_Value.l0 k a0 a1 x1 = some r) (k := k) ⟨0, rfl, h17, H⟩ ?_
  rintro k1 env w1 ⟨x1, rfl, h1, H⟩
  cases k1 with
  | zero => exact nomatch (show none = some r from H)
  | succ k1 =>
    rw [pour_Value.l0] at H
    refine J.seq ?_
    refine J.region ?_
    refine RJ.run ttok 1 rfl ?_
    refine RJ.fin [(1, .string ⟨⟨a1⟩⟩), (10, .slice A1 a0.length c_1), (11, .int .i64 (a0.length : Int)), (12, .int .i64 x1), (13, .bool (decide (x1 < (a0.length : Int))))] rfl ?_
    refine J.seq ?_
    refine J.cond rfl (fun c1 => ?_) (fun c1 => ?_)
    · replace H := ite_t c1 H
      refine J.skip ?_
      refine J.seq ?_
      refine J.block ?_
      refine J.seq ?_
      refine J.region ?_
      obtain ⟨⟨p1, p2⟩, H⟩ := guard_t H
      have e1 := elem_A h1.wh (Gives.self 0 rfl) p1 p2
      refine RJ.q rfl rfl (q_index ttok rfl rfl rfl rfl rfl e1 p1 p2) ?_
      obtain ⟨cs1, h2⟩ := h1.elem 0 rfl p1 p2
      obtain ⟨cs2, cs3, rfl, h3⟩ := St.okpr 0 h2 rfl
      obtain ⟨cs4, cs5, rfl, h4⟩ := St.okpr 1 h3 rfl
      obtain ⟨cs6, cs7, rfl, h5⟩ := St.okpr 1 h4 rfl
      obtain ⟨cs8, cs9, rfl, h6⟩ := St.okpr 1 h5 rfl
      obtain rfl := St.okflat (t := (.int .i64)) rfl 6 h6 rfl
      obtain ⟨A2, c_2, rfl⟩ := St.okslice 4 h6 rfl
      obtain ⟨A3, c_3, rfl⟩ := St.okslice 2 h6 rfl
      obtain ⟨A4, c_4, rfl⟩ := St.okslice 0 h6 rfl
      obtain ⟨A5, c_5, rfl⟩ := St.okslice 1 h6 rfl
      refine RJ.q rfl rfl (q_load_el (f := 0) ttok (fun w e => e ▸ h6.wh) (Gives.self 9 rfl) rfl rfl rfl rfl) ?_
      refine RJ.op rfl rfl (op_alloc ttok rfl rfl h6) ?_
      rintro _ w2 ⟨b1, rfl, h7⟩
      replace h7 : St w0 F0 [boxC b1 86 [.int .i64 0, .slice none ([] : List (Int)).length 0, .slice none ([] : List (List UInt8)).length 0, .slice none ([] : List (List UInt8 × Bool × List UInt8)).length 0, .slice none ([] : List (List UInt8 × List UInt8)).length 0]] _ _ := h7
      refine RJ.op rfl rfl (op_store ttok 0 rfl h7 rfl rfl rfl rfl rfl rfl rfl) ?_
      intro _ w3 h8
      replace h8 : St w0 F0 [boxC b1 86 [.int .i64 ((gt a0 x1).1), .slice A2 ((gt a0 x1).2.1).length c_2, .slice A3 ((gt a0 x1).2.2.1).length c_3, .slice A4 ((gt a0 x1).2.2.2.1).length c_4, .slice A5 ((gt a0 x1).2.2.2.2).length c_5]] _ _ := h8
      refine RJ.fin [(1, .string ⟨⟨a1⟩⟩), (7, .pointer (some ⟨b1, 0, none⟩)), (10, .slice A1 a0.length c_1), (11, .int .i64 (a0.length : Int)), (12, .int .i64 x1)] rfl ?_
      refine J.seq ?_
      refine J.seq ?_
      refine J.region ?_
      refine RJ.run ttok 1 rfl ?_
      refine RJ.q rfl rfl (q_load_box ttok 0 (fun w e => e ▸ h8.wh) rfl rfl rfl rfl rfl) ?_
      refine RJ.run ttok 1 rfl ?_
      refine RJ.fin [(1, .string ⟨⟨a1⟩⟩), (7, .pointer (some ⟨b1, 0, none⟩)), (10, .slice A1 a0.length c_1), (11, .int .i64 (a0.length : Int)), (12, .int .i64 x1), (18, .bool (decide (((gt a0 x1).1) = 0)))] rfl ?_
      refine J.cond rfl (fun c2 => ?_) (fun c2 => ?_)
      · replace H := ite_t c2 H
        refine J.seq ?_
        refine J.region ?_
        refine RJ.run ttok 1 rfl ?_
        refine RJ.q rfl rfl (q_load_box ttok 0 (fun w e => e ▸ h8.wh) rfl rfl rfl rfl rfl) ?_
        refine RJ.run ttok 1 rfl ?_
        obtain ⟨r1, q1, H⟩ := bind_t H
        refine RJ.op rfl rfl (op_call [] (leaf_Get.spec q1) rfl rfl rfl h8 rfl (gcons (Gives.self 2 rfl) gnil)) ?_
        rintro _ w4 ⟨_, ⟨rfl, rfl⟩, h9⟩
        replace h9 : St w0 F0 [boxC b1 86 [.int .i64 ((gt a0 x1).1), .slice A2 ((gt a0 x1).2.1).length c_2, .slice A3 ((gt a0 x1).2.2.1).length c_3, .slice A4 ((gt a0 x1).2.2.2.1).length c_4, .slice A5 ((gt a0 x1).2.2.2.2).length c_5]] _ _ := h9
        refine RJ.run ttok 4 rfl ?_
        refine RJ.fin [(4, .string ⟨⟨r1.1⟩⟩), (5, .bool r1.2)] rfl ?_
        refine J.ret ?_
        obtain rfl := Option.some.inj H
        exact ⟨_, _, _, (results_slots rfl), ⟨rfl, rfl⟩, h9.only [] rfl⟩
      · replace H := ite_f c2 H
        refine J.skip ?_
        refine J.seq ?_
        refine J.region ?_
        refine RJ.run ttok 1 rfl ?_
        refine RJ.q rfl rfl (q_load_box ttok 0 (fun w e => e ▸ h8.wh) rfl rfl rfl rfl rfl) ?_
        refine RJ.run ttok 1 rfl ?_
        obtain ⟨r2, q2, H⟩ := bind_t H
        refine RJ.op rfl rfl (op_call [] (buf_Find.spec q2) rfl rfl rfl h8 rfl (gcons (Gives.self 1 rfl) gnil)) ?_
        rintro _ w5 ⟨_, ⟨rfl, rfl⟩, h10⟩
        replace h10 : St w0 F0 [boxC b1 86 [.int .i64 ((gt a0 x1).1), .slice A2 ((gt a0 x1).2.1).length c_2, .slice A3 ((gt a0 x1).2.2.1).length c_3, .slice A4 ((gt a0 x1).2.2.2.1).length c_4, .slice A5 ((gt a0 x1).2.2.2.2).length c_5]] _ _ := h10
        refine RJ.run ttok 3 rfl ?_
        refine RJ.op rfl rfl (op_alloc ttok rfl rfl h10) ?_
        rintro _ w6 ⟨b2, rfl, h11⟩
        replace h11 : St w0 F0 [boxC b2 135 [.string ⟨⟨([] : List UInt8)⟩⟩, .bool false, .string ⟨⟨([] : List UInt8)⟩⟩], boxC b1 86 [.int .i64 ((gt a0 x1).1), .slice A2 ((gt a0 x1).2.1).length c_2, .slice A3 ((gt a0 x1).2.2.1).length c_3, .slice A4 ((gt a0 x1).2.2.2.1).length c_4, .slice A5 ((gt a0 x1).2.2.2.2).length c_5]] _ _ := h11
        refine RJ.op rfl rfl (op_store ttok 0 rfl h11 rfl rfl rfl rfl rfl rfl rfl) ?_
        intro _ w7 h12
        replace h12 : St w0 F0 [boxC b2 135 [.string ⟨⟨r2.1.1⟩⟩, .bool r2.1.2.1, .string ⟨⟨r2.1.2.2⟩⟩], boxC b1 86 [.int .i64 ((gt a0 x1).1), .slice A2 ((gt a0 x1).2.1).length c_2, .slice A3 ((gt a0 x1).2.2.1).length c_3, .slice A4 ((gt a0 x1).2.2.2.1).length c_4, .slice A5 ((gt a0 x1).2.2.2.2).length c_5]] _ _ := h12
        refine RJ.run ttok 1 rfl ?_
        refine RJ.fin [(1, .string ⟨⟨a1⟩⟩), (8, .pointer (some ⟨b2, 0, none⟩)), (9, .bool r2.2), (10, .slice A1 a0.length c_1), (11, .int .i64 (a0.length : Int)), (12, .int .i64 x1)] rfl ?_
        refine J.seq ?_
        refine J.region ?_
        refine RJ.run ttok 1 rfl ?_
        refine RJ.fin [(1, .string ⟨⟨a1⟩⟩), (8, .pointer (some ⟨b2, 0, none⟩)), (10, .slice A1 a0.length c_1), (11, .int .i64 (a0.length : Int)), (12, .int .i64 x1), (32, .bool r2.2)] rfl ?_
        refine J.cond rfl (fun c3 => ?_) (fun c3 => ?_)
        · replace H := ite_t c3 H
          refine J.seq ?_
          refine J.heldSt mix h12 ?_
          have h13 := h12.drew
          refine HJ.run ttok rfl [0, 2] rfl ?_
          refine HJ.q (i := 1) rfl rfl rfl rfl rfl rfl (q_load_box ttok 0 (fun w e => e) rfl rfl rfl rfl rfl) ?_
          refine HJ.run ttok rfl [5] rfl ?_
          refine HJ.q (i := 3) rfl rfl rfl rfl rfl rfl (q_load_box ttok 0 (fun w e => e) rfl rfl rfl rfl rfl) ?_
          refine HJ.run ttok rfl [4, 6] rfl ?_
          refine HJ.fin [(4, .string ⟨⟨r2.1.2.2⟩⟩), (5, .bool (!r2.1.2.1))] rfl rfl ?_
          have h14 := h13.only [] rfl
          replace h14 : St w0 F0 [] _ _ := h14
          refine J.ret ?_
          obtain rfl := Option.some.inj H
          exact ⟨_, _, _, (results_slots rfl), ⟨rfl, rfl⟩, h14.only [] rfl⟩
        · replace H := ite_f c3 H
          refine J.skip ?_
          refine J.region ?_
          refine RJ.run ttok 2 rfl ?_
          refine RJ.fin [(1, .string ⟨⟨a1⟩⟩), (10, .slice A1 a0.length c_1), (11, .int .i64 (a0.length : Int)), (12, .int .i64 (w64 (x1 + 1)))] rfl ?_
          have h15 := h12.only [] rfl
          replace h15 : St w0 F0 [] _ _ := h15
          have h16 := ((h15.only [] rfl).rds [10] rfl)
          exact ⟨k1, by omega, (w64 (x1 + 1)), rfl, h16, H⟩
    · replace H := ite_f c1 H
      refine J.exit ?_
      refine J.seq ?_
      refine J.region ?_
      refine RJ.run ttok 2 rfl ?_
      refine RJ.fin [(4, .string ⟨⟨([] : List UInt8)⟩⟩), (5, .bool false)] rfl ?_
      refine J.ret ?_
      obtain rfl := Option.some.inj H
      exact ⟨_, _, _, (results_slots rfl), ⟨rfl, rfl⟩, h1.only [] rfl⟩

end Go.SK.T
