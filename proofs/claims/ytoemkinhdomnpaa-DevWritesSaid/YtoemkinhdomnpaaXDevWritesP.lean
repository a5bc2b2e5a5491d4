/- The plain law behind DevWrites: what its code computes is true for all calls and blocks. -/
import Derived.Test.YtoemkinhdomnpaaXDevWritesF0
set_option linter.unusedVariables false
set_option linter.unusedSimpArgs false
namespace Go.SK.T
open Go Go.SK
abbrev Dv := Int × List Int × (Int × Int)
/-- a block's bytes -/
def blk (img : List Int) (n i : Nat) : List Int := (img.drop (i * n)).take n
theorem blk_in {N n i : Nat} (h : i < N) : i * n + n ≤ N * n := by
  have := Nat.mul_le_mul_right n h
  rw [Nat.succ_mul] at this
  exact this
theorem blk_length {img : List Int} {N n i : Nat} (hl : img.length = N * n) (h : i < N) : (blk img n i).length = n := by
  have := blk_in (n := n) h
  unfold blk
  rw [List.length_take, List.length_drop]
  omega
theorem blk_patch {img b : List Int} {N n i : Nat} (hl : img.length = N * n) (h : i < N) (hb : b.length = n) (j : Nat) (hj : j < N) : blk (patch img (i * n) n b) n j = if j = i then b else blk img n j := by
  have h1 := blk_in (n := n) h
  have h2 := blk_in (n := n) hj
  have e0 : (img.take (i * n)).length = i * n := by rw [List.length_take]; omega
  unfold blk patch
  rw [List.take_of_length_le (i := n) (l := b) (by omega), show i * n + min n b.length = i * n + n from by omega]
  by_cases e : j = i
  · subst e
    rw [if_pos rfl, List.append_assoc, List.drop_append_of_le_length (by omega), List.drop_of_length_le (by omega), List.nil_append, List.take_append_of_le_length (by omega), List.take_of_length_le (by omega)]
  · rw [if_neg e]
    by_cases lt : j < i
    · have h3 := Nat.mul_le_mul_right n (show j + 1 ≤ i from lt)
      rw [Nat.succ_mul] at h3
      rw [List.append_assoc, List.drop_append_of_le_length (by omega), List.take_append_of_le_length (by rw [List.length_drop]; omega), List.drop_take, List.take_take]
      congr 1
      omega
    · have h3 := Nat.mul_le_mul_right n (show i + 1 ≤ j from by omega)
      rw [Nat.succ_mul] at h3
      rw [List.drop_append, List.drop_of_length_le (by rw [List.length_append]; omega), List.nil_append, List.drop_drop]
      congr 2
      rw [List.length_append, e0]
      omega
theorem patch_len {img b : List Int} {N n i : Nat} (hl : img.length = N * n) (h : i < N) : (patch img (i * n) n b).length = N * n := by
  have := blk_in (n := n) h
  rw [patch_length (by omega), hl]
theorem devBlocks {N n : Nat} {img : List Int} {s : Int × Int} (hn : 1 ≤ n) (hl : img.length = N * n) (hb : N * n ≤ 4294967296) : dev_Device_Blocks.f ((n : Int), img, s) = some (N : Int) := by
  have hN : N ≤ 4294967296 := Nat.le_trans (Nat.le_mul_of_pos_right N hn) hb
  have e : Int.tdiv (img.length : Int) (n : Int) = N := by
    rw [hl, Int.natCast_mul]
    exact Int.mul_tdiv_cancel _ (by omega)
  unfold dev_Device_Blocks.f
  dsimp only
  rw [if_neg (by simp only [decide_eq_true_eq]; omega), if_pos (by omega), e, w64_id (by omega) (by omega)]
theorem devAt {n i N : Nat} (hb : N * n ≤ 4294967296) (hn : 1 ≤ n) (h : i < N) : w64 (i : Int) = i ∧ w64 ((i : Int) * (n : Int)) = ((i * n : Nat) : Int) ∧ w64 (((i * n : Nat) : Int) + (n : Int)) = ((i * n + n : Nat) : Int) := by
  have h1 := blk_in (n := n) h
  have h2 : i ≤ i * n := Nat.le_mul_of_pos_right i hn
  refine ⟨w64_id (by omega) (by omega), ?_, ?_⟩
  · rw [← Int.natCast_mul]
    exact w64_id (by omega) (by omega)
  · rw [w64_id (by omega) (by omega)]
    rfl
theorem devWrite {N n i : Nat} {img b : List Int} {s : Int × Int} (hn : 1 ≤ n) (hN : 1 ≤ N) (hl : img.length = N * n) (hb : N * n ≤ 4294967296) (hi : i < 4294967296) :
    dev_Device_Write.f ((n : Int), img, s) (i : Int) b = some (if N ≤ i then (4, ((n : Int), img, s)) else if b.length = n then (0, ((n : Int), patch img (i * n) n b, s.1, IntKind.u64.wrap (s.2 + 1))) else (3, ((n : Int), img, s))) := by
  have e := devBlocks (s := (s.1, s.2)) hn hl hb
  unfold dev_Device_Write.f
  dsimp only
  rw [e, Option.bind_some, if_neg (by simp only [decide_eq_true_eq]; omega), Option.bind_some]
  by_cases h : N ≤ i
  · rw [w64_id (x := (i : Int)) (by omega) (by omega), if_pos (decide_eq_true (by omega)), if_pos h]
  · obtain ⟨a1, a2, a3⟩ := devAt hb hn (show i < N from by omega)
    have h1 := blk_in (n := n) (show i < N from by omega)
    rw [a1, a2, a3, if_neg (by simp only [decide_eq_true_eq]; omega), if_pos (by omega), if_neg h]
    by_cases hq : b.length = n
    · rw [if_neg (by simp only [Bool.not_eq_true', decide_eq_false_iff_not]; omega), if_pos hq]
      simp only [Int.toNat_natCast]
      rw [List.length_take, List.length_drop, show min (i * n + n - i * n) (img.length - i * n) = n from by omega]
    · rw [if_pos (by simp only [Bool.not_eq_true', decide_eq_false_iff_not]; omega), if_neg hq]
theorem clone_byte {l : List Int} (h : l.length ≤ 140737488355328) : slices_Clone_byte_byte.f l = some l := by
  unfold slices_Clone_byte_byte.f
  rw [if_pos (by simpa using h)]
  rfl
theorem devRead {N n i : Nat} {img : List Int} {s : Int × Int} (hn : 1 ≤ n) (hN : 1 ≤ N) (hl : img.length = N * n) (hb : N * n ≤ 4294967296) (hi : i < 4294967296) :
    dev_Device_Read.f ((n : Int), img, s) (i : Int) = some (if N ≤ i then ([], 4, ((n : Int), img, s)) else (blk img n i, 0, ((n : Int), img, IntKind.u64.wrap (s.1 + 1), s.2))) := by
  have e := devBlocks (s := (s.1, s.2)) hn hl hb
  unfold dev_Device_Read.f
  dsimp only
  rw [e, Option.bind_some, if_neg (by simp only [decide_eq_true_eq]; omega), Option.bind_some]
  by_cases h : N ≤ i
  · rw [w64_id (x := (i : Int)) (by omega) (by omega), if_pos (decide_eq_true (by omega)), if_pos h]
  · obtain ⟨a1, a2, a3⟩ := devAt hb hn (show i < N from by omega)
    have h1 := blk_in (n := n) (show i < N from by omega)
    rw [a1, a2, a3, if_neg (by simp only [decide_eq_true_eq]; omega), if_pos (by omega), if_neg h]
    simp only [Int.toNat_natCast]
    have hbl : (blk img n i).length = n := blk_length hl (by omega)
    have : (img.drop (i * n)).take (i * n + n - i * n) = blk img n i := by unfold blk; congr 1; omega
    have hnb : n ≤ N * n := Nat.le_mul_of_pos_left n hN
    rw [this, clone_byte (by omega), Option.bind_some]
theorem awake06_pure : sluicegatelaw06_awake.f = some true := by rfl
theorem actFit {l : List (Int × Int × List Int)} (h : Ty.fit (bytesIn tt) (.slice 30 (.pair (.int .i64) (.pair (.int .u32) (.slice 5 (.int .u8))))) l) {x : Int × Int × List Int} (hx : x ∈ l) : 0 ≤ x.2.1 ∧ x.2.1 < 4294967296 ∧ x.2.2.length ≤ 140737488351232 := by
  obtain ⟨_, h1, h2⟩ := h.2.2 x hx
  have : (Lit.int .u32 x.2.1).wf = true := h1
  simp [Lit.wf, IntKind.min, IntKind.max, IntKind.signed, IntKind.bits] at this
  have e : bytesIn tt 5 = 1 := by rfl
  have := h2.2.1
  rw [e] at this
  exact ⟨by omega, by omega, by simpa using this⟩
theorem dw_l1 (l : List (Int × Int × List Int)) (ask : Int) (r3 : Int × Dv) (j : Int) (k : Nat) : ∀ (m : Nat) (x : List Int) (i : Nat), x.length = i + m → x.length ≤ 140737488351232 → sluicegatelaw06_DevWrites.l1 (k + 1 + m) l ask r3 j x (i : Int) = sluicegatelaw06_DevWrites.l1 (k + 1) l ask r3 j [] 0
  | 0, x, i, h, hb => by
    rw [Nat.add_zero, sluicegatelaw06_DevWrites.l1, sluicegatelaw06_DevWrites.l1, if_neg (by simp only [decide_eq_true_eq]; omega), if_neg (by decide)]
  | m + 1, x, i, h, hb => by
    rw [show k + 1 + (m + 1) = (k + 1 + m) + 1 from rfl]
    conv => lhs; rw [sluicegatelaw06_DevWrites.l1]
    rw [if_pos (decide_eq_true (by omega)), if_pos (by omega), w64_id (by omega) (by omega)]
    exact dw_l1 l ask r3 j k m _ (i + 1) (by rw [List.length_set]; omega) (by rw [List.length_set]; omega)
theorem dw_l2 (l : List (Int × Int × List Int)) (ask : Int) (r3 : Int × Dv) (w : List UInt8) (j : Int) (k : Nat) : ∀ (m : Nat) (x : List Int) (i : Nat), x.length = i + m → x.length ≤ 140737488351232 → sluicegatelaw06_DevWrites.l2 (k + 1 + m) l ask r3 w j x (i : Int) = sluicegatelaw06_DevWrites.l2 (k + 1) l ask r3 w j [] 0
  | 0, x, i, h, hb => by
    rw [Nat.add_zero, sluicegatelaw06_DevWrites.l2, sluicegatelaw06_DevWrites.l2, if_neg (by simp only [decide_eq_true_eq]; omega), if_neg (by decide)]
  | m + 1, x, i, h, hb => by
    rw [show k + 1 + (m + 1) = (k + 1 + m) + 1 from rfl]
    conv => lhs; rw [sluicegatelaw06_DevWrites.l2]
    rw [if_pos (decide_eq_true (by omega)), if_pos (by omega), w64_id (by omega) (by omega)]
    exact dw_l2 l ask r3 w j k m _ (i + 1) (by rw [List.length_set]; omega) (by rw [List.length_set]; omega)
theorem dw_l3 (l : List (Int × Int × List Int)) (ask : Int) (r3 : Int × Dv) (w : List UInt8) (j : Int) (k : Nat) : ∀ (m : Nat) (x : List Int) (i : Nat), x.length = i + m → x.length ≤ 140737488351232 → sluicegatelaw06_DevWrites.l3 (k + 1 + m) l ask r3 w j x (i : Int) = sluicegatelaw06_DevWrites.l3 (k + 1) l ask r3 w j [] 0
  | 0, x, i, h, hb => by
    rw [Nat.add_zero, sluicegatelaw06_DevWrites.l3, sluicegatelaw06_DevWrites.l3, if_neg (by simp only [decide_eq_true_eq]; omega), if_neg (by decide)]
  | m + 1, x, i, h, hb => by
    rw [show k + 1 + (m + 1) = (k + 1 + m) + 1 from rfl]
    conv => lhs; rw [sluicegatelaw06_DevWrites.l3]
    rw [if_pos (decide_eq_true (by omega)), if_pos (by omega), w64_id (by omega) (by omega)]
    exact dw_l3 l ask r3 w j k m _ (i + 1) (by rw [List.length_set]; omega) (by rw [List.length_set]; omega)
theorem dw_l0 {l : List (Int × Int × List Int)} {ask : Nat} (hask : ask < 4294967296) (hl : ∀ x ∈ l, 0 ≤ x.2.1 ∧ x.2.1 < 4294967296 ∧ x.2.2.length ≤ 140737488351232) : ∀ (m i : Nat) (img : List Int) (a b : Int) (w : List UInt8), 61 ≤ m + i → img.length = 9 * 3 → (ask < 9 → w = toS (blk img 3 ask)) →
    Ev (fun k => sluicegatelaw06_DevWrites.l0 k l (ask : Int) 3 img a b w (i : Int)) true
  | m, i, img, a, b, w, hm, hi, hw => by
    by_cases h1 : i < l.length
    · by_cases h2 : i < 60
      · cases m with
        | zero => omega
        | succ m =>
        obtain ⟨p1, p2, p3⟩ := hl (gt l (i : Int)) (by rw [gt_nat]; exact getD_mem h1)
        obtain ⟨q, hq⟩ : ∃ q : Nat, q = (gt l (i : Int)).2.1.toNat := ⟨_, rfl⟩
        have hqe : (gt l (i : Int)).2.1 = (q : Int) := by omega
        have wr := devWrite (n := 3) (N := 9) (i := q) (img := img) (b := (gt l (i : Int)).2.2) (s := (a, b)) (by omega) (by omega) hi (by omega) (by omega)
        have go : ∀ (img' : List Int) (a' b' : Int) (w' : List UInt8), img'.length = 9 * 3 → (ask < 9 → w' = toS (blk img' 3 ask)) → ∃ K, ∀ k, K ≤ k → ((dev_Device_Read.f (((3 : Nat) : Int), img', (a', b')) (ask : Int)).bind fun r4 => (if (decide (9 ≤ (ask : Int))) = true then (if (!decide (r4.2.1 = 4)) = true then (some false) else (if (decide (0 < (r4.1.length : Int))) = true then (some false) else (sluicegatelaw06_DevWrites.l0 k l (ask : Int) r4.2.2.1 r4.2.2.2.1 r4.2.2.2.2.1 r4.2.2.2.2.2 w' (w64 ((i : Int) + 1))))) else (if (!decide (r4.2.1 = 0)) = true then (some false) else (if (!decide ((toS r4.1) = w')) = true then (some false) else (if 0 < (r4.1.length : Int) then (sluicegatelaw06_DevWrites.l0 k l (ask : Int) r4.2.2.1 r4.2.2.2.1 r4.2.2.2.2.1 r4.2.2.2.2.2 w' (w64 ((i : Int) + 1))) else none))))) = some true := fun img' a' b' w' h' hw' => by
          have rd := devRead (n := 3) (N := 9) (i := ask) (img := img') (s := (a', b')) (by omega) (by omega) h' (by omega) hask
          by_cases h9 : 9 ≤ ask
          · obtain ⟨K, hK⟩ := dw_l0 hask hl m (i + 1) img' a' b' w' (by omega) h' hw'
            refine ⟨K, fun k hk => ?_⟩
            rw [rd, if_pos h9, Option.bind_some, if_pos (decide_eq_true (by omega)), if_neg (by simp), if_neg (by simp), w64_id (by omega) (by omega)]
            exact hK k hk
          · obtain ⟨K, hK⟩ := dw_l0 hask hl m (i + 1) img' (IntKind.u64.wrap (a' + 1)) b' w' (by omega) h' hw'
            refine ⟨K, fun k hk => ?_⟩
            have := hw' (by omega)
            have bl := blk_length (i := ask) h' (by omega)
            rw [rd, if_neg h9, Option.bind_some, if_neg (by simp only [decide_eq_true_eq]; omega), if_neg (by simp), if_neg (by simp [this]), if_pos (by dsimp only; omega), w64_id (by omega) (by omega)]
            exact hK k hk
        obtain ⟨B, hB⟩ : ∃ B, B = (gt l (i : Int)).2.2 := ⟨_, rfl⟩
        rw [← hB] at wr p3
        have nb : (([] : List Int) ++ B).length = 0 + B.length := by simp
        have loop : ∀ (e : Int) (img' : List Int) (a' b' : Int), dev_Device_Write.f ((3 : Int), img, (a, b)) (q : Int) B = some (e, ((3 : Int), img', (a', b'))) → img'.length = 9 * 3 → (ask < 9 → (if e = 0 ∧ (q : Int) = (ask : Int) then toS B else w) = toS (blk img' 3 ask)) →
            Ev (fun k => sluicegatelaw06_DevWrites.l0 k l (ask : Int) 3 img a b w (i : Int)) true := fun e img' a' b' he h' hw' => by
          obtain ⟨K, hK⟩ := go img' a' b' _ h' hw'
          refine ⟨K + 2 + B.length, fun k hk => ?_⟩
          obtain ⟨k', rfl⟩ : ∃ k', k = k' + 1 + B.length + 1 := ⟨k - 2 - B.length, by omega⟩
          show sluicegatelaw06_DevWrites.l0 (k' + 1 + B.length + 1) l (ask : Int) 3 img a b w (i : Int) = some true
          rw [sluicegatelaw06_DevWrites.l0, if_pos (decide_eq_true (by omega)), if_pos (decide_eq_true (by omega)), if_pos (by omega), ← hB, if_pos (by rw [List.length_nil]; omega), hqe]
          rw [show ([] : List Int) ++ B = B from rfl, he, Option.bind_some]
          have hKk := hK k' (by omega)
          by_cases e0 : e = 0
          · rw [if_pos (decide_eq_true e0)]
            by_cases eq : (q : Int) = (ask : Int)
            · rw [if_pos (decide_eq_true eq), show sluicegatelaw06_DevWrites.l1 (k' + 1 + B.length) l (ask : Int) _ (i : Int) B 0 = _ from dw_l1 l _ _ _ k' B.length B 0 (by omega) p3]
              rw [if_pos ⟨e0, eq⟩] at hKk
              rw [sluicegatelaw06_DevWrites.l1, if_neg (by decide), ← hB]
              exact hKk
            · rw [if_neg (by simpa using eq), show sluicegatelaw06_DevWrites.l2 (k' + 1 + B.length) l (ask : Int) _ _ (i : Int) B 0 = _ from dw_l2 l _ _ _ _ k' B.length B 0 (by omega) p3]
              rw [if_neg (fun z => eq z.2)] at hKk
              rw [sluicegatelaw06_DevWrites.l2, if_neg (by decide)]
              exact hKk
          · rw [if_neg (by simpa using e0), show sluicegatelaw06_DevWrites.l3 (k' + 1 + B.length) l (ask : Int) _ _ (i : Int) B 0 = _ from dw_l3 l _ _ _ _ k' B.length B 0 (by omega) p3]
            rw [if_neg (fun z => e0 z.1)] at hKk
            rw [sluicegatelaw06_DevWrites.l3, if_neg (by decide)]
            exact hKk
        by_cases c1 : 9 ≤ q
        · rw [if_pos c1] at wr
          exact loop 4 img a b wr hi fun z => by rw [if_neg (fun x => absurd x.1 (by decide))]; exact hw z
        · by_cases c2 : B.length = 3
          · rw [if_neg c1, if_pos c2] at wr
            refine loop 0 _ _ _ wr (patch_len hi (by omega)) fun z => ?_
            rw [blk_patch hi (by omega) c2 ask z]
            by_cases eq : (q : Int) = (ask : Int)
            · rw [if_pos ⟨rfl, eq⟩, if_pos (by omega)]
            · rw [if_neg (fun x => eq x.2), if_neg (by omega)]
              exact hw z
          · rw [if_neg c1, if_neg c2] at wr
            exact loop 3 img a b wr hi fun z => by rw [if_neg (fun x => absurd x.1 (by decide))]; exact hw z
      · refine Ev.last fun k => ?_
        rw [sluicegatelaw06_DevWrites.l0, if_pos (decide_eq_true (by omega)), if_neg (by simp only [decide_eq_true_eq]; omega), awake06_pure]
        rfl
    · refine Ev.last fun k => ?_
      rw [sluicegatelaw06_DevWrites.l0, if_neg (by simp only [decide_eq_true_eq]; omega), awake06_pure]
      rfl
theorem DevWrites_pure (l : List (Int × Int × List Int)) (ask : Int) (hl : Ty.fit (bytesIn tt) (.slice 30 (.pair (.int .i64) (.pair (.int .u32) (.slice 5 (.int .u8))))) l) (ha : Ty.fit (bytesIn tt) (.int .u32) ask) : ∃ k, sluicegatelaw06_DevWrites.f k l ask = some true := by
  have h : (Lit.int .u32 ask).wf = true := ha
  simp [Lit.wf, IntKind.min, IntKind.max, IntKind.signed, IntKind.bits] at h
  obtain ⟨a, rfl⟩ := Int.eq_ofNat_of_zero_le (show 0 ≤ ask by omega)
  obtain ⟨k, hk⟩ := (dw_l0 (l := l) (ask := a) (by omega) (fun x hx => actFit hl hx) 61 0 (List.replicate 27 0) 0 0 (toS (List.replicate 3 0)) (by omega) (by simp) (fun h => by
    have : ∀ a < 9, toS (List.replicate 3 0) = toS (blk (List.replicate 27 0) 3 a) := by decide
    exact this a h)).ok
  exact ⟨k, hk⟩
end Go.SK.T
