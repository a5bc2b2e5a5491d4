/- The plain law behind DevPlays: what its code computes is true for all numbers and calls. -/
import Derived.Test.YtoemkinhdomnpaaXDevPlaysF1
set_option linter.unusedVariables false
set_option linter.unusedSimpArgs false
namespace Go.SK.T
open Go Go.SK
abbrev Dv := Int × List Int × (Int × Int)
/-- a block's bytes -/
def blk (img : List Int) (n i : Nat) : List Int := (img.drop (i * n)).take n
theorem blk_in {N n i : Nat} (h : i < N) : i * n + n ≤ N * n := by
  have := Nat.mul_le_mul_right n h
  rw [Nat.succ_mul] at this
  exact this
theorem blk_length {img : List Int} {N n i : Nat} (hl : img.length = N * n) (h : i < N) : (blk img n i).length = n := by
  have := blk_in (n := n) h
  unfold blk
  rw [List.length_take, List.length_drop]
  omega
theorem blk_patch {img b : List Int} {N n i : Nat} (hl : img.length = N * n) (h : i < N) (hb : b.length = n) (j : Nat) (hj : j < N) : blk (patch img (i * n) n b) n j = if j = i then b else blk img n j := by
  have h1 := blk_in (n := n) h
  have h2 := blk_in (n := n) hj
  have e0 : (img.take (i * n)).length = i * n := by rw [List.length_take]; omega
  unfold blk patch
  rw [List.take_of_length_le (i := n) (l := b) (by omega), show i * n + min n b.length = i * n + n from by omega]
  by_cases e : j = i
  · subst e
    rw [if_pos rfl, List.append_assoc, List.drop_append_of_le_length (by omega), List.drop_of_length_le (by omega), List.nil_append, List.take_append_of_le_length (by omega), List.take_of_length_le (by omega)]
  · rw [if_neg e]
    by_cases lt : j < i
    · have h3 := Nat.mul_le_mul_right n (show j + 1 ≤ i from lt)
      rw [Nat.succ_mul] at h3
      rw [List.append_assoc, List.drop_append_of_le_length (by omega), List.take_append_of_le_length (by rw [List.length_drop]; omega), List.drop_take, List.take_take]
      congr 1
      omega
    · have h3 := Nat.mul_le_mul_right n (show i + 1 ≤ j from by omega)
      rw [Nat.succ_mul] at h3
      rw [List.drop_append, List.drop_of_length_le (by rw [List.length_append]; omega), List.nil_append, List.drop_drop]
      congr 2
      rw [List.length_append, e0]
      omega
theorem patch_len {img b : List Int} {N n i : Nat} (hl : img.length = N * n) (h : i < N) : (patch img (i * n) n b).length = N * n := by
  have := blk_in (n := n) h
  rw [patch_length (by omega), hl]
theorem devBlocks {N n : Nat} {img : List Int} {s : Int × Int} (hn : 1 ≤ n) (hl : img.length = N * n) (hb : N * n ≤ 4294967296) : dev_Device_Blocks.f ((n : Int), img, s) = some (N : Int) := by
  have hN : N ≤ 4294967296 := Nat.le_trans (Nat.le_mul_of_pos_right N hn) hb
  have e : Int.tdiv (img.length : Int) (n : Int) = N := by
    rw [hl, Int.natCast_mul]
    exact Int.mul_tdiv_cancel _ (by omega)
  unfold dev_Device_Blocks.f
  dsimp only
  rw [if_neg (by simp only [decide_eq_true_eq]; omega), if_pos (by omega), e, w64_id (by omega) (by omega)]
theorem devAt {n i N : Nat} (hb : N * n ≤ 4294967296) (hn : 1 ≤ n) (h : i < N) : w64 (i : Int) = i ∧ w64 ((i : Int) * (n : Int)) = ((i * n : Nat) : Int) ∧ w64 (((i * n : Nat) : Int) + (n : Int)) = ((i * n + n : Nat) : Int) := by
  have h1 := blk_in (n := n) h
  have h2 : i ≤ i * n := Nat.le_mul_of_pos_right i hn
  refine ⟨w64_id (by omega) (by omega), ?_, ?_⟩
  · rw [← Int.natCast_mul]
    exact w64_id (by omega) (by omega)
  · rw [w64_id (by omega) (by omega)]
    rfl
theorem devWrite {N n i : Nat} {img b : List Int} {s : Int × Int} (hn : 1 ≤ n) (hN : 1 ≤ N) (hl : img.length = N * n) (hb : N * n ≤ 4294967296) (hi : i < 4294967296) :
    dev_Device_Write.f ((n : Int), img, s) (i : Int) b = some (if N ≤ i then (4, ((n : Int), img, s)) else if b.length = n then (0, ((n : Int), patch img (i * n) n b, s.1, IntKind.u64.wrap (s.2 + 1))) else (3, ((n : Int), img, s))) := by
  have e := devBlocks (s := (s.1, s.2)) hn hl hb
  unfold dev_Device_Write.f
  dsimp only
  rw [e, Option.bind_some, if_neg (by simp only [decide_eq_true_eq]; omega), Option.bind_some]
  by_cases h : N ≤ i
  · rw [w64_id (x := (i : Int)) (by omega) (by omega), if_pos (decide_eq_true (by omega)), if_pos h]
  · obtain ⟨a1, a2, a3⟩ := devAt hb hn (show i < N from by omega)
    have h1 := blk_in (n := n) (show i < N from by omega)
    rw [a1, a2, a3, if_neg (by simp only [decide_eq_true_eq]; omega), if_pos (by omega), if_neg h]
    by_cases hq : b.length = n
    · rw [if_neg (by simp only [Bool.not_eq_true', decide_eq_false_iff_not]; omega), if_pos hq]
      simp only [Int.toNat_natCast]
      rw [List.length_take, List.length_drop, show min (i * n + n - i * n) (img.length - i * n) = n from by omega]
    · rw [if_pos (by simp only [Bool.not_eq_true', decide_eq_false_iff_not]; omega), if_neg hq]
theorem clone_byte {l : List Int} (h : l.length ≤ 140737488355328) : slices_Clone_byte_byte.f l = some l := by
  unfold slices_Clone_byte_byte.f
  rw [if_pos (by simpa using h)]
  rfl
theorem devRead {N n i : Nat} {img : List Int} {s : Int × Int} (hn : 1 ≤ n) (hN : 1 ≤ N) (hl : img.length = N * n) (hb : N * n ≤ 4294967296) (hi : i < 4294967296) :
    dev_Device_Read.f ((n : Int), img, s) (i : Int) = some (if N ≤ i then ([], 4, ((n : Int), img, s)) else (blk img n i, 0, ((n : Int), img, IntKind.u64.wrap (s.1 + 1), s.2))) := by
  have e := devBlocks (s := (s.1, s.2)) hn hl hb
  unfold dev_Device_Read.f
  dsimp only
  rw [e, Option.bind_some, if_neg (by simp only [decide_eq_true_eq]; omega), Option.bind_some]
  by_cases h : N ≤ i
  · rw [w64_id (x := (i : Int)) (by omega) (by omega), if_pos (decide_eq_true (by omega)), if_pos h]
  · obtain ⟨a1, a2, a3⟩ := devAt hb hn (show i < N from by omega)
    have h1 := blk_in (n := n) (show i < N from by omega)
    rw [a1, a2, a3, if_neg (by simp only [decide_eq_true_eq]; omega), if_pos (by omega), if_neg h]
    simp only [Int.toNat_natCast]
    have hbl : (blk img n i).length = n := blk_length hl (by omega)
    have : (img.drop (i * n)).take (i * n + n - i * n) = blk img n i := by unfold blk; congr 1; omega
    have hnb : n ≤ N * n := Nat.le_mul_of_pos_left n hN
    rw [this, clone_byte (by omega), Option.bind_some]
theorem awake06_pure : sluicegatelaw06_awake.f = some true := by rfl
theorem toS_append (a b : List Int) : toS (a ++ b) = toS a ++ toS b := by simp [toS]
theorem toS_length (a : List Int) : (toS a).length = a.length := by simp [toS]
/-- the blocks as texts -/
def Lb (img : List Int) (N n : Nat) : List (List UInt8) := (List.range N).map fun i => toS (blk img n i)
theorem Lb_length (img : List Int) (N n : Nat) : (Lb img N n).length = N := by simp [Lb]
theorem Lb_get {img : List Int} {N n i : Nat} (h : i < N) : (Lb img N n).getD i default = toS (blk img n i) := by
  rw [List.getD_eq_getElem?_getD]
  simp [Lb, h]
theorem Lb_set {img b : List Int} {N n i : Nat} (hl : img.length = N * n) (h : i < N) (hb : b.length = n) : (Lb img N n).set i (toS b) = Lb (patch img (i * n) n b) N n := by
  apply List.ext_getElem?
  intro j
  by_cases hj : j < N
  · rw [List.getElem?_set]
    simp only [Lb, List.getElem?_map, List.length_map, List.length_range, List.getElem?_range hj, Option.map_some, h, if_true]
    rw [blk_patch hl h hb j hj]
    by_cases e : i = j
    · rw [if_pos e, if_pos e.symm]
    · rw [if_neg e, if_neg (fun z => e z.symm)]
  · rw [List.getElem?_eq_none (by rw [List.length_set, Lb_length]; omega), List.getElem?_eq_none (by rw [Lb_length]; omega)]
theorem Lb_flat' (img : List Int) (n : Nat) : ∀ N, N * n ≤ img.length → (Lb img N n).flatten = toS (img.take (N * n))
  | 0, _ => by simp [Lb, toS]
  | N + 1, h => by
    rw [Nat.succ_mul] at h ⊢
    have ih := Lb_flat' img n N (by omega)
    unfold Lb at ih ⊢
    rw [List.range_succ, List.map_append, List.flatten_append, ih, List.take_add, toS_append]
    simp [blk]
theorem Lb_flat {img : List Int} {N n : Nat} (h : img.length = N * n) : (Lb img N n).flatten = toS img := by
  rw [Lb_flat' img n N (by omega), List.take_of_length_le (by omega)]
theorem drop_getD {α : Type} [Inhabited α] {l : List α} {j : Nat} (h : j < l.length) : l.drop j = l.getD j default :: l.drop (j + 1) := by
  rw [List.drop_eq_getElem_cons h, List.getD_eq_getElem?_getD, List.getElem?_eq_getElem h]
  rfl
theorem refImage_l0 {a : Int × List (List UInt8) × Int × Int} (hl : a.2.1.length ≤ 70000) : ∀ (m j k : Nat) (x : List UInt8), a.2.1.length = j + m → m < k → x.length + (a.2.1.drop j).flatten.length ≤ 9223372036854775807 → sluicegateref06_Image.l0 k a x (j : Int) = some (x ++ (a.2.1.drop j).flatten)
  | 0, j, k + 1, x, h, _, hb => by
    rw [sluicegateref06_Image.l0, if_neg (by simp only [decide_eq_true_eq]; omega), List.drop_of_length_le (by omega)]
    simp
  | m + 1, j, k + 1, x, h, hk, hb => by
    have hd := drop_getD (l := a.2.1) (j := j) (by omega)
    rw [hd] at hb ⊢
    rw [List.flatten_cons, List.length_append] at hb
    rw [sluicegateref06_Image.l0, if_pos (decide_eq_true (by omega)), if_pos (by omega), gt_nat, if_pos (by omega), w64_id (by omega) (by omega)]
    rw [show ((j : Int) + 1) = ((j + 1 : Nat) : Int) from rfl, refImage_l0 hl m (j + 1) k _ (by omega) (by omega) (by rw [List.length_append]; omega), List.flatten_cons, List.append_assoc]
theorem refImage {k N n : Nat} {img : List Int} {x y : Int} (hl : img.length = N * n) (hN : N ≤ 65536) (hb : N * n ≤ 4294967296) (hk : N < k) : sluicegateref06_Image.f k ((n : Int), Lb img N n, x, y) = some (toS img) := by
  unfold sluicegateref06_Image.f
  have := refImage_l0 (a := ((n : Int), Lb img N n, x, y)) (by rw [Lb_length]; omega) N 0 k [] (by rw [Lb_length]; omega) hk (by rw [List.drop_zero, Lb_flat hl, toS_length, hl, List.length_nil]; omega)
  rw [show sluicegateref06_Image.l0 k _ [] 0 = _ from this, List.drop_zero, Lb_flat hl]
  rfl
theorem refThere {N n i : Nat} {L : List (List UInt8)} {x y : Int} (h : L.length = N) (hN : N ≤ 65536) (hi : i < 4294967296) : sluicegateref06_there.f ((n : Int), L, x, y) (i : Int) = some (decide (i < N)) := by
  unfold sluicegateref06_there.f
  have w : ∀ z : Nat, z < 4294967296 → IntKind.u64.wrap (z : Int) = z := fun z hz => by
    simp [IntKind.wrap, IntKind.bits, IntKind.signed]
    omega
  dsimp only
  rw [w i hi, w L.length (by omega), h]
  congr 1
  rw [decide_eq_decide]
  omega
theorem refRead {N n i : Nat} {img : List Int} {x y : Int} (hN : N ≤ 65536) (hi : i < 4294967296) : sluicegateref06_Read.f ((n : Int), Lb img N n, x, y) (i : Int) = some (if N ≤ i then (((n : Int), Lb img N n, x, y), [], 4) else (((n : Int), Lb img N n, w64 (x + 1), y), toS (blk img n i), 0)) := by
  unfold sluicegateref06_Read.f
  dsimp only
  rw [refThere (Lb_length img N n) hN hi, Option.bind_some]
  by_cases h : N ≤ i
  · rw [if_pos (by simp; omega), if_pos h]
  · rw [if_neg (by simp; omega), if_neg h, if_pos (by rw [Lb_length]; omega), gt_nat, Lb_get (by omega)]
theorem refWrite {N n i : Nat} {img b : List Int} {x y : Int} (hl : img.length = N * n) (hN : N ≤ 65536) (hi : i < 4294967296) (hb : b.length ≤ 140737488351232) : sluicegateref06_Write.f ((n : Int), Lb img N n, x, y) (i : Int) (toS b) = some (if N ≤ i then (((n : Int), Lb img N n, x, y), 4) else if b.length = n then (((n : Int), Lb (patch img (i * n) n b) N n, x, w64 (y + 1)), 0) else (((n : Int), Lb img N n, x, y), 3)) := by
  unfold sluicegateref06_Write.f
  dsimp only
  rw [refThere (Lb_length img N n) hN hi, Option.bind_some, toS_length]
  by_cases h : N ≤ i
  · rw [if_pos (by simp; omega), if_pos h]
  · rw [if_neg (by simp; omega), if_neg h]
    by_cases e : b.length = n
    · rw [if_neg (by simp; omega), if_pos e, if_pos (by rw [Lb_length, List.length_nil]; omega), if_pos (by rw [List.nil_append, Lb_length]; omega), List.nil_append, Int.toNat_natCast, Lb_set hl (by omega) e]
    · rw [if_pos (by simp; omega), if_neg e]
theorem devImage {n : Int} {img : List Int} {s : Int × Int} (h : img.length ≤ 4294967296) : dev_Device_Image.f (n, img, s) = some img := by
  unfold dev_Device_Image.f
  rw [clone_byte (by dsimp only; omega)]
  rfl
theorem blk_from {N n i : Nat} {img : List Int} (hl : img.length = N * n) (h : i < N) : ((toS img).drop (i * n)).take (i * n + n - i * n) = toS (blk img n i) := by
  unfold toS blk
  rw [List.map_take, List.map_drop]
  congr 1
  omega
def rightD (N n : Nat) : Bool := decide (5 ≤ N ∧ N ≤ 65536 ∧ 1 ≤ n ∧ n ≤ 65536)
theorem devRight (a b : Int) : dev_right.f a b = some (decide (5 ≤ a ∧ a ≤ 65536 ∧ 1 ≤ b ∧ b ≤ 65536)) := by
  unfold dev_right.f
  by_cases h1 : 5 ≤ a <;> by_cases h2 : a ≤ 65536 <;> by_cases h3 : 1 ≤ b <;> simp [h1, h2, h3]
theorem refRight (a b : Int) : sluicegateref06_Right.f a b = some (decide (5 ≤ a ∧ a ≤ 65536 ∧ 1 ≤ b ∧ b ≤ 65536)) := by
  unfold sluicegateref06_Right.f
  by_cases h1 : 5 ≤ a <;> by_cases h2 : a ≤ 65536 <;> by_cases h3 : 1 ≤ b <;> simp [h1, h2, h3]
theorem devFrom {N n : Nat} {img : List Int} (hl : img.length = N * n) (h : 5 ≤ N ∧ N ≤ 65536 ∧ 1 ≤ n ∧ n ≤ 65536) (hb : N * n ≤ 4294967296) : dev_From.f (n : Int) img = some (some ((n : Int), img, (0, 0)), 0) := by
  have e : Int.tdiv (img.length : Int) (n : Int) = N := by
    rw [hl, Int.natCast_mul]
    exact Int.mul_tdiv_cancel _ (by omega)
  have e2 : Int.tmod (img.length : Int) (n : Int) = 0 := by
    rw [hl, Int.natCast_mul]
    exact Int.mul_tmod_left _ _
  unfold dev_From.f
  rw [if_neg (by simp only [decide_eq_true_eq]; omega), if_pos (by omega), e2, if_neg (by simp), e, w64_id (by omega) (by omega), devRight, Option.bind_some, if_neg (by simp; omega), clone_byte (by omega)]
  rfl
theorem actFit {l : List (Int × Int × List Int)} (h : Ty.fit (bytesIn tt) (.slice 30 (.pair (.int .i64) (.pair (.int .u32) (.slice 5 (.int .u8))))) l) {x : Int × Int × List Int} (hx : x ∈ l) : 0 ≤ x.2.1 ∧ x.2.1 < 4294967296 ∧ x.2.2.length ≤ 140737488351232 := by
  obtain ⟨_, h1, h2⟩ := h.2.2 x hx
  have : (Lit.int .u32 x.2.1).wf = true := h1
  simp [Lit.wf, IntKind.min, IntKind.max, IntKind.signed, IntKind.bits] at this
  have e : bytesIn tt 5 = 1 := by rfl
  have := h2.2.1
  rw [e] at this
  exact ⟨by omega, by omega, by simpa using this⟩
theorem refNew_l0 {N n : Nat} (hN : N ≤ 60) : ∀ (m i k : Nat), N = i + m → m < k → sluicegateref06_New.l0 k (N : Int) (n : Int) (List.replicate i (toS (List.replicate n 0))) (i : Int) = some ((n : Int), List.replicate N (toS (List.replicate n 0)), 0, 0)
  | 0, i, k + 1, h, _ => by
    rw [sluicegateref06_New.l0, if_neg (by simp only [decide_eq_true_eq]; omega), show i = N from by omega]
  | m + 1, i, k + 1, h, hk => by
    rw [sluicegateref06_New.l0, if_pos (decide_eq_true (by omega)), if_pos (by rw [List.length_replicate, List.length_singleton]; omega), w64_id (by omega) (by omega), Int.toNat_natCast, ← List.replicate_succ']
    exact refNew_l0 hN m (i + 1) k (by omega) (by omega)
theorem refNew {N n k : Nat} (hN : N ≤ 60) (hn : n ≤ 200) (hk : N < k) : sluicegateref06_New.f k (N : Int) (n : Int) = some ((n : Int), Lb (List.replicate (N * n) 0) N n, 0, 0) := by
  have e : Lb (List.replicate (N * n) 0) N n = List.replicate N (toS (List.replicate n 0)) := by
    apply List.eq_replicate_iff.2
    refine ⟨Lb_length _ _ _, fun b hb => ?_⟩
    obtain ⟨i, hi, rfl⟩ := List.mem_map.1 hb
    have := blk_in (n := n) (List.mem_range.1 hi)
    unfold blk
    rw [List.drop_replicate, List.take_replicate]
    congr 2
    omega
  unfold sluicegateref06_New.f
  rw [if_pos (by omega), e]
  exact refNew_l0 hN N 0 k (by omega) hk
theorem u64_id {z : Int} (h : 0 ≤ z) (h2 : z < 4294967296) : IntKind.u64.wrap z = z := by
  simp [IntKind.wrap, IntKind.bits, IntKind.signed]
  omega
theorem dp_l0 {N n : Nat} {l : List (Int × Int × List Int)} (hN : 5 ≤ N) (hN' : N ≤ 60) (hn : 1 ≤ n) (hn' : n ≤ 200) (hl : ∀ x ∈ l, 0 ≤ x.2.1 ∧ x.2.1 < 4294967296 ∧ x.2.2.length ≤ 140737488351232) : ∀ (m i : Nat) (img : List Int) (a b k : Nat), 41 ≤ m + i → 100 + m < k → img.length = N * n → a + b ≤ i →
    sluicegatelaw06_DevPlays.l0 k (N : Int) (n : Int) l (n : Int) img (a : Int) (b : Int) (n : Int) (Lb img N n) (a : Int) (b : Int) (i : Int) = some true
  | m, i, img, a, b, k + 1, hm, hk, hi, hab => by
    have hNn : N * n ≤ 60 * 200 := Nat.mul_le_mul hN' hn'
    by_cases h1 : i < l.length
    · by_cases h2 : i < 40
      · cases m with
        | zero => omega
        | succ m =>
        obtain ⟨p1, p2, p3⟩ := hl (gt l (i : Int)) (by rw [gt_nat]; exact getD_mem h1)
        obtain ⟨q, hq⟩ : ∃ q : Nat, q = (gt l (i : Int)).2.1.toNat := ⟨_, rfl⟩
        have hqe : (gt l (i : Int)).2.1 = (q : Int) := by omega
        obtain ⟨B, hB⟩ : ∃ B, B = (gt l (i : Int)).2.2 := ⟨_, rfl⟩
        obtain ⟨K, hK⟩ : ∃ K, K = (gt l (i : Int)).1 := ⟨_, rfl⟩
        rw [← hB] at p3
        have hw : w64 ((i : Int) + 1) = ((i + 1 : Nat) : Int) := w64_id (by omega) (by omega)
        have wr := devWrite (n := n) (N := N) (i := q) (img := img) (b := B) (s := ((a : Int), (b : Int))) (by omega) (by omega) hi (by omega) (by omega)
        have wf := refWrite (n := n) (N := N) (i := q) (img := img) (b := B) (x := (a : Int)) (y := (b : Int)) hi (by omega) (by omega) p3
        have rd := devRead (n := n) (N := N) (i := q) (img := img) (s := ((a : Int), (b : Int))) (by omega) (by omega) hi (by omega) (by omega)
        have rf := refRead (n := n) (N := N) (i := q) (img := img) (x := (a : Int)) (y := (b : Int)) (by omega) (by omega)
        have im : ∀ (j : List Int) s, j.length = N * n → dev_Device_Image.f ((n : Int), j, s) = some j := fun j s hj => devImage (by omega)
        have ri : ∀ (j : List Int) (x y : Int), j.length = N * n → sluicegateref06_Image.f k ((n : Int), Lb j N n, x, y) = some (toS j) := fun j x y hj => refImage hj (by omega) (by omega) (by omega)
        have bl : ∀ (j : List Int) s, j.length = N * n → dev_Device_Blocks.f ((n : Int), j, s) = some (N : Int) := fun j s hj => devBlocks (by omega) hj (by omega)
        have ua : IntKind.u64.wrap (a : Int) = a := u64_id (by omega) (by omega)
        have ub : IntKind.u64.wrap (b : Int) = b := u64_id (by omega) (by omega)
        have ua1 : IntKind.u64.wrap ((a : Int) + 1) = ((a + 1 : Nat) : Int) := u64_id (by omega) (by omega)
        have ub1 : IntKind.u64.wrap ((b : Int) + 1) = ((b + 1 : Nat) : Int) := u64_id (by omega) (by omega)
        have wa1 : w64 ((a : Int) + 1) = ((a + 1 : Nat) : Int) := w64_id (by omega) (by omega)
        have wb1 : w64 ((b : Int) + 1) = ((b + 1 : Nat) : Int) := w64_id (by omega) (by omega)
        have ua2 : IntKind.u64.wrap ((a + 1 : Nat) : Int) = ((a + 1 : Nat) : Int) := u64_id (by omega) (by omega)
        have ub2 : IntKind.u64.wrap ((b + 1 : Nat) : Int) = ((b + 1 : Nat) : Int) := u64_id (by omega) (by omega)
        have same := dp_l0 hN hN' hn hn' hl m (i + 1) img a b k (by omega) (by omega) hi (by omega)
        have read := dp_l0 hN hN' hn hn' hl m (i + 1) img (a + 1) b k (by omega) (by omega) hi (by omega)
        rw [sluicegatelaw06_DevPlays.l0, if_pos (decide_eq_true (by omega)), if_pos (decide_eq_true (by omega)), if_pos (by omega), hqe, ← hB, ← hK, hw, wr, wf, rd, rf]
        simp only [Option.bind_some, dev_Device_Stats.f, dev_Device_Bytes.f]
        have write : ∀ (h : q < N), B.length = n → sluicegatelaw06_DevPlays.l0 k (N : Int) (n : Int) l (n : Int) (patch img (q * n) n B) (a : Int) ((b + 1 : Nat) : Int) (n : Int) (Lb (patch img (q * n) n B) N n) (a : Int) ((b + 1 : Nat) : Int) ((i + 1 : Nat) : Int) = some true := fun h _ =>
          dp_l0 hN hN' hn hn' hl m (i + 1) (patch img (q * n) n B) a (b + 1) k (by omega) (by omega) (patch_len hi h) (by omega)
        have none3 : dev_From.f (n : Int) img = some (some ((n : Int), img, (0, 0)), 0) := devFrom hi (by omega) (by omega)
        have made := dp_l0 hN hN' hn hn' hl m (i + 1) img 0 0 k (by omega) (by omega) hi (by omega)
        by_cases c : N ≤ q
        · simp only [if_pos c, im img _ hi, ri img _ _ hi, bl img _ hi, Option.bind_some, ua, ub, none3, ocase, decide_true, Bool.not_true, Bool.and_true, Bool.false_eq_true, if_false, if_true, same, show toS ([] : List Int) = [] from rfl, show (0 : Int) = ((0 : Nat) : Int) from rfl]
          simp only [Int.natCast_zero] at made ⊢
          simp only [Bool.not_eq_true', decide_eq_true_eq]
          simp
          exact fun _ _ _ _ => made
        · by_cases e : B.length = n
          · have hp := patch_len (b := B) hi (show q < N from by omega)
            simp only [if_neg c, if_pos e, im img _ hi, ri img _ _ hi, bl img _ hi, im _ _ hp, ri _ _ _ hp, bl _ _ hp, Option.bind_some, ua, ub, ua1, ub1, wa1, wb1, ua2, ub2, none3, ocase, decide_true, Bool.not_true, Bool.and_true, Bool.false_eq_true, if_false, if_true, same, read, write (by omega) e]
            simp only [Int.natCast_zero] at made ⊢
            simp only [Bool.not_eq_true', decide_eq_true_eq]
            simp
            exact fun _ _ _ _ => made
          · simp only [if_neg c, if_neg e, im img _ hi, ri img _ _ hi, bl img _ hi, Option.bind_some, ua, ub, ua1, ub1, wa1, wb1, ua2, ub2, none3, ocase, decide_true, Bool.not_true, Bool.and_true, Bool.false_eq_true, if_false, if_true, same, read]
            simp only [Int.natCast_zero] at made ⊢
            simp only [Bool.not_eq_true', decide_eq_true_eq]
            simp
            exact fun _ _ _ _ => made
      · rw [sluicegatelaw06_DevPlays.l0, if_pos (decide_eq_true (by omega)), if_neg (by simp only [decide_eq_true_eq]; omega), awake06_pure]
        rfl
    · rw [sluicegatelaw06_DevPlays.l0, if_neg (by simp only [decide_eq_true_eq]; omega), awake06_pure]
      rfl
theorem DevPlays_pure {p q : Prop} (N n : Int) (l : List (Int × Int × List Int)) (_ : p) (_ : q) (hl : Ty.fit (bytesIn tt) (.slice 30 (.pair (.int .i64) (.pair (.int .u32) (.slice 5 (.int .u8))))) l) : ∃ k, sluicegatelaw06_DevPlays.f k N n l = some true := by
  refine ⟨1000, ?_⟩
  unfold sluicegatelaw06_DevPlays.f
  rw [awake06_pure, refRight, Option.bind_some]
  by_cases h : 5 ≤ N ∧ N ≤ 65536 ∧ 1 ≤ n ∧ n ≤ 65536
  · rw [if_pos (decide_eq_true h)]
    by_cases hL : N ≤ 60 ∧ n ≤ 200
    · have e : sluicegatelaw06_light.f N n = some true := by
        unfold sluicegatelaw06_light.f
        rw [if_pos (decide_eq_true hL.1), decide_eq_true hL.2]
      obtain ⟨N, rfl⟩ := Int.eq_ofNat_of_zero_le (show 0 ≤ N by omega)
      obtain ⟨n, rfl⟩ := Int.eq_ofNat_of_zero_le (show 0 ≤ n by omega)
      have hNn : N * n ≤ 60 * 200 := Nat.mul_le_mul (by omega) (by omega)
      have nw : dev_New.f (N : Int) (n : Int) = some (some ((n : Int), List.replicate (N * n) 0, (0, 0)), 0) := by
        unfold dev_New.f
        rw [devRight, decide_eq_true h, Option.bind_some, if_neg (by decide), ← Int.natCast_mul, w64_id (by omega) (by omega), if_pos (by omega), Int.toNat_natCast]
      rw [e, Option.bind_some, if_neg (by decide), nw, Option.bind_some]
      dsimp only [ocase]
      rw [decide_eq_true h, Option.bind_some, if_neg (by decide), if_neg (by simp), refNew (by omega) (by omega) (by omega), Option.bind_some]
      exact dp_l0 (by omega) (by omega) (by omega) (by omega) (fun x hx => actFit hl hx) 41 0 _ 0 0 1000 (by omega) (by omega) (by simp) (by omega)
    · have e : sluicegatelaw06_light.f N n = some false := by
        unfold sluicegatelaw06_light.f
        by_cases c : N ≤ 60
        · rw [if_pos (decide_eq_true c), decide_eq_false (fun z => hL ⟨c, z⟩)]
        · rw [if_neg (by simpa using c)]
      rw [e, Option.bind_some, if_pos (by decide)]
      rfl
  · have nw : dev_New.f N n = some (none, 2) := by
      unfold dev_New.f
      rw [devRight, decide_eq_false h, Option.bind_some, if_pos (by decide)]
    rw [decide_eq_false h, if_neg (by decide), nw, Option.bind_some]
    dsimp only [ocase]
    rw [Option.bind_some, if_pos (by decide)]
    rfl
end Go.SK.T
