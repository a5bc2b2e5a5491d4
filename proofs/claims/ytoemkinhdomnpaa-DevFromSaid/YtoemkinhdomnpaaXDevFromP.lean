/- The plain law behind DevFrom: what its code computes is true for all numbers, images and blocks. -/
import Derived.Test.YtoemkinhdomnpaaXDevFromF0
set_option linter.unusedVariables false
set_option linter.unusedSimpArgs false
namespace Go.SK.T
open Go Go.SK
abbrev Dv := Int × List Int × (Int × Int)
/-- a block's bytes -/
def blk (img : List Int) (n i : Nat) : List Int := (img.drop (i * n)).take n
theorem blk_in {N n i : Nat} (h : i < N) : i * n + n ≤ N * n := by
  have := Nat.mul_le_mul_right n h
  rw [Nat.succ_mul] at this
  exact this
theorem blk_length {img : List Int} {N n i : Nat} (hl : img.length = N * n) (h : i < N) : (blk img n i).length = n := by
  have := blk_in (n := n) h
  unfold blk
  rw [List.length_take, List.length_drop]
  omega
theorem blk_patch {img b : List Int} {N n i : Nat} (hl : img.length = N * n) (h : i < N) (hb : b.length = n) (j : Nat) (hj : j < N) : blk (patch img (i * n) n b) n j = if j = i then b else blk img n j := by
  have h1 := blk_in (n := n) h
  have h2 := blk_in (n := n) hj
  have e0 : (img.take (i * n)).length = i * n := by rw [List.length_take]; omega
  unfold blk patch
  rw [List.take_of_length_le (i := n) (l := b) (by omega), show i * n + min n b.length = i * n + n from by omega]
  by_cases e : j = i
  · subst e
    rw [if_pos rfl, List.append_assoc, List.drop_append_of_le_length (by omega), List.drop_of_length_le (by omega), List.nil_append, List.take_append_of_le_length (by omega), List.take_of_length_le (by omega)]
  · rw [if_neg e]
    by_cases lt : j < i
    · have h3 := Nat.mul_le_mul_right n (show j + 1 ≤ i from lt)
      rw [Nat.succ_mul] at h3
      rw [List.append_assoc, List.drop_append_of_le_length (by omega), List.take_append_of_le_length (by rw [List.length_drop]; omega), List.drop_take, List.take_take]
      congr 1
      omega
    · have h3 := Nat.mul_le_mul_right n (show i + 1 ≤ j from by omega)
      rw [Nat.succ_mul] at h3
      rw [List.drop_append, List.drop_of_length_le (by rw [List.length_append]; omega), List.nil_append, List.drop_drop]
      congr 2
      rw [List.length_append, e0]
      omega
theorem patch_len {img b : List Int} {N n i : Nat} (hl : img.length = N * n) (h : i < N) : (patch img (i * n) n b).length = N * n := by
  have := blk_in (n := n) h
  rw [patch_length (by omega), hl]
theorem devBlocks {N n : Nat} {img : List Int} {s : Int × Int} (hn : 1 ≤ n) (hl : img.length = N * n) (hb : N * n ≤ 4294967296) : dev_Device_Blocks.f ((n : Int), img, s) = some (N : Int) := by
  have hN : N ≤ 4294967296 := Nat.le_trans (Nat.le_mul_of_pos_right N hn) hb
  have e : Int.tdiv (img.length : Int) (n : Int) = N := by
    rw [hl, Int.natCast_mul]
    exact Int.mul_tdiv_cancel _ (by omega)
  unfold dev_Device_Blocks.f
  dsimp only
  rw [if_neg (by simp only [decide_eq_true_eq]; omega), if_pos (by omega), e, w64_id (by omega) (by omega)]
theorem devAt {n i N : Nat} (hb : N * n ≤ 4294967296) (hn : 1 ≤ n) (h : i < N) : w64 (i : Int) = i ∧ w64 ((i : Int) * (n : Int)) = ((i * n : Nat) : Int) ∧ w64 (((i * n : Nat) : Int) + (n : Int)) = ((i * n + n : Nat) : Int) := by
  have h1 := blk_in (n := n) h
  have h2 : i ≤ i * n := Nat.le_mul_of_pos_right i hn
  refine ⟨w64_id (by omega) (by omega), ?_, ?_⟩
  · rw [← Int.natCast_mul]
    exact w64_id (by omega) (by omega)
  · rw [w64_id (by omega) (by omega)]
    rfl
theorem devWrite {N n i : Nat} {img b : List Int} {s : Int × Int} (hn : 1 ≤ n) (hN : 1 ≤ N) (hl : img.length = N * n) (hb : N * n ≤ 4294967296) (hi : i < 4294967296) :
    dev_Device_Write.f ((n : Int), img, s) (i : Int) b = some (if N ≤ i then (4, ((n : Int), img, s)) else if b.length = n then (0, ((n : Int), patch img (i * n) n b, s.1, IntKind.u64.wrap (s.2 + 1))) else (3, ((n : Int), img, s))) := by
  have e := devBlocks (s := (s.1, s.2)) hn hl hb
  unfold dev_Device_Write.f
  dsimp only
  rw [e, Option.bind_some, if_neg (by simp only [decide_eq_true_eq]; omega), Option.bind_some]
  by_cases h : N ≤ i
  · rw [w64_id (x := (i : Int)) (by omega) (by omega), if_pos (decide_eq_true (by omega)), if_pos h]
  · obtain ⟨a1, a2, a3⟩ := devAt hb hn (show i < N from by omega)
    have h1 := blk_in (n := n) (show i < N from by omega)
    rw [a1, a2, a3, if_neg (by simp only [decide_eq_true_eq]; omega), if_pos (by omega), if_neg h]
    by_cases hq : b.length = n
    · rw [if_neg (by simp only [Bool.not_eq_true', decide_eq_false_iff_not]; omega), if_pos hq]
      simp only [Int.toNat_natCast]
      rw [List.length_take, List.length_drop, show min (i * n + n - i * n) (img.length - i * n) = n from by omega]
    · rw [if_pos (by simp only [Bool.not_eq_true', decide_eq_false_iff_not]; omega), if_neg hq]
theorem clone_byte {l : List Int} (h : l.length ≤ 140737488355328) : slices_Clone_byte_byte.f l = some l := by
  unfold slices_Clone_byte_byte.f
  rw [if_pos (by simpa using h)]
  rfl
theorem devRead {N n i : Nat} {img : List Int} {s : Int × Int} (hn : 1 ≤ n) (hN : 1 ≤ N) (hl : img.length = N * n) (hb : N * n ≤ 4294967296) (hi : i < 4294967296) :
    dev_Device_Read.f ((n : Int), img, s) (i : Int) = some (if N ≤ i then ([], 4, ((n : Int), img, s)) else (blk img n i, 0, ((n : Int), img, IntKind.u64.wrap (s.1 + 1), s.2))) := by
  have e := devBlocks (s := (s.1, s.2)) hn hl hb
  unfold dev_Device_Read.f
  dsimp only
  rw [e, Option.bind_some, if_neg (by simp only [decide_eq_true_eq]; omega), Option.bind_some]
  by_cases h : N ≤ i
  · rw [w64_id (x := (i : Int)) (by omega) (by omega), if_pos (decide_eq_true (by omega)), if_pos h]
  · obtain ⟨a1, a2, a3⟩ := devAt hb hn (show i < N from by omega)
    have h1 := blk_in (n := n) (show i < N from by omega)
    rw [a1, a2, a3, if_neg (by simp only [decide_eq_true_eq]; omega), if_pos (by omega), if_neg h]
    simp only [Int.toNat_natCast]
    have hbl : (blk img n i).length = n := blk_length hl (by omega)
    have : (img.drop (i * n)).take (i * n + n - i * n) = blk img n i := by unfold blk; congr 1; omega
    have hnb : n ≤ N * n := Nat.le_mul_of_pos_left n hN
    rw [this, clone_byte (by omega), Option.bind_some]
theorem awake06_pure : sluicegatelaw06_awake.f = some true := by rfl
theorem toS_append (a b : List Int) : toS (a ++ b) = toS a ++ toS b := by simp [toS]
theorem toS_length (a : List Int) : (toS a).length = a.length := by simp [toS]
/-- the blocks as texts -/
def Lb (img : List Int) (N n : Nat) : List (List UInt8) := (List.range N).map fun i => toS (blk img n i)
theorem Lb_length (img : List Int) (N n : Nat) : (Lb img N n).length = N := by simp [Lb]
theorem Lb_get {img : List Int} {N n i : Nat} (h : i < N) : (Lb img N n).getD i default = toS (blk img n i) := by
  rw [List.getD_eq_getElem?_getD]
  simp [Lb, h]
theorem Lb_set {img b : List Int} {N n i : Nat} (hl : img.length = N * n) (h : i < N) (hb : b.length = n) : (Lb img N n).set i (toS b) = Lb (patch img (i * n) n b) N n := by
  apply List.ext_getElem?
  intro j
  by_cases hj : j < N
  · rw [List.getElem?_set]
    simp only [Lb, List.getElem?_map, List.length_map, List.length_range, List.getElem?_range hj, Option.map_some, h, if_true]
    rw [blk_patch hl h hb j hj]
    by_cases e : i = j
    · rw [if_pos e, if_pos e.symm]
    · rw [if_neg e, if_neg (fun z => e z.symm)]
  · rw [List.getElem?_eq_none (by rw [List.length_set, Lb_length]; omega), List.getElem?_eq_none (by rw [Lb_length]; omega)]
theorem Lb_flat' (img : List Int) (n : Nat) : ∀ N, N * n ≤ img.length → (Lb img N n).flatten = toS (img.take (N * n))
  | 0, _ => by simp [Lb, toS]
  | N + 1, h => by
    rw [Nat.succ_mul] at h ⊢
    have ih := Lb_flat' img n N (by omega)
    unfold Lb at ih ⊢
    rw [List.range_succ, List.map_append, List.flatten_append, ih, List.take_add, toS_append]
    simp [blk]
theorem Lb_flat {img : List Int} {N n : Nat} (h : img.length = N * n) : (Lb img N n).flatten = toS img := by
  rw [Lb_flat' img n N (by omega), List.take_of_length_le (by omega)]
theorem drop_getD {α : Type} [Inhabited α] {l : List α} {j : Nat} (h : j < l.length) : l.drop j = l.getD j default :: l.drop (j + 1) := by
  rw [List.drop_eq_getElem_cons h, List.getD_eq_getElem?_getD, List.getElem?_eq_getElem h]
  rfl
theorem refThere {N n i : Nat} {L : List (List UInt8)} {x y : Int} (h : L.length = N) (hN : N ≤ 65536) (hi : i < 4294967296) : sluicegateref06_there.f ((n : Int), L, x, y) (i : Int) = some (decide (i < N)) := by
  unfold sluicegateref06_there.f
  have w : ∀ z : Nat, z < 4294967296 → IntKind.u64.wrap (z : Int) = z := fun z hz => by
    simp [IntKind.wrap, IntKind.bits, IntKind.signed]
    omega
  dsimp only
  rw [w i hi, w L.length (by omega), h]
  congr 1
  rw [decide_eq_decide]
  omega
theorem refRead {N n i : Nat} {img : List Int} {x y : Int} (hN : N ≤ 65536) (hi : i < 4294967296) : sluicegateref06_Read.f ((n : Int), Lb img N n, x, y) (i : Int) = some (if N ≤ i then (((n : Int), Lb img N n, x, y), [], 4) else (((n : Int), Lb img N n, w64 (x + 1), y), toS (blk img n i), 0)) := by
  unfold sluicegateref06_Read.f
  dsimp only
  rw [refThere (Lb_length img N n) hN hi, Option.bind_some]
  by_cases h : N ≤ i
  · rw [if_pos (by simp; omega), if_pos h]
  · rw [if_neg (by simp; omega), if_neg h, if_pos (by rw [Lb_length]; omega), gt_nat, Lb_get (by omega)]
theorem devImage {n : Int} {img : List Int} {s : Int × Int} (h : img.length ≤ 4294967296) : dev_Device_Image.f (n, img, s) = some img := by
  unfold dev_Device_Image.f
  rw [clone_byte (by dsimp only; omega)]
  rfl
theorem blk_from {N n i : Nat} {img : List Int} (hl : img.length = N * n) (h : i < N) : ((toS img).drop (i * n)).take (i * n + n - i * n) = toS (blk img n i) := by
  unfold toS blk
  rw [List.map_take, List.map_drop]
  congr 1
  omega
theorem refFrom_l0 {N n : Nat} {img : List Int} (hn : 1 ≤ n) (hl : img.length = N * n) (hN : N ≤ 65536) (hb : N * n ≤ 4294967296) : ∀ (m i k : Nat), N = i + m → m < k → sluicegateref06_From.l0 k (n : Int) (toS img) ((Lb img N n).take i) ((i * n : Nat) : Int) = some ((n : Int), Lb img N n, 0, 0)
  | 0, i, k + 1, h, _ => by
    rw [sluicegateref06_From.l0, toS_length, hl, show i = N from by omega, if_neg (by simp), List.take_of_length_le (by rw [Lb_length]; omega)]
  | m + 1, i, k + 1, h, hk => by
    have h1 := blk_in (n := n) (show i < N from by omega)
    have w : w64 (((i * n : Nat) : Int) + (n : Int)) = ((i * n + n : Nat) : Int) := by
      rw [w64_id (by omega) (by omega)]
      rfl
    rw [sluicegateref06_From.l0, toS_length, if_pos (decide_eq_true (by omega)), w, if_pos (by omega), if_pos (by rw [List.length_take, Lb_length, List.length_singleton]; omega), Int.toNat_natCast, Int.toNat_natCast, blk_from hl (by omega), ← Lb_get (show i < N from by omega), ← take_get (by rw [Lb_length]; omega), ← Nat.succ_mul]
    exact refFrom_l0 hn hl hN hb m (i + 1) k (by omega) (by omega)
theorem refFrom {N n k : Nat} {img : List Int} (hn : 1 ≤ n) (hl : img.length = N * n) (hN : N ≤ 65536) (hb : N * n ≤ 4294967296) (hk : N < k) : sluicegateref06_From.f k (n : Int) (toS img) = some ((n : Int), Lb img N n, 0, 0) := by
  unfold sluicegateref06_From.f
  have := refFrom_l0 hn hl hN hb N 0 k (by omega) hk
  simpa using this
def rightD (N n : Nat) : Bool := decide (5 ≤ N ∧ N ≤ 65536 ∧ 1 ≤ n ∧ n ≤ 65536)
theorem devRight (a b : Int) : dev_right.f a b = some (decide (5 ≤ a ∧ a ≤ 65536 ∧ 1 ≤ b ∧ b ≤ 65536)) := by
  unfold dev_right.f
  by_cases h1 : 5 ≤ a <;> by_cases h2 : a ≤ 65536 <;> by_cases h3 : 1 ≤ b <;> simp [h1, h2, h3]
theorem refRight (a b : Int) : sluicegateref06_Right.f a b = some (decide (5 ≤ a ∧ a ≤ 65536 ∧ 1 ≤ b ∧ b ≤ 65536)) := by
  unfold sluicegateref06_Right.f
  by_cases h1 : 5 ≤ a <;> by_cases h2 : a ≤ 65536 <;> by_cases h3 : 1 ≤ b <;> simp [h1, h2, h3]
theorem devFrom {N n : Nat} {img : List Int} (hl : img.length = N * n) (h : 5 ≤ N ∧ N ≤ 65536 ∧ 1 ≤ n ∧ n ≤ 65536) (hb : N * n ≤ 4294967296) : dev_From.f (n : Int) img = some (some ((n : Int), img, (0, 0)), 0) := by
  have e : Int.tdiv (img.length : Int) (n : Int) = N := by
    rw [hl, Int.natCast_mul]
    exact Int.mul_tdiv_cancel _ (by omega)
  have e2 : Int.tmod (img.length : Int) (n : Int) = 0 := by
    rw [hl, Int.natCast_mul]
    exact Int.mul_tmod_left _ _
  unfold dev_From.f
  rw [if_neg (by simp only [decide_eq_true_eq]; omega), if_pos (by omega), e2, if_neg (by simp), e, w64_id (by omega) (by omega), devRight, Option.bind_some, if_neg (by simp; omega), clone_byte (by omega)]
  rfl
theorem DevFrom_pure {p : Prop} (n : Int) (img : List Int) (ask : Int) (hn : Ty.fit (bytesIn tt) (.int .i64) n) (_ : p) (ha : Ty.fit (bytesIn tt) (.int .u32) ask) : ∃ k, sluicegatelaw06_DevFrom.f k n img ask = some true := by
  have h : (Lit.int .u32 ask).wf = true := ha
  simp [Lit.wf, IntKind.min, IntKind.max, IntKind.signed, IntKind.bits] at h
  obtain ⟨a, rfl⟩ := Int.eq_ofNat_of_zero_le (show 0 ≤ ask by omega)
  refine ⟨70000, ?_⟩
  unfold sluicegatelaw06_DevFrom.f
  rw [awake06_pure]
  by_cases h0 : 3000 < img.length
  · rw [if_pos (decide_eq_true (by omega))]
    rfl
  · rw [if_neg (by simp only [decide_eq_true_eq]; omega)]
    by_cases h1 : n < 1
    · have : dev_From.f n img = some (none, 2) := by
        unfold dev_From.f
        rw [if_pos (decide_eq_true h1)]
      rw [this, Option.bind_some]
      simp [h1]
    · obtain ⟨n, rfl⟩ := Int.eq_ofNat_of_zero_le (show 0 ≤ n by omega)
      have d1 : ¬ decide ((n : Int) < 1) = true := by simpa using h1
      have d2 : (0 : Int) < (n : Int) := by omega
      by_cases h2 : Int.tmod (img.length : Int) (n : Int) = 0
      · have d3 : ¬ (!decide (Int.tmod (img.length : Int) (n : Int) = 0)) = true := by simp [h2]
        obtain ⟨N, hN⟩ : ∃ N : Nat, img.length = N * n := by
          have : (n : Int) ∣ (img.length : Int) := Int.dvd_of_tmod_eq_zero h2
          obtain ⟨N, hN⟩ := Int.natCast_dvd_natCast.1 this
          exact ⟨N, by rw [hN, Nat.mul_comm]⟩
        have hNn : N ≤ N * n := Nat.le_mul_of_pos_right N (by omega)
        have e : Int.tdiv (img.length : Int) (n : Int) = N := by
          rw [hN, Int.natCast_mul]
          exact Int.mul_tdiv_cancel _ (by omega)
        by_cases h3 : 5 ≤ (N : Int) ∧ (N : Int) ≤ 65536 ∧ 1 ≤ (n : Int) ∧ (n : Int) ≤ 65536
        · have hf := devFrom (N := N) (n := n) hN (by omega) (by omega)
          have ra := refFrom (N := N) (n := n) (k := 70000) (by omega) hN (by omega) (by omega) (by omega)
          have rd := refRead (N := N) (n := n) (i := a) (img := img) (x := 0) (y := 0) (by omega) (by omega)
          have dd := devRead (N := N) (n := n) (i := a) (img := img) (s := (0, 0)) (by omega) (by omega) hN (by omega) (by omega)
          have im : ∀ s, dev_Device_Image.f ((n : Int), img, s) = some img := fun s => devImage (by omega)
          have bl : ∀ s, dev_Device_Blocks.f ((n : Int), img, s) = some (N : Int) := fun s => devBlocks (by omega) hN (by omega)
          have wm : w64 ((N : Int) * (n : Int)) = (img.length : Int) := by
            rw [hN, Int.natCast_mul]
            exact w64_id (by rw [← Int.natCast_mul]; omega) (by rw [← Int.natCast_mul]; omega)
          rw [hf, Option.bind_some]
          dsimp only [ocase]
          rw [if_neg d1, if_pos d2, if_neg d3, e, w64_id (by omega) (by omega), refRight, Option.bind_some, if_neg (by simpa using h3), if_neg (by simp), ra, Option.bind_some, rd, Option.bind_some, dd, Option.bind_some]
          by_cases c : N ≤ a
          · simp only [if_pos c, im, bl, Option.bind_some, wm]
            rfl
          · simp only [if_neg c, im, bl, Option.bind_some, wm, decide_true, if_true]
        · have : dev_From.f (n : Int) img = some (none, 2) := by
            unfold dev_From.f
            rw [if_neg d1, if_pos d2, if_neg d3, e, w64_id (by omega) (by omega), devRight, Option.bind_some, if_pos (by rw [decide_eq_false h3]; rfl)]
          rw [this, Option.bind_some]
          dsimp only [ocase]
          rw [if_neg d1, if_pos d2, if_neg d3, e, w64_id (by omega) (by omega), refRight, Option.bind_some, if_pos (by rw [decide_eq_false h3]; rfl)]
          rfl
      · have d3 : (!decide (Int.tmod (img.length : Int) (n : Int) = 0)) = true := by simp [h2]
        have : dev_From.f (n : Int) img = some (none, 2) := by
          unfold dev_From.f
          rw [if_neg d1, if_pos d2, if_pos d3]
        rw [this, Option.bind_some]
        dsimp only [ocase]
        rw [if_neg d1, if_pos d2, if_pos d3]
        rfl
end Go.SK.T
