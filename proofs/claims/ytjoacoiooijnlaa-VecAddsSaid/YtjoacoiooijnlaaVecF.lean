/-
  Walks of layer 13: one more version in a vector, two vectors together.
-/
import Derived.Test.YtjoacoiooijnlaaVecE
namespace Go.Proofs.Ytjoacoiooijnlaa
open Go.RowKit

theorem three_blocks (w : World) (A B C : Obj) : (((w.alloc A).alloc B).alloc C).heap[w.heap.size]? = some A ∧ (((w.alloc A).alloc B).alloc C).heap[w.heap.size + 1]? = some B ∧ (((w.alloc A).alloc B).alloc C).heap[w.heap.size + 2]? = some C ∧
    Below w.heap.size w (((w.alloc A).alloc B).alloc C) ∧ (((w.alloc A).alloc B).alloc C).heap.size = w.heap.size + 3 := by
  obtain ⟨h0, h1, hB, hS⟩ := two_blocks w A B
  have h2 := heap_alloc_top ((w.alloc A).alloc B) C
  rw [hS] at h2
  exact ⟨(Below.heap_alloc _ _ _ (by omega)).trans h0, (Below.heap_alloc _ _ _ (by omega)).trans h1, h2, hB.alloc hB.size _, by simp⟩

theorem max_walk (x y : Int) (w : World) : Calls Try.prog 28 #[.int .i64 x, .int .i64 y] w fun e w' => e = .returned (.int .i64 (max x y)) ∧ Below w.heap.size w w' := by
  go_enter Try.func28, Try.ntmps28
  go_wp2
  all_goals go_ret
  all_goals exact ⟨ret_int (by omega), Below.refl _ _⟩
theorem min_walk (x y : Int) (w : World) : Calls Try.prog 29 #[.int .i64 x, .int .i64 y] w fun e w' => e = .returned (.int .i64 (min x y)) ∧ Below w.heap.size w w' := by
  go_enter Try.func29, Try.ntmps29
  go_wp2
  all_goals go_ret
  all_goals exact ⟨ret_int (by omega), Below.refl _ _⟩

/-- two vectors brought together -/
def vmax (f g : Nat → Int) : Nat → Int := fun i => max (vclean f i) (vclean g i)
theorem vmax_step (f g : Nat → Int) (k : Nat) : (vec fun i => if i = k then max (vclean f k) (vclean g k) else (if i < k then vmax f g i else vclean f i)) =
    vec (fun i => if i < k + 1 then vmax f g i else vclean f i) := by
  apply vec_congr
  intro i _
  rcases Nat.lt_trichotomy i k with h | h | h
  · simp only [show ¬ i = k by omega, if_false, h, if_true, show i < k + 1 by omega]
  · subst h
    simp only [if_true, show i < i + 1 by omega]
    rfl
  · simp only [show ¬ i = k by omega, if_false, show ¬ i < k by omega, show ¬ i < k + 1 by omega]

set_option maxRecDepth 100000 in
set_option maxHeartbeats 2000000 in
theorem each_max (f g : Nat → Int) (w : World) :
    Calls Try.prog 27 #[.agg (vec f), .agg (vec g), .func (.func 28) #[] #[]] w fun e w' => e = .returned (.agg (vec (vmax f g))) ∧ Below w.heap.size w w' := by
  have hz := zero_vec
  go_enter Try.func27, Try.ntmps27
  go_upto_region 1 with fail
  obtain ⟨g0, g1, g2, hB, hS⟩ := three_blocks w (.cells (vec f) 23) (.cells (vec g) 23) (.cells (vec vnil) 23)
  generalize ((w.alloc (.cells (vec f) 23)).alloc (.cells (vec g) 23)).alloc (.cells (vec vnil) 23) = W at g0 g1 g2 hB hS ⊢
  have hBW : W.heap.size ≤ W.heap.size := Nat.le_refl _
  have HG0 := Lib.hid (sub_row g0 (B := W.heap.size) (by omega))
  have HG1 := Lib.hid (sub_row g1 (B := W.heap.size) (by omega))
  have HG2 := Lib.hid (sub_row g2 (B := W.heap.size) (by omega))
  have hlt : w.heap.size + 2 < W.heap.size := by omega
  clear g0 g1 g2 hS
  refine wp_region_sub_tail (W := W) (B := W.heap.size) 4 (by kernel_rfl) (by kernel_rfl) (Below.refl _ _) ?_
  simp only [List.take_succ_cons, List.take_zero, List.drop_succ_cons, List.drop_zero]
  repeat (any_goals (first
    | go_big_quiet_skip
    | (refine wpQuiet_load_row 23 _ rfl (w.heap.size + 1) rfl rfl 23 (vec g) (0, 0) _ HG1.out Try.underlying23 rfl (info_vec' g) ?_; simp only [Act.put, List.setIfInBounds_toArray, List.set_cons_succ, List.set_cons_zero])
    | (refine wpQuiet_load_row 23 _ rfl w.heap.size rfl rfl 23 (vec f) (0, 0) _ HG0.out Try.underlying23 rfl (info_vec' f) ?_; simp only [Act.put, List.setIfInBounds_toArray, List.set_cons_succ, List.set_cons_zero])
    | go_big_quiet_step ((go_at_call 7; exact calls_sub _ (clean_walk _ _) hBW))
    | quiet_step ((go_at_call 7; exact calls_sub _ (clean_walk _ _) hBW))))
  refine wpQuiet_nil ?_
  rintro w9 ⟨x9, rfl⟩
  have h0 := HG0.out _ ⟨x9, rfl⟩
  have h1 := (heap_setRow_other x9.val w.heap.size (w.heap.size + 1) (vec (vclean f)) (by omega)).trans (HG1.out _ ⟨x9, rfl⟩)
  have h2 := (heap_setRow_other (x9.val.setRow w.heap.size (vec (vclean f))) (w.heap.size + 1) (w.heap.size + 2) (vec (vclean g)) (by omega)).trans ((heap_setRow_other x9.val w.heap.size (w.heap.size + 2) (vec (vclean f)) (by omega)).trans (HG2.out _ ⟨x9, rfl⟩))
  have h0' := (heap_setRow_other (x9.val.setRow w.heap.size (vec (vclean f))) (w.heap.size + 1) w.heap.size (vec (vclean g)) (by omega)).trans (heap_setRow_same (cs := vec (vclean f)) h0)
  have h1' := heap_setRow_same (cs := vec (vclean g)) h1
  have hb9 := below_setRow (below_setRow (hB.trans (x9.below.mono hB.size)) (Nat.le_refl _) (vec (vclean f))) (Nat.le_succ _) (vec (vclean g))
  have K0 := Lib.hid h0; have K1 := Lib.hid h1; have K2 := Lib.hid h2; have K0' := Lib.hid h0'; have K1' := Lib.hid h1'; have KB := Lib.hid hb9
  clear h0 h1 h2 h0' h1' hb9 HG0 HG1 HG2
  refine wpList_store_row rfl 23 _ _ rfl w.heap.size (vec (vclean f)) rfl rfl 23 (vec f) K0.out (info_vec' _) (by rw [vec_size, vec_size]) (vec_one _) ?_
  refine wpList_store_row rfl 23 _ _ rfl (w.heap.size + 1) (vec (vclean g)) rfl rfl 23 (vec g) K1.out (info_vec' _) (by rw [vec_size, vec_size]) (vec_one _) ?_
  generalize (x9.val.setRow w.heap.size (vec (vclean f))).setRow (w.heap.size + 1) (vec (vclean g)) = W2 at K0' K1' K2 KB ⊢
  refine wpList_nil ?_
  simp only [Act.put, List.setIfInBounds_toArray, List.set_cons_succ, List.set_cons_zero]
  go_wp2_with (refine wpList_row 23 _ rfl (w.heap.size + 1) rfl rfl 23 (vec (vclean g)) (0, 0) _ K1'.out Try.underlying23 rfl (info_vec' _) ?_)
  go_loopw [14] (fun i wr => ∃ k : Nat, k ≤ 65 ∧ i = .int .i64 k ∧ wr.heap[w.heap.size]? = some (.cells (vec fun i => if i < k then vmax f g i else vclean f i) 23 (0, 0)) ∧ wr.heap[w.heap.size + 2]? = some (.cells (vec vnil) 23 (0, 0)) ∧ Below w.heap.size w wr ∧ w.heap.size + 2 < wr.heap.size)
    (fun i _ => 65 - (intOf i).toNat)
  case atStart => exact ⟨0, by omega, rfl, by simpa using K0'.out, K2.out, KB.out, lt_of_block K2.out⟩
  case round =>
    obtain ⟨k, hk, rfl, h0, h2, hB2, hS2⟩ := hrel
    by_cases hlt : k < 65
    · have hidx := index_vec (vclean g) k hlt
      have hc := vec_cell h0 k hlt
      simp only [Nat.lt_irrefl, if_false] at hc
      have R0 := Lib.hid h0; have R2 := Lib.hid h2; clear h0 h2
      go_wp2_with fail
      refine (max_walk _ _ _).mono ?_
      rintro e w1 ⟨rfl, hb1⟩
      clear hc
      have h0 := (hb1.block w.heap.size (by omega)).trans R0.out
      have h2 := (hb1.block (w.heap.size + 2) hS2).trans R2.out
      have hc := vec_cell h0 k hlt
      have hf := vec_free h0 k
      have S0 := Lib.hid h0; have S2 := Lib.hid h2; clear h0 h2
      go_wp2_with fail
      go_roundw
      case rel =>
        refine ⟨k + 1, by omega, by go_num, ?_, (heap_setCell_ne _ _ _ _ _ (by omega)).trans S2.out, (hB2.trans (hb1.mono hB2.size)).setCell (Nat.le_refl _) _, ?_⟩
        · exact (vec_store S0.out k hlt _).trans (by rw [vmax_step])
        · have := hb1.size; simp [World.setCell]; omega
      case measure => simp [intOf]; omega
    · obtain rfl : k = 65 := by omega
      have h0' : wr.heap[w.heap.size]? = some (.cells (vec (vmax f g)) 23 (0, 0)) := by
        rw [h0, vec_congr]
        intro i hi
        rw [if_pos hi]
      have R0 := Lib.hid h0'; have R2 := Lib.hid h2; clear h0 h2 h0'
      go_wp2_with (first
        | (refine wpList_row 23 _ rfl w.heap.size rfl rfl 23 (vec (vmax f g)) (0, 0) _ R0.out Try.underlying23 rfl (info_vec' _) ?_)
        | (refine wpList_store_row rfl 23 _ _ rfl (w.heap.size + 2) (vec (vmax f g)) rfl rfl 23 (vec vnil) R2.out (info_vec' _) (by rw [vec_size, vec_size]) (vec_one _) ?_))
      exact bodyPost_ret (v := .agg (vec (vmax f g))) (results_cell_row rfl _ _ (w.heap.size + 2) 23 (vec (vmax f g)) (0, 0) _ rfl (heap_setRow_same R2.out) Try.underlying23 rfl (info_vec' _)) rfl ⟨rfl, below_setRow hB2 (by omega) _⟩

set_option maxRecDepth 100000 in
set_option maxHeartbeats 2000000 in
theorem maxv_walk (f g : Nat → Int) (w : World) :
    Calls Try.prog 22 #[.agg (vec f), .agg (vec g)] w fun e w' => e = .returned (.agg (vec (vmax f g))) ∧ Below w.heap.size w w' := by
  have hz := zero_vec
  go_enter Try.func22, Try.ntmps22
  go_upto_region 1 with fail
  obtain ⟨g0, g1, g2, hB, hS⟩ := three_blocks w (.cells (vec f) 23) (.cells (vec g) 23) (.cells (vec vnil) 23)
  generalize ((w.alloc (.cells (vec f) 23)).alloc (.cells (vec g) 23)).alloc (.cells (vec vnil) 23) = W at g0 g1 g2 hB hS ⊢
  have HG0 := Lib.hid g0
  have HG1 := Lib.hid g1
  have HG2 := Lib.hid g2
  have hlt : w.heap.size + 2 < W.heap.size := by omega
  clear g0 g1 g2 hS
  go_wp2_with (first
    | (refine wpList_row 23 _ rfl w.heap.size rfl rfl 23 (vec f) (0, 0) _ HG0.out Try.underlying23 rfl (info_vec' _) ?_)
    | (refine wpList_row 23 _ rfl (w.heap.size + 1) rfl rfl 23 (vec g) (0, 0) _ HG1.out Try.underlying23 rfl (info_vec' _) ?_))
  refine (each_max f g _).mono ?_
  rintro e w1 ⟨rfl, hb1⟩
  have h2 := (hb1.block (w.heap.size + 2) hlt).trans HG2.out
  have R2 := Lib.hid h2; clear h2
  go_wp2_with (refine wpList_store_row rfl 23 _ _ rfl (w.heap.size + 2) (vec (vmax f g)) rfl rfl 23 (vec vnil) R2.out (info_vec' _) (by rw [vec_size, vec_size]) (vec_one _) ?_)
  exact bodyPost_ret (v := .agg (vec (vmax f g))) (results_cell_row rfl _ _ (w.heap.size + 2) 23 (vec (vmax f g)) (0, 0) _ rfl (heap_setRow_same R2.out) Try.underlying23 rfl (info_vec' _)) rfl ⟨rfl, below_setRow (hB.trans (hb1.mono hB.size)) (by omega) _⟩
/-- two vectors brought together -/
def vmin (f g : Nat → Int) : Nat → Int := fun i => min (vclean f i) (vclean g i)
theorem vmin_step (f g : Nat → Int) (k : Nat) : (vec fun i => if i = k then min (vclean f k) (vclean g k) else (if i < k then vmin f g i else vclean f i)) =
    vec (fun i => if i < k + 1 then vmin f g i else vclean f i) := by
  apply vec_congr
  intro i _
  rcases Nat.lt_trichotomy i k with h | h | h
  · simp only [show ¬ i = k by omega, if_false, h, if_true, show i < k + 1 by omega]
  · subst h
    simp only [if_true, show i < i + 1 by omega]
    rfl
  · simp only [show ¬ i = k by omega, if_false, show ¬ i < k by omega, show ¬ i < k + 1 by omega]

set_option maxRecDepth 100000 in
set_option maxHeartbeats 2000000 in
theorem each_min (f g : Nat → Int) (w : World) :
    Calls Try.prog 27 #[.agg (vec f), .agg (vec g), .func (.func 29) #[] #[]] w fun e w' => e = .returned (.agg (vec (vmin f g))) ∧ Below w.heap.size w w' := by
  have hz := zero_vec
  go_enter Try.func27, Try.ntmps27
  go_upto_region 1 with fail
  obtain ⟨g0, g1, g2, hB, hS⟩ := three_blocks w (.cells (vec f) 23) (.cells (vec g) 23) (.cells (vec vnil) 23)
  generalize ((w.alloc (.cells (vec f) 23)).alloc (.cells (vec g) 23)).alloc (.cells (vec vnil) 23) = W at g0 g1 g2 hB hS ⊢
  have hBW : W.heap.size ≤ W.heap.size := Nat.le_refl _
  have HG0 := Lib.hid (sub_row g0 (B := W.heap.size) (by omega))
  have HG1 := Lib.hid (sub_row g1 (B := W.heap.size) (by omega))
  have HG2 := Lib.hid (sub_row g2 (B := W.heap.size) (by omega))
  have hlt : w.heap.size + 2 < W.heap.size := by omega
  clear g0 g1 g2 hS
  refine wp_region_sub_tail (W := W) (B := W.heap.size) 4 (by kernel_rfl) (by kernel_rfl) (Below.refl _ _) ?_
  simp only [List.take_succ_cons, List.take_zero, List.drop_succ_cons, List.drop_zero]
  repeat (any_goals (first
    | go_big_quiet_skip
    | (refine wpQuiet_load_row 23 _ rfl (w.heap.size + 1) rfl rfl 23 (vec g) (0, 0) _ HG1.out Try.underlying23 rfl (info_vec' g) ?_; simp only [Act.put, List.setIfInBounds_toArray, List.set_cons_succ, List.set_cons_zero])
    | (refine wpQuiet_load_row 23 _ rfl w.heap.size rfl rfl 23 (vec f) (0, 0) _ HG0.out Try.underlying23 rfl (info_vec' f) ?_; simp only [Act.put, List.setIfInBounds_toArray, List.set_cons_succ, List.set_cons_zero])
    | go_big_quiet_step ((go_at_call 7; exact calls_sub _ (clean_walk _ _) hBW))
    | quiet_step ((go_at_call 7; exact calls_sub _ (clean_walk _ _) hBW))))
  refine wpQuiet_nil ?_
  rintro w9 ⟨x9, rfl⟩
  have h0 := HG0.out _ ⟨x9, rfl⟩
  have h1 := (heap_setRow_other x9.val w.heap.size (w.heap.size + 1) (vec (vclean f)) (by omega)).trans (HG1.out _ ⟨x9, rfl⟩)
  have h2 := (heap_setRow_other (x9.val.setRow w.heap.size (vec (vclean f))) (w.heap.size + 1) (w.heap.size + 2) (vec (vclean g)) (by omega)).trans ((heap_setRow_other x9.val w.heap.size (w.heap.size + 2) (vec (vclean f)) (by omega)).trans (HG2.out _ ⟨x9, rfl⟩))
  have h0' := (heap_setRow_other (x9.val.setRow w.heap.size (vec (vclean f))) (w.heap.size + 1) w.heap.size (vec (vclean g)) (by omega)).trans (heap_setRow_same (cs := vec (vclean f)) h0)
  have h1' := heap_setRow_same (cs := vec (vclean g)) h1
  have hb9 := below_setRow (below_setRow (hB.trans (x9.below.mono hB.size)) (Nat.le_refl _) (vec (vclean f))) (Nat.le_succ _) (vec (vclean g))
  have K0 := Lib.hid h0; have K1 := Lib.hid h1; have K2 := Lib.hid h2; have K0' := Lib.hid h0'; have K1' := Lib.hid h1'; have KB := Lib.hid hb9
  clear h0 h1 h2 h0' h1' hb9 HG0 HG1 HG2
  refine wpList_store_row rfl 23 _ _ rfl w.heap.size (vec (vclean f)) rfl rfl 23 (vec f) K0.out (info_vec' _) (by rw [vec_size, vec_size]) (vec_one _) ?_
  refine wpList_store_row rfl 23 _ _ rfl (w.heap.size + 1) (vec (vclean g)) rfl rfl 23 (vec g) K1.out (info_vec' _) (by rw [vec_size, vec_size]) (vec_one _) ?_
  generalize (x9.val.setRow w.heap.size (vec (vclean f))).setRow (w.heap.size + 1) (vec (vclean g)) = W2 at K0' K1' K2 KB ⊢
  refine wpList_nil ?_
  simp only [Act.put, List.setIfInBounds_toArray, List.set_cons_succ, List.set_cons_zero]
  go_wp2_with (refine wpList_row 23 _ rfl (w.heap.size + 1) rfl rfl 23 (vec (vclean g)) (0, 0) _ K1'.out Try.underlying23 rfl (info_vec' _) ?_)
  go_loopw [14] (fun i wr => ∃ k : Nat, k ≤ 65 ∧ i = .int .i64 k ∧ wr.heap[w.heap.size]? = some (.cells (vec fun i => if i < k then vmin f g i else vclean f i) 23 (0, 0)) ∧ wr.heap[w.heap.size + 2]? = some (.cells (vec vnil) 23 (0, 0)) ∧ Below w.heap.size w wr ∧ w.heap.size + 2 < wr.heap.size)
    (fun i _ => 65 - (intOf i).toNat)
  case atStart => exact ⟨0, by omega, rfl, by simpa using K0'.out, K2.out, KB.out, lt_of_block K2.out⟩
  case round =>
    obtain ⟨k, hk, rfl, h0, h2, hB2, hS2⟩ := hrel
    by_cases hlt : k < 65
    · have hidx := index_vec (vclean g) k hlt
      have hc := vec_cell h0 k hlt
      simp only [Nat.lt_irrefl, if_false] at hc
      have R0 := Lib.hid h0; have R2 := Lib.hid h2; clear h0 h2
      go_wp2_with fail
      refine (min_walk _ _ _).mono ?_
      rintro e w1 ⟨rfl, hb1⟩
      clear hc
      have h0 := (hb1.block w.heap.size (by omega)).trans R0.out
      have h2 := (hb1.block (w.heap.size + 2) hS2).trans R2.out
      have hc := vec_cell h0 k hlt
      have hf := vec_free h0 k
      have S0 := Lib.hid h0; have S2 := Lib.hid h2; clear h0 h2
      go_wp2_with fail
      go_roundw
      case rel =>
        refine ⟨k + 1, by omega, by go_num, ?_, (heap_setCell_ne _ _ _ _ _ (by omega)).trans S2.out, (hB2.trans (hb1.mono hB2.size)).setCell (Nat.le_refl _) _, ?_⟩
        · exact (vec_store S0.out k hlt _).trans (by rw [vmin_step])
        · have := hb1.size; simp [World.setCell]; omega
      case measure => simp [intOf]; omega
    · obtain rfl : k = 65 := by omega
      have h0' : wr.heap[w.heap.size]? = some (.cells (vec (vmin f g)) 23 (0, 0)) := by
        rw [h0, vec_congr]
        intro i hi
        rw [if_pos hi]
      have R0 := Lib.hid h0'; have R2 := Lib.hid h2; clear h0 h2 h0'
      go_wp2_with (first
        | (refine wpList_row 23 _ rfl w.heap.size rfl rfl 23 (vec (vmin f g)) (0, 0) _ R0.out Try.underlying23 rfl (info_vec' _) ?_)
        | (refine wpList_store_row rfl 23 _ _ rfl (w.heap.size + 2) (vec (vmin f g)) rfl rfl 23 (vec vnil) R2.out (info_vec' _) (by rw [vec_size, vec_size]) (vec_one _) ?_))
      exact bodyPost_ret (v := .agg (vec (vmin f g))) (results_cell_row rfl _ _ (w.heap.size + 2) 23 (vec (vmin f g)) (0, 0) _ rfl (heap_setRow_same R2.out) Try.underlying23 rfl (info_vec' _)) rfl ⟨rfl, below_setRow hB2 (by omega) _⟩

set_option maxRecDepth 100000 in
set_option maxHeartbeats 2000000 in
theorem minv_walk (f g : Nat → Int) (w : World) :
    Calls Try.prog 23 #[.agg (vec f), .agg (vec g)] w fun e w' => e = .returned (.agg (vec (vmin f g))) ∧ Below w.heap.size w w' := by
  have hz := zero_vec
  go_enter Try.func23, Try.ntmps23
  go_upto_region 1 with fail
  obtain ⟨g0, g1, g2, hB, hS⟩ := three_blocks w (.cells (vec f) 23) (.cells (vec g) 23) (.cells (vec vnil) 23)
  generalize ((w.alloc (.cells (vec f) 23)).alloc (.cells (vec g) 23)).alloc (.cells (vec vnil) 23) = W at g0 g1 g2 hB hS ⊢
  have HG0 := Lib.hid g0
  have HG1 := Lib.hid g1
  have HG2 := Lib.hid g2
  have hlt : w.heap.size + 2 < W.heap.size := by omega
  clear g0 g1 g2 hS
  go_wp2_with (first
    | (refine wpList_row 23 _ rfl w.heap.size rfl rfl 23 (vec f) (0, 0) _ HG0.out Try.underlying23 rfl (info_vec' _) ?_)
    | (refine wpList_row 23 _ rfl (w.heap.size + 1) rfl rfl 23 (vec g) (0, 0) _ HG1.out Try.underlying23 rfl (info_vec' _) ?_))
  refine (each_min f g _).mono ?_
  rintro e w1 ⟨rfl, hb1⟩
  have h2 := (hb1.block (w.heap.size + 2) hlt).trans HG2.out
  have R2 := Lib.hid h2; clear h2
  go_wp2_with (refine wpList_store_row rfl 23 _ _ rfl (w.heap.size + 2) (vec (vmin f g)) rfl rfl 23 (vec vnil) R2.out (info_vec' _) (by rw [vec_size, vec_size]) (vec_one _) ?_)
  exact bodyPost_ret (v := .agg (vec (vmin f g))) (results_cell_row rfl _ _ (w.heap.size + 2) 23 (vec (vmin f g)) (0, 0) _ rfl (heap_setRow_same R2.out) Try.underlying23 rfl (info_vec' _)) rfl ⟨rfl, below_setRow (hB.trans (hb1.mono hB.size)) (by omega) _⟩

/-- what Covers answers -/
def vcovers (f g : Nat → Int) : Bool := vecEq (vmax f g) (vclean f)
set_option maxHeartbeats 400000 in
theorem covers_walk (f g : Nat → Int) (w : World) :
    Calls Try.prog 24 #[.agg (vec f), .agg (vec g)] w fun e w' => e = .returned (.bool (vcovers f g)) ∧ Below w.heap.size w w' := by
  have heq := eq_vec (vmax f g) (vclean f)
  go_enter Try.func24, Try.ntmps24
  go_upto_region 1 with fail
  obtain ⟨g0, g1, hB, hS⟩ := two_blocks w (.cells (vec f) 23) (.cells (vec g) 23)
  generalize (w.alloc (.cells (vec f) 23)).alloc (.cells (vec g) 23) = W at g0 g1 hB hS ⊢
  have hBW : W.heap.size ≤ W.heap.size := Nat.le_refl _
  have HG0 := Lib.hid (sub_row g0 (B := W.heap.size) (by omega))
  have HG1 := Lib.hid (sub_row g1 (B := W.heap.size) (by omega))
  clear g0 g1 hS
  refine wp_region_sub (W := W) (B := W.heap.size) (by kernel_rfl) (by kernel_rfl) (Below.refl _ _) ?_
  repeat (any_goals (first
    | go_big_quiet_skip
    | (refine wpQuiet_load_row 23 _ rfl (w.heap.size + 1) rfl rfl 23 (vec g) (0, 0) _ HG1.out Try.underlying23 rfl (info_vec' g) ?_; simp only [Act.put, List.setIfInBounds_toArray, List.set_cons_succ, List.set_cons_zero])
    | (refine wpQuiet_load_row 23 _ rfl w.heap.size rfl rfl 23 (vec f) (0, 0) _ HG0.out Try.underlying23 rfl (info_vec' f) ?_; simp only [Act.put, List.setIfInBounds_toArray, List.set_cons_succ, List.set_cons_zero])
    | go_big_quiet_step ((first | (go_at_call 22; exact calls_sub _ (maxv_walk _ _ _) hBW) | (go_at_call 7; exact calls_sub _ (clean_walk _ _) hBW)))
    | quiet_step ((first | (go_at_call 22; exact calls_sub _ (maxv_walk _ _ _) hBW) | (go_at_call 7; exact calls_sub _ (clean_walk _ _) hBW)))))
  refine wpQuiet_nil ?_
  rintro w9 ⟨x9, rfl⟩
  go_wp2_with fail
  go_ret
  exact ⟨rfl, hB.trans (x9.below.mono hB.size)⟩
end Go.Proofs.Ytjoacoiooijnlaa
