/-
  The walk of VecOrder, and its plain law. (Written by genorder.py.)
-/
import Derived.Test.YtjoacoiooijnlaaVecN
import Derived.Test.YtjoacoiooijnlaaPlain
namespace Go.Proofs.Ytjoacoiooijnlaa
open Go.RowKit

theorem covers_iff (f g : Nat → Int) : vcovers f g = true ↔ ∀ i, i < 65 → vclean g i ≤ vclean f i := by
  unfold vcovers
  rw [vecEq_iff]
  unfold vmax
  constructor <;> intro h i hi <;> have := h i hi <;> omega
theorem cov_iff (f g : Nat → Int) : vcov f g = true ↔ ∀ i, i < 65 → vclean g i ≤ vclean f i := by
  rw [vcov_iff]
  constructor
  · intro h i hi
    rcases Nat.eq_zero_or_pos i with rfl | hp
    · rw [vclean_zero, vclean_zero]; omega
    · have := h i hp (by omega)
      rwa [vat_pos f i hp (by omega), vat_pos g i hp (by omega), ← vclean_pos f i hp, ← vclean_pos g i hp] at this
  · intro h i h1 h2
    have := h i (by omega)
    rwa [vat_pos f i h1 h2, vat_pos g i h1 h2, ← vclean_pos f i h1, ← vclean_pos g i h1]
theorem covers_cov (f g : Nat → Int) : vcov f g = vcovers f g := Bool.eq_iff_iff.2 ((cov_iff f g).trans (covers_iff f g).symm)
theorem clean_eq (f g : Nat → Int) : vecEq (vclean f) (vclean g) = (vcovers f g && vcovers g f) := by
  rw [Bool.eq_iff_iff, Bool.and_eq_true, covers_iff, covers_iff, vecEq_iff]
  constructor
  · intro h; exact ⟨fun i hi => by rw [h i hi]; omega, fun i hi => by rw [h i hi]; omega⟩
  · rintro ⟨h1, h2⟩ i hi; have := h1 i hi; have := h2 i hi; omega
theorem clean_max (f g : Nat → Int) (i : Nat) : vclean (vmax f g) i = max (vclean f i) (vclean g i) := by
  rcases Nat.eq_zero_or_pos i with rfl | hp
  · simp [vclean_zero]
  · rw [vclean_pos _ i hp]; unfold vmax; have := vclean_nonneg f i; omega
theorem clean_min (f g : Nat → Int) (i : Nat) : vclean (vmin f g) i = min (vclean f i) (vclean g i) := by
  rcases Nat.eq_zero_or_pos i with rfl | hp
  · simp [vclean_zero]
  · rw [vclean_pos _ i hp]; unfold vmin; have := vclean_nonneg f i; have := vclean_nonneg g i; omega
theorem covers_max1 (f g : Nat → Int) : vcovers (vmax f g) f = true := (covers_iff _ _).2 fun i _ => by rw [clean_max]; omega
theorem covers_max2 (f g : Nat → Int) : vcovers (vmax f g) g = true := (covers_iff _ _).2 fun i _ => by rw [clean_max]; omega
theorem covers_min1 (f g : Nat → Int) : vcovers f (vmin f g) = true := (covers_iff _ _).2 fun i _ => by rw [clean_min]; omega
theorem covers_min2 (f g : Nat → Int) : vcovers g (vmin f g) = true := (covers_iff _ _).2 fun i _ => by rw [clean_min]; omega
theorem covers_least (f g h : Nat → Int) : vcovers h (vmax f g) = (vcovers h f && vcovers h g) := by
  rw [Bool.eq_iff_iff, Bool.and_eq_true, covers_iff, covers_iff, covers_iff]
  constructor
  · intro k; exact ⟨fun i hi => by have := k i hi; rw [clean_max] at this; omega, fun i hi => by have := k i hi; rw [clean_max] at this; omega⟩
  · rintro ⟨k1, k2⟩ i hi; rw [clean_max]; have := k1 i hi; have := k2 i hi; omega
theorem covers_trans (f g h : Nat → Int) (h1 : vcovers f g = true) (h2 : vcovers g h = true) : vcovers f h = true := by
  rw [covers_iff] at h1 h2 ⊢
  intro i hi; have := h1 i hi; have := h2 i hi; omega

attribute [local irreducible] vec vmax vmin vclean vcovers

set_option maxHeartbeats 8000000 in
theorem vecOrder_walk (f g h : Nat → Int) (w : World) :
    Calls Try.prog 6 #[.agg (vec f), .agg (vec g), .agg (vec h)] w fun e w' => e = .returned (.bool true) ∧ Below w.heap.size w w' := by
  have hz := zero_vec
  have h1 := fun w => covers_walk f g w
  have h2 := fun w => covers_walk g f w
  have h3 := fun w => refCovers_walk f g w
  have h4 := fun w => refCovers_walk g f w
  have h9 := fun w => covers_walk h f w
  have h10 := fun w => covers_walk h g w
  have h11 := fun w => covers_walk (vmax f g) f w
  have h12 := fun w => covers_walk (vmax f g) g w
  have h13 := fun w => covers_walk f (vmin f g) w
  have h14 := fun w => covers_walk g (vmin f g) w
  have h15 := fun w => covers_walk h (vmax f g) w
  have h16 := fun w => covers_walk g h w
  have h17 := fun w => covers_walk f h w
  have hj := fun w => maxv_walk f g w
  have hm := fun w => minv_walk f g w
  have he := fun w => eq_vec (vclean f) (vclean g) w
  rw [clean_eq] at he
  rw [covers_cov] at h3 h4
  rw [covers_max1] at h11; rw [covers_max2] at h12; rw [covers_min1] at h13; rw [covers_min2] at h14; rw [covers_least] at h15
  have hT := covers_trans f g h
  generalize vmax f g = j at h11 h12 h15 hj
  generalize vmin f g = m at h13 h14 hm
  generalize vcovers f g = ab at h1 h3 he hT
  generalize vcovers g f = ba at h2 h4 he
  generalize vcovers h f = ca at h9 h15
  generalize vcovers h g = cb at h10 h15
  generalize vcovers g h = bc at h16 hT
  generalize vcovers f h = ac at h17 hT
  have H1 := Lib.hid h1; have H2 := Lib.hid h2; have H3 := Lib.hid h3; have H4 := Lib.hid h4; have H9 := Lib.hid h9; have H10 := Lib.hid h10; have H11 := Lib.hid h11; have H12 := Lib.hid h12
  have H13 := Lib.hid h13; have H14 := Lib.hid h14; have H15 := Lib.hid h15; have H16 := Lib.hid h16; have H17 := Lib.hid h17; have HJ := Lib.hid hj; have HM := Lib.hid hm; have HT := Lib.hid hT
  have H5 := Lib.hid (fun w => clean_walk f w); have H6 := Lib.hid (fun w => clean_walk g w)
  clear h1 h2 h3 h4 h9 h10 h11 h12 h13 h14 h15 h16 h17 hj hm hT
  go_enter Try.func6, Try.ntmps6
  go_upto_region 1 with fail
  obtain ⟨g0, g1, g2, hB, hS⟩ := three_blocks w (.cells (vec f) 23) (.cells (vec g) 23) (.cells (vec h) 23)
  generalize ((w.alloc (.cells (vec f) 23)).alloc (.cells (vec g) 23)).alloc (.cells (vec h) 23) = W at g0 g1 g2 hB hS ⊢
  have hBW : W.heap.size ≤ W.heap.size := Nat.le_refl _
  have HG0 := Lib.hid (sub_row g0 (B := W.heap.size) (by omega))
  have HG1 := Lib.hid (sub_row g1 (B := W.heap.size) (by omega))
  have HG2 := Lib.hid (sub_row g2 (B := W.heap.size) (by omega))
  have HS := Lib.hid hS
  have HAW := Lib.hid (fun w => awake_walk w)
  have HB := Lib.hid hB
  clear g0 g1 g2 hS hB
  refine wp_region_sub (W := W) (B := W.heap.size) (by kernel_rfl) (by kernel_rfl) (Below.refl _ _) ?_
  repeat (any_goals (first
    | go_big_quiet_skip
    | (refine wpQuiet_load_row 23 _ rfl (w.heap.size) rfl rfl 23 (vec f) (0, 0) _ HG0.out Try.underlying23 rfl (info_vec' _) ?_; simp only [Act.put, List.setIfInBounds_toArray, List.set_cons_succ, List.set_cons_zero])
    | (refine wpQuiet_load_row 23 _ rfl (w.heap.size + 1) rfl rfl 23 (vec g) (0, 0) _ HG1.out Try.underlying23 rfl (info_vec' _) ?_; simp only [Act.put, List.setIfInBounds_toArray, List.set_cons_succ, List.set_cons_zero])
    | (refine wpQuiet_load_row 23 _ rfl (w.heap.size + 2) rfl rfl 23 (vec h) (0, 0) _ HG2.out Try.underlying23 rfl (info_vec' _) ?_; simp only [Act.put, List.setIfInBounds_toArray, List.set_cons_succ, List.set_cons_zero])
    | go_big_quiet_step ((first | (go_at_call 24; with_reducible exact calls_sub _ (H1.out _) hBW) | (go_at_call 24; with_reducible exact calls_sub _ (H2.out _) hBW)))
    | quiet_step ((first | (go_at_call 24; with_reducible exact calls_sub _ (H1.out _) hBW) | (go_at_call 24; with_reducible exact calls_sub _ (H2.out _) hBW)))))
  refine wpQuiet_nil ?_
  rintro w8 ⟨x8, rfl⟩
  have hx8 := x8.below
  generalize x8.val = w8 at hx8 ⊢
  have HX8 := Lib.hid hx8
  clear hx8 x8
  cases ab
  all_goals
    simp only [Bool.true_and, Bool.false_and] at he
    go_wp2_with fail
    refine wp_region_sub (W := W) (B := W.heap.size) (by kernel_rfl) (by kernel_rfl) HX8.out ?_
    repeat (any_goals (first
      | go_big_quiet_skip
      | (refine wpQuiet_load_row 23 _ rfl (w.heap.size) rfl rfl 23 (vec f) (0, 0) _ HG0.out Try.underlying23 rfl (info_vec' _) ?_; simp only [Act.put, List.setIfInBounds_toArray, List.set_cons_succ, List.set_cons_zero])
      | (refine wpQuiet_load_row 23 _ rfl (w.heap.size + 1) rfl rfl 23 (vec g) (0, 0) _ HG1.out Try.underlying23 rfl (info_vec' _) ?_; simp only [Act.put, List.setIfInBounds_toArray, List.set_cons_succ, List.set_cons_zero])
      | (refine wpQuiet_load_row 23 _ rfl (w.heap.size + 2) rfl rfl 23 (vec h) (0, 0) _ HG2.out Try.underlying23 rfl (info_vec' _) ?_; simp only [Act.put, List.setIfInBounds_toArray, List.set_cons_succ, List.set_cons_zero])
      | go_big_quiet_step ((first | (go_at_call 21; with_reducible exact calls_sub _ (H3.out _) hBW) | (go_at_call 21; with_reducible exact calls_sub _ (H4.out _) hBW) | (go_at_call 7; with_reducible exact calls_sub _ (H5.out _) hBW) | (go_at_call 7; with_reducible exact calls_sub _ (H6.out _) hBW)))
      | quiet_step ((first | (go_at_call 21; with_reducible exact calls_sub _ (H3.out _) hBW) | (go_at_call 21; with_reducible exact calls_sub _ (H4.out _) hBW) | (go_at_call 7; with_reducible exact calls_sub _ (H5.out _) hBW) | (go_at_call 7; with_reducible exact calls_sub _ (H6.out _) hBW)))))
    refine wpQuiet_nil ?_
    rintro w9 ⟨x9, rfl⟩
    have hx9 := x9.below
    generalize x9.val = w9 at hx9 ⊢
    have HX9 := Lib.hid hx9
    clear hx9 x9
    go_upto_region 4 with fail
    refine wp_region_inv 8 (by kernel_rfl) (by kernel_rfl) (fun a L a' w' => ∃ t11 t12 t13 t14 t15 t16 t7 t8 : Value,
      a' = (((((((a.put (some 42) t11).put (some 43) t12).put (some 44) t13).put (some 45) t14).put (some 46) t15).put (some 47) t16).put (some 9) t7).put (some 10) t8 ∧ Below W.heap.size W w' ∧
      (L 0 = true → t11 = .agg (vec f)) ∧ (L 1 = true → t12 = .agg (vec g)) ∧ (L 2 = true → t13 = .agg (vec j)) ∧ (L 3 = true → t14 = .agg (vec f)) ∧ (L 4 = true → t15 = .agg (vec g)) ∧ (L 5 = true → t16 = .agg (vec m)) ∧
      (L 6 = true → ∃ p, t7 = .pointer (some ⟨p, 0, none⟩) ∧ W.heap.size ≤ p ∧ w'.heap[p]? = some (.cells (vec vnil) 23 (0, 0))) ∧
      (L 7 = true → ∃ p, t8 = .pointer (some ⟨p, 0, none⟩) ∧ W.heap.size ≤ p ∧ w'.heap[p]? = some (.cells (vec vnil) 23 (0, 0))) ∧
      (L 6 = true → L 7 = true → t7 ≠ t8)) ?_ ?_ ?_
    · refine ⟨undef, undef, undef, undef, undef, undef, undef, undef, ?_, HX9.out.drew, ?_⟩
      · simp only [Act.put, List.setIfInBounds_toArray, List.set_cons_succ, List.set_cons_zero]
      · simp
    · rintro L a' w' i o ⟨t11, t12, t13, t14, t15, t16, t7, t8, rfl, hB', i0, i1, i2, i3, i4, i5, i6, i7, i67⟩ hi hL ho hd K' hK
      simp only [Act.put, List.setIfInBounds_toArray, List.set_cons_succ, List.set_cons_zero]
      match i, hi with
      | 0, _ =>
        cases ho
        rw [if_pos (by rfl)]
        refine wp_load_row 23 _ rfl (w.heap.size) rfl 23 (vec f) (0, 0) _ (HG0.out _ (inSub_of hB')) Try.underlying23 rfl (info_vec' _) (hK _ _ ?_)
        refine ⟨(.agg (vec f)), t12, t13, t14, t15, t16, t7, t8, ?_, hB', fun _ => rfl, i1, i2, i3, i4, i5, i6, i7, i67⟩
        simp only [Act.put, List.setIfInBounds_toArray, List.set_cons_succ, List.set_cons_zero]
      | 1, _ =>
        cases ho
        rw [if_pos (by rfl)]
        refine wp_load_row 23 _ rfl (w.heap.size + 1) rfl 23 (vec g) (0, 0) _ (HG1.out _ (inSub_of hB')) Try.underlying23 rfl (info_vec' _) (hK _ _ ?_)
        refine ⟨t11, (.agg (vec g)), t13, t14, t15, t16, t7, t8, ?_, hB', i0, fun _ => rfl, i2, i3, i4, i5, i6, i7, i67⟩
        simp only [Act.put, List.setIfInBounds_toArray, List.set_cons_succ, List.set_cons_zero]
      | 2, _ =>
        cases ho
        obtain rfl := i0 (hd ⟨0, .data⟩ (by simp) rfl)
        obtain rfl := i1 (hd ⟨1, .data⟩ (by simp) rfl)
        rw [if_pos (by rfl)]
        go_simp
        go_at_call 22
        refine (HJ.out _).mono ?_
        rintro e w2 ⟨rfl, hb⟩
        refine hK _ _ ?_
        refine ⟨_, _, (.agg (vec j)), t14, t15, t16, t7, t8, ?_, hB'.trans (hb.mono hB'.size), i0, i1, fun _ => rfl, i3, i4, i5, fun h => (by obtain ⟨p, e1, e2, e3⟩ := i6 h; exact ⟨p, e1, e2, (hb.block p (lt_of_block e3)).trans e3⟩), fun h => (by obtain ⟨p, e1, e2, e3⟩ := i7 h; exact ⟨p, e1, e2, (hb.block p (lt_of_block e3)).trans e3⟩), i67⟩
        simp only [Act.put, List.setIfInBounds_toArray, List.set_cons_succ, List.set_cons_zero]
      | 3, _ =>
        cases ho
        rw [if_pos (by rfl)]
        refine wp_load_row 23 _ rfl (w.heap.size) rfl 23 (vec f) (0, 0) _ (HG0.out _ (inSub_of hB')) Try.underlying23 rfl (info_vec' _) (hK _ _ ?_)
        refine ⟨t11, t12, t13, (.agg (vec f)), t15, t16, t7, t8, ?_, hB', i0, i1, i2, fun _ => rfl, i4, i5, i6, i7, i67⟩
        simp only [Act.put, List.setIfInBounds_toArray, List.set_cons_succ, List.set_cons_zero]
      | 4, _ =>
        cases ho
        rw [if_pos (by rfl)]
        refine wp_load_row 23 _ rfl (w.heap.size + 1) rfl 23 (vec g) (0, 0) _ (HG1.out _ (inSub_of hB')) Try.underlying23 rfl (info_vec' _) (hK _ _ ?_)
        refine ⟨t11, t12, t13, t14, (.agg (vec g)), t16, t7, t8, ?_, hB', i0, i1, i2, i3, fun _ => rfl, i5, i6, i7, i67⟩
        simp only [Act.put, List.setIfInBounds_toArray, List.set_cons_succ, List.set_cons_zero]
      | 5, _ =>
        cases ho
        obtain rfl := i3 (hd ⟨3, .data⟩ (by simp) rfl)
        obtain rfl := i4 (hd ⟨4, .data⟩ (by simp) rfl)
        rw [if_pos (by rfl)]
        go_simp
        go_at_call 23
        refine (HM.out _).mono ?_
        rintro e w2 ⟨rfl, hb⟩
        refine hK _ _ ?_
        refine ⟨t11, t12, t13, _, _, (.agg (vec m)), t7, t8, ?_, hB'.trans (hb.mono hB'.size), i0, i1, i2, i3, i4, fun _ => rfl, fun h => (by obtain ⟨p, e1, e2, e3⟩ := i6 h; exact ⟨p, e1, e2, (hb.block p (lt_of_block e3)).trans e3⟩), fun h => (by obtain ⟨p, e1, e2, e3⟩ := i7 h; exact ⟨p, e1, e2, (hb.block p (lt_of_block e3)).trans e3⟩), i67⟩
        simp only [Act.put, List.setIfInBounds_toArray, List.set_cons_succ, List.set_cons_zero]
      | 6, _ =>
        cases ho
        rw [if_pos (by rfl)]
        go_simp
        refine hK _ _ ?_
        refine ⟨t11, t12, t13, t14, t15, t16, (.pointer (some ⟨w'.heap.size, 0, none⟩)), t8, ?_, hB'.alloc hB'.size _, i0, i1, i2, i3, i4, i5, fun _ => ⟨_, rfl, hB'.size, heap_alloc_top w' _⟩, fun h => (by obtain ⟨p, e1, e2, e3⟩ := i7 h; exact ⟨p, e1, e2, ((below_alloc w' (.cells (vec vnil) 23)).block p (lt_of_block e3)).trans e3⟩), fun _ h => (by obtain ⟨p, e1, e2, e3⟩ := i7 h; rw [e1]; have := lt_of_block e3; intro e; cases e; omega)⟩
        simp only [Act.put, List.setIfInBounds_toArray, List.set_cons_succ, List.set_cons_zero]
      | 7, _ =>
        cases ho
        rw [if_pos (by rfl)]
        go_simp
        refine hK _ _ ?_
        refine ⟨t11, t12, t13, t14, t15, t16, t7, (.pointer (some ⟨w'.heap.size, 0, none⟩)), ?_, hB'.alloc hB'.size _, i0, i1, i2, i3, i4, i5, fun h => (by obtain ⟨p, e1, e2, e3⟩ := i6 h; exact ⟨p, e1, e2, ((below_alloc w' (.cells (vec vnil) 23)).block p (lt_of_block e3)).trans e3⟩), fun _ => ⟨_, rfl, hB'.size, heap_alloc_top w' _⟩, fun h _ => (by obtain ⟨p, e1, e2, e3⟩ := i6 h; rw [e1]; have := lt_of_block e3; intro e; cases e; omega)⟩
        simp only [Act.put, List.setIfInBounds_toArray, List.set_cons_succ, List.set_cons_zero]
    · rintro L a' w' ⟨t11, t12, t13, t14, t15, t16, t7, t8, rfl, hB', i0, i1, i2, i3, i4, i5, i6, i7, i67⟩ hL
      obtain rfl := i0 (hL 0 (by omega)); obtain rfl := i1 (hL 1 (by omega)); obtain rfl := i2 (hL 2 (by omega)); obtain rfl := i3 (hL 3 (by omega)); obtain rfl := i4 (hL 4 (by omega)); obtain rfl := i5 (hL 5 (by omega))
      obtain ⟨p, rfl, hp1, hp2⟩ := i6 (hL 6 (by omega))
      obtain ⟨q, rfl, hq1, hq2⟩ := i7 (hL 7 (by omega))
      have hpq : p ≠ q := by rintro rfl; exact i67 (hL 6 (by omega)) (hL 7 (by omega)) rfl
      clear i0 i1 i2 i3 i4 i5 i6 i7 i67 hL
      simp only [Act.put, List.setIfInBounds_toArray, List.set_cons_succ, List.set_cons_zero]
      have M0 := Lib.hid hp2
      have M1 := Lib.hid ((heap_setRow_other w' p q (vec j) (fun e => hpq e.symm)).trans hq2)
      have N0 := Lib.hid ((heap_setRow_other (w'.setRow p (vec j)) q p (vec m) hpq).trans (heap_setRow_same (cs := vec j) hp2))
      have N1 := Lib.hid (heap_setRow_same (cs := vec m) M1.out)
      have NB := Lib.hid (below_setRow (below_setRow hB' hp1 (vec j)) hq1 (vec m))
      clear hp2 hq2
      simp only [List.drop_succ_cons, List.drop_zero]
      refine wpList_store_row rfl 23 _ _ rfl p (vec j) rfl rfl 23 (vec vnil) M0.out (info_vec' _) (by rw [vec_size, vec_size]) (vec_one _) ?_
      refine wpList_store_row rfl 23 _ _ rfl q (vec m) rfl rfl 23 (vec vnil) M1.out (info_vec' _) (by rw [vec_size, vec_size]) (vec_one _) ?_
      simp only [Act.put, List.setIfInBounds_toArray, List.set_cons_succ, List.set_cons_zero]
      generalize (w'.setRow p (vec j)).setRow q (vec m) = W2 at N0 N1 NB ⊢
      clear M0 M1 hp1 hq1 hpq hB'

      have hBW2 : W2.heap.size ≤ W2.heap.size := Nat.le_refl _
      have hle := NB.out.size
      have hS := HS.out
      have R0 := Lib.hid (sub_row (HG0.out W2 (inSub_of NB.out)) (B := W2.heap.size) (by omega))
      have R1 := Lib.hid (sub_row (HG1.out W2 (inSub_of NB.out)) (B := W2.heap.size) (by omega))
      have R2 := Lib.hid (sub_row (HG2.out W2 (inSub_of NB.out)) (B := W2.heap.size) (by omega))
      have S0 := Lib.hid (sub_row N0.out (B := W2.heap.size) (lt_of_block N0.out))
      have S1 := Lib.hid (sub_row N1.out (B := W2.heap.size) (lt_of_block N1.out))
      have HBW := Lib.hid (HB.out.trans (NB.out.mono HB.out.size))
      have hb0 := Below.refl W2.heap.size W2
      clear N0 N1 NB HG0 HG1 HG2 hle hS HS HB HX8 HX9 he hz hBW
      cases ca
      all_goals cases bc
      all_goals
        have h15 := H15.out
        simp only [Bool.true_and, Bool.false_and] at h15
        have K15 := Lib.hid h15
        clear h15 H15
        have hT := HT.out
        first
          | (have hac := hT (by first | rfl | trivial) (by first | rfl | trivial); have k17 := H17.out; rw [hac] at k17; clear H17; have H17 := Lib.hid k17; clear k17)
          | skip
        clear hT HT
        go_upto_region 5 with fail
        refine wp_region_sub_plain (W := W2) (B := W2.heap.size) hb0 ?_
        repeat (any_goals (first
          | go_big_quiet_skip
          | (refine wpQuiet_load_row 23 _ rfl (w.heap.size) rfl rfl 23 (vec f) (0, 0) _ R0.out Try.underlying23 rfl (info_vec' _) ?_; simp only [Act.put, List.setIfInBounds_toArray, List.set_cons_succ, List.set_cons_zero])
          | (refine wpQuiet_load_row 23 _ rfl (w.heap.size + 1) rfl rfl 23 (vec g) (0, 0) _ R1.out Try.underlying23 rfl (info_vec' _) ?_; simp only [Act.put, List.setIfInBounds_toArray, List.set_cons_succ, List.set_cons_zero])
          | (refine wpQuiet_load_row 23 _ rfl (w.heap.size + 2) rfl rfl 23 (vec h) (0, 0) _ R2.out Try.underlying23 rfl (info_vec' _) ?_; simp only [Act.put, List.setIfInBounds_toArray, List.set_cons_succ, List.set_cons_zero])
          | (refine wpQuiet_load_row 23 _ rfl (p) rfl rfl 23 (vec j) (0, 0) _ S0.out Try.underlying23 rfl (info_vec' _) ?_; simp only [Act.put, List.setIfInBounds_toArray, List.set_cons_succ, List.set_cons_zero])
          | (refine wpQuiet_load_row 23 _ rfl (q) rfl rfl 23 (vec m) (0, 0) _ S1.out Try.underlying23 rfl (info_vec' _) ?_; simp only [Act.put, List.setIfInBounds_toArray, List.set_cons_succ, List.set_cons_zero])
          | go_big_quiet_step ((first | (go_at_call 24; with_reducible exact calls_sub _ (H9.out _) hBW2) | (go_at_call 24; with_reducible exact calls_sub _ (H10.out _) hBW2)))
          | quiet_step ((first | (go_at_call 24; with_reducible exact calls_sub _ (H9.out _) hBW2) | (go_at_call 24; with_reducible exact calls_sub _ (H10.out _) hBW2)))))
        refine wpQuiet_nil ?_
        rintro w8 ⟨x8, rfl⟩
        have hx8 := x8.below
        generalize x8.val = w8 at hx8 ⊢
        go_upto_region 6 with fail
        refine wp_region_sub_plain (W := W2) (B := W2.heap.size) hx8 ?_
        repeat (any_goals (first
          | go_big_quiet_skip
          | (refine wpQuiet_load_row 23 _ rfl (w.heap.size) rfl rfl 23 (vec f) (0, 0) _ R0.out Try.underlying23 rfl (info_vec' _) ?_; simp only [Act.put, List.setIfInBounds_toArray, List.set_cons_succ, List.set_cons_zero])
          | (refine wpQuiet_load_row 23 _ rfl (w.heap.size + 1) rfl rfl 23 (vec g) (0, 0) _ R1.out Try.underlying23 rfl (info_vec' _) ?_; simp only [Act.put, List.setIfInBounds_toArray, List.set_cons_succ, List.set_cons_zero])
          | (refine wpQuiet_load_row 23 _ rfl (w.heap.size + 2) rfl rfl 23 (vec h) (0, 0) _ R2.out Try.underlying23 rfl (info_vec' _) ?_; simp only [Act.put, List.setIfInBounds_toArray, List.set_cons_succ, List.set_cons_zero])
          | (refine wpQuiet_load_row 23 _ rfl (p) rfl rfl 23 (vec j) (0, 0) _ S0.out Try.underlying23 rfl (info_vec' _) ?_; simp only [Act.put, List.setIfInBounds_toArray, List.set_cons_succ, List.set_cons_zero])
          | (refine wpQuiet_load_row 23 _ rfl (q) rfl rfl 23 (vec m) (0, 0) _ S1.out Try.underlying23 rfl (info_vec' _) ?_; simp only [Act.put, List.setIfInBounds_toArray, List.set_cons_succ, List.set_cons_zero])
          | go_big_quiet_step ((first | (go_at_call 9; with_reducible exact calls_sub _ (HAW.out _) hBW2) | (go_at_call 24; with_reducible exact calls_sub _ (H9.out _) hBW2) | (go_at_call 24; with_reducible exact calls_sub _ (H10.out _) hBW2) | (go_at_call 24; with_reducible exact calls_sub _ (H11.out _) hBW2) | (go_at_call 24; with_reducible exact calls_sub _ (H12.out _) hBW2) | (go_at_call 24; with_reducible exact calls_sub _ (H13.out _) hBW2) | (go_at_call 24; with_reducible exact calls_sub _ (H14.out _) hBW2) | (go_at_call 24; with_reducible exact calls_sub _ (K15.out _) hBW2) | (go_at_call 24; with_reducible exact calls_sub _ (H16.out _) hBW2) | (go_at_call 24; with_reducible exact calls_sub _ (H17.out _) hBW2)))
          | quiet_step ((first | (go_at_call 9; with_reducible exact calls_sub _ (HAW.out _) hBW2) | (go_at_call 24; with_reducible exact calls_sub _ (H9.out _) hBW2) | (go_at_call 24; with_reducible exact calls_sub _ (H10.out _) hBW2) | (go_at_call 24; with_reducible exact calls_sub _ (H11.out _) hBW2) | (go_at_call 24; with_reducible exact calls_sub _ (H12.out _) hBW2) | (go_at_call 24; with_reducible exact calls_sub _ (H13.out _) hBW2) | (go_at_call 24; with_reducible exact calls_sub _ (H14.out _) hBW2) | (go_at_call 24; with_reducible exact calls_sub _ (K15.out _) hBW2) | (go_at_call 24; with_reducible exact calls_sub _ (H16.out _) hBW2) | (go_at_call 24; with_reducible exact calls_sub _ (H17.out _) hBW2)))))
        refine wpQuiet_nil ?_
        rintro w7 ⟨x7, rfl⟩
        have hb1 := x7.below
        generalize x7.val = w7 at hb1 ⊢
        go_wp2_with fail
        go_ret
        exact ⟨rfl, HBW.out.trans (hb1.mono HBW.out.size)⟩
end Go.Proofs.Ytjoacoiooijnlaa
