/-
  The walk of VecTwo, and its plain law.
-/
import Derived.Test.YtjoacoiooijnlaaVecM
import Derived.Test.YtjoacoiooijnlaaInv
namespace Go.Proofs.Ytjoacoiooijnlaa
open Go.RowKit

/-- what the reference's Has answers -/
def rhas (f : Nat → Int) (b n : Int) : Bool := verOk b n && decide (n ≤ vat f b)

theorem verOk_iff (b n : Int) : verOk b n = true ↔ 1 ≤ b ∧ b ≤ 64 ∧ 1 ≤ n := by simp [verOk]
theorem rhas_iff (f : Nat → Int) (b n : Int) : rhas f b n = true ↔ (1 ≤ b ∧ b ≤ 64 ∧ 1 ≤ n) ∧ n ≤ f b.toNat := by
  unfold rhas
  rw [Bool.and_eq_true, verOk_iff, decide_eq_true_iff]
  constructor
  · rintro ⟨⟨h1, h2, h3⟩, h⟩
    unfold vat at h
    rw [if_neg (by omega)] at h
    exact ⟨⟨h1, h2, h3⟩, by omega⟩
  · rintro ⟨⟨h1, h2, h3⟩, h⟩
    refine ⟨⟨h1, h2, h3⟩, ?_⟩
    unfold vat
    rw [if_neg (by omega)]
    omega
theorem vhas_iff (f : Nat → Int) (b n : Int) : vhas f b n = true ↔ (1 ≤ b ∧ b ≤ 64 ∧ 1 ≤ n) ∧ n ≤ f b.toNat := by
  unfold vhas
  rw [Bool.and_eq_true, verOk_iff, decide_eq_true_iff]
theorem vhas_rhas (f : Nat → Int) (b n : Int) : vhas f b n = rhas f b n := Bool.eq_iff_iff.2 ((vhas_iff f b n).trans (rhas_iff f b n).symm)
theorem vclean_pos (f : Nat → Int) (i : Nat) (h : 1 ≤ i) : vclean f i = max (f i) 0 := by unfold vclean; rw [if_neg (by omega)]
theorem vclean_zero (f : Nat → Int) : vclean f 0 = 0 := by simp [vclean]
theorem vclean_nonneg (f : Nat → Int) (i : Nat) : 0 ≤ vclean f i := by unfold vclean; split <;> omega
theorem vat_pos (f : Nat → Int) (i : Nat) (h1 : 1 ≤ i) (h2 : i ≤ 64) : vat f i = max (f i) 0 := by unfold vat; rw [if_neg (by omega)]; simp
theorem vat_zero (f : Nat → Int) : vat f ((0 : Nat) : Int) = 0 := by unfold vat; rw [if_pos (by simp)]
/-- a vector that counts as it is -/
theorem vplain_of {f : Nat → Int} (h0 : f 0 = 0) (h : ∀ i, 1 ≤ i → i ≤ 64 → 0 ≤ f i) : vplain f = true := by
  rw [vplain_iff]
  intro i hi
  rcases Nat.eq_zero_or_pos i with rfl | hp
  · rw [h0, vat_zero]
  · rw [vat_pos f i hp hi]; have := h i hp hi; omega
theorem vmax_plain (f g : Nat → Int) : vplain (vmax f g) = true :=
  vplain_of (by simp [vmax, vclean_zero]) fun i _ _ => by have := vclean_nonneg f i; unfold vmax; omega
theorem vmin_plain (f g : Nat → Int) : vplain (vmin f g) = true :=
  vplain_of (by simp [vmin, vclean_zero]) fun i _ _ => by have := vclean_nonneg f i; have := vclean_nonneg g i; unfold vmin; omega
theorem vmax_has (f g : Nat → Int) (b n : Int) : vhas (vmax f g) b n = (rhas f b n || rhas g b n) := by
  rw [Bool.eq_iff_iff, Bool.or_eq_true, vhas_iff, rhas_iff, rhas_iff]
  unfold vmax
  constructor
  · rintro ⟨⟨h1, h2, h3⟩, h⟩
    rw [vclean_pos f _ (by omega), vclean_pos g _ (by omega)] at h
    by_cases hf : n ≤ f b.toNat
    · exact .inl ⟨⟨h1, h2, h3⟩, hf⟩
    · exact .inr ⟨⟨h1, h2, h3⟩, by omega⟩
  · rintro (⟨⟨h1, h2, h3⟩, h⟩ | ⟨⟨h1, h2, h3⟩, h⟩) <;>
      exact ⟨⟨h1, h2, h3⟩, by rw [vclean_pos f _ (by omega), vclean_pos g _ (by omega)]; omega⟩
theorem vmin_has (f g : Nat → Int) (b n : Int) : vhas (vmin f g) b n = (rhas f b n && rhas g b n) := by
  rw [Bool.eq_iff_iff, Bool.and_eq_true, vhas_iff, rhas_iff, rhas_iff]
  unfold vmin
  constructor
  · rintro ⟨⟨h1, h2, h3⟩, h⟩
    rw [vclean_pos f _ (by omega), vclean_pos g _ (by omega)] at h
    exact ⟨⟨⟨h1, h2, h3⟩, by omega⟩, ⟨h1, h2, h3⟩, by omega⟩
  · rintro ⟨⟨⟨h1, h2, h3⟩, h⟩, _, h'⟩
    exact ⟨⟨h1, h2, h3⟩, by rw [vclean_pos f _ (by omega), vclean_pos g _ (by omega)]; omega⟩
theorem vecEq_refl (f : Nat → Int) : vecEq f f = true := (vecEq_iff f f).2 fun _ _ => rfl
theorem vmax_comm (f g : Nat → Int) : vmax f g = vmax g f := by funext i; unfold vmax; omega
theorem vmin_comm (f g : Nat → Int) : vmin f g = vmin g f := by funext i; unfold vmin; omega

attribute [local irreducible] vec vmax vmin vclean

set_option maxHeartbeats 4000000 in
theorem vecTwo_walk (f g : Nat → Int) (b n : Int) (w : World) :
    Calls Try.prog 5 #[.agg (vec f), .agg (vec g), .agg #[.int .i64 b, .int .i64 n]] w fun e w' => e = .returned (.bool true) ∧ Below w.heap.size w w' := by
  have hz := zero_vec
  go_enter Try.func5, Try.ntmps5
  go_upto_region 1 with fail
  obtain ⟨g0, g1, g2, hB, hS⟩ := three_blocks w (.cells (vec f) 23) (.cells (vec g) 23) (.cells #[.int .i64 b, .int .i64 n] 25)
  generalize ((w.alloc (.cells (vec f) 23)).alloc (.cells (vec g) 23)).alloc (.cells #[.int .i64 b, .int .i64 n] 25) = W at g0 g1 g2 hB hS ⊢
  have hBW : W.heap.size ≤ W.heap.size := Nat.le_refl _
  have HG0 := Lib.hid (sub_row g0 (B := W.heap.size) (by omega))
  have HG1 := Lib.hid (sub_row g1 (B := W.heap.size) (by omega))
  clear g0 g1 hS
  have hS0 : w.heap.size + 1 < W.heap.size := by have := lt_of_block g2; omega
  refine wp_region_inv 8 (by kernel_rfl) (by kernel_rfl) (fun a L a' w' => ∃ t11 t12 t13 t14 t15 t16 t7 t8 : Value,
    a' = (((((((a.put (some 11) t11).put (some 12) t12).put (some 13) t13).put (some 14) t14).put (some 15) t15).put (some 16) t16).put (some 7) t7).put (some 8) t8 ∧ Below W.heap.size W w' ∧
    (L 0 = true → t11 = .agg (vec f)) ∧ (L 1 = true → t12 = .agg (vec g)) ∧ (L 2 = true → t13 = .agg (vec (vmax f g))) ∧ (L 3 = true → t14 = .agg (vec f)) ∧ (L 4 = true → t15 = .agg (vec g)) ∧ (L 5 = true → t16 = .agg (vec (vmin f g))) ∧
    (L 6 = true → ∃ p, t7 = .pointer (some ⟨p, 0, none⟩) ∧ W.heap.size ≤ p ∧ w'.heap[p]? = some (.cells (vec vnil) 23 (0, 0))) ∧
    (L 7 = true → ∃ p, t8 = .pointer (some ⟨p, 0, none⟩) ∧ W.heap.size ≤ p ∧ w'.heap[p]? = some (.cells (vec vnil) 23 (0, 0))) ∧
    (L 6 = true → L 7 = true → t7 ≠ t8)) ?_ ?_ ?_
  · refine ⟨undef, undef, undef, undef, undef, undef, undef, undef, ?_, (Below.refl _ _).drew, ?_⟩
    · simp only [Act.put, List.setIfInBounds_toArray, List.set_cons_succ, List.set_cons_zero]
    · simp
  · rintro L a' w' i o ⟨t11, t12, t13, t14, t15, t16, t7, t8, rfl, hB', i0, i1, i2, i3, i4, i5, i6, i7, i67⟩ hi hL ho hd K' hK
    simp only [Act.put, List.setIfInBounds_toArray, List.set_cons_succ, List.set_cons_zero]
    match i, hi with
    | 0, _ =>
      cases ho
      rw [if_pos (by rfl)]
      refine wp_load_row 23 _ rfl (w.heap.size) rfl 23 (vec f) (0, 0) _ (HG0.out _ (inSub_of hB')) Try.underlying23 rfl (info_vec' _) (hK _ _ ?_)
      refine ⟨(.agg (vec f)), t12, t13, t14, t15, t16, t7, t8, ?_, hB', fun _ => rfl, i1, i2, i3, i4, i5, i6, i7, i67⟩
      simp only [Act.put, List.setIfInBounds_toArray, List.set_cons_succ, List.set_cons_zero]
    | 1, _ =>
      cases ho
      rw [if_pos (by rfl)]
      refine wp_load_row 23 _ rfl (w.heap.size + 1) rfl 23 (vec g) (0, 0) _ (HG1.out _ (inSub_of hB')) Try.underlying23 rfl (info_vec' _) (hK _ _ ?_)
      refine ⟨t11, (.agg (vec g)), t13, t14, t15, t16, t7, t8, ?_, hB', i0, fun _ => rfl, i2, i3, i4, i5, i6, i7, i67⟩
      simp only [Act.put, List.setIfInBounds_toArray, List.set_cons_succ, List.set_cons_zero]
    | 2, _ =>
      cases ho
      obtain rfl := i0 (hd ⟨0, .data⟩ (by simp) rfl)
      obtain rfl := i1 (hd ⟨1, .data⟩ (by simp) rfl)
      rw [if_pos (by rfl)]
      go_simp
      go_at_call 22
      refine (maxv_walk f g _).mono ?_
      rintro e w2 ⟨rfl, hb⟩
      refine hK _ _ ?_
      refine ⟨_, _, (.agg (vec (vmax f g))), t14, t15, t16, t7, t8, ?_, hB'.trans (hb.mono hB'.size), i0, i1, fun _ => rfl, i3, i4, i5, fun h => (by obtain ⟨p, e1, e2, e3⟩ := i6 h; exact ⟨p, e1, e2, (hb.block p (lt_of_block e3)).trans e3⟩), fun h => (by obtain ⟨p, e1, e2, e3⟩ := i7 h; exact ⟨p, e1, e2, (hb.block p (lt_of_block e3)).trans e3⟩), i67⟩
      simp only [Act.put, List.setIfInBounds_toArray, List.set_cons_succ, List.set_cons_zero]
    | 3, _ =>
      cases ho
      rw [if_pos (by rfl)]
      refine wp_load_row 23 _ rfl (w.heap.size) rfl 23 (vec f) (0, 0) _ (HG0.out _ (inSub_of hB')) Try.underlying23 rfl (info_vec' _) (hK _ _ ?_)
      refine ⟨t11, t12, t13, (.agg (vec f)), t15, t16, t7, t8, ?_, hB', i0, i1, i2, fun _ => rfl, i4, i5, i6, i7, i67⟩
      simp only [Act.put, List.setIfInBounds_toArray, List.set_cons_succ, List.set_cons_zero]
    | 4, _ =>
      cases ho
      rw [if_pos (by rfl)]
      refine wp_load_row 23 _ rfl (w.heap.size + 1) rfl 23 (vec g) (0, 0) _ (HG1.out _ (inSub_of hB')) Try.underlying23 rfl (info_vec' _) (hK _ _ ?_)
      refine ⟨t11, t12, t13, t14, (.agg (vec g)), t16, t7, t8, ?_, hB', i0, i1, i2, i3, fun _ => rfl, i5, i6, i7, i67⟩
      simp only [Act.put, List.setIfInBounds_toArray, List.set_cons_succ, List.set_cons_zero]
    | 5, _ =>
      cases ho
      obtain rfl := i3 (hd ⟨3, .data⟩ (by simp) rfl)
      obtain rfl := i4 (hd ⟨4, .data⟩ (by simp) rfl)
      rw [if_pos (by rfl)]
      go_simp
      go_at_call 23
      refine (minv_walk f g _).mono ?_
      rintro e w2 ⟨rfl, hb⟩
      refine hK _ _ ?_
      refine ⟨t11, t12, t13, _, _, (.agg (vec (vmin f g))), t7, t8, ?_, hB'.trans (hb.mono hB'.size), i0, i1, i2, i3, i4, fun _ => rfl, fun h => (by obtain ⟨p, e1, e2, e3⟩ := i6 h; exact ⟨p, e1, e2, (hb.block p (lt_of_block e3)).trans e3⟩), fun h => (by obtain ⟨p, e1, e2, e3⟩ := i7 h; exact ⟨p, e1, e2, (hb.block p (lt_of_block e3)).trans e3⟩), i67⟩
      simp only [Act.put, List.setIfInBounds_toArray, List.set_cons_succ, List.set_cons_zero]
    | 6, _ =>
      cases ho
      rw [if_pos (by rfl)]
      go_simp
      refine hK _ _ ?_
      refine ⟨t11, t12, t13, t14, t15, t16, (.pointer (some ⟨w'.heap.size, 0, none⟩)), t8, ?_, hB'.alloc hB'.size _, i0, i1, i2, i3, i4, i5, fun _ => ⟨_, rfl, hB'.size, heap_alloc_top w' _⟩, fun h => (by obtain ⟨p, e1, e2, e3⟩ := i7 h; exact ⟨p, e1, e2, ((below_alloc w' (.cells (vec vnil) 23)).block p (lt_of_block e3)).trans e3⟩), fun _ h => (by obtain ⟨p, e1, e2, e3⟩ := i7 h; rw [e1]; have := lt_of_block e3; intro e; cases e; omega)⟩
      simp only [Act.put, List.setIfInBounds_toArray, List.set_cons_succ, List.set_cons_zero]
    | 7, _ =>
      cases ho
      rw [if_pos (by rfl)]
      go_simp
      refine hK _ _ ?_
      refine ⟨t11, t12, t13, t14, t15, t16, t7, (.pointer (some ⟨w'.heap.size, 0, none⟩)), ?_, hB'.alloc hB'.size _, i0, i1, i2, i3, i4, i5, fun h => (by obtain ⟨p, e1, e2, e3⟩ := i6 h; exact ⟨p, e1, e2, ((below_alloc w' (.cells (vec vnil) 23)).block p (lt_of_block e3)).trans e3⟩), fun _ => ⟨_, rfl, hB'.size, heap_alloc_top w' _⟩, fun h _ => (by obtain ⟨p, e1, e2, e3⟩ := i6 h; rw [e1]; have := lt_of_block e3; intro e; cases e; omega)⟩
      simp only [Act.put, List.setIfInBounds_toArray, List.set_cons_succ, List.set_cons_zero]
  · rintro L a' w' ⟨t11, t12, t13, t14, t15, t16, t7, t8, rfl, hB', i0, i1, i2, i3, i4, i5, i6, i7, i67⟩ hL
    obtain rfl := i0 (hL 0 (by omega)); obtain rfl := i1 (hL 1 (by omega)); obtain rfl := i2 (hL 2 (by omega)); obtain rfl := i3 (hL 3 (by omega)); obtain rfl := i4 (hL 4 (by omega)); obtain rfl := i5 (hL 5 (by omega))
    obtain ⟨p, rfl, hp1, hp2⟩ := i6 (hL 6 (by omega))
    obtain ⟨q, rfl, hq1, hq2⟩ := i7 (hL 7 (by omega))
    have hpq : p ≠ q := by rintro rfl; exact i67 (hL 6 (by omega)) (hL 7 (by omega)) rfl
    clear i0 i1 i2 i3 i4 i5 i6 i7 i67 hL
    simp only [Act.put, List.setIfInBounds_toArray, List.set_cons_succ, List.set_cons_zero]
    have M0 := Lib.hid hp2
    have M1 := Lib.hid ((heap_setRow_other w' p q (vec (vmax f g)) (fun e => hpq e.symm)).trans hq2)
    have N0 := Lib.hid ((heap_setRow_other (w'.setRow p (vec (vmax f g))) q p (vec (vmin f g)) hpq).trans (heap_setRow_same (cs := vec (vmax f g)) hp2))
    have N1 := Lib.hid (heap_setRow_same (cs := vec (vmin f g)) M1.out)
    have NB := Lib.hid (below_setRow (below_setRow hB' hp1 (vec (vmax f g))) hq1 (vec (vmin f g)))
    clear hp2 hq2
    simp only [List.drop_succ_cons, List.drop_zero]
    refine wpList_store_row rfl 23 _ _ rfl p (vec (vmax f g)) rfl rfl 23 (vec vnil) M0.out (info_vec' _) (by rw [vec_size, vec_size]) (vec_one _) ?_
    refine wpList_store_row rfl 23 _ _ rfl q (vec (vmin f g)) rfl rfl 23 (vec vnil) M1.out (info_vec' _) (by rw [vec_size, vec_size]) (vec_one _) ?_
    simp only [Act.put, List.setIfInBounds_toArray, List.set_cons_succ, List.set_cons_zero]
    generalize (w'.setRow p (vec (vmax f g))).setRow q (vec (vmin f g)) = W2 at N0 N1 NB ⊢
    clear M0 M1 hp1 hq1 hpq hB'
    have hBW2 : W2.heap.size ≤ W2.heap.size := Nat.le_refl _
    have hle := NB.out.size
    have R0 := Lib.hid (sub_row (HG0.out W2 (inSub_of NB.out)) (B := W2.heap.size) (by omega))
    have R1 := Lib.hid (sub_row (HG1.out W2 (inSub_of NB.out)) (B := W2.heap.size) (by omega))
    have R2 := Lib.hid (sub_row ((NB.out.block (w.heap.size + 2) (lt_of_block g2)).trans g2) (B := W2.heap.size) (Nat.lt_of_lt_of_le (lt_of_block g2) hle))
    have S0 := Lib.hid (sub_row N0.out (B := W2.heap.size) (lt_of_block N0.out))
    have S1 := Lib.hid (sub_row N1.out (B := W2.heap.size) (lt_of_block N1.out))
    have HBW := Lib.hid (hB.trans (NB.out.mono hB.size))
    clear N0 N1 NB HG0 HG1 hle hS0 g2 hB hBW hz
    have h1 := fun w => refHas_walk f b n w
    have h2 := fun w => refHas_walk g b n w
    have h3 := fun w => has_walk (vmax f g) b n w
    have h4 := fun w => has_walk (vmin f g) b n w
    have h5 := fun w => refPlain_walk (vmax f g) w
    have h6 := fun w => refPlain_walk (vmin f g) w
    have h7 := fun w => maxv_walk g f w
    have h8 := fun w => minv_walk g f w
    rw [vmax_has] at h3; rw [vmin_has] at h4; rw [vmax_plain] at h5; rw [vmin_plain] at h6
    rw [vmax_comm] at h7; rw [vmin_comm] at h8
    change ∀ w, Calls _ _ _ _ fun e w' => e = .returned (.bool (rhas f b n)) ∧ _ at h1
    change ∀ w, Calls _ _ _ _ fun e w' => e = .returned (.bool (rhas g b n)) ∧ _ at h2
    have e1 := fun w => eq_vec (vmax f g) (vmax f g) w
    have e2 := fun w => eq_vec (vmin f g) (vmin f g) w
    rw [vecEq_refl] at e1 e2
    generalize rhas f b n = p1 at h1 h3 h4
    generalize rhas g b n = p2 at h2 h3 h4
    have H1 := Lib.hid h1; have H2 := Lib.hid h2; have H5 := Lib.hid h5; have H6 := Lib.hid h6; have H7 := Lib.hid h7; have H8 := Lib.hid h8
    clear h1 h2 h5 h6 h7 h8
    go_wp2_with fail
    refine wp_region_sub (W := W2) (B := W2.heap.size) (by kernel_rfl) (by kernel_rfl) (Below.refl _ _) ?_
    repeat (any_goals (first
      | go_big_quiet_skip
      | (refine wpQuiet_load_row 23 _ rfl w.heap.size rfl rfl 23 (vec f) (0, 0) _ R0.out Try.underlying23 rfl (info_vec' f) ?_; simp only [Act.put, List.setIfInBounds_toArray, List.set_cons_succ, List.set_cons_zero])
      | (refine wpQuiet_load_row 23 _ rfl (w.heap.size + 1) rfl rfl 23 (vec g) (0, 0) _ R1.out Try.underlying23 rfl (info_vec' g) ?_; simp only [Act.put, List.setIfInBounds_toArray, List.set_cons_succ, List.set_cons_zero])
      | (refine wpQuiet_load_row 25 _ rfl (w.heap.size + 2) rfl rfl 25 #[.int .i64 b, .int .i64 n] (0, 0) _ R2.out Try.underlying25 rfl (by kernel_rfl) ?_; simp only [Act.put, List.setIfInBounds_toArray, List.set_cons_succ, List.set_cons_zero])
      | go_big_quiet_step ((first | (go_at_call 11; with_reducible exact calls_sub _ (H1.out _) hBW2) | (go_at_call 11; with_reducible exact calls_sub _ (H2.out _) hBW2)))
      | quiet_step ((first | (go_at_call 11; with_reducible exact calls_sub _ (H1.out _) hBW2) | (go_at_call 11; with_reducible exact calls_sub _ (H2.out _) hBW2)))))
    refine wpQuiet_nil ?_
    rintro w8 ⟨x8, rfl⟩
    have hx8 := x8.below
    generalize x8.val = w8 at hx8 ⊢
    cases p1 <;> cases p2
    all_goals
      simp only [Bool.or_true, Bool.or_false, Bool.and_true, Bool.and_false] at h3 h4
      have H3 := Lib.hid h3; have H4 := Lib.hid h4
      clear h3 h4
      go_wp2_with fail
      refine wp_region_sub (W := W2) (B := W2.heap.size) (by kernel_rfl) (by kernel_rfl) hx8 ?_
      repeat (any_goals (first
        | go_big_quiet_skip
        | (refine wpQuiet_load_row 23 _ rfl w.heap.size rfl rfl 23 (vec f) (0, 0) _ R0.out Try.underlying23 rfl (info_vec' f) ?_; simp only [Act.put, List.setIfInBounds_toArray, List.set_cons_succ, List.set_cons_zero])
        | (refine wpQuiet_load_row 23 _ rfl (w.heap.size + 1) rfl rfl 23 (vec g) (0, 0) _ R1.out Try.underlying23 rfl (info_vec' g) ?_; simp only [Act.put, List.setIfInBounds_toArray, List.set_cons_succ, List.set_cons_zero])
        | (refine wpQuiet_load_row 25 _ rfl (w.heap.size + 2) rfl rfl 25 #[.int .i64 b, .int .i64 n] (0, 0) _ R2.out Try.underlying25 rfl (by kernel_rfl) ?_; simp only [Act.put, List.setIfInBounds_toArray, List.set_cons_succ, List.set_cons_zero])
        | (refine wpQuiet_load_row 23 _ rfl p rfl rfl 23 (vec (vmax f g)) (0, 0) _ S0.out Try.underlying23 rfl (info_vec' _) ?_; simp only [Act.put, List.setIfInBounds_toArray, List.set_cons_succ, List.set_cons_zero])
        | (refine wpQuiet_load_row 23 _ rfl q rfl rfl 23 (vec (vmin f g)) (0, 0) _ S1.out Try.underlying23 rfl (info_vec' _) ?_; simp only [Act.put, List.setIfInBounds_toArray, List.set_cons_succ, List.set_cons_zero])
        | go_big_quiet_step ((first | (go_at_call 9; exact calls_sub _ (awake_walk _) hBW2) | (go_at_call 13; with_reducible exact calls_sub _ (H5.out _) hBW2) | (go_at_call 13; with_reducible exact calls_sub _ (H6.out _) hBW2) | (go_at_call 10; with_reducible exact calls_sub _ (H3.out _) hBW2) | (go_at_call 10; with_reducible exact calls_sub _ (H4.out _) hBW2) | (go_at_call 22; with_reducible exact calls_sub _ (H7.out _) hBW2) | (go_at_call 23; with_reducible exact calls_sub _ (H8.out _) hBW2)))
        | quiet_step ((first | (go_at_call 9; exact calls_sub _ (awake_walk _) hBW2) | (go_at_call 13; with_reducible exact calls_sub _ (H5.out _) hBW2) | (go_at_call 13; with_reducible exact calls_sub _ (H6.out _) hBW2) | (go_at_call 10; with_reducible exact calls_sub _ (H3.out _) hBW2) | (go_at_call 10; with_reducible exact calls_sub _ (H4.out _) hBW2) | (go_at_call 22; with_reducible exact calls_sub _ (H7.out _) hBW2) | (go_at_call 23; with_reducible exact calls_sub _ (H8.out _) hBW2)))))
      refine wpQuiet_nil ?_
      rintro w9 ⟨x9, rfl⟩
      have hx9 := x9.below
      generalize x9.val = w9 at hx9 ⊢
      go_wp2_with fail
      go_ret
      exact ⟨rfl, HBW.out.trans (hx9.mono HBW.out.size)⟩
end Go.Proofs.Ytjoacoiooijnlaa
