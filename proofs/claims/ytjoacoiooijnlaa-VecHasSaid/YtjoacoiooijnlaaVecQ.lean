/-
  The walk of VecHas, and its plain law.
-/
import Derived.Test.YtjoacoiooijnlaaVecN
import Derived.Test.YtjoacoiooijnlaaMix
namespace Go.Proofs.Ytjoacoiooijnlaa
open Go.RowKit

theorem vof_ends (f : Nat → Int) : ∀ k, k ≤ 65 → ∀ i, vof (endsTo f k) i = if i < k then vclean f i else 0
  | 0, _, i => by simp [endsTo, vof, vnil]
  | k + 1, hk, i => by
    have ih := vof_ends f k (by omega)
    have hcl : ∀ i, vclean (vof (endsTo f k)) i = if i < k then vclean f i else 0 := by
      intro i
      rcases Nat.eq_zero_or_pos i with rfl | hp
      · simp [vclean_zero]
      · rw [vclean_pos _ i hp, ih i]
        have := vclean_nonneg f i
        split <;> omega
    simp only [endsTo]
    by_cases hpos : 0 < vclean f k
    · rw [if_pos hpos, vof_snoc]
      have hk1 : 1 ≤ k := by
        rcases Nat.eq_zero_or_pos k with rfl | h
        · simp [vclean_zero] at hpos
        · exact h
      have hok : verOk (k : Int) (vclean f k) = true := decide_eq_true ⟨by omega, by omega, by omega⟩
      unfold vadd
      rw [hcl i]
      by_cases hik : i = k
      · subst hik
        simp only [hok, true_and, if_true]
        rw [if_neg (by omega), if_pos (by omega)]
        omega
      · rw [if_neg (by rintro ⟨_, h⟩; omega)]
        by_cases hlt : i < k
        · rw [if_pos hlt, if_pos (by omega)]
        · rw [if_neg hlt, if_neg (by omega)]
    · rw [if_neg hpos, List.append_nil, ih i]
      have := vclean_nonneg f k
      by_cases hlt : i < k
      · rw [if_pos hlt, if_pos (by omega)]
      · by_cases hik : i = k
        · subst hik; rw [if_neg hlt, if_pos (by omega)]; omega
        · rw [if_neg hlt, if_neg (by omega)]
theorem vof_ends_clean (f : Nat → Int) : vecEq (vof (endsTo f 65)) (vclean f) = true := (vecEq_iff _ _).2 fun i hi => by rw [vof_ends f 65 (Nat.le_refl _) i, if_pos hi]
theorem clean_clean (f : Nat → Int) (i : Nat) : vclean (vclean f) i = vclean f i := by
  rcases Nat.eq_zero_or_pos i with rfl | hp
  · simp [vclean_zero]
  · rw [vclean_pos _ i hp]; have := vclean_nonneg f i; omega
theorem clean_cov (f : Nat → Int) : (vcov (vclean f) f && vcov f (vclean f)) = true := by
  rw [Bool.and_eq_true, vcov_iff, vcov_iff]
  constructor <;> intro i h1 h2 <;> rw [vat_pos _ i h1 h2, vat_pos _ i h1 h2, vclean_pos f i h1] <;> omega
theorem clean_plain (f : Nat → Int) : vplain (vclean f) = true := vplain_of (vclean_zero f) fun i _ _ => vclean_nonneg f i

theorem below_step {W w w' : World} (h : Below W.heap.size W w) (hb : Below w.heap.size w w') : Below W.heap.size W w' := h.trans (hb.mono h.size)

attribute [local irreducible] vec vclean

set_option maxHeartbeats 8000000 in
theorem vecHas_walk (f : Nat → Int) (b n : Int) (w : World) :
    Calls Try.prog 3 #[.agg (vec f), .agg #[.int .i64 b, .int .i64 n]] w fun e w' => e = .returned (.bool true) ∧ Below w.heap.size w w' := by
  have hz := zero_vec
  have h1 := fun w => has_walk f b n w
  have h2 := fun w => refHas_walk f b n w
  have h3 := fun w => refSame_walk (vclean f) f w
  have h4 := fun w => refPlain_walk (vclean f) w
  have h5 := fun w => refEnds_walk f w
  have h6 := fun w => ends_walk f w
  have h7 := fun w => sum_walk f w
  have hl65 : (endsTo f 65).length ≤ 65 := endsTo_le f 65
  have h8 := fun ad cap w hl => of_walk ad cap (endsTo f 65) w hl (by omega)
  have h9 := fun ad1 ad2 cap1 cap2 w k1 k2 => same_walk ad1 ad2 cap1 cap2 (endsTo f 65) (endsTo f 65) w k1 k2 (by omega) (by omega)
  have he := fun w => eq_vec (vof (endsTo f 65)) (vclean f) w
  have h10 := fun w => clean_walk f w
  rw [vhas_rhas] at h1
  change ∀ w, Calls _ _ _ _ fun e w' => e = .returned (.bool (rhas f b n)) ∧ _ at h2
  rw [clean_cov] at h3; rw [clean_plain] at h4; rw [vof_ends_clean] at he; rw [decide_eq_true rfl] at h9
  generalize vof (endsTo f 65) = F at h8 he
  generalize endsTo f 65 = l at h5 h6 h7 h8 h9 hl65
  generalize vclean f = cf at h3 h4 h10 he
  generalize rhas f b n = B at h1 h2
  have H1 := Lib.hid h1; have H2 := Lib.hid h2; have H3 := Lib.hid h3; have H4 := Lib.hid h4; have H5 := Lib.hid h5; have H6 := Lib.hid h6; have H7 := Lib.hid h7; have H8 := Lib.hid h8; have H9 := Lib.hid h9; have H10 := Lib.hid h10
  have HL65 := Lib.hid hl65
  clear h1 h2 h3 h4 h5 h6 h7 h8 h9 h10 hl65
  go_enter Try.func3, Try.ntmps3
  go_upto_region 1 with fail
  obtain ⟨g0, g1, hB, hS⟩ := two_blocks w (.cells (vec f) 23) (.cells #[.int .i64 b, .int .i64 n] 25)
  generalize (w.alloc (.cells (vec f) 23)).alloc (.cells #[.int .i64 b, .int .i64 n] 25) = W0 at g0 g1 hB hS ⊢
  obtain ⟨x, hx⟩ : ∃ x, x = w.heap.size + 1 := ⟨_, rfl⟩
  rw [← hx] at g1 ⊢
  have hx0 : x < W0.heap.size := by omega
  have hx1 : w.heap.size < x := by omega
  have G0 := Lib.hid g0; have G1 := Lib.hid g1; have HB := Lib.hid hB
  clear g0 g1 hB hS hx
  go_wp2_with (refine wpList_row 23 _ rfl w.heap.size rfl rfl 23 (vec f) (0, 0) _ G0.out Try.underlying23 rfl (info_vec' _) ?_)
  refine (H10.out _).mono ?_
  rintro e w1 ⟨rfl, hb1⟩
  have q0 := heap_alloc_top w1 (.cells (vec vnil) 23)
  have q1 := heap_setRow_same (cs := vec cf) q0
  have hs1 := hb1.size
  have q2 := below_setRow (hb1.alloc hs1 (.cells (vec vnil) 23)) (g := w1.heap.size) hs1 (vec cf)
  have q3 : w1.heap.size < ((w1.alloc (.cells (vec vnil) 23)).setRow w1.heap.size (vec cf)).heap.size := by simp
  have Q0 := Lib.hid q0; have Q1 := Lib.hid q1; have Q2 := Lib.hid q2; have Q3 := Lib.hid q3
  clear q0 q1 q2 q3 hb1
  go_upto_region 2 with (refine wpList_store_row rfl 23 _ _ rfl w1.heap.size (vec cf) rfl rfl 23 (vec vnil) Q0.out (info_vec' _) (by rw [vec_size, vec_size]) (vec_one _) ?_)
  generalize (w1.alloc (.cells (vec vnil) 23)).setRow w1.heap.size (vec cf) = W1 at Q1 Q2 Q3 ⊢
  obtain ⟨q, hq⟩ : ∃ q, q = w1.heap.size := ⟨_, rfl⟩
  rw [← hq] at Q1 Q3 hs1 ⊢
  clear Q0 hq
  have G0' := Lib.hid ((Q2.out.block w.heap.size (lt_of_block G0.out)).trans G0.out)
  have G1' := Lib.hid ((Q2.out.block x hx0).trans G1.out)
  clear G0 G1
  go_wp2_with (refine wpList_row 23 _ rfl w.heap.size rfl rfl 23 (vec f) (0, 0) _ G0'.out Try.underlying23 rfl (info_vec' _) ?_)
  refine (H6.out _).mono ?_
  rintro e W ⟨v, rfl, hown, hb2⟩
  obtain ⟨ad, cap, rfl, hv⟩ := versAt_own hown
  have HL := Lib.hid hv
  have r0 := (hb2.block w.heap.size (lt_of_block G0'.out)).trans G0'.out
  have r1 := (hb2.block x (lt_of_block G1'.out)).trans G1'.out
  have r2 := (hb2.block q Q3.out).trans Q1.out
  have HBW := Lib.hid ((HB.out.trans (Q2.out.mono HB.out.size)).trans (hb2.mono (Nat.le_trans HB.out.size Q2.out.size)))
  have l0 := lt_of_block r0; have l1 := lt_of_block r1; have l2 := lt_of_block r2
  have R0 := Lib.hid (sub_row r0 (B := W.heap.size) l0)
  have R1 := Lib.hid (sub_row r1 (B := W.heap.size) l1)
  have R2 := Lib.hid (sub_row r2 (B := W.heap.size) l2)
  have hBW : W.heap.size ≤ W.heap.size := Nat.le_refl _
  clear r0 r1 r2 l0 l1 l2 hb2 hown hv G0' G1' Q1 Q2 Q3 HB hx0 hs1
  have HAW := Lib.hid (fun w => awake_walk w)
  go_wp2_with fail
  refine wp_region_mix (inSub W.heap.size W) [(0,false),(1,true),(2,true),(3,true),(5,true),(6,true),(4,false),(7,false),(8,true),(9,true),(10,true),(11,true),(12,true),(13,false),(14,true),(15,true),(16,true),(17,false),(18,true),(19,true),(20,true),(21,true),(22,false),(23,false),(24,true),(25,true),(26,true),(28,true),(29,true),(27,false),(30,true),(31,true),(32,true),(33,true),(35,true),(34,false),(36,true),(37,true),(38,true)] (by kernel_rfl) (by kernel_rfl) (inSub_of (Below.refl _ _).drew) ?_
  have hb0 : Below W.heap.size W W.drew := (Below.refl _ _).drew
  generalize W.drew = w0 at hb0 ⊢
  simp only [List.filterMap_cons, List.filterMap_nil, List.getElem?_cons_zero, List.getElem?_cons_succ, Option.map_some]
  repeat (first
    | (refine mix_load_row 23 _ rfl (by rfl) w.heap.size rfl 23 (vec f) (0, 0) _ R0.out Try.underlying23 rfl (info_vec' _) ?_; simp only [Act.put, List.setIfInBounds_toArray, List.set_cons_succ, List.set_cons_zero])
    | (refine mix_load_row 23 _ rfl (by rfl) q rfl 23 (vec cf) (0, 0) _ R2.out Try.underlying23 rfl (info_vec' _) ?_; simp only [Act.put, List.setIfInBounds_toArray, List.set_cons_succ, List.set_cons_zero])
    | (refine mix_load_row 25 _ rfl (by rfl) x rfl 25 #[.int .i64 b, .int .i64 n] (0, 0) _ R1.out Try.underlying25 rfl (by kernel_rfl) ?_; simp only [Act.put, List.setIfInBounds_toArray, List.set_cons_succ, List.set_cons_zero])
    | (refine mix_read (by rfl) ?_; apply Exists.intro; refine ⟨fun w9 hw9 => ?_, ?_⟩; (· go_simp; rfl); simp only [Act.put, List.setIfInBounds_toArray, List.set_cons_succ, List.set_cons_zero])
    | (refine mix_step (by rfl) (fun K' hK => ?_)
       go_simp
       first
      | (go_at_call 9; (with_reducible refine (calls_in (HAW.out _) (by assumption) hBW).mono ?_); rintro e w9 ⟨rfl, hb9⟩; refine hK _ _ (inSub_of hb9) ?_)
      | (go_at_call 10; (with_reducible refine (calls_in (H1.out _) (by assumption) hBW).mono ?_); rintro e w9 ⟨rfl, hb9⟩; refine hK _ _ (inSub_of hb9) ?_)
      | (go_at_call 11; (with_reducible refine (calls_in (H2.out _) (by assumption) hBW).mono ?_); rintro e w9 ⟨rfl, hb9⟩; refine hK _ _ (inSub_of hb9) ?_)
      | (go_at_call 12; (with_reducible refine (calls_in (H3.out _) (by assumption) hBW).mono ?_); rintro e w9 ⟨rfl, hb9⟩; refine hK _ _ (inSub_of hb9) ?_)
      | (go_at_call 13; (with_reducible refine (calls_in (H4.out _) (by assumption) hBW).mono ?_); rintro e w9 ⟨rfl, hb9⟩; refine hK _ _ (inSub_of hb9) ?_)
      | (go_at_call 15; refine (H5.out _).mono ?_; rintro e w9 ⟨v, rfl, hown, hb9⟩; obtain ⟨ad2, cap2, rfl, hv2⟩ := versAt_own hown; have hb8 : Below W.heap.size W w9 := below_step (by assumption) hb9; clear hown hb9; refine hK _ _ (inSub_of hb8) ?_)
      | (go_at_call 14; (with_reducible refine (calls_in (H9.out _ _ _ _ _ (versAt_below HL.out (Nat.le_refl _) (by assumption)) (by assumption)) (by assumption) hBW).mono ?_); rintro e w9 ⟨rfl, hb9⟩; refine hK _ _ (inSub_of hb9) ?_)
      | (go_at_call 16; (with_reducible refine (calls_in (H7.out _) (by assumption) hBW).mono ?_); rintro e w9 ⟨rfl, hb9⟩; refine hK _ _ (inSub_of hb9) ?_)
      | (go_at_call 17; (with_reducible refine (calls_in (H8.out _ _ _ (versAt_below HL.out (Nat.le_refl _) (by assumption))) (by assumption) hBW).mono ?_); rintro e w9 ⟨rfl, hb9⟩; refine hK _ _ (inSub_of hb9) ?_)
       clear hK K'
       try simp only [Act.put, List.setIfInBounds_toArray, List.set_cons_succ, List.set_cons_zero]))
  refine mix_nil (NoPanic.normal ?_)
  go_show
  go_wp2_with fail
  go_ret
  exact ⟨rfl, HBW.out.trans (Below.mono (by assumption) HBW.out.size)⟩
end Go.Proofs.Ytjoacoiooijnlaa
