/-
  Walks of layer 13: vectors that are the same, plain ones, one more version, two together.
-/
import Derived.Test.YtjoacoiooijnlaaVecD
namespace Go.Proofs.Ytjoacoiooijnlaa
open Go.RowKit

set_option maxHeartbeats 400000 in
theorem refSame_walk (f g : Nat → Int) (w : World) :
    Calls Try.prog 12 #[.agg (vec f), .agg (vec g)] w fun e w' => e = .returned (.bool (vcov f g && vcov g f)) ∧ Below w.heap.size w w' := by
  go_enter Try.func12, Try.ntmps12
  go_upto_region 1 with fail
  obtain ⟨g0, g1, hB, hS⟩ := two_blocks w (.cells (vec f) 23) (.cells (vec g) 23)
  generalize (w.alloc (.cells (vec f) 23)).alloc (.cells (vec g) 23) = W at g0 g1 hB hS ⊢
  have hBW : W.heap.size ≤ W.heap.size := Nat.le_refl _
  have HG0 := Lib.hid (sub_row g0 (B := W.heap.size) (by omega))
  have HG1 := Lib.hid (sub_row g1 (B := W.heap.size) (by omega))
  have hb0 := Below.refl W.heap.size W
  clear g0 g1 hS
  obtain ⟨c, hc⟩ : ∃ c, c = vcov f g := ⟨_, rfl⟩
  have h1 := refCovers_walk f g
  rw [← hc] at h1
  have H1 := Lib.hid h1
  have HC := Lib.hid hc
  clear h1 hc
  cases c
  all_goals
    go_wp2_with (first
      | (refine wpList_row 23 _ rfl w.heap.size rfl rfl 23 (vec f) (0, 0) _ (HG0.out _ (inSub_of (by assumption))) Try.underlying23 rfl (info_vec' f) ?_)
      | (refine wpList_row 23 _ rfl (w.heap.size + 1) rfl rfl 23 (vec g) (0, 0) _ (HG1.out _ (inSub_of (by assumption))) Try.underlying23 rfl (info_vec' g) ?_)
      | (go_at_call 21; ((with_reducible refine (calls_in (H1.out _) (by assumption) hBW).mono ?_); rintro e w1 ⟨rfl, hb1⟩))
      | (go_at_call 21; ((with_reducible refine (calls_in (refCovers_walk g f _) (by assumption) hBW).mono ?_); rintro e w1 ⟨rfl, hb1⟩)))
    go_ret
    exact ⟨by rw [← HC.out]; rfl, hB.trans (hb1.mono hB.size)⟩

/-- are all numbers as they count? -/
def vplain (f : Nat → Int) : Bool := (List.range' 0 65).all fun i => f i == vat f i
theorem vplain_iff (f : Nat → Int) : vplain f = true ↔ ∀ i : Nat, i ≤ 64 → f i = vat f i := by
  simp only [vplain, List.all_eq_true, List.mem_range'_1, beq_iff_eq]
  exact ⟨fun h i h1 => h i ⟨by omega, by omega⟩, fun h i hi => h i (by omega)⟩
theorem vplain_false {f : Nat → Int} {k : Nat} (h2 : k ≤ 64) (h : f k ≠ vat f k) : vplain f = false := by
  cases hc : vplain f with
  | false => rfl
  | true => exact absurd ((vplain_iff f).1 hc k h2) h

set_option maxHeartbeats 1000000 in
theorem refPlain_walk (f : Nat → Int) (w : World) :
    Calls Try.prog 13 #[.agg (vec f)] w fun e w' => e = .returned (.bool (vplain f)) ∧ Below w.heap.size w w' := by
  go_enter Try.func13, Try.ntmps13
  go_upto_region 1 with fail
  have g0 := heap_alloc_top w (.cells (vec f) 23)
  have hB := below_alloc w (.cells (vec f) 23)
  have hS : w.heap.size < (w.alloc (.cells (vec f) 23)).heap.size := by simp
  generalize w.alloc (.cells (vec f) 23) = W at g0 hB hS ⊢
  have hBW : W.heap.size ≤ W.heap.size := Nat.le_refl _
  have HG0 := Lib.hid (sub_row g0 (B := W.heap.size) hS)
  have HC := Lib.hid (fun (k : Nat) (hk : k < 65) (x : Sub W.heap.size W) => sub_cell (a := ⟨w.heap.size, k, none⟩) (vec_cell g0 k hk) hS x)
  clear g0
  go_wp2_with fail
  go_loopw [3] (fun i wr => ∃ k : Nat, k ≤ 65 ∧ i = .int .i64 k ∧ (∀ j : Nat, j < k → f j = vat f j) ∧ Below W.heap.size W wr)
    (fun i _ => 65 - (intOf i).toNat)
  case atStart => exact ⟨0, by omega, rfl, fun j h1 => by omega, Below.refl _ _⟩
  case round =>
    obtain ⟨k, hk, rfl, hall, hBr⟩ := hrel
    have HA := Lib.hid hall; clear hall
    by_cases hlt : k < 65
    · have hc := HC.out k hlt
      go_wp2_with fail
      refine wp_region_sub (W := W) (B := W.heap.size) (by kernel_rfl) (by kernel_rfl) hBr ?_
      repeat (any_goals (first
        | go_big_quiet_skip
        | (refine wpQuiet_load_row 23 _ rfl w.heap.size rfl rfl 23 (vec f) (0, 0) _ HG0.out Try.underlying23 rfl (info_vec' f) ?_; simp only [Act.put, List.setIfInBounds_toArray, List.set_cons_succ, List.set_cons_zero])
        | go_big_quiet_step ((go_at_call 26; exact calls_sub _ (at_walkB _ _ _) hBW))
        | quiet_step ((go_at_call 26; exact calls_sub _ (at_walkB _ _ _) hBW))))
      refine wpQuiet_nil ?_
      rintro w9 ⟨x9, rfl⟩
      clear hc
      by_cases hne : f k = vat f k
      · have hn1 : (f k != vat f k) = false := by simp [← hne]
        have HN := Lib.hid hne; clear hne
        go_wp2_with fail
        go_roundw
        case rel => exact ⟨k + 1, by omega, by go_num, fun j h1 => by
          by_cases e : j = k
          · subst e; exact HN.out
          · exact HA.out j (by omega), x9.below⟩
        case measure => simp [intOf]; omega
      · have hn1 : (f k != vat f k) = true := by simp [hne]
        have HN := Lib.hid hne; clear hne
        go_wp2_with fail
        go_ret
        exact ⟨ret_bool (vplain_false (by omega) HN.out).symm, hB.trans (x9.below.mono hB.size)⟩
    · obtain rfl : k = 65 := by omega
      go_wp2_with fail
      go_ret
      exact ⟨ret_bool ((vplain_iff f).2 (fun i h1 => HA.out i (by omega))).symm, hB.trans (hBr.mono hB.size)⟩
end Go.Proofs.Ytjoacoiooijnlaa
