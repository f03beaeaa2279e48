/-
  Walks of layer 13's reference: what is in a vector, which vector has all of which, which one is plain.
-/
import Derived.Test.YtjoacoiooijnlaaVecC
namespace Go.Proofs.Ytjoacoiooijnlaa
open Go.RowKit

theorem sub_row {B : Nat} {W : World} {k : Nat} {o : Obj} (h : W.heap[k]? = some o) (hB : k < B) : ∀ w9, (∃ x : Sub B W, w9 = x.val) → w9.heap[k]? = some o := by
  rintro w9 ⟨x, rfl⟩
  exact sub_heap h hB x

theorem info_vec' (f : Nat → Int) : (Try.prog.info? 23).map (·.size) = some (vec f).size := by rw [vec_size]; exact info_vec

set_option maxHeartbeats 400000 in
theorem refHas_walk (f : Nat → Int) (b n : Int) (w : World) :
    Calls Try.prog 11 #[.agg (vec f), .agg #[.int .i64 b, .int .i64 n]] w fun e w' => e = .returned (.bool (verOk b n && decide (n ≤ vat f b))) ∧ Below w.heap.size w w' := by
  go_enter Try.func11, Try.ntmps11
  go_upto_region 1 with fail
  obtain ⟨g0, g1, hB, hS⟩ := two_blocks w (.cells (vec f) 23) (.cells #[.int .i64 b, .int .i64 n] 25)
  generalize (w.alloc (.cells (vec f) 23)).alloc (.cells #[.int .i64 b, .int .i64 n] 25) = W at g0 g1 hB hS ⊢
  have hBW : W.heap.size ≤ W.heap.size := Nat.le_refl _
  have hl0 : w.heap.size + 1 < W.heap.size := by omega
  have hv0 := fun x : Sub W.heap.size W => sub_cell (a := ⟨w.heap.size + 1, 0, none⟩) (v := .int .i64 b) (by simp [World.cell?, g1]) hl0 x
  have hv1 := fun x : Sub W.heap.size W => sub_cell (a := ⟨w.heap.size + 1, 1, none⟩) (v := .int .i64 n) (by simp [World.cell?, g1]) hl0 x
  have HG0 := Lib.hid (sub_row g0 (B := W.heap.size) (by omega))
  have HG1 := Lib.hid (sub_row g1 hl0)
  clear g0 g1 hS
  obtain ⟨B, hv⟩ : ∃ B, B = verOk b n := ⟨_, rfl⟩
  have hr := right_walk b n
  rw [← hv] at hr
  have hfin : ∀ c, (B && c) = (verOk b n && c) := by rw [hv]; exact fun _ => rfl
  have HF := Lib.hid hfin
  have HR := Lib.hid hr
  clear hr hv hfin
  cases B
  all_goals
    refine wp_region_sub (by kernel_rfl) (by kernel_rfl) (Below.refl W.heap.size W) ?_
    repeat (any_goals (first
      | go_big_quiet_skip
      | (refine wpQuiet_load_row 25 _ rfl (w.heap.size + 1) rfl rfl 25 #[.int .i64 b, .int .i64 n] (0, 0) _ HG1.out Try.underlying25 rfl (by kernel_rfl) ?_; simp only [Act.put, List.setIfInBounds_toArray, List.set_cons_succ, List.set_cons_zero])
      | (refine wpQuiet_load_row 23 _ rfl w.heap.size rfl rfl 23 (vec f) (0, 0) _ HG0.out Try.underlying23 rfl (info_vec' f) ?_; simp only [Act.put, List.setIfInBounds_toArray, List.set_cons_succ, List.set_cons_zero])
      | go_big_quiet_step ((first | (go_at_call 19; exact calls_sub _ (HR.out _) hBW) | (go_at_call 26; exact calls_sub _ (at_walkB _ _ _) hBW)))
      | quiet_step ((first | (go_at_call 19; exact calls_sub _ (HR.out _) hBW) | (go_at_call 26; exact calls_sub _ (at_walkB _ _ _) hBW)))))
    refine wpQuiet_nil ?_
    rintro w9 ⟨x9, rfl⟩
    go_wp2_with fail
    go_ret
    exact ⟨by rw [← HF.out]; rfl, hB.trans (x9.below.mono hB.size)⟩

/-- has one vector all of another one? -/
def vcov (f g : Nat → Int) : Bool := (List.range' 1 64).all fun i => decide (vat g i ≤ vat f i)
theorem vcov_iff (f g : Nat → Int) : vcov f g = true ↔ ∀ i : Nat, 1 ≤ i → i ≤ 64 → vat g i ≤ vat f i := by
  simp only [vcov, List.all_eq_true, List.mem_range'_1, decide_eq_true_eq]
  exact ⟨fun h i h1 h2 => h i ⟨h1, by omega⟩, fun h i hi => h i hi.1 (by omega)⟩
theorem vcov_false {f g : Nat → Int} {k : Nat} (h1 : 1 ≤ k) (h2 : k ≤ 64) (h : vat f k < vat g k) : vcov f g = false := by
  cases hc : vcov f g with
  | false => rfl
  | true => have := (vcov_iff f g).1 hc k h1 h2; omega

set_option maxHeartbeats 1000000 in
theorem refCovers_walk (f g : Nat → Int) (w : World) :
    Calls Try.prog 21 #[.agg (vec f), .agg (vec g)] w fun e w' => e = .returned (.bool (vcov f g)) ∧ Below w.heap.size w w' := by
  go_enter Try.func21, Try.ntmps21
  go_upto_region 1 with fail
  obtain ⟨g0, g1, hB, hS⟩ := two_blocks w (.cells (vec f) 23) (.cells (vec g) 23)
  generalize (w.alloc (.cells (vec f) 23)).alloc (.cells (vec g) 23) = W at g0 g1 hB hS ⊢
  have hBW : W.heap.size ≤ W.heap.size := Nat.le_refl _
  have HG0 := Lib.hid (sub_row g0 (B := W.heap.size) (by omega))
  have HG1 := Lib.hid (sub_row g1 (B := W.heap.size) (by omega))
  clear g0 g1 hS
  go_wp2_with fail
  go_loopw [5] (fun i wr => ∃ k : Nat, 1 ≤ k ∧ k ≤ 65 ∧ i = .int .i64 k ∧ (∀ j : Nat, 1 ≤ j → j < k → vat g j ≤ vat f j) ∧ Below W.heap.size W wr)
    (fun i _ => 65 - (intOf i).toNat)
  case atStart => exact ⟨1, by omega, by omega, rfl, fun j h1 h2 => by omega, Below.refl _ _⟩
  case round =>
    obtain ⟨k, hk1, hk, rfl, hall, hBr⟩ := hrel
    have HA := Lib.hid hall; clear hall
    by_cases hlt : k < 65
    · go_wp2_with fail
      refine wp_region_sub (W := W) (B := W.heap.size) (by kernel_rfl) (by kernel_rfl) hBr ?_
      repeat (any_goals (first
        | go_big_quiet_skip
        | (refine wpQuiet_load_row 23 _ rfl (w.heap.size + 1) rfl rfl 23 (vec g) (0, 0) _ HG1.out Try.underlying23 rfl (info_vec' g) ?_; simp only [Act.put, List.setIfInBounds_toArray, List.set_cons_succ, List.set_cons_zero])
        | (refine wpQuiet_load_row 23 _ rfl w.heap.size rfl rfl 23 (vec f) (0, 0) _ HG0.out Try.underlying23 rfl (info_vec' f) ?_; simp only [Act.put, List.setIfInBounds_toArray, List.set_cons_succ, List.set_cons_zero])
        | go_big_quiet_step ((go_at_call 26; exact calls_sub _ (at_walkB _ _ _) hBW))
        | quiet_step ((go_at_call 26; exact calls_sub _ (at_walkB _ _ _) hBW))))
      refine wpQuiet_nil ?_
      rintro w9 ⟨x9, rfl⟩
      by_cases hgt : vat f k < vat g k
      · go_wp2_with fail
        go_ret
        exact ⟨ret_bool (vcov_false hk1 (by omega) hgt).symm, hB.trans (x9.below.mono hB.size)⟩
      · have hle : vat g k ≤ vat f k := by omega
        clear hgt
        go_wp2_with fail
        go_roundw
        case rel => exact ⟨k + 1, by omega, by omega, by go_num, fun j h1 h2 => by
          by_cases e : j = k
          · subst e; exact hle
          · exact HA.out j h1 (by omega), x9.below⟩
        case measure => simp [intOf]; omega
    · obtain rfl : k = 65 := by omega
      go_wp2_with fail
      go_ret
      exact ⟨ret_bool ((vcov_iff f g).2 (fun i h1 h2 => HA.out i h1 (by omega))).symm, hB.trans (hBr.mono hB.size)⟩
end Go.Proofs.Ytjoacoiooijnlaa
