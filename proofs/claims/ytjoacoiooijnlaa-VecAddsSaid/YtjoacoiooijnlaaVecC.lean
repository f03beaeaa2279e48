/-
  Walks of layer 13: what is in a vector, a vector with one more.
-/
import Derived.Test.YtjoacoiooijnlaaVecB
import Derived.Test.YtjoacoiooijnlaaQuiet
import Derived.Handy
namespace Go.Proofs.Ytjoacoiooijnlaa
open Go.RowKit

/-- is a version in a vector? -/
def vhas (f : Nat → Int) (b n : Int) : Bool := verOk b n && decide (n ≤ f b.toNat)

set_option maxHeartbeats 400000 in
theorem has_walk (f : Nat → Int) (b n : Int) (w : World) :
    Calls Try.prog 10 #[.agg (vec f), .agg #[.int .i64 b, .int .i64 n]] w fun e w' => e = .returned (.bool (vhas f b n)) ∧ Below w.heap.size w w' := by
  go_enter Try.func10, Try.ntmps10
  go_upto_region 1 with fail
  obtain ⟨g0, g1, hB, hS⟩ := two_blocks w (.cells (vec f) 23) (.cells #[.int .i64 b, .int .i64 n] 25)
  generalize (w.alloc (.cells (vec f) 23)).alloc (.cells #[.int .i64 b, .int .i64 n] 25) = W at g0 g1 hB hS ⊢
  have hBW : W.heap.size ≤ W.heap.size := Nat.le_refl _
  have hl0 : w.heap.size + 1 < W.heap.size := by omega
  have hv0 := fun x : Sub W.heap.size W => sub_cell (a := ⟨w.heap.size + 1, 0, none⟩) (v := .int .i64 b) (by simp [World.cell?, g1]) hl0 x
  have hv1 := fun x : Sub W.heap.size W => sub_cell (a := ⟨w.heap.size + 1, 1, none⟩) (v := .int .i64 n) (by simp [World.cell?, g1]) hl0 x
  by_cases hok : 1 ≤ b ∧ b ≤ 64 ∧ 1 ≤ n
  · obtain ⟨h1, h2, h3⟩ := hok
    obtain ⟨k, rfl⟩ := Int.eq_ofNat_of_zero_le (show 0 ≤ b by omega)
    have hv : vhas f k n = decide (n ≤ f k) := by
      simp only [vhas, verOk]
      rw [decide_eq_true (by omega)]
      simp
    have HV := Lib.hid hv; clear hv
    have hc := fun x : Sub W.heap.size W => sub_cell (a := ⟨w.heap.size, k, none⟩) (vec_cell g0 k (by omega)) (by simp; omega) x
    have hk : k < 65 := by omega
    have g1' := g1
    clear g0 g1 hS
    refine wp_region_sub (by kernel_rfl) (by kernel_rfl) (Below.refl W.heap.size W) ?_
    have hgv : ∀ w9, (∃ x : Sub W.heap.size W, w9 = x.val) → w9.heap[w.heap.size + 1]? = some (.cells #[.int .i64 k, .int .i64 n] 25 (0, 0)) := by
      rintro w9 ⟨x, rfl⟩
      exact sub_heap g1' hl0 x
    have HGV := Lib.hid hgv; clear hgv g1'
    refine wpQuiet_load_row 25 _ rfl (w.heap.size + 1) rfl rfl 25 #[.int .i64 k, .int .i64 n] (0, 0) _ HGV.out Try.underlying25 rfl (by kernel_rfl) ?_
    simp only [Act.put, List.setIfInBounds_toArray, List.set_cons_succ, List.set_cons_zero]
    repeat (any_goals (first
      | go_big_quiet_step ((go_at_call 25; exact calls_sub _ (check_yesB _ _ _ (by omega) (by omega) (by omega)) hBW))
      | quiet_step ((go_at_call 25; exact calls_sub _ (check_yesB _ _ _ (by omega) (by omega) (by omega)) hBW))))
    refine wpQuiet_nil ?_
    rintro w9 ⟨x9, rfl⟩
    go_wp2_with fail
    go_ret
    exact ⟨by rw [HV.out]; rfl, hB.trans (x9.below.mono hB.size)⟩
  · have hv : vhas f b n = false := by
      simp only [vhas, verOk]
      rw [decide_eq_false hok]; rfl
    have HV := Lib.hid hv
    have HOK := Lib.hid hok
    have hgv : ∀ w9, (∃ x : Sub W.heap.size W, w9 = x.val) → w9.heap[w.heap.size + 1]? = some (.cells #[.int .i64 b, .int .i64 n] 25 (0, 0)) := by
      rintro w9 ⟨x, rfl⟩
      exact sub_heap g1 hl0 x
    have HGV := Lib.hid hgv
    clear hgv g1 g0 hS hv hok
    refine wp_region_sub (by kernel_rfl) (by kernel_rfl) (Below.refl W.heap.size W) ?_
    refine wpQuiet_load_row 25 _ rfl (w.heap.size + 1) rfl rfl 25 #[.int .i64 b, .int .i64 n] (0, 0) _ HGV.out Try.underlying25 rfl (by kernel_rfl) ?_
    simp only [Act.put, List.setIfInBounds_toArray, List.set_cons_succ, List.set_cons_zero]
    repeat (any_goals (first
      | go_big_quiet_step ((go_at_call 25; exact calls_sub _ (check_noB _ _ _ HOK.out) hBW))
      | quiet_step ((go_at_call 25; exact calls_sub _ (check_noB _ _ _ HOK.out) hBW))))
    refine wpQuiet_nil ?_
    rintro w9 ⟨x9, rfl⟩
    go_wp2_with fail
    go_ret
    exact ⟨by rw [HV.out]; rfl, hB.trans (x9.below.mono hB.size)⟩
end Go.Proofs.Ytjoacoiooijnlaa
