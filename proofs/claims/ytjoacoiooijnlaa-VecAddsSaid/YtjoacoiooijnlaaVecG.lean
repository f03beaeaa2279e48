/-
  Walks of layer 13: a vector that has one version more.
-/
import Derived.Test.YtjoacoiooijnlaaVecF
namespace Go.Proofs.Ytjoacoiooijnlaa
open Go.RowKit

/-- one version more -/
def vadd (f : Nat → Int) (b n : Int) : Nat → Int := fun i => if verOk b n = true ∧ (i : Int) = b then max (vclean f i) n else vclean f i
theorem vadd_yes (f : Nat → Int) (k : Nat) (n : Int) (h : verOk k n = true) : (vec fun i => if i = k then (if vclean f k < n then n else vclean f k) else vclean f i) = vec (vadd f k n) := by
  apply vec_congr
  intro i _
  unfold vadd
  by_cases e : i = k
  · subst e
    simp only [if_true, h, and_self]
    split <;> omega
  · have e2 : ¬ (verOk k n = true ∧ (i : Int) = k) := fun x => e (by have := x.2; omega)
    simp only [e, e2, if_false]

set_option maxRecDepth 100000 in
set_option maxHeartbeats 2000000 in
theorem add_walk (f : Nat → Int) (b n : Int) (w : World) :
    Calls Try.prog 18 #[.agg (vec f), .agg #[.int .i64 b, .int .i64 n]] w fun e w' => e = .returned (.agg (vec (vadd f b n))) ∧ Below w.heap.size w w' := by
  have hz := zero_vec
  go_enter Try.func18, Try.ntmps18
  go_upto_region 1 with fail
  obtain ⟨g0, g1, g2, hB, hS⟩ := three_blocks w (.cells (vec f) 23) (.cells #[.int .i64 b, .int .i64 n] 25) (.cells (vec vnil) 23)
  generalize ((w.alloc (.cells (vec f) 23)).alloc (.cells #[.int .i64 b, .int .i64 n] 25)).alloc (.cells (vec vnil) 23) = W at g0 g1 g2 hB hS ⊢
  have HG0 := Lib.hid g0
  have HG1 := Lib.hid g1
  obtain ⟨q, hq⟩ : ∃ q, q = w.heap.size + 1 + 1 := ⟨_, rfl⟩
  rw [← hq]
  have hq1 : w.heap.size + 1 < q := by omega
  have hlt : q < W.heap.size := by omega
  rw [show w.heap.size + 2 = q by omega] at g2
  have HG2 := Lib.hid g2
  clear g0 g1 g2 hS hq
  go_wp2_with (refine wpList_row 23 _ rfl w.heap.size rfl rfl 23 (vec f) (0, 0) _ HG0.out Try.underlying23 rfl (info_vec' _) ?_)
  refine (clean_walk f _).mono ?_
  rintro e w1 ⟨rfl, hb1⟩
  have h0 := (hb1.block w.heap.size (by omega)).trans HG0.out
  have h1 := (hb1.block (w.heap.size + 1) (by omega)).trans HG1.out
  have h2 := (hb1.block q hlt).trans HG2.out
  have R0 := Lib.hid h0
  have R1 := Lib.hid ((heap_setRow_other w1 w.heap.size (w.heap.size + 1) (vec (vclean f)) (by omega)).trans h1)
  have R2 := Lib.hid ((heap_setRow_other w1 w.heap.size q (vec (vclean f)) (by omega)).trans h2)
  have R0' := Lib.hid (heap_setRow_same (cs := vec (vclean f)) h0)
  have RB := Lib.hid (below_setRow (hB.trans (hb1.mono hB.size)) (Nat.le_refl _) (vec (vclean f)))
  clear h0 h1 h2 HG0 HG1 HG2 hb1 hlt hB
  go_upto_region 2 with (refine wpList_store_row rfl 23 _ _ rfl w.heap.size (vec (vclean f)) rfl rfl 23 (vec f) R0.out (info_vec' _) (by rw [vec_size, vec_size]) (vec_one _) ?_)
  generalize w1.setRow w.heap.size (vec (vclean f)) = W2 at R0' R1 R2 RB ⊢
  clear R0
  have hl2 := Lib.hid (lt_of_block R2.out)
  by_cases hok : 1 ≤ b ∧ b ≤ 64 ∧ 1 ≤ n
  · have hvo : verOk b n = true := decide_eq_true hok
    obtain ⟨p1, p2, p3⟩ := hok
    obtain ⟨k, rfl⟩ := Int.eq_ofNat_of_zero_le (show 0 ≤ b by omega)
    have hk : k < 65 := by omega
    have HVO := Lib.hid hvo; clear hvo
    go_wp2_with (refine wpList_row 25 _ rfl (w.heap.size + 1) rfl rfl 25 #[.int .i64 k, .int .i64 n] (0, 0) _ R1.out Try.underlying25 rfl (by kernel_rfl) ?_)
    refine (check_yesB _ _ _ p1 p2 p3).mono ?_
    rintro e w3 ⟨rfl, hb3⟩
    have h0 := (hb3.block w.heap.size (by have := hl2.out; omega)).trans R0'.out
    have h1 := (hb3.block (w.heap.size + 1) (by have := hl2.out; omega)).trans R1.out
    have h2 := (hb3.block q hl2.out).trans R2.out
    have hB3 := RB.out.trans (hb3.mono RB.out.size)
    have c0 := cell_of_row w3 (w.heap.size + 1) 0 _ _ _ h1
    have c1 := cell_of_row w3 (w.heap.size + 1) 1 _ _ _ h1
    have cv := vec_cell h0 k hk
    have cf := vec_free h0 k
    have K0 := Lib.hid h0; have K2 := Lib.hid h2; have KB := Lib.hid hB3
    clear h0 h1 h2 hB3 R0' R1 R2 RB hl2 hb3
    simp at c0 c1
    go_wp2_with fail
    go_region
    have he := vadd_yes f k n HVO.out
    obtain ⟨u, hu⟩ : ∃ u, u = if vclean f k < n then n else vclean f k := ⟨_, rfl⟩
    rw [← hu] at he ⊢
    have h0 := vec_store K0.out k hk u
    rw [he] at h0
    have h2 := (heap_setCell_ne w3 w.heap.size q k (.int .i64 u) (by omega)).trans K2.out
    have L0 := Lib.hid (show ((w3.setCell ⟨w.heap.size, k, none⟩ (.int .i64 u)).drew).heap[w.heap.size]? = _ from h0)
    have L2 := Lib.hid (show ((w3.setCell ⟨w.heap.size, k, none⟩ (.int .i64 u)).drew).heap[q]? = _ from h2)
    have LB := Lib.hid ((KB.out.setCell (p := ⟨w.heap.size, k, none⟩) (Nat.le_refl _) (.int .i64 u)).drew)
    clear h0 h2 he cv cf c0 c1 hu
    generalize (w3.setCell ⟨w.heap.size, k, none⟩ (.int .i64 u)).drew = W4 at L0 L2 LB ⊢
    go_wp2_with (first
      | (refine wpList_row 23 _ rfl w.heap.size rfl rfl 23 (vec (vadd f k n)) (0, 0) _ L0.out Try.underlying23 rfl (info_vec' _) ?_)
      | (refine wpList_store_row rfl 23 _ _ rfl q (vec (vadd f k n)) rfl rfl 23 (vec vnil) L2.out (info_vec' _) (by rw [vec_size, vec_size]) (vec_one _) ?_))
    exact bodyPost_ret (v := .agg (vec (vadd f k n))) (results_cell_row rfl _ _ q 23 (vec (vadd f k n)) (0, 0) _ rfl (heap_setRow_same L2.out) Try.underlying23 rfl (info_vec' _)) rfl ⟨rfl, below_setRow LB.out (by omega) _⟩
  · have HOK := Lib.hid hok
    have he : vec (vclean f) = vec (vadd f b n) := by
      apply vec_congr
      intro i _
      unfold vadd
      rw [if_neg (fun h => hok (of_decide_eq_true h.1))]
    have HE := Lib.hid he
    clear hok he
    go_wp2_with (refine wpList_row 25 _ rfl (w.heap.size + 1) rfl rfl 25 #[.int .i64 b, .int .i64 n] (0, 0) _ R1.out Try.underlying25 rfl (by kernel_rfl) ?_)
    refine (check_noB _ _ _ HOK.out).mono ?_
    rintro e w3 ⟨rfl, hb3⟩
    have K0 := Lib.hid ((hb3.block w.heap.size (by have := hl2.out; omega)).trans R0'.out)
    have K2 := Lib.hid ((hb3.block q hl2.out).trans R2.out)
    have KB := Lib.hid (RB.out.trans (hb3.mono RB.out.size))
    clear R0' R1 R2 RB hl2 hb3
    go_wp2_with (first
      | (refine wpList_row 23 _ rfl w.heap.size rfl rfl 23 (vec (vclean f)) (0, 0) _ K0.out Try.underlying23 rfl (info_vec' _) ?_)
      | (refine wpList_store_row rfl 23 _ _ rfl q (vec (vclean f)) rfl rfl 23 (vec vnil) K2.out (info_vec' _) (by rw [vec_size, vec_size]) (vec_one _) ?_))
    exact bodyPost_ret (v := .agg (vec (vclean f))) (results_cell_row rfl _ _ q 23 (vec (vclean f)) (0, 0) _ rfl (heap_setRow_same K2.out) Try.underlying23 rfl (info_vec' _)) rfl ⟨by rw [HE.out], below_setRow KB.out (by omega) _⟩
end Go.Proofs.Ytjoacoiooijnlaa
