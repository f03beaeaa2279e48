/-
  Walks of layer 13: what must come at any rate.
-/
import Derived.Test.YtjoacoiooijnlaaVecL
import Derived.Deep.RegionHeld3
namespace Go.Proofs.Ytjoacoiooijnlaa
open Go.RowKit

theorem versAt_block {w : World} {b : Nat} {t : TypeId} {l : List (Int × Int)} (h : w.heap[b]? = some (.cells (pv l).toArray t (0, 0))) : versAt w (some ⟨b, 0, none⟩) l := by
  refine .inr ⟨b, 0, rfl, lt_of_block h, fun i hi => ?_⟩
  obtain ⟨e1, e2⟩ := pv_get l i hi
  rw [cell_of_row w b (0 + i * 2) _ _ _ h, cell_of_row w b (0 + i * 2 + 1) _ _ _ h]
  simpa using ⟨e1, e2⟩

/-- what the regions hold: nothing below is touched, and these cells lie there -/
theorem range_row {w : World} {b : Nat} {cs : Array Value} {t : TypeId} (h : w.heap[b]? = some (.cells cs t (0, 0))) : w.rangeAt b 0 cs.toList := by
  intro j v hj
  rw [cell_of_row w b (0 + j) _ _ _ h]
  simpa using hj
theorem range_below {w w' : World} {b : Nat} {cs : List Value} {B : Nat} (h : w.rangeAt b 0 cs) (hb : Below B w w') (hB : b < B) : w'.rangeAt b 0 cs := by
  intro j v hj
  rw [hb.cell (p := ⟨b, 0 + j, none⟩) (by simpa using hB)]
  exact h j v hj
theorem held_below {W w w' : World} {b : Nat} {cs : List Value} (h : Below W.heap.size W w ∧ w.rangeAt b 0 cs) (hb : Below w.heap.size w w') (hB : b < W.heap.size) : Below W.heap.size W w' ∧ w'.rangeAt b 0 cs :=
  ⟨h.1.trans (hb.mono h.1.size), range_below h.2 hb (Nat.lt_of_lt_of_le hB h.1.size)⟩

set_option maxHeartbeats 4000000 in
theorem awake_walk (w : World) :
    Calls Try.prog 9 #[] w fun e w' => e = .returned (.bool true) ∧ Below w.heap.size w w' := by
  have hz := zero_vec
  have a1 : vhas (vof [(2, 3), (1, 5)]) 2 1 = true := by decide +kernel
  have a2 : vhas (vof [(2, 3), (1, 5)]) 2 4 = false := by decide +kernel
  have a3 : endsTo (vof [(2, 3), (1, 5)]) 65 = [(1, 5), (2, 3)] := by decide +kernel
  have hof := fun ad cap w hl => of_walk ad cap [(2, 3), (1, 5)] w hl (by simp)
  generalize vof [(2, 3), (1, 5)] = F at a1 a2 a3 hof
  have b1 := fun w => has_walk F 2 1 w
  have b2 := fun w => has_walk F 2 4 w
  have b3 := fun w => sum_walk F w
  have b4 := fun w => ends_walk F w
  have b5 := fun ad1 ad2 cap1 cap2 w h1 h2 => same_walk ad1 ad2 cap1 cap2 [(1, 5), (2, 3)] [(1, 5), (2, 3)] w h1 h2 (by simp) (by simp)
  rw [a1] at b1; rw [a2] at b2
  simp only [a3] at b3 b4
  rw [decide_eq_true rfl] at b5
  have B1 := Lib.hid b1; have B2 := Lib.hid b2; have B3 := Lib.hid b3; have B4 := Lib.hid b4; have B5 := Lib.hid b5; have HOF := Lib.hid hof
  clear a1 a2 a3 b1 b2 b3 b4 b5 hof
  go_enter Try.func9, Try.ntmps9
  go_wp2_with fail
  have hl := versAt_block (l := [(2, 3), (1, 5)]) (heap_alloc_top w (.cells #[.int .i64 2, .int .i64 3, .int .i64 1, .int .i64 5] 25))
  have hB0 := below_alloc w (.cells #[.int .i64 2, .int .i64 3, .int .i64 1, .int .i64 5] 25)
  generalize w.alloc (.cells #[.int .i64 2, .int .i64 3, .int .i64 1, .int .i64 5] 25) = W0 at hl hB0 ⊢
  refine (HOF.out _ _ _ hl).mono ?_
  rintro e w1 ⟨rfl, hb1⟩
  have hB1 := hB0.trans (hb1.mono hB0.size)
  have g0 := heap_alloc_top w1 (.cells (vec vnil) 23)
  have H0 := Lib.hid g0
  have g1 := heap_setRow_same (cs := vec F) g0
  have hB2 := below_setRow (hB1.alloc hB1.size (.cells (vec vnil) 23)) (g := w1.heap.size) hB1.size (vec F)
  have hS : w1.heap.size < ((w1.alloc (.cells (vec vnil) 23)).setRow w1.heap.size (vec F)).heap.size := by simp
  have G1 := Lib.hid g1; have HB2 := Lib.hid hB2; have HS := Lib.hid hS
  clear g0 g1 hB2 hS hB1 hb1 hB0 hl
  go_upto_region 2 with (refine wpList_store_row rfl 23 _ _ rfl w1.heap.size (vec F) rfl rfl 23 (vec vnil) H0.out (info_vec' _) (by rw [vec_size, vec_size]) (vec_one _) ?_)
  generalize (w1.alloc (.cells (vec vnil) 23)).setRow w1.heap.size (vec F) = W at G1 HB2 HS ⊢
  obtain ⟨q, hq⟩ : ∃ q, q = w1.heap.size := ⟨_, rfl⟩
  rw [← hq] at G1 HS ⊢
  clear H0 hq
  have HG := Lib.hid (sub_row G1.out (B := W.heap.size) HS.out)
  have hb0 := Below.refl W.heap.size W
  have hBW : W.heap.size ≤ W.heap.size := Nat.le_refl _
  go_wp2_with (first
    | (refine wpList_row 23 _ rfl q rfl rfl 23 (vec F) (0, 0) _ (HG.out _ (inSub_of (by assumption))) Try.underlying23 rfl (info_vec' _) ?_)
    | (go_at_call 10; ((with_reducible refine (calls_in (B1.out _) (by assumption) hBW).mono ?_); rintro e w2 ⟨rfl, hb2⟩))
    | (go_at_call 10; ((with_reducible refine (calls_in (B2.out _) (by assumption) hBW).mono ?_); rintro e w3 ⟨rfl, hb3⟩)))
  refine (B4.out _).mono ?_
  rintro e w4 ⟨v, rfl, hown, hb4⟩
  obtain ⟨ad, c, rfl, hv⟩ := versAt_own (l := [(1, 5), (2, 3)]) hown
  have hb5 := hb3.trans (hb4.mono hb3.size)
  have HV := Lib.hid hv
  clear hown hb4 hb3 hb2 hb0 hv
  go_wp2_with fail
  have hl1 := versAt_block (l := [(1, 5), (2, 3)]) (heap_alloc_top w4 (.cells #[.int .i64 1, .int .i64 5, .int .i64 2, .int .i64 3] 25))
  have hl0 := versAt_below HV.out (Nat.le_refl _) (below_alloc w4 (.cells #[.int .i64 1, .int .i64 5, .int .i64 2, .int .i64 3] 25))
  have hb6 := hb5.alloc hb5.size (.cells #[.int .i64 1, .int .i64 5, .int .i64 2, .int .i64 3] 25)
  generalize w4.alloc (.cells #[.int .i64 1, .int .i64 5, .int .i64 2, .int .i64 3] 25) = w5 at hl0 hl1 hb6 ⊢
  refine (B5.out _ _ _ _ _ hl0 hl1).mono ?_
  rintro e w6 ⟨rfl, hb7⟩
  have hb8 := hb6.trans (hb7.mono hb6.size)
  clear hb7 hl0 hl1 hb6 hb5
  go_wp2_with (first
    | (refine wpList_row 23 _ rfl q rfl rfl 23 (vec F) (0, 0) _ (HG.out _ (inSub_of (by assumption))) Try.underlying23 rfl (info_vec' _) ?_)
    | (go_at_call 16; ((with_reducible refine (calls_in (B3.out _) (by assumption) hBW).mono ?_); rintro e w7 ⟨rfl, hb9⟩)))
  go_ret
  exact ⟨rfl, HB2.out.trans (hb9.mono HB2.out.size)⟩
end Go.Proofs.Ytjoacoiooijnlaa
