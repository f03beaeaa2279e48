/-
  Walks of layer 13: the reference's last versions; vectors of versions, as both tell them; how many there are; lists of versions that are the same.
-/
import Derived.Test.YtjoacoiooijnlaaVecH
namespace Go.Proofs.Ytjoacoiooijnlaa
open Go.RowKit

theorem ownsRow_below {w w' : World} {base e size n : Nat} {v : Value} {xs : List Value} (h : w.ownsRow base e size v n xs) (hb : Below w.heap.size w w') : w'.ownsRow base e size v n xs :=
  h.kept (grownBy_of_below hb none) (by cases hv : v.ownBlock <;> simp)

theorem ownsRow_mono {w : World} {base base' e size n : Nat} {v : Value} {xs : List Value} (h : w.ownsRow base e size v n xs) (hb : base' ≤ base) : w.ownsRow base' e size v n xs := by
  refine ⟨h.1, ?_⟩
  rcases h.2 with h2 | ⟨g, cap, cur, a, b, c⟩
  · exact .inl h2
  · exact .inr ⟨g, cap, cur, a, Nat.le_trans hb b, c⟩

theorem vat_clean (f : Nat → Int) (i : Nat) (h1 : 1 ≤ i) (h2 : i ≤ 64) : vat f i = vclean f i := by
  unfold vat vclean
  rw [if_neg (by omega), if_neg (by omega)]
  simp
theorem endsTo_one (f : Nat → Int) : endsTo f 1 = [] := by simp [endsTo, vclean]

set_option maxHeartbeats 1000000 in
theorem refEnds_walk (f : Nat → Int) (w : World) :
    Calls Try.prog 15 #[.agg (vec f)] w fun e w' => ∃ v, e = .returned v ∧ w'.ownsRow w.heap.size 25 2 v (endsTo f 65).length (pv (endsTo f 65)) ∧ Below w.heap.size w w' := by
  obtain ⟨i0, hi, hz0, hz1, hz2⟩ := info_parts info_ver
  go_enter Try.func15, Try.ntmps15
  go_upto_region 1 with fail
  have g0 := heap_alloc_top w (.cells (vec f) 23)
  have hB := below_alloc w (.cells (vec f) 23)
  have hS : w.heap.size < (w.alloc (.cells (vec f) 23)).heap.size := by simp
  generalize w.alloc (.cells (vec f) 23) = W at g0 hB hS ⊢
  have HG0 := Lib.hid (sub_row g0 (B := w.heap.size + 1) (by omega)); clear g0
  have hS1 : w.heap.size + 1 ≤ W.heap.size := hS
  go_wp2_with fail
  go_loopw [3, 4] (fun v i wr => ∃ k : Nat, 1 ≤ k ∧ k ≤ 65 ∧ i = .int .i64 k ∧ wr.ownsRow (w.heap.size + 1) 25 2 v (endsTo f k).length (pv (endsTo f k)) ∧ Below (w.heap.size + 1) W wr)
    (fun _ i _ => 65 - (intOf i).toNat)
  case atStart => exact ⟨1, by omega, by omega, rfl, by rw [endsTo_one]; exact World.ownsRow_nil _ _ _ _, Below.refl _ _⟩
  case round =>
    obtain ⟨k, hk1, hk, rfl, hown, hB2⟩ := hrel
    by_cases hlt : k < 65
    · have hle := endsTo_le f k
      have hva := vat_clean f k hk1 (by omega)
      have HVA := Lib.hid hva; clear hva
      by_cases hpos : 0 < vat f k
      · have hst : endsTo f (k + 1) = endsTo f k ++ [((k : Int), vat f k)] := by
          rw [HVA.out] at hpos ⊢
          simp only [endsTo, hpos, if_true]
        have HST := Lib.hid hst; clear hst
        obtain ⟨n, hn⟩ : ∃ n, n = (endsTo f k).length := ⟨_, rfl⟩
        rw [← hn] at hown hle
        have HN := Lib.hid hn; clear hn
        go_wp2_with (first
          | (refine wpList_row 23 _ rfl w.heap.size rfl rfl 23 (vec f) (0, 0) _ (HG0.out _ (inSub_of (by assumption))) Try.underlying23 rfl (info_vec' _) ?_))
        refine (at_walkB f _ _).mono ?_
        rintro e w2 ⟨rfl, hb2⟩
        have hownA := ownsRow_below hown hb2
        have hB3 := hB2.trans (hb2.mono (Nat.le_trans hS1 hB2.size))
        clear hown hB2 hb2
        go_wp2_with (refine wpList_row 23 _ rfl w.heap.size rfl rfl 23 (vec f) (0, 0) _ (HG0.out _ (inSub_of (by assumption))) Try.underlying23 rfl (info_vec' _) ?_)
        refine (at_walkB f _ _).mono ?_
        rintro e w3 ⟨rfl, hb3⟩
        have hownB := ownsRow_below hownA hb3
        have hB4 := hB3.trans (hb3.mono (Nat.le_trans hS1 hB3.size))
        clear hownA hB3 hb3
        have hsz := hB4.size
        go_wp2_with (at_builtin; refine wpList_append_src _ rfl _ _ 27 27 rfl (w.heap.size + 1) 25 i0 (.agg #[.int .i64 0, .int .i64 0]) 2 16 Try.underlying27 hi hz0 hz1 hz2 rfl (by decide) _ _ _ rfl (hownB.alloc _) _ 1 [.int .i64 k, .int .i64 (vat f k)] rfl (src_two _ Try.underlying27 _ _ _ _ rfl rfl (by simp) (by simp)) ?_ ?_ ?_ ?_)
        · unfold maxLen; omega
        · omega
        · simp; omega
        intro v' w5 hown5 hgrow
        have hB5 := (hB4.alloc (by omega) _).grown hgrow (by simp; omega) (fun k hk => (hownB.lt k hk).1)
        have HO := Lib.hid hown5
        clear hown5 hgrow hownB
        go_wp2
        go_roundw
        case rel =>
          refine ⟨k + 1, by omega, by omega, by go_num, ?_, hB5⟩
          have := HO.out
          rw [HST.out, pv_append, List.length_append, ← HN.out]
          exact this
        case measure => simp [intOf]; omega
      · have hst : endsTo f (k + 1) = endsTo f k := by
          rw [HVA.out] at hpos
          simp only [endsTo, hpos, if_false, List.append_nil]
        have HST := Lib.hid hst; clear hst
        have hpos' : vat f k ≤ 0 := by omega
        clear hpos
        go_wp2_with (refine wpList_row 23 _ rfl w.heap.size rfl rfl 23 (vec f) (0, 0) _ (HG0.out _ (inSub_of (by assumption))) Try.underlying23 rfl (info_vec' _) ?_)
        refine (at_walkB f _ _).mono ?_
        rintro e w2 ⟨rfl, hb2⟩
        have hownA := ownsRow_below hown hb2
        have hB3 := hB2.trans (hb2.mono (Nat.le_trans hS1 hB2.size))
        clear hown hB2 hb2
        go_wp2_with fail
        go_roundw
        case rel => exact ⟨k + 1, by omega, by omega, by go_num, by rw [HST.out]; exact hownA, hB3⟩
        case measure => simp [intOf]; omega
    · obtain rfl : k = 65 := by omega
      go_wp2_with fail
      go_ret
      exact ⟨_, rfl, ownsRow_mono hown (Nat.le_succ _), hB.trans (hB2.mono (Nat.le_succ _))⟩
end Go.Proofs.Ytjoacoiooijnlaa
