/-
  Layer 3: the reference's New.
-/
import Derived.Test.YtcabocppplokgaaRdkF
namespace Go.Proofs.Ytcabocppplokgaa
open Go.RowKit

/-- pieces that were laid, above q -/
structure NewAt (w0 w : World) (q : Nat) (v : Value) (l : List Value) : Prop where
  blk : w.heap[q]? = some (.cells #[v, .int .i64 0, .int .i64 0, .bool false] 49 (0, 0))
  row : w.ownsRow (q + 1) 70 1 v l.length l
  piece : ∀ j (h : j < l.length), ∃ g, l[j] = .slice (some ⟨g, 0, none⟩) 1 1 ∧ q < g ∧ w.heap[g]? = some (.cells #[.string (txt z64)] 9 (0, 0))
  low : Below q w0 w
theorem NewAt.step {w0 w w' : World} {q : Nat} {v v' : Value} {l : List Value} {g : Nat} (h : NewAt w0 w q v l) (hb : w'.heap[q]? = some (.cells #[v', .int .i64 0, .int .i64 0, .bool false] 49 (0, 0)))
    (hr : w'.ownsRow (q + 1) 70 1 v' (l.length + 1) (l ++ [.slice (some ⟨g, 0, none⟩) 1 1])) (hg : q < g) (hgb : w'.heap[g]? = some (.cells #[.string (txt z64)] 9 (0, 0)))
    (ht : Touch (fun k => k = q ∨ v.ownBlock = some k) w w') : NewAt w0 w' q v' (l ++ [.slice (some ⟨g, 0, none⟩) 1 1]) where
  blk := hb
  row := by rw [List.length_append]; exact hr
  piece := fun j hj => by
    by_cases e : j < l.length
    · obtain ⟨g', h1, h2, h3⟩ := h.piece j e
      refine ⟨g', by rw [List.getElem_append_left e]; exact h1, h2, (ht.block g' (lt_of_block h3) ?_).trans h3⟩
      rintro (rfl | e2)
      · omega
      · obtain ⟨c, fz, hc⟩ := Lib.ownsRow_kind h.row g' e2
        rw [h3] at hc
        simp at hc
    · have : j = l.length := by rw [List.length_append] at hj; simp at hj; omega
      subst this
      exact ⟨g, by rw [List.getElem_append_right (Nat.le_refl _)]; simp, hg, hgb⟩
  low := ht.below h.low (by have := lt_of_block h.blk; omega) (fun k hk => by
    rcases hk with rfl | e
    · exact Nat.le_refl _
    · have := (h.row.lt k e).1; omega)

/-- what New leaves -/
def NewPost (n : Nat) (w : World) (e : Ending) (w' : World) : Prop :=
  ∃ q R, e = .returned (.pointer (some ⟨q, 0, none⟩)) ∧ Below w.heap.size w w' ∧ Ref w' q R ⟨List.replicate n [z64], 0, 0, false⟩ ∧ w.heap.size ≤ q ∧ ∀ k, R k → w.heap.size ≤ k
set_option maxHeartbeats 4000000 in
theorem rnew_walk (n : Nat) (w : World) (h1 : 1 ≤ n) (h2 : n ≤ 20) : Calls Try.prog 14 #[.int .i64 n] w fun e w' => NewPost n w e w' := by
  obtain ⟨i0, hi0, hz0, hz1, hz2⟩ := info_parts info_piece
  obtain ⟨W, hW⟩ : ∃ W, W = w.alloc (.cells #[.slice none 0 0, .int .i64 0, .int .i64 0, .bool false] 49) := ⟨_, rfl⟩
  obtain ⟨q, hq⟩ : ∃ q, q = w.heap.size := ⟨_, rfl⟩
  have hb1 : Below q w W := by rw [hW, hq]; exact (Below.refl w.heap.size w).alloc (Nat.le_refl _) _
  have g1 : W.heap[q]? = some (.cells #[.slice none 0 0, .int .i64 0, .int .i64 0, .bool false] 49 (0, 0)) := by rw [hW, hq]; exact heap_alloc_top _ _
  have hn0 : NewAt w W q (.slice none 0 0) [] := ⟨g1, World.ownsRow_nil _ _ _ _, fun j hj => absurd hj (by simp), hb1⟩
  have HN0 := Lib.hid hn0; have HW := Lib.hid hW; have HQ := Lib.hid hq; have H1 := Lib.hid h1; have H2 := Lib.hid h2
  clear hb1 g1 hn0 hW hq h1 h2
  go_enter Try.func14, Try.ntmps14
  go_upto_region 2 with fail
  refine wp_world HW.out ?_
  rw [← HQ.out]
  go_wp2_with fail
  go_loopg [4] n (fun gk i wr => ∃ k v l, k + gk = n ∧ i = .int .i64 (k : Nat) ∧ NewAt w wr q v l ∧ l.length = k)
  case atStart => exact ⟨0, _, [], by omega, rfl, HN0.out, rfl⟩
  case round =>
    obtain ⟨k, v, l, hgk, rfl, hna, hlk⟩ := hrel
    have HNA := Lib.hid hna; have HGK := Lib.hid hgk; have HLK := Lib.hid hlk
    clear hna hgk hlk
    by_cases hlt : (k : Int) < (n : Int)
    · have hk20 : k ≤ 20 := by have := H2.out; omega
      have hni : (n : Int) ≤ 20 := by have := H2.out; omega
      have hvq : v.ownBlock ≠ some q := fun e => by have := (HNA.out.row.lt q e).1; omega
      have hqw := lt_of_block HNA.out.blk
      obtain ⟨C, hC⟩ : ∃ C : World → Prop, C = fun w9 => Touch (fun y => v.ownBlock = some y) wr w9 := ⟨_, rfl⟩
      have hCof : ∀ w9, Touch (fun y => v.ownBlock = some y) wr w9 → C w9 := fun w9 h => by rw [hC]; exact h
      have hc0 : ∀ w9, C w9 → w9.cell? ⟨q, 0, none⟩ = some v := fun w9 h => by
        rw [hC] at h
        exact cell_at ((h.block q hqw hvq).trans HNA.out.blk) rfl
      have HC0 := Lib.hid hc0; have HCO := Lib.hid hCof; have HVQ := Lib.hid hvq; have HK20 := Lib.hid hk20; have HQW := Lib.hid hqw
      have hC0 : C wr.drew := hCof _ (Touch.refl _ _).drew
      have hB0 : Below wr.heap.size wr wr.drew := (Below.refl _ _).drew
      clear hC hCof hc0 hvq hk20 hqw
      go_upto_region 5 with fail
      refine wp_region_mixT C 12 [(0,true,true),(1,true,true),(2,true,true),(3,true,true),(4,true,true),(5,false,true),(6,false,true),(7,true,true),(8,false,true),(9,false,true),(10,true,true),(11,true,true),(12,false,false)] (by kernel_rfl) (by kernel_rfl) hC0 ?_
      generalize wr.drew = w3 at hB0 ⊢
      clear hC0
      simp only [List.filterMap_cons, List.filterMap_nil, List.getElem?_cons_zero, List.getElem?_cons_succ, Option.map_some]
      repeat (refine mixT_read (by rfl) ?_; apply Exists.intro; refine ⟨fun w9 hw9 => ?_, ?_⟩; (· have d1 := HC0.out w9 hw9; go_simp; rfl); simp only [Act.put, List.setIfInBounds_toArray, List.set_cons_succ, List.set_cons_zero])
      refine mixT_step (by rfl) (fun K' hK => ?_)
      go_simp
      go_at_call 8
      refine (fill_walk ⟨#[]⟩ w3 (by show 0 ≤ 64; omega)).mono ?_
      rintro e wF ⟨rfl, hbF⟩
      have hBF : Below wr.heap.size wr wF := hB0.trans (hbF.mono hB0.size)
      rw [show txt (fill ⟨#[]⟩) = txt z64 from rfl]
      refine hK _ _ (HCO.out _ (Touch.ofBelow _ hBF)) ?_
      clear hK K' hbF hB0
      try simp only [Act.put, List.setIfInBounds_toArray, List.set_cons_succ, List.set_cons_zero]
      refine mixT_step (by rfl) (fun K' hK => ?_)
      go_simp
      have gG := heap_alloc_top wF (.cells #[.string (txt z64)] 9)
      have hBG := hBF.alloc hBF.size (.cells #[.string (txt z64)] 9)
      refine hK _ _ (HCO.out _ (Touch.ofBelow _ hBG)) ?_
      clear hK K'
      try simp only [Act.put, List.setIfInBounds_toArray, List.set_cons_succ, List.set_cons_zero]
      obtain ⟨g, hg⟩ : ∃ g, g = wF.heap.size := ⟨_, rfl⟩
      have hgq : wr.heap.size ≤ g := by rw [hg]; exact hBF.size
      rw [← hg] at gG ⊢
      generalize wF.alloc (.cells #[.string (txt z64)] 9) = wG at gG hBG ⊢
      clear hg hBF
      refine mixT_read (by rfl) ?_
      apply Exists.intro
      refine ⟨fun y hy => ?_, ?_⟩
      · go_simp; rfl
      simp only [Act.put, List.setIfInBounds_toArray, List.set_cons_succ, List.set_cons_zero]
      refine mixT_step (by rfl) (fun K' hK => ?_)
      go_simp
      have rB := row_new wG (q + 1) 1 1 70 #[.slice (some ⟨g, 0, none⟩) 1 1] (by have := HQW.out; have := hBG.size; omega) rfl (by unfold maxLen; omega)
      have hBB := hBG.alloc hBG.size (.cells #[.slice (some ⟨g, 0, none⟩) 1 1] 70)
      have gG2 : (wG.alloc (.cells #[.slice (some ⟨g, 0, none⟩) 1 1] 70)).heap[g]? = some (.cells #[.string (txt z64)] 9 (0, 0)) := by rw [heap_alloc_lt _ _ _ (lt_of_block gG)]; exact gG
      refine hK _ _ (HCO.out _ (Touch.ofBelow _ hBB)) ?_
      clear hK K'
      try simp only [Act.put, List.setIfInBounds_toArray, List.set_cons_succ, List.set_cons_zero]
      obtain ⟨B, hB⟩ : ∃ B, B = wG.heap.size := ⟨_, rfl⟩
      rw [← hB] at rB ⊢
      generalize wG.alloc (.cells #[.slice (some ⟨g, 0, none⟩) 1 1] 70) = wB at rB hBB gG2 ⊢
      clear hB hBG gG
      have hrv := row_below HNA.out.row hBB
      refine mixT_step (by rfl) (fun K' hK => ?_)
      refine wp_append_at _ _ _ 47 47 rfl (q + 1) 70 i0 (.agg #[.slice none 0 0]) 1 24 Try.underlying47 hi0 hz0 hz1 hz2 rfl (by decide) v l.length l rfl hrv _ 1 [.slice (some ⟨g, 0, none⟩) 1 1] rfl (src_own _ Try.underlying47 rB (by intro u hu; rw [List.mem_singleton.1 hu]; rfl)) (by unfold maxLen; have h1 := HLK.out; have h2 := HK20.out; omega) (by have h1 := HLK.out; have h2 := HK20.out; omega) (by have := HQW.out; have := hBB.size; omega) ?_
      intro vP wP hrP hgP hpP
      obtain ⟨gq, cq, rfl⟩ : ∃ gq cq, vP = .slice (some ⟨gq, 0, none⟩) (l.length + 1) cq := by
        rcases hrP.2 with ⟨_, h0⟩ | ⟨gq, cq, cur, e, _⟩
        · omega
        · exact ⟨gq, cq, e⟩
      have hTP : Touch (fun y => v.ownBlock = some y) wr wP := (Touch.ofBelow _ hBB).trans (Touch.ofGrown hgP (fun y e => e))
      refine hK _ _ (HCO.out _ hTP) ?_
      clear hK K'
      simp only [Act.put, List.setIfInBounds_toArray, List.set_cons_succ, List.set_cons_zero]
      have gP : wP.heap[g]? = some (.cells #[.string (txt z64)] 9 (0, 0)) := (hgP.block g (lt_of_block gG2) (fun e => by have := (HNA.out.row.lt g e.symm).2; omega)).trans gG2
      have hbq : wP.heap[q]? = some (.cells #[v, .int .i64 0, .int .i64 0, .bool false] 49 (0, 0)) := (hTP.block q HQW.out HVQ.out).trans HNA.out.blk
      have hsc : Touch (fun y => y = q) wP (wP.setCell ⟨q, 0, none⟩ (.slice (some ⟨gq, 0, none⟩) (l.length + 1) cq)) := (Touch.refl _ _).setCell (F := fun y => y = q) rfl _
      have hrow9 : (wP.setCell ⟨q, 0, none⟩ (.slice (some ⟨gq, 0, none⟩) (l.length + 1) cq)).ownsRow (q + 1) 70 1 (.slice (some ⟨gq, 0, none⟩) (l.length + 1) cq) (l.length + 1) (l ++ [.slice (some ⟨g, 0, none⟩) 1 1]) := ownsRow_setCell_other hrP (fun e => by have := (hrP.lt q e).1; omega) _
      have hna9 : NewAt w (wP.setCell ⟨q, 0, none⟩ (.slice (some ⟨gq, 0, none⟩) (l.length + 1) cq)) q (.slice (some ⟨gq, 0, none⟩) (l.length + 1) cq) (l ++ [.slice (some ⟨g, 0, none⟩) 1 1]) :=
        HNA.out.step (set_at hbq _) hrow9 (by have := HQW.out; omega) ((hsc.block g (lt_of_block gP) (fun e => by have := HQW.out; omega)).trans gP) ((hTP.mono (fun y _ e => .inr e)).trans (hsc.mono (fun y _ e => .inl e)))
      have c0 := cell_at (j := 0) (v := v) hbq rfl
      have f0 := free_at hbq 0
      have HNA9 := Lib.hid hna9
      clear rB hrv hrP hgP hpP hTP gP hbq hsc hrow9 hna9 hBB gG2 hgq
      repeat (refine mixT_read (by rfl) ?_; apply Exists.intro; refine ⟨fun y hy => ?_, ?_⟩; (· go_simp; rfl); simp only [Act.put, List.setIfInBounds_toArray, List.set_cons_succ, List.set_cons_zero])
      refine mixT_tail (by rfl) (fun K' hK => ?_)
      go_simp
      refine hK _ _ ?_
      clear hK K'
      try simp only [Act.put]
      refine mixT_nil (NoPanic.normal ?_)
      go_wp2_with fail
      go_roundg (gk - 1)
      case measure => have := HGK.out; omega
      case rel => exact ⟨k + 1, _, _, by have := HGK.out; omega, by go_num, HNA9.out, by rw [List.length_append, HLK.out]; rfl⟩
    · have hkn : l.length = n := by have h1 := HGK.out; have h2 := HLK.out; omega
      have hrow := HNA.out.row
      rcases hrow.2 with ⟨_, h0⟩ | ⟨rb, cap, cur, rfl, hrb, hg', h3, h4, h5, h6⟩
      · have := H1.out; omega
      have hcell : ∀ j (hj : j < l.length), wr.cell? ⟨rb, j, none⟩ = some l[j] := fun j hj => by
        have := World.ownsRow.cells hrow (g := rb) rfl j l[j] (List.getElem?_eq_getElem hj)
        rw [add_none0] at this
        exact this
      have hrl := lt_of_block hg'
      have hSl : (List.replicate n [z64]).length = n := by simp
      have href : RefAt wr q (fun y => q < y ∧ y < wr.heap.size) rb cap (fun j => l.getD j undef) ⟨List.replicate n [z64], 0, 0, false⟩ := by
        refine ⟨?_, ⟨⟨by omega, hrl⟩, by show (List.replicate n [z64]).length ≤ cap; omega, h4⟩, fun j hj => ?_, fun j hj => ?_, fun h => by omega, fun y hy => hy.2, secOk_new n H1.out (by have := H2.out; omega), by show (0 : Int) ≤ 0 ∧ (0 : Int) ≤ 9223372036854775807; omega⟩
        · show wr.heap[q]? = some (Obj.cells #[.slice (some ⟨rb, 0, none⟩) (List.replicate n [z64]).length cap, _, _, _] _ _)
          rw [hSl, ← hkn]
          exact HNA.out.blk
        · have hj' : j < l.length := by rw [hkn, ← hSl]; exact hj
          show _ = some (l.getD j undef)
          rw [List.getD_eq_getElem?_getD, List.getElem?_eq_getElem hj']
          exact hcell j hj'
        · have hj' : j < l.length := by rw [hkn, ← hSl]; exact hj
          obtain ⟨g, e1, e2, e3⟩ := HNA.out.piece j hj'
          have hjj : (List.replicate n [z64])[j]'hj = [z64] := List.getElem_replicate _
          show ∃ g c, l.getD j undef = .slice (some ⟨g, 0, none⟩) ((List.replicate n [z64])[j]'hj).length c ∧ (q < g ∧ g < wr.heap.size) ∧ ((List.replicate n [z64])[j]'hj).length ≤ c ∧ c ≤ 9223372036854775807 ∧ ∀ i (hi : i < ((List.replicate n [z64])[j]'hj).length), wr.cell? ⟨g, i, none⟩ = some (.string (txt (((List.replicate n [z64])[j]'hj)[i])))
          refine ⟨g, 1, ?_, ⟨e2, lt_of_block e3⟩, by rw [hjj]; simp, by omega, fun i hi => ?_⟩
          · rw [hjj, List.getD_eq_getElem?_getD, List.getElem?_eq_getElem hj']
            exact e1
          · simp only [hjj] at hi ⊢
            obtain rfl : i = 0 := by simpa using hi
            exact cell_at e3 rfl
      have HREF := Lib.hid href
      clear hkn hrow hrb hg' h3 h4 h5 h6 hcell hrl hSl href
      go_wp2_with fail
      go_ret
      refine ⟨q, _, rfl, (by have := HNA.out.low; rw [HQ.out] at this; exact this), ⟨_, _, _, HREF.out⟩, (by rw [HQ.out]; exact Nat.le_refl _), fun y hy => by have := HQ.out; omega⟩
end Go.Proofs.Ytcabocppplokgaa
