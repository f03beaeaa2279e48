/-
  Layer 3: the reference's Flush.
-/
import Derived.Test.YtcabocppplokgaaRdkD
namespace Go.Proofs.Ytcabocppplokgaa
open Go.RowKit

theorem getD_ext {S T : List (List Sec)} (hl : S.length = T.length) (h : ∀ i, i < S.length → S.getD i [] = T.getD i []) : S = T := by
  apply List.ext_getElem hl
  intro i h1 h2
  have := h i h1
  rw [List.getD_eq_getElem?_getD, List.getD_eq_getElem?_getD, List.getElem?_eq_getElem h1, List.getElem?_eq_getElem h2] at this
  exact this
theorem range_getD (n k : Nat) (h : k < n) : (List.range n).getD k 0 = k := by
  rw [List.getD_eq_getElem?_getD, List.getElem?_eq_getElem (by simpa using h)]
  simp
/-- all settled, whether they are dirty or not -/
theorem flush_all {S : List (List Sec)} (ok : secOk S) : settleN lastOf S (List.range S.length) S.length = settleN lastOf S (dirt S) (dirt S).length := by
  refine getD_ext (by rw [settleN_length, settleN_length]) (fun i hi => ?_)
  rw [settleN_length] at hi
  rw [flush_get hi ok]
  rcases settle_get lastOf S (List.range S.length) List.nodup_range (fun j hj => List.mem_range.1 hj) S.length (by simp) i with ⟨h1, _⟩ | ⟨j, _, _, h3⟩
  · exact absurd (by rw [List.take_of_length_le (by simp)]; exact List.mem_range.2 hi) h1
  · rw [h3]; rfl
theorem last_single (f : Sec) : [f] ≠ [] := by simp

set_option maxHeartbeats 4000000 in
theorem rflush_walk (q : Nat) (R : Nat → Prop) (st : Dk) (w : World) (h : Ref w q R st) :
    Calls Try.prog 31 #[.pointer (some ⟨q, 0, none⟩)] w fun e w' => RefPost q R w (.int .i64 (flushD st).1) (flushD st).2 e w' := by
  have HH := Lib.hid h
  have hok : secOk st.S := by obtain ⟨_, _, _, hd⟩ := h; exact hd.ok
  cases hdn : st.down with
  | true =>
    have hre : readyE st 0 = 12 := by unfold readyE; rw [if_pos hdn]
    have hwd : flushD st = (12, st) := by unfold flushD; rw [if_pos (by rw [hre]; omega), hre]
    rw [hwd]
    have hsame : RefPost q R w (.int .i64 12) st (.returned (.int .i64 12)) w := ⟨rfl, R, h, fun k hk => .inl hk, Touch.refl _ _⟩
    obtain ⟨rb, cap, V, hd⟩ := h
    have c3 := hd.c3
    rw [hdn] at c3
    have HS := Lib.hid hsame
    clear hd hwd hsame hdn hre hok
    go_enter Try.func31, Try.ntmps31
    go_wp2_with fail
    go_ret
    exact HS.out
  | false =>
    have h0 : readyE st 0 = 0 := by unfold readyE; rw [if_neg (by rw [hdn]; simp), if_neg (by have := hok.1; omega)]
    obtain ⟨rb, cap, V, hd⟩ := h
    have c3 := hd.c3
    rw [hdn] at c3
    have hcw := rcall_walk q R st w HH.out hdn
    cases hcd : (callD st).down with
    | true =>
      have hwd : flushD st = (12, callD st) := by unfold flushD; rw [if_neg (by simpa using h0), if_pos hcd]
      rw [hwd]
      rw [hcd] at hcw
      have HCW := Lib.hid hcw
      clear hd hwd hdn h0 hcw hcd hok
      go_enter Try.func31, Try.ntmps31
      go_wp2_with fail
      refine HCW.out.mono ?_
      rintro e w2 ⟨rfl, hd2, ht2⟩
      have HS := Lib.hid (show RefPost q R w (.int .i64 12) (callD st) (.returned (.int .i64 12)) w2 from ⟨rfl, R, hd2, fun k hk => .inl hk, ht2⟩)
      clear hd2 ht2
      go_wp2_with fail
      go_ret
      exact HS.out
    | false =>
      have hwd : flushD st = (0, ⟨settleN lastOf st.S (dirt st.S) (dirt st.S).length, (callD st).calls, (callD st).armed, (callD st).down⟩) := by
        unfold flushD; rw [if_neg (by simpa using h0), if_neg (by rw [hcd]; simp)]
      rw [hwd, ← flush_all hok]
      rw [hcd] at hcw
      obtain ⟨n, hn⟩ : ∃ n, n = st.S.length := ⟨_, rfl⟩
      have hn4 := hok.2.1
      rw [← hn] at hn4 ⊢
      have hni : (n : Int) ≤ 4096 := by omega
      have HCW := Lib.hid hcw; have HN := Lib.hid hn
      clear hd hwd hdn h0 hcw hcd hok hn4 hn
      go_enter Try.func31, Try.ntmps31
      go_wp2_with fail
      refine HCW.out.mono ?_
      rintro e w2 ⟨rfl, hd2, ht2⟩
      have HD2 := Lib.hid hd2; have HT2 := Lib.hid ht2
      clear hd2 ht2 HCW HH c3
      go_wp2_with fail
      go_loopg [3] n (fun gk v wr => ∃ k R', k + gk = n ∧ v = .int .i64 (k : Nat) ∧ Ref wr q R' ⟨settleN lastOf st.S (List.range n) k, (callD st).calls, (callD st).armed, (callD st).down⟩ ∧ (∀ x, R' x → R x ∨ w.heap.size ≤ x) ∧ Touch (fun x => x = q) w wr)
      case atStart => exact ⟨0, R, by omega, rfl, HD2.out, fun x hx => .inl hx, HT2.out⟩
      case round =>
        obtain ⟨k, R', hgk, rfl, hrf, hRR, hT⟩ := hrel
        have HGK := Lib.hid hgk; have HRF := Lib.hid hrf; have HRR := Lib.hid hRR; have HT := Lib.hid hT
        clear hgk hRR hT HD2 HT2
        obtain ⟨S, hS⟩ : ∃ S, S = settleN lastOf st.S (List.range n) k := ⟨_, rfl⟩
        have hSl : S.length = n := by rw [hS, settleN_length]; exact HN.out.symm
        rw [← hS] at hrf HRF
        obtain ⟨rb, cap, V, hd⟩ := hrf
        have c0 := hd.c0
        rw [show (Dk.mk S (callD st).calls (callD st).armed (callD st).down).S.length = n from hSl] at c0
        have HD := Lib.hid hd; have HSL := Lib.hid hSl; have HSS := Lib.hid hS
        clear hd hSl hS
        by_cases hlt : (k : Int) < (n : Int)
        · have hkS : k < S.length := by rw [HSL.out]; omega
          have hsucc : settleN lastOf st.S (List.range n) (k + 1) = putS S k [lastS S k] := by
            rw [settleN, range_getD n k (by omega), ← HSS.out]; rfl
          have HKS := Lib.hid hkS; have HSU := Lib.hid hsucc
          clear hkS hsucc
          go_upto_region 6 with fail
          obtain ⟨C, hC⟩ : ∃ C : World → Prop, C = fun w9 => Below wr.heap.size wr w9 := ⟨_, rfl⟩
          have hCof : ∀ w9, Below wr.heap.size wr w9 → C w9 := fun w9 h => by rw [hC]; exact h
          have hCto : ∀ w9, C w9 → Below wr.heap.size wr w9 := fun w9 h => by rw [hC] at h; exact h
          have hc0 : ∀ w9, C w9 → w9.cell? ⟨q, 0, none⟩ = some (.slice (some ⟨rb, 0, none⟩) n cap) := fun w9 h => (( hCto w9 h).cell (p := ⟨q, 0, none⟩) (lt_of_block HD.out.blk)).trans c0
          have HC0 := Lib.hid hc0; have HCO := Lib.hid hCof
          have hC0 : C wr.drew := hCof _ (Below.refl _ _).drew
          have hB0 : Below wr.heap.size wr wr.drew := (Below.refl _ _).drew
          clear hC hCof hCto hc0 c0
          refine wp_region_mixT C 14 [(0,true,true),(1,true,true),(2,true,true),(3,true,true),(4,true,true),(5,true,true),(6,true,true),(7,true,true),(8,false,true),(9,false,true),(10,true,true),(11,false,true),(12,true,true),(13,true,true),(14,false,false)] (by kernel_rfl) (by kernel_rfl) hC0 ?_
          generalize wr.drew = w3 at hB0 ⊢
          clear hC0
          simp only [List.filterMap_cons, List.filterMap_nil, List.getElem?_cons_zero, List.getElem?_cons_succ, Option.map_some]
          repeat (refine mixT_read (by rfl) ?_; apply Exists.intro; refine ⟨fun w9 hw9 => ?_, ?_⟩; (· have d1 := HC0.out w9 hw9; go_simp; rfl); simp only [Act.put, List.setIfInBounds_toArray, List.set_cons_succ, List.set_cons_zero])
          refine mixT_step (by rfl) (fun K' hK => ?_)
          go_simp
          go_at_call 22
          refine (rread_disk q R' _ k w3 (HRF.out.below hB0) HKS.out).mono ?_
          rintro e wF ⟨rfl, hbF⟩
          have hBF : Below wr.heap.size wr wF := hB0.trans (hbF.mono hB0.size)
          refine hK _ _ (HCO.out _ hBF) ?_
          clear hK K' hB0 hbF
          try simp only [Act.put, List.setIfInBounds_toArray, List.set_cons_succ, List.set_cons_zero]
          obtain ⟨f, hf⟩ : ∃ f, f = lastS S k := ⟨_, rfl⟩
          rw [show lastS (Dk.mk S (callD st).calls (callD st).armed (callD st).down).S k = f from hf.symm]
          have hf64 : f.length = 64 := by rw [hf]; exact last_len HKS.out HD.out.ok
          have HF := Lib.hid hf; have HF64 := Lib.hid hf64
          clear hf hf64
          refine mixT_step (by rfl) (fun K' hK => ?_)
          go_simp
          have rB := row_new wF wr.heap.size 1 1 9 #[.string (txt f)] hBF.size rfl (by unfold maxLen; omega)
          have hBB := hBF.alloc hBF.size (.cells #[.string (txt f)] 9)
          refine hK _ _ (HCO.out _ hBB) ?_
          clear hK K'
          try simp only [Act.put, List.setIfInBounds_toArray, List.set_cons_succ, List.set_cons_zero]
          obtain ⟨B, hB⟩ : ∃ B, B = wF.heap.size := ⟨_, rfl⟩
          rw [← hB] at rB ⊢
          generalize wF.alloc (.cells #[.string (txt f)] 9) = wQ at rB hBB ⊢
          clear hB hBF
          obtain ⟨g2, c2, hvv, hg2, hg2l, hc2, hc2m, hstr2⟩ := strv_open (L := [f]) rB (by simp)
          simp only [Value.slice.injEq, Option.some.injEq, Addr.mk.injEq, and_true] at hvv
          obtain ⟨rfl, hone1, rfl⟩ := hvv
          clear hone1
          have HG2 := Lib.hid (And.intro hg2 (And.intro hg2l hstr2))
          clear rB hg2 hg2l hc2 hc2m hstr2
          refine mixT_read (by rfl) ?_
          apply Exists.intro
          refine ⟨fun w9 hw9 => ?_, ?_⟩
          · go_simp; rfl
          simp only [Act.put, List.setIfInBounds_toArray, List.set_cons_succ, List.set_cons_zero]
          refine mixT_step (by rfl) (fun K' hK => ?_)
          go_simp
          go_at_call 34
          have hdQ := HD.out.below hBB
          have hone : ∀ j, j < n → (V j).oneCell' = true := fun j hj => by
            obtain ⟨g', c', e, _⟩ := HD.out.at (i := j) (show j < S.length by rw [HSL.out]; exact hj) rfl
            rw [e]; rfl
          have hcells : ∀ j, j < n → wQ.cell? ⟨rb, j, none⟩ = some (V j) := fun j hj => hdQ.cell j (show j < S.length by rw [HSL.out]; exact hj)
          refine (rset_walk rb n cap k V (.slice (some ⟨B, 0, none⟩) 1 1) wQ (hdQ.lt rb hdQ.row.1) hcells hone rfl (by omega) (by omega)).mono ?_
          rintro e w4 ⟨rb3, cap3, rfl, hb4, k1, k2, k3, k4, k5⟩
          have hB4 : Below wr.heap.size wr w4 := hBB.trans (hb4.mono hBB.size)
          refine hK _ _ (HCO.out _ hB4) ?_
          clear hK K' hone hcells
          try simp only [Act.put, List.setIfInBounds_toArray, List.set_cons_succ, List.set_cons_zero]
          repeat (refine mixT_read (by rfl) ?_; apply Exists.intro; refine ⟨fun w9 hw9 => ?_, ?_⟩; (· go_simp; rfl); simp only [Act.put, List.setIfInBounds_toArray, List.set_cons_succ, List.set_cons_zero])
          have hd4 := HD.out.below hB4
          have c0 := hd4.c0
          have f0 := hd4.fr 0
          rw [show (Dk.mk S (callD st).calls (callD st).armed (callD st).down).S.length = n from HSL.out] at c0
          obtain ⟨R2, r1, r2, r3⟩ := ref_done HD.out hB4 (i := k) HKS.out (L := [f]) (by simp) (fun t ht => by rw [List.mem_singleton.1 ht]; exact HF64.out) (rb' := rb3) (cap' := cap3) (g := B) (c := 1) (Nat.le_trans hBB.size k1) k2 ⟨by show S.length ≤ cap3; rw [HSL.out]; exact k3, k4⟩ (fun j hj => k5 j (by rw [← HSL.out]; exact hj)) HG2.out.1 (Nat.lt_of_lt_of_le HG2.out.2.1 hb4.size) ⟨by simp, by omega⟩
            (fun j hj => (hb4.cell (p := ⟨B, j, none⟩) HG2.out.2.1).trans (HG2.out.2.2 j hj))
          have r4 : Ref (w4.setCell ⟨q, 0, none⟩ (.slice (some ⟨rb3, 0, none⟩) n cap3)) q R2 ⟨settleN lastOf st.S (List.range n) (k + 1), (callD st).calls, (callD st).armed, (callD st).down⟩ := by
            rw [HSU.out, ← HF.out]
            have := r1
            rw [show (Dk.mk S (callD st).calls (callD st).armed (callD st).down).S.length = n from HSL.out] at this
            exact this
          have r5 : Touch (fun x => x = q) w (w4.setCell ⟨q, 0, none⟩ (.slice (some ⟨rb3, 0, none⟩) n cap3)) := by
            have := HT.out.trans r3
            rw [show (Dk.mk S (callD st).calls (callD st).armed (callD st).down).S.length = n from HSL.out] at this
            exact this
          have R4 := Lib.hid r4; have R5 := Lib.hid r5
          have R6 := Lib.hid (show ∀ x, R2 x → R x ∨ w.heap.size ≤ x from fun x hx => (r2 x hx).elim (HRR.out x) (fun h => .inr (Nat.le_trans HT.out.size h)))
          clear hd4 r1 r2 r3 r4 r5 hdQ hb4 k1 k2 k3 k4 k5 hBB
          refine mixT_tail (by rfl) (fun K' hK => ?_)
          go_simp
          refine hK _ _ ?_
          clear hK K'
          try simp only [Act.put]
          refine mixT_nil (NoPanic.normal ?_)
          go_wp2_with fail
          go_roundg (gk - 1)
          case measure => have := HGK.out; omega
          case rel => exact ⟨k + 1, R2, by have := HGK.out; omega, by go_num, R4.out, R6.out, R5.out⟩
        · have hkn : n = k := by have := HGK.out; omega
          have HFIN := Lib.hid (show RefPost q R w (.int .i64 0) ⟨settleN lastOf st.S (List.range n) n, (callD st).calls, (callD st).armed, (callD st).down⟩ (.returned (.int .i64 0)) wr from ⟨rfl, R', by
            have := HRF.out
            rw [HSS.out, ← hkn] at this
            exact this, HRR.out, HT.out⟩)
          clear hkn
          go_wp2_with fail
          go_ret
          exact HFIN.out
end Go.Proofs.Ytcabocppplokgaa
