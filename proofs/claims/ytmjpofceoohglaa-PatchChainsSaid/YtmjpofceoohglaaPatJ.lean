/-
  Layer 41: the walk of PatchChains.
-/
import Derived.Test.YtmjpofceoohglaaPatI
import Derived.Test.YtmjpofceoohglaaTwo
import Derived.Deep.CutRange
namespace Go.Proofs.Ytmjpofceoohglaa
open Go.RowKit

theorem cellP2 {w : World} {q : Nat} {h t : Int} {m : ByteArray} (g : w.heap[q]? = some (.cells (pat h t m) 23 (0, 0))) : w.cell? ⟨q, 2, none⟩ = some (.string m) := by rw [cell_of_row w q 2 _ _ _ g]; rfl
theorem chainP_sizes : ∀ (l : List ByteArray), (∀ x ∈ l, x.size ≤ 400) → ∀ p ∈ chainP l, p.2.2.size ≤ 400
  | [], _, p, hp => by simp [chainP] at hp
  | [a], _, p, hp => by simp [chainP] at hp
  | a :: b :: r, h, p, hp => by
    have he : chainP (a :: b :: r) = mkP a b :: chainP (b :: r) := rfl
    rw [he] at hp
    rcases List.mem_cons.1 hp with rfl | hp
    · have h1 := size_mid a b
      have h2 := h b (by simp)
      show (midB a b).size ≤ 400
      omega
    · exact chainP_sizes (b :: r) (fun x hx => h x (by simp [hx])) p hp
theorem thr_all (l : List ByteArray) (h : 0 < l.length) (hs : ∀ x ∈ l, x.size ≤ 400) : thr (l[0]) (chainP l) = (l[l.length - 1], 0) := by
  cases l with
  | nil => simp at h
  | cons a r =>
    have := thr_chain r a (fun x hx => hs x (by simp [hx]))
    rw [List.getLast_eq_getElem] at this
    exact this

set_option maxHeartbeats 4000000 in
set_option maxRecDepth 8000 in
theorem patchChains_walk (ad : Option Addr) (cap : Nat) (l : List ByteArray) (h t : Int) (m : ByteArray) (w : World) (hl : strsAt w ad l) (hcap : l.length ≤ cap) (hcap2 : cap ≤ 9223372036854775807) :
    Calls Try.prog 4 #[.slice ad l.length cap, .agg (pat h t m)] w fun e w' => e = .returned (.bool true) ∧ Below w.heap.size w w' := by
  obtain ⟨i0, hi, hz0, hz1, hz2⟩ := info_parts info_patch
  have HL := Lib.hid hl
  clear hl
  go_enter Try.func4, Try.ntmps4
  go_upto_region 1 with fail
  have g0 := heap_alloc_top w (.cells (pat h t m) 23)
  have hB := pat_below w (.cells (pat h t m) 23)
  obtain ⟨q, hq⟩ : ∃ q, q = w.heap.size := ⟨_, rfl⟩
  rw [← hq] at g0 ⊢
  generalize w.alloc (.cells (pat h t m) 23) = W at g0 hB ⊢
  have G0 := Lib.hid g0; have HB := Lib.hid hB
  clear g0 hB hq
  go_upto_if 15 with fail
  go_cut [0] from 13 to 17 (fun s0 wx => ∃ cap2, s0 = .slice ad (l.take 20).length cap2 ∧ wx = W)
  case first =>
    by_cases h20 : (20 : Int) < (l.length : Int)
    · go_wp2_with fail
      go_meet
      exact ⟨_, by rw [List.length_take, show min 20 l.length = 20 by omega], rfl⟩
    · go_wp2_with fail
      go_meet
      exact ⟨_, by rw [List.length_take, show min 20 l.length = l.length by omega], rfl⟩
  case rest =>
  obtain ⟨cap2, rfl, hwc⟩ := hcut
  obtain rfl := hwc.symm
  obtain ⟨gs, hgs⟩ : ∃ gs, gs = l.take 20 := ⟨_, rfl⟩
  have hgl : strsAt W ad gs := by rw [hgs]; exact strsAt_below (strsAt_take HL.out 20) (Nat.le_refl _) HB.out
  have hg20 : (gs.length : Int) ≤ 20 := by rw [hgs, List.length_take]; omega
  rw [← hgs]
  have HGL := Lib.hid hgl; have HG20 := Lib.hid hg20
  clear hgs hgl HL hcap hcap2
  go_wp2_with fail
  go_loopg [5] gs.length (fun gk i wr => ∃ k : Nat, k + gk = gs.length ∧ i = .int .i64 (k : Nat) ∧ (∀ x ∈ gs.take k, x.size ≤ 400) ∧ wr = W)
  case atStart => exact ⟨0, by omega, rfl, by simp, rfl⟩
  case round =>
    obtain ⟨k, hgk, rfl, hsz, rfl⟩ := hrel
    have HSZ := Lib.hid hsz
    clear hsz
    by_cases hlt : k < gs.length
    · rcases HGL.out with hnil | ⟨bl, off, rfl, hbl, hcs⟩
      · simp [hnil] at hlt
      obtain ⟨g, rfl⟩ : ∃ g, gk = g + 1 := ⟨gk - 1, by omega⟩
      have htk : gs.take (k + 1) = gs.take k ++ [gs[k]] := by rw [List.take_append_getElem]
      have hc := hcs k hlt
      obtain ⟨x, hx⟩ : ∃ x, x = gs[k] := ⟨_, rfl⟩
      rw [← hx] at hc htk
      have HTK := Lib.hid htk
      clear hcs hx htk hbl
      by_cases hbig : (400 : Int) < (x.size : Int)
      · go_wp2_with fail
        refine (awake_walk _).mono ?_
        rintro r w2 ⟨rfl, hb2⟩
        go_wp2_with fail
        go_ret
        exact ⟨rfl, HB.out.trans (hb2.mono HB.out.size)⟩
      · have hsz2 : ∀ y ∈ gs.take (k + 1), y.size ≤ 400 := by
          rw [HTK.out]; intro y hy
          rcases List.mem_append.1 hy with h | h
          · exact HSZ.out y h
          · rw [List.mem_singleton.1 h]; omega
        have HSZ2 := Lib.hid hsz2
        clear hsz2
        go_wp2_with fail
        go_roundg g
        case measure => omega
        case rel => exact ⟨k + 1, by omega, by go_num, HSZ2.out, rfl⟩
    · obtain rfl : k = gs.length := by omega
      rw [List.take_length] at HSZ
      go_wp2_with fail
      refine (chain_walk ad cap2 gs _ HGL.out (by have := HG20.out; omega) HSZ.out).mono ?_
      rintro r w1 ⟨v, rfl, hown, hb1⟩
      obtain ⟨ps, hps⟩ : ∃ ps, ps = chainP gs := ⟨_, rfl⟩
      have hpl : ps.length = gs.length - 1 := by rw [hps]; exact chainP_length gs
      have hpz : ∀ p ∈ ps, p.2.2.size ≤ 400 := by rw [hps]; exact chainP_sizes gs HSZ.out
      rw [← hps, ← hpl] at hown
      obtain ⟨adc, capc, rfl, hpts⟩ := ptsAt_own hown
      have g1 := (hb1.block q (lt_of_block G0.out)).trans G0.out
      have HGL1 := Lib.hid (strsAt_below HGL.out (Nat.le_refl _) hb1)
      have HB1 := Lib.hid (HB.out.trans (hb1.mono HB.out.size))
      have HO := Lib.hid hown; have HPS := Lib.hid hps; have HPL := Lib.hid hpl; have HPZ := Lib.hid hpz; have HPT := Lib.hid hpts
      have G1 := Lib.hid g1
      clear hown hb1 hps hpl hpz hpts g1 hlt
      by_cases h0 : gs.length = 0
      · have hp0 : ps.length = 0 := by rw [HPL.out, h0]
        have H0 := Lib.hid h0
        clear h0
        rw [H0.out, hp0]
        clear hp0
        go_wp2_with fail
        refine (awake_walk _).mono ?_
        rintro r w2 ⟨rfl, hb2⟩
        go_wp2_with fail
        go_ret
        exact ⟨rfl, HB1.out.trans (hb2.mono HB1.out.size)⟩
      · rcases HGL1.out with hnil | ⟨bl, off, rfl, hbl, hcs⟩
        · exact absurd (by rw [hnil]; rfl) h0
        have hpos : 0 < gs.length := by omega
        have hthr := thr_all gs hpos HSZ.out
        have hc0 := hcs 0 hpos
        have hc9 := hcs (gs.length - 1) (by omega)
        rw [← HPS.out] at hthr
        obtain ⟨x, hx⟩ : ∃ x, x = gs[0] := ⟨_, rfl⟩
        obtain ⟨y, hy⟩ : ∃ y, y = gs[gs.length - 1] := ⟨_, rfl⟩
        rw [← hx, ← hy] at hthr
        rw [← hx] at hc0; rw [← hy] at hc9
        have hxs : x.size ≤ 400 := by rw [hx]; exact HSZ.out _ (List.getElem_mem _)
        have hys : y.size ≤ 400 := by rw [hy]; exact HSZ.out _ (List.getElem_mem _)
        obtain ⟨j, hj⟩ : ∃ j, j = gs.length - 1 := ⟨_, rfl⟩
        rw [← hj] at hc9
        have hpj : ps.length = j := by rw [HPL.out, hj]
        obtain ⟨n, hn⟩ : ∃ n, n = gs.length := ⟨_, rfl⟩
        have hn20 : (n : Int) ≤ 20 := by rw [hn]; exact HG20.out
        have hnj : n = j + 1 := by omega
        rw [← hn]
        have HXS := Lib.hid hxs; have HYS := Lib.hid hys; have HTHR := Lib.hid hthr; have HPJ := Lib.hid hpj
        clear hcs hx hy hj hn h0 hpos hxs hys hthr HPL HSZ HPS HG20 HGL
        subst hnj
        have k1 := through_walk x adc capc ps w1 HPT.out (by have := HPJ.out; omega) (fun p hp => Nat.le_trans (HPZ.out p hp) (by omega)) (by have := HXS.out; omega)
        rw [HTHR.out] at k1
        have K1 := Lib.hid k1
        clear k1
        rw [HPJ.out]
        rw [HPJ.out] at K1
        have hw : wrap64 (((j + 1 : Nat) : Int) - 1) = ((j : Nat) : Int) := by rw [IntWalk.wrap64_in _ ⟨by omega, by omega⟩]; omega
        have hw2 : IntKind.i64.wrap (((j + 1 : Nat) : Int) - 1) = ((j : Nat) : Int) := by rw [IntWalk.i64_in _ ⟨by omega, by omega⟩]; omega
        have hc00 : w1.cell? ⟨bl, off, none⟩ = some (.string x) := hc0
        obtain ⟨n, hn⟩ : ∃ n, n = j + 1 := ⟨_, rfl⟩
        rw [← hn] at hn20 hw hw2 ⊢
        have hjn : j < n := by omega
        have hn0 : 0 < n := by omega
        have hnz : ¬ ((n : Int) = 0) := by omega
        have HNJ := Lib.hid hn
        clear hn
        go_wp2_with fail
        refine K1.out.mono ?_
        rintro r w2 ⟨rfl, hb2⟩
        have hblw : bl < w1.heap.size := hbl
        have d0 : w2.cell? ⟨bl, off + 0, none⟩ = some (.string x) := (hb2.cell (p := ⟨bl, off + 0, none⟩) hblw).trans hc0
        have d9 : w2.cell? ⟨bl, off + j, none⟩ = some (.string y) := (hb2.cell (p := ⟨bl, off + j, none⟩) hblw).trans hc9
        have g2 := (hb2.block q (lt_of_block G1.out)).trans G1.out
        have HB2 := Lib.hid (HB1.out.trans (hb2.mono HB1.out.size))
        have HO2 := Lib.hid (own_below HO.out hb2 (Nat.le_refl _))
        have hbl2 : bl < w2.heap.size := Nat.lt_of_lt_of_le hblw hb2.size
        clear hc0 hc00 hc9 hb2 HB1 HO G1 HPT K1 hblw hbl HGL1
        have c2 := cellP2 g2
        by_cases hbig : (400 : Int) < (m.size : Int)
        · go_wp2_with fail
          refine (awake_walk _).mono ?_
          rintro r w3 ⟨rfl, hb3⟩
          go_wp2_with fail
          go_ret
          exact ⟨rfl, HB2.out.trans (hb3.mono HB2.out.size)⟩
        · have hms : m.size ≤ 400 := by omega
          have HMS := Lib.hid hms
          clear hbig hms
          obtain ⟨u, e, hue⟩ : ∃ u e, papply y h t m = (u, e) := ⟨_, _, rfl⟩
          have hth2 : thr x (ps ++ [(h, t, m)]) = (u, e) := by
            rw [thr_snoc ps x (h, t, m) (by rw [HTHR.out]), HTHR.out]; exact hue
          have kr := fun w => refApply_walk y h t m w (by have := HYS.out; omega) (by have h1 := HYS.out; have h2 := HMS.out; omega)
          rw [hue] at kr
          have KR := Lib.hid kr; have HT2 := Lib.hid hth2
          clear kr hth2 hue
          have c0 : ∀ z : Sub w2.heap.size w2, z.val.cell? ⟨bl, off + 0, none⟩ = some (.string x) := fun z => sub_cell d0 hbl2 z
          have c0' : ∀ z : Sub w2.heap.size w2, z.val.cell? ⟨bl, off, none⟩ = some (.string x) := fun z => c0 z
          have c9 : ∀ z : Sub w2.heap.size w2, z.val.cell? ⟨bl, off + j, none⟩ = some (.string y) := fun z => sub_cell d9 hbl2 z
          have hgq : ∀ w', inSub w2.heap.size w2 w' → w'.heap[q]? = some (.cells (pat h t m) 23 (0, 0)) := fun w' ⟨z, hz⟩ => by rw [hz]; exact sub_heap g2 (lt_of_block g2) z
          have HGQ := Lib.hid hgq
          clear hgq
          have hmm : (m.size : Int) ≤ 400 := by have := HMS.out; omega
          go_upto_region 16 with fail
          go_cut [9, 10] from 75 to 87 (fun s9 s10 wx => s9 = .string u ∧ s10 = .int .i64 e ∧ Below w2.heap.size w2 wx)
          case first =>
            refine wp_region_tree (inSub w2.heap.size w2) (.read 0 (.read 1 (.read 2 (.read 4 (.read 6 (.two 3 (.two 5 (.one 7 (.one 8 (.one 9 (.read 10 (.read 11 (.read 12 (.read 13 (.read 14 .nil)))))))) 7 (.one 5 (.one 8 (.one 9 (.read 10 (.read 11 (.read 12 (.read 13 (.read 14 .nil))))))))) 7 (.one 3 (.one 5 (.one 8 (.one 9 (.read 10 (.read 11 (.read 12 (.read 13 (.read 14 .nil))))))))))))))) (by kernel_rfl) (by kernel_rfl) (inSub_of (Below.refl _ _).drew) ?_
            have hb0 : Below w2.heap.size w2 w2.drew := (Below.refl _ _).drew
            obtain ⟨W2, hW2⟩ : ∃ W2, W2 = w2 := ⟨_, rfl⟩
            generalize w2.drew = w0 at hb0 ⊢
            simp only [MT.fill, List.getElem?_cons_zero, List.getElem?_cons_succ]
            repeat (first
              | (refine tree_load_row 23 _ rfl (by rfl) q rfl 23 (pat h t m) (0, 0) _ HGQ.out Try.underlying23 rfl info_pat ?_; simp only [Act.put, List.setIfInBounds_toArray, List.set_cons_succ, List.set_cons_zero])
              | ((with_reducible refine tree_read ?_ ?_); (· rfl); apply Exists.intro; refine ⟨fun w9 hw9 => ?_, ?_⟩; (· obtain ⟨x9, rfl⟩ := hw9; have d1 := c0' x9; go_simp; rfl); simp only [Act.put, List.setIfInBounds_toArray, List.set_cons_succ, List.set_cons_zero]))
            clear hW2
            with_reducible refine tree_two ?_ ?_
            · with_reducible refine tree_one ?_ (fun K' hK => ?_)
              · rfl
              go_simp
              have rE := row_new w0 w2.heap.size 3 0 23 #[] hb0.size rfl (by unfold maxLen; omega)
              have hbE := hb0.alloc hb0.size (.cells #[] 23)
              have hsE : (w0.alloc (.cells #[] 23)).heap.size = w0.heap.size + 1 := by simp
              refine hK _ _ (inSub_of hbE) ?_
              clear hK K'
              try simp only [Act.put, List.setIfInBounds_toArray, List.set_cons_succ, List.set_cons_zero]
              generalize w0.alloc (.cells #[] 23) = wE at rE hbE hsE  ⊢
              have HSE := Lib.hid hsE
              clear hsE
              with_reducible refine tree_two ?_ ?_
              · with_reducible refine tree_one ?_ (fun K' hK => ?_)
                · rfl
                have rC := own_below HO2.out hbE (Nat.le_refl _)
                rw [HPJ.out] at rC
                refine wp_append_at _ _ _ 30 30 rfl w2.heap.size 23 i0 (.agg #[.int .i64 0, .int .i64 0, .string ⟨#[]⟩]) 3 32 Try.underlying30 hi hz0 hz1 hz2 rfl (by decide) (.slice (some ⟨w0.heap.size, 0, none⟩) 0 0) 0 [] rfl rE (.slice adc j capc) j (ptv ps) rfl (src_own _ Try.underlying30 rC (ptv_one _)) (by unfold maxLen; omega) (by omega) hbE.size ?_
                intro vP wP rP hgrow hpl
                have hbP : Below w2.heap.size w2 wP := below_of_grown hbE hgrow hbE.size (fun k hk => (rE.lt k hk).1)
                skip
                refine hK _ _ (inSub_of hbP) ?_
                clear hK K'
                try simp only [Act.put, List.setIfInBounds_toArray, List.set_cons_succ, List.set_cons_zero]
                rw [List.nil_append, Nat.zero_add] at rP
                clear rC hgrow hpl rE
                with_reducible refine tree_one ?_ (fun K' hK => ?_)
                · rfl
                try unfold pat
                go_simp
                have rB := row_new wP w2.heap.size 3 1 23 #[.int .i64 h, .int .i64 t, .string m] hbP.size rfl (by unfold maxLen; omega)
                have hbB := hbP.alloc hbP.size (.cells #[.int .i64 h, .int .i64 t, .string m] 23)
                have hsB : (wP.alloc (.cells #[.int .i64 h, .int .i64 t, .string m] 23)).heap.size = wP.heap.size + 1 := by simp
                have rP := rP.alloc (.cells #[.int .i64 h, .int .i64 t, .string m] 23)
                refine hK _ _ (inSub_of hbB) ?_
                clear hK K'
                try simp only [Act.put, List.setIfInBounds_toArray, List.set_cons_succ, List.set_cons_zero]
                generalize wP.alloc (.cells #[.int .i64 h, .int .i64 t, .string m] 23) = wB at rB hbB hsB rP ⊢
                have HSB := Lib.hid hsB
                clear hsB
                with_reducible refine tree_one ?_ (fun K' hK => ?_)
                · rfl
                refine wp_append_at _ _ _ 30 30 rfl w2.heap.size 23 i0 (.agg #[.int .i64 0, .int .i64 0, .string ⟨#[]⟩]) 3 32 Try.underlying30 hi hz0 hz1 hz2 rfl (by decide) _ j (ptv ps) rfl rP (.slice (some ⟨wP.heap.size, 0, none⟩) 1 1) 1 #[.int .i64 h, .int .i64 t, .string m].toList rfl (src_own _ Try.underlying30 rB (by intro u hu; simp at hu; rcases hu with rfl | rfl | rfl <;> rfl)) (by unfold maxLen; omega) (by omega) hbB.size ?_
                intro vF wF rF hgrow hpl
                have hbF : Below w2.heap.size w2 wF := below_of_grown hbB hgrow hbB.size (fun k hk => (rP.lt k hk).1)
                refine hK _ _ (inSub_of hbF) ?_
                clear hK K'
                try simp only [Act.put, List.setIfInBounds_toArray, List.set_cons_succ, List.set_cons_zero]
                have hpp : ptv ps ++ #[.int .i64 h, .int .i64 t, .string m].toList = ptv (ps ++ [(h, t, m)]) := by rw [ptv_append]; rfl
                have hll : j + 1 = (ps ++ [(h, t, m)]).length := by rw [List.length_append, HPJ.out]; rfl
                rw [hpp, hll] at rF
                obtain ⟨adF, capF, rfl, hptF⟩ := ptsAt_own rF
                clear hpp hgrow hpl rF rP
                have kF := through_walk x adF capF (ps ++ [(h, t, m)]) wF hptF (by rw [← hll]; omega) (by
                  intro p hp
                  rcases List.mem_append.1 hp with hp | hp
                  · exact Nat.le_trans (HPZ.out p hp) (by omega)
                  · rw [List.mem_singleton.1 hp]; exact Nat.le_trans HMS.out (by omega)) (by have := HXS.out; omega)
                rw [HT2.out] at kF
                rw [← hll] at kF ⊢
                clear hptF hll
                with_reducible refine tree_one ?_ (fun K' hK => ?_)
                · rfl
                go_simp
                go_at_call 10
                refine kF.mono ?_
                rintro r w9 ⟨rfl, hb9⟩
                have hbG : Below w2.heap.size w2 w9 := hbF.trans (hb9.mono hbF.size)
                refine hK _ _ (inSub_of hbG) ?_
                clear hK K' kF
                try simp only [Act.put, List.setIfInBounds_toArray, List.set_cons_succ, List.set_cons_zero]
                repeat ((with_reducible refine tree_read ?_ ?_); (· rfl); apply Exists.intro; refine ⟨fun w9 hw9 => ?_, ?_⟩; (· go_simp; rfl); simp only [Act.put, List.setIfInBounds_toArray, List.set_cons_succ, List.set_cons_zero])
                with_reducible refine tree_nil (NoPanic.normal ?_)
                go_wp2_with fail
                go_meet
                exact ⟨rfl, rfl, hbG⟩
              · with_reducible refine tree_one ?_ (fun K' hK => ?_)
                · rfl
                try unfold pat
                go_simp
                have rB := row_new wE w2.heap.size 3 1 23 #[.int .i64 h, .int .i64 t, .string m] hbE.size rfl (by unfold maxLen; omega)
                have hbB := hbE.alloc hbE.size (.cells #[.int .i64 h, .int .i64 t, .string m] 23)
                have hsB : (wE.alloc (.cells #[.int .i64 h, .int .i64 t, .string m] 23)).heap.size = wE.heap.size + 1 := by simp
                have rE := rE.alloc (.cells #[.int .i64 h, .int .i64 t, .string m] 23)
                refine hK _ _ (inSub_of hbB) ?_
                clear hK K'
                try simp only [Act.put, List.setIfInBounds_toArray, List.set_cons_succ, List.set_cons_zero]
                generalize wE.alloc (.cells #[.int .i64 h, .int .i64 t, .string m] 23) = wB at rB hbB hsB rE ⊢
                have HSB := Lib.hid hsB
                clear hsB
                with_reducible refine tree_one ?_ (fun K' hK => ?_)
                · rfl
                have rC := own_below HO2.out hbB (Nat.le_refl _)
                rw [HPJ.out] at rC
                refine wp_append_at _ _ _ 30 30 rfl w2.heap.size 23 i0 (.agg #[.int .i64 0, .int .i64 0, .string ⟨#[]⟩]) 3 32 Try.underlying30 hi hz0 hz1 hz2 rfl (by decide) (.slice (some ⟨w0.heap.size, 0, none⟩) 0 0) 0 [] rfl rE (.slice adc j capc) j (ptv ps) rfl (src_own _ Try.underlying30 rC (ptv_one _)) (by unfold maxLen; omega) (by omega) hbB.size ?_
                intro vP wP rP hgrow hpl
                have hbP : Below w2.heap.size w2 wP := below_of_grown hbB hgrow hbB.size (fun k hk => (rE.lt k hk).1)
                have rB := World.ownsRow.kept rB hgrow (.inr (by simp only [Value.ownBlock, ne_eq, Option.some.injEq]; have h1 := HSE.out; have h2 := HSB.out; omega))
                refine hK _ _ (inSub_of hbP) ?_
                clear hK K'
                try simp only [Act.put, List.setIfInBounds_toArray, List.set_cons_succ, List.set_cons_zero]
                rw [List.nil_append, Nat.zero_add] at rP
                clear rC hgrow hpl rE
                with_reducible refine tree_one ?_ (fun K' hK => ?_)
                · rfl
                refine wp_append_at _ _ _ 30 30 rfl w2.heap.size 23 i0 (.agg #[.int .i64 0, .int .i64 0, .string ⟨#[]⟩]) 3 32 Try.underlying30 hi hz0 hz1 hz2 rfl (by decide) _ j (ptv ps) rfl rP (.slice (some ⟨wE.heap.size, 0, none⟩) 1 1) 1 #[.int .i64 h, .int .i64 t, .string m].toList rfl (src_own _ Try.underlying30 rB (by intro u hu; simp at hu; rcases hu with rfl | rfl | rfl <;> rfl)) (by unfold maxLen; omega) (by omega) hbP.size ?_
                intro vF wF rF hgrow hpl
                have hbF : Below w2.heap.size w2 wF := below_of_grown hbP hgrow hbP.size (fun k hk => (rP.lt k hk).1)
                refine hK _ _ (inSub_of hbF) ?_
                clear hK K'
                try simp only [Act.put, List.setIfInBounds_toArray, List.set_cons_succ, List.set_cons_zero]
                have hpp : ptv ps ++ #[.int .i64 h, .int .i64 t, .string m].toList = ptv (ps ++ [(h, t, m)]) := by rw [ptv_append]; rfl
                have hll : j + 1 = (ps ++ [(h, t, m)]).length := by rw [List.length_append, HPJ.out]; rfl
                rw [hpp, hll] at rF
                obtain ⟨adF, capF, rfl, hptF⟩ := ptsAt_own rF
                clear hpp hgrow hpl rF rP
                have kF := through_walk x adF capF (ps ++ [(h, t, m)]) wF hptF (by rw [← hll]; omega) (by
                  intro p hp
                  rcases List.mem_append.1 hp with hp | hp
                  · exact Nat.le_trans (HPZ.out p hp) (by omega)
                  · rw [List.mem_singleton.1 hp]; exact Nat.le_trans HMS.out (by omega)) (by have := HXS.out; omega)
                rw [HT2.out] at kF
                rw [← hll] at kF ⊢
                clear hptF hll
                with_reducible refine tree_one ?_ (fun K' hK => ?_)
                · rfl
                go_simp
                go_at_call 10
                refine kF.mono ?_
                rintro r w9 ⟨rfl, hb9⟩
                have hbG : Below w2.heap.size w2 w9 := hbF.trans (hb9.mono hbF.size)
                refine hK _ _ (inSub_of hbG) ?_
                clear hK K' kF
                try simp only [Act.put, List.setIfInBounds_toArray, List.set_cons_succ, List.set_cons_zero]
                repeat ((with_reducible refine tree_read ?_ ?_); (· rfl); apply Exists.intro; refine ⟨fun w9 hw9 => ?_, ?_⟩; (· go_simp; rfl); simp only [Act.put, List.setIfInBounds_toArray, List.set_cons_succ, List.set_cons_zero])
                with_reducible refine tree_nil (NoPanic.normal ?_)
                go_wp2_with fail
                go_meet
                exact ⟨rfl, rfl, hbG⟩
            · with_reducible refine tree_one ?_ (fun K' hK => ?_)
              · rfl
              try unfold pat
              go_simp
              have rB := row_new w0 w2.heap.size 3 1 23 #[.int .i64 h, .int .i64 t, .string m] hb0.size rfl (by unfold maxLen; omega)
              have hbB := hb0.alloc hb0.size (.cells #[.int .i64 h, .int .i64 t, .string m] 23)
              have hsB : (w0.alloc (.cells #[.int .i64 h, .int .i64 t, .string m] 23)).heap.size = w0.heap.size + 1 := by simp
              refine hK _ _ (inSub_of hbB) ?_
              clear hK K'
              try simp only [Act.put, List.setIfInBounds_toArray, List.set_cons_succ, List.set_cons_zero]
              generalize w0.alloc (.cells #[.int .i64 h, .int .i64 t, .string m] 23) = wB at rB hbB hsB  ⊢
              have HSB := Lib.hid hsB
              clear hsB
              with_reducible refine tree_one ?_ (fun K' hK => ?_)
              · rfl
              go_simp
              have rE := row_new wB w2.heap.size 3 0 23 #[] hbB.size rfl (by unfold maxLen; omega)
              have hbE := hbB.alloc hbB.size (.cells #[] 23)
              have hsE : (wB.alloc (.cells #[] 23)).heap.size = wB.heap.size + 1 := by simp
              have rB := rB.alloc (.cells #[] 23)
              refine hK _ _ (inSub_of hbE) ?_
              clear hK K'
              try simp only [Act.put, List.setIfInBounds_toArray, List.set_cons_succ, List.set_cons_zero]
              generalize wB.alloc (.cells #[] 23) = wE at rE hbE hsE rB ⊢
              have HSE := Lib.hid hsE
              clear hsE
              with_reducible refine tree_one ?_ (fun K' hK => ?_)
              · rfl
              have rC := own_below HO2.out hbE (Nat.le_refl _)
              rw [HPJ.out] at rC
              refine wp_append_at _ _ _ 30 30 rfl w2.heap.size 23 i0 (.agg #[.int .i64 0, .int .i64 0, .string ⟨#[]⟩]) 3 32 Try.underlying30 hi hz0 hz1 hz2 rfl (by decide) (.slice (some ⟨wB.heap.size, 0, none⟩) 0 0) 0 [] rfl rE (.slice adc j capc) j (ptv ps) rfl (src_own _ Try.underlying30 rC (ptv_one _)) (by unfold maxLen; omega) (by omega) hbE.size ?_
              intro vP wP rP hgrow hpl
              have hbP : Below w2.heap.size w2 wP := below_of_grown hbE hgrow hbE.size (fun k hk => (rE.lt k hk).1)
              have rB := World.ownsRow.kept rB hgrow (.inr (by simp only [Value.ownBlock, ne_eq, Option.some.injEq]; have h1 := HSE.out; have h2 := HSB.out; omega))
              refine hK _ _ (inSub_of hbP) ?_
              clear hK K'
              try simp only [Act.put, List.setIfInBounds_toArray, List.set_cons_succ, List.set_cons_zero]
              rw [List.nil_append, Nat.zero_add] at rP
              clear rC hgrow hpl rE
              with_reducible refine tree_one ?_ (fun K' hK => ?_)
              · rfl
              refine wp_append_at _ _ _ 30 30 rfl w2.heap.size 23 i0 (.agg #[.int .i64 0, .int .i64 0, .string ⟨#[]⟩]) 3 32 Try.underlying30 hi hz0 hz1 hz2 rfl (by decide) _ j (ptv ps) rfl rP (.slice (some ⟨w0.heap.size, 0, none⟩) 1 1) 1 #[.int .i64 h, .int .i64 t, .string m].toList rfl (src_own _ Try.underlying30 rB (by intro u hu; simp at hu; rcases hu with rfl | rfl | rfl <;> rfl)) (by unfold maxLen; omega) (by omega) hbP.size ?_
              intro vF wF rF hgrow hpl
              have hbF : Below w2.heap.size w2 wF := below_of_grown hbP hgrow hbP.size (fun k hk => (rP.lt k hk).1)
              refine hK _ _ (inSub_of hbF) ?_
              clear hK K'
              try simp only [Act.put, List.setIfInBounds_toArray, List.set_cons_succ, List.set_cons_zero]
              have hpp : ptv ps ++ #[.int .i64 h, .int .i64 t, .string m].toList = ptv (ps ++ [(h, t, m)]) := by rw [ptv_append]; rfl
              have hll : j + 1 = (ps ++ [(h, t, m)]).length := by rw [List.length_append, HPJ.out]; rfl
              rw [hpp, hll] at rF
              obtain ⟨adF, capF, rfl, hptF⟩ := ptsAt_own rF
              clear hpp hgrow hpl rF rP
              have kF := through_walk x adF capF (ps ++ [(h, t, m)]) wF hptF (by rw [← hll]; omega) (by
                intro p hp
                rcases List.mem_append.1 hp with hp | hp
                · exact Nat.le_trans (HPZ.out p hp) (by omega)
                · rw [List.mem_singleton.1 hp]; exact Nat.le_trans HMS.out (by omega)) (by have := HXS.out; omega)
              rw [HT2.out] at kF
              rw [← hll] at kF ⊢
              clear hptF hll
              with_reducible refine tree_one ?_ (fun K' hK => ?_)
              · rfl
              go_simp
              go_at_call 10
              refine kF.mono ?_
              rintro r w9 ⟨rfl, hb9⟩
              have hbG : Below w2.heap.size w2 w9 := hbF.trans (hb9.mono hbF.size)
              refine hK _ _ (inSub_of hbG) ?_
              clear hK K' kF
              try simp only [Act.put, List.setIfInBounds_toArray, List.set_cons_succ, List.set_cons_zero]
              repeat ((with_reducible refine tree_read ?_ ?_); (· rfl); apply Exists.intro; refine ⟨fun w9 hw9 => ?_, ?_⟩; (· go_simp; rfl); simp only [Act.put, List.setIfInBounds_toArray, List.set_cons_succ, List.set_cons_zero])
              with_reducible refine tree_nil (NoPanic.normal ?_)
              go_wp2_with fail
              go_meet
              exact ⟨rfl, rfl, hbG⟩
          case rest =>
          obtain ⟨rfl, rfl, hbc⟩ := hcut
          have HBC := Lib.hid (HB2.out.trans (hbc.mono HB2.out.size))
          have c9' : ∀ z : Sub wc.heap.size wc, z.val.cell? ⟨bl, off + j, none⟩ = some (.string y) := fun z => sub_cell ((hbc.cell (p := ⟨bl, off + j, none⟩) hbl2).trans d9) (Nat.lt_of_lt_of_le hbl2 hbc.size) z
          have gqc := (hbc.block q (lt_of_block g2)).trans g2
          have hgq : ∀ w', inSub wc.heap.size wc w' → w'.heap[q]? = some (.cells (pat h t m) 23 (0, 0)) := fun w' ⟨z, hz⟩ => by rw [hz]; exact sub_heap gqc (lt_of_block gqc) z
          have HGC := Lib.hid hgq
          clear hgq gqc hbc c0 c0' c9 HGQ HO2 HT2
          go_upto_region 17 with fail
          refine wp_region_mix (inSub wc.heap.size wc) [(0,true),(1,true),(2,true),(3,true),(4,true),(5,true),(6,true),(7,false),(8,true),(9,true),(10,true),(11,true),(12,true)] (by kernel_rfl) (by kernel_rfl) (inSub_of (Below.refl _ _).drew) ?_
          have hb0 : Below wc.heap.size wc wc.drew := (Below.refl _ _).drew
          generalize wc.drew = w0 at hb0 ⊢
          simp only [List.filterMap_cons, List.filterMap_nil, List.getElem?_cons_zero, List.getElem?_cons_succ, Option.map_some]
          repeat (first
            | (refine mix_load_row 23 _ rfl (by rfl) q rfl 23 (pat h t m) (0, 0) _ HGC.out Try.underlying23 rfl info_pat ?_; simp only [Act.put, List.setIfInBounds_toArray, List.set_cons_succ, List.set_cons_zero])
            | ((with_reducible refine mix_read ?_ ?_); (· rfl); apply Exists.intro; refine ⟨fun w9 hw9 => ?_, ?_⟩; (· obtain ⟨x9, rfl⟩ := hw9; have d1 := c9' x9; go_simp; rfl); simp only [Act.put, List.setIfInBounds_toArray, List.set_cons_succ, List.set_cons_zero]))
          with_reducible refine mix_step ?_ (fun K' hK => ?_)
          · rfl
          go_simp
          go_at_call 8
          refine (calls_in (KR.out _) hb0 (Nat.le_refl _)).mono ?_
          rintro r w3 ⟨rfl, hb3⟩
          refine hK _ _ (inSub_of hb3) ?_
          clear hK K'
          try simp only [Act.put, List.setIfInBounds_toArray, List.set_cons_succ, List.set_cons_zero]
          repeat ((with_reducible refine mix_read ?_ ?_); (· rfl); apply Exists.intro; refine ⟨fun w9 hw9 => ?_, ?_⟩; (· go_simp; rfl); simp only [Act.put, List.setIfInBounds_toArray, List.set_cons_succ, List.set_cons_zero])
          with_reducible refine mix_nil (NoPanic.normal ?_)
          go_wp2_with fail
          refine (awake_walk _).mono ?_
          rintro r w4 ⟨rfl, hb4⟩
          go_wp2_with fail
          go_ret
          have hb5 := HBC.out.trans (hb3.mono HBC.out.size)
          exact ⟨rfl, hb5.trans (hb4.mono hb5.size)⟩
end Go.Proofs.Ytmjpofceoohglaa
