/-
  Layer 3: the reference's Crash.
-/
import Derived.Test.YtcabocppplokgaaRdkE
namespace Go.Proofs.Ytcabocppplokgaa
open Go.RowKit

theorem settleN_get_at (pick : Nat → List Sec → Sec) (S : List (List Sec)) (l : List Nat) (hl : l.Nodup) (k : Nat) (hk : k < l.length) {x : Nat} (hx : x = l[k]) :
    (settleN pick S l k).getD x [] = S.getD x [] ∧ settleN pick S l (k + 1) = putS (settleN pick S l k) x [pick k (S.getD x [])] := by
  have hg : l.getD k 0 = x := by rw [List.getD_eq_getElem?_getD, List.getElem?_eq_getElem hk, hx]; rfl
  have h1 := settleN_rest pick S l hl k k (Nat.le_refl _) hk
  rw [hg] at h1
  refine ⟨h1, ?_⟩
  rw [settleN, hg, h1]

set_option maxHeartbeats 8000000 in
theorem rcrash_walk (q : Nat) (R : Nat → Prop) (st : Dk) (keep : List Int) (adk : Option Addr) (capk : Nat) (w : World) (h : Ref w q R st) (hlen : ∀ i, (pend st.S i).length ≤ 1000000000)
    (hki : intsAt w adk keep) (hkF : keep = [] ∨ ∀ b off, adk = some ⟨b, off, none⟩ → b ≠ q) (hkl : keep.length ≤ 9223372036854775807) (hkr : ∀ x ∈ keep, -9223372036854775808 ≤ x ∧ x ≤ 9223372036854775807) :
    Calls Try.prog 21 #[.pointer (some ⟨q, 0, none⟩), .slice adk keep.length capk] w fun e w' => RefPost q R w (.tuple #[]) (crashD st keep) e w' := by
  have hdw := rdirty_walk q R st w h
  have hq := h.ltq
  have hok : secOk st.S := by obtain ⟨_, _, _, hd⟩ := h; exact hd.ok
  obtain ⟨l, hl⟩ : ∃ l, l = dirt st.S := ⟨_, rfl⟩
  have hlS : ∀ x ∈ l, x < st.S.length ∧ pend st.S x ≠ [] := fun x hx => dirt_mem (by rw [← hl]; exact hx)
  have hnd : l.Nodup := by rw [hl]; exact dirt_nodup _
  have hfin : crashD st keep = ⟨settleN (crashOf keep) st.S l l.length, st.calls, 0, false⟩ := by rw [hl]; rfl
  rw [← hl] at hdw
  rw [hfin]
  obtain ⟨kn, hkn⟩ : ∃ kn, kn = keep.length := ⟨_, rfl⟩
  rw [← hkn] at hkl ⊢
  have HH := Lib.hid h; have HDW := Lib.hid hdw; have HLS := Lib.hid hlS; have HND := Lib.hid hnd; have HLEN := Lib.hid hlen; have HOK := Lib.hid hok; have HQ := Lib.hid hq; have HKI := Lib.hid hki; have HKF := Lib.hid hkF; have HKR := Lib.hid hkr; have HKN := Lib.hid hkn
  clear h hdw hl hlS hnd hlen hok hq hki hkF hkr hkn hfin
  go_enter Try.func21, Try.ntmps21
  go_wp2_with fail
  refine HDW.out.mono ?_
  rintro e w1 ⟨v, rfl, hrow, hb⟩
  obtain ⟨ad, capl, rfl, hlc, hcm, hcs⟩ := hrow.open
  have hl31 : l.length ≤ 9223372036854775807 := by omega
  have HRW := Lib.hid hrow; have HB := Lib.hid hb
  have K0 := Lib.hid (HH.out.below hb)
  clear hrow hb hcs HH HDW
  go_wp2_with fail
  go_loopg [5] l.length (fun gk i wr => ∃ k R', k + gk = l.length ∧ i = .int .i64 (k : Nat) ∧ Ref wr q R' ⟨settleN (crashOf keep) st.S l k, st.calls, st.armed, st.down⟩ ∧ (∀ x, R' x → R x ∨ w.heap.size ≤ x) ∧ Touch (fun x => x = q) w wr ∧ IntRow wr w.heap.size (.slice ad l.length capl) l)
  case atStart => exact ⟨0, R, by omega, rfl, K0.out, fun _ h => .inl h, Touch.ofBelow _ HB.out, HRW.out⟩
  case round =>
    obtain ⟨k, R', hgk, rfl, hrf, hRR, hT, hrow⟩ := hrel
    have HGK := Lib.hid hgk; have HRR := Lib.hid hRR; have HT := Lib.hid hT; have HR := Lib.hid hrow
    clear hgk hRR hT hrow
    by_cases hlt : (k : Int) < (l.length : Int)
    · have hkl2 : k < l.length := by omega
      obtain ⟨ad', cap', hv, _, _, hc⟩ := HR.out.open
      simp only [Value.slice.injEq, true_and] at hv
      obtain ⟨rfl, rfl⟩ := hv
      rcases hc with hnil | ⟨gl, rfl, hg1, hg2, hcs⟩
      · rw [hnil] at hkl2; simp at hkl2
      have cx := hcs k hkl2
      obtain ⟨x, hx⟩ : ∃ x, x = l[k] := ⟨_, rfl⟩
      have hxm := HLS.out x (by rw [hx]; exact List.getElem_mem hkl2)
      rw [← hx] at cx
      obtain ⟨s1, s2⟩ := settleN_get_at (crashOf keep) st.S l HND.out k hkl2 hx
      obtain ⟨S, hS⟩ : ∃ S, S = settleN (crashOf keep) st.S l k := ⟨_, rfl⟩
      have hSl : S.length = st.S.length := by rw [hS, settleN_length]
      rw [← hS] at hrf s1 s2
      obtain ⟨L, hL⟩ : ∃ L, L = st.S.getD x [] := ⟨_, rfl⟩
      rw [← hL] at s1 s2
      obtain ⟨hLne, hL64⟩ := getD_ok HOK.out hxm.1
      have hpl : L.length = (pend st.S x).length + 1 := by
        have h1 := List.length_pos_iff.2 hLne
        unfold pend
        rw [List.length_tail, ← hL]
        rw [← hL] at h1
        omega
      rw [← hL] at hLne hL64
      obtain ⟨m, hm⟩ : ∃ m, m = L.length := ⟨_, rfl⟩
      have hm1 : 1 ≤ m := by omega
      have hmb : m ≤ 1000000001 := by have := HLEN.out x; omega
      obtain ⟨rb, cap, V, hd⟩ := hrf
      have hxS : x < S.length := by rw [hSl]; exact hxm.1
      obtain ⟨g, c, hvx, hgl, hlc2, hcm2, hstr⟩ := hd.at (i := x) hxS (L := L) s1.symm
      obtain ⟨z, hz⟩ : ∃ z, z = crashK keep k m := ⟨_, rfl⟩
      have hzm : z < m := by rw [hz]; exact crashK_lt keep k m hm1
      obtain ⟨f, hf⟩ : ∃ f, f = L[z]'(by rw [← hm]; exact hzm) := ⟨_, rfl⟩
      have hfc : crashOf keep k L = f := by
        unfold crashOf
        rw [← hm, ← hz, List.getD_eq_getElem?_getD, List.getElem?_eq_getElem (by rw [← hm]; exact hzm), hf]
        rfl
      have hf64 : f.length = 64 := by rw [hf]; exact hL64 _ (List.getElem_mem _)
      have hcf := hstr z (by rw [← hm]; exact hzm)
      rw [← hf] at hcf
      rw [hfc] at s2
      obtain ⟨n, hn⟩ : ∃ n, n = S.length := ⟨_, rfl⟩
      have hn4 : n ≤ 4096 := by rw [hn]; exact hd.ok.2.1
      have hxn : (x : Int) < (n : Int) := by omega
      have hni : (n : Int) ≤ 4096 := by omega
      have hzmi : (z : Int) < (m : Int) := by omega
      have hmi : (m : Int) ≤ 1000000001 := by omega
      have hmi1 : (1 : Int) ≤ (m : Int) := by omega
      have c0 := hd.c0
      rw [show (Dk.mk S st.calls st.armed st.down).S.length = n from hn.symm] at c0
      have hvx' : V x = .slice (some ⟨g, 0, none⟩) m c := by rw [hm]; exact hvx
      have hcv := hd.cell x hxS
      have HD := Lib.hid hd; have HN := Lib.hid hn; have HCX := Lib.hid cx; have HC0 := Lib.hid c0; have HCV := Lib.hid hcv; have HCF := Lib.hid hcf; have HF64 := Lib.hid hf64; have HS2 := Lib.hid s2; have HZ := Lib.hid hz; have HGL := Lib.hid hgl; have HG := Lib.hid (And.intro hg1 hg2); have HXS := Lib.hid hxS; have HVX := Lib.hid hvx'; have HKL2 := Lib.hid hkl2; have HSS := Lib.hid hS
      clear hkl2 hcs hx hxm s1 s2 hS hSl hL hLne hL64 hpl hm hd hxS hvx hlc2 hcm2 hstr hz hf hfc hf64 hcf hn hn4 hcv hg1 hg2 hzm hmb hm1 hvx' c0 cx hgl
      go_upto_region 4 with fail
      -- the piece is taken
      have hbq := lt_of_block HD.out.blk
      have hbr := HD.out.lt rb HD.out.row.1
      obtain ⟨C, hC⟩ : ∃ C : World → Prop, C = fun w9 => Below wr.heap.size wr w9 := ⟨_, rfl⟩
      have hCof : ∀ w9, Below wr.heap.size wr w9 → C w9 := fun w9 h => by rw [hC]; exact h
      have hCto : ∀ w9, C w9 → Below wr.heap.size wr w9 := fun w9 h => by rw [hC] at h; exact h
      have HC0' := Lib.hid (fun w9 (h : C w9) => ((hCto w9 h).cell (p := ⟨q, 0, none⟩) hbq).trans HC0.out)
      have HCX' := Lib.hid (fun w9 (h : C w9) => ((hCto w9 h).cell (p := ⟨gl, k, none⟩) HG.out.2).trans HCX.out)
      have HCV' := Lib.hid (fun w9 (h : C w9) => ((hCto w9 h).cell (p := ⟨rb, x, none⟩) hbr).trans HCV.out)
      have HCO := Lib.hid hCof
      have hC0 : C wr.drew := hCof _ (Below.refl _ _).drew
      have hB0 : Below wr.heap.size wr wr.drew := (Below.refl _ _).drew
      clear hC hCof hCto
      refine wp_region_mixT C 11 [(0,true,true),(1,true,true),(2,true,true),(3,true,true),(4,true,true),(5,true,true),(6,true,true),(7,true,true),(8,true,true),(9,true,true),(10,false,true),(11,false,false)] (by kernel_rfl) (by kernel_rfl) hC0 ?_
      generalize wr.drew = w3 at hB0 ⊢
      clear hC0
      simp only [List.filterMap_cons, List.filterMap_nil, List.getElem?_cons_zero, List.getElem?_cons_succ, Option.map_some]
      repeat (first
        | (refine mixT_load_cells 70 _ rfl (by rfl) rb x rfl [V x] _ (fun w9 hw9 j u hu => by
            match j, hu with
            | 0, hu => rw [← Option.some.inj hu]; exact HCV'.out w9 hw9
            | j + 1, hu => simp at hu) Try.underlying70 rfl info_piece1 ?_; simp only [Act.put, List.setIfInBounds_toArray, List.set_cons_succ, List.set_cons_zero])
        | (refine mixT_read (by rfl) ?_; apply Exists.intro; refine ⟨fun w9 hw9 => ?_, ?_⟩; (· have d1 := HC0'.out w9 hw9; have d2 := HCX'.out w9 hw9; go_simp; rfl); simp only [Act.put, List.setIfInBounds_toArray, List.set_cons_succ, List.set_cons_zero]))
      refine mixT_step (by rfl) (fun K' hK => ?_)
      go_simp
      have hBE := hB0.alloc hB0.size (.cells #[.slice none 0 0] 70)
      have gE := heap_alloc_top w3 (.cells #[.slice none 0 0] 70)
      refine hK _ _ (HCO.out _ hBE) ?_
      clear hK K'
      try simp only [Act.put, List.setIfInBounds_toArray, List.set_cons_succ, List.set_cons_zero]
      obtain ⟨pb, hpb⟩ : ∃ pb, pb = w3.heap.size := ⟨_, rfl⟩
      have hpw : wr.heap.size ≤ pb := by rw [hpb]; exact hB0.size
      rw [← hpb] at gE ⊢
      generalize w3.alloc (.cells #[.slice none 0 0] 70) = wE at hBE gE ⊢
      clear hpb hB0
      refine mixT_tail (by rfl) (fun K' hK => ?_)
      refine wp_store_cells 70 _ _ rfl pb 0 [V x] rfl rfl 70 #[.slice none 0 0] gE info_piece1 (by simp) (by intro u hu; rw [List.mem_singleton.1 hu, HVX.out]; rfl) ?_
      have g5 := setRow_heap wE pb _ (([Value.slice none 0 0] : List Value).take 0 ++ [V x] ++ ([Value.slice none 0 0] : List Value).drop (0 + [V x].length)).toArray 70 (0, 0) gE
      have hB5 : Below wr.heap.size wr (wE.setRow pb (([Value.slice none 0 0] : List Value).take 0 ++ [V x] ++ ([Value.slice none 0 0] : List Value).drop (0 + [V x].length)).toArray) :=
        (touch_setRow (F := fun y => y = pb) wE pb _ rfl).below hBE hBE.size (fun y hy => by rw [hy]; exact hpw)
      refine hK _ _ ?_
      clear hK K'
      try simp only [Act.put]
      refine mixT_nil (NoPanic.normal ?_)
      generalize wE.setRow pb (([Value.slice none 0 0] : List Value).take 0 ++ [V x] ++ ([Value.slice none 0 0] : List Value).drop (0 + [V x].length)).toArray = w5 at g5 hB5 ⊢
      have cp : w5.cell? ⟨pb, 0, none⟩ = some (.slice (some ⟨g, 0, none⟩) m c) := by rw [← HVX.out]; exact cell_at g5 rfl
      have hpb5 := lt_of_block g5
      have HB5 := Lib.hid hB5
      have HP5 := Lib.hid hpb5
      clear gE hBE g5 hB5 hpb5 hpw HCV HCV' HC0' HCX' HCO hbq hbr
      have hck : ¬ k < kn ∨ k < kn := by omega
      by_cases hlk : (k : Int) < (kn : Int)
      · rcases HKI.out with hnil | ⟨bk, koff, rfl, hbk, hks⟩
        · have := HKN.out; rw [hnil] at this; simp at this; omega
        have hkk := hks k (by rw [← HKN.out]; omega)
        obtain ⟨kk, hkke⟩ : ∃ kk, kk = keep[k]'(by rw [← HKN.out]; omega) := ⟨_, rfl⟩
        rw [← hkke] at hkk
        have hbq2 : bk ≠ q := by
          rcases HKF.out with hnil | h
          · have := HKN.out; rw [hnil] at this; simp at this; omega
          · exact h bk koff rfl
        have hkr := HKR.out kk (by rw [hkke]; exact List.getElem_mem _)
        have ck := cell_touch (cell_touch hkk HT.out hbk hbq2) (Touch.ofBelow (fun _ => False) HB5.out) (Nat.lt_of_lt_of_le hbk HT.out.size) (fun h => h)
        have hbk5 : bk < w5.heap.size := Nat.lt_of_lt_of_le hbk (Nat.le_trans HT.out.size HB5.out.size)
        have hz2 : z = (kk.tmod m).natAbs := by
          have h1 : k < keep.length := by rw [← HKN.out]; omega
          rw [HZ.out]; unfold crashK
          rw [if_pos h1, List.getD_eq_getElem?_getD, List.getElem?_eq_getElem h1, hkke]; rfl
        obtain ⟨r, hr⟩ : ∃ r, r = kk.tmod m := ⟨_, rfl⟩
        rw [← hr] at hz2
        have HRR2 := Lib.hid hr; have HZ2 := Lib.hid hz2
        have hk1 : -9223372036854775808 ≤ kk := hkr.1
        have hk2 : kk ≤ 9223372036854775807 := hkr.2
        clear hks hkk hkke hkr hz2 hr hck hbk hbq2
        have e0 : ∀ y : Sub w5.heap.size w5, y.val.cell? ⟨pb, 0, none⟩ = some (.slice (some ⟨g, 0, none⟩) m c) := fun y => sub_cell cp HP5.out y
        have e1 : ∀ y : Sub w5.heap.size w5, y.val.cell? ⟨bk, koff + k, none⟩ = some (.int .i64 kk) := fun y => sub_cell ck hbk5 y
        have HCP := Lib.hid cp
        clear ck hbk5 cp
        go_upto_region 7 with fail
        refine wp_region_sub (W := w5) (B := w5.heap.size) (by kernel_rfl) (by kernel_rfl) (Below.refl _ _) ?_
        repeat (any_goals (first
          | go_big_quiet_skip
          | go_big_quiet_step (fail)
          | quiet_step (fail)))
        rw [← HRR2.out]
        refine wpQuiet_nil ?_
        rintro w9 ⟨x9, rfl⟩
        have hb9 := x9.below
        have cp9 := (hb9.cell (p := ⟨pb, 0, none⟩) HP5.out).trans HCP.out
        have HB9 := Lib.hid (HB5.out.trans (hb9.mono HB5.out.size))
        obtain ⟨w9, hw9⟩ : ∃ w9, w9 = x9.val := ⟨_, rfl⟩
        have HP9 := Lib.hid (Nat.lt_of_lt_of_le HP5.out hb9.size)
        rw [← hw9] at cp9 HB9 HP9 ⊢
        clear hb9 e0 e1 hw9 HCP
        by_cases hneg : r < 0
        · have hrz : -r = (z : Int) := by have := HZ2.out; omega
          have hrb : -2000000000 ≤ r := by omega
          have HRZ := Lib.hid hrz
          clear hrz
          go_upto_region 10 with fail
          rw [HRZ.out]
          clear HRZ hrb hneg
          have hbq := lt_of_block HD.out.blk
          have hbr := HD.out.lt rb HD.out.row.1
          obtain ⟨C, hC⟩ : ∃ C : World → Prop, C = fun y => Below w9.heap.size w9 y := ⟨_, rfl⟩
          have hCof : ∀ y, Below w9.heap.size w9 y → C y := fun y h => by rw [hC]; exact h
          have hCto : ∀ y, C y → Below wr.heap.size wr y := fun y h => by rw [hC] at h; exact HB9.out.trans (h.mono HB9.out.size)
          have hCtp : ∀ y, C y → y.cell? ⟨pb, 0, none⟩ = some (.slice (some ⟨g, 0, none⟩) m c) := fun y h => by rw [hC] at h; exact (h.cell (p := ⟨pb, 0, none⟩) HP9.out).trans cp9
          have HC0' := Lib.hid (fun y (h : C y) => ((hCto y h).cell (p := ⟨q, 0, none⟩) hbq).trans HC0.out)
          have HCX' := Lib.hid (fun y (h : C y) => ((hCto y h).cell (p := ⟨gl, k, none⟩) HG.out.2).trans HCX.out)
          have HCF' := Lib.hid (fun y (h : C y) => ((hCto y h).cell (p := ⟨g, z, none⟩) HGL.out).trans HCF.out)
          have HCP' := Lib.hid hCtp
          have HCO := Lib.hid hCof; have HCT := Lib.hid hCto
          have hC0 : C w9.drew := hCof _ (Below.refl _ _).drew
          have hB0 : Below w9.heap.size w9 w9.drew := (Below.refl _ _).drew
          clear hC hCof hCto hCtp cp9 hbq hbr
          refine wp_region_mixT C 19 [(0,true,true),(1,true,true),(2,true,true),(3,true,true),(4,true,true),(5,true,true),(6,true,true),(7,true,true),(8,true,true),(9,true,true),(10,true,true),(11,true,true),(12,true,true),(13,true,true),(14,false,true),(15,true,true),(16,false,true),(17,true,true),(18,true,true),(19,false,false)] (by kernel_rfl) (by kernel_rfl) hC0 ?_
          generalize w9.drew = w3 at hB0 ⊢
          clear hC0
          simp only [List.filterMap_cons, List.filterMap_nil, List.getElem?_cons_zero, List.getElem?_cons_succ, Option.map_some]
          repeat (refine mixT_read (by rfl) ?_; apply Exists.intro; refine ⟨fun y hy => ?_, ?_⟩; (· have d1 := HC0'.out y hy; have d2 := HCX'.out y hy; have d3 := HCF'.out y hy; have d4 := HCP'.out y hy; go_simp; rfl); simp only [Act.put, List.setIfInBounds_toArray, List.set_cons_succ, List.set_cons_zero])
          refine mixT_step (by rfl) (fun K' hK => ?_)
          go_simp
          have rB := row_new w3 w9.heap.size 1 1 9 #[.string (txt f)] hB0.size rfl (by unfold maxLen; omega)
          have hBB := hB0.alloc hB0.size (.cells #[.string (txt f)] 9)
          refine hK _ _ (HCO.out _ hBB) ?_
          clear hK K'
          try simp only [Act.put, List.setIfInBounds_toArray, List.set_cons_succ, List.set_cons_zero]
          obtain ⟨B, hB⟩ : ∃ B, B = w3.heap.size := ⟨_, rfl⟩
          rw [← hB] at rB ⊢
          generalize w3.alloc (.cells #[.string (txt f)] 9) = wQ at rB hBB ⊢
          clear hB hB0
          obtain ⟨g2, c2, hvv, hg2, hg2l, hc2, hc2m, hstr2⟩ := strv_open (L := [f]) rB (by simp)
          simp only [Value.slice.injEq, Option.some.injEq, Addr.mk.injEq, and_true] at hvv
          obtain ⟨rfl, hone1, rfl⟩ := hvv
          clear hone1
          have HG2 := Lib.hid (And.intro hg2 (And.intro hg2l hstr2))
          clear rB hg2 hg2l hc2 hc2m hstr2
          refine mixT_read (by rfl) ?_
          apply Exists.intro
          refine ⟨fun y hy => ?_, ?_⟩
          · go_simp; rfl
          simp only [Act.put, List.setIfInBounds_toArray, List.set_cons_succ, List.set_cons_zero]
          refine mixT_step (by rfl) (fun K' hK => ?_)
          go_simp
          go_at_call 34
          have hBQ := HCT.out wQ (HCO.out _ hBB)
          have hdQ := HD.out.below hBQ
          have hone : ∀ j, j < n → (V j).oneCell' = true := fun j hj => by
            obtain ⟨g', c', e, _⟩ := HD.out.at (i := j) (show j < S.length by rw [← HN.out]; exact hj) rfl
            rw [e]; rfl
          have hcells : ∀ j, j < n → wQ.cell? ⟨rb, j, none⟩ = some (V j) := fun j hj => hdQ.cell j (show j < S.length by rw [← HN.out]; exact hj)
          refine (rset_walk rb n cap x V (.slice (some ⟨B, 0, none⟩) 1 1) wQ (hdQ.lt rb hdQ.row.1) hcells hone rfl (by omega) (by omega)).mono ?_
          rintro e w4 ⟨rb3, cap3, rfl, hb4, k1, k2, k3, k4, k5⟩
          have hB4 : Below wr.heap.size wr w4 := hBQ.trans (hb4.mono hBQ.size)
          refine hK _ _ (HCO.out _ (hBB.trans (hb4.mono hBB.size))) ?_
          clear hK K' hone hcells
          try simp only [Act.put, List.setIfInBounds_toArray, List.set_cons_succ, List.set_cons_zero]
          repeat (refine mixT_read (by rfl) ?_; apply Exists.intro; refine ⟨fun y hy => ?_, ?_⟩; (· go_simp; rfl); simp only [Act.put, List.setIfInBounds_toArray, List.set_cons_succ, List.set_cons_zero])
          have hd4 := HD.out.below hB4
          have c0 := hd4.c0
          have f0 := hd4.fr 0
          rw [show (Dk.mk S st.calls st.armed st.down).S.length = n from HN.out.symm] at c0
          obtain ⟨R2, r1, r2, r3⟩ := ref_done HD.out hB4 (i := x) HXS.out (L := [f]) (by simp) (fun t ht => by rw [List.mem_singleton.1 ht]; exact HF64.out) (rb' := rb3) (cap' := cap3) (g := B) (c := 1) (Nat.le_trans hBQ.size k1) k2 ⟨by show S.length ≤ cap3; rw [← HN.out]; exact k3, k4⟩ (fun j hj => k5 j (by rw [HN.out]; exact hj)) (Nat.le_trans HB9.out.size HG2.out.1) (Nat.lt_of_lt_of_le HG2.out.2.1 hb4.size) ⟨by simp, by omega⟩
            (fun j hj => (hb4.cell (p := ⟨B, j, none⟩) HG2.out.2.1).trans (HG2.out.2.2 j hj))
          have r4 : Ref (w4.setCell ⟨q, 0, none⟩ (.slice (some ⟨rb3, 0, none⟩) n cap3)) q R2 ⟨settleN (crashOf keep) st.S l (k + 1), st.calls, st.armed, st.down⟩ := by
            rw [HS2.out]
            have := r1
            rw [show (Dk.mk S st.calls st.armed st.down).S.length = n from HN.out.symm] at this
            exact this
          have r5 : Touch (fun y => y = q) wr (w4.setCell ⟨q, 0, none⟩ (.slice (some ⟨rb3, 0, none⟩) n cap3)) := by
            have := r3
            rw [show (Dk.mk S st.calls st.armed st.down).S.length = n from HN.out.symm] at this
            exact this
          have R4 := Lib.hid r4; have R5 := Lib.hid (HT.out.trans r5)
          have R7 := Lib.hid (HR.out.touch r5 (fun y hy => by rw [hy]; exact HQ.out))
          have R6 := Lib.hid (show ∀ y, R2 y → R y ∨ w.heap.size ≤ y from fun y hy => (r2 y hy).elim (HRR.out y) (fun h => .inr (Nat.le_trans HT.out.size h)))
          clear hd4 r1 r2 r3 r4 r5 hdQ hb4 k1 k2 k3 k4 k5 hBB hBQ
          refine mixT_tail (by rfl) (fun K' hK => ?_)
          go_simp
          refine hK _ _ ?_
          clear hK K'
          try simp only [Act.put]
          refine mixT_nil (NoPanic.normal ?_)
          go_wp2_with fail
          go_roundg (gk - 1)
          case measure => have := HGK.out; omega
          case rel => exact ⟨k + 1, R2, by have := HGK.out; omega, by go_num, R4.out, R6.out, R5.out, R7.out⟩
        · have hrz : r = (z : Int) := by have := HZ2.out; omega
          subst hrz
          clear hneg
          go_upto_region 10 with fail
          have hbq := lt_of_block HD.out.blk
          have hbr := HD.out.lt rb HD.out.row.1
          obtain ⟨C, hC⟩ : ∃ C : World → Prop, C = fun y => Below w9.heap.size w9 y := ⟨_, rfl⟩
          have hCof : ∀ y, Below w9.heap.size w9 y → C y := fun y h => by rw [hC]; exact h
          have hCto : ∀ y, C y → Below wr.heap.size wr y := fun y h => by rw [hC] at h; exact HB9.out.trans (h.mono HB9.out.size)
          have hCtp : ∀ y, C y → y.cell? ⟨pb, 0, none⟩ = some (.slice (some ⟨g, 0, none⟩) m c) := fun y h => by rw [hC] at h; exact (h.cell (p := ⟨pb, 0, none⟩) HP9.out).trans cp9
          have HC0' := Lib.hid (fun y (h : C y) => ((hCto y h).cell (p := ⟨q, 0, none⟩) hbq).trans HC0.out)
          have HCX' := Lib.hid (fun y (h : C y) => ((hCto y h).cell (p := ⟨gl, k, none⟩) HG.out.2).trans HCX.out)
          have HCF' := Lib.hid (fun y (h : C y) => ((hCto y h).cell (p := ⟨g, z, none⟩) HGL.out).trans HCF.out)
          have HCP' := Lib.hid hCtp
          have HCO := Lib.hid hCof; have HCT := Lib.hid hCto
          have hC0 : C w9.drew := hCof _ (Below.refl _ _).drew
          have hB0 : Below w9.heap.size w9 w9.drew := (Below.refl _ _).drew
          clear hC hCof hCto hCtp cp9 hbq hbr
          refine wp_region_mixT C 19 [(0,true,true),(1,true,true),(2,true,true),(3,true,true),(4,true,true),(5,true,true),(6,true,true),(7,true,true),(8,true,true),(9,true,true),(10,true,true),(11,true,true),(12,true,true),(13,true,true),(14,false,true),(15,true,true),(16,false,true),(17,true,true),(18,true,true),(19,false,false)] (by kernel_rfl) (by kernel_rfl) hC0 ?_
          generalize w9.drew = w3 at hB0 ⊢
          clear hC0
          simp only [List.filterMap_cons, List.filterMap_nil, List.getElem?_cons_zero, List.getElem?_cons_succ, Option.map_some]
          repeat (refine mixT_read (by rfl) ?_; apply Exists.intro; refine ⟨fun y hy => ?_, ?_⟩; (· have d1 := HC0'.out y hy; have d2 := HCX'.out y hy; have d3 := HCF'.out y hy; have d4 := HCP'.out y hy; go_simp; rfl); simp only [Act.put, List.setIfInBounds_toArray, List.set_cons_succ, List.set_cons_zero])
          refine mixT_step (by rfl) (fun K' hK => ?_)
          go_simp
          have rB := row_new w3 w9.heap.size 1 1 9 #[.string (txt f)] hB0.size rfl (by unfold maxLen; omega)
          have hBB := hB0.alloc hB0.size (.cells #[.string (txt f)] 9)
          refine hK _ _ (HCO.out _ hBB) ?_
          clear hK K'
          try simp only [Act.put, List.setIfInBounds_toArray, List.set_cons_succ, List.set_cons_zero]
          obtain ⟨B, hB⟩ : ∃ B, B = w3.heap.size := ⟨_, rfl⟩
          rw [← hB] at rB ⊢
          generalize w3.alloc (.cells #[.string (txt f)] 9) = wQ at rB hBB ⊢
          clear hB hB0
          obtain ⟨g2, c2, hvv, hg2, hg2l, hc2, hc2m, hstr2⟩ := strv_open (L := [f]) rB (by simp)
          simp only [Value.slice.injEq, Option.some.injEq, Addr.mk.injEq, and_true] at hvv
          obtain ⟨rfl, hone1, rfl⟩ := hvv
          clear hone1
          have HG2 := Lib.hid (And.intro hg2 (And.intro hg2l hstr2))
          clear rB hg2 hg2l hc2 hc2m hstr2
          refine mixT_read (by rfl) ?_
          apply Exists.intro
          refine ⟨fun y hy => ?_, ?_⟩
          · go_simp; rfl
          simp only [Act.put, List.setIfInBounds_toArray, List.set_cons_succ, List.set_cons_zero]
          refine mixT_step (by rfl) (fun K' hK => ?_)
          go_simp
          go_at_call 34
          have hBQ := HCT.out wQ (HCO.out _ hBB)
          have hdQ := HD.out.below hBQ
          have hone : ∀ j, j < n → (V j).oneCell' = true := fun j hj => by
            obtain ⟨g', c', e, _⟩ := HD.out.at (i := j) (show j < S.length by rw [← HN.out]; exact hj) rfl
            rw [e]; rfl
          have hcells : ∀ j, j < n → wQ.cell? ⟨rb, j, none⟩ = some (V j) := fun j hj => hdQ.cell j (show j < S.length by rw [← HN.out]; exact hj)
          refine (rset_walk rb n cap x V (.slice (some ⟨B, 0, none⟩) 1 1) wQ (hdQ.lt rb hdQ.row.1) hcells hone rfl (by omega) (by omega)).mono ?_
          rintro e w4 ⟨rb3, cap3, rfl, hb4, k1, k2, k3, k4, k5⟩
          have hB4 : Below wr.heap.size wr w4 := hBQ.trans (hb4.mono hBQ.size)
          refine hK _ _ (HCO.out _ (hBB.trans (hb4.mono hBB.size))) ?_
          clear hK K' hone hcells
          try simp only [Act.put, List.setIfInBounds_toArray, List.set_cons_succ, List.set_cons_zero]
          repeat (refine mixT_read (by rfl) ?_; apply Exists.intro; refine ⟨fun y hy => ?_, ?_⟩; (· go_simp; rfl); simp only [Act.put, List.setIfInBounds_toArray, List.set_cons_succ, List.set_cons_zero])
          have hd4 := HD.out.below hB4
          have c0 := hd4.c0
          have f0 := hd4.fr 0
          rw [show (Dk.mk S st.calls st.armed st.down).S.length = n from HN.out.symm] at c0
          obtain ⟨R2, r1, r2, r3⟩ := ref_done HD.out hB4 (i := x) HXS.out (L := [f]) (by simp) (fun t ht => by rw [List.mem_singleton.1 ht]; exact HF64.out) (rb' := rb3) (cap' := cap3) (g := B) (c := 1) (Nat.le_trans hBQ.size k1) k2 ⟨by show S.length ≤ cap3; rw [← HN.out]; exact k3, k4⟩ (fun j hj => k5 j (by rw [HN.out]; exact hj)) (Nat.le_trans HB9.out.size HG2.out.1) (Nat.lt_of_lt_of_le HG2.out.2.1 hb4.size) ⟨by simp, by omega⟩
            (fun j hj => (hb4.cell (p := ⟨B, j, none⟩) HG2.out.2.1).trans (HG2.out.2.2 j hj))
          have r4 : Ref (w4.setCell ⟨q, 0, none⟩ (.slice (some ⟨rb3, 0, none⟩) n cap3)) q R2 ⟨settleN (crashOf keep) st.S l (k + 1), st.calls, st.armed, st.down⟩ := by
            rw [HS2.out]
            have := r1
            rw [show (Dk.mk S st.calls st.armed st.down).S.length = n from HN.out.symm] at this
            exact this
          have r5 : Touch (fun y => y = q) wr (w4.setCell ⟨q, 0, none⟩ (.slice (some ⟨rb3, 0, none⟩) n cap3)) := by
            have := r3
            rw [show (Dk.mk S st.calls st.armed st.down).S.length = n from HN.out.symm] at this
            exact this
          have R4 := Lib.hid r4; have R5 := Lib.hid (HT.out.trans r5)
          have R7 := Lib.hid (HR.out.touch r5 (fun y hy => by rw [hy]; exact HQ.out))
          have R6 := Lib.hid (show ∀ y, R2 y → R y ∨ w.heap.size ≤ y from fun y hy => (r2 y hy).elim (HRR.out y) (fun h => .inr (Nat.le_trans HT.out.size h)))
          clear hd4 r1 r2 r3 r4 r5 hdQ hb4 k1 k2 k3 k4 k5 hBB hBQ
          refine mixT_tail (by rfl) (fun K' hK => ?_)
          go_simp
          refine hK _ _ ?_
          clear hK K'
          try simp only [Act.put]
          refine mixT_nil (NoPanic.normal ?_)
          go_wp2_with fail
          go_roundg (gk - 1)
          case measure => have := HGK.out; omega
          case rel => exact ⟨k + 1, R2, by have := HGK.out; omega, by go_num, R4.out, R6.out, R5.out, R7.out⟩
      · have hz0 : z = 0 := by
          rw [HZ.out]; unfold crashK
          rw [if_neg (by rw [← HKN.out]; omega)]
        subst hz0
        have hm0 : 0 < m := by omega
        have hm00 : ¬ m = 0 := by omega
        clear hzmi
        have HB9 := HB5; have HP9 := HP5
        have cp9 := cp
        clear cp HB5 HP5 hck
        obtain ⟨w9, hw9⟩ : ∃ w9, w9 = w5 := ⟨_, rfl⟩
        rw [← hw9] at HB9 HP9 cp9 ⊢
        clear hw9
        go_upto_region 10 with fail
        have hbq := lt_of_block HD.out.blk
        have hbr := HD.out.lt rb HD.out.row.1
        obtain ⟨C, hC⟩ : ∃ C : World → Prop, C = fun y => Below w9.heap.size w9 y := ⟨_, rfl⟩
        have hCof : ∀ y, Below w9.heap.size w9 y → C y := fun y h => by rw [hC]; exact h
        have hCto : ∀ y, C y → Below wr.heap.size wr y := fun y h => by rw [hC] at h; exact HB9.out.trans (h.mono HB9.out.size)
        have hCtp : ∀ y, C y → y.cell? ⟨pb, 0, none⟩ = some (.slice (some ⟨g, 0, none⟩) m c) := fun y h => by rw [hC] at h; exact (h.cell (p := ⟨pb, 0, none⟩) HP9.out).trans cp9
        have HC0' := Lib.hid (fun y (h : C y) => ((hCto y h).cell (p := ⟨q, 0, none⟩) hbq).trans HC0.out)
        have HCX' := Lib.hid (fun y (h : C y) => ((hCto y h).cell (p := ⟨gl, k, none⟩) HG.out.2).trans HCX.out)
        have HCF' := Lib.hid (fun y (h : C y) => ((hCto y h).cell (p := ⟨g, 0, none⟩) HGL.out).trans HCF.out)
        have HCP' := Lib.hid hCtp
        have HCO := Lib.hid hCof; have HCT := Lib.hid hCto
        have hC0 : C w9.drew := hCof _ (Below.refl _ _).drew
        have hB0 : Below w9.heap.size w9 w9.drew := (Below.refl _ _).drew
        clear hC hCof hCto hCtp cp9 hbq hbr
        refine wp_region_mixT C 19 [(0,true,true),(1,true,true),(2,true,true),(3,true,true),(4,true,true),(5,true,true),(6,true,true),(7,true,true),(8,true,true),(9,true,true),(10,true,true),(11,true,true),(12,true,true),(13,true,true),(14,false,true),(15,true,true),(16,false,true),(17,true,true),(18,true,true),(19,false,false)] (by kernel_rfl) (by kernel_rfl) hC0 ?_
        generalize w9.drew = w3 at hB0 ⊢
        clear hC0
        simp only [List.filterMap_cons, List.filterMap_nil, List.getElem?_cons_zero, List.getElem?_cons_succ, Option.map_some]
        repeat (refine mixT_read (by rfl) ?_; apply Exists.intro; refine ⟨fun y hy => ?_, ?_⟩; (· have d1 := HC0'.out y hy; have d2 := HCX'.out y hy; have d3 := HCF'.out y hy; have d4 := HCP'.out y hy; go_simp; rfl); simp only [Act.put, List.setIfInBounds_toArray, List.set_cons_succ, List.set_cons_zero])
        refine mixT_step (by rfl) (fun K' hK => ?_)
        go_simp
        have rB := row_new w3 w9.heap.size 1 1 9 #[.string (txt f)] hB0.size rfl (by unfold maxLen; omega)
        have hBB := hB0.alloc hB0.size (.cells #[.string (txt f)] 9)
        refine hK _ _ (HCO.out _ hBB) ?_
        clear hK K'
        try simp only [Act.put, List.setIfInBounds_toArray, List.set_cons_succ, List.set_cons_zero]
        obtain ⟨B, hB⟩ : ∃ B, B = w3.heap.size := ⟨_, rfl⟩
        rw [← hB] at rB ⊢
        generalize w3.alloc (.cells #[.string (txt f)] 9) = wQ at rB hBB ⊢
        clear hB hB0
        obtain ⟨g2, c2, hvv, hg2, hg2l, hc2, hc2m, hstr2⟩ := strv_open (L := [f]) rB (by simp)
        simp only [Value.slice.injEq, Option.some.injEq, Addr.mk.injEq, and_true] at hvv
        obtain ⟨rfl, hone1, rfl⟩ := hvv
        clear hone1
        have HG2 := Lib.hid (And.intro hg2 (And.intro hg2l hstr2))
        clear rB hg2 hg2l hc2 hc2m hstr2
        refine mixT_read (by rfl) ?_
        apply Exists.intro
        refine ⟨fun y hy => ?_, ?_⟩
        · go_simp; rfl
        simp only [Act.put, List.setIfInBounds_toArray, List.set_cons_succ, List.set_cons_zero]
        refine mixT_step (by rfl) (fun K' hK => ?_)
        go_simp
        go_at_call 34
        have hBQ := HCT.out wQ (HCO.out _ hBB)
        have hdQ := HD.out.below hBQ
        have hone : ∀ j, j < n → (V j).oneCell' = true := fun j hj => by
          obtain ⟨g', c', e, _⟩ := HD.out.at (i := j) (show j < S.length by rw [← HN.out]; exact hj) rfl
          rw [e]; rfl
        have hcells : ∀ j, j < n → wQ.cell? ⟨rb, j, none⟩ = some (V j) := fun j hj => hdQ.cell j (show j < S.length by rw [← HN.out]; exact hj)
        refine (rset_walk rb n cap x V (.slice (some ⟨B, 0, none⟩) 1 1) wQ (hdQ.lt rb hdQ.row.1) hcells hone rfl (by omega) (by omega)).mono ?_
        rintro e w4 ⟨rb3, cap3, rfl, hb4, k1, k2, k3, k4, k5⟩
        have hB4 : Below wr.heap.size wr w4 := hBQ.trans (hb4.mono hBQ.size)
        refine hK _ _ (HCO.out _ (hBB.trans (hb4.mono hBB.size))) ?_
        clear hK K' hone hcells
        try simp only [Act.put, List.setIfInBounds_toArray, List.set_cons_succ, List.set_cons_zero]
        repeat (refine mixT_read (by rfl) ?_; apply Exists.intro; refine ⟨fun y hy => ?_, ?_⟩; (· go_simp; rfl); simp only [Act.put, List.setIfInBounds_toArray, List.set_cons_succ, List.set_cons_zero])
        have hd4 := HD.out.below hB4
        have c0 := hd4.c0
        have f0 := hd4.fr 0
        rw [show (Dk.mk S st.calls st.armed st.down).S.length = n from HN.out.symm] at c0
        obtain ⟨R2, r1, r2, r3⟩ := ref_done HD.out hB4 (i := x) HXS.out (L := [f]) (by simp) (fun t ht => by rw [List.mem_singleton.1 ht]; exact HF64.out) (rb' := rb3) (cap' := cap3) (g := B) (c := 1) (Nat.le_trans hBQ.size k1) k2 ⟨by show S.length ≤ cap3; rw [← HN.out]; exact k3, k4⟩ (fun j hj => k5 j (by rw [HN.out]; exact hj)) (Nat.le_trans HB9.out.size HG2.out.1) (Nat.lt_of_lt_of_le HG2.out.2.1 hb4.size) ⟨by simp, by omega⟩
          (fun j hj => (hb4.cell (p := ⟨B, j, none⟩) HG2.out.2.1).trans (HG2.out.2.2 j hj))
        have r4 : Ref (w4.setCell ⟨q, 0, none⟩ (.slice (some ⟨rb3, 0, none⟩) n cap3)) q R2 ⟨settleN (crashOf keep) st.S l (k + 1), st.calls, st.armed, st.down⟩ := by
          rw [HS2.out]
          have := r1
          rw [show (Dk.mk S st.calls st.armed st.down).S.length = n from HN.out.symm] at this
          exact this
        have r5 : Touch (fun y => y = q) wr (w4.setCell ⟨q, 0, none⟩ (.slice (some ⟨rb3, 0, none⟩) n cap3)) := by
          have := r3
          rw [show (Dk.mk S st.calls st.armed st.down).S.length = n from HN.out.symm] at this
          exact this
        have R4 := Lib.hid r4; have R5 := Lib.hid (HT.out.trans r5)
        have R7 := Lib.hid (HR.out.touch r5 (fun y hy => by rw [hy]; exact HQ.out))
        have R6 := Lib.hid (show ∀ y, R2 y → R y ∨ w.heap.size ≤ y from fun y hy => (r2 y hy).elim (HRR.out y) (fun h => .inr (Nat.le_trans HT.out.size h)))
        clear hd4 r1 r2 r3 r4 r5 hdQ hb4 k1 k2 k3 k4 k5 hBB hBQ
        refine mixT_tail (by rfl) (fun K' hK => ?_)
        go_simp
        refine hK _ _ ?_
        clear hK K'
        try simp only [Act.put]
        refine mixT_nil (NoPanic.normal ?_)
        go_wp2_with fail
        go_roundg (gk - 1)
        case measure => have := HGK.out; omega
        case rel => exact ⟨k + 1, R2, by have := HGK.out; omega, by go_num, R4.out, R6.out, R5.out, R7.out⟩
    · have hkn : k = l.length := by have := HGK.out; omega
      have hrf2 : Ref wr q R' ⟨settleN (crashOf keep) st.S l l.length, st.calls, st.armed, st.down⟩ := by rw [← hkn]; exact hrf
      obtain ⟨rb, cap, V, hd⟩ := hrf2
      have c2 := hd.c2
      have c3 := hd.c3
      have f2 := hd.fr 2
      have f3 := hd.fr 3
      have HD := Lib.hid hd
      clear hd hkn hrf
      go_wp2_with fail
      have g1 := set_at (i := 3) HD.out.blk (.bool false)
      have g2 := set_at (i := 2) g1 (.int .i64 0)
      have t2 : Touch (fun y => y = q) wr ((wr.setCell ⟨q, 3, none⟩ (.bool false)).setCell ⟨q, 2, none⟩ (.int .i64 0)) := ((Touch.refl (fun y => y = q) wr).setCell (F := fun y => y = q) rfl _).setCell rfl _
      have hfin : RefPost q R w (.tuple #[]) ⟨settleN (crashOf keep) st.S l l.length, st.calls, 0, false⟩ (.returned (.tuple #[])) ((wr.setCell ⟨q, 3, none⟩ (.bool false)).setCell ⟨q, 2, none⟩ (.int .i64 0)) :=
        ⟨rfl, R', ⟨rb, cap, V, HD.out.cnt t2 st.calls 0 false (by omega) g2⟩, HRR.out, HT.out.trans t2⟩
      exact bodyPost_end (results_none rfl _ _ _) rfl hfin
end Go.Proofs.Ytcabocppplokgaa
