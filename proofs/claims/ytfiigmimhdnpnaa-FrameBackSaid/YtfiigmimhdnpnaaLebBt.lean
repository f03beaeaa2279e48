/-
  Layer 1: one field is laid behind others.
-/
import Derived.Test.YtfiigmimhdnpnaaLebB
import Derived.Test.YtfiigmimhdnpnaaMixT
import Derived.OneCell
import Derived.Lib.OwnKind
namespace Go.Proofs.Ytfiigmimhdnpnaa
open Go.RowKit

set_option maxHeartbeats 2000000 in
theorem lay1_text_go (R : List UInt8) (q : Nat) (vb : Value) (l : List UInt8) (n : Int) (s : ByteArray) (w : World) (hq : w.heap[q]? = some (.cells #[vb] 38 (0, 0))) (hrow : w.ownsRow (q + 1) 5 1 vb l.length (bv l)) (hl : l.length ≤ 65536) (hn : s.size ≤ 9223372036854775807) (hR : R = l ++ lebN s.size ++ s.data.toList.take 65536) :
    Calls Try.prog 31 #[.agg (fld n s true), .pointer (some ⟨q, 0, none⟩)] w fun e w' => e = .returned (.tuple #[]) ∧ Below q w w' ∧ ∃ v', w'.heap[q]? = some (.cells #[v'] 38 (0, 0)) ∧ w'.ownsRow (q + 1) 5 1 v' R.length (bv R) := by
  obtain ⟨i0, hi, hz0, hz1, hz2⟩ := info_parts info_u8
  have HRR := Lib.hid hR
  clear hR
  have hlq := lt_of_block hq
  obtain ⟨m, hm⟩ : ∃ m, m = l.length := ⟨_, rfl⟩
  rw [← hm] at hrow hl
  obtain ⟨ad, cap, rfl⟩ := own_form hrow
  have HM := Lib.hid hm
  clear hm
  go_enter Try.func31, Try.ntmps31
  go_upto_region 2 with fail
  obtain ⟨f, hf⟩ : ∃ f, f = w.heap.size := ⟨_, rfl⟩
  have g0 := heap_alloc_top w (.cells (fld n s true) 43)
  have hB := (Below.refl w.heap.size w).alloc (Nat.le_refl _) (.cells (fld n s true) 43)
  have g1 := (heap_alloc_lt w (.cells (fld n s true) 43) q hlq).trans hq
  have hr1 : (w.alloc (.cells (fld n s true) 43)).ownsRow (q + 1) 5 1 (.slice ad m cap) m (bv l) := World.ownsRow.alloc hrow _
  rw [← hf] at g0 ⊢
  generalize w.alloc (.cells (fld n s true) 43) = W at g0 g1 hB hr1 ⊢
  have HF := Lib.hid hf
  have HB := Lib.hid (hB.mono (show q ≤ w.heap.size by omega))
  clear hf hq hrow hB
  have cq := cell_of_row W q 0 _ _ _ g1
  simp only [List.getElem?_toArray, List.getElem?_cons_zero] at cq
  have c2 : W.cell? ⟨f, 2, none⟩ = some (.bool true) := by rw [cell_of_row W f 2 _ _ _ g0]; rfl
  have G0 := Lib.hid g0; have G1 := Lib.hid g1; have HR := Lib.hid hr1
  clear g0 g1 hr1
  go_upto_region 4 with fail
  obtain ⟨S, hS⟩ : ∃ S : World → Prop, S = fun w' => w'.heap[q]? = some (.cells #[.slice ad m cap] 38 (0, 0)) ∧ w'.heap[f]? = some (.cells (fld n s true) 43 (0, 0)) := ⟨_, rfl⟩
  have hS0 : S W.drew := by rw [hS]; exact ⟨G1.out, G0.out⟩
  have hcq : ∀ w9, S w9 → w9.cell? ⟨q, 0, none⟩ = some (.slice ad m cap) := fun w9 h => by rw [hS] at h; rw [cell_of_row w9 q 0 _ _ _ h.1]; rfl
  have hc0 : ∀ w9, S w9 → w9.cell? ⟨f, 1, none⟩ = some (.string s) := fun w9 h => by rw [hS] at h; rw [cell_of_row w9 f 1 _ _ _ h.2]; rfl
  have HSB : ∀ w9 w', S w9 → Below w9.heap.size w9 w' → S w' := fun w9 w' h hb => by rw [hS] at h ⊢; exact ⟨(hb.block q (lt_of_block h.1)).trans h.1, (hb.block f (lt_of_block h.2)).trans h.2⟩
  have HSG : ∀ w9 w' row, S w9 → w9.grownBy w' row → some q ≠ row → some f ≠ row → S w' := fun w9 w' row h hg h1 h2 => by rw [hS] at h ⊢; exact ⟨(hg.block q (lt_of_block h.1) h1).trans h.1, (hg.block f (lt_of_block h.2) h2).trans h.2⟩
  have HSQ : ∀ w9, S w9 → w9.heap[q]? = some (.cells #[.slice ad m cap] 38 (0, 0)) ∧ w9.heap[f]? = some (.cells (fld n s true) 43 (0, 0)) := fun w9 h => by rw [hS] at h; exact h
  have KSB := Lib.hid HSB; have KSG := Lib.hid HSG; have KSQ := Lib.hid HSQ
  clear hS HSB HSG HSQ cq c2
  refine wp_region_mixT S 14 [(0,true,true),(1,true,true),(2,true,true),(3,true,true),(6,true,true),(7,true,true),(8,true,true),(9,true,true),(10,true,true),(11,true,true),(12,true,true),(4,false,true),(5,false,true),(13,false,true),(14,false,false)] (by kernel_rfl) (by kernel_rfl) hS0 ?_
  have hb0 : Below q w W.drew := HB.out.drew
  have hr0 : W.drew.ownsRow (q + 1) 5 1 (.slice ad m cap) m (bv l) := HR.out
  generalize W.drew = w0 at hb0 hr0 hS0 ⊢
  simp only [List.filterMap_cons, List.filterMap_nil, List.getElem?_cons_zero, List.getElem?_cons_succ, Option.map_some]
  have hx1 : s.size ≤ 65536 → (s.extract 0 s.size).data.toList = s.data.toList.take 65536 := fun h => by
    rw [ByteArray.data_extract, Array.toList_extract, List.take_of_length_le (i := 65536) (by exact h)]
    exact List.take_of_length_le (by exact Nat.le_of_eq rfl)
  have hx2 : (s.extract 0 65536).data.toList = s.data.toList.take 65536 := by
    rw [ByteArray.data_extract, Array.toList_extract]; rfl
  have HX1 := Lib.hid hx1; have HX2 := Lib.hid hx2
  clear hx1 hx2
  by_cases hsm : (65536 : Int) < s.size
  ·
    have HSM := Lib.hid hsm
    have hsm2 : (65536 : Int) ≤ s.size := by omega
    have hsd : (s.extract 0 65536).data.toList = s.data.toList.take 65536 := HX2.out
    obtain ⟨z, hz⟩ : ∃ z, z = (s.extract 0 65536).size := ⟨_, rfl⟩
    have hsz : z ≤ 65536 := by rw [hz, ByteArray.size_extract]; omega
    have HSD := Lib.hid hsd; have HSZ := Lib.hid hsz; have HZ := Lib.hid hz
    clear hsd hsz hz
    repeat (refine mixT_read (by rfl) ?_; apply Exists.intro; refine ⟨fun w9 hw9 => ?_, ?_⟩; (· have d1 := hcq w9 hw9; have d2 := hc0 w9 hw9; go_simp; rfl); simp only [Act.put, List.setIfInBounds_toArray, List.set_cons_succ, List.set_cons_zero])
    refine mixT_step (by rfl) (fun K' hK => ?_)
    go_simp
    go_at_call 32
    refine (number_walk s.size _ hn).mono ?_
    rintro e w1 ⟨v1, rfl, hown1, hb1⟩
    have hS1 := KSB.out _ _ hS0 hb1
    refine hK _ _ hS1 ?_
    clear hK K'
    try simp only [Act.put, List.setIfInBounds_toArray, List.set_cons_succ, List.set_cons_zero]
    have hr1 := own_below hr0 hb1 (Nat.le_refl _)
    have hsq0 := (KSQ.out _ hS0)
    have hb01 := hb0.trans (hb1.mono (Nat.le_of_lt (lt_of_block hsq0.1)))
    clear hr0 hb0 hS0 hsq0
    have hln : (lebN s.size).length ≤ 9 := lebN_nine s.size hn
    obtain ⟨j, hj⟩ : ∃ j, j = (lebN s.size).length := ⟨_, rfl⟩
    rw [← hj] at hown1 hln
    have HJ := Lib.hid hj
    clear hj
    refine mixT_step (by rfl) (fun K' hK => ?_)
    have hq1 := (KSQ.out _ hS1).1
    have hf1 := (KSQ.out _ hS1).2
    refine wp_append_at _ _ _ 38 38 rfl (q + 1) 5 i0 (.int .u8 0) 1 1 Try.underlying38 hi hz0 hz1 hz2 rfl (by decide) _ m (bv l) rfl hr1 _ j (bv (lebN s.size)) rfl (src_own _ Try.underlying38 hown1 (bv_one _)) (by unfold maxLen; omega) (by omega) (by have := lt_of_block hq1; omega) ?_
    intro v2 w2 hown2 hgrow hpl
    have hnq := own_ne hr1 hq1 (by decide)
    have hnf := own_ne hr1 hf1 (by decide)
    have hS2 := KSG.out _ _ _ hS1 hgrow (fun e => hnq e.symm) (fun e => hnf e.symm)
    refine hK _ _ hS2 ?_
    clear hK K'
    try simp only [Act.put, List.setIfInBounds_toArray, List.set_cons_succ, List.set_cons_zero]
    rw [← bv_append] at hown2
    have hb2 : Below q w w2 := hb01.trans ⟨hgrow.os, hgrow.tape, hgrow.output, hgrow.size, fun k hk => hgrow.block k (by have := lt_of_block hq1; omega) (fun e => by have := (hr1.lt k e.symm).1; omega)⟩
    clear hq1 hf1 hgrow hpl hnq hnf hr1 hown1 hb01 hS1 hb1
    refine mixT_step (by rfl) (fun K' hK => ?_)
    have hq1 := (KSQ.out _ hS2).1
    have hf1 := (KSQ.out _ hS2).2
    refine wp_append_at _ _ _ 38 9 rfl (q + 1) 5 i0 (.int .u8 0) 1 1 Try.underlying38 hi hz0 hz1 hz2 rfl (by decide) _ (m + j) (bv (l ++ lebN s.size)) rfl hown2 _ z (bv (s.extract 0 65536).data.toList) rfl (by rw [HZ.out]; exact src_bytes _ Try.underlying9 (s.extract 0 65536)) (by have := HSZ.out; unfold maxLen; omega) (by have := HSZ.out; omega) (by have := lt_of_block hq1; omega) ?_
    intro v3 w3 hown3 hgrow hpl
    have hnq := own_ne hown2 hq1 (by decide)
    have hnf := own_ne hown2 hf1 (by decide)
    have hS3 := KSG.out _ _ _ hS2 hgrow (fun e => hnq e.symm) (fun e => hnf e.symm)
    refine hK _ _ hS3 ?_
    clear hK K'
    try simp only [Act.put, List.setIfInBounds_toArray, List.set_cons_succ, List.set_cons_zero]
    rw [← bv_append, HSD.out, ← HRR.out] at hown3
    have hb3 : Below q w w3 := hb2.trans ⟨hgrow.os, hgrow.tape, hgrow.output, hgrow.size, fun k hk => hgrow.block k (by have := lt_of_block hq1; omega) (fun e => by have := (hown2.lt k e.symm).1; omega)⟩
    have hq3 := (KSQ.out _ hS3).1
    have c3 := hcq _ hS3
    have f3 : w3.frozen? ⟨q, 0, none⟩ = false := by simp [World.frozen?, hq3]
    obtain ⟨ad3, cap3, rfl⟩ := own_form hown3
    have HQ3 := Lib.hid hq3; have HO := Lib.hid hown3; have HB3 := Lib.hid hb3
    clear hq1 hf1 hgrow hpl hnq hnf hown3 hb3 hq3 hown2 hb2 hS2 hcq hc0
    refine mixT_tail (by rfl) (fun K' hK => ?_)
    go_simp
    refine hK _ _ ?_
    clear hK K'
    try simp only [Act.put, List.setIfInBounds_toArray, List.set_cons_succ, List.set_cons_zero]
    refine mixT_nil (NoPanic.normal ?_)
    go_wp2_with fail
    refine bodyPost_end (results_none rfl _ _ _) rfl ⟨rfl, HB3.out.setCell (Nat.le_refl _) _, _, setCell_block HQ3.out _, ?_⟩
    have ho := HO.out
    have hlen : R.length = m + j + z := by rw [HRR.out, List.length_append, List.length_append, HM.out, HJ.out, HZ.out, ← HSD.out]; rfl
    rw [hlen]
    refine ownsRow_setCell_other ho (fun e => ?_) _
    have := (ho.lt q e).1
    omega
  ·
    have HSM := Lib.hid hsm
    have hsd : s.data.toList = s.data.toList.take 65536 := by rw [List.take_of_length_le (by show s.size ≤ 65536; omega)]
    obtain ⟨z, hz⟩ : ∃ z, z = s.size := ⟨_, rfl⟩
    have hsz : z ≤ 65536 := by omega
    have HSD := Lib.hid hsd; have HSZ := Lib.hid hsz; have HZ := Lib.hid hz
    clear hsd hsz hz
    repeat (refine mixT_read (by rfl) ?_; apply Exists.intro; refine ⟨fun w9 hw9 => ?_, ?_⟩; (· have d1 := hcq w9 hw9; have d2 := hc0 w9 hw9; go_simp; rfl); simp only [Act.put, List.setIfInBounds_toArray, List.set_cons_succ, List.set_cons_zero])
    refine mixT_step (by rfl) (fun K' hK => ?_)
    go_simp
    go_at_call 32
    refine (number_walk s.size _ hn).mono ?_
    rintro e w1 ⟨v1, rfl, hown1, hb1⟩
    have hS1 := KSB.out _ _ hS0 hb1
    refine hK _ _ hS1 ?_
    clear hK K'
    try simp only [Act.put, List.setIfInBounds_toArray, List.set_cons_succ, List.set_cons_zero]
    have hr1 := own_below hr0 hb1 (Nat.le_refl _)
    have hsq0 := (KSQ.out _ hS0)
    have hb01 := hb0.trans (hb1.mono (Nat.le_of_lt (lt_of_block hsq0.1)))
    clear hr0 hb0 hS0 hsq0
    have hln : (lebN s.size).length ≤ 9 := lebN_nine s.size hn
    obtain ⟨j, hj⟩ : ∃ j, j = (lebN s.size).length := ⟨_, rfl⟩
    rw [← hj] at hown1 hln
    have HJ := Lib.hid hj
    clear hj
    refine mixT_step (by rfl) (fun K' hK => ?_)
    have hq1 := (KSQ.out _ hS1).1
    have hf1 := (KSQ.out _ hS1).2
    refine wp_append_at _ _ _ 38 38 rfl (q + 1) 5 i0 (.int .u8 0) 1 1 Try.underlying38 hi hz0 hz1 hz2 rfl (by decide) _ m (bv l) rfl hr1 _ j (bv (lebN s.size)) rfl (src_own _ Try.underlying38 hown1 (bv_one _)) (by unfold maxLen; omega) (by omega) (by have := lt_of_block hq1; omega) ?_
    intro v2 w2 hown2 hgrow hpl
    have hnq := own_ne hr1 hq1 (by decide)
    have hnf := own_ne hr1 hf1 (by decide)
    have hS2 := KSG.out _ _ _ hS1 hgrow (fun e => hnq e.symm) (fun e => hnf e.symm)
    refine hK _ _ hS2 ?_
    clear hK K'
    try simp only [Act.put, List.setIfInBounds_toArray, List.set_cons_succ, List.set_cons_zero]
    rw [← bv_append] at hown2
    have hb2 : Below q w w2 := hb01.trans ⟨hgrow.os, hgrow.tape, hgrow.output, hgrow.size, fun k hk => hgrow.block k (by have := lt_of_block hq1; omega) (fun e => by have := (hr1.lt k e.symm).1; omega)⟩
    clear hq1 hf1 hgrow hpl hnq hnf hr1 hown1 hb01 hS1 hb1
    refine mixT_step (by rfl) (fun K' hK => ?_)
    have hq1 := (KSQ.out _ hS2).1
    have hf1 := (KSQ.out _ hS2).2
    refine wp_append_at _ _ _ 38 9 rfl (q + 1) 5 i0 (.int .u8 0) 1 1 Try.underlying38 hi hz0 hz1 hz2 rfl (by decide) _ (m + j) (bv (l ++ lebN s.size)) rfl hown2 _ z (bv s.data.toList) rfl (by rw [HZ.out]; exact src_bytes _ Try.underlying9 s) (by have := HSZ.out; unfold maxLen; omega) (by have := HSZ.out; omega) (by have := lt_of_block hq1; omega) ?_
    intro v3 w3 hown3 hgrow hpl
    have hnq := own_ne hown2 hq1 (by decide)
    have hnf := own_ne hown2 hf1 (by decide)
    have hS3 := KSG.out _ _ _ hS2 hgrow (fun e => hnq e.symm) (fun e => hnf e.symm)
    refine hK _ _ hS3 ?_
    clear hK K'
    try simp only [Act.put, List.setIfInBounds_toArray, List.set_cons_succ, List.set_cons_zero]
    rw [← bv_append, HSD.out, ← HRR.out] at hown3
    have hb3 : Below q w w3 := hb2.trans ⟨hgrow.os, hgrow.tape, hgrow.output, hgrow.size, fun k hk => hgrow.block k (by have := lt_of_block hq1; omega) (fun e => by have := (hown2.lt k e.symm).1; omega)⟩
    have hq3 := (KSQ.out _ hS3).1
    have c3 := hcq _ hS3
    have f3 : w3.frozen? ⟨q, 0, none⟩ = false := by simp [World.frozen?, hq3]
    obtain ⟨ad3, cap3, rfl⟩ := own_form hown3
    have HQ3 := Lib.hid hq3; have HO := Lib.hid hown3; have HB3 := Lib.hid hb3
    clear hq1 hf1 hgrow hpl hnq hnf hown3 hb3 hq3 hown2 hb2 hS2 hcq hc0
    refine mixT_tail (by rfl) (fun K' hK => ?_)
    go_simp
    refine hK _ _ ?_
    clear hK K'
    try simp only [Act.put, List.setIfInBounds_toArray, List.set_cons_succ, List.set_cons_zero]
    refine mixT_nil (NoPanic.normal ?_)
    go_wp2_with fail
    refine bodyPost_end (results_none rfl _ _ _) rfl ⟨rfl, HB3.out.setCell (Nat.le_refl _) _, _, setCell_block HQ3.out _, ?_⟩
    have ho := HO.out
    have hlen : R.length = m + j + z := by rw [HRR.out, List.length_append, List.length_append, HM.out, HJ.out, HZ.out, ← HSD.out]; rfl
    rw [hlen]
    refine ownsRow_setCell_other ho (fun e => ?_) _
    have := (ho.lt q e).1
    omega
end Go.Proofs.Ytfiigmimhdnpnaa
