/-
  Layer 5: Append, Rewrite.
  Layer 5: Rewrite, Format; nil journals.
-/
import Derived.Test.YtjjejkhekmpgcaaGreatMgK
namespace Go.Proofs.YtjjejkhekmpgcaaGreat
set_option maxRecDepth 4000
open Go.RowKit

/-- what Append answers, and leaves -/
def appendD (st : Dk) (j : Jn) (l : List ByteArray) : Int × Dk :=
  if (laidR j (roomR st.S.length j) l).2 ≠ 0 ∨ (laidR j (roomR st.S.length j) l).1.size = 0 then ((laidR j (roomR st.S.length j) l).2, st)
  else setD st j j.half (j.used - j.tail.size) (j.tail ++ (laidR j (roomR st.S.length j) l).1)
def appendJ (st : Dk) (j : Jn) (l : List ByteArray) : Jn :=
  if (laidR j (roomR st.S.length j) l).2 ≠ 0 ∨ (laidR j (roomR st.S.length j) l).1.size = 0 then j
  else setJ st j j.half (j.used - j.tail.size) (j.tail ++ (laidR j (roomR st.S.length j) l).1)
/-- what Rewrite answers, and leaves -/
def rewriteD (st : Dk) (j : Jn) (l : List ByteArray) : Int × Dk :=
  if (laidR j (roomR st.S.length j + (j.used : Int)) l).2 ≠ 0 then ((laidR j (roomR st.S.length j + (j.used : Int)) l).2, st) else setD st j (1 - j.half) 0 (laidR j (roomR st.S.length j + (j.used : Int)) l).1
def rewriteJ (st : Dk) (j : Jn) (l : List ByteArray) : Jn :=
  if (laidR j (roomR st.S.length j + (j.used : Int)) l).2 ≠ 0 then j else setJ st j (1 - j.half) 0 (laidR j (roomR st.S.length j + (j.used : Int)) l).1
theorem flay_size (l : List ByteArray) : (flay l).1.size ≤ 65536 := by
  unfold flay
  split
  · rw [bytes_len]; assumption
  · show 0 ≤ 65536; omega
theorem laidR_size (j : Jn) (room : Int) (l : List ByteArray) : (laidR j room l).1.size ≤ 65536 := by
  unfold laidR
  split
  · show 0 ≤ 65536; omega
  · split
    · show 0 ≤ 65536; omega
    · split
      · show 0 ≤ 65536; omega
      · exact flay_size l
theorem laidR_seq (j : Jn) (room : Int) (l : List ByteArray) (h : (laidR j room l).2 = 0) : j.seq ≠ 9223372036854775807 ∧ j.broken = false := by
  unfold laidR at h
  split at h
  · simp at h
  · rename_i hb
    split at h
    · simp at h
    · rename_i hs
      exact ⟨hs, by simpa using hb⟩
/-- a journal's numbers as they ought to be -/
structure JnOk (st : Dk) (j : Jn) : Prop where
  half : j.half ≤ 1
  used : j.used ≤ 262144
  tail : j.tail.size = j.used % 64
  seq : j.seq ≤ 9223372036854775807

set_option maxHeartbeats 2000000 in
theorem append_walk (q p : Nat) (F : Nat → Prop) (st : Dk) (j : Jn) (M : Nat) (ad : Option Addr) (cap : Nat) (l : List ByteArray) (w : World) (hd : Disk w p F st) (hj : JnAt w q p j) (hqF : ¬ F q) (h4 : 4 ≤ st.S.length) (ok : JnOk st j)
    (hp : pendMax st.S M) (hM : M ≤ 500000000) (hl : strsAt w ad l) (hs : l.length ≤ 9223372036854775807) (hz : ∀ s ∈ l, s.size ≤ 9223372036854775807) :
    Calls Tryz.prog 21 #[.pointer (some ⟨q, 0, none⟩), .slice ad l.length cap] w fun e w' => SetPost w q p F (appendD st j l) (appendJ st j l) e w' := by
  have KR := Lib.hid (room_walk q p F st j w hj hd (by omega) ok.used)
  have KL := fun w' (hb : Below w.heap.size w w') => Lib.hid (laid_walk q p j (roomR st.S.length j) ad cap l w' (hj.below hb) (strsAt_below hl (Nat.le_refl _) hb) hs hz)
  have hls := laidR_size j (roomR st.S.length j) l
  have hlq := laidR_seq j (roomR st.S.length j) l
  have hu : j.tail.size ≤ j.used := by have := ok.tail; omega
  have KS := fun w' (hb : Below w.heap.size w w') (h0 : (laidR j (roomR st.S.length j) l).2 = 0) => Lib.hid (set_walk q p F st j j.half (j.used - j.tail.size) M (j.tail ++ (laidR j (roomR st.S.length j) l).1) w' (hd.below hb) (hj.below hb) hqF h4 ok.half hp hM
    (by rw [ByteArray.size_append]; have := ok.tail; omega) (by have := ok.used; omega) (by rw [ByteArray.size_append]; have := ok.tail; omega) (by have := (hlq h0).1; have := ok.seq; omega))
  obtain ⟨R, hR⟩ : ∃ R, R = appendD st j l := ⟨_, rfl⟩
  obtain ⟨J, hJ⟩ : ∃ J, J = appendJ st j l := ⟨_, rfl⟩
  rw [← hR, ← hJ]
  unfold appendD at hR
  unfold appendJ at hJ
  have hrw : -9223372036854775808 ≤ roomR st.S.length j := by unfold roomR; have := ok.used; omega
  obtain ⟨room, hroom⟩ : ∃ room, room = roomR st.S.length j := ⟨_, rfl⟩
  rw [← hroom] at KR hR hJ hls hrw
  simp only [← hroom] at KL KS
  obtain ⟨⟨s, e⟩, hse⟩ : ∃ r, r = laidR j room l := ⟨_, rfl⟩
  rw [← hse] at hR hJ hls
  simp only [← hse] at KL KS
  replace hls : s.size ≤ 65536 := hls
  obtain ⟨n, hn⟩ : ∃ n, n = l.length := ⟨_, rfl⟩
  rw [← hn]
  simp only [← hn] at KL
  have ht4 : (j.tail.size : Int) ≤ 64 := by have := ok.tail; omega
  have hu4 : (j.used : Int) ≤ 262144 := by have := ok.used; omega
  have c2 : ∀ u : Sub w.heap.size w, u.val.cell? ⟨q, 2, none⟩ = some (.int .i64 j.half) := fun u => (hj.below u.below).c2
  have c3 : ∀ u : Sub w.heap.size w, u.val.cell? ⟨q, 3, none⟩ = some (.int .i64 j.used) := fun u => (hj.below u.below).c3
  have c4 : ∀ u : Sub w.heap.size w, u.val.cell? ⟨q, 4, none⟩ = some (.string j.tail) := fun u => (hj.below u.below).c4
  have HC2 := Lib.hid c2; have HC3 := Lib.hid c3; have HC4 := Lib.hid c4
  have HR := Lib.hid hR; have HJ := Lib.hid hJ; have HD := Lib.hid hd; have HJN := Lib.hid hj; have HQF := Lib.hid hqF
  have HU := Lib.hid hu
  clear hR hJ hd hj hqF h4 ok hp hM hl hs hz hlq hroom hse hn c2 c3 c4
  by_cases hcond : e ≠ 0 ∨ s.size = 0
  · have hR2 : R = (e, st) := by rw [HR.out]; exact if_pos hcond
    have hJ2 : J = j := by rw [HJ.out]; exact if_pos hcond
    subst hR2; subst hJ2
    have hcase : e ≠ 0 ∨ (e = 0 ∧ s = ⟨#[]⟩) := by
      by_cases he : e = 0
      · exact .inr ⟨he, empty_of s (hcond.resolve_left (fun h => h he))⟩
      · exact .inl he
    clear hcond HR HJ KS
    rcases hcase with he | ⟨rfl, rfl⟩
    · have hze := beq_no he
      go_enter Tryz.func21, Tryz.ntmps21
      go_wp2_with fail
      refine KR.out.mono ?_
      rintro r w1 ⟨rfl, hb1⟩
      have HB1 := Lib.hid hb1
      go_wp2_with fail
      refine (KL w1 hb1).out.mono ?_
      rintro r w2 ⟨rfl, hb2⟩
      have HB2 := Lib.hid (HB1.out.trans (hb2.mono HB1.out.size))
      clear hb1 hb2 KL KR
      go_wp2_with fail
      go_ret
      exact ⟨rfl, F, HD.out.below HB2.out, HJN.out.below HB2.out, HQF.out, (Stp.ofBelow F HB2.out).more q⟩
    · skip
      go_enter Tryz.func21, Tryz.ntmps21
      go_wp2_with fail
      refine KR.out.mono ?_
      rintro r w1 ⟨rfl, hb1⟩
      have HB1 := Lib.hid hb1
      go_wp2_with fail
      refine (KL w1 hb1).out.mono ?_
      rintro r w2 ⟨rfl, hb2⟩
      have HB2 := Lib.hid (HB1.out.trans (hb2.mono HB1.out.size))
      clear hb1 hb2 KL KR
      go_wp2_with fail
      go_ret
      exact ⟨rfl, F, HD.out.below HB2.out, HJN.out.below HB2.out, HQF.out, (Stp.ofBelow F HB2.out).more q⟩
  · have hR2 := HR.out
    rw [if_neg hcond] at hR2
    have hJ2 := HJ.out
    rw [if_neg hcond] at hJ2
    have he : e = 0 := Decidable.byContradiction fun h => hcond (.inl h)
    have hs0 : s.size ≠ 0 := fun h => hcond (.inr h)
    subst he
    have KS2 := fun w' hb => KS w' hb rfl
    simp only [← hR2, ← hJ2] at KS2
    have h02 : s.toList.isEmpty = false := by
      rw [ByteArray.toList_eq]
      cases hl : s.data.toList with
      | nil => exact absurd (by rw [show s.size = s.data.toList.length by simp, hl]; rfl) hs0
      | cons a r => rfl
    obtain ⟨fr, hfr⟩ : ∃ fr, fr = j.used - j.tail.size := ⟨_, rfl⟩
    have hfi : (j.used : Int) - (j.tail.size : Int) = (fr : Int) := by have := HU.out; omega
    rw [← hfr] at KS2
    have hap : ¬ 9223372036854775807 < j.tail.size + s.size := by omega
    replace hfi : IntKind.i64.wrap ((j.used : Int) - (j.tail.size : Int)) = (fr : Int) := by rw [hfi]; exact IntWalk.i64_in _ (by omega)
    have HFI := Lib.hid hfi
    clear hcond HR HJ KS hR2 hJ2 hs0 hfr hfi
    go_enter Tryz.func21, Tryz.ntmps21
    go_wp2_with fail
    refine KR.out.mono ?_
    rintro r w1 ⟨rfl, hb1⟩
    have HB1 := Lib.hid hb1
    go_wp2_with fail
    refine (KL w1 hb1).out.mono ?_
    rintro r w2 ⟨rfl, hb2⟩
    have HB2 := Lib.hid (HB1.out.trans (hb2.mono HB1.out.size))
    clear hb1 hb2 KL KR
    go_upto_region 4 with fail
    have hB0 : Below w.heap.size w w2.drew := HB2.out.trans ((Below.refl w2.heap.size w2).drew.mono HB2.out.size)
    refine wp_region_mixT (inSub w.heap.size w) 23 [(0,true,true),(1,true,true),(2,true,true),(3,true,true),(4,true,true),(5,true,true),(6,true,true),(7,true,true),(8,true,true),(9,true,true),(10,true,true),(11,true,true),(12,true,true),(13,true,true),(14,true,true),(15,true,true),(16,true,true),(17,true,true),(18,true,true),(19,true,true),(20,true,true),(21,true,true),(22,true,true),(23,false,false),(24,false,false)] (by kernel_rfl) (by kernel_rfl) (inSub_of hB0) ?_
    generalize w2.drew = w3 at hB0 ⊢
    simp only [List.filterMap_cons, List.filterMap_nil, List.getElem?_cons_zero, List.getElem?_cons_succ, Option.map_some]
    repeat (refine mixT_read (by rfl) ?_; apply Exists.intro; refine ⟨fun w9 hw9 => ?_, ?_⟩; (· obtain ⟨x9, rfl⟩ := hw9; have d2 := HC2.out x9; have d3 := HC3.out x9; have d4 := HC4.out x9; go_simp; rfl); simp only [Act.put, List.setIfInBounds_toArray, List.set_cons_succ, List.set_cons_zero])
    rw [HFI.out]
    refine mixT_tail (by rfl) (fun K' hK => ?_)
    go_simp
    refine (KS2 w3 hB0).out.mono ?_
    rintro r w4 ⟨rfl, F1, hd1, hj1, hq1, hs1⟩
    have HF := Lib.hid (show SetPost w q p F R J (.returned (.int .i64 R.1)) w4 from ⟨rfl, F1, hd1, hj1, hq1, ((Stp.ofBelow F hB0).more q).trans hs1⟩)
    refine hK _ _ ?_
    clear hK K' hd1 hj1 hq1 hs1 hB0 KS2
    try simp only [Act.put, List.setIfInBounds_toArray, List.set_cons_succ, List.set_cons_zero]
    refine mixT_tail (by rfl) (fun K' hK => ?_)
    go_simp
    refine hK _ _ ?_
    clear hK K'
    try simp only [Act.put, List.setIfInBounds_toArray, List.set_cons_succ, List.set_cons_zero]
    refine mixT_nil (NoPanic.normal ?_)
    go_wp2_with fail
    go_ret
    exact HF.out
end Go.Proofs.YtjjejkhekmpgcaaGreat

namespace Go.Proofs.YtjjejkhekmpgcaaGreat
set_option maxRecDepth 4000
open Go.RowKit

set_option maxHeartbeats 2000000 in
theorem rewrite_walk (q p : Nat) (F : Nat → Prop) (st : Dk) (j : Jn) (M : Nat) (ad : Option Addr) (cap : Nat) (l : List ByteArray) (w : World) (hd : Disk w p F st) (hj : JnAt w q p j) (hqF : ¬ F q) (h4 : 4 ≤ st.S.length) (ok : JnOk st j)
    (hp : pendMax st.S M) (hM : M ≤ 500000000) (hl : strsAt w ad l) (hs : l.length ≤ 9223372036854775807) (hz : ∀ s ∈ l, s.size ≤ 9223372036854775807) :
    Calls Tryz.prog 48 #[.pointer (some ⟨q, 0, none⟩), .slice ad l.length cap] w fun e w' => SetPost w q p F (rewriteD st j l) (rewriteJ st j l) e w' := by
  have KR := Lib.hid (room_walk q p F st j w hj hd (by omega) ok.used)
  have KU := fun w' (hb : Below w.heap.size w w') => Lib.hid (used_walk q p j w' (hj.below hb))
  have KL := fun w' (hb : Below w.heap.size w w') => Lib.hid (laid_walk q p j (roomR st.S.length j + (j.used : Int)) ad cap l w' (hj.below hb) (strsAt_below hl (Nat.le_refl _) hb) hs hz)
  have hls := laidR_size j (roomR st.S.length j + (j.used : Int)) l
  have hlq := laidR_seq j (roomR st.S.length j + (j.used : Int)) l
  have KS := fun w' (hb : Below w.heap.size w w') (h0 : (laidR j (roomR st.S.length j + (j.used : Int)) l).2 = 0) => Lib.hid (set_walk q p F st j (1 - j.half) 0 M (laidR j (roomR st.S.length j + (j.used : Int)) l).1 w' (hd.below hb) (hj.below hb) hqF h4 (by omega) hp hM
    (by omega) (by omega) (by omega) (by have := (hlq h0).1; have := ok.seq; omega))
  obtain ⟨R, hR⟩ : ∃ R, R = rewriteD st j l := ⟨_, rfl⟩
  obtain ⟨J, hJ⟩ : ∃ J, J = rewriteJ st j l := ⟨_, rfl⟩
  rw [← hR, ← hJ]
  unfold rewriteD at hR
  unfold rewriteJ at hJ
  have hz4 : sizeN st.S.length ≤ 4096 := by have := hd.ok.2.1; unfold sizeN; omega
  have hrw : -9223372036854775808 ≤ roomR st.S.length j + (j.used : Int) ∧ roomR st.S.length j + (j.used : Int) ≤ 9223372036854775807 := by unfold roomR; have := ok.used; omega
  obtain ⟨room, hroom⟩ : ∃ room, room = roomR st.S.length j := ⟨_, rfl⟩
  rw [← hroom] at KR hR hJ hls hrw
  simp only [← hroom] at KL KS
  obtain ⟨tot, htot⟩ : ∃ tot, tot = room + (j.used : Int) := ⟨_, rfl⟩
  rw [← htot] at hR hJ hls hrw
  simp only [← htot] at KL KS
  have HTOT := Lib.hid htot
  obtain ⟨⟨s, e⟩, hse⟩ : ∃ r, r = laidR j tot l := ⟨_, rfl⟩
  rw [← hse] at hR hJ hls
  simp only [← hse] at KL KS
  obtain ⟨n, hn⟩ : ∃ n, n = l.length := ⟨_, rfl⟩
  rw [← hn]
  simp only [← hn] at KL
  obtain ⟨hh, hhe⟩ : ∃ hh, hh = 1 - j.half := ⟨_, rfl⟩
  have hhi : (1 : Int) - (j.half : Int) = (hh : Int) := by have := ok.half; omega
  rw [← hhe] at hR hJ
  simp only [← hhe] at KS
  have hh1 : (j.half : Int) ≤ 1 := by have := ok.half; omega
  have c2 : ∀ w', Below w.heap.size w w' → w'.cell? ⟨q, 2, none⟩ = some (.int .i64 j.half) := fun w' hb => (hj.below hb).c2
  have HC2 := Lib.hid c2
  have HR := Lib.hid hR; have HJ := Lib.hid hJ; have HD := Lib.hid hd; have HJN := Lib.hid hj; have HQF := Lib.hid hqF; have HHI := Lib.hid hhi
  have htw : wrap64 (room + (j.used : Int)) = tot := by rw [← htot]; exact IntWalk.wrap64_in _ hrw
  have htw2 : IntKind.i64.wrap (room + (j.used : Int)) = tot := by rw [← htot]; exact IntWalk.i64_in _ (by omega)
  clear hR hJ hd hj hqF h4 ok hp hM hl hs hz hlq hroom hse hn c2 htot hhe hhi hz4
  by_cases hcond : e ≠ 0
  · have hR2 : R = (e, st) := by rw [HR.out]; exact if_pos hcond
    have hJ2 : J = j := by rw [HJ.out]; exact if_pos hcond
    subst hR2; subst hJ2
    have hze := beq_no hcond
    clear hcond HR HJ KS
    go_enter Tryz.func48, Tryz.ntmps48
    go_wp2_with fail
    refine KR.out.mono ?_
    rintro r w1 ⟨rfl, hb1⟩
    have HB1 := Lib.hid hb1
    go_wp2_with fail
    refine (KU w1 hb1).out.mono ?_
    rintro r w2 ⟨rfl, rfl⟩
    go_wp2_with fail
    try rw [← HTOT.out]
    refine (KL w2 hb1).out.mono ?_
    rintro r w3 ⟨rfl, hb2⟩
    have HB2 := Lib.hid (HB1.out.trans (hb2.mono HB1.out.size))
    clear hb1 hb2 KL KR KU
    go_wp2_with fail
    go_ret
    exact ⟨rfl, F, HD.out.below HB2.out, HJN.out.below HB2.out, HQF.out, (Stp.ofBelow F HB2.out).more q⟩
  · have hR2 := HR.out
    rw [if_neg hcond] at hR2
    have hJ2 := HJ.out
    rw [if_neg hcond] at hJ2
    have he : e = 0 := Decidable.byContradiction fun h => hcond h
    subst he
    have KS2 := fun w' hb => KS w' hb rfl
    simp only [← hR2, ← hJ2] at KS2
    clear hcond HR HJ KS hR2 hJ2
    go_enter Tryz.func48, Tryz.ntmps48
    go_wp2_with fail
    refine KR.out.mono ?_
    rintro r w1 ⟨rfl, hb1⟩
    have HB1 := Lib.hid hb1
    go_wp2_with fail
    refine (KU w1 hb1).out.mono ?_
    rintro r w2 ⟨rfl, rfl⟩
    go_wp2_with fail
    try rw [← HTOT.out]
    refine (KL w2 hb1).out.mono ?_
    rintro r w3 ⟨rfl, hb2⟩
    have HB2 := Lib.hid (HB1.out.trans (hb2.mono HB1.out.size))
    have d2 := HC2.out w3 HB2.out
    clear hb1 hb2 KL KR KU htw htw2
    go_wp2_with fail
    try rw [HHI.out]
    refine (KS2 w3 HB2.out).out.mono ?_
    rintro r w4 ⟨rfl, F1, hd1, hj1, hq1, hs1⟩
    have HF := Lib.hid (show SetPost w q p F R J (.returned (.int .i64 R.1)) w4 from ⟨rfl, F1, hd1, hj1, hq1, ((Stp.ofBelow F HB2.out).more q).trans hs1⟩)
    clear hd1 hj1 hq1 hs1 KS2
    go_wp2_with fail
    go_ret
    exact HF.out
theorem append_nil (v : Value) (w : World) : Calls Tryz.prog 21 #[.pointer none, v] w fun e w' => e = .returned (.int .i64 1) ∧ w' = w := by
  go_enter Tryz.func21, Tryz.ntmps21
  go_wp2_with fail
  refine (room_nil w).mono ?_
  rintro r w1 ⟨rfl, rfl⟩
  go_wp2_with fail
  refine (laid_nil 0 v w1).mono ?_
  rintro r w2 ⟨rfl, rfl⟩
  go_wp2_with fail
  go_ret
  exact ⟨rfl, rfl⟩
theorem rewrite_nil (v : Value) (w : World) : Calls Tryz.prog 48 #[.pointer none, v] w fun e w' => e = .returned (.int .i64 1) ∧ w' = w := by
  go_enter Tryz.func48, Tryz.ntmps48
  go_wp2_with fail
  refine (room_nil w).mono ?_
  rintro r w1 ⟨rfl, rfl⟩
  go_wp2_with fail
  refine (used_nil w1).mono ?_
  rintro r w2 ⟨rfl, rfl⟩
  go_wp2_with fail
  refine (laid_nil 0 v w2).mono ?_
  rintro r w3 ⟨rfl, rfl⟩
  go_wp2_with fail
  go_ret
  exact ⟨rfl, rfl⟩

/-- what Format answers, and leaves -/
def formatD (st : Dk) : Int × Dk :=
  if mayE st.S.length ≠ 0 then (mayE st.S.length, st) else if (writeD st 0 ⟨#[]⟩).1 ≠ 0 then writeD st 0 ⟨#[]⟩
  else flushJ (writeD (writeD st 0 ⟨#[]⟩).2 1 ⟨(headB 1 0 0).toArray⟩)
theorem format_nil (w : World) : Calls Tryz.prog 33 #[.pointer none] w fun e w' => e = .returned (.int .i64 1) ∧ w' = w := by
  go_enter Tryz.func33, Tryz.ntmps33
  go_wp2_with fail
  refine (may_nil w).mono ?_
  rintro r w1 ⟨rfl, rfl⟩
  go_wp2_with fail
  go_ret
  exact ⟨rfl, rfl⟩
theorem format_may (p : Nat) (F : Nat → Prop) (st : Dk) (w : World) (h : Disk w p F st) (h4 : st.S.length < 4) :
    Calls Tryz.prog 33 #[.pointer (some ⟨p, 0, none⟩)] w fun e w' => e = .returned (.int .i64 2) ∧ w' = w := by
  have KM := Lib.hid (may_walk p F st w h)
  rw [show mayE st.S.length = 2 by unfold mayE; rw [if_pos h4]] at KM
  clear h h4
  go_enter Tryz.func33, Tryz.ntmps33
  go_wp2_with fail
  refine KM.out.mono ?_
  rintro r w1 ⟨rfl, rfl⟩
  go_wp2_with fail
  go_ret
  exact ⟨rfl, rfl⟩
set_option maxHeartbeats 2000000 in
theorem format_walk (p : Nat) (F : Nat → Prop) (st : Dk) (M : Nat) (w : World) (h : Disk w p F st) (h4 : 4 ≤ st.S.length) (h0 : (writeD st 0 ⟨#[]⟩).1 = 0) (hp : pendMax st.S M) (hM : M ≤ 500000000) :
    Calls Tryz.prog 33 #[.pointer (some ⟨p, 0, none⟩)] w fun e w' => DiskPost p F w (.int .i64 (formatD st).1) (formatD st).2 e w' := by
  have KM := Lib.hid (may_walk p F st w h)
  rw [show mayE st.S.length = 0 by unfold mayE; rw [if_neg (by omega)]] at KM
  have KW := Lib.hid (write_walk p F st 0 ⟨#[]⟩ w h (by have := hp (0 : Int).toNat; omega))
  have hfd : formatD st = flushJ (writeD (writeD st 0 ⟨#[]⟩).2 1 ⟨(headB 1 0 0).toArray⟩) := by
    unfold formatD
    rw [if_neg (by unfold mayE; rw [if_neg (by omega)]; simp), if_neg (by rw [h0]; simp)]
  rw [hfd]
  obtain ⟨⟨e0, st1⟩, hr0⟩ : ∃ r0, r0 = writeD st 0 ⟨#[]⟩ := ⟨_, rfl⟩
  have hp1 := pendMax_write hp h.ok 0 ⟨#[]⟩
  rw [← hr0] at KW h0 hp1 ⊢
  replace h0 : e0 = 0 := h0
  subst h0
  replace hp1 : pendMax st1.S (M + 1) := hp1
  have KL := fun w' => Lib.hid (hlay_walk 1 0 0 w' (by omega) (by omega) (by omega))
  obtain ⟨t, ht⟩ : ∃ t : ByteArray, t = ⟨(headB 1 0 0).toArray⟩ := ⟨_, rfl⟩
  simp only [← ht] at KL
  rw [← ht]
  obtain ⟨r1, hr1⟩ : ∃ r1, r1 = writeD st1 1 t := ⟨_, rfl⟩
  obtain ⟨R, hR⟩ : ∃ R, R = flushJ r1 := ⟨_, rfl⟩
  rw [← hr1, ← hR]
  have HP1 := Lib.hid hp1; have HR1 := Lib.hid hr1; have HR := Lib.hid hR; have HM := Lib.hid hM
  clear h h4 hp hM hfd hr0 ht hr1 hR hp1
  go_enter Tryz.func33, Tryz.ntmps33
  go_wp2_with fail
  refine KM.out.mono ?_
  rintro r w1 ⟨rfl, rfl⟩
  go_wp2_with fail
  refine KW.out.mono ?_
  rintro r w2 ⟨rfl, F1, hd2, hs2⟩
  have HD2 := Lib.hid hd2; have HS2 := Lib.hid hs2
  clear hd2 hs2 KM KW
  go_wp2_with fail
  refine (KL w2).out.mono ?_
  rintro r w3 ⟨rfl, hb3⟩
  have hd3 := HD2.out.below hb3
  have HS3 := Lib.hid (HS2.out.trans (Stp.ofBelow F1 hb3))
  have hpr1 := pendMax_write HP1.out hd3.ok 1 t
  rw [← HR1.out] at hpr1
  have KW := Lib.hid (write_walk p F1 st1 1 t w3 hd3 (by have := HP1.out (1 : Int).toNat; have := HM.out; omega))
  rw [← HR1.out] at KW
  have HPR := Lib.hid hpr1
  clear hb3 hd3 hpr1 KL HD2 HS2
  go_wp2_with fail
  refine KW.out.mono ?_
  rintro r w4 ⟨rfl, F2, hd4, hs4⟩
  have HS4 := Lib.hid (HS3.out.trans hs4)
  have KFL := Lib.hid (jflush_walk p F2 r1.2 r1.1 w4 hd4 (fun i => by have := HPR.out i; have := HM.out; omega))
  rw [← HR.out] at KFL
  clear hd4 hs4 KW HS3
  go_wp2_with fail
  refine KFL.out.mono ?_
  rintro r w5 ⟨rfl, F3, hd5, hs5⟩
  have HF := Lib.hid (show DiskPost p F w1 (.int .i64 R.1) R.2 (.returned (.int .i64 R.1)) w5 from ⟨rfl, F3, hd5, HS4.out.trans hs5⟩)
  clear hd5 hs5 KFL
  go_wp2_with fail
  go_ret
  exact HF.out
end Go.Proofs.YtjjejkhekmpgcaaGreat
