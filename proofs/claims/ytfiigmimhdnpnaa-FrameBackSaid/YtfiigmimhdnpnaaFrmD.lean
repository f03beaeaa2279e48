/-
  Layer 4: First; the reference's First.
-/
import Derived.Test.YtfiigmimhdnpnaaFrmB
import Derived.Test.YtfiigmimhdnpnaaLebI
namespace Go.Proofs.Ytfiigmimhdnpnaa
open Go.RowKit

/-- what First answers: a record, in how many bytes, an error -/
def firstR (s : ByteArray) : ByteArray × Nat × Int :=
  if (txtR s 0).2.2 ≠ 0 then (⟨#[]⟩, 0, (txtR s 0).2.2)
  else if crcCheck (txtR s 0).1 ((txtR s 0).2.1.extract 0 (min 4 (txtR s 0).2.1.size)) ≠ 0 then (⟨#[]⟩, 0, crcCheck (txtR s 0).1 ((txtR s 0).2.1.extract 0 (min 4 (txtR s 0).2.1.size)))
  else ((txtR s 0).1, s.size - (txtR s 0).2.1.size + 4, 0)
theorem txt_size (s : ByteArray) (h : (txtR s 0).2.2 = 0) : (txtR s 0).1.size + (txtR s 0).2.1.size ≤ s.size ∧ (txtR s 0).2.1 = s.extract (s.size - (txtR s 0).2.1.size) s.size := by
  obtain ⟨j, hj, e⟩ := txt_left s h
  have hsz := ex_size s j hj
  have h2 : (txtR s 0).2.1.size = s.size - j := by rw [e]; exact hsz
  refine ⟨?_, by rw [h2, show s.size - (s.size - j) = j by omega]; exact e⟩
  have hn : (numR s 0).2.2 = 0 := by
    unfold txtR takeR at h
    by_cases h0 : (numR s 0).2.2 = 0
    · exact h0
    · rw [if_pos h0] at h; exact h
  obtain ⟨i, hi, e2⟩ := num_left s hn
  have hs1 : (numR s 0).2.1.size = s.size - i := by rw [e2]; exact ex_size s i hi
  unfold txtR takeR at h ⊢
  rw [if_neg (by rw [hn]; simp)] at h ⊢
  by_cases hlt : (numR s 0).2.1.size < (numR s 0).1
  · rw [if_pos hlt] at h; simp at h
  · rw [if_neg hlt]
    simp only [ByteArray.size_extract]
    omega

set_option maxHeartbeats 1000000 in
theorem ffirst_walk (s : ByteArray) (w : World) (hs : s.size ≤ 9223372036854775803) :
    Calls Try.prog 12 #[.string s] w fun r w' => r = .returned (.tuple #[.string (firstR s).1, .int .i64 (firstR s).2.1, .int .i64 (firstR s).2.2]) ∧ Below w.heap.size w w' := by
  have hx := txt_size s
  obtain ⟨f, hf⟩ : ∃ f, f = firstR s := ⟨_, rfl⟩
  have hf2 := hf
  unfold firstR at hf2
  rw [← hf]
  have htw := fun p w h => txt_walk p s 0 w h
  obtain ⟨t, s1, e1, hn⟩ : ∃ t s1 e1, txtR s 0 = (t, s1, e1) := ⟨_, _, _, rfl⟩
  rw [hn] at hx hf2
  have HN := Lib.hid hn; have HX := Lib.hid hx; have HF := Lib.hid hf2; have HTW := Lib.hid htw
  clear hn hx hf hf2 htw
  go_enter Try.func12, Try.ntmps12
  go_wp2_with fail
  refine (over_walk s _).mono ?_
  rintro r w1 ⟨rfl, hb1, h1⟩
  obtain ⟨p, hp⟩ : ∃ p, p = w.heap.size := ⟨_, rfl⟩
  rw [← hp] at h1 ⊢
  have HP := Lib.hid hp; have HB1 := Lib.hid hb1; have H1 := Lib.hid h1
  clear hp hb1 h1
  go_wp2_with fail
  refine (HTW.out p _ H1.out).mono ?_
  rw [HN.out]
  rintro r w2 ⟨rfl, hg2, h2⟩
  have HB2 := Lib.hid (below_of_grown HB1.out hg2 HB1.out.size (fun k hk => by have := HP.out; cases hk; omega))
  have H2 := Lib.hid h2
  clear hg2 h2 HB1 H1 HTW
  go_wp2_with fail
  refine (err_walk p s1 e1 _ H2.out).mono ?_
  rintro r w3 ⟨rfl, rfl⟩
  by_cases he : e1 = 0
  · subst he
    obtain ⟨hsz, hex⟩ : t.size + s1.size ≤ s.size ∧ s1 = s.extract (s.size - s1.size) s.size := HX.out rfl
    have hf : f = if crcCheck t (s1.extract 0 (min 4 s1.size)) ≠ 0 then (⟨#[]⟩, 0, crcCheck t (s1.extract 0 (min 4 s1.size))) else (t, s.size - s1.size + 4, 0) := by
      rw [HF.out, if_neg (by simp)]
    have HF2 := Lib.hid hf; have HEX := Lib.hid hex; have HSZ := Lib.hid hsz
    clear hf hex hsz HX HF
    obtain ⟨n, hn⟩ : ∃ n, n = s1.size := ⟨_, rfl⟩
    have hl := left_walk p s1 0 w3 H2.out
    rw [show leftN s1 0 = n by unfold leftN; rw [if_pos rfl, hn]] at hl
    have hns : n ≤ s.size := by have := HSZ.out; omega
    have hwn : wrap64 ((s.size : Int) - (n : Int)) = ((s.size - n : Nat) : Int) := by rw [IntWalk.wrap64_in _ ⟨by omega, by omega⟩]; omega
    obtain ⟨m, hm⟩ : ∃ m, m = s.size - n := ⟨_, rfl⟩
    rw [← hm] at hwn
    have hms : m ≤ s.size := by omega
    have hsi : (s.size : Int) - (n : Int) = (m : Int) := by omega
    have hmm : m + n = s.size := by omega
    have HLW := Lib.hid hl; have HWN := Lib.hid hwn; have HM := Lib.hid hm; have HNN := Lib.hid hn; have HSI := Lib.hid hsi; have HMM := Lib.hid hmm
    clear hl hwn hm hn hsi hmm
    go_wp2_with fail
    refine HLW.out.mono ?_
    rintro r w4 ⟨rfl, rfl⟩
    go_upto_region 7 with fail
    rw [HSI.out]
    clear hns
    go_upto_region 8 with fail
    have hex : s.extract m s.size = s1 := by rw [HM.out, HNN.out]; exact HEX.out.symm
    rw [hex]
    obtain ⟨u, hu⟩ : ∃ u, u = s1.extract 0 (min 4 s1.size) := ⟨_, rfl⟩
    rw [← hu] at HF2
    have hcw := check_walk t u w4 (by have := HSZ.out; omega)
    have HU := Lib.hid hu; have HCW := Lib.hid hcw
    have hsz1 : s1.size = n := HNN.out.symm
    have hn9 : (n : Int) ≤ 9223372036854775807 := by have := HSZ.out; omega
    have hm9 : (m : Int) ≤ 9223372036854775803 := by omega
    clear hex hu hcw hs hms
    by_cases h4 : (4 : Int) ≤ (n : Int)
    · have hu4 : s1.extract 0 4 = u := by rw [HU.out, hsz1, show min 4 n = 4 by omega]
      have hm4 : min (4 : Int) (n : Int) = 4 := by omega
      go_wp2_with fail
      refine HCW.out.mono ?_
      rintro r w5 ⟨rfl, hb5⟩
      obtain ⟨c, hcc⟩ : ∃ c, c = crcCheck t u := ⟨_, rfl⟩
      rw [← hcc] at HF2 ⊢
      have HB5 := Lib.hid (HB2.out.trans (hb5.mono HB2.out.size))
      clear hcc hb5 HU HCW hu4
      by_cases hc : c = 0
      · have hf : f = (t, s.size - s1.size + 4, 0) := by rw [HF2.out, if_neg (by rw [hc]; simp)]
        subst hc
        have HFF := Lib.hid hf
        clear hf
        go_wp2_with fail
        go_ret3
        rw [HFF.out, HNN.out.symm, HM.out.symm]
        exact ⟨by go_num, HB5.out⟩
      · have hf : f = (⟨#[]⟩, 0, c) := by rw [HF2.out, if_pos hc]
        have HFF := Lib.hid hf
        clear hf
        go_wp2_with fail
        go_ret3
        rw [HFF.out]
        exact ⟨rfl, HB5.out⟩
    · have hu4 : s1.extract 0 n = u := by rw [HU.out, hsz1, show min 4 n = n by omega]
      have hm4 : min (4 : Int) (n : Int) = (n : Int) := by omega
      go_wp2_with fail
      refine HCW.out.mono ?_
      rintro r w5 ⟨rfl, hb5⟩
      obtain ⟨c, hcc⟩ : ∃ c, c = crcCheck t u := ⟨_, rfl⟩
      rw [← hcc] at HF2 ⊢
      have HB5 := Lib.hid (HB2.out.trans (hb5.mono HB2.out.size))
      clear hcc hb5 HU HCW hu4
      by_cases hc : c = 0
      · have hf : f = (t, s.size - s1.size + 4, 0) := by rw [HF2.out, if_neg (by rw [hc]; simp)]
        subst hc
        have HFF := Lib.hid hf
        clear hf
        go_wp2_with fail
        go_ret3
        rw [HFF.out, HNN.out.symm, HM.out.symm]
        exact ⟨by go_num, HB5.out⟩
      · have hf : f = (⟨#[]⟩, 0, c) := by rw [HF2.out, if_pos hc]
        have HFF := Lib.hid hf
        clear hf
        go_wp2_with fail
        go_ret3
        rw [HFF.out]
        exact ⟨rfl, HB5.out⟩
  · have hf : f = (⟨#[]⟩, 0, e1) := by rw [HF.out, if_pos he]
    subst hf
    go_wp2_with fail
    go_ret3
    exact ⟨rfl, HB2.out⟩

/-- the reference's First -/
theorem four_ext (s1 : ByteArray) (h : 4 ≤ s1.size) : s1.extract 0 (min 4 s1.size) = s1.extract 0 4 := by rw [show min 4 s1.size = 4 by omega]
set_option maxHeartbeats 1000000 in
theorem rfirst_walk (s : ByteArray) (w : World) (hs : s.size ≤ 1000000) :
    Calls Try.prog 13 #[.string s] w fun r w' => r = .returned (.tuple #[.string (firstR s).1, .int .i64 (firstR s).2.1, .int .i64 (firstR s).2.2]) ∧ Below w.heap.size w w' := by
  have hx := txt_size s
  obtain ⟨f, hf⟩ : ∃ f, f = firstR s := ⟨_, rfl⟩
  have hf2 := hf
  unfold firstR at hf2
  rw [← hf]
  have hsec := second_walk s w (by omega)
  obtain ⟨t, s1, e1, hn⟩ : ∃ t s1 e1, txtR s 0 = (t, s1, e1) := ⟨_, _, _, rfl⟩
  rw [hn] at hx hf2 hsec
  have HX := Lib.hid hx; have HF := Lib.hid hf2
  have hsi : (s.size : Int) ≤ 1000000 := by omega
  have HS := Lib.hid hs
  clear hn hx hf hf2
  by_cases he : e1 = 0
  · subst he
    obtain ⟨hsz, hex⟩ : t.size + s1.size ≤ s.size ∧ s1 = s.extract (s.size - s1.size) s.size := HX.out rfl
    have hf : f = if crcCheck t (s1.extract 0 (min 4 s1.size)) ≠ 0 then (⟨#[]⟩, 0, crcCheck t (s1.extract 0 (min 4 s1.size))) else (t, s.size - s1.size + 4, 0) := by
      rw [HF.out, if_neg (by simp)]
    obtain ⟨n, hn⟩ : ∃ n, n = s1.size := ⟨_, rfl⟩
    obtain ⟨m, hm⟩ : ∃ m, m = s.size - n := ⟨_, rfl⟩
    rw [show readN s s1 0 = m by unfold readN; rw [if_pos rfl, ← hn, hm]] at hsec
    have hms : m ≤ s.size := by omega
    have hmn : m + n = s.size := by omega
    have hts : t.size ≤ 1000000 := by omega
    have HSEC := Lib.hid hsec; have HF2 := Lib.hid hf; have HEX := Lib.hid hex; have HM := Lib.hid hm; have HN := Lib.hid hn; have HMN := Lib.hid hmn; have HTS := Lib.hid hts; have HMS := Lib.hid hms
    clear hsec hf hex hsz hm hn hmn hts HX HF hs
    go_enter Try.func13, Try.ntmps13
    go_wp2_with fail
    refine HSEC.out.mono ?_
    rintro r w1 ⟨rfl, rfl⟩
    by_cases h4 : (s.size : Int) - (m : Int) < 4
    · have hf : f = (⟨#[]⟩, 0, 5) := by
        rw [HF2.out]
        have hne : crcCheck t (s1.extract 0 (min 4 s1.size)) = 5 := by
          unfold crcCheck
          rw [if_pos (by rw [ByteArray.size_extract]; have := HN.out; have := HMN.out; omega)]
        rw [hne, if_pos (by simp)]
      have HFF := Lib.hid hf
      clear hf
      go_wp2_with fail
      go_ret3
      rw [HFF.out]
      exact ⟨rfl, Below.refl _ _⟩
    · have hn4 : 4 ≤ s1.size := by have := HN.out; have := HMN.out; omega
      obtain ⟨u, hu⟩ : ∃ u, u = s.extract m (m + 4) := ⟨_, rfl⟩
      have hu2 : s1.extract 0 (min 4 s1.size) = u := by
        have h2 : s.size - s1.size = m := by rw [← HN.out, HM.out]
        have hex := HEX.out
        rw [h2] at hex
        rw [four_ext s1 hn4, hu, hex, ByteArray.extract_extract, Nat.add_zero, show min (m + 4) s.size = m + 4 by have := HMN.out; have := HN.out; omega]
      rw [hu2] at HF2
      have hus : u.size = 4 := by rw [hu, ByteArray.size_extract]; have := HMN.out; have := HN.out; omega
      have hm4 : m + 4 ≤ s.size := by have := HMN.out; have := HN.out; omega
      have hm4i : (m : Int) + 4 ≤ (s.size : Int) := by omega
      have hmi : (0 : Int) ≤ (m : Int) := by omega
      have hw4 : IntKind.i64.wrap ((m : Int) + 4) = (m : Int) + 4 := IntWalk.i64_in _ (by omega)
      have hck : crcCheck t u = if u.toList = fourOf (crcSum t.data.toList) then 0 else 7 := by
        simp only [crcCheck, hus, bytes_eq]; rfl
      have HU := Lib.hid hu; have HCK := Lib.hid hck; have HUS := Lib.hid hus
      clear hu hu2 hck hn4 hus
      go_upto_region 6 with fail
      refine wp_region_sub (W := w1) (B := w1.heap.size) (by kernel_rfl) (by kernel_rfl) (Below.refl _ _) ?_
      repeat (any_goals (first
        | go_big_quiet_skip
        | go_big_quiet_step ((go_at_call 30; exact calls_sub _ (refFour_walk t _ HTS.out) (Nat.le_refl _)))
        | quiet_step ((go_at_call 30; exact calls_sub _ (refFour_walk t _ HTS.out) (Nat.le_refl _)))))
      refine wpQuiet_nil ?_
      rintro w9 ⟨x9, rfl⟩
      rw [← HU.out]
      have hb9 := x9.below
      have HR := Lib.hid hb9
      have HF3 := HF2.out
      rw [HCK.out] at HF3
      have HF4 := Lib.hid HF3
      clear hb9 HF3 HF2 HU HEX HCK
      by_cases he : u.toList = fourOf (crcSum t.data.toList)
      · have he1 : (!u.toList == fourOf (crcSum t.data.toList)) = false := by simp [he]
        have hf : f = (t, s.size - s1.size + 4, 0) := by rw [HF4.out, if_pos he, if_neg (by simp)]
        have HFF := Lib.hid hf
        rw [he1]
        clear hf HF4 he he1
        go_wp2_with fail
        go_ret3
        rw [HFF.out, HN.out.symm, HM.out.symm]
        exact ⟨by go_num, HR.out⟩
      · have he1 : (!u.toList == fourOf (crcSum t.data.toList)) = true := by simp [he]
        have hf : f = (⟨#[]⟩, 0, 7) := by rw [HF4.out, if_neg he, if_pos (by simp)]
        have HFF := Lib.hid hf
        rw [he1]
        clear hf HF4 he he1
        go_wp2_with fail
        go_ret3
        rw [HFF.out]
        exact ⟨rfl, HR.out⟩
  · have hf : f = (⟨#[]⟩, 0, e1) := by rw [HF.out, if_pos he]
    rw [show readN s s1 e1 = 0 by unfold readN; rw [if_neg he]] at hsec
    have HSEC := Lib.hid hsec; have HFF := Lib.hid hf
    clear hsec hf HF HX
    go_enter Try.func13, Try.ntmps13
    go_wp2_with fail
    refine HSEC.out.mono ?_
    rintro r w1 ⟨rfl, rfl⟩
    go_wp2_with fail
    go_ret3
    rw [HFF.out]
    exact ⟨rfl, Below.refl _ _⟩
end Go.Proofs.Ytfiigmimhdnpnaa
