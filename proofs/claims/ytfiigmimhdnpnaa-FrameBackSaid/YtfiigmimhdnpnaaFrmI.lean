/-
  Layer 4: the walk of FrameBack.
-/
import Derived.Test.YtfiigmimhdnpnaaFrmH
namespace Go.Proofs.Ytfiigmimhdnpnaa
open Go.RowKit

set_option maxHeartbeats 2000000 in
theorem frameBack_walk (ad : Option Addr) (cap : Nat) (l : List ByteArray) (s : ByteArray) (w : World) (hl : strsAt w ad l) (hs : l.length ≤ 9223372036854775807) (hz : s.size ≤ 9223372036854775807) :
    Calls Try.prog 5 #[.slice ad l.length cap, .string s] w fun r w' => r = .returned (.bool true) ∧ Below w.heap.size w w' := by
  have HL := Lib.hid hl
  have hlw := light_walk ad cap l w hl hs
  clear hl
  cases hlb : lightB l with
  | false =>
    rw [hlb] at hlw
    have HLW := Lib.hid hlw
    clear hlw hlb
    go_enter Try.func5, Try.ntmps5
    go_wp2_with fail
    refine HLW.out.mono ?_
    rintro r w1 ⟨rfl, rfl⟩
    go_wp2_with fail
    refine (awake_walk _).mono ?_
    rintro r w2 ⟨rfl, hb2⟩
    go_wp2_with fail
    go_ret
    exact ⟨rfl, hb2⟩
  | true =>
    rw [hlb] at hlw
    have HLW := Lib.hid hlw
    by_cases hbig : (2000 : Int) < (s.size : Int)
    · clear hlw hlb
      go_enter Try.func5, Try.ntmps5
      go_wp2_with fail
      refine HLW.out.mono ?_
      rintro r w1 ⟨rfl, rfl⟩
      go_wp2_with fail
      refine (awake_walk _).mono ?_
      rintro r w2 ⟨rfl, hb2⟩
      go_wp2_with fail
      go_ret
      exact ⟨rfl, hb2⟩
    · obtain ⟨h300, h40⟩ := lightB_of hlb
      have hsm := light_small hlb
      have hs2 : s.size ≤ 2000 := by omega
      have hfl : flay l = (⟨(allR l).toArray⟩, 0) := by unfold flay; rw [if_pos (by omega)]
      have hrd := readR_laid l (fun x hx => by have := h300 x hx; omega)
      obtain ⟨b, hb⟩ : ∃ b : ByteArray, b = ⟨(allR l).toArray⟩ := ⟨_, rfl⟩
      have hbs : b.size ≤ 12520 := by rw [hb, bytes_len]; exact hsm
      rw [← hb] at hfl hrd
      have hone := readR_one s
      have hbad := rdAll_bad (s.size + 1) s []
      have hln := readR_len s
      have hszs := readR_sizes s
      have f3 := fun w => fread_walk s w (by omega)
      have f1 := fun w => fread_walk b w (by omega)
      rw [hrd] at f1
      obtain ⟨k, g, hr⟩ : ∃ k g, readR s = (k, g) := ⟨_, _, rfl⟩
      rw [show rdAll (s.size + 1) s [] = readR s from rfl] at hbad
      rw [hr] at hone hbad hln hszs f3
      have hone : g = 0 → s.data.toList = allR k := hone
      have hbad : g ≠ 0 → k = [] := hbad
      have hkl : k.length ≤ 2000 := by have : k.length ≤ s.size := hln; omega
      have hks : ∀ x ∈ k, x.size ≤ 2000 := fun x hx => by have : x.size ≤ s.size := hszs x hx; omega
      have H300 := Lib.hid h300; have HFL := Lib.hid hfl; have F1 := Lib.hid f1; have F3 := Lib.hid f3; have HON := Lib.hid hone; have HBAD := Lib.hid hbad; have HKL := Lib.hid hkl; have HKS := Lib.hid hks; have HS2 := Lib.hid hs2
      clear hlw hlb h300 h40 hsm hs2 hfl hrd hb hbs hone hbad hln hszs f3 f1 hr hkl hks
      go_enter Try.func5, Try.ntmps5
      go_wp2_with fail
      refine HLW.out.mono ?_
      rintro r w1 ⟨rfl, rfl⟩
      go_wp2_with fail
      refine (flay_walk ad cap l _ HL.out hs (fun s h => by have := H300.out s h; omega)).mono ?_
      rintro r w2 ⟨rfl, hb2⟩
      rw [HFL.out]
      have HB2 := Lib.hid hb2
      clear hb2 HLW
      go_wp2_with fail
      refine (F1.out _).mono ?_
      rintro r w3 ⟨ad1, cap1, rfl, hst1, _, _, hb3⟩
      have HB3 := Lib.hid (HB2.out.trans (hb3.mono HB2.out.size))
      have kt := texts_walk ad1 ad cap1 cap l l w3 hst1 (strsAt_below HL.out (Nat.le_refl _) HB3.out) hs
      rw [decide_eq_true (rfl : l = l)] at kt
      have KT := Lib.hid kt
      clear hb3 HB2 hst1 F1 kt
      go_wp2_with fail
      refine KT.out.mono ?_
      rintro r w4 ⟨rfl, hb4⟩
      have HB4 := Lib.hid (HB3.out.trans (hb4.mono HB3.out.size))
      clear hb4 KT HB3
      go_wp2_with fail
      refine (F3.out _).mono ?_
      rintro r w5 ⟨ad2, cap2, rfl, hst2, _, _, hb5⟩
      have HB5 := Lib.hid (HB4.out.trans (hb5.mono HB4.out.size)); have HST2 := Lib.hid hst2
      clear hb5 HB4 hst2 F3
      by_cases hg : g = 0
      · have hda := HON.out hg
        have hfl2 : flay k = (s, 0) := by
          unfold flay
          rw [← hda, if_pos (by rw [list_of_size]; have := HS2.out; omega), data_of]
        subst hg
        have HFL2 := Lib.hid hfl2
        clear hda hfl2
        go_wp2_with fail
        refine (flay_walk ad2 cap2 k _ HST2.out (by have := HKL.out; omega) (fun x hx => by have := HKS.out x hx; omega)).mono ?_
        rintro r w6 ⟨rfl, hb6⟩
        rw [HFL2.out]
        have HB6 := Lib.hid (HB5.out.trans (hb6.mono HB5.out.size))
        clear hb6 HB5 HST2
        go_wp2_with fail
        refine (awake_walk _).mono ?_
        rintro r w7 ⟨rfl, hb7⟩
        have HB7 := Lib.hid (HB6.out.trans (hb7.mono HB6.out.size))
        clear hb7 HB6
        go_wp2_with fail
        go_ret
        exact ⟨rfl, HB7.out⟩
      · obtain rfl := HBAD.out hg
        clear HST2 HKL HKS HON HBAD
        go_wp2_with fail
        refine (awake_walk _).mono ?_
        rintro r w7 ⟨rfl, hb7⟩
        have HB7 := Lib.hid (HB5.out.trans (hb7.mono HB5.out.size))
        clear hb7 HB5
        go_wp2_with fail
        go_ret
        exact ⟨rfl, HB7.out⟩
end Go.Proofs.Ytfiigmimhdnpnaa
