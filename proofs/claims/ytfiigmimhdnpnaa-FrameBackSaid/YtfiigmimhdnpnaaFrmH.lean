/-
  Layer 4: the walks of FrameLays, FrameReads.
-/
import Derived.Test.YtfiigmimhdnpnaaFrmG
namespace Go.Proofs.Ytfiigmimhdnpnaa
open Go.RowKit

theorem lightB_of {l : List ByteArray} (h : lightB l = true) : (∀ s ∈ l, s.size ≤ 300) ∧ l.length ≤ 40 := by
  unfold lightB at h
  rw [Bool.and_eq_true, List.all_eq_true] at h
  exact ⟨fun s hs => of_decide_eq_true (h.1 s hs), of_decide_eq_true h.2⟩
theorem light_small {l : List ByteArray} (h : lightB l = true) : (allR l).length ≤ 12520 := by
  obtain ⟨h1, h2⟩ := lightB_of h
  have := allR_bound l 300 h1 (by omega)
  omega

set_option maxHeartbeats 1000000 in
theorem frameLays_walk (ad : Option Addr) (cap : Nat) (l : List ByteArray) (w : World) (hl : strsAt w ad l) (hs : l.length ≤ 9223372036854775807) :
    Calls Try.prog 3 #[.slice ad l.length cap] w fun r w' => r = .returned (.bool true) ∧ Below w.heap.size w w' := by
  have HL := Lib.hid hl
  have hlw := light_walk ad cap l w hl hs
  clear hl
  cases hlb : lightB l with
  | false =>
    rw [hlb] at hlw
    have HLW := Lib.hid hlw
    clear hlw hlb
    go_enter Try.func3, Try.ntmps3
    go_wp2_with fail
    refine HLW.out.mono ?_
    rintro r w1 ⟨rfl, rfl⟩
    go_wp2_with fail
    refine (awake_walk _).mono ?_
    rintro r w2 ⟨rfl, hb2⟩
    go_wp2_with fail
    go_ret
    exact ⟨rfl, hb2⟩
  | true =>
    rw [hlb] at hlw
    have HLW := Lib.hid hlw
    obtain ⟨h300, h40⟩ := lightB_of hlb
    have hsm := light_small hlb
    have hfl : flay l = (⟨(allR l).toArray⟩, 0) := by unfold flay; rw [if_pos (by omega)]
    obtain ⟨b, hb⟩ : ∃ b : ByteArray, b = ⟨(allR l).toArray⟩ := ⟨_, rfl⟩
    have hbs : b.size = (allR l).length := by rw [hb]; exact bytes_len _
    have hsz : sizeR l = b.size := by unfold sizeR; rw [if_pos (by omega), hbs]
    rw [← hb] at hfl
    have H300 := Lib.hid h300; have HSM := Lib.hid hsm; have HFL := Lib.hid hfl; have HB := Lib.hid hb; have HSZ := Lib.hid hsz
    clear hlw hlb h300 h40 hsm hfl hb hbs hsz
    go_enter Try.func3, Try.ntmps3
    go_wp2_with fail
    refine HLW.out.mono ?_
    rintro r w1 ⟨rfl, rfl⟩
    go_wp2_with fail
    refine (flay_walk ad cap l _ HL.out hs (fun s h => by have := H300.out s h; omega)).mono ?_
    rintro r w2 ⟨rfl, hb2⟩
    rw [HFL.out]
    have HB2 := Lib.hid hb2
    clear hb2 HLW
    go_wp2_with fail
    refine (awake_walk _).mono ?_
    rintro r w3 ⟨rfl, hb3⟩
    have HB3 := Lib.hid (HB2.out.trans (hb3.mono HB2.out.size))
    clear hb3 HB2
    go_wp2_with fail
    refine (rall_walk ad cap l _ (strsAt_below HL.out (Nat.le_refl _) HB3.out) hs (fun s h => by have := H300.out s h; omega) (by have := HSM.out; omega)).mono ?_
    rintro r w4 ⟨rfl, hb4⟩
    rw [← HB.out]
    have HB4 := Lib.hid (HB3.out.trans (hb4.mono HB3.out.size))
    clear hb4 HB3
    go_wp2_with fail
    refine (size_walk ad cap l _ (strsAt_below HL.out (Nat.le_refl _) HB4.out) hs (fun s h => by have := H300.out s h; omega)).mono ?_
    rintro r w5 ⟨rfl, hb5⟩
    rw [HSZ.out]
    have HB5 := Lib.hid (HB4.out.trans (hb5.mono HB4.out.size))
    clear hb5 HB4
    go_wp2_with fail
    go_ret
    exact ⟨rfl, HB5.out⟩

theorem readR_len (s : ByteArray) : (readR s).1.length ≤ s.size := by
  have := (rdAll_size (s.size + 1) s []).1
  rw [List.length_nil, Nat.zero_add] at this
  exact this
theorem readR_sizes (s : ByteArray) : ∀ x ∈ (readR s).1, x.size ≤ s.size := fun x hx => by
  rcases (rdAll_size (s.size + 1) s []).2 x hx with h | h
  · cases h
  · exact h
set_option maxHeartbeats 1000000 in
theorem frameReads_walk (s : ByteArray) (w : World) (hs : s.size ≤ 9223372036854775807) :
    Calls Try.prog 4 #[.string s] w fun r w' => r = .returned (.bool true) ∧ Below w.heap.size w w' := by
  by_cases hbig : (2000 : Int) < (s.size : Int)
  · go_enter Try.func4, Try.ntmps4
    go_wp2_with fail
    refine (awake_walk _).mono ?_
    rintro r w2 ⟨rfl, hb2⟩
    go_wp2_with fail
    go_ret
    exact ⟨rfl, hb2⟩
  · have hs2 : s.size ≤ 2000 := by omega
    have hln := readR_len s
    have f1 := fun w => ffirst_walk s w (by omega)
    have f2 := fun w => rfirst_walk s w (by omega)
    have f3 := fun w => fread_walk s w (by omega)
    have f4 := fun w => rread_walk s w (by omega)
    obtain ⟨t, n, e, hf⟩ : ∃ t n e, firstR s = (t, n, e) := ⟨_, _, _, rfl⟩
    obtain ⟨k, g, hr⟩ : ∃ k g, readR s = (k, g) := ⟨_, _, rfl⟩
    rw [hf] at f1 f2
    rw [hr] at f3 f4 hln
    have hkl : k.length ≤ 9223372036854775807 := by have : k.length ≤ s.size := hln; omega
    have F1 := Lib.hid f1; have F2 := Lib.hid f2; have F3 := Lib.hid f3; have F4 := Lib.hid f4; have HKL := Lib.hid hkl
    clear f1 f2 f3 f4 hf hr hln hs2 hkl
    go_enter Try.func4, Try.ntmps4
    go_wp2_with fail
    refine (F1.out _).mono ?_
    rintro r w1 ⟨rfl, hb1⟩
    have HB1 := Lib.hid hb1
    clear hb1 F1
    go_wp2_with fail
    refine (F2.out _).mono ?_
    rintro r w2 ⟨rfl, hb2⟩
    have HB2 := Lib.hid (HB1.out.trans (hb2.mono HB1.out.size))
    clear hb2 F2 HB1
    go_wp2_with fail
    refine (F3.out _).mono ?_
    rintro r w3 ⟨ad1, cap1, rfl, hst1, _, _, hb3⟩
    have HB3 := Lib.hid (HB2.out.trans (hb3.mono HB2.out.size)); have HST1 := Lib.hid hst1
    clear hb3 F3 HB2 hst1
    go_wp2_with fail
    refine (F4.out _).mono ?_
    rintro r w4 ⟨ad2, cap2, rfl, hst2, _, _, hb4⟩
    have HST3 := Lib.hid (strsAt_below HST1.out (Nat.le_refl _) hb4)
    have HB4 := Lib.hid (HB3.out.trans (hb4.mono HB3.out.size)); have HST2 := Lib.hid hst2
    clear hb4 F4 HB3 hst2 HST1
    go_wp2_with fail
    refine (awake_walk _).mono ?_
    rintro r w5 ⟨rfl, hb5⟩
    have kt := texts_walk ad1 ad2 cap1 cap2 k k w5 (strsAt_below HST3.out (Nat.le_refl _) hb5) (strsAt_below HST2.out (Nat.le_refl _) hb5) HKL.out
    rw [decide_eq_true (rfl : k = k)] at kt
    have KT := Lib.hid kt
    have HB5 := Lib.hid (HB4.out.trans (hb5.mono HB4.out.size))
    clear hb5 HB4 HST3 HST2 kt
    go_wp2_with fail
    refine KT.out.mono ?_
    rintro r w6 ⟨rfl, hb6⟩
    have HB6 := Lib.hid (HB5.out.trans (hb6.mono HB5.out.size))
    clear hb6 HB5 KT
    go_wp2_with fail
    go_ret
    exact ⟨rfl, HB6.out⟩
end Go.Proofs.Ytfiigmimhdnpnaa
