/-
  Layer 4: the reference's One, All; light; what must come at any rate.
-/
import Derived.Test.YtfiigmimhdnpnaaFrmF
import Derived.Test.YtfiigmimhdnpnaaLebP
import Derived.Test.YtfiigmimhdnpnaaTexts
namespace Go.Proofs.Ytfiigmimhdnpnaa
open Go.RowKit

theorem str_add3 (l m : List UInt8) (s : ByteArray) : ((⟨l.toArray⟩ : ByteArray) ++ s) ++ ⟨m.toArray⟩ = ⟨(l ++ (s.data.toList ++ m)).toArray⟩ := by
  apply ByteArray.ext
  apply Array.ext'
  rw [ByteArray.data_append, ByteArray.data_append]
  simp

set_option maxHeartbeats 400000 in
theorem rone_walk (s : ByteArray) (w : World) (hs : s.size ≤ 131072) :
    Calls Try.prog 22 #[.string s] w fun r w' => r = .returned (.string ⟨(oneR s).toArray⟩) ∧ Below w.heap.size w w' := by
  go_enter Try.func22, Try.ntmps22
  go_wp2_with fail
  refine (rtext_walk s _ hs).mono ?_
  rintro r w1 ⟨rfl, hb1⟩
  obtain ⟨t, ht⟩ : ∃ t : ByteArray, t = ⟨(lebN s.size).toArray⟩ ++ s := ⟨_, rfl⟩
  have hts : t.size = (lebN s.size).length + s.size := by rw [ht, ByteArray.size_append, bytes_len]
  have h9 := lebN_nine s.size (by omega)
  have hsz : t.size ≤ 9223372036854775803 := by omega
  rw [← ht]
  have HT := Lib.hid ht; have HB := Lib.hid hb1; have HSZ := Lib.hid hsz
  clear ht hb1 hts h9 hsz
  go_wp2_with fail
  refine (refFour_walk s _ (by omega)).mono ?_
  rintro r w2 ⟨rfl, hb2⟩
  obtain ⟨f, hf⟩ : ∃ f : ByteArray, f = ⟨(fourOf (crcSum s.data.toList)).toArray⟩ := ⟨_, rfl⟩
  have hfs : f.size = 4 := by rw [hf]; exact bytes_len _
  have hsum : t.size + f.size ≤ 9223372036854775807 := by have := HSZ.out; omega
  rw [← hf]
  have HF := Lib.hid hf; have HB2 := Lib.hid (HB.out.trans (hb2.mono HB.out.size))
  clear hf hfs hb2 hs
  go_wp2_with fail
  go_ret
  rw [HT.out, HF.out]
  exact ⟨ret_string (str_add3 _ _ _), HB2.out⟩

theorem allR_bound : ∀ (l : List ByteArray) (B : Nat), (∀ s ∈ l, s.size ≤ B) → B ≤ 9223372036854775807 → (allR l).length ≤ l.length * (B + 13)
  | [], B, _, _ => by simp [allR]
  | s :: l, B, h, hB => by
    have h1 := h s (by simp)
    have h2 := allR_bound l B (fun t ht => h t (by simp [ht])) hB
    have h9 := lebN_nine s.size (by omega)
    rw [allR_cons, List.length_append, oneR_length, List.length_cons, Nat.add_mul, Nat.one_mul]
    omega
set_option maxHeartbeats 1000000 in
theorem rall_walk (ad : Option Addr) (cap : Nat) (l : List ByteArray) (w : World) (hl : strsAt w ad l) (hs : l.length ≤ 9223372036854775807) (hz : ∀ s ∈ l, s.size ≤ 131072) (ht : (allR l).length ≤ 9223372036854775807) :
    Calls Try.prog 10 #[.slice ad l.length cap] w fun r w' => r = .returned (.string ⟨(allR l).toArray⟩) ∧ Below w.heap.size w w' := by
  have HL := Lib.hid hl; have HZ := Lib.hid hz; have HT := Lib.hid ht
  clear hl hz ht
  go_enter Try.func10, Try.ntmps10
  go_wp2_with fail
  go_loopg [3, 4] l.length (fun gk vo i wr => ∃ k : Nat, k + gk = l.length ∧ i = .int .i64 k ∧ vo = .string ⟨(allR (l.take k)).toArray⟩ ∧ Below w.heap.size w wr)
  case atStart => exact ⟨0, by omega, rfl, rfl, Below.refl _ _⟩
  case round =>
    obtain ⟨k, hgk, rfl, rfl, hb⟩ := hrel
    obtain ⟨o, ho⟩ : ∃ o : ByteArray, o = ⟨(allR (l.take k)).toArray⟩ := ⟨_, rfl⟩
    have hos : o.size = (allR (l.take k)).length := by rw [ho]; exact bytes_len _
    rw [← ho]
    have HO := Lib.hid ho; have HOS := Lib.hid hos; have HB := Lib.hid hb
    clear ho hos
    by_cases hlt : k < l.length
    · rcases strsAt_below HL.out (Nat.le_refl _) hb with hat | ⟨bl, off, rfl, hbl, hcs⟩
      · simp [hat] at hlt
      have hc := hcs k hlt
      have htk := allR_take hlt
      have hmx := allR_le l (k + 1)
      have hzk := HZ.out l[k] (List.getElem_mem hlt)
      obtain ⟨s, hsk⟩ : ∃ s, s = l[k] := ⟨_, rfl⟩
      rw [← hsk] at hc htk hzk
      rw [htk, List.length_append] at hmx
      have HTK := Lib.hid htk; have HMX := Lib.hid hmx; have HZK := Lib.hid hzk
      clear hcs hsk htk hmx hzk hb
      go_wp2_with fail
      refine (rone_walk s _ HZK.out).mono ?_
      rintro r w1 ⟨rfl, hb1⟩
      obtain ⟨t, ht⟩ : ∃ t : ByteArray, t = ⟨(oneR s).toArray⟩ := ⟨_, rfl⟩
      have hts : t.size = (oneR s).length := by rw [ht]; exact bytes_len _
      have hsum : o.size + t.size ≤ 9223372036854775807 := by have h1 := HOS.out; have h2 := HMX.out; have h3 := HT.out; omega
      rw [← ht]
      have HTT := Lib.hid ht; have HB1 := Lib.hid (HB.out.trans (hb1.mono HB.out.size))
      clear ht hts hb1
      go_wp2_with fail
      go_roundg (gk - 1)
      case measure => omega
      case rel => exact ⟨k + 1, by omega, by go_num, by rw [HO.out, HTT.out, HTK.out]; exact congrArg Value.string (str_add _ _), HB1.out⟩
    · obtain rfl : k = l.length := by omega
      rw [List.take_length] at HO
      clear hb HOS
      go_wp2_with fail
      go_ret
      rw [HO.out]
      exact ⟨rfl, HB.out⟩

/-- records that are not far too long -/
def lightB (l : List ByteArray) : Bool := l.all (fun s => decide (s.size ≤ 300)) && decide (l.length ≤ 40)
set_option maxHeartbeats 400000 in
theorem light_walk (ad : Option Addr) (cap : Nat) (l : List ByteArray) (w : World) (hl : strsAt w ad l) (hs : l.length ≤ 9223372036854775807) :
    Calls Try.prog 7 #[.slice ad l.length cap] w fun r w' => r = .returned (.bool (lightB l)) ∧ w' = w := by
  have HL := Lib.hid hl
  clear hl
  go_enter Try.func7, Try.ntmps7
  go_wp2_with fail
  go_loopg [3] l.length (fun gk i wr => ∃ k : Nat, k + gk = l.length ∧ i = .int .i64 k ∧ (l.take k).all (fun s => decide (s.size ≤ 300)) = true ∧ wr = w)
  case atStart => exact ⟨0, by omega, rfl, rfl, rfl⟩
  case round =>
    obtain ⟨k, hgk, rfl, hall, rfl⟩ := hrel
    have HALL := Lib.hid hall
    clear hall
    by_cases hlt : k < l.length
    · rcases HL.out with hat | ⟨bl, off, rfl, hbl, hcs⟩
      · simp [hat] at hlt
      have hc := hcs k hlt
      have htk := List.take_succ_eq_append_getElem hlt
      have hmem := List.getElem_mem hlt
      obtain ⟨s, hsk⟩ : ∃ s, s = l[k] := ⟨_, rfl⟩
      rw [← hsk] at hc htk hmem
      have HTK := Lib.hid htk; have HM := Lib.hid hmem
      clear hcs hsk htk hmem
      by_cases hbig : (300 : Int) < (s.size : Int)
      · have HB := Lib.hid hbig
        go_wp2_with fail
        go_ret
        refine ⟨ret_bool ?_, rfl⟩
        unfold lightB
        have : l.all (fun s => decide (s.size ≤ 300)) = false := by
          rw [List.all_eq_false]
          exact ⟨s, HM.out, by have := HB.out; simp; omega⟩
        rw [this]; rfl
      · have HB := Lib.hid hbig
        go_wp2_with fail
        go_roundg (gk - 1)
        case measure => omega
        case rel => exact ⟨k + 1, by omega, by go_num, by rw [HTK.out, List.all_append, HALL.out]; have := HB.out; simp; omega, rfl⟩
    · obtain rfl : k = l.length := by omega
      rw [List.take_length] at HALL
      go_wp2_with fail
      go_ret
      refine ⟨ret_bool ?_, rfl⟩
      unfold lightB
      rw [HALL.out]
      simp only [Bool.true_and, decide_eq_decide]
      omega

theorem ab_size : (allR [⟨#[97, 98]⟩, ⟨#[]⟩]).length = 12 := by
  have h1 := oneR_length ⟨#[97, 98]⟩
  have h2 := oneR_length ⟨#[]⟩
  rw [show (⟨#[97, 98]⟩ : ByteArray).size = 2 from rfl, lebN_small (by omega)] at h1
  rw [show (⟨#[]⟩ : ByteArray).size = 0 from rfl, lebN_small (by omega)] at h2
  rw [allR_cons, allR_cons, List.length_append, List.length_append, h1, h2]
  rfl
theorem ab_at (w : World) (t : TypeId) : strsAt (w.alloc (.cells #[.string ⟨#[97, 98]⟩, .string ⟨#[]⟩] t)) (some ⟨w.heap.size, 0, none⟩) [⟨#[97, 98]⟩, ⟨#[]⟩] := by
  refine .inr ⟨w.heap.size, 0, rfl, by simp, fun i hi => ?_⟩
  rw [cell_of_row _ w.heap.size (0 + i) _ _ _ (heap_alloc_top w _)]
  match i, hi with
  | 0, _ => rfl
  | 1, _ => rfl
  | i + 2, hi => exact absurd hi (by simp)
set_option maxHeartbeats 1000000 in
theorem awake_walk (w : World) : Calls Try.prog 8 #[] w fun r w' => r = .returned (.bool true) ∧ Below w.heap.size w w' := by
  have hz : ∀ s ∈ ([⟨#[97, 98]⟩, ⟨#[]⟩] : List ByteArray), s.size ≤ 9223372036854775807 := by
    intro s hs
    simp only [List.mem_cons, List.not_mem_nil, or_false] at hs
    rcases hs with rfl | rfl
    · show 2 ≤ _; omega
    · show 0 ≤ _; omega
  have hfl : flay [⟨#[97, 98]⟩, ⟨#[]⟩] = (⟨(allR [⟨#[97, 98]⟩, ⟨#[]⟩]).toArray⟩, 0) := by unfold flay; rw [if_pos (by rw [ab_size]; omega)]
  have hsz : sizeR [⟨#[97, 98]⟩, ⟨#[]⟩] = 12 := by unfold sizeR; rw [ab_size]; rfl
  have hrd := readR_laid [⟨#[97, 98]⟩, ⟨#[]⟩] hz
  obtain ⟨b, hbb⟩ : ∃ b : ByteArray, b = ⟨(allR [⟨#[97, 98]⟩, ⟨#[]⟩]).toArray⟩ := ⟨_, rfl⟩
  have hbs : b.size = 12 := by rw [hbb, bytes_len, ab_size]
  rw [← hbb] at hfl hrd
  have HZ := Lib.hid hz; have HFL := Lib.hid hfl; have HSZ := Lib.hid hsz; have HRD := Lib.hid hrd; have HBS := Lib.hid hbs
  clear hz hfl hsz hrd hbb hbs
  go_enter Try.func8, Try.ntmps8
  go_wp2_with fail
  refine (flay_walk _ 2 [⟨#[97, 98]⟩, ⟨#[]⟩] _ (ab_at w _) (by simp) HZ.out).mono ?_
  rintro r w1 ⟨rfl, hb1⟩
  rw [HFL.out]
  have HB1 := Lib.hid (((Below.refl w.heap.size w).alloc (Nat.le_refl _) (.cells #[.string ⟨#[97, 98]⟩, .string ⟨#[]⟩] 9)).trans (hb1.mono (by simp)))
  clear hb1
  go_wp2_with fail
  refine (fread_walk b _ (by rw [HBS.out]; omega)).mono ?_
  rintro r w2 ⟨adr, capr, rfl, hst, hc1, hc2, hb2⟩
  rw [HRD.out] at hst hc1 ⊢
  have HST := Lib.hid hst; have HB2 := Lib.hid (HB1.out.trans (hb2.mono HB1.out.size))
  have hbs := HBS.out
  clear hst hb2 HB1 hc1 hc2
  go_wp2_with fail
  refine (texts_walk adr (some ⟨w2.heap.size, 0, none⟩) capr 2 [⟨#[97, 98]⟩, ⟨#[]⟩] [⟨#[97, 98]⟩, ⟨#[]⟩] _ (strsAt_below HST.out (Nat.le_refl _) ((Below.refl _ _).alloc (Nat.le_refl _) _)) (ab_at w2 _) (by simp)).mono ?_
  rintro r w3 ⟨rfl, hb3⟩
  rw [decide_eq_true (rfl : ([⟨#[97, 98]⟩, ⟨#[]⟩] : List ByteArray) = [⟨#[97, 98]⟩, ⟨#[]⟩])]
  have HB3 := Lib.hid ((HB2.out.alloc HB2.out.size (.cells #[.string ⟨#[97, 98]⟩, .string ⟨#[]⟩] 9)).trans (hb3.mono (by have := HB2.out.size; simp; omega)))
  clear hb3 HB2 HST
  go_wp2_with fail
  refine (size_walk (some ⟨w3.heap.size, 0, none⟩) 2 [⟨#[97, 98]⟩, ⟨#[]⟩] _ (ab_at w3 _) (by simp) HZ.out).mono ?_
  rintro r w4 ⟨rfl, hb4⟩
  rw [HSZ.out]
  have HB4 := Lib.hid ((HB3.out.alloc HB3.out.size (.cells #[.string ⟨#[97, 98]⟩, .string ⟨#[]⟩] 9)).trans (hb4.mono (by have := HB3.out.size; simp; omega)))
  clear hb4 HB3
  go_wp2_with fail
  go_ret
  exact ⟨rfl, HB4.out⟩
end Go.Proofs.Ytfiigmimhdnpnaa
