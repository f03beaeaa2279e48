/-
  Layer 4: a record's bytes; Size, Lay.
-/
import Derived.Test.YtfiigmimhdnpnaaLebL
import Derived.Test.YtfiigmimhdnpnaaRef4
import Derived.Test.YtfiigmimhdnpnaaStrs
import Derived.Test.YtfiigmimhdnpnaaPlain
namespace Go.Proofs.Ytfiigmimhdnpnaa
open Go.RowKit

/-- a record's bytes -/
def oneR (s : ByteArray) : List UInt8 := lebN s.size ++ (s.data.toList ++ fourOf (crcSum s.data.toList))
/-- records' bytes -/
def allR (l : List ByteArray) : List UInt8 := l.flatMap oneR
theorem oneR_length (s : ByteArray) : (oneR s).length = (lebN s.size).length + s.size + 4 := by
  have hs : s.data.toList.length = s.size := by simp
  unfold oneR
  rw [List.length_append, List.length_append, fourOf_length, hs]
  omega
theorem allR_snoc (l : List ByteArray) (s : ByteArray) : allR (l ++ [s]) = allR l ++ oneR s := by simp [allR]
theorem allR_cons (s : ByteArray) (l : List ByteArray) : allR (s :: l) = oneR s ++ allR l := by simp [allR]
theorem allR_take {l : List ByteArray} {k : Nat} (h : k < l.length) : allR (l.take (k + 1)) = allR (l.take k) ++ oneR l[k] := by
  rw [List.take_succ_eq_append_getElem h, allR_snoc]
theorem allR_le (l : List ByteArray) (k : Nat) : (allR (l.take k)).length ≤ (allR l).length := by
  have : allR l = allR (l.take k) ++ allR (l.drop k) := by unfold allR; rw [← List.flatMap_append, List.take_append_drop]
  rw [this, List.length_append]
  omega
/-- what Size answers -/
def sizeR (l : List ByteArray) : Nat := if (allR l).length ≤ 65536 then (allR l).length else 65537
theorem lay_num (n : Nat) (hn : n ≤ 9223372036854775807) : lay [((n : Int), ⟨#[]⟩, false)] = (⟨(lebN n).toArray⟩, 0) := by
  have hb : [((n : Int), (⟨#[]⟩ : ByteArray), false)].any badF = false := by simp [badF]
  have h9 := lebN_nine n hn
  have hl : layB [((n : Int), ⟨#[]⟩, false)] = lebN n := by simp [layB, putF]
  unfold lay
  rw [if_neg (by rw [hb]; simp), hl, if_neg (by omega)]
theorem lay_txt (s : ByteArray) (hn : (lebN s.size).length + s.size ≤ 65536) : lay [(0, s, true)] = (⟨(lebN s.size ++ s.data.toList).toArray⟩, 0) := by
  have hs : s.data.toList.length = s.size := by simp
  have hb : [((0 : Int), s, true)].any badF = false := by simp [badF]
  have hl : layB [(0, s, true)] = lebN s.size ++ s.data.toList := by
    simp only [layB, putF, List.foldl_cons, List.foldl_nil, List.length_nil]
    rw [if_neg (by omega), if_pos trivial, List.nil_append, List.take_of_length_le (by omega)]
  unfold lay
  rw [if_neg (by rw [hb]; simp), hl, if_neg (by rw [List.length_append, hs]; omega)]

set_option maxHeartbeats 1000000 in
theorem size_walk (ad : Option Addr) (cap : Nat) (l : List ByteArray) (w : World) (hl : strsAt w ad l) (hs : l.length ≤ 9223372036854775807) (hz : ∀ s ∈ l, s.size ≤ 9223372036854775807) :
    Calls Try.prog 11 #[.slice ad l.length cap] w fun e w' => e = .returned (.int .i64 (sizeR l)) ∧ Below w.heap.size w w' := by
  have HL := Lib.hid hl; have HZ := Lib.hid hz
  clear hl hz
  go_enter Try.func11, Try.ntmps11
  go_wp2_with fail
  go_loopg [3, 10] l.length (fun gk n i wr => ∃ k : Nat, k + gk = l.length ∧ i = .int .i64 k ∧ n = .int .i64 ((allR (l.take k)).length : Nat) ∧ (allR (l.take k)).length ≤ 65536 ∧ Below w.heap.size w wr)
  case atStart => exact ⟨0, by omega, rfl, rfl, by simp [allR], Below.refl _ _⟩
  case round =>
    obtain ⟨k, hgk, rfl, rfl, hle, hb⟩ := hrel
    by_cases hlt : k < l.length
    · rcases strsAt_below HL.out (Nat.le_refl _) hb with hat | ⟨bl, off, rfl, hbl, hcs⟩
      · simp [hat] at hlt
      have hc := hcs k hlt
      have htk := allR_take hlt
      have hmx := allR_le l (k + 1)
      have hzk := HZ.out l[k] (List.getElem_mem hlt)
      obtain ⟨s, hsk⟩ : ∃ s, s = l[k] := ⟨_, rfl⟩
      rw [← hsk] at hc htk hzk
      rw [htk, List.length_append, oneR_length] at hmx
      obtain ⟨n, hn⟩ : ∃ n, n = (allR (l.take k)).length := ⟨_, rfl⟩
      rw [← hn] at hmx hle ⊢
      have hn2 : (allR (l.take (k + 1))).length = n + ((lebN s.size).length + s.size + 4) := by rw [htk, List.length_append, oneR_length, hn]
      have HN := Lib.hid hn; have HN2 := Lib.hid hn2; have HMX := Lib.hid hmx; have HB := Lib.hid hb
      clear hcs hsk htk hn hn2 hmx hb
      by_cases hbig : (65536 : Int) < (s.size : Int)
      · go_wp2_with fail
        go_ret
        refine ⟨ret_int ?_, HB.out⟩
        unfold sizeR
        rw [if_neg (by have := HMX.out; omega)]
        rfl
      · have hs2 : s.size ≤ 65536 := by omega
        have hle2 : (n : Int) ≤ 65536 := by omega
        have hlay := lay_num s.size (by omega)
        have h9 := lebN_nine s.size (by omega)
        obtain ⟨t, ht⟩ : ∃ t : ByteArray, t = ⟨(lebN s.size).toArray⟩ := ⟨_, rfl⟩
        have hts : t.size = (lebN s.size).length := by rw [ht]; exact List.size_toArray
        rw [← ht] at hlay
        rw [← hts] at h9
        have HLAY := Lib.hid hlay; have HTS := Lib.hid hts
        have HS2 := Lib.hid hs2
        have hs3 : (s.size : Int) ≤ 65536 := by omega
        clear hlay ht hts hle hs2
        go_wp2_with fail
        refine (n_walk s.size _).mono ?_
        rintro r w1 ⟨rfl, hb1⟩
        unfold fld
        have HB1 := Lib.hid (HB.out.trans (hb1.mono HB.out.size))
        clear hb1
        go_wp2_with fail
        have hat := one_at (f := ((s.size : Int), ⟨#[]⟩, false)) (heap_alloc_top w1 (.cells #[.int .i64 s.size, .string ⟨#[]⟩, .bool false] 43))
        have hB2 := HB1.out.alloc HB1.out.size (.cells #[.int .i64 s.size, .string ⟨#[]⟩, .bool false] 43)
        refine (lay_walk (some ⟨w1.heap.size, 0, none⟩) 1 [((s.size : Int), ⟨#[]⟩, false)] _ hat (by simp) (by
          intro f hf
          simp only [List.mem_cons, List.not_mem_nil, or_false] at hf
          subst hf
          exact ⟨by show (s.size : Int) ≤ _; omega, Nat.zero_le _⟩)).mono ?_
        rintro r w2 ⟨rfl, hb2⟩
        rw [HLAY.out]
        have HB2 := Lib.hid (hB2.trans (hb2.mono hB2.size))
        clear hat hB2 hb2 HB1 HLAY
        obtain ⟨m, hm⟩ : ∃ m : Nat, m = n + (t.size + s.size + 4) := ⟨_, rfl⟩
        have hmi : (n : Int) + ((t.size : Int) + (s.size : Int) + 4) = (m : Int) := by omega
        have HM := Lib.hid hm; have HMI := Lib.hid hmi
        clear hm hmi
        go_upto_region 9 with fail
        rw [HMI.out]
        clear hle2 hs3 h9 hbig
        by_cases hov : (65536 : Int) < (m : Int)
        · go_wp2_with fail
          go_ret
          refine ⟨ret_int ?_, HB2.out⟩
          unfold sizeR
          rw [if_neg (by have := HMX.out; have := HTS.out; have := HM.out; omega)]
          rfl
        · go_wp2_with fail
          go_roundg (gk - 1)
          case measure => omega
          case rel => exact ⟨k + 1, by omega, by go_num, by rw [HN2.out, ← HTS.out, HM.out], by rw [HN2.out, ← HTS.out, ← HM.out]; omega, HB2.out⟩
    · obtain rfl : k = l.length := by omega
      rw [List.take_length] at hle ⊢
      obtain ⟨n, hn⟩ : ∃ n, n = (allR l).length := ⟨_, rfl⟩
      have hsz : sizeR l = n := by unfold sizeR; rw [if_pos hle, hn]
      rw [← hn]
      have HSZ := Lib.hid hsz
      clear hn hsz hle
      go_wp2_with fail
      go_ret
      rw [HSZ.out]
      exact ⟨rfl, hb⟩
end Go.Proofs.Ytfiigmimhdnpnaa
