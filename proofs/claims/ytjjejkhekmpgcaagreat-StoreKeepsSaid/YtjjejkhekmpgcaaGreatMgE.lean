/-
  Layer 4: a record's bytes; Size, Lay.
  Layer 4: Lay.
  Layer 4: Lay, the whole.
  Slices of texts of our own.
  Layer 4: First; the reference's First.
  Layer 4: Read; the reference's Read.
  Layer 4: what was laid is read as it was; what is read stands as it would be laid (plain).
  Layer 4: the reference's One, All; light; what must come at any rate.
  Texts that came in, opened.
-/
import Derived.Test.YtjjejkhekmpgcaaGreatMgD
import Derived.Test.YtjjejkhekmpgcaaGreatMgB
import Derived.Test.YtjjejkhekmpgcaaGreatMgA
import Derived.Deep.Strs
import Derived.Deep.Grids
namespace Go.Proofs.YtjjejkhekmpgcaaGreat
set_option maxRecDepth 4000
open Go.RowKit

/-- a record's bytes -/
def oneR (s : ByteArray) : List UInt8 := lebN s.size ++ (s.data.toList ++ fourOf (crcSum s.data.toList))
/-- records' bytes -/
def allR (l : List ByteArray) : List UInt8 := l.flatMap oneR
theorem oneR_length (s : ByteArray) : (oneR s).length = (lebN s.size).length + s.size + 4 := by
  have hs : s.data.toList.length = s.size := by simp
  unfold oneR
  rw [List.length_append, List.length_append, fourOf_length, hs]
  omega
theorem allR_snoc (l : List ByteArray) (s : ByteArray) : allR (l ++ [s]) = allR l ++ oneR s := by simp [allR]
theorem allR_cons (s : ByteArray) (l : List ByteArray) : allR (s :: l) = oneR s ++ allR l := by simp [allR]
theorem allR_take {l : List ByteArray} {k : Nat} (h : k < l.length) : allR (l.take (k + 1)) = allR (l.take k) ++ oneR l[k] := by
  rw [List.take_succ_eq_append_getElem h, allR_snoc]
theorem allR_le (l : List ByteArray) (k : Nat) : (allR (l.take k)).length ≤ (allR l).length := by
  have : allR l = allR (l.take k) ++ allR (l.drop k) := by unfold allR; rw [← List.flatMap_append, List.take_append_drop]
  rw [this, List.length_append]
  omega
/-- what Size answers -/
def sizeR (l : List ByteArray) : Nat := if (allR l).length ≤ 65536 then (allR l).length else 65537
theorem lay_num (n : Nat) (hn : n ≤ 9223372036854775807) : lay [((n : Int), ⟨#[]⟩, false)] = (⟨(lebN n).toArray⟩, 0) := by
  have hb : [((n : Int), (⟨#[]⟩ : ByteArray), false)].any badF = false := by simp [badF]
  have h9 := lebN_nine n hn
  have hl : layB [((n : Int), ⟨#[]⟩, false)] = lebN n := by simp [layB, putF]
  unfold lay
  rw [if_neg (by rw [hb]; simp), hl, if_neg (by omega)]
theorem lay_txt (s : ByteArray) (hn : (lebN s.size).length + s.size ≤ 65536) : lay [(0, s, true)] = (⟨(lebN s.size ++ s.data.toList).toArray⟩, 0) := by
  have hs : s.data.toList.length = s.size := by simp
  have hb : [((0 : Int), s, true)].any badF = false := by simp [badF]
  have hl : layB [(0, s, true)] = lebN s.size ++ s.data.toList := by
    simp only [layB, putF, List.foldl_cons, List.foldl_nil, List.length_nil]
    rw [if_neg (by omega), if_pos trivial, List.nil_append, List.take_of_length_le (by omega)]
  unfold lay
  rw [if_neg (by rw [hb]; simp), hl, if_neg (by rw [List.length_append, hs]; omega)]

set_option maxHeartbeats 1000000 in
theorem size_walk (ad : Option Addr) (cap : Nat) (l : List ByteArray) (w : World) (hl : strsAt w ad l) (hs : l.length ≤ 9223372036854775807) (hz : ∀ s ∈ l, s.size ≤ 9223372036854775807) :
    Calls Tryz.prog 44 #[.slice ad l.length cap] w fun e w' => e = .returned (.int .i64 (sizeR l)) ∧ Below w.heap.size w w' := by
  have HL := Lib.hid hl; have HZ := Lib.hid hz
  clear hl hz
  go_enter Tryz.func44, Tryz.ntmps44
  go_wp2_with fail
  go_loopg [3, 10] l.length (fun gk n i wr => ∃ k : Nat, k + gk = l.length ∧ i = .int .i64 k ∧ n = .int .i64 ((allR (l.take k)).length : Nat) ∧ (allR (l.take k)).length ≤ 65536 ∧ Below w.heap.size w wr)
  case atStart => exact ⟨0, by omega, rfl, rfl, by simp [allR], Below.refl _ _⟩
  case round =>
    obtain ⟨k, hgk, rfl, rfl, hle, hb⟩ := hrel
    by_cases hlt : k < l.length
    · rcases strsAt_below HL.out (Nat.le_refl _) hb with hat | ⟨bl, off, rfl, hbl, hcs⟩
      · simp [hat] at hlt
      have hc := hcs k hlt
      have htk := allR_take hlt
      have hmx := allR_le l (k + 1)
      have hzk := HZ.out l[k] (List.getElem_mem hlt)
      obtain ⟨s, hsk⟩ : ∃ s, s = l[k] := ⟨_, rfl⟩
      rw [← hsk] at hc htk hzk
      rw [htk, List.length_append, oneR_length] at hmx
      obtain ⟨n, hn⟩ : ∃ n, n = (allR (l.take k)).length := ⟨_, rfl⟩
      rw [← hn] at hmx hle ⊢
      have hn2 : (allR (l.take (k + 1))).length = n + ((lebN s.size).length + s.size + 4) := by rw [htk, List.length_append, oneR_length, hn]
      have HN := Lib.hid hn; have HN2 := Lib.hid hn2; have HMX := Lib.hid hmx; have HB := Lib.hid hb
      clear hcs hsk htk hn hn2 hmx hb
      by_cases hbig : (65536 : Int) < (s.size : Int)
      · go_wp2_with fail
        go_ret
        refine ⟨ret_int ?_, HB.out⟩
        unfold sizeR
        rw [if_neg (by have := HMX.out; omega)]
        rfl
      · have hs2 : s.size ≤ 65536 := by omega
        have hle2 : (n : Int) ≤ 65536 := by omega
        have hlay := lay_num s.size (by omega)
        have h9 := lebN_nine s.size (by omega)
        obtain ⟨t, ht⟩ : ∃ t : ByteArray, t = ⟨(lebN s.size).toArray⟩ := ⟨_, rfl⟩
        have hts : t.size = (lebN s.size).length := by rw [ht]; exact List.size_toArray
        rw [← ht] at hlay
        rw [← hts] at h9
        have HLAY := Lib.hid hlay; have HTS := Lib.hid hts
        have HS2 := Lib.hid hs2
        have hs3 : (s.size : Int) ≤ 65536 := by omega
        clear hlay ht hts hle hs2
        go_wp2_with fail
        refine (n_walk s.size _).mono ?_
        rintro r w1 ⟨rfl, hb1⟩
        unfold fld
        have HB1 := Lib.hid (HB.out.trans (hb1.mono HB.out.size))
        clear hb1
        go_wp2_with fail
        have hat := one_at (f := ((s.size : Int), ⟨#[]⟩, false)) (heap_alloc_top w1 (.cells #[.int .i64 s.size, .string ⟨#[]⟩, .bool false] 116))
        have hB2 := HB1.out.alloc HB1.out.size (.cells #[.int .i64 s.size, .string ⟨#[]⟩, .bool false] 116)
        refine (lay_walk (some ⟨w1.heap.size, 0, none⟩) 1 [((s.size : Int), ⟨#[]⟩, false)] _ hat (by simp) (by
          intro f hf
          simp only [List.mem_cons, List.not_mem_nil, or_false] at hf
          subst hf
          exact ⟨by show (s.size : Int) ≤ _; omega, Nat.zero_le _⟩)).mono ?_
        rintro r w2 ⟨rfl, hb2⟩
        rw [HLAY.out]
        have HB2 := Lib.hid (hB2.trans (hb2.mono hB2.size))
        clear hat hB2 hb2 HB1 HLAY
        obtain ⟨m, hm⟩ : ∃ m : Nat, m = n + (t.size + s.size + 4) := ⟨_, rfl⟩
        have hmi : (n : Int) + ((t.size : Int) + (s.size : Int) + 4) = (m : Int) := by omega
        have HM := Lib.hid hm; have HMI := Lib.hid hmi
        clear hm hmi
        go_upto_region 9 with fail
        rw [HMI.out]
        clear hle2 hs3 h9 hbig
        by_cases hov : (65536 : Int) < (m : Int)
        · go_wp2_with fail
          go_ret
          refine ⟨ret_int ?_, HB2.out⟩
          unfold sizeR
          rw [if_neg (by have := HMX.out; have := HTS.out; have := HM.out; omega)]
          rfl
        · go_wp2_with fail
          go_roundg (gk - 1)
          case measure => omega
          case rel => exact ⟨k + 1, by omega, by go_num, by rw [HN2.out, ← HTS.out, HM.out], by rw [HN2.out, ← HTS.out, ← HM.out]; omega, HB2.out⟩
    · obtain rfl : k = l.length := by omega
      rw [List.take_length] at hle ⊢
      obtain ⟨n, hn⟩ : ∃ n, n = (allR l).length := ⟨_, rfl⟩
      have hsz : sizeR l = n := by unfold sizeR; rw [if_pos hle, hn]
      rw [← hn]
      have HSZ := Lib.hid hsz
      clear hn hsz hle
      go_wp2_with fail
      go_ret
      rw [HSZ.out]
      exact ⟨rfl, hb⟩
end Go.Proofs.YtjjejkhekmpgcaaGreat

namespace Go.Proofs.YtjjejkhekmpgcaaGreat
set_option maxRecDepth 4000
open Go.RowKit

theorem bytes_of (l : List UInt8) : (⟨l.toArray⟩ : ByteArray).data.toList = l := by simp
theorem bytes_len (l : List UInt8) : (⟨l.toArray⟩ : ByteArray).size = l.length := List.size_toArray

set_option maxHeartbeats 1000000 in
theorem lay1f_walk (q : Nat) (vb : Value) (l : List UInt8) (s : ByteArray) (w : World) (hq : w.heap[q]? = some (.cells #[vb] 127 (0, 0))) (hrow : w.ownsRow (q + 1) 5 1 vb l.length (bv l))
    (hl : l.length ≤ 70000) (hs : (lebN s.size).length + s.size ≤ 65536) :
    Calls Tryz.prog 111 #[.string s, .pointer (some ⟨q, 0, none⟩)] w fun e w' => e = .returned (.tuple #[]) ∧ Below q w w' ∧ ∃ v', w'.heap[q]? = some (.cells #[v'] 127 (0, 0)) ∧ w'.ownsRow (q + 1) 5 1 v' (l ++ oneR s).length (bv (l ++ oneR s)) := by
  obtain ⟨i0, hi, hz0, hz1, hz2⟩ := info_parts info_u8
  have hlq := lt_of_block hq
  have hlay := lay_txt s hs
  obtain ⟨t, ht⟩ : ∃ t : ByteArray, t = ⟨(lebN s.size ++ s.data.toList).toArray⟩ := ⟨_, rfl⟩
  rw [← ht] at hlay
  have htd : t.data.toList = lebN s.size ++ s.data.toList := by rw [ht]
  have hts : t.size ≤ 65536 := by
    have : t.size = (lebN s.size ++ s.data.toList).length := by rw [ht]; exact bytes_len _
    rw [this, List.length_append]
    simpa using hs
  have HLAY := Lib.hid hlay; have HTD := Lib.hid htd; have HTS := Lib.hid hts
  obtain ⟨n, hn⟩ : ∃ n, n = l.length := ⟨_, rfl⟩
  rw [← hn] at hrow hl
  have HN := Lib.hid hn; have HR := Lib.hid hrow; have HQ := Lib.hid hq
  clear hlay ht htd hts hn hrow hq
  go_enter Tryz.func111, Tryz.ntmps111
  go_wp2_with fail
  refine (t_walk s _).mono ?_
  rintro r w1 ⟨rfl, hb1⟩
  unfold fld
  have HB1 := Lib.hid hb1
  clear hb1
  go_wp2_with fail
  have hat := one_at (f := ((0 : Int), s, true)) (heap_alloc_top w1 (.cells #[.int .i64 0, .string s, .bool true] 116))
  have hB2 := HB1.out.alloc HB1.out.size (.cells #[.int .i64 0, .string s, .bool true] 116)
  refine (lay_walk (some ⟨w1.heap.size, 0, none⟩) 1 [((0 : Int), s, true)] _ hat (by simp) (by
    intro f hf
    simp only [List.mem_cons, List.not_mem_nil, or_false] at hf
    subst hf
    exact ⟨by show (0 : Int) ≤ _; omega, by show s.size ≤ _; omega⟩)).mono ?_
  rintro r w2 ⟨rfl, hb2⟩
  rw [HLAY.out]
  have hB3 := hB2.trans (hb2.mono hB2.size)
  have hq2 := (hB3.block q hlq).trans HQ.out
  have hr2 : w2.ownsRow (q + 1) 5 1 vb n (bv l) := World.ownsRow.kept HR.out (row := none) ⟨hB3.os, hB3.tape, hB3.output, hB3.size, fun k hk _ => hB3.block k hk⟩ (by cases vb.ownBlock <;> simp)
  have hc2 := cell_of_row w2 q 0 _ _ _ hq2
  simp only [List.getElem?_toArray, List.getElem?_cons_zero] at hc2
  have hBq : Below q w w2 := hB3.mono (by omega)
  have hq1 : q + 1 ≤ w2.heap.size := lt_of_block hq2
  have HQ2 := Lib.hid hq2; have HR2 := Lib.hid hr2; have HBQ := Lib.hid hBq; have HQ1 := Lib.hid hq1
  clear hat hB2 hb2 hB3 hq2 hr2 hBq HB1 HLAY HR HQ hq1
  go_wp2_with (at_builtin; refine wpList_append_at _ rfl _ _ 127 9 rfl (q + 1) 5 i0 (.int .u8 0) 1 1 Tryz.underlying127 hi hz0 hz1 hz2 rfl (by decide) vb n (bv l) rfl HR2.out (.string t) t.size (bv t.data.toList) rfl (src_bytes _ Tryz.underlying9 t) (by unfold maxLen; have := HTS.out; omega) (by have := HTS.out; omega) HQ1.out ?_)
  intro v3 w3 hr3 hg3 hp3
  rw [HTD.out] at hr3
  have hq3 := (hg3.block q (lt_of_block HQ2.out) (fun e => by have := (HR2.out.lt q e.symm).1; omega)).trans HQ2.out
  have hb3 := below_of_grown HBQ.out hg3 (by have := lt_of_block HQ2.out; omega) (fun k hk => by have := (HR2.out.lt k hk).1; omega)
  have hlt : t.size = (lebN s.size ++ s.data.toList).length := by rw [← HTD.out]; simp
  have H3 := Lib.hid hr3; have HQ3 := Lib.hid hq3; have HB3 := Lib.hid hb3; have HLT := Lib.hid hlt
  have hv3 : v3.ownBlock = none ∨ ∀ k, v3.ownBlock = some k → q + 1 ≤ k := .inr fun k hk => (hr3.lt k hk).1
  clear hr3 hg3 hp3 hq3 hb3 hlt hv3 HQ2 HR2 HBQ hc2
  go_wp2_with fail
  refine (four_walk s _ (by omega)).mono ?_
  rintro r w4 ⟨rfl, hb4⟩
  have hq4 := (hb4.block q (lt_of_block HQ3.out)).trans HQ3.out
  have hr4 : w4.ownsRow (q + 1) 5 1 v3 (n + t.size) (bv l ++ bv (lebN s.size ++ s.data.toList)) := World.ownsRow.kept H3.out (row := none) ⟨hb4.os, hb4.tape, hb4.output, hb4.size, fun k hk _ => hb4.block k hk⟩ (by cases v3.ownBlock <;> simp)
  have hb4' := HB3.out.trans (hb4.mono (by have := lt_of_block HQ3.out; omega))
  obtain ⟨f, hf⟩ : ∃ f : ByteArray, f = ⟨(fourOf (crcSum s.data.toList)).toArray⟩ := ⟨_, rfl⟩
  have hfd : f.data.toList = fourOf (crcSum s.data.toList) := by rw [hf]
  have hfs : f.size = 4 := by rw [hf]; exact bytes_len _
  rw [← hf]
  have HR4 := Lib.hid hr4; have HQ4 := Lib.hid hq4; have HB4 := Lib.hid hb4'; have HFD := Lib.hid hfd; have HFS := Lib.hid hfs
  have HQ1 := Lib.hid (lt_of_block hq4)
  clear hb4 hq4 hr4 hb4' hf hfd hfs HB3 HQ3 H3
  go_wp2_with (at_builtin; refine wpList_append_at _ rfl _ _ 127 9 rfl (q + 1) 5 i0 (.int .u8 0) 1 1 Tryz.underlying127 hi hz0 hz1 hz2 rfl (by decide) v3 (n + t.size) (bv l ++ bv (lebN s.size ++ s.data.toList)) rfl HR4.out (.string f) f.size (bv f.data.toList) rfl (src_bytes _ Tryz.underlying9 f) (by unfold maxLen; have := HTS.out; have := HFS.out; omega) (by have := HTS.out; have := HFS.out; omega) HQ1.out ?_)
  intro v5 w5 hr5 hg5 hp5
  obtain ⟨m, hm⟩ : ∃ m, m = n + t.size + f.size := ⟨_, rfl⟩
  rw [← hm] at hr5
  rw [HFD.out] at hr5
  have hq5 := (hg5.block q (lt_of_block HQ4.out) (fun e => by have := (HR4.out.lt q e.symm).1; omega)).trans HQ4.out
  have hb5 := below_of_grown HB4.out hg5 (by have := lt_of_block HQ4.out; omega) (fun k hk => by have := (HR4.out.lt k hk).1; omega)
  have hc5 := cell_of_row w5 q 0 _ _ _ hq5
  simp only [List.getElem?_toArray, List.getElem?_cons_zero] at hc5
  have hf5 : w5.frozen? ⟨q, 0, none⟩ = false := by simp [World.frozen?, hq5]
  have hlen : m = (l ++ oneR s).length := by
    rw [hm, List.length_append, oneR_length, ← HN.out, HFS.out, HLT.out, List.length_append]
    have : s.data.toList.length = s.size := by simp
    omega
  have hbv : bv l ++ (bv (lebN s.size ++ s.data.toList) ++ bv (fourOf (crcSum s.data.toList))) = bv (l ++ oneR s) := by
    rw [← bv_append, ← bv_append]; unfold oneR; simp only [List.append_assoc]
  obtain ⟨ad5, cap5, rfl⟩ := own_form hr5
  try rw [List.append_assoc] at hr5
  rw [hbv] at hr5
  have HR5 := Lib.hid hr5; have HQ5 := Lib.hid hq5; have HB5 := Lib.hid hb5; have HLEN := Lib.hid hlen
  clear hm hr5 hg5 hp5 hq5 hb5 hlen hbv HR4 HQ4 HB4
  go_wp2_with fail
  refine bodyPost_end (results_none rfl _ _ _) rfl ⟨rfl, HB5.out.setCell (Nat.le_refl _) _, _, setCell_block HQ5.out _, ?_⟩
  have ho := HR5.out
  rw [← HLEN.out]
  refine ownsRow_setCell_other ho (fun e => ?_) _
  have := (ho.lt q e).1
  omega
end Go.Proofs.YtjjejkhekmpgcaaGreat

namespace Go.Proofs.YtjjejkhekmpgcaaGreat
set_option maxRecDepth 4000
open Go.RowKit

/-- what Lay answers -/
def flay (l : List ByteArray) : ByteArray × Int := if (allR l).length ≤ 65536 then (⟨(allR l).toArray⟩, 0) else (⟨#[]⟩, 4)

set_option maxHeartbeats 2000000 in
theorem flay_walk (ad : Option Addr) (cap : Nat) (l : List ByteArray) (w : World) (hl : strsAt w ad l) (hs : l.length ≤ 9223372036854775807) (hz : ∀ s ∈ l, s.size ≤ 9223372036854775807) :
    Calls Tryz.prog 84 #[.slice ad l.length cap] w fun e w' => e = .returned (.tuple #[.string (flay l).1, .int .i64 (flay l).2]) ∧ Below w.heap.size w w' := by
  have HSW := Lib.hid (size_walk ad cap l w hl hs hz)
  have HL := Lib.hid hl; have HZ := Lib.hid hz
  clear hl hz
  by_cases hfit : (allR l).length ≤ 65536
  · have hsz : sizeR l = (allR l).length := by unfold sizeR; rw [if_pos hfit]
    have hfl : flay l = (⟨(allR l).toArray⟩, 0) := by unfold flay; rw [if_pos hfit]
    have hone : ∀ k, k < l.length → ((lebN (l.getD k ⟨#[]⟩).size).length + (l.getD k ⟨#[]⟩).size ≤ 65536) := fun k hk => by
      have h1 := allR_le l (k + 1)
      rw [allR_take hk, List.length_append, oneR_length] at h1
      have : l.getD k ⟨#[]⟩ = l[k] := by simp [List.getD, hk]
      rw [this]; omega
    have HFL := Lib.hid hfl; have HONE := Lib.hid hone
    rw [hsz] at HSW
    obtain ⟨m, hm⟩ : ∃ m, m = (allR l).length := ⟨_, rfl⟩
    rw [← hm] at HSW hfit
    have hmi : ¬ ((65536 : Int) < (m : Int)) := by omega
    have HM := Lib.hid hm; have HFIT := Lib.hid hfit
    clear hsz hfl hone hm hfit
    go_enter Tryz.func84, Tryz.ntmps84
    go_wp2_with fail
    refine HSW.out.mono ?_
    rintro r w1 ⟨rfl, hb1⟩
    have HB1 := Lib.hid hb1
    clear hb1 HSW
    go_upto_region 4 with fail
    obtain ⟨q, hq⟩ : ∃ q, q = w1.heap.size := ⟨_, rfl⟩
    have g0 := heap_alloc_top w1 (.cells #[.slice none 0 0] 127)
    have hB := HB1.out.alloc HB1.out.size (.cells #[.slice none 0 0] 127)
    have hwq : w.heap.size ≤ q := by rw [hq]; exact HB1.out.size
    rw [← hq] at g0 ⊢
    generalize w1.alloc (.cells #[.slice none 0 0] 127) = W at g0 hB ⊢
    have HB := Lib.hid hB; have G0 := Lib.hid g0; have HWQ := Lib.hid hwq
    clear hq hB g0 HB1 hwq hmi
    go_wp2_with fail
    go_loopg [14] l.length (fun gk i wr => ∃ (k : Nat) (vb : Value), k + gk = l.length ∧ i = .int .i64 k ∧ wr.heap[q]? = some (.cells #[vb] 127 (0, 0)) ∧ wr.ownsRow (q + 1) 5 1 vb (allR (l.take k)).length (bv (allR (l.take k))) ∧ Below w.heap.size w wr)
    case atStart => exact ⟨0, _, by omega, rfl, G0.out, World.ownsRow_nil _ _ _ _, HB.out⟩
    case round =>
      obtain ⟨k, vb, hgk, rfl, hqq, hown, hb⟩ := hrel
      by_cases hlt : k < l.length
      · rcases strsAt_below HL.out (Nat.le_refl _) hb with hat | ⟨bl, off, rfl, hbl, hcs⟩
        · simp [hat] at hlt
        have hc := hcs k hlt
        have htk := allR_take hlt
        have h1 := HONE.out k hlt
        have hlk := allR_le l k
        have hgd : l.getD k ⟨#[]⟩ = l[k] := by simp [List.getD, hlt]
        rw [hgd] at h1
        obtain ⟨s, hsk⟩ : ∃ s, s = l[k] := ⟨_, rfl⟩
        rw [← hsk] at hc htk h1
        have R1 := Lib.hid hqq; have R2 := Lib.hid hown; have R3 := Lib.hid hb; have HTK := Lib.hid htk; have H1 := Lib.hid h1; have HLK := Lib.hid hlk
        clear hcs hsk htk h1 hlk hgd hqq hown hb HB G0
        go_wp2_with fail
        refine (lay1f_walk q vb (allR (l.take k)) s _ R1.out R2.out (by have := HLK.out; have := HM.out; have := HFIT.out; omega) H1.out).mono ?_
        rintro r w2 ⟨rfl, hb2, v2, hq2, ho2⟩
        rw [← HTK.out] at ho2
        have M1 := Lib.hid hq2; have M2 := Lib.hid ho2
        have M3 := Lib.hid (R3.out.trans (hb2.mono HWQ.out))
        clear hb2 hq2 ho2 R1 R2 R3
        go_wp2_with fail
        go_roundg (gk - 1)
        case measure => omega
        case rel => exact ⟨k + 1, v2, by omega, by go_num, M1.out, M2.out, M3.out⟩
      · obtain rfl : k = l.length := by omega
        rw [List.take_length, ← HM.out] at hown
        obtain ⟨ad3, cap3, rfl⟩ := own_form hown
        have cq := cell_of_row _ q 0 _ _ _ hqq
        simp only [List.getElem?_toArray, List.getElem?_cons_zero] at cq
        have K2 := Lib.hid hown; have HBF := Lib.hid hb
        clear hown hqq hb HB G0
        go_wp2_with (refine wpList_string_own _ rfl _ 127 9 rfl 5 Tryz.underlying127 Tryz.underlying5 Tryz.underlying9 (q + 1) _ m (allR l) rfl K2.out ?_)
        go_ret2
        exact ⟨by rw [HFL.out]; rfl, HBF.out⟩
  · have hsz : sizeR l = 65537 := by unfold sizeR; rw [if_neg hfit]
    have hfl : flay l = (⟨#[]⟩, 4) := by unfold flay; rw [if_neg hfit]
    have HFL := Lib.hid hfl
    rw [hsz] at HSW
    clear hsz hfl hfit
    go_enter Tryz.func84, Tryz.ntmps84
    go_wp2_with fail
    refine HSW.out.mono ?_
    rintro r w1 ⟨rfl, hb1⟩
    have HB1 := Lib.hid hb1
    clear hb1 HSW
    go_wp2_with fail
    go_ret2
    exact ⟨by rw [HFL.out]; rfl, HB1.out⟩
end Go.Proofs.YtjjejkhekmpgcaaGreat

namespace Go.Proofs.YtjjejkhekmpgcaaGreat
set_option maxRecDepth 4000
open Go.RowKit

theorem info_string : (Tryz.prog.info? 9).map (fun i => (i.zero, i.size, i.bytes)) = some (some (.string ⟨#[]⟩), 1, 16) := by kernel_rfl
/-- a slice of texts of our own -/
def Row (w : World) (base : Nat) (v : Value) (l : List ByteArray) : Prop := w.ownsRow base 9 1 v l.length (l.map Value.string)
theorem Row.nil (w : World) (base : Nat) : Row w base (.slice none 0 0) [] := World.ownsRow_nil _ _ _ _
theorem Row.keep {w w' : World} {base B : Nat} {v : Value} {l : List ByteArray} (h : Row w base v l) (hb : Below B w w') (hB : w.heap.size ≤ B) : Row w' base v l :=
  World.ownsRow.kept h (row := none) ⟨hb.os, hb.tape, hb.output, hb.size, fun k hk _ => hb.block k (by omega)⟩ (by cases v.ownBlock <;> simp)
theorem Row.grown {w w' : World} {base : Nat} {v : Value} {l : List ByteArray} {row : Option Nat} (h : Row w base v l) (hg : w.grownBy w' row) (hne : v.ownBlock = none ∨ v.ownBlock ≠ row) : Row w' base v l := World.ownsRow.kept h hg hne
theorem Row.form {w : World} {base : Nat} {v : Value} {l : List ByteArray} (h : Row w base v l) : ∃ ad cap, v = .slice ad l.length cap ∧ strsAt w ad l := strsAt_own h
theorem Row.open {w : World} {base : Nat} {v : Value} {l : List ByteArray} (h : Row w base v l) : ∃ ad cap, v = .slice ad l.length cap ∧ strsAt w ad l ∧ l.length ≤ cap ∧ cap ≤ 9223372036854775807 := by
  obtain ⟨ad, cap, rfl, hs⟩ := strsAt_own h
  rcases h.2 with ⟨h1, h2⟩ | ⟨g, cap', cur, hv, _, _, h3, h4, _⟩
  · simp at h1
    exact ⟨ad, cap, rfl, hs, by omega, by omega⟩
  · simp at hv
    unfold maxLen at h4
    exact ⟨ad, cap, rfl, hs, by omega, by omega⟩
theorem strs_one (l : List ByteArray) : ∀ u ∈ l.map Value.string, u.oneCell' = true := by
  intro u hu
  obtain ⟨a, _, rfl⟩ := List.mem_map.1 hu
  rfl
theorem src_row {w : World} {base : Nat} {v : Value} {l : List ByteArray} (h : Row w base v l) : Src Tryz.prog 1 46 v l.length (l.map Value.string) w :=
  src_own _ Tryz.underlying46 h (strs_one l)
theorem src_new {w : World} (x : ByteArray) (t : TypeId) : Src Tryz.prog 1 46 (.slice (some ⟨w.heap.size, 0, none⟩) 1 1) [x].length ([x].map Value.string) (w.alloc (.cells #[.string x] t)) :=
  src_one _ Tryz.underlying46 _ _ rfl _
theorem wpList_append_row {ops : Array Oper} {rest : List Oper} {o : Oper} {a : Act} {w : World} {Q : Exit → Act → World → Prop} (hgd : o.guard = none) (s x : Operand)
    (ho : o.op = .call { callee := .builtin .append, args := #[s, x], argTypes := #[46, 46] })
    (base : Nat) (v : Value) (l : List ByteArray) (hs : a.eval s = v) (hrow : Row w base v l)
    (xv : Value) (m : List ByteArray) (hx : a.eval x = xv) (hsrc : Src Tryz.prog 1 46 xv m.length (m.map Value.string) w)
    (hlen : l.length + m.length ≤ 8000000000000) (hbase : base ≤ w.heap.size)
    (h : ∀ v' w', Row w' base v' (l ++ m) → w.grownBy w' v.ownBlock → (v'.ownBlock = v.ownBlock ∨ ∀ k, v'.ownBlock = some k → w.heap.size ≤ k) → wpList Tryz.prog ops Q rest (a.put o.dst v') w') : wpList Tryz.prog ops Q (o :: rest) a w := by
  obtain ⟨i0, hi, hz0, hz1, hz2⟩ := info_parts info_string
  refine wpList_append_at w hgd s x 46 46 ho base 9 i0 (.string ⟨#[]⟩) 1 16 Tryz.underlying46 hi hz0 hz1 hz2 rfl (by decide) v l.length _ hs hrow xv m.length _ hx hsrc (by unfold maxLen; omega) (by omega) hbase fun v' w' h1 h2 h3 => h v' w' ?_ h2 h3
  unfold Row
  rw [List.length_append, List.map_append]
  exact h1
end Go.Proofs.YtjjejkhekmpgcaaGreat

namespace Go.Proofs.YtjjejkhekmpgcaaGreat
set_option maxRecDepth 4000
open Go.RowKit

/-- what First answers: a record, in how many bytes, an error -/
def firstR (s : ByteArray) : ByteArray × Nat × Int :=
  if (txtR s 0).2.2 ≠ 0 then (⟨#[]⟩, 0, (txtR s 0).2.2)
  else if crcCheck (txtR s 0).1 ((txtR s 0).2.1.extract 0 (min 4 (txtR s 0).2.1.size)) ≠ 0 then (⟨#[]⟩, 0, crcCheck (txtR s 0).1 ((txtR s 0).2.1.extract 0 (min 4 (txtR s 0).2.1.size)))
  else ((txtR s 0).1, s.size - (txtR s 0).2.1.size + 4, 0)
theorem txtR_size (s : ByteArray) (h : (txtR s 0).2.2 = 0) : (txtR s 0).1.size + (txtR s 0).2.1.size ≤ s.size ∧ (txtR s 0).2.1 = s.extract (s.size - (txtR s 0).2.1.size) s.size := by
  obtain ⟨j, hj, e⟩ := txt_left s h
  have hsz := ex_size s j hj
  have h2 : (txtR s 0).2.1.size = s.size - j := by rw [e]; exact hsz
  refine ⟨?_, by rw [h2, show s.size - (s.size - j) = j by omega]; exact e⟩
  have hn : (numR s 0).2.2 = 0 := by
    unfold txtR takeR at h
    by_cases h0 : (numR s 0).2.2 = 0
    · exact h0
    · rw [if_pos h0] at h; exact h
  obtain ⟨i, hi, e2⟩ := num_left s hn
  have hs1 : (numR s 0).2.1.size = s.size - i := by rw [e2]; exact ex_size s i hi
  unfold txtR takeR at h ⊢
  rw [if_neg (by rw [hn]; simp)] at h ⊢
  by_cases hlt : (numR s 0).2.1.size < (numR s 0).1
  · rw [if_pos hlt] at h; simp at h
  · rw [if_neg hlt]
    simp only [ByteArray.size_extract]
    omega

set_option maxHeartbeats 1000000 in
theorem ffirst_walk (s : ByteArray) (w : World) (hs : s.size ≤ 9223372036854775803) :
    Calls Tryz.prog 83 #[.string s] w fun r w' => r = .returned (.tuple #[.string (firstR s).1, .int .i64 (firstR s).2.1, .int .i64 (firstR s).2.2]) ∧ Below w.heap.size w w' := by
  have hx := txtR_size s
  obtain ⟨f, hf⟩ : ∃ f, f = firstR s := ⟨_, rfl⟩
  have hf2 := hf
  unfold firstR at hf2
  rw [← hf]
  have htw := fun p w h => txt_walk p s 0 w h
  obtain ⟨t, s1, e1, hn⟩ : ∃ t s1 e1, txtR s 0 = (t, s1, e1) := ⟨_, _, _, rfl⟩
  rw [hn] at hx hf2
  have HN := Lib.hid hn; have HX := Lib.hid hx; have HF := Lib.hid hf2; have HTW := Lib.hid htw
  clear hn hx hf hf2 htw
  go_enter Tryz.func83, Tryz.ntmps83
  go_wp2_with fail
  refine (over_walk s _).mono ?_
  rintro r w1 ⟨rfl, hb1, h1⟩
  obtain ⟨p, hp⟩ : ∃ p, p = w.heap.size := ⟨_, rfl⟩
  rw [← hp] at h1 ⊢
  have HP := Lib.hid hp; have HB1 := Lib.hid hb1; have H1 := Lib.hid h1
  clear hp hb1 h1
  go_wp2_with fail
  refine (HTW.out p _ H1.out).mono ?_
  rw [HN.out]
  rintro r w2 ⟨rfl, hg2, h2⟩
  have HB2 := Lib.hid (below_of_grown HB1.out hg2 HB1.out.size (fun k hk => by have := HP.out; cases hk; omega))
  have H2 := Lib.hid h2
  clear hg2 h2 HB1 H1 HTW
  go_wp2_with fail
  refine (err_walk p s1 e1 _ H2.out).mono ?_
  rintro r w3 ⟨rfl, rfl⟩
  by_cases he : e1 = 0
  · subst he
    obtain ⟨hsz, hex⟩ : t.size + s1.size ≤ s.size ∧ s1 = s.extract (s.size - s1.size) s.size := HX.out rfl
    have hf : f = if crcCheck t (s1.extract 0 (min 4 s1.size)) ≠ 0 then (⟨#[]⟩, 0, crcCheck t (s1.extract 0 (min 4 s1.size))) else (t, s.size - s1.size + 4, 0) := by
      rw [HF.out, if_neg (by simp)]
    have HF2 := Lib.hid hf; have HEX := Lib.hid hex; have HSZ := Lib.hid hsz
    clear hf hex hsz HX HF
    obtain ⟨n, hn⟩ : ∃ n, n = s1.size := ⟨_, rfl⟩
    have hl := left_walk p s1 0 w3 H2.out
    rw [show leftN s1 0 = n by unfold leftN; rw [if_pos rfl, hn]] at hl
    have hns : n ≤ s.size := by have := HSZ.out; omega
    have hwn : wrap64 ((s.size : Int) - (n : Int)) = ((s.size - n : Nat) : Int) := by rw [IntWalk.wrap64_in _ ⟨by omega, by omega⟩]; omega
    obtain ⟨m, hm⟩ : ∃ m, m = s.size - n := ⟨_, rfl⟩
    rw [← hm] at hwn
    have hms : m ≤ s.size := by omega
    have hsi : (s.size : Int) - (n : Int) = (m : Int) := by omega
    have hmm : m + n = s.size := by omega
    have HLW := Lib.hid hl; have HWN := Lib.hid hwn; have HM := Lib.hid hm; have HNN := Lib.hid hn; have HSI := Lib.hid hsi; have HMM := Lib.hid hmm
    clear hl hwn hm hn hsi hmm
    go_wp2_with fail
    refine HLW.out.mono ?_
    rintro r w4 ⟨rfl, rfl⟩
    go_upto_region 7 with fail
    rw [HSI.out]
    clear hns
    go_upto_region 8 with fail
    have hex : s.extract m s.size = s1 := by rw [HM.out, HNN.out]; exact HEX.out.symm
    rw [hex]
    obtain ⟨u, hu⟩ : ∃ u, u = s1.extract 0 (min 4 s1.size) := ⟨_, rfl⟩
    rw [← hu] at HF2
    have hcw := check_walk t u w4 (by have := HSZ.out; omega)
    have HU := Lib.hid hu; have HCW := Lib.hid hcw
    have hsz1 : s1.size = n := HNN.out.symm
    have hn9 : (n : Int) ≤ 9223372036854775807 := by have := HSZ.out; omega
    have hm9 : (m : Int) ≤ 9223372036854775803 := by omega
    clear hex hu hcw hs hms
    by_cases h4 : (4 : Int) ≤ (n : Int)
    · have hu4 : s1.extract 0 4 = u := by rw [HU.out, hsz1, show min 4 n = 4 by omega]
      have hm4 : min (4 : Int) (n : Int) = 4 := by omega
      go_wp2_with fail
      refine HCW.out.mono ?_
      rintro r w5 ⟨rfl, hb5⟩
      obtain ⟨c, hcc⟩ : ∃ c, c = crcCheck t u := ⟨_, rfl⟩
      rw [← hcc] at HF2 ⊢
      have HB5 := Lib.hid (HB2.out.trans (hb5.mono HB2.out.size))
      clear hcc hb5 HU HCW hu4
      by_cases hc : c = 0
      · have hf : f = (t, s.size - s1.size + 4, 0) := by rw [HF2.out, if_neg (by rw [hc]; simp)]
        subst hc
        have HFF := Lib.hid hf
        clear hf
        go_wp2_with fail
        go_ret3
        rw [HFF.out, HNN.out.symm, HM.out.symm]
        exact ⟨by go_num, HB5.out⟩
      · have hf : f = (⟨#[]⟩, 0, c) := by rw [HF2.out, if_pos hc]
        have HFF := Lib.hid hf
        clear hf
        go_wp2_with fail
        go_ret3
        rw [HFF.out]
        exact ⟨rfl, HB5.out⟩
    · have hu4 : s1.extract 0 n = u := by rw [HU.out, hsz1, show min 4 n = n by omega]
      have hm4 : min (4 : Int) (n : Int) = (n : Int) := by omega
      go_wp2_with fail
      refine HCW.out.mono ?_
      rintro r w5 ⟨rfl, hb5⟩
      obtain ⟨c, hcc⟩ : ∃ c, c = crcCheck t u := ⟨_, rfl⟩
      rw [← hcc] at HF2 ⊢
      have HB5 := Lib.hid (HB2.out.trans (hb5.mono HB2.out.size))
      clear hcc hb5 HU HCW hu4
      by_cases hc : c = 0
      · have hf : f = (t, s.size - s1.size + 4, 0) := by rw [HF2.out, if_neg (by rw [hc]; simp)]
        subst hc
        have HFF := Lib.hid hf
        clear hf
        go_wp2_with fail
        go_ret3
        rw [HFF.out, HNN.out.symm, HM.out.symm]
        exact ⟨by go_num, HB5.out⟩
      · have hf : f = (⟨#[]⟩, 0, c) := by rw [HF2.out, if_pos hc]
        have HFF := Lib.hid hf
        clear hf
        go_wp2_with fail
        go_ret3
        rw [HFF.out]
        exact ⟨rfl, HB5.out⟩
  · have hf : f = (⟨#[]⟩, 0, e1) := by rw [HF.out, if_pos he]
    subst hf
    go_wp2_with fail
    go_ret3
    exact ⟨rfl, HB2.out⟩

/-- the reference's First -/
theorem four_ext (s1 : ByteArray) (h : 4 ≤ s1.size) : s1.extract 0 (min 4 s1.size) = s1.extract 0 4 := by rw [show min 4 s1.size = 4 by omega]
end Go.Proofs.YtjjejkhekmpgcaaGreat

namespace Go.Proofs.YtjjejkhekmpgcaaGreat
set_option maxRecDepth 4000
open Go.RowKit

theorem firstR_n (s : ByteArray) (h : (firstR s).2.2 = 0) : 4 ≤ (firstR s).2.1 ∧ (firstR s).2.1 ≤ s.size ∧ (firstR s).1.size ≤ s.size := by
  have hx := txtR_size s
  unfold firstR at h ⊢
  obtain ⟨t, s1, e, hn⟩ : ∃ t s1 e, txtR s 0 = (t, s1, e) := ⟨_, _, _, rfl⟩
  rw [hn] at hx h ⊢
  obtain ⟨u, hu⟩ : ∃ u, u = s1.extract 0 (min 4 s1.size) := ⟨_, rfl⟩
  have husz : u.size ≤ s1.size := by rw [hu, ByteArray.size_extract]; omega
  simp only [← hu] at h ⊢
  by_cases he : e = 0
  · rw [if_neg (by rw [he]; simp)] at h ⊢
    by_cases hc : crcCheck t u = 0
    · rw [if_neg (by rw [hc]; simp)]
      obtain ⟨h1, _⟩ := hx he
      have h4 : u.size = 4 := by
        unfold crcCheck at hc
        by_cases h4 : u.size = 4
        · exact h4
        · rw [if_pos h4] at hc; simp at hc
      have h1 : t.size + s1.size ≤ s.size := h1
      refine ⟨?_, ?_, ?_⟩
      · show 4 ≤ s.size - s1.size + 4; omega
      · show s.size - s1.size + 4 ≤ s.size; omega
      · show t.size ≤ s.size; omega
    · rw [if_pos hc] at h; exact absurd h hc
  · rw [if_pos he] at h; exact absurd h he

/-- records are read, fuel by fuel -/
def rdAll : Nat → ByteArray → List ByteArray → List ByteArray × Int
  | 0, _, _ => ([], 99)
  | f + 1, s, acc => if s.size = 0 then (acc, 0) else if (firstR s).2.2 ≠ 0 then ([], (firstR s).2.2) else rdAll f (s.extract (firstR s).2.1 s.size) (acc ++ [(firstR s).1])
/-- what Read answers -/
def readR (s : ByteArray) : List ByteArray × Int := rdAll (s.size + 1) s []

/-- what Read leaves -/
def ReadPost (w : World) (R : List ByteArray × Int) (r : Ending) (w' : World) : Prop :=
  ∃ ad cap, r = .returned (.tuple #[.slice ad R.1.length cap, .int .i64 R.2]) ∧ strsAt w' ad R.1 ∧ R.1.length ≤ cap ∧ cap ≤ 9223372036854775807 ∧ Below w.heap.size w w'
theorem empty_of (s : ByteArray) (h : s.size = 0) : s = ⟨#[]⟩ := by
  apply ByteArray.ext
  apply Array.ext'
  exact List.eq_nil_of_length_eq_zero h

set_option maxHeartbeats 2000000 in
theorem fread_walk (s : ByteArray) (w : World) (hs : s.size ≤ 1000000) :
    Calls Tryz.prog 54 #[.string s] w fun r w' => ReadPost w (readR s) r w' := by
  obtain ⟨R, hR⟩ : ∃ R, R = readR s := ⟨_, rfl⟩
  rw [← hR]
  have HR := Lib.hid hR; have HS := Lib.hid hs
  clear hR hs
  go_enter Tryz.func54, Tryz.ntmps54
  go_wp2_with fail
  go_loopg [0, 4] s.size (fun gk vs vo wr => ∃ (s' : ByteArray) (acc : List ByteArray), vs = .string s' ∧ Row wr w.heap.size vo acc ∧ rdAll (gk + 1) s' acc = R ∧ s'.size ≤ gk ∧ acc.length + s'.size ≤ s.size ∧ Below w.heap.size w wr)
  case atStart => exact ⟨s, [], rfl, Row.nil _ _, by rw [HR.out]; rfl, Nat.le_refl _, by simp, Below.refl _ _⟩
  case round =>
    obtain ⟨s', acc, rfl, hrow, hrd, hgk, hac, hb⟩ := hrel
    have hs1 : s'.size ≤ 1000000 := by have := HS.out; omega
    have hac1 : acc.length ≤ 1000000 := by have := HS.out; omega
    unfold rdAll at hrd
    by_cases h0 : s'.size = 0
    · obtain rfl := empty_of s' h0
      rw [if_pos h0] at hrd
      obtain ⟨ad, cap, rfl, hst, hc1, hc2⟩ := hrow.open
      have HRD := Lib.hid hrd; have HST := Lib.hid hst; have HB := Lib.hid hb
      clear hrd hst hb hrow h0 hs1
      go_wp2_with fail
      go_ret2
      rw [← HRD.out]
      exact ⟨ad, cap, rfl, HST.out, hc1, hc2, HB.out⟩
    · rw [if_neg h0] at hrd
      have hcw := ffirst_walk s' wr (by omega)
      have hfn := firstR_n s'
      obtain ⟨t, n, e, hf⟩ : ∃ t n e, firstR s' = (t, n, e) := ⟨_, _, _, rfl⟩
      rw [hf] at hrd hcw hfn
      have hrd : (if e ≠ 0 then ([], e) else rdAll gk (s'.extract n s'.size) (acc ++ [t])) = R := hrd
      have hfn : e = 0 → 4 ≤ n ∧ n ≤ s'.size ∧ t.size ≤ s'.size := hfn
      have h01 : (0 : Int) < (s'.size : Int) := by omega
      have h02 : s'.toList.isEmpty = false := by
        rw [ByteArray.toList_eq]
        cases hl : s'.data.toList with
        | nil => exact absurd (by rw [show s'.size = s'.data.toList.length by simp, hl]; rfl) h0
        | cons a r => rfl
      have HROW := Lib.hid hrow; have HRD := Lib.hid hrd; have HB := Lib.hid hb; have HCW := Lib.hid hcw; have HFN := Lib.hid hfn; have HS1 := Lib.hid hs1; have HAC := Lib.hid hac; have HAC1 := Lib.hid hac1
      clear hrow hrd hb hcw hfn hf h0 hs1 hac hac1
      go_wp2_with fail
      refine HCW.out.mono ?_
      rintro r w1 ⟨rfl, hb1⟩
      have HB1 := Lib.hid (HB.out.trans (hb1.mono HB.out.size))
      have HR1 := Lib.hid (HROW.out.keep hb1 (Nat.le_refl _))
      clear hb1 HB HROW HCW
      by_cases he : e = 0
      · obtain ⟨hn4, hns, _⟩ := HFN.out he
        subst he
        have hsz : (s'.extract n s'.size).size = s'.size - n := by rw [ByteArray.size_extract]; omega
        have hn4i : (4 : Int) ≤ (n : Int) := by omega
        have HSZ := Lib.hid hsz; have HN4 := Lib.hid hn4; have HNS := Lib.hid hns
        have HB2 := Lib.hid HB1.out.size
        clear hsz hn4 hn4i HFN
        go_wp2_with (at_builtin; refine wpList_append_row rfl _ _ rfl w.heap.size _ acc rfl (World.ownsRow.alloc HR1.out _) _ [t] rfl (src_new t _) ?_ ?_ ?_)
        · have := HAC1.out; simp; omega
        · have := HB2.out; simp; omega
        intro v3 w3 hr3 hg3 hp3
        have hrow1 : Row (w1.alloc (.cells #[.string t] 9)) w.heap.size u4 acc := World.ownsRow.alloc HR1.out _
        have hb3 := below_of_grown (HB1.out.alloc HB1.out.size (.cells #[.string t] 9)) hg3 (by have := HB2.out; simp; omega) (fun j hj => (hrow1.lt j hj).1)
        have M1 := Lib.hid hr3; have M2 := Lib.hid hb3
        clear hr3 hg3 hp3 hrow1 hb3
        go_wp2_with fail
        go_roundg (gk - 1)
        case measure => have h1 := HSZ.out; have h2 := HN4.out; have h3 := HNS.out; omega
        case rel =>
          have h1 := HSZ.out; have h2 := HN4.out; have h3 := HNS.out; have h4 := HAC.out
          refine ⟨s'.extract n s'.size, acc ++ [t], rfl, M1.out, ?_, by omega, by rw [List.length_append, h1, List.length_singleton]; omega, M2.out⟩
          rw [← HRD.out, if_neg (by simp), show gk - 1 + 1 = gk by omega]
      · have hR : R = ([], e) := by rw [← HRD.out, if_pos he]
        subst hR
        clear HRD
        go_wp2_with fail
        go_ret2
        exact ⟨none, 0, rfl, .inl rfl, Nat.le_refl _, by omega, HB1.out⟩
end Go.Proofs.YtjjejkhekmpgcaaGreat

namespace Go.Proofs.YtjjejkhekmpgcaaGreat
set_option maxRecDepth 4000
open Go.RowKit

theorem data_of (s : ByteArray) : (⟨s.data.toList.toArray⟩ : ByteArray) = s := by apply ByteArray.ext; simp
theorem ext_of (l : List UInt8) (a b : Nat) : (⟨l.toArray⟩ : ByteArray).extract a b = ⟨((l.take b).drop a).toArray⟩ := by
  apply ByteArray.ext
  apply Array.ext'
  rw [ByteArray.data_extract, Array.toList_extract, List.extract_eq_take_drop]
  simp [List.drop_take]
theorem ext_list (s : ByteArray) (a b : Nat) : (s.extract a b).data.toList = (s.data.toList.take b).drop a := by
  rw [ByteArray.data_extract, Array.toList_extract, List.extract_eq_take_drop, List.drop_take]
theorem list_of_size (s : ByteArray) : s.data.toList.length = s.size := by simp
theorem firstR_laid (s : ByteArray) (rest : List UInt8) (hs : s.size ≤ 9223372036854775807) : firstR ⟨(oneR s ++ rest).toArray⟩ = (s, (oneR s).length, 0) := by
  have h := txt_laid s.data.toList (fourOf (crcSum s.data.toList) ++ rest) hs
  rw [list_of_size, data_of] at h
  have e : lebN s.size ++ (s.data.toList ++ (fourOf (crcSum s.data.toList) ++ rest)) = oneR s ++ rest := by unfold oneR; simp only [List.append_assoc]
  rw [e] at h
  have h4 : (⟨(fourOf (crcSum s.data.toList) ++ rest).toArray⟩ : ByteArray).size = 4 + rest.length := by
    rw [bytes_len, List.length_append, fourOf_length]
  have hx : (⟨(fourOf (crcSum s.data.toList) ++ rest).toArray⟩ : ByteArray).extract 0 (min 4 (4 + rest.length)) = ⟨(fourOf (crcSum s.data.toList)).toArray⟩ := by
    rw [show min 4 (4 + rest.length) = 4 by omega, ext_of, List.drop_zero]
    rfl
  have hck : crcCheck s ⟨(fourOf (crcSum s.data.toList)).toArray⟩ = 0 := by
    unfold crcCheck
    rw [if_neg (by rw [bytes_len, fourOf_length]; simp), if_pos rfl]
  unfold firstR
  rw [h]
  show (if (0 : Int) ≠ 0 then _ else if crcCheck s ((⟨(fourOf (crcSum s.data.toList) ++ rest).toArray⟩ : ByteArray).extract 0 (min 4 (⟨(fourOf (crcSum s.data.toList) ++ rest).toArray⟩ : ByteArray).size)) ≠ 0 then _ else (s, (⟨(oneR s ++ rest).toArray⟩ : ByteArray).size - (⟨(fourOf (crcSum s.data.toList) ++ rest).toArray⟩ : ByteArray).size + 4, 0)) = _
  rw [if_neg (by simp), h4, hx, hck, if_neg (by simp), bytes_len, List.length_append]
  have := oneR_length s
  rw [show (oneR s).length + rest.length - (4 + rest.length) + 4 = (oneR s).length by omega]
theorem rdAll_laid : ∀ (l : List ByteArray) (f : Nat) (acc : List ByteArray), (∀ s ∈ l, s.size ≤ 9223372036854775807) → (allR l).length < f → rdAll f ⟨(allR l).toArray⟩ acc = (acc ++ l, 0)
  | [], f + 1, acc, _, _ => by
    unfold rdAll
    rw [if_pos (by rw [bytes_len]; rfl), List.append_nil]
  | s :: l, f + 1, acc, hz, hf => by
    have hf1 := firstR_laid s (allR l) (hz s (by simp))
    rw [← allR_cons] at hf1
    have h1 := oneR_length s
    have hl : (allR (s :: l)).length = (oneR s).length + (allR l).length := by rw [allR_cons, List.length_append]
    unfold rdAll
    rw [hf1]
    show (if (⟨(allR (s :: l)).toArray⟩ : ByteArray).size = 0 then _ else if (0 : Int) ≠ 0 then _ else rdAll f ((⟨(allR (s :: l)).toArray⟩ : ByteArray).extract (oneR s).length (⟨(allR (s :: l)).toArray⟩ : ByteArray).size) (acc ++ [s])) = _
    rw [if_neg (by rw [bytes_len]; omega), if_neg (by simp), bytes_len, ext_of, List.take_length, allR_cons, List.drop_left, rdAll_laid l f (acc ++ [s]) (fun t ht => hz t (by simp [ht])) (by omega), List.append_assoc]
    rfl
  | [], 0, _, _, h => absurd h (by omega)
  | s :: l, 0, _, _, h => absurd h (by omega)
theorem readR_laid (l : List ByteArray) (hz : ∀ s ∈ l, s.size ≤ 9223372036854775807) : readR ⟨(allR l).toArray⟩ = (l, 0) := by
  unfold readR
  rw [rdAll_laid l _ [] hz (by rw [bytes_len]; omega), List.nil_append]

theorem firstR_one (s : ByteArray) (h : (firstR s).2.2 = 0) : s.data.toList = oneR (firstR s).1 ++ (s.extract (firstR s).2.1 s.size).data.toList := by
  have hno := num_one s
  have hx := txtR_size s
  have hfn := firstR_n s h
  have htx : txtR s 0 = takeR (numR s 0).2.1 (numR s 0).2.2 (numR s 0).1 := rfl
  unfold firstR at h hfn ⊢
  obtain ⟨N, s2, e2, hN⟩ : ∃ N s2 e2, numR s 0 = (N, s2, e2) := ⟨_, _, _, rfl⟩
  rw [hN] at hno htx
  obtain ⟨t, s1, e, hn⟩ : ∃ t s1 e, txtR s 0 = (t, s1, e) := ⟨_, _, _, rfl⟩
  rw [hn] at hx h hfn htx ⊢
  obtain ⟨u, hu⟩ : ∃ u, u = s1.extract 0 (min 4 s1.size) := ⟨_, rfl⟩
  simp only [← hu] at h hfn ⊢
  by_cases he : e = 0
  · subst he
    rw [if_neg (by simp)] at h hfn ⊢
    by_cases hc : crcCheck t u = 0
    · rw [if_neg (by rw [hc]; simp)] at hfn ⊢
      -- the text and what is left of it
      have he2 : e2 = 0 := by
        by_cases h0 : e2 = 0
        · exact h0
        · unfold takeR at htx; rw [if_pos h0] at htx; exact absurd (congrArg (fun p => p.2.2) htx).symm h0
      subst he2
      obtain ⟨hs, _⟩ : s.data.toList = lebN N ++ s2.data.toList ∧ N ≤ 9223372036854775807 := hno rfl
      unfold takeR at htx
      rw [if_neg (by simp)] at htx
      by_cases hlt : s2.size < N
      · rw [if_pos hlt] at htx
        have := congrArg (fun p => p.2.2) htx
        simp at this
      · rw [if_neg hlt] at htx
        have ht : t = s2.extract 0 N := congrArg (fun p => p.1) htx
        have hs1 : s1 = s2.extract N s2.size := congrArg (fun p => p.2.1) htx
        have hts : t.size = N := by rw [ht, ByteArray.size_extract]; omega
        have h2 : s2.data.toList = t.data.toList ++ s1.data.toList := by
          rw [ht, hs1, ext_list, ext_list, List.drop_zero, ← list_of_size s2, List.take_length, List.take_append_drop]
        -- the four bytes
        have h4 : u.size = 4 ∧ u = ⟨(fourOf (crcSum t.data.toList)).toArray⟩ := by
          unfold crcCheck at hc
          by_cases h4 : u.size = 4
          · rw [if_neg (by omega)] at hc
            by_cases h5 : u = ⟨(fourOf (crcSum t.data.toList)).toArray⟩
            · exact ⟨h4, h5⟩
            · rw [if_neg h5] at hc; simp at hc
          · rw [if_pos h4] at hc; simp at hc
        obtain ⟨hu4, hu5⟩ := h4
        have hs14 : 4 ≤ s1.size := by rw [hu, ByteArray.size_extract] at hu4; omega
        have h3 : s1.data.toList = fourOf (crcSum t.data.toList) ++ s1.data.toList.drop 4 := by
          have : s1.data.toList.take 4 = fourOf (crcSum t.data.toList) := by
            have e0 := data_of s1
            rw [show min 4 s1.size = 4 by omega, ← e0, ext_of, List.drop_zero] at hu
            rw [hu5] at hu
            have := congrArg (fun b : ByteArray => b.data.toList) hu
            simpa using this.symm
          rw [← this, List.take_append_drop]
        -- what is left behind
        have hlen : s.size = (lebN N).length + (t.size + s1.size) := by
          rw [← list_of_size, hs, h2, List.length_append, List.length_append, list_of_size, list_of_size]
        have h5 : (s.extract (s.size - s1.size + 4) s.size).data.toList = s1.data.toList.drop 4 := by
          rw [ext_list, ← list_of_size s, List.take_length, list_of_size, show s.size - s1.size + 4 = (lebN N ++ t.data.toList).length + 4 by rw [List.length_append, list_of_size]; omega]
          rw [hs, h2, ← List.append_assoc, ← List.drop_drop, List.drop_left]
        show s.data.toList = oneR t ++ (s.extract (s.size - s1.size + 4) s.size).data.toList
        rw [h5]
        unfold oneR
        rw [hs, h2, hts, List.append_assoc, List.append_assoc, ← h3]
    · rw [if_pos hc] at h; exact absurd h hc
  · rw [if_pos he] at h; exact absurd h he

theorem rdAll_one : ∀ (f : Nat) (s : ByteArray) (acc k : List ByteArray), rdAll f s acc = (k, 0) → ∃ l, k = acc ++ l ∧ s.data.toList = allR l
  | 0, s, acc, k, h => by
    unfold rdAll at h
    have := congrArg (fun p => p.2) h
    simp at this
  | f + 1, s, acc, k, h => by
    unfold rdAll at h
    by_cases h0 : s.size = 0
    · rw [if_pos h0] at h
      refine ⟨[], by rw [List.append_nil]; exact (congrArg (fun p => p.1) h).symm, ?_⟩
      rw [empty_of s h0]
      rfl
    · rw [if_neg h0] at h
      by_cases he : (firstR s).2.2 = 0
      · rw [if_neg (by rw [he]; simp)] at h
        obtain ⟨l, h1, h2⟩ := rdAll_one f _ _ _ h
        refine ⟨(firstR s).1 :: l, by rw [h1, List.append_assoc]; rfl, ?_⟩
        rw [allR_cons, ← h2]
        exact firstR_one s he
      · rw [if_pos he] at h
        exact absurd (congrArg (fun p => p.2) h) he
theorem readR_one (s : ByteArray) (h : (readR s).2 = 0) : s.data.toList = allR (readR s).1 := by
  obtain ⟨l, h1, h2⟩ := rdAll_one (s.size + 1) s [] (readR s).1 (by
    have : readR s = ((readR s).1, (readR s).2) := rfl
    rw [h] at this
    exact this)
  rw [h1, List.nil_append]
  exact h2
theorem rdAll_bad : ∀ (f : Nat) (s : ByteArray) (acc : List ByteArray), (rdAll f s acc).2 ≠ 0 → (rdAll f s acc).1 = []
  | 0, s, acc, _ => rfl
  | f + 1, s, acc, h => by
    unfold rdAll at h ⊢
    by_cases h0 : s.size = 0
    · rw [if_pos h0] at h; simp at h
    · rw [if_neg h0] at h ⊢
      by_cases he : (firstR s).2.2 = 0
      · rw [if_neg (by rw [he]; simp)] at h ⊢
        exact rdAll_bad f _ _ h
      · rw [if_pos he]
theorem rdAll_size : ∀ (f : Nat) (s : ByteArray) (acc : List ByteArray), (rdAll f s acc).1.length ≤ acc.length + s.size ∧ ∀ x ∈ (rdAll f s acc).1, x ∈ acc ∨ x.size ≤ s.size
  | 0, s, acc => ⟨Nat.zero_le _, fun x hx => by cases hx⟩
  | f + 1, s, acc => by
    unfold rdAll
    by_cases h0 : s.size = 0
    · rw [if_pos h0]; exact ⟨Nat.le_add_right _ _, fun x hx => .inl hx⟩
    · rw [if_neg h0]
      by_cases he : (firstR s).2.2 = 0
      · rw [if_neg (by rw [he]; simp)]
        obtain ⟨h1, h2, h3⟩ := firstR_n s he
        obtain ⟨i1, i2⟩ := rdAll_size f (s.extract (firstR s).2.1 s.size) (acc ++ [(firstR s).1])
        have hsz : (s.extract (firstR s).2.1 s.size).size = s.size - (firstR s).2.1 := by rw [ByteArray.size_extract]; omega
        rw [hsz, List.length_append, List.length_singleton] at i1
        refine ⟨by omega, fun x hx => ?_⟩
        rcases i2 x hx with h | h
        · rcases List.mem_append.1 h with h | h
          · exact .inl h
          · rw [List.mem_singleton.1 h]; exact .inr h3
        · rw [hsz] at h; exact .inr (by omega)
      · rw [if_pos he]; exact ⟨Nat.zero_le _, fun x hx => by cases hx⟩
end Go.Proofs.YtjjejkhekmpgcaaGreat

namespace Go.Proofs.YtjjejkhekmpgcaaGreat
set_option maxRecDepth 4000
open Go.RowKit

theorem str_add3 (l m : List UInt8) (s : ByteArray) : ((⟨l.toArray⟩ : ByteArray) ++ s) ++ ⟨m.toArray⟩ = ⟨(l ++ (s.data.toList ++ m)).toArray⟩ := by
  apply ByteArray.ext
  apply Array.ext'
  rw [ByteArray.data_append, ByteArray.data_append]
  simp

set_option maxHeartbeats 400000 in
theorem rone_walk (s : ByteArray) (w : World) (hs : s.size ≤ 131072) :
    Calls Tryz.prog 40 #[.string s] w fun r w' => r = .returned (.string ⟨(oneR s).toArray⟩) ∧ Below w.heap.size w w' := by
  go_enter Tryz.func40, Tryz.ntmps40
  go_wp2_with fail
  refine (rtext_walk s _ hs).mono ?_
  rintro r w1 ⟨rfl, hb1⟩
  obtain ⟨t, ht⟩ : ∃ t : ByteArray, t = ⟨(lebN s.size).toArray⟩ ++ s := ⟨_, rfl⟩
  have hts : t.size = (lebN s.size).length + s.size := by rw [ht, ByteArray.size_append, bytes_len]
  have h9 := lebN_nine s.size (by omega)
  have hsz : t.size ≤ 9223372036854775803 := by omega
  rw [← ht]
  have HT := Lib.hid ht; have HB := Lib.hid hb1; have HSZ := Lib.hid hsz
  clear ht hb1 hts h9 hsz
  go_wp2_with fail
  refine (refFour_walk s _ (by omega)).mono ?_
  rintro r w2 ⟨rfl, hb2⟩
  obtain ⟨f, hf⟩ : ∃ f : ByteArray, f = ⟨(fourOf (crcSum s.data.toList)).toArray⟩ := ⟨_, rfl⟩
  have hfs : f.size = 4 := by rw [hf]; exact bytes_len _
  have hsum : t.size + f.size ≤ 9223372036854775807 := by have := HSZ.out; omega
  rw [← hf]
  have HF := Lib.hid hf; have HB2 := Lib.hid (HB.out.trans (hb2.mono HB.out.size))
  clear hf hfs hb2 hs
  go_wp2_with fail
  go_ret
  rw [HT.out, HF.out]
  exact ⟨ret_string (str_add3 _ _ _), HB2.out⟩

theorem allR_bound : ∀ (l : List ByteArray) (B : Nat), (∀ s ∈ l, s.size ≤ B) → B ≤ 9223372036854775807 → (allR l).length ≤ l.length * (B + 13)
  | [], B, _, _ => by simp [allR]
  | s :: l, B, h, hB => by
    have h1 := h s (by simp)
    have h2 := allR_bound l B (fun t ht => h t (by simp [ht])) hB
    have h9 := lebN_nine s.size (by omega)
    rw [allR_cons, List.length_append, oneR_length, List.length_cons, Nat.add_mul, Nat.one_mul]
    omega
/-- records that are not far too long -/
def lightB (l : List ByteArray) : Bool := l.all (fun s => decide (s.size ≤ 300)) && decide (l.length ≤ 40)
theorem ab_size : (allR [⟨#[97, 98]⟩, ⟨#[]⟩]).length = 12 := by
  have h1 := oneR_length ⟨#[97, 98]⟩
  have h2 := oneR_length ⟨#[]⟩
  rw [show (⟨#[97, 98]⟩ : ByteArray).size = 2 from rfl, lebN_small (by omega)] at h1
  rw [show (⟨#[]⟩ : ByteArray).size = 0 from rfl, lebN_small (by omega)] at h2
  rw [allR_cons, allR_cons, List.length_append, List.length_append, h1, h2]
  rfl
theorem ab_at (w : World) (t : TypeId) : strsAt (w.alloc (.cells #[.string ⟨#[97, 98]⟩, .string ⟨#[]⟩] t)) (some ⟨w.heap.size, 0, none⟩) [⟨#[97, 98]⟩, ⟨#[]⟩] := by
  refine .inr ⟨w.heap.size, 0, rfl, by simp, fun i hi => ?_⟩
  rw [cell_of_row _ w.heap.size (0 + i) _ _ _ (heap_alloc_top w _)]
  match i, hi with
  | 0, _ => rfl
  | 1, _ => rfl
  | i + 2, hi => exact absurd hi (by simp)
end Go.Proofs.YtjjejkhekmpgcaaGreat

namespace Go.Proofs.YtjjejkhekmpgcaaGreat
set_option maxRecDepth 4000
open Go.ChangeShapes Go.WideShapes Go.ChangeAt Go.RowKit
section
variable {H : Type} {enc : TypeId × Value → H} {w : World} {base : Nat} {spare : Nat → Bool} {held : Bool}
theorem so_cells_string : Tryz.prog.cellsOf 9 = 1 := by kernel_rfl
theorem so_block_of_cell {b off : Nat} {v : Value} (h : w.cell? ⟨b, off, none⟩ = some v) : b < w.heap.size := by
  rcases Nat.lt_or_ge b w.heap.size with h' | h'
  · exact h'
  · simp [World.cell?, h'] at h
theorem so_add_none (b off k : Nat) : (⟨b, off, none⟩ : Addr).add k = ⟨b, off + k, none⟩ := by unfold Addr.add; split <;> simp_all
theorem open_strings {r : Reach} {b0 : Nat} {v : Value} {d : DataW H} {ps : List MemPlace} (hv : Value.okWide Tryz.prog w r b0 46 v) (h : DataW.Trod enc Tryz.prog w base spare held 46 v d ps) :
    ∃ ad cap, ∃ l : List ByteArray, v = .slice ad l.length cap ∧ strsAt w ad l ∧ l.length ≤ cap ∧ cap ≤ 9223372036854775807 := by
  obtain ⟨a0, len0, cap0, rfl⟩ := okWide_slice Tryz.underlying46 hv
  obtain ⟨fuel, hf⟩ := h
  simp only [Value.cells] at hf
  rcases Go.Deep.open_strs Tryz.underlying46 Tryz.underlying9 so_cells_string hf with ⟨e, _⟩ | ⟨a, len, cap, m, Sx, e, _, hl, hm, hmm, _, hx⟩
  · simp at e
    obtain ⟨rfl, rfl, rfl⟩ := e
    exact ⟨none, 0, [], rfl, .inl rfl, by simp, by simp⟩
  · simp at e
    obtain ⟨rfl, rfl, rfl⟩ := e
    have hlm : len0 ≤ m := by rw [hmm]; split <;> omega
    refine ⟨some a, cap0, (List.range len0).map Sx, by simp, ?_, by simpa using hl, by unfold maxLen at hm; omega⟩
    rcases Nat.eq_zero_or_pos len0 with rfl | hp
    · exact .inl rfl
    obtain ⟨b, off, spot⟩ := a
    have hspot : spot = none := by simpa [Addr.add] using World.cell?_spot (hx 0 (by omega)).1
    subst hspot
    simp only [so_add_none] at hx
    refine .inr ⟨b, off, rfl, so_block_of_cell (hx 0 (by omega)).1, fun i hi => ?_⟩
    have hi' : i < len0 := by simpa using hi
    simp only [List.getElem_map, List.getElem_range]
    exact (hx i (by omega)).1
end
end Go.Proofs.YtjjejkhekmpgcaaGreat
