/-
  Layer 4: Lay.
-/
import Derived.Test.YtfiigmimhdnpnaaFrmA
namespace Go.Proofs.Ytfiigmimhdnpnaa
open Go.RowKit

theorem bytes_of (l : List UInt8) : (⟨l.toArray⟩ : ByteArray).data.toList = l := by simp
theorem bytes_len (l : List UInt8) : (⟨l.toArray⟩ : ByteArray).size = l.length := List.size_toArray

set_option maxHeartbeats 1000000 in
theorem lay1f_walk (q : Nat) (vb : Value) (l : List UInt8) (s : ByteArray) (w : World) (hq : w.heap[q]? = some (.cells #[vb] 38 (0, 0))) (hrow : w.ownsRow (q + 1) 5 1 vb l.length (bv l))
    (hl : l.length ≤ 70000) (hs : (lebN s.size).length + s.size ≤ 65536) :
    Calls Try.prog 18 #[.string s, .pointer (some ⟨q, 0, none⟩)] w fun e w' => e = .returned (.tuple #[]) ∧ Below q w w' ∧ ∃ v', w'.heap[q]? = some (.cells #[v'] 38 (0, 0)) ∧ w'.ownsRow (q + 1) 5 1 v' (l ++ oneR s).length (bv (l ++ oneR s)) := by
  obtain ⟨i0, hi, hz0, hz1, hz2⟩ := info_parts info_u8
  have hlq := lt_of_block hq
  have hlay := lay_txt s hs
  obtain ⟨t, ht⟩ : ∃ t : ByteArray, t = ⟨(lebN s.size ++ s.data.toList).toArray⟩ := ⟨_, rfl⟩
  rw [← ht] at hlay
  have htd : t.data.toList = lebN s.size ++ s.data.toList := by rw [ht]
  have hts : t.size ≤ 65536 := by
    have : t.size = (lebN s.size ++ s.data.toList).length := by rw [ht]; exact bytes_len _
    rw [this, List.length_append]
    simpa using hs
  have HLAY := Lib.hid hlay; have HTD := Lib.hid htd; have HTS := Lib.hid hts
  obtain ⟨n, hn⟩ : ∃ n, n = l.length := ⟨_, rfl⟩
  rw [← hn] at hrow hl
  have HN := Lib.hid hn; have HR := Lib.hid hrow; have HQ := Lib.hid hq
  clear hlay ht htd hts hn hrow hq
  go_enter Try.func18, Try.ntmps18
  go_wp2_with fail
  refine (t_walk s _).mono ?_
  rintro r w1 ⟨rfl, hb1⟩
  unfold fld
  have HB1 := Lib.hid hb1
  clear hb1
  go_wp2_with fail
  have hat := one_at (f := ((0 : Int), s, true)) (heap_alloc_top w1 (.cells #[.int .i64 0, .string s, .bool true] 43))
  have hB2 := HB1.out.alloc HB1.out.size (.cells #[.int .i64 0, .string s, .bool true] 43)
  refine (lay_walk (some ⟨w1.heap.size, 0, none⟩) 1 [((0 : Int), s, true)] _ hat (by simp) (by
    intro f hf
    simp only [List.mem_cons, List.not_mem_nil, or_false] at hf
    subst hf
    exact ⟨by show (0 : Int) ≤ _; omega, by show s.size ≤ _; omega⟩)).mono ?_
  rintro r w2 ⟨rfl, hb2⟩
  rw [HLAY.out]
  have hB3 := hB2.trans (hb2.mono hB2.size)
  have hq2 := (hB3.block q hlq).trans HQ.out
  have hr2 : w2.ownsRow (q + 1) 5 1 vb n (bv l) := World.ownsRow.kept HR.out (row := none) ⟨hB3.os, hB3.tape, hB3.output, hB3.size, fun k hk _ => hB3.block k hk⟩ (by cases vb.ownBlock <;> simp)
  have hc2 := cell_of_row w2 q 0 _ _ _ hq2
  simp only [List.getElem?_toArray, List.getElem?_cons_zero] at hc2
  have hBq : Below q w w2 := hB3.mono (by omega)
  have hq1 : q + 1 ≤ w2.heap.size := lt_of_block hq2
  have HQ2 := Lib.hid hq2; have HR2 := Lib.hid hr2; have HBQ := Lib.hid hBq; have HQ1 := Lib.hid hq1
  clear hat hB2 hb2 hB3 hq2 hr2 hBq HB1 HLAY HR HQ hq1
  go_wp2_with (at_builtin; refine wpList_append_at _ rfl _ _ 38 9 rfl (q + 1) 5 i0 (.int .u8 0) 1 1 Try.underlying38 hi hz0 hz1 hz2 rfl (by decide) vb n (bv l) rfl HR2.out (.string t) t.size (bv t.data.toList) rfl (src_bytes _ Try.underlying9 t) (by unfold maxLen; have := HTS.out; omega) (by have := HTS.out; omega) HQ1.out ?_)
  intro v3 w3 hr3 hg3 hp3
  rw [HTD.out] at hr3
  have hq3 := (hg3.block q (lt_of_block HQ2.out) (fun e => by have := (HR2.out.lt q e.symm).1; omega)).trans HQ2.out
  have hb3 := below_of_grown HBQ.out hg3 (by have := lt_of_block HQ2.out; omega) (fun k hk => by have := (HR2.out.lt k hk).1; omega)
  have hlt : t.size = (lebN s.size ++ s.data.toList).length := by rw [← HTD.out]; simp
  have H3 := Lib.hid hr3; have HQ3 := Lib.hid hq3; have HB3 := Lib.hid hb3; have HLT := Lib.hid hlt
  have hv3 : v3.ownBlock = none ∨ ∀ k, v3.ownBlock = some k → q + 1 ≤ k := .inr fun k hk => (hr3.lt k hk).1
  clear hr3 hg3 hp3 hq3 hb3 hlt hv3 HQ2 HR2 HBQ hc2
  go_wp2_with fail
  refine (four_walk s _ (by omega)).mono ?_
  rintro r w4 ⟨rfl, hb4⟩
  have hq4 := (hb4.block q (lt_of_block HQ3.out)).trans HQ3.out
  have hr4 : w4.ownsRow (q + 1) 5 1 v3 (n + t.size) (bv l ++ bv (lebN s.size ++ s.data.toList)) := World.ownsRow.kept H3.out (row := none) ⟨hb4.os, hb4.tape, hb4.output, hb4.size, fun k hk _ => hb4.block k hk⟩ (by cases v3.ownBlock <;> simp)
  have hb4' := HB3.out.trans (hb4.mono (by have := lt_of_block HQ3.out; omega))
  obtain ⟨f, hf⟩ : ∃ f : ByteArray, f = ⟨(fourOf (crcSum s.data.toList)).toArray⟩ := ⟨_, rfl⟩
  have hfd : f.data.toList = fourOf (crcSum s.data.toList) := by rw [hf]
  have hfs : f.size = 4 := by rw [hf]; exact bytes_len _
  rw [← hf]
  have HR4 := Lib.hid hr4; have HQ4 := Lib.hid hq4; have HB4 := Lib.hid hb4'; have HFD := Lib.hid hfd; have HFS := Lib.hid hfs
  have HQ1 := Lib.hid (lt_of_block hq4)
  clear hb4 hq4 hr4 hb4' hf hfd hfs HB3 HQ3 H3
  go_wp2_with (at_builtin; refine wpList_append_at _ rfl _ _ 38 9 rfl (q + 1) 5 i0 (.int .u8 0) 1 1 Try.underlying38 hi hz0 hz1 hz2 rfl (by decide) v3 (n + t.size) (bv l ++ bv (lebN s.size ++ s.data.toList)) rfl HR4.out (.string f) f.size (bv f.data.toList) rfl (src_bytes _ Try.underlying9 f) (by unfold maxLen; have := HTS.out; have := HFS.out; omega) (by have := HTS.out; have := HFS.out; omega) HQ1.out ?_)
  intro v5 w5 hr5 hg5 hp5
  obtain ⟨m, hm⟩ : ∃ m, m = n + t.size + f.size := ⟨_, rfl⟩
  rw [← hm] at hr5
  rw [HFD.out] at hr5
  have hq5 := (hg5.block q (lt_of_block HQ4.out) (fun e => by have := (HR4.out.lt q e.symm).1; omega)).trans HQ4.out
  have hb5 := below_of_grown HB4.out hg5 (by have := lt_of_block HQ4.out; omega) (fun k hk => by have := (HR4.out.lt k hk).1; omega)
  have hc5 := cell_of_row w5 q 0 _ _ _ hq5
  simp only [List.getElem?_toArray, List.getElem?_cons_zero] at hc5
  have hf5 : w5.frozen? ⟨q, 0, none⟩ = false := by simp [World.frozen?, hq5]
  have hlen : m = (l ++ oneR s).length := by
    rw [hm, List.length_append, oneR_length, ← HN.out, HFS.out, HLT.out, List.length_append]
    have : s.data.toList.length = s.size := by simp
    omega
  have hbv : bv l ++ (bv (lebN s.size ++ s.data.toList) ++ bv (fourOf (crcSum s.data.toList))) = bv (l ++ oneR s) := by
    rw [← bv_append, ← bv_append]; unfold oneR; simp only [List.append_assoc]
  obtain ⟨ad5, cap5, rfl⟩ := own_form hr5
  try rw [List.append_assoc] at hr5
  rw [hbv] at hr5
  have HR5 := Lib.hid hr5; have HQ5 := Lib.hid hq5; have HB5 := Lib.hid hb5; have HLEN := Lib.hid hlen
  clear hm hr5 hg5 hp5 hq5 hb5 hlen hbv HR4 HQ4 HB4
  go_wp2_with fail
  refine bodyPost_end (results_none rfl _ _ _) rfl ⟨rfl, HB5.out.setCell (Nat.le_refl _) _, _, setCell_block HQ5.out _, ?_⟩
  have ho := HR5.out
  rw [← HLEN.out]
  refine ownsRow_setCell_other ho (fun e => ?_) _
  have := (ho.lt q e).1
  omega
end Go.Proofs.Ytfiigmimhdnpnaa
