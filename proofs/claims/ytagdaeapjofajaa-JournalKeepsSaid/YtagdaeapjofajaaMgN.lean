/-
  Layer 5: light records; the reference's Head; texts of texts.
  Layer 5: texts of texts that came in, opened.
-/
import Derived.Test.YtagdaeapjofajaaMgM
import Derived.Test.YtagdaeapjofajaaMgE
import Derived.Test.YtagdaeapjofajaaMgA
import Derived.Deep.Strs
import Derived.Deep.SlicePairs
namespace Go.Proofs.Ytagdaeapjofajaa
set_option maxRecDepth 4000
open Go.RowKit

/-- records that are not far too long -/
def lightJ (l : List ByteArray) : Bool := l.all (fun s => decide (s.size ≤ 200)) && decide (l.length ≤ 12)
theorem lightJ_size {l : List ByteArray} (h : lightJ l = true) : (∀ s ∈ l, s.size ≤ 200) ∧ l.length ≤ 12 ∧ (allR l).length ≤ 2556 := by
  unfold lightJ at h
  rw [Bool.and_eq_true] at h
  have h1 : ∀ s ∈ l, s.size ≤ 200 := fun s hs => by
    have := List.all_eq_true.1 h.1 s hs
    simpa using this
  have h2 : l.length ≤ 12 := by simpa using h.2
  refine ⟨h1, h2, ?_⟩
  have := allR_bound l 200 h1 (by omega)
  have h3 : l.length * (200 + 13) ≤ 12 * 213 := Nat.mul_le_mul_right _ h2
  omega
set_option maxHeartbeats 400000 in
theorem lightJ_walk (ad : Option Addr) (cap : Nat) (l : List ByteArray) (w : World) (hl : strsAt w ad l) (hs : l.length ≤ 9223372036854775807) :
    Calls Try.prog 11 #[.slice ad l.length cap] w fun r w' => r = .returned (.bool (lightJ l)) ∧ w' = w := by
  have HL := Lib.hid hl
  clear hl
  go_enter Try.func11, Try.ntmps11
  go_wp2_with fail
  go_loopg [3] l.length (fun gk i wr => ∃ k : Nat, k + gk = l.length ∧ i = .int .i64 k ∧ (l.take k).all (fun s => decide (s.size ≤ 200)) = true ∧ wr = w)
  case atStart => exact ⟨0, by omega, rfl, rfl, rfl⟩
  case round =>
    obtain ⟨k, hgk, rfl, hall, rfl⟩ := hrel
    have HALL := Lib.hid hall
    clear hall
    by_cases hlt : k < l.length
    · rcases HL.out with hat | ⟨bl, off, rfl, hbl, hcs⟩
      · simp [hat] at hlt
      have hc := hcs k hlt
      have htk := List.take_succ_eq_append_getElem hlt
      have hmem := List.getElem_mem hlt
      obtain ⟨s, hsk⟩ : ∃ s, s = l[k] := ⟨_, rfl⟩
      rw [← hsk] at hc htk hmem
      have HTK := Lib.hid htk; have HM := Lib.hid hmem
      clear hcs hsk htk hmem
      by_cases hbig : (200 : Int) < (s.size : Int)
      · have HB := Lib.hid hbig
        go_wp2_with fail
        go_ret
        refine ⟨ret_bool ?_, rfl⟩
        unfold lightJ
        have : l.all (fun s => decide (s.size ≤ 200)) = false := by
          rw [List.all_eq_false]
          exact ⟨s, HM.out, by have := HB.out; simp; omega⟩
        rw [this]; rfl
      · have HB := Lib.hid hbig
        go_wp2_with fail
        go_roundg (gk - 1)
        case measure => omega
        case rel => exact ⟨k + 1, by omega, by go_num, by rw [HTK.out, List.all_append, HALL.out]; have := HB.out; simp; omega, rfl⟩
    · obtain rfl : k = l.length := by omega
      rw [List.take_length] at HALL
      go_wp2_with fail
      go_ret
      refine ⟨ret_bool ?_, rfl⟩
      unfold lightJ
      rw [HALL.out]
      simp only [Bool.true_and, decide_eq_decide]
      omega

set_option maxHeartbeats 1000000 in
theorem rhead_walk (q h u : Nat) (w : World) (hq : q ≤ 9223372036854775807) (hh : h ≤ 9223372036854775807) (hu : u ≤ 9223372036854775807) :
    Calls Try.prog 19 #[.int .i64 q, .int .i64 h, .int .i64 u] w fun r w' => r = .returned (.string ⟨(headB q h u).toArray⟩) ∧ Below w.heap.size w w' := by
  have a1 := lebN_nine q hq
  have a2 := lebN_nine h hh
  have a3 := lebN_nine u hu
  have hl34 := (headB_length q h u hq hh hu).1
  obtain ⟨b1, hb1⟩ : ∃ b : ByteArray, b = ⟨(lebN q).toArray⟩ := ⟨_, rfl⟩
  obtain ⟨b2, hb2⟩ : ∃ b : ByteArray, b = ⟨(lebN h).toArray⟩ := ⟨_, rfl⟩
  obtain ⟨b3, hb3⟩ : ∃ b : ByteArray, b = ⟨(lebN u).toArray⟩ := ⟨_, rfl⟩
  have s1 : b1.size ≤ 9 := by rw [hb1, bytes_len]; exact a1
  have s2 : b2.size ≤ 9 := by rw [hb2, bytes_len]; exact a2
  have s3 : b3.size ≤ 9 := by rw [hb3, bytes_len]; exact a3
  have K1 := fun w => Lib.hid (rnumber_walk q w hq)
  have K2 := fun w => Lib.hid (rnumber_walk h w hh)
  have K3 := fun w => Lib.hid (rnumber_walk u w hu)
  simp only [← hb1] at K1
  simp only [← hb2] at K2
  simp only [← hb3] at K3
  have hsum : (⟨#[76, 73, 71, 72, 84, 69, 82]⟩ : ByteArray) ++ b1 ++ b2 ++ b3 = ⟨(headL q h u).toArray⟩ := by
    rw [hb1, hb2, hb3, show (⟨#[76, 73, 71, 72, 84, 69, 82]⟩ : ByteArray) = ⟨magicL.toArray⟩ from rfl, str_add, str_add, str_add]
    unfold headL
    simp only [List.append_assoc]
  have HS := Lib.hid hsum
  have HL := Lib.hid hl34
  clear hb1 hb2 hb3 hq hh hu a1 a2 a3 hsum hl34
  go_enter Try.func19, Try.ntmps19
  go_wp2_with fail
  refine (K1 w).out.mono ?_
  rintro r w1 ⟨rfl, hb1⟩
  have H1 := Lib.hid hb1
  go_wp2_with fail
  refine (K2 w1).out.mono ?_
  rintro r w2 ⟨rfl, hb2⟩
  have H2 := Lib.hid (H1.out.trans (hb2.mono H1.out.size))
  go_wp2_with fail
  refine (K3 w2).out.mono ?_
  rintro r w3 ⟨rfl, hb3⟩
  have H3 := Lib.hid (H2.out.trans (hb3.mono H2.out.size))
  clear hb1 hb2 hb3 K1 K2 K3
  go_upto_region 2 with fail
  rw [HS.out]
  obtain ⟨m, hm⟩ : ∃ m : ByteArray, m = ⟨(headL q h u).toArray⟩ := ⟨_, rfl⟩
  have hms : m.size ≤ 34 := by rw [hm, bytes_len]; exact HL.out
  have hmd : m.data.toList = headL q h u := by rw [hm]
  have KF := fun w => Lib.hid (refFour_walk m w (by omega))
  simp only [hmd] at KF
  obtain ⟨f, hf⟩ : ∃ f : ByteArray, f = ⟨(fourOf (crcSum (headL q h u))).toArray⟩ := ⟨_, rfl⟩
  have hfs : f.size = 4 := by rw [hf]; exact bytes_len _
  simp only [← hf] at KF
  have hfin : m ++ f = ⟨(headB q h u).toArray⟩ := by rw [hm, hf]; exact str_add _ _
  have HFIN := Lib.hid hfin
  rw [← hm]
  have hms2 : ¬ 9223372036854775807 < m.size + f.size := by omega
  clear hm hmd hf hfin HS hfs
  go_wp2_with fail
  refine (KF w3).out.mono ?_
  rintro r w4 ⟨rfl, hb4⟩
  have H4 := Lib.hid (H3.out.trans (hb4.mono H3.out.size))
  clear hb4 KF
  go_wp2_with fail
  go_ret
  rw [HFIN.out]
  exact ⟨rfl, H4.out⟩

/-- texts of texts in memory -/
structure TRow where
  ad : Option Addr
  cap : Nat
  l : List ByteArray
def rowsAt (w : World) (ad : Option Addr) (ls : List TRow) : Prop :=
  ls = [] ∨ ∃ b off, ad = some ⟨b, off, none⟩ ∧ b < w.heap.size ∧ ∀ i (h : i < ls.length), w.cell? ⟨b, off + i, none⟩ = some (.slice ls[i].ad ls[i].l.length ls[i].cap)
def rowOk (w : World) (r : TRow) : Prop := strsAt w r.ad r.l ∧ r.l.length ≤ 9223372036854775807
end Go.Proofs.Ytagdaeapjofajaa

namespace Go.Proofs.Ytagdaeapjofajaa
set_option maxRecDepth 4000
open Go.ChangeShapes Go.WideShapes Go.ChangeAt Go.RowKit Go.Deep
section
variable {H : Type} {enc : TypeId × Value → H} {w : World} {base : Nat} {spare : Nat → Bool} {held : Bool}
theorem jo_cells_strs : Try.prog.cellsOf 30 = 1 := by kernel_rfl
instance : Inhabited TRow := ⟨⟨none, 0, []⟩⟩
/-- a slice of texts, trodden -/
theorem trod_texts {fuel : Nat} {v : Value} {x : DataW H × List MemPlace} (hf : DataW.trod enc Try.prog w base spare held fuel 30 [v] = some x) :
    ∃ ad cap, ∃ l : List ByteArray, v = .slice ad l.length cap ∧ strsAt w ad l ∧ l.length ≤ cap ∧ cap ≤ 9223372036854775807 := by
  rcases Go.Deep.open_strs Try.underlying30 Try.underlying9 so_cells_string hf with ⟨e, _⟩ | ⟨a, len, cap, m, Sx, e, _, hl, hm, hmm, _, hx⟩
  · simp at e
    exact ⟨none, 0, [], by rw [e]; rfl, .inl rfl, by simp, by simp⟩
  · simp at e
    subst e
    have hlm : len ≤ m := by rw [hmm]; split <;> omega
    refine ⟨some a, cap, (List.range len).map Sx, by simp, ?_, by simpa using hl, by unfold maxLen at hm; omega⟩
    rcases Nat.eq_zero_or_pos len with rfl | hp
    · exact .inl rfl
    obtain ⟨b, off, spot⟩ := a
    have hspot : spot = none := by simpa [Addr.add] using World.cell?_spot (hx 0 (by omega)).1
    subst hspot
    simp only [so_add_none] at hx
    refine .inr ⟨b, off, rfl, so_block_of_cell (hx 0 (by omega)).1, fun i hi => ?_⟩
    have hi' : i < len := by simpa using hi
    simp only [List.getElem_map, List.getElem_range]
    exact (hx i (by omega)).1
theorem open_rows {r : Reach} {b0 : Nat} {v : Value} {d : DataW H} {ps : List MemPlace} (hv : Value.okWide Try.prog w r b0 22 v) (h : DataW.Trod enc Try.prog w base spare held 22 v d ps) :
    ∃ ad cap, ∃ l : List TRow, v = .slice ad l.length cap ∧ rowsAt w ad l ∧ l.length ≤ cap ∧ cap ≤ 9223372036854775807 ∧ ∀ r ∈ l, rowOk w r := by
  obtain ⟨a0, len0, cap0, rfl⟩ := okWide_slice Try.underlying22 hv
  obtain ⟨fuel, hf⟩ := h
  simp only [Value.cells] at hf
  rcases open_slice Try.underlying22 hf with ⟨e, _⟩ | ⟨a, len, cap, m, n, D, Pl, e, _, hl, hm, hmm, _, hx⟩
  · simp at e
    obtain ⟨rfl, rfl, rfl⟩ := e
    exact ⟨none, 0, [], rfl, .inl rfl, by simp, by simp, by simp⟩
  · simp at e
    obtain ⟨rfl, rfl, rfl⟩ := e
    have hlm : len0 ≤ m := by rw [hmm]; split <;> omega
    have each : ∀ i, i < m → ∃ f : TRow, w.cell? (a.add i) = some (.slice f.ad f.l.length f.cap) ∧ rowOk w f := by
      intro i hi
      obtain ⟨cs', h1, h2⟩ := hx i hi
      rw [jo_cells_strs] at h1
      obtain ⟨_, hlen, hcell⟩ := World.cells?_some h1
      match cs', hlen with
      | [v0], _ =>
        obtain ⟨adk, capk, lk, e0, k1, k2, k3⟩ := trod_texts h2
        refine ⟨⟨adk, capk, lk⟩, ?_, k1, Nat.le_trans k2 k3⟩
        have c := hcell 0 (by simp)
        rw [add_add] at c
        simp at c
        rw [← e0]
        exact c
    obtain ⟨F, hF⟩ := choose_lt each
    refine ⟨some a, cap0, (List.range len0).map F, by simp, ?_, by simpa using hl, by unfold maxLen at hm; omega, ?_⟩
    · rcases Nat.eq_zero_or_pos len0 with rfl | hp
      · exact .inl rfl
      obtain ⟨b, off, spot⟩ := a
      have c0 := (hF 0 (by omega)).1
      have hspot : spot = none := by simpa [Addr.add] using World.cell?_spot c0
      subst hspot
      simp only [so_add_none] at hF c0
      refine .inr ⟨b, off, rfl, so_block_of_cell c0, fun i hi => ?_⟩
      have hi' : i < len0 := by simpa using hi
      simp only [List.getElem_map, List.getElem_range]
      exact (hF i (by omega)).1
    · intro y hy
      obtain ⟨i, hi, rfl⟩ := List.mem_map.1 hy
      exact (hF i (by have := List.mem_range.1 hi; omega)).2
end
end Go.Proofs.Ytagdaeapjofajaa
