/-
  Layer 4: Read; the reference's Read.
-/
import Derived.Test.YtfiigmimhdnpnaaFrmD
import Derived.Test.YtfiigmimhdnpnaaStrRow
namespace Go.Proofs.Ytfiigmimhdnpnaa
open Go.RowKit

theorem firstR_n (s : ByteArray) (h : (firstR s).2.2 = 0) : 4 ≤ (firstR s).2.1 ∧ (firstR s).2.1 ≤ s.size ∧ (firstR s).1.size ≤ s.size := by
  have hx := txt_size s
  unfold firstR at h ⊢
  obtain ⟨t, s1, e, hn⟩ : ∃ t s1 e, txtR s 0 = (t, s1, e) := ⟨_, _, _, rfl⟩
  rw [hn] at hx h ⊢
  obtain ⟨u, hu⟩ : ∃ u, u = s1.extract 0 (min 4 s1.size) := ⟨_, rfl⟩
  have husz : u.size ≤ s1.size := by rw [hu, ByteArray.size_extract]; omega
  simp only [← hu] at h ⊢
  by_cases he : e = 0
  · rw [if_neg (by rw [he]; simp)] at h ⊢
    by_cases hc : crcCheck t u = 0
    · rw [if_neg (by rw [hc]; simp)]
      obtain ⟨h1, _⟩ := hx he
      have h4 : u.size = 4 := by
        unfold crcCheck at hc
        by_cases h4 : u.size = 4
        · exact h4
        · rw [if_pos h4] at hc; simp at hc
      have h1 : t.size + s1.size ≤ s.size := h1
      refine ⟨?_, ?_, ?_⟩
      · show 4 ≤ s.size - s1.size + 4; omega
      · show s.size - s1.size + 4 ≤ s.size; omega
      · show t.size ≤ s.size; omega
    · rw [if_pos hc] at h; exact absurd h hc
  · rw [if_pos he] at h; exact absurd h he

/-- records are read, fuel by fuel -/
def rdAll : Nat → ByteArray → List ByteArray → List ByteArray × Int
  | 0, _, _ => ([], 99)
  | f + 1, s, acc => if s.size = 0 then (acc, 0) else if (firstR s).2.2 ≠ 0 then ([], (firstR s).2.2) else rdAll f (s.extract (firstR s).2.1 s.size) (acc ++ [(firstR s).1])
/-- what Read answers -/
def readR (s : ByteArray) : List ByteArray × Int := rdAll (s.size + 1) s []

/-- what Read leaves -/
def ReadPost (w : World) (R : List ByteArray × Int) (r : Ending) (w' : World) : Prop :=
  ∃ ad cap, r = .returned (.tuple #[.slice ad R.1.length cap, .int .i64 R.2]) ∧ strsAt w' ad R.1 ∧ R.1.length ≤ cap ∧ cap ≤ 9223372036854775807 ∧ Below w.heap.size w w'
theorem empty_of (s : ByteArray) (h : s.size = 0) : s = ⟨#[]⟩ := by
  apply ByteArray.ext
  apply Array.ext'
  exact List.eq_nil_of_length_eq_zero h

set_option maxHeartbeats 2000000 in
theorem fread_walk (s : ByteArray) (w : World) (hs : s.size ≤ 1000000) :
    Calls Try.prog 14 #[.string s] w fun r w' => ReadPost w (readR s) r w' := by
  obtain ⟨R, hR⟩ : ∃ R, R = readR s := ⟨_, rfl⟩
  rw [← hR]
  have HR := Lib.hid hR; have HS := Lib.hid hs
  clear hR hs
  go_enter Try.func14, Try.ntmps14
  go_wp2_with fail
  go_loopg [0, 4] s.size (fun gk vs vo wr => ∃ (s' : ByteArray) (acc : List ByteArray), vs = .string s' ∧ Row wr w.heap.size vo acc ∧ rdAll (gk + 1) s' acc = R ∧ s'.size ≤ gk ∧ acc.length + s'.size ≤ s.size ∧ Below w.heap.size w wr)
  case atStart => exact ⟨s, [], rfl, Row.nil _ _, by rw [HR.out]; rfl, Nat.le_refl _, by simp, Below.refl _ _⟩
  case round =>
    obtain ⟨s', acc, rfl, hrow, hrd, hgk, hac, hb⟩ := hrel
    have hs1 : s'.size ≤ 1000000 := by have := HS.out; omega
    have hac1 : acc.length ≤ 1000000 := by have := HS.out; omega
    unfold rdAll at hrd
    by_cases h0 : s'.size = 0
    · obtain rfl := empty_of s' h0
      rw [if_pos h0] at hrd
      obtain ⟨ad, cap, rfl, hst, hc1, hc2⟩ := hrow.open
      have HRD := Lib.hid hrd; have HST := Lib.hid hst; have HB := Lib.hid hb
      clear hrd hst hb hrow h0 hs1
      go_wp2_with fail
      go_ret2
      rw [← HRD.out]
      exact ⟨ad, cap, rfl, HST.out, hc1, hc2, HB.out⟩
    · rw [if_neg h0] at hrd
      have hcw := ffirst_walk s' wr (by omega)
      have hfn := firstR_n s'
      obtain ⟨t, n, e, hf⟩ : ∃ t n e, firstR s' = (t, n, e) := ⟨_, _, _, rfl⟩
      rw [hf] at hrd hcw hfn
      have hrd : (if e ≠ 0 then ([], e) else rdAll gk (s'.extract n s'.size) (acc ++ [t])) = R := hrd
      have hfn : e = 0 → 4 ≤ n ∧ n ≤ s'.size ∧ t.size ≤ s'.size := hfn
      have h01 : (0 : Int) < (s'.size : Int) := by omega
      have h02 : s'.toList.isEmpty = false := by
        rw [ByteArray.toList_eq]
        cases hl : s'.data.toList with
        | nil => exact absurd (by rw [show s'.size = s'.data.toList.length by simp, hl]; rfl) h0
        | cons a r => rfl
      have HROW := Lib.hid hrow; have HRD := Lib.hid hrd; have HB := Lib.hid hb; have HCW := Lib.hid hcw; have HFN := Lib.hid hfn; have HS1 := Lib.hid hs1; have HAC := Lib.hid hac; have HAC1 := Lib.hid hac1
      clear hrow hrd hb hcw hfn hf h0 hs1 hac hac1
      go_wp2_with fail
      refine HCW.out.mono ?_
      rintro r w1 ⟨rfl, hb1⟩
      have HB1 := Lib.hid (HB.out.trans (hb1.mono HB.out.size))
      have HR1 := Lib.hid (HROW.out.keep hb1 (Nat.le_refl _))
      clear hb1 HB HROW HCW
      by_cases he : e = 0
      · obtain ⟨hn4, hns, _⟩ := HFN.out he
        subst he
        have hsz : (s'.extract n s'.size).size = s'.size - n := by rw [ByteArray.size_extract]; omega
        have hn4i : (4 : Int) ≤ (n : Int) := by omega
        have HSZ := Lib.hid hsz; have HN4 := Lib.hid hn4; have HNS := Lib.hid hns
        have HB2 := Lib.hid HB1.out.size
        clear hsz hn4 hn4i HFN
        go_wp2_with (at_builtin; refine wpList_append_row rfl _ _ rfl w.heap.size _ acc rfl (World.ownsRow.alloc HR1.out _) _ [t] rfl (src_new t _) ?_ ?_ ?_)
        · have := HAC1.out; simp; omega
        · have := HB2.out; simp; omega
        intro v3 w3 hr3 hg3 hp3
        have hrow1 : Row (w1.alloc (.cells #[.string t] 9)) w.heap.size u4 acc := World.ownsRow.alloc HR1.out _
        have hb3 := below_of_grown (HB1.out.alloc HB1.out.size (.cells #[.string t] 9)) hg3 (by have := HB2.out; simp; omega) (fun j hj => (hrow1.lt j hj).1)
        have M1 := Lib.hid hr3; have M2 := Lib.hid hb3
        clear hr3 hg3 hp3 hrow1 hb3
        go_wp2_with fail
        go_roundg (gk - 1)
        case measure => have h1 := HSZ.out; have h2 := HN4.out; have h3 := HNS.out; omega
        case rel =>
          have h1 := HSZ.out; have h2 := HN4.out; have h3 := HNS.out; have h4 := HAC.out
          refine ⟨s'.extract n s'.size, acc ++ [t], rfl, M1.out, ?_, by omega, by rw [List.length_append, h1, List.length_singleton]; omega, M2.out⟩
          rw [← HRD.out, if_neg (by simp), show gk - 1 + 1 = gk by omega]
      · have hR : R = ([], e) := by rw [← HRD.out, if_pos he]
        subst hR
        clear HRD
        go_wp2_with fail
        go_ret2
        exact ⟨none, 0, rfl, .inl rfl, Nat.le_refl _, by omega, HB1.out⟩
set_option maxHeartbeats 2000000 in
theorem rread_walk (s : ByteArray) (w : World) (hs : s.size ≤ 1000000) :
    Calls Try.prog 15 #[.string s] w fun r w' => ReadPost w (readR s) r w' := by
  obtain ⟨R, hR⟩ : ∃ R, R = readR s := ⟨_, rfl⟩
  rw [← hR]
  have HR := Lib.hid hR; have HS := Lib.hid hs
  clear hR hs
  go_enter Try.func15, Try.ntmps15
  go_wp2_with fail
  go_loopg [0, 4] s.size (fun gk vs vo wr => ∃ (s' : ByteArray) (acc : List ByteArray), vs = .string s' ∧ Row wr w.heap.size vo acc ∧ rdAll (gk + 1) s' acc = R ∧ s'.size ≤ gk ∧ acc.length + s'.size ≤ s.size ∧ Below w.heap.size w wr)
  case atStart => exact ⟨s, [], rfl, Row.nil _ _, by rw [HR.out]; rfl, Nat.le_refl _, by simp, Below.refl _ _⟩
  case round =>
    obtain ⟨s', acc, rfl, hrow, hrd, hgk, hac, hb⟩ := hrel
    have hs1 : s'.size ≤ 1000000 := by have := HS.out; omega
    have hac1 : acc.length ≤ 1000000 := by have := HS.out; omega
    unfold rdAll at hrd
    by_cases h0 : s'.size = 0
    · obtain rfl := empty_of s' h0
      rw [if_pos h0] at hrd
      obtain ⟨ad, cap, rfl, hst, hc1, hc2⟩ := hrow.open
      have HRD := Lib.hid hrd; have HST := Lib.hid hst; have HB := Lib.hid hb
      clear hrd hst hb hrow h0 hs1
      go_wp2_with fail
      go_ret2
      rw [← HRD.out]
      exact ⟨ad, cap, rfl, HST.out, hc1, hc2, HB.out⟩
    · rw [if_neg h0] at hrd
      have hcw := rfirst_walk s' wr (by omega)
      have hfn := firstR_n s'
      obtain ⟨t, n, e, hf⟩ : ∃ t n e, firstR s' = (t, n, e) := ⟨_, _, _, rfl⟩
      rw [hf] at hrd hcw hfn
      have hrd : (if e ≠ 0 then ([], e) else rdAll gk (s'.extract n s'.size) (acc ++ [t])) = R := hrd
      have hfn : e = 0 → 4 ≤ n ∧ n ≤ s'.size ∧ t.size ≤ s'.size := hfn
      have h01 : (0 : Int) < (s'.size : Int) := by omega
      have h02 : s'.toList.isEmpty = false := by
        rw [ByteArray.toList_eq]
        cases hl : s'.data.toList with
        | nil => exact absurd (by rw [show s'.size = s'.data.toList.length by simp, hl]; rfl) h0
        | cons a r => rfl
      have HROW := Lib.hid hrow; have HRD := Lib.hid hrd; have HB := Lib.hid hb; have HCW := Lib.hid hcw; have HFN := Lib.hid hfn; have HS1 := Lib.hid hs1; have HAC := Lib.hid hac; have HAC1 := Lib.hid hac1
      clear hrow hrd hb hcw hfn hf h0 hs1 hac hac1
      go_wp2_with fail
      refine HCW.out.mono ?_
      rintro r w1 ⟨rfl, hb1⟩
      have HB1 := Lib.hid (HB.out.trans (hb1.mono HB.out.size))
      have HR1 := Lib.hid (HROW.out.keep hb1 (Nat.le_refl _))
      clear hb1 HB HROW HCW
      by_cases he : e = 0
      · obtain ⟨hn4, hns, _⟩ := HFN.out he
        subst he
        have hsz : (s'.extract n s'.size).size = s'.size - n := by rw [ByteArray.size_extract]; omega
        have hn4i : (4 : Int) ≤ (n : Int) := by omega
        have HSZ := Lib.hid hsz; have HN4 := Lib.hid hn4; have HNS := Lib.hid hns
        have HB2 := Lib.hid HB1.out.size
        clear hsz hn4 hn4i HFN
        go_wp2_with (at_builtin; refine wpList_append_row rfl _ _ rfl w.heap.size _ acc rfl (World.ownsRow.alloc HR1.out _) _ [t] rfl (src_new t _) ?_ ?_ ?_)
        · have := HAC1.out; simp; omega
        · have := HB2.out; simp; omega
        intro v3 w3 hr3 hg3 hp3
        have hrow1 : Row (w1.alloc (.cells #[.string t] 9)) w.heap.size u4 acc := World.ownsRow.alloc HR1.out _
        have hb3 := below_of_grown (HB1.out.alloc HB1.out.size (.cells #[.string t] 9)) hg3 (by have := HB2.out; simp; omega) (fun j hj => (hrow1.lt j hj).1)
        have M1 := Lib.hid hr3; have M2 := Lib.hid hb3
        clear hr3 hg3 hp3 hrow1 hb3
        go_wp2_with fail
        go_roundg (gk - 1)
        case measure => have h1 := HSZ.out; have h2 := HN4.out; have h3 := HNS.out; omega
        case rel =>
          have h1 := HSZ.out; have h2 := HN4.out; have h3 := HNS.out; have h4 := HAC.out
          refine ⟨s'.extract n s'.size, acc ++ [t], rfl, M1.out, ?_, by omega, by rw [List.length_append, h1, List.length_singleton]; omega, M2.out⟩
          rw [← HRD.out, if_neg (by simp), show gk - 1 + 1 = gk by omega]
      · have hR : R = ([], e) := by rw [← HRD.out, if_pos he]
        subst hR
        clear HRD
        go_wp2_with fail
        go_ret2
        exact ⟨none, 0, rfl, .inl rfl, Nat.le_refl _, by omega, HB1.out⟩
end Go.Proofs.Ytfiigmimhdnpnaa
