/-
  Layer 4: what was laid is read as it was; what is read stands as it would be laid (plain).
-/
import Derived.Test.YtfiigmimhdnpnaaFrmE
import Derived.Test.YtfiigmimhdnpnaaFrmC
namespace Go.Proofs.Ytfiigmimhdnpnaa
open Go.RowKit

theorem data_of (s : ByteArray) : (⟨s.data.toList.toArray⟩ : ByteArray) = s := by apply ByteArray.ext; simp
theorem ext_of (l : List UInt8) (a b : Nat) : (⟨l.toArray⟩ : ByteArray).extract a b = ⟨((l.take b).drop a).toArray⟩ := by
  apply ByteArray.ext
  apply Array.ext'
  rw [ByteArray.data_extract, Array.toList_extract, List.extract_eq_take_drop]
  simp [List.drop_take]
theorem ext_list (s : ByteArray) (a b : Nat) : (s.extract a b).data.toList = (s.data.toList.take b).drop a := by
  rw [ByteArray.data_extract, Array.toList_extract, List.extract_eq_take_drop, List.drop_take]
theorem list_of_size (s : ByteArray) : s.data.toList.length = s.size := by simp
theorem firstR_laid (s : ByteArray) (rest : List UInt8) (hs : s.size ≤ 9223372036854775807) : firstR ⟨(oneR s ++ rest).toArray⟩ = (s, (oneR s).length, 0) := by
  have h := txt_laid s.data.toList (fourOf (crcSum s.data.toList) ++ rest) hs
  rw [list_of_size, data_of] at h
  have e : lebN s.size ++ (s.data.toList ++ (fourOf (crcSum s.data.toList) ++ rest)) = oneR s ++ rest := by unfold oneR; simp only [List.append_assoc]
  rw [e] at h
  have h4 : (⟨(fourOf (crcSum s.data.toList) ++ rest).toArray⟩ : ByteArray).size = 4 + rest.length := by
    rw [bytes_len, List.length_append, fourOf_length]
  have hx : (⟨(fourOf (crcSum s.data.toList) ++ rest).toArray⟩ : ByteArray).extract 0 (min 4 (4 + rest.length)) = ⟨(fourOf (crcSum s.data.toList)).toArray⟩ := by
    rw [show min 4 (4 + rest.length) = 4 by omega, ext_of, List.drop_zero]
    rfl
  have hck : crcCheck s ⟨(fourOf (crcSum s.data.toList)).toArray⟩ = 0 := by
    unfold crcCheck
    rw [if_neg (by rw [bytes_len, fourOf_length]; simp), if_pos rfl]
  unfold firstR
  rw [h]
  show (if (0 : Int) ≠ 0 then _ else if crcCheck s ((⟨(fourOf (crcSum s.data.toList) ++ rest).toArray⟩ : ByteArray).extract 0 (min 4 (⟨(fourOf (crcSum s.data.toList) ++ rest).toArray⟩ : ByteArray).size)) ≠ 0 then _ else (s, (⟨(oneR s ++ rest).toArray⟩ : ByteArray).size - (⟨(fourOf (crcSum s.data.toList) ++ rest).toArray⟩ : ByteArray).size + 4, 0)) = _
  rw [if_neg (by simp), h4, hx, hck, if_neg (by simp), bytes_len, List.length_append]
  have := oneR_length s
  rw [show (oneR s).length + rest.length - (4 + rest.length) + 4 = (oneR s).length by omega]
theorem rdAll_laid : ∀ (l : List ByteArray) (f : Nat) (acc : List ByteArray), (∀ s ∈ l, s.size ≤ 9223372036854775807) → (allR l).length < f → rdAll f ⟨(allR l).toArray⟩ acc = (acc ++ l, 0)
  | [], f + 1, acc, _, _ => by
    unfold rdAll
    rw [if_pos (by rw [bytes_len]; rfl), List.append_nil]
  | s :: l, f + 1, acc, hz, hf => by
    have hf1 := firstR_laid s (allR l) (hz s (by simp))
    rw [← allR_cons] at hf1
    have h1 := oneR_length s
    have hl : (allR (s :: l)).length = (oneR s).length + (allR l).length := by rw [allR_cons, List.length_append]
    unfold rdAll
    rw [hf1]
    show (if (⟨(allR (s :: l)).toArray⟩ : ByteArray).size = 0 then _ else if (0 : Int) ≠ 0 then _ else rdAll f ((⟨(allR (s :: l)).toArray⟩ : ByteArray).extract (oneR s).length (⟨(allR (s :: l)).toArray⟩ : ByteArray).size) (acc ++ [s])) = _
    rw [if_neg (by rw [bytes_len]; omega), if_neg (by simp), bytes_len, ext_of, List.take_length, allR_cons, List.drop_left, rdAll_laid l f (acc ++ [s]) (fun t ht => hz t (by simp [ht])) (by omega), List.append_assoc]
    rfl
  | [], 0, _, _, h => absurd h (by omega)
  | s :: l, 0, _, _, h => absurd h (by omega)
theorem readR_laid (l : List ByteArray) (hz : ∀ s ∈ l, s.size ≤ 9223372036854775807) : readR ⟨(allR l).toArray⟩ = (l, 0) := by
  unfold readR
  rw [rdAll_laid l _ [] hz (by rw [bytes_len]; omega), List.nil_append]

theorem firstR_one (s : ByteArray) (h : (firstR s).2.2 = 0) : s.data.toList = oneR (firstR s).1 ++ (s.extract (firstR s).2.1 s.size).data.toList := by
  have hno := num_one s
  have hx := txt_size s
  have hfn := firstR_n s h
  have htx : txtR s 0 = takeR (numR s 0).2.1 (numR s 0).2.2 (numR s 0).1 := rfl
  unfold firstR at h hfn ⊢
  obtain ⟨N, s2, e2, hN⟩ : ∃ N s2 e2, numR s 0 = (N, s2, e2) := ⟨_, _, _, rfl⟩
  rw [hN] at hno htx
  obtain ⟨t, s1, e, hn⟩ : ∃ t s1 e, txtR s 0 = (t, s1, e) := ⟨_, _, _, rfl⟩
  rw [hn] at hx h hfn htx ⊢
  obtain ⟨u, hu⟩ : ∃ u, u = s1.extract 0 (min 4 s1.size) := ⟨_, rfl⟩
  simp only [← hu] at h hfn ⊢
  by_cases he : e = 0
  · subst he
    rw [if_neg (by simp)] at h hfn ⊢
    by_cases hc : crcCheck t u = 0
    · rw [if_neg (by rw [hc]; simp)] at hfn ⊢
      -- the text and what is left of it
      have he2 : e2 = 0 := by
        by_cases h0 : e2 = 0
        · exact h0
        · unfold takeR at htx; rw [if_pos h0] at htx; exact absurd (congrArg (fun p => p.2.2) htx).symm h0
      subst he2
      obtain ⟨hs, _⟩ : s.data.toList = lebN N ++ s2.data.toList ∧ N ≤ 9223372036854775807 := hno rfl
      unfold takeR at htx
      rw [if_neg (by simp)] at htx
      by_cases hlt : s2.size < N
      · rw [if_pos hlt] at htx
        have := congrArg (fun p => p.2.2) htx
        simp at this
      · rw [if_neg hlt] at htx
        have ht : t = s2.extract 0 N := congrArg (fun p => p.1) htx
        have hs1 : s1 = s2.extract N s2.size := congrArg (fun p => p.2.1) htx
        have hts : t.size = N := by rw [ht, ByteArray.size_extract]; omega
        have h2 : s2.data.toList = t.data.toList ++ s1.data.toList := by
          rw [ht, hs1, ext_list, ext_list, List.drop_zero, ← list_of_size s2, List.take_length, List.take_append_drop]
        -- the four bytes
        have h4 : u.size = 4 ∧ u = ⟨(fourOf (crcSum t.data.toList)).toArray⟩ := by
          unfold crcCheck at hc
          by_cases h4 : u.size = 4
          · rw [if_neg (by omega)] at hc
            by_cases h5 : u = ⟨(fourOf (crcSum t.data.toList)).toArray⟩
            · exact ⟨h4, h5⟩
            · rw [if_neg h5] at hc; simp at hc
          · rw [if_pos h4] at hc; simp at hc
        obtain ⟨hu4, hu5⟩ := h4
        have hs14 : 4 ≤ s1.size := by rw [hu, ByteArray.size_extract] at hu4; omega
        have h3 : s1.data.toList = fourOf (crcSum t.data.toList) ++ s1.data.toList.drop 4 := by
          have : s1.data.toList.take 4 = fourOf (crcSum t.data.toList) := by
            have e0 := data_of s1
            rw [show min 4 s1.size = 4 by omega, ← e0, ext_of, List.drop_zero] at hu
            rw [hu5] at hu
            have := congrArg (fun b : ByteArray => b.data.toList) hu
            simpa using this.symm
          rw [← this, List.take_append_drop]
        -- what is left behind
        have hlen : s.size = (lebN N).length + (t.size + s1.size) := by
          rw [← list_of_size, hs, h2, List.length_append, List.length_append, list_of_size, list_of_size]
        have h5 : (s.extract (s.size - s1.size + 4) s.size).data.toList = s1.data.toList.drop 4 := by
          rw [ext_list, ← list_of_size s, List.take_length, list_of_size, show s.size - s1.size + 4 = (lebN N ++ t.data.toList).length + 4 by rw [List.length_append, list_of_size]; omega]
          rw [hs, h2, ← List.append_assoc, ← List.drop_drop, List.drop_left]
        show s.data.toList = oneR t ++ (s.extract (s.size - s1.size + 4) s.size).data.toList
        rw [h5]
        unfold oneR
        rw [hs, h2, hts, List.append_assoc, List.append_assoc, ← h3]
    · rw [if_pos hc] at h; exact absurd h hc
  · rw [if_pos he] at h; exact absurd h he

theorem rdAll_one : ∀ (f : Nat) (s : ByteArray) (acc k : List ByteArray), rdAll f s acc = (k, 0) → ∃ l, k = acc ++ l ∧ s.data.toList = allR l
  | 0, s, acc, k, h => by
    unfold rdAll at h
    have := congrArg (fun p => p.2) h
    simp at this
  | f + 1, s, acc, k, h => by
    unfold rdAll at h
    by_cases h0 : s.size = 0
    · rw [if_pos h0] at h
      refine ⟨[], by rw [List.append_nil]; exact (congrArg (fun p => p.1) h).symm, ?_⟩
      rw [empty_of s h0]
      rfl
    · rw [if_neg h0] at h
      by_cases he : (firstR s).2.2 = 0
      · rw [if_neg (by rw [he]; simp)] at h
        obtain ⟨l, h1, h2⟩ := rdAll_one f _ _ _ h
        refine ⟨(firstR s).1 :: l, by rw [h1, List.append_assoc]; rfl, ?_⟩
        rw [allR_cons, ← h2]
        exact firstR_one s he
      · rw [if_pos he] at h
        exact absurd (congrArg (fun p => p.2) h) he
theorem readR_one (s : ByteArray) (h : (readR s).2 = 0) : s.data.toList = allR (readR s).1 := by
  obtain ⟨l, h1, h2⟩ := rdAll_one (s.size + 1) s [] (readR s).1 (by
    have : readR s = ((readR s).1, (readR s).2) := rfl
    rw [h] at this
    exact this)
  rw [h1, List.nil_append]
  exact h2
theorem rdAll_bad : ∀ (f : Nat) (s : ByteArray) (acc : List ByteArray), (rdAll f s acc).2 ≠ 0 → (rdAll f s acc).1 = []
  | 0, s, acc, _ => rfl
  | f + 1, s, acc, h => by
    unfold rdAll at h ⊢
    by_cases h0 : s.size = 0
    · rw [if_pos h0] at h; simp at h
    · rw [if_neg h0] at h ⊢
      by_cases he : (firstR s).2.2 = 0
      · rw [if_neg (by rw [he]; simp)] at h ⊢
        exact rdAll_bad f _ _ h
      · rw [if_pos he]
theorem rdAll_size : ∀ (f : Nat) (s : ByteArray) (acc : List ByteArray), (rdAll f s acc).1.length ≤ acc.length + s.size ∧ ∀ x ∈ (rdAll f s acc).1, x ∈ acc ∨ x.size ≤ s.size
  | 0, s, acc => ⟨Nat.zero_le _, fun x hx => by cases hx⟩
  | f + 1, s, acc => by
    unfold rdAll
    by_cases h0 : s.size = 0
    · rw [if_pos h0]; exact ⟨Nat.le_add_right _ _, fun x hx => .inl hx⟩
    · rw [if_neg h0]
      by_cases he : (firstR s).2.2 = 0
      · rw [if_neg (by rw [he]; simp)]
        obtain ⟨h1, h2, h3⟩ := firstR_n s he
        obtain ⟨i1, i2⟩ := rdAll_size f (s.extract (firstR s).2.1 s.size) (acc ++ [(firstR s).1])
        have hsz : (s.extract (firstR s).2.1 s.size).size = s.size - (firstR s).2.1 := by rw [ByteArray.size_extract]; omega
        rw [hsz, List.length_append, List.length_singleton] at i1
        refine ⟨by omega, fun x hx => ?_⟩
        rcases i2 x hx with h | h
        · rcases List.mem_append.1 h with h | h
          · exact .inl h
          · rw [List.mem_singleton.1 h]; exact .inr h3
        · rw [hsz] at h; exact .inr (by omega)
      · rw [if_pos he]; exact ⟨Nat.zero_le _, fun x hx => by cases hx⟩
end Go.Proofs.Ytfiigmimhdnpnaa
