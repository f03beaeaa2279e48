/-
  Layer 1: what is left of bytes when a number, a text is read; the reference's Second.
-/
import Derived.Test.YtfiigmimhdnpnaaLebH
namespace Go.Proofs.Ytfiigmimhdnpnaa
open Go.RowKit

theorem rd_left (f : Nat) : ∀ (L : List UInt8) (i acc : Nat), (rd f L i acc).2.2 = 0 → ∃ j, j ≤ L.length ∧ (rd f L i acc).2.1 = L.drop j := by
  induction f with
  | zero => intro L i acc h; simp [rd] at h
  | succ f ih =>
    intro L i acc h
    cases L with
    | nil => simp [rd] at h
    | cons c r =>
      simp only [rd] at h ⊢
      split at h
      · rename_i hc
        rw [if_pos hc]
        obtain ⟨j, hj, e⟩ := ih r _ _ h
        exact ⟨j + 1, by simp; omega, by rw [e]; rfl⟩
      · rename_i hc
        rw [if_neg hc]
        split at h
        · simp at h
        · rename_i hz
          rw [if_neg hz]
          exact ⟨1, by simp, rfl⟩
theorem ex_left (s : ByteArray) (j : Nat) : (⟨(s.data.toList.drop j).toArray⟩ : ByteArray) = s.extract j s.size := by
  apply ByteArray.ext
  apply Array.ext'
  rw [ByteArray.data_extract, Array.toList_extract]
  show s.data.toList.drop j = _
  rw [List.extract_eq_take_drop]
  exact (List.take_of_length_le (by rw [List.length_drop]; exact Nat.le_refl _)).symm
theorem num_left (s : ByteArray) (h : (numR s 0).2.2 = 0) : ∃ j, j ≤ s.size ∧ (numR s 0).2.1 = s.extract j s.size := by
  unfold numR at h ⊢
  rw [if_neg (by simp)] at h ⊢
  obtain ⟨j, hj, e⟩ := rd_left 9 s.data.toList 0 0 h
  exact ⟨j, hj, by show (⟨_⟩ : ByteArray) = _; rw [e]; exact ex_left s j⟩
theorem ex_size (s : ByteArray) (j : Nat) (h : j ≤ s.size) : (s.extract j s.size).size = s.size - j := by
  rw [ByteArray.size_extract]; omega
theorem ex_ex (s : ByteArray) (a b : Nat) (ha : a ≤ s.size) : (s.extract a s.size).extract b (s.extract a s.size).size = s.extract (a + b) s.size := by
  rw [ex_size s a ha, ByteArray.extract_extract]
  congr 1
  omega
theorem txt_left (s : ByteArray) (h : (txtR s 0).2.2 = 0) : ∃ j, j ≤ s.size ∧ (txtR s 0).2.1 = s.extract j s.size := by
  unfold txtR takeR at h ⊢
  by_cases he : (numR s 0).2.2 = 0
  · obtain ⟨j, hj, e⟩ := num_left s he
    rw [if_neg (by rw [he]; simp)] at h ⊢
    split at h
    · simp at h
    · rename_i hn
      rw [if_neg hn, e]
      rw [e, ex_size s j hj] at hn
      exact ⟨j + (numR s 0).1, by omega, ex_ex s j _ hj⟩
  · rw [if_pos he] at h
    exact absurd h he
theorem read_left (s s1 : ByteArray) (e : Int) (hs : e = 0 → ∃ j, j ≤ s.size ∧ s1 = s.extract j s.size) : (e = 0 → s1 = s.extract (readN s s1 e) s.size ∧ readN s s1 e + s1.size = s.size) ∧ (e ≠ 0 → readN s s1 e = 0) := by
  refine ⟨fun he => ?_, fun he => by unfold readN; rw [if_neg he]⟩
  obtain ⟨j, hj, e1⟩ := hs he
  have hsz : s1.size = s.size - j := by rw [e1]; exact ex_size s j hj
  have hr : readN s s1 e = j := by unfold readN; rw [if_pos he]; omega
  rw [hr]
  exact ⟨e1, by omega⟩

set_option maxHeartbeats 1000000 in
theorem second_walk (s : ByteArray) (w : World) (hs : s.size ≤ 9223372036854775807) :
    Calls Try.prog 29 #[.string s] w fun r w' => r = .returned (.tuple #[.string (txtR s 0).1, .int .i64 (readN s (txtR s 0).2.1 (txtR s 0).2.2), .int .i64 (txtR s 0).2.2]) ∧ w' = w := by
  obtain ⟨n, s1, e1, hn⟩ : ∃ n s1 e1, numR s 0 = (n, s1, e1) := ⟨_, _, _, rfl⟩
  have hl := num_left s
  rw [hn] at hl
  have hx : txtR s 0 = takeR s1 e1 n := by unfold txtR; rw [hn]
  have HN := Lib.hid hn; have HL := Lib.hid hl; have HX := Lib.hid hx
  clear hn hl hx
  go_enter Try.func29, Try.ntmps29
  go_wp2_with fail
  refine (first_walk s _ hs).mono ?_
  rintro r w1 ⟨rfl, rfl⟩
  rw [HN.out]
  by_cases he : e1 = 0
  · subst he
    obtain ⟨j, hj, h1⟩ := HL.out rfl
    have h1 : s1 = s.extract j s.size := h1
    have hsz : s1.size = s.size - j := by rw [h1]; exact ex_size s j hj
    have hr : readN s s1 0 = j := by unfold readN; rw [if_pos rfl]; omega
    simp only [hr]
    have H1 := Lib.hid h1; have HS := Lib.hid hsz
    clear h1 hsz hr
    by_cases hlt : s1.size < n
    · have hx : txtR s 0 = (⟨#[]⟩, s1, 5) := by rw [HX.out]; unfold takeR; rw [if_neg (by simp), if_pos hlt]
      have HX2 := Lib.hid hx
      have hlt2 : (s.size : Int) - (j : Int) < (n : Int) := by have := HS.out; omega
      clear hx hlt
      go_wp2_with fail
      go_ret3
      rw [HX2.out]
      exact ⟨rfl, rfl⟩
    · have hx : txtR s 0 = (s.extract j (j + n), s.extract (j + n) s.size, 0) := by
        rw [HX.out]; unfold takeR; rw [if_neg (by simp), if_neg hlt, H1.out, ex_ex s j n hj, ByteArray.extract_extract]
        have := HS.out
        rw [show min (j + n) s.size = j + n by omega]; rfl
      have HX2 := Lib.hid hx
      have hjn : j + n ≤ s.size := by have := HS.out; omega
      have hr2 : readN s (s.extract (j + n) s.size) 0 = j + n := by unfold readN; rw [if_pos rfl, ex_size s _ hjn]; omega
      have HR2 := Lib.hid hr2
      clear hx hlt hr2
      go_wp2_with fail
      go_ret3
      rw [HX2.out, HR2.out]
      exact ⟨by go_num, rfl⟩
  · have hx : txtR s 0 = (⟨#[]⟩, s1, e1) := by rw [HX.out]; unfold takeR; rw [if_pos he]
    have hr : readN s s1 e1 = 0 := by unfold readN; rw [if_neg he]
    have HX2 := Lib.hid hx; have HR := Lib.hid hr
    clear hx
    simp only [hr]
    clear hr
    go_wp2_with fail
    go_ret3
    rw [HX2.out, HR.out]
    exact ⟨rfl, rfl⟩
end Go.Proofs.Ytfiigmimhdnpnaa
