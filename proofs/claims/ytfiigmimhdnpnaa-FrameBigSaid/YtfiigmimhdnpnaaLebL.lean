/-
  Layer 1: what Lay laid is its fields' bytes, one behind the other; each field is read as it was.
-/
import Derived.Test.YtfiigmimhdnpnaaLebK
namespace Go.Proofs.Ytfiigmimhdnpnaa
open Go.RowKit

/-- a field's bytes -/
def layF (f : Fld) : List UInt8 := if f.2.2 = true then lebN f.2.1.size ++ f.2.1.data.toList else lebN f.1.toNat
theorem lebN_pos (n : Nat) : 1 ≤ (lebN n).length := by
  rcases Nat.lt_or_ge n 128 with h | h
  · rw [lebN_small h]; simp
  · rw [lebN_big h]; simp
theorem putF_flat (l : List UInt8) (f : Fld) (h : (putF l f.1 f.2.1 f.2.2).length ≤ 65536) : l.length ≤ 65536 ∧ putF l f.1 f.2.1 f.2.2 = l ++ layF f := by
  unfold putF at h ⊢
  unfold layF
  by_cases hl : 65536 < l.length
  · rw [if_pos hl] at h; omega
  · rw [if_neg hl] at h ⊢
    refine ⟨by omega, ?_⟩
    by_cases ht : f.2.2 = true
    · rw [if_pos ht] at h ⊢
      rw [if_pos ht]
      have h1 := lebN_pos f.2.1.size
      have hle : f.2.1.data.toList.length ≤ 65536 := by
        simp only [List.length_append, List.length_take] at h
        omega
      rw [List.take_of_length_le hle, List.append_assoc]
    · rw [if_neg ht, if_neg ht]
theorem layB_flat : ∀ (fs : List Fld) (l : List UInt8), (fs.foldl (fun l f => putF l f.1 f.2.1 f.2.2) l).length ≤ 65536 → l.length ≤ 65536 ∧ fs.foldl (fun l f => putF l f.1 f.2.1 f.2.2) l = l ++ fs.flatMap layF
  | [], l, h => ⟨h, by simp⟩
  | f :: r, l, h => by
    obtain ⟨h1, h2⟩ := layB_flat r (putF l f.1 f.2.1 f.2.2) h
    obtain ⟨h3, h4⟩ := putF_flat l f h1
    refine ⟨h3, ?_⟩
    show r.foldl _ (putF l f.1 f.2.1 f.2.2) = _
    rw [h2, h4, List.flatMap_cons, List.append_assoc]
theorem lay_ok (fs : List Fld) (h : (lay fs).2 = 0) : (lay fs).1 = ⟨(fs.flatMap layF).toArray⟩ ∧ fs.any badF = false := by
  unfold lay at h ⊢
  by_cases hb : fs.any badF = true
  · rw [if_pos hb] at h; simp at h
  · rw [if_neg hb] at h ⊢
    by_cases hl : 65536 < (layB fs).length
    · rw [if_pos hl] at h; simp at h
    · rw [if_neg hl]
      have := (layB_flat fs [] (by show (layB fs).length ≤ _; omega)).2
      rw [List.nil_append] at this
      exact ⟨by show (⟨(layB fs).toArray⟩ : ByteArray) = _; unfold layB; rw [this], by simpa using hb⟩
theorem back_txt (f : Fld) (rest : List UInt8) (ht : f.2.2 = true) (hs : f.2.1.size ≤ 9223372036854775807) : txtR ⟨(layF f ++ rest).toArray⟩ 0 = (f.2.1, ⟨rest.toArray⟩, 0) := by
  unfold layF
  rw [if_pos ht, List.append_assoc]
  exact txt_laid f.2.1.data.toList rest hs
theorem back_num (f : Fld) (rest : List UInt8) (ht : f.2.2 = false) (hb : badF f = false) (hs : f.1 ≤ 9223372036854775807) : ∃ n : Nat, numR ⟨(layF f ++ rest).toArray⟩ 0 = (n, ⟨rest.toArray⟩, 0) ∧ f.1 = (n : Int) := by
  have h0 : 0 ≤ f.1 := by
    unfold badF at hb
    rw [ht] at hb
    simpa using hb
  refine ⟨f.1.toNat, ?_, by omega⟩
  unfold layF
  rw [if_neg (by rw [ht]; simp)]
  exact num_laid f.1.toNat rest (by omega)
end Go.Proofs.Ytfiigmimhdnpnaa
