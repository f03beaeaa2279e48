/-
  Layer 1: what LebLays wants of fields is what Lay lays.
-/
import Derived.Test.YtalbilhhpiopiaaLebL
namespace Go.Proofs.Ytalbilhhpiopiaa
open Go.RowKit

/-- what is wanted, behind one more field -/
def wantF (l : List UInt8) (f : Fld) : List UInt8 :=
  if f.2.2 = true then (if l.length ≤ 262144 then l ++ (lebN f.2.1.size ++ f.2.1.data.toList) else l) else if f.1 < 0 then l else l ++ lebN f.1.toNat
def wantB (fs : List Fld) : List UInt8 := fs.foldl wantF []
theorem wantB_snoc (fs : List Fld) (f : Fld) : wantB (fs ++ [f]) = wantF (wantB fs) f := by simp [wantB]
/-- the two are the same, or both too long -/
def Alike (l m : List UInt8) : Prop := (l = m ∧ l.length ≤ 65536) ∨ (65536 < l.length ∧ 65536 < m.length)
theorem Alike.of (l : List UInt8) : Alike l l := by
  rcases Nat.lt_or_ge 65536 l.length with h | h
  · exact .inr ⟨h, h⟩
  · exact .inl ⟨rfl, h⟩
theorem alike_step (l m : List UInt8) (f : Fld) (h : Alike l m) (hb : badF f = false) : Alike (putF l f.1 f.2.1 f.2.2) (wantF m f) := by
  rcases h with ⟨rfl, h⟩ | ⟨h1, h2⟩
  · unfold putF wantF
    rw [if_neg (by omega)]
    by_cases ht : f.2.2 = true
    · rw [if_pos ht, if_pos ht, if_pos (by omega), List.append_assoc]
      have h1 := lebN_pos f.2.1.size
      by_cases hs : f.2.1.data.toList.length ≤ 65536
      · rw [List.take_of_length_le hs]
        exact Alike.of _
      · refine .inr ⟨?_, ?_⟩
        · simp only [List.length_append, List.length_take]; omega
        · simp only [List.length_append]; omega
    · rw [if_neg ht, if_neg ht, if_neg (by
        have ht' : f.2.2 = false := by simpa using ht
        unfold badF at hb; rw [ht'] at hb
        simpa using hb)]
      exact Alike.of _
  · refine .inr ⟨?_, ?_⟩
    · unfold putF; rw [if_pos h1]; exact h1
    · unfold wantF
      split
      · split
        · simp only [List.length_append]; omega
        · exact h2
      · split
        · exact h2
        · simp only [List.length_append]; omega
theorem alike_all : ∀ (fs : List Fld) (l m : List UInt8), fs.any badF = false → Alike l m → Alike (fs.foldl (fun l f => putF l f.1 f.2.1 f.2.2) l) (fs.foldl wantF m)
  | [], _, _, _, h => h
  | f :: r, l, m, hb, h => by
    simp only [List.any_cons, Bool.or_eq_false_iff] at hb
    exact alike_all r _ _ hb.2 (alike_step l m f h hb.1)
/-- what LebLays looks for is what Lay answers -/
theorem lay_want (fs : List Fld) : lay fs = if fs.any badF = true then (⟨#[]⟩, 3) else if 65536 < (wantB fs).length then (⟨#[]⟩, 4) else (⟨(wantB fs).toArray⟩, 0) := by
  unfold lay
  by_cases hb : fs.any badF = true
  · rw [if_pos hb, if_pos hb]
  · rw [if_neg hb, if_neg hb]
    have h : Alike (layB fs) (wantB fs) := alike_all fs [] [] (by simpa using hb) (Alike.of [])
    rcases h with ⟨e, h⟩ | ⟨h1, h2⟩
    · rw [e] at h ⊢
    · rw [if_pos h1, if_pos h2]
theorem wantF_le (l : List UInt8) (f : Fld) (k : Nat) (hl : l.length ≤ 393225 + 9 * k) (hn : f.1 ≤ 9223372036854775807) (hs : f.2.1.size ≤ 131072) : (wantF l f).length ≤ 393225 + 9 * (k + 1) := by
  unfold wantF
  have h9 := lebN_nine f.2.1.size (by omega)
  have h8 := lebN_nine f.1.toNat (by omega)
  have hsz : f.2.1.data.toList.length = f.2.1.size := rfl
  split
  · split
    · simp only [List.length_append]; omega
    · omega
  · split
    · omega
    · simp only [List.length_append]; omega
end Go.Proofs.Ytalbilhhpiopiaa
