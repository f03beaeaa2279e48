/-
  Layer 1: what was laid is read as it was; a number stands in one way alone.
-/
import Derived.Test.YtfiigmimhdnpnaaLebT
namespace Go.Proofs.Ytfiigmimhdnpnaa
open Go.RowKit

theorem rd_leb (f : Nat) : ∀ (n i acc : Nat) (r : List UInt8), 1 ≤ f → n < 128 ^ f → (n ≠ 0 ∨ i = 0) → rd f (lebN n ++ r) i acc = (acc + n * 128 ^ i, r, 0) := by
  induction f with
  | zero => intro n i acc r h; omega
  | succ f ih =>
    intro n i acc r _ hn hz
    by_cases hs : n < 128
    · have hc : (UInt8.ofNat n).toNat = n := by rw [UInt8.toNat_ofNat']; omega
      rw [lebN_small hs]
      show rd (f + 1) (UInt8.ofNat n :: r) i acc = _
      simp only [rd, hc]
      rw [if_neg (by omega), if_neg (by omega), Nat.mod_eq_of_lt hs]
    · have hc : (UInt8.ofNat (n % 128 + 128)).toNat = n % 128 + 128 := by rw [UInt8.toNat_ofNat']; omega
      rw [lebN_big (by omega)]
      show rd (f + 1) (UInt8.ofNat (n % 128 + 128) :: (lebN (n / 128) ++ r)) i acc = _
      simp only [rd, hc]
      have hf : 1 ≤ f := by
        rcases Nat.eq_zero_or_pos f with rfl | h
        · simp at hn; omega
        · exact h
      rw [if_pos (by omega), ih (n / 128) (i + 1) _ r hf (by rw [Nat.pow_succ] at hn; omega) (.inl (by omega))]
      have e : acc + (n % 128 + 128) % 128 * 128 ^ i + n / 128 * 128 ^ (i + 1) = acc + n * 128 ^ i := by
        have e1 : n = n % 128 + n / 128 * 128 := by omega
        have e2 : n * 128 ^ i = n % 128 * 128 ^ i + n / 128 * 128 ^ (i + 1) := by
          rw [Nat.pow_succ, Nat.mul_comm (128 ^ i) 128, ← Nat.mul_assoc, ← Nat.add_mul, ← e1]
        rw [show (n % 128 + 128) % 128 = n % 128 by omega, e2, Nat.add_assoc]
      rw [e]
theorem rd_one (f : Nat) : ∀ (L : List UInt8) (i acc v : Nat) (r : List UInt8), rd f L i acc = (v, r, 0) → ∃ n, v = acc + n * 128 ^ i ∧ L = lebN n ++ r ∧ (n ≠ 0 ∨ i = 0) ∧ n < 128 ^ f := by
  induction f with
  | zero => intro L i acc v r h; simp [rd] at h
  | succ f ih =>
    intro L i acc v r h
    cases L with
    | nil => simp [rd] at h
    | cons c t =>
      simp only [rd] at h
      have hc8 := c.toNat_lt
      split at h
      · rename_i hc
        obtain ⟨n, hv, ht, hz, hn⟩ := ih t _ _ v r h
        have hn0 : n ≠ 0 := by omega
        refine ⟨n * 128 + c.toNat % 128, ?_, ?_, .inl (by omega), by rw [Nat.pow_succ]; omega⟩
        · rw [hv, Nat.pow_succ, Nat.mul_comm (128 ^ i) 128, ← Nat.mul_assoc, Nat.add_assoc, ← Nat.add_mul, Nat.add_comm (c.toNat % 128)]
        · rw [lebN_big (by omega), show (n * 128 + c.toNat % 128) / 128 = n by omega, show (n * 128 + c.toNat % 128) % 128 + 128 = c.toNat by omega, ht]
          show c :: (lebN n ++ r) = UInt8.ofNat c.toNat :: (lebN n ++ r)
          rw [UInt8.ofNat_toNat]
      · rename_i hc
        split at h
        · simp at h
        · rename_i hz
          simp only [Prod.mk.injEq] at h
          obtain ⟨h1, h2, _⟩ := h
          subst h2
          refine ⟨c.toNat, by rw [← h1, Nat.mod_eq_of_lt (by omega)], ?_, by omega, ?_⟩
          · rw [lebN_small (by omega), UInt8.ofNat_toNat]; rfl
          · have : 1 ≤ 128 ^ f := Nat.one_le_pow _ _ (by omega)
            rw [Nat.pow_succ]; omega
/-- a number that was laid is read -/
theorem num_laid (n : Nat) (r : List UInt8) (hn : n ≤ 9223372036854775807) : numR ⟨(lebN n ++ r).toArray⟩ 0 = (n, ⟨r.toArray⟩, 0) := by
  unfold numR
  rw [if_neg (by simp)]
  have h := rd_leb 9 n 0 0 r (by omega) (by omega) (.inr rfl)
  show ((rd 9 (lebN n ++ r) 0 0).1, (⟨(rd 9 (lebN n ++ r) 0 0).2.1.toArray⟩ : ByteArray), (rd 9 (lebN n ++ r) 0 0).2.2) = _
  rw [h]
  simp
/-- a number that is read stands there as it would be laid -/
theorem num_one (s : ByteArray) (h : (numR s 0).2.2 = 0) : s.data.toList = lebN (numR s 0).1 ++ (numR s 0).2.1.data.toList ∧ (numR s 0).1 ≤ 9223372036854775807 := by
  unfold numR at h ⊢
  rw [if_neg (by simp)] at h ⊢
  obtain ⟨v, r, e, hr⟩ : ∃ v r e, rd 9 s.data.toList 0 0 = (v, r, e) := ⟨_, _, _, rfl⟩
  rw [hr] at h ⊢
  have h : e = 0 := h
  subst h
  obtain ⟨n, hv, hL, _, hn⟩ := rd_one 9 _ 0 0 v r hr
  have hvn : v = n := by simpa using hv
  subst hvn
  exact ⟨hL, by show v ≤ 9223372036854775807; omega⟩
theorem take_laid (a r : List UInt8) : takeR ⟨(a ++ r).toArray⟩ 0 a.length = (⟨a.toArray⟩, ⟨r.toArray⟩, 0) := by
  have hsz : (⟨(a ++ r).toArray⟩ : ByteArray).size = a.length + r.length := by
    show (a ++ r).toArray.size = _
    simp
  have h1 : (⟨(a ++ r).toArray⟩ : ByteArray).extract 0 a.length = ⟨a.toArray⟩ := by
    apply ByteArray.ext
    apply Array.ext'
    rw [ByteArray.data_extract, Array.toList_extract, List.extract_eq_take_drop]
    simp
  have h2 : (⟨(a ++ r).toArray⟩ : ByteArray).extract a.length (⟨(a ++ r).toArray⟩ : ByteArray).size = ⟨r.toArray⟩ := by
    apply ByteArray.ext
    apply Array.ext'
    rw [hsz, ByteArray.data_extract, Array.toList_extract, List.extract_eq_take_drop]
    simp
  unfold takeR
  rw [if_neg (by simp), if_neg (by rw [hsz]; omega), h1, h2]
/-- a text that was laid is read -/
theorem txt_laid (a r : List UInt8) (hn : a.length ≤ 9223372036854775807) : txtR ⟨(lebN a.length ++ (a ++ r)).toArray⟩ 0 = (⟨a.toArray⟩, ⟨r.toArray⟩, 0) := by
  unfold txtR
  rw [num_laid a.length (a ++ r) hn]
  exact take_laid a r
end Go.Proofs.Ytfiigmimhdnpnaa
