/-
  Walks of package crc: the sum's bytes, and whether four bytes are it.
-/
import Derived.Test.YtfiigmimhdnpnaaCrcA
import Derived.Test.YtfiigmimhdnpnaaOwn
namespace Go.Proofs.Ytfiigmimhdnpnaa
open Go.RowKit

/-- a number's four bytes, the lowest first -/
def fourOf (n : Nat) : List UInt8 := [UInt8.ofNat n, UInt8.ofNat (n / 256), UInt8.ofNat (n / 65536), UInt8.ofNat (n / 16777216)]

theorem bv_four (n : Nat) (h : n ≤ 4294967295) : bv (fourOf n) = [.int .u8 ((n : Int) % 256), .int .u8 ((n : Int) / 256 % 256), .int .u8 ((n : Int) / 65536 % 256), .int .u8 ((n : Int) / 16777216)] := by
  simp [bv, fourOf]
  omega

set_option maxHeartbeats 400000 in
theorem four_walk (s : ByteArray) (w : World) (hs : s.size ≤ 9223372036854775807) :
    Calls Try.prog 21 #[.string s] w fun e w' => e = .returned (.string ⟨(fourOf (crcSum s.data.toList)).toArray⟩) ∧ Below w.heap.size w w' := by
  have hle := crcSum_le s.data.toList
  go_enter Try.func21, Try.ntmps21
  go_wp2_with (first
    | (go_at_call 33; refine (sum_walk s _ hs).mono ?_; rintro e w1 ⟨rfl, hb1⟩)
    | (refine wpList_string_own _ rfl _ 38 9 rfl 5 Try.underlying38 Try.underlying5 Try.underlying9 w.heap.size _ 4 (fourOf (crcSum s.data.toList)) rfl ?_ ?_; · rw [bv_four _ hle]; exact ownsRow_lit _ _ _ _ 4 hb1.size rfl (by decide)))
  go_ret
  exact ⟨rfl, hb1.alloc hb1.size _⟩

/-- what Check answers -/
def crcCheck (s four : ByteArray) : Int := if four.size ≠ 4 then 5 else if four = ⟨(fourOf (crcSum s.data.toList)).toArray⟩ then 0 else 7

theorem fourOf_length (n : Nat) : (fourOf n).length = 4 := rfl

theorem bytes_eq (a : ByteArray) (l : List UInt8) : a = ⟨l.toArray⟩ ↔ a.toList = l := by
  rw [ByteArray.toList_eq, ByteArray.ext_iff, ← Array.toList_inj]

set_option maxHeartbeats 400000 in
theorem check_walk (s four : ByteArray) (w : World) (hs : s.size ≤ 9223372036854775807) :
    Calls Try.prog 28 #[.string s, .string four] w fun e w' => e = .returned (.int .i64 (crcCheck s four)) ∧ Below w.heap.size w w' := by
  by_cases h4 : four.size = 4
  · have hfin : crcCheck s four = if four.toList = fourOf (crcSum s.data.toList) then 0 else 7 := by
      simp only [crcCheck, h4, bytes_eq]; rfl
    have h4' : ((four.size : Int) != 4) = false := by simp [h4]
    have HF := Lib.hid hfin
    have hle : four.size ≤ 4 := by omega
    clear hfin h4
    by_cases he : four.toList = fourOf (crcSum s.data.toList)
    · have he1 : (!four.toList == fourOf (crcSum s.data.toList)) = false := by simp [he]
      have HE := Lib.hid he
      clear he
      go_enter Try.func28, Try.ntmps28
      go_wp2_with (go_at_call 21; refine (four_walk s _ hs).mono ?_; rintro e w1 ⟨rfl, hb1⟩)
      go_ret
      exact ⟨ret_int (by rw [HF.out, if_pos HE.out]), hb1⟩
    · have he1 : (!four.toList == fourOf (crcSum s.data.toList)) = true := by simp [he]
      have HE := Lib.hid he
      clear he
      go_enter Try.func28, Try.ntmps28
      go_wp2_with (go_at_call 21; refine (four_walk s _ hs).mono ?_; rintro e w1 ⟨rfl, hb1⟩)
      go_ret
      exact ⟨ret_int (by rw [HF.out, if_neg HE.out]), hb1⟩
  · have h4' : ((four.size : Int) != 4) = true := by simp; omega
    go_enter Try.func28, Try.ntmps28
    go_wp2
    go_ret
    exact ⟨ret_int (by simp [crcCheck, h4]), Below.refl _ _⟩
end Go.Proofs.Ytfiigmimhdnpnaa
