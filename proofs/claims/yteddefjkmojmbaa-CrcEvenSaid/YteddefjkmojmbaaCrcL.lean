/-
  Walks of the laws of layer 2 and of what they call.
-/
import Derived.Test.YteddefjkmojmbaaCrcN
namespace Go.Proofs.Yteddefjkmojmbaa
open Go.RowKit

set_option maxHeartbeats 400000 in
theorem refFour_walk (s : ByteArray) (w : World) (hs : s.size ≤ 1000000) :
    Calls Try.prog 10 #[.string s] w fun e w' => e = .returned (.string ⟨(fourOf (crcSum s.data.toList)).toArray⟩) ∧ Below w.heap.size w w' := by
  have hle := crcSum_le s.data.toList
  go_enter Try.func10, Try.ntmps10
  go_wp2_with (first
    | (go_at_call 12; refine (refSum_walk s _ hs).mono ?_; rw [refSum_eq]; rintro e w1 ⟨rfl, hb1⟩)
    | (refine wpList_string_own _ rfl _ 32 9 rfl 5 Try.underlying32 Try.underlying5 Try.underlying9 w.heap.size _ 4 (fourOf (crcSum s.data.toList)) rfl ?_ ?_; · rw [bv_four _ hle]; exact ownsRow_lit _ _ _ _ 4 hb1.size rfl (by decide)))
  go_ret
  exact ⟨rfl, hb1.alloc hb1.size _⟩

theorem low_walk (a b : Int) (w : World) : Calls Try.prog 6 #[.int .i64 a, .int .i64 b] w fun e w' => e = .returned (.int .i64 (min a b)) ∧ w = w' := by
  go_enter Try.func6, Try.ntmps6
  go_wp2
  all_goals go_ret
  all_goals exact ⟨ret_int (by omega), rfl⟩

theorem digits_sum : crcSum [49, 50, 51, 52, 53, 54, 55, 56, 57] = 3808858755 := by decide +kernel
theorem none_sum : crcSum [] = 0 := by decide +kernel

set_option maxHeartbeats 400000 in
theorem awake_walk (w : World) :
    Calls Try.prog 7 #[] w fun e w' => e = .returned (.bool true) ∧ Below w.heap.size w w' := by
  have h1 : ((crcSum [49, 50, 51, 52, 53, 54, 55, 56, 57] : Int) == 3808858755) = true := by rw [digits_sum]; rfl
  have h2 : ((crcSum [] : Int) == 0) = true := by rw [none_sum]; rfl
  have h3 : (fourOf (crcSum [49, 50, 51, 52, 53, 54, 55, 56, 57]) == [131, 146, 6, 227]) = true := by rw [digits_sum]; decide
  go_enter Try.func7, Try.ntmps7
  go_wp2_with fail
  refine (sum_walk _ _ (Nat.le_of_ble_eq_true rfl)).mono ?_
  rintro e w1 ⟨rfl, hb1⟩
  go_wp2_with fail
  refine (sum_walk _ _ (Nat.le_of_ble_eq_true rfl)).mono ?_
  rintro e w2 ⟨rfl, hb2⟩
  go_wp2_with fail
  refine (four_walk _ _ (Nat.le_of_ble_eq_true rfl)).mono ?_
  rintro e w3 ⟨rfl, hb3⟩
  go_wp2_with fail
  go_ret
  exact ⟨rfl, (hb1.trans (hb2.mono hb1.size)).trans (hb3.mono (Nat.le_trans hb1.size hb2.size))⟩

theorem four_eq_check (s : ByteArray) : crcCheck s ⟨(fourOf (crcSum s.data.toList)).toArray⟩ = 0 := by
  have h : (⟨(fourOf (crcSum s.data.toList)).toArray⟩ : ByteArray).size = 4 := rfl
  simp [crcCheck, h]

set_option maxHeartbeats 1000000 in
theorem crcSums_walk (s four : ByteArray) (w : World) (hs : s.size ≤ 9223372036854775807) (_hf : four.size ≤ 9223372036854775807) :
    Calls Try.prog 4 #[.string s, .string four] w fun e w' => e = .returned (.bool true) ∧ Below w.heap.size w w' := by
  have hB0 := Below.refl w.heap.size w
  have hBl : w.heap.size ≤ w.heap.size := Nat.le_refl _
  by_cases h600 : 600 < s.size
  · go_enter Try.func4, Try.ntmps4
    go_wp2_with fail
    refine (awake_walk _).mono ?_
    rintro e w1 ⟨rfl, hb1⟩
    go_wp2_with fail
    go_ret
    exact ⟨rfl, hb1⟩
  · have hle : s.size ≤ 600 := by omega
    clear h600
    have he0 : (fourOf (crcSum s.data.toList) == fourOf (crcSum s.data.toList)) = true := by simp
    by_cases h4 : four.size = 4
    · have h4' : ((four.size : Int) != 4) = false := by simp [h4]
      have H4 := Lib.hid h4; clear h4
      by_cases he : four.toList = fourOf (crcSum s.data.toList)
      · have hck : crcCheck s four = 0 := by simp [crcCheck, H4.out, bytes_eq, he]
        have hee : (four.toList == fourOf (crcSum s.data.toList)) = true := by simp [he]
        have HK := Lib.hid hck
        clear he hck
        go_enter Try.func4, Try.ntmps4
        go_wp2_with (first
          | (go_at_call 10; refine (calls_in (refFour_walk s _ (by omega)) (by assumption) hBl).mono ?_; rintro e w1 ⟨rfl, hb1⟩)
          | (go_at_call 11; refine (calls_in (check_walk s _ _ (by omega)) (by assumption) hBl).mono ?_; (first | rw [four_eq_check] | rw [HK.out]); rintro e w1 ⟨rfl, hb1⟩)
          | (go_at_call 7; refine (calls_in (awake_walk _) (by assumption) hBl).mono ?_; rintro e w1 ⟨rfl, hb1⟩)
          | (go_at_call 8; refine (calls_in (sum_walk s _ (by omega)) (by assumption) hBl).mono ?_; rintro e w1 ⟨rfl, hb1⟩)
          | (go_at_call 12; refine (calls_in (refSum_walk s _ (by omega)) (by assumption) hBl).mono ?_; rw [refSum_eq]; rintro e w1 ⟨rfl, hb1⟩)
          | (go_at_call 13; refine (calls_in (four_walk s _ (by omega)) (by assumption) hBl).mono ?_; rintro e w1 ⟨rfl, hb1⟩))
        go_ret
        exact ⟨rfl, by assumption⟩
      · have hck : crcCheck s four = 7 := by simp [crcCheck, H4.out, bytes_eq, he]
        have hee : (four.toList == fourOf (crcSum s.data.toList)) = false := by simp [he]
        have HK := Lib.hid hck
        clear he hck
        go_enter Try.func4, Try.ntmps4
        go_wp2_with (first
          | (go_at_call 10; refine (calls_in (refFour_walk s _ (by omega)) (by assumption) hBl).mono ?_; rintro e w1 ⟨rfl, hb1⟩)
          | (go_at_call 11; refine (calls_in (check_walk s _ _ (by omega)) (by assumption) hBl).mono ?_; (first | rw [four_eq_check] | rw [HK.out]); rintro e w1 ⟨rfl, hb1⟩)
          | (go_at_call 7; refine (calls_in (awake_walk _) (by assumption) hBl).mono ?_; rintro e w1 ⟨rfl, hb1⟩)
          | (go_at_call 8; refine (calls_in (sum_walk s _ (by omega)) (by assumption) hBl).mono ?_; rintro e w1 ⟨rfl, hb1⟩)
          | (go_at_call 12; refine (calls_in (refSum_walk s _ (by omega)) (by assumption) hBl).mono ?_; rw [refSum_eq]; rintro e w1 ⟨rfl, hb1⟩)
          | (go_at_call 13; refine (calls_in (four_walk s _ (by omega)) (by assumption) hBl).mono ?_; rintro e w1 ⟨rfl, hb1⟩))
        go_ret
        exact ⟨rfl, by assumption⟩
    · have h4' : ((four.size : Int) != 4) = true := by simp; omega
      have hck : crcCheck s four = 5 := by simp [crcCheck, h4]
      have HK := Lib.hid hck
      clear h4 hck
      go_enter Try.func4, Try.ntmps4
      go_wp2_with (first
          | (go_at_call 10; refine (calls_in (refFour_walk s _ (by omega)) (by assumption) hBl).mono ?_; rintro e w1 ⟨rfl, hb1⟩)
          | (go_at_call 11; refine (calls_in (check_walk s _ _ (by omega)) (by assumption) hBl).mono ?_; (first | rw [four_eq_check] | rw [HK.out]); rintro e w1 ⟨rfl, hb1⟩)
          | (go_at_call 7; refine (calls_in (awake_walk _) (by assumption) hBl).mono ?_; rintro e w1 ⟨rfl, hb1⟩)
          | (go_at_call 8; refine (calls_in (sum_walk s _ (by omega)) (by assumption) hBl).mono ?_; rintro e w1 ⟨rfl, hb1⟩)
          | (go_at_call 12; refine (calls_in (refSum_walk s _ (by omega)) (by assumption) hBl).mono ?_; rw [refSum_eq]; rintro e w1 ⟨rfl, hb1⟩)
          | (go_at_call 13; refine (calls_in (four_walk s _ (by omega)) (by assumption) hBl).mono ?_; rintro e w1 ⟨rfl, hb1⟩))
      go_ret
      exact ⟨rfl, by assumption⟩
end Go.Proofs.Yteddefjkmojmbaa
