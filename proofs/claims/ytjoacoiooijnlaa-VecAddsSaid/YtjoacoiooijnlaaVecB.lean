/-
  Walks of layers 12 and 13: which versions may be, a vector's number, what is in a vector.
-/
import Derived.Test.YtjoacoiooijnlaaVecA
import Derived.Deep.RegionWith
import Derived.BigRegion
namespace Go.Proofs.Ytjoacoiooijnlaa
open Go.RowKit

/-- may a version be? -/
def verOk (b n : Int) : Bool := decide (1 ≤ b ∧ b ≤ 64 ∧ 1 ≤ n)

set_option maxHeartbeats 400000 in
theorem check_yes (b n : Int) (w : World) (h1 : 1 ≤ b) (h2 : b ≤ 64) (h3 : 1 ≤ n) :
    Calls Try.prog 25 #[.agg #[.int .i64 b, .int .i64 n]] w fun e w' => e = .returned (.int .i64 0) ∧ w' = w.alloc (.cells #[.int .i64 b, .int .i64 n] 25) := by
  go_enter Try.func25, Try.ntmps25
  go_wp2
  go_ret
  exact ⟨rfl, rfl⟩
set_option maxHeartbeats 400000 in
theorem check_no (b n : Int) (w : World) (h : ¬ (1 ≤ b ∧ b ≤ 64 ∧ 1 ≤ n)) :
    Calls Try.prog 25 #[.agg #[.int .i64 b, .int .i64 n]] w fun e w' => e = .returned (.int .i64 2) ∧ w' = w.alloc (.cells #[.int .i64 b, .int .i64 n] 25) := by
  by_cases h1 : 1 ≤ b
  · by_cases h2 : b ≤ 64
    · have h3 : n < 1 := by omega
      clear h
      go_enter Try.func25, Try.ntmps25
      go_wp2
      go_ret
      exact ⟨rfl, rfl⟩
    · have h3 : 64 < b := by omega
      clear h h2
      go_enter Try.func25, Try.ntmps25
      go_wp2
      go_ret
      exact ⟨rfl, rfl⟩
  · have h3 : b < 1 := by omega
    clear h h1
    go_enter Try.func25, Try.ntmps25
    go_wp2
    go_ret
    exact ⟨rfl, rfl⟩
set_option maxHeartbeats 400000 in
theorem right_yes (b n : Int) (w : World) (h1 : 1 ≤ b) (h2 : b ≤ 64) (h3 : 1 ≤ n) :
    Calls Try.prog 19 #[.agg #[.int .i64 b, .int .i64 n]] w fun e w' => e = .returned (.bool true) ∧ w' = w.alloc (.cells #[.int .i64 b, .int .i64 n] 25) := by
  go_enter Try.func19, Try.ntmps19
  go_wp2
  go_ret
  exact ⟨rfl, rfl⟩
set_option maxHeartbeats 400000 in
theorem right_no (b n : Int) (w : World) (h : ¬ (1 ≤ b ∧ b ≤ 64 ∧ 1 ≤ n)) :
    Calls Try.prog 19 #[.agg #[.int .i64 b, .int .i64 n]] w fun e w' => e = .returned (.bool false) ∧ w' = w.alloc (.cells #[.int .i64 b, .int .i64 n] 25) := by
  by_cases h1 : 1 ≤ b
  · by_cases h2 : b ≤ 64
    · have h3 : n < 1 := by omega
      clear h
      go_enter Try.func19, Try.ntmps19
      go_wp2
      go_ret
      exact ⟨ret_bool (decide_eq_false (by omega)), rfl⟩
    · have h3 : 64 < b := by omega
      clear h h2
      go_enter Try.func19, Try.ntmps19
      go_wp2
      go_ret
      exact ⟨rfl, rfl⟩
  · have h3 : b < 1 := by omega
    clear h h1
    go_enter Try.func19, Try.ntmps19
    go_wp2
    go_ret
    exact ⟨rfl, rfl⟩

/-- a number, as it counts -/
def vat (f : Nat → Int) (i : Int) : Int := if i < 1 ∨ 64 < i then 0 else max (f i.toNat) 0

set_option maxHeartbeats 400000 in
theorem at_walk (f : Nat → Int) (i : Int) (w : World) :
    Calls Try.prog 26 #[.agg (vec f), .int .i64 i] w fun e w' => e = .returned (.int .i64 (vat f i)) ∧ w' = w.alloc (.cells (vec f) 23) := by
  by_cases h1 : i < 1
  · go_enter Try.func26, Try.ntmps26
    go_wp2
    go_ret
    exact ⟨ret_int (by simp [vat, h1]), rfl⟩
  · by_cases h2 : 64 < i
    · have h1' : 1 ≤ i := by omega
      clear h1
      go_enter Try.func26, Try.ntmps26
      go_wp2
      go_ret
      exact ⟨ret_int (by simp [vat, h2]), rfl⟩
    · obtain ⟨k, rfl⟩ := Int.eq_ofNat_of_zero_le (show 0 ≤ i by omega)
      have hk1 : 1 ≤ k := by omega
      have hk2 : k ≤ 64 := by omega
      clear h1 h2
      have hv : vat f k = max (f k) 0 := by simp only [vat]; rw [if_neg (by omega)]; simp
      have hc : (w.alloc (.cells (vec f) 23)).cell? ⟨w.heap.size, k, none⟩ = some (.int .i64 (f k)) := vec_cell (heap_alloc_top _ _) k (by omega)
      have HV := Lib.hid hv; clear hv
      by_cases h0 : f k < 0
      · go_enter Try.func26, Try.ntmps26
        go_wp2
        go_ret
        exact ⟨ret_int (by rw [HV.out]; omega), rfl⟩
      · have h0' : 0 ≤ f k := by omega
        clear h0
        go_enter Try.func26, Try.ntmps26
        go_wp2
        go_ret
        exact ⟨ret_int (by rw [HV.out]; omega), rfl⟩

theorem below_alloc (w : World) (o : Obj) : Below w.heap.size w (w.alloc o) := (Below.refl _ _).alloc (Nat.le_refl _) _
theorem check_yesB (b n : Int) (w : World) (h1 : 1 ≤ b) (h2 : b ≤ 64) (h3 : 1 ≤ n) :
    Calls Try.prog 25 #[.agg #[.int .i64 b, .int .i64 n]] w fun e w' => e = .returned (.int .i64 0) ∧ Below w.heap.size w w' :=
  (check_yes b n w h1 h2 h3).mono fun _ _ ⟨h, hw⟩ => ⟨h, by rw [hw]; exact below_alloc _ _⟩
theorem check_noB (b n : Int) (w : World) (h : ¬ (1 ≤ b ∧ b ≤ 64 ∧ 1 ≤ n)) :
    Calls Try.prog 25 #[.agg #[.int .i64 b, .int .i64 n]] w fun e w' => e = .returned (.int .i64 2) ∧ Below w.heap.size w w' :=
  (check_no b n w h).mono fun _ _ ⟨h, hw⟩ => ⟨h, by rw [hw]; exact below_alloc _ _⟩
theorem right_walk (b n : Int) (w : World) :
    Calls Try.prog 19 #[.agg #[.int .i64 b, .int .i64 n]] w fun e w' => e = .returned (.bool (verOk b n)) ∧ Below w.heap.size w w' := by
  by_cases h : 1 ≤ b ∧ b ≤ 64 ∧ 1 ≤ n
  · have hv : verOk b n = true := decide_eq_true h
    rw [hv]
    exact (right_yes b n w h.1 h.2.1 h.2.2).mono fun _ _ ⟨h, hw⟩ => ⟨h, by rw [hw]; exact below_alloc _ _⟩
  · have hv : verOk b n = false := decide_eq_false h
    rw [hv]
    exact (right_no b n w h).mono fun _ _ ⟨h, hw⟩ => ⟨h, by rw [hw]; exact below_alloc _ _⟩
theorem at_walkB (f : Nat → Int) (i : Int) (w : World) :
    Calls Try.prog 26 #[.agg (vec f), .int .i64 i] w fun e w' => e = .returned (.int .i64 (vat f i)) ∧ Below w.heap.size w w' :=
  (at_walk f i w).mono fun _ _ ⟨h, hw⟩ => ⟨h, by rw [hw]; exact below_alloc _ _⟩
end Go.Proofs.Ytjoacoiooijnlaa
