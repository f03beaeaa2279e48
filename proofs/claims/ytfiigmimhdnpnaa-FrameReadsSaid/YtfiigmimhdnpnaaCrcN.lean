/-
  The plain law of check sums: the reference's division finds the same sum.
-/
import Derived.Test.YtfiigmimhdnpnaaCrcM
namespace Go.Proofs.Ytfiigmimhdnpnaa

theorem flipAt_get (l : List Bool) (a j : Nat) (ha : a < l.length) : (flipAt l a).getD j false = (l.getD j false ^^ decide (j = a)) := by
  unfold flipAt
  simp only [List.getD_eq_getElem?_getD, List.getElem?_set]
  by_cases h : a = j
  · subst h; simp [ha]
  · have h' : ¬ j = a := fun e => h e.symm
    simp [h, h']

theorem flipTo_get (k : Nat) (l : List Bool) (hk : k ≤ l.length) (j : Nat) : (flipTo k l).getD j false = (l.getD j false ^^ decide (j < k)) := by
  induction k with
  | zero => simp [flipTo]
  | succ k ih =>
    rw [flipTo, flipAt_get _ _ _ (by rw [flipTo_length]; omega), ih (by omega)]
    by_cases h1 : j < k
    · have h2 : ¬ j = k := by omega
      have h3 : j < k + 1 := by omega
      simp [h1, h2, h3]
    · by_cases h2 : j = k
      · have h3 : j < k + 1 := by omega
        simp [h2]
      · have h3 : ¬ j < k + 1 := by omega
        simp [h1, h2, h3]

/-- is a place turned by so many powers? -/
def togg (t : Nat) : Nat → Bool
  | 0 => false
  | k + 1 => togg t k ^^ decide (1 + t = 32 - pows.getD k 0)
theorem togg_poly : ∀ t, t < 32 → togg t 17 = Nat.testBit 2197175160 t := by decide
theorem pows_le : ∀ k, k < 17 → pows.getD k 0 ≤ 28 := by decide
theorem togg_far (t : Nat) (ht : 32 ≤ t) (k : Nat) : togg t k = false := by
  induction k with
  | zero => rfl
  | succ k ih =>
    have h : ¬ (1 + t = 32 - pows.getD k 0) := by omega
    rw [togg, ih, decide_eq_false h]; rfl
theorem flipPows_get (i : Nat) (l : List Bool) (hl : i + 33 ≤ l.length) (t : Nat) (k : Nat) (hk : k ≤ 17) : (flipPows i k l).getD (i + 1 + t) false = (l.getD (i + 1 + t) false ^^ togg t k) := by
  induction k with
  | zero => simp [flipPows, togg]
  | succ k ih =>
    have hp := pows_le k (by omega)
    rw [flipPows, flipAt_get _ _ _ (by rw [flipPows_length]; omega), ih (by omega), togg, Bool.xor_assoc]
    congr 2
    rw [decide_eq_decide]
    omega
theorem poly_far (t : Nat) (ht : 32 ≤ t) : Nat.testBit 2197175160 t = false :=
  Nat.testBit_lt_two_pow (Nat.lt_of_lt_of_le (by omega : 2197175160 < 2 ^ 32) (Nat.pow_le_pow_right (by omega) ht))
theorem togg_all (t : Nat) : togg t 17 = Nat.testBit 2197175160 t := by
  rcases Nat.lt_or_ge t 32 with h | h
  · exact togg_poly t h
  · rw [togg_far t h, poly_far t h]

theorem crcIn_test (x : Nat) (b : Bool) (k : Nat) : (crcIn x b).testBit k = (x.testBit (k + 1) ^^ ((x.testBit 0 ^^ b) && Nat.testBit 2197175160 k)) := by
  unfold crcIn
  rw [crcBit_test, Nat.testBit_xor, Nat.testBit_xor]
  have e1 : b.toNat.testBit (k + 1) = false := by
    rw [Nat.testBit_succ]
    cases b <;> simp
  have e0 : b.toNat.testBit 0 = b := by cases b <;> rfl
  rw [e1, e0, Bool.xor_false]
theorem crcIn_lt (x : Nat) (b : Bool) (h : x < 4294967296) : crcIn x b < 4294967296 :=
  crcBit_lt _ (Nat.xor_lt_two_pow (n := 32) (by omega) (by cases b <;> simp))
theorem fold_lt (l : List Bool) (x : Nat) (h : x < 4294967296) : l.foldl crcIn x < 4294967296 := by
  induction l generalizing x with
  | nil => exact h
  | cons b r ih => exact ih _ (crcIn_lt x b h)

/-- what stands behind rounds of the division: the state, and the bits that come -/
theorem div_get (M : List Bool) (m : Nat) (hM : M.length = m + 32) (i : Nat) (hi : i ≤ m) (k : Nat) :
    (divTo i (flipTo 32 M)).getD (i + k) false = (((M.take i).foldl crcIn 4294967295).testBit k ^^ M.getD (i + k) false) := by
  induction i generalizing k with
  | zero =>
    rw [divTo, flipTo_get _ _ (by omega)]
    simp only [Nat.zero_add, List.take_zero, List.foldl_nil]
    rw [Bool.xor_comm]
    congr 1
    rw [show (4294967295 : Nat) = 2 ^ 32 - 1 from rfl, Nat.testBit_two_pow_sub_one]
  | succ i ih =>
    have hb := ih (by omega) 0
    rw [Nat.add_zero] at hb
    have hlen : (divTo i (flipTo 32 M)).length = m + 32 := by rw [divTo_length, flipTo_length, hM]
    have htake : (M.take (i + 1)).foldl crcIn 4294967295 = crcIn ((M.take i).foldl crcIn 4294967295) (M.getD i false) := by
      rw [List.take_succ_eq_append_getElem (by omega), List.foldl_append]
      simp [List.getD_eq_getElem?_getD, List.getElem?_eq_getElem (show i < M.length by omega)]
    rw [htake, crcIn_test, divTo, divRound, hb]
    have hk := ih (by omega) (k + 1)
    rw [show i + (k + 1) = i + 1 + k by omega] at hk
    generalize (M.take i).foldl crcIn 4294967295 = X at hk ⊢
    split
    · rename_i h
      rw [flipPows_get i _ (by omega) k 17 (by omega), hk, togg_all, h, Bool.true_and, Bool.xor_assoc, Bool.xor_assoc, Bool.xor_comm (M.getD (i + 1 + k) false)]
    · rename_i h
      rw [Bool.not_eq_true] at h
      rw [hk, h, Bool.false_and, Bool.xor_false]

theorem div_two_test (n a : Nat) : n / 2 ^ a = n / 2 ^ (a + 1) * 2 + (n.testBit a).toNat := by
  have h1 : n / 2 ^ (a + 1) = n / 2 ^ a / 2 := by rw [Nat.div_div_eq_div_mul, Nat.pow_succ]
  rw [h1, Nat.testBit_eq_decide_div_mod_eq]
  generalize n / 2 ^ a = d
  by_cases h : d % 2 = 1
  · simp [h]; omega
  · simp [h]; omega
theorem not_test (x j : Nat) (h : x < 4294967296) (hj : j < 32) : (4294967295 - x).testBit j = !x.testBit j := by
  rw [← xor_ones x h, Nat.testBit_xor, show (4294967295 : Nat) = 2 ^ 32 - 1 from rfl, Nat.testBit_two_pow_sub_one]
  simp [hj]

theorem lastNum_of (D : List Bool) (m x : Nat) (hx : x < 4294967296) (hl : D.length = m + 32) (hD : ∀ k, k < 32 → D.getD (m + k) false = x.testBit k) (k : Nat) (hk : k ≤ 32) :
    lastNum D k = (4294967295 - x) / 2 ^ (32 - k) := by
  induction k with
  | zero =>
    rw [lastNum]
    exact (Nat.div_eq_of_lt (by omega)).symm
  | succ k ih =>
    rw [lastNum, ih (by omega), hl, div_two_test _ (32 - (k + 1)), show 32 - (k + 1) + 1 = 32 - k by omega, show m + 32 - 1 - k = m + (31 - k) by omega, hD (31 - k) (by omega), show 32 - (k + 1) = 31 - k by omega, not_test x (31 - k) hx (by omega)]
    cases x.testBit (31 - k) <;> rfl

theorem refSum_eq (l : List UInt8) : refSum l = crcSum l := by
  have hM : (byteBits l ++ List.replicate 32 false).length = 8 * l.length + 32 := by simp [byteBits_length]
  unfold refSum crcSum
  have hx := fold_lt (byteBits l) 4294967295 (by omega)
  have ht : (byteBits l ++ List.replicate 32 false).take (8 * l.length) = byteBits l := by rw [← byteBits_length l]; exact List.take_left
  have hD : ∀ k, k < 32 → (divTo (8 * l.length) (flipTo 32 (byteBits l ++ List.replicate 32 false))).getD (8 * l.length + k) false = ((byteBits l).foldl crcIn 4294967295).testBit k := by
    intro k hk
    rw [div_get _ _ hM _ (Nat.le_refl _), ht]
    have : (byteBits l ++ List.replicate 32 false).getD (8 * l.length + k) false = false := by
      rw [← byteBits_length l, List.getD_eq_getElem?_getD, List.getElem?_append_right (by omega)]
      rw [List.getElem?_replicate]
      split <;> rfl
    rw [this, Bool.xor_false]
  have h := lastNum_of _ (8 * l.length) _ hx (by rw [divTo_length, flipTo_length, hM]) hD 32 (Nat.le_refl _)
  rw [crcAll_in]
  simpa using h
end Go.Proofs.Ytfiigmimhdnpnaa
