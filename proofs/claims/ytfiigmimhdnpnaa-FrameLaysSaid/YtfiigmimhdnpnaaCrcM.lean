/-
  The plain law of check sums: the sum is linear; it is the remainder that the reference finds by division.
-/
import Derived.Test.YtfiigmimhdnpnaaRef02B
namespace Go.Proofs.Ytfiigmimhdnpnaa

theorem crcBit_test (x j : Nat) : (crcBit x).testBit j = (x.testBit (j + 1) ^^ (x.testBit 0 && Nat.testBit 2197175160 j)) := by
  unfold crcBit
  rw [Nat.testBit_succ, Nat.testBit_zero]
  split
  · rename_i h; simp [Nat.testBit_xor, h]
  · rename_i h; simp [h]

theorem crcBit_xor (x y : Nat) : crcBit (x ^^^ y) = crcBit x ^^^ crcBit y := by
  apply Nat.eq_of_testBit_eq
  intro j
  simp only [crcBit_test, Nat.testBit_xor]
  cases x.testBit (j + 1) <;> cases y.testBit (j + 1) <;> cases x.testBit 0 <;> cases y.testBit 0 <;> cases Nat.testBit 2197175160 j <;> rfl
theorem crcBit_zero : crcBit 0 = 0 := rfl
theorem crcBits_xor (k x y : Nat) : crcBits k (x ^^^ y) = crcBits k x ^^^ crcBits k y := by
  induction k with
  | zero => rfl
  | succ k ih => rw [crcBits, crcBits, crcBits, ih, crcBit_xor]
theorem crcBits_zero (k : Nat) : crcBits k 0 = 0 := by
  induction k with
  | zero => rfl
  | succ k ih => rw [crcBits, ih, crcBit_zero]

/-- nothing but nought goes to nought -/
theorem crcBit_ne (x : Nat) (h : x < 4294967296) (hx : crcBit x = 0) : x = 0 := by
  apply Nat.eq_of_testBit_eq
  have h0 : x.testBit 0 = false := by
    have h31 := congrArg (fun z => z.testBit 31) hx
    simp only [crcBit_test] at h31
    have h32 : x.testBit 32 = false := Nat.testBit_lt_two_pow (by omega)
    have hp : Nat.testBit 2197175160 31 = true := by decide
    rw [h32, hp, Nat.zero_testBit] at h31
    simpa using h31
  intro j
  cases j with
  | zero => rw [h0]; simp
  | succ j =>
    have hj := congrArg (fun z => z.testBit j) hx
    simp only [crcBit_test, h0] at hj
    simpa using hj
theorem crcBits_ne (k x : Nat) (h : x < 4294967296) (hx : crcBits k x = 0) : x = 0 := by
  induction k with
  | zero => exact hx
  | succ k ih => exact ih (crcBit_ne _ (crcBits_lt k x h) hx)
theorem xor_ne {a b : Nat} (h : a ≠ b) : a ^^^ b ≠ 0 := by
  intro hx
  apply h
  have e : a ^^^ (a ^^^ b) = a := by rw [hx, Nat.xor_zero]
  rw [← Nat.xor_assoc, Nat.xor_self, Nat.zero_xor] at e
  exact e.symm
theorem crcBits_inj {k x y : Nat} (hx : x < 4294967296) (hy : y < 4294967296) (h : x ≠ y) : crcBits k x ≠ crcBits k y := by
  intro e
  have h2 := crcBits_xor k x y
  rw [e, Nat.xor_self] at h2
  exact xor_ne h (crcBits_ne k _ (Nat.xor_lt_two_pow (n := 32) (by omega) (by omega)) h2)

theorem xor_right_ne {a b c : Nat} (h : a ≠ b) : a ^^^ c ≠ b ^^^ c := by
  intro e
  apply h
  have := congrArg (fun z => z ^^^ c) e
  simpa [Nat.xor_assoc] using this
theorem xor_left_ne {a b c : Nat} (h : a ≠ b) : c ^^^ a ≠ c ^^^ b := by
  rw [Nat.xor_comm c a, Nat.xor_comm c b]; exact xor_right_ne h
theorem crcByte_ne_state {x y : Nat} (c : UInt8) (hx : x < 4294967296) (hy : y < 4294967296) (h : x ≠ y) : crcByte x c ≠ crcByte y c :=
  crcBits_inj (Nat.xor_lt_two_pow (n := 32) (by omega) (by have := c.toNat_lt; omega)) (Nat.xor_lt_two_pow (n := 32) (by omega) (by have := c.toNat_lt; omega)) (xor_right_ne h)
theorem crcByte_ne_byte {x : Nat} {c d : UInt8} (hx : x < 4294967296) (h : c ≠ d) : crcByte x c ≠ crcByte x d :=
  crcBits_inj (Nat.xor_lt_two_pow (n := 32) (by omega) (by have := c.toNat_lt; omega)) (Nat.xor_lt_two_pow (n := 32) (by omega) (by have := d.toNat_lt; omega)) (xor_left_ne (fun e => h (UInt8.toNat_inj.1 e)))
theorem crcAll_ne {l : List UInt8} {x y : Nat} (hx : x < 4294967296) (hy : y < 4294967296) (h : x ≠ y) : crcAll x l ≠ crcAll y l := by
  induction l generalizing x y with
  | nil => exact h
  | cons c r ih => exact ih (crcByte_lt x c hx) (crcByte_lt y c hy) (crcByte_ne_state c hx hy h)

/-- one byte other: another sum -/
theorem crcSum_ne_at (l : List UInt8) (i : Nat) (hi : i < l.length) (d : UInt8) (hd : d ≠ l[i]) : crcSum (l.set i d) ≠ crcSum l := by
  have key : ∀ (l : List UInt8) (i : Nat) (hi : i < l.length) (_ : d ≠ l[i]) (x : Nat), x < 4294967296 → crcAll x (l.set i d) ≠ crcAll x l := by
    intro l
    induction l with
    | nil => intro i hi; simp at hi
    | cons c r ih =>
      intro i hi hne x hx
      cases i with
      | zero =>
        simp at hne
        show crcAll (crcByte x d) r ≠ crcAll (crcByte x c) r
        exact crcAll_ne (crcByte_lt x d hx) (crcByte_lt x c hx) (crcByte_ne_byte hx hne)
      | succ i =>
        have hi' : i < r.length := by simpa using hi
        have hne' : d ≠ r[i] := by simpa using hne
        show crcAll (crcByte x c) (r.set i d) ≠ crcAll (crcByte x c) r
        exact ih i hi' hne' _ (crcByte_lt x c hx)
  have h := key l i hi hd 4294967295 (by omega)
  have h1 := crcAll_lt (l.set i d) 4294967295 (by omega)
  have h2 := crcAll_lt l 4294967295 (by omega)
  unfold crcSum
  omega

/-- three added without carry -/
def xor3 : List UInt8 → List UInt8 → List UInt8 → List UInt8
  | a :: x, b :: y, c :: z => (a ^^^ b ^^^ c) :: xor3 x y z
  | _, _, _ => []
theorem crcByte_xor3 (x y z : Nat) (a b c : UInt8) : crcByte (x ^^^ y ^^^ z) (a ^^^ b ^^^ c) = crcByte x a ^^^ crcByte y b ^^^ crcByte z c := by
  unfold crcByte
  rw [← crcBits_xor, ← crcBits_xor]
  congr 1
  rw [UInt8.toNat_xor, UInt8.toNat_xor]
  apply Nat.eq_of_testBit_eq
  intro j
  simp only [Nat.testBit_xor]
  cases x.testBit j <;> cases y.testBit j <;> cases z.testBit j <;> cases a.toNat.testBit j <;> cases b.toNat.testBit j <;> cases c.toNat.testBit j <;> rfl
theorem crcAll_xor3 (l m n : List UInt8) (x y z : Nat) (h1 : l.length = m.length) (h2 : l.length = n.length) : crcAll (x ^^^ y ^^^ z) (xor3 l m n) = crcAll x l ^^^ crcAll y m ^^^ crcAll z n := by
  induction l generalizing m n x y z with
  | nil =>
    cases m with
    | nil => cases n with
      | nil => rfl
      | cons c n => simp at h2
    | cons b m => simp at h1
  | cons a l ih =>
    cases m with
    | nil => simp at h1
    | cons b m => cases n with
      | nil => simp at h2
      | cons c n =>
        have e := ih m n (crcByte x a) (crcByte y b) (crcByte z c) (by simpa using h1) (by simpa using h2)
        rw [← crcByte_xor3] at e
        exact e
theorem sub_ones (x : Nat) (h : x < 4294967296) : 4294967295 - x = 4294967295 ^^^ x := (xor_ones x h).symm
theorem crcSum_even (l m n : List UInt8) (h1 : l.length = m.length) (h2 : l.length = n.length) : crcSum l ^^^ crcSum m ^^^ crcSum n ^^^ crcSum (xor3 l m n) = 0 := by
  have e := crcAll_xor3 l m n 4294967295 4294967295 4294967295 h1 h2
  have e0 : (4294967295 ^^^ 4294967295 ^^^ 4294967295 : Nat) = 4294967295 := by decide
  rw [e0] at e
  unfold crcSum
  rw [e, sub_ones _ (crcAll_lt l _ (by omega)), sub_ones _ (crcAll_lt m _ (by omega)), sub_ones _ (crcAll_lt n _ (by omega)), sub_ones _ (by rw [← e]; exact crcAll_lt _ _ (by omega))]
  generalize crcAll 4294967295 l = A
  generalize crcAll 4294967295 m = B
  generalize crcAll 4294967295 n = C
  apply Nat.eq_of_testBit_eq
  intro j
  simp only [Nat.testBit_xor]
  cases A.testBit j <;> cases B.testBit j <;> cases C.testBit j <;> cases Nat.testBit 4294967295 j <;> simp

/-- one bit of the message taken in -/
def crcIn (x : Nat) (m : Bool) : Nat := crcBit (x ^^^ m.toNat)
theorem crcBit_double (y : Nat) : crcBit (2 * y) = y := by unfold crcBit; rw [if_neg (by omega)]; omega
theorem crcBits_in (k : Nat) : ∀ (x c : Nat), crcBits k (x ^^^ c) = (lowBits k c).foldl crcIn x ^^^ (c / 2 ^ k) := by
  induction k with
  | zero => intro x c; simp [crcBits, lowBits]
  | succ k ih =>
    intro x c
    rw [crcBits, ih x c, lowBits_snoc, List.foldl_append]
    simp only [List.foldl_cons, List.foldl_nil]
    generalize (lowBits k c).foldl crcIn x = X
    have hD : c / 2 ^ (k + 1) = (c / 2 ^ k) / 2 := by rw [Nat.div_div_eq_div_mul, Nat.pow_succ]
    rw [hD]
    generalize c / 2 ^ k = D
    have e : X ^^^ D = (X ^^^ (D % 2 == 1).toNat) ^^^ (2 * (D / 2)) := by
      rw [Nat.xor_assoc]
      congr 1
      apply Nat.eq_of_testBit_eq
      intro j
      rw [Nat.testBit_xor]
      cases j with
      | zero =>
        rcases Nat.mod_two_eq_zero_or_one D with h | h <;> simp [Nat.testBit_zero, h]
      | succ j =>
        rw [Nat.testBit_succ, Nat.testBit_succ, Nat.testBit_succ]
        have h2 : 2 * (D / 2) / 2 = D / 2 := by omega
        have h3 : (D % 2 == 1).toNat / 2 = 0 := by
          cases (D % 2 == 1) <;> simp
        rw [h2, h3]; simp
    rw [e, crcBit_xor, crcBit_double]
    rfl
theorem crcByte_in (x : Nat) (c : UInt8) : crcByte x c = (lowBits 8 c.toNat).foldl crcIn x := by
  unfold crcByte
  rw [crcBits_in]
  have : c.toNat / 2 ^ 8 = 0 := by have := c.toNat_lt; omega
  rw [this, Nat.xor_zero]
theorem crcAll_in (l : List UInt8) (x : Nat) : crcAll x l = (byteBits l).foldl crcIn x := by
  induction l generalizing x with
  | nil => rfl
  | cons c r ih =>
    show crcAll (crcByte x c) r = _
    rw [ih, crcByte_in]
    simp [byteBits]
end Go.Proofs.Ytfiigmimhdnpnaa
