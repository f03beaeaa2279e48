/-
  Walks of the reference of layer 2: the bits of bytes, the powers.
-/
import Derived.Test.YtfiigmimhdnpnaaCrcB
namespace Go.Proofs.Ytfiigmimhdnpnaa
open Go.RowKit

/-- bools as cells -/
def bls (l : List Bool) : List Value := l.map Value.bool
/-- a number's lowest bits, the lowest first -/
def lowBits : Nat → Nat → List Bool
  | 0, _ => []
  | k + 1, n => (n % 2 == 1) :: lowBits k (n / 2)
theorem lowBits_length (k n : Nat) : (lowBits k n).length = k := by
  induction k generalizing n with
  | zero => rfl
  | succ k ih => simp [lowBits, ih]
theorem lowBits_snoc (k n : Nat) : lowBits (k + 1) n = lowBits k n ++ [n / 2 ^ k % 2 == 1] := by
  induction k generalizing n with
  | zero => simp [lowBits]
  | succ k ih =>
    rw [lowBits, ih (n / 2), lowBits, List.cons_append, Nat.div_div_eq_div_mul, Nat.pow_succ]
    simp [Nat.mul_comm]
/-- bytes' bits -/
def byteBits (l : List UInt8) : List Bool := l.flatMap fun c => lowBits 8 c.toNat
theorem byteBits_length (l : List UInt8) : (byteBits l).length = 8 * l.length := by
  induction l with
  | nil => rfl
  | cons c r ih => simp [byteBits, lowBits_length] at ih ⊢; omega
theorem byteBits_snoc (l : List UInt8) (c : UInt8) : byteBits (l ++ [c]) = byteBits l ++ lowBits 8 c.toNat := by simp [byteBits]
theorem bls_append (a b : List Bool) : bls (a ++ b) = bls a ++ bls b := by simp [bls]

theorem info_bool : (Try.prog.info? 4).map (fun i => (i.zero, i.size, i.bytes)) = some (some (.bool false), 1, 1) := by kernel_rfl

theorem mod2_bool (n : Nat) : ((n : Int) % 2 == 1) = (n % 2 == 1) := by
  rw [Bool.eq_iff_iff]; simp; omega

set_option maxHeartbeats 1000000 in
theorem bits_walk (s : ByteArray) (w : World) (hs : s.size ≤ 1000000) :
    Calls Try.prog 41 #[.string s] w fun e w' => ∃ v, e = .returned v ∧ w'.ownsRow w.heap.size 4 1 v (8 * s.size + 32) (bls (byteBits s.data.toList ++ List.replicate 32 false)) ∧ Below w.heap.size w w' := by
  obtain ⟨i0, hi, hz0, hz1, hz2⟩ := info_parts info_bool
  go_enter Try.func41, Try.ntmps41
  go_wp2_with fail
  go_loopw [3, 4] (fun v i wr => ∃ k : Nat, k ≤ s.size ∧ i = .int .i64 k ∧ wr.ownsRow w.heap.size 4 1 v (8 * k) (bls (byteBits (s.data.toList.take k))) ∧ Below w.heap.size w wr)
    (fun _ i _ => s.size - (intOf i).toNat)
  case atStart => exact ⟨0, Nat.zero_le _, rfl, World.ownsRow_nil _ _ _ _, Below.refl _ _⟩
  case round =>
    obtain ⟨k, hk, rfl, hown, hB⟩ := hrel
    by_cases hlt : k < s.size
    · have hb8 := s[k].toNat_lt
      have hsn := take_snoc s k hlt
      have HS := Lib.hid hsn; clear hsn
      go_wp2_with fail
      obtain ⟨wo, hwo⟩ : ∃ wo : World, wo = wr := ⟨_, rfl⟩
      obtain ⟨c, hc⟩ : ∃ c : Nat, c = s[k].toNat := ⟨_, rfl⟩
      have HCc := Lib.hid hc
      rw [← hc] at hb8 ⊢
      clear hc
      go_loopw [3, 5, 6] (fun v n j wi => ∃ q : Nat, q ≤ 8 ∧ j = .int .i64 q ∧ n = .int .i64 ((c / 2 ^ q : Nat) : Int) ∧ wi.ownsRow w.heap.size 4 1 v (8 * k + q) (bls (byteBits (s.data.toList.take k) ++ lowBits q c)) ∧ Below w.heap.size w wi)
        (fun _ _ j _ => 8 - (intOf j).toNat)
      case atStart => exact ⟨0, by omega, rfl, by simp, by simpa [lowBits] using hown, hB⟩
      case round =>
        obtain ⟨q, hq, rfl, rfl, hown2, hB2⟩ := hrel
        obtain ⟨D, hD⟩ : ∃ D : Nat, D = c / 2 ^ q := ⟨_, rfl⟩
        have hDlt : D < 256 := by rw [hD]; exact Nat.lt_of_le_of_lt (Nat.div_le_self _ _) hb8
        have hD2 : c / 2 ^ (q + 1) = D / 2 := by rw [hD, Nat.div_div_eq_div_mul, Nat.pow_succ]
        have hbit := lowBits_snoc q c
        rw [← hD] at hbit ⊢
        have HD2 := Lib.hid hD2
        have HB := Lib.hid hbit
        clear hD hD2 hbit
        by_cases h8 : q < 8
        · go_wp2_with (at_builtin; refine wpList_append_src _ rfl _ _ 64 64 rfl w.heap.size 4 i0 (.bool false) 1 1 Try.underlying64 hi hz0 hz1 hz2 rfl (by decide) _ _ _ rfl (hown2.alloc _) _ 1 _ rfl (src_one _ Try.underlying64 _ _ rfl _) ?_ ?_ ?_ ?_)
          · unfold maxLen; omega
          · omega
          · have := hB2.size; simp; omega
          intro v' w1 hown3 hgrow
          have hB3 := (hB2.alloc hB2.size _).grown hgrow (by have := hB2.size; simp; omega) (fun k hk => (hown2.lt k hk).1)
          have HO := Lib.hid hown3
          clear hown3 hgrow hown2 hown
          go_wp2
          go_roundw
          case rel => 
            refine ⟨q + 1, by omega, by go_num, by rw [HD2.out]; simp, ?_, hB3⟩
            have := HO.out
            rw [HB.out, ← List.append_assoc, bls_append _ [_]]
            simpa [bls, mod2_bool, Nat.add_assoc] using this
          case measure => simp [intOf]; omega
        · obtain rfl : q = 8 := by omega
          go_wp2
          go_roundw
          case rel => exact ⟨k + 1, by omega, by go_num, by rw [HS.out, byteBits_snoc, ← HCc.out]; exact hown2, hB2⟩
          case measure => simp [intOf]; omega
    · obtain rfl : k = s.size := by omega
      go_wp2_with fail
      go_loopw [3, 7] (fun v i wi => ∃ q : Nat, q ≤ 32 ∧ i = .int .i64 q ∧ wi.ownsRow w.heap.size 4 1 v (8 * s.size + q) (bls (byteBits s.data.toList ++ List.replicate q false)) ∧ Below w.heap.size w wi)
        (fun _ i _ => 32 - (intOf i).toNat)
      case atStart => exact ⟨0, by omega, rfl, by simpa [take_all] using hown, hB⟩
      case round =>
        obtain ⟨q, hq, rfl, hown2, hB2⟩ := hrel
        by_cases h8 : q < 32
        · go_wp2_with (at_builtin; refine wpList_append_src _ rfl _ _ 64 64 rfl w.heap.size 4 i0 (.bool false) 1 1 Try.underlying64 hi hz0 hz1 hz2 rfl (by decide) _ _ _ rfl (hown2.alloc _) _ 1 _ rfl (src_one _ Try.underlying64 _ _ rfl _) ?_ ?_ ?_ ?_)
          · unfold maxLen; omega
          · omega
          · have := hB2.size; simp; omega
          intro v' w1 hown3 hgrow
          have hB3 := (hB2.alloc hB2.size _).grown hgrow (by have := hB2.size; simp; omega) (fun k hk => (hown2.lt k hk).1)
          have HO := Lib.hid hown3
          clear hown3 hgrow hown2 hown
          go_wp2
          go_roundw
          case rel => 
            refine ⟨q + 1, by omega, by go_num, ?_, hB3⟩
            have := HO.out
            rw [List.replicate_succ', ← List.append_assoc, bls_append _ [_]]
            exact this
          case measure => simp [intOf]; omega
        · obtain rfl : q = 32 := by omega
          go_wp2
          go_ret
          exact ⟨_, rfl, hown2, hB2⟩

/-- the powers -/
def pows : List Nat := [28, 27, 26, 25, 23, 22, 20, 19, 18, 14, 13, 11, 10, 9, 8, 6, 0]
set_option maxHeartbeats 400000 in
theorem powers_walk (w : World) :
    Calls Try.prog 42 #[] w fun e w' => e = .returned (.slice (some ⟨w.heap.size, 0, none⟩) 17 17) ∧ w' = w.alloc (.cells (pows.map fun n : Nat => Value.int .i64 (n : Int)).toArray 3) := by
  go_enter Try.func42, Try.ntmps42
  go_wp2
  go_ret
  exact ⟨rfl, rfl⟩
end Go.Proofs.Ytfiigmimhdnpnaa
