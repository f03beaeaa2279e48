/-
  Walks of package crc: the closure that takes a bit in, and the sum of bytes.
-/
import Derived.Test.YtfiigmimhdnpnaaBase
namespace Go.Proofs.Ytfiigmimhdnpnaa
open Go.RowKit

/-- one bit taken in -/
def crcBit (x : Nat) : Nat := if x % 2 = 1 then (x / 2) ^^^ 2197175160 else x / 2

theorem crcBit_lt (x : Nat) (h : x < 4294967296) : crcBit x < 4294967296 := by
  unfold crcBit
  split
  · exact Nat.xor_lt_two_pow (n := 32) (by omega) (by omega)
  · omega

/-- so many bits taken in -/
def crcBits : Nat → Nat → Nat
  | 0, x => x
  | k + 1, x => crcBit (crcBits k x)
/-- one byte taken in -/
def crcByte (x : Nat) (c : UInt8) : Nat := crcBits 8 (x ^^^ c.toNat)
/-- bytes taken in -/
def crcAll (x : Nat) (l : List UInt8) : Nat := l.foldl crcByte x
/-- the sum -/
def crcSum (l : List UInt8) : Nat := 4294967295 - crcAll 4294967295 l

theorem crcBits_lt (k x : Nat) (h : x < 4294967296) : crcBits k x < 4294967296 := by
  induction k with
  | zero => exact h
  | succ k ih => exact crcBit_lt _ ih
theorem crcByte_lt (x : Nat) (c : UInt8) (h : x < 4294967296) : crcByte x c < 4294967296 := by
  apply crcBits_lt
  exact Nat.xor_lt_two_pow (n := 32) (by omega) (by have := c.toNat_lt; omega)
theorem crcAll_lt (l : List UInt8) (x : Nat) (h : x < 4294967296) : crcAll x l < 4294967296 := by
  induction l generalizing x with
  | nil => exact h
  | cons c r ih => exact ih _ (crcByte_lt x c h)
theorem crcAll_snoc (x : Nat) (l : List UInt8) (c : UInt8) : crcAll x (l ++ [c]) = crcByte (crcAll x l) c := by
  simp [crcAll]
theorem crcSum_le (l : List UInt8) : crcSum l ≤ 4294967295 := by unfold crcSum; omega

theorem u32_odd (x : Nat) (hx : x < 4294967296) : bits BinOp.and IntKind.u32 (x : Int) 1 = ((x % 2 : Nat) : Int) := by
  have h := u32_and_nat x 1 hx (by omega)
  rw [Nat.and_one_is_mod] at h
  exact h
theorem u32_poly (x : Nat) (hx : x < 4294967296) : bits BinOp.xor IntKind.u32 ((x : Int) / 2) 2197175160 = (((x / 2) ^^^ 2197175160 : Nat) : Int) := by
  exact u32_xor_nat (x / 2) 2197175160 (by omega) (by omega)

set_option maxHeartbeats 400000 in
theorem bit_walk (x : Nat) (hx : x < 4294967296) (b : Nat) (w : World) (hb : w.heap[b]? = some (.cells #[.int .u32 x] 37 (0, 0))) :
    Calls Try.prog 39 #[.pointer (some ⟨b, 0, none⟩)] w fun e w' => e = .returned (.tuple #[]) ∧ w'.heap[b]? = some (.cells #[.int .u32 (crcBit x)] 37 (0, 0)) ∧ w.grownBy w' (some b) := by
  have hc := cell_of_one hb
  have hf := free_of_one hb
  have H := Lib.hid hb; clear hb
  by_cases h : x % 2 = 1
  · have h1 : (bits BinOp.and IntKind.u32 (x : Int) 1 == 1) = true := by rw [u32_odd x hx]; simp; omega
    go_enter Try.func39, Try.ntmps39
    go_wp2
    go_end0
    refine ⟨rfl, ?_, grownBy_trans (grownBy_setCell _ _ _ _) (grownBy_setCell _ _ _ _)⟩
    rw [one_setCell (one_setCell H.out), u32_poly x hx]
    simp [crcBit, h]
  · have h1 : (bits BinOp.and IntKind.u32 (x : Int) 1 == 1) = false := by rw [u32_odd x hx]; simp; omega
    go_enter Try.func39, Try.ntmps39
    go_wp2
    go_end0
    refine ⟨rfl, ?_, grownBy_setCell _ _ _ _⟩
    rw [one_setCell H.out]
    simp [crcBit, h]

theorem xor_ones (x : Nat) (h : x < 4294967296) : 4294967295 ^^^ x = 4294967295 - x := by
  have e : (BitVec.allOnes 32 ^^^ BitVec.ofNat 32 x) = ~~~ (BitVec.ofNat 32 x) := by rw [BitVec.xor_comm, BitVec.xor_allOnes]
  have e2 := congrArg BitVec.toNat e
  rw [BitVec.toNat_xor, BitVec.toNat_not, BitVec.toNat_ofNat, BitVec.toNat_allOnes] at e2
  have e3 : x % 2 ^ 32 = x := Nat.mod_eq_of_lt (by omega)
  rw [e3] at e2
  exact e2
theorem u32_not (x : Nat) (h : x < 4294967296) : wrap64 (bits BinOp.xor IntKind.u32 IntKind.u32.max (x : Int)) = ((4294967295 - x : Nat) : Int) := by
  have e : (IntKind.u32.max : Int) = ((4294967295 : Nat) : Int) := by decide
  rw [e, u32_xor_nat 4294967295 x (by omega) h, xor_ones x h]
  exact IntWalk.wrap64_in _ ⟨by omega, by omega⟩
theorem take_snoc (s : ByteArray) (k : Nat) (h : k < s.size) : s.data.toList.take (k + 1) = s.data.toList.take k ++ [s[k]] := by
  rw [List.take_succ_eq_append_getElem (by simpa using h)]; rfl
theorem take_all (s : ByteArray) : s.data.toList.take s.size = s.data.toList := List.take_of_length_le (by simp)

set_option maxHeartbeats 400000 in
theorem sum_walk (s : ByteArray) (w : World) (hs : s.size ≤ 9223372036854775807) :
    Calls Try.prog 33 #[.string s] w fun e w' => e = .returned (.int .i64 (crcSum s.data.toList)) ∧ Below w.heap.size w w' := by
  have hmf : ∀ (fn : Fn) (first cap : Array Value) (w : World), (Instr.makeFunc fn first cap).run Try.prog w = .ok (.func fn first cap) w := fun _ _ _ _ => rfl
  go_enter Try.func33, Try.ntmps33
  go_wp2_with fail
  go_loopw [9] (fun i wr => ∃ k : Nat, k ≤ s.size ∧ i = .int .i64 k ∧ Below w.heap.size w wr ∧ wr.heap[w.heap.size]? = some (.cells #[.int .u32 (crcAll 4294967295 (s.data.toList.take k))] 37 (0, 0)))
    (fun i _ => s.size - (intOf i).toNat)
  case atStart => exact ⟨0, Nat.zero_le _, rfl, (Below.refl _ _).alloc (Nat.le_refl _) _, heap_alloc_top _ _⟩
  case round =>
    obtain ⟨k, hk, rfl, hB, hcell⟩ := hrel
    have hX := crcAll_lt (s.data.toList.take k) 4294967295 (by omega)
    obtain ⟨X, hXe⟩ : ∃ X, X = crcAll 4294967295 (s.data.toList.take k) := ⟨_, rfl⟩
    rw [← hXe] at hX hcell
    have HX := Lib.hid hXe; clear hXe
    have hc := cell_of_one hcell
    have hf := free_of_one hcell
    have HC := Lib.hid hcell; clear hcell
    by_cases hlt : k < s.size
    · have hb8 := s[k].toNat_lt
      go_wp2_with fail
      go_region
      go_wp2_with fail
      have hY : X ^^^ s[k].toNat < 4294967296 := Nat.xor_lt_two_pow (n := 32) (by omega) (by omega)
      have hW1 : ((wr.setCell ⟨w.heap.size, 0, none⟩ (.int .u32 (bits BinOp.xor IntKind.u32 ↑X ↑s[k].toNat))).drew).heap[w.heap.size]? = some (.cells #[.int .u32 ((X ^^^ s[k].toNat : Nat) : Int)] 37 (0, 0)) := by
        rw [heap_drew, one_setCell HC.out, u32_xor_nat X _ hX (by omega)]
      have hB1 : Below w.heap.size w ((wr.setCell ⟨w.heap.size, 0, none⟩ (.int .u32 (bits BinOp.xor IntKind.u32 ↑X ↑s[k].toNat))).drew) := (hB.setCell (by simp) _).drew
      generalize ((wr.setCell ⟨w.heap.size, 0, none⟩ (.int .u32 (bits BinOp.xor IntKind.u32 ↑X ↑s[k].toNat))).drew) = W1 at hW1 hB1 ⊢
      obtain ⟨Y, hYe⟩ : ∃ Y, Y = X ^^^ s[k].toNat := ⟨_, rfl⟩
      rw [← hYe] at hY hW1
      have HY := Lib.hid hYe; have HW1 := Lib.hid hW1
      clear hYe hW1 hc hf HC hB
      go_loopw [18] (fun i wi => ∃ j : Nat, j ≤ 8 ∧ i = .int .i64 j ∧ Below w.heap.size w wi ∧ wi.heap[w.heap.size]? = some (.cells #[.int .u32 (crcBits j Y)] 37 (0, 0)))
        (fun i _ => 8 - (intOf i).toNat)
      case atStart => exact ⟨0, by omega, rfl, hB1, HW1.out⟩
      case round =>
        obtain ⟨j, hj, rfl, hBj, hcj⟩ := hrel
        have HCj := Lib.hid hcj; clear hcj
        by_cases hl8 : j < 8
        · go_wp2_with (go_at_call 39; refine (bit_walk _ (crcBits_lt j Y hY) _ _ HCj.out).mono ?_; rintro e w' ⟨rfl, hq1, hq2⟩)
          go_roundw
          case rel => exact ⟨j + 1, by omega, by go_num, hBj.grown hq2 hBj.size (by simp), hq1⟩
          case measure => simp [intOf]; omega
        · obtain rfl : j = 8 := by omega
          go_wp2
          go_roundw
          case rel => exact ⟨k + 1, by omega, by go_num, hBj, by rw [HCj.out, take_snoc s k hlt, crcAll_snoc, ← HX.out, HY.out]; rfl⟩
          case measure => simp [intOf]; omega
    · obtain rfl : k = s.size := by omega
      go_wp2
      go_ret
      exact ⟨ret_int (by rw [u32_not X hX, HX.out, take_all]; rfl), hB⟩
end Go.Proofs.Ytfiigmimhdnpnaa
