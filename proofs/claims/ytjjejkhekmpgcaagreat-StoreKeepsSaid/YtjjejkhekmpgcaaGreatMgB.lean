/-
  Walks of package crc: the closure that takes a bit in, and the sum of bytes.
  Walks of package crc: the sum's bytes, and whether four bytes are it.
  Walks of the reference of layer 2: the bits of bytes, the powers.
  Walks of the reference of layer 2: the sum by division, and its bytes.
  The plain law of check sums: the sum is linear; it is the remainder that the reference finds by division.
  The plain law of check sums: the reference's division finds the same sum.
  Layer 2: the reference's four bytes of a sum.
-/
import Derived.Test.YtjjejkhekmpgcaaGreatMgA
import Derived.RegionTactic
import Derived.BigRegion
namespace Go.Proofs.YtjjejkhekmpgcaaGreat
set_option maxRecDepth 4000
open Go.RowKit

/-- one bit taken in -/
def crcBit (x : Nat) : Nat := if x % 2 = 1 then (x / 2) ^^^ 2197175160 else x / 2

theorem crcBit_lt (x : Nat) (h : x < 4294967296) : crcBit x < 4294967296 := by
  unfold crcBit
  split
  · exact Nat.xor_lt_two_pow (n := 32) (by omega) (by omega)
  · omega

/-- so many bits taken in -/
def crcBits : Nat → Nat → Nat
  | 0, x => x
  | k + 1, x => crcBit (crcBits k x)
/-- one byte taken in -/
def crcByte (x : Nat) (c : UInt8) : Nat := crcBits 8 (x ^^^ c.toNat)
/-- bytes taken in -/
def crcAll (x : Nat) (l : List UInt8) : Nat := l.foldl crcByte x
/-- the sum -/
def crcSum (l : List UInt8) : Nat := 4294967295 - crcAll 4294967295 l

theorem crcBits_lt (k x : Nat) (h : x < 4294967296) : crcBits k x < 4294967296 := by
  induction k with
  | zero => exact h
  | succ k ih => exact crcBit_lt _ ih
theorem crcByte_lt (x : Nat) (c : UInt8) (h : x < 4294967296) : crcByte x c < 4294967296 := by
  apply crcBits_lt
  exact Nat.xor_lt_two_pow (n := 32) (by omega) (by have := c.toNat_lt; omega)
theorem crcAll_lt (l : List UInt8) (x : Nat) (h : x < 4294967296) : crcAll x l < 4294967296 := by
  induction l generalizing x with
  | nil => exact h
  | cons c r ih => exact ih _ (crcByte_lt x c h)
theorem crcAll_snoc (x : Nat) (l : List UInt8) (c : UInt8) : crcAll x (l ++ [c]) = crcByte (crcAll x l) c := by
  simp [crcAll]
theorem crcSum_le (l : List UInt8) : crcSum l ≤ 4294967295 := by unfold crcSum; omega

theorem u32_odd (x : Nat) (hx : x < 4294967296) : bits BinOp.and IntKind.u32 (x : Int) 1 = ((x % 2 : Nat) : Int) := by
  have h := u32_and_nat x 1 hx (by omega)
  rw [Nat.and_one_is_mod] at h
  exact h
theorem u32_poly (x : Nat) (hx : x < 4294967296) : bits BinOp.xor IntKind.u32 ((x : Int) / 2) 2197175160 = (((x / 2) ^^^ 2197175160 : Nat) : Int) := by
  exact u32_xor_nat (x / 2) 2197175160 (by omega) (by omega)

set_option maxHeartbeats 400000 in
theorem bit_walk (x : Nat) (hx : x < 4294967296) (b : Nat) (w : World) (hb : w.heap[b]? = some (.cells #[.int .u32 x] 149 (0, 0))) :
    Calls Tryz.prog 124 #[.pointer (some ⟨b, 0, none⟩)] w fun e w' => e = .returned (.tuple #[]) ∧ w'.heap[b]? = some (.cells #[.int .u32 (crcBit x)] 149 (0, 0)) ∧ w.grownBy w' (some b) := by
  have hc := cell_of_one hb
  have hf := free_of_one hb
  have H := Lib.hid hb; clear hb
  by_cases h : x % 2 = 1
  · have h1 : (bits BinOp.and IntKind.u32 (x : Int) 1 == 1) = true := by rw [u32_odd x hx]; simp; omega
    go_enter Tryz.func124, Tryz.ntmps124
    go_wp2
    go_end0
    refine ⟨rfl, ?_, grownBy_trans (grownBy_setCell _ _ _ _) (grownBy_setCell _ _ _ _)⟩
    rw [one_setCell (one_setCell H.out), u32_poly x hx]
    simp [crcBit, h]
  · have h1 : (bits BinOp.and IntKind.u32 (x : Int) 1 == 1) = false := by rw [u32_odd x hx]; simp; omega
    go_enter Tryz.func124, Tryz.ntmps124
    go_wp2
    go_end0
    refine ⟨rfl, ?_, grownBy_setCell _ _ _ _⟩
    rw [one_setCell H.out]
    simp [crcBit, h]

theorem xor_ones (x : Nat) (h : x < 4294967296) : 4294967295 ^^^ x = 4294967295 - x := by
  have e : (BitVec.allOnes 32 ^^^ BitVec.ofNat 32 x) = ~~~ (BitVec.ofNat 32 x) := by rw [BitVec.xor_comm, BitVec.xor_allOnes]
  have e2 := congrArg BitVec.toNat e
  rw [BitVec.toNat_xor, BitVec.toNat_not, BitVec.toNat_ofNat, BitVec.toNat_allOnes] at e2
  have e3 : x % 2 ^ 32 = x := Nat.mod_eq_of_lt (by omega)
  rw [e3] at e2
  exact e2
theorem u32_not (x : Nat) (h : x < 4294967296) : wrap64 (bits BinOp.xor IntKind.u32 IntKind.u32.max (x : Int)) = ((4294967295 - x : Nat) : Int) := by
  have e : (IntKind.u32.max : Int) = ((4294967295 : Nat) : Int) := by decide
  rw [e, u32_xor_nat 4294967295 x (by omega) h, xor_ones x h]
  exact IntWalk.wrap64_in _ ⟨by omega, by omega⟩
theorem take_snoc (s : ByteArray) (k : Nat) (h : k < s.size) : s.data.toList.take (k + 1) = s.data.toList.take k ++ [s[k]] := by
  rw [List.take_succ_eq_append_getElem (by simpa using h)]; rfl
theorem take_all (s : ByteArray) : s.data.toList.take s.size = s.data.toList := List.take_of_length_le (by simp)

set_option maxHeartbeats 400000 in
theorem sum_walk (s : ByteArray) (w : World) (hs : s.size ≤ 9223372036854775807) :
    Calls Tryz.prog 114 #[.string s] w fun e w' => e = .returned (.int .i64 (crcSum s.data.toList)) ∧ Below w.heap.size w w' := by
  have hmf : ∀ (fn : Fn) (first cap : Array Value) (w : World), (Instr.makeFunc fn first cap).run Tryz.prog w = .ok (.func fn first cap) w := fun _ _ _ _ => rfl
  go_enter Tryz.func114, Tryz.ntmps114
  go_wp2_with fail
  go_loopw [9] (fun i wr => ∃ k : Nat, k ≤ s.size ∧ i = .int .i64 k ∧ Below w.heap.size w wr ∧ wr.heap[w.heap.size]? = some (.cells #[.int .u32 (crcAll 4294967295 (s.data.toList.take k))] 149 (0, 0)))
    (fun i _ => s.size - (intOf i).toNat)
  case atStart => exact ⟨0, Nat.zero_le _, rfl, (Below.refl _ _).alloc (Nat.le_refl _) _, heap_alloc_top _ _⟩
  case round =>
    obtain ⟨k, hk, rfl, hB, hcell⟩ := hrel
    have hX := crcAll_lt (s.data.toList.take k) 4294967295 (by omega)
    obtain ⟨X, hXe⟩ : ∃ X, X = crcAll 4294967295 (s.data.toList.take k) := ⟨_, rfl⟩
    rw [← hXe] at hX hcell
    have HX := Lib.hid hXe; clear hXe
    have hc := cell_of_one hcell
    have hf := free_of_one hcell
    have HC := Lib.hid hcell; clear hcell
    by_cases hlt : k < s.size
    · have hb8 := s[k].toNat_lt
      go_wp2_with fail
      go_region
      go_wp2_with fail
      have hY : X ^^^ s[k].toNat < 4294967296 := Nat.xor_lt_two_pow (n := 32) (by omega) (by omega)
      have hW1 : ((wr.setCell ⟨w.heap.size, 0, none⟩ (.int .u32 (bits BinOp.xor IntKind.u32 ↑X ↑s[k].toNat))).drew).heap[w.heap.size]? = some (.cells #[.int .u32 ((X ^^^ s[k].toNat : Nat) : Int)] 149 (0, 0)) := by
        rw [heap_drew, one_setCell HC.out, u32_xor_nat X _ hX (by omega)]
      have hB1 : Below w.heap.size w ((wr.setCell ⟨w.heap.size, 0, none⟩ (.int .u32 (bits BinOp.xor IntKind.u32 ↑X ↑s[k].toNat))).drew) := (hB.setCell (by simp) _).drew
      generalize ((wr.setCell ⟨w.heap.size, 0, none⟩ (.int .u32 (bits BinOp.xor IntKind.u32 ↑X ↑s[k].toNat))).drew) = W1 at hW1 hB1 ⊢
      obtain ⟨Y, hYe⟩ : ∃ Y, Y = X ^^^ s[k].toNat := ⟨_, rfl⟩
      rw [← hYe] at hY hW1
      have HY := Lib.hid hYe; have HW1 := Lib.hid hW1
      clear hYe hW1 hc hf HC hB
      go_loopw [18] (fun i wi => ∃ j : Nat, j ≤ 8 ∧ i = .int .i64 j ∧ Below w.heap.size w wi ∧ wi.heap[w.heap.size]? = some (.cells #[.int .u32 (crcBits j Y)] 149 (0, 0)))
        (fun i _ => 8 - (intOf i).toNat)
      case atStart => exact ⟨0, by omega, rfl, hB1, HW1.out⟩
      case round =>
        obtain ⟨j, hj, rfl, hBj, hcj⟩ := hrel
        have HCj := Lib.hid hcj; clear hcj
        by_cases hl8 : j < 8
        · go_wp2_with (go_at_call 124; refine (bit_walk _ (crcBits_lt j Y hY) _ _ HCj.out).mono ?_; rintro e w' ⟨rfl, hq1, hq2⟩)
          go_roundw
          case rel => exact ⟨j + 1, by omega, by go_num, hBj.grown hq2 hBj.size (by simp), hq1⟩
          case measure => simp [intOf]; omega
        · obtain rfl : j = 8 := by omega
          go_wp2
          go_roundw
          case rel => exact ⟨k + 1, by omega, by go_num, hBj, by rw [HCj.out, take_snoc s k hlt, crcAll_snoc, ← HX.out, HY.out]; rfl⟩
          case measure => simp [intOf]; omega
    · obtain rfl : k = s.size := by omega
      go_wp2
      go_ret
      exact ⟨ret_int (by rw [u32_not X hX, HX.out, take_all]; rfl), hB⟩
end Go.Proofs.YtjjejkhekmpgcaaGreat

namespace Go.Proofs.YtjjejkhekmpgcaaGreat
set_option maxRecDepth 4000
open Go.RowKit

/-- a number's four bytes, the lowest first -/
def fourOf (n : Nat) : List UInt8 := [UInt8.ofNat n, UInt8.ofNat (n / 256), UInt8.ofNat (n / 65536), UInt8.ofNat (n / 16777216)]

theorem bv_four (n : Nat) (h : n ≤ 4294967295) : bv (fourOf n) = [.int .u8 ((n : Int) % 256), .int .u8 ((n : Int) / 256 % 256), .int .u8 ((n : Int) / 65536 % 256), .int .u8 ((n : Int) / 16777216)] := by
  simp [bv, fourOf]
  omega

set_option maxHeartbeats 400000 in
theorem four_walk (s : ByteArray) (w : World) (hs : s.size ≤ 9223372036854775807) :
    Calls Tryz.prog 90 #[.string s] w fun e w' => e = .returned (.string ⟨(fourOf (crcSum s.data.toList)).toArray⟩) ∧ Below w.heap.size w w' := by
  have hle := crcSum_le s.data.toList
  go_enter Tryz.func90, Tryz.ntmps90
  go_wp2_with (first
    | (go_at_call 114; refine (sum_walk s _ hs).mono ?_; rintro e w1 ⟨rfl, hb1⟩)
    | (refine wpList_string_own _ rfl _ 127 9 rfl 5 Tryz.underlying127 Tryz.underlying5 Tryz.underlying9 w.heap.size _ 4 (fourOf (crcSum s.data.toList)) rfl ?_ ?_; · rw [bv_four _ hle]; exact ownsRow_lit _ _ _ _ 4 hb1.size rfl (by decide)))
  go_ret
  exact ⟨rfl, hb1.alloc hb1.size _⟩

/-- what Check answers -/
def crcCheck (s four : ByteArray) : Int := if four.size ≠ 4 then 5 else if four = ⟨(fourOf (crcSum s.data.toList)).toArray⟩ then 0 else 7

theorem fourOf_length (n : Nat) : (fourOf n).length = 4 := rfl

theorem bytes_eq (a : ByteArray) (l : List UInt8) : a = ⟨l.toArray⟩ ↔ a.toList = l := by
  rw [ByteArray.toList_eq, ByteArray.ext_iff, ← Array.toList_inj]

set_option maxHeartbeats 400000 in
theorem check_walk (s four : ByteArray) (w : World) (hs : s.size ≤ 9223372036854775807) :
    Calls Tryz.prog 110 #[.string s, .string four] w fun e w' => e = .returned (.int .i64 (crcCheck s four)) ∧ Below w.heap.size w w' := by
  by_cases h4 : four.size = 4
  · have hfin : crcCheck s four = if four.toList = fourOf (crcSum s.data.toList) then 0 else 7 := by
      simp only [crcCheck, h4, bytes_eq]; rfl
    have h4' : ((four.size : Int) != 4) = false := by simp [h4]
    have HF := Lib.hid hfin
    have hle : four.size ≤ 4 := by omega
    clear hfin h4
    by_cases he : four.toList = fourOf (crcSum s.data.toList)
    · have he1 : (!four.toList == fourOf (crcSum s.data.toList)) = false := by simp [he]
      have HE := Lib.hid he
      clear he
      go_enter Tryz.func110, Tryz.ntmps110
      go_wp2_with (go_at_call 90; refine (four_walk s _ hs).mono ?_; rintro e w1 ⟨rfl, hb1⟩)
      go_ret
      exact ⟨ret_int (by rw [HF.out, if_pos HE.out]), hb1⟩
    · have he1 : (!four.toList == fourOf (crcSum s.data.toList)) = true := by simp [he]
      have HE := Lib.hid he
      clear he
      go_enter Tryz.func110, Tryz.ntmps110
      go_wp2_with (go_at_call 90; refine (four_walk s _ hs).mono ?_; rintro e w1 ⟨rfl, hb1⟩)
      go_ret
      exact ⟨ret_int (by rw [HF.out, if_neg HE.out]), hb1⟩
  · have h4' : ((four.size : Int) != 4) = true := by simp; omega
    go_enter Tryz.func110, Tryz.ntmps110
    go_wp2
    go_ret
    exact ⟨ret_int (by simp [crcCheck, h4]), Below.refl _ _⟩
end Go.Proofs.YtjjejkhekmpgcaaGreat

namespace Go.Proofs.YtjjejkhekmpgcaaGreat
set_option maxRecDepth 4000
open Go.RowKit

/-- bools as cells -/
def bls (l : List Bool) : List Value := l.map Value.bool
/-- a number's lowest bits, the lowest first -/
def lowBits : Nat → Nat → List Bool
  | 0, _ => []
  | k + 1, n => (n % 2 == 1) :: lowBits k (n / 2)
theorem lowBits_length (k n : Nat) : (lowBits k n).length = k := by
  induction k generalizing n with
  | zero => rfl
  | succ k ih => simp [lowBits, ih]
theorem lowBits_snoc (k n : Nat) : lowBits (k + 1) n = lowBits k n ++ [n / 2 ^ k % 2 == 1] := by
  induction k generalizing n with
  | zero => simp [lowBits]
  | succ k ih =>
    rw [lowBits, ih (n / 2), lowBits, List.cons_append, Nat.div_div_eq_div_mul, Nat.pow_succ]
    simp [Nat.mul_comm]
/-- bytes' bits -/
def byteBits (l : List UInt8) : List Bool := l.flatMap fun c => lowBits 8 c.toNat
theorem byteBits_length (l : List UInt8) : (byteBits l).length = 8 * l.length := by
  induction l with
  | nil => rfl
  | cons c r ih => simp [byteBits, lowBits_length] at ih ⊢; omega
theorem byteBits_snoc (l : List UInt8) (c : UInt8) : byteBits (l ++ [c]) = byteBits l ++ lowBits 8 c.toNat := by simp [byteBits]
theorem bls_append (a b : List Bool) : bls (a ++ b) = bls a ++ bls b := by simp [bls]

theorem info_bool : (Tryz.prog.info? 4).map (fun i => (i.zero, i.size, i.bytes)) = some (some (.bool false), 1, 1) := by kernel_rfl

theorem mod2_bool (n : Nat) : ((n : Int) % 2 == 1) = (n % 2 == 1) := by
  rw [Bool.eq_iff_iff]; simp; omega

set_option maxHeartbeats 1000000 in
theorem bits_walk (s : ByteArray) (w : World) (hs : s.size ≤ 1000000) :
    Calls Tryz.prog 115 #[.string s] w fun e w' => ∃ v, e = .returned v ∧ w'.ownsRow w.heap.size 4 1 v (8 * s.size + 32) (bls (byteBits s.data.toList ++ List.replicate 32 false)) ∧ Below w.heap.size w w' := by
  obtain ⟨i0, hi, hz0, hz1, hz2⟩ := info_parts info_bool
  go_enter Tryz.func115, Tryz.ntmps115
  go_wp2_with fail
  go_loopw [3, 4] (fun v i wr => ∃ k : Nat, k ≤ s.size ∧ i = .int .i64 k ∧ wr.ownsRow w.heap.size 4 1 v (8 * k) (bls (byteBits (s.data.toList.take k))) ∧ Below w.heap.size w wr)
    (fun _ i _ => s.size - (intOf i).toNat)
  case atStart => exact ⟨0, Nat.zero_le _, rfl, World.ownsRow_nil _ _ _ _, Below.refl _ _⟩
  case round =>
    obtain ⟨k, hk, rfl, hown, hB⟩ := hrel
    by_cases hlt : k < s.size
    · have hb8 := s[k].toNat_lt
      have hsn := take_snoc s k hlt
      have HS := Lib.hid hsn; clear hsn
      go_wp2_with fail
      obtain ⟨wo, hwo⟩ : ∃ wo : World, wo = wr := ⟨_, rfl⟩
      obtain ⟨c, hc⟩ : ∃ c : Nat, c = s[k].toNat := ⟨_, rfl⟩
      have HCc := Lib.hid hc
      rw [← hc] at hb8 ⊢
      clear hc
      go_loopw [3, 5, 6] (fun v n j wi => ∃ q : Nat, q ≤ 8 ∧ j = .int .i64 q ∧ n = .int .i64 ((c / 2 ^ q : Nat) : Int) ∧ wi.ownsRow w.heap.size 4 1 v (8 * k + q) (bls (byteBits (s.data.toList.take k) ++ lowBits q c)) ∧ Below w.heap.size w wi)
        (fun _ _ j _ => 8 - (intOf j).toNat)
      case atStart => exact ⟨0, by omega, rfl, by simp, by simpa [lowBits] using hown, hB⟩
      case round =>
        obtain ⟨q, hq, rfl, rfl, hown2, hB2⟩ := hrel
        obtain ⟨D, hD⟩ : ∃ D : Nat, D = c / 2 ^ q := ⟨_, rfl⟩
        have hDlt : D < 256 := by rw [hD]; exact Nat.lt_of_le_of_lt (Nat.div_le_self _ _) hb8
        have hD2 : c / 2 ^ (q + 1) = D / 2 := by rw [hD, Nat.div_div_eq_div_mul, Nat.pow_succ]
        have hbit := lowBits_snoc q c
        rw [← hD] at hbit ⊢
        have HD2 := Lib.hid hD2
        have HB := Lib.hid hbit
        clear hD hD2 hbit
        by_cases h8 : q < 8
        · go_wp2_with (at_builtin; refine wpList_append_src _ rfl _ _ 157 157 rfl w.heap.size 4 i0 (.bool false) 1 1 Tryz.underlying157 hi hz0 hz1 hz2 rfl (by decide) _ _ _ rfl (hown2.alloc _) _ 1 _ rfl (src_one _ Tryz.underlying157 _ _ rfl _) ?_ ?_ ?_ ?_)
          · unfold maxLen; omega
          · omega
          · have := hB2.size; simp; omega
          intro v' w1 hown3 hgrow
          have hB3 := (hB2.alloc hB2.size _).grown hgrow (by have := hB2.size; simp; omega) (fun k hk => (hown2.lt k hk).1)
          have HO := Lib.hid hown3
          clear hown3 hgrow hown2 hown
          go_wp2
          go_roundw
          case rel => 
            refine ⟨q + 1, by omega, by go_num, by rw [HD2.out]; simp, ?_, hB3⟩
            have := HO.out
            rw [HB.out, ← List.append_assoc, bls_append _ [_]]
            simpa [bls, mod2_bool, Nat.add_assoc] using this
          case measure => simp [intOf]; omega
        · obtain rfl : q = 8 := by omega
          go_wp2
          go_roundw
          case rel => exact ⟨k + 1, by omega, by go_num, by rw [HS.out, byteBits_snoc, ← HCc.out]; exact hown2, hB2⟩
          case measure => simp [intOf]; omega
    · obtain rfl : k = s.size := by omega
      go_wp2_with fail
      go_loopw [3, 7] (fun v i wi => ∃ q : Nat, q ≤ 32 ∧ i = .int .i64 q ∧ wi.ownsRow w.heap.size 4 1 v (8 * s.size + q) (bls (byteBits s.data.toList ++ List.replicate q false)) ∧ Below w.heap.size w wi)
        (fun _ i _ => 32 - (intOf i).toNat)
      case atStart => exact ⟨0, by omega, rfl, by simpa [take_all] using hown, hB⟩
      case round =>
        obtain ⟨q, hq, rfl, hown2, hB2⟩ := hrel
        by_cases h8 : q < 32
        · go_wp2_with (at_builtin; refine wpList_append_src _ rfl _ _ 157 157 rfl w.heap.size 4 i0 (.bool false) 1 1 Tryz.underlying157 hi hz0 hz1 hz2 rfl (by decide) _ _ _ rfl (hown2.alloc _) _ 1 _ rfl (src_one _ Tryz.underlying157 _ _ rfl _) ?_ ?_ ?_ ?_)
          · unfold maxLen; omega
          · omega
          · have := hB2.size; simp; omega
          intro v' w1 hown3 hgrow
          have hB3 := (hB2.alloc hB2.size _).grown hgrow (by have := hB2.size; simp; omega) (fun k hk => (hown2.lt k hk).1)
          have HO := Lib.hid hown3
          clear hown3 hgrow hown2 hown
          go_wp2
          go_roundw
          case rel => 
            refine ⟨q + 1, by omega, by go_num, ?_, hB3⟩
            have := HO.out
            rw [List.replicate_succ', ← List.append_assoc, bls_append _ [_]]
            exact this
          case measure => simp [intOf]; omega
        · obtain rfl : q = 32 := by omega
          go_wp2
          go_ret
          exact ⟨_, rfl, hown2, hB2⟩

/-- the powers -/
def pows : List Nat := [28, 27, 26, 25, 23, 22, 20, 19, 18, 14, 13, 11, 10, 9, 8, 6, 0]
set_option maxHeartbeats 400000 in
theorem powers_walk (w : World) :
    Calls Tryz.prog 116 #[] w fun e w' => e = .returned (.slice (some ⟨w.heap.size, 0, none⟩) 17 17) ∧ w' = w.alloc (.cells (pows.map fun n : Nat => Value.int .i64 (n : Int)).toArray 3) := by
  go_enter Tryz.func116, Tryz.ntmps116
  go_wp2
  go_ret
  exact ⟨rfl, rfl⟩
end Go.Proofs.YtjjejkhekmpgcaaGreat

namespace Go.Proofs.YtjjejkhekmpgcaaGreat
set_option maxRecDepth 4000
open Go.RowKit

/-- flipped in one place -/
def flipAt (l : List Bool) (i : Nat) : List Bool := l.set i (!(l.getD i false))
/-- flipped in the first places -/
def flipTo : Nat → List Bool → List Bool
  | 0, l => l
  | k + 1, l => flipAt (flipTo k l) k
/-- flipped where a power stands -/
def flipPows (i : Nat) : Nat → List Bool → List Bool
  | 0, l => l
  | k + 1, l => flipAt (flipPows i k l) (i + 32 - pows.getD k 0)
/-- a round of the division -/
def divRound (i : Nat) (l : List Bool) : List Bool := if l.getD i false = true then flipPows i 17 l else l
/-- rounds of the division -/
def divTo : Nat → List Bool → List Bool
  | 0, l => l
  | k + 1, l => divRound k (divTo k l)
/-- the last bits, turned, as a number -/
def lastNum (l : List Bool) : Nat → Nat
  | 0 => 0
  | k + 1 => lastNum l k * 2 + (if l.getD (l.length - 1 - k) false = true then 0 else 1)

theorem flipAt_length (l : List Bool) (i : Nat) : (flipAt l i).length = l.length := by simp [flipAt]
theorem flipTo_length (k : Nat) (l : List Bool) : (flipTo k l).length = l.length := by
  induction k with
  | zero => rfl
  | succ k ih => rw [flipTo, flipAt_length, ih]
theorem flipPows_length (i k : Nat) (l : List Bool) : (flipPows i k l).length = l.length := by
  induction k with
  | zero => rfl
  | succ k ih => rw [flipPows, flipAt_length, ih]
theorem divRound_length (i : Nat) (l : List Bool) : (divRound i l).length = l.length := by
  unfold divRound; split <;> simp [flipPows_length]
theorem divTo_length (k : Nat) (l : List Bool) : (divTo k l).length = l.length := by
  induction k with
  | zero => rfl
  | succ k ih => rw [divTo, divRound_length, ih]
theorem lastNum_lt (l : List Bool) (k : Nat) : lastNum l k < 2 ^ k := by
  induction k with
  | zero => simp [lastNum]
  | succ k ih => rw [lastNum, Nat.pow_succ]; split <;> omega

/-- what the reference answers -/
def refSum (l : List UInt8) : Nat :=
  let b := flipTo 32 (byteBits l ++ List.replicate 32 false)
  lastNum (divTo (8 * l.length) b) 32

theorem bls_cell {w : World} {base e g n cap : Nat} {l : List Bool} (h : w.ownsRow base e 1 (.slice (some ⟨g, 0, none⟩) n cap) n (bls l)) (i : Nat) (hi : i < n) : w.cell? ⟨g, i, none⟩ = some (.bool (l.getD i false)) := by
  rw [h.cellAt i (by omega)]
  have hl : l.length = n := by simpa [bls] using h.1
  simp [bls, List.getElem?_eq_getElem (show i < l.length by omega), List.getD]
theorem bls_flip {w : World} {base e g n cap : Nat} {l : List Bool} (h : w.ownsRow base e 1 (.slice (some ⟨g, 0, none⟩) n cap) n (bls l)) (i : Nat) :
    (w.setCell ⟨g, i, none⟩ (.bool (!(l.getD i false)))).ownsRow base e 1 (.slice (some ⟨g, 0, none⟩) n cap) n (bls (flipAt l i)) := by
  have := (h.stored i (.bool (!(l.getD i false)))).1
  simpa [bls, flipAt, List.map_set] using this

theorem own_some {w : World} {base e n : Nat} {v : Value} {xs : List Value} (h : w.ownsRow base e 1 v n xs) (hn : 0 < n) : ∃ g cap, v = .slice (some ⟨g, 0, none⟩) n cap ∧ base ≤ g ∧ n ≤ cap := by
  rcases h.2 with ⟨_, h0⟩ | ⟨g, cap, cur, hv, hb, _, hc, _⟩
  · omega
  · exact ⟨g, cap, hv, hb, hc⟩

set_option maxHeartbeats 1000000 in
theorem refSum_walk (s : ByteArray) (w : World) (hs : s.size ≤ 1000000) :
    Calls Tryz.prog 94 #[.string s] w fun e w' => e = .returned (.int .i64 (refSum s.data.toList)) ∧ Below w.heap.size w w' := by
  go_enter Tryz.func94, Tryz.ntmps94
  go_wp2_with fail
  refine (bits_walk s _ hs).mono ?_
  rintro e w1 ⟨v, rfl, hown, hB⟩
  obtain ⟨g, cap, rfl, hg, hcap⟩ := own_some hown (by omega)
  obtain ⟨L, hL⟩ : ∃ L, L = byteBits s.data.toList ++ List.replicate 32 false := ⟨_, rfl⟩
  rw [← hL] at hown
  have HL := Lib.hid hL; clear hL
  go_wp2_with fail
  go_loopw [4] (fun i wr => ∃ k : Nat, k ≤ 32 ∧ i = .int .i64 k ∧ wr.ownsRow w.heap.size 4 1 (.slice (some ⟨g, 0, none⟩) (8 * s.size + 32) cap) (8 * s.size + 32) (bls (flipTo k L)) ∧ Below w.heap.size w wr)
    (fun i _ => 32 - (intOf i).toNat)
  case atStart => exact ⟨0, by omega, rfl, hown, hB⟩
  case round =>
    obtain ⟨k, hk, rfl, hown2, hB2⟩ := hrel
    by_cases h32 : k < 32
    · have hc := bls_cell hown2 k (by omega)
      have hf := hown2.frozenAt k
      have hst := bls_flip hown2 k
      have HST := Lib.hid hst
      have hB3 := hB2.setCell (p := ⟨g, k, none⟩) hg (.bool (!((flipTo k L).getD k false)))
      have HB3 := Lib.hid hB3
      clear hst hB3
      go_wp2_with fail
      go_roundw
      case rel => exact ⟨k + 1, by omega, by go_num, HST.out, HB3.out⟩
      case measure => simp [intOf]; omega
    · obtain rfl : k = 32 := by omega
      obtain ⟨F, hF⟩ : ∃ F, F = flipTo 32 L := ⟨_, rfl⟩
      rw [← hF] at hown2
      have HF := Lib.hid hF; clear hF hown
      go_wp2_with fail
      refine (powers_walk _).mono ?_
      rintro e w2 ⟨rfl, hw2⟩
      have hpow : w2.heap[wr.heap.size]? = some (.cells (pows.map fun n : Nat => Value.int .i64 (n : Int)).toArray 3 (0, 0)) := by rw [hw2]; exact heap_alloc_top _ _
      have hown3 : w2.ownsRow w.heap.size 4 1 (.slice (some ⟨g, 0, none⟩) (8 * s.size + 32) cap) (8 * s.size + 32) (bls F) := by rw [hw2]; exact hown2.alloc _
      have hB3 : Below w.heap.size w w2 := by rw [hw2]; exact hB2.alloc hB2.size _
      have hgl := (hown2.lt g rfl).2
      obtain ⟨gp, hgp⟩ : ∃ gp, gp = wr.heap.size := ⟨_, rfl⟩
      have hbp := hB2.size
      rw [← hgp] at hpow hgl hbp ⊢
      clear hw2 hown2 hB2 hgp hB
      have HP := Lib.hid hpow; clear hpow
      go_wp2_with fail
      go_loopw [6] (fun i wr => ∃ k : Nat, k ≤ 8 * s.size ∧ i = .int .i64 k ∧ wr.ownsRow w.heap.size 4 1 (.slice (some ⟨g, 0, none⟩) (8 * s.size + 32) cap) (8 * s.size + 32) (bls (divTo k F)) ∧ wr.heap[gp]? = some (.cells (pows.map fun n : Nat => Value.int .i64 (n : Int)).toArray 3 (0, 0)) ∧ Below w.heap.size w wr)
        (fun i _ => 8 * s.size - (intOf i).toNat)
      case atStart => exact ⟨0, by omega, rfl, hown3, HP.out, hB3⟩
      case round =>
        obtain ⟨k, hk, rfl, hown4, hpw, hB4⟩ := hrel
        have HPW := Lib.hid hpw; clear hpw
        have hc := bls_cell hown4 k (by omega)
        obtain ⟨D, hD⟩ : ∃ D, D = divTo k F := ⟨_, rfl⟩
        obtain ⟨B, hBd⟩ : ∃ B, B = D.getD k false := ⟨_, rfl⟩
        rw [← hD] at hown4 hc
        rw [← hBd] at hc
        have HD := Lib.hid hD; have HBd := Lib.hid hBd; clear hD hBd hown3 hB3
        by_cases hlt : k < 8 * s.size
        · cases B with
          | false =>
            go_wp2_with fail
            go_roundw
            case rel => exact ⟨k + 1, by omega, by go_num, by rw [divTo, ← HD.out, divRound, ← HBd.out]; exact hown4, HPW.out, hB4⟩
            case measure => simp [intOf]; omega
          | true =>
            go_wp2_with fail
            obtain ⟨wo, hwo⟩ : ∃ wo : World, wo = wr := ⟨_, rfl⟩
            go_loopw [7] (fun i wi => ∃ q : Nat, q ≤ 17 ∧ i = .int .i64 q ∧ wi.ownsRow w.heap.size 4 1 (.slice (some ⟨g, 0, none⟩) (8 * s.size + 32) cap) (8 * s.size + 32) (bls (flipPows k q D)) ∧ wi.heap[gp]? = some (.cells (pows.map fun n : Nat => Value.int .i64 (n : Int)).toArray 3 (0, 0)) ∧ Below w.heap.size w wi)
              (fun i _ => 17 - (intOf i).toNat)
            case atStart => exact ⟨0, by omega, rfl, hown4, HPW.out, hB4⟩
            case round =>
              clear hc hown4 hB4 HPW
              obtain ⟨q, hq, rfl, hown5, hpw5, hB5⟩ := hrel
              by_cases hq17 : q < 17
              · obtain ⟨P, hP⟩ : ∃ P : Nat, P = pows.getD q 0 := ⟨_, rfl⟩
                have hPle : P ≤ 28 := by
                  rw [hP]
                  have : ∀ j, j < 17 → pows.getD j 0 ≤ 28 := by decide
                  exact this q hq17
                have hcp : wr.cell? ⟨gp, q, none⟩ = some (.int .i64 (P : Int)) := by
                  rw [cell_of_row wr gp q _ _ _ hpw5, hP]
                  have : ∀ j, j < 17 → (pows.map fun n : Nat => Value.int .i64 (n : Int)).toArray[j]? = some (.int .i64 ((pows.getD j 0 : Nat) : Int)) := by
                    intro j hj
                    have hl : pows.length = 17 := rfl
                    simp [List.getElem?_eq_getElem (show j < pows.length by omega)]
                  exact this q hq17
                have hc := bls_cell hown5 (k + 32 - P) (by omega)
                have hf := hown5.frozenAt (k + 32 - P)
                have hst := bls_flip hown5 (k + 32 - P)
                have HST := Lib.hid hst
                have hB6 := hB5.setCell (p := ⟨g, k + 32 - P, none⟩) hg (.bool (!((flipPows k q D).getD (k + 32 - P) false)))
                have HB6 := Lib.hid hB6
                have hpw6 := (heap_setCell_ne wr g gp (k + 32 - P) (.bool (!((flipPows k q D).getD (k + 32 - P) false))) (by omega)).trans hpw5
                have HPW6 := Lib.hid hpw6
                have HP := Lib.hid hP
                clear hst hB6 hpw6 hpw5 hown5 hB5 hP
                go_wp2_with fail
                go_region
                go_wp2_with fail
                go_roundw
                case rel => exact ⟨q + 1, by omega, by go_num, by rw [flipPows, ← HP.out]; exact HST.out, HPW6.out, HB6.out.drew⟩
                case measure => simp [intOf]; omega
              · obtain rfl : q = 17 := by omega
                go_wp2_with fail
                go_roundw
                case rel => exact ⟨k + 1, by omega, by go_num, by rw [divTo, ← HD.out, divRound, ← HBd.out]; exact hown5, hpw5, hB5⟩
                case measure => simp [intOf]; omega
        · obtain rfl : k = 8 * s.size := by omega
          clear hc HPW HP HBd
          have hDl : D.length = 8 * s.size + 32 := by simpa [bls] using hown4.1
          have hrs : refSum s.data.toList = lastNum D 32 := by
            show lastNum (divTo (8 * s.data.toList.length) (flipTo 32 (byteBits s.data.toList ++ List.replicate 32 false))) 32 = _
            have hss : s.data.toList.length = s.size := by simp
            rw [← HL.out, ← HF.out, hss, ← HD.out]
          have HRS := Lib.hid hrs
          have HDL := Lib.hid hDl
          clear hrs hDl
          go_wp2_with fail
          go_loopw [8, 10] (fun n i wi => ∃ q : Nat, q ≤ 32 ∧ i = .int .i64 q ∧ n = .int .i64 (lastNum D q) ∧ wi = wr)
            (fun _ i _ => 32 - (intOf i).toNat)
          case atStart => exact ⟨0, by omega, rfl, rfl, rfl⟩
          case round =>
            obtain ⟨q, hq, rfl, rfl, rfl⟩ := hrel
            have hlt2 := lastNum_lt D q
            have hle := Nat.pow_le_pow_right (n := 2) (by omega) hq
            have hsucc : lastNum D (q + 1) = lastNum D q * 2 + (if D.getD (8 * s.size + 31 - q) false = true then 0 else 1) := by
              rw [lastNum, HDL.out, show 8 * s.size + 32 - 1 - q = 8 * s.size + 31 - q by omega]
            obtain ⟨n, hn⟩ : ∃ n, n = lastNum D q := ⟨_, rfl⟩
            have hn32 : n < 4294967296 := by rw [hn]; omega
            rw [← hn] at hsucc ⊢
            have HN := Lib.hid hn
            clear hn hlt2 hle
            by_cases hq32 : q < 32
            · have hc := bls_cell hown4 (8 * s.size + 31 - q) (by omega)
              obtain ⟨B, hB⟩ : ∃ B, B = D.getD (8 * s.size + 31 - q) false := ⟨_, rfl⟩
              rw [← hB] at hc hsucc
              have HS := Lib.hid hsucc
              clear hB hsucc
              cases B
              all_goals
                go_wp2_with fail
                go_roundw
                case rel => exact ⟨q + 1, by omega, by go_num, by rw [HS.out]; go_num, by first | trivial | rfl⟩
                case measure => simp [intOf]; omega
            · obtain rfl : q = 32 := by omega
              clear hsucc
              go_wp2_with fail
              go_ret
              exact ⟨ret_int (by rw [HRS.out, HN.out]), hB4⟩
end Go.Proofs.YtjjejkhekmpgcaaGreat

namespace Go.Proofs.YtjjejkhekmpgcaaGreat
set_option maxRecDepth 4000

theorem crcBit_test (x j : Nat) : (crcBit x).testBit j = (x.testBit (j + 1) ^^ (x.testBit 0 && Nat.testBit 2197175160 j)) := by
  unfold crcBit
  rw [Nat.testBit_succ, Nat.testBit_zero]
  split
  · rename_i h; simp [Nat.testBit_xor, h]
  · rename_i h; simp [h]

theorem crcBit_xor (x y : Nat) : crcBit (x ^^^ y) = crcBit x ^^^ crcBit y := by
  apply Nat.eq_of_testBit_eq
  intro j
  simp only [crcBit_test, Nat.testBit_xor]
  cases x.testBit (j + 1) <;> cases y.testBit (j + 1) <;> cases x.testBit 0 <;> cases y.testBit 0 <;> cases Nat.testBit 2197175160 j <;> rfl
theorem crcBit_zero : crcBit 0 = 0 := rfl
theorem crcBits_xor (k x y : Nat) : crcBits k (x ^^^ y) = crcBits k x ^^^ crcBits k y := by
  induction k with
  | zero => rfl
  | succ k ih => rw [crcBits, crcBits, crcBits, ih, crcBit_xor]
theorem crcBits_zero (k : Nat) : crcBits k 0 = 0 := by
  induction k with
  | zero => rfl
  | succ k ih => rw [crcBits, ih, crcBit_zero]

/-- nothing but nought goes to nought -/
theorem crcBit_ne (x : Nat) (h : x < 4294967296) (hx : crcBit x = 0) : x = 0 := by
  apply Nat.eq_of_testBit_eq
  have h0 : x.testBit 0 = false := by
    have h31 := congrArg (fun z => z.testBit 31) hx
    simp only [crcBit_test] at h31
    have h32 : x.testBit 32 = false := Nat.testBit_lt_two_pow (by omega)
    have hp : Nat.testBit 2197175160 31 = true := by decide
    rw [h32, hp, Nat.zero_testBit] at h31
    simpa using h31
  intro j
  cases j with
  | zero => rw [h0]; simp
  | succ j =>
    have hj := congrArg (fun z => z.testBit j) hx
    simp only [crcBit_test, h0] at hj
    simpa using hj
theorem crcBits_ne (k x : Nat) (h : x < 4294967296) (hx : crcBits k x = 0) : x = 0 := by
  induction k with
  | zero => exact hx
  | succ k ih => exact ih (crcBit_ne _ (crcBits_lt k x h) hx)
theorem xor_ne {a b : Nat} (h : a ≠ b) : a ^^^ b ≠ 0 := by
  intro hx
  apply h
  have e : a ^^^ (a ^^^ b) = a := by rw [hx, Nat.xor_zero]
  rw [← Nat.xor_assoc, Nat.xor_self, Nat.zero_xor] at e
  exact e.symm
theorem crcBits_inj {k x y : Nat} (hx : x < 4294967296) (hy : y < 4294967296) (h : x ≠ y) : crcBits k x ≠ crcBits k y := by
  intro e
  have h2 := crcBits_xor k x y
  rw [e, Nat.xor_self] at h2
  exact xor_ne h (crcBits_ne k _ (Nat.xor_lt_two_pow (n := 32) (by omega) (by omega)) h2)

theorem xor_right_ne {a b c : Nat} (h : a ≠ b) : a ^^^ c ≠ b ^^^ c := by
  intro e
  apply h
  have := congrArg (fun z => z ^^^ c) e
  simpa [Nat.xor_assoc] using this
theorem xor_left_ne {a b c : Nat} (h : a ≠ b) : c ^^^ a ≠ c ^^^ b := by
  rw [Nat.xor_comm c a, Nat.xor_comm c b]; exact xor_right_ne h
theorem crcByte_ne_state {x y : Nat} (c : UInt8) (hx : x < 4294967296) (hy : y < 4294967296) (h : x ≠ y) : crcByte x c ≠ crcByte y c :=
  crcBits_inj (Nat.xor_lt_two_pow (n := 32) (by omega) (by have := c.toNat_lt; omega)) (Nat.xor_lt_two_pow (n := 32) (by omega) (by have := c.toNat_lt; omega)) (xor_right_ne h)
theorem crcByte_ne_byte {x : Nat} {c d : UInt8} (hx : x < 4294967296) (h : c ≠ d) : crcByte x c ≠ crcByte x d :=
  crcBits_inj (Nat.xor_lt_two_pow (n := 32) (by omega) (by have := c.toNat_lt; omega)) (Nat.xor_lt_two_pow (n := 32) (by omega) (by have := d.toNat_lt; omega)) (xor_left_ne (fun e => h (UInt8.toNat_inj.1 e)))
theorem crcAll_ne {l : List UInt8} {x y : Nat} (hx : x < 4294967296) (hy : y < 4294967296) (h : x ≠ y) : crcAll x l ≠ crcAll y l := by
  induction l generalizing x y with
  | nil => exact h
  | cons c r ih => exact ih (crcByte_lt x c hx) (crcByte_lt y c hy) (crcByte_ne_state c hx hy h)

/-- one byte other: another sum -/
theorem crcSum_ne_at (l : List UInt8) (i : Nat) (hi : i < l.length) (d : UInt8) (hd : d ≠ l[i]) : crcSum (l.set i d) ≠ crcSum l := by
  have key : ∀ (l : List UInt8) (i : Nat) (hi : i < l.length) (_ : d ≠ l[i]) (x : Nat), x < 4294967296 → crcAll x (l.set i d) ≠ crcAll x l := by
    intro l
    induction l with
    | nil => intro i hi; simp at hi
    | cons c r ih =>
      intro i hi hne x hx
      cases i with
      | zero =>
        simp at hne
        show crcAll (crcByte x d) r ≠ crcAll (crcByte x c) r
        exact crcAll_ne (crcByte_lt x d hx) (crcByte_lt x c hx) (crcByte_ne_byte hx hne)
      | succ i =>
        have hi' : i < r.length := by simpa using hi
        have hne' : d ≠ r[i] := by simpa using hne
        show crcAll (crcByte x c) (r.set i d) ≠ crcAll (crcByte x c) r
        exact ih i hi' hne' _ (crcByte_lt x c hx)
  have h := key l i hi hd 4294967295 (by omega)
  have h1 := crcAll_lt (l.set i d) 4294967295 (by omega)
  have h2 := crcAll_lt l 4294967295 (by omega)
  unfold crcSum
  omega

/-- three added without carry -/
def xor3 : List UInt8 → List UInt8 → List UInt8 → List UInt8
  | a :: x, b :: y, c :: z => (a ^^^ b ^^^ c) :: xor3 x y z
  | _, _, _ => []
theorem crcByte_xor3 (x y z : Nat) (a b c : UInt8) : crcByte (x ^^^ y ^^^ z) (a ^^^ b ^^^ c) = crcByte x a ^^^ crcByte y b ^^^ crcByte z c := by
  unfold crcByte
  rw [← crcBits_xor, ← crcBits_xor]
  congr 1
  rw [UInt8.toNat_xor, UInt8.toNat_xor]
  apply Nat.eq_of_testBit_eq
  intro j
  simp only [Nat.testBit_xor]
  cases x.testBit j <;> cases y.testBit j <;> cases z.testBit j <;> cases a.toNat.testBit j <;> cases b.toNat.testBit j <;> cases c.toNat.testBit j <;> rfl
theorem crcAll_xor3 (l m n : List UInt8) (x y z : Nat) (h1 : l.length = m.length) (h2 : l.length = n.length) : crcAll (x ^^^ y ^^^ z) (xor3 l m n) = crcAll x l ^^^ crcAll y m ^^^ crcAll z n := by
  induction l generalizing m n x y z with
  | nil =>
    cases m with
    | nil => cases n with
      | nil => rfl
      | cons c n => simp at h2
    | cons b m => simp at h1
  | cons a l ih =>
    cases m with
    | nil => simp at h1
    | cons b m => cases n with
      | nil => simp at h2
      | cons c n =>
        have e := ih m n (crcByte x a) (crcByte y b) (crcByte z c) (by simpa using h1) (by simpa using h2)
        rw [← crcByte_xor3] at e
        exact e
theorem sub_ones (x : Nat) (h : x < 4294967296) : 4294967295 - x = 4294967295 ^^^ x := (xor_ones x h).symm
theorem crcSum_even (l m n : List UInt8) (h1 : l.length = m.length) (h2 : l.length = n.length) : crcSum l ^^^ crcSum m ^^^ crcSum n ^^^ crcSum (xor3 l m n) = 0 := by
  have e := crcAll_xor3 l m n 4294967295 4294967295 4294967295 h1 h2
  have e0 : (4294967295 ^^^ 4294967295 ^^^ 4294967295 : Nat) = 4294967295 := by decide
  rw [e0] at e
  unfold crcSum
  rw [e, sub_ones _ (crcAll_lt l _ (by omega)), sub_ones _ (crcAll_lt m _ (by omega)), sub_ones _ (crcAll_lt n _ (by omega)), sub_ones _ (by rw [← e]; exact crcAll_lt _ _ (by omega))]
  generalize crcAll 4294967295 l = A
  generalize crcAll 4294967295 m = B
  generalize crcAll 4294967295 n = C
  apply Nat.eq_of_testBit_eq
  intro j
  simp only [Nat.testBit_xor]
  cases A.testBit j <;> cases B.testBit j <;> cases C.testBit j <;> cases Nat.testBit 4294967295 j <;> simp

/-- one bit of the message taken in -/
def crcIn (x : Nat) (m : Bool) : Nat := crcBit (x ^^^ m.toNat)
theorem crcBit_double (y : Nat) : crcBit (2 * y) = y := by unfold crcBit; rw [if_neg (by omega)]; omega
theorem crcBits_in (k : Nat) : ∀ (x c : Nat), crcBits k (x ^^^ c) = (lowBits k c).foldl crcIn x ^^^ (c / 2 ^ k) := by
  induction k with
  | zero => intro x c; simp [crcBits, lowBits]
  | succ k ih =>
    intro x c
    rw [crcBits, ih x c, lowBits_snoc, List.foldl_append]
    simp only [List.foldl_cons, List.foldl_nil]
    generalize (lowBits k c).foldl crcIn x = X
    have hD : c / 2 ^ (k + 1) = (c / 2 ^ k) / 2 := by rw [Nat.div_div_eq_div_mul, Nat.pow_succ]
    rw [hD]
    generalize c / 2 ^ k = D
    have e : X ^^^ D = (X ^^^ (D % 2 == 1).toNat) ^^^ (2 * (D / 2)) := by
      rw [Nat.xor_assoc]
      congr 1
      apply Nat.eq_of_testBit_eq
      intro j
      rw [Nat.testBit_xor]
      cases j with
      | zero =>
        rcases Nat.mod_two_eq_zero_or_one D with h | h <;> simp [Nat.testBit_zero, h]
      | succ j =>
        rw [Nat.testBit_succ, Nat.testBit_succ, Nat.testBit_succ]
        have h2 : 2 * (D / 2) / 2 = D / 2 := by omega
        have h3 : (D % 2 == 1).toNat / 2 = 0 := by
          cases (D % 2 == 1) <;> simp
        rw [h2, h3]; simp
    rw [e, crcBit_xor, crcBit_double]
    rfl
theorem crcByte_in (x : Nat) (c : UInt8) : crcByte x c = (lowBits 8 c.toNat).foldl crcIn x := by
  unfold crcByte
  rw [crcBits_in]
  have : c.toNat / 2 ^ 8 = 0 := by have := c.toNat_lt; omega
  rw [this, Nat.xor_zero]
theorem crcAll_in (l : List UInt8) (x : Nat) : crcAll x l = (byteBits l).foldl crcIn x := by
  induction l generalizing x with
  | nil => rfl
  | cons c r ih =>
    show crcAll (crcByte x c) r = _
    rw [ih, crcByte_in]
    simp [byteBits]
end Go.Proofs.YtjjejkhekmpgcaaGreat

namespace Go.Proofs.YtjjejkhekmpgcaaGreat
set_option maxRecDepth 4000

theorem flipAt_get (l : List Bool) (a j : Nat) (ha : a < l.length) : (flipAt l a).getD j false = (l.getD j false ^^ decide (j = a)) := by
  unfold flipAt
  simp only [List.getD_eq_getElem?_getD, List.getElem?_set]
  by_cases h : a = j
  · subst h; simp [ha]
  · have h' : ¬ j = a := fun e => h e.symm
    simp [h, h']

theorem flipTo_get (k : Nat) (l : List Bool) (hk : k ≤ l.length) (j : Nat) : (flipTo k l).getD j false = (l.getD j false ^^ decide (j < k)) := by
  induction k with
  | zero => simp [flipTo]
  | succ k ih =>
    rw [flipTo, flipAt_get _ _ _ (by rw [flipTo_length]; omega), ih (by omega)]
    by_cases h1 : j < k
    · have h2 : ¬ j = k := by omega
      have h3 : j < k + 1 := by omega
      simp [h1, h2, h3]
    · by_cases h2 : j = k
      · have h3 : j < k + 1 := by omega
        simp [h2]
      · have h3 : ¬ j < k + 1 := by omega
        simp [h1, h2, h3]

/-- is a place turned by so many powers? -/
def togg (t : Nat) : Nat → Bool
  | 0 => false
  | k + 1 => togg t k ^^ decide (1 + t = 32 - pows.getD k 0)
theorem togg_poly : ∀ t, t < 32 → togg t 17 = Nat.testBit 2197175160 t := by decide
theorem pows_le : ∀ k, k < 17 → pows.getD k 0 ≤ 28 := by decide
theorem togg_far (t : Nat) (ht : 32 ≤ t) (k : Nat) : togg t k = false := by
  induction k with
  | zero => rfl
  | succ k ih =>
    have h : ¬ (1 + t = 32 - pows.getD k 0) := by omega
    rw [togg, ih, decide_eq_false h]; rfl
theorem flipPows_get (i : Nat) (l : List Bool) (hl : i + 33 ≤ l.length) (t : Nat) (k : Nat) (hk : k ≤ 17) : (flipPows i k l).getD (i + 1 + t) false = (l.getD (i + 1 + t) false ^^ togg t k) := by
  induction k with
  | zero => simp [flipPows, togg]
  | succ k ih =>
    have hp := pows_le k (by omega)
    rw [flipPows, flipAt_get _ _ _ (by rw [flipPows_length]; omega), ih (by omega), togg, Bool.xor_assoc]
    congr 2
    rw [decide_eq_decide]
    omega
theorem poly_far (t : Nat) (ht : 32 ≤ t) : Nat.testBit 2197175160 t = false :=
  Nat.testBit_lt_two_pow (Nat.lt_of_lt_of_le (by omega : 2197175160 < 2 ^ 32) (Nat.pow_le_pow_right (by omega) ht))
theorem togg_all (t : Nat) : togg t 17 = Nat.testBit 2197175160 t := by
  rcases Nat.lt_or_ge t 32 with h | h
  · exact togg_poly t h
  · rw [togg_far t h, poly_far t h]

theorem crcIn_test (x : Nat) (b : Bool) (k : Nat) : (crcIn x b).testBit k = (x.testBit (k + 1) ^^ ((x.testBit 0 ^^ b) && Nat.testBit 2197175160 k)) := by
  unfold crcIn
  rw [crcBit_test, Nat.testBit_xor, Nat.testBit_xor]
  have e1 : b.toNat.testBit (k + 1) = false := by
    rw [Nat.testBit_succ]
    cases b <;> simp
  have e0 : b.toNat.testBit 0 = b := by cases b <;> rfl
  rw [e1, e0, Bool.xor_false]
theorem crcIn_lt (x : Nat) (b : Bool) (h : x < 4294967296) : crcIn x b < 4294967296 :=
  crcBit_lt _ (Nat.xor_lt_two_pow (n := 32) (by omega) (by cases b <;> simp))
theorem fold_lt (l : List Bool) (x : Nat) (h : x < 4294967296) : l.foldl crcIn x < 4294967296 := by
  induction l generalizing x with
  | nil => exact h
  | cons b r ih => exact ih _ (crcIn_lt x b h)

/-- what stands behind rounds of the division: the state, and the bits that come -/
theorem div_get (M : List Bool) (m : Nat) (hM : M.length = m + 32) (i : Nat) (hi : i ≤ m) (k : Nat) :
    (divTo i (flipTo 32 M)).getD (i + k) false = (((M.take i).foldl crcIn 4294967295).testBit k ^^ M.getD (i + k) false) := by
  induction i generalizing k with
  | zero =>
    rw [divTo, flipTo_get _ _ (by omega)]
    simp only [Nat.zero_add, List.take_zero, List.foldl_nil]
    rw [Bool.xor_comm]
    congr 1
    rw [show (4294967295 : Nat) = 2 ^ 32 - 1 from rfl, Nat.testBit_two_pow_sub_one]
  | succ i ih =>
    have hb := ih (by omega) 0
    rw [Nat.add_zero] at hb
    have hlen : (divTo i (flipTo 32 M)).length = m + 32 := by rw [divTo_length, flipTo_length, hM]
    have htake : (M.take (i + 1)).foldl crcIn 4294967295 = crcIn ((M.take i).foldl crcIn 4294967295) (M.getD i false) := by
      rw [List.take_succ_eq_append_getElem (by omega), List.foldl_append]
      simp [List.getD_eq_getElem?_getD, List.getElem?_eq_getElem (show i < M.length by omega)]
    rw [htake, crcIn_test, divTo, divRound, hb]
    have hk := ih (by omega) (k + 1)
    rw [show i + (k + 1) = i + 1 + k by omega] at hk
    generalize (M.take i).foldl crcIn 4294967295 = X at hk ⊢
    split
    · rename_i h
      rw [flipPows_get i _ (by omega) k 17 (by omega), hk, togg_all, h, Bool.true_and, Bool.xor_assoc, Bool.xor_assoc, Bool.xor_comm (M.getD (i + 1 + k) false)]
    · rename_i h
      rw [Bool.not_eq_true] at h
      rw [hk, h, Bool.false_and, Bool.xor_false]

theorem div_two_test (n a : Nat) : n / 2 ^ a = n / 2 ^ (a + 1) * 2 + (n.testBit a).toNat := by
  have h1 : n / 2 ^ (a + 1) = n / 2 ^ a / 2 := by rw [Nat.div_div_eq_div_mul, Nat.pow_succ]
  rw [h1, Nat.testBit_eq_decide_div_mod_eq]
  generalize n / 2 ^ a = d
  by_cases h : d % 2 = 1
  · simp [h]; omega
  · simp [h]; omega
theorem not_test (x j : Nat) (h : x < 4294967296) (hj : j < 32) : (4294967295 - x).testBit j = !x.testBit j := by
  rw [← xor_ones x h, Nat.testBit_xor, show (4294967295 : Nat) = 2 ^ 32 - 1 from rfl, Nat.testBit_two_pow_sub_one]
  simp [hj]

theorem lastNum_of (D : List Bool) (m x : Nat) (hx : x < 4294967296) (hl : D.length = m + 32) (hD : ∀ k, k < 32 → D.getD (m + k) false = x.testBit k) (k : Nat) (hk : k ≤ 32) :
    lastNum D k = (4294967295 - x) / 2 ^ (32 - k) := by
  induction k with
  | zero =>
    rw [lastNum]
    exact (Nat.div_eq_of_lt (by omega)).symm
  | succ k ih =>
    rw [lastNum, ih (by omega), hl, div_two_test _ (32 - (k + 1)), show 32 - (k + 1) + 1 = 32 - k by omega, show m + 32 - 1 - k = m + (31 - k) by omega, hD (31 - k) (by omega), show 32 - (k + 1) = 31 - k by omega, not_test x (31 - k) hx (by omega)]
    cases x.testBit (31 - k) <;> rfl

theorem refSum_eq (l : List UInt8) : refSum l = crcSum l := by
  have hM : (byteBits l ++ List.replicate 32 false).length = 8 * l.length + 32 := by simp [byteBits_length]
  unfold refSum crcSum
  have hx := fold_lt (byteBits l) 4294967295 (by omega)
  have ht : (byteBits l ++ List.replicate 32 false).take (8 * l.length) = byteBits l := by rw [← byteBits_length l]; exact List.take_left
  have hD : ∀ k, k < 32 → (divTo (8 * l.length) (flipTo 32 (byteBits l ++ List.replicate 32 false))).getD (8 * l.length + k) false = ((byteBits l).foldl crcIn 4294967295).testBit k := by
    intro k hk
    rw [div_get _ _ hM _ (Nat.le_refl _), ht]
    have : (byteBits l ++ List.replicate 32 false).getD (8 * l.length + k) false = false := by
      rw [← byteBits_length l, List.getD_eq_getElem?_getD, List.getElem?_append_right (by omega)]
      rw [List.getElem?_replicate]
      split <;> rfl
    rw [this, Bool.xor_false]
  have h := lastNum_of _ (8 * l.length) _ hx (by rw [divTo_length, flipTo_length, hM]) hD 32 (Nat.le_refl _)
  rw [crcAll_in]
  simpa using h
end Go.Proofs.YtjjejkhekmpgcaaGreat

namespace Go.Proofs.YtjjejkhekmpgcaaGreat
set_option maxRecDepth 4000
open Go.RowKit

set_option maxHeartbeats 400000 in
theorem refFour_walk (s : ByteArray) (w : World) (hs : s.size ≤ 1000000) :
    Calls Tryz.prog 69 #[.string s] w fun e w' => e = .returned (.string ⟨(fourOf (crcSum s.data.toList)).toArray⟩) ∧ Below w.heap.size w w' := by
  have hle := crcSum_le s.data.toList
  go_enter Tryz.func69, Tryz.ntmps69
  go_wp2_with (first
    | (go_at_call 94; refine (refSum_walk s _ hs).mono ?_; rw [refSum_eq]; rintro e w1 ⟨rfl, hb1⟩)
    | (refine wpList_string_own _ rfl _ 127 9 rfl 5 Tryz.underlying127 Tryz.underlying5 Tryz.underlying9 w.heap.size _ 4 (fourOf (crcSum s.data.toList)) rfl ?_ ?_; · rw [bv_four _ hle]; exact ownsRow_lit _ _ _ _ 4 hb1.size rfl (by decide)))
  go_ret
  exact ⟨rfl, hb1.alloc hb1.size _⟩
end Go.Proofs.YtjjejkhekmpgcaaGreat
