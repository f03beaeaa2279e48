/-
  Layer 41: how a text becomes another one.
-/
import Derived.Test.YtmjpofceoohglaaPatA
namespace Go.Proofs.Ytmjpofceoohglaa
open Go.RowKit

/-- how many from k on are told alike, n at most -/
def alikeF (f : Nat → Bool) : Nat → Nat → Nat
  | 0, k => k
  | n + 1, k => if f k = true then alikeF f n (k + 1) else k

set_option maxHeartbeats 1000000 in
theorem alike1_walk (p q : Nat) (f : Nat → Bool) (n : Nat) (w : World) (hn : n ≤ 9223372036854775807)
    (hg : ∀ (i : Nat) (w' : World), i < n → Below w.heap.size w w' → Calls Try.prog 26 #[.int .i64 i, .pointer (some ⟨p, 0, none⟩), .pointer (some ⟨q, 0, none⟩)] w' fun e w'' => e = .returned (.bool (f i)) ∧ Below w'.heap.size w' w'') :
    Calls Try.prog 25 #[.int .i64 n, .func (.func 26) #[] #[.pointer (some ⟨p, 0, none⟩), .pointer (some ⟨q, 0, none⟩)]] w fun e w' => e = .returned (.int .i64 (alikeF f n 0)) ∧ Below w.heap.size w w' := by
  have HG := Lib.hid hg
  clear hg
  go_enter Try.func25, Try.ntmps25
  go_wp2_with fail
  go_loopg [7] n (fun gk i wr => ∃ k : Nat, k + gk = n ∧ i = .int .i64 k ∧ alikeF f gk k = alikeF f n 0 ∧ Below w.heap.size w wr)
  case atStart => exact ⟨0, by omega, rfl, rfl, Below.refl _ _⟩
  case round =>
    obtain ⟨k, hgk, rfl, hal, hB⟩ := hrel
    have HAL := Lib.hid hal; have HB := Lib.hid hB
    clear hal hB
    by_cases hlt : k < n
    · go_wp2_with fail
      refine (HG.out k _ hlt HB.out).mono ?_
      rintro e w1 ⟨rfl, hb1⟩
      have HB1 := Lib.hid (HB.out.trans (hb1.mono HB.out.size))
      clear hb1
      have hst : alikeF f gk k = if f k = true then alikeF f (gk - 1) (k + 1) else k := by
        obtain ⟨m, rfl⟩ : ∃ m, gk = m + 1 := ⟨gk - 1, by omega⟩
        rfl
      have HST := Lib.hid hst
      clear hst
      cases hfk : f k with
      | true =>
        have HFK := Lib.hid hfk
        clear hfk
        go_wp2_with fail
        go_roundg (gk - 1)
        case measure => omega
        case rel => exact ⟨k + 1, by omega, by go_num, by rw [← HAL.out, HST.out, if_pos HFK.out], HB1.out⟩
      | false =>
        have HFK := Lib.hid hfk
        clear hfk
        go_wp2_with fail
        go_ret
        exact ⟨ret_int (by rw [← HAL.out, HST.out, if_neg (by rw [HFK.out]; simp)]), HB1.out⟩
    · have hgk0 : gk = 0 := by omega
      subst hgk0
      go_wp2_with fail
      go_ret
      exact ⟨ret_int (by rw [← HAL.out]; simp [alikeF]; omega), HB.out⟩
set_option maxHeartbeats 1000000 in
theorem alike2_walk (p q : Nat) (f : Nat → Bool) (n : Nat) (w : World) (hn : n ≤ 9223372036854775807)
    (hg : ∀ (i : Nat) (w' : World), i < n → Below w.heap.size w w' → Calls Try.prog 27 #[.int .i64 i, .pointer (some ⟨p, 0, none⟩), .pointer (some ⟨q, 0, none⟩)] w' fun e w'' => e = .returned (.bool (f i)) ∧ Below w'.heap.size w' w'') :
    Calls Try.prog 25 #[.int .i64 n, .func (.func 27) #[] #[.pointer (some ⟨p, 0, none⟩), .pointer (some ⟨q, 0, none⟩)]] w fun e w' => e = .returned (.int .i64 (alikeF f n 0)) ∧ Below w.heap.size w w' := by
  have HG := Lib.hid hg
  clear hg
  go_enter Try.func25, Try.ntmps25
  go_wp2_with fail
  go_loopg [7] n (fun gk i wr => ∃ k : Nat, k + gk = n ∧ i = .int .i64 k ∧ alikeF f gk k = alikeF f n 0 ∧ Below w.heap.size w wr)
  case atStart => exact ⟨0, by omega, rfl, rfl, Below.refl _ _⟩
  case round =>
    obtain ⟨k, hgk, rfl, hal, hB⟩ := hrel
    have HAL := Lib.hid hal; have HB := Lib.hid hB
    clear hal hB
    by_cases hlt : k < n
    · go_wp2_with fail
      refine (HG.out k _ hlt HB.out).mono ?_
      rintro e w1 ⟨rfl, hb1⟩
      have HB1 := Lib.hid (HB.out.trans (hb1.mono HB.out.size))
      clear hb1
      have hst : alikeF f gk k = if f k = true then alikeF f (gk - 1) (k + 1) else k := by
        obtain ⟨m, rfl⟩ : ∃ m, gk = m + 1 := ⟨gk - 1, by omega⟩
        rfl
      have HST := Lib.hid hst
      clear hst
      cases hfk : f k with
      | true =>
        have HFK := Lib.hid hfk
        clear hfk
        go_wp2_with fail
        go_roundg (gk - 1)
        case measure => omega
        case rel => exact ⟨k + 1, by omega, by go_num, by rw [← HAL.out, HST.out, if_pos HFK.out], HB1.out⟩
      | false =>
        have HFK := Lib.hid hfk
        clear hfk
        go_wp2_with fail
        go_ret
        exact ⟨ret_int (by rw [← HAL.out, HST.out, if_neg (by rw [HFK.out]; simp)]), HB1.out⟩
    · have hgk0 : gk = 0 := by omega
      subst hgk0
      go_wp2_with fail
      go_ret
      exact ⟨ret_int (by rw [← HAL.out]; simp [alikeF]; omega), HB.out⟩


/-- do the bytes at i agree? -/
def f1 (a b : ByteArray) (i : Nat) : Bool := a.data.toList[i]? == b.data.toList[i]?
/-- do the bytes at i from behind agree? -/
def f2 (a b : ByteArray) (i : Nat) : Bool := a.data.toList[a.size - 1 - i]? == b.data.toList[b.size - 1 - i]?
theorem byte_get (a : ByteArray) (i : Nat) (h : i < a.size) : a.data.toList[i]? = some a[i] := by
  have h' : i < a.data.size := h
  rw [Array.getElem?_toList, Array.getElem?_eq_getElem h']
  rfl
theorem byte_eq (a b : ByteArray) (i j : Nat) (ha : i < a.size) (hb : j < b.size) : ((a[i].toNat : Int) == (b[j].toNat : Int)) = (a.data.toList[i]? == b.data.toList[j]?) := by
  rw [byte_get a i ha, byte_get b j hb]
  rw [Bool.eq_iff_iff, beq_iff_eq, beq_iff_eq, Option.some.injEq]
  constructor
  · intro h; exact UInt8.toNat_inj.1 (by omega)
  · intro h; rw [h]

set_option maxHeartbeats 1000000 in
theorem same1_walk (a b : ByteArray) (p q i : Nat) (w : World) (hp : w.heap[p]? = some (.cells #[.string a] 9 (0, 0))) (hq : w.heap[q]? = some (.cells #[.string b] 9 (0, 0))) (ha : i < a.size) (hb : i < b.size) :
    Calls Try.prog 26 #[.int .i64 i, .pointer (some ⟨p, 0, none⟩), .pointer (some ⟨q, 0, none⟩)] w fun e w' => e = .returned (.bool (f1 a b i)) ∧ Below w.heap.size w w' := by
  have c0 : w.cell? ⟨p, 0, none⟩ = some (.string a) := by rw [cell_of_row w p 0 _ _ _ hp]; rfl
  have c1 : w.cell? ⟨q, 0, none⟩ = some (.string b) := by rw [cell_of_row w q 0 _ _ _ hq]; rfl
  have d0 : w.drew.cell? ⟨p, 0, none⟩ = some (.string a) := c0
  have d1 : w.drew.cell? ⟨q, 0, none⟩ = some (.string b) := c1
  clear hp hq
  go_enter Try.func26, Try.ntmps26
  go_wp2_with fail
  go_region
  go_wp2_with fail
  go_ret
  exact ⟨ret_bool (byte_eq a b i i ha hb), (Below.refl _ _).drew⟩

set_option maxHeartbeats 1000000 in
theorem same2_walk (a b : ByteArray) (p q i : Nat) (w : World) (hp : w.heap[p]? = some (.cells #[.string a] 9 (0, 0))) (hq : w.heap[q]? = some (.cells #[.string b] 9 (0, 0))) (ha : i < a.size) (hb : i < b.size)
    (hsa : a.size ≤ 9223372036854775807) (hsb : b.size ≤ 9223372036854775807) :
    Calls Try.prog 27 #[.int .i64 i, .pointer (some ⟨p, 0, none⟩), .pointer (some ⟨q, 0, none⟩)] w fun e w' => e = .returned (.bool (f2 a b i)) ∧ Below w.heap.size w w' := by
  have c0 : w.cell? ⟨p, 0, none⟩ = some (.string a) := by rw [cell_of_row w p 0 _ _ _ hp]; rfl
  have c1 : w.cell? ⟨q, 0, none⟩ = some (.string b) := by rw [cell_of_row w q 0 _ _ _ hq]; rfl
  have d0 : w.drew.cell? ⟨p, 0, none⟩ = some (.string a) := c0
  have d1 : w.drew.cell? ⟨q, 0, none⟩ = some (.string b) := c1
  clear hp hq
  obtain ⟨x, hx⟩ : ∃ x, x = a.size - 1 - i := ⟨_, rfl⟩
  obtain ⟨y, hy⟩ : ∃ y, y = b.size - 1 - i := ⟨_, rfl⟩
  have hxa : x < a.size := by omega
  have hyb : y < b.size := by omega
  have e1 : wrap64 ((a.size : Int) - 1) = (a.size : Int) - 1 := IntWalk.wrap64_in _ ⟨by omega, by omega⟩
  have e2 : wrap64 ((b.size : Int) - 1) = (b.size : Int) - 1 := IntWalk.wrap64_in _ ⟨by omega, by omega⟩
  have e3 : wrap64 ((a.size : Int) - 1 - i) = (a.size : Int) - 1 - i := IntWalk.wrap64_in _ ⟨by omega, by omega⟩
  have e4 : wrap64 ((b.size : Int) - 1 - i) = (b.size : Int) - 1 - i := IntWalk.wrap64_in _ ⟨by omega, by omega⟩
  have n1 : (a.size : Int) - 1 - i = (x : Nat) := by omega
  have n2 : (b.size : Int) - 1 - i = (y : Nat) := by omega
  have HX := Lib.hid hx; have HY := Lib.hid hy
  clear hx hy
  go_enter Try.func27, Try.ntmps27
  go_wp2_with fail
  go_region
  go_wp2_with fail
  go_ret
  refine ⟨ret_bool ?_, (Below.refl _ _).drew⟩
  unfold f2
  rw [← HX.out, ← HY.out]
  exact byte_eq a b x y hxa hyb
end Go.Proofs.Ytmjpofceoohglaa
