/-
  Walks of layer 2's law on three texts.
-/
import Derived.Test.YteddefjkmojmbaaCrcL
namespace Go.Proofs.Yteddefjkmojmbaa
open Go.RowKit

theorem xor3_snoc (a b c : List UInt8) (x y z : UInt8) (h1 : a.length = b.length) (h2 : a.length = c.length) : xor3 (a ++ [x]) (b ++ [y]) (c ++ [z]) = xor3 a b c ++ [x ^^^ y ^^^ z] := by
  induction a generalizing b c with
  | nil =>
    cases b with
    | nil => cases c with
      | nil => rfl
      | cons q c => simp at h2
    | cons q b => simp at h1
  | cons p a ih =>
    cases b with
    | nil => simp at h1
    | cons q b => cases c with
      | nil => simp at h2
      | cons r c => simp only [List.cons_append, xor3, ih b c (by simpa using h1) (by simpa using h2)]
theorem xor3_length (a b c : List UInt8) (h1 : a.length = b.length) (h2 : a.length = c.length) : (xor3 a b c).length = a.length := by
  induction a generalizing b c with
  | nil => simp [xor3]
  | cons p a ih =>
    cases b with
    | nil => simp at h1
    | cons q b => cases c with
      | nil => simp at h2
      | cons r c => simp only [xor3, List.length_cons, ih b c (by simpa using h1) (by simpa using h2)]

theorem info_u8 : (Try.prog.info? 5).map (fun i => (i.zero, i.size, i.bytes)) = some (some (.int .u8 0), 1, 1) := by kernel_rfl

theorem u8_xor3 (x y z : UInt8) : bits BinOp.xor IntKind.u8 (bits BinOp.xor IntKind.u8 (x.toNat : Int) (y.toNat : Int)) (z.toNat : Int) = ((x ^^^ y ^^^ z).toNat : Int) := by
  have hx := x.toNat_lt
  have hy := y.toNat_lt
  have hz := z.toNat_lt
  have h := Nat.xor_lt_two_pow (n := 8) hx hy
  rw [u8_xor_nat _ _ (by omega) (by omega), u8_xor_nat _ _ (by omega) (by omega), UInt8.toNat_xor, UInt8.toNat_xor]

set_option maxHeartbeats 1000000 in
theorem three_walk (a b c : ByteArray) (w : World) (h1 : b.size = a.size) (h2 : c.size = a.size) (hs : a.size ≤ 140737488351232) :
    Calls Try.prog 9 #[.string a, .string b, .string c] w fun e w' => e = .returned (.string ⟨(xor3 a.data.toList b.data.toList c.data.toList).toArray⟩) ∧ Below w.heap.size w w' := by
  obtain ⟨i0, hi, hz0, hz1, hz2⟩ := info_parts info_u8
  have H1 := Lib.hid h1
  have H2 := Lib.hid h2
  clear h1 h2
  go_enter Try.func9, Try.ntmps9
  go_wp2_with fail
  go_loopw [7, 8] (fun v i wr => ∃ k : Nat, k ≤ a.size ∧ i = .int .i64 k ∧ wr.ownsRow w.heap.size 5 1 v k (bv (xor3 (a.data.toList.take k) (b.data.toList.take k) (c.data.toList.take k))) ∧ Below w.heap.size w wr)
    (fun _ i _ => a.size - (intOf i).toNat)
  case atStart => exact ⟨0, Nat.zero_le _, rfl, World.ownsRow_nil _ _ _ _, Below.refl _ _⟩
  case round =>
    obtain ⟨k, hk, rfl, hown, hB⟩ := hrel
    by_cases hlt : k < a.size
    · have hltb : k < b.size := by rw [H1.out]; exact hlt
      have hltc : k < c.size := by rw [H2.out]; exact hlt
      have ha8 := a[k].toNat_lt
      have hb8 := b[k].toNat_lt
      have hc8 := c[k].toNat_lt
      go_wp2_with fail
      go_region_law (refine step_append_src _ rfl _ _ 32 32 rfl w.heap.size 5 i0 (.int .u8 0) 1 1 Try.underlying32 hi hz0 hz1 hz2 rfl (by decide) u7 k (bv (xor3 (a.data.toList.take k) (b.data.toList.take k) (c.data.toList.take k))) rfl ?_ _ 1 [.int .u8 (bits BinOp.xor IntKind.u8 (bits BinOp.xor IntKind.u8 (a[k].toNat : Int) (b[k].toNat : Int)) (c[k].toNat : Int))] rfl ?_ ?_ ?_ ?_ ?_; (· first | exact hown.alloc _ | exact ownsRow_drew (hown.alloc _)); (· exact src_cell _ Try.underlying32 _ _ _ rfl (by simp)); (· unfold maxLen; omega); (· omega); (· have := hB.size; simp; omega); intro v' w1 hown3 hgrow)
      all_goals
        have hB3 := ((hB.alloc hB.size _).drew).grown hgrow (by have := hB.size; simp; omega) (fun k hk => (hown.lt k hk).1)
        have hnew : w1.ownsRow w.heap.size 5 1 v' (k + 1) (bv (xor3 (a.data.toList.take (k + 1)) (b.data.toList.take (k + 1)) (c.data.toList.take (k + 1)))) := by
          rw [take_snoc a k hlt, take_snoc b k hltb, take_snoc c k hltc, xor3_snoc _ _ _ _ _ _ (by simp; omega) (by simp; omega), bv_append]
          rw [u8_xor3] at hown3
          exact hown3
        have HN := Lib.hid hnew
        clear hnew hown3 hgrow hown
        go_wp2
        go_roundw
        case rel => exact ⟨k + 1, by omega, by go_num, HN.out, hB3⟩
        case measure => simp [intOf]; omega
    · obtain rfl : k = a.size := by omega
      have hown2 : wr.ownsRow w.heap.size 5 1 u7 a.size (bv (xor3 a.data.toList b.data.toList c.data.toList)) := by
        have eb : b.data.toList.take a.size = b.data.toList := by rw [← H1.out]; exact take_all b
        have ec : c.data.toList.take a.size = c.data.toList := by rw [← H2.out]; exact take_all c
        rw [take_all, eb, ec] at hown
        exact hown
      have HO := Lib.hid hown2
      clear hown hown2
      go_wp2_with (refine wpList_string_own _ rfl _ 32 9 rfl 5 Try.underlying32 Try.underlying5 Try.underlying9 w.heap.size _ a.size (xor3 a.data.toList b.data.toList c.data.toList) rfl HO.out ?_)
      go_ret
      exact ⟨rfl, hB⟩
end Go.Proofs.Yteddefjkmojmbaa
