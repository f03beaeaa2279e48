/-
  Layer 1: a number's bytes.
-/
import Derived.Test.YtfiigmimhdnpnaaOwn
import Derived.Test.YtfiigmimhdnpnaaQuiet
import Derived.IntWalk
import Derived.Deep.Cut
import Derived.Deep.CutRange
import Derived.Deep.LoopGhost
namespace Go.Proofs.Ytfiigmimhdnpnaa
open Go.RowKit

/-- a number's bytes -/
def lebN (n : Nat) : List UInt8 := if h : n < 128 then [UInt8.ofNat n] else UInt8.ofNat (n % 128 + 128) :: lebN (n / 128)
termination_by n
decreasing_by omega
theorem lebN_small {n : Nat} (h : n < 128) : lebN n = [UInt8.ofNat n] := by rw [lebN, dif_pos h]
theorem lebN_big {n : Nat} (h : 128 ≤ n) : lebN n = UInt8.ofNat (n % 128 + 128) :: lebN (n / 128) := by rw [lebN, dif_neg (by omega)]
theorem lebN_length : ∀ (k n : Nat), n < 128 ^ (k + 1) → (lebN n).length ≤ k + 1
  | 0, n, h => by rw [lebN_small (by simpa using h)]; simp
  | k + 1, n, h => by
    by_cases hs : n < 128
    · rw [lebN_small hs]; simp
    · rw [lebN_big (by omega)]
      have := lebN_length k (n / 128) (by rw [Nat.pow_succ] at h; omega)
      simp; omega
theorem lebN_nine (n : Nat) (h : n ≤ 9223372036854775807) : (lebN n).length ≤ 9 := lebN_length 8 n (by omega)

theorem info_u8 : (Try.prog.info? 5).map (fun i => (i.zero, i.size, i.bytes)) = some (some (.int .u8 0), 1, 1) := by kernel_rfl

set_option maxHeartbeats 2000000 in
theorem number_walk (n : Nat) (w : World) (hn : n ≤ 9223372036854775807) :
    Calls Try.prog 32 #[.int .i64 n] w fun e w' => ∃ v, e = .returned v ∧ w'.ownsRow w.heap.size 5 1 v (lebN n).length (bv (lebN n)) ∧ Below w.heap.size w w' := by
  obtain ⟨i0, hi, hz0, hz1, hz2⟩ := info_parts info_u8
  go_enter Try.func32, Try.ntmps32
  go_wp2_with fail
  go_loopg [0, 3] n (fun gk vn vb wr => ∃ l, vn = .int .i64 (gk : Nat) ∧ gk ≤ n ∧ wr.ownsRow w.heap.size 5 1 vb l.length (bv l) ∧ l ++ lebN gk = lebN n ∧ Below w.heap.size w wr)
  case atStart => exact ⟨[], rfl, Nat.le_refl _, World.ownsRow_nil _ _ _ _, rfl, Below.refl _ _⟩
  case round =>
    obtain ⟨l, rfl, hgn, hown, hl, hB⟩ := hrel
    have HL := Lib.hid hl
    have hlen : l.length + (lebN gk).length ≤ 9 := by have := lebN_nine n hn; rw [← hl] at this; simpa using this
    clear hl
    obtain ⟨m, hm⟩ : ∃ m, m = l.length := ⟨_, rfl⟩
    rw [← hm] at hown hlen
    have HM := Lib.hid hm
    clear hm
    have HGN := Lib.hid hgn; have HNN := Lib.hid hn; have HO := Lib.hid hown; have HBB := Lib.hid hB
    clear hgn hn hown hB
    by_cases hbig : (128 : Int) ≤ (gk : Int)
    · have hlt : m + 1 ≤ 9 := by have := hlen; rw [lebN_big (by omega)] at this; simp at this; omega
      clear hlen
      go_wp2_with (at_builtin; refine wpList_append_at _ rfl _ _ 38 38 rfl w.heap.size 5 i0 (.int .u8 0) 1 1 Try.underlying38 hi hz0 hz1 hz2 rfl (by decide) _ m (bv l) rfl (HO.out.alloc _) _ 1 [.int .u8 ((gk : Int) % 128 + 128)] rfl (src_one _ Try.underlying38 _ _ rfl _) ?_ ?_ ?_ ?_)
      · unfold maxLen; omega
      · omega
      · have := HBB.out.size; simp; omega
      intro v' w2 hown2 hgrow hpl
      have hv : [Value.int .u8 ((gk : Int) % 128 + 128)] = bv [UInt8.ofNat (gk % 128 + 128)] := by
        simp only [bv, List.map_cons, List.map_nil, UInt8.toNat_ofNat']
        rw [Nat.mod_eq_of_lt (by omega)]
        congr 2
      have hB2 := (HBB.out.alloc HBB.out.size (.cells #[.int .u8 ((gk : Int) % 128 + 128)] 5)).grown hgrow (by have := HBB.out.size; simp; omega) (fun k hk => (HO.out.lt k hk).1)
      rw [hv, ← bv_append] at hown2
      have H1 := Lib.hid hown2; have H2 := Lib.hid hB2
      have HLT := Lib.hid hlt; have HBIG := Lib.hid hbig
      clear hown2 hB2 hgrow hpl hv hlt
      go_wp2_with fail
      go_roundg (gk / 128)
      case measure => have := HBIG.out; omega
      case rel =>
        refine ⟨l ++ [UInt8.ofNat (gk % 128 + 128)], congrArg (Value.int .i64) (by omega), by have := HGN.out; omega, ?_, ?_, H2.out⟩
        · rw [List.length_append, ← HM.out]
          exact H1.out
        · rw [← HL.out, lebN_big (n := gk) (by have := HBIG.out; omega), List.append_assoc]
          rfl
    · have hsm : lebN gk = [UInt8.ofNat gk] := lebN_small (by omega)
      rw [hsm] at hlen
      have HSM := Lib.hid hsm
      have hlt : m + 1 ≤ 9 := by simpa using hlen
      clear hlen hsm
      go_wp2_with (at_builtin; refine wpList_append_at _ rfl _ _ 38 38 rfl w.heap.size 5 i0 (.int .u8 0) 1 1 Try.underlying38 hi hz0 hz1 hz2 rfl (by decide) _ m (bv l) rfl (HO.out.alloc _) _ 1 [.int .u8 (gk : Int)] rfl (src_one _ Try.underlying38 _ _ rfl _) ?_ ?_ ?_ ?_)
      · unfold maxLen; omega
      · omega
      · have := HBB.out.size; simp; omega
      intro v' w2 hown2 hgrow hpl
      have hv : [Value.int .u8 (gk : Int)] = bv [UInt8.ofNat gk] := by
        simp only [bv, List.map_cons, List.map_nil, UInt8.toNat_ofNat']
        rw [Nat.mod_eq_of_lt (by omega)]
      have hB2 := (HBB.out.alloc HBB.out.size (.cells #[.int .u8 (gk : Int)] 5)).grown hgrow (by have := HBB.out.size; simp; omega) (fun k hk => (HO.out.lt k hk).1)
      rw [hv, ← bv_append] at hown2
      have H1 := Lib.hid hown2; have H2 := Lib.hid hB2
      clear hown2 hB2 hgrow hpl hv hlt
      go_wp2_with fail
      go_ret
      refine ⟨_, rfl, ?_, H2.out⟩
      have := H1.out
      rw [← HSM.out, HL.out] at this
      have hln : (lebN n).length = m + 1 := by rw [← HL.out, List.length_append, ← HM.out, HSM.out]; rfl
      rw [hln]
      exact this
end Go.Proofs.Ytfiigmimhdnpnaa
