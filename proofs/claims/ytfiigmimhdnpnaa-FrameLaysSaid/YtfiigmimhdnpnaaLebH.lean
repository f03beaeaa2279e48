/-
  Layer 1: the reference's reading of a number, of a text.
-/
import Derived.Test.YtfiigmimhdnpnaaLebT
namespace Go.Proofs.Ytfiigmimhdnpnaa
open Go.RowKit

/-- how many bytes were read -/
def readN (s s1 : ByteArray) (e : Int) : Nat := if e = 0 then s.size - s1.size else 0

theorem byte_at (s : ByteArray) (L : List UInt8) (h : L = s.data.toList) (k : Nat) (h1 : k < L.length) (h2 : k < s.size) : L[k] = s[k] := by
  subst h
  rw [Array.getElem_toList]
  rfl
theorem pow_le (k : Nat) (h : k ≤ 8) : 128 ^ k ≤ 72057594037927936 := by
  have : 128 ^ k ≤ 128 ^ 8 := Nat.pow_le_pow_right (by omega) h
  omega
theorem step_mul (c pw m : Nat) (hp : pw ≤ 72057594037927936) (hm : m = c % 128 * pw) : wrap64 (((c : Int) % 128) * (pw : Int)) = (m : Int) ∧ m ≤ 127 * pw := by
  have h1 : c % 128 * pw ≤ 127 * pw := Nat.mul_le_mul_right _ (by omega)
  have h2 : ((c : Int) % 128) * (pw : Int) = (m : Int) := by
    rw [hm, Int.natCast_mul, show ((c % 128 : Nat) : Int) = (c : Int) % 128 by omega]
  rw [← hm] at h1
  refine ⟨?_, h1⟩
  rw [h2]
  exact IntWalk.wrap64_in _ ⟨by omega, by omega⟩
theorem step_add (acc m acc' pw : Nat) (hp : pw ≤ 72057594037927936) (ha : acc < pw) (hm : m ≤ 127 * pw) (h : acc' = acc + m) : wrap64 ((acc : Int) + (m : Int)) = (acc' : Int) ∧ acc' < pw * 128 := by
  have h2 : (acc : Int) + (m : Int) = (acc' : Int) := by omega
  refine ⟨?_, by omega⟩
  rw [h2]
  exact IntWalk.wrap64_in _ ⟨by omega, by omega⟩
theorem step_pw (pw : Nat) (hp : pw ≤ 562949953421312) : wrap64 ((pw : Int) * 128) = ((pw * 128 : Nat) : Int) := by
  have h2 : (pw : Int) * 128 = ((pw * 128 : Nat) : Int) := by omega
  rw [h2]
  exact IntWalk.wrap64_in _ ⟨by omega, by omega⟩
theorem pow_lt (k : Nat) (h : k < 8) : 128 ^ k ≤ 562949953421312 := by
  have : 128 ^ k ≤ 128 ^ 7 := Nat.pow_le_pow_right (by omega) (by omega)
  omega
theorem byte_wrap (c : UInt8) : wrap64 (c.toNat : Int) = (c.toNat : Int) := by
  have := c.toNat_lt
  exact IntWalk.wrap64_in _ ⟨by omega, by omega⟩

set_option maxHeartbeats 1000000 in
theorem first_walk (s : ByteArray) (w : World) (_hs : s.size ≤ 9223372036854775807) :
    Calls Try.prog 37 #[.string s] w fun r w' => r = .returned (.tuple #[.int .i64 (numR s 0).1, .int .i64 (readN s (numR s 0).2.1 (numR s 0).2.2), .int .i64 (numR s 0).2.2]) ∧ w' = w := by
  obtain ⟨L, hL⟩ : ∃ L, L = s.data.toList := ⟨_, rfl⟩
  have hLs : L.length = s.size := by rw [hL]; rfl
  have hnum : numR s 0 = ((rd 9 L 0 0).1, ⟨(rd 9 L 0 0).2.1.toArray⟩, (rd 9 L 0 0).2.2) := by unfold numR; rw [if_neg (by simp), hL]
  have HL := Lib.hid hL; have HLS := Lib.hid hLs; have HNUM := Lib.hid hnum
  clear hL hLs hnum
  go_enter Try.func37, Try.ntmps37
  go_wp2_with fail
  go_loopg [5, 6, 7] 9 (fun gk n pw i wr => ∃ (k acc p : Nat) (A P : Int), k + gk = 9 ∧ i = .int .i64 k ∧ n = .int .i64 A ∧ pw = .int .i64 P ∧ A = acc ∧ P = p ∧ p = 128 ^ (min k 8) ∧ acc < 128 ^ k ∧ k ≤ L.length ∧ rd gk (L.drop k) k acc = rd 9 L 0 0 ∧ wr = w)
  case atStart => exact ⟨0, 0, 1, 0, 1, by omega, rfl, rfl, rfl, rfl, rfl, by simp, by simp, by omega, by rw [List.drop_zero], rfl⟩
  case round =>
    obtain ⟨k, acc, pw, A, P, hgk, rfl, rfl, rfl, hAI, hPI, hpe, hacc, hkL, hrd, rfl⟩ := hrel
    have HA := Lib.hid hacc; have HR := Lib.hid hrd; have HPE := Lib.hid hpe; have HAI := Lib.hid hAI; have HPI := Lib.hid hPI
    clear hacc hrd hpe hAI hPI
    by_cases hlt : k < 9
    · obtain ⟨g, rfl⟩ : ∃ g, gk = g + 1 := ⟨gk - 1, by omega⟩
      by_cases hend : k < L.length
      · have hks : k < s.size := by rw [← HLS.out]; exact hend
        obtain ⟨c, hc⟩ : ∃ c, c = s[k] := ⟨_, rfl⟩
        have hLk : L.drop k = c :: L.drop (k + 1) := by
          rw [List.drop_eq_getElem_cons hend, hc, byte_at s L HL.out k hend hks]
        have HLK := Lib.hid hLk
        have hix : ∀ h : k < s.size, s[k]'h = c := fun h => hc.symm
        have hcw := byte_wrap c
        obtain ⟨C, hC⟩ : ∃ C : Int, C = (c.toNat : Int) := ⟨_, rfl⟩
        have hC0 : 0 ≤ C := by omega
        have hC1 : C ≤ 255 := by have := c.toNat_lt; omega
        rw [← hC] at hcw
        have HCI := Lib.hid hC; have HCW := Lib.hid hcw
        have hpk : pw = 128 ^ k := by have h := HPE.out; rw [show min k 8 = k by omega] at h; exact h
        have hpw : pw ≤ 72057594037927936 := by rw [hpk]; exact pow_le k (by omega)
        have hA : acc < pw := by rw [hpk]; exact HA.out
        obtain ⟨m, hm⟩ : ∃ m, m = c.toNat % 128 * pw := ⟨_, rfl⟩
        obtain ⟨acc', hacc'⟩ : ∃ a, a = acc + m := ⟨_, rfl⟩
        obtain ⟨e1, hm1⟩ := step_mul c.toNat pw m hpw hm
        obtain ⟨e2, hac⟩ := step_add acc m acc' pw hpw hA hm1 hacc'
        obtain ⟨M, hM⟩ : ∃ M : Int, M = (m : Int) := ⟨_, rfl⟩
        obtain ⟨A', hA'⟩ : ∃ M : Int, M = (acc' : Int) := ⟨_, rfl⟩
        rw [← hM, ← HPI.out, ← HCI.out] at e1
        rw [← hM, ← hA', ← HAI.out] at e2
        have E1 := Lib.hid e1; have E2 := Lib.hid e2; have HAI' := Lib.hid hA'
        clear e1 e2 hM hA'
        have hac2 : acc' < 128 ^ (k + 1) := by rw [Nat.pow_succ, ← hpk]; exact hac
        have hac3 : acc' = acc + c.toNat % 128 * 128 ^ k := by rw [hacc', hm, hpk]
        have HAC := Lib.hid hac2; have HA' := Lib.hid hac3; have HPW := Lib.hid hpw; have HPK := Lib.hid hpk
        clear hC hcw hC1
        clear hc hLk hac hm hacc' hA hac2 hac3 hm1 hpw hpk
        by_cases hcc : (128 : Int) ≤ C
        · have HC := Lib.hid hcc
          have hrdn : rd g (L.drop (k + 1)) (k + 1) acc' = rd 9 L 0 0 := by
            rw [← HR.out, HLK.out, HA'.out]; simp only [rd]; rw [if_pos (by have h1 := HC.out; have h2 := HCI.out; omega)]
          have HRN := Lib.hid hrdn
          clear hrdn
          by_cases h8 : k < 8
          · have hp : pw ≤ 562949953421312 := by rw [HPK.out]; exact pow_lt k h8
            have e3 := step_pw pw hp
            have hp2 : pw * 128 = 128 ^ (min (k + 1) 8) := by rw [show min (k + 1) 8 = k + 1 by omega, Nat.pow_succ, HPK.out]
            obtain ⟨pw2, hpw2⟩ : ∃ x, x = pw * 128 := ⟨_, rfl⟩
            rw [← hpw2] at e3 hp2
            obtain ⟨P2, hP2⟩ : ∃ M : Int, M = (pw2 : Int) := ⟨_, rfl⟩
            rw [← hP2, ← HPI.out] at e3
            have HP2 := Lib.hid hp2; have HPI2 := Lib.hid hP2
            clear hp hp2 hpw2 hend hP2
            go_upto_region 9 with fail
            rw [← HCI.out, HCW.out]
            have e1 := E1.out; have e2 := E2.out
            go_wp2_with fail
            go_roundg g
            case measure => omega
            case rel => exact ⟨k + 1, acc', pw2, A', P2, by omega, by go_num, by first | rfl | rw [e2], by first | rfl | rw [e3], HAI'.out, HPI2.out, HP2.out, HAC.out, by rw [HLS.out]; omega, HRN.out, rfl⟩
          · have hp2 : pw = 128 ^ (min (k + 1) 8) := by rw [show min (k + 1) 8 = 8 by omega, HPK.out, show k = 8 by omega]
            have HP2 := Lib.hid hp2
            clear hp2 hend
            go_upto_region 9 with fail
            rw [← HCI.out, HCW.out]
            have e1 := E1.out; have e2 := E2.out
            go_wp2_with fail
            go_roundg g
            case measure => omega
            case rel => exact ⟨k + 1, acc', pw, A', P, by omega, by go_num, by first | rfl | rw [e2], rfl, HAI'.out, HPI.out, HP2.out, HAC.out, by rw [HLS.out]; omega, HRN.out, rfl⟩
        · have HC := Lib.hid hcc
          by_cases hz : c.toNat = 0 ∧ 0 < k
          · obtain ⟨hz0, hzk⟩ := hz
            have hrdn : rd 9 L 0 0 = (0, L.drop (k + 1), 6) := by
              rw [← HR.out, HLK.out]; simp only [rd]; rw [if_neg (by have h1 := HC.out; have h2 := HCI.out; omega), if_pos ⟨hz0, hzk⟩]
            have HN : Hid (numR s 0 = (0, ⟨(L.drop (k + 1)).toArray⟩, 6)) := Lib.hid (by rw [HNUM.out, hrdn])
            have hb0 : (C == 0) = true := beq_iff_eq.2 (by have h2 := HCI.out; omega)
            clear hz0
            clear hrdn hend
            go_upto_region 9 with fail
            rw [← HCI.out, HCW.out]
            have e1 := E1.out; have e2 := E2.out
            go_wp2_with fail
            go_ret3
            rw [HN.out]
            exact ⟨rfl, rfl⟩
          · have hrdn : rd 9 L 0 0 = (acc', L.drop (k + 1), 0) := by
              rw [← HR.out, HLK.out]; simp only [rd]; rw [if_neg (by have h1 := HC.out; have h2 := HCI.out; omega), if_neg hz, HA'.out]
            have HN : Hid (numR s 0 = (acc', ⟨(L.drop (k + 1)).toArray⟩, 0)) := Lib.hid (by rw [HNUM.out, hrdn])
            have hrn : readN s ⟨(L.drop (k + 1)).toArray⟩ 0 = k + 1 := by
              unfold readN
              rw [if_pos rfl]
              have h1 : (⟨(L.drop (k + 1)).toArray⟩ : ByteArray).size = s.size - (k + 1) := by
                show (L.drop (k + 1)).toArray.size = _
                rw [List.size_toArray, List.length_drop, HLS.out]
              rw [h1]; omega
            have HRD := Lib.hid hrn
            have hz2 : ¬ C = 0 ∨ k = 0 := by have h2 := HCI.out; omega
            have HZ2 := Lib.hid hz2
            have hcb : decide (C < 128) = true := decide_eq_true (by have h1 := HC.out; omega)
            have hk1 : wrap64 ((k : Int) + 1) = ((k + 1 : Nat) : Int) := by
              rw [show (k : Int) + 1 = ((k + 1 : Nat) : Int) by omega]
              exact IntWalk.wrap64_in _ ⟨by omega, by omega⟩
            clear hz hrdn hrn hend hkL hz2
            go_upto_region 9 with fail
            rw [← HCI.out, HCW.out]
            have e1 := E1.out; have e2 := E2.out
            cases hb0 : (C == 0) with
            | false =>
              go_wp2_with fail
              go_ret3
              rw [HN.out, HRD.out, ← HAI'.out]
              exact ⟨by go_num, rfl⟩
            | true =>
              have hk0 : k = 0 := by
                have h1 := beq_iff_eq.1 hb0
                have h2 := HZ2.out
                omega
              go_wp2_with fail
              go_ret3
              rw [HN.out, HRD.out, ← HAI'.out]
              exact ⟨by go_num, rfl⟩
      · have hks : ¬ k < s.size := by rw [← HLS.out]; exact hend
        have hrdn : rd 9 L 0 0 = (0, [], 5) := by rw [← HR.out, List.drop_eq_nil_of_le (by omega)]; rfl
        have HN : Hid (numR s 0 = (0, ⟨#[]⟩, 5)) := Lib.hid (by rw [HNUM.out, hrdn])
        clear hend hrdn hkL
        go_wp2_with fail
        go_ret3
        rw [HN.out]
        exact ⟨rfl, rfl⟩
    · obtain rfl : gk = 0 := by omega
      have hrdn : rd 9 L 0 0 = (0, L.drop k, 6) := by rw [← HR.out]; rfl
      have HN : Hid (numR s 0 = (0, ⟨(L.drop k).toArray⟩, 6)) := Lib.hid (by rw [HNUM.out, hrdn])
      clear hrdn hkL
      go_wp2_with fail
      go_ret3
      rw [HN.out]
      exact ⟨rfl, rfl⟩
end Go.Proofs.Ytfiigmimhdnpnaa
