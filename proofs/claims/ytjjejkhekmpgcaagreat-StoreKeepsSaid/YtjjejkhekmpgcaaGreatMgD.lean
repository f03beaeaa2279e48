/-
  Layer 1: the reference's reading of a number, of a text.
  Layer 1: what is left of bytes when a number, a text is read; the reference's Second.
  Layer 1: what was laid is read as it was; a number stands in one way alone.
  Layer 1: what Lay laid is its fields' bytes, one behind the other; each field is read as it was.
  Layer 1: the reference's Number, Text.
-/
import Derived.Test.YtjjejkhekmpgcaaGreatMgC
namespace Go.Proofs.YtjjejkhekmpgcaaGreat
set_option maxRecDepth 4000
open Go.RowKit

/-- how many bytes were read -/
def readN (s s1 : ByteArray) (e : Int) : Nat := if e = 0 then s.size - s1.size else 0

theorem byte_at (s : ByteArray) (L : List UInt8) (h : L = s.data.toList) (k : Nat) (h1 : k < L.length) (h2 : k < s.size) : L[k] = s[k] := by
  subst h
  rw [Array.getElem_toList]
  rfl
theorem pow_le (k : Nat) (h : k ≤ 8) : 128 ^ k ≤ 72057594037927936 := by
  have : 128 ^ k ≤ 128 ^ 8 := Nat.pow_le_pow_right (by omega) h
  omega
theorem step_mul (c pw m : Nat) (hp : pw ≤ 72057594037927936) (hm : m = c % 128 * pw) : wrap64 (((c : Int) % 128) * (pw : Int)) = (m : Int) ∧ m ≤ 127 * pw := by
  have h1 : c % 128 * pw ≤ 127 * pw := Nat.mul_le_mul_right _ (by omega)
  have h2 : ((c : Int) % 128) * (pw : Int) = (m : Int) := by
    rw [hm, Int.natCast_mul, show ((c % 128 : Nat) : Int) = (c : Int) % 128 by omega]
  rw [← hm] at h1
  refine ⟨?_, h1⟩
  rw [h2]
  exact IntWalk.wrap64_in _ ⟨by omega, by omega⟩
theorem step_add (acc m acc' pw : Nat) (hp : pw ≤ 72057594037927936) (ha : acc < pw) (hm : m ≤ 127 * pw) (h : acc' = acc + m) : wrap64 ((acc : Int) + (m : Int)) = (acc' : Int) ∧ acc' < pw * 128 := by
  have h2 : (acc : Int) + (m : Int) = (acc' : Int) := by omega
  refine ⟨?_, by omega⟩
  rw [h2]
  exact IntWalk.wrap64_in _ ⟨by omega, by omega⟩
theorem step_pw (pw : Nat) (hp : pw ≤ 562949953421312) : wrap64 ((pw : Int) * 128) = ((pw * 128 : Nat) : Int) := by
  have h2 : (pw : Int) * 128 = ((pw * 128 : Nat) : Int) := by omega
  rw [h2]
  exact IntWalk.wrap64_in _ ⟨by omega, by omega⟩
theorem pow_lt (k : Nat) (h : k < 8) : 128 ^ k ≤ 562949953421312 := by
  have : 128 ^ k ≤ 128 ^ 7 := Nat.pow_le_pow_right (by omega) (by omega)
  omega
theorem byte_wrap (c : UInt8) : wrap64 (c.toNat : Int) = (c.toNat : Int) := by
  have := c.toNat_lt
  exact IntWalk.wrap64_in _ ⟨by omega, by omega⟩

set_option maxHeartbeats 1000000 in
theorem first_walk (s : ByteArray) (w : World) (_hs : s.size ≤ 9223372036854775807) :
    Calls Tryz.prog 23 #[.string s] w fun r w' => r = .returned (.tuple #[.int .i64 (numR s 0).1, .int .i64 (readN s (numR s 0).2.1 (numR s 0).2.2), .int .i64 (numR s 0).2.2]) ∧ w' = w := by
  obtain ⟨L, hL⟩ : ∃ L, L = s.data.toList := ⟨_, rfl⟩
  have hLs : L.length = s.size := by rw [hL]; rfl
  have hnum : numR s 0 = ((rd 9 L 0 0).1, ⟨(rd 9 L 0 0).2.1.toArray⟩, (rd 9 L 0 0).2.2) := by unfold numR; rw [if_neg (by simp), hL]
  have HL := Lib.hid hL; have HLS := Lib.hid hLs; have HNUM := Lib.hid hnum
  clear hL hLs hnum
  go_enter Tryz.func23, Tryz.ntmps23
  go_wp2_with fail
  go_loopg [5, 6, 7] 9 (fun gk n pw i wr => ∃ (k acc p : Nat) (A P : Int), k + gk = 9 ∧ i = .int .i64 k ∧ n = .int .i64 A ∧ pw = .int .i64 P ∧ A = acc ∧ P = p ∧ p = 128 ^ (min k 8) ∧ acc < 128 ^ k ∧ k ≤ L.length ∧ rd gk (L.drop k) k acc = rd 9 L 0 0 ∧ wr = w)
  case atStart => exact ⟨0, 0, 1, 0, 1, by omega, rfl, rfl, rfl, rfl, rfl, by simp, by simp, by omega, by rw [List.drop_zero], rfl⟩
  case round =>
    obtain ⟨k, acc, pw, A, P, hgk, rfl, rfl, rfl, hAI, hPI, hpe, hacc, hkL, hrd, rfl⟩ := hrel
    have HA := Lib.hid hacc; have HR := Lib.hid hrd; have HPE := Lib.hid hpe; have HAI := Lib.hid hAI; have HPI := Lib.hid hPI
    clear hacc hrd hpe hAI hPI
    by_cases hlt : k < 9
    · obtain ⟨g, rfl⟩ : ∃ g, gk = g + 1 := ⟨gk - 1, by omega⟩
      by_cases hend : k < L.length
      · have hks : k < s.size := by rw [← HLS.out]; exact hend
        obtain ⟨c, hc⟩ : ∃ c, c = s[k] := ⟨_, rfl⟩
        have hLk : L.drop k = c :: L.drop (k + 1) := by
          rw [List.drop_eq_getElem_cons hend, hc, byte_at s L HL.out k hend hks]
        have HLK := Lib.hid hLk
        have hix : ∀ h : k < s.size, s[k]'h = c := fun h => hc.symm
        have hcw := byte_wrap c
        obtain ⟨C, hC⟩ : ∃ C : Int, C = (c.toNat : Int) := ⟨_, rfl⟩
        have hC0 : 0 ≤ C := by omega
        have hC1 : C ≤ 255 := by have := c.toNat_lt; omega
        rw [← hC] at hcw
        have HCI := Lib.hid hC; have HCW := Lib.hid hcw
        have hpk : pw = 128 ^ k := by have h := HPE.out; rw [show min k 8 = k by omega] at h; exact h
        have hpw : pw ≤ 72057594037927936 := by rw [hpk]; exact pow_le k (by omega)
        have hA : acc < pw := by rw [hpk]; exact HA.out
        obtain ⟨m, hm⟩ : ∃ m, m = c.toNat % 128 * pw := ⟨_, rfl⟩
        obtain ⟨acc', hacc'⟩ : ∃ a, a = acc + m := ⟨_, rfl⟩
        obtain ⟨e1, hm1⟩ := step_mul c.toNat pw m hpw hm
        obtain ⟨e2, hac⟩ := step_add acc m acc' pw hpw hA hm1 hacc'
        obtain ⟨M, hM⟩ : ∃ M : Int, M = (m : Int) := ⟨_, rfl⟩
        obtain ⟨A', hA'⟩ : ∃ M : Int, M = (acc' : Int) := ⟨_, rfl⟩
        rw [← hM, ← HPI.out, ← HCI.out] at e1
        rw [← hM, ← hA', ← HAI.out] at e2
        have E1 := Lib.hid e1; have E2 := Lib.hid e2; have HAI' := Lib.hid hA'
        clear e1 e2 hM hA'
        have hac2 : acc' < 128 ^ (k + 1) := by rw [Nat.pow_succ, ← hpk]; exact hac
        have hac3 : acc' = acc + c.toNat % 128 * 128 ^ k := by rw [hacc', hm, hpk]
        have HAC := Lib.hid hac2; have HA' := Lib.hid hac3; have HPW := Lib.hid hpw; have HPK := Lib.hid hpk
        clear hC hcw hC1
        clear hc hLk hac hm hacc' hA hac2 hac3 hm1 hpw hpk
        by_cases hcc : (128 : Int) ≤ C
        · have HC := Lib.hid hcc
          have hrdn : rd g (L.drop (k + 1)) (k + 1) acc' = rd 9 L 0 0 := by
            rw [← HR.out, HLK.out, HA'.out]; simp only [rd]; rw [if_pos (by have h1 := HC.out; have h2 := HCI.out; omega)]
          have HRN := Lib.hid hrdn
          clear hrdn
          by_cases h8 : k < 8
          · have hp : pw ≤ 562949953421312 := by rw [HPK.out]; exact pow_lt k h8
            have e3 := step_pw pw hp
            have hp2 : pw * 128 = 128 ^ (min (k + 1) 8) := by rw [show min (k + 1) 8 = k + 1 by omega, Nat.pow_succ, HPK.out]
            obtain ⟨pw2, hpw2⟩ : ∃ x, x = pw * 128 := ⟨_, rfl⟩
            rw [← hpw2] at e3 hp2
            obtain ⟨P2, hP2⟩ : ∃ M : Int, M = (pw2 : Int) := ⟨_, rfl⟩
            rw [← hP2, ← HPI.out] at e3
            have HP2 := Lib.hid hp2; have HPI2 := Lib.hid hP2
            clear hp hp2 hpw2 hend hP2
            go_upto_region 9 with fail
            rw [← HCI.out, HCW.out]
            have e1 := E1.out; have e2 := E2.out
            go_wp2_with fail
            go_roundg g
            case measure => omega
            case rel => exact ⟨k + 1, acc', pw2, A', P2, by omega, by go_num, by first | rfl | rw [e2], by first | rfl | rw [e3], HAI'.out, HPI2.out, HP2.out, HAC.out, by rw [HLS.out]; omega, HRN.out, rfl⟩
          · have hp2 : pw = 128 ^ (min (k + 1) 8) := by rw [show min (k + 1) 8 = 8 by omega, HPK.out, show k = 8 by omega]
            have HP2 := Lib.hid hp2
            clear hp2 hend
            go_upto_region 9 with fail
            rw [← HCI.out, HCW.out]
            have e1 := E1.out; have e2 := E2.out
            go_wp2_with fail
            go_roundg g
            case measure => omega
            case rel => exact ⟨k + 1, acc', pw, A', P, by omega, by go_num, by first | rfl | rw [e2], rfl, HAI'.out, HPI.out, HP2.out, HAC.out, by rw [HLS.out]; omega, HRN.out, rfl⟩
        · have HC := Lib.hid hcc
          by_cases hz : c.toNat = 0 ∧ 0 < k
          · obtain ⟨hz0, hzk⟩ := hz
            have hrdn : rd 9 L 0 0 = (0, L.drop (k + 1), 6) := by
              rw [← HR.out, HLK.out]; simp only [rd]; rw [if_neg (by have h1 := HC.out; have h2 := HCI.out; omega), if_pos ⟨hz0, hzk⟩]
            have HN : Hid (numR s 0 = (0, ⟨(L.drop (k + 1)).toArray⟩, 6)) := Lib.hid (by rw [HNUM.out, hrdn])
            have hb0 : (C == 0) = true := beq_iff_eq.2 (by have h2 := HCI.out; omega)
            clear hz0
            clear hrdn hend
            go_upto_region 9 with fail
            rw [← HCI.out, HCW.out]
            have e1 := E1.out; have e2 := E2.out
            go_wp2_with fail
            go_ret3
            rw [HN.out]
            exact ⟨rfl, rfl⟩
          · have hrdn : rd 9 L 0 0 = (acc', L.drop (k + 1), 0) := by
              rw [← HR.out, HLK.out]; simp only [rd]; rw [if_neg (by have h1 := HC.out; have h2 := HCI.out; omega), if_neg hz, HA'.out]
            have HN : Hid (numR s 0 = (acc', ⟨(L.drop (k + 1)).toArray⟩, 0)) := Lib.hid (by rw [HNUM.out, hrdn])
            have hrn : readN s ⟨(L.drop (k + 1)).toArray⟩ 0 = k + 1 := by
              unfold readN
              rw [if_pos rfl]
              have h1 : (⟨(L.drop (k + 1)).toArray⟩ : ByteArray).size = s.size - (k + 1) := by
                show (L.drop (k + 1)).toArray.size = _
                rw [List.size_toArray, List.length_drop, HLS.out]
              rw [h1]; omega
            have HRD := Lib.hid hrn
            have hz2 : ¬ C = 0 ∨ k = 0 := by have h2 := HCI.out; omega
            have HZ2 := Lib.hid hz2
            have hcb : decide (C < 128) = true := decide_eq_true (by have h1 := HC.out; omega)
            have hk1 : wrap64 ((k : Int) + 1) = ((k + 1 : Nat) : Int) := by
              rw [show (k : Int) + 1 = ((k + 1 : Nat) : Int) by omega]
              exact IntWalk.wrap64_in _ ⟨by omega, by omega⟩
            clear hz hrdn hrn hend hkL hz2
            go_upto_region 9 with fail
            rw [← HCI.out, HCW.out]
            have e1 := E1.out; have e2 := E2.out
            cases hb0 : (C == 0) with
            | false =>
              go_wp2_with fail
              go_ret3
              rw [HN.out, HRD.out, ← HAI'.out]
              exact ⟨by go_num, rfl⟩
            | true =>
              have hk0 : k = 0 := by
                have h1 := beq_iff_eq.1 hb0
                have h2 := HZ2.out
                omega
              go_wp2_with fail
              go_ret3
              rw [HN.out, HRD.out, ← HAI'.out]
              exact ⟨by go_num, rfl⟩
      · have hks : ¬ k < s.size := by rw [← HLS.out]; exact hend
        have hrdn : rd 9 L 0 0 = (0, [], 5) := by rw [← HR.out, List.drop_eq_nil_of_le (by omega)]; rfl
        have HN : Hid (numR s 0 = (0, ⟨#[]⟩, 5)) := Lib.hid (by rw [HNUM.out, hrdn])
        clear hend hrdn hkL
        go_wp2_with fail
        go_ret3
        rw [HN.out]
        exact ⟨rfl, rfl⟩
    · obtain rfl : gk = 0 := by omega
      have hrdn : rd 9 L 0 0 = (0, L.drop k, 6) := by rw [← HR.out]; rfl
      have HN : Hid (numR s 0 = (0, ⟨(L.drop k).toArray⟩, 6)) := Lib.hid (by rw [HNUM.out, hrdn])
      clear hrdn hkL
      go_wp2_with fail
      go_ret3
      rw [HN.out]
      exact ⟨rfl, rfl⟩
end Go.Proofs.YtjjejkhekmpgcaaGreat

namespace Go.Proofs.YtjjejkhekmpgcaaGreat
set_option maxRecDepth 4000
open Go.RowKit

theorem rd_left (f : Nat) : ∀ (L : List UInt8) (i acc : Nat), (rd f L i acc).2.2 = 0 → ∃ j, j ≤ L.length ∧ (rd f L i acc).2.1 = L.drop j := by
  induction f with
  | zero => intro L i acc h; simp [rd] at h
  | succ f ih =>
    intro L i acc h
    cases L with
    | nil => simp [rd] at h
    | cons c r =>
      simp only [rd] at h ⊢
      split at h
      · rename_i hc
        rw [if_pos hc]
        obtain ⟨j, hj, e⟩ := ih r _ _ h
        exact ⟨j + 1, by simp; omega, by rw [e]; rfl⟩
      · rename_i hc
        rw [if_neg hc]
        split at h
        · simp at h
        · rename_i hz
          rw [if_neg hz]
          exact ⟨1, by simp, rfl⟩
theorem ex_left (s : ByteArray) (j : Nat) : (⟨(s.data.toList.drop j).toArray⟩ : ByteArray) = s.extract j s.size := by
  apply ByteArray.ext
  apply Array.ext'
  rw [ByteArray.data_extract, Array.toList_extract]
  show s.data.toList.drop j = _
  rw [List.extract_eq_take_drop]
  exact (List.take_of_length_le (by rw [List.length_drop]; exact Nat.le_refl _)).symm
theorem num_left (s : ByteArray) (h : (numR s 0).2.2 = 0) : ∃ j, j ≤ s.size ∧ (numR s 0).2.1 = s.extract j s.size := by
  unfold numR at h ⊢
  rw [if_neg (by simp)] at h ⊢
  obtain ⟨j, hj, e⟩ := rd_left 9 s.data.toList 0 0 h
  exact ⟨j, hj, by show (⟨_⟩ : ByteArray) = _; rw [e]; exact ex_left s j⟩
theorem ex_size (s : ByteArray) (j : Nat) (h : j ≤ s.size) : (s.extract j s.size).size = s.size - j := by
  rw [ByteArray.size_extract]; omega
theorem ex_ex (s : ByteArray) (a b : Nat) (ha : a ≤ s.size) : (s.extract a s.size).extract b (s.extract a s.size).size = s.extract (a + b) s.size := by
  rw [ex_size s a ha, ByteArray.extract_extract]
  congr 1
  omega
theorem txt_left (s : ByteArray) (h : (txtR s 0).2.2 = 0) : ∃ j, j ≤ s.size ∧ (txtR s 0).2.1 = s.extract j s.size := by
  unfold txtR takeR at h ⊢
  by_cases he : (numR s 0).2.2 = 0
  · obtain ⟨j, hj, e⟩ := num_left s he
    rw [if_neg (by rw [he]; simp)] at h ⊢
    split at h
    · simp at h
    · rename_i hn
      rw [if_neg hn, e]
      rw [e, ex_size s j hj] at hn
      exact ⟨j + (numR s 0).1, by omega, ex_ex s j _ hj⟩
  · rw [if_pos he] at h
    exact absurd h he
theorem read_left (s s1 : ByteArray) (e : Int) (hs : e = 0 → ∃ j, j ≤ s.size ∧ s1 = s.extract j s.size) : (e = 0 → s1 = s.extract (readN s s1 e) s.size ∧ readN s s1 e + s1.size = s.size) ∧ (e ≠ 0 → readN s s1 e = 0) := by
  refine ⟨fun he => ?_, fun he => by unfold readN; rw [if_neg he]⟩
  obtain ⟨j, hj, e1⟩ := hs he
  have hsz : s1.size = s.size - j := by rw [e1]; exact ex_size s j hj
  have hr : readN s s1 e = j := by unfold readN; rw [if_pos he]; omega
  rw [hr]
  exact ⟨e1, by omega⟩

set_option maxHeartbeats 1000000 in
theorem second_walk (s : ByteArray) (w : World) (hs : s.size ≤ 9223372036854775807) :
    Calls Tryz.prog 22 #[.string s] w fun r w' => r = .returned (.tuple #[.string (txtR s 0).1, .int .i64 (readN s (txtR s 0).2.1 (txtR s 0).2.2), .int .i64 (txtR s 0).2.2]) ∧ w' = w := by
  obtain ⟨n, s1, e1, hn⟩ : ∃ n s1 e1, numR s 0 = (n, s1, e1) := ⟨_, _, _, rfl⟩
  have hl := num_left s
  rw [hn] at hl
  have hx : txtR s 0 = takeR s1 e1 n := by unfold txtR; rw [hn]
  have HN := Lib.hid hn; have HL := Lib.hid hl; have HX := Lib.hid hx
  clear hn hl hx
  go_enter Tryz.func22, Tryz.ntmps22
  go_wp2_with fail
  refine (first_walk s _ hs).mono ?_
  rintro r w1 ⟨rfl, rfl⟩
  rw [HN.out]
  by_cases he : e1 = 0
  · subst he
    obtain ⟨j, hj, h1⟩ := HL.out rfl
    have h1 : s1 = s.extract j s.size := h1
    have hsz : s1.size = s.size - j := by rw [h1]; exact ex_size s j hj
    have hr : readN s s1 0 = j := by unfold readN; rw [if_pos rfl]; omega
    simp only [hr]
    have H1 := Lib.hid h1; have HS := Lib.hid hsz
    clear h1 hsz hr
    by_cases hlt : s1.size < n
    · have hx : txtR s 0 = (⟨#[]⟩, s1, 5) := by rw [HX.out]; unfold takeR; rw [if_neg (by simp), if_pos hlt]
      have HX2 := Lib.hid hx
      have hlt2 : (s.size : Int) - (j : Int) < (n : Int) := by have := HS.out; omega
      clear hx hlt
      go_wp2_with fail
      go_ret3
      rw [HX2.out]
      exact ⟨rfl, rfl⟩
    · have hx : txtR s 0 = (s.extract j (j + n), s.extract (j + n) s.size, 0) := by
        rw [HX.out]; unfold takeR; rw [if_neg (by simp), if_neg hlt, H1.out, ex_ex s j n hj, ByteArray.extract_extract]
        have := HS.out
        rw [show min (j + n) s.size = j + n by omega]; rfl
      have HX2 := Lib.hid hx
      have hjn : j + n ≤ s.size := by have := HS.out; omega
      have hr2 : readN s (s.extract (j + n) s.size) 0 = j + n := by unfold readN; rw [if_pos rfl, ex_size s _ hjn]; omega
      have HR2 := Lib.hid hr2
      clear hx hlt hr2
      go_wp2_with fail
      go_ret3
      rw [HX2.out, HR2.out]
      exact ⟨by go_num, rfl⟩
  · have hx : txtR s 0 = (⟨#[]⟩, s1, e1) := by rw [HX.out]; unfold takeR; rw [if_pos he]
    have hr : readN s s1 e1 = 0 := by unfold readN; rw [if_neg he]
    have HX2 := Lib.hid hx; have HR := Lib.hid hr
    clear hx
    simp only [hr]
    clear hr
    go_wp2_with fail
    go_ret3
    rw [HX2.out, HR.out]
    exact ⟨rfl, rfl⟩
end Go.Proofs.YtjjejkhekmpgcaaGreat

namespace Go.Proofs.YtjjejkhekmpgcaaGreat
set_option maxRecDepth 4000
open Go.RowKit

theorem rd_leb (f : Nat) : ∀ (n i acc : Nat) (r : List UInt8), 1 ≤ f → n < 128 ^ f → (n ≠ 0 ∨ i = 0) → rd f (lebN n ++ r) i acc = (acc + n * 128 ^ i, r, 0) := by
  induction f with
  | zero => intro n i acc r h; omega
  | succ f ih =>
    intro n i acc r _ hn hz
    by_cases hs : n < 128
    · have hc : (UInt8.ofNat n).toNat = n := by rw [UInt8.toNat_ofNat']; omega
      rw [lebN_small hs]
      show rd (f + 1) (UInt8.ofNat n :: r) i acc = _
      simp only [rd, hc]
      rw [if_neg (by omega), if_neg (by omega), Nat.mod_eq_of_lt hs]
    · have hc : (UInt8.ofNat (n % 128 + 128)).toNat = n % 128 + 128 := by rw [UInt8.toNat_ofNat']; omega
      rw [lebN_big (by omega)]
      show rd (f + 1) (UInt8.ofNat (n % 128 + 128) :: (lebN (n / 128) ++ r)) i acc = _
      simp only [rd, hc]
      have hf : 1 ≤ f := by
        rcases Nat.eq_zero_or_pos f with rfl | h
        · simp at hn; omega
        · exact h
      rw [if_pos (by omega), ih (n / 128) (i + 1) _ r hf (by rw [Nat.pow_succ] at hn; omega) (.inl (by omega))]
      have e : acc + (n % 128 + 128) % 128 * 128 ^ i + n / 128 * 128 ^ (i + 1) = acc + n * 128 ^ i := by
        have e1 : n = n % 128 + n / 128 * 128 := by omega
        have e2 : n * 128 ^ i = n % 128 * 128 ^ i + n / 128 * 128 ^ (i + 1) := by
          rw [Nat.pow_succ, Nat.mul_comm (128 ^ i) 128, ← Nat.mul_assoc, ← Nat.add_mul, ← e1]
        rw [show (n % 128 + 128) % 128 = n % 128 by omega, e2, Nat.add_assoc]
      rw [e]
theorem rd_one (f : Nat) : ∀ (L : List UInt8) (i acc v : Nat) (r : List UInt8), rd f L i acc = (v, r, 0) → ∃ n, v = acc + n * 128 ^ i ∧ L = lebN n ++ r ∧ (n ≠ 0 ∨ i = 0) ∧ n < 128 ^ f := by
  induction f with
  | zero => intro L i acc v r h; simp [rd] at h
  | succ f ih =>
    intro L i acc v r h
    cases L with
    | nil => simp [rd] at h
    | cons c t =>
      simp only [rd] at h
      have hc8 := c.toNat_lt
      split at h
      · rename_i hc
        obtain ⟨n, hv, ht, hz, hn⟩ := ih t _ _ v r h
        have hn0 : n ≠ 0 := by omega
        refine ⟨n * 128 + c.toNat % 128, ?_, ?_, .inl (by omega), by rw [Nat.pow_succ]; omega⟩
        · rw [hv, Nat.pow_succ, Nat.mul_comm (128 ^ i) 128, ← Nat.mul_assoc, Nat.add_assoc, ← Nat.add_mul, Nat.add_comm (c.toNat % 128)]
        · rw [lebN_big (by omega), show (n * 128 + c.toNat % 128) / 128 = n by omega, show (n * 128 + c.toNat % 128) % 128 + 128 = c.toNat by omega, ht]
          show c :: (lebN n ++ r) = UInt8.ofNat c.toNat :: (lebN n ++ r)
          rw [UInt8.ofNat_toNat]
      · rename_i hc
        split at h
        · simp at h
        · rename_i hz
          simp only [Prod.mk.injEq] at h
          obtain ⟨h1, h2, _⟩ := h
          subst h2
          refine ⟨c.toNat, by rw [← h1, Nat.mod_eq_of_lt (by omega)], ?_, by omega, ?_⟩
          · rw [lebN_small (by omega), UInt8.ofNat_toNat]; rfl
          · have : 1 ≤ 128 ^ f := Nat.one_le_pow _ _ (by omega)
            rw [Nat.pow_succ]; omega
/-- a number that was laid is read -/
theorem num_laid (n : Nat) (r : List UInt8) (hn : n ≤ 9223372036854775807) : numR ⟨(lebN n ++ r).toArray⟩ 0 = (n, ⟨r.toArray⟩, 0) := by
  unfold numR
  rw [if_neg (by simp)]
  have h := rd_leb 9 n 0 0 r (by omega) (by omega) (.inr rfl)
  show ((rd 9 (lebN n ++ r) 0 0).1, (⟨(rd 9 (lebN n ++ r) 0 0).2.1.toArray⟩ : ByteArray), (rd 9 (lebN n ++ r) 0 0).2.2) = _
  rw [h]
  simp
/-- a number that is read stands there as it would be laid -/
theorem num_one (s : ByteArray) (h : (numR s 0).2.2 = 0) : s.data.toList = lebN (numR s 0).1 ++ (numR s 0).2.1.data.toList ∧ (numR s 0).1 ≤ 9223372036854775807 := by
  unfold numR at h ⊢
  rw [if_neg (by simp)] at h ⊢
  obtain ⟨v, r, e, hr⟩ : ∃ v r e, rd 9 s.data.toList 0 0 = (v, r, e) := ⟨_, _, _, rfl⟩
  rw [hr] at h ⊢
  have h : e = 0 := h
  subst h
  obtain ⟨n, hv, hL, _, hn⟩ := rd_one 9 _ 0 0 v r hr
  have hvn : v = n := by simpa using hv
  subst hvn
  exact ⟨hL, by show v ≤ 9223372036854775807; omega⟩
theorem take_laid (a r : List UInt8) : takeR ⟨(a ++ r).toArray⟩ 0 a.length = (⟨a.toArray⟩, ⟨r.toArray⟩, 0) := by
  have hsz : (⟨(a ++ r).toArray⟩ : ByteArray).size = a.length + r.length := by
    show (a ++ r).toArray.size = _
    simp
  have h1 : (⟨(a ++ r).toArray⟩ : ByteArray).extract 0 a.length = ⟨a.toArray⟩ := by
    apply ByteArray.ext
    apply Array.ext'
    rw [ByteArray.data_extract, Array.toList_extract, List.extract_eq_take_drop]
    simp
  have h2 : (⟨(a ++ r).toArray⟩ : ByteArray).extract a.length (⟨(a ++ r).toArray⟩ : ByteArray).size = ⟨r.toArray⟩ := by
    apply ByteArray.ext
    apply Array.ext'
    rw [hsz, ByteArray.data_extract, Array.toList_extract, List.extract_eq_take_drop]
    simp
  unfold takeR
  rw [if_neg (by simp), if_neg (by rw [hsz]; omega), h1, h2]
/-- a text that was laid is read -/
theorem txt_laid (a r : List UInt8) (hn : a.length ≤ 9223372036854775807) : txtR ⟨(lebN a.length ++ (a ++ r)).toArray⟩ 0 = (⟨a.toArray⟩, ⟨r.toArray⟩, 0) := by
  unfold txtR
  rw [num_laid a.length (a ++ r) hn]
  exact take_laid a r
end Go.Proofs.YtjjejkhekmpgcaaGreat

namespace Go.Proofs.YtjjejkhekmpgcaaGreat
set_option maxRecDepth 4000
open Go.RowKit

/-- a field's bytes -/
def layF (f : Fld) : List UInt8 := if f.2.2 = true then lebN f.2.1.size ++ f.2.1.data.toList else lebN f.1.toNat
theorem lebN_pos (n : Nat) : 1 ≤ (lebN n).length := by
  rcases Nat.lt_or_ge n 128 with h | h
  · rw [lebN_small h]; simp
  · rw [lebN_big h]; simp
theorem putF_flat (l : List UInt8) (f : Fld) (h : (putF l f.1 f.2.1 f.2.2).length ≤ 65536) : l.length ≤ 65536 ∧ putF l f.1 f.2.1 f.2.2 = l ++ layF f := by
  unfold putF at h ⊢
  unfold layF
  by_cases hl : 65536 < l.length
  · rw [if_pos hl] at h; omega
  · rw [if_neg hl] at h ⊢
    refine ⟨by omega, ?_⟩
    by_cases ht : f.2.2 = true
    · rw [if_pos ht] at h ⊢
      rw [if_pos ht]
      have h1 := lebN_pos f.2.1.size
      have hle : f.2.1.data.toList.length ≤ 65536 := by
        simp only [List.length_append, List.length_take] at h
        omega
      rw [List.take_of_length_le hle, List.append_assoc]
    · rw [if_neg ht, if_neg ht]
theorem layB_flat : ∀ (fs : List Fld) (l : List UInt8), (fs.foldl (fun l f => putF l f.1 f.2.1 f.2.2) l).length ≤ 65536 → l.length ≤ 65536 ∧ fs.foldl (fun l f => putF l f.1 f.2.1 f.2.2) l = l ++ fs.flatMap layF
  | [], l, h => ⟨h, by simp⟩
  | f :: r, l, h => by
    obtain ⟨h1, h2⟩ := layB_flat r (putF l f.1 f.2.1 f.2.2) h
    obtain ⟨h3, h4⟩ := putF_flat l f h1
    refine ⟨h3, ?_⟩
    show r.foldl _ (putF l f.1 f.2.1 f.2.2) = _
    rw [h2, h4, List.flatMap_cons, List.append_assoc]
theorem lay_ok (fs : List Fld) (h : (lay fs).2 = 0) : (lay fs).1 = ⟨(fs.flatMap layF).toArray⟩ ∧ fs.any badF = false := by
  unfold lay at h ⊢
  by_cases hb : fs.any badF = true
  · rw [if_pos hb] at h; simp at h
  · rw [if_neg hb] at h ⊢
    by_cases hl : 65536 < (layB fs).length
    · rw [if_pos hl] at h; simp at h
    · rw [if_neg hl]
      have := (layB_flat fs [] (by show (layB fs).length ≤ _; omega)).2
      rw [List.nil_append] at this
      exact ⟨by show (⟨(layB fs).toArray⟩ : ByteArray) = _; unfold layB; rw [this], by simpa using hb⟩
theorem back_txt (f : Fld) (rest : List UInt8) (ht : f.2.2 = true) (hs : f.2.1.size ≤ 9223372036854775807) : txtR ⟨(layF f ++ rest).toArray⟩ 0 = (f.2.1, ⟨rest.toArray⟩, 0) := by
  unfold layF
  rw [if_pos ht, List.append_assoc]
  exact txt_laid f.2.1.data.toList rest hs
theorem back_num (f : Fld) (rest : List UInt8) (ht : f.2.2 = false) (hb : badF f = false) (hs : f.1 ≤ 9223372036854775807) : ∃ n : Nat, numR ⟨(layF f ++ rest).toArray⟩ 0 = (n, ⟨rest.toArray⟩, 0) ∧ f.1 = (n : Int) := by
  have h0 : 0 ≤ f.1 := by
    unfold badF at hb
    rw [ht] at hb
    simpa using hb
  refine ⟨f.1.toNat, ?_, by omega⟩
  unfold layF
  rw [if_neg (by rw [ht]; simp)]
  exact num_laid f.1.toNat rest (by omega)
end Go.Proofs.YtjjejkhekmpgcaaGreat

namespace Go.Proofs.YtjjejkhekmpgcaaGreat
set_option maxRecDepth 4000
open Go.RowKit

/-- a text of one fresh byte -/
theorem str_one (W : World) (k : Int) (x : UInt8) (hx : k = (x.toNat : Int)) : (convert 127 9 (.slice (some ⟨W.heap.size, 0, none⟩) 1 1)).run Tryz.prog (W.alloc (.cells #[.int .u8 k] 5)) = .ok (.string ⟨#[x]⟩) (W.alloc (.cells #[.int .u8 k] 5)) := by
  subst hx
  exact run_string_own (P := Tryz.prog) _ 127 5 Tryz.underlying127 Tryz.underlying5 W.heap.size _ 1 [x] (World.ownsRow_lit W #[.int .u8 x.toNat] 1 (Nat.le_refl _) (by unfold maxLen; omega) rfl) 9 Tryz.underlying9
theorem str_add (l m : List UInt8) : (⟨l.toArray⟩ : ByteArray) ++ ⟨m.toArray⟩ = ⟨(l ++ m).toArray⟩ := by
  apply ByteArray.ext
  apply Array.ext'
  rw [ByteArray.data_append]
  simp

set_option maxHeartbeats 1000000 in
theorem rnumber_walk (n : Nat) (w : World) (hn : n ≤ 9223372036854775807) :
    Calls Tryz.prog 70 #[.int .i64 n] w fun r w' => r = .returned (.string ⟨(lebN n).toArray⟩) ∧ Below w.heap.size w w' := by
  go_enter Tryz.func70, Tryz.ntmps70
  go_wp2_with fail
  go_loopg [0, 3] n (fun gk vn vo wr => ∃ l, vn = .int .i64 (gk : Nat) ∧ gk ≤ n ∧ vo = .string ⟨l.toArray⟩ ∧ l ++ lebN gk = lebN n ∧ Below w.heap.size w wr)
  case atStart => exact ⟨[], rfl, Nat.le_refl _, rfl, rfl, Below.refl _ _⟩
  case round =>
    obtain ⟨l, rfl, hle, rfl, hl, hb⟩ := hrel
    have HL := Lib.hid hl; have HB := Lib.hid hb
    clear hl hb
    obtain ⟨o, ho⟩ : ∃ o : ByteArray, o = ⟨l.toArray⟩ := ⟨_, rfl⟩
    have hos : o.size = l.length := by rw [ho]; exact List.size_toArray
    have hl9 : l.length ≤ 9 := by
      have h1 := lebN_nine n hn
      rw [← HL.out, List.length_append] at h1
      omega
    rw [← ho]
    have HO := Lib.hid ho; have HOS := Lib.hid hos; have HL9 := Lib.hid hl9
    clear ho hos hl9
    by_cases hbig : (127 : Int) < (gk : Int)
    · have hx : (gk : Int) % 128 + 128 = ((UInt8.ofNat (gk % 128 + 128)).toNat : Int) := by
        rw [UInt8.toNat_ofNat', Nat.mod_eq_of_lt (by omega)]
        omega
      have hrun := str_one wr _ _ hx
      have HBG := Lib.hid hbig; have HRUN := Lib.hid hrun
      obtain ⟨x, hxx⟩ : ∃ x : ByteArray, x = ⟨#[UInt8.ofNat (gk % 128 + 128)]⟩ := ⟨_, rfl⟩
      have HXX := Lib.hid hxx
      have hxs : x.size = 1 := by rw [hxx]; rfl
      have hsum : o.size + x.size ≤ 9223372036854775807 := by have h1 := HOS.out; have h2 := HL9.out; omega
      have hB2 := HB.out.alloc HB.out.size (.cells #[.int .u8 ((gk : Int) % 128 + 128)] 5)
      have H2 := Lib.hid hB2
      clear hx hrun hxx hB2 hxs
      go_wp2_with fail
      rw [HRUN.out, ← HXX.out]
      go_wp2_with fail
      go_roundg (gk / 128)
      case measure => have := HBG.out; omega
      case rel =>
        refine ⟨l ++ [UInt8.ofNat (gk % 128 + 128)], congrArg (Value.int .i64) (by omega), by omega, ?_, ?_, H2.out⟩
        · rw [HO.out, HXX.out]
          exact congrArg Value.string (str_add l [UInt8.ofNat (gk % 128 + 128)])
        · rw [← HL.out, lebN_big (n := gk) (by have := HBG.out; omega), List.append_assoc]
          rfl
    · have hsm : lebN gk = [UInt8.ofNat gk] := lebN_small (by omega)
      have hx : (gk : Int) = ((UInt8.ofNat gk).toNat : Int) := by
        rw [UInt8.toNat_ofNat', Nat.mod_eq_of_lt (by omega)]
      have hrun := str_one wr _ _ hx
      have HSM := Lib.hid hsm; have HRUN := Lib.hid hrun
      obtain ⟨x, hxx⟩ : ∃ x : ByteArray, x = ⟨#[UInt8.ofNat gk]⟩ := ⟨_, rfl⟩
      have HXX := Lib.hid hxx
      have hxs : x.size = 1 := by rw [hxx]; rfl
      have hsum : o.size + x.size ≤ 9223372036854775807 := by have h1 := HOS.out; have h2 := HL9.out; omega
      have hB2 := HB.out.alloc HB.out.size (.cells #[.int .u8 (gk : Int)] 5)
      have H2 := Lib.hid hB2
      clear hsm hx hrun hxx hB2 hxs
      go_wp2_with fail
      rw [HRUN.out, ← HXX.out]
      go_wp2_with fail
      go_ret
      refine ⟨?_, H2.out⟩
      rw [← HL.out, HSM.out, HO.out, HXX.out]
      exact congrArg (fun b => Ending.returned (Value.string b)) (str_add l [UInt8.ofNat gk])

theorem rtext_walk (s : ByteArray) (w : World) (hs : s.size ≤ 131072) :
    Calls Tryz.prog 41 #[.string s] w fun r w' => r = .returned (.string (⟨(lebN s.size).toArray⟩ ++ s)) ∧ Below w.heap.size w w' := by
  go_enter Tryz.func41, Tryz.ntmps41
  go_wp2_with fail
  refine (rnumber_walk s.size _ (by omega)).mono ?_
  rintro r w1 ⟨rfl, hb1⟩
  obtain ⟨t, ht⟩ : ∃ t : ByteArray, t = ⟨(lebN s.size).toArray⟩ := ⟨_, rfl⟩
  have hts : t.size = (lebN s.size).length := by rw [ht]; exact List.size_toArray
  have h9 := lebN_nine s.size (by omega)
  have hsum : t.size + s.size ≤ 9223372036854775807 := by omega
  rw [← ht]
  have HT := Lib.hid ht; have HB := Lib.hid hb1
  clear hts h9 hs
  clear ht hb1
  go_wp2_with fail
  go_ret
  rw [HT.out]
  exact ⟨rfl, HB.out⟩
end Go.Proofs.YtjjejkhekmpgcaaGreat
