/-
  Texts in memory; the reference's comparison of texts.
-/
import Derived.Test.YtfiigmimhdnpnaaQuiet
import Derived.Test.YtfiigmimhdnpnaaStrs
namespace Go.Proofs.Ytfiigmimhdnpnaa
open Go.RowKit

theorem texts_eq {a b : ByteArray} (h : a.data = b.data) : a = b := by
  cases a; cases b; simp at h; rw [h]
theorem list_ne_at {α : Type} {l1 l2 : List α} {k : Nat} (h1 : k < l1.length) (h2 : k < l2.length) (h : l1[k] ≠ l2[k]) : l1 ≠ l2 := by
  rintro rfl
  exact h rfl

set_option maxHeartbeats 2000000 in
theorem texts_walk (ad1 ad2 : Option Addr) (cap1 cap2 : Nat) (l1 l2 : List ByteArray) (w : World) (hl1 : strsAt w ad1 l1) (hl2 : strsAt w ad2 l2) (hs1 : l1.length ≤ 9223372036854775807) :
    Calls Try.prog 16 #[.slice ad1 l1.length cap1, .slice ad2 l2.length cap2] w fun e w' => e = .returned (.bool (decide (l1 = l2))) ∧ Below w.heap.size w w' := by
  have HL1 := Lib.hid hl1; have HL2 := Lib.hid hl2
  clear hl1 hl2
  by_cases hlen : l1.length = l2.length
  · have HD := Lib.hid hlen
    obtain ⟨n, hn⟩ : ∃ n, n = l1.length := ⟨_, rfl⟩
    have hn2 : n = l2.length := hn.trans hlen
    have HN := Lib.hid hn; have HN2 := Lib.hid hn2
    rw [← hn2, ← hn]
    rw [← hn] at hs1
    clear hlen hn hn2
    go_enter Try.func16, Try.ntmps16
    go_wp2_with fail
    go_loopw [5] (fun i wr => ∃ k : Nat, k ≤ n ∧ i = .int .i64 k ∧ (∀ j (h1 : j < l1.length) (h2 : j < l2.length), j < k → l1[j] = l2[j]) ∧ Below w.heap.size w wr)
      (fun i _ => n - (intOf i).toNat)
    case atStart => exact ⟨0, by omega, rfl, fun j _ _ h => absurd h (by omega), Below.refl _ _⟩
    case round =>
      obtain ⟨k, hk, rfl, hsame, hB⟩ := hrel
      have HS := Lib.hid hsame; clear hsame
      by_cases hlt : k < n
      · have hk1 : k < l1.length := by rw [← HN.out]; exact hlt
        have hk2 : k < l2.length := by rw [← HN2.out]; exact hlt
        have g1 := strsAt_below HL1.out (Nat.le_refl _) hB
        have g2 := strsAt_below HL2.out (Nat.le_refl _) hB
        rcases g1 with g1 | ⟨b, off, rfl, hbl, hcs⟩
        · simp [g1] at hk1
        rcases g2 with g2 | ⟨c, off2, rfl, hcl, hds⟩
        · simp [g2] at hk2
        have c1 := hcs k hk1
        have d1 := hds k hk2
        obtain ⟨p, hp⟩ : ∃ p, p = l1[k] := ⟨_, rfl⟩
        obtain ⟨r, hr⟩ : ∃ r, r = l2[k] := ⟨_, rfl⟩
        rw [← hp] at c1
        rw [← hr] at d1
        have HP := Lib.hid hp; have HR := Lib.hid hr
        clear hcs hds hp hr
        have hcc := sub_cell c1 hbl
        have hdd := sub_cell d1 hcl
        have HBW := Lib.hid hB
        clear c1 d1 hB
        go_wp2_with fail
        refine wp_region_sub (W := wr) (B := wr.heap.size) (by kernel_rfl) (by kernel_rfl) (Below.refl _ _) ?_
        repeat (any_goals (first
          | go_big_quiet_skip
          | go_big_quiet_step (fail)
          | quiet_step (fail)))
        refine wpQuiet_nil ?_
        rintro w9 ⟨x9, rfl⟩
        have DB := Lib.hid (HBW.out.trans (x9.below.mono HBW.out.size))
        go_wp2_with fail
        · rename_i hx
          go_ret
          refine ⟨ret_bool (Eq.symm (decide_eq_false (list_ne_at hk1 hk2 ?_))), DB.out⟩
          rw [← HP.out, ← HR.out]
          rintro rfl
          simp at hx
        · rename_i hx
          go_roundw
          case rel =>
            refine ⟨k + 1, by omega, by go_num, ?_, DB.out⟩
            intro j h1 h2 hj
            by_cases hjk : j < k
            · exact HS.out j h1 h2 hjk
            · obtain rfl : j = k := by omega
              rw [← HP.out, ← HR.out]
              simp [ByteArray.toList_eq] at hx
              exact texts_eq hx
          case measure => simp [intOf]; omega
      · go_wp2_with fail
        go_ret
        refine ⟨ret_bool (Eq.symm (decide_eq_true ?_)), hB⟩
        exact List.ext_getElem HD.out fun j h1 h2 => HS.out j h1 h2 (by have := HN.out; omega)
  · have hne : decide (l1 = l2) = false := decide_eq_false (by rintro rfl; exact hlen rfl)
    rw [hne]
    go_enter Try.func16, Try.ntmps16
    go_wp2_with fail
    go_ret
    exact ⟨rfl, Below.refl _ _⟩
end Go.Proofs.Ytfiigmimhdnpnaa
