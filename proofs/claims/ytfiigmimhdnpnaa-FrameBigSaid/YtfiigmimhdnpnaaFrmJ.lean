/-
  Layer 4: the walk of FrameBig.
-/
import Derived.Test.YtfiigmimhdnpnaaFrmH
import Derived.OwnWalk
namespace Go.Proofs.Ytfiigmimhdnpnaa
open Go.RowKit

theorem made_zero (n : Nat) : (madeCells #[Value.int .u8 0] n).toList = bv (List.replicate n 0) := by
  unfold madeCells bv
  rw [Array.toList_map, List.map_replicate]
  apply List.ext_getElem
  · simp
  · intro i h1 h2
    simp [Nat.mod_one]

theorem allR_rep (s : ByteArray) : ∀ j, (allR (List.replicate j s)).length = j * ((lebN s.size).length + s.size + 4)
  | 0 => by simp [allR]
  | j + 1 => by
    rw [List.replicate_succ, allR_cons, List.length_append, oneR_length, allR_rep s j, Nat.add_mul, Nat.one_mul, Nat.add_comm]
theorem mul_fit (j k z M : Nat) (hj : j ≤ 3) (hk : k ≤ 131071) (hz : z ≤ 9) (hM : M = j * (z + k + 4)) : wrap64 ((j : Int) * ((k : Int) + 4 + (z : Int))) = (M : Int) ∧ M ≤ 400000 := by
  have hcases : j = 0 ∨ j = 1 ∨ j = 2 ∨ j = 3 := by omega
  rcases hcases with rfl | rfl | rfl | rfl
  all_goals
    subst hM
    refine ⟨?_, by omega⟩
    rw [IntWalk.wrap64_in _ ⟨by omega, by omega⟩]
    omega

set_option maxHeartbeats 2000000 in
theorem frameBig_walk (n more : Nat) (w : World) (hn : n ≤ 4294967295) (hm : more ≤ 255) :
    Calls Try.prog 6 #[.int .u32 n, .int .u8 more] w fun r w' => r = .returned (.bool true) ∧ Below w.heap.size w w' := by
  obtain ⟨i0, hi, hz0, hz1, hz2⟩ := info_parts info_u8
  obtain ⟨k, hk⟩ : ∃ k, k = n % 131072 := ⟨_, rfl⟩
  have hk2 : (n : Int) % 131072 = (k : Int) := by omega
  have hk3 : (k : Int) ≤ 131071 := by omega
  have hk4 : k ≤ 131071 := by omega
  have HK4 := Lib.hid hk4
  obtain ⟨m, hmm⟩ : ∃ m, m = more % 3 := ⟨_, rfl⟩
  have hm3 : (more : Int) % 3 = (m : Int) := by omega
  have hm2 : m ≤ 2 := by omega
  have HM3 := Lib.hid hm3; have HM2 := Lib.hid hm2
  have HK2 := Lib.hid hk2
  clear hk hk2 hk4 hmm hm3 hm2
  go_enter Try.func6, Try.ntmps6
  go_upto_region 2 with fail
  rw [HK2.out]
  go_wp2_with (first
    | (refine wpList_make_full _ rfl _ _ 38 rfl w.heap.size 5 i0 (.int .u8 0) 1 Try.underlying38 hi hz0 hz1 .i64 .i64 (k : Int) (k : Int) k rfl rfl rfl rfl (by rw [hz2]; omega) (by unfold maxLen; omega) (Nat.le_refl _) ?_)
    | fail)
  intro w1 hr1 hg1
  rw [made_zero] at hr1
  have hb1 := below_of_grownBy_none hg1
  have HR1 := Lib.hid hr1; have HB1 := Lib.hid hb1
  clear hr1 hg1 hb1
  go_upto_region 3 with (refine wpList_string_own _ rfl _ 38 9 rfl 5 Try.underlying38 Try.underlying5 Try.underlying9 w.heap.size _ k (List.replicate k 0) rfl HR1.out ?_)
  obtain ⟨s, hs⟩ : ∃ s : ByteArray, s = ⟨(List.replicate k (0 : UInt8)).toArray⟩ := ⟨_, rfl⟩
  have hsz : s.size = k := by rw [hs, bytes_len, List.length_replicate]
  have hcoe : (⟨Array.replicate k (0 : UInt8)⟩ : ByteArray) = s := by rw [hs]; simp
  try rw [← hs]
  try rw [hcoe]
  have HSZ := Lib.hid hsz; have HW1 := Lib.hid HB1.out.size
  clear hs hsz hcoe HR1 hk3
  go_wp2_with fail
  go_loopg [7, 8] (m + 1) (fun gk vl i wr => ∃ j : Nat, j + gk = m + 1 ∧ i = .int .i64 (j : Nat) ∧ Row wr w.heap.size vl (List.replicate j s) ∧ Below w.heap.size w wr)
  case atStart => exact ⟨0, by omega, rfl, Row.nil _ _, HB1.out⟩
  case round =>
    obtain ⟨j, hgk, rfl, hrow, hb⟩ := hrel
    have HB := Lib.hid hb; have HRW := Lib.hid hrow; have HGK := Lib.hid hgk
    have HBS := Lib.hid hb.size
    clear hb hrow hgk HB1
    by_cases hlt : (j : Int) ≤ (m : Int)
    · obtain ⟨g, rfl⟩ : ∃ g, gk = g + 1 := ⟨gk - 1, by have := HGK.out; omega⟩
      go_upto_if 22 with fail
      rw [HM3.out]
      have hj2 : (j : Int) ≤ 2 := by have := HM2.out; omega
      go_wp2_with (at_builtin; refine wpList_append_row rfl _ _ rfl w.heap.size _ (List.replicate j s) rfl (World.ownsRow.alloc HRW.out _) _ [s] rfl (src_new s _) ?_ ?_ ?_)
      · simp; omega
      · have := HBS.out; simp; omega
      intro v3 w3 hr3 hg3 hp3
      have hrow1 : Row (wr.alloc (.cells #[.string s] 9)) w.heap.size u7 (List.replicate j s) := World.ownsRow.alloc HRW.out _
      have hb3 := below_of_grown (HB.out.alloc HB.out.size (.cells #[.string s] 9)) hg3 (by have := HBS.out; simp; omega) (fun i hi => (hrow1.lt i hi).1)
      have M1 := Lib.hid hr3; have M2 := Lib.hid hb3
      clear hr3 hg3 hp3 hrow1 hb3
      go_wp2_with fail
      go_roundg g
      case measure => omega
      case rel => exact ⟨j + 1, by have := HGK.out; omega, by go_num, by have := M1.out; rwa [← List.replicate_succ'] at this, M2.out⟩
    · have hj : j = m + 1 := by have := HGK.out; omega
      have hj3 : j ≤ 3 := by have := HM2.out; omega
      obtain ⟨L, hL⟩ : ∃ L, L = List.replicate j s := ⟨_, rfl⟩
      have hLl : L.length = j := by rw [hL, List.length_replicate]
      obtain ⟨z, hz⟩ : ∃ z, z = (lebN k).length := ⟨_, rfl⟩
      have hz9 : z ≤ 9 := by rw [hz]; exact lebN_nine k (by have := HK4.out; omega)
      obtain ⟨M, hM⟩ : ∃ M, M = j * (z + k + 4) := ⟨_, rfl⟩
      have hLM : (allR L).length = M := by rw [hL, allR_rep, HSZ.out, ← hz, hM]
      obtain ⟨hwm, hM4⟩ := mul_fit j k z M hj3 HK4.out hz9 hM
      have hLz : ∀ x ∈ L, x.size ≤ 9223372036854775807 := fun x hx => by
        rw [hL] at hx
        rw [(List.mem_replicate.1 hx).2, HSZ.out]
        have := HK4.out; omega
      have hrow := HRW.out
      rw [← hL] at hrow
      obtain ⟨adl, capl, rfl, hst, hc1, hc2⟩ := hrow.open
      have hfw := fun w' h => flay_walk adl capl L w' h (by rw [hLl]; omega) hLz
      have hsw := fun w' h => size_walk adl capl L w' h (by rw [hLl]; omega) hLz
      rw [hLl] at hfw hsw ⊢
      have HST := Lib.hid hst; have HLM := Lib.hid hLM; have HWM := Lib.hid hwm; have HM4 := Lib.hid hM4; have HFW := Lib.hid hfw; have HSW := Lib.hid hsw; have HZ := Lib.hid hz
      have hk3 : (k : Int) ≤ 131071 := by have := HK4.out; omega
      have hzi : (z : Int) ≤ 9 := by omega
      clear hj hj3 hL hLl hz hz9 hM hLM hwm hM4 hLz hrow hst hc1 hc2 hfw hsw HRW HGK
      go_upto_if 22 with fail
      rw [HM3.out]
      go_wp2_with fail
      refine (rnumber_walk k _ (by have := HK4.out; omega)).mono ?_
      rintro r w2 ⟨rfl, hb2⟩
      obtain ⟨zz, hzz⟩ : ∃ zz : ByteArray, zz = ⟨(lebN k).toArray⟩ := ⟨_, rfl⟩
      have hzs : zz.size = z := by rw [hzz, HZ.out]; exact bytes_len _
      rw [← hzz]
      have HB2 := Lib.hid (HB.out.trans (hb2.mono HB.out.size)); have HST2 := Lib.hid (strsAt_below HST.out (Nat.le_refl _) hb2)
      clear hb2 hzz HB HST
      go_upto_region 9 with fail
      rw [HWM.out]
      clear hk3 hzi hzs
      by_cases hbig : (65536 : Int) < (M : Int)
      · have hfl : flay L = (⟨#[]⟩, 4) := by unfold flay; rw [if_neg (by have := HLM.out; omega)]
        have hsl : sizeR L = 65537 := by unfold sizeR; rw [if_neg (by have := HLM.out; omega)]
        rw [hfl] at HFW
        rw [hsl] at HSW
        clear hfl hsl
        go_wp2_with fail
        refine (HFW.out _ HST2.out).mono ?_
        rintro r w4 ⟨rfl, hb4⟩
        have HB4 := Lib.hid (HB2.out.trans (hb4.mono HB2.out.size)); have HST4 := Lib.hid (strsAt_below HST2.out (Nat.le_refl _) hb4)
        clear hb4 HB2 HST2 HFW
        go_wp2_with fail
        refine (awake_walk _).mono ?_
        rintro r w5 ⟨rfl, hb5⟩
        have HB5 := Lib.hid (HB4.out.trans (hb5.mono HB4.out.size)); have HST5 := Lib.hid (strsAt_below HST4.out (Nat.le_refl _) hb5)
        clear hb5 HB4 HST4
        go_wp2_with fail
        refine (HSW.out _ HST5.out).mono ?_
        rintro r w6 ⟨rfl, hb6⟩
        have HB6 := Lib.hid (HB5.out.trans (hb6.mono HB5.out.size))
        clear hb6 HB5 HST5 HSW
        go_wp2_with fail
        go_ret
        exact ⟨rfl, HB6.out⟩
      · obtain ⟨b, hb⟩ : ∃ b : ByteArray, b = ⟨(allR L).toArray⟩ := ⟨_, rfl⟩
        have hbs : b.size = M := by rw [hb, bytes_len, HLM.out]
        have hfl : flay L = (b, 0) := by unfold flay; rw [if_pos (by have := HLM.out; omega), hb]
        have hsl : sizeR L = M := by unfold sizeR; rw [if_pos (by have := HLM.out; omega), HLM.out]
        rw [hfl] at HFW
        rw [hsl] at HSW
        clear hfl hsl hb
        go_wp2_with fail
        refine (HFW.out _ HST2.out).mono ?_
        rintro r w4 ⟨rfl, hb4⟩
        have HB4 := Lib.hid (HB2.out.trans (hb4.mono HB2.out.size)); have HST4 := Lib.hid (strsAt_below HST2.out (Nat.le_refl _) hb4)
        clear hb4 HB2 HST2 HFW
        go_wp2_with fail
        refine (awake_walk _).mono ?_
        rintro r w5 ⟨rfl, hb5⟩
        have HB5 := Lib.hid (HB4.out.trans (hb5.mono HB4.out.size)); have HST5 := Lib.hid (strsAt_below HST4.out (Nat.le_refl _) hb5)
        clear hb5 HB4 HST4
        go_wp2_with fail
        refine (HSW.out _ HST5.out).mono ?_
        rintro r w6 ⟨rfl, hb6⟩
        have HB6 := Lib.hid (HB5.out.trans (hb6.mono HB5.out.size))
        clear hb6 HB5 HST5 HSW
        go_wp2_with fail
        go_ret
        exact ⟨rfl, HB6.out⟩
end Go.Proofs.Ytfiigmimhdnpnaa
