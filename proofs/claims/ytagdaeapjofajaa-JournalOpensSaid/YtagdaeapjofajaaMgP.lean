/-
  Layer 5: what the law takes a sector for, as a head; the errors of records.
  Layer 5: which head holds.
  Layer 5: which head holds: the walk.
-/
import Derived.Test.YtagdaeapjofajaaMgN
import Derived.Test.YtagdaeapjofajaaMgD
namespace Go.Proofs.Ytagdaeapjofajaa
set_option maxRecDepth 4000
open Go.RowKit

theorem rd_err : ∀ (f : Nat) (L : List UInt8) (i acc : Nat), (rd f L i acc).2.2 ≠ 8
  | 0, L, i, acc => by simp [rd]
  | f + 1, [], i, acc => by simp [rd]
  | f + 1, c :: r, i, acc => by
    unfold rd
    split
    · exact rd_err f r _ _
    · split
      · simp
      · simp
theorem firstR_err (s : ByteArray) : (firstR s).2.2 ≠ 8 := by
  have ht : (txtR s 0).2.2 ≠ 8 := by
    unfold txtR takeR
    have hn : (numR s 0).2.2 ≠ 8 := by
      unfold numR
      rw [if_neg (by simp)]
      exact rd_err _ _ _ _
    split
    · exact hn
    · split
      · simp
      · simp
  have hc : ∀ t u : ByteArray, crcCheck t u ≠ 8 := fun t u => by
    unfold crcCheck
    split
    · simp
    · split
      · simp
      · simp
  obtain ⟨c, hcx⟩ : ∃ c, c = crcCheck (txtR s 0).1 ((txtR s 0).2.1.extract 0 (min 4 (txtR s 0).2.1.size)) := ⟨_, rfl⟩
  have hc8 : c ≠ 8 := by rw [hcx]; exact hc _ _
  obtain ⟨e, he⟩ : ∃ e, e = (txtR s 0).2.2 := ⟨_, rfl⟩
  rw [← he] at ht
  unfold firstR
  rw [← hcx, ← he]
  by_cases h1 : e ≠ 0
  · rw [if_pos h1]; exact ht
  · rw [if_neg h1]
    by_cases h2 : c ≠ 0
    · rw [if_pos h2]; exact hc8
    · rw [if_neg h2]; show (0 : Int) ≠ 8; omega
theorem rdAll_err : ∀ (f : Nat) (s : ByteArray) (acc : List ByteArray), (rdAll f s acc).2 ≠ 8
  | 0, _, _ => by show (99 : Int) ≠ 8; omega
  | f + 1, s, acc => by
    unfold rdAll
    by_cases h1 : s.size = 0
    · rw [if_pos h1]; show (0 : Int) ≠ 8; omega
    · rw [if_neg h1]
      by_cases h2 : (firstR s).2.2 ≠ 0
      · rw [if_pos h2]; exact firstR_err s
      · rw [if_neg h2]; exact rdAll_err f _ _
theorem readR_err (s : ByteArray) : (readR s).2 ≠ 8 := rdAll_err _ _ _

/-- what the law's head answers -/
def LHead (x : Sec) (w : World) (r : Ending) (w' : World) : Prop :=
  ∃ a u : Nat, r = .returned (.tuple #[.int .i64 a, .int .i64 u, .bool (headOf x 2).2.1]) ∧ ((headOf x 2).2.1 = true → a = (headOf x 2).1.1 ∧ u = (headOf x 2).1.2.2) ∧ Below w.heap.size w w'
theorem lh_cut (t : ByteArray) (s1 : ByteArray) (a : Nat) (h : numR t 0 = (a, s1, 0)) : s1 = t.extract (readN t s1 0) t.size ∧ readN t s1 0 + s1.size = t.size := by
  refine (read_left t s1 0 (fun _ => ?_)).1 rfl
  have := num_left t (by rw [h])
  rw [h] at this
  exact this
set_option maxHeartbeats 1000000 in
theorem lhead_walk (x : Sec) (hx : x.length = 64) (w : World) : Calls Try.prog 22 #[.string (txt x)] w fun r w' => LHead x w r w' := by
  obtain ⟨s, hs⟩ : ∃ s, s = txt x := ⟨_, rfl⟩
  have hs64 : s.size = 64 := by rw [hs, txt_size, hx]
  have hho : headOf x 2 = if preB s magicB = false then ((0, 0, 0), false, 0) else (((n1 (cutP s magicB)).1, (n2 (cutP s magicB)).1, (n3 (cutP s magicB)).1), hdR s 2, 0) := by rw [hs]; rfl
  obtain ⟨H, hH⟩ : ∃ H, H = headOf x 2 := ⟨_, rfl⟩
  have hpost : ∀ r w', (∃ a u : Nat, r = .returned (.tuple #[.int .i64 a, .int .i64 u, .bool H.2.1]) ∧ (H.2.1 = true → a = H.1.1 ∧ u = H.1.2.2) ∧ Below w.heap.size w w') → LHead x w r w' := fun r w' h => by
    rw [hH] at h
    exact h
  rw [← hH] at hho
  rw [← hs]
  have HP := Lib.hid hpost
  have hpre : preB s magicB = ((s.extract 0 7).toList == magicB.toList) := by
    unfold preB
    rw [decide_eq_true (by rw [magicB_size, hs64]; omega)]
    rfl
  have hs64i : (s.size : Int) = 64 := by omega
  clear hpost hs hx
  cases hpb : preB s magicB with
  | false =>
    rw [hpb, if_pos rfl] at hho
    have hcmp : ((s.extract 0 7).toList == [76, 73, 71, 72, 84, 69, 82]) = false := by
      rw [hpb] at hpre
      have h1 : magicB.toList = [76, 73, 71, 72, 84, 69, 82] := by rw [ByteArray.toList_eq]; rfl
      rw [h1] at hpre
      exact hpre.symm
    have hcmp2 : (ByteArray.mk #[76, 73, 71, 72, 84, 69, 82]).toList = [76, 73, 71, 72, 84, 69, 82] := by rw [ByteArray.toList_eq]
    clear hpre
    go_enter Try.func22, Try.ntmps22
    go_wp2_with fail
    go_ret3
    exact HP.out _ _ ⟨0, 0, by rw [hho]; rfl, (fun h => by rw [hho] at h; simp at h), Below.refl _ _⟩
  | true =>
    rw [hpb, if_neg (by simp)] at hho
    have hcmp : (s.extract 0 7).toList = [76, 73, 71, 72, 84, 69, 82] := by
      rw [hpb] at hpre
      have h1 : magicB.toList = [76, 73, 71, 72, 84, 69, 82] := by rw [ByteArray.toList_eq]; rfl
      rw [h1] at hpre
      simpa using hpre.symm
    have hcmp2 : (ByteArray.mk #[76, 73, 71, 72, 84, 69, 82]).toList = [76, 73, 71, 72, 84, 69, 82] := by rw [ByteArray.toList_eq]
    have hcut : cutP s magicB = s.extract 7 s.size := by unfold cutP; rw [if_pos hpb, magicB_size]
    obtain ⟨t, ht⟩ : ∃ t, t = s.extract 7 s.size := ⟨_, rfl⟩
    have hts : t.size = 57 := by rw [ht, ByteArray.size_extract, hs64]; rfl
    have HT4 := Lib.hid (show t = s.extract 7 64 by rw [ht, hs64])
    rw [hcut, ← ht] at hho
    have hhr : hdR s 2 = ((decide ((n3 t).2.2 = 0) && decide ((n2 t).1 ≤ 1) && decide ((n3 t).1 ≤ 2 * 64)) && preB s ⟨(headB (n1 t).1 (n2 t).1 (n3 t).1).toArray⟩) := by unfold hdR; rw [hcut, ← ht]
    rw [hhr] at hho
    have K1 := first_walk t w (by omega)
    have hok := n3_ok t
    unfold n3 n2 n1 at hho hok
    obtain ⟨a, s1, e1, hn1⟩ : ∃ a s1 e1, numR t 0 = (a, s1, e1) := ⟨_, _, _, rfl⟩
    rw [hn1] at hho K1 hok
    have HTT := Lib.hid ht; have HTS := Lib.hid hts
    clear hpre hcut hhr hpb ht hts
    by_cases he1 : e1 = 0
    · subst he1
      obtain ⟨c1, c2⟩ := lh_cut t s1 a hn1
      obtain ⟨b1, hb1⟩ : ∃ b1, b1 = readN t s1 0 := ⟨_, rfl⟩
      rw [← hb1] at c1 c2
      have hb57 : b1 ≤ 57 := by have := HTS.out; omega
      have hs1e : s.extract (7 + b1) s.size = s1 := by
        rw [c1, HTT.out, ex_ex s 7 b1 (by omega)]
      have K2 := first_walk s1 w (by have := HTS.out; omega)
      replace K1 : Calls Try.prog 45 #[.string t] w fun r w' => r = .returned (.tuple #[.int .i64 a, .int .i64 b1, .int .i64 0]) ∧ w' = w := by rw [hb1]; exact K1
      simp only [] at hho hok
      obtain ⟨b, s2, e2, hn2⟩ : ∃ b s2 e2, numR s1 0 = (b, s2, e2) := ⟨_, _, _, rfl⟩
      rw [hn2] at K2
      simp only [hn2] at hho hok
      have HK1 := Lib.hid K1; have HS1E := Lib.hid hs1e; have HC2 := Lib.hid c2
      have hs1n : s1.size = 57 - b1 := by have := HTS.out; omega
      clear c1 c2 hb1 hn1 K1 hs1e
      by_cases he2 : e2 = 0
      · subst he2
        obtain ⟨d1, d2⟩ := lh_cut s1 s2 b hn2
        obtain ⟨b2, hb2⟩ : ∃ b2, b2 = readN s1 s2 0 := ⟨_, rfl⟩
        rw [← hb2] at d1 d2
        have hb257 : b1 + b2 ≤ 57 := by omega
        have hs2e : s.extract (7 + b1 + b2) s.size = s2 := by
          rw [d1, ← HS1E.out, ex_ex s (7 + b1) b2 (by omega)]
        have K3 := first_walk s2 w (by omega)
        replace K2 : Calls Try.prog 45 #[.string s1] w fun r w' => r = .returned (.tuple #[.int .i64 b, .int .i64 b2, .int .i64 0]) ∧ w' = w := by rw [hb2]; exact K2
        obtain ⟨c, s3, e3, hn3⟩ : ∃ c s3 e3, numR s2 0 = (c, s3, e3) := ⟨_, _, _, rfl⟩
        rw [hn3] at K3
        simp only [hn3] at hho hok
        obtain ⟨b3, hb3⟩ : ∃ b3, b3 = readN s2 s3 e3 := ⟨_, rfl⟩
        replace K3 : Calls Try.prog 45 #[.string s2] w fun r w' => r = .returned (.tuple #[.int .i64 c, .int .i64 b3, .int .i64 e3]) ∧ w' = w := by rw [hb3]; exact K3
        have HK2 := Lib.hid K2; have HK3 := Lib.hid K3; have HS2E := Lib.hid hs2e
        clear d1 d2 hb2 hb3 hn2 hn3 K2 K3 hs2e
        have hi1 : (7 : Int) + (b1 : Int) = ((7 + b1 : Nat) : Int) := by omega
        have hi2 : ((7 + b1 : Nat) : Int) + (b2 : Int) = ((7 + b1 + b2 : Nat) : Int) := by omega
        obtain ⟨p1, hp1⟩ : ∃ p1, p1 = 7 + b1 := ⟨_, rfl⟩
        rw [← hp1] at hi1 hi2 HS1E HS2E
        obtain ⟨p2, hp2⟩ : ∃ p2, p2 = p1 + b2 := ⟨_, rfl⟩
        rw [← hp2] at hi2 HS2E
        have hp1b : p1 ≤ 64 := by omega
        have hp2b : p2 ≤ 64 := by omega
        have hb1i : (b1 : Int) ≤ 64 := by omega
        have hb2i : (b2 : Int) ≤ 64 := by omega
        have hs1x := HS1E.out
        have hs2x := HS2E.out
        rw [hs64] at hs1x hs2x
        have hp2i : (7 : Int) + (b1 : Int) + (b2 : Int) = (p2 : Int) := by omega
        have HO := Lib.hid hho; have HOKK := Lib.hid hok; have HI1 := Lib.hid hi1; have HP2I := Lib.hid hp2i
        clear hho hok hp1 hp2 hb57 hb257 hs1n hp2i
        have hcases : (e3 ≠ 0 ∨ 1 < b ∨ 128 < c) ∨ (e3 = 0 ∧ b ≤ 1 ∧ c ≤ 128) := by omega
        rcases hcases with hbad | ⟨rfl, hb1x, hcx⟩
        · have hf : H.2.1 = false := by
            rw [HO.out]
            show ((decide (e3 = 0) && decide (b ≤ 1) && decide (c ≤ 2 * 64)) && _) = false
            rcases hbad with h | h | h
            · rw [decide_eq_false h]; rfl
            · rw [decide_eq_false (show ¬ b ≤ 1 by omega), Bool.and_false]; rfl
            · rw [decide_eq_false (show ¬ c ≤ 2 * 64 by omega), Bool.and_false]; rfl
          have HF := Lib.hid hf
          clear hf
          have hcase2 : e3 ≠ 0 ∨ (e3 = 0 ∧ (1 : Int) < (b : Int)) ∨ (e3 = 0 ∧ ¬ (1 : Int) < (b : Int) ∧ (128 : Int) < (c : Int)) := by omega
          clear hbad
          rcases hcase2 with he3 | ⟨rfl, hbb⟩ | ⟨rfl, hbb, hcc⟩
          · have hze := beq_no he3
            go_enter Try.func22, Try.ntmps22
            go_wp2_with fail
            rw [← HT4.out]
            refine HK1.out.mono ?_
            rintro r w1 ⟨rfl, rfl⟩
            go_wp2_with fail
            refine HK2.out.mono ?_
            rintro r w2 ⟨rfl, rfl⟩
            go_wp2_with fail
            refine HK3.out.mono ?_
            rintro r w3 ⟨rfl, rfl⟩
            go_wp2_with fail
            go_ret3
            exact HP.out _ _ ⟨0, 0, by rw [HF.out]; rfl, (fun h => by rw [HF.out] at h; simp at h), Below.refl _ _⟩
          · skip
            go_enter Try.func22, Try.ntmps22
            go_wp2_with fail
            rw [← HT4.out]
            refine HK1.out.mono ?_
            rintro r w1 ⟨rfl, rfl⟩
            go_wp2_with fail
            refine HK2.out.mono ?_
            rintro r w2 ⟨rfl, rfl⟩
            go_wp2_with fail
            refine HK3.out.mono ?_
            rintro r w3 ⟨rfl, rfl⟩
            go_wp2_with fail
            go_ret3
            exact HP.out _ _ ⟨0, 0, by rw [HF.out]; rfl, (fun h => by rw [HF.out] at h; simp at h), Below.refl _ _⟩
          · skip
            go_enter Try.func22, Try.ntmps22
            go_wp2_with fail
            rw [← HT4.out]
            refine HK1.out.mono ?_
            rintro r w1 ⟨rfl, rfl⟩
            go_wp2_with fail
            refine HK2.out.mono ?_
            rintro r w2 ⟨rfl, rfl⟩
            go_wp2_with fail
            refine HK3.out.mono ?_
            rintro r w3 ⟨rfl, rfl⟩
            go_wp2_with fail
            go_ret3
            exact HP.out _ _ ⟨0, 0, by rw [HF.out]; rfl, (fun h => by rw [HF.out] at h; simp at h), Below.refl _ _⟩
        · obtain ⟨_, _, ha9, hb9, hc9⟩ := HOKK.out rfl
          obtain ⟨hd, hhd⟩ : ∃ hd : ByteArray, hd = ⟨(headB a b c).toArray⟩ := ⟨_, rfl⟩
          have hhs : hd.size ≤ 64 := by
            have := headB_length a b c ha9 hb9 hc9
            rw [hhd, bytes_len]
            omega
          have KH := fun w => Lib.hid (rhead_walk a b c w ha9 hb9 hc9)
          simp only [← hhd] at KH
          have hHv : H = ((a, b, c), preB s hd, 0) := by
            rw [HO.out, hhd]
            show ((a, b, c), ((decide ((0 : Int) = 0) && decide (b ≤ 1) && decide (c ≤ 2 * 64)) && _), (0 : Int)) = _
            rw [decide_eq_true rfl, decide_eq_true hb1x, decide_eq_true (show c ≤ 2 * 64 by omega)]
            rfl
          have hpv : preB s hd = ((s.extract 0 hd.size).toList == hd.toList) := by
            unfold preB
            rw [decide_eq_true (by rw [hs64]; exact hhs)]
            rfl
          rw [hpv] at hHv
          have HV := Lib.hid hHv
          have hbb : ¬ (1 : Int) < (b : Int) := by omega
          have hcc : ¬ (128 : Int) < (c : Int) := by omega
          have hhsi : (hd.size : Int) ≤ 64 := by omega
          clear hhd hHv hpv HO HOKK hb1x hcx ha9 hb9 hc9
          go_enter Try.func22, Try.ntmps22
          go_wp2_with fail
          rw [← HT4.out]
          refine HK1.out.mono ?_
          rintro r w1 ⟨rfl, rfl⟩
          go_wp2_with fail
          refine HK2.out.mono ?_
          rintro r w2 ⟨rfl, rfl⟩
          go_wp2_with fail
          refine HK3.out.mono ?_
          rintro r w3 ⟨rfl, rfl⟩
          go_wp2_with fail
          refine (KH w3).out.mono ?_
          rintro r w4 ⟨rfl, hb4⟩
          have HB4 := Lib.hid hb4
          clear hb4 KH
          go_upto_region 13 with fail
          refine wp_region_sub (W := w4) (B := w4.heap.size) (by kernel_rfl) (by kernel_rfl) (Below.refl _ _) ?_
          repeat (any_goals (first
            | go_big_quiet_skip
            | go_big_quiet_step (fail)
            | quiet_step (fail)))
          refine wpQuiet_nil ?_
          rintro w9 ⟨x9, rfl⟩
          go_wp2_with fail
          go_ret3
          exact HP.out _ _ ⟨a, c, by rw [HV.out]; rfl, (fun _ => by rw [HV.out]; exact ⟨rfl, rfl⟩), HB4.out.trans (x9.below.mono HB4.out.size)⟩
      · have hf : H.2.1 = false := by
          rw [hho]
          show ((decide ((numR s2 e2).2.2 = 0) && _ && _) && _) = false
          rw [numR_err s2 e2 he2, decide_eq_false he2]
          rfl
        have HF := Lib.hid hf
        have HK2 := Lib.hid K2
        have hi1 : (7 : Int) + (b1 : Int) = ((7 + b1 : Nat) : Int) := by omega
        obtain ⟨p1, hp1⟩ : ∃ p1, p1 = 7 + b1 := ⟨_, rfl⟩
        rw [← hp1] at hi1 HS1E
        have hp1b : p1 ≤ 64 := by omega
        have hb1i : (b1 : Int) ≤ 64 := by omega
        have hs1x := HS1E.out
        rw [hs64] at hs1x
        have hze := beq_no he2
        clear hho hok hf hn2 K2 hp1 hb57 hs1n
        go_enter Try.func22, Try.ntmps22
        go_wp2_with fail
        rw [← HT4.out]
        refine HK1.out.mono ?_
        rintro r w1 ⟨rfl, rfl⟩
        go_wp2_with fail
        refine HK2.out.mono ?_
        rintro r w2 ⟨rfl, rfl⟩
        go_wp2_with fail
        go_ret3
        exact HP.out _ _ ⟨0, 0, by rw [HF.out]; rfl, (fun h => by rw [HF.out] at h; simp at h), Below.refl _ _⟩
    · have hf : H.2.1 = false := by
        rw [hho]
        show ((decide ((numR (numR s1 e1).2.1 (numR s1 e1).2.2).2.2 = 0) && _ && _) && _) = false
        rw [numR_err s1 e1 he1, numR_err s1 e1 he1, decide_eq_false he1]
        rfl
      have HF := Lib.hid hf
      have HK1 := Lib.hid K1
      have hze := beq_no he1
      clear hho hok hf hn1 K1
      go_enter Try.func22, Try.ntmps22
      go_wp2_with fail
      rw [← HT4.out]
      refine HK1.out.mono ?_
      rintro r w1 ⟨rfl, rfl⟩
      go_wp2_with fail
      go_ret3
      exact HP.out _ _ ⟨0, 0, by rw [HF.out]; rfl, (fun h => by rw [HF.out] at h; simp at h), Below.refl _ _⟩
end Go.Proofs.Ytagdaeapjofajaa

namespace Go.Proofs.Ytagdaeapjofajaa
set_option maxRecDepth 4000
open Go.RowKit

theorem z64_fill : fill ⟨#[]⟩ = z64 := rfl
/-- two heads on a fresh disk -/
theorem two_heads (n : Nat) (h4 : 4 ≤ n) (h2 : n ≤ 4096) (a b : ByteArray) (ha : a.size ≤ 64) (hb : b.size ≤ 64) :
    ∃ st1 st2 st3, writeD (freshD n) 0 a = (0, st1) ∧ writeD st1 1 b = (0, st2) ∧ flushD st2 = (0, st3) ∧ Calm st3 n ∧ st3.armed = 0 ∧ lastS st3.S 0 = fill a ∧ lastS st3.S 1 = fill b ∧ pendMax st1.S 1 ∧ pendMax st2.S 2 := by
  have hc := fresh_calm n (by omega) h2
  rcases write_cases (freshD n) 0 a hc.up (by rw [hc.len]; omega) ha with ⟨_, _, hx⟩ | ⟨hw, hd, hx⟩
  · exact absurd rfl hx
  replace hx := hx rfl
  obtain ⟨st1, hst1⟩ : ∃ st1, st1 = (⟨pushS (freshD n).S 0 (fill a), (callD (freshD n)).calls, (callD (freshD n)).armed, (callD (freshD n)).down⟩ : Dk) := ⟨_, rfl⟩
  rw [← hst1] at hw
  have hS1 : st1.S = pushS (freshD n).S 0 (fill a) := by rw [hst1]
  have hd1 : st1.down = false := by rw [hst1]; exact hd
  have ha1 : st1.armed = 0 := by rw [hst1]; exact hx
  have hlt0 : 0 < (freshD n).S.length := by rw [hc.len]; omega
  have hl1 : st1.S.length = n := by rw [hS1, show (pushS (freshD n).S 0 (fill a)).length = (freshD n).S.length from putS_length _ _ _, hc.len]
  have ok1 : secOk st1.S := by rw [hS1]; exact secOk_push hc.ok hlt0 (fill_length _ ha)
  have hp0 : pendMax (freshD n).S 0 := calm_pend hc
  have hp1 := pendMax_write hp0 hc.ok (0 : Nat) a
  rw [hw] at hp1
  rcases write_cases st1 1 b hd1 (by rw [hl1]; omega) hb with ⟨_, _, hy⟩ | ⟨hw2, hd2, hy⟩
  · exact absurd ha1 hy
  replace hy := hy ha1
  obtain ⟨st2, hst2⟩ : ∃ st2, st2 = (⟨pushS st1.S 1 (fill b), (callD st1).calls, (callD st1).armed, (callD st1).down⟩ : Dk) := ⟨_, rfl⟩
  rw [← hst2] at hw2
  have hS2 : st2.S = pushS st1.S 1 (fill b) := by rw [hst2]
  have hdn2 : st2.down = false := by rw [hst2]; exact hd2
  have har2 : st2.armed = 0 := by rw [hst2]; exact hy
  have hl2 : st2.S.length = n := by rw [hS2, show (pushS st1.S 1 (fill b)).length = st1.S.length from putS_length _ _ _, hl1]
  have ok2 : secOk st2.S := by rw [hS2]; exact secOk_push ok1 (by rw [hl1]; omega) (fill_length _ hb)
  have hp2 := pendMax_write (n := 1) hp1 ok1 (1 : Nat) b
  rw [hw2] at hp2
  rcases flush_cases st2 hdn2 (by rw [hl2]; omega) ok2 with ⟨_, _, hz⟩ | ⟨g1, g2, g3, g4, g5⟩
  · exact absurd har2 hz
  obtain ⟨c3, hl3⟩ := calm_flush st2 n hl2 g3 g2 ok2 g4
  have e20 : st2.S.getD 0 [] = st1.S.getD 0 [] := by rw [hS2, getD_push (by rw [hl1]; omega), if_neg (by omega)]
  have e21 : st2.S.getD 1 [] = st1.S.getD 1 [] ++ [fill b] := by rw [hS2, getD_push (by rw [hl1]; omega), if_pos rfl]
  have e10 : st1.S.getD 0 [] = (freshD n).S.getD 0 [] ++ [fill a] := by rw [hS1, getD_push hlt0, if_pos rfl]
  refine ⟨st1, st2, _, hw, hw2, Prod.ext g1 rfl, c3, g5 har2, ?_, ?_, hp1, hp2⟩
  · rw [hl3 0 (by omega)]
    unfold lastS
    rw [e20, e10, List.getLastD_concat]
  · rw [hl3 1 (by omega)]
    unfold lastS
    rw [e21, List.getLastD_concat]
/-- which head holds: plain -/
theorem holdN_next (st : Dk) (k : Nat) : holdN st (k + 1) = if (readH st (k : Nat)).2.1 = true ∧ ((holdN st k).2 = false ∨ (holdN st k).1.1 < (readH st (k : Nat)).1.1) then ((readH st (k : Nat)).1, true) else holdN st k := rfl
theorem fills_at (w : World) (a b : ByteArray) (t : TypeId) : strsAt (w.alloc (.cells #[.string a, .string b] t)) (some ⟨w.heap.size, 0, none⟩) [a, b] := by
  refine .inr ⟨w.heap.size, 0, rfl, by simp, fun i hi => ?_⟩
  rw [cell_of_row _ w.heap.size (0 + i) _ _ _ (heap_alloc_top w _)]
  match i, hi with
  | 0, _ => rfl
  | 1, _ => rfl
  | i + 2, hi => exact absurd hi (by simp)
theorem x_at (w : World) (t : TypeId) : strsAt (w.alloc (.cells #[.string ⟨#[120]⟩] t)) (some ⟨w.heap.size, 0, none⟩) [⟨#[120]⟩] := by
  refine .inr ⟨w.heap.size, 0, rfl, by simp, fun i hi => ?_⟩
  rw [cell_of_row _ w.heap.size (0 + i) _ _ _ (heap_alloc_top w _)]
  match i, hi with
  | 0, _ => rfl
  | i + 1, hi => exact absurd hi (by simp)
end Go.Proofs.Ytagdaeapjofajaa

namespace Go.Proofs.Ytagdaeapjofajaa
set_option maxRecDepth 4000
open Go.RowKit

theorem beq_no' {e c : Int} (h : e ≠ c) : (e == c) = false := by rw [beq_eq_false_iff_ne]; exact h
theorem append_max (st : Dk) (j : Jn) (l : List ByteArray) (hb : j.broken = false) (hs : j.seq = 9223372036854775807) : appendD st j l = (15, st) ∧ appendJ st j l = j ∧ rewriteD st j l = (15, st) ∧ rewriteJ st j l = j := by
  have hl : ∀ room, laidR j room l = (⟨#[]⟩, 15) := fun room => by unfold laidR; rw [if_neg (by rw [hb]; simp), if_pos hs]
  refine ⟨?_, ?_, ?_, ?_⟩
  · unfold appendD; rw [hl, if_pos (.inl (by simp))]
  · unfold appendJ; rw [hl, if_pos (.inl (by simp))]
  · unfold rewriteD; rw [hl, if_pos (by simp)]
  · unfold rewriteJ; rw [hl, if_pos (by simp)]

set_option maxHeartbeats 4000000 in
theorem journalOpens_walk (a b : ByteArray) (w : World) : Calls Try.prog 4 #[.string a, .string b] w fun r w' => r = .returned (.bool true) ∧ Below w.heap.size w w' := by
  have hcases : (64 : Int) < (a.size : Int) ∨ (¬ (64 : Int) < (a.size : Int) ∧ (64 : Int) < (b.size : Int)) ∨ (¬ (64 : Int) < (a.size : Int) ∧ ¬ (64 : Int) < (b.size : Int)) := by omega
  rcases hcases with hbig | ⟨hsa, hbig⟩ | ⟨hsa, hsb⟩
  · go_enter Try.func4, Try.ntmps4
    go_wp2_with fail
    refine (new_disk 6 w (by omega) (by omega)).mono ?_
    rintro e w1 ⟨p, F, rfl, hb1, hd1, hF1⟩
    have HB1 := Lib.hid hb1
    clear hb1 hd1 hF1
    go_wp2_with fail
    refine (awake5_walk w1).mono ?_
    rintro e w2 ⟨rfl, hb2⟩
    have HB2 := Lib.hid (HB1.out.trans (hb2.mono HB1.out.size))
    clear hb2
    go_wp2_with fail
    refine (awake5_walk w2).mono ?_
    rintro e w3 ⟨rfl, hb3⟩
    have HB3 := Lib.hid (HB2.out.trans (hb3.mono HB2.out.size))
    clear hb3
    go_wp2_with fail
    go_ret
    exact ⟨rfl, HB3.out⟩
  · go_enter Try.func4, Try.ntmps4
    go_wp2_with fail
    refine (new_disk 6 w (by omega) (by omega)).mono ?_
    rintro e w1 ⟨p, F, rfl, hb1, hd1, hF1⟩
    have HB1 := Lib.hid hb1
    clear hb1 hd1 hF1
    go_wp2_with fail
    refine (awake5_walk w1).mono ?_
    rintro e w2 ⟨rfl, hb2⟩
    have HB2 := Lib.hid (HB1.out.trans (hb2.mono HB1.out.size))
    clear hb2
    go_wp2_with fail
    refine (awake5_walk w2).mono ?_
    rintro e w3 ⟨rfl, hb3⟩
    have HB3 := Lib.hid (HB2.out.trans (hb3.mono HB2.out.size))
    clear hb3
    go_wp2_with fail
    go_ret
    exact ⟨rfl, HB3.out⟩
  · have ha64 : a.size ≤ 64 := by omega
    have hb64 : b.size ≤ 64 := by omega
    obtain ⟨st1, st2, st3, e1, e2, e3, hc3, ha3, hl0, hl1, hp1, hp2⟩ := two_heads 6 (by omega) (by omega) a b ha64 hb64
    have HE1 := Lib.hid e1; have HE2 := Lib.hid e2; have HE3 := Lib.hid e3; have HC := Lib.hid hc3; have HL0 := Lib.hid hl0; have HL1 := Lib.hid hl1; have HP1 := Lib.hid hp1; have HP2 := Lib.hid hp2
    have HA64 := Lib.hid ha64; have HB64 := Lib.hid hb64
    have hr : ∀ k : Nat, k < 2 → readH st3 (k : Nat) = headOf (lastS st3.S k) 2 := fun k hk => by
      have := readH_val (st := st3) (i := k) (by rw [hc3.len]; omega) hc3.up
      rw [hc3.len] at this
      exact this
    have HR := Lib.hid hr
    clear e1 e2 e3 hc3 ha3 hl0 hl1 hp1 hp2 ha64 hb64 hr
    go_enter Try.func4, Try.ntmps4
    go_wp2_with fail
    refine (new_disk 6 w (by omega) (by omega)).mono ?_
    rintro e w1 ⟨p, F, rfl, hb1, hd1, hF1⟩
    have HB1 := Lib.hid hb1; have HD1 := Lib.hid hd1; have HF1 := Lib.hid hF1
    clear hb1 hd1 hF1
    go_wp2_with fail
    refine (awake5_walk w1).mono ?_
    rintro e w2 ⟨rfl, hb2⟩
    have HB2 := Lib.hid (HB1.out.trans (hb2.mono HB1.out.size))
    have KW := Lib.hid (write_walk p F (freshD 6) 0 a w2 (HD1.out.below hb2) (by have := pendMax_new 6 (0 : Int).toNat; exact Nat.le_trans this (by omega)))
    rw [show writeD (freshD 6) 0 a = (0, st1) from HE1.out] at KW
    clear hb2 HB1 HD1
    go_wp2_with fail
    refine KW.out.mono ?_
    rintro e w3 ⟨rfl, F3, hd3, hs3⟩
    obtain ⟨hb3, hF3⟩ := hs3.below HB2.out HB2.out.size HF1.out
    have HB3 := Lib.hid (And.intro hb3 hF3)
    have KW2 := Lib.hid (write_walk p F3 st1 1 b w3 hd3 (by have := HP1.out (1 : Int).toNat; omega))
    rw [show writeD st1 1 b = (0, st2) from HE2.out] at KW2
    clear hb3 hF3 hs3 hd3 KW HB2 HF1
    go_wp2_with fail
    refine KW2.out.mono ?_
    rintro e w4 ⟨rfl, F4, hd4, hs4⟩
    obtain ⟨hb4, hF4⟩ := hs4.below HB3.out.1 HB3.out.1.size HB3.out.2
    have HB4 := Lib.hid (And.intro hb4 hF4)
    have KF := Lib.hid (flush_walk p F4 st2 w4 hd4 (fun i => by have := HP2.out i; omega))
    rw [HE3.out] at KF
    clear hb4 hF4 hs4 hd4 KW2 HB3
    go_wp2_with fail
    refine KF.out.mono ?_
    intro e w5 hpost
    have he := hpost.1
    subst he
    obtain ⟨F5, hb5, hd5, hF5⟩ := DiskPost.low HB4.out.1 HB4.out.2 hpost
    have HB5 := Lib.hid (And.intro hb5 (And.intro hd5 hF5))
    clear hb5 hd5 hF5 hpost KF HB4
    have KFA := fun w => Lib.hid (fill_walk a w HA64.out)
    have KFB := fun w => Lib.hid (fill_walk b w HB64.out)
    rw [show fill a = lastS st3.S 0 from HL0.out.symm] at KFA
    rw [show fill b = lastS st3.S 1 from HL1.out.symm] at KFB
    obtain ⟨x0, hx0⟩ : ∃ x0, x0 = txt (lastS st3.S 0) := ⟨_, rfl⟩
    obtain ⟨x1, hx1⟩ : ∃ x1, x1 = txt (lastS st3.S 1) := ⟨_, rfl⟩
    rw [← hx0] at KFA
    rw [← hx1] at KFB
    have HX0 := Lib.hid hx0; have HX1 := Lib.hid hx1
    clear hx0 hx1
    go_wp2_with fail
    refine (KFA w5).out.mono ?_
    rintro e w6 ⟨rfl, hb6⟩
    have HB6 := Lib.hid (And.intro (HB5.out.1.trans (hb6.mono HB5.out.1.size)) (And.intro (HB5.out.2.1.below hb6) HB5.out.2.2))
    clear hb6 HB5
    go_wp2_with fail
    refine (KFB w6).out.mono ?_
    rintro e w7 ⟨rfl, hb7⟩
    have HB7 := Lib.hid (And.intro (HB6.out.1.trans (hb7.mono HB6.out.1.size)) (And.intro (HB6.out.2.1.below hb7) HB6.out.2.2))
    clear hb7 HB6 KFA KFB
    go_upto_region 8 with fail
    have hat := fills_at w7 x0 x1 9
    have hb8 := (Below.refl w7.heap.size w7).alloc (Nat.le_refl _) (.cells #[.string x0, .string x1] 9)
    obtain ⟨bl, hbl⟩ : ∃ bl, bl = w7.heap.size := ⟨_, rfl⟩
    rw [← hbl] at hat ⊢
    generalize w7.alloc (.cells #[.string x0, .string x1] 9) = w8 at hat hb8 ⊢
    have HB8 := Lib.hid (And.intro (HB7.out.1.trans (hb8.mono HB7.out.1.size)) (And.intro (HB7.out.2.1.below hb8) HB7.out.2.2))
    have HAT := Lib.hid hat
    clear hb8 hat hbl HB7
    go_wp2_with fail
    go_loopg [7, 8, 10, 11] 2 (fun gk vb vu vf vi wr => ∃ k : Nat, k + gk = 2 ∧ vi = .int .i64 k ∧ vb = .int .i64 (holdN st3 k).1.1 ∧ vu = .int .i64 (holdN st3 k).1.2.2 ∧ vf = .bool (holdN st3 k).2 ∧ Below w8.heap.size w8 wr)
    case atStart => exact ⟨0, by omega, rfl, rfl, rfl, rfl, Below.refl _ _⟩
    case round =>
      obtain ⟨k, hgk, rfl, rfl, rfl, rfl, hb⟩ := hrel
      have HGK := Lib.hid hgk; have HB := Lib.hid hb
      clear hgk hb
      by_cases hlt : k < 2
      · have hlti : (k : Int) < 2 := by omega
        have hnx := holdN_next st3 k
        rw [HR.out k hlt] at hnx
        have KH := fun w => Lib.hid (lhead_walk (lastS st3.S k) (last_len (by rw [HC.out.len]; omega) HC.out.ok) w)
        obtain ⟨x, hx⟩ : ∃ x, x = txt (lastS st3.S k) := ⟨_, rfl⟩
        simp only [← hx] at KH
        rcases strsAt_below HAT.out (Nat.le_refl _) HB.out with hat | ⟨bl2, off, hbe, hbl, hcs⟩
        · cases hat
        simp only [Option.some.injEq, Addr.mk.injEq, and_true] at hbe
        obtain ⟨rfl, rfl⟩ := hbe
        have hc := hcs k (by simpa using hlt)
        have hck : [x0, x1][k]'(by simpa using hlt) = x := by
          have : k = 0 ∨ k = 1 := by omega
          rcases this with rfl | rfl
          · rw [hx]; exact HX0.out
          · rw [hx]; exact HX1.out
        rw [hck, Nat.zero_add] at hc
        obtain ⟨H, hH⟩ : ∃ H, H = headOf (lastS st3.S k) 2 := ⟨_, rfl⟩
        rw [← hH] at hnx
        obtain ⟨⟨ha, hbb, hcc⟩, hr, hee⟩ := H
        obtain ⟨⟨⟨qa, qb, qc⟩, fd⟩, hq⟩ : ∃ q, q = holdN st3 k := ⟨_, rfl⟩
        rw [← hq] at hnx ⊢
        have HNX := Lib.hid hnx; have HH := Lib.hid hH
        clear hnx hx hck hcs hbl hH hq
        go_wp2_with fail
        refine (KH wr).out.mono ?_
        rintro e w9 ⟨va, vu, rfl, hvv, hb9⟩
        rw [← HH.out] at hvv ⊢
        replace hvv : hr = true → va = ha ∧ vu = hcc := hvv
        have HB9 := Lib.hid (HB.out.trans (hb9.mono HB.out.size))
        have HVV := Lib.hid hvv
        clear hb9 hvv KH HB
        have hcases : hr = false ∨ (hr = true ∧ fd = true ∧ ¬ (qa : Int) < (va : Int)) ∨ (hr = true ∧ fd = false) ∨ (hr = true ∧ fd = true ∧ (qa : Int) < (va : Int)) := by
          cases hr
          · exact .inl rfl
          · cases fd
            · exact .inr (.inr (.inl ⟨rfl, rfl⟩))
            · by_cases hx : (qa : Int) < (va : Int)
              · exact .inr (.inr (.inr ⟨rfl, rfl, hx⟩))
              · exact .inr (.inl ⟨rfl, rfl, hx⟩)
        rcases hcases with rfl | ⟨rfl, rfl, hx⟩ | ⟨rfl, rfl⟩ | ⟨rfl, rfl, hx⟩
        · have hN2 : holdN st3 (k + 1) = ((qa, qb, qc), fd) := by rw [HNX.out, if_neg (by simp)]
          have HN2 := Lib.hid hN2
          clear hN2
          go_wp2_with fail
          go_roundg (gk - 1)
          case measure => have := HGK.out; omega
          case rel => exact ⟨k + 1, by have := HGK.out; omega, by go_num, by rw [HN2.out], by rw [HN2.out], by rw [HN2.out], HB9.out⟩
        · have hva := (HVV.out rfl).1
          have hN2 : holdN st3 (k + 1) = ((qa, qb, qc), true) := by rw [HNX.out, if_neg (by simp; omega)]
          have HN2 := Lib.hid hN2
          clear hN2 hva
          go_wp2_with fail
          go_roundg (gk - 1)
          case measure => have := HGK.out; omega
          case rel => exact ⟨k + 1, by have := HGK.out; omega, by go_num, by rw [HN2.out], by rw [HN2.out], by rw [HN2.out], HB9.out⟩
        · have hva := HVV.out rfl
          have hN2 : holdN st3 (k + 1) = ((ha, hbb, hcc), true) := by
            rw [HNX.out, if_pos (by simp at *; first | done | omega)]
          have HN2 := Lib.hid hN2; have HVA := Lib.hid hva
          clear hN2 hva
          go_wp2_with fail
          go_roundg (gk - 1)
          case measure => have := HGK.out; omega
          case rel => exact ⟨k + 1, by have := HGK.out; omega, by go_num, by rw [HN2.out, HVA.out.1], by rw [HN2.out, HVA.out.2], by rw [HN2.out], HB9.out⟩
        · have hva := HVV.out rfl
          have hN2 : holdN st3 (k + 1) = ((ha, hbb, hcc), true) := by
            rw [HNX.out, if_pos (by simp at *; first | done | omega)]
          have HN2 := Lib.hid hN2; have HVA := Lib.hid hva
          clear hN2 hva
          go_wp2_with fail
          go_roundg (gk - 1)
          case measure => have := HGK.out; omega
          case rel => exact ⟨k + 1, by have := HGK.out; omega, by go_num, by rw [HN2.out, HVA.out.1], by rw [HN2.out, HVA.out.2], by rw [HN2.out], HB9.out⟩
      · obtain rfl : k = 2 := by have := HGK.out; omega
        have hB : Below w.heap.size w wr := HB8.out.1.trans (HB.out.mono HB8.out.1.size)
        have hdk := HB8.out.2.1.below HB.out
        have hnl := HB8.out.2.2
        have hend := holdsR_end (st := st3) (fun j hj => by rw [HR.out j hj]; exact headOf_err _ _)
        have hok := holdsR_ok st3
        have hlen4 : 4 ≤ st3.S.length := by rw [HC.out.len]; omega
        have hpm := calm_pend HC.out
        have HBB := Lib.hid hB; have HDK := Lib.hid hdk; have HEND := Lib.hid hend; have HOKH := Lib.hid hok; have HL4 := Lib.hid hlen4; have HPM := Lib.hid hpm
        clear hB hdk hnl hend hok hlen4 hpm HB HAT HX0 HX1
        cases hfd : (holdN st3 2).2 with
        | false =>
          have h8 : (holdsR st3).2 = 8 := by rw [HEND.out, if_pos hfd]
          have KO := Lib.hid (open_holds p F5 st3 wr HDK.out HL4.out (by rw [h8]; simp))
          rw [h8] at KO
          clear h8 hfd
          go_wp2_with fail
          refine KO.out.mono ?_
          rintro e w10 ⟨rfl, hb10⟩
          have HB10 := Lib.hid (HBB.out.trans (hb10.mono HBB.out.size))
          clear hb10 KO
          go_wp2_with fail
          go_ret
          exact ⟨rfl, HB10.out⟩
        | true =>
          have hhr : holdsR st3 = ((holdN st3 2).1, 0) := by rw [HEND.out, if_neg (by rw [hfd]; simp)]
          obtain ⟨⟨⟨qa, qb, qc⟩, fd⟩, hq⟩ : ∃ q, q = holdN st3 2 := ⟨_, rfl⟩
          rw [← hq] at hhr hfd ⊢
          replace hhr : holdsR st3 = ((qa, qb, qc), 0) := hhr
          replace hfd : fd = true := hfd
          subst hfd
          have hokh := HOKH.out (by rw [hhr])
          rw [hhr] at hokh
          obtain ⟨_, hqa, hqb, hqc⟩ := hokh
          replace hqa : qa ≤ 9223372036854775807 := hqa
          replace hqb : qb ≤ 1 := hqb
          obtain ⟨hrbs, hqc2⟩ := recB_size st3 HC.out.ok HL4.out (by rw [hhr])
          rw [hhr] at hrbs hqc2
          replace hrbs : (recB st3).size = qc := hrbs
          replace hqc2 : qc ≤ 262144 := hqc2
          have hoj : openJ st3 = ⟨qa, qb, qc, (recB st3).extract (qc - qc % 64) (recB st3).size, false⟩ := by unfold openJ; rw [hhr]
          have hjok : JnOk st3 (openJ st3) := by
            rw [hoj]
            refine ⟨hqb, hqc2, ?_, hqa⟩
            show ((recB st3).extract (qc - qc % 64) (recB st3).size).size = qc % 64
            rw [ByteArray.size_extract, hrbs]
            omega
          have hrerr := readR_err (recB st3)
          have hr0 : qc = 0 → (readR (recB st3)).2 = 0 := fun h => by
            have : recB st3 = ⟨#[]⟩ := empty_of _ (by rw [hrbs, h])
            rw [this]
            rfl
          have KG := fun h => Lib.hid (open_good p F5 st3 wr HDK.out HL4.out (by rw [hhr]) h)
          have KB := fun h => Lib.hid (open_frame p F5 st3 wr HDK.out HL4.out (by rw [hhr]) h)
          obtain ⟨rl, re, hre⟩ : ∃ rl re, readR (recB st3) = (rl, re) := ⟨_, _, rfl⟩
          rw [hre] at KG KB hrerr hr0
          replace hrerr : re ≠ 8 := hrerr
          replace hr0 : qc = 0 → re = 0 := hr0
          have HJOK := Lib.hid hjok
          have hjq : (openJ st3).seq = qa ∧ (openJ st3).used = qc ∧ (openJ st3).broken = false := by rw [hoj]; exact ⟨rfl, rfl, rfl⟩
          obtain ⟨j, hj⟩ : ∃ j, j = openJ st3 := ⟨_, rfl⟩
          rw [← hj] at KG hjq HJOK
          have HJQ := Lib.hid hjq
          clear hhr hq hrbs hoj hjok hre hqb hqc hqc2 hjq hj
          have hqai : (qa : Int) ≤ 9223372036854775807 := by omega
          by_cases hre0 : re = 0
          · subst hre0
            have KG2 := KG rfl
            clear KG KB hr0 hrerr
            have hcs2 : ((qc : Int) = 0 ∧ (qa : Int) = 9223372036854775807) ∨ ((qc : Int) = 0 ∧ ¬ (qa : Int) = 9223372036854775807) ∨ ¬ (qc : Int) = 0 := by omega
            rcases hcs2 with ⟨hc0, hmx⟩ | ⟨hc0, hmx⟩ | hc0
            · obtain ⟨am1, am2, _, _⟩ := append_max st3 j [⟨#[120]⟩] HJQ.out.2.2 (by rw [HJQ.out.1]; omega)
              obtain ⟨_, _, am3, am4⟩ := append_max st3 j [] HJQ.out.2.2 (by rw [HJQ.out.1]; omega)
              have HAM := Lib.hid (And.intro am1 (And.intro am2 (And.intro am3 am4)))
              clear am1 am2 am3 am4
              go_wp2_with fail
              refine KG2.out.mono ?_
              rintro e w10 ⟨q, ad, cap, rfl, hq10, hj10, hst10, hlc10, hcm10, hb10⟩
              have hL10 : JLaw w w10 p F5 q st3 j := ⟨HBB.out.trans (hb10.mono HBB.out.size), HDK.out.below hb10, HB8.out.2.2, hj10, fun hf => by have := HDK.out.lt q hf; omega, Nat.le_trans HBB.out.size hq10⟩
              have HL10 := Lib.hid hL10
              clear hL10 hj10 hst10 hb10 hq10 KG2 hlc10 hcm10
              go_wp2_with fail
              have hbx : Below w10.heap.size w10 (w10.alloc (.cells #[.string ⟨#[120]⟩] 9)) := (Below.refl _ _).alloc (Nat.le_refl _) _
              have hat := x_at w10 9
              obtain ⟨bx, hbxx⟩ : ∃ bx, bx = w10.heap.size := ⟨_, rfl⟩
              rw [← hbxx] at hat ⊢
              generalize w10.alloc (.cells #[.string ⟨#[120]⟩] 9) = w11 at hbx hat ⊢
              have hL11 := HL10.out.below hbx
              have KA := Lib.hid (append_walk q p F5 st3 j 0 (some ⟨bx, 0, none⟩) 1 [⟨#[120]⟩] w11 hL11.disk hL11.jn hL11.nq HL4.out HJOK.out HPM.out (by omega) hat (by simp) (by intro s hs; rw [List.mem_singleton.1 hs]; show 1 ≤ _; omega))
              rw [HAM.out.1, HAM.out.2.1] at KA
              have HL11 := Lib.hid hL11
              clear hL11 hat hbx hbxx HL10
              refine KA.out.mono ?_
              intro e w12 hpost
              have he := hpost.1
              subst he
              obtain ⟨F12, hL12⟩ := HL11.out.post hpost
              have KR := Lib.hid (rewrite_walk q p F12 st3 j 0 none 0 [] w12 hL12.disk hL12.jn hL12.nq HL4.out HJOK.out HPM.out (by omega) (.inl rfl) (by simp) (by intro s hs; cases hs))
              rw [HAM.out.2.2.1, HAM.out.2.2.2, List.length_nil] at KR
              have HL12 := Lib.hid hL12
              clear hpost hL12 KA HL11
              go_wp2_with fail
              refine KR.out.mono ?_
              intro e w13 hpost
              have he := hpost.1
              subst he
              obtain ⟨F13, hL13⟩ := HL12.out.post hpost
              have HB13 := Lib.hid hL13.low
              clear hpost hL13 KR HL12
              go_wp2_with fail
              go_ret
              exact ⟨rfl, HB13.out⟩
            · have hmx2 : ((qa : Int) == 9223372036854775807) = false := beq_no' hmx
              go_wp2_with fail
              refine KG2.out.mono ?_
              rintro e w10 ⟨q, ad, cap, rfl, hq10, hj10, hst10, hlc10, hcm10, hb10⟩
              have hL10 : JLaw w w10 p F5 q st3 j := ⟨HBB.out.trans (hb10.mono HBB.out.size), HDK.out.below hb10, HB8.out.2.2, hj10, fun hf => by have := HDK.out.lt q hf; omega, Nat.le_trans HBB.out.size hq10⟩
              have HL10 := Lib.hid hL10
              clear hL10 hj10 hst10 hb10 hq10 KG2 hlc10 hcm10
              have KQ := Lib.hid (seq_walk q p j w10 HL10.out.jn)
              have KU := Lib.hid (used_walk q p j w10 HL10.out.jn)
              rw [HJQ.out.1] at KQ
              rw [HJQ.out.2.1] at KU
              go_wp2_with fail
              refine KQ.out.mono ?_
              rintro e w11 ⟨rfl, rfl⟩
              go_wp2_with fail
              refine KU.out.mono ?_
              rintro e w12 ⟨rfl, rfl⟩
              have HB12 := Lib.hid HL10.out.low
              go_wp2_with fail
              go_ret
              exact ⟨rfl, HB12.out⟩
            · have hc02 : ((qc : Int) == 0) = false := beq_no' hc0
              go_wp2_with fail
              refine KG2.out.mono ?_
              rintro e w10 ⟨q, ad, cap, rfl, hq10, hj10, hst10, hlc10, hcm10, hb10⟩
              have hL10 : JLaw w w10 p F5 q st3 j := ⟨HBB.out.trans (hb10.mono HBB.out.size), HDK.out.below hb10, HB8.out.2.2, hj10, fun hf => by have := HDK.out.lt q hf; omega, Nat.le_trans HBB.out.size hq10⟩
              have HL10 := Lib.hid hL10
              clear hL10 hj10 hst10 hb10 hq10 KG2 hlc10 hcm10
              have KQ := Lib.hid (seq_walk q p j w10 HL10.out.jn)
              have KU := Lib.hid (used_walk q p j w10 HL10.out.jn)
              rw [HJQ.out.1] at KQ
              rw [HJQ.out.2.1] at KU
              go_wp2_with fail
              refine KQ.out.mono ?_
              rintro e w11 ⟨rfl, rfl⟩
              go_wp2_with fail
              refine KU.out.mono ?_
              rintro e w12 ⟨rfl, rfl⟩
              have HB12 := Lib.hid HL10.out.low
              go_wp2_with fail
              go_ret
              exact ⟨rfl, HB12.out⟩
          · have hre8 : (re == 8) = false := beq_no' hrerr
            have hre1 : (re == 0) = false := beq_no' hre0
            have hc0 : ¬ (qc : Int) = 0 := fun h => hre0 (hr0 (by omega))
            have hc02 : ((qc : Int) == 0) = false := beq_no' hc0
            have KB2 := KB hre0
            clear KG KB hr0
            go_wp2_with fail
            refine KB2.out.mono ?_
            rintro e w10 ⟨rfl, hb10⟩
            have HB10 := Lib.hid (HBB.out.trans (hb10.mono HBB.out.size))
            clear hb10 KB2
            go_wp2_with fail
            go_ret
            refine ⟨ret_bool ?_, HB10.out⟩
            show (re != 0 && re != 8) = true
            unfold bne
            rw [hre1, hre8]
            rfl
end Go.Proofs.Ytagdaeapjofajaa
