/-
  Layer 1: the walk of LebReads.
-/
import Derived.Test.YtalbilhhpiopiaaLebI
namespace Go.Proofs.Ytalbilhhpiopiaa
open Go.RowKit

/-- these truths lie there -/
def boolsAt (w : World) (ad : Option Addr) (l : List Bool) : Prop :=
  l = [] ∨ ∃ b off, ad = some ⟨b, off, none⟩ ∧ b < w.heap.size ∧ ∀ i (h : i < l.length), w.cell? ⟨b, off + i, none⟩ = some (.bool l[i])
theorem end_zero (s : ByteArray) (at' : Nat) (h : at' ≤ s.size) : endR (s.extract at' s.size) 0 = if at' < s.size then 6 else 0 := by
  unfold endR
  rw [if_neg (by simp), ex_size s at' h]
  by_cases hlt : at' < s.size
  · rw [if_pos hlt, if_pos (by omega)]
  · rw [if_neg hlt, if_neg (by omega)]

set_option maxHeartbeats 4000000 in
set_option maxRecDepth 8000 in
theorem lebReads_walk (s : ByteArray) (ad : Option Addr) (cap : Nat) (l : List Bool) (w : World) (hs : s.size ≤ 9223372036854775807) (hl : boolsAt w ad l) (_hs2 : l.length ≤ 9223372036854775807) :
    Calls Try.prog 4 #[.string s, .slice ad l.length cap] w fun r w' => r = .returned (.bool true) ∧ Below w.heap.size w w' := by
  have HL := Lib.hid hl
  clear hl
  go_enter Try.func4, Try.ntmps4
  go_wp2_with fail
  refine (over_walk s _).mono ?_
  rintro r w1 ⟨rfl, hb1, h1⟩
  obtain ⟨p, hp⟩ : ∃ p, p = w.heap.size := ⟨_, rfl⟩
  rw [← hp] at h1 hb1 ⊢
  have HP := Lib.hid hp; have H1 := Lib.hid h1; have HB1 := Lib.hid hb1
  clear hp h1 hb1
  go_wp2_with fail
  go_loopg [6, 7, 8] l.length (fun gk a e i wr => ∃ (k at' : Nat) (e' : Int) (s' : ByteArray), k + gk = l.length ∧ k ≤ 60 ∧ i = .int .i64 (k : Nat) ∧ a = .int .i64 (at' : Nat) ∧ e = .int .i64 e' ∧ InAt wr p s' e' ∧ at' ≤ s.size ∧ (e' = 0 → s' = s.extract at' s.size) ∧ Below p w wr)
  case atStart => exact ⟨0, 0, 0, s, by omega, by omega, rfl, rfl, rfl, H1.out, by omega, fun _ => ByteArray.extract_zero_size.symm, HB1.out⟩
  case round =>
    obtain ⟨k, at', e, s', hgk, hk60, rfl, rfl, rfl, hin, hat, hext, hb⟩ := hrel
    have HI := Lib.hid hin; have HX := Lib.hid hext; have HB := Lib.hid hb
    clear hin hext hb
    by_cases hgo : k < l.length ∧ k < 60
    · obtain ⟨hkl, hk1⟩ := hgo
      have hk1i : (k : Int) < 60 := by omega
      have HK1 := Lib.hid hk1; have HK6 := Lib.hid hk60
      clear hk1 hk60
      obtain ⟨g, rfl⟩ : ∃ g, gk = g + 1 := ⟨gk - 1, by omega⟩
      rcases HL.out with hnil | ⟨bl, off, rfl, hbl, hcs⟩
      · simp [hnil] at hkl
      have hblp : bl < p := by rw [HP.out]; exact hbl
      have hc : wr.cell? ⟨bl, off + k, none⟩ = some (.bool l[k]) := (HB.out.cell (p := ⟨bl, off + k, none⟩) hblp).trans (hcs k hkl)
      obtain ⟨x, hx⟩ : ∃ x, x = l[k] := ⟨_, rfl⟩
      rw [← hx] at hc
      clear hcs hx hbl
      by_cases hez : e = 0
      · subst hez
        obtain rfl := HX.out rfl
        cases x
        · obtain ⟨t1, s1, e1, hT⟩ : ∃ t1 s1 e1, numR (s.extract at' s.size) 0 = (t1, s1, e1) := ⟨_, _, _, rfl⟩
          have hleft := num_left (s.extract at' s.size)
          rw [hT] at hleft
          have hrl := read_left (s.extract at' s.size) s1 e1 hleft
          obtain ⟨rk, hrk⟩ : ∃ rk, rk = readN (s.extract at' s.size) s1 e1 := ⟨_, rfl⟩
          rw [← hrk] at hrl
          have hsz := ex_size s at' hat
          have hle : (s.extract at' s.size).size ≤ 9223372036854775807 := by omega
          have HT := Lib.hid hT; have HRL := Lib.hid hrl; have HRK := Lib.hid hrk; have HSZ := Lib.hid hsz; have HLE := Lib.hid hle
          clear hT hleft hrl hrk hsz hle
          have hrks : rk ≤ s.size - at' := by
            by_cases he : e1 = 0
            · have h := (HRL.out.1 he).2; have h2 := HSZ.out; omega
            · have h := HRL.out.2 he; omega
          have hat2 : at' + rk ≤ s.size := by omega
          go_wp2_with fail
          refine (first_walk (s.extract at' s.size) _ HLE.out).mono ?_
          rintro r w1 ⟨rfl, rfl⟩
          rw [HT.out, ← HRK.out]
          go_wp2_with fail
          refine (num_walk p _ 0 _ HI.out).mono ?_
          rintro r w2 ⟨rfl, hg2, h2⟩
          rw [HT.out] at h2 ⊢
          have hc2 := hg2.cell hc (by intro e; cases e; exact absurd hblp (Nat.lt_irrefl _))
          have HI2 := Lib.hid h2; have HB2 := Lib.hid (below_of_grown HB.out hg2 (Nat.le_trans (Nat.le_of_eq HP.out) HB.out.size) (fun j hj => by cases hj; exact Nat.le_refl _))
          clear h2 hg2 hc HI HB
          by_cases hez : e1 = 0
          · subst hez
            have hs1 := HRL.out.1 rfl
            have hst : s1 = s.extract (at' + rk) s.size := by rw [hs1.1, ex_ex s at' rk hat]
            have hlf : (s1.size : Int) = (s.size : Int) - ((at' + rk : Nat) : Int) := by rw [hst, ex_size s _ hat2]; omega
            have hln : leftN s1 0 = s1.size := by unfold leftN; rw [if_pos rfl]
            have hlf2 : (s.size : Int) - ((at' : Int) + (rk : Int)) = (s1.size : Int) := by omega
            have HST := Lib.hid hst; have HLN := Lib.hid hln; have HLF := Lib.hid hlf; have HLF2 := Lib.hid hlf2
            clear hs1 hst hlf hln hlf2
            go_wp2_with fail
            refine (err_walk p s1 0 _ HI2.out).mono ?_
            rintro r w3 ⟨rfl, rfl⟩
            go_wp2_with fail
            refine (left_walk p s1 0 _ HI2.out).mono ?_
            rintro r w3 ⟨rfl, rfl⟩
            rw [HLN.out]
            have hlf2 := HLF2.out
            go_wp2_with fail
            go_roundg g
            case measure => omega
            case rel => exact ⟨k + 1, at' + rk, 0, s1, by omega, by have := HK1.out; omega, by go_num, by go_num, rfl, HI2.out, hat2, fun _ => HST.out, HB2.out⟩
          · have hrk0 := HRL.out.2 hez
            subst hrk0
            have hln : leftN s1 e1 = 0 := by unfold leftN; rw [if_neg hez]
            have HLN := Lib.hid hln
            clear hln
            have HEZ := Lib.hid hez
            go_wp2_with fail
            refine (err_walk p s1 e1 _ HI2.out).mono ?_
            rintro r w3 ⟨rfl, rfl⟩
            go_wp2_with fail
            refine (left_walk p s1 e1 _ HI2.out).mono ?_
            rintro r w3 ⟨rfl, rfl⟩
            rw [HLN.out]
            go_wp2_with fail
            go_roundg g
            case measure => omega
            case rel => exact ⟨k + 1, at', e1, s1, by omega, by have := HK1.out; omega, by go_num, by go_num, rfl, HI2.out, hat, fun h => absurd h HEZ.out, HB2.out⟩
        · obtain ⟨t1, s1, e1, hT⟩ : ∃ t1 s1 e1, txtR (s.extract at' s.size) 0 = (t1, s1, e1) := ⟨_, _, _, rfl⟩
          have hleft := txt_left (s.extract at' s.size)
          rw [hT] at hleft
          have hrl := read_left (s.extract at' s.size) s1 e1 hleft
          obtain ⟨rk, hrk⟩ : ∃ rk, rk = readN (s.extract at' s.size) s1 e1 := ⟨_, rfl⟩
          rw [← hrk] at hrl
          have hsz := ex_size s at' hat
          have hle : (s.extract at' s.size).size ≤ 9223372036854775807 := by omega
          have HT := Lib.hid hT; have HRL := Lib.hid hrl; have HRK := Lib.hid hrk; have HSZ := Lib.hid hsz; have HLE := Lib.hid hle
          clear hT hleft hrl hrk hsz hle
          have hrks : rk ≤ s.size - at' := by
            by_cases he : e1 = 0
            · have h := (HRL.out.1 he).2; have h2 := HSZ.out; omega
            · have h := HRL.out.2 he; omega
          have hat2 : at' + rk ≤ s.size := by omega
          go_wp2_with fail
          refine (second_walk (s.extract at' s.size) _ HLE.out).mono ?_
          rintro r w1 ⟨rfl, rfl⟩
          rw [HT.out, ← HRK.out]
          go_wp2_with fail
          refine (txt_walk p _ 0 _ HI.out).mono ?_
          rintro r w2 ⟨rfl, hg2, h2⟩
          rw [HT.out] at h2 ⊢
          have hc2 := hg2.cell hc (by intro e; cases e; exact absurd hblp (Nat.lt_irrefl _))
          have HI2 := Lib.hid h2; have HB2 := Lib.hid (below_of_grown HB.out hg2 (Nat.le_trans (Nat.le_of_eq HP.out) HB.out.size) (fun j hj => by cases hj; exact Nat.le_refl _))
          clear h2 hg2 hc HI HB
          by_cases hez : e1 = 0
          · subst hez
            have hs1 := HRL.out.1 rfl
            have hst : s1 = s.extract (at' + rk) s.size := by rw [hs1.1, ex_ex s at' rk hat]
            have hlf : (s1.size : Int) = (s.size : Int) - ((at' + rk : Nat) : Int) := by rw [hst, ex_size s _ hat2]; omega
            have hln : leftN s1 0 = s1.size := by unfold leftN; rw [if_pos rfl]
            have hlf2 : (s.size : Int) - ((at' : Int) + (rk : Int)) = (s1.size : Int) := by omega
            have HST := Lib.hid hst; have HLN := Lib.hid hln; have HLF := Lib.hid hlf; have HLF2 := Lib.hid hlf2
            clear hs1 hst hlf hln hlf2
            go_wp2_with fail
            refine (err_walk p s1 0 _ HI2.out).mono ?_
            rintro r w3 ⟨rfl, rfl⟩
            go_wp2_with fail
            refine (left_walk p s1 0 _ HI2.out).mono ?_
            rintro r w3 ⟨rfl, rfl⟩
            rw [HLN.out]
            have hlf2 := HLF2.out
            go_wp2_with fail
            go_roundg g
            case measure => omega
            case rel => exact ⟨k + 1, at' + rk, 0, s1, by omega, by have := HK1.out; omega, by go_num, by go_num, rfl, HI2.out, hat2, fun _ => HST.out, HB2.out⟩
          · have hrk0 := HRL.out.2 hez
            subst hrk0
            have hln : leftN s1 e1 = 0 := by unfold leftN; rw [if_neg hez]
            have HLN := Lib.hid hln
            clear hln
            have HEZ := Lib.hid hez
            go_wp2_with fail
            refine (err_walk p s1 e1 _ HI2.out).mono ?_
            rintro r w3 ⟨rfl, rfl⟩
            go_wp2_with fail
            refine (left_walk p s1 e1 _ HI2.out).mono ?_
            rintro r w3 ⟨rfl, rfl⟩
            rw [HLN.out]
            go_wp2_with fail
            go_roundg g
            case measure => omega
            case rel => exact ⟨k + 1, at', e1, s1, by omega, by have := HK1.out; omega, by go_num, by go_num, rfl, HI2.out, hat, fun h => absurd h HEZ.out, HB2.out⟩
      · cases x
        · have hT : numR s' e = (0, s', e) := by unfold numR; rw [if_pos hez]
          have HT := Lib.hid hT
          clear hT
          go_wp2_with fail
          refine (num_walk p _ e _ HI.out).mono ?_
          rintro r w2 ⟨rfl, hg2, h2⟩
          rw [HT.out] at h2 ⊢
          have hc2 := hg2.cell hc (by intro e; cases e; exact absurd hblp (Nat.lt_irrefl _))
          have HI2 := Lib.hid h2; have HB2 := Lib.hid (below_of_grown HB.out hg2 (Nat.le_trans (Nat.le_of_eq HP.out) HB.out.size) (fun j hj => by cases hj; exact Nat.le_refl _))
          clear h2 hg2 hc HI HB
          have hln : leftN s' e = 0 := by unfold leftN; rw [if_neg hez]
          have HLN := Lib.hid hln; have HEZ := Lib.hid hez
          clear hln
          go_wp2_with fail
          refine (err_walk p s' e _ HI2.out).mono ?_
          rintro r w3 ⟨rfl, rfl⟩
          go_wp2_with fail
          refine (left_walk p s' e _ HI2.out).mono ?_
          rintro r w3 ⟨rfl, rfl⟩
          rw [HLN.out]
          go_wp2_with fail
          go_roundg g
          case measure => omega
          case rel => exact ⟨k + 1, at', e, s', by omega, by have := HK1.out; omega, by go_num, by go_num, rfl, HI2.out, hat, fun h => absurd h HEZ.out, HB2.out⟩
        · have hT : numR s' e = (0, s', e) := by unfold numR; rw [if_pos hez]
          have hT : txtR s' e = (⟨#[]⟩, s', e) := by unfold txtR; rw [hT]; unfold takeR; rw [if_pos hez]
          have HT := Lib.hid hT
          clear hT
          go_wp2_with fail
          refine (txt_walk p _ e _ HI.out).mono ?_
          rintro r w2 ⟨rfl, hg2, h2⟩
          rw [HT.out] at h2 ⊢
          have hc2 := hg2.cell hc (by intro e; cases e; exact absurd hblp (Nat.lt_irrefl _))
          have HI2 := Lib.hid h2; have HB2 := Lib.hid (below_of_grown HB.out hg2 (Nat.le_trans (Nat.le_of_eq HP.out) HB.out.size) (fun j hj => by cases hj; exact Nat.le_refl _))
          clear h2 hg2 hc HI HB
          have hln : leftN s' e = 0 := by unfold leftN; rw [if_neg hez]
          have HLN := Lib.hid hln; have HEZ := Lib.hid hez
          clear hln
          go_wp2_with fail
          refine (err_walk p s' e _ HI2.out).mono ?_
          rintro r w3 ⟨rfl, rfl⟩
          go_wp2_with fail
          refine (left_walk p s' e _ HI2.out).mono ?_
          rintro r w3 ⟨rfl, rfl⟩
          rw [HLN.out]
          go_wp2_with fail
          go_roundg g
          case measure => omega
          case rel => exact ⟨k + 1, at', e, s', by omega, by have := HK1.out; omega, by go_num, by go_num, rfl, HI2.out, hat, fun h => absurd h HEZ.out, HB2.out⟩
    · have hk1 : ¬ k < l.length ∨ ¬ k < 60 := by omega
      clear hgo hk60
      by_cases hez : e = 0
      · subst hez
        obtain rfl := HX.out rfl
        have hend := end_zero s at' hat
        by_cases hlt : at' < s.size
        · rw [if_pos hlt] at hend
          have HE := Lib.hid hend
          clear hend
          by_cases hkl : k < l.length
          · have hk60' : (60 : Int) ≤ (k : Int) := by omega
            clear hk1
            go_wp2_with fail
            refine (awake_walk _).mono ?_
            rintro r w2 ⟨rfl, hb2⟩
            have HI2 := Lib.hid (HI.out.keep hb2 (lt_of_block HI.out))
            have HB2 := Lib.hid (HB.out.trans (hb2.mono (Nat.le_trans (Nat.le_of_eq HP.out) HB.out.size)))
            clear hb2
            go_wp2_with fail
            refine (end_walk p _ _ _ HI2.out).mono ?_
            rintro r w3 ⟨rfl, rfl⟩
            rw [HE.out]
            go_wp2_with fail
            go_ret
            exact ⟨rfl, by rw [← HP.out]; exact HB2.out⟩
          · clear hk1
            go_wp2_with fail
            refine (awake_walk _).mono ?_
            rintro r w2 ⟨rfl, hb2⟩
            have HI2 := Lib.hid (HI.out.keep hb2 (lt_of_block HI.out))
            have HB2 := Lib.hid (HB.out.trans (hb2.mono (Nat.le_trans (Nat.le_of_eq HP.out) HB.out.size)))
            clear hb2
            go_wp2_with fail
            refine (end_walk p _ _ _ HI2.out).mono ?_
            rintro r w3 ⟨rfl, rfl⟩
            rw [HE.out]
            go_wp2_with fail
            go_ret
            exact ⟨rfl, by rw [← HP.out]; exact HB2.out⟩
        · rw [if_neg hlt] at hend
          have HE := Lib.hid hend
          clear hend
          by_cases hkl : k < l.length
          · have hk60' : (60 : Int) ≤ (k : Int) := by omega
            clear hk1
            go_wp2_with fail
            refine (awake_walk _).mono ?_
            rintro r w2 ⟨rfl, hb2⟩
            have HI2 := Lib.hid (HI.out.keep hb2 (lt_of_block HI.out))
            have HB2 := Lib.hid (HB.out.trans (hb2.mono (Nat.le_trans (Nat.le_of_eq HP.out) HB.out.size)))
            clear hb2
            go_wp2_with fail
            refine (end_walk p _ _ _ HI2.out).mono ?_
            rintro r w3 ⟨rfl, rfl⟩
            rw [HE.out]
            go_wp2_with fail
            go_ret
            exact ⟨rfl, by rw [← HP.out]; exact HB2.out⟩
          · clear hk1
            go_wp2_with fail
            refine (awake_walk _).mono ?_
            rintro r w2 ⟨rfl, hb2⟩
            have HI2 := Lib.hid (HI.out.keep hb2 (lt_of_block HI.out))
            have HB2 := Lib.hid (HB.out.trans (hb2.mono (Nat.le_trans (Nat.le_of_eq HP.out) HB.out.size)))
            clear hb2
            go_wp2_with fail
            refine (end_walk p _ _ _ HI2.out).mono ?_
            rintro r w3 ⟨rfl, rfl⟩
            rw [HE.out]
            go_wp2_with fail
            go_ret
            exact ⟨rfl, by rw [← HP.out]; exact HB2.out⟩
      · have hend : endR s' e = e := by unfold endR; rw [if_pos hez]
        have HE := Lib.hid hend
        clear hend
        by_cases hkl : k < l.length
        · have hk60' : (60 : Int) ≤ (k : Int) := by omega
          clear hk1
          go_wp2_with fail
          refine (awake_walk _).mono ?_
          rintro r w2 ⟨rfl, hb2⟩
          have HI2 := Lib.hid (HI.out.keep hb2 (lt_of_block HI.out))
          have HB2 := Lib.hid (HB.out.trans (hb2.mono (Nat.le_trans (Nat.le_of_eq HP.out) HB.out.size)))
          clear hb2
          go_wp2_with fail
          refine (end_walk p _ _ _ HI2.out).mono ?_
          rintro r w3 ⟨rfl, rfl⟩
          rw [HE.out]
          go_wp2_with fail
          go_ret
          exact ⟨rfl, by rw [← HP.out]; exact HB2.out⟩
        · clear hk1
          go_wp2_with fail
          refine (awake_walk _).mono ?_
          rintro r w2 ⟨rfl, hb2⟩
          have HI2 := Lib.hid (HI.out.keep hb2 (lt_of_block HI.out))
          have HB2 := Lib.hid (HB.out.trans (hb2.mono (Nat.le_trans (Nat.le_of_eq HP.out) HB.out.size)))
          clear hb2
          go_wp2_with fail
          refine (end_walk p _ _ _ HI2.out).mono ?_
          rintro r w3 ⟨rfl, rfl⟩
          rw [HE.out]
          go_wp2_with fail
          go_ret
          exact ⟨rfl, by rw [← HP.out]; exact HB2.out⟩
end Go.Proofs.Ytalbilhhpiopiaa
