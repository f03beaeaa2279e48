/-
  Layer 5: where records stand.
-/
import Derived.Test.YtagdaeapjofajaaMgN
namespace Go.Proofs.Ytagdaeapjofajaa
set_option maxRecDepth 4000
open Go.RowKit

/-- what Append does, unarmed: the records that are there behind it -/
theorem append_calm {st : Dk} {n seq : Nat} {l : List ByteArray} (h : OnDisk st n seq 0 l) (ha : st.armed = 0) (L : List ByteArray) (hL : (allR L).length ≤ 65536) (hsq : seq < 9223372036854775807) :
    (sizeN n * 64 < (allR l).length + (allR L).length ∧ appendD st (jOf seq 0 l) L = (10, st) ∧ appendJ st (jOf seq 0 l) L = jOf seq 0 l) ∨
      ((allR l).length + (allR L).length ≤ sizeN n * 64 ∧ L = [] ∧ appendD st (jOf seq 0 l) L = (0, st) ∧ appendJ st (jOf seq 0 l) L = jOf seq 0 l) ∨
      ((allR l).length + (allR L).length ≤ sizeN n * 64 ∧ (allR L).length ≠ 0 ∧ ∃ st', appendD st (jOf seq 0 l) L = (0, st') ∧ OnDisk st' n (seq + 1) 0 (l ++ L) ∧ st'.armed = 0 ∧ appendJ st (jOf seq 0 l) L = jOf (seq + 1) 0 (l ++ L)) := by
  rcases append_safe h L hL hsq with h1 | ⟨h1, h2, h3⟩ | ⟨h1, h2, h3⟩
  · exact .inl h1
  · refine .inr (.inl ⟨?_, h1, h2, h3⟩)
    rw [h1]
    exact h.fit
  · refine .inr (.inr ⟨h1, fun e => h2 (allR_nil L e), ?_⟩)
    rcases h3 with ⟨e1, e2, e3, e4⟩ | ⟨_, e2, _⟩
    · exact ⟨_, Prod.ext e1 rfl, e2, e4 ha, e3⟩
    · exact absurd ha e2

set_option maxHeartbeats 4000000 in
theorem journalLays_walk (m : Nat) (ad : Option Addr) (cap : Nat) (l : List TRow) (w : World) (hm : m ≤ 255) (hl : rowsAt w ad l) (hok : ∀ r ∈ l, rowOk w r) (hll : l.length ≤ 9223372036854775807) :
    Calls Try.prog 3 #[.int .u8 m, .slice ad l.length cap] w fun r w' => r = .returned (.bool true) ∧ Below w.heap.size w w' := by
  obtain ⟨n, hn⟩ : ∃ n, n = m % 40 + 4 := ⟨_, rfl⟩
  have hn4 : 4 ≤ n := by omega
  have hn43 : n ≤ 43 := by omega
  obtain ⟨z, hz⟩ : ∃ z, z = sizeN n := ⟨_, rfl⟩
  have hz2 : z = (n - 2) / 2 := hz
  obtain ⟨hw0, hf0, hon, har⟩ := format_fresh n hn4 (by omega)
  obtain ⟨st1, hst1⟩ : ∃ st1, st1 = (formatD (freshD n)).2 := ⟨_, rfl⟩
  have hfd : formatD (freshD n) = (0, st1) := Prod.ext hf0 hst1.symm
  rw [← hst1] at hon har
  have HW0 := Lib.hid hw0; have HON := Lib.hid hon; have HFD := Lib.hid hfd; have HAR := Lib.hid har
  obtain ⟨o1, o2, o3, o4⟩ := hon.opens
  have HO := Lib.hid (And.intro o1 (And.intro o2 (And.intro o3 o4)))
  have HN := Lib.hid hn; have HN4 := Lib.hid hn4; have HN43 := Lib.hid hn43; have HZ := Lib.hid hz; have HZ2 := Lib.hid hz2
  have HL := Lib.hid hl; have HOK := Lib.hid hok
  clear hw0 hf0 hon har hst1 hfd o1 o2 o3 o4 hn hz hz2 hl hok
  go_enter Try.func3, Try.ntmps3
  go_wp2_with fail
  have hmn : ((m : Int) % 40 + 4) = (n : Int) := by have := HN.out; omega
  rw [hmn]
  have hzz : ((n : Int) - 2) / 2 = (z : Int) := by have := HZ2.out; omega
  try rw [hzz]
  clear hmn
  refine (new_disk n w (by omega) (by omega)).mono ?_
  rintro e w1 ⟨p, F, rfl, hb1, hd1, hF1⟩
  have KF := Lib.hid (format_walk p F (freshD n) 0 w1 hd1 (by show 4 ≤ (List.replicate n [z64]).length; simpa using HN4.out) HW0.out (pendMax_new n) (by omega))
  rw [HFD.out] at KF
  have HB1 := Lib.hid (And.intro hb1 hF1)
  clear hb1 hd1 hF1
  go_wp2_with fail
  refine KF.out.mono ?_
  intro e w2 hpost
  have he := hpost.1
  subst he
  obtain ⟨F2, hb2, hd2, hF2⟩ := DiskPost.low HB1.out.1 HB1.out.2 hpost
  have HB2 := Lib.hid (And.intro hb2 (And.intro hd2 hF2))
  clear hpost hb2 hd2 hF2 KF HB1
  go_wp2_with fail
  refine (awake5_walk w2).mono ?_
  rintro e w3 ⟨rfl, hb3⟩
  have HB3 := Lib.hid (And.intro (HB2.out.1.trans (hb3.mono HB2.out.1.size)) (And.intro (HB2.out.2.1.below hb3) HB2.out.2.2))
  clear hb3 HB2
  have KO := Lib.hid (open_good p F2 st1 w3 HB3.out.2.1 HO.out.2.2.2 HO.out.1 (by rw [HO.out.2.1]))
  rw [HO.out.2.1, HO.out.2.2.1] at KO
  go_wp2_with fail
  refine KO.out.mono ?_
  rintro e w4 ⟨q, ad4, cap4, rfl, hq4, hj4, hst4, hlc4, hcm4, hb4⟩
  have hL4 : JLaw w w4 p F2 q st1 (jOf 1 0 []) := ⟨HB3.out.1.trans (hb4.mono HB3.out.1.size), HB3.out.2.1.below hb4, HB3.out.2.2, hj4, fun hf => by have := HB3.out.2.1.lt q hf; omega, Nat.le_trans HB3.out.1.size hq4⟩
  have HL4 := Lib.hid hL4
  clear hL4 hj4 hst4 hb4 hq4 KO HB3 hlc4 hcm4
  go_wp2_with fail
  go_loopg [12, 13, 14] l.length (fun gk va vs vi wr => ∃ (k sq : Nat) (rs : List ByteArray) (F : Nat → Prop) (st : Dk), k + gk = l.length ∧ vi = .int .i64 k ∧ vs = .int .i64 sq ∧ sq ≤ 1 + k ∧ k ≤ 25 ∧ va = .string (txt (allR rs)) ∧ JLaw w wr p F q st (jOf sq 0 rs) ∧ OnDisk st n sq 0 rs ∧ st.armed = 0)
  case atStart => exact ⟨0, 1, [], F2, st1, by omega, rfl, rfl, by omega, by omega, rfl, HL4.out, HON.out, HAR.out⟩
  case round =>
    obtain ⟨k, sq, rs, F5, st5, hgk, rfl, rfl, hsq, hk25, rfl, hJL, hON, hA0⟩ := hrel
    have HGK := Lib.hid hgk; have HSQ := Lib.hid hsq; have HK25 := Lib.hid hk25; have HJL := Lib.hid hJL; have HOD := Lib.hid hON; have HA0 := Lib.hid hA0
    obtain ⟨A, hA⟩ : ∃ A, A = txt (allR rs) := ⟨_, rfl⟩
    have hAs : A.size = (allR rs).length := by rw [hA, txt_size]
    rw [← hA]
    have HA := Lib.hid hA; have HAS := Lib.hid hAs
    clear hgk hsq hk25 hJL hON hA0 hA hAs HL4
    by_cases hmore : k < l.length ∧ k < 25
    · obtain ⟨hm1, hm2⟩ := hmore
      have hm1' : (k : Int) < (l.length : Int) := by omega
      have hm2' : (k : Int) < 25 := by omega
      rcases HL.out with hat | ⟨bl, off, rfl, hbl, hcs⟩
      · simp [hat] at hm1
      have hc := hcs k hm1
      have hro := HOK.out l[k] (List.getElem_mem hm1)
      obtain ⟨r, hr⟩ : ∃ r, r = l[k] := ⟨_, rfl⟩
      rw [← hr] at hc hro
      obtain ⟨adr, capr, lr⟩ := r
      have hcw : ∀ w', Below w.heap.size w w' → w'.cell? ⟨bl, off + k, none⟩ = some (.slice adr lr.length capr) := fun w' hb => (hb.cell (p := ⟨bl, off + k, none⟩) (by simpa using hbl)).trans hc
      have hc2 := hcw wr HJL.out.low
      have HCW := Lib.hid hcw
      have hsa : ∀ w', Below w.heap.size w w' → strsAt w' adr lr := fun w' hb => strsAt_below hro.1 (Nat.le_refl _) hb
      have hlr : lr.length ≤ 9223372036854775807 := hro.2
      have HSA := Lib.hid hsa
      have KLI := Lib.hid (lightJ_walk adr capr lr wr (hsa wr HJL.out.low) hlr)
      clear hc hro hr hcs hbl hsa hcw
      cases hli : lightJ lr with
      | false =>
        rw [hli] at KLI
        go_wp2_with fail
        refine KLI.out.mono ?_
        rintro e w6 ⟨rfl, rfl⟩
        go_wp2_with fail
        go_roundg (gk - 1)
        case measure => have := HGK.out; omega
        case rel => exact ⟨k + 1, sq, rs, F5, st5, by have := HGK.out; omega, by go_num, rfl, by have := HSQ.out; omega, by omega, by rw [HA.out], HJL.out, HOD.out, HA0.out⟩
      | true =>
        rw [hli] at KLI
        obtain ⟨hz1, hz12, hz3⟩ := lightJ_size hli
        have KRA := Lib.hid (rall_walk adr capr lr wr (HSA.out wr HJL.out.low) hlr (fun s hs => by have := hz1 s hs; omega) (by omega))
        obtain ⟨s, hs⟩ : ∃ s, s = txt (allR lr) := ⟨_, rfl⟩
        have hss : s.size = (allR lr).length := by rw [hs, txt_size]
        rw [show (⟨(allR lr).toArray⟩ : ByteArray) = s from hs.symm] at KRA
        have KA := fun w' (h : JLaw w w' p F5 q st5 (jOf sq 0 rs)) => Lib.hid (append_walk q p F5 st5 (jOf sq 0 rs) 0 adr capr lr w' h.disk h.jn h.nq (by rw [HOD.out.calm.len]; exact HN4.out) (jOf_ok HOD.out) (calm_pend HOD.out.calm) (by omega) (HSA.out w' h.low) hlr (fun s hs => by have := hz1 s hs; omega))
        have hap := append_calm HOD.out HA0.out lr (by omega) (by have := HSQ.out; omega)
        have hfit := HOD.out.fit
        rw [← HZ.out] at hap hfit
        have hz21 : (z : Int) ≤ 21 := by have := HZ2.out; have := HN43.out; omega
        have hA64 : (A.size : Int) ≤ 1344 := by have := HAS.out; omega
        have hs64 : (s.size : Int) ≤ 2556 := by omega
        have HSS := Lib.hid hss; have HS := Lib.hid hs
        obtain ⟨ln, hln⟩ : ∃ ln, ln = lr.length := ⟨_, rfl⟩
        rw [← hln] at KLI KRA hc2 HCW
        simp only [← hln] at KA
        have HAP := Lib.hid hap
        clear hz1 hz12 hz3 hli hss hs hap hfit hln hlr
        go_wp2_with fail
        refine KLI.out.mono ?_
        rintro e w6 ⟨rfl, rfl⟩
        go_wp2_with fail
        refine KRA.out.mono ?_
        rintro e w7 ⟨rfl, hb7⟩
        have hJ7 := HJL.out.below hb7
        have d7 := HCW.out w7 hJ7.low
        have KA7 := KA w7 hJ7
        have HJ7 := Lib.hid hJ7
        clear hb7 hJ7 KRA KLI KA hc2 HJL
        rcases HAP.out with ⟨h1, h2, h3⟩ | ⟨h1, h2, h3, h4⟩ | ⟨h1, h2, st6, h3, h4, h5, h6⟩
        · rw [h2, h3] at KA7
          have hcmp : (64 : Int) * (z : Int) < (A.size : Int) + (s.size : Int) := by have := HAS.out; have := HSS.out; omega
          clear h1 h2 h3 HAP
          go_wp2_with fail
          refine KA7.out.mono ?_
          intro e w8 hpost
          have he := hpost.1
          subst he
          obtain ⟨F8, hJ8⟩ := HJ7.out.post hpost
          have HJ8 := Lib.hid hJ8
          clear hpost hJ8 KA7 HJ7
          go_wp2_with fail
          go_roundg (gk - 1)
          case measure => have := HGK.out; omega
          case rel => exact ⟨k + 1, sq, rs, F8, st5, by have := HGK.out; omega, by go_num, rfl, by have := HSQ.out; omega, by omega, by rw [HA.out], HJ8.out, HOD.out, HA0.out⟩
        · rw [h3, h4] at KA7
          have hemp : s.toList.isEmpty = true := by
            rw [HS.out, h2, ByteArray.toList_eq]
            rfl
          have hcmp : ¬ (64 : Int) * (z : Int) < (A.size : Int) + (s.size : Int) := by have := HAS.out; have := HSS.out; omega
          obtain ⟨A2, hA2⟩ : ∃ A2, A2 = txt (allR rs) := ⟨_, rfl⟩
          have hcat : A ++ s = A2 := by rw [HA.out, HS.out, hA2, txt_append]; rw [h2]; simp [allR]
          have hA2s : A2.size = A.size + s.size := by rw [← hcat, ByteArray.size_append]
          have hu2 : (jOf (sq) 0 rs).used = A2.size := by rw [hA2, txt_size]; rfl
          have HON := Lib.hid (HOD.out); have HA02 := Lib.hid (HA0.out); have HCAT := Lib.hid hcat; have HA2 := Lib.hid hA2; have HU2 := Lib.hid hu2
          have hA264 : (A2.size : Int) ≤ 64 * (z : Int) := by omega
          clear h1 h2 h3 h4 HAP hA2 hcat hA2s hu2
          go_wp2_with fail
          refine KA7.out.mono ?_
          intro e w8 hpost
          have he := hpost.1
          subst he
          obtain ⟨F8, hJ8⟩ := HJ7.out.post hpost
          have HJ8 := Lib.hid hJ8
          have KQ := Lib.hid (seq_walk q p (jOf (sq) 0 rs) w8 hJ8.jn)
          have KU := Lib.hid (used_walk q p (jOf (sq) 0 rs) w8 hJ8.jn)
          have KR := Lib.hid (room_walk q p F8 st5 (jOf (sq) 0 rs) w8 hJ8.jn hJ8.disk (by rw [HON.out.calm.len]; have := HN4.out; omega) (jOf_ok HON.out).used)
          have hroom : roomR (st5).S.length (jOf (sq) 0 rs) = (64 : Int) * (z : Int) - (A2.size : Int) := by
            unfold roomR
            rw [HON.out.calm.len, HU2.out, ← HZ.out]
            omega
          rw [hroom] at KR
          rw [HU2.out] at KU
          have hqs : ((jOf (sq) 0 rs).seq : Int) = ((sq : Int)) := rfl
          rw [hqs] at KQ
          have hsq9 : (sq : Int) ≤ 30 := by have := HSQ.out; omega
          clear hpost hJ8 KA7 HJ7 hroom hqs
          have hnov : ¬ 9223372036854775807 < A.size + s.size := by omega
          go_upto_region 24 with fail
          rw [HCAT.out]
          go_wp2_with fail
          refine KQ.out.mono ?_
          rintro e w9 ⟨rfl, rfl⟩
          go_wp2_with fail
          refine KU.out.mono ?_
          rintro e w10 ⟨rfl, rfl⟩
          go_wp2_with fail
          refine KR.out.mono ?_
          rintro e w11 ⟨rfl, hb11⟩
          have HJ11 := Lib.hid (HJ8.out.below hb11)
          clear hb11 KR KU KQ HJ8
          go_wp2_with fail
          go_roundg (gk - 1)
          case measure => have := HGK.out; omega
          case rel => exact ⟨k + 1, sq, rs, F8, st5, by have := HGK.out; omega, by go_num, by go_num, by have := HSQ.out; omega, by omega, by rw [HA2.out], HJ11.out, HON.out, HA02.out⟩
        · rw [h3, h6] at KA7
          have hemp : s.toList.isEmpty = false := by
            rw [ByteArray.toList_eq]
            cases hl : s.data.toList with
            | nil => exact absurd (by rw [← HSS.out, show s.size = s.data.toList.length by simp, hl]; rfl) h2
            | cons a r => rfl
          have hcmp : ¬ (64 : Int) * (z : Int) < (A.size : Int) + (s.size : Int) := by have := HAS.out; have := HSS.out; omega
          obtain ⟨A2, hA2⟩ : ∃ A2, A2 = txt (allR (rs ++ lr)) := ⟨_, rfl⟩
          have hcat : A ++ s = A2 := by rw [HA.out, HS.out, hA2, txt_append]; rw [← allR_append]
          have hA2s : A2.size = A.size + s.size := by rw [← hcat, ByteArray.size_append]
          have hu2 : (jOf (sq + 1) 0 (rs ++ lr)).used = A2.size := by rw [hA2, txt_size]; rfl
          have HON := Lib.hid (h4); have HA02 := Lib.hid (h5); have HCAT := Lib.hid hcat; have HA2 := Lib.hid hA2; have HU2 := Lib.hid hu2
          have hA264 : (A2.size : Int) ≤ 64 * (z : Int) := by omega
          clear h1 h2 h3 h4 h5 h6 HAP hA2 hcat hA2s hu2
          go_wp2_with fail
          refine KA7.out.mono ?_
          intro e w8 hpost
          have he := hpost.1
          subst he
          obtain ⟨F8, hJ8⟩ := HJ7.out.post hpost
          have HJ8 := Lib.hid hJ8
          have KQ := Lib.hid (seq_walk q p (jOf (sq + 1) 0 (rs ++ lr)) w8 hJ8.jn)
          have KU := Lib.hid (used_walk q p (jOf (sq + 1) 0 (rs ++ lr)) w8 hJ8.jn)
          have KR := Lib.hid (room_walk q p F8 st6 (jOf (sq + 1) 0 (rs ++ lr)) w8 hJ8.jn hJ8.disk (by rw [HON.out.calm.len]; have := HN4.out; omega) (jOf_ok HON.out).used)
          have hroom : roomR (st6).S.length (jOf (sq + 1) 0 (rs ++ lr)) = (64 : Int) * (z : Int) - (A2.size : Int) := by
            unfold roomR
            rw [HON.out.calm.len, HU2.out, ← HZ.out]
            omega
          rw [hroom] at KR
          rw [HU2.out] at KU
          have hqs : ((jOf (sq + 1) 0 (rs ++ lr)).seq : Int) = ((sq : Int) + 1) := rfl
          rw [hqs] at KQ
          have hsq9 : (sq : Int) ≤ 30 := by have := HSQ.out; omega
          clear hpost hJ8 KA7 HJ7 hroom hqs
          have hnov : ¬ 9223372036854775807 < A.size + s.size := by omega
          go_upto_region 24 with fail
          rw [HCAT.out]
          go_wp2_with fail
          refine KQ.out.mono ?_
          rintro e w9 ⟨rfl, rfl⟩
          go_wp2_with fail
          refine KU.out.mono ?_
          rintro e w10 ⟨rfl, rfl⟩
          go_wp2_with fail
          refine KR.out.mono ?_
          rintro e w11 ⟨rfl, hb11⟩
          have HJ11 := Lib.hid (HJ8.out.below hb11)
          clear hb11 KR KU KQ HJ8
          go_wp2_with fail
          go_roundg (gk - 1)
          case measure => have := HGK.out; omega
          case rel => exact ⟨k + 1, sq + 1, (rs ++ lr), F8, st6, by have := HGK.out; omega, by go_num, by go_num, by have := HSQ.out; omega, by omega, by rw [HA2.out], HJ11.out, HON.out, HA02.out⟩
    · have hnot : ¬ ((k : Int) < (l.length : Int)) ∨ ((k : Int) < (l.length : Int) ∧ ¬ (k : Int) < 25) := by omega
      clear hmore
      have hz21 : z ≤ 21 := by have := HZ2.out; have := HN43.out; omega
      have hfz := HOD.out.fit
      rw [← HZ.out] at hfz
      have hlen5 : st5.S.length = n := HOD.out.calm.len
      have h2z : 2 + z ≤ n := by have := HZ2.out; omega
      have hrd : ∀ i, i < z → readD st5 ((2 + i : Nat) : Int) = (txt (lastS st5.S (2 + i)), 0) := fun i hi => read_ok st5 (2 + i) (by omega) HOD.out.calm.up
      have hsl : ∀ i, i ≤ z → (secsB st5 2 i).length = 64 * i := fun i hi => secsB_length st5 2 i HOD.out.calm.ok (by omega)
      have hby := HOD.out.bytes
      have hhb : halfB st5 0 = secsB st5 2 z := by unfold halfB; rw [hlen5, ← HZ.out, Nat.zero_mul, Nat.add_zero]
      rw [hhb] at hby
      have hrq : readD st5 ((sq % 2 : Nat) : Int) = (txt (lastS st5.S (sq % 2)), 0) := read_ok st5 (sq % 2) (by omega) HOD.out.calm.up
      rw [HOD.out.head] at hrq
      have HRD := Lib.hid hrd; have HSL := Lib.hid hsl; have HBY := Lib.hid hby; have HRQ := Lib.hid hrq; have HZ21 := Lib.hid hz21; have HFZ := Lib.hid hfz
      clear hrd hsl hby hhb hrq hlen5 h2z hz21 hfz
      rcases hnot with hlt | ⟨hlt, hlt2⟩
      · go_wp2_with fail
        have hz21 : (z : Int) ≤ 21 := by have := HZ21.out; omega
        obtain ⟨go, hgo⟩ : ∃ go : Nat, go = gk := ⟨_, rfl⟩
        obtain ⟨wo, hwo⟩ : ∃ wo : World, wo = wr := ⟨_, rfl⟩
        obtain rfl := hwo
        have hsqb : sq ≤ 30 := by have := HSQ.out; have := HK25.out; omega
        have HSQB := Lib.hid hsqb
        clear hsqb
        go_loopg [17, 18] z (fun gk vg vi wx => ∃ i : Nat, i + gk = z ∧ vi = .int .i64 i ∧ vg = .string (txt (secsB st5 2 i)) ∧ JLaw w wx p F5 q st5 (jOf sq 0 rs))
        case atStart => exact ⟨0, by omega, rfl, rfl, HJL.out⟩
        case round =>
          obtain ⟨i, hgi, rfl, rfl, hjx⟩ := hrel
          have HJX := Lib.hid hjx; have HGI := Lib.hid hgi
          clear hjx hgi
          obtain ⟨G, hG⟩ : ∃ G, G = txt (secsB st5 2 i) := ⟨_, rfl⟩
          have hGs : G.size = (secsB st5 2 i).length := by rw [hG, txt_size]
          rw [← hG]
          have HG := Lib.hid hG
          have hi21 : (i : Int) ≤ 21 := by have := HGI.out; omega
          by_cases hiz : (i : Int) < (z : Int)
          · have hiz2 : i < z := by omega
            have KR := Lib.hid (read_walk p F5 st5 ((2 + i : Nat) : Int) wr HJX.out.disk)
            rw [HRD.out i hiz2] at KR
            obtain ⟨t, ht⟩ : ∃ t, t = txt (lastS st5.S (2 + i)) := ⟨_, rfl⟩
            have hcat : G ++ t = txt (secsB st5 2 (i + 1)) := by rw [hG, ht, txt_append, secsB_succ]
            have hcs : (G ++ t).size = 64 * (i + 1) := by rw [hcat, txt_size, HSL.out (i + 1) (by omega)]
            rw [ByteArray.size_append] at hcs
            have hnov : ¬ 9223372036854775807 < G.size + t.size := by omega
            rw [← ht] at KR
            have hix : (2 : Int) + (i : Int) = ((2 + i : Nat) : Int) := by omega
            have HCAT := Lib.hid hcat; have HIX := Lib.hid hix
            clear hG hGs ht hcat hcs hix hiz2
            go_wp2_with fail
            try rw [HIX.out]
            refine KR.out.mono ?_
            rintro e w9 ⟨rfl, hb9⟩
            have HJ9 := Lib.hid (HJX.out.below hb9)
            clear hb9 KR
            go_wp2_with fail
            go_roundg (gk - 1)
            case measure => have := HGI.out; omega
            case rel => exact ⟨i + 1, by have := HGI.out; omega, by go_num, by rw [HCAT.out], HJ9.out⟩
          · obtain rfl : i = z := by have := HGI.out; omega
            have KR := Lib.hid (read_walk p F5 st5 ((sq % 2 : Nat) : Int) wr HJX.out.disk)
            rw [HRQ.out] at KR
            have hGz : G.size = 64 * i := by rw [hGs, HSL.out i (Nat.le_refl _)]
            obtain ⟨qm, hqm⟩ : ∃ qm, qm = sq % 2 := ⟨_, rfl⟩
            have hqi : (sq : Int) % 2 = (qm : Int) := by omega
            rw [← hqm] at KR
            have hAG : A.size ≤ G.size := by rw [hGz, HAS.out]; have := HFZ.out; omega
            have hext : G.extract 0 A.size = A := by
              rw [hG]
              unfold txt
              rw [ext_of, List.drop_zero, HAS.out, HBY.out, HA.out]
              rfl
            have hGzi : (G.size : Int) = 64 * (i : Int) := by omega
            have hAGi : (A.size : Int) ≤ (G.size : Int) := by omega
            have KH := fun w => Lib.hid (rhead_walk sq 0 A.size w (by have := HSQB.out; omega) (by omega) (by omega))
            obtain ⟨hd, hhd⟩ : ∃ hd : ByteArray, hd = ⟨(headB sq 0 A.size).toArray⟩ := ⟨_, rfl⟩
            simp only [← hhd] at KH
            rw [← HAS.out, ← hhd] at KR
            have hhs : hd.size ≤ 64 := by
              have := headB_length sq 0 A.size (by have := HSQB.out; omega) (by omega) (by omega)
              rw [hhd, bytes_len]
              omega
            have KFI := fun w => Lib.hid (fill_walk hd w hhs)
            obtain ⟨fh, hfh⟩ : ∃ fh, fh = txt (fill hd) := ⟨_, rfl⟩
            simp only [← hfh] at KFI
            rw [← hfh] at KR
            clear hG hGs hhd hhs hfh hqm hGz HRQ HRD HSL HBY HZ21 HFZ
            go_wp2_with fail
            refine KR.out.mono ?_
            rintro e w9 ⟨rfl, hb9⟩
            have HB9 := Lib.hid (HJX.out.low.trans (hb9.mono HJX.out.low.size))
            clear hb9 KR
            go_wp2_with fail
            refine (KH w9).out.mono ?_
            rintro e w10 ⟨rfl, hb10⟩
            have HB10 := Lib.hid (HB9.out.trans (hb10.mono HB9.out.size))
            clear hb10 KH hext
            go_wp2_with fail
            refine (KFI w10).out.mono ?_
            rintro e w11 ⟨rfl, hb11⟩
            have HB11 := Lib.hid (HB10.out.trans (hb11.mono HB10.out.size))
            clear hb11 KFI
            go_wp2_with fail
            go_ret
            exact ⟨rfl, HB11.out⟩
      · go_wp2_with fail
        have hz21 : (z : Int) ≤ 21 := by have := HZ21.out; omega
        obtain ⟨go, hgo⟩ : ∃ go : Nat, go = gk := ⟨_, rfl⟩
        obtain ⟨wo, hwo⟩ : ∃ wo : World, wo = wr := ⟨_, rfl⟩
        obtain rfl := hwo
        have hsqb : sq ≤ 30 := by have := HSQ.out; have := HK25.out; omega
        have HSQB := Lib.hid hsqb
        clear hsqb
        go_loopg [17, 18] z (fun gk vg vi wx => ∃ i : Nat, i + gk = z ∧ vi = .int .i64 i ∧ vg = .string (txt (secsB st5 2 i)) ∧ JLaw w wx p F5 q st5 (jOf sq 0 rs))
        case atStart => exact ⟨0, by omega, rfl, rfl, HJL.out⟩
        case round =>
          obtain ⟨i, hgi, rfl, rfl, hjx⟩ := hrel
          have HJX := Lib.hid hjx; have HGI := Lib.hid hgi
          clear hjx hgi
          obtain ⟨G, hG⟩ : ∃ G, G = txt (secsB st5 2 i) := ⟨_, rfl⟩
          have hGs : G.size = (secsB st5 2 i).length := by rw [hG, txt_size]
          rw [← hG]
          have HG := Lib.hid hG
          have hi21 : (i : Int) ≤ 21 := by have := HGI.out; omega
          by_cases hiz : (i : Int) < (z : Int)
          · have hiz2 : i < z := by omega
            have KR := Lib.hid (read_walk p F5 st5 ((2 + i : Nat) : Int) wr HJX.out.disk)
            rw [HRD.out i hiz2] at KR
            obtain ⟨t, ht⟩ : ∃ t, t = txt (lastS st5.S (2 + i)) := ⟨_, rfl⟩
            have hcat : G ++ t = txt (secsB st5 2 (i + 1)) := by rw [hG, ht, txt_append, secsB_succ]
            have hcs : (G ++ t).size = 64 * (i + 1) := by rw [hcat, txt_size, HSL.out (i + 1) (by omega)]
            rw [ByteArray.size_append] at hcs
            have hnov : ¬ 9223372036854775807 < G.size + t.size := by omega
            rw [← ht] at KR
            have hix : (2 : Int) + (i : Int) = ((2 + i : Nat) : Int) := by omega
            have HCAT := Lib.hid hcat; have HIX := Lib.hid hix
            clear hG hGs ht hcat hcs hix hiz2
            go_wp2_with fail
            try rw [HIX.out]
            refine KR.out.mono ?_
            rintro e w9 ⟨rfl, hb9⟩
            have HJ9 := Lib.hid (HJX.out.below hb9)
            clear hb9 KR
            go_wp2_with fail
            go_roundg (gk - 1)
            case measure => have := HGI.out; omega
            case rel => exact ⟨i + 1, by have := HGI.out; omega, by go_num, by rw [HCAT.out], HJ9.out⟩
          · obtain rfl : i = z := by have := HGI.out; omega
            have KR := Lib.hid (read_walk p F5 st5 ((sq % 2 : Nat) : Int) wr HJX.out.disk)
            rw [HRQ.out] at KR
            have hGz : G.size = 64 * i := by rw [hGs, HSL.out i (Nat.le_refl _)]
            obtain ⟨qm, hqm⟩ : ∃ qm, qm = sq % 2 := ⟨_, rfl⟩
            have hqi : (sq : Int) % 2 = (qm : Int) := by omega
            rw [← hqm] at KR
            have hAG : A.size ≤ G.size := by rw [hGz, HAS.out]; have := HFZ.out; omega
            have hext : G.extract 0 A.size = A := by
              rw [hG]
              unfold txt
              rw [ext_of, List.drop_zero, HAS.out, HBY.out, HA.out]
              rfl
            have hGzi : (G.size : Int) = 64 * (i : Int) := by omega
            have hAGi : (A.size : Int) ≤ (G.size : Int) := by omega
            have KH := fun w => Lib.hid (rhead_walk sq 0 A.size w (by have := HSQB.out; omega) (by omega) (by omega))
            obtain ⟨hd, hhd⟩ : ∃ hd : ByteArray, hd = ⟨(headB sq 0 A.size).toArray⟩ := ⟨_, rfl⟩
            simp only [← hhd] at KH
            rw [← HAS.out, ← hhd] at KR
            have hhs : hd.size ≤ 64 := by
              have := headB_length sq 0 A.size (by have := HSQB.out; omega) (by omega) (by omega)
              rw [hhd, bytes_len]
              omega
            have KFI := fun w => Lib.hid (fill_walk hd w hhs)
            obtain ⟨fh, hfh⟩ : ∃ fh, fh = txt (fill hd) := ⟨_, rfl⟩
            simp only [← hfh] at KFI
            rw [← hfh] at KR
            clear hG hGs hhd hhs hfh hqm hGz HRQ HRD HSL HBY HZ21 HFZ
            go_wp2_with fail
            refine KR.out.mono ?_
            rintro e w9 ⟨rfl, hb9⟩
            have HB9 := Lib.hid (HJX.out.low.trans (hb9.mono HJX.out.low.size))
            clear hb9 KR
            go_wp2_with fail
            refine (KH w9).out.mono ?_
            rintro e w10 ⟨rfl, hb10⟩
            have HB10 := Lib.hid (HB9.out.trans (hb10.mono HB9.out.size))
            clear hb10 KH hext
            go_wp2_with fail
            refine (KFI w10).out.mono ?_
            rintro e w11 ⟨rfl, hb11⟩
            have HB11 := Lib.hid (HB10.out.trans (hb11.mono HB10.out.size))
            clear hb11 KFI
            go_wp2_with fail
            go_ret
            exact ⟨rfl, HB11.out⟩
end Go.Proofs.Ytagdaeapjofajaa
