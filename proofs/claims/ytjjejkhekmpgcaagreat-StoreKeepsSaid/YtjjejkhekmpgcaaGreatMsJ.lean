/-
  Layer 6: the walk of StoreKeys.
-/
import Derived.Test.YtjjejkhekmpgcaaGreatMsI
namespace Go.Proofs.YtjjejkhekmpgcaaGreat
set_option maxRecDepth 4000
open Go.RowKit

/-- a store of our own that is whole, and what it should have -/
structure SInv (w wr : World) (p q jq b : Nat) (F : Nat → Prop) (st : Dk) (n sq half : Nat) (rs : List ByteArray) (M : Kv) (qt : Int) (ad : Option Addr) : Prop where
  law : SLaw w wr p F q jq b st (jOf sq half rs) M qt false
  on : OnDisk st n sq half rs
  op : openM rs [] = some M
  ok : KvOk M
  low : bytesM M ≤ 1048576
  is : KvO wr ad M (stoF q jq b F)
section
variable {w wr : World} {p q jq b : Nat} {F : Nat → Prop} {st : Dk} {n sq half : Nat} {rs : List ByteArray} {M : Kv} {qt : Int} {ad : Option Addr}
theorem SInv.below {w' : World} (h : SInv w wr p q jq b F st n sq half rs M qt ad) (hb : Below wr.heap.size wr w') : SInv w w' p q jq b F st n sq half rs M qt ad :=
  ⟨h.law.below hb, h.on, h.op, h.ok, h.low, h.is.below hb⟩
theorem out_ok {M' : Kv} {R : Int × Dk × Jn × Kv × Bool} (h : DoOut st n sq half rs M M' R) (ha : st.armed = 0) :
    ∃ st' sq' half' rs', R = (0, st', jOf sq' half' rs', M', false) ∧ OnDisk st' n sq' half' rs' ∧ openM rs' [] = some M' ∧ sq' ≤ sq + 1 ∧ st'.armed = 0 := by
  obtain ⟨a, b', c, d, e⟩ := R
  rcases h with ⟨e1, ⟨sq', half', rs', e2, e3, e4, e5⟩, e6, e7, e8⟩ | ⟨_, e2, _⟩
  · have e1 : a = 0 := e1
    have e3 : c = jOf sq' half' rs' := e3
    have e6 : d = M' := e6
    have e7 : e = false := e7
    subst e1; subst e3; subst e6; subst e7
    exact ⟨b', sq', half', rs', rfl, e2, e4, e5, e8 ha⟩
  · exact absurd ha e2
/-- what a call of Do leaves that was not armed -/
theorem do_calm (on : OnDisk st n sq half rs) (op : openM rs [] = some M) (ok : KvOk M) (hsq : sq < 9223372036854775807) (hz : sizeN n * 64 ≤ 65536) (ha : st.armed = 0) (l : List Chg) :
    ((doS st (jOf sq half rs) M qt false l).1 ≠ 0 ∧ (doS st (jOf sq half rs) M qt false l).2 = (st, jOf sq half rs, M, false) ∧ (checkS M l qt false = 0 → sizeN n * 64 < (allR (recsM (afterM M l))).length ∧ (doS st (jOf sq half rs) M qt false l).1 = 10)) ∨
      (checkS M l qt false = 0 ∧ (allR (recsM (afterM M l))).length ≤ sizeN n * 64 ∧ ∃ st' sq' half' rs', doS st (jOf sq half rs) M qt false l = (0, st', jOf sq' half' rs', afterM M l, false) ∧ OnDisk st' n sq' half' rs' ∧ openM rs' [] = some (afterM M l) ∧ sq' ≤ sq + 1 ∧ st'.armed = 0) := by
  by_cases hc : checkS M l qt false = 0
  · obtain ⟨h1, h2⟩ := do_out on op ok hsq hc hz
    by_cases hf : (allR (recsM (afterM M l))).length ≤ sizeN n * 64
    · exact .inr ⟨hc, hf, out_ok (h2 hf) ha⟩
    · rw [h1 (by omega)]
      exact .inl ⟨by simp, rfl, fun _ => ⟨by omega, rfl⟩⟩
  · have hd : doS st (jOf sq half rs) M qt false l = (checkS M l qt false, st, jOf sq half rs, M, false) := by unfold doS; rw [if_pos hc]
    rw [hd]
    exact .inl ⟨hc, rfl, fun h => absurd h hc⟩
theorem SInv.same (h : SInv w wr p q jq b F st n sq half rs M qt ad) {w' : World} {e : Ending} {R : Int × Dk × Jn × Kv × Bool} (hp : DoRes wr q jq b p F qt R e w') (hR : R.2 = (st, jOf sq half rs, M, false)) :
    ∃ F', SInv w w' p q jq b F' st n sq half rs M qt ad := by
  obtain ⟨F', h1, h2⟩ := h.law.done hp
  rw [hR] at h1
  exact ⟨F', h1, h.on, h.op, h.ok, h.low, h.is.step h2⟩
end
theorem wide_chg {c : Chg} (h : c.key.size ≤ 9223372036854775807 ∧ c.val.size ≤ 9223372036854775807) : ∀ d ∈ [c], d.key.size ≤ 9223372036854775807 ∧ d.val.size ≤ 9223372036854775807 := fun d hd => by rw [List.mem_singleton.1 hd]; exact h
theorem sizeN402 : sizeN 402 = 200 := rfl
theorem one_out {w : World} {p : Nat} {c : Chg} {t : TypeId} (hb : w.heap[p]? = some (.cells #[.string c.key, .string c.val, .bool c.gone] t (0, 0))) (G : Nat → Prop) (hG : ¬ G p) : ChgO w (some ⟨p, 0, none⟩) [c] G := by
  rcases chg_one_at hb with h | ⟨b, off, h1, h2, h3⟩
  · exact .inl h
  · injection h1 with h1
    injection h1 with h4 h5
    subst h4; subst h5
    exact .inr ⟨p, 0, rfl, h2, hG, h3⟩

set_option maxHeartbeats 8000000 in
theorem storeKeys_walk (ad : Option Addr) (cap : Nat) (l : List Chg) (pf : ByteArray) (w : World) (hl : chgsAt w ad l) (hok : ∀ c ∈ l, c.key.size ≤ 9223372036854775807 ∧ c.val.size ≤ 9223372036854775807) (hlc : l.length ≤ cap) (hcap : cap ≤ 9223372036854775807) (hpf : pf.size ≤ 9223372036854775807) :
    Calls Tryz.prog 4 #[.slice ad l.length cap, .string pf] w fun r w' => r = .returned (.bool true) ∧ Below w.heap.size w w' := by
  obtain ⟨hw0, hf0, hon, har⟩ := format_fresh 402 (by omega) (by omega)
  obtain ⟨st1, hst1⟩ : ∃ st1, st1 = (formatD (freshD 402)).2 := ⟨_, rfl⟩
  have hfd : formatD (freshD 402) = (0, st1) := Prod.ext hf0 hst1.symm
  rw [← hst1] at hon har
  have hKO := fun wr p F hd => open_walk6 (wr := wr) (p := p) (F := F) (M := []) 1048576 hd hon rfl (by omega) (by omega) (by show 200 * 64 ≤ 65536; omega)
  have HW0 := Lib.hid hw0; have HFD := Lib.hid hfd; have HKO := Lib.hid hKO; have HON := Lib.hid hon; have HAR := Lib.hid har
  have HL := Lib.hid hl; have HOK := Lib.hid hok; have HLC := Lib.hid hlc
  clear hw0 hf0 hon har hst1 hfd hKO hl hok
  obtain ⟨m, hm⟩ : ∃ m, m = l.length := ⟨_, rfl⟩
  rw [← hm] at hlc ⊢
  have HM := Lib.hid hm
  clear hm
  go_enter Tryz.func4, Tryz.ntmps4
  go_wp2_with fail
  refine (new_disk 402 w (by omega) (by omega)).mono ?_
  rintro e w1 ⟨p, F, rfl, hb1, hd1, hF1⟩
  have KF := Lib.hid (sformat_walk p F (freshD 402) 0 w1 hd1 (by show 4 ≤ (List.replicate 402 [z64]).length; rw [List.length_replicate]; omega) HW0.out (pendMax_new 402) (by omega))
  rw [HFD.out] at KF
  have HB1 := Lib.hid (And.intro hb1 hF1)
  clear hb1 hd1 hF1
  go_wp2_with fail
  refine KF.out.mono ?_
  intro e w2 hpost
  have he := hpost.1
  subst he
  obtain ⟨F2, hb2, hd2, hF2⟩ := DiskPost.low HB1.out.1 HB1.out.2 hpost
  have HB2 := Lib.hid (And.intro hb2 (And.intro hd2 hF2))
  clear hpost hb2 hd2 hF2 KF HB1
  go_wp2_with fail
  refine (awake6_walk w2).mono ?_
  rintro e w3 ⟨rfl, hb3⟩
  have HB3 := Lib.hid (And.intro (HB2.out.1.trans (hb3.mono HB2.out.1.size)) (And.intro (HB2.out.2.1.below hb3) HB2.out.2.2))
  clear hb3 HB2
  go_wp2_with fail
  refine (HKO.out w3 p F2 HB3.out.2.1).mono ?_
  intro e w4 hpost
  obtain ⟨q, jq, b, rfl, hq3, hL4, hk4⟩ := SLaw.opened HON.out HB3.out.1 HB3.out.2.2 hpost
  have HI4 := Lib.hid (show SInv w w4 p q jq b F2 st1 402 1 0 [] [] 1048576 none from ⟨hL4, HON.out, rfl, hk4, by show 0 ≤ _; omega, .inl rfl⟩)
  clear hL4 hk4 hpost hq3 HKO HB3 HW0 HFD HON
  go_wp2_with fail
  go_loopg [9, 10] m (fun gk v9 v10 wr => ∃ (i sq half : Nat) (rs : List ByteArray) (M : Kv) (F : Nat → Prop) (st : Dk) (adi : Option Addr) (capi : Nat), i + gk = m ∧ v10 = .int .i64 i ∧ v9 = .slice adi M.length capi ∧ i ≤ 30 ∧ SInv w wr p q jq b F st 402 sq half rs M 1048576 adi ∧ st.armed = 0 ∧ sq ≤ 1 + i)
  case atStart => exact ⟨0, 1, 0, [], [], F2, st1, none, 0, by omega, rfl, rfl, by omega, HI4.out, HAR.out, by omega⟩
  case round =>
    clear HI4 HAR
    obtain ⟨i, sq, half, rs, M, F5, st5, adi, capi, hgk, rfl, rfl, hi30, hinv, harm, hsq⟩ := hrel
    have HGK := Lib.hid hgk; have HINV := Lib.hid hinv; have HARM := Lib.hid harm; have HSQ := Lib.hid hsq; have HI30 := Lib.hid hi30
    clear hgk hinv harm hsq hi30
    have hml := len_bytes HINV.out.ok
    have hmlo := HINV.out.low
    obtain ⟨mm, hmm⟩ : ∃ mm, mm = M.length := ⟨_, rfl⟩
    have HMM := Lib.hid hmm; have HML := Lib.hid (show M.length ≤ 1048576 by omega)
    rw [← hmm]
    clear hmm hml hmlo
    by_cases hmore : i < m ∧ i < 30
    · obtain ⟨hm1, hm2⟩ := hmore
      have hm1' : (i : Int) < (m : Int) := by omega
      have hm2' : (i : Int) < 30 := by omega
      have hil : i < l.length := by have := HM.out; omega
      rcases HL.out with hat | ⟨bl, off, rfl, hbl, hcs⟩
      · simp [hat] at hil
      have hcw : ∀ (j : Nat) (u : Value), (chgv l[i])[j]? = some u → wr.cell? ⟨bl, off + i * 3 + j, none⟩ = some u := fun j u hu => (HINV.out.law.low.cell (p := ⟨bl, off + i * 3 + j, none⟩) hbl).trans (hcs i hil j u hu)
      have hzc := HOK.out l[i] (List.getElem_mem hil)
      obtain ⟨⟨ky, vl, gn⟩, hx⟩ : ∃ x, x = l[i] := ⟨_, rfl⟩
      rw [← hx] at hcw hzc
      have hv1 : vl.size ≤ 9223372036854775807 := hzc.2
      have c1 : wr.cell? ⟨bl, off + i * 3 + 1, none⟩ = some (.string vl) := hcw 1 _ rfl
      have HBL := Lib.hid hbl
      have HCW := Lib.hid hcw; have HZC := Lib.hid hzc
      clear hcs hx hcw hzc hbl hil
      by_cases h200 : (vl.size : Int) < 200
      · go_wp2_with (refine wpList_cells 42 _ rfl bl (off + i * 3) rfl rfl [.string ky, .string vl, .bool gn] _ HCW.out Tryz.underlying42 rfl (by kernel_rfl) ?_)
        have hlow := (HINV.out.below ((Below.refl _ _).alloc (Nat.le_refl _) (.cells #[.string ky, .string vl, .bool gn] 42)))
        have hout := one_out (c := ⟨ky, vl, gn⟩) (heap_alloc_top wr (.cells #[.string ky, .string vl, .bool gn] 42)) (stoF q jq b F5) (fun hk => by have := HINV.out.law.sto.ltF _ hk; omega)
        have KDO := Lib.hid (do_walk6 hlow.law hlow.on hlow.ok (by have := HSQ.out; have := HI30.out; omega) (by have := hlow.low; omega) _ 1 [⟨ky, vl, gn⟩] hout (by show 1 ≤ _; omega) (wide_chg HZC.out))
        have hcalm := do_calm (qt := 1048576) hlow.on hlow.op hlow.ok (by have := HSQ.out; have := HI30.out; omega) (by show 200 * 64 ≤ 65536; omega) HARM.out [⟨ky, vl, gn⟩]
        have HLOW := Lib.hid hlow
        clear hlow hout
        rcases hcalm with ⟨h1, h2, _⟩ | ⟨h1, _, st6, sq6, half6, rs6, h3, h4, h5, h6, h7⟩
        · obtain ⟨R, hR⟩ : ∃ R, R = doS st5 (jOf sq half rs) M 1048576 false [⟨ky, vl, gn⟩] := ⟨_, rfl⟩
          rw [← hR] at KDO h1 h2
          have hr0 : (R.1 == 0) = false := by simpa using h1
          refine KDO.out.mono ?_
          intro e w6 hpost
          have he := hpost.1
          subst he
          have HS := Lib.hid (HLOW.out.same hpost h2)
          clear hpost KDO hR h2
          go_wp2_with fail
          go_roundg (gk - 1)
          case measure => have := HGK.out; omega
          case rel =>
            obtain ⟨F6, h6⟩ := HS.out
            exact ⟨i + 1, sq, half, rs, M, F6, st5, adi, capi, by have := HGK.out; omega, by go_num, by rw [HMM.out], by have := HI30.out; omega, h6, HARM.out, by have := HSQ.out; omega⟩
        · rw [h3] at KDO
          refine KDO.out.mono ?_
          intro e w6 hpost
          have he := hpost.1
          subst he
          obtain ⟨F6, h8, h9⟩ := HLOW.out.law.done hpost
          have hko6 := HLOW.out.is.step h9
          have hbw : w.heap.size ≤ wr.heap.size := HINV.out.law.low.size
          have hch : chgsAt w6 (some ⟨bl, off + i * 3, none⟩) [⟨ky, vl, gn⟩] := by
            refine .inr ⟨bl, off + i * 3, rfl, by have := h8.low.size; have := HBL.out; omega, fun k hk j u hu => ?_⟩
            obtain rfl : k = 0 := by simpa using hk
            have h10 := HCW.out j u hu
            have h11 := h9.touch.cellOf (a := ⟨bl, off + i * 3 + j, none⟩) (by have := HBL.out; show bl < (wr.alloc _).heap.size; simp; omega) (HLOW.out.law.out bl HBL.out)
            rw [show off + i * 3 + 0 * 3 + j = off + i * 3 + j by omega, h11]
            exact (((Below.refl wr.heap.size wr).alloc (Nat.le_refl _) (.cells #[.string ky, .string vl, .bool gn] 42)).cell (p := ⟨bl, off + i * 3 + j, none⟩) (by have := HBL.out; show bl < _; omega)).trans h10
          have KA := Lib.hid (after_walk (stoF q jq b F6) adi capi M (some ⟨bl, off + i * 3, none⟩) (cap - i) [⟨ky, vl, gn⟩] w6 hko6 (fun k hk => h8.sto.ltF k hk) hch (by have := HML.out; omega) (by show 1 ≤ _; omega) HLOW.out.ok.ris)
          have hok' := ok_after HLOW.out.ok (checkS_zero h1).2.2.2
          have hlo' := check_bytes h1 1048576 HLOW.out.low (by omega)
          have H8 := Lib.hid h8; have H4 := Lib.hid h4; have H5 := Lib.hid h5; have H6 := Lib.hid h6; have H7 := Lib.hid h7; have HOK' := Lib.hid hok'; have HLO' := Lib.hid hlo'
          rw [← HMM.out] at KA
          have hci : i + 1 ≤ cap := by omega
          have hci2 : ¬ cap - i = 0 := by omega
          have hcib : ((i : Int) + 1 ≤ (cap : Int)) := by omega
          clear h8 h4 h5 h6 h7 h9 hpost KDO hko6 hbw hch hok' hlo' h1 h3 HLOW
          go_wp2_with fail
          refine KA.out.mono ?_
          rintro e w7 ⟨ad7, cap7, rfl, hko7, hb7⟩
          have HF := Lib.hid (show SInv w w7 p q jq b F6 st6 402 sq6 half6 rs6 (afterM M [⟨ky, vl, gn⟩]) 1048576 ad7 from ⟨H8.out.below hb7, H4.out, H5.out, HOK'.out, HLO'.out, hko7⟩)
          clear KA hko7 hb7 hci hci2 hcib
          go_wp2_with fail
          go_roundg (gk - 1)
          case measure => have := HGK.out; omega
          case rel =>
            exact ⟨i + 1, sq6, half6, rs6, _, F6, st6, ad7, cap7, by have := HGK.out; omega, by go_num, rfl, by have := HI30.out; omega, HF.out, H7.out, by have := HSQ.out; have := H6.out; omega⟩
      · go_wp2_with fail
        go_roundg (gk - 1)
        case measure => have := HGK.out; omega
        case rel =>
          exact ⟨i + 1, sq, half, rs, M, F5, st5, adi, capi, by have := HGK.out; omega, by go_num, by rw [HMM.out], by have := HI30.out; omega, HINV.out, HARM.out, by have := HSQ.out; omega⟩
    · have hml := HML.out
      have KS := Lib.hid (same_walk q b _ 1048576 false M adi capi M wr HINV.out.law.sto.cells HINV.out.law.sto.map HINV.out.ok HINV.out.ok HINV.out.is.any (by have := HINV.out.low; omega) (by have := HINV.out.low; omega))
      rw [decide_eq_true rfl] at KS
      have KK := fun w' (hb : Below wr.heap.size wr w') => Lib.hid (keys_walk q b _ _ 1048576 false M pf w' (HINV.out.below hb).law.sto.cells (HINV.out.below hb).law.sto.map HINV.out.ok.ris (by omega))
      have KR := fun w' (hb : Below wr.heap.size wr w') => Lib.hid (rkeys_walk adi capi M pf w' (HINV.out.below hb).is.any (by omega) hpf (fun p hp => by have := mayC_sizes (HINV.out.ok.may p hp); have h5 : p.1.size ≤ 32 := this.2.1; omega))
      simp only [← HMM.out] at KR KS
      clear hml
      by_cases hlt : (i : Int) < (m : Int)
      · have h30 : ¬ (i : Int) < 30 := by omega
        go_wp2_with fail
        refine KS.out.mono ?_
        rintro e w5 ⟨rfl, hb5⟩
        have B5 := Lib.hid hb5
        clear KS hb5
        go_wp2_with fail
        refine (KK w5 B5.out).out.mono ?_
        rintro e w6 ⟨v6, rfl, hr6, hb6⟩
        have B6 := Lib.hid (B5.out.trans (hb6.mono B5.out.size))
        obtain ⟨ad6, cap6, rfl, hs6⟩ := hr6.form
        have S6 := Lib.hid hs6
        clear KK hb6 hr6 hs6 B5
        go_wp2_with fail
        refine (KR w6 B6.out).out.mono ?_
        rintro e w7 ⟨v7, rfl, hr7, hb7⟩
        have B7 := Lib.hid (B6.out.trans (hb7.mono B6.out.size))
        obtain ⟨ad7, cap7, rfl, hs7⟩ := hr7.form
        have S67 := Lib.hid (strsAt_below S6.out (Nat.le_refl _) hb7)
        have KT := Lib.hid (texts_walk ad6 ad7 cap6 cap7 (keysM M pf) (keysM M pf) w7 S67.out hs7 (by
          unfold keysM
          rw [List.length_map]
          refine Nat.le_trans (List.length_filter_le _ _) ?_
          have := HML.out; omega))
        rw [decide_eq_true rfl] at KT
        obtain ⟨ks, hks⟩ : ∃ ks, ks = keysM M pf := ⟨_, rfl⟩
        rw [← hks] at KT ⊢
        clear KR hb7 hr7 hs7 B6 hks S6 S67
        go_wp2_with fail
        refine KT.out.mono ?_
        rintro e w8 ⟨rfl, hb8⟩
        have HF := Lib.hid (HINV.out.below (B7.out.trans (hb8.mono B7.out.size))).law.low
        clear KT hb8 B7
        go_wp2_with fail
        go_ret
        exact ⟨rfl, HF.out⟩
      · have h30 : decide ((i : Int) < (m : Int)) = false := decide_eq_false hlt
        go_wp2_with fail
        refine KS.out.mono ?_
        rintro e w5 ⟨rfl, hb5⟩
        have B5 := Lib.hid hb5
        clear KS hb5
        go_wp2_with fail
        refine (KK w5 B5.out).out.mono ?_
        rintro e w6 ⟨v6, rfl, hr6, hb6⟩
        have B6 := Lib.hid (B5.out.trans (hb6.mono B5.out.size))
        obtain ⟨ad6, cap6, rfl, hs6⟩ := hr6.form
        have S6 := Lib.hid hs6
        clear KK hb6 hr6 hs6 B5
        go_wp2_with fail
        refine (KR w6 B6.out).out.mono ?_
        rintro e w7 ⟨v7, rfl, hr7, hb7⟩
        have B7 := Lib.hid (B6.out.trans (hb7.mono B6.out.size))
        obtain ⟨ad7, cap7, rfl, hs7⟩ := hr7.form
        have S67 := Lib.hid (strsAt_below S6.out (Nat.le_refl _) hb7)
        have KT := Lib.hid (texts_walk ad6 ad7 cap6 cap7 (keysM M pf) (keysM M pf) w7 S67.out hs7 (by
          unfold keysM
          rw [List.length_map]
          refine Nat.le_trans (List.length_filter_le _ _) ?_
          have := HML.out; omega))
        rw [decide_eq_true rfl] at KT
        obtain ⟨ks, hks⟩ : ∃ ks, ks = keysM M pf := ⟨_, rfl⟩
        rw [← hks] at KT ⊢
        clear KR hb7 hr7 hs7 B6 hks S6 S67
        go_wp2_with fail
        refine KT.out.mono ?_
        rintro e w8 ⟨rfl, hb8⟩
        have HF := Lib.hid (HINV.out.below (B7.out.trans (hb8.mono B7.out.size))).law.low
        clear KT hb8 B7
        go_wp2_with fail
        go_ret
        exact ⟨rfl, HF.out⟩
end Go.Proofs.YtjjejkhekmpgcaaGreat
