/-
  Layer 6: the walk of StoreKeeps.
-/
import Derived.Test.YtjjejkhekmpgcaaGreatMsM
import Derived.Deep.CutBlock
namespace Go.Proofs.YtjjejkhekmpgcaaGreat
set_option maxRecDepth 4000
open Go.RowKit

set_option maxHeartbeats 32000000 in
theorem storeKeeps_walk (mu : Nat) (qt : Int) (ad : Option Addr) (cap : Nat) (l : List SAct) (w : World) (hmu : mu ≤ 255) (hq : wide5 qt) (hl : sactsAt w ad l) (hok : ∀ a ∈ l, sactOk w a) (hll : l.length ≤ 9223372036854775807) :
    Calls Tryz.prog 6 #[.int .u8 mu, .int .i64 qt, .slice ad l.length cap] w fun r w' => r = .returned (.bool true) ∧ Below w.heap.size w w' := by
  obtain ⟨n, hn⟩ : ∃ n, n = mu + 4 := ⟨_, rfl⟩
  have hn4 : 4 ≤ n := by omega
  have hn259 : n ≤ 259 := by omega
  have hz : sizeN n * 64 ≤ 65536 := by unfold sizeN; omega
  obtain ⟨hf, hhf⟩ : ∃ hf, hf = sizeN n * 64 := ⟨_, rfl⟩
  have hhalf : 64 * (((mu : Int) + 2) / 2) = (hf : Int) := by unfold sizeN at hhf; omega
  obtain ⟨hw0, hf0, hon, har⟩ := format_fresh n hn4 (by omega)
  obtain ⟨st1, hst1⟩ : ∃ st1, st1 = (formatD (freshD n)).2 := ⟨_, rfl⟩
  have hfd : formatD (freshD n) = (0, st1) := Prod.ext hf0 hst1.symm
  rw [← hst1] at hon har
  have HW0 := Lib.hid hw0; have HFD := Lib.hid hfd; have HON := Lib.hid hon; have HAR := Lib.hid har; have HZ := Lib.hid hz
  have HL := Lib.hid hl; have HOK := Lib.hid hok; have HN := Lib.hid hn; have HN4 := Lib.hid hn4; have HHF := Lib.hid hhf; have HQ := Lib.hid hq
  have HHALF := Lib.hid hhalf
  clear hw0 hf0 hon har hst1 hfd hl hok hz hn hhf hq hhalf
  obtain ⟨m, hm⟩ : ∃ m, m = l.length := ⟨_, rfl⟩
  rw [← hm] at hll ⊢
  have HM := Lib.hid hm
  clear hm
  by_cases hbad : qt < 0 ∨ 1048576 < qt
  · have KB := fun w' => Lib.hid (fun d : Option Addr => sopen_arg d qt w' hbad)
    have hq9 : qt < 0 ∨ (¬ qt < 0 ∧ 1048576 < qt) := by omega
    clear hbad
    go_enter Tryz.func6, Tryz.ntmps6
    go_upto_region 2 with fail
    rw [HHALF.out]
    have hmn : ((mu : Int) + 4) = (n : Int) := by have := HN.out; omega
    go_wp2_with fail
    try rw [hmn]
    clear hmn
    refine (new_disk n w (by omega) (by omega)).mono ?_
    rintro e w1 ⟨p, F, rfl, hb1, hd1, hF1⟩
    have KF := Lib.hid (sformat_walk p F (freshD n) 0 w1 hd1 (by show 4 ≤ (List.replicate n [z64]).length; rw [List.length_replicate]; exact HN4.out) HW0.out (pendMax_new n) (by omega))
    rw [HFD.out] at KF
    have HB1 := Lib.hid (And.intro hb1 hF1)
    clear hb1 hd1 hF1
    go_wp2_with fail
    refine KF.out.mono ?_
    intro e w2 hpost
    have he := hpost.1
    subst he
    obtain ⟨F2, hb2, hd2, hF2⟩ := DiskPost.low HB1.out.1 HB1.out.2 hpost
    have HB2 := Lib.hid (And.intro hb2 (And.intro hd2 hF2))
    clear hpost hb2 hd2 hF2 KF HB1
    go_wp2_with fail
    refine (awake6_walk w2).mono ?_
    rintro e w3 ⟨rfl, hb3⟩
    have HB3 := Lib.hid (And.intro (HB2.out.1.trans (hb3.mono HB2.out.1.size)) (And.intro (HB2.out.2.1.below hb3) HB2.out.2.2))
    clear hb3 HB2
    go_wp2_with fail
    refine ((KB w3).out _).mono ?_
    rintro e w4 ⟨rfl, hb4⟩
    have HF := Lib.hid (HB3.out.1.trans (hb4.mono HB3.out.1.size))
    clear hb4 HB3 KB HL HOK
    rcases hq9 with hq9 | ⟨hq8, hq9⟩
    · go_wp2_with fail
      go_ret
      exact ⟨rfl, HF.out⟩
    · go_wp2_with fail
      go_ret
      exact ⟨rfl, HF.out⟩
  · have hq0 : 0 ≤ qt := by omega
    have hq1 : qt ≤ 1048576 := by omega
    have hq2 : ¬ qt < 0 := by omega
    have hq3 : ¬ 1048576 < qt := by omega
    clear hbad
    go_enter Tryz.func6, Tryz.ntmps6
    go_upto_region 2 with fail
    rw [HHALF.out]
    have hmn : ((mu : Int) + 4) = (n : Int) := by have := HN.out; omega
    go_wp2_with fail
    try rw [hmn]
    clear hmn
    refine (new_disk n w (by omega) (by omega)).mono ?_
    rintro e w1 ⟨p, F, rfl, hb1, hd1, hF1⟩
    have KF := Lib.hid (sformat_walk p F (freshD n) 0 w1 hd1 (by show 4 ≤ (List.replicate n [z64]).length; rw [List.length_replicate]; exact HN4.out) HW0.out (pendMax_new n) (by omega))
    rw [HFD.out] at KF
    have HB1 := Lib.hid (And.intro hb1 hF1)
    clear hb1 hd1 hF1
    go_wp2_with fail
    refine KF.out.mono ?_
    intro e w2 hpost
    have he := hpost.1
    subst he
    obtain ⟨F2, hb2, hd2, hF2⟩ := DiskPost.low HB1.out.1 HB1.out.2 hpost
    have HB2 := Lib.hid (And.intro hb2 (And.intro hd2 hF2))
    clear hpost hb2 hd2 hF2 KF HB1
    go_wp2_with fail
    refine (awake6_walk w2).mono ?_
    rintro e w3 ⟨rfl, hb3⟩
    have HB3 := Lib.hid (And.intro (HB2.out.1.trans (hb3.mono HB2.out.1.size)) (And.intro (HB2.out.2.1.below hb3) HB2.out.2.2))
    clear hb3 HB2
    have KO := Lib.hid (open_walk6 (wr := w3) (p := p) (F := F2) (M := []) qt HB3.out.2.1 HON.out rfl hq0 hq1 HZ.out)
    go_wp2_with fail
    refine KO.out.mono ?_
    intro e w4 hpost
    obtain ⟨q, jq, b, rfl, hL4, hk4, hb4, hf4⟩ := SLaw.opened2 HON.out HB3.out.1 HB3.out.2.2 hpost
    have HI4 := Lib.hid (show SInv w w4 p q jq b F2 st1 n 1 0 [] [] qt none from ⟨hL4, HON.out, rfl, hk4, by show 0 ≤ _; omega, .inl rfl⟩)
    clear hL4 hk4 hb4 hf4 hpost KO HB3 HW0 HFD HON
    go_wp2_with fail
    go_loopg [10, 12, 13] m (fun gk v10 v12 v13 wr => ∃ (i sq half q jq b : Nat) (rs : List ByteArray) (M : Kv) (F : Nat → Prop) (st : Dk) (adi : Option Addr) (capi : Nat), i + gk = m ∧ v13 = .int .i64 i ∧ v12 = .slice adi M.length capi ∧ v10 = .pointer (some ⟨q, 0, none⟩) ∧ i ≤ 30 ∧ SInv w wr p q jq b F st n sq half rs M qt adi ∧ st.armed = 0 ∧ sq ≤ 1 + i)
    case atStart => exact ⟨0, 1, 0, q, jq, b, [], [], F2, st1, none, 0, by omega, rfl, rfl, rfl, by omega, HI4.out, HAR.out, by omega⟩
    case round =>
      clear HI4 HAR
      obtain ⟨i, sq, half, q, jq, b, rs, M, F5, st5, adi, capi, hgk, rfl, rfl, rfl, hi30, hinv, harm, hsq⟩ := hrel
      have HGK := Lib.hid hgk; have HINV := Lib.hid hinv; have HARM := Lib.hid harm; have HSQ := Lib.hid hsq; have HI30 := Lib.hid hi30
      clear hgk hinv harm hsq hi30
      have hml := len_bytes HINV.out.ok
      have hmlo := HINV.out.low
      obtain ⟨mm, hmm⟩ : ∃ mm, mm = M.length := ⟨_, rfl⟩
      have HMM := Lib.hid hmm; have HML := Lib.hid (show M.length ≤ 1048576 by omega)
      rw [← hmm]
      clear hmm hml hmlo
      by_cases hmore : i < m ∧ i < 30
      · obtain ⟨hm1, hm2⟩ := hmore
        have hm1' : (i : Int) < (m : Int) := by omega
        have hm2' : (i : Int) < 30 := by omega
        have hil : i < l.length := by have := HM.out; omega
        rcases HL.out with hat | ⟨bl, off, rfl, hbl, hcs⟩
        · simp [hat] at hil
        have hro := HOK.out l[i] (List.getElem_mem hil)
        have hcw : ∀ (j : Nat) (u : Value), (sactv l[i])[j]? = some u → wr.cell? ⟨bl, off + i * 4 + j, none⟩ = some u := fun j u hu => (HINV.out.law.low.cell (p := ⟨bl, off + i * 4 + j, none⟩) hbl).trans (hcs i hil j u hu)
        obtain ⟨a, ha⟩ : ∃ a, a = l[i] := ⟨_, rfl⟩
        rw [← ha] at hro hcw
        have HRO := Lib.hid hro; have HCW := Lib.hid hcw
        clear ha hro hcw hcs hbl hil
        go_upto_region 15 with (refine wpList_cells 65 _ rfl bl (off + i * 4) rfl rfl (sactv a) _ HCW.out Tryz.underlying65 rfl info_act6 ?_; unfold sactv)
        have g1 := heap_alloc_top wr (.cells #[.slice a.lad a.l.length a.lcap, .int .i64 a.arm, .slice a.kad a.keep.length a.kcap, .bool a.again] 65)
        have hbW : Below wr.heap.size wr (wr.alloc (.cells #[.slice a.lad a.l.length a.lcap, .int .i64 a.arm, .slice a.kad a.keep.length a.kcap, .bool a.again] 65)) := (Below.refl _ _).alloc (Nat.le_refl _) _
        obtain ⟨ab, hab⟩ : ∃ ab, ab = wr.heap.size := ⟨_, rfl⟩
        rw [← hab] at g1 ⊢
        generalize wr.alloc (.cells #[.slice a.lad a.l.length a.lcap, .int .i64 a.arm, .slice a.kad a.keep.length a.kcap, .bool a.again] 65) = W at g1 hbW ⊢
        have hactW : SActO W ab a (stoF q jq b F5) := ⟨g1, fun hf => by have := HINV.out.law.sto.ltF ab hf; omega⟩
        have HI6 := Lib.hid (HINV.out.below hbW); have HA6 := Lib.hid hactW
        have c0 : W.cell? ⟨ab, 0, none⟩ = some (.slice a.lad a.l.length a.lcap) := cell_at (j := 0) g1 rfl
        have hlw : ∀ w', Below w.heap.size w w' → chgsAt w' a.lad a.l := fun w' hb => chgsAt_below HRO.out.chgs (Nat.le_refl _) hb
        have HLW := Lib.hid hlw
        have hlx : a.l.length ≤ 9223372036854775807 := by have := HRO.out.lcap; have := HRO.out.lmax; omega
        have HLX := Lib.hid hlx
        have KLI := Lib.hid (lightC_walk a.lad a.lcap a.l W (hlw W HI6.out.law.low) hlx)
        clear g1 hbW hab hactW HINV HCW hlw hlx
        obtain ⟨nl, hnl⟩ : ∃ nl, nl = a.l.length := ⟨_, rfl⟩
        have HNL := Lib.hid hnl
        rw [← hnl] at KLI c0
        clear hnl
        cases hli : lightC a.l with
        | false =>
          rw [hli] at KLI
          go_wp2_with fail
          refine KLI.out.mono ?_
          rintro e w6 ⟨rfl, rfl⟩
          go_wp2_with fail
          go_roundg (gk - 1)
          case measure => have := HGK.out; omega
          case rel => exact ⟨i + 1, sq, half, q, jq, b, rs, M, F5, st5, adi, capi, by have := HGK.out; omega, by go_num, by rw [HMM.out], rfl, by have := HI30.out; omega, HI6.out, HARM.out, by have := HSQ.out; omega⟩
        | true =>
          rw [hli] at KLI
          have hsz := lightC_size hli
          have HSZ := Lib.hid hsz
          have hck := checkS_no12 M a.l qt
          have KC := Lib.hid (lcheck_walk adi capi M a.lad a.lcap a.l qt W HI6.out.is.any HI6.out.ok (HLW.out W HI6.out.law.low) HLX.out HRO.out.each (by have := HI6.out.low; omega))
          have KD := fun w' (hb : Below W.heap.size W w') => Lib.hid (scheck_walk q b _ qt false M a.lad a.lcap a.l w' (HI6.out.below hb).law.sto.cells (HI6.out.below hb).law.sto.map HI6.out.ok.ris (HLW.out w' (HI6.out.below hb).law.low) HLX.out HRO.out.each (by have := HI6.out.low; omega))
          rw [← HNL.out, ← HMM.out] at KC
          simp only [← HNL.out] at KD
          obtain ⟨ck, hckd⟩ : ∃ ck, ck = checkS M a.l qt false := ⟨_, rfl⟩
          rw [← hckd] at KC
          simp only [← hckd] at KD
          have HCK := Lib.hid hckd
          have hckk : (ck == ck) = true := by simp
          clear hli hsz hck hckd
          go_wp2_with fail
          refine KLI.out.mono ?_
          rintro e w6 ⟨rfl, rfl⟩
          clear KLI
          go_wp2_with fail
          refine KC.out.mono ?_
          rintro e w7 ⟨rfl, hb7⟩
          have HI7 := Lib.hid (HI6.out.below hb7); have HA7 := Lib.hid (HA6.out.step (Stp.ofBelow _ hb7))
          have KD7 := Lib.hid (KD w7 hb7).out
          have c0 : w7.cell? ⟨ab, 0, none⟩ = some (.slice a.lad nl a.lcap) := by rw [HNL.out]; exact cell_at (j := 0) HA7.out.1 rfl
          clear hb7 KC KD HI6 HA6
          go_wp2_with fail
          refine KD7.out.mono ?_
          rintro e w8 ⟨rfl, hb8⟩
          have HI8 := Lib.hid (HI7.out.below hb8); have HA8 := Lib.hid (HA7.out.step (Stp.ofBelow _ hb8))
          have c0 : w8.cell? ⟨ab, 0, none⟩ = some (.slice a.lad nl a.lcap) := by rw [HNL.out]; exact cell_at (j := 0) HA8.out.1 rfl
          clear hb8 KD7 HI7 HA7
          go_upto_if 102 with fail
          go_cut [15, 16] from 71 to 194 (fun s15 s16 wx => ∃ (adn : Option Addr) (capn : Nat) (Mn : Kv), s15 = .int .i64 (wantS n M a.l qt) ∧ s16 = .slice adn Mn.length capn ∧ SInv w wx p q jq b F5 st5 n sq half rs M qt adi ∧ SActO wx ab a (stoF q jq b F5) ∧ KvO wx adn Mn (stoF q jq b F5) ∧ (wantS n M a.l qt = 0 → Mn = afterM M a.l))
          case first =>
            by_cases hc0 : ck = 0
            · subst hc0
              have hc0 := HCK.out
              have hok' := ok_after HI8.out.ok (checkS_zero hc0.symm).2.2.2
              have hlo' := check_bytes hc0.symm 1048576 HI8.out.low (by omega)
              have hln' := len_bytes hok'
              have KA := Lib.hid (after_walk (stoF q jq b F5) adi capi M a.lad a.lcap a.l w8 HI8.out.is (fun k hk => HI8.out.law.sto.ltF k hk) (HLW.out w8 HI8.out.law.low) (by have := HML.out; omega) (by have := HSZ.out.2; omega) HI8.out.ok.ris)
              have KF := fun adn capn w' (h : KvO w' adn (afterM M a.l) (stoF q jq b F5)) => Lib.hid (lfull_walk adn capn (afterM M a.l) hf w' h.any (by omega) (fun x hx => by have := mayC_sizes (hok'.may x hx); exact ⟨this.2.1, this.2.2.1⟩) (by have := HHF.out; have := HZ.out; omega))
              have hwt : wantS n M a.l qt = if hf < (allR (recsM (afterM M a.l))).length then 10 else 0 := by
                unfold wantS
                rw [if_neg (by rw [← hc0]; simp), HHF.out]
              rw [← HNL.out, ← HMM.out] at KA
              obtain ⟨Mn, hMn⟩ : ∃ Mn, Mn = afterM M a.l := ⟨_, rfl⟩
              simp only [← hMn] at KA KF hwt
              have HWT := Lib.hid hwt; have HMN := Lib.hid hMn
              rw [← hwt] at KF
              clear hc0 hok' hlo' hln' hwt hMn
              obtain ⟨want, hwant⟩ : ∃ want, want = wantS n M a.l qt := ⟨_, rfl⟩
              simp only [← hwant] at KF
              have HW := Lib.hid hwant
              clear hwant
              go_wp2_with fail
              refine KA.out.mono ?_
              rintro e w9 ⟨adn, capn, rfl, hkn, hb9⟩
              have KF9 := Lib.hid (KF adn capn w9 hkn).out
              obtain ⟨ln, hln⟩ : ∃ ln, ln = Mn.length := ⟨_, rfl⟩
              rw [← hln] at KF9 ⊢
              have HLN := Lib.hid hln
              have HI9 := Lib.hid (HI8.out.below hb9); have HA9 := Lib.hid (HA8.out.step (Stp.ofBelow _ hb9)); have HK9 := Lib.hid hkn
              clear hb9 hkn KA KF hln HI8 HA8
              go_wp2_with fail
              refine KF9.out.mono ?_
              rintro e w10 ⟨rfl, hb10⟩
              have HI10 := Lib.hid (HI9.out.below hb10); have HA10 := Lib.hid (HA9.out.step (Stp.ofBelow _ hb10)); have HK10 := Lib.hid (HK9.out.below hb10)
              clear hb10 KF9 HI9 HA9 HK9
              go_wp2_with fail
              go_meet
              exact ⟨adn, capn, Mn, by rw [HW.out], by rw [HLN.out], HI10.out, HA10.out, HK10.out, fun _ => HMN.out⟩
            · have hcb : (ck == 0) = false := by simpa using hc0
              have HC0 := Lib.hid hc0
              clear hc0
              go_wp2_with fail
              go_meet
              have hw : wantS n M a.l qt = ck := by unfold wantS; rw [← HCK.out, if_pos HC0.out]
              exact ⟨adi, capi, M, by rw [hw], by rw [HMM.out], HI8.out, HA8.out, HI8.out.is, fun h => absurd (hw.symm.trans h) HC0.out⟩
          case rest =>
          obtain ⟨adn, capn, Mn, rfl, rfl, hinv, hact, hkn, hmn⟩ := hcut
          obtain ⟨ln, hln⟩ : ∃ ln, ln = Mn.length := ⟨_, rfl⟩
          rw [← hln]
          have HLN := Lib.hid hln
          have hsq : sq < 9223372036854775807 := by have := HSQ.out; have := HI30.out; omega
          have on0 := hinv.on.congr (st' := armD st5 a.arm) rfl rfl
          have KAR := Lib.hid (arm_walk p F5 st5 a.arm wc HRO.out.arm.2 hinv.law.sto.disk)
          have c1 : wc.cell? ⟨ab, 1, none⟩ = some (.int .i64 a.arm) := cell_at (j := 1) hact.1 rfl
          have HIX := Lib.hid hinv; have HAX := Lib.hid hact; have HKX := Lib.hid hkn; have HMX := Lib.hid hmn; have HON0 := Lib.hid on0; have HSQ0 := Lib.hid hsq
          obtain ⟨want, hwant⟩ : ∃ want, want = wantS n M a.l qt := ⟨_, rfl⟩
          rw [← hwant]
          have HW := Lib.hid hwant
          clear hinv hact hkn hmn on0 hsq hwant hln hckk HCK HI8 HA8 c0
          go_wp2_with fail
          refine KAR.out.mono ?_
          rintro e w9 ⟨rfl, hd9, ht9⟩
          obtain ⟨hL9, hs9⟩ := HIX.out.law.armed hd9 ht9
          have HL9 := Lib.hid hL9; have HA9 := HAX.out.step hs9; have HI9 := Lib.hid (HIX.out.is.step hs9); have HK9 := Lib.hid (HKX.out.step hs9)
          have c0 : w9.cell? ⟨ab, 0, none⟩ = some (.slice a.lad nl a.lcap) := by rw [HNL.out]; exact cell_at (j := 0) HA9.1 rfl
          replace HA9 := Lib.hid HA9
          have KDO := Lib.hid (do_walk6 hL9 HON0.out HIX.out.ok HSQ0.out (by have := HIX.out.low; omega) a.lad a.lcap a.l (hL9.chg HRO.out.chgs) HLX.out HRO.out.each)
          obtain ⟨R, hR⟩ : ∃ R, R = doS (armD st5 a.arm) (jOf sq half rs) M qt false a.l := ⟨_, rfl⟩
          rw [← hR] at KDO
          rw [← HNL.out] at KDO
          have HR := Lib.hid hR
          clear hd9 ht9 hL9 hs9 KAR HAX c1 hR
          go_wp2_with fail
          refine KDO.out.mono ?_
          intro e w10 hpost
          have he := hpost.1
          subst he
          obtain ⟨F10, hL10, hs10⟩ := HL9.out.done hpost
          have HL10 := Lib.hid hL10; have HA10 := Lib.hid (HA9.out.step hs10); have HI10 := Lib.hid (HI9.out.step hs10); have HK10 := Lib.hid (HK9.out.step hs10)
          have KA0 := Lib.hid (arm_walk p F10 R.2.1 0 w10 (by omega) hL10.sto.disk)
          clear hpost hL10 hs10 KDO HL9 HA9 HI9 HK9 c0
          obtain ⟨g, hg⟩ : ∃ g, g = R.1 := ⟨_, rfl⟩
          rw [← hg]
          have HG := Lib.hid hg
          clear hg
          go_wp2_with fail
          refine KA0.out.mono ?_
          rintro e w11 ⟨rfl, hd11, ht11⟩
          obtain ⟨hL11, hs11⟩ := HL10.out.armed hd11 ht11
          have HA11 := Lib.hid (HA10.out.step hs11)
          have hdone := done_of HON0.out HIX.out.op HIX.out.ok HIX.out.low HSQ0.out HZ.out hq1 a.l Mn HMX.out R HR.out hL11 (HI10.out.step hs11) (HK10.out.step hs11)
          rw [← HG.out] at hdone
          have HDONE := Lib.hid hdone
          clear hdone hd11 ht11 hL11 hs11 HL10 HA10 HI10 HK10 KA0 HR HG HIX HKX HMX HON0
          have hno12 := wantS_no12 n M a.l qt
          rw [← HW.out] at hno12
          have HNO := Lib.hid hno12
          have hga : (want ≠ 0 ∧ g = want) ∨ (want = 0 ∧ (g = 0 ∨ g = 12)) := by
            rcases HDONE.out with ⟨h1, h2, _⟩ | ⟨h1, h2, _⟩ | ⟨h1, h2, _⟩
            · rw [← HW.out] at h1 h2; exact .inl ⟨h1, h2⟩
            · rw [← HW.out] at h1; exact .inr ⟨h1, .inl h2⟩
            · rw [← HW.out] at h1; exact .inr ⟨h1, .inr h2⟩
          have HGA := Lib.hid hga
          clear hga hno12
          go_upto_block 2 with fail
          go_cut [12, 15, 16, 17] from 71 to 194 (fun s12 s15 s16 s17 wx => ∃ (M2 Mn2 : Kv) (adi2 adn2 : Option Addr) (capi2 capn2 : Nat), s15 = .int .i64 want ∧ s17 = .int .i64 g ∧ s12 = .slice adi2 M2.length capi2 ∧ s16 = .slice adn2 Mn2.length capn2 ∧ SDown w wx p F10 (armD R.2.1 0) n (sq + 1) M2 Mn2 adi2 adn2 ∧ SActO wx ab a F10 ∧ (g ≠ 12 → ∃ sq2 half2 rs2, SInv w wx p q jq b F10 (armD R.2.1 0) n sq2 half2 rs2 M2 qt adi2 ∧ sq2 ≤ sq + 1))
          case first =>
            rcases HDONE.out with ⟨h1, h2, half2, rs2, h3, h4⟩ | ⟨h1, h2, sq2, half2, rs2, h3, h4, h5⟩ | ⟨h1, h2, h3, j2, h4⟩
            · have HX := Lib.hid (show SDown w w11 p F10 (armD R.2.1 0) n (sq + 1) M M adi adi ∧ SActO w11 ab a F10 ∧ (g ≠ 12 → ∃ sq2 half2 rs2, SInv w w11 p q jq b F10 (armD R.2.1 0) n sq2 half2 rs2 M qt adi ∧ sq2 ≤ sq + 1) from ⟨h3.down (by omega), HA11.out.less (fun k hk => .inl hk), fun _ => ⟨sq, half2, rs2, h3, by omega⟩⟩)
              rw [← HW.out] at h1 h2
              subst h2
              have hb : (g == 0) = false := by simpa using h1
              clear h3 h4
              go_wp2_with fail
              go_meet
              exact ⟨M, M, adi, adi, capi, capi, rfl, rfl, by rw [HMM.out], by rw [HMM.out], HX.out⟩
            · have hw0 : want = 0 := by rw [HW.out]; exact h1
              subst hw0
              subst h2
              have HX := Lib.hid (show SDown w w11 p F10 (armD R.2.1 0) n (sq + 1) Mn Mn adn adn ∧ SActO w11 ab a F10 ∧ ((0 : Int) ≠ 12 → ∃ sq2 half2 rs2, SInv w w11 p q jq b F10 (armD R.2.1 0) n sq2 half2 rs2 Mn qt adn ∧ sq2 ≤ sq + 1) from ⟨h3.down h5, HA11.out.less (fun k hk => .inl hk), fun _ => ⟨sq2, half2, rs2, h3, h5⟩⟩)
              clear h1 h3 h4 h5
              go_wp2_with fail
              go_meet
              exact ⟨Mn, Mn, adn, adn, capn, capn, rfl, rfl, by rw [HLN.out], by rw [HLN.out], HX.out⟩
            · have hw0 : want = 0 := by rw [HW.out]; exact h1
              subst hw0
              subst h2
              have KB := Lib.hid (sbroken_walk q b j2 _ qt true w11 h4)
              have HX := Lib.hid (show SDown w w11 p F10 (armD R.2.1 0) n (sq + 1) M Mn adi adn ∧ SActO w11 ab a F10 ∧ ((12 : Int) ≠ 12 → ∃ sq2 half2 rs2, SInv w w11 p q jq b F10 (armD R.2.1 0) n sq2 half2 rs2 M qt adi ∧ sq2 ≤ sq + 1) from ⟨h3, HA11.out.less (fun k hk => .inl hk), fun h => absurd rfl h⟩)
              clear h1 h3 h4
              go_wp2_with fail
              refine KB.out.mono ?_
              rintro e w12 ⟨rfl, rfl⟩
              clear KB
              go_wp2_with fail
              go_meet
              exact ⟨M, Mn, adi, adn, capi, capn, rfl, rfl, by rw [HMM.out], by rw [HLN.out], HX.out⟩
          case rest =>
          obtain ⟨M2, Mn2, adi2, adn2, capi2, capn2, rfl, rfl, rfl, rfl, hdn, hac, hgo⟩ := hcut
          have HDN := Lib.hid hdn; have HAC := Lib.hid hac; have HGO := Lib.hid hgo
          have c3 : wc.cell? ⟨ab, 3, none⟩ = some (.bool a.again) := cell_at (j := 3) hac.1 rfl
          have c2 : wc.cell? ⟨ab, 2, none⟩ = some (.slice a.kad a.keep.length a.kcap) := cell_at (j := 2) hac.1 rfl
          clear hdn hac hgo HDONE HA11 HGA HNO
          obtain ⟨m2, hm2⟩ : ∃ m2, m2 = M2.length := ⟨_, rfl⟩
          obtain ⟨n2, hn2⟩ : ∃ n2, n2 = Mn2.length := ⟨_, rfl⟩
          rw [← hm2, ← hn2]
          have HM2 := Lib.hid hm2; have HN2 := Lib.hid hn2
          obtain ⟨st2, hst2⟩ : ∃ st2, st2 = armD R.2.1 0 := ⟨_, rfl⟩
          rw [← hst2] at HDN HGO
          have HA2 := Lib.hid (show st2.armed = 0 by rw [hst2]; rfl)
          clear hm2 hn2 hst2
          have hcase : (g ≠ 12 ∧ a.again = false) ∨ g = 12 ∨ (g ≠ 12 ∧ a.again = true) := by
            by_cases hg : g = 12
            · exact .inr (.inl hg)
            · cases hag : a.again
              · exact .inl ⟨hg, rfl⟩
              · exact .inr (.inr ⟨hg, rfl⟩)
          rcases hcase with ⟨hg, hag⟩ | hg | ⟨hg, hag⟩
          · obtain ⟨sq2, half2, rs2, hI, hs2⟩ := HGO.out hg
            rw [hag] at c3
            have hz : (g == 12) = false := by simpa using hg
            have KS := Lib.hid (same_walk q b _ qt false M2 adi2 capi2 M2 wc hI.law.sto.cells hI.law.sto.map hI.ok hI.ok hI.is.any (by have := hI.low; omega) (by have := hI.low; omega))
            rw [decide_eq_true rfl, ← HM2.out] at KS
            have KQ := fun w' (hb : Below wc.heap.size wc w') => Lib.hid (squota_walk q b _ _ qt false w' (hI.below hb).law.sto.cells)
            have HI2 := Lib.hid hI; have HS2 := Lib.hid hs2
            clear hI hs2
            go_wp2_with fail
            refine KS.out.mono ?_
            rintro e w12 ⟨rfl, hb12⟩
            have HI12 := Lib.hid (HI2.out.below hb12)
            have KQ2 := Lib.hid (KQ w12 hb12).out
            clear hb12 KS KQ HI2
            have hqq : (qt == qt) = true := by simp
            go_wp2_with fail
            refine KQ2.out.mono ?_
            rintro e w13 ⟨rfl, rfl⟩
            clear KQ2
            go_wp2_with fail
            go_roundg (gk - 1)
            case measure => have := HGK.out; omega
            case rel => exact ⟨i + 1, sq2, half2, q, jq, b, rs2, M2, F10, st2, adi2, capi2, by have := HGK.out; omega, by go_num, by rw [HM2.out], rfl, by have := HI30.out; omega, HI12.out, HA2.out, by have := HSQ.out; have := HS2.out; omega⟩
          · subst hg
            try rw [hag] at c3
            have hki : intsAt wc a.kad a.keep := intsAt_touch HRO.out.keep (Touch.ofBelow (fun _ => False) HDN.out.low) (fun _ _ _ hf => hf)
            have KC := Lib.hid (crash_walk p F10 st2 a.keep a.kad a.kcap wc HDN.out.disk (fun i => by have := HDN.out.pend i; omega) hki (skeep_of HRO.out HDN.out.hF) HRO.out.kmax (fun x hx => HRO.out.kint x hx))
            obtain ⟨sq3, half3, got, Mg, hon3, hop3, hMg, hsq3⟩ := HDN.out.shows a.keep
            have hac3 : (crashD st2 a.keep).armed = 0 := rfl
            obtain ⟨st3, hst3⟩ : ∃ st3, st3 = crashD st2 a.keep := ⟨_, rfl⟩
            rw [← hst3] at KC hon3 hac3
            have HON3 := Lib.hid hon3; have HMG := Lib.hid hMg; have HOP3 := Lib.hid hop3; have HSQ3 := Lib.hid hsq3; have HAC3 := Lib.hid hac3
            clear hki hon3 hMg hop3 hsq3 hac3 hst3
            obtain ⟨kn, hkn⟩ : ∃ kn, kn = a.keep.length := ⟨_, rfl⟩
            rw [← hkn] at KC c2
            clear hkn
            go_wp2_with fail
            refine KC.out.mono ?_
            intro e w12 hpost
            have he := hpost.1
            subst he
            obtain ⟨_, F12, hd12, hs12⟩ := hpost
            obtain ⟨hlow12, hF12⟩ := hs12.below HDN.out.low HDN.out.low.size HDN.out.hF
            have HI12 := Lib.hid (HDN.out.is.step hs12); have HN12 := Lib.hid (HDN.out.nx.step hs12)
            have KO := Lib.hid (open_walk6 (wr := w12) (p := p) (F := F12) (M := Mg) qt hd12 HON3.out HOP3.out hq0 hq1 HZ.out)
            have HB12 := Lib.hid (And.intro hlow12 hF12)
            clear hd12 hs12 hlow12 hF12 KC c2 c3
            go_wp2_with fail
            refine KO.out.mono ?_
            intro e w13 hpost
            obtain ⟨q3, jq3, b3, rfl, hL13, hk13, hb13, hf13⟩ := SLaw.opened2 HON3.out HB12.out.1 HB12.out.2 hpost
            have hi13 := HI12.out.more (G := stoF q3 jq3 b3 F12) hb13 hf13
            have hn13 := HN12.out.more (G := stoF q3 jq3 b3 F12) hb13 hf13
            have hlowg : bytesM Mg ≤ 1048576 := by
              rcases HMG.out with e | e
              · rw [e]; exact HDN.out.lowM
              · rw [e]; exact HDN.out.lowN
            have KS1 := fun w' (hb : Below w13.heap.size w13 w') => Lib.hid (same_walk q3 b3 _ qt false Mg adi2 capi2 M2 w' (hL13.below hb).sto.cells (hL13.below hb).sto.map hk13 HDN.out.okM (hi13.below hb).any (by omega) (by have := HDN.out.lowM; omega))
            have KS2 := fun w' (hb : Below w13.heap.size w13 w') => Lib.hid (same_walk q3 b3 _ qt false Mg adn2 capn2 Mn2 w' (hL13.below hb).sto.cells (hL13.below hb).sto.map hk13 HDN.out.okN (hn13.below hb).any (by omega) (by have := HDN.out.lowN; omega))
            simp only [← HM2.out] at KS1
            simp only [← HN2.out] at KS2
            have HL13 := Lib.hid hL13; have HK13 := Lib.hid hk13; have HI13 := Lib.hid hi13; have HN13 := Lib.hid hn13; have HLG := Lib.hid hlowg
            clear hpost hL13 hk13 hb13 hf13 hi13 hn13 hlowg KO HI12 HN12 HB12
            by_cases hgi : Mg = M2
            · have hd1 : decide (Mg = M2) = true := decide_eq_true hgi
              rw [hd1] at KS1
              subst hgi
              clear hd1 KS2
              go_wp2_with fail
              refine (KS1 w13 (Below.refl _ _)).out.mono ?_
              rintro e w14 ⟨rfl, hb14⟩
              have KS1' := Lib.hid (KS1 w14 hb14).out
              have HB14 := Lib.hid hb14
              clear hb14 KS1
              go_wp2_with fail
              refine KS1'.out.mono ?_
              rintro e w15 ⟨rfl, hb15⟩
              have HB15 := Lib.hid (HB14.out.trans (hb15.mono HB14.out.size))
              clear hb15 KS1' HB14
              go_wp2_with fail
              go_roundg (gk - 1)
              case measure => have := HGK.out; omega
              case rel => exact ⟨i + 1, sq3, half3, q3, jq3, b3, got, Mg, F12, st3, adi2, capi2, by have := HGK.out; omega, by go_num, by rw [HM2.out], rfl, by have := HI30.out; omega, ⟨HL13.out.below HB15.out, HON3.out, HOP3.out, HK13.out, HLG.out, HI13.out.below HB15.out⟩, HAC3.out, by have := HSQ.out; have := HSQ3.out; omega⟩
            · have hd1 : decide (Mg = M2) = false := decide_eq_false hgi
              have hgn : Mg = Mn2 := HMG.out.resolve_left hgi
              have hd2 : decide (Mg = Mn2) = true := decide_eq_true hgn
              rw [hd1] at KS1
              rw [hd2] at KS2
              subst hgn
              clear hd1 hd2 hgi
              go_wp2_with fail
              refine (KS1 w13 (Below.refl _ _)).out.mono ?_
              rintro e w14 ⟨rfl, hb14⟩
              have KS2' := Lib.hid (KS2 w14 hb14).out
              have HB14 := Lib.hid hb14
              clear hb14 KS2
              go_wp2_with fail
              refine KS2'.out.mono ?_
              rintro e w15 ⟨rfl, hb15⟩
              have hb15' := HB14.out.trans (hb15.mono HB14.out.size)
              have KS1' := Lib.hid (KS1 w15 hb15').out
              have HB15 := Lib.hid hb15'
              clear hb15 hb15' KS1 KS2' HB14
              go_wp2_with fail
              refine KS1'.out.mono ?_
              rintro e w16 ⟨rfl, hb16⟩
              have HB16 := Lib.hid (HB15.out.trans (hb16.mono HB15.out.size))
              clear hb16 KS1' HB15
              go_wp2_with fail
              go_roundg (gk - 1)
              case measure => have := HGK.out; omega
              case rel => exact ⟨i + 1, sq3, half3, q3, jq3, b3, got, Mg, F12, st3, adn2, capn2, by have := HGK.out; omega, by go_num, by rw [HN2.out], rfl, by have := HI30.out; omega, ⟨HL13.out.below HB16.out, HON3.out, HOP3.out, HK13.out, HLG.out, HN13.out.below HB16.out⟩, HAC3.out, by have := HSQ.out; have := HSQ3.out; omega⟩
          · have hz : (g == 12) = false := by simpa using hg
            try rw [hag] at c3
            have hki : intsAt wc a.kad a.keep := intsAt_touch HRO.out.keep (Touch.ofBelow (fun _ => False) HDN.out.low) (fun _ _ _ hf => hf)
            have KC := Lib.hid (crash_walk p F10 st2 a.keep a.kad a.kcap wc HDN.out.disk (fun i => by have := HDN.out.pend i; omega) hki (skeep_of HRO.out HDN.out.hF) HRO.out.kmax (fun x hx => HRO.out.kint x hx))
            obtain ⟨sq3, half3, got, Mg, hon3, hop3, hMg, hsq3⟩ := HDN.out.shows a.keep
            have hac3 : (crashD st2 a.keep).armed = 0 := rfl
            obtain ⟨st3, hst3⟩ : ∃ st3, st3 = crashD st2 a.keep := ⟨_, rfl⟩
            rw [← hst3] at KC hon3 hac3
            have HON3 := Lib.hid hon3; have HMG := Lib.hid hMg; have HOP3 := Lib.hid hop3; have HSQ3 := Lib.hid hsq3; have HAC3 := Lib.hid hac3
            clear hki hon3 hMg hop3 hsq3 hac3 hst3
            obtain ⟨kn, hkn⟩ : ∃ kn, kn = a.keep.length := ⟨_, rfl⟩
            rw [← hkn] at KC c2
            clear hkn
            go_wp2_with fail
            refine KC.out.mono ?_
            intro e w12 hpost
            have he := hpost.1
            subst he
            obtain ⟨_, F12, hd12, hs12⟩ := hpost
            obtain ⟨hlow12, hF12⟩ := hs12.below HDN.out.low HDN.out.low.size HDN.out.hF
            have HI12 := Lib.hid (HDN.out.is.step hs12); have HN12 := Lib.hid (HDN.out.nx.step hs12)
            have KO := Lib.hid (open_walk6 (wr := w12) (p := p) (F := F12) (M := Mg) qt hd12 HON3.out HOP3.out hq0 hq1 HZ.out)
            have HB12 := Lib.hid (And.intro hlow12 hF12)
            clear hd12 hs12 hlow12 hF12 KC c2 c3
            go_wp2_with fail
            refine KO.out.mono ?_
            intro e w13 hpost
            obtain ⟨q3, jq3, b3, rfl, hL13, hk13, hb13, hf13⟩ := SLaw.opened2 HON3.out HB12.out.1 HB12.out.2 hpost
            have hi13 := HI12.out.more (G := stoF q3 jq3 b3 F12) hb13 hf13
            have hn13 := HN12.out.more (G := stoF q3 jq3 b3 F12) hb13 hf13
            have hlowg : bytesM Mg ≤ 1048576 := by
              rcases HMG.out with e | e
              · rw [e]; exact HDN.out.lowM
              · rw [e]; exact HDN.out.lowN
            have KS1 := fun w' (hb : Below w13.heap.size w13 w') => Lib.hid (same_walk q3 b3 _ qt false Mg adi2 capi2 M2 w' (hL13.below hb).sto.cells (hL13.below hb).sto.map hk13 HDN.out.okM (hi13.below hb).any (by omega) (by have := HDN.out.lowM; omega))
            have KS2 := fun w' (hb : Below w13.heap.size w13 w') => Lib.hid (same_walk q3 b3 _ qt false Mg adn2 capn2 Mn2 w' (hL13.below hb).sto.cells (hL13.below hb).sto.map hk13 HDN.out.okN (hn13.below hb).any (by omega) (by have := HDN.out.lowN; omega))
            simp only [← HM2.out] at KS1
            simp only [← HN2.out] at KS2
            have HL13 := Lib.hid hL13; have HK13 := Lib.hid hk13; have HI13 := Lib.hid hi13; have HN13 := Lib.hid hn13; have HLG := Lib.hid hlowg
            clear hpost hL13 hk13 hb13 hf13 hi13 hn13 hlowg KO HI12 HN12 HB12
            by_cases hgi : Mg = M2
            · have hd1 : decide (Mg = M2) = true := decide_eq_true hgi
              rw [hd1] at KS1
              subst hgi
              clear hd1 KS2
              go_wp2_with fail
              refine (KS1 w13 (Below.refl _ _)).out.mono ?_
              rintro e w14 ⟨rfl, hb14⟩
              have KS1' := Lib.hid (KS1 w14 hb14).out
              have HB14 := Lib.hid hb14
              clear hb14 KS1
              go_wp2_with fail
              refine KS1'.out.mono ?_
              rintro e w15 ⟨rfl, hb15⟩
              have HB15 := Lib.hid (HB14.out.trans (hb15.mono HB14.out.size))
              clear hb15 KS1' HB14
              go_wp2_with fail
              go_roundg (gk - 1)
              case measure => have := HGK.out; omega
              case rel => exact ⟨i + 1, sq3, half3, q3, jq3, b3, got, Mg, F12, st3, adi2, capi2, by have := HGK.out; omega, by go_num, by rw [HM2.out], rfl, by have := HI30.out; omega, ⟨HL13.out.below HB15.out, HON3.out, HOP3.out, HK13.out, HLG.out, HI13.out.below HB15.out⟩, HAC3.out, by have := HSQ.out; have := HSQ3.out; omega⟩
            · have hd1 : decide (Mg = M2) = false := decide_eq_false hgi
              have hgn : Mg = Mn2 := HMG.out.resolve_left hgi
              have hd2 : decide (Mg = Mn2) = true := decide_eq_true hgn
              rw [hd1] at KS1
              rw [hd2] at KS2
              subst hgn
              clear hd1 hd2 hgi
              go_wp2_with fail
              refine (KS1 w13 (Below.refl _ _)).out.mono ?_
              rintro e w14 ⟨rfl, hb14⟩
              have KS2' := Lib.hid (KS2 w14 hb14).out
              have HB14 := Lib.hid hb14
              clear hb14 KS2
              go_wp2_with fail
              refine KS2'.out.mono ?_
              rintro e w15 ⟨rfl, hb15⟩
              have hb15' := HB14.out.trans (hb15.mono HB14.out.size)
              have KS1' := Lib.hid (KS1 w15 hb15').out
              have HB15 := Lib.hid hb15'
              clear hb15 hb15' KS1 KS2' HB14
              go_wp2_with fail
              refine KS1'.out.mono ?_
              rintro e w16 ⟨rfl, hb16⟩
              have HB16 := Lib.hid (HB15.out.trans (hb16.mono HB15.out.size))
              clear hb16 KS1' HB15
              go_wp2_with fail
              go_roundg (gk - 1)
              case measure => have := HGK.out; omega
              case rel => exact ⟨i + 1, sq3, half3, q3, jq3, b3, got, Mg, F12, st3, adn2, capn2, by have := HGK.out; omega, by go_num, by rw [HN2.out], rfl, by have := HI30.out; omega, ⟨HL13.out.below HB16.out, HON3.out, HOP3.out, HK13.out, HLG.out, HN13.out.below HB16.out⟩, HAC3.out, by have := HSQ.out; have := HSQ3.out; omega⟩
      · have hnot : ¬ ((i : Int) < (m : Int)) ∨ ((i : Int) < (m : Int) ∧ ¬ (i : Int) < 30) := by omega
        clear hmore
        rcases hnot with hlt | ⟨hlt, hlt2⟩
        · have HBX := Lib.hid HINV.out.law.low
          have hdx : True := trivial
          go_wp2_with fail
          go_ret
          exact ⟨rfl, HBX.out⟩
        · have HBX := Lib.hid HINV.out.law.low
          have hdx : True := trivial
          go_wp2_with fail
          go_ret
          exact ⟨rfl, HBX.out⟩
end Go.Proofs.YtjjejkhekmpgcaaGreat
