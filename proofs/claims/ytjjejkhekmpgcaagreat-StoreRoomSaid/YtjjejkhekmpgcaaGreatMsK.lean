/-
  Layer 6: the walk of StoreRoom.
-/
import Derived.Test.YtjjejkhekmpgcaaGreatMsJ
import Derived.Test.YtjjejkhekmpgcaaGreatMsI
namespace Go.Proofs.YtjjejkhekmpgcaaGreat
set_option maxRecDepth 4000
open Go.RowKit

theorem after_same {M : Kv} (h : risK M) {k v : ByteArray} (hg : (k, v) ∈ M) : afterM M [⟨k, v, false⟩] = M := by
  refine kv_ext (ris_after h _) h (fun x => ?_)
  show getM (doM M ⟨k, v, false⟩) x = _
  rw [getM_do]
  by_cases hx : x = k
  · rw [if_pos hx, if_neg (by simp), hx, mem_getM h hg]
  · rw [if_neg hx]
theorem check_same {M : Kv} (h : KvOk M) {k v : ByteArray} (hg : (k, v) ∈ M) (qt : Int) : checkS M [⟨k, v, false⟩] qt false = 0 := by
  have hm := h.may _ hg
  unfold checkS
  rw [if_neg (by simp), if_neg (by show ¬ (1 = 0 ∨ 1024 < 1); omega), if_neg (by simp [hm]), after_same h.ris hg, if_neg (by omega)]
/-- what a call of Do leaves, of which it is known whether there is room -/
def RoomOut (w w' : World) (p q jq b n sq : Nat) (Mx : Kv) (want : Int) (adx : Option Addr) (r : Int) : Prop :=
  r = want ∧ ∃ F' st' sq' half' rs', SInv w w' p q jq b F' st' n sq' half' rs' Mx 1048576 adx ∧ (allR (recsM Mx)).length ≤ sizeN n * 64 ∧ st'.armed = 0 ∧ sq' ≤ sq + 1
theorem room_step {w wr : World} {p q jq b : Nat} {F : Nat → Prop} {st : Dk} {n sq half : Nat} {rs : List ByteArray} {M : Kv} {ad : Option Addr} (h : SInv w wr p q jq b F st n sq half rs M 1048576 ad) (hfit : (allR (recsM M)).length ≤ sizeN n * 64)
    (hsq : sq < 9223372036854775807) (hz : sizeN n * 64 ≤ 65536) (ha : st.armed = 0) (l : List Chg) (hc : checkS M l 1048576 false = 0) (Mx : Kv) (want : Int) (adx : Option Addr) (hko : KvO wr adx Mx (stoF q jq b F))
    (hx : (sizeN n * 64 < (allR (recsM (afterM M l))).length ∧ Mx = M ∧ want = 10) ∨ ((allR (recsM (afterM M l))).length ≤ sizeN n * 64 ∧ Mx = afterM M l ∧ want = 0))
    {e : Ending} {w' : World} (hp : DoRes wr q jq b p F 1048576 (doS st (jOf sq half rs) M 1048576 false l) e w') :
    RoomOut w w' p q jq b n sq Mx want adx (doS st (jOf sq half rs) M 1048576 false l).1 := by
  rcases do_calm (qt := 1048576) h.on h.op h.ok hsq hz ha l with ⟨h1, h2, h3⟩ | ⟨_, h1, st', sq', half', rs', h3, h4, h5, h6, h7⟩
  · obtain ⟨h4, h5⟩ := h3 hc
    obtain ⟨rfl, rfl⟩ : Mx = M ∧ want = 10 := by
      rcases hx with ⟨_, e1, e2⟩ | ⟨e0, _⟩
      · exact ⟨e1, e2⟩
      · omega
    obtain ⟨F', e1, e2⟩ := h.law.done hp
    rw [h2] at e1
    exact ⟨h5, F', st, sq, half, rs, ⟨e1, h.on, h.op, h.ok, h.low, hko.step e2⟩, hfit, ha, by omega⟩
  · obtain ⟨rfl, rfl⟩ : Mx = afterM M l ∧ want = 0 := by
      rcases hx with ⟨e0, _⟩ | ⟨_, e1, e2⟩
      · omega
      · exact ⟨e1, e2⟩
    rw [h3] at hp ⊢
    obtain ⟨F', e1, e2⟩ := h.law.done hp
    exact ⟨rfl, F', st', sq', half', rs', ⟨e1, h4, h5, ok_after h.ok (checkS_zero hc).2.2.2, check_bytes hc 1048576 h.low (by omega), hko.step e2⟩, h1, h7, h6⟩

set_option maxHeartbeats 16000000 in
theorem storeRoom_walk (ad : Option Addr) (cap : Nat) (l : List CRow) (mu : Nat) (w : World) (hl : crowsAt w ad l) (hok : ∀ r ∈ l, crowOk w r) (hll : l.length ≤ 9223372036854775807) (hmu : mu ≤ 255) :
    Calls Tryz.prog 3 #[.slice ad l.length cap, .int .u8 mu] w fun r w' => r = .returned (.bool true) ∧ Below w.heap.size w w' := by
  obtain ⟨n, hn⟩ : ∃ n, n = mu % 40 + 4 := ⟨_, rfl⟩
  have hn4 : 4 ≤ n := by omega
  have hn43 : n ≤ 43 := by omega
  have hz : sizeN n * 64 ≤ 65536 := by unfold sizeN; omega
  obtain ⟨hw0, hf0, hon, har⟩ := format_fresh n hn4 (by omega)
  obtain ⟨st1, hst1⟩ : ∃ st1, st1 = (formatD (freshD n)).2 := ⟨_, rfl⟩
  have hfd : formatD (freshD n) = (0, st1) := Prod.ext hf0 hst1.symm
  rw [← hst1] at hon har
  have hKO := fun wr p F hd => open_walk6 (wr := wr) (p := p) (F := F) (M := []) 1048576 hd hon rfl (by omega) (by omega) hz
  have HW0 := Lib.hid hw0; have HFD := Lib.hid hfd; have HKO := Lib.hid hKO; have HON := Lib.hid hon; have HAR := Lib.hid har; have HZ := Lib.hid hz
  have HL := Lib.hid hl; have HOK := Lib.hid hok; have HN := Lib.hid hn; have HN4 := Lib.hid hn4
  clear hw0 hf0 hon har hst1 hfd hKO hl hok hz hn
  obtain ⟨m, hm⟩ : ∃ m, m = l.length := ⟨_, rfl⟩
  rw [← hm] at hll ⊢
  have HM := Lib.hid hm
  clear hm
  go_enter Tryz.func3, Tryz.ntmps3
  go_wp2_with fail
  have hmn : ((mu : Int) % 40 + 4) = (n : Int) := by have := HN.out; omega
  rw [hmn]
  clear hmn
  refine (new_disk n w (by omega) (by omega)).mono ?_
  rintro e w1 ⟨p, F, rfl, hb1, hd1, hF1⟩
  have KF := Lib.hid (sformat_walk p F (freshD n) 0 w1 hd1 (by show 4 ≤ (List.replicate n [z64]).length; rw [List.length_replicate]; exact HN4.out) HW0.out (pendMax_new n) (by omega))
  rw [HFD.out] at KF
  have HB1 := Lib.hid (And.intro hb1 hF1)
  clear hb1 hd1 hF1
  go_wp2_with fail
  refine KF.out.mono ?_
  intro e w2 hpost
  have he := hpost.1
  subst he
  obtain ⟨F2, hb2, hd2, hF2⟩ := DiskPost.low HB1.out.1 HB1.out.2 hpost
  have HB2 := Lib.hid (And.intro hb2 (And.intro hd2 hF2))
  clear hpost hb2 hd2 hF2 KF HB1
  go_wp2_with fail
  refine (awake6_walk w2).mono ?_
  rintro e w3 ⟨rfl, hb3⟩
  have HB3 := Lib.hid (And.intro (HB2.out.1.trans (hb3.mono HB2.out.1.size)) (And.intro (HB2.out.2.1.below hb3) HB2.out.2.2))
  clear hb3 HB2
  go_wp2_with fail
  refine (HKO.out w3 p F2 HB3.out.2.1).mono ?_
  intro e w4 hpost
  obtain ⟨q, jq, b, rfl, hq3, hL4, hk4⟩ := SLaw.opened HON.out HB3.out.1 HB3.out.2.2 hpost
  have HI4 := Lib.hid (show SInv w w4 p q jq b F2 st1 n 1 0 [] [] 1048576 none from ⟨hL4, HON.out, rfl, hk4, by show 0 ≤ _; omega, .inl rfl⟩)
  clear hL4 hk4 hpost hq3 HKO HB3 HW0 HFD HON
  go_wp2_with fail
  go_loopg [10, 11] m (fun gk v10 v11 wr => ∃ (i sq half : Nat) (rs : List ByteArray) (M : Kv) (F : Nat → Prop) (st : Dk) (adi : Option Addr) (capi : Nat), i + gk = m ∧ v11 = .int .i64 i ∧ v10 = .slice adi M.length capi ∧ i ≤ 40 ∧ SInv w wr p q jq b F st n sq half rs M 1048576 adi ∧ (allR (recsM M)).length ≤ sizeN n * 64 ∧ st.armed = 0 ∧ sq ≤ 1 + 4 * i)
  case atStart => exact ⟨0, 1, 0, [], [], F2, st1, none, 0, by omega, rfl, rfl, by omega, HI4.out, Nat.zero_le _, HAR.out, by omega⟩
  case round =>
    clear HI4 HAR
    obtain ⟨i, sq, half, rs, M, F5, st5, adi, capi, hgk, rfl, rfl, hi40, hinv, hfit, harm, hsq⟩ := hrel
    have HGK := Lib.hid hgk; have HINV := Lib.hid hinv; have HARM := Lib.hid harm; have HSQ := Lib.hid hsq; have HI40 := Lib.hid hi40; have HFIT := Lib.hid hfit
    clear hgk hinv harm hsq hi40 hfit
    have hml := len_bytes HINV.out.ok
    have hmlo := HINV.out.low
    have HML := Lib.hid (show M.length ≤ 1048576 by omega)
    clear hml hmlo
    by_cases hmore : i < m ∧ i < 40
    · obtain ⟨hm1, hm2⟩ := hmore
      have hm1' : (i : Int) < (m : Int) := by omega
      have hm2' : (i : Int) < 40 := by omega
      have hil : i < l.length := by have := HM.out; omega
      rcases HL.out with hat | ⟨bl, off, rfl, hbl, hcs⟩
      · simp [hat] at hil
      have hcw : ∀ w', Below w.heap.size w w' → w'.cell? ⟨bl, off + i, none⟩ = some (.slice l[i].ad l[i].l.length l[i].cap) := fun w' hb => (hb.cell (p := ⟨bl, off + i, none⟩) hbl).trans (hcs i hil)
      have hro := HOK.out l[i] (List.getElem_mem hil)
      obtain ⟨⟨ac, cc, cs⟩, hx⟩ : ∃ x, x = l[i] := ⟨_, rfl⟩
      rw [← hx] at hcw hro
      obtain ⟨hc1, hc2, hc3, hc4⟩ := hro
      have hc1 : chgsAt w ac cs := hc1
      have hc2 : cs.length ≤ cc := hc2
      have hc3 : cc ≤ 9223372036854775807 := hc3
      have hc4 : ∀ c ∈ cs, c.key.size ≤ 9223372036854775807 ∧ c.val.size ≤ 9223372036854775807 := hc4
      have c0 : wr.cell? ⟨bl, off + i, none⟩ = some (.slice ac cs.length cc) := hcw wr HINV.out.law.low
      have HCW := Lib.hid hcw
      have KL := Lib.hid (lightC_walk ac cc cs wr (chgsAt_below hc1 (Nat.le_refl _) HINV.out.law.low) (by omega))
      have HC1 := Lib.hid hc1; have HC4 := Lib.hid hc4
      have hcl : cs.length ≤ 9223372036854775807 := by omega
      have HCL := Lib.hid hcl
      clear hcs hx hcw hbl hil hc1 hc2 hc3 hc4 hcl
      have hskip : SInv w wr p q jq b F5 st5 n sq half rs M 1048576 adi := HINV.out
      by_cases hlt : lightC cs = true
      · rw [hlt] at KL
        have hsz := lightC_size hlt
        have KC := Lib.hid (lcheck_walk adi capi M ac cc cs 1048576 wr HINV.out.is.any HINV.out.ok (chgsAt_below HC1.out (Nat.le_refl _) HINV.out.law.low) HCL.out HC4.out (by have := HINV.out.low; omega))
        have HSZ := Lib.hid hsz
        clear hskip hlt hsz
        by_cases hck : checkS M cs 1048576 false = 0
        · rw [hck] at KC
          have HCK := Lib.hid hck
          clear hck
          obtain ⟨mm, hmm⟩ : ∃ mm, mm = M.length := ⟨_, rfl⟩
          have HMM := Lib.hid hmm
          rw [← hmm] at KC ⊢
          obtain ⟨nc, hnc⟩ : ∃ nc, nc = cs.length := ⟨_, rfl⟩
          have HNC := Lib.hid hnc
          rw [← hnc] at KC KL c0
          simp only [← hnc] at HCW
          clear hmm hnc
          go_wp2_with fail
          refine KL.out.mono ?_
          rintro e w5 ⟨rfl, rfl⟩
          clear KL
          go_wp2_with fail
          refine KC.out.mono ?_
          rintro e w6 ⟨rfl, hb6⟩
          have HI6 := Lib.hid (HINV.out.below hb6)
          have c6 := HCW.out w6 HI6.out.law.low
          have KA := Lib.hid (after_walk (stoF q jq b F5) adi capi M ac cc cs w6 HI6.out.is (fun k hk => HI6.out.law.sto.ltF k hk) (chgsAt_below HC1.out (Nat.le_refl _) HI6.out.law.low) (by have := HML.out; omega) (by have := HSZ.out.2; omega) HI6.out.ok.ris)
          rw [← HNC.out, ← HMM.out] at KA
          clear hb6 KC c0 HINV
          go_wp2_with fail
          refine KA.out.mono ?_
          rintro e w7 ⟨ad7, cap7, rfl, hko7, hb7⟩
          have hok7 := ok_after HI6.out.ok (checkS_zero HCK.out).2.2.2
          have hlo7 := check_bytes HCK.out 1048576 HI6.out.low (by omega)
          have hln7 := len_bytes hok7
          have hln8 : (afterM M cs).length ≤ 1048576 := by omega
          have KW := Lib.hid (whole_walk ad7 cap7 (afterM M cs) w7 hko7.any (by omega) (fun p hp => by have := mayC_sizes (hok7.may p hp); exact ⟨this.2.1, this.2.2.1⟩))
          obtain ⟨Mn, hMn⟩ : ∃ Mn, Mn = afterM M cs := ⟨_, rfl⟩
          rw [← hMn] at KW hko7 hln8 ⊢
          have HMN := Lib.hid hMn
          have HI7 := Lib.hid (HI6.out.below hb7)
          have HKO7 := Lib.hid hko7
          obtain ⟨nx, hnx⟩ : ∃ nx, nx = Mn.length := ⟨_, rfl⟩
          rw [← hnx] at KW ⊢
          have HNX := Lib.hid hnx
          have hWL := allR_recs Mn (fun p hp => by rw [hMn] at hp; have := mayC_sizes (hok7.may p hp); exact ⟨this.2.1, this.2.2.1⟩)
          obtain ⟨WL, hWL2⟩ : ∃ WL, WL = (allR (recsM Mn)).length := ⟨_, rfl⟩
          rw [← hWL2] at KW hWL
          have hWL3 : (WL : Int) ≤ 10000000000000 := by omega
          have HWL := Lib.hid hWL2
          obtain ⟨hf, hhf⟩ : ∃ hf, hf = sizeN n * 64 := ⟨_, rfl⟩
          have HHF := Lib.hid hhf
          clear hok7 hlo7 hln7 hln8 hMn hb7 hko7 hnx hWL hWL2 KA c6 HI6 hhf
          go_wp2_with fail
          refine KW.out.mono ?_
          rintro e w8 ⟨rfl, hb8⟩
          have HI8 := Lib.hid (HI7.out.below hb8)
          have HKO8 := Lib.hid (HKO7.out.below hb8)
          clear hb8 KW HI7 HKO7
          go_upto_if 87 with fail
          have hhalf : 64 * (((n : Int) - 2) / 2) = (hf : Int) := by have := HHF.out; unfold sizeN at this; omega
          rw [hhalf]
          clear hhalf
          go_cut [12, 13] from 50 to 122 (fun s12 s13 wx => ∃ (Mx : Kv) (want : Int) (adx : Option Addr) (capx : Nat), s12 = .slice adx Mx.length capx ∧ s13 = .int .i64 want ∧ KvO wx adx Mx (stoF q jq b F5) ∧ ((sizeN n * 64 < (allR (recsM (afterM M cs))).length ∧ Mx = M ∧ want = 10) ∨ ((allR (recsM (afterM M cs))).length ≤ sizeN n * 64 ∧ Mx = afterM M cs ∧ want = 0)) ∧ wx = w8)
          case first =>
            by_cases hb : (hf : Int) < (WL : Int)
            · have HBB := Lib.hid hb
              go_wp2_with fail
              go_meet
              exact ⟨M, 10, adi, capi, by rw [HMM.out], rfl, HI8.out.is, .inl ⟨by rw [← HHF.out, ← HMN.out, ← HWL.out]; have := HBB.out; omega, rfl, rfl⟩, rfl⟩
            · have HBB := Lib.hid hb
              go_wp2_with fail
              go_meet
              exact ⟨Mn, 0, ad7, cap7, by rw [HNX.out], rfl, HKO8.out, .inr ⟨by rw [← HHF.out, ← HMN.out, ← HWL.out]; have := HBB.out; omega, HMN.out, rfl⟩, rfl⟩
          case rest =>
          obtain ⟨Mx, want, adx, capx, rfl, rfl, hkx, hx, hwx⟩ := hcut
          obtain rfl := hwx.symm
          have hsq : sq < 9223372036854775807 := by have := HSQ.out; have := HI40.out; omega
          have KDO := Lib.hid (do_walk6 HI8.out.law HI8.out.on HI8.out.ok hsq (by have := HI8.out.low; omega) ac cc cs (HI8.out.law.chg HC1.out) HCL.out HC4.out)
          have hst := fun (e : Ending) (w' : World) (hp : DoRes w8 q jq b p F5 1048576 (doS st5 (jOf sq half rs) M 1048576 false cs) e w') => room_step HI8.out HFIT.out hsq HZ.out HARM.out cs HCK.out Mx want adx hkx hx hp
          obtain ⟨R, hR⟩ : ∃ R, R = doS st5 (jOf sq half rs) M 1048576 false cs := ⟨_, rfl⟩
          rw [← hR] at KDO
          simp only [← hR] at hst
          rw [← HNC.out] at KDO
          have c8 := HCW.out w8 HI8.out.law.low
          have HST := Lib.hid hst
          obtain ⟨lx, hlx⟩ : ∃ lx, lx = Mx.length := ⟨_, rfl⟩
          rw [← hlx]
          have HLX := Lib.hid hlx
          clear hkx hx hwx hsq hst hR hlx HI8 HKO8 HWL HHF HNX HMN hWL3
          go_wp2_with fail
          refine KDO.out.mono ?_
          intro e w9 hpost
          have he := hpost.1
          subst he
          have HRO := Lib.hid (HST.out _ _ hpost)
          have hrw := HRO.out.1
          rw [hrw]
          clear hpost hrw KDO HST
          have hwn : (want == want) = true := by simp
          go_wp2_with fail
          obtain ⟨_, F9, st9, sq9, half9, rs9, hI9, hf9, ha9, hq9⟩ := HRO.out
          have HI9 := Lib.hid hI9; have HF9 := Lib.hid hf9; have HA9 := Lib.hid ha9; have HQ9 := Lib.hid hq9
          clear hwn hI9 hf9 ha9 hq9 HRO HFIT HARM HCK HC4 HCL HC1 HSZ HCW c8 HMM HNC HOK
          go_loopg [14] 3 (fun gk2 v14 wr2 => ∃ (k sqk halfk : Nat) (rsk : List ByteArray) (Fk : Nat → Prop) (stk : Dk), k + gk2 = 3 ∧ v14 = .int .i64 k ∧ SInv w wr2 p q jq b Fk stk n sqk halfk rsk Mx 1048576 adx ∧ (allR (recsM Mx)).length ≤ sizeN n * 64 ∧ stk.armed = 0 ∧ sqk ≤ 2 + 4 * i + k)
          case atStart => exact ⟨0, sq9, half9, rs9, F9, st9, by omega, rfl, HI9.out, HF9.out, HA9.out, by have := HQ9.out; have := HSQ.out; omega⟩
          case round =>
            clear HI9 HF9 HA9 HQ9
            obtain ⟨k, sqk, halfk, rsk, Fk, stk, hgk2, rfl, hik, hfk, hak, hqk⟩ := hrel
            have HG2 := Lib.hid hgk2; have HIK := Lib.hid hik; have HFK := Lib.hid hfk; have HAK := Lib.hid hak; have HQK := Lib.hid hqk
            clear hgk2 hik hfk hak hqk
            by_cases hk : k < lx ∧ k < 3
            · obtain ⟨hk1, hk2⟩ := hk
              have hk1' : (k : Int) < (lx : Int) := by omega
              have hk2' : (k : Int) < 3 := by omega
              have hkl : k < Mx.length := by have := HLX.out; omega
              rcases HIK.out.is with h0 | ⟨bl2, off2, hadx, hbl2, hnG, hce⟩
              · rw [h0] at hkl; simp at hkl
              subst hadx
              have e0 := hce k hkl 0 _ rfl
              have e1 := hce k hkl 1 _ rfl
              have hmem : Mx[k] ∈ Mx := List.getElem_mem hkl
              obtain ⟨⟨ky, vl⟩, hp⟩ : ∃ x, x = Mx[k] := ⟨_, rfl⟩
              rw [← hp] at e0 e1 hmem
              have d0 : wr.cell? ⟨bl2, off2 + k * 2, none⟩ = some (.string ky) := e0
              have d1 : wr.cell? ⟨bl2, off2 + k * 2 + 1, none⟩ = some (.string vl) := e1
              have x0 : ∀ x : Sub wr.heap.size wr, x.val.cell? ⟨bl2, off2 + k * 2, none⟩ = some (.string ky) := fun x => sub_cell d0 hbl2 x
              have x1 : ∀ x : Sub wr.heap.size wr, x.val.cell? ⟨bl2, off2 + k * 2 + 1, none⟩ = some (.string vl) := fun x => sub_cell d1 hbl2 x
              have hmk := mayC_sizes (HIK.out.ok.may _ hmem)
              have hmk1 : ky.size ≤ 9223372036854775807 ∧ vl.size ≤ 9223372036854775807 := ⟨by have h5 : ky.size ≤ 32 := hmk.2.1; omega, by have h6 : vl.size ≤ 4096 := hmk.2.2.1; omega⟩
              have hck2 := check_same HIK.out.ok hmem 1048576
              have haf := after_same HIK.out.ok.ris hmem
              have hsqk : sqk < 9223372036854775807 := by have := HQK.out; have := HI40.out; have := HG2.out; omega
              have KD := fun (w' : World) (hb : Below wr.heap.size wr w') => Lib.hid (do_walk6 (HIK.out.below (hb.alloc hb.size (.cells #[.string ky, .string vl, .bool false] 42))).law HIK.out.on HIK.out.ok hsqk (by have := HIK.out.low; omega) (some ⟨w'.heap.size, 0, none⟩) 1 [⟨ky, vl, false⟩] (one_out (c := ⟨ky, vl, false⟩) (heap_alloc_top w' _) _ (fun hk => by have := HIK.out.law.sto.ltF _ hk; have := hb.size; omega)) (by show 1 ≤ _; omega) (wide_chg hmk1))
              have hst := fun (w' : World) (hb : Below wr.heap.size wr w') (e : Ending) (w2 : World) (hp : DoRes (w'.alloc (.cells #[.string ky, .string vl, .bool false] 42)) q jq b p Fk 1048576 (doS stk (jOf sqk halfk rsk) Mx 1048576 false [⟨ky, vl, false⟩]) e w2) => room_step (HIK.out.below (hb.alloc hb.size (.cells #[.string ky, .string vl, .bool false] 42))) HFK.out hsqk HZ.out HAK.out [⟨ky, vl, false⟩] hck2 Mx 0 (some ⟨bl2, off2, none⟩) (HIK.out.below (hb.alloc hb.size _)).is (.inr ⟨by rw [haf]; exact HFK.out, haf.symm, rfl⟩) hp
              obtain ⟨R2, hR2⟩ : ∃ R, R = doS stk (jOf sqk halfk rsk) Mx 1048576 false [⟨ky, vl, false⟩] := ⟨_, rfl⟩
              simp only [← hR2] at KD hst
              have HST := Lib.hid hst
              clear e0 e1 d0 d1 hp hce hnG hmem hmk hmk1 hck2 haf hsqk hR2 hst hkl hbl2
              go_upto_region 24 with fail
              refine wp_region_mixT (inSub wr.heap.size wr) 13 [(0,true,true),(1,true,true),(2,true,true),(3,true,true),(4,true,true),(5,true,true),(6,true,true),(7,true,true),(8,true,true),(9,true,true),(10,true,true),(11,true,true),(12,false,true),(13,false,false),(14,false,false)] (by kernel_rfl) (by kernel_rfl) (inSub_of (Below.refl _ _).drew) ?_
              have hb0 : Below wr.heap.size wr wr.drew := (Below.refl _ _).drew
              generalize wr.drew = y1 at hb0 ⊢
              simp only [List.filterMap_cons, List.filterMap_nil, List.getElem?_cons_zero, List.getElem?_cons_succ, Option.map_some]
              iterate 12 (refine mixT_read (by rfl) ?_; apply Exists.intro; refine ⟨fun w9 hw9 => ?_, ?_⟩; (· obtain ⟨x9, rfl⟩ := hw9; have e0 := x0 x9; have e1 := x1 x9; go_simp; rfl); simp only [Act.put, List.setIfInBounds_toArray, List.set_cons_succ, List.set_cons_zero])
              have KDO := KD y1 hb0
              have HST2 := Lib.hid (HST.out y1 hb0)
              clear KD HST x0 x1
              refine mixT_step (by rfl) (fun K' hK => ?_)
              go_simp
              have hb1 := hb0.alloc hb0.size (.cells #[.string ky, .string vl, .bool false] 42)
              refine hK _ _ (inSub_of hb1) ?_
              clear hK K' hb0 hb1
              try simp only [Act.put, List.setIfInBounds_toArray, List.set_cons_succ, List.set_cons_zero]
              refine mixT_tail (by rfl) (fun K' hK => ?_)
              go_simp
              go_at_call 15
              refine KDO.out.mono ?_
              intro e y2 hpost
              have he := hpost.1
              subst he
              have HRO := Lib.hid (HST2.out _ _ hpost)
              have hrw := HRO.out.1
              rw [hrw]
              clear hpost hrw KDO HST2
              refine hK _ _ ?_
              clear hK K'
              try simp only [Act.put, List.setIfInBounds_toArray, List.set_cons_succ, List.set_cons_zero]
              refine mixT_tail (by rfl) (fun K' hK => ?_)
              go_simp
              refine hK _ _ ?_
              clear hK K'
              try simp only [Act.put, List.setIfInBounds_toArray, List.set_cons_succ, List.set_cons_zero]
              refine mixT_nil (NoPanic.normal ?_)
              try simp only [Act.put, List.setIfInBounds_toArray, List.set_cons_succ, List.set_cons_zero]
              go_wp2_with fail
              go_roundg (gk - 1)
              case measure => have := HG2.out; omega
              case rel =>
                obtain ⟨_, F9, st9, sq9, half9, rs9, hI9, hf9, ha9, hq9⟩ := HRO.out
                exact ⟨k + 1, sq9, half9, rs9, F9, st9, by have := HG2.out; omega, by go_num, hI9, hf9, ha9, by have := HQK.out; omega⟩
            · by_cases hk1 : (k : Int) < (lx : Int)
              · have hk3 : ¬ (k : Int) < 3 := by omega
                go_wp2_with fail
                go_roundg (m - i - 1)
                case measure => have := HGK.out; omega
                case rel =>
                  exact ⟨i + 1, sqk, halfk, rsk, Mx, Fk, stk, adx, capx, by have := HGK.out; omega, by go_num, by rw [HLX.out], by have := HI40.out; omega, HIK.out, HFK.out, HAK.out, by have := HQK.out; have := HG2.out; omega⟩
              · have hk3 : decide ((k : Int) < (lx : Int)) = false := decide_eq_false hk1
                go_wp2_with fail
                go_roundg (m - i - 1)
                case measure => have := HGK.out; omega
                case rel =>
                  exact ⟨i + 1, sqk, halfk, rsk, Mx, Fk, stk, adx, capx, by have := HGK.out; omega, by go_num, by rw [HLX.out], by have := HI40.out; omega, HIK.out, HFK.out, HAK.out, by have := HQK.out; have := HG2.out; omega⟩
        · go_wp2_with fail
          refine KL.out.mono ?_
          rintro e w5 ⟨rfl, rfl⟩
          clear KL
          go_wp2_with fail
          refine KC.out.mono ?_
          rintro e w6 ⟨rfl, hb6⟩
          have HI6 := Lib.hid (HINV.out.below hb6)
          clear hb6 KC c0 HINV
          go_wp2_with fail
          go_roundg (gk - 1)
          case measure => have := HGK.out; omega
          case rel =>
            exact ⟨i + 1, sq, half, rs, M, F5, st5, adi, capi, by have := HGK.out; omega, by go_num, rfl, by have := HI40.out; omega, HI6.out, HFIT.out, HARM.out, by have := HSQ.out; omega⟩
      · have hlt2 : lightC cs = false := by simpa using hlt
        rw [hlt2] at KL
        clear hskip hlt hlt2
        go_wp2_with fail
        refine KL.out.mono ?_
        rintro e w5 ⟨rfl, rfl⟩
        clear KL
        go_wp2_with fail
        go_roundg (gk - 1)
        case measure => have := HGK.out; omega
        case rel =>
          exact ⟨i + 1, sq, half, rs, M, F5, st5, adi, capi, by have := HGK.out; omega, by go_num, rfl, by have := HI40.out; omega, HINV.out, HFIT.out, HARM.out, by have := HSQ.out; omega⟩
    · have KS := Lib.hid (same_walk q b _ 1048576 false M adi capi M wr HINV.out.law.sto.cells HINV.out.law.sto.map HINV.out.ok HINV.out.ok HINV.out.is.any (by have := HINV.out.low; omega) (by have := HINV.out.low; omega))
      rw [decide_eq_true rfl] at KS
      obtain ⟨mm, hmm⟩ : ∃ mm, mm = M.length := ⟨_, rfl⟩
      rw [← hmm] at KS ⊢
      clear hmm
      by_cases hlt : (i : Int) < (m : Int)
      · have h30 : ¬ (i : Int) < 40 := by omega
        go_wp2_with fail
        refine KS.out.mono ?_
        rintro e w5 ⟨rfl, hb5⟩
        have HF := Lib.hid (HINV.out.below hb5).law.low
        clear KS hb5
        go_wp2_with fail
        go_ret
        exact ⟨rfl, HF.out⟩
      · have h30 : decide ((i : Int) < (m : Int)) = false := decide_eq_false hlt
        go_wp2_with fail
        refine KS.out.mono ?_
        rintro e w5 ⟨rfl, hb5⟩
        have HF := Lib.hid (HINV.out.below hb5).law.low
        clear KS hb5
        go_wp2_with fail
        go_ret
        exact ⟨rfl, HF.out⟩
end Go.Proofs.YtjjejkhekmpgcaaGreat
