/-
  The walk of DiskApart.
-/
import Derived.Test.YtcabocppplokgaaRdkL
namespace Go.Proofs.Ytcabocppplokgaa
open Go.RowKit

theorem act_at {w0 w : World} {ad : Option Addr} {l : List DAct} (hl : dactsAt w0 ad l) (hok : ∀ a ∈ l, dactOk w0 a) (hlow : Below w0.heap.size w0 w) (k : Nat) (hk : k < l.length) {a : DAct} (ha : a = l[k]) :
    ∃ bl off, ad = some ⟨bl, off, none⟩ ∧ bl < w0.heap.size ∧ (∀ j u, (dactv a)[j]? = some u → w.cell? ⟨bl, off + k * 5 + j, none⟩ = some u) ∧ dactOk w a ∧
      ∀ (F : Nat → Prop) (q : Nat), (∀ k, F k → w0.heap.size ≤ k) → w0.heap.size ≤ q → a.keep = [] ∨ ∀ b off, a.ad = some ⟨b, off, none⟩ → ¬ F b ∧ b ≠ q := by
  have haok := hok a (by rw [ha]; exact List.getElem_mem hk)
  rcases hl with hnil | ⟨bl, off, rfl, hbl, hcs⟩
  · rw [hnil] at hk; simp at hk
  have hca := hcs k hk
  rw [← ha] at hca
  refine ⟨bl, off, rfl, hbl, fun j u hu => (hlow.cell (p := ⟨bl, off + k * 5 + j, none⟩) hbl).trans (hca j u hu), ⟨haok.kind, haok.at', haok.n, haok.s, intsAt_touch haok.keep (Touch.ofBelow (fun _ => False) hlow) (fun _ _ _ hf => hf), haok.kl, haok.kr⟩, fun F q hF hq => ?_⟩
  rcases haok.keep with h | ⟨b', off', e1, e2, _⟩
  · exact .inl h
  · refine .inr (fun b off e => ?_)
    rw [e1] at e
    cases e
    exact ⟨fun hf => by have := hF _ hf; omega, fun e => by omega⟩

theorem ref_twin {w : World} {q : Nat} {R : Nat → Prop} {rb cap : Nat} {V : Nat → Value} {st : Dk} (h : RefAt w q R rb cap V st) {n : Nat} (hn : n = st.S.length) :
    RefAt (w.alloc (.cells #[.slice (some ⟨rb, 0, none⟩) n cap, .int .i64 st.calls, .int .i64 st.armed, .bool st.down] 49)) w.heap.size R rb cap V st := by
  have hb : Below w.heap.size w (w.alloc (.cells #[.slice (some ⟨rb, 0, none⟩) n cap, .int .i64 st.calls, .int .i64 st.armed, .bool st.down] 49)) := (Below.refl _ _).alloc (Nat.le_refl _) _
  have h2 := h.below hb
  refine ⟨?_, h2.row, h2.cell, h2.piece, fun hr => by have := h.lt _ hr; omega, h2.lt, h2.ok, h2.arm⟩
  rw [← hn]
  exact heap_alloc_top _ _

set_option maxHeartbeats 8000000 in
set_option maxRecDepth 8000 in
theorem diskApart_walk (ad : Option Addr) (cap : Nat) (l : List DAct) (ad2 : Option Addr) (cap2 : Nat) (l2 : List DAct) (w : World) (hl : dactsAt w ad l) (hok : ∀ a ∈ l, dactOk w a) (hll : l.length ≤ 9223372036854775807)
    (hl2 : dactsAt w ad2 l2) (hok2 : ∀ a ∈ l2, dactOk w a) (hll2 : l2.length ≤ 9223372036854775807) :
    Calls Try.prog 5 #[.slice ad l.length cap, .slice ad2 l2.length cap2] w fun e w' => e = .returned (.bool true) ∧ Below w.heap.size w w' := by
  have HL := Lib.hid hl; have HOK := Lib.hid hok; have HL2 := Lib.hid hl2; have HOK2 := Lib.hid hok2
  clear hl hok hl2 hok2
  go_enter Try.func5, Try.ntmps5
  go_wp2_with fail
  refine (new_disk 5 w (by omega) (by omega)).mono ?_
  rintro e w1 ⟨p, F, rfl, hb1, hd1, hF1⟩
  have KA := Lib.hid (awake_walk w1)
  have HB1 := Lib.hid hb1; have HD1 := Lib.hid hd1; have HF1 := Lib.hid hF1
  clear hb1 hd1 hF1
  go_wp2_with fail
  refine KA.out.mono ?_
  rintro e w3 ⟨rfl, hb3⟩
  have HB3 := Lib.hid (HB1.out.trans (hb3.mono HB1.out.size)); have HD3 := Lib.hid (HD1.out.below hb3)
  have KR := Lib.hid (rnew_walk 5 w3 (by omega) (by omega))
  clear hb3 KA HB1 HD1
  go_wp2_with fail
  refine KR.out.mono ?_
  rintro e w4 ⟨q, R, rfl, hb4, hr4, hq4, hR4⟩
  have HBL := Lib.hid (show BothLow w w4 p F q R ⟨List.replicate 5 [z64], 0, 0, false⟩ from
    ⟨⟨HD3.out.below hb4, hr4, fun hf => by have := HD3.out.lt q hf; omega, fun k hk hf => by have h1 := HD3.out.lt k hf; have h2 := hR4 k hk; omega⟩, HB3.out.trans (hb4.mono HB3.out.size), HF1.out, Nat.le_trans HB3.out.size hq4, fun k hk => Nat.le_trans HB3.out.size (hR4 k hk)⟩)
  clear hb4 hr4 hq4 hR4 KR HD3 HB3 HF1
  go_wp2_with fail
  go_loopg [8] l.length (fun gk i wr => ∃ k F R st, k + gk = l.length ∧ i = .int .i64 (k : Nat) ∧ BothLow w wr p F q R st ∧ pendMax st.S k ∧ k ≤ 30)
  case atStart => exact ⟨0, F, R, _, by omega, rfl, HBL.out, pendMax_new 5, by omega⟩
  case round =>
    obtain ⟨k, F2, R2, st, hgk, rfl, hbl, hpm, hk30⟩ := hrel
    have HB := Lib.hid hbl; have HPM := Lib.hid hpm; have HK := Lib.hid hk30; have HGK := Lib.hid hgk
    clear hbl hpm hk30 hgk HBL
    by_cases hmore : k < l.length ∧ k < 30
    · obtain ⟨hm1, hm2⟩ := hmore
      have hm1' : (k : Int) < (l.length : Int) := by omega
      have hm2' : (k : Int) < 30 := by omega
      obtain ⟨a, ha⟩ : ∃ a, a = l[k] := ⟨_, rfl⟩
      obtain ⟨bl, off, rfl, hbl, hcs, haok, hkF⟩ := act_at HL.out HOK.out HB.out.low k hm1 ha
      have HDO := Lib.hid (do_walk p q F2 R2 st a wr HB.out.both (pendMax_le HPM.out (by have := HK.out; omega)) haok (hkF F2 q HB.out.hF HB.out.hq))
      have ST := Lib.hid (pendMax_act HPM.out HB.out.both.disk.ok a)
      have HCS := Lib.hid hcs
      clear haok hkF hcs hbl ha hm1 hm2
      go_wp2_with (refine wpList_cells 35 _ rfl bl (off + k * 5) rfl rfl (dactv a) _ HCS.out Try.underlying35 rfl info_act ?_)
      refine HDO.out.mono ?_
      intro e w7 hpost
      have he := hpost.1
      subst he
      obtain ⟨F3, R3, hb7⟩ := HB.out.post hpost
      have HB7 := Lib.hid hb7
      clear hb7 hpost HDO
      go_wp2_with fail
      go_roundg (gk - 1)
      case measure => have := HGK.out; omega
      case rel => exact ⟨k + 1, F3, R3, actD st a, by have := HGK.out; omega, by go_num, HB7.out, ST.out, by omega⟩
    · have hnot : ¬ ((k : Int) < (l.length : Int)) ∨ ((k : Int) < (l.length : Int) ∧ ¬ (k : Int) < 30) := by omega
      have KC := Lib.hid (copy_walk p F2 st wr HB.out.both.disk (pendMax_le HPM.out (by have := HK.out; omega)))
      clear hmore
      rcases hnot with hlt | ⟨hlt, hlt2⟩
      · go_wp2_with fail
        refine KC.out.mono ?_
        rintro e w5 ⟨p2, G2, rfl, hb5, hd5, hG5⟩
        obtain ⟨rb, rc, V, hr5⟩ := (HB.out.below hb5).both.ref
        obtain ⟨n, hn⟩ : ∃ n, n = st.S.length := ⟨_, rfl⟩
        have HR5 := Lib.hid hr5; have HB5 := Lib.hid hb5; have HD5 := Lib.hid hd5; have HG5 := Lib.hid hG5; have HN := Lib.hid hn
        clear hb5 hd5 hG5 hr5 KC hn
        obtain ⟨C, hC⟩ : ∃ C : World → Prop, C = fun w9 => Below w5.heap.size w5 w9 := ⟨_, rfl⟩
        have HCO := Lib.hid (show ∀ w9, Below w5.heap.size w5 w9 → C w9 from fun w9 h => by rw [hC]; exact h)
        have HC0 := Lib.hid (show ∀ w9, C w9 → w9.cell? ⟨q, 0, none⟩ = some (.slice (some ⟨rb, 0, none⟩) n rc) from fun w9 h => by rw [hC] at h; rw [HN.out]; exact (HR5.out.below h).c0)
        have HC1 := Lib.hid (show ∀ w9, C w9 → w9.cell? ⟨q, 1, none⟩ = some (.int .i64 st.calls) from fun w9 h => by rw [hC] at h; exact (HR5.out.below h).c1)
        have HC2 := Lib.hid (show ∀ w9, C w9 → w9.cell? ⟨q, 2, none⟩ = some (.int .i64 st.armed) from fun w9 h => by rw [hC] at h; exact (HR5.out.below h).c2)
        have HC3 := Lib.hid (show ∀ w9, C w9 → w9.cell? ⟨q, 3, none⟩ = some (.bool st.down) from fun w9 h => by rw [hC] at h; exact (HR5.out.below h).c3)
        have hC0 : C w5.drew := HCO.out _ (Below.refl _ _).drew
        have hB0 : Below w5.heap.size w5 w5.drew := (Below.refl _ _).drew
        clear hC
        go_upto_region 10 with fail
        refine wp_region_mix C [(0,true),(1,true),(2,true),(3,true),(4,true),(5,true),(6,true),(7,true),(8,true),(9,true),(10,true),(11,true),(12,true),(13,true),(14,true),(15,true),(16,true),(17,false),(18,true)] (by kernel_rfl) (by kernel_rfl) hC0 ?_
        generalize w5.drew = w6 at hB0 ⊢
        clear hC0
        simp only [List.filterMap_cons, List.filterMap_nil, List.getElem?_cons_zero, List.getElem?_cons_succ, Option.map_some]
        repeat (refine mix_read (by rfl) ?_; apply Exists.intro; refine ⟨fun w9 hw9 => ?_, ?_⟩; (· have d1 := HC0.out w9 hw9; have d2 := HC1.out w9 hw9; have d3 := HC2.out w9 hw9; have d4 := HC3.out w9 hw9; go_simp; rfl); simp only [Act.put, List.setIfInBounds_toArray, List.set_cons_succ, List.set_cons_zero])
        refine mix_step (by rfl) (fun K' hK => ?_)
        go_simp
        have htw := ref_twin (HR5.out.below hB0) HN.out
        have hbx : Below w6.heap.size w6 (w6.alloc (.cells #[.slice (some ⟨rb, 0, none⟩) n rc, .int .i64 st.calls, .int .i64 st.armed, .bool st.down] 49)) := (Below.refl _ _).alloc (Nat.le_refl _) _
        have hb6 := hB0.trans (hbx.mono hB0.size)
        have hfour := four_new HB.out HB5.out HD5.out HG5.out hb6 (q2 := w6.heap.size) hB0.size ⟨rb, rc, V, htw⟩
        refine hK _ _ (HCO.out _ hb6) ?_
        clear hK K'
        try simp only [Act.put, List.setIfInBounds_toArray, List.set_cons_succ, List.set_cons_zero]
        obtain ⟨q2, hq2⟩ : ∃ q2, q2 = w6.heap.size := ⟨_, rfl⟩
        rw [← hq2] at hfour ⊢
        generalize w6.alloc (.cells #[.slice (some ⟨rb, 0, none⟩) n rc, .int .i64 st.calls, .int .i64 st.armed, .bool st.down] 49) = w7 at hfour ⊢
        have HFOUR := Lib.hid hfour
        clear hfour htw hbx hb6 hB0 hq2
        repeat (refine mix_read (by rfl) ?_; apply Exists.intro; refine ⟨fun w9 hw9 => ?_, ?_⟩; (· go_simp; rfl); simp only [Act.put, List.setIfInBounds_toArray, List.set_cons_succ, List.set_cons_zero])
        refine mix_nil (NoPanic.normal ?_)
        go_wp2_with fail
        go_loopg [11] l2.length (fun gk i wr => ∃ k F R st G S2 st2, k + gk = l2.length ∧ i = .int .i64 (k : Nat) ∧ Four w wr p F q R st p2 G q2 S2 st2 ∧ pendMax st.S (30 + k) ∧ pendMax st2.S (30 + k) ∧ k ≤ 30)
        case atStart => exact ⟨0, _, _, _, _, _, _, by omega, rfl, HFOUR.out, pendMax_le HPM.out HK.out, pendMax_le HPM.out HK.out, by omega⟩
        case round =>
          obtain ⟨k, F5, R5, st5, G5, S5, st6, hgk, rfl, hf, hp1, hp2, hk3⟩ := hrel
          have HF := Lib.hid hf; have HP1 := Lib.hid hp1; have HP2 := Lib.hid hp2; have HK3 := Lib.hid hk3; have HGK2 := Lib.hid hgk
          clear hf hp1 hp2 hk3 hgk HFOUR
          by_cases hmore : k < l2.length ∧ k < 30
          · obtain ⟨hm1, hm2⟩ := hmore
            have hm1' : (k : Int) < (l2.length : Int) := by omega
            have hm2' : (k : Int) < 30 := by omega
            obtain ⟨a, ha⟩ : ∃ a, a = l2[k] := ⟨_, rfl⟩
            obtain ⟨bl, off, rfl, hbl, hcs, haok, hkF⟩ := act_at HL2.out HOK2.out HF.out.b1.low k hm1 ha
            have HCS := Lib.hid hcs
            by_cases hev : k % 2 = 0
            · have hev2 : (k : Int) % 2 = 0 := by omega
              have HDO := Lib.hid (do_walk p q F5 R5 st5 a wr HF.out.b1.both (pendMax_le HP1.out (by have := HK3.out; omega)) haok (hkF F5 q HF.out.b1.hF HF.out.b1.hq))
              have ST := Lib.hid (pendMax_act HP1.out HF.out.b1.both.disk.ok a)
              clear haok hkF hcs hbl ha hm1 hm2 hev
              go_wp2_with (refine wpList_cells 35 _ rfl bl (off + k * 5) rfl (by rfl) (dactv a) _ HCS.out Try.underlying35 rfl info_act ?_)
              refine HDO.out.mono ?_
              intro e w8 hpost
              have he := hpost.1
              subst he
              obtain ⟨F9, R9, hf9⟩ := HF.out.left hpost
              have HF9 := Lib.hid hf9
              clear hf9 hpost HDO
              go_wp2_with fail
              go_roundg (gk - 1)
              case measure => have := HGK2.out; omega
              case rel => exact ⟨k + 1, F9, R9, actD st5 a, G5, S5, st6, by have := HGK2.out; omega, by go_num, HF9.out, pendMax_le ST.out (by omega), pendMax_le HP2.out (by omega), by omega⟩
            · have hev2 : (k : Int) % 2 = 1 := by omega
              have HDO := Lib.hid (do_walk p2 q2 G5 S5 st6 a wr HF.out.b2.both (pendMax_le HP2.out (by have := HK3.out; omega)) haok (hkF G5 q2 HF.out.b2.hF HF.out.b2.hq))
              have ST := Lib.hid (pendMax_act HP2.out HF.out.b2.both.disk.ok a)
              clear haok hkF hcs hbl ha hm1 hm2 hev
              go_wp2_with (refine wpList_cells 35 _ rfl bl (off + k * 5) rfl (by rfl) (dactv a) _ HCS.out Try.underlying35 rfl info_act ?_)
              refine HDO.out.mono ?_
              intro e w8 hpost
              have he := hpost.1
              subst he
              obtain ⟨F9, R9, hf9⟩ := HF.out.right hpost
              have HF9 := Lib.hid hf9
              clear hf9 hpost HDO
              go_wp2_with fail
              go_roundg (gk - 1)
              case measure => have := HGK2.out; omega
              case rel => exact ⟨k + 1, F5, R5, st5, F9, R9, actD st6 a, by have := HGK2.out; omega, by go_num, HF9.out, pendMax_le HP1.out (by omega), pendMax_le ST.out (by omega), by omega⟩
          · have hnot2 : ¬ ((k : Int) < (l2.length : Int)) ∨ ((k : Int) < (l2.length : Int) ∧ ¬ (k : Int) < 30) := by omega
            clear hmore
            rcases hnot2 with hl3 | ⟨hl3, hl4⟩
            · go_wp2_with fail
              refine (arm_nil 1 wr).mono ?_
              rintro e x1 ⟨rfl, hx1⟩
              subst x1
              go_wp2_with fail
              refine (crash_nil _ 1 1 _).mono ?_
              rintro e x2 ⟨rfl, hx2⟩
              have HX2 := Lib.hid (HF.out.b1.low.trans ((((Below.refl wr.heap.size wr).alloc (Nat.le_refl _) (.cells #[.int .i64 1] 3)).trans (hx2.mono (by simp))).mono HF.out.b1.low.size))
              clear hx2
              go_wp2_with fail
              refine (read_nil 0 ⟨#[]⟩ x2).mono ?_
              rintro e x3 ⟨rfl, hx3⟩
              subst x3
              go_wp2_with fail
              refine (write_nil 0 ⟨#[97]⟩ x2).mono ?_
              rintro e x4 ⟨rfl, hx4⟩
              subst x4
              go_wp2_with fail
              refine (flush_nil x2).mono ?_
              rintro e x5 ⟨rfl, hx5⟩
              subst x5
              go_wp2_with fail
              refine (down_nil x2).mono ?_
              rintro e x6 ⟨rfl, hx6⟩
              subst x6
              go_wp2_with fail
              refine (len_nil x2).mono ?_
              rintro e x7 ⟨rfl, hx7⟩
              subst x7
              go_wp2_with fail
              refine (calls_nil x2).mono ?_
              rintro e x8 ⟨rfl, hx8⟩
              subst x8
              go_wp2_with fail
              refine (dirty_nil x2).mono ?_
              rintro e x9 ⟨rfl, hx9⟩
              subst x9
              go_wp2_with fail
              refine (copy_nil x2).mono ?_
              rintro e y1 ⟨rfl, hy1⟩
              subst y1
              go_wp2_with fail
              go_ret
              exact ⟨rfl, HX2.out⟩
            · go_wp2_with fail
              refine (arm_nil 1 wr).mono ?_
              rintro e x1 ⟨rfl, hx1⟩
              subst x1
              go_wp2_with fail
              refine (crash_nil _ 1 1 _).mono ?_
              rintro e x2 ⟨rfl, hx2⟩
              have HX2 := Lib.hid (HF.out.b1.low.trans ((((Below.refl wr.heap.size wr).alloc (Nat.le_refl _) (.cells #[.int .i64 1] 3)).trans (hx2.mono (by simp))).mono HF.out.b1.low.size))
              clear hx2
              go_wp2_with fail
              refine (read_nil 0 ⟨#[]⟩ x2).mono ?_
              rintro e x3 ⟨rfl, hx3⟩
              subst x3
              go_wp2_with fail
              refine (write_nil 0 ⟨#[97]⟩ x2).mono ?_
              rintro e x4 ⟨rfl, hx4⟩
              subst x4
              go_wp2_with fail
              refine (flush_nil x2).mono ?_
              rintro e x5 ⟨rfl, hx5⟩
              subst x5
              go_wp2_with fail
              refine (down_nil x2).mono ?_
              rintro e x6 ⟨rfl, hx6⟩
              subst x6
              go_wp2_with fail
              refine (len_nil x2).mono ?_
              rintro e x7 ⟨rfl, hx7⟩
              subst x7
              go_wp2_with fail
              refine (calls_nil x2).mono ?_
              rintro e x8 ⟨rfl, hx8⟩
              subst x8
              go_wp2_with fail
              refine (dirty_nil x2).mono ?_
              rintro e x9 ⟨rfl, hx9⟩
              subst x9
              go_wp2_with fail
              refine (copy_nil x2).mono ?_
              rintro e y1 ⟨rfl, hy1⟩
              subst y1
              go_wp2_with fail
              go_ret
              exact ⟨rfl, HX2.out⟩
      · go_wp2_with fail
        refine KC.out.mono ?_
        rintro e w5 ⟨p2, G2, rfl, hb5, hd5, hG5⟩
        obtain ⟨rb, rc, V, hr5⟩ := (HB.out.below hb5).both.ref
        obtain ⟨n, hn⟩ : ∃ n, n = st.S.length := ⟨_, rfl⟩
        have HR5 := Lib.hid hr5; have HB5 := Lib.hid hb5; have HD5 := Lib.hid hd5; have HG5 := Lib.hid hG5; have HN := Lib.hid hn
        clear hb5 hd5 hG5 hr5 KC hn
        obtain ⟨C, hC⟩ : ∃ C : World → Prop, C = fun w9 => Below w5.heap.size w5 w9 := ⟨_, rfl⟩
        have HCO := Lib.hid (show ∀ w9, Below w5.heap.size w5 w9 → C w9 from fun w9 h => by rw [hC]; exact h)
        have HC0 := Lib.hid (show ∀ w9, C w9 → w9.cell? ⟨q, 0, none⟩ = some (.slice (some ⟨rb, 0, none⟩) n rc) from fun w9 h => by rw [hC] at h; rw [HN.out]; exact (HR5.out.below h).c0)
        have HC1 := Lib.hid (show ∀ w9, C w9 → w9.cell? ⟨q, 1, none⟩ = some (.int .i64 st.calls) from fun w9 h => by rw [hC] at h; exact (HR5.out.below h).c1)
        have HC2 := Lib.hid (show ∀ w9, C w9 → w9.cell? ⟨q, 2, none⟩ = some (.int .i64 st.armed) from fun w9 h => by rw [hC] at h; exact (HR5.out.below h).c2)
        have HC3 := Lib.hid (show ∀ w9, C w9 → w9.cell? ⟨q, 3, none⟩ = some (.bool st.down) from fun w9 h => by rw [hC] at h; exact (HR5.out.below h).c3)
        have hC0 : C w5.drew := HCO.out _ (Below.refl _ _).drew
        have hB0 : Below w5.heap.size w5 w5.drew := (Below.refl _ _).drew
        clear hC
        go_upto_region 10 with fail
        refine wp_region_mix C [(0,true),(1,true),(2,true),(3,true),(4,true),(5,true),(6,true),(7,true),(8,true),(9,true),(10,true),(11,true),(12,true),(13,true),(14,true),(15,true),(16,true),(17,false),(18,true)] (by kernel_rfl) (by kernel_rfl) hC0 ?_
        generalize w5.drew = w6 at hB0 ⊢
        clear hC0
        simp only [List.filterMap_cons, List.filterMap_nil, List.getElem?_cons_zero, List.getElem?_cons_succ, Option.map_some]
        repeat (refine mix_read (by rfl) ?_; apply Exists.intro; refine ⟨fun w9 hw9 => ?_, ?_⟩; (· have d1 := HC0.out w9 hw9; have d2 := HC1.out w9 hw9; have d3 := HC2.out w9 hw9; have d4 := HC3.out w9 hw9; go_simp; rfl); simp only [Act.put, List.setIfInBounds_toArray, List.set_cons_succ, List.set_cons_zero])
        refine mix_step (by rfl) (fun K' hK => ?_)
        go_simp
        have htw := ref_twin (HR5.out.below hB0) HN.out
        have hbx : Below w6.heap.size w6 (w6.alloc (.cells #[.slice (some ⟨rb, 0, none⟩) n rc, .int .i64 st.calls, .int .i64 st.armed, .bool st.down] 49)) := (Below.refl _ _).alloc (Nat.le_refl _) _
        have hb6 := hB0.trans (hbx.mono hB0.size)
        have hfour := four_new HB.out HB5.out HD5.out HG5.out hb6 (q2 := w6.heap.size) hB0.size ⟨rb, rc, V, htw⟩
        refine hK _ _ (HCO.out _ hb6) ?_
        clear hK K'
        try simp only [Act.put, List.setIfInBounds_toArray, List.set_cons_succ, List.set_cons_zero]
        obtain ⟨q2, hq2⟩ : ∃ q2, q2 = w6.heap.size := ⟨_, rfl⟩
        rw [← hq2] at hfour ⊢
        generalize w6.alloc (.cells #[.slice (some ⟨rb, 0, none⟩) n rc, .int .i64 st.calls, .int .i64 st.armed, .bool st.down] 49) = w7 at hfour ⊢
        have HFOUR := Lib.hid hfour
        clear hfour htw hbx hb6 hB0 hq2
        repeat (refine mix_read (by rfl) ?_; apply Exists.intro; refine ⟨fun w9 hw9 => ?_, ?_⟩; (· go_simp; rfl); simp only [Act.put, List.setIfInBounds_toArray, List.set_cons_succ, List.set_cons_zero])
        refine mix_nil (NoPanic.normal ?_)
        go_wp2_with fail
        go_loopg [11] l2.length (fun gk i wr => ∃ k F R st G S2 st2, k + gk = l2.length ∧ i = .int .i64 (k : Nat) ∧ Four w wr p F q R st p2 G q2 S2 st2 ∧ pendMax st.S (30 + k) ∧ pendMax st2.S (30 + k) ∧ k ≤ 30)
        case atStart => exact ⟨0, _, _, _, _, _, _, by omega, rfl, HFOUR.out, pendMax_le HPM.out HK.out, pendMax_le HPM.out HK.out, by omega⟩
        case round =>
          obtain ⟨k, F5, R5, st5, G5, S5, st6, hgk, rfl, hf, hp1, hp2, hk3⟩ := hrel
          have HF := Lib.hid hf; have HP1 := Lib.hid hp1; have HP2 := Lib.hid hp2; have HK3 := Lib.hid hk3; have HGK2 := Lib.hid hgk
          clear hf hp1 hp2 hk3 hgk HFOUR
          by_cases hmore : k < l2.length ∧ k < 30
          · obtain ⟨hm1, hm2⟩ := hmore
            have hm1' : (k : Int) < (l2.length : Int) := by omega
            have hm2' : (k : Int) < 30 := by omega
            obtain ⟨a, ha⟩ : ∃ a, a = l2[k] := ⟨_, rfl⟩
            obtain ⟨bl, off, rfl, hbl, hcs, haok, hkF⟩ := act_at HL2.out HOK2.out HF.out.b1.low k hm1 ha
            have HCS := Lib.hid hcs
            by_cases hev : k % 2 = 0
            · have hev2 : (k : Int) % 2 = 0 := by omega
              have HDO := Lib.hid (do_walk p q F5 R5 st5 a wr HF.out.b1.both (pendMax_le HP1.out (by have := HK3.out; omega)) haok (hkF F5 q HF.out.b1.hF HF.out.b1.hq))
              have ST := Lib.hid (pendMax_act HP1.out HF.out.b1.both.disk.ok a)
              clear haok hkF hcs hbl ha hm1 hm2 hev
              go_wp2_with (refine wpList_cells 35 _ rfl bl (off + k * 5) rfl (by rfl) (dactv a) _ HCS.out Try.underlying35 rfl info_act ?_)
              refine HDO.out.mono ?_
              intro e w8 hpost
              have he := hpost.1
              subst he
              obtain ⟨F9, R9, hf9⟩ := HF.out.left hpost
              have HF9 := Lib.hid hf9
              clear hf9 hpost HDO
              go_wp2_with fail
              go_roundg (gk - 1)
              case measure => have := HGK2.out; omega
              case rel => exact ⟨k + 1, F9, R9, actD st5 a, G5, S5, st6, by have := HGK2.out; omega, by go_num, HF9.out, pendMax_le ST.out (by omega), pendMax_le HP2.out (by omega), by omega⟩
            · have hev2 : (k : Int) % 2 = 1 := by omega
              have HDO := Lib.hid (do_walk p2 q2 G5 S5 st6 a wr HF.out.b2.both (pendMax_le HP2.out (by have := HK3.out; omega)) haok (hkF G5 q2 HF.out.b2.hF HF.out.b2.hq))
              have ST := Lib.hid (pendMax_act HP2.out HF.out.b2.both.disk.ok a)
              clear haok hkF hcs hbl ha hm1 hm2 hev
              go_wp2_with (refine wpList_cells 35 _ rfl bl (off + k * 5) rfl (by rfl) (dactv a) _ HCS.out Try.underlying35 rfl info_act ?_)
              refine HDO.out.mono ?_
              intro e w8 hpost
              have he := hpost.1
              subst he
              obtain ⟨F9, R9, hf9⟩ := HF.out.right hpost
              have HF9 := Lib.hid hf9
              clear hf9 hpost HDO
              go_wp2_with fail
              go_roundg (gk - 1)
              case measure => have := HGK2.out; omega
              case rel => exact ⟨k + 1, F5, R5, st5, F9, R9, actD st6 a, by have := HGK2.out; omega, by go_num, HF9.out, pendMax_le HP1.out (by omega), pendMax_le ST.out (by omega), by omega⟩
          · have hnot2 : ¬ ((k : Int) < (l2.length : Int)) ∨ ((k : Int) < (l2.length : Int) ∧ ¬ (k : Int) < 30) := by omega
            clear hmore
            rcases hnot2 with hl3 | ⟨hl3, hl4⟩
            · go_wp2_with fail
              refine (arm_nil 1 wr).mono ?_
              rintro e x1 ⟨rfl, hx1⟩
              subst x1
              go_wp2_with fail
              refine (crash_nil _ 1 1 _).mono ?_
              rintro e x2 ⟨rfl, hx2⟩
              have HX2 := Lib.hid (HF.out.b1.low.trans ((((Below.refl wr.heap.size wr).alloc (Nat.le_refl _) (.cells #[.int .i64 1] 3)).trans (hx2.mono (by simp))).mono HF.out.b1.low.size))
              clear hx2
              go_wp2_with fail
              refine (read_nil 0 ⟨#[]⟩ x2).mono ?_
              rintro e x3 ⟨rfl, hx3⟩
              subst x3
              go_wp2_with fail
              refine (write_nil 0 ⟨#[97]⟩ x2).mono ?_
              rintro e x4 ⟨rfl, hx4⟩
              subst x4
              go_wp2_with fail
              refine (flush_nil x2).mono ?_
              rintro e x5 ⟨rfl, hx5⟩
              subst x5
              go_wp2_with fail
              refine (down_nil x2).mono ?_
              rintro e x6 ⟨rfl, hx6⟩
              subst x6
              go_wp2_with fail
              refine (len_nil x2).mono ?_
              rintro e x7 ⟨rfl, hx7⟩
              subst x7
              go_wp2_with fail
              refine (calls_nil x2).mono ?_
              rintro e x8 ⟨rfl, hx8⟩
              subst x8
              go_wp2_with fail
              refine (dirty_nil x2).mono ?_
              rintro e x9 ⟨rfl, hx9⟩
              subst x9
              go_wp2_with fail
              refine (copy_nil x2).mono ?_
              rintro e y1 ⟨rfl, hy1⟩
              subst y1
              go_wp2_with fail
              go_ret
              exact ⟨rfl, HX2.out⟩
            · go_wp2_with fail
              refine (arm_nil 1 wr).mono ?_
              rintro e x1 ⟨rfl, hx1⟩
              subst x1
              go_wp2_with fail
              refine (crash_nil _ 1 1 _).mono ?_
              rintro e x2 ⟨rfl, hx2⟩
              have HX2 := Lib.hid (HF.out.b1.low.trans ((((Below.refl wr.heap.size wr).alloc (Nat.le_refl _) (.cells #[.int .i64 1] 3)).trans (hx2.mono (by simp))).mono HF.out.b1.low.size))
              clear hx2
              go_wp2_with fail
              refine (read_nil 0 ⟨#[]⟩ x2).mono ?_
              rintro e x3 ⟨rfl, hx3⟩
              subst x3
              go_wp2_with fail
              refine (write_nil 0 ⟨#[97]⟩ x2).mono ?_
              rintro e x4 ⟨rfl, hx4⟩
              subst x4
              go_wp2_with fail
              refine (flush_nil x2).mono ?_
              rintro e x5 ⟨rfl, hx5⟩
              subst x5
              go_wp2_with fail
              refine (down_nil x2).mono ?_
              rintro e x6 ⟨rfl, hx6⟩
              subst x6
              go_wp2_with fail
              refine (len_nil x2).mono ?_
              rintro e x7 ⟨rfl, hx7⟩
              subst x7
              go_wp2_with fail
              refine (calls_nil x2).mono ?_
              rintro e x8 ⟨rfl, hx8⟩
              subst x8
              go_wp2_with fail
              refine (dirty_nil x2).mono ?_
              rintro e x9 ⟨rfl, hx9⟩
              subst x9
              go_wp2_with fail
              refine (copy_nil x2).mono ?_
              rintro e y1 ⟨rfl, hy1⟩
              subst y1
              go_wp2_with fail
              go_ret
              exact ⟨rfl, HX2.out⟩
end Go.Proofs.Ytcabocppplokgaa
