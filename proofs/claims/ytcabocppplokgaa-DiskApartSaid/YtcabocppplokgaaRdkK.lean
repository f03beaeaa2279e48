/-
  The walk of DiskDoes.
-/
import Derived.Test.YtcabocppplokgaaRdkJ
import Derived.Test.YtcabocppplokgaaFork
namespace Go.Proofs.Ytcabocppplokgaa
open Go.RowKit

theorem writeD_len (st : Dk) (x : Int) (s : ByteArray) : (writeD st x s).2.S.length = st.S.length := by
  unfold writeD
  split
  · rfl
  · split
    · rfl
    · split
      · rfl
      · show (pushS st.S _ _).length = _
        unfold pushS
        rw [putS_length]
theorem flushD_len (st : Dk) : (flushD st).2.S.length = st.S.length := by
  unfold flushD
  split
  · rfl
  · split
    · rfl
    · show (settleN _ _ _ _).length = _
      rw [settleN_length]
theorem actD_len (st : Dk) (a : DAct) : (actD st a).S.length = st.S.length := by
  unfold actD
  split
  · rfl
  · split
    · exact flushD_len st
    · split
      · rfl
      · split
        · show (settleN _ _ _ _).length = _
          rw [settleN_length]
        · exact writeD_len _ _ _
theorem plan_load_cells {P : Program} {ops : Array Oper} {Q : Exit → Act → World → Prop} {S : World → Prop} {r : PlanO} {a : Act} {w : World} {o : Oper} (ty : TypeId) (x : Operand) (ho : o.op = .load ty x) (hw : Region.wanted o (yielded ops a.tmps) = true)
    (b off : Nat) (hx : a.eval x = .pointer (some ⟨b, off, none⟩)) (cs : List Value) (d : TypeDesc) (hc : ∀ w', S w' → ∀ j u, cs[j]? = some u → w'.cell? ⟨b, off + j, none⟩ = some u)
    (hu : P.underlying ty = some d) (hd : (match d with | .struct _ | .array _ _ => true | _ => false) = true) (hi : (P.info? ty).map (·.size) = some cs.length)
    (h : wpPlanO P ops Q S r (a.put o.dst (.agg cs.toArray)) w) : wpPlanO P ops Q S (.read (some o) r) a w :=
  plan_read hw ⟨_, fun w' hw' => by
    unfold execOp
    simp only [ho, hx, Instr.loadAt, Instr.sureAddr, Sem.run_bind, Sem.run_pure, Result.andThen_ok, run_load_cells w' b off ty cs d (hc w' hw') hu hd hi], h⟩
theorem info_act : (Try.prog.info? 35).map (·.size) = some 5 := by kernel_rfl
/-- numbers of our own, as they came in -/
theorem IntRow.ints {w : World} {base : Nat} {v : Value} {l : List Nat} (h : IntRow w base v l) {D : List Int} (hD : D = l.map Int.ofNat) {m : Nat} (hm : m = D.length) : ∃ ad cap, v = .slice ad m cap ∧ intsAt w ad D ∧ m ≤ 9223372036854775807 := by
  obtain ⟨ad, cap, rfl, h1, h2, h3⟩ := h.open
  have hml : m = l.length := by rw [hm, hD, List.length_map]
  refine ⟨ad, cap, by rw [hml], ?_, by omega⟩
  rw [hD]
  rcases h3 with h3 | ⟨g, rfl, _, h4, h5⟩
  · exact .inl (by rw [h3]; rfl)
  · refine .inr ⟨g, 0, rfl, h4, fun i hi => ?_⟩
    have hi' : i < l.length := by simpa using hi
    rw [Nat.zero_add, h5 i hi']
    simp
/-- both lie above what stood there -/
structure BothLow (w0 w : World) (p : Nat) (F : Nat → Prop) (q : Nat) (R : Nat → Prop) (st : Dk) : Prop where
  both : Both w p F q R st
  low : Below w0.heap.size w0 w
  hF : ∀ k, F k → w0.heap.size ≤ k
  hq : w0.heap.size ≤ q
  hR : ∀ k, R k → w0.heap.size ≤ k
theorem BothLow.post {w0 w w' : World} {p q : Nat} {F R : Nat → Prop} {st st' : Dk} {v : Value} {e : Ending} (h : BothLow w0 w p F q R st) (hp : BothPost p F q R w st' v e w') : ∃ F' R', BothLow w0 w' p F' q R' st' := by
  obtain ⟨_, F', R', h1, h2, h3, h4⟩ := hp
  exact ⟨F', R', h1, h4.below h.low h.low.size (fun k hk => hk.elim (h.hF k) (fun e => by rw [e]; exact h.hq)), fun k hk => (h2 k hk).elim (h.hF k) (Nat.le_trans h.low.size), h.hq, fun k hk => (h3 k hk).elim (h.hR k) (Nat.le_trans h.low.size)⟩
theorem BothLow.below {w0 w w' : World} {p q : Nat} {F R : Nat → Prop} {st : Dk} (h : BothLow w0 w p F q R st) (hb : Below w.heap.size w w') : BothLow w0 w' p F q R st :=
  ⟨h.both.below hb, h.low.trans (hb.mono h.low.size), h.hF, h.hq, h.hR⟩

set_option maxHeartbeats 8000000 in
set_option maxRecDepth 8000 in
theorem diskDoes_walk (z : Int) (ad : Option Addr) (cap : Nat) (l : List DAct) (w : World) (hz : wide z) (hl : dactsAt w ad l) (hok : ∀ a ∈ l, dactOk w a) (hll : l.length ≤ 9223372036854775807) :
    Calls Try.prog 4 #[.int .i64 z, .slice ad l.length cap] w fun e w' => e = .returned (.bool true) ∧ Below w.heap.size w w' := by
  have HL := Lib.hid hl; have HOK := Lib.hid hok
  clear hl hok
  by_cases hbad : z < 1 ∨ 4096 < z
  · have KN := Lib.hid (new_bad z w hbad)
    have KA := Lib.hid (awake_walk w)
    rcases hbad with hb | hb
    · go_enter Try.func4, Try.ntmps4
      go_wp2_with fail
      refine KN.out.mono ?_
      rintro e w1 ⟨rfl, rfl⟩
      go_wp2_with fail
      refine KA.out.mono ?_
      rintro e w2 ⟨rfl, hb2⟩
      have HB2 := Lib.hid hb2
      clear hb2
      go_wp2_with fail
      go_ret
      exact ⟨rfl, HB2.out⟩
    · have hb1 : ¬ z < 1 := by omega
      go_enter Try.func4, Try.ntmps4
      go_wp2_with fail
      refine KN.out.mono ?_
      rintro e w1 ⟨rfl, rfl⟩
      go_wp2_with fail
      refine KA.out.mono ?_
      rintro e w2 ⟨rfl, hb2⟩
      have HB2 := Lib.hid hb2
      clear hb2
      go_wp2_with fail
      go_ret
      exact ⟨rfl, HB2.out⟩
  · obtain ⟨n, rfl⟩ := Int.eq_ofNat_of_zero_le (show 0 ≤ z by omega)
    have h1 : ¬ (n : Int) < 1 := by omega
    have h2 : ¬ (4096 : Int) < (n : Int) := by omega
    have HN := Lib.hid (show 1 ≤ n ∧ n ≤ 4096 by omega)
    clear hbad hz
    go_enter Try.func4, Try.ntmps4
    go_wp2_with fail
    refine (new_disk n w HN.out.1 HN.out.2).mono ?_
    rintro e w1 ⟨p, F, rfl, hb1, hd1, hF1⟩
    have KL := Lib.hid (len_walk p F _ w1 hd1)
    have hrl : (Dk.mk (List.replicate n [z64]) 0 0 false).S.length = n := by simp
    rw [hrl] at KL
    have KA := Lib.hid (awake_walk w1)
    have HB1 := Lib.hid hb1; have HD1 := Lib.hid hd1; have HF1 := Lib.hid hF1
    clear hb1 hd1 hF1 hrl
    go_wp2_with fail
    refine KL.out.mono ?_
    rintro e w2 ⟨rfl, rfl⟩
    go_wp2_with fail
    refine KA.out.mono ?_
    rintro e w3 ⟨rfl, hb3⟩
    have HB3 := Lib.hid (HB1.out.trans (hb3.mono HB1.out.size)); have HD3 := Lib.hid (HD1.out.below hb3)
    clear hb3 KA KL HB1 HD1
    by_cases h20 : (20 : Int) < (n : Int)
    · go_wp2_with fail
      go_ret
      exact ⟨rfl, HB3.out⟩
    · have hn20 : n ≤ 20 := by omega
      have KR := Lib.hid (rnew_walk n w3 HN.out.1 hn20)
      clear hn20
      go_wp2_with fail
      refine KR.out.mono ?_
      rintro e w4 ⟨q, R, rfl, hb4, hr4, hq4, hR4⟩
      have HBL := Lib.hid (show BothLow w w4 p F q R ⟨List.replicate n [z64], 0, 0, false⟩ from
        ⟨⟨HD3.out.below hb4, hr4, fun hf => by have := HD3.out.lt q hf; omega, fun k hk hf => by have h1 := HD3.out.lt k hf; have h2 := hR4 k hk; omega⟩, HB3.out.trans (hb4.mono HB3.out.size), HF1.out, Nat.le_trans HB3.out.size hq4, fun k hk => Nat.le_trans HB3.out.size (hR4 k hk)⟩)
      clear hb4 hr4 hq4 hR4 KR HD3 HB3 HF1
      go_wp2_with fail
      go_loopg [8] l.length (fun gk i wr => ∃ k F R st, k + gk = l.length ∧ i = .int .i64 (k : Nat) ∧ BothLow w wr p F q R st ∧ pendMax st.S k ∧ k ≤ 80 ∧ st.S.length = n)
      case atStart => exact ⟨0, F, R, _, by omega, rfl, HBL.out, pendMax_new n, by omega, by simp⟩
      case round =>
        obtain ⟨k, F2, R2, st, hgk, rfl, hbl, hpm, hk80, hsl⟩ := hrel
        have HB := Lib.hid hbl; have HPM := Lib.hid hpm; have HK := Lib.hid hk80; have HGK := Lib.hid hgk; have HSL := Lib.hid hsl
        clear hbl hpm hk80 hgk hsl HBL
        by_cases hmore : k < l.length ∧ k < 80
        · obtain ⟨hm1, hm2⟩ := hmore
          have hm1' : (k : Int) < (l.length : Int) := by omega
          have hm2' : (k : Int) < 80 := by omega
          obtain ⟨a, ha⟩ : ∃ a, a = l[k] := ⟨_, rfl⟩
          have haok := HOK.out a (by rw [ha]; exact List.getElem_mem hm1)
          rcases HL.out with hnil | ⟨bl, off, rfl, hbl, hcs⟩
          · rw [hnil] at hm1; simp at hm1
          have hca := hcs k hm1
          rw [← ha] at hca
          have hF3 : ¬ F2 bl := fun hf => by have := HB.out.hF bl hf; omega
          have hq3 : bl ≠ q := fun e => by have := HB.out.hq; omega
          have hcw : ∀ j u, (dactv a)[j]? = some u → wr.cell? ⟨bl, off + k * 5 + j, none⟩ = some u := fun j u hu => (HB.out.low.cell (p := ⟨bl, off + k * 5 + j, none⟩) hbl).trans (hca j u hu)
          have hbw : bl < wr.heap.size := Nat.lt_of_lt_of_le hbl HB.out.low.size
          have haok2 : dactOk wr a := ⟨haok.kind, haok.at', haok.n, haok.s, intsAt_touch haok.keep (Touch.ofBelow (fun _ => False) ⟨HB.out.low.os, HB.out.low.tape, HB.out.low.output, HB.out.low.size, HB.out.low.block⟩) (fun _ _ _ hf => hf), haok.kl, haok.kr⟩
          have hkF : a.keep = [] ∨ ∀ b off, a.ad = some ⟨b, off, none⟩ → ¬ F2 b ∧ b ≠ q := by
            rcases haok.keep with h | ⟨b', off', e1, e2, _⟩
            · exact .inl h
            · refine .inr (fun b off e => ?_)
              rw [e1] at e
              cases e
              exact ⟨fun hf => by have := HB.out.hF _ hf; omega, fun e => by have := HB.out.hq; omega⟩
          have hdo := do_walk p q F2 R2 st a
          have HDO := Lib.hid (fun w9 (hb9 : Below wr.heap.size wr w9) => hdo w9 (HB.out.both.below hb9) (pendMax_le HPM.out (by have := HK.out; omega)) ⟨haok2.kind, haok2.at', haok2.n, haok2.s, intsAt_touch haok2.keep (Touch.ofBelow (fun _ => False) hb9) (fun _ _ _ hf => hf), haok2.kl, haok2.kr⟩ hkF)
          obtain ⟨C, hC⟩ : ∃ C : World → Prop, C = fun w9 => ∀ j u, (dactv a)[j]? = some u → w9.cell? ⟨bl, off + k * 5 + j, none⟩ = some u := ⟨_, rfl⟩
          have hCof : ∀ w9, (∀ j u, (dactv a)[j]? = some u → w9.cell? ⟨bl, off + k * 5 + j, none⟩ = some u) → C w9 := fun w9 h => by rw [hC]; exact h
          have hCto : ∀ w9, C w9 → ∀ j u, (dactv a)[j]? = some u → w9.cell? ⟨bl, off + k * 5 + j, none⟩ = some u := fun w9 h => by rw [hC] at h; exact h
          have HCO := Lib.hid hCof; have HCT := Lib.hid hCto; have HCW := Lib.hid hcw; have HBW := Lib.hid hbw; have HF3 := Lib.hid (And.intro hF3 hq3)
          have hC0 : C wr.drew := hCof _ hcw
          have hB0 : Below wr.heap.size wr wr.drew := (Below.refl _ _).drew
          clear hdo haok haok2 hkF hcs hca hcw hF3 hq3 hbw hbl hC hCof hCto ha hm1 hm2
          have ST := Lib.hid (pendMax_act HPM.out HB.out.both.disk.ok a)
          have hdl : (dactv a).length = 5 := rfl
          go_upto_region 12 with fail
          refine wp_region_plan C (.read 0 <| .read 1 <| .read 2 <| .read 3 <| .read 4 <| .read 5 <| .step 6 <| .read 7 <| .read 8 <| .read 9 <| .read 11 <| .read 12 <| .read 13 <| .fork 10 (.step 14 (.read 15 <| .read 16 <| .read 17 <| .read 18 <| .read 20 <| .read 21 <| .read 22 <| .fork 19 (.step 23 (.read 24 <| .read 25 <| .read 26 <| .read 27 <| .read 29 <| .step 28 <| .step 30 <| .step 31 <| .read 32 <| .read 33 <| .done)) 23 (.step 19 (.read 24 <| .read 25 <| .read 26 <| .read 27 <| .read 29 <| .step 28 <| .step 30 <| .step 31 <| .read 32 <| .read 33 <| .done)))) 14 (.step 10 (.read 15 <| .read 16 <| .read 17 <| .read 18 <| .read 20 <| .read 21 <| .read 22 <| .fork 19 (.step 23 (.read 24 <| .read 25 <| .read 26 <| .read 27 <| .read 29 <| .step 28 <| .step 30 <| .step 31 <| .read 32 <| .read 33 <| .done)) 23 (.step 19 (.read 24 <| .read 25 <| .read 26 <| .read 27 <| .read 29 <| .step 28 <| .step 30 <| .step 31 <| .read 32 <| .read 33 <| .done))))) (by kernel_rfl) (by kernel_rfl) hC0 ?_
          generalize wr.drew = w6 at hB0 ⊢
          clear hC0
          simp only [Plan.fill, List.getElem?_cons_zero, List.getElem?_cons_succ]
          repeat (first
            | (refine plan_load_cells 35 _ rfl (by rfl) bl (off + k * 5) rfl (dactv a) _ (fun w9 hw9 => HCT.out w9 hw9) Try.underlying35 rfl info_act ?_; simp only [Act.put, List.setIfInBounds_toArray, List.set_cons_succ, List.set_cons_zero])
            | (refine plan_read (by rfl) ?_; apply Exists.intro; refine ⟨fun w9 hw9 => ?_, ?_⟩; (· go_simp; rfl); simp only [Act.put, List.setIfInBounds_toArray, List.set_cons_succ, List.set_cons_zero]))
          refine plan_step (by rfl) (fun K' hK => ?_)
          go_simp
          go_at_call 15
          refine (HDO.out w6 hB0).mono ?_
          intro e w7 hpost
          have he := hpost.1
          subst he
          obtain ⟨F3, R3, hb7⟩ := (HB.out.below hB0).post hpost
          obtain ⟨_, _, _, _, _, _, hT⟩ := hpost
          have hc7 : C w7 := HCO.out _ (fun j u hu => cell_touch ((hB0.cell (p := ⟨bl, off + k * 5 + j, none⟩) HBW.out).trans (HCW.out j u hu)) hT (Nat.lt_of_lt_of_le HBW.out hB0.size) (fun h => h.elim HF3.out.1 HF3.out.2))
          have hbl7 : bl < w7.heap.size := Nat.lt_of_lt_of_le HBW.out (Nat.le_trans hB0.size hT.size)
          refine hK _ _ hc7 ?_
          clear hK K'
          try simp only [Act.put, List.setIfInBounds_toArray, List.set_cons_succ, List.set_cons_zero]
          obtain ⟨st', hst'⟩ : ∃ st', st' = actD st a := ⟨_, rfl⟩
          rw [← hst'] at hb7 ST
          have hsl2 : st'.S.length = n := by rw [hst', actD_len]; exact HSL.out
          obtain ⟨D, hD⟩ : ∃ D : List Int, D = (dirt st'.S).map Int.ofNat := ⟨_, rfl⟩
          obtain ⟨m, hm⟩ : ∃ m, m = D.length := ⟨_, rfl⟩
          have HDD := Lib.hid hD; have HMM := Lib.hid hm
          clear hD hm
          obtain ⟨rb, rcap, V, hr7⟩ := hb7.both.ref
          have cq1 := hr7.c1
          have cq3 := hr7.c3
          have HB7 := Lib.hid hb7; have HC7 := Lib.hid hc7; have HBL7 := Lib.hid hbl7; have HSL2 := Lib.hid hsl2
          clear hT hB0 hc7 hbl7 hst' hsl2 hb7 hr7
          repeat (refine plan_read (by rfl) ?_; apply Exists.intro; refine ⟨fun w9 hw9 => ?_, ?_⟩; (· go_simp; rfl); simp only [Act.put, List.setIfInBounds_toArray, List.set_cons_succ, List.set_cons_zero])
          refine plan_fork (by rfl) (by rfl) (fun K' hK => ?_) (fun K' hK => ?_)
          · go_simp
            go_at_call 16
            refine (down_walk p F3 st' w7 HB7.out.both.disk).mono ?_
            rintro e w8 ⟨rfl, hw8⟩
            subst w8
            refine hK _ _ HC7.out ?_
            clear hK K'
            try simp only [Act.put, List.setIfInBounds_toArray, List.set_cons_succ, List.set_cons_zero]
            refine plan_step (by rfl) (fun K' hK => ?_)
            go_simp
            refine hK _ _ HC7.out ?_
            clear hK K'
            try simp only [Act.put, List.setIfInBounds_toArray, List.set_cons_succ, List.set_cons_zero]
            repeat (refine plan_read (by rfl) ?_; apply Exists.intro; refine ⟨fun w9 hw9 => ?_, ?_⟩; (· go_simp; rfl); simp only [Act.put, List.setIfInBounds_toArray, List.set_cons_succ, List.set_cons_zero])
            refine plan_fork (by rfl) (by rfl) (fun K' hK => ?_) (fun K' hK => ?_)
            · go_simp
              go_at_call 17
              refine (calls_walk p F3 st' w7 HB7.out.both.disk).mono ?_
              rintro e w8 ⟨rfl, hw8⟩
              subst w8
              refine hK _ _ HC7.out ?_
              clear hK K'
              try simp only [Act.put, List.setIfInBounds_toArray, List.set_cons_succ, List.set_cons_zero]
              refine plan_step (by rfl) (fun K' hK => ?_)
              go_simp
              refine hK _ _ HC7.out ?_
              clear hK K'
              try simp only [Act.put, List.setIfInBounds_toArray, List.set_cons_succ, List.set_cons_zero]
              repeat (refine plan_read (by rfl) ?_; apply Exists.intro; refine ⟨fun w9 hw9 => ?_, ?_⟩; (· go_simp; rfl); simp only [Act.put, List.setIfInBounds_toArray, List.set_cons_succ, List.set_cons_zero])
              refine plan_step (by rfl) (fun K' hK => ?_)
              go_simp
              go_at_call 19
              refine (dirty_walk p F3 st' w7 HB7.out.both.disk).mono ?_
              rintro e wa ⟨va, rfl, ha, hba⟩
              obtain ⟨ada, capa, rfl, hia, hla⟩ := ha.ints HDD.out HMM.out
              refine hK _ _ (HCO.out _ (fun j u hu => (hba.cell (p := ⟨bl, off + k * 5 + j, none⟩) HBL7.out).trans (HCT.out _ HC7.out j u hu))) ?_
              clear hK K'
              try simp only [Act.put, List.setIfInBounds_toArray, List.set_cons_succ, List.set_cons_zero]
              refine plan_step (by rfl) (fun K' hK => ?_)
              go_simp
              go_at_call 20
              refine (rdirty_walk q R3 st' wa (HB7.out.below hba).both.ref).mono ?_
              rintro e wb ⟨vb, rfl, hb, hbb⟩
              obtain ⟨adb, capb, rfl, hib, _⟩ := hb.ints HDD.out HMM.out
              have hbab := hba.trans (hbb.mono hba.size)
              refine hK _ _ (HCO.out _ (fun j u hu => (hbab.cell (p := ⟨bl, off + k * 5 + j, none⟩) HBL7.out).trans (HCT.out _ HC7.out j u hu))) ?_
              clear hK K'
              try simp only [Act.put, List.setIfInBounds_toArray, List.set_cons_succ, List.set_cons_zero]
              refine plan_step (by rfl) (fun K' hK => ?_)
              go_simp
              go_at_call 18
              have ki := ints_walk ada adb capa capb D wb (intsAt_below hia (Nat.le_refl _) hbb) hib (by rw [← HMM.out]; exact hla)
              rw [← HMM.out] at ki
              refine ki.mono ?_
              rintro e wc ⟨rfl, hbc⟩
              have hbabc := hbab.trans (hbc.mono hbab.size)
              refine hK _ _ (HCO.out _ (fun j u hu => (hbabc.cell (p := ⟨bl, off + k * 5 + j, none⟩) HBL7.out).trans (HCT.out _ HC7.out j u hu))) ?_
              clear hK K'
              try simp only [Act.put, List.setIfInBounds_toArray, List.set_cons_succ, List.set_cons_zero]
              have HBC := Lib.hid (HB7.out.below hbabc)
              clear hba hbb hbc hbab hbabc hia hib hla ki
              repeat (refine plan_read (by rfl) ?_; apply Exists.intro; refine ⟨fun w9 hw9 => ?_, ?_⟩; (· go_simp; rfl); simp only [Act.put, List.setIfInBounds_toArray, List.set_cons_succ, List.set_cons_zero])
              refine plan_done (NoPanic.normal ?_)
              go_wp2_with fail
              go_roundg (gk - 1)
              case measure => have := HGK.out; omega
              case rel => exact ⟨k + 1, F3, R3, st', by have := HGK.out; omega, by go_num, HBC.out, ST.out, by omega, HSL2.out⟩
            · go_simp
              refine hK _ _ HC7.out ?_
              clear hK K'
              try simp only [Act.put, List.setIfInBounds_toArray, List.set_cons_succ, List.set_cons_zero]
              refine plan_step (by rfl) (fun K' hK => ?_)
              go_simp
              go_at_call 17
              refine (calls_walk p F3 st' w7 HB7.out.both.disk).mono ?_
              rintro e w8 ⟨rfl, hw8⟩
              subst w8
              refine hK _ _ HC7.out ?_
              clear hK K'
              try simp only [Act.put, List.setIfInBounds_toArray, List.set_cons_succ, List.set_cons_zero]
              repeat (refine plan_read (by rfl) ?_; apply Exists.intro; refine ⟨fun w9 hw9 => ?_, ?_⟩; (· go_simp; rfl); simp only [Act.put, List.setIfInBounds_toArray, List.set_cons_succ, List.set_cons_zero])
              refine plan_step (by rfl) (fun K' hK => ?_)
              go_simp
              go_at_call 19
              refine (dirty_walk p F3 st' w7 HB7.out.both.disk).mono ?_
              rintro e wa ⟨va, rfl, ha, hba⟩
              obtain ⟨ada, capa, rfl, hia, hla⟩ := ha.ints HDD.out HMM.out
              refine hK _ _ (HCO.out _ (fun j u hu => (hba.cell (p := ⟨bl, off + k * 5 + j, none⟩) HBL7.out).trans (HCT.out _ HC7.out j u hu))) ?_
              clear hK K'
              try simp only [Act.put, List.setIfInBounds_toArray, List.set_cons_succ, List.set_cons_zero]
              refine plan_step (by rfl) (fun K' hK => ?_)
              go_simp
              go_at_call 20
              refine (rdirty_walk q R3 st' wa (HB7.out.below hba).both.ref).mono ?_
              rintro e wb ⟨vb, rfl, hb, hbb⟩
              obtain ⟨adb, capb, rfl, hib, _⟩ := hb.ints HDD.out HMM.out
              have hbab := hba.trans (hbb.mono hba.size)
              refine hK _ _ (HCO.out _ (fun j u hu => (hbab.cell (p := ⟨bl, off + k * 5 + j, none⟩) HBL7.out).trans (HCT.out _ HC7.out j u hu))) ?_
              clear hK K'
              try simp only [Act.put, List.setIfInBounds_toArray, List.set_cons_succ, List.set_cons_zero]
              refine plan_step (by rfl) (fun K' hK => ?_)
              go_simp
              go_at_call 18
              have ki := ints_walk ada adb capa capb D wb (intsAt_below hia (Nat.le_refl _) hbb) hib (by rw [← HMM.out]; exact hla)
              rw [← HMM.out] at ki
              refine ki.mono ?_
              rintro e wc ⟨rfl, hbc⟩
              have hbabc := hbab.trans (hbc.mono hbab.size)
              refine hK _ _ (HCO.out _ (fun j u hu => (hbabc.cell (p := ⟨bl, off + k * 5 + j, none⟩) HBL7.out).trans (HCT.out _ HC7.out j u hu))) ?_
              clear hK K'
              try simp only [Act.put, List.setIfInBounds_toArray, List.set_cons_succ, List.set_cons_zero]
              have HBC := Lib.hid (HB7.out.below hbabc)
              clear hba hbb hbc hbab hbabc hia hib hla ki
              repeat (refine plan_read (by rfl) ?_; apply Exists.intro; refine ⟨fun w9 hw9 => ?_, ?_⟩; (· go_simp; rfl); simp only [Act.put, List.setIfInBounds_toArray, List.set_cons_succ, List.set_cons_zero])
              refine plan_done (NoPanic.normal ?_)
              go_wp2_with fail
              go_roundg (gk - 1)
              case measure => have := HGK.out; omega
              case rel => exact ⟨k + 1, F3, R3, st', by have := HGK.out; omega, by go_num, HBC.out, ST.out, by omega, HSL2.out⟩
          · go_simp
            refine hK _ _ HC7.out ?_
            clear hK K'
            try simp only [Act.put, List.setIfInBounds_toArray, List.set_cons_succ, List.set_cons_zero]
            refine plan_step (by rfl) (fun K' hK => ?_)
            go_simp
            go_at_call 16
            refine (down_walk p F3 st' w7 HB7.out.both.disk).mono ?_
            rintro e w8 ⟨rfl, hw8⟩
            subst w8
            refine hK _ _ HC7.out ?_
            clear hK K'
            try simp only [Act.put, List.setIfInBounds_toArray, List.set_cons_succ, List.set_cons_zero]
            repeat (refine plan_read (by rfl) ?_; apply Exists.intro; refine ⟨fun w9 hw9 => ?_, ?_⟩; (· go_simp; rfl); simp only [Act.put, List.setIfInBounds_toArray, List.set_cons_succ, List.set_cons_zero])
            refine plan_fork (by rfl) (by rfl) (fun K' hK => ?_) (fun K' hK => ?_)
            · go_simp
              go_at_call 17
              refine (calls_walk p F3 st' w7 HB7.out.both.disk).mono ?_
              rintro e w8 ⟨rfl, hw8⟩
              subst w8
              refine hK _ _ HC7.out ?_
              clear hK K'
              try simp only [Act.put, List.setIfInBounds_toArray, List.set_cons_succ, List.set_cons_zero]
              refine plan_step (by rfl) (fun K' hK => ?_)
              go_simp
              refine hK _ _ HC7.out ?_
              clear hK K'
              try simp only [Act.put, List.setIfInBounds_toArray, List.set_cons_succ, List.set_cons_zero]
              repeat (refine plan_read (by rfl) ?_; apply Exists.intro; refine ⟨fun w9 hw9 => ?_, ?_⟩; (· go_simp; rfl); simp only [Act.put, List.setIfInBounds_toArray, List.set_cons_succ, List.set_cons_zero])
              refine plan_step (by rfl) (fun K' hK => ?_)
              go_simp
              go_at_call 19
              refine (dirty_walk p F3 st' w7 HB7.out.both.disk).mono ?_
              rintro e wa ⟨va, rfl, ha, hba⟩
              obtain ⟨ada, capa, rfl, hia, hla⟩ := ha.ints HDD.out HMM.out
              refine hK _ _ (HCO.out _ (fun j u hu => (hba.cell (p := ⟨bl, off + k * 5 + j, none⟩) HBL7.out).trans (HCT.out _ HC7.out j u hu))) ?_
              clear hK K'
              try simp only [Act.put, List.setIfInBounds_toArray, List.set_cons_succ, List.set_cons_zero]
              refine plan_step (by rfl) (fun K' hK => ?_)
              go_simp
              go_at_call 20
              refine (rdirty_walk q R3 st' wa (HB7.out.below hba).both.ref).mono ?_
              rintro e wb ⟨vb, rfl, hb, hbb⟩
              obtain ⟨adb, capb, rfl, hib, _⟩ := hb.ints HDD.out HMM.out
              have hbab := hba.trans (hbb.mono hba.size)
              refine hK _ _ (HCO.out _ (fun j u hu => (hbab.cell (p := ⟨bl, off + k * 5 + j, none⟩) HBL7.out).trans (HCT.out _ HC7.out j u hu))) ?_
              clear hK K'
              try simp only [Act.put, List.setIfInBounds_toArray, List.set_cons_succ, List.set_cons_zero]
              refine plan_step (by rfl) (fun K' hK => ?_)
              go_simp
              go_at_call 18
              have ki := ints_walk ada adb capa capb D wb (intsAt_below hia (Nat.le_refl _) hbb) hib (by rw [← HMM.out]; exact hla)
              rw [← HMM.out] at ki
              refine ki.mono ?_
              rintro e wc ⟨rfl, hbc⟩
              have hbabc := hbab.trans (hbc.mono hbab.size)
              refine hK _ _ (HCO.out _ (fun j u hu => (hbabc.cell (p := ⟨bl, off + k * 5 + j, none⟩) HBL7.out).trans (HCT.out _ HC7.out j u hu))) ?_
              clear hK K'
              try simp only [Act.put, List.setIfInBounds_toArray, List.set_cons_succ, List.set_cons_zero]
              have HBC := Lib.hid (HB7.out.below hbabc)
              clear hba hbb hbc hbab hbabc hia hib hla ki
              repeat (refine plan_read (by rfl) ?_; apply Exists.intro; refine ⟨fun w9 hw9 => ?_, ?_⟩; (· go_simp; rfl); simp only [Act.put, List.setIfInBounds_toArray, List.set_cons_succ, List.set_cons_zero])
              refine plan_done (NoPanic.normal ?_)
              go_wp2_with fail
              go_roundg (gk - 1)
              case measure => have := HGK.out; omega
              case rel => exact ⟨k + 1, F3, R3, st', by have := HGK.out; omega, by go_num, HBC.out, ST.out, by omega, HSL2.out⟩
            · go_simp
              refine hK _ _ HC7.out ?_
              clear hK K'
              try simp only [Act.put, List.setIfInBounds_toArray, List.set_cons_succ, List.set_cons_zero]
              refine plan_step (by rfl) (fun K' hK => ?_)
              go_simp
              go_at_call 17
              refine (calls_walk p F3 st' w7 HB7.out.both.disk).mono ?_
              rintro e w8 ⟨rfl, hw8⟩
              subst w8
              refine hK _ _ HC7.out ?_
              clear hK K'
              try simp only [Act.put, List.setIfInBounds_toArray, List.set_cons_succ, List.set_cons_zero]
              repeat (refine plan_read (by rfl) ?_; apply Exists.intro; refine ⟨fun w9 hw9 => ?_, ?_⟩; (· go_simp; rfl); simp only [Act.put, List.setIfInBounds_toArray, List.set_cons_succ, List.set_cons_zero])
              refine plan_step (by rfl) (fun K' hK => ?_)
              go_simp
              go_at_call 19
              refine (dirty_walk p F3 st' w7 HB7.out.both.disk).mono ?_
              rintro e wa ⟨va, rfl, ha, hba⟩
              obtain ⟨ada, capa, rfl, hia, hla⟩ := ha.ints HDD.out HMM.out
              refine hK _ _ (HCO.out _ (fun j u hu => (hba.cell (p := ⟨bl, off + k * 5 + j, none⟩) HBL7.out).trans (HCT.out _ HC7.out j u hu))) ?_
              clear hK K'
              try simp only [Act.put, List.setIfInBounds_toArray, List.set_cons_succ, List.set_cons_zero]
              refine plan_step (by rfl) (fun K' hK => ?_)
              go_simp
              go_at_call 20
              refine (rdirty_walk q R3 st' wa (HB7.out.below hba).both.ref).mono ?_
              rintro e wb ⟨vb, rfl, hb, hbb⟩
              obtain ⟨adb, capb, rfl, hib, _⟩ := hb.ints HDD.out HMM.out
              have hbab := hba.trans (hbb.mono hba.size)
              refine hK _ _ (HCO.out _ (fun j u hu => (hbab.cell (p := ⟨bl, off + k * 5 + j, none⟩) HBL7.out).trans (HCT.out _ HC7.out j u hu))) ?_
              clear hK K'
              try simp only [Act.put, List.setIfInBounds_toArray, List.set_cons_succ, List.set_cons_zero]
              refine plan_step (by rfl) (fun K' hK => ?_)
              go_simp
              go_at_call 18
              have ki := ints_walk ada adb capa capb D wb (intsAt_below hia (Nat.le_refl _) hbb) hib (by rw [← HMM.out]; exact hla)
              rw [← HMM.out] at ki
              refine ki.mono ?_
              rintro e wc ⟨rfl, hbc⟩
              have hbabc := hbab.trans (hbc.mono hbab.size)
              refine hK _ _ (HCO.out _ (fun j u hu => (hbabc.cell (p := ⟨bl, off + k * 5 + j, none⟩) HBL7.out).trans (HCT.out _ HC7.out j u hu))) ?_
              clear hK K'
              try simp only [Act.put, List.setIfInBounds_toArray, List.set_cons_succ, List.set_cons_zero]
              have HBC := Lib.hid (HB7.out.below hbabc)
              clear hba hbb hbc hbab hbabc hia hib hla ki
              repeat (refine plan_read (by rfl) ?_; apply Exists.intro; refine ⟨fun w9 hw9 => ?_, ?_⟩; (· go_simp; rfl); simp only [Act.put, List.setIfInBounds_toArray, List.set_cons_succ, List.set_cons_zero])
              refine plan_done (NoPanic.normal ?_)
              go_wp2_with fail
              go_roundg (gk - 1)
              case measure => have := HGK.out; omega
              case rel => exact ⟨k + 1, F3, R3, st', by have := HGK.out; omega, by go_num, HBC.out, ST.out, by omega, HSL2.out⟩
        · have hnot : ¬ ((k : Int) < (l.length : Int)) ∨ ((k : Int) < (l.length : Int) ∧ ¬ (k : Int) < 80) := by omega
          have hpb : ∀ i, (pend st.S i).length ≤ 1000000000 := fun i => by have h1 := HPM.out i; have h2 := HK.out; omega
          have KC := Lib.hid (crash_walk p F2 st [] none 0 wr HB.out.both.disk hpb (.inl rfl) (.inl rfl) (by simp) (by simp))
          have HPB := Lib.hid hpb
          clear hmore hpb
          rcases hnot with hlt | ⟨hlt, hlt2⟩
          · go_wp2_with fail
            refine KC.out.mono ?_
            rintro e w5 ⟨rfl, F3, hd5, hs5⟩
            have KX := Lib.hid (rcrash_walk q R2 st [] none 0 w5 (HB.out.both.refAt hs5) HPB.out (.inl rfl) (.inl rfl) (by simp) (by simp))
            have HD5 := Lib.hid hd5; have HS5 := Lib.hid hs5
            clear hd5 hs5 KC
            go_wp2_with fail
            refine KX.out.mono ?_
            rintro e w6 ⟨rfl, R3, hr6, hR6, ht6⟩
            obtain ⟨F4, R4, hb6⟩ := HB.out.post (both_two HB.out.both HD5.out HS5.out hr6 hR6 ht6 (.tuple #[]))
            have hup : (crashD st []).down = false := rfl
            have hl6 : (crashD st []).S.length = n := by
              show (settleN _ _ _ _).length = n
              rw [settleN_length]; exact HSL.out
            obtain ⟨st6, hst6⟩ : ∃ st6, st6 = crashD st [] := ⟨_, rfl⟩
            rw [← hst6] at hb6 hup hl6
            have HB6 := Lib.hid hb6; have HUP := Lib.hid hup; have HL6 := Lib.hid hl6
            clear hr6 hR6 ht6 hb6 hup hl6 hst6 KX HD5 HS5
            go_wp2_with fail
            go_loopg [9] n (fun gj i wx => ∃ j : Nat, j + gj = n ∧ i = .int .i64 (j : Nat) ∧ BothLow w wx p F4 q R4 st6)
            case atStart => exact ⟨0, by omega, rfl, HB6.out⟩
            case round =>
              obtain ⟨j, hgj, rfl, hs⟩ := hrel
              have HS6 := Lib.hid hs; have HGJ := Lib.hid hgj
              clear hs hgj
              by_cases hjn : (j : Int) < (n : Int)
              · have hj : j < st6.S.length := by rw [HL6.out]; omega
                have hre : readyE st6 j = 0 := by unfold readyE; rw [if_neg (by rw [HUP.out]; simp), if_neg (by omega)]
                have hrd : readD st6 j = (txt (lastS st6.S j), 0) := by unfold readD; rw [if_pos hre]; rfl
                have KR := Lib.hid (read_walk p F4 st6 j wr HS6.out.both.disk)
                rw [hrd] at KR
                have KX := Lib.hid (fun w9 hb9 => rread_disk q R4 st6 j w9 (HS6.out.both.ref.below hb9) hj)
                obtain ⟨x, hx⟩ : ∃ x, x = txt (lastS st6.S j) := ⟨_, rfl⟩
                rw [← hx] at KR KX
                clear hj hre hrd hx
                go_wp2_with fail
                refine KR.out.mono ?_
                rintro e w7 ⟨rfl, hb7⟩
                have HB7 := Lib.hid hb7
                have HK7 := Lib.hid (KX.out w7 hb7)
                clear hb7 KR KX
                go_wp2_with fail
                refine HK7.out.mono ?_
                rintro e w8 ⟨rfl, hb8⟩
                have HS8 := Lib.hid (HS6.out.below (HB7.out.trans (hb8.mono HB7.out.size)))
                clear hb8
                go_wp2_with fail
                go_roundg (gk - 1)
                case measure => have := HGJ.out; omega
                case rel => exact ⟨j + 1, by have := HGJ.out; omega, by go_num, HS8.out⟩
              · go_wp2_with fail
                go_ret
                exact ⟨rfl, HS6.out.low⟩
          · go_wp2_with fail
            refine KC.out.mono ?_
            rintro e w5 ⟨rfl, F3, hd5, hs5⟩
            have KX := Lib.hid (rcrash_walk q R2 st [] none 0 w5 (HB.out.both.refAt hs5) HPB.out (.inl rfl) (.inl rfl) (by simp) (by simp))
            have HD5 := Lib.hid hd5; have HS5 := Lib.hid hs5
            clear hd5 hs5 KC
            go_wp2_with fail
            refine KX.out.mono ?_
            rintro e w6 ⟨rfl, R3, hr6, hR6, ht6⟩
            obtain ⟨F4, R4, hb6⟩ := HB.out.post (both_two HB.out.both HD5.out HS5.out hr6 hR6 ht6 (.tuple #[]))
            have hup : (crashD st []).down = false := rfl
            have hl6 : (crashD st []).S.length = n := by
              show (settleN _ _ _ _).length = n
              rw [settleN_length]; exact HSL.out
            obtain ⟨st6, hst6⟩ : ∃ st6, st6 = crashD st [] := ⟨_, rfl⟩
            rw [← hst6] at hb6 hup hl6
            have HB6 := Lib.hid hb6; have HUP := Lib.hid hup; have HL6 := Lib.hid hl6
            clear hr6 hR6 ht6 hb6 hup hl6 hst6 KX HD5 HS5
            go_wp2_with fail
            go_loopg [9] n (fun gj i wx => ∃ j : Nat, j + gj = n ∧ i = .int .i64 (j : Nat) ∧ BothLow w wx p F4 q R4 st6)
            case atStart => exact ⟨0, by omega, rfl, HB6.out⟩
            case round =>
              obtain ⟨j, hgj, rfl, hs⟩ := hrel
              have HS6 := Lib.hid hs; have HGJ := Lib.hid hgj
              clear hs hgj
              by_cases hjn : (j : Int) < (n : Int)
              · have hj : j < st6.S.length := by rw [HL6.out]; omega
                have hre : readyE st6 j = 0 := by unfold readyE; rw [if_neg (by rw [HUP.out]; simp), if_neg (by omega)]
                have hrd : readD st6 j = (txt (lastS st6.S j), 0) := by unfold readD; rw [if_pos hre]; rfl
                have KR := Lib.hid (read_walk p F4 st6 j wr HS6.out.both.disk)
                rw [hrd] at KR
                have KX := Lib.hid (fun w9 hb9 => rread_disk q R4 st6 j w9 (HS6.out.both.ref.below hb9) hj)
                obtain ⟨x, hx⟩ : ∃ x, x = txt (lastS st6.S j) := ⟨_, rfl⟩
                rw [← hx] at KR KX
                clear hj hre hrd hx
                go_wp2_with fail
                refine KR.out.mono ?_
                rintro e w7 ⟨rfl, hb7⟩
                have HB7 := Lib.hid hb7
                have HK7 := Lib.hid (KX.out w7 hb7)
                clear hb7 KR KX
                go_wp2_with fail
                refine HK7.out.mono ?_
                rintro e w8 ⟨rfl, hb8⟩
                have HS8 := Lib.hid (HS6.out.below (HB7.out.trans (hb8.mono HB7.out.size)))
                clear hb8
                go_wp2_with fail
                go_roundg (gk - 1)
                case measure => have := HGJ.out; omega
                case rel => exact ⟨j + 1, by have := HGJ.out; omega, by go_num, HS8.out⟩
              · go_wp2_with fail
                go_ret
                exact ⟨rfl, HS6.out.low⟩
end Go.Proofs.Ytcabocppplokgaa
