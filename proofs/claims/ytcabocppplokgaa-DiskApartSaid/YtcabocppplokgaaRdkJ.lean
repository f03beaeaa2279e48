/-
  Layer 3: a call of both: Write; any call.
-/
import Derived.Test.YtcabocppplokgaaRdkI
namespace Go.Proofs.Ytcabocppplokgaa
open Go.RowKit

set_option maxHeartbeats 4000000 in
theorem do_write (p q : Nat) (F R : Nat → Prop) (st : Dk) (a : DAct) (w : World) (h : Both w p F q R st) (h3 : a.kind ≠ 3) (h4 : a.kind ≠ 4) (h5 : a.kind ≠ 5) (h6 : a.kind ≠ 6) (hlen : pendMax st.S 1000000000) :
    Calls Try.prog 15 #[.pointer (some ⟨p, 0, none⟩), .pointer (some ⟨q, 0, none⟩), .agg (dactv a).toArray] w fun e w' => BothPost p F q R w (actD st a) (.bool true) e w' := by
  obtain ⟨kind, at', n, s, ad, keep, capk⟩ := a
  simp only at h3 h4 h5 h6
  have hact : actD st ⟨kind, at', n, s, ad, keep, capk⟩ = (writeD st at' s).2 := by unfold actD; rw [if_neg h3, if_neg h4, if_neg h5, if_neg h6]
  rw [hact]
  have k3 : (kind == 3) = false := by rw [beq_eq_false_iff_ne]; exact h3
  have k4 : (kind == 4) = false := by rw [beq_eq_false_iff_ne]; exact h4
  have k5 : (kind == 5) = false := by rw [beq_eq_false_iff_ne]; exact h5
  have k6 : (kind == 6) = false := by rw [beq_eq_false_iff_ne]; exact h6
  obtain ⟨W, hW⟩ : ∃ W, W = w.alloc (.cells #[.int .i64 kind, .int .i64 at', .int .i64 n, .string s, .slice ad keep.length capk] 35) := ⟨_, rfl⟩
  obtain ⟨cb, hcb⟩ : ∃ cb, cb = w.heap.size := ⟨_, rfl⟩
  have hbW : Below w.heap.size w W := by rw [hW]; exact (Below.refl w.heap.size w).alloc (Nat.le_refl _) _
  have g1 : W.heap[cb]? = some (.cells #[.int .i64 kind, .int .i64 at', .int .i64 n, .string s, .slice ad keep.length capk] 35 (0, 0)) := by rw [hW, hcb]; exact heap_alloc_top _ _
  have hB := h.below hbW
  have c0 := cell_at (j := 0) (v := .int .i64 kind) g1 rfl
  have hcF : ¬ F cb := fun hf => by have := h.disk.lt cb hf; omega
  have hcq : cb ≠ q := fun e => by have := h.ref.ltq; omega
  have HW := Lib.hid hW; have HCB := Lib.hid hcb; have HB := Lib.hid hB; have HBW := Lib.hid hbW; have G1 := Lib.hid g1; have HCF := Lib.hid (And.intro hcF hcq); have HL := Lib.hid hlen
  clear hW hcb hB hbW h g1 hact hlen hcF hcq h3 h4 h5 h6
  change Calls _ _ #[_, _, .agg #[.int .i64 kind, .int .i64 at', .int .i64 n, .string s, .slice ad keep.length capk]] _ _
  go_enter Try.func15, Try.ntmps15
  go_upto_region 1 with fail
  refine wp_world HW.out ?_
  rw [← HCB.out]
  go_upto_region 19 with fail
  obtain ⟨C, hC⟩ : ∃ C : World → Prop, C = fun w9 => w9.heap[cb]? = some (.cells #[.int .i64 kind, .int .i64 at', .int .i64 n, .string s, .slice ad keep.length capk] 35 (0, 0)) := ⟨_, rfl⟩
  have HCO := Lib.hid (show ∀ w9, w9.heap[cb]? = some (.cells #[.int .i64 kind, .int .i64 at', .int .i64 n, .string s, .slice ad keep.length capk] 35 (0, 0)) → C w9 from fun w9 h => by rw [hC]; exact h)
  have HC1 := Lib.hid (show ∀ w9, C w9 → w9.cell? ⟨cb, 1, none⟩ = some (.int .i64 at') from fun w9 h => by rw [hC] at h; exact cell_at h rfl)
  have HC3 := Lib.hid (show ∀ w9, C w9 → w9.cell? ⟨cb, 3, none⟩ = some (.string s) from fun w9 h => by rw [hC] at h; exact cell_at h rfl)
  have hC0 : C W.drew := HCO.out _ G1.out
  have hb0 : Below W.heap.size W W.drew := (Below.refl _ _).drew
  clear hC c0
  refine wp_region_mix C [(0,true),(1,true),(2,true),(3,true),(4,true),(6,true),(7,true),(8,true),(9,true),(10,true),(5,false),(11,false),(12,true),(13,true)] (by kernel_rfl) (by kernel_rfl) hC0 ?_
  generalize W.drew = w3 at hb0 ⊢
  clear hC0
  simp only [List.filterMap_cons, List.filterMap_nil, List.getElem?_cons_zero, List.getElem?_cons_succ, Option.map_some]
  repeat (refine mix_read (by rfl) ?_; apply Exists.intro; refine ⟨fun w9 hw9 => ?_, ?_⟩; (· have d1 := HC1.out w9 hw9; have d2 := HC3.out w9 hw9; go_simp; rfl); simp only [Act.put, List.setIfInBounds_toArray, List.set_cons_succ, List.set_cons_zero])
  have hB3 := HB.out.below hb0
  have g3 := (hb0.block cb (lt_of_block G1.out)).trans G1.out
  refine mix_step (by rfl) (fun K' hK => ?_)
  go_simp
  go_at_call 11
  refine (write_walk p F st at' s w3 hB3.disk (HL.out _)).mono ?_
  rintro e w4 ⟨rfl, F1, hd1, hs1⟩
  have g4 := (hs1.touch.block cb (lt_of_block g3) HCF.out.1).trans g3
  refine hK _ _ (HCO.out _ g4) ?_
  clear hK K'
  try simp only [Act.put, List.setIfInBounds_toArray, List.set_cons_succ, List.set_cons_zero]
  refine mix_step (by rfl) (fun K' hK => ?_)
  go_simp
  go_at_call 33
  refine (rwrite_walk q R st at' s w4 (hB3.refAt hs1) (HL.out _)).mono ?_
  rintro e w5 ⟨rfl, R1, hr1, hR1, ht1⟩
  have g5 := (ht1.block cb (lt_of_block g4) HCF.out.2).trans g4
  refine hK _ _ (HCO.out _ g5) ?_
  clear hK K'
  try simp only [Act.put, List.setIfInBounds_toArray, List.set_cons_succ, List.set_cons_zero]
  have HF := Lib.hid (fun v => (both_two hB3 hd1 hs1 hr1 hR1 ht1 v).from (HBW.out.trans (hb0.mono HBW.out.size)))
  obtain ⟨x, hx⟩ : ∃ x, x = (writeD st at' s).1 := ⟨_, rfl⟩
  rw [← hx]
  clear hx g3 g4 g5 hd1 hs1 hr1 hR1 ht1 hB3 hb0
  repeat (refine mix_read (by rfl) ?_; apply Exists.intro; refine ⟨fun w9 hw9 => ?_, ?_⟩; (· go_simp; rfl); simp only [Act.put, List.setIfInBounds_toArray, List.set_cons_succ, List.set_cons_zero])
  refine mix_nil (NoPanic.normal ?_)
  go_wp2_with fail
  go_ret
  exact HF.out _

theorem do_walk (p q : Nat) (F R : Nat → Prop) (st : Dk) (a : DAct) (w : World) (h : Both w p F q R st) (hlen : pendMax st.S 1000000000) (hok : dactOk w a) (hkF : a.keep = [] ∨ ∀ b off, a.ad = some ⟨b, off, none⟩ → ¬ F b ∧ b ≠ q) :
    Calls Try.prog 15 #[.pointer (some ⟨p, 0, none⟩), .pointer (some ⟨q, 0, none⟩), .agg (dactv a).toArray] w fun e w' => BothPost p F q R w (actD st a) (.bool true) e w' := by
  by_cases h3 : a.kind = 3
  · have e : actD st a = st := by unfold actD; rw [if_pos h3]
    rw [e]
    exact do_read p q F R st a w h h3 hok.at'
  by_cases h4 : a.kind = 4
  · exact do_flush p q F R st a w h h4 hlen
  by_cases h5 : a.kind = 5
  · exact do_arm p q F R st a w h h5 hlen hok.n
  by_cases h6 : a.kind = 6
  · exact do_crash p q F R st a w h h6 hlen hok.keep hok.kl hok.kr hkF
  exact do_write p q F R st a w h h3 h4 h5 h6 hlen
theorem pendMax_act {st : Dk} {n : Nat} (h : pendMax st.S n) (ok : secOk st.S) (a : DAct) : pendMax (actD st a).S (n + 1) := by
  unfold actD
  split
  · exact pendMax_le h (by omega)
  · split
    · exact pendMax_le (pendMax_flush h) (by omega)
    · split
      · exact pendMax_le h (by omega)
      · split
        · exact pendMax_le (pendMax_crash h _) (by omega)
        · exact pendMax_write h ok _ _
end Go.Proofs.Ytcabocppplokgaa
