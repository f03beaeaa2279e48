/-
  Layer 3: a call of both: Flush, Arm, Crash.
-/
import Derived.Test.YtcabocppplokgaaRdkH
namespace Go.Proofs.Ytcabocppplokgaa
open Go.RowKit

set_option maxHeartbeats 4000000 in
theorem do_flush (p q : Nat) (F R : Nat → Prop) (st : Dk) (a : DAct) (w : World) (h : Both w p F q R st) (hk : a.kind = 4) (hlen : pendMax st.S 1000000000)  :
    Calls Try.prog 15 #[.pointer (some ⟨p, 0, none⟩), .pointer (some ⟨q, 0, none⟩), .agg (dactv a).toArray] w fun e w' => BothPost p F q R w (actD st a) (.bool true) e w' := by
  obtain ⟨kind, at', n, s, ad, keep, capk⟩ := a
  simp only at hk 
  subst hk
  have hact : actD st ⟨4, at', n, s, ad, keep, capk⟩ = (flushD st).2 := by unfold actD; simp
  rw [hact]
  obtain ⟨W, hW⟩ : ∃ W, W = w.alloc (.cells #[.int .i64 4, .int .i64 at', .int .i64 n, .string s, .slice ad keep.length capk] 35) := ⟨_, rfl⟩
  obtain ⟨cb, hcb⟩ : ∃ cb, cb = w.heap.size := ⟨_, rfl⟩
  have hbW : Below w.heap.size w W := by rw [hW]; exact (Below.refl w.heap.size w).alloc (Nat.le_refl _) _
  have g1 : W.heap[cb]? = some (.cells #[.int .i64 4, .int .i64 at', .int .i64 n, .string s, .slice ad keep.length capk] 35 (0, 0)) := by rw [hW, hcb]; exact heap_alloc_top _ _
  have hB := h.below hbW
  have c0 := cell_at (j := 0) (v := .int .i64 4) g1 rfl
  have hcF : ¬ F cb := fun hf => by have := h.disk.lt cb hf; omega
  have hcq : cb ≠ q := fun e => by have := h.ref.ltq; omega
  have HW := Lib.hid hW; have HCB := Lib.hid hcb; have HB := Lib.hid hB; have HBW := Lib.hid hbW; have G1 := Lib.hid g1; have HCF := Lib.hid (And.intro hcF hcq); have HL := Lib.hid hlen
  clear hW hcb hB hbW h g1 hact hlen hcF hcq 
  change Calls _ _ #[_, _, .agg #[.int .i64 4, .int .i64 at', .int .i64 n, .string s, .slice ad keep.length capk]] _ _
  go_enter Try.func15, Try.ntmps15
  go_upto_region 1 with fail
  refine wp_world HW.out ?_
  rw [← HCB.out]
  have KF := Lib.hid (flush_walk p F st W HB.out.disk HL.out)
  go_wp2_with fail
  refine KF.out.mono ?_
  rintro e w1 ⟨rfl, F1, hd1, hs1⟩
  have KR := Lib.hid (rflush_walk q R st w1 (HB.out.refAt hs1))
  have HD1 := Lib.hid hd1; have HS1 := Lib.hid hs1
  clear hd1 hs1 KF c0
  obtain ⟨x, hx⟩ : ∃ x, x = (flushD st).1 := ⟨_, rfl⟩
  rw [← hx] at KR ⊢
  clear hx
  go_wp2_with fail
  refine KR.out.mono ?_
  rintro e w2 ⟨rfl, R1, hr1, hR1, ht1⟩
  have HF := Lib.hid (fun v => (both_two HB.out HD1.out HS1.out hr1 hR1 ht1 v).from HBW.out)
  clear hr1 hR1 ht1
  go_wp2_with fail
  go_ret
  exact HF.out _

set_option maxHeartbeats 4000000 in
theorem do_arm (p q : Nat) (F R : Nat → Prop) (st : Dk) (a : DAct) (w : World) (h : Both w p F q R st) (hk : a.kind = 5) (hlen : pendMax st.S 1000000000) (hn : wide a.n) :
    Calls Try.prog 15 #[.pointer (some ⟨p, 0, none⟩), .pointer (some ⟨q, 0, none⟩), .agg (dactv a).toArray] w fun e w' => BothPost p F q R w (actD st a) (.bool true) e w' := by
  obtain ⟨kind, at', n, s, ad, keep, capk⟩ := a
  simp only at hk hn
  subst hk
  have hact : actD st ⟨5, at', n, s, ad, keep, capk⟩ = armD st n := by unfold actD; simp
  rw [hact]
  obtain ⟨W, hW⟩ : ∃ W, W = w.alloc (.cells #[.int .i64 5, .int .i64 at', .int .i64 n, .string s, .slice ad keep.length capk] 35) := ⟨_, rfl⟩
  obtain ⟨cb, hcb⟩ : ∃ cb, cb = w.heap.size := ⟨_, rfl⟩
  have hbW : Below w.heap.size w W := by rw [hW]; exact (Below.refl w.heap.size w).alloc (Nat.le_refl _) _
  have g1 : W.heap[cb]? = some (.cells #[.int .i64 5, .int .i64 at', .int .i64 n, .string s, .slice ad keep.length capk] 35 (0, 0)) := by rw [hW, hcb]; exact heap_alloc_top _ _
  have hB := h.below hbW
  have c0 := cell_at (j := 0) (v := .int .i64 5) g1 rfl
  have hcF : ¬ F cb := fun hf => by have := h.disk.lt cb hf; omega
  have hcq : cb ≠ q := fun e => by have := h.ref.ltq; omega
  have HW := Lib.hid hW; have HCB := Lib.hid hcb; have HB := Lib.hid hB; have HBW := Lib.hid hbW; have G1 := Lib.hid g1; have HCF := Lib.hid (And.intro hcF hcq); have HL := Lib.hid hlen
  have HNW := Lib.hid hn
  clear hW hcb hB hbW h g1 hact hlen hcF hcq hn
  change Calls _ _ #[_, _, .agg #[.int .i64 5, .int .i64 at', .int .i64 n, .string s, .slice ad keep.length capk]] _ _
  go_enter Try.func15, Try.ntmps15
  go_upto_region 1 with fail
  refine wp_world HW.out ?_
  rw [← HCB.out]
  have KA := Lib.hid (arm_walk p F st n W HNW.out.2 HB.out.disk)
  have c2 := cell_at (j := 2) (v := .int .i64 n) G1.out rfl
  go_wp2_with fail
  refine KA.out.mono ?_
  rintro e w1 ⟨rfl, hd1, ht1⟩
  have hs1 := touch_p HB.out.disk hd1 ht1
  obtain ⟨rb, cap, V, hr⟩ := HB.out.refAt hs1
  have hpc : cb ≠ p := fun e => HCF.out.1 (by rw [e]; exact HB.out.disk.own)
  have k2 := cell_touch c2 ht1 (lt_of_block G1.out) hpc
  have q2 := hr.c2
  have f2 := hr.fr 2
  have HD1 := Lib.hid hd1; have HS1 := Lib.hid hs1; have HR := Lib.hid hr
  clear hd1 ht1 hs1 hr hpc c2 c0 KA
  go_wp2_with fail
  refine (high_walk n 0 w1).mono ?_
  rintro e w2 ⟨rfl, rfl⟩
  obtain ⟨m, hm⟩ : ∃ m, m = max n 0 := ⟨_, rfl⟩
  have hm0 : 0 ≤ m ∧ m ≤ 9223372036854775807 := by have := HNW.out.2; omega
  rw [← hm]
  have ht := (Touch.refl (fun y => y = q) w2).setCell (F := fun y => y = q) (b := q) (off := 2) rfl (.int .i64 m)
  have hrf : Ref (w2.setCell ⟨q, 2, none⟩ (.int .i64 m)) q R (armD st n) := by
    have := HR.out.cnt ht st.calls m st.down hm0 (set_at HR.out.blk _)
    unfold armD
    rw [← hm]
    exact ⟨rb, cap, V, this⟩
  have HF := Lib.hid (fun v => (both_two HB.out HD1.out HS1.out hrf (fun k hk => .inl hk) ht v).from HBW.out)
  clear hm hm0 ht hrf
  go_wp2_with fail
  go_ret
  exact HF.out _

set_option maxHeartbeats 4000000 in
theorem do_crash (p q : Nat) (F R : Nat → Prop) (st : Dk) (a : DAct) (w : World) (h : Both w p F q R st) (hk : a.kind = 6) (hlen : pendMax st.S 1000000000) (hki : intsAt w a.ad a.keep) (hkl : a.keep.length ≤ 9223372036854775807) (hkr : ∀ x ∈ a.keep, -9223372036854775808 ≤ x ∧ x ≤ 9223372036854775807) (hkF : a.keep = [] ∨ ∀ b off, a.ad = some ⟨b, off, none⟩ → ¬ F b ∧ b ≠ q) :
    Calls Try.prog 15 #[.pointer (some ⟨p, 0, none⟩), .pointer (some ⟨q, 0, none⟩), .agg (dactv a).toArray] w fun e w' => BothPost p F q R w (actD st a) (.bool true) e w' := by
  obtain ⟨kind, at', n, s, ad, keep, capk⟩ := a
  simp only at hk hki hkl hkr hkF
  subst hk
  have hact : actD st ⟨6, at', n, s, ad, keep, capk⟩ = crashD st keep := by unfold actD; simp
  rw [hact]
  obtain ⟨W, hW⟩ : ∃ W, W = w.alloc (.cells #[.int .i64 6, .int .i64 at', .int .i64 n, .string s, .slice ad keep.length capk] 35) := ⟨_, rfl⟩
  obtain ⟨cb, hcb⟩ : ∃ cb, cb = w.heap.size := ⟨_, rfl⟩
  have hbW : Below w.heap.size w W := by rw [hW]; exact (Below.refl w.heap.size w).alloc (Nat.le_refl _) _
  have g1 : W.heap[cb]? = some (.cells #[.int .i64 6, .int .i64 at', .int .i64 n, .string s, .slice ad keep.length capk] 35 (0, 0)) := by rw [hW, hcb]; exact heap_alloc_top _ _
  have hB := h.below hbW
  have c0 := cell_at (j := 0) (v := .int .i64 6) g1 rfl
  have hcF : ¬ F cb := fun hf => by have := h.disk.lt cb hf; omega
  have hcq : cb ≠ q := fun e => by have := h.ref.ltq; omega
  have HW := Lib.hid hW; have HCB := Lib.hid hcb; have HB := Lib.hid hB; have HBW := Lib.hid hbW; have G1 := Lib.hid g1; have HCF := Lib.hid (And.intro hcF hcq); have HL := Lib.hid hlen
  have HKI := Lib.hid (intsAt_touch hki (Touch.ofBelow (fun _ => False) hbW) (fun _ _ _ hf => hf)); have HKL := Lib.hid hkl; have HKR := Lib.hid hkr; have HKF := Lib.hid hkF
  clear hW hcb hB hbW h g1 hact hlen hcF hcq hki hkl hkr hkF
  change Calls _ _ #[_, _, .agg #[.int .i64 6, .int .i64 at', .int .i64 n, .string s, .slice ad keep.length capk]] _ _
  go_enter Try.func15, Try.ntmps15
  go_upto_region 1 with fail
  refine wp_world HW.out ?_
  rw [← HCB.out]
  have KC := Lib.hid (crash_walk p F st keep ad capk W HB.out.disk HL.out HKI.out (HKF.out.imp id (fun h b off e => (h b off e).1)) HKL.out HKR.out)
  have c4 := cell_at (j := 4) (v := .slice ad keep.length capk) G1.out rfl
  go_wp2_with fail
  refine KC.out.mono ?_
  rintro e w1 ⟨rfl, F1, hd1, hs1⟩
  have hki1 : intsAt w1 ad keep := HKF.out.elim (fun e => .inl e) (fun h => intsAt_touch HKI.out hs1.touch (fun b off e => (h b off e).1))
  have KR := Lib.hid (rcrash_walk q R st keep ad capk w1 (HB.out.refAt hs1) HL.out hki1 (HKF.out.imp id (fun h b off e => (h b off e).2)) HKL.out HKR.out)
  have k4 := cell_touch c4 hs1.touch (lt_of_block G1.out) HCF.out.1
  have HD1 := Lib.hid hd1; have HS1 := Lib.hid hs1
  clear hd1 hs1 KC c0 c4 hki1
  go_wp2_with fail
  refine KR.out.mono ?_
  rintro e w2 ⟨rfl, R1, hr1, hR1, ht1⟩
  have HF := Lib.hid (fun v => (both_two HB.out HD1.out HS1.out hr1 hR1 ht1 v).from HBW.out)
  clear hr1 hR1 ht1
  go_wp2_with fail
  go_ret
  exact HF.out _
end Go.Proofs.Ytcabocppplokgaa
