/-
  Layer 3: Copy.
-/
import Derived.Test.YtcabocppplokgaaRdkK
namespace Go.Proofs.Ytcabocppplokgaa
open Go.RowKit

theorem zeroSec : (Value.agg (List.replicate 64 (Value.int .u8 0)).toArray).cells.size = 64 := by decide
/-- what the new map has of the first ones -/
def someF (l : List Nat) (V : Nat → Value) : Lit → Option Value
  | .int .i64 i => if 0 ≤ i ∧ i.toNat ∈ l then some (V i.toNat) else none
  | _ => none
/-- a copy under way: the first ones of l are there -/
structure CopyAt (w : World) (base p sb mb cs : Nat) (V : Nat → Value) (st : Dk) (l : List Nat) : Prop where
  blk : w.heap[p]? = some (.cells #[.slice (some ⟨sb, 0, none⟩) st.S.length cs, .map (some mb), .int .i64 st.calls, .int .i64 st.armed, .bool st.down] 61 (0, 0))
  safe : w.ownsRow base 65 64 (.slice (some ⟨sb, 0, none⟩) st.S.length cs) st.S.length (secv (safes st.S))
  map : MapL Try.prog 3 w mb (someF l V) l.length
  rows : ∀ i ∈ l, w.ownsRow base 65 64 (V i) (pend st.S i).length (secv (pend st.S i))
  apart : ∀ i ∈ l, ∀ j ∈ l, i ≠ j → (V i).ownBlock ≠ (V j).ownBlock
  apartS : ∀ i ∈ l, (V i).ownBlock ≠ some sb
  up : base ≤ p ∧ base ≤ sb ∧ base ≤ mb
theorem someF_all {S : List (List Sec)} (V : Nat → Value) (l : Lit) : nowF S V l = someF (dirt S) V l := by
  cases l with
  | int k n =>
    cases k with
    | i64 =>
      unfold nowF someF
      simp only
      by_cases h : 0 ≤ n ∧ pend S n.toNat ≠ []
      · rw [if_pos h, if_pos ⟨h.1, List.mem_filter.2 ⟨List.mem_range.2 (pend_lt h.2), decide_eq_true h.2⟩⟩]
      · rw [if_neg h, if_neg (fun h2 => h ⟨h2.1, (dirt_mem h2.2).2⟩)]
    | _ => rfl
  | _ => rfl
theorem dirt_in {S : List (List Sec)} {i : Nat} (h : pend S i ≠ []) : i ∈ dirt S := List.mem_filter.2 ⟨List.mem_range.2 (pend_lt h), decide_eq_true h⟩
theorem someF_more {l : List Nat} {i : Nat} (hi : i ∉ l) (V : Nat → Value) (v : Value) (t : Lit) (ht : WideAt.IsKeyLit t) : someF (l ++ [i]) (fun j => if j = i then v else V j) t = setF (someF l V) (.int .i64 i) v t := by
  unfold setF
  by_cases e : t = .int .i64 i
  · subst e
    rw [if_pos (WideAt.sameKey_self ht)]
    unfold someF
    simp only [Int.toNat_natCast]
    rw [if_pos ⟨Int.natCast_nonneg _, by simp⟩, if_pos trivial]
  · rw [if_neg (by rw [Maps.sameKey_ne e]; simp)]
    cases t with
    | int k n =>
      cases k with
      | i64 =>
        unfold someF
        simp only
        by_cases h0 : 0 ≤ n
        · have hne : n.toNat ≠ i := fun h => e (by rw [← h, Int.toNat_of_nonneg h0])
          rw [if_neg hne]
          by_cases h : n.toNat ∈ l
          · rw [if_pos ⟨h0, List.mem_append_left _ h⟩, if_pos ⟨h0, h⟩]
          · rw [if_neg (fun h2 => (List.mem_append.1 h2.2).elim h (fun h3 => hne (List.mem_singleton.1 h3))), if_neg (fun h2 => h h2.2)]
        · rw [if_neg (fun h => h0 h.1), if_neg (fun h => h0 h.1)]
      | _ => rfl
    | _ => rfl
/-- one more is copied -/
theorem CopyAt.step {w w' : World} {base p sb mb cs : Nat} {V : Nat → Value} {st : Dk} {l : List Nat} (h : CopyAt w base p sb mb cs V st l) {i : Nat} (hi : i ∉ l) {v : Value}
    (hr : w'.ownsRow base 65 64 v (pend st.S i).length (secv (pend st.S i))) (hnew : ∀ k, v.ownBlock = some k → w.heap.size ≤ k) (hne : v.ownBlock ≠ none) (ht : Touch (fun k => k = mb) w w')
    (hm : MapL Try.prog 3 w' mb (setF (someF l V) (.int .i64 i) v) (l.length + 1)) : CopyAt w' base p sb mb cs (fun j => if j = i then v else V j) st (l ++ [i]) := by
  obtain ⟨es, ck, hmo⟩ := h.map.obj
  have hkind : ∀ {k : Nat} {c : Array Value} {t : TypeId} {fz : Nat × Nat}, w.heap[k]? = some (.cells c t fz) → k ≠ mb := fun hk e => by rw [e, hmo] at hk; cases hk
  have hrow : ∀ {u : Value} {n : Nat} {xs : List Value}, w.ownsRow base 65 64 u n xs → w'.ownsRow base 65 64 u n xs := fun {u n xs} hu => by
    rcases hu with ⟨h1, h2⟩
    refine ⟨h1, ?_⟩
    rcases h2 with h2 | ⟨g, cap, cur, rfl, hb, hg, h3⟩
    · exact .inl h2
    · exact .inr ⟨g, cap, cur, rfl, hb, (ht.block g (lt_of_block hg) (hkind hg)).trans hg, h3⟩
  have hold : ∀ j ∈ l, ∀ k, (V j).ownBlock = some k → k < w.heap.size := fun j hj k e => ((h.rows j hj).lt k e).2
  have hji : ∀ j ∈ l, j ≠ i := fun j hj e => hi (by rw [← e]; exact hj)
  have hapart : ∀ j ∈ l, (V j).ownBlock ≠ v.ownBlock := fun j hj e => by
    cases hv : v.ownBlock with
    | none => exact hne hv
    | some k =>
      have h1 := hnew k hv
      have h2 := hold j hj k (by rw [e, hv])
      omega
  have hmem : ∀ j ∈ l ++ [i], (j ∈ l ∧ j ≠ i) ∨ j = i := fun j hj => by
    rcases List.mem_append.1 hj with h' | h'
    · exact .inl ⟨h', hji j h'⟩
    · exact .inr (List.mem_singleton.1 h')
  refine ⟨(ht.block p (lt_of_block h.blk) (hkind h.blk)).trans h.blk, hrow h.safe, ?_, fun j hj => ?_, fun j hj k hk hjk => ?_, fun j hj => ?_, h.up⟩
  · refine hm.congr (fun t htk => someF_more hi V v t htk) ?_
    rw [List.length_append]; rfl
  · rcases hmem j hj with ⟨h1, h2⟩ | rfl
    · rw [if_neg h2]; exact hrow (h.rows j h1)
    · rw [if_pos rfl]; exact hr
  · rcases hmem j hj with ⟨h1, h2⟩ | h2 <;> rcases hmem k hk with ⟨h3, h4⟩ | h4
    · simp only [if_neg h2, if_neg h4]; exact h.apart j h1 k h3 hjk
    · simp only [if_neg h2, if_pos h4]; exact hapart j h1
    · simp only [if_pos h2, if_neg h4]; exact fun e => hapart k h3 e.symm
    · exact absurd (by rw [h2, h4]) hjk
  · rcases hmem j hj with ⟨h1, h2⟩ | h2
    · simp only [if_neg h2]; exact h.apartS j h1
    · simp only [if_pos h2]
      intro e
      have h1 := hnew sb e
      have h3 := (h.safe.lt sb rfl).2
      omega
/-- all are there -/
theorem CopyAt.done {w : World} {base p sb mb cs : Nat} {V : Nat → Value} {st : Dk} (h : CopyAt w base p sb mb cs V st (dirt st.S)) (ok : secOk st.S) (arm : 0 ≤ st.armed ∧ st.armed ≤ 9223372036854775807) :
    DiskAt w p sb mb cs V st ∧ ∀ k, dfoot p sb mb V st.S k → base ≤ k := by
  have r0 : ∀ {v : Value} {n : Nat} {xs : List Value}, w.ownsRow base 65 64 v n xs → w.ownsRow 0 65 64 v n xs := fun h => row_base0 h
  refine ⟨⟨h.blk, ?_, h.map.congr (fun l _ => someF_all V l) rfl, fun i hi => r0 (h.rows i (dirt_in hi)), fun i j hij hi hj => h.apart i (dirt_in hi) j (dirt_in hj) hij, fun i hi => h.apartS i (dirt_in hi), ok, arm⟩, fun k hk => ?_⟩
  · have := r0 h.safe
    unfold SecRow
    rw [safes_length]
    exact this
  · rcases hk with rfl | rfl | rfl | ⟨i, hi, e⟩
    · exact h.up.1
    · exact h.up.2.1
    · exact h.up.2.2
    · exact ((h.rows i (dirt_in hi)).lt k e).1
theorem CopyAt.below {w w' : World} {base p sb mb cs : Nat} {V : Nat → Value} {st : Dk} {l : List Nat} (h : CopyAt w base p sb mb cs V st l) (hb : Below w.heap.size w w') : CopyAt w' base p sb mb cs V st l := by
  have hrow : ∀ {u : Value} {n : Nat} {xs : List Value}, w.ownsRow base 65 64 u n xs → w'.ownsRow base 65 64 u n xs := fun {u n xs} hu => by
    rcases hu with ⟨h1, h2⟩
    refine ⟨h1, ?_⟩
    rcases h2 with h2 | ⟨g, cap, cur, rfl, hb', hg, h3⟩
    · exact .inl h2
    · exact .inr ⟨g, cap, cur, rfl, hb', (hb.block g (lt_of_block hg)).trans hg, h3⟩
  exact ⟨(hb.block p (lt_of_block h.blk)).trans h.blk, hrow h.safe, h.map.same (hb.block mb h.map.lt), fun i hi => hrow (h.rows i hi), h.apart, h.apartS, h.up⟩
theorem row_base_le {w : World} {b b' e sz n : Nat} {v : Value} {xs : List Value} (h : w.ownsRow b e sz v n xs) (hb : b' ≤ b) : w.ownsRow b' e sz v n xs :=
  ⟨h.1, h.2.imp id (fun ⟨g, cap, cur, h1, h2, h3⟩ => ⟨g, cap, cur, h1, Nat.le_trans hb h2, h3⟩)⟩
theorem row_some {w : World} {b e sz n : Nat} {v : Value} {xs : List Value} (h : w.ownsRow b e sz v n xs) (hn : n ≠ 0) : ∃ g c, v = .slice (some ⟨g, 0, none⟩) n c ∧ n ≤ c ∧ c ≤ 9223372036854775807 ∧ b ≤ g := by
  rcases h.2 with ⟨_, h0⟩ | ⟨g, c, cur, rfl, hb, hg, h3, h4, _⟩
  · exact absurd h0 hn
  · exact ⟨g, c, rfl, h3, h4, hb⟩
/-- what Copy leaves -/
def CopyPost (w : World) (st : Dk) (e : Ending) (w' : World) : Prop := ∃ p F, e = .returned (.pointer (some ⟨p, 0, none⟩)) ∧ Below w.heap.size w w' ∧ Disk w' p F st ∧ ∀ k, F k → w.heap.size ≤ k

set_option maxHeartbeats 4000000 in
theorem copy_walk (p : Nat) (F : Nat → Prop) (st : Dk) (w : World) (h : Disk w p F st) (hlen : pendMax st.S 1000000000) :
    Calls Try.prog 23 #[.pointer (some ⟨p, 0, none⟩)] w fun e w' => CopyPost w st e w' := by
  obtain ⟨i0, hi0, hz0, hz1, hz2⟩ := info_sec
  have hok := h.ok
  have HH := Lib.hid h
  obtain ⟨sb, mb, cs, V, hd, hF⟩ := h
  have HOK := Lib.hid hok; have HARM := Lib.hid hd.arm; have HLEN := Lib.hid hlen; have HD := Lib.hid hd
  obtain ⟨n, hn⟩ : ∃ n, n = st.S.length := ⟨_, rfl⟩
  have hn1 : 1 ≤ n := by rw [hn]; exact hok.1
  have hn4 : n ≤ 4096 := by rw [hn]; exact hok.2.1
  have HN := Lib.hid hn; have HN4 := Lib.hid (And.intro hn1 hn4)
  obtain ⟨C, hC⟩ : ∃ C : World → Prop, C = fun w9 => Below w.heap.size w w9 := ⟨_, rfl⟩
  have HCO := Lib.hid (show ∀ w9, Below w.heap.size w w9 → C w9 from fun w9 h => by rw [hC]; exact h)
  have HC0 := Lib.hid (show ∀ w9, C w9 → w9.cell? ⟨p, 0, none⟩ = some (.slice (some ⟨sb, 0, none⟩) n cs) from fun w9 h => by rw [hC] at h; rw [HN.out]; exact (hd.touch (Touch.ofBelow (fun _ => False) h) (fun _ _ hf => hf)).c0)
  have HC2 := Lib.hid (show ∀ w9, C w9 → w9.cell? ⟨p, 2, none⟩ = some (.int .i64 st.calls) from fun w9 h => by rw [hC] at h; exact (hd.touch (Touch.ofBelow (fun _ => False) h) (fun _ _ hf => hf)).c2)
  have HC3 := Lib.hid (show ∀ w9, C w9 → w9.cell? ⟨p, 3, none⟩ = some (.int .i64 st.armed) from fun w9 h => by rw [hC] at h; exact (hd.touch (Touch.ofBelow (fun _ => False) h) (fun _ _ hf => hf)).c3)
  have HC4 := Lib.hid (show ∀ w9, C w9 → w9.cell? ⟨p, 4, none⟩ = some (.bool st.down) from fun w9 h => by rw [hC] at h; exact (hd.touch (Touch.ofBelow (fun _ => False) h) (fun _ _ hf => hf)).c4)
  have hC0 : C w.drew := HCO.out _ (Below.refl _ _).drew
  have hB0 : Below w.heap.size w w.drew := (Below.refl _ _).drew
  clear hok hd hF hlen hn hn1 hn4 hC
  go_enter Try.func23, Try.ntmps23
  go_upto_region 3 with fail
  refine wp_region_plan C (.read 0 <| .read 1 <| .read 2 <| .read 3 <| .read 6 <| .read 7 <| .read 8 <| .read 9 <| .read 10 <| .read 11 <| .read 12 <| .read 13 <| .read 14 <| .read 15 <| .read 16 <| .read 17 <| .fork 4 (.step 5 <| .read 18 <| .step 19 <| .read 20 .done) 5 (.step 4 <| .read 18 <| .step 19 <| .read 20 .done)) (by kernel_rfl) (by kernel_rfl) hC0 ?_
  generalize w.drew = w6 at hB0 ⊢
  clear hC0
  simp only [Plan.fill, List.getElem?_cons_zero, List.getElem?_cons_succ]
  repeat (refine plan_read (by rfl) ?_; apply Exists.intro; refine ⟨fun w9 hw9 => ?_, ?_⟩; (· have d1 := HC0.out w9 hw9; have d2 := HC2.out w9 hw9; have d3 := HC3.out w9 hw9; have d4 := HC4.out w9 hw9; go_simp; rfl); simp only [Act.put, List.setIfInBounds_toArray, List.set_cons_succ, List.set_cons_zero])
  refine plan_fork (by rfl) (by rfl) (fun K' hK => ?_) (fun K' hK => ?_)
  · have hsf : w6.ownsRow 0 65 64 (.slice (some ⟨sb, 0, none⟩) n cs) n (secv (safes st.S)) := by
      have := (HD.out.touch (Touch.ofBelow (fun _ => False) hB0) (fun _ _ hf => hf)).safe
      unfold SecRow at this
      rw [safes_length, ← HN.out] at this
      exact this
    refine wp_append_at _ _ _ 58 58 rfl w.heap.size 65 i0 (.agg (List.replicate 64 (Value.int .u8 0)).toArray) 64 64 Try.underlying58 hi0 hz0 hz1 hz2 rfl (by decide) (.slice none 0 0) 0 [] rfl (World.ownsRow_nil _ _ _ _) (.slice (some ⟨sb, 0, none⟩) n cs) n (secv (safes st.S)) rfl (src_own _ Try.underlying58 hsf (secv_one _)) (by unfold maxLen; have := HN4.out; omega) (by have := HN4.out; omega) hB0.size ?_
    intro vS wS hrS hgS hpS
    have hBS : Below w.heap.size w wS := hB0.grown hgS hB0.size (fun k hk => by cases hk)
    rw [List.nil_append, Nat.zero_add] at hrS
    obtain ⟨sb2, cs2, rfl, hc1, hc2, hsb2⟩ := row_some hrS (by have := HN4.out; omega)
    refine hK _ _ (HCO.out _ hBS) ?_
    clear hK K' hsf hpS
    simp only [Act.put, List.setIfInBounds_toArray, List.set_cons_succ, List.set_cons_zero]
    refine plan_step (by rfl) (fun K' hK => ?_)
    have hmm := @run_makeMap Try.prog
    go_simp
    have hBM : Below w.heap.size w (wS.alloc (.map #[] 0)) := hBS.alloc hBS.size _
    have hmM := MapL.made wS Try.prog 3
    have gM : wS.heap.size < (wS.alloc (.map #[] 0)).heap.size := by simp
    refine hK _ _ (HCO.out _ hBM) ?_
    clear hK K' hmm
    try simp only [Act.put, List.setIfInBounds_toArray, List.set_cons_succ, List.set_cons_zero]
    have hwM : w.heap.size ≤ wS.heap.size := hBS.size
    have hrM := row_below hrS ((Below.refl wS.heap.size wS).alloc (Nat.le_refl _) (.map #[] 0))
    obtain ⟨mb2, hmb2⟩ : ∃ mb2, mb2 = wS.heap.size := ⟨_, rfl⟩
    rw [← hmb2] at hmM gM hwM ⊢
    generalize wS.alloc (.map #[] 0) = wM at hBM hmM hrM gM ⊢
    clear hmb2 hgS hrS
    refine plan_read (by rfl) ?_
    apply Exists.intro
    refine ⟨fun y hy => ?_, ?_⟩
    · go_simp; rfl
    simp only [Act.put, List.setIfInBounds_toArray, List.set_cons_succ, List.set_cons_zero]
    refine plan_step (by rfl) (fun K' hK => ?_)
    go_simp
    have gP := heap_alloc_top wM (.cells #[.slice (some ⟨sb2, 0, none⟩) n cs2, .map (some mb2), .int .i64 st.calls, .int .i64 st.armed, .bool st.down] 61)
    have hbx : Below wM.heap.size wM (wM.alloc (.cells #[.slice (some ⟨sb2, 0, none⟩) n cs2, .map (some mb2), .int .i64 st.calls, .int .i64 st.armed, .bool st.down] 61)) := (Below.refl wM.heap.size wM).alloc (Nat.le_refl _) _
    have hBP := hBM.trans (hbx.mono hBM.size)
    have hrP := row_below hrM hbx
    have hmP := hmM.same (hbx.block mb2 hmM.lt)
    refine hK _ _ (HCO.out _ hBP) ?_
    clear hK K'
    try simp only [Act.put, List.setIfInBounds_toArray, List.set_cons_succ, List.set_cons_zero]
    obtain ⟨p2, hp2⟩ : ∃ p2, p2 = wM.heap.size := ⟨_, rfl⟩
    have hp2w : w.heap.size ≤ p2 := by rw [hp2]; exact hBM.size
    rw [← hp2] at gP ⊢
    generalize wM.alloc (.cells #[.slice (some ⟨sb2, 0, none⟩) n cs2, .map (some mb2), .int .i64 st.calls, .int .i64 st.armed, .bool st.down] 61) = wP at gP hBP hrP hmP ⊢
    clear hp2 hbx hrM hmM hBM gM
    have hcp : CopyAt wP w.heap.size p2 sb2 mb2 cs2 (fun _ => .slice none 0 0) st [] := by
      refine ⟨by rw [← HN.out]; exact gP, by rw [← HN.out]; exact hrP, hmP.congr (fun t _ => by unfold someF; split <;> simp) rfl, fun i hi => (by cases hi), fun i hi => (by cases hi), fun i hi => (by cases hi), hp2w, hsb2, hwM⟩
    have HCP := Lib.hid hcp; have HBP := Lib.hid hBP
    clear gP hrP hmP hcp hBP hp2w hsb2 hwM hc1 hc2
    refine plan_read (by rfl) ?_
    apply Exists.intro
    refine ⟨fun y hy => ?_, ?_⟩
    · go_simp; rfl
    simp only [Act.put, List.setIfInBounds_toArray, List.set_cons_succ, List.set_cons_zero]
    refine plan_done (NoPanic.normal ?_)
    have KD := Lib.hid (dirty_walk p F st wP (HH.out.below HBP.out))
    go_wp2_with fail
    refine KD.out.mono ?_
    rintro e w1 ⟨v, rfl, hrow, hb1⟩
    obtain ⟨l, hl⟩ : ∃ l, l = dirt st.S := ⟨_, rfl⟩
    rw [← hl] at hrow
    obtain ⟨ad, capl, rfl, hlc, hcm, hcs⟩ := hrow.open
    have hl31 : l.length ≤ 9223372036854775807 := by omega
    obtain ⟨ln, hln⟩ : ∃ ln, ln = l.length := ⟨_, rfl⟩
    rw [← hln] at hlc hl31 ⊢
    have HLN := Lib.hid hln; have HL := Lib.hid hl; have HRW := Lib.hid hrow
    have HC1 := Lib.hid (HCP.out.below hb1); have HB1 := Lib.hid (HBP.out.trans (hb1.mono HBP.out.size)); have HMB := Lib.hid (Nat.lt_of_lt_of_le HCP.out.map.lt (Nat.le_refl _))
    clear hln hl hrow hb1 KD hcs
    go_wp2_with fail
    go_loopg [31] ln (fun gk i wr => ∃ k V2, k + gk = ln ∧ i = .int .i64 (k : Nat) ∧ CopyAt wr w.heap.size p2 sb2 mb2 cs2 V2 st (l.take k) ∧ Below w.heap.size w wr ∧ IntRow wr wP.heap.size (.slice ad l.length capl) l)
    case atStart => exact ⟨0, _, by omega, rfl, HC1.out, HB1.out, HRW.out⟩
    case round =>
      obtain ⟨k, V2, hgk, rfl, hca, hbw, hrw⟩ := hrel
      have HGK := Lib.hid hgk; have HCA := Lib.hid hca; have HBW := Lib.hid hbw; have HR := Lib.hid hrw
      clear hgk hca hbw hrw
      by_cases hlt : (k : Int) < (ln : Int)
      · have hkl : k < l.length := by have := HLN.out; omega
        obtain ⟨ad', cap', hv, _, _, hc⟩ := HR.out.open
        simp only [Value.slice.injEq, true_and] at hv
        obtain ⟨rfl, rfl⟩ := hv
        rcases hc with hnil | ⟨gl, rfl, hg1, hg2, hcs⟩
        · rw [hnil] at hkl; simp at hkl
        have cx := hcs k hkl
        obtain ⟨x, hx⟩ : ∃ x, x = l[k] := ⟨_, rfl⟩
        rw [← hx] at cx
        have hxm := dirt_mem (S := st.S) (i := x) (by rw [← HL.out, hx]; exact List.getElem_mem hkl)
        have hnd : l.Nodup := by rw [HL.out]; exact dirt_nodup _
        have hxt : x ∉ l.take k := fun hm => by
          obtain ⟨j, hj, hje⟩ := List.getElem_of_mem hm
          rw [List.getElem_take] at hje
          have hjk : j < k := by rw [List.length_take] at hj; omega
          exact List.pairwise_iff_getElem.1 hnd j k (by omega) hkl hjk (by rw [hje, hx])
        have htk : l.take (k + 1) = l.take k ++ [x] := by rw [List.take_succ_eq_append_getElem hkl, hx]
        have hd2 := HD.out.touch (Touch.ofBelow (fun _ => False) HBW.out) (fun _ _ hf => hf)
        have hx4 : x ≤ 4096 := by have h1 := hxm.1; have h2 := HOK.out.2.1; omega
        have HX := Lib.hid (And.intro hxm (And.intro hxt (And.intro htk hx4))); have HD2 := Lib.hid hd2; have HG := Lib.hid (And.intro hg1 hg2); have HKL := Lib.hid hkl
        have hx4i : (x : Int) ≤ 4096 := by omega
        clear hkl hcs hx hxm hnd hxt htk hd2 hx4 hg1 hg2
        go_upto_region 7 with fail
        obtain ⟨C2, hC2⟩ : ∃ C2 : World → Prop, C2 = fun w9 => Below wr.heap.size wr w9 := ⟨_, rfl⟩
        have hCof : ∀ w9, Below wr.heap.size wr w9 → C2 w9 := fun w9 h => by rw [hC2]; exact h
        have hCto : ∀ w9, C2 w9 → Below wr.heap.size wr w9 := fun w9 h => by rw [hC2] at h; exact h
        have HCA1 := Lib.hid (fun w9 (h : C2 w9) => ((HD2.out.touch (Touch.ofBelow (fun _ => False) (hCto w9 h)) (fun _ _ hf => hf)).c1))
        have HCA2 := Lib.hid (fun w9 (h : C2 w9) => (cell_at (j := 1) (v := .map (some mb2)) ((HCA.out.below (hCto w9 h)).blk) rfl : w9.cell? ⟨p2, 1, none⟩ = some (.map (some mb2))))
        have HCA3 := Lib.hid (show ∀ w9, C2 w9 → (Instr.lookup 59 (.map (some mb)) (.int .i64 x) false).run Try.prog w9 = .ok (V x) w9 from fun w9 h => by
          have := look_now (HD2.out.touch (Touch.ofBelow (fun _ => False) (hCto w9 h)) (fun _ _ hf => hf)) x HX.out.2.2.2
          rw [if_pos HX.out.1.2] at this
          exact this)
        have HCO2 := Lib.hid hCof
        have hC0 : C2 wr.drew := hCof _ (Below.refl _ _).drew
        have hB0 : Below wr.heap.size wr wr.drew := (Below.refl _ _).drew
        clear hC2 hCof hCto
        refine wp_region_mixT C2 12 [(0,true,true),(1,true,true),(2,true,true),(3,true,true),(4,true,true),(5,true,true),(6,true,true),(7,true,true),(8,true,true),(9,true,true),(10,true,true),(11,false,true),(12,false,false)] (by kernel_rfl) (by kernel_rfl) hC0 ?_
        generalize wr.drew = w3 at hB0 ⊢
        clear hC0
        simp only [List.filterMap_cons, List.filterMap_nil, List.getElem?_cons_zero, List.getElem?_cons_succ, Option.map_some]
        repeat (refine mixT_read (by rfl) ?_; apply Exists.intro; refine ⟨fun w9 hw9 => ?_, ?_⟩; (· have d1 := HCA1.out w9 hw9; have d2 := HCA2.out w9 hw9; have d3 := HCA3.out w9 hw9; go_simp; rfl); simp only [Act.put, List.setIfInBounds_toArray, List.set_cons_succ, List.set_cons_zero])
        have hrv := (HD2.out.touch (Touch.ofBelow (fun _ => False) hB0) (fun _ _ hf => hf)).rows x HX.out.1.2
        obtain ⟨m, hm⟩ : ∃ m, m = (pend st.S x).length := ⟨_, rfl⟩
        have hrv' : w3.ownsRow 0 65 64 (V x) m (secv (pend st.S x)) := by rw [hm]; exact hrv
        have hmb : m ≤ 1000000000 := by rw [hm]; exact HLEN.out x
        have hm0 : m ≠ 0 := by have := List.length_pos_iff.2 HX.out.1.2; omega
        refine mixT_step (by rfl) (fun K' hK => ?_)
        refine wp_append_at _ _ _ 58 58 rfl wr.heap.size 65 i0 (.agg (List.replicate 64 (Value.int .u8 0)).toArray) 64 64 Try.underlying58 hi0 hz0 hz1 hz2 rfl (by decide) (.slice none 0 0) 0 [] rfl (World.ownsRow_nil _ _ _ _) (V x) m (secv (pend st.S x)) rfl (src_own _ Try.underlying58 hrv' (secv_one _)) (by unfold maxLen; omega) (by omega) hB0.size ?_
        intro vP wP2 hrP hgP hpP
        have hBP2 : Below wr.heap.size wr wP2 := hB0.grown hgP hB0.size (fun y hy => by cases hy)
        rw [List.nil_append, Nat.zero_add] at hrP
        obtain ⟨gv, cv, rfl, _, _, hgv⟩ := row_some hrP hm0
        refine hK _ _ (HCO2.out _ hBP2) ?_
        clear hK K' hrv hrv' hmb hm0 hpP hgP
        simp only [Act.put, List.setIfInBounds_toArray, List.set_cons_succ, List.set_cons_zero]
        have hcaP := HCA.out.below hBP2
        refine mixT_tail (by rfl) (fun K' hK => ?_)
        refine wp_mapUpdate_L _ _ _ rfl hcaP.map int_key Try.underlying59 ?_ (Go.Maps.keyOf_int_mk (P := Try.prog) (k := 3) (q := .i64) Try.underlying3 (a := (x : Int)) (WalkArith.wf_i64 (by omega))) rfl rfl rfl ?_
        · rw [List.length_take]; have h1 := HLN.out; have h2 := dirtTo_len st.S st.S.length; have h3 := HOK.out.2.1; have h4 := HL.out; rw [dirtTo_all, ← h4] at h2; unfold maxLen; omega
        intro wF hmF hgF
        have htF : Touch (fun y => y = mb2) wP2 wF := Touch.ofGrown hgF (fun y e => (Option.some.inj e).symm)
        have hnone : someF (l.take k) V2 (.int .i64 x) = none := by
          unfold someF
          simp only [Int.toNat_natCast]
          rw [if_neg (fun h => HX.out.2.1 h.2)]
        rw [hnone, if_neg (by simp)] at hmF
        refine hK _ _ ?_
        clear hK K'
        simp only [Act.put]
        refine mixT_nil (NoPanic.normal ?_)
        have hTF : Touch (fun y => y = mb2) wr wF := (Touch.ofBelow _ hBP2).trans htF
        have hmlt := HCA.out.map.lt
        have hrF : wF.ownsRow w.heap.size 65 64 (.slice (some ⟨gv, 0, none⟩) m cv) (pend st.S x).length (secv (pend st.S x)) := by
          rw [← hm]
          exact row_base_le (World.ownsRow.kept hrP hgF (.inr (fun e => by have e2 : gv = mb2 := Option.some.inj e; omega))) HBW.out.size
        have hstep := HCA.out.step HX.out.2.1 hrF (fun y hy => by have e2 : gv = y := Option.some.inj hy; omega) (by simp [Value.ownBlock]) hTF hmF
        rw [← HX.out.2.2.1] at hstep
        have HST := Lib.hid hstep
        have HBF := Lib.hid (hTF.below HBW.out HBW.out.size (fun y hy => by rw [hy]; exact HCA.out.up.2.2))
        have HRF := Lib.hid (HR.out.touch hTF (fun y hy => by rw [hy]; exact HMB.out))
        clear hTF hmlt hrF hstep htF hmF hgF hnone hcaP hrP hBP2 hgv hm
        go_wp2_with fail
        go_roundg (gk - 1)
        case measure => have := HGK.out; omega
        case rel => exact ⟨k + 1, _, by have := HGK.out; omega, by go_num, HST.out, HBF.out, HRF.out⟩
      · have hkn : l.take k = dirt st.S := by rw [← HL.out]; exact List.take_of_length_le (by have h1 := HGK.out; have h2 := HLN.out; omega)
        have hca := HCA.out
        rw [hkn] at hca
        obtain ⟨hd2, hf2⟩ := hca.done HOK.out HARM.out
        have HFIN := Lib.hid (show CopyPost w st (.returned (.pointer (some ⟨p2, 0, none⟩))) wr from ⟨p2, dfoot p2 sb2 mb2 V2 st.S, rfl, HBW.out, ⟨sb2, mb2, cs2, V2, hd2, fun _ => Iff.rfl⟩, hf2⟩)
        clear hkn hca hd2 hf2
        go_wp2_with fail
        go_ret
        exact HFIN.out
  · have hmm := @run_makeMap Try.prog
    go_simp
    have hBM : Below w.heap.size w (w6.alloc (.map #[] 0)) := hB0.alloc hB0.size _
    have hmM := MapL.made w6 Try.prog 3
    have gM : w6.heap.size < (w6.alloc (.map #[] 0)).heap.size := by simp
    refine hK _ _ (HCO.out _ hBM) ?_
    clear hK K' hmm
    try simp only [Act.put, List.setIfInBounds_toArray, List.set_cons_succ, List.set_cons_zero]
    have hwM : w.heap.size ≤ w6.heap.size := hB0.size
    obtain ⟨mb2, hmb2⟩ : ∃ mb2, mb2 = w6.heap.size := ⟨_, rfl⟩
    rw [← hmb2] at hmM gM hwM ⊢
    generalize w6.alloc (.map #[] 0) = wB at hBM hmM gM ⊢
    clear hmb2
    refine plan_step (by rfl) (fun K' hK => ?_)
    have hsf : wB.ownsRow 0 65 64 (.slice (some ⟨sb, 0, none⟩) n cs) n (secv (safes st.S)) := by
      have := (HD.out.touch (Touch.ofBelow (fun _ => False) hBM) (fun _ _ hf => hf)).safe
      unfold SecRow at this
      rw [safes_length, ← HN.out] at this
      exact this
    refine wp_append_at _ _ _ 58 58 rfl w.heap.size 65 i0 (.agg (List.replicate 64 (Value.int .u8 0)).toArray) 64 64 Try.underlying58 hi0 hz0 hz1 hz2 rfl (by decide) (.slice none 0 0) 0 [] rfl (World.ownsRow_nil _ _ _ _) (.slice (some ⟨sb, 0, none⟩) n cs) n (secv (safes st.S)) rfl (src_own _ Try.underlying58 hsf (secv_one _)) (by unfold maxLen; have := HN4.out; omega) (by have := HN4.out; omega) hBM.size ?_
    intro vS wM hrS hgS hpS
    have hBS2 : Below w.heap.size w wM := hBM.grown hgS hBM.size (fun k hk => by cases hk)
    rw [List.nil_append, Nat.zero_add] at hrS
    obtain ⟨sb2, cs2, rfl, hc1, hc2, hsb2⟩ := row_some hrS (by have := HN4.out; omega)
    refine hK _ _ (HCO.out _ hBS2) ?_
    clear hK K' hsf hpS
    simp only [Act.put, List.setIfInBounds_toArray, List.set_cons_succ, List.set_cons_zero]
    have hrM := hrS
    have hmM2 := hmM.same (hgS.block mb2 hmM.lt (fun e => by cases e))
    replace hmM := hmM2
    replace hBM := hBS2
    clear hmM2 hBS2 hrS
    replace gM := hmM.lt
    refine plan_read (by rfl) ?_
    apply Exists.intro
    refine ⟨fun y hy => ?_, ?_⟩
    · go_simp; rfl
    simp only [Act.put, List.setIfInBounds_toArray, List.set_cons_succ, List.set_cons_zero]
    refine plan_step (by rfl) (fun K' hK => ?_)
    go_simp
    have gP := heap_alloc_top wM (.cells #[.slice (some ⟨sb2, 0, none⟩) n cs2, .map (some mb2), .int .i64 st.calls, .int .i64 st.armed, .bool st.down] 61)
    have hbx : Below wM.heap.size wM (wM.alloc (.cells #[.slice (some ⟨sb2, 0, none⟩) n cs2, .map (some mb2), .int .i64 st.calls, .int .i64 st.armed, .bool st.down] 61)) := (Below.refl wM.heap.size wM).alloc (Nat.le_refl _) _
    have hBP := hBM.trans (hbx.mono hBM.size)
    have hrP := row_below hrM hbx
    have hmP := hmM.same (hbx.block mb2 hmM.lt)
    refine hK _ _ (HCO.out _ hBP) ?_
    clear hK K'
    try simp only [Act.put, List.setIfInBounds_toArray, List.set_cons_succ, List.set_cons_zero]
    obtain ⟨p2, hp2⟩ : ∃ p2, p2 = wM.heap.size := ⟨_, rfl⟩
    have hp2w : w.heap.size ≤ p2 := by rw [hp2]; exact hBM.size
    rw [← hp2] at gP ⊢
    generalize wM.alloc (.cells #[.slice (some ⟨sb2, 0, none⟩) n cs2, .map (some mb2), .int .i64 st.calls, .int .i64 st.armed, .bool st.down] 61) = wP at gP hBP hrP hmP ⊢
    clear hp2 hbx hrM hmM hBM gM
    have hcp : CopyAt wP w.heap.size p2 sb2 mb2 cs2 (fun _ => .slice none 0 0) st [] := by
      refine ⟨by rw [← HN.out]; exact gP, by rw [← HN.out]; exact hrP, hmP.congr (fun t _ => by unfold someF; split <;> simp) rfl, fun i hi => (by cases hi), fun i hi => (by cases hi), fun i hi => (by cases hi), hp2w, hsb2, hwM⟩
    have HCP := Lib.hid hcp; have HBP := Lib.hid hBP
    clear gP hrP hmP hcp hBP hp2w hsb2 hwM hc1 hc2
    refine plan_read (by rfl) ?_
    apply Exists.intro
    refine ⟨fun y hy => ?_, ?_⟩
    · go_simp; rfl
    simp only [Act.put, List.setIfInBounds_toArray, List.set_cons_succ, List.set_cons_zero]
    refine plan_done (NoPanic.normal ?_)
    have KD := Lib.hid (dirty_walk p F st wP (HH.out.below HBP.out))
    go_wp2_with fail
    refine KD.out.mono ?_
    rintro e w1 ⟨v, rfl, hrow, hb1⟩
    obtain ⟨l, hl⟩ : ∃ l, l = dirt st.S := ⟨_, rfl⟩
    rw [← hl] at hrow
    obtain ⟨ad, capl, rfl, hlc, hcm, hcs⟩ := hrow.open
    have hl31 : l.length ≤ 9223372036854775807 := by omega
    obtain ⟨ln, hln⟩ : ∃ ln, ln = l.length := ⟨_, rfl⟩
    rw [← hln] at hlc hl31 ⊢
    have HLN := Lib.hid hln; have HL := Lib.hid hl; have HRW := Lib.hid hrow
    have HC1 := Lib.hid (HCP.out.below hb1); have HB1 := Lib.hid (HBP.out.trans (hb1.mono HBP.out.size)); have HMB := Lib.hid (Nat.lt_of_lt_of_le HCP.out.map.lt (Nat.le_refl _))
    clear hln hl hrow hb1 KD hcs
    go_wp2_with fail
    go_loopg [31] ln (fun gk i wr => ∃ k V2, k + gk = ln ∧ i = .int .i64 (k : Nat) ∧ CopyAt wr w.heap.size p2 sb2 mb2 cs2 V2 st (l.take k) ∧ Below w.heap.size w wr ∧ IntRow wr wP.heap.size (.slice ad l.length capl) l)
    case atStart => exact ⟨0, _, by omega, rfl, HC1.out, HB1.out, HRW.out⟩
    case round =>
      obtain ⟨k, V2, hgk, rfl, hca, hbw, hrw⟩ := hrel
      have HGK := Lib.hid hgk; have HCA := Lib.hid hca; have HBW := Lib.hid hbw; have HR := Lib.hid hrw
      clear hgk hca hbw hrw
      by_cases hlt : (k : Int) < (ln : Int)
      · have hkl : k < l.length := by have := HLN.out; omega
        obtain ⟨ad', cap', hv, _, _, hc⟩ := HR.out.open
        simp only [Value.slice.injEq, true_and] at hv
        obtain ⟨rfl, rfl⟩ := hv
        rcases hc with hnil | ⟨gl, rfl, hg1, hg2, hcs⟩
        · rw [hnil] at hkl; simp at hkl
        have cx := hcs k hkl
        obtain ⟨x, hx⟩ : ∃ x, x = l[k] := ⟨_, rfl⟩
        rw [← hx] at cx
        have hxm := dirt_mem (S := st.S) (i := x) (by rw [← HL.out, hx]; exact List.getElem_mem hkl)
        have hnd : l.Nodup := by rw [HL.out]; exact dirt_nodup _
        have hxt : x ∉ l.take k := fun hm => by
          obtain ⟨j, hj, hje⟩ := List.getElem_of_mem hm
          rw [List.getElem_take] at hje
          have hjk : j < k := by rw [List.length_take] at hj; omega
          exact List.pairwise_iff_getElem.1 hnd j k (by omega) hkl hjk (by rw [hje, hx])
        have htk : l.take (k + 1) = l.take k ++ [x] := by rw [List.take_succ_eq_append_getElem hkl, hx]
        have hd2 := HD.out.touch (Touch.ofBelow (fun _ => False) HBW.out) (fun _ _ hf => hf)
        have hx4 : x ≤ 4096 := by have h1 := hxm.1; have h2 := HOK.out.2.1; omega
        have HX := Lib.hid (And.intro hxm (And.intro hxt (And.intro htk hx4))); have HD2 := Lib.hid hd2; have HG := Lib.hid (And.intro hg1 hg2); have HKL := Lib.hid hkl
        have hx4i : (x : Int) ≤ 4096 := by omega
        clear hkl hcs hx hxm hnd hxt htk hd2 hx4 hg1 hg2
        go_upto_region 7 with fail
        obtain ⟨C2, hC2⟩ : ∃ C2 : World → Prop, C2 = fun w9 => Below wr.heap.size wr w9 := ⟨_, rfl⟩
        have hCof : ∀ w9, Below wr.heap.size wr w9 → C2 w9 := fun w9 h => by rw [hC2]; exact h
        have hCto : ∀ w9, C2 w9 → Below wr.heap.size wr w9 := fun w9 h => by rw [hC2] at h; exact h
        have HCA1 := Lib.hid (fun w9 (h : C2 w9) => ((HD2.out.touch (Touch.ofBelow (fun _ => False) (hCto w9 h)) (fun _ _ hf => hf)).c1))
        have HCA2 := Lib.hid (fun w9 (h : C2 w9) => (cell_at (j := 1) (v := .map (some mb2)) ((HCA.out.below (hCto w9 h)).blk) rfl : w9.cell? ⟨p2, 1, none⟩ = some (.map (some mb2))))
        have HCA3 := Lib.hid (show ∀ w9, C2 w9 → (Instr.lookup 59 (.map (some mb)) (.int .i64 x) false).run Try.prog w9 = .ok (V x) w9 from fun w9 h => by
          have := look_now (HD2.out.touch (Touch.ofBelow (fun _ => False) (hCto w9 h)) (fun _ _ hf => hf)) x HX.out.2.2.2
          rw [if_pos HX.out.1.2] at this
          exact this)
        have HCO2 := Lib.hid hCof
        have hC0 : C2 wr.drew := hCof _ (Below.refl _ _).drew
        have hB0 : Below wr.heap.size wr wr.drew := (Below.refl _ _).drew
        clear hC2 hCof hCto
        refine wp_region_mixT C2 12 [(0,true,true),(1,true,true),(2,true,true),(3,true,true),(4,true,true),(5,true,true),(6,true,true),(7,true,true),(8,true,true),(9,true,true),(10,true,true),(11,false,true),(12,false,false)] (by kernel_rfl) (by kernel_rfl) hC0 ?_
        generalize wr.drew = w3 at hB0 ⊢
        clear hC0
        simp only [List.filterMap_cons, List.filterMap_nil, List.getElem?_cons_zero, List.getElem?_cons_succ, Option.map_some]
        repeat (refine mixT_read (by rfl) ?_; apply Exists.intro; refine ⟨fun w9 hw9 => ?_, ?_⟩; (· have d1 := HCA1.out w9 hw9; have d2 := HCA2.out w9 hw9; have d3 := HCA3.out w9 hw9; go_simp; rfl); simp only [Act.put, List.setIfInBounds_toArray, List.set_cons_succ, List.set_cons_zero])
        have hrv := (HD2.out.touch (Touch.ofBelow (fun _ => False) hB0) (fun _ _ hf => hf)).rows x HX.out.1.2
        obtain ⟨m, hm⟩ : ∃ m, m = (pend st.S x).length := ⟨_, rfl⟩
        have hrv' : w3.ownsRow 0 65 64 (V x) m (secv (pend st.S x)) := by rw [hm]; exact hrv
        have hmb : m ≤ 1000000000 := by rw [hm]; exact HLEN.out x
        have hm0 : m ≠ 0 := by have := List.length_pos_iff.2 HX.out.1.2; omega
        refine mixT_step (by rfl) (fun K' hK => ?_)
        refine wp_append_at _ _ _ 58 58 rfl wr.heap.size 65 i0 (.agg (List.replicate 64 (Value.int .u8 0)).toArray) 64 64 Try.underlying58 hi0 hz0 hz1 hz2 rfl (by decide) (.slice none 0 0) 0 [] rfl (World.ownsRow_nil _ _ _ _) (V x) m (secv (pend st.S x)) rfl (src_own _ Try.underlying58 hrv' (secv_one _)) (by unfold maxLen; omega) (by omega) hB0.size ?_
        intro vP wP2 hrP hgP hpP
        have hBP2 : Below wr.heap.size wr wP2 := hB0.grown hgP hB0.size (fun y hy => by cases hy)
        rw [List.nil_append, Nat.zero_add] at hrP
        obtain ⟨gv, cv, rfl, _, _, hgv⟩ := row_some hrP hm0
        refine hK _ _ (HCO2.out _ hBP2) ?_
        clear hK K' hrv hrv' hmb hm0 hpP hgP
        simp only [Act.put, List.setIfInBounds_toArray, List.set_cons_succ, List.set_cons_zero]
        have hcaP := HCA.out.below hBP2
        refine mixT_tail (by rfl) (fun K' hK => ?_)
        refine wp_mapUpdate_L _ _ _ rfl hcaP.map int_key Try.underlying59 ?_ (Go.Maps.keyOf_int_mk (P := Try.prog) (k := 3) (q := .i64) Try.underlying3 (a := (x : Int)) (WalkArith.wf_i64 (by omega))) rfl rfl rfl ?_
        · rw [List.length_take]; have h1 := HLN.out; have h2 := dirtTo_len st.S st.S.length; have h3 := HOK.out.2.1; have h4 := HL.out; rw [dirtTo_all, ← h4] at h2; unfold maxLen; omega
        intro wF hmF hgF
        have htF : Touch (fun y => y = mb2) wP2 wF := Touch.ofGrown hgF (fun y e => (Option.some.inj e).symm)
        have hnone : someF (l.take k) V2 (.int .i64 x) = none := by
          unfold someF
          simp only [Int.toNat_natCast]
          rw [if_neg (fun h => HX.out.2.1 h.2)]
        rw [hnone, if_neg (by simp)] at hmF
        refine hK _ _ ?_
        clear hK K'
        simp only [Act.put]
        refine mixT_nil (NoPanic.normal ?_)
        have hTF : Touch (fun y => y = mb2) wr wF := (Touch.ofBelow _ hBP2).trans htF
        have hmlt := HCA.out.map.lt
        have hrF : wF.ownsRow w.heap.size 65 64 (.slice (some ⟨gv, 0, none⟩) m cv) (pend st.S x).length (secv (pend st.S x)) := by
          rw [← hm]
          exact row_base_le (World.ownsRow.kept hrP hgF (.inr (fun e => by have e2 : gv = mb2 := Option.some.inj e; omega))) HBW.out.size
        have hstep := HCA.out.step HX.out.2.1 hrF (fun y hy => by have e2 : gv = y := Option.some.inj hy; omega) (by simp [Value.ownBlock]) hTF hmF
        rw [← HX.out.2.2.1] at hstep
        have HST := Lib.hid hstep
        have HBF := Lib.hid (hTF.below HBW.out HBW.out.size (fun y hy => by rw [hy]; exact HCA.out.up.2.2))
        have HRF := Lib.hid (HR.out.touch hTF (fun y hy => by rw [hy]; exact HMB.out))
        clear hTF hmlt hrF hstep htF hmF hgF hnone hcaP hrP hBP2 hgv hm
        go_wp2_with fail
        go_roundg (gk - 1)
        case measure => have := HGK.out; omega
        case rel => exact ⟨k + 1, _, by have := HGK.out; omega, by go_num, HST.out, HBF.out, HRF.out⟩
      · have hkn : l.take k = dirt st.S := by rw [← HL.out]; exact List.take_of_length_le (by have h1 := HGK.out; have h2 := HLN.out; omega)
        have hca := HCA.out
        rw [hkn] at hca
        obtain ⟨hd2, hf2⟩ := hca.done HOK.out HARM.out
        have HFIN := Lib.hid (show CopyPost w st (.returned (.pointer (some ⟨p2, 0, none⟩))) wr from ⟨p2, dfoot p2 sb2 mb2 V2 st.S, rfl, HBW.out, ⟨sb2, mb2, cs2, V2, hd2, fun _ => Iff.rfl⟩, hf2⟩)
        clear hkn hca hd2 hf2
        go_wp2_with fail
        go_ret
        exact HFIN.out
end Go.Proofs.Ytcabocppplokgaa
