/-
  Layer 3: Write.
-/
import Derived.Test.YtcabocppplokgaaDskE
import Derived.Test.YtcabocppplokgaaMixT
import Derived.Test.YtcabocppplokgaaStrs
import Derived.Great.BuildSlice
namespace Go.Proofs.Ytcabocppplokgaa
open Go.RowKit

/-- a text, filled up with nought -/
def fill (s : ByteArray) : Sec := s.data.toList ++ List.replicate (64 - s.size) 0
theorem fill_length (s : ByteArray) (h : s.size ≤ 64) : (fill s).length = 64 := by
  have : s.data.toList.length = s.size := by simp
  unfold fill
  rw [List.length_append, List.length_replicate, this]
  omega
theorem fill_cells (s : ByteArray) (_ : s.size ≤ 64) : (List.replicate 64 (Value.int .u8 0)).take 0 ++ bv s.data.toList ++ (List.replicate 64 (Value.int .u8 0)).drop (0 + s.size) = bv (fill s) := by
  unfold fill
  rw [bv_append, List.take_zero, List.nil_append, List.drop_replicate, Nat.zero_add]
  congr 1
  unfold bv
  rw [List.map_replicate]
  rfl
/-- what Write answers, and leaves -/
def writeD (st : Dk) (at' : Int) (s : ByteArray) : Int × Dk :=
  if readyE st at' ≠ 0 then (readyE st at', st) else if 64 < s.size then (4, st)
  else if (callD st).down = true then (12, callD st) else (0, ⟨pushS st.S at'.toNat (fill s), (callD st).calls, (callD st).armed, (callD st).down⟩)

theorem wp_mapUpdate_L {P : Program} {k e t : TypeId} {w : World} {b n : Nat} {f : Lit → Option Value} {o : Oper} {a : Act} {K : Act → World → Prop} {Q : Exit → Act → World → Prop} (m x v : Operand) (ho : o.op = .mapUpdate t m x v)
    (h : MapL P k w b f n) (KK : Go.Maps.Keyed P k) (ht : P.underlying t = some (.map k e)) (hn : n < maxLen) {key val : Value} {kl : Lit} (hkey : keyOf P k key = some kl)
    (hm : a.eval m = .map (some b)) (hx : a.eval x = key) (hv : a.eval v = val)
    (hK : ∀ w', MapL P k w' b (setF f kl val) (if (f kl).isSome then n else n + 1) → w.grownBy w' (some b) → K (a.put o.dst undef) w') : o.wp P a w K Q := by
  obtain ⟨w', hrun, h1, h2⟩ := h.store KK ht hn (val := val) hkey
  unfold Oper.wp
  simp [execOp, ho, hm, hx, hv, hrun, Result.andThen]
  exact hK w' h1 h2

theorem fill_sec (i0 : TypeInfo) (hz1 : i0.size = 64) (base : Array Value) (hb : base.size = 1 * i0.size) (f : Sec) (hf : f.length = 64) (parts : List (Nat × Value)) (hp : parts = [(0, .agg (bv f).toArray)]) :
    Instr.fill (fun i => some (i * i0.size, i0.size)) base parts = some (bv f).toArray := by
  subst hp
  rw [hz1] at hb ⊢
  have := Go.Great.fill_whole (s := 64) (by omega) [.agg (bv f).toArray] base (by intro v hv; rw [List.mem_singleton.1 hv]; show (bv f).toArray.size = 64; rw [List.size_toArray, bv_length, hf]) (by rw [hb]; rfl)
  simpa [Value.cells] using this
/-- what Write leaves -/
def WritePost (p : Nat) (F : Nat → Prop) (w : World) (r : Int × Dk) (e : Ending) (w' : World) : Prop := e = .returned (.int .i64 r.1) ∧ ∃ F', Disk w' p F' r.2 ∧ Stp F w F' w'

theorem touch_p {p : Nat} {F : Nat → Prop} {st st' : Dk} {w w' : World} (h : Disk w p F st) (_ : Disk w' p F st') (ht : Touch (fun k => k = p) w w') : Stp F w F w' :=
  ⟨ht.mono (fun k _ e => by rw [e]; exact h.own), fun _ hk => .inl hk⟩
theorem zsec (w : World) : (zeroValue 58).run Try.prog w = .ok (.slice none 0 0) w := by kernel_rfl
theorem callD_S (st : Dk) : (callD st).S = st.S := rfl
set_option maxHeartbeats 4000000 in
theorem write_walk (p : Nat) (F : Nat → Prop) (st : Dk) (at' : Int) (s : ByteArray) (w : World) (h : Disk w p F st) (hp : (pend st.S at'.toNat).length ≤ 1000000000) :
    Calls Try.prog 11 #[.pointer (some ⟨p, 0, none⟩), .int .i64 at', .string s] w fun e w' => WritePost p F w (writeD st at' s) e w' := by
  have hrw := ready_walk p F st at' w h
  have HH := Lib.hid h
  by_cases h0 : readyE st at' = 0
  · obtain ⟨_, h1, h2⟩ := ready_zero h0
    obtain ⟨i, rfl⟩ := Int.eq_ofNat_of_zero_le h1
    rw [Int.toNat_natCast] at h2 hp
    rw [h0] at hrw
    have HRW := Lib.hid hrw
    by_cases hb : (64 : Int) < (s.size : Int)
    · have hwd : writeD st i s = (4, st) := by unfold writeD; rw [if_neg (by simpa using h0), if_pos (by omega)]
      rw [hwd]
      clear h h0 h1 h2 hrw hp hwd
      go_enter Try.func11, Try.ntmps11
      go_wp2_with fail
      refine HRW.out.mono ?_
      rintro e w1 ⟨rfl, rfl⟩
      go_wp2_with fail
      go_ret
      exact ⟨rfl, F, HH.out, Stp.refl _ _⟩
    · have hs : s.size ≤ 64 := by omega
      have hcw := call_walk p F st w h
      cases hdn : (callD st).down with
      | true =>
        have hwd : writeD st i s = (12, callD st) := by unfold writeD; rw [if_neg (by simpa using h0), if_neg (by omega), if_pos hdn]
        rw [hwd]
        rw [hdn, if_pos rfl] at hcw
        have HCW := Lib.hid hcw
        clear h h0 h1 h2 hrw hp hwd hcw hs
        go_enter Try.func11, Try.ntmps11
        go_wp2_with fail
        refine HRW.out.mono ?_
        rintro e w1 ⟨rfl, rfl⟩
        go_wp2_with fail
        refine HCW.out.mono ?_
        rintro e w2 ⟨rfl, hd2, ht2⟩
        have K1 := Lib.hid hd2; have K2 := Lib.hid (touch_p HH.out hd2 ht2)
        clear hd2 ht2
        go_wp2_with fail
        go_ret
        exact ⟨rfl, F, K1.out, K2.out⟩
      | false =>
        have hwd : writeD st i s = (0, ⟨pushS st.S i (fill s), (callD st).calls, (callD st).armed, (callD st).down⟩) := by
          unfold writeD; rw [if_neg (by simpa using h0), if_neg (by omega), if_neg (by rw [hdn]; simp)]; rfl
        rw [hwd]
        rw [hdn, if_neg (by simp)] at hcw
        have HCW := Lib.hid hcw; have HSZ := Lib.hid hs; have HP := Lib.hid hp; have HI := Lib.hid h2
        clear h h0 h1 h2 hrw hp hwd hcw hs
        obtain ⟨i0, hi, hz0, hz1, hz2⟩ := info_sec
        go_enter Try.func11, Try.ntmps11
        go_wp2_with fail
        refine HRW.out.mono ?_
        rintro e w1 ⟨rfl, rfl⟩
        go_wp2_with fail
        refine HCW.out.mono ?_
        rintro e w2 ⟨rfl, hd2, ht2⟩
        have K1 := Lib.hid hd2; have K2 := Lib.hid (touch_p HH.out hd2 ht2)
        clear hd2 ht2 HRW HCW HH
        go_upto_region 10 with fail
        obtain ⟨x, hx⟩ : ∃ x, x = w2.heap.size := ⟨_, rfl⟩
        obtain ⟨W, hW⟩ : ∃ W, W = w2.alloc (.cells (List.replicate 64 (Value.int .u8 0)).toArray 65) := ⟨_, rfl⟩
        have hblk : W.heap[x]? = some (.cells (List.replicate 64 (Value.int .u8 0)).toArray 65 (0, 0)) := by rw [hW, hx]; exact heap_alloc_top _ _
        have hbw : Below w2.heap.size w2 W := by rw [hW]; exact (Below.refl _ _).alloc (Nat.le_refl _) _
        have HX := Lib.hid hx; have HW := Lib.hid hW; have HBLK := Lib.hid hblk; have HBW := Lib.hid hbw
        rw [← hx]
        clear hx hW hblk hbw
        refine wp_world HW.out ?_
        clear HW
        go_upto_region 11 with (refine wpList_copy_src rfl _ _ 40 9 rfl 5 Try.underlying40 (by kernel_rfl) x 0 64 64 s.size (.string s) rfl rfl _ (src_bytes _ Try.underlying9 s) (List.replicate 64 (Value.int .u8 0)).toArray 65 HBLK.out HSZ.out (by rw [List.size_toArray, List.length_replicate]; have := HSZ.out; omega) ?_)
        rw [fill_cells s HSZ.out]
        simp only [Act.put, List.setIfInBounds_toArray, List.set_cons_succ, List.set_cons_zero]
        obtain ⟨f, hf⟩ : ∃ f, f = fill s := ⟨_, rfl⟩
        have hfl : f.length = 64 := by rw [hf]; exact fill_length s HSZ.out
        have hbf : (bv f).length = 64 := by rw [bv_length, hfl]
        rw [← hf]
        have hx2 : (W.setRow x (bv f).toArray).heap[x]? = some (.cells (bv f).toArray 65 (0, 0)) := setRow_heap _ x _ _ _ _ HBLK.out
        have hb2 : Below w2.heap.size w2 (W.setRow x (bv f).toArray) := (touch_setRow (F := fun k => k = x) W x _ rfl).below HBW.out HBW.out.size (fun k hk => by rw [hk, HX.out]; exact Nat.le_refl _)
        generalize W.setRow x (bv f).toArray = W2 at hx2 hb2 ⊢
        obtain ⟨sb, mb, cs, V, hd, hF⟩ := K1.out.below hb2
        obtain ⟨v, hv⟩ : ∃ v, v = if pend st.S i ≠ [] then V i else .slice none 0 0 := ⟨_, rfl⟩
        have hrow : SecRow W2 v (pend st.S i) := by
          rw [hv]
          by_cases hpe : pend st.S i ≠ []
          · rw [if_pos hpe]; exact hd.rows i hpe
          · rw [if_neg hpe]
            have : pend st.S i = [] := by simpa using hpe
            rw [this]
            exact World.ownsRow_nil _ _ _ _
        have hvx : ∀ k, v.ownBlock = some k → k ≠ x ∧ k ≠ p ∧ k ≠ mb := fun k e => by
          rw [hv] at e
          by_cases hpe : pend st.S i ≠ []
          · rw [if_pos hpe] at e
            have h1 := hd.rowNe hpe e
            refine ⟨fun ek => ?_, h1.1, h1.2.2.1⟩
            have h2 := K1.out.lt k ((hF k).2 (.inr (.inr (.inr ⟨i, hpe, e⟩))))
            rw [ek, HX.out] at h2
            omega
          · rw [if_neg hpe] at e; cases e
        have hn4 : i ≤ 4096 := by have h1 := hd.ok.2.1; have h2 := HI.out; rw [callD_S] at h1; omega
        -- what is read, in every world in which nothing but the old slice's block is touched
        obtain ⟨C, hC⟩ : ∃ C : World → Prop, C = fun w9 => Touch (fun k => v.ownBlock = some k) W2 w9 := ⟨_, rfl⟩
        have hCof : ∀ w9, Touch (fun k => v.ownBlock = some k) W2 w9 → C w9 := fun w9 h => by rw [hC]; exact h
        have hCto : ∀ w9, C w9 → Touch (fun k => v.ownBlock = some k) W2 w9 := fun w9 h => by rw [hC] at h; exact h
        have hc1 : ∀ w9, C w9 → w9.cell? ⟨p, 1, none⟩ = some (.map (some mb)) := fun w9 h => by
          refine cell_at (cs := #[.slice (some ⟨sb, 0, none⟩) st.S.length cs, .map (some mb), .int .i64 (callD st).calls, .int .i64 (callD st).armed, .bool (callD st).down]) (((hCto w9 h).block p (lt_of_block hd.blk) (fun e => (hvx p e).2.1 rfl)).trans hd.blk) rfl
        have hlk : ∀ w9, C w9 → (Instr.lookup 59 (.map (some mb)) (.int .i64 i) false).run Try.prog w9 = .ok v w9 := fun w9 h => by
          have hk := Go.Maps.keyOf_int_mk (P := Try.prog) (k := 3) (q := .i64) Try.underlying3 (a := (i : Int)) (WalkArith.wf_i64 (by omega))
          rw [(hd.map.same ((hCto w9 h).block mb hd.map.lt (fun e => (hvx mb e).2.2 rfl))).look int_key Try.underlying59 (zsec w9) hk, hv]
          congr 1
          show (nowF st.S V (.int .i64 i)).getD (.slice none 0 0) = _
          unfold nowF
          simp only [Int.toNat_natCast]
          by_cases hpe : pend st.S i ≠ []
          · rw [if_pos hpe, if_pos ⟨Int.natCast_nonneg _, hpe⟩]; rfl
          · rw [if_neg hpe, if_neg (fun h => hpe h.2)]; rfl
        have hld : ∀ w9, C w9 → w9.heap[x]? = some (.cells (bv f).toArray 65 (0, 0)) := fun w9 h => ((hCto w9 h).block x (lt_of_block hx2) (fun e => (hvx x e).1 rfl)).trans hx2
        have hrow' : W2.ownsRow 0 65 64 v (pend st.S i).length (secv (pend st.S i)) := hrow
        obtain ⟨m, hm⟩ : ∃ m, m = (pend st.S i).length := ⟨_, rfl⟩
        rw [← hm] at hrow'
        have hmb : m ≤ 1000000000 := by rw [hm]; exact HP.out
        have HC1 := Lib.hid hc1; have HLK := Lib.hid hlk; have HLD := Lib.hid hld; have HCO := Lib.hid hCof; have HCT := Lib.hid hCto; have HD := Lib.hid hd; have HFF := Lib.hid hF; have HV := Lib.hid hv; have HR := Lib.hid hrow'; have HM := Lib.hid hm; have HMB := Lib.hid hmb; have HFE := Lib.hid hf; have HFL := Lib.hid hfl; have HBF := Lib.hid hbf; have HB2 := Lib.hid hb2
        have hC0 : C W2.drew := hCof _ (Touch.refl _ _).drew
        clear hc1 hlk hld hCof hCto hd hF hv hrow hrow' hvx hm hmb hf hfl hbf hx2 hb2 HBLK HBW HX hC K1
        refine wp_region_mixT C 14 [(0,true,true),(1,true,true),(2,true,true),(3,true,true),(4,true,true),(5,true,true),(6,true,true),(7,true,true),(8,true,true),(9,true,true),(10,true,true),(11,true,true),(12,false,true),(13,false,true),(14,false,false)] (by kernel_rfl) (by kernel_rfl) hC0 ?_
        have ht0 : Touch (fun k => v.ownBlock = some k) W2 W2.drew := (Touch.refl _ _).drew
        have hr0 : W2.drew.ownsRow 0 65 64 v m (secv (pend st.S i)) := HR.out
        generalize W2.drew = w3 at ht0 hr0 ⊢
        clear hC0
        simp only [List.filterMap_cons, List.filterMap_nil, List.getElem?_cons_zero, List.getElem?_cons_succ, Option.map_some]
        repeat (first
          | (refine mixT_load_row 65 _ rfl (by rfl) x rfl 65 (bv f).toArray (0, 0) _ HLD.out Try.underlying65 rfl (by rw [List.size_toArray, HBF.out]; exact info_sec1) ?_; simp only [Act.put, List.setIfInBounds_toArray, List.set_cons_succ, List.set_cons_zero])
          | (refine mixT_read (by rfl) ?_; apply Exists.intro; refine ⟨fun w9 hw9 => ?_, ?_⟩; (· have d1 := HC1.out w9 hw9; have d2 := HLK.out w9 hw9; go_simp; rfl); simp only [Act.put, List.setIfInBounds_toArray, List.set_cons_succ, List.set_cons_zero]))
        refine mixT_step (by rfl) (fun K' hK => ?_)
        refine wp_buildSlice 58 65 1 _ rfl (bv f).toArray i0 (.agg (List.replicate 64 (Value.int .u8 0)).toArray) Try.underlying58 hi hz0 (by rw [hz1]; decide) (by rw [hz1]; decide) (fill_sec i0 hz1 _ ?_ f HFL.out _ ?_) ?_
        · rw [Array.size_map, Array.size_range]
        · rw [Array.toList_map]; rfl
        have rE := row_new w3 0 64 1 65 (bv f).toArray (Nat.zero_le _) (by rw [List.size_toArray, HBF.out]) (by unfold maxLen; omega)
        have htE : Touch (fun k => v.ownBlock = some k) W2 (w3.alloc (.cells (bv f).toArray 65)) := ht0.alloc _
        have hrE := hr0.alloc (.cells (bv f).toArray 65)
        refine hK _ _ (HCO.out _ htE) ?_
        clear hK K'
        simp only [Act.put, List.setIfInBounds_toArray, List.set_cons_succ, List.set_cons_zero]
        obtain ⟨E, hE⟩ : ∃ E, E = w3.heap.size := ⟨_, rfl⟩
        rw [← hE] at rE ⊢
        have hWE : W2.heap.size ≤ E := by rw [hE]; exact ht0.size
        have hEs : (w3.alloc (.cells (bv f).toArray 65)).heap.size = E + 1 := by simp [hE]
        generalize w3.alloc (.cells (bv f).toArray 65) = wE at rE htE hrE hEs ⊢
        have HE := Lib.hid hWE; have HES := Lib.hid hEs
        clear hE hWE ht0 hr0 hEs
        refine mixT_step (by rfl) (fun K' hK => ?_)
        refine wp_append_at _ _ _ 58 58 rfl 0 65 i0 (.agg (List.replicate 64 (Value.int .u8 0)).toArray) 64 64 Try.underlying58 hi hz0 hz1 hz2 rfl (by decide) v m (secv (pend st.S i)) rfl hrE (.slice (some ⟨E, 0, none⟩) 1 1) 1 (bv f) rfl (src_own _ Try.underlying58 rE (bv_one f)) (by unfold maxLen; have := HMB.out; omega) (by have := HMB.out; omega) (Nat.zero_le _) ?_
        intro v' wP hrP hgP hpP
        have htP : Touch (fun k => v.ownBlock = some k) W2 wP := htE.trans (Touch.ofGrown hgP (fun k e => e))
        refine hK _ _ (HCO.out _ htP) ?_
        clear hK K'
        simp only [Act.put, List.setIfInBounds_toArray, List.set_cons_succ, List.set_cons_zero]
        have hsv : secv (pend st.S i) ++ bv f = secv (pend st.S i ++ [f]) := by rw [secv_append]; simp [secv]
        have hlen : m + 1 = (pend st.S i ++ [f]).length := by rw [List.length_append, HM.out]; rfl
        rw [hsv, hlen] at hrP
        have hmap := HD.out.map.same ((htP.block mb HD.out.map.lt (fun e => by
          have h1 := HV.out
          rw [h1] at e
          by_cases hpe : pend st.S i ≠ []
          · rw [if_pos hpe] at e; exact (HD.out.rowNe hpe e).2.2.1 rfl
          · rw [if_neg hpe] at e; cases e)))
        have HP1 := Lib.hid hrP; have HP2 := Lib.hid hpP; have HP3 := Lib.hid htP; have HP4 := Lib.hid hmap
        clear hsv hlen hrP hgP hpP htP hmap rE htE hrE
        refine mixT_tail (by rfl) (fun K' hK => ?_)
        refine wp_mapUpdate_L _ _ _ rfl HP4.out int_key Try.underlying59 ?_ (Go.Maps.keyOf_int_mk (P := Try.prog) (k := 3) (q := .i64) Try.underlying3 (a := (i : Int)) (WalkArith.wf_i64 (by omega))) rfl rfl rfl ?_
        · have h1 : (dirt (callD st).S).length ≤ (callD st).S.length := by
            unfold dirt
            exact Nat.le_trans (List.length_filter_le _ _) (by rw [List.length_range]; exact Nat.le_refl _)
          have h2 := HD.out.ok.2.1
          unfold maxLen
          omega
        intro wF hmF hgF
        refine hK _ _ ?_
        clear hK K'
        simp only [Act.put]
        refine mixT_nil (NoPanic.normal ?_)
        obtain ⟨q1, q2, q3⟩ := disk_push HD.out (by have := HI.out; exact this) HFL.out HV.out HP3.out HP1.out HP2.out (by have := HE.out; have := HES.out; omega) hmF hgF
        have hfin : WritePost p F w1 (0, ⟨pushS st.S i f, (callD st).calls, (callD st).armed, (callD st).down⟩) (.returned (.int .i64 0)) wF :=
          ⟨rfl, _, ⟨sb, mb, cs, _, q1, fun k => Iff.rfl⟩, K2.out.trans ((Stp.ofBelow F HB2.out).trans ⟨q2.mono (fun k _ hk => (HFF.out k).2 hk), fun k hk => (q3 k hk).imp (HFF.out k).2 id⟩)⟩
        have HFIN := Lib.hid hfin
        clear q1 q2 q3 hfin hmF hgF
        go_wp2_with fail
        go_ret
        rw [← HFE.out]
        exact HFIN.out
  · have hwd : writeD st at' s = (readyE st at', st) := by unfold writeD; rw [if_pos h0]
    rw [hwd]
    obtain ⟨r, hr⟩ : ∃ r, r = readyE st at' := ⟨_, rfl⟩
    rw [← hr] at hrw h0 ⊢
    have hz : (r == 0) = false := by rw [beq_eq_false_iff_ne]; exact h0
    have HRW := Lib.hid hrw
    clear h hrw hr hwd h0 hp
    go_enter Try.func11, Try.ntmps11
    go_wp2_with fail
    refine HRW.out.mono ?_
    rintro e w1 ⟨rfl, rfl⟩
    go_wp2_with fail
    go_ret
    exact ⟨rfl, F, HH.out, Stp.refl _ _⟩
end Go.Proofs.Ytcabocppplokgaa
