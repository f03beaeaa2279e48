/-
  Layer 3: the reference's Write.
-/
import Derived.Test.YtcabocppplokgaaRdkC
namespace Go.Proofs.Ytcabocppplokgaa
open Go.RowKit

theorem info_str : (Try.prog.info? 9).map (fun i => (i.zero, i.size, i.bytes)) = some (some (.string ⟨#[]⟩), 1, 16) := by kernel_rfl
/-- sectors as texts -/
def strv (L : List Sec) : List Value := L.map fun s => Value.string (txt s)
theorem strv_length (L : List Sec) : (strv L).length = L.length := by simp [strv]
theorem strv_append (a b : List Sec) : strv (a ++ b) = strv a ++ strv b := by simp [strv]
theorem strv_one (L : List Sec) : ∀ u ∈ strv L, u.oneCell' = true := by
  intro u hu
  obtain ⟨s, _, rfl⟩ := List.mem_map.1 hu
  rfl
theorem src_strv {P : Program} {w : World} {tx e' : TypeId} (hk : P.underlying tx = some (.slice e')) (g c : Nat) (L : List Sec) (hc : ∀ j (hj : j < L.length), w.cell? ⟨g, j, none⟩ = some (.string (txt L[j]))) :
    Src P 1 tx (.slice (some ⟨g, 0, none⟩) L.length c) L.length (strv L) w :=
  Src.ofSlice w hk ⟨g, 0, none⟩ L.length c _ (by rw [strv_length]; omega) (fun j x hx => by
    unfold strv at hx
    rw [List.getElem?_map] at hx
    obtain ⟨s, hs, rfl⟩ := Option.map_eq_some_iff.1 hx
    obtain ⟨hj, rfl⟩ := List.getElem?_eq_some_iff.1 hs
    rw [add_none0]
    exact hc j hj) (strv_one L)
theorem strv_open {w : World} {v : Value} {L : List Sec} {base : Nat} (h : w.ownsRow base 9 1 v L.length (strv L)) (hL : L ≠ []) :
    ∃ g c, v = .slice (some ⟨g, 0, none⟩) L.length c ∧ base ≤ g ∧ g < w.heap.size ∧ L.length ≤ c ∧ c ≤ 9223372036854775807 ∧ ∀ j (hj : j < L.length), w.cell? ⟨g, j, none⟩ = some (.string (txt L[j])) := by
  rcases h.2 with ⟨_, h0⟩ | ⟨g, c, cur, rfl, hb, hg, h3, h4, h5, h6⟩
  · exact absurd (List.eq_nil_of_length_eq_zero h0) hL
  · refine ⟨g, c, rfl, hb, lt_of_block hg, h3, h4, fun j hj => ?_⟩
    have := World.ownsRow.cells h (g := g) rfl j (.string (txt L[j])) (by unfold strv; rw [List.getElem?_map, List.getElem?_eq_getElem hj]; rfl)
    rw [add_none0] at this
    exact this
theorem row_below {w w' : World} {base e size n : Nat} {v : Value} {xs : List Value} (h : w.ownsRow base e size v n xs) (hb : Below w.heap.size w w') : w'.ownsRow base e size v n xs := by
  rcases h with ⟨h1, h2⟩
  refine ⟨h1, ?_⟩
  rcases h2 with h2 | ⟨g, cap, cur, rfl, hg0, hg, h3⟩
  · exact .inl h2
  · exact .inr ⟨g, cap, cur, rfl, hg0, (hb.block g (lt_of_block hg)).trans hg, h3⟩
theorem RefAt.at {w : World} {q : Nat} {R : Nat → Prop} {rb cap : Nat} {V : Nat → Value} {st : Dk} (h : RefAt w q R rb cap V st) {i : Nat} (hi : i < st.S.length) {L : List Sec} (hL : L = st.S.getD i []) :
    ∃ g c, V i = .slice (some ⟨g, 0, none⟩) L.length c ∧ g < w.heap.size ∧ L.length ≤ c ∧ c ≤ 9223372036854775807 ∧ ∀ j (hj : j < L.length), w.cell? ⟨g, j, none⟩ = some (.string (txt L[j])) := by
  have e : st.S[i] = L := by rw [hL, List.getD_eq_getElem?_getD, List.getElem?_eq_getElem hi]; rfl
  obtain ⟨g, c, h1, h2, h3, h4, h5⟩ := h.piece i hi
  rw [e] at h1 h3
  simp only [e] at h5
  exact ⟨g, c, h1, h.lt g h2, h3, h4, h5⟩
/-- what a call of the reference leaves -/
def RefPost (q : Nat) (R : Nat → Prop) (w : World) (v : Value) (st : Dk) (e : Ending) (w' : World) : Prop :=
  e = .returned v ∧ ∃ R', Ref w' q R' st ∧ (∀ k, R' k → R k ∨ w.heap.size ≤ k) ∧ Touch (fun k => k = q) w w'

/-- behind set and the store -/
theorem ref_done {w0 w1 : World} {q : Nat} {R : Nat → Prop} {rb cap : Nat} {V : Nat → Value} {st : Dk} (h : RefAt w0 q R rb cap V st) (hb : Below w0.heap.size w0 w1) {i : Nat} (hi : i < st.S.length) {L : List Sec} (hL : L ≠ []) (h64 : ∀ s ∈ L, s.length = 64)
    {rb' cap' g c : Nat} (hn1 : w0.heap.size ≤ rb') (h1 : rb' < w1.heap.size) (h2 : st.S.length ≤ cap' ∧ cap' ≤ 9223372036854775807) (hcs : ∀ j, j < st.S.length → w1.cell? ⟨rb', j, none⟩ = some (if j = i then .slice (some ⟨g, 0, none⟩) L.length c else V j))
    (hn2 : w0.heap.size ≤ g) (hg : g < w1.heap.size) (hc : L.length ≤ c ∧ c ≤ 9223372036854775807) (hstr : ∀ j (hj : j < L.length), w1.cell? ⟨g, j, none⟩ = some (.string (txt L[j]))) :
    ∃ R', Ref (w1.setCell ⟨q, 0, none⟩ (.slice (some ⟨rb', 0, none⟩) st.S.length cap')) q R' ⟨putS st.S i L, st.calls, st.armed, st.down⟩ ∧ (∀ k, R' k → R k ∨ w0.heap.size ≤ k) ∧ Touch (fun k => k = q) w0 (w1.setCell ⟨q, 0, none⟩ (.slice (some ⟨rb', 0, none⟩) st.S.length cap')) := by
  have hq := lt_of_block h.blk
  refine ⟨_, ⟨_, _, _, ref_put (h.below hb) hi hL h64 h1 h2 hcs hg hc hstr (by omega) (by omega)⟩, fun k hk => ?_, (Touch.ofBelow _ hb).setCell (F := fun k => k = q) rfl _⟩
  rcases hk with hk | rfl | rfl
  · exact .inl hk
  · exact .inr hn1
  · exact .inr hn2

set_option maxHeartbeats 4000000 in
theorem rwrite_walk (q : Nat) (R : Nat → Prop) (st : Dk) (at' : Int) (s : ByteArray) (w : World) (h : Ref w q R st) (hp : (pend st.S at'.toNat).length ≤ 1000000000) :
    Calls Try.prog 33 #[.pointer (some ⟨q, 0, none⟩), .int .i64 at', .string s] w fun e w' => RefPost q R w (.int .i64 (writeD st at' s).1) (writeD st at' s).2 e w' := by
  have HH := Lib.hid h
  have hsame : RefPost q R w (.int .i64 (writeD st at' s).1) st (.returned (.int .i64 (writeD st at' s).1)) w := ⟨rfl, R, h, fun k hk => .inl hk, Touch.refl _ _⟩
  cases hdn : st.down with
  | true =>
    have hwd : writeD st at' s = (12, st) := by unfold writeD readyE; rw [if_pos hdn, if_pos (by omega)]
    rw [hwd] at hsame ⊢
    obtain ⟨rb, cap, V, hd⟩ := h
    have c3 := hd.c3
    rw [hdn] at c3
    have HS := Lib.hid hsame
    clear hd hwd hsame hp hdn
    go_enter Try.func33, Try.ntmps33
    go_wp2_with fail
    go_ret
    exact HS.out
  | false =>
    by_cases hr : at' < 0 ∨ (st.S.length : Int) ≤ at'
    · have hre : readyE st at' = 3 := by unfold readyE; rw [if_neg (by rw [hdn]; simp), if_pos hr]
      have hwd : writeD st at' s = (3, st) := by unfold writeD; rw [if_pos (by rw [hre]; omega), hre]
      rw [hwd] at hsame ⊢
      obtain ⟨rb, cap, V, hd⟩ := h
      have c3 := hd.c3
      rw [hdn] at c3
      have c0 := hd.c0
      obtain ⟨n, hn⟩ : ∃ n, n = st.S.length := ⟨_, rfl⟩
      have hn4 := hd.ok.2.1
      rw [← hn] at c0 hr hn4
      have HS := Lib.hid hsame
      clear hd hwd hsame hp hdn hn hre
      rcases hr with hr | hr
      · go_enter Try.func33, Try.ntmps33
        go_wp2_with fail
        go_ret
        exact HS.out
      · have h0 : ¬ at' < 0 := by omega
        go_enter Try.func33, Try.ntmps33
        go_wp2_with fail
        go_ret
        exact HS.out
    · obtain ⟨i, rfl⟩ := Int.eq_ofNat_of_zero_le (show 0 ≤ at' by omega)
      have h0 : readyE st i = 0 := by unfold readyE; rw [if_neg (by rw [hdn]; simp), if_neg hr]
      have hi : i < st.S.length := by omega
      obtain ⟨rb, cap, V, hd⟩ := h
      have c3 := hd.c3
      rw [hdn] at c3
      have c0 := hd.c0
      obtain ⟨n, hn⟩ : ∃ n, n = st.S.length := ⟨_, rfl⟩
      have hn4 := hd.ok.2.1
      rw [← hn] at c0 hn4
      have hni : (n : Int) ≤ 4096 := by omega
      have hin : (i : Int) < (n : Int) := by omega
      have hi0 : ¬ (i : Int) < 0 := by omega
      have hin2 : ¬ (n : Int) ≤ (i : Int) := by omega
      by_cases hb : (64 : Int) < (s.size : Int)
      · have hwd : writeD st i s = (4, st) := by unfold writeD; rw [if_neg (by simpa using h0), if_pos (by omega)]
        rw [hwd] at hsame ⊢
        have HS := Lib.hid hsame
        clear hd hwd hsame hp hdn hn hr h0 hi hn4
        go_enter Try.func33, Try.ntmps33
        go_wp2_with fail
        go_ret
        exact HS.out
      · have hs : s.size ≤ 64 := by omega
        have hcw := rcall_walk q R st w HH.out hdn
        cases hcd : (callD st).down with
        | true =>
          have hwd : writeD st i s = (12, callD st) := by unfold writeD; rw [if_neg (by simpa using h0), if_neg (by omega), if_pos hcd]
          rw [hwd]
          rw [hcd] at hcw
          have HCW := Lib.hid hcw
          clear hd hwd hsame hp hdn hn hr h0 hi hn4 hcw hcd hs
          go_enter Try.func33, Try.ntmps33
          go_wp2_with fail
          refine HCW.out.mono ?_
          rintro e w2 ⟨rfl, hd2, ht2⟩
          have HS := Lib.hid (show RefPost q R w (.int .i64 12) (callD st) (.returned (.int .i64 12)) w2 from ⟨rfl, R, hd2, fun k hk => .inl hk, ht2⟩)
          clear hd2 ht2
          go_wp2_with fail
          go_ret
          exact HS.out
        | false =>
          have hwd : writeD st i s = (0, ⟨pushS st.S i (fill s), (callD st).calls, (callD st).armed, (callD st).down⟩) := by
            unfold writeD; rw [if_neg (by simpa using h0), if_neg (by omega), if_neg (by rw [hcd]; simp)]; rfl
          rw [hwd]
          rw [hcd] at hcw
          have HCW := Lib.hid hcw; have HSZ := Lib.hid hs; have HP := Lib.hid hp; have HI := Lib.hid hi; have HN := Lib.hid hn
          clear hd hwd hsame hp hdn hr h0 hi hn4 hcw hcd hs hn
          go_enter Try.func33, Try.ntmps33
          go_wp2_with fail
          refine HCW.out.mono ?_
          rintro e w2 ⟨rfl, hd2, ht2⟩
          have HT2 := Lib.hid ht2
          clear ht2 HCW HH c0 c3
          obtain ⟨rb2, cap2, V2, hd⟩ := hd2
          have HD := Lib.hid hd
          clear hd
          go_upto_region 9 with fail
          -- what is read
          obtain ⟨i0, hi0', hz0, hz1, hz2⟩ := info_parts info_str
          have hi2 : i < st.S.length := HI.out
          obtain ⟨hLne, hL64⟩ : st.S.getD i [] ≠ [] ∧ ∀ s ∈ st.S.getD i [], s.length = 64 := getD_ok HD.out.ok hi2
          obtain ⟨L, hL⟩ : ∃ L, L = st.S.getD i [] := ⟨_, rfl⟩
          obtain ⟨g, c, hv, hgl, hlc, hcm, hstr⟩ := HD.out.at hi2 (L := L) hL
          have hpl : L.length = (pend st.S i).length + 1 := by
            have h1 := List.length_pos_iff.2 hLne
            unfold pend
            rw [List.length_tail, ← hL]
            rw [← hL] at h1
            omega
          rw [← hL] at hLne hL64
          obtain ⟨m, hm⟩ : ∃ m, m = L.length := ⟨_, rfl⟩
          have hmb : m ≤ 1000000001 := by have h1 := HP.out; simp only [Int.toNat_natCast] at h1; omega
          obtain ⟨C, hC⟩ : ∃ C : World → Prop, C = fun w9 => Below w2.heap.size w2 w9 := ⟨_, rfl⟩
          have hCof : ∀ w9, Below w2.heap.size w2 w9 → C w9 := fun w9 h => by rw [hC]; exact h
          have hCto : ∀ w9, C w9 → Below w2.heap.size w2 w9 := fun w9 h => by rw [hC] at h; exact h
          have hc0 : ∀ w9, C w9 → w9.cell? ⟨q, 0, none⟩ = some (.slice (some ⟨rb2, 0, none⟩) n cap2) := fun w9 h => by rw [HN.out]; exact (HD.out.below (hCto w9 h)).c0
          have hc1 : ∀ w9, C w9 → w9.cell? ⟨rb2, i, none⟩ = some (.slice (some ⟨g, 0, none⟩) m c) := fun w9 h => by
            rw [hm, ← hv]
            exact (HD.out.below (hCto w9 h)).cell i hi2
          have HC0 := Lib.hid hc0; have HC1 := Lib.hid hc1; have HCO := Lib.hid hCof; have HSTR := Lib.hid hstr; have HL := Lib.hid hL; have HM := Lib.hid hm; have HMB := Lib.hid hmb; have HGL := Lib.hid hgl; have HL6 := Lib.hid (And.intro hLne hL64); have HV := Lib.hid hv; have HLC := Lib.hid hlc
          have hC0 : C w2.drew := hCof _ (Below.refl _ _).drew
          have hB0 : Below w2.heap.size w2 w2.drew := (Below.refl _ _).drew
          clear hC hCof hCto hc0 hc1 hstr hL hm hmb hgl hLne hL64 hv hlc hcm hpl hi2
          refine wp_region_mixT C 24 [(0,true,true),(1,true,true),(2,true,true),(3,true,true),(4,true,true),(5,true,true),(7,true,true),(8,true,true),(9,true,true),(10,true,true),(11,true,true),(12,true,true),(13,true,true),(14,true,true),(16,true,true),(6,false,true),(15,false,true),(17,false,true),(18,false,true),(19,false,true),(20,true,true),(21,false,true),(22,true,true),(23,true,true),(24,false,false)] (by kernel_rfl) (by kernel_rfl) hC0 ?_
          generalize w2.drew = w3 at hB0 ⊢
          clear hC0
          simp only [List.filterMap_cons, List.filterMap_nil, List.getElem?_cons_zero, List.getElem?_cons_succ, Option.map_some]
          repeat (refine mixT_read (by rfl) ?_; apply Exists.intro; refine ⟨fun w9 hw9 => ?_, ?_⟩; (· have d1 := HC0.out w9 hw9; have d2 := HC1.out w9 hw9; go_simp; rfl); simp only [Act.put, List.setIfInBounds_toArray, List.set_cons_succ, List.set_cons_zero])
          -- the empty row
          refine mixT_step (by rfl) (fun K' hK => ?_)
          go_simp
          have rE := row_new w3 w2.heap.size 1 0 9 #[] hB0.size rfl (by unfold maxLen; omega)
          have hBE := hB0.alloc hB0.size (.cells #[] 9)
          have hsE : (w3.alloc (.cells #[] 9)).heap.size = w3.heap.size + 1 := by simp
          refine hK _ _ (HCO.out _ hBE) ?_
          clear hK K'
          try simp only [Act.put, List.setIfInBounds_toArray, List.set_cons_succ, List.set_cons_zero]
          obtain ⟨E, hE⟩ : ∃ E, E = w3.heap.size := ⟨_, rfl⟩
          rw [← hE] at rE hsE ⊢
          have hWE : w2.heap.size ≤ E := by rw [hE]; exact hB0.size
          generalize w3.alloc (.cells #[] 9) = wE at rE hBE hsE ⊢
          clear hE hB0
          -- what was there
          have hsrc : Src Try.prog 1 68 (.slice (some ⟨g, 0, none⟩) m c) m (strv L) wE := by
            rw [HM.out]
            exact src_strv Try.underlying68 g c L (fun j hj => (hBE.cell (p := ⟨g, j, none⟩) HGL.out).trans (HSTR.out j hj))
          refine mixT_step (by rfl) (fun K' hK => ?_)
          refine wp_append_at _ _ _ 68 68 rfl w2.heap.size 9 i0 (.string ⟨#[]⟩) 1 16 Try.underlying68 hi0' hz0 hz1 hz2 rfl (by decide) (.slice (some ⟨E, 0, none⟩) 0 0) 0 [] rfl rE _ m (strv L) rfl hsrc (by unfold maxLen; have := HMB.out; omega) (by have := HMB.out; omega) hBE.size ?_
          intro vP wP hrP hgP hpP
          have hBP : Below w2.heap.size w2 wP := hBE.grown hgP hBE.size (fun k hk => by cases hk; exact hWE)
          refine hK _ _ (HCO.out _ hBP) ?_
          clear hK K'
          simp only [Act.put, List.setIfInBounds_toArray, List.set_cons_succ, List.set_cons_zero]
          rw [List.nil_append, Nat.zero_add] at hrP
          clear hsrc rE hgP hpP hBE hsE hWE
          -- Fill
          refine mixT_step (by rfl) (fun K' hK => ?_)
          go_simp
          go_at_call 8
          refine (fill_walk s wP HSZ.out).mono ?_
          rintro e wF ⟨rfl, hbF⟩
          have hBF : Below w2.heap.size w2 wF := hBP.trans (hbF.mono hBP.size)
          have hrF := row_below hrP hbF
          refine hK _ _ (HCO.out _ hBF) ?_
          clear hK K' hBP hrP hbF
          try simp only [Act.put, List.setIfInBounds_toArray, List.set_cons_succ, List.set_cons_zero]
          obtain ⟨f, hf⟩ : ∃ f, f = fill s := ⟨_, rfl⟩
          rw [← hf]
          have HF := Lib.hid hf
          clear hf
          -- one more
          refine mixT_step (by rfl) (fun K' hK => ?_)
          go_simp
          have rB := row_new wF w2.heap.size 1 1 9 #[.string (txt f)] hBF.size rfl (by unfold maxLen; omega)
          have hBB := hBF.alloc hBF.size (.cells #[.string (txt f)] 9)
          have hrB := hrF.alloc (.cells #[.string (txt f)] 9)
          refine hK _ _ (HCO.out _ hBB) ?_
          clear hK K'
          try simp only [Act.put, List.setIfInBounds_toArray, List.set_cons_succ, List.set_cons_zero]
          obtain ⟨B, hB⟩ : ∃ B, B = wF.heap.size := ⟨_, rfl⟩
          rw [← hB] at rB ⊢
          generalize wF.alloc (.cells #[.string (txt f)] 9) = wB at rB hBB hrB ⊢
          clear hB hBF hrF
          refine mixT_step (by rfl) (fun K' hK => ?_)
          refine wp_append_at _ _ _ 68 68 rfl w2.heap.size 9 i0 (.string ⟨#[]⟩) 1 16 Try.underlying68 hi0' hz0 hz1 hz2 rfl (by decide) vP m (strv L) rfl hrB _ 1 [.string (txt f)] rfl (src_own _ Try.underlying68 rB (by intro u hu; rw [List.mem_singleton.1 hu]; rfl)) (by unfold maxLen; have := HMB.out; omega) (by have := HMB.out; omega) hBB.size ?_
          intro vQ wQ hrQ hgQ hpQ
          have hBQ : Below w2.heap.size w2 wQ := hBB.grown hgQ hBB.size (fun k hk => (hrB.lt k hk).1)
          refine hK _ _ (HCO.out _ hBQ) ?_
          clear hK K'
          simp only [Act.put, List.setIfInBounds_toArray, List.set_cons_succ, List.set_cons_zero]
          have hrL : wQ.ownsRow w2.heap.size 9 1 vQ (L ++ [f]).length (strv (L ++ [f])) := by
            rw [strv_append, List.length_append, ← HM.out]
            exact hrQ
          clear rB hrB hgQ hpQ hrQ hBB
          obtain ⟨g2, c2, rfl, hg2, hg2l, hc2, hc2m, hstr2⟩ := strv_open hrL (by simp)
          -- the piece, the new row
          obtain ⟨M, hM⟩ : ∃ M, M = L ++ [f] := ⟨_, rfl⟩
          rw [← hM] at hc2 hstr2 hrL ⊢
          have HG2 := Lib.hid (And.intro hg2 (And.intro hg2l (And.intro hc2 (And.intro hc2m hstr2)))); have HMM := Lib.hid hM
          clear hg2 hg2l hc2 hc2m hstr2 hrL hM
          refine mixT_read (by rfl) ?_
          apply Exists.intro
          refine ⟨fun w9 hw9 => ?_, ?_⟩
          · go_simp; rfl
          simp only [Act.put, List.setIfInBounds_toArray, List.set_cons_succ, List.set_cons_zero]
          refine mixT_step (by rfl) (fun K' hK => ?_)
          go_simp
          go_at_call 34
          have hdQ := HD.out.below hBQ
          have hone : ∀ j, j < n → (V2 j).oneCell' = true := fun j hj => by
            obtain ⟨g', c', e, _⟩ := HD.out.at (i := j) (show j < (callD st).S.length by rw [HN.out] at hj; exact hj) rfl
            rw [e]; rfl
          have hcells : ∀ j, j < n → wQ.cell? ⟨rb2, j, none⟩ = some (V2 j) := fun j hj => hdQ.cell j (show j < (callD st).S.length by rw [HN.out] at hj; exact hj)
          refine (rset_walk rb2 n cap2 i V2 (.slice (some ⟨g2, 0, none⟩) M.length c2) wQ (hdQ.lt rb2 hdQ.row.1) hcells hone rfl (by omega) (by omega)).mono ?_
          rintro e w4 ⟨rb3, cap3, rfl, hb4, k1, k2, k3, k4, k5⟩
          have hB4 : Below w2.heap.size w2 w4 := hBQ.trans (hb4.mono hBQ.size)
          refine hK _ _ (HCO.out _ hB4) ?_
          clear hK K' hone hcells
          try simp only [Act.put, List.setIfInBounds_toArray, List.set_cons_succ, List.set_cons_zero]
          repeat (refine mixT_read (by rfl) ?_; apply Exists.intro; refine ⟨fun w9 hw9 => ?_, ?_⟩; (· go_simp; rfl); simp only [Act.put, List.setIfInBounds_toArray, List.set_cons_succ, List.set_cons_zero])
          have hd4 := HD.out.below hB4
          have c0 := hd4.c0
          have f0 := hd4.fr 0
          obtain ⟨R', r1, r2, r3⟩ := ref_done HD.out hB4 (i := i) (show i < (callD st).S.length from HI.out) (L := M) (by rw [HMM.out]; simp) (fun t ht => by
            rw [HMM.out] at ht
            rcases List.mem_append.1 ht with h' | h'
            · exact HL6.out.2 t h'
            · rw [List.mem_singleton.1 h', HF.out]; exact fill_length s HSZ.out) (rb' := rb3) (cap' := cap3) (g := g2) (c := c2) (Nat.le_trans hBQ.size k1) k2 ⟨by have := HN.out; show st.S.length ≤ cap3; omega, k4⟩ (fun j hj => k5 j (by rw [HN.out]; exact hj)) HG2.out.1 (Nat.lt_of_lt_of_le HG2.out.2.1 hb4.size) ⟨HG2.out.2.2.1, HG2.out.2.2.2.1⟩
            (fun j hj => (hb4.cell (p := ⟨g2, j, none⟩) HG2.out.2.1).trans (HG2.out.2.2.2.2 j hj))
          have hfin : RefPost q R w (.int .i64 0) ⟨pushS st.S i (fill s), (callD st).calls, (callD st).armed, (callD st).down⟩ (.returned (.int .i64 0)) (w4.setCell ⟨q, 0, none⟩ (.slice (some ⟨rb3, 0, none⟩) n cap3)) := by
            have e1 : pushS st.S i (fill s) = putS (callD st).S i M := by rw [HMM.out, HL.out, HF.out]; rfl
            rw [e1, HN.out]
            exact ⟨rfl, R', r1, fun k hk => (r2 k hk).imp id (fun h => Nat.le_trans HT2.out.size h), HT2.out.trans r3⟩
          have HFIN := Lib.hid hfin
          clear hd4 r1 r2 r3 hfin hdQ hb4 k1 k2 k3 k4 k5 hBQ
          have hn' : (callD st).S.length = n := HN.out.symm
          rw [hn'] at c0
          clear hn'
          refine mixT_tail (by rfl) (fun K' hK => ?_)
          go_simp
          refine hK _ _ ?_
          clear hK K'
          try simp only [Act.put]
          refine mixT_nil (NoPanic.normal ?_)
          go_wp2_with fail
          go_ret
          exact HFIN.out
end Go.Proofs.Ytcabocppplokgaa
