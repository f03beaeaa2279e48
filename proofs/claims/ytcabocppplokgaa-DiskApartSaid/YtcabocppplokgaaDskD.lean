/-
  Layer 3: last, Read.
-/
import Derived.Test.YtcabocppplokgaaDskC
import Derived.Test.YtcabocppplokgaaQuiet
namespace Go.Proofs.Ytcabocppplokgaa
open Go.RowKit

theorem info_sec1 : (Try.prog.info? 65).map (·.size) = some 64 := by kernel_rfl
/-- the last that was written -/
def lastS (S : List (List Sec)) (i : Nat) : Sec := (S.getD i []).getLastD []
theorem last_none {S : List (List Sec)} {i : Nat} (h : pend S i = []) (hi : i < S.length) (ok : secOk S) : lastS S i = (safes S)[i]'(by rw [safes_length]; exact hi) := by
  have hne := (ok.2.2 S[i] (List.getElem_mem hi)).1
  unfold pend at h
  unfold lastS safes
  rw [List.getD_eq_getElem?_getD, List.getElem?_eq_getElem hi] at h ⊢
  simp only [Option.getD_some, List.getElem_map] at h ⊢
  cases hL : S[i] with
  | nil => exact absurd hL hne
  | cons a r => rw [hL] at h; simp at h; subst h; rfl
theorem last_some {S : List (List Sec)} {i : Nat} (h : pend S i ≠ []) : (pend S i)[(pend S i).length - 1]? = some (lastS S i) := by
  have hi := pend_lt h
  unfold pend lastS at *
  rw [List.getD_eq_getElem?_getD, List.getElem?_eq_getElem hi] at h ⊢
  simp only [Option.getD_some] at h ⊢
  obtain ⟨L, hL⟩ : ∃ L, L = S[i] := ⟨_, rfl⟩
  rw [← hL] at h ⊢
  cases L with
  | nil => exact absurd rfl h
  | cons a r =>
    have h : r ≠ [] := h
    show r[r.length - 1]? = some ((a :: r).getLastD [])
    rw [← List.getLast?_eq_getElem?, List.getLast?_eq_some_getLast h, List.getLastD_cons, List.getLastD_eq_getLast?, List.getLast?_eq_some_getLast h]
    rfl
theorem last_len {S : List (List Sec)} {i : Nat} (hi : i < S.length) (ok : secOk S) : (lastS S i).length = 64 := by
  by_cases h : pend S i = []
  · rw [last_none h hi ok]
    exact safes_sec ok _ (List.getElem_mem _)
  · exact pend_sec ok i _ (List.mem_of_getElem? (last_some h))

theorem wp_world {P : Program} {c : Code} {Q : Exit → Act → World → Prop} {a : Act} {w W : World} (h : W = w) (hg : c.wp P Q a W) : c.wp P Q a w := h ▸ hg
theorem look_now {w : World} {p sb mb cs : Nat} {V : Nat → Value} {st : Dk} (h : DiskAt w p sb mb cs V st) (i : Nat) (hi : i ≤ 4096) :
    (Instr.lookup 59 (.map (some mb)) (.int .i64 i) false).run Try.prog w = .ok (if pend st.S i ≠ [] then V i else .slice none 0 0) w := by
  have hz : (zeroValue 58).run Try.prog w = .ok (.slice none 0 0) w := by kernel_rfl
  have hk := Go.Maps.keyOf_int_mk (P := Try.prog) (k := 3) (q := .i64) Try.underlying3 (a := (i : Int)) (WalkArith.wf_i64 (by omega))
  rw [h.map.look int_key Try.underlying59 hz hk]
  congr 1
  unfold nowF
  by_cases hp : pend st.S i ≠ []
  · rw [if_pos hp]
    simp only [Int.toNat_natCast]
    rw [if_pos ⟨Int.natCast_nonneg _, hp⟩]
    rfl
  · rw [if_neg hp]
    simp only [Int.toNat_natCast]
    rw [if_neg (fun h => hp h.2)]
    rfl

set_option maxHeartbeats 1000000 in
theorem last_walk (p : Nat) (F : Nat → Prop) (st : Dk) (i : Nat) (w : World) (h : Disk w p F st) (hi : i < st.S.length) :
    Calls Try.prog 29 #[.pointer (some ⟨p, 0, none⟩), .int .i64 i] w fun e w' => e = .returned (.agg (bv (lastS st.S i)).toArray) ∧ Below w.heap.size w w' := by
  obtain ⟨sb, mb, cs, V, hd, hF⟩ := h
  obtain ⟨W, hW⟩ : ∃ W, W = w.alloc (.cells (List.replicate 64 (Value.int .u8 0)).toArray 65) := ⟨_, rfl⟩
  have hb1 : Below w.heap.size w W := by rw [hW]; exact (Below.refl w.heap.size w).alloc (Nat.le_refl _) _
  have g1 : W.heap[w.heap.size]? = some (.cells (List.replicate 64 (Value.int .u8 0)).toArray 65 (0, 0)) := by rw [hW]; exact heap_alloc_top _ _
  obtain ⟨x, hx⟩ : ∃ x, x = w.heap.size := ⟨_, rfl⟩
  have hd1 := hd.touch (Touch.ofBelow (fun _ => False) hb1) (fun _ _ hf => hf)
  have hlen := last_len hi hd.ok
  have hnx := hd.ok.2.1
  have hlk := look_now hd1 i (by omega)
  have c1 := hd1.c1
  have c0 := hd1.c0
  obtain ⟨s, hs⟩ : ∃ s, s = lastS st.S i := ⟨_, rfl⟩
  have hbs : (bv s).length = 64 := by rw [hs, bv_length]; exact hlen
  have hload : pend st.S i = [] → ∀ j u, (bv s)[j]? = some u → W.cell? ⟨sb, i * 64 + j, none⟩ = some u := fun hp j u hu => by
    refine hd1.safe.cell (safes_sec hd.ok) i (by rw [safes_length]; exact hi) j u ?_
    rw [← last_none hp hi hd.ok, ← hs]
    exact hu
  have hload2 : ∀ g n cap, V i = .slice (some ⟨g, 0, none⟩) n cap → pend st.S i ≠ [] → ∀ j u, (bv s)[j]? = some u → W.cell? ⟨g, ((pend st.S i).length - 1) * 64 + j, none⟩ = some u := fun g n cap hv hp j u hu => by
    have hr := hd1.rows i hp
    rw [hv] at hr
    have hpos := List.length_pos_iff.2 hp
    have hls := last_some hp
    refine hr.cell (pend_sec hd.ok i) ((pend st.S i).length - 1) (by omega) j u ?_
    rw [List.getElem?_eq_getElem (by omega)] at hls
    rw [Option.some.inj hls, ← hs]
    exact hu
  have hopen : pend st.S i ≠ [] → ∃ g cap, V i = .slice (some ⟨g, 0, none⟩) (pend st.S i).length cap ∧ cap ≤ 9223372036854775807 ∧ (pend st.S i).length ≤ cap := fun hp => by
    obtain ⟨g, cap, cur, hv, _, h3, h4, _⟩ := (hd1.rows i hp).open hp
    exact ⟨g, cap, hv, h4, h3⟩
  obtain ⟨S, calls, armed, down⟩ := st
  rw [← hs]
  have HB1 := Lib.hid hb1; have HL := Lib.hid hload; have HL2 := Lib.hid hload2; have HO := Lib.hid hopen; have HBS := Lib.hid hbs; have HX := Lib.hid hx; have HW := Lib.hid hW; have HLK := Lib.hid hlk; have HC0 := Lib.hid c0; have HC1 := Lib.hid c1
  rw [← hx] at g1
  have G1 := Lib.hid g1
  clear hd hF hb1 hd1 hs hlen hload hload2 hopen hbs hx hW hlk g1 c0 c1
  go_enter Try.func29, Try.ntmps29
  go_upto_region 1 with fail
  refine wp_world HW.out ?_
  rw [← HX.out]
  have c1 := HC1.out
  have hlk := HLK.out
  by_cases hp : pend S i = []
  · have hlk2 : (Instr.lookup 59 (.map (some mb)) (.int .i64 i) false).run Try.prog W = .ok (.slice none 0 0) W := by
      rw [if_neg (fun h => h hp)] at hlk
      exact hlk
    have HP := Lib.hid hp
    have c0 := HC0.out
    have HIX : i < S.length := hi
    have HI2 : (i : Int) ≤ 4096 := by have : S.length ≤ 4096 := hnx; omega
    obtain ⟨n, hn⟩ : ∃ n, n = S.length := ⟨_, rfl⟩
    rw [← hn] at HIX
    have c0' : W.cell? ⟨p, 0, none⟩ = some (.slice (some ⟨sb, 0, none⟩) n cs) := by rw [hn]; exact c0
    clear hlk hp c0 hn hi hnx HLK HC0 HC1
    go_wp2_with (first
      | (refine wpList_cells 65 _ rfl sb (i * 64) rfl rfl (bv s) _ (HL.out HP.out) Try.underlying65 rfl (by rw [HBS.out]; exact info_sec1) ?_)
      | (refine wpList_store_row rfl 65 _ _ rfl x (bv s).toArray rfl rfl 65 _ G1.out (by rw [List.size_toArray, HBS.out]; exact info_sec1) (by simp [HBS.out]) (by rw [List.all_toArray]; exact List.all_eq_true.2 (bv_one s)) ?_))
    have hblk := setRow_heap W x _ (bv s).toArray 65 (0, 0) G1.out
    exact bodyPost_ret (v := .agg (bv s).toArray) (results_cell_row rfl _ _ x 65 (bv s).toArray (0, 0) _ rfl hblk Try.underlying65 rfl (by rw [List.size_toArray, HBS.out]; exact info_sec1)) rfl ⟨rfl, (touch_setRow (F := fun k => k = x) W x _ rfl).below HB1.out HB1.out.size (fun k hk => by rw [hk, HX.out]; exact Nat.le_refl _)⟩
  · obtain ⟨g, cap, hv, hcap, hmc⟩ := HO.out hp
    have hl2 := HL2.out g _ cap hv hp
    have hlk2 : (Instr.lookup 59 (.map (some mb)) (.int .i64 i) false).run Try.prog W = .ok (.slice (some ⟨g, 0, none⟩) (pend S i).length cap) W := by
      rw [if_pos hp, hv] at hlk
      exact hlk
    have hpos : 0 < (pend S i).length := List.length_pos_iff.2 hp
    obtain ⟨m, hm⟩ : ∃ m, m = (pend S i).length := ⟨_, rfl⟩
    rw [← hm] at hl2 hlk2 hpos hmc
    have hposi : (0 : Int) < (m : Int) := by omega
    have hcapi : (m : Int) ≤ 9223372036854775807 := by omega
    have HL3 := Lib.hid hl2
    clear hlk hp hv hm hi hnx hl2 hcap hmc HLK HC0 HC1 HL HL2 HO
    go_wp2_with (first
      | (refine wpList_cells 65 _ rfl g ((m - 1) * 64) rfl rfl (bv s) _ HL3.out Try.underlying65 rfl (by rw [HBS.out]; exact info_sec1) ?_)
      | (refine wpList_store_row rfl 65 _ _ rfl x (bv s).toArray rfl rfl 65 _ G1.out (by rw [List.size_toArray, HBS.out]; exact info_sec1) (by simp [HBS.out]) (by rw [List.all_toArray]; exact List.all_eq_true.2 (bv_one s)) ?_))
    have hblk := setRow_heap W x _ (bv s).toArray 65 (0, 0) G1.out
    exact bodyPost_ret (v := .agg (bv s).toArray) (results_cell_row rfl _ _ x 65 (bv s).toArray (0, 0) _ rfl hblk Try.underlying65 rfl (by rw [List.size_toArray, HBS.out]; exact info_sec1)) rfl ⟨rfl, (touch_setRow (F := fun k => k = x) W x _ rfl).below HB1.out HB1.out.size (fun k hk => by rw [hk, HX.out]; exact Nat.le_refl _)⟩

theorem string_of_cells (w : World) (b cap : Nat) (l : List UInt8) (hc : ∀ i, i < l.length → w.cell? ⟨b, i, none⟩ = some (.int .u8 (l.getD i 0).toNat)) :
    (convert 40 9 (.slice (some ⟨b, 0, none⟩) l.length cap)).run Try.prog w = .ok (.string ⟨l.toArray⟩) w := by
  have h := run_convert_bytes_arg (P := Try.prog) w 40 5 Try.underlying40 Try.underlying5 b 0 l.length cap (l.map fun x => (x.toNat : Int)) (by simp) (fun i hi => by
    rw [Nat.zero_add, hc i hi]
    simp [List.getD_eq_getElem?_getD, List.getElem?_eq_getElem hi]) 9 Try.underlying9
  rw [h]
  congr 2
  apply ByteArray.ext
  apply Array.toList_inj.1
  rw [strOfNums_data, List.map_map]
  show _ = l
  conv => rhs; rw [← List.map_id l]
  apply List.map_congr_left
  intro x _
  simp

/-- what Read answers -/
def readD (st : Dk) (at' : Int) : ByteArray × Int := if readyE st at' = 0 then (⟨(lastS st.S at'.toNat).toArray⟩, 0) else (⟨#[]⟩, readyE st at')
theorem ready_zero {st : Dk} {at' : Int} (h : readyE st at' = 0) : st.down = false ∧ 0 ≤ at' ∧ at'.toNat < st.S.length := by
  unfold readyE at h
  by_cases h1 : st.down = true
  · rw [if_pos h1] at h; simp at h
  · rw [if_neg h1] at h
    by_cases h2 : at' < 0 ∨ (st.S.length : Int) ≤ at'
    · rw [if_pos h2] at h; simp at h
    · refine ⟨by simpa using h1, ?_, ?_⟩ <;> omega
set_option maxHeartbeats 1000000 in
theorem read_walk (p : Nat) (F : Nat → Prop) (st : Dk) (at' : Int) (w : World) (h : Disk w p F st) :
    Calls Try.prog 10 #[.pointer (some ⟨p, 0, none⟩), .int .i64 at'] w fun e w' => e = .returned (.tuple #[.string (readD st at').1, .int .i64 (readD st at').2]) ∧ Below w.heap.size w w' := by
  have hrw := ready_walk p F st at' w h
  by_cases h0 : readyE st at' = 0
  · obtain ⟨_, h1, h2⟩ := ready_zero h0
    obtain ⟨i, rfl⟩ := Int.eq_ofNat_of_zero_le h1
    rw [Int.toNat_natCast] at h2
    have hlw := last_walk p F st i w h h2
    have hlen : (lastS st.S i).length = 64 := by
      obtain ⟨sb, mb, cs, V, hd, hF⟩ := h
      exact last_len h2 hd.ok
    have hrd : readD st i = (⟨(lastS st.S i).toArray⟩, 0) := by unfold readD; rw [if_pos h0]; rfl
    rw [h0] at hrw
    obtain ⟨s, hs⟩ : ∃ s, s = lastS st.S i := ⟨_, rfl⟩
    rw [← hs] at hlw hlen hrd
    rw [hrd]
    have HRW := Lib.hid hrw; have HLW := Lib.hid hlw; have HLEN := Lib.hid hlen
    have hbs : (bv s).length = 64 := by rw [bv_length]; exact hlen
    have HBS := Lib.hid hbs
    clear h h0 h1 h2 hrw hlw hlen hrd hs hbs
    go_enter Try.func10, Try.ntmps10
    go_wp2_with fail
    refine HRW.out.mono ?_
    rintro e w1 ⟨rfl, rfl⟩
    go_wp2_with fail
    refine HLW.out.mono ?_
    rintro e w2 ⟨rfl, hb2⟩
    have HB2 := Lib.hid hb2
    clear hb2 HRW HLW
    go_upto_region 5 with (refine wpList_store_row rfl 65 _ _ rfl w2.heap.size (bv s).toArray rfl rfl 65 _ (heap_alloc_top w2 _) (by rw [List.size_toArray, HBS.out]; exact info_sec1) (by simp [HBS.out]) (by rw [List.all_toArray]; exact List.all_eq_true.2 (bv_one s)) ?_)
    obtain ⟨x, hx⟩ : ∃ x, x = w2.heap.size := ⟨_, rfl⟩
    rw [← hx]
    obtain ⟨W, hW⟩ : ∃ W, W = (w2.alloc (.cells (List.replicate 64 (Value.int .u8 0)).toArray 65)).setRow x (bv s).toArray := ⟨_, rfl⟩
    have hblk : W.heap[x]? = some (.cells (bv s).toArray 65 (0, 0)) := by
      rw [hW]
      exact setRow_heap _ x _ _ _ _ (by rw [hx]; exact heap_alloc_top w2 _)
    have hbw : Below w1.heap.size w1 W := by
      rw [hW]
      exact (touch_setRow (F := fun k => k = x) _ x _ rfl).below (HB2.out.alloc HB2.out.size _) (by have := HB2.out.size; simp; omega) (fun k hk => by rw [hk, hx]; exact HB2.out.size)
    have hstr : (convert 40 9 (.slice (some ⟨x, 0, none⟩) 64 64)).run Try.prog W = .ok (.string ⟨s.toArray⟩) W := by
      have := string_of_cells W x 64 s (fun j hj => by
        rw [cell_of_row W x j _ _ _ hblk]
        simp [bv, List.getD_eq_getElem?_getD, List.getElem?_eq_getElem hj])
      rw [HLEN.out] at this
      exact this
    have HW := Lib.hid hW; have HBW := Lib.hid hbw
    clear hW hbw hblk hx HB2
    refine wp_world HW.out ?_
    clear HW
    go_wp2_with fail
    go_ret2
    exact ⟨rfl, HBW.out⟩
  · have hrd : readD st at' = (⟨#[]⟩, readyE st at') := by unfold readD; rw [if_neg h0]
    rw [hrd]
    obtain ⟨r, hr⟩ : ∃ r, r = readyE st at' := ⟨_, rfl⟩
    rw [← hr] at hrw h0 ⊢
    have hz : (r == 0) = false := by rw [beq_eq_false_iff_ne]; exact h0
    have HRW := Lib.hid hrw
    clear h hrw hr hrd h0
    go_enter Try.func10, Try.ntmps10
    go_wp2_with fail
    refine HRW.out.mono ?_
    rintro e w1 ⟨rfl, rfl⟩
    go_wp2_with fail
    go_ret2
    exact ⟨rfl, Below.refl _ _⟩
end Go.Proofs.Ytcabocppplokgaa
