/-
  Layer 3: the reference's set; a piece is set in its disk (plain).
-/
import Derived.Test.YtcabocppplokgaaRdkA
namespace Go.Proofs.Ytcabocppplokgaa
open Go.RowKit

theorem info_piece : (Try.prog.info? 70).map (fun i => (i.zero, i.size, i.bytes)) = some (some (.agg #[.slice none 0 0]), 1, 24) := by kernel_rfl
theorem info_piece1 : (Try.prog.info? 70).map (·.size) = some 1 := by kernel_rfl
theorem add_none0 (b k : Nat) : (⟨b, 0, none⟩ : Addr).add k = ⟨b, k, none⟩ := by unfold Addr.add; split <;> simp_all
/-- values that lie there, as a source -/
theorem src_vals {P : Program} {w : World} {tx e' : TypeId} (hk : P.underlying tx = some (.slice e')) (b n c : Nat) (V : Nat → Value) (hc : ∀ j, j < n → w.cell? ⟨b, j, none⟩ = some (V j)) (h1 : ∀ j, j < n → (V j).oneCell' = true) :
    Src P 1 tx (.slice (some ⟨b, 0, none⟩) n c) n ((List.range n).map V) w :=
  Src.ofSlice w hk ⟨b, 0, none⟩ n c _ (by simp) (fun j x hx => by
    rw [List.getElem?_map] at hx
    obtain ⟨k, hk, rfl⟩ := Option.map_eq_some_iff.1 hx
    obtain ⟨hj, rfl⟩ := List.getElem?_eq_some_iff.1 hk
    rw [List.getElem_range, add_none0]
    exact hc j (by simpa using hj)) (fun x hx => by
    obtain ⟨j, hj, rfl⟩ := List.mem_map.1 hx
    exact h1 j (List.mem_range.1 hj))
theorem set_get (cur : List Value) (n i : Nat) (V : Nat → Value) (v : Value) (hi : i < n) (hn : n ≤ cur.length) (ht : cur.take n = (List.range n).map V) (j : Nat) (hj : j < n) :
    (cur.take i ++ [v] ++ cur.drop (i + 1))[j]? = some (if j = i then v else V j) := by
  have hc : ∀ k, k < n → cur[k]? = some (V k) := fun k hk => by
    have : (cur.take n)[k]? = cur[k]? := List.getElem?_take_of_lt hk
    rw [← this, ht]
    simp [hk]
  have hl : (cur.take i).length = i := by rw [List.length_take]; omega
  rw [List.append_assoc]
  by_cases h1 : j < i
  · rw [List.getElem?_append_left (by omega), List.getElem?_take_of_lt h1, hc j hj, if_neg (by omega)]
  · rw [List.getElem?_append_right (by omega), hl]
    by_cases h2 : j = i
    · subst h2
      rw [Nat.sub_self, if_pos rfl]
      rfl
    · rw [if_neg h2, List.getElem?_append_right (by simp; omega), List.getElem?_drop]
      simp only [List.length_singleton]
      rw [show i + 1 + (j - i - 1) = j by omega]
      exact hc j hj
theorem ref_put {w1 : World} {q : Nat} {R : Nat → Prop} {rb cap : Nat} {V : Nat → Value} {st : Dk} (h : RefAt w1 q R rb cap V st) {i : Nat} (hi : i < st.S.length) {L : List Sec} (hL : L ≠ []) (h64 : ∀ s ∈ L, s.length = 64) {rb' cap' g c : Nat}
    (h1 : rb' < w1.heap.size) (h2 : st.S.length ≤ cap' ∧ cap' ≤ 9223372036854775807) (hcs : ∀ j, j < st.S.length → w1.cell? ⟨rb', j, none⟩ = some (if j = i then .slice (some ⟨g, 0, none⟩) L.length c else V j))
    (hg : g < w1.heap.size) (hc : L.length ≤ c ∧ c ≤ 9223372036854775807) (hstr : ∀ j (hj : j < L.length), w1.cell? ⟨g, j, none⟩ = some (.string (txt L[j]))) (hqr : rb' ≠ q) (hqg : g ≠ q) :
    RefAt (w1.setCell ⟨q, 0, none⟩ (.slice (some ⟨rb', 0, none⟩) st.S.length cap')) q (fun k => R k ∨ k = rb' ∨ k = g) rb' cap' (fun j => if j = i then .slice (some ⟨g, 0, none⟩) L.length c else V j) ⟨putS st.S i L, st.calls, st.armed, st.down⟩ := by
  have ht : Touch (fun k => k = q) w1 (w1.setCell ⟨q, 0, none⟩ (.slice (some ⟨rb', 0, none⟩) st.S.length cap')) := (Touch.refl _ _).setCell (F := fun k => k = q) rfl _
  have hlen : (putS st.S i L).length = st.S.length := putS_length _ _ _
  refine ⟨?_, ⟨.inr (.inl rfl), by show (putS st.S i L).length ≤ cap'; rw [hlen]; exact h2.1, h2.2⟩, fun j hj => ?_, fun j hj => ?_, ?_, fun k hk => ?_, secOk_put h.ok i hL h64, h.arm⟩
  · show _ = some (Obj.cells #[.slice (some ⟨rb', 0, none⟩) (putS st.S i L).length cap', _, _, _] _ _)
    rw [hlen]
    exact set_at h.blk _
  · have hj' : j < st.S.length := by rw [← hlen]; exact hj
    exact cell_touch (hcs j hj') ht h1 hqr
  · have hj' : j < st.S.length := by rw [← hlen]; exact hj
    have hj2 : j < (putS st.S i L).length := hj
    show ∃ g' c', (if j = i then Value.slice (some ⟨g, 0, none⟩) L.length c else V j) = .slice (some ⟨g', 0, none⟩) ((putS st.S i L)[j]'hj2).length c' ∧ (R g' ∨ g' = rb' ∨ g' = g) ∧ ((putS st.S i L)[j]'hj2).length ≤ c' ∧ c' ≤ 9223372036854775807 ∧ ∀ k (hk : k < ((putS st.S i L)[j]'hj2).length), (w1.setCell ⟨q, 0, none⟩ (.slice (some ⟨rb', 0, none⟩) st.S.length cap')).cell? ⟨g', k, none⟩ = some (.string (txt (((putS st.S i L)[j]'hj2)[k])))
    by_cases e : j = i
    · subst e
      have hg' : (putS st.S j L)[j]'hj2 = L := List.getElem_set_self _
      refine ⟨g, c, by rw [if_pos rfl, hg'], .inr (.inr rfl), by rw [hg']; exact hc.1, hc.2, fun k hk => ?_⟩
      simp only [hg'] at hk ⊢
      exact cell_touch (hstr k hk) ht hg hqg
    · have hg' : (putS st.S i L)[j]'hj2 = st.S[j] := List.getElem_set_ne (fun h => e h.symm) _
      obtain ⟨g', c', k1, k2, k3, k4, k5⟩ := h.piece j hj'
      refine ⟨g', c', by rw [if_neg e, hg']; exact k1, .inl k2, by rw [hg']; exact k3, k4, fun k hk => ?_⟩
      simp only [hg'] at hk ⊢
      exact cell_touch (k5 k hk) ht (h.lt g' k2) (fun e => h.far (by rw [← e]; exact k2))
  · rintro (hk | hk | hk)
    · exact h.far hk
    · exact hqr hk.symm
    · exact hqg hk.symm
  · have hs := ht.size
    rcases hk with hk | hk | hk
    · have := h.lt k hk; omega
    · omega
    · omega

/-- what set gives -/
def SetPost (n : Nat) (V : Nat → Value) (i : Nat) (v : Value) (w : World) (e : Ending) (w' : World) : Prop :=
  ∃ rb cap, e = .returned (.slice (some ⟨rb, 0, none⟩) n cap) ∧ Below w.heap.size w w' ∧ w.heap.size ≤ rb ∧ rb < w'.heap.size ∧ n ≤ cap ∧ cap ≤ 9223372036854775807 ∧ ∀ j, j < n → w'.cell? ⟨rb, j, none⟩ = some (if j = i then v else V j)

set_option maxHeartbeats 2000000 in
theorem rset_walk (b n c i : Nat) (V : Nat → Value) (v : Value) (w : World) (hb : b < w.heap.size) (hc : ∀ j, j < n → w.cell? ⟨b, j, none⟩ = some (V j)) (h1 : ∀ j, j < n → (V j).oneCell' = true) (hv : v.oneCell' = true) (hi : i < n) (hn : n ≤ 4096) :
    Calls Try.prog 34 #[.slice (some ⟨b, 0, none⟩) n c, .int .i64 i, .agg #[v]] w fun e w' => SetPost n V i v w e w' := by
  obtain ⟨i0, hi0, hz0, hz1, hz2⟩ := info_parts info_piece
  obtain ⟨W, hW⟩ : ∃ W, W = w.alloc (.cells #[v] 70) := ⟨_, rfl⟩
  obtain ⟨kb, hkb⟩ : ∃ kb, kb = w.heap.size := ⟨_, rfl⟩
  have hb1 : Below w.heap.size w W := by rw [hW]; exact (Below.refl w.heap.size w).alloc (Nat.le_refl _) _
  have g1 : W.heap[kb]? = some (.cells #[v] 70 (0, 0)) := by rw [hW, hkb]; exact heap_alloc_top _ _
  have hW1 : W.heap.size = w.heap.size + 1 := by rw [hW]; simp
  have rE := row_new W (kb + 1) 1 0 70 #[] (by omega) rfl (by unfold maxLen; omega)
  have hB2 : Below w.heap.size w (W.alloc (.cells #[] 70)) := hb1.alloc hb1.size _
  have hsrc : Src Try.prog 1 47 (.slice (some ⟨b, 0, none⟩) n c) n ((List.range n).map V) (W.alloc (.cells #[] 70)) :=
    src_vals Try.underlying47 b n c V (fun j hj => (hB2.cell (p := ⟨b, j, none⟩) hb).trans (hc j hj)) h1
  have g2 : (W.alloc (.cells #[] 70)).heap[kb]? = some (.cells #[v] 70 (0, 0)) := by rw [heap_alloc_lt _ _ _ (lt_of_block g1)]; exact g1
  have HW := Lib.hid hW; have HKB := Lib.hid hkb; have HB2 := Lib.hid hB2; have HE := Lib.hid rE; have HS := Lib.hid hsrc; have G2 := Lib.hid g2; have HI := Lib.hid hi; have HW1 := Lib.hid hW1; have HN := Lib.hid hn
  have hii : (i : Int) < (n : Int) := by omega
  have hni : (n : Int) ≤ 4096 := by omega
  clear hW hkb hb1 g1 hW1 rE hB2 hsrc g2 hc h1 hb hi hn
  go_enter Try.func34, Try.ntmps34
  go_upto_region 1 with fail
  refine wp_world HW.out ?_
  rw [← HKB.out]
  go_upto_region 2 with (refine wpList_append_at _ rfl _ _ 47 47 rfl (kb + 1) 70 i0 (.agg #[.slice none 0 0]) 1 24 Try.underlying47 hi0 hz0 hz1 hz2 rfl (by decide) _ 0 [] rfl HE.out _ n ((List.range n).map V) rfl HS.out (by unfold maxLen; have := HN.out; omega) (by have := HN.out; omega) (by have := HW1.out; have := HKB.out; simp; omega) ?_; intro v' w3 hr hg hp)
  rw [List.nil_append, Nat.zero_add] at hr
  rcases hr.2 with ⟨_, h0⟩ | ⟨rb, cap', cur, rfl, hrb, hg', h3, h4, h5, h6⟩
  · have := HI.out; omega
  have hWs : (W.alloc (.cells #[] 70)).heap.size = W.heap.size + 1 := by simp
  have hkne : kb ≠ W.heap.size := by have h1 := HW1.out; have h2 := HKB.out; omega
  have g3 : w3.heap[kb]? = some (.cells #[v] 70 (0, 0)) := (hg.block kb (lt_of_block G2.out) (fun e => hkne (Option.some.inj e))).trans G2.out
  have hB3 : Below w.heap.size w w3 := HB2.out.grown hg HB2.out.size (fun k hk => by have hk' : W.heap.size = k := Option.some.inj hk; have h1 := HW1.out; omega)
  have hrk : rb ≠ kb := by omega
  rw [Nat.mul_one] at h5 h6
  have hget := set_get cur.toList n i V v HI.out (by simp; omega) h6
  have HG := Lib.hid hg'; have HB3 := Lib.hid hB3; have HGET := Lib.hid hget; have HRB := Lib.hid hrb; have HC := Lib.hid (And.intro h3 (And.intro h4 h5)); have G3 := Lib.hid g3
  clear hr hg hp h3 h4 h5 h6 hg' hB3 hget hrb g3 hkne hWs hrk
  go_upto_region 3 with (first
    | (refine wpList_row 70 _ rfl kb rfl (by rfl) 70 #[v] (0, 0) _ G3.out Try.underlying70 rfl info_piece1 ?_)
    | (refine wpList_store_cells rfl 70 _ _ rfl rb i [v] rfl rfl 70 cur HG.out info_piece1 (by have h1 := HC.out; have h2 := HI.out; simp; omega) (by intro u hu; rw [List.mem_singleton.1 hu]; exact hv) ?_))
  have hrow := setRow_heap w3 rb cur (cur.toList.take i ++ [v] ++ cur.toList.drop (i + [v].length)).toArray 70 (0, 0) HG.out
  have hcell : ∀ j, j < n → (w3.setRow rb (cur.toList.take i ++ [v] ++ cur.toList.drop (i + [v].length)).toArray).cell? ⟨rb, j, none⟩ = some (if j = i then v else V j) := fun j hj => by
    rw [cell_of_row _ rb j _ _ _ hrow]
    have := HGET.out j hj
    simpa using this
  have hB4 : Below w.heap.size w (w3.setRow rb (cur.toList.take i ++ [v] ++ cur.toList.drop (i + [v].length)).toArray) :=
    (touch_setRow (F := fun k => k = rb) w3 rb _ rfl).below HB3.out HB3.out.size (fun k hk => by rw [hk]; have h1 := HRB.out; have h2 := HKB.out; omega)
  have hlt := lt_of_block hrow
  generalize w3.setRow rb (cur.toList.take i ++ [v] ++ cur.toList.drop (i + [v].length)).toArray = w4 at hcell hB4 hlt ⊢
  have HF := Lib.hid (show SetPost n V i v w (.returned (.slice (some ⟨rb, 0, none⟩) n cap')) w4 from ⟨rb, cap', rfl, hB4, by have h1 := HRB.out; have h2 := HKB.out; omega, hlt, HC.out.1, by have := HC.out.2.1; unfold maxLen at this; omega, hcell⟩)
  clear hrow hcell hB4 hlt
  go_wp2_with fail
  go_ret
  exact HF.out
end Go.Proofs.Ytcabocppplokgaa
