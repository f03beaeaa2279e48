/-
  Layer 3: Dirty.
-/
import Derived.Test.YtcabocppplokgaaDskF
import Derived.Deep.LoopGhost
import Derived.WalkMore
namespace Go.Proofs.Ytcabocppplokgaa
open Go.RowKit

theorem info_int : (Try.prog.info? 3).map (fun i => (i.zero, i.size, i.bytes)) = some (some (.int .i64 0), 1, 8) := by kernel_rfl
/-- numbers as cells -/
def iv (l : List Nat) : List Value := l.map fun i => Value.int .i64 (i : Nat)
theorem iv_append (a b : List Nat) : iv (a ++ b) = iv a ++ iv b := by simp [iv]
theorem iv_length (l : List Nat) : (iv l).length = l.length := by simp [iv]
/-- a slice of numbers of our own -/
def IntRow (w : World) (base : Nat) (v : Value) (l : List Nat) : Prop := w.ownsRow base 3 1 v l.length (iv l)
theorem IntRow.open {w : World} {base : Nat} {v : Value} {l : List Nat} (h : IntRow w base v l) : ∃ ad cap, v = .slice ad l.length cap ∧ l.length ≤ cap ∧ cap ≤ 9223372036854775807 ∧ (l = [] ∨ ∃ g, ad = some ⟨g, 0, none⟩ ∧ base ≤ g ∧ g < w.heap.size ∧ ∀ i (hi : i < l.length), w.cell? ⟨g, i, none⟩ = some (.int .i64 (l[i] : Nat))) := by
  rcases h.2 with ⟨rfl, h2⟩ | ⟨g, cap, cur, rfl, hb, hg, h3, h4, h5, h6⟩
  · exact ⟨none, 0, by rw [h2], by omega, by omega, .inl (List.eq_nil_of_length_eq_zero h2)⟩
  · refine ⟨some ⟨g, 0, none⟩, cap, rfl, h3, h4, .inr ⟨g, rfl, hb, lt_of_block hg, fun i hi => ?_⟩⟩
    have := World.ownsRow.cells h (g := g) rfl i (.int .i64 (l[i] : Nat)) (by simp [iv, List.getElem?_eq_getElem hi])
    have e : (⟨g, 0, none⟩ : Addr).add i = ⟨g, i, none⟩ := by unfold Addr.add; split <;> simp_all
    rw [e] at this
    exact this
/-- the first ones of those that have pending ones -/
def dirtTo (S : List (List Sec)) (k : Nat) : List Nat := (List.range k).filter fun i => decide (pend S i ≠ [])
theorem dirtTo_all (S : List (List Sec)) : dirtTo S S.length = dirt S := rfl
theorem dirtTo_succ (S : List (List Sec)) (k : Nat) : dirtTo S (k + 1) = dirtTo S k ++ (if pend S k ≠ [] then [k] else []) := by
  unfold dirtTo
  rw [List.range_succ, List.filter_append]
  congr 1
  by_cases h : pend S k ≠ []
  · rw [if_pos h]; simp [h]
  · rw [if_neg h]; simp at h; simp [h]
theorem dirtTo_skip (S : List (List Sec)) (k : Nat) : ∀ j, k ≤ j → (∀ i, k ≤ i → i < j → pend S i = []) → dirtTo S j = dirtTo S k := by
  intro j hj
  induction j with
  | zero => intro _; rw [show k = 0 by omega]
  | succ j ih =>
    intro h
    by_cases e : k = j + 1
    · rw [e]
    · rw [dirtTo_succ, if_neg (by rw [h j (by omega) (by omega)]; simp), List.append_nil]
      exact ih (by omega) (fun i h1 h2 => h i h1 (by omega))
theorem dirtTo_le (S : List (List Sec)) : ∀ (d k : Nat), (dirtTo S k).length ≤ (dirtTo S (k + d)).length ∧ ((dirtTo S k).length = (dirtTo S (k + d)).length → dirtTo S k = dirtTo S (k + d))
  | 0, k => ⟨Nat.le_refl _, fun _ => rfl⟩
  | d + 1, k => by
    obtain ⟨h1, h2⟩ := dirtTo_le S d k
    rw [← Nat.add_assoc, dirtTo_succ, List.length_append]
    by_cases h : pend S (k + d) ≠ []
    · rw [if_pos h]
      refine ⟨by omega, fun e => ?_⟩
      simp at e
      omega
    · rw [if_neg h]
      refine ⟨by simpa using h1, fun e => ?_⟩
      rw [List.append_nil]
      exact h2 (by simpa using e)
theorem dirtTo_done (S : List (List Sec)) (k : Nat) (hk : k ≤ S.length) (h : ¬ (dirtTo S k).length < (dirt S).length) : dirtTo S k = dirt S := by
  have := dirtTo_le S (S.length - k) k
  rw [show k + (S.length - k) = S.length by omega, dirtTo_all] at this
  exact this.2 (by omega)
theorem dirtTo_len (S : List (List Sec)) (k : Nat) : (dirtTo S k).length ≤ k := by
  unfold dirtTo
  exact Nat.le_trans (List.length_filter_le _ _) (by rw [List.length_range]; exact Nat.le_refl _)

set_option maxHeartbeats 2000000 in
theorem dirty_walk (p : Nat) (F : Nat → Prop) (st : Dk) (w : World) (h : Disk w p F st) :
    Calls Try.prog 19 #[.pointer (some ⟨p, 0, none⟩)] w fun e w' => ∃ v, e = .returned v ∧ IntRow w' w.heap.size v (dirt st.S) ∧ Below w.heap.size w w' := by
  obtain ⟨i0, hi, hz0, hz1, hz2⟩ := info_parts info_int
  obtain ⟨sb, mb, cs, V, hd, hF⟩ := h
  have hn4 := hd.ok.2.1
  obtain ⟨n, hn⟩ : ∃ n, n = st.S.length := ⟨_, rfl⟩
  have HD := Lib.hid hd; have HN := Lib.hid hn
  rw [← hn] at hn4
  have HN4 := Lib.hid hn4
  clear hd hF hn hn4
  go_enter Try.func19, Try.ntmps19
  go_wp2_with fail
  go_step3
  go_wp2_with fail
  go_step3
  go_wp2_with fail
  go_loopg [3, 4] n (fun gk v3 v4 wr => ∃ k : Nat, k + gk = n ∧ v4 = .int .i64 (k : Nat) ∧ IntRow wr w.heap.size v3 (dirtTo st.S k) ∧ Below w.heap.size w wr)
  case atStart => exact ⟨0, by omega, rfl, World.ownsRow_nil _ _ _ _, Below.refl _ _⟩
  case round =>
    obtain ⟨k, hgk, rfl, hrow, hb⟩ := hrel
    have hd := HD.out.touch (Touch.ofBelow (fun _ => False) hb) (fun _ _ hf => hf)
    obtain ⟨ad, cap, rfl, _, _, _⟩ := hrow.open
    have c1 := hd.c1
    have hlen := fun t => hd.map.len (t := 59) Try.underlying59 t
    obtain ⟨m, hm⟩ : ∃ m, m = (dirtTo st.S k).length := ⟨_, rfl⟩
    obtain ⟨M, hM⟩ : ∃ M, M = (dirt st.S).length := ⟨_, rfl⟩
    rw [← hM] at hlen
    rw [← hm]
    have HRW := Lib.hid hrow; have HB := Lib.hid hb; have HM := Lib.hid hm; have HMM := Lib.hid hM; have HDK := Lib.hid hd; have HGK := Lib.hid hgk
    clear hrow hb hm hM hd hgk
    by_cases hlt : (m : Int) < (M : Int)
    · have c0 : wr.cell? ⟨p, 0, none⟩ = some (.slice (some ⟨sb, 0, none⟩) n cs) := by rw [HN.out]; exact HDK.out.c0
      go_wp2_with fail
      obtain ⟨wo, hwo⟩ : ∃ wo : World, wo = wr := ⟨_, rfl⟩
      obtain rfl := hwo
      clear hlen
      go_loopg [3, 4] gk (fun gi v3 v4 wx => ∃ j : Nat, j + gi = n ∧ v3 = .slice ad m cap ∧ v4 = .int .i64 (j : Nat) ∧ k ≤ j ∧ (∀ i, k ≤ i → i < j → pend st.S i = []) ∧ wx = wo)
      case atStart => exact ⟨k, HGK.out, rfl, rfl, Nat.le_refl _, fun i h1 h2 => absurd h2 (by omega), rfl⟩
      case round =>
        obtain ⟨j, hgj, rfl, rfl, hkj, hno, rfl⟩ := hrel
        have hj4 : (j : Int) ≤ 4096 := by have := HN4.out; omega
        obtain ⟨gi, hgi⟩ : ∃ gi, gi = gk := ⟨_, rfl⟩
        have HNO := Lib.hid hno; have HGJ := Lib.hid hgj
        clear hno hgj
        by_cases hjn : (j : Int) < (n : Int)
        · have hlk := look_now HDK.out j (by have := HN4.out; omega)
          by_cases hp : pend st.S j ≠ []
          · rw [if_pos hp] at hlk
            obtain ⟨g, cp, cur, hv, _, hlc, hcm, _⟩ := (HDK.out.rows j hp).open hp
            rw [hv] at hlk
            have hpos : (0 : Int) < (((pend st.S j).length : Nat) : Int) := by have := List.length_pos_iff.2 hp; omega
            obtain ⟨q, hq⟩ : ∃ q, q = (pend st.S j).length := ⟨_, rfl⟩
            rw [← hq] at hlk hpos
            have hds : dirtTo st.S (j + 1) = dirtTo st.S k ++ [j] := by rw [dirtTo_succ, if_pos hp, dirtTo_skip st.S k j hkj HNO.out]
            have HDS := Lib.hid hds; have HBZ := Lib.hid HB.out.size
            have hml : m ≤ k := by rw [HM.out]; exact dirtTo_len _ _
            have HML := Lib.hid hml
            clear hp hv hlc hcm hq hds hml
            have hrow1 : wr.ownsRow w.heap.size 3 1 (.slice ad m cap) m (iv (dirtTo st.S k)) := by
              have := HRW.out
              unfold IntRow at this
              rw [← HM.out] at this
              exact this
            have HR1 := Lib.hid hrow1
            clear hrow1
            go_wp2_with (at_builtin; refine wpList_append_at _ rfl _ _ 23 23 rfl w.heap.size 3 i0 (.int .i64 0) 1 8 Try.underlying23 hi hz0 hz1 hz2 rfl (by decide) (.slice ad m cap) m (iv (dirtTo st.S k)) rfl (HR1.out.alloc _) _ 1 [.int .i64 (j : Nat)] rfl (src_one _ Try.underlying23 _ _ rfl _) ?_ ?_ ?_ ?_)
            · have h1 := HML.out; have h2 := HN4.out; have h3 := HGK.out; unfold maxLen; omega
            · have h1 := HML.out; have h2 := HN4.out; have h3 := HGK.out; omega
            · have := HBZ.out; simp; omega
            intro v' w3 hr3 hg3 hp3
            have hrow2 := HR1.out.alloc (.cells #[.int .i64 (j : Nat)] 3)
            have hb3 : Below w.heap.size w w3 := (HB.out.alloc HBZ.out (.cells #[.int .i64 (j : Nat)] 3)).trans ⟨hg3.os, hg3.tape, hg3.output, hg3.size, fun z hz => hg3.block z (by have := HBZ.out; simp; omega) (fun e => by have := (hrow2.lt z e.symm).1; omega)⟩
            have hr4 : IntRow w3 w.heap.size v' (dirtTo st.S (j + 1)) := by
              unfold IntRow
              rw [HDS.out, List.length_append, ← HM.out, iv_append]
              exact hr3
            have M1 := Lib.hid hr4; have M2 := Lib.hid hb3
            clear hr3 hg3 hp3 hrow2 hb3 hr4 hlk
            go_wp2_with fail
            go_roundg (n - (j + 1))
            case measure => have h1 := HGK.out; have h2 := HGJ.out; omega
            case rel => exact ⟨j + 1, by omega, by go_num, M1.out, M2.out⟩
          · rw [if_neg hp] at hlk
            have hp' : pend st.S j = [] := by simpa using hp
            have HPE := Lib.hid hp'
            clear hp hp'
            go_wp2_with fail
            go_roundg (gk - 1)
            case measure => have h2 := HGJ.out; omega
            case rel =>
              refine ⟨j + 1, by have h2 := HGJ.out; omega, rfl, by go_num, by omega, fun i h1 h2 => ?_, rfl⟩
              by_cases e : i = j
              · rw [e]; exact HPE.out
              · exact HNO.out i h1 (by omega)
        · have hjn' : j = n := by have := HGJ.out; omega
          have hdn : dirtTo st.S k = dirt st.S := by
            rw [← dirtTo_all, ← HN.out, ← hjn']
            exact (dirtTo_skip st.S k j hkj HNO.out).symm
          have HDN := Lib.hid hdn
          clear hjn' hdn
          go_wp2_with fail
          try rw [Exit.noGoto_ret]
          go_ret
          refine ⟨.slice ad m cap, rfl, ?_, HB.out⟩
          rw [← HDN.out, HM.out]
          exact HRW.out
    · have hdn : dirtTo st.S k = dirt st.S := dirtTo_done st.S k (by have := HN.out; have := HGK.out; omega) (by have := HM.out; have := HMM.out; omega)
      have HDN := Lib.hid hdn
      clear hdn
      go_wp2_with fail
      try rw [Exit.noGoto_ret]
      go_ret
      refine ⟨.slice ad m cap, rfl, ?_, HB.out⟩
      rw [← HDN.out, HM.out]
      exact HRW.out
end Go.Proofs.Ytcabocppplokgaa
