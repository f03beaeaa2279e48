/-
  Layer 3: the reference's Dirty.
-/
import Derived.Test.YtcabocppplokgaaRdkB
namespace Go.Proofs.Ytcabocppplokgaa
open Go.RowKit

set_option maxHeartbeats 2000000 in
theorem rdirty_walk (q : Nat) (R : Nat → Prop) (st : Dk) (w : World) (h : Ref w q R st) :
    Calls Try.prog 20 #[.pointer (some ⟨q, 0, none⟩)] w fun e w' => ∃ v, e = .returned v ∧ IntRow w' w.heap.size v (dirt st.S) ∧ Below w.heap.size w w' := by
  obtain ⟨i0, hi, hz0, hz1, hz2⟩ := info_parts info_int
  obtain ⟨rb, cap, V, hd⟩ := h
  have hn4 := hd.ok.2.1
  obtain ⟨n, hn⟩ : ∃ n, n = st.S.length := ⟨_, rfl⟩
  have HD := Lib.hid hd; have HN := Lib.hid hn
  rw [← hn] at hn4
  have HN4 := Lib.hid hn4
  clear hd hn hn4
  go_enter Try.func20, Try.ntmps20
  go_wp2_with fail
  go_loopg [3, 4] n (fun gk v3 v4 wr => ∃ k : Nat, k + gk = n ∧ v4 = .int .i64 (k : Nat) ∧ IntRow wr w.heap.size v3 (dirtTo st.S k) ∧ Below w.heap.size w wr)
  case atStart => exact ⟨0, by omega, rfl, World.ownsRow_nil _ _ _ _, Below.refl _ _⟩
  case round =>
    obtain ⟨k, hgk, rfl, hrow, hb⟩ := hrel
    have hd := HD.out.below hb
    obtain ⟨ad, cp, rfl, _, _, _⟩ := hrow.open
    have c0 := hd.c0
    rw [← HN.out] at c0
    obtain ⟨m, hm⟩ : ∃ m, m = (dirtTo st.S k).length := ⟨_, rfl⟩
    rw [← hm]
    have HRW := Lib.hid hrow; have HB := Lib.hid hb; have HM := Lib.hid hm; have HDK := Lib.hid hd; have HGK := Lib.hid hgk
    clear hrow hb hm hd hgk
    by_cases hlt : (k : Int) < (n : Int)
    · have hkS : k < st.S.length := by rw [← HN.out]; omega
      have hk4 : (k : Int) ≤ 4096 := by have := HN4.out; omega
      obtain ⟨g, c, hv, _, hlc, hcm, hstr⟩ := HDK.out.piece k hkS
      clear hstr
      have ck := HDK.out.cell k hkS
      rw [hv] at ck
      have hgd : st.S.getD k [] = st.S[k] := by rw [List.getD_eq_getElem?_getD, List.getElem?_eq_getElem hkS]; rfl
      have hpl : (pend st.S k).length = st.S[k].length - 1 := by unfold pend; rw [hgd, List.length_tail]
      have hpos := List.length_pos_iff.2 (HDK.out.ok.2.2 st.S[k] (List.getElem_mem hkS)).1
      obtain ⟨z, hz⟩ : ∃ z, z = st.S[k].length := ⟨_, rfl⟩
      rw [← hz] at ck hpl hlc hpos
      have hds := dirtTo_succ st.S k
      by_cases hp : pend st.S k ≠ []
      · have hz1' : (1 : Int) < (z : Int) := by have := List.length_pos_iff.2 hp; omega
        rw [if_pos hp] at hds
        have HDS := Lib.hid hds; have HBZ := Lib.hid HB.out.size
        have hml : m ≤ k := by rw [HM.out]; exact dirtTo_len _ _
        have HML := Lib.hid hml
        have hzm : (z : Int) ≤ 9223372036854775807 := by omega
        clear hp hv hlc hcm hz hds hml hgd hpl hpos hkS
        have hrow1 : wr.ownsRow w.heap.size 3 1 (.slice ad m cp) m (iv (dirtTo st.S k)) := by
          have := HRW.out
          unfold IntRow at this
          rw [← HM.out] at this
          exact this
        have HR1 := Lib.hid hrow1
        clear hrow1
        go_wp2_with (at_builtin; refine wpList_append_at _ rfl _ _ 23 23 rfl w.heap.size 3 i0 (.int .i64 0) 1 8 Try.underlying23 hi hz0 hz1 hz2 rfl (by decide) (.slice ad m cp) m (iv (dirtTo st.S k)) rfl (HR1.out.alloc _) _ 1 [.int .i64 (k : Nat)] rfl (src_one _ Try.underlying23 _ _ rfl _) ?_ ?_ ?_ ?_)
        · have h1 := HML.out; have h2 := HN4.out; have h3 := HGK.out; unfold maxLen; omega
        · have h1 := HML.out; have h2 := HN4.out; have h3 := HGK.out; omega
        · have := HBZ.out; simp; omega
        intro v' w3 hr3 hg3 hp3
        have hrow2 := HR1.out.alloc (.cells #[.int .i64 (k : Nat)] 3)
        have hb3 : Below w.heap.size w w3 := (HB.out.alloc HBZ.out (.cells #[.int .i64 (k : Nat)] 3)).trans ⟨hg3.os, hg3.tape, hg3.output, hg3.size, fun z hz => hg3.block z (by have := HBZ.out; simp; omega) (fun e => by have := (hrow2.lt z e.symm).1; omega)⟩
        have hr4 : IntRow w3 w.heap.size v' (dirtTo st.S (k + 1)) := by
          unfold IntRow
          rw [HDS.out, List.length_append, ← HM.out, iv_append]
          exact hr3
        have M1 := Lib.hid hr4; have M2 := Lib.hid hb3
        clear hr3 hg3 hp3 hrow2 hb3 hr4 ck
        go_wp2_with fail
        go_roundg (gk - 1)
        case measure => have h1 := HGK.out; omega
        case rel => exact ⟨k + 1, by have h1 := HGK.out; omega, by go_num, M1.out, M2.out⟩
      · have hp' : pend st.S k = [] := by simpa using hp
        rw [if_neg hp, List.append_nil] at hds
        have hz1' : z = 1 := by rw [hp'] at hpl; simp at hpl; omega
        have HDS := Lib.hid hds
        clear hp hp' hv hlc hcm hz hds hgd hpl hpos hkS
        subst hz1'
        go_wp2_with fail
        go_roundg (gk - 1)
        case measure => have h1 := HGK.out; omega
        case rel => exact ⟨k + 1, by have h1 := HGK.out; omega, by go_num, by rw [HDS.out, HM.out]; exact HRW.out, HB.out⟩
    · have hdn : dirtTo st.S k = dirt st.S := by rw [← dirtTo_all, ← HN.out, show k = n by have := HGK.out; omega]
      have HDN := Lib.hid hdn
      clear hdn
      go_wp2_with fail
      go_ret
      refine ⟨.slice ad m cp, rfl, ?_, HB.out⟩
      rw [← HDN.out, HM.out]
      exact HRW.out
end Go.Proofs.Ytcabocppplokgaa
