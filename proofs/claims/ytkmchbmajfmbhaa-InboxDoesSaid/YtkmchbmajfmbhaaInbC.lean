/-
  Drain.
-/
import Derived.Test.YtkmchbmajfmbhaaInbB
import Derived.WalkMore
import Derived.Lib.OwnKind
import Derived.OneCell
import Derived.Deep.LoopGhost
import Derived.Lib.SmallJoins
namespace Go.Proofs.Ytkmchbmajfmbhaa
open Go.RowKit

theorem info_string : (Try.prog.info? 9).map (fun i => (i.zero, i.size, i.bytes)) = some (some (.string ⟨#[]⟩), 1, 16) := by kernel_rfl

/-- a slice of texts of our own -/
def Row (w : World) (base : Nat) (v : Value) (l : List ByteArray) : Prop := w.ownsRow base 9 1 v l.length (l.map Value.string)
theorem Row.nil (w : World) (base : Nat) : Row w base (.slice none 0 0) [] := World.ownsRow_nil _ _ _ _
theorem Row.keep {w w' : World} {base B : Nat} {v : Value} {l : List ByteArray} (h : Row w base v l) (hb : Below B w w') (hB : w.heap.size ≤ B) : Row w' base v l :=
  World.ownsRow.kept h (row := none) ⟨hb.os, hb.tape, hb.output, hb.size, fun k hk _ => hb.block k (by omega)⟩ (by cases v.ownBlock <;> simp)
theorem Row.grown {w w' : World} {base : Nat} {v : Value} {l : List ByteArray} {row : Option Nat} (h : Row w base v l) (hg : w.grownBy w' row) (hne : v.ownBlock = none ∨ v.ownBlock ≠ row) : Row w' base v l := World.ownsRow.kept h hg hne
theorem Row.ne {w : World} {base k : Nat} {v : Value} {l : List ByteArray} (h : Row w base v l) {o : Obj} (ho : w.heap[k]? = some o) (hk : ∀ c fz, o ≠ .cells c 9 fz) : v.ownBlock ≠ some k := by
  intro e
  obtain ⟨c, fz, hc⟩ := Lib.ownsRow_kind h k e
  rw [ho] at hc
  exact hk c fz (by simpa using hc)
theorem BoxAt.lt {w : World} {p c room : Nat} {l : List ByteArray} (h : BoxAt w p c room l) : p < w.heap.size ∧ c < w.heap.size := by
  obtain ⟨_, h1, _, s, r, h2⟩ := h
  refine ⟨lt_of_block h1, ?_⟩
  rcases Nat.lt_or_ge c w.heap.size with h | h
  · exact h
  · rw [Array.getElem?_eq_none h] at h2; cases h2
theorem BoxAt.grown {w w' : World} {p c room : Nat} {l : List ByteArray} {row : Option Nat} (h : BoxAt w p c room l) (hg : w.grownBy w' row) (hp : some p ≠ row) (hc : some c ≠ row) : BoxAt w' p c room l := by
  have hl := h.lt
  obtain ⟨h0, h1, h2, s, r, h3⟩ := h
  exact ⟨h0, (hg.block p hl.1 hp).trans h1, h2, s, r, (hg.block c hl.2 hc).trans h3⟩
theorem BoxAt.keep {w w' : World} {p c room B : Nat} {l : List ByteArray} (h : BoxAt w p c room l) (hb : Below B w w') (hp : p < B) (hc : c < B) : BoxAt w' p c room l := by
  obtain ⟨h0, h1, h2, s, r, h3⟩ := h
  exact ⟨h0, (hb.block p hp).trans h1, h2, s, r, (hb.block c hc).trans h3⟩
theorem Row.ne_box {w : World} {base p c room : Nat} {v : Value} {l m : List ByteArray} (h : Row w base v l) (hb : BoxAt w p c room m) : v.ownBlock ≠ some p ∧ v.ownBlock ≠ some c := by
  obtain ⟨_, h1, _, s, r, h3⟩ := hb
  exact ⟨h.ne h1 (by intro c fz e; cases e), h.ne h3 (by intro c fz e; cases e)⟩

theorem own_form {w : World} {base e size n : Nat} {v : Value} {xs : List Value} (h : w.ownsRow base e size v n xs) : v = .slice none 0 0 ∧ n = 0 ∨ ∃ g cap, v = .slice (some ⟨g, 0, none⟩) n cap := by
  rcases h.2 with h | ⟨g, cap, _, hv, _⟩
  · exact .inl h
  · exact .inr ⟨g, cap, hv⟩
theorem own_form1 {w : World} {base e size n : Nat} {v : Value} {xs : List Value} (h : w.ownsRow base e size v (n + 1) xs) : ∃ g cap, v = .slice (some ⟨g, 0, none⟩) (n + 1) cap := by
  rcases own_form h with ⟨_, h⟩ | h
  · exact absurd h (by omega)
  · exact h
theorem Row.form {w : World} {base : Nat} {v : Value} {l : List ByteArray} (h : Row w base v l) : ∃ ad cap, v = .slice ad l.length cap ∧ strsAt w ad l := strsAt_own h

set_option maxHeartbeats 1000000 in
theorem take_walk (q : Nat) (v : Value) (l : List ByteArray) (x : ByteArray) (w : World) (hq : w.heap[q]? = some (.cells #[v] 22 (0, 0))) (hr : Row w (q + 1) v l) (hs : l.length < 1000) :
    Calls Try.prog 17 #[.string x, .pointer (some ⟨q, 0, none⟩)] w fun e w' => e = .returned (.tuple #[]) ∧ Below q w w' ∧ ∃ v', w'.heap[q]? = some (.cells #[v'] 22 (0, 0)) ∧ Row w' (q + 1) v' (l ++ [x]) := by
  obtain ⟨i0, hi, hz0, hz1, hz2⟩ := info_parts info_string
  have hlq := lt_of_block hq
  have hc : w.cell? ⟨q, 0, none⟩ = some v := by rw [cell_of_row w q 0 _ _ _ hq]; rfl
  have HQ := Lib.hid hq
  have HS := Lib.hid hs
  clear hq
  go_enter Try.func17, Try.ntmps17
  obtain ⟨n, hn⟩ : ∃ n, n = l.length := ⟨_, rfl⟩
  have hr' : w.ownsRow (q + 1) 9 1 v n (l.map Value.string) := by rw [hn]; exact hr
  have hs' : n < 1000 := by omega
  clear hr hs
  go_wp2_with (at_builtin; refine wpList_append_at _ rfl _ _ 22 22 rfl (q + 1) 9 i0 (.string ⟨#[]⟩) 1 16 Try.underlying22 hi hz0 hz1 hz2 rfl (by decide) _ _ _ rfl (hr'.alloc _) _ 1 [.string x] rfl (src_one _ Try.underlying22 _ _ rfl _) ?_ ?_ ?_ ?_)
  · unfold maxLen; omega
  · omega
  · simp; omega
  intro v' w2 hown hgrow hpl
  have hlt : ∀ k, v.ownBlock = some k → q + 1 ≤ k := fun k hk => (hr'.lt k hk).1
  have hq2 : w2.heap[q]? = some (.cells #[v] 22 (0, 0)) := (hgrow.block q (by simp; omega) (fun e => by have := hlt q e.symm; omega)).trans ((heap_alloc_lt _ _ _ hlq).trans HQ.out)
  have hB : Below q w w2 := ((Below.refl q w).alloc (by omega) _).grown hgrow (by simp; omega) (fun k hk => by have := hlt k hk; omega)
  have hc2 : w2.cell? ⟨q, 0, none⟩ = some v := by rw [cell_of_row w2 q 0 _ _ _ hq2]; rfl
  have hf2 : w2.frozen? ⟨q, 0, none⟩ = false := by simp [World.frozen?, hq2]
  obtain ⟨g, cap, rfl⟩ := own_form1 hown
  have HQ2 := Lib.hid hq2; have HO := Lib.hid hown; have HB := Lib.hid hB
  clear hgrow hpl hlt hq2 hown hB hc hr' hn HQ
  go_wp2_with fail
  refine bodyPost_end (results_none rfl _ _ _) rfl ⟨rfl, HB.out.setCell (Nat.le_refl _) _, _, Go.Joins.block_setCell HQ2.out _, ?_⟩
  have ho : w2.ownsRow (q + 1) 9 1 (.slice (some ⟨g, 0, none⟩) (l.length + 1) cap) (l ++ [x]).length ((l ++ [x]).map Value.string) := by simpa using HO.out
  exact ownsRow_setCell_other ho (fun e => by have := (ho.lt q e).1; omega) _

theorem sv_take {l : List ByteArray} {k : Nat} {x : ByteArray} {r : List ByteArray} (h : l.drop k = x :: r) : l.take (k + 1) = l.take k ++ [x] ∧ l.drop (k + 1) = r ∧ k < l.length := by
  have hk : k < l.length := by
    rcases Nat.lt_or_ge k l.length with h' | h'
    · exact h'
    · rw [List.drop_of_length_le h'] at h; cases h
  have hx : l.drop k = l[k] :: l.drop (k + 1) := (List.drop_eq_getElem_cons hk)
  rw [hx] at h
  simp only [List.cons.injEq] at h
  exact ⟨by rw [List.take_succ_eq_append_getElem hk, h.1], h.2, hk⟩

set_option maxHeartbeats 2000000 in
theorem drain_walk (p c room : Nat) (l : List ByteArray) (n : Int) (w : World) (h : BoxAt w p c room l) :
    Calls Try.prog 10 #[.pointer (some ⟨p, 0, none⟩), .int .i64 n] w fun e w' => ∃ v, e = .returned v ∧ Row w' w.heap.size v (l.take n.toNat) ∧ w.grownBy w' (some c) ∧ BoxAt w' p c room (l.drop n.toNat) := by
  have hl256 : l.length ≤ 256 := Nat.le_trans h.2.2.1.1 h.2.2.1.2
  have hpc := h.lt
  go_enter Try.func10, Try.ntmps10
  go_wp2_with fail
  go_step3
  go_wp2_with fail
  go_step3
  go_wp2_with fail
  obtain ⟨q, hq⟩ : ∃ q, q = w.heap.size := ⟨_, rfl⟩
  have g0 := heap_alloc_top w (.cells #[.slice none 0 0] 22)
  have hB := (Below.refl w.heap.size w).alloc (Nat.le_refl _) (.cells #[.slice none 0 0] 22)
  rw [← hq] at g0 hpc hB ⊢
  have hb := h.keep hB hpc.1 hpc.2
  generalize w.alloc (.cells #[.slice none 0 0] 22) = W at g0 hB hb ⊢
  have HQ := Lib.hid hq
  clear hq
  go_loopg [] l.length (fun gk wr => ∃ k v, k + gk = l.length ∧ k ≤ n.toNat ∧ wr.heap[q]? = some (.cells #[v] 22 (0, 0)) ∧ Row wr (q + 1) v (l.take k) ∧ BoxAt wr p c room (l.drop k) ∧ w.grownBy wr (some c))
  case atStart => exact ⟨0, _, by omega, by omega, g0, Row.nil _ _, hb, hB.os, hB.tape, hB.output, Nat.le_trans (Nat.le_of_eq HQ.out.symm) (Nat.le_of_lt (lt_of_block g0)), fun k hk _ => hB.block k (by have := HQ.out; omega)⟩
  case round =>
    obtain ⟨k, v, hgk, hkn, hv, hrow, hbox, hgr⟩ := hrel
    obtain ⟨ad, cap, hvf, hat⟩ := hrow.form
    have hlen : (l.take k).length = k := by rw [List.length_take]; omega
    rw [hlen] at hvf
    subst hvf
    have hc := cell_of_row wr q 0 _ _ _ hv
    simp only [List.getElem?_toArray, List.getElem?_cons_zero] at hc
    have HV := Lib.hid hv; have HR := Lib.hid hrow; have HB := Lib.hid hbox; have HG := Lib.hid hgr; have HL := Lib.hid hlen
    clear hv hrow hbox hgr hlen hat g0 hB hb h
    by_cases hlt : (k : Int) < n
    · have hd := HB.out
      cases hdr : l.drop k with
      | nil =>
        rw [hdr] at hd
        go_wp2_with fail
        refine (get_none p c room _ hd).mono ?_
        rintro e w1 ⟨rfl, rfl⟩
        go_wp2_with fail
        rw [Exit.noGoto_ret]
        go_ret
        have hk : k = l.length := by have := List.drop_eq_nil_iff.1 hdr; omega
        have e1 : l.take n.toNat = l.take k := by rw [List.take_of_length_le (by omega), List.take_of_length_le (by omega)]
        have e2 : l.drop n.toNat = [] := List.drop_eq_nil_iff.2 (by omega)
        refine ⟨_, rfl, ?_, HG.out, by rw [e2]; exact hd⟩
        rw [e1]
        exact Go.Joins.ownsRow_le HR.out (by rw [← HQ.out]; omega)
      | cons x r =>
        rw [hdr] at hd
        obtain ⟨ht1, ht2, hk⟩ := sv_take hdr
        have HD := Lib.hid hd; have HT := Lib.hid ht1; have HU := Lib.hid ht2; have HDR := Lib.hid hdr
        clear hd ht1 ht2 hdr
        go_wp2_with fail
        refine (get_some p c room x r _ HD.out).mono ?_
        rintro e w1 ⟨rfl, hg1, hb1⟩
        go_wp2_with fail
        have hqc := hpc.2
        have hq1 := (hg1.block q (lt_of_block HV.out) (by simp; omega)).trans HV.out
        have hr1 := HR.out.grown hg1 (.inr (HR.out.ne_box HB.out).2)
        have hlen1 := HL.out
        refine (take_walk q _ (l.take k) x _ hq1 hr1 (by rw [hlen1]; omega)).mono ?_
        rintro e w2 ⟨rfl, hb2, v2, hq2, hr2⟩
        rw [← HT.out] at hr2
        have hbx := hb1.keep hb2 hpc.1 hpc.2
        rw [← HU.out] at hbx
        have hgr2 : w.grownBy w2 (some c) := ⟨hb2.os.trans (hg1.os.trans HG.out.os), hb2.tape.trans (hg1.tape.trans HG.out.tape), hb2.output.trans (hg1.output.trans HG.out.output), Nat.le_trans HG.out.size (Nat.le_trans hg1.size hb2.size), fun j hj hne => (hb2.block j (by rw [HQ.out]; exact hj)).trans ((hg1.block j (Nat.lt_of_lt_of_le hj HG.out.size) hne).trans (HG.out.block j hj hne))⟩
        have K1 := Lib.hid hq2; have K2 := Lib.hid hr2; have K3 := Lib.hid hbx; have K4 := Lib.hid hgr2
        clear hq1 hr1 hlen1 hb2 hq2 hr2 hbx hgr2 hg1 hb1 HV HR HB HG HL HD HT HU HDR
        go_wp2_with fail
        go_roundg (gk - 1)
        case measure => omega
        case rel => exact ⟨k + 1, v2, by omega, by omega, K1.out, K2.out, K3.out, K4.out⟩
    · have e1 : n.toNat = k := by omega
      go_wp2_with fail
      first
        | rw [Exit.noGoto_ret]
        | skip
      go_ret
      rw [e1]
      exact ⟨_, rfl, Go.Joins.ownsRow_le HR.out (by rw [← HQ.out]; omega), HG.out, HB.out⟩

theorem drain_nil (n : Int) (w : World) : Calls Try.prog 10 #[.pointer none, .int .i64 n] w fun e w' => e = .returned (.slice none 0 0) ∧ Below w.heap.size w w' := by
  go_enter Try.func10, Try.ntmps10
  go_wp2_with fail
  go_step3
  go_wp2_with fail
  go_step3
  go_wp2_with fail
  obtain ⟨q, hq⟩ : ∃ q, q = w.heap.size := ⟨_, rfl⟩
  have g0 := heap_alloc_top w (.cells #[.slice none 0 0] 22)
  have hB := (Below.refl w.heap.size w).alloc (Nat.le_refl _) (.cells #[.slice none 0 0] 22)
  have HB0 := Lib.hid hB
  rw [← hq] at g0 ⊢
  generalize w.alloc (.cells #[.slice none 0 0] 22) = W at g0 HB0 ⊢
  have HQ := Lib.hid hq
  clear hq hB
  go_loopg [] 0 (fun gk wr => wr = W)
  case atStart => rfl
  case round =>
    subst hrel
    have hc := cell_of_row wr q 0 _ _ _ g0
    simp only [List.getElem?_toArray, List.getElem?_cons_zero] at hc
    by_cases hlt : (0 : Int) < n
    · go_wp2_with fail
      refine (get_nil _).mono ?_
      rintro e w1 ⟨rfl, rfl⟩
      go_wp2_with fail
      first
        | rw [Exit.noGoto_ret]
        | skip
      go_ret
      exact ⟨rfl, HB0.out⟩
    · go_wp2_with fail
      first
        | rw [Exit.noGoto_ret]
        | skip
      go_ret
      exact ⟨rfl, HB0.out⟩
end Go.Proofs.Ytkmchbmajfmbhaa
