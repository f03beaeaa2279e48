/-
  Layer 3: the reference's disk in memory; High, Ints, call, Read.
-/
import Derived.Test.YtcabocppplokgaaDskM
namespace Go.Proofs.Ytcabocppplokgaa
open Go.RowKit

/-- the reference's disk at q; R: blocks that it reads -/
structure RefAt (w : World) (q : Nat) (R : Nat → Prop) (rb cap : Nat) (V : Nat → Value) (st : Dk) : Prop where
  blk : w.heap[q]? = some (.cells #[.slice (some ⟨rb, 0, none⟩) st.S.length cap, .int .i64 st.calls, .int .i64 st.armed, .bool st.down] 49 (0, 0))
  row : R rb ∧ st.S.length ≤ cap ∧ cap ≤ 9223372036854775807
  cell : ∀ i, i < st.S.length → w.cell? ⟨rb, i, none⟩ = some (V i)
  piece : ∀ i (h : i < st.S.length), ∃ g c, V i = .slice (some ⟨g, 0, none⟩) st.S[i].length c ∧ R g ∧ st.S[i].length ≤ c ∧ c ≤ 9223372036854775807 ∧ ∀ j (hj : j < st.S[i].length), w.cell? ⟨g, j, none⟩ = some (.string (txt st.S[i][j]))
  far : ¬ R q
  lt : ∀ k, R k → k < w.heap.size
  ok : secOk st.S
  arm : 0 ≤ st.armed ∧ st.armed ≤ 9223372036854775807
def Ref (w : World) (q : Nat) (R : Nat → Prop) (st : Dk) : Prop := ∃ rb cap V, RefAt w q R rb cap V st
section
variable {w w' : World} {q : Nat} {R R' F : Nat → Prop} {rb cap : Nat} {V : Nat → Value} {st : Dk}
theorem cell_touch {b off : Nat} {v : Value} (h : w.cell? ⟨b, off, none⟩ = some v) (ht : Touch F w w') (hb : b < w.heap.size) (hF : ¬ F b) : w'.cell? ⟨b, off, none⟩ = some v := by
  rw [World.cell?_of_block (ht.block b hb hF)]
  exact h
theorem RefAt.touch (h : RefAt w q R rb cap V st) (ht : Touch F w w') (hq : ¬ F q) (hF : ∀ k, R k → ¬ F k) : RefAt w' q R rb cap V st where
  blk := (ht.block q (lt_of_block h.blk) hq).trans h.blk
  row := h.row
  cell := fun i hi => cell_touch (h.cell i hi) ht (h.lt rb h.row.1) (hF rb h.row.1)
  piece := fun i hi => by
    obtain ⟨g, c, h1, h2, h3, h4, h5⟩ := h.piece i hi
    exact ⟨g, c, h1, h2, h3, h4, fun j hj => cell_touch (h5 j hj) ht (h.lt g h2) (hF g h2)⟩
  far := h.far
  lt := fun k hk => Nat.lt_of_lt_of_le (h.lt k hk) ht.size
  ok := h.ok
  arm := h.arm
theorem RefAt.below (h : RefAt w q R rb cap V st) (hb : Below w.heap.size w w') : RefAt w' q R rb cap V st :=
  h.touch (Touch.ofBelow (fun _ => False) hb) (fun hf => hf) (fun _ _ hf => hf)
/-- the counters are set -/
theorem RefAt.cnt (h : RefAt w q R rb cap V st) (ht : Touch (fun k => k = q) w w') (c a : Int) (d : Bool) (ha : 0 ≤ a ∧ a ≤ 9223372036854775807)
    (hb : w'.heap[q]? = some (.cells #[.slice (some ⟨rb, 0, none⟩) st.S.length cap, .int .i64 c, .int .i64 a, .bool d] 49 (0, 0))) : RefAt w' q R rb cap V ⟨st.S, c, a, d⟩ where
  blk := hb
  row := h.row
  cell := fun i hi => cell_touch (h.cell i hi) ht (h.lt rb h.row.1) (fun e => h.far (by rw [← e]; exact h.row.1))
  piece := fun i hi => by
    obtain ⟨g, c, h1, h2, h3, h4, h5⟩ := h.piece i hi
    exact ⟨g, c, h1, h2, h3, h4, fun j hj => cell_touch (h5 j hj) ht (h.lt g h2) (fun e => h.far (by rw [← e]; exact h2))⟩
  far := h.far
  lt := fun k hk => Nat.lt_of_lt_of_le (h.lt k hk) ht.size
  ok := h.ok
  arm := ha
theorem RefAt.c0 (h : RefAt w q R rb cap V st) : w.cell? ⟨q, 0, none⟩ = some (.slice (some ⟨rb, 0, none⟩) st.S.length cap) := cell_at h.blk rfl
theorem RefAt.c1 (h : RefAt w q R rb cap V st) : w.cell? ⟨q, 1, none⟩ = some (.int .i64 st.calls) := cell_at h.blk rfl
theorem RefAt.c2 (h : RefAt w q R rb cap V st) : w.cell? ⟨q, 2, none⟩ = some (.int .i64 st.armed) := cell_at h.blk rfl
theorem RefAt.c3 (h : RefAt w q R rb cap V st) : w.cell? ⟨q, 3, none⟩ = some (.bool st.down) := cell_at h.blk rfl
theorem RefAt.fr (h : RefAt w q R rb cap V st) (i : Nat) : w.frozen? ⟨q, i, none⟩ = false := free_at h.blk i
end
theorem Ref.touch {w w' : World} {q : Nat} {R F : Nat → Prop} {st : Dk} (h : Ref w q R st) (ht : Touch F w w') (hq : ¬ F q) (hF : ∀ k, R k → ¬ F k) : Ref w' q R st := by
  obtain ⟨rb, cap, V, h⟩ := h
  exact ⟨rb, cap, V, h.touch ht hq hF⟩
theorem Ref.below {w w' : World} {q : Nat} {R : Nat → Prop} {st : Dk} (h : Ref w q R st) (hb : Below w.heap.size w w') : Ref w' q R st :=
  h.touch (Touch.ofBelow (fun _ => False) hb) (fun hf => hf) (fun _ _ hf => hf)
theorem Ref.ltq {w : World} {q : Nat} {R : Nat → Prop} {st : Dk} (h : Ref w q R st) : q < w.heap.size := by
  obtain ⟨_, _, _, h⟩ := h
  exact lt_of_block h.blk

set_option maxHeartbeats 1000000 in
theorem high_walk (a b : Int) (w : World) : Calls Try.prog 32 #[.int .i64 a, .int .i64 b] w fun e w' => e = .returned (.int .i64 (max a b)) ∧ w' = w := by
  by_cases h : b < a
  · have hm : max a b = a := by omega
    rw [hm]
    clear hm
    go_enter Try.func32, Try.ntmps32
    go_wp2_with fail
    go_ret
    exact ⟨rfl, rfl⟩
  · have hm : max a b = b := by omega
    rw [hm]
    clear hm
    go_enter Try.func32, Try.ntmps32
    go_wp2_with fail
    go_ret
    exact ⟨rfl, rfl⟩

theorem intsAt_below {w w' : World} {ad : Option Addr} {l : List Int} {B : Nat} (h : intsAt w ad l) (hB : w.heap.size ≤ B) (hb : Below B w w') : intsAt w' ad l :=
  intsAt_touch (F := fun _ => False) h ⟨hb.os, hb.tape, hb.output, hb.size, fun k hk _ => hb.block k (by omega)⟩ (fun _ _ _ hf => hf)

set_option maxHeartbeats 2000000 in
theorem ints_walk (ad1 ad2 : Option Addr) (cap1 cap2 : Nat) (l : List Int) (w : World) (hl1 : intsAt w ad1 l) (hl2 : intsAt w ad2 l) (hs1 : l.length ≤ 9223372036854775807) :
    Calls Try.prog 18 #[.slice ad1 l.length cap1, .slice ad2 l.length cap2] w fun e w' => e = .returned (.bool true) ∧ Below w.heap.size w w' := by
  have HL1 := Lib.hid hl1; have HL2 := Lib.hid hl2
  clear hl1 hl2
  obtain ⟨n, hn⟩ : ∃ n, n = l.length := ⟨_, rfl⟩
  have HN := Lib.hid hn
  rw [← hn]
  rw [← hn] at hs1
  clear hn
  go_enter Try.func18, Try.ntmps18
  go_wp2_with fail
  go_loopg [5] n (fun gk i wr => ∃ k : Nat, k + gk = n ∧ i = .int .i64 (k : Nat) ∧ Below w.heap.size w wr)
  case atStart => exact ⟨0, by omega, rfl, Below.refl _ _⟩
  case round =>
    obtain ⟨k, hk, rfl, hB⟩ := hrel
    have HGK := Lib.hid hk
    clear hk
    by_cases hlt : (k : Int) < (n : Int)
    · have hk1 : k < l.length := by rw [← HN.out]; omega
      have g1 := intsAt_below HL1.out (Nat.le_refl _) hB
      have g2 := intsAt_below HL2.out (Nat.le_refl _) hB
      rcases g1 with g1 | ⟨b, off, rfl, hbl, hcs⟩
      · simp [g1] at hk1
      rcases g2 with g2 | ⟨c, off2, rfl, hcl, hds⟩
      · simp [g2] at hk1
      have c1 := hcs k hk1
      have d1 := hds k hk1
      obtain ⟨p, hp⟩ : ∃ p, p = l[k] := ⟨_, rfl⟩
      rw [← hp] at c1 d1
      clear hcs hds hp
      have hcc := sub_cell c1 hbl
      have hdd := sub_cell d1 hcl
      have HBW := Lib.hid hB
      clear c1 d1 hB hbl hcl
      go_wp2_with fail
      refine wp_region_sub (W := wr) (B := wr.heap.size) (by kernel_rfl) (by kernel_rfl) (Below.refl _ _) ?_
      repeat (any_goals (first
        | go_big_quiet_skip
        | go_big_quiet_step (fail)
        | quiet_step (fail)))
      refine wpQuiet_nil ?_
      rintro w9 ⟨x9, rfl⟩
      have DB := Lib.hid (HBW.out.trans (x9.below.mono HBW.out.size))
      go_wp2_with fail
      go_roundg (gk - 1)
      case measure => have := HGK.out; omega
      case rel => exact ⟨k + 1, by have := HGK.out; omega, by go_num, DB.out⟩
    · go_wp2_with fail
      go_ret
      exact ⟨rfl, hB⟩

set_option maxHeartbeats 2000000 in
theorem rcall_last (q rb cap n : Nat) (calls : Int) (w : World) (hblk : w.heap[q]? = some (.cells #[.slice (some ⟨rb, 0, none⟩) n cap, .int .i64 calls, .int .i64 1, .bool false] 49 (0, 0))) :
    Calls Try.prog 35 #[.pointer (some ⟨q, 0, none⟩)] w fun e w' => e = .returned (.bool false) ∧
      w'.heap[q]? = some (.cells #[.slice (some ⟨rb, 0, none⟩) n cap, .int .i64 (wrap64 (calls + 1)), .int .i64 0, .bool true] 49 (0, 0)) ∧ Touch (fun k => k = q) w w' := by
  have c1 := cell_at (j := 1) (v := .int .i64 calls) hblk rfl
  have f1 := free_at hblk 1
  obtain ⟨c', hc'⟩ : ∃ c', c' = wrap64 (calls + 1) := ⟨_, rfl⟩
  have hs1 := set_at (i := 1) hblk (.int .i64 c')
  have ht1 : Touch (fun k => k = q) w (w.setCell ⟨q, 1, none⟩ (.int .i64 c')) := (Touch.refl (fun k => k = q) w).setCell (F := fun k => k = q) rfl _
  have HC := Lib.hid hc'; have HS1 := Lib.hid hs1; have HT1 := Lib.hid ht1
  clear hblk hs1 ht1 hc'
  rw [← HC.out]
  go_enter Try.func35, Try.ntmps35
  go_upto_region 2 with fail
  rw [← HC.out]
  have hs1 := HS1.out
  have ht1 := HT1.out
  clear c1 f1 HS1 HT1
  generalize w.setCell ⟨q, 1, none⟩ (.int .i64 c') = w1 at hs1 ht1 ⊢
  have c2 := cell_at (j := 2) (v := .int .i64 1) hs1 rfl
  have c3 := cell_at (j := 3) (v := .bool false) hs1 rfl
  have f3 := free_at hs1 3
  have hs2 := set_at (i := 3) hs1 (.bool true)
  have ht2 : Touch (fun k => k = q) w (w1.setCell ⟨q, 3, none⟩ (.bool true)) := ht1.setCell (F := fun k => k = q) rfl _
  have HS2 := Lib.hid hs2; have HT2 := Lib.hid ht2
  clear hs1 ht1 hs2 ht2
  go_upto_region 4 with fail
  have hs2 := HS2.out
  have ht2 := HT2.out
  clear c2 c3 f3 HS2 HT2
  generalize w1.setCell ⟨q, 3, none⟩ (.bool true) = w2 at hs2 ht2 ⊢
  have c2 := cell_at (j := 2) (v := .int .i64 1) hs2 rfl
  have c3 := cell_at (j := 3) (v := .bool true) hs2 rfl
  have f2 := free_at hs2 2
  have HS2 := Lib.hid hs2; have HT2 := Lib.hid ht2
  clear hs2 ht2
  go_wp2_with fail
  refine (high_walk 0 0 w2).mono ?_
  rintro e w3 ⟨rfl, rfl⟩
  have hs3 := set_at (i := 2) HS2.out (.int .i64 (max 0 0))
  have ht3 : Touch (fun k => k = q) w (w3.setCell ⟨q, 2, none⟩ (.int .i64 (max 0 0))) := HT2.out.setCell (F := fun k => k = q) rfl _
  have hc3 := cell_at (j := 3) (v := .bool true) hs3 rfl
  have HS3 := Lib.hid hs3; have HT3 := Lib.hid ht3
  clear hs3 ht3
  go_wp2_with fail
  go_ret
  exact ⟨rfl, HS3.out, HT3.out⟩
set_option maxHeartbeats 2000000 in
theorem rcall_more (q rb cap n : Nat) (calls armed : Int) (w : World) (hne : (armed == 1) = false) (h0 : 0 ≤ armed) (h9 : armed ≤ 9223372036854775807)
    (hblk : w.heap[q]? = some (.cells #[.slice (some ⟨rb, 0, none⟩) n cap, .int .i64 calls, .int .i64 armed, .bool false] 49 (0, 0))) :
    Calls Try.prog 35 #[.pointer (some ⟨q, 0, none⟩)] w fun e w' => e = .returned (.bool true) ∧
      w'.heap[q]? = some (.cells #[.slice (some ⟨rb, 0, none⟩) n cap, .int .i64 (wrap64 (calls + 1)), .int .i64 (max (armed - 1) 0), .bool false] 49 (0, 0)) ∧ Touch (fun k => k = q) w w' := by
  have c1 := cell_at (j := 1) (v := .int .i64 calls) hblk rfl
  have f1 := free_at hblk 1
  obtain ⟨c', hc'⟩ : ∃ c', c' = wrap64 (calls + 1) := ⟨_, rfl⟩
  have hs1 := set_at (i := 1) hblk (.int .i64 c')
  have ht1 : Touch (fun k => k = q) w (w.setCell ⟨q, 1, none⟩ (.int .i64 c')) := (Touch.refl (fun k => k = q) w).setCell (F := fun k => k = q) rfl _
  have HC := Lib.hid hc'; have HS1 := Lib.hid hs1; have HT1 := Lib.hid ht1
  clear hblk hs1 ht1 hc'
  rw [← HC.out]
  go_enter Try.func35, Try.ntmps35
  go_upto_region 2 with fail
  rw [← HC.out]
  have hs1 := HS1.out
  have ht1 := HT1.out
  clear c1 f1 HS1 HT1
  generalize w.setCell ⟨q, 1, none⟩ (.int .i64 c') = w1 at hs1 ht1 ⊢
  have c2 := cell_at (j := 2) (v := .int .i64 armed) hs1 rfl
  have c3 := cell_at (j := 3) (v := .bool false) hs1 rfl
  have f2 := free_at hs1 2
  have HS2 := Lib.hid hs1; have HT2 := Lib.hid ht1
  clear hs1 ht1
  go_wp2_with fail
  refine (high_walk (armed - 1) 0 w1).mono ?_
  rintro e w3 ⟨rfl, rfl⟩
  obtain ⟨m, hm⟩ : ∃ m, m = max (armed - 1) 0 := ⟨_, rfl⟩
  rw [← hm]
  have HM := Lib.hid hm
  clear hm
  have hs3 := set_at (i := 2) HS2.out (.int .i64 m)
  have ht3 : Touch (fun k => k = q) w (w3.setCell ⟨q, 2, none⟩ (.int .i64 m)) := HT2.out.setCell (F := fun k => k = q) rfl _
  have hc3 := cell_at (j := 3) (v := .bool false) hs3 rfl
  have HS3 := Lib.hid hs3; have HT3 := Lib.hid ht3
  clear hs3 ht3
  go_wp2_with fail
  go_ret
  rw [← HM.out]
  exact ⟨rfl, HS3.out, HT3.out⟩
theorem rcall_walk (q : Nat) (R : Nat → Prop) (st : Dk) (w : World) (h : Ref w q R st) (hdn : st.down = false) :
    Calls Try.prog 35 #[.pointer (some ⟨q, 0, none⟩)] w fun e w' => e = .returned (.bool (!(callD st).down)) ∧ Ref w' q R (callD st) ∧ Touch (fun k => k = q) w w' := by
  obtain ⟨rb, cap, V, hd⟩ := h
  have ha := hd.arm
  have hb := hd.blk
  rw [hdn] at hb
  by_cases h1 : st.armed = 1
  · have e : callD st = ⟨st.S, wrap64 (st.calls + 1), 0, true⟩ := by unfold callD; rw [if_pos (by omega), if_pos (by omega), h1]; rfl
    rw [e]
    rw [h1] at hb
    exact (rcall_last q rb cap st.S.length st.calls w hb).mono fun r w' ⟨h2, h3, h4⟩ => ⟨h2, ⟨rb, cap, V, hd.cnt h4 _ _ _ (by omega) h3⟩, h4⟩
  · have e : callD st = ⟨st.S, wrap64 (st.calls + 1), max (st.armed - 1) 0, false⟩ := by
      unfold callD
      by_cases h0 : 0 < st.armed
      · rw [if_pos h0, if_pos h0, decide_eq_false h1, show max (st.armed - 1) 0 = st.armed - 1 by omega]
      · rw [if_neg h0, if_neg h0, hdn, show max (st.armed - 1) 0 = st.armed by omega]
    rw [e]
    exact (rcall_more q rb cap st.S.length st.calls st.armed w (by rw [beq_eq_false_iff_ne]; exact h1) ha.1 ha.2 hb).mono fun r w' ⟨h2, h3, h4⟩ => ⟨h2, ⟨rb, cap, V, hd.cnt h4 _ _ _ (by omega) h3⟩, h4⟩

set_option maxHeartbeats 2000000 in
theorem rread_disk (q : Nat) (R : Nat → Prop) (st : Dk) (i : Nat) (w : World) (h : Ref w q R st) (hi : i < st.S.length) :
    Calls Try.prog 22 #[.pointer (some ⟨q, 0, none⟩), .int .i64 i] w fun e w' => e = .returned (.string (txt (lastS st.S i))) ∧ Below w.heap.size w w' := by
  obtain ⟨rb, cap, V, hd⟩ := h
  obtain ⟨g, c, hv, hRg, h1, h2, h3⟩ := hd.piece i hi
  have hne := (hd.ok.2.2 st.S[i] (List.getElem_mem hi)).1
  have hpos := List.length_pos_iff.2 hne
  have hl := h3 (st.S[i].length - 1) (by omega)
  have hlast : lastS st.S i = st.S[i][st.S[i].length - 1] := by
    unfold lastS
    rw [List.getD_eq_getElem?_getD, List.getElem?_eq_getElem hi, Option.getD_some, List.getLastD_eq_getLast?, List.getLast?_eq_some_getLast hne, Option.getD_some, List.getLast_eq_getElem]
  have c0 := hd.c0
  have ci := hd.cell i hi
  rw [hv] at ci
  rw [← hlast] at hl
  obtain ⟨x, hx⟩ : ∃ x, x = txt (lastS st.S i) := ⟨_, rfl⟩
  rw [← hx] at hl ⊢
  obtain ⟨m, hm⟩ : ∃ m, m = st.S[i].length := ⟨_, rfl⟩
  obtain ⟨n, hn⟩ : ∃ n, n = st.S.length := ⟨_, rfl⟩
  have hn4 := hd.ok.2.1
  rw [← hm] at hl ci h1 hpos
  rw [← hn] at c0 hn4 hi
  have hbr := hd.lt rb hd.row.1
  have hbg := hd.lt g hRg
  have hbq := lt_of_block hd.blk
  have hmi : (1 : Int) ≤ (m : Int) := by omega
  have hmi2 : (m : Int) ≤ 9223372036854775807 := by omega
  have hii : (i : Int) < (n : Int) := by omega
  have hn4i : (n : Int) ≤ 4096 := by omega
  clear hd hv hRg h3 hne hlast hx hm hn hn4 h1 h2 hpos
  go_enter Try.func22, Try.ntmps22
  go_upto_region 1 with fail
  have k0 : ∀ y : Sub w.heap.size w, y.val.cell? ⟨q, 0, none⟩ = some (.slice (some ⟨rb, 0, none⟩) n cap) := fun y => sub_cell c0 hbq y
  have k1 : ∀ y : Sub w.heap.size w, y.val.cell? ⟨rb, i, none⟩ = some (.slice (some ⟨g, 0, none⟩) m c) := fun y => sub_cell ci hbr y
  have k2 : ∀ y : Sub w.heap.size w, y.val.cell? ⟨g, m - 1, none⟩ = some (.string x) := fun y => sub_cell hl hbg y
  clear c0 ci hl hbr hbg hbq
  refine wp_region_sub (W := w) (B := w.heap.size) (by kernel_rfl) (by kernel_rfl) (Below.refl _ _) ?_
  repeat (any_goals (first
    | go_big_quiet_skip
    | go_big_quiet_step (fail)
    | quiet_step (fail)))
  refine wpQuiet_nil ?_
  rintro w9 ⟨x9, rfl⟩
  have DB := Lib.hid x9.below
  go_wp2_with fail
  go_ret
  exact ⟨rfl, DB.out⟩
end Go.Proofs.Ytcabocppplokgaa
