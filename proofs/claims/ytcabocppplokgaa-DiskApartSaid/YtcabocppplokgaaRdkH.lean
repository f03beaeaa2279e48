/-
  Layer 3: a call of both.
-/
import Derived.Test.YtcabocppplokgaaRdkG
import Derived.Test.YtcabocppplokgaaMix
namespace Go.Proofs.Ytcabocppplokgaa
open Go.RowKit

/-- a disk and the reference's, of one state -/
structure Both (w : World) (p : Nat) (F : Nat → Prop) (q : Nat) (R : Nat → Prop) (st : Dk) : Prop where
  disk : Disk w p F st
  ref : Ref w q R st
  apart : ¬ F q ∧ ∀ k, R k → ¬ F k
theorem Ref.ltR {w : World} {q : Nat} {R : Nat → Prop} {st : Dk} (h : Ref w q R st) (k : Nat) (hk : R k) : k < w.heap.size := by
  obtain ⟨_, _, _, h⟩ := h
  exact h.lt k hk
theorem Ref.far {w : World} {q : Nat} {R : Nat → Prop} {st : Dk} (h : Ref w q R st) : ¬ R q := by
  obtain ⟨_, _, _, h⟩ := h
  exact h.far
theorem Both.below {w w' : World} {p q : Nat} {F R : Nat → Prop} {st : Dk} (h : Both w p F q R st) (hb : Below w.heap.size w w') : Both w' p F q R st := ⟨h.disk.below hb, h.ref.below hb, h.apart⟩
/-- what a call of both leaves -/
def BothPost (p : Nat) (F : Nat → Prop) (q : Nat) (R : Nat → Prop) (w : World) (st : Dk) (v : Value) (e : Ending) (w' : World) : Prop :=
  e = .returned v ∧ ∃ F' R', Both w' p F' q R' st ∧ (∀ k, F' k → F k ∨ w.heap.size ≤ k) ∧ (∀ k, R' k → R k ∨ w.heap.size ≤ k) ∧ Touch (fun k => F k ∨ k = q) w w'
/-- the disk has done it, then the reference -/
theorem both_two {w w1 w2 : World} {p q : Nat} {F F' R R' : Nat → Prop} {st st' : Dk} (h : Both w p F q R st) (hd : Disk w1 p F' st') (hs : Stp F w F' w1) (hr : Ref w2 q R' st') (hR : ∀ k, R' k → R k ∨ w1.heap.size ≤ k) (ht : Touch (fun k => k = q) w1 w2) (v : Value) :
    BothPost p F q R w st' v (.returned v) w2 := by
  have hq := h.ref.ltq
  have hFq : ¬ F' q := fun hf => (hs.new q hf).elim h.apart.1 (fun e => by omega)
  refine ⟨rfl, F', R', ⟨hd.touch ht (fun k hk e => hFq (by rw [← e]; exact hk)), hr, hFq, fun k hk hf => ?_⟩, hs.new, fun k hk => (hR k hk).imp id (fun e => Nat.le_trans hs.touch.size e), (hs.touch.mono (fun k _ hk => .inl hk)).trans (ht.mono (fun k _ e => .inr e))⟩
  rcases hR k hk with hk | hk
  · exact (hs.new k hf).elim (h.apart.2 k hk) (fun e => by have := h.ref.ltR k hk; omega)
  · have := hd.lt k hf; omega
theorem Both.refAt {w w1 : World} {p q : Nat} {F F' R : Nat → Prop} {st : Dk} (h : Both w p F q R st) (hs : Stp F w F' w1) : Ref w1 q R st := h.ref.touch hs.touch h.apart.1 h.apart.2
/-- behind an act -/
def actD (st : Dk) (a : DAct) : Dk :=
  if a.kind = 3 then st else if a.kind = 4 then (flushD st).2 else if a.kind = 5 then armD st a.n else if a.kind = 6 then crashD st a.keep else (writeD st a.at' a.s).2

theorem both_same {w w1 : World} {p q : Nat} {F R : Nat → Prop} {st : Dk} (h : Both w p F q R st) (hb : Below w.heap.size w w1) (v : Value) : BothPost p F q R w st v (.returned v) w1 :=
  ⟨rfl, F, R, h.below hb, fun _ hk => .inl hk, fun _ hk => .inl hk, Touch.ofBelow _ hb⟩
theorem BothPost.from {w w1 w2 : World} {p q : Nat} {F R : Nat → Prop} {st : Dk} {v : Value} {e : Ending} (hb : Below w.heap.size w w1) (h : BothPost p F q R w1 st v e w2) : BothPost p F q R w st v e w2 := by
  obtain ⟨h1, F', R', h2, h3, h4, h5⟩ := h
  exact ⟨h1, F', R', h2, fun k hk => (h3 k hk).imp id (Nat.le_trans hb.size), fun k hk => (h4 k hk).imp id (Nat.le_trans hb.size), (Touch.ofBelow _ hb).trans h5⟩

set_option maxHeartbeats 4000000 in
theorem do_read (p q : Nat) (F R : Nat → Prop) (st : Dk) (a : DAct) (w : World) (h : Both w p F q R st) (hk : a.kind = 3) (hat : wide a.at') :
    Calls Try.prog 15 #[.pointer (some ⟨p, 0, none⟩), .pointer (some ⟨q, 0, none⟩), .agg (dactv a).toArray] w fun e w' => BothPost p F q R w st (.bool true) e w' := by
  obtain ⟨kind, at', n, s, ad, keep, capk⟩ := a
  simp only at hk hat
  subst hk
  obtain ⟨W, hW⟩ : ∃ W, W = w.alloc (.cells #[.int .i64 3, .int .i64 at', .int .i64 n, .string s, .slice ad keep.length capk] 35) := ⟨_, rfl⟩
  obtain ⟨cb, hcb⟩ : ∃ cb, cb = w.heap.size := ⟨_, rfl⟩
  have hbW : Below w.heap.size w W := by rw [hW]; exact (Below.refl w.heap.size w).alloc (Nat.le_refl _) _
  have g1 : W.heap[cb]? = some (.cells #[.int .i64 3, .int .i64 at', .int .i64 n, .string s, .slice ad keep.length capk] 35 (0, 0)) := by rw [hW, hcb]; exact heap_alloc_top _ _
  have hB := h.below hbW
  have KR := Lib.hid (read_walk p F st at' W hB.disk)
  have c0 := cell_at (j := 0) (v := .int .i64 3) g1 rfl
  have c1 := cell_at (j := 1) (v := .int .i64 at') g1 rfl
  have HW := Lib.hid hW; have HCB := Lib.hid hcb; have HB := Lib.hid hB; have HBW := Lib.hid hbW; have HH := Lib.hid h; have G1 := Lib.hid g1
  obtain ⟨rb, cap, V, hd⟩ := hB.ref
  have hq3 := hd.c3
  have hq0 := hd.c0
  have HQL := Lib.hid (lt_of_block hd.blk); have HOK := Lib.hid hd.ok
  clear hW hcb hB hbW h g1 hd
  change Calls _ _ #[_, _, .agg #[.int .i64 3, .int .i64 at', .int .i64 n, .string s, .slice ad keep.length capk]] _ _
  go_enter Try.func15, Try.ntmps15
  go_upto_region 1 with fail
  refine wp_world HW.out ?_
  rw [← HCB.out]
  go_wp2_with fail
  refine KR.out.mono ?_
  rintro e w2 ⟨rfl, hb2⟩
  have HB2 := Lib.hid hb2
  have k3 := (hb2.cell (p := ⟨q, 3, none⟩) HQL.out).trans hq3
  have HK1 := Lib.hid ((hb2.cell (p := ⟨cb, 1, none⟩) (lt_of_block G1.out)).trans c1)
  have HK0 := Lib.hid ((hb2.cell (p := ⟨q, 0, none⟩) HQL.out).trans hq0)
  have HFIN := Lib.hid (fun v => both_same HH.out (HBW.out.trans (hb2.mono HBW.out.size)) v)
  clear hb2 KR c0 c1 hq3 hq0
  cases hdn : st.down with
  | true =>
    have hrd : readD st at' = (⟨#[]⟩, 12) := by unfold readD readyE; rw [if_pos hdn, if_neg (by omega)]
    rw [hrd]
    rw [hdn] at k3
    clear hrd hdn
    go_wp2_with fail
    go_ret
    exact HFIN.out _
  | false =>
    rw [hdn] at k3
    by_cases hr : at' < 0 ∨ (st.S.length : Int) ≤ at'
    · have hre : readyE st at' = 3 := by unfold readyE; rw [if_neg (by rw [hdn]; simp), if_pos hr]
      have hrd : readD st at' = (⟨#[]⟩, 3) := by unfold readD; rw [if_neg (by rw [hre]; omega), hre]
      rw [hrd]
      obtain ⟨m, hm⟩ : ∃ m, m = st.S.length := ⟨_, rfl⟩
      rw [← hm] at HK0 hr
      have hm4 : (m : Int) ≤ 4096 := by have := HOK.out.2.1; omega
      clear hrd hdn hre hm
      have e0 : ∀ y : Sub w2.heap.size w2, y.val.cell? ⟨cb, 1, none⟩ = some (.int .i64 at') := fun y => sub_cell HK1.out (block_lt_of_cell HK1.out) y
      have e1 : ∀ y : Sub w2.heap.size w2, y.val.cell? ⟨q, 0, none⟩ = some (.slice (some ⟨rb, 0, none⟩) m cap) := fun y => sub_cell HK0.out (block_lt_of_cell HK0.out) y
      by_cases hneg : at' < 0
      · clear hr
        go_upto_region 6 with fail
        refine wp_region_sub (W := w2) (B := w2.heap.size) (by kernel_rfl) (by kernel_rfl) (Below.refl _ _) ?_
        repeat (any_goals (first
          | go_big_quiet_skip
          | go_big_quiet_step (fail)
          | quiet_step (fail)))
        refine wpQuiet_nil ?_
        rintro w9 ⟨x9, rfl⟩
        have HF9 := Lib.hid (fun v => both_same HH.out ((HBW.out.trans (HB2.out.mono HBW.out.size)).trans (x9.below.mono (Nat.le_trans HBW.out.size HB2.out.size))) v)
        go_wp2_with fail
        go_ret
        exact HF9.out _
      · have hge : (m : Int) ≤ at' := by omega
        clear hr
        go_upto_region 6 with fail
        refine wp_region_sub (W := w2) (B := w2.heap.size) (by kernel_rfl) (by kernel_rfl) (Below.refl _ _) ?_
        repeat (any_goals (first
          | go_big_quiet_skip
          | go_big_quiet_step (fail)
          | quiet_step (fail)))
        refine wpQuiet_nil ?_
        rintro w9 ⟨x9, rfl⟩
        have HF9 := Lib.hid (fun v => both_same HH.out ((HBW.out.trans (HB2.out.mono HBW.out.size)).trans (x9.below.mono (Nat.le_trans HBW.out.size HB2.out.size))) v)
        go_wp2_with fail
        go_ret
        exact HF9.out _
    · obtain ⟨i, rfl⟩ := Int.eq_ofNat_of_zero_le (show 0 ≤ at' by omega)
      have hi : i < st.S.length := by omega
      have hre : readyE st i = 0 := by unfold readyE; rw [if_neg (by rw [hdn]; simp), if_neg hr]
      have hrd : readD st i = (txt (lastS st.S i), 0) := by unfold readD; rw [if_pos hre]; rfl
      rw [hrd]
      obtain ⟨m, hm⟩ : ∃ m, m = st.S.length := ⟨_, rfl⟩
      obtain ⟨x, hx⟩ : ∃ x, x = txt (lastS st.S i) := ⟨_, rfl⟩
      have HRR := Lib.hid (fun w9 (hb9 : Below w2.heap.size w2 w9) => by
        have := rread_disk q R st i w9 (((HB.out.below HB2.out).ref).below hb9) hi
        rw [← hx] at this
        exact this)
      rw [← hx]
      rw [← hm] at HK0 hr
      have hm4 : (m : Int) ≤ 4096 := by have := HOK.out.2.1; omega
      have hneg : ¬ (i : Int) < 0 := by omega
      have hlt : (i : Int) < (m : Int) := by omega
      have hge : ¬ (m : Int) ≤ (i : Int) := by omega
      clear hrd hdn hre hm hi hx hr
      have e0 : ∀ y : Sub w2.heap.size w2, y.val.cell? ⟨cb, 1, none⟩ = some (.int .i64 i) := fun y => sub_cell HK1.out (block_lt_of_cell HK1.out) y
      have e1 : ∀ y : Sub w2.heap.size w2, y.val.cell? ⟨q, 0, none⟩ = some (.slice (some ⟨rb, 0, none⟩) m cap) := fun y => sub_cell HK0.out (block_lt_of_cell HK0.out) y
      go_upto_region 6 with fail
      refine wp_region_sub (W := w2) (B := w2.heap.size) (by kernel_rfl) (by kernel_rfl) (Below.refl _ _) ?_
      repeat (any_goals (first
        | go_big_quiet_skip
        | go_big_quiet_step (fail)
        | quiet_step (fail)))
      refine wpQuiet_nil ?_
      rintro w9 ⟨x9, rfl⟩
      have hb9 := x9.below
      have k1 := (hb9.cell (p := ⟨cb, 1, none⟩) (block_lt_of_cell HK1.out)).trans HK1.out
      have HRC := Lib.hid (HRR.out x9.val hb9)
      have HB9 := Lib.hid hb9
      clear hb9
      go_wp2_with fail
      refine HRC.out.mono ?_
      rintro e w10 ⟨rfl, hb10⟩
      have HF9 := Lib.hid (fun v => both_same HH.out (((HBW.out.trans (HB2.out.mono HBW.out.size)).trans (HB9.out.mono (Nat.le_trans HBW.out.size HB2.out.size))).trans (hb10.mono (Nat.le_trans (Nat.le_trans HBW.out.size HB2.out.size) HB9.out.size))) v)
      clear hb10
      go_wp2_with fail
      go_ret
      exact HF9.out _
end Go.Proofs.Ytcabocppplokgaa
