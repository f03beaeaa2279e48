/-
  Layer 3: ready, call; what is told of a disk; Arm.
-/
import Derived.Test.YtcabocppplokgaaDskB
namespace Go.Proofs.Ytcabocppplokgaa
open Go.RowKit

section
variable {w : World} {p sb mb cs : Nat} {V : Nat → Value} {st : Dk}
theorem DiskAt.c0 (h : DiskAt w p sb mb cs V st) : w.cell? ⟨p, 0, none⟩ = some (.slice (some ⟨sb, 0, none⟩) st.S.length cs) := cell_at h.blk rfl
theorem DiskAt.c1 (h : DiskAt w p sb mb cs V st) : w.cell? ⟨p, 1, none⟩ = some (.map (some mb)) := cell_at h.blk rfl
theorem DiskAt.c2 (h : DiskAt w p sb mb cs V st) : w.cell? ⟨p, 2, none⟩ = some (.int .i64 st.calls) := cell_at h.blk rfl
theorem DiskAt.c3 (h : DiskAt w p sb mb cs V st) : w.cell? ⟨p, 3, none⟩ = some (.int .i64 st.armed) := cell_at h.blk rfl
theorem DiskAt.c4 (h : DiskAt w p sb mb cs V st) : w.cell? ⟨p, 4, none⟩ = some (.bool st.down) := cell_at h.blk rfl
theorem DiskAt.fr (h : DiskAt w p sb mb cs V st) (i : Nat) : w.frozen? ⟨p, i, none⟩ = false := free_at h.blk i
/-- the counters are set -/
theorem DiskAt.cnt {w' : World} (h : DiskAt w p sb mb cs V st) (ht : Touch (fun k => k = p) w w') (c a : Int) (d : Bool) (ha : 0 ≤ a ∧ a ≤ 9223372036854775807)
    (hb : w'.heap[p]? = some (.cells #[.slice (some ⟨sb, 0, none⟩) st.S.length cs, .map (some mb), .int .i64 c, .int .i64 a, .bool d] 61 (0, 0))) : DiskAt w' p sb mb cs V ⟨st.S, c, a, d⟩ where
  blk := hb
  safe := h.safe.touch ht (fun k e => by cases e; exact fun e => h.ne1 e.symm)
  map := h.map.same (ht.block mb h.map.lt (fun e => h.ne2 e.symm))
  rows := fun i hi => (h.rows i hi).touch ht (fun k e => (h.rowNe hi e).1)
  apart := h.apart
  apartS := h.apartS
  ok := h.ok
  arm := ha
end

/-- whether something may be done at a sector -/
def readyE (st : Dk) (at' : Int) : Int := if st.down = true then 12 else if at' < 0 ∨ (st.S.length : Int) ≤ at' then 3 else 0
set_option maxHeartbeats 400000 in
theorem ready_walk (p : Nat) (F : Nat → Prop) (st : Dk) (at' : Int) (w : World) (h : Disk w p F st) :
    Calls Try.prog 25 #[.pointer (some ⟨p, 0, none⟩), .int .i64 at'] w fun e w' => e = .returned (.int .i64 (readyE st at')) ∧ w' = w := by
  obtain ⟨sb, mb, cs, V, hd, hF⟩ := h
  have hn := hd.ok.2.1
  have c0 := hd.c0; have c4 := hd.c4
  obtain ⟨S, calls, armed, down⟩ := st
  obtain ⟨n, hnn⟩ : ∃ n, n = S.length := ⟨_, rfl⟩
  have hre : readyE ⟨S, calls, armed, down⟩ at' = if down = true then 12 else if at' < 0 ∨ (n : Int) ≤ at' then 3 else 0 := by rw [hnn]; rfl
  have c0 : w.cell? ⟨p, 0, none⟩ = some (.slice (some ⟨sb, 0, none⟩) n cs) := by rw [hnn]; exact c0
  have c4 : w.cell? ⟨p, 4, none⟩ = some (.bool down) := c4
  have HRE := Lib.hid hre
  clear hd hF hnn hn hre
  rw [HRE.out]
  cases down with
  | true =>
    rw [if_pos rfl]
    clear HRE
    go_enter Try.func25, Try.ntmps25
    go_wp2_with fail
    go_ret
    exact ⟨rfl, rfl⟩
  | false =>
    rw [if_neg (by simp)]
    clear HRE
    by_cases h1 : at' < 0
    · rw [if_pos (.inl h1)]
      go_enter Try.func25, Try.ntmps25
      go_wp2_with fail
      go_ret
      exact ⟨rfl, rfl⟩
    · by_cases h2 : (n : Int) ≤ at'
      · rw [if_pos (.inr h2)]
        go_enter Try.func25, Try.ntmps25
        go_wp2_with fail
        go_ret
        exact ⟨rfl, rfl⟩
      · rw [if_neg (by omega)]
        go_enter Try.func25, Try.ntmps25
        go_wp2_with fail
        go_ret
        exact ⟨rfl, rfl⟩
theorem ready_nil (at' : Int) (w : World) : Calls Try.prog 25 #[.pointer none, .int .i64 at'] w fun e w' => e = .returned (.int .i64 1) ∧ w' = w := by
  go_enter Try.func25, Try.ntmps25
  go_wp2_with fail
  go_ret
  exact ⟨rfl, rfl⟩

/-- a call is counted -/
def callD (st : Dk) : Dk := ⟨st.S, wrap64 (st.calls + 1), if 0 < st.armed then st.armed - 1 else st.armed, if 0 < st.armed then decide (st.armed = 1) else st.down⟩
set_option maxHeartbeats 1000000 in
theorem call_none (p sb mb cs n : Nat) (calls armed : Int) (down : Bool) (w : World) (h0 : ¬ 0 < armed)
    (hblk : w.heap[p]? = some (.cells #[.slice (some ⟨sb, 0, none⟩) n cs, .map (some mb), .int .i64 calls, .int .i64 armed, .bool down] 61 (0, 0))) :
    Calls Try.prog 26 #[.pointer (some ⟨p, 0, none⟩)] w fun e w' => e = .returned (.int .i64 (if down then 12 else 0)) ∧
      w'.heap[p]? = some (.cells #[.slice (some ⟨sb, 0, none⟩) n cs, .map (some mb), .int .i64 (wrap64 (calls + 1)), .int .i64 (armed), .bool (down)] 61 (0, 0)) ∧ Touch (fun k => k = p) w w' := by
  have c2 := cell_at (j := 2) (v := .int .i64 calls) hblk rfl
  have f2 := free_at hblk 2
  obtain ⟨c', hc'⟩ : ∃ c', c' = wrap64 (calls + 1) := ⟨_, rfl⟩
  have hs1 := set_at (i := 2) hblk (.int .i64 c')
  have ht1 : Touch (fun k => k = p) w (w.setCell ⟨p, 2, none⟩ (.int .i64 c')) := (Touch.refl (fun k => k = p) w).setCell (F := fun k => k = p) rfl _
  have HC := Lib.hid hc'; have HS1 := Lib.hid hs1; have HT1 := Lib.hid ht1
  clear hblk hs1 ht1 hc'
  rw [← HC.out]
  go_enter Try.func26, Try.ntmps26
  go_upto_region 2 with fail
  rw [← HC.out]
  have hs1 := HS1.out
  have ht1 := HT1.out
  clear c2 f2 HS1 HT1
  generalize w.setCell ⟨p, 2, none⟩ (.int .i64 c') = w1 at hs1 ht1 ⊢
  have c3 := cell_at (j := 3) (v := .int .i64 armed) hs1 rfl
  have c4 := cell_at (j := 4) (v := .bool down) hs1 rfl
  have HS2 := Lib.hid hs1; have HT2 := Lib.hid ht1
  clear hs1 ht1
  cases down with
  | true =>
    go_wp2_with fail
    go_ret
    exact ⟨rfl, HS2.out, HT2.out⟩
  | false =>
    go_wp2_with fail
    go_ret
    exact ⟨rfl, HS2.out, HT2.out⟩
set_option maxHeartbeats 1000000 in
theorem call_last (p sb mb cs n : Nat) (calls armed : Int) (down : Bool) (w : World) (h0 : armed = 1)
    (hblk : w.heap[p]? = some (.cells #[.slice (some ⟨sb, 0, none⟩) n cs, .map (some mb), .int .i64 calls, .int .i64 armed, .bool down] 61 (0, 0))) :
    Calls Try.prog 26 #[.pointer (some ⟨p, 0, none⟩)] w fun e w' => e = .returned (.int .i64 (12)) ∧
      w'.heap[p]? = some (.cells #[.slice (some ⟨sb, 0, none⟩) n cs, .map (some mb), .int .i64 (wrap64 (calls + 1)), .int .i64 (0), .bool (true)] 61 (0, 0)) ∧ Touch (fun k => k = p) w w' := by
  have c2 := cell_at (j := 2) (v := .int .i64 calls) hblk rfl
  have f2 := free_at hblk 2
  obtain ⟨c', hc'⟩ : ∃ c', c' = wrap64 (calls + 1) := ⟨_, rfl⟩
  have hs1 := set_at (i := 2) hblk (.int .i64 c')
  have ht1 : Touch (fun k => k = p) w (w.setCell ⟨p, 2, none⟩ (.int .i64 c')) := (Touch.refl (fun k => k = p) w).setCell (F := fun k => k = p) rfl _
  have HC := Lib.hid hc'; have HS1 := Lib.hid hs1; have HT1 := Lib.hid ht1
  clear hblk hs1 ht1 hc'
  rw [← HC.out]
  go_enter Try.func26, Try.ntmps26
  go_upto_region 2 with fail
  rw [← HC.out]
  have hs1 := HS1.out
  have ht1 := HT1.out
  clear c2 f2 HS1 HT1
  generalize w.setCell ⟨p, 2, none⟩ (.int .i64 c') = w1 at hs1 ht1 ⊢
  have c3 := cell_at (j := 3) (v := .int .i64 armed) hs1 rfl
  have f3 := free_at hs1 3
  have hs2 := set_at (i := 3) hs1 (.int .i64 (0))
  have ht2 : Touch (fun k => k = p) w (w1.setCell ⟨p, 3, none⟩ (.int .i64 (0))) := ht1.setCell (F := fun k => k = p) rfl _
  have HS2 := Lib.hid hs2; have HT2 := Lib.hid ht2
  clear hs1 ht1 hs2 ht2
  go_upto_region 4 with fail
  have hs2 := HS2.out
  have ht2 := HT2.out
  clear c3 f3 HS2 HT2
  generalize w1.setCell ⟨p, 3, none⟩ (.int .i64 (0)) = w2 at hs2 ht2 ⊢
  have c3 := cell_at (j := 3) (v := .int .i64 (0)) hs2 rfl
  have f4 := free_at hs2 4
  have c4 := cell_at (j := 4) (v := .bool down) hs2 rfl
  have hs3 := set_at (i := 4) hs2 (.bool true)
  have ht3 : Touch (fun k => k = p) w (w2.setCell ⟨p, 4, none⟩ (.bool true)) := ht2.setCell (F := fun k => k = p) rfl _
  skip
  have HS3 := Lib.hid hs3; have HT3 := Lib.hid ht3
  clear hs2 ht2 hs3 ht3
  go_upto_region 5 with fail
  have hs3 := HS3.out
  have ht3 := HT3.out
  clear c3 f4 c4 HS3 HT3
  generalize w2.setCell ⟨p, 4, none⟩ (.bool true) = w3 at hs3 ht3 ⊢
  have c4 := cell_at (j := 4) (v := .bool true) hs3 rfl
  have HS3 := Lib.hid hs3; have HT3 := Lib.hid ht3
  clear hs3 ht3
  go_wp2_with fail
  go_ret
  exact ⟨rfl, HS3.out, HT3.out⟩
set_option maxHeartbeats 1000000 in
theorem call_more (p sb mb cs n : Nat) (calls armed : Int) (down : Bool) (w : World) (h0 : 1 < armed) (h9 : armed ≤ 9223372036854775807)
    (hblk : w.heap[p]? = some (.cells #[.slice (some ⟨sb, 0, none⟩) n cs, .map (some mb), .int .i64 calls, .int .i64 armed, .bool down] 61 (0, 0))) :
    Calls Try.prog 26 #[.pointer (some ⟨p, 0, none⟩)] w fun e w' => e = .returned (.int .i64 (0)) ∧
      w'.heap[p]? = some (.cells #[.slice (some ⟨sb, 0, none⟩) n cs, .map (some mb), .int .i64 (wrap64 (calls + 1)), .int .i64 (armed - 1), .bool (false)] 61 (0, 0)) ∧ Touch (fun k => k = p) w w' := by
  have c2 := cell_at (j := 2) (v := .int .i64 calls) hblk rfl
  have f2 := free_at hblk 2
  obtain ⟨c', hc'⟩ : ∃ c', c' = wrap64 (calls + 1) := ⟨_, rfl⟩
  have hs1 := set_at (i := 2) hblk (.int .i64 c')
  have ht1 : Touch (fun k => k = p) w (w.setCell ⟨p, 2, none⟩ (.int .i64 c')) := (Touch.refl (fun k => k = p) w).setCell (F := fun k => k = p) rfl _
  have HC := Lib.hid hc'; have HS1 := Lib.hid hs1; have HT1 := Lib.hid ht1
  clear hblk hs1 ht1 hc'
  rw [← HC.out]
  go_enter Try.func26, Try.ntmps26
  go_upto_region 2 with fail
  rw [← HC.out]
  have hs1 := HS1.out
  have ht1 := HT1.out
  clear c2 f2 HS1 HT1
  generalize w.setCell ⟨p, 2, none⟩ (.int .i64 c') = w1 at hs1 ht1 ⊢
  have c3 := cell_at (j := 3) (v := .int .i64 armed) hs1 rfl
  have h00 : 0 < armed := by omega
  have f3 := free_at hs1 3
  have hs2 := set_at (i := 3) hs1 (.int .i64 (armed - 1))
  have ht2 : Touch (fun k => k = p) w (w1.setCell ⟨p, 3, none⟩ (.int .i64 (armed - 1))) := ht1.setCell (F := fun k => k = p) rfl _
  have HS2 := Lib.hid hs2; have HT2 := Lib.hid ht2
  clear hs1 ht1 hs2 ht2
  go_upto_region 4 with fail
  have hs2 := HS2.out
  have ht2 := HT2.out
  clear c3 f3 HS2 HT2
  generalize w1.setCell ⟨p, 3, none⟩ (.int .i64 (armed - 1)) = w2 at hs2 ht2 ⊢
  have c3 := cell_at (j := 3) (v := .int .i64 (armed - 1)) hs2 rfl
  have f4 := free_at hs2 4
  have c4 := cell_at (j := 4) (v := .bool down) hs2 rfl
  have hs3 := set_at (i := 4) hs2 (.bool false)
  have ht3 : Touch (fun k => k = p) w (w2.setCell ⟨p, 4, none⟩ (.bool false)) := ht2.setCell (F := fun k => k = p) rfl _
  have hz : (armed - 1 == 0) = false := by rw [beq_eq_false_iff_ne]; omega
  have HS3 := Lib.hid hs3; have HT3 := Lib.hid ht3
  clear hs2 ht2 hs3 ht3
  go_upto_region 5 with fail
  have hs3 := HS3.out
  have ht3 := HT3.out
  clear c3 f4 c4 HS3 HT3
  generalize w2.setCell ⟨p, 4, none⟩ (.bool false) = w3 at hs3 ht3 ⊢
  have c4 := cell_at (j := 4) (v := .bool false) hs3 rfl
  have HS3 := Lib.hid hs3; have HT3 := Lib.hid ht3
  clear hs3 ht3
  go_wp2_with fail
  go_ret
  exact ⟨rfl, HS3.out, HT3.out⟩
theorem call_walk (p : Nat) (F : Nat → Prop) (st : Dk) (w : World) (h : Disk w p F st) :
    Calls Try.prog 26 #[.pointer (some ⟨p, 0, none⟩)] w fun e w' => e = .returned (.int .i64 (if (callD st).down then 12 else 0)) ∧ Disk w' p F (callD st) ∧ Touch (fun k => k = p) w w' := by
  obtain ⟨sb, mb, cs, V, hd, hF⟩ := h
  have ha := hd.arm
  by_cases h0 : 0 < st.armed
  · by_cases h1 : st.armed = 1
    · have e : callD st = ⟨st.S, wrap64 (st.calls + 1), 0, true⟩ := by unfold callD; rw [if_pos h0, if_pos h0, h1]; rfl
      rw [e]
      refine (call_last p sb mb cs st.S.length st.calls st.armed st.down w h1 hd.blk).mono fun r w' ⟨h2, h3, h4⟩ => ⟨h2, ⟨sb, mb, cs, V, hd.cnt h4 _ _ _ (by omega) h3, hF⟩, h4⟩
    · have e : callD st = ⟨st.S, wrap64 (st.calls + 1), st.armed - 1, false⟩ := by unfold callD; rw [if_pos h0, if_pos h0, decide_eq_false h1]
      rw [e]
      refine (call_more p sb mb cs st.S.length st.calls st.armed st.down w (by omega) ha.2 hd.blk).mono fun r w' ⟨h2, h3, h4⟩ => ⟨h2, ⟨sb, mb, cs, V, hd.cnt h4 _ _ _ (by omega) h3, hF⟩, h4⟩
  · have e : callD st = ⟨st.S, wrap64 (st.calls + 1), st.armed, st.down⟩ := by unfold callD; rw [if_neg h0, if_neg h0]
    rw [e]
    refine (call_none p sb mb cs st.S.length st.calls st.armed st.down w h0 hd.blk).mono fun r w' ⟨h2, h3, h4⟩ => ⟨h2, ⟨sb, mb, cs, V, hd.cnt h4 _ _ _ ha h3, hF⟩, h4⟩

theorem down_walk (p : Nat) (F : Nat → Prop) (st : Dk) (w : World) (h : Disk w p F st) :
    Calls Try.prog 16 #[.pointer (some ⟨p, 0, none⟩)] w fun e w' => e = .returned (.bool st.down) ∧ w' = w := by
  obtain ⟨sb, mb, cs, V, hd, hF⟩ := h
  have hc := hd.c4
  clear hd hF
  go_enter Try.func16, Try.ntmps16
  go_wp2_with fail
  go_ret
  exact ⟨rfl, rfl⟩
theorem down_nil (w : World) : Calls Try.prog 16 #[.pointer none] w fun e w' => e = .returned (.bool true) ∧ w' = w := by
  go_enter Try.func16, Try.ntmps16
  go_wp2_with fail
  go_ret
  exact ⟨rfl, rfl⟩
theorem calls_walk (p : Nat) (F : Nat → Prop) (st : Dk) (w : World) (h : Disk w p F st) :
    Calls Try.prog 17 #[.pointer (some ⟨p, 0, none⟩)] w fun e w' => e = .returned (.int .i64 st.calls) ∧ w' = w := by
  obtain ⟨sb, mb, cs, V, hd, hF⟩ := h
  have hc := hd.c2
  clear hd hF
  go_enter Try.func17, Try.ntmps17
  go_wp2_with fail
  go_ret
  exact ⟨rfl, rfl⟩
theorem calls_nil (w : World) : Calls Try.prog 17 #[.pointer none] w fun e w' => e = .returned (.int .i64 0) ∧ w' = w := by
  go_enter Try.func17, Try.ntmps17
  go_wp2_with fail
  go_ret
  exact ⟨rfl, rfl⟩
theorem len_walk (p : Nat) (F : Nat → Prop) (st : Dk) (w : World) (h : Disk w p F st) :
    Calls Try.prog 13 #[.pointer (some ⟨p, 0, none⟩)] w fun e w' => e = .returned (.int .i64 st.S.length) ∧ w' = w := by
  obtain ⟨sb, mb, cs, V, hd, hF⟩ := h
  have hc := hd.c0
  clear hd hF
  go_enter Try.func13, Try.ntmps13
  go_wp2_with fail
  go_ret
  exact ⟨rfl, rfl⟩
theorem len_nil (w : World) : Calls Try.prog 13 #[.pointer none] w fun e w' => e = .returned (.int .i64 0) ∧ w' = w := by
  go_enter Try.func13, Try.ntmps13
  go_wp2_with fail
  go_ret
  exact ⟨rfl, rfl⟩

/-- armed for a call -/
def armD (st : Dk) (n : Int) : Dk := ⟨st.S, st.calls, max n 0, st.down⟩
theorem arm_walk (p : Nat) (F : Nat → Prop) (st : Dk) (n : Int) (w : World) (hn : n ≤ 9223372036854775807) (h : Disk w p F st) :
    Calls Try.prog 24 #[.pointer (some ⟨p, 0, none⟩), .int .i64 n] w fun e w' => e = .returned (.tuple #[]) ∧ Disk w' p F (armD st n) ∧ Touch (fun k => k = p) w w' := by
  obtain ⟨sb, mb, cs, V, hd, hF⟩ := h
  obtain ⟨m, hm⟩ : ∃ m, m = max n 0 := ⟨_, rfl⟩
  have hm0 : 0 ≤ m ∧ m ≤ 9223372036854775807 := by omega
  have hf := hd.fr 3
  have hc := hd.c3
  have hs := set_at (i := 3) hd.blk (.int .i64 m)
  have ht : Touch (fun k => k = p) w (w.setCell ⟨p, 3, none⟩ (.int .i64 m)) := (Touch.refl (fun k => k = p) w).setCell (F := fun k => k = p) rfl _
  have HK := Lib.hid (hd.cnt ht st.calls m st.down hm0 hs)
  have HT := Lib.hid ht; have HF := Lib.hid hF; have HM := Lib.hid hm
  clear hd hF hs ht
  clear hm
  by_cases h0 : 0 < n
  · obtain rfl : m = n := by have := HM.out; omega
    go_enter Try.func24, Try.ntmps24
    go_wp2_with fail
    refine bodyPost_end (results_none rfl _ _ _) rfl ⟨rfl, ⟨sb, mb, cs, V, ?_, HF.out⟩, HT.out⟩
    unfold armD
    rw [← HM.out]
    exact HK.out
  obtain rfl : m = 0 := by have := HM.out; omega
  by_cases h1 : n < 0
  · skip
    go_enter Try.func24, Try.ntmps24
    go_wp2_with fail
    refine bodyPost_end (results_none rfl _ _ _) rfl ⟨rfl, ⟨sb, mb, cs, V, ?_, HF.out⟩, HT.out⟩
    unfold armD
    rw [← HM.out]
    exact HK.out
  · obtain rfl : n = 0 := by omega
    go_enter Try.func24, Try.ntmps24
    go_wp2_with fail
    refine bodyPost_end (results_none rfl _ _ _) rfl ⟨rfl, ⟨sb, mb, cs, V, ?_, HF.out⟩, HT.out⟩
    unfold armD
    rw [← HM.out]
    exact HK.out
theorem arm_nil (n : Int) (w : World) : Calls Try.prog 24 #[.pointer none, .int .i64 n] w fun e w' => e = .returned (.tuple #[]) ∧ w' = w := by
  go_enter Try.func24, Try.ntmps24
  go_wp2_with fail
  exact bodyPost_end (results_none rfl _ _ _) rfl ⟨rfl, rfl⟩
end Go.Proofs.Ytcabocppplokgaa
