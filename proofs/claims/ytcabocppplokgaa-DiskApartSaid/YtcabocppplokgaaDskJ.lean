/-
  Layer 3: Flush, Crash.
-/
import Derived.Test.YtcabocppplokgaaDskI
namespace Go.Proofs.Ytcabocppplokgaa
open Go.RowKit

theorem wrap_int (x : Int) (h : -9223372036854775808 ≤ x ∧ x ≤ 9223372036854775807) : wrap64 x = x := IntWalk.wrap64_in _ ⟨by omega, by omega⟩

/-- what an operation leaves -/
def DiskPost (p : Nat) (F : Nat → Prop) (w : World) (v : Value) (st : Dk) (e : Ending) (w' : World) : Prop := e = .returned v ∧ ∃ F', Disk w' p F' st ∧ Stp F w F' w'

def lastOf (_ : Nat) (L : List Sec) : Sec := L.getLastD []
/-- what Flush answers, and leaves -/
def flushD (st : Dk) : Int × Dk :=
  if readyE st 0 ≠ 0 then (readyE st 0, st) else if (callD st).down = true then (12, callD st)
  else (0, ⟨settleN lastOf st.S (dirt st.S) (dirt st.S).length, (callD st).calls, (callD st).armed, (callD st).down⟩)
theorem last_len1 (i : Nat) (L : List Sec) (h : L ≠ []) (h64 : ∀ s ∈ L, s.length = 64) : (lastOf i L).length = 64 := by
  unfold lastOf
  rw [List.getLastD_eq_getLast?, List.getLast?_eq_some_getLast h]
  exact h64 _ (List.getLast_mem h)

set_option maxHeartbeats 2000000 in
theorem flush_walk (p : Nat) (F : Nat → Prop) (st : Dk) (w : World) (h : Disk w p F st) (hlen : ∀ i, (pend st.S i).length ≤ 1000000000) :
    Calls Try.prog 9 #[.pointer (some ⟨p, 0, none⟩)] w fun e w' => DiskPost p F w (.int .i64 (flushD st).1) (flushD st).2 e w' := by
  have hrw := ready_walk p F st 0 w h
  by_cases h0 : readyE st 0 = 0
  · rw [h0] at hrw
    have hcw := call_walk p F st w h
    cases hdn : (callD st).down with
    | true =>
      have hwd : flushD st = (12, callD st) := by unfold flushD; rw [if_neg (by simpa using h0), if_pos hdn]
      rw [hwd]
      rw [hdn, if_pos rfl] at hcw
      have HRW := Lib.hid hrw; have HCW := Lib.hid hcw; have HH := Lib.hid h
      clear h h0 hrw hcw hwd hlen
      go_enter Try.func9, Try.ntmps9
      go_wp2_with fail
      refine HRW.out.mono ?_
      rintro e w1 ⟨rfl, rfl⟩
      go_wp2_with fail
      refine HCW.out.mono ?_
      rintro e w2 ⟨rfl, hd2, ht2⟩
      have K1 := Lib.hid hd2; have K2 := Lib.hid (touch_p HH.out hd2 ht2)
      clear hd2 ht2
      go_wp2_with fail
      go_ret
      exact ⟨rfl, F, K1.out, K2.out⟩
    | false =>
      have hwd : flushD st = (0, ⟨settleN lastOf st.S (dirt st.S) (dirt st.S).length, (callD st).calls, (callD st).armed, (callD st).down⟩) := by
        unfold flushD; rw [if_neg (by simpa using h0), if_neg (by rw [hdn]; simp)]
      rw [hwd]
      rw [hdn, if_neg (by simp)] at hcw
      have HRW := Lib.hid hrw; have HCW := Lib.hid hcw; have HH := Lib.hid h; have HL := Lib.hid hlen
      clear h h0 hrw hcw hwd hlen
      go_enter Try.func9, Try.ntmps9
      go_wp2_with fail
      refine HRW.out.mono ?_
      rintro e w1 ⟨rfl, rfl⟩
      go_wp2_with fail
      refine HCW.out.mono ?_
      rintro e w2 ⟨rfl, hd2, ht2⟩
      have K2 := Lib.hid (touch_p HH.out hd2 ht2)
      have KS := Lib.hid (settle1_walk 0 p F (callD st) lastOf w2 hd2 HL.out (fun i L h h64 => last_len1 i L h h64) (fun j L g cap w' _ hr hL h64 hc => flush1_walk j L g cap w' hr hL h64 (by omega)))
      clear hd2 ht2
      go_wp2_with fail
      refine KS.out.mono ?_
      rintro e w3 ⟨rfl, F', hd3, hf3, ht3⟩
      have K3 := Lib.hid hd3; have K4 := Lib.hid (K2.out.trans ⟨ht3, fun k hk => .inl (hf3 k hk)⟩)
      clear hd3 hf3 ht3
      go_wp2_with fail
      go_ret
      exact ⟨rfl, F', K3.out, K4.out⟩
  · have hwd : flushD st = (readyE st 0, st) := by unfold flushD; rw [if_pos h0]
    rw [hwd]
    obtain ⟨r, hr⟩ : ∃ r, r = readyE st 0 := ⟨_, rfl⟩
    rw [← hr] at hrw h0 ⊢
    have hz : (r == 0) = false := by rw [beq_eq_false_iff_ne]; exact h0
    have HRW := Lib.hid hrw; have HH := Lib.hid h
    clear h hrw hr hwd h0 hlen
    go_enter Try.func9, Try.ntmps9
    go_wp2_with fail
    refine HRW.out.mono ?_
    rintro e w1 ⟨rfl, rfl⟩
    go_wp2_with fail
    go_ret
    exact ⟨rfl, F, HH.out, Stp.refl _ _⟩

/-- what Crash leaves -/
def crashOf (keep : List Int) (i : Nat) (L : List Sec) : Sec := L.getD (crashK keep i L.length) []
def crashD (st : Dk) (keep : List Int) : Dk := ⟨settleN (crashOf keep) st.S (dirt st.S) (dirt st.S).length, st.calls, 0, false⟩
theorem crash_len1 (keep : List Int) (i : Nat) (L : List Sec) (h : L ≠ []) (h64 : ∀ s ∈ L, s.length = 64) : (crashOf keep i L).length = 64 := by
  unfold crashOf
  have hq := crashK_lt keep i L.length (List.length_pos_iff.2 h)
  rw [List.getD_eq_getElem?_getD, List.getElem?_eq_getElem hq]
  exact h64 _ (List.getElem_mem _)

set_option maxHeartbeats 2000000 in
theorem crash_walk (p : Nat) (F : Nat → Prop) (st : Dk) (keep : List Int) (adk : Option Addr) (capk : Nat) (w : World) (h : Disk w p F st) (hlen : ∀ i, (pend st.S i).length ≤ 1000000000)
    (hki : intsAt w adk keep) (hkF : keep = [] ∨ ∀ b off, adk = some ⟨b, off, none⟩ → ¬ F b) (hkl : keep.length ≤ 9223372036854775807) (hkr : ∀ x ∈ keep, -9223372036854775808 ≤ x ∧ x ≤ 9223372036854775807) :
    Calls Try.prog 12 #[.pointer (some ⟨p, 0, none⟩), .slice adk keep.length capk] w fun e w' => DiskPost p F w (.tuple #[]) (crashD st keep) e w' := by
  obtain ⟨W, hW⟩ : ∃ W, W = w.alloc (.cells #[.slice adk keep.length capk] 23) := ⟨_, rfl⟩
  obtain ⟨kb, hkb⟩ : ∃ kb, kb = w.heap.size := ⟨_, rfl⟩
  have hb1 : Below w.heap.size w W := by rw [hW]; exact (Below.refl w.heap.size w).alloc (Nat.le_refl _) _
  have g1 : W.heap[kb]? = some (.cells #[.slice adk keep.length capk] 23 (0, 0)) := by rw [hW, hkb]; exact heap_alloc_top _ _
  have hkF2 : ¬ F kb := fun hf => by have := h.lt kb hf; omega
  have hd1 := h.below hb1
  have hki1 := intsAt_touch hki (Touch.ofBelow (fun _ => False) hb1) (fun _ _ _ hf => hf)
  have ks := settle2_walk kb p F st (crashOf keep) W hd1 hlen (fun i L h h64 => crash_len1 keep i L h h64) (fun j L g cap w' ht hr hL h64 hc => by
    refine crash1_walk kb adk capk keep j L g cap w' ((ht.block kb (lt_of_block g1) hkF2).trans g1) (hkF.elim (fun e => .inl e) (fun hkF => intsAt_touch hki1 ht hkF)) hkl hkr hr hL h64 hc)
  have hst1 : Stp F w F W := Stp.ofBelow F hb1
  have HW := Lib.hid hW; have HKB := Lib.hid hkb; have HST := Lib.hid hst1
  have HKS := Lib.hid ks
  clear h hlen hki hkF hkl hkr hW hkb hb1 g1 hkF2 hd1 hki1 ks hst1
  go_enter Try.func12, Try.ntmps12
  go_upto_region 1 with fail
  refine wp_world HW.out ?_
  rw [← HKB.out]
  go_wp2_with fail
  refine HKS.out.mono ?_
  rintro e w3 ⟨rfl, F', hd3, hf3, ht3⟩
  obtain ⟨sb, mb, cs, V, hd, hF⟩ := hd3
  have f3 := hd.fr 3
  have f4 := hd.fr 4
  have c3 := hd.c3
  have c4 := hd.c4
  have HD := Lib.hid hd; have HF := Lib.hid hF; have HS3 := Lib.hid (HST.out.trans ⟨ht3, fun k hk => .inl (hf3 k hk)⟩)
  clear hd hF hf3 ht3
  go_wp2_with fail
  have g1 := set_at (i := 4) HD.out.blk (.bool false)
  have g2 := set_at (i := 3) g1 (.int .i64 0)
  have t2 : Touch (fun k => k = p) w3 ((w3.setCell ⟨p, 4, none⟩ (.bool false)).setCell ⟨p, 3, none⟩ (.int .i64 0)) := ((Touch.refl (fun k => k = p) w3).setCell (F := fun k => k = p) rfl _).setCell rfl _
  have hfin : DiskPost p F w (.tuple #[]) (crashD st keep) (.returned (.tuple #[])) ((w3.setCell ⟨p, 4, none⟩ (.bool false)).setCell ⟨p, 3, none⟩ (.int .i64 0)) :=
    ⟨rfl, F', ⟨sb, mb, cs, V, HD.out.cnt t2 st.calls 0 false (by omega) g2, HF.out⟩, HS3.out.trans ⟨t2.mono (fun k _ e => (HF.out k).2 (.inl e)), fun k hk => .inl hk⟩⟩
  exact bodyPost_end (results_none rfl _ _ _) rfl hfin
theorem crash_nil (adk : Option Addr) (n capk : Nat) (w : World) : Calls Try.prog 12 #[.pointer none, .slice adk n capk] w fun e w' => e = .returned (.tuple #[]) ∧ Below w.heap.size w w' := by
  obtain ⟨W, hW⟩ : ∃ W, W = w.alloc (.cells #[.slice adk n capk] 23) := ⟨_, rfl⟩
  have hb1 : Below w.heap.size w W := by rw [hW]; exact (Below.refl w.heap.size w).alloc (Nat.le_refl _) _
  have HW := Lib.hid hW
  clear hW
  go_enter Try.func12, Try.ntmps12
  go_upto_region 1 with fail
  refine wp_world HW.out ?_
  go_wp2_with fail
  exact bodyPost_ret (results_none rfl _ _ _) rfl ⟨rfl, hb1⟩

theorem read_nil (at' : Int) (_ : ByteArray) (w : World) : Calls Try.prog 10 #[.pointer none, .int .i64 at'] w fun e w' => e = .returned (.tuple #[.string ⟨#[]⟩, .int .i64 1]) ∧ w' = w := by
  have HRW := Lib.hid (ready_nil at' w)
  go_enter Try.func10, Try.ntmps10
  go_wp2_with fail
  refine HRW.out.mono ?_
  rintro e w1 ⟨rfl, rfl⟩
  go_wp2_with fail
  go_ret2
  exact ⟨rfl, rfl⟩
theorem write_nil (at' : Int) (s : ByteArray) (w : World) : Calls Try.prog 11 #[.pointer none, .int .i64 at', .string s] w fun e w' => e = .returned (.int .i64 1) ∧ w' = w := by
  have HRW := Lib.hid (ready_nil at' w)
  go_enter Try.func11, Try.ntmps11
  go_wp2_with fail
  refine HRW.out.mono ?_
  rintro e w1 ⟨rfl, rfl⟩
  go_wp2_with fail
  go_ret
  exact ⟨rfl, rfl⟩
theorem flush_nil (w : World) : Calls Try.prog 9 #[.pointer none] w fun e w' => e = .returned (.int .i64 1) ∧ w' = w := by
  have HRW := Lib.hid (ready_nil 0 w)
  go_enter Try.func9, Try.ntmps9
  go_wp2_with fail
  refine HRW.out.mono ?_
  rintro e w1 ⟨rfl, rfl⟩
  go_wp2_with fail
  go_ret
  exact ⟨rfl, rfl⟩
theorem dirty_nil (w : World) : Calls Try.prog 19 #[.pointer none] w fun e w' => e = .returned (.slice none 0 0) ∧ w' = w := by
  go_enter Try.func19, Try.ntmps19
  go_wp2_with fail
  go_step3
  go_wp2_with fail
  go_step3
  go_wp2_with fail
  go_loopg [3, 4] 0 (fun gk v3 v4 wr => v3 = .slice none 0 0 ∧ wr = w)
  case atStart => exact ⟨rfl, rfl⟩
  case round =>
    obtain ⟨rfl, rfl⟩ := hrel
    go_wp2_with fail
    try rw [Exit.noGoto_ret]
    go_ret
    exact ⟨rfl, rfl⟩
theorem copy_nil (w : World) : Calls Try.prog 23 #[.pointer none] w fun e w' => e = .returned (.pointer none) ∧ w' = w := by
  go_enter Try.func23, Try.ntmps23
  go_wp2_with fail
  go_ret
  exact ⟨rfl, rfl⟩
end Go.Proofs.Ytcabocppplokgaa
