/-
  Layer 3: Flush, Crash.
  Layer 3: Fill; what must come at any rate.
  Layer 3: how many may be pending (plain); what must come at any rate.
  Layer 3: what is safe, what is dirty, what was written (plain); rows of 16; acts.
  A region that draws its order, walked by a plan: what only reads is taken first; a step comes up alone, or two come up together (then both ways are walked).
-/
import Derived.Test.YtjjejkhekmpgcaaGreatMgG
import Derived.Test.YtjjejkhekmpgcaaGreatMgA
namespace Go.Proofs.YtjjejkhekmpgcaaGreat
set_option maxRecDepth 4000
open Go.RowKit

theorem wrap_int (x : Int) (h : -9223372036854775808 ≤ x ∧ x ≤ 9223372036854775807) : wrap64 x = x := IntWalk.wrap64_in _ ⟨by omega, by omega⟩

/-- what an operation leaves -/
def DiskPost (p : Nat) (F : Nat → Prop) (w : World) (v : Value) (st : Dk) (e : Ending) (w' : World) : Prop := e = .returned v ∧ ∃ F', Disk w' p F' st ∧ Stp F w F' w'

def lastOf (_ : Nat) (L : List Sec) : Sec := L.getLastD []
/-- what Flush answers, and leaves -/
def flushD (st : Dk) : Int × Dk :=
  if readyE st 0 ≠ 0 then (readyE st 0, st) else if (callD st).down = true then (12, callD st)
  else (0, ⟨settleN lastOf st.S (dirt st.S) (dirt st.S).length, (callD st).calls, (callD st).armed, (callD st).down⟩)
theorem last_len1 (i : Nat) (L : List Sec) (h : L ≠ []) (h64 : ∀ s ∈ L, s.length = 64) : (lastOf i L).length = 64 := by
  unfold lastOf
  rw [List.getLastD_eq_getLast?, List.getLast?_eq_some_getLast h]
  exact h64 _ (List.getLast_mem h)

set_option maxHeartbeats 2000000 in
theorem flush_walk (p : Nat) (F : Nat → Prop) (st : Dk) (w : World) (h : Disk w p F st) (hlen : ∀ i, (pend st.S i).length ≤ 1000000000) :
    Calls Tryz.prog 89 #[.pointer (some ⟨p, 0, none⟩)] w fun e w' => DiskPost p F w (.int .i64 (flushD st).1) (flushD st).2 e w' := by
  have hrw := ready_walk p F st 0 w h
  by_cases h0 : readyE st 0 = 0
  · rw [h0] at hrw
    have hcw := call_walk p F st w h
    cases hdn : (callD st).down with
    | true =>
      have hwd : flushD st = (12, callD st) := by unfold flushD; rw [if_neg (by simpa using h0), if_pos hdn]
      rw [hwd]
      rw [hdn, if_pos rfl] at hcw
      have HRW := Lib.hid hrw; have HCW := Lib.hid hcw; have HH := Lib.hid h
      clear h h0 hrw hcw hwd hlen
      go_enter Tryz.func89, Tryz.ntmps89
      go_wp2_with fail
      refine HRW.out.mono ?_
      rintro e w1 ⟨rfl, rfl⟩
      go_wp2_with fail
      refine HCW.out.mono ?_
      rintro e w2 ⟨rfl, hd2, ht2⟩
      have K1 := Lib.hid hd2; have K2 := Lib.hid (touch_p HH.out hd2 ht2)
      clear hd2 ht2
      go_wp2_with fail
      go_ret
      exact ⟨rfl, F, K1.out, K2.out⟩
    | false =>
      have hwd : flushD st = (0, ⟨settleN lastOf st.S (dirt st.S) (dirt st.S).length, (callD st).calls, (callD st).armed, (callD st).down⟩) := by
        unfold flushD; rw [if_neg (by simpa using h0), if_neg (by rw [hdn]; simp)]
      rw [hwd]
      rw [hdn, if_neg (by simp)] at hcw
      have HRW := Lib.hid hrw; have HCW := Lib.hid hcw; have HH := Lib.hid h; have HL := Lib.hid hlen
      clear h h0 hrw hcw hwd hlen
      go_enter Tryz.func89, Tryz.ntmps89
      go_wp2_with fail
      refine HRW.out.mono ?_
      rintro e w1 ⟨rfl, rfl⟩
      go_wp2_with fail
      refine HCW.out.mono ?_
      rintro e w2 ⟨rfl, hd2, ht2⟩
      have K2 := Lib.hid (touch_p HH.out hd2 ht2)
      have KS := Lib.hid (settle1_walk 0 p F (callD st) lastOf w2 hd2 HL.out (fun i L h h64 => last_len1 i L h h64) (fun j L g cap w' _ hr hL h64 hc => flush1_walk j L g cap w' hr hL h64 (by omega)))
      clear hd2 ht2
      go_wp2_with fail
      refine KS.out.mono ?_
      rintro e w3 ⟨rfl, F', hd3, hf3, ht3⟩
      have K3 := Lib.hid hd3; have K4 := Lib.hid (K2.out.trans ⟨ht3, fun k hk => .inl (hf3 k hk)⟩)
      clear hd3 hf3 ht3
      go_wp2_with fail
      go_ret
      exact ⟨rfl, F', K3.out, K4.out⟩
  · have hwd : flushD st = (readyE st 0, st) := by unfold flushD; rw [if_pos h0]
    rw [hwd]
    obtain ⟨r, hr⟩ : ∃ r, r = readyE st 0 := ⟨_, rfl⟩
    rw [← hr] at hrw h0 ⊢
    have hz : (r == 0) = false := by rw [beq_eq_false_iff_ne]; exact h0
    have HRW := Lib.hid hrw; have HH := Lib.hid h
    clear h hrw hr hwd h0 hlen
    go_enter Tryz.func89, Tryz.ntmps89
    go_wp2_with fail
    refine HRW.out.mono ?_
    rintro e w1 ⟨rfl, rfl⟩
    go_wp2_with fail
    go_ret
    exact ⟨rfl, F, HH.out, Stp.refl _ _⟩

/-- what Crash leaves -/
def crashOf (keep : List Int) (i : Nat) (L : List Sec) : Sec := L.getD (crashK keep i L.length) []
def crashD (st : Dk) (keep : List Int) : Dk := ⟨settleN (crashOf keep) st.S (dirt st.S) (dirt st.S).length, st.calls, 0, false⟩
theorem crash_len1 (keep : List Int) (i : Nat) (L : List Sec) (h : L ≠ []) (h64 : ∀ s ∈ L, s.length = 64) : (crashOf keep i L).length = 64 := by
  unfold crashOf
  have hq := crashK_lt keep i L.length (List.length_pos_iff.2 h)
  rw [List.getD_eq_getElem?_getD, List.getElem?_eq_getElem hq]
  exact h64 _ (List.getElem_mem _)

set_option maxHeartbeats 2000000 in
theorem crash_walk (p : Nat) (F : Nat → Prop) (st : Dk) (keep : List Int) (adk : Option Addr) (capk : Nat) (w : World) (h : Disk w p F st) (hlen : ∀ i, (pend st.S i).length ≤ 1000000000)
    (hki : intsAt w adk keep) (hkF : keep = [] ∨ ∀ b off, adk = some ⟨b, off, none⟩ → ¬ F b) (hkl : keep.length ≤ 9223372036854775807) (hkr : ∀ x ∈ keep, -9223372036854775808 ≤ x ∧ x ≤ 9223372036854775807) :
    Calls Tryz.prog 32 #[.pointer (some ⟨p, 0, none⟩), .slice adk keep.length capk] w fun e w' => DiskPost p F w (.tuple #[]) (crashD st keep) e w' := by
  obtain ⟨W, hW⟩ : ∃ W, W = w.alloc (.cells #[.slice adk keep.length capk] 63) := ⟨_, rfl⟩
  obtain ⟨kb, hkb⟩ : ∃ kb, kb = w.heap.size := ⟨_, rfl⟩
  have hb1 : Below w.heap.size w W := by rw [hW]; exact (Below.refl w.heap.size w).alloc (Nat.le_refl _) _
  have g1 : W.heap[kb]? = some (.cells #[.slice adk keep.length capk] 63 (0, 0)) := by rw [hW, hkb]; exact heap_alloc_top _ _
  have hkF2 : ¬ F kb := fun hf => by have := h.lt kb hf; omega
  have hd1 := h.below hb1
  have hki1 := intsAt_touch hki (Touch.ofBelow (fun _ => False) hb1) (fun _ _ _ hf => hf)
  have ks := settle2_walk kb p F st (crashOf keep) W hd1 hlen (fun i L h h64 => crash_len1 keep i L h h64) (fun j L g cap w' ht hr hL h64 hc => by
    refine crash1_walk kb adk capk keep j L g cap w' ((ht.block kb (lt_of_block g1) hkF2).trans g1) (hkF.elim (fun e => .inl e) (fun hkF => intsAt_touch hki1 ht hkF)) hkl hkr hr hL h64 hc)
  have hst1 : Stp F w F W := Stp.ofBelow F hb1
  have HW := Lib.hid hW; have HKB := Lib.hid hkb; have HST := Lib.hid hst1
  have HKS := Lib.hid ks
  clear h hlen hki hkF hkl hkr hW hkb hb1 g1 hkF2 hd1 hki1 ks hst1
  go_enter Tryz.func32, Tryz.ntmps32
  go_upto_region 1 with fail
  refine wp_world HW.out ?_
  rw [← HKB.out]
  go_wp2_with fail
  refine HKS.out.mono ?_
  rintro e w3 ⟨rfl, F', hd3, hf3, ht3⟩
  obtain ⟨sb, mb, cs, V, hd, hF⟩ := hd3
  have f3 := hd.fr 3
  have f4 := hd.fr 4
  have c3 := hd.c3
  have c4 := hd.c4
  have HD := Lib.hid hd; have HF := Lib.hid hF; have HS3 := Lib.hid (HST.out.trans ⟨ht3, fun k hk => .inl (hf3 k hk)⟩)
  clear hd hF hf3 ht3
  go_wp2_with fail
  have g1 := set_at (i := 4) HD.out.blk (.bool false)
  have g2 := set_at (i := 3) g1 (.int .i64 0)
  have t2 : Touch (fun k => k = p) w3 ((w3.setCell ⟨p, 4, none⟩ (.bool false)).setCell ⟨p, 3, none⟩ (.int .i64 0)) := ((Touch.refl (fun k => k = p) w3).setCell (F := fun k => k = p) rfl _).setCell rfl _
  have hfin : DiskPost p F w (.tuple #[]) (crashD st keep) (.returned (.tuple #[])) ((w3.setCell ⟨p, 4, none⟩ (.bool false)).setCell ⟨p, 3, none⟩ (.int .i64 0)) :=
    ⟨rfl, F', ⟨sb, mb, cs, V, HD.out.cnt t2 st.calls 0 false (by omega) g2, HF.out⟩, HS3.out.trans ⟨t2.mono (fun k _ e => (HF.out k).2 (.inl e)), fun k hk => .inl hk⟩⟩
  exact bodyPost_end (results_none rfl _ _ _) rfl hfin
theorem crash_nil (adk : Option Addr) (n capk : Nat) (w : World) : Calls Tryz.prog 32 #[.pointer none, .slice adk n capk] w fun e w' => e = .returned (.tuple #[]) ∧ Below w.heap.size w w' := by
  obtain ⟨W, hW⟩ : ∃ W, W = w.alloc (.cells #[.slice adk n capk] 63) := ⟨_, rfl⟩
  have hb1 : Below w.heap.size w W := by rw [hW]; exact (Below.refl w.heap.size w).alloc (Nat.le_refl _) _
  have HW := Lib.hid hW
  clear hW
  go_enter Tryz.func32, Tryz.ntmps32
  go_upto_region 1 with fail
  refine wp_world HW.out ?_
  go_wp2_with fail
  exact bodyPost_ret (results_none rfl _ _ _) rfl ⟨rfl, hb1⟩

theorem read_nil (at' : Int) (_ : ByteArray) (w : World) : Calls Tryz.prog 81 #[.pointer none, .int .i64 at'] w fun e w' => e = .returned (.tuple #[.string ⟨#[]⟩, .int .i64 1]) ∧ w' = w := by
  have HRW := Lib.hid (ready_nil at' w)
  go_enter Tryz.func81, Tryz.ntmps81
  go_wp2_with fail
  refine HRW.out.mono ?_
  rintro e w1 ⟨rfl, rfl⟩
  go_wp2_with fail
  go_ret2
  exact ⟨rfl, rfl⟩
theorem write_nil (at' : Int) (s : ByteArray) (w : World) : Calls Tryz.prog 61 #[.pointer none, .int .i64 at', .string s] w fun e w' => e = .returned (.int .i64 1) ∧ w' = w := by
  have HRW := Lib.hid (ready_nil at' w)
  go_enter Tryz.func61, Tryz.ntmps61
  go_wp2_with fail
  refine HRW.out.mono ?_
  rintro e w1 ⟨rfl, rfl⟩
  go_wp2_with fail
  go_ret
  exact ⟨rfl, rfl⟩
theorem flush_nil (w : World) : Calls Tryz.prog 89 #[.pointer none] w fun e w' => e = .returned (.int .i64 1) ∧ w' = w := by
  have HRW := Lib.hid (ready_nil 0 w)
  go_enter Tryz.func89, Tryz.ntmps89
  go_wp2_with fail
  refine HRW.out.mono ?_
  rintro e w1 ⟨rfl, rfl⟩
  go_wp2_with fail
  go_ret
  exact ⟨rfl, rfl⟩
theorem dirty_nil (w : World) : Calls Tryz.prog 86 #[.pointer none] w fun e w' => e = .returned (.slice none 0 0) ∧ w' = w := by
  go_enter Tryz.func86, Tryz.ntmps86
  go_wp2_with fail
  go_step3
  go_wp2_with fail
  go_step3
  go_wp2_with fail
  go_loopg [3, 4] 0 (fun gk v3 v4 wr => v3 = .slice none 0 0 ∧ wr = w)
  case atStart => exact ⟨rfl, rfl⟩
  case round =>
    obtain ⟨rfl, rfl⟩ := hrel
    go_wp2_with fail
    try rw [Exit.noGoto_ret]
    go_ret
    exact ⟨rfl, rfl⟩
end Go.Proofs.YtjjejkhekmpgcaaGreat

namespace Go.Proofs.YtjjejkhekmpgcaaGreat
set_option maxRecDepth 4000
open Go.RowKit

/-- bytes as a text -/
def txt (l : List UInt8) : ByteArray := ⟨l.toArray⟩
theorem txt_size (l : List UInt8) : (txt l).size = l.length := by unfold txt; show l.toArray.size = _; simp
theorem txt_append (a b : List UInt8) : txt a ++ txt b = txt (a ++ b) := by
  apply ByteArray.ext
  rw [ByteArray.data_append]
  unfold txt
  simp
theorem txt_data (s : ByteArray) : txt s.data.toList = s := by
  apply ByteArray.ext
  unfold txt
  simp

end Go.Proofs.YtjjejkhekmpgcaaGreat

namespace Go.Proofs.YtjjejkhekmpgcaaGreat
set_option maxRecDepth 4000
open Go.RowKit

theorem pend_new (n i : Nat) : pend (List.replicate n [z64]) i = [] := by
  unfold pend
  rw [List.getD_eq_getElem?_getD, List.getElem?_replicate]
  split <;> rfl
theorem secOk_new (n : Nat) (h1 : 1 ≤ n) (h2 : n ≤ 4096) : secOk (List.replicate n [z64]) := by
  refine ⟨by simpa using h1, by simpa using h2, fun L hL => ?_⟩
  obtain rfl := List.eq_of_mem_replicate hL
  exact ⟨by simp, fun s hs => by rw [List.mem_singleton.1 hs]; exact z64_length⟩
/-- so many are pending at most -/
def pendMax (S : List (List Sec)) (n : Nat) : Prop := ∀ i, (pend S i).length ≤ n
theorem pendMax_new (n : Nat) : pendMax (List.replicate n [z64]) 0 := fun i => by rw [pend_new]; exact Nat.le_refl _
theorem pendMax_push {S : List (List Sec)} {n i : Nat} (h : pendMax S n) (ok : secOk S) (hi : i < S.length) (f : Sec) : pendMax (pushS S i f) (n + 1) := fun j => by
  rw [pend_push ok hi]
  split
  · rw [List.length_append]; have := h i; simp; omega
  · have := h j; omega
theorem pendMax_settle {S : List (List Sec)} {n : Nat} (pick : Nat → List Sec → Sec) (h : pendMax S n) (l : List Nat) (hl : ∀ i ∈ l, i < S.length) : ∀ k, k ≤ l.length → pendMax (settleN pick S l k) n
  | 0, _ => h
  | k + 1, hk => fun j => by
    have ih := pendMax_settle pick h l hl k (by omega)
    have hi : l.getD k 0 < (settleN pick S l k).length := by
      rw [settleN_length]
      refine hl _ ?_
      rw [List.getD_eq_getElem?_getD, List.getElem?_eq_getElem (by omega)]
      exact List.getElem_mem _
    rw [settleN, pend_put hi]
    split
    · exact Nat.zero_le _
    · exact ih j
theorem dirt_lt (S : List (List Sec)) : ∀ i ∈ dirt S, i < S.length := fun _ hi => (dirt_mem hi).1
theorem pendMax_write {st : Dk} {n : Nat} (h : pendMax st.S n) (ok : secOk st.S) (at' : Int) (s : ByteArray) : pendMax (writeD st at' s).2.S (n + 1) := by
  have h1 : pendMax st.S (n + 1) := fun i => Nat.le_succ_of_le (h i)
  unfold writeD
  split
  · exact h1
  · rename_i h0
    split
    · exact h1
    · split
      · exact h1
      · obtain ⟨_, _, h3⟩ := ready_zero (by simpa using h0)
        exact pendMax_push h ok h3 _
theorem pendMax_flush {st : Dk} {n : Nat} (h : pendMax st.S n) : pendMax (flushD st).2.S n := by
  unfold flushD
  split
  · exact h
  · split
    · exact h
    · exact pendMax_settle _ h _ (dirt_lt _) _ (Nat.le_refl _)
theorem pendMax_crash {st : Dk} {n : Nat} (h : pendMax st.S n) (keep : List Int) : pendMax (crashD st keep).S n := pendMax_settle _ h _ (dirt_lt _) _ (Nat.le_refl _)
theorem pendMax_le {S : List (List Sec)} {n m : Nat} (h : pendMax S n) (hm : n ≤ m) : pendMax S m := fun i => Nat.le_trans (h i) hm

/-- numbers that were laid -/
theorem ints_laid (w : World) (x : Int) : intsAt (w.alloc (.cells #[.int .i64 x] 3)) (some ⟨w.heap.size, 0, none⟩) [x] := by
  refine .inr ⟨w.heap.size, 0, rfl, by simp, fun i hi => ?_⟩
  obtain rfl : i = 0 := by simpa using hi
  exact cell_at (cs := #[.int .i64 x]) (heap_alloc_top _ _) rfl
theorem Disk.ok {w : World} {p : Nat} {F : Nat → Prop} {st : Dk} (h : Disk w p F st) : secOk st.S := by
  obtain ⟨_, _, _, _, hd, _⟩ := h
  exact hd.ok

/-- three sectors, of which one was written twice -/
def aw0 : Dk := ⟨List.replicate 3 [z64], 0, 0, false⟩
def aw1 : Dk := (writeD aw0 1 ⟨#[97]⟩).2
def aw2 : Dk := (writeD aw1 1 ⟨#[98]⟩).2
end Go.Proofs.YtjjejkhekmpgcaaGreat

namespace Go.Proofs.YtjjejkhekmpgcaaGreat
set_option maxRecDepth 4000
open Go.RowKit

/-- what a settled sector has -/
theorem settle_get (pick : Nat → List Sec → Sec) (S : List (List Sec)) (l : List Nat) (hl : l.Nodup) (hlt : ∀ i ∈ l, i < S.length) : ∀ k, k ≤ l.length → ∀ i,
    (i ∉ l.take k ∧ (settleN pick S l k).getD i [] = S.getD i []) ∨ ∃ j, j < k ∧ l.getD j 0 = i ∧ (settleN pick S l k).getD i [] = [pick j (S.getD i [])]
  | 0, _, i => .inl ⟨by simp, rfl⟩
  | k + 1, hk, i => by
    have hkl : k < l.length := hk
    have hx : l.getD k 0 = l[k] := by rw [List.getD_eq_getElem?_getD, List.getElem?_eq_getElem hkl]; rfl
    have hxs : l.getD k 0 < (settleN pick S l k).length := by rw [settleN_length, hx]; exact hlt _ (List.getElem_mem _)
    have hr := settleN_rest pick S l hl k k (Nat.le_refl _) hkl
    by_cases e : i = l.getD k 0
    · refine .inr ⟨k, by omega, e.symm, ?_⟩
      rw [settleN, hr, ← e]
      unfold putS
      rw [List.getD_eq_getElem?_getD, List.getElem?_set_self (by rw [e]; exact hxs)]
      rfl
    · have ih := settle_get pick S l hl hlt k (by omega) i
      have hp : (settleN pick S l (k + 1)).getD i [] = (settleN pick S l k).getD i [] := by rw [settleN, getD_put _ _ _ _ e]
      rw [hp]
      rcases ih with ⟨h1, h2⟩ | ⟨j, h1, h2, h3⟩
      · refine .inl ⟨?_, h2⟩
        rw [List.take_succ_eq_append_getElem hkl, List.mem_append, List.mem_singleton]
        rintro (h | h)
        · exact h1 h
        · exact e (by rw [hx]; exact h)
      · exact .inr ⟨j, by omega, h2, h3⟩
theorem settle_all (pick : Nat → List Sec → Sec) (S : List (List Sec)) (i : Nat) (hi : i < S.length) :
    (pend S i = [] ∧ (settleN pick S (dirt S) (dirt S).length).getD i [] = S.getD i []) ∨ ∃ j, (settleN pick S (dirt S) (dirt S).length).getD i [] = [pick j (S.getD i [])] := by
  rcases settle_get pick S (dirt S) (dirt_nodup S) (dirt_lt S) _ (Nat.le_refl _) i with ⟨h1, h2⟩ | ⟨j, _, _, h3⟩
  · refine .inl ⟨?_, h2⟩
    rw [List.take_length] at h1
    by_cases hp : pend S i = []
    · exact hp
    · exact absurd (List.mem_filter.2 ⟨List.mem_range.2 hi, decide_eq_true hp⟩) h1
  · exact .inr ⟨j, h3⟩
theorem single_of_pend {S : List (List Sec)} {i : Nat} (hi : i < S.length) (ok : secOk S) (h : pend S i = []) : S.getD i [] = [lastS S i] := by
  have h1 := (getD_ok ok hi).1
  unfold pend at h
  unfold lastS
  cases hL : S.getD i [] with
  | nil => exact absurd hL h1
  | cons a r =>
    rw [hL] at h
    simp only [List.tail_cons] at h
    rw [h]
    rfl
theorem flush_get {S : List (List Sec)} {i : Nat} (hi : i < S.length) (ok : secOk S) : (settleN lastOf S (dirt S) (dirt S).length).getD i [] = [lastS S i] := by
  rcases settle_all lastOf S i hi with ⟨h1, h2⟩ | ⟨j, h⟩
  · rw [h2]; exact single_of_pend hi ok h1
  · rw [h]; rfl

/-- what the law knows of a disk -/
structure Knows (st : Dk) (n : Nat) (safe : Nat → ByteArray) (dirty : Nat → Bool) (once : Nat → Sec → Prop) : Prop where
  len : st.S.length = n
  arm : st.armed = 0
  up : st.down = false
  sf : ∀ k, k < n → safe k = txt ((st.S.getD k []).headD [])
  dr : ∀ k, k < n → dirty k = decide (pend st.S k ≠ [])
  on : ∀ k, k < n → ∀ f ∈ pend st.S k, once k f
theorem Knows.new (n : Nat) : Knows ⟨List.replicate n [z64], 0, 0, false⟩ n (fun _ => txt z64) (fun _ => false) (fun _ _ => False) := by
  refine ⟨by simp, rfl, rfl, fun k hk => ?_, fun k hk => ?_, fun k hk f hf => ?_⟩
  · show txt z64 = txt (((List.replicate n [z64]).getD k []).headD [])
    rw [List.getD_eq_getElem?_getD, List.getElem?_replicate, if_pos hk]; rfl
  · show false = decide (pend (List.replicate n [z64]) k ≠ [])
    rw [pend_new]; rfl
  · have : f ∈ pend (List.replicate n [z64]) k := hf
    rw [pend_new] at this; cases this
section
variable {st : Dk} {n : Nat} {safe : Nat → ByteArray} {dirty : Nat → Bool} {once : Nat → Sec → Prop}
theorem Knows.ready (h : Knows st n safe dirty once) (k : Nat) (hk : k < n) : readyE st k = 0 := by
  unfold readyE
  rw [if_neg (by rw [h.up]; simp), if_neg (by rw [h.len]; omega)]
theorem Knows.call (h : Knows st n safe dirty once) : (callD st).down = false ∧ (callD st).armed = 0 := by
  unfold callD
  have ha := h.arm
  have hu := h.up
  exact ⟨by simp only; rw [if_neg (by omega)]; exact hu, by simp only; rw [if_neg (by omega)]; exact ha⟩
theorem Knows.read (h : Knows st n safe dirty once) (k : Nat) (hk : k < n) : readD st k = (txt (lastS st.S k), 0) := by
  unfold readD
  rw [if_pos (h.ready k hk)]
  rfl
theorem Knows.flush (h : Knows st n safe dirty once) (ok : secOk st.S) : (flushD st).1 = 0 ∧ Knows (flushD st).2 n (fun k => txt (lastS (flushD st).2.S k)) (fun _ => false) once := by
  have hn : 0 < n := by rw [← h.len]; exact ok.1
  have h0 := h.ready 0 hn
  have hc := h.call
  have e : flushD st = (0, ⟨settleN lastOf st.S (dirt st.S) (dirt st.S).length, (callD st).calls, (callD st).armed, (callD st).down⟩) := by
    unfold flushD
    rw [if_neg (by simpa using h0), if_neg (by rw [hc.1]; simp)]
  rw [e]
  have hg : ∀ k, k < n → (settleN lastOf st.S (dirt st.S) (dirt st.S).length).getD k [] = [lastS st.S k] := fun k hk => flush_get (by rw [h.len]; exact hk) ok
  refine ⟨rfl, ⟨?_, hc.2, hc.1, fun k hk => ?_, fun k hk => ?_, fun k hk f hf => ?_⟩⟩
  · show (settleN lastOf st.S _ _).length = n
    rw [settleN_length]; exact h.len
  · show txt (lastS (settleN lastOf st.S _ _) k) = txt (((settleN lastOf st.S _ _).getD k []).headD [])
    unfold lastS
    rw [hg k hk]; rfl
  · show false = decide (pend (settleN lastOf st.S _ _) k ≠ [])
    unfold pend
    rw [hg k hk]; rfl
  · have : f ∈ pend (settleN lastOf st.S (dirt st.S) (dirt st.S).length) k := hf
    unfold pend at this
    rw [hg k hk] at this; cases this
theorem Knows.write (h : Knows st n safe dirty once) (ok : secOk st.S) (k : Nat) (hk : k < n) (s : ByteArray) (hs : s.size ≤ 64) :
    (writeD st k s).1 = 0 ∧ Knows (writeD st k s).2 n safe (fun j => if j = k then true else dirty j) (fun j f => once j f ∨ (j = k ∧ f = fill s)) := by
  have h0 := h.ready k hk
  have hc := h.call
  have e : writeD st k s = (0, ⟨pushS st.S k (fill s), (callD st).calls, (callD st).armed, (callD st).down⟩) := by
    unfold writeD
    rw [if_neg (by simpa using h0), if_neg (by omega), if_neg (by rw [hc.1]; simp)]
    rfl
  rw [e]
  have hkl : k < st.S.length := by rw [h.len]; exact hk
  refine ⟨rfl, ⟨?_, hc.2, hc.1, fun j hj => ?_, fun j hj => ?_, fun j hj f hf => ?_⟩⟩
  · show (pushS st.S k (fill s)).length = n
    unfold pushS
    rw [putS_length]; exact h.len
  · show safe j = txt (((pushS st.S k (fill s)).getD j []).headD [])
    rw [h.sf j hj]
    have hjl : j < st.S.length := by rw [h.len]; exact hj
    have h1 : ∀ T : List (List Sec), j < T.length → (T.getD j []).headD [] = (safes T).getD j [] := fun T hT => by
      unfold safes
      rw [List.getD_eq_getElem?_getD, List.getD_eq_getElem?_getD, List.getElem?_map, List.getElem?_eq_getElem hT]
      rfl
    rw [h1 _ hjl, h1 _ (by unfold pushS; rw [putS_length]; exact hjl), safes_push ok hkl]
  · show (if j = k then true else dirty j) = decide (pend (pushS st.S k (fill s)) j ≠ [])
    rw [pend_push ok hkl]
    by_cases e : j = k
    · rw [if_pos e, if_pos e]; simp
    · rw [if_neg e, if_neg e]; exact h.dr j hj
  · have hf' : f ∈ pend (pushS st.S k (fill s)) j := hf
    rw [pend_push ok hkl] at hf'
    by_cases e : j = k
    · rw [if_pos e] at hf'
      rcases List.mem_append.1 hf' with h' | h'
      · exact .inl (h.on j hj f (by rw [e]; exact h'))
      · exact .inr ⟨e, List.mem_singleton.1 h'⟩
    · rw [if_neg e] at hf'
      exact .inl (h.on j hj f hf')
/-- behind a crash -/
theorem Knows.crash (h : Knows st n safe dirty once) (ok : secOk st.S) (keep : List Int) (k : Nat) (hk : k < n) :
    ∃ s, readD (crashD st keep) k = (txt s, 0) ∧ s.length = 64 ∧ (dirty k = false → txt s = safe k) ∧ (txt s = safe k ∨ once k s) := by
  have hkl : k < st.S.length := by rw [h.len]; exact hk
  obtain ⟨g1, g2⟩ := getD_ok ok hkl
  have hL : (crashD st keep).S.length = n := by
    show (settleN (crashOf keep) st.S (dirt st.S) (dirt st.S).length).length = n
    rw [settleN_length, h.len]
  have hre : readyE (crashD st keep) k = 0 := by
    unfold readyE
    rw [if_neg (by show ¬ false = true; simp), if_neg (by rw [hL]; omega)]
  have hrd : readD (crashD st keep) k = (txt (lastS (crashD st keep).S k), 0) := by
    unfold readD
    rw [if_pos hre]
    rfl
  rw [hrd]
  have hsf := h.sf k hk
  have hdr := h.dr k hk
  rcases settle_all (crashOf keep) st.S k hkl with ⟨h1, h2⟩ | ⟨j, h2⟩
  · have hl : lastS (crashD st keep).S k = lastS st.S k := by
      show (List.getD (settleN (crashOf keep) st.S (dirt st.S) (dirt st.S).length) k []).getLastD [] = _
      rw [h2]; rfl
    rw [hl]
    have hsg := single_of_pend hkl ok h1
    have hse : txt (lastS st.S k) = safe k := by rw [hsf, hsg]; rfl
    exact ⟨_, rfl, last_len hkl ok, fun _ => hse, .inl hse⟩
  · have hl : lastS (crashD st keep).S k = crashOf keep j (st.S.getD k []) := by
      show (List.getD (settleN (crashOf keep) st.S (dirt st.S) (dirt st.S).length) k []).getLastD [] = _
      rw [h2]; rfl
    rw [hl]
    have hlen := crash_len1 keep j _ g1 g2
    have hmem : ∀ M : List Sec, M ≠ [] → crashOf keep j M ∈ M := fun M hM => by
      unfold crashOf
      have hq := crashK_lt keep j M.length (List.length_pos_iff.2 hM)
      rw [List.getD_eq_getElem?_getD, List.getElem?_eq_getElem hq]
      exact List.getElem_mem _
    replace hmem := hmem _ g1
    generalize crashOf keep j (st.S.getD k []) = s at hlen hmem ⊢
    have hor : txt s = safe k ∨ once k s := by
      have hon := h.on k hk
      unfold pend at hon
      rw [hsf]
      cases hL : st.S.getD k [] with
      | nil => exact absurd hL g1
      | cons a r =>
        rw [hL] at hmem hon
        rcases List.mem_cons.1 hmem with e | e
        · exact .inl (by rw [e]; rfl)
        · exact .inr (hon s e)
    refine ⟨s, rfl, hlen, fun hd => ?_, hor⟩
    have hp : pend st.S k = [] := by
      rw [hdr] at hd
      simpa using hd
    have hsg := single_of_pend hkl ok hp
    rw [hsg] at hmem
    have e1 := List.mem_singleton.1 hmem
    rw [hsf, hsg, e1]
    rfl
end

/-- a row of values -/
def arrOf (g : Nat → Value) (n : Nat) : Array Value := ((List.range n).map g).toArray
theorem arrOf_size (g : Nat → Value) (n : Nat) : (arrOf g n).size = n := by simp [arrOf]
theorem arrOf_get (g : Nat → Value) {n i : Nat} (h : i < n) : (arrOf g n)[i]? = some (g i) := by simp [arrOf, h]
theorem arrOf_set (g : Nat → Value) (n i : Nat) (v : Value) : (arrOf g n).setIfInBounds i v = arrOf (fun j => if j = i then v else g j) n := by
  apply Array.ext_getElem?
  intro j
  by_cases hj : j < n
  · rw [arrOf_get _ hj, Array.getElem?_setIfInBounds]
    by_cases e : i = j
    · subst e
      rw [if_pos rfl, if_pos (by rw [arrOf_size]; exact hj), if_pos rfl]
    · rw [if_neg e, arrOf_get _ hj, if_neg (fun h => e h.symm)]
  · rw [Array.getElem?_eq_none (by rw [Array.size_setIfInBounds, arrOf_size]; omega), Array.getElem?_eq_none (by rw [arrOf_size]; omega)]
theorem arrOf_congr {g h : Nat → Value} {n : Nat} (e : ∀ j, j < n → g j = h j) : arrOf g n = arrOf h n := by
  unfold arrOf
  congr 1
  exact List.map_congr_left (fun j hj => e j (List.mem_range.1 hj))

/-- an act: kind, place, number, text, what is kept -/
structure DAct where
  kind : Int
  at' : Int
  n : Int
  s : ByteArray
  ad : Option Addr
  keep : List Int
  cap : Nat
def dactv (a : DAct) : List Value := [.int .i64 a.kind, .int .i64 a.at', .int .i64 a.n, .string a.s, .slice a.ad a.keep.length a.cap]
def wide (x : Int) : Prop := -9223372036854775808 ≤ x ∧ x ≤ 9223372036854775807
/-- an act as it may come -/
structure dactOk (w : World) (a : DAct) : Prop where
  kind : wide a.kind
  at' : wide a.at'
  n : wide a.n
  s : a.s.size ≤ 9223372036854775807
  keep : intsAt w a.ad a.keep
  kl : a.keep.length ≤ 9223372036854775807
  kr : ∀ x ∈ a.keep, -9223372036854775808 ≤ x ∧ x ≤ 9223372036854775807
/-- these acts lie there -/
def dactsAt (w : World) (ad : Option Addr) (l : List DAct) : Prop :=
  l = [] ∨ ∃ b off, ad = some ⟨b, off, none⟩ ∧ b < w.heap.size ∧ ∀ i (h : i < l.length), ∀ j u, (dactv l[i])[j]? = some u → w.cell? ⟨b, off + i * 5 + j, none⟩ = some u
end Go.Proofs.YtjjejkhekmpgcaaGreat

namespace Go.Proofs.YtjjejkhekmpgcaaGreat
set_option maxRecDepth 4000

inductive Plan where
  | done
  | read (i : Nat) (r : Plan)
  | step (i : Nat) (r : Plan)
  | fork (i : Nat) (r : Plan) (j : Nat) (s : Plan)
def Plan.len : Plan → Nat
  | .done => 0
  | .read _ r => r.len + 1
  | .step _ r => r.len + 1
  | .fork _ r _ _ => r.len + 1

/-- a plan with the operations in it -/
inductive PlanO where
  | done
  | read (o : Option Oper) (r : PlanO)
  | step (o : Option Oper) (r : PlanO)
  | fork (o : Option Oper) (r : PlanO) (u : Option Oper) (s : PlanO)
def Plan.fill (l : List Oper) : Plan → PlanO
  | .done => .done
  | .read i r => .read l[i]? (r.fill l)
  | .step i r => .step l[i]? (r.fill l)
  | .fork i r j s => .fork l[i]? (r.fill l) l[j]? (s.fill l)

section
variable {P : Program} {ops : Array Oper} {md : Region.Mode} {Q : Exit → Act → World → Prop} {S : World → Prop}

/-- one operation, then K -/
def wpOne (P : Program) (ops : Array Oper) (Q : Exit → Act → World → Prop) (S : World → Prop) (o : Oper) (K : Act → World → Prop) (a : Act) (w : World) : Prop :=
  if Region.wanted o (yielded ops a.tmps) = true then o.wp P a w (fun a' w' => S w' ∧ K a' w') Q else K (a.put o.dst undef) w
def wpPlan (P : Program) (ops : Array Oper) (Q : Exit → Act → World → Prop) (S : World → Prop) : Plan → Act → World → Prop
  | .done, a, w => Q .normal a w
  | .read i r, a, w => ∀ o, ops[i]? = some o →
    if Region.wanted o (yielded ops a.tmps) = true then ∃ v, (∀ w', S w' → (execOp a.eval o).run P w' = .ok (.value v) w') ∧ wpPlan P ops Q S r (a.put o.dst v) w else wpPlan P ops Q S r (a.put o.dst undef) w
  | .step i r, a, w => ∀ o, ops[i]? = some o → wpOne P ops Q S o (wpPlan P ops Q S r) a w
  | .fork i r j s, a, w => (∀ o, ops[i]? = some o → wpOne P ops Q S o (wpPlan P ops Q S r) a w) ∧ (∀ o, ops[j]? = some o → wpOne P ops Q S o (wpPlan P ops Q S s) a w)

def wpPlanO (P : Program) (ops : Array Oper) (Q : Exit → Act → World → Prop) (S : World → Prop) : PlanO → Act → World → Prop
  | .done, a, w => Q .normal a w
  | .read (some o) r, a, w =>
    if Region.wanted o (yielded ops a.tmps) = true then ∃ v, (∀ w', S w' → (execOp a.eval o).run P w' = .ok (.value v) w') ∧ wpPlanO P ops Q S r (a.put o.dst v) w else wpPlanO P ops Q S r (a.put o.dst undef) w
  | .step (some o) r, a, w => wpOne P ops Q S o (wpPlanO P ops Q S r) a w
  | .fork (some o) r (some u) s, a, w => wpOne P ops Q S o (wpPlanO P ops Q S r) a w ∧ wpOne P ops Q S u (wpPlanO P ops Q S s) a w
  | _, _, _ => False
theorem wpOne_mono {o : Oper} {K K' : Act → World → Prop} {a : Act} {w : World} (hK : ∀ a' w', K a' w' → K' a' w') (h : wpOne P ops Q S o K a w) : wpOne P ops Q S o K' a w := by
  unfold wpOne at h ⊢
  by_cases hw : Region.wanted o (yielded ops a.tmps) = true
  · rw [if_pos hw] at h ⊢
    exact Oper.wp_mono (fun a' w' ⟨h1, h2⟩ => ⟨h1, hK _ _ h2⟩) h
  · rw [if_neg hw] at h ⊢
    exact hK _ _ h
theorem plan_of_fill {l : List Oper} (hl : ops = l.toArray) : ∀ (L : Plan) (a : Act) (w : World), wpPlanO P ops Q S (L.fill l) a w → wpPlan P ops Q S L a w
  | .done, _, _, h => h
  | .read i r, a, w, h => by
    unfold wpPlan
    intro o ho
    have ho' : l[i]? = some o := by rw [hl] at ho; simpa using ho
    unfold Plan.fill wpPlanO at h
    rw [ho'] at h
    by_cases hw : Region.wanted o (yielded ops a.tmps) = true
    · simp only [if_pos hw] at h ⊢
      obtain ⟨v, h1, h2⟩ := h
      exact ⟨v, h1, plan_of_fill hl r _ _ h2⟩
    · simp only [if_neg hw] at h ⊢
      exact plan_of_fill hl r _ _ h
  | .step i r, a, w, h => by
    unfold wpPlan
    intro o ho
    have ho' : l[i]? = some o := by rw [hl] at ho; simpa using ho
    unfold Plan.fill wpPlanO at h
    rw [ho'] at h
    exact wpOne_mono (fun a' w' h' => plan_of_fill hl r a' w' h') h
  | .fork i r j s, a, w, h => by
    unfold wpPlan
    unfold Plan.fill wpPlanO at h
    refine ⟨fun o ho => ?_, fun u hu => ?_⟩
    · have ho' : l[i]? = some o := by rw [hl] at ho; simpa using ho
      rw [ho'] at h
      cases hj : l[j]? with
      | none => rw [hj] at h; exact h.elim
      | some u => rw [hj] at h; exact wpOne_mono (fun a' w' h' => plan_of_fill hl r a' w' h') h.1
    · have hu' : l[j]? = some u := by rw [hl] at hu; simpa using hu
      rw [hu'] at h
      cases hi : l[i]? with
      | none => rw [hi] at h; exact h.elim
      | some o => rw [hi] at h; exact wpOne_mono (fun a' w' h' => plan_of_fill hl s a' w' h') h.2

theorem plan_read {r : PlanO} {a : Act} {w : World} {o : Oper} (hw : Region.wanted o (yielded ops a.tmps) = true)
    (h : ∃ v, (∀ w', S w' → (execOp a.eval o).run P w' = .ok (.value v) w') ∧ wpPlanO P ops Q S r (a.put o.dst v) w) : wpPlanO P ops Q S (.read (some o) r) a w := by
  unfold wpPlanO
  rw [if_pos hw]
  exact h
theorem one_step {o : Oper} {K : Act → World → Prop} {a : Act} {w : World} (hw : Region.wanted o (yielded ops a.tmps) = true)
    (h : ∀ K' : Act → World → Prop, (∀ a' w', S w' → K a' w' → K' a' w') → o.wp P a w K' Q) : wpOne P ops Q S o K a w := by
  unfold wpOne
  rw [if_pos hw]
  exact h _ (fun a' w' h1 h2 => ⟨h1, h2⟩)
theorem plan_step {r : PlanO} {a : Act} {w : World} {o : Oper} (hw : Region.wanted o (yielded ops a.tmps) = true)
    (h : ∀ K' : Act → World → Prop, (∀ a' w', S w' → wpPlanO P ops Q S r a' w' → K' a' w') → o.wp P a w K' Q) : wpPlanO P ops Q S (.step (some o) r) a w := by
  unfold wpPlanO
  exact one_step hw h
theorem plan_fork {r s : PlanO} {a : Act} {w : World} {o u : Oper} (hw : Region.wanted o (yielded ops a.tmps) = true) (hw2 : Region.wanted u (yielded ops a.tmps) = true)
    (h : ∀ K' : Act → World → Prop, (∀ a' w', S w' → wpPlanO P ops Q S r a' w' → K' a' w') → o.wp P a w K' Q)
    (h2 : ∀ K' : Act → World → Prop, (∀ a' w', S w' → wpPlanO P ops Q S s a' w' → K' a' w') → u.wp P a w K' Q) : wpPlanO P ops Q S (.fork (some o) r (some u) s) a w := by
  unfold wpPlanO
  exact ⟨one_step hw h, one_step hw2 h2⟩
theorem plan_done {a : Act} {w : World} (h : Q .normal a w) : wpPlanO P ops Q S .done a w := h

def Region.planB (md : Region.Mode) (ops : Array Oper) : Plan → Array Bool → Bool
  | .done, listed => decide (Region.ready md ops listed = [])
  | .read i r, listed => (Region.ready md ops listed).contains i && Region.free md ops listed i && Region.planB md ops r (listed.setIfInBounds i true)
  | .step i r, listed => decide (Region.ready md ops listed = [i]) && Region.planB md ops r (listed.setIfInBounds i true)
  | .fork i r j s, listed => decide (Region.ready md ops listed = [i, j]) && decide (r.len = s.len) && Region.planB md ops r (listed.setIfInBounds i true) && Region.planB md ops s (listed.setIfInBounds j true)

theorem wpOp_one {i : Nat} {o : Oper} {a : Act} {w : World} {K K2 : Act → World → Prop} (ho : ops[i]? = some o) (hS : S w) (h : wpOne P ops Q S o K a w) (hK : ∀ a' w', S w' → K a' w' → S w' ∧ K2 a' w') :
    wpOp P ops Q i (fun a' w' => S w' ∧ K2 a' w') a w := by
  refine wpOp_step ho (fun K' hK' => ?_)
  unfold wpOne at h
  by_cases hw : Region.wanted o (yielded ops a.tmps) = true
  · rw [if_pos hw] at h ⊢
    exact Oper.wp_mono (fun a' w' ⟨hS', h'⟩ => hK' a' w' (hK a' w' hS' h')) h
  · rw [if_neg hw] at h ⊢
    exact hK' _ _ (hK _ _ hS h)

theorem wpAnyH_of_plan (hsel : Region.noSelect ops = true) (hQ : ∀ c a a' w, Q (.panic c) a w → Q (.panic c) a' w) :
    ∀ (L : Plan) (listed : Array Bool) (a : Act) (w : World), S w → Region.planB md ops L listed = true → wpPlan P ops Q S L a w → Go.wpAnyH P md ops Q S L.len listed a w
  | .done, listed, a, w, _, hB, h => wpAnyH_done (by simpa [Region.planB] using hB) h 0
  | .read i r, listed, a, w, hS, hB, h => by
    simp only [Region.planB, Bool.and_eq_true] at hB
    obtain ⟨⟨h1, h2⟩, h3⟩ := hB
    have hr : i ∈ Region.ready md ops listed := by simpa using h1
    obtain ⟨_, o, ho, _⟩ := mem_ready.1 hr
    unfold wpPlan at h
    replace h := h o ho
    by_cases hw : Region.wanted o (yielded ops a.tmps) = true
    · rw [if_pos hw] at h
      obtain ⟨v, hv, h⟩ := h
      exact wpAnyH_take ho hsel h2 h1 (fun c a w hc => hQ c _ _ w hc) (Or.inl ⟨hw, hv⟩) hS (wpAnyH_of_plan hsel hQ r _ _ _ hS h3 h)
    · rw [if_neg hw] at h
      exact wpAnyH_take ho hsel h2 h1 (fun c a w hc => hQ c _ _ w hc) (Or.inr ⟨by simpa using hw, rfl⟩) hS (wpAnyH_of_plan hsel hQ r _ _ _ hS h3 h)
  | .step i r, listed, a, w, hS, hB, h => by
    simp only [Region.planB, Bool.and_eq_true, decide_eq_true_eq] at hB
    obtain ⟨h1, h3⟩ := hB
    unfold wpPlan at h
    refine wpAnyH_all h1 (by simp) (fun k hk => ?_)
    obtain rfl : k = i := by simpa using hk
    have hr : k ∈ Region.ready md ops listed := by rw [h1]; simp
    obtain ⟨_, o, ho, _⟩ := mem_ready.1 hr
    exact wpOp_one ho hS (h o ho) (fun a' w' hS' h' => ⟨hS', wpAnyH_of_plan hsel hQ r _ _ _ hS' h3 h'⟩)
  | .fork i r j s, listed, a, w, hS, hB, h => by
    simp only [Region.planB, Bool.and_eq_true, decide_eq_true_eq] at hB
    obtain ⟨⟨⟨h1, hl⟩, h3⟩, h4⟩ := hB
    unfold wpPlan at h
    refine wpAnyH_all h1 (by simp) (fun k hk => ?_)
    have hk2 : k = i ∨ k = j := by simpa using hk
    have hr : k ∈ Region.ready md ops listed := by rw [h1]; simpa using hk2
    obtain ⟨_, o, ho, _⟩ := mem_ready.1 hr
    rcases hk2 with rfl | rfl
    · exact wpOp_one ho hS (h.1 o ho) (fun a' w' hS' h' => ⟨hS', wpAnyH_of_plan hsel hQ r _ _ _ hS' h3 h'⟩)
    · rw [hl]
      exact wpOp_one ho hS (h.2 o ho) (fun a' w' hS' h' => ⟨hS', wpAnyH_of_plan hsel hQ s _ _ _ hS' h4 h'⟩)

/-- **The law.** -/
theorem wp_region_plan {id : Nat} {a : Act} {w : World} {l : List Oper} (S : World → Prop) (L : Plan) (hm : P.follows .mixedOrders = true)
    (hB : (Region.noSelect l.toArray && decide (L.len = l.length) && Region.planB .any l.toArray L (Array.replicate l.length false)) = true) (hS : S w.drew)
    (h : wpPlanO P l.toArray (NoPanic Q) S (L.fill l) a w.drew) : (Code.region id l.toArray true).wp P Q a w := by
  simp only [Bool.and_eq_true, decide_eq_true_eq] at hB
  obtain ⟨⟨h1, h2⟩, h3⟩ := hB
  refine wp_region_noPanic (wp_region_held (S := S) hm ?_)
  have := wpAnyH_of_plan (P := P) (Q := NoPanic Q) (S := S) h1 (fun c a a' w hc => by exact hc.elim) L _ a w.drew hS h3 (plan_of_fill rfl L _ _ h)
  rw [h2] at this
  simpa using this
end
end Go.Proofs.YtjjejkhekmpgcaaGreat
