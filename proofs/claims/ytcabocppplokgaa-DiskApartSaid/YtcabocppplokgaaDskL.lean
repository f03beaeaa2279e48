/-
  Layer 3: how many may be pending (plain); what must come at any rate.
-/
import Derived.Test.YtcabocppplokgaaDskK
namespace Go.Proofs.Ytcabocppplokgaa
open Go.RowKit

theorem pend_new (n i : Nat) : pend (List.replicate n [z64]) i = [] := by
  unfold pend
  rw [List.getD_eq_getElem?_getD, List.getElem?_replicate]
  split <;> rfl
theorem secOk_new (n : Nat) (h1 : 1 ≤ n) (h2 : n ≤ 4096) : secOk (List.replicate n [z64]) := by
  refine ⟨by simpa using h1, by simpa using h2, fun L hL => ?_⟩
  obtain rfl := List.eq_of_mem_replicate hL
  exact ⟨by simp, fun s hs => by rw [List.mem_singleton.1 hs]; exact z64_length⟩
/-- so many are pending at most -/
def pendMax (S : List (List Sec)) (n : Nat) : Prop := ∀ i, (pend S i).length ≤ n
theorem pendMax_new (n : Nat) : pendMax (List.replicate n [z64]) 0 := fun i => by rw [pend_new]; exact Nat.le_refl _
theorem pendMax_push {S : List (List Sec)} {n i : Nat} (h : pendMax S n) (ok : secOk S) (hi : i < S.length) (f : Sec) : pendMax (pushS S i f) (n + 1) := fun j => by
  rw [pend_push ok hi]
  split
  · rw [List.length_append]; have := h i; simp; omega
  · have := h j; omega
theorem pendMax_settle {S : List (List Sec)} {n : Nat} (pick : Nat → List Sec → Sec) (h : pendMax S n) (l : List Nat) (hl : ∀ i ∈ l, i < S.length) : ∀ k, k ≤ l.length → pendMax (settleN pick S l k) n
  | 0, _ => h
  | k + 1, hk => fun j => by
    have ih := pendMax_settle pick h l hl k (by omega)
    have hi : l.getD k 0 < (settleN pick S l k).length := by
      rw [settleN_length]
      refine hl _ ?_
      rw [List.getD_eq_getElem?_getD, List.getElem?_eq_getElem (by omega)]
      exact List.getElem_mem _
    rw [settleN, pend_put hi]
    split
    · exact Nat.zero_le _
    · exact ih j
theorem dirt_lt (S : List (List Sec)) : ∀ i ∈ dirt S, i < S.length := fun _ hi => (dirt_mem hi).1
theorem pendMax_write {st : Dk} {n : Nat} (h : pendMax st.S n) (ok : secOk st.S) (at' : Int) (s : ByteArray) : pendMax (writeD st at' s).2.S (n + 1) := by
  have h1 : pendMax st.S (n + 1) := fun i => Nat.le_succ_of_le (h i)
  unfold writeD
  split
  · exact h1
  · rename_i h0
    split
    · exact h1
    · split
      · exact h1
      · obtain ⟨_, _, h3⟩ := ready_zero (by simpa using h0)
        exact pendMax_push h ok h3 _
theorem pendMax_flush {st : Dk} {n : Nat} (h : pendMax st.S n) : pendMax (flushD st).2.S n := by
  unfold flushD
  split
  · exact h
  · split
    · exact h
    · exact pendMax_settle _ h _ (dirt_lt _) _ (Nat.le_refl _)
theorem pendMax_crash {st : Dk} {n : Nat} (h : pendMax st.S n) (keep : List Int) : pendMax (crashD st keep).S n := pendMax_settle _ h _ (dirt_lt _) _ (Nat.le_refl _)
theorem pendMax_le {S : List (List Sec)} {n m : Nat} (h : pendMax S n) (hm : n ≤ m) : pendMax S m := fun i => Nat.le_trans (h i) hm

/-- numbers that were laid -/
theorem ints_laid (w : World) (x : Int) : intsAt (w.alloc (.cells #[.int .i64 x] 3)) (some ⟨w.heap.size, 0, none⟩) [x] := by
  refine .inr ⟨w.heap.size, 0, rfl, by simp, fun i hi => ?_⟩
  obtain rfl : i = 0 := by simpa using hi
  exact cell_at (cs := #[.int .i64 x]) (heap_alloc_top _ _) rfl
theorem Disk.ok {w : World} {p : Nat} {F : Nat → Prop} {st : Dk} (h : Disk w p F st) : secOk st.S := by
  obtain ⟨_, _, _, _, hd, _⟩ := h
  exact hd.ok

/-- three sectors, of which one was written twice -/
def aw0 : Dk := ⟨List.replicate 3 [z64], 0, 0, false⟩
def aw1 : Dk := (writeD aw0 1 ⟨#[97]⟩).2
def aw2 : Dk := (writeD aw1 1 ⟨#[98]⟩).2
set_option maxHeartbeats 4000000 in
theorem awake_walk (w : World) : Calls Try.prog 7 #[] w fun r w' => r = .returned (.bool true) ∧ Below w.heap.size w w' := by
  have e1 : (writeD aw0 1 ⟨#[97]⟩) = (0, aw1) := Prod.ext (by kernel_rfl) rfl
  have e2 : (writeD aw1 1 ⟨#[98]⟩) = (0, aw2) := Prod.ext (by kernel_rfl) rfl
  have e3 : readD (crashD aw2 [1]) 1 = (txt (fill ⟨#[97]⟩), 0) := Prod.ext (by kernel_rfl) (by kernel_rfl)
  have e4 : dirt (crashD aw2 [1]).S = [] := by kernel_rfl
  have p0 : pendMax aw0.S 0 := pendMax_new 3
  have p1 : secOk aw0.S → pendMax aw1.S 1 := fun ok => pendMax_write p0 ok 1 ⟨#[97]⟩
  have p2 : secOk aw0.S → secOk aw1.S → pendMax aw2.S 2 := fun ok ok' => pendMax_write (p1 ok) ok' 1 ⟨#[98]⟩
  have E1 := Lib.hid e1; have E2 := Lib.hid e2; have E3 := Lib.hid e3; have E4 := Lib.hid e4; have P0 := Lib.hid p0; have P1 := Lib.hid p1; have P2 := Lib.hid p2
  clear e1 e2 e3 e4 p0 p1 p2
  go_enter Try.func7, Try.ntmps7
  go_wp2_with fail
  refine (new_disk 3 w (by omega) (by omega)).mono ?_
  rintro e w1 ⟨p, F, rfl, hb1, hd1, hF1⟩
  replace hd1 : Disk w1 p F aw0 := hd1
  have ok0 := hd1.ok
  have HB1 := Lib.hid (And.intro hb1 hF1); have HD1 := Lib.hid hd1
  have KW := Lib.hid (write_walk p F aw0 1 ⟨#[97]⟩ w1 hd1 (by have := P0.out (1 : Int).toNat; omega))
  clear hb1 hd1 hF1
  go_wp2_with fail
  refine KW.out.mono ?_
  rw [E1.out]
  rintro e w2 ⟨rfl, F2, hd2, hs2⟩
  have HB2 := Lib.hid (hs2.below HB1.out.1 HB1.out.1.size HB1.out.2)
  have ok1 := hd2.ok
  have KW2 := Lib.hid (write_walk p F2 aw1 1 ⟨#[98]⟩ w2 hd2 (by have := P1.out ok0 (1 : Int).toNat; omega))
  clear hd2 hs2 KW
  go_wp2_with fail
  refine KW2.out.mono ?_
  rw [E2.out]
  rintro e w3 ⟨rfl, F3, hd3, hs3⟩
  have HB3 := Lib.hid (hs3.below HB2.out.1 HB2.out.1.size HB2.out.2)
  have HD3 := Lib.hid hd3
  clear hd3 hs3 KW2
  go_wp2_with fail
  obtain ⟨W, hW⟩ : ∃ W, W = w3.alloc (.cells #[.int .i64 1] 3) := ⟨_, rfl⟩
  have hki : intsAt W (some ⟨w3.heap.size, 0, none⟩) [1] := by rw [hW]; exact ints_laid w3 1
  have hbW : Below w3.heap.size w3 W := by rw [hW]; exact (Below.refl _ _).alloc (Nat.le_refl _) _
  rw [← hW]
  refine (crash_walk p F3 aw2 [1] (some ⟨w3.heap.size, 0, none⟩) 1 W (HD3.out.below hbW) (fun i => by have := P2.out ok0 ok1 i; omega) hki (.inr (fun b off e hf => by cases e; have := HD3.out.lt _ hf; omega)) (by simp) (by simp)).mono ?_
  have HB4 := Lib.hid (And.intro (HB3.out.1.trans (hbW.mono HB3.out.1.size)) HB3.out.2)
  clear hW hki hbW
  rintro e w5 ⟨rfl, F5, hd5, hs5⟩
  have HB5 := Lib.hid (hs5.below HB4.out.1 HB4.out.1.size HB4.out.2)
  have KR := Lib.hid (read_walk p F5 (crashD aw2 [1]) 1 w5 hd5)
  have HD5 := Lib.hid hd5
  clear hd5 hs5
  go_wp2_with fail
  refine KR.out.mono ?_
  rw [E3.out]
  rintro e w6 ⟨rfl, hb6⟩
  have HB6 := Lib.hid (HB5.out.1.trans (hb6.mono HB5.out.1.size))
  have KD := Lib.hid (HD5.out.below hb6)
  have KF := Lib.hid (fill_walk ⟨#[97]⟩ w6 (by show 1 ≤ 64; omega))
  clear hb6 KR
  obtain ⟨x, hx⟩ : ∃ x, x = txt (fill ⟨#[97]⟩) := ⟨_, rfl⟩
  rw [← hx] at KF ⊢
  clear hx
  go_wp2_with fail
  refine KF.out.mono ?_
  rintro e w7 ⟨rfl, hb7⟩
  have HB7 := Lib.hid (HB6.out.trans (hb7.mono HB6.out.size))
  have KY := Lib.hid (dirty_walk p F5 (crashD aw2 [1]) w7 (KD.out.below hb7))
  clear hb7 KF
  go_wp2_with fail
  refine KY.out.mono ?_
  rintro e w8 ⟨v, rfl, hrow, hb8⟩
  rw [E4.out] at hrow
  obtain ⟨ad, cap, rfl, hc1, hc2, _⟩ := hrow.open
  have HB8 := Lib.hid (HB7.out.trans (hb8.mono HB7.out.size))
  clear hrow hb8 KY
  rw [List.length_nil] at hc1 ⊢
  go_wp2_with fail
  go_ret
  exact ⟨rfl, HB8.out⟩
end Go.Proofs.Ytcabocppplokgaa
