/-
  Layer 1: texts are read; the end; nil; what must come at any rate.
-/
import Derived.Test.YtalbilhhpiopiaaLebF
namespace Go.Proofs.Ytalbilhhpiopiaa
open Go.RowKit

/-- what T answers, and leaves -/
def txtR (s : ByteArray) (e : Int) : ByteArray × ByteArray × Int := takeR (numR s e).2.1 (numR s e).2.2 (numR s e).1
theorem txt_walk (p : Nat) (s : ByteArray) (e : Int) (w : World) (h : InAt w p s e) :
    Calls Try.prog 14 #[.pointer (some ⟨p, 0, none⟩)] w fun r w' => r = .returned (.string (txtR s e).1) ∧ w.grownBy w' (some p) ∧ InAt w' p (txtR s e).2.1 (txtR s e).2.2 := by
  have H := Lib.hid h
  clear h
  unfold txtR
  obtain ⟨n, s1, e1, hn⟩ : ∃ n s1 e1, numR s e = (n, s1, e1) := ⟨_, _, _, rfl⟩
  rw [hn]
  have HN := Lib.hid hn
  clear hn
  go_enter Try.func14, Try.ntmps14
  go_wp2_with fail
  refine (num_walk p s e _ H.out).mono ?_
  rintro r w1 ⟨rfl, hg1, h1⟩
  rw [HN.out] at h1 ⊢
  have H1 := Lib.hid h1; have HG1 := Lib.hid hg1
  clear h1 hg1
  go_wp2_with fail
  refine (take_walk p s1 e1 n _ H1.out).mono ?_
  rintro r w2 ⟨rfl, hg2, h2⟩
  have H2 := Lib.hid h2; have HG2 := Lib.hid (grown_trans HG1.out hg2)
  clear h2 hg2
  go_wp2_with fail
  go_ret
  exact ⟨rfl, HG2.out, H2.out⟩
theorem num_nil (w : World) : Calls Try.prog 15 #[.pointer none] w fun r w' => r = .returned (.int .i64 0) ∧ w' = w := by
  go_enter Try.func15, Try.ntmps15
  go_wp2_with fail
  go_loopg [9] 9 (fun gk i wr => i = .int .i64 0 ∧ wr = w)
  case atStart => exact ⟨rfl, rfl⟩
  case round =>
    obtain ⟨rfl, rfl⟩ := hrel
    go_wp2_with fail
    refine (take_nil 1 _).mono ?_
    rintro r w2 ⟨rfl, rfl⟩
    go_wp2_with fail
    go_ret
    exact ⟨rfl, rfl⟩
theorem txt_nil (w : World) : Calls Try.prog 14 #[.pointer none] w fun r w' => r = .returned (.string ⟨#[]⟩) ∧ w' = w := by
  go_enter Try.func14, Try.ntmps14
  go_wp2_with fail
  refine (num_nil _).mono ?_
  rintro r w1 ⟨rfl, rfl⟩
  go_wp2_with fail
  refine (take_nil 0 _).mono ?_
  rintro r w2 ⟨rfl, rfl⟩
  go_wp2_with fail
  go_ret
  exact ⟨rfl, rfl⟩
/-- what End answers -/
def endR (s : ByteArray) (e : Int) : Int := if e ≠ 0 then e else if 0 < s.size then 6 else 0
theorem end_walk (p : Nat) (s : ByteArray) (e : Int) (w : World) (h : InAt w p s e) :
    Calls Try.prog 18 #[.pointer (some ⟨p, 0, none⟩)] w fun r w' => r = .returned (.int .i64 (endR s e)) ∧ w' = w := by
  have H := Lib.hid h
  clear h
  go_enter Try.func18, Try.ntmps18
  go_wp2_with fail
  refine (err_walk p s e _ H.out).mono ?_
  rintro r w1 ⟨rfl, rfl⟩
  by_cases he : e = 0
  · subst he
    go_wp2_with fail
    refine (left_walk p s 0 _ H.out).mono ?_
    rintro r w2 ⟨rfl, rfl⟩
    have hl : leftN s 0 = s.size := by unfold leftN; rw [if_pos rfl]
    rw [hl]
    by_cases hs : 0 < s.size
    · have hr : endR s 0 = 6 := by unfold endR; rw [if_neg (by simp), if_pos hs]
      have HR := Lib.hid hr
      clear hr hl
      go_wp2_with fail
      go_ret
      exact ⟨ret_int HR.out.symm, rfl⟩
    · have hr : endR s 0 = 0 := by unfold endR; rw [if_neg (by simp), if_neg hs]
      have HR := Lib.hid hr
      have hs0 : s.size = 0 := by omega
      clear hr hl hs
      go_wp2_with fail
      go_ret
      exact ⟨ret_int HR.out.symm, rfl⟩
  · have hr : endR s e = e := by unfold endR; rw [if_pos he]
    have HR := Lib.hid hr
    clear hr
    go_wp2_with fail
    go_ret
    exact ⟨ret_int HR.out.symm, rfl⟩
theorem end_nil (w : World) : Calls Try.prog 18 #[.pointer none] w fun r w' => r = .returned (.int .i64 1) ∧ w' = w := by
  go_enter Try.func18, Try.ntmps18
  go_wp2_with fail
  refine (err_nil _).mono ?_
  rintro r w1 ⟨rfl, rfl⟩
  go_wp2_with fail
  go_ret
  exact ⟨rfl, rfl⟩
theorem over_walk (s : ByteArray) (w : World) :
    Calls Try.prog 11 #[.string s] w fun r w' => r = .returned (.pointer (some ⟨w.heap.size, 0, none⟩)) ∧ Below w.heap.size w w' ∧ InAt w' w.heap.size s 0 := by
  go_enter Try.func11, Try.ntmps11
  go_wp2_with fail
  go_ret
  exact ⟨rfl, (Below.refl _ _).alloc (Nat.le_refl _) _, heap_alloc_top _ _⟩

theorem below_of_grown {w w1 w2 : World} {B : Nat} {row : Option Nat} (h : Below B w w1) (hg : w1.grownBy w2 row) (hB : B ≤ w1.heap.size) (hr : ∀ k, row = some k → B ≤ k) : Below B w w2 :=
  h.trans ⟨hg.os, hg.tape, hg.output, hg.size, fun k hk => hg.block k (by omega) (fun e => by have := hr k e.symm; omega)⟩
theorem InAt.keep {w w' : World} {p B : Nat} {s : ByteArray} {e : Int} (h : InAt w p s e) (hb : Below B w w') (hp : p < B) : InAt w' p s e := (hb.block p hp).trans h

/-- one field, two fields, in a block -/
theorem one_at {w : World} {b : Nat} {f : Fld} {ty : TypeId} (hb : w.heap[b]? = some (.cells #[.int .i64 f.1, .string f.2.1, .bool f.2.2] ty (0, 0))) : fldsAt w (some ⟨b, 0, none⟩) [f] := by
  refine .inr ⟨b, 0, rfl, lt_of_block hb, fun i hi j u hu => ?_⟩
  rw [cell_of_row w b (0 + i * 3 + j) _ _ _ hb]
  match i, hi with
  | 0, _ =>
    match j, hu with
    | 0, hu => exact hu
    | 1, hu => exact hu
    | 2, hu => exact hu
    | j + 3, hu => simp at hu
  | i + 1, hi => exact absurd hi (by simp)
theorem two_at {w : World} {b : Nat} {f g : Fld} {ty : TypeId} (hb : w.heap[b]? = some (.cells #[.int .i64 f.1, .string f.2.1, .bool f.2.2, .int .i64 g.1, .string g.2.1, .bool g.2.2] ty (0, 0))) : fldsAt w (some ⟨b, 0, none⟩) [f, g] := by
  refine .inr ⟨b, 0, rfl, lt_of_block hb, fun i hi j u hu => ?_⟩
  rw [cell_of_row w b (0 + i * 3 + j) _ _ _ hb]
  match i, hi with
  | 0, _ =>
    match j, hu with
    | 0, hu => exact hu
    | 1, hu => exact hu
    | 2, hu => exact hu
    | j + 3, hu => simp at hu
  | 1, _ =>
    match j, hu with
    | 0, hu => exact hu
    | 1, hu => exact hu
    | 2, hu => exact hu
    | j + 3, hu => simp at hu
  | i + 2, hi => exact absurd hi (by simp)

theorem lay_300 : lay [(300, ⟨#[]⟩, false), (0, ⟨#[97]⟩, true)] = (⟨#[172, 2, 1, 97]⟩, 0) := by
  have h1 : lebN 300 = [172, 2] := by rw [lebN_big (by omega), lebN_small (by omega)]; rfl
  have h3 : lebN (⟨#[97]⟩ : ByteArray).size = [1] := lebN_small (by decide)
  have e1 : putF [] 300 ⟨#[]⟩ false = [172, 2] := by
    unfold putF
    rw [if_neg (by decide), if_neg (by decide), show ((300 : Int)).toNat = 300 from rfl, h1]
    rfl
  have e3 : putF [172, 2] 0 ⟨#[97]⟩ true = [172, 2, 1, 97] := by
    unfold putF
    rw [if_neg (by decide), if_pos rfl, h3]
    rfl
  have hl : layB [(300, ⟨#[]⟩, false), (0, ⟨#[97]⟩, true)] = [172, 2, 1, 97] := by
    simp only [layB, List.foldl_cons, List.foldl_nil, e1, e3]
  unfold lay
  rw [if_neg (by decide), hl, if_neg (by decide)]
theorem num_300 : numR ⟨#[172, 2, 1, 97]⟩ 0 = (300, ⟨#[1, 97]⟩, 0) := by decide +kernel
theorem txt_a : txtR ⟨#[1, 97]⟩ 0 = (⟨#[97]⟩, ⟨#[]⟩, 0) := by decide +kernel
theorem end_a : endR ⟨#[]⟩ 0 = 0 := by decide +kernel

set_option maxHeartbeats 2000000 in
theorem awake_walk (w : World) : Calls Try.prog 7 #[] w fun r w' => r = .returned (.bool true) ∧ Below w.heap.size w w' := by
  go_enter Try.func7, Try.ntmps7
  go_wp2_with fail
  refine (n_walk 300 _).mono ?_
  rintro r w1 ⟨rfl, hb1⟩
  unfold fld
  go_wp2_with fail
  refine (t_walk ⟨#[97]⟩ _).mono ?_
  rintro r w2 ⟨rfl, hb2⟩
  unfold fld
  have hB2 := hb1.trans (hb2.mono hb1.size)
  clear hb1 hb2
  have HB2 := Lib.hid hB2
  clear hB2
  go_wp2_with fail
  have hat := two_at (f := (300, ⟨#[]⟩, false)) (g := (0, ⟨#[97]⟩, true)) (heap_alloc_top w2 (.cells #[.int .i64 300, .string ⟨#[]⟩, .bool false, .int .i64 0, .string ⟨#[97]⟩, .bool true] 25))
  have hB3 := HB2.out.alloc HB2.out.size (.cells #[.int .i64 300, .string ⟨#[]⟩, .bool false, .int .i64 0, .string ⟨#[97]⟩, .bool true] 25)
  refine (lay_walk (some ⟨w2.heap.size, 0, none⟩) 2 [(300, ⟨#[]⟩, false), (0, ⟨#[97]⟩, true)] _ hat (by simp) (by
    intro f hf
    simp only [List.mem_cons, List.not_mem_nil, or_false] at hf
    rcases hf with rfl | rfl
    · exact ⟨by decide, by decide⟩
    · exact ⟨by decide, by decide⟩)).mono ?_
  rintro r w4 ⟨rfl, hb4⟩
  rw [lay_300]
  have HB4 := Lib.hid (hB3.trans (hb4.mono hB3.size))
  clear hat hB3 hb4 HB2
  go_wp2_with fail
  refine (over_walk _ _).mono ?_
  rintro r w5 ⟨rfl, hb5, h5⟩
  obtain ⟨p, hp⟩ : ∃ p, p = w4.heap.size := ⟨_, rfl⟩
  rw [← hp] at h5 ⊢
  have hB5 := HB4.out.trans (hb5.mono HB4.out.size)
  have hpw : w.heap.size ≤ p := by have := HB4.out.size; omega
  have H5 := Lib.hid h5; have HB5 := Lib.hid hB5
  clear hb5 h5 hB5 hp HB4
  go_wp2_with fail
  refine (num_walk p _ 0 _ H5.out).mono ?_
  rintro r w6 ⟨rfl, hg6, h6⟩
  rw [num_300] at h6 ⊢
  have H6 := Lib.hid h6; have HB6 := Lib.hid (below_of_grown HB5.out hg6 HB5.out.size (fun k hk => by cases hk; exact hpw))
  clear h6 hg6 H5 HB5
  go_wp2_with fail
  refine (txt_walk p _ 0 _ H6.out).mono ?_
  rintro r w7 ⟨rfl, hg7, h7⟩
  rw [txt_a] at h7 ⊢
  have H7 := Lib.hid h7; have HB7 := Lib.hid (below_of_grown HB6.out hg7 HB6.out.size (fun k hk => by cases hk; exact hpw))
  clear h7 hg7 H6 HB6
  have ht1 : ({ data := #[172, 2, 1, 97] } : ByteArray).toList = [172, 2, 1, 97] := by rw [ByteArray.toList_eq]
  have ht2 : ({ data := #[97] } : ByteArray).toList = [97] := by rw [ByteArray.toList_eq]
  go_wp2_with fail
  refine (end_walk p _ 0 _ H7.out).mono ?_
  rintro r w8 ⟨rfl, rfl⟩
  rw [end_a]
  go_wp2_with fail
  go_ret
  exact ⟨rfl, HB7.out⟩

set_option maxHeartbeats 2000000 in
theorem lebNone_walk (n : Int) (w : World) (hn : n ≤ 9223372036854775807) : Calls Try.prog 6 #[.int .i64 n] w fun r w' => r = .returned (.bool true) ∧ Below w.heap.size w w' := by
  have hlay : lay [(n, ⟨#[]⟩, false)] = if n < 0 then (⟨#[]⟩, 3) else (⟨(lebN n.toNat).toArray⟩, 0) := by
    unfold lay
    by_cases h : n < 0
    · rw [if_pos h, if_pos (by simp [badF, h])]
    · have hb : [(n, ⟨#[]⟩, false)].any badF = false := by simp [badF]; omega
      have h9 := lebN_nine n.toNat (by omega)
      have hl : layB [(n, ⟨#[]⟩, false)] = lebN n.toNat := by simp [layB, putF]
      rw [if_neg h, if_neg (by rw [hb]; simp), hl, if_neg (by omega)]
  have HLAY := Lib.hid hlay
  clear hlay
  go_enter Try.func6, Try.ntmps6
  go_wp2_with fail
  refine (n_walk n _).mono ?_
  rintro r w1 ⟨rfl, hb1⟩
  unfold fld
  have HB1 := Lib.hid hb1
  clear hb1
  go_wp2_with fail
  have hat := one_at (f := (n, ⟨#[]⟩, false)) (heap_alloc_top w1 (.cells #[.int .i64 n, .string ⟨#[]⟩, .bool false] 25))
  have hB3 := HB1.out.alloc HB1.out.size (.cells #[.int .i64 n, .string ⟨#[]⟩, .bool false] 25)
  refine (lay_walk (some ⟨w1.heap.size, 0, none⟩) 1 [(n, ⟨#[]⟩, false)] _ hat (by simp) (by
    intro f hf
    simp only [List.mem_cons, List.not_mem_nil, or_false] at hf
    subst hf
    exact ⟨hn, Nat.zero_le _⟩)).mono ?_
  rintro r w4 ⟨rfl, hb4⟩
  rw [HLAY.out]
  have HB4 := Lib.hid (hB3.trans (hb4.mono hB3.size))
  clear hat hB3 hb4 HB1
  by_cases hneg : n < 0
  · rw [if_pos hneg]
    have hneg2 : ¬ 0 ≤ n := by omega
    have HNG := Lib.hid hneg2
    go_wp2_with fail
    refine (awake_walk _).mono ?_
    rintro r w5 ⟨rfl, hb5⟩
    go_wp2_with fail
    refine (num_nil _).mono ?_
    rintro r w6 ⟨rfl, rfl⟩
    go_wp2_with fail
    refine (txt_nil _).mono ?_
    rintro r w6 ⟨rfl, rfl⟩
    go_wp2_with fail
    refine (left_nil _).mono ?_
    rintro r w6 ⟨rfl, rfl⟩
    go_wp2_with fail
    refine (err_nil _).mono ?_
    rintro r w6 ⟨rfl, rfl⟩
    go_wp2_with fail
    refine (end_nil _).mono ?_
    rintro r w6 ⟨rfl, rfl⟩
    go_wp2_with fail
    go_ret
    have hd : decide (0 ≤ n) = false := decide_eq_false (by have := HNG.out; omega)
    exact ⟨ret_bool (by first | rfl | (rw [hd]; rfl)), HB4.out.trans (hb5.mono HB4.out.size)⟩
  · rw [if_neg hneg]
    have hneg2 : 0 ≤ n := by omega
    clear hneg
    go_wp2_with fail
    refine (awake_walk _).mono ?_
    rintro r w5 ⟨rfl, hb5⟩
    go_wp2_with fail
    refine (num_nil _).mono ?_
    rintro r w6 ⟨rfl, rfl⟩
    go_wp2_with fail
    refine (txt_nil _).mono ?_
    rintro r w6 ⟨rfl, rfl⟩
    go_wp2_with fail
    refine (left_nil _).mono ?_
    rintro r w6 ⟨rfl, rfl⟩
    go_wp2_with fail
    refine (err_nil _).mono ?_
    rintro r w6 ⟨rfl, rfl⟩
    go_wp2_with fail
    refine (end_nil _).mono ?_
    rintro r w6 ⟨rfl, rfl⟩
    go_wp2_with fail
    go_ret
    exact ⟨rfl, HB4.out.trans (hb5.mono HB4.out.size)⟩
end Go.Proofs.Ytalbilhhpiopiaa
