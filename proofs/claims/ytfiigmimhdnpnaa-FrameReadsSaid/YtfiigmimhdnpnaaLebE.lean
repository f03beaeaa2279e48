/-
  Layer 1: what is left of bytes: Err, Left, fail, take.
-/
import Derived.Test.YtfiigmimhdnpnaaLebD
namespace Go.Proofs.Ytfiigmimhdnpnaa
open Go.RowKit

/-- the reader at p: what is left, and an error -/
def InAt (w : World) (p : Nat) (s : ByteArray) (e : Int) : Prop := w.heap[p]? = some (.cells #[.string s, .int .i64 e] 60 (0, 0))
theorem InAt.c0 {w : World} {p : Nat} {s : ByteArray} {e : Int} (h : InAt w p s e) : w.cell? ⟨p, 0, none⟩ = some (.string s) := by rw [cell_of_row w p 0 _ _ _ h]; rfl
theorem InAt.c1 {w : World} {p : Nat} {s : ByteArray} {e : Int} (h : InAt w p s e) : w.cell? ⟨p, 1, none⟩ = some (.int .i64 e) := by rw [cell_of_row w p 1 _ _ _ h]; rfl
theorem InAt.f {w : World} {p : Nat} {s : ByteArray} {e : Int} (h : InAt w p s e) (i : Nat) : w.frozen? ⟨p, i, none⟩ = false := by unfold InAt at h; simp [World.frozen?, h]
theorem InAt.set0 {w : World} {p : Nat} {s s' : ByteArray} {e : Int} (h : InAt w p s e) : InAt (w.setCell ⟨p, 0, none⟩ (.string s')) p s' e := setCell_block h _
theorem InAt.set1 {w : World} {p : Nat} {s : ByteArray} {e e' : Int} (h : InAt w p s e) : InAt (w.setCell ⟨p, 1, none⟩ (.int .i64 e')) p s e' := setCell_block h _
theorem grown_refl (w : World) (row : Option Nat) : w.grownBy w row := ⟨rfl, rfl, rfl, Nat.le_refl _, fun _ _ _ => rfl⟩
theorem grown_set (w : World) (p i : Nat) (v : Value) : w.grownBy (w.setCell ⟨p, i, none⟩ v) (some p) :=
  ⟨rfl, rfl, rfl, by simp [World.setCell], fun k _ hk => heap_setCell_ne w p k i v (fun e => hk (by rw [e]))⟩
theorem grown_trans {a b c : World} {row : Option Nat} (h : a.grownBy b row) (k : b.grownBy c row) : a.grownBy c row :=
  ⟨k.os.trans h.os, k.tape.trans h.tape, k.output.trans h.output, Nat.le_trans h.size k.size, fun j hj hne => (k.block j (Nat.lt_of_lt_of_le hj h.size) hne).trans (h.block j hj hne)⟩

theorem err_walk (p : Nat) (s : ByteArray) (e : Int) (w : World) (h : InAt w p s e) :
    Calls Try.prog 26 #[.pointer (some ⟨p, 0, none⟩)] w fun r w' => r = .returned (.int .i64 e) ∧ w' = w := by
  have c1 := h.c1
  go_enter Try.func26, Try.ntmps26
  go_wp2_with fail
  go_ret
  exact ⟨rfl, rfl⟩
theorem err_nil (w : World) : Calls Try.prog 26 #[.pointer none] w fun r w' => r = .returned (.int .i64 1) ∧ w' = w := by
  go_enter Try.func26, Try.ntmps26
  go_wp2_with fail
  go_ret
  exact ⟨rfl, rfl⟩

/-- how many bytes are left -/
def leftN (s : ByteArray) (e : Int) : Nat := if e = 0 then s.size else 0
theorem left_walk (p : Nat) (s : ByteArray) (e : Int) (w : World) (h : InAt w p s e) :
    Calls Try.prog 27 #[.pointer (some ⟨p, 0, none⟩)] w fun r w' => r = .returned (.int .i64 (leftN s e)) ∧ w' = w := by
  have c0 := h.c0
  have H := Lib.hid h
  clear h
  go_enter Try.func27, Try.ntmps27
  go_wp2_with fail
  refine (err_walk p s e _ H.out).mono ?_
  rintro r w1 ⟨rfl, rfl⟩
  by_cases he : e = 0
  · have HE := Lib.hid he
    go_wp2_with fail
    go_ret
    exact ⟨ret_int (by unfold leftN; rw [if_pos HE.out]), rfl⟩
  · have HE := Lib.hid he
    go_wp2_with fail
    go_ret
    exact ⟨ret_int (by unfold leftN; rw [if_neg HE.out]; rfl), rfl⟩
theorem left_nil (w : World) : Calls Try.prog 27 #[.pointer none] w fun r w' => r = .returned (.int .i64 0) ∧ w' = w := by
  go_enter Try.func27, Try.ntmps27
  go_wp2_with fail
  refine (err_nil _).mono ?_
  rintro r w1 ⟨rfl, rfl⟩
  go_wp2_with fail
  go_ret
  exact ⟨rfl, rfl⟩

theorem fail_walk (p : Nat) (s : ByteArray) (e c : Int) (w : World) (h : InAt w p s e) :
    Calls Try.prog 40 #[.pointer (some ⟨p, 0, none⟩), .int .i64 c] w fun r w' => r = .returned (.tuple #[]) ∧ w.grownBy w' (some p) ∧ InAt w' p s (if e = 0 then c else e) := by
  have c1 := h.c1
  have f1 := h.f 1
  have H := Lib.hid h
  clear h
  go_enter Try.func40, Try.ntmps40
  by_cases he : e = 0
  · subst he
    go_wp2_with fail
    exact bodyPost_end (results_none rfl _ _ _) rfl ⟨rfl, grown_set _ _ _ _, by first | exact H.out.set1 | (rw [if_pos rfl]; exact H.out.set1)⟩
  · have HE := Lib.hid he
    go_wp2_with fail
    exact bodyPost_end (results_none rfl _ _ _) rfl ⟨rfl, grown_refl _ _, by first | exact H.out | (rw [if_neg HE.out]; exact H.out)⟩
theorem fail_nil (c : Int) (w : World) : Calls Try.prog 40 #[.pointer none, .int .i64 c] w fun r w' => r = .returned (.tuple #[]) ∧ w' = w := by
  go_enter Try.func40, Try.ntmps40
  go_wp2_with fail
  exact bodyPost_end (results_none rfl _ _ _) rfl ⟨rfl, rfl⟩

/-- what take answers, and leaves -/
def takeR (s : ByteArray) (e : Int) (n : Nat) : ByteArray × ByteArray × Int :=
  if e ≠ 0 then (⟨#[]⟩, s, e) else if s.size < n then (⟨#[]⟩, s, 5) else (s.extract 0 n, s.extract n s.size, 0)

set_option maxHeartbeats 2000000 in
theorem take_walk (p : Nat) (s : ByteArray) (e : Int) (n : Nat) (w : World) (h : InAt w p s e) :
    Calls Try.prog 35 #[.pointer (some ⟨p, 0, none⟩), .int .i64 n] w fun r w' => r = .returned (.string (takeR s e n).1) ∧ w.grownBy w' (some p) ∧ InAt w' p (takeR s e n).2.1 (takeR s e n).2.2 := by
  have H := Lib.hid h
  clear h
  go_enter Try.func35, Try.ntmps35
  go_wp2_with fail
  refine (left_walk p s e _ H.out).mono ?_
  rintro r w1 ⟨rfl, rfl⟩
  by_cases he : e = 0
  · subst he
    have hl : leftN s 0 = s.size := by unfold leftN; rw [if_pos rfl]
    rw [hl]
    by_cases hs : s.size < n
    · have ht : takeR s 0 n = (⟨#[]⟩, s, 5) := by unfold takeR; rw [if_neg (by simp), if_pos hs]
      have HT := Lib.hid ht
      clear ht
      go_wp2_with fail
      refine (fail_walk p s 0 5 _ H.out).mono ?_
      rintro r w2 ⟨rfl, hg2, h2⟩
      rw [if_pos rfl] at h2
      go_wp2_with fail
      refine (err_walk p s 5 _ h2).mono ?_
      rintro r w3 ⟨rfl, rfl⟩
      go_wp2_with fail
      go_ret
      rw [HT.out]
      exact ⟨rfl, hg2, h2⟩
    · have hs' : n ≤ s.size := by omega
      have ht : takeR s 0 n = (s.extract 0 n, s.extract n s.size, 0) := by unfold takeR; rw [if_neg (by simp), if_neg hs]
      have HT := Lib.hid ht
      have c0 := H.out.c0
      have f0 := H.out.f 0
      clear ht
      go_wp2_with fail
      refine (err_walk p s 0 _ H.out).mono ?_
      rintro r w3 ⟨rfl, rfl⟩
      go_wp2_with fail
      go_ret
      rw [HT.out]
      exact ⟨rfl, grown_set _ _ _ _, H.out.set0⟩
  · have ht : takeR s e n = (⟨#[]⟩, s, e) := by unfold takeR; rw [if_pos he]
    have hl : leftN s e = 0 := by unfold leftN; rw [if_neg he]
    rw [hl]
    have HT := Lib.hid ht; have HE := Lib.hid he
    clear ht hl he
    by_cases hn : 0 < n
    · go_wp2_with fail
      refine (fail_walk p s e 5 _ H.out).mono ?_
      rintro r w2 ⟨rfl, hg2, h2⟩
      rw [if_neg HE.out] at h2
      go_wp2_with fail
      refine (err_walk p s e _ h2).mono ?_
      rintro r w3 ⟨rfl, rfl⟩
      have he := HE.out
      go_wp2_with fail
      go_ret
      rw [HT.out]
      exact ⟨rfl, hg2, h2⟩
    · obtain rfl : n = 0 := by omega
      go_wp2_with fail
      refine (err_walk p s e _ H.out).mono ?_
      rintro r w3 ⟨rfl, rfl⟩
      have he := HE.out
      go_wp2_with fail
      go_ret
      rw [HT.out]
      exact ⟨rfl, grown_refl _ _, H.out⟩
theorem take_nil (n : Nat) (w : World) : Calls Try.prog 35 #[.pointer none, .int .i64 n] w fun r w' => r = .returned (.string ⟨#[]⟩) ∧ w' = w := by
  go_enter Try.func35, Try.ntmps35
  go_wp2_with fail
  refine (left_nil _).mono ?_
  rintro r w1 ⟨rfl, rfl⟩
  by_cases hn : 0 < n
  · go_wp2_with fail
    refine (fail_nil 5 _).mono ?_
    rintro r w2 ⟨rfl, rfl⟩
    go_wp2_with fail
    refine (err_nil _).mono ?_
    rintro r w3 ⟨rfl, rfl⟩
    go_wp2_with fail
    go_ret
    exact ⟨rfl, rfl⟩
  · obtain rfl : n = 0 := by omega
    go_wp2_with fail
    refine (err_nil _).mono ?_
    rintro r w3 ⟨rfl, rfl⟩
    go_wp2_with fail
    go_ret
    exact ⟨rfl, rfl⟩
end Go.Proofs.Ytfiigmimhdnpnaa
