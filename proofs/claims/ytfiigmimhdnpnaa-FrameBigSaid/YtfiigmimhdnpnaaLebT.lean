/-
  Layer 1: texts are read.
-/
import Derived.Test.YtfiigmimhdnpnaaLebF
namespace Go.Proofs.Ytfiigmimhdnpnaa
open Go.RowKit

/-- what T answers, and leaves -/
def txtR (s : ByteArray) (e : Int) : ByteArray × ByteArray × Int := takeR (numR s e).2.1 (numR s e).2.2 (numR s e).1
theorem txt_walk (p : Nat) (s : ByteArray) (e : Int) (w : World) (h : InAt w p s e) :
    Calls Try.prog 25 #[.pointer (some ⟨p, 0, none⟩)] w fun r w' => r = .returned (.string (txtR s e).1) ∧ w.grownBy w' (some p) ∧ InAt w' p (txtR s e).2.1 (txtR s e).2.2 := by
  have H := Lib.hid h
  clear h
  unfold txtR
  obtain ⟨n, s1, e1, hn⟩ : ∃ n s1 e1, numR s e = (n, s1, e1) := ⟨_, _, _, rfl⟩
  rw [hn]
  have HN := Lib.hid hn
  clear hn
  go_enter Try.func25, Try.ntmps25
  go_wp2_with fail
  refine (num_walk p s e _ H.out).mono ?_
  rintro r w1 ⟨rfl, hg1, h1⟩
  rw [HN.out] at h1 ⊢
  have H1 := Lib.hid h1; have HG1 := Lib.hid hg1
  clear h1 hg1
  go_wp2_with fail
  refine (take_walk p s1 e1 n _ H1.out).mono ?_
  rintro r w2 ⟨rfl, hg2, h2⟩
  have H2 := Lib.hid h2; have HG2 := Lib.hid (grown_trans HG1.out hg2)
  clear h2 hg2
  go_wp2_with fail
  go_ret
  exact ⟨rfl, HG2.out, H2.out⟩
theorem over_walk (s : ByteArray) (w : World) :
    Calls Try.prog 24 #[.string s] w fun r w' => r = .returned (.pointer (some ⟨w.heap.size, 0, none⟩)) ∧ Below w.heap.size w w' ∧ InAt w' w.heap.size s 0 := by
  go_enter Try.func24, Try.ntmps24
  go_wp2_with fail
  go_ret
  exact ⟨rfl, (Below.refl _ _).alloc (Nat.le_refl _) _, heap_alloc_top _ _⟩

theorem below_of_grown {w w1 w2 : World} {B : Nat} {row : Option Nat} (h : Below B w w1) (hg : w1.grownBy w2 row) (hB : B ≤ w1.heap.size) (hr : ∀ k, row = some k → B ≤ k) : Below B w w2 :=
  h.trans ⟨hg.os, hg.tape, hg.output, hg.size, fun k hk => hg.block k (by omega) (fun e => by have := hr k e.symm; omega)⟩
theorem InAt.keep {w w' : World} {p B : Nat} {s : ByteArray} {e : Int} (h : InAt w p s e) (hb : Below B w w') (hp : p < B) : InAt w' p s e := (hb.block p hp).trans h

/-- one field, two fields, in a block -/
theorem one_at {w : World} {b : Nat} {f : Fld} {ty : TypeId} (hb : w.heap[b]? = some (.cells #[.int .i64 f.1, .string f.2.1, .bool f.2.2] ty (0, 0))) : fldsAt w (some ⟨b, 0, none⟩) [f] := by
  refine .inr ⟨b, 0, rfl, lt_of_block hb, fun i hi j u hu => ?_⟩
  rw [cell_of_row w b (0 + i * 3 + j) _ _ _ hb]
  match i, hi with
  | 0, _ =>
    match j, hu with
    | 0, hu => exact hu
    | 1, hu => exact hu
    | 2, hu => exact hu
    | j + 3, hu => simp at hu
  | i + 1, hi => exact absurd hi (by simp)
theorem two_at {w : World} {b : Nat} {f g : Fld} {ty : TypeId} (hb : w.heap[b]? = some (.cells #[.int .i64 f.1, .string f.2.1, .bool f.2.2, .int .i64 g.1, .string g.2.1, .bool g.2.2] ty (0, 0))) : fldsAt w (some ⟨b, 0, none⟩) [f, g] := by
  refine .inr ⟨b, 0, rfl, lt_of_block hb, fun i hi j u hu => ?_⟩
  rw [cell_of_row w b (0 + i * 3 + j) _ _ _ hb]
  match i, hi with
  | 0, _ =>
    match j, hu with
    | 0, hu => exact hu
    | 1, hu => exact hu
    | 2, hu => exact hu
    | j + 3, hu => simp at hu
  | 1, _ =>
    match j, hu with
    | 0, hu => exact hu
    | 1, hu => exact hu
    | 2, hu => exact hu
    | j + 3, hu => simp at hu
  | i + 2, hi => exact absurd hi (by simp)
end Go.Proofs.Ytfiigmimhdnpnaa
