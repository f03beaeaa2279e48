/-
  What must come at any rate; the walk of InboxOrder.
-/
import Derived.Test.YtkmchbmajfmbhaaInbC
import Derived.Test.YtkmchbmajfmbhaaMix
namespace Go.Proofs.Ytkmchbmajfmbhaa
open Go.RowKit

theorem below_of_grown {w w1 w2 : World} {B : Nat} {row : Option Nat} (h : Below B w w1) (hg : w1.grownBy w2 row) (hB : B ≤ w1.heap.size) (hr : ∀ k, row = some k → B ≤ k) : Below B w w2 :=
  h.trans ⟨hg.os, hg.tape, hg.output, hg.size, fun k hk => hg.block k (by omega) (fun e => by have := hr k e.symm; omega)⟩

set_option maxHeartbeats 2000000 in
theorem awake_walk (w : World) : Calls Try.prog 7 #[] w fun e w' => e = .returned (.bool true) ∧ Below w.heap.size w w' := by
  go_enter Try.func7, Try.ntmps7
  go_wp2_with fail
  refine (new_box 1 w (by omega) (by omega)).mono ?_
  rintro e w1 ⟨rfl, hb1, hx1⟩
  obtain ⟨p, hp⟩ : ∃ p, p = w.heap.size + 1 := ⟨_, rfl⟩
  obtain ⟨c, hc⟩ : ∃ c, c = w.heap.size := ⟨_, rfl⟩
  rw [← hp] at hx1 ⊢
  rw [← hc] at hx1
  have HC := Lib.hid hc
  clear hp hc
  go_wp2_with fail
  refine (put_room p c 1 [] ⟨#[97]⟩ _ hx1 (by simp)).mono ?_
  rintro e w2 ⟨rfl, hg2, hx2⟩
  go_wp2_with fail
  refine (put_full p c 1 _ ⟨#[98]⟩ _ hx2 (by simp)).mono ?_
  rintro e w3 ⟨rfl, rfl⟩
  go_wp2_with fail
  refine (get_some p c 1 ⟨#[97]⟩ [] _ hx2).mono ?_
  rintro e w4 ⟨rfl, hg4, hx4⟩
  go_wp2_with fail
  refine (get_none p c 1 _ hx4).mono ?_
  rintro e w5 ⟨rfl, rfl⟩
  go_wp2_with fail
  refine (room_box p c 1 [] _ hx4).mono ?_
  rintro e w6 ⟨rfl, rfl⟩
  go_wp2_with fail
  go_ret
  have hle := hb1.size
  have h2 := below_of_grown hb1 hg2 hb1.size (fun k hk => by have := HC.out; cases hk; omega)
  have h4 := below_of_grown h2 hg4 h2.size (fun k hk => by have := HC.out; cases hk; omega)
  exact ⟨rfl, h4.drew⟩
end Go.Proofs.Ytkmchbmajfmbhaa
