/-
  Texts that came in, opened.
-/
import Derived.Test.YtfiigmimhdnpnaaStrs
import Derived.Test.YtfiigmimhdnpnaaLaw
import Derived.Deep.Strs
import Derived.Deep.Grids
namespace Go.Proofs.Ytfiigmimhdnpnaa
open Go.ChangeShapes Go.WideShapes Go.ChangeAt Go.RowKit
section
variable {H : Type} {enc : TypeId × Value → H} {w : World} {base : Nat} {spare : Nat → Bool} {held : Bool}
theorem so_cells_string : Try.prog.cellsOf 9 = 1 := by kernel_rfl
theorem so_block_of_cell {b off : Nat} {v : Value} (h : w.cell? ⟨b, off, none⟩ = some v) : b < w.heap.size := by
  rcases Nat.lt_or_ge b w.heap.size with h' | h'
  · exact h'
  · simp [World.cell?, h'] at h
theorem so_add_none (b off k : Nat) : (⟨b, off, none⟩ : Addr).add k = ⟨b, off + k, none⟩ := by unfold Addr.add; split <;> simp_all
theorem open_strings {r : Reach} {b0 : Nat} {v : Value} {d : DataW H} {ps : List MemPlace} (hv : Value.okWide Try.prog w r b0 22 v) (h : DataW.Trod enc Try.prog w base spare held 22 v d ps) :
    ∃ ad cap, ∃ l : List ByteArray, v = .slice ad l.length cap ∧ strsAt w ad l ∧ l.length ≤ cap ∧ cap ≤ 9223372036854775807 := by
  obtain ⟨a0, len0, cap0, rfl⟩ := okWide_slice Try.underlying22 hv
  obtain ⟨fuel, hf⟩ := h
  simp only [Value.cells] at hf
  rcases Go.Deep.open_strs Try.underlying22 Try.underlying9 so_cells_string hf with ⟨e, _⟩ | ⟨a, len, cap, m, Sx, e, _, hl, hm, hmm, _, hx⟩
  · simp at e
    obtain ⟨rfl, rfl, rfl⟩ := e
    exact ⟨none, 0, [], rfl, .inl rfl, by simp, by simp⟩
  · simp at e
    obtain ⟨rfl, rfl, rfl⟩ := e
    have hlm : len0 ≤ m := by rw [hmm]; split <;> omega
    refine ⟨some a, cap0, (List.range len0).map Sx, by simp, ?_, by simpa using hl, by unfold maxLen at hm; omega⟩
    rcases Nat.eq_zero_or_pos len0 with rfl | hp
    · exact .inl rfl
    obtain ⟨b, off, spot⟩ := a
    have hspot : spot = none := by simpa [Addr.add] using World.cell?_spot (hx 0 (by omega)).1
    subst hspot
    simp only [so_add_none] at hx
    refine .inr ⟨b, off, rfl, so_block_of_cell (hx 0 (by omega)).1, fun i hi => ?_⟩
    have hi' : i < len0 := by simpa using hi
    simp only [List.getElem_map, List.getElem_range]
    exact (hx i (by omega)).1
end
end Go.Proofs.Ytfiigmimhdnpnaa
