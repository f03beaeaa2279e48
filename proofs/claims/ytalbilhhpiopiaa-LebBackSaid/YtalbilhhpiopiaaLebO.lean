/-
  Fields that came in, opened.
-/
import Derived.Test.YtalbilhhpiopiaaLebD
import Derived.Test.YtalbilhhpiopiaaLaw
import Derived.Deep.Strs
import Derived.Deep.SlicePairs
namespace Go.Proofs.Ytalbilhhpiopiaa
open Go.ChangeShapes Go.WideShapes Go.ChangeAt Go.RowKit Go.Deep
variable {H : Type} {enc : TypeId × Value → H} {w : World} {base : Nat} {spare : Nat → Bool} {held : Bool}
theorem cells_fld : Try.prog.cellsOf 25 = 3 := by kernel_rfl
theorem cells_int1 : Try.prog.cellsOf 3 = 1 := by kernel_rfl
theorem cells_string1 : Try.prog.cellsOf 9 = 1 := by kernel_rfl
theorem cells_bool1 : Try.prog.cellsOf 4 = 1 := by kernel_rfl
theorem add_spot (b off k : Nat) : (⟨b, off, none⟩ : Addr).add k = ⟨b, off + k, none⟩ := by unfold Addr.add; split <;> simp_all
theorem lt_of_cell {b off : Nat} {v : Value} (h : w.cell? ⟨b, off, none⟩ = some v) : b < w.heap.size := by
  rcases Nat.lt_or_ge b w.heap.size with h' | h'
  · exact h'
  · simp [World.cell?, h'] at h
theorem open_flds {r : Reach} {b0 : Nat} {v : Value} {d : DataW H} {ps : List MemPlace} (hv : Value.okWide Try.prog w r b0 22 v) (h : DataW.Trod enc Try.prog w base spare held 22 v d ps) :
    ∃ ad cap, ∃ l : List Fld, v = .slice ad l.length cap ∧ fldsAt w ad l ∧ l.length ≤ cap ∧ cap ≤ 9223372036854775807 ∧ ∀ f ∈ l, (-9223372036854775808 ≤ f.1 ∧ f.1 ≤ 9223372036854775807) ∧ f.2.1.size ≤ 9223372036854775807 := by
  obtain ⟨a0, len0, cap0, rfl⟩ := okWide_slice Try.underlying22 hv
  obtain ⟨fuel, hf⟩ := h
  simp only [Value.cells] at hf
  rcases open_slice Try.underlying22 hf with ⟨e, _⟩ | ⟨a, len, cap, m, n, D, Pl, e, _, hl, hm, hmm, _, hx⟩
  · simp at e
    obtain ⟨rfl, rfl, rfl⟩ := e
    exact ⟨none, 0, [], rfl, .inl rfl, by simp, by simp, by simp⟩
  · simp at e
    obtain ⟨rfl, rfl, rfl⟩ := e
    have hlm : len0 ≤ m := by rw [hmm]; split <;> omega
    have each : ∀ i, i < m → ∃ f : Fld, (∀ (j : Nat) (u : Value), [Value.int .i64 f.1, .string f.2.1, .bool f.2.2][j]? = some u → w.cell? (a.add (i * 3 + j)) = some u) ∧ (-9223372036854775808 ≤ f.1 ∧ f.1 ≤ 9223372036854775807) ∧ f.2.1.size ≤ 9223372036854775807 := by
      intro i hi
      obtain ⟨cs', h1, h2⟩ := hx i hi
      rw [cells_fld] at h1
      obtain ⟨_, hlen, hcell⟩ := World.cells?_some h1
      obtain ⟨y0, y1, y2, n', _, _, g0, g1, g2⟩ := trod_struct3 Try.underlying25 h2
      match cs', hlen with
      | [v0, v1, v2], _ =>
        simp [cells_int1, cells_string1, cells_bool1] at g0 g1 g2
        obtain ⟨x, e0, _, k0⟩ := DataW.trod_int Try.underlying3 g0
        obtain ⟨s, e1, _, k1⟩ := DataW.trod_string Try.underlying9 g1
        obtain ⟨b, e2, _⟩ := DataW.trod_bool Try.underlying4 g2
        simp only [List.cons.injEq, and_true] at e0 e1 e2
        have f0 := (Bool.and_eq_true _ _).mp k0
        refine ⟨(x, s, b), fun j u hu => ?_, ⟨of_decide_eq_true f0.1, of_decide_eq_true f0.2⟩, k1⟩
        match j, hu with
        | 0, hu =>
          have c := hcell 0 (by omega)
          rw [add_add] at c
          simp at c hu
          rw [← hu, ← e0]; exact c
        | 1, hu =>
          have c := hcell 1 (by omega)
          rw [add_add] at c
          simp at c hu
          rw [← hu, ← e1]; exact c
        | 2, hu =>
          have c := hcell 2 (by omega)
          rw [add_add] at c
          simp at c hu
          rw [← hu, ← e2]; exact c
        | j + 3, hu => simp at hu
    obtain ⟨F, hF⟩ := choose_lt each
    refine ⟨some a, cap0, (List.range len0).map F, by simp, ?_, by simpa using hl, by unfold maxLen at hm; omega, ?_⟩
    · rcases Nat.eq_zero_or_pos len0 with rfl | hp
      · exact .inl rfl
      obtain ⟨b, off, spot⟩ := a
      have c0 := (hF 0 (by omega)).1 0 _ rfl
      have hspot : spot = none := by simpa [Addr.add] using World.cell?_spot c0
      subst hspot
      simp only [add_spot] at hF c0
      refine .inr ⟨b, off, rfl, lt_of_cell c0, fun i hi j u hu => ?_⟩
      have hi' : i < len0 := by simpa using hi
      simp only [List.getElem_map, List.getElem_range] at hu
      rw [Nat.add_assoc]
      exact (hF i (by omega)).1 j u hu
    · intro f hf
      obtain ⟨i, hi, rfl⟩ := List.mem_map.1 hf
      exact (hF i (by have := List.mem_range.1 hi; omega)).2
end Go.Proofs.Ytalbilhhpiopiaa
