/-
  Acts and numbers that came in, opened.
  Layer 5: acts that came in, opened.
-/
import Derived.Test.YtagdaeapjofajaaMgH
import Derived.Test.YtagdaeapjofajaaMgA
import Derived.Deep.Strs
import Derived.Deep.SlicePairs
import Derived.Test.YtagdaeapjofajaaMgQ
import Derived.Test.YtagdaeapjofajaaMgN
namespace Go.Proofs.Ytagdaeapjofajaa
set_option maxRecDepth 4000
open Go.ChangeShapes Go.WideShapes Go.ChangeAt Go.RowKit Go.Deep
section
variable {H : Type} {enc : TypeId × Value → H} {w : World} {base : Nat} {spare : Nat → Bool} {held : Bool}
theorem trod_struct5 {P : Program} {t : TypeId} {f0 f1 f2 f3 f4 : Field} {fuel : Nat} {cs : List Value} {x : DataW H × List MemPlace} (ht : P.underlying t = some (.struct #[f0, f1, f2, f3, f4])) (h : DataW.trod enc P w base spare held fuel t cs = some x) :
    ∃ y0 y1 y2 y3 y4 n, cs.length = P.cellsOf t ∧ DataW.trod enc P w base spare held n f0.type ((cs.drop f0.offset).take (P.cellsOf f0.type)) = some y0 ∧
      DataW.trod enc P w base spare held n f1.type ((cs.drop f1.offset).take (P.cellsOf f1.type)) = some y1 ∧ DataW.trod enc P w base spare held n f2.type ((cs.drop f2.offset).take (P.cellsOf f2.type)) = some y2 ∧
      DataW.trod enc P w base spare held n f3.type ((cs.drop f3.offset).take (P.cellsOf f3.type)) = some y3 ∧ DataW.trod enc P w base spare held n f4.type ((cs.drop f4.offset).take (P.cellsOf f4.type)) = some y4 := by
  obtain ⟨xs, n, _, rfl, hl, hlen, hf⟩ := DataW.trod_struct ht h
  match xs, hlen with
  | [y0, y1, y2, y3, y4], _ => exact ⟨y0, y1, y2, y3, y4, n, hl, by simpa using hf 0 f0 rfl, by simpa using hf 1 f1 rfl, by simpa using hf 2 f2 rfl, by simpa using hf 3 f3 rfl, by simpa using hf 4 f4 rfl⟩
theorem do_cells_int : Try.prog.cellsOf 3 = 1 := by kernel_rfl
theorem do_cells_string : Try.prog.cellsOf 9 = 1 := by kernel_rfl
theorem do_cells_ints : Try.prog.cellsOf 49 = 1 := by kernel_rfl
theorem do_add_spot (b off k : Nat) : (⟨b, off, none⟩ : Addr).add k = ⟨b, off + k, none⟩ := by unfold Addr.add; split <;> simp_all
theorem do_lt_of_cell {b off : Nat} {v : Value} (h : w.cell? ⟨b, off, none⟩ = some v) : b < w.heap.size := by
  rcases Nat.lt_or_ge b w.heap.size with h' | h'
  · exact h'
  · simp [World.cell?, h'] at h
instance : Inhabited DAct := ⟨⟨0, 0, 0, ⟨#[]⟩, none, [], 0⟩⟩
/-- a slice of numbers, trodden -/
theorem trod_ints {fuel : Nat} {v : Value} {x : DataW H × List MemPlace} (hf : DataW.trod enc Try.prog w base spare held fuel 49 [v] = some x) :
    ∃ ad cap, ∃ l : List Int, v = .slice ad l.length cap ∧ intsAt w ad l ∧ l.length ≤ cap ∧ cap ≤ 9223372036854775807 ∧ ∀ x ∈ l, -9223372036854775808 ≤ x ∧ x ≤ 9223372036854775807 := by
  rcases open_slice Try.underlying49 hf with ⟨e, _⟩ | ⟨a, len, cap, m, n, D, Pl, e, _, hl, hm, hmm, _, hx⟩
  · simp at e
    subst e
    exact ⟨none, 0, [], rfl, .inl rfl, by simp, by simp, by simp⟩
  · simp at e
    subst e
    have hlm : len ≤ m := by rw [hmm]; split <;> omega
    have each : ∀ i, i < m → ∃ f : Int, w.cell? (a.add i) = some (.int .i64 f) ∧ -9223372036854775808 ≤ f ∧ f ≤ 9223372036854775807 := by
      intro i hi
      obtain ⟨cs', h1, h2⟩ := hx i hi
      rw [do_cells_int] at h1
      obtain ⟨_, hlen, hcell⟩ := World.cells?_some h1
      match cs', hlen with
      | [v0], _ =>
        obtain ⟨y, e0, _, k0⟩ := DataW.trod_int Try.underlying3 h2
        simp only [List.cons.injEq, and_true] at e0
        have f0 := (Bool.and_eq_true _ _).mp k0
        refine ⟨y, ?_, of_decide_eq_true f0.1, of_decide_eq_true f0.2⟩
        have c := hcell 0 (by simp)
        rw [add_add] at c
        simp at c
        rw [← e0]
        exact c
    obtain ⟨F, hF⟩ := choose_lt each
    refine ⟨some a, cap, (List.range len).map F, by simp, ?_, by simpa using hl, by unfold maxLen at hm; omega, ?_⟩
    · rcases Nat.eq_zero_or_pos len with rfl | hp
      · exact .inl rfl
      obtain ⟨b, off, spot⟩ := a
      have c0 := (hF 0 (by omega)).1
      have hspot : spot = none := by simpa [Addr.add] using World.cell?_spot c0
      subst hspot
      simp only [do_add_spot] at hF c0
      refine .inr ⟨b, off, rfl, do_lt_of_cell c0, fun i hi => ?_⟩
      have hi' : i < len := by simpa using hi
      simp only [List.getElem_map, List.getElem_range]
      exact (hF i (by omega)).1
    · intro y hy
      obtain ⟨i, hi, rfl⟩ := List.mem_map.1 hy
      exact (hF i (by have := List.mem_range.1 hi; omega)).2
theorem open_ints {r : Reach} {b0 : Nat} {v : Value} {d : DataW H} {ps : List MemPlace} (hv : Value.okWide Try.prog w r b0 49 v) (h : DataW.Trod enc Try.prog w base spare held 49 v d ps) :
    ∃ ad cap, ∃ l : List Int, v = .slice ad l.length cap ∧ intsAt w ad l ∧ l.length ≤ cap ∧ cap ≤ 9223372036854775807 ∧ ∀ x ∈ l, -9223372036854775808 ≤ x ∧ x ≤ 9223372036854775807 := by
  obtain ⟨a0, len0, cap0, rfl⟩ := okWide_slice Try.underlying49 hv
  obtain ⟨fuel, hf⟩ := h
  exact trod_ints hf
end
end Go.Proofs.Ytagdaeapjofajaa

namespace Go.Proofs.Ytagdaeapjofajaa
set_option maxRecDepth 4000
open Go.ChangeShapes Go.WideShapes Go.ChangeAt Go.RowKit Go.Deep
section
variable {H : Type} {enc : TypeId × Value → H} {w : World} {base : Nat} {spare : Nat → Bool} {held : Bool}
theorem jo_cells_act : Try.prog.cellsOf 51 = 5 := by kernel_rfl
theorem jo_cells_bool : Try.prog.cellsOf 4 = 1 := by kernel_rfl
instance : Inhabited JAct := ⟨⟨false, false, none, 0, [], 0, none, 0, []⟩⟩
theorem open_jacts {r : Reach} {b0 : Nat} {v : Value} {d : DataW H} {ps : List MemPlace} (hv : Value.okWide Try.prog w r b0 48 v) (h : DataW.Trod enc Try.prog w base spare held 48 v d ps) :
    ∃ ad cap, ∃ l : List JAct, v = .slice ad l.length cap ∧ jactsAt w ad l ∧ l.length ≤ cap ∧ cap ≤ 9223372036854775807 ∧ ∀ a ∈ l, jactOk w a := by
  obtain ⟨a0, len0, cap0, rfl⟩ := okWide_slice Try.underlying48 hv
  obtain ⟨fuel, hf⟩ := h
  simp only [Value.cells] at hf
  rcases open_slice Try.underlying48 hf with ⟨e, _⟩ | ⟨a, len, cap, m, n, D, Pl, e, _, hl, hm, hmm, _, hx⟩
  · simp at e
    obtain ⟨rfl, rfl, rfl⟩ := e
    exact ⟨none, 0, [], rfl, .inl rfl, by simp, by simp, by simp⟩
  · simp at e
    obtain ⟨rfl, rfl, rfl⟩ := e
    have hlm : len0 ≤ m := by rw [hmm]; split <;> omega
    have each : ∀ i, i < m → ∃ f : JAct, (∀ (j : Nat) (u : Value), (jactv f)[j]? = some u → w.cell? (a.add (i * 5 + j)) = some u) ∧ jactOk w f := by
      intro i hi
      obtain ⟨cs', h1, h2⟩ := hx i hi
      rw [jo_cells_act] at h1
      obtain ⟨_, hlen, hcell⟩ := World.cells?_some h1
      obtain ⟨y0, y1, y2, y3, y4, n', _, g0, g1, g2, g3, g4⟩ := trod_struct5 Try.underlying51 h2
      match cs', hlen with
      | [v0, v1, v2, v3, v4], _ =>
        simp [do_cells_int, jo_cells_strs, do_cells_ints, jo_cells_bool] at g0 g1 g2 g3 g4
        obtain ⟨x0, e0, _⟩ := DataW.trod_bool Try.underlying4 g0
        obtain ⟨x1, e1, _⟩ := DataW.trod_bool Try.underlying4 g1
        obtain ⟨adl, capl, ll, e2, hl1, hl2, hl3⟩ := trod_texts g2
        obtain ⟨x3, e3, _, k3⟩ := DataW.trod_int Try.underlying3 g3
        obtain ⟨adk, capk, lk, e4, hk1, hk2, hk3, hk4⟩ := trod_ints g4
        simp only [List.cons.injEq, and_true] at e0 e1 e3
        have f3 := (Bool.and_eq_true _ _).mp k3
        refine ⟨⟨x0, x1, adl, capl, ll, x3, adk, capk, lk⟩, fun j u hu => ?_, hl1, Nat.le_trans hl2 hl3, ⟨of_decide_eq_true f3.1, of_decide_eq_true f3.2⟩, hk1, Nat.le_trans hk2 hk3, fun x hx => hk4 x hx⟩
        have hu' : [Value.bool x0, .bool x1, .slice adl ll.length capl, .int .i64 x3, .slice adk lk.length capk][j]? = some u := hu
        match j, hu' with
        | 0, hu =>
          have c := hcell 0 (by omega)
          rw [add_add] at c
          simp at c hu
          rw [← hu, ← e0]; exact c
        | 1, hu =>
          have c := hcell 1 (by omega)
          rw [add_add] at c
          simp at c hu
          rw [← hu, ← e1]; exact c
        | 2, hu =>
          have c := hcell 2 (by omega)
          rw [add_add] at c
          simp at c hu
          rw [← hu, ← e2]; exact c
        | 3, hu =>
          have c := hcell 3 (by omega)
          rw [add_add] at c
          simp at c hu
          rw [← hu, ← e3]; exact c
        | 4, hu =>
          have c := hcell 4 (by omega)
          rw [add_add] at c
          simp at c hu
          rw [← hu, ← e4]; exact c
        | j + 5, hu => simp at hu
    obtain ⟨F, hF⟩ := choose_lt each
    refine ⟨some a, cap0, (List.range len0).map F, by simp, ?_, by simpa using hl, by unfold maxLen at hm; omega, ?_⟩
    · rcases Nat.eq_zero_or_pos len0 with rfl | hp
      · exact .inl rfl
      obtain ⟨b, off, spot⟩ := a
      have c0 := (hF 0 (by omega)).1 0 _ rfl
      have hspot : spot = none := by simpa [Addr.add] using World.cell?_spot c0
      subst hspot
      simp only [do_add_spot] at hF c0
      refine .inr ⟨b, off, rfl, do_lt_of_cell c0, fun i hi j u hu => ?_⟩
      have hi' : i < len0 := by simpa using hi
      simp only [List.getElem_map, List.getElem_range] at hu
      rw [Nat.add_assoc]
      exact (hF i (by omega)).1 j u hu
    · intro f hf
      obtain ⟨i, hi, rfl⟩ := List.mem_map.1 hf
      exact (hF i (by have := List.mem_range.1 hi; omega)).2
end
end Go.Proofs.Ytagdaeapjofajaa
