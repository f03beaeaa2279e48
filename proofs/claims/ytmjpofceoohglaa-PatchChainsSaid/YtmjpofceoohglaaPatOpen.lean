/-
  A patch that came in, opened.
-/
import Derived.Test.YtmjpofceoohglaaPatA
import Derived.Test.YtmjpofceoohglaaLaw
import Derived.Lib.SmallJoins
namespace Go.Proofs.Ytmjpofceoohglaa
open Go.ChangeShapes Go.WideShapes Go.ChangeAt Go.RowKit
variable {H : Type} {enc : TypeId × Value → H} {w : World} {base : Nat} {spare : Nat → Bool} {held : Bool}
theorem cells_pat : Try.prog.cellsOf 23 = 3 := by kernel_rfl
theorem open_pat {r : Reach} {b0 : Nat} {v : Value} {d : DataW H} {ps : List MemPlace} (hv : Value.okWide Try.prog w r b0 23 v) (h : DataW.Trod enc Try.prog w base spare held 23 v d ps) :
    ∃ h t : Int, ∃ m : ByteArray, v = .agg (pat h t m) ∧ (-9223372036854775808 ≤ h ∧ h ≤ 9223372036854775807) ∧ (-9223372036854775808 ≤ t ∧ t ≤ 9223372036854775807) ∧ m.size ≤ 9223372036854775807 := by
  obtain ⟨v0, v1, v2, y0, y1, y2, n, rfl, _, _, h0, h1, h2⟩ := Go.Joins.open_agg3 Try.underlying23 (by kernel_rfl) cells_pat hv h
  obtain ⟨a, e0, _, k0⟩ := DataW.trod_int Try.underlying3 h0
  obtain ⟨b, e1, _, k1⟩ := DataW.trod_int Try.underlying3 h1
  obtain ⟨m, e2, _, k2⟩ := DataW.trod_string Try.underlying9 h2
  simp only [List.cons.injEq, and_true] at e0 e1 e2
  have f0 := (Bool.and_eq_true _ _).mp k0
  have f1 := (Bool.and_eq_true _ _).mp k1
  exact ⟨a, b, m, by rw [e0, e1, e2]; rfl, ⟨of_decide_eq_true f0.1, of_decide_eq_true f0.2⟩, ⟨of_decide_eq_true f1.1, of_decide_eq_true f1.2⟩, k2⟩
end Go.Proofs.Ytmjpofceoohglaa
