/-
  What the laws of layer 13 are handed, opened: a vector, a version.
-/
import Derived.Test.YtjoacoiooijnlaaVecA
import Derived.Test.YtjoacoiooijnlaaLaw
import Derived.Lib.SmallJoins
namespace Go.Proofs.Ytjoacoiooijnlaa
open Go.RowKit

theorem cells_vec : Try.prog.cellsOf 23 = 65 := by kernel_rfl
theorem cells_int : Try.prog.cellsOf 3 = 1 := by kernel_rfl
theorem cells_ver : Try.prog.cellsOf 25 = 2 := by kernel_rfl

theorem drop_take_one {α : Type} {l : List α} {i : Nat} {x : α} (h : (l.drop i).take 1 = [x]) : l[i]? = some x := by
  have : ((l.drop i).take 1)[0]? = some x := by rw [h]; rfl
  rw [List.getElem?_take] at this
  simpa using this

variable {H : Type} {enc : TypeId × Value → H} {w : World} {base : Nat} {spare : Nat → Bool} {held : Bool}

/-- the numbers of an array -/
def numsOf (cs : Array Value) : Nat → Int := fun i => match cs[i]? with
  | some (.int _ n) => n
  | _ => 0

theorem vec_of_trod {fuel : Nat} {cs : Array Value} {x : DataW H × List MemPlace} (h : DataW.trod enc Try.prog w base spare held fuel 23 cs.toList = some x) : cs = vec (numsOf cs) := by
  obtain ⟨xs, m, _, _, hl, hxs, he⟩ := DataW.trod_array Try.underlying23 h
  rw [cells_vec] at hl
  rw [cells_int] at he
  apply Array.ext_getElem?
  intro i
  rcases Nat.lt_or_ge i 65 with hi | hi
  · have h1 := he i hi
    rw [List.getElem?_eq_getElem (by omega)] at h1
    obtain ⟨n, hn, _, _⟩ := DataW.trod_int Try.underlying3 h1
    rw [Nat.mul_one] at hn
    have h2 := drop_take_one hn
    have h3 : cs[i]? = some (.int .i64 n) := by simpa using h2
    rw [vec_get _ i hi, h3]
    simp [numsOf, h3]
  · rw [Array.getElem?_eq_none (show cs.size ≤ i by simp at hl; omega), Array.getElem?_eq_none (by rw [vec_size]; exact hi)]

theorem open_vec {r : Reach} {b0 : Nat} {v : Value} {d : DataW H} {ps : List MemPlace} (hv : Value.okWide Try.prog w r b0 23 v) (h : DataW.Trod enc Try.prog w base spare held 23 v d ps) : ∃ f, v = .agg (vec f) := by
  simp only [Value.okWide, Try.underlying23] at hv
  obtain ⟨cs, rfl, _, _⟩ := hv
  obtain ⟨fuel, hf⟩ := h
  exact ⟨_, congrArg Value.agg (vec_of_trod (fuel := fuel) (x := (d, ps)) (by simpa [Value.cells] using hf))⟩

theorem open_ver {r : Reach} {b0 : Nat} {v : Value} {d : DataW H} {ps : List MemPlace} (hv : Value.okWide Try.prog w r b0 25 v) (h : DataW.Trod enc Try.prog w base spare held 25 v d ps) : ∃ b n : Int, v = .agg #[.int .i64 b, .int .i64 n] := by
  obtain ⟨v0, v1, y0, y1, n, rfl, _, _, h0, h1⟩ := Go.Joins.open_agg2 Try.underlying25 (by kernel_rfl) cells_ver hv h
  obtain ⟨a, e0, _, _⟩ := DataW.trod_int Try.underlying3 h0
  obtain ⟨b, e1, _, _⟩ := DataW.trod_int Try.underlying3 h1
  simp only [List.cons.injEq, and_true] at e0 e1
  exact ⟨a, b, by rw [e0, e1]⟩
end Go.Proofs.Ytjoacoiooijnlaa
