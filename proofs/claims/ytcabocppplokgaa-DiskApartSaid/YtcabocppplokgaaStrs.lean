/-
  Texts in memory.
-/
import Derived.Test.YtcabocppplokgaaBase
namespace Go.Proofs.Ytcabocppplokgaa
open Go.RowKit

/-- these texts lie there -/
def strsAt (w : World) (ad : Option Addr) (l : List ByteArray) : Prop :=
  l = [] ∨ ∃ b off, ad = some ⟨b, off, none⟩ ∧ b < w.heap.size ∧ ∀ i (h : i < l.length), w.cell? ⟨b, off + i, none⟩ = some (.string l[i])
theorem strsAt_below {w w' : World} {B : Nat} {ad : Option Addr} {l : List ByteArray} (h : strsAt w ad l) (hB : w.heap.size ≤ B) (hb : Below B w w') : strsAt w' ad l := by
  rcases h with h | ⟨b, off, h1, h2, h3⟩
  · exact .inl h
  · refine .inr ⟨b, off, h1, by have := hb.size; omega, fun i hi => ?_⟩
    rw [hb.cell (p := ⟨b, off + i, none⟩) (by simp; omega)]
    exact h3 i hi
theorem strsAt_own {w : World} {base e : Nat} {v : Value} {l : List ByteArray} (h : w.ownsRow base e 1 v l.length (l.map Value.string)) : ∃ ad cap, v = .slice ad l.length cap ∧ strsAt w ad l := by
  rcases h.2 with ⟨h1, h2⟩ | ⟨g, cap, cur, hv, _, hg, _⟩
  · exact ⟨none, 0, by rw [h1, h2], .inl (List.eq_nil_of_length_eq_zero h2)⟩
  · refine ⟨some ⟨g, 0, none⟩, cap, hv, .inr ⟨g, 0, rfl, lt_of_block hg, fun i hi => ?_⟩⟩
    subst hv
    rw [Nat.zero_add, h.cellAt i (by omega)]
    simp [hi]

theorem strsAt_take {w : World} {ad : Option Addr} {l : List ByteArray} (h : strsAt w ad l) (k : Nat) : strsAt w ad (l.take k) := by
  rcases h with h | ⟨b, off, h1, h2, h3⟩
  · exact .inl (by rw [h, List.take_nil])
  · refine .inr ⟨b, off, h1, h2, fun i hi => ?_⟩
    have hi2 : i < l.length := by rw [List.length_take] at hi; omega
    rw [List.getElem_take]
    exact h3 i hi2
/-- a row of our own, newly laid -/
theorem row_new (w : World) (base size n : Nat) (e : TypeId) (cur : Array Value) (hb : base ≤ w.heap.size) (hn : cur.size = n * size) (hm : n ≤ maxLen) :
    (w.alloc (.cells cur e)).ownsRow base e size (.slice (some ⟨w.heap.size, 0, none⟩) n n) n cur.toList :=
  ⟨by simpa using hn, .inr ⟨w.heap.size, n, cur, rfl, hb, heap_alloc_top _ _, Nat.le_refl _, hm, hn, List.take_of_length_le (by simp [hn])⟩⟩
end Go.Proofs.Ytcabocppplokgaa
