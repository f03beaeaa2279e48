/-
  Slices of texts of our own.
-/
import Derived.Test.YtfiigmimhdnpnaaOwn
import Derived.Test.YtfiigmimhdnpnaaStrs
namespace Go.Proofs.Ytfiigmimhdnpnaa
open Go.RowKit

theorem info_string : (Try.prog.info? 9).map (fun i => (i.zero, i.size, i.bytes)) = some (some (.string ⟨#[]⟩), 1, 16) := by kernel_rfl
/-- a slice of texts of our own -/
def Row (w : World) (base : Nat) (v : Value) (l : List ByteArray) : Prop := w.ownsRow base 9 1 v l.length (l.map Value.string)
theorem Row.nil (w : World) (base : Nat) : Row w base (.slice none 0 0) [] := World.ownsRow_nil _ _ _ _
theorem Row.keep {w w' : World} {base B : Nat} {v : Value} {l : List ByteArray} (h : Row w base v l) (hb : Below B w w') (hB : w.heap.size ≤ B) : Row w' base v l :=
  World.ownsRow.kept h (row := none) ⟨hb.os, hb.tape, hb.output, hb.size, fun k hk _ => hb.block k (by omega)⟩ (by cases v.ownBlock <;> simp)
theorem Row.grown {w w' : World} {base : Nat} {v : Value} {l : List ByteArray} {row : Option Nat} (h : Row w base v l) (hg : w.grownBy w' row) (hne : v.ownBlock = none ∨ v.ownBlock ≠ row) : Row w' base v l := World.ownsRow.kept h hg hne
theorem Row.form {w : World} {base : Nat} {v : Value} {l : List ByteArray} (h : Row w base v l) : ∃ ad cap, v = .slice ad l.length cap ∧ strsAt w ad l := strsAt_own h
theorem Row.open {w : World} {base : Nat} {v : Value} {l : List ByteArray} (h : Row w base v l) : ∃ ad cap, v = .slice ad l.length cap ∧ strsAt w ad l ∧ l.length ≤ cap ∧ cap ≤ 9223372036854775807 := by
  obtain ⟨ad, cap, rfl, hs⟩ := strsAt_own h
  rcases h.2 with ⟨h1, h2⟩ | ⟨g, cap', cur, hv, _, _, h3, h4, _⟩
  · simp at h1
    exact ⟨ad, cap, rfl, hs, by omega, by omega⟩
  · simp at hv
    unfold maxLen at h4
    exact ⟨ad, cap, rfl, hs, by omega, by omega⟩
theorem strs_one (l : List ByteArray) : ∀ u ∈ l.map Value.string, u.oneCell' = true := by
  intro u hu
  obtain ⟨a, _, rfl⟩ := List.mem_map.1 hu
  rfl
theorem src_row {w : World} {base : Nat} {v : Value} {l : List ByteArray} (h : Row w base v l) : Src Try.prog 1 22 v l.length (l.map Value.string) w :=
  src_own _ Try.underlying22 h (strs_one l)
theorem src_new {w : World} (x : ByteArray) (t : TypeId) : Src Try.prog 1 22 (.slice (some ⟨w.heap.size, 0, none⟩) 1 1) [x].length ([x].map Value.string) (w.alloc (.cells #[.string x] t)) :=
  src_one _ Try.underlying22 _ _ rfl _
theorem wpList_append_row {ops : Array Oper} {rest : List Oper} {o : Oper} {a : Act} {w : World} {Q : Exit → Act → World → Prop} (hgd : o.guard = none) (s x : Operand)
    (ho : o.op = .call { callee := .builtin .append, args := #[s, x], argTypes := #[22, 22] })
    (base : Nat) (v : Value) (l : List ByteArray) (hs : a.eval s = v) (hrow : Row w base v l)
    (xv : Value) (m : List ByteArray) (hx : a.eval x = xv) (hsrc : Src Try.prog 1 22 xv m.length (m.map Value.string) w)
    (hlen : l.length + m.length ≤ 8000000000000) (hbase : base ≤ w.heap.size)
    (h : ∀ v' w', Row w' base v' (l ++ m) → w.grownBy w' v.ownBlock → (v'.ownBlock = v.ownBlock ∨ ∀ k, v'.ownBlock = some k → w.heap.size ≤ k) → wpList Try.prog ops Q rest (a.put o.dst v') w') : wpList Try.prog ops Q (o :: rest) a w := by
  obtain ⟨i0, hi, hz0, hz1, hz2⟩ := info_parts info_string
  refine wpList_append_at w hgd s x 22 22 ho base 9 i0 (.string ⟨#[]⟩) 1 16 Try.underlying22 hi hz0 hz1 hz2 rfl (by decide) v l.length _ hs hrow xv m.length _ hx hsrc (by unfold maxLen; omega) (by omega) hbase fun v' w' h1 h2 h3 => h v' w' ?_ h2 h3
  unfold Row
  rw [List.length_append, List.map_append]
  exact h1
end Go.Proofs.Ytfiigmimhdnpnaa
