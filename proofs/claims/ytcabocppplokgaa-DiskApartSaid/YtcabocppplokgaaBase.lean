/-
  Small lemmas on worlds: a store into one block, blocks of one cell, the frame of a call that makes memory of its own.
-/
import Derived.Test.YtcabocppplokgaaRows
import Derived.WalkKit
import Derived.WalkSpells
import Derived.WalkLawsBesides
import Derived.OneCell
import Derived.Lib.Hide
namespace Go.Proofs.Ytcabocppplokgaa
open Go.RowKit

theorem grownBy_refl (w : World) (row : Option Nat) : w.grownBy w row := ⟨rfl, rfl, rfl, Nat.le_refl _, fun _ _ _ => rfl⟩

theorem grownBy_setCell (w : World) (b off : Nat) (u : Value) : w.grownBy (w.setCell ⟨b, off, none⟩ u) (some b) :=
  ⟨rfl, rfl, rfl, by simp [World.setCell], fun _ _ hn => Below.heap_setCell _ _ _ _ (fun e => hn (by rw [e]))⟩

theorem grownBy_trans {a b c : World} {row : Option Nat} (h : a.grownBy b row) (k : b.grownBy c row) : a.grownBy c row :=
  ⟨k.os.trans h.os, k.tape.trans h.tape, k.output.trans h.output, Nat.le_trans h.size k.size,
    fun i hi hn => (k.block i (Nat.lt_of_lt_of_le hi h.size) hn).trans (h.block i hi hn)⟩

theorem grownBy_drew {a b : World} {row : Option Nat} (h : a.grownBy b row) : a.grownBy b.drew row :=
  ⟨h.os, h.tape, h.output, h.size, h.block⟩

theorem grownBy_of_below {a b : World} (h : Below a.heap.size a b) (row : Option Nat) : a.grownBy b row :=
  ⟨h.os, h.tape, h.output, h.size, fun i hi _ => h.block i hi⟩

theorem below_of_grownBy_none {a b : World} (h : a.grownBy b none) : Below a.heap.size a b :=
  ⟨h.os, h.tape, h.output, h.size, fun i hi => h.block i hi (by simp)⟩

theorem cell_set_same {w : World} {b off : Nat} {u v : Value} (h : w.cell? ⟨b, off, none⟩ = some u) : (w.setCell ⟨b, off, none⟩ v).cell? ⟨b, off, none⟩ = some v :=
  World.cell?_setCell_same' w ⟨b, off, none⟩ v (by rw [h]; rfl)
theorem cell_set_off {w : World} {b off i : Nat} {v : Value} (h : off ≠ i) : (w.setCell ⟨b, off, none⟩ v).cell? ⟨b, i, none⟩ = w.cell? ⟨b, i, none⟩ :=
  World.cell?_setCell_other _ _ _ _ (fun e => h (by injection e))
theorem cell_set_far {w : World} {b c off i : Nat} {v : Value} (h : b ≠ c) : (w.setCell ⟨b, off, none⟩ v).cell? ⟨c, i, none⟩ = w.cell? ⟨c, i, none⟩ :=
  World.cell?_of_block (Below.heap_setCell _ _ _ _ (fun e => h e.symm))

theorem heap_setCell_ne (w : World) (b k off : Nat) (u : Value) (h : k ≠ b) : (w.setCell ⟨b, off, none⟩ u).heap[k]? = w.heap[k]? :=
  Below.heap_setCell _ _ _ _ h

/-- a new block, past the old ones -/
theorem heap_alloc_top (w : World) (o : Obj) : (w.alloc o).heap[w.heap.size]? = some o := heap_alloc_new w o
theorem heap_alloc_lt (w : World) (o : Obj) (k : Nat) (h : k < w.heap.size) : (w.alloc o).heap[k]? = w.heap[k]? := Below.heap_alloc w o k h
theorem heap_drew (w : World) : w.drew.heap = w.heap := rfl
theorem heap_keep {w w' : World} {B k : Nat} {o : Obj} (h : Below B w w') (hk : k < B) (ho : w.heap[k]? = some o) : w'.heap[k]? = some o :=
  (h.block k hk).trans ho

/-- a contract of a call that makes memory of its own, told of an earlier world -/
theorem calls_in {P : Program} {f : Nat} {args : Array Value} {w w0 : World} {B : Nat} {Q : Ending → Prop} (h : Calls P f args w fun e w' => Q e ∧ Below w.heap.size w w') (hb : Below B w0 w) (hB : B ≤ w0.heap.size) :
    Calls P f args w fun e w' => Q e ∧ Below B w0 w' :=
  h.mono fun _ _ ⟨h1, h2⟩ => ⟨h1, hb.trans (h2.mono (Nat.le_trans hB hb.size))⟩

theorem ret_int {k : IntKind} {a b : Int} (h : a = b) : Ending.returned (.int k a) = .returned (.int k b) := by rw [h]
theorem ret_bool {a b : Bool} (h : a = b) : Ending.returned (.bool a) = .returned (.bool b) := by rw [h]
theorem ret_string {a b : ByteArray} (h : a = b) : Ending.returned (.string a) = .returned (.string b) := by rw [h]
end Go.Proofs.Ytcabocppplokgaa
