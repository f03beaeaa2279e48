/-
  Footprints: nothing old is touched but some blocks; a step of an object whose blocks are known.
-/
import Derived.Test.YtcabocppplokgaaBase
import Derived.Deep.AppendSrc
import Derived.Laws.Rows
import Derived.Lib.SmallJoins
namespace Go.Proofs.Ytcabocppplokgaa
open Go.RowKit

/-- nothing old is touched but F -/
structure Touch (F : Nat → Prop) (w w' : World) : Prop where
  os : w'.os = w.os
  tape : w'.tape = w.tape
  output : w'.output = w.output
  size : w.heap.size ≤ w'.heap.size
  block : ∀ k, k < w.heap.size → ¬ F k → w'.heap[k]? = w.heap[k]?
theorem Touch.refl (F : Nat → Prop) (w : World) : Touch F w w := ⟨rfl, rfl, rfl, Nat.le_refl _, fun _ _ _ => rfl⟩
theorem Touch.mono {F G : Nat → Prop} {w w' : World} (h : Touch F w w') (hs : ∀ k, k < w.heap.size → F k → G k) : Touch G w w' := ⟨h.os, h.tape, h.output, h.size, fun k hk hn => h.block k hk (fun hf => hn (hs k hk hf))⟩
theorem Touch.trans {F : Nat → Prop} {a b c : World} (h : Touch F a b) (k : Touch F b c) : Touch F a c :=
  ⟨k.os.trans h.os, k.tape.trans h.tape, k.output.trans h.output, Nat.le_trans h.size k.size, fun i hi hn => (k.block i (Nat.lt_of_lt_of_le hi h.size) hn).trans (h.block i hi hn)⟩
theorem Touch.drew {F : Nat → Prop} {w w' : World} (h : Touch F w w') : Touch F w w'.drew := ⟨h.os, h.tape, h.output, h.size, h.block⟩
theorem Touch.ofBelow {w w' : World} (F : Nat → Prop) (h : Below w.heap.size w w') : Touch F w w' := ⟨h.os, h.tape, h.output, h.size, fun k hk _ => h.block k hk⟩
theorem Touch.ofGrown {F : Nat → Prop} {w w' : World} {row : Option Nat} (h : w.grownBy w' row) (hs : ∀ k, row = some k → F k) : Touch F w w' :=
  ⟨h.os, h.tape, h.output, h.size, fun k hk hn => h.block k hk (fun e => hn (hs k e.symm))⟩
theorem Touch.below {F : Nat → Prop} {B : Nat} {w0 w w' : World} (h : Touch F w w') (hb : Below B w0 w) (hB : B ≤ w.heap.size) (hF : ∀ k, F k → B ≤ k) : Below B w0 w' :=
  hb.trans ⟨h.os, h.tape, h.output, h.size, fun k hk => h.block k (by omega) (fun hf => by have := hF k hf; omega)⟩
theorem Touch.nil {w w' : World} (h : Touch (fun _ => False) w w') : Below w.heap.size w w' := ⟨h.os, h.tape, h.output, h.size, fun k hk => h.block k hk (fun hf => hf)⟩
theorem Touch.grown {F : Nat → Prop} {w w' : World} {g : Nat} (h : Touch F w w') (hF : ∀ k, F k → k = g) : w.grownBy w' (some g) :=
  ⟨h.os, h.tape, h.output, h.size, fun k hk hn => h.block k hk (fun hf => hn (by rw [hF k hf]))⟩
theorem Touch.setCell {F : Nat → Prop} {w w' : World} {b off : Nat} (h : Touch F w w') (hb : F b) (v : Value) : Touch F w (w'.setCell ⟨b, off, none⟩ v) :=
  h.trans (Touch.ofGrown (row := some b) (grownBy_setCell _ _ _ _) (fun k e => by cases e; exact hb))
theorem Touch.alloc {F : Nat → Prop} {w w' : World} (h : Touch F w w') (o : Obj) : Touch F w (w'.alloc o) :=
  h.trans (Touch.ofBelow _ ((Below.refl _ _).alloc (Nat.le_refl _) o))

/-- a step: F was the object's, F' is -/
structure Stp (F : Nat → Prop) (w : World) (F' : Nat → Prop) (w' : World) : Prop where
  touch : Touch F w w'
  new : ∀ k, F' k → F k ∨ w.heap.size ≤ k
theorem Stp.refl (F : Nat → Prop) (w : World) : Stp F w F w := ⟨Touch.refl _ _, fun _ h => .inl h⟩
theorem Stp.trans {F G H : Nat → Prop} {a b c : World} (h : Stp F a G b) (k : Stp G b H c) : Stp F a H c :=
  ⟨⟨k.touch.os.trans h.touch.os, k.touch.tape.trans h.touch.tape, k.touch.output.trans h.touch.output, Nat.le_trans h.touch.size k.touch.size,
    fun i hi hn => (k.touch.block i (Nat.lt_of_lt_of_le hi h.touch.size) (fun hg => (h.new i hg).elim hn (fun h' => by omega))).trans (h.touch.block i hi hn)⟩,
   fun i hi => (k.new i hi).elim (h.new i) (fun h' => .inr (Nat.le_trans h.touch.size h'))⟩
theorem Stp.ofBelow {w w' : World} (F : Nat → Prop) (h : Below w.heap.size w w') : Stp F w F w' := ⟨Touch.ofBelow F h, fun _ h => .inl h⟩
theorem Stp.below {F F' : Nat → Prop} {B : Nat} {w0 w w' : World} (h : Stp F w F' w') (hb : Below B w0 w) (hB : B ≤ w.heap.size) (hF : ∀ k, F k → B ≤ k) : Below B w0 w' ∧ ∀ k, F' k → B ≤ k :=
  ⟨h.touch.below hb hB hF, fun k hk => (h.new k hk).elim (hF k) (fun h' => by omega)⟩

/-- the cell of a block -/
theorem cell_at {w : World} {g j : Nat} {cs : Array Value} {t : TypeId} {fr : Nat × Nat} {v : Value} (hg : w.heap[g]? = some (.cells cs t fr)) (hv : cs[j]? = some v) : w.cell? ⟨g, j, none⟩ = some v := by
  rw [cell_of_row w g j _ _ _ hg]; exact hv
theorem free_at {w : World} {g : Nat} {cs : Array Value} {t : TypeId} (hg : w.heap[g]? = some (.cells cs t (0, 0))) (j : Nat) : w.frozen? ⟨g, j, none⟩ = false := by simp [World.frozen?, hg]
theorem set_at {w : World} {g i : Nat} {cs : Array Value} {t : TypeId} {fr : Nat × Nat} (h : w.heap[g]? = some (.cells cs t fr)) (v : Value) : (w.setCell ⟨g, i, none⟩ v).heap[g]? = some (.cells (cs.setIfInBounds i v) t fr) := Go.Joins.block_setCell h _
theorem touch_setRow {F : Nat → Prop} (w : World) (g : Nat) (cs : Array Value) (hF : F g) : Touch F w (w.setRow g cs) :=
  ⟨rfl, rfl, rfl, by simp, fun k _ hn => setRow_other w g k cs (fun e => hn (by rw [e]; exact hF))⟩

section
variable {P : Program}
/-- copy of all of a source -/
theorem run_copy_src (w : World) (dT sT ty elem : TypeId) (g o dLen dCap n : Nat) (x : Value) (cur : Array Value) (t : TypeId) (news : List Value)
    (hu : P.underlying dT = some (.slice elem)) (hs : (P.info? elem).map (·.size) = some 1) (hsrc : Src P 1 sT x n news w)
    (hg : w.heap[g]? = some (.cells cur t (0, 0))) (hn : n ≤ dLen) (hfit : o + n ≤ cur.size) :
    (Builtin.copy_ #[dT, sT] ty #[.slice (some ⟨g, o, none⟩) dLen dCap, x]).run P w = .ok (goInt n) (w.setRow g (cur.toList.take o ++ news ++ cur.toList.drop (o + n)).toArray) := by
  have hl := hsrc.newsLen
  rw [Nat.mul_one] at hl
  have hst := run_storeCells_at P g o t news 0 cur w hg (by omega) hsrc.one
  have hmin : Nat.min n dLen = n := Nat.min_eq_left hn
  cases hq : P.info? elem with
  | none => simp [hq] at hs
  | some i =>
    have hi : i.size = 1 := by simpa [hq] using hs
    simp [Builtin.copy_, run_underlying hu, hsrc.len, sizeOf, typeInfo, hq, hi, hmin, hsrc.cells, hst, hl]

theorem wpList_copy_src {w : World} {ops : Array Oper} {rest : List Oper} {o : Oper} {a : Act} {Q : Exit → Act → World → Prop} (hgd : o.guard = none) (d s : Operand) (dT sT : TypeId)
    (ho : o.op = .call { callee := .builtin .copy, args := #[d, s], argTypes := #[dT, sT] }) (elem : TypeId) (hu : P.underlying dT = some (.slice elem)) (hsz : (P.info? elem).map (·.size) = some 1)
    (g off dLen dCap n : Nat) (x : Value) (hd : a.eval d = .slice (some ⟨g, off, none⟩) dLen dCap) (hs : a.eval s = x) (news : List Value) (hsrc : Src P 1 sT x n news w)
    (cur : Array Value) (t : TypeId) (hg : w.heap[g]? = some (.cells cur t (0, 0))) (hn : n ≤ dLen) (hfit : off + n ≤ cur.size)
    (h : wpList P ops Q rest (a.put o.dst (goInt n)) (w.setRow g (cur.toList.take off ++ news ++ cur.toList.drop (off + n)).toArray)) : wpList P ops Q (o :: rest) a w := by
  refine wpList_plain hgd fun K hK => ?_
  have hrun := run_copy_src (P := P) w dT sT o.type elem g off dLen dCap n x cur t news hu hsz hsrc hg hn hfit
  unfold Oper.wp
  simp [execOp, ho, resolve, invoke, builtin, hd, hs, hrun, Result.andThen, -List.append_assoc]
  exact hK _ _ h

/-- an aggregate is stored into the midst of a block -/
theorem run_store_cells (w : World) (g off : Nat) (t ty : TypeId) (cur : Array Value) (cs : List Value) (hg : w.heap[g]? = some (.cells cur t (0, 0))) (hi : (P.info? ty).map (·.size) = some cs.length)
    (hfit : off + cs.length ≤ cur.size) (h1 : ∀ u ∈ cs, u.oneCell' = true) :
    (storeVar ty ⟨g, off, none⟩ (.agg cs.toArray)).run P w = .ok () (w.setRow g (cur.toList.take off ++ cs ++ cur.toList.drop (off + cs.length)).toArray) := by
  have hst := run_storeCells_at P g off t cs 0 cur w hg (by omega) h1
  cases hq : P.info? ty with
  | none => simp [hq] at hi
  | some i =>
    have hs : cs.length = i.size := by simp [hq] at hi; omega
    simp [storeVar, sizeOf, typeInfo, hq, Value.cells, hs.symm, hst]
theorem wp_store_cells {o : Oper} {a : Act} {w : World} {K : Act → World → Prop} {Q : Exit → Act → World → Prop} (ty : TypeId) (x y : Operand) (ho : o.op = .store ty x y)
    (g off : Nat) (cs : List Value) (hx : a.eval x = .pointer (some ⟨g, off, none⟩)) (hy : a.eval y = .agg cs.toArray)
    (t : TypeId) (cur : Array Value) (hg : w.heap[g]? = some (.cells cur t (0, 0))) (hi : (P.info? ty).map (·.size) = some cs.length)
    (hfit : off + cs.length ≤ cur.size) (h1 : ∀ u ∈ cs, u.oneCell' = true)
    (h : K (a.put o.dst undef) (w.setRow g (cur.toList.take off ++ cs ++ cur.toList.drop (off + cs.length)).toArray)) : o.wp P a w K Q := by
  unfold Oper.wp execOp
  simp only [ho, hx, hy, Instr.storeAt, Instr.sureAddr, Sem.run_bind, Sem.run_pure, Result.andThen_ok, run_store_cells w g off t ty cur cs hg hi hfit h1]
  exact h
theorem wpList_store_cells {ops : Array Oper} {rest : List Oper} {o : Oper} {a : Act} {w : World} {Q : Exit → Act → World → Prop} (hgd : o.guard = none) (ty : TypeId) (x y : Operand) (ho : o.op = .store ty x y)
    (g off : Nat) (cs : List Value) (hx : a.eval x = .pointer (some ⟨g, off, none⟩)) (hy : a.eval y = .agg cs.toArray)
    (t : TypeId) (cur : Array Value) (hg : w.heap[g]? = some (.cells cur t (0, 0))) (hi : (P.info? ty).map (·.size) = some cs.length)
    (hfit : off + cs.length ≤ cur.size) (h1 : ∀ u ∈ cs, u.oneCell' = true)
    (h : wpList P ops Q rest (a.put o.dst undef) (w.setRow g (cur.toList.take off ++ cs ++ cur.toList.drop (off + cs.length)).toArray)) : wpList P ops Q (o :: rest) a w :=
  wpList_plain hgd fun _ hK => wp_store_cells ty x y ho g off cs hx hy t cur hg hi hfit h1 (hK _ _ h)
end
end Go.Proofs.Ytcabocppplokgaa
