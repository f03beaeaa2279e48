/-
  Footprints: nothing old is touched but some blocks; a step of an object whose blocks are known.
  Maps, told as functions from what a key reads as to the value that is held.
  Layer 3: a disk in memory.
  Layer 3: New, ready, call; what is told of a disk.
  Layer 3: ready, call; what is told of a disk; Arm.
  Layer 3: last, Read.
-/
import Derived.Test.YtjjejkhekmpgcaaGreatMgA
import Derived.Deep.AppendSrc
import Derived.Laws.Rows
import Derived.Lib.SmallJoins
import Derived.Maps.OwnSet
import Derived.Maps.Views
import Derived.Lib.OwnKind
import Derived.OwnWalk
import Derived.IntWalk
import Derived.Deep.CutRange
namespace Go.Proofs.YtjjejkhekmpgcaaGreat
set_option maxRecDepth 4000
open Go.RowKit

/-- nothing old is touched but F -/
structure Touch (F : Nat → Prop) (w w' : World) : Prop where
  os : w'.os = w.os
  tape : w'.tape = w.tape
  output : w'.output = w.output
  size : w.heap.size ≤ w'.heap.size
  block : ∀ k, k < w.heap.size → ¬ F k → w'.heap[k]? = w.heap[k]?
theorem Touch.refl (F : Nat → Prop) (w : World) : Touch F w w := ⟨rfl, rfl, rfl, Nat.le_refl _, fun _ _ _ => rfl⟩
theorem Touch.mono {F G : Nat → Prop} {w w' : World} (h : Touch F w w') (hs : ∀ k, k < w.heap.size → F k → G k) : Touch G w w' := ⟨h.os, h.tape, h.output, h.size, fun k hk hn => h.block k hk (fun hf => hn (hs k hk hf))⟩
theorem Touch.trans {F : Nat → Prop} {a b c : World} (h : Touch F a b) (k : Touch F b c) : Touch F a c :=
  ⟨k.os.trans h.os, k.tape.trans h.tape, k.output.trans h.output, Nat.le_trans h.size k.size, fun i hi hn => (k.block i (Nat.lt_of_lt_of_le hi h.size) hn).trans (h.block i hi hn)⟩
theorem Touch.drew {F : Nat → Prop} {w w' : World} (h : Touch F w w') : Touch F w w'.drew := ⟨h.os, h.tape, h.output, h.size, h.block⟩
theorem Touch.ofBelow {w w' : World} (F : Nat → Prop) (h : Below w.heap.size w w') : Touch F w w' := ⟨h.os, h.tape, h.output, h.size, fun k hk _ => h.block k hk⟩
theorem Touch.ofGrown {F : Nat → Prop} {w w' : World} {row : Option Nat} (h : w.grownBy w' row) (hs : ∀ k, row = some k → F k) : Touch F w w' :=
  ⟨h.os, h.tape, h.output, h.size, fun k hk hn => h.block k hk (fun e => hn (hs k e.symm))⟩
theorem Touch.below {F : Nat → Prop} {B : Nat} {w0 w w' : World} (h : Touch F w w') (hb : Below B w0 w) (hB : B ≤ w.heap.size) (hF : ∀ k, F k → B ≤ k) : Below B w0 w' :=
  hb.trans ⟨h.os, h.tape, h.output, h.size, fun k hk => h.block k (by omega) (fun hf => by have := hF k hf; omega)⟩
theorem Touch.nil {w w' : World} (h : Touch (fun _ => False) w w') : Below w.heap.size w w' := ⟨h.os, h.tape, h.output, h.size, fun k hk => h.block k hk (fun hf => hf)⟩
theorem Touch.grown {F : Nat → Prop} {w w' : World} {g : Nat} (h : Touch F w w') (hF : ∀ k, F k → k = g) : w.grownBy w' (some g) :=
  ⟨h.os, h.tape, h.output, h.size, fun k hk hn => h.block k hk (fun hf => hn (by rw [hF k hf]))⟩
theorem Touch.setCell {F : Nat → Prop} {w w' : World} {b off : Nat} (h : Touch F w w') (hb : F b) (v : Value) : Touch F w (w'.setCell ⟨b, off, none⟩ v) :=
  h.trans (Touch.ofGrown (row := some b) (grownBy_setCell _ _ _ _) (fun k e => by cases e; exact hb))
theorem Touch.alloc {F : Nat → Prop} {w w' : World} (h : Touch F w w') (o : Obj) : Touch F w (w'.alloc o) :=
  h.trans (Touch.ofBelow _ ((Below.refl _ _).alloc (Nat.le_refl _) o))

/-- a step: F was the object's, F' is -/
structure Stp (F : Nat → Prop) (w : World) (F' : Nat → Prop) (w' : World) : Prop where
  touch : Touch F w w'
  new : ∀ k, F' k → F k ∨ w.heap.size ≤ k
theorem Stp.refl (F : Nat → Prop) (w : World) : Stp F w F w := ⟨Touch.refl _ _, fun _ h => .inl h⟩
theorem Stp.trans {F G H : Nat → Prop} {a b c : World} (h : Stp F a G b) (k : Stp G b H c) : Stp F a H c :=
  ⟨⟨k.touch.os.trans h.touch.os, k.touch.tape.trans h.touch.tape, k.touch.output.trans h.touch.output, Nat.le_trans h.touch.size k.touch.size,
    fun i hi hn => (k.touch.block i (Nat.lt_of_lt_of_le hi h.touch.size) (fun hg => (h.new i hg).elim hn (fun h' => by omega))).trans (h.touch.block i hi hn)⟩,
   fun i hi => (k.new i hi).elim (h.new i) (fun h' => .inr (Nat.le_trans h.touch.size h'))⟩
theorem Stp.ofBelow {w w' : World} (F : Nat → Prop) (h : Below w.heap.size w w') : Stp F w F w' := ⟨Touch.ofBelow F h, fun _ h => .inl h⟩
theorem Stp.below {F F' : Nat → Prop} {B : Nat} {w0 w w' : World} (h : Stp F w F' w') (hb : Below B w0 w) (hB : B ≤ w.heap.size) (hF : ∀ k, F k → B ≤ k) : Below B w0 w' ∧ ∀ k, F' k → B ≤ k :=
  ⟨h.touch.below hb hB hF, fun k hk => (h.new k hk).elim (hF k) (fun h' => by omega)⟩

/-- the cell of a block -/
theorem cell_at {w : World} {g j : Nat} {cs : Array Value} {t : TypeId} {fr : Nat × Nat} {v : Value} (hg : w.heap[g]? = some (.cells cs t fr)) (hv : cs[j]? = some v) : w.cell? ⟨g, j, none⟩ = some v := by
  rw [cell_of_row w g j _ _ _ hg]; exact hv
theorem free_at {w : World} {g : Nat} {cs : Array Value} {t : TypeId} (hg : w.heap[g]? = some (.cells cs t (0, 0))) (j : Nat) : w.frozen? ⟨g, j, none⟩ = false := by simp [World.frozen?, hg]
theorem set_at {w : World} {g i : Nat} {cs : Array Value} {t : TypeId} {fr : Nat × Nat} (h : w.heap[g]? = some (.cells cs t fr)) (v : Value) : (w.setCell ⟨g, i, none⟩ v).heap[g]? = some (.cells (cs.setIfInBounds i v) t fr) := Go.Joins.block_setCell h _
theorem touch_setRow {F : Nat → Prop} (w : World) (g : Nat) (cs : Array Value) (hF : F g) : Touch F w (w.setRow g cs) :=
  ⟨rfl, rfl, rfl, by simp, fun k _ hn => setRow_other w g k cs (fun e => hn (by rw [e]; exact hF))⟩

section
variable {P : Program}
/-- copy of all of a source -/
theorem run_copy_src (w : World) (dT sT ty elem : TypeId) (g o dLen dCap n : Nat) (x : Value) (cur : Array Value) (t : TypeId) (news : List Value)
    (hu : P.underlying dT = some (.slice elem)) (hs : (P.info? elem).map (·.size) = some 1) (hsrc : Src P 1 sT x n news w)
    (hg : w.heap[g]? = some (.cells cur t (0, 0))) (hn : n ≤ dLen) (hfit : o + n ≤ cur.size) :
    (Builtin.copy_ #[dT, sT] ty #[.slice (some ⟨g, o, none⟩) dLen dCap, x]).run P w = .ok (goInt n) (w.setRow g (cur.toList.take o ++ news ++ cur.toList.drop (o + n)).toArray) := by
  have hl := hsrc.newsLen
  rw [Nat.mul_one] at hl
  have hst := run_storeCells_at P g o t news 0 cur w hg (by omega) hsrc.one
  have hmin : Nat.min n dLen = n := Nat.min_eq_left hn
  cases hq : P.info? elem with
  | none => simp [hq] at hs
  | some i =>
    have hi : i.size = 1 := by simpa [hq] using hs
    simp [Builtin.copy_, run_underlying hu, hsrc.len, sizeOf, typeInfo, hq, hi, hmin, hsrc.cells, hst, hl]

theorem wpList_copy_src {w : World} {ops : Array Oper} {rest : List Oper} {o : Oper} {a : Act} {Q : Exit → Act → World → Prop} (hgd : o.guard = none) (d s : Operand) (dT sT : TypeId)
    (ho : o.op = .call { callee := .builtin .copy, args := #[d, s], argTypes := #[dT, sT] }) (elem : TypeId) (hu : P.underlying dT = some (.slice elem)) (hsz : (P.info? elem).map (·.size) = some 1)
    (g off dLen dCap n : Nat) (x : Value) (hd : a.eval d = .slice (some ⟨g, off, none⟩) dLen dCap) (hs : a.eval s = x) (news : List Value) (hsrc : Src P 1 sT x n news w)
    (cur : Array Value) (t : TypeId) (hg : w.heap[g]? = some (.cells cur t (0, 0))) (hn : n ≤ dLen) (hfit : off + n ≤ cur.size)
    (h : wpList P ops Q rest (a.put o.dst (goInt n)) (w.setRow g (cur.toList.take off ++ news ++ cur.toList.drop (off + n)).toArray)) : wpList P ops Q (o :: rest) a w := by
  refine wpList_plain hgd fun K hK => ?_
  have hrun := run_copy_src (P := P) w dT sT o.type elem g off dLen dCap n x cur t news hu hsz hsrc hg hn hfit
  unfold Oper.wp
  simp [execOp, ho, resolve, invoke, builtin, hd, hs, hrun, Result.andThen, -List.append_assoc]
  exact hK _ _ h

/-- an aggregate is stored into the midst of a block -/
theorem run_store_cells (w : World) (g off : Nat) (t ty : TypeId) (cur : Array Value) (cs : List Value) (hg : w.heap[g]? = some (.cells cur t (0, 0))) (hi : (P.info? ty).map (·.size) = some cs.length)
    (hfit : off + cs.length ≤ cur.size) (h1 : ∀ u ∈ cs, u.oneCell' = true) :
    (storeVar ty ⟨g, off, none⟩ (.agg cs.toArray)).run P w = .ok () (w.setRow g (cur.toList.take off ++ cs ++ cur.toList.drop (off + cs.length)).toArray) := by
  have hst := run_storeCells_at P g off t cs 0 cur w hg (by omega) h1
  cases hq : P.info? ty with
  | none => simp [hq] at hi
  | some i =>
    have hs : cs.length = i.size := by simp [hq] at hi; omega
    simp [storeVar, sizeOf, typeInfo, hq, Value.cells, hs.symm, hst]
theorem wp_store_cells {o : Oper} {a : Act} {w : World} {K : Act → World → Prop} {Q : Exit → Act → World → Prop} (ty : TypeId) (x y : Operand) (ho : o.op = .store ty x y)
    (g off : Nat) (cs : List Value) (hx : a.eval x = .pointer (some ⟨g, off, none⟩)) (hy : a.eval y = .agg cs.toArray)
    (t : TypeId) (cur : Array Value) (hg : w.heap[g]? = some (.cells cur t (0, 0))) (hi : (P.info? ty).map (·.size) = some cs.length)
    (hfit : off + cs.length ≤ cur.size) (h1 : ∀ u ∈ cs, u.oneCell' = true)
    (h : K (a.put o.dst undef) (w.setRow g (cur.toList.take off ++ cs ++ cur.toList.drop (off + cs.length)).toArray)) : o.wp P a w K Q := by
  unfold Oper.wp execOp
  simp only [ho, hx, hy, Instr.storeAt, Instr.sureAddr, Sem.run_bind, Sem.run_pure, Result.andThen_ok, run_store_cells w g off t ty cur cs hg hi hfit h1]
  exact h
theorem wpList_store_cells {ops : Array Oper} {rest : List Oper} {o : Oper} {a : Act} {w : World} {Q : Exit → Act → World → Prop} (hgd : o.guard = none) (ty : TypeId) (x y : Operand) (ho : o.op = .store ty x y)
    (g off : Nat) (cs : List Value) (hx : a.eval x = .pointer (some ⟨g, off, none⟩)) (hy : a.eval y = .agg cs.toArray)
    (t : TypeId) (cur : Array Value) (hg : w.heap[g]? = some (.cells cur t (0, 0))) (hi : (P.info? ty).map (·.size) = some cs.length)
    (hfit : off + cs.length ≤ cur.size) (h1 : ∀ u ∈ cs, u.oneCell' = true)
    (h : wpList P ops Q rest (a.put o.dst undef) (w.setRow g (cur.toList.take off ++ cs ++ cur.toList.drop (off + cs.length)).toArray)) : wpList P ops Q (o :: rest) a w :=
  wpList_plain hgd fun _ hK => wp_store_cells ty x y ho g off cs hx hy t cur hg hi hfit h1 (hK _ _ h)
end
end Go.Proofs.YtjjejkhekmpgcaaGreat

namespace Go.Proofs.YtjjejkhekmpgcaaGreat
set_option maxRecDepth 4000
open Go.RowKit
open Go.Maps (Keyed IsMap Tidy)

/-- an element reads as itself -/
def heldR (v : Value) : Option (DataW Value × List MemPlace) := some (.held v, [])
/-- block b is a map of n entries: from keys' readings to values -/
def MapL (P : Program) (k : TypeId) (w : World) (b : Nat) (f : Lit → Option Value) (n : Nat) : Prop :=
  ∃ D : DataW Value, w.ownsMap P k heldR b n D ∧ Maps.size D = n ∧ ∀ l : Lit, WideAt.IsKeyLit l → Maps.has D l = (f l).isSome ∧ ∀ z, D.atKey l z = match f l with | some v => .held v | none => z

section
variable {P : Program} {k e t : TypeId} {w : World} {b n : Nat} {f : Lit → Option Value}

theorem MapL.made (w : World) (P : Program) (k : TypeId) : MapL P k (w.alloc (.map #[] 0)) w.heap.size (fun _ => none) 0 :=
  ⟨.map [], World.ownsMap_made w P k heldR, rfl, fun _ _ => ⟨rfl, fun _ => rfl⟩⟩
theorem MapL.obj (h : MapL P k w b f n) : ∃ es clock, w.heap[b]? = some (.map es clock) := by
  obtain ⟨D, ⟨es, clock, hb, _⟩, _⟩ := h
  exact ⟨es, clock, hb⟩
theorem MapL.lt (h : MapL P k w b f n) : b < w.heap.size := by
  obtain ⟨D, ho, _⟩ := h
  exact ho.lt
theorem MapL.same {w' : World} (h : MapL P k w b f n) (hb : w'.heap[b]? = w.heap[b]?) : MapL P k w' b f n := by
  obtain ⟨D, ⟨es, clock, h1, h2, h3, h4⟩, h5⟩ := h
  exact ⟨D, ⟨es, clock, hb.trans h1, h2, h3, h4⟩, h5⟩
theorem MapL.congr {g : Lit → Option Value} {m : Nat} (h : MapL P k w b f n) (hg : ∀ l, WideAt.IsKeyLit l → g l = f l) (hm : m = n) : MapL P k w b g m := by
  subst hm
  obtain ⟨D, h1, h2, h3⟩ := h
  exact ⟨D, h1, h2, fun l hl => by rw [hg l hl]; exact h3 l hl⟩

theorem MapL.look (h : MapL P k w b f n) (K : Keyed P k) (ht : P.underlying t = some (.map k e)) {z : Value} (hz : (zeroValue e).run P w = .ok z w) {key : Value} {kl : Lit} (hkey : keyOf P k key = some kl) :
    (Instr.lookup t (.map (some b)) key false).run P w = .ok ((f kl).getD z) w := by
  obtain ⟨D, ho, _, hf⟩ := h
  obtain ⟨v, ps, hrun, hv⟩ := ho.lookup K ht hz (zd := .held z) (zp := []) rfl hkey
  have h2 := (hf kl (K.key hkey)).2 (.held z)
  rw [hrun]
  congr 1
  simp only [heldR, Option.some.injEq, Prod.mk.injEq] at hv
  rw [h2] at hv
  cases hfk : f kl with
  | none => rw [hfk] at hv; simpa using hv.1
  | some u => rw [hfk] at hv; simpa using hv.1
theorem MapL.look_ok (h : MapL P k w b f n) (K : Keyed P k) (ht : P.underlying t = some (.map k e)) {z : Value} (hz : (zeroValue e).run P w = .ok z w) {key : Value} {kl : Lit} (hkey : keyOf P k key = some kl) :
    (Instr.lookup t (.map (some b)) key true).run P w = .ok (.tuple #[(f kl).getD z, .bool (f kl).isSome]) w := by
  obtain ⟨D, ho, _, hf⟩ := h
  obtain ⟨v, ps, hrun, hv⟩ := ho.look_ok K ht hz (zd := .held z) (zp := []) rfl hkey
  obtain ⟨h1, h2⟩ := hf kl (K.key hkey)
  have h2 := h2 (.held z)
  rw [hrun, h1]
  simp only [heldR, Option.some.injEq, Prod.mk.injEq] at hv
  rw [h2] at hv
  cases hfk : f kl with
  | none => rw [hfk] at hv; simp at hv; simp [hv]
  | some u => rw [hfk] at hv; simp at hv; simp [hv]
theorem MapL.len (h : MapL P k w b f n) (ht : P.underlying t = some (.map k e)) (ty : TypeId) : (Builtin.len_ #[t] ty #[.map (some b)]).run P w = .ok (.int .i64 n) w := by
  obtain ⟨D, ho, hn, _⟩ := h
  have := ho.len ht ty
  rw [hn] at this
  exact this

/-- the map with one entry more, or another -/
def setF (f : Lit → Option Value) (kl : Lit) (v : Value) : Lit → Option Value := fun l => if l.sameKey kl = true then some v else f l
/-- the map with one entry less -/
def delF (f : Lit → Option Value) (kl : Lit) : Lit → Option Value := fun l => if l.sameKey kl = true then none else f l

theorem MapL.tight (h : MapL P k w b f n) (m : Nat) (hm : n ≤ m) : ∃ D, w.ownsMap P k heldR b m D ∧ Maps.size D = n ∧ ∀ l : Lit, WideAt.IsKeyLit l → Maps.has D l = (f l).isSome ∧ ∀ z, D.atKey l z = match f l with | some v => .held v | none => z := by
  obtain ⟨D, h1, h2, h3⟩ := h
  exact ⟨D, h1.mono hm, h2, h3⟩
theorem own_tight {D : DataW Value} {m : Nat} (h : w.ownsMap P k heldR b m D) : w.ownsMap P k heldR b (Maps.size D) D := by
  obtain ⟨es, clock, h1, h2, h3, rfl⟩ := h
  exact ⟨es, clock, h1, h2, by simp [Maps.size, length_sorted], rfl⟩

theorem MapL.store (h : MapL P k w b f n) (K : Keyed P k) (ht : P.underlying t = some (.map k e)) (hn : n < maxLen) {key val : Value} {kl : Lit} (hkey : keyOf P k key = some kl) :
    ∃ w', (Instr.mapUpdate t (.map (some b)) key val).run P w = .ok () w' ∧ MapL P k w' b (setF f kl val) (if (f kl).isSome then n else n + 1) ∧ w.grownBy w' (some b) := by
  obtain ⟨D, ho, hs, hf⟩ := h
  obtain ⟨w', hrun, ho', hg⟩ := ho.update K ht hn (val := val) (d := .held val) (ps := []) hkey rfl
  have hK := K.key hkey
  have htd := ho.tidy K
  have hsz : Maps.size (D.put kl (.held val)) = if (f kl).isSome then n else n + 1 := by
    rw [Maps.size_put htd, (hf kl hK).1, hs]
  refine ⟨w', hrun, ⟨D.put kl (.held val), ?_, hsz, fun l hl => ?_⟩, hg⟩
  · rw [← hsz]; exact own_tight ho'
  · unfold setF
    by_cases e : l = kl
    · subst e
      rw [if_pos (WideAt.sameKey_self hl)]
      exact ⟨by rw [Maps.has_put_same htd.isMap hl]; rfl, fun z => Maps.atKey_put_same htd.isMap hl _ z⟩
    · rw [if_neg (by rw [Maps.sameKey_ne e]; simp)]
      exact ⟨by rw [Maps.has_put_other e]; exact (hf l hl).1, fun z => by rw [Maps.atKey_put_other e]; exact (hf l hl).2 z⟩
theorem MapL.drop (h : MapL P k w b f n) (K : Keyed P k) (ht : P.underlying t = some (.map k e)) {key : Value} {kl : Lit} (hkey : keyOf P k key = some kl) (ty : TypeId) :
    ∃ w', (Builtin.delete_ #[t, k] ty #[.map (some b), key]).run P w = .ok (.tuple #[]) w' ∧ MapL P k w' b (delF f kl) (if (f kl).isSome then n - 1 else n) ∧ w.grownBy w' (some b) := by
  obtain ⟨D, ho, hs, hf⟩ := h
  obtain ⟨w', hrun, ho', hg⟩ := ho.drop K ht hkey ty
  have hK := K.key hkey
  have htd := ho.tidy K
  have hsz : Maps.size (D.del kl) = if (f kl).isSome then n - 1 else n := by
    have := Maps.size_del (k := kl) htd
    rw [(hf kl hK).1, hs] at this
    split at this <;> rename_i h1
    · rw [if_pos h1]; omega
    · rw [if_neg h1]; omega
  refine ⟨w', hrun, ⟨D.del kl, ?_, hsz, fun l hl => ?_⟩, hg.grown⟩
  · rw [← hsz]; exact own_tight ho'
  · unfold delF
    by_cases e : l = kl
    · subst e
      rw [if_pos (WideAt.sameKey_self hl)]
      exact ⟨by rw [Maps.has_del_same]; rfl, fun z => Maps.atKey_del_same z⟩
    · rw [if_neg (by rw [Maps.sameKey_ne e]; simp)]
      exact ⟨by rw [Maps.has_del_other e]; exact (hf l hl).1, fun z => by rw [Maps.atKey_del_other e]; exact (hf l hl).2 z⟩
end
end Go.Proofs.YtjjejkhekmpgcaaGreat

namespace Go.Proofs.YtjjejkhekmpgcaaGreat
set_option maxRecDepth 4000
open Go.RowKit

/-- a sector's bytes -/
abbrev Sec := List UInt8
/-- sectors as cells -/
def secv (l : List Sec) : List Value := l.flatMap bv
theorem secv_append (a b : List Sec) : secv (a ++ b) = secv a ++ secv b := by simp [secv]
theorem secv_cons (s : Sec) (l : List Sec) : secv (s :: l) = bv s ++ secv l := by simp [secv]
theorem secv_length : ∀ (l : List Sec), (∀ s ∈ l, s.length = 64) → (secv l).length = l.length * 64
  | [], _ => rfl
  | s :: l, h => by
    rw [secv_cons, List.length_append, bv_length, h s (by simp), secv_length l (fun t ht => h t (by simp [ht])), List.length_cons]
    omega
theorem secv_take : ∀ (l : List Sec) (i : Nat), (∀ s ∈ l, s.length = 64) → (secv l).take (i * 64) = secv (l.take i)
  | [], i, _ => by simp [secv]
  | s :: l, 0, _ => by simp [secv]
  | s :: l, i + 1, h => by
    have hs : (bv s).length = 64 := by rw [bv_length]; exact h s (by simp)
    rw [secv_cons, List.take_succ_cons, secv_cons, show (i + 1) * 64 = (bv s).length + i * 64 by omega, List.take_length_add_append, secv_take l i (fun t ht => h t (by simp [ht]))]
theorem secv_drop : ∀ (l : List Sec) (i : Nat), (∀ s ∈ l, s.length = 64) → (secv l).drop (i * 64) = secv (l.drop i)
  | [], i, _ => by simp [secv]
  | s :: l, 0, _ => by simp [secv]
  | s :: l, i + 1, h => by
    have hs : (bv s).length = 64 := by rw [bv_length]; exact h s (by simp)
    rw [secv_cons, List.drop_succ_cons, show (i + 1) * 64 = (bv s).length + i * 64 by omega, List.drop_length_add_append, secv_drop l i (fun t ht => h t (by simp [ht]))]
theorem secv_at (l : List Sec) (h : ∀ s ∈ l, s.length = 64) (i : Nat) (hi : i < l.length) (j : Nat) (u : Value) (hu : (bv l[i])[j]? = some u) : (secv l)[i * 64 + j]? = some u := by
  have : (secv l)[i * 64 + j]? = ((secv l).drop (i * 64))[j]? := by rw [List.getElem?_drop]
  rw [this, secv_drop l i h, List.drop_eq_getElem_cons hi, secv_cons]
  have hj : j < (bv l[i]).length := by
    rcases Nat.lt_or_ge j (bv l[i]).length with h' | h'
    · exact h'
    · rw [List.getElem?_eq_none h'] at hu; cases hu
  rw [List.getElem?_append_left hj]
  exact hu
theorem secv_one (l : List Sec) : ∀ u ∈ secv l, u.oneCell' = true := by
  intro u hu
  obtain ⟨s, _, hs⟩ := List.mem_flatMap.1 hu
  exact bv_one s u hs
theorem secv_set (l : List Sec) (h : ∀ s ∈ l, s.length = 64) (i : Nat) (hi : i < l.length) (s : Sec) : (secv l).take (i * 64) ++ bv s ++ (secv l).drop (i * 64 + 64) = secv (l.set i s) := by
  rw [show i * 64 + 64 = (i + 1) * 64 by omega, secv_take l i h, secv_drop l (i + 1) h, List.set_eq_take_append_cons_drop, if_pos hi, secv_append, secv_cons, List.append_assoc]

/-- a slice of sectors of our own -/
def SecRow (w : World) (v : Value) (l : List Sec) : Prop := w.ownsRow 0 105 64 v l.length (secv l)
theorem SecRow.touch {w w' : World} {v : Value} {l : List Sec} {F : Nat → Prop} (h : SecRow w v l) (ht : Touch F w w') (hn : ∀ k, v.ownBlock = some k → ¬ F k) : SecRow w' v l := by
  rcases h with ⟨h1, h2⟩
  refine ⟨h1, ?_⟩
  rcases h2 with h2 | ⟨g, cap, cur, rfl, hb, hg, h3⟩
  · exact .inl h2
  · exact .inr ⟨g, cap, cur, rfl, hb, (ht.block g (lt_of_block hg) (hn g rfl)).trans hg, h3⟩
theorem SecRow.kind {w : World} {v : Value} {l : List Sec} (h : SecRow w v l) {k : Nat} (e : v.ownBlock = some k) : ∃ c fz, w.heap[k]? = some (.cells c 105 fz) := Lib.ownsRow_kind h k e
theorem SecRow.open {w : World} {v : Value} {l : List Sec} (h : SecRow w v l) (hl : l ≠ []) : ∃ g cap cur, v = .slice (some ⟨g, 0, none⟩) l.length cap ∧ w.heap[g]? = some (.cells cur 105 (0, 0)) ∧ l.length ≤ cap ∧ cap ≤ maxLen ∧ cur.size = cap * 64 ∧ cur.toList.take (l.length * 64) = secv l := by
  rcases h with ⟨h1, h2⟩
  rcases h2 with ⟨_, h2⟩ | ⟨g, cap, cur, rfl, hb, hg, h3, h4, h5, h6⟩
  · exact absurd (List.eq_nil_of_length_eq_zero h2) hl
  · exact ⟨g, cap, cur, rfl, hg, h3, h4, h5, h6⟩
theorem SecRow.cell {w : World} {g n cap : Nat} {l : List Sec} (h : SecRow w (.slice (some ⟨g, 0, none⟩) n cap) l) (h64 : ∀ s ∈ l, s.length = 64) (i : Nat) (hi : i < l.length) : ∀ j u, (bv l[i])[j]? = some u → w.cell? ⟨g, i * 64 + j, none⟩ = some u := by
  intro j u hu
  have := World.ownsRow.cells h (g := g) rfl (i * 64 + j) u (secv_at l h64 i hi j u hu)
  have e : (⟨g, 0, none⟩ : Addr).add (i * 64 + j) = ⟨g, i * 64 + j, none⟩ := by unfold Addr.add; split <;> simp_all
  rw [e] at this
  exact this
theorem splice_take (cur : List Value) (m a : Nat) (b : List Value) (h1 : a + b.length ≤ m) (h2 : m ≤ cur.length) :
    (cur.take a ++ b ++ cur.drop (a + b.length)).take m = (cur.take m).take a ++ b ++ (cur.take m).drop (a + b.length) := by
  have hl : (cur.take a ++ b).length = a + b.length := by rw [List.length_append, List.length_take]; omega
  rw [List.take_append, hl, List.take_of_length_le (by omega), List.take_take, List.drop_take, Nat.min_eq_left (by omega)]
/-- one sector is set -/
theorem SecRow.set {w : World} {g n cap : Nat} {l : List Sec} (h : SecRow w (.slice (some ⟨g, 0, none⟩) n cap) l) (h64 : ∀ s ∈ l, s.length = 64) (i : Nat) (hi : i < l.length) (s : Sec) (hs : s.length = 64) :
    ∃ cur, w.heap[g]? = some (.cells cur 105 (0, 0)) ∧ i * 64 + 64 ≤ cur.size ∧ SecRow (w.setRow g (cur.toList.take (i * 64) ++ bv s ++ cur.toList.drop (i * 64 + 64)).toArray) (.slice (some ⟨g, 0, none⟩) n cap) (l.set i s) := by
  rcases h with ⟨h1, h2⟩
  rcases h2 with ⟨h2, _⟩ | ⟨g', cap', cur, hv, hb, hg, h3, h4, h5, h6⟩
  · cases h2
  · simp only [Value.slice.injEq, Option.some.injEq, Addr.mk.injEq, and_true] at hv
    obtain ⟨rfl, rfl, rfl⟩ := hv
    have hcl : cur.toList.length = cap * 64 := by simpa using h5
    have hsl : (secv l).length = l.length * 64 := h1
    have hbs : (bv s).length = 64 := by rw [bv_length, hs]
    refine ⟨cur, hg, by omega, ?_, .inr ⟨g, cap, _, by rw [List.length_set], hb, setRow_heap w g cur _ _ _ hg, by rw [List.length_set]; exact h3, h4, ?_, ?_⟩⟩
    · refine secv_length _ (fun t ht => ?_)
      rcases List.mem_or_eq_of_mem_set ht with h | h
      · exact h64 t h
      · rw [h, hs]
    · simp only [List.size_toArray, List.length_append, List.length_take, List.length_drop, hbs]
      omega
    · rw [← secv_set l h64 i hi s, ← h6, List.length_set]
      show (cur.toList.take (i * 64) ++ bv s ++ cur.toList.drop (i * 64 + 64)).take (l.length * 64) = _
      have := splice_take cur.toList (l.length * 64) (i * 64) (bv s) (by omega) (by omega)
      rw [hbs] at this
      exact this

/-- a disk: each sector's bytes: what is safe, what is pending; calls; for which call it is armed; whether it is down -/
structure Dk where
  S : List (List Sec)
  calls : Int
  armed : Int
  down : Bool
/-- what is pending of a sector -/
def pend (S : List (List Sec)) (i : Nat) : List Sec := (S.getD i []).tail
/-- sectors that have pending ones -/
def dirt (S : List (List Sec)) : List Nat := (List.range S.length).filter fun i => decide (pend S i ≠ [])
/-- sectors of sizes as they ought to be -/
def secOk (S : List (List Sec)) : Prop := 1 ≤ S.length ∧ S.length ≤ 4096 ∧ ∀ L ∈ S, L ≠ [] ∧ ∀ s ∈ L, s.length = 64
/-- what the map has -/
def nowF (S : List (List Sec)) (V : Nat → Value) : Lit → Option Value
  | .int .i64 i => if 0 ≤ i ∧ pend S i.toNat ≠ [] then some (V i.toNat) else none
  | _ => none
theorem pend_far (S : List (List Sec)) (i : Nat) (h : S.length ≤ i) : pend S i = [] := by
  unfold pend
  rw [List.getD_eq_getElem?_getD, List.getElem?_eq_none h]
  rfl
theorem pend_lt {S : List (List Sec)} {i : Nat} (h : pend S i ≠ []) : i < S.length := by
  rcases Nat.lt_or_ge i S.length with h' | h'
  · exact h'
  · exact absurd (pend_far S i h') h
theorem pend_sec {S : List (List Sec)} (ok : secOk S) (i : Nat) : ∀ s ∈ pend S i, s.length = 64 := by
  intro s hs
  have hne : pend S i ≠ [] := fun e => by rw [e] at hs; cases hs
  have hi := pend_lt hne
  unfold pend at hs
  rw [List.getD_eq_getElem?_getD, List.getElem?_eq_getElem hi] at hs
  exact (ok.2.2 S[i] (List.getElem_mem hi)).2 s (List.mem_of_mem_tail hs)
/-- what is safe -/
def safes (S : List (List Sec)) : List Sec := S.map (·.headD [])
theorem safes_length (S : List (List Sec)) : (safes S).length = S.length := by simp [safes]
theorem safes_sec {S : List (List Sec)} (ok : secOk S) : ∀ s ∈ safes S, s.length = 64 := by
  intro s hs
  obtain ⟨L, hL, rfl⟩ := List.mem_map.1 hs
  obtain ⟨h1, h2⟩ := ok.2.2 L hL
  cases L with
  | nil => exact absurd rfl h1
  | cons a r => exact h2 a (by simp)

/-- the disk at p -/
structure DiskAt (w : World) (p sb mb cs : Nat) (V : Nat → Value) (st : Dk) : Prop where
  blk : w.heap[p]? = some (.cells #[.slice (some ⟨sb, 0, none⟩) st.S.length cs, .map (some mb), .int .i64 st.calls, .int .i64 st.armed, .bool st.down] 73 (0, 0))
  safe : SecRow w (.slice (some ⟨sb, 0, none⟩) st.S.length cs) (safes st.S)
  map : MapL Tryz.prog 3 w mb (nowF st.S V) (dirt st.S).length
  rows : ∀ i, pend st.S i ≠ [] → SecRow w (V i) (pend st.S i)
  apart : ∀ i j, i ≠ j → pend st.S i ≠ [] → pend st.S j ≠ [] → (V i).ownBlock ≠ (V j).ownBlock
  apartS : ∀ i, pend st.S i ≠ [] → (V i).ownBlock ≠ some sb
  ok : secOk st.S
  arm : 0 ≤ st.armed ∧ st.armed ≤ 9223372036854775807
/-- its blocks -/
def dfoot (p sb mb : Nat) (V : Nat → Value) (S : List (List Sec)) (k : Nat) : Prop := k = p ∨ k = sb ∨ k = mb ∨ ∃ i, pend S i ≠ [] ∧ (V i).ownBlock = some k
def Disk (w : World) (p : Nat) (F : Nat → Prop) (st : Dk) : Prop := ∃ sb mb cs V, DiskAt w p sb mb cs V st ∧ ∀ k, F k ↔ dfoot p sb mb V st.S k

theorem row_block {w : World} {v : Value} {l : List Sec} (h : SecRow w v l) (hl : l ≠ []) : ∃ k c fz, v.ownBlock = some k ∧ w.heap[k]? = some (.cells c 105 fz) := by
  obtain ⟨g, cap, cur, rfl, hg, _⟩ := h.open hl
  exact ⟨g, cur, _, rfl, hg⟩
section
variable {w : World} {p sb mb cs : Nat} {V : Nat → Value} {st : Dk}
theorem DiskAt.sbk (h : DiskAt w p sb mb cs V st) : ∃ c fz, w.heap[sb]? = some (.cells c 105 fz) := h.safe.kind rfl
theorem DiskAt.ne1 (h : DiskAt w p sb mb cs V st) : p ≠ sb := by
  rintro rfl
  obtain ⟨c, fz, hc⟩ := h.sbk
  rw [h.blk] at hc
  simp at hc
theorem DiskAt.ne2 (h : DiskAt w p sb mb cs V st) : p ≠ mb := by
  rintro rfl
  obtain ⟨es, c, hm⟩ := h.map.obj
  rw [h.blk] at hm
  cases hm
theorem DiskAt.ne3 (h : DiskAt w p sb mb cs V st) : sb ≠ mb := by
  rintro rfl
  obtain ⟨c, fz, hc⟩ := h.sbk
  obtain ⟨es, cl, hm⟩ := h.map.obj
  rw [hc] at hm
  cases hm
theorem DiskAt.rowNe (h : DiskAt w p sb mb cs V st) {i k : Nat} (hi : pend st.S i ≠ []) (e : (V i).ownBlock = some k) : k ≠ p ∧ k ≠ sb ∧ k ≠ mb ∧ k < w.heap.size := by
  obtain ⟨c, fz, hc⟩ := (h.rows i hi).kind e
  refine ⟨?_, ?_, ?_, lt_of_block hc⟩
  · rintro rfl
    rw [h.blk] at hc
    simp at hc
  · rintro rfl
    exact h.apartS i hi e
  · rintro rfl
    obtain ⟨es, cl, hm⟩ := h.map.obj
    rw [hc] at hm
    cases hm
theorem DiskAt.lt (h : DiskAt w p sb mb cs V st) (k : Nat) (hk : dfoot p sb mb V st.S k) : k < w.heap.size := by
  rcases hk with rfl | rfl | rfl | ⟨i, hi, e⟩
  · exact lt_of_block h.blk
  · obtain ⟨c, fz, hc⟩ := h.sbk; exact lt_of_block hc
  · exact h.map.lt
  · exact (h.rowNe hi e).2.2.2
theorem DiskAt.touch {w' : World} {G : Nat → Prop} (h : DiskAt w p sb mb cs V st) (ht : Touch G w w') (hn : ∀ k, dfoot p sb mb V st.S k → ¬ G k) : DiskAt w' p sb mb cs V st where
  blk := (ht.block p (lt_of_block h.blk) (hn p (.inl rfl))).trans h.blk
  safe := h.safe.touch ht (fun k e => by cases e; exact hn sb (.inr (.inl rfl)))
  map := h.map.same (ht.block mb h.map.lt (hn mb (.inr (.inr (.inl rfl)))))
  rows := fun i hi => (h.rows i hi).touch ht (fun k e => hn k (.inr (.inr (.inr ⟨i, hi, e⟩))))
  apart := h.apart
  apartS := h.apartS
  ok := h.ok
  arm := h.arm
end
theorem Disk.lt {w : World} {p : Nat} {F : Nat → Prop} {st : Dk} (h : Disk w p F st) (k : Nat) (hk : F k) : k < w.heap.size := by
  obtain ⟨sb, mb, cs, V, hd, hF⟩ := h
  exact hd.lt k ((hF k).1 hk)
theorem Disk.touch {w w' : World} {p : Nat} {F G : Nat → Prop} {st : Dk} (h : Disk w p F st) (ht : Touch G w w') (hn : ∀ k, F k → ¬ G k) : Disk w' p F st := by
  obtain ⟨sb, mb, cs, V, hd, hF⟩ := h
  exact ⟨sb, mb, cs, V, hd.touch ht (fun k hk => hn k ((hF k).2 hk)), hF⟩
theorem Disk.below {w w' : World} {p : Nat} {F : Nat → Prop} {st : Dk} (h : Disk w p F st) (hb : Below w.heap.size w w') : Disk w' p F st :=
  h.touch (Touch.ofBelow (fun _ => False) hb) (fun _ _ hf => hf)
theorem Disk.drew {w : World} {p : Nat} {F : Nat → Prop} {st : Dk} (h : Disk w p F st) : Disk w.drew p F st := h.touch (Touch.refl (fun _ => False) w).drew (fun _ _ hf => hf)
theorem Disk.own {w : World} {p : Nat} {F : Nat → Prop} {st : Dk} (h : Disk w p F st) : F p := by
  obtain ⟨sb, mb, cs, V, hd, hF⟩ := h
  exact (hF p).2 (.inl rfl)
end Go.Proofs.YtjjejkhekmpgcaaGreat

namespace Go.Proofs.YtjjejkhekmpgcaaGreat
set_option maxRecDepth 4000
open Go.RowKit

theorem int_key : Go.Maps.Keyed Tryz.prog 3 := Go.Maps.int_keyed Tryz.underlying3
theorem info_sec : ∃ i, Tryz.prog.info? 105 = some i ∧ i.zero = some (.agg (List.replicate 64 (Value.int .u8 0)).toArray) ∧ i.size = 64 ∧ i.bytes = 64 := by
  have h : (Tryz.prog.info? 105).map (fun i => (i.zero, i.size, i.bytes)) = some (some (.agg (List.replicate 64 (Value.int .u8 0)).toArray), 64, 64) := by kernel_rfl
  obtain ⟨i, hi, hb⟩ := Option.map_eq_some_iff.1 h
  simp only [Prod.mk.injEq] at hb
  exact ⟨i, hi, hb.1, hb.2.1, hb.2.2⟩

/-- a sector of nought -/
def z64 : Sec := List.replicate 64 0
theorem z64_length : z64.length = 64 := List.length_replicate
theorem bv_z64 : bv z64 = List.replicate 64 (Value.int .u8 0) := by unfold z64 bv; rw [List.map_replicate]; rfl
theorem made_rep (v : Value) (m N : Nat) (hm : 0 < m) : (madeCells (List.replicate m v).toArray N).toList = List.replicate N v := by
  apply List.ext_getElem
  · simp [madeCells]
  · intro i h2 h3
    have hi : i % m < m := Nat.mod_lt _ hm
    simp only [madeCells, Array.getElem_toList, Array.getElem_map, Array.getElem_range, List.getElem_replicate, List.size_toArray, List.length_replicate]
    rw [getElem!_pos _ _ (by simpa using hi)]
    simp
theorem secv_rep (n : Nat) : secv (List.replicate n z64) = List.replicate (n * 64) (Value.int .u8 0) := by
  induction n with
  | zero => rfl
  | succ n ih =>
    rw [List.replicate_succ, secv_cons, ih, bv_z64, List.replicate_append_replicate]
    congr 1
    omega
theorem made_secs (n : Nat) : (madeCells (List.replicate 64 (Value.int .u8 0)).toArray (n * 64)).toList = secv (List.replicate n z64) := by
  rw [secv_rep]
  exact made_rep _ 64 _ (by omega)
/-- a disk that was laid -/
theorem disk_laid (w w1 : World) (n : Nat) (h1 : 1 ≤ n) (h2 : n ≤ 4096) (hr : w1.ownsRow w.heap.size 105 64 (.slice (some ⟨w.heap.size, 0, none⟩) n n) n (secv (List.replicate n z64))) (hb : Below w.heap.size w w1) :
    ∃ p F, p = w1.heap.size + 1 ∧ Below w.heap.size w ((w1.alloc (.map #[] 0)).alloc (.cells #[.slice (some ⟨w.heap.size, 0, none⟩) n n, .map (some w1.heap.size), .int .i64 0, .int .i64 0, .bool false] 73)) ∧
      Disk ((w1.alloc (.map #[] 0)).alloc (.cells #[.slice (some ⟨w.heap.size, 0, none⟩) n n, .map (some w1.heap.size), .int .i64 0, .int .i64 0, .bool false] 73)) p F ⟨List.replicate n [z64], 0, 0, false⟩ ∧ ∀ k, F k → w.heap.size ≤ k := by
  have hlt := hr.lt w.heap.size rfl
  have hS : (List.replicate n [z64]).length = n := List.length_replicate
  have hp : ∀ i, pend (List.replicate n [z64]) i = [] := fun i => by
    unfold pend
    rw [List.getD_eq_getElem?_getD, List.getElem?_replicate]
    split <;> rfl
  have hd : dirt (List.replicate n [z64]) = [] := by
    unfold dirt
    rw [List.filter_eq_nil_iff]
    intro i _
    rw [hp i]; simp
  have hsf : safes (List.replicate n [z64]) = List.replicate n z64 := by simp [safes]
  refine ⟨_, dfoot (w1.heap.size + 1) w.heap.size w1.heap.size (fun _ => .slice none 0 0) (List.replicate n [z64]), rfl, (hb.alloc hb.size _).alloc (by have := hb.size; simp; omega) _, ?_, ?_⟩
  · refine ⟨w.heap.size, w1.heap.size, n, fun _ => .slice none 0 0, ⟨?_, ?_, ?_, fun i hi => absurd (hp i) hi, fun i j _ hi => absurd (hp i) hi, fun i hi => absurd (hp i) hi, ⟨by rw [hS]; exact h1, by rw [hS]; exact h2, ?_⟩, by show (0 : Int) ≤ 0 ∧ (0 : Int) ≤ _; omega⟩, fun k => Iff.rfl⟩
    · rw [hS]
      have := heap_alloc_top (w1.alloc (.map #[] 0)) (.cells #[.slice (some ⟨w.heap.size, 0, none⟩) n n, .map (some w1.heap.size), .int .i64 0, .int .i64 0, .bool false] 73)
      rw [World.size_alloc] at this
      exact this
    · show SecRow _ (.slice (some ⟨w.heap.size, 0, none⟩) (List.replicate n [z64]).length n) (safes (List.replicate n [z64]))
      rw [hsf, hS]
      have h3 := (hr.alloc (.map #[] 0)).alloc (.cells #[.slice (some ⟨w.heap.size, 0, none⟩) n n, .map (some w1.heap.size), .int .i64 0, .int .i64 0, .bool false] 73)
      have h4 := Go.Joins.ownsRow_le h3 (Nat.zero_le _)
      unfold SecRow
      rw [List.length_replicate]
      exact h4
    · show MapL _ _ _ _ (nowF (List.replicate n [z64]) _) (dirt (List.replicate n [z64])).length
      rw [hd]
      refine MapL.congr ((MapL.made w1 Tryz.prog 3).same (heap_alloc_lt _ _ _ (by simp))) (fun l _ => ?_) rfl
      unfold nowF
      cases l with
      | int k i =>
        cases k with
        | i64 => simp only [hp]; simp
        | _ => rfl
      | _ => rfl
    · intro L hL
      rw [(List.mem_replicate.1 hL).2]
      exact ⟨by simp, fun s hs => by rw [List.mem_singleton.1 hs]; exact z64_length⟩
  · intro k hk
    rcases hk with rfl | rfl | rfl | ⟨i, hi, _⟩
    · have := hb.size; omega
    · exact Nat.le_refl _
    · exact hb.size
    · exact absurd (hp i) hi

theorem new_bad (n : Int) (w : World) (h : n < 1 ∨ 4096 < n) : Calls Tryz.prog 7 #[.int .i64 n] w fun e w' => e = .returned (.tuple #[.pointer none, .int .i64 2]) ∧ w' = w := by
  go_enter Tryz.func7, Tryz.ntmps7
  rcases h with h | h
  · go_wp2_with fail
    go_ret2
    exact ⟨rfl, rfl⟩
  · have h' : ¬ n < 1 := by omega
    go_wp2_with fail
    go_ret2
    exact ⟨rfl, rfl⟩

set_option maxHeartbeats 1000000 in
theorem new_disk (n : Nat) (w : World) (h1 : 1 ≤ n) (h2 : n ≤ 4096) : Calls Tryz.prog 7 #[.int .i64 n] w fun e w' => ∃ p F, e = .returned (.tuple #[.pointer (some ⟨p, 0, none⟩), .int .i64 0]) ∧ Below w.heap.size w w' ∧ Disk w' p F ⟨List.replicate n [z64], 0, 0, false⟩ ∧ ∀ k, F k → w.heap.size ≤ k := by
  obtain ⟨i0, hi, hz0, hz1, hz2⟩ := info_sec
  have hmm := @run_makeMap Tryz.prog
  have ha : ¬ (n : Int) < 1 := by omega
  have hb : ¬ (4096 : Int) < (n : Int) := by omega
  have H1 := Lib.hid h1; have H2 := Lib.hid h2
  clear h1 h2
  go_enter Tryz.func7, Tryz.ntmps7
  go_upto_region 3 with fail
  clear ha hb
  go_wp2_with (first
    | (refine wpList_make_full _ rfl _ _ 70 rfl w.heap.size 105 i0 (.agg (List.replicate 64 (Value.int .u8 0)).toArray) 64 Tryz.underlying70 hi hz0 hz1 .i64 .i64 (n : Int) (n : Int) n rfl rfl rfl rfl (by rw [hz2]; have := H2.out; omega) (by unfold maxLen; have := H2.out; omega) (Nat.le_refl _) ?_)
    | fail)
  intro w1 hr1 hg1
  have hr2 : w1.ownsRow w.heap.size 105 64 (.slice (some ⟨w.heap.size, 0, none⟩) n n) n (secv (List.replicate n z64)) := by
    rw [← made_secs]; exact hr1
  have HR := Lib.hid hr2; have HB1 := Lib.hid (below_of_grownBy_none hg1)
  clear hr1 hr2 hg1
  go_wp2_with fail
  obtain ⟨p, F, hp, hbl, hdk, hF⟩ := disk_laid w w1 n H1.out H2.out HR.out HB1.out
  go_ret2
  exact ⟨p, F, by rw [hp]; rfl, hbl, hdk, hF⟩
end Go.Proofs.YtjjejkhekmpgcaaGreat

namespace Go.Proofs.YtjjejkhekmpgcaaGreat
set_option maxRecDepth 4000
open Go.RowKit

section
variable {w : World} {p sb mb cs : Nat} {V : Nat → Value} {st : Dk}
theorem DiskAt.c0 (h : DiskAt w p sb mb cs V st) : w.cell? ⟨p, 0, none⟩ = some (.slice (some ⟨sb, 0, none⟩) st.S.length cs) := cell_at h.blk rfl
theorem DiskAt.c1 (h : DiskAt w p sb mb cs V st) : w.cell? ⟨p, 1, none⟩ = some (.map (some mb)) := cell_at h.blk rfl
theorem DiskAt.c2 (h : DiskAt w p sb mb cs V st) : w.cell? ⟨p, 2, none⟩ = some (.int .i64 st.calls) := cell_at h.blk rfl
theorem DiskAt.c3 (h : DiskAt w p sb mb cs V st) : w.cell? ⟨p, 3, none⟩ = some (.int .i64 st.armed) := cell_at h.blk rfl
theorem DiskAt.c4 (h : DiskAt w p sb mb cs V st) : w.cell? ⟨p, 4, none⟩ = some (.bool st.down) := cell_at h.blk rfl
theorem DiskAt.fr (h : DiskAt w p sb mb cs V st) (i : Nat) : w.frozen? ⟨p, i, none⟩ = false := free_at h.blk i
/-- the counters are set -/
theorem DiskAt.cnt {w' : World} (h : DiskAt w p sb mb cs V st) (ht : Touch (fun k => k = p) w w') (c a : Int) (d : Bool) (ha : 0 ≤ a ∧ a ≤ 9223372036854775807)
    (hb : w'.heap[p]? = some (.cells #[.slice (some ⟨sb, 0, none⟩) st.S.length cs, .map (some mb), .int .i64 c, .int .i64 a, .bool d] 73 (0, 0))) : DiskAt w' p sb mb cs V ⟨st.S, c, a, d⟩ where
  blk := hb
  safe := h.safe.touch ht (fun k e => by cases e; exact fun e => h.ne1 e.symm)
  map := h.map.same (ht.block mb h.map.lt (fun e => h.ne2 e.symm))
  rows := fun i hi => (h.rows i hi).touch ht (fun k e => (h.rowNe hi e).1)
  apart := h.apart
  apartS := h.apartS
  ok := h.ok
  arm := ha
end

/-- whether something may be done at a sector -/
def readyE (st : Dk) (at' : Int) : Int := if st.down = true then 12 else if at' < 0 ∨ (st.S.length : Int) ≤ at' then 3 else 0
set_option maxHeartbeats 400000 in
theorem ready_walk (p : Nat) (F : Nat → Prop) (st : Dk) (at' : Int) (w : World) (h : Disk w p F st) :
    Calls Tryz.prog 87 #[.pointer (some ⟨p, 0, none⟩), .int .i64 at'] w fun e w' => e = .returned (.int .i64 (readyE st at')) ∧ w' = w := by
  obtain ⟨sb, mb, cs, V, hd, hF⟩ := h
  have hn := hd.ok.2.1
  have c0 := hd.c0; have c4 := hd.c4
  obtain ⟨S, calls, armed, down⟩ := st
  obtain ⟨n, hnn⟩ : ∃ n, n = S.length := ⟨_, rfl⟩
  have hre : readyE ⟨S, calls, armed, down⟩ at' = if down = true then 12 else if at' < 0 ∨ (n : Int) ≤ at' then 3 else 0 := by rw [hnn]; rfl
  have c0 : w.cell? ⟨p, 0, none⟩ = some (.slice (some ⟨sb, 0, none⟩) n cs) := by rw [hnn]; exact c0
  have c4 : w.cell? ⟨p, 4, none⟩ = some (.bool down) := c4
  have HRE := Lib.hid hre
  clear hd hF hnn hn hre
  rw [HRE.out]
  cases down with
  | true =>
    rw [if_pos rfl]
    clear HRE
    go_enter Tryz.func87, Tryz.ntmps87
    go_wp2_with fail
    go_ret
    exact ⟨rfl, rfl⟩
  | false =>
    rw [if_neg (by simp)]
    clear HRE
    by_cases h1 : at' < 0
    · rw [if_pos (.inl h1)]
      go_enter Tryz.func87, Tryz.ntmps87
      go_wp2_with fail
      go_ret
      exact ⟨rfl, rfl⟩
    · by_cases h2 : (n : Int) ≤ at'
      · rw [if_pos (.inr h2)]
        go_enter Tryz.func87, Tryz.ntmps87
        go_wp2_with fail
        go_ret
        exact ⟨rfl, rfl⟩
      · rw [if_neg (by omega)]
        go_enter Tryz.func87, Tryz.ntmps87
        go_wp2_with fail
        go_ret
        exact ⟨rfl, rfl⟩
theorem ready_nil (at' : Int) (w : World) : Calls Tryz.prog 87 #[.pointer none, .int .i64 at'] w fun e w' => e = .returned (.int .i64 1) ∧ w' = w := by
  go_enter Tryz.func87, Tryz.ntmps87
  go_wp2_with fail
  go_ret
  exact ⟨rfl, rfl⟩

/-- a call is counted -/
def callD (st : Dk) : Dk := ⟨st.S, wrap64 (st.calls + 1), if 0 < st.armed then st.armed - 1 else st.armed, if 0 < st.armed then decide (st.armed = 1) else st.down⟩
set_option maxHeartbeats 1000000 in
theorem call_none (p sb mb cs n : Nat) (calls armed : Int) (down : Bool) (w : World) (h0 : ¬ 0 < armed)
    (hblk : w.heap[p]? = some (.cells #[.slice (some ⟨sb, 0, none⟩) n cs, .map (some mb), .int .i64 calls, .int .i64 armed, .bool down] 73 (0, 0))) :
    Calls Tryz.prog 88 #[.pointer (some ⟨p, 0, none⟩)] w fun e w' => e = .returned (.int .i64 (if down then 12 else 0)) ∧
      w'.heap[p]? = some (.cells #[.slice (some ⟨sb, 0, none⟩) n cs, .map (some mb), .int .i64 (wrap64 (calls + 1)), .int .i64 (armed), .bool (down)] 73 (0, 0)) ∧ Touch (fun k => k = p) w w' := by
  have c2 := cell_at (j := 2) (v := .int .i64 calls) hblk rfl
  have f2 := free_at hblk 2
  obtain ⟨c', hc'⟩ : ∃ c', c' = wrap64 (calls + 1) := ⟨_, rfl⟩
  have hs1 := set_at (i := 2) hblk (.int .i64 c')
  have ht1 : Touch (fun k => k = p) w (w.setCell ⟨p, 2, none⟩ (.int .i64 c')) := (Touch.refl (fun k => k = p) w).setCell (F := fun k => k = p) rfl _
  have HC := Lib.hid hc'; have HS1 := Lib.hid hs1; have HT1 := Lib.hid ht1
  clear hblk hs1 ht1 hc'
  rw [← HC.out]
  go_enter Tryz.func88, Tryz.ntmps88
  go_upto_region 2 with fail
  rw [← HC.out]
  have hs1 := HS1.out
  have ht1 := HT1.out
  clear c2 f2 HS1 HT1
  generalize w.setCell ⟨p, 2, none⟩ (.int .i64 c') = w1 at hs1 ht1 ⊢
  have c3 := cell_at (j := 3) (v := .int .i64 armed) hs1 rfl
  have c4 := cell_at (j := 4) (v := .bool down) hs1 rfl
  have HS2 := Lib.hid hs1; have HT2 := Lib.hid ht1
  clear hs1 ht1
  cases down with
  | true =>
    go_wp2_with fail
    go_ret
    exact ⟨rfl, HS2.out, HT2.out⟩
  | false =>
    go_wp2_with fail
    go_ret
    exact ⟨rfl, HS2.out, HT2.out⟩
set_option maxHeartbeats 1000000 in
theorem call_last (p sb mb cs n : Nat) (calls armed : Int) (down : Bool) (w : World) (h0 : armed = 1)
    (hblk : w.heap[p]? = some (.cells #[.slice (some ⟨sb, 0, none⟩) n cs, .map (some mb), .int .i64 calls, .int .i64 armed, .bool down] 73 (0, 0))) :
    Calls Tryz.prog 88 #[.pointer (some ⟨p, 0, none⟩)] w fun e w' => e = .returned (.int .i64 (12)) ∧
      w'.heap[p]? = some (.cells #[.slice (some ⟨sb, 0, none⟩) n cs, .map (some mb), .int .i64 (wrap64 (calls + 1)), .int .i64 (0), .bool (true)] 73 (0, 0)) ∧ Touch (fun k => k = p) w w' := by
  have c2 := cell_at (j := 2) (v := .int .i64 calls) hblk rfl
  have f2 := free_at hblk 2
  obtain ⟨c', hc'⟩ : ∃ c', c' = wrap64 (calls + 1) := ⟨_, rfl⟩
  have hs1 := set_at (i := 2) hblk (.int .i64 c')
  have ht1 : Touch (fun k => k = p) w (w.setCell ⟨p, 2, none⟩ (.int .i64 c')) := (Touch.refl (fun k => k = p) w).setCell (F := fun k => k = p) rfl _
  have HC := Lib.hid hc'; have HS1 := Lib.hid hs1; have HT1 := Lib.hid ht1
  clear hblk hs1 ht1 hc'
  rw [← HC.out]
  go_enter Tryz.func88, Tryz.ntmps88
  go_upto_region 2 with fail
  rw [← HC.out]
  have hs1 := HS1.out
  have ht1 := HT1.out
  clear c2 f2 HS1 HT1
  generalize w.setCell ⟨p, 2, none⟩ (.int .i64 c') = w1 at hs1 ht1 ⊢
  have c3 := cell_at (j := 3) (v := .int .i64 armed) hs1 rfl
  have f3 := free_at hs1 3
  have hs2 := set_at (i := 3) hs1 (.int .i64 (0))
  have ht2 : Touch (fun k => k = p) w (w1.setCell ⟨p, 3, none⟩ (.int .i64 (0))) := ht1.setCell (F := fun k => k = p) rfl _
  have HS2 := Lib.hid hs2; have HT2 := Lib.hid ht2
  clear hs1 ht1 hs2 ht2
  go_upto_region 4 with fail
  have hs2 := HS2.out
  have ht2 := HT2.out
  clear c3 f3 HS2 HT2
  generalize w1.setCell ⟨p, 3, none⟩ (.int .i64 (0)) = w2 at hs2 ht2 ⊢
  have c3 := cell_at (j := 3) (v := .int .i64 (0)) hs2 rfl
  have f4 := free_at hs2 4
  have c4 := cell_at (j := 4) (v := .bool down) hs2 rfl
  have hs3 := set_at (i := 4) hs2 (.bool true)
  have ht3 : Touch (fun k => k = p) w (w2.setCell ⟨p, 4, none⟩ (.bool true)) := ht2.setCell (F := fun k => k = p) rfl _
  skip
  have HS3 := Lib.hid hs3; have HT3 := Lib.hid ht3
  clear hs2 ht2 hs3 ht3
  go_upto_region 5 with fail
  have hs3 := HS3.out
  have ht3 := HT3.out
  clear c3 f4 c4 HS3 HT3
  generalize w2.setCell ⟨p, 4, none⟩ (.bool true) = w3 at hs3 ht3 ⊢
  have c4 := cell_at (j := 4) (v := .bool true) hs3 rfl
  have HS3 := Lib.hid hs3; have HT3 := Lib.hid ht3
  clear hs3 ht3
  go_wp2_with fail
  go_ret
  exact ⟨rfl, HS3.out, HT3.out⟩
set_option maxHeartbeats 1000000 in
theorem call_more (p sb mb cs n : Nat) (calls armed : Int) (down : Bool) (w : World) (h0 : 1 < armed) (h9 : armed ≤ 9223372036854775807)
    (hblk : w.heap[p]? = some (.cells #[.slice (some ⟨sb, 0, none⟩) n cs, .map (some mb), .int .i64 calls, .int .i64 armed, .bool down] 73 (0, 0))) :
    Calls Tryz.prog 88 #[.pointer (some ⟨p, 0, none⟩)] w fun e w' => e = .returned (.int .i64 (0)) ∧
      w'.heap[p]? = some (.cells #[.slice (some ⟨sb, 0, none⟩) n cs, .map (some mb), .int .i64 (wrap64 (calls + 1)), .int .i64 (armed - 1), .bool (false)] 73 (0, 0)) ∧ Touch (fun k => k = p) w w' := by
  have c2 := cell_at (j := 2) (v := .int .i64 calls) hblk rfl
  have f2 := free_at hblk 2
  obtain ⟨c', hc'⟩ : ∃ c', c' = wrap64 (calls + 1) := ⟨_, rfl⟩
  have hs1 := set_at (i := 2) hblk (.int .i64 c')
  have ht1 : Touch (fun k => k = p) w (w.setCell ⟨p, 2, none⟩ (.int .i64 c')) := (Touch.refl (fun k => k = p) w).setCell (F := fun k => k = p) rfl _
  have HC := Lib.hid hc'; have HS1 := Lib.hid hs1; have HT1 := Lib.hid ht1
  clear hblk hs1 ht1 hc'
  rw [← HC.out]
  go_enter Tryz.func88, Tryz.ntmps88
  go_upto_region 2 with fail
  rw [← HC.out]
  have hs1 := HS1.out
  have ht1 := HT1.out
  clear c2 f2 HS1 HT1
  generalize w.setCell ⟨p, 2, none⟩ (.int .i64 c') = w1 at hs1 ht1 ⊢
  have c3 := cell_at (j := 3) (v := .int .i64 armed) hs1 rfl
  have h00 : 0 < armed := by omega
  have f3 := free_at hs1 3
  have hs2 := set_at (i := 3) hs1 (.int .i64 (armed - 1))
  have ht2 : Touch (fun k => k = p) w (w1.setCell ⟨p, 3, none⟩ (.int .i64 (armed - 1))) := ht1.setCell (F := fun k => k = p) rfl _
  have HS2 := Lib.hid hs2; have HT2 := Lib.hid ht2
  clear hs1 ht1 hs2 ht2
  go_upto_region 4 with fail
  have hs2 := HS2.out
  have ht2 := HT2.out
  clear c3 f3 HS2 HT2
  generalize w1.setCell ⟨p, 3, none⟩ (.int .i64 (armed - 1)) = w2 at hs2 ht2 ⊢
  have c3 := cell_at (j := 3) (v := .int .i64 (armed - 1)) hs2 rfl
  have f4 := free_at hs2 4
  have c4 := cell_at (j := 4) (v := .bool down) hs2 rfl
  have hs3 := set_at (i := 4) hs2 (.bool false)
  have ht3 : Touch (fun k => k = p) w (w2.setCell ⟨p, 4, none⟩ (.bool false)) := ht2.setCell (F := fun k => k = p) rfl _
  have hz : (armed - 1 == 0) = false := by rw [beq_eq_false_iff_ne]; omega
  have HS3 := Lib.hid hs3; have HT3 := Lib.hid ht3
  clear hs2 ht2 hs3 ht3
  go_upto_region 5 with fail
  have hs3 := HS3.out
  have ht3 := HT3.out
  clear c3 f4 c4 HS3 HT3
  generalize w2.setCell ⟨p, 4, none⟩ (.bool false) = w3 at hs3 ht3 ⊢
  have c4 := cell_at (j := 4) (v := .bool false) hs3 rfl
  have HS3 := Lib.hid hs3; have HT3 := Lib.hid ht3
  clear hs3 ht3
  go_wp2_with fail
  go_ret
  exact ⟨rfl, HS3.out, HT3.out⟩
theorem call_walk (p : Nat) (F : Nat → Prop) (st : Dk) (w : World) (h : Disk w p F st) :
    Calls Tryz.prog 88 #[.pointer (some ⟨p, 0, none⟩)] w fun e w' => e = .returned (.int .i64 (if (callD st).down then 12 else 0)) ∧ Disk w' p F (callD st) ∧ Touch (fun k => k = p) w w' := by
  obtain ⟨sb, mb, cs, V, hd, hF⟩ := h
  have ha := hd.arm
  by_cases h0 : 0 < st.armed
  · by_cases h1 : st.armed = 1
    · have e : callD st = ⟨st.S, wrap64 (st.calls + 1), 0, true⟩ := by unfold callD; rw [if_pos h0, if_pos h0, h1]; rfl
      rw [e]
      refine (call_last p sb mb cs st.S.length st.calls st.armed st.down w h1 hd.blk).mono fun r w' ⟨h2, h3, h4⟩ => ⟨h2, ⟨sb, mb, cs, V, hd.cnt h4 _ _ _ (by omega) h3, hF⟩, h4⟩
    · have e : callD st = ⟨st.S, wrap64 (st.calls + 1), st.armed - 1, false⟩ := by unfold callD; rw [if_pos h0, if_pos h0, decide_eq_false h1]
      rw [e]
      refine (call_more p sb mb cs st.S.length st.calls st.armed st.down w (by omega) ha.2 hd.blk).mono fun r w' ⟨h2, h3, h4⟩ => ⟨h2, ⟨sb, mb, cs, V, hd.cnt h4 _ _ _ (by omega) h3, hF⟩, h4⟩
  · have e : callD st = ⟨st.S, wrap64 (st.calls + 1), st.armed, st.down⟩ := by unfold callD; rw [if_neg h0, if_neg h0]
    rw [e]
    refine (call_none p sb mb cs st.S.length st.calls st.armed st.down w h0 hd.blk).mono fun r w' ⟨h2, h3, h4⟩ => ⟨h2, ⟨sb, mb, cs, V, hd.cnt h4 _ _ _ ha h3, hF⟩, h4⟩

theorem len_walk (p : Nat) (F : Nat → Prop) (st : Dk) (w : World) (h : Disk w p F st) :
    Calls Tryz.prog 79 #[.pointer (some ⟨p, 0, none⟩)] w fun e w' => e = .returned (.int .i64 st.S.length) ∧ w' = w := by
  obtain ⟨sb, mb, cs, V, hd, hF⟩ := h
  have hc := hd.c0
  clear hd hF
  go_enter Tryz.func79, Tryz.ntmps79
  go_wp2_with fail
  go_ret
  exact ⟨rfl, rfl⟩
theorem len_nil (w : World) : Calls Tryz.prog 79 #[.pointer none] w fun e w' => e = .returned (.int .i64 0) ∧ w' = w := by
  go_enter Tryz.func79, Tryz.ntmps79
  go_wp2_with fail
  go_ret
  exact ⟨rfl, rfl⟩

/-- armed for a call -/
def armD (st : Dk) (n : Int) : Dk := ⟨st.S, st.calls, max n 0, st.down⟩
theorem arm_walk (p : Nat) (F : Nat → Prop) (st : Dk) (n : Int) (w : World) (hn : n ≤ 9223372036854775807) (h : Disk w p F st) :
    Calls Tryz.prog 31 #[.pointer (some ⟨p, 0, none⟩), .int .i64 n] w fun e w' => e = .returned (.tuple #[]) ∧ Disk w' p F (armD st n) ∧ Touch (fun k => k = p) w w' := by
  obtain ⟨sb, mb, cs, V, hd, hF⟩ := h
  obtain ⟨m, hm⟩ : ∃ m, m = max n 0 := ⟨_, rfl⟩
  have hm0 : 0 ≤ m ∧ m ≤ 9223372036854775807 := by omega
  have hf := hd.fr 3
  have hc := hd.c3
  have hs := set_at (i := 3) hd.blk (.int .i64 m)
  have ht : Touch (fun k => k = p) w (w.setCell ⟨p, 3, none⟩ (.int .i64 m)) := (Touch.refl (fun k => k = p) w).setCell (F := fun k => k = p) rfl _
  have HK := Lib.hid (hd.cnt ht st.calls m st.down hm0 hs)
  have HT := Lib.hid ht; have HF := Lib.hid hF; have HM := Lib.hid hm
  clear hd hF hs ht
  clear hm
  by_cases h0 : 0 < n
  · obtain rfl : m = n := by have := HM.out; omega
    go_enter Tryz.func31, Tryz.ntmps31
    go_wp2_with fail
    refine bodyPost_end (results_none rfl _ _ _) rfl ⟨rfl, ⟨sb, mb, cs, V, ?_, HF.out⟩, HT.out⟩
    unfold armD
    rw [← HM.out]
    exact HK.out
  obtain rfl : m = 0 := by have := HM.out; omega
  by_cases h1 : n < 0
  · skip
    go_enter Tryz.func31, Tryz.ntmps31
    go_wp2_with fail
    refine bodyPost_end (results_none rfl _ _ _) rfl ⟨rfl, ⟨sb, mb, cs, V, ?_, HF.out⟩, HT.out⟩
    unfold armD
    rw [← HM.out]
    exact HK.out
  · obtain rfl : n = 0 := by omega
    go_enter Tryz.func31, Tryz.ntmps31
    go_wp2_with fail
    refine bodyPost_end (results_none rfl _ _ _) rfl ⟨rfl, ⟨sb, mb, cs, V, ?_, HF.out⟩, HT.out⟩
    unfold armD
    rw [← HM.out]
    exact HK.out
theorem arm_nil (n : Int) (w : World) : Calls Tryz.prog 31 #[.pointer none, .int .i64 n] w fun e w' => e = .returned (.tuple #[]) ∧ w' = w := by
  go_enter Tryz.func31, Tryz.ntmps31
  go_wp2_with fail
  exact bodyPost_end (results_none rfl _ _ _) rfl ⟨rfl, rfl⟩
end Go.Proofs.YtjjejkhekmpgcaaGreat

namespace Go.Proofs.YtjjejkhekmpgcaaGreat
set_option maxRecDepth 4000
open Go.RowKit

theorem info_sec1 : (Tryz.prog.info? 105).map (·.size) = some 64 := by kernel_rfl
/-- the last that was written -/
def lastS (S : List (List Sec)) (i : Nat) : Sec := (S.getD i []).getLastD []
theorem last_none {S : List (List Sec)} {i : Nat} (h : pend S i = []) (hi : i < S.length) (ok : secOk S) : lastS S i = (safes S)[i]'(by rw [safes_length]; exact hi) := by
  have hne := (ok.2.2 S[i] (List.getElem_mem hi)).1
  unfold pend at h
  unfold lastS safes
  rw [List.getD_eq_getElem?_getD, List.getElem?_eq_getElem hi] at h ⊢
  simp only [Option.getD_some, List.getElem_map] at h ⊢
  cases hL : S[i] with
  | nil => exact absurd hL hne
  | cons a r => rw [hL] at h; simp at h; subst h; rfl
theorem last_some {S : List (List Sec)} {i : Nat} (h : pend S i ≠ []) : (pend S i)[(pend S i).length - 1]? = some (lastS S i) := by
  have hi := pend_lt h
  unfold pend lastS at *
  rw [List.getD_eq_getElem?_getD, List.getElem?_eq_getElem hi] at h ⊢
  simp only [Option.getD_some] at h ⊢
  obtain ⟨L, hL⟩ : ∃ L, L = S[i] := ⟨_, rfl⟩
  rw [← hL] at h ⊢
  cases L with
  | nil => exact absurd rfl h
  | cons a r =>
    have h : r ≠ [] := h
    show r[r.length - 1]? = some ((a :: r).getLastD [])
    rw [← List.getLast?_eq_getElem?, List.getLast?_eq_some_getLast h, List.getLastD_cons, List.getLastD_eq_getLast?, List.getLast?_eq_some_getLast h]
    rfl
theorem last_len {S : List (List Sec)} {i : Nat} (hi : i < S.length) (ok : secOk S) : (lastS S i).length = 64 := by
  by_cases h : pend S i = []
  · rw [last_none h hi ok]
    exact safes_sec ok _ (List.getElem_mem _)
  · exact pend_sec ok i _ (List.mem_of_getElem? (last_some h))

theorem wp_world {P : Program} {c : Code} {Q : Exit → Act → World → Prop} {a : Act} {w W : World} (h : W = w) (hg : c.wp P Q a W) : c.wp P Q a w := h ▸ hg
theorem look_now {w : World} {p sb mb cs : Nat} {V : Nat → Value} {st : Dk} (h : DiskAt w p sb mb cs V st) (i : Nat) (hi : i ≤ 4096) :
    (Instr.lookup 71 (.map (some mb)) (.int .i64 i) false).run Tryz.prog w = .ok (if pend st.S i ≠ [] then V i else .slice none 0 0) w := by
  have hz : (zeroValue 70).run Tryz.prog w = .ok (.slice none 0 0) w := by kernel_rfl
  have hk := Go.Maps.keyOf_int_mk (P := Tryz.prog) (k := 3) (q := .i64) Tryz.underlying3 (a := (i : Int)) (WalkArith.wf_i64 (by omega))
  rw [h.map.look int_key Tryz.underlying71 hz hk]
  congr 1
  unfold nowF
  by_cases hp : pend st.S i ≠ []
  · rw [if_pos hp]
    simp only [Int.toNat_natCast]
    rw [if_pos ⟨Int.natCast_nonneg _, hp⟩]
    rfl
  · rw [if_neg hp]
    simp only [Int.toNat_natCast]
    rw [if_neg (fun h => hp h.2)]
    rfl

set_option maxHeartbeats 1000000 in
theorem last_walk (p : Nat) (F : Nat → Prop) (st : Dk) (i : Nat) (w : World) (h : Disk w p F st) (hi : i < st.S.length) :
    Calls Tryz.prog 109 #[.pointer (some ⟨p, 0, none⟩), .int .i64 i] w fun e w' => e = .returned (.agg (bv (lastS st.S i)).toArray) ∧ Below w.heap.size w w' := by
  obtain ⟨sb, mb, cs, V, hd, hF⟩ := h
  obtain ⟨W, hW⟩ : ∃ W, W = w.alloc (.cells (List.replicate 64 (Value.int .u8 0)).toArray 105) := ⟨_, rfl⟩
  have hb1 : Below w.heap.size w W := by rw [hW]; exact (Below.refl w.heap.size w).alloc (Nat.le_refl _) _
  have g1 : W.heap[w.heap.size]? = some (.cells (List.replicate 64 (Value.int .u8 0)).toArray 105 (0, 0)) := by rw [hW]; exact heap_alloc_top _ _
  obtain ⟨x, hx⟩ : ∃ x, x = w.heap.size := ⟨_, rfl⟩
  have hd1 := hd.touch (Touch.ofBelow (fun _ => False) hb1) (fun _ _ hf => hf)
  have hlen := last_len hi hd.ok
  have hnx := hd.ok.2.1
  have hlk := look_now hd1 i (by omega)
  have c1 := hd1.c1
  have c0 := hd1.c0
  obtain ⟨s, hs⟩ : ∃ s, s = lastS st.S i := ⟨_, rfl⟩
  have hbs : (bv s).length = 64 := by rw [hs, bv_length]; exact hlen
  have hload : pend st.S i = [] → ∀ j u, (bv s)[j]? = some u → W.cell? ⟨sb, i * 64 + j, none⟩ = some u := fun hp j u hu => by
    refine hd1.safe.cell (safes_sec hd.ok) i (by rw [safes_length]; exact hi) j u ?_
    rw [← last_none hp hi hd.ok, ← hs]
    exact hu
  have hload2 : ∀ g n cap, V i = .slice (some ⟨g, 0, none⟩) n cap → pend st.S i ≠ [] → ∀ j u, (bv s)[j]? = some u → W.cell? ⟨g, ((pend st.S i).length - 1) * 64 + j, none⟩ = some u := fun g n cap hv hp j u hu => by
    have hr := hd1.rows i hp
    rw [hv] at hr
    have hpos := List.length_pos_iff.2 hp
    have hls := last_some hp
    refine hr.cell (pend_sec hd.ok i) ((pend st.S i).length - 1) (by omega) j u ?_
    rw [List.getElem?_eq_getElem (by omega)] at hls
    rw [Option.some.inj hls, ← hs]
    exact hu
  have hopen : pend st.S i ≠ [] → ∃ g cap, V i = .slice (some ⟨g, 0, none⟩) (pend st.S i).length cap ∧ cap ≤ 9223372036854775807 ∧ (pend st.S i).length ≤ cap := fun hp => by
    obtain ⟨g, cap, cur, hv, _, h3, h4, _⟩ := (hd1.rows i hp).open hp
    exact ⟨g, cap, hv, h4, h3⟩
  obtain ⟨S, calls, armed, down⟩ := st
  rw [← hs]
  have HB1 := Lib.hid hb1; have HL := Lib.hid hload; have HL2 := Lib.hid hload2; have HO := Lib.hid hopen; have HBS := Lib.hid hbs; have HX := Lib.hid hx; have HW := Lib.hid hW; have HLK := Lib.hid hlk; have HC0 := Lib.hid c0; have HC1 := Lib.hid c1
  rw [← hx] at g1
  have G1 := Lib.hid g1
  clear hd hF hb1 hd1 hs hlen hload hload2 hopen hbs hx hW hlk g1 c0 c1
  go_enter Tryz.func109, Tryz.ntmps109
  go_upto_region 1 with fail
  refine wp_world HW.out ?_
  rw [← HX.out]
  have c1 := HC1.out
  have hlk := HLK.out
  by_cases hp : pend S i = []
  · have hlk2 : (Instr.lookup 71 (.map (some mb)) (.int .i64 i) false).run Tryz.prog W = .ok (.slice none 0 0) W := by
      rw [if_neg (fun h => h hp)] at hlk
      exact hlk
    have HP := Lib.hid hp
    have c0 := HC0.out
    have HIX : i < S.length := hi
    have HI2 : (i : Int) ≤ 4096 := by have : S.length ≤ 4096 := hnx; omega
    obtain ⟨n, hn⟩ : ∃ n, n = S.length := ⟨_, rfl⟩
    rw [← hn] at HIX
    have c0' : W.cell? ⟨p, 0, none⟩ = some (.slice (some ⟨sb, 0, none⟩) n cs) := by rw [hn]; exact c0
    clear hlk hp c0 hn hi hnx HLK HC0 HC1
    go_wp2_with (first
      | (refine wpList_cells 105 _ rfl sb (i * 64) rfl rfl (bv s) _ (HL.out HP.out) Tryz.underlying105 rfl (by rw [HBS.out]; exact info_sec1) ?_)
      | (refine wpList_store_row rfl 105 _ _ rfl x (bv s).toArray rfl rfl 105 _ G1.out (by rw [List.size_toArray, HBS.out]; exact info_sec1) (by simp [HBS.out]) (by rw [List.all_toArray]; exact List.all_eq_true.2 (bv_one s)) ?_))
    have hblk := setRow_heap W x _ (bv s).toArray 105 (0, 0) G1.out
    exact bodyPost_ret (v := .agg (bv s).toArray) (results_cell_row rfl _ _ x 105 (bv s).toArray (0, 0) _ rfl hblk Tryz.underlying105 rfl (by rw [List.size_toArray, HBS.out]; exact info_sec1)) rfl ⟨rfl, (touch_setRow (F := fun k => k = x) W x _ rfl).below HB1.out HB1.out.size (fun k hk => by rw [hk, HX.out]; exact Nat.le_refl _)⟩
  · obtain ⟨g, cap, hv, hcap, hmc⟩ := HO.out hp
    have hl2 := HL2.out g _ cap hv hp
    have hlk2 : (Instr.lookup 71 (.map (some mb)) (.int .i64 i) false).run Tryz.prog W = .ok (.slice (some ⟨g, 0, none⟩) (pend S i).length cap) W := by
      rw [if_pos hp, hv] at hlk
      exact hlk
    have hpos : 0 < (pend S i).length := List.length_pos_iff.2 hp
    obtain ⟨m, hm⟩ : ∃ m, m = (pend S i).length := ⟨_, rfl⟩
    rw [← hm] at hl2 hlk2 hpos hmc
    have hposi : (0 : Int) < (m : Int) := by omega
    have hcapi : (m : Int) ≤ 9223372036854775807 := by omega
    have HL3 := Lib.hid hl2
    clear hlk hp hv hm hi hnx hl2 hcap hmc HLK HC0 HC1 HL HL2 HO
    go_wp2_with (first
      | (refine wpList_cells 105 _ rfl g ((m - 1) * 64) rfl rfl (bv s) _ HL3.out Tryz.underlying105 rfl (by rw [HBS.out]; exact info_sec1) ?_)
      | (refine wpList_store_row rfl 105 _ _ rfl x (bv s).toArray rfl rfl 105 _ G1.out (by rw [List.size_toArray, HBS.out]; exact info_sec1) (by simp [HBS.out]) (by rw [List.all_toArray]; exact List.all_eq_true.2 (bv_one s)) ?_))
    have hblk := setRow_heap W x _ (bv s).toArray 105 (0, 0) G1.out
    exact bodyPost_ret (v := .agg (bv s).toArray) (results_cell_row rfl _ _ x 105 (bv s).toArray (0, 0) _ rfl hblk Tryz.underlying105 rfl (by rw [List.size_toArray, HBS.out]; exact info_sec1)) rfl ⟨rfl, (touch_setRow (F := fun k => k = x) W x _ rfl).below HB1.out HB1.out.size (fun k hk => by rw [hk, HX.out]; exact Nat.le_refl _)⟩

theorem string_of_cells (w : World) (b cap : Nat) (l : List UInt8) (hc : ∀ i, i < l.length → w.cell? ⟨b, i, none⟩ = some (.int .u8 (l.getD i 0).toNat)) :
    (convert 127 9 (.slice (some ⟨b, 0, none⟩) l.length cap)).run Tryz.prog w = .ok (.string ⟨l.toArray⟩) w := by
  have h := run_convert_bytes_arg (P := Tryz.prog) w 127 5 Tryz.underlying127 Tryz.underlying5 b 0 l.length cap (l.map fun x => (x.toNat : Int)) (by simp) (fun i hi => by
    rw [Nat.zero_add, hc i hi]
    simp [List.getD_eq_getElem?_getD, List.getElem?_eq_getElem hi]) 9 Tryz.underlying9
  rw [h]
  congr 2
  apply ByteArray.ext
  apply Array.toList_inj.1
  rw [strOfNums_data, List.map_map]
  show _ = l
  conv => rhs; rw [← List.map_id l]
  apply List.map_congr_left
  intro x _
  simp

/-- what Read answers -/
def readD (st : Dk) (at' : Int) : ByteArray × Int := if readyE st at' = 0 then (⟨(lastS st.S at'.toNat).toArray⟩, 0) else (⟨#[]⟩, readyE st at')
theorem ready_zero {st : Dk} {at' : Int} (h : readyE st at' = 0) : st.down = false ∧ 0 ≤ at' ∧ at'.toNat < st.S.length := by
  unfold readyE at h
  by_cases h1 : st.down = true
  · rw [if_pos h1] at h; simp at h
  · rw [if_neg h1] at h
    by_cases h2 : at' < 0 ∨ (st.S.length : Int) ≤ at'
    · rw [if_pos h2] at h; simp at h
    · refine ⟨by simpa using h1, ?_, ?_⟩ <;> omega
set_option maxHeartbeats 1000000 in
theorem read_walk (p : Nat) (F : Nat → Prop) (st : Dk) (at' : Int) (w : World) (h : Disk w p F st) :
    Calls Tryz.prog 81 #[.pointer (some ⟨p, 0, none⟩), .int .i64 at'] w fun e w' => e = .returned (.tuple #[.string (readD st at').1, .int .i64 (readD st at').2]) ∧ Below w.heap.size w w' := by
  have hrw := ready_walk p F st at' w h
  by_cases h0 : readyE st at' = 0
  · obtain ⟨_, h1, h2⟩ := ready_zero h0
    obtain ⟨i, rfl⟩ := Int.eq_ofNat_of_zero_le h1
    rw [Int.toNat_natCast] at h2
    have hlw := last_walk p F st i w h h2
    have hlen : (lastS st.S i).length = 64 := by
      obtain ⟨sb, mb, cs, V, hd, hF⟩ := h
      exact last_len h2 hd.ok
    have hrd : readD st i = (⟨(lastS st.S i).toArray⟩, 0) := by unfold readD; rw [if_pos h0]; rfl
    rw [h0] at hrw
    obtain ⟨s, hs⟩ : ∃ s, s = lastS st.S i := ⟨_, rfl⟩
    rw [← hs] at hlw hlen hrd
    rw [hrd]
    have HRW := Lib.hid hrw; have HLW := Lib.hid hlw; have HLEN := Lib.hid hlen
    have hbs : (bv s).length = 64 := by rw [bv_length]; exact hlen
    have HBS := Lib.hid hbs
    clear h h0 h1 h2 hrw hlw hlen hrd hs hbs
    go_enter Tryz.func81, Tryz.ntmps81
    go_wp2_with fail
    refine HRW.out.mono ?_
    rintro e w1 ⟨rfl, rfl⟩
    go_wp2_with fail
    refine HLW.out.mono ?_
    rintro e w2 ⟨rfl, hb2⟩
    have HB2 := Lib.hid hb2
    clear hb2 HRW HLW
    go_upto_region 5 with (refine wpList_store_row rfl 105 _ _ rfl w2.heap.size (bv s).toArray rfl rfl 105 _ (heap_alloc_top w2 _) (by rw [List.size_toArray, HBS.out]; exact info_sec1) (by simp [HBS.out]) (by rw [List.all_toArray]; exact List.all_eq_true.2 (bv_one s)) ?_)
    obtain ⟨x, hx⟩ : ∃ x, x = w2.heap.size := ⟨_, rfl⟩
    rw [← hx]
    obtain ⟨W, hW⟩ : ∃ W, W = (w2.alloc (.cells (List.replicate 64 (Value.int .u8 0)).toArray 105)).setRow x (bv s).toArray := ⟨_, rfl⟩
    have hblk : W.heap[x]? = some (.cells (bv s).toArray 105 (0, 0)) := by
      rw [hW]
      exact setRow_heap _ x _ _ _ _ (by rw [hx]; exact heap_alloc_top w2 _)
    have hbw : Below w1.heap.size w1 W := by
      rw [hW]
      exact (touch_setRow (F := fun k => k = x) _ x _ rfl).below (HB2.out.alloc HB2.out.size _) (by have := HB2.out.size; simp; omega) (fun k hk => by rw [hk, hx]; exact HB2.out.size)
    have hstr : (convert 127 9 (.slice (some ⟨x, 0, none⟩) 64 64)).run Tryz.prog W = .ok (.string ⟨s.toArray⟩) W := by
      have := string_of_cells W x 64 s (fun j hj => by
        rw [cell_of_row W x j _ _ _ hblk]
        simp [bv, List.getD_eq_getElem?_getD, List.getElem?_eq_getElem hj])
      rw [HLEN.out] at this
      exact this
    have HW := Lib.hid hW; have HBW := Lib.hid hbw
    clear hW hbw hblk hx HB2
    refine wp_world HW.out ?_
    clear HW
    go_wp2_with fail
    go_ret2
    exact ⟨rfl, HBW.out⟩
  · have hrd : readD st at' = (⟨#[]⟩, readyE st at') := by unfold readD; rw [if_neg h0]
    rw [hrd]
    obtain ⟨r, hr⟩ : ∃ r, r = readyE st at' := ⟨_, rfl⟩
    rw [← hr] at hrw h0 ⊢
    have hz : (r == 0) = false := by rw [beq_eq_false_iff_ne]; exact h0
    have HRW := Lib.hid hrw
    clear h hrw hr hrd h0
    go_enter Tryz.func81, Tryz.ntmps81
    go_wp2_with fail
    refine HRW.out.mono ?_
    rintro e w1 ⟨rfl, rfl⟩
    go_wp2_with fail
    go_ret2
    exact ⟨rfl, Below.refl _ _⟩
end Go.Proofs.YtjjejkhekmpgcaaGreat
