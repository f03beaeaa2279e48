/-
  Small lemmas on worlds: a store into one block, blocks of one cell, the frame of a call that makes memory of its own.
  Laws on slices that the call itself made: an append from whatever source, as a step of a walk and of a region; a slice of bytes as a string.
  Regions that draw their order, at the class of all worlds in which what was there is as it was: one walk of the lexical order serves every order, whatever memory the callees make; and the same with a tail in forced order.
  The frame of a law's proof, for every law of the seat: what was read before the call reads as it did behind it, where the call left alone what was there.
  A region that draws its order: one walk in a given order: what only reads (in every world that meets S) is taken first, what makes memory or calls comes up alone.
  A region that draws its order, walked once in a given order (see Mix); its last operations, which wait for all the others, need not keep what was read.
  A region that draws its order and makes variables whose addresses hang on the order: an invariant serves every order of the head; the tail comes in forced order.
  A region in the text's order, walked by the quiet walk.
  A region that draws its order, walked by a tree of orders: what only reads is taken first, what makes memory or calls comes up alone, or two ways.
  Texts in memory.
  Texts in memory; the reference's comparison of texts.
-/
import Derived.Test.YtjjejkhekmpgcaaGreatRows
import Derived.WalkKit
import Derived.WalkSpells
import Derived.WalkLawsBesides
import Derived.OneCell
import Derived.Lib.Hide
import Derived.Deep.AppendSrc
import Derived.Deep.RegionLaw
import Derived.Deep.QuietTactic
import Derived.BigQuiet
import Derived.Lib.ConvBytes
import Derived.StillTail
import Derived.ProofKit
import Derived.SizedLaws
import Derived.Deep.CondSized
import Derived.OpenShut
import Derived.ShutString
import Derived.Deep.RegionHeld3
import Derived.RegionTactic
namespace Go.Proofs.YtjjejkhekmpgcaaGreat
set_option maxRecDepth 4000
open Go.RowKit

theorem grownBy_refl (w : World) (row : Option Nat) : w.grownBy w row := ⟨rfl, rfl, rfl, Nat.le_refl _, fun _ _ _ => rfl⟩

theorem grownBy_setCell (w : World) (b off : Nat) (u : Value) : w.grownBy (w.setCell ⟨b, off, none⟩ u) (some b) :=
  ⟨rfl, rfl, rfl, by simp [World.setCell], fun _ _ hn => Below.heap_setCell _ _ _ _ (fun e => hn (by rw [e]))⟩

theorem grownBy_trans {a b c : World} {row : Option Nat} (h : a.grownBy b row) (k : b.grownBy c row) : a.grownBy c row :=
  ⟨k.os.trans h.os, k.tape.trans h.tape, k.output.trans h.output, Nat.le_trans h.size k.size,
    fun i hi hn => (k.block i (Nat.lt_of_lt_of_le hi h.size) hn).trans (h.block i hi hn)⟩

theorem grownBy_drew {a b : World} {row : Option Nat} (h : a.grownBy b row) : a.grownBy b.drew row :=
  ⟨h.os, h.tape, h.output, h.size, h.block⟩

theorem grownBy_of_below {a b : World} (h : Below a.heap.size a b) (row : Option Nat) : a.grownBy b row :=
  ⟨h.os, h.tape, h.output, h.size, fun i hi _ => h.block i hi⟩

theorem below_of_grownBy_none {a b : World} (h : a.grownBy b none) : Below a.heap.size a b :=
  ⟨h.os, h.tape, h.output, h.size, fun i hi => h.block i hi (by simp)⟩

theorem cell_set_same {w : World} {b off : Nat} {u v : Value} (h : w.cell? ⟨b, off, none⟩ = some u) : (w.setCell ⟨b, off, none⟩ v).cell? ⟨b, off, none⟩ = some v :=
  World.cell?_setCell_same' w ⟨b, off, none⟩ v (by rw [h]; rfl)
theorem cell_set_off {w : World} {b off i : Nat} {v : Value} (h : off ≠ i) : (w.setCell ⟨b, off, none⟩ v).cell? ⟨b, i, none⟩ = w.cell? ⟨b, i, none⟩ :=
  World.cell?_setCell_other _ _ _ _ (fun e => h (by injection e))
theorem cell_set_far {w : World} {b c off i : Nat} {v : Value} (h : b ≠ c) : (w.setCell ⟨b, off, none⟩ v).cell? ⟨c, i, none⟩ = w.cell? ⟨c, i, none⟩ :=
  World.cell?_of_block (Below.heap_setCell _ _ _ _ (fun e => h e.symm))

theorem heap_setCell_ne (w : World) (b k off : Nat) (u : Value) (h : k ≠ b) : (w.setCell ⟨b, off, none⟩ u).heap[k]? = w.heap[k]? :=
  Below.heap_setCell _ _ _ _ h

/-- a new block, past the old ones -/
theorem heap_alloc_top (w : World) (o : Obj) : (w.alloc o).heap[w.heap.size]? = some o := heap_alloc_new w o
theorem heap_alloc_lt (w : World) (o : Obj) (k : Nat) (h : k < w.heap.size) : (w.alloc o).heap[k]? = w.heap[k]? := Below.heap_alloc w o k h
theorem heap_drew (w : World) : w.drew.heap = w.heap := rfl
theorem heap_keep {w w' : World} {B k : Nat} {o : Obj} (h : Below B w w') (hk : k < B) (ho : w.heap[k]? = some o) : w'.heap[k]? = some o :=
  (h.block k hk).trans ho

/-- a contract of a call that makes memory of its own, told of an earlier world -/
theorem calls_in {P : Program} {f : Nat} {args : Array Value} {w w0 : World} {B : Nat} {Q : Ending → Prop} (h : Calls P f args w fun e w' => Q e ∧ Below w.heap.size w w') (hb : Below B w0 w) (hB : B ≤ w0.heap.size) :
    Calls P f args w fun e w' => Q e ∧ Below B w0 w' :=
  h.mono fun _ _ ⟨h1, h2⟩ => ⟨h1, hb.trans (h2.mono (Nat.le_trans hB hb.size))⟩

theorem ret_int {k : IntKind} {a b : Int} (h : a = b) : Ending.returned (.int k a) = .returned (.int k b) := by rw [h]
theorem ret_bool {a b : Bool} (h : a = b) : Ending.returned (.bool a) = .returned (.bool b) := by rw [h]
theorem ret_string {a b : ByteArray} (h : a = b) : Ending.returned (.string a) = .returned (.string b) := by rw [h]
end Go.Proofs.YtjjejkhekmpgcaaGreat

namespace Go.Proofs.YtjjejkhekmpgcaaGreat
set_option maxRecDepth 4000
open Go.RowKit

/-- bytes as cells -/
def bv (l : List UInt8) : List Value := l.map fun c => Value.int .u8 c.toNat

theorem bv_append (a b : List UInt8) : bv (a ++ b) = bv a ++ bv b := by simp [bv]
theorem bv_length (l : List UInt8) : (bv l).length = l.length := by simp [bv]
theorem bv_one (l : List UInt8) : ∀ u ∈ bv l, u.oneCell' = true := by
  intro u hu
  simp only [bv, List.mem_map] at hu
  obtain ⟨b, _, rfl⟩ := hu
  rfl
theorem byteCells_bv (s : ByteArray) : byteCells s = bv s.data.toList := rfl

section
variable {P : Program} (w : World)

theorem src_own {base e size : Nat} {tx e' : TypeId} (hk : P.underlying tx = some (.slice e')) {v : Value} {n : Nat} {xs : List Value} (hown : w.ownsRow base e size v n xs) (h1 : ∀ u ∈ xs, u.oneCell' = true) : Src P size tx v n xs w := by
  rcases hown.2 with ⟨rfl, rfl⟩ | ⟨g, cap, cur, rfl, _, _, _, _, _, _⟩
  · have hx : xs = [] := List.eq_nil_of_length_eq_zero (by simpa using hown.1)
    subst hx
    exact Src.ofNil w hk 0
  · exact Src.ofSlice w hk ⟨g, 0, none⟩ n cap xs hown.1 (hown.cells (g := g) rfl) h1

theorem src_bytes {tx : TypeId} (hk : P.underlying tx = some .string) (s : ByteArray) : Src P 1 tx (.string s) s.size (bv s.data.toList) w := Src.ofString w hk s

/-- one new cell, laid in a block of its own -/
theorem src_one {tx e' : TypeId} (hk : P.underlying tx = some (.slice e')) (u : Value) (t : TypeId) (h1 : u.oneCell' = true) (c : Nat) : Src P 1 tx (.slice (some ⟨w.heap.size, 0, none⟩) 1 c) 1 [u] (w.alloc (.cells #[u] t)) :=
  Src.ofSlice _ hk ⟨w.heap.size, 0, none⟩ 1 c [u] rfl (by
    intro j x hj
    match j, hj with
    | 0, hj => simp at hj; subst hj; simp [Addr.add]
    | j + 1, hj => simp at hj) (by intro x hx; simp at hx; subst hx; exact h1)

/-- one cell -/
theorem src_cell {tx e' : TypeId} (hk : P.underlying tx = some (.slice e')) (ad : Addr) (c : Nat) (u : Value) (h1 : u.oneCell' = true) (hc : w.cell? ad = some u) : Src P 1 tx (.slice (some ad) 1 c) 1 [u] w :=
  Src.ofSlice _ hk ad 1 c [u] rfl (by
    intro j x hj
    match j, hj with
    | 0, hj => simp at hj; subst hj; simpa [Addr.add] using hc
    | j + 1, hj => simp at hj) (by intro x hx; simp at hx; subst hx; exact h1)

theorem ownsRow_drew {w : World} {base e size n : Nat} {v : Value} {xs : List Value} (h : w.ownsRow base e size v n xs) : w.drew.ownsRow base e size v n xs := h

theorem append_own_src (base : Nat) (t tx ty e : TypeId) (i : TypeInfo) (z : Value) (size bytes : Nat) (ht : P.underlying t = some (.slice e)) (hi : P.info? e = some i) (hz : i.zero = some z)
    (hsize : i.size = size) (hby : i.bytes = bytes) (hzs : z.cells.size = size) (hsz : 0 < size)
    (v : Value) (n : Nat) (xs : List Value) (hown : w.ownsRow base e size v n xs)
    (x : Value) (m : Nat) (news : List Value) (hsrc : Src P size tx x m news w)
    (h63 : n + m ≤ maxLen) (hbytes : (n + m) * bytes ≤ 140737488355328) (hbase : base ≤ w.heap.size) :
    ∃ v' w', (Builtin.append_ #[t, tx] ty #[v, x]).run P w = .ok v' w' ∧ w'.ownsRow base e size v' (n + m) (xs ++ news) ∧ w.grownBy w' v.ownBlock ∧
      (v' = .slice none 0 0 ↔ v = .slice none 0 0 ∧ m = 0) ∧ (v'.ownBlock = v.ownBlock ∨ ∀ k, v'.ownBlock = some k → w.heap.size ≤ k) := by
  subst hsize
  subst hby
  have hl := hsrc.newsLen
  have hsmall : n + m ≤ 9223372036854775807 := by simp only [maxLen] at h63; omega
  have hlen : (xs ++ news).length = (n + m) * i.size := by rw [List.length_append, hown.1, hl, Nat.add_mul]
  have grown : ∀ (old : Nat), old < n + m → ∀ (row : Option Nat),
      (w.drew.alloc (.cells ((xs ++ news).toArray ++ Builtin.zeroCells z.cells (grownCap w (n + m) old e - (n + m))) e)).ownsRow base e i.size
        (.slice (some ⟨w.heap.size, 0, none⟩) (n + m) (grownCap w (n + m) old e)) (n + m) (xs ++ news) ∧
      w.grownBy (w.drew.alloc (.cells ((xs ++ news).toArray ++ Builtin.zeroCells z.cells (grownCap w (n + m) old e - (n + m))) e)) row := by
    intro old ho row
    have hge := grownCap_ge w (n + m) old e
    have hcm : grownCap w (n + m) old e ≤ maxLen := grownCap_le_maxLen w (n + m) old e h63
    refine ⟨⟨hlen, .inr ⟨w.heap.size, _, _, rfl, hbase, heap_alloc_new w.drew _, hge, hcm, ?_, ?_⟩⟩, ⟨rfl, rfl, rfl, by simp, fun k hk _ => Below.heap_alloc w.drew _ k hk⟩⟩
    · simp only [Array.size_append, List.size_toArray, size_zeroCells, hzs, hlen, ← Nat.add_mul]
      congr 1
      omega
    · simp only [Array.toList_append]
      rw [← hlen]
      exact List.take_left
  rcases hown.2 with ⟨rfl, rfl⟩ | ⟨g, cap, cur, rfl, hbg, hg, hnc, hcm, hcs, htake⟩
  · have hx : xs = [] := List.eq_nil_of_length_eq_zero (by simpa using hown.1)
    subst hx
    by_cases hm : m = 0
    · subst hm
      have hn : news = [] := List.eq_nil_of_length_eq_zero (by simpa using hl)
      subst hn
      refine ⟨.slice none 0 0, w, ?_, World.ownsRow_nil w base e i.size, ⟨rfl, rfl, rfl, Nat.le_refl _, fun _ _ _ => rfl⟩, by simp, .inl rfl⟩
      have hc := hsrc.cells
      rcases hsrc.kind with ⟨e', hk⟩ | hk <;> simp [Builtin.append_, run_underlying ht, run_underlying hk, sizeOf, typeInfo, hi, hsrc.len, hc]
    · have hr := run_append_grow_src (P := P) w t tx ty e i z ht hi hz none 0 0 [] (run_firstCells_none w.drew i.size 0 0 0) x m news hsrc (by omega) (by omega) (growslice_fits (by omega) hbytes)
      have hgr := grown 0 (by omega) (Value.ownBlock (.slice none 0 0))
      exact ⟨_, _, hr, hgr.1, hgr.2, by simp [hm], .inr fun k hk => by cases hk; exact Nat.le_refl _⟩
  · by_cases hroom : n + m ≤ cap
    · have hfit : n * i.size + news.length ≤ cur.size := by rw [hl, hcs, ← Nat.add_mul]; exact Nat.mul_le_mul_right _ hroom
      have hst := run_storeCells_at P g (n * i.size) e news 0 cur w hg (by simpa using hfit) hsrc.one
      simp only [Nat.add_zero] at hst
      have hr : (Builtin.append_ #[t, tx] ty #[.slice (some ⟨g, 0, none⟩) n cap, x]).run P w =
          .ok (.slice (some ⟨g, 0, none⟩) (n + m) cap) (w.setRow g (cur.toList.take (n * i.size) ++ news ++ cur.toList.drop (n * i.size + news.length)).toArray) := by
        rcases hsrc.kind with ⟨e', hk⟩ | hk <;> simp [Builtin.append_, run_underlying ht, run_underlying hk, sizeOf, typeInfo, hi, hsrc.len, hroom, hsrc.cells, Addr.add_lit, hst]
      refine ⟨_, _, hr, ⟨hlen, .inr ⟨g, cap, _, rfl, hbg, setRow_heap w g cur _ e _ hg, hroom, hcm, ?_, ?_⟩⟩, ⟨rfl, rfl, rfl, by simp, fun k _ hk => setRow_other w g k _ (fun e => hk (by simp [Value.ownBlock, e]))⟩, by simp, .inl rfl⟩
      · simp only [List.size_toArray, List.length_append, List.length_take, List.length_drop, Array.length_toList]
        omega
      · rw [htake, ← hlen]
        exact List.take_left
    · have holds : ∀ j u, xs[j]? = some u → w.cell? ((⟨g, 0, none⟩ : Addr).add j) = some u := hown.cells (g := g) rfl
      have hr := run_append_grow_src (P := P) w t tx ty e i z ht hi hz (some ⟨g, 0, none⟩) n cap xs (run_firstCells_some w.drew i.size n ⟨g, 0, none⟩ n cap xs hown.1 (by simpa using holds)) x m news hsrc (by omega) (by omega) (growslice_fits (by omega) hbytes)
      have hgr := grown cap (by omega) (Value.ownBlock (.slice (some ⟨g, 0, none⟩) n cap))
      exact ⟨_, _, hr, hgr.1, hgr.2, by simp, .inr fun k hk => by cases hk; exact Nat.le_refl _⟩

theorem wp_append_src {o : Oper} {a : Act} {K : Act → World → Prop} {Q : Exit → Act → World → Prop} (s x : Operand) (t tx : TypeId)
    (ho : o.op = .call { callee := .builtin .append, args := #[s, x], argTypes := #[t, tx] })
    (base : Nat) (e : TypeId) (i : TypeInfo) (z : Value) (size bytes : Nat) (ht : P.underlying t = some (.slice e)) (hi : P.info? e = some i) (hz : i.zero = some z)
    (hsize : i.size = size) (hby : i.bytes = bytes) (hzs : z.cells.size = size) (hsz : 0 < size)
    (v : Value) (n : Nat) (xs : List Value) (hs : a.eval s = v) (hown : w.ownsRow base e size v n xs)
    (xv : Value) (m : Nat) (news : List Value) (hx : a.eval x = xv) (hsrc : Src P size tx xv m news w)
    (h63 : n + m ≤ maxLen) (hbytes : (n + m) * bytes ≤ 140737488355328) (hbase : base ≤ w.heap.size)
    (h : ∀ v' w', w'.ownsRow base e size v' (n + m) (xs ++ news) → w.grownBy w' v.ownBlock → K (a.put o.dst v') w') : o.wp P a w K Q := by
  obtain ⟨v', w', hr, h2, h3, _⟩ := append_own_src (P := P) w base t tx o.type e i z size bytes ht hi hz hsize hby hzs hsz v n xs hown xv m news hsrc h63 hbytes hbase
  unfold Oper.wp execOp
  simp only [ho, resolve, invoke, builtin, Sem.run_bind, Sem.run_pure, Result.andThen_ok, List.map_toArray, List.map_cons, List.map_nil, hs, hx, hr]
  exact h v' w' h2 h3

theorem wpList_append_src {ops : Array Oper} {rest : List Oper} {o : Oper} {a : Act} {Q : Exit → Act → World → Prop} (hgd : o.guard = none) (s x : Operand) (t tx : TypeId)
    (ho : o.op = .call { callee := .builtin .append, args := #[s, x], argTypes := #[t, tx] })
    (base : Nat) (e : TypeId) (i : TypeInfo) (z : Value) (size bytes : Nat) (ht : P.underlying t = some (.slice e)) (hi : P.info? e = some i) (hz : i.zero = some z)
    (hsize : i.size = size) (hby : i.bytes = bytes) (hzs : z.cells.size = size) (hsz : 0 < size)
    (v : Value) (n : Nat) (xs : List Value) (hs : a.eval s = v) (hown : w.ownsRow base e size v n xs)
    (xv : Value) (m : Nat) (news : List Value) (hx : a.eval x = xv) (hsrc : Src P size tx xv m news w)
    (h63 : n + m ≤ maxLen) (hbytes : (n + m) * bytes ≤ 140737488355328) (hbase : base ≤ w.heap.size)
    (h : ∀ v' w', w'.ownsRow base e size v' (n + m) (xs ++ news) → w.grownBy w' v.ownBlock → wpList P ops Q rest (a.put o.dst v') w') : wpList P ops Q (o :: rest) a w :=
  wpList_plain hgd fun _ hK => wp_append_src w s x t tx ho base e i z size bytes ht hi hz hsize hby hzs hsz v n xs hs hown xv m news hx hsrc h63 hbytes hbase fun v' w' h2 h3 => hK _ _ (h v' w' h2 h3)

/-- the same; with the place of what comes out: where it was, or in new memory -/
theorem wp_append_at {o : Oper} {a : Act} {K : Act → World → Prop} {Q : Exit → Act → World → Prop} (s x : Operand) (t tx : TypeId)
    (ho : o.op = .call { callee := .builtin .append, args := #[s, x], argTypes := #[t, tx] })
    (base : Nat) (e : TypeId) (i : TypeInfo) (z : Value) (size bytes : Nat) (ht : P.underlying t = some (.slice e)) (hi : P.info? e = some i) (hz : i.zero = some z)
    (hsize : i.size = size) (hby : i.bytes = bytes) (hzs : z.cells.size = size) (hsz : 0 < size)
    (v : Value) (n : Nat) (xs : List Value) (hs : a.eval s = v) (hown : w.ownsRow base e size v n xs)
    (xv : Value) (m : Nat) (news : List Value) (hx : a.eval x = xv) (hsrc : Src P size tx xv m news w)
    (h63 : n + m ≤ maxLen) (hbytes : (n + m) * bytes ≤ 140737488355328) (hbase : base ≤ w.heap.size)
    (h : ∀ v' w', w'.ownsRow base e size v' (n + m) (xs ++ news) → w.grownBy w' v.ownBlock → (v'.ownBlock = v.ownBlock ∨ ∀ k, v'.ownBlock = some k → w.heap.size ≤ k) → K (a.put o.dst v') w') : o.wp P a w K Q := by
  obtain ⟨v', w', hr, h2, h3, _, h4⟩ := append_own_src (P := P) w base t tx o.type e i z size bytes ht hi hz hsize hby hzs hsz v n xs hown xv m news hsrc h63 hbytes hbase
  unfold Oper.wp execOp
  simp only [ho, resolve, invoke, builtin, Sem.run_bind, Sem.run_pure, Result.andThen_ok, List.map_toArray, List.map_cons, List.map_nil, hs, hx, hr]
  exact h v' w' h2 h3 h4

theorem wpList_append_at {ops : Array Oper} {rest : List Oper} {o : Oper} {a : Act} {Q : Exit → Act → World → Prop} (hgd : o.guard = none) (s x : Operand) (t tx : TypeId)
    (ho : o.op = .call { callee := .builtin .append, args := #[s, x], argTypes := #[t, tx] })
    (base : Nat) (e : TypeId) (i : TypeInfo) (z : Value) (size bytes : Nat) (ht : P.underlying t = some (.slice e)) (hi : P.info? e = some i) (hz : i.zero = some z)
    (hsize : i.size = size) (hby : i.bytes = bytes) (hzs : z.cells.size = size) (hsz : 0 < size)
    (v : Value) (n : Nat) (xs : List Value) (hs : a.eval s = v) (hown : w.ownsRow base e size v n xs)
    (xv : Value) (m : Nat) (news : List Value) (hx : a.eval x = xv) (hsrc : Src P size tx xv m news w)
    (h63 : n + m ≤ maxLen) (hbytes : (n + m) * bytes ≤ 140737488355328) (hbase : base ≤ w.heap.size)
    (h : ∀ v' w', w'.ownsRow base e size v' (n + m) (xs ++ news) → w.grownBy w' v.ownBlock → (v'.ownBlock = v.ownBlock ∨ ∀ k, v'.ownBlock = some k → w.heap.size ≤ k) → wpList P ops Q rest (a.put o.dst v') w') : wpList P ops Q (o :: rest) a w :=
  wpList_plain hgd fun _ hK => wp_append_at w s x t tx ho base e i z size bytes ht hi hz hsize hby hzs hsz v n xs hs hown xv m news hx hsrc h63 hbytes hbase fun v' w' h2 h3 h4 => hK _ _ (h v' w' h2 h3 h4)

/-- the same as a step of a region that draws its order -/
theorem step_append_src {ops : Array Oper} {o : Oper} {a : Act} {K : Act → World → Prop} {Q : Exit → Act → World → Prop} {E : Prop} (hgd : o.guard = none) (s x : Operand) (t tx : TypeId)
    (ho : o.op = .call { callee := .builtin .append, args := #[s, x], argTypes := #[t, tx] })
    (base : Nat) (e : TypeId) (i : TypeInfo) (z : Value) (size bytes : Nat) (ht : P.underlying t = some (.slice e)) (hi : P.info? e = some i) (hz : i.zero = some z)
    (hsize : i.size = size) (hby : i.bytes = bytes) (hzs : z.cells.size = size) (hsz : 0 < size)
    (v : Value) (n : Nat) (xs : List Value) (hs : a.eval s = v) (hown : w.ownsRow base e size v n xs)
    (xv : Value) (m : Nat) (news : List Value) (hx : a.eval x = xv) (hsrc : Src P size tx xv m news w)
    (h63 : n + m ≤ maxLen) (hbytes : (n + m) * bytes ≤ 140737488355328) (hbase : base ≤ w.heap.size)
    (h : ∀ v' w', w'.ownsRow base e size v' (n + m) (xs ++ news) → w.grownBy w' v.ownBlock → K (a.put o.dst v') w') :
    if Region.wanted o (yielded ops a.tmps) = true then Oper.wp P o a w K Q else E := by
  have hw : Region.wanted o (yielded ops a.tmps) = true := by simp [Region.wanted, hgd]
  rw [if_pos hw]
  exact wp_append_src w s x t tx ho base e i z size bytes ht hi hz hsize hby hzs hsz v n xs hs hown xv m news hx hsrc h63 hbytes hbase h

/-- a slice of bytes of the call's own, as a string -/
theorem run_string_own (src e : TypeId) (hs : P.underlying src = some (.slice e)) (he : P.underlying e = some (.int .u8)) (base : Nat) (v : Value) (n : Nat) (l : List UInt8) (hown : w.ownsRow base e 1 v n (bv l)) :
    ∀ dst, P.underlying dst = some .string → (convert src dst v).run P w = .ok (.string ⟨l.toArray⟩) w := by
  intro dst hd
  rcases hown.2 with ⟨rfl, rfl⟩ | ⟨g, cap, cur, rfl, hbg, hg, hnc, hcm, hcs, htake⟩
  · have hx : l = [] := List.eq_nil_of_length_eq_zero (by simpa [bv_length] using hown.1)
    subst hx
    exact run_convert_bytes_nil w src e hs he 0 0 dst hd
  · have hn : l.length = n := by simpa [bv_length] using hown.1
    have h := run_convert_bytes_arg (P := P) w src e hs he g 0 n cap (l.map fun x => (x.toNat : Int)) (by simpa using hn) (fun i hi => by
      have h2 := hown.cells (g := g) rfl i (.int .u8 ((l.map fun x => (x.toNat : Int)).getD i 0)) (by simp [bv, List.getElem?_eq_getElem (show i < l.length by omega)])
      have e1 : (⟨g, 0, none⟩ : Addr).add i = ⟨g, 0 + i, none⟩ := by unfold Addr.add; split <;> simp_all
      rw [e1] at h2
      exact h2) dst hd
    rw [h]
    congr 2
    apply ByteArray.ext
    apply Array.toList_inj.1
    rw [strOfNums_data, List.map_map]
    show _ = l
    conv => rhs; rw [← List.map_id l]
    apply List.map_congr_left
    intro x _
    simp

theorem wpList_string_own {ops : Array Oper} {rest : List Oper} {o : Oper} {a : Act} {Q : Exit → Act → World → Prop} (hgd : o.guard = none) (s : Operand) (src dst : TypeId)
    (ho : o.op = .convert src dst s) (e : TypeId) (hs : P.underlying src = some (.slice e)) (he : P.underlying e = some (.int .u8)) (hd : P.underlying dst = some .string)
    (base : Nat) (v : Value) (n : Nat) (l : List UInt8) (hv : a.eval s = v) (hown : w.ownsRow base e 1 v n (bv l))
    (h : wpList P ops Q rest (a.put o.dst (.string ⟨l.toArray⟩)) w) : wpList P ops Q (o :: rest) a w := by
  refine wpList_plain hgd fun K hK => ?_
  have hr := run_string_own (P := P) w src e hs he base v n l hown dst hd
  unfold Oper.wp execOp
  simp only [ho, Sem.run_bind, Sem.run_pure, Result.andThen_ok, hv, hr]
  exact hK _ _ h

/-- a row that was laid written out -/
theorem ownsRow_lit (base : Nat) (e : TypeId) (cur : Array Value) (n : Nat) (hb : base ≤ w.heap.size) (hn : cur.size = n) (hm : n ≤ maxLen) :
    (w.alloc (.cells cur e)).ownsRow base e 1 (.slice (some ⟨w.heap.size, 0, none⟩) n n) n cur.toList := by
  subst hn
  refine ⟨by simp, .inr ⟨w.heap.size, cur.size, cur, rfl, hb, heap_alloc_new w _, Nat.le_refl _, hm, by simp, by simp [List.take_of_length_le]⟩⟩
end
end Go.Proofs.YtjjejkhekmpgcaaGreat

namespace Go.Proofs.YtjjejkhekmpgcaaGreat
set_option maxRecDepth 4000
open Go.RowKit

/-- the worlds in which what lay below B is as it was in W -/
def Sub (B : Nat) (W : World) : Type := { w : World // Below B W w }
instance (B : Nat) (W : World) : Nonempty (Sub B W) := ⟨⟨W, Below.refl B W⟩⟩
/-- the class of these worlds -/
def inSub (B : Nat) (W : World) (w : World) : Prop := ∃ x : Sub B W, w = x.val
theorem inSub_of {B : Nat} {W w : World} (h : Below B W w) : inSub B W w := ⟨⟨w, h⟩, rfl⟩
theorem Sub.below {B : Nat} {W : World} (x : Sub B W) : Below B W x.val := x.property

theorem sub_cell {B : Nat} {W : World} {a : Addr} {v : Value} (h : W.cell? a = some v) (hB : a.block < B) (x : Sub B W) : x.val.cell? a = some v :=
  (x.below.cell hB).trans h
theorem sub_heap {B : Nat} {W : World} {k : Nat} {o : Obj} (h : W.heap[k]? = some o) (hB : k < B) (x : Sub B W) : x.val.heap[k]? = some o :=
  (x.below.block k hB).trans h

/-- a callee's contract within the class -/
theorem calls_sub {P : Program} {f : FuncId} {args : Array Value} {B : Nat} {W : World} {v : Value} (x : Sub B W)
    (h : Calls P f args x.val fun e w' => e = .returned v ∧ Below x.val.heap.size x.val w') (hB : B ≤ W.heap.size) :
    Calls P f args x.val fun e w'' => e = .returned v ∧ ∃ y : Sub B W, w'' = y.val :=
  h.mono fun _ _ ⟨he, hb⟩ => ⟨he, ⟨⟨_, x.below.trans (hb.mono (Nat.le_trans hB x.below.size))⟩, rfl⟩⟩

section
variable {P : Program} {ops : Array Oper} {md : Region.Mode} {C : World → Prop}

theorem quiet_load_row {o : Oper} {a : Act} {K : Act → Prop} (ty : TypeId) (x : Operand) (ho : o.op = .load ty x)
    (g : Nat) (hx : a.eval x = .pointer (some ⟨g, 0, none⟩)) (t : TypeId) (cs : Array Value) (fr : Nat × Nat) (d : TypeDesc) (hg : ∀ w, C w → w.heap[g]? = some (.cells cs t fr))
    (hu : P.underlying ty = some d) (hd : (match d with | .struct _ | .array _ _ => true | _ => false) = true) (hi : (P.info? ty).map (·.size) = some cs.size)
    (h : K (a.put o.dst (.agg cs))) : o.quiet P a C K := by
  refine ⟨.agg cs, fun w hw => ?_, h⟩
  unfold Oper.quietAt execOp
  simp only [ho, hx, Instr.loadAt, Instr.sureAddr, Sem.run_bind, Sem.run_pure, Result.andThen_ok, run_loadVar_row w g t ty cs fr d (hg w hw) hu hd hi]
  exact ⟨rfl, rfl⟩

theorem wpQuiet_load_row {Q : Act → Prop} {o : Oper} {rest : List Oper} {a : Act} (ty : TypeId) (x : Operand) (ho : o.op = .load ty x)
    (g : Nat) (hx : a.eval x = .pointer (some ⟨g, 0, none⟩)) (hw : Region.wanted o (yielded ops a.tmps) = true) (t : TypeId) (cs : Array Value) (fr : Nat × Nat) (d : TypeDesc) (hg : ∀ w, C w → w.heap[g]? = some (.cells cs t fr))
    (hu : P.underlying ty = some d) (hd : (match d with | .struct _ | .array _ _ => true | _ => false) = true) (hi : (P.info? ty).map (·.size) = some cs.size)
    (h : wpQuiet P ops C Q rest (a.put o.dst (.agg cs))) : wpQuiet P ops C Q (o :: rest) a :=
  wpQuiet_step fun K hK => by rw [if_pos hw]; exact quiet_load_row ty x ho g hx t cs fr d hg hu hd hi (hK _ h)

theorem wpQuiet_run {Q : Act → Prop} {o : Oper} {rest : List Oper} {a : Act} (hw : Region.wanted o (yielded ops a.tmps) = true) (v : Value)
    (hr : ∀ w, C w → (execOp a.eval o).run P w = .ok (.value v) w) (h : wpQuiet P ops C Q rest (a.put o.dst v)) : wpQuiet P ops C Q (o :: rest) a :=
  wpQuiet_step fun K hK => by
    rw [if_pos hw]
    refine ⟨v, fun w hw' => ?_, hK _ h⟩
    unfold Oper.quietAt
    rw [hr w hw']
    exact ⟨rfl, rfl⟩

theorem wpList_want {Q : Exit → Act → World → Prop} {o : Oper} {rest : List Oper} {a : Act} {w : World} (hw : Region.wanted o (yielded ops a.tmps) = true)
    (h : ∀ K : Act → World → Prop, (∀ a w, wpList P ops Q rest a w → K a w) → o.wp P a w K Q) : wpList P ops Q (o :: rest) a w :=
  wpList_step fun K hK => by rw [if_pos hw]; exact h K hK

/-- a whole row is loaded, guarded or not -/
theorem wpList_row {Q : Exit → Act → World → Prop} {o : Oper} {rest : List Oper} {a : Act} {w : World} (ty : TypeId) (x : Operand) (ho : o.op = .load ty x)
    (g : Nat) (hx : a.eval x = .pointer (some ⟨g, 0, none⟩)) (hw : Region.wanted o (yielded ops a.tmps) = true) (t : TypeId) (cs : Array Value) (fr : Nat × Nat) (d : TypeDesc) (hg : w.heap[g]? = some (.cells cs t fr))
    (hu : P.underlying ty = some d) (hd : (match d with | .struct _ | .array _ _ => true | _ => false) = true) (hi : (P.info? ty).map (·.size) = some cs.size)
    (h : wpList P ops Q rest (a.put o.dst (.agg cs)) w) : wpList P ops Q (o :: rest) a w :=
  wpList_want hw fun _ hK => wp_load_row ty x ho g hx t cs fr d hg hu hd hi (hK _ _ h)

/-- an aggregate in the midst of a row -/
theorem run_load_cells (w : World) (b off : Nat) (ty : TypeId) (cs : List Value) (d : TypeDesc) (hc : ∀ j u, cs[j]? = some u → w.cell? ⟨b, off + j, none⟩ = some u)
    (hu : P.underlying ty = some d) (hd : (match d with | .struct _ | .array _ _ => true | _ => false) = true) (hi : (P.info? ty).map (·.size) = some cs.length) :
    (loadVar ty ⟨b, off, none⟩).run P w = .ok (.agg cs.toArray) w := by
  have hl : (loadCells ⟨b, off, none⟩ cs.length).run P w = .ok cs.toArray w :=
    run_loadCells_list (P := P) w ⟨b, off, none⟩ cs (fun j v hv => by
      have hadd : (⟨b, off, none⟩ : Addr).add j = ⟨b, off + j, none⟩ := by unfold Addr.add; split <;> simp_all
      rw [hadd]
      exact hc j v hv)
  cases hq : P.info? ty with
  | none => simp [hq] at hi
  | some i =>
    have hs : i.size = cs.length := by simpa [hq] using hi
    have hagg : (isAgg ty).run P w = .ok true w := by
      unfold isAgg
      rw [Sem.run_bind, run_underlying hu w]
      cases d <;> simp_all
    simp [loadVar, Sem.run_bind, hagg, sizeOf, typeInfo, hq, hs, hl]

theorem wpList_cells {Q : Exit → Act → World → Prop} {o : Oper} {rest : List Oper} {a : Act} {w : World} (ty : TypeId) (x : Operand) (ho : o.op = .load ty x)
    (b off : Nat) (hx : a.eval x = .pointer (some ⟨b, off, none⟩)) (hw : Region.wanted o (yielded ops a.tmps) = true) (cs : List Value) (d : TypeDesc) (hc : ∀ j u, cs[j]? = some u → w.cell? ⟨b, off + j, none⟩ = some u)
    (hu : P.underlying ty = some d) (hd : (match d with | .struct _ | .array _ _ => true | _ => false) = true) (hi : (P.info? ty).map (·.size) = some cs.length)
    (h : wpList P ops Q rest (a.put o.dst (.agg cs.toArray)) w) : wpList P ops Q (o :: rest) a w :=
  wpList_want hw fun _ hK => by
    unfold Oper.wp execOp
    simp only [ho, hx, Instr.loadAt, Instr.sureAddr, Sem.run_bind, Sem.run_pure, Result.andThen_ok, run_load_cells w b off ty cs d hc hu hd hi]
    exact hK _ _ h

theorem wpQuiet_cells {Q : Act → Prop} {o : Oper} {rest : List Oper} {a : Act} (ty : TypeId) (x : Operand) (ho : o.op = .load ty x)
    (b off : Nat) (hx : a.eval x = .pointer (some ⟨b, off, none⟩)) (hw : Region.wanted o (yielded ops a.tmps) = true) (cs : List Value) (d : TypeDesc) (hc : ∀ w, C w → ∀ j u, cs[j]? = some u → w.cell? ⟨b, off + j, none⟩ = some u)
    (hu : P.underlying ty = some d) (hd : (match d with | .struct _ | .array _ _ => true | _ => false) = true) (hi : (P.info? ty).map (·.size) = some cs.length)
    (h : wpQuiet P ops C Q rest (a.put o.dst (.agg cs.toArray))) : wpQuiet P ops C Q (o :: rest) a :=
  wpQuiet_step fun K hK => by
    rw [if_pos hw]
    refine ⟨.agg cs.toArray, fun w hw' => ?_, hK _ h⟩
    unfold Oper.quietAt execOp
    simp only [ho, hx, Instr.loadAt, Instr.sureAddr, Sem.run_bind, Sem.run_pure, Result.andThen_ok, run_load_cells w b off ty cs d (hc w hw') hu hd hi]
    exact ⟨rfl, rfl⟩

/-- Whatever order is picked among the head's operations. -/
def wpAnyH (P : Program) (md : Region.Mode) (ops : Array Oper) (C : World → Prop) (n : Nat) (L : Array Bool → Act → Prop) : Nat → Array Bool → Act → Prop
  | 0, listed, a => L listed a
  | f + 1, listed, a =>
    Region.ready md ops listed ≠ [] ∧ ∀ i ∈ Region.ready md ops listed, i < n ∧ qOp P ops C i (wpAnyH P md ops C n L f (listed.setIfInBounds i true)) a

theorem wpAny_of_headQ {n g : Nat} {L : Array Bool → Act → Prop} {Q' : Exit → Act → World → Prop} (hL : ∀ listed a w, C w → L listed a → wpAny P md ops Q' g listed a w) :
    ∀ (f : Nat) (listed : Array Bool) (a : Act) (w : World), C w → wpAnyH P md ops C n L f listed a → wpAny P md ops Q' (f + g) listed a w
  | 0, listed, a, w, hw, h => by rw [Nat.zero_add]; exact hL _ _ _ hw h
  | f + 1, listed, a, w, hw, h => by
    rw [show f + 1 + g = (f + g) + 1 by omega]
    exact ⟨fun h0 => absurd h0 h.1, fun i hi => wpOp_of_qOp hw (fun a' w' hw' h' => wpAny_of_headQ hL f _ a' w' hw' h') (h.2 i hi).2⟩

theorem wpAnyH_first {n i : Nat} {oi : Oper} {v : Value} {L : Array Bool → Act → Prop} (hi : ops[i]? = some oi) (hsel : ∀ (j : Nat) (o : Oper) cs b, ops[j]? = some o → o.op ≠ .select cs b)
    (hs : Region.sinkB md ops n = true) (hc : Region.chainB md ops n = true) (hn : n < ops.size) (hin : i < n)
    (hdone : ∀ listed a, L listed a → ∀ j ∈ Region.ready md ops listed, n ≤ j) :
    ∀ (f : Nat) (listed : Array Bool) (a : Act), HeadInv md ops n listed →
      (∀ j oj, ops[j]? = some oj → j ≠ i → listed.getD j true = false → (∀ e ∈ oj.after, Region.binds md e = true → e.on ≠ i) → oi.apart ops oj = true) →
      i ∈ Region.ready md ops listed → YieldsIn P ops C oi v a →
      wpAnyH P md ops C n L f (listed.setIfInBounds i true) (a.put oi.dst v) → wpAnyH P md ops C n L (f + 1) listed a := by
  intro f
  induction f with
  | zero =>
    intro listed a inv _ hr hy H
    have hun := (mem_ready.1 hr).1
    refine ⟨fun h => (by rw [h] at hr; cases hr), fun j hj => ?_⟩
    have hjn : j < n := by
      rcases Nat.lt_or_ge j n with h | h
      · exact h
      · exact absurd hj (tail_waits hs hc hn inv _ i rfl hin hun j h)
    refine ⟨hjn, ?_⟩
    by_cases hji : j = i
    · subst hji; exact hy.qOp hi H
    · have := hdone _ _ H j (ready_mono hj hji)
      omega
  | succ f ih =>
    intro listed a inv hfree hr hy H
    have hun := (mem_ready.1 hr).1
    refine ⟨fun h => (by rw [h] at hr; cases hr), fun j hj => ?_⟩
    have hjn : j < n := by
      rcases Nat.lt_or_ge j n with h | h
      · exact h
      · exact absurd hj (tail_waits hs hc hn inv _ i rfl hin hun j h)
    refine ⟨hjn, ?_⟩
    by_cases hji : j = i
    · subst hji; exact hy.qOp hi H
    · have h1 := (H.2 j (ready_mono hj hji)).2
      obtain ⟨hjun, oj, hoj, hall⟩ := mem_ready.1 hj
      have hnot : ∀ e ∈ oj.after, Region.binds md e = true → e.on ≠ i := fun e he hb heq => by
        have h1 := hall e he hb
        rw [heq, getD_both hun] at h1
        cases h1
      have h2 := qOp_put hoj (hfree j oj hoj hji hjun hnot) (fun cs b => hsel i oi cs b hi) (fun cs b => hsel j oj cs b hoj) hy h1
      have hfree' : ∀ k ok, ops[k]? = some ok → k ≠ i → (listed.setIfInBounds j true).getD k true = false →
          (∀ e ∈ ok.after, Region.binds md e = true → e.on ≠ i) → oi.apart ops ok = true := fun k ok hk hki hun hno => by
        refine hfree k ok hk hki ?_ hno
        by_cases hjk : j = k
        · subst hjk; exact hjun
        · rw [getD_set_ne true hjk] at hun; exact hun
      refine qOp_mono (fun a' h3 => ih (listed.setIfInBounds j true) a' (inv.set hj hjn) hfree' (ready_mono hr (Ne.symm hji)) h3.1 ?_) h2
      rw [Array.setIfInBounds_comm _ _ hji]
      exact h3.2

theorem wpAnyH_lex {n g : Nat} {Lq : Act → Prop} (hsel : Region.noSelect ops = true) (hs : Region.sinkB md ops n = true) (hc : Region.chainB md ops n = true) (hn : n < ops.size) :
    ∀ (l : List Oper) (k : Nat) (listed : Array Bool) (a : Act), (∀ j, j < l.length → l[j]? = ops[k + j]?) → k + l.length = n → HeadInv md ops n listed →
    Region.lexHead md ops g l.length k listed = true → wpQuiet P ops C Lq l a →
    wpAnyH P md ops C n (fun listed' a' => Region.seqB md ops g n listed' = true ∧ Lq a') l.length listed a
  | [], k, listed, a, _, hk, _, hB, h => by
    have : k = n := by simpa using hk
    subst this
    exact ⟨by simpa [Region.lexHead] using hB, h⟩
  | o :: l, k, listed, a, hl, hk, inv, hB, h => by
    have h0 : ops[k]? = some o := by simpa using (hl 0 (by simp)).symm
    simp only [List.length_cons, Region.lexHead, Bool.and_eq_true] at hB
    obtain ⟨⟨hr, hf⟩, hB'⟩ := hB
    have hkn : k < n := by simp only [List.length_cons] at hk; omega
    have hr' : k ∈ Region.ready md ops listed := by simpa using hr
    have hst : qOp P ops C k (wpQuiet P ops C Lq l) a := by unfold qOp; simp only [h0]; exact h
    obtain ⟨v, hy, hK⟩ := yieldsIn_of_qOp h0 hst
    exact wpAnyH_first h0 (Region.noSelect_spec hsel) hs hc hn hkn (fun listed' a' hL => seqB_ready hL.1) l.length listed a inv (Region.free_spec h0 hf) hr' hy
      (wpAnyH_lex hsel hs hc hn l (k + 1) _ _ (fun j hj => by have := hl (j + 1) (by simp; omega); simpa [Nat.add_assoc, Nat.add_comm 1 j] using this) (by simp only [List.length_cons] at hk; omega) (inv.set hr' hkn) hB' hK)

/-- A region whose head is quiet in a class and whose tail comes in forced order. -/
theorem wp_region_quiet_tail {id : Nat} {Q : Exit → Act → World → Prop} {a : Act} {w : World} {l : List Oper} (n : Nat) (hm : P.follows .mixedOrders = true) (hB : Region.lexTailB .any l.toArray n = true)
    (hC : C { w with drawn := w.drawn + 1 })
    (h : wpQuiet P l.toArray C (fun a' => ∀ w', C w' → wpList P l.toArray Q (l.drop n) a' w') (l.take n) a) : (Code.region id l.toArray true).wp P Q a w := by
  simp only [Region.lexTailB, Bool.and_eq_true, decide_eq_true_eq] at hB
  obtain ⟨⟨⟨⟨hsel, hn⟩, hs⟩, hc⟩, hlex⟩ := hB
  have hn' : n < l.length := by simpa using hn
  have htl : (l.take n).length = n := by simp; omega
  have hdl : (l.drop n).length = l.toArray.size - n := by simp
  have inv0 : HeadInv .any l.toArray n (Array.replicate l.toArray.size false) :=
    ⟨by simp, fun j oj _ hl => (by rw [getD_replicate_false] at hl; cases hl), fun t _ ht => getD_in (by simpa using ht) (getD_replicate_false _ _)⟩
  have H := wpAnyH_lex (C := C) (md := .any) (g := l.toArray.size - n) hsel hs hc hn (l.take n) 0 _ a (fun j hj => by
    have hj' : j < n := by rw [htl] at hj; exact hj
    simp [hj']) (by simpa using htl) inv0 (by rw [htl]; exact hlex) h
  refine wp_region_any hm ?_
  have := wpAny_of_headQ (Q' := Q) (g := l.toArray.size - n) (fun listed a' w' hw' hL => by
    have := wpAny_of_seq (md := .any) (Q' := Q) (l.drop n) n listed a' w' (fun j => by simp [List.getElem?_drop]) (by rw [hdl]; exact hL.1) (hL.2 w' hw')
    rwa [hdl] at this) _ _ _ _ hC H
  rw [htl, show n + (l.toArray.size - n) = l.toArray.size by omega] at this
  exact this

/-- The whole region is quiet in the class. -/
theorem wp_region_sub {id : Nat} {Q : Exit → Act → World → Prop} {a : Act} {w W : World} {B : Nat} {l : List Oper} (hm : P.follows .mixedOrders = true) (hB : Region.lexB .any l.toArray = true) (hC : Below B W w)
    (h : wpQuiet P l.toArray (fun w' => ∃ x : Sub B W, w' = x.val) (fun a' => ∀ w', (∃ x : Sub B W, w' = x.val) → Q .normal a' w') l a) : (Code.region id l.toArray true).wp P Q a w :=
  wp_region_quiet (C := fun w' => ∃ x : Sub B W, w' = x.val) hm hB (inSub_of hC.drew) (by simpa using h)
theorem wp_region_sub_tail {id : Nat} {Q : Exit → Act → World → Prop} {a : Act} {w W : World} {B : Nat} {l : List Oper} (n : Nat) (hm : P.follows .mixedOrders = true) (hB : Region.lexTailB .any l.toArray n = true) (hC : Below B W w)
    (h : wpQuiet P l.toArray (fun w' => ∃ x : Sub B W, w' = x.val) (fun a' => ∀ w', (∃ x : Sub B W, w' = x.val) → wpList P l.toArray Q (l.drop n) a' w') (l.take n) a) : (Code.region id l.toArray true).wp P Q a w :=
  wp_region_quiet_tail (C := fun w' => ∃ x : Sub B W, w' = x.val) n hm hB (inSub_of hC.drew) h
end
end Go.Proofs.YtjjejkhekmpgcaaGreat

namespace Go.Proofs.YtjjejkhekmpgcaaGreat
set_option maxRecDepth 4000
open Go.ChangeShapes Go.WideShapes Go.ChangeAt Go.RowKit

theorem own : ownKnob Tryz.prog.godebug = none := by kernel_rfl
theorem laidOut : laidOutB Tryz.prog = true := by kernel_rfl

theorem trodAll_below {H : Type} {enc : TypeId × Value → H} {P : Program} (hl : laidOutB P = true) {W W' : World} (hb : Below W.heap.size W W') :
    ∀ (ts : List TypeId) (vs : List Value) (ds : List (DataW H)) (ps : List MemPlace), (∀ t ∈ ts, P.readableRec t = true ∧ t < P.types.size) →
      DataW.TrodAll enc P W 0 (fun _ => true) true ts vs ds ps → (∀ x ∈ ps, x.block < W.heap.size) →
      DataW.TrodAll enc P W' 0 (fun b => decide (b < W.heap.size)) true ts vs ds ps
  | [], [], [], ps, _, h, _ => h
  | [], [], d :: ds, ps, _, h, _ => h.elim
  | [], v :: vs, ds, ps, _, h, _ => by cases ds <;> exact h.elim
  | t :: ts, [], ds, ps, _, h, _ => by cases ds <;> exact h.elim
  | t :: ts, v :: vs, [], ps, _, h, _ => h.elim
  | t :: ts, v :: vs, d :: ds, ps, hr, h, hlt => by
    obtain ⟨p, q, h1, h2, rfl⟩ := h
    have ht := hr t (by simp)
    exact ⟨p, q, Below.trod hl ht.1 ht.2 h1 hb (fun x hx => hlt x (List.mem_append.2 (Or.inl hx))),
      trodAll_below hl hb ts vs ds q (fun u hu => hr u (by simp [hu])) h2 (fun x hx => hlt x (List.mem_append.2 (Or.inr hx))), rfl⟩

/-- the law answers true, and what was there is as it was -/
theorem post_law {H : Type} {enc : TypeId × Value → H} {P : Program} {f : Func} {s : ChangeSpec} {W W' : World} {args : Array Value} {ds gs : List (DataW H)} {before : List MemPlace}
    (hl : laidOutB P = true) (hps : f.params.toList.all (fun t => P.readableRec t && decide (t < P.types.size)) = true) (tb : TypeId) (hres : f.resultTypes = #[tb]) (htb : P.underlying tb = some .bool)
    (hvars : s.vars = []) (hfn : s.fn H (ds ++ gs) = { results := [.lit (.bool true)], args := ds })
    (hW : DataW.Whole enc P f.params.toList s.vars false W args.toList ds gs before) (hb : Below W.heap.size W W') :
    s.post enc P f false true false false W args (.bool true) W' := by
  have hlt := hW.lt
  obtain ⟨p, q, hA, hV, rfl, hfz, hnd⟩ := hW
  rw [hvars] at hV
  have hg : gs = [] ∧ q = [] := by
    cases gs with
    | nil => exact ⟨rfl, hV⟩
    | cons g gs => exact hV.elim
  obtain ⟨rfl, rfl⟩ := hg
  have hps' : ∀ t ∈ f.params.toList, P.readableRec t = true ∧ t < P.types.size := by
    intro t ht
    have := List.all_eq_true.1 hps t ht
    simpa using this
  refine ⟨ds, [], p ++ [], [], p, [], ⟨p, [], hA, by rw [hvars]; exact rfl, rfl, hfz, hnd⟩, ?_, ?_, ?_, hb.frame _, fun h => by cases h⟩
  · rw [hfn, hres]
    exact ⟨[], [], ⟨1, by simp [DataW.trod, htb, Value.cells]⟩, rfl, rfl⟩
  · rw [hfn]
    exact trodAll_below hl hb _ _ _ _ hps' hA (fun x hx => hlt x (by simp [hx]))
  · rw [hfn, hvars]
    exact rfl
end Go.Proofs.YtjjejkhekmpgcaaGreat

namespace Go.Proofs.YtjjejkhekmpgcaaGreat
set_option maxRecDepth 4000

section
variable {P : Program} {ops : Array Oper} {md : Region.Mode} {Q : Exit → Act → World → Prop} {S : World → Prop}

def wpMix (P : Program) (ops : Array Oper) (Q : Exit → Act → World → Prop) (S : World → Prop) : List (Oper × Bool) → Act → World → Prop
  | [], a, w => Q .normal a w
  | (o, t) :: rest, a, w =>
    if Region.wanted o (yielded ops a.tmps) = true then
      if t = true then ∃ v, (∀ w', S w' → (execOp a.eval o).run P w' = .ok (.value v) w') ∧ wpMix P ops Q S rest (a.put o.dst v) w
      else o.wp P a w (fun a' w' => S w' ∧ wpMix P ops Q S rest a' w') Q
    else wpMix P ops Q S rest (a.put o.dst undef) w

theorem mix_skip {o : Oper} {t : Bool} {rest : List (Oper × Bool)} {a : Act} {w : World} (hw : Region.wanted o (yielded ops a.tmps) = false) (h : wpMix P ops Q S rest (a.put o.dst undef) w) : wpMix P ops Q S ((o, t) :: rest) a w := by
  unfold wpMix
  rw [if_neg (by rw [hw]; simp)]
  exact h
theorem mix_take {o : Oper} {rest : List (Oper × Bool)} {a : Act} {w : World} (hw : Region.wanted o (yielded ops a.tmps) = true) (v : Value) (hv : ∀ w', S w' → (execOp a.eval o).run P w' = .ok (.value v) w')
    (h : wpMix P ops Q S rest (a.put o.dst v) w) : wpMix P ops Q S ((o, true) :: rest) a w := by
  unfold wpMix
  rw [if_pos hw, if_pos rfl]
  exact ⟨v, hv, h⟩
theorem mix_read {o : Oper} {rest : List (Oper × Bool)} {a : Act} {w : World} (hw : Region.wanted o (yielded ops a.tmps) = true)
    (h : ∃ v, (∀ w', S w' → (execOp a.eval o).run P w' = .ok (.value v) w') ∧ wpMix P ops Q S rest (a.put o.dst v) w) : wpMix P ops Q S ((o, true) :: rest) a w :=
  mix_take hw h.choose h.choose_spec.1 h.choose_spec.2
theorem mix_load_row {o : Oper} {rest : List (Oper × Bool)} {a : Act} {w : World} (ty : TypeId) (x : Operand) (ho : o.op = .load ty x) (hw : Region.wanted o (yielded ops a.tmps) = true)
    (g : Nat) (hx : a.eval x = .pointer (some ⟨g, 0, none⟩)) (t : TypeId) (cs : Array Value) (fr : Nat × Nat) (d : TypeDesc) (hg : ∀ w', S w' → w'.heap[g]? = some (.cells cs t fr))
    (hu : P.underlying ty = some d) (hd : (match d with | .struct _ | .array _ _ => true | _ => false) = true) (hi : (P.info? ty).map (·.size) = some cs.size)
    (h : wpMix P ops Q S rest (a.put o.dst (.agg cs)) w) : wpMix P ops Q S ((o, true) :: rest) a w :=
  mix_take hw _ (fun w' hw' => by
    unfold execOp
    simp only [ho, hx, Instr.loadAt, Instr.sureAddr, Sem.run_bind, Sem.run_pure, Result.andThen_ok, run_loadVar_row w' g t ty cs fr d (hg w' hw') hu hd hi]) h
theorem mix_step {o : Oper} {rest : List (Oper × Bool)} {a : Act} {w : World} (hw : Region.wanted o (yielded ops a.tmps) = true)
    (h : ∀ K' : Act → World → Prop, (∀ a' w', S w' → wpMix P ops Q S rest a' w' → K' a' w') → o.wp P a w K' Q) : wpMix P ops Q S ((o, false) :: rest) a w := by
  unfold wpMix
  rw [if_pos hw, if_neg (by simp)]
  exact h _ (fun a' w' h1 h2 => ⟨h1, h2⟩)
theorem mix_nil {a : Act} {w : World} (h : Q .normal a w) : wpMix P ops Q S [] a w := h

def Region.mixB (md : Region.Mode) (ops : Array Oper) : List (Nat × Bool) → Array Bool → Bool
  | [], listed => decide (Region.ready md ops listed = [])
  | (i, true) :: r, listed => (Region.ready md ops listed).contains i && Region.free md ops listed i && Region.mixB md ops r (listed.setIfInBounds i true)
  | (i, false) :: r, listed => decide (Region.ready md ops listed = [i]) && Region.mixB md ops r (listed.setIfInBounds i true)

theorem wpAnyH_of_mix (hsel : Region.noSelect ops = true) (hQ : ∀ c a a' w, Q (.panic c) a w → Q (.panic c) a' w) :
    ∀ (L : List (Nat × Bool)) (listed : Array Bool) (a : Act) (w : World), S w → Region.mixB md ops L listed = true →
      wpMix P ops Q S (L.filterMap fun p => (ops[p.1]?).map fun o => (o, p.2)) a w → Go.wpAnyH P md ops Q S L.length listed a w
  | [], listed, a, w, _, hB, h => wpAnyH_done (by simpa [Region.mixB] using hB) h 0
  | (i, t) :: r, listed, a, w, hS, hB, h => by
    cases t with
    | true =>
      simp only [Region.mixB, Bool.and_eq_true] at hB
      obtain ⟨⟨h1, h2⟩, h3⟩ := hB
      have hr : i ∈ Region.ready md ops listed := by simpa using h1
      obtain ⟨_, o, ho, _⟩ := mem_ready.1 hr
      rw [List.filterMap_cons, ho] at h
      simp only [Option.map_some] at h
      unfold wpMix at h
      by_cases hw : Region.wanted o (yielded ops a.tmps) = true
      · rw [if_pos hw, if_pos rfl] at h
        obtain ⟨v, hv, h⟩ := h
        exact wpAnyH_take ho hsel h2 h1 (fun c a w hc => hQ c _ _ w hc) (Or.inl ⟨hw, hv⟩) hS (wpAnyH_of_mix hsel hQ r _ _ _ hS h3 h)
      · rw [if_neg hw] at h
        exact wpAnyH_take ho hsel h2 h1 (fun c a w hc => hQ c _ _ w hc) (Or.inr ⟨by simpa using hw, rfl⟩) hS (wpAnyH_of_mix hsel hQ r _ _ _ hS h3 h)
    | false =>
      simp only [Region.mixB, Bool.and_eq_true, decide_eq_true_eq] at hB
      obtain ⟨h1, h3⟩ := hB
      refine wpAnyH_all h1 (by simp) (fun k hk => ?_)
      obtain rfl : k = i := by simpa using hk
      have hr : k ∈ Region.ready md ops listed := by rw [h1]; simp
      obtain ⟨_, o, ho, _⟩ := mem_ready.1 hr
      rw [List.filterMap_cons, ho] at h
      simp only [Option.map_some] at h
      unfold wpMix at h
      refine wpOp_step ho (fun K' hK => ?_)
      by_cases hw : Region.wanted o (yielded ops a.tmps) = true
      · rw [if_pos hw] at h ⊢
        rw [if_neg (by simp)] at h
        exact Oper.wp_mono (fun a' w' ⟨hS', h'⟩ => hK a' w' ⟨hS', wpAnyH_of_mix hsel hQ r _ _ _ hS' h3 h'⟩) h
      · rw [if_neg hw] at h ⊢
        exact hK _ _ ⟨hS, wpAnyH_of_mix hsel hQ r _ _ _ hS h3 h⟩

/-- **The law.** -/
theorem wp_region_mix {id : Nat} {a : Act} {w : World} {l : List Oper} (S : World → Prop) (L : List (Nat × Bool)) (hm : P.follows .mixedOrders = true)
    (hB : (Region.noSelect l.toArray && decide (L.length = l.length) && Region.mixB .any l.toArray L (Array.replicate l.length false)) = true) (hS : S w.drew)
    (h : wpMix P l.toArray (NoPanic Q) S (L.filterMap fun p => (l[p.1]?).map fun o => (o, p.2)) a w.drew) : (Code.region id l.toArray true).wp P Q a w := by
  simp only [Bool.and_eq_true, decide_eq_true_eq] at hB
  obtain ⟨⟨h1, h2⟩, h3⟩ := hB
  refine wp_region_noPanic (wp_region_held (S := S) hm ?_)
  have := wpAnyH_of_mix (P := P) (Q := NoPanic Q) (S := S) h1 (fun c a a' w hc => by exact hc.elim) L _ a w.drew hS h3 (by simpa using h)
  rw [h2] at this
  simpa using this
end
end Go.Proofs.YtjjejkhekmpgcaaGreat

namespace Go.Proofs.YtjjejkhekmpgcaaGreat
set_option maxRecDepth 4000

section
variable {P : Program} {ops : Array Oper} {md : Region.Mode} {Q : Exit → Act → World → Prop} {S : World → Prop} {n : Nat}

def wpAnyT (P : Program) (md : Region.Mode) (ops : Array Oper) (Q : Exit → Act → World → Prop) (S : World → Prop) (n : Nat) : Nat → Array Bool → Act → World → Prop
  | 0, listed, a, w => Region.ready md ops listed = [] ∧ Q .normal a w
  | fuel + 1, listed, a, w =>
    (Region.ready md ops listed = [] → Q .normal a w) ∧
    ∀ i ∈ Region.ready md ops listed, wpOp P ops Q i (fun a' w' => (n ≤ i ∨ S w') ∧ wpAnyT P md ops Q S n fuel (listed.setIfInBounds i true) a' w') a w

theorem wpAny_of_T : ∀ (fuel : Nat) (listed : Array Bool) (a : Act) (w : World), wpAnyT P md ops Q S n fuel listed a w → wpAny P md ops Q fuel listed a w
  | 0, _, _, _, h => h
  | fuel + 1, _, _, _, h => ⟨h.1, fun i hi => wpOp_mono (fun a' w' h' => wpAny_of_T fuel _ a' w' h'.2) (h.2 i hi)⟩

theorem wpAnyT_first {i : Nat} {oi : Oper} {v : Value} (hi : ops[i]? = some oi) (hsel : ∀ (j : Nat) (o : Oper) cs b, ops[j]? = some o → o.op ≠ .select cs b)
    (hQ : ∀ c a w, Q (.panic c) (a.put oi.dst v) w → Q (.panic c) a w) (hs : Region.sinkB md ops n = true) (hc : Region.chainB md ops n = true) (hn : n < ops.size) (hin : i < n) :
    ∀ (fuel : Nat) (listed : Array Bool) (a : Act) (w : World), HeadInv md ops n listed →
      (∀ j oj, ops[j]? = some oj → j ≠ i → listed.getD j true = false → (∀ e ∈ oj.after, Region.binds md e = true → e.on ≠ i) → oi.apart ops oj = true) →
      i ∈ Region.ready md ops listed → YieldsIf P ops S oi v a → S w →
      wpAnyT P md ops Q S n fuel (listed.setIfInBounds i true) (a.put oi.dst v) w → wpAnyT P md ops Q S n (fuel + 1) listed a w := by
  intro fuel
  induction fuel with
  | zero =>
    intro listed a w _ _ hr hy hS H
    refine ⟨fun h => (by rw [h] at hr; cases hr), fun j hj => ?_⟩
    by_cases hji : j = i
    · subst hji; exact hy.wpOp hi hS ⟨.inr hS, H⟩
    · have := ready_mono hj hji
      rw [H.1] at this
      cases this
  | succ fuel ih =>
    intro listed a w inv hfree hr hy hS H
    have hun := (mem_ready.1 hr).1
    refine ⟨fun h => (by rw [h] at hr; cases hr), fun j hj => ?_⟩
    by_cases hji : j = i
    · subst hji; exact hy.wpOp hi hS ⟨.inr hS, H⟩
    · have hjn : j < n := by
        rcases Nat.lt_or_ge j n with h | h
        · exact h
        · exact absurd hj (tail_waits hs hc hn inv _ i rfl hin hun j h)
      have h1 := H.2 j (ready_mono hj hji)
      obtain ⟨hjun, oj, hoj, hall⟩ := mem_ready.1 hj
      have hnot : ∀ e ∈ oj.after, Region.binds md e = true → e.on ≠ i := fun e he hb heq => by
        have h1 := hall e he hb
        rw [heq, getD_both hun] at h1
        cases h1
      have h2 := wpOp_putIf hoj (hfree j oj hoj hji hjun hnot) (fun cs b => hsel i oi cs b hi) (fun cs b => hsel j oj cs b hoj) hQ hy h1
      have hfree' : ∀ k ok, ops[k]? = some ok → k ≠ i → (listed.setIfInBounds j true).getD k true = false →
          (∀ e ∈ ok.after, Region.binds md e = true → e.on ≠ i) → oi.apart ops ok = true := fun k ok hk hki hun hno => by
        refine hfree k ok hk hki ?_ hno
        by_cases hjk : j = k
        · subst hjk; exact hjun
        · rw [getD_set_ne true hjk] at hun; exact hun
      refine wpOp_mono (fun a' w' h3 => ?_) h2
      have hS' : S w' := h3.2.1.resolve_left (by omega)
      refine ⟨.inr hS', ih (listed.setIfInBounds j true) a' w' (inv.set hj hjn) hfree' (ready_mono hr (Ne.symm hji)) h3.1 hS' ?_⟩
      rw [Array.setIfInBounds_comm _ _ hji]
      exact h3.2.2

/-- (o, reads only, what was read stands behind it) -/
def wpMixT (P : Program) (ops : Array Oper) (Q : Exit → Act → World → Prop) (S : World → Prop) : List (Oper × Bool × Bool) → Act → World → Prop
  | [], a, w => Q .normal a w
  | (o, t, k) :: rest, a, w =>
    if Region.wanted o (yielded ops a.tmps) = true then
      if t = true then ∃ v, (∀ w', S w' → (execOp a.eval o).run P w' = .ok (.value v) w') ∧ wpMixT P ops Q S rest (a.put o.dst v) w
      else o.wp P a w (fun a' w' => (k = true → S w') ∧ wpMixT P ops Q S rest a' w') Q
    else wpMixT P ops Q S rest (a.put o.dst undef) w

theorem mixT_skip {o : Oper} {t k : Bool} {rest : List (Oper × Bool × Bool)} {a : Act} {w : World} (hw : Region.wanted o (yielded ops a.tmps) = false) (h : wpMixT P ops Q S rest (a.put o.dst undef) w) : wpMixT P ops Q S ((o, t, k) :: rest) a w := by
  unfold wpMixT
  rw [if_neg (by rw [hw]; simp)]
  exact h
theorem mixT_take {o : Oper} {k : Bool} {rest : List (Oper × Bool × Bool)} {a : Act} {w : World} (hw : Region.wanted o (yielded ops a.tmps) = true) (v : Value) (hv : ∀ w', S w' → (execOp a.eval o).run P w' = .ok (.value v) w')
    (h : wpMixT P ops Q S rest (a.put o.dst v) w) : wpMixT P ops Q S ((o, true, k) :: rest) a w := by
  unfold wpMixT
  rw [if_pos hw, if_pos rfl]
  exact ⟨v, hv, h⟩
theorem mixT_read {o : Oper} {k : Bool} {rest : List (Oper × Bool × Bool)} {a : Act} {w : World} (hw : Region.wanted o (yielded ops a.tmps) = true)
    (h : ∃ v, (∀ w', S w' → (execOp a.eval o).run P w' = .ok (.value v) w') ∧ wpMixT P ops Q S rest (a.put o.dst v) w) : wpMixT P ops Q S ((o, true, k) :: rest) a w :=
  mixT_take hw h.choose h.choose_spec.1 h.choose_spec.2
theorem mixT_load_row {o : Oper} {k : Bool} {rest : List (Oper × Bool × Bool)} {a : Act} {w : World} (ty : TypeId) (x : Operand) (ho : o.op = .load ty x) (hw : Region.wanted o (yielded ops a.tmps) = true)
    (g : Nat) (hx : a.eval x = .pointer (some ⟨g, 0, none⟩)) (t : TypeId) (cs : Array Value) (fr : Nat × Nat) (d : TypeDesc) (hg : ∀ w', S w' → w'.heap[g]? = some (.cells cs t fr))
    (hu : P.underlying ty = some d) (hd : (match d with | .struct _ | .array _ _ => true | _ => false) = true) (hi : (P.info? ty).map (·.size) = some cs.size)
    (h : wpMixT P ops Q S rest (a.put o.dst (.agg cs)) w) : wpMixT P ops Q S ((o, true, k) :: rest) a w :=
  mixT_take hw _ (fun w' hw' => by
    unfold execOp
    simp only [ho, hx, Instr.loadAt, Instr.sureAddr, Sem.run_bind, Sem.run_pure, Result.andThen_ok, run_loadVar_row w' g t ty cs fr d (hg w' hw') hu hd hi]) h
theorem mixT_step {o : Oper} {rest : List (Oper × Bool × Bool)} {a : Act} {w : World} (hw : Region.wanted o (yielded ops a.tmps) = true)
    (h : ∀ K' : Act → World → Prop, (∀ a' w', S w' → wpMixT P ops Q S rest a' w' → K' a' w') → o.wp P a w K' Q) : wpMixT P ops Q S ((o, false, true) :: rest) a w := by
  unfold wpMixT
  rw [if_pos hw, if_neg (by simp)]
  exact h _ (fun a' w' h1 h2 => ⟨fun _ => h1, h2⟩)
theorem mixT_tail {o : Oper} {rest : List (Oper × Bool × Bool)} {a : Act} {w : World} (hw : Region.wanted o (yielded ops a.tmps) = true)
    (h : ∀ K' : Act → World → Prop, (∀ a' w', wpMixT P ops Q S rest a' w' → K' a' w') → o.wp P a w K' Q) : wpMixT P ops Q S ((o, false, false) :: rest) a w := by
  unfold wpMixT
  rw [if_pos hw, if_neg (by simp)]
  exact h _ (fun a' w' h2 => ⟨fun h => (by cases h), h2⟩)
theorem mixT_nil {a : Act} {w : World} (h : Q .normal a w) : wpMixT P ops Q S [] a w := h

def Region.mixTB (md : Region.Mode) (ops : Array Oper) (n : Nat) : List (Nat × Bool × Bool) → Array Bool → Bool
  | [], listed => decide (Region.ready md ops listed = [])
  | (i, true, k) :: r, listed => k && decide (i < n) && (Region.ready md ops listed).contains i && Region.free md ops listed i && Region.mixTB md ops n r (listed.setIfInBounds i true)
  | (i, false, k) :: r, listed => (k == decide (i < n)) && decide (Region.ready md ops listed = [i]) && Region.mixTB md ops n r (listed.setIfInBounds i true)

theorem getD_set_true {listed : Array Bool} {i q : Nat} (h : listed.getD q true = true) : (listed.setIfInBounds i true).getD q true = true := by
  by_cases e : i = q
  · subst e
    by_cases hb : i < listed.size <;> simp [hb]
  · rw [getD_set_ne true e]; exact h
theorem tail_only : ∀ (r : List (Nat × Bool × Bool)) (listed : Array Bool), (∀ q, q < n → listed.getD q true = true) → Region.mixTB md ops n r listed = true → ∀ p ∈ r, p.2.2 = false
  | [], _, _, _, p, hp => by cases hp
  | (i, true, k) :: r, listed, hd, h, p, hp => by
    simp only [Region.mixTB, Bool.and_eq_true, decide_eq_true_eq] at h
    obtain ⟨⟨⟨⟨_, hin⟩, h1⟩, _⟩, _⟩ := h
    have hr : i ∈ Region.ready md ops listed := by simpa using h1
    have := (mem_ready.1 hr).1
    rw [hd i hin] at this
    cases this
  | (i, false, k) :: r, listed, hd, h, p, hp => by
    simp only [Region.mixTB, Bool.and_eq_true, decide_eq_true_eq, beq_iff_eq] at h
    obtain ⟨⟨hk, h1⟩, h3⟩ := h
    have hr : i ∈ Region.ready md ops listed := by rw [h1]; simp
    have hun := (mem_ready.1 hr).1
    have hin : ¬ i < n := fun h => by rw [hd i h] at hun; cases hun
    rcases List.mem_cons.1 hp with rfl | hp
    · simp [hk, hin]
    · exact tail_only r _ (fun q hq => getD_set_true (hd q hq)) h3 p hp

theorem wpAnyT_of_mix (hsel : Region.noSelect ops = true) (hQ : ∀ c a a' w, Q (.panic c) a w → Q (.panic c) a' w) (hs : Region.sinkB md ops n = true) (hc : Region.chainB md ops n = true) (hn : n < ops.size) :
    ∀ (L : List (Nat × Bool × Bool)) (listed : Array Bool) (a : Act) (w : World), ((∀ p ∈ L, p.2.2 = false) ∨ (S w ∧ HeadInv md ops n listed)) → Region.mixTB md ops n L listed = true →
      wpMixT P ops Q S (L.filterMap fun p => (ops[p.1]?).map fun o => (o, p.2)) a w → wpAnyT P md ops Q S n L.length listed a w
  | [], listed, a, w, _, hB, h => ⟨by simpa [Region.mixTB] using hB, h⟩
  | (i, t, k) :: r, listed, a, w, hS, hB, h => by
    cases t with
    | true =>
      simp only [Region.mixTB, Bool.and_eq_true, decide_eq_true_eq] at hB
      obtain ⟨⟨⟨⟨hk, hin⟩, h1⟩, h2⟩, h3⟩ := hB
      subst hk
      obtain ⟨hS, inv⟩ := hS.resolve_left (fun h => by have := h (i, true, true) (by simp); cases this)
      have hr : i ∈ Region.ready md ops listed := by simpa using h1
      obtain ⟨_, o, ho, _⟩ := mem_ready.1 hr
      rw [List.filterMap_cons, ho] at h
      simp only [Option.map_some] at h
      unfold wpMixT at h
      by_cases hw : Region.wanted o (yielded ops a.tmps) = true
      · rw [if_pos hw, if_pos rfl] at h
        obtain ⟨v, hv, h⟩ := h
        exact wpAnyT_first ho (Region.noSelect_spec hsel) (fun c a w hc => hQ c _ _ w hc) hs hc hn hin _ listed a w inv (Region.free_spec ho h2) hr (Or.inl ⟨hw, hv⟩) hS (wpAnyT_of_mix hsel hQ hs hc hn r _ _ _ (.inr ⟨hS, inv.set hr hin⟩) h3 h)
      · rw [if_neg hw] at h
        exact wpAnyT_first ho (Region.noSelect_spec hsel) (fun c a w hc => hQ c _ _ w hc) hs hc hn hin _ listed a w inv (Region.free_spec ho h2) hr (Or.inr ⟨by simpa using hw, rfl⟩) hS (wpAnyT_of_mix hsel hQ hs hc hn r _ _ _ (.inr ⟨hS, inv.set hr hin⟩) h3 h)
    | false =>
      simp only [Region.mixTB, Bool.and_eq_true, decide_eq_true_eq, beq_iff_eq] at hB
      obtain ⟨⟨hk, h1⟩, h3⟩ := hB
      have hr : i ∈ Region.ready md ops listed := by rw [h1]; simp
      obtain ⟨_, o, ho, _⟩ := mem_ready.1 hr
      rw [List.filterMap_cons, ho] at h
      simp only [Option.map_some] at h
      unfold wpMixT at h
      refine ⟨fun h0 => (by rw [h1] at h0; cases h0), fun j hj => ?_⟩
      obtain rfl : j = i := by rw [h1] at hj; simpa using hj
      have hnext : ∀ w', (k = true → S w') → ((∀ p ∈ r, p.2.2 = false) ∨ (S w' ∧ HeadInv md ops n (listed.setIfInBounds j true))) := by
        intro w' hw'
        rcases hS with h | ⟨_, inv⟩
        · exact .inl fun p hp => h p (by simp [hp])
        · by_cases hjn : j < n
          · exact .inr ⟨hw' (by rw [hk]; exact decide_eq_true hjn), inv.set hr hjn⟩
          · refine .inl ?_
            exact tail_only r _ (fun q hq => by
              cases hg : (listed.setIfInBounds j true).getD q true with
              | true => rfl
              | false =>
                have hun : listed.getD q true = false := by
                  cases hg2 : listed.getD q true with
                  | false => rfl
                  | true => rw [getD_set_true hg2] at hg; cases hg
                exact absurd hr (tail_waits hs hc hn inv _ q rfl hq hun j (by omega))) h3
      refine wpOp_step ho (fun K' hK => ?_)
      by_cases hw : Region.wanted o (yielded ops a.tmps) = true
      · rw [if_pos hw] at h ⊢
        rw [if_neg (by simp)] at h
        refine Oper.wp_mono (fun a' w' ⟨hS', h'⟩ => hK a' w' ⟨?_, wpAnyT_of_mix hsel hQ hs hc hn r _ _ _ (hnext w' hS') h3 h'⟩) h
        by_cases hjn : j < n
        · exact .inr (hS' (by rw [hk]; exact decide_eq_true hjn))
        · exact .inl (by omega)
      · rw [if_neg hw] at h ⊢
        have hS0 : (k = true → S w) ∧ (n ≤ j ∨ S w) := by
          rcases hS with h | ⟨h, _⟩
          · have hkf : k = false := h (j, false, k) (by simp)
            refine ⟨fun e => (by rw [hkf] at e; cases e), .inl ?_⟩
            rw [hkf] at hk
            have := of_decide_eq_false hk.symm
            omega
          · exact ⟨fun _ => h, .inr h⟩
        exact hK _ _ ⟨hS0.2, wpAnyT_of_mix hsel hQ hs hc hn r _ _ _ (hnext w hS0.1) h3 h⟩

/-- **The law.** L: the order: (place, reads only, what was read stands behind it); the last l.length - n operations wait for all the others. -/
theorem wp_region_mixT {id : Nat} {a : Act} {w : World} {l : List Oper} (S : World → Prop) (n : Nat) (L : List (Nat × Bool × Bool)) (hm : P.follows .mixedOrders = true)
    (hB : (Region.noSelect l.toArray && decide (L.length = l.length) && Region.sinkB .any l.toArray n && Region.chainB .any l.toArray n && decide (n < l.length) && Region.mixTB .any l.toArray n L (Array.replicate l.length false)) = true) (hS : S w.drew)
    (h : wpMixT P l.toArray (NoPanic Q) S (L.filterMap fun p => (l[p.1]?).map fun o => (o, p.2)) a w.drew) : (Code.region id l.toArray true).wp P Q a w := by
  simp only [Bool.and_eq_true, decide_eq_true_eq] at hB
  obtain ⟨⟨⟨⟨⟨h1, h2⟩, hs⟩, hc⟩, hn⟩, h3⟩ := hB
  refine wp_region_noPanic (wp_region_any hm ?_)
  have inv0 : HeadInv .any l.toArray n (Array.replicate l.length false) :=
    ⟨by simp, fun j oj _ hl => (by rw [getD_replicate_false] at hl; cases hl), fun t _ ht => getD_in (by simpa using ht) (getD_replicate_false _ _)⟩
  have := wpAnyT_of_mix (P := P) (Q := NoPanic Q) (S := S) h1 (fun c a a' w hc => by exact hc.elim) hs hc (by simpa using hn) L _ a w.drew (.inr ⟨hS, inv0⟩) h3 (by simpa using h)
  rw [h2] at this
  simpa using wpAny_of_T _ _ _ _ this
end
end Go.Proofs.YtjjejkhekmpgcaaGreat

namespace Go.Proofs.YtjjejkhekmpgcaaGreat
set_option maxRecDepth 4000

/-- how many of the first n are not done -/
def left : Nat → (Nat → Bool) → Nat
  | 0, _ => 0
  | n + 1, L => left n L + if L n = true then 0 else 1
/-- one more is done -/
def done1 (L : Nat → Bool) (i : Nat) : Nat → Bool := fun j => if j = i then true else L j
theorem left_far (L : Nat → Bool) (i : Nat) : ∀ n, n ≤ i → left n (done1 L i) = left n L
  | 0, _ => rfl
  | n + 1, h => by
    have hn : ¬ n = i := by omega
    simp only [left, left_far L i n (by omega), done1, if_neg hn]
theorem left_set (L : Nat → Bool) (i : Nat) (hi : L i = false) : ∀ n, i < n → left n (done1 L i) + 1 = left n L
  | 0, h => absurd h (by omega)
  | n + 1, h => by
    by_cases hn : n = i
    · subst hn
      simp only [left, left_far L n n (Nat.le_refl _)]
      simp [done1, hi]
    · have := left_set L i hi n (by omega)
      simp only [left, done1, if_neg hn] at this ⊢
      omega
theorem left_all : ∀ n, left n (fun _ => false) = n
  | 0 => rfl
  | n + 1 => by simp [left, left_all n]
theorem left_zero {L : Nat → Bool} : ∀ {n}, left n L = 0 → ∀ i, i < n → L i = true
  | 0, _, i, hi => absurd hi (by omega)
  | n + 1, h, i, hi => by
    simp only [left] at h
    by_cases hn : i = n
    · subst hn
      cases hL : L i with
      | true => rfl
      | false => rw [hL] at h; simp at h
    · exact left_zero (n := n) (by omega) i (by omega)
theorem left_pos {L : Nat → Bool} : ∀ {n}, left n L ≠ 0 → ∃ i, i < n ∧ L i = false ∧ ∀ j, j < i → L j = true
  | 0, h => absurd rfl h
  | n + 1, h => by
    by_cases hn : left n L = 0
    · refine ⟨n, by omega, ?_, left_zero hn⟩
      cases hL : L n with
      | false => rfl
      | true => simp [left, hn, hL] at h
    · obtain ⟨i, h1, h2, h3⟩ := left_pos hn
      exact ⟨i, by omega, h2, h3⟩

section
variable {P : Program} {ops : Array Oper} {md : Region.Mode}

def Region.invB (md : Region.Mode) (ops : Array Oper) (n : Nat) : Bool :=
  decide (n < ops.size) && Region.sinkB md ops n && Region.chainB md ops n && Region.seqB md ops (ops.size - n) n (Array.replicate n true ++ Array.replicate (ops.size - n) false) &&
    (List.range n).all fun i => match ops[i]? with
      | some o => o.after.all fun e => !Region.binds md e || decide (e.on < i)
      | none => true

theorem wpAny_inv {n : Nat} {Q : Exit → Act → World → Prop} {I : (Nat → Bool) → Act → World → Prop} (hn : n < ops.size) (hs : Region.sinkB md ops n = true) (hc : Region.chainB md ops n = true)
    (hq : Region.seqB md ops (ops.size - n) n (Array.replicate n true ++ Array.replicate (ops.size - n) false) = true)
    (hlow : ∀ i o, i < n → ops[i]? = some o → ∀ e ∈ o.after, Region.binds md e = true → e.on < i)
    (hstep : ∀ L a w i o, I L a w → i < n → L i = false → ops[i]? = some o → (∀ e ∈ o.after, Region.binds md e = true → L e.on = true) → wpOp P ops Q i (I (done1 L i)) a w)
    (l : List Oper) (hl : ∀ j, l[j]? = ops[n + j]?) (hll : l.length = ops.size - n)
    (hend : ∀ L a w, I L a w → (∀ i, i < n → L i = true) → wpList P ops Q l a w) :
    ∀ (f : Nat) (listed : Array Bool) (a : Act) (w : World), HeadInv md ops n listed → left n (fun j => listed.getD j false) = f → I (fun j => listed.getD j false) a w → wpAny P md ops Q (f + (ops.size - n)) listed a w := by
  intro f
  induction f with
  | zero =>
    intro listed a w inv hleft hI
    have hall := left_zero hleft
    have hlst : listed = Array.replicate n true ++ Array.replicate (ops.size - n) false := by
      apply Array.ext_getElem?
      intro j
      rcases Nat.lt_or_ge j n with hj | hj
      · have h1 := hall j hj
        have hjs : j < listed.size := by rw [inv.size]; omega
        rw [Array.getElem?_append_left (by simpa using hj)]
        simp [hjs] at h1
        simp [hjs, hj, h1]
      · rw [Array.getElem?_append_right (by simpa using hj)]
        rcases Nat.lt_or_ge j ops.size with hj2 | hj2
        · have h1 := inv.tail j hj hj2
          have hjs : j < listed.size := by rw [inv.size]; exact hj2
          simp [hjs] at h1
          have : j - n < ops.size - n := by omega
          simp [hjs, h1, this]
        · have hjs : listed.size ≤ j := by rw [inv.size]; exact hj2
          have : ¬ j - n < ops.size - n := by omega
          simp [hjs, this]
    have := wpAny_of_seq (P := P) (ops := ops) (md := md) (Q' := Q) l n listed a w hl (by rw [hll, hlst]; exact hq) (hend _ a w hI hall)
    rw [hll] at this
    rw [Nat.zero_add]
    exact this
  | succ f ih =>
    intro listed a w inv hleft hI
    rw [show f + 1 + (ops.size - n) = (f + (ops.size - n)) + 1 by omega]
    obtain ⟨i0, h1, h2, h3⟩ := left_pos (L := fun j => listed.getD j false) (n := n) (by omega)
    have hi0s : i0 < listed.size := by rw [inv.size]; omega
    have h2' : listed.getD i0 true = false := getD_in hi0s h2
    refine ⟨fun h0 => ?_, fun i hi => ?_⟩
    · obtain ⟨o, ho⟩ : ∃ o, ops[i0]? = some o := ⟨_, Array.getElem?_eq_getElem (by omega)⟩
      have : i0 ∈ Region.ready md ops listed := mem_ready.2 ⟨h2', o, ho, fun e he hb => h3 _ (hlow i0 o h1 ho e he hb)⟩
      rw [h0] at this
      cases this
    · have hin : i < n := by
        rcases Nat.lt_or_ge i n with h | h
        · exact h
        · exact absurd hi (tail_waits hs hc hn inv _ i0 rfl h1 h2' i h)
      obtain ⟨hun, o, ho, hall⟩ := mem_ready.1 hi
      have hset : (fun j => (listed.setIfInBounds i true).getD j false) = done1 (fun j => listed.getD j false) i := by
        funext j
        unfold done1
        by_cases hj : j = i
        · subst hj
          have : j < listed.size := by rw [inv.size]; omega
          simp [this]
        · rw [if_neg hj, getD_set_ne false (fun h => hj h.symm)]
      refine wpOp_mono (fun a' w' h => ?_) (hstep _ a w i o hI hin (getD_both hun) ho hall)
      refine ih _ a' w' (inv.set hi hin) ?_ (by rw [hset]; exact h)
      have := left_set (fun j => listed.getD j false) i (getD_both hun) n hin
      rw [hset]
      omega

/-- **The law.** -/
theorem wp_region_inv {id : Nat} {Q : Exit → Act → World → Prop} {a : Act} {w : World} {l : List Oper} (n : Nat) (hm : P.follows .mixedOrders = true) (hB : Region.invB .any l.toArray n = true)
    (I : Act → (Nat → Bool) → Act → World → Prop) (h0 : I a (fun _ => false) a w.drew)
    (hstep : ∀ L a' w i o, I a L a' w → i < n → L i = false → l[i]? = some o → (∀ e ∈ o.after, Region.binds .any e = true → L e.on = true) →
      ∀ K' : Act → World → Prop, (∀ a'' w'', I a (done1 L i) a'' w'' → K' a'' w'') → if Region.wanted o (yielded l.toArray a'.tmps) = true then Oper.wp P o a' w K' Q else K' (a'.put o.dst undef) w)
    (hend : ∀ L a' w, I a L a' w → (∀ i, i < n → L i = true) → wpList P l.toArray Q (l.drop n) a' w) : (Code.region id l.toArray true).wp P Q a w := by
  simp only [Region.invB, Bool.and_eq_true, decide_eq_true_eq] at hB
  obtain ⟨⟨⟨⟨hn, hs⟩, hc⟩, hq⟩, hlow⟩ := hB
  refine wp_region_any hm ?_
  have h := wpAny_inv (P := P) (md := .any) (Q := Q) (I := I a) hn hs hc hq (fun i o hi ho e he hb => by
      have h1 := List.all_eq_true.1 hlow i (List.mem_range.2 hi)
      rw [ho] at h1
      have h2 := Array.all_eq_true_iff_forall_mem.1 h1 e he
      simpa [hb] using h2)
    (fun L a w i o hI hi hL ho hd => wpOp_step ho (hstep L a w i o hI hi hL (by simpa using ho) hd)) (l.drop n) (fun j => by simp [List.getElem?_drop]) (by simp)
    hend n (Array.replicate l.toArray.size false) a w.drew
    ⟨by simp, fun j oj _ hl => (by rw [getD_replicate_false] at hl; cases hl), fun t _ ht => getD_in (by simpa using ht) (getD_replicate_false _ _)⟩
    (by rw [show (fun j => (Array.replicate l.toArray.size false).getD j false) = fun _ => false from funext fun j => getD_replicate_false _ _]; exact left_all n)
    (by rw [show (fun j => (Array.replicate l.toArray.size false).getD j false) = fun _ => false from funext fun j => getD_replicate_false _ _]; exact h0)
  rw [show n + (l.toArray.size - n) = l.toArray.size by omega] at h
  exact h
end
end Go.Proofs.YtjjejkhekmpgcaaGreat

namespace Go.Proofs.YtjjejkhekmpgcaaGreat
set_option maxRecDepth 4000
open Go.RowKit
section
variable {P : Program} {ops : Array Oper} {C : World → Prop}
theorem wpList_of_quiet {Q : Exit → Act → World → Prop} : ∀ (l : List Oper) (a : Act) (w : World), C w → wpQuiet P ops C (fun a' => ∀ w', C w' → Q .normal a' w') l a → wpList P ops Q l a w
  | [], a, w, hC, h => h w hC
  | o :: l, a, w, hC, h => by
    unfold wpQuiet at h
    unfold wpList
    by_cases hw : Region.wanted o (yielded ops a.tmps) = true
    · rw [if_pos hw] at h
      rw [if_pos hw]
      exact .inl (Oper.wp_of_quiet hC (fun a' w' hC' h' => wpList_of_quiet l a' w' hC' h') h)
    · rw [if_neg hw] at h
      rw [if_neg hw]
      exact wpList_of_quiet l _ w hC h
theorem wp_region_sub_plain {id : Nat} {Q : Exit → Act → World → Prop} {a : Act} {w W : World} {B : Nat} {l : List Oper} (hC : Below B W w)
    (h : wpQuiet P l.toArray (fun w' => ∃ x : Sub B W, w' = x.val) (fun a' => ∀ w', (∃ x : Sub B W, w' = x.val) → Q .normal a' w') l a) : (Code.region id l.toArray false).wp P Q a w :=
  wp_region_lit (wpList_of_quiet (C := fun w' => ∃ x : Sub B W, w' = x.val) l a w (inSub_of hC) h)
end
end Go.Proofs.YtjjejkhekmpgcaaGreat

namespace Go.Proofs.YtjjejkhekmpgcaaGreat
set_option maxRecDepth 4000

/-- a tree of orders, by the operations' numbers -/
inductive MT where
  | nil : MT
  | read (i : Nat) (r : MT) : MT
  | one (i : Nat) (r : MT) : MT
  | two (i : Nat) (r : MT) (j : Nat) (s : MT) : MT
/-- the same, with the operations -/
inductive MO where
  | nil : MO
  | bad : MO
  | read (o : Oper) (r : MO) : MO
  | one (o : Oper) (r : MO) : MO
  | two (o : Oper) (r : MO) (p : Oper) (s : MO) : MO
def MT.depth : MT → Nat
  | .nil => 0
  | .read _ r => r.depth + 1
  | .one _ r => r.depth + 1
  | .two _ r _ _ => r.depth + 1
def MT.fill (l : List Oper) : MT → MO
  | .nil => .nil
  | .read i r => match l[i]? with
    | some o => .read o (r.fill l)
    | none => .bad
  | .one i r => match l[i]? with
    | some o => .one o (r.fill l)
    | none => .bad
  | .two i r j s => match l[i]?, l[j]? with
    | some o, some p => .two o (r.fill l) p (s.fill l)
    | _, _ => .bad
def Region.treeB (md : Region.Mode) (ops : Array Oper) : MT → Array Bool → Bool
  | .nil, listed => decide (Region.ready md ops listed = [])
  | .read i r, listed => (Region.ready md ops listed).contains i && Region.free md ops listed i && Region.treeB md ops r (listed.setIfInBounds i true)
  | .one i r, listed => decide (Region.ready md ops listed = [i]) && Region.treeB md ops r (listed.setIfInBounds i true)
  | .two i r j s, listed => decide (Region.ready md ops listed = [i, j]) && decide (r.depth = s.depth) && Region.treeB md ops r (listed.setIfInBounds i true) && Region.treeB md ops s (listed.setIfInBounds j true)

section
variable {P : Program} {ops : Array Oper} {md : Region.Mode} {Q : Exit → Act → World → Prop} {S : World → Prop}

def wpTree (P : Program) (ops : Array Oper) (Q : Exit → Act → World → Prop) (S : World → Prop) : MO → Act → World → Prop
  | .nil, a, w => Q .normal a w
  | .bad, _, _ => False
  | .read o r, a, w =>
    if Region.wanted o (yielded ops a.tmps) = true then ∃ v, (∀ w', S w' → (execOp a.eval o).run P w' = .ok (.value v) w') ∧ wpTree P ops Q S r (a.put o.dst v) w
    else wpTree P ops Q S r (a.put o.dst undef) w
  | .one o r, a, w =>
    if Region.wanted o (yielded ops a.tmps) = true then o.wp P a w (fun a' w' => S w' ∧ wpTree P ops Q S r a' w') Q
    else wpTree P ops Q S r (a.put o.dst undef) w
  | .two o r p s, a, w =>
    (if Region.wanted o (yielded ops a.tmps) = true then o.wp P a w (fun a' w' => S w' ∧ wpTree P ops Q S r a' w') Q else wpTree P ops Q S r (a.put o.dst undef) w) ∧
    (if Region.wanted p (yielded ops a.tmps) = true then p.wp P a w (fun a' w' => S w' ∧ wpTree P ops Q S s a' w') Q else wpTree P ops Q S s (a.put p.dst undef) w)

theorem tree_nil {a : Act} {w : World} (h : Q .normal a w) : wpTree P ops Q S .nil a w := h
theorem tree_skip {o : Oper} {r : MO} {a : Act} {w : World} (hw : Region.wanted o (yielded ops a.tmps) = false) (h : wpTree P ops Q S r (a.put o.dst undef) w) : wpTree P ops Q S (.read o r) a w := by
  unfold wpTree
  rw [if_neg (by rw [hw]; simp)]
  exact h
theorem tree_read {o : Oper} {r : MO} {a : Act} {w : World} (hw : Region.wanted o (yielded ops a.tmps) = true)
    (h : ∃ v, (∀ w', S w' → (execOp a.eval o).run P w' = .ok (.value v) w') ∧ wpTree P ops Q S r (a.put o.dst v) w) : wpTree P ops Q S (.read o r) a w := by
  unfold wpTree
  rw [if_pos hw]
  exact h
theorem tree_load_row {o : Oper} {r : MO} {a : Act} {w : World} (ty : TypeId) (x : Operand) (ho : o.op = .load ty x) (hw : Region.wanted o (yielded ops a.tmps) = true)
    (g : Nat) (hx : a.eval x = .pointer (some ⟨g, 0, none⟩)) (t : TypeId) (cs : Array Value) (fr : Nat × Nat) (d : TypeDesc) (hg : ∀ w', S w' → w'.heap[g]? = some (.cells cs t fr))
    (hu : P.underlying ty = some d) (hd : (match d with | .struct _ | .array _ _ => true | _ => false) = true) (hi : (P.info? ty).map (·.size) = some cs.size)
    (h : wpTree P ops Q S r (a.put o.dst (.agg cs)) w) : wpTree P ops Q S (.read o r) a w :=
  tree_read hw ⟨_, fun w' hw' => by
    unfold execOp
    simp only [ho, hx, Instr.loadAt, Instr.sureAddr, Sem.run_bind, Sem.run_pure, Result.andThen_ok, run_loadVar_row w' g t ty cs fr d (hg w' hw') hu hd hi], h⟩
theorem tree_one {o : Oper} {r : MO} {a : Act} {w : World} (hw : Region.wanted o (yielded ops a.tmps) = true)
    (h : ∀ K' : Act → World → Prop, (∀ a' w', S w' → wpTree P ops Q S r a' w' → K' a' w') → o.wp P a w K' Q) : wpTree P ops Q S (.one o r) a w := by
  unfold wpTree
  rw [if_pos hw]
  exact h _ (fun a' w' h1 h2 => ⟨h1, h2⟩)
theorem tree_one_skip {o : Oper} {r : MO} {a : Act} {w : World} (hw : Region.wanted o (yielded ops a.tmps) = false) (h : wpTree P ops Q S r (a.put o.dst undef) w) : wpTree P ops Q S (.one o r) a w := by
  unfold wpTree
  rw [if_neg (by rw [hw]; simp)]
  exact h
theorem tree_two {o p : Oper} {r s : MO} {a : Act} {w : World} (h1 : wpTree P ops Q S (.one o r) a w) (h2 : wpTree P ops Q S (.one p s) a w) : wpTree P ops Q S (.two o r p s) a w := by
  unfold wpTree at h1 h2 ⊢
  exact ⟨h1, h2⟩

theorem wpAnyH_of_tree (hsel : Region.noSelect ops = true) (hQ : ∀ c a a' w, Q (.panic c) a w → Q (.panic c) a' w) :
    ∀ (t : MT) (listed : Array Bool) (a : Act) (w : World), S w → Region.treeB md ops t listed = true → wpTree P ops Q S (t.fill ops.toList) a w → Go.wpAnyH P md ops Q S t.depth listed a w
  | .nil, listed, a, w, _, hB, h => wpAnyH_done (by simpa [Region.treeB] using hB) h 0
  | .read i r, listed, a, w, hS, hB, h => by
    simp only [Region.treeB, Bool.and_eq_true] at hB
    obtain ⟨⟨h1, h2⟩, h3⟩ := hB
    have hr : i ∈ Region.ready md ops listed := by simpa using h1
    obtain ⟨_, o, ho, _⟩ := mem_ready.1 hr
    have ho' : ops.toList[i]? = some o := by simpa using ho
    simp only [MT.fill, ho'] at h
    unfold wpTree at h
    by_cases hw : Region.wanted o (yielded ops a.tmps) = true
    · rw [if_pos hw] at h
      obtain ⟨v, hv, h⟩ := h
      exact wpAnyH_take ho hsel h2 h1 (fun c a w hc => hQ c _ _ w hc) (Or.inl ⟨hw, hv⟩) hS (wpAnyH_of_tree hsel hQ r _ _ _ hS h3 h)
    · rw [if_neg hw] at h
      exact wpAnyH_take ho hsel h2 h1 (fun c a w hc => hQ c _ _ w hc) (Or.inr ⟨by simpa using hw, rfl⟩) hS (wpAnyH_of_tree hsel hQ r _ _ _ hS h3 h)
  | .one i r, listed, a, w, hS, hB, h => by
    simp only [Region.treeB, Bool.and_eq_true, decide_eq_true_eq] at hB
    obtain ⟨h1, h3⟩ := hB
    refine wpAnyH_all h1 (by simp) (fun k hk => ?_)
    obtain rfl : k = i := by simpa using hk
    have hr : k ∈ Region.ready md ops listed := by rw [h1]; simp
    obtain ⟨_, o, ho, _⟩ := mem_ready.1 hr
    have ho' : ops.toList[k]? = some o := by simpa using ho
    simp only [MT.fill, ho'] at h
    unfold wpTree at h
    refine wpOp_step ho (fun K' hK => ?_)
    by_cases hw : Region.wanted o (yielded ops a.tmps) = true
    · rw [if_pos hw] at h ⊢
      exact Oper.wp_mono (fun a' w' ⟨hS', h'⟩ => hK a' w' ⟨hS', wpAnyH_of_tree hsel hQ r _ _ _ hS' h3 h'⟩) h
    · rw [if_neg hw] at h ⊢
      exact hK _ _ ⟨hS, wpAnyH_of_tree hsel hQ r _ _ _ hS h3 h⟩
  | .two i r j s, listed, a, w, hS, hB, h => by
    simp only [Region.treeB, Bool.and_eq_true, decide_eq_true_eq] at hB
    obtain ⟨⟨⟨h1, hd⟩, h3⟩, h4⟩ := hB
    have hi : i ∈ Region.ready md ops listed := by rw [h1]; simp
    have hj : j ∈ Region.ready md ops listed := by rw [h1]; simp
    obtain ⟨_, o, ho, _⟩ := mem_ready.1 hi
    obtain ⟨_, p, hp, _⟩ := mem_ready.1 hj
    have ho' : ops.toList[i]? = some o := by simpa using ho
    have hp' : ops.toList[j]? = some p := by simpa using hp
    simp only [MT.fill, ho', hp'] at h
    unfold wpTree at h
    refine wpAnyH_all h1 (by simp) (fun k hk => ?_)
    have hk : k = i ∨ k = j := by simpa using hk
    rcases hk with rfl | rfl
    · refine wpOp_step ho (fun K' hK => ?_)
      have h := h.1
      by_cases hw : Region.wanted o (yielded ops a.tmps) = true
      · rw [if_pos hw] at h ⊢
        exact Oper.wp_mono (fun a' w' ⟨hS', h'⟩ => hK a' w' ⟨hS', wpAnyH_of_tree hsel hQ r _ _ _ hS' h3 h'⟩) h
      · rw [if_neg hw] at h ⊢
        exact hK _ _ ⟨hS, wpAnyH_of_tree hsel hQ r _ _ _ hS h3 h⟩
    · refine wpOp_step hp (fun K' hK => ?_)
      have h := h.2
      by_cases hw : Region.wanted p (yielded ops a.tmps) = true
      · rw [if_pos hw] at h ⊢
        exact Oper.wp_mono (fun a' w' ⟨hS', h'⟩ => hK a' w' ⟨hS', hd ▸ wpAnyH_of_tree hsel hQ s _ _ _ hS' h4 h'⟩) h
      · rw [if_neg hw] at h ⊢
        exact hK _ _ ⟨hS, hd ▸ wpAnyH_of_tree hsel hQ s _ _ _ hS h4 h⟩

/-- **The law.** -/
theorem wp_region_tree {id : Nat} {a : Act} {w : World} {l : List Oper} (S : World → Prop) (t : MT) (hm : P.follows .mixedOrders = true)
    (hB : (Region.noSelect l.toArray && decide (t.depth = l.length) && Region.treeB .any l.toArray t (Array.replicate l.length false)) = true) (hS : S w.drew)
    (h : wpTree P l.toArray (NoPanic Q) S (t.fill l) a w.drew) : (Code.region id l.toArray true).wp P Q a w := by
  simp only [Bool.and_eq_true, decide_eq_true_eq] at hB
  obtain ⟨⟨h1, h2⟩, h3⟩ := hB
  refine wp_region_noPanic (wp_region_held (S := S) hm ?_)
  have := wpAnyH_of_tree (P := P) (Q := NoPanic Q) (S := S) h1 (fun c a a' w hc => by exact hc.elim) t _ a w.drew hS h3 (by simpa using h)
  rw [h2] at this
  simpa using this
end
end Go.Proofs.YtjjejkhekmpgcaaGreat

namespace Go.Proofs.YtjjejkhekmpgcaaGreat
set_option maxRecDepth 4000
open Go.RowKit

/-- these texts lie there -/
def strsAt (w : World) (ad : Option Addr) (l : List ByteArray) : Prop :=
  l = [] ∨ ∃ b off, ad = some ⟨b, off, none⟩ ∧ b < w.heap.size ∧ ∀ i (h : i < l.length), w.cell? ⟨b, off + i, none⟩ = some (.string l[i])
theorem strsAt_below {w w' : World} {B : Nat} {ad : Option Addr} {l : List ByteArray} (h : strsAt w ad l) (hB : w.heap.size ≤ B) (hb : Below B w w') : strsAt w' ad l := by
  rcases h with h | ⟨b, off, h1, h2, h3⟩
  · exact .inl h
  · refine .inr ⟨b, off, h1, by have := hb.size; omega, fun i hi => ?_⟩
    rw [hb.cell (p := ⟨b, off + i, none⟩) (by simp; omega)]
    exact h3 i hi
theorem strsAt_own {w : World} {base e : Nat} {v : Value} {l : List ByteArray} (h : w.ownsRow base e 1 v l.length (l.map Value.string)) : ∃ ad cap, v = .slice ad l.length cap ∧ strsAt w ad l := by
  rcases h.2 with ⟨h1, h2⟩ | ⟨g, cap, cur, hv, _, hg, _⟩
  · exact ⟨none, 0, by rw [h1, h2], .inl (List.eq_nil_of_length_eq_zero h2)⟩
  · refine ⟨some ⟨g, 0, none⟩, cap, hv, .inr ⟨g, 0, rfl, lt_of_block hg, fun i hi => ?_⟩⟩
    subst hv
    rw [Nat.zero_add, h.cellAt i (by omega)]
    simp [hi]

theorem strsAt_take {w : World} {ad : Option Addr} {l : List ByteArray} (h : strsAt w ad l) (k : Nat) : strsAt w ad (l.take k) := by
  rcases h with h | ⟨b, off, h1, h2, h3⟩
  · exact .inl (by rw [h, List.take_nil])
  · refine .inr ⟨b, off, h1, h2, fun i hi => ?_⟩
    have hi2 : i < l.length := by rw [List.length_take] at hi; omega
    rw [List.getElem_take]
    exact h3 i hi2
/-- a row of our own, newly laid -/
theorem row_new (w : World) (base size n : Nat) (e : TypeId) (cur : Array Value) (hb : base ≤ w.heap.size) (hn : cur.size = n * size) (hm : n ≤ maxLen) :
    (w.alloc (.cells cur e)).ownsRow base e size (.slice (some ⟨w.heap.size, 0, none⟩) n n) n cur.toList :=
  ⟨by simpa using hn, .inr ⟨w.heap.size, n, cur, rfl, hb, heap_alloc_top _ _, Nat.le_refl _, hm, hn, List.take_of_length_le (by simp [hn])⟩⟩
end Go.Proofs.YtjjejkhekmpgcaaGreat

namespace Go.Proofs.YtjjejkhekmpgcaaGreat
set_option maxRecDepth 4000
open Go.RowKit

theorem texts_eq {a b : ByteArray} (h : a.data = b.data) : a = b := by
  cases a; cases b; simp at h; rw [h]
theorem list_ne_at {α : Type} {l1 l2 : List α} {k : Nat} (h1 : k < l1.length) (h2 : k < l2.length) (h : l1[k] ≠ l2[k]) : l1 ≠ l2 := by
  rintro rfl
  exact h rfl

set_option maxHeartbeats 2000000 in
theorem texts_walk (ad1 ad2 : Option Addr) (cap1 cap2 : Nat) (l1 l2 : List ByteArray) (w : World) (hl1 : strsAt w ad1 l1) (hl2 : strsAt w ad2 l2) (hs1 : l1.length ≤ 9223372036854775807) :
    Calls Tryz.prog 17 #[.slice ad1 l1.length cap1, .slice ad2 l2.length cap2] w fun e w' => e = .returned (.bool (decide (l1 = l2))) ∧ Below w.heap.size w w' := by
  have HL1 := Lib.hid hl1; have HL2 := Lib.hid hl2
  clear hl1 hl2
  by_cases hlen : l1.length = l2.length
  · have HD := Lib.hid hlen
    obtain ⟨n, hn⟩ : ∃ n, n = l1.length := ⟨_, rfl⟩
    have hn2 : n = l2.length := hn.trans hlen
    have HN := Lib.hid hn; have HN2 := Lib.hid hn2
    rw [← hn2, ← hn]
    rw [← hn] at hs1
    clear hlen hn hn2
    go_enter Tryz.func17, Tryz.ntmps17
    go_wp2_with fail
    go_loopw [5] (fun i wr => ∃ k : Nat, k ≤ n ∧ i = .int .i64 k ∧ (∀ j (h1 : j < l1.length) (h2 : j < l2.length), j < k → l1[j] = l2[j]) ∧ Below w.heap.size w wr)
      (fun i _ => n - (intOf i).toNat)
    case atStart => exact ⟨0, by omega, rfl, fun j _ _ h => absurd h (by omega), Below.refl _ _⟩
    case round =>
      obtain ⟨k, hk, rfl, hsame, hB⟩ := hrel
      have HS := Lib.hid hsame; clear hsame
      by_cases hlt : k < n
      · have hk1 : k < l1.length := by rw [← HN.out]; exact hlt
        have hk2 : k < l2.length := by rw [← HN2.out]; exact hlt
        have g1 := strsAt_below HL1.out (Nat.le_refl _) hB
        have g2 := strsAt_below HL2.out (Nat.le_refl _) hB
        rcases g1 with g1 | ⟨b, off, rfl, hbl, hcs⟩
        · simp [g1] at hk1
        rcases g2 with g2 | ⟨c, off2, rfl, hcl, hds⟩
        · simp [g2] at hk2
        have c1 := hcs k hk1
        have d1 := hds k hk2
        obtain ⟨p, hp⟩ : ∃ p, p = l1[k] := ⟨_, rfl⟩
        obtain ⟨r, hr⟩ : ∃ r, r = l2[k] := ⟨_, rfl⟩
        rw [← hp] at c1
        rw [← hr] at d1
        have HP := Lib.hid hp; have HR := Lib.hid hr
        clear hcs hds hp hr
        have hcc := sub_cell c1 hbl
        have hdd := sub_cell d1 hcl
        have HBW := Lib.hid hB
        clear c1 d1 hB
        go_wp2_with fail
        refine wp_region_sub (W := wr) (B := wr.heap.size) (by kernel_rfl) (by kernel_rfl) (Below.refl _ _) ?_
        repeat (any_goals (first
          | go_big_quiet_skip
          | go_big_quiet_step (fail)
          | quiet_step (fail)))
        refine wpQuiet_nil ?_
        rintro w9 ⟨x9, rfl⟩
        have DB := Lib.hid (HBW.out.trans (x9.below.mono HBW.out.size))
        go_wp2_with fail
        · rename_i hx
          go_ret
          refine ⟨ret_bool (Eq.symm (decide_eq_false (list_ne_at hk1 hk2 ?_))), DB.out⟩
          rw [← HP.out, ← HR.out]
          rintro rfl
          simp at hx
        · rename_i hx
          go_roundw
          case rel =>
            refine ⟨k + 1, by omega, by go_num, ?_, DB.out⟩
            intro j h1 h2 hj
            by_cases hjk : j < k
            · exact HS.out j h1 h2 hjk
            · obtain rfl : j = k := by omega
              rw [← HP.out, ← HR.out]
              simp [ByteArray.toList_eq] at hx
              exact texts_eq hx
          case measure => simp [intOf]; omega
      · go_wp2_with fail
        go_ret
        refine ⟨ret_bool (Eq.symm (decide_eq_true ?_)), hB⟩
        exact List.ext_getElem HD.out fun j h1 h2 => HS.out j h1 h2 (by have := HN.out; omega)
  · have hne : decide (l1 = l2) = false := decide_eq_false (by rintro rfl; exact hlen rfl)
    rw [hne]
    go_enter Tryz.func17, Tryz.ntmps17
    go_wp2_with fail
    go_ret
    exact ⟨rfl, Below.refl _ _⟩
end Go.Proofs.YtjjejkhekmpgcaaGreat
