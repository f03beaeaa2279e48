/-
  Vectors as values: arrays of 65 whole numbers, told by a function of the index.
-/
import Derived.Test.YtjoacoiooijnlaaOwn
import Derived.Deep.Cut
import Derived.Deep.CutRange
namespace Go.Proofs.Ytjoacoiooijnlaa
open Go.RowKit

/-- a vector told by a function -/
def vec (f : Nat → Int) : Array Value := ((List.range 65).map fun i => Value.int .i64 (f i)).toArray

theorem vec_size (f : Nat → Int) : (vec f).size = 65 := by simp [vec]
theorem vec_get (f : Nat → Int) (i : Nat) (h : i < 65) : (vec f)[i]? = some (.int .i64 (f i)) := by
  simp [vec, h]
theorem vec_congr {f g : Nat → Int} (h : ∀ i, i < 65 → f i = g i) : vec f = vec g := by
  unfold vec
  congr 1
  apply List.map_congr_left
  intro i hi
  rw [h i (by simpa using hi)]
theorem vec_set (f : Nat → Int) (k : Nat) (x : Int) (h : k < 65) : (vec f).setIfInBounds k (.int .i64 x) = vec (fun i => if i = k then x else f i) := by
  apply Array.ext_getElem?
  intro i
  rw [Array.getElem?_setIfInBounds]
  by_cases e : k = i
  · subst e; rw [if_pos rfl, if_pos (by rw [vec_size]; exact h), vec_get _ _ h]; simp
  · rw [if_neg e]
    rcases Nat.lt_or_ge i 65 with hi | hi
    · have e' : ¬ i = k := fun x => e x.symm
      rw [vec_get _ _ hi, vec_get _ _ hi, if_neg e']
    · rw [Array.getElem?_eq_none (by rw [vec_size]; exact hi), Array.getElem?_eq_none (by rw [vec_size]; exact hi)]
theorem vec_one (f : Nat → Int) : (vec f).all (·.oneCell') = true := by
  rw [Array.all_eq_true_iff_forall_mem]
  intro v hv
  simp [vec] at hv
  obtain ⟨i, _, rfl⟩ := hv
  rfl
theorem vec_inj {f g : Nat → Int} (h : vec f = vec g) (i : Nat) (hi : i < 65) : f i = g i := by
  have := congrArg (fun a : Array Value => a[i]?) h
  simp only [vec_get _ _ hi] at this
  simpa using this
/-- are two vectors the same? -/
def vecEq (f g : Nat → Int) : Bool := (List.range' 0 65).all fun i => f i == g i
theorem vecEq_iff (f g : Nat → Int) : vecEq f g = true ↔ ∀ i, i < 65 → f i = g i := by
  simp [vecEq]

theorem info_vec : (Try.prog.info? 23).map (·.size) = some 65 := by kernel_rfl
theorem info_int : (Try.prog.info? 3).map (fun i => (i.zero, i.size, i.bytes)) = some (some (.int .i64 0), 1, 8) := by kernel_rfl

/-- a vector of noughts -/
def vnil : Nat → Int := fun _ => 0
theorem zero_vec (w : World) : (zeroValue 23).run Try.prog w = .ok (.agg (vec vnil)) w := by kernel_rfl

theorem part_vec (f : Nat → Int) (i : Nat) (h : i < 65) (w : World) : (part 3 (vec f) i).run Try.prog w = .ok (.int .i64 (f i)) w := by
  have ha : (isAgg 3).run Try.prog w = .ok false w := by kernel_rfl
  simp [part, Sem.run_bind, ha, vec_get f i h]

theorem size_int (w : World) : (sizeOf 3).run Try.prog w = .ok 1 w := by kernel_rfl

theorem index_vec (f : Nat → Int) (i : Nat) (h : i < 65) (w : World) : (Instr.index 23 (.agg (vec f)) (.int .i64 (i : Int))).run Try.prog w = .ok (.int .i64 (f i)) w := by
  have hu := run_underlying (P := Try.prog) (t := 23) Try.underlying23 w
  have hi : 0 ≤ (i : Int) ∧ (i : Int) < 65 := by omega
  simp [Instr.index, Sem.run_bind, asIntOf, hu, hi, size_int, part_vec f i h]
  omega

theorem eq_int (a b : Int) (w : World) : (Op.equalIn 9999 3 (.int .i64 a) (.int .i64 b)).run Try.prog w = .ok (a == b) w := by
  have hu := run_underlying (P := Try.prog) (t := 3) Try.underlying3 w
  unfold Op.equalIn
  simp [Sem.run_bind, hu]

theorem eq_loop (f g : Nat → Int) (w : World) : ∀ (m s : Nat), s + m ≤ 65 →
    Sem.run Try.prog (forIn (List.range' s m) ((none, ()) : Option Bool × Unit) fun i _ => do
            let a ← part 3 (vec f) i
            let b ← part 3 (vec g) i
            let r ← Op.equalIn 9999 3 a b
            if r = false then pure (ForInStep.done (some false, ())) else pure (ForInStep.yield (none, ()))) w =
      .ok (if (List.range' s m).all (fun i => f i == g i) then (none, ()) else (some false, ())) w := by
  intro m
  induction m with
  | zero => intro s _; simp [Sem.run_pure]
  | succ m ih =>
    intro s hs
    have ih' := ih (s + 1) (by omega)
    simp only [List.range'_succ, List.forIn_cons, Sem.run_bind, part_vec f s (by omega), part_vec g s (by omega), Result.andThen_ok, eq_int, List.all_cons]
    by_cases e : f s = g s
    · have e1 : (f s == g s) = true := by simp [e]
      simp only [e1, Bool.true_and]
      simp only [Bool.true_eq_false, if_false, Sem.run_pure, Result.andThen_ok]
      exact ih'
    · have e1 : (f s == g s) = false := by simp [e]
      simp [e1, Sem.run_pure]

theorem eq_vec (f g : Nat → Int) (w : World) : (Op.equalIn 10000 23 (.agg (vec f)) (.agg (vec g))).run Try.prog w = .ok (vecEq f g) w := by
  have hu := run_underlying (P := Try.prog) (t := 23) Try.underlying23 w
  have hl := eq_loop f g w 65 0 (by omega)
  unfold Op.equalIn
  simp only [Sem.run_bind, hu, size_int, Result.andThen_ok]
  simp
  rw [hl]
  unfold vecEq
  generalize (List.range' 0 65).all (fun i => f i == g i) = b
  cases b <;> rfl

/-- a store into a vector's block -/
theorem vec_store {w : World} {b : Nat} {t : TypeId} {f : Nat → Int} (h : w.heap[b]? = some (.cells (vec f) t (0, 0))) (k : Nat) (hk : k < 65) (x : Int) :
    (w.setCell ⟨b, k, none⟩ (.int .i64 x)).heap[b]? = some (.cells (vec fun i => if i = k then x else f i) t (0, 0)) := by
  rw [heap_setCell_same w b k _ t _ h, vec_set f k x hk]
theorem vec_cell {w : World} {b : Nat} {t : TypeId} {f : Nat → Int} (h : w.heap[b]? = some (.cells (vec f) t (0, 0))) (k : Nat) (hk : k < 65) :
    w.cell? ⟨b, k, none⟩ = some (.int .i64 (f k)) := by
  rw [cell_of_row w b k _ t _ h, vec_get f k hk]
theorem vec_free {w : World} {b : Nat} {t : TypeId} {f : Nat → Int} (h : w.heap[b]? = some (.cells (vec f) t (0, 0))) (k : Nat) : w.frozen? ⟨b, k, none⟩ = false :=
  frozen_of_row w b k _ t h

theorem two_blocks (w : World) (A B : Obj) : ((w.alloc A).alloc B).heap[w.heap.size]? = some A ∧ ((w.alloc A).alloc B).heap[w.heap.size + 1]? = some B ∧ Below w.heap.size w ((w.alloc A).alloc B) ∧ ((w.alloc A).alloc B).heap.size = w.heap.size + 2 :=
  ⟨heap_alloc2_old w A B, heap_alloc2_new w A B, ((Below.refl _ _).alloc (Nat.le_refl _) _).alloc (by simp) _, by simp⟩
theorem heap_setRow_same {w : World} {g : Nat} {cur cs : Array Value} {t : TypeId} (h : w.heap[g]? = some (.cells cur t (0, 0))) : (w.setRow g cs).heap[g]? = some (.cells cs t (0, 0)) := setRow_heap w g cur cs t _ h
theorem heap_setRow_other (w : World) (g k : Nat) (cs : Array Value) (h : k ≠ g) : (w.setRow g cs).heap[k]? = w.heap[k]? := setRow_other w g k cs h
theorem below_setRow {B : Nat} {a w : World} (h : Below B a w) {g : Nat} (hg : B ≤ g) (cs : Array Value) : Below B a (w.setRow g cs) :=
  h.trans ⟨rfl, rfl, rfl, by simp, fun k hk => setRow_other w g k cs (by omega)⟩

/-- a vector as it counts -/
def vclean (f : Nat → Int) : Nat → Int := fun i => if i = 0 then 0 else max (f i) 0
theorem clean_step (f : Nat → Int) (k : Nat) : (vec fun i => if i = k then (if (if k = 0 then 0 else f k) < 0 then 0 else if k = 0 then 0 else f k) else (if i < k then vclean f i else if i = 0 then 0 else f i)) =
    vec (fun i => if i < k + 1 then vclean f i else if i = 0 then 0 else f i) := by
  apply vec_congr
  intro i _
  rcases Nat.lt_trichotomy i k with h | h | h
  · simp only [show ¬ i = k by omega, if_false, h, if_true, show i < k + 1 by omega]
  · subst h
    simp only [if_true, show i < i + 1 by omega]
    unfold vclean
    by_cases e0 : i = 0
    · simp [e0]
    · simp only [e0, if_false]; split <;> omega
  · simp only [show ¬ i = k by omega, if_false, show ¬ i < k by omega, show ¬ i < k + 1 by omega]

set_option maxHeartbeats 400000 in
theorem clean_walk (f : Nat → Int) (w : World) :
    Calls Try.prog 7 #[.agg (vec f)] w fun e w' => e = .returned (.agg (vec (vclean f))) ∧ Below w.heap.size w w' := by
  have hz := zero_vec
  go_enter Try.func7, Try.ntmps7
  go_upto_region 1 with fail
  obtain ⟨h0, h1, hB, hS⟩ := two_blocks w (.cells (vec f) 23) (.cells (vec vnil) 23)
  generalize (w.alloc (.cells (vec f) 23)).alloc (.cells (vec vnil) 23) = W1 at h0 h1 hB hS ⊢
  have hc := vec_cell h0 0 (by omega)
  have hf := vec_free h0 0
  have h0' := vec_store h0 0 (by omega) 0
  have h1' := (heap_setCell_ne W1 w.heap.size (w.heap.size + 1) 0 (.int .i64 0) (by omega)).trans h1
  have hB' := hB.setCell (p := ⟨w.heap.size, 0, none⟩) (Nat.le_refl _) (.int .i64 0)
  have H0 := Lib.hid h0'; have H1 := Lib.hid h1'; have HB := Lib.hid hB'
  clear h0 h1 hB hS h0' h1' hB'
  go_upto_region 2 with fail
  generalize W1.setCell ⟨w.heap.size, 0, none⟩ (.int .i64 0) = W2 at H0 H1 HB ⊢
  clear hc hf
  go_wp2_with (refine wpList_load_row rfl 23 _ rfl w.heap.size rfl 23 (vec fun i => if i = 0 then 0 else f i) (0, 0) _ H0.out Try.underlying23 rfl (by rw [vec_size]; exact info_vec) ?_)
  go_loopw [7] (fun i wr => ∃ k : Nat, k ≤ 65 ∧ i = .int .i64 k ∧ wr.heap[w.heap.size]? = some (.cells (vec fun i => if i < k then vclean f i else if i = 0 then 0 else f i) 23 (0, 0)) ∧ wr.heap[w.heap.size + 1]? = some (.cells (vec vnil) 23 (0, 0)) ∧ Below w.heap.size w wr)
    (fun i _ => 65 - (intOf i).toNat)
  case atStart => exact ⟨0, by omega, rfl, by simpa using H0.out, H1.out, HB.out⟩
  case round =>
    obtain ⟨k, hk, rfl, h0, h1, hB⟩ := hrel
    by_cases hlt : k < 65
    · have hidx := index_vec (fun i => if i = 0 then 0 else f i) k hlt
      have hc := vec_cell h0 k hlt
      have hf := vec_free h0 k
      have H0 := Lib.hid h0; have H1 := Lib.hid h1; clear h0 h1
      go_wp2_with fail
      go_roundw
      case rel =>
        refine ⟨k + 1, by omega, by go_num, ?_, (heap_setCell_ne _ _ _ _ _ (by omega)).trans H1.out, hB.setCell (Nat.le_refl _) _⟩
        exact (vec_store H0.out k hlt _).trans (by rw [clean_step])
      case measure => simp [intOf]; omega
    · obtain rfl : k = 65 := by omega
      have h0' : wr.heap[w.heap.size]? = some (.cells (vec (vclean f)) 23 (0, 0)) := by
        rw [h0, vec_congr]
        intro i hi
        rw [if_pos hi]
      have H0 := Lib.hid h0'; have H1 := Lib.hid h1; clear h0 h1 h0'
      go_wp2_with (first
        | (refine wpList_load_row rfl 23 _ rfl w.heap.size rfl 23 (vec (vclean f)) (0, 0) _ H0.out Try.underlying23 rfl (by rw [vec_size]; exact info_vec) ?_)
        | (refine wpList_store_row rfl 23 _ _ rfl (w.heap.size + 1) (vec (vclean f)) rfl rfl 23 (vec vnil) H1.out (by rw [vec_size]; exact info_vec) (by rw [vec_size, vec_size]) (vec_one _) ?_))
      exact bodyPost_ret (v := .agg (vec (vclean f))) (results_cell_row rfl _ _ (w.heap.size + 1) 23 (vec (vclean f)) (0, 0) _ rfl (heap_setRow_same H1.out) Try.underlying23 rfl (by rw [vec_size]; exact info_vec)) rfl ⟨rfl, below_setRow hB (Nat.le_succ _) _⟩
end Go.Proofs.Ytjoacoiooijnlaa
