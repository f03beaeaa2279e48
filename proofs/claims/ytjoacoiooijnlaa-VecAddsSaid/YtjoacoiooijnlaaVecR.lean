/-
  The walk of VecAdds, and its plain law. (Written by genadds.py.)
-/
import Derived.Test.YtjoacoiooijnlaaVecN
import Derived.Test.YtjoacoiooijnlaaPlain
import Derived.Deep.Cut
namespace Go.Proofs.Ytjoacoiooijnlaa
open Go.RowKit

theorem vof_rof_snoc (f : Nat → Int) (g : Nat → Int) (b n : Int) (h : ∀ i, f i = g i ∧ vclean g i = g i) (i : Nat) : vadd f b n i = radd g b n i ∧ vclean (radd g b n) i = radd g b n i := by
  have hf : ∀ i, vclean f i = g i := fun i => by
    rw [← (h i).2]; unfold vclean; rw [(h i).1]
  have hg0 : g 0 = 0 := by rw [← (h 0).2, vclean_zero]
  have hgn : ∀ i, 0 ≤ g i := fun i => by rw [← (h i).2]; exact vclean_nonneg g i
  have he : vadd f b n i = radd g b n i := by
    unfold vadd radd
    rw [hf]
    by_cases hv : verOk b n = true
    · by_cases hi : (i : Int) = b
      · subst hi
        simp only [hv, Int.toNat_natCast, true_and, and_true, if_true]
        by_cases hl : g i < n
        · rw [if_pos hl]; omega
        · rw [if_neg hl]; omega
      · simp [hi]
    · simp [hv]
  refine ⟨he, ?_⟩
  rcases Nat.eq_zero_or_pos i with rfl | hp
  · rw [vclean_zero]
    unfold radd
    rw [hg0]
    by_cases hc : verOk b n = true ∧ g b.toNat < n ∧ ((0 : Nat) : Int) = b
    · have := (verOk_iff b n).1 hc.1; omega
    · rw [if_neg hc]
  · rw [vclean_pos _ i hp]
    unfold radd
    by_cases hc : verOk b n = true ∧ g b.toNat < n ∧ (i : Int) = b
    · have := (verOk_iff b n).1 hc.1; rw [if_pos hc]; omega
    · rw [if_neg hc]; have := hgn i; omega
theorem vof_rof_go : ∀ (l : List (Int × Int)) (f g : Nat → Int), (∀ i, f i = g i ∧ vclean g i = g i) → ∀ i, l.foldl (fun f p => vadd f p.1 p.2) f i = l.foldl (fun f p => radd f p.1 p.2) g i
  | [], f, g, h, i => (h i).1
  | p :: r, f, g, h, i => vof_rof_go r _ _ (fun i => vof_rof_snoc f g p.1 p.2 h i) i
theorem vof_rof (l : List (Int × Int)) : vecEq (vof l) (rof l) = true := (vecEq_iff _ _).2 fun i _ => vof_rof_go l vnil vnil (fun i => ⟨rfl, by simp [vclean, vnil]⟩) i

theorem vadd_plain (f : Nat → Int) (b n : Int) : vplain (vadd f b n) = true := by
  refine vplain_of ?_ fun i _ _ => ?_
  · unfold vadd
    rw [vclean_zero]
    by_cases hc : verOk b n = true ∧ ((0 : Nat) : Int) = b
    · have := (verOk_iff b n).1 hc.1; omega
    · rw [if_neg hc]
  · have := vclean_nonneg f i
    unfold vadd
    split <;> omega
theorem vadd_cov (f : Nat → Int) (b n : Int) : vcov (vadd f b n) f = true := by
  rw [vcov_iff]
  intro i h1 h2
  rw [vat_pos _ i h1 h2, vat_pos _ i h1 h2, ← vclean_pos f i h1]
  unfold vadd
  split <;> omega
theorem vadd_grown (f : Nat → Int) (b n c m : Int) : rhas (vadd f b n) c m = (rhas f c m || (verOk b n && verOk c m && decide (c = b) && decide (m ≤ n))) := by
  rw [Bool.eq_iff_iff, Bool.or_eq_true, Bool.and_eq_true, Bool.and_eq_true, Bool.and_eq_true, decide_eq_true_iff, decide_eq_true_iff, rhas_iff, rhas_iff, verOk_iff c m]
  unfold vadd
  constructor
  · rintro ⟨⟨h1, h2, h3⟩, h⟩
    rw [vclean_pos f _ (by omega)] at h
    by_cases hc : verOk b n = true ∧ (c.toNat : Int) = b
    · rw [if_pos hc] at h
      by_cases hm : m ≤ n
      · exact .inr ⟨⟨⟨hc.1, h1, h2, h3⟩, by omega⟩, hm⟩
      · exact .inl ⟨⟨h1, h2, h3⟩, by omega⟩
    · rw [if_neg hc] at h
      exact .inl ⟨⟨h1, h2, h3⟩, by omega⟩
  · rintro (⟨⟨h1, h2, h3⟩, h⟩ | ⟨⟨⟨hb, h1, h2, h3⟩, hc⟩, hm⟩)
    · refine ⟨⟨h1, h2, h3⟩, ?_⟩
      rw [vclean_pos f _ (by omega)]
      split <;> omega
    · refine ⟨⟨h1, h2, h3⟩, ?_⟩
      rw [if_pos ⟨hb, by omega⟩]
      omega

/-- the one argument's cells -/
def four (s : Value) (f : Nat → Int) (xb xn yb yn : Int) : Array Value := (s :: ((vec f).toList ++ [.int .i64 xb, .int .i64 xn, .int .i64 yb, .int .i64 yn])).toArray
theorem four_size (s : Value) (f : Nat → Int) (xb xn yb yn : Int) : (four s f xb xn yb yn).size = 70 := by simp [four, vec_size]
theorem four_vec (s : Value) (f : Nat → Int) (xb xn yb yn : Int) (i : Nat) (u : Value) (h : (vec f).toList[i]? = some u) : (four s f xb xn yb yn)[1 + i]? = some u := by
  have hi : i < 65 := by
    rcases Nat.lt_or_ge i 65 with h1 | h1
    · exact h1
    · rw [List.getElem?_eq_none (by simpa [vec_size] using h1)] at h; cases h
  unfold four
  rw [List.getElem?_toArray, Nat.add_comm, List.getElem?_cons_succ, List.getElem?_append_left (by simpa [vec_size] using hi)]
  exact h
theorem four_end (s : Value) (f : Nat → Int) (xb xn yb yn : Int) (i : Nat) : (four s f xb xn yb yn)[66 + i]? = [Value.int .i64 xb, .int .i64 xn, .int .i64 yb, .int .i64 yn][i]? := by
  unfold four
  rw [List.getElem?_toArray, show 66 + i = (65 + i) + 1 by omega, List.getElem?_cons_succ, List.getElem?_append_right (by simp [vec_size])]
  simp [vec_size]
section
variable {w : World} {b : Nat} {s : Value} {f : Nat → Int} {xb xn yb yn : Int} {t : TypeId}
theorem four_at0 (h : w.heap[b]? = some (.cells (four s f xb xn yb yn) t (0, 0))) : w.cell? ⟨b, 0, none⟩ = some s := by rw [cell_of_row w b 0 _ _ _ h]; rfl
theorem four_atV (h : w.heap[b]? = some (.cells (four s f xb xn yb yn) t (0, 0))) : ∀ j u, (vec f).toList[j]? = some u → w.cell? ⟨b, 1 + j, none⟩ = some u := fun j u hu => by rw [cell_of_row w b (1 + j) _ _ _ h]; exact four_vec s f xb xn yb yn j u hu
theorem four_atX (h : w.heap[b]? = some (.cells (four s f xb xn yb yn) t (0, 0))) : ∀ j u, [Value.int .i64 xb, .int .i64 xn][j]? = some u → w.cell? ⟨b, 66 + j, none⟩ = some u := fun j u hu => by
  rw [cell_of_row w b (66 + j) _ _ _ h, four_end]
  match j, hu with
  | 0, hu => exact hu
  | 1, hu => exact hu
  | j + 2, hu => simp at hu
theorem four_atY (h : w.heap[b]? = some (.cells (four s f xb xn yb yn) t (0, 0))) : ∀ j u, [Value.int .i64 yb, .int .i64 yn][j]? = some u → w.cell? ⟨b, 68 + j, none⟩ = some u := fun j u hu => by
  rw [cell_of_row w b (68 + j) _ _ _ h, show 68 + j = 66 + (2 + j) by omega, four_end, show 2 + j = j + 1 + 1 by omega, List.getElem?_cons_succ, List.getElem?_cons_succ]
  exact hu
end

theorem wp_load_cells {P : Program} {o : Oper} {a : Act} {w : World} {K : Act → World → Prop} {Q : Exit → Act → World → Prop} (ty : TypeId) (x : Operand) (ho : o.op = .load ty x)
    (b off : Nat) (hx : a.eval x = .pointer (some ⟨b, off, none⟩)) (cs : List Value) (d : TypeDesc) (hc : ∀ j u, cs[j]? = some u → w.cell? ⟨b, off + j, none⟩ = some u)
    (hu : P.underlying ty = some d) (hd : (match d with | .struct _ | .array _ _ => true | _ => false) = true) (hi : (P.info? ty).map (·.size) = some cs.length)
    (h : K (a.put o.dst (.agg cs.toArray)) w) : o.wp P a w K Q := by
  unfold Oper.wp execOp
  simp only [ho, hx, Instr.loadAt, Instr.sureAddr, Sem.run_bind, Sem.run_pure, Result.andThen_ok, run_load_cells w b off ty cs d hc hu hd hi]
  exact h

attribute [local irreducible] vec vclean vadd four vof rof vcov vplain

set_option maxHeartbeats 8000000 in
theorem vecAdds_walk (ad : Option Addr) (cap : Nat) (l : List (Int × Int)) (f : Nat → Int) (xb xn yb yn : Int) (w : World) (hl : versAt w ad l) (hs : l.length ≤ 9223372036854775807) (hcap : l.length ≤ cap) :
    Calls Try.prog 4 #[.agg (four (.slice ad l.length cap) f xb xn yb yn)] w fun e w' => e = .returned (.bool true) ∧ Below w.heap.size w w' := by
  have hz := zero_vec
  go_enter Try.func4, Try.ntmps4
  go_upto_region 1 with fail
  have g0 := heap_alloc_top w (.cells (four (.slice ad l.length cap) f xb xn yb yn) 37)
  have hB := below_alloc w (.cells (four (.slice ad l.length cap) f xb xn yb yn) 37)
  have hS : w.heap.size < (w.alloc (.cells (four (.slice ad l.length cap) f xb xn yb yn) 37)).heap.size := by simp
  have hl1 := versAt_below hl (Nat.le_refl _) hB
  generalize w.alloc (.cells (four (.slice ad l.length cap) f xb xn yb yn) 37) = W at g0 hB hS hl1 ⊢
  have HG0 := Lib.hid (sub_row g0 (B := W.heap.size) (by omega))
  have HB := Lib.hid hB
  have HL := Lib.hid hl1
  clear g0 hB hS hl hl1
  refine wp_region_inv 14 (by kernel_rfl) (by kernel_rfl) (fun a L a' w' => ∃ t0 t1 t2 t3 t4 t5 t6 t7 t8 t9 t10 t11 : Value,
    a' = ((((((((((((a.put (some 9) t0).put (some 10) t1).put (some 11) t2).put (some 12) t3).put (some 13) t4).put (some 14) t5).put (some 15) t6).put (some 16) t7).put (some 4) t8).put (some 5) t9).put (some 6) t10).put (some 3) t11) ∧ Below W.heap.size W w' ∧
    (L 0 = true → t0 = (.pointer (some ⟨w.heap.size, 0, none⟩))) ∧ (L 1 = true → t1 = (.slice ad l.length cap)) ∧ (L 2 = true → t2 = (.pointer (some ⟨w.heap.size, 1, none⟩))) ∧ (L 3 = true → t3 = (.agg (vec f))) ∧ (L 4 = true → t4 = (.pointer (some ⟨w.heap.size, 66, none⟩))) ∧ (L 5 = true → t5 = (.agg #[.int .i64 xb, .int .i64 xn])) ∧ (L 6 = true → t6 = (.pointer (some ⟨w.heap.size, 68, none⟩))) ∧ (L 7 = true → t7 = (.agg #[.int .i64 yb, .int .i64 yn])) ∧ (L 8 = true → ∃ p, t8 = .pointer (some ⟨p, 0, none⟩) ∧ W.heap.size ≤ p ∧ w'.heap[p]? = some (.cells (if L 12 = true then (vec f) else (vec vnil)) 23 (0, 0))) ∧ (L 9 = true → ∃ p, t9 = .pointer (some ⟨p, 0, none⟩) ∧ W.heap.size ≤ p ∧ w'.heap[p]? = some (.cells (if L 13 = true then #[.int .i64 xb, .int .i64 xn] else #[.int .i64 0, .int .i64 0]) 25 (0, 0))) ∧ (L 10 = true → ∃ p, t10 = .pointer (some ⟨p, 0, none⟩) ∧ W.heap.size ≤ p ∧ w'.heap[p]? = some (.cells #[.int .i64 0, .int .i64 0] 25 (0, 0))) ∧ (L 11 = true → t11 = (.slice ad l.length cap)) ∧ (L 8 = true → L 9 = true → t8 ≠ t9) ∧ (L 8 = true → L 10 = true → t8 ≠ t10) ∧ (L 9 = true → L 10 = true → t9 ≠ t10) ∧ (L 12 = true → L 8 = true) ∧ (L 13 = true → L 9 = true)) ?_ ?_ ?_
  · refine ⟨undef, undef, undef, undef, undef, undef, undef, undef, undef, undef, undef, undef, ?_, (Below.refl _ _).drew, ?_⟩
    · simp only [Act.put, List.setIfInBounds_toArray, List.set_cons_succ, List.set_cons_zero]
    · simp
  · rintro L a' w' i o ⟨t0, t1, t2, t3, t4, t5, t6, t7, t8, t9, t10, t11, rfl, hB', i0, i1, i2, i3, i4, i5, i6, i7, i8, i9, i10, i11, n8_9, n8_10, n9_10, m12, m13⟩ hi hL ho hd K' hK
    simp only [Act.put, List.setIfInBounds_toArray, List.set_cons_succ, List.set_cons_zero]
    match i, hi with
    | 0, _ =>
      cases ho
      rw [if_pos (by rfl)]
      go_simp
      refine hK _ _ ?_
      refine ⟨(.pointer (some ⟨w.heap.size, 0, none⟩)), t1, t2, t3, t4, t5, t6, t7, t8, t9, t10, t11, ?_, hB', fun _ => rfl, i1, i2, i3, i4, i5, i6, i7, i8, i9, i10, i11, n8_9, n8_10, n9_10, m12, m13⟩
      simp only [Act.put, List.setIfInBounds_toArray, List.set_cons_succ, List.set_cons_zero]
    | 1, _ =>
      cases ho
      obtain rfl := i0 (hd ⟨0, .data⟩ (by simp) rfl)
      rw [if_pos (by rfl)]
      have hrow := HG0.out _ (inSub_of hB')
      have hc := four_at0 hrow
      clear hrow
      go_simp
      refine hK _ _ ?_
      refine ⟨_, (.slice ad l.length cap), t2, t3, t4, t5, t6, t7, t8, t9, t10, t11, ?_, hB', i0, fun _ => rfl, i2, i3, i4, i5, i6, i7, i8, i9, i10, i11, n8_9, n8_10, n9_10, m12, m13⟩
      simp only [Act.put, List.setIfInBounds_toArray, List.set_cons_succ, List.set_cons_zero]
    | 2, _ =>
      cases ho
      rw [if_pos (by rfl)]
      go_simp
      refine hK _ _ ?_
      refine ⟨t0, t1, (.pointer (some ⟨w.heap.size, 1, none⟩)), t3, t4, t5, t6, t7, t8, t9, t10, t11, ?_, hB', i0, i1, fun _ => rfl, i3, i4, i5, i6, i7, i8, i9, i10, i11, n8_9, n8_10, n9_10, m12, m13⟩
      simp only [Act.put, List.setIfInBounds_toArray, List.set_cons_succ, List.set_cons_zero]
    | 3, _ =>
      cases ho
      obtain rfl := i2 (hd ⟨2, .data⟩ (by simp) rfl)
      rw [if_pos (by rfl)]
      have hrow := HG0.out _ (inSub_of hB')
      refine wp_load_cells 23 _ rfl w.heap.size 1 rfl (vec f).toList _ (four_atV hrow) Try.underlying23 rfl (by simpa using info_vec' f) (hK _ _ ?_)
      refine ⟨t0, t1, _, (.agg (vec f)), t4, t5, t6, t7, t8, t9, t10, t11, ?_, hB', i0, i1, i2, fun _ => rfl, i4, i5, i6, i7, i8, i9, i10, i11, n8_9, n8_10, n9_10, m12, m13⟩
      simp only [Act.put, List.setIfInBounds_toArray, List.set_cons_succ, List.set_cons_zero]
    | 4, _ =>
      cases ho
      rw [if_pos (by rfl)]
      go_simp
      refine hK _ _ ?_
      refine ⟨t0, t1, t2, t3, (.pointer (some ⟨w.heap.size, 66, none⟩)), t5, t6, t7, t8, t9, t10, t11, ?_, hB', i0, i1, i2, i3, fun _ => rfl, i5, i6, i7, i8, i9, i10, i11, n8_9, n8_10, n9_10, m12, m13⟩
      simp only [Act.put, List.setIfInBounds_toArray, List.set_cons_succ, List.set_cons_zero]
    | 5, _ =>
      cases ho
      obtain rfl := i4 (hd ⟨4, .data⟩ (by simp) rfl)
      rw [if_pos (by rfl)]
      have hrow := HG0.out _ (inSub_of hB')
      refine wp_load_cells 25 _ rfl w.heap.size 66 rfl [.int .i64 xb, .int .i64 xn] _ (four_atX hrow) Try.underlying25 rfl (by kernel_rfl) (hK _ _ ?_)
      refine ⟨t0, t1, t2, t3, _, (.agg #[.int .i64 xb, .int .i64 xn]), t6, t7, t8, t9, t10, t11, ?_, hB', i0, i1, i2, i3, i4, fun _ => rfl, i6, i7, i8, i9, i10, i11, n8_9, n8_10, n9_10, m12, m13⟩
      simp only [Act.put, List.setIfInBounds_toArray, List.set_cons_succ, List.set_cons_zero]
    | 6, _ =>
      cases ho
      rw [if_pos (by rfl)]
      go_simp
      refine hK _ _ ?_
      refine ⟨t0, t1, t2, t3, t4, t5, (.pointer (some ⟨w.heap.size, 68, none⟩)), t7, t8, t9, t10, t11, ?_, hB', i0, i1, i2, i3, i4, i5, fun _ => rfl, i7, i8, i9, i10, i11, n8_9, n8_10, n9_10, m12, m13⟩
      simp only [Act.put, List.setIfInBounds_toArray, List.set_cons_succ, List.set_cons_zero]
    | 7, _ =>
      cases ho
      obtain rfl := i6 (hd ⟨6, .data⟩ (by simp) rfl)
      rw [if_pos (by rfl)]
      have hrow := HG0.out _ (inSub_of hB')
      refine wp_load_cells 25 _ rfl w.heap.size 68 rfl [.int .i64 yb, .int .i64 yn] _ (four_atY hrow) Try.underlying25 rfl (by kernel_rfl) (hK _ _ ?_)
      refine ⟨t0, t1, t2, t3, t4, t5, _, (.agg #[.int .i64 yb, .int .i64 yn]), t8, t9, t10, t11, ?_, hB', i0, i1, i2, i3, i4, i5, i6, fun _ => rfl, i8, i9, i10, i11, n8_9, n8_10, n9_10, m12, m13⟩
      simp only [Act.put, List.setIfInBounds_toArray, List.set_cons_succ, List.set_cons_zero]
    | 8, _ =>
      cases ho
      rw [if_pos (by rfl)]
      go_simp
      refine hK _ _ ?_
      refine ⟨t0, t1, t2, t3, t4, t5, t6, t7, (.pointer (some ⟨w'.heap.size, 0, none⟩)), t9, t10, t11, ?_, hB'.alloc hB'.size _, i0, i1, i2, i3, i4, i5, i6, i7, fun _ => ⟨_, rfl, hB'.size, by first | exact heap_alloc_top w' _ | (rw [if_neg (show ¬ done1 L 8 12 = true from fun h => by have := m12 h; rw [hL] at this; cases this)]; exact heap_alloc_top w' _)⟩, fun h => (by obtain ⟨p, e1, e2, e3⟩ := i9 h; exact ⟨p, e1, e2, ((below_alloc w' (.cells (vec vnil) 23)).block p (lt_of_block e3)).trans e3⟩), fun h => (by obtain ⟨p, e1, e2, e3⟩ := i10 h; exact ⟨p, e1, e2, ((below_alloc w' (.cells (vec vnil) 23)).block p (lt_of_block e3)).trans e3⟩), i11, fun _ h => (by obtain ⟨p, e1, e2, e3⟩ := i9 h; rw [e1]; have := lt_of_block e3; intro e; cases e; omega), fun _ h => (by obtain ⟨p, e1, e2, e3⟩ := i10 h; rw [e1]; have := lt_of_block e3; intro e; cases e; omega), n9_10, fun _ => rfl, m13⟩
      simp only [Act.put, List.setIfInBounds_toArray, List.set_cons_succ, List.set_cons_zero]
    | 9, _ =>
      cases ho
      rw [if_pos (by rfl)]
      go_simp
      refine hK _ _ ?_
      refine ⟨t0, t1, t2, t3, t4, t5, t6, t7, t8, (.pointer (some ⟨w'.heap.size, 0, none⟩)), t10, t11, ?_, hB'.alloc hB'.size _, i0, i1, i2, i3, i4, i5, i6, i7, fun h => (by obtain ⟨p, e1, e2, e3⟩ := i8 h; exact ⟨p, e1, e2, ((below_alloc w' (.cells #[.int .i64 0, .int .i64 0] 25)).block p (lt_of_block e3)).trans e3⟩), fun _ => ⟨_, rfl, hB'.size, by first | exact heap_alloc_top w' _ | (rw [if_neg (show ¬ done1 L 9 13 = true from fun h => by have := m13 h; rw [hL] at this; cases this)]; exact heap_alloc_top w' _)⟩, fun h => (by obtain ⟨p, e1, e2, e3⟩ := i10 h; exact ⟨p, e1, e2, ((below_alloc w' (.cells #[.int .i64 0, .int .i64 0] 25)).block p (lt_of_block e3)).trans e3⟩), i11, fun h _ => (by obtain ⟨p, e1, e2, e3⟩ := i8 h; rw [e1]; have := lt_of_block e3; intro e; cases e; omega), n8_10, fun _ h => (by obtain ⟨p, e1, e2, e3⟩ := i10 h; rw [e1]; have := lt_of_block e3; intro e; cases e; omega), m12, fun _ => rfl⟩
      simp only [Act.put, List.setIfInBounds_toArray, List.set_cons_succ, List.set_cons_zero]
    | 10, _ =>
      cases ho
      rw [if_pos (by rfl)]
      go_simp
      refine hK _ _ ?_
      refine ⟨t0, t1, t2, t3, t4, t5, t6, t7, t8, t9, (.pointer (some ⟨w'.heap.size, 0, none⟩)), t11, ?_, hB'.alloc hB'.size _, i0, i1, i2, i3, i4, i5, i6, i7, fun h => (by obtain ⟨p, e1, e2, e3⟩ := i8 h; exact ⟨p, e1, e2, ((below_alloc w' (.cells #[.int .i64 0, .int .i64 0] 25)).block p (lt_of_block e3)).trans e3⟩), fun h => (by obtain ⟨p, e1, e2, e3⟩ := i9 h; exact ⟨p, e1, e2, ((below_alloc w' (.cells #[.int .i64 0, .int .i64 0] 25)).block p (lt_of_block e3)).trans e3⟩), fun _ => ⟨_, rfl, hB'.size, heap_alloc_top w' _⟩, i11, n8_9, fun h _ => (by obtain ⟨p, e1, e2, e3⟩ := i8 h; rw [e1]; have := lt_of_block e3; intro e; cases e; omega), fun h _ => (by obtain ⟨p, e1, e2, e3⟩ := i9 h; rw [e1]; have := lt_of_block e3; intro e; cases e; omega), m12, m13⟩
      simp only [Act.put, List.setIfInBounds_toArray, List.set_cons_succ, List.set_cons_zero]
    | 11, _ =>
      cases ho
      obtain rfl := i1 (hd ⟨1, .data⟩ (by simp) rfl)
      rw [if_pos (by rfl)]
      go_simp
      refine hK _ _ ?_
      refine ⟨t0, _, t2, t3, t4, t5, t6, t7, t8, t9, t10, (.slice ad l.length cap), ?_, hB', i0, i1, i2, i3, i4, i5, i6, i7, i8, i9, i10, fun _ => rfl, n8_9, n8_10, n9_10, m12, m13⟩
      simp only [Act.put, List.setIfInBounds_toArray, List.set_cons_succ, List.set_cons_zero]
    | 12, _ =>
      cases ho
      obtain rfl := i3 (hd ⟨3, .data⟩ (by simp) rfl)
      have hLt := hd ⟨8, .data⟩ (by simp) rfl
      obtain ⟨p, rfl, hp1, hp2⟩ := i8 hLt
      rw [if_neg (by rw [hL]; simp)] at hp2
      rw [if_pos (by rfl)]
      refine wp_store_row 23 _ _ rfl p (vec f) rfl rfl 23 (vec vnil) hp2 (info_vec' _) (by rw [vec_size, vec_size]) (vec_one _) (hK _ _ ?_)
      refine ⟨t0, t1, t2, _, t4, t5, t6, t7, _, t9, t10, t11, ?_, below_setRow hB' hp1 (vec f), i0, i1, i2, i3, i4, i5, i6, i7, fun _ => ⟨p, rfl, hp1, (heap_setRow_same (cs := (vec f)) hp2).trans (by rw [if_pos (by rfl)])⟩, fun h => (by obtain ⟨q, e1, e2, e3⟩ := i9 h; exact ⟨q, e1, e2, (heap_setRow_other w' p q (vec f) (fun e => n8_9 hLt h (by rw [e1, e]))).trans e3⟩), fun h => (by obtain ⟨q, e1, e2, e3⟩ := i10 h; exact ⟨q, e1, e2, (heap_setRow_other w' p q (vec f) (fun e => n8_10 hLt h (by rw [e1, e]))).trans e3⟩), i11, n8_9, n8_10, n9_10, fun _ => hLt, m13⟩
      simp only [Act.put, List.setIfInBounds_toArray, List.set_cons_succ, List.set_cons_zero]
    | 13, _ =>
      cases ho
      obtain rfl := i5 (hd ⟨5, .data⟩ (by simp) rfl)
      have hLt := hd ⟨9, .data⟩ (by simp) rfl
      obtain ⟨p, rfl, hp1, hp2⟩ := i9 hLt
      rw [if_neg (by rw [hL]; simp)] at hp2
      rw [if_pos (by rfl)]
      refine wp_store_row 25 _ _ rfl p #[.int .i64 xb, .int .i64 xn] rfl rfl 25 #[.int .i64 0, .int .i64 0] hp2 (by kernel_rfl) rfl (by simp [Value.oneCell']) (hK _ _ ?_)
      refine ⟨t0, t1, t2, t3, t4, _, t6, t7, t8, _, t10, t11, ?_, below_setRow hB' hp1 #[.int .i64 xb, .int .i64 xn], i0, i1, i2, i3, i4, i5, i6, i7, fun h => (by obtain ⟨q, e1, e2, e3⟩ := i8 h; exact ⟨q, e1, e2, (heap_setRow_other w' p q #[.int .i64 xb, .int .i64 xn] (fun e => n8_9 h hLt (by rw [e1, e]))).trans e3⟩), fun _ => ⟨p, rfl, hp1, (heap_setRow_same (cs := #[.int .i64 xb, .int .i64 xn]) hp2).trans (by rw [if_pos (by rfl)])⟩, fun h => (by obtain ⟨q, e1, e2, e3⟩ := i10 h; exact ⟨q, e1, e2, (heap_setRow_other w' p q #[.int .i64 xb, .int .i64 xn] (fun e => n9_10 hLt h (by rw [e1, e]))).trans e3⟩), i11, n8_9, n8_10, n9_10, m12, fun _ => hLt⟩
      simp only [Act.put, List.setIfInBounds_toArray, List.set_cons_succ, List.set_cons_zero]
  · rintro L a' w' ⟨t0, t1, t2, t3, t4, t5, t6, t7, t8, t9, t10, t11, rfl, hB', i0, i1, i2, i3, i4, i5, i6, i7, i8, i9, i10, i11, n8_9, n8_10, n9_10, m12, m13⟩ hL
    obtain rfl := i0 (hL 0 (by omega))
    obtain rfl := i1 (hL 1 (by omega))
    obtain rfl := i2 (hL 2 (by omega))
    obtain rfl := i3 (hL 3 (by omega))
    obtain rfl := i4 (hL 4 (by omega))
    obtain rfl := i5 (hL 5 (by omega))
    obtain rfl := i6 (hL 6 (by omega))
    obtain rfl := i7 (hL 7 (by omega))
    obtain rfl := i11 (hL 11 (by omega))
    obtain ⟨p8, rfl, hp8, hq8⟩ := i8 (hL 8 (by omega))
    rw [if_pos (hL 12 (by omega))] at hq8
    obtain ⟨p9, rfl, hp9, hq9⟩ := i9 (hL 9 (by omega))
    rw [if_pos (hL 13 (by omega))] at hq9
    obtain ⟨p10, rfl, hp10, hq10⟩ := i10 (hL 10 (by omega))
    have hn8_9 : p8 ≠ p9 := by rintro rfl; exact n8_9 (hL 8 (by omega)) (hL 9 (by omega)) rfl
    have hn8_10 : p8 ≠ p10 := by rintro rfl; exact n8_10 (hL 8 (by omega)) (hL 10 (by omega)) rfl
    have hn9_10 : p9 ≠ p10 := by rintro rfl; exact n9_10 (hL 9 (by omega)) (hL 10 (by omega)) rfl
    clear i0 i1 i2 i3 i4 i5 i6 i7 i8 i9 i10 i11 n8_9 n8_10 n9_10 m12 m13 hL
    simp only [Act.put, List.setIfInBounds_toArray, List.set_cons_succ, List.set_cons_zero]
    simp only [List.drop_succ_cons, List.drop_zero]
    have N0 := Lib.hid ((heap_setRow_other w' p10 p8 #[.int .i64 yb, .int .i64 yn] hn8_10).trans hq8)
    have N1 := Lib.hid ((heap_setRow_other w' p10 p9 #[.int .i64 yb, .int .i64 yn] hn9_10).trans hq9)
    have N2 := Lib.hid (heap_setRow_same (cs := #[.int .i64 yb, .int .i64 yn]) hq10)
    have NB := Lib.hid (below_setRow hB' hp10 #[.int .i64 yb, .int .i64 yn])
    have M2 := Lib.hid hq10
    clear hq8 hq9 hq10 hp8 hp9 hp10 hB' hn8_9 hn8_10 hn9_10
    refine wpList_store_row rfl 25 _ _ rfl p10 #[.int .i64 yb, .int .i64 yn] rfl rfl 25 #[.int .i64 0, .int .i64 0] M2.out (by kernel_rfl) rfl (by simp [Value.oneCell']) ?_
    simp only [Act.put]
    generalize w'.setRow p10 #[.int .i64 yb, .int .i64 yn] = W2 at N0 N1 N2 NB ⊢
    clear M2 HG0
    have HL2 := Lib.hid (versAt_below HL.out (Nat.le_refl _) NB.out)
    clear HL
    have HBW := Lib.hid (HB.out.trans (NB.out.mono HB.out.size))
    clear HB NB
    go_upto_if 19 with fail
    go_cut [3] from 9 (fun s3 wx => ∃ ad' l' cap', s3 = .slice ad' (List.length (α := Int × Int) l') cap' ∧ wx = W2 ∧ l'.length ≤ 60 ∧ versAt W2 ad' l')
    case first =>
      by_cases h60 : 60 < l.length
      · have hl2 := HL2.out
        rcases hl2 with rfl | ⟨b, off, rfl, hb, hcs⟩
        · simp at h60
        · have HCS := Lib.hid hcs
          clear hcs
          go_wp2_with fail
          go_meet
          refine ⟨some ⟨b, off, none⟩, l.take 60, cap, by rw [List.length_take, Nat.min_eq_left (by omega)], rfl, by simp; omega, .inr ⟨b, off, rfl, hb, fun i hi => ?_⟩⟩
          rw [List.getElem_take]
          exact HCS.out i (by simp at hi; omega)
      · go_wp2_with fail
        go_meet
        exact ⟨ad, l, cap, rfl, rfl, by omega, HL2.out⟩
    case rest =>
    obtain ⟨ad', l', cap', rfl, rfl, h60, hl'⟩ := hcut
    have HL' := Lib.hid hl'; have H60 := Lib.hid h60
    clear hl' h60 HL2
    go_wp2_with (first
      | (refine wpList_row 23 _ rfl p8 rfl rfl 23 (vec f) (0, 0) _ N0.out Try.underlying23 rfl (info_vec' _) ?_)
      | (refine wpList_row 25 _ rfl p9 rfl rfl 25 #[.int .i64 xb, .int .i64 xn] (0, 0) _ N1.out Try.underlying25 rfl (by kernel_rfl) ?_))
    refine (add_walk f xb xn _).mono ?_
    rintro e w3 ⟨rfl, hb3⟩
    go_upto_region 5 with (refine wpList_store_row rfl 23 _ _ rfl w3.heap.size (vec (vadd f xb xn)) rfl rfl 23 (vec vnil) (heap_alloc_top w3 _) (info_vec' _) (by rw [vec_size, vec_size]) (vec_one _) ?_)
    have hbA := hb3.alloc hb3.size (.cells (vec vnil) 23)
    have hb4 := below_setRow hbA hb3.size (vec (vadd f xb xn))
    have n7 := heap_setRow_same (cs := vec (vadd f xb xn)) (heap_alloc_top w3 (.cells (vec vnil) 23))
    obtain ⟨p7, hp7⟩ : ∃ p, p = w3.heap.size := ⟨_, rfl⟩
    rw [← hp7] at n7 hb4 ⊢
    have hlt7 : p7 < ((w3.alloc (.cells (vec vnil) 23)).setRow p7 (vec (vadd f xb xn))).heap.size := lt_of_block n7
    generalize (w3.alloc (.cells (vec vnil) 23)).setRow p7 (vec (vadd f xb xn)) = W5 at n7 hb4 hlt7 ⊢
    have hBW : W5.heap.size ≤ W5.heap.size := Nat.le_refl _
    have hsz := hb4.size
    have RP := Lib.hid (sub_row ((hb4.block p8 (lt_of_block N0.out)).trans N0.out) (B := W5.heap.size) (Nat.lt_of_lt_of_le (lt_of_block N0.out) hsz))
    have RQ := Lib.hid (sub_row ((hb4.block p9 (lt_of_block N1.out)).trans N1.out) (B := W5.heap.size) (Nat.lt_of_lt_of_le (lt_of_block N1.out) hsz))
    have RR := Lib.hid (sub_row ((hb4.block p10 (lt_of_block N2.out)).trans N2.out) (B := W5.heap.size) (Nat.lt_of_lt_of_le (lt_of_block N2.out) hsz))
    have RS := Lib.hid (sub_row n7 (B := W5.heap.size) hlt7)
    have hv5 := versAt_below HL'.out (Nat.le_refl _) hb4
    have HV := Lib.hid (fun (x : Sub W5.heap.size W5) => versAt_below hv5 (Nat.le_refl _) x.below)
    have HBW5 := Lib.hid (HBW.out.trans (hb4.mono HBW.out.size))
    clear N0 N1 N2 hb3 hbA hb4 n7 hp7 hlt7 hsz hv5 HL' HBW hz
    have h1 := fun w => refHas_walk (vadd f xb xn) yb yn w
    have h2 := fun w => refHas_walk f yb yn w
    change ∀ w, Calls _ _ _ _ fun e w' => e = .returned (.bool (rhas (vadd f xb xn) yb yn)) ∧ _ at h1
    change ∀ w, Calls _ _ _ _ fun e w' => e = .returned (.bool (rhas f yb yn)) ∧ _ at h2
    have h3 := fun w => right_walk xb xn w
    have h4 := fun w => right_walk yb yn w
    have h5 := fun w => refPlain_walk (vadd f xb xn) w
    have h6 := fun w => refCovers_walk (vadd f xb xn) f w
    have he := fun w => eq_vec (vof l') (rof l') w
    rw [vadd_grown] at h1; rw [vadd_plain] at h5; rw [vadd_cov] at h6; rw [vof_rof] at he
    generalize rhas f yb yn = p2 at h1 h2
    generalize verOk xb xn = v1 at h1 h3
    generalize verOk yb yn = v2 at h1 h4
    have HAW := Lib.hid (fun w => awake_walk w)
    have HPL := Lib.hid h5; have HCO := Lib.hid h6; have HE := Lib.hid he
    have H1 := Lib.hid h1; have H2 := Lib.hid h2; have H3 := Lib.hid h3; have H4 := Lib.hid h4
    clear h1 h2 h3 h4 h5 h6 he
    have cx0 : ∀ x : Sub W5.heap.size W5, x.val.cell? ⟨p9, 0, none⟩ = some (.int .i64 xb) := fun x => by rw [cell_of_row x.val p9 0 _ _ _ (RQ.out x.val ⟨x, rfl⟩)]; rfl
    have cx1 : ∀ x : Sub W5.heap.size W5, x.val.cell? ⟨p9, 1, none⟩ = some (.int .i64 xn) := fun x => by rw [cell_of_row x.val p9 1 _ _ _ (RQ.out x.val ⟨x, rfl⟩)]; rfl
    have cy0 : ∀ x : Sub W5.heap.size W5, x.val.cell? ⟨p10, 0, none⟩ = some (.int .i64 yb) := fun x => by rw [cell_of_row x.val p10 0 _ _ _ (RR.out x.val ⟨x, rfl⟩)]; rfl
    have cy1 : ∀ x : Sub W5.heap.size W5, x.val.cell? ⟨p10, 1, none⟩ = some (.int .i64 yn) := fun x => by rw [cell_of_row x.val p10 1 _ _ _ (RR.out x.val ⟨x, rfl⟩)]; rfl
    simp only [Act.put]
    go_cut [8] from 25 (fun s8 wx => s8 = .bool true ∧ Below W5.heap.size W5 wx)
    case first =>
      rcases (show p2 = true ∨ (p2 = false ∧ v1 = false) ∨ (p2 = false ∧ v1 = true ∧ v2 = false) ∨ (p2 = false ∧ v1 = true ∧ v2 = true ∧ ¬ yb = xb) ∨ (p2 = false ∧ v1 = true ∧ v2 = true ∧ yb = xb ∧ ¬ yn ≤ xn) ∨ (p2 = false ∧ v1 = true ∧ v2 = true ∧ yb = xb ∧ yn ≤ xn) by
        cases p2 <;> cases v1 <;> cases v2 <;> simp <;> by_cases h : yb = xb <;> by_cases h' : yn ≤ xn <;> simp [h, h'] <;> omega) with rfl | ⟨rfl, rfl⟩ | ⟨rfl, rfl, rfl⟩ | ⟨rfl, rfl, rfl, hq⟩ | ⟨rfl, rfl, rfl, rfl, hq⟩ | ⟨rfl, rfl, rfl, rfl, hq⟩
      all_goals
        have h1 := H1.out
        first
          | simp only [Bool.true_or, Bool.false_or, Bool.false_and, Bool.true_and, Bool.and_false, hq, decide_false, decide_true] at h1
          | simp only [Bool.true_or, Bool.false_or, Bool.false_and, Bool.true_and, Bool.and_false] at h1
        have K1 := Lib.hid h1
        clear h1 H1
        refine wp_region_sub (W := W5) (B := W5.heap.size) (by kernel_rfl) (by kernel_rfl) (Below.refl _ _) ?_
        repeat (any_goals (first
          | go_big_quiet_skip
          | (refine wpQuiet_load_row 23 _ rfl (p8) rfl rfl 23 _ (0, 0) _ RP.out Try.underlying23 rfl (info_vec' _) ?_; simp only [Act.put, List.setIfInBounds_toArray, List.set_cons_succ, List.set_cons_zero])
          | (refine wpQuiet_load_row 25 _ rfl (p9) rfl rfl 25 _ (0, 0) _ RQ.out Try.underlying25 rfl (by kernel_rfl) ?_; simp only [Act.put, List.setIfInBounds_toArray, List.set_cons_succ, List.set_cons_zero])
          | (refine wpQuiet_load_row 25 _ rfl (p10) rfl rfl 25 _ (0, 0) _ RR.out Try.underlying25 rfl (by kernel_rfl) ?_; simp only [Act.put, List.setIfInBounds_toArray, List.set_cons_succ, List.set_cons_zero])
          | (refine wpQuiet_load_row 23 _ rfl (p7) rfl rfl 23 _ (0, 0) _ RS.out Try.underlying23 rfl (info_vec' _) ?_; simp only [Act.put, List.setIfInBounds_toArray, List.set_cons_succ, List.set_cons_zero])
          | go_big_quiet_step ((first | (go_at_call 11; with_reducible exact calls_sub _ (K1.out _) hBW) | (go_at_call 11; with_reducible exact calls_sub _ (H2.out _) hBW) | (go_at_call 19; with_reducible exact calls_sub _ (H3.out _) hBW) | (go_at_call 19; with_reducible exact calls_sub _ (H4.out _) hBW)))
          | quiet_step ((first | (go_at_call 11; with_reducible exact calls_sub _ (K1.out _) hBW) | (go_at_call 11; with_reducible exact calls_sub _ (H2.out _) hBW) | (go_at_call 19; with_reducible exact calls_sub _ (H3.out _) hBW) | (go_at_call 19; with_reducible exact calls_sub _ (H4.out _) hBW)))))
        refine wpQuiet_nil ?_
        rintro w8 ⟨x8, rfl⟩
        have hx8 := x8.below
        generalize x8.val = w8 at hx8 ⊢
        go_wp2_with fail
        go_meet
        exact ⟨rfl, hx8⟩
    case rest =>
    obtain ⟨rfl, hx⟩ := hcut
    clear H1 H2 H3 H4 cx0 cx1 cy0 cy1
    have he := HE.out
    go_upto_region 6 with fail
    refine wp_region_sub_plain (W := W5) (B := W5.heap.size) hx ?_
    repeat (any_goals (first
      | go_big_quiet_skip
      | (refine wpQuiet_load_row 23 _ rfl (p8) rfl rfl 23 _ (0, 0) _ RP.out Try.underlying23 rfl (info_vec' _) ?_; simp only [Act.put, List.setIfInBounds_toArray, List.set_cons_succ, List.set_cons_zero])
      | (refine wpQuiet_load_row 25 _ rfl (p9) rfl rfl 25 _ (0, 0) _ RQ.out Try.underlying25 rfl (by kernel_rfl) ?_; simp only [Act.put, List.setIfInBounds_toArray, List.set_cons_succ, List.set_cons_zero])
      | (refine wpQuiet_load_row 25 _ rfl (p10) rfl rfl 25 _ (0, 0) _ RR.out Try.underlying25 rfl (by kernel_rfl) ?_; simp only [Act.put, List.setIfInBounds_toArray, List.set_cons_succ, List.set_cons_zero])
      | (refine wpQuiet_load_row 23 _ rfl (p7) rfl rfl 23 _ (0, 0) _ RS.out Try.underlying23 rfl (info_vec' _) ?_; simp only [Act.put, List.setIfInBounds_toArray, List.set_cons_succ, List.set_cons_zero])
      | go_big_quiet_step ((first | (go_at_call 9; with_reducible exact calls_sub _ (HAW.out _) hBW) | (go_at_call 17; with_reducible exact calls_sub _ (of_walk _ _ _ _ (HV.out _) (by have := H60.out; omega)) hBW) | (go_at_call 20; with_reducible exact calls_sub _ (refOf_walk _ _ _ _ (HV.out _) (by have := H60.out; omega)) hBW) | (go_at_call 13; with_reducible exact calls_sub _ (HPL.out _) hBW) | (go_at_call 21; with_reducible exact calls_sub _ (HCO.out _) hBW)))
      | quiet_step ((first | (go_at_call 9; with_reducible exact calls_sub _ (HAW.out _) hBW) | (go_at_call 17; with_reducible exact calls_sub _ (of_walk _ _ _ _ (HV.out _) (by have := H60.out; omega)) hBW) | (go_at_call 20; with_reducible exact calls_sub _ (refOf_walk _ _ _ _ (HV.out _) (by have := H60.out; omega)) hBW) | (go_at_call 13; with_reducible exact calls_sub _ (HPL.out _) hBW) | (go_at_call 21; with_reducible exact calls_sub _ (HCO.out _) hBW)))))
    refine wpQuiet_nil ?_
    rintro w7 ⟨x7, rfl⟩
    have hb1 := x7.below
    generalize x7.val = w7 at hb1 ⊢
    go_wp2_with fail
    go_ret
    exact ⟨rfl, HBW5.out.trans (hb1.mono HBW5.out.size)⟩
end Go.Proofs.Ytjoacoiooijnlaa
