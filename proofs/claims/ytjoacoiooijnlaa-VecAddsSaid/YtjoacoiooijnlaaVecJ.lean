/-
  Walks of layer 13: vectors of versions, as both tell them; lists of versions that are the same.
-/
import Derived.Test.YtjoacoiooijnlaaVecI
namespace Go.Proofs.Ytjoacoiooijnlaa
open Go.RowKit

/-- a slice that reads as these versions -/
def versAt (w : World) (ad : Option Addr) (l : List (Int × Int)) : Prop :=
  l = [] ∨ ∃ b off, ad = some ⟨b, off, none⟩ ∧ b < w.heap.size ∧ ∀ i (h : i < l.length), w.cell? ⟨b, off + i * 2, none⟩ = some (.int .i64 l[i].1) ∧ w.cell? ⟨b, off + i * 2 + 1, none⟩ = some (.int .i64 l[i].2)

theorem versAt_below {w w' : World} {B : Nat} {ad : Option Addr} {l : List (Int × Int)} (h : versAt w ad l) (hB : w.heap.size ≤ B) (hb : Below B w w') : versAt w' ad l := by
  rcases h with h | ⟨b, off, h1, h2, h3⟩
  · exact .inl h
  · refine .inr ⟨b, off, h1, by have := hb.size; omega, fun i hi => ?_⟩
    rw [hb.cell (p := ⟨b, off + i * 2, none⟩) (by simp; omega), hb.cell (p := ⟨b, off + i * 2 + 1, none⟩) (by simp; omega)]
    exact h3 i hi

theorem pv_get (l : List (Int × Int)) (i : Nat) (h : i < l.length) : (pv l)[i * 2]? = some (.int .i64 l[i].1) ∧ (pv l)[i * 2 + 1]? = some (.int .i64 l[i].2) := by
  induction l generalizing i with
  | nil => simp at h
  | cons p r ih =>
    cases i with
    | zero => simp [pv]
    | succ i =>
      have := ih i (by simpa using h)
      simp only [pv, List.flatMap_cons] at this ⊢
      rw [show (i + 1) * 2 = i * 2 + 2 by omega]
      simpa using this

theorem versAt_own {w : World} {base e : Nat} {v : Value} {l : List (Int × Int)} (h : w.ownsRow base e 2 v l.length (pv l)) : ∃ ad cap, v = .slice ad l.length cap ∧ versAt w ad l := by
  rcases h.2 with ⟨h1, h2⟩ | ⟨g, cap, cur, hv, _, hg, _⟩
  · exact ⟨none, 0, by rw [h1, h2], .inl (List.eq_nil_of_length_eq_zero h2)⟩
  · refine ⟨some ⟨g, 0, none⟩, cap, hv, .inr ⟨g, 0, rfl, lt_of_block hg, fun i hi => ?_⟩⟩
    subst hv
    obtain ⟨e1, e2⟩ := pv_get l i hi
    rw [Nat.zero_add, h.cellAt (i * 2) (by omega), h.cellAt (i * 2 + 1) (by omega)]
    exact ⟨e1, e2⟩

/-- the vector of versions -/
def vof (l : List (Int × Int)) : Nat → Int := l.foldl (fun f p => vadd f p.1 p.2) vnil
theorem vof_snoc (l : List (Int × Int)) (p : Int × Int) : vof (l ++ [p]) = vadd (vof l) p.1 p.2 := by simp [vof]

theorem take_snoc' {α : Type} (l : List α) (k : Nat) (h : k < l.length) : l.take (k + 1) = l.take k ++ [l[k]] := List.take_succ_eq_append_getElem h

set_option maxRecDepth 100000 in
set_option maxHeartbeats 2000000 in
theorem of_walk (ad : Option Addr) (cap : Nat) (l : List (Int × Int)) (w : World) (hl : versAt w ad l) (hs : l.length ≤ 9223372036854775807) :
    Calls Try.prog 17 #[.slice ad l.length cap] w fun e w' => e = .returned (.agg (vec (vof l))) ∧ Below w.heap.size w w' := by
  have hz := zero_vec
  have hzv : ∀ w, (zeroValue 25).run Try.prog w = .ok (.agg #[.int .i64 0, .int .i64 0]) w := fun _ => by kernel_rfl
  go_enter Try.func17, Try.ntmps17
  go_upto_region 2 with fail
  obtain ⟨g0, g1, hB, hS⟩ := two_blocks w (.cells (vec vnil) 23) (.cells (vec vnil) 23)
  generalize (w.alloc (.cells (vec vnil) 23)).alloc (.cells (vec vnil) 23) = W at g0 g1 hB hS ⊢
  obtain ⟨q, hq⟩ : ∃ q, q = w.heap.size + 1 := ⟨_, rfl⟩
  rw [← hq] at g1 ⊢
  have hq1 : w.heap.size < q := by omega
  have hq2 : q < W.heap.size := by omega
  have HG0 := Lib.hid g0
  have HG1 := Lib.hid g1
  have HL := Lib.hid hl
  have hBB := Lib.hid hB
  clear g0 g1 hS hq hl hB
  go_wp2_with fail
  go_loopw [8] (fun i wr => ∃ k : Nat, k ≤ l.length ∧ i = .int .i64 k ∧ wr.heap[w.heap.size]? = some (.cells (vec vnil) 23 (0, 0)) ∧ wr.heap[q]? = some (.cells (vec (vof (l.take k))) 23 (0, 0)) ∧ Below w.heap.size w wr)
    (fun i _ => l.length - (intOf i).toNat)
  case atStart => exact ⟨0, by omega, rfl, HG0.out, HG1.out, hBB.out⟩
  case round =>
    obtain ⟨k, hk, rfl, h0, h1, hB2⟩ := hrel
    have hl2 := versAt_below HL.out (Nat.le_refl _) hB2
    have R0 := Lib.hid h0; have R1 := Lib.hid h1; have RB := Lib.hid hB2
    clear h0 h1 hB2
    by_cases hlt : k < l.length
    · rcases hl2 with hl2 | ⟨b, off, rfl, hbl, hcs⟩
      · simp [hl2] at hlt
      · obtain ⟨c1, c2⟩ := hcs k hlt
        have hst := vof_snoc (l.take k) l[k]
        rw [← take_snoc' l k hlt] at hst
        have HST := Lib.hid hst
        obtain ⟨x, hx⟩ : ∃ x, x = l[k].1 := ⟨_, rfl⟩
        obtain ⟨y, hy⟩ : ∃ y, y = l[k].2 := ⟨_, rfl⟩
        rw [← hx] at c1; rw [← hy] at c2
        rw [← hx, ← hy] at hst
        have HXY := Lib.hid hst
        clear hcs hst HST hx hy
        have hcc : ∀ (j : Nat) (u : Value), [Value.int .i64 x, Value.int .i64 y][j]? = some u → wr.cell? ⟨b, off + k * 2 + j, none⟩ = some u := by
          intro j u hj
          match j, hj with
          | 0, hj => simp at hj; subst hj; exact c1
          | 1, hj => simp at hj; subst hj; exact c2
          | j + 2, hj => simp at hj
        have HCC := Lib.hid hcc
        clear hcc
        go_upto_region 5 with (refine wpList_cells 25 _ rfl b (off + k * 2) rfl rfl [.int .i64 x, .int .i64 y] _ HCC.out Try.underlying25 rfl (by kernel_rfl) ?_)
        have hsz := RB.out.size
        have hqz := lt_of_block R1.out
        have e0 := (Below.heap_alloc wr (.cells #[.int .i64 x, .int .i64 y] 25) w.heap.size (lt_of_block R0.out)).trans R0.out
        have e1 := (Below.heap_alloc wr (.cells #[.int .i64 x, .int .i64 y] 25) q hqz).trans R1.out
        have e2 := heap_alloc_top wr (.cells #[.int .i64 x, .int .i64 y] 25)
        have eB := RB.out.alloc hsz (.cells #[.int .i64 x, .int .i64 y] 25)
        obtain ⟨p, hp⟩ : ∃ p, p = wr.heap.size := ⟨_, rfl⟩
        have hpq : q < p := by omega
        have hpS : (wr.alloc (.cells #[.int .i64 x, .int .i64 y] 25)).heap.size = p + 1 := by simp [hp]
        rw [← hp] at e2 ⊢
        generalize wr.alloc (.cells #[.int .i64 x, .int .i64 y] 25) = W3 at e0 e1 e2 eB hpS ⊢
        have K0 := Lib.hid e0; have K1 := Lib.hid e1; have K2 := Lib.hid e2; have KB := Lib.hid eB
        have hpS' : p < W3.heap.size := by omega
        clear e0 e1 e2 eB hp c1 c2 HCC hpS hsz hqz hbl
        go_wp2_with (first
          | (refine wpList_row 23 _ rfl q rfl rfl 23 (vec (vof (l.take k))) (0, 0) _ K1.out Try.underlying23 rfl (info_vec' _) ?_)
          | (refine wpList_row 25 _ rfl p rfl rfl 25 #[.int .i64 x, .int .i64 y] (0, 0) _ K2.out Try.underlying25 rfl (by kernel_rfl) ?_))
        refine (add_walk _ x y _).mono ?_
        rintro e w4 ⟨rfl, hb4⟩
        have f0 := (hb4.block w.heap.size (by omega)).trans K0.out
        have f1 := (hb4.block q (by omega)).trans K1.out
        have fB := KB.out.trans (hb4.mono KB.out.size)
        have M0 := Lib.hid ((heap_setRow_other w4 q w.heap.size (vec (vadd (vof (l.take k)) x y)) (by omega)).trans f0)
        have M1 := Lib.hid f1
        have M1' := Lib.hid (heap_setRow_same (cs := vec (vadd (vof (l.take k)) x y)) f1)
        have MB := Lib.hid (below_setRow fB (g := q) (by omega) (vec (vadd (vof (l.take k)) x y)))
        clear f0 f1 fB hb4 K0 K1 K2 KB
        go_wp2_with (refine wpList_store_row rfl 23 _ _ rfl q (vec (vadd (vof (l.take k)) x y)) rfl rfl 23 (vec (vof (l.take k))) M1.out (info_vec' _) (by rw [vec_size, vec_size]) (vec_one _) ?_)
        go_roundw
        case rel => exact ⟨k + 1, by omega, by go_num, M0.out, by rw [HXY.out]; exact M1'.out, MB.out⟩
        case measure => simp [intOf]; omega
    · obtain rfl : k = l.length := by omega
      clear hl2
      have h1' : wr.heap[q]? = some (.cells (vec (vof l)) 23 (0, 0)) := by
        have := R1.out
        rw [List.take_length] at this
        exact this
      have K1 := Lib.hid h1'
      clear h1' R1
      go_wp2_with (first
        | (refine wpList_row 23 _ rfl q rfl rfl 23 (vec (vof l)) (0, 0) _ K1.out Try.underlying23 rfl (info_vec' _) ?_)
        | (refine wpList_store_row rfl 23 _ _ rfl w.heap.size (vec (vof l)) rfl rfl 23 (vec vnil) R0.out (info_vec' _) (by rw [vec_size, vec_size]) (vec_one _) ?_))
      exact bodyPost_ret (v := .agg (vec (vof l))) (results_cell_row rfl _ _ w.heap.size 23 (vec (vof l)) (0, 0) _ rfl (heap_setRow_same R0.out) Try.underlying23 rfl (info_vec' _)) rfl ⟨rfl, below_setRow RB.out (Nat.le_refl _) _⟩
end Go.Proofs.Ytjoacoiooijnlaa
