/-
  Walks of layer 13: the reference's vector of versions.
-/
import Derived.Test.YtjoacoiooijnlaaVecJ
namespace Go.Proofs.Ytjoacoiooijnlaa
open Go.RowKit

/-- the reference's step -/
def radd (f : Nat → Int) (b n : Int) : Nat → Int := fun i => if verOk b n = true ∧ f b.toNat < n ∧ (i : Int) = b then n else f i
/-- the reference's vector of versions -/
def rof (l : List (Int × Int)) : Nat → Int := l.foldl (fun f p => radd f p.1 p.2) vnil
theorem rof_snoc (l : List (Int × Int)) (p : Int × Int) : rof (l ++ [p]) = radd (rof l) p.1 p.2 := by simp [rof]

theorem wpList_build_to {P : Program} {ops : Array Oper} {Q : Exit → Act → World → Prop} {o : Oper} {rest : List Oper} {a : Act} {w : World} (t : TypeId) (ho : o.op = .build t #[]) (hg : o.guard = none)
    (cs : Array Value) (hb : P.built t [] = some cs) (h : wpList P ops Q rest (a.put o.dst (.agg cs)) w) : wpList P ops Q (o :: rest) a w := by
  refine wpList_build hg t #[] ho ?_ ?_
  · simp [hb]
  · simpa [hb] using h
theorem built_vec : Try.prog.built 23 [] = some (vec vnil) := by kernel_rfl

set_option maxHeartbeats 4000000 in
theorem refOf_walk (ad : Option Addr) (cap : Nat) (l : List (Int × Int)) (w : World) (hl : versAt w ad l) (hs : l.length ≤ 9223372036854775807) :
    Calls Try.prog 20 #[.slice ad l.length cap] w fun e w' => e = .returned (.agg (vec (rof l))) ∧ Below w.heap.size w w' := by
  have hz := zero_vec
  obtain ⟨g0, g1, hB, hS⟩ := two_blocks w (.cells (vec vnil) 23) (.cells (vec vnil) 23)
  have H1 := Lib.hid g1
  have g0' := (heap_setRow_other ((w.alloc (.cells (vec vnil) 23)).alloc (.cells (vec vnil) 23)) (w.heap.size + 1) w.heap.size (vec vnil) (by omega)).trans g0
  have g1' := heap_setRow_same (cs := vec vnil) g1
  have hB' := below_setRow hB (g := w.heap.size + 1) (by omega) (vec vnil)
  have hS' : (((w.alloc (.cells (vec vnil) 23)).alloc (.cells (vec vnil) 23)).setRow (w.heap.size + 1) (vec vnil)).heap.size = w.heap.size + 2 := by simp
  have HG0 := Lib.hid g0'; have HG1 := Lib.hid g1'; have HBB := Lib.hid hB'; have HS := Lib.hid hS'
  have HL := Lib.hid hl
  clear g0 g1 hB hS g0' g1' hB' hS' hl
  go_enter Try.func20, Try.ntmps20
  go_upto_region 2 with (first
    | (refine wpList_build_to 23 rfl rfl (vec vnil) built_vec ?_)
    | (refine wpList_store_row rfl 23 _ _ rfl (w.heap.size + 1) (vec vnil) rfl rfl 23 (vec vnil) H1.out (info_vec' _) rfl (vec_one _) ?_))
  generalize ((w.alloc (.cells (vec vnil) 23)).alloc (.cells (vec vnil) 23)).setRow (w.heap.size + 1) (vec vnil) = W at HG0 HG1 HBB HS ⊢
  obtain ⟨q, hq⟩ : ∃ q, q = w.heap.size + 1 := ⟨_, rfl⟩
  rw [← hq] at HG1 ⊢
  have hq1 : w.heap.size < q := by omega
  have hq2 : q < W.heap.size := by have := HS.out; omega
  clear hq H1 HS
  go_wp2_with fail
  go_loopw [4] (fun i wr => ∃ k : Nat, k ≤ l.length ∧ i = .int .i64 k ∧ wr.heap[w.heap.size]? = some (.cells (vec vnil) 23 (0, 0)) ∧ wr.heap[q]? = some (.cells (vec (rof (l.take k))) 23 (0, 0)) ∧ Below w.heap.size w wr)
    (fun i _ => l.length - (intOf i).toNat)
  case atStart => exact ⟨0, by omega, rfl, HG0.out, HG1.out, HBB.out⟩
  case round =>
    obtain ⟨k, hk, rfl, h0, h1, hB2⟩ := hrel
    have hl2 := versAt_below HL.out (Nat.le_refl _) hB2
    have R0 := Lib.hid h0; have R1 := Lib.hid h1; have RB := Lib.hid hB2
    clear h0 h1 hB2
    by_cases hlt : k < l.length
    · rcases hl2 with hl2 | ⟨b, off, rfl, hbl, hcs⟩
      · simp [hl2] at hlt
      · obtain ⟨c1, c2⟩ := hcs k hlt
        have hst := rof_snoc (l.take k) l[k]
        rw [← take_snoc' l k hlt] at hst
        obtain ⟨x, hx⟩ : ∃ x, x = l[k].1 := ⟨_, rfl⟩
        obtain ⟨y, hy⟩ : ∃ y, y = l[k].2 := ⟨_, rfl⟩
        rw [← hx] at c1; rw [← hy] at c2
        rw [← hx, ← hy] at hst
        have HXY := Lib.hid hst
        clear hcs hst hx hy
        have hSz : wr.heap.size ≤ wr.heap.size := Nat.le_refl _
        have s1 := fun z : Sub wr.heap.size wr => sub_cell c1 hbl z
        have s2 := fun z : Sub wr.heap.size wr => sub_cell c2 hbl z
        have hcc : ∀ w9, (∃ z : Sub wr.heap.size wr, w9 = z.val) → ∀ (j : Nat) (u : Value), [Value.int .i64 x, Value.int .i64 y][j]? = some u → w9.cell? ⟨b, off + k * 2 + j, none⟩ = some u := by
          rintro w9 ⟨z, rfl⟩ j u hj
          match j, hj with
          | 0, hj => simp at hj; subst hj; exact s1 z
          | 1, hj => simp at hj; subst hj; exact s2 z
          | j + 2, hj => simp at hj
        have HCC := Lib.hid hcc
        clear hcc c1 c2
        have hqz := lt_of_block R1.out
        by_cases hok : 1 ≤ x ∧ x ≤ 64 ∧ 1 ≤ y
        · obtain ⟨p1, p2, p3⟩ := hok
          have hvo : verOk x y = true := decide_eq_true ⟨p1, p2, p3⟩
          obtain ⟨m, rfl⟩ := Int.eq_ofNat_of_zero_le (show 0 ≤ x by omega)
          have hm : m < 65 := by omega
          have sv := fun z : Sub wr.heap.size wr => sub_cell (a := ⟨q, m, none⟩) (vec_cell R1.out m hm) hqz z
          have hr := right_walk m y
          rw [hvo] at hr
          have HR := Lib.hid hr; have HVO := Lib.hid hvo
          clear hr hvo
          by_cases hgt : rof (l.take k) m < y
          · go_wp2_with fail
            refine wp_region_sub (W := wr) (B := wr.heap.size) (by kernel_rfl) (by kernel_rfl) (Below.refl _ _) ?_
            repeat (any_goals (first
              | go_big_quiet_skip
              | (refine wpQuiet_cells 25 _ rfl b (off + k * 2) rfl rfl [.int .i64 m, .int .i64 y] _ HCC.out Try.underlying25 rfl (by kernel_rfl) ?_; simp only [Act.put, List.setIfInBounds_toArray, List.set_cons_succ, List.set_cons_zero])
              | go_big_quiet_step ((go_at_call 19; exact calls_sub _ (HR.out _) hSz))
              | quiet_step ((go_at_call 19; exact calls_sub _ (HR.out _) hSz))))
            refine wpQuiet_nil ?_
            rintro w9 ⟨x9, rfl⟩
            have d1 := HCC.out x9.val ⟨x9, rfl⟩ 0 _ rfl
            have d2 := HCC.out x9.val ⟨x9, rfl⟩ 1 _ rfl
            have d3 := sub_heap R1.out hqz x9
            have d0 := sub_heap R0.out (lt_of_block R0.out) x9
            have dB := RB.out.trans (x9.below.mono RB.out.size)
            generalize x9.val = w9 at d1 d2 d3 d0 dB ⊢
            rw [Nat.add_zero] at d1
            have d4 := vec_free d3 m
            have d5 := vec_cell d3 m hm
            have D3 := Lib.hid d3; have D0 := Lib.hid d0; have DB := Lib.hid dB
            clear d3 d0 dB HCC HR R0 R1 RB sv s1 s2
            go_upto_region 6 with fail
            go_region
            go_wp2_with fail
            go_roundw
            case rel =>
              refine ⟨k + 1, by omega, by go_num, (heap_setCell_ne _ _ _ _ _ (by omega)).trans D0.out, ?_, (DB.out.setCell (p := ⟨q, m, none⟩) (by show w.heap.size ≤ q; omega) _).drew⟩
              rw [HXY.out]
              refine (vec_store D3.out m hm _).trans ?_
              rw [vec_congr (g := radd (rof (l.take k)) (m : Int) y)]
              intro i _
              unfold radd
              have : (verOk (m : Int) y = true ∧ (rof (l.take k)) (m : Int).toNat < y ∧ ((i : Int) = (m : Int))) ↔ i = m := by
                constructor
                · rintro ⟨_, _, h⟩; omega
                · rintro rfl; exact ⟨HVO.out, by simpa using hgt, rfl⟩
              simp only [this]
            case measure => simp [intOf]; omega
          · have hle : y ≤ rof (l.take k) m := by omega
            clear hgt
            go_wp2_with fail
            refine wp_region_sub (W := wr) (B := wr.heap.size) (by kernel_rfl) (by kernel_rfl) (Below.refl _ _) ?_
            repeat (any_goals (first
              | go_big_quiet_skip
              | (refine wpQuiet_cells 25 _ rfl b (off + k * 2) rfl rfl [.int .i64 m, .int .i64 y] _ HCC.out Try.underlying25 rfl (by kernel_rfl) ?_; simp only [Act.put, List.setIfInBounds_toArray, List.set_cons_succ, List.set_cons_zero])
              | go_big_quiet_step ((go_at_call 19; exact calls_sub _ (HR.out _) hSz))
              | quiet_step ((go_at_call 19; exact calls_sub _ (HR.out _) hSz))))
            refine wpQuiet_nil ?_
            rintro w9 ⟨x9, rfl⟩
            have D3 := Lib.hid (sub_heap R1.out hqz x9)
            have D0 := Lib.hid (sub_heap R0.out (lt_of_block R0.out) x9)
            have DB := Lib.hid (RB.out.trans (x9.below.mono RB.out.size))
            clear R0 R1 RB
            go_wp2_with fail
            go_roundw
            case rel =>
              refine ⟨k + 1, by omega, by go_num, D0.out, ?_, DB.out⟩
              rw [HXY.out, D3.out, vec_congr (g := radd (rof (l.take k)) (m : Int) y)]
              intro i _
              unfold radd
              rw [if_neg]
              rintro ⟨_, h, _⟩
              simp at h; omega
            case measure => simp [intOf]; omega
        · have hvo : verOk x y = false := decide_eq_false hok
          clear hok
          have hr := right_walk x y
          rw [hvo] at hr
          have HRS : ∀ z : Sub wr.heap.size wr, Calls Try.prog 19 #[.agg #[.int .i64 x, .int .i64 y]] z.val fun e w' => e = .returned (.bool false) ∧ inSub wr.heap.size wr w' := fun z => calls_sub z (hr _) hSz
          have HVO := Lib.hid hvo
          clear hr hvo
          go_wp2_with fail
          refine wp_region_sub (W := wr) (B := wr.heap.size) (by kernel_rfl) (by kernel_rfl) (Below.refl _ _) ?_
          repeat (any_goals (first
            | go_big_quiet_skip
            | (refine wpQuiet_cells 25 _ rfl b (off + k * 2) rfl rfl [.int .i64 x, .int .i64 y] _ HCC.out Try.underlying25 rfl (by kernel_rfl) ?_; simp only [Act.put, List.setIfInBounds_toArray, List.set_cons_succ, List.set_cons_zero])
            | go_big_quiet_step ((go_at_call 19; exact HRS _))
            | quiet_step ((go_at_call 19; exact HRS _))))
          refine wpQuiet_nil ?_
          rintro w9 ⟨x9, rfl⟩
          have D3 := Lib.hid (sub_heap R1.out hqz x9)
          have D0 := Lib.hid (sub_heap R0.out (lt_of_block R0.out) x9)
          have DB := Lib.hid (RB.out.trans (x9.below.mono RB.out.size))
          clear R0 R1 RB
          go_wp2_with fail
          go_roundw
          case rel =>
            refine ⟨k + 1, by omega, by go_num, D0.out, ?_, DB.out⟩
            rw [HXY.out, D3.out, vec_congr (g := radd (rof (l.take k)) x y)]
            intro i _
            unfold radd
            rw [if_neg]
            rintro ⟨h, _⟩
            rw [HVO.out] at h; cases h
          case measure => simp [intOf]; omega
    · obtain rfl : k = l.length := by omega
      clear hl2
      have h1' : wr.heap[q]? = some (.cells (vec (rof l)) 23 (0, 0)) := by
        have := R1.out
        rw [List.take_length] at this
        exact this
      have K1 := Lib.hid h1'
      clear h1' R1
      set_option maxRecDepth 100000 in go_wp2_with (first
        | (refine wpList_row 23 _ rfl q rfl rfl 23 (vec (rof l)) (0, 0) _ K1.out Try.underlying23 rfl (info_vec' _) ?_)
        | (refine wpList_store_row rfl 23 _ _ rfl w.heap.size (vec (rof l)) rfl rfl 23 (vec vnil) R0.out (info_vec' _) (by rw [vec_size, vec_size]) (vec_one _) ?_))
      exact bodyPost_ret (v := .agg (vec (rof l))) (results_cell_row rfl _ _ w.heap.size 23 (vec (rof l)) (0, 0) _ rfl (heap_setRow_same R0.out) Try.underlying23 rfl (info_vec' _)) rfl ⟨rfl, below_setRow RB.out (Nat.le_refl _) _⟩
end Go.Proofs.Ytjoacoiooijnlaa
