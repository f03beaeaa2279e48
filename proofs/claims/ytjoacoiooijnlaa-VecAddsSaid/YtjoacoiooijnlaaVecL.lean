/-
  Walks of layer 13: how many last versions there are; lists of versions that are the same.
-/
import Derived.Test.YtjoacoiooijnlaaVecK
namespace Go.Proofs.Ytjoacoiooijnlaa
open Go.RowKit

theorem ver_part0 (x y : Int) (w : World) : (part 3 #[.int .i64 x, .int .i64 y] 0).run Try.prog w = .ok (.int .i64 x) w := by kernel_rfl
theorem ver_part1 (x y : Int) (w : World) : (part 3 #[.int .i64 x, .int .i64 y] 1).run Try.prog w = .ok (.int .i64 y) w := by kernel_rfl
theorem eq_ver (a b c d : Int) (w : World) : (Op.equalIn 10000 25 (.agg #[.int .i64 a, .int .i64 b]) (.agg #[.int .i64 c, .int .i64 d])).run Try.prog w = .ok (a == c && b == d) w := by
  have hu := run_underlying (P := Try.prog) (t := 25) Try.underlying25 w
  unfold Op.equalIn
  simp [Sem.run_bind, hu]
  simp only [ver_part0, ver_part1, Result.andThen_ok, eq_int]
  cases h1 : (a == c) <;> cases h2 : (b == d) <;> simp [Sem.run_pure]

set_option maxHeartbeats 1000000 in
theorem sum_walk (f : Nat → Int) (w : World) :
    Calls Try.prog 16 #[.agg (vec f)] w fun e w' => e = .returned (.int .i64 (endsTo f 65).length) ∧ Below w.heap.size w w' := by
  go_enter Try.func16, Try.ntmps16
  go_upto_region 1 with fail
  have g0 := heap_alloc_top w (.cells (vec f) 23)
  have hB := below_alloc w (.cells (vec f) 23)
  generalize w.alloc (.cells (vec f) 23) = W at g0 hB ⊢
  have HG0 := Lib.hid g0; clear g0
  go_wp2_with (refine wpList_row 23 _ rfl w.heap.size rfl rfl 23 (vec f) (0, 0) _ HG0.out Try.underlying23 rfl (info_vec' _) ?_)
  refine (ends_walk f _).mono ?_
  rintro e w1 ⟨v, rfl, hown, hb1⟩
  obtain ⟨ad, cap, rfl, _⟩ := versAt_own hown
  have hB1 := hB.trans (hb1.mono hB.size)
  clear hown hb1 hB HG0
  go_wp2_with fail
  go_ret
  exact ⟨rfl, hB1⟩

theorem list_ne_at {α : Type} {l1 l2 : List α} {k : Nat} (h1 : k < l1.length) (h2 : k < l2.length) (h : l1[k] ≠ l2[k]) : l1 ≠ l2 := by
  rintro rfl
  exact h rfl

set_option maxHeartbeats 2000000 in
theorem same_walk (ad1 ad2 : Option Addr) (cap1 cap2 : Nat) (l1 l2 : List (Int × Int)) (w : World) (hl1 : versAt w ad1 l1) (hl2 : versAt w ad2 l2) (hs1 : l1.length ≤ 9223372036854775807) (hs2 : l2.length ≤ 9223372036854775807) :
    Calls Try.prog 14 #[.slice ad1 l1.length cap1, .slice ad2 l2.length cap2] w fun e w' => e = .returned (.bool (decide (l1 = l2))) ∧ Below w.heap.size w w' := by
  have HL1 := Lib.hid hl1; have HL2 := Lib.hid hl2
  clear hl1 hl2
  by_cases hlen : l1.length = l2.length
  · have HD := Lib.hid hlen
    obtain ⟨n, hn⟩ : ∃ n, n = l1.length := ⟨_, rfl⟩
    have hn2 : n = l2.length := hn.trans hlen
    have HN := Lib.hid hn; have HN2 := Lib.hid hn2
    rw [← hn2, ← hn]
    rw [← hn] at hs1
    clear hs2 hlen hn hn2
    have heq := eq_ver
    go_enter Try.func14, Try.ntmps14
    go_wp2_with fail
    go_loopw [5] (fun i wr => ∃ k : Nat, k ≤ n ∧ i = .int .i64 k ∧ (∀ j (h1 : j < l1.length) (h2 : j < l2.length), j < k → l1[j] = l2[j]) ∧ Below w.heap.size w wr)
      (fun i _ => n - (intOf i).toNat)
    case atStart => exact ⟨0, by omega, rfl, fun j _ _ h => absurd h (by omega), Below.refl _ _⟩
    case round =>
      obtain ⟨k, hk, rfl, hsame, hB⟩ := hrel
      have HS := Lib.hid hsame; clear hsame
      by_cases hlt : k < n
      · have hk1 : k < l1.length := by rw [← HN.out]; exact hlt
        have hk2 : k < l2.length := by rw [← HN2.out]; exact hlt
        have g1 := versAt_below HL1.out (Nat.le_refl _) hB
        have g2 := versAt_below HL2.out (Nat.le_refl _) hB
        rcases g1 with g1 | ⟨b, off, rfl, hbl, hcs⟩
        · simp [g1] at hk1
        rcases g2 with g2 | ⟨c, off2, rfl, hcl, hds⟩
        · simp [g2] at hk2
        obtain ⟨c1, c2⟩ := hcs k hk1
        obtain ⟨d1, d2⟩ := hds k hk2
        obtain ⟨p, hp⟩ : ∃ p, p = l1[k] := ⟨_, rfl⟩
        obtain ⟨r, hr⟩ : ∃ r, r = l2[k] := ⟨_, rfl⟩
        rw [← hp] at c1 c2
        rw [← hr] at d1 d2
        have HP := Lib.hid hp; have HR := Lib.hid hr
        clear hcs hds hp hr
        obtain ⟨x, y⟩ := p
        obtain ⟨x', y'⟩ := r
        have hcc : ∀ w9, (∃ z : Sub wr.heap.size wr, w9 = z.val) → ∀ (j : Nat) (u : Value), [Value.int .i64 x, Value.int .i64 y][j]? = some u → w9.cell? ⟨b, off + k * 2 + j, none⟩ = some u := by
          rintro w9 ⟨z, rfl⟩ j u hj
          match j, hj with
          | 0, hj => simp at hj; subst hj; exact sub_cell c1 hbl z
          | 1, hj => simp at hj; subst hj; exact sub_cell c2 hbl z
          | j + 2, hj => simp at hj
        have hdd : ∀ w9, (∃ z : Sub wr.heap.size wr, w9 = z.val) → ∀ (j : Nat) (u : Value), [Value.int .i64 x', Value.int .i64 y'][j]? = some u → w9.cell? ⟨c, off2 + k * 2 + j, none⟩ = some u := by
          rintro w9 ⟨z, rfl⟩ j u hj
          match j, hj with
          | 0, hj => simp at hj; subst hj; exact sub_cell d1 hcl z
          | 1, hj => simp at hj; subst hj; exact sub_cell d2 hcl z
          | j + 2, hj => simp at hj
        have HCC := Lib.hid hcc; have HDD := Lib.hid hdd
        have HBW := Lib.hid hB
        clear hcc hdd c1 c2 d1 d2 hB
        have he := fun w9 => heq x y x' y' w9
        obtain ⟨B, hBB⟩ : ∃ B, B = (x == x' && y == y') := ⟨_, rfl⟩
        rw [← hBB] at he
        have HBB := Lib.hid hBB
        clear heq hBB
        cases B
        all_goals
          go_wp2_with fail
          refine wp_region_sub (W := wr) (B := wr.heap.size) (by kernel_rfl) (by kernel_rfl) (Below.refl _ _) ?_
          repeat (any_goals (first
            | go_big_quiet_skip
            | (refine wpQuiet_cells 25 _ rfl b (off + k * 2) rfl rfl [.int .i64 x, .int .i64 y] _ HCC.out Try.underlying25 rfl (by kernel_rfl) ?_; simp only [Act.put, List.setIfInBounds_toArray, List.set_cons_succ, List.set_cons_zero])
            | (refine wpQuiet_cells 25 _ rfl c (off2 + k * 2) rfl rfl [.int .i64 x', .int .i64 y'] _ HDD.out Try.underlying25 rfl (by kernel_rfl) ?_; simp only [Act.put, List.setIfInBounds_toArray, List.set_cons_succ, List.set_cons_zero])
            | go_big_quiet_step (fail)
            | quiet_step (fail)))
          refine wpQuiet_nil ?_
          rintro w9 ⟨x9, rfl⟩
          have DB := Lib.hid (HBW.out.trans (x9.below.mono HBW.out.size))
          go_wp2_with fail
        · go_ret
          refine ⟨ret_bool (Eq.symm (decide_eq_false (list_ne_at hk1 hk2 ?_))), DB.out⟩
          rw [← HP.out, ← HR.out]
          intro e
          have := HBB.out
          cases e
          simp at this
        · go_roundw
          case rel =>
            refine ⟨k + 1, by omega, by go_num, ?_, DB.out⟩
            intro j h1 h2 hj
            by_cases hjk : j < k
            · exact HS.out j h1 h2 hjk
            · obtain rfl : j = k := by omega
              rw [← HP.out, ← HR.out]
              have := HBB.out
              simp at this
              rw [this.1, this.2]
          case measure => simp [intOf]; omega
      · go_wp2_with fail
        go_ret
        refine ⟨ret_bool (Eq.symm (decide_eq_true ?_)), hB⟩
        exact List.ext_getElem HD.out fun j h1 h2 => HS.out j h1 h2 (by have := HN.out; omega)
  · have hne : decide (l1 = l2) = false := decide_eq_false (by rintro rfl; exact hlen rfl)
    rw [hne]
    go_enter Try.func14, Try.ntmps14
    go_wp2_with fail
    go_ret
    exact ⟨rfl, Below.refl _ _⟩
end Go.Proofs.Ytjoacoiooijnlaa
