/-
  Walks of layer 13: the last versions of a vector, as both tell them.
-/
import Derived.Test.YtjoacoiooijnlaaVecG
namespace Go.Proofs.Ytjoacoiooijnlaa
open Go.RowKit

/-- versions as cells -/
def pv (l : List (Int × Int)) : List Value := l.flatMap fun p => [.int .i64 p.1, .int .i64 p.2]
theorem pv_append (a b : List (Int × Int)) : pv (a ++ b) = pv a ++ pv b := by simp [pv]
theorem pv_length (l : List (Int × Int)) : (pv l).length = l.length * 2 := by
  induction l with
  | nil => rfl
  | cons p r ih => simp only [pv, List.flatMap_cons, List.length_append, List.length_cons, List.length_nil] at ih ⊢; omega
theorem info_ver : (Try.prog.info? 25).map (fun i => (i.zero, i.size, i.bytes)) = some (some (.agg #[.int .i64 0, .int .i64 0]), 2, 16) := by kernel_rfl

/-- the last versions of the first replicas -/
def endsTo (f : Nat → Int) : Nat → List (Int × Int)
  | 0 => []
  | k + 1 => endsTo f k ++ if 0 < vclean f k then [((k : Int), vclean f k)] else []
theorem endsTo_le (f : Nat → Int) (k : Nat) : (endsTo f k).length ≤ k := by
  induction k with
  | zero => simp [endsTo]
  | succ k ih => simp only [endsTo, List.length_append]; split <;> simp <;> omega

theorem src_two {P : Program} (w : World) {tx e' : TypeId} (hk : P.underlying tx = some (.slice e')) (ad : Nat) (c : Nat) (u v : Value) (h1 : u.oneCell' = true) (h2 : v.oneCell' = true)
    (hc : w.cell? ⟨ad, 0, none⟩ = some u) (hd : w.cell? ⟨ad, 1, none⟩ = some v) : Src P 2 tx (.slice (some ⟨ad, 0, none⟩) 1 c) 1 [u, v] w :=
  Src.ofSlice _ hk ⟨ad, 0, none⟩ 1 c [u, v] rfl (by
    intro j x hj
    match j, hj with
    | 0, hj => simp at hj; subst hj; simpa [Addr.add] using hc
    | 1, hj => simp at hj; subst hj; simpa [Addr.add] using hd
    | j + 2, hj => simp at hj) (by intro x hx; simp at hx; rcases hx with rfl | rfl <;> assumption)

set_option maxHeartbeats 1000000 in
theorem ends_walk (f : Nat → Int) (w : World) :
    Calls Try.prog 8 #[.agg (vec f)] w fun e w' => ∃ v, e = .returned v ∧ w'.ownsRow w.heap.size 25 2 v (endsTo f 65).length (pv (endsTo f 65)) ∧ Below w.heap.size w w' := by
  obtain ⟨i0, hi, hz0, hz1, hz2⟩ := info_parts info_ver
  go_enter Try.func8, Try.ntmps8
  go_upto_region 1 with fail
  have g0 := heap_alloc_top w (.cells (vec f) 23)
  have hB := below_alloc w (.cells (vec f) 23)
  generalize w.alloc (.cells (vec f) 23) = W at g0 hB ⊢
  have HG0 := Lib.hid g0; clear g0
  go_wp2_with (refine wpList_row 23 _ rfl w.heap.size rfl rfl 23 (vec f) (0, 0) _ HG0.out Try.underlying23 rfl (info_vec' _) ?_)
  refine (clean_walk f _).mono ?_
  rintro e w1 ⟨rfl, hb1⟩
  have hB1 := hB.trans (hb1.mono hB.size)
  clear hb1 hB HG0
  go_wp2_with fail
  go_loopw [3, 8] (fun v i wr => ∃ k : Nat, k ≤ 65 ∧ i = .int .i64 k ∧ wr.ownsRow w.heap.size 25 2 v (endsTo f k).length (pv (endsTo f k)) ∧ Below w.heap.size w wr)
    (fun _ i _ => 65 - (intOf i).toNat)
  case atStart => exact ⟨0, by omega, rfl, World.ownsRow_nil _ _ _ _, hB1⟩
  case round =>
    obtain ⟨k, hk, rfl, hown, hB2⟩ := hrel
    by_cases hlt : k < 65
    · have hidx := index_vec (vclean f) k hlt
      have hle := endsTo_le f k
      by_cases hpos : 0 < vclean f k
      · have hst : endsTo f (k + 1) = endsTo f k ++ [((k : Int), vclean f k)] := by simp only [endsTo, hpos, if_true]
        have HST := Lib.hid hst; clear hst
        obtain ⟨n, hn⟩ : ∃ n, n = (endsTo f k).length := ⟨_, rfl⟩
        rw [← hn] at hown hle
        have HN := Lib.hid hn; clear hn
        go_wp2_with (at_builtin; refine wpList_append_src _ rfl _ _ 27 27 rfl w.heap.size 25 i0 (.agg #[.int .i64 0, .int .i64 0]) 2 16 Try.underlying27 hi hz0 hz1 hz2 rfl (by decide) _ _ _ rfl (hown.alloc _) _ 1 [.int .i64 k, .int .i64 (vclean f k)] rfl (src_two _ Try.underlying27 _ _ _ _ rfl rfl (by simp) (by simp)) ?_ ?_ ?_ ?_)
        · unfold maxLen; omega
        · omega
        · have := hB2.size; simp; omega
        intro v' w2 hown3 hgrow
        have hB3 := (hB2.alloc hB2.size _).grown hgrow (by have := hB2.size; simp; omega) (fun k hk => (hown.lt k hk).1)
        have HO := Lib.hid hown3
        clear hown3 hgrow hown
        go_wp2
        go_roundw
        case rel =>
          refine ⟨k + 1, by omega, by go_num, ?_, hB3⟩
          have := HO.out
          rw [HST.out, pv_append, List.length_append, ← HN.out]
          exact this
        case measure => simp [intOf]; omega
      · have hst : endsTo f (k + 1) = endsTo f k := by simp only [endsTo, hpos, if_false, List.append_nil]
        have HST := Lib.hid hst; clear hst
        have hpos' : vclean f k ≤ 0 := by omega
        clear hpos
        go_wp2_with fail
        go_roundw
        case rel => exact ⟨k + 1, by omega, by go_num, by rw [HST.out]; exact hown, hB2⟩
        case measure => simp [intOf]; omega
    · obtain rfl : k = 65 := by omega
      go_wp2_with fail
      go_ret
      exact ⟨_, rfl, hown, hB2⟩
end Go.Proofs.Ytjoacoiooijnlaa
