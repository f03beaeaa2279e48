/-
  Layer 3: New, ready, call; what is told of a disk.
-/
import Derived.Test.YtcabocppplokgaaDskA
import Derived.OwnWalk
import Derived.IntWalk
import Derived.Deep.CutRange
namespace Go.Proofs.Ytcabocppplokgaa
open Go.RowKit

theorem int_key : Go.Maps.Keyed Try.prog 3 := Go.Maps.int_keyed Try.underlying3
theorem info_sec : ∃ i, Try.prog.info? 65 = some i ∧ i.zero = some (.agg (List.replicate 64 (Value.int .u8 0)).toArray) ∧ i.size = 64 ∧ i.bytes = 64 := by
  have h : (Try.prog.info? 65).map (fun i => (i.zero, i.size, i.bytes)) = some (some (.agg (List.replicate 64 (Value.int .u8 0)).toArray), 64, 64) := by kernel_rfl
  obtain ⟨i, hi, hb⟩ := Option.map_eq_some_iff.1 h
  simp only [Prod.mk.injEq] at hb
  exact ⟨i, hi, hb.1, hb.2.1, hb.2.2⟩

/-- a sector of nought -/
def z64 : Sec := List.replicate 64 0
theorem z64_length : z64.length = 64 := List.length_replicate
theorem bv_z64 : bv z64 = List.replicate 64 (Value.int .u8 0) := by unfold z64 bv; rw [List.map_replicate]; rfl
theorem made_rep (v : Value) (m N : Nat) (hm : 0 < m) : (madeCells (List.replicate m v).toArray N).toList = List.replicate N v := by
  apply List.ext_getElem
  · simp [madeCells]
  · intro i h2 h3
    have hi : i % m < m := Nat.mod_lt _ hm
    simp only [madeCells, Array.getElem_toList, Array.getElem_map, Array.getElem_range, List.getElem_replicate, List.size_toArray, List.length_replicate]
    rw [getElem!_pos _ _ (by simpa using hi)]
    simp
theorem secv_rep (n : Nat) : secv (List.replicate n z64) = List.replicate (n * 64) (Value.int .u8 0) := by
  induction n with
  | zero => rfl
  | succ n ih =>
    rw [List.replicate_succ, secv_cons, ih, bv_z64, List.replicate_append_replicate]
    congr 1
    omega
theorem made_secs (n : Nat) : (madeCells (List.replicate 64 (Value.int .u8 0)).toArray (n * 64)).toList = secv (List.replicate n z64) := by
  rw [secv_rep]
  exact made_rep _ 64 _ (by omega)
/-- a disk that was laid -/
theorem disk_laid (w w1 : World) (n : Nat) (h1 : 1 ≤ n) (h2 : n ≤ 4096) (hr : w1.ownsRow w.heap.size 65 64 (.slice (some ⟨w.heap.size, 0, none⟩) n n) n (secv (List.replicate n z64))) (hb : Below w.heap.size w w1) :
    ∃ p F, p = w1.heap.size + 1 ∧ Below w.heap.size w ((w1.alloc (.map #[] 0)).alloc (.cells #[.slice (some ⟨w.heap.size, 0, none⟩) n n, .map (some w1.heap.size), .int .i64 0, .int .i64 0, .bool false] 61)) ∧
      Disk ((w1.alloc (.map #[] 0)).alloc (.cells #[.slice (some ⟨w.heap.size, 0, none⟩) n n, .map (some w1.heap.size), .int .i64 0, .int .i64 0, .bool false] 61)) p F ⟨List.replicate n [z64], 0, 0, false⟩ ∧ ∀ k, F k → w.heap.size ≤ k := by
  have hlt := hr.lt w.heap.size rfl
  have hS : (List.replicate n [z64]).length = n := List.length_replicate
  have hp : ∀ i, pend (List.replicate n [z64]) i = [] := fun i => by
    unfold pend
    rw [List.getD_eq_getElem?_getD, List.getElem?_replicate]
    split <;> rfl
  have hd : dirt (List.replicate n [z64]) = [] := by
    unfold dirt
    rw [List.filter_eq_nil_iff]
    intro i _
    rw [hp i]; simp
  have hsf : safes (List.replicate n [z64]) = List.replicate n z64 := by simp [safes]
  refine ⟨_, dfoot (w1.heap.size + 1) w.heap.size w1.heap.size (fun _ => .slice none 0 0) (List.replicate n [z64]), rfl, (hb.alloc hb.size _).alloc (by have := hb.size; simp; omega) _, ?_, ?_⟩
  · refine ⟨w.heap.size, w1.heap.size, n, fun _ => .slice none 0 0, ⟨?_, ?_, ?_, fun i hi => absurd (hp i) hi, fun i j _ hi => absurd (hp i) hi, fun i hi => absurd (hp i) hi, ⟨by rw [hS]; exact h1, by rw [hS]; exact h2, ?_⟩, by show (0 : Int) ≤ 0 ∧ (0 : Int) ≤ _; omega⟩, fun k => Iff.rfl⟩
    · rw [hS]
      have := heap_alloc_top (w1.alloc (.map #[] 0)) (.cells #[.slice (some ⟨w.heap.size, 0, none⟩) n n, .map (some w1.heap.size), .int .i64 0, .int .i64 0, .bool false] 61)
      rw [World.size_alloc] at this
      exact this
    · show SecRow _ (.slice (some ⟨w.heap.size, 0, none⟩) (List.replicate n [z64]).length n) (safes (List.replicate n [z64]))
      rw [hsf, hS]
      have h3 := (hr.alloc (.map #[] 0)).alloc (.cells #[.slice (some ⟨w.heap.size, 0, none⟩) n n, .map (some w1.heap.size), .int .i64 0, .int .i64 0, .bool false] 61)
      have h4 := Go.Joins.ownsRow_le h3 (Nat.zero_le _)
      unfold SecRow
      rw [List.length_replicate]
      exact h4
    · show MapL _ _ _ _ (nowF (List.replicate n [z64]) _) (dirt (List.replicate n [z64])).length
      rw [hd]
      refine MapL.congr ((MapL.made w1 Try.prog 3).same (heap_alloc_lt _ _ _ (by simp))) (fun l _ => ?_) rfl
      unfold nowF
      cases l with
      | int k i =>
        cases k with
        | i64 => simp only [hp]; simp
        | _ => rfl
      | _ => rfl
    · intro L hL
      rw [(List.mem_replicate.1 hL).2]
      exact ⟨by simp, fun s hs => by rw [List.mem_singleton.1 hs]; exact z64_length⟩
  · intro k hk
    rcases hk with rfl | rfl | rfl | ⟨i, hi, _⟩
    · have := hb.size; omega
    · exact Nat.le_refl _
    · exact hb.size
    · exact absurd (hp i) hi

theorem new_bad (n : Int) (w : World) (h : n < 1 ∨ 4096 < n) : Calls Try.prog 6 #[.int .i64 n] w fun e w' => e = .returned (.tuple #[.pointer none, .int .i64 2]) ∧ w' = w := by
  go_enter Try.func6, Try.ntmps6
  rcases h with h | h
  · go_wp2_with fail
    go_ret2
    exact ⟨rfl, rfl⟩
  · have h' : ¬ n < 1 := by omega
    go_wp2_with fail
    go_ret2
    exact ⟨rfl, rfl⟩

set_option maxHeartbeats 1000000 in
theorem new_disk (n : Nat) (w : World) (h1 : 1 ≤ n) (h2 : n ≤ 4096) : Calls Try.prog 6 #[.int .i64 n] w fun e w' => ∃ p F, e = .returned (.tuple #[.pointer (some ⟨p, 0, none⟩), .int .i64 0]) ∧ Below w.heap.size w w' ∧ Disk w' p F ⟨List.replicate n [z64], 0, 0, false⟩ ∧ ∀ k, F k → w.heap.size ≤ k := by
  obtain ⟨i0, hi, hz0, hz1, hz2⟩ := info_sec
  have hmm := @run_makeMap Try.prog
  have ha : ¬ (n : Int) < 1 := by omega
  have hb : ¬ (4096 : Int) < (n : Int) := by omega
  have H1 := Lib.hid h1; have H2 := Lib.hid h2
  clear h1 h2
  go_enter Try.func6, Try.ntmps6
  go_upto_region 3 with fail
  clear ha hb
  go_wp2_with (first
    | (refine wpList_make_full _ rfl _ _ 58 rfl w.heap.size 65 i0 (.agg (List.replicate 64 (Value.int .u8 0)).toArray) 64 Try.underlying58 hi hz0 hz1 .i64 .i64 (n : Int) (n : Int) n rfl rfl rfl rfl (by rw [hz2]; have := H2.out; omega) (by unfold maxLen; have := H2.out; omega) (Nat.le_refl _) ?_)
    | fail)
  intro w1 hr1 hg1
  have hr2 : w1.ownsRow w.heap.size 65 64 (.slice (some ⟨w.heap.size, 0, none⟩) n n) n (secv (List.replicate n z64)) := by
    rw [← made_secs]; exact hr1
  have HR := Lib.hid hr2; have HB1 := Lib.hid (below_of_grownBy_none hg1)
  clear hr1 hr2 hg1
  go_wp2_with fail
  obtain ⟨p, F, hp, hbl, hdk, hF⟩ := disk_laid w w1 n H1.out H2.out HR.out HB1.out
  go_ret2
  exact ⟨p, F, by rw [hp]; rfl, hbl, hdk, hF⟩
end Go.Proofs.Ytcabocppplokgaa
