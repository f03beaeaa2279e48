/-
  Layer 41: a patch is laid.
-/
import Derived.Test.YtmjpofceoohglaaPatC
import Derived.Test.YtmjpofceoohglaaLebD
namespace Go.Proofs.Ytmjpofceoohglaa
open Go.RowKit

/-- a patch's fields -/
def patF (h t : Int) (m : ByteArray) : List Fld := [(h, ⟨#[]⟩, false), (t, ⟨#[]⟩, false), (0, m, true)]
theorem patF_at {w : World} {b : Nat} {h t : Int} {m : ByteArray} {ty : TypeId} (hb : w.heap[b]? = some (.cells #[.int .i64 h, .string ⟨#[]⟩, .bool false, .int .i64 t, .string ⟨#[]⟩, .bool false, .int .i64 0, .string m, .bool true] ty (0, 0))) : fldsAt w (some ⟨b, 0, none⟩) (patF h t m) := by
  refine .inr ⟨b, 0, rfl, lt_of_block hb, fun i hi j u hu => ?_⟩
  rw [cell_of_row w b (0 + i * 3 + j) _ _ _ hb]
  match i, hi with
  | 0, _ =>
    match j, hu with
    | 0, hu => exact hu
    | 1, hu => exact hu
    | 2, hu => exact hu
    | j + 3, hu => simp [patF] at hu
  | 1, _ =>
    match j, hu with
    | 0, hu => exact hu
    | 1, hu => exact hu
    | 2, hu => exact hu
    | j + 3, hu => simp [patF] at hu
  | 2, _ =>
    match j, hu with
    | 0, hu => exact hu
    | 1, hu => exact hu
    | 2, hu => exact hu
    | j + 3, hu => simp [patF] at hu
  | i + 3, hi => exact absurd hi (by simp [patF])

set_option maxHeartbeats 2000000 in
theorem put_walk (h t : Int) (m : ByteArray) (w : World) (hh : h ≤ 9223372036854775807) (ht : t ≤ 9223372036854775807) (hm : m.size ≤ 9223372036854775807) :
    Calls Try.prog 11 #[.agg (pat h t m)] w fun e w' => e = .returned (.tuple #[.string (lay (patF h t m)).1, .int .i64 (lay (patF h t m)).2]) ∧ Below w.heap.size w w' := by
  go_enter Try.func11, Try.ntmps11
  go_upto_region 1 with fail
  have g0 := heap_alloc_top w (.cells (pat h t m) 23)
  have hB := pat_below w (.cells (pat h t m) 23)
  obtain ⟨q, hq⟩ : ∃ q, q = w.heap.size := ⟨_, rfl⟩
  rw [← hq] at g0 ⊢
  generalize w.alloc (.cells (pat h t m) 23) = W at g0 hB ⊢
  have hqW := lt_of_block g0
  have HB := Lib.hid hB
  clear hB hq
  have hc : ∀ x : Sub W.heap.size W, x.val.heap[q]? = some (.cells (pat h t m) 23 (0, 0)) := fun x => sub_heap g0 hqW x
  have c0 : ∀ x : Sub W.heap.size W, x.val.cell? ⟨q, 0, none⟩ = some (.int .i64 h) := fun x => by rw [cell_of_row x.val q 0 _ _ _ (hc x)]; rfl
  have c1 : ∀ x : Sub W.heap.size W, x.val.cell? ⟨q, 1, none⟩ = some (.int .i64 t) := fun x => by rw [cell_of_row x.val q 1 _ _ _ (hc x)]; rfl
  have c2 : ∀ x : Sub W.heap.size W, x.val.cell? ⟨q, 2, none⟩ = some (.string m) := fun x => by rw [cell_of_row x.val q 2 _ _ _ (hc x)]; rfl
  have hBW : W.heap.size ≤ W.heap.size := Nat.le_refl _
  clear g0 hc
  refine wp_region_mix (inSub W.heap.size W) [(0,true),(1,true),(3,true),(4,true),(6,true),(7,true),(2,false),(5,false),(8,false),(9,false),(10,false),(11,true),(12,true),(13,true),(14,true)] (by kernel_rfl) (by kernel_rfl) (inSub_of (Below.refl _ _).drew) ?_
  have hb0 : Below W.heap.size W W.drew := (Below.refl _ _).drew
  generalize W.drew = w0 at hb0 ⊢
  simp only [List.filterMap_cons, List.filterMap_nil, List.getElem?_cons_zero, List.getElem?_cons_succ, Option.map_some]
  repeat (refine mix_read (by rfl) ?_; apply Exists.intro; refine ⟨fun w9 hw9 => ?_, ?_⟩; (· obtain ⟨x9, rfl⟩ := hw9; have d0 := c0 x9; have d1 := c1 x9; have d2 := c2 x9; go_simp; rfl); simp only [Act.put, List.setIfInBounds_toArray, List.set_cons_succ, List.set_cons_zero])
  refine mix_step (by rfl) (fun K' hK => ?_)
  go_simp
  go_at_call 17
  refine (calls_in (n_walk h _) hb0 hBW).mono ?_
  rintro e w1 ⟨rfl, hb1⟩
  refine hK _ _ (inSub_of hb1) ?_
  clear hK K'
  try simp only [Act.put, List.setIfInBounds_toArray, List.set_cons_succ, List.set_cons_zero]
  refine mix_step (by rfl) (fun K' hK => ?_)
  go_simp
  go_at_call 17
  refine (calls_in (n_walk t _) hb1 hBW).mono ?_
  rintro e w2 ⟨rfl, hb2⟩
  refine hK _ _ (inSub_of hb2) ?_
  clear hK K'
  try simp only [Act.put, List.setIfInBounds_toArray, List.set_cons_succ, List.set_cons_zero]
  refine mix_step (by rfl) (fun K' hK => ?_)
  go_simp
  go_at_call 18
  refine (calls_in (t_walk m _) hb2 hBW).mono ?_
  rintro e w3 ⟨rfl, hb3⟩
  refine hK _ _ (inSub_of hb3) ?_
  clear hK K'
  try simp only [Act.put, List.setIfInBounds_toArray, List.set_cons_succ, List.set_cons_zero]
  refine mix_step (by rfl) (fun K' hK => ?_)
  unfold fld
  go_simp
  have g4 := heap_alloc_top w3 (.cells #[.int .i64 h, .string ⟨#[]⟩, .bool false, .int .i64 t, .string ⟨#[]⟩, .bool false, .int .i64 0, .string m, .bool true] 43)
  have hb4 := hb3.alloc hb3.size (.cells #[.int .i64 h, .string ⟨#[]⟩, .bool false, .int .i64 t, .string ⟨#[]⟩, .bool false, .int .i64 0, .string m, .bool true] 43)
  refine hK _ _ (inSub_of hb4) ?_
  clear hK K'
  try simp only [Act.put, List.setIfInBounds_toArray, List.set_cons_succ, List.set_cons_zero]
  have hat := patF_at g4
  generalize w3.alloc (.cells #[.int .i64 h, .string ⟨#[]⟩, .bool false, .int .i64 t, .string ⟨#[]⟩, .bool false, .int .i64 0, .string m, .bool true] 43) = w4 at hat hb4 ⊢
  clear g4
  refine mix_step (by rfl) (fun K' hK => ?_)
  go_simp
  go_at_call 16
  refine (calls_in (lay_walk (some ⟨w3.heap.size, 0, none⟩) 3 (patF h t m) _ hat (by simp [patF]) (by
    intro f hf
    simp only [patF, List.mem_cons, List.not_mem_nil, or_false] at hf
    rcases hf with rfl | rfl | rfl
    · exact ⟨hh, Nat.zero_le _⟩
    · exact ⟨ht, Nat.zero_le _⟩
    · exact ⟨(by decide : (0 : Int) ≤ 9223372036854775807), hm⟩)) hb4 hBW).mono ?_
  rintro e w5 ⟨rfl, hb5⟩
  refine hK _ _ (inSub_of hb5) ?_
  clear hK K' hat
  try simp only [Act.put, List.setIfInBounds_toArray, List.set_cons_succ, List.set_cons_zero]
  repeat (refine mix_read (by rfl) ?_; apply Exists.intro; refine ⟨fun w9 hw9 => ?_, ?_⟩; (· go_simp; rfl); simp only [Act.put, List.setIfInBounds_toArray, List.set_cons_succ, List.set_cons_zero])
  refine mix_nil (NoPanic.normal ?_)
  go_wp2_with fail
  go_ret2
  exact ⟨rfl, HB.out.trans (hb5.mono HB.out.size)⟩
end Go.Proofs.Ytmjpofceoohglaa
