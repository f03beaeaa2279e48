/-
  Layer 41: whether a patch fits, what it makes; the reference's.
-/
import Derived.Test.YtmjpofceoohglaaQuiet
import Derived.Test.YtmjpofceoohglaaOwn
import Derived.IntWalk
import Derived.Deep.Cut
import Derived.Deep.CutRange
import Derived.Deep.LoopGhost
namespace Go.Proofs.Ytmjpofceoohglaa
open Go.RowKit

/-- does a patch fit? -/
def fitB (n : Nat) (h t : Int) : Bool := decide (0 ≤ h ∧ 0 ≤ t ∧ h ≤ n ∧ t ≤ n - h)
/-- a patch's cells -/
def pat (h t : Int) (m : ByteArray) : Array Value := #[.int .i64 h, .int .i64 t, .string m]
theorem info_pat : (Try.prog.info? 23).map (·.size) = some 3 := by kernel_rfl
theorem pat_below (w : World) (o : Obj) : Below w.heap.size w (w.alloc o) := (Below.refl _ _).alloc (Nat.le_refl _) o

set_option maxHeartbeats 1000000 in
theorem fits_walk (n : Nat) (h t : Int) (m : ByteArray) (w : World) (hn : n ≤ 9223372036854775807) :
    Calls Try.prog 15 #[.int .i64 n, .agg (pat h t m)] w fun e w' => e = .returned (.bool (fitB n h t)) ∧ Below w.heap.size w w' := by
  unfold pat
  go_enter Try.func15, Try.ntmps15
  by_cases h0 : 0 ≤ h
  · by_cases h1 : 0 ≤ t
    · by_cases h2 : h ≤ n
      · have hw : wrap64 ((n : Int) - h) = (n : Int) - h := IntWalk.wrap64_in _ ⟨by omega, by omega⟩
        by_cases h3 : t ≤ n - h
        · go_wp2_with fail
          go_ret
          exact ⟨ret_bool (Eq.symm (decide_eq_true ⟨h0, h1, h2, h3⟩)), pat_below _ _⟩
        · go_wp2_with fail
          go_ret
          exact ⟨ret_bool (Eq.symm (decide_eq_false (by omega))), pat_below _ _⟩
      · go_wp2_with fail
        go_ret
        exact ⟨ret_bool (Eq.symm (decide_eq_false (by omega))), pat_below _ _⟩
    · go_wp2_with fail
      go_ret
      exact ⟨ret_bool (Eq.symm (decide_eq_false (by omega))), pat_below _ _⟩
  · go_wp2_with fail
    go_ret
    exact ⟨ret_bool (Eq.symm (decide_eq_false (by omega))), pat_below _ _⟩

/-- what a patch makes of a text -/
def papply (a : ByteArray) (h t : Int) (m : ByteArray) : ByteArray × Int :=
  if fitB a.size h t = true then (if (65536 : Int) < m.size ∨ 65536 - (m.size : Int) < h + t then (⟨#[]⟩, 4) else (a.extract 0 h.toNat ++ m ++ a.extract (a.size - t).toNat a.size, 0)) else (⟨#[]⟩, 3)

set_option maxHeartbeats 1000000 in
theorem apply_walk (a : ByteArray) (h t : Int) (m : ByteArray) (w : World) (ha : a.size ≤ 9223372036854775807) (hm : m.size ≤ 9223372036854775807) :
    Calls Try.prog 7 #[.string a, .agg (pat h t m)] w fun e w' => e = .returned (.tuple #[.string (papply a h t m).1, .int .i64 (papply a h t m).2]) ∧ Below w.heap.size w w' := by
  go_enter Try.func7, Try.ntmps7
  go_upto_region 1 with fail
  have g0 := heap_alloc_top w (.cells (pat h t m) 23)
  have hB := pat_below w (.cells (pat h t m) 23)
  generalize w.alloc (.cells (pat h t m) 23) = W at g0 hB ⊢
  have HG := Lib.hid g0
  go_wp2_with (refine wpList_row 23 _ rfl w.heap.size rfl rfl 23 (pat h t m) (0, 0) _ HG.out Try.underlying23 rfl info_pat ?_)
  refine (fits_walk a.size h t m _ ha).mono ?_
  rintro e w1 ⟨rfl, hb1⟩
  have g1 := (hb1.block w.heap.size (lt_of_block g0)).trans g0
  have hB1 := hB.trans (hb1.mono hB.size)
  clear g0 hB hb1 HG
  have c0 : w1.cell? ⟨w.heap.size, 0, none⟩ = some (.int .i64 h) := by rw [cell_of_row w1 w.heap.size 0 _ _ _ g1]; rfl
  have c1 : w1.cell? ⟨w.heap.size, 1, none⟩ = some (.int .i64 t) := by rw [cell_of_row w1 w.heap.size 1 _ _ _ g1]; rfl
  have c2 : w1.cell? ⟨w.heap.size, 2, none⟩ = some (.string m) := by rw [cell_of_row w1 w.heap.size 2 _ _ _ g1]; rfl
  clear g1
  cases hf : fitB a.size h t with
  | false =>
    have hp : papply a h t m = (⟨#[]⟩, 3) := by unfold papply; rw [hf]; rfl
    have HP := Lib.hid hp
    clear hp
    go_wp2_with fail
    go_ret2
    exact ⟨by rw [HP.out]; rfl, hB1⟩
  | true =>
    obtain ⟨f0, f1, f2, f3⟩ := of_decide_eq_true hf
    by_cases hb : (65536 : Int) < m.size
    · have hp : papply a h t m = (⟨#[]⟩, 4) := by unfold papply; rw [hf, if_pos rfl, if_pos (.inl hb)]
      have HP := Lib.hid hp
      clear hp
      go_wp2_with fail
      go_ret2
      exact ⟨by rw [HP.out]; rfl, hB1⟩
    · have hw1 : wrap64 (h + t) = h + t := IntWalk.wrap64_in _ ⟨by omega, by omega⟩
      have hw2 : wrap64 (65536 - (m.size : Int)) = 65536 - (m.size : Int) := IntWalk.wrap64_in _ ⟨by omega, by omega⟩
      by_cases hb2 : 65536 - (m.size : Int) < h + t
      · have hp : papply a h t m = (⟨#[]⟩, 4) := by unfold papply; rw [hf, if_pos rfl, if_pos (.inr hb2)]
        have HP := Lib.hid hp
        clear hp
        go_wp2_with fail
        go_ret2
        exact ⟨by rw [HP.out]; rfl, hB1⟩
      · have hp : papply a h t m = (a.extract 0 h.toNat ++ m ++ a.extract (a.size - t).toNat a.size, 0) := by unfold papply; rw [hf, if_pos rfl, if_neg (by omega)]
        have HP := Lib.hid hp
        clear hp
        have hw3 : wrap64 ((a.size : Int) - t) = (a.size : Int) - t := IntWalk.wrap64_in _ ⟨by omega, by omega⟩
        have d0 : w1.drew.cell? ⟨w.heap.size, 0, none⟩ = some (.int .i64 h) := c0
        have d1 : w1.drew.cell? ⟨w.heap.size, 1, none⟩ = some (.int .i64 t) := c1
        have d2 : w1.drew.cell? ⟨w.heap.size, 2, none⟩ = some (.string m) := c2
        go_wp2_with fail
        go_region
        go_wp2_with fail
        go_ret2
        exact ⟨by rw [HP.out]; rfl, hB1.drew⟩

theorem size_papply (a m : ByteArray) (h t : Int) (h0 : 0 ≤ h) (h1 : 0 ≤ t) (h2 : h ≤ a.size) (h3 : t ≤ a.size - h) : (a.extract 0 h.toNat ++ m ++ a.extract ((a.size : Int) - t).toNat a.size).size = h.toNat + m.size + t.toNat := by
  rw [ByteArray.size_append, ByteArray.size_append, ByteArray.size_extract, ByteArray.size_extract]
  omega

set_option maxHeartbeats 2000000 in
theorem refApply_walk (a : ByteArray) (h t : Int) (m : ByteArray) (w : World) (ha : a.size ≤ 9223372036854775807) (hsm : a.size + m.size ≤ 9223372036854775807) :
    Calls Try.prog 8 #[.string a, .agg (pat h t m)] w fun e w' => e = .returned (.tuple #[.string (papply a h t m).1, .int .i64 (papply a h t m).2]) ∧ Below w.heap.size w w' := by
  go_enter Try.func8, Try.ntmps8
  go_upto_region 1 with fail
  have g1 := heap_alloc_top w (.cells (pat h t m) 23)
  have hB1 := pat_below w (.cells (pat h t m) 23)
  generalize w.alloc (.cells (pat h t m) 23) = w1 at g1 hB1 ⊢
  have c0 : w1.cell? ⟨w.heap.size, 0, none⟩ = some (.int .i64 h) := by rw [cell_of_row w1 w.heap.size 0 _ _ _ g1]; rfl
  have c1 : w1.cell? ⟨w.heap.size, 1, none⟩ = some (.int .i64 t) := by rw [cell_of_row w1 w.heap.size 1 _ _ _ g1]; rfl
  have c2 : w1.cell? ⟨w.heap.size, 2, none⟩ = some (.string m) := by rw [cell_of_row w1 w.heap.size 2 _ _ _ g1]; rfl
  clear g1
  cases hf : fitB a.size h t with
  | false =>
    have hp : papply a h t m = (⟨#[]⟩, 3) := by unfold papply; rw [hf]; rfl
    have HP := Lib.hid hp
    clear hp
    have hno := of_decide_eq_false hf
    clear hf
    by_cases h0 : 0 ≤ h
    · by_cases h1 : 0 ≤ t
      · by_cases h2 : h ≤ a.size
        · have hw : wrap64 ((a.size : Int) - h) = (a.size : Int) - h := IntWalk.wrap64_in _ ⟨by omega, by omega⟩
          have h3 : ¬ t ≤ a.size - h := by omega
          clear hno
          go_wp2_with fail
          go_ret2
          exact ⟨by rw [HP.out]; rfl, hB1⟩
        · clear hno
          go_wp2_with fail
          go_ret2
          exact ⟨by rw [HP.out]; rfl, hB1⟩
      · clear hno
        go_wp2_with fail
        go_ret2
        exact ⟨by rw [HP.out]; rfl, hB1⟩
    · clear hno
      go_wp2_with fail
      go_ret2
      exact ⟨by rw [HP.out]; rfl, hB1⟩
  | true =>
    obtain ⟨h0, h1, h2, h3⟩ := of_decide_eq_true hf
    have hsz := size_papply a m h t h0 h1 h2 h3
    have hw : wrap64 ((a.size : Int) - h) = (a.size : Int) - h := IntWalk.wrap64_in _ ⟨by omega, by omega⟩
    have hw3 : wrap64 ((a.size : Int) - t) = (a.size : Int) - t := IntWalk.wrap64_in _ ⟨by omega, by omega⟩
    have d0 : w1.drew.cell? ⟨w.heap.size, 0, none⟩ = some (.int .i64 h) := c0
    have d1 : w1.drew.cell? ⟨w.heap.size, 1, none⟩ = some (.int .i64 t) := c1
    have d2 : w1.drew.cell? ⟨w.heap.size, 2, none⟩ = some (.string m) := c2
    by_cases hb : (65536 : Int) < m.size ∨ 65536 - (m.size : Int) < h + t
    · have hp : papply a h t m = (⟨#[]⟩, 4) := by unfold papply; rw [hf, if_pos rfl, if_pos hb]
      have HP := Lib.hid hp
      have hbig : 65536 < h.toNat + m.size + t.toNat := by omega
      clear hp hf hb
      go_wp2_with fail
      go_region
      go_wp2_with fail
      go_ret2
      exact ⟨by rw [HP.out]; rfl, hB1.drew⟩
    · have hp : papply a h t m = (a.extract 0 h.toNat ++ m ++ a.extract (a.size - t).toNat a.size, 0) := by unfold papply; rw [hf, if_pos rfl, if_neg hb]
      have HP := Lib.hid hp
      have hbig : ¬ 65536 < h.toNat + m.size + t.toNat := by omega
      clear hp hf hb
      go_wp2_with fail
      go_region
      go_wp2_with fail
      go_ret2
      exact ⟨by rw [HP.out]; rfl, hB1.drew⟩
end Go.Proofs.Ytmjpofceoohglaa
