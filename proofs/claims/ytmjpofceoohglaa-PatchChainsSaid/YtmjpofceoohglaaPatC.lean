/-
  Layer 41: how a text becomes another one: it does.
-/
import Derived.Test.YtmjpofceoohglaaPatB
namespace Go.Proofs.Ytmjpofceoohglaa
open Go.RowKit

theorem heap_setRow_same {w : World} {g : Nat} {cur cs : Array Value} {t : TypeId} (h : w.heap[g]? = some (.cells cur t (0, 0))) : (w.setRow g cs).heap[g]? = some (.cells cs t (0, 0)) := setRow_heap w g cur cs t _ h
theorem heap_setRow_other (w : World) (g k : Nat) (cs : Array Value) (h : k ≠ g) : (w.setRow g cs).heap[k]? = w.heap[k]? := setRow_other w g k cs h
theorem below_setRow {B : Nat} {a w : World} (h : Below B a w) {g : Nat} (hg : B ≤ g) (cs : Array Value) : Below B a (w.setRow g cs) :=
  h.trans ⟨rfl, rfl, rfl, by simp, fun k hk => setRow_other w g k cs (by omega)⟩
theorem three_blocks (w : World) (A B C : Obj) : (((w.alloc A).alloc B).alloc C).heap[w.heap.size]? = some A ∧ (((w.alloc A).alloc B).alloc C).heap[w.heap.size + 1]? = some B ∧ (((w.alloc A).alloc B).alloc C).heap[w.heap.size + 2]? = some C ∧
    Below w.heap.size w (((w.alloc A).alloc B).alloc C) ∧ (((w.alloc A).alloc B).alloc C).heap.size = w.heap.size + 3 := by
  have h1 := heap_alloc_top (w.alloc A) B
  have h2 := heap_alloc_top ((w.alloc A).alloc B) C
  simp only [World.size_alloc] at h1 h2
  exact ⟨(heap_alloc_lt _ _ _ (by simp; omega)).trans ((heap_alloc_lt _ _ _ (by simp)).trans (heap_alloc_top _ _)), (heap_alloc_lt _ _ _ (by simp)).trans h1, h2,
    ((pat_below w A).alloc (by simp) B).alloc (by simp; omega) C, by simp⟩

/-- the ends that are alike, and the middle -/
def headN (a b : ByteArray) : Nat := alikeF (f1 a b) (min a.size b.size) 0
def tailN (a b : ByteArray) : Nat := alikeF (f2 a b) (min a.size b.size - headN a b) 0
def midB (a b : ByteArray) : ByteArray := b.extract (headN a b) (b.size - tailN a b)

theorem alikeF_le (f : Nat → Bool) : ∀ n k, k ≤ alikeF f n k ∧ alikeF f n k ≤ k + n
  | 0, k => by simp [alikeF]
  | n + 1, k => by
    unfold alikeF
    have := alikeF_le f n (k + 1)
    split <;> omega
theorem alikeF_true (f : Nat → Bool) : ∀ n k i, k ≤ i → i < alikeF f n k → f i = true
  | 0, k, i, h1, h2 => by simp [alikeF] at h2; omega
  | n + 1, k, i, h1, h2 => by
    unfold alikeF at h2
    by_cases hf : f k = true
    · rw [if_pos hf] at h2
      by_cases hi : i = k
      · rw [hi]; exact hf
      · exact alikeF_true f n (k + 1) i (by omega) h2
    · rw [if_neg hf] at h2; omega
theorem headN_le (a b : ByteArray) : headN a b ≤ min a.size b.size := by have := alikeF_le (f1 a b) (min a.size b.size) 0; unfold headN; omega
theorem tailN_le (a b : ByteArray) : tailN a b ≤ min a.size b.size - headN a b := by have := alikeF_le (f2 a b) (min a.size b.size - headN a b) 0; unfold tailN; omega

set_option maxHeartbeats 2000000 in
theorem make_walk (a b : ByteArray) (w : World) (ha : a.size ≤ 9223372036854775807) (hbs : b.size ≤ 9223372036854775807) :
    Calls Try.prog 14 #[.string a, .string b] w fun e w' => e = .returned (.agg (pat (headN a b) (tailN a b) (midB a b))) ∧ Below w.heap.size w w' := by
  go_enter Try.func14, Try.ntmps14
  go_upto_region 1 with fail
  obtain ⟨g0, g1, g2, hB, hS⟩ := three_blocks w (.cells #[.string a] 9) (.cells #[.string b] 9) (.cells #[.int .i64 0, .int .i64 0, .string ⟨#[]⟩] 23)
  obtain ⟨p0, hp0⟩ : ∃ p, p = w.heap.size := ⟨_, rfl⟩
  obtain ⟨p1, hp1⟩ : ∃ p, p = w.heap.size + 1 := ⟨_, rfl⟩
  obtain ⟨p2, hp2⟩ : ∃ p, p = w.heap.size + 2 := ⟨_, rfl⟩
  rw [show w.heap.size + 1 + 1 = p2 by omega, ← hp1, ← hp0]
  rw [← hp2] at g2; rw [← hp1] at g1; rw [← hp0] at g0
  generalize ((w.alloc (.cells #[.string a] 9)).alloc (.cells #[.string b] 9)).alloc (.cells #[.int .i64 0, .int .i64 0, .string ⟨#[]⟩] 23) = W at g0 g1 g2 hB hS ⊢
  have HP := Lib.hid (show p0 = w.heap.size ∧ p1 = w.heap.size + 1 ∧ p2 = w.heap.size + 2 from ⟨hp0, hp1, hp2⟩)
  have HS := Lib.hid hS
  clear hp0 hp1 hp2 hS
  have c0 : W.cell? ⟨p0, 0, none⟩ = some (.string a) := by rw [cell_of_row W p0 0 _ _ _ g0]; rfl
  have c1 : W.cell? ⟨p1, 0, none⟩ = some (.string b) := by rw [cell_of_row W p1 0 _ _ _ g1]; rfl
  have G0 := Lib.hid g0; have G1 := Lib.hid g1; have G2 := Lib.hid g2; have HB := Lib.hid hB
  clear g0 g1 g2 hB
  go_cut [5] from 8 (fun s5 wx => s5 = .int .i64 (min a.size b.size : Nat) ∧ wx = W)
  case first =>
    go_wp2_with fail
    all_goals go_meet
    all_goals exact ⟨by congr 1; omega, rfl⟩
  case rest =>
  obtain ⟨rfl, rfl⟩ := hcut
  have hmin : min a.size b.size ≤ a.size ∧ min a.size b.size ≤ b.size := by omega
  have hle := headN_le a b
  have hle2 := tailN_le a b
  obtain ⟨n, hn⟩ : ∃ n, n = min a.size b.size := ⟨_, rfl⟩
  obtain ⟨hd, hhd⟩ : ∃ x, x = headN a b := ⟨_, rfl⟩
  obtain ⟨tl, htl⟩ : ∃ x, x = tailN a b := ⟨_, rfl⟩
  have k1 : alikeF (f1 a b) n 0 = hd := by rw [hhd, hn]; rfl
  have k2 : alikeF (f2 a b) (n - hd) 0 = tl := by rw [htl, hhd, hn]; rfl
  rw [← hn] at hmin hle hle2 ⊢
  rw [← hhd] at hle hle2
  rw [← htl] at hle2
  have HK1 := Lib.hid k1; have HK2 := Lib.hid k2; have HN := Lib.hid (show hd = headN a b ∧ tl = tailN a b from ⟨hhd, htl⟩)
  clear k1 k2 hn hhd htl c0 c1
  go_upto_region 2 with fail
  go_wp2_with fail
  refine (alike1_walk p0 p1 (f1 a b) n _ (by omega) (fun i w' hi hb => same1_walk a b p0 p1 i w' ((hb.block p0 (lt_of_block G0.out)).trans G0.out) ((hb.block p1 (lt_of_block G1.out)).trans G1.out) (by omega) (by omega))).mono ?_
  rintro e w1 ⟨rfl, hb1⟩
  rw [HK1.out]
  have g0 := (hb1.block p0 (lt_of_block G0.out)).trans G0.out
  have g1 := (hb1.block p1 (lt_of_block G1.out)).trans G1.out
  have g2 := (hb1.block p2 (lt_of_block G2.out)).trans G2.out
  have K0 := Lib.hid g0; have K1 := Lib.hid g1; have K2 := Lib.hid g2; have KB := Lib.hid (HB.out.trans (hb1.mono HB.out.size))
  clear g0 g1 g2 hb1 G0 G1 G2 HB
  have hw : wrap64 ((n : Int) - hd) = ((n - hd : Nat) : Int) := by rw [IntWalk.wrap64_in _ ⟨by omega, by omega⟩]; omega
  have hw' : (n : Int) - hd = ((n - hd : Nat) : Int) := by omega
  go_wp2_with fail
  refine (alike2_walk p0 p1 (f2 a b) (n - hd) _ (by omega) (fun i w' hi hb => same2_walk a b p0 p1 i w' ((hb.block p0 (lt_of_block K0.out)).trans K0.out) ((hb.block p1 (lt_of_block K1.out)).trans K1.out) (by omega) (by omega) ha hbs)).mono ?_
  rintro e w2 ⟨rfl, hb2⟩
  rw [HK2.out]
  clear hw hw'
  have g1 := (hb2.block p1 (lt_of_block K1.out)).trans K1.out
  have g2 := (hb2.block p2 (lt_of_block K2.out)).trans K2.out
  have c1 : w2.cell? ⟨p1, 0, none⟩ = some (.string b) := by rw [cell_of_row w2 p1 0 _ _ _ g1]; rfl
  have L2 := Lib.hid g2; have LB := Lib.hid (KB.out.trans (hb2.mono KB.out.size))
  clear g1 g2 hb2 K0 K1 K2 KB
  have hw3 : wrap64 ((b.size : Int) - tl) = ((b.size - tl : Nat) : Int) := by rw [IntWalk.wrap64_in _ ⟨by omega, by omega⟩]; omega
  have hw4 : (b.size : Int) - tl = ((b.size - tl : Nat) : Int) := by omega
  have hw5 : hd ≤ b.size - tl := by omega
  have hw6 : b.size - tl ≤ b.size := by omega
  go_wp2_with (refine wpList_store_row rfl 23 _ _ rfl p2 (pat hd tl (b.extract hd (b.size - tl))) rfl rfl 23 #[.int .i64 0, .int .i64 0, .string ⟨#[]⟩] L2.out info_pat rfl (by simp [pat, Value.oneCell']) ?_)
  exact bodyPost_ret (v := .agg (pat hd tl (b.extract hd (b.size - tl)))) (results_cell_row rfl _ _ p2 23 (pat hd tl (b.extract hd (b.size - tl))) (0, 0) _ rfl (heap_setRow_same L2.out) Try.underlying23 rfl info_pat) rfl
    ⟨by unfold midB; rw [← HN.out.1, ← HN.out.2], below_setRow LB.out (by have := HP.out; omega) _⟩

theorem bytes_data {a b : ByteArray} (h : a.data.toList = b.data.toList) : a = b := by
  cases a; cases b
  simp at h
  rw [h]
theorem list_extract (a : ByteArray) (s e : Nat) : (a.extract s e).data.toList = (a.data.toList.drop s).take (e - s) := by
  rw [ByteArray.data_extract, Array.toList_extract]
  first | done | rfl
theorem size_list (a : ByteArray) : a.data.toList.length = a.size := rfl
theorem head_same (a b : ByteArray) : a.data.toList.take (headN a b) = b.data.toList.take (headN a b) := by
  apply List.ext_getElem?
  intro i
  rw [List.getElem?_take, List.getElem?_take]
  by_cases hi : i < headN a b
  · rw [if_pos hi, if_pos hi]
    have := alikeF_true (f1 a b) _ 0 i (by omega) hi
    exact beq_iff_eq.1 this
  · rw [if_neg hi, if_neg hi]
theorem tail_same (a b : ByteArray) : a.data.toList.drop (a.size - tailN a b) = b.data.toList.drop (b.size - tailN a b) := by
  have h1 := headN_le a b
  have h2 := tailN_le a b
  apply List.ext_getElem?
  intro i
  rw [List.getElem?_drop, List.getElem?_drop]
  by_cases hi : i < tailN a b
  · have := alikeF_true (f2 a b) (min a.size b.size - headN a b) 0 (tailN a b - 1 - i) (by omega) (show tailN a b - 1 - i < tailN a b by omega)
    unfold f2 at this
    have h3 := beq_iff_eq.1 this
    rwa [show a.size - 1 - (tailN a b - 1 - i) = a.size - tailN a b + i by omega, show b.size - 1 - (tailN a b - 1 - i) = b.size - tailN a b + i by omega] at h3
  · rw [List.getElem?_eq_none (by rw [size_list]; omega), List.getElem?_eq_none (by rw [size_list]; omega)]
theorem made (a b : ByteArray) : a.extract 0 (headN a b) ++ midB a b ++ a.extract (a.size - tailN a b) a.size = b := by
  have h1 := headN_le a b
  have h2 := tailN_le a b
  apply bytes_data
  rw [ByteArray.data_append, ByteArray.data_append, Array.toList_append, Array.toList_append]
  unfold midB
  rw [list_extract, list_extract, list_extract, List.drop_zero, Nat.sub_zero, head_same a b]
  rw [show (a.data.toList.drop (a.size - tailN a b)).take (a.size - (a.size - tailN a b)) = a.data.toList.drop (a.size - tailN a b) from List.take_of_length_le (by rw [List.length_drop, size_list]; omega), tail_same a b]
  have e1 : (b.data.toList.drop (headN a b)).take (b.size - tailN a b - headN a b) ++ b.data.toList.drop (b.size - tailN a b) = b.data.toList.drop (headN a b) := by
    have := List.take_append_drop (b.size - tailN a b - headN a b) (b.data.toList.drop (headN a b))
    rwa [List.drop_drop, show headN a b + (b.size - tailN a b - headN a b) = b.size - tailN a b by omega] at this
  rw [List.append_assoc, e1, List.take_append_drop]
theorem size_mid (a b : ByteArray) : (midB a b).size = b.size - tailN a b - headN a b := by
  unfold midB
  rw [ByteArray.size_extract]
  have := headN_le a b
  have := tailN_le a b
  omega
/-- what Make tells does what it should -/
theorem papply_make (a b : ByteArray) (hb : b.size ≤ 65536) : papply a (headN a b) (tailN a b) (midB a b) = (b, 0) := by
  have h1 := headN_le a b
  have h2 := tailN_le a b
  have h3 := size_mid a b
  unfold papply fitB
  rw [if_pos (decide_eq_true ⟨by omega, by omega, by omega, by omega⟩), if_neg (by omega)]
  rw [show ((headN a b : Nat) : Int).toNat = headN a b by omega, show ((a.size : Int) - (tailN a b : Nat)).toNat = a.size - tailN a b by omega, made]
end Go.Proofs.Ytmjpofceoohglaa
