/-
  Layer 1: fields are laid.
-/
import Derived.Test.YtfiigmimhdnpnaaLebBt
namespace Go.Proofs.Ytfiigmimhdnpnaa
open Go.RowKit

abbrev Fld := Int × ByteArray × Bool
theorem info_fld : (Try.prog.info? 43).map (·.size) = some 3 := by kernel_rfl
theorem putF_le (l : List UInt8) (n : Int) (s : ByteArray) (t : Bool) (hl : l.length ≤ 140000) (hn : n ≤ 9223372036854775807) (hs : s.size ≤ 9223372036854775807) : (putF l n s t).length ≤ 140000 := by
  unfold putF
  by_cases h : 65536 < l.length
  · rw [if_pos h]; omega
  · rw [if_neg h]
    cases t with
    | true =>
      have := lebN_nine s.size hs
      simp; omega
    | false =>
      have := lebN_nine n.toNat (by omega)
      simp; omega

set_option maxHeartbeats 1000000 in
theorem lay1_full (q : Nat) (vb : Value) (l : List UInt8) (n : Int) (s : ByteArray) (t : Bool) (w : World) (hq : w.heap[q]? = some (.cells #[vb] 38 (0, 0))) (hrow : w.ownsRow (q + 1) 5 1 vb l.length (bv l)) (hl : 65536 < l.length) :
    Calls Try.prog 31 #[.agg (fld n s t), .pointer (some ⟨q, 0, none⟩)] w fun e w' => e = .returned (.tuple #[]) ∧ Below q w w' ∧ ∃ v', w'.heap[q]? = some (.cells #[v'] 38 (0, 0)) ∧ w'.ownsRow (q + 1) 5 1 v' l.length (bv l) := by
  have hlq := lt_of_block hq
  obtain ⟨m, hm⟩ : ∃ m, m = l.length := ⟨_, rfl⟩
  rw [← hm] at hrow hl ⊢
  obtain ⟨ad, cap, rfl⟩ := own_form hrow
  clear hm
  go_enter Try.func31, Try.ntmps31
  go_upto_region 2 with fail
  have hB := (Below.refl w.heap.size w).alloc (Nat.le_refl _) (.cells (fld n s t) 43)
  have g1 := (heap_alloc_lt w (.cells (fld n s t) 43) q hlq).trans hq
  have hr1 : (w.alloc (.cells (fld n s t) 43)).ownsRow (q + 1) 5 1 (.slice ad m cap) m (bv l) := World.ownsRow.alloc hrow _
  obtain ⟨f, hf⟩ : ∃ f, f = w.heap.size := ⟨_, rfl⟩
  rw [← hf]
  generalize w.alloc (.cells (fld n s t) 43) = W at g1 hB hr1 ⊢
  have HB := Lib.hid (hB.mono (show q ≤ w.heap.size by omega))
  have cq := cell_of_row W q 0 _ _ _ g1
  simp only [List.getElem?_toArray, List.getElem?_cons_zero] at cq
  have G1 := Lib.hid g1; have HR := Lib.hid hr1
  clear g1 hr1 hB hf hq hrow
  go_wp2_with fail
  exact bodyPost_end (results_none rfl _ _ _) rfl ⟨rfl, HB.out, _, G1.out, HR.out⟩

theorem lay1_walk (q : Nat) (vb : Value) (l : List UInt8) (n : Int) (s : ByteArray) (t : Bool) (w : World) (hq : w.heap[q]? = some (.cells #[vb] 38 (0, 0))) (hrow : w.ownsRow (q + 1) 5 1 vb l.length (bv l))
    (hn : n ≤ 9223372036854775807) (hs : s.size ≤ 9223372036854775807) (h0 : t = false → 0 ≤ n) :
    Calls Try.prog 31 #[.agg (fld n s t), .pointer (some ⟨q, 0, none⟩)] w fun e w' => e = .returned (.tuple #[]) ∧ Below q w w' ∧ ∃ v', w'.heap[q]? = some (.cells #[v'] 38 (0, 0)) ∧ w'.ownsRow (q + 1) 5 1 v' (putF l n s t).length (bv (putF l n s t)) := by
  unfold putF
  by_cases h : 65536 < l.length
  · rw [if_pos h]
    exact lay1_full q vb l n s t w hq hrow h
  · rw [if_neg h]
    cases t with
    | true =>
      rw [if_pos rfl]
      exact lay1_text_go _ q vb l n s w hq hrow (by omega) hs rfl
    | false =>
      rw [if_neg (by simp)]
      obtain ⟨k, rfl⟩ := Int.eq_ofNat_of_zero_le (h0 rfl)
      exact lay1_number q vb l k s w hq hrow (by omega) (by omega)

theorem n_walk (n : Int) (w : World) : Calls Try.prog 23 #[.int .i64 n] w fun e w' => e = .returned (.agg (fld n ⟨#[]⟩ false)) ∧ Below w.heap.size w w' := by
  go_enter Try.func23, Try.ntmps23
  go_wp2_with fail
  exact bodyPost_ret (v := .agg (fld n ⟨#[]⟩ false)) (results_cell_row rfl _ _ w.heap.size 43 (fld n ⟨#[]⟩ false) (0, 0) _ rfl (heap_alloc_top _ _) Try.underlying43 rfl info_fld) rfl ⟨rfl, (Below.refl _ _).alloc (Nat.le_refl _) _⟩
theorem t_walk (s : ByteArray) (w : World) : Calls Try.prog 20 #[.string s] w fun e w' => e = .returned (.agg (fld 0 s true)) ∧ Below w.heap.size w w' := by
  go_enter Try.func20, Try.ntmps20
  go_wp2_with fail
  exact bodyPost_ret (v := .agg (fld 0 s true)) (results_cell_row rfl _ _ w.heap.size 43 (fld 0 s true) (0, 0) _ rfl (heap_alloc_top _ _) Try.underlying43 rfl info_fld) rfl ⟨rfl, (Below.refl _ _).alloc (Nat.le_refl _) _⟩
end Go.Proofs.Ytfiigmimhdnpnaa
