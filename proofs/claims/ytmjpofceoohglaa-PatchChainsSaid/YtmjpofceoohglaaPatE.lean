/-
  What must come at any rate; the walk of PatchApplies.
-/
import Derived.Test.YtmjpofceoohglaaPatD
namespace Go.Proofs.Ytmjpofceoohglaa
open Go.RowKit

def hello : ByteArray := ⟨#[104, 101, 108, 108, 111]⟩
def help : ByteArray := ⟨#[104, 101, 108, 112]⟩
theorem head_hello : headN hello help = 3 := by decide +kernel
theorem tail_hello : tailN hello help = 0 := by decide +kernel
theorem mid_hello : midB hello help = ⟨#[112]⟩ := by
  apply bytes_data
  unfold midB
  rw [head_hello, tail_hello, list_extract]
  decide +kernel
theorem lay_hello : lay (patF 3 0 ⟨#[112]⟩) = (⟨#[3, 0, 1, 112]⟩, 0) := by
  have h1 : lebN 3 = [3] := lebN_small (by omega)
  have h2 : lebN 0 = [0] := lebN_small (by omega)
  have h3 : lebN (⟨#[112]⟩ : ByteArray).size = [1] := lebN_small (by decide)
  have e1 : putF [] 3 ⟨#[]⟩ false = [3] := by
    unfold putF
    rw [if_neg (by decide), if_neg (by decide), show ((3 : Int)).toNat = 3 from rfl, h1]
    rfl
  have e2 : putF [3] 0 ⟨#[]⟩ false = [3, 0] := by
    unfold putF
    rw [if_neg (by decide), if_neg (by decide), show ((0 : Int)).toNat = 0 from rfl, h2]
    rfl
  have e3 : putF [3, 0] 0 ⟨#[112]⟩ true = [3, 0, 1, 112] := by
    unfold putF
    rw [if_neg (by decide), if_pos rfl, h3]
    rfl
  have hl : layB (patF 3 0 ⟨#[112]⟩) = [3, 0, 1, 112] := by
    simp only [layB, patF, List.foldl_cons, List.foldl_nil, e1, e2, e3]
  unfold lay
  rw [if_neg (by decide), hl, if_neg (by decide)]
theorem eq_help (w : World) : (Op.equalIn 10000 23 (.agg #[.int .i64 3, .int .i64 0, .string ⟨#[112]⟩]) (.agg #[.int .i64 3, .int .i64 0, .string ⟨#[112]⟩])).run Try.prog w = .ok true w := by kernel_rfl
theorem apply_hello : papply hello 3 0 ⟨#[112]⟩ = (help, 0) := by
  have := papply_make hello help (by decide)
  rw [head_hello, tail_hello, mid_hello] at this
  exact this

set_option maxHeartbeats 2000000 in
theorem awake_walk (w : World) : Calls Try.prog 6 #[] w fun e w' => e = .returned (.bool true) ∧ Below w.heap.size w w' := by
  have he := eq_help
  have hh : help.toList = [104, 101, 108, 112] := by rw [ByteArray.toList_eq]; rfl
  have hm := fun w => make_walk hello help w (by decide) (by decide)
  rw [head_hello, tail_hello, mid_hello] at hm
  have ha := fun w => apply_walk hello 3 0 ⟨#[112]⟩ w (by decide) (by decide)
  rw [apply_hello] at ha
  have hp := fun w => put_walk 3 0 ⟨#[112]⟩ w (by decide) (by decide) (by decide)
  rw [lay_hello] at hp
  change ∀ w, Calls _ _ _ _ fun e w' => e = .returned (.agg #[.int .i64 3, .int .i64 0, .string ⟨#[112]⟩]) ∧ _ at hm
  unfold pat at ha hp
  have HM := Lib.hid hm; have HA := Lib.hid ha; have HP := Lib.hid hp
  clear hm ha hp
  go_enter Try.func6, Try.ntmps6
  go_wp2_with fail
  refine (HM.out _).mono ?_
  rintro e w1 ⟨rfl, hb1⟩
  go_wp2_with fail
  refine (HA.out _).mono ?_
  rintro e w2 ⟨rfl, hb2⟩
  have g1 := heap_alloc_top w1 (.cells #[.int .i64 3, .int .i64 0, .string ⟨#[112]⟩] 23)
  have hB1 := hb1.alloc hb1.size (.cells #[.int .i64 3, .int .i64 0, .string ⟨#[112]⟩] 23)
  have g2 := (hb2.block w1.heap.size (lt_of_block g1)).trans g1
  have hB2 := hB1.trans (hb2.mono hB1.size)
  obtain ⟨p, hp⟩ : ∃ p, p = w1.heap.size := ⟨_, rfl⟩
  rw [← hp] at g2 ⊢
  have G2 := Lib.hid g2; have HB2 := Lib.hid hB2
  clear g1 hB1 g2 hB2 hb2 hp hb1
  go_wp2_with (refine wpList_row 23 _ rfl p rfl rfl 23 #[.int .i64 3, .int .i64 0, .string ⟨#[112]⟩] (0, 0) _ G2.out Try.underlying23 rfl info_pat ?_)
  refine (HP.out _).mono ?_
  rintro e w3 ⟨rfl, hb3⟩
  have G3 := Lib.hid ((hb3.block p (lt_of_block G2.out)).trans G2.out)
  have HB3 := Lib.hid (HB2.out.trans (hb3.mono HB2.out.size))
  clear G2 HB2 hb3
  go_wp2_with (refine wpList_row 23 _ rfl p rfl rfl 23 #[.int .i64 3, .int .i64 0, .string ⟨#[112]⟩] (0, 0) _ G3.out Try.underlying23 rfl info_pat ?_)
  go_ret
  exact ⟨rfl, HB3.out⟩

set_option maxHeartbeats 2000000 in
theorem patchApplies_walk (a : ByteArray) (h t : Int) (m : ByteArray) (w : World) (ha : a.size ≤ 9223372036854775807) (hm : m.size ≤ 9223372036854775807) :
    Calls Try.prog 3 #[.string a, .agg (pat h t m)] w fun e w' => e = .returned (.bool true) ∧ Below w.heap.size w w' := by
  go_enter Try.func3, Try.ntmps3
  go_upto_region 1 with fail
  have g0 := heap_alloc_top w (.cells (pat h t m) 23)
  have hB := pat_below w (.cells (pat h t m) 23)
  obtain ⟨q, hq⟩ : ∃ q, q = w.heap.size := ⟨_, rfl⟩
  rw [← hq] at g0 ⊢
  generalize w.alloc (.cells (pat h t m) 23) = W at g0 hB ⊢
  have c2 : W.cell? ⟨q, 2, none⟩ = some (.string m) := by rw [cell_of_row W q 2 _ _ _ g0]; rfl
  have G0 := Lib.hid g0; have HB := Lib.hid hB
  clear g0 hB hq
  by_cases h1 : (131072 : Int) < a.size
  · go_wp2_with fail
    refine (awake_walk _).mono ?_
    rintro e w1 ⟨rfl, hb1⟩
    go_wp2_with fail
    go_ret
    exact ⟨rfl, HB.out.trans (hb1.mono HB.out.size)⟩
  · by_cases h2 : (131072 : Int) < m.size
    · go_wp2_with fail
      refine (awake_walk _).mono ?_
      rintro e w1 ⟨rfl, hb1⟩
      go_wp2_with fail
      go_ret
      exact ⟨rfl, HB.out.trans (hb1.mono HB.out.size)⟩
    · have hk1 := fun w => apply_walk a h t m w ha hm
      have hk2 := fun w => refApply_walk a h t m w ha (by omega)
      obtain ⟨r, e, hre⟩ : ∃ r e, (papply a h t m) = (r, e) := ⟨_, _, rfl⟩
      rw [hre] at hk1 hk2
      have K1 := Lib.hid hk1; have K2 := Lib.hid hk2
      clear hk1 hk2 hre
      go_wp2_with (refine wpList_row 23 _ rfl q rfl rfl 23 (pat h t m) (0, 0) _ G0.out Try.underlying23 rfl info_pat ?_)
      refine (K1.out _).mono ?_
      rintro e w1 ⟨rfl, hb1⟩
      have G1 := Lib.hid ((hb1.block q (lt_of_block G0.out)).trans G0.out)
      have HB1 := Lib.hid (HB.out.trans (hb1.mono HB.out.size))
      clear G0 HB hb1 c2
      go_wp2_with (refine wpList_row 23 _ rfl q rfl rfl 23 (pat h t m) (0, 0) _ G1.out Try.underlying23 rfl info_pat ?_)
      refine (K2.out _).mono ?_
      rintro e w2 ⟨rfl, hb2⟩
      have HB2 := Lib.hid (HB1.out.trans (hb2.mono HB1.out.size))
      clear G1 HB1 hb2
      go_wp2_with fail
      refine (awake_walk _).mono ?_
      rintro e w3 ⟨rfl, hb3⟩
      go_wp2_with fail
      go_ret
      exact ⟨rfl, HB2.out.trans (hb3.mono HB2.out.size)⟩
end Go.Proofs.Ytmjpofceoohglaa
