/-
  Two boxes: a call of one beside the other: Either, Put.
-/
import Derived.Test.YtkmchbmajfmbhaaInbH
namespace Go.Proofs.Ytkmchbmajfmbhaa
open Go.RowKit

section
variable (p c q d room : Nat) (x y : List ByteArray) (adx ady : Option Addr) (capx capy : Nat) (kind n : Int) (s : ByteArray) (two : Bool) (w : World)

set_option maxHeartbeats 4000000 in
set_option maxRecDepth 8000 in
theorem do_either (hk3 : (kind == 3) = false) (hk4 : (kind == 4) = false) (hk5 : (kind == 5) = false) (hk : (kind == 6) = true) (hx : BoxAt w p c room x) (hy : BoxAt w q d room y) (hpq : p ≠ q) (hp : p ≠ d) (hq : q ≠ c) (hcd : c ≠ d)
    (hsx : strsAt w adx x) (hcx : x.length ≤ capx) (hcx2 : capx ≤ 9223372036854775807) (hsy : strsAt w ady y) (hcy : y.length ≤ capy) (hcy2 : capy ≤ 9223372036854775807) :
    Calls Try.prog 12 #[.pointer (some ⟨p, 0, none⟩), .pointer (some ⟨q, 0, none⟩), .slice adx x.length capx, .slice ady y.length capy, .int .i64 room, .agg (actv kind n s two)] w fun e w' => DoPost p c q d room w e w' := by
  have HX := Lib.hid hx; have HY := Lib.hid hy; have HSX := Lib.hid hsx; have HSY := Lib.hid hsy
  have hxl := hx.2.2.1.1
  have hyl := hy.2.2.1.1
  have hr2 := hx.2.2.1.2
  clear hx hy hsx hsy
  go_enter Try.func12, Try.ntmps12
  go_upto_region 1 with fail
  have g0 := heap_alloc_top w (.cells (actv kind n s two) 37)
  have hB := (Below.refl w.heap.size w).alloc (Nat.le_refl _) (.cells (actv kind n s two) 37)
  obtain ⟨z, hz⟩ : ∃ z, z = w.heap.size := ⟨_, rfl⟩
  rw [← hz] at g0 ⊢
  generalize w.alloc (.cells (actv kind n s two) 37) = W at g0 hB ⊢
  have c0 := act_c0 g0
  have GZ := Lib.hid g0
  have G := Lib.hid (G2.ofBelow c d hB)
  have X1 := Lib.hid (HX.out.keep hB HX.out.lt.1 HX.out.lt.2); have Y1 := Lib.hid (HY.out.keep hB HY.out.lt.1 HY.out.lt.2)
  have SX1 := Lib.hid (strsAt_below HSX.out (Nat.le_refl _) hB); have SY1 := Lib.hid (strsAt_below HSY.out (Nat.le_refl _) hB)
  have hzc : z ≠ c := by have := HX.out.lt; omega
  have hzd : z ≠ d := by have := HY.out.lt; omega
  clear g0 hz HX HY HSX HSY hB
  cases x with
  | cons a r =>
    rcases SX1.out with hnil | ⟨bl, off, rfl, hbl, hcs⟩
    · cases hnil
    clear hcs hbl
    have ke := either_walk p c q d room (a :: r) y _ X1.out Y1.out hp hq hcd
    have KE := Lib.hid (show Calls _ _ _ _ fun e w' => e = .returned (.tuple #[.string a, .int .i64 1]) ∧ G2 c d W w' ∧ BoxAt w' p c room r ∧ BoxAt w' q d room y from ke)
    clear ke
    go_wp2_with fail
    refine KE.out.mono ?_
    rintro e w1 ⟨rfl, hg2, hb1, hY1⟩
    have SX2 := Lib.hid (strsAt_two SX1.out hg2 X1.out Y1.out); have SY2 := Lib.hid (strsAt_two SY1.out hg2 X1.out Y1.out)
    have G1 := Lib.hid (G.out.trans hg2); have X2 := Lib.hid hb1; have Y2 := Lib.hid hY1
    clear hg2 hb1 hY1 c0
    rcases SX2.out with hnil | ⟨bl2, off2, he, hbl, hcs⟩
    · cases hnil
    cases he
    have h0 : w1.cell? ⟨bl, off + 0, none⟩ = some (.string a) := hcs 0 (by simp)
    have h0' : ∀ y : Sub w1.heap.size w1, y.val.cell? ⟨bl, off, none⟩ = some (.string a) := fun y => sub_cell h0 hbl y
    obtain ⟨m, hm⟩ : ∃ m, m = (a :: r).length := ⟨_, rfl⟩
    have hm1 : 1 ≤ m := by rw [hm]; simp
    have hmz : (0 : Int) < (m : Int) := by omega
    have hm0 : 0 < m := by omega
    rw [← hm] at hcx ⊢
    have HM := Lib.hid hm
    clear hm hcs h0
    go_wp2_with fail
    refine wp_region_sub (W := w1) (B := w1.heap.size) (by kernel_rfl) (by kernel_rfl) (Below.refl _ _) ?_
    repeat (any_goals (first
      | go_big_quiet_skip
      | go_big_quiet_step (fail)
      | quiet_step (fail)))
    refine wpQuiet_nil ?_
    rintro w9 ⟨x9, rfl⟩
    go_wp2_with fail
    all_goals go_ret3
    all_goals have hrl : m - 1 = r.length := by rw [HM.out]; simp
    all_goals have hb9 := x9.below
    · refine ⟨r, y, _, ady, _, capy, by rw [← hrl]; rfl, G1.out.trans (G2.ofBelow c d hb9), X2.out.keep hb9 X2.out.lt.1 X2.out.lt.2, Y2.out.keep hb9 Y2.out.lt.1 Y2.out.lt.2, .inl (List.eq_nil_of_length_eq_zero (by omega)), by omega, by omega, strsAt_below SY2.out (Nat.le_refl _) hb9, hcy, hcy2⟩
    · refine ⟨r, y, some ⟨bl, off + 1, none⟩, ady, capx - 1, capy, by rw [← hrl]; rfl, G1.out.trans (G2.ofBelow c d hb9), X2.out.keep hb9 X2.out.lt.1 X2.out.lt.2, Y2.out.keep hb9 Y2.out.lt.1 Y2.out.lt.2, strsAt_below (strsAt_drop SX2.out 1) (Nat.le_refl _) hb9, by omega, by omega, strsAt_below SY2.out (Nat.le_refl _) hb9, hcy, hcy2⟩
  | nil =>
    cases y with
    | nil =>
      have ke := either_walk p c q d room [] [] _ X1.out Y1.out hp hq hcd
      have KE := Lib.hid (show Calls _ _ _ _ fun e w' => e = .returned (.tuple #[.string ⟨#[]⟩, .int .i64 0]) ∧ G2 c d W w' ∧ BoxAt w' p c room [] ∧ BoxAt w' q d room [] from ke)
      clear ke
      go_wp2_with fail
      refine KE.out.mono ?_
      rintro e w1 ⟨rfl, hg2, hb1, hY1⟩
      go_wp2_with fail
      go_ret3
      exact ⟨[], [], adx, ady, capx, capy, rfl, G.out.trans hg2, hb1, hY1, .inl rfl, hcx, hcx2, .inl rfl, hcy, hcy2⟩
    | cons a r =>
      rcases SY1.out with hnil | ⟨bl, off, rfl, hbl, hcs⟩
      · cases hnil
      clear hcs hbl
      have ke := either_walk p c q d room [] (a :: r) _ X1.out Y1.out hp hq hcd
      have KE := Lib.hid (show Calls _ _ _ _ fun e w' => e = .returned (.tuple #[.string a, .int .i64 2]) ∧ G2 c d W w' ∧ BoxAt w' p c room [] ∧ BoxAt w' q d room r from ke)
      clear ke
      go_wp2_with fail
      refine KE.out.mono ?_
      rintro e w1 ⟨rfl, hg2, hb1, hY1⟩
      have SY2 := Lib.hid (strsAt_two SY1.out hg2 X1.out Y1.out)
      have G1 := Lib.hid (G.out.trans hg2); have X2 := Lib.hid hb1; have Y2 := Lib.hid hY1
      clear hg2 hb1 hY1 c0
      rcases SY2.out with hnil | ⟨bl2, off2, he, hbl, hcs⟩
      · cases hnil
      cases he
      have h0 : w1.cell? ⟨bl, off + 0, none⟩ = some (.string a) := hcs 0 (by simp)
      have h0' : ∀ y : Sub w1.heap.size w1, y.val.cell? ⟨bl, off, none⟩ = some (.string a) := fun y => sub_cell h0 hbl y
      obtain ⟨m, hm⟩ : ∃ m, m = (a :: r).length := ⟨_, rfl⟩
      have hm1 : 1 ≤ m := by rw [hm]; simp
      have hmz : (0 : Int) < (m : Int) := by omega
      have hm0 : 0 < m := by omega
      rw [← hm] at hcy ⊢
      have HM := Lib.hid hm
      clear hm hcs h0
      go_wp2_with fail
      refine wp_region_sub (W := w1) (B := w1.heap.size) (by kernel_rfl) (by kernel_rfl) (Below.refl _ _) ?_
      repeat (any_goals (first
        | go_big_quiet_skip
        | go_big_quiet_step (fail)
        | quiet_step (fail)))
      refine wpQuiet_nil ?_
      rintro w9 ⟨x9, rfl⟩
      go_wp2_with fail
      all_goals go_ret3
      all_goals have hrl : m - 1 = r.length := by rw [HM.out]; simp
      all_goals have hb9 := x9.below
      · refine ⟨[], r, adx, _, capx, _, by rw [← hrl]; rfl, G1.out.trans (G2.ofBelow c d hb9), X2.out.keep hb9 X2.out.lt.1 X2.out.lt.2, Y2.out.keep hb9 Y2.out.lt.1 Y2.out.lt.2, .inl rfl, hcx, hcx2, .inl (List.eq_nil_of_length_eq_zero (by omega)), by omega, by omega⟩
      · refine ⟨[], r, adx, some ⟨bl, off + 1, none⟩, capx, capy - 1, by rw [← hrl]; rfl, G1.out.trans (G2.ofBelow c d hb9), X2.out.keep hb9 X2.out.lt.1 X2.out.lt.2, Y2.out.keep hb9 Y2.out.lt.1 Y2.out.lt.2, .inl rfl, hcx, hcx2, strsAt_below (strsAt_drop SY2.out 1) (Nat.le_refl _) hb9, by omega, by omega⟩

set_option maxHeartbeats 4000000 in
set_option maxRecDepth 8000 in
theorem do_put (hk3 : (kind == 3) = false) (hk4 : (kind == 4) = false) (hk5 : (kind == 5) = false) (hk6 : (kind == 6) = false) (hx : BoxAt w p c room x) (hy : BoxAt w q d room y) (hpq : p ≠ q) (hp : p ≠ d) (hq : q ≠ c) (hcd : c ≠ d)
    (hsx : strsAt w adx x) (hcx : x.length ≤ capx) (hcx2 : capx ≤ 9223372036854775807) (hsy : strsAt w ady y) (hcy : y.length ≤ capy) (hcy2 : capy ≤ 9223372036854775807) :
    Calls Try.prog 12 #[.pointer (some ⟨p, 0, none⟩), .pointer (some ⟨q, 0, none⟩), .slice adx x.length capx, .slice ady y.length capy, .int .i64 room, .agg (actv kind n s two)] w fun e w' => DoPost p c q d room w e w' := by
  have HX := Lib.hid hx; have HY := Lib.hid hy; have HSX := Lib.hid hsx; have HSY := Lib.hid hsy
  have hxl := hx.2.2.1.1
  have hyl := hy.2.2.1.1
  have hr2 := hx.2.2.1.2
  clear hx hy hsx hsy
  go_enter Try.func12, Try.ntmps12
  go_upto_region 1 with fail
  have g0 := heap_alloc_top w (.cells (actv kind n s two) 37)
  have hB := (Below.refl w.heap.size w).alloc (Nat.le_refl _) (.cells (actv kind n s two) 37)
  obtain ⟨z, hz⟩ : ∃ z, z = w.heap.size := ⟨_, rfl⟩
  rw [← hz] at g0 ⊢
  generalize w.alloc (.cells (actv kind n s two) 37) = W at g0 hB ⊢
  have c0 := act_c0 g0
  have GZ := Lib.hid g0
  have G := Lib.hid (G2.ofBelow c d hB)
  have X1 := Lib.hid (HX.out.keep hB HX.out.lt.1 HX.out.lt.2); have Y1 := Lib.hid (HY.out.keep hB HY.out.lt.1 HY.out.lt.2)
  have SX1 := Lib.hid (strsAt_below HSX.out (Nat.le_refl _) hB); have SY1 := Lib.hid (strsAt_below HSY.out (Nat.le_refl _) hB)
  have hzc : z ≠ c := by have := HX.out.lt; omega
  have hzd : z ≠ d := by have := HY.out.lt; omega
  clear g0 hz HX HY HSX HSY hB
  have c2 := act_c2 GZ.out
  by_cases hroom : x.length < room
  · have hlt : ((x.length : Nat) : Int) < (room : Int) := by omega
    go_wp2_with fail
    refine (put_room p c room x s _ X1.out hroom).mono ?_
    rintro e W0 ⟨rfl, hg1, hx2⟩
    have hg2 := G2.left d hg1
    have hy2 := Y1.out.grown hg1 (fun e => hq (Option.some.inj e)) (fun e => hcd (Option.some.inj e).symm)
    have SX2 := Lib.hid (strsAt_two SX1.out hg2 X1.out Y1.out); have SY2 := Lib.hid (strsAt_two SY1.out hg2 X1.out Y1.out)
    have gz2 := (hg1.block z (lt_of_block GZ.out) (fun e => hzc (Option.some.inj e))).trans GZ.out
    have G1 := Lib.hid (G.out.trans hg2); have X2 := Lib.hid hx2; have Y2 := Lib.hid hy2
    have c2' : ∀ y : Sub W0.heap.size W0, y.val.cell? ⟨z, 2, none⟩ = some (.string s) := fun y => sub_cell (act_c2 gz2) (lt_of_block gz2) y
    clear hg1 hg2 hx2 hy2 gz2 c0 c2
    obtain ⟨i0, hi, hz0, hz1, hz2⟩ := info_parts info_string
    go_upto_region 23 with fail
    have HSB := Lib.hid (fun w9 (h : Below W0.heap.size W0 w9) => inSub_of h)
    refine wp_region_tree (inSub W0.heap.size W0) (.read 1 (.read 3 (.read 4 (.read 7 (.read 8 (.two 0 (.two 2 (.one 5 (.one 6 (.read 9 (.read 10 (.read 11 .nil))))) 5 (.one 2 (.one 6 (.read 9 (.read 10 (.read 11 .nil)))))) 5 (.one 0 (.one 2 (.one 6 (.read 9 (.read 10 (.read 11 .nil)))))))))))) (by kernel_rfl) (by kernel_rfl) (inSub_of (Below.refl _ _).drew) ?_
    have hb0 : Below W0.heap.size W0 W0.drew := (Below.refl _ _).drew
    have HBW := Lib.hid (Nat.le_refl W0.heap.size)
    generalize W0.drew = w2 at hb0 ⊢
    simp only [MT.fill, List.getElem?_cons_zero, List.getElem?_cons_succ]
    repeat ((with_reducible refine tree_read ?_ ?_); (· rfl); apply Exists.intro; refine ⟨fun w9 hw9 => ?_, ?_⟩; (· obtain ⟨x9, rfl⟩ := hw9; have d1 := c2' x9; go_simp; rfl); simp only [Act.put, List.setIfInBounds_toArray, List.set_cons_succ, List.set_cons_zero])
    with_reducible refine tree_two ?_ ?_
    · with_reducible refine tree_one ?_ (fun K' hK => ?_)
      · rfl
      go_simp
      have rE := row_new w2 W0.heap.size 1 0 9 #[] hb0.size rfl (by unfold maxLen; omega)
      have hbE := hb0.alloc hb0.size (.cells #[] 9)
      have hsE : (w2.alloc (.cells #[] 9)).heap.size = w2.heap.size + 1 := by simp
      refine hK _ _ (HSB.out _ hbE) ?_
      clear hK K'
      try simp only [Act.put, List.setIfInBounds_toArray, List.set_cons_succ, List.set_cons_zero]
      generalize w2.alloc (.cells #[] 9) = wE at rE hbE hsE  ⊢
      have HSE := Lib.hid hsE
      clear hsE
      with_reducible refine tree_two ?_ ?_
      · with_reducible refine tree_one ?_ (fun K' hK => ?_)
        · rfl
        have rC := strsAt_below SX2.out HBW.out hbE
        refine wp_append_at _ _ _ 22 22 rfl W0.heap.size 9 i0 (.string ⟨#[]⟩) 1 16 Try.underlying22 hi hz0 hz1 hz2 rfl (by decide) (.slice (some ⟨w2.heap.size, 0, none⟩) 0 0) 0 [] rfl rE _ x.length (x.map Value.string) rfl (src_strs rC _) (by unfold maxLen; omega) (by omega) hbE.size ?_
        intro vP wP rP hgrow hpl
        have hbP : Below W0.heap.size W0 wP := below_of_grown hbE hgrow hbE.size (fun k hk => (rE.lt k hk).1)
        refine hK _ _ (HSB.out _ hbP) ?_
        clear hK K'
        try simp only [Act.put, List.setIfInBounds_toArray, List.set_cons_succ, List.set_cons_zero]
        rw [List.nil_append, Nat.zero_add] at rP
        clear rC hgrow hpl rE
        with_reducible refine tree_one ?_ (fun K' hK => ?_)
        · rfl
        go_simp
        have rB := row_new wP W0.heap.size 1 1 9 #[.string s] hbP.size rfl (by unfold maxLen; omega)
        have hbB := hbP.alloc hbP.size (.cells #[.string s] 9)
        have hsB : (wP.alloc (.cells #[.string s] 9)).heap.size = wP.heap.size + 1 := by simp
        have rP := rP.alloc (.cells #[.string s] 9)
        refine hK _ _ (HSB.out _ hbB) ?_
        clear hK K'
        try simp only [Act.put, List.setIfInBounds_toArray, List.set_cons_succ, List.set_cons_zero]
        generalize wP.alloc (.cells #[.string s] 9) = wB at rB hbB hsB rP ⊢
        have HSB2 := Lib.hid hsB
        clear hsB
        with_reducible refine tree_one ?_ (fun K' hK => ?_)
        · rfl
        refine wp_append_at _ _ _ 22 22 rfl W0.heap.size 9 i0 (.string ⟨#[]⟩) 1 16 Try.underlying22 hi hz0 hz1 hz2 rfl (by decide) _ x.length (x.map Value.string) rfl rP (.slice (some ⟨wP.heap.size, 0, none⟩) 1 1) 1 [.string s] rfl (src_own _ Try.underlying22 rB (strs_one [s])) (by unfold maxLen; omega) (by omega) hbB.size ?_
        intro vF wF rF hgrow hpl
        have hbF : Below W0.heap.size W0 wF := below_of_grown hbB hgrow hbB.size (fun k hk => (rP.lt k hk).1)
        refine hK _ _ (HSB.out _ hbF) ?_
        clear hK K'
        try simp only [Act.put, List.setIfInBounds_toArray, List.set_cons_succ, List.set_cons_zero]
        have hll : x.length + 1 = (x ++ [s]).length := by rw [List.length_append]; rfl
        rw [show (x.map Value.string) ++ [Value.string s] = (x ++ [s]).map Value.string from (List.map_append (f := Value.string) (l₁ := x) (l₂ := [s])).symm, hll] at rF
        obtain ⟨adF, capF, rfl, hsF, hcF, hcF2⟩ := own_strs rF
        rw [← hll]
        have HLL := Lib.hid hll; have HCF := Lib.hid hcF
        clear hgrow hpl rF rP hll hcF
        repeat ((with_reducible refine tree_read ?_ ?_); (· rfl); apply Exists.intro; refine ⟨fun w9 hw9 => ?_, ?_⟩; (· go_simp; rfl); simp only [Act.put, List.setIfInBounds_toArray, List.set_cons_succ, List.set_cons_zero])
        with_reducible refine tree_nil (NoPanic.normal ?_)
        go_wp2_with fail
        go_ret3
        exact ⟨x ++ [s], y, adF, ady, capF, capy, by rw [← HLL.out]; rfl, G1.out.trans (G2.ofBelow c d hbF), X2.out.keep hbF X2.out.lt.1 X2.out.lt.2, Y2.out.keep hbF Y2.out.lt.1 Y2.out.lt.2, hsF, HCF.out, hcF2, strsAt_below SY2.out (Nat.le_refl _) hbF, hcy, hcy2⟩
      · with_reducible refine tree_one ?_ (fun K' hK => ?_)
        · rfl
        go_simp
        have rB := row_new wE W0.heap.size 1 1 9 #[.string s] hbE.size rfl (by unfold maxLen; omega)
        have hbB := hbE.alloc hbE.size (.cells #[.string s] 9)
        have hsB : (wE.alloc (.cells #[.string s] 9)).heap.size = wE.heap.size + 1 := by simp
        have rE := rE.alloc (.cells #[.string s] 9)
        refine hK _ _ (HSB.out _ hbB) ?_
        clear hK K'
        try simp only [Act.put, List.setIfInBounds_toArray, List.set_cons_succ, List.set_cons_zero]
        generalize wE.alloc (.cells #[.string s] 9) = wB at rB hbB hsB rE ⊢
        have HSB2 := Lib.hid hsB
        clear hsB
        with_reducible refine tree_one ?_ (fun K' hK => ?_)
        · rfl
        have rC := strsAt_below SX2.out HBW.out hbB
        refine wp_append_at _ _ _ 22 22 rfl W0.heap.size 9 i0 (.string ⟨#[]⟩) 1 16 Try.underlying22 hi hz0 hz1 hz2 rfl (by decide) (.slice (some ⟨w2.heap.size, 0, none⟩) 0 0) 0 [] rfl rE _ x.length (x.map Value.string) rfl (src_strs rC _) (by unfold maxLen; omega) (by omega) hbB.size ?_
        intro vP wP rP hgrow hpl
        have hbP : Below W0.heap.size W0 wP := below_of_grown hbB hgrow hbB.size (fun k hk => (rE.lt k hk).1)
        have rB := World.ownsRow.kept rB hgrow (.inr (by simp only [Value.ownBlock, ne_eq, Option.some.injEq]; have h1 := HSE.out; have h2 := HSB2.out; omega))
        refine hK _ _ (HSB.out _ hbP) ?_
        clear hK K'
        try simp only [Act.put, List.setIfInBounds_toArray, List.set_cons_succ, List.set_cons_zero]
        rw [List.nil_append, Nat.zero_add] at rP
        clear rC hgrow hpl rE
        with_reducible refine tree_one ?_ (fun K' hK => ?_)
        · rfl
        refine wp_append_at _ _ _ 22 22 rfl W0.heap.size 9 i0 (.string ⟨#[]⟩) 1 16 Try.underlying22 hi hz0 hz1 hz2 rfl (by decide) _ x.length (x.map Value.string) rfl rP (.slice (some ⟨wE.heap.size, 0, none⟩) 1 1) 1 [.string s] rfl (src_own _ Try.underlying22 rB (strs_one [s])) (by unfold maxLen; omega) (by omega) hbP.size ?_
        intro vF wF rF hgrow hpl
        have hbF : Below W0.heap.size W0 wF := below_of_grown hbP hgrow hbP.size (fun k hk => (rP.lt k hk).1)
        refine hK _ _ (HSB.out _ hbF) ?_
        clear hK K'
        try simp only [Act.put, List.setIfInBounds_toArray, List.set_cons_succ, List.set_cons_zero]
        have hll : x.length + 1 = (x ++ [s]).length := by rw [List.length_append]; rfl
        rw [show (x.map Value.string) ++ [Value.string s] = (x ++ [s]).map Value.string from (List.map_append (f := Value.string) (l₁ := x) (l₂ := [s])).symm, hll] at rF
        obtain ⟨adF, capF, rfl, hsF, hcF, hcF2⟩ := own_strs rF
        rw [← hll]
        have HLL := Lib.hid hll; have HCF := Lib.hid hcF
        clear hgrow hpl rF rP hll hcF
        repeat ((with_reducible refine tree_read ?_ ?_); (· rfl); apply Exists.intro; refine ⟨fun w9 hw9 => ?_, ?_⟩; (· go_simp; rfl); simp only [Act.put, List.setIfInBounds_toArray, List.set_cons_succ, List.set_cons_zero])
        with_reducible refine tree_nil (NoPanic.normal ?_)
        go_wp2_with fail
        go_ret3
        exact ⟨x ++ [s], y, adF, ady, capF, capy, by rw [← HLL.out]; rfl, G1.out.trans (G2.ofBelow c d hbF), X2.out.keep hbF X2.out.lt.1 X2.out.lt.2, Y2.out.keep hbF Y2.out.lt.1 Y2.out.lt.2, hsF, HCF.out, hcF2, strsAt_below SY2.out (Nat.le_refl _) hbF, hcy, hcy2⟩
    · with_reducible refine tree_one ?_ (fun K' hK => ?_)
      · rfl
      go_simp
      have rB := row_new w2 W0.heap.size 1 1 9 #[.string s] hb0.size rfl (by unfold maxLen; omega)
      have hbB := hb0.alloc hb0.size (.cells #[.string s] 9)
      have hsB : (w2.alloc (.cells #[.string s] 9)).heap.size = w2.heap.size + 1 := by simp
      refine hK _ _ (HSB.out _ hbB) ?_
      clear hK K'
      try simp only [Act.put, List.setIfInBounds_toArray, List.set_cons_succ, List.set_cons_zero]
      generalize w2.alloc (.cells #[.string s] 9) = wB at rB hbB hsB  ⊢
      have HSB2 := Lib.hid hsB
      clear hsB
      with_reducible refine tree_one ?_ (fun K' hK => ?_)
      · rfl
      go_simp
      have rE := row_new wB W0.heap.size 1 0 9 #[] hbB.size rfl (by unfold maxLen; omega)
      have hbE := hbB.alloc hbB.size (.cells #[] 9)
      have hsE : (wB.alloc (.cells #[] 9)).heap.size = wB.heap.size + 1 := by simp
      have rB := rB.alloc (.cells #[] 9)
      refine hK _ _ (HSB.out _ hbE) ?_
      clear hK K'
      try simp only [Act.put, List.setIfInBounds_toArray, List.set_cons_succ, List.set_cons_zero]
      generalize wB.alloc (.cells #[] 9) = wE at rE hbE hsE rB ⊢
      have HSE := Lib.hid hsE
      clear hsE
      with_reducible refine tree_one ?_ (fun K' hK => ?_)
      · rfl
      have rC := strsAt_below SX2.out HBW.out hbE
      refine wp_append_at _ _ _ 22 22 rfl W0.heap.size 9 i0 (.string ⟨#[]⟩) 1 16 Try.underlying22 hi hz0 hz1 hz2 rfl (by decide) (.slice (some ⟨wB.heap.size, 0, none⟩) 0 0) 0 [] rfl rE _ x.length (x.map Value.string) rfl (src_strs rC _) (by unfold maxLen; omega) (by omega) hbE.size ?_
      intro vP wP rP hgrow hpl
      have hbP : Below W0.heap.size W0 wP := below_of_grown hbE hgrow hbE.size (fun k hk => (rE.lt k hk).1)
      have rB := World.ownsRow.kept rB hgrow (.inr (by simp only [Value.ownBlock, ne_eq, Option.some.injEq]; have h1 := HSE.out; have h2 := HSB2.out; omega))
      refine hK _ _ (HSB.out _ hbP) ?_
      clear hK K'
      try simp only [Act.put, List.setIfInBounds_toArray, List.set_cons_succ, List.set_cons_zero]
      rw [List.nil_append, Nat.zero_add] at rP
      clear rC hgrow hpl rE
      with_reducible refine tree_one ?_ (fun K' hK => ?_)
      · rfl
      refine wp_append_at _ _ _ 22 22 rfl W0.heap.size 9 i0 (.string ⟨#[]⟩) 1 16 Try.underlying22 hi hz0 hz1 hz2 rfl (by decide) _ x.length (x.map Value.string) rfl rP (.slice (some ⟨w2.heap.size, 0, none⟩) 1 1) 1 [.string s] rfl (src_own _ Try.underlying22 rB (strs_one [s])) (by unfold maxLen; omega) (by omega) hbP.size ?_
      intro vF wF rF hgrow hpl
      have hbF : Below W0.heap.size W0 wF := below_of_grown hbP hgrow hbP.size (fun k hk => (rP.lt k hk).1)
      refine hK _ _ (HSB.out _ hbF) ?_
      clear hK K'
      try simp only [Act.put, List.setIfInBounds_toArray, List.set_cons_succ, List.set_cons_zero]
      have hll : x.length + 1 = (x ++ [s]).length := by rw [List.length_append]; rfl
      rw [show (x.map Value.string) ++ [Value.string s] = (x ++ [s]).map Value.string from (List.map_append (f := Value.string) (l₁ := x) (l₂ := [s])).symm, hll] at rF
      obtain ⟨adF, capF, rfl, hsF, hcF, hcF2⟩ := own_strs rF
      rw [← hll]
      have HLL := Lib.hid hll; have HCF := Lib.hid hcF
      clear hgrow hpl rF rP hll hcF
      repeat ((with_reducible refine tree_read ?_ ?_); (· rfl); apply Exists.intro; refine ⟨fun w9 hw9 => ?_, ?_⟩; (· go_simp; rfl); simp only [Act.put, List.setIfInBounds_toArray, List.set_cons_succ, List.set_cons_zero])
      with_reducible refine tree_nil (NoPanic.normal ?_)
      go_wp2_with fail
      go_ret3
      exact ⟨x ++ [s], y, adF, ady, capF, capy, by rw [← HLL.out]; rfl, G1.out.trans (G2.ofBelow c d hbF), X2.out.keep hbF X2.out.lt.1 X2.out.lt.2, Y2.out.keep hbF Y2.out.lt.1 Y2.out.lt.2, hsF, HCF.out, hcF2, strsAt_below SY2.out (Nat.le_refl _) hbF, hcy, hcy2⟩
  · have hge : (room : Int) ≤ ((x.length : Nat) : Int) := by omega
    go_wp2_with fail
    refine (put_full p c room x s _ X1.out (by omega)).mono ?_
    rintro e w1 ⟨rfl, rfl⟩
    go_wp2_with fail
    go_ret3
    exact ⟨x, y, adx, ady, capx, capy, rfl, G.out, X1.out, Y1.out, SX1.out, hcx, hcx2, SY1.out, hcy, hcy2⟩

theorem do_walk (hx : BoxAt w p c room x) (hy : BoxAt w q d room y) (hpq : p ≠ q) (hp : p ≠ d) (hq : q ≠ c) (hcd : c ≠ d)
    (hsx : strsAt w adx x) (hcx : x.length ≤ capx) (hcx2 : capx ≤ 9223372036854775807) (hsy : strsAt w ady y) (hcy : y.length ≤ capy) (hcy2 : capy ≤ 9223372036854775807) :
    Calls Try.prog 12 #[.pointer (some ⟨p, 0, none⟩), .pointer (some ⟨q, 0, none⟩), .slice adx x.length capx, .slice ady y.length capy, .int .i64 room, .agg (actv kind n s two)] w fun e w' => DoPost p c q d room w e w' := by
  cases h3 : (kind == 3) with
  | true => exact do_get p c q d room x y adx ady capx capy kind n s two w h3 hx hy hpq hp hq hcd hsx hcx hcx2 hsy hcy hcy2
  | false =>
    cases h4 : (kind == 4) with
    | true => exact do_drain p c q d room x y adx ady capx capy kind n s two w h3 h4 hx hy hpq hp hq hcd hsx hcx hcx2 hsy hcy hcy2
    | false =>
      cases h5 : (kind == 5) with
      | true => exact do_pass p c q d room x y adx ady capx capy kind n s two w h3 h4 h5 hx hy hpq hp hq hcd hsx hcx hcx2 hsy hcy hcy2
      | false =>
        cases h6 : (kind == 6) with
        | true => exact do_either p c q d room x y adx ady capx capy kind n s two w h3 h4 h5 h6 hx hy hpq hp hq hcd hsx hcx hcx2 hsy hcy hcy2
        | false => exact do_put p c q d room x y adx ady capx capy kind n s two w h3 h4 h5 h6 hx hy hpq hp hq hcd hsx hcx hcx2 hsy hcy hcy2
end
end Go.Proofs.Ytkmchbmajfmbhaa
