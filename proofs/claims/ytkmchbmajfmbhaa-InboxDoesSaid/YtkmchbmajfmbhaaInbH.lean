/-
  Two boxes: a call of one beside the other.
-/
import Derived.Test.YtkmchbmajfmbhaaInbG
import Derived.Test.YtkmchbmajfmbhaaInbB
import Derived.Test.YtkmchbmajfmbhaaInbC
import Derived.Test.YtkmchbmajfmbhaaTwo
import Derived.Deep.Cut
import Derived.Deep.CutRange
namespace Go.Proofs.Ytkmchbmajfmbhaa
open Go.RowKit

/-- what do leaves -/
def DoPost (p c q d room : Nat) (w : World) (e : Ending) (w' : World) : Prop :=
  ∃ (x y : List ByteArray) (adx ady : Option Addr) (capx capy : Nat), e = .returned (.tuple #[.slice adx x.length capx, .slice ady y.length capy, .bool true]) ∧ G2 c d w w' ∧ BoxAt w' p c room x ∧ BoxAt w' q d room y ∧
    strsAt w' adx x ∧ x.length ≤ capx ∧ capx ≤ 9223372036854775807 ∧ strsAt w' ady y ∧ y.length ≤ capy ∧ capy ≤ 9223372036854775807
/-- an act's cells -/
def actv (kind n : Int) (s : ByteArray) (two : Bool) : Array Value := #[.int .i64 kind, .int .i64 n, .string s, .bool two]
theorem strsAt_drop {w : World} {b off : Nat} {l : List ByteArray} (h : strsAt w (some ⟨b, off, none⟩) l) (k : Nat) : strsAt w (some ⟨b, off + k, none⟩) (l.drop k) := by
  rcases h with h | ⟨b', off', h1, h2, h3⟩
  · exact .inl (by rw [h, List.drop_nil])
  · cases h1
    refine .inr ⟨b, off + k, rfl, h2, fun i hi => ?_⟩
    rw [List.length_drop] at hi
    rw [List.getElem_drop, Nat.add_assoc]
    exact h3 (k + i) (by omega)
theorem strsAt_mapdrop {w : World} {ad : Option Addr} {l : List ByteArray} (h : strsAt w ad l) (k : Nat) : strsAt w (ad.map fun x => x.add k) (l.drop k) := by
  rcases h with h | ⟨b, off, rfl, h2, h3⟩
  · exact .inl (by rw [h, List.drop_nil])
  · have := strsAt_drop (w := w) (.inr ⟨b, off, rfl, h2, h3⟩ : strsAt w (some ⟨b, off, none⟩) l) k
    have e : (⟨b, off, none⟩ : Addr).add k = ⟨b, off + k, none⟩ := by unfold Addr.add; split <;> simp_all
    show strsAt w (some ((⟨b, off, none⟩ : Addr).add k)) _
    rw [e]
    exact this
theorem strs_one (l : List ByteArray) : ∀ u ∈ l.map Value.string, u.oneCell' = true := by
  intro u hu
  obtain ⟨a, _, rfl⟩ := List.mem_map.1 hu
  rfl
theorem src_strs {w : World} {ad : Option Addr} {l : List ByteArray} (h : strsAt w ad l) (cap : Nat) : Src Try.prog 1 22 (.slice ad l.length cap) l.length (l.map Value.string) w := by
  rcases h with rfl | ⟨b, off, rfl, h2, h3⟩
  · cases ad with
    | none => exact Src.ofNil w Try.underlying22 cap
    | some a => exact Src.ofSlice w Try.underlying22 a 0 cap [] rfl (fun j u hj => by simp at hj) (fun u hu => by cases hu)
  · refine Src.ofSlice w Try.underlying22 ⟨b, off, none⟩ l.length cap _ (by simp) (fun j u hj => ?_) (strs_one l)
    have e : (⟨b, off, none⟩ : Addr).add j = ⟨b, off + j, none⟩ := by unfold Addr.add; split <;> simp_all
    rw [e]
    rw [List.getElem?_map] at hj
    cases hl : l[j]? with
    | none => rw [hl] at hj; cases hj
    | some a =>
      rw [hl] at hj
      obtain ⟨hj2, rfl⟩ := List.getElem?_eq_some_iff.1 hl
      cases hj
      exact h3 j hj2
theorem own_strs {w : World} {base : Nat} {v : Value} {l : List ByteArray} (h : w.ownsRow base 9 1 v l.length (l.map Value.string)) : ∃ ad cap, v = .slice ad l.length cap ∧ strsAt w ad l ∧ l.length ≤ cap ∧ cap ≤ 9223372036854775807 := by
  obtain ⟨ad, cap, rfl, hs⟩ := strsAt_own h
  rcases h.2 with ⟨h1, h2⟩ | ⟨g, cap', cur, hv, _, _, h3, h4, _⟩
  · simp at h1
    exact ⟨ad, cap, rfl, hs, by omega, by omega⟩
  · simp at hv
    unfold maxLen at h4
    exact ⟨ad, cap, rfl, hs, by omega, by omega⟩
theorem act_c0 {W : World} {z : Nat} {kind n : Int} {s : ByteArray} {two : Bool} (g : W.heap[z]? = some (.cells (actv kind n s two) 37 (0, 0))) : W.cell? ⟨z, 0, none⟩ = some (.int .i64 kind) := by rw [cell_of_row W z 0 _ _ _ g]; rfl
theorem act_c1 {W : World} {z : Nat} {kind n : Int} {s : ByteArray} {two : Bool} (g : W.heap[z]? = some (.cells (actv kind n s two) 37 (0, 0))) : W.cell? ⟨z, 1, none⟩ = some (.int .i64 n) := by rw [cell_of_row W z 1 _ _ _ g]; rfl
theorem act_c2 {W : World} {z : Nat} {kind n : Int} {s : ByteArray} {two : Bool} (g : W.heap[z]? = some (.cells (actv kind n s two) 37 (0, 0))) : W.cell? ⟨z, 2, none⟩ = some (.string s) := by rw [cell_of_row W z 2 _ _ _ g]; rfl

section
variable (p c q d room : Nat) (x y : List ByteArray) (adx ady : Option Addr) (capx capy : Nat) (kind n : Int) (s : ByteArray) (two : Bool) (w : World)

set_option maxHeartbeats 4000000 in
set_option maxRecDepth 8000 in
theorem do_get (hk : (kind == 3) = true) (hx : BoxAt w p c room x) (hy : BoxAt w q d room y) (hpq : p ≠ q) (hp : p ≠ d) (hq : q ≠ c) (hcd : c ≠ d)
    (hsx : strsAt w adx x) (hcx : x.length ≤ capx) (hcx2 : capx ≤ 9223372036854775807) (hsy : strsAt w ady y) (hcy : y.length ≤ capy) (hcy2 : capy ≤ 9223372036854775807) :
    Calls Try.prog 12 #[.pointer (some ⟨p, 0, none⟩), .pointer (some ⟨q, 0, none⟩), .slice adx x.length capx, .slice ady y.length capy, .int .i64 room, .agg (actv kind n s two)] w fun e w' => DoPost p c q d room w e w' := by
  have HX := Lib.hid hx; have HY := Lib.hid hy; have HSX := Lib.hid hsx; have HSY := Lib.hid hsy
  have hxl := hx.2.2.1.1
  have hyl := hy.2.2.1.1
  have hr2 := hx.2.2.1.2
  clear hx hy hsx hsy
  go_enter Try.func12, Try.ntmps12
  go_upto_region 1 with fail
  have g0 := heap_alloc_top w (.cells (actv kind n s two) 37)
  have hB := (Below.refl w.heap.size w).alloc (Nat.le_refl _) (.cells (actv kind n s two) 37)
  obtain ⟨z, hz⟩ : ∃ z, z = w.heap.size := ⟨_, rfl⟩
  rw [← hz] at g0 ⊢
  generalize w.alloc (.cells (actv kind n s two) 37) = W at g0 hB ⊢
  have c0 := act_c0 g0
  have GZ := Lib.hid g0
  have G := Lib.hid (G2.ofBelow c d hB)
  have X1 := Lib.hid (HX.out.keep hB HX.out.lt.1 HX.out.lt.2); have Y1 := Lib.hid (HY.out.keep hB HY.out.lt.1 HY.out.lt.2)
  have SX1 := Lib.hid (strsAt_below HSX.out (Nat.le_refl _) hB); have SY1 := Lib.hid (strsAt_below HSY.out (Nat.le_refl _) hB)
  have hzc : z ≠ c := by have := HX.out.lt; omega
  have hzd : z ≠ d := by have := HY.out.lt; omega
  clear g0 hz HX HY HSX HSY hB
  cases x with
  | nil =>
    go_wp2_with fail
    refine (get_none p c room _ X1.out).mono ?_
    rintro e w1 ⟨rfl, rfl⟩
    go_wp2_with fail
    go_ret3
    exact ⟨[], y, adx, ady, capx, capy, rfl, G.out, X1.out, Y1.out, SX1.out, hcx, hcx2, SY1.out, hcy, hcy2⟩
  | cons a r =>
    rcases SX1.out with hnil | ⟨bl, off, rfl, hbl, hcs⟩
    · cases hnil
    clear hcs hbl
    go_wp2_with fail
    refine (get_some p c room a r _ X1.out).mono ?_
    rintro e w1 ⟨rfl, hg1, hb1⟩
    have hg2 := G2.left d hg1
    have hY1 := Y1.out.grown hg1 (fun e => hq (Option.some.inj e)) (fun e => hcd (Option.some.inj e).symm)
    have SX2 := Lib.hid (strsAt_two SX1.out hg2 X1.out Y1.out); have SY2 := Lib.hid (strsAt_two SY1.out hg2 X1.out Y1.out)
    have G1 := Lib.hid (G.out.trans hg2); have X2 := Lib.hid hb1; have Y2 := Lib.hid hY1
    clear hg1 hg2 hb1 hY1 c0
    rcases SX2.out with hnil | ⟨bl2, off2, he, hbl, hcs⟩
    · cases hnil
    cases he
    have h0 : w1.cell? ⟨bl, off + 0, none⟩ = some (.string a) := hcs 0 (by simp)
    have h0' : ∀ y : Sub w1.heap.size w1, y.val.cell? ⟨bl, off, none⟩ = some (.string a) := fun y => sub_cell h0 hbl y
    obtain ⟨m, hm⟩ : ∃ m, m = (a :: r).length := ⟨_, rfl⟩
    have hm1 : 1 ≤ m := by rw [hm]; simp
    have hmz : ((m : Int) == 0) = false := by rw [beq_eq_false_iff_ne]; omega
    have hm0 : 0 < m := by omega
    rw [← hm] at hcx ⊢
    have HM := Lib.hid hm
    clear hm hcs h0
    go_wp2_with fail
    refine wp_region_sub (W := w1) (B := w1.heap.size) (by kernel_rfl) (by kernel_rfl) (Below.refl _ _) ?_
    repeat (any_goals (first
      | go_big_quiet_skip
      | go_big_quiet_step (fail)
      | quiet_step (fail)))
    refine wpQuiet_nil ?_
    rintro w9 ⟨x9, rfl⟩
    go_wp2_with fail
    all_goals go_ret3
    all_goals have hrl : m - 1 = r.length := by rw [HM.out]; simp
    all_goals have hb9 := x9.below
    · refine ⟨r, y, _, ady, _, capy, by rw [← hrl]; rfl, G1.out.trans (G2.ofBelow c d hb9), X2.out.keep hb9 X2.out.lt.1 X2.out.lt.2, Y2.out.keep hb9 Y2.out.lt.1 Y2.out.lt.2, .inl (List.eq_nil_of_length_eq_zero (by omega)), by omega, by omega, strsAt_below SY2.out (Nat.le_refl _) hb9, hcy, hcy2⟩
    · refine ⟨r, y, some ⟨bl, off + 1, none⟩, ady, capx - 1, capy, by rw [← hrl]; rfl, G1.out.trans (G2.ofBelow c d hb9), X2.out.keep hb9 X2.out.lt.1 X2.out.lt.2, Y2.out.keep hb9 Y2.out.lt.1 Y2.out.lt.2, strsAt_below (strsAt_drop SX2.out 1) (Nat.le_refl _) hb9, by omega, by omega, strsAt_below SY2.out (Nat.le_refl _) hb9, hcy, hcy2⟩

set_option maxHeartbeats 4000000 in
set_option maxRecDepth 8000 in
theorem do_drain (hk3 : (kind == 3) = false) (hk : (kind == 4) = true) (hx : BoxAt w p c room x) (hy : BoxAt w q d room y) (hpq : p ≠ q) (hp : p ≠ d) (hq : q ≠ c) (hcd : c ≠ d)
    (hsx : strsAt w adx x) (hcx : x.length ≤ capx) (hcx2 : capx ≤ 9223372036854775807) (hsy : strsAt w ady y) (hcy : y.length ≤ capy) (hcy2 : capy ≤ 9223372036854775807) :
    Calls Try.prog 12 #[.pointer (some ⟨p, 0, none⟩), .pointer (some ⟨q, 0, none⟩), .slice adx x.length capx, .slice ady y.length capy, .int .i64 room, .agg (actv kind n s two)] w fun e w' => DoPost p c q d room w e w' := by
  have HX := Lib.hid hx; have HY := Lib.hid hy; have HSX := Lib.hid hsx; have HSY := Lib.hid hsy
  have hxl := hx.2.2.1.1
  have hyl := hy.2.2.1.1
  have hr2 := hx.2.2.1.2
  clear hx hy hsx hsy
  go_enter Try.func12, Try.ntmps12
  go_upto_region 1 with fail
  have g0 := heap_alloc_top w (.cells (actv kind n s two) 37)
  have hB := (Below.refl w.heap.size w).alloc (Nat.le_refl _) (.cells (actv kind n s two) 37)
  obtain ⟨z, hz⟩ : ∃ z, z = w.heap.size := ⟨_, rfl⟩
  rw [← hz] at g0 ⊢
  generalize w.alloc (.cells (actv kind n s two) 37) = W at g0 hB ⊢
  have c0 := act_c0 g0
  have GZ := Lib.hid g0
  have G := Lib.hid (G2.ofBelow c d hB)
  have X1 := Lib.hid (HX.out.keep hB HX.out.lt.1 HX.out.lt.2); have Y1 := Lib.hid (HY.out.keep hB HY.out.lt.1 HY.out.lt.2)
  have SX1 := Lib.hid (strsAt_below HSX.out (Nat.le_refl _) hB); have SY1 := Lib.hid (strsAt_below HSY.out (Nat.le_refl _) hB)
  have hzc : z ≠ c := by have := HX.out.lt; omega
  have hzd : z ≠ d := by have := HY.out.lt; omega
  clear g0 hz HX HY HSX HSY hB
  have c1 := act_c1 GZ.out
  go_wp2_with fail
  refine (first_walk adx capx x n _ SX1.out hcx hcx2).mono ?_
  rintro e w1 ⟨adl, capl, rfl, hsl, hcl, hcl2, rfl⟩
  obtain ⟨l, hl⟩ : ∃ l, l = x.take n.toNat := ⟨_, rfl⟩
  rw [← hl] at hsl hcl ⊢
  have hll : l.length ≤ x.length := by rw [hl, List.length_take]; omega
  have hdr : (x.drop n.toNat).length = x.length - l.length := by rw [hl, List.length_take, List.length_drop]; omega
  have hdr2 : x.drop n.toNat = x.drop l.length := by
    rw [hl, List.length_take]
    rcases Nat.le_total n.toNat x.length with h | h
    · rw [Nat.min_eq_left h]
    · rw [Nat.min_eq_right h, List.drop_length, List.drop_of_length_le h]
  have HL := Lib.hid hl; have HSL := Lib.hid hsl; have HDR := Lib.hid hdr; have HDR2 := Lib.hid hdr2
  clear hl hsl hdr hdr2 c0
  have c1' : ∀ y : Sub w1.heap.size w1, y.val.cell? ⟨z, 1, none⟩ = some (.int .i64 n) := fun y => sub_cell c1 (lt_of_block GZ.out) y
  clear c1
  go_upto_region 9 with fail
  obtain ⟨S, hS⟩ : ∃ S : World → Prop, S = fun w' => G2 c d w1 w' := ⟨_, rfl⟩
  have hS0 : S w1.drew := by rw [hS]; exact (G2.refl _ _ _).drew
  have hcz : ∀ w9, S w9 → w9.cell? ⟨z, 1, none⟩ = some (.int .i64 n) := fun w9 h => by
    rw [hS] at h
    rw [World.cell?_of_block (h.block z (lt_of_block GZ.out) hzc hzd)]
    exact act_c1 GZ.out
  have HSG : ∀ w9, G2 c d w1 w9 → S w9 := fun w9 h => by rw [hS]; exact h
  have KSG := Lib.hid HSG
  clear hS HSG c1'
  refine wp_region_mix S [(0,true),(1,true),(2,true),(3,true),(4,true),(5,true),(6,true),(7,true),(9,true),(8,false),(10,false),(11,true),(12,true),(13,true)] (by kernel_rfl) (by kernel_rfl) hS0 ?_
  have hg0 : G2 c d w1 w1.drew := (G2.refl _ _ _).drew
  have X3 := Lib.hid (show BoxAt w1.drew p c room x from X1.out); have Y3 := Lib.hid (show BoxAt w1.drew q d room y from Y1.out)
  generalize w1.drew = w2 at hg0 X3 Y3 ⊢
  clear hS0
  simp only [List.filterMap_cons, List.filterMap_nil, List.getElem?_cons_zero, List.getElem?_cons_succ, Option.map_some]
  have hxi : x.length ≤ 9223372036854775807 := by omega
  repeat ((with_reducible refine mix_read ?_ ?_); (· rfl); apply Exists.intro; refine ⟨fun w9 hw9 => ?_, ?_⟩; (· have d1 := hcz w9 hw9; go_simp; rfl); simp only [Act.put, List.setIfInBounds_toArray, List.set_cons_succ, List.set_cons_zero])
  with_reducible refine mix_step ?_ (fun K' hK => ?_)
  · rfl
  go_simp
  go_at_call 10
  refine (drain_walk p c room x n _ X3.out).mono ?_
  rintro e w3 ⟨v, rfl, hrow, hg3, hx3⟩
  rw [← HL.out] at hrow
  rw [HDR2.out] at hx3
  have hg4 := G2.left d hg3
  have hg5 := hg0.trans hg4
  have hy3 := Y3.out.grown hg3 (fun e => hq (Option.some.inj e)) (fun e => hcd (Option.some.inj e).symm)
  have hsl3 := strsAt_two HSL.out hg5 X1.out Y1.out
  obtain ⟨adv, capv, rfl, hsv⟩ := hrow.form
  refine hK _ _ (KSG.out _ hg5) ?_
  clear hK K'
  try simp only [Act.put, List.setIfInBounds_toArray, List.set_cons_succ, List.set_cons_zero]
  have X5 := Lib.hid hx3; have Y5 := Lib.hid hy3; have G5 := Lib.hid (G.out.trans hg5); have H5 := Lib.hid hg5
  have SX5 := Lib.hid (strsAt_two SX1.out hg5 X1.out Y1.out); have SY5 := Lib.hid (strsAt_two SY1.out hg5 X1.out Y1.out)
  have kt := texts_walk adv adl capv capl l l w3 hsv hsl3 (by omega)
  rw [decide_eq_true (rfl : l = l)] at kt
  have KT := Lib.hid kt
  clear hx3 hy3 hg0 hg3 hg4 hg5 hrow hsv hsl3 kt
  with_reducible refine mix_step ?_ (fun K' hK => ?_)
  · rfl
  go_simp
  go_at_call 11
  refine KT.out.mono ?_
  rintro e w4 ⟨rfl, hb4⟩
  refine hK _ _ (KSG.out _ (H5.out.trans (G2.ofBelow c d hb4))) ?_
  clear hK K'
  try simp only [Act.put, List.setIfInBounds_toArray, List.set_cons_succ, List.set_cons_zero]
  repeat ((with_reducible refine mix_read ?_ ?_); (· rfl); apply Exists.intro; refine ⟨fun w9 hw9 => ?_, ?_⟩; (· go_simp; rfl); simp only [Act.put, List.setIfInBounds_toArray, List.set_cons_succ, List.set_cons_zero])
  with_reducible refine mix_nil (NoPanic.normal ?_)
  go_wp2_with fail
  all_goals go_ret3
  · refine ⟨x.drop l.length, y, _, ady, _, capy, by rw [List.length_drop]; rfl, G5.out.trans (G2.ofBelow c d hb4), X5.out.keep hb4 X5.out.lt.1 X5.out.lt.2, Y5.out.keep hb4 Y5.out.lt.1 Y5.out.lt.2, .inl (List.drop_eq_nil_of_le (by omega)), by rw [List.length_drop]; omega, by omega, strsAt_below SY5.out (Nat.le_refl _) hb4, hcy, hcy2⟩
  · refine ⟨x.drop l.length, y, _, ady, _, capy, by rw [List.length_drop]; rfl, G5.out.trans (G2.ofBelow c d hb4), X5.out.keep hb4 X5.out.lt.1 X5.out.lt.2, Y5.out.keep hb4 Y5.out.lt.1 Y5.out.lt.2, strsAt_below (strsAt_mapdrop SX5.out l.length) (Nat.le_refl _) hb4, by rw [List.length_drop]; omega, by omega, strsAt_below SY5.out (Nat.le_refl _) hb4, hcy, hcy2⟩

set_option maxHeartbeats 4000000 in
set_option maxRecDepth 8000 in
theorem do_pass (hk3 : (kind == 3) = false) (hk4 : (kind == 4) = false) (hk : (kind == 5) = true) (hx : BoxAt w p c room x) (hy : BoxAt w q d room y) (hpq : p ≠ q) (hp : p ≠ d) (hq : q ≠ c) (hcd : c ≠ d)
    (hsx : strsAt w adx x) (hcx : x.length ≤ capx) (hcx2 : capx ≤ 9223372036854775807) (hsy : strsAt w ady y) (hcy : y.length ≤ capy) (hcy2 : capy ≤ 9223372036854775807) :
    Calls Try.prog 12 #[.pointer (some ⟨p, 0, none⟩), .pointer (some ⟨q, 0, none⟩), .slice adx x.length capx, .slice ady y.length capy, .int .i64 room, .agg (actv kind n s two)] w fun e w' => DoPost p c q d room w e w' := by
  have HX := Lib.hid hx; have HY := Lib.hid hy; have HSX := Lib.hid hsx; have HSY := Lib.hid hsy
  have hxl := hx.2.2.1.1
  have hyl := hy.2.2.1.1
  have hr2 := hx.2.2.1.2
  clear hx hy hsx hsy
  go_enter Try.func12, Try.ntmps12
  go_upto_region 1 with fail
  have g0 := heap_alloc_top w (.cells (actv kind n s two) 37)
  have hB := (Below.refl w.heap.size w).alloc (Nat.le_refl _) (.cells (actv kind n s two) 37)
  obtain ⟨z, hz⟩ : ∃ z, z = w.heap.size := ⟨_, rfl⟩
  rw [← hz] at g0 ⊢
  generalize w.alloc (.cells (actv kind n s two) 37) = W at g0 hB ⊢
  have c0 := act_c0 g0
  have GZ := Lib.hid g0
  have G := Lib.hid (G2.ofBelow c d hB)
  have X1 := Lib.hid (HX.out.keep hB HX.out.lt.1 HX.out.lt.2); have Y1 := Lib.hid (HY.out.keep hB HY.out.lt.1 HY.out.lt.2)
  have SX1 := Lib.hid (strsAt_below HSX.out (Nat.le_refl _) hB); have SY1 := Lib.hid (strsAt_below HSY.out (Nat.le_refl _) hB)
  have hzc : z ≠ c := by have := HX.out.lt; omega
  have hzd : z ≠ d := by have := HY.out.lt; omega
  clear g0 hz HX HY HSX HSY hB
  obtain ⟨k, hk'⟩ : ∃ k, k = min x.length (room - y.length) := ⟨_, rfl⟩
  have hmn : min (x.length : Int) ((room : Int) - (y.length : Int)) = (k : Int) := by omega
  have HK := Lib.hid hk'; have HMN := Lib.hid hmn
  have hkx : k ≤ x.length := by omega
  have hky : y.length + k ≤ room := by omega
  have hkc : k ≤ capx := by omega
  clear hk' hmn
  obtain ⟨i0, hi, hz0, hz1, hz2⟩ := info_parts info_string
  go_wp2_with fail
  refine (low_walk _ _ _).mono ?_
  rintro e W0 ⟨rfl, rfl⟩
  rw [HMN.out]
  go_upto_region 12 with fail
  have HSB := Lib.hid (show ∀ w9, Below W0.heap.size W0 w9 → (fun _ : World => True) w9 from fun _ _ => trivial)
  refine wp_region_mix (fun _ => True) [(0,true),(1,true),(2,true),(4,true),(6,true),(7,true),(8,true),(10,true),(11,true),(13,true),(3,false),(5,false),(9,false),(12,false),(14,true),(15,true),(16,true),(17,true)] (by kernel_rfl) (by kernel_rfl) trivial ?_
  have hb0 : Below W0.heap.size W0 W0.drew := (Below.refl _ _).drew
  have HBW := Lib.hid (Nat.le_refl W0.heap.size)
  generalize W0.drew = w2 at hb0 ⊢
  simp only [List.filterMap_cons, List.filterMap_nil, List.getElem?_cons_zero, List.getElem?_cons_succ, Option.map_some]
  repeat ((with_reducible refine mix_read ?_ ?_); (· rfl); apply Exists.intro; refine ⟨fun w9 hw9 => ?_, ?_⟩; (· go_simp; rfl); simp only [Act.put, List.setIfInBounds_toArray, List.set_cons_succ, List.set_cons_zero])
  with_reducible refine mix_step ?_ (fun K' hK => ?_)
  · rfl
  go_simp
  have rE := row_new w2 W0.heap.size 1 0 9 #[] hb0.size rfl (by unfold maxLen; omega)
  have hbE := hb0.alloc hb0.size (.cells #[] 9)
  have hsE : (w2.alloc (.cells #[] 9)).heap.size = w2.heap.size + 1 := by simp
  refine hK _ _ (HSB.out _ hbE) ?_
  clear hK K'
  try simp only [Act.put, List.setIfInBounds_toArray, List.set_cons_succ, List.set_cons_zero]
  generalize w2.alloc (.cells #[] 9) = wE at rE hbE hsE  ⊢
  have HSE := Lib.hid hsE
  clear hsE
  with_reducible refine mix_step ?_ (fun K' hK => ?_)
  · rfl
  have rC := strsAt_below SY1.out HBW.out hbE
  refine wp_append_at _ _ _ 22 22 rfl W0.heap.size 9 i0 (.string ⟨#[]⟩) 1 16 Try.underlying22 hi hz0 hz1 hz2 rfl (by decide) (.slice (some ⟨w2.heap.size, 0, none⟩) 0 0) 0 [] rfl rE _ y.length (y.map Value.string) rfl (src_strs rC _) (by unfold maxLen; omega) (by omega) hbE.size ?_
  intro vP wP rP hgrow hpl
  have hbP : Below W0.heap.size W0 wP := below_of_grown hbE hgrow hbE.size (fun k hk => (rE.lt k hk).1)
  refine hK _ _ (HSB.out _ hbP) ?_
  clear hK K'
  try simp only [Act.put, List.setIfInBounds_toArray, List.set_cons_succ, List.set_cons_zero]
  rw [List.nil_append, Nat.zero_add] at rP
  clear rC hgrow hpl rE
  with_reducible refine mix_step ?_ (fun K' hK => ?_)
  · rfl
  have hkl : (x.take k).length = k := by rw [List.length_take]; omega
  have rD := src_strs (strsAt_take (strsAt_below SX1.out HBW.out hbP) k) capx
  rw [hkl] at rD
  refine wp_append_at _ _ _ 22 22 rfl W0.heap.size 9 i0 (.string ⟨#[]⟩) 1 16 Try.underlying22 hi hz0 hz1 hz2 rfl (by decide) _ y.length (y.map Value.string) rfl rP (.slice adx k capx) k ((x.take k).map Value.string) rfl rD (by unfold maxLen; omega) (by omega) hbP.size ?_
  intro vF wF rF hgrow hpl
  have hbF : Below W0.heap.size W0 wF := below_of_grown hbP hgrow hbP.size (fun k hk => (rP.lt k hk).1)
  refine hK _ _ trivial ?_
  clear hK K'
  try simp only [Act.put, List.setIfInBounds_toArray, List.set_cons_succ, List.set_cons_zero]
  have hll : y.length + k = (y ++ x.take k).length := by rw [List.length_append, hkl]
  rw [← List.map_append, hll] at rF
  clear rD hgrow hpl rP hkl hll
  have XF := Lib.hid (X1.out.keep hbF (Nat.lt_of_lt_of_le X1.out.lt.1 HBW.out) (Nat.lt_of_lt_of_le X1.out.lt.2 HBW.out)); have YF := Lib.hid (Y1.out.keep hbF (Nat.lt_of_lt_of_le Y1.out.lt.1 HBW.out) (Nat.lt_of_lt_of_le Y1.out.lt.2 HBW.out))
  have kp := pass_walk p c q d room x y wF XF.out YF.out hpq hp hq hcd
  rw [← HK.out] at kp
  have KP := Lib.hid kp
  clear kp
  with_reducible refine mix_step ?_ (fun K' hK => ?_)
  · rfl
  go_simp
  go_at_call 15
  refine KP.out.mono ?_
  rintro e w9 ⟨rfl, hg9, hx9, hy9⟩
  refine hK _ _ trivial ?_
  clear hK K'
  try simp only [Act.put, List.setIfInBounds_toArray, List.set_cons_succ, List.set_cons_zero]
  obtain ⟨adF, capF, rfl, hsF, hcF, hcF2⟩ := own_strs rF
  have SF := Lib.hid (strsAt_two hsF hg9 XF.out YF.out)
  have SX9 := Lib.hid (strsAt_two (strsAt_below SX1.out HBW.out hbF) hg9 XF.out YF.out)
  have GF := Lib.hid ((G.out.trans (G2.ofBelow c d (hbF.mono HBW.out))).trans hg9)
  have X9 := Lib.hid hx9; have Y9 := Lib.hid hy9
  clear hsF hg9 hx9 hy9 rF KP
  repeat ((with_reducible refine mix_read ?_ ?_); (· rfl); apply Exists.intro; refine ⟨fun w9 hw9 => ?_, ?_⟩; (· go_simp; rfl); simp only [Act.put, List.setIfInBounds_toArray, List.set_cons_succ, List.set_cons_zero])
  with_reducible refine mix_nil (NoPanic.normal ?_)
  go_wp2_with fail
  all_goals go_ret3
  · refine ⟨x.drop k, y ++ x.take k, _, adF, _, capF, by rw [List.length_drop, List.length_append, List.length_take, Nat.min_eq_left hkx]; rfl, GF.out, X9.out, Y9.out, .inl (List.drop_eq_nil_of_le (by omega)), by rw [List.length_drop]; omega, by omega, SF.out, hcF, hcF2⟩
  · refine ⟨x.drop k, y ++ x.take k, _, adF, _, capF, by rw [List.length_drop, List.length_append, List.length_take, Nat.min_eq_left hkx]; rfl, GF.out, X9.out, Y9.out, strsAt_mapdrop SX9.out k, by rw [List.length_drop]; omega, by omega, SF.out, hcF, hcF2⟩
end
end Go.Proofs.Ytkmchbmajfmbhaa
