/-
  Layer 41: a patch's bytes; the walk of PatchBytes.
-/
import Derived.Test.YtmjpofceoohglaaPatF
namespace Go.Proofs.Ytmjpofceoohglaa
open Go.RowKit

/-- a patch's bytes, by the reference -/
def bytesL (h t : Nat) (m : ByteArray) : List UInt8 := lebN h ++ lebN t ++ (lebN m.size ++ m.data.toList)
theorem str_catG (l : List UInt8) (s : ByteArray) : (⟨l.toArray⟩ : ByteArray) ++ s = ⟨(l ++ s.data.toList).toArray⟩ := by
  apply ByteArray.ext
  apply Array.ext'
  rw [ByteArray.data_append]
  simp
theorem size_mk (l : List UInt8) : (⟨l.toArray⟩ : ByteArray).size = l.length := List.size_toArray

theorem lay_bytes (h t : Nat) (m : ByteArray) (hh : h ≤ 9223372036854775807) (ht : t ≤ 9223372036854775807) (hm : m.size ≤ 600) : lay (patF h t m) = (⟨(bytesL h t m).toArray⟩, 0) := by
  have h1 := lebN_nine h hh
  have h2 := lebN_nine t ht
  have h3 := lebN_nine m.size (by omega)
  have hb : (patF (h : Int) (t : Int) m).any badF = false := by
    have a1 : decide ((h : Int) < 0) = false := decide_eq_false (by omega)
    have a2 : decide ((t : Int) < 0) = false := decide_eq_false (by omega)
    simp [patF, badF]
  have hmt : m.data.toList.take 65536 = m.data.toList := List.take_of_length_le (by rw [show m.data.toList.length = m.size from rfl]; omega)
  have e1 : putF [] (h : Int) ⟨#[]⟩ false = lebN h := by
    unfold putF
    rw [if_neg (by simp), if_neg (by simp), List.nil_append]
    rfl
  have e2 : putF (lebN h) (t : Int) ⟨#[]⟩ false = lebN h ++ lebN t := by
    unfold putF
    rw [if_neg (by omega), if_neg (by simp)]
    rfl
  have e3 : putF (lebN h ++ lebN t) 0 m true = bytesL h t m := by
    unfold putF bytesL
    rw [if_neg (by rw [List.length_append]; omega), if_pos rfl, hmt, List.append_assoc (lebN h ++ lebN t)]
  have hl : layB (patF (h : Int) (t : Int) m) = bytesL h t m := by
    simp only [layB, patF, List.foldl_cons, List.foldl_nil, e1, e2, e3]
  have hlen : (bytesL h t m).length ≤ 65536 := by
    unfold bytesL
    simp only [List.length_append]
    rw [show m.data.toList.length = m.size from rfl]
    omega
  unfold lay
  rw [if_neg (by rw [hb]; simp), hl, if_neg (by omega)]
theorem lay_neg (h t : Int) (m : ByteArray) (hn : h < 0 ∨ t < 0) : lay (patF h t m) = (⟨#[]⟩, 3) := by
  unfold lay
  rw [if_pos (by rcases hn with hn | hn <;> simp [patF, badF, hn])]
theorem get_bytes (h t : Nat) (m : ByteArray) (hh : h ≤ 9223372036854775807) (ht : t ≤ 9223372036854775807) (hm : m.size ≤ 600) : getR ⟨(bytesL h t m).toArray⟩ = ((h : Int), (t : Int), m, 0) := by
  have h1 : numR ⟨(bytesL h t m).toArray⟩ 0 = (h, ⟨(lebN t ++ (lebN m.size ++ m.data.toList)).toArray⟩, 0) := by
    unfold bytesL
    rw [List.append_assoc]
    exact num_laid h _ hh
  have h2 := num_laid t (lebN m.size ++ m.data.toList) ht
  have h3 := txt_laid m.data.toList [] (by rw [show m.data.toList.length = m.size from rfl]; omega)
  rw [List.append_nil] at h3
  have hme : (⟨m.data.toList.toArray⟩ : ByteArray) = m := by apply ByteArray.ext; simp
  rw [hme] at h3
  rw [getR_of _ _ _ _ _ _ _ _ _ _ h1 h2 h3, if_pos ⟨by decide, lay_bytes h t m hh ht hm⟩]
theorem get_good (s : ByteArray) : (∃ n1 n2 : Nat, ∃ m, getR s = ((n1 : Int), (n2 : Int), m, 0) ∧ n1 ≤ 9223372036854775807 ∧ n2 ≤ 9223372036854775807 ∧ m.size ≤ s.size ∧ s = ⟨(bytesL n1 n2 m).toArray⟩) ∨ getR s = (0, 0, ⟨#[]⟩, 6) := by
  obtain ⟨n1, s1, e1, h1⟩ : ∃ n1 s1 e1, numR s 0 = (n1, s1, e1) := ⟨_, _, _, rfl⟩
  obtain ⟨n2, s2, e2, h2⟩ : ∃ n2 s2 e2, numR s1 e1 = (n2, s2, e2) := ⟨_, _, _, rfl⟩
  obtain ⟨m, s3, e3, h3⟩ : ∃ m s3 e3, txtR s2 e2 = (m, s3, e3) := ⟨_, _, _, rfl⟩
  have hg := getR_of s s1 s2 m s3 n1 n2 e1 e2 e3 h1 h2 h3
  have hn1 : n1 ≤ 9223372036854775807 := by have := num_le s 0; rw [h1] at this; exact this
  have hn2 : n2 ≤ 9223372036854775807 := by have := num_le s1 e1; rw [h2] at this; exact this
  have hm : m.size ≤ s.size := by
    have a1 := num_rest s 0
    have a2 := num_rest s1 e1
    have a3 := txt_le s2 e2
    rw [h1] at a1; rw [h2] at a2; rw [h3] at a3
    have a1 : s1.size ≤ s.size := a1
    have a2 : s2.size ≤ s1.size := a2
    have a3 : m.size ≤ s2.size := a3
    omega
  by_cases hc : endR s3 e3 = 0 ∧ lay (patF n1 n2 m) = (s, 0)
  · rw [if_pos hc] at hg
    refine .inl ⟨n1, n2, m, hg, hn1, hn2, hm, ?_⟩
    have h := (lay_ok (patF n1 n2 m) (by rw [hc.2])).1
    rw [hc.2] at h
    have h : s = ⟨((patF (n1 : Int) (n2 : Int) m).flatMap layF).toArray⟩ := h
    rw [h]
    congr 2
    unfold bytesL patF layF
    simp only [List.flatMap_cons, List.flatMap_nil, List.append_nil]
    simp
  · rw [if_neg hc] at hg
    exact .inr hg

theorem pat_part0 (h t : Int) (m : ByteArray) (w : World) : (part 3 (pat h t m) 0).run Try.prog w = .ok (.int .i64 h) w := by kernel_rfl
theorem pat_part1 (h t : Int) (m : ByteArray) (w : World) : (part 3 (pat h t m) 1).run Try.prog w = .ok (.int .i64 t) w := by kernel_rfl
theorem pat_part2 (h t : Int) (m : ByteArray) (w : World) : (part 9 (pat h t m) 2).run Try.prog w = .ok (.string m) w := by kernel_rfl
theorem eq_int9 (a b : Int) (w : World) : (Op.equalIn 9999 3 (.int .i64 a) (.int .i64 b)).run Try.prog w = .ok (a == b) w := by
  have hu := run_underlying (P := Try.prog) (t := 3) Try.underlying3 w
  unfold Op.equalIn
  simp [Sem.run_bind, hu]
theorem eq_str9 (a : ByteArray) (w : World) : (Op.equalIn 9999 9 (.string a) (.string a)).run Try.prog w = .ok true w := by
  have hu := run_underlying (P := Try.prog) (t := 9) Try.underlying9 w
  unfold Op.equalIn
  simp [Sem.run_bind, hu]
  first | (show (a.data == a.data) = true; simp; done) | (unfold BEq.beq ByteArray.instBEq; trace_state; simp)
theorem eq_pat (h t : Int) (m : ByteArray) (w : World) : (Op.equalIn 10000 23 (.agg (pat h t m)) (.agg (pat h t m))).run Try.prog w = .ok true w := by
  have hu := run_underlying (P := Try.prog) (t := 23) Try.underlying23 w
  unfold Op.equalIn
  simp [Sem.run_bind, hu]
  simp only [pat_part0, pat_part1, pat_part2, Result.andThen_ok, eq_int9, eq_str9]
  simp [Sem.run_pure]

set_option maxHeartbeats 1000000 in
theorem bytes_walk (h t : Nat) (m : ByteArray) (w : World) (hh : h ≤ 9223372036854775807) (ht : t ≤ 9223372036854775807) (hm : m.size ≤ 131072) :
    Calls Try.prog 13 #[.agg (pat h t m)] w fun e w' => e = .returned (.string ⟨(bytesL h t m).toArray⟩) ∧ Below w.heap.size w w' := by
  have h1 := lebN_nine h hh
  have h2 := lebN_nine t ht
  have h3 := lebN_nine m.size (by omega)
  obtain ⟨o1, ho1⟩ : ∃ o : ByteArray, o = ⟨(lebN h).toArray⟩ := ⟨_, rfl⟩
  obtain ⟨o2, ho2⟩ : ∃ o : ByteArray, o = ⟨(lebN t).toArray⟩ := ⟨_, rfl⟩
  obtain ⟨o3, ho3⟩ : ∃ o : ByteArray, o = ⟨(lebN m.size).toArray⟩ ++ m := ⟨_, rfl⟩
  have hs1 : o1.size ≤ 9 := by rw [ho1, size_mk]; exact h1
  have hs2 : o2.size ≤ 9 := by rw [ho2, size_mk]; exact h2
  have hs3 : o3.size ≤ 131081 := by rw [ho3, ByteArray.size_append, size_mk]; omega
  have hsum : o1.size + o2.size ≤ 9223372036854775807 := by omega
  have hsum2 : (o1 ++ o2).size + o3.size ≤ 9223372036854775807 := by rw [ByteArray.size_append]; omega
  have hsum3 : o1.size + o2.size + o3.size ≤ 9223372036854775807 := by omega
  have hres : o1 ++ o2 ++ o3 = ⟨(bytesL h t m).toArray⟩ := by
    rw [ho1, ho2, ho3]
    apply ByteArray.ext
    apply Array.ext'
    simp only [ByteArray.data_append]
    simp [bytesL]
  have k1 := fun w => rnumber_walk h w hh
  have k2 := fun w => rnumber_walk t w ht
  have k3 := fun w => rtext_walk m w hm
  rw [← ho1] at k1; rw [← ho2] at k2; rw [← ho3] at k3
  have K1 := Lib.hid k1; have K2 := Lib.hid k2; have K3 := Lib.hid k3; have HR := Lib.hid hres
  clear h1 h2 h3 ho1 ho2 ho3 hs1 hs2 hs3 k1 k2 k3 hres hh ht hm
  go_enter Try.func13, Try.ntmps13
  go_upto_region 1 with fail
  have g0 := heap_alloc_top w (.cells (pat h t m) 23)
  have hB := pat_below w (.cells (pat h t m) 23)
  obtain ⟨q, hq⟩ : ∃ q, q = w.heap.size := ⟨_, rfl⟩
  rw [← hq] at g0 ⊢
  generalize w.alloc (.cells (pat h t m) 23) = W at g0 hB ⊢
  have hqW := lt_of_block g0
  have HB := Lib.hid hB
  clear hB hq
  have hc : ∀ x : Sub W.heap.size W, x.val.heap[q]? = some (.cells (pat h t m) 23 (0, 0)) := fun x => sub_heap g0 hqW x
  have c0 : ∀ x : Sub W.heap.size W, x.val.cell? ⟨q, 0, none⟩ = some (.int .i64 h) := fun x => by rw [cell_of_row x.val q 0 _ _ _ (hc x)]; rfl
  have c1 : ∀ x : Sub W.heap.size W, x.val.cell? ⟨q, 1, none⟩ = some (.int .i64 t) := fun x => by rw [cell_of_row x.val q 1 _ _ _ (hc x)]; rfl
  have c2 : ∀ x : Sub W.heap.size W, x.val.cell? ⟨q, 2, none⟩ = some (.string m) := fun x => by rw [cell_of_row x.val q 2 _ _ _ (hc x)]; rfl
  have hBW : W.heap.size ≤ W.heap.size := Nat.le_refl _
  clear g0 hc
  refine wp_region_mix (inSub W.heap.size W) [(0,true),(1,true),(3,true),(4,true),(7,true),(8,true),(2,false),(5,false),(6,true),(9,false),(10,true),(11,true)] (by kernel_rfl) (by kernel_rfl) (inSub_of (Below.refl _ _).drew) ?_
  have hb0 : Below W.heap.size W W.drew := (Below.refl _ _).drew
  generalize W.drew = w0 at hb0 ⊢
  simp only [List.filterMap_cons, List.filterMap_nil, List.getElem?_cons_zero, List.getElem?_cons_succ, Option.map_some]
  repeat ((with_reducible refine mix_read ?_ ?_); (· rfl); apply Exists.intro; refine ⟨fun w9 hw9 => ?_, ?_⟩; (· obtain ⟨x9, rfl⟩ := hw9; have d0 := c0 x9; have d1 := c1 x9; have d2 := c2 x9; go_simp; rfl); simp only [Act.put, List.setIfInBounds_toArray, List.set_cons_succ, List.set_cons_zero])
  with_reducible refine mix_step ?_ (fun K' hK => ?_)
  · rfl
  go_simp
  go_at_call 23
  refine (calls_in (K1.out _) hb0 hBW).mono ?_
  rintro e w1 ⟨rfl, hb1⟩
  refine hK _ _ (inSub_of hb1) ?_
  clear hK K'
  try simp only [Act.put, List.setIfInBounds_toArray, List.set_cons_succ, List.set_cons_zero]
  with_reducible refine mix_step ?_ (fun K' hK => ?_)
  · rfl
  go_simp
  go_at_call 23
  refine (calls_in (K2.out _) hb1 hBW).mono ?_
  rintro e w2 ⟨rfl, hb2⟩
  refine hK _ _ (inSub_of hb2) ?_
  clear hK K'
  try simp only [Act.put, List.setIfInBounds_toArray, List.set_cons_succ, List.set_cons_zero]
  repeat ((with_reducible refine mix_read ?_ ?_); (· rfl); apply Exists.intro; refine ⟨fun w9 hw9 => ?_, ?_⟩; (· go_simp; first | rfl | exact if_neg (by omega)); simp only [Act.put, List.setIfInBounds_toArray, List.set_cons_succ, List.set_cons_zero])
  with_reducible refine mix_step ?_ (fun K' hK => ?_)
  · rfl
  go_simp
  go_at_call 24
  refine (calls_in (K3.out _) hb2 hBW).mono ?_
  rintro e w3 ⟨rfl, hb3⟩
  refine hK _ _ (inSub_of hb3) ?_
  clear hK K'
  try simp only [Act.put, List.setIfInBounds_toArray, List.set_cons_succ, List.set_cons_zero]
  repeat ((with_reducible refine mix_read ?_ ?_); (· rfl); apply Exists.intro; refine ⟨fun w9 hw9 => ?_, ?_⟩; (· go_simp; first | rfl | exact if_neg (by omega)); simp only [Act.put, List.setIfInBounds_toArray, List.set_cons_succ, List.set_cons_zero])
  with_reducible refine mix_nil (NoPanic.normal ?_)
  go_wp2_with fail
  go_ret
  exact ⟨by rw [HR.out]; rfl, HB.out.trans (hb3.mono HB.out.size)⟩
theorem cell_pat0 {w : World} {q : Nat} {h t : Int} {m : ByteArray} (g : w.heap[q]? = some (.cells (pat h t m) 23 (0, 0))) : w.cell? ⟨q, 0, none⟩ = some (.int .i64 h) := by rw [cell_of_row w q 0 _ _ _ g]; rfl
theorem cell_pat1 {w : World} {q : Nat} {h t : Int} {m : ByteArray} (g : w.heap[q]? = some (.cells (pat h t m) 23 (0, 0))) : w.cell? ⟨q, 1, none⟩ = some (.int .i64 t) := by rw [cell_of_row w q 1 _ _ _ g]; rfl
theorem cell_pat2 {w : World} {q : Nat} {h t : Int} {m : ByteArray} (g : w.heap[q]? = some (.cells (pat h t m) 23 (0, 0))) : w.cell? ⟨q, 2, none⟩ = some (.string m) := by rw [cell_of_row w q 2 _ _ _ g]; rfl

set_option maxHeartbeats 4000000 in
theorem patchBytes_walk (h t : Int) (m s : ByteArray) (w : World) (hh : h ≤ 9223372036854775807) (ht : t ≤ 9223372036854775807) (hm : m.size ≤ 9223372036854775807) :
    Calls Try.prog 5 #[.agg (pat h t m), .string s] w fun e w' => e = .returned (.bool true) ∧ Below w.heap.size w w' := by
  go_enter Try.func5, Try.ntmps5
  go_upto_region 1 with fail
  have g0 := heap_alloc_top w (.cells (pat h t m) 23)
  have hB := pat_below w (.cells (pat h t m) 23)
  obtain ⟨q, hq⟩ : ∃ q, q = w.heap.size := ⟨_, rfl⟩
  rw [← hq] at g0 ⊢
  generalize w.alloc (.cells (pat h t m) 23) = W at g0 hB ⊢
  have c2 := cell_pat2 g0
  have G0 := Lib.hid g0; have HB := Lib.hid hB
  clear g0 hB hq
  by_cases h1 : (600 : Int) < m.size
  · go_wp2_with fail
    refine (awake_walk _).mono ?_
    rintro e w1 ⟨rfl, hb1⟩
    go_wp2_with fail
    go_ret
    exact ⟨rfl, HB.out.trans (hb1.mono HB.out.size)⟩
  by_cases h2 : (1000 : Int) < s.size
  · go_wp2_with fail
    refine (awake_walk _).mono ?_
    rintro e w1 ⟨rfl, hb1⟩
    go_wp2_with fail
    go_ret
    exact ⟨rfl, HB.out.trans (hb1.mono HB.out.size)⟩
  have hlneg := lay_neg h t m
  obtain ⟨u, c, huc⟩ : ∃ u c, lay (patF h t m) = (u, c) := ⟨_, _, rfl⟩
  have k1 := fun w => put_walk h t m w hh ht hm
  rw [huc] at k1 hlneg
  have K1 := Lib.hid k1; have HUC := Lib.hid huc; have HLN := Lib.hid hlneg
  clear k1 huc hlneg
  go_wp2_with (refine wpList_row 23 _ rfl q rfl rfl 23 (pat h t m) (0, 0) _ G0.out Try.underlying23 rfl info_pat ?_)
  refine (K1.out _).mono ?_
  rintro e w1 ⟨rfl, hb1⟩
  have g1 := (hb1.block q (lt_of_block G0.out)).trans G0.out
  have HB1 := Lib.hid (HB.out.trans (hb1.mono HB.out.size))
  clear hb1 c2 HB
  have c0 := cell_pat0 g1; have c1 := cell_pat1 g1
  have G1 := Lib.hid g1
  clear g1 G0
  go_upto_region 4 with fail
  go_cut [33] from 26 to 33 (fun v wx => v = .bool (decide (h < 0 ∨ t < 0)) ∧ wx = w1)
  case first =>
    by_cases hn : h < 0
    · go_wp2_with fail
      go_meet
      exact ⟨congrArg Value.bool (decide_eq_true (.inl hn)).symm, rfl⟩
    · by_cases hn2 : t < 0
      · go_wp2_with fail
        go_meet
        exact ⟨congrArg Value.bool (decide_eq_true (.inr hn2)).symm, rfl⟩
      · go_wp2_with fail
        go_meet
        exact ⟨congrArg Value.bool (decide_eq_false (by omega)).symm, rfl⟩
  case rest =>
  obtain ⟨rfl, hwc⟩ := hcut
  obtain rfl := hwc.symm
  obtain ⟨b, hb⟩ : ∃ b, b = decide (h < 0 ∨ t < 0) := ⟨_, rfl⟩
  rw [← hb]
  have HBB := Lib.hid hb
  clear hb c0 c1
  go_upto_if 33 with fail
  go_cut [7, 8] from 34 to 61 (fun _ _ wx => Below w.heap.size w wx)
  case first =>
    cases b with
    | true =>
      obtain ⟨rfl, rfl⟩ : u = ⟨#[]⟩ ∧ c = 3 := by
        have h := HLN.out (of_decide_eq_true HBB.out.symm)
        exact ⟨congrArg Prod.fst h, congrArg Prod.snd h⟩
      go_wp2_with fail
      go_meet
      exact HB1.out
    | false =>
      have hnn := of_decide_eq_false HBB.out.symm
      obtain ⟨a, rfl⟩ := Int.eq_ofNat_of_zero_le (show 0 ≤ h by omega)
      obtain ⟨b, rfl⟩ := Int.eq_ofNat_of_zero_le (show 0 ≤ t by omega)
      have ha : a ≤ 9223372036854775807 := by omega
      have hb : b ≤ 9223372036854775807 := by omega
      have hm6 : m.size ≤ 600 := by omega
      have hlb := lay_bytes a b m ha hb hm6
      have hgb := get_bytes a b m ha hb hm6
      obtain ⟨hu, rfl⟩ : u = ⟨(bytesL a b m).toArray⟩ ∧ c = 0 := by
        have h := HUC.out.symm.trans hlb
        exact ⟨congrArg Prod.fst h, congrArg Prod.snd h⟩
      have hsz : u.size ≤ 9223372036854775807 := by
        have h1 := lebN_nine a ha
        have h2 := lebN_nine b hb
        have h3 := lebN_nine m.size (by omega)
        rw [hu, size_mk]
        unfold bytesL
        simp only [List.length_append]
        rw [show m.data.toList.length = m.size from rfl]
        omega
      have k3 := fun w => bytes_walk a b m w ha hb (by omega)
      rw [← hu] at hgb k3
      have k2 := fun w => get_walk u w hsz
      rw [hgb] at k2
      have K2 := Lib.hid k2; have K3 := Lib.hid k3
      clear hu hnn hlb hgb hsz k2 k3 ha hb hm6 HLN HUC HBB K1
      have he := fun w => eq_pat a b m w
      go_wp2_with fail
      refine (K2.out _).mono ?_
      rintro e w2 ⟨rfl, hb2⟩
      have G2 := Lib.hid ((hb2.block q (lt_of_block G1.out)).trans G1.out)
      have HB2 := Lib.hid (HB1.out.trans (hb2.mono HB1.out.size))
      clear hb2 HB1 G1
      have ga := heap_alloc_top w2 (.cells #[.int .i64 0, .int .i64 0, .string ⟨#[]⟩] 23)
      have HGA := Lib.hid ga
      clear ga
      go_upto_region 8 with (refine wpList_store_row rfl 23 _ _ rfl w2.heap.size (pat a b m) rfl rfl 23 #[.int .i64 0, .int .i64 0, .string ⟨#[]⟩] HGA.out info_pat rfl (by simp [pat, Value.oneCell']) ?_)
      have gb := heap_setRow_same (cs := pat a b m) HGA.out
      have hb4 := below_setRow (HB2.out.alloc HB2.out.size (.cells #[.int .i64 0, .int .i64 0, .string ⟨#[]⟩] 23)) HB2.out.size (g := w2.heap.size) (pat a b m)
      have gq : ((w2.alloc (.cells #[.int .i64 0, .int .i64 0, .string ⟨#[]⟩] 23)).setRow w2.heap.size (pat a b m)).heap[q]? = some (.cells (pat a b m) 23 (0, 0)) := (heap_setRow_other _ _ _ _ (Nat.ne_of_lt (lt_of_block G2.out))).trans ((heap_alloc_lt _ _ _ (lt_of_block G2.out)).trans G2.out)
      obtain ⟨q5, hq5⟩ : ∃ q, q = w2.heap.size := ⟨_, rfl⟩
      rw [← hq5] at gb hb4 gq ⊢
      generalize (w2.alloc (.cells #[.int .i64 0, .int .i64 0, .string ⟨#[]⟩] 23)).setRow q5 (pat a b m) = w3 at gb hb4 gq ⊢
      have G3 := Lib.hid gq; have G4 := Lib.hid gb; have HB3 := Lib.hid hb4
      clear gb hb4 gq hq5 HGA G2 HB2
      go_wp2_with (first | (refine wpList_row 23 _ rfl q rfl rfl 23 (pat a b m) (0, 0) _ G3.out Try.underlying23 rfl info_pat ?_) | (refine wpList_row 23 _ rfl q5 rfl rfl 23 (pat a b m) (0, 0) _ G4.out Try.underlying23 rfl info_pat ?_))
      refine (K3.out _).mono ?_
      rintro e w4 ⟨rfl, hb4⟩
      have G5 := Lib.hid ((hb4.block q (lt_of_block G3.out)).trans G3.out)
      have G6 := Lib.hid ((hb4.block q5 (lt_of_block G4.out)).trans G4.out)
      have HB4 := Lib.hid (HB3.out.trans (hb4.mono HB3.out.size))
      clear hb4 HB3 G3 G4
      go_wp2_with (first | (refine wpList_row 23 _ rfl q rfl rfl 23 (pat a b m) (0, 0) _ G5.out Try.underlying23 rfl info_pat ?_) | (refine wpList_row 23 _ rfl q5 rfl rfl 23 (pat a b m) (0, 0) _ G6.out Try.underlying23 rfl info_pat ?_))
      go_meet
      exact HB4.out
  case rest =>
  have HC := Lib.hid hcut
  have hs1 : s.size ≤ 9223372036854775807 := by omega
  have hs2 : s.size ≤ 1000 := by omega
  have k2 := fun w => get_walk s w hs1
  have K2 := Lib.hid k2; have HS2 := Lib.hid hs2
  have hgood := get_good s
  obtain ⟨x, y, z, f, hxy⟩ : ∃ x y z f, getR s = (x, y, z, f) := ⟨_, _, _, _, rfl⟩
  rw [hxy] at hgood k2
  have K2 := Lib.hid k2; have HGD := Lib.hid hgood
  clear hcut hs1 hs2 k2 hgood hxy h1 h2 HLN HUC HBB K1 G1 HB1
  go_wp2_with fail
  refine (K2.out _).mono ?_
  rintro e w2 ⟨rfl, hb2⟩
  have HB2 := Lib.hid (HC.out.trans (hb2.mono HC.out.size))
  clear hb2 HC
  have ga := heap_alloc_top w2 (.cells #[.int .i64 0, .int .i64 0, .string ⟨#[]⟩] 23)
  have HGA := Lib.hid ga
  clear ga
  go_upto_region 11 with (refine wpList_store_row rfl 23 _ _ rfl w2.heap.size (pat x y z) rfl rfl 23 #[.int .i64 0, .int .i64 0, .string ⟨#[]⟩] HGA.out info_pat rfl (by simp [pat, Value.oneCell']) ?_)
  have gb := heap_setRow_same (cs := pat x y z) HGA.out
  have hb4 := below_setRow (HB2.out.alloc HB2.out.size (.cells #[.int .i64 0, .int .i64 0, .string ⟨#[]⟩] 23)) HB2.out.size (g := w2.heap.size) (pat x y z)
  obtain ⟨q5, hq5⟩ : ∃ q, q = w2.heap.size := ⟨_, rfl⟩
  rw [← hq5] at gb hb4 ⊢
  generalize (w2.alloc (.cells #[.int .i64 0, .int .i64 0, .string ⟨#[]⟩] 23)).setRow q5 (pat x y z) = w3 at gb hb4 ⊢
  have G3 := Lib.hid gb; have HB3 := Lib.hid hb4
  clear gb hb4 hq5 HGA HB2 K2
  go_wp2_with fail
  refine (awake_walk _).mono ?_
  rintro e w4 ⟨rfl, hb4⟩
  have g4 := (hb4.block q5 (lt_of_block G3.out)).trans G3.out
  have HB4 := Lib.hid (HB3.out.trans (hb4.mono HB3.out.size))
  have G4 := Lib.hid g4
  clear hb4 HB3 G3
  rcases HGD.out with ⟨n1, n2, m2, he, hn1, hn2, hm2, hs⟩ | he
  · obtain ⟨rfl, rfl, rfl, rfl⟩ : x = (n1 : Int) ∧ y = (n2 : Int) ∧ z = m2 ∧ f = 0 := by
      simpa using he
    have k3 := fun w => bytes_walk n1 n2 z w hn1 hn2 (by have := HS2.out; omega)
    rw [← hs] at k3
    have K3 := Lib.hid k3
    have c0 := cell_pat0 g4; have c1 := cell_pat1 g4
    have hp1 : (0 : Int) ≤ (n1 : Int) := by omega
    have hp2 : (0 : Int) ≤ (n2 : Int) := by omega
    clear k3 he hn1 hn2 hm2 hs g4 HGD
    go_wp2_with (refine wpList_row 23 _ rfl q5 rfl rfl 23 (pat n1 n2 z) (0, 0) _ G4.out Try.underlying23 rfl info_pat ?_)
    refine (K3.out _).mono ?_
    rintro e w5 ⟨rfl, hb5⟩
    go_wp2_with fail
    go_ret
    exact ⟨rfl, HB4.out.trans (hb5.mono HB4.out.size)⟩
  · obtain ⟨rfl, rfl, rfl, rfl⟩ : x = 0 ∧ y = 0 ∧ z = ⟨#[]⟩ ∧ f = 6 := by
      simpa using he
    have he2 : ∀ w, (Op.equalIn 10000 23 (.agg (pat 0 0 ⟨#[]⟩)) (.agg #[.int .i64 0, .int .i64 0, .string ⟨#[]⟩])).run Try.prog w = .ok true w := fun w => eq_pat 0 0 ⟨#[]⟩ w
    clear he g4 HGD
    go_wp2_with (refine wpList_row 23 _ rfl q5 rfl rfl 23 (pat 0 0 ⟨#[]⟩) (0, 0) _ G4.out Try.underlying23 rfl info_pat ?_)
    go_ret
    exact ⟨rfl, HB4.out⟩
end Go.Proofs.Ytmjpofceoohglaa
