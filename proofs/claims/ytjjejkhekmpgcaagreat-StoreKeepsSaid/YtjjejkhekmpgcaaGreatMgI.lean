/-
  Layer 5: how many sectors a half has; may, first, flush; prefixes; heads are laid.
  Layer 5: a head is read.
  Layer 5: a head is read, where there is one.
  Layer 5: the head that holds.
-/
import Derived.Test.YtjjejkhekmpgcaaGreatMgH
import Derived.Test.YtjjejkhekmpgcaaGreatMgE
import Derived.Test.YtjjejkhekmpgcaaGreatMgA
import Derived.Test.YtjjejkhekmpgcaaGreatMgD
import Derived.Laws.ResultCell
namespace Go.Proofs.YtjjejkhekmpgcaaGreat
set_option maxRecDepth 4000
open Go.RowKit

/-- how many sectors a half has -/
def sizeN (n : Nat) : Nat := (n - 2) / 2
theorem jsize_walk (p : Nat) (F : Nat → Prop) (st : Dk) (w : World) (h : Disk w p F st) (h2 : 2 ≤ st.S.length) :
    Calls Tryz.prog 73 #[.pointer (some ⟨p, 0, none⟩)] w fun e w' => e = .returned (.int .i64 (sizeN st.S.length : Nat)) ∧ w' = w := by
  have hn := h.ok.2.1
  have KL := Lib.hid (len_walk p F st w h)
  obtain ⟨n, hnn⟩ : ∃ n, n = st.S.length := ⟨_, rfl⟩
  rw [← hnn] at KL hn h2 ⊢
  have hz : ((n : Int) - 2) / 2 = (sizeN n : Nat) := by unfold sizeN; omega
  have HZ := Lib.hid hz
  clear h hnn hz
  go_enter Tryz.func73, Tryz.ntmps73
  go_wp2_with fail
  refine KL.out.mono ?_
  rintro r w1 ⟨rfl, rfl⟩
  go_wp2_with fail
  go_ret
  rw [HZ.out]
  exact ⟨rfl, rfl⟩

/-- whether a disk has enough sectors -/
def mayE (n : Nat) : Int := if n < 4 then 2 else 0
theorem may_walk (p : Nat) (F : Nat → Prop) (st : Dk) (w : World) (h : Disk w p F st) :
    Calls Tryz.prog 51 #[.pointer (some ⟨p, 0, none⟩)] w fun e w' => e = .returned (.int .i64 (mayE st.S.length)) ∧ w' = w := by
  have KL := Lib.hid (len_walk p F st w h)
  obtain ⟨n, hnn⟩ : ∃ n, n = st.S.length := ⟨_, rfl⟩
  rw [← hnn] at KL ⊢
  clear h hnn
  unfold mayE
  by_cases h4 : n < 4
  · rw [if_pos h4]
    have h4i : (n : Int) < 4 := by omega
    clear h4
    go_enter Tryz.func51, Tryz.ntmps51
    go_wp2_with fail
    refine KL.out.mono ?_
    rintro r w1 ⟨rfl, rfl⟩
    go_wp2_with fail
    go_ret
    exact ⟨rfl, rfl⟩
  · rw [if_neg h4]
    have h4i : ¬ (n : Int) < 4 := by omega
    clear h4
    go_enter Tryz.func51, Tryz.ntmps51
    go_wp2_with fail
    refine KL.out.mono ?_
    rintro r w1 ⟨rfl, rfl⟩
    go_wp2_with fail
    go_ret
    exact ⟨rfl, rfl⟩
theorem may_nil (w : World) : Calls Tryz.prog 51 #[.pointer none] w fun e w' => e = .returned (.int .i64 1) ∧ w' = w := by
  go_enter Tryz.func51, Tryz.ntmps51
  go_wp2_with fail
  go_ret
  exact ⟨rfl, rfl⟩

theorem first_walkJ (p : Nat) (F : Nat → Prop) (st : Dk) (half : Nat) (w : World) (h : Disk w p F st) (h2 : 2 ≤ st.S.length) (hh : half ≤ 1) :
    Calls Tryz.prog 82 #[.pointer (some ⟨p, 0, none⟩), .int .i64 half] w fun e w' => e = .returned (.int .i64 ((2 + half * sizeN st.S.length : Nat))) ∧ w' = w := by
  have hn := h.ok.2.1
  have KL := Lib.hid (jsize_walk p F st w h h2)
  have hsz : sizeN st.S.length ≤ 4096 := by unfold sizeN; omega
  obtain ⟨z, hz⟩ : ∃ z, z = sizeN st.S.length := ⟨_, rfl⟩
  rw [← hz] at KL hsz ⊢
  have hm : half * z ≤ 4096 := by
    have : half * z ≤ 1 * z := Nat.mul_le_mul_right _ hh
    omega
  have hmi : (half : Int) * (z : Int) = ((half * z : Nat) : Int) := by push_cast; rfl
  obtain ⟨m, hme⟩ : ∃ m, m = half * z := ⟨_, rfl⟩
  rw [← hme] at hm hmi ⊢
  have HM := Lib.hid hmi
  clear h hz hme hmi hsz
  go_enter Tryz.func82, Tryz.ntmps82
  go_wp2_with fail
  refine KL.out.mono ?_
  rintro r w1 ⟨rfl, rfl⟩
  have hmw : IntKind.i64.wrap (m : Int) = (m : Int) := IntWalk.i64_in _ (by omega)
  have hmw2 : wrap64 ((half : Int) * (z : Int)) = (m : Int) := by rw [HM.out]; exact IntWalk.wrap64_in _ ⟨by omega, by omega⟩
  go_wp2_with fail
  go_ret
  refine ⟨ret_int ?_, rfl⟩
  first
    | (rw [HM.out]; omega)
    | (rw [hmw2]; omega)
    | omega

/-- flushed behind writes -/
def flushJ (r : Int × Dk) : Int × Dk := if r.1 ≠ 0 then r else flushD r.2
theorem jflush_walk (p : Nat) (F : Nat → Prop) (st : Dk) (e : Int) (w : World) (h : Disk w p F st) (hlen : ∀ i, (pend st.S i).length ≤ 1000000000) :
    Calls Tryz.prog 62 #[.pointer (some ⟨p, 0, none⟩), .int .i64 e] w fun r w' => DiskPost p F w (.int .i64 (flushJ (e, st)).1) (flushJ (e, st)).2 r w' := by
  by_cases he : e = 0
  · subst he
    have hfl : flushJ (0, st) = flushD st := by unfold flushJ; rw [if_neg (by simp)]
    rw [hfl]
    have KF := Lib.hid (flush_walk p F st w h hlen)
    clear h hlen hfl
    go_enter Tryz.func62, Tryz.ntmps62
    go_wp2_with fail
    refine KF.out.mono ?_
    rintro r w1 ⟨rfl, F', hd, hs⟩
    go_wp2_with fail
    go_ret
    exact ⟨rfl, F', hd, hs⟩
  · have hfl : flushJ (e, st) = (e, st) := by unfold flushJ; rw [if_pos he]
    rw [hfl]
    have hz : (e == 0) = false := by rw [beq_eq_false_iff_ne]; exact he
    have HH := Lib.hid h
    clear h hlen hfl he
    go_enter Tryz.func62, Tryz.ntmps62
    go_wp2_with fail
    go_ret
    exact ⟨rfl, F, HH.out, Stp.refl _ _⟩

/-- whether a text begins with another -/
def preB (s t : ByteArray) : Bool := decide (t.size ≤ s.size) && ((s.extract 0 t.size).toList == t.toList)
theorem hasPre0_walk (s t : ByteArray) (w : World) :
    Calls Tryz.prog 76 #[.string s, .string t] w fun e w' => e = .returned (.bool (preB s t)) ∧ w' = w := by
  by_cases hle : t.size ≤ s.size
  · have hp : preB s t = ((s.extract 0 t.size).toList == t.toList) := by unfold preB; rw [decide_eq_true hle]; rfl
    have HP := Lib.hid hp
    have hlei : (t.size : Int) ≤ (s.size : Int) := by omega
    clear hp hle
    go_enter Tryz.func76, Tryz.ntmps76
    go_wp2_with fail
    go_ret
    rw [HP.out]
    exact ⟨rfl, rfl⟩
  · have hp : preB s t = false := by unfold preB; rw [decide_eq_false hle]; rfl
    have HP := Lib.hid hp
    have hlei : ¬ (t.size : Int) ≤ (s.size : Int) := by omega
    clear hp hle
    go_enter Tryz.func76, Tryz.ntmps76
    go_wp2_with fail
    go_ret
    rw [HP.out]
    exact ⟨rfl, rfl⟩
theorem hasPre_walk (s t : ByteArray) (w : World) :
    Calls Tryz.prog 49 #[.string s, .string t] w fun e w' => e = .returned (.bool (preB s t)) ∧ w' = w := by
  have KP := Lib.hid (hasPre0_walk s t w)
  go_enter Tryz.func49, Tryz.ntmps49
  go_wp2_with fail
  refine KP.out.mono ?_
  rintro r w1 ⟨rfl, rfl⟩
  go_wp2_with fail
  go_ret
  exact ⟨rfl, rfl⟩
/-- a prefix is cut off -/
def cutP (s t : ByteArray) : ByteArray := if preB s t = true then s.extract t.size s.size else s
theorem cutPre0_walk (s t : ByteArray) (w : World) :
    Calls Tryz.prog 123 #[.string s, .string t] w fun e w' => e = .returned (.tuple #[.string (cutP s t), .bool (preB s t)]) ∧ w' = w := by
  have KP := Lib.hid (hasPre0_walk s t w)
  cases hp : preB s t with
  | true =>
    have hle : (t.size : Int) ≤ (s.size : Int) := by
      unfold preB at hp
      simp only [Bool.and_eq_true, decide_eq_true_eq] at hp
      omega
    have hc : cutP s t = s.extract t.size s.size := by unfold cutP; rw [if_pos hp]
    rw [hc]
    rw [hp] at KP
    clear hp hc
    go_enter Tryz.func123, Tryz.ntmps123
    go_wp2_with fail
    refine KP.out.mono ?_
    rintro r w1 ⟨rfl, rfl⟩
    go_wp2_with fail
    go_ret2
    exact ⟨rfl, rfl⟩
  | false =>
    have hc : cutP s t = s := by unfold cutP; rw [hp]; rfl
    rw [hc]
    rw [hp] at KP
    clear hp hc
    go_enter Tryz.func123, Tryz.ntmps123
    go_wp2_with fail
    refine KP.out.mono ?_
    rintro r w1 ⟨rfl, rfl⟩
    go_wp2_with fail
    go_ret2
    exact ⟨rfl, rfl⟩
theorem cutPre_walk (s t : ByteArray) (w : World) :
    Calls Tryz.prog 108 #[.string s, .string t] w fun e w' => e = .returned (.tuple #[.string (cutP s t), .bool (preB s t)]) ∧ w' = w := by
  have KP := Lib.hid (cutPre0_walk s t w)
  go_enter Tryz.func108, Tryz.ntmps108
  go_wp2_with fail
  refine KP.out.mono ?_
  rintro r w1 ⟨rfl, rfl⟩
  go_wp2_with fail
  go_ret2
  exact ⟨rfl, rfl⟩

/-- what a head begins with -/
def magicL : List UInt8 := [76, 73, 71, 72, 84, 69, 82]
/-- a head's numbers behind it -/
def headL (q h u : Nat) : List UInt8 := magicL ++ (lebN q ++ (lebN h ++ lebN u))
/-- a head -/
def headB (q h u : Nat) : List UInt8 := headL q h u ++ fourOf (crcSum (headL q h u))
def hdF (q h u : Nat) : List Fld := [((q : Int), ⟨#[]⟩, false), ((h : Int), ⟨#[]⟩, false), ((u : Int), ⟨#[]⟩, false)]
theorem hdF_at {w : World} {b : Nat} {q h u : Nat} {ty : TypeId} (hb : w.heap[b]? = some (.cells #[.int .i64 q, .string ⟨#[]⟩, .bool false, .int .i64 h, .string ⟨#[]⟩, .bool false, .int .i64 u, .string ⟨#[]⟩, .bool false] ty (0, 0))) : fldsAt w (some ⟨b, 0, none⟩) (hdF q h u) := by
  refine .inr ⟨b, 0, rfl, lt_of_block hb, fun i hi j x hx => ?_⟩
  rw [cell_of_row w b (0 + i * 3 + j) _ _ _ hb]
  match i, hi with
  | 0, _ =>
    match j, hx with
    | 0, hx => exact hx
    | 1, hx => exact hx
    | 2, hx => exact hx
    | j + 3, hx => simp [hdF] at hx
  | 1, _ =>
    match j, hx with
    | 0, hx => exact hx
    | 1, hx => exact hx
    | 2, hx => exact hx
    | j + 3, hx => simp [hdF] at hx
  | 2, _ =>
    match j, hx with
    | 0, hx => exact hx
    | 1, hx => exact hx
    | 2, hx => exact hx
    | j + 3, hx => simp [hdF] at hx
  | i + 3, hi => exact absurd hi (by simp [hdF])
theorem putF_num (l : List UInt8) (n : Nat) (h : l.length ≤ 65536) : putF l (n : Int) ⟨#[]⟩ false = l ++ lebN n := by
  unfold putF
  rw [if_neg (by omega), if_neg (by simp), Int.toNat_natCast]
theorem lay_head (q h u : Nat) (hq : q ≤ 9223372036854775807) (hh : h ≤ 9223372036854775807) (hu : u ≤ 9223372036854775807) : lay (hdF q h u) = (⟨(lebN q ++ (lebN h ++ lebN u)).toArray⟩, 0) := by
  have n1 := lebN_nine q hq
  have n2 := lebN_nine h hh
  have n3 := lebN_nine u hu
  have hb : (hdF q h u).any badF = false := by
    simp only [hdF, List.any_cons, List.any_nil, badF, Bool.not_false, Bool.true_and, Bool.or_false]
    rw [decide_eq_false (by omega), decide_eq_false (by omega), decide_eq_false (by omega)]
    rfl
  have hl : layB (hdF q h u) = lebN q ++ (lebN h ++ lebN u) := by
    show putF (putF (putF [] (q : Int) ⟨#[]⟩ false) (h : Int) ⟨#[]⟩ false) (u : Int) ⟨#[]⟩ false = _
    rw [putF_num [] q (by simp), List.nil_append, putF_num (lebN q) h (by omega), putF_num _ u (by rw [List.length_append]; omega), List.append_assoc]
  unfold lay
  rw [if_neg (by rw [hb]; simp), hl, if_neg (by rw [List.length_append, List.length_append]; omega)]
theorem headB_length (q h u : Nat) (hq : q ≤ 9223372036854775807) (hh : h ≤ 9223372036854775807) (hu : u ≤ 9223372036854775807) : (headL q h u).length ≤ 34 ∧ (headB q h u).length = (headL q h u).length + 4 := by
  have n1 := lebN_nine q hq
  have n2 := lebN_nine h hh
  have n3 := lebN_nine u hu
  have hm : magicL.length = 7 := rfl
  refine ⟨?_, ?_⟩
  · unfold headL
    rw [List.length_append, List.length_append, List.length_append]
    omega
  · unfold headB
    rw [List.length_append, fourOf_length]

set_option maxHeartbeats 4000000 in
theorem hlay_walk (q h u : Nat) (w : World) (hq : q ≤ 9223372036854775807) (hh : h ≤ 9223372036854775807) (hu : u ≤ 9223372036854775807) :
    Calls Tryz.prog 63 #[.agg #[.int .i64 q, .int .i64 h, .int .i64 u]] w fun e w' => e = .returned (.string ⟨(headB q h u).toArray⟩) ∧ Below w.heap.size w w' := by
  have hlay := lay_head q h u hq hh hu
  obtain ⟨t, ht⟩ : ∃ t : ByteArray, t = ⟨(lebN q ++ (lebN h ++ lebN u)).toArray⟩ := ⟨_, rfl⟩
  rw [← ht] at hlay
  have hts : t.size ≤ 27 := by
    have n1 := lebN_nine q hq
    have n2 := lebN_nine h hh
    have n3 := lebN_nine u hu
    rw [ht, bytes_len, List.length_append, List.length_append]
    omega
  have hmt : (⟨#[76, 73, 71, 72, 84, 69, 82]⟩ : ByteArray) ++ t = ⟨(headL q h u).toArray⟩ := by rw [ht]; exact str_add magicL _
  have HLAY := Lib.hid hlay; have HMT := Lib.hid hmt
  have hqi : (q : Int) ≤ 9223372036854775807 := by omega
  have hhi : (h : Int) ≤ 9223372036854775807 := by omega
  have hui : (u : Int) ≤ 9223372036854775807 := by omega
  have hl34 := (headB_length q h u hq hh hu).1
  have HL34 := Lib.hid hl34
  have HQ := Lib.hid hqi; have HHI := Lib.hid hhi; have HU := Lib.hid hui
  clear hlay ht hmt hq hh hu hqi hhi hui hl34
  go_enter Tryz.func63, Tryz.ntmps63
  go_upto_region 1 with fail
  have g0 := heap_alloc_top w (.cells #[.int .i64 q, .int .i64 h, .int .i64 u] 92)
  have hB := (Below.refl w.heap.size w).alloc (Nat.le_refl _) (.cells #[.int .i64 q, .int .i64 h, .int .i64 u] 92)
  obtain ⟨b, hb⟩ : ∃ b, b = w.heap.size := ⟨_, rfl⟩
  rw [← hb] at g0 ⊢
  generalize w.alloc (.cells #[.int .i64 q, .int .i64 h, .int .i64 u] 92) = W at g0 hB ⊢
  have hqW := lt_of_block g0
  have HB := Lib.hid hB
  clear hB hb
  have hc : ∀ x : Sub W.heap.size W, x.val.heap[b]? = some (.cells #[.int .i64 q, .int .i64 h, .int .i64 u] 92 (0, 0)) := fun x => sub_heap g0 hqW x
  have c0 : ∀ x : Sub W.heap.size W, x.val.cell? ⟨b, 0, none⟩ = some (.int .i64 q) := fun x => by rw [cell_of_row x.val b 0 _ _ _ (hc x)]; rfl
  have c1 : ∀ x : Sub W.heap.size W, x.val.cell? ⟨b, 1, none⟩ = some (.int .i64 h) := fun x => by rw [cell_of_row x.val b 1 _ _ _ (hc x)]; rfl
  have c2 : ∀ x : Sub W.heap.size W, x.val.cell? ⟨b, 2, none⟩ = some (.int .i64 u) := fun x => by rw [cell_of_row x.val b 2 _ _ _ (hc x)]; rfl
  have hBW : W.heap.size ≤ W.heap.size := Nat.le_refl _
  clear g0 hc
  refine wp_region_mix (inSub W.heap.size W) [(0,true),(1,true),(3,true),(4,true),(6,true),(7,true),(2,false),(5,false),(8,false),(9,false),(10,false),(11,true),(12,true),(13,true),(14,true),(15,true)] (by kernel_rfl) (by kernel_rfl) (inSub_of (Below.refl _ _).drew) ?_
  have hb0 : Below W.heap.size W W.drew := (Below.refl _ _).drew
  generalize W.drew = w0 at hb0 ⊢
  simp only [List.filterMap_cons, List.filterMap_nil, List.getElem?_cons_zero, List.getElem?_cons_succ, Option.map_some]
  repeat (refine mix_read (by rfl) ?_; apply Exists.intro; refine ⟨fun w9 hw9 => ?_, ?_⟩; (· obtain ⟨x9, rfl⟩ := hw9; have d0 := c0 x9; have d1 := c1 x9; have d2 := c2 x9; go_simp; rfl); simp only [Act.put, List.setIfInBounds_toArray, List.set_cons_succ, List.set_cons_zero])
  refine mix_step (by rfl) (fun K' hK => ?_)
  go_simp
  go_at_call 72
  refine (calls_in (n_walk q _) hb0 hBW).mono ?_
  rintro e w1 ⟨rfl, hb1⟩
  refine hK _ _ (inSub_of hb1) ?_
  clear hK K'
  try simp only [Act.put, List.setIfInBounds_toArray, List.set_cons_succ, List.set_cons_zero]
  refine mix_step (by rfl) (fun K' hK => ?_)
  go_simp
  go_at_call 72
  refine (calls_in (n_walk h _) hb1 hBW).mono ?_
  rintro e w2 ⟨rfl, hb2⟩
  refine hK _ _ (inSub_of hb2) ?_
  clear hK K'
  try simp only [Act.put, List.setIfInBounds_toArray, List.set_cons_succ, List.set_cons_zero]
  refine mix_step (by rfl) (fun K' hK => ?_)
  go_simp
  go_at_call 72
  refine (calls_in (n_walk u _) hb2 hBW).mono ?_
  rintro e w3 ⟨rfl, hb3⟩
  refine hK _ _ (inSub_of hb3) ?_
  clear hK K'
  try simp only [Act.put, List.setIfInBounds_toArray, List.set_cons_succ, List.set_cons_zero]
  refine mix_step (by rfl) (fun K' hK => ?_)
  unfold fld
  go_simp
  have g4 := heap_alloc_top w3 (.cells #[.int .i64 q, .string ⟨#[]⟩, .bool false, .int .i64 h, .string ⟨#[]⟩, .bool false, .int .i64 u, .string ⟨#[]⟩, .bool false] 116)
  have hb4 := hb3.alloc hb3.size (.cells #[.int .i64 q, .string ⟨#[]⟩, .bool false, .int .i64 h, .string ⟨#[]⟩, .bool false, .int .i64 u, .string ⟨#[]⟩, .bool false] 116)
  refine hK _ _ (inSub_of hb4) ?_
  clear hK K'
  try simp only [Act.put, List.setIfInBounds_toArray, List.set_cons_succ, List.set_cons_zero]
  have hat := hdF_at g4
  generalize w3.alloc (.cells #[.int .i64 q, .string ⟨#[]⟩, .bool false, .int .i64 h, .string ⟨#[]⟩, .bool false, .int .i64 u, .string ⟨#[]⟩, .bool false] 116) = w4 at hat hb4 ⊢
  clear g4
  refine mix_step (by rfl) (fun K' hK => ?_)
  go_simp
  go_at_call 71
  refine (calls_in (lay_walk (some ⟨w3.heap.size, 0, none⟩) 3 (hdF q h u) _ hat (by simp [hdF]) (by
    intro f hf
    simp only [hdF, List.mem_cons, List.not_mem_nil, or_false] at hf
    rcases hf with rfl | rfl | rfl
    · exact ⟨HQ.out, Nat.zero_le _⟩
    · exact ⟨HHI.out, Nat.zero_le _⟩
    · exact ⟨HU.out, Nat.zero_le _⟩)) hb4 hBW).mono ?_
  rw [HLAY.out]
  rintro e w5 ⟨rfl, hb5⟩
  refine hK _ _ (inSub_of hb5) ?_
  clear hK K' hat
  try simp only [Act.put, List.setIfInBounds_toArray, List.set_cons_succ, List.set_cons_zero]
  repeat (refine mix_read (by rfl) ?_; apply Exists.intro; refine ⟨fun w9 hw9 => ?_, ?_⟩; (· go_simp; rfl); simp only [Act.put, List.setIfInBounds_toArray, List.set_cons_succ, List.set_cons_zero])
  refine mix_nil (NoPanic.normal ?_)
  have HB5 := Lib.hid (HB.out.trans (hb5.mono HB.out.size))
  clear hb5 hb4 hb3 hb2 hb1 hb0 hBW c0 c1 c2
  have hs7 : (7 : Int) + (t.size : Int) ≤ 9223372036854775807 := by omega
  go_wp2_with fail
  rw [HMT.out]
  refine (four_walk ⟨(headL q h u).toArray⟩ _ (by rw [bytes_len]; have := HL34.out; omega)).mono ?_
  rintro r w6 ⟨rfl, hb6⟩
  have HB6 := Lib.hid (HB5.out.trans (hb6.mono HB5.out.size))
  have hdl : (⟨(headL q h u).toArray⟩ : ByteArray).data.toList = headL q h u := bytes_of _
  rw [hdl]
  obtain ⟨f, hf⟩ : ∃ f : ByteArray, f = ⟨(fourOf (crcSum (headL q h u))).toArray⟩ := ⟨_, rfl⟩
  have hfs : f.size = 4 := by rw [hf]; exact bytes_len _
  rw [← hf]
  have hsum : (headL q h u).length + f.size ≤ 9223372036854775807 := by have := HL34.out; omega
  have hfin : (⟨(headL q h u).toArray⟩ : ByteArray) ++ f = ⟨(headB q h u).toArray⟩ := by rw [hf]; exact str_add _ _
  have HFIN := Lib.hid hfin
  clear hb6 hf hfs HL34 HB5 hdl hfin
  go_wp2_with fail
  go_ret
  rw [HFIN.out]
  exact ⟨rfl, HB6.out⟩
end Go.Proofs.YtjjejkhekmpgcaaGreat

namespace Go.Proofs.YtjjejkhekmpgcaaGreat
set_option maxRecDepth 4000
open Go.RowKit

theorem results_cell_2 {P : Program} {fn : Func} {p u : Tmp} {ty : TypeId} (h : fn.results = #[.cell p ty, .tmp u]) (tmps : Array Value) (w : World) (g : Nat) (t : TypeId) (cs : Array Value) (fr : Nat × Nat) (d : TypeDesc)
    (hp : tmps.getD p undef = .pointer (some ⟨g, 0, none⟩)) (hg : w.heap[g]? = some (.cells cs t fr))
    (hu : P.underlying ty = some d) (hd : (match d with | .struct _ | .array _ _ => true | _ => false) = true) (hi : (P.info? ty).map (·.size) = some cs.size) :
    (results fn tmps).run P w = .ok (.tuple #[.agg cs, tmps.getD u undef]) w := by
  have hp' : tmps[p]?.getD undef = .pointer (some ⟨g, 0, none⟩) := by simpa using hp
  simp [results, h, hp', asAddr, Sem.run_bind, Result.andThen, run_loadVar_row w g t ty cs fr d hg hu hd hi]
theorem results_cell_3 {P : Program} {fn : Func} {p u v : Tmp} {ty : TypeId} (h : fn.results = #[.cell p ty, .tmp u, .tmp v]) (tmps : Array Value) (w : World) (g : Nat) (t : TypeId) (cs : Array Value) (fr : Nat × Nat) (d : TypeDesc)
    (hp : tmps.getD p undef = .pointer (some ⟨g, 0, none⟩)) (hg : w.heap[g]? = some (.cells cs t fr))
    (hu : P.underlying ty = some d) (hd : (match d with | .struct _ | .array _ _ => true | _ => false) = true) (hi : (P.info? ty).map (·.size) = some cs.size) :
    (results fn tmps).run P w = .ok (.tuple #[.agg cs, tmps.getD u undef, tmps.getD v undef]) w := by
  have hp' : tmps[p]?.getD undef = .pointer (some ⟨g, 0, none⟩) := by simpa using hp
  simp [results, h, hp', asAddr, Sem.run_bind, Result.andThen, run_loadVar_row w g t ty cs fr d hg hu hd hi]

theorem heads_set {w : World} {x : Nat} {a b c : Value} {ty : TypeId} (h : w.heap[x]? = some (.cells #[a, b, c] ty (0, 0))) (a' b' c' : Value) :
    (((w.setCell ⟨x, 0, none⟩ a').setCell ⟨x, 1, none⟩ b').setCell ⟨x, 2, none⟩ c').heap[x]? = some (.cells #[a', b', c'] ty (0, 0)) ∧
      Touch (fun k => k = x) w (((w.setCell ⟨x, 0, none⟩ a').setCell ⟨x, 1, none⟩ b').setCell ⟨x, 2, none⟩ c') :=
  ⟨set_at (set_at (set_at h a') b') c', (((Touch.refl (fun k => k = x) w).setCell (F := fun k => k = x) rfl _).setCell rfl _).setCell rfl _⟩
theorem beq_no {e : Int} (h : e ≠ 0) : (e == 0) = false := by rw [beq_eq_false_iff_ne]; exact h
theorem info_head : (Tryz.prog.info? 92).map (·.size) = some 3 := by kernel_rfl
/-- three numbers are read -/
def n1 (t : ByteArray) : Nat × ByteArray × Int := numR t 0
def n2 (t : ByteArray) : Nat × ByteArray × Int := numR (n1 t).2.1 (n1 t).2.2
def n3 (t : ByteArray) : Nat × ByteArray × Int := numR (n2 t).2.1 (n2 t).2.2
theorem numR_err (s : ByteArray) (e : Int) (h : e ≠ 0) : numR s e = (0, s, e) := by unfold numR; rw [if_pos h]
theorem numR_ok (s : ByteArray) (e : Int) (h : (numR s e).2.2 = 0) : e = 0 ∧ (numR s e).1 ≤ 9223372036854775807 := by
  by_cases he : e = 0
  · subst he
    exact ⟨rfl, (num_one s h).2⟩
  · rw [numR_err s e he] at h
    exact absurd h he
theorem n3_ok (t : ByteArray) (h : (n3 t).2.2 = 0) : (n1 t).2.2 = 0 ∧ (n2 t).2.2 = 0 ∧ (n1 t).1 ≤ 9223372036854775807 ∧ (n2 t).1 ≤ 9223372036854775807 ∧ (n3 t).1 ≤ 9223372036854775807 := by
  obtain ⟨h2, h3⟩ := numR_ok _ _ h
  obtain ⟨h1, h4⟩ := numR_ok _ _ h2
  exact ⟨h1, h2, (numR_ok _ _ h1).2, h4, h3⟩
def magicB : ByteArray := ⟨#[76, 73, 71, 72, 84, 69, 82]⟩
/-- whether a text is a head that is right -/
def hdR (s : ByteArray) (z : Nat) : Bool :=
  (decide ((n3 (cutP s magicB)).2.2 = 0) && decide ((n2 (cutP s magicB)).1 ≤ 1) && decide ((n3 (cutP s magicB)).1 ≤ z * 64)) &&
    preB s ⟨(headB (n1 (cutP s magicB)).1 (n2 (cutP s magicB)).1 (n3 (cutP s magicB)).1).toArray⟩
def hdv (q h u : Nat) : Array Value := #[.int .i64 q, .int .i64 h, .int .i64 u]
/-- what read answers -/
def readH (st : Dk) (at' : Int) : (Nat × Nat × Nat) × Bool × Int :=
  if (readD st at').2 ≠ 0 ∨ preB (readD st at').1 magicB = false then ((0, 0, 0), false, (readD st at').2)
  else (((n1 (cutP (readD st at').1 magicB)).1, (n2 (cutP (readD st at').1 magicB)).1, (n3 (cutP (readD st at').1 magicB)).1), hdR (readD st at').1 (sizeN st.S.length), 0)
/-- what it leaves -/
def HeadPost (w : World) (r : (Nat × Nat × Nat) × Bool × Int) (e : Ending) (w' : World) : Prop :=
  e = .returned (.tuple #[.agg (hdv r.1.1 r.1.2.1 r.1.2.2), .bool r.2.1, .int .i64 r.2.2]) ∧ Below w.heap.size w w'

set_option maxHeartbeats 4000000 in
theorem jread_none (p : Nat) (F : Nat → Prop) (st : Dk) (at' : Int) (w : World) (h : Disk w p F st) (hn : (readD st at').2 ≠ 0 ∨ preB (readD st at').1 magicB = false) :
    Calls Tryz.prog 80 #[.pointer (some ⟨p, 0, none⟩), .int .i64 at'] w fun r w' => HeadPost w ((0, 0, 0), false, (readD st at').2) r w' := by
  obtain ⟨W, hW⟩ : ∃ W, W = w.alloc (.cells #[.int .i64 0, .int .i64 0, .int .i64 0] 92) := ⟨_, rfl⟩
  obtain ⟨x, hx⟩ : ∃ x, x = w.heap.size := ⟨_, rfl⟩
  have hb1 : Below w.heap.size w W := by rw [hW]; exact (Below.refl w.heap.size w).alloc (Nat.le_refl _) _
  have g1 : W.heap[x]? = some (.cells #[.int .i64 0, .int .i64 0, .int .i64 0] 92 (0, 0)) := by rw [hW, hx]; exact heap_alloc_top _ _
  have KR := Lib.hid (read_walk p F st at' W (h.below hb1))
  obtain ⟨s, e, hse⟩ : ∃ s e, readD st at' = (s, e) := ⟨_, _, rfl⟩
  rw [hse] at KR hn
  rw [hse]
  have KC := fun w => Lib.hid (cutPre_walk s magicB w)
  replace hn : e ≠ 0 ∨ preB s magicB = false := hn
  obtain ⟨t, ht⟩ : ∃ t, t = cutP s magicB := ⟨_, rfl⟩
  obtain ⟨b, hb⟩ : ∃ b, b = preB s magicB := ⟨_, rfl⟩
  rw [← ht, ← hb] at KC
  rw [← hb] at hn
  unfold magicB at KC
  have HW := Lib.hid hW; have HX := Lib.hid hx; have HB1 := Lib.hid hb1; have G1 := Lib.hid g1
  clear h hW hx hb1 g1 hse ht hb
  have hcase : e ≠ 0 ∨ (e = 0 ∧ b = false) := by
    by_cases he : e = 0
    · exact .inr ⟨he, hn.resolve_left (fun h => h he)⟩
    · exact .inl he
  clear hn
  rcases hcase with he | ⟨he, hb⟩
  · have hz := beq_no he
    go_enter Tryz.func80, Tryz.ntmps80
    go_upto_region 1 with fail
    refine wp_world HW.out ?_
    rw [← HX.out]
    go_wp2_with fail
    refine KR.out.mono ?_
    rintro r w1 ⟨rfl, hb2⟩
    have g2 := (hb2.block x (lt_of_block G1.out)).trans G1.out
    have HB2 := Lib.hid (HB1.out.trans (hb2.mono HB1.out.size))
    have G2 := Lib.hid g2
    clear g2 hb2
    go_wp2_with fail
    refine (KC w1).out.mono ?_
    rintro r w2 ⟨rfl, rfl⟩
    have c0 := cell_at (j := 0) (v := .int .i64 0) G2.out rfl
    have c1 := cell_at (j := 1) (v := .int .i64 0) G2.out rfl
    have c2 := cell_at (j := 2) (v := .int .i64 0) G2.out rfl
    have f0 := free_at G2.out 0
    have f1 := free_at G2.out 1
    have f2 := free_at G2.out 2
    go_wp2_with fail
    obtain ⟨hblk, htch⟩ := heads_set G2.out (.int .i64 0) (.int .i64 0) (.int .i64 0)
    try simp only [Exit.inBlock, Exit.then]
    refine bodyPost_ret (results_cell_3 rfl _ _ x 92 #[.int .i64 0, .int .i64 0, .int .i64 0] (0, 0) _ rfl hblk Tryz.underlying92 rfl info_head) rfl ?_
    exact ⟨rfl, htch.below HB2.out HB2.out.size (fun k hk => by rw [hk, HX.out]; exact Nat.le_refl _)⟩
  · obtain ⟨rfl, rfl⟩ := And.intro he hb
    go_enter Tryz.func80, Tryz.ntmps80
    go_upto_region 1 with fail
    refine wp_world HW.out ?_
    rw [← HX.out]
    go_wp2_with fail
    refine KR.out.mono ?_
    rintro r w1 ⟨rfl, hb2⟩
    have g2 := (hb2.block x (lt_of_block G1.out)).trans G1.out
    have HB2 := Lib.hid (HB1.out.trans (hb2.mono HB1.out.size))
    have G2 := Lib.hid g2
    clear g2 hb2
    go_wp2_with fail
    refine (KC w1).out.mono ?_
    rintro r w2 ⟨rfl, rfl⟩
    have c0 := cell_at (j := 0) (v := .int .i64 0) G2.out rfl
    have c1 := cell_at (j := 1) (v := .int .i64 0) G2.out rfl
    have c2 := cell_at (j := 2) (v := .int .i64 0) G2.out rfl
    have f0 := free_at G2.out 0
    have f1 := free_at G2.out 1
    have f2 := free_at G2.out 2
    go_wp2_with fail
    obtain ⟨hblk, htch⟩ := heads_set G2.out (.int .i64 0) (.int .i64 0) (.int .i64 0)
    try simp only [Exit.inBlock, Exit.then]
    refine bodyPost_ret (results_cell_3 rfl _ _ x 92 #[.int .i64 0, .int .i64 0, .int .i64 0] (0, 0) _ rfl hblk Tryz.underlying92 rfl info_head) rfl ?_
    exact ⟨rfl, htch.below HB2.out HB2.out.size (fun k hk => by rw [hk, HX.out]; exact Nat.le_refl _)⟩
end Go.Proofs.YtjjejkhekmpgcaaGreat

namespace Go.Proofs.YtjjejkhekmpgcaaGreat
set_option maxRecDepth 4000
open Go.RowKit

theorem calls_same {P : Program} {f : FuncId} {args : Array Value} {w : World} {v : Value} (h : Calls P f args w fun e w' => e = .returned v ∧ w' = w) : Calls P f args w fun e w' => e = .returned v ∧ Below w.heap.size w w' :=
  h.mono fun _ _ ⟨h1, h2⟩ => ⟨h1, by rw [h2]; exact Below.refl _ _⟩
theorem jn_e {e : Int} (h : e ≠ 0) (x y z : Bool) : (decide (e = 0) && x && y && z) = false := by simp [h]
theorem jn_b {b : Nat} (h : ¬ (b : Int) ≤ 1) (x y z : Bool) : (x && decide (b ≤ 1) && y && z) = false := by
  have : ¬ b ≤ 1 := by omega
  simp [this]
theorem jn_c {c z : Nat} (h : ¬ (c : Int) ≤ (z : Int) * 64) (x y u : Bool) : (x && y && decide (c ≤ z * 64) && u) = false := by
  have : ¬ c ≤ z * 64 := by omega
  simp [this]
theorem jn_t {b c z : Nat} (h : (b : Int) ≤ 1) (h2 : (c : Int) ≤ (z : Int) * 64) (u : Bool) : (decide ((0 : Int) = 0) && decide (b ≤ 1) && decide (c ≤ z * 64) && u) = u := by
  have h3 : b ≤ 1 := by omega
  have h4 : c ≤ z * 64 := by omega
  simp [h3, h4]
set_option maxHeartbeats 4000000 in
theorem jread_some (p : Nat) (F : Nat → Prop) (st : Dk) (at' : Int) (w : World) (h : Disk w p F st) (h2 : 2 ≤ st.S.length) (s : ByteArray) (hrd : readD st at' = (s, 0)) (hpre : preB s magicB = true) :
    Calls Tryz.prog 80 #[.pointer (some ⟨p, 0, none⟩), .int .i64 at'] w fun r w' => HeadPost w (((n1 (cutP s magicB)).1, (n2 (cutP s magicB)).1, (n3 (cutP s magicB)).1), hdR s (sizeN st.S.length), 0) r w' := by
  obtain ⟨W, hW⟩ : ∃ W, W = w.alloc (.cells #[.int .i64 0, .int .i64 0, .int .i64 0] 92) := ⟨_, rfl⟩
  obtain ⟨x, hx⟩ : ∃ x, x = w.heap.size := ⟨_, rfl⟩
  have hb1 : Below w.heap.size w W := by rw [hW]; exact (Below.refl w.heap.size w).alloc (Nat.le_refl _) _
  have g1 : W.heap[x]? = some (.cells #[.int .i64 0, .int .i64 0, .int .i64 0] 92 (0, 0)) := by rw [hW, hx]; exact heap_alloc_top _ _
  have hd1 := h.below hb1
  have KR := Lib.hid (read_walk p F st at' W hd1)
  rw [hrd] at KR
  have KC := fun w => Lib.hid (cutPre_walk s magicB w)
  obtain ⟨t, ht⟩ : ∃ t, t = cutP s magicB := ⟨_, rfl⟩
  have hz4 := h.ok.2.1
  have hsz : sizeN st.S.length ≤ 4096 := by unfold sizeN; omega
  have KS := fun w' (hd : Disk w' p F st) => Lib.hid (jsize_walk p F st w' hd h2)
  obtain ⟨z, hz⟩ : ∃ z, z = sizeN st.S.length := ⟨_, rfl⟩
  rw [← hz] at hsz KS ⊢
  obtain ⟨hr, hhr⟩ : ∃ hr, hr = hdR s z := ⟨_, rfl⟩
  have hhr2 := hhr
  unfold hdR at hhr2
  rw [← ht] at hhr2 ⊢
  rw [← hhr]
  rw [← ht, hpre] at KC
  unfold magicB at KC
  have hok := n3_ok t
  unfold n3 n2 n1 at hok hhr2 ⊢
  obtain ⟨a, s1, e1, hn1⟩ : ∃ a s1 e1, numR t 0 = (a, s1, e1) := ⟨_, _, _, rfl⟩
  rw [hn1] at hok hhr2 ⊢
  obtain ⟨b, s2, e2, hn2⟩ : ∃ b s2 e2, numR s1 e1 = (b, s2, e2) := ⟨_, _, _, rfl⟩
  simp only [hn2] at hok hhr2 ⊢
  obtain ⟨c, s3, e3, hn3⟩ : ∃ c s3 e3, numR s2 e2 = (c, s3, e3) := ⟨_, _, _, rfl⟩
  simp only [hn3] at hok hhr2 ⊢
  have HW := Lib.hid hW; have HX := Lib.hid hx; have HB1 := Lib.hid hb1; have G1 := Lib.hid g1; have HN1 := Lib.hid hn1; have HN2 := Lib.hid hn2; have HN3 := Lib.hid hn3; have HOK := Lib.hid hok; have HHR := Lib.hid hhr2; have HD1 := Lib.hid hd1
  have HSZ := Lib.hid hsz
  clear h hW hx hb1 g1 hrd ht hz hhr hhr2 hpre hok hn1 hn2 hn3 hd1 hz4 hsz
  go_enter Tryz.func80, Tryz.ntmps80
  go_upto_region 1 with fail
  refine wp_world HW.out ?_
  rw [← HX.out]
  go_wp2_with fail
  refine KR.out.mono ?_
  rintro r w1 ⟨rfl, hb2⟩
  have g2 := (hb2.block x (lt_of_block G1.out)).trans G1.out
  have HB2 := Lib.hid (HB1.out.trans (hb2.mono HB1.out.size))
  have G2 := Lib.hid g2
  have HD2 := Lib.hid (HD1.out.below hb2)
  clear g2 hb2 G1 HB1 HD1 KR
  go_wp2_with fail
  refine (KC w1).out.mono ?_
  rintro r w2 ⟨rfl, rfl⟩
  go_wp2_with fail
  refine (over_walk t _).mono ?_
  rintro r w3 ⟨rfl, hb3, hin3⟩
  obtain ⟨y, hy⟩ : ∃ y, y = w2.heap.size := ⟨_, rfl⟩
  rw [← hy] at hin3 ⊢
  have g3 := (hb3.block x (lt_of_block G2.out)).trans G2.out
  have hxy : x < y := by rw [hy]; exact lt_of_block G2.out
  have hwy : w.heap.size ≤ y := by rw [hy]; exact HB2.out.size
  have HB3 := Lib.hid (HB2.out.trans (hb3.mono HB2.out.size))
  have G3 := Lib.hid g3; have HI3 := Lib.hid hin3; have HD3 := Lib.hid (HD2.out.below hb3); have HXY := Lib.hid (And.intro hxy hwy)
  have HPY := Lib.hid (show ∀ k, F k → k ≠ y from fun k hk e => by have := HD2.out.lt k hk; omega)
  clear g3 hb3 hin3 G2 HB2 HD2 hy hxy hwy
  go_upto_region 7 with (first
    | (go_at_call 67; refine (num_walk y t 0 w3 HI3.out).mono ?_; rw [HN1.out]; rintro r w4 ⟨rfl, hg4, hi4⟩; have HG4 := Lib.hid hg4; have HI4 := Lib.hid hi4; clear hg4 hi4)
    | (go_at_call 67; refine (num_walk y s1 e1 w4 HI4.out).mono ?_; rw [HN2.out]; rintro r w5 ⟨rfl, hg5, hi5⟩; have HG5 := Lib.hid hg5; have HI5 := Lib.hid hi5; clear hg5 hi5)
    | (go_at_call 67; refine (num_walk y s2 e2 w5 HI5.out).mono ?_; rw [HN3.out]; rintro r w6 ⟨rfl, hg6, hi6⟩; have HG6 := Lib.hid hg6; have HI6 := Lib.hid hi6; clear hg6 hi6))
  obtain ⟨v, hv⟩ : ∃ v, v = w6.heap.size := ⟨_, rfl⟩
  have ht6 : Touch (fun k => k = y) w3 w6 := (Touch.ofGrown HG4.out (fun k e => (Option.some.inj e).symm)).trans ((Touch.ofGrown HG5.out (fun k e => (Option.some.inj e).symm)).trans (Touch.ofGrown HG6.out (fun k e => (Option.some.inj e).symm)))
  have ht7 : Touch (fun k => k = y) w3 (w6.alloc (.cells #[.int .i64 a, .int .i64 b, .int .i64 c] 92)) := ht6.alloc _
  have gv : (w6.alloc (.cells #[.int .i64 a, .int .i64 b, .int .i64 c] 92)).heap[v]? = some (.cells #[.int .i64 a, .int .i64 b, .int .i64 c] 92 (0, 0)) := by rw [hv]; exact heap_alloc_top _ _
  have hiv : InAt (w6.alloc (.cells #[.int .i64 a, .int .i64 b, .int .i64 c] 92)) y s3 e3 := HI6.out.keep ((Below.refl _ _).alloc (Nat.le_refl _) _) (lt_of_block HI6.out)
  rw [← hv]
  generalize w6.alloc (.cells #[.int .i64 a, .int .i64 b, .int .i64 c] 92) = W7 at ht7 gv hiv ⊢
  have hb7 := ht7.below HB3.out HB3.out.size (fun k hk => by rw [hk]; exact HXY.out.2)
  have g7 := (ht7.block x (lt_of_block G3.out) (fun e => by have := HXY.out.1; omega)).trans G3.out
  have hd7 := HD3.out.touch ht7 (fun k hk => HPY.out k hk)
  have hxv : x ≠ v := fun e => by
    have h1 := lt_of_block (ht6.block x (lt_of_block G3.out) (fun e => by have := HXY.out.1; omega) |>.trans G3.out)
    omega
  have HB7 := Lib.hid hb7; have G7 := Lib.hid g7; have HXV := Lib.hid hxv
  have KE := fun (u : Sub W7.heap.size W7) => calls_same (err_walk y s3 e3 u.val (hiv.keep u.below (lt_of_block hiv)))
  have KZ := fun (u : Sub W7.heap.size W7) => calls_same (KS u.val (hd7.below u.below)).out
  have hcv := fun (u : Sub W7.heap.size W7) => sub_heap gv (lt_of_block gv) u
  have c1 : ∀ u : Sub W7.heap.size W7, u.val.cell? ⟨v, 1, none⟩ = some (.int .i64 b) := fun u => by rw [cell_of_row u.val v 1 _ _ _ (hcv u)]; rfl
  have c2 : ∀ u : Sub W7.heap.size W7, u.val.cell? ⟨v, 2, none⟩ = some (.int .i64 c) := fun u => by rw [cell_of_row u.val v 2 _ _ _ (hcv u)]; rfl
  have GV := Lib.hid gv
  clear ht6 ht7 gv hiv hb7 g7 hd7 hxv hcv HI3 HI4 HI5 HI6 HG4 HG5 HG6 HN1 HN2 HN3 HB3 G3 HD3 HPY KS KC hv
  have hzi : (z : Int) * 64 ≤ 9223372036854775807 := by have := HSZ.out; omega
  have hzw : wrap64 ((z : Int) * 64) = (z : Int) * 64 := IntWalk.wrap64_in _ ⟨by have := HSZ.out; omega, by have := HSZ.out; omega⟩
  have hcases : e3 ≠ 0 ∨ (e3 = 0 ∧ ¬ (b : Int) ≤ 1) ∨ (e3 = 0 ∧ (b : Int) ≤ 1 ∧ ¬ (c : Int) ≤ (z : Int) * 64) ∨ (e3 = 0 ∧ (b : Int) ≤ 1 ∧ (c : Int) ≤ (z : Int) * 64) := by
    by_cases h1 : e3 = 0
    · by_cases h2 : (b : Int) ≤ 1
      · by_cases h3 : (c : Int) ≤ (z : Int) * 64
        · exact .inr (.inr (.inr ⟨h1, h2, h3⟩))
        · exact .inr (.inr (.inl ⟨h1, h2, h3⟩))
      · exact .inr (.inl ⟨h1, h2⟩)
    · exact .inl h1
  obtain ⟨C, hC⟩ : ∃ C : World → Prop, C = fun w9 => w9.heap[v]? = some (.cells #[.int .i64 a, .int .i64 b, .int .i64 c] 92 (0, 0)) := ⟨_, rfl⟩
  have HCO := Lib.hid (show ∀ w9, w9.heap[v]? = some (.cells #[.int .i64 a, .int .i64 b, .int .i64 c] 92 (0, 0)) → C w9 from fun w9 h => by rw [hC]; exact h)
  have HCI := Lib.hid (show ∀ w9, C w9 → w9.heap[v]? = some (.cells #[.int .i64 a, .int .i64 b, .int .i64 c] 92 (0, 0)) from fun w9 h => by rw [hC] at h; exact h)
  clear hC
  rcases hcases with he | ⟨rfl, hbig⟩ | ⟨rfl, hbo, hbig⟩ | ⟨rfl, hbo, hco⟩
  · have hz := beq_no he
    have hrf : hr = false := by rw [HHR.out, jn_e he]
    subst hrf
    refine wp_region_sub (W := W7) (B := W7.heap.size) (by kernel_rfl) (by kernel_rfl) (Below.refl _ _) ?_
    repeat (any_goals (first
      | go_big_quiet_skip
      | go_big_quiet_step ((first | (go_at_call 91; exact calls_sub _ (KE _) (Nat.le_refl _)) | (go_at_call 73; exact calls_sub _ (KZ _) (Nat.le_refl _))))
      | quiet_step ((first | (go_at_call 91; exact calls_sub _ (KE _) (Nat.le_refl _)) | (go_at_call 73; exact calls_sub _ (KZ _) (Nat.le_refl _))))))
    refine wpQuiet_nil ?_
    rintro w9 ⟨x9, rfl⟩
    have b9 := HB7.out.trans (x9.below.mono HB7.out.size)
    have g9 := (x9.below.block x (lt_of_block G7.out)).trans G7.out
    have v9 := (x9.below.block v (lt_of_block GV.out)).trans GV.out
    generalize x9.val = w9 at b9 g9 v9 ⊢
    have B9 := Lib.hid b9.drew; have G9 := Lib.hid (show w9.drew.heap[x]? = _ from g9); have V9 := Lib.hid (show w9.drew.heap[v]? = _ from v9)
    clear b9 g9 v9 KE KZ c1 c2
    go_upto_region 8 with fail
    refine wp_region_mix C [(0,true),(1,true),(2,true),(3,true),(4,true),(5,false),(6,false),(7,true),(8,false),(9,true),(10,true)] (by kernel_rfl) (by kernel_rfl) (HCO.out _ V9.out) ?_
    generalize w9.drew = w8 at B9 G9 V9 ⊢
    simp only [List.filterMap_cons, List.filterMap_nil, List.getElem?_cons_zero, List.getElem?_cons_succ, Option.map_some]
    refine mix_load_row 92 _ rfl (by rfl) v (by rfl) 92 #[.int .i64 a, .int .i64 b, .int .i64 c] (0, 0) _ (fun w9 h9 => HCI.out w9 h9) Tryz.underlying92 rfl info_head ?_
    try simp only [Act.put, List.setIfInBounds_toArray, List.set_cons_succ, List.set_cons_zero]
    repeat (refine mix_read (by rfl) ?_; apply Exists.intro; refine ⟨fun w9 hw9 => ?_, ?_⟩; (· go_simp; rfl); simp only [Act.put, List.setIfInBounds_toArray, List.set_cons_succ, List.set_cons_zero])
    repeat (refine mix_skip (by rfl) ?_; try simp only [Act.put, List.setIfInBounds_toArray, List.set_cons_succ, List.set_cons_zero])
    repeat (refine mix_read (by rfl) ?_; apply Exists.intro; refine ⟨fun w9 hw9 => ?_, ?_⟩; (· go_simp; rfl); simp only [Act.put, List.setIfInBounds_toArray, List.set_cons_succ, List.set_cons_zero])
    refine mix_step (by rfl) (fun K' hK => ?_)
    have c0 := cell_at (j := 0) (v := .int .i64 0) G9.out rfl
    have c1 := cell_at (j := 1) (v := .int .i64 0) G9.out rfl
    have c2 := cell_at (j := 2) (v := .int .i64 0) G9.out rfl
    have f0 := free_at G9.out 0
    have f1 := free_at G9.out 1
    have f2 := free_at G9.out 2
    go_simp
    obtain ⟨hblk, htch⟩ := heads_set G9.out (.int .i64 a) (.int .i64 b) (.int .i64 c)
    have V8 := (htch.block v (lt_of_block V9.out) (fun e => HXV.out e.symm)).trans V9.out
    refine hK _ _ (HCO.out _ V8) ?_
    clear hK K' c0 c1 c2 f0 f1 f2
    try simp only [Act.put, List.setIfInBounds_toArray, List.set_cons_succ, List.set_cons_zero]
    repeat (refine mix_read (by rfl) ?_; apply Exists.intro; refine ⟨fun w9 hw9 => ?_, ?_⟩; (· go_simp; rfl); simp only [Act.put, List.setIfInBounds_toArray, List.set_cons_succ, List.set_cons_zero])
    refine mix_nil (NoPanic.normal ?_)
    go_wp2_with fail
    refine bodyPost_ret (results_cell_3 rfl _ _ x 92 #[.int .i64 a, .int .i64 b, .int .i64 c] (0, 0) _ rfl hblk Tryz.underlying92 rfl info_head) rfl ?_
    exact ⟨rfl, htch.below B9.out B9.out.size (fun k hk => by rw [hk, HX.out]; exact Nat.le_refl _)⟩
  · skip
    have hrf : hr = false := by rw [HHR.out, jn_b hbig]
    subst hrf
    refine wp_region_sub (W := W7) (B := W7.heap.size) (by kernel_rfl) (by kernel_rfl) (Below.refl _ _) ?_
    repeat (any_goals (first
      | go_big_quiet_skip
      | go_big_quiet_step ((first | (go_at_call 91; exact calls_sub _ (KE _) (Nat.le_refl _)) | (go_at_call 73; exact calls_sub _ (KZ _) (Nat.le_refl _))))
      | quiet_step ((first | (go_at_call 91; exact calls_sub _ (KE _) (Nat.le_refl _)) | (go_at_call 73; exact calls_sub _ (KZ _) (Nat.le_refl _))))))
    refine wpQuiet_nil ?_
    rintro w9 ⟨x9, rfl⟩
    have b9 := HB7.out.trans (x9.below.mono HB7.out.size)
    have g9 := (x9.below.block x (lt_of_block G7.out)).trans G7.out
    have v9 := (x9.below.block v (lt_of_block GV.out)).trans GV.out
    generalize x9.val = w9 at b9 g9 v9 ⊢
    have B9 := Lib.hid b9.drew; have G9 := Lib.hid (show w9.drew.heap[x]? = _ from g9); have V9 := Lib.hid (show w9.drew.heap[v]? = _ from v9)
    clear b9 g9 v9 KE KZ c1 c2
    go_upto_region 8 with fail
    refine wp_region_mix C [(0,true),(1,true),(2,true),(3,true),(4,true),(5,false),(6,false),(7,true),(8,false),(9,true),(10,true)] (by kernel_rfl) (by kernel_rfl) (HCO.out _ V9.out) ?_
    generalize w9.drew = w8 at B9 G9 V9 ⊢
    simp only [List.filterMap_cons, List.filterMap_nil, List.getElem?_cons_zero, List.getElem?_cons_succ, Option.map_some]
    refine mix_load_row 92 _ rfl (by rfl) v (by rfl) 92 #[.int .i64 a, .int .i64 b, .int .i64 c] (0, 0) _ (fun w9 h9 => HCI.out w9 h9) Tryz.underlying92 rfl info_head ?_
    try simp only [Act.put, List.setIfInBounds_toArray, List.set_cons_succ, List.set_cons_zero]
    repeat (refine mix_read (by rfl) ?_; apply Exists.intro; refine ⟨fun w9 hw9 => ?_, ?_⟩; (· go_simp; rfl); simp only [Act.put, List.setIfInBounds_toArray, List.set_cons_succ, List.set_cons_zero])
    repeat (refine mix_skip (by rfl) ?_; try simp only [Act.put, List.setIfInBounds_toArray, List.set_cons_succ, List.set_cons_zero])
    repeat (refine mix_read (by rfl) ?_; apply Exists.intro; refine ⟨fun w9 hw9 => ?_, ?_⟩; (· go_simp; rfl); simp only [Act.put, List.setIfInBounds_toArray, List.set_cons_succ, List.set_cons_zero])
    refine mix_step (by rfl) (fun K' hK => ?_)
    have c0 := cell_at (j := 0) (v := .int .i64 0) G9.out rfl
    have c1 := cell_at (j := 1) (v := .int .i64 0) G9.out rfl
    have c2 := cell_at (j := 2) (v := .int .i64 0) G9.out rfl
    have f0 := free_at G9.out 0
    have f1 := free_at G9.out 1
    have f2 := free_at G9.out 2
    go_simp
    obtain ⟨hblk, htch⟩ := heads_set G9.out (.int .i64 a) (.int .i64 b) (.int .i64 c)
    have V8 := (htch.block v (lt_of_block V9.out) (fun e => HXV.out e.symm)).trans V9.out
    refine hK _ _ (HCO.out _ V8) ?_
    clear hK K' c0 c1 c2 f0 f1 f2
    try simp only [Act.put, List.setIfInBounds_toArray, List.set_cons_succ, List.set_cons_zero]
    repeat (refine mix_read (by rfl) ?_; apply Exists.intro; refine ⟨fun w9 hw9 => ?_, ?_⟩; (· go_simp; rfl); simp only [Act.put, List.setIfInBounds_toArray, List.set_cons_succ, List.set_cons_zero])
    refine mix_nil (NoPanic.normal ?_)
    go_wp2_with fail
    refine bodyPost_ret (results_cell_3 rfl _ _ x 92 #[.int .i64 a, .int .i64 b, .int .i64 c] (0, 0) _ rfl hblk Tryz.underlying92 rfl info_head) rfl ?_
    exact ⟨rfl, htch.below B9.out B9.out.size (fun k hk => by rw [hk, HX.out]; exact Nat.le_refl _)⟩
  · skip
    have hrf : hr = false := by rw [HHR.out, jn_c hbig]
    subst hrf
    refine wp_region_sub (W := W7) (B := W7.heap.size) (by kernel_rfl) (by kernel_rfl) (Below.refl _ _) ?_
    repeat (any_goals (first
      | go_big_quiet_skip
      | go_big_quiet_step ((first | (go_at_call 91; exact calls_sub _ (KE _) (Nat.le_refl _)) | (go_at_call 73; exact calls_sub _ (KZ _) (Nat.le_refl _))))
      | quiet_step ((first | (go_at_call 91; exact calls_sub _ (KE _) (Nat.le_refl _)) | (go_at_call 73; exact calls_sub _ (KZ _) (Nat.le_refl _))))))
    refine wpQuiet_nil ?_
    rintro w9 ⟨x9, rfl⟩
    have b9 := HB7.out.trans (x9.below.mono HB7.out.size)
    have g9 := (x9.below.block x (lt_of_block G7.out)).trans G7.out
    have v9 := (x9.below.block v (lt_of_block GV.out)).trans GV.out
    generalize x9.val = w9 at b9 g9 v9 ⊢
    have B9 := Lib.hid b9.drew; have G9 := Lib.hid (show w9.drew.heap[x]? = _ from g9); have V9 := Lib.hid (show w9.drew.heap[v]? = _ from v9)
    clear b9 g9 v9 KE KZ c1 c2
    go_upto_region 8 with fail
    refine wp_region_mix C [(0,true),(1,true),(2,true),(3,true),(4,true),(5,false),(6,false),(7,true),(8,false),(9,true),(10,true)] (by kernel_rfl) (by kernel_rfl) (HCO.out _ V9.out) ?_
    generalize w9.drew = w8 at B9 G9 V9 ⊢
    simp only [List.filterMap_cons, List.filterMap_nil, List.getElem?_cons_zero, List.getElem?_cons_succ, Option.map_some]
    refine mix_load_row 92 _ rfl (by rfl) v (by rfl) 92 #[.int .i64 a, .int .i64 b, .int .i64 c] (0, 0) _ (fun w9 h9 => HCI.out w9 h9) Tryz.underlying92 rfl info_head ?_
    try simp only [Act.put, List.setIfInBounds_toArray, List.set_cons_succ, List.set_cons_zero]
    repeat (refine mix_read (by rfl) ?_; apply Exists.intro; refine ⟨fun w9 hw9 => ?_, ?_⟩; (· go_simp; rfl); simp only [Act.put, List.setIfInBounds_toArray, List.set_cons_succ, List.set_cons_zero])
    repeat (refine mix_skip (by rfl) ?_; try simp only [Act.put, List.setIfInBounds_toArray, List.set_cons_succ, List.set_cons_zero])
    repeat (refine mix_read (by rfl) ?_; apply Exists.intro; refine ⟨fun w9 hw9 => ?_, ?_⟩; (· go_simp; rfl); simp only [Act.put, List.setIfInBounds_toArray, List.set_cons_succ, List.set_cons_zero])
    refine mix_step (by rfl) (fun K' hK => ?_)
    have c0 := cell_at (j := 0) (v := .int .i64 0) G9.out rfl
    have c1 := cell_at (j := 1) (v := .int .i64 0) G9.out rfl
    have c2 := cell_at (j := 2) (v := .int .i64 0) G9.out rfl
    have f0 := free_at G9.out 0
    have f1 := free_at G9.out 1
    have f2 := free_at G9.out 2
    go_simp
    obtain ⟨hblk, htch⟩ := heads_set G9.out (.int .i64 a) (.int .i64 b) (.int .i64 c)
    have V8 := (htch.block v (lt_of_block V9.out) (fun e => HXV.out e.symm)).trans V9.out
    refine hK _ _ (HCO.out _ V8) ?_
    clear hK K' c0 c1 c2 f0 f1 f2
    try simp only [Act.put, List.setIfInBounds_toArray, List.set_cons_succ, List.set_cons_zero]
    repeat (refine mix_read (by rfl) ?_; apply Exists.intro; refine ⟨fun w9 hw9 => ?_, ?_⟩; (· go_simp; rfl); simp only [Act.put, List.setIfInBounds_toArray, List.set_cons_succ, List.set_cons_zero])
    refine mix_nil (NoPanic.normal ?_)
    go_wp2_with fail
    refine bodyPost_ret (results_cell_3 rfl _ _ x 92 #[.int .i64 a, .int .i64 b, .int .i64 c] (0, 0) _ rfl hblk Tryz.underlying92 rfl info_head) rfl ?_
    exact ⟨rfl, htch.below B9.out B9.out.size (fun k hk => by rw [hk, HX.out]; exact Nat.le_refl _)⟩
  · obtain ⟨_, _, ha9, hb9, hc9⟩ := HOK.out rfl
    have hrf : hr = preB s ⟨(headB a b c).toArray⟩ := by rw [HHR.out, jn_t hbo hco]
    have KL := fun w => Lib.hid (hlay_walk a b c w ha9 hb9 hc9)
    obtain ⟨hd, hhd⟩ : ∃ hd : ByteArray, hd = ⟨(headB a b c).toArray⟩ := ⟨_, rfl⟩
    rw [← hhd] at hrf KL
    clear hhd HHR HOK ha9 hb9 hc9
    subst hrf
    refine wp_region_sub (W := W7) (B := W7.heap.size) (by kernel_rfl) (by kernel_rfl) (Below.refl _ _) ?_
    repeat (any_goals (first
      | go_big_quiet_skip
      | go_big_quiet_step ((first | (go_at_call 91; exact calls_sub _ (KE _) (Nat.le_refl _)) | (go_at_call 73; exact calls_sub _ (KZ _) (Nat.le_refl _))))
      | quiet_step ((first | (go_at_call 91; exact calls_sub _ (KE _) (Nat.le_refl _)) | (go_at_call 73; exact calls_sub _ (KZ _) (Nat.le_refl _))))))
    refine wpQuiet_nil ?_
    rintro w9 ⟨x9, rfl⟩
    have b9 := HB7.out.trans (x9.below.mono HB7.out.size)
    have g9 := (x9.below.block x (lt_of_block G7.out)).trans G7.out
    have v9 := (x9.below.block v (lt_of_block GV.out)).trans GV.out
    generalize x9.val = w9 at b9 g9 v9 ⊢
    have B9 := Lib.hid b9.drew; have G9 := Lib.hid (show w9.drew.heap[x]? = _ from g9); have V9 := Lib.hid (show w9.drew.heap[v]? = _ from v9)
    clear b9 g9 v9 KE KZ c1 c2
    go_upto_region 8 with fail
    refine wp_region_mix C [(0,true),(1,true),(2,true),(3,true),(4,true),(5,false),(6,false),(7,true),(8,false),(9,true),(10,true)] (by kernel_rfl) (by kernel_rfl) (HCO.out _ V9.out) ?_
    generalize w9.drew = w8 at B9 G9 V9 ⊢
    simp only [List.filterMap_cons, List.filterMap_nil, List.getElem?_cons_zero, List.getElem?_cons_succ, Option.map_some]
    refine mix_load_row 92 _ rfl (by rfl) v (by rfl) 92 #[.int .i64 a, .int .i64 b, .int .i64 c] (0, 0) _ (fun w9 h9 => HCI.out w9 h9) Tryz.underlying92 rfl info_head ?_
    try simp only [Act.put, List.setIfInBounds_toArray, List.set_cons_succ, List.set_cons_zero]
    refine mix_read (by rfl) ?_; apply Exists.intro; refine ⟨fun w9 hw9 => ?_, ?_⟩; (· go_simp; rfl); simp only [Act.put, List.setIfInBounds_toArray, List.set_cons_succ, List.set_cons_zero]
    refine mix_read (by rfl) ?_; apply Exists.intro; refine ⟨fun w9 hw9 => ?_, ?_⟩; (· go_simp; rfl); simp only [Act.put, List.setIfInBounds_toArray, List.set_cons_succ, List.set_cons_zero]
    refine mix_read (by rfl) ?_; apply Exists.intro; refine ⟨fun w9 hw9 => ?_, ?_⟩; (· go_simp; rfl); simp only [Act.put, List.setIfInBounds_toArray, List.set_cons_succ, List.set_cons_zero]
    refine mix_load_row 92 _ rfl (by rfl) v (by rfl) 92 #[.int .i64 a, .int .i64 b, .int .i64 c] (0, 0) _ (fun w9 h9 => HCI.out w9 h9) Tryz.underlying92 rfl info_head ?_
    try simp only [Act.put, List.setIfInBounds_toArray, List.set_cons_succ, List.set_cons_zero]
    refine mix_step (by rfl) (fun K' hK => ?_)
    go_simp
    go_at_call 63
    refine (KL w8).out.mono ?_
    rintro e w10 ⟨rfl, hb10⟩
    have b10 := B9.out.trans (hb10.mono B9.out.size)
    have g10 := (hb10.block x (lt_of_block G9.out)).trans G9.out
    have v10 := (hb10.block v (lt_of_block V9.out)).trans V9.out
    refine hK _ _ (HCO.out _ v10) ?_
    clear hK K' hb10 B9 G9 V9
    try simp only [Act.put, List.setIfInBounds_toArray, List.set_cons_succ, List.set_cons_zero]
    refine mix_step (by rfl) (fun K' hK => ?_)
    go_simp
    go_at_call 49
    refine (hasPre_walk s hd w10).mono ?_
    rintro e w11 ⟨rfl, rfl⟩
    refine hK _ _ (HCO.out _ v10) ?_
    clear hK K'
    try simp only [Act.put, List.setIfInBounds_toArray, List.set_cons_succ, List.set_cons_zero]
    have B9 := Lib.hid b10; have G9 := Lib.hid g10; have V9 := Lib.hid v10
    clear b10 g10 v10
    repeat (refine mix_read (by rfl) ?_; apply Exists.intro; refine ⟨fun w9 hw9 => ?_, ?_⟩; (· go_simp; rfl); simp only [Act.put, List.setIfInBounds_toArray, List.set_cons_succ, List.set_cons_zero])
    refine mix_step (by rfl) (fun K' hK => ?_)
    have c0 := cell_at (j := 0) (v := .int .i64 0) G9.out rfl
    have c1 := cell_at (j := 1) (v := .int .i64 0) G9.out rfl
    have c2 := cell_at (j := 2) (v := .int .i64 0) G9.out rfl
    have f0 := free_at G9.out 0
    have f1 := free_at G9.out 1
    have f2 := free_at G9.out 2
    go_simp
    obtain ⟨hblk, htch⟩ := heads_set G9.out (.int .i64 a) (.int .i64 b) (.int .i64 c)
    have V8 := (htch.block v (lt_of_block V9.out) (fun e => HXV.out e.symm)).trans V9.out
    refine hK _ _ (HCO.out _ V8) ?_
    clear hK K' c0 c1 c2 f0 f1 f2
    try simp only [Act.put, List.setIfInBounds_toArray, List.set_cons_succ, List.set_cons_zero]
    repeat (refine mix_read (by rfl) ?_; apply Exists.intro; refine ⟨fun w9 hw9 => ?_, ?_⟩; (· go_simp; rfl); simp only [Act.put, List.setIfInBounds_toArray, List.set_cons_succ, List.set_cons_zero])
    refine mix_nil (NoPanic.normal ?_)
    go_wp2_with fail
    refine bodyPost_ret (results_cell_3 rfl _ _ x 92 #[.int .i64 a, .int .i64 b, .int .i64 c] (0, 0) _ rfl hblk Tryz.underlying92 rfl info_head) rfl ?_
    exact ⟨rfl, htch.below B9.out B9.out.size (fun k hk => by rw [hk, HX.out]; exact Nat.le_refl _)⟩
theorem jread_walk (p : Nat) (F : Nat → Prop) (st : Dk) (at' : Int) (w : World) (h : Disk w p F st) (h2 : 2 ≤ st.S.length) :
    Calls Tryz.prog 80 #[.pointer (some ⟨p, 0, none⟩), .int .i64 at'] w fun r w' => HeadPost w (readH st at') r w' := by
  unfold readH
  by_cases hn : (readD st at').2 ≠ 0 ∨ preB (readD st at').1 magicB = false
  · rw [if_pos hn]
    exact jread_none p F st at' w h hn
  · rw [if_neg hn]
    obtain ⟨s, e, hse⟩ : ∃ s e, readD st at' = (s, e) := ⟨_, _, rfl⟩
    rw [hse] at hn ⊢
    have he : e = 0 := Decidable.byContradiction fun h => hn (.inl h)
    have hp : preB s magicB = true := by
      cases hp : preB s magicB with
      | true => rfl
      | false => exact absurd (.inr hp) hn
    subst he
    exact jread_some p F st at' w h h2 s hse hp
end Go.Proofs.YtjjejkhekmpgcaaGreat

namespace Go.Proofs.YtjjejkhekmpgcaaGreat
set_option maxRecDepth 4000
open Go.RowKit

/-- the head that holds of the first so many -/
def holdN (st : Dk) : Nat → (Nat × Nat × Nat) × Bool
  | 0 => ((0, 0, 0), false)
  | k + 1 => if (readH st (k : Nat)).2.1 = true ∧ ((holdN st k).2 = false ∨ (holdN st k).1.1 < (readH st (k : Nat)).1.1) then ((readH st (k : Nat)).1, true) else holdN st k
def holdsR (st : Dk) : (Nat × Nat × Nat) × Int :=
  if (readH st (0 : Nat)).2.2 ≠ 0 then ((0, 0, 0), (readH st (0 : Nat)).2.2) else if (readH st (1 : Nat)).2.2 ≠ 0 then ((0, 0, 0), (readH st (1 : Nat)).2.2)
  else if (holdN st 2).2 = false then ((0, 0, 0), 8) else ((holdN st 2).1, 0)
theorem holdsR_err {st : Dk} {k : Nat} (hk : k < 2) (h0 : ∀ j : Nat, j < k → (readH st (j : Nat)).2.2 = 0) (he : (readH st (k : Nat)).2.2 ≠ 0) : holdsR st = ((0, 0, 0), (readH st (k : Nat)).2.2) := by
  unfold holdsR
  have : k = 0 ∨ k = 1 := by omega
  rcases this with rfl | rfl
  · rw [if_pos he]
  · rw [if_neg (by rw [h0 0 (by omega)]; simp), if_pos he]
theorem holdsR_end {st : Dk} (h0 : ∀ j : Nat, j < 2 → (readH st (j : Nat)).2.2 = 0) : holdsR st = if (holdN st 2).2 = false then ((0, 0, 0), 8) else ((holdN st 2).1, 0) := by
  unfold holdsR
  rw [if_neg (by rw [h0 0 (by omega)]; simp), if_neg (by rw [h0 1 (by omega)]; simp)]
/-- what holds leaves -/
def HoldsPost (w : World) (r : (Nat × Nat × Nat) × Int) (e : Ending) (w' : World) : Prop :=
  e = .returned (.tuple #[.agg (hdv r.1.1 r.1.2.1 r.1.2.2), .int .i64 r.2]) ∧ Below w.heap.size w w'

set_option maxHeartbeats 4000000 in
theorem holds_walk (p : Nat) (F : Nat → Prop) (st : Dk) (w : World) (h : Disk w p F st) (h2 : 2 ≤ st.S.length) :
    Calls Tryz.prog 52 #[.pointer (some ⟨p, 0, none⟩)] w fun r w' => HoldsPost w (holdsR st) r w' := by
  obtain ⟨W, hW⟩ : ∃ W, W = (w.alloc (.cells #[.int .i64 0, .int .i64 0, .int .i64 0] 92)).alloc (.cells #[.int .i64 0, .int .i64 0, .int .i64 0] 92) := ⟨_, rfl⟩
  obtain ⟨x, hx⟩ : ∃ x, x = w.heap.size := ⟨_, rfl⟩
  have hb1 : Below w.heap.size w W := by rw [hW]; exact ((Below.refl w.heap.size w).alloc (Nat.le_refl _) _).alloc (by simp) _
  have g1 : W.heap[x]? = some (.cells #[.int .i64 0, .int .i64 0, .int .i64 0] 92 (0, 0)) := by
    rw [hW, hx]
    exact (((Below.refl (w.alloc (.cells #[.int .i64 0, .int .i64 0, .int .i64 0] 92)).heap.size _).alloc (Nat.le_refl _) (.cells #[.int .i64 0, .int .i64 0, .int .i64 0] 92)).block w.heap.size (by simp)).trans (heap_alloc_top _ _)
  have g2 : W.heap[x + 1]? = some (.cells #[.int .i64 0, .int .i64 0, .int .i64 0] 92 (0, 0)) := by
    rw [hW, hx, show w.heap.size + 1 = (w.alloc (.cells #[.int .i64 0, .int .i64 0, .int .i64 0] 92)).heap.size by simp]
    exact heap_alloc_top _ _
  obtain ⟨o, ho⟩ : ∃ o, o = x + 1 := ⟨_, rfl⟩
  rw [← ho] at g2
  have HW := Lib.hid hW; have HX := Lib.hid hx; have HO := Lib.hid ho; have HB1 := Lib.hid hb1; have G1 := Lib.hid g1; have G2 := Lib.hid g2; have HD := Lib.hid h
  have HDO := Lib.hid (show ∀ k, F k → k < o from fun k hk => by have := h.lt k hk; omega)
  obtain ⟨N, hN⟩ : ∃ N : Nat, N = 2 := ⟨_, rfl⟩
  clear h hW hx ho hb1 g1 g2
  go_enter Tryz.func52, Tryz.ntmps52
  go_wp2_with fail
  go_step3
  go_wp2_with fail
  go_step3
  rw [← HW.out, show w.heap.size + 1 = o by rw [HO.out, HX.out], ← HX.out]
  clear HW
  go_wp2_with fail
  go_loopg [5, 10] 2 (fun gk vf i wr => ∃ k : Nat, k + gk = 2 ∧ i = .int .i64 k ∧ vf = .bool (holdN st k).2 ∧ wr.heap[x]? = some (.cells #[.int .i64 0, .int .i64 0, .int .i64 0] 92 (0, 0)) ∧ wr.heap[o]? = some (.cells (hdv (holdN st k).1.1 (holdN st k).1.2.1 (holdN st k).1.2.2) 92 (0, 0)) ∧ Disk wr p F st ∧ (∀ j : Nat, j < k → (readH st (j : Nat)).2.2 = 0) ∧ Below w.heap.size w wr)
  case atStart => exact ⟨0, by omega, rfl, rfl, G1.out, G2.out, HD.out.below HB1.out, fun j hj => absurd hj (by omega), HB1.out⟩
  case round =>
    obtain ⟨k, hgk, rfl, rfl, hgx, hgo, hdk, herr, hb⟩ := hrel
    have HGX := Lib.hid hgx; have HGO := Lib.hid hgo; have HER := Lib.hid herr; have HB := Lib.hid hb; have HGK := Lib.hid hgk
    by_cases hlt : (k : Int) < 2
    · have KR := Lib.hid (jread_walk p F st (k : Nat) wr hdk h2)
      have hst := holdN.eq_2 st k
      obtain ⟨r, hr⟩ : ∃ r, r = readH st (k : Nat) := ⟨_, rfl⟩
      have HRE := Lib.hid (fun (h : r.2.2 ≠ 0) => holdsR_err (st := st) (k := k) (by omega) herr (by rw [← hr]; exact h))
      have HRO := Lib.hid (fun (h : r.2.2 = 0) => show ∀ j : Nat, j < k + 1 → (readH st (j : Nat)).2.2 = 0 from fun j hj => by
        by_cases hjk : j = k
        · rw [hjk, ← hr]; exact h
        · exact herr j (by omega))
      rw [← hr] at KR hst HRE
      have HDK := Lib.hid hdk
      obtain ⟨⟨a, b, c⟩, rt, e⟩ := r
      obtain ⟨⟨⟨qa, qb, qc⟩, fd⟩, hq⟩ : ∃ q, q = holdN st k := ⟨_, rfl⟩
      rw [← hq] at hst HGO ⊢
      have HST := Lib.hid hst
      have HXO := Lib.hid (show x ≠ o by have := HO.out; omega)
      clear hgx hgo herr hb hgk hdk hr hst hq
      go_upto_region 7 with (go_at_call 80; refine KR.out.mono ?_; rintro r w1 ⟨rfl, hb1⟩; unfold hdv)
      obtain ⟨v, hv⟩ : ∃ v, v = w1.heap.size := ⟨_, rfl⟩
      have hb2 : Below wr.heap.size wr (w1.alloc (.cells #[.int .i64 a, .int .i64 b, .int .i64 c] 92)) := hb1.alloc hb1.size _
      have gv : (w1.alloc (.cells #[.int .i64 a, .int .i64 b, .int .i64 c] 92)).heap[v]? = some (.cells #[.int .i64 a, .int .i64 b, .int .i64 c] 92 (0, 0)) := by rw [hv]; exact heap_alloc_top _ _
      have hvw : wr.heap.size ≤ v := by rw [hv]; exact hb1.size
      rw [← hv]
      generalize w1.alloc (.cells #[.int .i64 a, .int .i64 b, .int .i64 c] 92) = W2 at hb2 gv ⊢
      have gx := (hb2.block x (lt_of_block HGX.out)).trans HGX.out
      have go' := (hb2.block o (lt_of_block HGO.out)).trans HGO.out
      have HOV := Lib.hid (show o ≠ v from fun e => by have := lt_of_block HGO.out; omega)
      have HB2 := Lib.hid (HB.out.trans (hb2.mono HB.out.size))
      have HD2 := Lib.hid (HDK.out.below hb2)
      have GV := Lib.hid gv; have GX := Lib.hid gx; have GO := Lib.hid go'
      clear hb1 hb2 gv gx go' hv hvw HB HGX HGO HDK KR
      unfold hdv at GO
      have x0 := cell_at (j := 0) (v := .int .i64 0) GX.out rfl
      have x1 := cell_at (j := 1) (v := .int .i64 0) GX.out rfl
      have x2 := cell_at (j := 2) (v := .int .i64 0) GX.out rfl
      have xf0 := free_at GX.out 0
      have xf1 := free_at GX.out 1
      have xf2 := free_at GX.out 2
      by_cases he : e = 0
      · subst he
        clear x0 x1 x2 xf0 xf1 xf2
        have o0 := cell_at (j := 0) (v := .int .i64 qa) GO.out rfl
        have o1 := cell_at (j := 1) (v := .int .i64 qb) GO.out rfl
        have o2 := cell_at (j := 2) (v := .int .i64 qc) GO.out rfl
        have of0 := free_at GO.out 0
        have of1 := free_at GO.out 1
        have of2 := free_at GO.out 2
        have v0 := cell_at (j := 0) (v := .int .i64 a) GV.out rfl
        have hro := HRO.out rfl
        have HRR := Lib.hid hro
        clear hro
        have hcases : rt = false ∨ (rt = true ∧ fd = true ∧ (a : Int) ≤ (qa : Int)) ∨ (rt = true ∧ fd = false) ∨ (rt = true ∧ fd = true ∧ ¬ (a : Int) ≤ (qa : Int)) := by
          cases rt
          · exact .inl rfl
          · cases fd
            · exact .inr (.inr (.inl ⟨rfl, rfl⟩))
            · by_cases hc : (a : Int) ≤ (qa : Int)
              · exact .inr (.inl ⟨rfl, rfl, hc⟩)
              · exact .inr (.inr (.inr ⟨rfl, rfl, hc⟩))
        rcases hcases with rfl | ⟨rfl, rfl, hc⟩ | ⟨rfl, rfl⟩ | ⟨rfl, rfl, hc⟩
        · have hN2 : holdN st (k + 1) = ((qa, qb, qc), fd) := by rw [HST.out, if_neg (by simp)]
          have HN2 := Lib.hid hN2
          clear hN2
          go_wp2_with fail
          go_roundg (gk - 1)
          case measure => have := HGK.out; omega
          case rel => exact ⟨k + 1, by have := HGK.out; omega, by go_num, by rw [HN2.out], GX.out, by rw [HN2.out]; exact GO.out, HD2.out, HRR.out, HB2.out⟩
        · have hN2 : holdN st (k + 1) = ((qa, qb, qc), true) := by rw [HST.out, if_neg (by simp; omega)]
          have HN2 := Lib.hid hN2
          clear hN2
          go_wp2_with fail
          go_roundg (gk - 1)
          case measure => have := HGK.out; omega
          case rel => exact ⟨k + 1, by have := HGK.out; omega, by go_num, by rw [HN2.out], GX.out, by rw [HN2.out]; exact GO.out, HD2.out, HRR.out, HB2.out⟩
        · have hN2 : holdN st (k + 1) = ((a, b, c), true) := by
            rw [HST.out, if_pos (by simp at *; first | done | omega)]
          have HN2 := Lib.hid hN2
          clear hN2
          go_wp2_with (refine wpList_row 92 _ rfl v rfl (by rfl) 92 #[.int .i64 a, .int .i64 b, .int .i64 c] (0, 0) _ GV.out Tryz.underlying92 rfl info_head ?_)
          obtain ⟨hblk, htch⟩ := heads_set GO.out (.int .i64 a) (.int .i64 b) (.int .i64 c)
          have hx3 := (htch.block x (lt_of_block GX.out) HXO.out).trans GX.out
          have hd3 := HD2.out.touch htch (fun k hk e => by have := HDO.out k hk; omega)
          have hb3 := htch.below HB2.out HB2.out.size (fun k hk => by rw [hk, HO.out, HX.out]; omega)
          have M1 := Lib.hid hblk; have M2 := Lib.hid hx3; have M3 := Lib.hid hd3; have M4 := Lib.hid hb3
          clear hblk htch hx3 hd3 hb3
          go_roundg (gk - 1)
          case measure => have := HGK.out; omega
          case rel => exact ⟨k + 1, by have := HGK.out; omega, by go_num, by rw [HN2.out], M2.out, by rw [HN2.out]; exact M1.out, M3.out, HRR.out, M4.out⟩
        · have hN2 : holdN st (k + 1) = ((a, b, c), true) := by
            rw [HST.out, if_pos (by simp at *; first | done | omega)]
          have HN2 := Lib.hid hN2
          clear hN2
          go_wp2_with (refine wpList_row 92 _ rfl v rfl (by rfl) 92 #[.int .i64 a, .int .i64 b, .int .i64 c] (0, 0) _ GV.out Tryz.underlying92 rfl info_head ?_)
          obtain ⟨hblk, htch⟩ := heads_set GO.out (.int .i64 a) (.int .i64 b) (.int .i64 c)
          have hx3 := (htch.block x (lt_of_block GX.out) HXO.out).trans GX.out
          have hd3 := HD2.out.touch htch (fun k hk e => by have := HDO.out k hk; omega)
          have hb3 := htch.below HB2.out HB2.out.size (fun k hk => by rw [hk, HO.out, HX.out]; omega)
          have M1 := Lib.hid hblk; have M2 := Lib.hid hx3; have M3 := Lib.hid hd3; have M4 := Lib.hid hb3
          clear hblk htch hx3 hd3 hb3
          go_roundg (gk - 1)
          case measure => have := HGK.out; omega
          case rel => exact ⟨k + 1, by have := HGK.out; omega, by go_num, by rw [HN2.out], M2.out, by rw [HN2.out]; exact M1.out, M3.out, HRR.out, M4.out⟩
      · have hz := beq_no he
        have hR := HRE.out he
        go_wp2_with fail
        obtain ⟨hblk, htch⟩ := heads_set GX.out (.int .i64 0) (.int .i64 0) (.int .i64 0)
        try rw [Exit.noGoto_ret]
        try simp only [Exit.inBlock, Exit.then]
        refine bodyPost_ret (results_cell_2 rfl _ _ x 92 #[.int .i64 0, .int .i64 0, .int .i64 0] (0, 0) _ rfl hblk Tryz.underlying92 rfl info_head) rfl ?_
        rw [hR]
        exact ⟨rfl, htch.below HB2.out HB2.out.size (fun k hk => by rw [hk, HX.out]; exact Nat.le_refl _)⟩
    · obtain rfl : k = 2 := by omega
      have hfin := holdsR_end HER.out
      obtain ⟨⟨⟨qa, qb, qc⟩, fd⟩, hq⟩ : ∃ q, q = holdN st 2 := ⟨_, rfl⟩
      rw [← hq] at hfin HGO ⊢
      have HFIN := Lib.hid hfin
      have x0 := cell_at (j := 0) (v := .int .i64 0) HGX.out rfl
      have x1 := cell_at (j := 1) (v := .int .i64 0) HGX.out rfl
      have x2 := cell_at (j := 2) (v := .int .i64 0) HGX.out rfl
      have xf0 := free_at HGX.out 0
      have xf1 := free_at HGX.out 1
      have xf2 := free_at HGX.out 2
      clear hgx hgo herr hb hgk hdk hfin hq
      cases fd with
      | true =>
        go_wp2_with (refine wpList_row 92 _ rfl o rfl (by rfl) 92 #[.int .i64 qa, .int .i64 qb, .int .i64 qc] (0, 0) _ HGO.out Tryz.underlying92 rfl info_head ?_)
        obtain ⟨hblk, htch⟩ := heads_set HGX.out (.int .i64 qa) (.int .i64 qb) (.int .i64 qc)
        try rw [Exit.noGoto_ret]
        try simp only [Exit.inBlock, Exit.then]
        refine bodyPost_ret (results_cell_2 rfl _ _ x 92 #[.int .i64 qa, .int .i64 qb, .int .i64 qc] (0, 0) _ rfl hblk Tryz.underlying92 rfl info_head) rfl ?_
        rw [HFIN.out, if_neg (by simp)]
        exact ⟨rfl, htch.below HB.out HB.out.size (fun k hk => by rw [hk, HX.out]; exact Nat.le_refl _)⟩
      | false =>
        go_wp2_with fail
        obtain ⟨hblk, htch⟩ := heads_set HGX.out (.int .i64 0) (.int .i64 0) (.int .i64 0)
        try rw [Exit.noGoto_ret]
        try simp only [Exit.inBlock, Exit.then]
        refine bodyPost_ret (results_cell_2 rfl _ _ x 92 #[.int .i64 0, .int .i64 0, .int .i64 0] (0, 0) _ rfl hblk Tryz.underlying92 rfl info_head) rfl ?_
        rw [HFIN.out, if_pos trivial]
        exact ⟨rfl, htch.below HB.out HB.out.size (fun k hk => by rw [hk, HX.out]; exact Nat.le_refl _)⟩
end Go.Proofs.YtjjejkhekmpgcaaGreat
