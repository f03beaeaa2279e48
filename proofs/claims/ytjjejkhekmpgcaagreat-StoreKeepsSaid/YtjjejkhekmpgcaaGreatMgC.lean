/-
  Layer 1: a number's bytes.
  Layer 1: one field is laid behind others.
  Layer 1: one field is laid behind others.
  Layer 1: fields are laid.
  Layer 1: Lay.
  Layer 1: what is left of bytes: Err, Left, fail, take.
  Layer 1: a number is read.
  Layer 1: texts are read.
-/
import Derived.Test.YtjjejkhekmpgcaaGreatMgA
import Derived.IntWalk
import Derived.Deep.Cut
import Derived.Deep.CutRange
import Derived.Deep.LoopGhost
import Derived.OneCell
import Derived.Lib.OwnKind
import Derived.WalkMore
namespace Go.Proofs.YtjjejkhekmpgcaaGreat
set_option maxRecDepth 4000
open Go.RowKit

/-- a number's bytes -/
def lebN (n : Nat) : List UInt8 := if h : n < 128 then [UInt8.ofNat n] else UInt8.ofNat (n % 128 + 128) :: lebN (n / 128)
termination_by n
decreasing_by omega
theorem lebN_small {n : Nat} (h : n < 128) : lebN n = [UInt8.ofNat n] := by rw [lebN, dif_pos h]
theorem lebN_big {n : Nat} (h : 128 ≤ n) : lebN n = UInt8.ofNat (n % 128 + 128) :: lebN (n / 128) := by rw [lebN, dif_neg (by omega)]
theorem lebN_length : ∀ (k n : Nat), n < 128 ^ (k + 1) → (lebN n).length ≤ k + 1
  | 0, n, h => by rw [lebN_small (by simpa using h)]; simp
  | k + 1, n, h => by
    by_cases hs : n < 128
    · rw [lebN_small hs]; simp
    · rw [lebN_big (by omega)]
      have := lebN_length k (n / 128) (by rw [Nat.pow_succ] at h; omega)
      simp; omega
theorem lebN_nine (n : Nat) (h : n ≤ 9223372036854775807) : (lebN n).length ≤ 9 := lebN_length 8 n (by omega)

theorem info_u8 : (Tryz.prog.info? 5).map (fun i => (i.zero, i.size, i.bytes)) = some (some (.int .u8 0), 1, 1) := by kernel_rfl

set_option maxHeartbeats 2000000 in
theorem number_walk (n : Nat) (w : World) (hn : n ≤ 9223372036854775807) :
    Calls Tryz.prog 96 #[.int .i64 n] w fun e w' => ∃ v, e = .returned v ∧ w'.ownsRow w.heap.size 5 1 v (lebN n).length (bv (lebN n)) ∧ Below w.heap.size w w' := by
  obtain ⟨i0, hi, hz0, hz1, hz2⟩ := info_parts info_u8
  go_enter Tryz.func96, Tryz.ntmps96
  go_wp2_with fail
  go_loopg [0, 3] n (fun gk vn vb wr => ∃ l, vn = .int .i64 (gk : Nat) ∧ gk ≤ n ∧ wr.ownsRow w.heap.size 5 1 vb l.length (bv l) ∧ l ++ lebN gk = lebN n ∧ Below w.heap.size w wr)
  case atStart => exact ⟨[], rfl, Nat.le_refl _, World.ownsRow_nil _ _ _ _, rfl, Below.refl _ _⟩
  case round =>
    obtain ⟨l, rfl, hgn, hown, hl, hB⟩ := hrel
    have HL := Lib.hid hl
    have hlen : l.length + (lebN gk).length ≤ 9 := by have := lebN_nine n hn; rw [← hl] at this; simpa using this
    clear hl
    obtain ⟨m, hm⟩ : ∃ m, m = l.length := ⟨_, rfl⟩
    rw [← hm] at hown hlen
    have HM := Lib.hid hm
    clear hm
    have HGN := Lib.hid hgn; have HNN := Lib.hid hn; have HO := Lib.hid hown; have HBB := Lib.hid hB
    clear hgn hn hown hB
    by_cases hbig : (128 : Int) ≤ (gk : Int)
    · have hlt : m + 1 ≤ 9 := by have := hlen; rw [lebN_big (by omega)] at this; simp at this; omega
      clear hlen
      go_wp2_with (at_builtin; refine wpList_append_at _ rfl _ _ 127 127 rfl w.heap.size 5 i0 (.int .u8 0) 1 1 Tryz.underlying127 hi hz0 hz1 hz2 rfl (by decide) _ m (bv l) rfl (HO.out.alloc _) _ 1 [.int .u8 ((gk : Int) % 128 + 128)] rfl (src_one _ Tryz.underlying127 _ _ rfl _) ?_ ?_ ?_ ?_)
      · unfold maxLen; omega
      · omega
      · have := HBB.out.size; simp; omega
      intro v' w2 hown2 hgrow hpl
      have hv : [Value.int .u8 ((gk : Int) % 128 + 128)] = bv [UInt8.ofNat (gk % 128 + 128)] := by
        simp only [bv, List.map_cons, List.map_nil, UInt8.toNat_ofNat']
        rw [Nat.mod_eq_of_lt (by omega)]
        congr 2
      have hB2 := (HBB.out.alloc HBB.out.size (.cells #[.int .u8 ((gk : Int) % 128 + 128)] 5)).grown hgrow (by have := HBB.out.size; simp; omega) (fun k hk => (HO.out.lt k hk).1)
      rw [hv, ← bv_append] at hown2
      have H1 := Lib.hid hown2; have H2 := Lib.hid hB2
      have HLT := Lib.hid hlt; have HBIG := Lib.hid hbig
      clear hown2 hB2 hgrow hpl hv hlt
      go_wp2_with fail
      go_roundg (gk / 128)
      case measure => have := HBIG.out; omega
      case rel =>
        refine ⟨l ++ [UInt8.ofNat (gk % 128 + 128)], congrArg (Value.int .i64) (by omega), by have := HGN.out; omega, ?_, ?_, H2.out⟩
        · rw [List.length_append, ← HM.out]
          exact H1.out
        · rw [← HL.out, lebN_big (n := gk) (by have := HBIG.out; omega), List.append_assoc]
          rfl
    · have hsm : lebN gk = [UInt8.ofNat gk] := lebN_small (by omega)
      rw [hsm] at hlen
      have HSM := Lib.hid hsm
      have hlt : m + 1 ≤ 9 := by simpa using hlen
      clear hlen hsm
      go_wp2_with (at_builtin; refine wpList_append_at _ rfl _ _ 127 127 rfl w.heap.size 5 i0 (.int .u8 0) 1 1 Tryz.underlying127 hi hz0 hz1 hz2 rfl (by decide) _ m (bv l) rfl (HO.out.alloc _) _ 1 [.int .u8 (gk : Int)] rfl (src_one _ Tryz.underlying127 _ _ rfl _) ?_ ?_ ?_ ?_)
      · unfold maxLen; omega
      · omega
      · have := HBB.out.size; simp; omega
      intro v' w2 hown2 hgrow hpl
      have hv : [Value.int .u8 (gk : Int)] = bv [UInt8.ofNat gk] := by
        simp only [bv, List.map_cons, List.map_nil, UInt8.toNat_ofNat']
        rw [Nat.mod_eq_of_lt (by omega)]
      have hB2 := (HBB.out.alloc HBB.out.size (.cells #[.int .u8 (gk : Int)] 5)).grown hgrow (by have := HBB.out.size; simp; omega) (fun k hk => (HO.out.lt k hk).1)
      rw [hv, ← bv_append] at hown2
      have H1 := Lib.hid hown2; have H2 := Lib.hid hB2
      clear hown2 hB2 hgrow hpl hv hlt
      go_wp2_with fail
      go_ret
      refine ⟨_, rfl, ?_, H2.out⟩
      have := H1.out
      rw [← HSM.out, HL.out] at this
      have hln : (lebN n).length = m + 1 := by rw [← HL.out, List.length_append, ← HM.out, HSM.out]; rfl
      rw [hln]
      exact this
end Go.Proofs.YtjjejkhekmpgcaaGreat

namespace Go.Proofs.YtjjejkhekmpgcaaGreat
set_option maxRecDepth 4000
open Go.RowKit

/-- a field's cells -/
def fld (n : Int) (s : ByteArray) (t : Bool) : Array Value := #[.int .i64 n, .string s, .bool t]
/-- a field behind what is laid -/
def putF (l : List UInt8) (n : Int) (s : ByteArray) (t : Bool) : List UInt8 :=
  if 65536 < l.length then l else if t = true then l ++ lebN s.size ++ s.data.toList.take 65536 else l ++ lebN n.toNat

theorem own_form {w : World} {base e size n : Nat} {v : Value} {xs : List Value} (h : w.ownsRow base e size v n xs) : ∃ ad cap, v = .slice ad n cap := by
  rcases h.2 with ⟨h1, h2⟩ | ⟨g, cap, _, hv, _⟩
  · exact ⟨none, 0, by rw [h1, h2]⟩
  · exact ⟨_, _, hv⟩
theorem own_ne {w : World} {base e size n k : Nat} {v : Value} {xs : List Value} (h : w.ownsRow base e size v n xs) {cs : Array Value} {t : TypeId} {fr : Nat × Nat} (ho : w.heap[k]? = some (.cells cs t fr)) (ht : t ≠ e) : v.ownBlock ≠ some k := by
  intro e'
  obtain ⟨c, fz, hc⟩ := Lib.ownsRow_kind h k e'
  rw [ho] at hc
  simp only [Option.some.injEq, Obj.cells.injEq] at hc
  exact ht hc.2.1
theorem own_below {w w' : World} {base e size n B : Nat} {v : Value} {xs : List Value} (h : w.ownsRow base e size v n xs) (hb : Below B w w') (hB : w.heap.size ≤ B) : w'.ownsRow base e size v n xs :=
  World.ownsRow.kept h (row := none) ⟨hb.os, hb.tape, hb.output, hb.size, fun k hk _ => hb.block k (by omega)⟩ (by cases v.ownBlock <;> simp)
theorem setCell_block {w : World} {g i : Nat} {cs : Array Value} {t : TypeId} {fr : Nat × Nat} (h : w.heap[g]? = some (.cells cs t fr)) (v : Value) : (w.setCell ⟨g, i, none⟩ v).heap[g]? = some (.cells (cs.setIfInBounds i v) t fr) := by
  rw [setCell_eq_setRow w g i cs t fr v h]
  exact setRow_heap w g _ _ t _ h

set_option maxHeartbeats 2000000 in
theorem lay1_number (q : Nat) (vb : Value) (l : List UInt8) (n : Nat) (s : ByteArray) (w : World) (hq : w.heap[q]? = some (.cells #[vb] 127 (0, 0))) (hrow : w.ownsRow (q + 1) 5 1 vb l.length (bv l)) (hl : l.length ≤ 65536) (hn : n ≤ 9223372036854775807) :
    Calls Tryz.prog 95 #[.agg (fld n s false), .pointer (some ⟨q, 0, none⟩)] w fun e w' => e = .returned (.tuple #[]) ∧ Below q w w' ∧ ∃ v', w'.heap[q]? = some (.cells #[v'] 127 (0, 0)) ∧ w'.ownsRow (q + 1) 5 1 v' (l ++ lebN n).length (bv (l ++ lebN n)) := by
  obtain ⟨i0, hi, hz0, hz1, hz2⟩ := info_parts info_u8
  have hlq := lt_of_block hq
  obtain ⟨m, hm⟩ : ∃ m, m = l.length := ⟨_, rfl⟩
  rw [← hm] at hrow hl
  obtain ⟨ad, cap, rfl⟩ := own_form hrow
  have HM := Lib.hid hm
  clear hm
  go_enter Tryz.func95, Tryz.ntmps95
  go_upto_region 2 with fail
  obtain ⟨f, hf⟩ : ∃ f, f = w.heap.size := ⟨_, rfl⟩
  have g0 := heap_alloc_top w (.cells (fld n s false) 116)
  have hB := (Below.refl w.heap.size w).alloc (Nat.le_refl _) (.cells (fld n s false) 116)
  have g1 := (heap_alloc_lt w (.cells (fld n s false) 116) q hlq).trans hq
  have hr1 : (w.alloc (.cells (fld n s false) 116)).ownsRow (q + 1) 5 1 (.slice ad m cap) m (bv l) := World.ownsRow.alloc hrow _
  rw [← hf] at g0 ⊢
  generalize w.alloc (.cells (fld n s false) 116) = W at g0 g1 hB hr1 ⊢
  have HF := Lib.hid hf
  have HB := Lib.hid (hB.mono (show q ≤ w.heap.size by omega))
  clear hf hq hrow hB
  have cq := cell_of_row W q 0 _ _ _ g1
  simp only [List.getElem?_toArray, List.getElem?_cons_zero] at cq
  have c2 : W.cell? ⟨f, 2, none⟩ = some (.bool false) := by rw [cell_of_row W f 2 _ _ _ g0]; rfl
  have G0 := Lib.hid g0; have G1 := Lib.hid g1; have HR := Lib.hid hr1
  clear g0 g1 hr1
  go_upto_region 1 with fail
  obtain ⟨S, hS⟩ : ∃ S : World → Prop, S = fun w' => w'.heap[q]? = some (.cells #[.slice ad m cap] 127 (0, 0)) ∧ w'.heap[f]? = some (.cells (fld n s false) 116 (0, 0)) := ⟨_, rfl⟩
  have hS0 : S W.drew := by rw [hS]; exact ⟨G1.out, G0.out⟩
  have hcq : ∀ w9, S w9 → w9.cell? ⟨q, 0, none⟩ = some (.slice ad m cap) := fun w9 h => by rw [hS] at h; rw [cell_of_row w9 q 0 _ _ _ h.1]; rfl
  have hc0 : ∀ w9, S w9 → w9.cell? ⟨f, 0, none⟩ = some (.int .i64 n) := fun w9 h => by rw [hS] at h; rw [cell_of_row w9 f 0 _ _ _ h.2]; rfl
  have HSB : ∀ w9 w', S w9 → Below w9.heap.size w9 w' → S w' := fun w9 w' h hb => by rw [hS] at h ⊢; exact ⟨(hb.block q (lt_of_block h.1)).trans h.1, (hb.block f (lt_of_block h.2)).trans h.2⟩
  have HSG : ∀ w9 w' row, S w9 → w9.grownBy w' row → some q ≠ row → some f ≠ row → S w' := fun w9 w' row h hg h1 h2 => by rw [hS] at h ⊢; exact ⟨(hg.block q (lt_of_block h.1) h1).trans h.1, (hg.block f (lt_of_block h.2) h2).trans h.2⟩
  have HSQ : ∀ w9, S w9 → w9.heap[q]? = some (.cells #[.slice ad m cap] 127 (0, 0)) ∧ w9.heap[f]? = some (.cells (fld n s false) 116 (0, 0)) := fun w9 h => by rw [hS] at h; exact h
  have KSB := Lib.hid HSB; have KSG := Lib.hid HSG; have KSQ := Lib.hid HSQ
  clear hS HSB HSG HSQ cq c2
  refine wp_region_mixT S 5 [(0,true,true),(1,true,true),(2,true,true),(3,false,true),(4,false,true),(5,false,false)] (by kernel_rfl) (by kernel_rfl) hS0 ?_
  have hb0 : Below q w W.drew := HB.out.drew
  have hr0 : W.drew.ownsRow (q + 1) 5 1 (.slice ad m cap) m (bv l) := HR.out
  generalize W.drew = w0 at hb0 hr0 hS0 ⊢
  simp only [List.filterMap_cons, List.filterMap_nil, List.getElem?_cons_zero, List.getElem?_cons_succ, Option.map_some]
  repeat (refine mixT_read (by rfl) ?_; apply Exists.intro; refine ⟨fun w9 hw9 => ?_, ?_⟩; (· have d1 := hcq w9 hw9; have d2 := hc0 w9 hw9; go_simp; rfl); simp only [Act.put, List.setIfInBounds_toArray, List.set_cons_succ, List.set_cons_zero])
  refine mixT_step (by rfl) (fun K' hK => ?_)
  go_simp
  go_at_call 96
  refine (number_walk n _ hn).mono ?_
  rintro e w1 ⟨v1, rfl, hown1, hb1⟩
  have hS1 := KSB.out _ _ hS0 hb1
  refine hK _ _ hS1 ?_
  clear hK K'
  try simp only [Act.put, List.setIfInBounds_toArray, List.set_cons_succ, List.set_cons_zero]
  have hr1 := own_below hr0 hb1 (Nat.le_refl _)
  have hsq0 := (KSQ.out _ hS0)
  have hb01 := hb0.trans (hb1.mono (Nat.le_of_lt (lt_of_block hsq0.1)))
  clear hr0 hb0 hS0 hsq0
  have hln : (lebN n).length ≤ 9 := lebN_nine n hn
  obtain ⟨j, hj⟩ : ∃ j, j = (lebN n).length := ⟨_, rfl⟩
  rw [← hj] at hown1 hln
  have HJ := Lib.hid hj
  clear hj
  refine mixT_step (by rfl) (fun K' hK => ?_)
  have hq1 := (KSQ.out _ hS1).1
  have hf1 := (KSQ.out _ hS1).2
  refine wp_append_at _ _ _ 127 127 rfl (q + 1) 5 i0 (.int .u8 0) 1 1 Tryz.underlying127 hi hz0 hz1 hz2 rfl (by decide) _ m (bv l) rfl hr1 _ j (bv (lebN n)) rfl (src_own _ Tryz.underlying127 hown1 (bv_one _)) (by unfold maxLen; omega) (by omega) (by have := lt_of_block hq1; omega) ?_
  intro v2 w2 hown2 hgrow hpl
  have hnq := own_ne hr1 hq1 (by decide)
  have hnf := own_ne hr1 hf1 (by decide)
  have hS2 := KSG.out _ _ _ hS1 hgrow (fun e => hnq e.symm) (fun e => hnf e.symm)
  refine hK _ _ hS2 ?_
  clear hK K'
  try simp only [Act.put, List.setIfInBounds_toArray, List.set_cons_succ, List.set_cons_zero]
  rw [← bv_append] at hown2
  have hb2 : Below q w w2 := hb01.trans ⟨hgrow.os, hgrow.tape, hgrow.output, hgrow.size, fun k hk => hgrow.block k (by have := lt_of_block hq1; omega) (fun e => by have := (hr1.lt k e.symm).1; omega)⟩
  have hq2 := (KSQ.out _ hS2).1
  have c2 := hcq _ hS2
  have f2 : w2.frozen? ⟨q, 0, none⟩ = false := by simp [World.frozen?, hq2]
  obtain ⟨ad2, cap2, rfl⟩ := own_form hown2
  have HQ2 := Lib.hid hq2; have HO := Lib.hid hown2; have HB2 := Lib.hid hb2
  clear hq1 hf1 hgrow hpl hnq hnf hown2 hb2 hq2 hr1 hown1 hb01 hS1 hb1 hcq hc0
  refine mixT_tail (by rfl) (fun K' hK => ?_)
  go_simp
  refine hK _ _ ?_
  clear hK K'
  try simp only [Act.put, List.setIfInBounds_toArray, List.set_cons_succ, List.set_cons_zero]
  refine mixT_nil (NoPanic.normal ?_)
  go_wp2_with fail
  refine bodyPost_end (results_none rfl _ _ _) rfl ⟨rfl, HB2.out.setCell (Nat.le_refl _) _, _, setCell_block HQ2.out _, ?_⟩
  have ho := HO.out
  have hlen : (l ++ lebN n).length = m + j := by rw [List.length_append, HM.out, HJ.out]
  rw [hlen]
  refine ownsRow_setCell_other ho (fun e => ?_) _
  have := (ho.lt q e).1
  omega
end Go.Proofs.YtjjejkhekmpgcaaGreat

namespace Go.Proofs.YtjjejkhekmpgcaaGreat
set_option maxRecDepth 4000
open Go.RowKit

set_option maxHeartbeats 2000000 in
theorem lay1_text_go (R : List UInt8) (q : Nat) (vb : Value) (l : List UInt8) (n : Int) (s : ByteArray) (w : World) (hq : w.heap[q]? = some (.cells #[vb] 127 (0, 0))) (hrow : w.ownsRow (q + 1) 5 1 vb l.length (bv l)) (hl : l.length ≤ 65536) (hn : s.size ≤ 9223372036854775807) (hR : R = l ++ lebN s.size ++ s.data.toList.take 65536) :
    Calls Tryz.prog 95 #[.agg (fld n s true), .pointer (some ⟨q, 0, none⟩)] w fun e w' => e = .returned (.tuple #[]) ∧ Below q w w' ∧ ∃ v', w'.heap[q]? = some (.cells #[v'] 127 (0, 0)) ∧ w'.ownsRow (q + 1) 5 1 v' R.length (bv R) := by
  obtain ⟨i0, hi, hz0, hz1, hz2⟩ := info_parts info_u8
  have HRR := Lib.hid hR
  clear hR
  have hlq := lt_of_block hq
  obtain ⟨m, hm⟩ : ∃ m, m = l.length := ⟨_, rfl⟩
  rw [← hm] at hrow hl
  obtain ⟨ad, cap, rfl⟩ := own_form hrow
  have HM := Lib.hid hm
  clear hm
  go_enter Tryz.func95, Tryz.ntmps95
  go_upto_region 2 with fail
  obtain ⟨f, hf⟩ : ∃ f, f = w.heap.size := ⟨_, rfl⟩
  have g0 := heap_alloc_top w (.cells (fld n s true) 116)
  have hB := (Below.refl w.heap.size w).alloc (Nat.le_refl _) (.cells (fld n s true) 116)
  have g1 := (heap_alloc_lt w (.cells (fld n s true) 116) q hlq).trans hq
  have hr1 : (w.alloc (.cells (fld n s true) 116)).ownsRow (q + 1) 5 1 (.slice ad m cap) m (bv l) := World.ownsRow.alloc hrow _
  rw [← hf] at g0 ⊢
  generalize w.alloc (.cells (fld n s true) 116) = W at g0 g1 hB hr1 ⊢
  have HF := Lib.hid hf
  have HB := Lib.hid (hB.mono (show q ≤ w.heap.size by omega))
  clear hf hq hrow hB
  have cq := cell_of_row W q 0 _ _ _ g1
  simp only [List.getElem?_toArray, List.getElem?_cons_zero] at cq
  have c2 : W.cell? ⟨f, 2, none⟩ = some (.bool true) := by rw [cell_of_row W f 2 _ _ _ g0]; rfl
  have G0 := Lib.hid g0; have G1 := Lib.hid g1; have HR := Lib.hid hr1
  clear g0 g1 hr1
  go_upto_region 4 with fail
  obtain ⟨S, hS⟩ : ∃ S : World → Prop, S = fun w' => w'.heap[q]? = some (.cells #[.slice ad m cap] 127 (0, 0)) ∧ w'.heap[f]? = some (.cells (fld n s true) 116 (0, 0)) := ⟨_, rfl⟩
  have hS0 : S W.drew := by rw [hS]; exact ⟨G1.out, G0.out⟩
  have hcq : ∀ w9, S w9 → w9.cell? ⟨q, 0, none⟩ = some (.slice ad m cap) := fun w9 h => by rw [hS] at h; rw [cell_of_row w9 q 0 _ _ _ h.1]; rfl
  have hc0 : ∀ w9, S w9 → w9.cell? ⟨f, 1, none⟩ = some (.string s) := fun w9 h => by rw [hS] at h; rw [cell_of_row w9 f 1 _ _ _ h.2]; rfl
  have HSB : ∀ w9 w', S w9 → Below w9.heap.size w9 w' → S w' := fun w9 w' h hb => by rw [hS] at h ⊢; exact ⟨(hb.block q (lt_of_block h.1)).trans h.1, (hb.block f (lt_of_block h.2)).trans h.2⟩
  have HSG : ∀ w9 w' row, S w9 → w9.grownBy w' row → some q ≠ row → some f ≠ row → S w' := fun w9 w' row h hg h1 h2 => by rw [hS] at h ⊢; exact ⟨(hg.block q (lt_of_block h.1) h1).trans h.1, (hg.block f (lt_of_block h.2) h2).trans h.2⟩
  have HSQ : ∀ w9, S w9 → w9.heap[q]? = some (.cells #[.slice ad m cap] 127 (0, 0)) ∧ w9.heap[f]? = some (.cells (fld n s true) 116 (0, 0)) := fun w9 h => by rw [hS] at h; exact h
  have KSB := Lib.hid HSB; have KSG := Lib.hid HSG; have KSQ := Lib.hid HSQ
  clear hS HSB HSG HSQ cq c2
  refine wp_region_mixT S 14 [(0,true,true),(1,true,true),(2,true,true),(3,true,true),(6,true,true),(7,true,true),(8,true,true),(9,true,true),(10,true,true),(11,true,true),(12,true,true),(4,false,true),(5,false,true),(13,false,true),(14,false,false)] (by kernel_rfl) (by kernel_rfl) hS0 ?_
  have hb0 : Below q w W.drew := HB.out.drew
  have hr0 : W.drew.ownsRow (q + 1) 5 1 (.slice ad m cap) m (bv l) := HR.out
  generalize W.drew = w0 at hb0 hr0 hS0 ⊢
  simp only [List.filterMap_cons, List.filterMap_nil, List.getElem?_cons_zero, List.getElem?_cons_succ, Option.map_some]
  have hx1 : s.size ≤ 65536 → (s.extract 0 s.size).data.toList = s.data.toList.take 65536 := fun h => by
    rw [ByteArray.data_extract, Array.toList_extract, List.take_of_length_le (i := 65536) (by exact h)]
    exact List.take_of_length_le (by exact Nat.le_of_eq rfl)
  have hx2 : (s.extract 0 65536).data.toList = s.data.toList.take 65536 := by
    rw [ByteArray.data_extract, Array.toList_extract]; rfl
  have HX1 := Lib.hid hx1; have HX2 := Lib.hid hx2
  clear hx1 hx2
  by_cases hsm : (65536 : Int) < s.size
  ·
    have HSM := Lib.hid hsm
    have hsm2 : (65536 : Int) ≤ s.size := by omega
    have hsd : (s.extract 0 65536).data.toList = s.data.toList.take 65536 := HX2.out
    obtain ⟨z, hz⟩ : ∃ z, z = (s.extract 0 65536).size := ⟨_, rfl⟩
    have hsz : z ≤ 65536 := by rw [hz, ByteArray.size_extract]; omega
    have HSD := Lib.hid hsd; have HSZ := Lib.hid hsz; have HZ := Lib.hid hz
    clear hsd hsz hz
    repeat (refine mixT_read (by rfl) ?_; apply Exists.intro; refine ⟨fun w9 hw9 => ?_, ?_⟩; (· have d1 := hcq w9 hw9; have d2 := hc0 w9 hw9; go_simp; rfl); simp only [Act.put, List.setIfInBounds_toArray, List.set_cons_succ, List.set_cons_zero])
    refine mixT_step (by rfl) (fun K' hK => ?_)
    go_simp
    go_at_call 96
    refine (number_walk s.size _ hn).mono ?_
    rintro e w1 ⟨v1, rfl, hown1, hb1⟩
    have hS1 := KSB.out _ _ hS0 hb1
    refine hK _ _ hS1 ?_
    clear hK K'
    try simp only [Act.put, List.setIfInBounds_toArray, List.set_cons_succ, List.set_cons_zero]
    have hr1 := own_below hr0 hb1 (Nat.le_refl _)
    have hsq0 := (KSQ.out _ hS0)
    have hb01 := hb0.trans (hb1.mono (Nat.le_of_lt (lt_of_block hsq0.1)))
    clear hr0 hb0 hS0 hsq0
    have hln : (lebN s.size).length ≤ 9 := lebN_nine s.size hn
    obtain ⟨j, hj⟩ : ∃ j, j = (lebN s.size).length := ⟨_, rfl⟩
    rw [← hj] at hown1 hln
    have HJ := Lib.hid hj
    clear hj
    refine mixT_step (by rfl) (fun K' hK => ?_)
    have hq1 := (KSQ.out _ hS1).1
    have hf1 := (KSQ.out _ hS1).2
    refine wp_append_at _ _ _ 127 127 rfl (q + 1) 5 i0 (.int .u8 0) 1 1 Tryz.underlying127 hi hz0 hz1 hz2 rfl (by decide) _ m (bv l) rfl hr1 _ j (bv (lebN s.size)) rfl (src_own _ Tryz.underlying127 hown1 (bv_one _)) (by unfold maxLen; omega) (by omega) (by have := lt_of_block hq1; omega) ?_
    intro v2 w2 hown2 hgrow hpl
    have hnq := own_ne hr1 hq1 (by decide)
    have hnf := own_ne hr1 hf1 (by decide)
    have hS2 := KSG.out _ _ _ hS1 hgrow (fun e => hnq e.symm) (fun e => hnf e.symm)
    refine hK _ _ hS2 ?_
    clear hK K'
    try simp only [Act.put, List.setIfInBounds_toArray, List.set_cons_succ, List.set_cons_zero]
    rw [← bv_append] at hown2
    have hb2 : Below q w w2 := hb01.trans ⟨hgrow.os, hgrow.tape, hgrow.output, hgrow.size, fun k hk => hgrow.block k (by have := lt_of_block hq1; omega) (fun e => by have := (hr1.lt k e.symm).1; omega)⟩
    clear hq1 hf1 hgrow hpl hnq hnf hr1 hown1 hb01 hS1 hb1
    refine mixT_step (by rfl) (fun K' hK => ?_)
    have hq1 := (KSQ.out _ hS2).1
    have hf1 := (KSQ.out _ hS2).2
    refine wp_append_at _ _ _ 127 9 rfl (q + 1) 5 i0 (.int .u8 0) 1 1 Tryz.underlying127 hi hz0 hz1 hz2 rfl (by decide) _ (m + j) (bv (l ++ lebN s.size)) rfl hown2 _ z (bv (s.extract 0 65536).data.toList) rfl (by rw [HZ.out]; exact src_bytes _ Tryz.underlying9 (s.extract 0 65536)) (by have := HSZ.out; unfold maxLen; omega) (by have := HSZ.out; omega) (by have := lt_of_block hq1; omega) ?_
    intro v3 w3 hown3 hgrow hpl
    have hnq := own_ne hown2 hq1 (by decide)
    have hnf := own_ne hown2 hf1 (by decide)
    have hS3 := KSG.out _ _ _ hS2 hgrow (fun e => hnq e.symm) (fun e => hnf e.symm)
    refine hK _ _ hS3 ?_
    clear hK K'
    try simp only [Act.put, List.setIfInBounds_toArray, List.set_cons_succ, List.set_cons_zero]
    rw [← bv_append, HSD.out, ← HRR.out] at hown3
    have hb3 : Below q w w3 := hb2.trans ⟨hgrow.os, hgrow.tape, hgrow.output, hgrow.size, fun k hk => hgrow.block k (by have := lt_of_block hq1; omega) (fun e => by have := (hown2.lt k e.symm).1; omega)⟩
    have hq3 := (KSQ.out _ hS3).1
    have c3 := hcq _ hS3
    have f3 : w3.frozen? ⟨q, 0, none⟩ = false := by simp [World.frozen?, hq3]
    obtain ⟨ad3, cap3, rfl⟩ := own_form hown3
    have HQ3 := Lib.hid hq3; have HO := Lib.hid hown3; have HB3 := Lib.hid hb3
    clear hq1 hf1 hgrow hpl hnq hnf hown3 hb3 hq3 hown2 hb2 hS2 hcq hc0
    refine mixT_tail (by rfl) (fun K' hK => ?_)
    go_simp
    refine hK _ _ ?_
    clear hK K'
    try simp only [Act.put, List.setIfInBounds_toArray, List.set_cons_succ, List.set_cons_zero]
    refine mixT_nil (NoPanic.normal ?_)
    go_wp2_with fail
    refine bodyPost_end (results_none rfl _ _ _) rfl ⟨rfl, HB3.out.setCell (Nat.le_refl _) _, _, setCell_block HQ3.out _, ?_⟩
    have ho := HO.out
    have hlen : R.length = m + j + z := by rw [HRR.out, List.length_append, List.length_append, HM.out, HJ.out, HZ.out, ← HSD.out]; rfl
    rw [hlen]
    refine ownsRow_setCell_other ho (fun e => ?_) _
    have := (ho.lt q e).1
    omega
  ·
    have HSM := Lib.hid hsm
    have hsd : s.data.toList = s.data.toList.take 65536 := by rw [List.take_of_length_le (by show s.size ≤ 65536; omega)]
    obtain ⟨z, hz⟩ : ∃ z, z = s.size := ⟨_, rfl⟩
    have hsz : z ≤ 65536 := by omega
    have HSD := Lib.hid hsd; have HSZ := Lib.hid hsz; have HZ := Lib.hid hz
    clear hsd hsz hz
    repeat (refine mixT_read (by rfl) ?_; apply Exists.intro; refine ⟨fun w9 hw9 => ?_, ?_⟩; (· have d1 := hcq w9 hw9; have d2 := hc0 w9 hw9; go_simp; rfl); simp only [Act.put, List.setIfInBounds_toArray, List.set_cons_succ, List.set_cons_zero])
    refine mixT_step (by rfl) (fun K' hK => ?_)
    go_simp
    go_at_call 96
    refine (number_walk s.size _ hn).mono ?_
    rintro e w1 ⟨v1, rfl, hown1, hb1⟩
    have hS1 := KSB.out _ _ hS0 hb1
    refine hK _ _ hS1 ?_
    clear hK K'
    try simp only [Act.put, List.setIfInBounds_toArray, List.set_cons_succ, List.set_cons_zero]
    have hr1 := own_below hr0 hb1 (Nat.le_refl _)
    have hsq0 := (KSQ.out _ hS0)
    have hb01 := hb0.trans (hb1.mono (Nat.le_of_lt (lt_of_block hsq0.1)))
    clear hr0 hb0 hS0 hsq0
    have hln : (lebN s.size).length ≤ 9 := lebN_nine s.size hn
    obtain ⟨j, hj⟩ : ∃ j, j = (lebN s.size).length := ⟨_, rfl⟩
    rw [← hj] at hown1 hln
    have HJ := Lib.hid hj
    clear hj
    refine mixT_step (by rfl) (fun K' hK => ?_)
    have hq1 := (KSQ.out _ hS1).1
    have hf1 := (KSQ.out _ hS1).2
    refine wp_append_at _ _ _ 127 127 rfl (q + 1) 5 i0 (.int .u8 0) 1 1 Tryz.underlying127 hi hz0 hz1 hz2 rfl (by decide) _ m (bv l) rfl hr1 _ j (bv (lebN s.size)) rfl (src_own _ Tryz.underlying127 hown1 (bv_one _)) (by unfold maxLen; omega) (by omega) (by have := lt_of_block hq1; omega) ?_
    intro v2 w2 hown2 hgrow hpl
    have hnq := own_ne hr1 hq1 (by decide)
    have hnf := own_ne hr1 hf1 (by decide)
    have hS2 := KSG.out _ _ _ hS1 hgrow (fun e => hnq e.symm) (fun e => hnf e.symm)
    refine hK _ _ hS2 ?_
    clear hK K'
    try simp only [Act.put, List.setIfInBounds_toArray, List.set_cons_succ, List.set_cons_zero]
    rw [← bv_append] at hown2
    have hb2 : Below q w w2 := hb01.trans ⟨hgrow.os, hgrow.tape, hgrow.output, hgrow.size, fun k hk => hgrow.block k (by have := lt_of_block hq1; omega) (fun e => by have := (hr1.lt k e.symm).1; omega)⟩
    clear hq1 hf1 hgrow hpl hnq hnf hr1 hown1 hb01 hS1 hb1
    refine mixT_step (by rfl) (fun K' hK => ?_)
    have hq1 := (KSQ.out _ hS2).1
    have hf1 := (KSQ.out _ hS2).2
    refine wp_append_at _ _ _ 127 9 rfl (q + 1) 5 i0 (.int .u8 0) 1 1 Tryz.underlying127 hi hz0 hz1 hz2 rfl (by decide) _ (m + j) (bv (l ++ lebN s.size)) rfl hown2 _ z (bv s.data.toList) rfl (by rw [HZ.out]; exact src_bytes _ Tryz.underlying9 s) (by have := HSZ.out; unfold maxLen; omega) (by have := HSZ.out; omega) (by have := lt_of_block hq1; omega) ?_
    intro v3 w3 hown3 hgrow hpl
    have hnq := own_ne hown2 hq1 (by decide)
    have hnf := own_ne hown2 hf1 (by decide)
    have hS3 := KSG.out _ _ _ hS2 hgrow (fun e => hnq e.symm) (fun e => hnf e.symm)
    refine hK _ _ hS3 ?_
    clear hK K'
    try simp only [Act.put, List.setIfInBounds_toArray, List.set_cons_succ, List.set_cons_zero]
    rw [← bv_append, HSD.out, ← HRR.out] at hown3
    have hb3 : Below q w w3 := hb2.trans ⟨hgrow.os, hgrow.tape, hgrow.output, hgrow.size, fun k hk => hgrow.block k (by have := lt_of_block hq1; omega) (fun e => by have := (hown2.lt k e.symm).1; omega)⟩
    have hq3 := (KSQ.out _ hS3).1
    have c3 := hcq _ hS3
    have f3 : w3.frozen? ⟨q, 0, none⟩ = false := by simp [World.frozen?, hq3]
    obtain ⟨ad3, cap3, rfl⟩ := own_form hown3
    have HQ3 := Lib.hid hq3; have HO := Lib.hid hown3; have HB3 := Lib.hid hb3
    clear hq1 hf1 hgrow hpl hnq hnf hown3 hb3 hq3 hown2 hb2 hS2 hcq hc0
    refine mixT_tail (by rfl) (fun K' hK => ?_)
    go_simp
    refine hK _ _ ?_
    clear hK K'
    try simp only [Act.put, List.setIfInBounds_toArray, List.set_cons_succ, List.set_cons_zero]
    refine mixT_nil (NoPanic.normal ?_)
    go_wp2_with fail
    refine bodyPost_end (results_none rfl _ _ _) rfl ⟨rfl, HB3.out.setCell (Nat.le_refl _) _, _, setCell_block HQ3.out _, ?_⟩
    have ho := HO.out
    have hlen : R.length = m + j + z := by rw [HRR.out, List.length_append, List.length_append, HM.out, HJ.out, HZ.out, ← HSD.out]; rfl
    rw [hlen]
    refine ownsRow_setCell_other ho (fun e => ?_) _
    have := (ho.lt q e).1
    omega
end Go.Proofs.YtjjejkhekmpgcaaGreat

namespace Go.Proofs.YtjjejkhekmpgcaaGreat
set_option maxRecDepth 4000
open Go.RowKit

abbrev Fld := Int × ByteArray × Bool
theorem info_fld : (Tryz.prog.info? 116).map (·.size) = some 3 := by kernel_rfl
theorem putF_le (l : List UInt8) (n : Int) (s : ByteArray) (t : Bool) (hl : l.length ≤ 140000) (hn : n ≤ 9223372036854775807) (hs : s.size ≤ 9223372036854775807) : (putF l n s t).length ≤ 140000 := by
  unfold putF
  by_cases h : 65536 < l.length
  · rw [if_pos h]; omega
  · rw [if_neg h]
    cases t with
    | true =>
      have := lebN_nine s.size hs
      simp; omega
    | false =>
      have := lebN_nine n.toNat (by omega)
      simp; omega

set_option maxHeartbeats 1000000 in
theorem lay1_full (q : Nat) (vb : Value) (l : List UInt8) (n : Int) (s : ByteArray) (t : Bool) (w : World) (hq : w.heap[q]? = some (.cells #[vb] 127 (0, 0))) (hrow : w.ownsRow (q + 1) 5 1 vb l.length (bv l)) (hl : 65536 < l.length) :
    Calls Tryz.prog 95 #[.agg (fld n s t), .pointer (some ⟨q, 0, none⟩)] w fun e w' => e = .returned (.tuple #[]) ∧ Below q w w' ∧ ∃ v', w'.heap[q]? = some (.cells #[v'] 127 (0, 0)) ∧ w'.ownsRow (q + 1) 5 1 v' l.length (bv l) := by
  have hlq := lt_of_block hq
  obtain ⟨m, hm⟩ : ∃ m, m = l.length := ⟨_, rfl⟩
  rw [← hm] at hrow hl ⊢
  obtain ⟨ad, cap, rfl⟩ := own_form hrow
  clear hm
  go_enter Tryz.func95, Tryz.ntmps95
  go_upto_region 2 with fail
  have hB := (Below.refl w.heap.size w).alloc (Nat.le_refl _) (.cells (fld n s t) 116)
  have g1 := (heap_alloc_lt w (.cells (fld n s t) 116) q hlq).trans hq
  have hr1 : (w.alloc (.cells (fld n s t) 116)).ownsRow (q + 1) 5 1 (.slice ad m cap) m (bv l) := World.ownsRow.alloc hrow _
  obtain ⟨f, hf⟩ : ∃ f, f = w.heap.size := ⟨_, rfl⟩
  rw [← hf]
  generalize w.alloc (.cells (fld n s t) 116) = W at g1 hB hr1 ⊢
  have HB := Lib.hid (hB.mono (show q ≤ w.heap.size by omega))
  have cq := cell_of_row W q 0 _ _ _ g1
  simp only [List.getElem?_toArray, List.getElem?_cons_zero] at cq
  have G1 := Lib.hid g1; have HR := Lib.hid hr1
  clear g1 hr1 hB hf hq hrow
  go_wp2_with fail
  exact bodyPost_end (results_none rfl _ _ _) rfl ⟨rfl, HB.out, _, G1.out, HR.out⟩

theorem lay1_walk (q : Nat) (vb : Value) (l : List UInt8) (n : Int) (s : ByteArray) (t : Bool) (w : World) (hq : w.heap[q]? = some (.cells #[vb] 127 (0, 0))) (hrow : w.ownsRow (q + 1) 5 1 vb l.length (bv l))
    (hn : n ≤ 9223372036854775807) (hs : s.size ≤ 9223372036854775807) (h0 : t = false → 0 ≤ n) :
    Calls Tryz.prog 95 #[.agg (fld n s t), .pointer (some ⟨q, 0, none⟩)] w fun e w' => e = .returned (.tuple #[]) ∧ Below q w w' ∧ ∃ v', w'.heap[q]? = some (.cells #[v'] 127 (0, 0)) ∧ w'.ownsRow (q + 1) 5 1 v' (putF l n s t).length (bv (putF l n s t)) := by
  unfold putF
  by_cases h : 65536 < l.length
  · rw [if_pos h]
    exact lay1_full q vb l n s t w hq hrow h
  · rw [if_neg h]
    cases t with
    | true =>
      rw [if_pos rfl]
      exact lay1_text_go _ q vb l n s w hq hrow (by omega) hs rfl
    | false =>
      rw [if_neg (by simp)]
      obtain ⟨k, rfl⟩ := Int.eq_ofNat_of_zero_le (h0 rfl)
      exact lay1_number q vb l k s w hq hrow (by omega) (by omega)

theorem n_walk (n : Int) (w : World) : Calls Tryz.prog 72 #[.int .i64 n] w fun e w' => e = .returned (.agg (fld n ⟨#[]⟩ false)) ∧ Below w.heap.size w w' := by
  go_enter Tryz.func72, Tryz.ntmps72
  go_wp2_with fail
  exact bodyPost_ret (v := .agg (fld n ⟨#[]⟩ false)) (results_cell_row rfl _ _ w.heap.size 116 (fld n ⟨#[]⟩ false) (0, 0) _ rfl (heap_alloc_top _ _) Tryz.underlying116 rfl info_fld) rfl ⟨rfl, (Below.refl _ _).alloc (Nat.le_refl _) _⟩
theorem t_walk (s : ByteArray) (w : World) : Calls Tryz.prog 75 #[.string s] w fun e w' => e = .returned (.agg (fld 0 s true)) ∧ Below w.heap.size w w' := by
  go_enter Tryz.func75, Tryz.ntmps75
  go_wp2_with fail
  exact bodyPost_ret (v := .agg (fld 0 s true)) (results_cell_row rfl _ _ w.heap.size 116 (fld 0 s true) (0, 0) _ rfl (heap_alloc_top _ _) Tryz.underlying116 rfl info_fld) rfl ⟨rfl, (Below.refl _ _).alloc (Nat.le_refl _) _⟩
end Go.Proofs.YtjjejkhekmpgcaaGreat

namespace Go.Proofs.YtjjejkhekmpgcaaGreat
set_option maxRecDepth 4000
open Go.RowKit

/-- these fields lie there -/
def fldsAt (w : World) (ad : Option Addr) (fs : List Fld) : Prop :=
  fs = [] ∨ ∃ b off, ad = some ⟨b, off, none⟩ ∧ b < w.heap.size ∧ ∀ i (h : i < fs.length), ∀ (j : Nat) (u : Value), [Value.int .i64 fs[i].1, .string fs[i].2.1, .bool fs[i].2.2][j]? = some u → w.cell? ⟨b, off + i * 3 + j, none⟩ = some u
theorem fldsAt_below {w w' : World} {B : Nat} {ad : Option Addr} {l : List Fld} (h : fldsAt w ad l) (hB : w.heap.size ≤ B) (hb : Below B w w') : fldsAt w' ad l := by
  rcases h with h | ⟨b, off, h1, h2, h3⟩
  · exact .inl h
  · refine .inr ⟨b, off, h1, by have := hb.size; omega, fun i hi j u hu => ?_⟩
    rw [hb.cell (p := ⟨b, off + i * 3 + j, none⟩) (by simp; omega)]
    exact h3 i hi j u hu

def badF (f : Fld) : Bool := !f.2.2 && decide (f.1 < 0)
def layB (fs : List Fld) : List UInt8 := fs.foldl (fun l f => putF l f.1 f.2.1 f.2.2) []
/-- what Lay answers -/
def lay (fs : List Fld) : ByteArray × Int :=
  if fs.any badF = true then (⟨#[]⟩, 3) else if 65536 < (layB fs).length then (⟨#[]⟩, 4) else (⟨(layB fs).toArray⟩, 0)
theorem layB_snoc (fs : List Fld) (f : Fld) : layB (fs ++ [f]) = putF (layB fs) f.1 f.2.1 f.2.2 := by simp [layB]
theorem layB_le : ∀ (fs : List Fld) (l : List UInt8), (∀ f ∈ fs, f.1 ≤ 9223372036854775807 ∧ f.2.1.size ≤ 9223372036854775807) → l.length ≤ 140000 → (fs.foldl (fun l f => putF l f.1 f.2.1 f.2.2) l).length ≤ 140000
  | [], l, _, hl => hl
  | f :: r, l, h, hl => layB_le r _ (fun g hg => h g (by simp [hg])) (putF_le l f.1 f.2.1 f.2.2 hl (h f (by simp)).1 (h f (by simp)).2)

set_option maxHeartbeats 4000000 in
theorem lay_walk (ad : Option Addr) (cap : Nat) (fs : List Fld) (w : World) (hl : fldsAt w ad fs) (hs : fs.length ≤ 9223372036854775807) (hok : ∀ f ∈ fs, f.1 ≤ 9223372036854775807 ∧ f.2.1.size ≤ 9223372036854775807) :
    Calls Tryz.prog 71 #[.slice ad fs.length cap] w fun e w' => e = .returned (.tuple #[.string (lay fs).1, .int .i64 (lay fs).2]) ∧ Below w.heap.size w w' := by
  have hzv : ∀ w, (zeroValue 116).run Tryz.prog w = .ok (.agg #[.int .i64 0, .string ⟨#[]⟩, .bool false]) w := fun _ => by kernel_rfl
  have HL := Lib.hid hl
  have HOK := Lib.hid hok
  clear hl hok
  go_enter Tryz.func71, Tryz.ntmps71
  go_upto_region 3 with fail
  obtain ⟨q, hq⟩ : ∃ q, q = w.heap.size := ⟨_, rfl⟩
  have g0 := heap_alloc_top w (.cells #[.slice none 0 0] 127)
  have hB := (Below.refl w.heap.size w).alloc (Nat.le_refl _) (.cells #[.slice none 0 0] 127)
  rw [← hq] at g0 hB ⊢
  generalize w.alloc (.cells #[.slice none 0 0] 127) = W at g0 hB ⊢
  have HQ := Lib.hid hq; have HB := Lib.hid hB; have G0 := Lib.hid g0
  clear hq hB g0
  go_wp2_with fail
  go_loopg [13] fs.length (fun gk i wr => ∃ k : Nat, k + gk = fs.length ∧ i = .int .i64 k ∧ (∀ j (h : j < fs.length), j < k → badF fs[j] = false) ∧ wr.heap[q]? = some (.cells #[.slice none 0 0] 127 (0, 0)) ∧ Below q w wr)
  case atStart => exact ⟨0, by omega, rfl, fun j _ h => absurd h (by omega), G0.out, HB.out⟩
  case round =>
    obtain ⟨k, hgk, rfl, hgood, hqq, hb⟩ := hrel
    have HGD := Lib.hid hgood; have HQQ := Lib.hid hqq; have HBB := Lib.hid hb
    clear hgood hqq hb
    by_cases hlt : k < fs.length
    · have hat := fldsAt_below HL.out (Nat.le_of_eq HQ.out.symm) HBB.out
      rcases hat with hat | ⟨b, off, rfl, hbl, hcs⟩
      · simp [hat] at hlt
      have hcc := hcs k hlt
      obtain ⟨x, hx⟩ : ∃ x, x = fs[k] := ⟨_, rfl⟩
      rw [← hx] at hcc
      have HX := Lib.hid hx
      have HCC := Lib.hid hcc
      clear hcs hx hcc
      obtain ⟨n, s, t⟩ := x
      go_upto_region 6 with (refine wpList_cells 116 _ rfl b (off + k * 3) rfl rfl [.int .i64 n, .string s, .bool t] _ HCC.out Tryz.underlying116 rfl (by kernel_rfl) ?_)
      have e1 := (heap_alloc_lt wr (.cells #[.int .i64 n, .string s, .bool t] 116) q (lt_of_block HQQ.out)).trans HQQ.out
      have e2 := heap_alloc_top wr (.cells #[.int .i64 n, .string s, .bool t] 116)
      have eB := HBB.out.alloc (by have := lt_of_block HQQ.out; omega) (.cells #[.int .i64 n, .string s, .bool t] 116)
      obtain ⟨p, hp⟩ : ∃ p, p = wr.heap.size := ⟨_, rfl⟩
      rw [← hp] at e2 ⊢
      generalize wr.alloc (.cells #[.int .i64 n, .string s, .bool t] 116) = W3 at e1 e2 eB ⊢
      have c0 : W3.cell? ⟨p, 0, none⟩ = some (.int .i64 n) := by rw [cell_of_row W3 p 0 _ _ _ e2]; rfl
      have c2 : W3.cell? ⟨p, 2, none⟩ = some (.bool t) := by rw [cell_of_row W3 p 2 _ _ _ e2]; rfl
      have K1 := Lib.hid e1; have KB := Lib.hid eB
      clear e1 e2 eB hp HCC hbl
      have hnext : badF (n, s, t) = false → ∀ j (h : j < fs.length), j < k + 1 → badF fs[j] = false := fun hb j h hj => by
        by_cases hjk : j < k
        · exact HGD.out j h hjk
        · obtain rfl : j = k := by omega
          rw [← HX.out]; exact hb
      have HNX := Lib.hid hnext
      clear hnext
      cases t with
      | true =>
        go_wp2_with fail
        go_roundg (gk - 1)
        case measure => omega
        case rel => exact ⟨k + 1, by omega, by go_num, HNX.out (by simp [badF]), K1.out, KB.out⟩
      | false =>
        by_cases hn : n < 0
        · have hbad : fs.any badF = true := by
            rw [List.any_eq_true]
            exact ⟨fs[k], List.getElem_mem _, by rw [← HX.out]; simp [badF, hn]⟩
          have HBAD := Lib.hid hbad
          clear hbad
          go_wp2_with fail
          go_ret2
          exact ⟨by unfold lay; rw [if_pos HBAD.out]; rfl, KB.out.mono (Nat.le_of_eq HQ.out.symm)⟩
        · have HNN := Lib.hid hn
          go_wp2_with fail
          go_roundg (gk - 1)
          case measure => omega
          case rel => exact ⟨k + 1, by omega, by go_num, HNX.out (by have := HNN.out; simp [badF]; omega), K1.out, KB.out⟩
    · have hgood : fs.any badF = false := by
        rw [List.any_eq_false]
        intro f hf
        obtain ⟨j, hj, rfl⟩ := List.mem_iff_getElem.1 hf
        rw [HGD.out j hj (by omega)]
        simp
      have HG := Lib.hid hgood
      clear hgood HGD
      go_wp2_with fail
      go_loopg [28] fs.length (fun gk i wr => ∃ (k : Nat) (vb : Value), k + gk = fs.length ∧ i = .int .i64 k ∧ wr.heap[q]? = some (.cells #[vb] 127 (0, 0)) ∧ wr.ownsRow (q + 1) 5 1 vb (layB (fs.take k)).length (bv (layB (fs.take k))) ∧ Below q w wr)
      case atStart => exact ⟨0, _, by omega, rfl, HQQ.out, World.ownsRow_nil _ _ _ _, HBB.out⟩
      case round =>
        obtain ⟨k2, vb, hgk2, rfl, hqq2, hown2, hb2⟩ := hrel
        have R1 := Lib.hid hqq2; have R2 := Lib.hid hown2; have R3 := Lib.hid hb2
        clear hqq2 hown2 hb2
        by_cases hlt2 : k2 < fs.length
        · have hat := fldsAt_below HL.out (Nat.le_of_eq HQ.out.symm) R3.out
          rcases hat with hat | ⟨b, off, rfl, hbl, hcs⟩
          · simp [hat] at hlt2
          have hcc := hcs k2 hlt2
          have hok := HOK.out fs[k2] (List.getElem_mem _)
          have hgd : badF fs[k2] = false := by
            have := List.any_eq_false.1 HG.out fs[k2] (List.getElem_mem _)
            simpa using this
          have hst := layB_snoc (fs.take k2) fs[k2]
          rw [← List.take_succ_eq_append_getElem hlt2] at hst
          obtain ⟨x, hx⟩ : ∃ x, x = fs[k2] := ⟨_, rfl⟩
          rw [← hx] at hcc hok hgd hst
          have HCC := Lib.hid hcc; have HGD := Lib.hid hgd; have HST := Lib.hid hst; have HO := Lib.hid hok
          clear hcs hx hcc hok hgd hst
          obtain ⟨n, s, t⟩ := x
          go_upto_region 12 with (refine wpList_cells 116 _ rfl b (off + k2 * 3) rfl rfl [.int .i64 n, .string s, .bool t] _ HCC.out Tryz.underlying116 rfl (by kernel_rfl) ?_)
          have e1 := (heap_alloc_lt wr (.cells #[.int .i64 n, .string s, .bool t] 116) q (lt_of_block R1.out)).trans R1.out
          have e2 := heap_alloc_top wr (.cells #[.int .i64 n, .string s, .bool t] 116)
          have eB := R3.out.alloc (by have := lt_of_block R1.out; omega) (.cells #[.int .i64 n, .string s, .bool t] 116)
          have eO : (wr.alloc (.cells #[.int .i64 n, .string s, .bool t] 116)).ownsRow (q + 1) 5 1 vb (layB (fs.take k2)).length (bv (layB (fs.take k2))) := World.ownsRow.alloc R2.out _
          obtain ⟨p, hp⟩ : ∃ p, p = wr.heap.size := ⟨_, rfl⟩
          rw [← hp] at e2 ⊢
          generalize wr.alloc (.cells #[.int .i64 n, .string s, .bool t] 116) = W3 at e1 e2 eB eO ⊢
          have K1 := Lib.hid e1; have K2 := Lib.hid e2; have KB := Lib.hid eB; have KO := Lib.hid eO
          clear e1 e2 eB eO hp HCC hbl
          go_wp2_with (refine wpList_row 116 _ rfl p rfl rfl 116 #[.int .i64 n, .string s, .bool t] (0, 0) _ K2.out Tryz.underlying116 rfl (by kernel_rfl) ?_)
          refine (lay1_walk q vb (layB (fs.take k2)) n s t _ K1.out KO.out HO.out.1 HO.out.2 (fun ht => by have := HGD.out; subst ht; simp [badF] at this; exact this)).mono ?_
          rintro e w4 ⟨rfl, hb4, v4, hq4, ho4⟩
          rw [← HST.out] at ho4
          have M1 := Lib.hid hq4; have M2 := Lib.hid ho4
          have M3 := Lib.hid (KB.out.trans hb4)
          clear hb4 hq4 ho4 K1 K2 KB KO
          go_wp2_with fail
          go_roundg (gk - 1)
          case measure => omega
          case rel => exact ⟨k2 + 1, v4, by omega, by go_num, M1.out, M2.out, M3.out⟩
        · obtain rfl : k2 = fs.length := by omega
          have hown := R2.out
          rw [List.take_length] at hown
          have hle := layB_le fs [] HOK.out (by simp)
          change (layB fs).length ≤ 140000 at hle
          have hlay : lay fs = if 65536 < (layB fs).length then (⟨#[]⟩, 4) else (⟨(layB fs).toArray⟩, 0) := by unfold lay; rw [if_neg (by rw [HG.out]; simp)]
          obtain ⟨l, hl⟩ : ∃ l, l = layB fs := ⟨_, rfl⟩
          rw [← hl] at hown hle hlay
          obtain ⟨m, hm⟩ : ∃ m, m = l.length := ⟨_, rfl⟩
          rw [← hm] at hown hle hlay
          obtain ⟨ad3, cap3, rfl⟩ := own_form hown
          have cq := cell_of_row _ q 0 _ _ _ R1.out
          simp only [List.getElem?_toArray, List.getElem?_cons_zero] at cq
          have K2 := Lib.hid hown; have HLAY := Lib.hid hlay
          have HBF := Lib.hid (R3.out.mono (Nat.le_of_eq HQ.out.symm))
          clear hown hlay hl hm R1 R2 R3
          by_cases hbig : (65536 : Int) < (m : Int)
          · have hb' : 65536 < m := by omega
            have HBI := Lib.hid hb'
            clear hb'
            go_wp2_with fail
            go_ret2
            exact ⟨by rw [HLAY.out, if_pos HBI.out]; rfl, HBF.out⟩
          · have hb' : ¬ 65536 < m := by omega
            have HBI := Lib.hid hb'
            clear hb'
            go_wp2_with (refine wpList_string_own _ rfl _ 127 9 rfl 5 Tryz.underlying127 Tryz.underlying5 Tryz.underlying9 (q + 1) _ m l rfl K2.out ?_)
            go_ret2
            exact ⟨by rw [HLAY.out, if_neg HBI.out]; rfl, HBF.out⟩
end Go.Proofs.YtjjejkhekmpgcaaGreat

namespace Go.Proofs.YtjjejkhekmpgcaaGreat
set_option maxRecDepth 4000
open Go.RowKit

/-- the reader at p: what is left, and an error -/
def InAt (w : World) (p : Nat) (s : ByteArray) (e : Int) : Prop := w.heap[p]? = some (.cells #[.string s, .int .i64 e] 136 (0, 0))
theorem InAt.c0 {w : World} {p : Nat} {s : ByteArray} {e : Int} (h : InAt w p s e) : w.cell? ⟨p, 0, none⟩ = some (.string s) := by rw [cell_of_row w p 0 _ _ _ h]; rfl
theorem InAt.c1 {w : World} {p : Nat} {s : ByteArray} {e : Int} (h : InAt w p s e) : w.cell? ⟨p, 1, none⟩ = some (.int .i64 e) := by rw [cell_of_row w p 1 _ _ _ h]; rfl
theorem InAt.f {w : World} {p : Nat} {s : ByteArray} {e : Int} (h : InAt w p s e) (i : Nat) : w.frozen? ⟨p, i, none⟩ = false := by unfold InAt at h; simp [World.frozen?, h]
theorem InAt.set0 {w : World} {p : Nat} {s s' : ByteArray} {e : Int} (h : InAt w p s e) : InAt (w.setCell ⟨p, 0, none⟩ (.string s')) p s' e := setCell_block h _
theorem InAt.set1 {w : World} {p : Nat} {s : ByteArray} {e e' : Int} (h : InAt w p s e) : InAt (w.setCell ⟨p, 1, none⟩ (.int .i64 e')) p s e' := setCell_block h _
theorem grown_refl (w : World) (row : Option Nat) : w.grownBy w row := ⟨rfl, rfl, rfl, Nat.le_refl _, fun _ _ _ => rfl⟩
theorem grown_set (w : World) (p i : Nat) (v : Value) : w.grownBy (w.setCell ⟨p, i, none⟩ v) (some p) :=
  ⟨rfl, rfl, rfl, by simp [World.setCell], fun k _ hk => heap_setCell_ne w p k i v (fun e => hk (by rw [e]))⟩
theorem grown_trans {a b c : World} {row : Option Nat} (h : a.grownBy b row) (k : b.grownBy c row) : a.grownBy c row :=
  ⟨k.os.trans h.os, k.tape.trans h.tape, k.output.trans h.output, Nat.le_trans h.size k.size, fun j hj hne => (k.block j (Nat.lt_of_lt_of_le hj h.size) hne).trans (h.block j hj hne)⟩

theorem err_walk (p : Nat) (s : ByteArray) (e : Int) (w : World) (h : InAt w p s e) :
    Calls Tryz.prog 91 #[.pointer (some ⟨p, 0, none⟩)] w fun r w' => r = .returned (.int .i64 e) ∧ w' = w := by
  have c1 := h.c1
  go_enter Tryz.func91, Tryz.ntmps91
  go_wp2_with fail
  go_ret
  exact ⟨rfl, rfl⟩
theorem err_nil (w : World) : Calls Tryz.prog 91 #[.pointer none] w fun r w' => r = .returned (.int .i64 1) ∧ w' = w := by
  go_enter Tryz.func91, Tryz.ntmps91
  go_wp2_with fail
  go_ret
  exact ⟨rfl, rfl⟩

/-- how many bytes are left -/
def leftN (s : ByteArray) (e : Int) : Nat := if e = 0 then s.size else 0
theorem left_walk (p : Nat) (s : ByteArray) (e : Int) (w : World) (h : InAt w p s e) :
    Calls Tryz.prog 65 #[.pointer (some ⟨p, 0, none⟩)] w fun r w' => r = .returned (.int .i64 (leftN s e)) ∧ w' = w := by
  have c0 := h.c0
  have H := Lib.hid h
  clear h
  go_enter Tryz.func65, Tryz.ntmps65
  go_wp2_with fail
  refine (err_walk p s e _ H.out).mono ?_
  rintro r w1 ⟨rfl, rfl⟩
  by_cases he : e = 0
  · have HE := Lib.hid he
    go_wp2_with fail
    go_ret
    exact ⟨ret_int (by unfold leftN; rw [if_pos HE.out]), rfl⟩
  · have HE := Lib.hid he
    go_wp2_with fail
    go_ret
    exact ⟨ret_int (by unfold leftN; rw [if_neg HE.out]; rfl), rfl⟩
theorem left_nil (w : World) : Calls Tryz.prog 65 #[.pointer none] w fun r w' => r = .returned (.int .i64 0) ∧ w' = w := by
  go_enter Tryz.func65, Tryz.ntmps65
  go_wp2_with fail
  refine (err_nil _).mono ?_
  rintro r w1 ⟨rfl, rfl⟩
  go_wp2_with fail
  go_ret
  exact ⟨rfl, rfl⟩

theorem fail_walk (p : Nat) (s : ByteArray) (e c : Int) (w : World) (h : InAt w p s e) :
    Calls Tryz.prog 93 #[.pointer (some ⟨p, 0, none⟩), .int .i64 c] w fun r w' => r = .returned (.tuple #[]) ∧ w.grownBy w' (some p) ∧ InAt w' p s (if e = 0 then c else e) := by
  have c1 := h.c1
  have f1 := h.f 1
  have H := Lib.hid h
  clear h
  go_enter Tryz.func93, Tryz.ntmps93
  by_cases he : e = 0
  · subst he
    go_wp2_with fail
    exact bodyPost_end (results_none rfl _ _ _) rfl ⟨rfl, grown_set _ _ _ _, by first | exact H.out.set1 | (rw [if_pos rfl]; exact H.out.set1)⟩
  · have HE := Lib.hid he
    go_wp2_with fail
    exact bodyPost_end (results_none rfl _ _ _) rfl ⟨rfl, grown_refl _ _, by first | exact H.out | (rw [if_neg HE.out]; exact H.out)⟩
theorem fail_nil (c : Int) (w : World) : Calls Tryz.prog 93 #[.pointer none, .int .i64 c] w fun r w' => r = .returned (.tuple #[]) ∧ w' = w := by
  go_enter Tryz.func93, Tryz.ntmps93
  go_wp2_with fail
  exact bodyPost_end (results_none rfl _ _ _) rfl ⟨rfl, rfl⟩

/-- what take answers, and leaves -/
def takeR (s : ByteArray) (e : Int) (n : Nat) : ByteArray × ByteArray × Int :=
  if e ≠ 0 then (⟨#[]⟩, s, e) else if s.size < n then (⟨#[]⟩, s, 5) else (s.extract 0 n, s.extract n s.size, 0)

set_option maxHeartbeats 2000000 in
theorem take_walk (p : Nat) (s : ByteArray) (e : Int) (n : Nat) (w : World) (h : InAt w p s e) :
    Calls Tryz.prog 92 #[.pointer (some ⟨p, 0, none⟩), .int .i64 n] w fun r w' => r = .returned (.string (takeR s e n).1) ∧ w.grownBy w' (some p) ∧ InAt w' p (takeR s e n).2.1 (takeR s e n).2.2 := by
  have H := Lib.hid h
  clear h
  go_enter Tryz.func92, Tryz.ntmps92
  go_wp2_with fail
  refine (left_walk p s e _ H.out).mono ?_
  rintro r w1 ⟨rfl, rfl⟩
  by_cases he : e = 0
  · subst he
    have hl : leftN s 0 = s.size := by unfold leftN; rw [if_pos rfl]
    rw [hl]
    by_cases hs : s.size < n
    · have ht : takeR s 0 n = (⟨#[]⟩, s, 5) := by unfold takeR; rw [if_neg (by simp), if_pos hs]
      have HT := Lib.hid ht
      clear ht
      go_wp2_with fail
      refine (fail_walk p s 0 5 _ H.out).mono ?_
      rintro r w2 ⟨rfl, hg2, h2⟩
      rw [if_pos rfl] at h2
      go_wp2_with fail
      refine (err_walk p s 5 _ h2).mono ?_
      rintro r w3 ⟨rfl, rfl⟩
      go_wp2_with fail
      go_ret
      rw [HT.out]
      exact ⟨rfl, hg2, h2⟩
    · have hs' : n ≤ s.size := by omega
      have ht : takeR s 0 n = (s.extract 0 n, s.extract n s.size, 0) := by unfold takeR; rw [if_neg (by simp), if_neg hs]
      have HT := Lib.hid ht
      have c0 := H.out.c0
      have f0 := H.out.f 0
      clear ht
      go_wp2_with fail
      refine (err_walk p s 0 _ H.out).mono ?_
      rintro r w3 ⟨rfl, rfl⟩
      go_wp2_with fail
      go_ret
      rw [HT.out]
      exact ⟨rfl, grown_set _ _ _ _, H.out.set0⟩
  · have ht : takeR s e n = (⟨#[]⟩, s, e) := by unfold takeR; rw [if_pos he]
    have hl : leftN s e = 0 := by unfold leftN; rw [if_neg he]
    rw [hl]
    have HT := Lib.hid ht; have HE := Lib.hid he
    clear ht hl he
    by_cases hn : 0 < n
    · go_wp2_with fail
      refine (fail_walk p s e 5 _ H.out).mono ?_
      rintro r w2 ⟨rfl, hg2, h2⟩
      rw [if_neg HE.out] at h2
      go_wp2_with fail
      refine (err_walk p s e _ h2).mono ?_
      rintro r w3 ⟨rfl, rfl⟩
      have he := HE.out
      go_wp2_with fail
      go_ret
      rw [HT.out]
      exact ⟨rfl, hg2, h2⟩
    · obtain rfl : n = 0 := by omega
      go_wp2_with fail
      refine (err_walk p s e _ H.out).mono ?_
      rintro r w3 ⟨rfl, rfl⟩
      have he := HE.out
      go_wp2_with fail
      go_ret
      rw [HT.out]
      exact ⟨rfl, grown_refl _ _, H.out⟩
theorem take_nil (n : Nat) (w : World) : Calls Tryz.prog 92 #[.pointer none, .int .i64 n] w fun r w' => r = .returned (.string ⟨#[]⟩) ∧ w' = w := by
  go_enter Tryz.func92, Tryz.ntmps92
  go_wp2_with fail
  refine (left_nil _).mono ?_
  rintro r w1 ⟨rfl, rfl⟩
  by_cases hn : 0 < n
  · go_wp2_with fail
    refine (fail_nil 5 _).mono ?_
    rintro r w2 ⟨rfl, rfl⟩
    go_wp2_with fail
    refine (err_nil _).mono ?_
    rintro r w3 ⟨rfl, rfl⟩
    go_wp2_with fail
    go_ret
    exact ⟨rfl, rfl⟩
  · obtain rfl : n = 0 := by omega
    go_wp2_with fail
    refine (err_nil _).mono ?_
    rintro r w3 ⟨rfl, rfl⟩
    go_wp2_with fail
    go_ret
    exact ⟨rfl, rfl⟩
end Go.Proofs.YtjjejkhekmpgcaaGreat

namespace Go.Proofs.YtjjejkhekmpgcaaGreat
set_option maxRecDepth 4000
open Go.RowKit

/-- a number is read: its groups from place i on; f groups at most are to come: the number, what is left, an error -/
def rd : Nat → List UInt8 → Nat → Nat → Nat × List UInt8 × Int
  | 0, l, _, _ => (0, l, 6)
  | _ + 1, [], _, _ => (0, [], 5)
  | f + 1, c :: r, i, acc =>
    if 128 ≤ c.toNat then rd f r (i + 1) (acc + c.toNat % 128 * 128 ^ i)
    else if c.toNat = 0 ∧ 0 < i then (0, r, 6) else (acc + c.toNat % 128 * 128 ^ i, r, 0)
/-- what N answers, and leaves -/
def numR (s : ByteArray) (e : Int) : Nat × ByteArray × Int :=
  if e ≠ 0 then (0, s, e) else ((rd 9 s.data.toList 0 0).1, ⟨(rd 9 s.data.toList 0 0).2.1.toArray⟩, (rd 9 s.data.toList 0 0).2.2)

theorem takeR_cons (c : UInt8) (r : List UInt8) : takeR ⟨(c :: r).toArray⟩ 0 1 = (⟨#[c]⟩, ⟨r.toArray⟩, 0) := by
  have h1 : (⟨(c :: r).toArray⟩ : ByteArray).extract 0 1 = ⟨#[c]⟩ := by
    apply ByteArray.ext
    apply Array.ext'
    rw [ByteArray.data_extract, Array.toList_extract]
    simp
  have h2 : (⟨(c :: r).toArray⟩ : ByteArray).extract 1 (⟨(c :: r).toArray⟩ : ByteArray).size = ⟨r.toArray⟩ := by
    apply ByteArray.ext
    apply Array.ext'
    rw [ByteArray.data_extract, Array.toList_extract]
    exact List.take_of_length_le (by show r.length ≤ (c :: r).toArray.size - 1; simp)
  unfold takeR
  rw [if_neg (by simp), if_neg (by show ¬ (c :: r).toArray.size < 1; simp), h1, h2]
theorem takeR_nil : takeR ⟨#[]⟩ 0 1 = (⟨#[]⟩, ⟨#[]⟩, 5) := by
  unfold takeR
  rw [if_neg (by simp), if_pos (by decide)]
theorem or_sum (acc x k : Nat) (hk : k ≤ 8) (ha : acc < 128 ^ k) (hx : x < 128) : bits BinOp.or IntKind.i64 (acc : Int) (wrap64 ((x : Int) * 2 ^ (7 * k))) = ((acc + x * 128 ^ k : Nat) : Int) := by
  have hp : 128 ^ k = 2 ^ (7 * k) := by rw [show (128 : Nat) = 2 ^ 7 from rfl, ← Nat.pow_mul]
  have hb : 2 ^ (7 * k) ≤ 2 ^ 56 := Nat.pow_le_pow_right (by omega) (by omega)
  have hx2 : x * 2 ^ (7 * k) ≤ 127 * 2 ^ 56 := Nat.mul_le_mul (by omega) hb
  rw [hp] at ha ⊢
  have hc : (x : Int) * 2 ^ (7 * k) = ((x * 2 ^ (7 * k) : Nat) : Int) := by push_cast; rfl
  rw [hc, IntWalk.wrap64_in _ ⟨by omega, by omega⟩]
  show IntKind.i64.wrap ((BitVec.ofInt 64 (acc : Int) ||| BitVec.ofInt 64 ((x * 2 ^ (7 * k) : Nat) : Int)).toNat : Int) = _
  rw [BitVec.ofInt_natCast, BitVec.ofInt_natCast, BitVec.toNat_or, BitVec.toNat_ofNat, BitVec.toNat_ofNat, Nat.mod_eq_of_lt (by omega), Nat.mod_eq_of_lt (by omega)]
  have hor : acc ||| x * 2 ^ (7 * k) = acc + x * 2 ^ (7 * k) := by
    rw [Nat.or_comm, ← Nat.shiftLeft_eq, ← Nat.shiftLeft_add_eq_or_of_lt ha, Nat.add_comm]
  rw [hor]
  have hfin : acc + x * 2 ^ (7 * k) < 2 ^ 63 := by omega
  exact IntWalk.i64_in _ (by omega)

set_option maxHeartbeats 4000000 in
theorem num_walk (p : Nat) (s : ByteArray) (e : Int) (w : World) (h : InAt w p s e) :
    Calls Tryz.prog 67 #[.pointer (some ⟨p, 0, none⟩)] w fun r w' => r = .returned (.int .i64 (numR s e).1) ∧ w.grownBy w' (some p) ∧ InAt w' p (numR s e).2.1 (numR s e).2.2 := by
  have H := Lib.hid h
  clear h
  go_enter Tryz.func67, Tryz.ntmps67
  go_wp2_with fail
  by_cases he : e = 0
  · subst he
    go_loopg [3, 9] 9 (fun gk n i wr => ∃ (k acc : Nat) (l : List UInt8), k + gk = 9 ∧ i = .int .i64 k ∧ n = .int .i64 acc ∧ acc < 128 ^ k ∧ InAt wr p ⟨l.toArray⟩ 0 ∧ w.grownBy wr (some p) ∧ rd gk l k acc = rd 9 s.data.toList 0 0)
    case atStart => exact ⟨0, 0, s.data.toList, by omega, rfl, rfl, by simp, H.out, grown_refl _ _, rfl⟩
    case round =>
      obtain ⟨k, acc, l, hgk, rfl, rfl, hacc, hin, hgr, hrd⟩ := hrel
      have HA := Lib.hid hacc; have HI := Lib.hid hin; have HG := Lib.hid hgr; have HR := Lib.hid hrd
      clear hacc hin hgr hrd
      by_cases hlt : k < 9
      · obtain ⟨g, rfl⟩ : ∃ g, gk = g + 1 := ⟨gk - 1, by omega⟩
        cases l with
        | nil =>
          go_wp2_with fail
          refine (take_walk p _ 0 1 _ HI.out).mono ?_
          rintro r w2 ⟨rfl, hg2, h2⟩
          rw [takeR_nil] at h2 ⊢
          have HG2 := Lib.hid (grown_trans HG.out hg2)
          have HI2 := Lib.hid h2
          have HN : Hid (numR s 0 = (0, ⟨#[]⟩, 5)) := Lib.hid (by unfold numR; rw [if_neg (by simp), ← HR.out]; rfl)
          clear hg2 h2 HG HI
          go_wp2_with fail
          go_ret
          rw [HN.out]
          exact ⟨rfl, HG2.out, HI2.out⟩
        | cons c r =>
          go_wp2_with fail
          refine (take_walk p _ 0 1 _ HI.out).mono ?_
          rintro r w2 ⟨rfl, hg2, h2⟩
          rw [takeR_cons] at h2 ⊢
          obtain ⟨s1, hs1⟩ : ∃ s1 : ByteArray, s1 = ⟨#[c]⟩ := ⟨_, rfl⟩
          have hsz : s1.size = 1 := by rw [hs1]; rfl
          have hix : ∀ h : 0 < s1.size, s1[0]'h = c := by subst hs1; intro h; rfl
          have htl : s1.toList = [c] := by rw [hs1, ByteArray.toList_eq]
          have HG2 := Lib.hid (grown_trans HG.out hg2)
          have HI2 := Lib.hid h2
          change ∀ h, _ at hix
          rw [← hs1]
          clear hg2 h2 HG HI hs1
          have hor := or_sum acc (c.toNat % 128) k (by omega) HA.out (by omega)
          have hcc : ((c.toNat % 128 : Nat) : Int) = (c.toNat : Int) % 128 := by omega
          rw [hcc] at hor
          have hac : acc + c.toNat % 128 * 128 ^ k < 128 ^ (k + 1) := by
            have h1 := HA.out
            have h2 : c.toNat % 128 * 128 ^ k ≤ 127 * 128 ^ k := Nat.mul_le_mul_right _ (by omega)
            rw [Nat.pow_succ]; omega
          have HAC := Lib.hid hac
          clear hcc hac
          obtain ⟨acc', hacc'⟩ : ∃ a, a = acc + c.toNat % 128 * 128 ^ k := ⟨_, rfl⟩
          rw [← hacc'] at hor HAC
          have HA' := Lib.hid hacc'
          clear hacc'
          by_cases hc : (128 : Int) ≤ (c.toNat : Int)
          · have HC := Lib.hid hc
            go_wp2_with fail
            go_roundg g
            case measure => omega
            case rel => exact ⟨k + 1, acc', r, by omega, by go_num, rfl, HAC.out, HI2.out, HG2.out, by rw [← HR.out, HA'.out]; simp only [rd]; rw [if_pos (by have := HC.out; omega)]⟩
          · have HC := Lib.hid hc
            by_cases hz : c.toNat = 0 ∧ 0 < k
            · obtain ⟨hz0, hzk⟩ := hz
              have HN : Hid (numR s 0 = (0, ⟨r.toArray⟩, 6)) := Lib.hid (by unfold numR; rw [if_neg (by simp), ← HR.out]; simp only [rd]; rw [if_neg (by have := HC.out; omega), if_pos ⟨hz0, hzk⟩])
              go_wp2_with fail
              refine (fail_walk p _ 0 6 _ HI2.out).mono ?_
              rintro e w3 ⟨rfl, hg3, h3⟩
              rw [if_pos rfl] at h3
              have HG3 := Lib.hid (grown_trans HG2.out hg3); have HI3 := Lib.hid h3
              clear hg3 h3 HG2 HI2
              go_wp2_with fail
              go_ret
              rw [HN.out]
              exact ⟨rfl, HG3.out, HI3.out⟩
            · have HN : Hid (numR s 0 = (acc', ⟨r.toArray⟩, 0)) := Lib.hid (by unfold numR; rw [if_neg (by simp), ← HR.out]; simp only [rd]; rw [if_neg (by have := HC.out; omega), if_neg hz, HA'.out])
              have hz2 : ¬ c.toNat = 0 ∨ k = 0 := by omega
              clear hz
              have hcb : decide ((128 : Int) ≤ (c.toNat : Int)) = false := decide_eq_false hc
              clear hc
              cases hb0 : ((c.toNat : Int) == 0) with
              | false =>
                clear hz2
                go_wp2_with fail
                go_ret
                rw [HN.out]
                exact ⟨rfl, HG2.out, HI2.out⟩
              | true =>
                have hz0 : c.toNat = 0 := by
                  have := beq_iff_eq.1 hb0
                  omega
                have hk0 : k = 0 := by omega
                have e0 : wrap64 ((c.toNat : Int) % 128 * 2 ^ (7 * k)) = 0 := by
                  rw [show (c.toNat : Int) = 0 by omega, show (0 : Int) % 128 = 0 from rfl, Int.zero_mul]
                  exact IntWalk.wrap64_in _ ⟨by omega, by omega⟩
                rw [e0] at hor
                clear hb0 e0
                clear hz2
                go_wp2_with fail
                go_ret
                rw [HN.out]
                exact ⟨rfl, HG2.out, HI2.out⟩
      · obtain rfl : gk = 0 := by omega
        have HN : Hid (numR s 0 = (0, ⟨l.toArray⟩, 6)) := Lib.hid (by unfold numR; rw [if_neg (by simp), ← HR.out]; rfl)
        go_wp2_with fail
        refine (fail_walk p _ 0 6 _ HI.out).mono ?_
        rintro e w3 ⟨rfl, hg3, h3⟩
        rw [if_pos rfl] at h3
        have HG3 := Lib.hid (grown_trans HG.out hg3); have HI3 := Lib.hid h3
        clear hg3 h3 HG HI
        go_wp2_with fail
        go_ret
        rw [HN.out]
        exact ⟨rfl, HG3.out, HI3.out⟩
  · have HE := Lib.hid he
    have HN : Hid (numR s e = (0, s, e)) := Lib.hid (by unfold numR; rw [if_pos he])
    have HT : Hid (takeR s e 1 = (⟨#[]⟩, s, e)) := Lib.hid (by unfold takeR; rw [if_pos he])
    clear he
    go_loopg [9] 9 (fun gk i wr => i = .int .i64 0 ∧ wr = w)
    case atStart => exact ⟨rfl, rfl⟩
    case round =>
      obtain ⟨rfl, rfl⟩ := hrel
      go_wp2_with fail
      refine (take_walk p s e 1 _ H.out).mono ?_
      rintro r w2 ⟨rfl, hg2, h2⟩
      rw [HT.out] at h2 ⊢
      have HG2 := Lib.hid hg2; have HI2 := Lib.hid h2
      clear hg2 h2
      go_wp2_with fail
      go_ret
      rw [HN.out]
      exact ⟨rfl, HG2.out, HI2.out⟩
end Go.Proofs.YtjjejkhekmpgcaaGreat

namespace Go.Proofs.YtjjejkhekmpgcaaGreat
set_option maxRecDepth 4000
open Go.RowKit

/-- what T answers, and leaves -/
def txtR (s : ByteArray) (e : Int) : ByteArray × ByteArray × Int := takeR (numR s e).2.1 (numR s e).2.2 (numR s e).1
theorem txt_walk (p : Nat) (s : ByteArray) (e : Int) (w : World) (h : InAt w p s e) :
    Calls Tryz.prog 66 #[.pointer (some ⟨p, 0, none⟩)] w fun r w' => r = .returned (.string (txtR s e).1) ∧ w.grownBy w' (some p) ∧ InAt w' p (txtR s e).2.1 (txtR s e).2.2 := by
  have H := Lib.hid h
  clear h
  unfold txtR
  obtain ⟨n, s1, e1, hn⟩ : ∃ n s1 e1, numR s e = (n, s1, e1) := ⟨_, _, _, rfl⟩
  rw [hn]
  have HN := Lib.hid hn
  clear hn
  go_enter Tryz.func66, Tryz.ntmps66
  go_wp2_with fail
  refine (num_walk p s e _ H.out).mono ?_
  rintro r w1 ⟨rfl, hg1, h1⟩
  rw [HN.out] at h1 ⊢
  have H1 := Lib.hid h1; have HG1 := Lib.hid hg1
  clear h1 hg1
  go_wp2_with fail
  refine (take_walk p s1 e1 n _ H1.out).mono ?_
  rintro r w2 ⟨rfl, hg2, h2⟩
  have H2 := Lib.hid h2; have HG2 := Lib.hid (grown_trans HG1.out hg2)
  clear h2 hg2
  go_wp2_with fail
  go_ret
  exact ⟨rfl, HG2.out, H2.out⟩
theorem over_walk (s : ByteArray) (w : World) :
    Calls Tryz.prog 64 #[.string s] w fun r w' => r = .returned (.pointer (some ⟨w.heap.size, 0, none⟩)) ∧ Below w.heap.size w w' ∧ InAt w' w.heap.size s 0 := by
  go_enter Tryz.func64, Tryz.ntmps64
  go_wp2_with fail
  go_ret
  exact ⟨rfl, (Below.refl _ _).alloc (Nat.le_refl _) _, heap_alloc_top _ _⟩

theorem below_of_grown {w w1 w2 : World} {B : Nat} {row : Option Nat} (h : Below B w w1) (hg : w1.grownBy w2 row) (hB : B ≤ w1.heap.size) (hr : ∀ k, row = some k → B ≤ k) : Below B w w2 :=
  h.trans ⟨hg.os, hg.tape, hg.output, hg.size, fun k hk => hg.block k (by omega) (fun e => by have := hr k e.symm; omega)⟩
theorem InAt.keep {w w' : World} {p B : Nat} {s : ByteArray} {e : Int} (h : InAt w p s e) (hb : Below B w w') (hp : p < B) : InAt w' p s e := (hb.block p hp).trans h

/-- one field, two fields, in a block -/
theorem one_at {w : World} {b : Nat} {f : Fld} {ty : TypeId} (hb : w.heap[b]? = some (.cells #[.int .i64 f.1, .string f.2.1, .bool f.2.2] ty (0, 0))) : fldsAt w (some ⟨b, 0, none⟩) [f] := by
  refine .inr ⟨b, 0, rfl, lt_of_block hb, fun i hi j u hu => ?_⟩
  rw [cell_of_row w b (0 + i * 3 + j) _ _ _ hb]
  match i, hi with
  | 0, _ =>
    match j, hu with
    | 0, hu => exact hu
    | 1, hu => exact hu
    | 2, hu => exact hu
    | j + 3, hu => simp at hu
  | i + 1, hi => exact absurd hi (by simp)
theorem two_at {w : World} {b : Nat} {f g : Fld} {ty : TypeId} (hb : w.heap[b]? = some (.cells #[.int .i64 f.1, .string f.2.1, .bool f.2.2, .int .i64 g.1, .string g.2.1, .bool g.2.2] ty (0, 0))) : fldsAt w (some ⟨b, 0, none⟩) [f, g] := by
  refine .inr ⟨b, 0, rfl, lt_of_block hb, fun i hi j u hu => ?_⟩
  rw [cell_of_row w b (0 + i * 3 + j) _ _ _ hb]
  match i, hi with
  | 0, _ =>
    match j, hu with
    | 0, hu => exact hu
    | 1, hu => exact hu
    | 2, hu => exact hu
    | j + 3, hu => simp at hu
  | 1, _ =>
    match j, hu with
    | 0, hu => exact hu
    | 1, hu => exact hu
    | 2, hu => exact hu
    | j + 3, hu => simp at hu
  | i + 2, hi => exact absurd hi (by simp)
end Go.Proofs.YtjjejkhekmpgcaaGreat
