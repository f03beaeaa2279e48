/-
  Layer 6: changes; may.
  Layer 6: a transaction is laid.
  Layer 6: a transaction is laid: lay.
-/
import Derived.Test.YtjjejkhekmpgcaaGreatMgD
import Derived.Test.YtjjejkhekmpgcaaGreatMgF
import Derived.Test.YtjjejkhekmpgcaaGreatMgC
import Derived.Test.YtjjejkhekmpgcaaGreatMgE
namespace Go.Proofs.YtjjejkhekmpgcaaGreat
set_option maxRecDepth 4000
open Go.RowKit

/-- a change -/
structure Chg where
  key : ByteArray
  val : ByteArray
  gone : Bool
def chgv (c : Chg) : List Value := [.string c.key, .string c.val, .bool c.gone]
/-- these changes lie there -/
def chgsAt (w : World) (ad : Option Addr) (cs : List Chg) : Prop :=
  cs = [] ∨ ∃ b off, ad = some ⟨b, off, none⟩ ∧ b < w.heap.size ∧ ∀ i (h : i < cs.length), ∀ (j : Nat) (u : Value), (chgv cs[i])[j]? = some u → w.cell? ⟨b, off + i * 3 + j, none⟩ = some u
theorem chgsAt_below {w w' : World} {B : Nat} {ad : Option Addr} {l : List Chg} (h : chgsAt w ad l) (hB : w.heap.size ≤ B) (hb : Below B w w') : chgsAt w' ad l := by
  rcases h with h | ⟨b, off, h1, h2, h3⟩
  · exact .inl h
  · refine .inr ⟨b, off, h1, by have := hb.size; omega, fun i hi j u hu => ?_⟩
    rw [hb.cell (p := ⟨b, off + i * 3 + j, none⟩) (by simp; omega)]
    exact h3 i hi j u hu
theorem chgsAt_touch {w w' : World} {F : Nat → Prop} {ad : Option Addr} {l : List Chg} (h : chgsAt w ad l) (ht : Touch F w w') (hn : l ≠ [] → ∀ a, ad = some a → ¬ F a.block) : chgsAt w' ad l := by
  rcases h with h | ⟨b, off, h1, h2, h3⟩
  · exact .inl h
  · by_cases h0 : l = []
    · exact .inl h0
    replace hn := hn h0
    refine .inr ⟨b, off, h1, by have := ht.size; omega, fun i hi j u hu => ?_⟩
    have hb := ht.block b h2 (hn _ h1)
    have := h3 i hi j u hu
    unfold World.cell? at this ⊢
    rw [hb]; exact this
theorem chgsAt_own {w : World} {base e : Nat} {v : Value} {l : List Chg} (h : w.ownsRow base e 3 v l.length (l.flatMap chgv)) : ∃ ad cap, v = .slice ad l.length cap ∧ chgsAt w ad l := by
  rcases h.2 with ⟨h1, h2⟩ | ⟨g, cap, cur, rfl, hb, hg, h3, h4, h5, h6⟩
  · exact ⟨none, 0, by rw [h1, h2], .inl (List.eq_nil_of_length_eq_zero h2)⟩
  · refine ⟨some ⟨g, 0, none⟩, cap, rfl, .inr ⟨g, 0, rfl, lt_of_block hg, fun i hi j u hu => ?_⟩⟩
    rw [cell_of_row w g _ _ _ _ hg]
    have hj : j < 3 := by
      rcases Nat.lt_or_ge j 3 with hj | hj
      · exact hj
      · rw [List.getElem?_eq_none (by simpa [chgv] using hj)] at hu; cases hu
    have e1 : (cur.toList.take (l.length * 3))[i * 3 + j]? = (l.flatMap chgv)[i * 3 + j]? := by rw [h6]
    rw [List.getElem?_take_of_lt (by omega)] at e1
    rw [← Array.getElem?_toList]
    have e2 : (l.flatMap chgv)[i * 3 + j]? = some u := by
      have : ∀ (l : List Chg) (i : Nat) (hi : i < l.length), (chgv l[i])[j]? = some u → (l.flatMap chgv)[i * 3 + j]? = some u := by
        intro l
        induction l with
        | nil => intro i hi; simp at hi
        | cons a l ih =>
          intro i hi hu
          rw [List.flatMap_cons]
          cases i with
          | zero =>
            rw [List.getElem?_append_left (by simpa [chgv] using hj)]
            simpa using hu
          | succ i =>
            rw [List.getElem?_append_right (by simp [chgv]; omega)]
            have := ih i (by simpa using hi) (by simpa using hu)
            have e : (i + 1) * 3 + j - (chgv a).length = i * 3 + j := by simp [chgv]; omega
            rw [e]; exact this
      exact this l i hi hu
    rw [show 0 + i * 3 + j = i * 3 + j by omega, e1, e2]

/-- may a change be? -/
def mayC (c : Chg) : Bool := decide (1 ≤ c.key.size) && decide (c.key.size ≤ 32) && decide (c.val.size ≤ 4096) && (!c.gone || decide (c.val.size = 0))
theorem not_empty {s : ByteArray} (h : s.size ≠ 0) : s.toList.isEmpty = false := by
  rw [ByteArray.toList_eq]
  cases hl : s.data.toList with
  | nil => exact absurd (by rw [show s.size = s.data.toList.length by simp, hl]; rfl) h
  | cons a r => rfl
set_option maxHeartbeats 1000000 in
theorem cmay_walk (c : Chg) (w : World) (hk : c.key.size ≤ 9223372036854775807) (hv : c.val.size ≤ 9223372036854775807) :
    Calls Tryz.prog 57 #[.agg #[.string c.key, .string c.val, .bool c.gone]] w fun e w' => e = .returned (.bool (mayC c)) ∧ Below w.heap.size w w' := by
  obtain ⟨k, v, g⟩ := c
  have hk : k.size ≤ 9223372036854775807 := hk
  have hv : v.size ≤ 9223372036854775807 := hv
  obtain ⟨q, hq⟩ : ∃ q, q = w.heap.size := ⟨_, rfl⟩
  have hm : mayC ⟨k, v, g⟩ = (decide (1 ≤ k.size) && decide (k.size ≤ 32) && decide (v.size ≤ 4096) && (!g || decide (v.size = 0))) := rfl
  have e2 := heap_alloc_top w (.cells #[.string k, .string v, .bool g] 42)
  have eB := (Below.refl w.heap.size w).alloc (Nat.le_refl _) (.cells #[.string k, .string v, .bool g] 42)
  rw [← hq] at e2
  obtain ⟨R, hR⟩ : ∃ R, R = mayC ⟨k, v, g⟩ := ⟨_, rfl⟩
  rw [hm] at hR
  rw [hm, ← hR]
  have HB := Lib.hid eB; have HM := Lib.hid hR
  clear eB hm hR
  go_enter Tryz.func57, Tryz.ntmps57
  go_upto_region 1 with fail
  rw [← hq]
  replace HB := HB.out
  generalize w.alloc (.cells #[.string k, .string v, .bool g] 42) = W at e2 HB ⊢
  have c0 := cell_at (j := 0) (v := .string k) e2 rfl
  have c1 := cell_at (j := 1) (v := .string v) e2 rfl
  have c2 := cell_at (j := 2) (v := .bool g) e2 rfl
  replace HB := Lib.hid HB
  clear e2 hq
  by_cases h1 : (1 : Int) ≤ (k.size : Int)
  · by_cases h2 : (k.size : Int) ≤ 32
    · by_cases h3 : (v.size : Int) ≤ 4096
      · have hr : R = (!g || decide (v.size = 0)) := by
          rw [HM.out, decide_eq_true (show 1 ≤ k.size by omega), decide_eq_true (show k.size ≤ 32 by omega), decide_eq_true (show v.size ≤ 4096 by omega)]; rfl
        clear HM
        cases g with
        | false =>
          obtain rfl : R = true := hr
          go_wp2_with fail
          go_ret
          exact ⟨rfl, HB.out⟩
        | true =>
          by_cases h4 : v.size = 0
          · have : v = ⟨#[]⟩ := by apply ByteArray.ext; exact Array.eq_empty_of_size_eq_zero h4
            subst this
            obtain rfl : R = true := hr
            go_wp2_with fail
            go_ret
            exact ⟨rfl, HB.out⟩
          · have h5 := not_empty h4
            rw [decide_eq_false h4] at hr
            obtain rfl : R = false := hr
            clear h4
            go_wp2_with fail
            go_ret
            exact ⟨rfl, HB.out⟩
      · obtain rfl : R = false := by rw [HM.out, decide_eq_false (show ¬ v.size ≤ 4096 by omega)]; simp
        clear HM
        go_wp2_with fail
        go_ret
        exact ⟨rfl, HB.out⟩
    · obtain rfl : R = false := by rw [HM.out, decide_eq_false (show ¬ k.size ≤ 32 by omega)]; simp
      clear HM
      go_wp2_with fail
      go_ret
      exact ⟨rfl, HB.out⟩
  · obtain rfl : R = false := by rw [HM.out, decide_eq_false (show ¬ 1 ≤ k.size by omega)]; simp
    clear HM
    go_wp2_with fail
    go_ret
    exact ⟨rfl, HB.out⟩
end Go.Proofs.YtjjejkhekmpgcaaGreat

namespace Go.Proofs.YtjjejkhekmpgcaaGreat
set_option maxRecDepth 4000
open Go.RowKit

def fldv (f : Fld) : List Value := [.int .i64 f.1, .string f.2.1, .bool f.2.2]
theorem info_fld3 : (Tryz.prog.info? 116).map (fun i => (i.zero, i.size, i.bytes)) = some (some (.agg #[.int .i64 0, .string ⟨#[]⟩, .bool false]), 3, 32) := by kernel_rfl
/-- what lies in a row of threes -/
theorem at3 {α : Type} (g : α → List Value) (hg : ∀ a, (g a).length = 3) : ∀ (l : List α) (i : Nat) (hi : i < l.length) (j : Nat) (u : Value), (g l[i])[j]? = some u → (l.flatMap g)[i * 3 + j]? = some u
  | [], i, hi, _, _, _ => by simp at hi
  | a :: l, 0, _, j, u, hu => by
    have hj : j < (g a).length := by
      rcases Nat.lt_or_ge j (g a).length with hj | hj
      · exact hj
      · rw [List.getElem?_eq_none (by simpa using hj)] at hu; cases hu
    rw [List.flatMap_cons, List.getElem?_append_left (by omega)]
    simpa using hu
  | a :: l, i + 1, hi, j, u, hu => by
    rw [List.flatMap_cons, List.getElem?_append_right (by rw [hg]; omega), show (i + 1) * 3 + j - (g a).length = i * 3 + j by rw [hg]; omega]
    exact at3 g hg l i (by simpa using hi) j u (by simpa using hu)
theorem fldsAt_own {w : World} {base e : Nat} {v : Value} {l : List Fld} (h : w.ownsRow base e 3 v l.length (l.flatMap fldv)) : ∃ ad cap, v = .slice ad l.length cap ∧ fldsAt w ad l := by
  rcases h.2 with ⟨h1, h2⟩ | ⟨g, cap, cur, rfl, hb, hg, h3, h4, h5, h6⟩
  · exact ⟨none, 0, by rw [h1, h2], .inl (List.eq_nil_of_length_eq_zero h2)⟩
  · refine ⟨some ⟨g, 0, none⟩, cap, rfl, .inr ⟨g, 0, rfl, lt_of_block hg, fun i hi j u hu => ?_⟩⟩
    have hj : j < 3 := by
      rcases Nat.lt_or_ge j 3 with hj | hj
      · exact hj
      · rw [List.getElem?_eq_none (by simpa using hj)] at hu; cases hu
    rw [cell_of_row w g _ _ _ _ hg]
    have e1 : (cur.toList.take (l.length * 3))[i * 3 + j]? = (l.flatMap fldv)[i * 3 + j]? := by rw [h6]
    rw [List.getElem?_take_of_lt (by omega)] at e1
    rw [← Array.getElem?_toList, show 0 + i * 3 + j = i * 3 + j by omega, e1]
    exact at3 fldv (fun _ => rfl) l i hi j u hu
theorem fldv_one (l : List Fld) : ∀ u ∈ l.flatMap fldv, u.oneCell' = true := by
  intro u hu
  obtain ⟨f, _, hf⟩ := List.mem_flatMap.1 hu
  simp only [fldv, List.mem_cons, List.not_mem_nil, or_false] at hf
  rcases hf with rfl | rfl | rfl <;> rfl

/-- a change's fields -/
def fldC (c : Chg) : List Fld := [(0, c.key, true), (if c.gone then 1 else 0, ⟨#[]⟩, false)] ++ if c.gone then [] else [(0, c.val, true)]
/-- fields of our own -/
def FldRow (w : World) (q : Nat) (l : List Fld) : Prop := ∃ v, w.heap[q]? = some (.cells #[v] 119 (0, 0)) ∧ w.ownsRow (q + 1) 116 3 v l.length (l.flatMap fldv)

/-- one or two new fields in a block of their own -/
theorem src_flds {w : World} {p : Nat} (l : List Fld) (t : TypeId) (hg : w.heap[p]? = some (.cells (l.flatMap fldv).toArray t (0, 0))) : Src Tryz.prog 3 119 (.slice (some ⟨p, 0, none⟩) l.length l.length) l.length (l.flatMap fldv) w :=
  Src.ofSlice w Tryz.underlying119 ⟨p, 0, none⟩ l.length l.length (l.flatMap fldv) (by
    induction l with
    | nil => rfl
    | cons a l ih =>
      clear hg
      have : ∀ l : List Fld, (l.flatMap fldv).length = l.length * 3 := fun l => by
        induction l with
        | nil => rfl
        | cons a l ih => rw [List.flatMap_cons, List.length_append, ih]; simp [fldv]; omega
      exact this _) (by
    intro j u hu
    have e : (⟨p, 0, none⟩ : Addr).add j = ⟨p, j, none⟩ := by unfold Addr.add; split <;> simp_all
    rw [e, cell_of_row w p j _ _ _ hg]
    simpa using hu) (fldv_one l)

set_option maxHeartbeats 4000000 in
theorem lay1c_one (q : Nat) (vb : Value) (fs : List Fld) (k v : ByteArray) (w : World) (hq : w.heap[q]? = some (.cells #[vb] 119 (0, 0))) (hrow : w.ownsRow (q + 1) 116 3 vb fs.length (fs.flatMap fldv)) (hl : fs.length ≤ 1000000) :
    Calls Tryz.prog 74 #[.agg #[.string k, .string v, .bool true], .pointer (some ⟨q, 0, none⟩)] w fun e w' => e = .returned (.tuple #[]) ∧ Below q w w' ∧ FldRow w' q (fs ++ fldC ⟨k, v, true⟩) := by
  obtain ⟨i0, hi, hz0, hz1, hz2⟩ := info_parts info_fld3
  have hlq := lt_of_block hq
  obtain ⟨m, hm⟩ : ∃ m, m = fs.length := ⟨_, rfl⟩
  rw [← hm] at hrow hl
  obtain ⟨ad, cap, rfl⟩ := own_form hrow
  have HM := Lib.hid hm
  clear hm
  go_enter Tryz.func74, Tryz.ntmps74
  go_upto_region 1 with fail
  obtain ⟨f, hf⟩ : ∃ f, f = w.heap.size := ⟨_, rfl⟩
  have g0 := heap_alloc_top w (.cells #[.string k, .string v, .bool true] 42)
  have hB := (Below.refl w.heap.size w).alloc (Nat.le_refl _) (.cells #[.string k, .string v, .bool true] 42)
  have g1 := (heap_alloc_lt w (.cells #[.string k, .string v, .bool true] 42) q hlq).trans hq
  have hr1 : (w.alloc (.cells #[.string k, .string v, .bool true] 42)).ownsRow (q + 1) 116 3 (.slice ad m cap) m (fs.flatMap fldv) := World.ownsRow.alloc hrow _
  rw [← hf] at g0 ⊢
  generalize w.alloc (.cells #[.string k, .string v, .bool true] 42) = W at g0 g1 hB hr1 ⊢
  have HF := Lib.hid hf
  have HB := Lib.hid (hB.mono (show q ≤ w.heap.size by omega))
  clear hf hq hrow hB
  have c2 : W.cell? ⟨f, 2, none⟩ = some (.bool true) := by rw [cell_of_row W f 2 _ _ _ g0]; rfl
  have G0 := Lib.hid g0; have G1 := Lib.hid g1; have HR := Lib.hid hr1
  clear g0 g1 hr1
  go_upto_region 4 with fail
  obtain ⟨S, hS⟩ : ∃ S : World → Prop, S = fun w' => w'.heap[q]? = some (.cells #[.slice ad m cap] 119 (0, 0)) ∧ w'.heap[f]? = some (.cells #[.string k, .string v, .bool true] 42 (0, 0)) := ⟨_, rfl⟩
  have hS0 : S W.drew := by rw [hS]; exact ⟨G1.out, G0.out⟩
  have hcq : ∀ w9, S w9 → w9.cell? ⟨q, 0, none⟩ = some (.slice ad m cap) := fun w9 h => by rw [hS] at h; rw [cell_of_row w9 q 0 _ _ _ h.1]; rfl
  have hc0 : ∀ w9, S w9 → w9.cell? ⟨f, 0, none⟩ = some (.string k) := fun w9 h => by rw [hS] at h; rw [cell_of_row w9 f 0 _ _ _ h.2]; rfl
  have HSB : ∀ w9 w', S w9 → Below w9.heap.size w9 w' → S w' := fun w9 w' h hb => by rw [hS] at h ⊢; exact ⟨(hb.block q (lt_of_block h.1)).trans h.1, (hb.block f (lt_of_block h.2)).trans h.2⟩
  have HSG : ∀ w9 w' row, S w9 → w9.grownBy w' row → some q ≠ row → some f ≠ row → S w' := fun w9 w' row h hg h1 h2 => by rw [hS] at h ⊢; exact ⟨(hg.block q (lt_of_block h.1) h1).trans h.1, (hg.block f (lt_of_block h.2) h2).trans h.2⟩
  have HSQ : ∀ w9, S w9 → w9.heap[q]? = some (.cells #[.slice ad m cap] 119 (0, 0)) ∧ w9.heap[f]? = some (.cells #[.string k, .string v, .bool true] 42 (0, 0)) := fun w9 h => by rw [hS] at h; exact h
  have KSB := Lib.hid HSB; have KSG := Lib.hid HSG; have KSQ := Lib.hid HSQ
  clear hS HSB HSG HSQ c2
  refine wp_region_mixT S 8 [(0,true,true),(1,true,true),(2,true,true),(4,true,true),(3,false,true),(5,false,true),(6,false,true),(7,false,true),(8,false,false)] (by kernel_rfl) (by kernel_rfl) hS0 ?_
  have hb0 : Below q w W.drew := HB.out.drew
  have hr0 : W.drew.ownsRow (q + 1) 116 3 (.slice ad m cap) m (fs.flatMap fldv) := HR.out
  generalize W.drew = w0 at hb0 hr0 hS0 ⊢
  simp only [List.filterMap_cons, List.filterMap_nil, List.getElem?_cons_zero, List.getElem?_cons_succ, Option.map_some]
  repeat (refine mixT_read (by rfl) ?_; apply Exists.intro; refine ⟨fun w9 hw9 => ?_, ?_⟩; (· have d1 := hcq w9 hw9; have d2 := hc0 w9 hw9; go_simp; rfl); simp only [Act.put, List.setIfInBounds_toArray, List.set_cons_succ, List.set_cons_zero])
  refine mixT_step (by rfl) (fun K' hK => ?_)
  go_simp
  go_at_call 75
  refine (t_walk k _).mono ?_
  rintro e w1 ⟨rfl, hb1⟩
  have hS1 := KSB.out _ _ hS0 hb1
  refine hK _ _ hS1 ?_
  clear hK K'
  try simp only [Act.put, List.setIfInBounds_toArray, List.set_cons_succ, List.set_cons_zero]
  have hr1 := own_below hr0 hb1 (Nat.le_refl _)
  have hb01 := hb0.trans (hb1.mono (Nat.le_of_lt (lt_of_block (KSQ.out _ hS0).1)))
  clear hr0 hb0 hb1
  refine mixT_step (by rfl) (fun K' hK => ?_)
  go_simp
  go_at_call 72
  refine (n_walk 1 _).mono ?_
  rintro e w2 ⟨rfl, hb2⟩
  have hS2 := KSB.out _ _ hS1 hb2
  refine hK _ _ hS2 ?_
  clear hK K'
  try simp only [Act.put, List.setIfInBounds_toArray, List.set_cons_succ, List.set_cons_zero]
  have hr2 := own_below hr1 hb2 (Nat.le_refl _)
  have hb02 := hb01.trans (hb2.mono (Nat.le_of_lt (lt_of_block (KSQ.out _ hS1).1)))
  clear hr1 hb01 hb2 hS0
  refine mixT_step (by rfl) (fun K' hK => ?_)
  unfold fld
  go_simp
  have g3 := heap_alloc_top w2 (.cells #[.int .i64 0, .string k, .bool true, .int .i64 1, .string ⟨#[]⟩, .bool false] 116)
  have hb3 := (Below.refl w2.heap.size w2).alloc (Nat.le_refl _) (.cells #[.int .i64 0, .string k, .bool true, .int .i64 1, .string ⟨#[]⟩, .bool false] 116)
  have hS3 := KSB.out _ _ hS2 hb3
  refine hK _ _ hS3 ?_
  clear hK K'
  try simp only [Act.put, List.setIfInBounds_toArray, List.set_cons_succ, List.set_cons_zero]
  have hr3 := own_below hr2 hb3 (Nat.le_refl _)
  have hb03 := hb02.trans (hb3.mono (Nat.le_of_lt (lt_of_block (KSQ.out _ hS2).1)))
  have hsrc := src_flds [(0, k, true), (1, ⟨#[]⟩, false)] _ g3
  generalize w2.alloc (.cells #[.int .i64 0, .string k, .bool true, .int .i64 1, .string ⟨#[]⟩, .bool false] 116) = w3 at hr3 hb03 hS3 hsrc ⊢
  clear hr2 hb02 hb3 hS1 hS2 g3
  refine mixT_step (by rfl) (fun K' hK => ?_)
  have hq1 := (KSQ.out _ hS3).1
  have hf1 := (KSQ.out _ hS3).2
  refine wp_append_at _ _ _ 119 119 rfl (q + 1) 116 i0 (.agg #[.int .i64 0, .string ⟨#[]⟩, .bool false]) 3 32 Tryz.underlying119 hi hz0 hz1 hz2 rfl (by decide) _ m (fs.flatMap fldv) rfl hr3 _ 2 _ rfl hsrc (by unfold maxLen; omega) (by omega) (by have := lt_of_block hq1; omega) ?_
  intro v2 w4 hown2 hgrow hpl
  have hnq := own_ne hr3 hq1 (by decide)
  have hnf := own_ne hr3 hf1 (by decide)
  have hS4 := KSG.out _ _ _ hS3 hgrow (fun e => hnq e.symm) (fun e => hnf e.symm)
  refine hK _ _ hS4 ?_
  clear hK K'
  try simp only [Act.put, List.setIfInBounds_toArray, List.set_cons_succ, List.set_cons_zero]
  rw [← List.flatMap_append] at hown2
  have hb4 : Below q w w4 := hb03.trans ⟨hgrow.os, hgrow.tape, hgrow.output, hgrow.size, fun k hk => hgrow.block k (by have := lt_of_block hq1; omega) (fun e => by have := (hr3.lt k e.symm).1; omega)⟩
  have hq2 := (KSQ.out _ hS4).1
  have hf2 := (KSQ.out _ hS4).2
  have c2 := hcq _ hS4
  have f2 : w4.frozen? ⟨q, 0, none⟩ = false := by simp [World.frozen?, hq2]
  obtain ⟨ad2, cap2, rfl⟩ := own_form hown2
  have HQ2 := Lib.hid hq2; have HO := Lib.hid hown2; have HB2 := Lib.hid hb4; have HF2 := Lib.hid hf2
  clear hq1 hf1 hgrow hpl hnq hnf hown2 hb4 hq2 hr3 hb03 hS3 hcq hc0 hf2 hsrc
  refine mixT_tail (by rfl) (fun K' hK => ?_)
  go_simp
  refine hK _ _ ?_
  clear hK K'
  try simp only [Act.put, List.setIfInBounds_toArray, List.set_cons_succ, List.set_cons_zero]
  refine mixT_nil (NoPanic.normal ?_)
  have hqf : q ≠ f := by have := HF.out; omega
  have hb5 := HB2.out.setCell (p := ⟨q, 0, none⟩) (Nat.le_refl _) (.slice ad2 (m + 2) cap2)
  have hq5 := setCell_block HQ2.out (i := 0) (.slice ad2 (m + 2) cap2)
  have ho5 := ownsRow_setCell_other HO.out (a := ⟨q, 0, none⟩) (fun e => by have := (HO.out.lt q e).1; omega) (.slice ad2 (m + 2) cap2)
  have hf5 : (w4.setCell ⟨q, 0, none⟩ (.slice ad2 (m + 2) cap2)).heap[f]? = some (.cells #[.string k, .string v, .bool true] 42 (0, 0)) := ((grownBy_setCell w4 q 0 _).block f (lt_of_block HF2.out) (fun e => hqf (Option.some.inj e).symm)).trans HF2.out
  replace hq5 : (w4.setCell ⟨q, 0, none⟩ (.slice ad2 (m + 2) cap2)).heap[q]? = some (.cells #[.slice ad2 (m + 2) cap2] 119 (0, 0)) := hq5
  generalize w4.setCell ⟨q, 0, none⟩ (.slice ad2 (m + 2) cap2) = W4 at hb5 hq5 ho5 hf5 ⊢
  have c9 : W4.cell? ⟨f, 2, none⟩ = some (.bool true) := by rw [cell_of_row W4 f 2 _ _ _ hf5]; rfl
  replace HB2 := Lib.hid hb5; replace HQ2 := Lib.hid hq5; replace HO := Lib.hid ho5; replace HF2 := Lib.hid hf5
  clear hb5 hq5 ho5 hf5 c2 f2 hS4 S KSB KSG KSQ HB HR G1 G0
  go_wp2_with fail
  refine bodyPost_end (results_none rfl _ _ _) rfl ⟨rfl, HB2.out, _, HQ2.out, ?_⟩
  have hl : (fs ++ fldC ⟨k, v, true⟩).length = m + 2 := by rw [List.length_append, HM.out]; rfl
  rw [hl]
  exact HO.out
set_option maxHeartbeats 4000000 in
theorem lay1c_two (q : Nat) (vb : Value) (fs : List Fld) (k v : ByteArray) (w : World) (hq : w.heap[q]? = some (.cells #[vb] 119 (0, 0))) (hrow : w.ownsRow (q + 1) 116 3 vb fs.length (fs.flatMap fldv)) (hl : fs.length ≤ 1000000) :
    Calls Tryz.prog 74 #[.agg #[.string k, .string v, .bool false], .pointer (some ⟨q, 0, none⟩)] w fun e w' => e = .returned (.tuple #[]) ∧ Below q w w' ∧ FldRow w' q (fs ++ fldC ⟨k, v, false⟩) := by
  obtain ⟨i0, hi, hz0, hz1, hz2⟩ := info_parts info_fld3
  have hlq := lt_of_block hq
  obtain ⟨m, hm⟩ : ∃ m, m = fs.length := ⟨_, rfl⟩
  rw [← hm] at hrow hl
  obtain ⟨ad, cap, rfl⟩ := own_form hrow
  have HM := Lib.hid hm
  clear hm
  go_enter Tryz.func74, Tryz.ntmps74
  go_upto_region 1 with fail
  obtain ⟨f, hf⟩ : ∃ f, f = w.heap.size := ⟨_, rfl⟩
  have g0 := heap_alloc_top w (.cells #[.string k, .string v, .bool false] 42)
  have hB := (Below.refl w.heap.size w).alloc (Nat.le_refl _) (.cells #[.string k, .string v, .bool false] 42)
  have g1 := (heap_alloc_lt w (.cells #[.string k, .string v, .bool false] 42) q hlq).trans hq
  have hr1 : (w.alloc (.cells #[.string k, .string v, .bool false] 42)).ownsRow (q + 1) 116 3 (.slice ad m cap) m (fs.flatMap fldv) := World.ownsRow.alloc hrow _
  rw [← hf] at g0 ⊢
  generalize w.alloc (.cells #[.string k, .string v, .bool false] 42) = W at g0 g1 hB hr1 ⊢
  have HF := Lib.hid hf
  have HB := Lib.hid (hB.mono (show q ≤ w.heap.size by omega))
  clear hf hq hrow hB
  have c2 : W.cell? ⟨f, 2, none⟩ = some (.bool false) := by rw [cell_of_row W f 2 _ _ _ g0]; rfl
  have G0 := Lib.hid g0; have G1 := Lib.hid g1; have HR := Lib.hid hr1
  clear g0 g1 hr1
  go_upto_region 4 with fail
  obtain ⟨S, hS⟩ : ∃ S : World → Prop, S = fun w' => w'.heap[q]? = some (.cells #[.slice ad m cap] 119 (0, 0)) ∧ w'.heap[f]? = some (.cells #[.string k, .string v, .bool false] 42 (0, 0)) := ⟨_, rfl⟩
  have hS0 : S W.drew := by rw [hS]; exact ⟨G1.out, G0.out⟩
  have hcq : ∀ w9, S w9 → w9.cell? ⟨q, 0, none⟩ = some (.slice ad m cap) := fun w9 h => by rw [hS] at h; rw [cell_of_row w9 q 0 _ _ _ h.1]; rfl
  have hc0 : ∀ w9, S w9 → w9.cell? ⟨f, 0, none⟩ = some (.string k) := fun w9 h => by rw [hS] at h; rw [cell_of_row w9 f 0 _ _ _ h.2]; rfl
  have HSB : ∀ w9 w', S w9 → Below w9.heap.size w9 w' → S w' := fun w9 w' h hb => by rw [hS] at h ⊢; exact ⟨(hb.block q (lt_of_block h.1)).trans h.1, (hb.block f (lt_of_block h.2)).trans h.2⟩
  have HSG : ∀ w9 w' row, S w9 → w9.grownBy w' row → some q ≠ row → some f ≠ row → S w' := fun w9 w' row h hg h1 h2 => by rw [hS] at h ⊢; exact ⟨(hg.block q (lt_of_block h.1) h1).trans h.1, (hg.block f (lt_of_block h.2) h2).trans h.2⟩
  have HSQ : ∀ w9, S w9 → w9.heap[q]? = some (.cells #[.slice ad m cap] 119 (0, 0)) ∧ w9.heap[f]? = some (.cells #[.string k, .string v, .bool false] 42 (0, 0)) := fun w9 h => by rw [hS] at h; exact h
  have KSB := Lib.hid HSB; have KSG := Lib.hid HSG; have KSQ := Lib.hid HSQ
  clear hS HSB HSG HSQ c2
  refine wp_region_mixT S 8 [(0,true,true),(1,true,true),(2,true,true),(4,true,true),(3,false,true),(5,false,true),(6,false,true),(7,false,true),(8,false,false)] (by kernel_rfl) (by kernel_rfl) hS0 ?_
  have hb0 : Below q w W.drew := HB.out.drew
  have hr0 : W.drew.ownsRow (q + 1) 116 3 (.slice ad m cap) m (fs.flatMap fldv) := HR.out
  generalize W.drew = w0 at hb0 hr0 hS0 ⊢
  simp only [List.filterMap_cons, List.filterMap_nil, List.getElem?_cons_zero, List.getElem?_cons_succ, Option.map_some]
  repeat (refine mixT_read (by rfl) ?_; apply Exists.intro; refine ⟨fun w9 hw9 => ?_, ?_⟩; (· have d1 := hcq w9 hw9; have d2 := hc0 w9 hw9; go_simp; rfl); simp only [Act.put, List.setIfInBounds_toArray, List.set_cons_succ, List.set_cons_zero])
  refine mixT_step (by rfl) (fun K' hK => ?_)
  go_simp
  go_at_call 75
  refine (t_walk k _).mono ?_
  rintro e w1 ⟨rfl, hb1⟩
  have hS1 := KSB.out _ _ hS0 hb1
  refine hK _ _ hS1 ?_
  clear hK K'
  try simp only [Act.put, List.setIfInBounds_toArray, List.set_cons_succ, List.set_cons_zero]
  have hr1 := own_below hr0 hb1 (Nat.le_refl _)
  have hb01 := hb0.trans (hb1.mono (Nat.le_of_lt (lt_of_block (KSQ.out _ hS0).1)))
  clear hr0 hb0 hb1
  refine mixT_step (by rfl) (fun K' hK => ?_)
  go_simp
  go_at_call 72
  refine (n_walk 0 _).mono ?_
  rintro e w2 ⟨rfl, hb2⟩
  have hS2 := KSB.out _ _ hS1 hb2
  refine hK _ _ hS2 ?_
  clear hK K'
  try simp only [Act.put, List.setIfInBounds_toArray, List.set_cons_succ, List.set_cons_zero]
  have hr2 := own_below hr1 hb2 (Nat.le_refl _)
  have hb02 := hb01.trans (hb2.mono (Nat.le_of_lt (lt_of_block (KSQ.out _ hS1).1)))
  clear hr1 hb01 hb2 hS0
  refine mixT_step (by rfl) (fun K' hK => ?_)
  unfold fld
  go_simp
  have g3 := heap_alloc_top w2 (.cells #[.int .i64 0, .string k, .bool true, .int .i64 0, .string ⟨#[]⟩, .bool false] 116)
  have hb3 := (Below.refl w2.heap.size w2).alloc (Nat.le_refl _) (.cells #[.int .i64 0, .string k, .bool true, .int .i64 0, .string ⟨#[]⟩, .bool false] 116)
  have hS3 := KSB.out _ _ hS2 hb3
  refine hK _ _ hS3 ?_
  clear hK K'
  try simp only [Act.put, List.setIfInBounds_toArray, List.set_cons_succ, List.set_cons_zero]
  have hr3 := own_below hr2 hb3 (Nat.le_refl _)
  have hb03 := hb02.trans (hb3.mono (Nat.le_of_lt (lt_of_block (KSQ.out _ hS2).1)))
  have hsrc := src_flds [(0, k, true), (0, ⟨#[]⟩, false)] _ g3
  generalize w2.alloc (.cells #[.int .i64 0, .string k, .bool true, .int .i64 0, .string ⟨#[]⟩, .bool false] 116) = w3 at hr3 hb03 hS3 hsrc ⊢
  clear hr2 hb02 hb3 hS1 hS2 g3
  refine mixT_step (by rfl) (fun K' hK => ?_)
  have hq1 := (KSQ.out _ hS3).1
  have hf1 := (KSQ.out _ hS3).2
  refine wp_append_at _ _ _ 119 119 rfl (q + 1) 116 i0 (.agg #[.int .i64 0, .string ⟨#[]⟩, .bool false]) 3 32 Tryz.underlying119 hi hz0 hz1 hz2 rfl (by decide) _ m (fs.flatMap fldv) rfl hr3 _ 2 _ rfl hsrc (by unfold maxLen; omega) (by omega) (by have := lt_of_block hq1; omega) ?_
  intro v2 w4 hown2 hgrow hpl
  have hnq := own_ne hr3 hq1 (by decide)
  have hnf := own_ne hr3 hf1 (by decide)
  have hS4 := KSG.out _ _ _ hS3 hgrow (fun e => hnq e.symm) (fun e => hnf e.symm)
  refine hK _ _ hS4 ?_
  clear hK K'
  try simp only [Act.put, List.setIfInBounds_toArray, List.set_cons_succ, List.set_cons_zero]
  rw [← List.flatMap_append] at hown2
  have hb4 : Below q w w4 := hb03.trans ⟨hgrow.os, hgrow.tape, hgrow.output, hgrow.size, fun k hk => hgrow.block k (by have := lt_of_block hq1; omega) (fun e => by have := (hr3.lt k e.symm).1; omega)⟩
  have hq2 := (KSQ.out _ hS4).1
  have hf2 := (KSQ.out _ hS4).2
  have c2 := hcq _ hS4
  have f2 : w4.frozen? ⟨q, 0, none⟩ = false := by simp [World.frozen?, hq2]
  obtain ⟨ad2, cap2, rfl⟩ := own_form hown2
  have HQ2 := Lib.hid hq2; have HO := Lib.hid hown2; have HB2 := Lib.hid hb4; have HF2 := Lib.hid hf2
  clear hq1 hf1 hgrow hpl hnq hnf hown2 hb4 hq2 hr3 hb03 hS3 hcq hc0 hf2 hsrc
  refine mixT_tail (by rfl) (fun K' hK => ?_)
  go_simp
  refine hK _ _ ?_
  clear hK K'
  try simp only [Act.put, List.setIfInBounds_toArray, List.set_cons_succ, List.set_cons_zero]
  refine mixT_nil (NoPanic.normal ?_)
  have hqf : q ≠ f := by have := HF.out; omega
  have hb5 := HB2.out.setCell (p := ⟨q, 0, none⟩) (Nat.le_refl _) (.slice ad2 (m + 2) cap2)
  have hq5 := setCell_block HQ2.out (i := 0) (.slice ad2 (m + 2) cap2)
  have ho5 := ownsRow_setCell_other HO.out (a := ⟨q, 0, none⟩) (fun e => by have := (HO.out.lt q e).1; omega) (.slice ad2 (m + 2) cap2)
  have hf5 : (w4.setCell ⟨q, 0, none⟩ (.slice ad2 (m + 2) cap2)).heap[f]? = some (.cells #[.string k, .string v, .bool false] 42 (0, 0)) := ((grownBy_setCell w4 q 0 _).block f (lt_of_block HF2.out) (fun e => hqf (Option.some.inj e).symm)).trans HF2.out
  replace hq5 : (w4.setCell ⟨q, 0, none⟩ (.slice ad2 (m + 2) cap2)).heap[q]? = some (.cells #[.slice ad2 (m + 2) cap2] 119 (0, 0)) := hq5
  generalize w4.setCell ⟨q, 0, none⟩ (.slice ad2 (m + 2) cap2) = W4 at hb5 hq5 ho5 hf5 ⊢
  have c9 : W4.cell? ⟨f, 2, none⟩ = some (.bool false) := by rw [cell_of_row W4 f 2 _ _ _ hf5]; rfl
  replace HB2 := Lib.hid hb5; replace HQ2 := Lib.hid hq5; replace HO := Lib.hid ho5; replace HF2 := Lib.hid hf5
  clear hb5 hq5 ho5 hf5 c2 f2 hS4 S KSB KSG KSQ HB HR G1 G0
  go_upto_region 6 with fail
  obtain ⟨S, hS⟩ : ∃ S : World → Prop, S = fun w' => w'.heap[q]? = some (.cells #[.slice ad2 (m + 2) cap2] 119 (0, 0)) ∧ w'.heap[f]? = some (.cells #[.string k, .string v, .bool false] 42 (0, 0)) := ⟨_, rfl⟩
  have hS0 : S W4.drew := by rw [hS]; exact ⟨HQ2.out, HF2.out⟩
  have hcq : ∀ w9, S w9 → w9.cell? ⟨q, 0, none⟩ = some (.slice ad2 (m + 2) cap2) := fun w9 h => by rw [hS] at h; rw [cell_of_row w9 q 0 _ _ _ h.1]; rfl
  have hc0 : ∀ w9, S w9 → w9.cell? ⟨f, 1, none⟩ = some (.string v) := fun w9 h => by rw [hS] at h; rw [cell_of_row w9 f 1 _ _ _ h.2]; rfl
  have HSB : ∀ w9 w', S w9 → Below w9.heap.size w9 w' → S w' := fun w9 w' h hb => by rw [hS] at h ⊢; exact ⟨(hb.block q (lt_of_block h.1)).trans h.1, (hb.block f (lt_of_block h.2)).trans h.2⟩
  have HSG : ∀ w9 w' row, S w9 → w9.grownBy w' row → some q ≠ row → some f ≠ row → S w' := fun w9 w' row h hg h1 h2 => by rw [hS] at h ⊢; exact ⟨(hg.block q (lt_of_block h.1) h1).trans h.1, (hg.block f (lt_of_block h.2) h2).trans h.2⟩
  have HSQ : ∀ w9, S w9 → w9.heap[q]? = some (.cells #[.slice ad2 (m + 2) cap2] 119 (0, 0)) ∧ w9.heap[f]? = some (.cells #[.string k, .string v, .bool false] 42 (0, 0)) := fun w9 h => by rw [hS] at h; exact h
  have KSB := Lib.hid HSB; have KSG := Lib.hid HSG; have KSQ := Lib.hid HSQ
  clear hS HSB HSG HSQ c9
  refine wp_region_mixT S 6 [(0,true,true),(1,true,true),(2,true,true),(3,false,true),(4,false,true),(5,false,true),(6,false,false)] (by kernel_rfl) (by kernel_rfl) hS0 ?_
  have hb0 : Below q w W4.drew := HB2.out.drew
  have hr0 : W4.drew.ownsRow (q + 1) 116 3 (.slice ad2 (m + 2) cap2) (m + 2) ((fs ++ [(0, k, true), (0, ⟨#[]⟩, false)]).flatMap fldv) := HO.out
  generalize W4.drew = w0 at hb0 hr0 hS0 ⊢
  simp only [List.filterMap_cons, List.filterMap_nil, List.getElem?_cons_zero, List.getElem?_cons_succ, Option.map_some]
  repeat (refine mixT_read (by rfl) ?_; apply Exists.intro; refine ⟨fun w9 hw9 => ?_, ?_⟩; (· have d1 := hcq w9 hw9; have d2 := hc0 w9 hw9; go_simp; rfl); simp only [Act.put, List.setIfInBounds_toArray, List.set_cons_succ, List.set_cons_zero])
  refine mixT_step (by rfl) (fun K' hK => ?_)
  go_simp
  go_at_call 75
  refine (t_walk v _).mono ?_
  rintro e w1 ⟨rfl, hb1⟩
  have hS1 := KSB.out _ _ hS0 hb1
  refine hK _ _ hS1 ?_
  clear hK K'
  try simp only [Act.put, List.setIfInBounds_toArray, List.set_cons_succ, List.set_cons_zero]
  have hr1 := own_below hr0 hb1 (Nat.le_refl _)
  have hb01 := hb0.trans (hb1.mono (Nat.le_of_lt (lt_of_block (KSQ.out _ hS0).1)))
  clear hr0 hb0 hb1
  refine mixT_step (by rfl) (fun K' hK => ?_)
  unfold fld
  go_simp
  have g3 := heap_alloc_top w1 (.cells #[.int .i64 0, .string v, .bool true] 116)
  have hb3 := (Below.refl w1.heap.size w1).alloc (Nat.le_refl _) (.cells #[.int .i64 0, .string v, .bool true] 116)
  have hS3 := KSB.out _ _ hS1 hb3
  refine hK _ _ hS3 ?_
  clear hK K'
  try simp only [Act.put, List.setIfInBounds_toArray, List.set_cons_succ, List.set_cons_zero]
  have hr3 := own_below hr1 hb3 (Nat.le_refl _)
  have hb03 := hb01.trans (hb3.mono (Nat.le_of_lt (lt_of_block (KSQ.out _ hS1).1)))
  have hsrc := src_flds [(0, v, true)] _ g3
  generalize w1.alloc (.cells #[.int .i64 0, .string v, .bool true] 116) = w3 at hr3 hb03 hS3 hsrc ⊢
  clear hr1 hb01 hb3 hS1 hS0 g3
  refine mixT_step (by rfl) (fun K' hK => ?_)
  have hq1 := (KSQ.out _ hS3).1
  have hf1 := (KSQ.out _ hS3).2
  refine wp_append_at _ _ _ 119 119 rfl (q + 1) 116 i0 (.agg #[.int .i64 0, .string ⟨#[]⟩, .bool false]) 3 32 Tryz.underlying119 hi hz0 hz1 hz2 rfl (by decide) _ (m + 2) _ rfl hr3 _ 1 _ rfl hsrc (by unfold maxLen; omega) (by omega) (by have := lt_of_block hq1; omega) ?_
  intro v2 w4 hown2 hgrow hpl
  have hnq := own_ne hr3 hq1 (by decide)
  have hnf := own_ne hr3 hf1 (by decide)
  have hS4 := KSG.out _ _ _ hS3 hgrow (fun e => hnq e.symm) (fun e => hnf e.symm)
  refine hK _ _ hS4 ?_
  clear hK K'
  try simp only [Act.put, List.setIfInBounds_toArray, List.set_cons_succ, List.set_cons_zero]
  rw [← List.flatMap_append] at hown2
  have hb4 : Below q w w4 := hb03.trans ⟨hgrow.os, hgrow.tape, hgrow.output, hgrow.size, fun k hk => hgrow.block k (by have := lt_of_block hq1; omega) (fun e => by have := (hr3.lt k e.symm).1; omega)⟩
  have hq2 := (KSQ.out _ hS4).1
  have hf2 := (KSQ.out _ hS4).2
  have c2 := hcq _ hS4
  have f2 : w4.frozen? ⟨q, 0, none⟩ = false := by simp [World.frozen?, hq2]
  obtain ⟨ad3, cap3, rfl⟩ := own_form hown2
  replace HQ2 := Lib.hid hq2; replace HO := Lib.hid hown2; replace HB2 := Lib.hid hb4; replace HF2 := Lib.hid hf2
  clear hq1 hf1 hgrow hpl hnq hnf hown2 hb4 hq2 hr3 hb03 hS3 hcq hc0 hf2 hsrc
  refine mixT_tail (by rfl) (fun K' hK => ?_)
  go_simp
  refine hK _ _ ?_
  clear hK K'
  try simp only [Act.put, List.setIfInBounds_toArray, List.set_cons_succ, List.set_cons_zero]
  refine mixT_nil (NoPanic.normal ?_)
  have hb5 := HB2.out.setCell (p := ⟨q, 0, none⟩) (Nat.le_refl _) (.slice ad3 (m + 2 + 1) cap3)
  have hq5 := setCell_block HQ2.out (i := 0) (.slice ad3 (m + 2 + 1) cap3)
  have ho5 := ownsRow_setCell_other HO.out (a := ⟨q, 0, none⟩) (fun e => by have := (HO.out.lt q e).1; omega) (.slice ad3 (m + 2 + 1) cap3)
  go_wp2_with fail
  refine bodyPost_end (results_none rfl _ _ _) rfl ⟨rfl, hb5, _, hq5, ?_⟩
  have hl : (fs ++ fldC ⟨k, v, false⟩).length = m + 2 + 1 := by rw [List.length_append, HM.out]; rfl
  have hl2 : fs ++ fldC ⟨k, v, false⟩ = fs ++ [(0, k, true), (0, ⟨#[]⟩, false)] ++ [(0, v, true)] := by rw [List.append_assoc]; rfl
  rw [hl, hl2]
  exact ho5
end Go.Proofs.YtjjejkhekmpgcaaGreat

namespace Go.Proofs.YtjjejkhekmpgcaaGreat
set_option maxRecDepth 4000
open Go.RowKit

/-- a transaction's bytes -/
def layC (l : List Chg) : ByteArray × Int := lay (l.flatMap fldC)
theorem FldRow.nil {w : World} {q : Nat} (h : w.heap[q]? = some (.cells #[.slice none 0 0] 119 (0, 0))) : FldRow w q [] := ⟨_, h, World.ownsRow_nil _ _ _ _⟩
theorem FldRow.below {w w' : World} {q : Nat} {l : List Fld} (h : FldRow w q l) (hb : Below w.heap.size w w') : FldRow w' q l := by
  obtain ⟨v, h1, h2⟩ := h
  exact ⟨v, (hb.block q (lt_of_block h1)).trans h1, own_below h2 hb (Nat.le_refl _)⟩
theorem lay1c_walk (q : Nat) (fs : List Fld) (c : Chg) (w : World) (h : FldRow w q fs) (hl : fs.length ≤ 1000000) :
    Calls Tryz.prog 74 #[.agg #[.string c.key, .string c.val, .bool c.gone], .pointer (some ⟨q, 0, none⟩)] w fun e w' => e = .returned (.tuple #[]) ∧ Below q w w' ∧ FldRow w' q (fs ++ fldC c) := by
  obtain ⟨vb, h1, h2⟩ := h
  obtain ⟨k, v, g⟩ := c
  cases g with
  | true => exact lay1c_one q vb fs k v w h1 h2 hl
  | false => exact lay1c_two q vb fs k v w h1 h2 hl
theorem flat_take {l : List Chg} {k : Nat} (h : k < l.length) : (l.take (k + 1)).flatMap fldC = (l.take k).flatMap fldC ++ fldC l[k] := by
  rw [List.take_succ_eq_append_getElem h, List.flatMap_append, List.flatMap_cons, List.flatMap_nil, List.append_nil]
theorem fldC_len (c : Chg) : (fldC c).length ≤ 3 := by unfold fldC; cases c.gone <;> simp
theorem flat_len : ∀ l : List Chg, (l.flatMap fldC).length ≤ 3 * l.length
  | [] => by simp
  | c :: l => by
    have := flat_len l
    have := fldC_len c
    rw [List.flatMap_cons, List.length_append, List.length_cons]
    omega
theorem flat_sizes {l : List Chg} (hz : ∀ c ∈ l, c.key.size ≤ 9223372036854775807 ∧ c.val.size ≤ 9223372036854775807) : ∀ f ∈ l.flatMap fldC, f.1 ≤ 9223372036854775807 ∧ f.2.1.size ≤ 9223372036854775807 := by
  intro f hf
  obtain ⟨c, hc, hfc⟩ := List.mem_flatMap.1 hf
  obtain ⟨h1, h2⟩ := hz c hc
  unfold fldC at hfc
  simp only [List.cons_append, List.nil_append, List.mem_cons] at hfc
  rcases hfc with rfl | rfl | hfc
  · exact ⟨by show (0 : Int) ≤ _; omega, h1⟩
  · refine ⟨?_, Nat.zero_le _⟩
    show (if c.gone then (1 : Int) else 0) ≤ _
    cases c.gone <;> decide
  · cases hg : c.gone with
    | true => rw [hg] at hfc; simp at hfc
    | false =>
      rw [hg] at hfc
      simp at hfc
      subst hfc
      exact ⟨by show (0 : Int) ≤ _; omega, h2⟩

set_option maxHeartbeats 4000000 in
theorem slay_walk (ad : Option Addr) (cap : Nat) (l : List Chg) (w : World) (hl : chgsAt w ad l) (hs : l.length ≤ 300000) (hz : ∀ c ∈ l, c.key.size ≤ 9223372036854775807 ∧ c.val.size ≤ 9223372036854775807) :
    Calls Tryz.prog 47 #[.slice ad l.length cap] w fun e w' => e = .returned (.tuple #[.string (layC l).1, .int .i64 (layC l).2]) ∧ Below w.heap.size w w' := by
  have HL := Lib.hid hl
  have HZ := Lib.hid (flat_sizes hz)
  have hlen := flat_len l
  clear hl hz
  have HLEN := Lib.hid hlen
  obtain ⟨R, hR⟩ : ∃ R, R = layC l := ⟨_, rfl⟩
  rw [← hR]
  have HR := Lib.hid hR
  clear hlen hR
  go_enter Tryz.func47, Tryz.ntmps47
  go_upto_region 3 with fail
  obtain ⟨q, hq⟩ : ∃ q, q = w.heap.size := ⟨_, rfl⟩
  have g0 := heap_alloc_top w (.cells #[.slice none 0 0] 119)
  have hB := (Below.refl w.heap.size w).alloc (Nat.le_refl _) (.cells #[.slice none 0 0] 119)
  rw [← hq] at g0 hB ⊢
  generalize w.alloc (.cells #[.slice none 0 0] 119) = W at g0 hB ⊢
  have HQ := Lib.hid hq; have HB := Lib.hid hB; have G0 := Lib.hid (FldRow.nil g0)
  clear hq hB g0
  go_wp2_with fail
  go_loopg [11] l.length (fun gk i wr => ∃ k : Nat, k + gk = l.length ∧ i = .int .i64 k ∧ FldRow wr q ((l.take k).flatMap fldC) ∧ Below q w wr)
  case atStart => exact ⟨0, by omega, rfl, G0.out, HB.out⟩
  case round =>
    obtain ⟨k, hgk, rfl, hrow, hb⟩ := hrel
    have HROW := Lib.hid hrow; have HBB := Lib.hid hb
    clear hrow hb
    by_cases hlt : k < l.length
    · have hat := chgsAt_below HL.out (Nat.le_of_eq HQ.out.symm) HBB.out
      rcases hat with hat | ⟨b, off, rfl, hbl, hcs⟩
      · simp [hat] at hlt
      have hcc := hcs k hlt
      have hfl : ((l.take k).flatMap fldC).length ≤ 1000000 := by
        have := flat_len (l.take k)
        have h2 : (l.take k).length ≤ l.length := by rw [List.length_take]; omega
        omega
      have hst := flat_take hlt
      obtain ⟨x, hx⟩ : ∃ x, x = l[k] := ⟨_, rfl⟩
      rw [← hx] at hcc hst
      have HCC := Lib.hid hcc; have HFL := Lib.hid hfl; have HST := Lib.hid hst
      clear hcs hx hcc hfl hst
      obtain ⟨ky, vl, gn⟩ := x
      go_upto_region 6 with (refine wpList_cells 42 _ rfl b (off + k * 3) rfl rfl [.string ky, .string vl, .bool gn] _ HCC.out Tryz.underlying42 rfl (by kernel_rfl) ?_)
      have e2 := heap_alloc_top wr (.cells #[.string ky, .string vl, .bool gn] 42)
      have eR := HROW.out.below ((Below.refl wr.heap.size wr).alloc (Nat.le_refl _) (.cells #[.string ky, .string vl, .bool gn] 42))
      have eB := HBB.out.alloc (by have := HROW.out; obtain ⟨_, h, _⟩ := this; have := lt_of_block h; omega) (.cells #[.string ky, .string vl, .bool gn] 42)
      obtain ⟨p, hp⟩ : ∃ p, p = wr.heap.size := ⟨_, rfl⟩
      rw [← hp] at e2 ⊢
      generalize wr.alloc (.cells #[.string ky, .string vl, .bool gn] 42) = W3 at e2 eR eB ⊢
      have K2 := Lib.hid e2; have KR := Lib.hid eR; have KB := Lib.hid eB
      clear e2 eR eB hp HCC hbl
      go_wp2_with (refine wpList_row 42 _ rfl p rfl rfl 42 #[.string ky, .string vl, .bool gn] (0, 0) _ K2.out Tryz.underlying42 rfl (by kernel_rfl) ?_)
      refine (lay1c_walk q _ ⟨ky, vl, gn⟩ _ KR.out HFL.out).mono ?_
      rintro e w4 ⟨rfl, hb4, hr4⟩
      rw [← HST.out] at hr4
      have M2 := Lib.hid hr4
      have M3 := Lib.hid (KB.out.trans hb4)
      clear hb4 hr4 KR KB
      go_wp2_with fail
      go_roundg (gk - 1)
      case measure => omega
      case rel => exact ⟨k + 1, by omega, by go_num, M2.out, M3.out⟩
    · have hk : k = l.length := by omega
      have hr := HROW.out
      rw [List.take_of_length_le (by omega)] at hr
      obtain ⟨vb, hq1, hown⟩ := hr
      obtain ⟨ad2, cap2, rfl, hat⟩ := fldsAt_own hown
      have c0 : wr.cell? ⟨q, 0, none⟩ = some (.slice ad2 (l.flatMap fldC).length cap2) := by rw [cell_of_row wr q 0 _ _ _ hq1]; rfl
      have KL := Lib.hid (lay_walk ad2 cap2 (l.flatMap fldC) wr hat (by have := HLEN.out; omega) HZ.out)
      have HKB := Lib.hid (HBB.out.mono (Nat.le_of_eq HQ.out.symm))
      have hsz : w.heap.size ≤ wr.heap.size := HBB.out.size
      have hll : layC l = lay (l.flatMap fldC) := rfl
      rw [← hll, ← HR.out] at KL
      generalize (l.flatMap fldC).length = n at c0 KL
      clear hq1 hown hat hll HROW HBB
      go_wp2_with fail
      refine KL.out.mono ?_
      rintro e w5 ⟨rfl, hb5⟩
      have HF := Lib.hid (HKB.out.trans (hb5.mono hsz))
      clear hb5
      go_wp2_with fail
      go_ret2
      exact ⟨rfl, HF.out⟩
end Go.Proofs.YtjjejkhekmpgcaaGreat
