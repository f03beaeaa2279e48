/-
  Layer 3: sectors are settled (plain); the functions that tell which bytes are kept.
-/
import Derived.Test.YtcabocppplokgaaDskG
import Derived.Test.YtcabocppplokgaaQuiet
namespace Go.Proofs.Ytcabocppplokgaa
open Go.RowKit

/-- these numbers lie there -/
def intsAt (w : World) (ad : Option Addr) (l : List Int) : Prop :=
  l = [] ∨ ∃ b off, ad = some ⟨b, off, none⟩ ∧ b < w.heap.size ∧ ∀ i (h : i < l.length), w.cell? ⟨b, off + i, none⟩ = some (.int .i64 l[i])
theorem intsAt_touch {w w' : World} {F : Nat → Prop} {ad : Option Addr} {l : List Int} (h : intsAt w ad l) (ht : Touch F w w') (hF : ∀ b off, ad = some ⟨b, off, none⟩ → ¬ F b) : intsAt w' ad l := by
  rcases h with h | ⟨b, off, h1, h2, h3⟩
  · exact .inl h
  · refine .inr ⟨b, off, h1, by have := ht.size; omega, fun i hi => ?_⟩
    rw [World.cell?_of_block (ht.block b h2 (hF b off h1))]
    exact h3 i hi
/-- which one is kept -/
def crashK (keep : List Int) (i m : Nat) : Nat := if i < keep.length then ((keep.getD i 0).tmod m).natAbs else 0
theorem tmod_lt (a : Int) (m : Nat) (hm : 0 < m) : (a.tmod m).natAbs < m := by
  rw [Int.natAbs_tmod]
  exact Nat.mod_lt _ (by simpa using hm)
theorem crashK_lt (keep : List Int) (i m : Nat) (hm : 0 < m) : crashK keep i m < m := by
  unfold crashK
  split
  · exact tmod_lt _ m hm
  · exact hm

/-- sectors, settled one by one -/
def settleN (pick : Nat → List Sec → Sec) (S : List (List Sec)) (l : List Nat) : Nat → List (List Sec)
  | 0 => S
  | k + 1 => putS (settleN pick S l k) (l.getD k 0) [pick k ((settleN pick S l k).getD (l.getD k 0) [])]
theorem settleN_length (pick : Nat → List Sec → Sec) (S : List (List Sec)) (l : List Nat) : ∀ k, (settleN pick S l k).length = S.length
  | 0 => rfl
  | k + 1 => by rw [settleN, putS_length, settleN_length pick S l k]
theorem getD_put (S : List (List Sec)) (i j : Nat) (L : List Sec) (h : j ≠ i) : (putS S i L).getD j [] = S.getD j [] := by
  unfold putS
  rw [List.getD_eq_getElem?_getD, List.getElem?_set_ne (fun e => h e.symm), List.getD_eq_getElem?_getD]
theorem dirt_nodup (S : List (List Sec)) : (dirt S).Nodup := List.Pairwise.filter _ List.nodup_range
theorem dirt_mem {S : List (List Sec)} {i : Nat} (h : i ∈ dirt S) : i < S.length ∧ pend S i ≠ [] := by
  obtain ⟨h1, h2⟩ := List.mem_filter.1 h
  exact ⟨List.mem_range.1 h1, of_decide_eq_true h2⟩
/-- those that are still to come are as they were -/
theorem settleN_rest (pick : Nat → List Sec → Sec) (S : List (List Sec)) (l : List Nat) (hl : l.Nodup) : ∀ k j, k ≤ j → j < l.length → (settleN pick S l k).getD (l.getD j 0) [] = S.getD (l.getD j 0) []
  | 0, _, _, _ => rfl
  | k + 1, j, hkj, hj => by
    rw [settleN, getD_put _ _ _ _ (fun e => ?_), settleN_rest pick S l hl k j (by omega) hj]
    have hk : k < l.length := by omega
    rw [List.getD_eq_getElem?_getD, List.getD_eq_getElem?_getD, List.getElem?_eq_getElem hj, List.getElem?_eq_getElem hk] at e
    exact List.pairwise_iff_getElem.1 hl k j hk hj (by omega) (Eq.symm e)
theorem settleN_ok {pick : Nat → List Sec → Sec} (hp : ∀ i L, L ≠ [] → (∀ s ∈ L, s.length = 64) → (pick i L).length = 64) {S : List (List Sec)} (ok : secOk S) (l : List Nat) (hl : ∀ i ∈ l, i < S.length) : ∀ k, k ≤ l.length → secOk (settleN pick S l k)
  | 0, _ => ok
  | k + 1, hk => by
    have ih := settleN_ok hp ok l hl k (by omega)
    rw [settleN]
    have hi : l.getD k 0 < (settleN pick S l k).length := by
      rw [settleN_length]
      refine hl _ ?_
      rw [List.getD_eq_getElem?_getD, List.getElem?_eq_getElem (by omega)]
      exact List.getElem_mem _
    have hg := getD_ok ih hi
    exact secOk_put ih _ (by simp) (fun s hs => by rw [List.mem_singleton.1 hs]; exact hp k _ hg.1 hg.2)

set_option maxHeartbeats 1000000 in
theorem flush1_walk (j : Nat) (L : List Sec) (g cap : Nat) (w : World) (h : SecRow w (.slice (some ⟨g, 0, none⟩) L.length cap) L) (hL : L ≠ []) (h64 : ∀ s ∈ L, s.length = 64) (hc : L.length ≤ 9223372036854775807) :
    Calls Try.prog 28 #[.int .i64 j, .slice (some ⟨g, 0, none⟩) L.length cap] w fun e w' => e = .returned (.agg (bv (L.getLastD [])).toArray) ∧ Below w.heap.size w w' := by
  obtain ⟨s, hs⟩ : ∃ s, s = L.getLastD [] := ⟨_, rfl⟩
  have hpos := List.length_pos_iff.2 hL
  have hlast : L[L.length - 1]? = some s := by
    rw [← List.getLast?_eq_getElem?, hs, List.getLast?_eq_some_getLast hL, List.getLastD_eq_getLast?, List.getLast?_eq_some_getLast hL]
    rfl
  have hsl : s.length = 64 := h64 s (List.mem_of_getElem? hlast)
  have hbs : (bv s).length = 64 := by rw [bv_length, hsl]
  have hload : ∀ j u, (bv s)[j]? = some u → w.cell? ⟨g, (L.length - 1) * 64 + j, none⟩ = some u := fun j u hu => by
    refine h.cell h64 (L.length - 1) (by omega) j u ?_
    rw [List.getElem?_eq_getElem (by omega)] at hlast
    rw [Option.some.inj hlast]
    exact hu
  have hg : g < w.heap.size := (h.open hL).elim fun g' h' => by obtain ⟨_, _, hv, hb, _⟩ := h'; cases hv; exact lt_of_block hb
  obtain ⟨m, hm⟩ : ∃ m, m = L.length := ⟨_, rfl⟩
  rw [← hm] at hload hpos hc ⊢
  rw [← hs]
  obtain ⟨W, hW⟩ : ∃ W, W = w.alloc (.cells (List.replicate 64 (Value.int .u8 0)).toArray 65) := ⟨_, rfl⟩
  obtain ⟨x, hx⟩ : ∃ x, x = w.heap.size := ⟨_, rfl⟩
  have hb1 : Below w.heap.size w W := by rw [hW]; exact (Below.refl w.heap.size w).alloc (Nat.le_refl _) _
  have g1 : W.heap[x]? = some (.cells (List.replicate 64 (Value.int .u8 0)).toArray 65 (0, 0)) := by rw [hW, hx]; exact heap_alloc_top _ _
  have hload1 : ∀ j u, (bv s)[j]? = some u → W.cell? ⟨g, (m - 1) * 64 + j, none⟩ = some u := fun j u hu => (hb1.cell (p := ⟨g, (m - 1) * 64 + j, none⟩) hg).trans (hload j u hu)
  have HL := Lib.hid hload1; have HB1 := Lib.hid hb1; have G1 := Lib.hid g1; have HBS := Lib.hid hbs; have HW := Lib.hid hW; have HX := Lib.hid hx
  have hpi : (1 : Int) ≤ (m : Int) := by omega
  clear h hL h64 hs hlast hsl hbs hload hg hm hW hx hb1 g1 hload1
  go_enter Try.func28, Try.ntmps28
  go_upto_region 1 with fail
  refine wp_world HW.out ?_
  rw [← HX.out]
  go_wp2_with (first
    | (refine wpList_cells 65 _ rfl g ((m - 1) * 64) rfl rfl (bv s) _ HL.out Try.underlying65 rfl (by rw [HBS.out]; exact info_sec1) ?_)
    | (refine wpList_store_row rfl 65 _ _ rfl x (bv s).toArray rfl rfl 65 _ G1.out (by rw [List.size_toArray, HBS.out]; exact info_sec1) (by simp [HBS.out]) (by rw [List.all_toArray]; exact List.all_eq_true.2 (bv_one s)) ?_))
  have hblk := setRow_heap W x _ (bv s).toArray 65 (0, 0) G1.out
  exact bodyPost_ret (v := .agg (bv s).toArray) (results_cell_row rfl _ _ x 65 (bv s).toArray (0, 0) _ rfl hblk Try.underlying65 rfl (by rw [List.size_toArray, HBS.out]; exact info_sec1)) rfl ⟨rfl, (touch_setRow (F := fun k => k = x) W x _ rfl).below HB1.out HB1.out.size (fun k hk => by rw [hk, HX.out]; exact Nat.le_refl _)⟩

set_option maxHeartbeats 2000000 in
theorem crash1_walk (kb : Nat) (adk : Option Addr) (capk : Nat) (keep : List Int) (j : Nat) (L : List Sec) (g cap : Nat) (w : World) (hkb : w.heap[kb]? = some (.cells #[.slice adk keep.length capk] 23 (0, 0))) (hki : intsAt w adk keep) (hkl : keep.length ≤ 9223372036854775807)
    (hkr : ∀ x ∈ keep, -9223372036854775808 ≤ x ∧ x ≤ 9223372036854775807) (h : SecRow w (.slice (some ⟨g, 0, none⟩) L.length cap) L) (hL : L ≠ []) (h64 : ∀ s ∈ L, s.length = 64) (hc : L.length ≤ 2000000000) :
    Calls Try.prog 30 #[.int .i64 j, .slice (some ⟨g, 0, none⟩) L.length cap, .pointer (some ⟨kb, 0, none⟩)] w fun e w' => e = .returned (.agg (bv (L.getD (crashK keep j L.length) [])).toArray) ∧ Below w.heap.size w w' := by
  have hpos := List.length_pos_iff.2 hL
  obtain ⟨q, hq⟩ : ∃ q, q = crashK keep j L.length := ⟨_, rfl⟩
  have hql : q < L.length := by rw [hq]; exact crashK_lt keep j _ hpos
  obtain ⟨s, hs⟩ : ∃ s, s = L.getD q [] := ⟨_, rfl⟩
  have hsg : s = L[q] := by rw [hs, List.getD_eq_getElem?_getD, List.getElem?_eq_getElem hql]; rfl
  have hsl : s.length = 64 := by rw [hsg]; exact h64 _ (List.getElem_mem _)
  have hbs : (bv s).length = 64 := by rw [bv_length, hsl]
  have hload : ∀ j u, (bv s)[j]? = some u → w.cell? ⟨g, q * 64 + j, none⟩ = some u := fun j u hu => by
    refine h.cell h64 q hql j u ?_
    rw [← hsg]
    exact hu
  have hg : g < w.heap.size := (h.open hL).elim fun g' h' => by obtain ⟨_, _, hv, hb, _⟩ := h'; cases hv; exact lt_of_block hb
  rw [← hq, ← hs]
  obtain ⟨m, hm⟩ : ∃ m, m = L.length := ⟨_, rfl⟩
  obtain ⟨n, hn⟩ : ∃ n, n = keep.length := ⟨_, rfl⟩
  rw [← hm] at hpos hc hql hq ⊢
  rw [← hn] at hkb hkl
  obtain ⟨W, hW⟩ : ∃ W, W = w.alloc (.cells (List.replicate 64 (Value.int .u8 0)).toArray 65) := ⟨_, rfl⟩
  obtain ⟨x, hx⟩ : ∃ x, x = w.heap.size := ⟨_, rfl⟩
  have hb1 : Below w.heap.size w W := by rw [hW]; exact (Below.refl w.heap.size w).alloc (Nat.le_refl _) _
  have g1 : W.heap[x]? = some (.cells (List.replicate 64 (Value.int .u8 0)).toArray 65 (0, 0)) := by rw [hW, hx]; exact heap_alloc_top _ _
  have hload1 : ∀ j u, (bv s)[j]? = some u → W.cell? ⟨g, q * 64 + j, none⟩ = some u := fun j u hu => (hb1.cell (p := ⟨g, q * 64 + j, none⟩) hg).trans (hload j u hu)
  have hck : W.cell? ⟨kb, 0, none⟩ = some (.slice adk n capk) := cell_at ((hb1.block kb (lt_of_block hkb)).trans hkb) rfl
  have hxk : kb ≠ x := by have := lt_of_block hkb; omega
  have hki1 := intsAt_touch hki (Touch.ofBelow (fun _ => False) hb1) (fun _ _ _ hf => hf)
  have HL := Lib.hid hload1; have HB1 := Lib.hid hb1; have G1 := Lib.hid g1; have HBS := Lib.hid hbs; have HW := Lib.hid hW; have HX := Lib.hid hx; have HQ := Lib.hid hq; have HQL := Lib.hid hql; have HN := Lib.hid hn; have HKI := Lib.hid hki1; have HKR := Lib.hid hkr; have HKL := Lib.hid hkl; have HKB := Lib.hid hkb; have HGW := Lib.hid (Nat.lt_of_lt_of_le hg hb1.size)
  have hpi : (1 : Int) ≤ (m : Int) := by omega
  have hmi : (m : Int) ≤ 2000000000 := by omega
  clear h hL h64 hs hsg hsl hbs hload hg hm hn hW hx hb1 g1 hload1 hq hql hki hkr hkl hki1 hpos hc hkb
  by_cases hlt : (j : Int) < (n : Int)
  · rcases HKI.out with hnil | ⟨bk, off, rfl, hbk, hcs⟩
    · have := HN.out; rw [hnil] at this; simp at this; omega
    have hjn : j < keep.length := by have := HN.out; omega
    have hck2 := hcs j hjn
    obtain ⟨k, hk⟩ : ∃ k, k = keep[j] := ⟨_, rfl⟩
    have hkk := HKR.out keep[j] (List.getElem_mem _)
    rw [← hk] at hck2 hkk
    have hq2 : q = (k.tmod m).natAbs := by
      rw [HQ.out]; unfold crashK
      rw [if_pos hjn, List.getD_eq_getElem?_getD, List.getElem?_eq_getElem hjn, hk]; rfl
    obtain ⟨r, hr⟩ : ∃ r, r = k.tmod m := ⟨_, rfl⟩
    rw [← hr] at hq2
    have hrq : max r (-r) = (q : Int) := by omega
    have hrb : -2000000000 ≤ r ∧ r ≤ 2000000000 := by have := HQL.out; omega
    have HCK := Lib.hid hck; have HCK2 := Lib.hid hck2; have HR := Lib.hid hr; have HRQ := Lib.hid hrq; have HRB := Lib.hid hrb; have HKK := Lib.hid hkk
    clear hk hq2 hr hrq hrb hkk hcs hjn
    go_enter Try.func30, Try.ntmps30
    go_upto_region 1 with fail
    refine wp_world HW.out ?_
    rw [← HX.out]
    go_upto_region 3 with fail
    have c0 : ∀ y : Sub W.heap.size W, y.val.cell? ⟨kb, 0, none⟩ = some (.slice (some ⟨bk, off, none⟩) n capk) := fun y => sub_cell HCK.out (block_lt_of_cell HCK.out) y
    have c1 : ∀ y : Sub W.heap.size W, y.val.cell? ⟨bk, off + j, none⟩ = some (.int .i64 k) := fun y => sub_cell HCK2.out hbk y
    clear hck hck2
    refine wp_region_sub (W := W) (B := W.heap.size) (by kernel_rfl) (by kernel_rfl) (Below.refl _ _) ?_
    repeat (any_goals (first
      | go_big_quiet_skip
      | go_big_quiet_step (fail)
      | quiet_step (fail)))
    have he : (if k.tmod m < wrap64 (-k.tmod m) then wrap64 (-k.tmod m) else k.tmod m) = (q : Int) := by
      have h1 := HR.out; have h2 := HRQ.out; have h3 := HRB.out
      rw [← h1, IntWalk.wrap64_in _ ⟨by omega, by omega⟩]
      split <;> omega
    rw [he]
    refine wpQuiet_nil ?_
    rintro w9 ⟨x9, rfl⟩
    have hb9 := x9.below
    have hxW : x < W.heap.size := lt_of_block G1.out
    have g2 : x9.val.heap[x]? = some (.cells (List.replicate 64 (Value.int .u8 0)).toArray 65 (0, 0)) := (hb9.block x hxW).trans G1.out
    have hld : ∀ j u, (bv s)[j]? = some u → x9.val.cell? ⟨g, q * 64 + j, none⟩ = some u := fun j u hu => (hb9.cell (p := ⟨g, q * 64 + j, none⟩) HGW.out).trans (HL.out j u hu)
    have HL2 := Lib.hid hld; have G2 := Lib.hid g2
    have HB2 := Lib.hid (HB1.out.trans (hb9.mono HB1.out.size))
    clear hld g2
    go_wp2_with (first
      | (refine wpList_cells 65 _ rfl g (q * 64) rfl rfl (bv s) _ HL2.out Try.underlying65 rfl (by rw [HBS.out]; exact info_sec1) ?_)
      | (refine wpList_store_row rfl 65 _ _ rfl x (bv s).toArray rfl rfl 65 _ G2.out (by rw [List.size_toArray, HBS.out]; exact info_sec1) (by simp [HBS.out]) (by rw [List.all_toArray]; exact List.all_eq_true.2 (bv_one s)) ?_))
    have hblk := setRow_heap x9.val x _ (bv s).toArray 65 (0, 0) G2.out
    exact bodyPost_ret (v := .agg (bv s).toArray) (results_cell_row rfl _ _ x 65 (bv s).toArray (0, 0) _ rfl hblk Try.underlying65 rfl (by rw [List.size_toArray, HBS.out]; exact info_sec1)) rfl ⟨rfl, (touch_setRow (F := fun k => k = x) x9.val x _ rfl).below HB2.out HB2.out.size (fun k hk => by rw [hk, HX.out]; exact Nat.le_refl _)⟩
  · have hq0 : q = 0 := by
      have := HN.out
      rw [HQ.out]; unfold crashK
      rw [if_neg (by omega)]
    subst hq0
    have HCK := Lib.hid hck
    go_enter Try.func30, Try.ntmps30
    go_upto_region 1 with fail
    refine wp_world HW.out ?_
    rw [← HX.out]
    go_wp2_with (first
      | (refine wpList_cells 65 _ rfl g (0 * 64) rfl rfl (bv s) _ HL.out Try.underlying65 rfl (by rw [HBS.out]; exact info_sec1) ?_)
      | (refine wpList_store_row rfl 65 _ _ rfl x (bv s).toArray rfl rfl 65 _ G1.out (by rw [List.size_toArray, HBS.out]; exact info_sec1) (by simp [HBS.out]) (by rw [List.all_toArray]; exact List.all_eq_true.2 (bv_one s)) ?_))
    have hblk := setRow_heap W x _ (bv s).toArray 65 (0, 0) G1.out
    exact bodyPost_ret (v := .agg (bv s).toArray) (results_cell_row rfl _ _ x 65 (bv s).toArray (0, 0) _ rfl hblk Try.underlying65 rfl (by rw [List.size_toArray, HBS.out]; exact info_sec1)) rfl ⟨rfl, (touch_setRow (F := fun k => k = x) W x _ rfl).below HB1.out HB1.out.size (fun k hk => by rw [hk, HX.out]; exact Nat.le_refl _)⟩
end Go.Proofs.Ytcabocppplokgaa
