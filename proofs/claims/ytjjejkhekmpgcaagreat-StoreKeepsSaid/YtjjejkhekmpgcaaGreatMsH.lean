/-
  Layer 6: the law's functions.
  Layer 6: the law's check, Whole, full.
  Layer 6: has a store these values?
-/
import Derived.Test.YtjjejkhekmpgcaaGreatMsG
import Derived.Test.YtjjejkhekmpgcaaGreatMgA
namespace Go.Proofs.YtjjejkhekmpgcaaGreat
set_option maxRecDepth 4000
open Go.RowKit

set_option maxHeartbeats 1000000 in
theorem lmay_walk (c : Chg) (w : World) (hk : c.key.size ≤ 9223372036854775807) (hv : c.val.size ≤ 9223372036854775807) :
    Calls Tryz.prog 36 #[.agg #[.string c.key, .string c.val, .bool c.gone]] w fun e w' => e = .returned (.bool (mayC c)) ∧ Below w.heap.size w w' := by
  obtain ⟨k, v, g⟩ := c
  have hk : k.size ≤ 9223372036854775807 := hk
  have hv : v.size ≤ 9223372036854775807 := hv
  obtain ⟨q, hq⟩ : ∃ q, q = w.heap.size := ⟨_, rfl⟩
  have hm : mayC ⟨k, v, g⟩ = (decide (1 ≤ k.size) && decide (k.size ≤ 32) && decide (v.size ≤ 4096) && (!g || decide (v.size = 0))) := rfl
  have e2 := heap_alloc_top w (.cells #[.string k, .string v, .bool g] 42)
  have eB := (Below.refl w.heap.size w).alloc (Nat.le_refl _) (.cells #[.string k, .string v, .bool g] 42)
  rw [← hq] at e2
  obtain ⟨R, hR⟩ : ∃ R, R = mayC ⟨k, v, g⟩ := ⟨_, rfl⟩
  rw [hm] at hR
  rw [hm, ← hR]
  have HB := Lib.hid eB; have HM := Lib.hid hR
  clear eB hm hR
  go_enter Tryz.func36, Tryz.ntmps36
  go_upto_region 1 with fail
  rw [← hq]
  replace HB := HB.out
  generalize w.alloc (.cells #[.string k, .string v, .bool g] 42) = W at e2 HB ⊢
  have c0 := cell_at (j := 0) (v := .string k) e2 rfl
  have c1 := cell_at (j := 1) (v := .string v) e2 rfl
  have c2 := cell_at (j := 2) (v := .bool g) e2 rfl
  replace HB := Lib.hid HB
  clear e2 hq
  by_cases h1 : (1 : Int) ≤ (k.size : Int)
  · by_cases h2 : (k.size : Int) ≤ 32
    · by_cases h3 : (v.size : Int) ≤ 4096
      · have hr : R = (!g || decide (v.size = 0)) := by
          rw [HM.out, decide_eq_true (show 1 ≤ k.size by omega), decide_eq_true (show k.size ≤ 32 by omega), decide_eq_true (show v.size ≤ 4096 by omega)]; rfl
        clear HM
        cases g with
        | false =>
          obtain rfl : R = true := hr
          go_wp2_with fail
          go_ret
          exact ⟨rfl, HB.out⟩
        | true =>
          by_cases h4 : v.size = 0
          · have : v = ⟨#[]⟩ := by apply ByteArray.ext; exact Array.eq_empty_of_size_eq_zero h4
            subst this
            obtain rfl : R = true := hr
            go_wp2_with fail
            go_ret
            exact ⟨rfl, HB.out⟩
          · have h5 := not_empty h4
            rw [decide_eq_false h4] at hr
            obtain rfl : R = false := hr
            clear h4
            go_wp2_with fail
            go_ret
            exact ⟨rfl, HB.out⟩
      · obtain rfl : R = false := by rw [HM.out, decide_eq_false (show ¬ v.size ≤ 4096 by omega)]; simp
        clear HM
        go_wp2_with fail
        go_ret
        exact ⟨rfl, HB.out⟩
    · obtain rfl : R = false := by rw [HM.out, decide_eq_false (show ¬ k.size ≤ 32 by omega)]; simp
      clear HM
      go_wp2_with fail
      go_ret
      exact ⟨rfl, HB.out⟩
  · obtain rfl : R = false := by rw [HM.out, decide_eq_false (show ¬ 1 ≤ k.size by omega)]; simp
    clear HM
    go_wp2_with fail
    go_ret
    exact ⟨rfl, HB.out⟩

/-- changes that are not far too many, nor too long -/
def lightC (l : List Chg) : Bool := l.all (fun c => decide (c.val.size ≤ 5000) && decide (c.key.size ≤ 100)) && decide (l.length ≤ 1030)
theorem lightC_size {l : List Chg} (h : lightC l = true) : (∀ c ∈ l, c.val.size ≤ 5000 ∧ c.key.size ≤ 100) ∧ l.length ≤ 1030 := by
  unfold lightC at h
  rw [Bool.and_eq_true] at h
  exact ⟨fun c hc => by have := List.all_eq_true.1 h.1 c hc; simpa using this, by simpa using h.2⟩
set_option maxHeartbeats 400000 in
theorem lightC_walk (ad : Option Addr) (cap : Nat) (l : List Chg) (w : World) (hl : chgsAt w ad l) (hs : l.length ≤ 9223372036854775807) :
    Calls Tryz.prog 11 #[.slice ad l.length cap] w fun r w' => r = .returned (.bool (lightC l)) ∧ w' = w := by
  have HL := Lib.hid hl
  clear hl
  go_enter Tryz.func11, Tryz.ntmps11
  go_wp2_with fail
  go_loopg [3] l.length (fun gk i wr => ∃ k : Nat, k + gk = l.length ∧ i = .int .i64 k ∧ (l.take k).all (fun c => decide (c.val.size ≤ 5000) && decide (c.key.size ≤ 100)) = true ∧ wr = w)
  case atStart => exact ⟨0, by omega, rfl, rfl, rfl⟩
  case round =>
    obtain ⟨k, hgk, rfl, hall, rfl⟩ := hrel
    have HALL := Lib.hid hall
    clear hall
    by_cases hlt : k < l.length
    · rcases HL.out with hat | ⟨bl, off, rfl, hbl, hcs⟩
      · simp [hat] at hlt
      have hc := hcs k hlt
      have htk := List.take_succ_eq_append_getElem hlt
      have hmem := List.getElem_mem hlt
      obtain ⟨s, hsk⟩ : ∃ s, s = l[k] := ⟨_, rfl⟩
      rw [← hsk] at hc htk hmem
      obtain ⟨ky, vl, gn⟩ := s
      have c0 : wr.cell? ⟨bl, off + k * 3, none⟩ = some (.string ky) := hc 0 _ rfl
      have c1 : wr.cell? ⟨bl, off + k * 3 + 1, none⟩ = some (.string vl) := hc 1 _ rfl
      have HTK := Lib.hid htk; have HM := Lib.hid hmem
      have hno : (5000 < vl.size ∨ 100 < ky.size) → lightC l = false := fun hbig => by
        unfold lightC
        have : l.all (fun c => decide (c.val.size ≤ 5000) && decide (c.key.size ≤ 100)) = false := by
          rw [List.all_eq_false]
          exact ⟨_, HM.out, by dsimp only; simp; omega⟩
        rw [this]; rfl
      have HNO := Lib.hid hno
      clear hcs hsk htk hmem hc hno
      by_cases hbig : (5000 : Int) < (vl.size : Int)
      · have HB := Lib.hid hbig
        go_wp2_with fail
        go_ret
        exact ⟨ret_bool (HNO.out (by have := HB.out; omega)).symm, rfl⟩
      · by_cases hbig2 : (100 : Int) < (ky.size : Int)
        · have HB := Lib.hid hbig2
          go_wp2_with fail
          go_ret
          exact ⟨ret_bool (HNO.out (by have := HB.out; omega)).symm, rfl⟩
        · have HB := Lib.hid hbig; have HB2 := Lib.hid hbig2
          go_wp2_with fail
          go_roundg (gk - 1)
          case measure => omega
          case rel => exact ⟨k + 1, by omega, by go_num, by rw [HTK.out, List.all_append, HALL.out]; have := HB.out; have := HB2.out; simp; omega, rfl⟩
    · obtain rfl : k = l.length := by omega
      rw [List.take_length] at HALL
      go_wp2_with fail
      go_ret
      refine ⟨ret_bool ?_, rfl⟩
      unfold lightC
      rw [HALL.out]
      simp only [Bool.true_and, decide_eq_decide]
      omega

/-- what After answers -/
def AfterPost (w : World) (G : Nat → Prop) (M : Kv) (e : Ending) (w' : World) : Prop := ∃ ad cap, e = .returned (.slice ad M.length cap) ∧ KvO w' ad M G ∧ Below w.heap.size w w'
set_option maxHeartbeats 4000000 in
theorem after_walk (G : Nat → Prop) (ad : Option Addr) (cap : Nat) (M : Kv) (ad2 : Option Addr) (cap2 : Nat) (cs : List Chg) (w : World) (h : KvO w ad M G) (hG : ∀ k, G k → k < w.heap.size) (hc : chgsAt w ad2 cs) (hl : M.length ≤ 10000000) (hcs : cs.length ≤ 1000000) (hr : risK M) :
    Calls Tryz.prog 13 #[.slice ad M.length cap, .slice ad2 cs.length cap2] w fun e w' => AfterPost w G (afterM M cs) e w' := by
  have HH := Lib.hid h; have HG := Lib.hid hG; have HC := Lib.hid hc; have HL := Lib.hid hl; have HRI := Lib.hid hr
  obtain ⟨n, hn⟩ : ∃ n, n = cs.length := ⟨_, rfl⟩
  rw [← hn] at hcs ⊢
  obtain ⟨m, hm⟩ : ∃ m, m = M.length := ⟨_, rfl⟩
  rw [← hm]
  have HN := Lib.hid hn; have HM := Lib.hid hm
  clear h hG hc hl hn hm hr
  go_enter Tryz.func13, Tryz.ntmps13
  go_wp2_with fail
  go_loopg [0, 5] n (fun gk v0 v5 wr => ∃ (i : Nat) (ad' : Option Addr) (cap' : Nat), i + gk = n ∧ v5 = .int .i64 i ∧ v0 = .slice ad' (afterM M (cs.take i)).length cap' ∧ KvO wr ad' (afterM M (cs.take i)) G ∧ Below w.heap.size w wr)
  case atStart => exact ⟨0, ad, cap, by omega, rfl, by rw [HM.out]; rfl, HH.out, Below.refl _ _⟩
  case round =>
    obtain ⟨i, ad', cap', hgk, rfl, rfl, hko, hb⟩ := hrel
    have HGK := Lib.hid hgk; have HKO := Lib.hid hko; have HB := Lib.hid hb
    have hmk := len_after HRI.out (cs.take i)
    rw [List.length_take] at hmk
    have hmk2 : (afterM M (cs.take i)).length ≤ 100000000 := by have := HL.out; omega
    clear hgk hko hb hmk
    by_cases hi : i < n
    · have hic : i < cs.length := by have := HN.out; omega
      have hi' : (i : Int) < (n : Int) := by omega
      have htk := after_take (M := M) hic
      rcases HC.out with h0 | ⟨bl, off, rfl, hbl, hce⟩
      · rw [h0] at hic; simp at hic
      have hcc := hce i hic
      obtain ⟨⟨ky, vl, gn⟩, hx⟩ : ∃ x, x = cs[i] := ⟨_, rfl⟩
      rw [← hx] at hcc htk
      obtain ⟨Mi, hMi⟩ : ∃ Mi, Mi = afterM M (cs.take i) := ⟨_, rfl⟩
      rw [← hMi] at HKO hmk2 htk ⊢
      have hfin : ∀ (v : Value) (w' : World) (Mx : Kv), KvRow w' wr.heap.size v Mx → Below wr.heap.size wr w' → ∃ ad3 cap3, v = .slice ad3 Mx.length cap3 ∧ KvO w' ad3 Mx G ∧ Below w.heap.size w w' := fun v w' Mx h1 h2 => by
        obtain ⟨ad3, cap3, h3, _, _, h4⟩ := h1.at
        exact ⟨ad3, cap3, h3, h4 G (fun k hk => by have := HG.out k hk; have := HB.out.size; omega), HB.out.trans (h2.mono HB.out.size)⟩
      have HTK := Lib.hid htk; have HFIN := Lib.hid hfin
      have hbr : bl < wr.heap.size := by have := HB.out.size; omega
      have d0 : wr.cell? ⟨bl, off + i * 3, none⟩ = some (.string ky) := (HB.out.cell (p := ⟨bl, off + i * 3 + 0, none⟩) hbl).trans (hcc 0 _ rfl)
      have d1 : wr.cell? ⟨bl, off + i * 3 + 1, none⟩ = some (.string vl) := (HB.out.cell (p := ⟨bl, off + i * 3 + 1, none⟩) hbl).trans (hcc 1 _ rfl)
      have c0 : ∀ x : Sub wr.heap.size wr, x.val.cell? ⟨bl, off + i * 3, none⟩ = some (.string ky) := fun x => sub_cell d0 hbr x
      have c1 : ∀ x : Sub wr.heap.size wr, x.val.cell? ⟨bl, off + i * 3 + 1, none⟩ = some (.string vl) := fun x => sub_cell d1 hbr x
      have c2 : wr.cell? ⟨bl, off + i * 3 + 2, none⟩ = some (.bool gn) := (HB.out.cell (p := ⟨bl, off + i * 3 + 2, none⟩) hbl).trans (hcc 2 _ rfl)
      clear d1 hbr
      have KD := Lib.hid (rdrop_walk ad' cap' Mi ky wr HKO.out.any hmk2)
      have KP := fun x : Sub wr.heap.size wr => Lib.hid (rput_walk ad' cap' Mi ky vl x.val (HKO.out.below x.below).any hmk2)
      obtain ⟨mi, hmi⟩ : ∃ mi, mi = Mi.length := ⟨_, rfl⟩
      rw [← hmi] at KD ⊢
      simp only [← hmi] at KP
      clear hx hMi htk hfin hce hcc hbl hic hmi
      cases gn with
      | true =>
        clear c0 c1
        go_wp2_with fail
        refine KD.out.mono ?_
        rintro e w5 ⟨v, rfl, hrow, hb5⟩
        have HF := Lib.hid (HFIN.out _ _ _ hrow hb5)
        clear hrow hb5 KD KP
        go_wp2_with fail
        go_roundg (gk - 1)
        case measure => have := HGK.out; omega
        case rel =>
          obtain ⟨ad3, cap3, h3, h4, h5⟩ := HF.out
          have e : afterM M (cs.take (i + 1)) = dropM Mi ky := HTK.out
          rw [← e] at h3 h4
          exact ⟨i + 1, ad3, cap3, by have := HGK.out; omega, by go_num, h3, h4, h5⟩
      | false =>
        go_upto_region 6 with fail
        clear c2 d0 KD
        refine wp_region_mix (inSub wr.heap.size wr) [(0,true),(1,true),(2,true),(3,true),(4,true),(5,true),(6,true),(7,true),(8,true),(9,true),(10,true),(11,false),(12,true)] (by kernel_rfl) (by kernel_rfl) (inSub_of (Below.refl _ _).drew) ?_
        have hb0 : Below wr.heap.size wr wr.drew := (Below.refl _ _).drew
        generalize wr.drew = w3 at hb0 ⊢
        simp only [List.filterMap_cons, List.filterMap_nil, List.getElem?_cons_zero, List.getElem?_cons_succ, Option.map_some]
        iterate 11 (refine mix_read (by rfl) ?_; apply Exists.intro; refine ⟨fun w9 hw9 => ?_, ?_⟩; (· obtain ⟨x9, rfl⟩ := hw9; have e0 := c0 x9; have e1 := c1 x9; go_simp; rfl); simp only [Act.put, List.setIfInBounds_toArray, List.set_cons_succ, List.set_cons_zero])
        refine mix_step (by rfl) (fun K' hK => ?_)
        go_simp
        go_at_call 39
        refine (KP ⟨w3, hb0⟩).out.mono ?_
        rintro e w5 ⟨v, rfl, hrow, hb5⟩
        have hb5' := hb0.trans (hb5.mono hb0.size)
        have hrow' : KvRow w5 wr.heap.size v (putM Mi ky vl) := ⟨hrow.1, hrow.2.imp id fun ⟨g, c, cur, h3, h4, h5⟩ => ⟨g, c, cur, h3, Nat.le_trans hb0.size h4, h5⟩⟩
        have HF := Lib.hid (HFIN.out _ _ _ hrow' hb5')
        refine hK _ _ (inSub_of hb5') ?_
        clear hK K' hrow hrow' hb5 hb5' hb0 c0 c1 KP HFIN
        try simp only [Act.put, List.setIfInBounds_toArray, List.set_cons_succ, List.set_cons_zero]
        (refine mix_read (by rfl) ?_; apply Exists.intro; refine ⟨fun w9 hw9 => ?_, ?_⟩; (· go_simp; rfl); simp only [Act.put, List.setIfInBounds_toArray, List.set_cons_succ, List.set_cons_zero])
        refine mix_nil (NoPanic.normal ?_)
        try simp only [Act.put, List.setIfInBounds_toArray, List.set_cons_succ, List.set_cons_zero]
        go_wp2_with fail
        go_roundg (gk - 1)
        case measure => have := HGK.out; omega
        case rel =>
          obtain ⟨ad3, cap3, h3, h4, h5⟩ := HF.out
          have e : afterM M (cs.take (i + 1)) = putM Mi ky vl := HTK.out
          rw [← e] at h3 h4
          exact ⟨i + 1, ad3, cap3, by have := HGK.out; omega, by go_num, h3, h4, h5⟩
    · have hin : i = n := by have := HGK.out; omega
      have hi' : ¬ (i : Int) < (n : Int) := by omega
      have hko := HKO.out
      have e : cs.take i = cs := List.take_of_length_le (by have := HN.out; omega)
      rw [e] at hko ⊢
      have HK2 := Lib.hid hko
      clear hko HKO hi hin e hmk2
      go_wp2_with fail
      go_ret
      exact ⟨_, _, rfl, HK2.out, HB.out⟩
end Go.Proofs.YtjjejkhekmpgcaaGreat

namespace Go.Proofs.YtjjejkhekmpgcaaGreat
set_option maxRecDepth 4000
open Go.RowKit

theorem recT_eq (k v : ByteArray) (hk : k.size ≤ 32) (hv : v.size ≤ 4096) : recK (k, v) = ((⟨(lebN k.size).toArray⟩ ++ k) ++ ⟨#[0]⟩) ++ (⟨(lebN v.size).toArray⟩ ++ v) ∧ (recK (k, v)).size ≤ 4160 := by
  have h9 := lebN_nine k.size (by omega)
  have h9' := lebN_nine v.size (by omega)
  have hks : k.data.toList.length = k.size := by simp
  have hvs : v.data.toList.length = v.size := by simp
  have hkt : k.data.toList.take 65536 = k.data.toList := List.take_of_length_le (by omega)
  have hvt : v.data.toList.take 65536 = v.data.toList := List.take_of_length_le (by omega)
  have h0 : lebN 0 = [0] := by rw [lebN_small (by omega)]; rfl
  have e : layB ([(⟨k, v, false⟩ : Chg)].flatMap fldC) = lebN k.size ++ k.data.toList ++ [0] ++ lebN v.size ++ v.data.toList := by
    show putF (putF (putF [] 0 k true) 0 ⟨#[]⟩ false) 0 v true = _
    have e1 : putF [] 0 k true = lebN k.size ++ k.data.toList := by
      unfold putF
      rw [if_neg (by simp), if_pos rfl, hkt, List.nil_append]
    rw [e1]
    have e2 : putF (lebN k.size ++ k.data.toList) 0 ⟨#[]⟩ false = lebN k.size ++ k.data.toList ++ [0] := by
      unfold putF
      rw [if_neg (by rw [List.length_append]; omega), if_neg (by simp)]
      rw [show (0 : Int).toNat = 0 from rfl, h0]
    rw [e2]
    unfold putF
    rw [if_neg (by rw [List.length_append, List.length_append, List.length_singleton]; omega), if_pos rfl, hvt]
  have hl : (layB ([(⟨k, v, false⟩ : Chg)].flatMap fldC)).length ≤ 4160 := by
    rw [e]
    simp only [List.length_append, List.length_singleton]
    omega
  have hr : recK (k, v) = ⟨(layB ([(⟨k, v, false⟩ : Chg)].flatMap fldC)).toArray⟩ := by
    unfold recK layC lay
    rw [if_neg (by rw [flat_good]; simp), if_neg (show ¬ 65536 < (layB ([(⟨k, v, false⟩ : Chg)].flatMap fldC)).length by omega)]
  rw [hr, e]
  refine ⟨?_, by rw [← e]; rw [bytes_len]; exact hl⟩
  apply ByteArray.ext
  apply Array.ext'
  simp [ByteArray.data_append]
theorem wholeM_take (M : Kv) (i : Nat) (h : i < M.length) : (allR (recsM (M.take (i + 1)))).length = (allR (recsM (M.take i))).length + (oneR (recK M[i])).length := by
  rw [recs_take h]
  unfold allR
  rw [List.flatMap_append, List.length_append]
  simp
theorem wholeM_le (M : Kv) (i : Nat) : (allR (recsM (M.take i))).length ≤ (allR (recsM M)).length := by
  have e : recsM M = recsM (M.take i) ++ recsM (M.drop i) := by unfold recsM; rw [← List.map_append, List.take_append_drop]
  rw [e]
  unfold allR
  rw [List.flatMap_append, List.length_append]
  omega
theorem allR_recs (M : Kv) (hm : ∀ p ∈ M, p.1.size ≤ 32 ∧ p.2.size ≤ 4096) : (allR (recsM M)).length ≤ M.length * 5000 := by
  induction M with
  | nil => exact Nat.zero_le _
  | cons p M ih =>
    have := ih (fun x hx => hm x (List.mem_cons_of_mem _ hx))
    have hp := hm p List.mem_cons_self
    have h2 := (recT_eq p.1 p.2 hp.1 hp.2).2
    have h9 := lebN_nine (recK p).size (by have : (recK p).size ≤ 4160 := h2; omega)
    have e : (allR (recsM (p :: M))).length = (oneR (recK p)).length + (allR (recsM M)).length := by
      unfold allR recsM
      rw [List.map_cons, List.flatMap_cons, List.length_append]
    rw [e, oneR_length, List.length_cons]
    have : (recK p).size ≤ 4160 := h2
    omega

set_option maxHeartbeats 4000000 in
theorem whole_walk (ad : Option Addr) (cap : Nat) (M : Kv) (w : World) (h : KvO w ad M (fun _ => False)) (hl2 : M.length ≤ 100000000) (hz : ∀ p ∈ M, p.1.size ≤ 32 ∧ p.2.size ≤ 4096) :
    Calls Tryz.prog 14 #[.slice ad M.length cap] w fun e w' => e = .returned (.int .i64 (allR (recsM M)).length) ∧ Below w.heap.size w w' := by
  have hl := allR_recs M hz
  obtain ⟨q, hq⟩ : ∃ q, q = w.heap.size := ⟨_, rfl⟩
  rw [← hq]
  obtain ⟨T, hT⟩ : ∃ T, T = (allR (recsM M)).length := ⟨_, rfl⟩
  rw [← hT] at hl ⊢
  have hT2 : T ≤ 1000000000000 := by omega
  have HH := Lib.hid h; have HQ := Lib.hid hq; have HT := Lib.hid hT; have HZ := Lib.hid hz
  obtain ⟨n, hn⟩ : ∃ n, n = M.length := ⟨_, rfl⟩
  rw [← hn] at hl2 ⊢
  have HN := Lib.hid hn
  clear h hq hn hT hz hl
  go_enter Tryz.func14, Tryz.ntmps14
  go_wp2_with fail
  go_loopg [3, 4] n (fun gk v3 v4 wr => ∃ (i s : Nat), i + gk = n ∧ v4 = .int .i64 i ∧ v3 = .int .i64 s ∧ s = (allR (recsM (M.take i))).length ∧ Below q w wr)
  case atStart => exact ⟨0, 0, by omega, rfl, rfl, rfl, by rw [HQ.out]; exact Below.refl _ _⟩
  case round =>
    obtain ⟨i, s, hgk, rfl, rfl, hs, hb⟩ := hrel
    have HGK := Lib.hid hgk; have HB := Lib.hid hb; have HS := Lib.hid hs
    clear hgk hb hs
    by_cases hi : i < n
    · have hiM : i < M.length := by have := HN.out; omega
      have hi' : (i : Int) < (n : Int) := by omega
      rcases HH.out with h0 | ⟨b, off, rfl, hbl, _, hce⟩
      · rw [h0] at hiM; simp at hiM
      have hcw : ∀ (w' : World), Below q w w' → ∀ (j : Nat) (u : Value), (kvv M[i])[j]? = some u → w'.cell? ⟨b, off + i * 2 + j, none⟩ = some u := fun w' hb j u hu => (hb.cell (p := ⟨b, off + i * 2 + j, none⟩) (by rw [HQ.out]; exact hbl)).trans (hce i hiM j u hu)
      have hzi := HZ.out M[i] (List.getElem_mem hiM)
      have hs := wholeM_take M i hiM
      have hle := wholeM_le M (i + 1)
      rw [hs] at hle
      rw [← HS.out] at hs hle
      rw [← HT.out] at hle
      obtain ⟨⟨ki, vi⟩, hki⟩ : ∃ p, p = M[i] := ⟨_, rfl⟩
      rw [← hki] at hcw hzi hs hle
      dsimp only at hzi
      have hbr : b < wr.heap.size := by have := HB.out.size; have := HQ.out; omega
      have c0 := sub_cell (hcw _ HB.out 0 (.string ki) rfl) hbr
      have c1 := sub_cell (hcw _ HB.out 1 (.string vi) rfl) hbr
      rw [Nat.add_zero] at c0
      obtain ⟨hrt, hrs⟩ := recT_eq ki vi hzi.1 hzi.2
      have KA := fun w' => rtext_walk ki w' (by omega)
      have KB := fun w' => rtext_walk vi w' (by omega)
      have h9 := lebN_nine ki.size (by omega)
      have h9' := lebN_nine vi.size (by omega)
      obtain ⟨A, hA⟩ : ∃ A : ByteArray, A = ⟨(lebN ki.size).toArray⟩ ++ ki := ⟨_, rfl⟩
      obtain ⟨B, hB⟩ : ∃ B : ByteArray, B = ⟨(lebN vi.size).toArray⟩ ++ vi := ⟨_, rfl⟩
      have hAs : A.size ≤ 100 := by rw [hA, ByteArray.size_append, bytes_len]; omega
      have hBs : B.size ≤ 5000 := by rw [hB, ByteArray.size_append, bytes_len]; omega
      rw [← hA, ← hB] at hrt
      simp only [← hA] at KA
      simp only [← hB] at KB
      obtain ⟨D, hD⟩ : ∃ D : ByteArray, D = (A ++ ⟨#[0]⟩) ++ B := ⟨_, rfl⟩
      have hDs : D.size ≤ 6000 := by rw [hD, ByteArray.size_append, ByteArray.size_append]; have : (⟨#[0]⟩ : ByteArray).size = 1 := rfl; omega
      have KO := fun w' => rone_walk D w' (by omega)
      rw [← hD] at hrt
      rw [hrt] at hs hle
      obtain ⟨C, hC⟩ : ∃ C : ByteArray, C = ⟨(oneR D).toArray⟩ := ⟨_, rfl⟩
      have hCs : C.size = (oneR D).length := by rw [hC]; exact bytes_len _
      simp only [← hC] at KO
      rw [← hCs] at hs hle
      have hx1 : A.size + (⟨#[0]⟩ : ByteArray).size ≤ 9223372036854775807 := by have : (⟨#[0]⟩ : ByteArray).size = 1 := rfl; omega
      have hx2 : (A ++ ⟨#[0]⟩).size + B.size ≤ 9223372036854775807 := by rw [ByteArray.size_append]; have : (⟨#[0]⟩ : ByteArray).size = 1 := rfl; omega
      have hC1 : C.size ≤ 9223372036854775807 := by omega
      have HS2 := Lib.hid hs; have HLE := Lib.hid hle; have HD := Lib.hid hD
      clear hki hcw hce hiM hbl hs hzi hbr hrt hrs h9 h9' hA hB hAs hBs hDs hC hCs hle hD
      go_upto_region 5 with fail
      refine wp_region_sub (W := wr) (B := wr.heap.size) (by kernel_rfl) (by kernel_rfl) (Below.refl _ _) ?_
      repeat (any_goals (first
        | go_big_quiet_skip
        | go_big_quiet_step ((first | (go_at_call 40; rw [← HD.out]; exact calls_sub _ (KO _) (Nat.le_refl _)) | (go_at_call 41; first | with_reducible exact calls_sub _ (KA _) (Nat.le_refl _) | exact calls_sub _ (KB _) (Nat.le_refl _))))
        | quiet_step ((first | (go_at_call 40; rw [← HD.out]; exact calls_sub _ (KO _) (Nat.le_refl _)) | (go_at_call 41; first | with_reducible exact calls_sub _ (KA _) (Nat.le_refl _) | exact calls_sub _ (KB _) (Nat.le_refl _))))))
      refine wpQuiet_nil ?_
      rintro w9 ⟨x9, rfl⟩
      have DB := Lib.hid (HB.out.trans (x9.below.mono (by rw [HQ.out]; exact HB.out.size)))
      have HW2 := Lib.hid (wrap_sum s C.size (s + C.size) rfl (by have := HLE.out; omega))
      clear c0 c1 KA KB KO hx1 hx2 hC1
      go_wp2_with fail
      go_roundg (gk - 1)
      case measure => have := HGK.out; omega
      case rel => exact ⟨i + 1, s + C.size, by have := HGK.out; omega, by go_num, congrArg (Value.int .i64) HW2.out, HS2.out.symm, DB.out⟩
    · have hin : i = n := by have := HGK.out; omega
      have hi' : ¬ (i : Int) < (n : Int) := by omega
      have hs := HS.out
      rw [hin, HN.out, List.take_length, ← HT.out] at hs
      subst hs
      clear hi hin HS
      go_wp2_with fail
      go_ret
      exact ⟨rfl, HB.out⟩

theorem lfull_walk (ad : Option Addr) (cap : Nat) (M : Kv) (half : Nat) (w : World) (h : KvO w ad M (fun _ => False)) (hl2 : M.length ≤ 100000000) (hz : ∀ p ∈ M, p.1.size ≤ 32 ∧ p.2.size ≤ 4096) (hh : half ≤ 1000000) :
    Calls Tryz.prog 30 #[.slice ad M.length cap, .int .i64 half] w fun e w' => e = .returned (.int .i64 (if half < (allR (recsM M)).length then 10 else 0)) ∧ Below w.heap.size w w' := by
  have KW := Lib.hid (whole_walk ad cap M w h hl2 hz)
  obtain ⟨T, hT⟩ : ∃ T, T = (allR (recsM M)).length := ⟨_, rfl⟩
  have hle := allR_recs M hz
  rw [← hT] at KW hle ⊢
  have hT2 : (T : Int) ≤ 1000000000000 := by omega
  clear h hT hle
  obtain ⟨n, hn⟩ : ∃ n, n = M.length := ⟨_, rfl⟩
  rw [← hn] at KW ⊢
  clear hn
  by_cases hb : half < T
  · rw [if_pos hb]
    have hb' : (half : Int) < (T : Int) := by omega
    go_enter Tryz.func30, Tryz.ntmps30
    go_wp2_with fail
    refine KW.out.mono ?_
    rintro e w1 ⟨rfl, hb1⟩
    have B1 := Lib.hid hb1
    clear hb1 KW hb
    go_wp2_with fail
    go_ret
    exact ⟨rfl, B1.out⟩
  · rw [if_neg hb]
    have hb' : ¬ (half : Int) < (T : Int) := by omega
    go_enter Tryz.func30, Tryz.ntmps30
    go_wp2_with fail
    refine KW.out.mono ?_
    rintro e w1 ⟨rfl, hb1⟩
    have B1 := Lib.hid hb1
    clear hb1 KW hb
    go_wp2_with fail
    go_ret
    exact ⟨rfl, B1.out⟩

set_option maxHeartbeats 4000000 in
theorem lcheck_walk (ad0 : Option Addr) (cap0 : Nat) (M : Kv) (ad : Option Addr) (cap : Nat) (l : List Chg) (qt : Int) (w : World) (hM : KvO w ad0 M (fun _ => False)) (hk : KvOk M) (hl : chgsAt w ad l) (hs : l.length ≤ 9223372036854775807)
    (hz : ∀ c ∈ l, c.key.size ≤ 9223372036854775807 ∧ c.val.size ≤ 9223372036854775807) (hb : bytesM M ≤ 9000000) :
    Calls Tryz.prog 12 #[.slice ad0 M.length cap0, .slice ad l.length cap, .int .i64 qt] w fun e w' => e = .returned (.int .i64 (checkS M l qt false)) ∧ Below w.heap.size w w' := by
  obtain ⟨R, hR⟩ : ∃ R, R = checkS M l qt false := ⟨_, rfl⟩
  rw [← hR]
  unfold checkS at hR
  rw [if_neg (by simp)] at hR
  obtain ⟨m, hm⟩ : ∃ m, m = M.length := ⟨_, rfl⟩
  rw [← hm]
  have HM := Lib.hid hM; have HMM := Lib.hid hm; have HK := Lib.hid hk; have HL := Lib.hid hl; have HS := Lib.hid hs; have HZ := Lib.hid hz; have HB := Lib.hid hb; have HR := Lib.hid hR
  clear hM hk hl hz hb hm
  by_cases hln : l.length = 0 ∨ 1024 < l.length
  · obtain rfl : R = 2 := by rw [hR, if_pos hln]
    clear HR hR
    obtain ⟨n, hn⟩ : ∃ n, n = l.length := ⟨_, rfl⟩
    rw [← hn] at hln ⊢
    rcases hln with hln | hln
    · rw [hln]
      clear hn hln
      go_enter Tryz.func12, Tryz.ntmps12
      go_wp2_with fail
      go_ret
      exact ⟨rfl, Below.refl _ _⟩
    · have h0 : ((n : Int) == 0) = false := by simp; omega
      have h1 : (1024 : Int) < (n : Int) := by omega
      clear hn hln
      go_enter Tryz.func12, Tryz.ntmps12
      go_wp2_with fail
      go_ret
      exact ⟨rfl, Below.refl _ _⟩
  · rw [if_neg hln] at hR
    have h0 : ((l.length : Int) == 0) = false := by rw [beq_eq_false_iff_ne]; omega
    have h1 : ¬ (1024 : Int) < (l.length : Int) := by omega
    have hlen : l.length ≤ 1024 := by omega
    have HLEN := Lib.hid hlen
    replace HR := Lib.hid hR
    clear hln hR hlen hs
    go_enter Tryz.func12, Tryz.ntmps12
    go_wp2_with fail
    clear h0 h1
    go_loopg [7] l.length (fun gk i wr => ∃ k : Nat, k + gk = l.length ∧ i = .int .i64 k ∧ (∀ j (h : j < l.length), j < k → mayC l[j] = true) ∧ Below w.heap.size w wr)
    case atStart => exact ⟨0, by omega, rfl, fun j _ h => absurd h (by omega), Below.refl _ _⟩
    case round =>
      obtain ⟨k, hgk, rfl, hgood, hbw⟩ := hrel
      have HGD := Lib.hid hgood; have HBB := Lib.hid hbw
      clear hgood hbw
      by_cases hlt : k < l.length
      · rcases chgsAt_below HL.out (Nat.le_refl _) HBB.out with hat | ⟨a, off, rfl, hbl, hcs⟩
        · simp [hat] at hlt
        have hcc := hcs k hlt
        have hzk := HZ.out l[k] (List.getElem_mem hlt)
        have hmem : l[k] ∈ l := List.getElem_mem hlt
        obtain ⟨x, hx⟩ : ∃ x, x = l[k] := ⟨_, rfl⟩
        rw [← hx] at hcc hzk hmem
        have hki : k + 1 ≤ 1024 := by have := HLEN.out; omega
        have HCC := Lib.hid hcc; have HZK := Lib.hid hzk; have HX := Lib.hid hx; have HMEM := Lib.hid hmem; have HGK := Lib.hid hgk
        clear hcs hx hcc hzk hmem hgk
        obtain ⟨ky, vl, gn⟩ := x
        go_wp2_with (refine wpList_cells 42 _ rfl a (off + k * 3) rfl rfl [.string ky, .string vl, .bool gn] _ HCC.out Tryz.underlying42 rfl (by kernel_rfl) ?_)
        refine (lmay_walk ⟨ky, vl, gn⟩ _ HZK.out.1 HZK.out.2).mono ?_
        rintro e w4 ⟨rfl, hb4⟩
        have M3 := Lib.hid (HBB.out.trans (hb4.mono HBB.out.size))
        clear hb4 HCC hbl
        by_cases hm : mayC ⟨ky, vl, gn⟩ = true
        · rw [hm]
          have HMM := Lib.hid hm
          clear hm
          go_wp2_with fail
          go_roundg (gk - 1)
          case measure => have := HGK.out; omega
          case rel =>
            refine ⟨k + 1, by have := HGK.out; omega, by go_num, fun j h hj => ?_, M3.out⟩
            by_cases hjk : j < k
            · exact HGD.out j h hjk
            · obtain rfl : j = k := by omega
              rw [← HX.out]; exact HMM.out
        · have hm2 : mayC ⟨ky, vl, gn⟩ = false := by simpa using hm
          obtain rfl : R = 2 := by rw [HR.out, if_pos (List.any_eq_true.2 ⟨_, HMEM.out, by rw [hm2]; rfl⟩)]
          rw [hm2]
          clear hm hm2 HR
          go_wp2_with fail
          go_ret
          exact ⟨rfl, M3.out⟩
      · have hall : l.any (fun c => !mayC c) = false := by
          rw [List.any_eq_false]
          intro c hc
          obtain ⟨j, hj, rfl⟩ := List.mem_iff_getElem.1 hc
          rw [HGD.out j hj (by omega)]
          simp
        have hR := HR.out
        rw [if_neg (by rw [hall]; simp)] at hR
        have hmay : ∀ c ∈ l, mayC c = true := fun c hc => by
          obtain ⟨j, hj, rfl⟩ := List.mem_iff_getElem.1 hc
          exact HGD.out j hj (by omega)
        have hsum := sum_may hmay
        have hba := bytes_after HK.out.ris l
        have hlb := len_bytes HK.out
        have hla := len_after HK.out.ris l
        have hok2 := ok_after HK.out hmay
        have hb1 := HB.out; have hl1 := HLEN.out
        have hsz : ∀ N : Kv, KvOk N → ∀ p ∈ N, p.1.size ≤ 1000000000 ∧ p.2.size ≤ 1000000000 := fun N hN p hp => by
          have := mayC_sizes (hN.may p hp)
          have h5 : p.1.size ≤ 32 := this.2.1
          have h6 : p.2.size ≤ 4096 := this.2.2.1
          omega
        have KA := Lib.hid (after_walk (fun _ => False) ad0 cap0 M ad cap l wr (HM.out.below HBB.out) (fun _ h => h.elim) (chgsAt_below HL.out (Nat.le_refl _) HBB.out) (by omega) (by omega) HK.out.ris)
        have KB0 := fun w' (hb : Below w.heap.size w w') => Lib.hid (rbytes_walk ad0 cap0 M w' (HM.out.below hb) (by omega) (by omega) (hsz M HK.out))
        have KB1 := fun ad' cap' w' (h : KvO w' ad' (afterM M l) (fun _ => False)) => Lib.hid (rbytes_walk ad' cap' (afterM M l) w' h (by omega) (by omega) (hsz _ hok2))
        have hA2 : bytesM (afterM M l) ≤ 1000000000000000 := by omega
        obtain ⟨A2, hA⟩ : ∃ A2, A2 = bytesM (afterM M l) := ⟨_, rfl⟩
        obtain ⟨A, hAA⟩ : ∃ A, A = bytesM M := ⟨_, rfl⟩
        rw [← hA, ← hAA] at hR
        simp only [← hA] at KB1
        simp only [← hAA, ← HMM.out] at KB0
        rw [← HMM.out] at KA
        have hA3 : A ≤ 100000000000000 := by omega
        rw [← hA] at hA2
        have hA2i : (A2 : Int) ≤ 1000000000000000 := by omega
        have hAi : (A : Int) ≤ 1000000000000000 := by omega
        replace HR := Lib.hid hR
        clear hR hall hmay hsum hba hlb hla hok2 hb1 hl1 hsz hA hAA hA2 hA3 HGD
        go_wp2_with fail
        refine KA.out.mono ?_
        rintro e w5 ⟨ad', cap', rfl, hko, hb5⟩
        have B5 := Lib.hid (HBB.out.trans (hb5.mono HBB.out.size))
        have K5 := Lib.hid (KB1 ad' cap' w5 hko).out
        clear hko hb5 KA KB1
        go_wp2_with fail
        refine K5.out.mono ?_
        rintro e w6 ⟨rfl, hb6⟩
        have B6 := Lib.hid (B5.out.trans (hb6.mono B5.out.size))
        have K6 := KB0 w6 B6.out
        clear hb6 B5 K5 KB0
        by_cases hp : (A : Int) < (A2 : Int)
        · by_cases hqq : qt < (A2 : Int)
          · obtain rfl : R = 11 := by rw [HR.out, if_pos ⟨by omega, hqq⟩]
            clear HR
            go_wp2_with fail
            refine K6.out.mono ?_
            rintro e w7 ⟨rfl, hb7⟩
            have B7 := Lib.hid (B6.out.trans (hb7.mono B6.out.size))
            clear hb7 K6
            go_wp2_with fail
            go_ret
            exact ⟨rfl, B7.out⟩
          · obtain rfl : R = 0 := by rw [HR.out, if_neg (fun h => hqq h.2)]
            clear HR
            go_wp2_with fail
            refine K6.out.mono ?_
            rintro e w7 ⟨rfl, hb7⟩
            have B7 := Lib.hid (B6.out.trans (hb7.mono B6.out.size))
            clear hb7 K6
            go_wp2_with fail
            go_ret
            exact ⟨rfl, B7.out⟩
        · obtain rfl : R = 0 := by rw [HR.out, if_neg (fun h => hp (by omega))]
          clear HR
          go_wp2_with fail
          refine K6.out.mono ?_
          rintro e w7 ⟨rfl, hb7⟩
          have B7 := Lib.hid (B6.out.trans (hb7.mono B6.out.size))
          clear hb7 K6
          go_wp2_with fail
          go_ret
          exact ⟨rfl, B7.out⟩
end Go.Proofs.YtjjejkhekmpgcaaGreat

namespace Go.Proofs.YtjjejkhekmpgcaaGreat
set_option maxRecDepth 4000
open Go.RowKit

theorem ris_cons_mem {p x : ByteArray × ByteArray} {M : Kv} (h : risK (p :: M)) (hx : x ∈ M) : ltK p.1 x.1 := (List.pairwise_cons.1 h).1 x hx
theorem ris_sub_len : ∀ (M L : Kv), risK M → risK L → (∀ p ∈ L, p ∈ M) → L.length ≤ M.length
  | [], [], _, _, _ => Nat.le_refl _
  | [], p :: L, _, _, h => absurd (h p List.mem_cons_self) (by simp)
  | m :: M, [], _, _, _ => Nat.zero_le _
  | m :: M, p :: L, hM, hL, h => by
    by_cases hpm : p = m
    · subst hpm
      have := ris_sub_len M L (ris_tail hM) (ris_tail hL) (fun x hx => by
        rcases List.mem_cons.1 (h x (List.mem_cons_of_mem _ hx)) with rfl | h'
        · exact absurd (ris_cons_mem hL hx) (fun h => ltK_ne h rfl)
        · exact h')
      simp only [List.length_cons]; omega
    · have hp : p ∈ M := (List.mem_cons.1 (h p List.mem_cons_self)).resolve_left hpm
      have := ris_sub_len M (p :: L) (ris_tail hM) hL (fun x hx => by
        rcases List.mem_cons.1 (h x hx) with rfl | h'
        · rcases List.mem_cons.1 hx with rfl | hx
          · exact absurd rfl hpm
          · exact absurd (ltK_trans (ris_cons_mem hM hp) (ris_cons_mem hL hx)) (fun h => ltK_ne h rfl)
        · exact h')
      simp only [List.length_cons] at this ⊢; omega
theorem ris_sub_eq : ∀ (M L : Kv), risK M → risK L → (∀ p ∈ L, p ∈ M) → L.length = M.length → M = L
  | [], [], _, _, _, _ => rfl
  | [], _ :: _, _, _, _, h => by simp at h
  | _ :: _, [], _, _, _, h => by simp at h
  | m :: M, p :: L, hM, hL, h, hl => by
    by_cases hpm : p = m
    · subst hpm
      rw [ris_sub_eq M L (ris_tail hM) (ris_tail hL) (fun x hx => by
        rcases List.mem_cons.1 (h x (List.mem_cons_of_mem _ hx)) with rfl | h'
        · exact absurd (ris_cons_mem hL hx) (fun h => ltK_ne h rfl)
        · exact h') (by simpa using hl)]
    · have hp : p ∈ M := (List.mem_cons.1 (h p List.mem_cons_self)).resolve_left hpm
      have := ris_sub_len M (p :: L) (ris_tail hM) hL (fun x hx => by
        rcases List.mem_cons.1 (h x hx) with rfl | h'
        · rcases List.mem_cons.1 hx with rfl | hx
          · exact absurd rfl hpm
          · exact absurd (ltK_trans (ris_cons_mem hM hp) (ris_cons_mem hL hx)) (fun h => ltK_ne h rfl)
        · exact h')
      simp only [List.length_cons] at this hl; omega

set_option maxHeartbeats 8000000 in
theorem same_walk (q b : Nat) (jv : Value) (qt : Int) (br : Bool) (MS : Kv) (ad : Option Addr) (cap : Nat) (L : Kv) (w : World) (hq : w.heap[q]? = some (.cells (stv jv b (bytesM MS) qt br) 76 (0, 0)))
    (hM : MapM w b MS) (hk : KvOk MS) (hk2 : KvOk L) (hL : KvO w ad L (fun _ => False)) (hb : bytesM MS ≤ 9000000) (hb2 : bytesM L ≤ 9000000) :
    Calls Tryz.prog 16 #[.pointer (some ⟨q, 0, none⟩), .slice ad L.length cap] w fun e w' => e = .returned (.bool (decide (MS = L))) ∧ Below w.heap.size w w' := by
  obtain ⟨R, hR⟩ : ∃ R, R = decide (MS = L) := ⟨_, rfl⟩
  rw [← hR]
  have hll := len_bytes hk2
  have hlm := len_bytes hk
  obtain ⟨n, hn⟩ : ∃ n, n = L.length := ⟨_, rfl⟩
  rw [← hn] at hll ⊢
  have HQ := Lib.hid hq; have HM := Lib.hid hM; have HK := Lib.hid hk; have HK2 := Lib.hid hk2; have HL := Lib.hid hL; have HB := Lib.hid hb; have HB2 := Lib.hid hb2; have HR := Lib.hid hR; have HN := Lib.hid hn; have HLM := Lib.hid hlm
  have hn9 : (n : Int) ≤ 9000000 := by omega
  clear hq hM hk hk2 hL hb hb2 hR hn hlm hll
  go_enter Tryz.func16, Tryz.ntmps16
  go_wp2_with fail
  go_loopg [5] n (fun gk v5 wr => ∃ i, i + gk = n ∧ v5 = .int .i64 i ∧ (∀ j (h : j < L.length), j < i → L[j] ∈ MS) ∧ Below w.heap.size w wr)
  case atStart => exact ⟨0, by omega, rfl, fun j h hj => by omega, Below.refl _ _⟩
  case round =>
    obtain ⟨i, hgk, rfl, hin, hb⟩ := hrel
    have HGK := Lib.hid hgk; have HIN := Lib.hid hin; have HBB := Lib.hid hb
    clear hgk hin hb
    have hqr := (HBB.out.block q (lt_of_block HQ.out)).trans HQ.out
    have hMr := HM.out.same (HBB.out.block b HM.out.lt)
    by_cases hi : i < n
    · have hiL : i < L.length := by have := HN.out; omega
      have hi' : (i : Int) < (n : Int) := by omega
      have hmem := List.getElem_mem hiL
      have hmk := mayC_sizes (HK2.out.may _ hmem)
      rcases HL.out with h0 | ⟨bl, off, rfl, hbl, _, hce⟩
      · rw [h0] at hiL; simp at hiL
      have d0 : wr.cell? ⟨bl, off + i * 2, none⟩ = some (.string L[i].1) := (HBB.out.cell (p := ⟨bl, off + i * 2 + 0, none⟩) hbl).trans (hce i hiL 0 _ rfl)
      have d1 : wr.cell? ⟨bl, off + i * 2 + 1, none⟩ = some (.string L[i].2) := (HBB.out.cell (p := ⟨bl, off + i * 2 + 1, none⟩) hbl).trans (hce i hiL 1 _ rfl)
      have hnot : L[i] ∉ MS → R = false := fun h => by
        rw [HR.out]
        exact decide_eq_false (fun e => h (by rw [e]; exact hmem))
      have hyes : L[i] ∈ MS → ∀ j (h : j < L.length), j < i + 1 → L[j] ∈ MS := fun h j hj hji => by
        rcases Nat.lt_or_ge j i with h3 | h3
        · exact HIN.out j hj h3
        · obtain rfl : j = i := by omega
          exact h
      obtain ⟨⟨ki, vi⟩, hki⟩ : ∃ p, p = L[i] := ⟨_, rfl⟩
      rw [← hki] at d0 d1 hnot hyes hmk
      have hk1 : ki.size ≤ 32 := hmk.2.1
      have KG := Lib.hid (sget_walk q b jv _ qt br MS ki wr hqr hMr (by omega))
      have HNOT := Lib.hid hnot; have HYES := Lib.hid hyes
      have hgm : getM MS ki = some vi ↔ (ki, vi) ∈ MS := ⟨getM_mem, mem_getM HK.out.ris⟩
      cases hg : getM MS ki with
      | none =>
        rw [hg] at KG
        obtain rfl : R = false := HNOT.out (fun h => by rw [hgm.2 h] at hg; cases hg)
        clear hgm hg hnot hyes hki hce hbl hmem hmk hiL hqr hMr HNOT HYES hk1
        by_cases hv : (⟨#[]⟩ : ByteArray) = vi
        · subst hv
          go_wp2_with fail
          refine KG.out.mono ?_
          rintro e w5 ⟨rfl, rfl⟩
          clear KG
          go_wp2_with fail
          go_ret
          exact ⟨rfl, HBB.out⟩
        · have hve : vi.toList.isEmpty = false := not_empty (fun h => hv (by apply ByteArray.ext; exact (Array.eq_empty_of_size_eq_zero h).symm))
          clear hv
          go_wp2_with fail
          refine KG.out.mono ?_
          rintro e w5 ⟨rfl, rfl⟩
          clear KG
          go_wp2_with fail
          go_ret
          exact ⟨rfl, HBB.out⟩
      | some u =>
        rw [hg] at KG
        by_cases hv : u = vi
        · subst hv
          have HY := Lib.hid (HYES.out (getM_mem hg))
          clear hgm hg hnot hyes hki hce hbl hmem hmk hiL hqr hMr HNOT HYES hk1
          go_wp2_with fail
          refine KG.out.mono ?_
          rintro e w5 ⟨rfl, rfl⟩
          clear KG
          go_wp2_with fail
          go_roundg (gk - 1)
          case measure => have := HGK.out; omega
          case rel => exact ⟨i + 1, by have := HGK.out; omega, by go_num, HY.out, HBB.out⟩
        · obtain rfl : R = false := HNOT.out (fun h => by rw [hgm.2 h] at hg; exact hv (Option.some.inj hg).symm)
          have hvb := str_neq hv
          clear hgm hg hnot hyes hki hce hbl hmem hmk hiL hqr hMr HNOT HYES hk1 hv
          go_wp2_with fail
          refine KG.out.mono ?_
          rintro e w5 ⟨rfl, rfl⟩
          clear KG
          go_wp2_with fail
          go_ret
          exact ⟨rfl, HBB.out⟩
    · have hin : i = n := by have := HGK.out; omega
      have hi' : ¬ (i : Int) < (n : Int) := by omega
      have hall : ∀ p ∈ L, p ∈ MS := fun p hp => by
        obtain ⟨j, hj, rfl⟩ := List.mem_iff_getElem.1 hp
        exact HIN.out j hj (by have := HN.out; omega)
      have KL := Lib.hid (slen_walk q b jv _ qt br MS wr hqr hMr)
      clear hin hi
      by_cases hlen : L.length = MS.length
      · obtain rfl : MS = L := ris_sub_eq MS L HK.out.ris HK2.out.ris hall hlen
        obtain rfl : R = true := by rw [HR.out]; simp
        have hlm := HLM.out; have hb := HB.out
        have hz : ∀ p ∈ MS, p.1.size ≤ 1000000000 ∧ p.2.size ≤ 1000000000 := fun p hp => by
          have := mayC_sizes (HK.out.may p hp)
          have h5 : p.1.size ≤ 32 := this.2.1
          have h6 : p.2.size ≤ 4096 := this.2.2.1
          omega
        have KBS := Lib.hid (sbytes_walk q b jv (bytesM MS) qt br wr hqr)
        have KB := Lib.hid (rbytes_walk ad cap MS wr (HL.out.below HBB.out) (by omega) (by omega) hz)
        have KK := fun w' (hb : Below w.heap.size w w') => Lib.hid (keys_walk q b jv (bytesM MS) qt br MS ⟨#[]⟩ w' ((hb.block q (lt_of_block HQ.out)).trans HQ.out) (HM.out.same (hb.block b HM.out.lt)) HK.out.ris (by omega))
        have KR := fun w' (hb : Below w.heap.size w w') => Lib.hid (rkeys_walk ad cap MS ⟨#[]⟩ w' (HL.out.below hb) (by omega) (by show 0 ≤ _; omega) (fun p hp => (hz p hp).1))
        rw [← HN.out] at KL KB
        simp only [← HN.out] at KR
        clear hall hlen hlm hb hz hqr hMr HIN
        go_wp2_with fail
        refine KL.out.mono ?_
        rintro e w5 ⟨rfl, rfl⟩
        clear KL
        go_wp2_with fail
        refine KBS.out.mono ?_
        rintro e w6 ⟨rfl, rfl⟩
        clear KBS
        go_wp2_with fail
        refine KB.out.mono ?_
        rintro e w7 ⟨rfl, hb7⟩
        have B7 := Lib.hid (HBB.out.trans (hb7.mono HBB.out.size))
        clear KB hb7
        go_wp2_with fail
        refine (KK w7 B7.out).out.mono ?_
        rintro e w8 ⟨v8, rfl, hr8, hb8⟩
        have B8 := Lib.hid (B7.out.trans (hb8.mono B7.out.size))
        obtain ⟨ad8, cap8, rfl, hs8⟩ := hr8.form
        have S8 := Lib.hid hs8
        clear KK hb8 hr8 hs8 B7
        go_wp2_with fail
        refine (KR w8 B8.out).out.mono ?_
        rintro e w9 ⟨v9, rfl, hr9, hb9⟩
        have B9 := Lib.hid (B8.out.trans (hb9.mono B8.out.size))
        obtain ⟨ad9, cap9, rfl, hs9⟩ := hr9.form
        have S9 := Lib.hid hs9
        have S89 := Lib.hid (strsAt_below S8.out (Nat.le_refl _) hb9)
        have hkl : (keysM MS ⟨#[]⟩).length ≤ 9223372036854775807 := by
          unfold keysM
          rw [List.length_map]
          refine Nat.le_trans (List.length_filter_le _ _) ?_
          have := HLM.out; have := HB.out; omega
        have KT := Lib.hid (texts_walk ad8 ad9 cap8 cap9 (keysM MS ⟨#[]⟩) (keysM MS ⟨#[]⟩) w9 S89.out S9.out hkl)
        rw [decide_eq_true rfl] at KT
        obtain ⟨ks, hks⟩ : ∃ ks, ks = keysM MS ⟨#[]⟩ := ⟨_, rfl⟩
        rw [← hks] at KT ⊢
        clear KR hb9 hr9 hs9 B8 hkl hks S8
        go_wp2_with fail
        refine KT.out.mono ?_
        rintro e w10 ⟨rfl, hb10⟩
        have B10 := Lib.hid (B9.out.trans (hb10.mono B9.out.size))
        clear KT hb10 B9
        go_wp2_with fail
        go_ret
        exact ⟨rfl, B10.out⟩
      · obtain rfl : R = false := by rw [HR.out]; exact decide_eq_false (fun e => hlen (by rw [e]))
        obtain ⟨m, hm⟩ : ∃ m, m = MS.length := ⟨_, rfl⟩
        rw [← hm] at KL
        have hnm : ((m : Int) == (n : Int)) = false := by rw [beq_eq_false_iff_ne]; have := HN.out; omega
        have hnm2 : ¬ m = n := by have := HN.out; omega
        clear hall hlen hm hqr hMr HIN
        go_wp2_with fail
        refine KL.out.mono ?_
        rintro e w5 ⟨rfl, rfl⟩
        clear KL
        go_wp2_with fail
        go_ret
        exact ⟨rfl, HBB.out⟩
end Go.Proofs.YtjjejkhekmpgcaaGreat
