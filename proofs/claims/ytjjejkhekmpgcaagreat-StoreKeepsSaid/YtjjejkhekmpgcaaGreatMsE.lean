/-
  Layer 6: slices.Sort by its contract.
  Layer 6: keys.
  Layer 6: all values behind changes, as records.
-/
import Derived.Test.YtjjejkhekmpgcaaGreatMgE
import Derived.Shelf.Sort.Plain
import Derived.Shelf.Slices.In.SortNone
import Derived.Sort.OwnSorted
import Derived.Sort.KeysCollected
import Derived.Test.YtjjejkhekmpgcaaGreatMsD
import Derived.Test.YtjjejkhekmpgcaaGreatMgI
import Derived.Maps.RangeWalk
import Derived.Test.YtjjejkhekmpgcaaGreatMgM
import Derived.Maps.Ext
namespace Go.Proofs
open Go.Shelf
def YtjjejkhekmpgcaaGreat.lays190_ren : Go.Shelf.Ren := ⟨fun | 190 => 50 | 125 => 78 | 258 => 77 | 128 => 106 | 129 => 107 | 302 => 97 | 303 => 98 | 304 => 99 | 305 => 100 | 306 => 101 | 307 => 102 | 308 => 103 | 309 => 104 | 310 => 105 | 333 => 117 | 329 => 118 | 330 => 119 | 334 => 120 | 335 => 121 | 336 => 122 | 344 => 125 | n => n, fun | 31 => 46 | 9 => 9 | 3 => 3 | 46 => 124 | 0 => 0 | 51 => 149 | 53 => 151 | 4 => 4 | 183 => 143 | 182 => 142 | 131 => 132 | 5 => 5 | 218 => 159 | 222 => 163 | 228 => 165 | 229 => 166 | n => n, fun | n => n⟩
theorem YtjjejkhekmpgcaaGreat.lays190 : Go.Proofs.Lays.n190 Tryz.prog YtjjejkhekmpgcaaGreat.lays190_ren := {
  mixed := by kernel_rfl
  f125 := Tryz.func78.trans (congrArg some (by kernel_rfl))
  f128 := Tryz.func106.trans (congrArg some (by kernel_rfl))
  f129 := Tryz.func107.trans (congrArg some (by kernel_rfl))
  f190 := Tryz.func50.trans (congrArg some (by kernel_rfl))
  f258 := Tryz.func77.trans (congrArg some (by kernel_rfl))
  f302 := Tryz.func97.trans (congrArg some (by kernel_rfl))
  f303 := Tryz.func98.trans (congrArg some (by kernel_rfl))
  f304 := Tryz.func99.trans (congrArg some (by kernel_rfl))
  f305 := Tryz.func100.trans (congrArg some (by kernel_rfl))
  f306 := Tryz.func101.trans (congrArg some (by kernel_rfl))
  f307 := Tryz.func102.trans (congrArg some (by kernel_rfl))
  f308 := Tryz.func103.trans (congrArg some (by kernel_rfl))
  f309 := Tryz.func104.trans (congrArg some (by kernel_rfl))
  f310 := Tryz.func105.trans (congrArg some (by kernel_rfl))
  f329 := Tryz.func118.trans (congrArg some (by kernel_rfl))
  f330 := Tryz.func119.trans (congrArg some (by kernel_rfl))
  f333 := Tryz.func117.trans (congrArg some (by kernel_rfl))
  f334 := Tryz.func120.trans (congrArg some (by kernel_rfl))
  f335 := Tryz.func121.trans (congrArg some (by kernel_rfl))
  f336 := Tryz.func122.trans (congrArg some (by kernel_rfl))
  f344 := Tryz.func125.trans (congrArg some (by kernel_rfl))
  t0 := Tryz.underlying0
  a0 := Tryz.isAgg0
  z0 := Tryz.sizeOf0
  v0 := Tryz.zeroValue0
  t3 := Tryz.underlying3
  a3 := Tryz.isAgg3
  z3 := Tryz.sizeOf3
  v3 := Tryz.zeroValue3
  t4 := Tryz.underlying4
  a4 := Tryz.isAgg4
  z4 := Tryz.sizeOf4
  v4 := Tryz.zeroValue4
  t5 := Tryz.underlying5
  a5 := Tryz.isAgg5
  z5 := Tryz.sizeOf5
  v5 := Tryz.zeroValue5
  t9 := Tryz.underlying9
  a9 := Tryz.isAgg9
  z9 := Tryz.sizeOf9
  v9 := Tryz.zeroValue9
  t31 := Tryz.underlying46
  a31 := Tryz.isAgg46
  z31 := Tryz.sizeOf46
  v31 := Tryz.zeroValue46
  t46 := Tryz.underlying124
  a46 := Tryz.isAgg124
  z46 := Tryz.sizeOf124
  v46 := Tryz.zeroValue124
  t51 := Tryz.underlying149
  a51 := Tryz.isAgg149
  z51 := Tryz.sizeOf149
  v51 := Tryz.zeroValue149
  t53 := Tryz.underlying151
  a53 := Tryz.isAgg151
  z53 := Tryz.sizeOf151
  v53 := Tryz.zeroValue151
  t131 := Tryz.underlying132
  a131 := Tryz.isAgg132
  z131 := Tryz.sizeOf132
  v131 := Tryz.zeroValue132
  t182 := Tryz.underlying142
  a182 := Tryz.isAgg142
  z182 := Tryz.sizeOf142
  v182 := Tryz.zeroValue142
  t183 := Tryz.underlying143
  a183 := Tryz.isAgg143
  z183 := Tryz.sizeOf143
  v183 := Tryz.zeroValue143
  t218 := Tryz.underlying159
  a218 := Tryz.isAgg159
  z218 := Tryz.sizeOf159
  v218 := Tryz.zeroValue159
  t222 := Tryz.underlying163
  a222 := Tryz.isAgg163
  z222 := Tryz.sizeOf163
  v222 := Tryz.zeroValue163
  t228 := Tryz.underlying165
  a228 := Tryz.isAgg165
  z228 := Tryz.sizeOf165
  v228 := Tryz.zeroValue165
  t229 := Tryz.underlying166
  a229 := Tryz.isAgg166
  z229 := Tryz.sizeOf166
  v229 := Tryz.zeroValue166 }
namespace YtjjejkhekmpgcaaGreat
open Go.Sort Go.RowKit
/-- texts, sorted -/
def sortB (l : List ByteArray) : List ByteArray := ((l.map (·.data.toList)).mergeSort leB).map (fun x => ⟨x.toArray⟩)
theorem enc_list (l : List ByteArray) : (l.map (·.data.toList)).map encStr = l.map Value.string := by
  rw [List.map_map]
  rfl
theorem enc_list2 (l : List (List UInt8)) : l.map encStr = (l.map (fun x => (⟨x.toArray⟩ : ByteArray))).map Value.string := by
  rw [List.map_map]
  rfl
theorem sort_row (base : Nat) (v : Value) (l : List ByteArray) (w : World) (h : Row w base v l) (hl : l.length ≤ 1000000000000) :
    Calls Tryz.prog 50 #[v] w fun e w' => e = .returned (.tuple #[]) ∧ Row w' base v (sortB l) ∧ w.grownBy w' v.ownBlock := by
  rcases h.2 with ⟨rfl, h0⟩ | ⟨g, cap, cur, rfl, hbase, hb, h1, h2, h3, h4⟩
  · obtain rfl : l = [] := List.eq_nil_of_length_eq_zero h0
    refine (Any.slices_Sort_string_none lays190 none 0 w).mono ?_
    rintro e w' ⟨rfl, rfl⟩
    exact ⟨rfl, by rw [show sortB [] = [] by simp [sortB]]; exact Row.nil _ _, World.grownBy.but ⟨rfl, rfl, rfl, Nat.le_refl _, fun _ _ _ => rfl⟩ _⟩
  · have hlen : (l.map (·.data.toList)).length = l.length := List.length_map _
    have hH : Holds encStr w g 0 (l.map (·.data.toList)).toArray := holds_of_block hb (by rw [hlen, enc_list]; simpa using h4)
    have hc := Any.slices_Sort_string lays190 g 0 cap (l.map (·.data.toList)) w hH (Array.getElem?_eq_some_iff.1 hb).1 (by rw [hlen]; omega)
    rw [hlen] at hc
    refine hc.mono ?_
    rintro e w' ⟨rfl, n, os, rfl⟩
    refine ⟨rfl, ?_, grownBy_sorted _⟩
    have := ownsRow_sorted (w := w) (base := base) (g := g) (cap := cap) (n := n) (os := os) (ss := l.map (·.data.toList)) (ts := (l.map (·.data.toList)).mergeSort leB) (List.length_mergeSort _) hbase hb (by rw [hlen]; exact h1) h2 h3
    rw [hlen, enc_list2] at this
    have hl2 : (sortB l).length = l.length := by unfold sortB; rw [List.length_map, List.length_mergeSort, List.length_map]
    unfold Row
    rw [hl2]
    exact this
end YtjjejkhekmpgcaaGreat
end Go.Proofs

namespace Go.Proofs.YtjjejkhekmpgcaaGreat
set_option maxRecDepth 4000
open Go.RowKit

/-- the keys that begin so -/
def keysM (M : Kv) (pf : ByteArray) : List ByteArray := (M.filter (fun p => preB p.1 pf)).map (·.1)
/-- a map of values, and what it reads as -/
theorem MapM.told {w : World} {b : Nat} {M : Kv} (h : MapM w b M) : ∃ D : DataW Value, w.ownsMap Tryz.prog 9 heldR b M.length D ∧ Maps.size D = M.length ∧ (∀ x : List UInt8, Maps.has D (.string x) = (getM M ⟨x.toArray⟩).isSome) ∧ (∀ x : List UInt8, ∀ v, (∀ z, D.atKey (.string x) z = .held v) → ∃ s, v = .string s ∧ getM M ⟨x.toArray⟩ = some s) := by
  obtain ⟨D, h1, h2, h3⟩ := h
  have hk : ∀ x : List UInt8, WideAt.IsKeyLit (.string x) := fun x => trivial
  refine ⟨D, h1, h2, fun x => ?_, fun x v hv => ?_⟩
  · rw [(h3 _ (hk x)).1]
    show (gM M ⟨x.toArray⟩).isSome = _
    unfold gM
    rw [Option.isSome_map]
  · have h4 := (h3 _ (hk x)).2
    have h5 : (match gM M ⟨x.toArray⟩ with | some v => DataW.held v | none => DataW.held (.bool true)) = .held v := (h4 (.held (.bool true))).symm.trans (hv _)
    have h6 : (match gM M ⟨x.toArray⟩ with | some v => DataW.held v | none => DataW.held (.bool false)) = .held v := (h4 (.held (.bool false))).symm.trans (hv _)
    unfold gM at h5 h6
    cases hg : getM M ⟨x.toArray⟩ with
    | none =>
      rw [hg] at h5 h6
      have e1 : (DataW.held (.bool true) : DataW Value) = .held v := h5
      have e2 : (DataW.held (.bool false) : DataW Value) = .held v := h6
      have := e1.trans e2.symm
      injection this with this
      injection this with this
      cases this
    | some s =>
      rw [hg] at h5
      have e1 : (DataW.held (.string s) : DataW Value) = .held v := h5
      injection e1 with e1
      exact ⟨s, e1.symm, rfl⟩

theorem keys_ris {M : Kv} (h : risK M) (pf : ByteArray) : ((keysM M pf).map (·.data.toList)).Pairwise (fun a b => leB a b = true) := by
  unfold keysM
  rw [List.map_map, List.pairwise_map]
  refine (h.filter _).imp (fun {a b} hab => ?_)
  show decide (a.1.data.toList ≤ b.1.data.toList) = true
  exact decide_eq_true (List.le_of_lt hab)
theorem keys_nodup {M : Kv} (h : risK M) (pf : ByteArray) : ((keysM M pf).map (·.data.toList)).Nodup := by
  unfold keysM
  rw [List.map_map]
  refine List.pairwise_map.2 ((h.filter _).imp (fun {a b} hab e => ?_))
  exact ltK_ne hab (bytes_ext e)
theorem keys_mem (M : Kv) (pf k : ByteArray) : k ∈ keysM M pf ↔ (getM M k).isSome = true ∧ preB k pf = true := by
  unfold keysM
  rw [List.mem_map]
  constructor
  · rintro ⟨p, hp, rfl⟩
    obtain ⟨h1, h2⟩ := List.mem_filter.1 hp
    refine ⟨?_, h2⟩
    unfold getM
    rw [Option.isSome_map, List.find?_isSome]
    exact ⟨p, h1, by simp⟩
  · rintro ⟨h1, h2⟩
    obtain ⟨v, hv⟩ := Option.isSome_iff_exists.1 h1
    exact ⟨(k, v), List.mem_filter.2 ⟨getM_mem hv, h2⟩, rfl⟩
/-- what was collected, sorted -/
theorem sort_keys {M : Kv} (hr : risK M) (pf : ByteArray) (ss : List (List UInt8)) (hn : ss.Nodup) (hm : ∀ x, x ∈ ss ↔ (getM M ⟨x.toArray⟩).isSome = true) :
    sortB ((ss.filter (fun x => preB ⟨x.toArray⟩ pf)).map (fun x => ⟨x.toArray⟩)) = keysM M pf := by
  have hp : (ss.filter (fun x => preB ⟨x.toArray⟩ pf)).Perm ((keysM M pf).map (·.data.toList)) := by
    refine (List.perm_ext_iff_of_nodup (hn.filter _) (keys_nodup hr pf)).2 fun x => ?_
    rw [List.mem_filter, hm, List.mem_map]
    constructor
    · rintro ⟨h1, h2⟩
      exact ⟨⟨x.toArray⟩, (keys_mem M pf _).2 ⟨h1, h2⟩, rfl⟩
    · rintro ⟨k, hk, rfl⟩
      exact (keys_mem M pf k).1 hk
  unfold sortB
  have e1 : ((ss.filter (fun x => preB ⟨x.toArray⟩ pf)).map (fun x => (⟨x.toArray⟩ : ByteArray))).map (·.data.toList) = ss.filter (fun x => preB ⟨x.toArray⟩ pf) := by
    rw [List.map_map]
    exact (List.map_congr_left (fun x _ => rfl)).trans (List.map_id _)
  rw [e1, mergeSort_of_perm hp, List.mergeSort_of_pairwise (keys_ris hr pf), List.map_map]
  exact (List.map_congr_left (fun x _ => rfl)).trans (List.map_id _)

theorem keys_nil (pf : ByteArray) (w : World) : Calls Tryz.prog 18 #[.pointer none, .string pf] w fun e w' => e = .returned (.slice none 0 0) ∧ w' = w := by
  go_enter Tryz.func18, Tryz.ntmps18
  go_wp2_with fail
  go_ret
  exact ⟨rfl, rfl⟩

/-- what Keys answers -/
def KeysPost (w : World) (l : List ByteArray) (e : Ending) (w' : World) : Prop := ∃ v, e = .returned v ∧ Row w' w.heap.size v l ∧ Below w.heap.size w w'
set_option maxHeartbeats 8000000 in
theorem keys_walk (q b : Nat) (jv : Value) (by' qt : Int) (br : Bool) (M : Kv) (pf : ByteArray) (w : World) (hq : w.heap[q]? = some (.cells (stv jv b by' qt br) 76 (0, 0)))
    (hM : MapM w b M) (hr : risK M) (hlen : M.length ≤ 1000000000000) :
    Calls Tryz.prog 18 #[.pointer (some ⟨q, 0, none⟩), .string pf] w fun e w' => KeysPost w (keysM M pf) e w' := by
  obtain ⟨D, hown, hsz, hhas, hat⟩ := hM.told
  have hbl := hM.lt
  have q1 : w.cell? ⟨q, 1, none⟩ = some (.map (some b)) := cell_at (j := 1) hq rfl
  obtain ⟨r, hrr⟩ : ∃ r, r = w.heap.size := ⟨_, rfl⟩
  have HHAS := Lib.hid hhas; have HAT := Lib.hid hat; have HRI := Lib.hid hr; have HLEN := Lib.hid hlen; have HSZ := Lib.hid hsz; have HR := Lib.hid hrr; have HBL := Lib.hid hbl
  clear hq hM hhas hat hr hlen hsz hrr hbl
  have HOWN := Lib.hid hown
  clear hown
  go_enter Tryz.func18, Tryz.ntmps18
  go_wp2_with (at_range; refine wpList_range_own _ rfl _ 74 rfl 9 9 str_key6 Tryz.underlying74 heldR b M.length D rfl HOWN.out ?_; intro w0 hrg0 hg0 hs0)
  go_frame
  rw [← HR.out] at hrg0 hs0 ⊢
  have HRG := Lib.hid hrg0; have HG := Lib.hid hg0; have HS := Lib.hid hs0
  clear hrg0 hg0 hs0 q1
  go_loopg [5] M.length (fun gk vo wr => ∃ (left : Lit → Bool) (ss : List (List UInt8)), wr.ranges Tryz.prog 9 heldR b r M.length D left gk ∧ Collected D left ss ∧ ss.length + gk ≤ M.length ∧ Row wr (r + 1) vo ((ss.filter (fun x => preB ⟨x.toArray⟩ pf)).map (fun x => ⟨x.toArray⟩)) ∧ Below r w wr)
  case atStart => exact ⟨_, [], by have := HRG.out; rw [HSZ.out] at this; exact this, Collected.start D, by simp, Row.nil _ _, ⟨HG.out.os, HG.out.tape, HG.out.output, HG.out.size, fun k hk => HG.out.block k (by have := HR.out; omega) (by simp)⟩⟩
  case round =>
    obtain ⟨left, ss, hrg, hC, hlen, hrow, hb⟩ := hrel
    have RG := Lib.hid hrg; have HC := Lib.hid hC; have HLN := Lib.hid hlen; have HRW := Lib.hid hrow; have HBB := Lib.hid hb
    clear hrg hC hlen hrow hb
    go_wp2_with (at_next; refine wpList_next_ranges _ rfl _ rfl 9 str_key6 heldR encStr (fun v : Value => v) (fun key kl h => by obtain ⟨x, hx, _⟩ := Maps.keyOf_str Tryz.underlying9 h; exact ⟨x, hx⟩) (fun v y _ => ⟨v, rfl⟩) b r M.length D _ _ rfl RG.out ?_ ?_)
    · intro hc0 hl0
      have hmem : ∀ x, x ∈ ss ↔ (getM M ⟨x.toArray⟩).isSome = true := fun x => by
        constructor
        · intro hx
          have h1 := ((HC.out.2 x).1 hx).1
          rw [HHAS.out x] at h1
          exact h1
        · intro hx
          exact (HC.out.2 x).2 ⟨by rw [HHAS.out x]; exact hx, hl0 _⟩
      have hsrt := sort_keys HRI.out pf ss HC.out.1 hmem
      have hlf : ((ss.filter (fun x => preB ⟨x.toArray⟩ pf)).map (fun x => (⟨x.toArray⟩ : ByteArray))).length ≤ 1000000000000 := by
        rw [List.length_map]
        have := List.length_filter_le (fun x => preB ⟨x.toArray⟩ pf) ss
        have := HLN.out; have := HLEN.out; omega
      have KS := Lib.hid (sort_row _ _ _ _ HRW.out hlf)
      rw [hsrt] at KS
      clear hmem hsrt hlf hc0 hl0
      go_wp2_with fail
      refine KS.out.mono ?_
      rintro e w3 ⟨rfl, hr3, hg3⟩
      have hb3 := below_of_grown HBB.out hg3 (by have := RG.out.lt; omega) (fun j hj => by have := (HRW.out.lt j hj).1; omega)
      have R3 := Lib.hid hr3; have B3 := Lib.hid hb3
      clear hr3 hg3 hb3 KS
      go_wp2_with fail
      go_ret
      refine ⟨_, rfl, ?_, by rw [HR.out] at B3; exact B3.out⟩
      have := R3.out
      exact ⟨this.1, this.2.imp id fun ⟨g, c, cur, h1, h2, h3⟩ => ⟨g, c, cur, h1, by have := HR.out; omega, h3⟩⟩
    · intro x c kl yd yp w2 cnt2 hkey hlk hv hat hrg2 hlt hg2 hs2 hen
      obtain ⟨x', ex, rfl, hxl⟩ := Maps.keyOf_str Tryz.underlying9 hkey
      obtain rfl : x = x' := encStr_inj ex
      have hC2 := HC.out.step hlk hat
      have hnr : u5.ownBlock = none ∨ u5.ownBlock ≠ some r := .inr fun e => by have := (HRW.out.lt r e).1; omega
      have hrow2 := HRW.out.grown hg2 hnr
      have hb2 := below_of_grown HBB.out hg2 (by have := RG.out.lt; omega) (fun j hj => by injection hj with hj; omega)
      have hl2 : (ss ++ [x]).length + cnt2 ≤ M.length := by rw [List.length_append, List.length_singleton]; have := HLN.out; omega
      have RG2 := Lib.hid hrg2; have HC2 := Lib.hid hC2; have RW2 := Lib.hid hrow2; have B2 := Lib.hid hb2; have HL2 := Lib.hid hl2; have HLT := Lib.hid hlt; have HXL := Lib.hid hxl; have HNR := Lib.hid hnr
      clear hkey hlk hv hat hrg2 hlt hg2 hs2 ex hC2 hrow2 hb2 hl2 hxl RG HC HRW HBB hnr
      go_wp2_with fail
      refine (hasPre_walk ⟨x.toArray⟩ pf _).mono ?_
      rintro e w3 ⟨rfl, rfl⟩
      by_cases hp : preB ⟨x.toArray⟩ pf = true
      · have hf : (ss ++ [x]).filter (fun x => preB ⟨x.toArray⟩ pf) = ss.filter (fun x => preB ⟨x.toArray⟩ pf) ++ [x] := by rw [List.filter_append]; simp [hp]
        have HF := Lib.hid hf
        rw [hp]
        clear hp hf hen
        go_wp2_with (at_builtin; refine wpList_append_row rfl _ _ rfl (r + 1) _ _ rfl (World.ownsRow.alloc RW2.out _) _ [⟨x.toArray⟩] rfl (src_new ⟨x.toArray⟩ _) ?_ ?_ ?_)
        · have h1 := HL2.out
          have h2 := List.length_filter_le (fun x => preB ⟨x.toArray⟩ pf) ss
          have h3 := HLEN.out
          rw [List.length_append, List.length_singleton] at h1
          rw [List.length_map, List.length_singleton]
          omega
        · have := RG2.out.lt; simp; omega
        intro v4 w4 hr4 hg4 hp4
        have hrow3 : Row (w3.alloc (.cells #[.string ⟨x.toArray⟩] 9)) (r + 1) u5 _ := World.ownsRow.alloc RW2.out _
        have hb4 := below_of_grown (B2.out.alloc (by have := RG2.out.lt; omega) (.cells #[.string ⟨x.toArray⟩] 9)) hg4 (by have := RG2.out.lt; simp; omega) (fun j hj => by have := (hrow3.lt j hj).1; omega)
        have hrg4 := (RG2.out.alloc (.cells #[.string ⟨x.toArray⟩] 9)).kept hg4 (fun e => by have := (hrow3.lt b e.symm).1; have := HBL.out; have := HR.out; omega) (fun e => by have := (hrow3.lt r e.symm).1; omega)
        have R4 := Lib.hid hr4; have B4 := Lib.hid hb4; have RG4 := Lib.hid hrg4
        clear hr4 hg4 hp4 hrow3 hb4 hrg4
        go_wp2_with fail
        go_roundg cnt2
        case measure => exact HLT.out
        case rel => exact ⟨_, ss ++ [x], RG4.out, HC2.out, HL2.out, by rw [HF.out, List.map_append]; exact R4.out, B4.out⟩
      · have hf : (ss ++ [x]).filter (fun x => preB ⟨x.toArray⟩ pf) = ss.filter (fun x => preB ⟨x.toArray⟩ pf) := by rw [List.filter_append]; simp [hp]
        have HF := Lib.hid hf
        have hp2 : preB ⟨x.toArray⟩ pf = false := by simpa using hp
        rw [hp2]
        clear hp hf hp2 hen
        go_wp2_with fail
        go_roundg cnt2
        case measure => exact HLT.out
        case rel => exact ⟨_, ss ++ [x], RG2.out, HC2.out, HL2.out, by rw [HF.out]; exact RW2.out, B2.out⟩
end Go.Proofs.YtjjejkhekmpgcaaGreat

namespace Go.Proofs.YtjjejkhekmpgcaaGreat
set_option maxRecDepth 4000
open Go.RowKit
open Go.Maps (Canon Keyed)

theorem has_no {D : DataW Value} (c : Canon D) {k : Lit} (hk : ¬ WideAt.IsKeyLit k) : Maps.has D k = false := by
  obtain ⟨es, rfl, _, h⟩ := c
  rw [Maps.has_eq, List.any_eq_false]
  intro p hp hs
  have : p.1 = k := Classical.byContradiction fun e => by rw [Maps.sameKey_ne e] at hs; cases hs
  exact hk (this ▸ h p hp)
/-- a map that is told alike has as many entries -/
theorem MapL.unique {P : Program} {k : TypeId} {w w' : World} {b b' n n' : Nat} {f : Lit → Option Value} (K : Keyed P k) (h : MapL P k w b f n) (h' : MapL P k w' b' f n') : n = n' := by
  obtain ⟨D, h1, h2, h3⟩ := h
  obtain ⟨D', h1', h2', h3'⟩ := h'
  have c := h1.canon K
  have c' := h1'.canon K
  have : D = D' := by
    refine Maps.ext c c' (fun l => ?_) (fun l z hl => ?_)
    · by_cases hk : WideAt.IsKeyLit l
      · rw [(h3 l hk).1, (h3' l hk).1]
      · rw [has_no c hk, has_no c' hk]
    · by_cases hk : WideAt.IsKeyLit l
      · rw [(h3 l hk).2, (h3' l hk).2]
      · rw [has_no c hk] at hl; cases hl
  rw [← h2, ← h2', this]

/-- a value as a record -/
def recK (p : ByteArray × ByteArray) : ByteArray := (layC [⟨p.1, p.2, false⟩]).1
/-- values as records -/
def recsM (M : Kv) : List ByteArray := M.map recK
theorem empty_ext (s : ByteArray) : s.extract 0 0 = ⟨#[]⟩ := by
  apply ByteArray.ext
  rw [ByteArray.data_extract]
  simp
theorem chg_one_at {w : World} {p : Nat} {c : Chg} {t : TypeId} (hb : w.heap[p]? = some (.cells #[.string c.key, .string c.val, .bool c.gone] t (0, 0))) : chgsAt w (some ⟨p, 0, none⟩) [c] :=
  .inr ⟨p, 0, rfl, lt_of_block hb, fun i hi j u hu => by
    have : i = 0 := by simpa using hi
    subst this
    rw [cell_of_row w p _ _ _ _ hb]
    simpa [chgv] using hu⟩
theorem recs_take {M : Kv} {k : Nat} (h : k < M.length) : recsM (M.take (k + 1)) = recsM (M.take k) ++ [recK M[k]] := by
  unfold recsM
  rw [List.take_succ_eq_append_getElem h, List.map_append]
  rfl
theorem keys_all (M : Kv) : keysM M ⟨#[]⟩ = M.map (·.1) := by
  unfold keysM
  congr 1
  exact List.filter_eq_self.2 fun p _ => by unfold preB; show (decide (0 ≤ p.1.size) && ((p.1.extract 0 0).toList == (⟨#[]⟩ : ByteArray).toList)) = true; rw [empty_ext]; simp
/-- what has been copied -/
def gLeft (M : Kv) (left : Lit → Bool) : ByteArray → Option Value := fun x => if left (.string x.data.toList) then none else gM M x
theorem gLeft_step (M : Kv) (left : Lit → Bool) (x : List UInt8) (s : ByteArray) (hg : getM M ⟨x.toArray⟩ = some s) : gLeft M (fun z => left z && !z.sameKey (.string x)) = fun y => if y = ⟨x.toArray⟩ then some (.string s) else gLeft M left y := by
  funext y
  unfold gLeft
  by_cases h : y = ⟨x.toArray⟩
  · subst h
    rw [if_pos rfl, if_neg (by simp [Lit.sameKey])]
    unfold gM; rw [hg]; rfl
  · rw [if_neg h]
    have h2 : (Lit.string y.data.toList).sameKey (.string x) = false := by
      have : y.data.toList ≠ x := fun e => h (by rw [← e])
      simp [Lit.sameKey, this]
    show (if (left (.string y.data.toList) && !(Lit.string y.data.toList).sameKey (.string x)) = true then none else gM M y) = _
    rw [h2]
    simp

set_option maxHeartbeats 8000000 in
theorem all_walk (q b : Nat) (jv : Value) (by' qt : Int) (br : Bool) (M : Kv) (ad : Option Addr) (cap : Nat) (l : List Chg) (w : World) (hq : w.heap[q]? = some (.cells (stv jv b by' qt br) 76 (0, 0)))
    (hM : MapM w b M) (hr : risK M) (hl : chgsAt w ad l) (hs : l.length ≤ 1000000) (hz : ∀ c ∈ l, c.key.size ≤ 1000000000 ∧ c.val.size ≤ 1000000000) (hb : bytesM M + sumC l ≤ 1000000000000000)
    (hlen : M.length ≤ 100000000000) (hk : ∀ p ∈ afterM M l, p.1.size ≤ 1000000000 ∧ p.2.size ≤ 1000000000) :
    Calls Tryz.prog 43 #[.pointer (some ⟨q, 0, none⟩), .slice ad l.length cap] w fun e w' => KeysPost w (recsM (afterM M l)) e w' := by
  obtain ⟨D, hown, hsz, hhas, hat⟩ := hM.told
  have q1 : w.cell? ⟨q, 1, none⟩ = some (.map (some b)) := cell_at (j := 1) hq rfl
  obtain ⟨mb, hmb⟩ : ∃ mb, mb = w.heap.size := ⟨_, rfl⟩
  have hbl := hM.lt; have hql := lt_of_block hq
  have HHAS := Lib.hid hhas; have HAT := Lib.hid hat; have HRI := Lib.hid hr; have HLEN := Lib.hid hlen; have HSZ := Lib.hid hsz; have HMB := Lib.hid hmb; have HBL := Lib.hid hbl; have HQL := Lib.hid hql
  have HL := Lib.hid hl; have HS := Lib.hid hs; have HZ := Lib.hid hz; have HB := Lib.hid hb; have HK := Lib.hid hk; have HM := Lib.hid hM; have HQ := Lib.hid hq
  clear hq hM hr hl hs hz hb hlen hk hhas hat hsz hbl hql
  have hmm := @run_makeMap Tryz.prog
  go_enter Tryz.func43, Tryz.ntmps43
  go_upto_region 2 with fail
  rw [← hmb]
  have m1 : MapL Tryz.prog 9 (w.alloc (.map #[] 0)) mb (fun _ => none) 0 := by rw [hmb]; exact MapL.made w Tryz.prog 9
  have s1 : (w.alloc (.map #[] 0)).heap.size = mb + 1 := by rw [hmb]; simp
  have b1 : Below mb w (w.alloc (.map #[] 0)) := by rw [hmb]; exact (Below.refl _ _).alloc (Nat.le_refl _) _
  generalize w.alloc (.map #[] 0) = w1 at m1 s1 b1 ⊢
  have g2 := heap_alloc_top w1 (.cells (stv (.pointer none) mb 0 0 false) 76)
  have m2 := m1.same (heap_alloc_lt w1 (.cells (stv (.pointer none) mb 0 0 false) 76) mb m1.lt)
  have b2 := b1.alloc (by omega) (.cells (stv (.pointer none) mb 0 0 false) 76)
  have s2 : (w1.alloc (.cells (stv (.pointer none) mb 0 0 false) 76)).heap.size = mb + 2 := by simp [s1]
  rw [s1] at g2
  have e2 : (w1.alloc (.cells #[.pointer none, .map (some mb), .int .i64 0, .int .i64 0, .bool false] 76)) = w1.alloc (.cells (stv (.pointer none) mb 0 0 false) 76) := rfl
  rw [e2]
  generalize w1.alloc (.cells (stv (.pointer none) mb 0 0 false) 76) = w2 at g2 m2 b2 s2 ⊢
  have q12 : w2.cell? ⟨q, 1, none⟩ = some (.map (some b)) := cell_at (j := 1) ((b2.block q (by have := HQL.out; omega)).trans HQ.out) rfl
  have hown2 : w2.ownsMap Tryz.prog 9 heldR b M.length D := hown.kept (row := none) ⟨b2.os, b2.tape, b2.output, b2.size, fun k hk _ => b2.block k (by omega)⟩ (by simp)
  have G2 := Lib.hid g2; have M2 := Lib.hid m2; have B2 := Lib.hid b2; have S2 := Lib.hid s2; have OWN2 := Lib.hid hown2
  clear g2 m2 b2 s2 hown2 m1 s1 b1 e2 hmb hmm q1 hown
  go_wp2_with (at_range; refine wpList_range_own _ rfl _ 74 rfl 9 9 str_key6 Tryz.underlying74 heldR b M.length D rfl OWN2.out ?_; intro w3 hrg3 hg3 hs3)
  go_frame
  rw [S2.out] at hrg3 hs3 ⊢
  have m3 := M2.out.same (hg3.block mb M2.out.lt (by simp))
  have g3 := (hg3.block (mb + 1) (lt_of_block G2.out) (by simp)).trans G2.out
  have b3 : Below mb w w3 := B2.out.trans ⟨hg3.os, hg3.tape, hg3.output, hg3.size, fun k hk => hg3.block k (by have := S2.out; omega) (by simp)⟩
  rw [HSZ.out] at hrg3
  have RG := Lib.hid hrg3; have M3 := Lib.hid m3; have G3 := Lib.hid g3; have B3 := Lib.hid b3
  clear hrg3 hg3 hs3 m3 g3 b3 q12 G2 M2 B2 OWN2 S2
  go_loopg [6, 7] M.length (fun gk v6 v7 wr => ∃ (left : Lit → Bool) (n : Nat), wr.ranges Tryz.prog 9 heldR b (mb + 2) M.length D left gk ∧ MapL Tryz.prog 9 wr mb (fS (gLeft M left)) n ∧ n + gk ≤ M.length ∧ wr.heap[mb + 1]? = some (.cells (stv (.pointer none) mb 0 0 false) 76 (0, 0)) ∧ Below mb w wr)
  case atStart =>
    refine ⟨_, 0, RG.out, M3.out.congr (fun z _ => ?_) rfl, by omega, G3.out, B3.out⟩
    cases z with
    | string x =>
      show (if Maps.has D (.string x) then none else gM M ⟨x.toArray⟩) = none
      have := HHAS.out x
      unfold gM
      cases hg : getM M ⟨x.toArray⟩ with
      | none => split <;> rfl
      | some v => rw [this, hg]; rfl
    | _ => rfl
  case round =>
    obtain ⟨left, n, hrg, hmp, hn, hg, hb⟩ := hrel
    have RG := Lib.hid hrg; have MP := Lib.hid hmp; have HN := Lib.hid hn; have GG := Lib.hid hg; have BB := Lib.hid hb
    clear hrg hmp hn hg hb
    go_wp2_with (at_next; refine wpList_next_ranges _ rfl _ rfl 9 str_key6 heldR encStr (fun v : Value => v) (fun key kl h => by obtain ⟨x, hx, _⟩ := Maps.keyOf_str Tryz.underlying9 h; exact ⟨x, hx⟩) (fun v y _ => ⟨v, rfl⟩) b (mb + 2) M.length D _ _ rfl RG.out ?_ ?_)
    · intro hc0 hl0
      have mp := MP.out.congr (g := fS (gM M)) (fun z _ => by
        cases z with
        | string x => show gM M ⟨x.toArray⟩ = if left (.string x) then none else gM M ⟨x.toArray⟩; rw [hl0]; rfl
        | _ => rfl) rfl
      have hnn := MapL.unique str_key6 HM.out mp
      have hmW : MapM wr mb M := by unfold MapM; rw [hnn]; exact mp
      have hlW := chgsAt_below HL.out (Nat.le_of_eq HMB.out.symm) BB.out
      have hne : l ≠ [] → ∀ a, ad = some a → a.block ≠ mb + 1 ∧ a.block ≠ mb := fun h0 a ha => by
        rcases HL.out with h | ⟨b', off, h1, h2, _⟩
        · exact absurd h h0
        · rw [ha] at h1
          injection h1 with h1
          have : a.block = b' := by rw [h1]
          have := HMB.out
          omega
      have KD := Lib.hid (sdo_walk (mb + 1) mb (.pointer none) 0 0 false M ad cap l wr GG.out hmW HRI.out hlW HS.out HZ.out HB.out (by have := HLEN.out; omega) hne (by omega))
      generalize IntKind.i64.wrap (0 + ((bytesM (afterM M l) : Int) - (bytesM M : Int))) = by6 at KD
      clear mp hnn hmW hlW hne hl0 hc0
      have hln := len_after HRI.out l
      have HLN2 := Lib.hid (show (afterM M l).length ≤ 200000000000 by have := HLEN.out; have := HS.out; omega)
      have HRA := Lib.hid (ris_after HRI.out l)
      obtain ⟨M', hM'⟩ : ∃ M', M' = afterM M l := ⟨_, rfl⟩
      rw [← hM'] at KD HLN2 HRA
      have HM' := Lib.hid hM'
      clear hln hM'
      go_upto_region 7 with fail
      refine KD.out.mono ?_
      rintro e w5 ⟨rfl, h51, h52, h53⟩
      have b5 : Below mb w w5 := h53.below BB.out (by have := MP.out.lt; omega) (fun k hk => by rcases hk with rfl | rfl <;> omega)
      have KK := Lib.hid (keys_walk (mb + 1) mb _ _ _ _ M' ⟨#[]⟩ w5 h51 h52 HRA.out (by have := HLN2.out; omega))
      rw [keys_all] at KK
      have G5 := Lib.hid h51; have M5 := Lib.hid h52; have B5 := Lib.hid b5
      clear h51 h52 h53 b5 KD RG MP GG BB
      go_wp2_with fail
      refine KK.out.mono ?_
      rintro e w7 ⟨vk, rfl, hrk, hb7⟩
      obtain ⟨ad7, cap7, rfl, hst7⟩ := hrk.form
      have G7 := Lib.hid ((hb7.block (mb + 1) (lt_of_block G5.out)).trans G5.out)
      have M7 := Lib.hid (MapL.same M5.out (hb7.block mb M5.out.lt))
      have B7 := Lib.hid (B5.out.trans (hb7.mono (by have := M5.out.lt; omega)))
      have ST7 := Lib.hid hst7
      have hlm : (M'.map (·.1)).length = M'.length := List.length_map _
      rw [hlm]
      clear hrk hst7 hb7 hlm KK G5 M5 B5
      go_wp2_with fail
      go_loopg [8, 38] M'.length (fun gk vo i wr => ∃ k : Nat, k + gk = M'.length ∧ i = .int .i64 k ∧ Row wr w7.heap.size vo (recsM (M'.take k)) ∧ Below w7.heap.size w7 wr)
      case atStart => exact ⟨0, by omega, rfl, by simp [recsM]; exact Row.nil _ _, Below.refl _ _⟩
      case round =>
        obtain ⟨k, hgk, rfl, hrow, hb⟩ := hrel
        have HROW := Lib.hid hrow; have HBB := Lib.hid hb
        clear hrow hb
        by_cases hlt : k < M'.length
        · rcases strsAt_below ST7.out (Nat.le_refl _) HBB.out with hat | ⟨bl, off, rfl, hbl, hcs⟩
          · rw [List.map_eq_nil_iff] at hat; simp [hat] at hlt
          have hck := hcs k (by rw [List.length_map]; exact hlt)
          rw [List.getElem_map] at hck
          have hgk' := mem_getM HRA.out (k := M'[k].1) (v := M'[k].2) (List.getElem_mem hlt)
          have hsz := HK.out M'[k] (by rw [← HM'.out]; exact List.getElem_mem hlt)
          have htk := recs_take hlt
          obtain ⟨⟨ky, vl⟩, hx⟩ : ∃ x, x = M'[k] := ⟨_, rfl⟩
          rw [← hx] at hck hgk' hsz htk
          replace hgk' : getM M' ky = some vl := hgk'
          replace hsz : ky.size ≤ 1000000000 ∧ vl.size ≤ 1000000000 := hsz
          have hmr := MapL.same M7.out (HBB.out.block mb M7.out.lt)
          have c1 : wr.cell? ⟨mb + 1, 1, none⟩ = some (.map (some mb)) := cell_at (j := 1) ((HBB.out.block (mb + 1) (lt_of_block G7.out)).trans G7.out) rfl
          have hlk := hmr.look str_key6 (t := 74) Tryz.underlying74 (zstr6 _) (kof ky (by omega))
          rw [fS_key] at hlk
          have hgm : gM M' ky = some (.string vl) := by unfold gM; rw [hgk']; rfl
          rw [hgm] at hlk
          replace hlk : (Instr.lookup 74 (.map (some mb)) (.string ky) false).run Tryz.prog wr = .ok (.string vl) wr := hlk
          have HSZ2 := Lib.hid hsz; have HTK := Lib.hid htk; have HGK := Lib.hid hgk
          have hki : (k : Int) < (M'.length : Int) := by omega
          clear hcs hx hgk' hsz htk hmr hgm hgk
          go_wp2_with fail
          have g8 := heap_alloc_top wr (.cells #[.string ky, .string vl, .bool false] 42)
          refine (slay_walk (some ⟨wr.heap.size, 0, none⟩) 1 [⟨ky, vl, false⟩] _ (chg_one_at g8) (by simp) (by intro c hc; rw [List.mem_singleton.1 hc]; have := HSZ2.out; exact ⟨by show ky.size ≤ _; omega, by show vl.size ≤ _; omega⟩)).mono ?_
          rintro e w9 ⟨rfl, hb9⟩
          have hrec : (layC [⟨ky, vl, false⟩]).1 = recK (ky, vl) := rfl
          have hb8 := HBB.out.alloc HBB.out.size (.cells #[.string ky, .string vl, .bool false] 42)
          have hr9 := (show Row (wr.alloc (.cells #[.string ky, .string vl, .bool false] 42)) w7.heap.size u8 _ from World.ownsRow.alloc HROW.out _).keep hb9 (Nat.le_refl _)
          have hb9' := hb8.trans (hb9.mono (by have := HBB.out.size; simp; omega))
          generalize layC [⟨ky, vl, false⟩] = X at hrec ⊢
          have HREC := Lib.hid hrec; have R9 := Lib.hid hr9; have B9 := Lib.hid hb9'
          clear g8 hb9 hb8 hr9 hb9' hrec hlk c1 hck
          go_wp2_with (at_builtin; refine wpList_append_row rfl _ _ rfl w7.heap.size _ _ rfl (World.ownsRow.alloc R9.out _) _ [X.1] rfl (src_new X.1 _) ?_ ?_ ?_)
          · have := HLN2.out
            unfold recsM
            rw [List.length_map, List.length_take, List.length_singleton]
            omega
          · have := B9.out.size; simp; omega
          intro v10 w10 hr10 hg10 hp10
          have hrow9 : Row (w9.alloc (.cells #[.string X.1] 9)) w7.heap.size u8 _ := World.ownsRow.alloc R9.out _
          have hb10 := below_of_grown (B9.out.alloc B9.out.size (.cells #[.string X.1] 9)) hg10 (by have := B9.out.size; simp; omega) (fun j hj => (hrow9.lt j hj).1)
          rw [HREC.out] at hr10
          have R10 := Lib.hid hr10; have B10 := Lib.hid hb10
          clear hr10 hg10 hp10 hrow9 hb10
          go_wp2_with fail
          go_roundg (gk - 1)
          case measure => have := HGK.out; omega
          case rel => exact ⟨k + 1, by have := HGK.out; omega, by have := HLN2.out; exact congrArg (Value.int .i64) (by first | (rw [wrap_int _ (by omega)]; omega) | omega), by rw [HTK.out]; exact R10.out, B10.out⟩
        · have hkn : k = M'.length := by omega
          have hrw := HROW.out
          rw [List.take_of_length_le (by omega)] at hrw
          have HRW := Lib.hid hrw
          have hki : ¬ (k : Int) < (M'.length : Int) := by omega
          clear hrw hkn
          go_wp2_with fail
          go_ret
          refine ⟨_, rfl, ?_, by rw [← HMB.out]; exact B7.out.trans (HBB.out.mono (by have := B7.out.size; have := HMB.out; omega))⟩
          have h := HRW.out
          rw [HM'.out] at h
          exact ⟨h.1, h.2.imp id fun ⟨g, c, cur, h1, h2, h3⟩ => ⟨g, c, cur, h1, by have := B7.out.size; have := HMB.out; omega, h3⟩⟩
    · intro x c kl yd yp w4 cnt4 hkey hlk hv hat hrg4 hlt hg4 hs4 hen
      obtain ⟨x', ex, rfl, hxl⟩ := Maps.keyOf_str Tryz.underlying9 hkey
      obtain rfl : x = x' := encStr_inj ex
      simp only [heldR, Option.some.injEq, Prod.mk.injEq] at hv
      obtain ⟨rfl, rfl⟩ := hv
      obtain ⟨s, rfl, hgs⟩ := HAT.out x c hat
      have m4 := MP.out.same (hg4.block mb MP.out.lt (fun e => by injection e with e; omega))
      have g4 := (hg4.block (mb + 1) (lt_of_block GG.out) (fun e => by injection e with e; omega)).trans GG.out
      have b4 := below_of_grown BB.out hg4 (by have := RG.out.lt; omega) (fun j hj => by injection hj with hj; omega)
      have c4 : w4.cell? ⟨mb + 1, 1, none⟩ = some (.map (some mb)) := cell_at (j := 1) g4 rfl
      have RG4 := Lib.hid hrg4; have M4 := Lib.hid m4; have G4 := Lib.hid g4; have B4 := Lib.hid b4; have HGS := Lib.hid hgs; have HLT := Lib.hid hlt; have HXL := Lib.hid hxl; have HLK := Lib.hid hlk
      clear hkey hat hrg4 hlt hg4 hs4 ex m4 g4 b4 hgs hxl hlk RG MP GG BB
      go_wp2_with (at_mapUpdate; refine wpList_mapUpdate_L6 rfl _ _ _ rfl M4.out str_key6 Tryz.underlying74 (by have := HN.out; have := HLEN.out; unfold maxLen; omega) (kof ⟨x.toArray⟩ HXL.out) rfl rfl rfl ?_; intro w6 hm6 hg6)
      have m6 := hm6.congr (g := fS (gLeft M (fun z => left z && !z.sameKey (.string x)))) (fun z _ => by rw [gLeft_step M left x s HGS.out]; exact fS_set _ ⟨x.toArray⟩ _ _) rfl
      obtain ⟨n6, hn6, m6⟩ : ∃ n6, n6 + cnt4 ≤ M.length ∧ MapL Tryz.prog 9 w6 mb (fS (gLeft M (fun z => left z && !z.sameKey (.string x)))) n6 := ⟨_, by have := HN.out; have := HLT.out; split <;> omega, m6⟩
      have rg6 := RG4.out.kept hg6 (fun e => by injection e with e; have := HBL.out; have := HMB.out; omega) (fun e => by injection e with e; omega)
      have g6 := (hg6.block (mb + 1) (lt_of_block G4.out) (fun e => by injection e with e; omega)).trans G4.out
      have b6 := below_of_grown B4.out hg6 (by have := M4.out.lt; omega) (fun j hj => by injection hj with hj; omega)
      have RG6 := Lib.hid rg6; have M6 := Lib.hid m6; have G6 := Lib.hid g6; have B6 := Lib.hid b6; have N6 := Lib.hid hn6
      clear hm6 hg6 m6 rg6 g6 b6 hn6 RG4 M4 G4 B4 c4 hen
      go_wp2_with fail
      go_roundg cnt4
      case measure => exact HLT.out
      case rel => exact ⟨_, _, RG6.out, M6.out, N6.out, G6.out, B6.out⟩
end Go.Proofs.YtjjejkhekmpgcaaGreat
