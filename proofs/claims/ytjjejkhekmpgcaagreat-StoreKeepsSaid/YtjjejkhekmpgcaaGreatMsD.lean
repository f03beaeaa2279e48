/-
  Layer 6: values in a map; weigh.
  Layer 6: changes are done.
-/
import Derived.Test.YtjjejkhekmpgcaaGreatMsC
import Derived.Test.YtjjejkhekmpgcaaGreatMgH
import Derived.Test.YtjjejkhekmpgcaaGreatMgG
import Derived.BigQuiet
namespace Go.Proofs.YtjjejkhekmpgcaaGreat
set_option maxRecDepth 4000
open Go.RowKit

/-- a map by texts -/
def fS (g : ByteArray → Option Value) : Lit → Option Value
  | .string x => g ⟨x.toArray⟩
  | _ => none
theorem fS_key (g : ByteArray → Option Value) (k : ByteArray) : fS g (.string k.data.toList) = g k := rfl
theorem fS_set (g : ByteArray → Option Value) (k : ByteArray) (v : Value) (l : Lit) : fS (fun x => if x = k then some v else g x) l = setF (fS g) (.string k.data.toList) v l := by
  unfold setF
  cases l with
  | string x =>
    by_cases h : x = k.data.toList
    · subst h
      show (if k = k then some v else g k) = _
      rw [if_pos rfl, if_pos (by simp [Lit.sameKey])]
    · have h2 : (⟨x.toArray⟩ : ByteArray) ≠ k := fun e => h (by rw [← e])
      show (if (⟨x.toArray⟩ : ByteArray) = k then some v else g ⟨x.toArray⟩) = _
      rw [if_neg h2, if_neg (by simp [Lit.sameKey, h])]
      rfl
  | _ => simp [fS, Lit.sameKey]
theorem fS_del (g : ByteArray → Option Value) (k : ByteArray) (l : Lit) : fS (fun x => if x = k then none else g x) l = delF (fS g) (.string k.data.toList) l := by
  unfold delF
  cases l with
  | string x =>
    by_cases h : x = k.data.toList
    · subst h
      show (if k = k then none else g k) = _
      rw [if_pos rfl, if_pos (by simp [Lit.sameKey])]
    · have h2 : (⟨x.toArray⟩ : ByteArray) ≠ k := fun e => h (by rw [← e])
      show (if (⟨x.toArray⟩ : ByteArray) = k then none else g ⟨x.toArray⟩) = _
      rw [if_neg h2, if_neg (by simp [Lit.sameKey, h])]
      rfl
  | _ => simp [fS, Lit.sameKey]
def gM (M : Kv) : ByteArray → Option Value := fun k => (getM M k).map Value.string
/-- a map of values -/
def MapM (w : World) (b : Nat) (M : Kv) : Prop := MapL Tryz.prog 9 w b (fS (gM M)) M.length
theorem gM_put (M : Kv) (k v : ByteArray) : gM (putM M k v) = fun x => if x = k then some (.string v) else gM M x := by
  funext x
  unfold gM
  rw [getM_put]
  split <;> rfl
theorem gM_drop (M : Kv) (k : ByteArray) : gM (dropM M k) = fun x => if x = k then none else gM M x := by
  funext x
  unfold gM
  rw [getM_drop]
  split <;> rfl
theorem MapM.put {w : World} {b n : Nat} {M : Kv} {k v : ByteArray} (h : MapL Tryz.prog 9 w b (setF (fS (gM M)) (.string k.data.toList) (.string v)) n) (hr : risK M) (hn : n = if (fS (gM M) (.string k.data.toList)).isSome then M.length else M.length + 1) : MapM w b (putM M k v) := by
  refine h.congr (fun l _ => ?_) ?_
  · rw [gM_put]; exact fS_set _ _ _ _
  · rw [hn, fS_key, put_length hr]
    unfold gM
    cases getM M k <;> rfl
theorem MapM.del {w : World} {b n : Nat} {M : Kv} {k : ByteArray} (h : MapL Tryz.prog 9 w b (delF (fS (gM M)) (.string k.data.toList)) n) (hr : risK M) (hn : n = if (fS (gM M) (.string k.data.toList)).isSome then M.length - 1 else M.length) : MapM w b (dropM M k) := by
  refine h.congr (fun l _ => ?_) ?_
  · rw [gM_drop]; exact fS_del _ _ _
  · rw [hn, fS_key, drop_length hr]
    unfold gM
    cases getM M k <;> rfl
theorem str_key6 : Go.Maps.Keyed Tryz.prog 9 := Go.Maps.string_keyed Tryz.underlying9
theorem kof (s : ByteArray) (h : s.size ≤ 9223372036854775807) : keyOf Tryz.prog 9 (.string s) = some (.string s.data.toList) := Go.WideMaps.keyOf_string_mk Tryz.underlying9 h
theorem zstr6 (w : World) : (zeroValue 9).run Tryz.prog w = .ok (.string ⟨#[]⟩) w := by kernel_rfl
theorem zint6 (w : World) : (zeroValue 3).run Tryz.prog w = .ok (.int .i64 0) w := by kernel_rfl

theorem wpList_mapUpdate_L6 {P : Program} {k e t : TypeId} {w : World} {b n : Nat} {f : Lit → Option Value} {ops : Array Oper} {rest : List Oper} {o : Oper} {a : Act} {Q : Exit → Act → World → Prop} (hgd : o.guard = none) (m x v : Operand) (ho : o.op = .mapUpdate t m x v)
    (h : MapL P k w b f n) (KK : Go.Maps.Keyed P k) (ht : P.underlying t = some (.map k e)) (hn : n < maxLen) {key val : Value} {kl : Lit} (hkey : keyOf P k key = some kl)
    (hm : a.eval m = .map (some b)) (hx : a.eval x = key) (hv : a.eval v = val)
    (hK : ∀ w', MapL P k w' b (setF f kl val) (if (f kl).isSome then n else n + 1) → w.grownBy w' (some b) → wpList P ops Q rest (a.put o.dst undef) w') : wpList P ops Q (o :: rest) a w :=
  wpList_plain hgd fun _ hK' => wp_mapUpdate_L m x v ho h KK ht hn hkey hm hx hv fun w' h1 h2 => hK' _ _ (hK w' h1 h2)

/-- what weigh has found of the first changes -/
def seenW (M : Kv) (l : List Chg) : ByteArray → Option Value := fun x => if l.any (fun c => decide (c.key = x)) then some (.int .i64 (atM (afterM M l) x)) else none
theorem at_do (M : Kv) (c : Chg) (x : ByteArray) : atM (doM M c) x = if x = c.key then (if c.gone then 0 else c.key.size + c.val.size) else atM M x := by
  unfold atM
  rw [getM_do]
  by_cases h : x = c.key
  · rw [if_pos h, if_pos h]
    cases c.gone with
    | true => rfl
    | false => rw [h]; rfl
  · rw [if_neg h, if_neg h]
theorem seen_next (M : Kv) (l : List Chg) (i : Nat) (hi : i < l.length) : seenW M (l.take (i + 1)) = fun x => if x = l[i].key then some (.int .i64 ((if l[i].gone then 0 else l[i].key.size + l[i].val.size : Nat) : Int)) else seenW M (l.take i) x := by
  funext x
  unfold seenW
  rw [after_take hi, at_do, List.take_succ_eq_append_getElem hi, List.any_append]
  by_cases h : x = l[i].key
  · rw [if_pos h, if_pos h, if_pos (by simp [h])]
  · rw [if_neg h, if_neg h]
    have : ([l[i]].any fun c => decide (c.key = x)) = false := by
      simp only [List.any_cons, List.any_nil, Bool.or_false, decide_eq_false_iff_not]
      exact fun e => h e.symm
    rw [this, Bool.or_false]
theorem at_unseen (M : Kv) (l : List Chg) (x : ByteArray) (h : seenW M l x = none) : atM (afterM M l) x = atM M x := by
  have h2 : ∀ c ∈ l, c.key ≠ x := by
    unfold seenW at h
    split at h
    · cases h
    · rename_i h3
      intro c hc e
      exact h3 (List.any_eq_true.2 ⟨c, hc, by simpa using e⟩)
  clear h
  unfold afterM
  induction l generalizing M with
  | nil => rfl
  | cons c l ih =>
    show atM (l.foldl doM (doM M c)) x = _
    rw [ih (doM M c) (fun d hd => h2 d (List.mem_cons_of_mem _ hd)), at_do, if_neg (fun e => h2 c List.mem_cons_self e.symm)]

set_option maxHeartbeats 8000000 in
theorem weigh_walk (q b : Nat) (jv : Value) (by' qt : Int) (br : Bool) (M : Kv) (ad : Option Addr) (cap : Nat) (l : List Chg) (w : World) (hq : w.heap[q]? = some (.cells #[jv, .map (some b), .int .i64 by', .int .i64 qt, .bool br] 76 (0, 0)))
    (hM : MapM w b M) (hr : risK M) (hl : chgsAt w ad l) (hs : l.length ≤ 1000000) (hz : ∀ c ∈ l, c.key.size ≤ 1000000000 ∧ c.val.size ≤ 1000000000) (hb : bytesM M + sumC l ≤ 1000000000000000) :
    Calls Tryz.prog 58 #[.pointer (some ⟨q, 0, none⟩), .slice ad l.length cap] w fun e w' => e = .returned (.int .i64 ((bytesM (afterM M l) : Int) - (bytesM M : Int))) ∧ Below w.heap.size w w' := by
  obtain ⟨R, hR⟩ : ∃ R, R = (bytesM (afterM M l) : Int) - (bytesM M : Int) := ⟨_, rfl⟩
  rw [← hR]
  have HR := Lib.hid hR; have HQ := Lib.hid hq; have HM := Lib.hid hM; have HRI := Lib.hid hr; have HL := Lib.hid hl; have HZ := Lib.hid hz; have HBB := Lib.hid hb
  have HRA := fun i => Lib.hid (ris_after hr (l.take i))
  clear hR hq hM hr hl hz hb
  obtain ⟨mb, hmb⟩ : ∃ mb, mb = w.heap.size := ⟨_, rfl⟩
  have HMB := Lib.hid hmb
  have hmm := @run_makeMap Tryz.prog
  go_enter Tryz.func58, Tryz.ntmps58
  go_upto_region 3 with fail
  have g0 := MapL.made w Tryz.prog 9
  have hB := (Below.refl w.heap.size w).alloc (Nat.le_refl _) (.map #[] 0)
  rw [← hmb] at g0 hB ⊢
  generalize w.alloc (.map #[] 0) = W at g0 hB ⊢
  have G0 := Lib.hid g0; have HB := Lib.hid hB
  clear g0 hB hmb hmm
  go_wp2_with fail
  go_loopg [5, 17] l.length (fun gk vn i wr => ∃ k n : Nat, k + gk = l.length ∧ i = .int .i64 k ∧ vn = .int .i64 ((bytesM (afterM M (l.take k)) : Int) - (bytesM M : Int)) ∧ n ≤ k ∧ MapL Tryz.prog 9 wr mb (fS (seenW M (l.take k))) n ∧ Below mb w wr)
  case atStart => exact ⟨0, 0, by omega, rfl, by simp [afterM], Nat.le_refl _, G0.out.congr (fun x _ => by cases x <;> simp [fS, seenW]) rfl, HB.out⟩
  case round =>
    obtain ⟨k, n, hgk, rfl, rfl, hn, hmap, hb⟩ := hrel
    have HMAP := Lib.hid hmap; have HBK := Lib.hid hb; have HN := Lib.hid hn
    clear hmap hb hn
    by_cases hlt : k < l.length
    · have hat := chgsAt_below HL.out (Nat.le_of_eq HMB.out.symm) HBK.out
      rcases hat with hat | ⟨a, off, rfl, hbl, hcs⟩
      · simp [hat] at hlt
      have hcc := hcs k hlt
      have hzk := HZ.out l[k] (List.getElem_mem hlt)
      have hnx := seen_next M l k hlt
      have hby := bytes_do (HRA k).out l[k]
      rw [← after_take hlt] at hby
      have hb1 := bytes_after HRI.out (l.take k)
      have hb2 := bytes_after HRI.out (l.take (k + 1))
      have hs1 := sumC_take l k
      have hs2 := sumC_take l (k + 1)
      have hun := at_unseen M (l.take k) l[k].key
      have hbb := HBB.out
      have hkk : k + 1 ≤ 1000000 := by omega
      obtain ⟨x, hx⟩ : ∃ x, x = l[k] := ⟨_, rfl⟩
      rw [← hx] at hcc hzk hnx hby hun
      obtain ⟨ky, vl, gn⟩ := x
      replace hzk : ky.size ≤ 1000000000 ∧ vl.size ≤ 1000000000 := hzk
      obtain ⟨A, hA⟩ : ∃ A, A = bytesM (afterM M (l.take k)) := ⟨_, rfl⟩
      obtain ⟨A2, hA2⟩ : ∃ A2, A2 = bytesM (afterM M (l.take (k + 1))) := ⟨_, rfl⟩
      rw [← hA] at hb1 hby ⊢
      rw [← hA2] at hb2 hby
      obtain ⟨B, hB⟩ : ∃ B, B = bytesM M := ⟨_, rfl⟩
      rw [← hB] at hb1 hb2 hbb ⊢
      have hU := at_le (M := afterM M (l.take k)) ky
      rw [← hA] at hU
      replace hun : seenW M (l.take k) ky = none → atM (afterM M (l.take k)) ky = atM M ky := hun
      replace hby : A2 + atM (afterM M (l.take k)) ky = A + (if gn then 0 else ky.size + vl.size) := hby
      have hsn : seenW M (l.take k) ky = none ∨ seenW M (l.take k) ky = some (.int .i64 (atM (afterM M (l.take k)) ky : Nat)) := by
        unfold seenW; split
        · exact .inr rfl
        · exact .inl rfl
      obtain ⟨U, hU2⟩ : ∃ U, U = atM (afterM M (l.take k)) ky := ⟨_, rfl⟩
      rw [← hU2] at hU hun hby hsn
      obtain ⟨D, hD⟩ : ∃ D : Nat, D = if gn then 0 else ky.size + vl.size := ⟨_, rfl⟩
      rw [← hD] at hby
      have hz1 := hzk.1; have hz2 := hzk.2
      have HCC := Lib.hid hcc; have HNX := Lib.hid hnx; have HUN := Lib.hid hun; have HX := Lib.hid hx; have HA := Lib.hid hA; have HA2 := Lib.hid hA2; have HBE := Lib.hid hB; have HU := Lib.hid hU2; have HD := Lib.hid hD; have HBND := Lib.hid (show (A : Int) ≤ 1000000000000000 ∧ (B : Int) ≤ 1000000000000000 ∧ (A2 : Int) ≤ 1000000000000000 ∧ (U : Int) ≤ 1000000000000000 by omega); have HDU := Lib.hid hby; have HZ1 := Lib.hid hz1; have HZ2 := Lib.hid hz2; have HGK := Lib.hid hgk
      clear hcs hx hcc hzk hnx hby hun hU hU2 hA hA2 hB hD hz1 hz2 hb1 hb2 hs1 hs2 hbb hgk
      go_upto_region 6 with (refine wpList_cells 42 _ rfl a (off + k * 3) rfl rfl [.string ky, .string vl, .bool gn] _ HCC.out Tryz.underlying42 rfl (by kernel_rfl) ?_)
      have e2 := heap_alloc_top wr (.cells #[.string ky, .string vl, .bool gn] 42)
      have eM := HMAP.out.same (heap_alloc_lt wr (.cells #[.string ky, .string vl, .bool gn] 42) mb HMAP.out.lt)
      have eB := HBK.out.alloc (by have := HMAP.out.lt; omega) (.cells #[.string ky, .string vl, .bool gn] 42)
      obtain ⟨p, hp⟩ : ∃ p, p = wr.heap.size := ⟨_, rfl⟩
      rw [← hp] at e2 ⊢
      generalize wr.alloc (.cells #[.string ky, .string vl, .bool gn] 42) = W3 at e2 eM eB ⊢
      have c0 := cell_at (j := 0) (v := .string ky) e2 rfl
      have c1 := cell_at (j := 1) (v := .string vl) e2 rfl
      have c2 := cell_at (j := 2) (v := .bool gn) e2 rfl
      have q1 : W3.cell? ⟨q, 1, none⟩ = some (.map (some b)) := cell_at (j := 1) ((eB.block q (by have := lt_of_block HQ.out; have := HMB.out; omega)).trans HQ.out) rfl
      have eS := HM.out.same (eB.block b (by have := HM.out.lt; have := HMB.out; omega))
      have hlk1 := eM.look_ok str_key6 (t := 131) Tryz.underlying131 (zint6 _) (kof ky (by have := HZ1.out; omega))
      rw [fS_key] at hlk1
      have EM := Lib.hid eM; have EB := Lib.hid eB; have ES := Lib.hid eS
      clear e2 eM eB eS hp hbl HCC
      rcases hsn with hsn | hsn
      · have hun := HUN.out hsn
        rw [hsn] at hlk1
        replace hlk1 : (Instr.lookup 131 (.map (some mb)) (.string ky) true).run Tryz.prog W3 = .ok (.tuple #[.int .i64 0, .bool false]) W3 := hlk1
        clear hsn HUN
        cases hg : getM M ky with
        | none =>
          have hgm : gM M ky = none := by unfold gM; rw [hg]; rfl
          obtain rfl : U = 0 := by rw [hun]; unfold atM; rw [hg]
          clear hg hun
          go_upto_region 7 with fail
          have c0' : W3.drew.cell? ⟨p, 0, none⟩ = some (.string ky) := c0
          have c1' : W3.drew.cell? ⟨p, 1, none⟩ = some (.string vl) := c1
          have c2' : W3.drew.cell? ⟨p, 2, none⟩ = some (.bool gn) := c2
          have q1' : W3.drew.cell? ⟨q, 1, none⟩ = some (.map (some b)) := q1
          have hlk2' := (ES.out.same (w' := W3.drew) rfl).look_ok str_key6 (t := 74) Tryz.underlying74 (zstr6 _) (kof ky (by have := HZ1.out; omega))
          rw [fS_key, hgm] at hlk2'
          replace hlk2' : (Instr.lookup 74 (.map (some b)) (.string ky) true).run Tryz.prog W3.drew = .ok (.tuple #[.string ⟨#[]⟩, .bool false]) W3.drew := hlk2'
          clear hgm
          have EM2 := Lib.hid (EM.out.same (w' := W3.drew) rfl)
          have EB2 := Lib.hid EB.out.drew
          clear c0 c1 c2 q1 hlk1 EM EB ES
          refine wp_region_mix (fun w9 => w9 = W3.drew) [(0,true),(1,true),(2,true),(3,true),(4,true),(5,true),(6,true),(7,true),(8,true),(9,true),(10,true),(11,true)] (by kernel_rfl) (by kernel_rfl) rfl ?_
          generalize W3.drew = W4 at c0' c1' c2' q1' hlk2' EM2 EB2 ⊢
          simp only [List.filterMap_cons, List.filterMap_nil, List.getElem?_cons_zero, List.getElem?_cons_succ, Option.map_some]
          repeat (refine mix_read (by rfl) ?_; apply Exists.intro; refine ⟨fun w9 hw9 => ?_, ?_⟩; (· subst hw9; go_simp; rfl); simp only [Act.put, List.setIfInBounds_toArray, List.set_cons_succ, List.set_cons_zero])
          refine mix_nil (NoPanic.normal ?_)
          try simp only [Act.put, List.setIfInBounds_toArray, List.set_cons_succ, List.set_cons_zero]
          have hHB := HBND.out
          have hHD := HDU.out
          by_cases hgn : gn = true
          · subst hgn
            obtain rfl : D = 0 := HD.out
            go_wp2_with (at_mapUpdate; refine wpList_mapUpdate_L6 rfl _ _ _ rfl EM2.out str_key6 Tryz.underlying131 (by have := HN.out; unfold maxLen; omega) (kof ky (by have := HZ1.out; omega)) rfl rfl rfl ?_; intro w6 hm6 hg6)
            have M6 := Lib.hid (hm6.congr (g := fS (seenW M (l.take (k + 1)))) (fun x _ => by rw [HNX.out]; exact fS_set _ _ _ _) rfl)
            have B6 := Lib.hid (below_of_grown EB2.out hg6 (by have := EM2.out.lt; omega) (fun j hj => by injection hj with hj; omega))
            clear hm6 hg6 EM2 EB2
            go_wp2_with fail
            go_roundg (gk - 1)
            case measure => have := HGK.out; omega
            case rel =>
              refine ⟨k + 1, _, by have := HGK.out; omega, by go_num, ?_, ?_, M6.out, B6.out⟩
              · have e1 := HA2.out; have e2 := HBE.out
                rw [← e1, ← e2]
                go_num
              · have := HN.out; split <;> omega
          · obtain rfl : gn = false := by simpa using hgn
            have hD := HD.out
            rw [if_neg (by simp)] at hD
            have hZ1 := HZ1.out
            have hZ2 := HZ2.out
            clear hgn
            go_wp2_with (at_mapUpdate; refine wpList_mapUpdate_L6 rfl _ _ _ rfl EM2.out str_key6 Tryz.underlying131 (by have := HN.out; unfold maxLen; omega) (kof ky (by have := HZ1.out; omega)) rfl rfl rfl ?_; intro w6 hm6 hg6)
            have M6 := Lib.hid (hm6.congr (g := fS (seenW M (l.take (k + 1)))) (fun x _ => by rw [HNX.out]; exact fS_set _ _ _ _) rfl)
            have B6 := Lib.hid (below_of_grown EB2.out hg6 (by have := EM2.out.lt; omega) (fun j hj => by injection hj with hj; omega))
            clear hm6 hg6 EM2 EB2
            go_wp2_with fail
            go_roundg (gk - 1)
            case measure => have := HGK.out; omega
            case rel =>
              refine ⟨k + 1, _, by have := HGK.out; omega, by go_num, ?_, ?_, M6.out, B6.out⟩
              · have e1 := HA2.out; have e2 := HBE.out
                rw [← e1, ← e2]
                go_num
              · have := HN.out; split <;> omega
        | some v =>
          have hgm : gM M ky = some (.string v) := by unfold gM; rw [hg]; rfl
          obtain rfl : U = ky.size + v.size := by rw [hun]; unfold atM; rw [hg]
          clear hg hun
          go_upto_region 7 with fail
          have c0' : W3.drew.cell? ⟨p, 0, none⟩ = some (.string ky) := c0
          have c1' : W3.drew.cell? ⟨p, 1, none⟩ = some (.string vl) := c1
          have c2' : W3.drew.cell? ⟨p, 2, none⟩ = some (.bool gn) := c2
          have q1' : W3.drew.cell? ⟨q, 1, none⟩ = some (.map (some b)) := q1
          have hlk2' := (ES.out.same (w' := W3.drew) rfl).look_ok str_key6 (t := 74) Tryz.underlying74 (zstr6 _) (kof ky (by have := HZ1.out; omega))
          rw [fS_key, hgm] at hlk2'
          replace hlk2' : (Instr.lookup 74 (.map (some b)) (.string ky) true).run Tryz.prog W3.drew = .ok (.tuple #[.string v, .bool true]) W3.drew := hlk2'
          clear hgm
          have EM2 := Lib.hid (EM.out.same (w' := W3.drew) rfl)
          have EB2 := Lib.hid EB.out.drew
          clear c0 c1 c2 q1 hlk1 EM EB ES
          refine wp_region_mix (fun w9 => w9 = W3.drew) [(0,true),(1,true),(2,true),(3,true),(4,true),(5,true),(6,true),(7,true),(8,true),(9,true),(10,true),(11,true)] (by kernel_rfl) (by kernel_rfl) rfl ?_
          generalize W3.drew = W4 at c0' c1' c2' q1' hlk2' EM2 EB2 ⊢
          simp only [List.filterMap_cons, List.filterMap_nil, List.getElem?_cons_zero, List.getElem?_cons_succ, Option.map_some]
          repeat (refine mix_read (by rfl) ?_; apply Exists.intro; refine ⟨fun w9 hw9 => ?_, ?_⟩; (· subst hw9; go_simp; rfl); simp only [Act.put, List.setIfInBounds_toArray, List.set_cons_succ, List.set_cons_zero])
          refine mix_nil (NoPanic.normal ?_)
          try simp only [Act.put, List.setIfInBounds_toArray, List.set_cons_succ, List.set_cons_zero]
          have hHB := HBND.out
          have hHD := HDU.out
          by_cases hgn : gn = true
          · subst hgn
            obtain rfl : D = 0 := HD.out
            go_wp2_with (at_mapUpdate; refine wpList_mapUpdate_L6 rfl _ _ _ rfl EM2.out str_key6 Tryz.underlying131 (by have := HN.out; unfold maxLen; omega) (kof ky (by have := HZ1.out; omega)) rfl rfl rfl ?_; intro w6 hm6 hg6)
            have M6 := Lib.hid (hm6.congr (g := fS (seenW M (l.take (k + 1)))) (fun x _ => by rw [HNX.out]; exact fS_set _ _ _ _) rfl)
            have B6 := Lib.hid (below_of_grown EB2.out hg6 (by have := EM2.out.lt; omega) (fun j hj => by injection hj with hj; omega))
            clear hm6 hg6 EM2 EB2
            go_wp2_with fail
            go_roundg (gk - 1)
            case measure => have := HGK.out; omega
            case rel =>
              refine ⟨k + 1, _, by have := HGK.out; omega, by go_num, ?_, ?_, M6.out, B6.out⟩
              · have e1 := HA2.out; have e2 := HBE.out
                rw [← e1, ← e2]
                go_num
              · have := HN.out; split <;> omega
          · obtain rfl : gn = false := by simpa using hgn
            have hD := HD.out
            rw [if_neg (by simp)] at hD
            have hZ1 := HZ1.out
            have hZ2 := HZ2.out
            clear hgn
            go_wp2_with (at_mapUpdate; refine wpList_mapUpdate_L6 rfl _ _ _ rfl EM2.out str_key6 Tryz.underlying131 (by have := HN.out; unfold maxLen; omega) (kof ky (by have := HZ1.out; omega)) rfl rfl rfl ?_; intro w6 hm6 hg6)
            have M6 := Lib.hid (hm6.congr (g := fS (seenW M (l.take (k + 1)))) (fun x _ => by rw [HNX.out]; exact fS_set _ _ _ _) rfl)
            have B6 := Lib.hid (below_of_grown EB2.out hg6 (by have := EM2.out.lt; omega) (fun j hj => by injection hj with hj; omega))
            clear hm6 hg6 EM2 EB2
            go_wp2_with fail
            go_roundg (gk - 1)
            case measure => have := HGK.out; omega
            case rel =>
              refine ⟨k + 1, _, by have := HGK.out; omega, by go_num, ?_, ?_, M6.out, B6.out⟩
              · have e1 := HA2.out; have e2 := HBE.out
                rw [← e1, ← e2]
                go_num
              · have := HN.out; split <;> omega
      · rw [hsn] at hlk1
        replace hlk1 : (Instr.lookup 131 (.map (some mb)) (.string ky) true).run Tryz.prog W3 = .ok (.tuple #[.int .i64 (U : Nat), .bool true]) W3 := hlk1
        clear hsn HUN
        go_upto_region 7 with fail
        have c0' : W3.drew.cell? ⟨p, 0, none⟩ = some (.string ky) := c0
        have c1' : W3.drew.cell? ⟨p, 1, none⟩ = some (.string vl) := c1
        have c2' : W3.drew.cell? ⟨p, 2, none⟩ = some (.bool gn) := c2
        have q1' : W3.drew.cell? ⟨q, 1, none⟩ = some (.map (some b)) := q1
        have hlk2' := (ES.out.same (w' := W3.drew) rfl).look_ok str_key6 (t := 74) Tryz.underlying74 (zstr6 _) (kof ky (by have := HZ1.out; omega))
        rw [fS_key] at hlk2'
        have EM2 := Lib.hid (EM.out.same (w' := W3.drew) rfl)
        have EB2 := Lib.hid EB.out.drew
        clear c0 c1 c2 q1 hlk1 EM EB ES
        refine wp_region_mix (fun w9 => w9 = W3.drew) [(0,true),(1,true),(2,true),(3,true),(4,true),(5,true),(6,true),(7,true),(8,true),(9,true),(10,true),(11,true)] (by kernel_rfl) (by kernel_rfl) rfl ?_
        generalize W3.drew = W4 at c0' c1' c2' q1' hlk2' EM2 EB2 ⊢
        simp only [List.filterMap_cons, List.filterMap_nil, List.getElem?_cons_zero, List.getElem?_cons_succ, Option.map_some]
        repeat (refine mix_read (by rfl) ?_; apply Exists.intro; refine ⟨fun w9 hw9 => ?_, ?_⟩; (· subst hw9; go_simp; rfl); simp only [Act.put, List.setIfInBounds_toArray, List.set_cons_succ, List.set_cons_zero])
        refine mix_nil (NoPanic.normal ?_)
        try simp only [Act.put, List.setIfInBounds_toArray, List.set_cons_succ, List.set_cons_zero]
        have hHB := HBND.out
        have hHD := HDU.out
        by_cases hgn : gn = true
        · subst hgn
          obtain rfl : D = 0 := HD.out
          go_wp2_with (at_mapUpdate; refine wpList_mapUpdate_L6 rfl _ _ _ rfl EM2.out str_key6 Tryz.underlying131 (by have := HN.out; unfold maxLen; omega) (kof ky (by have := HZ1.out; omega)) rfl rfl rfl ?_; intro w6 hm6 hg6)
          have M6 := Lib.hid (hm6.congr (g := fS (seenW M (l.take (k + 1)))) (fun x _ => by rw [HNX.out]; exact fS_set _ _ _ _) rfl)
          have B6 := Lib.hid (below_of_grown EB2.out hg6 (by have := EM2.out.lt; omega) (fun j hj => by injection hj with hj; omega))
          clear hm6 hg6 EM2 EB2
          go_wp2_with fail
          go_roundg (gk - 1)
          case measure => have := HGK.out; omega
          case rel =>
            refine ⟨k + 1, _, by have := HGK.out; omega, by go_num, ?_, ?_, M6.out, B6.out⟩
            · have e1 := HA2.out; have e2 := HBE.out
              rw [← e1, ← e2]
              go_num
            · have := HN.out; split <;> omega
        · obtain rfl : gn = false := by simpa using hgn
          have hD := HD.out
          rw [if_neg (by simp)] at hD
          have hZ1 := HZ1.out
          have hZ2 := HZ2.out
          clear hgn
          go_wp2_with (at_mapUpdate; refine wpList_mapUpdate_L6 rfl _ _ _ rfl EM2.out str_key6 Tryz.underlying131 (by have := HN.out; unfold maxLen; omega) (kof ky (by have := HZ1.out; omega)) rfl rfl rfl ?_; intro w6 hm6 hg6)
          have M6 := Lib.hid (hm6.congr (g := fS (seenW M (l.take (k + 1)))) (fun x _ => by rw [HNX.out]; exact fS_set _ _ _ _) rfl)
          have B6 := Lib.hid (below_of_grown EB2.out hg6 (by have := EM2.out.lt; omega) (fun j hj => by injection hj with hj; omega))
          clear hm6 hg6 EM2 EB2
          go_wp2_with fail
          go_roundg (gk - 1)
          case measure => have := HGK.out; omega
          case rel =>
            refine ⟨k + 1, _, by have := HGK.out; omega, by go_num, ?_, ?_, M6.out, B6.out⟩
            · have e1 := HA2.out; have e2 := HBE.out
              rw [← e1, ← e2]
              go_num
            · have := HN.out; split <;> omega
    · have hk : k = l.length := by omega
      have hR := HR.out
      rw [List.take_of_length_le (by omega)]
      have HB9 := Lib.hid HBK.out
      rw [← hR]
      clear hR
      go_wp2_with fail
      go_ret
      exact ⟨rfl, by rw [HMB.out] at HB9; exact HB9.out⟩
end Go.Proofs.YtjjejkhekmpgcaaGreat

namespace Go.Proofs.YtjjejkhekmpgcaaGreat
set_option maxRecDepth 4000
open Go.RowKit

theorem wp_delete_L {P : Program} {k e t : TypeId} {w : World} {b n : Nat} {f : Lit → Option Value} {o : Oper} {a : Act} {K : Act → World → Prop} {Q : Exit → Act → World → Prop} (m x : Operand)
    (ho : o.op = .call { callee := .builtin .delete, args := #[m, x], argTypes := #[t, k] })
    (h : MapL P k w b f n) (KK : Go.Maps.Keyed P k) (ht : P.underlying t = some (.map k e)) {key : Value} {kl : Lit} (hkey : keyOf P k key = some kl)
    (hm : a.eval m = .map (some b)) (hx : a.eval x = key)
    (hK : ∀ w', MapL P k w' b (delF f kl) (if (f kl).isSome then n - 1 else n) → w.grownBy w' (some b) → K (a.put o.dst (.tuple #[])) w') : o.wp P a w K Q := by
  obtain ⟨w', hrun, h1, h2⟩ := h.drop KK ht hkey o.type
  unfold Oper.wp execOp
  simp only [ho, resolve, invoke, builtin, Sem.run_bind, Sem.run_pure, Result.andThen_ok, List.map_toArray, List.map_cons, List.map_nil, hm, hx, hrun]
  exact hK w' h1 h2

/-- a store's cells -/
def stv (jv : Value) (b : Nat) (by' qt : Int) (br : Bool) : Array Value := #[jv, .map (some b), .int .i64 by', .int .i64 qt, .bool br]
/-- what do leaves -/
def DoPost (q b : Nat) (jv : Value) (by2 qt : Int) (br : Bool) (M' : Kv) (w w' : World) : Prop :=
  w'.heap[q]? = some (.cells (stv jv b by2 qt br) 76 (0, 0)) ∧ MapM w' b M' ∧ Touch (fun k => k = q ∨ k = b) w w'
theorem cell_touch {F : Nat → Prop} {w w' : World} (h : Touch F w w') {a : Addr} (ha : a.block < w.heap.size) (hn : ¬ F a.block) : w'.cell? a = w.cell? a := by
  have hb := h.block a.block ha hn
  unfold World.cell?
  rw [hb]

set_option maxHeartbeats 8000000 in
theorem sdo_walk (q b : Nat) (jv : Value) (by' qt : Int) (br : Bool) (M : Kv) (ad : Option Addr) (cap : Nat) (l : List Chg) (w : World) (hq : w.heap[q]? = some (.cells (stv jv b by' qt br) 76 (0, 0)))
    (hM : MapM w b M) (hr : risK M) (hl : chgsAt w ad l) (hs : l.length ≤ 1000000) (hz : ∀ c ∈ l, c.key.size ≤ 1000000000 ∧ c.val.size ≤ 1000000000) (hb : bytesM M + sumC l ≤ 1000000000000000)
    (hlen : M.length ≤ 1000000000000) (hn : l ≠ [] → ∀ a, ad = some a → a.block ≠ q ∧ a.block ≠ b) (hqb : q ≠ b) :
    Calls Tryz.prog 35 #[.pointer (some ⟨q, 0, none⟩), .slice ad l.length cap] w fun e w' => e = .returned (.tuple #[]) ∧ DoPost q b jv (IntKind.i64.wrap (by' + ((bytesM (afterM M l) : Int) - (bytesM M : Int)))) qt br (afterM M l) w w' := by
  have KW := Lib.hid (weigh_walk q b jv by' qt br M ad cap l w.drew hq (hM.same rfl) hr (by exact hl) hs hz hb)
  obtain ⟨by2, hby2⟩ : ∃ by2, by2 = IntKind.i64.wrap (by' + ((bytesM (afterM M l) : Int) - (bytesM M : Int))) := ⟨_, rfl⟩
  rw [← hby2]
  obtain ⟨D, hD⟩ : ∃ D, D = (bytesM (afterM M l) : Int) - (bytesM M : Int) := ⟨_, rfl⟩
  rw [← hD] at KW hby2
  have HBY := Lib.hid hby2; have HQ := Lib.hid hq; have HM := Lib.hid hM; have HRI := Lib.hid hr; have HL := Lib.hid hl; have HZ := Lib.hid hz; have HLEN := Lib.hid hlen; have HN := Lib.hid hn; have HQB := Lib.hid hqb
  have HRA := fun i => Lib.hid (ris_after hr (l.take i))
  clear hby2 hq hM hr hl hz hb hD hlen hn hqb
  go_enter Tryz.func35, Tryz.ntmps35
  go_upto_region 0 with fail
  obtain ⟨S, hS⟩ : ∃ S : World → Prop, S = fun w' => w'.heap[q]? = some (.cells (stv jv b by' qt br) 76 (0, 0)) := ⟨_, rfl⟩
  have hS0 : S w.drew := by rw [hS]; exact HQ.out
  have hc2 : ∀ w9, S w9 → w9.cell? ⟨q, 2, none⟩ = some (.int .i64 by') := fun w9 h => by rw [hS] at h; rw [cell_of_row w9 q 2 _ _ _ h]; rfl
  have HSB : ∀ w9 w', S w9 → Below w9.heap.size w9 w' → S w' := fun w9 w' h hb => by rw [hS] at h ⊢; exact (hb.block q (lt_of_block h)).trans h
  have HSQ : ∀ w9, S w9 → w9.heap[q]? = some (.cells (stv jv b by' qt br) 76 (0, 0)) := fun w9 h => by rw [hS] at h; exact h
  have KSB := Lib.hid HSB; have KSQ := Lib.hid HSQ
  clear hS HSB HSQ
  refine wp_region_mixT S 10 [(0,true,true),(1,true,true),(2,true,true),(3,true,true),(4,true,true),(5,true,true),(6,false,true),(7,false,true),(8,false,true),(9,false,true),(10,false,false)] (by kernel_rfl) (by kernel_rfl) hS0 ?_
  have hT0 : Touch (fun k => k = q ∨ k = b) w w.drew := (Touch.refl _ _).drew
  have hM0 : MapM w.drew b M := HM.out.same rfl
  have hsz : w.drew.heap.size = w.heap.size := rfl
  generalize w.drew = w0 at hS0 hT0 hM0 KW hsz ⊢
  simp only [List.filterMap_cons, List.filterMap_nil, List.getElem?_cons_zero, List.getElem?_cons_succ, Option.map_some]
  repeat (refine mixT_read (by rfl) ?_; apply Exists.intro; refine ⟨fun w9 hw9 => ?_, ?_⟩; (· have d1 := hc2 w9 hw9; go_simp; rfl); simp only [Act.put, List.setIfInBounds_toArray, List.set_cons_succ, List.set_cons_zero])
  refine mixT_step (by rfl) (fun K' hK => ?_)
  go_simp
  go_at_call 58
  refine KW.out.mono ?_
  rintro e w1 ⟨rfl, hb1⟩
  have hS1 := KSB.out _ _ hS0 hb1
  refine hK _ _ hS1 ?_
  clear hK K'
  try simp only [Act.put, List.setIfInBounds_toArray, List.set_cons_succ, List.set_cons_zero]
  have hM1 : MapM w1 b M := hM0.same (hb1.block b hM0.lt)
  have hT1 := hT0.trans (Touch.ofBelow _ hb1)
  clear hM0 hT0 hb1 hS0 hsz KW
  refine mixT_step (by rfl) (fun K' hK => ?_)
  go_simp
  rw [← HBY.out]
  refine hK _ _ hS1 ?_
  clear hK K'
  try simp only [Act.put, List.setIfInBounds_toArray, List.set_cons_succ, List.set_cons_zero]
  refine mixT_step (by rfl) (fun K' hK => ?_)
  go_simp
  refine hK _ _ hS1 ?_
  clear hK K'
  try simp only [Act.put, List.setIfInBounds_toArray, List.set_cons_succ, List.set_cons_zero]
  refine mixT_step (by rfl) (fun K' hK => ?_)
  go_simp
  refine hK _ _ hS1 ?_
  clear hK K'
  try simp only [Act.put, List.setIfInBounds_toArray, List.set_cons_succ, List.set_cons_zero]
  have hq1 := KSQ.out _ hS1
  have c2 := hc2 _ hS1
  have f2 := free_at hq1 2
  have HQ1 := Lib.hid hq1; have HM1 := Lib.hid hM1; have HT1 := Lib.hid hT1
  clear hq1 hM1 hT1 hc2 hS1
  refine mixT_tail (by rfl) (fun K' hK => ?_)
  go_simp
  refine hK _ _ ?_
  clear hK K'
  try simp only [Act.put, List.setIfInBounds_toArray, List.set_cons_succ, List.set_cons_zero]
  refine mixT_nil (NoPanic.normal ?_)
  have hq2 : (w1.setCell ⟨q, 2, none⟩ (.int .i64 by2)).heap[q]? = some (.cells (stv jv b by2 qt br) 76 (0, 0)) := set_at (i := 2) HQ1.out (.int .i64 by2)
  have hM2 : MapM (w1.setCell ⟨q, 2, none⟩ (.int .i64 by2)) b M := HM1.out.same ((grownBy_setCell w1 q 2 _).block b HM1.out.lt (fun e => HQB.out (Option.some.inj e).symm))
  have hT2 := HT1.out.setCell (b := q) (off := 2) (.inl rfl) (.int .i64 by2)
  generalize w1.setCell ⟨q, 2, none⟩ (.int .i64 by2) = w2 at hq2 hM2 hT2 ⊢
  have G2 := Lib.hid hq2; have M2 := Lib.hid hM2; have T2 := Lib.hid hT2
  clear c2 f2 hq2 hM2 hT2 KSB KSQ S HQ1 HM1 HT1
  go_wp2_with fail
  go_loopg [18] l.length (fun gk i wr => ∃ k : Nat, k + gk = l.length ∧ i = .int .i64 k ∧ wr.heap[q]? = some (.cells (stv jv b by2 qt br) 76 (0, 0)) ∧ MapM wr b (afterM M (l.take k)) ∧ Touch (fun k => k = q ∨ k = b) w wr)
  case atStart => exact ⟨0, by omega, rfl, G2.out, M2.out, T2.out⟩
  case round =>
    obtain ⟨k, hgk, rfl, hqr, hmr, htr⟩ := hrel
    have HQR := Lib.hid hqr; have HMR := Lib.hid hmr; have HTR := Lib.hid htr
    clear hqr hmr htr
    by_cases hlt : k < l.length
    · have hat := chgsAt_touch HL.out HTR.out (fun h0 a ha h => h.elim (HN.out h0 a ha).1 (HN.out h0 a ha).2)
      rcases hat with hat | ⟨a, off, rfl, hbl, hcs⟩
      · simp [hat] at hlt
      have hcc := hcs k hlt
      have hzk := HZ.out l[k] (List.getElem_mem hlt)
      have hnx := after_take (M := M) hlt
      have hln := len_after HRI.out (l.take k)
      rw [List.length_take, Nat.min_eq_left (by omega)] at hln
      have hln2 : (afterM M (l.take k)).length ≤ 2000000000000 := by have := HLEN.out; omega
      obtain ⟨x, hx⟩ : ∃ x, x = l[k] := ⟨_, rfl⟩
      rw [← hx] at hcc hzk hnx
      obtain ⟨ky, vl, gn⟩ := x
      replace hzk : ky.size ≤ 1000000000 ∧ vl.size ≤ 1000000000 := hzk
      have hz1 := hzk.1; have hz2 := hzk.2
      have HCC := Lib.hid hcc; have HNX := Lib.hid hnx; have HZ1 := Lib.hid hz1; have HZ2 := Lib.hid hz2; have HGK := Lib.hid hgk; have HLN := Lib.hid hln2
      clear hcs hx hcc hzk hnx hz1 hz2 hgk hln hln2
      go_upto_region 4 with (refine wpList_cells 42 _ rfl a (off + k * 3) rfl rfl [.string ky, .string vl, .bool gn] _ HCC.out Tryz.underlying42 rfl (by kernel_rfl) ?_)
      have e2 := heap_alloc_top wr (.cells #[.string ky, .string vl, .bool gn] 42)
      have eM : MapM (wr.alloc (.cells #[.string ky, .string vl, .bool gn] 42)) b (afterM M (l.take k)) := HMR.out.same (heap_alloc_lt wr _ b HMR.out.lt)
      have eG := (heap_alloc_lt wr (.cells #[.string ky, .string vl, .bool gn] 42) q (lt_of_block HQR.out)).trans HQR.out
      have eT := HTR.out.alloc (.cells #[.string ky, .string vl, .bool gn] 42)
      obtain ⟨p, hp⟩ : ∃ p, p = wr.heap.size := ⟨_, rfl⟩
      rw [← hp] at e2 ⊢
      generalize wr.alloc (.cells #[.string ky, .string vl, .bool gn] 42) = W3 at e2 eM eG eT ⊢
      have c0 := cell_at (j := 0) (v := .string ky) e2 rfl
      have c1 := cell_at (j := 1) (v := .string vl) e2 rfl
      have c2 := cell_at (j := 2) (v := .bool gn) e2 rfl
      have q1 : W3.cell? ⟨q, 1, none⟩ = some (.map (some b)) := cell_at (j := 1) eG rfl
      have EM := Lib.hid eM; have EG := Lib.hid eG; have ET := Lib.hid eT
      clear e2 eM eG eT hp hbl HCC HQR HMR HTR
      cases gn with
      | true =>
        go_upto_region 5 with fail
        have c0' : W3.drew.cell? ⟨p, 0, none⟩ = some (.string ky) := c0
        have c1' : W3.drew.cell? ⟨p, 1, none⟩ = some (.string vl) := c1
        have q1' : W3.drew.cell? ⟨q, 1, none⟩ = some (.map (some b)) := q1
        have eM2 : MapM W3.drew b (afterM M (l.take k)) := EM.out.same rfl
        have eG2 : W3.drew.heap[q]? = some (.cells (stv jv b by2 qt br) 76 (0, 0)) := EG.out
        have eT2 : Touch (fun k => k = q ∨ k = b) w W3.drew := ET.out.drew
        clear c0 c1 c2 q1 EM EG ET
        refine wp_region_mixT (fun w9 => w9 = W3.drew) 6 [(0,true,true),(1,true,true),(2,true,true),(3,true,true),(4,true,true),(5,true,true),(6,false,false)] (by kernel_rfl) (by kernel_rfl) rfl ?_
        generalize W3.drew = W4 at c0' c1' q1' eM2 eG2 eT2 ⊢
        simp only [List.filterMap_cons, List.filterMap_nil, List.getElem?_cons_zero, List.getElem?_cons_succ, Option.map_some]
        repeat (refine mixT_read (by rfl) ?_; apply Exists.intro; refine ⟨fun w9 hw9 => ?_, ?_⟩; (· subst hw9; go_simp; rfl); simp only [Act.put, List.setIfInBounds_toArray, List.set_cons_succ, List.set_cons_zero])
        refine mixT_tail (by rfl) (fun K' hK => ?_)
        refine wp_delete_L _ _ rfl eM2 str_key6 Tryz.underlying74 (kof ky (by have := HZ1.out; omega)) rfl rfl ?_
        intro w6 hm6 hg6
        refine hK _ _ ?_
        clear hK K'
        try simp only [Act.put, List.setIfInBounds_toArray, List.set_cons_succ, List.set_cons_zero]
        refine mixT_nil (NoPanic.normal ?_)
        have M6 := Lib.hid (show MapM w6 b (afterM M (l.take (k + 1))) by rw [HNX.out]; exact MapM.del hm6 (HRA k).out rfl)
        have G6 := Lib.hid ((hg6.block q (lt_of_block eG2) (fun e => HQB.out (Option.some.inj e))).trans eG2)
        have T6 := Lib.hid (eT2.trans (Touch.ofGrown (F := fun k => k = q ∨ k = b) hg6 (fun j e => .inr (Option.some.inj e).symm)))
        clear hm6 hg6 eM2 eG2 eT2 c0' c1' q1'
        go_wp2_with fail
        go_roundg (gk - 1)
        case measure => have := HGK.out; omega
        case rel => exact ⟨k + 1, by have := HGK.out; omega, by go_num, G6.out, M6.out, T6.out⟩
      | false =>
        go_upto_region 6 with fail
        have c0' : W3.drew.cell? ⟨p, 0, none⟩ = some (.string ky) := c0
        have c1' : W3.drew.cell? ⟨p, 1, none⟩ = some (.string vl) := c1
        have q1' : W3.drew.cell? ⟨q, 1, none⟩ = some (.map (some b)) := q1
        have eM2 : MapM W3.drew b (afterM M (l.take k)) := EM.out.same rfl
        have eG2 : W3.drew.heap[q]? = some (.cells (stv jv b by2 qt br) 76 (0, 0)) := EG.out
        have eT2 : Touch (fun k => k = q ∨ k = b) w W3.drew := ET.out.drew
        clear c0 c1 c2 q1 EM EG ET
        refine wp_region_mixT (fun w9 => w9 = W3.drew) 8 [(0,true,true),(1,true,true),(2,true,true),(3,true,true),(4,true,true),(5,true,true),(6,true,true),(7,true,true),(8,false,false)] (by kernel_rfl) (by kernel_rfl) rfl ?_
        generalize W3.drew = W4 at c0' c1' q1' eM2 eG2 eT2 ⊢
        simp only [List.filterMap_cons, List.filterMap_nil, List.getElem?_cons_zero, List.getElem?_cons_succ, Option.map_some]
        repeat (refine mixT_read (by rfl) ?_; apply Exists.intro; refine ⟨fun w9 hw9 => ?_, ?_⟩; (· subst hw9; go_simp; rfl); simp only [Act.put, List.setIfInBounds_toArray, List.set_cons_succ, List.set_cons_zero])
        refine mixT_tail (by rfl) (fun K' hK => ?_)
        refine wp_mapUpdate_L _ _ _ rfl eM2 str_key6 Tryz.underlying74 (by have := HLN.out; unfold maxLen; omega) (kof ky (by have := HZ1.out; omega)) rfl rfl rfl ?_
        intro w6 hm6 hg6
        refine hK _ _ ?_
        clear hK K'
        try simp only [Act.put, List.setIfInBounds_toArray, List.set_cons_succ, List.set_cons_zero]
        refine mixT_nil (NoPanic.normal ?_)
        have M6 := Lib.hid (show MapM w6 b (afterM M (l.take (k + 1))) by rw [HNX.out]; exact MapM.put hm6 (HRA k).out rfl)
        have G6 := Lib.hid ((hg6.block q (lt_of_block eG2) (fun e => HQB.out (Option.some.inj e))).trans eG2)
        have T6 := Lib.hid (eT2.trans (Touch.ofGrown (F := fun k => k = q ∨ k = b) hg6 (fun j e => .inr (Option.some.inj e).symm)))
        clear hm6 hg6 eM2 eG2 eT2 c0' c1' q1'
        go_wp2_with fail
        go_roundg (gk - 1)
        case measure => have := HGK.out; omega
        case rel => exact ⟨k + 1, by have := HGK.out; omega, by go_num, G6.out, M6.out, T6.out⟩
    · have hk : k = l.length := by omega
      rw [List.take_of_length_le (by omega)] at HMR
      go_wp2_with fail
      refine bodyPost_end (results_none rfl _ _ _) rfl ⟨rfl, HQR.out, HMR.out, HTR.out⟩
end Go.Proofs.YtjjejkhekmpgcaaGreat
