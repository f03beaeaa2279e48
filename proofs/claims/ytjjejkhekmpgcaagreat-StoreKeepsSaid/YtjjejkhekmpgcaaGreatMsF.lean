/-
  Layer 6: whether changes may be done.
  Layer 6: a store; what is told of it.
  Layer 6: a transaction is done.
-/
import Derived.Test.YtjjejkhekmpgcaaGreatMsE
import Derived.Test.YtjjejkhekmpgcaaGreatMsA
namespace Go.Proofs.YtjjejkhekmpgcaaGreat
set_option maxRecDepth 4000
open Go.RowKit

/-- what Check answers -/
def checkS (M : Kv) (l : List Chg) (qt : Int) (br : Bool) : Int :=
  if br = true then 12 else if l.length = 0 ∨ 1024 < l.length then 2 else if l.any (fun c => !mayC c) = true then 2
  else if bytesM M < bytesM (afterM M l) ∧ qt < (bytesM (afterM M l) : Int) then 11 else 0
theorem scheck_nil (v : Value) (w : World) : Calls Tryz.prog 25 #[.pointer none, v] w fun e w' => e = .returned (.int .i64 1) ∧ w' = w := by
  go_enter Tryz.func25, Tryz.ntmps25
  go_wp2_with fail
  go_ret
  exact ⟨rfl, rfl⟩
theorem mayC_sizes {c : Chg} (h : mayC c = true) : 1 ≤ c.key.size ∧ c.key.size ≤ 32 ∧ c.val.size ≤ 4096 ∧ (c.gone = true → c.val.size = 0) := by
  unfold mayC at h
  simp only [Bool.and_eq_true, decide_eq_true_eq, Bool.or_eq_true, Bool.not_eq_true'] at h
  obtain ⟨⟨⟨h1, h2⟩, h3⟩, h4⟩ := h
  exact ⟨h1, h2, h3, fun hg => h4.elim (fun h => by rw [hg] at h; cases h) id⟩

theorem sum_may {l : List Chg} (h : ∀ c ∈ l, mayC c = true) : sumC l ≤ 4128 * l.length := by
  induction l with
  | nil => exact Nat.le_refl _
  | cons c l ih =>
    have h1 := mayC_sizes (h c List.mem_cons_self)
    have h2 := ih (fun d hd => h d (List.mem_cons_of_mem _ hd))
    rw [sumC_cons, List.length_cons]; omega
set_option maxHeartbeats 8000000 in
theorem scheck_walk (q b : Nat) (jv : Value) (qt : Int) (br : Bool) (M : Kv) (ad : Option Addr) (cap : Nat) (l : List Chg) (w : World) (hq : w.heap[q]? = some (.cells (stv jv b (bytesM M) qt br) 76 (0, 0)))
    (hM : MapM w b M) (hr : risK M) (hl : chgsAt w ad l) (hs : l.length ≤ 9223372036854775807) (hz : ∀ c ∈ l, c.key.size ≤ 9223372036854775807 ∧ c.val.size ≤ 9223372036854775807) (hb : bytesM M ≤ 100000000000000) :
    Calls Tryz.prog 25 #[.pointer (some ⟨q, 0, none⟩), .slice ad l.length cap] w fun e w' => e = .returned (.int .i64 (checkS M l qt br)) ∧ Below w.heap.size w w' := by
  obtain ⟨R, hR⟩ : ∃ R, R = checkS M l qt br := ⟨_, rfl⟩
  rw [← hR]
  unfold checkS at hR
  have c4 : w.cell? ⟨q, 4, none⟩ = some (.bool br) := cell_at (j := 4) hq rfl
  have HQ := Lib.hid hq; have HM := Lib.hid hM; have HRI := Lib.hid hr; have HL := Lib.hid hl; have HS := Lib.hid hs; have HZ := Lib.hid hz; have HB := Lib.hid hb; have HR := Lib.hid hR
  clear hq hM hr hl hz hb hR
  by_cases hbr : br = true
  · obtain rfl : R = 12 := by rw [HR.out, if_pos hbr]
    subst hbr
    clear HR
    go_enter Tryz.func25, Tryz.ntmps25
    go_wp2_with fail
    go_ret
    exact ⟨rfl, Below.refl _ _⟩
  · obtain rfl : br = false := by simpa using hbr
    have hR := HR.out
    rw [if_neg (by simp)] at hR
    by_cases hln : l.length = 0 ∨ 1024 < l.length
    · obtain rfl : R = 2 := by rw [hR, if_pos hln]
      clear HR hR hbr
      obtain ⟨n, hn⟩ : ∃ n, n = l.length := ⟨_, rfl⟩
      rw [← hn] at hln ⊢
      rcases hln with hln | hln
      · rw [hln]
        clear hn hln
        go_enter Tryz.func25, Tryz.ntmps25
        go_wp2_with fail
        go_ret
        exact ⟨rfl, Below.refl _ _⟩
      · have h0 : ((n : Int) == 0) = false := by simp; omega
        have h1 : (1024 : Int) < (n : Int) := by omega
        clear hn hln
        go_enter Tryz.func25, Tryz.ntmps25
        go_wp2_with fail
        go_ret
        exact ⟨rfl, Below.refl _ _⟩
    · rw [if_neg hln] at hR
      have h0 : ((l.length : Int) == 0) = false := by rw [beq_eq_false_iff_ne]; omega
      have h1 : ¬ (1024 : Int) < (l.length : Int) := by omega
      have hlen : l.length ≤ 1024 := by omega
      have HLEN := Lib.hid hlen
      replace HR := Lib.hid hR
      clear hln hR hbr hlen hs
      go_enter Tryz.func25, Tryz.ntmps25
      go_wp2_with fail
      clear h0 h1 c4
      go_loopg [27] l.length (fun gk i wr => ∃ k : Nat, k + gk = l.length ∧ i = .int .i64 k ∧ (∀ j (h : j < l.length), j < k → mayC l[j] = true) ∧ Below w.heap.size w wr)
      case atStart => exact ⟨0, by omega, rfl, fun j _ h => absurd h (by omega), Below.refl _ _⟩
      case round =>
        obtain ⟨k, hgk, rfl, hgood, hbw⟩ := hrel
        have HGD := Lib.hid hgood; have HBB := Lib.hid hbw
        clear hgood hbw
        by_cases hlt : k < l.length
        · rcases chgsAt_below HL.out (Nat.le_refl _) HBB.out with hat | ⟨a, off, rfl, hbl, hcs⟩
          · simp [hat] at hlt
          have hcc := hcs k hlt
          have hzk := HZ.out l[k] (List.getElem_mem hlt)
          have hmem : l[k] ∈ l := List.getElem_mem hlt
          obtain ⟨x, hx⟩ : ∃ x, x = l[k] := ⟨_, rfl⟩
          rw [← hx] at hcc hzk hmem
          have hki : k + 1 ≤ 1024 := by have := HLEN.out; omega
          have HCC := Lib.hid hcc; have HZK := Lib.hid hzk; have HX := Lib.hid hx; have HMEM := Lib.hid hmem; have HGK := Lib.hid hgk
          clear hcs hx hcc hzk hmem hgk
          obtain ⟨ky, vl, gn⟩ := x
          go_upto_region 10 with (refine wpList_cells 42 _ rfl a (off + k * 3) rfl rfl [.string ky, .string vl, .bool gn] _ HCC.out Tryz.underlying42 rfl (by kernel_rfl) ?_)
          have e2 := heap_alloc_top wr (.cells #[.string ky, .string vl, .bool gn] 42)
          have eB := HBB.out.alloc HBB.out.size (.cells #[.string ky, .string vl, .bool gn] 42)
          obtain ⟨p, hp⟩ : ∃ p, p = wr.heap.size := ⟨_, rfl⟩
          rw [← hp] at e2 ⊢
          generalize wr.alloc (.cells #[.string ky, .string vl, .bool gn] 42) = W3 at e2 eB ⊢
          have K2 := Lib.hid e2; have KB := Lib.hid eB
          clear e2 eB hp HCC hbl
          go_wp2_with (refine wpList_row 42 _ rfl p rfl rfl 42 #[.string ky, .string vl, .bool gn] (0, 0) _ K2.out Tryz.underlying42 rfl (by kernel_rfl) ?_)
          refine (cmay_walk ⟨ky, vl, gn⟩ _ HZK.out.1 HZK.out.2).mono ?_
          rintro e w4 ⟨rfl, hb4⟩
          have M3 := Lib.hid (KB.out.trans (hb4.mono KB.out.size))
          clear hb4 KB K2
          by_cases hm : mayC ⟨ky, vl, gn⟩ = true
          · rw [hm]
            have HMM := Lib.hid hm
            clear hm
            go_wp2_with fail
            go_roundg (gk - 1)
            case measure => have := HGK.out; omega
            case rel =>
              refine ⟨k + 1, by have := HGK.out; omega, by go_num, fun j h hj => ?_, M3.out⟩
              by_cases hjk : j < k
              · exact HGD.out j h hjk
              · obtain rfl : j = k := by omega
                rw [← HX.out]; exact HMM.out
          · have hm2 : mayC ⟨ky, vl, gn⟩ = false := by simpa using hm
            obtain rfl : R = 2 := by rw [HR.out, if_pos (List.any_eq_true.2 ⟨_, HMEM.out, by rw [hm2]; rfl⟩)]
            rw [hm2]
            clear hm hm2 HR
            go_wp2_with fail
            go_ret
            exact ⟨rfl, M3.out⟩
        · have hall : l.any (fun c => !mayC c) = false := by
            rw [List.any_eq_false]
            intro c hc
            obtain ⟨j, hj, rfl⟩ := List.mem_iff_getElem.1 hc
            rw [HGD.out j hj (by omega)]
            simp
          have hR := HR.out
          rw [if_neg (by rw [hall]; simp)] at hR
          have hmay : ∀ c ∈ l, mayC c = true := fun c hc => by
            obtain ⟨j, hj, rfl⟩ := List.mem_iff_getElem.1 hc
            exact HGD.out j hj (by omega)
          have hsum := sum_may hmay
          have hqw := (HBB.out.block q (lt_of_block HQ.out)).trans HQ.out
          have KW := Lib.hid (weigh_walk q b jv _ qt false M ad cap l wr hqw (HM.out.same (HBB.out.block b HM.out.lt)) HRI.out (chgsAt_below HL.out (Nat.le_refl _) HBB.out) (by have := HLEN.out; omega) (fun c hc => by have := mayC_sizes (hmay c hc); omega) (by have := HLEN.out; have := HB.out; omega))
          have hba := bytes_after HRI.out l
          have hA2 : bytesM (afterM M l) ≤ 1000000000000000 := by have := HLEN.out; have := HB.out; omega
          obtain ⟨A2, hA⟩ : ∃ A2, A2 = bytesM (afterM M l) := ⟨_, rfl⟩
          obtain ⟨A, hAA⟩ : ∃ A, A = bytesM M := ⟨_, rfl⟩
          rw [← hA, ← hAA] at KW hR
          rw [← hA] at hA2
          rw [← hAA] at hqw
          have hA3 : A ≤ 100000000000000 := by rw [hAA]; exact HB.out
          replace HR := Lib.hid hR; have HQW := Lib.hid hqw
          clear hR hall hmay hsum hqw hba hA hAA HGD
          go_wp2_with fail
          refine KW.out.mono ?_
          rintro e w5 ⟨rfl, hb5⟩
          have hq5 := (hb5.block q (lt_of_block HQW.out)).trans HQW.out
          have B5 := Lib.hid (HBB.out.trans (hb5.mono HBB.out.size))
          have d2 : w5.drew.cell? ⟨q, 2, none⟩ = some (.int .i64 (A : Nat)) := cell_at (w := w5) (j := 2) hq5 rfl
          have d3 : w5.drew.cell? ⟨q, 3, none⟩ = some (.int .i64 qt) := cell_at (w := w5) (j := 3) hq5 rfl
          have hw1 : IntKind.i64.wrap ((A : Int) + ((A2 : Int) - (A : Int))) = (A2 : Int) := by rw [show (A : Int) + ((A2 : Int) - (A : Int)) = (A2 : Int) by omega]; exact IntWalk.i64_in _ (by omega)
          have hA2i : (A2 : Int) ≤ 1000000000000000 := by omega
          have hAi : (A : Int) ≤ 1000000000000000 := by omega
          clear hb5 hq5 KW hA2 hA3
          go_upto_region 14 with fail
          refine wp_region_mix (fun w9 => w9 = w5.drew) [(0,true),(1,true),(2,true),(3,true),(4,true),(5,true),(6,true),(7,true),(8,true),(9,true),(10,true),(11,true),(12,true),(13,true),(14,true)] (by kernel_rfl) (by kernel_rfl) rfl ?_
          have B6 := Lib.hid B5.out.drew
          generalize w5.drew = w6 at d2 d3 B6 ⊢
          simp only [List.filterMap_cons, List.filterMap_nil, List.getElem?_cons_zero, List.getElem?_cons_succ, Option.map_some]
          obtain ⟨Dd, hDd⟩ : ∃ Dd, Dd = (A2 : Int) - (A : Int) := ⟨_, rfl⟩
          have HDD := Lib.hid hDd
          rw [← hDd] at hw1 ⊢
          clear hDd
          by_cases hp : (0 : Int) < Dd
          · by_cases hqq : qt < (A2 : Int)
            · obtain rfl : R = 11 := by rw [HR.out, if_pos ⟨by have := HDD.out; omega, hqq⟩]
              repeat (refine mix_read (by rfl) ?_; apply Exists.intro; refine ⟨fun w9 hw9 => ?_, ?_⟩; (· subst hw9; go_simp; rfl); simp only [Act.put, List.setIfInBounds_toArray, List.set_cons_succ, List.set_cons_zero])
              refine mix_nil (NoPanic.normal ?_)
              try simp only [Act.put, List.setIfInBounds_toArray, List.set_cons_succ, List.set_cons_zero]
              clear HR
              go_wp2_with fail
              go_ret
              exact ⟨rfl, B6.out⟩
            · obtain rfl : R = 0 := by rw [HR.out, if_neg (fun h => hqq h.2)]
              repeat (refine mix_read (by rfl) ?_; apply Exists.intro; refine ⟨fun w9 hw9 => ?_, ?_⟩; (· subst hw9; go_simp; rfl); simp only [Act.put, List.setIfInBounds_toArray, List.set_cons_succ, List.set_cons_zero])
              refine mix_nil (NoPanic.normal ?_)
              try simp only [Act.put, List.setIfInBounds_toArray, List.set_cons_succ, List.set_cons_zero]
              clear HR
              go_wp2_with fail
              go_ret
              exact ⟨rfl, B6.out⟩
          · obtain rfl : R = 0 := by rw [HR.out, if_neg (fun h => hp (by have := HDD.out; omega))]
            iterate 3 (refine mix_read (by rfl) ?_; apply Exists.intro; refine ⟨fun w9 hw9 => ?_, ?_⟩; (· subst hw9; go_simp; rfl); simp only [Act.put, List.setIfInBounds_toArray, List.set_cons_succ, List.set_cons_zero])
            iterate 11 ((with_reducible refine mix_skip ?_ ?_); (· rfl); simp only [Act.put, List.setIfInBounds_toArray, List.set_cons_succ, List.set_cons_zero])
            (refine mix_read (by rfl) ?_; apply Exists.intro; refine ⟨fun w9 hw9 => ?_, ?_⟩; (· subst hw9; go_simp; rfl); simp only [Act.put, List.setIfInBounds_toArray, List.set_cons_succ, List.set_cons_zero])
            refine mix_nil (NoPanic.normal ?_)
            try simp only [Act.put, List.setIfInBounds_toArray, List.set_cons_succ, List.set_cons_zero]
            clear HR
            go_wp2_with fail
            go_ret
            exact ⟨rfl, B6.out⟩
end Go.Proofs.YtjjejkhekmpgcaaGreat

namespace Go.Proofs.YtjjejkhekmpgcaaGreat
set_option maxRecDepth 4000
open Go.RowKit

/-- a store at q, of a journal at jq on a disk at p, with its map at b -/
structure StoAt (w : World) (q jq b p : Nat) (F : Nat → Prop) (st : Dk) (j : Jn) (M : Kv) (qt : Int) (br : Bool) : Prop where
  disk : Disk w p F st
  jn : JnAt w jq p j
  cells : w.heap[q]? = some (.cells (stv (.pointer (some ⟨jq, 0, none⟩)) b (bytesM M) qt br) 76 (0, 0))
  map : MapM w b M
  nj : ¬ F jq
  nq : ¬ F q
  nb : ¬ F b
  njq : jq ≠ q
  njb : jq ≠ b
  nqb : q ≠ b
/-- values as they ought to be -/
structure KvOk (M : Kv) : Prop where
  ris : risK M
  may : ∀ p ∈ M, mayC ⟨p.1, p.2, false⟩ = true
/-- what belongs to a store -/
def stoF (q jq b : Nat) (F : Nat → Prop) (k : Nat) : Prop := F k ∨ k = q ∨ k = jq ∨ k = b
section
variable {w : World} {q jq b p : Nat} {F : Nat → Prop} {st : Dk} {j : Jn} {M : Kv} {qt : Int} {br : Bool}
theorem StoAt.below {w' : World} (h : StoAt w q jq b p F st j M qt br) (hb : Below w.heap.size w w') : StoAt w' q jq b p F st j M qt br :=
  ⟨h.disk.below hb, h.jn.below hb, (hb.block q (lt_of_block h.cells)).trans h.cells, MapL.same h.map (hb.block b h.map.lt), h.nj, h.nq, h.nb, h.njq, h.njb, h.nqb⟩
theorem StoAt.lt (h : StoAt w q jq b p F st j M qt br) : q < w.heap.size ∧ jq < w.heap.size ∧ b < w.heap.size := ⟨lt_of_block h.cells, lt_of_block h.jn, h.map.lt⟩
theorem StoAt.ltF (h : StoAt w q jq b p F st j M qt br) (k : Nat) (hk : stoF q jq b F k) : k < w.heap.size := by
  rcases hk with hk | rfl | rfl | rfl
  · exact h.disk.lt k hk
  · exact h.lt.1
  · exact h.lt.2.1
  · exact h.lt.2.2
/-- a call of the journal's -/
theorem StoAt.call {w' : World} {r : Int × Dk} {j' : Jn} {e : Ending} (h : StoAt w q jq b p F st j M qt br) (hp : SetPost w jq p F r j' e w') :
    ∃ F', StoAt w' q jq b p F' r.2 j' M qt br ∧ Stp (stoF q jq b F) w (stoF q jq b F') w' := by
  obtain ⟨_, F', h1, h2, h3, h4⟩ := hp
  have hq := h.lt.1
  have hbl := h.lt.2.2
  have nq' : ¬ F' q := fun hf => (h4.new q (.inl hf)).elim (fun h' => h'.elim h.nq (fun e => h.njq e.symm)) (fun h' => by omega)
  have nb' : ¬ F' b := fun hf => (h4.new b (.inl hf)).elim (fun h' => h'.elim h.nb (fun e => h.njb e.symm)) (fun h' => by omega)
  refine ⟨F', ⟨h1, h2, (h4.touch.block q hq (fun h' => h'.elim h.nq (fun e => h.njq e.symm))).trans h.cells, MapL.same h.map (h4.touch.block b hbl (fun h' => h'.elim h.nb (fun e => h.njb e.symm))), h3, nq', nb', h.njq, h.njb, h.nqb⟩, ⟨h4.touch.mono (fun k _ hk => hk.elim .inl (fun e => .inr (.inr (.inl e)))), fun k hk => ?_⟩⟩
  rcases hk with hk | hk | hk | hk
  · rcases h4.new k (.inl hk) with h' | h'
    · exact .inl (h'.elim .inl (fun e => .inr (.inr (.inl e))))
    · exact .inr h'
  · exact .inl (.inr (.inl hk))
  · exact .inl (.inr (.inr (.inl hk)))
  · exact .inl (.inr (.inr (.inr hk)))
/-- a call of the disk's -/
theorem StoAt.dcall {w' : World} {v : Value} {st' : Dk} {e : Ending} (h : StoAt w q jq b p F st j M qt br) (hp : DiskPost p F w v st' e w') :
    ∃ F', StoAt w' q jq b p F' st' j M qt br ∧ Stp (stoF q jq b F) w (stoF q jq b F') w' := by
  obtain ⟨_, F', h1, h4⟩ := hp
  have hq := h.lt.1; have hj := h.lt.2.1
  have hbl := h.lt.2.2
  have nq' : ¬ F' q := fun hf => (h4.new q hf).elim h.nq (fun h' => by omega)
  have nj' : ¬ F' jq := fun hf => (h4.new jq hf).elim h.nj (fun h' => by omega)
  have nb' : ¬ F' b := fun hf => (h4.new b hf).elim h.nb (fun h' => by omega)
  refine ⟨F', ⟨h1, h.jn.touch h4.touch h.nj, (h4.touch.block q hq h.nq).trans h.cells, MapL.same h.map (h4.touch.block b hbl h.nb), nj', nq', nb', h.njq, h.njb, h.nqb⟩, ⟨h4.touch.mono (fun k _ hk => .inl hk), fun k hk => ?_⟩⟩
  rcases hk with hk | hk
  · rcases h4.new k hk with h' | h'
    · exact .inl (.inl h')
    · exact .inr h'
  · exact .inl (.inr hk)
/-- changes are done -/
theorem StoAt.done {w' : World} {M' : Kv} (h : StoAt w q jq b p F st j M qt br) (hp : DoPost q b (.pointer (some ⟨jq, 0, none⟩)) (bytesM M') qt br M' w w') :
    StoAt w' q jq b p F st j M' qt br ∧ Stp (stoF q jq b F) w (stoF q jq b F) w' := by
  obtain ⟨h1, h2, h3⟩ := hp
  exact ⟨⟨h.disk.touch h3 (fun k hk e => e.elim (fun e => h.nq (e ▸ hk)) (fun e => h.nb (e ▸ hk))), h.jn.touch h3 (fun e => e.elim h.njq h.njb), h1, h2, h.nj, h.nq, h.nb, h.njq, h.njb, h.nqb⟩,
    ⟨h3.mono (fun k _ hk => hk.elim (fun e => .inr (.inl e)) (fun e => .inr (.inr (.inr e)))), fun k hk => .inl hk⟩⟩
/-- it is broken -/
theorem StoAt.broke (h : StoAt w q jq b p F st j M qt br) : StoAt (w.setCell ⟨q, 4, none⟩ (.bool true)) q jq b p F st j M qt true ∧ Stp (stoF q jq b F) w (stoF q jq b F) (w.setCell ⟨q, 4, none⟩ (.bool true)) := by
  have hg := grownBy_setCell w q 4 (.bool true)
  have ht : Touch (fun k => k = q) w (w.setCell ⟨q, 4, none⟩ (.bool true)) := Touch.ofGrown hg (fun k e => (Option.some.inj e).symm)
  exact ⟨⟨h.disk.touch ht (fun k hk e => h.nq (e ▸ hk)), h.jn.touch ht h.njq, set_at (i := 4) h.cells (.bool true), MapL.same h.map (ht.block b h.lt.2.2 (fun e => h.nqb e.symm)), h.nj, h.nq, h.nb, h.njq, h.njb, h.nqb⟩,
    ⟨ht.mono (fun k _ e => .inr (.inl e)), fun k hk => .inl hk⟩⟩
end

theorem broken_none (w : World) : Calls Tryz.prog 29 #[.pointer none] w fun e w' => e = .returned (.bool true) ∧ w' = w := by
  go_enter Tryz.func29, Tryz.ntmps29
  go_wp2_with fail
  go_ret
  exact ⟨rfl, rfl⟩
theorem sbroken_walk (q b : Nat) (jv : Value) (by' qt : Int) (br : Bool) (w : World) (hq : w.heap[q]? = some (.cells (stv jv b by' qt br) 76 (0, 0))) :
    Calls Tryz.prog 29 #[.pointer (some ⟨q, 0, none⟩)] w fun e w' => e = .returned (.bool br) ∧ w' = w := by
  have c4 : w.cell? ⟨q, 4, none⟩ = some (.bool br) := cell_at (j := 4) hq rfl
  clear hq
  go_enter Tryz.func29, Tryz.ntmps29
  go_wp2_with fail
  go_ret
  exact ⟨rfl, rfl⟩
theorem bytes_none (w : World) : Calls Tryz.prog 26 #[.pointer none] w fun e w' => e = .returned (.int .i64 0) ∧ w' = w := by
  go_enter Tryz.func26, Tryz.ntmps26
  go_wp2_with fail
  go_ret
  exact ⟨rfl, rfl⟩
theorem sbytes_walk (q b : Nat) (jv : Value) (by' qt : Int) (br : Bool) (w : World) (hq : w.heap[q]? = some (.cells (stv jv b by' qt br) 76 (0, 0))) :
    Calls Tryz.prog 26 #[.pointer (some ⟨q, 0, none⟩)] w fun e w' => e = .returned (.int .i64 by') ∧ w' = w := by
  have c4 : w.cell? ⟨q, 2, none⟩ = some (.int .i64 by') := cell_at (j := 2) hq rfl
  clear hq
  go_enter Tryz.func26, Tryz.ntmps26
  go_wp2_with fail
  go_ret
  exact ⟨rfl, rfl⟩
theorem quota_none (w : World) : Calls Tryz.prog 27 #[.pointer none] w fun e w' => e = .returned (.int .i64 0) ∧ w' = w := by
  go_enter Tryz.func27, Tryz.ntmps27
  go_wp2_with fail
  go_ret
  exact ⟨rfl, rfl⟩
theorem squota_walk (q b : Nat) (jv : Value) (by' qt : Int) (br : Bool) (w : World) (hq : w.heap[q]? = some (.cells (stv jv b by' qt br) 76 (0, 0))) :
    Calls Tryz.prog 27 #[.pointer (some ⟨q, 0, none⟩)] w fun e w' => e = .returned (.int .i64 qt) ∧ w' = w := by
  have c4 : w.cell? ⟨q, 3, none⟩ = some (.int .i64 qt) := cell_at (j := 3) hq rfl
  clear hq
  go_enter Tryz.func27, Tryz.ntmps27
  go_wp2_with fail
  go_ret
  exact ⟨rfl, rfl⟩
theorem len_none (w : World) : Calls Tryz.prog 28 #[.pointer none] w fun e w' => e = .returned (.int .i64 0) ∧ w' = w := by
  go_enter Tryz.func28, Tryz.ntmps28
  go_wp2_with fail
  go_ret
  exact ⟨rfl, rfl⟩
theorem slen_walk (q b : Nat) (jv : Value) (by' qt : Int) (br : Bool) (M : Kv) (w : World) (hq : w.heap[q]? = some (.cells (stv jv b by' qt br) 76 (0, 0))) (hM : MapM w b M) :
    Calls Tryz.prog 28 #[.pointer (some ⟨q, 0, none⟩)] w fun e w' => e = .returned (.int .i64 M.length) ∧ w' = w := by
  have c1 : w.cell? ⟨q, 1, none⟩ = some (.map (some b)) := cell_at (j := 1) hq rfl
  have hln := fun ty => MapL.len hM (t := 74) Tryz.underlying74 ty
  clear hq hM
  go_enter Tryz.func28, Tryz.ntmps28
  go_wp2_with fail
  go_ret
  exact ⟨rfl, rfl⟩
theorem get_none (k : ByteArray) (w : World) : Calls Tryz.prog 24 #[.pointer none, .string k] w fun e w' => e = .returned (.tuple #[.string ⟨#[]⟩, .bool false]) ∧ w' = w := by
  go_enter Tryz.func24, Tryz.ntmps24
  go_wp2_with fail
  go_ret2
  exact ⟨rfl, rfl⟩
theorem sget_walk (q b : Nat) (jv : Value) (by' qt : Int) (br : Bool) (M : Kv) (k : ByteArray) (w : World) (hq : w.heap[q]? = some (.cells (stv jv b by' qt br) 76 (0, 0))) (hM : MapM w b M) (hk : k.size ≤ 9223372036854775807) :
    Calls Tryz.prog 24 #[.pointer (some ⟨q, 0, none⟩), .string k] w fun e w' => e = .returned (.tuple #[.string ((getM M k).getD ⟨#[]⟩), .bool (getM M k).isSome]) ∧ w' = w := by
  have c1 : w.cell? ⟨q, 1, none⟩ = some (.map (some b)) := cell_at (j := 1) hq rfl
  have hlk := MapL.look_ok hM str_key6 (t := 74) Tryz.underlying74 (zstr6 _) (kof k hk)
  rw [fS_key] at hlk
  have e1 : (gM M k).getD (.string ⟨#[]⟩) = .string ((getM M k).getD ⟨#[]⟩) := by unfold gM; cases getM M k <;> rfl
  have e2 : (gM M k).isSome = (getM M k).isSome := by unfold gM; cases getM M k <;> rfl
  rw [e1, e2] at hlk
  generalize (getM M k).getD ⟨#[]⟩ = v at hlk ⊢
  generalize (getM M k).isSome = o at hlk ⊢
  clear hq hM hk e1 e2
  go_enter Tryz.func24, Tryz.ntmps24
  go_wp2_with fail
  go_ret2
  exact ⟨rfl, rfl⟩
theorem full_walk (e : Int) (w : World) : Calls Tryz.prog 42 #[.int .i64 e] w fun r w' => r = .returned (.bool (decide (e = 10) || decide (e = 4))) ∧ w' = w := by
  by_cases h1 : e = 10
  · subst h1
    go_enter Tryz.func42, Tryz.ntmps42
    go_wp2_with fail
    go_ret
    exact ⟨rfl, rfl⟩
  · by_cases h2 : e = 4
    · subst h2
      clear h1
      go_enter Tryz.func42, Tryz.ntmps42
      go_wp2_with fail
      go_ret
      exact ⟨rfl, rfl⟩
    · rw [decide_eq_false h1, decide_eq_false h2]
      have e1 : (e == 10) = false := by simpa using h1
      have e2 : (e == 4) = false := by simpa using h2
      clear h1 h2
      go_enter Tryz.func42, Tryz.ntmps42
      go_wp2_with fail
      go_ret
      exact ⟨rfl, rfl⟩
theorem sformat_nil (w : World) : Calls Tryz.prog 8 #[.pointer none] w fun e w' => e = .returned (.int .i64 1) ∧ w' = w := by
  have KF := Lib.hid (format_nil w)
  go_enter Tryz.func8, Tryz.ntmps8
  go_wp2_with fail
  refine KF.out.mono ?_
  rintro e w' ⟨rfl, rfl⟩
  go_wp2_with fail
  go_ret
  exact ⟨rfl, rfl⟩
theorem sformat_walk (p : Nat) (F : Nat → Prop) (st : Dk) (M : Nat) (w : World) (h : Disk w p F st) (h4 : 4 ≤ st.S.length) (h0 : (writeD st 0 ⟨#[]⟩).1 = 0) (hp : pendMax st.S M) (hM : M ≤ 500000000) :
    Calls Tryz.prog 8 #[.pointer (some ⟨p, 0, none⟩)] w fun e w' => DiskPost p F w (.int .i64 (formatD st).1) (formatD st).2 e w' := by
  have KF := Lib.hid (format_walk p F st M w h h4 h0 hp hM)
  clear h h4 h0 hp hM
  go_enter Tryz.func8, Tryz.ntmps8
  go_wp2_with fail
  refine KF.out.mono ?_
  rintro e w' ⟨rfl, hP⟩
  have HP := Lib.hid hP
  clear hP KF
  go_wp2_with fail
  go_ret
  exact ⟨rfl, HP.out⟩
end Go.Proofs.YtjjejkhekmpgcaaGreat

namespace Go.Proofs.YtjjejkhekmpgcaaGreat
set_option maxRecDepth 4000
open Go.RowKit

/-- what is done with the journal -/
def putJ (st : Dk) (j : Jn) (l : List Chg) : (Int × Dk) × Jn :=
  if (layC l).2 = 0 then (appendD st j [(layC l).1], appendJ st j [(layC l).1]) else (((layC l).2, st), j)
def doJ (st : Dk) (j : Jn) (l : List Chg) (all : List ByteArray) : (Int × Dk) × Jn :=
  if (putJ st j l).1.1 = 10 ∨ (putJ st j l).1.1 = 4 then (rewriteD st j all, rewriteJ st j all) else putJ st j l
/-- what Do answers, and leaves -/
def doS (st : Dk) (j : Jn) (M : Kv) (qt : Int) (br : Bool) (l : List Chg) : Int × Dk × Jn × Kv × Bool :=
  if checkS M l qt br ≠ 0 then (checkS M l qt br, st, j, M, br)
  else if min (roomR st.S.length j + (j.used : Int)) 65536 < (sizeR (recsM (afterM M l)) : Int) then (10, st, j, M, br)
  else if (doJ st j l (recsM (afterM M l))).1.1 ≠ 0 then ((doJ st j l (recsM (afterM M l))).1.1, (doJ st j l (recsM (afterM M l))).1.2, (doJ st j l (recsM (afterM M l))).2, M, true)
  else (0, (doJ st j l (recsM (afterM M l))).1.2, (doJ st j l (recsM (afterM M l))).2, afterM M l, br)
def DoRes (w : World) (q jq b p : Nat) (F : Nat → Prop) (qt : Int) (R : Int × Dk × Jn × Kv × Bool) (e : Ending) (w' : World) : Prop :=
  e = .returned (.int .i64 R.1) ∧ ∃ F', StoAt w' q jq b p F' R.2.1 R.2.2.1 R.2.2.2.1 qt R.2.2.2.2 ∧ Stp (stoF q jq b F) w (stoF q jq b F') w'

theorem checkS_zero {M : Kv} {l : List Chg} {qt : Int} {br : Bool} (h : checkS M l qt br = 0) : br = false ∧ 1 ≤ l.length ∧ l.length ≤ 1024 ∧ ∀ c ∈ l, mayC c = true := by
  unfold checkS at h
  split at h
  · cases h
  · rename_i hb
    split at h
    · cases h
    · rename_i hl
      split at h
      · cases h
      · rename_i ha
        refine ⟨by simpa using hb, by omega, by omega, fun c hc => ?_⟩
        have h2 : l.any (fun c => !mayC c) = false := by simpa using ha
        have := List.any_eq_false.1 h2 c hc
        simpa using this
theorem ok_do {M : Kv} (h : KvOk M) {c : Chg} (hc : mayC c = true) : KvOk (doM M c) := by
  refine ⟨ris_do h.ris c, fun p hp => ?_⟩
  unfold doM at hp
  split at hp
  · exact h.may p (List.mem_filter.1 hp).1
  · rename_i hg
    unfold putM at hp
    rcases (ins_mem _ _ _ p).1 hp with rfl | hp
    · obtain ⟨h1, h2, h3, _⟩ := mayC_sizes hc
      unfold mayC
      simp [h1, h2, h3]
    · exact h.may p (List.mem_filter.1 hp).1
theorem ok_after {M : Kv} (h : KvOk M) {l : List Chg} (hl : ∀ c ∈ l, mayC c = true) : KvOk (afterM M l) := by
  unfold afterM
  induction l generalizing M with
  | nil => exact h
  | cons c l ih => exact ih (ok_do h (hl c List.mem_cons_self)) (fun d hd => hl d (List.mem_cons_of_mem _ hd))
theorem ok_nil : KvOk [] := ⟨List.Pairwise.nil, fun p hp => by cases hp⟩
theorem len_bytes {M : Kv} (h : KvOk M) : M.length ≤ bytesM M := by
  have : ∀ N : Kv, (∀ p ∈ N, mayC ⟨p.1, p.2, false⟩ = true) → N.length ≤ bytesM N := by
    intro N
    induction N with
    | nil => intro _; exact Nat.le_refl _
    | cons p N ih =>
      intro hN
      have h1 := (mayC_sizes (hN p List.mem_cons_self)).1
      have h2 := ih (fun x hx => hN x (List.mem_cons_of_mem _ hx))
      rw [bytes_cons, List.length_cons]
      have h1 : 1 ≤ p.1.size := h1
      omega
  exact this M h.may
theorem flat_good (l : List Chg) : (l.flatMap fldC).any badF = false := by
  rw [List.any_eq_false]
  intro f hf
  obtain ⟨c, _, hc⟩ := List.mem_flatMap.1 hf
  unfold fldC at hc
  simp only [List.cons_append, List.nil_append, List.mem_cons] at hc
  rcases hc with rfl | rfl | hc
  · simp [badF]
  · cases c.gone <;> simp [badF]
  · cases hg : c.gone with
    | true => rw [hg] at hc; simp at hc
    | false => rw [hg] at hc; simp at hc; subst hc; simp [badF]
theorem layC_err (l : List Chg) : ((layC l).2 = 0 ∨ (layC l).2 = 4) ∧ (layC l).1.size ≤ 65536 := by
  unfold layC lay
  rw [if_neg (by rw [flat_good]; simp)]
  split
  · exact ⟨.inr rfl, Nat.zero_le _⟩
  · exact ⟨.inl rfl, by rw [show (⟨(layB (l.flatMap fldC)).toArray⟩ : ByteArray).size = (layB (l.flatMap fldC)).length from List.size_toArray]; omega⟩
theorem recs_sizes (M : Kv) : ∀ s ∈ recsM M, s.size ≤ 65536 := fun s hs => by
  unfold recsM at hs
  obtain ⟨p, _, rfl⟩ := List.mem_map.1 hs
  exact (layC_err _).2
theorem str_one_at (w : World) (s : ByteArray) (t : TypeId) : strsAt (w.alloc (.cells #[.string s] t)) (some ⟨w.heap.size, 0, none⟩) [s] := by
  refine .inr ⟨w.heap.size, 0, rfl, by simp, fun i hi => ?_⟩
  rw [cell_of_row _ w.heap.size (0 + i) _ _ _ (heap_alloc_top w _)]
  have : i = 0 := by simpa using hi
  subst this
  rfl

/-- texts that lie outside of a footprint -/
def StrO (w : World) (ad : Option Addr) (l : List ByteArray) (G : Nat → Prop) : Prop := l = [] ∨ ∃ b off, ad = some ⟨b, off, none⟩ ∧ b < w.heap.size ∧ ¬ G b ∧ ∀ i (h : i < l.length), w.cell? ⟨b, off + i, none⟩ = some (.string l[i])
theorem StrO.at {w : World} {ad : Option Addr} {l : List ByteArray} {G : Nat → Prop} (h : StrO w ad l G) : strsAt w ad l := by
  rcases h with h | ⟨b, off, h1, h2, _, h3⟩
  · exact .inl h
  · exact .inr ⟨b, off, h1, h2, h3⟩
theorem StrO.step {w w' : World} {ad : Option Addr} {l : List ByteArray} {G G' : Nat → Prop} (h : StrO w ad l G) (hs : Stp G w G' w') : StrO w' ad l G' := by
  rcases h with h | ⟨b, off, h1, h2, h3, h4⟩
  · exact .inl h
  · refine .inr ⟨b, off, h1, Nat.lt_of_lt_of_le h2 hs.touch.size, fun hf => (hs.new b hf).elim h3 (fun h => by omega), fun i hi => ?_⟩
    rw [hs.touch.cellOf (a := ⟨b, off + i, none⟩) h2 h3]
    exact h4 i hi
theorem StrO.own {w : World} {base e : Nat} {v : Value} {l : List ByteArray} {G : Nat → Prop} (h : w.ownsRow base e 1 v l.length (l.map Value.string)) (hG : ∀ k, G k → k < base) : ∃ ad cap, v = .slice ad l.length cap ∧ StrO w ad l G := by
  rcases h.2 with ⟨h1, h2⟩ | ⟨g, cap, cur, hv, hb, hg, _⟩
  · exact ⟨none, 0, by rw [h1, h2], .inl (List.eq_nil_of_length_eq_zero h2)⟩
  · refine ⟨some ⟨g, 0, none⟩, cap, hv, .inr ⟨g, 0, rfl, lt_of_block hg, fun hk => by have := hG g hk; omega, fun i hi => ?_⟩⟩
    subst hv
    rw [Nat.zero_add, h.cellAt i (by omega)]
    simp [hi]
/-- changes that lie outside of a footprint -/
def ChgO (w : World) (ad : Option Addr) (l : List Chg) (G : Nat → Prop) : Prop := l = [] ∨ ∃ b off, ad = some ⟨b, off, none⟩ ∧ b < w.heap.size ∧ ¬ G b ∧ ∀ i (h : i < l.length), ∀ (j : Nat) (u : Value), (chgv l[i])[j]? = some u → w.cell? ⟨b, off + i * 3 + j, none⟩ = some u
theorem ChgO.at {w : World} {ad : Option Addr} {l : List Chg} {G : Nat → Prop} (h : ChgO w ad l G) : chgsAt w ad l := by
  rcases h with h | ⟨b, off, h1, h2, _, h3⟩
  · exact .inl h
  · exact .inr ⟨b, off, h1, h2, h3⟩
theorem ChgO.out {w : World} {ad : Option Addr} {l : List Chg} {G : Nat → Prop} (h : ChgO w ad l G) (h0 : l ≠ []) : ∀ a, ad = some a → ¬ G a.block := by
  rcases h with h | ⟨b, off, h1, h2, h3, _⟩
  · exact absurd h h0
  · intro a ha
    rw [h1] at ha
    obtain rfl := Option.some.inj ha
    exact h3
theorem ChgO.step {w w' : World} {ad : Option Addr} {l : List Chg} {G G' : Nat → Prop} (h : ChgO w ad l G) (hs : Stp G w G' w') : ChgO w' ad l G' := by
  rcases h with h | ⟨b, off, h1, h2, h3, h4⟩
  · exact .inl h
  · refine .inr ⟨b, off, h1, Nat.lt_of_lt_of_le h2 hs.touch.size, fun hf => (hs.new b hf).elim h3 (fun h => by omega), fun i hi j u hu => ?_⟩
    rw [hs.touch.cellOf (a := ⟨b, off + i * 3 + j, none⟩) h2 h3]
    exact h4 i hi j u hu
/-- while a transaction is done -/
structure DoMid (w wx : World) (q jq b p : Nat) (F F1 : Nat → Prop) (st : Dk) (j : Jn) (M : Kv) (qt : Int) (ad : Option Addr) (l : List Chg) (ad2 : Option Addr) (all : List ByteArray) : Prop where
  sto : StoAt wx q jq b p F1 st j M qt false
  stp : Stp (stoF q jq b F) w (stoF q jq b F1) wx
  all : StrO wx ad2 all (stoF q jq b F1)
  chg : ChgO wx ad l (stoF q jq b F1)
theorem DoMid.below {w wx w' : World} {q jq b p : Nat} {F F1 : Nat → Prop} {st : Dk} {j : Jn} {M : Kv} {qt : Int} {ad : Option Addr} {l : List Chg} {ad2 : Option Addr} {all : List ByteArray} (h : DoMid w wx q jq b p F F1 st j M qt ad l ad2 all) (hb : Below wx.heap.size wx w') : DoMid w w' q jq b p F F1 st j M qt ad l ad2 all :=
  ⟨h.sto.below hb, h.stp.trans (Stp.ofBelow _ hb), h.all.step (Stp.ofBelow _ hb), h.chg.step (Stp.ofBelow _ hb)⟩
theorem DoMid.call {w wx w' : World} {q jq b p : Nat} {F F1 : Nat → Prop} {st : Dk} {j : Jn} {M : Kv} {qt : Int} {ad : Option Addr} {l : List Chg} {ad2 : Option Addr} {all : List ByteArray} {r : Int × Dk} {j' : Jn} {e : Ending} (h : DoMid w wx q jq b p F F1 st j M qt ad l ad2 all) (hp : SetPost wx jq p F1 r j' e w') :
    ∃ F2, DoMid w w' q jq b p F F2 r.2 j' M qt ad l ad2 all := by
  obtain ⟨F2, h1, h2⟩ := h.sto.call hp
  exact ⟨F2, h1, h.stp.trans h2, h.all.step h2, h.chg.step h2⟩

set_option maxHeartbeats 8000000 in
theorem sdoT_walk (q jq b p : Nat) (F : Nat → Prop) (st : Dk) (j : Jn) (M : Kv) (qt : Int) (br : Bool) (ad : Option Addr) (cap : Nat) (l : List Chg) (w : World) (h : StoAt w q jq b p F st j M qt br) (hk : KvOk M)
    (h4 : 4 ≤ st.S.length) (ok : JnOk st j) (hp : pendMax st.S 0) (hl : ChgO w ad l (stoF q jq b F)) (hs : l.length ≤ 9223372036854775807) (hz : ∀ c ∈ l, c.key.size ≤ 9223372036854775807 ∧ c.val.size ≤ 9223372036854775807)
    (hb : bytesM M ≤ 10000000000) (hA : (putJ st j l).1.1 = 10 ∨ (putJ st j l).1.1 = 4 → (putJ st j l).1.2 = st ∧ (putJ st j l).2 = j) :
    Calls Tryz.prog 15 #[.pointer (some ⟨q, 0, none⟩), .slice ad l.length cap] w fun e w' => DoRes w q jq b p F qt (doS st j M qt br l) e w' := by
  have KC := Lib.hid (scheck_walk q b _ qt br M ad cap l w h.cells h.map hk.ris hl.at hs hz (by omega))
  obtain ⟨R, hR⟩ : ∃ R, R = doS st j M qt br l := ⟨_, rfl⟩
  rw [← hR]
  unfold doS at hR
  obtain ⟨c, hc⟩ : ∃ c, c = checkS M l qt br := ⟨_, rfl⟩
  rw [← hc] at KC hR
  have HH := Lib.hid h; have HK := Lib.hid hk; have H4 := Lib.hid h4; have OK := Lib.hid ok; have HP := Lib.hid hp; have HL := Lib.hid hl; have HBY := Lib.hid hb; have HA := Lib.hid hA; have HR := Lib.hid hR; have HC := Lib.hid hc
  clear h hk h4 ok hp hl hs hz hb hA hR hc
  by_cases hc0 : c = 0
  · have hcz := checkS_zero (HC.out.symm.trans hc0)
    obtain ⟨rfl, hl1, hl2, hmay⟩ := hcz
    have hR := HR.out
    rw [if_neg (by simpa using hc0)] at hR
    subst hc0
    have hsum := sum_may hmay
    have hok' := ok_after HK.out hmay
    have hlb := len_bytes HK.out
    have hba := bytes_after HK.out.ris l
    have hlen' := len_after HK.out.ris l
    have hbb := HBY.out
    have KA := fun w1 (hb1 : Below w.heap.size w w1) => Lib.hid (all_walk q b _ _ qt false M ad cap l w1 (HH.out.below hb1).cells (HH.out.below hb1).map HK.out.ris (chgsAt_below HL.out.at (Nat.le_refl _) hb1) (by omega) (fun c hc => by have := mayC_sizes (hmay c hc); omega) (by omega) (by omega) (fun p hp => by have := mayC_sizes (hok'.may p hp); exact ⟨by have := this.2.1; have e : p.1.size ≤ 32 := this; omega, by have := this.2.2.1; have e : p.2.size ≤ 4096 := this; omega⟩))
    have HALL := Lib.hid (recs_sizes (afterM M l))
    have hrl : (recsM (afterM M l)).length ≤ 20000000000 := by unfold recsM; rw [List.length_map]; omega
    obtain ⟨all, hall⟩ : ∃ all, all = recsM (afterM M l) := ⟨_, rfl⟩
    simp only [← hall] at KA
    rw [← hall] at hR HALL hrl
    obtain ⟨M', hM'⟩ : ∃ M', M' = afterM M l := ⟨_, rfl⟩
    rw [← hM'] at hR hba hlen'
    have KD := fun wx (hx : MapM wx b M) (hc : wx.heap[q]? = some (.cells (stv (.pointer (some ⟨jq, 0, none⟩)) b (bytesM M) qt false) 76 (0, 0))) (hlx : chgsAt wx ad l) (hox : l ≠ [] → ∀ a, ad = some a → ¬ (a.block = q ∨ a.block = b)) => Lib.hid (sdo_walk q b _ _ qt false M ad cap l wx hc hx HK.out.ris hlx (by omega) (fun c hc => by have := mayC_sizes (hmay c hc); omega) (by omega) (by omega) (fun h0 a ha => ⟨fun e => hox h0 a ha (.inl e), fun e => hox h0 a ha (.inr e)⟩) HH.out.nqb)
    have hwr : IntKind.i64.wrap ((bytesM M : Int) + ((bytesM M' : Int) - (bytesM M : Int))) = (bytesM M' : Int) := by
      rw [show (bytesM M : Int) + ((bytesM M' : Int) - (bytesM M : Int)) = (bytesM M' : Int) by omega]; exact IntWalk.i64_in _ (by omega)
    simp only [← hM', hwr] at KD
    have HHALL := Lib.hid hall; have HRL := Lib.hid hrl; have HM' := Lib.hid hM'; have HOK' := Lib.hid hok'
    replace HR := Lib.hid hR
    have KLY := fun w1 (hb1 : Below w.heap.size w w1) => Lib.hid (slay_walk ad cap l w1 (chgsAt_below HL.out.at (Nat.le_refl _) hb1) (by omega) (fun c hc => by have := mayC_sizes (hmay c hc); omega))
    clear hR hsum hok' hlb hba hlen' hall hrl hM' hwr hl1 hmay hbb
    go_enter Tryz.func15, Tryz.ntmps15
    go_wp2_with fail
    refine KC.out.mono ?_
    rintro e w1 ⟨rfl, hb1⟩
    have B1 := Lib.hid hb1
    clear hb1 KC
    go_wp2_with fail
    refine (KA w1 B1.out).out.mono ?_
    rintro e w2 ⟨va, rfl, hra, hb2⟩
    have B2 := Lib.hid (B1.out.trans (hb2.mono B1.out.size))
    obtain ⟨ad2, cap2, rfl, hst2⟩ := StrO.own (G := stoF q jq b F) hra (fun k hk => Nat.lt_of_lt_of_le (HH.out.ltF k hk) B1.out.size)
    have MD2 := Lib.hid (show DoMid w w2 q jq b p F F st j M qt ad l ad2 all from ⟨HH.out.below B2.out, Stp.ofBelow _ B2.out, hst2, HL.out.step (Stp.ofBelow _ B2.out)⟩)
    have ST2 := Lib.hid hst2.at
    clear hra hst2 hb2 KA B1
    go_upto_region 6 with fail
    have h2 := HH.out.below B2.out
    have KS := fun w' (hb : Below w2.heap.size w2 w') => Lib.hid (size_walk ad2 cap2 all w' (strsAt_below ST2.out (Nat.le_refl _) hb) (by have := HRL.out; omega) (fun s hs => by have := HALL.out s hs; omega))
    have KR := fun w' (hb : Below w2.heap.size w2 w') => Lib.hid (room_walk jq p F st j w' (h2.jn.below hb) (h2.disk.below hb) (by have := H4.out; omega) OK.out.used)
    have KU := fun w' (hb : Below w2.heap.size w2 w') => Lib.hid (used_walk jq p j w' (h2.jn.below hb))
    have hq2 := h2.cells
    have hc0 : ∀ x : Sub w2.heap.size w2, x.val.cell? ⟨q, 0, none⟩ = some (.pointer (some ⟨jq, 0, none⟩)) := fun x => by rw [cell_of_row x.val q 0 _ _ _ (sub_heap hq2 (lt_of_block hq2) x)]; rfl
    have hBW : w2.heap.size ≤ w2.heap.size := Nat.le_refl _
    obtain ⟨rm, hrm⟩ : ∃ rm, rm = roomR st.S.length j := ⟨_, rfl⟩
    obtain ⟨T, hT⟩ : ∃ T, T = rm + (j.used : Int) := ⟨_, rfl⟩
    have hTb : -9223372036854775808 ≤ T ∧ T ≤ 9223372036854775807 := by
      have h1 := OK.out.used
      have h3 := h2.disk.ok.2.1
      rw [hT, hrm]
      unfold roomR sizeN
      omega
    have hTw : IntKind.i64.wrap (rm + (j.used : Int)) = T := by rw [← hT]; exact IntWalk.i64_in _ hTb
    have hR := HR.out
    rw [← hrm, ← hT] at hR
    replace HR := Lib.hid hR
    simp only [← hrm] at KR
    clear hR h2 hq2 hrm hT hTb
    refine wp_region_mix (inSub w2.heap.size w2) [(0,true),(2,true),(3,true),(4,true),(5,true),(7,true),(8,true),(9,true),(10,true),(1,false),(6,false),(11,false),(12,true),(13,true),(14,true)] (by kernel_rfl) (by kernel_rfl) (inSub_of (Below.refl _ _).drew) ?_
    have hb0 : Below w2.heap.size w2 w2.drew := (Below.refl _ _).drew
    generalize w2.drew = w3 at hb0 ⊢
    simp only [List.filterMap_cons, List.filterMap_nil, List.getElem?_cons_zero, List.getElem?_cons_succ, Option.map_some]
    iterate 9 (refine mix_read (by rfl) ?_; apply Exists.intro; refine ⟨fun w9 hw9 => ?_, ?_⟩; (· obtain ⟨x9, rfl⟩ := hw9; have d0 := hc0 x9; go_simp; rfl); simp only [Act.put, List.setIfInBounds_toArray, List.set_cons_succ, List.set_cons_zero])
    refine mix_step (by rfl) (fun K' hK => ?_)
    go_simp
    go_at_call 44
    refine (KS _ hb0).out.mono ?_
    rintro e w4 ⟨rfl, hb4⟩
    replace hb4 := hb0.trans (hb4.mono hb0.size)
    refine hK _ _ (inSub_of hb4) ?_
    clear hK K' KS hb0
    try simp only [Act.put, List.setIfInBounds_toArray, List.set_cons_succ, List.set_cons_zero]
    refine mix_step (by rfl) (fun K' hK => ?_)
    go_simp
    go_at_call 45
    refine (KR _ hb4).out.mono ?_
    rintro e w5 ⟨rfl, hb5⟩
    replace hb5 := hb4.trans (hb5.mono hb4.size)
    refine hK _ _ (inSub_of hb5) ?_
    clear hK K' KR hb4
    try simp only [Act.put, List.setIfInBounds_toArray, List.set_cons_succ, List.set_cons_zero]
    refine mix_step (by rfl) (fun K' hK => ?_)
    go_simp
    go_at_call 46
    refine (KU _ hb5).out.mono ?_
    rintro e w6 ⟨rfl, rfl⟩
    refine hK _ _ (inSub_of hb5) ?_
    clear hK K' KU
    try simp only [Act.put, List.setIfInBounds_toArray, List.set_cons_succ, List.set_cons_zero]
    iterate 3 (refine mix_read (by rfl) ?_; apply Exists.intro; refine ⟨fun w9 hw9 => ?_, ?_⟩; (· go_simp; rfl); simp only [Act.put, List.setIfInBounds_toArray, List.set_cons_succ, List.set_cons_zero])
    refine mix_nil (NoPanic.normal ?_)
    try simp only [Act.put, List.setIfInBounds_toArray, List.set_cons_succ, List.set_cons_zero]
    have MD5 := Lib.hid (MD2.out.below hb5)
    have B5 := Lib.hid (B2.out.trans (hb5.mono B2.out.size))
    clear hb5 MD2 ST2 B2 hc0 hBW hTw
    by_cases hbig : min T 65536 < (sizeR all : Int)
    · obtain rfl : R = (10, st, j, M, false) := by rw [HR.out, if_pos hbig]
      clear HR
      go_wp2_with fail
      go_ret
      exact ⟨rfl, F, MD5.out.sto, MD5.out.stp⟩
    · have hR := HR.out
      rw [if_neg hbig] at hR
      replace HR := Lib.hid hR
      clear hR
      have hbig2 : (decide (min T 65536 < (sizeR all : Int))) = false := decide_eq_false hbig
      go_wp2_with fail
      have hsz := layC_err l
      obtain ⟨r, hr⟩ : ∃ r, r = (layC l).1 := ⟨_, rfl⟩
      obtain ⟨e0, he0⟩ : ∃ e, e = (layC l).2 := ⟨_, rfl⟩
      rw [← hr, ← he0] at hsz
      simp only [← hr, ← he0] at KLY
      have hpj : putJ st j l = if e0 = 0 then (appendD st j [r], appendJ st j [r]) else ((e0, st), j) := by rw [he0, hr]; rfl
      have HPJ := Lib.hid hpj; have HSZ := Lib.hid hsz.2
      have HE := Lib.hid hsz.1
      clear hpj hr he0 hsz
      refine (KLY w6 B5.out).out.mono ?_
      rintro e w7 ⟨rfl, hb6⟩
      have MD6 := Lib.hid (MD5.out.below hb6)
      clear hb6 MD5 B5 KLY hbig hbig2
      go_upto_if 40 with fail
      go_cut [9] from 39 to 65 (fun s9 wx => s9 = .int .i64 (putJ st j l).1.1 ∧ ∃ F1, DoMid w wx q jq b p F F1 (putJ st j l).1.2 (putJ st j l).2 M qt ad l ad2 all)
      case first =>
        clear KD
        by_cases h0 : e0 = 0
        · subst h0
          have KAP := Lib.hid (append_walk jq p F st j 0 (some ⟨w7.heap.size, 0, none⟩) 1 [r] (w7.alloc (.cells #[.string r] 9)) ((MD6.out.sto.disk).below ((Below.refl _ _).alloc (Nat.le_refl _) _)) ((MD6.out.sto.jn).below ((Below.refl _ _).alloc (Nat.le_refl _) _)) MD6.out.sto.nj H4.out OK.out HP.out (by omega) (str_one_at w7 r _) (by show 1 ≤ _; omega) (fun s hs => by rw [List.mem_singleton.1 hs]; have := HSZ.out; omega))
          have hc0 : w7.cell? ⟨q, 0, none⟩ = some (.pointer (some ⟨jq, 0, none⟩)) := cell_at (j := 0) MD6.out.sto.cells rfl
          have hmd := MD6.out.below ((Below.refl _ _).alloc (Nat.le_refl _) (.cells #[.string r] 9))
          have HMD := Lib.hid hmd
          clear hmd MD6
          go_wp2_with fail
          refine KAP.out.mono ?_
          intro e w8 hpost
          have he := hpost.1
          subst he
          have HF := Lib.hid (HMD.out.call hpost)
          clear KAP hpost HMD hc0
          go_wp2_with fail
          go_meet
          rw [HPJ.out, if_pos (by trivial)]
          exact ⟨rfl, HF.out⟩
        · have h0b : (e0 == 0) = false := by simpa using h0
          go_wp2_with fail
          go_meet
          rw [HPJ.out, if_neg h0]
          exact ⟨rfl, F, MD6.out⟩
      case rest =>
      obtain ⟨rfl, F1, hmd⟩ := hcut
      have HMD := Lib.hid hmd
      clear hmd MD6
      obtain ⟨PJ, hPJ⟩ : ∃ x, x = putJ st j l := ⟨_, rfl⟩
      have HDJ := Lib.hid (show doJ st j l all = if PJ.1.1 = 10 ∨ PJ.1.1 = 4 then (rewriteD st j all, rewriteJ st j all) else PJ by rw [hPJ]; rfl)
      have hA := HA.out
      rw [← hPJ] at hA HMD ⊢
      replace HA := Lib.hid hA
      clear hA hPJ
      obtain ⟨⟨e1, st1⟩, j1⟩ := PJ
      replace HMD : Hid (DoMid w wc q jq b p F F1 st1 j1 M qt ad l ad2 all) := HMD
      replace HDJ : Hid (doJ st j l all = if e1 = 10 ∨ e1 = 4 then (rewriteD st j all, rewriteJ st j all) else ((e1, st1), j1)) := HDJ
      replace HA : Hid (e1 = 10 ∨ e1 = 4 → st1 = st ∧ j1 = j) := HA
      dsimp only
      go_wp2_with fail
      refine (full_walk e1 wc).mono ?_
      rintro e w8 ⟨rfl, rfl⟩
      go_upto_if 50 with fail
      go_cut [9] from 48 to 65 (fun s9 wx => s9 = .int .i64 (doJ st j l all).1.1 ∧ ∃ F2, DoMid w wx q jq b p F F2 (doJ st j l all).1.2 (doJ st j l all).2 M qt ad l ad2 all)
      case first =>
        by_cases h0 : e1 = 10 ∨ e1 = 4
        · have hd : (decide (e1 = 10) || decide (e1 = 4)) = true := by simpa using h0
          obtain ⟨rfl, rfl⟩ := HA.out h0
          have HE1 := Lib.hid h0
          rw [hd]
          have hc0 : w8.cell? ⟨q, 0, none⟩ = some (.pointer (some ⟨jq, 0, none⟩)) := cell_at (j := 0) HMD.out.sto.cells rfl
          have KRW := Lib.hid (rewrite_walk jq p F1 st1 j1 0 ad2 cap2 all w8 HMD.out.sto.disk HMD.out.sto.jn HMD.out.sto.nj H4.out OK.out HP.out (by omega) HMD.out.all.at (by have := HRL.out; omega) (fun s hs => by have := HALL.out s hs; omega))
          clear h0 hd HA HPJ KD
          go_wp2_with fail
          refine KRW.out.mono ?_
          intro e w9 hpost
          have he := hpost.1
          subst he
          have HF := Lib.hid (HMD.out.call hpost)
          clear KRW hpost HMD hc0
          go_wp2_with fail
          go_meet
          rw [HDJ.out, if_pos HE1.out]
          exact ⟨rfl, HF.out⟩
        · have hd : (decide (e1 = 10) || decide (e1 = 4)) = false := by simpa using h0
          rw [hd]
          go_wp2_with fail
          go_meet
          rw [HDJ.out, if_neg h0]
          exact ⟨rfl, F1, HMD.out⟩
      case rest =>
      obtain ⟨rfl, F2, hmd⟩ := hcut
      have HM2 := Lib.hid hmd
      clear hmd HMD HA HDJ
      obtain ⟨DJ, hDJ⟩ : ∃ x, x = doJ st j l all := ⟨_, rfl⟩
      have hR := HR.out
      rw [← hDJ] at hR HM2 ⊢
      clear hDJ HR
      obtain ⟨⟨e2, st2⟩, j2⟩ := DJ
      replace HM2 : Hid (DoMid w wc q jq b p F F2 st2 j2 M qt ad l ad2 all) := HM2
      replace hR : R = if e2 ≠ 0 then (e2, st2, j2, M, true) else (0, st2, j2, M', false) := hR
      dsimp only
      by_cases h0 : e2 = 0
      · subst h0
        obtain rfl : R = (0, st2, j2, M', false) := by rw [hR]; rfl
        clear hR
        have KD2 := Lib.hid ((KD wc HM2.out.sto.map HM2.out.sto.cells HM2.out.chg.at (fun h0 a ha hq => HM2.out.chg.out h0 a ha (hq.elim (fun e => .inr (.inl e)) (fun e => .inr (.inr (.inr e)))))).out)
        clear KD
        go_wp2_with fail
        refine KD2.out.mono ?_
        rintro e w9 ⟨rfl, hpost⟩
        have HF := Lib.hid (HM2.out.sto.done hpost)
        clear hpost KD2
        go_wp2_with fail
        go_ret
        exact ⟨rfl, F2, HF.out.1, HM2.out.stp.trans HF.out.2⟩
      · obtain rfl : R = (e2, st2, j2, M, true) := by rw [hR, if_pos h0]
        have h0b : (e2 == 0) = false := by simpa using h0
        have c4 := cell_at (j := 4) HM2.out.sto.cells rfl
        have f4 := free_at HM2.out.sto.cells 4
        have HB := Lib.hid HM2.out.sto.broke
        clear hR
        go_wp2_with fail
        go_ret
        exact ⟨rfl, F2, HB.out.1, HM2.out.stp.trans HB.out.2⟩
  · obtain rfl : R = (c, st, j, M, br) := by rw [HR.out, if_pos hc0]
    have hcb : (c == 0) = false := by simpa using hc0
    clear HR hc0
    go_enter Tryz.func15, Tryz.ntmps15
    go_wp2_with fail
    refine KC.out.mono ?_
    rintro e w1 ⟨rfl, hb1⟩
    have HF := Lib.hid (show DoRes w q jq b p F qt (c, st, j, M, br) (.returned (.int .i64 c)) w1 from ⟨rfl, F, HH.out.below hb1, Stp.ofBelow _ hb1⟩)
    clear hb1 KC
    go_wp2_with fail
    go_ret
    exact HF.out
end Go.Proofs.YtjjejkhekmpgcaaGreat
