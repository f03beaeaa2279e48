/-
  Layer 3: all that is pending is settled.
-/
import Derived.Test.YtcabocppplokgaaDskH
namespace Go.Proofs.Ytcabocppplokgaa
open Go.RowKit

theorem mixT_load_cells {P : Program} {ops : Array Oper} {Q : Exit → Act → World → Prop} {S : World → Prop} {o : Oper} {k : Bool} {rest : List (Oper × Bool × Bool)} {a : Act} {w : World} (ty : TypeId) (x : Operand) (ho : o.op = .load ty x) (hw : Region.wanted o (yielded ops a.tmps) = true)
    (b off : Nat) (hx : a.eval x = .pointer (some ⟨b, off, none⟩)) (cs : List Value) (d : TypeDesc) (hc : ∀ w', S w' → ∀ j u, cs[j]? = some u → w'.cell? ⟨b, off + j, none⟩ = some u)
    (hu : P.underlying ty = some d) (hd : (match d with | .struct _ | .array _ _ => true | _ => false) = true) (hi : (P.info? ty).map (·.size) = some cs.length)
    (h : wpMixT P ops Q S rest (a.put o.dst (.agg cs.toArray)) w) : wpMixT P ops Q S ((o, true, k) :: rest) a w :=
  mixT_take hw _ (fun w' hw' => by
    unfold execOp
    simp only [ho, hx, Instr.loadAt, Instr.sureAddr, Sem.run_bind, Sem.run_pure, Result.andThen_ok, run_load_cells w' b off ty cs d (hc w' hw') hu hd hi]) h

theorem wpList_delete_L {P : Program} {k e t : TypeId} {w : World} {b n : Nat} {f : Lit → Option Value} {ops : Array Oper} {rest : List Oper} {o : Oper} {a : Act} {Q : Exit → Act → World → Prop} (hgd : o.guard = none) (m x : Operand)
    (ho : o.op = .call { callee := .builtin .delete, args := #[m, x], argTypes := #[t, k] })
    (h : MapL P k w b f n) (KK : Go.Maps.Keyed P k) (ht : P.underlying t = some (.map k e)) {key : Value} {kl : Lit} (hkey : keyOf P k key = some kl)
    (hm : a.eval m = .map (some b)) (hx : a.eval x = key)
    (hK : ∀ w', MapL P k w' b (delF f kl) (if (f kl).isSome then n - 1 else n) → w.grownBy w' (some b) → wpList P ops Q rest (a.put o.dst (.tuple #[])) w') : wpList P ops Q (o :: rest) a w := by
  refine wpList_plain hgd fun K hK' => ?_
  obtain ⟨w', hrun, h1, h2⟩ := h.drop KK ht hkey o.type
  unfold Oper.wp execOp
  simp only [ho, resolve, invoke, builtin, Sem.run_bind, Sem.run_pure, Result.andThen_ok, List.map_toArray, List.map_cons, List.map_nil, hm, hx, hrun]
  exact hK' _ _ (hK w' h1 h2)

theorem IntRow.touch {w w' : World} {base : Nat} {v : Value} {l : List Nat} {F : Nat → Prop} (h : IntRow w base v l) (ht : Touch F w w') (hn : ∀ k, F k → k < base) : IntRow w' base v l := by
  rcases h with ⟨h1, h2⟩
  refine ⟨h1, ?_⟩
  rcases h2 with h2 | ⟨g, cap, cur, rfl, hb, hg, h3⟩
  · exact .inl h2
  · exact .inr ⟨g, cap, cur, rfl, hb, (ht.block g (lt_of_block hg) (fun hf => by have := hn g hf; omega)).trans hg, h3⟩

theorem nowF_drop {S : List (List Sec)} {x : Nat} (hx : x < S.length) (s : Sec) (V : Nat → Value) (l : Lit) (hl : WideAt.IsKeyLit l) :
    nowF (putS S x [s]) V l = delF (nowF S V) (.int .i64 x) l := by
  unfold delF
  by_cases e : l = .int .i64 x
  · subst e
    rw [if_pos (WideAt.sameKey_self hl)]
    unfold nowF
    simp only [Int.toNat_natCast]
    rw [if_neg (fun h => h.2 (by rw [pend_put hx, if_pos rfl]; rfl))]
  · rw [if_neg (by rw [Maps.sameKey_ne e]; simp)]
    cases l with
    | int k n =>
      cases k with
      | i64 =>
        unfold nowF
        simp only
        by_cases h0 : 0 ≤ n
        · have hne : n.toNat ≠ x := fun h => e (by rw [← h, Int.toNat_of_nonneg h0])
          rw [pend_put hx, if_neg hne]
        · rw [if_neg (fun h => h0 h.1), if_neg (fun h => h0 h.1)]
      | _ => rfl
    | _ => rfl

/-- one sector is settled -/
theorem disk_settle {w0 wF : World} {p sb mb cs : Nat} {V : Nat → Value} {st : Dk} {x : Nat} {s : Sec}
    (hd : DiskAt w0 p sb mb cs V st) (hx : pend st.S x ≠ []) (hs : s.length = 64) (ht : Touch (fun k => k = sb ∨ k = mb) w0 wF)
    (hr : SecRow wF (.slice (some ⟨sb, 0, none⟩) st.S.length cs) ((safes st.S).set x s))
    (hm : MapL Try.prog 3 wF mb (delF (nowF st.S V) (.int .i64 x)) (if (nowF st.S V (.int .i64 x)).isSome then (dirt st.S).length - 1 else (dirt st.S).length)) :
    DiskAt wF p sb mb cs V ⟨putS st.S x [s], st.calls, st.armed, st.down⟩ ∧ ∀ k, dfoot p sb mb V (putS st.S x [s]) k → dfoot p sb mb V st.S k := by
  have hxl := pend_lt hx
  have hlen : (putS st.S x [s]).length = st.S.length := putS_length _ _ _
  have hp : ∀ j, pend (putS st.S x [s]) j = if j = x then [] else pend st.S j := fun j => by rw [pend_put hxl]; rfl
  have hpj : ∀ j, pend (putS st.S x [s]) j ≠ [] → j ≠ x ∧ pend st.S j ≠ [] ∧ pend (putS st.S x [s]) j = pend st.S j := fun j hj => by
    have h1 := hp j
    by_cases e : j = x
    · rw [if_pos e] at h1; exact absurd h1 hj
    · rw [if_neg e] at h1; exact ⟨e, by rw [← h1]; exact hj, h1⟩
  refine ⟨⟨?_, ?_, ?_, ?_, ?_, ?_, secOk_put hd.ok x (by simp) (fun t ht => by rw [List.mem_singleton.1 ht]; exact hs), hd.arm⟩, fun k hk => ?_⟩
  · show wF.heap[p]? = some (.cells #[.slice (some ⟨sb, 0, none⟩) (putS st.S x [s]).length cs, _, _, _, _] _ _)
    rw [hlen]
    exact (ht.block p (lt_of_block hd.blk) (fun h => h.elim hd.ne1 hd.ne2)).trans hd.blk
  · show SecRow wF (.slice (some ⟨sb, 0, none⟩) (putS st.S x [s]).length cs) (safes (putS st.S x [s]))
    rw [hlen, safes_put]
    exact hr
  · show MapL Try.prog 3 wF mb (nowF (putS st.S x [s]) V) (dirt (putS st.S x [s])).length
    refine hm.congr (fun l hl => nowF_drop hxl s V l hl) ?_
    have hns : (nowF st.S V (.int .i64 x)).isSome = true := by
      unfold nowF
      simp only [Int.toNat_natCast]
      rw [if_pos ⟨Int.natCast_nonneg _, hx⟩]
      rfl
    rw [hns, if_pos rfl]
    have := dirt_more (S := putS st.S x [s]) (T := st.S) (i := x) hlen.symm (by rw [hlen]; exact hxl) (by rw [hp, if_pos rfl]) hx (fun j hj => by rw [hp, if_neg hj])
    omega
  · intro j hj
    obtain ⟨h1, h2, h3⟩ := hpj j hj
    show SecRow wF (V j) (pend (putS st.S x [s]) j)
    rw [h3]
    refine (hd.rows j h2).touch ht (fun k e h => ?_)
    have := hd.rowNe h2 e
    exact h.elim this.2.1 this.2.2.1
  · intro i j hij hi hj
    exact hd.apart i j hij (hpj i hi).2.1 (hpj j hj).2.1
  · intro i hi
    exact hd.apartS i (hpj i hi).2.1
  · rcases hk with h | h | h | ⟨i, hi, e⟩
    · exact .inl h
    · exact .inr (.inl h)
    · exact .inr (.inr (.inl h))
    · exact .inr (.inr (.inr ⟨i, (hpj i hi).2.1, e⟩))

theorem row_base0 {w : World} {b e sz n : Nat} {v : Value} {xs : List Value} (h : w.ownsRow b e sz v n xs) : w.ownsRow 0 e sz v n xs :=
  ⟨h.1, h.2.imp id (fun ⟨g, cap, cur, h1, _, h3⟩ => ⟨g, cap, cur, h1, Nat.zero_le _, h3⟩)⟩

/-- what settle leaves -/
def SettlePost (p : Nat) (F : Nat → Prop) (w : World) (st : Dk) (e : Ending) (w' : World) : Prop := e = .returned (.tuple #[]) ∧ ∃ F', Disk w' p F' st ∧ (∀ k, F' k → F k) ∧ Touch F w w'

set_option maxHeartbeats 4000000 in
theorem settle1_walk (_kb p : Nat) (F : Nat → Prop) (st : Dk) (pick : Nat → List Sec → Sec) (w : World) (h : Disk w p F st) (hlen : ∀ i, (pend st.S i).length ≤ 1000000000)
    (hpl : ∀ i L, L ≠ [] → (∀ s ∈ L, s.length = 64) → (pick i L).length = 64)
    (hpick : ∀ (j : Nat) (L : List Sec) (g cap : Nat) (w' : World), Touch F w w' → SecRow w' (.slice (some ⟨g, 0, none⟩) L.length cap) L → L ≠ [] → (∀ s ∈ L, s.length = 64) → L.length ≤ 2000000000 →
      Calls Try.prog 28 #[.int .i64 j, .slice (some ⟨g, 0, none⟩) L.length cap] w' fun e w'' => e = .returned (.agg (bv (pick j L)).toArray) ∧ Below w'.heap.size w' w'') :
    Calls Try.prog 27 #[.pointer (some ⟨p, 0, none⟩), .func (.func 28) #[] #[]] w fun e w' => SettlePost p F w ⟨settleN pick st.S (dirt st.S) (dirt st.S).length, st.calls, st.armed, st.down⟩ e w' := by
  obtain ⟨i0, hi, hz0, hz1, hz2⟩ := info_sec
  have hdw := dirty_walk p F st w h
  have hok : secOk st.S := by obtain ⟨_, _, _, _, hd, _⟩ := h; exact hd.ok
  obtain ⟨l, hl⟩ : ∃ l, l = dirt st.S := ⟨_, rfl⟩
  have hlS : ∀ x ∈ l, x < st.S.length ∧ pend st.S x ≠ [] := fun x hx => dirt_mem (by rw [← hl]; exact hx)
  have hnd : l.Nodup := by rw [hl]; exact dirt_nodup _
  rw [← hl] at hdw ⊢
  have hFlt : ∀ k, F k → k < w.heap.size := fun k hk => h.lt k hk
  have HH := Lib.hid h; have HDW := Lib.hid hdw; have HLS := Lib.hid hlS; have HND := Lib.hid hnd; have HPK := Lib.hid hpick; have HPL := Lib.hid hpl; have HLEN := Lib.hid hlen; have HOK := Lib.hid hok; have HFL := Lib.hid hFlt
  clear h hdw hl hlS hnd hpick hpl hlen hok hFlt
  go_enter Try.func27, Try.ntmps27
  go_wp2_with fail
  refine HDW.out.mono ?_
  rintro e w1 ⟨v, rfl, hrow, hb⟩
  obtain ⟨ad, cap, rfl, hlc, hcm, hcs⟩ := hrow.open
  have hl31 : l.length ≤ 9223372036854775807 := by omega
  obtain ⟨n, hn⟩ : ∃ n, n = l.length := ⟨_, rfl⟩
  have HRW := Lib.hid hrow; have HB := Lib.hid hb; have HN := Lib.hid hn
  rw [← hn] at hlc hl31 ⊢
  have K0 := Lib.hid (HH.out.below hb)
  clear hrow hb hcs HH HDW
  go_wp2_with fail
  go_loopg [9] n (fun gk i wr => ∃ k F', k + gk = n ∧ i = .int .i64 (k : Nat) ∧ Disk wr p F' ⟨settleN pick st.S l k, st.calls, st.armed, st.down⟩ ∧ (∀ x, F' x → F x) ∧ Touch F w wr ∧ IntRow wr w.heap.size (.slice ad l.length cap) l)
  case atStart => exact ⟨0, F, by omega, rfl, K0.out, fun _ h => h, Touch.ofBelow F HB.out, HRW.out⟩
  case round =>
    obtain ⟨k, F', hgk, rfl, hdk, hFF, hT, hrow⟩ := hrel
    have HDK := Lib.hid hdk; have HFF := Lib.hid hFF; have HT := Lib.hid hT; have HR := Lib.hid hrow; have HGK := Lib.hid hgk
    clear hdk hFF hT hrow hgk
    by_cases hlt : (k : Int) < (n : Int)
    · have hkl : k < l.length := by have := HN.out; omega
      obtain ⟨ad', cap', hv, _, _, hc⟩ := HR.out.open
      simp only [Value.slice.injEq, true_and] at hv
      obtain ⟨rfl, rfl⟩ := hv
      rcases hc with hnil | ⟨g, rfl, hg1, hg2, hcs⟩
      · rw [hnil] at hkl; simp at hkl
      have cx := hcs k hkl
      obtain ⟨x, hx⟩ : ∃ x, x = l[k] := ⟨_, rfl⟩
      have hxm := HLS.out x (by rw [hx]; exact List.getElem_mem hkl)
      have hxd : l.getD k 0 = x := by rw [List.getD_eq_getElem?_getD, List.getElem?_eq_getElem hkl, hx]; rfl
      have hrest := settleN_rest pick st.S l HND.out k k (Nat.le_refl _) hkl
      have hSl := settleN_length pick st.S l k
      have hsucc : settleN pick st.S l (k + 1) = putS (settleN pick st.S l k) (l.getD k 0) [pick k ((settleN pick st.S l k).getD (l.getD k 0) [])] := rfl
      rw [hxd] at hrest hsucc
      have hpe : pend (settleN pick st.S l k) x = pend st.S x := by unfold pend; rw [hrest]
      rw [← hx] at cx
      obtain ⟨S, hS⟩ : ∃ S, S = settleN pick st.S l k := ⟨_, rfl⟩
      have HDK2 := HDK.out
      rw [← hS] at hrest hSl hsucc hpe HDK2
      obtain ⟨sb, mb, cs, V, hd, hF⟩ := HDK2
      have hn4 := hd.ok.2.1
      have hxS : x < S.length := by rw [hSl]; exact hxm.1
      have hxp : pend S x ≠ [] := by rw [hpe]; exact hxm.2
      obtain ⟨L, hL⟩ : ∃ L, L = S.getD x [] := ⟨_, rfl⟩
      rw [← hL] at hsucc
      have hgk := getD_ok hd.ok hxS
      rw [← hL] at hgk
      obtain ⟨s, hs⟩ : ∃ s, s = pick k L := ⟨_, rfl⟩
      have hs64 : s.length = 64 := by rw [hs]; exact HPL.out k L hgk.1 hgk.2
      rw [← hs] at hsucc
      obtain ⟨n4, hn4e⟩ : ∃ n4, n4 = S.length := ⟨_, rfl⟩
      have hx4 : (x : Int) < (n4 : Int) := by omega
      have hn44 : (n4 : Int) ≤ 4096 := by have := hn4; simp only at this; omega
      have HD := Lib.hid hd; have HF := Lib.hid hF; have HXP := Lib.hid hxp; have HGK2 := Lib.hid hgk; have HS64 := Lib.hid hs64; have HSU := Lib.hid hsucc; have HPE := Lib.hid hpe; have HXM := Lib.hid hxm; have HLL := Lib.hid hL; have HSS := Lib.hid hs; have HN4 := Lib.hid hn4e; have HKL := Lib.hid hkl; have HG := Lib.hid (And.intro hg1 hg2); have HXS := Lib.hid hxS
      clear hcs hx hxd hrest hSl hsucc hpe hn4 hxS hxp hL hgk hs hs64 hd hF hxm hg1 hg2 hn4e hkl HDK
      go_upto_region 3 with fail
      -- what is read
      obtain ⟨W, hW⟩ : ∃ W, W = wr := ⟨_, rfl⟩
      obtain ⟨C, hC⟩ : ∃ C : World → Prop, C = fun w9 => Below W.heap.size W w9 := ⟨_, rfl⟩
      have hCof : ∀ w9, Below W.heap.size W w9 → C w9 := fun w9 h => by rw [hC]; exact h
      have hCd : ∀ w9, C w9 → DiskAt w9 p sb mb cs V ⟨S, st.calls, st.armed, st.down⟩ := fun w9 h => by
        rw [hC] at h
        have := HD.out
        rw [← hW] at this
        exact this.touch (Touch.ofBelow (fun _ => False) h) (fun _ _ hf => hf)
      have hc0 : ∀ w9, C w9 → w9.cell? ⟨p, 0, none⟩ = some (.slice (some ⟨sb, 0, none⟩) n4 cs) := fun w9 h => by rw [HN4.out]; exact (hCd w9 h).c0
      have hc1 : ∀ w9, C w9 → w9.cell? ⟨p, 1, none⟩ = some (.map (some mb)) := fun w9 h => (hCd w9 h).c1
      have hlk : ∀ w9, C w9 → (Instr.lookup 59 (.map (some mb)) (.int .i64 x) false).run Try.prog w9 = .ok (V x) w9 := fun w9 h => by
        have := look_now (hCd w9 h) x (by have := HN4.out; omega)
        rw [if_pos HXP.out] at this
        exact this
      obtain ⟨f, hf⟩ : ∃ f, f = L.headD [] := ⟨_, rfl⟩
      have hfs : f ∈ L := by
        have := HGK2.out.1
        rw [hf]
        cases L with
        | nil => exact absurd rfl this
        | cons a r => exact List.mem_cons_self
      have hf64 : f.length = 64 := HGK2.out.2 f hfs
      have hbf : (bv f).length = 64 := by rw [bv_length, hf64]
      have hLe : L = [f] ++ pend S x := by
        have := HGK2.out.1
        unfold pend
        rw [← HLL.out, hf]
        cases L with
        | nil => exact absurd rfl this
        | cons a r => rfl
      have hsx : (safes S)[x]'(by rw [safes_length]; exact HXS.out) = f := by
        rw [hf, HLL.out, List.getD_eq_getElem?_getD, List.getElem?_eq_getElem HXS.out]
        simp [safes]
      have hld : ∀ w9, C w9 → ∀ j u, (bv f)[j]? = some u → w9.cell? ⟨sb, x * 64 + j, none⟩ = some u := fun w9 h j u hu => by
        refine (hCd w9 h).safe.cell (safes_sec HD.out.ok) x (by rw [safes_length]; exact HXS.out) j u ?_
        rw [hsx]
        exact hu
      have HC0 := Lib.hid hc0; have HC1 := Lib.hid hc1; have HLK := Lib.hid hlk; have HLD := Lib.hid hld; have HCO := Lib.hid hCof; have HCD := Lib.hid hCd; have HBF := Lib.hid hbf; have HF64 := Lib.hid hf64; have HLE := Lib.hid hLe; have HW := Lib.hid hW; have HC := Lib.hid hC; have HFE := Lib.hid hf
      have hC0 : C wr.drew := hCof _ (by rw [hW]; exact (Below.refl _ _).drew)
      have hB0 : Below W.heap.size W wr.drew := by rw [hW]; exact (Below.refl _ _).drew
      clear hc0 hc1 hlk hld hCof hCd hbf hf64 hLe hfs hsx hW hC hf
      refine wp_region_mixT C 24 [(0,true,true),(1,true,true),(2,true,true),(3,true,true),(4,true,true),(5,true,true),(6,true,true),(7,true,true),(8,true,true),(9,true,true),(10,true,true),(11,true,true),(12,true,true),(13,true,true),(15,true,true),(16,true,true),(17,true,true),(18,true,true),(19,true,true),(20,true,true),(14,false,true),(21,false,true),(22,false,true),(23,true,true),(24,false,false)] (by kernel_rfl) (by kernel_rfl) hC0 ?_
      generalize wr.drew = w3 at hB0 ⊢
      clear hC0
      simp only [List.filterMap_cons, List.filterMap_nil, List.getElem?_cons_zero, List.getElem?_cons_succ, Option.map_some]
      repeat (first
        | (refine mixT_load_cells 65 _ rfl (by rfl) sb (x * 64) rfl (bv f) _ HLD.out Try.underlying65 rfl (by rw [HBF.out]; exact info_sec1) ?_; simp only [Act.put, List.setIfInBounds_toArray, List.set_cons_succ, List.set_cons_zero])
        | (refine mixT_read (by rfl) ?_; apply Exists.intro; refine ⟨fun w9 hw9 => ?_, ?_⟩; (· have d1 := HC0.out w9 hw9; have d2 := HC1.out w9 hw9; have d3 := HLK.out w9 hw9; go_simp; rfl); simp only [Act.put, List.setIfInBounds_toArray, List.set_cons_succ, List.set_cons_zero]))
      refine mixT_step (by rfl) (fun K' hK => ?_)
      refine wp_buildSlice 58 65 1 _ rfl (bv f).toArray i0 (.agg (List.replicate 64 (Value.int .u8 0)).toArray) Try.underlying58 hi hz0 (by rw [hz1]; decide) (by rw [hz1]; decide) (fill_sec i0 hz1 _ ?_ f HF64.out _ ?_) ?_
      · rw [Array.size_map, Array.size_range]
      · rw [Array.toList_map]; rfl
      have rE := row_new w3 W.heap.size 64 1 65 (bv f).toArray hB0.size (by rw [List.size_toArray, HBF.out]) (by unfold maxLen; omega)
      have hBE : Below W.heap.size W (w3.alloc (.cells (bv f).toArray 65)) := hB0.alloc hB0.size _
      refine hK _ _ (HCO.out _ hBE) ?_
      clear hK K'
      simp only [Act.put, List.setIfInBounds_toArray, List.set_cons_succ, List.set_cons_zero]
      obtain ⟨E, hE⟩ : ∃ E, E = w3.heap.size := ⟨_, rfl⟩
      rw [← hE] at rE ⊢
      have hWE : W.heap.size ≤ E := by rw [hE]; exact hB0.size
      have hEs : (w3.alloc (.cells (bv f).toArray 65)).heap.size = E + 1 := by simp [hE]
      generalize w3.alloc (.cells (bv f).toArray 65) = wE at rE hBE hEs ⊢
      clear hE hB0
      have hrV := (HCD.out wE (HCO.out _ hBE)).rows x HXP.out
      obtain ⟨m, hm⟩ : ∃ m, m = (pend S x).length := ⟨_, rfl⟩
      have hmb : m ≤ 1000000000 := by rw [hm]; have := HPE.out; rw [this]; exact HLEN.out x
      have hrV' : wE.ownsRow 0 65 64 (V x) m (secv (pend S x)) := by rw [hm]; exact hrV
      have hLl : L.length = 1 + m := by have := HLE.out; rw [this, hm, List.length_append]; rfl
      have HLL2 := Lib.hid hLl; have HMB := Lib.hid hmb
      clear hrV hm hLl hmb
      refine mixT_step (by rfl) (fun K' hK => ?_)
      refine wp_append_at _ _ _ 58 58 rfl W.heap.size 65 i0 (.agg (List.replicate 64 (Value.int .u8 0)).toArray) 64 64 Try.underlying58 hi hz0 hz1 hz2 rfl (by decide) (.slice (some ⟨E, 0, none⟩) 1 1) 1 (bv f) rfl rE (V x) m (secv (pend S x)) rfl (src_own _ Try.underlying58 hrV' (secv_one _)) (by unfold maxLen; have := HMB.out; omega) (by have := HMB.out; omega) hBE.size ?_
      intro v' wP hrP hgP hpP
      have hBP : Below W.heap.size W wP := hBE.grown hgP hBE.size (fun k hk => by cases hk; exact hWE)
      refine hK _ _ (HCO.out _ hBP) ?_
      clear hK K'
      simp only [Act.put, List.setIfInBounds_toArray, List.set_cons_succ, List.set_cons_zero]
      have hrL : SecRow wP v' L := by
        have h1 := row_base0 hrP
        have h2 := HLE.out
        have h3 : secv L = bv f ++ secv (pend S x) := by rw [h2, secv_append]; simp [secv]
        unfold SecRow
        rw [h3, HLL2.out]
        exact h1
      obtain ⟨gv, capv, curv, rfl, hgv, _, _, _⟩ := hrL.open HGK2.out.1
      have hTP : Touch F w wP := HT.out.trans (Touch.ofBelow F (by rw [← HW.out]; exact hBP))
      have HPP := Lib.hid (HPK.out k L gv capv wP hTP hrL HGK2.out.1 HGK2.out.2 (by rw [HLL2.out]; have := HMB.out; omega))
      clear hrP hgP hpP hrL hgv hTP rE hEs hWE hrV' hBE
      refine mixT_step (by rfl) (fun K' hK => ?_)
      go_simp
      go_at_call 28
      refine HPP.out.mono ?_
      rintro e w4 ⟨rfl, hb4⟩
      have hB4 : Below W.heap.size W w4 := hBP.trans (hb4.mono hBP.size)
      rw [← HSS.out]
      refine hK _ _ (HCO.out _ hB4) ?_
      clear hK K' hBP hb4 HPP
      try simp only [Act.put, List.setIfInBounds_toArray, List.set_cons_succ, List.set_cons_zero]
      refine mixT_read (by rfl) ?_
      apply Exists.intro
      refine ⟨fun w9 hw9 => ?_, ?_⟩
      · go_simp; rfl
      try simp only [Act.put, List.setIfInBounds_toArray, List.set_cons_succ, List.set_cons_zero]
      have hd4 := HCD.out w4 (HCO.out _ hB4)
      obtain ⟨cur, hcg, hcz, hset⟩ := SecRow.set hd4.safe (safes_sec hd4.ok) x (by rw [safes_length]; exact HXS.out) s HS64.out
      have hbs : (bv s).length = 64 := by rw [bv_length, HS64.out]
      refine mixT_tail (by rfl) (fun K' hK => ?_)
      refine wp_store_cells 65 _ _ rfl sb (x * 64) (bv s) rfl rfl 65 cur hcg (by rw [hbs]; exact info_sec1) (by rw [hbs]; exact hcz) (bv_one s) ?_
      rw [hbs]
      have hT4 : Touch (fun k => k = sb) w4 (w4.setRow sb (cur.toList.take (x * 64) ++ bv s ++ cur.toList.drop (x * 64 + 64)).toArray) := touch_setRow _ _ _ rfl
      refine hK _ _ ?_
      clear hK K'
      simp only [Act.put]
      generalize w4.setRow sb (cur.toList.take (x * 64) ++ bv s ++ cur.toList.drop (x * 64 + 64)).toArray = w5 at hset hT4 ⊢
      have hT5 : Touch (fun k => k = sb) wr w5 := (Touch.ofBelow _ (by rw [← HW.out]; exact hB4)).trans hT4
      have hm5 : MapL Try.prog 3 w5 mb (nowF S V) (dirt S).length := HD.out.map.same (hT5.block mb HD.out.map.lt (fun e => HD.out.ne3 e.symm))
      have hp5 := (hT5.block p (lt_of_block HD.out.blk) HD.out.ne1).trans HD.out.blk
      have c1 : w5.cell? ⟨p, 1, none⟩ = some (.map (some mb)) := cell_at hp5 rfl
      have HM5 := Lib.hid hm5; have HT5 := Lib.hid hT5; have HSET := Lib.hid hset
      clear hm5 hT5 hset hp5 hd4 hcg hcz hbs hT4 hB4
      refine mixT_nil (NoPanic.normal ?_)
      go_wp2_with (refine wpList_delete_L rfl _ _ rfl HM5.out int_key Try.underlying59 (Go.Maps.keyOf_int_mk (P := Try.prog) (k := 3) (q := .i64) Try.underlying3 (a := (x : Int)) (WalkArith.wf_i64 (by omega))) rfl rfl ?_; intro w6 hm6 hg6)
      have hT6 : Touch (fun k => k = sb ∨ k = mb) wr w6 := (HT5.out.mono (fun k _ h => .inl h)).trans (Touch.ofGrown hg6 (fun k e => .inr (Option.some.inj e).symm))
      have hS6 : SecRow w6 (.slice (some ⟨sb, 0, none⟩) S.length cs) ((safes S).set x s) := HSET.out.touch (Touch.ofGrown (F := fun k => k = mb) hg6 (fun k e => (Option.some.inj e).symm)) (fun k e h => by cases e; exact HD.out.ne3 h)
      obtain ⟨q1, q2⟩ := disk_settle HD.out HXP.out HS64.out hT6 hS6 hm6
      have hfoot : ∀ k, (k = sb ∨ k = mb) → F k := fun k h => HFF.out k ((HF.out k).2 (h.elim (fun h => .inr (.inl h)) (fun h => .inr (.inr (.inl h)))))
      have q3 : Touch F w w6 := HT.out.trans (hT6.mono (fun k _ h => hfoot k h))
      have q4 : Disk w6 p (dfoot p sb mb V (putS S x [s])) ⟨settleN pick st.S l (k + 1), st.calls, st.armed, st.down⟩ := by
        rw [HSU.out]; exact ⟨sb, mb, cs, V, q1, fun k => Iff.rfl⟩
      have q5 : IntRow w6 w.heap.size (.slice (some ⟨g, 0, none⟩) l.length cap) l := HR.out.touch hT6 (fun k h => HFL.out k (hfoot k h))
      have Q3 := Lib.hid q3; have Q4 := Lib.hid q4; have Q5 := Lib.hid q5
      have Q2 := Lib.hid (fun k hk => HFF.out k ((HF.out k).2 (q2 k hk)))
      have HSUM := HGK.out
      clear q1 q2 q3 q4 q5 hT6 hS6 hfoot hm6 hg6
      go_roundg (gk - 1)
      case measure => omega
      case rel => exact ⟨k + 1, _, by omega, by go_num, Q4.out, Q2.out, Q3.out, Q5.out⟩
    · have hkn : k = l.length := by have := HGK.out; have := HN.out; omega
      subst hkn
      go_wp2_with fail
      exact bodyPost_end (results_none rfl _ _ _) rfl ⟨rfl, F', HDK.out, HFF.out, HT.out⟩
set_option maxHeartbeats 4000000 in
theorem settle2_walk (kb p : Nat) (F : Nat → Prop) (st : Dk) (pick : Nat → List Sec → Sec) (w : World) (h : Disk w p F st) (hlen : ∀ i, (pend st.S i).length ≤ 1000000000)
    (hpl : ∀ i L, L ≠ [] → (∀ s ∈ L, s.length = 64) → (pick i L).length = 64)
    (hpick : ∀ (j : Nat) (L : List Sec) (g cap : Nat) (w' : World), Touch F w w' → SecRow w' (.slice (some ⟨g, 0, none⟩) L.length cap) L → L ≠ [] → (∀ s ∈ L, s.length = 64) → L.length ≤ 2000000000 →
      Calls Try.prog 30 #[.int .i64 j, .slice (some ⟨g, 0, none⟩) L.length cap, .pointer (some ⟨kb, 0, none⟩)] w' fun e w'' => e = .returned (.agg (bv (pick j L)).toArray) ∧ Below w'.heap.size w' w'') :
    Calls Try.prog 27 #[.pointer (some ⟨p, 0, none⟩), .func (.func 30) #[] #[.pointer (some ⟨kb, 0, none⟩)]] w fun e w' => SettlePost p F w ⟨settleN pick st.S (dirt st.S) (dirt st.S).length, st.calls, st.armed, st.down⟩ e w' := by
  obtain ⟨i0, hi, hz0, hz1, hz2⟩ := info_sec
  have hdw := dirty_walk p F st w h
  have hok : secOk st.S := by obtain ⟨_, _, _, _, hd, _⟩ := h; exact hd.ok
  obtain ⟨l, hl⟩ : ∃ l, l = dirt st.S := ⟨_, rfl⟩
  have hlS : ∀ x ∈ l, x < st.S.length ∧ pend st.S x ≠ [] := fun x hx => dirt_mem (by rw [← hl]; exact hx)
  have hnd : l.Nodup := by rw [hl]; exact dirt_nodup _
  rw [← hl] at hdw ⊢
  have hFlt : ∀ k, F k → k < w.heap.size := fun k hk => h.lt k hk
  have HH := Lib.hid h; have HDW := Lib.hid hdw; have HLS := Lib.hid hlS; have HND := Lib.hid hnd; have HPK := Lib.hid hpick; have HPL := Lib.hid hpl; have HLEN := Lib.hid hlen; have HOK := Lib.hid hok; have HFL := Lib.hid hFlt
  clear h hdw hl hlS hnd hpick hpl hlen hok hFlt
  go_enter Try.func27, Try.ntmps27
  go_wp2_with fail
  refine HDW.out.mono ?_
  rintro e w1 ⟨v, rfl, hrow, hb⟩
  obtain ⟨ad, cap, rfl, hlc, hcm, hcs⟩ := hrow.open
  have hl31 : l.length ≤ 9223372036854775807 := by omega
  obtain ⟨n, hn⟩ : ∃ n, n = l.length := ⟨_, rfl⟩
  have HRW := Lib.hid hrow; have HB := Lib.hid hb; have HN := Lib.hid hn
  rw [← hn] at hlc hl31 ⊢
  have K0 := Lib.hid (HH.out.below hb)
  clear hrow hb hcs HH HDW
  go_wp2_with fail
  go_loopg [9] n (fun gk i wr => ∃ k F', k + gk = n ∧ i = .int .i64 (k : Nat) ∧ Disk wr p F' ⟨settleN pick st.S l k, st.calls, st.armed, st.down⟩ ∧ (∀ x, F' x → F x) ∧ Touch F w wr ∧ IntRow wr w.heap.size (.slice ad l.length cap) l)
  case atStart => exact ⟨0, F, by omega, rfl, K0.out, fun _ h => h, Touch.ofBelow F HB.out, HRW.out⟩
  case round =>
    obtain ⟨k, F', hgk, rfl, hdk, hFF, hT, hrow⟩ := hrel
    have HDK := Lib.hid hdk; have HFF := Lib.hid hFF; have HT := Lib.hid hT; have HR := Lib.hid hrow; have HGK := Lib.hid hgk
    clear hdk hFF hT hrow hgk
    by_cases hlt : (k : Int) < (n : Int)
    · have hkl : k < l.length := by have := HN.out; omega
      obtain ⟨ad', cap', hv, _, _, hc⟩ := HR.out.open
      simp only [Value.slice.injEq, true_and] at hv
      obtain ⟨rfl, rfl⟩ := hv
      rcases hc with hnil | ⟨g, rfl, hg1, hg2, hcs⟩
      · rw [hnil] at hkl; simp at hkl
      have cx := hcs k hkl
      obtain ⟨x, hx⟩ : ∃ x, x = l[k] := ⟨_, rfl⟩
      have hxm := HLS.out x (by rw [hx]; exact List.getElem_mem hkl)
      have hxd : l.getD k 0 = x := by rw [List.getD_eq_getElem?_getD, List.getElem?_eq_getElem hkl, hx]; rfl
      have hrest := settleN_rest pick st.S l HND.out k k (Nat.le_refl _) hkl
      have hSl := settleN_length pick st.S l k
      have hsucc : settleN pick st.S l (k + 1) = putS (settleN pick st.S l k) (l.getD k 0) [pick k ((settleN pick st.S l k).getD (l.getD k 0) [])] := rfl
      rw [hxd] at hrest hsucc
      have hpe : pend (settleN pick st.S l k) x = pend st.S x := by unfold pend; rw [hrest]
      rw [← hx] at cx
      obtain ⟨S, hS⟩ : ∃ S, S = settleN pick st.S l k := ⟨_, rfl⟩
      have HDK2 := HDK.out
      rw [← hS] at hrest hSl hsucc hpe HDK2
      obtain ⟨sb, mb, cs, V, hd, hF⟩ := HDK2
      have hn4 := hd.ok.2.1
      have hxS : x < S.length := by rw [hSl]; exact hxm.1
      have hxp : pend S x ≠ [] := by rw [hpe]; exact hxm.2
      obtain ⟨L, hL⟩ : ∃ L, L = S.getD x [] := ⟨_, rfl⟩
      rw [← hL] at hsucc
      have hgk := getD_ok hd.ok hxS
      rw [← hL] at hgk
      obtain ⟨s, hs⟩ : ∃ s, s = pick k L := ⟨_, rfl⟩
      have hs64 : s.length = 64 := by rw [hs]; exact HPL.out k L hgk.1 hgk.2
      rw [← hs] at hsucc
      obtain ⟨n4, hn4e⟩ : ∃ n4, n4 = S.length := ⟨_, rfl⟩
      have hx4 : (x : Int) < (n4 : Int) := by omega
      have hn44 : (n4 : Int) ≤ 4096 := by have := hn4; simp only at this; omega
      have HD := Lib.hid hd; have HF := Lib.hid hF; have HXP := Lib.hid hxp; have HGK2 := Lib.hid hgk; have HS64 := Lib.hid hs64; have HSU := Lib.hid hsucc; have HPE := Lib.hid hpe; have HXM := Lib.hid hxm; have HLL := Lib.hid hL; have HSS := Lib.hid hs; have HN4 := Lib.hid hn4e; have HKL := Lib.hid hkl; have HG := Lib.hid (And.intro hg1 hg2); have HXS := Lib.hid hxS
      clear hcs hx hxd hrest hSl hsucc hpe hn4 hxS hxp hL hgk hs hs64 hd hF hxm hg1 hg2 hn4e hkl HDK
      go_upto_region 3 with fail
      -- what is read
      obtain ⟨W, hW⟩ : ∃ W, W = wr := ⟨_, rfl⟩
      obtain ⟨C, hC⟩ : ∃ C : World → Prop, C = fun w9 => Below W.heap.size W w9 := ⟨_, rfl⟩
      have hCof : ∀ w9, Below W.heap.size W w9 → C w9 := fun w9 h => by rw [hC]; exact h
      have hCd : ∀ w9, C w9 → DiskAt w9 p sb mb cs V ⟨S, st.calls, st.armed, st.down⟩ := fun w9 h => by
        rw [hC] at h
        have := HD.out
        rw [← hW] at this
        exact this.touch (Touch.ofBelow (fun _ => False) h) (fun _ _ hf => hf)
      have hc0 : ∀ w9, C w9 → w9.cell? ⟨p, 0, none⟩ = some (.slice (some ⟨sb, 0, none⟩) n4 cs) := fun w9 h => by rw [HN4.out]; exact (hCd w9 h).c0
      have hc1 : ∀ w9, C w9 → w9.cell? ⟨p, 1, none⟩ = some (.map (some mb)) := fun w9 h => (hCd w9 h).c1
      have hlk : ∀ w9, C w9 → (Instr.lookup 59 (.map (some mb)) (.int .i64 x) false).run Try.prog w9 = .ok (V x) w9 := fun w9 h => by
        have := look_now (hCd w9 h) x (by have := HN4.out; omega)
        rw [if_pos HXP.out] at this
        exact this
      obtain ⟨f, hf⟩ : ∃ f, f = L.headD [] := ⟨_, rfl⟩
      have hfs : f ∈ L := by
        have := HGK2.out.1
        rw [hf]
        cases L with
        | nil => exact absurd rfl this
        | cons a r => exact List.mem_cons_self
      have hf64 : f.length = 64 := HGK2.out.2 f hfs
      have hbf : (bv f).length = 64 := by rw [bv_length, hf64]
      have hLe : L = [f] ++ pend S x := by
        have := HGK2.out.1
        unfold pend
        rw [← HLL.out, hf]
        cases L with
        | nil => exact absurd rfl this
        | cons a r => rfl
      have hsx : (safes S)[x]'(by rw [safes_length]; exact HXS.out) = f := by
        rw [hf, HLL.out, List.getD_eq_getElem?_getD, List.getElem?_eq_getElem HXS.out]
        simp [safes]
      have hld : ∀ w9, C w9 → ∀ j u, (bv f)[j]? = some u → w9.cell? ⟨sb, x * 64 + j, none⟩ = some u := fun w9 h j u hu => by
        refine (hCd w9 h).safe.cell (safes_sec HD.out.ok) x (by rw [safes_length]; exact HXS.out) j u ?_
        rw [hsx]
        exact hu
      have HC0 := Lib.hid hc0; have HC1 := Lib.hid hc1; have HLK := Lib.hid hlk; have HLD := Lib.hid hld; have HCO := Lib.hid hCof; have HCD := Lib.hid hCd; have HBF := Lib.hid hbf; have HF64 := Lib.hid hf64; have HLE := Lib.hid hLe; have HW := Lib.hid hW; have HC := Lib.hid hC; have HFE := Lib.hid hf
      have hC0 : C wr.drew := hCof _ (by rw [hW]; exact (Below.refl _ _).drew)
      have hB0 : Below W.heap.size W wr.drew := by rw [hW]; exact (Below.refl _ _).drew
      clear hc0 hc1 hlk hld hCof hCd hbf hf64 hLe hfs hsx hW hC hf
      refine wp_region_mixT C 24 [(0,true,true),(1,true,true),(2,true,true),(3,true,true),(4,true,true),(5,true,true),(6,true,true),(7,true,true),(8,true,true),(9,true,true),(10,true,true),(11,true,true),(12,true,true),(13,true,true),(15,true,true),(16,true,true),(17,true,true),(18,true,true),(19,true,true),(20,true,true),(14,false,true),(21,false,true),(22,false,true),(23,true,true),(24,false,false)] (by kernel_rfl) (by kernel_rfl) hC0 ?_
      generalize wr.drew = w3 at hB0 ⊢
      clear hC0
      simp only [List.filterMap_cons, List.filterMap_nil, List.getElem?_cons_zero, List.getElem?_cons_succ, Option.map_some]
      repeat (first
        | (refine mixT_load_cells 65 _ rfl (by rfl) sb (x * 64) rfl (bv f) _ HLD.out Try.underlying65 rfl (by rw [HBF.out]; exact info_sec1) ?_; simp only [Act.put, List.setIfInBounds_toArray, List.set_cons_succ, List.set_cons_zero])
        | (refine mixT_read (by rfl) ?_; apply Exists.intro; refine ⟨fun w9 hw9 => ?_, ?_⟩; (· have d1 := HC0.out w9 hw9; have d2 := HC1.out w9 hw9; have d3 := HLK.out w9 hw9; go_simp; rfl); simp only [Act.put, List.setIfInBounds_toArray, List.set_cons_succ, List.set_cons_zero]))
      refine mixT_step (by rfl) (fun K' hK => ?_)
      refine wp_buildSlice 58 65 1 _ rfl (bv f).toArray i0 (.agg (List.replicate 64 (Value.int .u8 0)).toArray) Try.underlying58 hi hz0 (by rw [hz1]; decide) (by rw [hz1]; decide) (fill_sec i0 hz1 _ ?_ f HF64.out _ ?_) ?_
      · rw [Array.size_map, Array.size_range]
      · rw [Array.toList_map]; rfl
      have rE := row_new w3 W.heap.size 64 1 65 (bv f).toArray hB0.size (by rw [List.size_toArray, HBF.out]) (by unfold maxLen; omega)
      have hBE : Below W.heap.size W (w3.alloc (.cells (bv f).toArray 65)) := hB0.alloc hB0.size _
      refine hK _ _ (HCO.out _ hBE) ?_
      clear hK K'
      simp only [Act.put, List.setIfInBounds_toArray, List.set_cons_succ, List.set_cons_zero]
      obtain ⟨E, hE⟩ : ∃ E, E = w3.heap.size := ⟨_, rfl⟩
      rw [← hE] at rE ⊢
      have hWE : W.heap.size ≤ E := by rw [hE]; exact hB0.size
      have hEs : (w3.alloc (.cells (bv f).toArray 65)).heap.size = E + 1 := by simp [hE]
      generalize w3.alloc (.cells (bv f).toArray 65) = wE at rE hBE hEs ⊢
      clear hE hB0
      have hrV := (HCD.out wE (HCO.out _ hBE)).rows x HXP.out
      obtain ⟨m, hm⟩ : ∃ m, m = (pend S x).length := ⟨_, rfl⟩
      have hmb : m ≤ 1000000000 := by rw [hm]; have := HPE.out; rw [this]; exact HLEN.out x
      have hrV' : wE.ownsRow 0 65 64 (V x) m (secv (pend S x)) := by rw [hm]; exact hrV
      have hLl : L.length = 1 + m := by have := HLE.out; rw [this, hm, List.length_append]; rfl
      have HLL2 := Lib.hid hLl; have HMB := Lib.hid hmb
      clear hrV hm hLl hmb
      refine mixT_step (by rfl) (fun K' hK => ?_)
      refine wp_append_at _ _ _ 58 58 rfl W.heap.size 65 i0 (.agg (List.replicate 64 (Value.int .u8 0)).toArray) 64 64 Try.underlying58 hi hz0 hz1 hz2 rfl (by decide) (.slice (some ⟨E, 0, none⟩) 1 1) 1 (bv f) rfl rE (V x) m (secv (pend S x)) rfl (src_own _ Try.underlying58 hrV' (secv_one _)) (by unfold maxLen; have := HMB.out; omega) (by have := HMB.out; omega) hBE.size ?_
      intro v' wP hrP hgP hpP
      have hBP : Below W.heap.size W wP := hBE.grown hgP hBE.size (fun k hk => by cases hk; exact hWE)
      refine hK _ _ (HCO.out _ hBP) ?_
      clear hK K'
      simp only [Act.put, List.setIfInBounds_toArray, List.set_cons_succ, List.set_cons_zero]
      have hrL : SecRow wP v' L := by
        have h1 := row_base0 hrP
        have h2 := HLE.out
        have h3 : secv L = bv f ++ secv (pend S x) := by rw [h2, secv_append]; simp [secv]
        unfold SecRow
        rw [h3, HLL2.out]
        exact h1
      obtain ⟨gv, capv, curv, rfl, hgv, _, _, _⟩ := hrL.open HGK2.out.1
      have hTP : Touch F w wP := HT.out.trans (Touch.ofBelow F (by rw [← HW.out]; exact hBP))
      have HPP := Lib.hid (HPK.out k L gv capv wP hTP hrL HGK2.out.1 HGK2.out.2 (by rw [HLL2.out]; have := HMB.out; omega))
      clear hrP hgP hpP hrL hgv hTP rE hEs hWE hrV' hBE
      refine mixT_step (by rfl) (fun K' hK => ?_)
      go_simp
      go_at_call 30
      refine HPP.out.mono ?_
      rintro e w4 ⟨rfl, hb4⟩
      have hB4 : Below W.heap.size W w4 := hBP.trans (hb4.mono hBP.size)
      rw [← HSS.out]
      refine hK _ _ (HCO.out _ hB4) ?_
      clear hK K' hBP hb4 HPP
      try simp only [Act.put, List.setIfInBounds_toArray, List.set_cons_succ, List.set_cons_zero]
      refine mixT_read (by rfl) ?_
      apply Exists.intro
      refine ⟨fun w9 hw9 => ?_, ?_⟩
      · go_simp; rfl
      try simp only [Act.put, List.setIfInBounds_toArray, List.set_cons_succ, List.set_cons_zero]
      have hd4 := HCD.out w4 (HCO.out _ hB4)
      obtain ⟨cur, hcg, hcz, hset⟩ := SecRow.set hd4.safe (safes_sec hd4.ok) x (by rw [safes_length]; exact HXS.out) s HS64.out
      have hbs : (bv s).length = 64 := by rw [bv_length, HS64.out]
      refine mixT_tail (by rfl) (fun K' hK => ?_)
      refine wp_store_cells 65 _ _ rfl sb (x * 64) (bv s) rfl rfl 65 cur hcg (by rw [hbs]; exact info_sec1) (by rw [hbs]; exact hcz) (bv_one s) ?_
      rw [hbs]
      have hT4 : Touch (fun k => k = sb) w4 (w4.setRow sb (cur.toList.take (x * 64) ++ bv s ++ cur.toList.drop (x * 64 + 64)).toArray) := touch_setRow _ _ _ rfl
      refine hK _ _ ?_
      clear hK K'
      simp only [Act.put]
      generalize w4.setRow sb (cur.toList.take (x * 64) ++ bv s ++ cur.toList.drop (x * 64 + 64)).toArray = w5 at hset hT4 ⊢
      have hT5 : Touch (fun k => k = sb) wr w5 := (Touch.ofBelow _ (by rw [← HW.out]; exact hB4)).trans hT4
      have hm5 : MapL Try.prog 3 w5 mb (nowF S V) (dirt S).length := HD.out.map.same (hT5.block mb HD.out.map.lt (fun e => HD.out.ne3 e.symm))
      have hp5 := (hT5.block p (lt_of_block HD.out.blk) HD.out.ne1).trans HD.out.blk
      have c1 : w5.cell? ⟨p, 1, none⟩ = some (.map (some mb)) := cell_at hp5 rfl
      have HM5 := Lib.hid hm5; have HT5 := Lib.hid hT5; have HSET := Lib.hid hset
      clear hm5 hT5 hset hp5 hd4 hcg hcz hbs hT4 hB4
      refine mixT_nil (NoPanic.normal ?_)
      go_wp2_with (refine wpList_delete_L rfl _ _ rfl HM5.out int_key Try.underlying59 (Go.Maps.keyOf_int_mk (P := Try.prog) (k := 3) (q := .i64) Try.underlying3 (a := (x : Int)) (WalkArith.wf_i64 (by omega))) rfl rfl ?_; intro w6 hm6 hg6)
      have hT6 : Touch (fun k => k = sb ∨ k = mb) wr w6 := (HT5.out.mono (fun k _ h => .inl h)).trans (Touch.ofGrown hg6 (fun k e => .inr (Option.some.inj e).symm))
      have hS6 : SecRow w6 (.slice (some ⟨sb, 0, none⟩) S.length cs) ((safes S).set x s) := HSET.out.touch (Touch.ofGrown (F := fun k => k = mb) hg6 (fun k e => (Option.some.inj e).symm)) (fun k e h => by cases e; exact HD.out.ne3 h)
      obtain ⟨q1, q2⟩ := disk_settle HD.out HXP.out HS64.out hT6 hS6 hm6
      have hfoot : ∀ k, (k = sb ∨ k = mb) → F k := fun k h => HFF.out k ((HF.out k).2 (h.elim (fun h => .inr (.inl h)) (fun h => .inr (.inr (.inl h)))))
      have q3 : Touch F w w6 := HT.out.trans (hT6.mono (fun k _ h => hfoot k h))
      have q4 : Disk w6 p (dfoot p sb mb V (putS S x [s])) ⟨settleN pick st.S l (k + 1), st.calls, st.armed, st.down⟩ := by
        rw [HSU.out]; exact ⟨sb, mb, cs, V, q1, fun k => Iff.rfl⟩
      have q5 : IntRow w6 w.heap.size (.slice (some ⟨g, 0, none⟩) l.length cap) l := HR.out.touch hT6 (fun k h => HFL.out k (hfoot k h))
      have Q3 := Lib.hid q3; have Q4 := Lib.hid q4; have Q5 := Lib.hid q5
      have Q2 := Lib.hid (fun k hk => HFF.out k ((HF.out k).2 (q2 k hk)))
      have HSUM := HGK.out
      clear q1 q2 q3 q4 q5 hT6 hS6 hfoot hm6 hg6
      go_roundg (gk - 1)
      case measure => omega
      case rel => exact ⟨k + 1, _, by omega, by go_num, Q4.out, Q2.out, Q3.out, Q5.out⟩
    · have hkn : k = l.length := by have := HGK.out; have := HN.out; omega
      subst hkn
      go_wp2_with fail
      exact bodyPost_end (results_none rfl _ _ _) rfl ⟨rfl, F', HDK.out, HFF.out, HT.out⟩
end Go.Proofs.Ytcabocppplokgaa
