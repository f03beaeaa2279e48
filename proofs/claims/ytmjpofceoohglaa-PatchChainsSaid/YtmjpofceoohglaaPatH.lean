/-
  Layer 41: Chain, Through.
-/
import Derived.Test.YtmjpofceoohglaaPatE
import Derived.Test.YtmjpofceoohglaaStrs
import Derived.Test.YtmjpofceoohglaaMix
import Derived.Test.YtmjpofceoohglaaLebG0
import Derived.Test.YtmjpofceoohglaaOwn
namespace Go.Proofs.Ytmjpofceoohglaa
open Go.RowKit

abbrev Pt := Int × Int × ByteArray
/-- patches' cells -/
def ptv (l : List Pt) : List Value := l.flatMap fun p => [Value.int .i64 p.1, .int .i64 p.2.1, .string p.2.2]
theorem ptv_append (a b : List Pt) : ptv (a ++ b) = ptv a ++ ptv b := by simp [ptv]
theorem ptv_length (l : List Pt) : (ptv l).length = l.length * 3 := by
  induction l with
  | nil => rfl
  | cons p r ih =>
    have h : ptv (p :: r) = [Value.int .i64 p.1, .int .i64 p.2.1, .string p.2.2] ++ ptv r := by simp [ptv]
    rw [h, List.length_append, ih]
    simp; omega
theorem ptv_one (l : List Pt) : ∀ u ∈ ptv l, u.oneCell' = true := by
  intro u hu
  simp only [ptv, List.mem_flatMap, List.mem_cons, List.not_mem_nil, or_false] at hu
  obtain ⟨p, _, rfl | rfl | rfl⟩ := hu <;> rfl
theorem ptv_get : ∀ (l : List Pt) (i : Nat) (h : i < l.length) (j : Nat), j < 3 → (ptv l)[i * 3 + j]? = [Value.int .i64 l[i].1, .int .i64 l[i].2.1, .string l[i].2.2][j]?
  | [], i, h, _, _ => absurd h (by simp)
  | p :: r, 0, _, j, hj => by
    have h : ptv (p :: r) = [Value.int .i64 p.1, .int .i64 p.2.1, .string p.2.2] ++ ptv r := by simp [ptv]
    rw [h, Nat.zero_mul, Nat.zero_add, List.getElem?_append_left (by simpa using hj)]
    rfl
  | p :: r, i + 1, hi, j, hj => by
    have h : ptv (p :: r) = [Value.int .i64 p.1, .int .i64 p.2.1, .string p.2.2] ++ ptv r := by simp [ptv]
    rw [h, List.getElem?_append_right (by simp; omega), show (i + 1) * 3 + j - [Value.int .i64 p.1, .int .i64 p.2.1, .string p.2.2].length = i * 3 + j by simp; omega]
    exact ptv_get r i (by simpa using hi) j hj
/-- these patches lie there -/
def ptsAt (w : World) (ad : Option Addr) (l : List Pt) : Prop :=
  l = [] ∨ ∃ b off, ad = some ⟨b, off, none⟩ ∧ b < w.heap.size ∧ ∀ i (h : i < l.length), ∀ (j : Nat) (u : Value), [Value.int .i64 l[i].1, .int .i64 l[i].2.1, .string l[i].2.2][j]? = some u → w.cell? ⟨b, off + i * 3 + j, none⟩ = some u
theorem ptsAt_below {w w' : World} {B : Nat} {ad : Option Addr} {l : List Pt} (h : ptsAt w ad l) (hB : w.heap.size ≤ B) (hb : Below B w w') : ptsAt w' ad l := by
  rcases h with h | ⟨b, off, h1, h2, h3⟩
  · exact .inl h
  · refine .inr ⟨b, off, h1, by have := hb.size; omega, fun i hi j u hu => ?_⟩
    rw [hb.cell (p := ⟨b, off + i * 3 + j, none⟩) (by simp; omega)]
    exact h3 i hi j u hu
theorem ptsAt_own {w : World} {base e : Nat} {v : Value} {l : List Pt} (h : w.ownsRow base e 3 v l.length (ptv l)) : ∃ ad cap, v = .slice ad l.length cap ∧ ptsAt w ad l := by
  rcases h.2 with ⟨h1, h2⟩ | ⟨g, cap, cur, hv, _, hg, _⟩
  · exact ⟨none, 0, by rw [h1, h2], .inl (List.eq_nil_of_length_eq_zero h2)⟩
  · refine ⟨some ⟨g, 0, none⟩, cap, hv, .inr ⟨g, 0, rfl, lt_of_block hg, fun i hi j u hu => ?_⟩⟩
    subst hv
    have hj : j < 3 := by
      rcases Nat.lt_or_ge j 3 with h | h
      · exact h
      · rw [List.getElem?_eq_none (by simpa using h)] at hu; cases hu
    rw [Nat.zero_add, h.cellAt (i * 3 + j) (by omega), ptv_get l i hi j hj]
    exact hu

/-- how one text becomes the next one -/
def mkP (a b : ByteArray) : Pt := ((headN a b : Nat), (tailN a b : Nat), midB a b)
def chainP : List ByteArray → List Pt
  | [] => []
  | a :: r => match r with
    | [] => []
    | b :: _ => mkP a b :: chainP r
theorem chainP_length : ∀ l : List ByteArray, (chainP l).length = l.length - 1
  | [] => rfl
  | [a] => rfl
  | a :: b :: r => by
    have := chainP_length (b :: r)
    simp only [chainP, List.length_cons] at this ⊢
    omega
theorem chainP_get : ∀ (l : List ByteArray) (i : Nat) (h : i < (chainP l).length) (h1 : i < l.length) (h2 : i + 1 < l.length), (chainP l)[i] = mkP l[i] l[i + 1]
  | [], i, h, _, _ => absurd h (by simp [chainP])
  | [a], i, h, _, _ => absurd h (by simp [chainP])
  | a :: b :: r, 0, _, _, _ => rfl
  | a :: b :: r, i + 1, h, h1, h2 => chainP_get (b :: r) i (by simpa [chainP] using h) (by simpa using h1) (by simpa using h2)
theorem chainP_take (l : List ByteArray) (i : Nat) (h2 : i + 1 < l.length) : (chainP l).take (i + 1) = (chainP l).take i ++ [mkP l[i] l[i + 1]] := by
  have hl := chainP_length l
  rw [← chainP_get l i (by omega) (by omega) h2, List.take_append_getElem]

theorem info_patch : (Try.prog.info? 23).map (fun i => (i.zero, i.size, i.bytes)) = some (some (.agg #[.int .i64 0, .int .i64 0, .string ⟨#[]⟩]), 3, 32) := by kernel_rfl

set_option maxHeartbeats 2000000 in
theorem chain_walk (ad : Option Addr) (cap : Nat) (l : List ByteArray) (w : World) (hl : strsAt w ad l) (hn : l.length ≤ 20) (hs : ∀ x ∈ l, x.size ≤ 400) :
    Calls Try.prog 9 #[.slice ad l.length cap] w fun e w' => ∃ v, e = .returned v ∧ w'.ownsRow w.heap.size 23 3 v (l.length - 1) (ptv (chainP l)) ∧ Below w.heap.size w w' := by
  obtain ⟨i0, hi, hz0, hz1, hz2⟩ := info_parts info_patch
  have HL := Lib.hid hl; have HS := Lib.hid hs
  obtain ⟨B, hB⟩ : ∃ B, B = w.heap.size := ⟨_, rfl⟩
  rw [← hB]
  have HB := Lib.hid hB
  clear hl hs hB
  go_enter Try.func9, Try.ntmps9
  go_wp2_with fail
  go_loopg [3, 4] l.length (fun gk vo vi wr => ∃ j : Nat, j + gk = l.length ∧ j ≤ l.length - 1 ∧ vi = .int .i64 ((j + 1 : Nat) : Int) ∧ wr.ownsRow B 23 3 vo j (ptv ((chainP l).take j)) ∧ Below B w wr)
  case atStart => exact ⟨0, by omega, by omega, rfl, World.ownsRow_nil _ _ _ _, Below.refl _ _⟩
  case round =>
    obtain ⟨j, hgk, hj1, rfl, hown, hb⟩ := hrel
    have HO := Lib.hid hown; have HBB := Lib.hid hb
    clear hown hb
    by_cases hlt : j + 1 < l.length
    · obtain ⟨ad2, cap2, rfl⟩ := own_form HO.out
      rcases HL.out with hnil | ⟨bl, off, rfl, hbl, hcs⟩
      · simp [hnil] at hlt
      obtain ⟨g, rfl⟩ : ∃ g, gk = g + 1 := ⟨gk - 1, by omega⟩
      have htk := chainP_take l j hlt
      obtain ⟨x, hx⟩ : ∃ x, x = l[j] := ⟨_, rfl⟩
      obtain ⟨y, hy⟩ : ∃ y, y = l[j + 1] := ⟨_, rfl⟩
      have hc0 := hcs j (by omega)
      have hc1 := hcs (j + 1) hlt
      rw [← hx] at hc0; rw [← hy] at hc1
      rw [← hx, ← hy] at htk
      have hxs : x.size ≤ 400 := by rw [hx]; exact HS.out _ (List.getElem_mem _)
      have hys : y.size ≤ 400 := by rw [hy]; exact HS.out _ (List.getElem_mem _)
      have hblB : bl < B := by rw [HB.out]; exact hbl
      have c0 : ∀ z : Sub B wr, z.val.cell? ⟨bl, off + j, none⟩ = some (.string x) := fun z => sub_cell ((HBB.out.cell (p := ⟨bl, off + j, none⟩) hblB).trans hc0) hblB z
      have c1 : ∀ z : Sub B wr, z.val.cell? ⟨bl, off + (j + 1), none⟩ = some (.string y) := fun z => sub_cell ((HBB.out.cell (p := ⟨bl, off + (j + 1), none⟩) hblB).trans hc1) hblB z
      have hw : IntKind.i64.wrap (((j + 1 : Nat) : Int) - 1) = ((j : Nat) : Int) := by rw [IntWalk.i64_in _ ⟨by omega, by omega⟩]; omega
      have HTK := Lib.hid htk; have HXS := Lib.hid hxs; have HYS := Lib.hid hys
      clear hcs hx hy hc0 hc1 htk hxs hys hbl
      obtain ⟨k, hk⟩ : ∃ k, k = j + 1 := ⟨_, rfl⟩
      rw [← hk] at hlt c1 hw ⊢
      have HK := Lib.hid hk
      clear hk
      go_upto_region 5 with fail
      refine wp_region_mix (inSub B wr) [(0,true),(1,true),(2,true),(3,true),(4,true),(5,true),(6,true),(7,true),(8,true),(9,true),(10,false),(11,false),(12,false),(13,true)] (by kernel_rfl) (by kernel_rfl) (inSub_of (Below.refl _ _).drew) ?_
      have hb0 : Below B wr wr.drew := (Below.refl _ _).drew
      have hr0 : wr.drew.ownsRow B 23 3 (.slice ad2 j cap2) j (ptv ((chainP l).take j)) := ownsRow_drew HO.out
      generalize wr.drew = w0 at hb0 hr0 ⊢
      simp only [List.filterMap_cons, List.filterMap_nil, List.getElem?_cons_zero, List.getElem?_cons_succ, Option.map_some]
      have hjl : j < l.length := by have := HK.out; omega
      repeat ((with_reducible refine mix_read ?_ ?_); (· rfl); apply Exists.intro; refine ⟨fun w9 hw9 => ?_, ?_⟩; (· obtain ⟨x9, rfl⟩ := hw9; have d0 := c0 x9; have d1 := c1 x9; go_simp; rfl); simp only [Act.put, List.setIfInBounds_toArray, List.set_cons_succ, List.set_cons_zero])
      with_reducible refine mix_step ?_ (fun K' hK => ?_)
      · rfl
      go_simp
      go_at_call 14
      refine (make_walk x y _ (by have := HXS.out; omega) (by have := HYS.out; omega)).mono ?_
      rintro e w1 ⟨rfl, hb1⟩
      have hBw0 : B ≤ w0.heap.size := by have h1 := HBB.out.size; have h2 := hb0.size; have h3 := HB.out; omega
      have hb01 := hb0.trans (hb1.mono hBw0)
      refine hK _ _ (inSub_of hb01) ?_
      clear hK K'
      try simp only [Act.put, List.setIfInBounds_toArray, List.set_cons_succ, List.set_cons_zero]
      have hr1 := own_below hr0 hb1 (Nat.le_refl _)
      have hBw1 : B ≤ w1.heap.size := Nat.le_trans hBw0 hb1.size
      clear hr0 hb0 hb1 hBw0
      with_reducible refine mix_step ?_ (fun K' hK => ?_)
      · rfl
      unfold pat
      go_simp
      have hb2 := hb01.alloc hBw1 (.cells #[.int .i64 (headN x y : Nat), .int .i64 (tailN x y : Nat), .string (midB x y)] 23)
      have hr2 := hr1.alloc (.cells #[.int .i64 (headN x y : Nat), .int .i64 (tailN x y : Nat), .string (midB x y)] 23)
      have hn2 := row_new w1 B 3 1 23 #[.int .i64 (headN x y : Nat), .int .i64 (tailN x y : Nat), .string (midB x y)] hBw1 rfl (by unfold maxLen; omega)
      refine hK _ _ (inSub_of hb2) ?_
      clear hK K' hr1 hb01
      try simp only [Act.put, List.setIfInBounds_toArray, List.set_cons_succ, List.set_cons_zero]
      have hs2 : (w1.alloc (.cells #[.int .i64 (headN x y : Nat), .int .i64 (tailN x y : Nat), .string (midB x y)] 23)).heap.size = w1.heap.size + 1 := by simp
      have hrw : ptv [mkP x y] = [.int .i64 (headN x y : Nat), .int .i64 (tailN x y : Nat), .string (midB x y)] := rfl
      have HRW := Lib.hid hrw
      clear hrw
      generalize w1.alloc (.cells #[.int .i64 (headN x y : Nat), .int .i64 (tailN x y : Nat), .string (midB x y)] 23) = w2 at hb2 hr2 hn2 hs2 ⊢
      with_reducible refine mix_step ?_ (fun K' hK => ?_)
      · rfl
      refine wp_append_at _ _ _ 30 30 rfl B 23 i0 (.agg #[.int .i64 0, .int .i64 0, .string ⟨#[]⟩]) 3 32 Try.underlying30 hi hz0 hz1 hz2 rfl (by decide) _ j (ptv ((chainP l).take j)) rfl hr2 _ 1 _ rfl (src_own _ Try.underlying30 hn2 (by rw [← HRW.out]; exact ptv_one _)) (by unfold maxLen; omega) (by omega) (by omega) ?_
      intro v2 w3 hown2 hgrow hpl
      have hb3 : Below B wr w3 := below_of_grown hb2 hgrow (by omega) (fun k hk => (hr2.lt k hk).1)
      refine hK _ _ (inSub_of hb3) ?_
      clear hK K'
      try simp only [Act.put, List.setIfInBounds_toArray, List.set_cons_succ, List.set_cons_zero]
      rw [← HRW.out, ← ptv_append, ← HTK.out] at hown2
      have HO2 := Lib.hid hown2; have HB3 := Lib.hid (HBB.out.trans hb3)
      clear hown2 hgrow hpl hr2 hn2 hb2 hb3 hs2 hBw1
      repeat ((with_reducible refine mix_read ?_ ?_); (· rfl); apply Exists.intro; refine ⟨fun w9 hw9 => ?_, ?_⟩; (· go_simp; rfl); simp only [Act.put, List.setIfInBounds_toArray, List.set_cons_succ, List.set_cons_zero])
      with_reducible refine mix_nil (NoPanic.normal ?_)
      go_wp2_with fail
      go_roundg g
      case measure => have := HK.out; omega
      case rel => exact ⟨j + 1, by have := HK.out; omega, by have := HK.out; omega, by have := HK.out; go_num, HO2.out, HB3.out⟩
    · go_wp2_with fail
      go_ret
      obtain rfl : j = l.length - 1 := by omega
      have h := HO.out
      rw [List.take_of_length_le (by rw [chainP_length]; exact Nat.le_refl _)] at h
      exact ⟨_, rfl, h, HBB.out⟩
end Go.Proofs.Ytmjpofceoohglaa
