/-
  Layer 1: Lay.
-/
import Derived.Test.YtfiigmimhdnpnaaLebC
import Derived.WalkMore
namespace Go.Proofs.Ytfiigmimhdnpnaa
open Go.RowKit

/-- these fields lie there -/
def fldsAt (w : World) (ad : Option Addr) (fs : List Fld) : Prop :=
  fs = [] ∨ ∃ b off, ad = some ⟨b, off, none⟩ ∧ b < w.heap.size ∧ ∀ i (h : i < fs.length), ∀ (j : Nat) (u : Value), [Value.int .i64 fs[i].1, .string fs[i].2.1, .bool fs[i].2.2][j]? = some u → w.cell? ⟨b, off + i * 3 + j, none⟩ = some u
theorem fldsAt_below {w w' : World} {B : Nat} {ad : Option Addr} {l : List Fld} (h : fldsAt w ad l) (hB : w.heap.size ≤ B) (hb : Below B w w') : fldsAt w' ad l := by
  rcases h with h | ⟨b, off, h1, h2, h3⟩
  · exact .inl h
  · refine .inr ⟨b, off, h1, by have := hb.size; omega, fun i hi j u hu => ?_⟩
    rw [hb.cell (p := ⟨b, off + i * 3 + j, none⟩) (by simp; omega)]
    exact h3 i hi j u hu

def badF (f : Fld) : Bool := !f.2.2 && decide (f.1 < 0)
def layB (fs : List Fld) : List UInt8 := fs.foldl (fun l f => putF l f.1 f.2.1 f.2.2) []
/-- what Lay answers -/
def lay (fs : List Fld) : ByteArray × Int :=
  if fs.any badF = true then (⟨#[]⟩, 3) else if 65536 < (layB fs).length then (⟨#[]⟩, 4) else (⟨(layB fs).toArray⟩, 0)
theorem layB_snoc (fs : List Fld) (f : Fld) : layB (fs ++ [f]) = putF (layB fs) f.1 f.2.1 f.2.2 := by simp [layB]
theorem layB_le : ∀ (fs : List Fld) (l : List UInt8), (∀ f ∈ fs, f.1 ≤ 9223372036854775807 ∧ f.2.1.size ≤ 9223372036854775807) → l.length ≤ 140000 → (fs.foldl (fun l f => putF l f.1 f.2.1 f.2.2) l).length ≤ 140000
  | [], l, _, hl => hl
  | f :: r, l, h, hl => layB_le r _ (fun g hg => h g (by simp [hg])) (putF_le l f.1 f.2.1 f.2.2 hl (h f (by simp)).1 (h f (by simp)).2)

set_option maxHeartbeats 4000000 in
theorem lay_walk (ad : Option Addr) (cap : Nat) (fs : List Fld) (w : World) (hl : fldsAt w ad fs) (hs : fs.length ≤ 9223372036854775807) (hok : ∀ f ∈ fs, f.1 ≤ 9223372036854775807 ∧ f.2.1.size ≤ 9223372036854775807) :
    Calls Try.prog 19 #[.slice ad fs.length cap] w fun e w' => e = .returned (.tuple #[.string (lay fs).1, .int .i64 (lay fs).2]) ∧ Below w.heap.size w w' := by
  have hzv : ∀ w, (zeroValue 43).run Try.prog w = .ok (.agg #[.int .i64 0, .string ⟨#[]⟩, .bool false]) w := fun _ => by kernel_rfl
  have HL := Lib.hid hl
  have HOK := Lib.hid hok
  clear hl hok
  go_enter Try.func19, Try.ntmps19
  go_upto_region 3 with fail
  obtain ⟨q, hq⟩ : ∃ q, q = w.heap.size := ⟨_, rfl⟩
  have g0 := heap_alloc_top w (.cells #[.slice none 0 0] 38)
  have hB := (Below.refl w.heap.size w).alloc (Nat.le_refl _) (.cells #[.slice none 0 0] 38)
  rw [← hq] at g0 hB ⊢
  generalize w.alloc (.cells #[.slice none 0 0] 38) = W at g0 hB ⊢
  have HQ := Lib.hid hq; have HB := Lib.hid hB; have G0 := Lib.hid g0
  clear hq hB g0
  go_wp2_with fail
  go_loopg [13] fs.length (fun gk i wr => ∃ k : Nat, k + gk = fs.length ∧ i = .int .i64 k ∧ (∀ j (h : j < fs.length), j < k → badF fs[j] = false) ∧ wr.heap[q]? = some (.cells #[.slice none 0 0] 38 (0, 0)) ∧ Below q w wr)
  case atStart => exact ⟨0, by omega, rfl, fun j _ h => absurd h (by omega), G0.out, HB.out⟩
  case round =>
    obtain ⟨k, hgk, rfl, hgood, hqq, hb⟩ := hrel
    have HGD := Lib.hid hgood; have HQQ := Lib.hid hqq; have HBB := Lib.hid hb
    clear hgood hqq hb
    by_cases hlt : k < fs.length
    · have hat := fldsAt_below HL.out (Nat.le_of_eq HQ.out.symm) HBB.out
      rcases hat with hat | ⟨b, off, rfl, hbl, hcs⟩
      · simp [hat] at hlt
      have hcc := hcs k hlt
      obtain ⟨x, hx⟩ : ∃ x, x = fs[k] := ⟨_, rfl⟩
      rw [← hx] at hcc
      have HX := Lib.hid hx
      have HCC := Lib.hid hcc
      clear hcs hx hcc
      obtain ⟨n, s, t⟩ := x
      go_upto_region 6 with (refine wpList_cells 43 _ rfl b (off + k * 3) rfl rfl [.int .i64 n, .string s, .bool t] _ HCC.out Try.underlying43 rfl (by kernel_rfl) ?_)
      have e1 := (heap_alloc_lt wr (.cells #[.int .i64 n, .string s, .bool t] 43) q (lt_of_block HQQ.out)).trans HQQ.out
      have e2 := heap_alloc_top wr (.cells #[.int .i64 n, .string s, .bool t] 43)
      have eB := HBB.out.alloc (by have := lt_of_block HQQ.out; omega) (.cells #[.int .i64 n, .string s, .bool t] 43)
      obtain ⟨p, hp⟩ : ∃ p, p = wr.heap.size := ⟨_, rfl⟩
      rw [← hp] at e2 ⊢
      generalize wr.alloc (.cells #[.int .i64 n, .string s, .bool t] 43) = W3 at e1 e2 eB ⊢
      have c0 : W3.cell? ⟨p, 0, none⟩ = some (.int .i64 n) := by rw [cell_of_row W3 p 0 _ _ _ e2]; rfl
      have c2 : W3.cell? ⟨p, 2, none⟩ = some (.bool t) := by rw [cell_of_row W3 p 2 _ _ _ e2]; rfl
      have K1 := Lib.hid e1; have KB := Lib.hid eB
      clear e1 e2 eB hp HCC hbl
      have hnext : badF (n, s, t) = false → ∀ j (h : j < fs.length), j < k + 1 → badF fs[j] = false := fun hb j h hj => by
        by_cases hjk : j < k
        · exact HGD.out j h hjk
        · obtain rfl : j = k := by omega
          rw [← HX.out]; exact hb
      have HNX := Lib.hid hnext
      clear hnext
      cases t with
      | true =>
        go_wp2_with fail
        go_roundg (gk - 1)
        case measure => omega
        case rel => exact ⟨k + 1, by omega, by go_num, HNX.out (by simp [badF]), K1.out, KB.out⟩
      | false =>
        by_cases hn : n < 0
        · have hbad : fs.any badF = true := by
            rw [List.any_eq_true]
            exact ⟨fs[k], List.getElem_mem _, by rw [← HX.out]; simp [badF, hn]⟩
          have HBAD := Lib.hid hbad
          clear hbad
          go_wp2_with fail
          go_ret2
          exact ⟨by unfold lay; rw [if_pos HBAD.out]; rfl, KB.out.mono (Nat.le_of_eq HQ.out.symm)⟩
        · have HNN := Lib.hid hn
          go_wp2_with fail
          go_roundg (gk - 1)
          case measure => omega
          case rel => exact ⟨k + 1, by omega, by go_num, HNX.out (by have := HNN.out; simp [badF]; omega), K1.out, KB.out⟩
    · have hgood : fs.any badF = false := by
        rw [List.any_eq_false]
        intro f hf
        obtain ⟨j, hj, rfl⟩ := List.mem_iff_getElem.1 hf
        rw [HGD.out j hj (by omega)]
        simp
      have HG := Lib.hid hgood
      clear hgood HGD
      go_wp2_with fail
      go_loopg [28] fs.length (fun gk i wr => ∃ (k : Nat) (vb : Value), k + gk = fs.length ∧ i = .int .i64 k ∧ wr.heap[q]? = some (.cells #[vb] 38 (0, 0)) ∧ wr.ownsRow (q + 1) 5 1 vb (layB (fs.take k)).length (bv (layB (fs.take k))) ∧ Below q w wr)
      case atStart => exact ⟨0, _, by omega, rfl, HQQ.out, World.ownsRow_nil _ _ _ _, HBB.out⟩
      case round =>
        obtain ⟨k2, vb, hgk2, rfl, hqq2, hown2, hb2⟩ := hrel
        have R1 := Lib.hid hqq2; have R2 := Lib.hid hown2; have R3 := Lib.hid hb2
        clear hqq2 hown2 hb2
        by_cases hlt2 : k2 < fs.length
        · have hat := fldsAt_below HL.out (Nat.le_of_eq HQ.out.symm) R3.out
          rcases hat with hat | ⟨b, off, rfl, hbl, hcs⟩
          · simp [hat] at hlt2
          have hcc := hcs k2 hlt2
          have hok := HOK.out fs[k2] (List.getElem_mem _)
          have hgd : badF fs[k2] = false := by
            have := List.any_eq_false.1 HG.out fs[k2] (List.getElem_mem _)
            simpa using this
          have hst := layB_snoc (fs.take k2) fs[k2]
          rw [← List.take_succ_eq_append_getElem hlt2] at hst
          obtain ⟨x, hx⟩ : ∃ x, x = fs[k2] := ⟨_, rfl⟩
          rw [← hx] at hcc hok hgd hst
          have HCC := Lib.hid hcc; have HGD := Lib.hid hgd; have HST := Lib.hid hst; have HO := Lib.hid hok
          clear hcs hx hcc hok hgd hst
          obtain ⟨n, s, t⟩ := x
          go_upto_region 12 with (refine wpList_cells 43 _ rfl b (off + k2 * 3) rfl rfl [.int .i64 n, .string s, .bool t] _ HCC.out Try.underlying43 rfl (by kernel_rfl) ?_)
          have e1 := (heap_alloc_lt wr (.cells #[.int .i64 n, .string s, .bool t] 43) q (lt_of_block R1.out)).trans R1.out
          have e2 := heap_alloc_top wr (.cells #[.int .i64 n, .string s, .bool t] 43)
          have eB := R3.out.alloc (by have := lt_of_block R1.out; omega) (.cells #[.int .i64 n, .string s, .bool t] 43)
          have eO : (wr.alloc (.cells #[.int .i64 n, .string s, .bool t] 43)).ownsRow (q + 1) 5 1 vb (layB (fs.take k2)).length (bv (layB (fs.take k2))) := World.ownsRow.alloc R2.out _
          obtain ⟨p, hp⟩ : ∃ p, p = wr.heap.size := ⟨_, rfl⟩
          rw [← hp] at e2 ⊢
          generalize wr.alloc (.cells #[.int .i64 n, .string s, .bool t] 43) = W3 at e1 e2 eB eO ⊢
          have K1 := Lib.hid e1; have K2 := Lib.hid e2; have KB := Lib.hid eB; have KO := Lib.hid eO
          clear e1 e2 eB eO hp HCC hbl
          go_wp2_with (refine wpList_row 43 _ rfl p rfl rfl 43 #[.int .i64 n, .string s, .bool t] (0, 0) _ K2.out Try.underlying43 rfl (by kernel_rfl) ?_)
          refine (lay1_walk q vb (layB (fs.take k2)) n s t _ K1.out KO.out HO.out.1 HO.out.2 (fun ht => by have := HGD.out; subst ht; simp [badF] at this; exact this)).mono ?_
          rintro e w4 ⟨rfl, hb4, v4, hq4, ho4⟩
          rw [← HST.out] at ho4
          have M1 := Lib.hid hq4; have M2 := Lib.hid ho4
          have M3 := Lib.hid (KB.out.trans hb4)
          clear hb4 hq4 ho4 K1 K2 KB KO
          go_wp2_with fail
          go_roundg (gk - 1)
          case measure => omega
          case rel => exact ⟨k2 + 1, v4, by omega, by go_num, M1.out, M2.out, M3.out⟩
        · obtain rfl : k2 = fs.length := by omega
          have hown := R2.out
          rw [List.take_length] at hown
          have hle := layB_le fs [] HOK.out (by simp)
          change (layB fs).length ≤ 140000 at hle
          have hlay : lay fs = if 65536 < (layB fs).length then (⟨#[]⟩, 4) else (⟨(layB fs).toArray⟩, 0) := by unfold lay; rw [if_neg (by rw [HG.out]; simp)]
          obtain ⟨l, hl⟩ : ∃ l, l = layB fs := ⟨_, rfl⟩
          rw [← hl] at hown hle hlay
          obtain ⟨m, hm⟩ : ∃ m, m = l.length := ⟨_, rfl⟩
          rw [← hm] at hown hle hlay
          obtain ⟨ad3, cap3, rfl⟩ := own_form hown
          have cq := cell_of_row _ q 0 _ _ _ R1.out
          simp only [List.getElem?_toArray, List.getElem?_cons_zero] at cq
          have K2 := Lib.hid hown; have HLAY := Lib.hid hlay
          have HBF := Lib.hid (R3.out.mono (Nat.le_of_eq HQ.out.symm))
          clear hown hlay hl hm R1 R2 R3
          by_cases hbig : (65536 : Int) < (m : Int)
          · have hb' : 65536 < m := by omega
            have HBI := Lib.hid hb'
            clear hb'
            go_wp2_with fail
            go_ret2
            exact ⟨by rw [HLAY.out, if_pos HBI.out]; rfl, HBF.out⟩
          · have hb' : ¬ 65536 < m := by omega
            have HBI := Lib.hid hb'
            clear hb'
            go_wp2_with (refine wpList_string_own _ rfl _ 38 9 rfl 5 Try.underlying38 Try.underlying5 Try.underlying9 (q + 1) _ m l rfl K2.out ?_)
            go_ret2
            exact ⟨by rw [HLAY.out, if_neg HBI.out]; rfl, HBF.out⟩
end Go.Proofs.Ytfiigmimhdnpnaa
