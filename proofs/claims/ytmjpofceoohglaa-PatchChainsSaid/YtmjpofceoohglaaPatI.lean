/-
  Layer 41: Through; chains.
-/
import Derived.Test.YtmjpofceoohglaaPatH
namespace Go.Proofs.Ytmjpofceoohglaa
open Go.RowKit

/-- what patches make of a text, one behind the other -/
def thr : ByteArray → List Pt → ByteArray × Int
  | a, [] => (a, 0)
  | a, p :: r => if (papply a p.1 p.2.1 p.2.2).2 = 0 then thr (papply a p.1 p.2.1 p.2.2).1 r else (⟨#[]⟩, (papply a p.1 p.2.1 p.2.2).2)
theorem papply_err (a m : ByteArray) (h t : Int) (he : (papply a h t m).2 ≠ 0) : (papply a h t m).1 = ⟨#[]⟩ := by
  unfold papply at he ⊢
  split
  · rename_i h1
    rw [if_pos h1] at he
    split
    · rfl
    · rename_i h2
      rw [if_neg h2] at he
      exact absurd rfl he
  · rfl
theorem papply_size (a m : ByteArray) (h t : Int) : (papply a h t m).1.size ≤ 65536 := by
  unfold papply
  split
  · rename_i h1
    obtain ⟨h0, h1, h2, h3⟩ := of_decide_eq_true h1
    split
    · exact Nat.zero_le _
    · have := size_papply a m h t h0 h1 h2 h3
      show (a.extract 0 h.toNat ++ m ++ a.extract ((a.size : Int) - t).toNat a.size).size ≤ 65536
      omega
  · exact Nat.zero_le _
theorem thr_chain : ∀ (l : List ByteArray) (a : ByteArray), (∀ x ∈ l, x.size ≤ 400) → thr a (chainP (a :: l)) = ((a :: l).getLast (by simp), 0)
  | [], a, _ => rfl
  | b :: r, a, h => by
    have hb := papply_make a b (by have := h b (by simp); omega)
    have hb : papply a (mkP a b).1 (mkP a b).2.1 (mkP a b).2.2 = (b, 0) := hb
    have e1 : (papply a (mkP a b).1 (mkP a b).2.1 (mkP a b).2.2).2 = 0 := by rw [hb]
    have e2 : (papply a (mkP a b).1 (mkP a b).2.1 (mkP a b).2.2).1 = b := by rw [hb]
    show thr a (mkP a b :: chainP (b :: r)) = _
    unfold thr
    rw [if_pos e1, e2, thr_chain r b (fun x hx => h x (by simp [hx]))]
    rfl
theorem thr_snoc : ∀ (ps : List Pt) (a : ByteArray) (p : Pt), (thr a ps).2 = 0 → thr a (ps ++ [p]) = papply (thr a ps).1 p.1 p.2.1 p.2.2
  | [], a, p, _ => by
    simp only [List.nil_append, thr]
    by_cases he : (papply a p.1 p.2.1 p.2.2).2 = 0
    · rw [if_pos he]
      exact Prod.ext rfl he.symm
    · rw [if_neg he]
      exact Prod.ext (papply_err _ _ _ _ he).symm rfl
  | q :: r, a, p, h => by
    simp only [List.cons_append, thr] at h ⊢
    by_cases he : (papply a q.1 q.2.1 q.2.2).2 = 0
    · rw [if_pos he] at h ⊢
      rw [if_pos he]
      exact thr_snoc r _ p h
    · rw [if_neg he] at h
      exact absurd h he

set_option maxHeartbeats 2000000 in
theorem through_walk (a : ByteArray) (ad : Option Addr) (cap : Nat) (ps : List Pt) (w : World) (hl : ptsAt w ad ps) (hn : ps.length ≤ 9223372036854775807) (hs : ∀ p ∈ ps, p.2.2.size ≤ 9223372036854775807) (ha : a.size ≤ 9223372036854775807) :
    Calls Try.prog 10 #[.string a, .slice ad ps.length cap] w fun e w' => e = .returned (.tuple #[.string (thr a ps).1, .int .i64 (thr a ps).2]) ∧ Below w.heap.size w w' := by
  have HL := Lib.hid hl; have HS := Lib.hid hs; have HA := Lib.hid ha
  clear hl hs ha
  go_enter Try.func10, Try.ntmps10
  go_wp2_with fail
  go_loopg [0, 11] ps.length (fun gk va vi wr => ∃ (k : Nat) (b : ByteArray), k + gk = ps.length ∧ va = .string b ∧ vi = .int .i64 (k : Nat) ∧ b.size ≤ 9223372036854775807 ∧ thr a ps = thr b (ps.drop k) ∧ Below w.heap.size w wr)
  case atStart => exact ⟨0, a, by omega, rfl, rfl, HA.out, rfl, Below.refl _ _⟩
  case round =>
    obtain ⟨k, b, hgk, rfl, rfl, hbs, hth, hb⟩ := hrel
    have HBS := Lib.hid hbs; have HTH := Lib.hid hth; have HB := Lib.hid hb
    clear hbs hth hb
    by_cases hlt : k < ps.length
    · rcases ptsAt_below HL.out (Nat.le_refl _) HB.out with hnil | ⟨bl, off, rfl, hbl, hcs⟩
      · simp [hnil] at hlt
      obtain ⟨g, rfl⟩ : ∃ g, gk = g + 1 := ⟨gk - 1, by omega⟩
      have hdr : ps.drop k = ps[k] :: ps.drop (k + 1) := List.drop_eq_getElem_cons hlt
      have hgx := HS.out ps[k] (List.getElem_mem hlt)
      obtain ⟨x, hx⟩ : ∃ x, x = ps[k] := ⟨_, rfl⟩
      have hcc := hcs k hlt
      rw [← hx] at hcc hdr hgx
      obtain ⟨h, t, m⟩ := x
      have hth2 : thr a ps = if (papply b h t m).2 = 0 then thr (papply b h t m).1 (ps.drop (k + 1)) else (⟨#[]⟩, (papply b h t m).2) := by
        rw [HTH.out, hdr]; rfl
      have hps := papply_size b m h t
      have k1 := fun w => apply_walk b h t m w HBS.out hgx
      obtain ⟨c, e, hce⟩ : ∃ c e, papply b h t m = (c, e) := ⟨_, _, rfl⟩
      rw [hce] at hth2 k1 hps
      have HCC := Lib.hid hcc; have HT2 := Lib.hid hth2; have K1 := Lib.hid k1; have HPS := Lib.hid hps
      clear hcs hcc hx hdr hgx hth2 k1 hps hce HTH
      have ga := heap_alloc_top wr (.cells #[.int .i64 0, .int .i64 0, .string ⟨#[]⟩] 23)
      have HGA := Lib.hid ga
      clear ga
      go_upto_region 4 with (first
        | (refine wpList_cells 23 _ rfl bl (off + k * 3) rfl rfl [.int .i64 h, .int .i64 t, .string m] _ HCC.out Try.underlying23 rfl (by kernel_rfl) ?_)
        | (refine wpList_store_row rfl 23 _ _ rfl wr.heap.size (pat h t m) rfl rfl 23 #[.int .i64 0, .int .i64 0, .string ⟨#[]⟩] HGA.out info_pat rfl (by simp [pat, Value.oneCell']) ?_))
      have gb := heap_setRow_same (cs := pat h t m) HGA.out
      have hb4 := below_setRow (HB.out.alloc HB.out.size (.cells #[.int .i64 0, .int .i64 0, .string ⟨#[]⟩] 23)) HB.out.size (g := wr.heap.size) (pat h t m)
      obtain ⟨q5, hq5⟩ : ∃ q, q = wr.heap.size := ⟨_, rfl⟩
      rw [← hq5] at gb hb4 ⊢
      generalize (wr.alloc (.cells #[.int .i64 0, .int .i64 0, .string ⟨#[]⟩] 23)).setRow q5 (pat h t m) = w3 at gb hb4 ⊢
      have G3 := Lib.hid gb; have HB3 := Lib.hid hb4
      clear gb hb4 hq5 HGA HCC
      go_wp2_with (refine wpList_row 23 _ rfl q5 rfl rfl 23 (pat h t m) (0, 0) _ G3.out Try.underlying23 rfl info_pat ?_)
      refine (K1.out _).mono ?_
      rintro r w4 ⟨rfl, hb4⟩
      have HB4 := Lib.hid (HB3.out.trans (hb4.mono HB3.out.size))
      clear hb4 HB3 G3 K1
      by_cases he : e = 0
      · subst he
        have ht := HT2.out
        rw [if_pos rfl] at ht
        have HT := Lib.hid ht
        clear ht HT2
        go_wp2_with fail
        go_roundg g
        case measure => omega
        case rel => exact ⟨k + 1, c, by omega, rfl, by go_num, Nat.le_trans HPS.out (by omega), HT.out, HB4.out⟩
      · have ht := HT2.out
        rw [if_neg he] at ht
        have HT := Lib.hid ht
        clear ht HT2
        go_wp2_with fail
        go_ret2
        exact ⟨by rw [HT.out]; rfl, HB4.out⟩
    · obtain rfl : k = ps.length := by omega
      have ht : thr a ps = (b, 0) := by rw [HTH.out, List.drop_length]; rfl
      have HT := Lib.hid ht
      clear ht HTH
      go_wp2_with fail
      go_ret2
      exact ⟨by rw [HT.out]; rfl, HB.out⟩
end Go.Proofs.Ytmjpofceoohglaa
