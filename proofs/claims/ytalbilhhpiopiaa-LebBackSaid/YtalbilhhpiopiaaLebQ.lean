/-
  Layer 1: the walk of LebBack.
-/
import Derived.Test.YtalbilhhpiopiaaLebL
import Derived.Test.YtalbilhhpiopiaaLebP
import Derived.Test.YtalbilhhpiopiaaMix
import Derived.Deep.CutRange
namespace Go.Proofs.Ytalbilhhpiopiaa
open Go.RowKit

theorem fldsAt_takeQ {w : World} {ad : Option Addr} {l : List Fld} (h : fldsAt w ad l) (k : Nat) : fldsAt w ad (l.take k) := by
  rcases h with h | ⟨b, off, h1, h2, h3⟩
  · exact .inl (by rw [h, List.take_nil])
  · refine .inr ⟨b, off, h1, h2, fun i hi j u hu => ?_⟩
    have hi2 : i < l.length := by rw [List.length_take] at hi; omega
    rw [List.getElem_take] at hu
    exact h3 i hi2 j u hu
theorem lay_small (fs : List Fld) (h : (lay fs).2 = 0) : (lay fs).1.size ≤ 65536 := by
  unfold lay at h ⊢
  by_cases hb : fs.any badF = true
  · rw [if_pos hb] at h; simp at h
  · rw [if_neg hb] at h ⊢
    by_cases hl : 65536 < (layB fs).length
    · rw [if_pos hl] at h; simp at h
    · rw [if_neg hl]
      show (layB fs).toArray.size ≤ _
      rw [List.size_toArray]; omega
theorem str_cat (l : List UInt8) (s : ByteArray) : (⟨l.toArray⟩ : ByteArray) ++ s = ⟨(l ++ s.data.toList).toArray⟩ := by
  apply ByteArray.ext
  apply Array.ext'
  rw [ByteArray.data_append]
  simp
theorem str_id (s : ByteArray) : (⟨s.data.toList.toArray⟩ : ByteArray) = s := by
  apply ByteArray.ext
  simp
theorem lay_one (n : Nat) (hn : n ≤ 9223372036854775807) : lay [((n : Int), ⟨#[]⟩, false)] = (⟨(lebN n).toArray⟩, 0) := by
  have hb : [((n : Int), (⟨#[]⟩ : ByteArray), false)].any badF = false := by simp [badF]
  have h9 := lebN_nine n hn
  have hl : layB [((n : Int), ⟨#[]⟩, false)] = lebN n := by simp [layB, putF]
  unfold lay
  rw [if_neg (by rw [hb]; simp), hl, if_neg (by omega)]
theorem ex_head (s : ByteArray) (l r : List UInt8) (h : s.data.toList = l ++ r) : s.extract 0 (⟨l.toArray⟩ : ByteArray).size = ⟨l.toArray⟩ := by
  apply ByteArray.ext
  apply Array.ext'
  rw [ByteArray.data_extract, Array.toList_extract, List.extract_eq_take_drop, h, show (⟨l.toArray⟩ : ByteArray).size = l.length from List.size_toArray]
  simp

set_option maxHeartbeats 4000000 in
set_option maxRecDepth 8000 in
theorem lebBack_walk (ad : Option Addr) (cap : Nat) (fs : List Fld) (s : ByteArray) (w : World) (hl : fldsAt w ad fs) (hcap : fs.length ≤ cap) (hcap2 : cap ≤ 9223372036854775807) (hok : ∀ f ∈ fs, f.1 ≤ 9223372036854775807 ∧ f.2.1.size ≤ 9223372036854775807) (hs : s.size ≤ 140737488351232) :
    Calls Try.prog 5 #[.slice ad fs.length cap, .string s] w fun r w' => r = .returned (.bool true) ∧ Below w.heap.size w w' := by
  have HL := Lib.hid hl; have HOK := Lib.hid hok; have HS := Lib.hid hs
  clear hl hok hs
  go_enter Try.func5, Try.ntmps5
  go_upto_if 15 with fail
  go_cut [0] from 13 to 17 (fun s0 wx => ∃ cap2, s0 = .slice ad (fs.take 40).length cap2 ∧ wx = w)
  case first =>
    by_cases h40 : (40 : Int) < (fs.length : Int)
    · go_wp2_with fail
      go_meet
      exact ⟨_, by rw [List.length_take, show min 40 fs.length = 40 by omega], rfl⟩
    · go_wp2_with fail
      go_meet
      exact ⟨_, by rw [List.length_take, show min 40 fs.length = fs.length by omega], rfl⟩
  case rest =>
  obtain ⟨cap2, rfl, hwc⟩ := hcut
  obtain rfl := hwc.symm
  obtain ⟨gs, hgs⟩ : ∃ gs, gs = fs.take 40 := ⟨_, rfl⟩
  have hgl : fldsAt w ad gs := by rw [hgs]; exact fldsAt_takeQ HL.out 40
  have hgo : ∀ f ∈ gs, f.1 ≤ 9223372036854775807 ∧ f.2.1.size ≤ 9223372036854775807 := fun f hf => HOK.out f (List.mem_of_mem_take (by rw [← hgs]; exact hf))
  have hg40 : (gs.length : Int) ≤ 40 := by rw [hgs, List.length_take]; omega
  rw [← hgs]
  have HGL := Lib.hid hgl; have HGO := Lib.hid hgo
  clear hgs hgl hgo HL HOK hcap hcap2
  go_wp2_with fail
  refine (lay_walk ad cap2 gs _ HGL.out (by omega) HGO.out).mono ?_
  rintro r w1 ⟨rfl, hb1⟩
  have hlo := lay_ok gs
  have hls := lay_small gs
  obtain ⟨u, e, hue⟩ : ∃ u e, lay gs = (u, e) := ⟨_, _, rfl⟩
  rw [hue] at hlo hls ⊢
  have HLO := Lib.hid hlo; have HLS := Lib.hid hls; have HB1 := Lib.hid hb1
  clear hlo hls hue hb1
  go_upto_if 24 with fail
  go_cut [7, 8] from 23 to 77 (fun _ _ wx => Below w.heap.size w wx)
  case first =>
    by_cases hez : e = 0
    · subst hez
      obtain ⟨hu, hbad⟩ := HLO.out rfl
      have hu6 := HLS.out rfl
      have hu6 : u.size ≤ 65536 := hu6
      have hsum : u.size + s.size ≤ 9223372036854775807 := by have h := HS.out; omega
      have HU := Lib.hid hu; have HBAD := Lib.hid hbad
      clear hu hbad hu6 HLO HLS
      go_wp2_with fail
      refine (over_walk (u ++ s) _).mono ?_
      rintro r w2 ⟨rfl, hb2, h2⟩
      obtain ⟨p, hp⟩ : ∃ p, p = w1.heap.size := ⟨_, rfl⟩
      rw [← hp] at h2 ⊢
      have hwp : w.heap.size ≤ p := by have h := HB1.out.size; omega
      have HWP := Lib.hid hwp; have H2 := Lib.hid h2; have HB2 := Lib.hid (HB1.out.trans (hb2.mono HB1.out.size))
      clear hp h2 hb2 HB1 hwp
      go_wp2_with fail
      go_loopg [8] gs.length (fun gk i wr => ∃ (k : Nat) (s' : ByteArray), k + gk = gs.length ∧ i = .int .i64 (k : Nat) ∧ InAt wr p s' 0 ∧ s' = ⟨((gs.drop k).flatMap layF ++ s.data.toList).toArray⟩ ∧ Below w.heap.size w wr)
      case atStart => exact ⟨0, _, by omega, rfl, H2.out, by rw [HU.out]; exact str_cat _ s, HB2.out⟩
      case round =>
        obtain ⟨k, s', hgk, rfl, hin, hs', hb⟩ := hrel
        have HI := Lib.hid hin; have HSS := Lib.hid hs'; have HB := Lib.hid hb
        clear hin hs' hb
        by_cases hlt : k < gs.length
        · rcases fldsAt_below HGL.out (Nat.le_refl _) HB.out with hnil | ⟨bl, off, rfl, hbl, hcs⟩
          · simp [hnil] at hlt
          rcases HGL.out with hnil | ⟨bl2, off2, he2, hbl2, _⟩
          · simp [hnil] at hlt
          cases he2
          obtain ⟨g, rfl⟩ : ∃ g, gk = g + 1 := ⟨gk - 1, by omega⟩
          have hdr : gs.drop k = gs[k] :: gs.drop (k + 1) := List.drop_eq_getElem_cons hlt
          have hbf : badF gs[k] = false := by
            have h := HBAD.out
            rw [List.any_eq_false] at h
            simpa using h _ (List.getElem_mem hlt)
          have hgx := HGO.out gs[k] (List.getElem_mem hlt)
          obtain ⟨x, hx⟩ : ∃ x, x = gs[k] := ⟨_, rfl⟩
          have hcc := hcs k hlt
          rw [← hx] at hcc hdr hbf hgx
          have hst : s' = ⟨(layF x ++ ((gs.drop (k + 1)).flatMap layF ++ s.data.toList)).toArray⟩ := by
            rw [HSS.out, hdr, List.flatMap_cons, List.append_assoc]
          obtain ⟨rest, hrest⟩ : ∃ rest, rest = (gs.drop (k + 1)).flatMap layF ++ s.data.toList := ⟨_, rfl⟩
          rw [← hrest] at hst
          have hblp : bl < p := by have h := HWP.out; omega
          have HCS := Lib.hid hcc; have HST := Lib.hid hst; have HRE := Lib.hid hrest; have HBF := Lib.hid hbf; have HGX := Lib.hid hgx
          clear hcs hcc hx hdr hst hrest hbf hgx hbl HSS hbl2
          obtain ⟨n, t, tx⟩ := x
          have c0 : ∀ y : Sub p wr, y.val.cell? ⟨bl, off + k * 3, none⟩ = some (.int .i64 n) := fun y => sub_cell (HCS.out 0 _ rfl) hblp y
          have c1 : ∀ y : Sub p wr, y.val.cell? ⟨bl, off + k * 3 + 1, none⟩ = some (.string t) := fun y => sub_cell (HCS.out 1 _ rfl) hblp y
          have c2 : ∀ y : Sub p wr, y.val.cell? ⟨bl, off + k * 3 + 2, none⟩ = some (.bool tx) := fun y => sub_cell (HCS.out 2 _ rfl) hblp y
          have hi0 : InAt wr.drew p s' 0 := HI.out
          have hb0 : Below p wr wr.drew := (Below.refl _ _).drew
          have HI0 := Lib.hid hi0; have HB0 := Lib.hid hb0
          clear hi0 hb0
          cases tx with
          | true =>
            have hT : txtR s' 0 = (t, ⟨rest.toArray⟩, 0) := by rw [HST.out]; exact back_txt (n, t, true) rest rfl HGX.out.2
            have HT := Lib.hid hT
            clear hT
            go_upto_region 9 with fail
            refine wp_region_mix (inSub p wr) [(0,true),(1,true),(2,true),(3,true),(4,true),(5,true),(6,true),(8,true),(9,true),(10,true),(11,true),(12,true),(7,false),(13,true),(14,true),(15,true),(16,true),(17,true),(18,true),(19,true),(20,true),(21,true),(22,true),(23,true),(25,true),(26,true),(27,true),(28,true),(29,true),(24,false),(30,true),(31,true),(32,true)] (by kernel_rfl) (by kernel_rfl) (inSub_of HB0.out) ?_
            generalize wr.drew = w3 at HI0 HB0 ⊢
            simp only [List.filterMap_cons, List.filterMap_nil, List.getElem?_cons_zero, List.getElem?_cons_succ, Option.map_some]
            repeat (first
              | ((with_reducible refine mix_read ?_ ?_); (· rfl); apply Exists.intro; refine ⟨fun w9 hw9 => ?_, ?_⟩; (· obtain ⟨x9, rfl⟩ := hw9; have d1 := c1 x9; have d2 := c2 x9; go_simp; rfl); simp only [Act.put, List.setIfInBounds_toArray, List.set_cons_succ, List.set_cons_zero])
              | ((with_reducible refine mix_skip ?_ ?_); (· rfl); simp only [Act.put, List.setIfInBounds_toArray, List.set_cons_succ, List.set_cons_zero]))
            with_reducible refine mix_step ?_ (fun K' hK => ?_)
            · rfl
            go_simp
            go_at_call 14
            refine (txt_walk p s' 0 _ HI0.out).mono ?_
            rintro r w4 ⟨rfl, hg4, h4⟩
            rw [HT.out] at h4 ⊢
            have hb4 : Below p wr w4 := below_of_grown HB0.out hg4 (Nat.le_trans (Nat.le_of_lt (lt_of_block HI.out)) HB0.out.size) (fun j hj => by cases hj; exact Nat.le_refl _)
            refine hK _ _ (inSub_of hb4) ?_
            clear hK K'
            try simp only [Act.put, List.setIfInBounds_toArray, List.set_cons_succ, List.set_cons_zero]
            have H4 := Lib.hid h4; have HB4 := Lib.hid hb4
            clear h4 hg4 hb4
            repeat (first
              | ((with_reducible refine mix_read ?_ ?_); (· rfl); apply Exists.intro; refine ⟨fun w9 hw9 => ?_, ?_⟩; (· obtain ⟨x9, rfl⟩ := hw9; have d1 := c1 x9; have d2 := c2 x9; go_simp; rfl); simp only [Act.put, List.setIfInBounds_toArray, List.set_cons_succ, List.set_cons_zero])
              | ((with_reducible refine mix_skip ?_ ?_); (· rfl); simp only [Act.put, List.setIfInBounds_toArray, List.set_cons_succ, List.set_cons_zero]))
            with_reducible refine mix_nil (NoPanic.normal ?_)
            go_wp2_with fail
            go_roundg g
            case measure => omega
            case rel => exact ⟨k + 1, _, by omega, by go_num, H4.out, by rw [HRE.out], HB.out.trans (HB4.out.mono HWP.out)⟩
          | false =>
            obtain ⟨m, hN, hm⟩ := back_num (n, t, false) rest rfl HBF.out HGX.out.1
            have hm2 : n = (m : Int) := hm
            subst hm2
            rw [← HST.out] at hN
            have HT := Lib.hid hN
            clear hN hm
            go_upto_region 9 with fail
            refine wp_region_mix (inSub p wr) [(0,true),(1,true),(2,true),(3,true),(4,true),(5,true),(6,true),(8,true),(9,true),(10,true),(11,true),(12,true),(7,false),(13,true),(14,true),(15,true),(16,true),(17,true),(18,true),(19,true),(20,true),(21,true),(22,true),(23,true),(25,true),(26,true),(27,true),(28,true),(29,true),(24,false),(30,true),(31,true),(32,true)] (by kernel_rfl) (by kernel_rfl) (inSub_of HB0.out) ?_
            generalize wr.drew = w3 at HI0 HB0 ⊢
            simp only [List.filterMap_cons, List.filterMap_nil, List.getElem?_cons_zero, List.getElem?_cons_succ, Option.map_some]
            repeat (first
              | ((with_reducible refine mix_read ?_ ?_); (· rfl); apply Exists.intro; refine ⟨fun w9 hw9 => ?_, ?_⟩; (· obtain ⟨x9, rfl⟩ := hw9; have d0 := c0 x9; have d2 := c2 x9; go_simp; rfl); simp only [Act.put, List.setIfInBounds_toArray, List.set_cons_succ, List.set_cons_zero])
              | ((with_reducible refine mix_skip ?_ ?_); (· rfl); simp only [Act.put, List.setIfInBounds_toArray, List.set_cons_succ, List.set_cons_zero]))
            with_reducible refine mix_step ?_ (fun K' hK => ?_)
            · rfl
            go_simp
            go_at_call 15
            refine (num_walk p s' 0 _ HI0.out).mono ?_
            rintro r w4 ⟨rfl, hg4, h4⟩
            rw [HT.out] at h4 ⊢
            have hb4 : Below p wr w4 := below_of_grown HB0.out hg4 (Nat.le_trans (Nat.le_of_lt (lt_of_block HI.out)) HB0.out.size) (fun j hj => by cases hj; exact Nat.le_refl _)
            refine hK _ _ (inSub_of hb4) ?_
            clear hK K'
            try simp only [Act.put, List.setIfInBounds_toArray, List.set_cons_succ, List.set_cons_zero]
            have H4 := Lib.hid h4; have HB4 := Lib.hid hb4
            clear h4 hg4 hb4
            repeat (first
              | ((with_reducible refine mix_read ?_ ?_); (· rfl); apply Exists.intro; refine ⟨fun w9 hw9 => ?_, ?_⟩; (· obtain ⟨x9, rfl⟩ := hw9; have d0 := c0 x9; have d2 := c2 x9; go_simp; rfl); simp only [Act.put, List.setIfInBounds_toArray, List.set_cons_succ, List.set_cons_zero])
              | ((with_reducible refine mix_skip ?_ ?_); (· rfl); simp only [Act.put, List.setIfInBounds_toArray, List.set_cons_succ, List.set_cons_zero]))
            with_reducible refine mix_nil (NoPanic.normal ?_)
            go_wp2_with fail
            go_roundg g
            case measure => omega
            case rel => exact ⟨k + 1, _, by omega, by go_num, H4.out, by rw [HRE.out], HB.out.trans (HB4.out.mono HWP.out)⟩
        · obtain rfl : k = gs.length := by omega
          have hss : s' = s := by rw [HSS.out, List.drop_length, List.flatMap_nil, List.nil_append]
          subst hss
          have hln : leftN s' 0 = s'.size := by unfold leftN; rw [if_pos rfl]
          have HLN := Lib.hid hln
          clear hln
          go_wp2_with fail
          refine (err_walk p s' 0 _ HI.out).mono ?_
          rintro r w3 ⟨rfl, rfl⟩
          go_wp2_with fail
          refine (left_walk p s' 0 _ HI.out).mono ?_
          rintro r w3 ⟨rfl, rfl⟩
          rw [HLN.out]
          go_wp2_with fail
          go_meet
          exact HB.out
    · go_wp2_with fail
      go_meet
      exact HB1.out
  case rest =>
  have HC := Lib.hid hcut
  clear hcut HGL HGO HLO HLS HB1 hg40
  go_wp2_with fail
  refine (over_walk s _).mono ?_
  rintro r w2 ⟨rfl, hb2, h2⟩
  obtain ⟨p, hp⟩ : ∃ p, p = wc.heap.size := ⟨_, rfl⟩
  rw [← hp] at h2 ⊢
  have hwp : w.heap.size ≤ p := by have h := HC.out.size; omega
  have HWP := Lib.hid hwp; have H2 := Lib.hid h2; have HB2 := Lib.hid (HC.out.trans (hb2.mono HC.out.size))
  clear hp h2 hb2 HC hwp
  have hone := num_one s
  obtain ⟨n, s1, e1, hn⟩ : ∃ n s1 e1, numR s 0 = (n, s1, e1) := ⟨_, _, _, rfl⟩
  rw [hn] at hone
  have HN := Lib.hid hn; have HONE := Lib.hid hone
  clear hn hone
  go_wp2_with fail
  refine (num_walk p s 0 _ H2.out).mono ?_
  rintro r w3 ⟨rfl, hg3, h3⟩
  rw [HN.out] at h3 ⊢
  have H3 := Lib.hid h3; have HB3 := Lib.hid (below_of_grown HB2.out hg3 HB2.out.size (fun k hk => by cases hk; exact HWP.out))
  clear h3 hg3 H2 HB2
  go_wp2_with fail
  refine (err_walk p s1 e1 _ H3.out).mono ?_
  rintro r w4 ⟨rfl, rfl⟩
  by_cases hez : e1 = 0
  · subst hez
    obtain ⟨hs1, hn1⟩ := HONE.out rfl
    have hs1 : s.data.toList = lebN n ++ s1.data.toList := hs1
    have hn1 : n ≤ 9223372036854775807 := hn1
    obtain ⟨u2, hu2⟩ : ∃ u2 : ByteArray, u2 = ⟨(lebN n).toArray⟩ := ⟨_, rfl⟩
    have hlay : lay [((n : Int), ⟨#[]⟩, false)] = (u2, 0) := by rw [hu2]; exact lay_one n hn1
    have hex : s.extract 0 u2.size = u2 := by rw [hu2]; exact ex_head s _ _ hs1
    have hsz : s.size = u2.size + s1.size := by
      rw [hu2, show (⟨(lebN n).toArray⟩ : ByteArray).size = (lebN n).length from List.size_toArray]
      have := congrArg List.length hs1
      rw [List.length_append] at this
      simpa using this
    have hln : leftN s1 0 = s1.size := by unfold leftN; rw [if_pos rfl]
    have HLAY := Lib.hid hlay; have HEX := Lib.hid hex; have HSZ := Lib.hid hsz; have HLN := Lib.hid hln; have HN1 := Lib.hid hn1
    clear hlay hex hsz hln hs1 hn1 hu2 HONE
    go_wp2_with fail
    refine (n_walk n _).mono ?_
    rintro r w5 ⟨rfl, hb5⟩
    unfold fld
    have HI5 := Lib.hid (H3.out.keep hb5 (lt_of_block H3.out)); have HB5 := Lib.hid (HB3.out.trans (hb5.mono HB3.out.size))
    clear hb5 H3 HB3
    go_wp2_with fail
    have hat := one_at (f := ((n : Int), ⟨#[]⟩, false)) (heap_alloc_top w5 (.cells #[.int .i64 n, .string ⟨#[]⟩, .bool false] 25))
    have hB6 := HB5.out.alloc HB5.out.size (.cells #[.int .i64 n, .string ⟨#[]⟩, .bool false] 25)
    have hI6 : InAt (w5.alloc (.cells #[.int .i64 n, .string ⟨#[]⟩, .bool false] 25)) p s1 0 := (heap_alloc_lt _ _ _ (lt_of_block HI5.out)).trans HI5.out
    refine (lay_walk (some ⟨w5.heap.size, 0, none⟩) 1 [((n : Int), ⟨#[]⟩, false)] _ hat (by simp) (by
      intro f hf
      simp only [List.mem_cons, List.not_mem_nil, or_false] at hf
      subst hf
      have h := HN1.out
      exact ⟨by show (n : Int) ≤ _; omega, Nat.zero_le _⟩)).mono ?_
    rintro r w7 ⟨rfl, hb7⟩
    rw [HLAY.out]
    have HI7 := Lib.hid (hI6.keep hb7 (lt_of_block hI6)); have HB7 := Lib.hid (hB6.trans (hb7.mono hB6.size))
    clear hat hB6 hI6 hb7 HI5 HB5 HLAY
    go_wp2_with fail
    refine (awake_walk _).mono ?_
    rintro r w8 ⟨rfl, hb8⟩
    have HI8 := Lib.hid (HI7.out.keep hb8 (lt_of_block HI7.out)); have HB8 := Lib.hid (HB7.out.trans (hb8.mono HB7.out.size))
    clear hb8 HI7 HB7
    go_wp2_with fail
    refine (left_walk p s1 0 _ HI8.out).mono ?_
    rintro r w9 ⟨rfl, rfl⟩
    rw [HLN.out]
    have h1 := HSZ.out
    have h2 : (s.size : Int) - (s1.size : Int) = (u2.size : Int) := by omega
    have h3 : u2.size ≤ s.size := by omega
    have h4 := HEX.out
    have h5 := HS.out
    clear h1
    go_wp2_with fail
    go_ret
    exact ⟨rfl, HB8.out⟩
  · go_wp2_with fail
    refine (awake_walk _).mono ?_
    rintro r w5 ⟨rfl, hb5⟩
    go_wp2_with fail
    go_ret
    exact ⟨rfl, HB3.out.trans (hb5.mono HB3.out.size)⟩
end Go.Proofs.Ytalbilhhpiopiaa
