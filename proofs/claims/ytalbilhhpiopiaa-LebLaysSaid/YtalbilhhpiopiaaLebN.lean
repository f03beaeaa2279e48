/-
  Layer 1: the walk of LebLays.
-/
import Derived.Test.YtalbilhhpiopiaaLebM
import Derived.Test.YtalbilhhpiopiaaLebP
import Derived.Deep.CutRange
namespace Go.Proofs.Ytalbilhhpiopiaa
open Go.RowKit

theorem fldsAt_take {w : World} {ad : Option Addr} {l : List Fld} (h : fldsAt w ad l) (k : Nat) : fldsAt w ad (l.take k) := by
  rcases h with h | ⟨b, off, h1, h2, h3⟩
  · exact .inl (by rw [h, List.take_nil])
  · refine .inr ⟨b, off, h1, h2, fun i hi j u hu => ?_⟩
    have hi2 : i < l.length := by rw [List.length_take] at hi; omega
    rw [List.getElem_take] at hu
    exact h3 i hi2 j u hu
theorem str_add2 (l a : List UInt8) (s : ByteArray) : (⟨l.toArray⟩ : ByteArray) ++ ((⟨a.toArray⟩ : ByteArray) ++ s) = ⟨(l ++ (a ++ s.data.toList)).toArray⟩ := by
  apply ByteArray.ext
  apply Array.ext'
  rw [ByteArray.data_append, ByteArray.data_append]
  simp
theorem wantB_take (fs : List Fld) (k : Nat) (h : k < fs.length) : wantB (fs.take (k + 1)) = wantF (wantB (fs.take k)) fs[k] := by
  rw [← wantB_snoc, List.take_append_getElem h]
theorem any_take (fs : List Fld) (k : Nat) (h : k < fs.length) : (fs.take (k + 1)).any badF = ((fs.take k).any badF || badF fs[k]) := by
  rw [← List.take_append_getElem h, List.any_append]
  simp

set_option maxHeartbeats 4000000 in
set_option maxRecDepth 8000 in
theorem lebLays_walk (ad : Option Addr) (cap : Nat) (fs : List Fld) (w : World) (hl : fldsAt w ad fs) (hcap : fs.length ≤ cap) (hcap2 : cap ≤ 9223372036854775807) (hok : ∀ f ∈ fs, f.1 ≤ 9223372036854775807 ∧ f.2.1.size ≤ 9223372036854775807) :
    Calls Try.prog 3 #[.slice ad fs.length cap] w fun r w' => r = .returned (.bool true) ∧ Below w.heap.size w w' := by
  have HL := Lib.hid hl; have HOK := Lib.hid hok
  clear hl hok
  go_enter Try.func3, Try.ntmps3
  go_upto_if 10 with fail
  go_cut [0] from 8 to 12 (fun s0 wx => ∃ cap2, s0 = .slice ad (fs.take 40).length cap2 ∧ wx = w)
  case first =>
    by_cases h40 : (40 : Int) < (fs.length : Int)
    · go_wp2_with fail
      go_meet
      exact ⟨_, by rw [List.length_take, show min 40 fs.length = 40 by omega], rfl⟩
    · go_wp2_with fail
      go_meet
      exact ⟨_, by rw [List.length_take, show min 40 fs.length = fs.length by omega], rfl⟩
  case rest =>
  obtain ⟨cap2, rfl, rfl⟩ := hcut
  obtain ⟨gs, hgs⟩ : ∃ gs, gs = fs.take 40 := ⟨_, rfl⟩
  have hgl : fldsAt wc ad gs := by rw [hgs]; exact fldsAt_take HL.out 40
  have hgo : ∀ f ∈ gs, f.1 ≤ 9223372036854775807 ∧ f.2.1.size ≤ 9223372036854775807 := fun f hf => HOK.out f (List.mem_of_mem_take (by rw [← hgs]; exact hf))
  have hg40 : (gs.length : Int) ≤ 40 := by rw [hgs, List.length_take]; omega
  rw [← hgs]
  have HGL := Lib.hid hgl; have HGO := Lib.hid hgo
  clear hgs hgl hgo HL HOK hcap hcap2
  go_wp2_with fail
  go_loopg [3, 4, 5] gs.length (fun gk vw ve i wr => ∃ (k : Nat) (o : ByteArray) (e : Int), k + gk = gs.length ∧ i = .int .i64 (k : Nat) ∧ vw = .string o ∧ o = ⟨(wantB (gs.take k)).toArray⟩ ∧ ve = .int .i64 e ∧ e = (if (gs.take k).any badF = true then 3 else 0) ∧ (wantB (gs.take k)).length ≤ 393225 + 9 * k ∧ (∀ f ∈ gs.take k, f.2.1.size ≤ 131072) ∧ Below wc.heap.size wc wr)
  case atStart => exact ⟨0, ⟨#[]⟩, 0, by omega, rfl, rfl, rfl, rfl, rfl, by simp [wantB], by simp, Below.refl _ _⟩
  case round =>
    obtain ⟨k, o, e, hgk, rfl, rfl, ho, rfl, he, hle, hsz, hb⟩ := hrel
    have HOO := Lib.hid ho; have HE := Lib.hid he; have HLE := Lib.hid hle; have HSZ := Lib.hid hsz; have HB := Lib.hid hb
    clear ho he hle hsz hb
    by_cases hlt : k < gs.length
    · rcases fldsAt_below HGL.out (Nat.le_refl _) HB.out with hnil | ⟨bl, off, rfl, hbl, hcs⟩
      · simp [hnil] at hlt
      obtain ⟨g, rfl⟩ : ∃ g, gk = g + 1 := ⟨gk - 1, by omega⟩
      obtain ⟨x, hx⟩ : ∃ x, x = gs[k] := ⟨_, rfl⟩
      have hcc := hcs k hlt
      rw [← hx] at hcc
      have hgx := HGO.out x (by rw [hx]; exact List.getElem_mem hlt)
      have hw := wantB_take gs k hlt
      have ha := any_take gs k hlt
      rw [← hx] at hw ha
      have htk : gs.take (k + 1) = gs.take k ++ [x] := by rw [hx, List.take_append_getElem hlt]
      have HW := Lib.hid hw; have HA := Lib.hid ha; have HTK := Lib.hid htk; have HGX := Lib.hid hgx; have HCS := Lib.hid hcc
      clear hcs hx hcc hgx hw ha htk hbl
      obtain ⟨n, s, t⟩ := x
      have c0 : wr.cell? ⟨bl, off + k * 3, none⟩ = some (.int .i64 n) := HCS.out 0 _ rfl
      have c1 : wr.cell? ⟨bl, off + k * 3 + 1, none⟩ = some (.string s) := HCS.out 1 _ rfl
      have c2 : wr.cell? ⟨bl, off + k * 3 + 2, none⟩ = some (.bool t) := HCS.out 2 _ rfl
      by_cases hbig : (131072 : Int) < (s.size : Int)
      · go_wp2_with fail
        refine (awake_walk _).mono ?_
        rintro r w2 ⟨rfl, hb2⟩
        go_wp2_with fail
        go_ret
        exact ⟨rfl, HB.out.trans (hb2.mono HB.out.size)⟩
      · have hs17 : s.size ≤ 131072 := by omega
        have hos : o.size = (wantB (gs.take k)).length := by rw [HOO.out]; exact List.size_toArray
        have hk40 : k < 40 := by omega
        have hle2 : (wantB (gs.take (k + 1))).length ≤ 393225 + 9 * (k + 1) := by rw [HW.out]; exact wantF_le _ _ k HLE.out HGX.out.1 hs17
        have hsz2 : ∀ f ∈ gs.take (k + 1), f.2.1.size ≤ 131072 := by
          rw [HTK.out]; intro f hf
          rcases List.mem_append.1 hf with h | h
          · exact HSZ.out f h
          · rw [List.mem_singleton.1 h]; exact hs17
        have ho9 : o.size ≤ 393585 := by have h := HLE.out; omega
        have HLE2 := Lib.hid hle2; have HSZ2 := Lib.hid hsz2; have HOS := Lib.hid hos; have HO9 := Lib.hid ho9; have HS17 := Lib.hid hs17
        clear hle2 hsz2 hos ho9 hs17 hk40
        have hbig2 : (s.size : Int) ≤ 131072 := by omega
        clear hbig
        cases t with
        | true =>
          have hany : (gs.take (k + 1)).any badF = (gs.take k).any badF := by rw [HA.out]; simp [badF]
          have HAN := Lib.hid hany
          clear hany
          by_cases hw2 : (o.size : Int) ≤ 262144
          · have hwe : wantB (gs.take (k + 1)) = wantB (gs.take k) ++ (lebN s.size ++ s.data.toList) := by
              rw [HW.out]; unfold wantF; rw [if_pos rfl, if_pos (by have := HOS.out; omega)]
            have HWE := Lib.hid hwe
            clear hwe
            go_wp2_with fail
            refine (rtext_walk s _ HS17.out).mono ?_
            rintro r w2 ⟨rfl, hb2⟩
            obtain ⟨u, hu⟩ : ∃ u : ByteArray, u = ⟨(lebN s.size).toArray⟩ ++ s := ⟨_, rfl⟩
            have hus : u.size ≤ 131081 := by
              have h9 := lebN_nine s.size (by have := HS17.out; omega)
              have h17 := HS17.out
              rw [hu, ByteArray.size_append, show (⟨(lebN s.size).toArray⟩ : ByteArray).size = (lebN s.size).length from List.size_toArray]
              omega
            have hsum : o.size + u.size ≤ 9223372036854775807 := by have := HO9.out; omega
            rw [← hu]
            have HU := Lib.hid hu; have HB2 := Lib.hid (HB.out.trans (hb2.mono HB.out.size))
            clear hu hus hb2 c0 c1 c2
            go_wp2_with fail
            go_roundg g
            case measure => omega
            case rel => exact ⟨k + 1, o ++ u, e, by omega, by go_num, rfl, by rw [HWE.out, HOO.out, HU.out]; exact str_add2 _ _ s, rfl, by rw [HAN.out]; exact HE.out, HLE2.out, HSZ2.out, HB2.out⟩
          · have hwe : wantB (gs.take (k + 1)) = wantB (gs.take k) := by
              rw [HW.out]; unfold wantF; rw [if_pos rfl, if_neg (by have := HOS.out; omega)]
            have HWE := Lib.hid hwe
            clear hwe
            go_wp2_with fail
            go_roundg g
            case measure => omega
            case rel => exact ⟨k + 1, o, e, by omega, by go_num, rfl, by rw [HWE.out]; exact HOO.out, rfl, by rw [HAN.out]; exact HE.out, HLE2.out, HSZ2.out, HB.out⟩
        | false =>
          by_cases hn : n < 0
          · have hwe : wantB (gs.take (k + 1)) = wantB (gs.take k) := by
              rw [HW.out]; unfold wantF; rw [if_neg (by simp), if_pos hn]
            have hany : (gs.take (k + 1)).any badF = true := by rw [HA.out]; simp [badF, hn]
            have HWE := Lib.hid hwe; have HAN := Lib.hid hany
            clear hwe hany
            go_wp2_with fail
            go_roundg g
            case measure => omega
            case rel => exact ⟨k + 1, o, 3, by omega, by go_num, rfl, by rw [HWE.out]; exact HOO.out, rfl, by rw [HAN.out]; rfl, HLE2.out, HSZ2.out, HB.out⟩
          · obtain ⟨m, rfl⟩ := Int.eq_ofNat_of_zero_le (by omega : 0 ≤ n)
            have hwe : wantB (gs.take (k + 1)) = wantB (gs.take k) ++ lebN m := by
              rw [HW.out]; unfold wantF; rw [if_neg (by simp), if_neg hn]; rfl
            have hbf : badF ((m : Int), s, false) = false := by unfold badF; rw [decide_eq_false hn]; rfl
            have hany : (gs.take (k + 1)).any badF = (gs.take k).any badF := by rw [HA.out, hbf, Bool.or_false]
            clear hbf
            have hm : m ≤ 9223372036854775807 := by have h := HGX.out.1; have h2 : (m : Int) ≤ 9223372036854775807 := h; omega
            have HWE := Lib.hid hwe; have HAN := Lib.hid hany; have HM := Lib.hid hm
            clear hwe hany hm
            go_wp2_with fail
            refine (rnumber_walk m _ HM.out).mono ?_
            rintro r w2 ⟨rfl, hb2⟩
            obtain ⟨u, hu⟩ : ∃ u : ByteArray, u = ⟨(lebN m).toArray⟩ := ⟨_, rfl⟩
            have hus : u.size = (lebN m).length := by rw [hu]; exact List.size_toArray
            have hu9 := lebN_nine m HM.out
            have hsum : o.size + u.size ≤ 9223372036854775807 := by have := HO9.out; omega
            rw [← hu]
            have HU := Lib.hid hu; have HB2 := Lib.hid (HB.out.trans (hb2.mono HB.out.size))
            clear hu hus hu9 hb2 c0 c1 c2
            go_wp2_with fail
            go_roundg g
            case measure => omega
            case rel => exact ⟨k + 1, o ++ u, e, by omega, by go_num, rfl, by rw [HWE.out, HOO.out, HU.out]; exact str_add _ _, rfl, by rw [HAN.out]; exact HE.out, HLE2.out, HSZ2.out, HB2.out⟩
    · obtain rfl : k = gs.length := by omega
      rw [List.take_length] at HOO HE HLE
      have hos : o.size = (wantB gs).length := by rw [HOO.out]; exact List.size_toArray
      have hlw := lay_want gs
      by_cases hbad : gs.any badF = true
      · rw [if_pos hbad] at hlw
        have he3 : e = 3 := by rw [HE.out, if_pos hbad]
        subst he3
        have HLW := Lib.hid hlw
        clear hlw hbad hos hlt
        go_wp2_with fail
        refine (lay_walk ad cap2 gs _ (fldsAt_below HGL.out (Nat.le_refl _) HB.out) (by omega) HGO.out).mono ?_
        rintro r w2 ⟨rfl, hb2⟩
        rw [HLW.out]
        have HB2 := Lib.hid (HB.out.trans (hb2.mono HB.out.size))
        clear hb2
        go_wp2_with fail
        refine (awake_walk _).mono ?_
        rintro r w3 ⟨rfl, hb3⟩
        go_wp2_with fail
        go_ret
        exact ⟨rfl, HB2.out.trans (hb3.mono HB2.out.size)⟩
      · rw [if_neg hbad] at hlw
        have he3 : e = 0 := by rw [HE.out, if_neg hbad]
        subst he3
        by_cases h16 : 65536 < (wantB gs).length
        · rw [if_pos h16] at hlw
          have hbig : (65536 : Int) < (o.size : Int) := by omega
          clear h16
          have HLW := Lib.hid hlw
          clear hlw hbad hos hlt
          go_wp2_with fail
          refine (lay_walk ad cap2 gs _ (fldsAt_below HGL.out (Nat.le_refl _) HB.out) (by omega) HGO.out).mono ?_
          rintro r w2 ⟨rfl, hb2⟩
          rw [HLW.out]
          have HB2 := Lib.hid (HB.out.trans (hb2.mono HB.out.size))
          clear hb2
          go_wp2_with fail
          refine (awake_walk _).mono ?_
          rintro r w3 ⟨rfl, hb3⟩
          go_wp2_with fail
          go_ret
          exact ⟨rfl, HB2.out.trans (hb3.mono HB2.out.size)⟩
        · rw [if_neg h16, ← HOO.out] at hlw
          have hbig : (o.size : Int) ≤ 65536 := by omega
          clear h16
          have HLW := Lib.hid hlw
          clear hlw hbad hos hlt
          go_wp2_with fail
          refine (lay_walk ad cap2 gs _ (fldsAt_below HGL.out (Nat.le_refl _) HB.out) (by omega) HGO.out).mono ?_
          rintro r w2 ⟨rfl, hb2⟩
          rw [HLW.out]
          have HB2 := Lib.hid (HB.out.trans (hb2.mono HB.out.size))
          clear hb2
          go_wp2_with fail
          refine (awake_walk _).mono ?_
          rintro r w3 ⟨rfl, hb3⟩
          go_wp2_with fail
          go_ret
          exact ⟨rfl, HB2.out.trans (hb3.mono HB2.out.size)⟩
end Go.Proofs.Ytalbilhhpiopiaa
