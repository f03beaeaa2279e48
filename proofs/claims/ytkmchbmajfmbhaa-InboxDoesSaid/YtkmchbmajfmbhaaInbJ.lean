/-
  The walk of InboxDoes.
-/
import Derived.Test.YtkmchbmajfmbhaaInbI
import Derived.Test.YtkmchbmajfmbhaaInbD
namespace Go.Proofs.Ytkmchbmajfmbhaa
open Go.RowKit

/-- an act: kind, n, text, of the second box -/
abbrev Act4 := Int × Int × ByteArray × Bool
def a4v (a : Act4) : List Value := (actv a.1 a.2.1 a.2.2.1 a.2.2.2).toList
/-- these acts lie there -/
def actsAt (w : World) (ad : Option Addr) (l : List Act4) : Prop :=
  l = [] ∨ ∃ b off, ad = some ⟨b, off, none⟩ ∧ b < w.heap.size ∧ ∀ i (h : i < l.length), ∀ j u, (a4v l[i])[j]? = some u → w.cell? ⟨b, off + i * 4 + j, none⟩ = some u

theorem room_box' (p c room : Nat) (l : List ByteArray) (w : World) (h : BoxAt w p c room l) :
    Calls Try.prog 14 #[.pointer (some ⟨p, 0, none⟩)] w fun e w' => e = .returned (.int .i64 ((room : Int) - (l.length : Int))) ∧ w' = w.drew := by
  have := room_box p c room l w h
  rw [Int.ofNat_sub h.2.2.1.1] at this
  exact this

set_option maxHeartbeats 4000000 in
set_option maxRecDepth 8000 in
theorem inboxDoes_walk (m : Int) (ad : Option Addr) (cap : Nat) (l : List Act4) (w : World) (hl : actsAt w ad l) (hs : l.length ≤ 9223372036854775807) (hsz : ∀ a ∈ l, a.2.2.1.size ≤ 9223372036854775807) :
    Calls Try.prog 4 #[.int .i64 m, .slice ad l.length cap] w fun e w' => e = .returned (.bool true) ∧ Below w.heap.size w w' := by
  have HL := Lib.hid hl; have HSZ := Lib.hid hsz
  clear hl hsz
  by_cases hbad : m < 1 ∨ 256 < m
  · go_enter Try.func4, Try.ntmps4
    go_wp2_with fail
    refine (new_bad m w hbad).mono ?_
    rintro e w1 ⟨rfl, rfl⟩
    go_wp2_with fail
    refine (new_bad m _ hbad).mono ?_
    rintro e w1 ⟨rfl, rfl⟩
    rcases hbad with hb | hb
    · go_wp2_with fail
      refine (awake_walk _).mono ?_
      rintro e w2 ⟨rfl, hb2⟩
      go_wp2_with fail
      go_ret
      exact ⟨rfl, hb2⟩
    · have hb' : ¬ m < 1 := by omega
      go_wp2_with fail
      refine (awake_walk _).mono ?_
      rintro e w2 ⟨rfl, hb2⟩
      go_wp2_with fail
      go_ret
      exact ⟨rfl, hb2⟩
  · obtain ⟨room, rfl⟩ : ∃ room : Nat, m = room := ⟨m.toNat, by omega⟩
    have h1 : 1 ≤ room := by omega
    have h2 : room ≤ 256 := by omega
    have h1' : ¬ ((room : Int) < 1) := by omega
    have h2' : ¬ ((256 : Int) < (room : Int)) := by omega
    clear hbad
    go_enter Try.func4, Try.ntmps4
    go_wp2_with fail
    refine (new_box room w h1 h2).mono ?_
    rintro e w1 ⟨rfl, hb1, hx1⟩
    obtain ⟨p, hp⟩ : ∃ p, p = w.heap.size + 1 := ⟨_, rfl⟩
    obtain ⟨c, hc⟩ : ∃ c, c = w.heap.size := ⟨_, rfl⟩
    rw [← hp] at hx1 ⊢
    rw [← hc] at hx1
    have HP := Lib.hid hp; have HC := Lib.hid hc
    clear hp hc
    go_wp2_with fail
    refine (new_box room w1 h1 h2).mono ?_
    rintro e w2 ⟨rfl, hb2, hy2⟩
    obtain ⟨q, hq⟩ : ∃ q, q = w1.heap.size + 1 := ⟨_, rfl⟩
    obtain ⟨d, hd⟩ : ∃ d, d = w1.heap.size := ⟨_, rfl⟩
    rw [← hq] at hy2 ⊢
    rw [← hd] at hy2
    have hx2 := hx1.keep hb2 hx1.lt.1 hx1.lt.2
    have hlt1 := hx1.lt
    have hpq : p ≠ q := by omega
    have hpd : p ≠ d := by omega
    have hqc : q ≠ c := by omega
    have hcd : c ≠ d := by omega
    have hcw : w.heap.size ≤ c := by have := HC.out; omega
    have hdw : w.heap.size ≤ d := by have := hb1.size; omega
    have hB2 := Lib.hid (hb1.trans (hb2.mono hb1.size))
    clear hb1 hb2 hx1 hlt1 hq hd HP HC
    go_wp2_with fail
    refine (awake_walk _).mono ?_
    rintro e w3 ⟨rfl, hb3⟩
    have HX := Lib.hid (hx2.keep hb3 hx2.lt.1 hx2.lt.2); have HY := Lib.hid (hy2.keep hb3 hy2.lt.1 hy2.lt.2)
    have HB := Lib.hid (hB2.out.trans (hb3.mono hB2.out.size))
    clear hx2 hy2 hb3 hB2
    go_wp2_with fail
    go_loopg [9, 10, 11] l.length (fun gk vx vy i wr => ∃ (k : Nat) (x y : List ByteArray) (adx ady : Option Addr) (capx capy : Nat), k + gk = l.length ∧ k ≤ 80 ∧ i = .int .i64 (k : Nat) ∧ vx = .slice adx x.length capx ∧ vy = .slice ady y.length capy ∧ BoxAt wr p c room x ∧ BoxAt wr q d room y ∧
      strsAt wr adx x ∧ x.length ≤ capx ∧ capx ≤ 9223372036854775807 ∧ strsAt wr ady y ∧ y.length ≤ capy ∧ capy ≤ 9223372036854775807 ∧ Below w.heap.size w wr)
    case atStart => exact ⟨0, [], [], none, none, 0, 0, by omega, by omega, rfl, rfl, rfl, HX.out, HY.out, .inl rfl, Nat.le_refl _, by omega, .inl rfl, Nat.le_refl _, by omega, HB.out⟩
    case round =>
      obtain ⟨k, x, y, adx, ady, capx, capy, hgk, hk80, rfl, rfl, rfl, hx, hy, hsx, hcx, hcx2, hsy, hcy, hcy2, hb⟩ := hrel
      have hxl := hx.2.2.1.1
      have hyl := hy.2.2.1.1
      have X1 := Lib.hid hx; have Y1 := Lib.hid hy; have SX := Lib.hid hsx; have SY := Lib.hid hsy; have BB := Lib.hid hb
      clear hx hy hsx hsy hb HX HY HB
      by_cases hgo : k < l.length ∧ k < 80
      · obtain ⟨hkl, hk1⟩ := hgo
        rcases HL.out with hat | ⟨bl, off, rfl, hbl, hcs⟩
        · simp [hat] at hkl
        have hcc : ∀ j u, (a4v l[k])[j]? = some u → wr.cell? ⟨bl, off + k * 4 + j, none⟩ = some u := fun j u hu => (BB.out.cell (p := ⟨bl, off + k * 4 + j, none⟩) hbl).trans (hcs k hkl j u hu)
        have hz := HSZ.out l[k] (List.getElem_mem hkl)
        obtain ⟨a, ha⟩ : ∃ a, a = l[k] := ⟨_, rfl⟩
        rw [← ha] at hcc hz
        obtain ⟨kind, n, s, two⟩ := a
        have c2 : wr.cell? ⟨bl, off + k * 4 + 2, none⟩ = some (.string s) := hcc 2 _ rfl
        have c3 : wr.cell? ⟨bl, off + k * 4 + 3, none⟩ = some (.bool two) := hcc 3 _ rfl
        have hz : s.size ≤ 9223372036854775807 := hz
        have HCC := Lib.hid hcc
        clear hcs hcc ha
        obtain ⟨g, rfl⟩ : ∃ g, gk = g + 1 := ⟨gk - 1, by omega⟩
        by_cases hbig : (200 : Int) < (s.size : Int)
        · go_wp2_with fail
          go_roundg g
          case measure => omega
          case rel => exact ⟨k + 1, x, y, adx, ady, capx, capy, by omega, by omega, by go_num, rfl, rfl, X1.out, Y1.out, SX.out, hcx, hcx2, SY.out, hcy, hcy2, BB.out⟩
        · have HW := Lib.hid (do_walk p c q d room x y adx ady capx capy kind n s false wr X1.out Y1.out hpq hpd hqc hcd SX.out hcx hcx2 SY.out hcy hcy2)
          have HV := Lib.hid (do_walk q d p c room y x ady adx capy capx kind n s true wr Y1.out X1.out hpq.symm hqc hpd hcd.symm SY.out hcy hcy2 SX.out hcx hcx2)
          cases two
          · go_wp2_with (refine wpList_cells 37 _ rfl bl (off + k * 4) rfl rfl (a4v (kind, n, s, false)) _ HCC.out Try.underlying37 rfl (by kernel_rfl) ?_)
            refine HW.out.mono ?_
            clear HW HV
            rintro e w4 ⟨x', y', adx', ady', capx', capy', rfl, hg, hx', hy', hsx', hcx', hcx2', hsy', hcy', hcy2'⟩
            have hxl' := hx'.2.2.1.1
            have hyl' := hy'.2.2.1.1
            have X2 := Lib.hid hx'; have Y2 := Lib.hid hy'; have SX2 := Lib.hid hsx'; have SY2 := Lib.hid hsy'; have BB2 := Lib.hid (hg.below BB.out BB.out.size hcw hdw)
            clear hx' hy' hsx' hsy' hg X1 Y1 SX SY BB c2 c3 HCC
            go_wp2_with fail
            refine (len_box p c room x' _ X2.out).mono ?_
            rintro e w5 ⟨rfl, rfl⟩
            go_wp2_with fail
            refine (len_box q d room y' _ Y2.out).mono ?_
            rintro e w6 ⟨rfl, rfl⟩
            go_wp2_with fail
            refine (room_box' p c room x' _ X2.out).mono ?_
            rintro e w6 ⟨rfl, rfl⟩
            go_wp2_with fail
            refine (room_box' q d room y' w6.drew Y2.out).mono ?_
            rintro e w7 ⟨rfl, rfl⟩
            go_wp2_with fail
            go_roundg g
            case measure => omega
            case rel => exact ⟨k + 1, x', y', adx', ady', capx', capy', by omega, by omega, by go_num, rfl, rfl, X2.out, Y2.out, SX2.out, hcx', hcx2', SY2.out, hcy', hcy2', BB2.out.drew.drew⟩
          · go_wp2_with (refine wpList_cells 37 _ rfl bl (off + k * 4) rfl rfl (a4v (kind, n, s, true)) _ HCC.out Try.underlying37 rfl (by kernel_rfl) ?_)
            refine HV.out.mono ?_
            clear HW HV
            rintro e w4 ⟨y', x', ady', adx', capy', capx', rfl, hg, hy', hx', hsy', hcy', hcy2', hsx', hcx', hcx2'⟩
            have hxl' := hx'.2.2.1.1
            have hyl' := hy'.2.2.1.1
            have X2 := Lib.hid hx'; have Y2 := Lib.hid hy'; have SX2 := Lib.hid hsx'; have SY2 := Lib.hid hsy'; have BB2 := Lib.hid (hg.below BB.out BB.out.size hdw hcw)
            clear hx' hy' hsx' hsy' hg X1 Y1 SX SY BB c2 c3 HCC
            go_wp2_with fail
            refine (len_box p c room x' _ X2.out).mono ?_
            rintro e w5 ⟨rfl, rfl⟩
            go_wp2_with fail
            refine (len_box q d room y' _ Y2.out).mono ?_
            rintro e w6 ⟨rfl, rfl⟩
            go_wp2_with fail
            refine (room_box' p c room x' _ X2.out).mono ?_
            rintro e w6 ⟨rfl, rfl⟩
            go_wp2_with fail
            refine (room_box' q d room y' w6.drew Y2.out).mono ?_
            rintro e w7 ⟨rfl, rfl⟩
            go_wp2_with fail
            go_roundg g
            case measure => omega
            case rel => exact ⟨k + 1, x', y', adx', ady', capx', capy', by omega, by omega, by go_num, rfl, rfl, X2.out, Y2.out, SX2.out, hcx', hcx2', SY2.out, hcy', hcy2', BB2.out.drew.drew⟩
      · have hstop : ¬ k < l.length ∨ (k < l.length ∧ ¬ k < 80) := by omega
        clear hgo
        have ex : x.take 1000 = x := List.take_of_length_le (by omega)
        have ey : y.take 1000 = y := List.take_of_length_le (by omega)
        have EX := Lib.hid ex; have EY := Lib.hid ey
        clear ex ey
        rcases hstop with hst | ⟨hst, hst2⟩
        all_goals
          go_wp2_with fail
          refine (pass_self p _).mono ?_
          rintro e w4 ⟨rfl, rfl⟩
          go_wp2_with fail
          refine (drain_walk p c room x 1000 _ X1.out).mono ?_
          rintro e w4 ⟨v, rfl, hrow, hg4, hx4⟩
          rw [show (1000 : Int).toNat = 1000 from rfl, EX.out] at hrow
          have hy4 := Y1.out.grown hg4 (fun e => hqc (Option.some.inj e)) (fun e => hcd (Option.some.inj e).symm)
          have hgg := G2.left d hg4
          have hsx4 := strsAt_two SX.out hgg X1.out Y1.out
          have hsy4 := strsAt_two SY.out hgg X1.out Y1.out
          have hb4 := hgg.below BB.out BB.out.size hcw hdw
          obtain ⟨adv, capv, rfl, hsv⟩ := hrow.form
          have kt := texts_walk adv adx capv capx x x w4 hsv hsx4 (by omega)
          rw [decide_eq_true (rfl : x = x)] at kt
          have KT := Lib.hid kt
          clear kt
          have Y4 := Lib.hid hy4; have X4 := Lib.hid hx4; have SY4 := Lib.hid hsy4; have B4 := Lib.hid hb4
          clear hrow hg4 hx4 hy4 hgg hsx4 hsy4 hb4 hsv X1 Y1 SX SY BB
          go_wp2_with fail
          refine KT.out.mono ?_
          rintro e w5 ⟨rfl, hb5⟩
          have hy5 := Y4.out.keep hb5 Y4.out.lt.1 Y4.out.lt.2
          have hx5 := X4.out.keep hb5 X4.out.lt.1 X4.out.lt.2
          have hsy5 := strsAt_below SY4.out (Nat.le_refl _) hb5
          have B5 := Lib.hid (B4.out.trans (hb5.mono B4.out.size))
          have Y5 := Lib.hid hy5; have X5 := Lib.hid hx5; have SY5 := Lib.hid hsy5
          clear hy5 hx5 hsy5 hb5 KT Y4 X4 SY4 B4
          go_wp2_with fail
          refine (drain_walk q d room y 1000 _ Y5.out).mono ?_
          rintro e w6 ⟨v, rfl, hrow, hg6, hy6⟩
          rw [show (1000 : Int).toNat = 1000 from rfl, EY.out] at hrow
          have hgg := G2.right c hg6
          have hsy6 := strsAt_two SY5.out hgg X5.out Y5.out
          have hb6 := hgg.below B5.out B5.out.size hcw hdw
          obtain ⟨adu, capu, rfl, hsu⟩ := hrow.form
          have kt := texts_walk adu ady capu capy y y w6 hsu hsy6 (by omega)
          rw [decide_eq_true (rfl : y = y)] at kt
          have KT := Lib.hid kt
          clear kt
          have B6 := Lib.hid hb6
          clear hrow hg6 hy6 hgg hsy6 hb6 hsu X5 Y5 SY5 B5
          go_wp2_with fail
          refine KT.out.mono ?_
          rintro e w7 ⟨rfl, hb7⟩
          have B7 := Lib.hid (B6.out.trans (hb7.mono B6.out.size))
          clear hb7 KT B6
          go_wp2_with fail
          go_ret
          exact ⟨rfl, B7.out⟩
end Go.Proofs.Ytkmchbmajfmbhaa
