/-
  Layer 5: where there is no journal.
-/
import Derived.Test.YtagdaeapjofajaaMgM
namespace Go.Proofs.Ytagdaeapjofajaa
set_option maxRecDepth 4000
open Go.RowKit

theorem holds_fresh (n : Nat) (h2 : 2 ≤ n) (h4 : n ≤ 4096) : (holdsR (freshD n)).2 = 8 := by
  have hc := fresh_calm n (by omega) h4
  have r0 := readH_val (st := freshD n) (i := 0) (by rw [hc.len]; omega) hc.up
  have r1 := readH_val (st := freshD n) (i := 1) (by rw [hc.len]; omega) hc.up
  rw [fresh_last n 0 (by omega), headOf_zero] at r0
  rw [fresh_last n 1 (by omega), headOf_zero] at r1
  have e1 : holdN (freshD n) 1 = ((0, 0, 0), false) := by
    show (if (readH (freshD n) (0 : Nat)).2.1 = true ∧ _ then _ else _) = _
    rw [r0, if_neg (fun h => by cases h.1)]
    rfl
  have e2 : holdN (freshD n) 2 = ((0, 0, 0), false) := by
    show (if (readH (freshD n) (1 : Nat)).2.1 = true ∧ _ then _ else holdN (freshD n) 1) = _
    rw [r1, if_neg (fun h => by cases h.1), e1]
  unfold holdsR
  rw [r0, if_neg (by simp), r1, if_neg (by simp), e2]
  rfl
set_option maxHeartbeats 2000000 in
theorem journalNone_walk (s : ByteArray) (w : World) : Calls Try.prog 5 #[.string s] w fun r w' => r = .returned (.bool true) ∧ Below w.heap.size w w' := by
  have h8 := holds_fresh 9 (by omega) (by omega)
  have H8 := Lib.hid h8
  clear h8
  by_cases hbig : (100 : Int) < (s.size : Int)
  · go_enter Try.func5, Try.ntmps5
    go_wp2_with fail
    refine (new_disk 3 w (by omega) (by omega)).mono ?_
    rintro e w1 ⟨p, F, rfl, hb1, hd1, hF1⟩
    have HB1 := Lib.hid hb1
    clear hb1 hd1 hF1
    go_wp2_with fail
    refine (new_disk 9 w1 (by omega) (by omega)).mono ?_
    rintro e w2 ⟨p2, F2, rfl, hb2, hd2, hF2⟩
    have HB2 := Lib.hid (HB1.out.trans (hb2.mono HB1.out.size))
    clear hb2 hd2 hF2
    go_wp2_with fail
    refine (awake5_walk w2).mono ?_
    rintro e w3 ⟨rfl, hb3⟩
    have HB3 := Lib.hid (HB2.out.trans (hb3.mono HB2.out.size))
    clear hb3
    go_wp2_with fail
    go_ret
    exact ⟨rfl, HB3.out⟩
  · go_enter Try.func5, Try.ntmps5
    go_wp2_with fail
    refine (new_disk 3 w (by omega) (by omega)).mono ?_
    rintro e w1 ⟨p, F, rfl, hb1, hd1, hF1⟩
    have HB1 := Lib.hid hb1; have HD1 := Lib.hid hd1
    clear hb1 hd1 hF1
    go_wp2_with fail
    refine (new_disk 9 w1 (by omega) (by omega)).mono ?_
    rintro e w2 ⟨p2, F2, rfl, hb2, hd2, hF2⟩
    have HB2 := Lib.hid (HB1.out.trans (hb2.mono HB1.out.size))
    have HD12 := Lib.hid (HD1.out.below hb2)
    have HD2 := Lib.hid hd2
    clear hb2 hd2 hF2
    go_wp2_with fail
    refine (open_nil w2).mono ?_
    rintro e w3 ⟨rfl, hb3⟩
    have HB3 := Lib.hid (HB2.out.trans (hb3.mono HB2.out.size))
    have HD13 := Lib.hid (HD12.out.below hb3); have HD3 := Lib.hid (HD2.out.below hb3)
    clear hb3
    go_wp2_with fail
    refine (open_may p F (freshD 3) w3 HD13.out (by show (List.replicate 3 [z64]).length < 4; simp)).mono ?_
    rintro e w4 ⟨rfl, hb4⟩
    have HB4 := Lib.hid (HB3.out.trans (hb4.mono HB3.out.size))
    have HD14 := Lib.hid (HD13.out.below hb4); have HD4 := Lib.hid (HD3.out.below hb4)
    clear hb4
    have KO := Lib.hid (open_holds p2 F2 (freshD 9) w4 HD4.out (by show 4 ≤ (List.replicate 9 [z64]).length; simp) (by rw [H8.out]; simp))
    rw [H8.out] at KO
    go_wp2_with fail
    refine KO.out.mono ?_
    rintro e w5 ⟨rfl, hb5⟩
    have HB5 := Lib.hid (HB4.out.trans (hb5.mono HB4.out.size))
    have HD15 := Lib.hid (HD14.out.below hb5)
    clear hb5 KO
    go_wp2_with fail
    refine (awake5_walk w5).mono ?_
    rintro e w6 ⟨rfl, hb6⟩
    have HB6 := Lib.hid (HB5.out.trans (hb6.mono HB5.out.size))
    have HD16 := Lib.hid (HD15.out.below hb6)
    clear hb6
    go_wp2_with fail
    refine (format_nil w6).mono ?_
    rintro e w7 ⟨rfl, rfl⟩
    have KM := Lib.hid (format_may p F (freshD 3) w7 HD16.out (by show (List.replicate 3 [z64]).length < 4; simp))
    go_wp2_with fail
    refine KM.out.mono ?_
    rintro e w8 ⟨rfl, rfl⟩
    clear KM HD1 HD12 HD13 HD14 HD15 HD16 HD2 HD3 HD4 HB1 HB2 HB3 HB4 HB5
    go_wp2_with fail
    refine (append_nil _ _).mono ?_
    rintro e w9 ⟨rfl, rfl⟩
    have HB9 := Lib.hid (HB6.out.alloc HB6.out.size (.cells #[.string s] 9))
    go_wp2_with fail
    refine (rewrite_nil _ _).mono ?_
    rintro e w10 ⟨rfl, rfl⟩
    trace_state
    go_wp2_with fail
    refine (room_nil _).mono ?_
    rintro e w11 ⟨rfl, rfl⟩
    go_wp2_with fail
    refine (used_nil _).mono ?_
    rintro e w12 ⟨rfl, rfl⟩
    go_wp2_with fail
    refine (seq_nil _).mono ?_
    rintro e w13 ⟨rfl, rfl⟩
    go_wp2_with fail
    refine (broken_nil _).mono ?_
    rintro e w14 ⟨rfl, rfl⟩
    go_wp2_with fail
    go_ret
    exact ⟨rfl, HB9.out.alloc HB9.out.size _⟩
end Go.Proofs.Ytagdaeapjofajaa
