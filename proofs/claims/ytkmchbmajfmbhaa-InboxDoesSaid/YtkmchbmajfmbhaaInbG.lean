/-
  Two boxes: Pass, Either; the reference's First, Low.
-/
import Derived.Test.YtkmchbmajfmbhaaInbE
namespace Go.Proofs.Ytkmchbmajfmbhaa
open Go.RowKit

/-- nothing old is touched but the blocks c, d -/
structure G2 (c d : Nat) (w w' : World) : Prop where
  os : w'.os = w.os
  tape : w'.tape = w.tape
  output : w'.output = w.output
  size : w.heap.size ≤ w'.heap.size
  block : ∀ k, k < w.heap.size → k ≠ c → k ≠ d → w'.heap[k]? = w.heap[k]?
theorem G2.refl (c d : Nat) (w : World) : G2 c d w w := ⟨rfl, rfl, rfl, Nat.le_refl _, fun _ _ _ _ => rfl⟩
theorem G2.drew {c d : Nat} {w w' : World} (h : G2 c d w w') : G2 c d w w'.drew := ⟨h.os, h.tape, h.output, h.size, h.block⟩
theorem G2.trans {c d : Nat} {a b e : World} (h : G2 c d a b) (k : G2 c d b e) : G2 c d a e :=
  ⟨k.os.trans h.os, k.tape.trans h.tape, k.output.trans h.output, Nat.le_trans h.size k.size, fun i hi h1 h2 => (k.block i (Nat.lt_of_lt_of_le hi h.size) h1 h2).trans (h.block i hi h1 h2)⟩
theorem G2.swap {c d : Nat} {w w' : World} (h : G2 c d w w') : G2 d c w w' := ⟨h.os, h.tape, h.output, h.size, fun i hi h1 h2 => h.block i hi h2 h1⟩
theorem G2.left {c : Nat} {w w' : World} (d : Nat) (h : w.grownBy w' (some c)) : G2 c d w w' := ⟨h.os, h.tape, h.output, h.size, fun i hi h1 _ => h.block i hi (fun e => h1 (Option.some.inj e))⟩
theorem G2.right {d : Nat} {w w' : World} (c : Nat) (h : w.grownBy w' (some d)) : G2 c d w w' := (G2.left c h).swap
theorem G2.ofBelow {w w' : World} (c d : Nat) (h : Below w.heap.size w w') : G2 c d w w' := ⟨h.os, h.tape, h.output, h.size, fun i hi _ _ => h.block i hi⟩
theorem G2.below {c d B : Nat} {w0 w w' : World} (h : Below B w0 w) (k : G2 c d w w') (hB : B ≤ w.heap.size) (hc : B ≤ c) (hd : B ≤ d) : Below B w0 w' :=
  h.trans ⟨k.os, k.tape, k.output, k.size, fun i hi => k.block i (by omega) (by omega) (by omega)⟩
theorem BoxAt.chan {w : World} {p c room : Nat} {l : List ByteArray} (h : BoxAt w p c room l) : ∃ o : Obj, w.heap[c]? = some o ∧ ∀ i, w.cell? ⟨c, i, none⟩ = none := by
  obtain ⟨_, _, _, s, r, h3⟩ := h
  exact ⟨_, h3, fun i => by simp [World.cell?, h3]⟩
theorem strsAt_two {w w' : World} {ad : Option Addr} {l : List ByteArray} {p c q d room : Nat} {x y : List ByteArray} (h : strsAt w ad l) (hg : G2 c d w w') (hp : BoxAt w p c room x) (hq : BoxAt w q d room y) : strsAt w' ad l := by
  rcases h with h | ⟨b, off, h1, h2, h3⟩
  · exact .inl h
  · by_cases hl : l = []
    · exact .inl hl
    have h0 := h3 0 (List.length_pos_iff.2 hl)
    obtain ⟨_, _, hc⟩ := hp.chan
    obtain ⟨_, _, hd⟩ := hq.chan
    have hbc : b ≠ c := by rintro rfl; rw [hc] at h0; cases h0
    have hbd : b ≠ d := by rintro rfl; rw [hd] at h0; cases h0
    refine .inr ⟨b, off, h1, by have := hg.size; omega, fun i hi => ?_⟩
    rw [World.cell?_of_block (hg.block b h2 hbc hbd)]
    exact h3 i hi
theorem BoxAt.two {w w' : World} {p c room : Nat} {l : List ByteArray} {c' d' : Nat} (h : BoxAt w p c room l) (hg : G2 c' d' w w') (h1 : p ≠ c') (h2 : p ≠ d') (h3 : c ≠ c') (h4 : c ≠ d') : BoxAt w' p c room l := by
  have hlt := h.lt
  obtain ⟨k0, k1, k2, s, r, k3⟩ := h
  exact ⟨k0, (hg.block p hlt.1 h1 h2).trans k1, k2, s, r, (hg.block c hlt.2 h3 h4).trans k3⟩

theorem low_walk (a b : Int) (w : World) : Calls Try.prog 19 #[.int .i64 a, .int .i64 b] w fun e w' => e = .returned (.int .i64 (min a b)) ∧ w' = w := by
  go_enter Try.func19, Try.ntmps19
  by_cases h : a < b
  · go_wp2_with fail
    go_ret
    exact ⟨ret_int (by omega), rfl⟩
  · go_wp2_with fail
    go_ret
    exact ⟨ret_int (by omega), rfl⟩

theorem first_walk (ad : Option Addr) (cap : Nat) (l : List ByteArray) (n : Int) (w : World) (hl : strsAt w ad l) (hc : l.length ≤ cap) (hc2 : cap ≤ 9223372036854775807) :
    Calls Try.prog 18 #[.slice ad l.length cap, .int .i64 n] w fun e w' => ∃ ad' cap', e = .returned (.slice ad' (l.take n.toNat).length cap') ∧ strsAt w ad' (l.take n.toNat) ∧ (l.take n.toNat).length ≤ cap' ∧ cap' ≤ 9223372036854775807 ∧ w' = w := by
  obtain ⟨m, hm⟩ : ∃ m, m = l.take n.toNat := ⟨_, rfl⟩
  rw [← hm]
  have HL := Lib.hid hl; have HM := Lib.hid hm
  clear hl hm
  go_enter Try.func18, Try.ntmps18
  by_cases h1 : n < 1
  · have hm : m = [] := by rw [HM.out, show n.toNat = 0 by omega]; rfl
    subst hm
    go_wp2_with fail
    go_ret
    exact ⟨none, 0, rfl, .inl rfl, Nat.le_refl _, by omega, rfl⟩
  · by_cases h2 : n < (l.length : Int)
    · have hml : m.length = n.toNat := by rw [HM.out, List.length_take]; omega
      have hat : strsAt w ad m := by rw [HM.out]; exact strsAt_take HL.out _
      have HML := Lib.hid hml; have HAT := Lib.hid hat
      clear hml hat
      go_wp2_with fail
      go_ret
      exact ⟨_, _, by rw [HML.out]; rfl, HAT.out, by rw [HML.out]; omega, hc2, rfl⟩
    · have hm : m = l := by rw [HM.out]; exact List.take_of_length_le (by omega)
      subst hm
      go_wp2_with fail
      go_ret
      exact ⟨_, _, rfl, HL.out, hc, hc2, rfl⟩

set_option maxHeartbeats 1000000 in
theorem pass_walk (p c q d room : Nat) (x y : List ByteArray) (w : World) (hx : BoxAt w p c room x) (hy : BoxAt w q d room y) (hpq : p ≠ q) (hpd : p ≠ d) (hqc : q ≠ c) (hcd : c ≠ d) :
    Calls Try.prog 15 #[.pointer (some ⟨p, 0, none⟩), .pointer (some ⟨q, 0, none⟩)] w fun e w' => e = .returned (.int .i64 (min x.length (room - y.length) : Nat)) ∧ G2 c d w w' ∧ BoxAt w' p c room (x.drop (min x.length (room - y.length))) ∧ BoxAt w' q d room (y ++ x.take (min x.length (room - y.length))) := by
  have hr := hx.2.2.1.2
  have hxl := hx.2.2.1.1
  have hyl := hy.2.2.1.1
  obtain ⟨m, hm⟩ : ∃ m, m = min x.length (room - y.length) := ⟨_, rfl⟩
  rw [← hm]
  have HX := Lib.hid hx; have HY := Lib.hid hy; have HM := Lib.hid hm
  clear hx hy hm
  go_enter Try.func15, Try.ntmps15
  go_wp2_with fail
  go_loopg [5] m (fun gk n wr => ∃ k : Nat, k + gk = m ∧ n = .int .i64 (k : Nat) ∧ G2 c d w wr ∧ BoxAt wr p c room (x.drop k) ∧ BoxAt wr q d room (y ++ x.take k))
  case atStart => exact ⟨0, by omega, rfl, G2.refl _ _ _, HX.out, by rw [List.take_zero, List.append_nil]; exact HY.out⟩
  case round =>
    obtain ⟨k, hgk, rfl, hg, h1, h2⟩ := hrel
    have hne := neq_other p q wr hpq h1.2.1 h2.2.1
    have hlx : (x.drop k).length = x.length - k := List.length_drop
    have hly : (y ++ x.take k).length = y.length + k := by rw [List.length_append, List.length_take]; have := HM.out; omega
    have HG := Lib.hid hg; have H1 := Lib.hid h1; have H2 := Lib.hid h2; have HLX := Lib.hid hlx; have HLY := Lib.hid hly
    clear hg h1 h2 hlx hly
    by_cases hlt : k < m
    · obtain ⟨g, rfl⟩ : ∃ g, gk = g + 1 := ⟨gk - 1, by omega⟩
      have hkx : k < x.length := by have := HM.out; omega
      have hdr : x.drop k = x[k] :: x.drop (k + 1) := List.drop_eq_getElem_cons hkx
      have htk : x.take (k + 1) = x.take k ++ [x[k]] := by rw [List.take_append_getElem]
      obtain ⟨s, hs⟩ : ∃ s, s = x[k] := ⟨_, rfl⟩
      rw [← hs] at hdr htk
      have HDR := Lib.hid hdr; have HTK := Lib.hid htk
      clear hs hdr htk
      have hl1 := len_box p c room _ wr H1.out
      rw [HLX.out] at hl1
      have hl2 := room_box q d room _ wr H2.out
      rw [HLY.out] at hl2
      have L1 := Lib.hid hl1; have L2 := Lib.hid hl2
      clear hl1 hl2
      have e1 : (0 : Int) < ((x.length - k : Nat) : Int) := by omega
      have e2 : (0 : Int) < ((room - (y.length + k) : Nat) : Int) := by have := HM.out; omega
      obtain ⟨n1, hn1⟩ : ∃ n1, n1 = x.length - k := ⟨_, rfl⟩
      obtain ⟨n2, hn2⟩ : ∃ n2, n2 = room - (y.length + k) := ⟨_, rfl⟩
      rw [← hn1] at e1 L1; rw [← hn2] at e2 L2
      clear hn1 hn2
      go_wp2_with fail
      refine L1.out.mono ?_
      rintro e w5 ⟨rfl, rfl⟩
      go_wp2_with fail
      refine L2.out.mono ?_
      rintro e w1 ⟨rfl, rfl⟩
      go_wp2_with fail
      refine (get_some p c room s (x.drop (k + 1)) w5.drew (by have h := H1.out; rw [HDR.out] at h; exact h)).mono ?_
      rintro e w2 ⟨rfl, hg2, hb2⟩
      have hq2 : BoxAt w2 q d room (y ++ x.take k) := BoxAt.grown (w := w5.drew) H2.out hg2 (fun e => hqc (Option.some.inj e)) (fun e => hcd (Option.some.inj e).symm)
      have B2 := Lib.hid hb2; have Q2 := Lib.hid hq2; have GG2 := Lib.hid (HG.out.drew.trans (G2.left d hg2))
      clear hb2 hq2 hg2
      go_wp2_with fail
      refine (put_room q d room _ s _ Q2.out (by rw [HLY.out]; have := HM.out; omega)).mono ?_
      rintro e w3 ⟨rfl, hg3, hb3⟩
      have hp3 : BoxAt w3 p c room (x.drop (k + 1)) := BoxAt.grown B2.out hg3 (fun e => hpd (Option.some.inj e)) (fun e => hcd (Option.some.inj e))
      rw [List.append_assoc, ← HTK.out] at hb3
      have B3 := Lib.hid hb3; have P3 := Lib.hid hp3; have GG3 := Lib.hid (GG2.out.trans (G2.right c hg3))
      clear hb3 hp3 hg3
      go_wp2_with fail
      go_roundg g
      case measure => omega
      case rel => exact ⟨k + 1, by omega, by go_num, GG3.out, P3.out, B3.out⟩
    · obtain rfl : k = m := by omega
      have hl1 := len_box p c room _ wr H1.out
      rw [HLX.out] at hl1
      have hl2 := room_box q d room _ wr H2.out
      rw [HLY.out] at hl2
      have L1 := Lib.hid hl1; have L2 := Lib.hid hl2
      clear hl1 hl2
      by_cases e1 : x.length - k = 0
      · rw [e1] at L1
        go_wp2_with fail
        refine L1.out.mono ?_
        rintro e w1 ⟨rfl, rfl⟩
        go_wp2_with fail
        go_ret
        exact ⟨rfl, HG.out, H1.out, H2.out⟩
      · have e2 : room - (y.length + k) = 0 := by have := HM.out; omega
        rw [e2] at L2
        have e3 : (0 : Int) < ((x.length - k : Nat) : Int) := by omega
        obtain ⟨n1, hn1⟩ : ∃ n1, n1 = x.length - k := ⟨_, rfl⟩
        rw [← hn1] at e3 L1
        clear hn1 e1 e2
        go_wp2_with fail
        refine L1.out.mono ?_
        rintro e w1 ⟨rfl, rfl⟩
        go_wp2_with fail
        refine L2.out.mono ?_
        rintro e w1 ⟨rfl, rfl⟩
        go_wp2_with fail
        go_ret
        exact ⟨rfl, HG.out.drew, H1.out, H2.out⟩

/-- what Either answers -/
def eitherR (x y : List ByteArray) : ByteArray × Int × List ByteArray × List ByteArray :=
  match x, y with
  | s :: r, y => (s, 1, r, y)
  | [], s :: r => (s, 2, [], r)
  | [], [] => (⟨#[]⟩, 0, [], [])
theorem either_walk (p c q d room : Nat) (x y : List ByteArray) (w : World) (hx : BoxAt w p c room x) (hy : BoxAt w q d room y) (hpd : p ≠ d) (hqc : q ≠ c) (hcd : c ≠ d) :
    Calls Try.prog 16 #[.pointer (some ⟨p, 0, none⟩), .pointer (some ⟨q, 0, none⟩)] w fun e w' => e = .returned (.tuple #[.string (eitherR x y).1, .int .i64 (eitherR x y).2.1]) ∧ G2 c d w w' ∧ BoxAt w' p c room (eitherR x y).2.2.1 ∧ BoxAt w' q d room (eitherR x y).2.2.2 := by
  have HX := Lib.hid hx; have HY := Lib.hid hy
  clear hx hy
  go_enter Try.func16, Try.ntmps16
  cases x with
  | cons s r =>
    go_wp2_with fail
    refine (get_some p c room s r _ HX.out).mono ?_
    rintro e w2 ⟨rfl, hg2, hb2⟩
    go_wp2_with fail
    go_ret2
    exact ⟨rfl, G2.left d hg2, hb2, BoxAt.grown HY.out hg2 (fun e => hqc (Option.some.inj e)) (fun e => hcd (Option.some.inj e).symm)⟩
  | nil =>
    go_wp2_with fail
    refine (get_none p c room _ HX.out).mono ?_
    rintro e w2 ⟨rfl, rfl⟩
    cases y with
    | cons s r =>
      go_wp2_with fail
      refine (get_some q d room s r _ HY.out).mono ?_
      rintro e w2 ⟨rfl, hg2, hb2⟩
      go_wp2_with fail
      go_ret2
      exact ⟨rfl, G2.right c hg2, BoxAt.grown HX.out hg2 (fun e => hpd (Option.some.inj e)) (fun e => hcd (Option.some.inj e)), hb2⟩
    | nil =>
      go_wp2_with fail
      refine (get_none q d room _ HY.out).mono ?_
      rintro e w2 ⟨rfl, rfl⟩
      go_wp2_with fail
      go_ret2
      exact ⟨rfl, G2.refl _ _ _, HX.out, HY.out⟩
end Go.Proofs.Ytkmchbmajfmbhaa
