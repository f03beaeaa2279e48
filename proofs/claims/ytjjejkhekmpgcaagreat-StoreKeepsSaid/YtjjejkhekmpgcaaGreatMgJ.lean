/-
  Layer 5: the first bytes of a half.
  Layer 5: Open.
  Layer 5: Open, where a head holds.
  Layer 5: Used, Room, Seq, Broken; laid.
-/
import Derived.Test.YtjjejkhekmpgcaaGreatMgI
import Derived.Test.YtjjejkhekmpgcaaGreatMgE
import Derived.Test.YtjjejkhekmpgcaaGreatMgA
namespace Go.Proofs.YtjjejkhekmpgcaaGreat
set_option maxRecDepth 4000
open Go.RowKit

/-- so many sectors' bytes from one on -/
def secsB (st : Dk) (base k : Nat) : List UInt8 := (List.range k).flatMap fun i => lastS st.S (base + i)
theorem secsB_succ (st : Dk) (base k : Nat) : secsB st base (k + 1) = secsB st base k ++ lastS st.S (base + k) := by
  unfold secsB
  rw [List.range_succ, List.flatMap_append]
  simp
theorem secsB_length (st : Dk) (base k : Nat) (ok : secOk st.S) (h : base + k ≤ st.S.length) : (secsB st base k).length = 64 * k := by
  induction k with
  | zero => rfl
  | succ k ih =>
    rw [secsB_succ, List.length_append, ih (by omega), last_len (by omega) ok]
    omega
theorem secsB_take (st : Dk) (base : Nat) : ∀ (d k n : Nat), n ≤ (secsB st base k).length → (secsB st base (k + d)).take n = (secsB st base k).take n
  | 0, k, n, _ => rfl
  | d + 1, k, n, h => by
    have ih := secsB_take st base d k n h
    have hle : n ≤ (secsB st base (k + d)).length := by
      have h1 := congrArg List.length ih
      rw [List.length_take, List.length_take] at h1
      omega
    rw [show k + (d + 1) = (k + d) + 1 by omega, secsB_succ, List.take_append_of_le_length hle, ih]
/-- the bytes of a half -/
def halfB (st : Dk) (half : Nat) : List UInt8 := secsB st (2 + half * sizeN st.S.length) (sizeN st.S.length)
theorem half_in (n half k : Nat) (h4 : 4 ≤ n) (hh : half ≤ 1) (hk : k ≤ sizeN n) : 2 + half * sizeN n + k ≤ n := by
  have hz : 2 * sizeN n + 2 ≤ n := by unfold sizeN; omega
  have : half = 0 ∨ half = 1 := by omega
  rcases this with rfl | rfl <;> omega
theorem halfB_length (st : Dk) (half : Nat) (ok : secOk st.S) (h4 : 4 ≤ st.S.length) (hh : half ≤ 1) : (halfB st half).length = 64 * sizeN st.S.length :=
  secsB_length st _ _ ok (half_in _ _ _ h4 hh (Nat.le_refl _))
theorem read_ok (st : Dk) (i : Nat) (hi : i < st.S.length) (hd : st.down = false) : readD st (i : Nat) = (txt (lastS st.S i), 0) := by
  have : readyE st (i : Nat) = 0 := by
    unfold readyE
    rw [if_neg (by rw [hd]; simp), if_neg (by omega)]
  unfold readD
  rw [if_pos this]
  rfl

set_option maxHeartbeats 4000000 in
theorem bytes_walk (p : Nat) (F : Nat → Prop) (st : Dk) (half n : Nat) (w : World) (h : Disk w p F st) (h4 : 4 ≤ st.S.length) (hdn : st.down = false) (hh : half ≤ 1) (hn : n ≤ sizeN st.S.length * 64) :
    Calls Tryz.prog 53 #[.pointer (some ⟨p, 0, none⟩), .int .i64 half, .int .i64 n] w fun r w' => r = .returned (.tuple #[.string (txt ((halfB st half).take n)), .int .i64 0]) ∧ Below w.heap.size w w' := by
  obtain ⟨i0, hi, hz0, hz1, hz2⟩ := info_parts info_u8
  have ok := h.ok
  have hz4 : sizeN st.S.length ≤ 4096 := by have := ok.2.1; unfold sizeN; omega
  have KF := fun w' (hd : Disk w' p F st) => Lib.hid (first_walkJ p F st half w' hd (by omega) hh)
  obtain ⟨z, hz⟩ : ∃ z, z = sizeN st.S.length := ⟨_, rfl⟩
  have hin := fun k hk => half_in st.S.length half k h4 hh hk
  obtain ⟨B, hB⟩ : ∃ B, B = 2 + half * sizeN st.S.length := ⟨_, rfl⟩
  have hhf : halfB st half = secsB st B z := by unfold halfB; rw [hB, hz]
  have hlen := fun k (hk : k ≤ z) => secsB_length st B k ok (by have := hin k (by omega); omega)
  have hrd := fun k (hk : k < z) => read_ok st (B + k) (by have := hin (k + 1) (by omega); omega) hdn
  have hll := fun k (hk : k < z) => last_len (S := st.S) (i := B + k) (by have := hin (k + 1) (by omega); omega) ok
  have hB4 : B ≤ 5000 := by have := hin 0 (by omega); have := ok.2.1; omega
  rw [← hB] at KF
  rw [← hz] at hn hz4
  rw [hhf]
  have HH := Lib.hid h; have HLEN := Lib.hid hlen; have HRD := Lib.hid hrd; have HN := Lib.hid hn; have HZ4 := Lib.hid hz4; have HB4 := Lib.hid hB4; have HLL := Lib.hid hll
  clear h ok h4 hdn hh hz hin hB hhf hlen hrd hn hz4 hB4 hll
  go_enter Tryz.func53, Tryz.ntmps53
  go_wp2_with fail
  go_loopg [8, 9] (z + 1) (fun gk vb i wr => ∃ k : Nat, k + gk = z + 1 ∧ k ≤ z ∧ i = .int .i64 k ∧ wr.ownsRow w.heap.size 5 1 vb (secsB st B k).length (bv (secsB st B k)) ∧ Disk wr p F st ∧ Below w.heap.size w wr)
  case atStart => exact ⟨0, by omega, by omega, rfl, World.ownsRow_nil _ _ _ _, HH.out, Below.refl _ _⟩
  case round =>
    obtain ⟨k, hgk, hkz, rfl, hrow, hdk, hb⟩ := hrel
    have hl := HLEN.out k hkz
    have hk5 : (k : Int) ≤ 5000 := by have := HZ4.out; omega
    obtain ⟨ad, cap, rfl⟩ := own_form hrow
    obtain ⟨m, hm⟩ : ∃ m, m = (secsB st B k).length := ⟨_, rfl⟩
    rw [← hm] at hrow hl ⊢
    have HM := Lib.hid hm; have HR := Lib.hid hrow; have HB := Lib.hid hb; have HDK := Lib.hid hdk; have HL := Lib.hid hl; have HGK := Lib.hid hgk
    clear hrow hb hdk hm hl hgk
    by_cases hlt : (m : Int) < (n : Int)
    · have hkz2 : k < z := by have := HL.out; have := HN.out; omega
      have KR := fun w' (hd : Disk w' p F st) => Lib.hid (read_walk p F st ((B + k : Nat) : Int) w' hd)
      rw [HRD.out k hkz2] at KR
      obtain ⟨s, hs⟩ : ∃ s, s = txt (lastS st.S (B + k)) := ⟨_, rfl⟩
      have hsd : s.data.toList = lastS st.S (B + k) := by rw [hs]; exact bytes_of _
      have hs64 : s.size = 64 := by rw [hs, txt_size]; exact HLL.out k hkz2
      rw [← hs] at KR
      have hbk : (B : Int) + (k : Int) = ((B + k : Nat) : Int) := by omega
      have HBK := Lib.hid hbk; have HSD := Lib.hid hsd; have HS64 := Lib.hid hs64
      clear hs hsd hs64 hbk
      go_wp2_with fail
      refine (KF wr HDK.out).out.mono ?_
      rintro r w1 ⟨rfl, rfl⟩
      have hbw : IntKind.i64.wrap ((B : Int) + (k : Int)) = ((B + k : Nat) : Int) := by rw [HBK.out]; exact IntWalk.i64_in _ (by have := HB4.out; have := HZ4.out; omega)
      have hle : (B : Int) + (k : Int) ≤ 9223372036854775807 := by have := HB4.out; have := HZ4.out; omega
      have hle2 : -9223372036854775808 ≤ (B : Int) + (k : Int) := by omega
      go_wp2_with fail
      rw [HBK.out]
      refine (KR w1 HDK.out).out.mono ?_
      rintro r w2 ⟨rfl, hb2⟩
      have hr2 := HR.out.kept (row := none) ⟨hb2.os, hb2.tape, hb2.output, hb2.size, fun j hj _ => hb2.block j hj⟩ (by cases (Value.slice ad m cap).ownBlock <;> simp)
      have R2 := Lib.hid hr2; have D2 := Lib.hid (HDK.out.below hb2); have B2 := Lib.hid (HB.out.trans (hb2.mono HB.out.size)); have S2 := Lib.hid (HB.out.trans (hb2.mono HB.out.size)).size
      clear hr2 hb2 HB HR HDK KR KF hbw hle hle2
      go_wp2_with (at_builtin; refine wpList_append_at _ rfl _ _ 127 9 rfl w.heap.size 5 i0 (.int .u8 0) 1 1 Tryz.underlying127 hi hz0 hz1 hz2 rfl (by decide) (.slice ad m cap) m (bv (secsB st B k)) rfl R2.out (.string s) s.size (bv s.data.toList) rfl (src_bytes _ Tryz.underlying9 s) (by unfold maxLen; have := HS64.out; have := HL.out; have := HZ4.out; omega) (by have := HS64.out; have := HL.out; have := HZ4.out; omega) S2.out ?_)
      intro v3 w3 hr3 hg3 hp3
      have hpl : v3.ownBlock = (Value.slice ad m cap).ownBlock ∨ ∀ k, v3.ownBlock = some k → w2.heap.size ≤ k := hp3
      have hb3 := below_of_grown B2.out hg3 S2.out (fun j hj => (R2.out.lt j hj).1)
      have hd3 : Disk w3 p F st := D2.out.touch (Touch.ofGrown hg3 (F := fun j => w.heap.size ≤ j) (fun j hj => (R2.out.lt j hj).1)) (fun j hj hf => by have := HH.out.lt j hj; omega)
      have hsec : secsB st B (k + 1) = secsB st B k ++ s.data.toList := by rw [secsB_succ, HSD.out]
      have hr4 : w3.ownsRow w.heap.size 5 1 v3 (secsB st B (k + 1)).length (bv (secsB st B (k + 1))) := by
        have hsz : s.data.toList.length = s.size := by simp
        rw [hsec, List.length_append, ← HM.out, hsz, bv_append]
        exact hr3
      have M1 := Lib.hid hr4; have M2 := Lib.hid hd3; have M3 := Lib.hid hb3
      clear hr3 hg3 hp3 hpl hb3 hd3 hsec hr4 R2 D2 B2 S2
      go_wp2_with fail
      go_roundg (gk - 1)
      case measure => have := HGK.out; omega
      case rel => exact ⟨k + 1, by have := HGK.out; omega, by omega, by go_num, M1.out, M2.out, M3.out⟩
    · have hnm : n ≤ m := by omega
      have htk : (secsB st B z).take n = (secsB st B k).take n := by
        have := secsB_take st B (z - k) k n (by rw [← HM.out]; exact hnm)
        rwa [show k + (z - k) = z by omega] at this
      have HTK := Lib.hid htk
      obtain ⟨L, hL⟩ : ∃ L, L = secsB st B k := ⟨_, rfl⟩
      rw [← hL] at HM HTK
      have hR := HR.out
      rw [← hL] at hR
      clear htk hL HR HDK KF HH HLEN HRD HLL HL HGK
      have hLn : (L.take n).length = n := by rw [List.length_take, ← HM.out]; omega
      obtain ⟨hlen, hrest⟩ := hR
      rcases hrest with ⟨hv, hm0⟩ | ⟨g, cap', cur, hv, hbg, hg, h3, h4, h5, h6⟩
      · obtain ⟨rfl, rfl, rfl⟩ : ad = none ∧ m = 0 ∧ cap = 0 := by simpa using hv
        obtain rfl : n = 0 := by omega
        have hstr : (convert 127 9 (.slice none 0 0)).run Tryz.prog wr = .ok (.string ⟨#[]⟩) wr := by kernel_rfl
        clear hlen hv hLn
        go_wp2_with fail
        go_ret2
        exact ⟨rfl, HB.out⟩
      · obtain ⟨rfl, rfl⟩ : ad = some ⟨g, 0, none⟩ ∧ cap = cap' := by simpa using hv
        have hstr : (convert 127 9 (.slice (some ⟨g, 0, none⟩) n cap)).run Tryz.prog wr = .ok (.string (txt (L.take n))) wr := by
          have := string_of_cells wr g cap (L.take n) (fun j hj => by
            rw [hLn] at hj
            have hjL : j < L.length := by rw [← HM.out]; omega
            have hc := cell_of_row wr g j _ _ _ hg
            rw [hc, ← Array.getElem?_toList]
            have hx : cur.toList[j]? = (cur.toList.take (m * 1))[j]? := by rw [List.getElem?_take]; rw [if_pos (by omega)]
            rw [hx, h6]
            simp [bv, List.getD_eq_getElem?_getD, List.getElem?_take, hj, List.getElem?_eq_getElem hjL])
          rw [hLn] at this
          exact this
        have hnc : (n : Int) ≤ (cap : Int) := by omega
        have hc9 : (cap : Int) ≤ 9223372036854775807 := by unfold maxLen at h4; omega
        clear hlen hv hLn h3 h4 h5 h6 hg hbg
        go_wp2_with fail
        go_ret2
        rw [HTK.out]
        exact ⟨rfl, HB.out⟩
end Go.Proofs.YtjjejkhekmpgcaaGreat

namespace Go.Proofs.YtjjejkhekmpgcaaGreat
set_option maxRecDepth 4000
open Go.RowKit

/-- a journal: the head that holds, the bytes of the sector that is used last, whether it is broken -/
structure Jn where
  seq : Nat
  half : Nat
  used : Nat
  tail : ByteArray
  broken : Bool
/-- it lies at q, over the disk at p -/
def JnAt (w : World) (q p : Nat) (j : Jn) : Prop :=
  w.heap[q]? = some (.cells #[.pointer (some ⟨p, 0, none⟩), .int .i64 j.seq, .int .i64 j.half, .int .i64 j.used, .string j.tail, .bool j.broken] 99 (0, 0))
theorem readH_ok (st : Dk) (k : Nat) (h : (readH st k).2.1 = true) : st.down = false ∧ (readH st k).1.1 ≤ 9223372036854775807 ∧ (readH st k).1.2.1 ≤ 1 ∧ (readH st k).1.2.2 ≤ sizeN st.S.length * 64 := by
  unfold readH at h ⊢
  by_cases hn : (readD st (k : Nat)).2 ≠ 0 ∨ preB (readD st (k : Nat)).1 magicB = false
  · rw [if_pos hn] at h
    cases h
  · rw [if_neg hn] at h ⊢
    have h : hdR (readD st (k : Nat)).1 (sizeN st.S.length) = true := h
    unfold hdR at h
    simp only [Bool.and_eq_true, decide_eq_true_eq] at h
    obtain ⟨⟨⟨h1, h2⟩, h3⟩, _⟩ := h
    refine ⟨?_, (n3_ok _ h1).2.2.1, h2, h3⟩
    have he : (readD st (k : Nat)).2 = 0 := Decidable.byContradiction fun h => hn (.inl h)
    unfold readD at he
    by_cases hr : readyE st (k : Nat) = 0
    · exact (ready_zero hr).1
    · rw [if_neg hr] at he
      exact absurd he hr
theorem holdN_ok (st : Dk) : ∀ k, (holdN st k).2 = true → st.down = false ∧ (holdN st k).1.1 ≤ 9223372036854775807 ∧ (holdN st k).1.2.1 ≤ 1 ∧ (holdN st k).1.2.2 ≤ sizeN st.S.length * 64
  | 0, h => by cases h
  | k + 1, h => by
    unfold holdN at h ⊢
    by_cases hc : (readH st (k : Nat)).2.1 = true ∧ ((holdN st k).2 = false ∨ (holdN st k).1.1 < (readH st (k : Nat)).1.1)
    · rw [if_pos hc]
      exact readH_ok st k hc.1
    · rw [if_neg hc] at h ⊢
      exact holdN_ok st k h
theorem holdsR_ok (st : Dk) (h : (holdsR st).2 = 0) : st.down = false ∧ (holdsR st).1.1 ≤ 9223372036854775807 ∧ (holdsR st).1.2.1 ≤ 1 ∧ (holdsR st).1.2.2 ≤ sizeN st.S.length * 64 := by
  unfold holdsR at h ⊢
  by_cases h1 : (readH st (0 : Nat)).2.2 ≠ 0
  · rw [if_pos h1] at h; exact absurd h h1
  · rw [if_neg h1] at h ⊢
    by_cases h2 : (readH st (1 : Nat)).2.2 ≠ 0
    · rw [if_pos h2] at h; exact absurd h h2
    · rw [if_neg h2] at h ⊢
      by_cases h3 : (holdN st 2).2 = false
      · rw [if_pos h3] at h; simp at h
      · rw [if_neg h3]
        exact holdN_ok st 2 (by simpa using h3)

/-- nothing is opened -/
def OpenBad (w : World) (er : Int) (e : Ending) (w' : World) : Prop := e = .returned (.tuple #[.pointer none, .slice none 0 0, .int .i64 er]) ∧ Below w.heap.size w w'
/-- a journal is opened -/
def OpenGood (p : Nat) (w : World) (j : Jn) (l : List ByteArray) (e : Ending) (w' : World) : Prop :=
  ∃ q ad cap, e = .returned (.tuple #[.pointer (some ⟨q, 0, none⟩), .slice ad l.length cap, .int .i64 0]) ∧ w.heap.size ≤ q ∧ JnAt w' q p j ∧ strsAt w' ad l ∧ l.length ≤ cap ∧ cap ≤ 9223372036854775807 ∧ Below w.heap.size w w'

theorem open_nil (w : World) : Calls Tryz.prog 20 #[.pointer none] w fun e w' => OpenBad w 1 e w' := by
  go_enter Tryz.func20, Tryz.ntmps20
  go_wp2_with fail
  refine (may_nil w).mono ?_
  rintro r w1 ⟨rfl, rfl⟩
  go_wp2_with fail
  go_ret3
  exact ⟨rfl, Below.refl _ _⟩
theorem open_may (p : Nat) (F : Nat → Prop) (st : Dk) (w : World) (h : Disk w p F st) (h4 : st.S.length < 4) :
    Calls Tryz.prog 20 #[.pointer (some ⟨p, 0, none⟩)] w fun e w' => OpenBad w 2 e w' := by
  have KM := Lib.hid (may_walk p F st w h)
  rw [show mayE st.S.length = 2 by unfold mayE; rw [if_pos h4]] at KM
  clear h h4
  go_enter Tryz.func20, Tryz.ntmps20
  go_wp2_with fail
  refine KM.out.mono ?_
  rintro r w1 ⟨rfl, rfl⟩
  go_wp2_with fail
  go_ret3
  exact ⟨rfl, Below.refl _ _⟩
set_option maxHeartbeats 1000000 in
theorem open_holds (p : Nat) (F : Nat → Prop) (st : Dk) (w : World) (h : Disk w p F st) (h4 : 4 ≤ st.S.length) (he : (holdsR st).2 ≠ 0) :
    Calls Tryz.prog 20 #[.pointer (some ⟨p, 0, none⟩)] w fun e w' => OpenBad w (holdsR st).2 e w' := by
  have KM := Lib.hid (may_walk p F st w h)
  rw [show mayE st.S.length = 0 by unfold mayE; rw [if_neg (by omega)]] at KM
  have KH := Lib.hid (holds_walk p F st w h (by omega))
  obtain ⟨⟨⟨a, b, c⟩, e⟩, hr⟩ : ∃ r, r = holdsR st := ⟨_, rfl⟩
  rw [← hr] at KH he ⊢
  replace he : e ≠ 0 := he
  have hz := beq_no he
  clear h h4 hr he
  go_enter Tryz.func20, Tryz.ntmps20
  go_wp2_with fail
  refine KM.out.mono ?_
  rintro r w1 ⟨rfl, rfl⟩
  go_wp2_with fail
  refine KH.out.mono ?_
  rintro r w2 ⟨rfl, hb2⟩
  unfold hdv
  have HB2 := Lib.hid (hb2.alloc hb2.size (.cells #[.int .i64 a, .int .i64 b, .int .i64 c] 92))
  clear hb2 KM KH
  go_wp2_with fail
  go_ret3
  exact ⟨rfl, HB2.out⟩
end Go.Proofs.YtjjejkhekmpgcaaGreat

namespace Go.Proofs.YtjjejkhekmpgcaaGreat
set_option maxRecDepth 4000
open Go.RowKit

/-- the bytes that a head tells of -/
def recB (st : Dk) : ByteArray := txt ((halfB st (holdsR st).1.2.1).take (holdsR st).1.2.2)
/-- the journal that is opened -/
def openJ (st : Dk) : Jn := ⟨(holdsR st).1.1, (holdsR st).1.2.1, (holdsR st).1.2.2, (recB st).extract ((holdsR st).1.2.2 - (holdsR st).1.2.2 % 64) (recB st).size, false⟩
theorem recB_size (st : Dk) (ok : secOk st.S) (h4 : 4 ≤ st.S.length) (hz : (holdsR st).2 = 0) : (recB st).size = (holdsR st).1.2.2 ∧ (holdsR st).1.2.2 ≤ 262144 := by
  obtain ⟨_, _, h1, h2⟩ := holdsR_ok st hz
  have hl := halfB_length st (holdsR st).1.2.1 ok h4 h1
  have := ok.2.1
  unfold recB
  rw [txt_size, List.length_take]
  refine ⟨by omega, ?_⟩
  have : sizeN st.S.length ≤ 4096 := by unfold sizeN; omega
  omega

set_option maxHeartbeats 4000000 in
theorem open_frame (p : Nat) (F : Nat → Prop) (st : Dk) (w : World) (h : Disk w p F st) (h4 : 4 ≤ st.S.length) (hz : (holdsR st).2 = 0) (hf : (readR (recB st)).2 ≠ 0) :
    Calls Tryz.prog 20 #[.pointer (some ⟨p, 0, none⟩)] w fun e w' => OpenBad w (readR (recB st)).2 e w' := by
  have KM := Lib.hid (may_walk p F st w h)
  rw [show mayE st.S.length = 0 by unfold mayE; rw [if_neg (by omega)]] at KM
  have KH := Lib.hid (holds_walk p F st w h (by omega))
  obtain ⟨hdn, h9, hh1, hu⟩ := holdsR_ok st hz
  obtain ⟨hsz, hu2⟩ := recB_size st h.ok h4 hz
  have KB := fun w' (hd : Disk w' p F st) => Lib.hid (bytes_walk p F st (holdsR st).1.2.1 (holdsR st).1.2.2 w' hd h4 hdn hh1 hu)
  have hrb : txt ((halfB st (holdsR st).1.2.1).take (holdsR st).1.2.2) = recB st := rfl
  simp only [hrb] at KB
  have KF := fun w' => Lib.hid (fread_walk (recB st) w' (by rw [hsz]; omega))
  have hoj : openJ st = ⟨(holdsR st).1.1, (holdsR st).1.2.1, (holdsR st).1.2.2, (recB st).extract ((holdsR st).1.2.2 - (holdsR st).1.2.2 % 64) (recB st).size, false⟩ := rfl
  obtain ⟨j, hj⟩ : ∃ j, j = openJ st := ⟨_, rfl⟩
  rw [← hj] at hoj
  try rw [← hj]
  obtain ⟨s, hs⟩ : ∃ s, s = recB st := ⟨_, rfl⟩
  rw [← hs] at hsz KF hf hoj
  simp only [← hs] at KB
  try rw [← hs]
  obtain ⟨⟨l, e⟩, hle⟩ : ∃ r, r = readR s := ⟨_, rfl⟩
  rw [← hle] at KF hf
  try rw [← hle]
  replace hf : e ≠ 0 := hf
  obtain ⟨⟨⟨a, b, c⟩, e0⟩, hr⟩ : ∃ r, r = holdsR st := ⟨_, rfl⟩
  rw [← hr] at KH hz KB hsz hu2 hoj
  obtain rfl : e0 = 0 := hz
  replace hsz : s.size = c := hsz
  replace hu2 : c ≤ 262144 := hu2
  have HJ := Lib.hid (show j = ⟨a, b, c, s.extract (c - c % 64) s.size, false⟩ from hoj)
  have HH := Lib.hid h; have HS := Lib.hid hsz; have HU := Lib.hid hu2
  clear h h4 hdn h9 hh1 hu hsz hu2 hrb hoj hj hs hle hr
  go_enter Tryz.func20, Tryz.ntmps20
  go_wp2_with fail
  refine KM.out.mono ?_
  rintro r w1 ⟨rfl, rfl⟩
  go_wp2_with fail
  refine KH.out.mono ?_
  rintro r w2 ⟨rfl, hb2⟩
  unfold hdv
  have hb3 := hb2.alloc hb2.size (.cells #[.int .i64 a, .int .i64 b, .int .i64 c] 92)
  have gv := heap_alloc_top w2 (.cells #[.int .i64 a, .int .i64 b, .int .i64 c] 92)
  go_upto_region 7 with fail
  obtain ⟨v, hv⟩ : ∃ v, v = w2.heap.size := ⟨_, rfl⟩
  rw [← hv] at gv ⊢
  generalize w2.alloc (.cells #[.int .i64 a, .int .i64 b, .int .i64 c] 92) = w3 at hb3 gv ⊢
  have c1 := cell_at (j := 1) (v := .int .i64 b) gv rfl
  have c2 := cell_at (j := 2) (v := .int .i64 c) gv rfl
  have HB3 := Lib.hid hb3; have GV := Lib.hid gv; have HD3 := Lib.hid (HH.out.below hb3)
  clear hb2 hb3 gv hv KM KH
  go_wp2_with fail
  refine (KB w3 HD3.out).out.mono ?_
  rintro r w4 ⟨rfl, hb4⟩
  have HB4 := Lib.hid (HB3.out.trans (hb4.mono HB3.out.size))
  have GV4 := Lib.hid ((hb4.block v (lt_of_block GV.out)).trans GV.out)
  clear hb4 c1 c2 KB GV HB3 HD3
  go_wp2_with fail
  refine (KF w4).out.mono ?_
  rintro r w5 ⟨ad, cap, rfl, hst, hlc, hcm, hb5⟩
  have HB5 := Lib.hid (HB4.out.trans (hb5.mono HB4.out.size))
  have GV5 := Lib.hid ((hb5.block v (lt_of_block GV4.out)).trans GV4.out)
  have HST := Lib.hid hst; have HLC := Lib.hid (And.intro hlc hcm)
  clear hb5 HB4 GV4 KF hst hlc hcm
  have hz := beq_no hf
  go_wp2_with fail
  go_ret3
  exact ⟨rfl, HB5.out⟩
set_option maxHeartbeats 4000000 in
theorem open_good (p : Nat) (F : Nat → Prop) (st : Dk) (w : World) (h : Disk w p F st) (h4 : 4 ≤ st.S.length) (hz : (holdsR st).2 = 0) (hf : (readR (recB st)).2 = 0) :
    Calls Tryz.prog 20 #[.pointer (some ⟨p, 0, none⟩)] w fun e w' => OpenGood p w (openJ st) (readR (recB st)).1 e w' := by
  have KM := Lib.hid (may_walk p F st w h)
  rw [show mayE st.S.length = 0 by unfold mayE; rw [if_neg (by omega)]] at KM
  have KH := Lib.hid (holds_walk p F st w h (by omega))
  obtain ⟨hdn, h9, hh1, hu⟩ := holdsR_ok st hz
  obtain ⟨hsz, hu2⟩ := recB_size st h.ok h4 hz
  have KB := fun w' (hd : Disk w' p F st) => Lib.hid (bytes_walk p F st (holdsR st).1.2.1 (holdsR st).1.2.2 w' hd h4 hdn hh1 hu)
  have hrb : txt ((halfB st (holdsR st).1.2.1).take (holdsR st).1.2.2) = recB st := rfl
  simp only [hrb] at KB
  have KF := fun w' => Lib.hid (fread_walk (recB st) w' (by rw [hsz]; omega))
  have hoj : openJ st = ⟨(holdsR st).1.1, (holdsR st).1.2.1, (holdsR st).1.2.2, (recB st).extract ((holdsR st).1.2.2 - (holdsR st).1.2.2 % 64) (recB st).size, false⟩ := rfl
  obtain ⟨j, hj⟩ : ∃ j, j = openJ st := ⟨_, rfl⟩
  rw [← hj] at hoj
  try rw [← hj]
  obtain ⟨s, hs⟩ : ∃ s, s = recB st := ⟨_, rfl⟩
  rw [← hs] at hsz KF hf hoj
  simp only [← hs] at KB
  try rw [← hs]
  obtain ⟨⟨l, e⟩, hle⟩ : ∃ r, r = readR s := ⟨_, rfl⟩
  rw [← hle] at KF hf
  try rw [← hle]
  replace hf : e = 0 := hf
  obtain ⟨⟨⟨a, b, c⟩, e0⟩, hr⟩ : ∃ r, r = holdsR st := ⟨_, rfl⟩
  rw [← hr] at KH hz KB hsz hu2 hoj
  obtain rfl : e0 = 0 := hz
  replace hsz : s.size = c := hsz
  replace hu2 : c ≤ 262144 := hu2
  have HJ := Lib.hid (show j = ⟨a, b, c, s.extract (c - c % 64) s.size, false⟩ from hoj)
  have HH := Lib.hid h; have HS := Lib.hid hsz; have HU := Lib.hid hu2
  clear h h4 hdn h9 hh1 hu hsz hu2 hrb hoj hj hs hle hr
  go_enter Tryz.func20, Tryz.ntmps20
  go_wp2_with fail
  refine KM.out.mono ?_
  rintro r w1 ⟨rfl, rfl⟩
  go_wp2_with fail
  refine KH.out.mono ?_
  rintro r w2 ⟨rfl, hb2⟩
  unfold hdv
  have hb3 := hb2.alloc hb2.size (.cells #[.int .i64 a, .int .i64 b, .int .i64 c] 92)
  have gv := heap_alloc_top w2 (.cells #[.int .i64 a, .int .i64 b, .int .i64 c] 92)
  go_upto_region 7 with fail
  obtain ⟨v, hv⟩ : ∃ v, v = w2.heap.size := ⟨_, rfl⟩
  rw [← hv] at gv ⊢
  generalize w2.alloc (.cells #[.int .i64 a, .int .i64 b, .int .i64 c] 92) = w3 at hb3 gv ⊢
  have c1 := cell_at (j := 1) (v := .int .i64 b) gv rfl
  have c2 := cell_at (j := 2) (v := .int .i64 c) gv rfl
  have HB3 := Lib.hid hb3; have GV := Lib.hid gv; have HD3 := Lib.hid (HH.out.below hb3)
  clear hb2 hb3 gv hv KM KH
  go_wp2_with fail
  refine (KB w3 HD3.out).out.mono ?_
  rintro r w4 ⟨rfl, hb4⟩
  have HB4 := Lib.hid (HB3.out.trans (hb4.mono HB3.out.size))
  have GV4 := Lib.hid ((hb4.block v (lt_of_block GV.out)).trans GV.out)
  clear hb4 c1 c2 KB GV HB3 HD3
  go_wp2_with fail
  refine (KF w4).out.mono ?_
  rintro r w5 ⟨ad, cap, rfl, hst, hlc, hcm, hb5⟩
  have HB5 := Lib.hid (HB4.out.trans (hb5.mono HB4.out.size))
  have GV5 := Lib.hid ((hb5.block v (lt_of_block GV4.out)).trans GV4.out)
  have HST := Lib.hid hst; have HLC := Lib.hid (And.intro hlc hcm)
  clear hb5 HB4 GV4 KF hst hlc hcm
  subst hf
  try simp only []
  obtain ⟨C, hC⟩ : ∃ C : World → Prop, C = fun w9 => w9.heap[v]? = some (.cells #[.int .i64 a, .int .i64 b, .int .i64 c] 92 (0, 0)) := ⟨_, rfl⟩
  have HCI := Lib.hid (show ∀ w9, C w9 → w9.heap[v]? = some (.cells #[.int .i64 a, .int .i64 b, .int .i64 c] 92 (0, 0)) from fun w9 h => by rw [hC] at h; exact h)
  have HC2 := Lib.hid (show ∀ w9, C w9 → w9.cell? ⟨v, 2, none⟩ = some (.int .i64 c) from fun w9 h => cell_at (HCI.out w9 h) rfl)
  have HCO := Lib.hid (show ∀ w9, w9.heap[v]? = some (.cells #[.int .i64 a, .int .i64 b, .int .i64 c] 92 (0, 0)) → C w9 from fun w9 h => by rw [hC]; exact h)
  clear hC
  have hsc : s.size = c := HS.out
  have hB0 : Below w5.heap.size w5 w5.drew := (Below.refl _ _).drew
  have hS0 : C w5.drew := HCO.out _ GV5.out
  go_upto_region 13 with fail
  refine wp_region_mix C [(0,true),(1,true),(2,true),(3,true),(4,true),(5,true),(6,true),(7,true),(8,true),(9,true),(10,true),(12,true),(11,false),(13,true),(14,true),(15,true)] (by kernel_rfl) (by kernel_rfl) hS0 ?_
  generalize w5.drew = w6 at hB0 ⊢
  clear hS0
  simp only [List.filterMap_cons, List.filterMap_nil, List.getElem?_cons_zero, List.getElem?_cons_succ, Option.map_some]
  have hc9 : (c : Int) ≤ 262144 := by have := HU.out; omega
  refine mix_read (by rfl) ?_; apply Exists.intro; refine ⟨fun w9 hw9 => ?_, ?_⟩; (· go_simp; rfl); simp only [Act.put, List.setIfInBounds_toArray, List.set_cons_succ, List.set_cons_zero]
  refine mix_load_row 92 _ rfl (by rfl) v (by rfl) 92 #[.int .i64 a, .int .i64 b, .int .i64 c] (0, 0) _ (fun w9 h9 => HCI.out w9 h9) Tryz.underlying92 rfl info_head ?_
  try simp only [Act.put, List.setIfInBounds_toArray, List.set_cons_succ, List.set_cons_zero]
  repeat (refine mix_read (by rfl) ?_; apply Exists.intro; refine ⟨fun w9 hw9 => ?_, ?_⟩; (· have d2 := HC2.out w9 hw9; go_simp; rfl); simp only [Act.put, List.setIfInBounds_toArray, List.set_cons_succ, List.set_cons_zero])
  obtain ⟨m, hm⟩ : ∃ m, m = c - c % 64 := ⟨_, rfl⟩
  have hrem : IntKind.i64.wrap ((c : Int) - (c : Int).tmod 64) = (m : Int) := by
    have e : (c : Int) - (c : Int).tmod 64 = (m : Int) := by rw [Int.tmod_eq_emod_of_nonneg (by omega)]; omega
    rw [e]
    exact IntWalk.i64_in _ (by omega)
  have hhi : (m : Int) ≤ (s.size : Int) := by omega
  have hmc : m ≤ c := by omega
  have HM := Lib.hid hm
  rw [hrem]
  clear hm hrem
  repeat (refine mix_read (by rfl) ?_; apply Exists.intro; refine ⟨fun w9 hw9 => ?_, ?_⟩; (· have d2 := HC2.out w9 hw9; go_simp; rfl); simp only [Act.put, List.setIfInBounds_toArray, List.set_cons_succ, List.set_cons_zero])
  refine mix_step (by rfl) (fun K' hK => ?_)
  go_simp
  have gq := heap_alloc_top w6 (.cells #[.pointer (some ⟨p, 0, none⟩), .int .i64 a, .int .i64 b, .int .i64 c, .string (s.extract m c), .bool false] 99)
  have hb7 : Below w5.heap.size w5 (w6.alloc (.cells #[.pointer (some ⟨p, 0, none⟩), .int .i64 a, .int .i64 b, .int .i64 c, .string (s.extract m c), .bool false] 99)) := hB0.alloc hB0.size _
  have hv7 := (hb7.block v (lt_of_block GV5.out)).trans GV5.out
  refine hK _ _ (HCO.out _ hv7) ?_
  clear hK K' hv7
  try simp only [Act.put, List.setIfInBounds_toArray, List.set_cons_succ, List.set_cons_zero]
  have hq6 : w1.heap.size ≤ w6.heap.size := Nat.le_trans HB5.out.size hB0.size
  have hja : j = ⟨a, b, c, s.extract m c, false⟩ := by rw [HJ.out, HM.out, HS.out]
  obtain ⟨q, hq⟩ : ∃ q, q = w6.heap.size := ⟨_, rfl⟩
  rw [← hq] at gq hq6 ⊢
  generalize w6.alloc (.cells #[.pointer (some ⟨p, 0, none⟩), .int .i64 a, .int .i64 b, .int .i64 c, .string (s.extract m c), .bool false] 99) = w7 at gq hb7 ⊢
  have hst7 := strsAt_below HST.out (Nat.le_refl _) hb7
  have hfin : OpenGood p w1 j l (.returned (.tuple #[.pointer (some ⟨q, 0, none⟩), .slice ad l.length cap, .int .i64 0])) w7 := by
    refine ⟨q, ad, cap, rfl, hq6, ?_, hst7, HLC.out.1, HLC.out.2, HB5.out.trans (hb7.mono HB5.out.size)⟩
    rw [hja]
    exact gq
  have HFIN := Lib.hid hfin
  clear gq hb7 hst7 hq hq6 hfin hja HST HLC HB5 GV5 hB0
  repeat (refine mix_read (by rfl) ?_; apply Exists.intro; refine ⟨fun w9 hw9 => ?_, ?_⟩; (· go_simp; rfl); simp only [Act.put, List.setIfInBounds_toArray, List.set_cons_succ, List.set_cons_zero])
  refine mix_nil (NoPanic.normal ?_)
  go_wp2_with fail
  go_ret3
  exact HFIN.out
end Go.Proofs.YtjjejkhekmpgcaaGreat

namespace Go.Proofs.YtjjejkhekmpgcaaGreat
set_option maxRecDepth 4000
open Go.RowKit

theorem JnAt.c0 {w : World} {q p : Nat} {j : Jn} (h : JnAt w q p j) : w.cell? ⟨q, 0, none⟩ = some (.pointer (some ⟨p, 0, none⟩)) := cell_at (j := 0) h rfl
theorem JnAt.c1 {w : World} {q p : Nat} {j : Jn} (h : JnAt w q p j) : w.cell? ⟨q, 1, none⟩ = some (.int .i64 j.seq) := cell_at (j := 1) h rfl
theorem JnAt.c2 {w : World} {q p : Nat} {j : Jn} (h : JnAt w q p j) : w.cell? ⟨q, 2, none⟩ = some (.int .i64 j.half) := cell_at (j := 2) h rfl
theorem JnAt.c3 {w : World} {q p : Nat} {j : Jn} (h : JnAt w q p j) : w.cell? ⟨q, 3, none⟩ = some (.int .i64 j.used) := cell_at (j := 3) h rfl
theorem JnAt.c4 {w : World} {q p : Nat} {j : Jn} (h : JnAt w q p j) : w.cell? ⟨q, 4, none⟩ = some (.string j.tail) := cell_at (j := 4) h rfl
theorem JnAt.c5 {w : World} {q p : Nat} {j : Jn} (h : JnAt w q p j) : w.cell? ⟨q, 5, none⟩ = some (.bool j.broken) := cell_at (j := 5) h rfl
theorem JnAt.touch {w w' : World} {q p : Nat} {j : Jn} {F : Nat → Prop} (h : JnAt w q p j) (ht : Touch F w w') (hn : ¬ F q) : JnAt w' q p j := (ht.block q (lt_of_block h) hn).trans h
theorem JnAt.below {w w' : World} {q p : Nat} {j : Jn} (h : JnAt w q p j) (hb : Below w.heap.size w w') : JnAt w' q p j := (hb.block q (lt_of_block h)).trans h

theorem used_walk (q p : Nat) (j : Jn) (w : World) (h : JnAt w q p j) :
    Calls Tryz.prog 46 #[.pointer (some ⟨q, 0, none⟩)] w fun e w' => e = .returned (.int .i64 j.used) ∧ w' = w := by
  have hc := h.c3
  clear h
  go_enter Tryz.func46, Tryz.ntmps46
  go_wp2_with fail
  go_ret
  exact ⟨rfl, rfl⟩
theorem used_nil (w : World) : Calls Tryz.prog 46 #[.pointer none] w fun e w' => e = .returned (.int .i64 0) ∧ w' = w := by
  go_enter Tryz.func46, Tryz.ntmps46
  go_wp2_with fail
  go_ret
  exact ⟨rfl, rfl⟩
theorem room_nil (w : World) : Calls Tryz.prog 45 #[.pointer none] w fun e w' => e = .returned (.int .i64 0) ∧ w' = w := by
  go_enter Tryz.func45, Tryz.ntmps45
  go_wp2_with fail
  go_ret
  exact ⟨rfl, rfl⟩
/-- how many bytes are left -/
def roomR (n : Nat) (j : Jn) : Int := (sizeN n : Int) * 64 - (j.used : Int)
set_option maxHeartbeats 1000000 in
theorem room_walk (q p : Nat) (F : Nat → Prop) (st : Dk) (j : Jn) (w : World) (h : JnAt w q p j) (hd : Disk w p F st) (h2 : 2 ≤ st.S.length) (hu : j.used ≤ 262144) :
    Calls Tryz.prog 45 #[.pointer (some ⟨q, 0, none⟩)] w fun e w' => e = .returned (.int .i64 (roomR st.S.length j)) ∧ Below w.heap.size w w' := by
  have hn := hd.ok.2.1
  have hz4 : sizeN st.S.length ≤ 4096 := by unfold sizeN; omega
  have KZ := fun (u : Sub w.heap.size w) => calls_same (jsize_walk p F st u.val (hd.below u.below) h2)
  unfold roomR
  obtain ⟨z, hz⟩ : ∃ z, z = sizeN st.S.length := ⟨_, rfl⟩
  rw [← hz] at hz4 KZ ⊢
  have c0 : ∀ u : Sub w.heap.size w, u.val.cell? ⟨q, 0, none⟩ = some (.pointer (some ⟨p, 0, none⟩)) := fun u => (h.below u.below).c0
  have c3 : ∀ u : Sub w.heap.size w, u.val.cell? ⟨q, 3, none⟩ = some (.int .i64 j.used) := fun u => (h.below u.below).c3
  obtain ⟨x, hx⟩ : ∃ x, x = j.used := ⟨_, rfl⟩
  rw [← hx] at hu c3 ⊢
  have hzi : (z : Int) * 64 ≤ 262144 := by omega
  have hzw : wrap64 ((z : Int) * 64) = (z : Int) * 64 := IntWalk.wrap64_in _ ⟨by omega, by omega⟩
  have hw2 : IntKind.i64.wrap ((z : Int) * 64 - (x : Int)) = (z : Int) * 64 - (x : Int) := IntWalk.i64_in _ (by omega)
  have hx9 : (x : Int) ≤ 262144 := by omega
  clear h hd h2 hn hz hx hz4 hu
  go_enter Tryz.func45, Tryz.ntmps45
  go_upto_region 3 with fail
  refine wp_region_sub (W := w) (B := w.heap.size) (by kernel_rfl) (by kernel_rfl) (Below.refl _ _) ?_
  repeat (any_goals (first
    | go_big_quiet_skip
    | go_big_quiet_step ((go_at_call 73; exact calls_sub _ (KZ _) (Nat.le_refl _)))
    | quiet_step ((go_at_call 73; exact calls_sub _ (KZ _) (Nat.le_refl _)))))
  refine wpQuiet_nil ?_
  rintro w9 ⟨x9, rfl⟩
  go_wp2_with fail
  go_ret
  refine ⟨ret_int ?_, x9.below⟩
  first
    | rfl
    | (rw [hzw, hw2])
    | exact hw2
    | (rw [hw2]; omega)

/-- what laid answers -/
def laidR (j : Jn) (room : Int) (l : List ByteArray) : ByteArray × Int :=
  if j.broken = true then (⟨#[]⟩, 16) else if j.seq = 9223372036854775807 then (⟨#[]⟩, 15) else if (flay l).2 = 0 ∧ room < (flay l).1.size then (⟨#[]⟩, 10) else flay l
theorem laid_nil (room : Int) (v : Value) (w : World) : Calls Tryz.prog 55 #[.pointer none, .int .i64 room, v] w fun e w' => e = .returned (.tuple #[.string ⟨#[]⟩, .int .i64 1]) ∧ w' = w := by
  go_enter Tryz.func55, Tryz.ntmps55
  go_wp2_with fail
  go_ret2
  exact ⟨rfl, rfl⟩
set_option maxHeartbeats 1000000 in
theorem laid_walk (q p : Nat) (j : Jn) (room : Int) (ad : Option Addr) (cap : Nat) (l : List ByteArray) (w : World) (h : JnAt w q p j) (hl : strsAt w ad l) (hs : l.length ≤ 9223372036854775807) (hz : ∀ s ∈ l, s.size ≤ 9223372036854775807) :
    Calls Tryz.prog 55 #[.pointer (some ⟨q, 0, none⟩), .int .i64 room, .slice ad l.length cap] w fun e w' => e = .returned (.tuple #[.string (laidR j room l).1, .int .i64 (laidR j room l).2]) ∧ Below w.heap.size w w' := by
  have c5 := h.c5
  have c1 := h.c1
  have KF := Lib.hid (flay_walk ad cap l w hl hs hz)
  unfold laidR
  obtain ⟨seq, half, used, tail, broken⟩ := j
  have c5 : w.cell? ⟨q, 5, none⟩ = some (.bool broken) := c5
  have c1 : w.cell? ⟨q, 1, none⟩ = some (.int .i64 seq) := c1
  simp only []
  obtain ⟨n, hn⟩ : ∃ n, n = l.length := ⟨_, rfl⟩
  obtain ⟨⟨s, e⟩, hse⟩ : ∃ r, r = flay l := ⟨_, rfl⟩
  rw [← hse, ← hn] at KF
  rw [← hse, ← hn]
  clear h hl hs hz hse hn
  cases broken with
  | true =>
    rw [if_pos rfl]
    go_enter Tryz.func55, Tryz.ntmps55
    go_wp2_with fail
    go_ret2
    exact ⟨rfl, Below.refl _ _⟩
  | false =>
    rw [if_neg (by simp)]
    by_cases hm : seq = 9223372036854775807
    · rw [if_pos hm]
      have hmi : (seq : Int) = 9223372036854775807 := by omega
      clear hm
      go_enter Tryz.func55, Tryz.ntmps55
      go_wp2_with fail
      go_ret2
      exact ⟨rfl, Below.refl _ _⟩
    · rw [if_neg hm]
      have hmi : ((seq : Int) == 9223372036854775807) = false := by rw [beq_eq_false_iff_ne]; omega
      clear hm
      have hcases : e ≠ 0 ∨ (e = 0 ∧ room < (s.size : Int)) ∨ (e = 0 ∧ ¬ room < (s.size : Int)) := by
        by_cases h1 : e = 0
        · by_cases h2 : room < (s.size : Int)
          · exact .inr (.inl ⟨h1, h2⟩)
          · exact .inr (.inr ⟨h1, h2⟩)
        · exact .inl h1
      rcases hcases with he | ⟨rfl, hr⟩ | ⟨rfl, hr⟩
      · rw [if_neg (fun h => he h.1)]
        have hze := beq_no he
        go_enter Tryz.func55, Tryz.ntmps55
        go_wp2_with fail
        refine KF.out.mono ?_
        rintro r w1 ⟨rfl, hb1⟩
        have HB1 := Lib.hid hb1
        clear hb1 KF
        go_wp2_with fail
        go_ret2
        exact ⟨rfl, HB1.out⟩
      · rw [if_pos ⟨rfl, hr⟩]
        skip
        go_enter Tryz.func55, Tryz.ntmps55
        go_wp2_with fail
        refine KF.out.mono ?_
        rintro r w1 ⟨rfl, hb1⟩
        have HB1 := Lib.hid hb1
        clear hb1 KF
        go_wp2_with fail
        go_ret2
        exact ⟨rfl, HB1.out⟩
      · rw [if_neg (fun h => hr h.2)]
        skip
        go_enter Tryz.func55, Tryz.ntmps55
        go_wp2_with fail
        refine KF.out.mono ?_
        rintro r w1 ⟨rfl, hb1⟩
        have HB1 := Lib.hid hb1
        clear hb1 KF
        go_wp2_with fail
        go_ret2
        exact ⟨rfl, HB1.out⟩
end Go.Proofs.YtjjejkhekmpgcaaGreat
