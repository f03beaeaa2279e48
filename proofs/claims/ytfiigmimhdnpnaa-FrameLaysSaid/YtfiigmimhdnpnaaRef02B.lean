/-
  Walks of the reference of layer 2: the sum by division, and its bytes.
-/
import Derived.Test.YtfiigmimhdnpnaaRef02A
import Derived.RegionTactic
import Derived.BigRegion
namespace Go.Proofs.Ytfiigmimhdnpnaa
open Go.RowKit

/-- flipped in one place -/
def flipAt (l : List Bool) (i : Nat) : List Bool := l.set i (!(l.getD i false))
/-- flipped in the first places -/
def flipTo : Nat → List Bool → List Bool
  | 0, l => l
  | k + 1, l => flipAt (flipTo k l) k
/-- flipped where a power stands -/
def flipPows (i : Nat) : Nat → List Bool → List Bool
  | 0, l => l
  | k + 1, l => flipAt (flipPows i k l) (i + 32 - pows.getD k 0)
/-- a round of the division -/
def divRound (i : Nat) (l : List Bool) : List Bool := if l.getD i false = true then flipPows i 17 l else l
/-- rounds of the division -/
def divTo : Nat → List Bool → List Bool
  | 0, l => l
  | k + 1, l => divRound k (divTo k l)
/-- the last bits, turned, as a number -/
def lastNum (l : List Bool) : Nat → Nat
  | 0 => 0
  | k + 1 => lastNum l k * 2 + (if l.getD (l.length - 1 - k) false = true then 0 else 1)

theorem flipAt_length (l : List Bool) (i : Nat) : (flipAt l i).length = l.length := by simp [flipAt]
theorem flipTo_length (k : Nat) (l : List Bool) : (flipTo k l).length = l.length := by
  induction k with
  | zero => rfl
  | succ k ih => rw [flipTo, flipAt_length, ih]
theorem flipPows_length (i k : Nat) (l : List Bool) : (flipPows i k l).length = l.length := by
  induction k with
  | zero => rfl
  | succ k ih => rw [flipPows, flipAt_length, ih]
theorem divRound_length (i : Nat) (l : List Bool) : (divRound i l).length = l.length := by
  unfold divRound; split <;> simp [flipPows_length]
theorem divTo_length (k : Nat) (l : List Bool) : (divTo k l).length = l.length := by
  induction k with
  | zero => rfl
  | succ k ih => rw [divTo, divRound_length, ih]
theorem lastNum_lt (l : List Bool) (k : Nat) : lastNum l k < 2 ^ k := by
  induction k with
  | zero => simp [lastNum]
  | succ k ih => rw [lastNum, Nat.pow_succ]; split <;> omega

/-- what the reference answers -/
def refSum (l : List UInt8) : Nat :=
  let b := flipTo 32 (byteBits l ++ List.replicate 32 false)
  lastNum (divTo (8 * l.length) b) 32

theorem bls_cell {w : World} {base e g n cap : Nat} {l : List Bool} (h : w.ownsRow base e 1 (.slice (some ⟨g, 0, none⟩) n cap) n (bls l)) (i : Nat) (hi : i < n) : w.cell? ⟨g, i, none⟩ = some (.bool (l.getD i false)) := by
  rw [h.cellAt i (by omega)]
  have hl : l.length = n := by simpa [bls] using h.1
  simp [bls, List.getElem?_eq_getElem (show i < l.length by omega), List.getD]
theorem bls_flip {w : World} {base e g n cap : Nat} {l : List Bool} (h : w.ownsRow base e 1 (.slice (some ⟨g, 0, none⟩) n cap) n (bls l)) (i : Nat) :
    (w.setCell ⟨g, i, none⟩ (.bool (!(l.getD i false)))).ownsRow base e 1 (.slice (some ⟨g, 0, none⟩) n cap) n (bls (flipAt l i)) := by
  have := (h.stored i (.bool (!(l.getD i false)))).1
  simpa [bls, flipAt, List.map_set] using this

theorem own_some {w : World} {base e n : Nat} {v : Value} {xs : List Value} (h : w.ownsRow base e 1 v n xs) (hn : 0 < n) : ∃ g cap, v = .slice (some ⟨g, 0, none⟩) n cap ∧ base ≤ g ∧ n ≤ cap := by
  rcases h.2 with ⟨_, h0⟩ | ⟨g, cap, cur, hv, hb, _, hc, _⟩
  · omega
  · exact ⟨g, cap, hv, hb, hc⟩

set_option maxHeartbeats 1000000 in
theorem refSum_walk (s : ByteArray) (w : World) (hs : s.size ≤ 1000000) :
    Calls Try.prog 38 #[.string s] w fun e w' => e = .returned (.int .i64 (refSum s.data.toList)) ∧ Below w.heap.size w w' := by
  go_enter Try.func38, Try.ntmps38
  go_wp2_with fail
  refine (bits_walk s _ hs).mono ?_
  rintro e w1 ⟨v, rfl, hown, hB⟩
  obtain ⟨g, cap, rfl, hg, hcap⟩ := own_some hown (by omega)
  obtain ⟨L, hL⟩ : ∃ L, L = byteBits s.data.toList ++ List.replicate 32 false := ⟨_, rfl⟩
  rw [← hL] at hown
  have HL := Lib.hid hL; clear hL
  go_wp2_with fail
  go_loopw [4] (fun i wr => ∃ k : Nat, k ≤ 32 ∧ i = .int .i64 k ∧ wr.ownsRow w.heap.size 4 1 (.slice (some ⟨g, 0, none⟩) (8 * s.size + 32) cap) (8 * s.size + 32) (bls (flipTo k L)) ∧ Below w.heap.size w wr)
    (fun i _ => 32 - (intOf i).toNat)
  case atStart => exact ⟨0, by omega, rfl, hown, hB⟩
  case round =>
    obtain ⟨k, hk, rfl, hown2, hB2⟩ := hrel
    by_cases h32 : k < 32
    · have hc := bls_cell hown2 k (by omega)
      have hf := hown2.frozenAt k
      have hst := bls_flip hown2 k
      have HST := Lib.hid hst
      have hB3 := hB2.setCell (p := ⟨g, k, none⟩) hg (.bool (!((flipTo k L).getD k false)))
      have HB3 := Lib.hid hB3
      clear hst hB3
      go_wp2_with fail
      go_roundw
      case rel => exact ⟨k + 1, by omega, by go_num, HST.out, HB3.out⟩
      case measure => simp [intOf]; omega
    · obtain rfl : k = 32 := by omega
      obtain ⟨F, hF⟩ : ∃ F, F = flipTo 32 L := ⟨_, rfl⟩
      rw [← hF] at hown2
      have HF := Lib.hid hF; clear hF hown
      go_wp2_with fail
      refine (powers_walk _).mono ?_
      rintro e w2 ⟨rfl, hw2⟩
      have hpow : w2.heap[wr.heap.size]? = some (.cells (pows.map fun n : Nat => Value.int .i64 (n : Int)).toArray 3 (0, 0)) := by rw [hw2]; exact heap_alloc_top _ _
      have hown3 : w2.ownsRow w.heap.size 4 1 (.slice (some ⟨g, 0, none⟩) (8 * s.size + 32) cap) (8 * s.size + 32) (bls F) := by rw [hw2]; exact hown2.alloc _
      have hB3 : Below w.heap.size w w2 := by rw [hw2]; exact hB2.alloc hB2.size _
      have hgl := (hown2.lt g rfl).2
      obtain ⟨gp, hgp⟩ : ∃ gp, gp = wr.heap.size := ⟨_, rfl⟩
      have hbp := hB2.size
      rw [← hgp] at hpow hgl hbp ⊢
      clear hw2 hown2 hB2 hgp hB
      have HP := Lib.hid hpow; clear hpow
      go_wp2_with fail
      go_loopw [6] (fun i wr => ∃ k : Nat, k ≤ 8 * s.size ∧ i = .int .i64 k ∧ wr.ownsRow w.heap.size 4 1 (.slice (some ⟨g, 0, none⟩) (8 * s.size + 32) cap) (8 * s.size + 32) (bls (divTo k F)) ∧ wr.heap[gp]? = some (.cells (pows.map fun n : Nat => Value.int .i64 (n : Int)).toArray 3 (0, 0)) ∧ Below w.heap.size w wr)
        (fun i _ => 8 * s.size - (intOf i).toNat)
      case atStart => exact ⟨0, by omega, rfl, hown3, HP.out, hB3⟩
      case round =>
        obtain ⟨k, hk, rfl, hown4, hpw, hB4⟩ := hrel
        have HPW := Lib.hid hpw; clear hpw
        have hc := bls_cell hown4 k (by omega)
        obtain ⟨D, hD⟩ : ∃ D, D = divTo k F := ⟨_, rfl⟩
        obtain ⟨B, hBd⟩ : ∃ B, B = D.getD k false := ⟨_, rfl⟩
        rw [← hD] at hown4 hc
        rw [← hBd] at hc
        have HD := Lib.hid hD; have HBd := Lib.hid hBd; clear hD hBd hown3 hB3
        by_cases hlt : k < 8 * s.size
        · cases B with
          | false =>
            go_wp2_with fail
            go_roundw
            case rel => exact ⟨k + 1, by omega, by go_num, by rw [divTo, ← HD.out, divRound, ← HBd.out]; exact hown4, HPW.out, hB4⟩
            case measure => simp [intOf]; omega
          | true =>
            go_wp2_with fail
            obtain ⟨wo, hwo⟩ : ∃ wo : World, wo = wr := ⟨_, rfl⟩
            go_loopw [7] (fun i wi => ∃ q : Nat, q ≤ 17 ∧ i = .int .i64 q ∧ wi.ownsRow w.heap.size 4 1 (.slice (some ⟨g, 0, none⟩) (8 * s.size + 32) cap) (8 * s.size + 32) (bls (flipPows k q D)) ∧ wi.heap[gp]? = some (.cells (pows.map fun n : Nat => Value.int .i64 (n : Int)).toArray 3 (0, 0)) ∧ Below w.heap.size w wi)
              (fun i _ => 17 - (intOf i).toNat)
            case atStart => exact ⟨0, by omega, rfl, hown4, HPW.out, hB4⟩
            case round =>
              clear hc hown4 hB4 HPW
              obtain ⟨q, hq, rfl, hown5, hpw5, hB5⟩ := hrel
              by_cases hq17 : q < 17
              · obtain ⟨P, hP⟩ : ∃ P : Nat, P = pows.getD q 0 := ⟨_, rfl⟩
                have hPle : P ≤ 28 := by
                  rw [hP]
                  have : ∀ j, j < 17 → pows.getD j 0 ≤ 28 := by decide
                  exact this q hq17
                have hcp : wr.cell? ⟨gp, q, none⟩ = some (.int .i64 (P : Int)) := by
                  rw [cell_of_row wr gp q _ _ _ hpw5, hP]
                  have : ∀ j, j < 17 → (pows.map fun n : Nat => Value.int .i64 (n : Int)).toArray[j]? = some (.int .i64 ((pows.getD j 0 : Nat) : Int)) := by
                    intro j hj
                    have hl : pows.length = 17 := rfl
                    simp [List.getElem?_eq_getElem (show j < pows.length by omega)]
                  exact this q hq17
                have hc := bls_cell hown5 (k + 32 - P) (by omega)
                have hf := hown5.frozenAt (k + 32 - P)
                have hst := bls_flip hown5 (k + 32 - P)
                have HST := Lib.hid hst
                have hB6 := hB5.setCell (p := ⟨g, k + 32 - P, none⟩) hg (.bool (!((flipPows k q D).getD (k + 32 - P) false)))
                have HB6 := Lib.hid hB6
                have hpw6 := (heap_setCell_ne wr g gp (k + 32 - P) (.bool (!((flipPows k q D).getD (k + 32 - P) false))) (by omega)).trans hpw5
                have HPW6 := Lib.hid hpw6
                have HP := Lib.hid hP
                clear hst hB6 hpw6 hpw5 hown5 hB5 hP
                go_wp2_with fail
                go_region
                go_wp2_with fail
                go_roundw
                case rel => exact ⟨q + 1, by omega, by go_num, by rw [flipPows, ← HP.out]; exact HST.out, HPW6.out, HB6.out.drew⟩
                case measure => simp [intOf]; omega
              · obtain rfl : q = 17 := by omega
                go_wp2_with fail
                go_roundw
                case rel => exact ⟨k + 1, by omega, by go_num, by rw [divTo, ← HD.out, divRound, ← HBd.out]; exact hown5, hpw5, hB5⟩
                case measure => simp [intOf]; omega
        · obtain rfl : k = 8 * s.size := by omega
          clear hc HPW HP HBd
          have hDl : D.length = 8 * s.size + 32 := by simpa [bls] using hown4.1
          have hrs : refSum s.data.toList = lastNum D 32 := by
            show lastNum (divTo (8 * s.data.toList.length) (flipTo 32 (byteBits s.data.toList ++ List.replicate 32 false))) 32 = _
            have hss : s.data.toList.length = s.size := by simp
            rw [← HL.out, ← HF.out, hss, ← HD.out]
          have HRS := Lib.hid hrs
          have HDL := Lib.hid hDl
          clear hrs hDl
          go_wp2_with fail
          go_loopw [8, 10] (fun n i wi => ∃ q : Nat, q ≤ 32 ∧ i = .int .i64 q ∧ n = .int .i64 (lastNum D q) ∧ wi = wr)
            (fun _ i _ => 32 - (intOf i).toNat)
          case atStart => exact ⟨0, by omega, rfl, rfl, rfl⟩
          case round =>
            obtain ⟨q, hq, rfl, rfl, rfl⟩ := hrel
            have hlt2 := lastNum_lt D q
            have hle := Nat.pow_le_pow_right (n := 2) (by omega) hq
            have hsucc : lastNum D (q + 1) = lastNum D q * 2 + (if D.getD (8 * s.size + 31 - q) false = true then 0 else 1) := by
              rw [lastNum, HDL.out, show 8 * s.size + 32 - 1 - q = 8 * s.size + 31 - q by omega]
            obtain ⟨n, hn⟩ : ∃ n, n = lastNum D q := ⟨_, rfl⟩
            have hn32 : n < 4294967296 := by rw [hn]; omega
            rw [← hn] at hsucc ⊢
            have HN := Lib.hid hn
            clear hn hlt2 hle
            by_cases hq32 : q < 32
            · have hc := bls_cell hown4 (8 * s.size + 31 - q) (by omega)
              obtain ⟨B, hB⟩ : ∃ B, B = D.getD (8 * s.size + 31 - q) false := ⟨_, rfl⟩
              rw [← hB] at hc hsucc
              have HS := Lib.hid hsucc
              clear hB hsucc
              cases B
              all_goals
                go_wp2_with fail
                go_roundw
                case rel => exact ⟨q + 1, by omega, by go_num, by rw [HS.out]; go_num, by first | trivial | rfl⟩
                case measure => simp [intOf]; omega
            · obtain rfl : q = 32 := by omega
              clear hsucc
              go_wp2_with fail
              go_ret
              exact ⟨ret_int (by rw [HRS.out, HN.out]), hB4⟩
end Go.Proofs.Ytfiigmimhdnpnaa
