/-
  Layer 4: Lay, the whole.
-/
import Derived.Test.YtfiigmimhdnpnaaFrmB
namespace Go.Proofs.Ytfiigmimhdnpnaa
open Go.RowKit

/-- what Lay answers -/
def flay (l : List ByteArray) : ByteArray × Int := if (allR l).length ≤ 65536 then (⟨(allR l).toArray⟩, 0) else (⟨#[]⟩, 4)

set_option maxHeartbeats 2000000 in
theorem flay_walk (ad : Option Addr) (cap : Nat) (l : List ByteArray) (w : World) (hl : strsAt w ad l) (hs : l.length ≤ 9223372036854775807) (hz : ∀ s ∈ l, s.size ≤ 9223372036854775807) :
    Calls Try.prog 9 #[.slice ad l.length cap] w fun e w' => e = .returned (.tuple #[.string (flay l).1, .int .i64 (flay l).2]) ∧ Below w.heap.size w w' := by
  have HSW := Lib.hid (size_walk ad cap l w hl hs hz)
  have HL := Lib.hid hl; have HZ := Lib.hid hz
  clear hl hz
  by_cases hfit : (allR l).length ≤ 65536
  · have hsz : sizeR l = (allR l).length := by unfold sizeR; rw [if_pos hfit]
    have hfl : flay l = (⟨(allR l).toArray⟩, 0) := by unfold flay; rw [if_pos hfit]
    have hone : ∀ k, k < l.length → ((lebN (l.getD k ⟨#[]⟩).size).length + (l.getD k ⟨#[]⟩).size ≤ 65536) := fun k hk => by
      have h1 := allR_le l (k + 1)
      rw [allR_take hk, List.length_append, oneR_length] at h1
      have : l.getD k ⟨#[]⟩ = l[k] := by simp [List.getD, hk]
      rw [this]; omega
    have HFL := Lib.hid hfl; have HONE := Lib.hid hone
    rw [hsz] at HSW
    obtain ⟨m, hm⟩ : ∃ m, m = (allR l).length := ⟨_, rfl⟩
    rw [← hm] at HSW hfit
    have hmi : ¬ ((65536 : Int) < (m : Int)) := by omega
    have HM := Lib.hid hm; have HFIT := Lib.hid hfit
    clear hsz hfl hone hm hfit
    go_enter Try.func9, Try.ntmps9
    go_wp2_with fail
    refine HSW.out.mono ?_
    rintro r w1 ⟨rfl, hb1⟩
    have HB1 := Lib.hid hb1
    clear hb1 HSW
    go_upto_region 4 with fail
    obtain ⟨q, hq⟩ : ∃ q, q = w1.heap.size := ⟨_, rfl⟩
    have g0 := heap_alloc_top w1 (.cells #[.slice none 0 0] 38)
    have hB := HB1.out.alloc HB1.out.size (.cells #[.slice none 0 0] 38)
    have hwq : w.heap.size ≤ q := by rw [hq]; exact HB1.out.size
    rw [← hq] at g0 ⊢
    generalize w1.alloc (.cells #[.slice none 0 0] 38) = W at g0 hB ⊢
    have HB := Lib.hid hB; have G0 := Lib.hid g0; have HWQ := Lib.hid hwq
    clear hq hB g0 HB1 hwq hmi
    go_wp2_with fail
    go_loopg [14] l.length (fun gk i wr => ∃ (k : Nat) (vb : Value), k + gk = l.length ∧ i = .int .i64 k ∧ wr.heap[q]? = some (.cells #[vb] 38 (0, 0)) ∧ wr.ownsRow (q + 1) 5 1 vb (allR (l.take k)).length (bv (allR (l.take k))) ∧ Below w.heap.size w wr)
    case atStart => exact ⟨0, _, by omega, rfl, G0.out, World.ownsRow_nil _ _ _ _, HB.out⟩
    case round =>
      obtain ⟨k, vb, hgk, rfl, hqq, hown, hb⟩ := hrel
      by_cases hlt : k < l.length
      · rcases strsAt_below HL.out (Nat.le_refl _) hb with hat | ⟨bl, off, rfl, hbl, hcs⟩
        · simp [hat] at hlt
        have hc := hcs k hlt
        have htk := allR_take hlt
        have h1 := HONE.out k hlt
        have hlk := allR_le l k
        have hgd : l.getD k ⟨#[]⟩ = l[k] := by simp [List.getD, hlt]
        rw [hgd] at h1
        obtain ⟨s, hsk⟩ : ∃ s, s = l[k] := ⟨_, rfl⟩
        rw [← hsk] at hc htk h1
        have R1 := Lib.hid hqq; have R2 := Lib.hid hown; have R3 := Lib.hid hb; have HTK := Lib.hid htk; have H1 := Lib.hid h1; have HLK := Lib.hid hlk
        clear hcs hsk htk h1 hlk hgd hqq hown hb HB G0
        go_wp2_with fail
        refine (lay1f_walk q vb (allR (l.take k)) s _ R1.out R2.out (by have := HLK.out; have := HM.out; have := HFIT.out; omega) H1.out).mono ?_
        rintro r w2 ⟨rfl, hb2, v2, hq2, ho2⟩
        rw [← HTK.out] at ho2
        have M1 := Lib.hid hq2; have M2 := Lib.hid ho2
        have M3 := Lib.hid (R3.out.trans (hb2.mono HWQ.out))
        clear hb2 hq2 ho2 R1 R2 R3
        go_wp2_with fail
        go_roundg (gk - 1)
        case measure => omega
        case rel => exact ⟨k + 1, v2, by omega, by go_num, M1.out, M2.out, M3.out⟩
      · obtain rfl : k = l.length := by omega
        rw [List.take_length, ← HM.out] at hown
        obtain ⟨ad3, cap3, rfl⟩ := own_form hown
        have cq := cell_of_row _ q 0 _ _ _ hqq
        simp only [List.getElem?_toArray, List.getElem?_cons_zero] at cq
        have K2 := Lib.hid hown; have HBF := Lib.hid hb
        clear hown hqq hb HB G0
        go_wp2_with (refine wpList_string_own _ rfl _ 38 9 rfl 5 Try.underlying38 Try.underlying5 Try.underlying9 (q + 1) _ m (allR l) rfl K2.out ?_)
        go_ret2
        exact ⟨by rw [HFL.out]; rfl, HBF.out⟩
  · have hsz : sizeR l = 65537 := by unfold sizeR; rw [if_neg hfit]
    have hfl : flay l = (⟨#[]⟩, 4) := by unfold flay; rw [if_neg hfit]
    have HFL := Lib.hid hfl
    rw [hsz] at HSW
    clear hsz hfl hfit
    go_enter Try.func9, Try.ntmps9
    go_wp2_with fail
    refine HSW.out.mono ?_
    rintro r w1 ⟨rfl, hb1⟩
    have HB1 := Lib.hid hb1
    clear hb1 HSW
    go_wp2_with fail
    go_ret2
    exact ⟨by rw [HFL.out]; rfl, HB1.out⟩
end Go.Proofs.Ytfiigmimhdnpnaa
