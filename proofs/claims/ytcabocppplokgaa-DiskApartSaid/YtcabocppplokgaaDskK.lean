/-
  Layer 3: Fill; what must come at any rate.
-/
import Derived.Test.YtcabocppplokgaaDskJ
namespace Go.Proofs.Ytcabocppplokgaa
open Go.RowKit

/-- bytes as a text -/
def txt (l : List UInt8) : ByteArray := ⟨l.toArray⟩
theorem txt_size (l : List UInt8) : (txt l).size = l.length := by unfold txt; show l.toArray.size = _; simp
theorem txt_append (a b : List UInt8) : txt a ++ txt b = txt (a ++ b) := by
  apply ByteArray.ext
  rw [ByteArray.data_append]
  unfold txt
  simp
theorem txt_data (s : ByteArray) : txt s.data.toList = s := by
  apply ByteArray.ext
  unfold txt
  simp

set_option maxHeartbeats 1000000 in
theorem fill_walk (s : ByteArray) (w : World) (h : s.size ≤ 64) : Calls Try.prog 8 #[.string s] w fun e w' => e = .returned (.string (txt (fill s))) ∧ Below w.heap.size w w' := by
  have H := Lib.hid h
  have hf : fill s = s.data.toList ++ List.replicate (64 - s.size) 0 := rfl
  have HF := Lib.hid hf
  clear h hf
  go_enter Try.func8, Try.ntmps8
  go_wp2_with fail
  go_loopg [0] (64 - s.size) (fun gk v wr => ∃ k : Nat, k + gk = 64 - s.size ∧ v = .string (txt (s.data.toList ++ List.replicate k 0)) ∧ Below w.heap.size w wr)
  case atStart => exact ⟨0, by omega, by rw [List.replicate_zero, List.append_nil, txt_data], Below.refl _ _⟩
  case round =>
    obtain ⟨k, hgk, rfl, hb⟩ := hrel
    have hsz : (txt (s.data.toList ++ List.replicate k 0)).size = s.size + k := by
      rw [txt_size, List.length_append, List.length_replicate]
      have : s.data.toList.length = s.size := by simp
      omega
    have hnx : txt (s.data.toList ++ List.replicate k 0) ++ ⟨#[0]⟩ = txt (s.data.toList ++ List.replicate (k + 1) 0) := by
      have := txt_append (s.data.toList ++ List.replicate k 0) [0]
      rw [List.append_assoc, ← List.replicate_succ'] at this
      exact this
    obtain ⟨x, hx⟩ : ∃ x, x = txt (s.data.toList ++ List.replicate k 0) := ⟨_, rfl⟩
    obtain ⟨y, hy⟩ : ∃ y, y = txt (s.data.toList ++ List.replicate (k + 1) 0) := ⟨_, rfl⟩
    rw [← hx, ← hy] at hnx
    rw [← hx] at hsz ⊢
    have HB := Lib.hid hb; have HY := Lib.hid hy; have HX := Lib.hid hx; have HN := Lib.hid hnx
    obtain ⟨n, hn⟩ : ∃ n, n = x.size := ⟨_, rfl⟩
    have hn' : n = s.size + k := by rw [hn]; exact hsz
    have hn64 : s.size + k ≤ 64 := by have := H.out; omega
    have hnn : n ≤ 64 := by omega
    have hsx : x.size = n := hn.symm
    have HK := Lib.hid (And.intro hgk (And.intro hn' hn64))
    clear hb hy hx hnx hsz hn hgk hn' hn64
    by_cases hlt : (n : Int) < 64
    · have hlt2 : (x.size : Int) < 64 := by rw [hsx]; exact hlt
      have hl : (x.size : Int) < 64 ↔ True := iff_true_intro hlt2
      clear hlt hl
      go_wp2_with fail
      rw [HN.out]
      go_roundg (gk - 1)
      case measure => have := HK.out; omega
      case rel => exact ⟨k + 1, by have := HK.out; omega, by rw [HY.out], HB.out⟩
    · have hlt2 : x.size = 64 := by have := HK.out; omega
      clear hsx hnn
      have hk : k = 64 - s.size := by have := HK.out; omega
      have HK2 := Lib.hid hk
      clear hk hlt
      go_wp2_with fail
      go_ret
      refine ⟨ret_string ?_, HB.out⟩
      rw [HX.out, HF.out, HK2.out]
end Go.Proofs.Ytcabocppplokgaa
