/-
  Layer 2: the reference's four bytes of a sum.
-/
import Derived.Test.YtfiigmimhdnpnaaCrcN
namespace Go.Proofs.Ytfiigmimhdnpnaa
open Go.RowKit

set_option maxHeartbeats 400000 in
theorem refFour_walk (s : ByteArray) (w : World) (hs : s.size ≤ 1000000) :
    Calls Try.prog 30 #[.string s] w fun e w' => e = .returned (.string ⟨(fourOf (crcSum s.data.toList)).toArray⟩) ∧ Below w.heap.size w w' := by
  have hle := crcSum_le s.data.toList
  go_enter Try.func30, Try.ntmps30
  go_wp2_with (first
    | (go_at_call 38; refine (refSum_walk s _ hs).mono ?_; rw [refSum_eq]; rintro e w1 ⟨rfl, hb1⟩)
    | (refine wpList_string_own _ rfl _ 38 9 rfl 5 Try.underlying38 Try.underlying5 Try.underlying9 w.heap.size _ 4 (fourOf (crcSum s.data.toList)) rfl ?_ ?_; · rw [bv_four _ hle]; exact ownsRow_lit _ _ _ _ 4 hb1.size rfl (by decide)))
  go_ret
  exact ⟨rfl, hb1.alloc hb1.size _⟩
end Go.Proofs.Ytfiigmimhdnpnaa
