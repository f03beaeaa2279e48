/-
  A region in the text's order, walked by the quiet walk.
-/
import Derived.Test.YtfiigmimhdnpnaaQuiet
namespace Go.Proofs.Ytfiigmimhdnpnaa
open Go.RowKit
section
variable {P : Program} {ops : Array Oper} {C : World → Prop}
theorem wpList_of_quiet {Q : Exit → Act → World → Prop} : ∀ (l : List Oper) (a : Act) (w : World), C w → wpQuiet P ops C (fun a' => ∀ w', C w' → Q .normal a' w') l a → wpList P ops Q l a w
  | [], a, w, hC, h => h w hC
  | o :: l, a, w, hC, h => by
    unfold wpQuiet at h
    unfold wpList
    by_cases hw : Region.wanted o (yielded ops a.tmps) = true
    · rw [if_pos hw] at h
      rw [if_pos hw]
      exact .inl (Oper.wp_of_quiet hC (fun a' w' hC' h' => wpList_of_quiet l a' w' hC' h') h)
    · rw [if_neg hw] at h
      rw [if_neg hw]
      exact wpList_of_quiet l _ w hC h
theorem wp_region_sub_plain {id : Nat} {Q : Exit → Act → World → Prop} {a : Act} {w W : World} {B : Nat} {l : List Oper} (hC : Below B W w)
    (h : wpQuiet P l.toArray (fun w' => ∃ x : Sub B W, w' = x.val) (fun a' => ∀ w', (∃ x : Sub B W, w' = x.val) → Q .normal a' w') l a) : (Code.region id l.toArray false).wp P Q a w :=
  wp_region_lit (wpList_of_quiet (C := fun w' => ∃ x : Sub B W, w' = x.val) l a w (inSub_of hC) h)
end
end Go.Proofs.Ytfiigmimhdnpnaa
