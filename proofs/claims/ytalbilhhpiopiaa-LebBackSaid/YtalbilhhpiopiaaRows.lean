/-
  No cell of these rows narrows 'for every input' (looked for: loops, veiled, ifaces, maps, wideKeys, modest, calm, conditions, laid).
  DERIVED. THE GIVEN ROWS OF THIS SEAT. 4 by the template 'for every input the law returns true; each argument reads behind the call as it read before'; 0 by the template 'total and deterministic' (their statements: YtalbilhhpiopiaaTotals.lean).
  GIVEN WITH THE SEED: the statements are not yours to turn. If you find one false, say at which input.
  Laid BY PROGRAM, IN A SANDBOX (cutbox-rows.mjs): the forced cells as the released guide's own fill.sh prints them over the translation 05ef32062482db79… (all of the seat's roots in one cut). By AI agents, Wed Nov 11 2026. No macro, syntax, notation, axiom, sorry.
-/
import Derived.Test.YtalbilhhpiopiaaChecked
import GoSem.Claim
import GoSem.ClaimJoined
import GoSem.ClaimMapViews
import Derived.JoinedTies
import Derived.KernelRfl
namespace Go.Proofs.Ytalbilhhpiopiaa
/- THE CELL 'sum', in the pinned program and in every row, IS THE sha256 OF THE DUMP (.gsa) THAT YtalbilhhpiopiaaProg.lean LOADS. Nothing in Lean hashes anything: it is a label: what it is worth is what the hold of that sum in a sandbox is worth. -/
noncomputable def Try.pinned : Pinned := { name := "ytalbilhhpiopiaa", sum := "05ef32062482db794575333702c26971fada408c4cf2c45885fef460523a45ec", checked := Try.checked }
namespace Rows
def none {H : Type} : Left H := { results := [], args := [] }

/-- 'lighteragelaw01.LebLays': WHATEVER THE INPUT: true; the input reads as it did. -/
def lebLaysSpec : ChangeSpec := { name := "lebLays", fn := fun _ => fun
  | [d] => { results := [.lit (.bool true)], args := [d] }
  | _ => none }
def lebLaysRow : OpenClaim := { program := "ytalbilhhpiopiaa", sum := "05ef32062482db794575333702c26971fada408c4cf2c45885fef460523a45ec", func := "lighterage/lighteragelaw01.LebLays", spec := "lebLays", unfollowed := true, recurses := true, apart := false }
def LebLaysSaid : Prop := lebLaysRow.holds Try.pinned (OpenSpec.ofChange lebLaysSpec)

/-- ITS FALSE NEIGHBOUR: 'it returns false'. Refute it at one input. -/
def lebLaysWrong : ChangeSpec := { name := "lebLays", fn := fun _ => fun
  | [d] => { results := [.lit (.bool false)], args := [d] }
  | _ => none }
def LebLaysWrongFalsely : Prop := lebLaysRow.holds Try.pinned (OpenSpec.ofChange lebLaysWrong)

/-- 'lighteragelaw01.LebReads': WHATEVER THE INPUT: true; the input reads as it did. -/
def lebReadsSpec : ChangeSpec := { name := "lebReads", fn := fun _ => fun
  | [d1, d2] => { results := [.lit (.bool true)], args := [d1, d2] }
  | _ => none }
def lebReadsRow : OpenClaim := { program := "ytalbilhhpiopiaa", sum := "05ef32062482db794575333702c26971fada408c4cf2c45885fef460523a45ec", func := "lighterage/lighteragelaw01.LebReads", spec := "lebReads", unfollowed := true, recurses := true, apart := false }
def LebReadsSaid : Prop := lebReadsRow.holds Try.pinned (OpenSpec.ofChange lebReadsSpec)

/-- ITS FALSE NEIGHBOUR: 'it returns false'. Refute it at one input. -/
def lebReadsWrong : ChangeSpec := { name := "lebReads", fn := fun _ => fun
  | [d1, d2] => { results := [.lit (.bool false)], args := [d1, d2] }
  | _ => none }
def LebReadsWrongFalsely : Prop := lebReadsRow.holds Try.pinned (OpenSpec.ofChange lebReadsWrong)

/-- 'lighteragelaw01.LebBack': WHATEVER THE INPUT: true; the input reads as it did. -/
def lebBackSpec : ChangeSpec := { name := "lebBack", fn := fun _ => fun
  | [d1, d2] => { results := [.lit (.bool true)], args := [d1, d2] }
  | _ => none }
def lebBackRow : OpenClaim := { program := "ytalbilhhpiopiaa", sum := "05ef32062482db794575333702c26971fada408c4cf2c45885fef460523a45ec", func := "lighterage/lighteragelaw01.LebBack", spec := "lebBack", unfollowed := true, recurses := true, apart := false }
def LebBackSaid : Prop := lebBackRow.holds Try.pinned (OpenSpec.ofChange lebBackSpec)

/-- ITS FALSE NEIGHBOUR: 'it returns false'. Refute it at one input. -/
def lebBackWrong : ChangeSpec := { name := "lebBack", fn := fun _ => fun
  | [d1, d2] => { results := [.lit (.bool false)], args := [d1, d2] }
  | _ => none }
def LebBackWrongFalsely : Prop := lebBackRow.holds Try.pinned (OpenSpec.ofChange lebBackWrong)

/-- 'lighteragelaw01.LebNone': WHATEVER THE INPUT: true; the input reads as it did. -/
def lebNoneSpec : ChangeSpec := { name := "lebNone", fn := fun _ => fun
  | [d] => { results := [.lit (.bool true)], args := [d] }
  | _ => none }
def lebNoneRow : OpenClaim := { program := "ytalbilhhpiopiaa", sum := "05ef32062482db794575333702c26971fada408c4cf2c45885fef460523a45ec", func := "lighterage/lighteragelaw01.LebNone", spec := "lebNone", unfollowed := true, recurses := true, apart := false }
def LebNoneSaid : Prop := lebNoneRow.holds Try.pinned (OpenSpec.ofChange lebNoneSpec)

/-- ITS FALSE NEIGHBOUR: 'it returns false'. Refute it at one input. -/
def lebNoneWrong : ChangeSpec := { name := "lebNone", fn := fun _ => fun
  | [d] => { results := [.lit (.bool false)], args := [d] }
  | _ => none }
def LebNoneWrongFalsely : Prop := lebNoneRow.holds Try.pinned (OpenSpec.ofChange lebNoneWrong)

/- THE SECOND FORM. 'bulk': how many values and letters a reading holds, each counted each time it is reached (what is shared counts as often as it is met; a slice's spare places count too). A statement '..UptoSaid' is the law's where the arguments, and the package variables that the reading takes, are together of bulk at most 1048576: NARROWER than '..Said'. Prove '..Said' where nothing that the law and all that it calls make is longer than what came in: it says more and counts as full. Else prove '..UptoSaid'. A law counts once. -/
mutual
def uptoBulk {H : Type} : DataW H → Nat
  | .lit (.string bytes) => bytes.length + 1
  | .lit _ => 1
  | .nil => 1
  | .ptr d => uptoBulk d + 1
  | .slice elems spare => uptoBulkAll elems + uptoBulkAll spare + 1
  | .agg parts => uptoBulkAll parts + 1
  | .iface _ d => uptoBulk d + 1
  | .map entries => uptoBulkEntries entries + 1
  | .held _ => 1
def uptoBulkAll {H : Type} : List (DataW H) → Nat
  | [] => 0
  | d :: r => uptoBulk d + uptoBulkAll r
def uptoBulkEntries {H : Type} : List (Lit × DataW H) → Nat
  | [] => 0
  | x :: r => uptoBulkEntry x + uptoBulkEntries r
def uptoBulkEntry {H : Type} : Lit × DataW H → Nat
  | (.string bytes, d) => bytes.length + uptoBulk d + 1
  | (_, d) => uptoBulk d + 1
 end
def uptoSmall : (H : Type) → List (DataW H) → Bool := fun _ ds => decide (uptoBulkAll ds ≤ 1048576)
def OpenSpec.upto (s : _root_.Go.ChangeSpec) : _root_.Go.OpenSpec := { _root_.Go.OpenSpec.ofChange s with cond := some uptoSmall }

/-- 'lighteragelaw01.LebLays', WHERE WHAT IT READS IS OF BULK AT MOST 1048576: true; the input reads as it did. -/
def lebLaysUptoRow : OpenClaim := { program := "ytalbilhhpiopiaa", sum := "05ef32062482db794575333702c26971fada408c4cf2c45885fef460523a45ec", func := "lighterage/lighteragelaw01.LebLays", spec := "lebLays", unfollowed := true, recurses := true, apart := false, narrowed := true }
def LebLaysUptoSaid : Prop := lebLaysUptoRow.holds Try.pinned (OpenSpec.upto lebLaysSpec)

/-- 'lighteragelaw01.LebReads', WHERE WHAT IT READS IS OF BULK AT MOST 1048576: true; the input reads as it did. -/
def lebReadsUptoRow : OpenClaim := { program := "ytalbilhhpiopiaa", sum := "05ef32062482db794575333702c26971fada408c4cf2c45885fef460523a45ec", func := "lighterage/lighteragelaw01.LebReads", spec := "lebReads", unfollowed := true, recurses := true, apart := false, narrowed := true }
def LebReadsUptoSaid : Prop := lebReadsUptoRow.holds Try.pinned (OpenSpec.upto lebReadsSpec)

/-- 'lighteragelaw01.LebBack', WHERE WHAT IT READS IS OF BULK AT MOST 1048576: true; the input reads as it did. -/
def lebBackUptoRow : OpenClaim := { program := "ytalbilhhpiopiaa", sum := "05ef32062482db794575333702c26971fada408c4cf2c45885fef460523a45ec", func := "lighterage/lighteragelaw01.LebBack", spec := "lebBack", unfollowed := true, recurses := true, apart := false, narrowed := true }
def LebBackUptoSaid : Prop := lebBackUptoRow.holds Try.pinned (OpenSpec.upto lebBackSpec)

/-- 'lighteragelaw01.LebNone', WHERE WHAT IT READS IS OF BULK AT MOST 1048576: true; the input reads as it did. -/
def lebNoneUptoRow : OpenClaim := { program := "ytalbilhhpiopiaa", sum := "05ef32062482db794575333702c26971fada408c4cf2c45885fef460523a45ec", func := "lighterage/lighteragelaw01.LebNone", spec := "lebNone", unfollowed := true, recurses := true, apart := false, narrowed := true }
def LebNoneUptoSaid : Prop := lebNoneUptoRow.holds Try.pinned (OpenSpec.upto lebNoneSpec)

end Rows
end Go.Proofs.Ytalbilhhpiopiaa
