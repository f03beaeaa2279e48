/-
  For every sectors, quota and acts StoreKeeps answers true: at whatever call the disk goes down, whatever it keeps: opened again, a store has what all transactions leave that were answered OK, and of the one that was being done all, or nothing. No condition.
-/
import Derived.Test.YtjjejkhekmpgcaaGreatMsN
import Derived.Test.YtjjejkhekmpgcaaGreatMsM
import Derived.Test.YtjjejkhekmpgcaaGreatMgA
import Derived.Deep.Strs
import Derived.Deep.Grids
namespace Go.Proofs.YtjjejkhekmpgcaaGreat.lawKeeps
set_option maxRecDepth 4000
open Go.ChangeShapes Go.WideShapes Go.ChangeAt Go.RowKit
open Go.ChangeMaps (open_string)

theorem contract (H : Type) (enc : TypeId × Value → H) (W : World) (base : Nat) (args : Array Value) (ds gs : List (DataW H)) (before : List MemPlace)
    (hval : ∀ (j : Nat) t v, Tryz.f6.params[j]? = some t → args[j]? = some v → Value.okWide Tryz.prog W .any base t v)
    (hW : DataW.Whole enc Tryz.prog Tryz.f6.params.toList Rows.storeKeepsSpec.vars false W args.toList ds gs before)
    (hsz : (DataW.weightsEach Tryz.prog (Tryz.f6.params.toList ++ Rows.storeKeepsSpec.plain.varTypes Tryz.prog) (ds ++ gs)).all (· ≤ reachBytes) = true) :
    Calls Tryz.prog 6 args W fun e W' => ∃ v, e = .returned v ∧ Rows.storeKeepsSpec.post enc Tryz.prog Tryz.f6 false true false false W args v W' := by
  have hW' := hW
  obtain ⟨p, q, hA0, hV, rfl, hfz, hnd⟩ := hW
  have hA : DataW.TrodAll enc Tryz.prog W 0 (fun _ => true) true Tryz.f6.params.toList args.toList ds p := hA0
  rw [Tryz.params6] at hA hval
  obtain ⟨v0, vs0, d0, ds0, p0, q0, hargs, rfl, rfl, h0, r0⟩ := trodAll_cons hA
  obtain ⟨v1, vs1, d1, ds1, p1, q1, rfl, rfl, rfl, h1, r1⟩ := trodAll_cons r0
  obtain ⟨v2, vs2, d2, ds2, p2, q2, rfl, rfl, rfl, h2, r2⟩ := trodAll_cons r1
  obtain ⟨rfl, rfl, rfl⟩ := trodAll_nil r2
  obtain rfl : args = #[v0, v1, v2] := by cases args; simp_all
  obtain ⟨rfl, rfl⟩ := trodVars_none hV
  obtain ⟨m0, rfl, _, _, hwm⟩ := open_int Tryz.underlying5 (hval 0 5 v0 rfl rfl) h0
  have hbm : 0 ≤ m0 ∧ m0 ≤ 255 := by
    have h := (Bool.and_eq_true _ _).mp hwm
    exact ⟨of_decide_eq_true h.1, of_decide_eq_true h.2⟩
  obtain ⟨m, rfl⟩ := Int.eq_ofNat_of_zero_le hbm.1
  obtain ⟨z, rfl, _, _, hwz⟩ := open_int Tryz.underlying3 (hval 1 3 v1 rfl rfl) h1
  have hbz : wide z := by
    have h := (Bool.and_eq_true _ _).mp hwz
    exact ⟨of_decide_eq_true h.1, of_decide_eq_true h.2⟩
  obtain ⟨adl, capl, l, rfl, hl, hcl, hdl, hokl⟩ := open_sacts (hval 2 62 v2 rfl rfl) h2
  refine (storeKeeps_walk m z adl capl l W (by omega) hbz hl hokl (by omega)).mono fun e W' ⟨he, hb⟩ => ⟨_, he, ?_⟩
  exact post_law laidOut (by kernel_rfl) 4 rfl Tryz.underlying4 rfl rfl hW' hb

set_option maxRecDepth 100000 in
theorem lifted (os : Os) (started : os.Started) (H : Type) (enc : TypeId × Value → H) :
    ReturnsInHanded {} Tryz.checked os 6 .any (Rows.storeKeepsSpec.pre6 enc Tryz.prog Tryz.f6 Rows.storeKeepsRow.domain false) (Rows.storeKeepsSpec.post enc Tryz.prog Tryz.f6 false true false false) := by
  refine returnsInHanded_of_change_sized (C := Tryz.checked) own started (by kernel_rfl) Tryz.func6
    (ChangeSpec.witness6 (enc := enc) (C := Tryz.checked) false ⟨#[], #[.int .u8 0, .int .i64 0, .slice none 0 0], []⟩ 8 (by kernel_rfl) (by kernel_rfl) (by kernel_rfl) (by kernel_rfl)) ?_
  intro W base args ds gs before hval hW _ hsz _
  exact contract H enc W base args ds gs before hval hW hsz

theorem proved : Rows.StoreKeepsSaid :=
  OpenClaim.holds_of_wide 6 Tryz.f6 rfl rfl rfl rfl rfl rfl rfl ⟨rfl, rfl, rfl, rfl, rfl⟩ rfl rfl rfl rfl rfl (by kernel_rfl) Tryz.func6 (by kernel_rfl)
    (of_decide_eq_true (by kernel_rfl)) (by unfold Func.isWrapper; first | (rw [if_pos (by decide +kernel)]; kernel_rfl) | (rw [if_neg (by decide +kernel)]; exact ⟨rfl, rfl⟩))
    (fun os started H enc _ => lifted os started H enc)
end Go.Proofs.YtjjejkhekmpgcaaGreat.lawKeeps
