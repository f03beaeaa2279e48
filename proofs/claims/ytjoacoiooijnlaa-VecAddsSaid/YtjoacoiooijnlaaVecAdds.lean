/-
  For every list of versions, every vector and every two further versions VecAdds answers true: the vector of the versions is the reference's, and one version more is in just what it should be in. No condition.
-/
import Derived.Test.YtjoacoiooijnlaaVecR
import Derived.Test.YtjoacoiooijnlaaVecOpen
import Derived.Deep.SlicePairs
namespace Go.Proofs.Ytjoacoiooijnlaa.lawAdds
open Go.ChangeShapes Go.WideShapes Go.ChangeAt Go.RowKit

theorem cells_four : Try.prog.cellsOf 37 = 70 := by kernel_rfl
theorem cells_vers : Try.prog.cellsOf 27 = 1 := by kernel_rfl
/-- the number that a cell holds -/
def intv : Value → Int
  | .int _ n => n
  | _ => 0
theorem parts (l : List Value) (h : l.length = 70) : l = (l.drop 0).take 1 ++ ((l.drop 1).take 65 ++ ((l.drop 66).take 2 ++ (l.drop 68).take 2)) := by
  have e4 : (l.drop 68).take 2 = l.drop 68 := List.take_of_length_le (by simp; omega)
  have e3 : (l.drop 66).take 2 ++ l.drop 68 = l.drop 66 := by
    have := List.take_append_drop 2 (l.drop 66)
    rwa [List.drop_drop] at this
  have e2 : (l.drop 1).take 65 ++ l.drop 66 = l.drop 1 := by
    have := List.take_append_drop 65 (l.drop 1)
    rwa [List.drop_drop] at this
  rw [e4, e3, e2, List.drop_zero, List.take_append_drop]
section
variable {H : Type} {enc : TypeId × Value → H} {w : World} {base : Nat} {spare : Nat → Bool} {held : Bool}
theorem ver_of_trod {fuel : Nat} {cs : List Value} {x : DataW H × List MemPlace} (h : DataW.trod enc Try.prog w base spare held fuel 25 cs = some x) : ∃ b n : Int, cs = [.int .i64 b, .int .i64 n] := by
  obtain ⟨y0, y1, n, _, hl, h0, h1⟩ := trod_struct2 Try.underlying25 h
  rw [cells_ver] at hl
  match cs, hl with
  | [c0, c1], _ =>
    simp only [cells_int, List.drop_zero, List.take_succ_cons, List.take_zero, List.drop_succ_cons] at h0 h1
    obtain ⟨a, e0, _, _⟩ := DataW.trod_int Try.underlying3 h0
    obtain ⟨b, e1, _, _⟩ := DataW.trod_int Try.underlying3 h1
    simp only [List.cons.injEq, and_true] at e0 e1
    exact ⟨a, b, by rw [e0, e1]⟩
theorem vers_of_trod {fuel : Nat} {cs : List Value} {x : DataW H × List MemPlace} (h : DataW.trod enc Try.prog w base spare held fuel 27 cs = some x) :
    ∃ ad cap, ∃ l : List (Int × Int), cs = [.slice ad l.length cap] ∧ versAt w ad l ∧ l.length ≤ cap ∧ l.length ≤ 9223372036854775807 := by
  rcases Go.Deep.open_slice_pairs Try.underlying27 Try.underlying25 cells_ver rfl rfl cells_int cells_int h with ⟨rfl, _⟩ | ⟨a, len, cap, m, n, V0, V1, D0, D1, P0, P1, rfl, _, hlc, hm, hmm, _, hx⟩
  · exact ⟨none, 0, [], rfl, .inl rfl, by simp, by simp⟩
  · have hlm : len ≤ m := by rw [hmm]; split <;> omega
    refine ⟨some a, cap, (List.range len).map fun i => (intv (V0 i), intv (V1 i)), by simp, ?_, by simpa using hlc, by unfold maxLen at hm; simp; omega⟩
    rcases Nat.eq_zero_or_pos len with rfl | hp
    · exact .inl rfl
    obtain ⟨b, off, spot⟩ := a
    have hspot : spot = none := by simpa [Addr.add] using World.cell?_spot (hx 0 (by omega)).1
    subst hspot
    have hlt : b < w.heap.size := by
      have h0 := (hx 0 (by omega)).1
      rcases Nat.lt_or_ge b w.heap.size with h' | h'
      · exact h'
      · simp [World.cell?, Addr.add, h'] at h0
    refine .inr ⟨b, off, rfl, hlt, fun i hi => ?_⟩
    have hi' : i < len := by simpa using hi
    obtain ⟨e0, e1, t0, t1⟩ := hx i (by omega)
    obtain ⟨n0, f0, _, _⟩ := DataW.trod_int Try.underlying3 t0
    obtain ⟨n1, f1, _, _⟩ := DataW.trod_int Try.underlying3 t1
    simp only [List.cons.injEq, and_true] at f0 f1
    rw [f0] at e0; rw [f1] at e1
    simp only [List.getElem_map, List.getElem_range, f0, f1, intv]
    have hadd : ∀ k, (⟨b, off, none⟩ : Addr).add k = ⟨b, off + k, none⟩ := fun k => by unfold Addr.add; split <;> simp_all
    rw [hadd] at e0 e1
    exact ⟨e0, by rw [Nat.add_assoc]; exact e1⟩
theorem open_four {r : Reach} {b0 : Nat} {v : Value} {d : DataW H} {ps : List MemPlace} (hv : Value.okWide Try.prog w r b0 37 v) (h : DataW.Trod enc Try.prog w base spare held 37 v d ps) :
    ∃ ad cap, ∃ l : List (Int × Int), ∃ f xb xn yb yn, v = .agg (four (.slice ad l.length cap) f xb xn yb yn) ∧ versAt w ad l ∧ l.length ≤ cap ∧ l.length ≤ 9223372036854775807 := by
  obtain ⟨cs, rfl, hsz⟩ := okWide_struct Try.underlying37 hv
  rw [cells_four] at hsz
  obtain ⟨fuel, hf⟩ := h
  simp only [Value.cells] at hf
  obtain ⟨y0, y1, y2, y3, n, _, _, h0, h1, h2, h3⟩ := Go.Joins.trod_struct4 Try.underlying37 hf
  rw [cells_vers] at h0; rw [cells_vec] at h1; rw [cells_ver] at h2 h3
  obtain ⟨ad, cap, l, e0, hv0, hv1, hv2⟩ := vers_of_trod h0
  have e1 := vec_of_trod (cs := ((cs.toList.drop 1).take 65).toArray) h1
  generalize numsOf ((cs.toList.drop 1).take 65).toArray = F at e1
  obtain ⟨xb, xn, e2⟩ := ver_of_trod h2
  obtain ⟨yb, yn, e3⟩ := ver_of_trod h3
  refine ⟨ad, cap, l, F, xb, xn, yb, yn, ?_, hv0, hv1, hv2⟩
  have hp := parts cs.toList (by simpa using hsz)
  have e1' : (cs.toList.drop 1).take 65 = (vec F).toList := by
    have := congrArg Array.toList e1
    simpa using this
  have e0' : (cs.toList.drop 0).take 1 = [.slice ad l.length cap] := e0
  have e2' : (cs.toList.drop 66).take 2 = [.int .i64 xb, .int .i64 xn] := e2
  have e3' : (cs.toList.drop 68).take 2 = [.int .i64 yb, .int .i64 yn] := e3
  rw [e0', e1', e2', e3'] at hp
  have : cs = four (.slice ad l.length cap) F xb xn yb yn := Array.ext' (hp.trans (by simp [four]))
  rw [this]
end

theorem contract (H : Type) (enc : TypeId × Value → H) (W : World) (base : Nat) (args : Array Value) (ds gs : List (DataW H)) (before : List MemPlace)
    (hval : ∀ (j : Nat) t v, Try.f4.params[j]? = some t → args[j]? = some v → Value.okWide Try.prog W .any base t v)
    (hW : DataW.Whole enc Try.prog Try.f4.params.toList Rows.vecAddsSpec.vars false W args.toList ds gs before) :
    Calls Try.prog 4 args W fun e W' => ∃ v, e = .returned v ∧ Rows.vecAddsSpec.post enc Try.prog Try.f4 false true false false W args v W' := by
  have hW' := hW
  obtain ⟨p, q, hA0, hV, rfl, hfz, hnd⟩ := hW
  have hA : DataW.TrodAll enc Try.prog W 0 (fun _ => true) true Try.f4.params.toList args.toList ds p := hA0
  rw [Try.params4] at hA hval
  obtain ⟨v0, vs0, d0, ds0, p0, q0, hargs, rfl, rfl, h0, r0⟩ := trodAll_cons hA
  obtain ⟨rfl, rfl, rfl⟩ := trodAll_nil r0
  obtain rfl : args = #[v0] := by cases args; simp_all
  obtain ⟨rfl, rfl⟩ := trodVars_none hV
  obtain ⟨ad, cap, l, f, xb, xn, yb, yn, rfl, hl, hc, hs⟩ := open_four (hval 0 37 v0 rfl rfl) h0
  refine (vecAdds_walk ad cap l f xb xn yb yn W hl hs hc).mono fun e W' ⟨he, hb⟩ => ⟨_, he, ?_⟩
  exact post_law laidOut (by kernel_rfl) 4 rfl Try.underlying4 rfl rfl hW' hb

set_option maxRecDepth 100000 in
theorem lifted (os : Os) (started : os.Started) (H : Type) (enc : TypeId × Value → H) :
    ReturnsInHanded {} Try.checked os 4 .any (Rows.vecAddsSpec.pre6 enc Try.prog Try.f4 Rows.vecAddsRow.domain false) (Rows.vecAddsSpec.post enc Try.prog Try.f4 false true false false) := by
  refine returnsInHanded_of_change_sized (C := Try.checked) own started (by kernel_rfl) Try.func4
    (ChangeSpec.witness6 (enc := enc) (C := Try.checked) false ⟨#[], #[.agg (#[.slice none 0 0] ++ Array.replicate 69 (.int .i64 0))], []⟩ 8 (by kernel_rfl) (by kernel_rfl) (by kernel_rfl) (by kernel_rfl)) ?_
  intro W base args ds gs before hval hW _ _ _
  exact contract H enc W base args ds gs before hval hW

theorem proved : Rows.VecAddsSaid :=
  OpenClaim.holds_of_wide 4 Try.f4 rfl rfl rfl rfl rfl rfl rfl ⟨rfl, rfl, rfl, rfl, rfl⟩ rfl rfl rfl rfl rfl (by kernel_rfl) Try.func4 (by kernel_rfl)
    (of_decide_eq_true (by kernel_rfl)) (by unfold Func.isWrapper; first | (rw [if_pos (by decide +kernel)]; kernel_rfl) | (rw [if_neg (by decide +kernel)]; exact ⟨rfl, rfl⟩))
    (fun os started H enc _ => lifted os started H enc)
end Go.Proofs.Ytjoacoiooijnlaa.lawAdds
