/-
  For every room and every acts InboxDoes answers true: every call of two boxes is answered as the document says. No condition.
-/
import Derived.Test.YtkmchbmajfmbhaaInbJ
import Derived.Test.YtkmchbmajfmbhaaLaw
import Derived.Deep.Strs
import Derived.Deep.SlicePairs
namespace Go.Proofs.Ytkmchbmajfmbhaa.lawDoes
open Go.ChangeShapes Go.WideShapes Go.ChangeAt Go.RowKit Go.Deep

section
variable {H : Type} {enc : TypeId × Value → H} {w : World} {base : Nat} {spare : Nat → Bool} {held : Bool}
theorem trod_struct4 {P : Program} {t : TypeId} {f0 f1 f2 f3 : Field} {fuel : Nat} {cs : List Value} {x : DataW H × List MemPlace} (ht : P.underlying t = some (.struct #[f0, f1, f2, f3])) (h : DataW.trod enc P w base spare held fuel t cs = some x) :
    ∃ y0 y1 y2 y3 n, x = (.agg [y0.1, y1.1, y2.1, y3.1], y0.2 ++ (y1.2 ++ (y2.2 ++ y3.2))) ∧ cs.length = P.cellsOf t ∧ DataW.trod enc P w base spare held n f0.type ((cs.drop f0.offset).take (P.cellsOf f0.type)) = some y0 ∧
      DataW.trod enc P w base spare held n f1.type ((cs.drop f1.offset).take (P.cellsOf f1.type)) = some y1 ∧ DataW.trod enc P w base spare held n f2.type ((cs.drop f2.offset).take (P.cellsOf f2.type)) = some y2 ∧
      DataW.trod enc P w base spare held n f3.type ((cs.drop f3.offset).take (P.cellsOf f3.type)) = some y3 := by
  obtain ⟨xs, n, _, rfl, hl, hlen, hf⟩ := DataW.trod_struct ht h
  match xs, hlen with
  | [y0, y1, y2, y3], _ => exact ⟨y0, y1, y2, y3, n, by simp, hl, by simpa using hf 0 f0 rfl, by simpa using hf 1 f1 rfl, by simpa using hf 2 f2 rfl, by simpa using hf 3 f3 rfl⟩
theorem cells_act : Try.prog.cellsOf 37 = 4 := by kernel_rfl
theorem cells_int1 : Try.prog.cellsOf 3 = 1 := by kernel_rfl
theorem cells_string1 : Try.prog.cellsOf 9 = 1 := by kernel_rfl
theorem cells_bool1 : Try.prog.cellsOf 4 = 1 := by kernel_rfl
theorem add_spot (b off k : Nat) : (⟨b, off, none⟩ : Addr).add k = ⟨b, off + k, none⟩ := by unfold Addr.add; split <;> simp_all
theorem lt_of_cell {b off : Nat} {v : Value} (h : w.cell? ⟨b, off, none⟩ = some v) : b < w.heap.size := by
  rcases Nat.lt_or_ge b w.heap.size with h' | h'
  · exact h'
  · simp [World.cell?, h'] at h
theorem open_acts {r : Reach} {b0 : Nat} {v : Value} {d : DataW H} {ps : List MemPlace} (hv : Value.okWide Try.prog w r b0 35 v) (h : DataW.Trod enc Try.prog w base spare held 35 v d ps) :
    ∃ ad cap, ∃ l : List Act4, v = .slice ad l.length cap ∧ actsAt w ad l ∧ l.length ≤ cap ∧ cap ≤ 9223372036854775807 ∧ ∀ f ∈ l, f.2.2.1.size ≤ 9223372036854775807 := by
  obtain ⟨a0, len0, cap0, rfl⟩ := okWide_slice Try.underlying35 hv
  obtain ⟨fuel, hf⟩ := h
  simp only [Value.cells] at hf
  rcases open_slice Try.underlying35 hf with ⟨e, _⟩ | ⟨a, len, cap, m, n, D, Pl, e, _, hl, hm, hmm, _, hx⟩
  · simp at e
    obtain ⟨rfl, rfl, rfl⟩ := e
    exact ⟨none, 0, [], rfl, .inl rfl, by simp, by simp, by simp⟩
  · simp at e
    obtain ⟨rfl, rfl, rfl⟩ := e
    have hlm : len0 ≤ m := by rw [hmm]; split <;> omega
    have each : ∀ i, i < m → ∃ f : Act4, (∀ (j : Nat) (u : Value), (a4v f)[j]? = some u → w.cell? (a.add (i * 4 + j)) = some u) ∧ f.2.2.1.size ≤ 9223372036854775807 := by
      intro i hi
      obtain ⟨cs', h1, h2⟩ := hx i hi
      rw [cells_act] at h1
      obtain ⟨_, hlen, hcell⟩ := World.cells?_some h1
      obtain ⟨y0, y1, y2, y3, n', _, _, g0, g1, g2, g3⟩ := trod_struct4 Try.underlying37 h2
      match cs', hlen with
      | [v0, v1, v2, v3], _ =>
        simp [cells_int1, cells_string1, cells_bool1] at g0 g1 g2 g3
        obtain ⟨x, e0, _, k0⟩ := DataW.trod_int Try.underlying3 g0
        obtain ⟨x1, e1, _, k1⟩ := DataW.trod_int Try.underlying3 g1
        obtain ⟨s, e2, _, k2⟩ := DataW.trod_string Try.underlying9 g2
        obtain ⟨b, e3, _⟩ := DataW.trod_bool Try.underlying4 g3
        simp only [List.cons.injEq, and_true] at e0 e1 e2 e3
        refine ⟨(x, x1, s, b), fun j u hu => ?_, k2⟩
        have hu' : [Value.int .i64 x, .int .i64 x1, .string s, .bool b][j]? = some u := hu
        match j, hu' with
        | 0, hu =>
          have c := hcell 0 (by omega)
          rw [add_add] at c
          simp at c hu
          rw [← hu, ← e0]; exact c
        | 1, hu =>
          have c := hcell 1 (by omega)
          rw [add_add] at c
          simp at c hu
          rw [← hu, ← e1]; exact c
        | 2, hu =>
          have c := hcell 2 (by omega)
          rw [add_add] at c
          simp at c hu
          rw [← hu, ← e2]; exact c
        | 3, hu =>
          have c := hcell 3 (by omega)
          rw [add_add] at c
          simp at c hu
          rw [← hu, ← e3]; exact c
        | j + 4, hu => simp at hu
    obtain ⟨F, hF⟩ := choose_lt each
    refine ⟨some a, cap0, (List.range len0).map F, by simp, ?_, by simpa using hl, by unfold maxLen at hm; omega, ?_⟩
    · rcases Nat.eq_zero_or_pos len0 with rfl | hp
      · exact .inl rfl
      obtain ⟨b, off, spot⟩ := a
      have c0 := (hF 0 (by omega)).1 0 _ rfl
      have hspot : spot = none := by simpa [Addr.add] using World.cell?_spot c0
      subst hspot
      simp only [add_spot] at hF c0
      refine .inr ⟨b, off, rfl, lt_of_cell c0, fun i hi j u hu => ?_⟩
      have hi' : i < len0 := by simpa using hi
      simp only [List.getElem_map, List.getElem_range] at hu
      rw [Nat.add_assoc]
      exact (hF i (by omega)).1 j u hu
    · intro f hf
      obtain ⟨i, hi, rfl⟩ := List.mem_map.1 hf
      exact (hF i (by have := List.mem_range.1 hi; omega)).2
end

theorem contract (H : Type) (enc : TypeId × Value → H) (W : World) (base : Nat) (args : Array Value) (ds gs : List (DataW H)) (before : List MemPlace)
    (hval : ∀ (j : Nat) t v, Try.f4.params[j]? = some t → args[j]? = some v → Value.okWide Try.prog W .any base t v)
    (hW : DataW.Whole enc Try.prog Try.f4.params.toList Rows.inboxDoesSpec.vars false W args.toList ds gs before) :
    Calls Try.prog 4 args W fun e W' => ∃ v, e = .returned v ∧ Rows.inboxDoesSpec.post enc Try.prog Try.f4 false true false false W args v W' := by
  have hW' := hW
  obtain ⟨p, q, hA0, hV, rfl, hfz, hnd⟩ := hW
  have hA : DataW.TrodAll enc Try.prog W 0 (fun _ => true) true Try.f4.params.toList args.toList ds p := hA0
  rw [Try.params4] at hA hval
  obtain ⟨v0, vs0, d0, ds0, p0, q0, hargs, rfl, rfl, h0, r0⟩ := trodAll_cons hA
  obtain ⟨v1, vs1, d1, ds1, p1, q1, rfl, rfl, rfl, h1, r1⟩ := trodAll_cons r0
  obtain ⟨rfl, rfl, rfl⟩ := trodAll_nil r1
  obtain rfl : args = #[v0, v1] := by cases args; simp_all
  obtain ⟨rfl, rfl⟩ := trodVars_none hV
  obtain ⟨k, rfl, _, _, hk⟩ := open_int Try.underlying3 (hval 0 3 v0 rfl rfl) h0
  obtain ⟨ad, cap, l, rfl, hl, hlc, hcc, hs⟩ := open_acts (hval 1 35 v1 rfl rfl) h1
  refine (inboxDoes_walk k ad cap l W hl (by omega) hs).mono fun e W' ⟨he, hb⟩ => ⟨_, he, ?_⟩
  exact post_law laidOut (by kernel_rfl) 4 rfl Try.underlying4 rfl rfl hW' hb

set_option maxRecDepth 100000 in
theorem lifted (os : Os) (started : os.Started) (H : Type) (enc : TypeId × Value → H) :
    ReturnsInHanded {} Try.checked os 4 .any (Rows.inboxDoesSpec.pre6 enc Try.prog Try.f4 Rows.inboxDoesRow.domain false) (Rows.inboxDoesSpec.post enc Try.prog Try.f4 false true false false) := by
  refine returnsInHanded_of_change_sized (C := Try.checked) own started (by kernel_rfl) Try.func4
    (ChangeSpec.witness6 (enc := enc) (C := Try.checked) false ⟨#[], #[.int .i64 0, .slice none 0 0], []⟩ 8 (by kernel_rfl) (by kernel_rfl) (by kernel_rfl) (by kernel_rfl)) ?_
  intro W base args ds gs before hval hW _ _ _
  exact contract H enc W base args ds gs before hval hW

theorem proved : Rows.InboxDoesSaid :=
  OpenClaim.holds_of_wide 4 Try.f4 rfl rfl rfl rfl rfl rfl rfl ⟨rfl, rfl, rfl, rfl, rfl⟩ rfl rfl rfl rfl rfl (by kernel_rfl) Try.func4 (by kernel_rfl)
    (of_decide_eq_true (by kernel_rfl)) (by unfold Func.isWrapper; first | (rw [if_pos (by decide +kernel)]; kernel_rfl) | (rw [if_neg (by decide +kernel)]; exact ⟨rfl, rfl⟩))
    (fun os started H enc _ => lifted os started H enc)
end Go.Proofs.Ytkmchbmajfmbhaa.lawDoes
