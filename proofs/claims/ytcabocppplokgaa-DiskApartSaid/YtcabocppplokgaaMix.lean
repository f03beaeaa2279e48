/-
  A region that draws its order: one walk in a given order: what only reads (in every world that meets S) is taken first, what makes memory or calls comes up alone.
-/
import Derived.Test.YtcabocppplokgaaQuiet
import Derived.Deep.RegionHeld3
namespace Go.Proofs.Ytcabocppplokgaa

section
variable {P : Program} {ops : Array Oper} {md : Region.Mode} {Q : Exit → Act → World → Prop} {S : World → Prop}

def wpMix (P : Program) (ops : Array Oper) (Q : Exit → Act → World → Prop) (S : World → Prop) : List (Oper × Bool) → Act → World → Prop
  | [], a, w => Q .normal a w
  | (o, t) :: rest, a, w =>
    if Region.wanted o (yielded ops a.tmps) = true then
      if t = true then ∃ v, (∀ w', S w' → (execOp a.eval o).run P w' = .ok (.value v) w') ∧ wpMix P ops Q S rest (a.put o.dst v) w
      else o.wp P a w (fun a' w' => S w' ∧ wpMix P ops Q S rest a' w') Q
    else wpMix P ops Q S rest (a.put o.dst undef) w

theorem mix_skip {o : Oper} {t : Bool} {rest : List (Oper × Bool)} {a : Act} {w : World} (hw : Region.wanted o (yielded ops a.tmps) = false) (h : wpMix P ops Q S rest (a.put o.dst undef) w) : wpMix P ops Q S ((o, t) :: rest) a w := by
  unfold wpMix
  rw [if_neg (by rw [hw]; simp)]
  exact h
theorem mix_take {o : Oper} {rest : List (Oper × Bool)} {a : Act} {w : World} (hw : Region.wanted o (yielded ops a.tmps) = true) (v : Value) (hv : ∀ w', S w' → (execOp a.eval o).run P w' = .ok (.value v) w')
    (h : wpMix P ops Q S rest (a.put o.dst v) w) : wpMix P ops Q S ((o, true) :: rest) a w := by
  unfold wpMix
  rw [if_pos hw, if_pos rfl]
  exact ⟨v, hv, h⟩
theorem mix_read {o : Oper} {rest : List (Oper × Bool)} {a : Act} {w : World} (hw : Region.wanted o (yielded ops a.tmps) = true)
    (h : ∃ v, (∀ w', S w' → (execOp a.eval o).run P w' = .ok (.value v) w') ∧ wpMix P ops Q S rest (a.put o.dst v) w) : wpMix P ops Q S ((o, true) :: rest) a w :=
  mix_take hw h.choose h.choose_spec.1 h.choose_spec.2
theorem mix_load_row {o : Oper} {rest : List (Oper × Bool)} {a : Act} {w : World} (ty : TypeId) (x : Operand) (ho : o.op = .load ty x) (hw : Region.wanted o (yielded ops a.tmps) = true)
    (g : Nat) (hx : a.eval x = .pointer (some ⟨g, 0, none⟩)) (t : TypeId) (cs : Array Value) (fr : Nat × Nat) (d : TypeDesc) (hg : ∀ w', S w' → w'.heap[g]? = some (.cells cs t fr))
    (hu : P.underlying ty = some d) (hd : (match d with | .struct _ | .array _ _ => true | _ => false) = true) (hi : (P.info? ty).map (·.size) = some cs.size)
    (h : wpMix P ops Q S rest (a.put o.dst (.agg cs)) w) : wpMix P ops Q S ((o, true) :: rest) a w :=
  mix_take hw _ (fun w' hw' => by
    unfold execOp
    simp only [ho, hx, Instr.loadAt, Instr.sureAddr, Sem.run_bind, Sem.run_pure, Result.andThen_ok, run_loadVar_row w' g t ty cs fr d (hg w' hw') hu hd hi]) h
theorem mix_step {o : Oper} {rest : List (Oper × Bool)} {a : Act} {w : World} (hw : Region.wanted o (yielded ops a.tmps) = true)
    (h : ∀ K' : Act → World → Prop, (∀ a' w', S w' → wpMix P ops Q S rest a' w' → K' a' w') → o.wp P a w K' Q) : wpMix P ops Q S ((o, false) :: rest) a w := by
  unfold wpMix
  rw [if_pos hw, if_neg (by simp)]
  exact h _ (fun a' w' h1 h2 => ⟨h1, h2⟩)
theorem mix_nil {a : Act} {w : World} (h : Q .normal a w) : wpMix P ops Q S [] a w := h

def Region.mixB (md : Region.Mode) (ops : Array Oper) : List (Nat × Bool) → Array Bool → Bool
  | [], listed => decide (Region.ready md ops listed = [])
  | (i, true) :: r, listed => (Region.ready md ops listed).contains i && Region.free md ops listed i && Region.mixB md ops r (listed.setIfInBounds i true)
  | (i, false) :: r, listed => decide (Region.ready md ops listed = [i]) && Region.mixB md ops r (listed.setIfInBounds i true)

theorem wpAnyH_of_mix (hsel : Region.noSelect ops = true) (hQ : ∀ c a a' w, Q (.panic c) a w → Q (.panic c) a' w) :
    ∀ (L : List (Nat × Bool)) (listed : Array Bool) (a : Act) (w : World), S w → Region.mixB md ops L listed = true →
      wpMix P ops Q S (L.filterMap fun p => (ops[p.1]?).map fun o => (o, p.2)) a w → Go.wpAnyH P md ops Q S L.length listed a w
  | [], listed, a, w, _, hB, h => wpAnyH_done (by simpa [Region.mixB] using hB) h 0
  | (i, t) :: r, listed, a, w, hS, hB, h => by
    cases t with
    | true =>
      simp only [Region.mixB, Bool.and_eq_true] at hB
      obtain ⟨⟨h1, h2⟩, h3⟩ := hB
      have hr : i ∈ Region.ready md ops listed := by simpa using h1
      obtain ⟨_, o, ho, _⟩ := mem_ready.1 hr
      rw [List.filterMap_cons, ho] at h
      simp only [Option.map_some] at h
      unfold wpMix at h
      by_cases hw : Region.wanted o (yielded ops a.tmps) = true
      · rw [if_pos hw, if_pos rfl] at h
        obtain ⟨v, hv, h⟩ := h
        exact wpAnyH_take ho hsel h2 h1 (fun c a w hc => hQ c _ _ w hc) (Or.inl ⟨hw, hv⟩) hS (wpAnyH_of_mix hsel hQ r _ _ _ hS h3 h)
      · rw [if_neg hw] at h
        exact wpAnyH_take ho hsel h2 h1 (fun c a w hc => hQ c _ _ w hc) (Or.inr ⟨by simpa using hw, rfl⟩) hS (wpAnyH_of_mix hsel hQ r _ _ _ hS h3 h)
    | false =>
      simp only [Region.mixB, Bool.and_eq_true, decide_eq_true_eq] at hB
      obtain ⟨h1, h3⟩ := hB
      refine wpAnyH_all h1 (by simp) (fun k hk => ?_)
      obtain rfl : k = i := by simpa using hk
      have hr : k ∈ Region.ready md ops listed := by rw [h1]; simp
      obtain ⟨_, o, ho, _⟩ := mem_ready.1 hr
      rw [List.filterMap_cons, ho] at h
      simp only [Option.map_some] at h
      unfold wpMix at h
      refine wpOp_step ho (fun K' hK => ?_)
      by_cases hw : Region.wanted o (yielded ops a.tmps) = true
      · rw [if_pos hw] at h ⊢
        rw [if_neg (by simp)] at h
        exact Oper.wp_mono (fun a' w' ⟨hS', h'⟩ => hK a' w' ⟨hS', wpAnyH_of_mix hsel hQ r _ _ _ hS' h3 h'⟩) h
      · rw [if_neg hw] at h ⊢
        exact hK _ _ ⟨hS, wpAnyH_of_mix hsel hQ r _ _ _ hS h3 h⟩

/-- **The law.** -/
theorem wp_region_mix {id : Nat} {a : Act} {w : World} {l : List Oper} (S : World → Prop) (L : List (Nat × Bool)) (hm : P.follows .mixedOrders = true)
    (hB : (Region.noSelect l.toArray && decide (L.length = l.length) && Region.mixB .any l.toArray L (Array.replicate l.length false)) = true) (hS : S w.drew)
    (h : wpMix P l.toArray (NoPanic Q) S (L.filterMap fun p => (l[p.1]?).map fun o => (o, p.2)) a w.drew) : (Code.region id l.toArray true).wp P Q a w := by
  simp only [Bool.and_eq_true, decide_eq_true_eq] at hB
  obtain ⟨⟨h1, h2⟩, h3⟩ := hB
  refine wp_region_noPanic (wp_region_held (S := S) hm ?_)
  have := wpAnyH_of_mix (P := P) (Q := NoPanic Q) (S := S) h1 (fun c a a' w hc => by exact hc.elim) L _ a w.drew hS h3 (by simpa using h)
  rw [h2] at this
  simpa using this
end
end Go.Proofs.Ytcabocppplokgaa
