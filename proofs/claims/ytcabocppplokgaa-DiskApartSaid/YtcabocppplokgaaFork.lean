/-
  A region that draws its order, walked by a plan: what only reads is taken first; a step comes up alone, or two come up together (then both ways are walked).
-/
import Derived.Test.YtcabocppplokgaaMix
namespace Go.Proofs.Ytcabocppplokgaa

inductive Plan where
  | done
  | read (i : Nat) (r : Plan)
  | step (i : Nat) (r : Plan)
  | fork (i : Nat) (r : Plan) (j : Nat) (s : Plan)
def Plan.len : Plan → Nat
  | .done => 0
  | .read _ r => r.len + 1
  | .step _ r => r.len + 1
  | .fork _ r _ _ => r.len + 1

/-- a plan with the operations in it -/
inductive PlanO where
  | done
  | read (o : Option Oper) (r : PlanO)
  | step (o : Option Oper) (r : PlanO)
  | fork (o : Option Oper) (r : PlanO) (u : Option Oper) (s : PlanO)
def Plan.fill (l : List Oper) : Plan → PlanO
  | .done => .done
  | .read i r => .read l[i]? (r.fill l)
  | .step i r => .step l[i]? (r.fill l)
  | .fork i r j s => .fork l[i]? (r.fill l) l[j]? (s.fill l)

section
variable {P : Program} {ops : Array Oper} {md : Region.Mode} {Q : Exit → Act → World → Prop} {S : World → Prop}

/-- one operation, then K -/
def wpOne (P : Program) (ops : Array Oper) (Q : Exit → Act → World → Prop) (S : World → Prop) (o : Oper) (K : Act → World → Prop) (a : Act) (w : World) : Prop :=
  if Region.wanted o (yielded ops a.tmps) = true then o.wp P a w (fun a' w' => S w' ∧ K a' w') Q else K (a.put o.dst undef) w
def wpPlan (P : Program) (ops : Array Oper) (Q : Exit → Act → World → Prop) (S : World → Prop) : Plan → Act → World → Prop
  | .done, a, w => Q .normal a w
  | .read i r, a, w => ∀ o, ops[i]? = some o →
    if Region.wanted o (yielded ops a.tmps) = true then ∃ v, (∀ w', S w' → (execOp a.eval o).run P w' = .ok (.value v) w') ∧ wpPlan P ops Q S r (a.put o.dst v) w else wpPlan P ops Q S r (a.put o.dst undef) w
  | .step i r, a, w => ∀ o, ops[i]? = some o → wpOne P ops Q S o (wpPlan P ops Q S r) a w
  | .fork i r j s, a, w => (∀ o, ops[i]? = some o → wpOne P ops Q S o (wpPlan P ops Q S r) a w) ∧ (∀ o, ops[j]? = some o → wpOne P ops Q S o (wpPlan P ops Q S s) a w)

def wpPlanO (P : Program) (ops : Array Oper) (Q : Exit → Act → World → Prop) (S : World → Prop) : PlanO → Act → World → Prop
  | .done, a, w => Q .normal a w
  | .read (some o) r, a, w =>
    if Region.wanted o (yielded ops a.tmps) = true then ∃ v, (∀ w', S w' → (execOp a.eval o).run P w' = .ok (.value v) w') ∧ wpPlanO P ops Q S r (a.put o.dst v) w else wpPlanO P ops Q S r (a.put o.dst undef) w
  | .step (some o) r, a, w => wpOne P ops Q S o (wpPlanO P ops Q S r) a w
  | .fork (some o) r (some u) s, a, w => wpOne P ops Q S o (wpPlanO P ops Q S r) a w ∧ wpOne P ops Q S u (wpPlanO P ops Q S s) a w
  | _, _, _ => False
theorem wpOne_mono {o : Oper} {K K' : Act → World → Prop} {a : Act} {w : World} (hK : ∀ a' w', K a' w' → K' a' w') (h : wpOne P ops Q S o K a w) : wpOne P ops Q S o K' a w := by
  unfold wpOne at h ⊢
  by_cases hw : Region.wanted o (yielded ops a.tmps) = true
  · rw [if_pos hw] at h ⊢
    exact Oper.wp_mono (fun a' w' ⟨h1, h2⟩ => ⟨h1, hK _ _ h2⟩) h
  · rw [if_neg hw] at h ⊢
    exact hK _ _ h
theorem plan_of_fill {l : List Oper} (hl : ops = l.toArray) : ∀ (L : Plan) (a : Act) (w : World), wpPlanO P ops Q S (L.fill l) a w → wpPlan P ops Q S L a w
  | .done, _, _, h => h
  | .read i r, a, w, h => by
    unfold wpPlan
    intro o ho
    have ho' : l[i]? = some o := by rw [hl] at ho; simpa using ho
    unfold Plan.fill wpPlanO at h
    rw [ho'] at h
    by_cases hw : Region.wanted o (yielded ops a.tmps) = true
    · simp only [if_pos hw] at h ⊢
      obtain ⟨v, h1, h2⟩ := h
      exact ⟨v, h1, plan_of_fill hl r _ _ h2⟩
    · simp only [if_neg hw] at h ⊢
      exact plan_of_fill hl r _ _ h
  | .step i r, a, w, h => by
    unfold wpPlan
    intro o ho
    have ho' : l[i]? = some o := by rw [hl] at ho; simpa using ho
    unfold Plan.fill wpPlanO at h
    rw [ho'] at h
    exact wpOne_mono (fun a' w' h' => plan_of_fill hl r a' w' h') h
  | .fork i r j s, a, w, h => by
    unfold wpPlan
    unfold Plan.fill wpPlanO at h
    refine ⟨fun o ho => ?_, fun u hu => ?_⟩
    · have ho' : l[i]? = some o := by rw [hl] at ho; simpa using ho
      rw [ho'] at h
      cases hj : l[j]? with
      | none => rw [hj] at h; exact h.elim
      | some u => rw [hj] at h; exact wpOne_mono (fun a' w' h' => plan_of_fill hl r a' w' h') h.1
    · have hu' : l[j]? = some u := by rw [hl] at hu; simpa using hu
      rw [hu'] at h
      cases hi : l[i]? with
      | none => rw [hi] at h; exact h.elim
      | some o => rw [hi] at h; exact wpOne_mono (fun a' w' h' => plan_of_fill hl s a' w' h') h.2

theorem plan_read {r : PlanO} {a : Act} {w : World} {o : Oper} (hw : Region.wanted o (yielded ops a.tmps) = true)
    (h : ∃ v, (∀ w', S w' → (execOp a.eval o).run P w' = .ok (.value v) w') ∧ wpPlanO P ops Q S r (a.put o.dst v) w) : wpPlanO P ops Q S (.read (some o) r) a w := by
  unfold wpPlanO
  rw [if_pos hw]
  exact h
theorem one_step {o : Oper} {K : Act → World → Prop} {a : Act} {w : World} (hw : Region.wanted o (yielded ops a.tmps) = true)
    (h : ∀ K' : Act → World → Prop, (∀ a' w', S w' → K a' w' → K' a' w') → o.wp P a w K' Q) : wpOne P ops Q S o K a w := by
  unfold wpOne
  rw [if_pos hw]
  exact h _ (fun a' w' h1 h2 => ⟨h1, h2⟩)
theorem plan_step {r : PlanO} {a : Act} {w : World} {o : Oper} (hw : Region.wanted o (yielded ops a.tmps) = true)
    (h : ∀ K' : Act → World → Prop, (∀ a' w', S w' → wpPlanO P ops Q S r a' w' → K' a' w') → o.wp P a w K' Q) : wpPlanO P ops Q S (.step (some o) r) a w := by
  unfold wpPlanO
  exact one_step hw h
theorem plan_fork {r s : PlanO} {a : Act} {w : World} {o u : Oper} (hw : Region.wanted o (yielded ops a.tmps) = true) (hw2 : Region.wanted u (yielded ops a.tmps) = true)
    (h : ∀ K' : Act → World → Prop, (∀ a' w', S w' → wpPlanO P ops Q S r a' w' → K' a' w') → o.wp P a w K' Q)
    (h2 : ∀ K' : Act → World → Prop, (∀ a' w', S w' → wpPlanO P ops Q S s a' w' → K' a' w') → u.wp P a w K' Q) : wpPlanO P ops Q S (.fork (some o) r (some u) s) a w := by
  unfold wpPlanO
  exact ⟨one_step hw h, one_step hw2 h2⟩
theorem plan_done {a : Act} {w : World} (h : Q .normal a w) : wpPlanO P ops Q S .done a w := h

def Region.planB (md : Region.Mode) (ops : Array Oper) : Plan → Array Bool → Bool
  | .done, listed => decide (Region.ready md ops listed = [])
  | .read i r, listed => (Region.ready md ops listed).contains i && Region.free md ops listed i && Region.planB md ops r (listed.setIfInBounds i true)
  | .step i r, listed => decide (Region.ready md ops listed = [i]) && Region.planB md ops r (listed.setIfInBounds i true)
  | .fork i r j s, listed => decide (Region.ready md ops listed = [i, j]) && decide (r.len = s.len) && Region.planB md ops r (listed.setIfInBounds i true) && Region.planB md ops s (listed.setIfInBounds j true)

theorem wpOp_one {i : Nat} {o : Oper} {a : Act} {w : World} {K K2 : Act → World → Prop} (ho : ops[i]? = some o) (hS : S w) (h : wpOne P ops Q S o K a w) (hK : ∀ a' w', S w' → K a' w' → S w' ∧ K2 a' w') :
    wpOp P ops Q i (fun a' w' => S w' ∧ K2 a' w') a w := by
  refine wpOp_step ho (fun K' hK' => ?_)
  unfold wpOne at h
  by_cases hw : Region.wanted o (yielded ops a.tmps) = true
  · rw [if_pos hw] at h ⊢
    exact Oper.wp_mono (fun a' w' ⟨hS', h'⟩ => hK' a' w' (hK a' w' hS' h')) h
  · rw [if_neg hw] at h ⊢
    exact hK' _ _ (hK _ _ hS h)

theorem wpAnyH_of_plan (hsel : Region.noSelect ops = true) (hQ : ∀ c a a' w, Q (.panic c) a w → Q (.panic c) a' w) :
    ∀ (L : Plan) (listed : Array Bool) (a : Act) (w : World), S w → Region.planB md ops L listed = true → wpPlan P ops Q S L a w → Go.wpAnyH P md ops Q S L.len listed a w
  | .done, listed, a, w, _, hB, h => wpAnyH_done (by simpa [Region.planB] using hB) h 0
  | .read i r, listed, a, w, hS, hB, h => by
    simp only [Region.planB, Bool.and_eq_true] at hB
    obtain ⟨⟨h1, h2⟩, h3⟩ := hB
    have hr : i ∈ Region.ready md ops listed := by simpa using h1
    obtain ⟨_, o, ho, _⟩ := mem_ready.1 hr
    unfold wpPlan at h
    replace h := h o ho
    by_cases hw : Region.wanted o (yielded ops a.tmps) = true
    · rw [if_pos hw] at h
      obtain ⟨v, hv, h⟩ := h
      exact wpAnyH_take ho hsel h2 h1 (fun c a w hc => hQ c _ _ w hc) (Or.inl ⟨hw, hv⟩) hS (wpAnyH_of_plan hsel hQ r _ _ _ hS h3 h)
    · rw [if_neg hw] at h
      exact wpAnyH_take ho hsel h2 h1 (fun c a w hc => hQ c _ _ w hc) (Or.inr ⟨by simpa using hw, rfl⟩) hS (wpAnyH_of_plan hsel hQ r _ _ _ hS h3 h)
  | .step i r, listed, a, w, hS, hB, h => by
    simp only [Region.planB, Bool.and_eq_true, decide_eq_true_eq] at hB
    obtain ⟨h1, h3⟩ := hB
    unfold wpPlan at h
    refine wpAnyH_all h1 (by simp) (fun k hk => ?_)
    obtain rfl : k = i := by simpa using hk
    have hr : k ∈ Region.ready md ops listed := by rw [h1]; simp
    obtain ⟨_, o, ho, _⟩ := mem_ready.1 hr
    exact wpOp_one ho hS (h o ho) (fun a' w' hS' h' => ⟨hS', wpAnyH_of_plan hsel hQ r _ _ _ hS' h3 h'⟩)
  | .fork i r j s, listed, a, w, hS, hB, h => by
    simp only [Region.planB, Bool.and_eq_true, decide_eq_true_eq] at hB
    obtain ⟨⟨⟨h1, hl⟩, h3⟩, h4⟩ := hB
    unfold wpPlan at h
    refine wpAnyH_all h1 (by simp) (fun k hk => ?_)
    have hk2 : k = i ∨ k = j := by simpa using hk
    have hr : k ∈ Region.ready md ops listed := by rw [h1]; simpa using hk2
    obtain ⟨_, o, ho, _⟩ := mem_ready.1 hr
    rcases hk2 with rfl | rfl
    · exact wpOp_one ho hS (h.1 o ho) (fun a' w' hS' h' => ⟨hS', wpAnyH_of_plan hsel hQ r _ _ _ hS' h3 h'⟩)
    · rw [hl]
      exact wpOp_one ho hS (h.2 o ho) (fun a' w' hS' h' => ⟨hS', wpAnyH_of_plan hsel hQ s _ _ _ hS' h4 h'⟩)

/-- **The law.** -/
theorem wp_region_plan {id : Nat} {a : Act} {w : World} {l : List Oper} (S : World → Prop) (L : Plan) (hm : P.follows .mixedOrders = true)
    (hB : (Region.noSelect l.toArray && decide (L.len = l.length) && Region.planB .any l.toArray L (Array.replicate l.length false)) = true) (hS : S w.drew)
    (h : wpPlanO P l.toArray (NoPanic Q) S (L.fill l) a w.drew) : (Code.region id l.toArray true).wp P Q a w := by
  simp only [Bool.and_eq_true, decide_eq_true_eq] at hB
  obtain ⟨⟨h1, h2⟩, h3⟩ := hB
  refine wp_region_noPanic (wp_region_held (S := S) hm ?_)
  have := wpAnyH_of_plan (P := P) (Q := NoPanic Q) (S := S) h1 (fun c a a' w hc => by exact hc.elim) L _ a w.drew hS h3 (plan_of_fill rfl L _ _ h)
  rw [h2] at this
  simpa using this
end
end Go.Proofs.Ytcabocppplokgaa
