/-
  A region that draws its order, walked once in a given order (see Mix); its last operations, which wait for all the others, need not keep what was read.
-/
import Derived.Test.YtcabocppplokgaaQuiet
import Derived.Test.YtcabocppplokgaaMix
namespace Go.Proofs.Ytcabocppplokgaa

section
variable {P : Program} {ops : Array Oper} {md : Region.Mode} {Q : Exit → Act → World → Prop} {S : World → Prop} {n : Nat}

def wpAnyT (P : Program) (md : Region.Mode) (ops : Array Oper) (Q : Exit → Act → World → Prop) (S : World → Prop) (n : Nat) : Nat → Array Bool → Act → World → Prop
  | 0, listed, a, w => Region.ready md ops listed = [] ∧ Q .normal a w
  | fuel + 1, listed, a, w =>
    (Region.ready md ops listed = [] → Q .normal a w) ∧
    ∀ i ∈ Region.ready md ops listed, wpOp P ops Q i (fun a' w' => (n ≤ i ∨ S w') ∧ wpAnyT P md ops Q S n fuel (listed.setIfInBounds i true) a' w') a w

theorem wpAny_of_T : ∀ (fuel : Nat) (listed : Array Bool) (a : Act) (w : World), wpAnyT P md ops Q S n fuel listed a w → wpAny P md ops Q fuel listed a w
  | 0, _, _, _, h => h
  | fuel + 1, _, _, _, h => ⟨h.1, fun i hi => wpOp_mono (fun a' w' h' => wpAny_of_T fuel _ a' w' h'.2) (h.2 i hi)⟩

theorem wpAnyT_first {i : Nat} {oi : Oper} {v : Value} (hi : ops[i]? = some oi) (hsel : ∀ (j : Nat) (o : Oper) cs b, ops[j]? = some o → o.op ≠ .select cs b)
    (hQ : ∀ c a w, Q (.panic c) (a.put oi.dst v) w → Q (.panic c) a w) (hs : Region.sinkB md ops n = true) (hc : Region.chainB md ops n = true) (hn : n < ops.size) (hin : i < n) :
    ∀ (fuel : Nat) (listed : Array Bool) (a : Act) (w : World), HeadInv md ops n listed →
      (∀ j oj, ops[j]? = some oj → j ≠ i → listed.getD j true = false → (∀ e ∈ oj.after, Region.binds md e = true → e.on ≠ i) → oi.apart ops oj = true) →
      i ∈ Region.ready md ops listed → YieldsIf P ops S oi v a → S w →
      wpAnyT P md ops Q S n fuel (listed.setIfInBounds i true) (a.put oi.dst v) w → wpAnyT P md ops Q S n (fuel + 1) listed a w := by
  intro fuel
  induction fuel with
  | zero =>
    intro listed a w _ _ hr hy hS H
    refine ⟨fun h => (by rw [h] at hr; cases hr), fun j hj => ?_⟩
    by_cases hji : j = i
    · subst hji; exact hy.wpOp hi hS ⟨.inr hS, H⟩
    · have := ready_mono hj hji
      rw [H.1] at this
      cases this
  | succ fuel ih =>
    intro listed a w inv hfree hr hy hS H
    have hun := (mem_ready.1 hr).1
    refine ⟨fun h => (by rw [h] at hr; cases hr), fun j hj => ?_⟩
    by_cases hji : j = i
    · subst hji; exact hy.wpOp hi hS ⟨.inr hS, H⟩
    · have hjn : j < n := by
        rcases Nat.lt_or_ge j n with h | h
        · exact h
        · exact absurd hj (tail_waits hs hc hn inv _ i rfl hin hun j h)
      have h1 := H.2 j (ready_mono hj hji)
      obtain ⟨hjun, oj, hoj, hall⟩ := mem_ready.1 hj
      have hnot : ∀ e ∈ oj.after, Region.binds md e = true → e.on ≠ i := fun e he hb heq => by
        have h1 := hall e he hb
        rw [heq, getD_both hun] at h1
        cases h1
      have h2 := wpOp_putIf hoj (hfree j oj hoj hji hjun hnot) (fun cs b => hsel i oi cs b hi) (fun cs b => hsel j oj cs b hoj) hQ hy h1
      have hfree' : ∀ k ok, ops[k]? = some ok → k ≠ i → (listed.setIfInBounds j true).getD k true = false →
          (∀ e ∈ ok.after, Region.binds md e = true → e.on ≠ i) → oi.apart ops ok = true := fun k ok hk hki hun hno => by
        refine hfree k ok hk hki ?_ hno
        by_cases hjk : j = k
        · subst hjk; exact hjun
        · rw [getD_set_ne true hjk] at hun; exact hun
      refine wpOp_mono (fun a' w' h3 => ?_) h2
      have hS' : S w' := h3.2.1.resolve_left (by omega)
      refine ⟨.inr hS', ih (listed.setIfInBounds j true) a' w' (inv.set hj hjn) hfree' (ready_mono hr (Ne.symm hji)) h3.1 hS' ?_⟩
      rw [Array.setIfInBounds_comm _ _ hji]
      exact h3.2.2

/-- (o, reads only, what was read stands behind it) -/
def wpMixT (P : Program) (ops : Array Oper) (Q : Exit → Act → World → Prop) (S : World → Prop) : List (Oper × Bool × Bool) → Act → World → Prop
  | [], a, w => Q .normal a w
  | (o, t, k) :: rest, a, w =>
    if Region.wanted o (yielded ops a.tmps) = true then
      if t = true then ∃ v, (∀ w', S w' → (execOp a.eval o).run P w' = .ok (.value v) w') ∧ wpMixT P ops Q S rest (a.put o.dst v) w
      else o.wp P a w (fun a' w' => (k = true → S w') ∧ wpMixT P ops Q S rest a' w') Q
    else wpMixT P ops Q S rest (a.put o.dst undef) w

theorem mixT_skip {o : Oper} {t k : Bool} {rest : List (Oper × Bool × Bool)} {a : Act} {w : World} (hw : Region.wanted o (yielded ops a.tmps) = false) (h : wpMixT P ops Q S rest (a.put o.dst undef) w) : wpMixT P ops Q S ((o, t, k) :: rest) a w := by
  unfold wpMixT
  rw [if_neg (by rw [hw]; simp)]
  exact h
theorem mixT_take {o : Oper} {k : Bool} {rest : List (Oper × Bool × Bool)} {a : Act} {w : World} (hw : Region.wanted o (yielded ops a.tmps) = true) (v : Value) (hv : ∀ w', S w' → (execOp a.eval o).run P w' = .ok (.value v) w')
    (h : wpMixT P ops Q S rest (a.put o.dst v) w) : wpMixT P ops Q S ((o, true, k) :: rest) a w := by
  unfold wpMixT
  rw [if_pos hw, if_pos rfl]
  exact ⟨v, hv, h⟩
theorem mixT_read {o : Oper} {k : Bool} {rest : List (Oper × Bool × Bool)} {a : Act} {w : World} (hw : Region.wanted o (yielded ops a.tmps) = true)
    (h : ∃ v, (∀ w', S w' → (execOp a.eval o).run P w' = .ok (.value v) w') ∧ wpMixT P ops Q S rest (a.put o.dst v) w) : wpMixT P ops Q S ((o, true, k) :: rest) a w :=
  mixT_take hw h.choose h.choose_spec.1 h.choose_spec.2
theorem mixT_load_row {o : Oper} {k : Bool} {rest : List (Oper × Bool × Bool)} {a : Act} {w : World} (ty : TypeId) (x : Operand) (ho : o.op = .load ty x) (hw : Region.wanted o (yielded ops a.tmps) = true)
    (g : Nat) (hx : a.eval x = .pointer (some ⟨g, 0, none⟩)) (t : TypeId) (cs : Array Value) (fr : Nat × Nat) (d : TypeDesc) (hg : ∀ w', S w' → w'.heap[g]? = some (.cells cs t fr))
    (hu : P.underlying ty = some d) (hd : (match d with | .struct _ | .array _ _ => true | _ => false) = true) (hi : (P.info? ty).map (·.size) = some cs.size)
    (h : wpMixT P ops Q S rest (a.put o.dst (.agg cs)) w) : wpMixT P ops Q S ((o, true, k) :: rest) a w :=
  mixT_take hw _ (fun w' hw' => by
    unfold execOp
    simp only [ho, hx, Instr.loadAt, Instr.sureAddr, Sem.run_bind, Sem.run_pure, Result.andThen_ok, run_loadVar_row w' g t ty cs fr d (hg w' hw') hu hd hi]) h
theorem mixT_step {o : Oper} {rest : List (Oper × Bool × Bool)} {a : Act} {w : World} (hw : Region.wanted o (yielded ops a.tmps) = true)
    (h : ∀ K' : Act → World → Prop, (∀ a' w', S w' → wpMixT P ops Q S rest a' w' → K' a' w') → o.wp P a w K' Q) : wpMixT P ops Q S ((o, false, true) :: rest) a w := by
  unfold wpMixT
  rw [if_pos hw, if_neg (by simp)]
  exact h _ (fun a' w' h1 h2 => ⟨fun _ => h1, h2⟩)
theorem mixT_tail {o : Oper} {rest : List (Oper × Bool × Bool)} {a : Act} {w : World} (hw : Region.wanted o (yielded ops a.tmps) = true)
    (h : ∀ K' : Act → World → Prop, (∀ a' w', wpMixT P ops Q S rest a' w' → K' a' w') → o.wp P a w K' Q) : wpMixT P ops Q S ((o, false, false) :: rest) a w := by
  unfold wpMixT
  rw [if_pos hw, if_neg (by simp)]
  exact h _ (fun a' w' h2 => ⟨fun h => (by cases h), h2⟩)
theorem mixT_nil {a : Act} {w : World} (h : Q .normal a w) : wpMixT P ops Q S [] a w := h

def Region.mixTB (md : Region.Mode) (ops : Array Oper) (n : Nat) : List (Nat × Bool × Bool) → Array Bool → Bool
  | [], listed => decide (Region.ready md ops listed = [])
  | (i, true, k) :: r, listed => k && decide (i < n) && (Region.ready md ops listed).contains i && Region.free md ops listed i && Region.mixTB md ops n r (listed.setIfInBounds i true)
  | (i, false, k) :: r, listed => (k == decide (i < n)) && decide (Region.ready md ops listed = [i]) && Region.mixTB md ops n r (listed.setIfInBounds i true)

theorem getD_set_true {listed : Array Bool} {i q : Nat} (h : listed.getD q true = true) : (listed.setIfInBounds i true).getD q true = true := by
  by_cases e : i = q
  · subst e
    by_cases hb : i < listed.size <;> simp [hb]
  · rw [getD_set_ne true e]; exact h
theorem tail_only : ∀ (r : List (Nat × Bool × Bool)) (listed : Array Bool), (∀ q, q < n → listed.getD q true = true) → Region.mixTB md ops n r listed = true → ∀ p ∈ r, p.2.2 = false
  | [], _, _, _, p, hp => by cases hp
  | (i, true, k) :: r, listed, hd, h, p, hp => by
    simp only [Region.mixTB, Bool.and_eq_true, decide_eq_true_eq] at h
    obtain ⟨⟨⟨⟨_, hin⟩, h1⟩, _⟩, _⟩ := h
    have hr : i ∈ Region.ready md ops listed := by simpa using h1
    have := (mem_ready.1 hr).1
    rw [hd i hin] at this
    cases this
  | (i, false, k) :: r, listed, hd, h, p, hp => by
    simp only [Region.mixTB, Bool.and_eq_true, decide_eq_true_eq, beq_iff_eq] at h
    obtain ⟨⟨hk, h1⟩, h3⟩ := h
    have hr : i ∈ Region.ready md ops listed := by rw [h1]; simp
    have hun := (mem_ready.1 hr).1
    have hin : ¬ i < n := fun h => by rw [hd i h] at hun; cases hun
    rcases List.mem_cons.1 hp with rfl | hp
    · simp [hk, hin]
    · exact tail_only r _ (fun q hq => getD_set_true (hd q hq)) h3 p hp

theorem wpAnyT_of_mix (hsel : Region.noSelect ops = true) (hQ : ∀ c a a' w, Q (.panic c) a w → Q (.panic c) a' w) (hs : Region.sinkB md ops n = true) (hc : Region.chainB md ops n = true) (hn : n < ops.size) :
    ∀ (L : List (Nat × Bool × Bool)) (listed : Array Bool) (a : Act) (w : World), ((∀ p ∈ L, p.2.2 = false) ∨ (S w ∧ HeadInv md ops n listed)) → Region.mixTB md ops n L listed = true →
      wpMixT P ops Q S (L.filterMap fun p => (ops[p.1]?).map fun o => (o, p.2)) a w → wpAnyT P md ops Q S n L.length listed a w
  | [], listed, a, w, _, hB, h => ⟨by simpa [Region.mixTB] using hB, h⟩
  | (i, t, k) :: r, listed, a, w, hS, hB, h => by
    cases t with
    | true =>
      simp only [Region.mixTB, Bool.and_eq_true, decide_eq_true_eq] at hB
      obtain ⟨⟨⟨⟨hk, hin⟩, h1⟩, h2⟩, h3⟩ := hB
      subst hk
      obtain ⟨hS, inv⟩ := hS.resolve_left (fun h => by have := h (i, true, true) (by simp); cases this)
      have hr : i ∈ Region.ready md ops listed := by simpa using h1
      obtain ⟨_, o, ho, _⟩ := mem_ready.1 hr
      rw [List.filterMap_cons, ho] at h
      simp only [Option.map_some] at h
      unfold wpMixT at h
      by_cases hw : Region.wanted o (yielded ops a.tmps) = true
      · rw [if_pos hw, if_pos rfl] at h
        obtain ⟨v, hv, h⟩ := h
        exact wpAnyT_first ho (Region.noSelect_spec hsel) (fun c a w hc => hQ c _ _ w hc) hs hc hn hin _ listed a w inv (Region.free_spec ho h2) hr (Or.inl ⟨hw, hv⟩) hS (wpAnyT_of_mix hsel hQ hs hc hn r _ _ _ (.inr ⟨hS, inv.set hr hin⟩) h3 h)
      · rw [if_neg hw] at h
        exact wpAnyT_first ho (Region.noSelect_spec hsel) (fun c a w hc => hQ c _ _ w hc) hs hc hn hin _ listed a w inv (Region.free_spec ho h2) hr (Or.inr ⟨by simpa using hw, rfl⟩) hS (wpAnyT_of_mix hsel hQ hs hc hn r _ _ _ (.inr ⟨hS, inv.set hr hin⟩) h3 h)
    | false =>
      simp only [Region.mixTB, Bool.and_eq_true, decide_eq_true_eq, beq_iff_eq] at hB
      obtain ⟨⟨hk, h1⟩, h3⟩ := hB
      have hr : i ∈ Region.ready md ops listed := by rw [h1]; simp
      obtain ⟨_, o, ho, _⟩ := mem_ready.1 hr
      rw [List.filterMap_cons, ho] at h
      simp only [Option.map_some] at h
      unfold wpMixT at h
      refine ⟨fun h0 => (by rw [h1] at h0; cases h0), fun j hj => ?_⟩
      obtain rfl : j = i := by rw [h1] at hj; simpa using hj
      have hnext : ∀ w', (k = true → S w') → ((∀ p ∈ r, p.2.2 = false) ∨ (S w' ∧ HeadInv md ops n (listed.setIfInBounds j true))) := by
        intro w' hw'
        rcases hS with h | ⟨_, inv⟩
        · exact .inl fun p hp => h p (by simp [hp])
        · by_cases hjn : j < n
          · exact .inr ⟨hw' (by rw [hk]; exact decide_eq_true hjn), inv.set hr hjn⟩
          · refine .inl ?_
            exact tail_only r _ (fun q hq => by
              cases hg : (listed.setIfInBounds j true).getD q true with
              | true => rfl
              | false =>
                have hun : listed.getD q true = false := by
                  cases hg2 : listed.getD q true with
                  | false => rfl
                  | true => rw [getD_set_true hg2] at hg; cases hg
                exact absurd hr (tail_waits hs hc hn inv _ q rfl hq hun j (by omega))) h3
      refine wpOp_step ho (fun K' hK => ?_)
      by_cases hw : Region.wanted o (yielded ops a.tmps) = true
      · rw [if_pos hw] at h ⊢
        rw [if_neg (by simp)] at h
        refine Oper.wp_mono (fun a' w' ⟨hS', h'⟩ => hK a' w' ⟨?_, wpAnyT_of_mix hsel hQ hs hc hn r _ _ _ (hnext w' hS') h3 h'⟩) h
        by_cases hjn : j < n
        · exact .inr (hS' (by rw [hk]; exact decide_eq_true hjn))
        · exact .inl (by omega)
      · rw [if_neg hw] at h ⊢
        have hS0 : (k = true → S w) ∧ (n ≤ j ∨ S w) := by
          rcases hS with h | ⟨h, _⟩
          · have hkf : k = false := h (j, false, k) (by simp)
            refine ⟨fun e => (by rw [hkf] at e; cases e), .inl ?_⟩
            rw [hkf] at hk
            have := of_decide_eq_false hk.symm
            omega
          · exact ⟨fun _ => h, .inr h⟩
        exact hK _ _ ⟨hS0.2, wpAnyT_of_mix hsel hQ hs hc hn r _ _ _ (hnext w hS0.1) h3 h⟩

/-- **The law.** L: the order: (place, reads only, what was read stands behind it); the last l.length - n operations wait for all the others. -/
theorem wp_region_mixT {id : Nat} {a : Act} {w : World} {l : List Oper} (S : World → Prop) (n : Nat) (L : List (Nat × Bool × Bool)) (hm : P.follows .mixedOrders = true)
    (hB : (Region.noSelect l.toArray && decide (L.length = l.length) && Region.sinkB .any l.toArray n && Region.chainB .any l.toArray n && decide (n < l.length) && Region.mixTB .any l.toArray n L (Array.replicate l.length false)) = true) (hS : S w.drew)
    (h : wpMixT P l.toArray (NoPanic Q) S (L.filterMap fun p => (l[p.1]?).map fun o => (o, p.2)) a w.drew) : (Code.region id l.toArray true).wp P Q a w := by
  simp only [Bool.and_eq_true, decide_eq_true_eq] at hB
  obtain ⟨⟨⟨⟨⟨h1, h2⟩, hs⟩, hc⟩, hn⟩, h3⟩ := hB
  refine wp_region_noPanic (wp_region_any hm ?_)
  have inv0 : HeadInv .any l.toArray n (Array.replicate l.length false) :=
    ⟨by simp, fun j oj _ hl => (by rw [getD_replicate_false] at hl; cases hl), fun t _ ht => getD_in (by simpa using ht) (getD_replicate_false _ _)⟩
  have := wpAnyT_of_mix (P := P) (Q := NoPanic Q) (S := S) h1 (fun c a a' w hc => by exact hc.elim) hs hc (by simpa using hn) L _ a w.drew (.inr ⟨hS, inv0⟩) h3 (by simpa using h)
  rw [h2] at this
  simpa using wpAny_of_T _ _ _ _ this
end
end Go.Proofs.Ytcabocppplokgaa
