/-
  A region that draws its order, walked by a tree of orders: what only reads is taken first, what makes memory or calls comes up alone, or two ways.
-/
import Derived.Test.YtkmchbmajfmbhaaMix
namespace Go.Proofs.Ytkmchbmajfmbhaa

/-- a tree of orders, by the operations' numbers -/
inductive MT where
  | nil : MT
  | read (i : Nat) (r : MT) : MT
  | one (i : Nat) (r : MT) : MT
  | two (i : Nat) (r : MT) (j : Nat) (s : MT) : MT
/-- the same, with the operations -/
inductive MO where
  | nil : MO
  | bad : MO
  | read (o : Oper) (r : MO) : MO
  | one (o : Oper) (r : MO) : MO
  | two (o : Oper) (r : MO) (p : Oper) (s : MO) : MO
def MT.depth : MT → Nat
  | .nil => 0
  | .read _ r => r.depth + 1
  | .one _ r => r.depth + 1
  | .two _ r _ _ => r.depth + 1
def MT.fill (l : List Oper) : MT → MO
  | .nil => .nil
  | .read i r => match l[i]? with
    | some o => .read o (r.fill l)
    | none => .bad
  | .one i r => match l[i]? with
    | some o => .one o (r.fill l)
    | none => .bad
  | .two i r j s => match l[i]?, l[j]? with
    | some o, some p => .two o (r.fill l) p (s.fill l)
    | _, _ => .bad
def Region.treeB (md : Region.Mode) (ops : Array Oper) : MT → Array Bool → Bool
  | .nil, listed => decide (Region.ready md ops listed = [])
  | .read i r, listed => (Region.ready md ops listed).contains i && Region.free md ops listed i && Region.treeB md ops r (listed.setIfInBounds i true)
  | .one i r, listed => decide (Region.ready md ops listed = [i]) && Region.treeB md ops r (listed.setIfInBounds i true)
  | .two i r j s, listed => decide (Region.ready md ops listed = [i, j]) && decide (r.depth = s.depth) && Region.treeB md ops r (listed.setIfInBounds i true) && Region.treeB md ops s (listed.setIfInBounds j true)

section
variable {P : Program} {ops : Array Oper} {md : Region.Mode} {Q : Exit → Act → World → Prop} {S : World → Prop}

def wpTree (P : Program) (ops : Array Oper) (Q : Exit → Act → World → Prop) (S : World → Prop) : MO → Act → World → Prop
  | .nil, a, w => Q .normal a w
  | .bad, _, _ => False
  | .read o r, a, w =>
    if Region.wanted o (yielded ops a.tmps) = true then ∃ v, (∀ w', S w' → (execOp a.eval o).run P w' = .ok (.value v) w') ∧ wpTree P ops Q S r (a.put o.dst v) w
    else wpTree P ops Q S r (a.put o.dst undef) w
  | .one o r, a, w =>
    if Region.wanted o (yielded ops a.tmps) = true then o.wp P a w (fun a' w' => S w' ∧ wpTree P ops Q S r a' w') Q
    else wpTree P ops Q S r (a.put o.dst undef) w
  | .two o r p s, a, w =>
    (if Region.wanted o (yielded ops a.tmps) = true then o.wp P a w (fun a' w' => S w' ∧ wpTree P ops Q S r a' w') Q else wpTree P ops Q S r (a.put o.dst undef) w) ∧
    (if Region.wanted p (yielded ops a.tmps) = true then p.wp P a w (fun a' w' => S w' ∧ wpTree P ops Q S s a' w') Q else wpTree P ops Q S s (a.put p.dst undef) w)

theorem tree_nil {a : Act} {w : World} (h : Q .normal a w) : wpTree P ops Q S .nil a w := h
theorem tree_skip {o : Oper} {r : MO} {a : Act} {w : World} (hw : Region.wanted o (yielded ops a.tmps) = false) (h : wpTree P ops Q S r (a.put o.dst undef) w) : wpTree P ops Q S (.read o r) a w := by
  unfold wpTree
  rw [if_neg (by rw [hw]; simp)]
  exact h
theorem tree_read {o : Oper} {r : MO} {a : Act} {w : World} (hw : Region.wanted o (yielded ops a.tmps) = true)
    (h : ∃ v, (∀ w', S w' → (execOp a.eval o).run P w' = .ok (.value v) w') ∧ wpTree P ops Q S r (a.put o.dst v) w) : wpTree P ops Q S (.read o r) a w := by
  unfold wpTree
  rw [if_pos hw]
  exact h
theorem tree_load_row {o : Oper} {r : MO} {a : Act} {w : World} (ty : TypeId) (x : Operand) (ho : o.op = .load ty x) (hw : Region.wanted o (yielded ops a.tmps) = true)
    (g : Nat) (hx : a.eval x = .pointer (some ⟨g, 0, none⟩)) (t : TypeId) (cs : Array Value) (fr : Nat × Nat) (d : TypeDesc) (hg : ∀ w', S w' → w'.heap[g]? = some (.cells cs t fr))
    (hu : P.underlying ty = some d) (hd : (match d with | .struct _ | .array _ _ => true | _ => false) = true) (hi : (P.info? ty).map (·.size) = some cs.size)
    (h : wpTree P ops Q S r (a.put o.dst (.agg cs)) w) : wpTree P ops Q S (.read o r) a w :=
  tree_read hw ⟨_, fun w' hw' => by
    unfold execOp
    simp only [ho, hx, Instr.loadAt, Instr.sureAddr, Sem.run_bind, Sem.run_pure, Result.andThen_ok, run_loadVar_row w' g t ty cs fr d (hg w' hw') hu hd hi], h⟩
theorem tree_one {o : Oper} {r : MO} {a : Act} {w : World} (hw : Region.wanted o (yielded ops a.tmps) = true)
    (h : ∀ K' : Act → World → Prop, (∀ a' w', S w' → wpTree P ops Q S r a' w' → K' a' w') → o.wp P a w K' Q) : wpTree P ops Q S (.one o r) a w := by
  unfold wpTree
  rw [if_pos hw]
  exact h _ (fun a' w' h1 h2 => ⟨h1, h2⟩)
theorem tree_one_skip {o : Oper} {r : MO} {a : Act} {w : World} (hw : Region.wanted o (yielded ops a.tmps) = false) (h : wpTree P ops Q S r (a.put o.dst undef) w) : wpTree P ops Q S (.one o r) a w := by
  unfold wpTree
  rw [if_neg (by rw [hw]; simp)]
  exact h
theorem tree_two {o p : Oper} {r s : MO} {a : Act} {w : World} (h1 : wpTree P ops Q S (.one o r) a w) (h2 : wpTree P ops Q S (.one p s) a w) : wpTree P ops Q S (.two o r p s) a w := by
  unfold wpTree at h1 h2 ⊢
  exact ⟨h1, h2⟩

theorem wpAnyH_of_tree (hsel : Region.noSelect ops = true) (hQ : ∀ c a a' w, Q (.panic c) a w → Q (.panic c) a' w) :
    ∀ (t : MT) (listed : Array Bool) (a : Act) (w : World), S w → Region.treeB md ops t listed = true → wpTree P ops Q S (t.fill ops.toList) a w → Go.wpAnyH P md ops Q S t.depth listed a w
  | .nil, listed, a, w, _, hB, h => wpAnyH_done (by simpa [Region.treeB] using hB) h 0
  | .read i r, listed, a, w, hS, hB, h => by
    simp only [Region.treeB, Bool.and_eq_true] at hB
    obtain ⟨⟨h1, h2⟩, h3⟩ := hB
    have hr : i ∈ Region.ready md ops listed := by simpa using h1
    obtain ⟨_, o, ho, _⟩ := mem_ready.1 hr
    have ho' : ops.toList[i]? = some o := by simpa using ho
    simp only [MT.fill, ho'] at h
    unfold wpTree at h
    by_cases hw : Region.wanted o (yielded ops a.tmps) = true
    · rw [if_pos hw] at h
      obtain ⟨v, hv, h⟩ := h
      exact wpAnyH_take ho hsel h2 h1 (fun c a w hc => hQ c _ _ w hc) (Or.inl ⟨hw, hv⟩) hS (wpAnyH_of_tree hsel hQ r _ _ _ hS h3 h)
    · rw [if_neg hw] at h
      exact wpAnyH_take ho hsel h2 h1 (fun c a w hc => hQ c _ _ w hc) (Or.inr ⟨by simpa using hw, rfl⟩) hS (wpAnyH_of_tree hsel hQ r _ _ _ hS h3 h)
  | .one i r, listed, a, w, hS, hB, h => by
    simp only [Region.treeB, Bool.and_eq_true, decide_eq_true_eq] at hB
    obtain ⟨h1, h3⟩ := hB
    refine wpAnyH_all h1 (by simp) (fun k hk => ?_)
    obtain rfl : k = i := by simpa using hk
    have hr : k ∈ Region.ready md ops listed := by rw [h1]; simp
    obtain ⟨_, o, ho, _⟩ := mem_ready.1 hr
    have ho' : ops.toList[k]? = some o := by simpa using ho
    simp only [MT.fill, ho'] at h
    unfold wpTree at h
    refine wpOp_step ho (fun K' hK => ?_)
    by_cases hw : Region.wanted o (yielded ops a.tmps) = true
    · rw [if_pos hw] at h ⊢
      exact Oper.wp_mono (fun a' w' ⟨hS', h'⟩ => hK a' w' ⟨hS', wpAnyH_of_tree hsel hQ r _ _ _ hS' h3 h'⟩) h
    · rw [if_neg hw] at h ⊢
      exact hK _ _ ⟨hS, wpAnyH_of_tree hsel hQ r _ _ _ hS h3 h⟩
  | .two i r j s, listed, a, w, hS, hB, h => by
    simp only [Region.treeB, Bool.and_eq_true, decide_eq_true_eq] at hB
    obtain ⟨⟨⟨h1, hd⟩, h3⟩, h4⟩ := hB
    have hi : i ∈ Region.ready md ops listed := by rw [h1]; simp
    have hj : j ∈ Region.ready md ops listed := by rw [h1]; simp
    obtain ⟨_, o, ho, _⟩ := mem_ready.1 hi
    obtain ⟨_, p, hp, _⟩ := mem_ready.1 hj
    have ho' : ops.toList[i]? = some o := by simpa using ho
    have hp' : ops.toList[j]? = some p := by simpa using hp
    simp only [MT.fill, ho', hp'] at h
    unfold wpTree at h
    refine wpAnyH_all h1 (by simp) (fun k hk => ?_)
    have hk : k = i ∨ k = j := by simpa using hk
    rcases hk with rfl | rfl
    · refine wpOp_step ho (fun K' hK => ?_)
      have h := h.1
      by_cases hw : Region.wanted o (yielded ops a.tmps) = true
      · rw [if_pos hw] at h ⊢
        exact Oper.wp_mono (fun a' w' ⟨hS', h'⟩ => hK a' w' ⟨hS', wpAnyH_of_tree hsel hQ r _ _ _ hS' h3 h'⟩) h
      · rw [if_neg hw] at h ⊢
        exact hK _ _ ⟨hS, wpAnyH_of_tree hsel hQ r _ _ _ hS h3 h⟩
    · refine wpOp_step hp (fun K' hK => ?_)
      have h := h.2
      by_cases hw : Region.wanted p (yielded ops a.tmps) = true
      · rw [if_pos hw] at h ⊢
        exact Oper.wp_mono (fun a' w' ⟨hS', h'⟩ => hK a' w' ⟨hS', hd ▸ wpAnyH_of_tree hsel hQ s _ _ _ hS' h4 h'⟩) h
      · rw [if_neg hw] at h ⊢
        exact hK _ _ ⟨hS, hd ▸ wpAnyH_of_tree hsel hQ s _ _ _ hS h4 h⟩

/-- **The law.** -/
theorem wp_region_tree {id : Nat} {a : Act} {w : World} {l : List Oper} (S : World → Prop) (t : MT) (hm : P.follows .mixedOrders = true)
    (hB : (Region.noSelect l.toArray && decide (t.depth = l.length) && Region.treeB .any l.toArray t (Array.replicate l.length false)) = true) (hS : S w.drew)
    (h : wpTree P l.toArray (NoPanic Q) S (t.fill l) a w.drew) : (Code.region id l.toArray true).wp P Q a w := by
  simp only [Bool.and_eq_true, decide_eq_true_eq] at hB
  obtain ⟨⟨h1, h2⟩, h3⟩ := hB
  refine wp_region_noPanic (wp_region_held (S := S) hm ?_)
  have := wpAnyH_of_tree (P := P) (Q := NoPanic Q) (S := S) h1 (fun c a a' w hc => by exact hc.elim) t _ a w.drew hS h3 (by simpa using h)
  rw [h2] at this
  simpa using this
end
end Go.Proofs.Ytkmchbmajfmbhaa
