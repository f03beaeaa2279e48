/-
  A region that draws its order and makes variables whose addresses hang on the order: an invariant serves every order of the head; the tail comes in forced order.
-/
import Derived.Test.YtjoacoiooijnlaaQuiet
import Derived.RegionTactic
namespace Go.Proofs.Ytjoacoiooijnlaa

/-- how many of the first n are not done -/
def left : Nat → (Nat → Bool) → Nat
  | 0, _ => 0
  | n + 1, L => left n L + if L n = true then 0 else 1
/-- one more is done -/
def done1 (L : Nat → Bool) (i : Nat) : Nat → Bool := fun j => if j = i then true else L j
theorem left_far (L : Nat → Bool) (i : Nat) : ∀ n, n ≤ i → left n (done1 L i) = left n L
  | 0, _ => rfl
  | n + 1, h => by
    have hn : ¬ n = i := by omega
    simp only [left, left_far L i n (by omega), done1, if_neg hn]
theorem left_set (L : Nat → Bool) (i : Nat) (hi : L i = false) : ∀ n, i < n → left n (done1 L i) + 1 = left n L
  | 0, h => absurd h (by omega)
  | n + 1, h => by
    by_cases hn : n = i
    · subst hn
      simp only [left, left_far L n n (Nat.le_refl _)]
      simp [done1, hi]
    · have := left_set L i hi n (by omega)
      simp only [left, done1, if_neg hn] at this ⊢
      omega
theorem left_all : ∀ n, left n (fun _ => false) = n
  | 0 => rfl
  | n + 1 => by simp [left, left_all n]
theorem left_zero {L : Nat → Bool} : ∀ {n}, left n L = 0 → ∀ i, i < n → L i = true
  | 0, _, i, hi => absurd hi (by omega)
  | n + 1, h, i, hi => by
    simp only [left] at h
    by_cases hn : i = n
    · subst hn
      cases hL : L i with
      | true => rfl
      | false => rw [hL] at h; simp at h
    · exact left_zero (n := n) (by omega) i (by omega)
theorem left_pos {L : Nat → Bool} : ∀ {n}, left n L ≠ 0 → ∃ i, i < n ∧ L i = false ∧ ∀ j, j < i → L j = true
  | 0, h => absurd rfl h
  | n + 1, h => by
    by_cases hn : left n L = 0
    · refine ⟨n, by omega, ?_, left_zero hn⟩
      cases hL : L n with
      | false => rfl
      | true => simp [left, hn, hL] at h
    · obtain ⟨i, h1, h2, h3⟩ := left_pos hn
      exact ⟨i, by omega, h2, h3⟩

section
variable {P : Program} {ops : Array Oper} {md : Region.Mode}

def Region.invB (md : Region.Mode) (ops : Array Oper) (n : Nat) : Bool :=
  decide (n < ops.size) && Region.sinkB md ops n && Region.chainB md ops n && Region.seqB md ops (ops.size - n) n (Array.replicate n true ++ Array.replicate (ops.size - n) false) &&
    (List.range n).all fun i => match ops[i]? with
      | some o => o.after.all fun e => !Region.binds md e || decide (e.on < i)
      | none => true

theorem wpAny_inv {n : Nat} {Q : Exit → Act → World → Prop} {I : (Nat → Bool) → Act → World → Prop} (hn : n < ops.size) (hs : Region.sinkB md ops n = true) (hc : Region.chainB md ops n = true)
    (hq : Region.seqB md ops (ops.size - n) n (Array.replicate n true ++ Array.replicate (ops.size - n) false) = true)
    (hlow : ∀ i o, i < n → ops[i]? = some o → ∀ e ∈ o.after, Region.binds md e = true → e.on < i)
    (hstep : ∀ L a w i o, I L a w → i < n → L i = false → ops[i]? = some o → (∀ e ∈ o.after, Region.binds md e = true → L e.on = true) → wpOp P ops Q i (I (done1 L i)) a w)
    (l : List Oper) (hl : ∀ j, l[j]? = ops[n + j]?) (hll : l.length = ops.size - n)
    (hend : ∀ L a w, I L a w → (∀ i, i < n → L i = true) → wpList P ops Q l a w) :
    ∀ (f : Nat) (listed : Array Bool) (a : Act) (w : World), HeadInv md ops n listed → left n (fun j => listed.getD j false) = f → I (fun j => listed.getD j false) a w → wpAny P md ops Q (f + (ops.size - n)) listed a w := by
  intro f
  induction f with
  | zero =>
    intro listed a w inv hleft hI
    have hall := left_zero hleft
    have hlst : listed = Array.replicate n true ++ Array.replicate (ops.size - n) false := by
      apply Array.ext_getElem?
      intro j
      rcases Nat.lt_or_ge j n with hj | hj
      · have h1 := hall j hj
        have hjs : j < listed.size := by rw [inv.size]; omega
        rw [Array.getElem?_append_left (by simpa using hj)]
        simp [hjs] at h1
        simp [hjs, hj, h1]
      · rw [Array.getElem?_append_right (by simpa using hj)]
        rcases Nat.lt_or_ge j ops.size with hj2 | hj2
        · have h1 := inv.tail j hj hj2
          have hjs : j < listed.size := by rw [inv.size]; exact hj2
          simp [hjs] at h1
          have : j - n < ops.size - n := by omega
          simp [hjs, h1, this]
        · have hjs : listed.size ≤ j := by rw [inv.size]; exact hj2
          have : ¬ j - n < ops.size - n := by omega
          simp [hjs, this]
    have := wpAny_of_seq (P := P) (ops := ops) (md := md) (Q' := Q) l n listed a w hl (by rw [hll, hlst]; exact hq) (hend _ a w hI hall)
    rw [hll] at this
    rw [Nat.zero_add]
    exact this
  | succ f ih =>
    intro listed a w inv hleft hI
    rw [show f + 1 + (ops.size - n) = (f + (ops.size - n)) + 1 by omega]
    obtain ⟨i0, h1, h2, h3⟩ := left_pos (L := fun j => listed.getD j false) (n := n) (by omega)
    have hi0s : i0 < listed.size := by rw [inv.size]; omega
    have h2' : listed.getD i0 true = false := getD_in hi0s h2
    refine ⟨fun h0 => ?_, fun i hi => ?_⟩
    · obtain ⟨o, ho⟩ : ∃ o, ops[i0]? = some o := ⟨_, Array.getElem?_eq_getElem (by omega)⟩
      have : i0 ∈ Region.ready md ops listed := mem_ready.2 ⟨h2', o, ho, fun e he hb => h3 _ (hlow i0 o h1 ho e he hb)⟩
      rw [h0] at this
      cases this
    · have hin : i < n := by
        rcases Nat.lt_or_ge i n with h | h
        · exact h
        · exact absurd hi (tail_waits hs hc hn inv _ i0 rfl h1 h2' i h)
      obtain ⟨hun, o, ho, hall⟩ := mem_ready.1 hi
      have hset : (fun j => (listed.setIfInBounds i true).getD j false) = done1 (fun j => listed.getD j false) i := by
        funext j
        unfold done1
        by_cases hj : j = i
        · subst hj
          have : j < listed.size := by rw [inv.size]; omega
          simp [this]
        · rw [if_neg hj, getD_set_ne false (fun h => hj h.symm)]
      refine wpOp_mono (fun a' w' h => ?_) (hstep _ a w i o hI hin (getD_both hun) ho hall)
      refine ih _ a' w' (inv.set hi hin) ?_ (by rw [hset]; exact h)
      have := left_set (fun j => listed.getD j false) i (getD_both hun) n hin
      rw [hset]
      omega

/-- **The law.** -/
theorem wp_region_inv {id : Nat} {Q : Exit → Act → World → Prop} {a : Act} {w : World} {l : List Oper} (n : Nat) (hm : P.follows .mixedOrders = true) (hB : Region.invB .any l.toArray n = true)
    (I : Act → (Nat → Bool) → Act → World → Prop) (h0 : I a (fun _ => false) a w.drew)
    (hstep : ∀ L a' w i o, I a L a' w → i < n → L i = false → l[i]? = some o → (∀ e ∈ o.after, Region.binds .any e = true → L e.on = true) →
      ∀ K' : Act → World → Prop, (∀ a'' w'', I a (done1 L i) a'' w'' → K' a'' w'') → if Region.wanted o (yielded l.toArray a'.tmps) = true then Oper.wp P o a' w K' Q else K' (a'.put o.dst undef) w)
    (hend : ∀ L a' w, I a L a' w → (∀ i, i < n → L i = true) → wpList P l.toArray Q (l.drop n) a' w) : (Code.region id l.toArray true).wp P Q a w := by
  simp only [Region.invB, Bool.and_eq_true, decide_eq_true_eq] at hB
  obtain ⟨⟨⟨⟨hn, hs⟩, hc⟩, hq⟩, hlow⟩ := hB
  refine wp_region_any hm ?_
  have h := wpAny_inv (P := P) (md := .any) (Q := Q) (I := I a) hn hs hc hq (fun i o hi ho e he hb => by
      have h1 := List.all_eq_true.1 hlow i (List.mem_range.2 hi)
      rw [ho] at h1
      have h2 := Array.all_eq_true_iff_forall_mem.1 h1 e he
      simpa [hb] using h2)
    (fun L a w i o hI hi hL ho hd => wpOp_step ho (hstep L a w i o hI hi hL (by simpa using ho) hd)) (l.drop n) (fun j => by simp [List.getElem?_drop]) (by simp)
    hend n (Array.replicate l.toArray.size false) a w.drew
    ⟨by simp, fun j oj _ hl => (by rw [getD_replicate_false] at hl; cases hl), fun t _ ht => getD_in (by simpa using ht) (getD_replicate_false _ _)⟩
    (by rw [show (fun j => (Array.replicate l.toArray.size false).getD j false) = fun _ => false from funext fun j => getD_replicate_false _ _]; exact left_all n)
    (by rw [show (fun j => (Array.replicate l.toArray.size false).getD j false) = fun _ => false from funext fun j => getD_replicate_false _ _]; exact h0)
  rw [show n + (l.toArray.size - n) = l.toArray.size by omega] at h
  exact h
end
end Go.Proofs.Ytjoacoiooijnlaa
