/-
  Layer 3: two disks and two references that go their own ways (plain).
-/
import Derived.Test.YtcabocppplokgaaDskP
namespace Go.Proofs.Ytcabocppplokgaa
open Go.RowKit

structure Four (w0 w : World) (p : Nat) (F : Nat → Prop) (q : Nat) (R : Nat → Prop) (st : Dk) (p2 : Nat) (F2 : Nat → Prop) (q2 : Nat) (R2 : Nat → Prop) (st2 : Dk) : Prop where
  b1 : BothLow w0 w p F q R st
  b2 : BothLow w0 w p2 F2 q2 R2 st2
  a1 : ∀ k, (F k ∨ k = q) → ¬ F2 k ∧ k ≠ q2 ∧ ¬ R2 k
  a2 : ∀ k, (F2 k ∨ k = q2) → ¬ F k ∧ k ≠ q ∧ ¬ R k
theorem Four.swap {w0 w : World} {p q p2 q2 : Nat} {F R F2 R2 : Nat → Prop} {st st2 : Dk} (h : Four w0 w p F q R st p2 F2 q2 R2 st2) : Four w0 w p2 F2 q2 R2 st2 p F q R st := ⟨h.b2, h.b1, h.a2, h.a1⟩
theorem Both.touch {w w' : World} {p q : Nat} {F R G : Nat → Prop} {st : Dk} (h : Both w p F q R st) (ht : Touch G w w') (hF : ∀ k, F k → ¬ G k) (hq : ¬ G q) (hR : ∀ k, R k → ¬ G k) : Both w' p F q R st :=
  ⟨h.disk.touch ht hF, h.ref.touch ht hq hR, h.apart⟩
theorem Four.left {w0 w w' : World} {p q p2 q2 : Nat} {F R F2 R2 : Nat → Prop} {st st2 st' : Dk} {v : Value} {e : Ending} (h : Four w0 w p F q R st p2 F2 q2 R2 st2) (hp : BothPost p F q R w st' v e w') :
    ∃ F' R', Four w0 w' p F' q R' st' p2 F2 q2 R2 st2 := by
  obtain ⟨_, F', R', h1, h2, h3, h4⟩ := hp
  have hlow : Below w0.heap.size w0 w' := h4.below h.b1.low h.b1.low.size (fun k hk => hk.elim (h.b1.hF k) (fun e => by rw [e]; exact h.b1.hq))
  have l2 : ∀ k, F2 k → k < w.heap.size := fun k hk => h.b2.both.disk.lt k hk
  have lq2 := h.b2.both.ref.ltq
  have lr2 : ∀ k, R2 k → k < w.heap.size := fun k hk => h.b2.both.ref.ltR k hk
  refine ⟨F', R', ⟨h1, hlow, fun k hk => (h2 k hk).elim (h.b1.hF k) (Nat.le_trans h.b1.low.size), h.b1.hq, fun k hk => (h3 k hk).elim (h.b1.hR k) (Nat.le_trans h.b1.low.size)⟩,
    ⟨h.b2.both.touch h4 (fun k hk hg => (h.a1 k hg).1 hk) (fun hg => (h.a1 q2 hg).2.1 rfl) (fun k hk hg => (h.a1 k hg).2.2 hk), hlow, h.b2.hF, h.b2.hq, h.b2.hR⟩, fun k hk => ?_, fun k hk => ⟨fun hf => ?_, (h.a2 k hk).2.1, fun hr => ?_⟩⟩
  · rcases hk with hk | rfl
    · rcases h2 k hk with hk | hk
      · exact h.a1 k (.inl hk)
      · exact ⟨fun hf => by have := l2 k hf; omega, fun e => by omega, fun hr => by have := lr2 k hr; omega⟩
    · exact h.a1 k (.inr rfl)
  · rcases h2 k hf with hf | hf
    · exact (h.a2 k hk).1 hf
    · rcases hk with hk | rfl
      · have := l2 k hk; omega
      · omega
  · rcases h3 k hr with hr | hr
    · exact (h.a2 k hk).2.2 hr
    · rcases hk with hk | rfl
      · have := l2 k hk; omega
      · omega
theorem Four.right {w0 w w' : World} {p q p2 q2 : Nat} {F R F2 R2 : Nat → Prop} {st st2 st' : Dk} {v : Value} {e : Ending} (h : Four w0 w p F q R st p2 F2 q2 R2 st2) (hp : BothPost p2 F2 q2 R2 w st' v e w') :
    ∃ F' R', Four w0 w' p F q R st p2 F' q2 R' st' := by
  obtain ⟨F', R', h'⟩ := h.swap.left hp
  exact ⟨F', R', h'.swap⟩
theorem Four.below {w0 w w' : World} {p q p2 q2 : Nat} {F R F2 R2 : Nat → Prop} {st st2 : Dk} (h : Four w0 w p F q R st p2 F2 q2 R2 st2) (hb : Below w.heap.size w w') : Four w0 w' p F q R st p2 F2 q2 R2 st2 :=
  ⟨h.b1.below hb, h.b2.below hb, h.a1, h.a2⟩
/-- the copy, and a reference of its own that reads what the other one reads -/
theorem four_new {w0 w w1 w2 : World} {p q p2 : Nat} {F R F2 : Nat → Prop} {st : Dk} (h : BothLow w0 w p F q R st) (hb : Below w.heap.size w w1) (hd : Disk w1 p2 F2 st) (hF2 : ∀ k, F2 k → w.heap.size ≤ k) (hb2 : Below w1.heap.size w1 w2) {q2 : Nat}
    (hq2 : w1.heap.size ≤ q2) (hr : Ref w2 q2 R st) : Four w0 w2 p F q R st p2 F2 q2 R st := by
  have h1 := (h.below hb).below hb2
  have lF : ∀ k, F k → k < w.heap.size := fun k hk => h.both.disk.lt k hk
  have lR : ∀ k, R k → k < w.heap.size := fun k hk => h.both.ref.ltR k hk
  have lq := h.both.ref.ltq
  have lF2 : ∀ k, F2 k → k < w1.heap.size := fun k hk => hd.lt k hk
  have hs := hb.size
  have h0 := h.low.size
  refine ⟨h1, ⟨⟨hd.below hb2, hr, fun hf => by have := lF2 q2 hf; omega, fun k hk hf => by have h1 := lR k hk; have h2 := hF2 k hf; omega⟩, h1.low, fun k hk => Nat.le_trans h0 (hF2 k hk), by omega, h.hR⟩, fun k hk => ?_, fun k hk => ?_⟩
  · rcases hk with hk | rfl
    · exact ⟨fun hf => by have h1 := lF k hk; have h2 := hF2 k hf; omega, fun e => by have := lF k hk; omega, fun hr => h.both.apart.2 k hr hk⟩
    · exact ⟨fun hf => by have := hF2 k hf; omega, by omega, h.both.ref.far⟩
  · rcases hk with hk | rfl
    · exact ⟨fun hf => by have h1 := lF k hf; have h2 := hF2 k hk; omega, fun e => by have := hF2 k hk; omega, fun hr => by have h1 := lR k hr; have h2 := hF2 k hk; omega⟩
    · exact ⟨fun hf => by have := lF k hf; omega, by omega, fun hr => by have := lR k hr; omega⟩
end Go.Proofs.Ytcabocppplokgaa
