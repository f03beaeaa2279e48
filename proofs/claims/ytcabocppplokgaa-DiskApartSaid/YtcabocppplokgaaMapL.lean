/-
  Maps, told as functions from what a key reads as to the value that is held.
-/
import Derived.Test.YtcabocppplokgaaBase
import Derived.Maps.OwnSet
import Derived.Maps.Views
namespace Go.Proofs.Ytcabocppplokgaa
open Go.RowKit
open Go.Maps (Keyed IsMap Tidy)

/-- an element reads as itself -/
def heldR (v : Value) : Option (DataW Value × List MemPlace) := some (.held v, [])
/-- block b is a map of n entries: from keys' readings to values -/
def MapL (P : Program) (k : TypeId) (w : World) (b : Nat) (f : Lit → Option Value) (n : Nat) : Prop :=
  ∃ D : DataW Value, w.ownsMap P k heldR b n D ∧ Maps.size D = n ∧ ∀ l : Lit, WideAt.IsKeyLit l → Maps.has D l = (f l).isSome ∧ ∀ z, D.atKey l z = match f l with | some v => .held v | none => z

section
variable {P : Program} {k e t : TypeId} {w : World} {b n : Nat} {f : Lit → Option Value}

theorem MapL.made (w : World) (P : Program) (k : TypeId) : MapL P k (w.alloc (.map #[] 0)) w.heap.size (fun _ => none) 0 :=
  ⟨.map [], World.ownsMap_made w P k heldR, rfl, fun _ _ => ⟨rfl, fun _ => rfl⟩⟩
theorem MapL.obj (h : MapL P k w b f n) : ∃ es clock, w.heap[b]? = some (.map es clock) := by
  obtain ⟨D, ⟨es, clock, hb, _⟩, _⟩ := h
  exact ⟨es, clock, hb⟩
theorem MapL.lt (h : MapL P k w b f n) : b < w.heap.size := by
  obtain ⟨D, ho, _⟩ := h
  exact ho.lt
theorem MapL.same {w' : World} (h : MapL P k w b f n) (hb : w'.heap[b]? = w.heap[b]?) : MapL P k w' b f n := by
  obtain ⟨D, ⟨es, clock, h1, h2, h3, h4⟩, h5⟩ := h
  exact ⟨D, ⟨es, clock, hb.trans h1, h2, h3, h4⟩, h5⟩
theorem MapL.congr {g : Lit → Option Value} {m : Nat} (h : MapL P k w b f n) (hg : ∀ l, WideAt.IsKeyLit l → g l = f l) (hm : m = n) : MapL P k w b g m := by
  subst hm
  obtain ⟨D, h1, h2, h3⟩ := h
  exact ⟨D, h1, h2, fun l hl => by rw [hg l hl]; exact h3 l hl⟩

theorem MapL.look (h : MapL P k w b f n) (K : Keyed P k) (ht : P.underlying t = some (.map k e)) {z : Value} (hz : (zeroValue e).run P w = .ok z w) {key : Value} {kl : Lit} (hkey : keyOf P k key = some kl) :
    (Instr.lookup t (.map (some b)) key false).run P w = .ok ((f kl).getD z) w := by
  obtain ⟨D, ho, _, hf⟩ := h
  obtain ⟨v, ps, hrun, hv⟩ := ho.lookup K ht hz (zd := .held z) (zp := []) rfl hkey
  have h2 := (hf kl (K.key hkey)).2 (.held z)
  rw [hrun]
  congr 1
  simp only [heldR, Option.some.injEq, Prod.mk.injEq] at hv
  rw [h2] at hv
  cases hfk : f kl with
  | none => rw [hfk] at hv; simpa using hv.1
  | some u => rw [hfk] at hv; simpa using hv.1
theorem MapL.look_ok (h : MapL P k w b f n) (K : Keyed P k) (ht : P.underlying t = some (.map k e)) {z : Value} (hz : (zeroValue e).run P w = .ok z w) {key : Value} {kl : Lit} (hkey : keyOf P k key = some kl) :
    (Instr.lookup t (.map (some b)) key true).run P w = .ok (.tuple #[(f kl).getD z, .bool (f kl).isSome]) w := by
  obtain ⟨D, ho, _, hf⟩ := h
  obtain ⟨v, ps, hrun, hv⟩ := ho.look_ok K ht hz (zd := .held z) (zp := []) rfl hkey
  obtain ⟨h1, h2⟩ := hf kl (K.key hkey)
  have h2 := h2 (.held z)
  rw [hrun, h1]
  simp only [heldR, Option.some.injEq, Prod.mk.injEq] at hv
  rw [h2] at hv
  cases hfk : f kl with
  | none => rw [hfk] at hv; simp at hv; simp [hv]
  | some u => rw [hfk] at hv; simp at hv; simp [hv]
theorem MapL.len (h : MapL P k w b f n) (ht : P.underlying t = some (.map k e)) (ty : TypeId) : (Builtin.len_ #[t] ty #[.map (some b)]).run P w = .ok (.int .i64 n) w := by
  obtain ⟨D, ho, hn, _⟩ := h
  have := ho.len ht ty
  rw [hn] at this
  exact this

/-- the map with one entry more, or another -/
def setF (f : Lit → Option Value) (kl : Lit) (v : Value) : Lit → Option Value := fun l => if l.sameKey kl = true then some v else f l
/-- the map with one entry less -/
def delF (f : Lit → Option Value) (kl : Lit) : Lit → Option Value := fun l => if l.sameKey kl = true then none else f l

theorem MapL.tight (h : MapL P k w b f n) (m : Nat) (hm : n ≤ m) : ∃ D, w.ownsMap P k heldR b m D ∧ Maps.size D = n ∧ ∀ l : Lit, WideAt.IsKeyLit l → Maps.has D l = (f l).isSome ∧ ∀ z, D.atKey l z = match f l with | some v => .held v | none => z := by
  obtain ⟨D, h1, h2, h3⟩ := h
  exact ⟨D, h1.mono hm, h2, h3⟩
theorem own_tight {D : DataW Value} {m : Nat} (h : w.ownsMap P k heldR b m D) : w.ownsMap P k heldR b (Maps.size D) D := by
  obtain ⟨es, clock, h1, h2, h3, rfl⟩ := h
  exact ⟨es, clock, h1, h2, by simp [Maps.size, length_sorted], rfl⟩

theorem MapL.store (h : MapL P k w b f n) (K : Keyed P k) (ht : P.underlying t = some (.map k e)) (hn : n < maxLen) {key val : Value} {kl : Lit} (hkey : keyOf P k key = some kl) :
    ∃ w', (Instr.mapUpdate t (.map (some b)) key val).run P w = .ok () w' ∧ MapL P k w' b (setF f kl val) (if (f kl).isSome then n else n + 1) ∧ w.grownBy w' (some b) := by
  obtain ⟨D, ho, hs, hf⟩ := h
  obtain ⟨w', hrun, ho', hg⟩ := ho.update K ht hn (val := val) (d := .held val) (ps := []) hkey rfl
  have hK := K.key hkey
  have htd := ho.tidy K
  have hsz : Maps.size (D.put kl (.held val)) = if (f kl).isSome then n else n + 1 := by
    rw [Maps.size_put htd, (hf kl hK).1, hs]
  refine ⟨w', hrun, ⟨D.put kl (.held val), ?_, hsz, fun l hl => ?_⟩, hg⟩
  · rw [← hsz]; exact own_tight ho'
  · unfold setF
    by_cases e : l = kl
    · subst e
      rw [if_pos (WideAt.sameKey_self hl)]
      exact ⟨by rw [Maps.has_put_same htd.isMap hl]; rfl, fun z => Maps.atKey_put_same htd.isMap hl _ z⟩
    · rw [if_neg (by rw [Maps.sameKey_ne e]; simp)]
      exact ⟨by rw [Maps.has_put_other e]; exact (hf l hl).1, fun z => by rw [Maps.atKey_put_other e]; exact (hf l hl).2 z⟩
theorem MapL.drop (h : MapL P k w b f n) (K : Keyed P k) (ht : P.underlying t = some (.map k e)) {key : Value} {kl : Lit} (hkey : keyOf P k key = some kl) (ty : TypeId) :
    ∃ w', (Builtin.delete_ #[t, k] ty #[.map (some b), key]).run P w = .ok (.tuple #[]) w' ∧ MapL P k w' b (delF f kl) (if (f kl).isSome then n - 1 else n) ∧ w.grownBy w' (some b) := by
  obtain ⟨D, ho, hs, hf⟩ := h
  obtain ⟨w', hrun, ho', hg⟩ := ho.drop K ht hkey ty
  have hK := K.key hkey
  have htd := ho.tidy K
  have hsz : Maps.size (D.del kl) = if (f kl).isSome then n - 1 else n := by
    have := Maps.size_del (k := kl) htd
    rw [(hf kl hK).1, hs] at this
    split at this <;> rename_i h1
    · rw [if_pos h1]; omega
    · rw [if_neg h1]; omega
  refine ⟨w', hrun, ⟨D.del kl, ?_, hsz, fun l hl => ?_⟩, hg.grown⟩
  · rw [← hsz]; exact own_tight ho'
  · unfold delF
    by_cases e : l = kl
    · subst e
      rw [if_pos (WideAt.sameKey_self hl)]
      exact ⟨by rw [Maps.has_del_same]; rfl, fun z => Maps.atKey_del_same z⟩
    · rw [if_neg (by rw [Maps.sameKey_ne e]; simp)]
      exact ⟨by rw [Maps.has_del_other e]; exact (hf l hl).1, fun z => by rw [Maps.atKey_del_other e]; exact (hf l hl).2 z⟩
end
end Go.Proofs.Ytcabocppplokgaa
