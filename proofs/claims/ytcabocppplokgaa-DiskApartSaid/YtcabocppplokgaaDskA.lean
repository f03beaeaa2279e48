/-
  Layer 3: a disk in memory.
-/
import Derived.Test.YtcabocppplokgaaOwn
import Derived.Test.YtcabocppplokgaaFp
import Derived.Test.YtcabocppplokgaaMapL
import Derived.Lib.OwnKind
namespace Go.Proofs.Ytcabocppplokgaa
open Go.RowKit

/-- a sector's bytes -/
abbrev Sec := List UInt8
/-- sectors as cells -/
def secv (l : List Sec) : List Value := l.flatMap bv
theorem secv_append (a b : List Sec) : secv (a ++ b) = secv a ++ secv b := by simp [secv]
theorem secv_cons (s : Sec) (l : List Sec) : secv (s :: l) = bv s ++ secv l := by simp [secv]
theorem secv_length : ∀ (l : List Sec), (∀ s ∈ l, s.length = 64) → (secv l).length = l.length * 64
  | [], _ => rfl
  | s :: l, h => by
    rw [secv_cons, List.length_append, bv_length, h s (by simp), secv_length l (fun t ht => h t (by simp [ht])), List.length_cons]
    omega
theorem secv_take : ∀ (l : List Sec) (i : Nat), (∀ s ∈ l, s.length = 64) → (secv l).take (i * 64) = secv (l.take i)
  | [], i, _ => by simp [secv]
  | s :: l, 0, _ => by simp [secv]
  | s :: l, i + 1, h => by
    have hs : (bv s).length = 64 := by rw [bv_length]; exact h s (by simp)
    rw [secv_cons, List.take_succ_cons, secv_cons, show (i + 1) * 64 = (bv s).length + i * 64 by omega, List.take_length_add_append, secv_take l i (fun t ht => h t (by simp [ht]))]
theorem secv_drop : ∀ (l : List Sec) (i : Nat), (∀ s ∈ l, s.length = 64) → (secv l).drop (i * 64) = secv (l.drop i)
  | [], i, _ => by simp [secv]
  | s :: l, 0, _ => by simp [secv]
  | s :: l, i + 1, h => by
    have hs : (bv s).length = 64 := by rw [bv_length]; exact h s (by simp)
    rw [secv_cons, List.drop_succ_cons, show (i + 1) * 64 = (bv s).length + i * 64 by omega, List.drop_length_add_append, secv_drop l i (fun t ht => h t (by simp [ht]))]
theorem secv_at (l : List Sec) (h : ∀ s ∈ l, s.length = 64) (i : Nat) (hi : i < l.length) (j : Nat) (u : Value) (hu : (bv l[i])[j]? = some u) : (secv l)[i * 64 + j]? = some u := by
  have : (secv l)[i * 64 + j]? = ((secv l).drop (i * 64))[j]? := by rw [List.getElem?_drop]
  rw [this, secv_drop l i h, List.drop_eq_getElem_cons hi, secv_cons]
  have hj : j < (bv l[i]).length := by
    rcases Nat.lt_or_ge j (bv l[i]).length with h' | h'
    · exact h'
    · rw [List.getElem?_eq_none h'] at hu; cases hu
  rw [List.getElem?_append_left hj]
  exact hu
theorem secv_one (l : List Sec) : ∀ u ∈ secv l, u.oneCell' = true := by
  intro u hu
  obtain ⟨s, _, hs⟩ := List.mem_flatMap.1 hu
  exact bv_one s u hs
theorem secv_set (l : List Sec) (h : ∀ s ∈ l, s.length = 64) (i : Nat) (hi : i < l.length) (s : Sec) : (secv l).take (i * 64) ++ bv s ++ (secv l).drop (i * 64 + 64) = secv (l.set i s) := by
  rw [show i * 64 + 64 = (i + 1) * 64 by omega, secv_take l i h, secv_drop l (i + 1) h, List.set_eq_take_append_cons_drop, if_pos hi, secv_append, secv_cons, List.append_assoc]

/-- a slice of sectors of our own -/
def SecRow (w : World) (v : Value) (l : List Sec) : Prop := w.ownsRow 0 65 64 v l.length (secv l)
theorem SecRow.touch {w w' : World} {v : Value} {l : List Sec} {F : Nat → Prop} (h : SecRow w v l) (ht : Touch F w w') (hn : ∀ k, v.ownBlock = some k → ¬ F k) : SecRow w' v l := by
  rcases h with ⟨h1, h2⟩
  refine ⟨h1, ?_⟩
  rcases h2 with h2 | ⟨g, cap, cur, rfl, hb, hg, h3⟩
  · exact .inl h2
  · exact .inr ⟨g, cap, cur, rfl, hb, (ht.block g (lt_of_block hg) (hn g rfl)).trans hg, h3⟩
theorem SecRow.kind {w : World} {v : Value} {l : List Sec} (h : SecRow w v l) {k : Nat} (e : v.ownBlock = some k) : ∃ c fz, w.heap[k]? = some (.cells c 65 fz) := Lib.ownsRow_kind h k e
theorem SecRow.open {w : World} {v : Value} {l : List Sec} (h : SecRow w v l) (hl : l ≠ []) : ∃ g cap cur, v = .slice (some ⟨g, 0, none⟩) l.length cap ∧ w.heap[g]? = some (.cells cur 65 (0, 0)) ∧ l.length ≤ cap ∧ cap ≤ maxLen ∧ cur.size = cap * 64 ∧ cur.toList.take (l.length * 64) = secv l := by
  rcases h with ⟨h1, h2⟩
  rcases h2 with ⟨_, h2⟩ | ⟨g, cap, cur, rfl, hb, hg, h3, h4, h5, h6⟩
  · exact absurd (List.eq_nil_of_length_eq_zero h2) hl
  · exact ⟨g, cap, cur, rfl, hg, h3, h4, h5, h6⟩
theorem SecRow.cell {w : World} {g n cap : Nat} {l : List Sec} (h : SecRow w (.slice (some ⟨g, 0, none⟩) n cap) l) (h64 : ∀ s ∈ l, s.length = 64) (i : Nat) (hi : i < l.length) : ∀ j u, (bv l[i])[j]? = some u → w.cell? ⟨g, i * 64 + j, none⟩ = some u := by
  intro j u hu
  have := World.ownsRow.cells h (g := g) rfl (i * 64 + j) u (secv_at l h64 i hi j u hu)
  have e : (⟨g, 0, none⟩ : Addr).add (i * 64 + j) = ⟨g, i * 64 + j, none⟩ := by unfold Addr.add; split <;> simp_all
  rw [e] at this
  exact this
theorem splice_take (cur : List Value) (m a : Nat) (b : List Value) (h1 : a + b.length ≤ m) (h2 : m ≤ cur.length) :
    (cur.take a ++ b ++ cur.drop (a + b.length)).take m = (cur.take m).take a ++ b ++ (cur.take m).drop (a + b.length) := by
  have hl : (cur.take a ++ b).length = a + b.length := by rw [List.length_append, List.length_take]; omega
  rw [List.take_append, hl, List.take_of_length_le (by omega), List.take_take, List.drop_take, Nat.min_eq_left (by omega)]
/-- one sector is set -/
theorem SecRow.set {w : World} {g n cap : Nat} {l : List Sec} (h : SecRow w (.slice (some ⟨g, 0, none⟩) n cap) l) (h64 : ∀ s ∈ l, s.length = 64) (i : Nat) (hi : i < l.length) (s : Sec) (hs : s.length = 64) :
    ∃ cur, w.heap[g]? = some (.cells cur 65 (0, 0)) ∧ i * 64 + 64 ≤ cur.size ∧ SecRow (w.setRow g (cur.toList.take (i * 64) ++ bv s ++ cur.toList.drop (i * 64 + 64)).toArray) (.slice (some ⟨g, 0, none⟩) n cap) (l.set i s) := by
  rcases h with ⟨h1, h2⟩
  rcases h2 with ⟨h2, _⟩ | ⟨g', cap', cur, hv, hb, hg, h3, h4, h5, h6⟩
  · cases h2
  · simp only [Value.slice.injEq, Option.some.injEq, Addr.mk.injEq, and_true] at hv
    obtain ⟨rfl, rfl, rfl⟩ := hv
    have hcl : cur.toList.length = cap * 64 := by simpa using h5
    have hsl : (secv l).length = l.length * 64 := h1
    have hbs : (bv s).length = 64 := by rw [bv_length, hs]
    refine ⟨cur, hg, by omega, ?_, .inr ⟨g, cap, _, by rw [List.length_set], hb, setRow_heap w g cur _ _ _ hg, by rw [List.length_set]; exact h3, h4, ?_, ?_⟩⟩
    · refine secv_length _ (fun t ht => ?_)
      rcases List.mem_or_eq_of_mem_set ht with h | h
      · exact h64 t h
      · rw [h, hs]
    · simp only [List.size_toArray, List.length_append, List.length_take, List.length_drop, hbs]
      omega
    · rw [← secv_set l h64 i hi s, ← h6, List.length_set]
      show (cur.toList.take (i * 64) ++ bv s ++ cur.toList.drop (i * 64 + 64)).take (l.length * 64) = _
      have := splice_take cur.toList (l.length * 64) (i * 64) (bv s) (by omega) (by omega)
      rw [hbs] at this
      exact this

/-- a disk: each sector's bytes: what is safe, what is pending; calls; for which call it is armed; whether it is down -/
structure Dk where
  S : List (List Sec)
  calls : Int
  armed : Int
  down : Bool
/-- what is pending of a sector -/
def pend (S : List (List Sec)) (i : Nat) : List Sec := (S.getD i []).tail
/-- sectors that have pending ones -/
def dirt (S : List (List Sec)) : List Nat := (List.range S.length).filter fun i => decide (pend S i ≠ [])
/-- sectors of sizes as they ought to be -/
def secOk (S : List (List Sec)) : Prop := 1 ≤ S.length ∧ S.length ≤ 4096 ∧ ∀ L ∈ S, L ≠ [] ∧ ∀ s ∈ L, s.length = 64
/-- what the map has -/
def nowF (S : List (List Sec)) (V : Nat → Value) : Lit → Option Value
  | .int .i64 i => if 0 ≤ i ∧ pend S i.toNat ≠ [] then some (V i.toNat) else none
  | _ => none
theorem pend_far (S : List (List Sec)) (i : Nat) (h : S.length ≤ i) : pend S i = [] := by
  unfold pend
  rw [List.getD_eq_getElem?_getD, List.getElem?_eq_none h]
  rfl
theorem pend_lt {S : List (List Sec)} {i : Nat} (h : pend S i ≠ []) : i < S.length := by
  rcases Nat.lt_or_ge i S.length with h' | h'
  · exact h'
  · exact absurd (pend_far S i h') h
theorem pend_sec {S : List (List Sec)} (ok : secOk S) (i : Nat) : ∀ s ∈ pend S i, s.length = 64 := by
  intro s hs
  have hne : pend S i ≠ [] := fun e => by rw [e] at hs; cases hs
  have hi := pend_lt hne
  unfold pend at hs
  rw [List.getD_eq_getElem?_getD, List.getElem?_eq_getElem hi] at hs
  exact (ok.2.2 S[i] (List.getElem_mem hi)).2 s (List.mem_of_mem_tail hs)
/-- what is safe -/
def safes (S : List (List Sec)) : List Sec := S.map (·.headD [])
theorem safes_length (S : List (List Sec)) : (safes S).length = S.length := by simp [safes]
theorem safes_sec {S : List (List Sec)} (ok : secOk S) : ∀ s ∈ safes S, s.length = 64 := by
  intro s hs
  obtain ⟨L, hL, rfl⟩ := List.mem_map.1 hs
  obtain ⟨h1, h2⟩ := ok.2.2 L hL
  cases L with
  | nil => exact absurd rfl h1
  | cons a r => exact h2 a (by simp)

/-- the disk at p -/
structure DiskAt (w : World) (p sb mb cs : Nat) (V : Nat → Value) (st : Dk) : Prop where
  blk : w.heap[p]? = some (.cells #[.slice (some ⟨sb, 0, none⟩) st.S.length cs, .map (some mb), .int .i64 st.calls, .int .i64 st.armed, .bool st.down] 61 (0, 0))
  safe : SecRow w (.slice (some ⟨sb, 0, none⟩) st.S.length cs) (safes st.S)
  map : MapL Try.prog 3 w mb (nowF st.S V) (dirt st.S).length
  rows : ∀ i, pend st.S i ≠ [] → SecRow w (V i) (pend st.S i)
  apart : ∀ i j, i ≠ j → pend st.S i ≠ [] → pend st.S j ≠ [] → (V i).ownBlock ≠ (V j).ownBlock
  apartS : ∀ i, pend st.S i ≠ [] → (V i).ownBlock ≠ some sb
  ok : secOk st.S
  arm : 0 ≤ st.armed ∧ st.armed ≤ 9223372036854775807
/-- its blocks -/
def dfoot (p sb mb : Nat) (V : Nat → Value) (S : List (List Sec)) (k : Nat) : Prop := k = p ∨ k = sb ∨ k = mb ∨ ∃ i, pend S i ≠ [] ∧ (V i).ownBlock = some k
def Disk (w : World) (p : Nat) (F : Nat → Prop) (st : Dk) : Prop := ∃ sb mb cs V, DiskAt w p sb mb cs V st ∧ ∀ k, F k ↔ dfoot p sb mb V st.S k

theorem row_block {w : World} {v : Value} {l : List Sec} (h : SecRow w v l) (hl : l ≠ []) : ∃ k c fz, v.ownBlock = some k ∧ w.heap[k]? = some (.cells c 65 fz) := by
  obtain ⟨g, cap, cur, rfl, hg, _⟩ := h.open hl
  exact ⟨g, cur, _, rfl, hg⟩
section
variable {w : World} {p sb mb cs : Nat} {V : Nat → Value} {st : Dk}
theorem DiskAt.sbk (h : DiskAt w p sb mb cs V st) : ∃ c fz, w.heap[sb]? = some (.cells c 65 fz) := h.safe.kind rfl
theorem DiskAt.ne1 (h : DiskAt w p sb mb cs V st) : p ≠ sb := by
  rintro rfl
  obtain ⟨c, fz, hc⟩ := h.sbk
  rw [h.blk] at hc
  simp at hc
theorem DiskAt.ne2 (h : DiskAt w p sb mb cs V st) : p ≠ mb := by
  rintro rfl
  obtain ⟨es, c, hm⟩ := h.map.obj
  rw [h.blk] at hm
  cases hm
theorem DiskAt.ne3 (h : DiskAt w p sb mb cs V st) : sb ≠ mb := by
  rintro rfl
  obtain ⟨c, fz, hc⟩ := h.sbk
  obtain ⟨es, cl, hm⟩ := h.map.obj
  rw [hc] at hm
  cases hm
theorem DiskAt.rowNe (h : DiskAt w p sb mb cs V st) {i k : Nat} (hi : pend st.S i ≠ []) (e : (V i).ownBlock = some k) : k ≠ p ∧ k ≠ sb ∧ k ≠ mb ∧ k < w.heap.size := by
  obtain ⟨c, fz, hc⟩ := (h.rows i hi).kind e
  refine ⟨?_, ?_, ?_, lt_of_block hc⟩
  · rintro rfl
    rw [h.blk] at hc
    simp at hc
  · rintro rfl
    exact h.apartS i hi e
  · rintro rfl
    obtain ⟨es, cl, hm⟩ := h.map.obj
    rw [hc] at hm
    cases hm
theorem DiskAt.lt (h : DiskAt w p sb mb cs V st) (k : Nat) (hk : dfoot p sb mb V st.S k) : k < w.heap.size := by
  rcases hk with rfl | rfl | rfl | ⟨i, hi, e⟩
  · exact lt_of_block h.blk
  · obtain ⟨c, fz, hc⟩ := h.sbk; exact lt_of_block hc
  · exact h.map.lt
  · exact (h.rowNe hi e).2.2.2
theorem DiskAt.touch {w' : World} {G : Nat → Prop} (h : DiskAt w p sb mb cs V st) (ht : Touch G w w') (hn : ∀ k, dfoot p sb mb V st.S k → ¬ G k) : DiskAt w' p sb mb cs V st where
  blk := (ht.block p (lt_of_block h.blk) (hn p (.inl rfl))).trans h.blk
  safe := h.safe.touch ht (fun k e => by cases e; exact hn sb (.inr (.inl rfl)))
  map := h.map.same (ht.block mb h.map.lt (hn mb (.inr (.inr (.inl rfl)))))
  rows := fun i hi => (h.rows i hi).touch ht (fun k e => hn k (.inr (.inr (.inr ⟨i, hi, e⟩))))
  apart := h.apart
  apartS := h.apartS
  ok := h.ok
  arm := h.arm
end
theorem Disk.lt {w : World} {p : Nat} {F : Nat → Prop} {st : Dk} (h : Disk w p F st) (k : Nat) (hk : F k) : k < w.heap.size := by
  obtain ⟨sb, mb, cs, V, hd, hF⟩ := h
  exact hd.lt k ((hF k).1 hk)
theorem Disk.touch {w w' : World} {p : Nat} {F G : Nat → Prop} {st : Dk} (h : Disk w p F st) (ht : Touch G w w') (hn : ∀ k, F k → ¬ G k) : Disk w' p F st := by
  obtain ⟨sb, mb, cs, V, hd, hF⟩ := h
  exact ⟨sb, mb, cs, V, hd.touch ht (fun k hk => hn k ((hF k).2 hk)), hF⟩
theorem Disk.below {w w' : World} {p : Nat} {F : Nat → Prop} {st : Dk} (h : Disk w p F st) (hb : Below w.heap.size w w') : Disk w' p F st :=
  h.touch (Touch.ofBelow (fun _ => False) hb) (fun _ _ hf => hf)
theorem Disk.drew {w : World} {p : Nat} {F : Nat → Prop} {st : Dk} (h : Disk w p F st) : Disk w.drew p F st := h.touch (Touch.refl (fun _ => False) w).drew (fun _ _ hf => hf)
theorem Disk.own {w : World} {p : Nat} {F : Nat → Prop} {st : Dk} (h : Disk w p F st) : F p := by
  obtain ⟨sb, mb, cs, V, hd, hF⟩ := h
  exact (hF p).2 (.inl rfl)
end Go.Proofs.Ytcabocppplokgaa
