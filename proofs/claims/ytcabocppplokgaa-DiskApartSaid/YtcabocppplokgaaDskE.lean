/-
  Layer 3: one more is pending; one sector is settled (plain).
-/
import Derived.Test.YtcabocppplokgaaDskD
namespace Go.Proofs.Ytcabocppplokgaa
open Go.RowKit

theorem filt_same (P Q : Nat → Bool) : ∀ n, (∀ j, j < n → Q j = P j) → (List.range n).filter Q = (List.range n).filter P := fun _ h =>
  List.filter_congr (fun j hj => h j (List.mem_range.1 hj))
theorem filt_more (P Q : Nat → Bool) (i : Nat) (hP : P i = false) (hQ : Q i = true) (hne : ∀ j, j ≠ i → Q j = P j) : ∀ n, i < n → ((List.range n).filter Q).length = ((List.range n).filter P).length + 1
  | 0, h => absurd h (by omega)
  | n + 1, h => by
    rw [List.range_succ, List.filter_append, List.filter_append, List.length_append, List.length_append]
    by_cases hn : n = i
    · subst hn
      rw [filt_same P Q n (fun j hj => hne j (by omega))]
      simp [hP, hQ]
    · have := filt_more P Q i hP hQ hne n (by omega)
      rw [this, hne' hne hn]
      omega
where
  hne' {P Q : Nat → Bool} {i n : Nat} (hne : ∀ j, j ≠ i → Q j = P j) (hn : ¬ n = i) : ([n].filter Q).length = ([n].filter P).length := by
    rw [List.filter_congr (fun j hj => hne j (by rw [List.mem_singleton.1 hj]; exact hn))]

/-- a sector's bytes are set -/
def putS (S : List (List Sec)) (i : Nat) (L : List Sec) : List (List Sec) := S.set i L
theorem putS_length (S : List (List Sec)) (i : Nat) (L : List Sec) : (putS S i L).length = S.length := List.length_set
theorem pend_put {S : List (List Sec)} {i : Nat} (hi : i < S.length) (L : List Sec) (j : Nat) : pend (putS S i L) j = if j = i then L.tail else pend S j := by
  unfold pend putS
  rw [List.getD_eq_getElem?_getD, List.getElem?_set]
  by_cases h : i = j
  · subst h
    rw [if_pos rfl, if_pos hi, if_pos rfl]
    rfl
  · rw [if_neg h, if_neg (fun e => h e.symm), List.getD_eq_getElem?_getD]
theorem safes_put (S : List (List Sec)) (i : Nat) (L : List Sec) : safes (putS S i L) = (safes S).set i (L.headD []) := by
  unfold safes putS
  rw [List.map_set]
theorem secOk_put {S : List (List Sec)} (ok : secOk S) (i : Nat) {L : List Sec} (hL : L ≠ []) (h64 : ∀ s ∈ L, s.length = 64) : secOk (putS S i L) := by
  refine ⟨by rw [putS_length]; exact ok.1, by rw [putS_length]; exact ok.2.1, fun M hM => ?_⟩
  rcases List.mem_or_eq_of_mem_set hM with h | h
  · exact ok.2.2 M h
  · rw [h]; exact ⟨hL, h64⟩
theorem dirt_same {S T : List (List Sec)} (hl : T.length = S.length) (h : ∀ j, pend T j ≠ [] ↔ pend S j ≠ []) : dirt T = dirt S := by
  unfold dirt
  rw [hl]
  exact filt_same _ _ _ (fun j _ => decide_eq_decide.2 (h j))
theorem dirt_more {S T : List (List Sec)} {i : Nat} (hl : T.length = S.length) (hi : i < S.length) (h1 : pend S i = []) (h2 : pend T i ≠ []) (h : ∀ j, j ≠ i → pend T j = pend S j) : (dirt T).length = (dirt S).length + 1 := by
  unfold dirt
  rw [hl]
  exact filt_more _ _ i (by simp [h1]) (by simp [h2]) (fun j hj => by rw [h j hj]) _ hi

/-- one more is pending -/
def pushS (S : List (List Sec)) (i : Nat) (f : Sec) : List (List Sec) := putS S i (S.getD i [] ++ [f])
theorem getD_ok {S : List (List Sec)} (ok : secOk S) {i : Nat} (hi : i < S.length) : S.getD i [] ≠ [] ∧ ∀ s ∈ S.getD i [], s.length = 64 := by
  rw [List.getD_eq_getElem?_getD, List.getElem?_eq_getElem hi]
  exact ok.2.2 S[i] (List.getElem_mem hi)
theorem pend_push {S : List (List Sec)} (ok : secOk S) {i : Nat} (hi : i < S.length) (f : Sec) (j : Nat) : pend (pushS S i f) j = if j = i then pend S i ++ [f] else pend S j := by
  unfold pushS
  rw [pend_put hi]
  split
  · unfold pend
    exact List.tail_append_of_ne_nil (getD_ok ok hi).1
  · rfl
theorem safes_push {S : List (List Sec)} (ok : secOk S) {i : Nat} (hi : i < S.length) (f : Sec) : safes (pushS S i f) = safes S := by
  unfold pushS
  rw [safes_put]
  have h1 : (S.getD i [] ++ [f]).headD [] = (safes S)[i]'(by rw [safes_length]; exact hi) := by
    have hg := (getD_ok ok hi).1
    rw [List.getD_eq_getElem?_getD, List.getElem?_eq_getElem hi] at hg ⊢
    simp only [Option.getD_some, safes, List.getElem_map] at hg ⊢
    cases hL : S[i] with
    | nil => exact absurd hL hg
    | cons a r => rfl
  rw [h1, List.set_getElem_self]
theorem secOk_push {S : List (List Sec)} (ok : secOk S) {i : Nat} (hi : i < S.length) {f : Sec} (hf : f.length = 64) : secOk (pushS S i f) :=
  secOk_put ok i (by simp) (fun s hs => by
    rcases List.mem_append.1 hs with h | h
    · exact (getD_ok ok hi).2 s h
    · rw [List.mem_singleton.1 h]; exact hf)
theorem nowF_push {S : List (List Sec)} (ok : secOk S) {i : Nat} (hi : i < S.length) (f : Sec) (V : Nat → Value) (v : Value) (l : Lit) (hl : WideAt.IsKeyLit l) :
    nowF (pushS S i f) (fun j => if j = i then v else V j) l = setF (nowF S V) (.int .i64 i) v l := by
  unfold setF
  by_cases e : l = .int .i64 i
  · subst e
    rw [if_pos (WideAt.sameKey_self hl)]
    unfold nowF
    simp only [Int.toNat_natCast]
    rw [if_pos ⟨Int.natCast_nonneg _, by rw [pend_push ok hi, if_pos rfl]; simp⟩, if_pos trivial]
  · rw [if_neg (by rw [Maps.sameKey_ne e]; simp)]
    cases l with
    | int k n =>
      cases k with
      | i64 =>
        unfold nowF
        simp only
        by_cases h0 : 0 ≤ n
        · have hne : n.toNat ≠ i := fun h => e (by rw [← h, Int.toNat_of_nonneg h0])
          rw [pend_push ok hi, if_neg hne, if_neg hne]
        · rw [if_neg (fun h => h0 h.1), if_neg (fun h => h0 h.1)]
      | _ => rfl
    | _ => rfl

theorem disk_push {w0 wP wF : World} {p sb mb cs : Nat} {V : Nat → Value} {st : Dk} {i : Nat} {f : Sec} {v v' : Value} {B : Nat}
    (hd : DiskAt w0 p sb mb cs V st) (hi : i < st.S.length) (hf : f.length = 64) (hv : v = if pend st.S i ≠ [] then V i else .slice none 0 0)
    (ht : Touch (fun k => v.ownBlock = some k) w0 wP) (hr : SecRow wP v' (pend st.S i ++ [f])) (hpl : v'.ownBlock = v.ownBlock ∨ ∀ k, v'.ownBlock = some k → B ≤ k) (hB : w0.heap.size ≤ B)
    (hm : MapL Try.prog 3 wF mb (setF (nowF st.S V) (.int .i64 i) v') (if (nowF st.S V (.int .i64 i)).isSome then (dirt st.S).length else (dirt st.S).length + 1)) (hg : wP.grownBy wF (some mb)) :
    DiskAt wF p sb mb cs (fun j => if j = i then v' else V j) ⟨pushS st.S i f, st.calls, st.armed, st.down⟩ ∧ Touch (dfoot p sb mb V st.S) w0 wF ∧
      ∀ k, dfoot p sb mb (fun j => if j = i then v' else V j) (pushS st.S i f) k → dfoot p sb mb V st.S k ∨ w0.heap.size ≤ k := by
  have ok := hd.ok
  have hlen : (pushS st.S i f).length = st.S.length := putS_length _ _ _
  -- the old slice's block
  have hvk : ∀ k, v.ownBlock = some k → dfoot p sb mb V st.S k ∧ k ≠ p ∧ k ≠ sb ∧ k ≠ mb ∧ ∃ hp : pend st.S i ≠ [], (V i).ownBlock = some k := fun k e => by
    rw [hv] at e
    by_cases hp : pend st.S i ≠ []
    · rw [if_pos hp] at e
      have := hd.rowNe hp e
      exact ⟨.inr (.inr (.inr ⟨i, hp, e⟩)), this.1, this.2.1, this.2.2.1, hp, e⟩
    · rw [if_neg hp] at e; cases e
  -- the new slice's block
  have hne' : pend st.S i ++ [f] ≠ [] := by simp
  obtain ⟨k0, c0, fz0, hk0, hkc⟩ := row_block hr hne'
  have hk0ne : k0 ≠ p ∧ k0 ≠ sb ∧ k0 ≠ mb ∧ (dfoot p sb mb V st.S k0 ∨ w0.heap.size ≤ k0) ∧ ∀ j, j ≠ i → pend st.S j ≠ [] → (V j).ownBlock ≠ some k0 := by
    rcases hpl with e | e
    · obtain ⟨h1, h2, h3, h4, hp, h5⟩ := hvk k0 (by rw [← e]; exact hk0)
      exact ⟨h2, h3, h4, .inl h1, fun j hj hpj ej => hd.apart j i hj hpj hp (by rw [ej, h5])⟩
    · have h1 := e k0 hk0
      have h2 : ∀ k, dfoot p sb mb V st.S k → k ≠ k0 := fun k hk ek => by have := hd.lt k hk; omega
      exact ⟨fun e => h2 p (.inl rfl) e.symm, fun e => h2 sb (.inr (.inl rfl)) e.symm, fun e => h2 mb (.inr (.inr (.inl rfl))) e.symm, .inr (by omega), fun j _ hpj ej => h2 k0 (.inr (.inr (.inr ⟨j, hpj, ej⟩))) rfl⟩
  have htF : Touch (fun k => k = mb ∨ v.ownBlock = some k) w0 wF :=
    (ht.mono (fun k _ h => .inr h)).trans (Touch.ofGrown hg (fun k e => .inl (Option.some.inj e).symm))
  refine ⟨⟨?_, ?_, ?_, ?_, ?_, ?_, secOk_push ok hi hf, hd.arm⟩, htF.mono (fun k _ h => ?_), fun k hk => ?_⟩
  · show wF.heap[p]? = some (.cells #[.slice (some ⟨sb, 0, none⟩) (pushS st.S i f).length cs, _, _, _, _] _ _)
    rw [hlen]
    exact (htF.block p (lt_of_block hd.blk) (fun h => h.elim (fun h => hd.ne2 h) (fun h => (hvk p h).2.1 rfl))).trans hd.blk
  · show SecRow wF (.slice (some ⟨sb, 0, none⟩) (pushS st.S i f).length cs) (safes (pushS st.S i f))
    rw [hlen, safes_push ok hi]
    refine hd.safe.touch htF (fun k e h => ?_)
    cases e
    exact h.elim (fun h => hd.ne3 h) (fun h => (hvk sb h).2.2.1 rfl)
  · show MapL Try.prog 3 wF mb (nowF (pushS st.S i f) _) (dirt (pushS st.S i f)).length
    refine hm.congr (fun l hl => nowF_push ok hi f V v' l hl) ?_
    have hns : (nowF st.S V (.int .i64 i)).isSome = decide (pend st.S i ≠ []) := by
      unfold nowF
      simp only [Int.toNat_natCast]
      by_cases hp : pend st.S i ≠ []
      · rw [if_pos ⟨Int.natCast_nonneg _, hp⟩]; simp [hp]
      · rw [if_neg (fun h => hp h.2)]; simp at hp; simp [hp]
    rw [hns]
    by_cases hp : pend st.S i ≠ []
    · rw [decide_eq_true hp, if_pos rfl, dirt_same hlen]
      intro j
      rw [pend_push ok hi]
      split
      · rename_i h; subst h; simp [hp]
      · rfl
    · rw [decide_eq_false hp, if_neg (by simp)]
      exact dirt_more hlen hi (by simpa using hp) (by rw [pend_push ok hi, if_pos rfl]; simp) (fun j hj => by rw [pend_push ok hi, if_neg hj])
  · intro j hj
    show SecRow wF (if j = i then v' else V j) (pend (pushS st.S i f) j)
    replace hj : pend (pushS st.S i f) j ≠ [] := hj
    rw [pend_push ok hi] at hj ⊢
    by_cases h : j = i
    · rw [if_pos h, if_pos h]
      refine hr.touch (F := fun k => k = mb) (Touch.ofGrown hg (fun k e => (Option.some.inj e).symm)) (fun k e h => ?_)
      rw [hk0] at e
      exact hk0ne.2.2.1 (by rw [Option.some.inj e, h])
    · rw [if_neg h] at hj
      rw [if_neg h, if_neg h]
      refine (hd.rows j hj).touch htF (fun k e h2 => ?_)
      rcases h2 with h2 | h2
      · exact (hd.rowNe hj e).2.2.1 h2
      · obtain ⟨_, _, _, _, hp, h5⟩ := hvk k h2
        exact hd.apart j i h hj hp (by rw [e, h5])
  · intro a b hab ha hb
    show (if a = i then v' else V a).ownBlock ≠ (if b = i then v' else V b).ownBlock
    replace ha : pend (pushS st.S i f) a ≠ [] := ha
    replace hb : pend (pushS st.S i f) b ≠ [] := hb
    rw [pend_push ok hi] at ha hb
    by_cases h1 : a = i
    · have h2 : b ≠ i := fun e => hab (h1.trans e.symm)
      rw [if_neg h2] at hb
      rw [if_pos h1, if_neg h2, hk0]
      exact fun e => hk0ne.2.2.2.2 b h2 hb e.symm
    · rw [if_neg h1] at ha
      by_cases h2 : b = i
      · rw [if_neg h1, if_pos h2, hk0]
        exact hk0ne.2.2.2.2 a h1 ha
      · rw [if_neg h2] at hb
        rw [if_neg h1, if_neg h2]
        exact hd.apart a b hab ha hb
  · intro j hj
    show (if j = i then v' else V j).ownBlock ≠ some sb
    replace hj : pend (pushS st.S i f) j ≠ [] := hj
    rw [pend_push ok hi] at hj
    by_cases h : j = i
    · rw [if_pos h, hk0]
      exact fun e => hk0ne.2.1 (Option.some.inj e)
    · rw [if_neg h] at hj
      rw [if_neg h]
      exact hd.apartS j hj
  · rcases h with h | h
    · exact .inr (.inr (.inl h))
    · exact (hvk k h).1
  · rcases hk with h | h | h | ⟨j, hj, e⟩
    · exact .inl (.inl h)
    · exact .inl (.inr (.inl h))
    · exact .inl (.inr (.inr (.inl h)))
    · rw [pend_push ok hi] at hj
      replace e : (if j = i then v' else V j).ownBlock = some k := e
      by_cases h : j = i
      · rw [if_pos h, hk0] at e
        obtain rfl := Option.some.inj e
        exact hk0ne.2.2.2.1
      · rw [if_neg h] at hj e
        exact .inl (.inr (.inr (.inr ⟨j, hj, e⟩)))
end Go.Proofs.Ytcabocppplokgaa
