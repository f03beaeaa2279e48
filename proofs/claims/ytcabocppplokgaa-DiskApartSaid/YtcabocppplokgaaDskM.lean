/-
  Layer 3: what is safe, what is dirty, what was written (plain); rows of 16; acts.
-/
import Derived.Test.YtcabocppplokgaaDskL
namespace Go.Proofs.Ytcabocppplokgaa
open Go.RowKit

/-- what a settled sector has -/
theorem settle_get (pick : Nat → List Sec → Sec) (S : List (List Sec)) (l : List Nat) (hl : l.Nodup) (hlt : ∀ i ∈ l, i < S.length) : ∀ k, k ≤ l.length → ∀ i,
    (i ∉ l.take k ∧ (settleN pick S l k).getD i [] = S.getD i []) ∨ ∃ j, j < k ∧ l.getD j 0 = i ∧ (settleN pick S l k).getD i [] = [pick j (S.getD i [])]
  | 0, _, i => .inl ⟨by simp, rfl⟩
  | k + 1, hk, i => by
    have hkl : k < l.length := hk
    have hx : l.getD k 0 = l[k] := by rw [List.getD_eq_getElem?_getD, List.getElem?_eq_getElem hkl]; rfl
    have hxs : l.getD k 0 < (settleN pick S l k).length := by rw [settleN_length, hx]; exact hlt _ (List.getElem_mem _)
    have hr := settleN_rest pick S l hl k k (Nat.le_refl _) hkl
    by_cases e : i = l.getD k 0
    · refine .inr ⟨k, by omega, e.symm, ?_⟩
      rw [settleN, hr, ← e]
      unfold putS
      rw [List.getD_eq_getElem?_getD, List.getElem?_set_self (by rw [e]; exact hxs)]
      rfl
    · have ih := settle_get pick S l hl hlt k (by omega) i
      have hp : (settleN pick S l (k + 1)).getD i [] = (settleN pick S l k).getD i [] := by rw [settleN, getD_put _ _ _ _ e]
      rw [hp]
      rcases ih with ⟨h1, h2⟩ | ⟨j, h1, h2, h3⟩
      · refine .inl ⟨?_, h2⟩
        rw [List.take_succ_eq_append_getElem hkl, List.mem_append, List.mem_singleton]
        rintro (h | h)
        · exact h1 h
        · exact e (by rw [hx]; exact h)
      · exact .inr ⟨j, by omega, h2, h3⟩
theorem settle_all (pick : Nat → List Sec → Sec) (S : List (List Sec)) (i : Nat) (hi : i < S.length) :
    (pend S i = [] ∧ (settleN pick S (dirt S) (dirt S).length).getD i [] = S.getD i []) ∨ ∃ j, (settleN pick S (dirt S) (dirt S).length).getD i [] = [pick j (S.getD i [])] := by
  rcases settle_get pick S (dirt S) (dirt_nodup S) (dirt_lt S) _ (Nat.le_refl _) i with ⟨h1, h2⟩ | ⟨j, _, _, h3⟩
  · refine .inl ⟨?_, h2⟩
    rw [List.take_length] at h1
    by_cases hp : pend S i = []
    · exact hp
    · exact absurd (List.mem_filter.2 ⟨List.mem_range.2 hi, decide_eq_true hp⟩) h1
  · exact .inr ⟨j, h3⟩
theorem single_of_pend {S : List (List Sec)} {i : Nat} (hi : i < S.length) (ok : secOk S) (h : pend S i = []) : S.getD i [] = [lastS S i] := by
  have h1 := (getD_ok ok hi).1
  unfold pend at h
  unfold lastS
  cases hL : S.getD i [] with
  | nil => exact absurd hL h1
  | cons a r =>
    rw [hL] at h
    simp only [List.tail_cons] at h
    rw [h]
    rfl
theorem flush_get {S : List (List Sec)} {i : Nat} (hi : i < S.length) (ok : secOk S) : (settleN lastOf S (dirt S) (dirt S).length).getD i [] = [lastS S i] := by
  rcases settle_all lastOf S i hi with ⟨h1, h2⟩ | ⟨j, h⟩
  · rw [h2]; exact single_of_pend hi ok h1
  · rw [h]; rfl

/-- what the law knows of a disk -/
structure Knows (st : Dk) (n : Nat) (safe : Nat → ByteArray) (dirty : Nat → Bool) (once : Nat → Sec → Prop) : Prop where
  len : st.S.length = n
  arm : st.armed = 0
  up : st.down = false
  sf : ∀ k, k < n → safe k = txt ((st.S.getD k []).headD [])
  dr : ∀ k, k < n → dirty k = decide (pend st.S k ≠ [])
  on : ∀ k, k < n → ∀ f ∈ pend st.S k, once k f
theorem Knows.new (n : Nat) : Knows ⟨List.replicate n [z64], 0, 0, false⟩ n (fun _ => txt z64) (fun _ => false) (fun _ _ => False) := by
  refine ⟨by simp, rfl, rfl, fun k hk => ?_, fun k hk => ?_, fun k hk f hf => ?_⟩
  · show txt z64 = txt (((List.replicate n [z64]).getD k []).headD [])
    rw [List.getD_eq_getElem?_getD, List.getElem?_replicate, if_pos hk]; rfl
  · show false = decide (pend (List.replicate n [z64]) k ≠ [])
    rw [pend_new]; rfl
  · have : f ∈ pend (List.replicate n [z64]) k := hf
    rw [pend_new] at this; cases this
section
variable {st : Dk} {n : Nat} {safe : Nat → ByteArray} {dirty : Nat → Bool} {once : Nat → Sec → Prop}
theorem Knows.ready (h : Knows st n safe dirty once) (k : Nat) (hk : k < n) : readyE st k = 0 := by
  unfold readyE
  rw [if_neg (by rw [h.up]; simp), if_neg (by rw [h.len]; omega)]
theorem Knows.call (h : Knows st n safe dirty once) : (callD st).down = false ∧ (callD st).armed = 0 := by
  unfold callD
  have ha := h.arm
  have hu := h.up
  exact ⟨by simp only; rw [if_neg (by omega)]; exact hu, by simp only; rw [if_neg (by omega)]; exact ha⟩
theorem Knows.read (h : Knows st n safe dirty once) (k : Nat) (hk : k < n) : readD st k = (txt (lastS st.S k), 0) := by
  unfold readD
  rw [if_pos (h.ready k hk)]
  rfl
theorem Knows.flush (h : Knows st n safe dirty once) (ok : secOk st.S) : (flushD st).1 = 0 ∧ Knows (flushD st).2 n (fun k => txt (lastS (flushD st).2.S k)) (fun _ => false) once := by
  have hn : 0 < n := by rw [← h.len]; exact ok.1
  have h0 := h.ready 0 hn
  have hc := h.call
  have e : flushD st = (0, ⟨settleN lastOf st.S (dirt st.S) (dirt st.S).length, (callD st).calls, (callD st).armed, (callD st).down⟩) := by
    unfold flushD
    rw [if_neg (by simpa using h0), if_neg (by rw [hc.1]; simp)]
  rw [e]
  have hg : ∀ k, k < n → (settleN lastOf st.S (dirt st.S) (dirt st.S).length).getD k [] = [lastS st.S k] := fun k hk => flush_get (by rw [h.len]; exact hk) ok
  refine ⟨rfl, ⟨?_, hc.2, hc.1, fun k hk => ?_, fun k hk => ?_, fun k hk f hf => ?_⟩⟩
  · show (settleN lastOf st.S _ _).length = n
    rw [settleN_length]; exact h.len
  · show txt (lastS (settleN lastOf st.S _ _) k) = txt (((settleN lastOf st.S _ _).getD k []).headD [])
    unfold lastS
    rw [hg k hk]; rfl
  · show false = decide (pend (settleN lastOf st.S _ _) k ≠ [])
    unfold pend
    rw [hg k hk]; rfl
  · have : f ∈ pend (settleN lastOf st.S (dirt st.S) (dirt st.S).length) k := hf
    unfold pend at this
    rw [hg k hk] at this; cases this
theorem Knows.write (h : Knows st n safe dirty once) (ok : secOk st.S) (k : Nat) (hk : k < n) (s : ByteArray) (hs : s.size ≤ 64) :
    (writeD st k s).1 = 0 ∧ Knows (writeD st k s).2 n safe (fun j => if j = k then true else dirty j) (fun j f => once j f ∨ (j = k ∧ f = fill s)) := by
  have h0 := h.ready k hk
  have hc := h.call
  have e : writeD st k s = (0, ⟨pushS st.S k (fill s), (callD st).calls, (callD st).armed, (callD st).down⟩) := by
    unfold writeD
    rw [if_neg (by simpa using h0), if_neg (by omega), if_neg (by rw [hc.1]; simp)]
    rfl
  rw [e]
  have hkl : k < st.S.length := by rw [h.len]; exact hk
  refine ⟨rfl, ⟨?_, hc.2, hc.1, fun j hj => ?_, fun j hj => ?_, fun j hj f hf => ?_⟩⟩
  · show (pushS st.S k (fill s)).length = n
    unfold pushS
    rw [putS_length]; exact h.len
  · show safe j = txt (((pushS st.S k (fill s)).getD j []).headD [])
    rw [h.sf j hj]
    have hjl : j < st.S.length := by rw [h.len]; exact hj
    have h1 : ∀ T : List (List Sec), j < T.length → (T.getD j []).headD [] = (safes T).getD j [] := fun T hT => by
      unfold safes
      rw [List.getD_eq_getElem?_getD, List.getD_eq_getElem?_getD, List.getElem?_map, List.getElem?_eq_getElem hT]
      rfl
    rw [h1 _ hjl, h1 _ (by unfold pushS; rw [putS_length]; exact hjl), safes_push ok hkl]
  · show (if j = k then true else dirty j) = decide (pend (pushS st.S k (fill s)) j ≠ [])
    rw [pend_push ok hkl]
    by_cases e : j = k
    · rw [if_pos e, if_pos e]; simp
    · rw [if_neg e, if_neg e]; exact h.dr j hj
  · have hf' : f ∈ pend (pushS st.S k (fill s)) j := hf
    rw [pend_push ok hkl] at hf'
    by_cases e : j = k
    · rw [if_pos e] at hf'
      rcases List.mem_append.1 hf' with h' | h'
      · exact .inl (h.on j hj f (by rw [e]; exact h'))
      · exact .inr ⟨e, List.mem_singleton.1 h'⟩
    · rw [if_neg e] at hf'
      exact .inl (h.on j hj f hf')
/-- behind a crash -/
theorem Knows.crash (h : Knows st n safe dirty once) (ok : secOk st.S) (keep : List Int) (k : Nat) (hk : k < n) :
    ∃ s, readD (crashD st keep) k = (txt s, 0) ∧ s.length = 64 ∧ (dirty k = false → txt s = safe k) ∧ (txt s = safe k ∨ once k s) := by
  have hkl : k < st.S.length := by rw [h.len]; exact hk
  obtain ⟨g1, g2⟩ := getD_ok ok hkl
  have hL : (crashD st keep).S.length = n := by
    show (settleN (crashOf keep) st.S (dirt st.S) (dirt st.S).length).length = n
    rw [settleN_length, h.len]
  have hre : readyE (crashD st keep) k = 0 := by
    unfold readyE
    rw [if_neg (by show ¬ false = true; simp), if_neg (by rw [hL]; omega)]
  have hrd : readD (crashD st keep) k = (txt (lastS (crashD st keep).S k), 0) := by
    unfold readD
    rw [if_pos hre]
    rfl
  rw [hrd]
  have hsf := h.sf k hk
  have hdr := h.dr k hk
  rcases settle_all (crashOf keep) st.S k hkl with ⟨h1, h2⟩ | ⟨j, h2⟩
  · have hl : lastS (crashD st keep).S k = lastS st.S k := by
      show (List.getD (settleN (crashOf keep) st.S (dirt st.S) (dirt st.S).length) k []).getLastD [] = _
      rw [h2]; rfl
    rw [hl]
    have hsg := single_of_pend hkl ok h1
    have hse : txt (lastS st.S k) = safe k := by rw [hsf, hsg]; rfl
    exact ⟨_, rfl, last_len hkl ok, fun _ => hse, .inl hse⟩
  · have hl : lastS (crashD st keep).S k = crashOf keep j (st.S.getD k []) := by
      show (List.getD (settleN (crashOf keep) st.S (dirt st.S) (dirt st.S).length) k []).getLastD [] = _
      rw [h2]; rfl
    rw [hl]
    have hlen := crash_len1 keep j _ g1 g2
    have hmem : ∀ M : List Sec, M ≠ [] → crashOf keep j M ∈ M := fun M hM => by
      unfold crashOf
      have hq := crashK_lt keep j M.length (List.length_pos_iff.2 hM)
      rw [List.getD_eq_getElem?_getD, List.getElem?_eq_getElem hq]
      exact List.getElem_mem _
    replace hmem := hmem _ g1
    generalize crashOf keep j (st.S.getD k []) = s at hlen hmem ⊢
    have hor : txt s = safe k ∨ once k s := by
      have hon := h.on k hk
      unfold pend at hon
      rw [hsf]
      cases hL : st.S.getD k [] with
      | nil => exact absurd hL g1
      | cons a r =>
        rw [hL] at hmem hon
        rcases List.mem_cons.1 hmem with e | e
        · exact .inl (by rw [e]; rfl)
        · exact .inr (hon s e)
    refine ⟨s, rfl, hlen, fun hd => ?_, hor⟩
    have hp : pend st.S k = [] := by
      rw [hdr] at hd
      simpa using hd
    have hsg := single_of_pend hkl ok hp
    rw [hsg] at hmem
    have e1 := List.mem_singleton.1 hmem
    rw [hsf, hsg, e1]
    rfl
end

/-- a row of values -/
def arrOf (g : Nat → Value) (n : Nat) : Array Value := ((List.range n).map g).toArray
theorem arrOf_size (g : Nat → Value) (n : Nat) : (arrOf g n).size = n := by simp [arrOf]
theorem arrOf_get (g : Nat → Value) {n i : Nat} (h : i < n) : (arrOf g n)[i]? = some (g i) := by simp [arrOf, h]
theorem arrOf_set (g : Nat → Value) (n i : Nat) (v : Value) : (arrOf g n).setIfInBounds i v = arrOf (fun j => if j = i then v else g j) n := by
  apply Array.ext_getElem?
  intro j
  by_cases hj : j < n
  · rw [arrOf_get _ hj, Array.getElem?_setIfInBounds]
    by_cases e : i = j
    · subst e
      rw [if_pos rfl, if_pos (by rw [arrOf_size]; exact hj), if_pos rfl]
    · rw [if_neg e, arrOf_get _ hj, if_neg (fun h => e h.symm)]
  · rw [Array.getElem?_eq_none (by rw [Array.size_setIfInBounds, arrOf_size]; omega), Array.getElem?_eq_none (by rw [arrOf_size]; omega)]
theorem arrOf_congr {g h : Nat → Value} {n : Nat} (e : ∀ j, j < n → g j = h j) : arrOf g n = arrOf h n := by
  unfold arrOf
  congr 1
  exact List.map_congr_left (fun j hj => e j (List.mem_range.1 hj))

/-- an act: kind, place, number, text, what is kept -/
structure DAct where
  kind : Int
  at' : Int
  n : Int
  s : ByteArray
  ad : Option Addr
  keep : List Int
  cap : Nat
def dactv (a : DAct) : List Value := [.int .i64 a.kind, .int .i64 a.at', .int .i64 a.n, .string a.s, .slice a.ad a.keep.length a.cap]
def wide (x : Int) : Prop := -9223372036854775808 ≤ x ∧ x ≤ 9223372036854775807
/-- an act as it may come -/
structure dactOk (w : World) (a : DAct) : Prop where
  kind : wide a.kind
  at' : wide a.at'
  n : wide a.n
  s : a.s.size ≤ 9223372036854775807
  keep : intsAt w a.ad a.keep
  kl : a.keep.length ≤ 9223372036854775807
  kr : ∀ x ∈ a.keep, -9223372036854775808 ≤ x ∧ x ≤ 9223372036854775807
/-- these acts lie there -/
def dactsAt (w : World) (ad : Option Addr) (l : List DAct) : Prop :=
  l = [] ∨ ∃ b off, ad = some ⟨b, off, none⟩ ∧ b < w.heap.size ∧ ∀ i (h : i < l.length), ∀ j u, (dactv l[i])[j]? = some u → w.cell? ⟨b, off + i * 5 + j, none⟩ = some u
end Go.Proofs.Ytcabocppplokgaa
