/-
  Layer 3: one more is pending; one sector is settled (plain).
  Layer 3: Write.
  Layer 3: Dirty.
  Layer 3: sectors are settled (plain); the functions that tell which bytes are kept.
  Layer 3: all that is pending is settled.
-/
import Derived.Test.YtjjejkhekmpgcaaGreatMgF
import Derived.Test.YtjjejkhekmpgcaaGreatMgA
import Derived.Great.BuildSlice
import Derived.Deep.LoopGhost
import Derived.WalkMore
namespace Go.Proofs.YtjjejkhekmpgcaaGreat
set_option maxRecDepth 4000
open Go.RowKit

theorem filt_same (P Q : Nat → Bool) : ∀ n, (∀ j, j < n → Q j = P j) → (List.range n).filter Q = (List.range n).filter P := fun _ h =>
  List.filter_congr (fun j hj => h j (List.mem_range.1 hj))
theorem filt_more (P Q : Nat → Bool) (i : Nat) (hP : P i = false) (hQ : Q i = true) (hne : ∀ j, j ≠ i → Q j = P j) : ∀ n, i < n → ((List.range n).filter Q).length = ((List.range n).filter P).length + 1
  | 0, h => absurd h (by omega)
  | n + 1, h => by
    rw [List.range_succ, List.filter_append, List.filter_append, List.length_append, List.length_append]
    by_cases hn : n = i
    · subst hn
      rw [filt_same P Q n (fun j hj => hne j (by omega))]
      simp [hP, hQ]
    · have := filt_more P Q i hP hQ hne n (by omega)
      rw [this, hne' hne hn]
      omega
where
  hne' {P Q : Nat → Bool} {i n : Nat} (hne : ∀ j, j ≠ i → Q j = P j) (hn : ¬ n = i) : ([n].filter Q).length = ([n].filter P).length := by
    rw [List.filter_congr (fun j hj => hne j (by rw [List.mem_singleton.1 hj]; exact hn))]

/-- a sector's bytes are set -/
def putS (S : List (List Sec)) (i : Nat) (L : List Sec) : List (List Sec) := S.set i L
theorem putS_length (S : List (List Sec)) (i : Nat) (L : List Sec) : (putS S i L).length = S.length := List.length_set
theorem pend_put {S : List (List Sec)} {i : Nat} (hi : i < S.length) (L : List Sec) (j : Nat) : pend (putS S i L) j = if j = i then L.tail else pend S j := by
  unfold pend putS
  rw [List.getD_eq_getElem?_getD, List.getElem?_set]
  by_cases h : i = j
  · subst h
    rw [if_pos rfl, if_pos hi, if_pos rfl]
    rfl
  · rw [if_neg h, if_neg (fun e => h e.symm), List.getD_eq_getElem?_getD]
theorem safes_put (S : List (List Sec)) (i : Nat) (L : List Sec) : safes (putS S i L) = (safes S).set i (L.headD []) := by
  unfold safes putS
  rw [List.map_set]
theorem secOk_put {S : List (List Sec)} (ok : secOk S) (i : Nat) {L : List Sec} (hL : L ≠ []) (h64 : ∀ s ∈ L, s.length = 64) : secOk (putS S i L) := by
  refine ⟨by rw [putS_length]; exact ok.1, by rw [putS_length]; exact ok.2.1, fun M hM => ?_⟩
  rcases List.mem_or_eq_of_mem_set hM with h | h
  · exact ok.2.2 M h
  · rw [h]; exact ⟨hL, h64⟩
theorem dirt_same {S T : List (List Sec)} (hl : T.length = S.length) (h : ∀ j, pend T j ≠ [] ↔ pend S j ≠ []) : dirt T = dirt S := by
  unfold dirt
  rw [hl]
  exact filt_same _ _ _ (fun j _ => decide_eq_decide.2 (h j))
theorem dirt_more {S T : List (List Sec)} {i : Nat} (hl : T.length = S.length) (hi : i < S.length) (h1 : pend S i = []) (h2 : pend T i ≠ []) (h : ∀ j, j ≠ i → pend T j = pend S j) : (dirt T).length = (dirt S).length + 1 := by
  unfold dirt
  rw [hl]
  exact filt_more _ _ i (by simp [h1]) (by simp [h2]) (fun j hj => by rw [h j hj]) _ hi

/-- one more is pending -/
def pushS (S : List (List Sec)) (i : Nat) (f : Sec) : List (List Sec) := putS S i (S.getD i [] ++ [f])
theorem getD_ok {S : List (List Sec)} (ok : secOk S) {i : Nat} (hi : i < S.length) : S.getD i [] ≠ [] ∧ ∀ s ∈ S.getD i [], s.length = 64 := by
  rw [List.getD_eq_getElem?_getD, List.getElem?_eq_getElem hi]
  exact ok.2.2 S[i] (List.getElem_mem hi)
theorem pend_push {S : List (List Sec)} (ok : secOk S) {i : Nat} (hi : i < S.length) (f : Sec) (j : Nat) : pend (pushS S i f) j = if j = i then pend S i ++ [f] else pend S j := by
  unfold pushS
  rw [pend_put hi]
  split
  · unfold pend
    exact List.tail_append_of_ne_nil (getD_ok ok hi).1
  · rfl
theorem safes_push {S : List (List Sec)} (ok : secOk S) {i : Nat} (hi : i < S.length) (f : Sec) : safes (pushS S i f) = safes S := by
  unfold pushS
  rw [safes_put]
  have h1 : (S.getD i [] ++ [f]).headD [] = (safes S)[i]'(by rw [safes_length]; exact hi) := by
    have hg := (getD_ok ok hi).1
    rw [List.getD_eq_getElem?_getD, List.getElem?_eq_getElem hi] at hg ⊢
    simp only [Option.getD_some, safes, List.getElem_map] at hg ⊢
    cases hL : S[i] with
    | nil => exact absurd hL hg
    | cons a r => rfl
  rw [h1, List.set_getElem_self]
theorem secOk_push {S : List (List Sec)} (ok : secOk S) {i : Nat} (hi : i < S.length) {f : Sec} (hf : f.length = 64) : secOk (pushS S i f) :=
  secOk_put ok i (by simp) (fun s hs => by
    rcases List.mem_append.1 hs with h | h
    · exact (getD_ok ok hi).2 s h
    · rw [List.mem_singleton.1 h]; exact hf)
theorem nowF_push {S : List (List Sec)} (ok : secOk S) {i : Nat} (hi : i < S.length) (f : Sec) (V : Nat → Value) (v : Value) (l : Lit) (hl : WideAt.IsKeyLit l) :
    nowF (pushS S i f) (fun j => if j = i then v else V j) l = setF (nowF S V) (.int .i64 i) v l := by
  unfold setF
  by_cases e : l = .int .i64 i
  · subst e
    rw [if_pos (WideAt.sameKey_self hl)]
    unfold nowF
    simp only [Int.toNat_natCast]
    rw [if_pos ⟨Int.natCast_nonneg _, by rw [pend_push ok hi, if_pos rfl]; simp⟩, if_pos trivial]
  · rw [if_neg (by rw [Maps.sameKey_ne e]; simp)]
    cases l with
    | int k n =>
      cases k with
      | i64 =>
        unfold nowF
        simp only
        by_cases h0 : 0 ≤ n
        · have hne : n.toNat ≠ i := fun h => e (by rw [← h, Int.toNat_of_nonneg h0])
          rw [pend_push ok hi, if_neg hne, if_neg hne]
        · rw [if_neg (fun h => h0 h.1), if_neg (fun h => h0 h.1)]
      | _ => rfl
    | _ => rfl

theorem disk_push {w0 wP wF : World} {p sb mb cs : Nat} {V : Nat → Value} {st : Dk} {i : Nat} {f : Sec} {v v' : Value} {B : Nat}
    (hd : DiskAt w0 p sb mb cs V st) (hi : i < st.S.length) (hf : f.length = 64) (hv : v = if pend st.S i ≠ [] then V i else .slice none 0 0)
    (ht : Touch (fun k => v.ownBlock = some k) w0 wP) (hr : SecRow wP v' (pend st.S i ++ [f])) (hpl : v'.ownBlock = v.ownBlock ∨ ∀ k, v'.ownBlock = some k → B ≤ k) (hB : w0.heap.size ≤ B)
    (hm : MapL Tryz.prog 3 wF mb (setF (nowF st.S V) (.int .i64 i) v') (if (nowF st.S V (.int .i64 i)).isSome then (dirt st.S).length else (dirt st.S).length + 1)) (hg : wP.grownBy wF (some mb)) :
    DiskAt wF p sb mb cs (fun j => if j = i then v' else V j) ⟨pushS st.S i f, st.calls, st.armed, st.down⟩ ∧ Touch (dfoot p sb mb V st.S) w0 wF ∧
      ∀ k, dfoot p sb mb (fun j => if j = i then v' else V j) (pushS st.S i f) k → dfoot p sb mb V st.S k ∨ w0.heap.size ≤ k := by
  have ok := hd.ok
  have hlen : (pushS st.S i f).length = st.S.length := putS_length _ _ _
  -- the old slice's block
  have hvk : ∀ k, v.ownBlock = some k → dfoot p sb mb V st.S k ∧ k ≠ p ∧ k ≠ sb ∧ k ≠ mb ∧ ∃ hp : pend st.S i ≠ [], (V i).ownBlock = some k := fun k e => by
    rw [hv] at e
    by_cases hp : pend st.S i ≠ []
    · rw [if_pos hp] at e
      have := hd.rowNe hp e
      exact ⟨.inr (.inr (.inr ⟨i, hp, e⟩)), this.1, this.2.1, this.2.2.1, hp, e⟩
    · rw [if_neg hp] at e; cases e
  -- the new slice's block
  have hne' : pend st.S i ++ [f] ≠ [] := by simp
  obtain ⟨k0, c0, fz0, hk0, hkc⟩ := row_block hr hne'
  have hk0ne : k0 ≠ p ∧ k0 ≠ sb ∧ k0 ≠ mb ∧ (dfoot p sb mb V st.S k0 ∨ w0.heap.size ≤ k0) ∧ ∀ j, j ≠ i → pend st.S j ≠ [] → (V j).ownBlock ≠ some k0 := by
    rcases hpl with e | e
    · obtain ⟨h1, h2, h3, h4, hp, h5⟩ := hvk k0 (by rw [← e]; exact hk0)
      exact ⟨h2, h3, h4, .inl h1, fun j hj hpj ej => hd.apart j i hj hpj hp (by rw [ej, h5])⟩
    · have h1 := e k0 hk0
      have h2 : ∀ k, dfoot p sb mb V st.S k → k ≠ k0 := fun k hk ek => by have := hd.lt k hk; omega
      exact ⟨fun e => h2 p (.inl rfl) e.symm, fun e => h2 sb (.inr (.inl rfl)) e.symm, fun e => h2 mb (.inr (.inr (.inl rfl))) e.symm, .inr (by omega), fun j _ hpj ej => h2 k0 (.inr (.inr (.inr ⟨j, hpj, ej⟩))) rfl⟩
  have htF : Touch (fun k => k = mb ∨ v.ownBlock = some k) w0 wF :=
    (ht.mono (fun k _ h => .inr h)).trans (Touch.ofGrown hg (fun k e => .inl (Option.some.inj e).symm))
  refine ⟨⟨?_, ?_, ?_, ?_, ?_, ?_, secOk_push ok hi hf, hd.arm⟩, htF.mono (fun k _ h => ?_), fun k hk => ?_⟩
  · show wF.heap[p]? = some (.cells #[.slice (some ⟨sb, 0, none⟩) (pushS st.S i f).length cs, _, _, _, _] _ _)
    rw [hlen]
    exact (htF.block p (lt_of_block hd.blk) (fun h => h.elim (fun h => hd.ne2 h) (fun h => (hvk p h).2.1 rfl))).trans hd.blk
  · show SecRow wF (.slice (some ⟨sb, 0, none⟩) (pushS st.S i f).length cs) (safes (pushS st.S i f))
    rw [hlen, safes_push ok hi]
    refine hd.safe.touch htF (fun k e h => ?_)
    cases e
    exact h.elim (fun h => hd.ne3 h) (fun h => (hvk sb h).2.2.1 rfl)
  · show MapL Tryz.prog 3 wF mb (nowF (pushS st.S i f) _) (dirt (pushS st.S i f)).length
    refine hm.congr (fun l hl => nowF_push ok hi f V v' l hl) ?_
    have hns : (nowF st.S V (.int .i64 i)).isSome = decide (pend st.S i ≠ []) := by
      unfold nowF
      simp only [Int.toNat_natCast]
      by_cases hp : pend st.S i ≠ []
      · rw [if_pos ⟨Int.natCast_nonneg _, hp⟩]; simp [hp]
      · rw [if_neg (fun h => hp h.2)]; simp at hp; simp [hp]
    rw [hns]
    by_cases hp : pend st.S i ≠ []
    · rw [decide_eq_true hp, if_pos rfl, dirt_same hlen]
      intro j
      rw [pend_push ok hi]
      split
      · rename_i h; subst h; simp [hp]
      · rfl
    · rw [decide_eq_false hp, if_neg (by simp)]
      exact dirt_more hlen hi (by simpa using hp) (by rw [pend_push ok hi, if_pos rfl]; simp) (fun j hj => by rw [pend_push ok hi, if_neg hj])
  · intro j hj
    show SecRow wF (if j = i then v' else V j) (pend (pushS st.S i f) j)
    replace hj : pend (pushS st.S i f) j ≠ [] := hj
    rw [pend_push ok hi] at hj ⊢
    by_cases h : j = i
    · rw [if_pos h, if_pos h]
      refine hr.touch (F := fun k => k = mb) (Touch.ofGrown hg (fun k e => (Option.some.inj e).symm)) (fun k e h => ?_)
      rw [hk0] at e
      exact hk0ne.2.2.1 (by rw [Option.some.inj e, h])
    · rw [if_neg h] at hj
      rw [if_neg h, if_neg h]
      refine (hd.rows j hj).touch htF (fun k e h2 => ?_)
      rcases h2 with h2 | h2
      · exact (hd.rowNe hj e).2.2.1 h2
      · obtain ⟨_, _, _, _, hp, h5⟩ := hvk k h2
        exact hd.apart j i h hj hp (by rw [e, h5])
  · intro a b hab ha hb
    show (if a = i then v' else V a).ownBlock ≠ (if b = i then v' else V b).ownBlock
    replace ha : pend (pushS st.S i f) a ≠ [] := ha
    replace hb : pend (pushS st.S i f) b ≠ [] := hb
    rw [pend_push ok hi] at ha hb
    by_cases h1 : a = i
    · have h2 : b ≠ i := fun e => hab (h1.trans e.symm)
      rw [if_neg h2] at hb
      rw [if_pos h1, if_neg h2, hk0]
      exact fun e => hk0ne.2.2.2.2 b h2 hb e.symm
    · rw [if_neg h1] at ha
      by_cases h2 : b = i
      · rw [if_neg h1, if_pos h2, hk0]
        exact hk0ne.2.2.2.2 a h1 ha
      · rw [if_neg h2] at hb
        rw [if_neg h1, if_neg h2]
        exact hd.apart a b hab ha hb
  · intro j hj
    show (if j = i then v' else V j).ownBlock ≠ some sb
    replace hj : pend (pushS st.S i f) j ≠ [] := hj
    rw [pend_push ok hi] at hj
    by_cases h : j = i
    · rw [if_pos h, hk0]
      exact fun e => hk0ne.2.1 (Option.some.inj e)
    · rw [if_neg h] at hj
      rw [if_neg h]
      exact hd.apartS j hj
  · rcases h with h | h
    · exact .inr (.inr (.inl h))
    · exact (hvk k h).1
  · rcases hk with h | h | h | ⟨j, hj, e⟩
    · exact .inl (.inl h)
    · exact .inl (.inr (.inl h))
    · exact .inl (.inr (.inr (.inl h)))
    · rw [pend_push ok hi] at hj
      replace e : (if j = i then v' else V j).ownBlock = some k := e
      by_cases h : j = i
      · rw [if_pos h, hk0] at e
        obtain rfl := Option.some.inj e
        exact hk0ne.2.2.2.1
      · rw [if_neg h] at hj e
        exact .inl (.inr (.inr (.inr ⟨j, hj, e⟩)))
end Go.Proofs.YtjjejkhekmpgcaaGreat

namespace Go.Proofs.YtjjejkhekmpgcaaGreat
set_option maxRecDepth 4000
open Go.RowKit

/-- a text, filled up with nought -/
def fill (s : ByteArray) : Sec := s.data.toList ++ List.replicate (64 - s.size) 0
theorem fill_length (s : ByteArray) (h : s.size ≤ 64) : (fill s).length = 64 := by
  have : s.data.toList.length = s.size := by simp
  unfold fill
  rw [List.length_append, List.length_replicate, this]
  omega
theorem fill_cells (s : ByteArray) (_ : s.size ≤ 64) : (List.replicate 64 (Value.int .u8 0)).take 0 ++ bv s.data.toList ++ (List.replicate 64 (Value.int .u8 0)).drop (0 + s.size) = bv (fill s) := by
  unfold fill
  rw [bv_append, List.take_zero, List.nil_append, List.drop_replicate, Nat.zero_add]
  congr 1
  unfold bv
  rw [List.map_replicate]
  rfl
/-- what Write answers, and leaves -/
def writeD (st : Dk) (at' : Int) (s : ByteArray) : Int × Dk :=
  if readyE st at' ≠ 0 then (readyE st at', st) else if 64 < s.size then (4, st)
  else if (callD st).down = true then (12, callD st) else (0, ⟨pushS st.S at'.toNat (fill s), (callD st).calls, (callD st).armed, (callD st).down⟩)

theorem wp_mapUpdate_L {P : Program} {k e t : TypeId} {w : World} {b n : Nat} {f : Lit → Option Value} {o : Oper} {a : Act} {K : Act → World → Prop} {Q : Exit → Act → World → Prop} (m x v : Operand) (ho : o.op = .mapUpdate t m x v)
    (h : MapL P k w b f n) (KK : Go.Maps.Keyed P k) (ht : P.underlying t = some (.map k e)) (hn : n < maxLen) {key val : Value} {kl : Lit} (hkey : keyOf P k key = some kl)
    (hm : a.eval m = .map (some b)) (hx : a.eval x = key) (hv : a.eval v = val)
    (hK : ∀ w', MapL P k w' b (setF f kl val) (if (f kl).isSome then n else n + 1) → w.grownBy w' (some b) → K (a.put o.dst undef) w') : o.wp P a w K Q := by
  obtain ⟨w', hrun, h1, h2⟩ := h.store KK ht hn (val := val) hkey
  unfold Oper.wp
  simp [execOp, ho, hm, hx, hv, hrun, Result.andThen]
  exact hK w' h1 h2

theorem fill_sec (i0 : TypeInfo) (hz1 : i0.size = 64) (base : Array Value) (hb : base.size = 1 * i0.size) (f : Sec) (hf : f.length = 64) (parts : List (Nat × Value)) (hp : parts = [(0, .agg (bv f).toArray)]) :
    Instr.fill (fun i => some (i * i0.size, i0.size)) base parts = some (bv f).toArray := by
  subst hp
  rw [hz1] at hb ⊢
  have := Go.Great.fill_whole (s := 64) (by omega) [.agg (bv f).toArray] base (by intro v hv; rw [List.mem_singleton.1 hv]; show (bv f).toArray.size = 64; rw [List.size_toArray, bv_length, hf]) (by rw [hb]; rfl)
  simpa [Value.cells] using this
/-- what Write leaves -/
def WritePost (p : Nat) (F : Nat → Prop) (w : World) (r : Int × Dk) (e : Ending) (w' : World) : Prop := e = .returned (.int .i64 r.1) ∧ ∃ F', Disk w' p F' r.2 ∧ Stp F w F' w'

theorem touch_p {p : Nat} {F : Nat → Prop} {st st' : Dk} {w w' : World} (h : Disk w p F st) (_ : Disk w' p F st') (ht : Touch (fun k => k = p) w w') : Stp F w F w' :=
  ⟨ht.mono (fun k _ e => by rw [e]; exact h.own), fun _ hk => .inl hk⟩
theorem zsec (w : World) : (zeroValue 70).run Tryz.prog w = .ok (.slice none 0 0) w := by kernel_rfl
theorem callD_S (st : Dk) : (callD st).S = st.S := rfl
set_option maxHeartbeats 4000000 in
theorem write_walk (p : Nat) (F : Nat → Prop) (st : Dk) (at' : Int) (s : ByteArray) (w : World) (h : Disk w p F st) (hp : (pend st.S at'.toNat).length ≤ 1000000000) :
    Calls Tryz.prog 61 #[.pointer (some ⟨p, 0, none⟩), .int .i64 at', .string s] w fun e w' => WritePost p F w (writeD st at' s) e w' := by
  have hrw := ready_walk p F st at' w h
  have HH := Lib.hid h
  by_cases h0 : readyE st at' = 0
  · obtain ⟨_, h1, h2⟩ := ready_zero h0
    obtain ⟨i, rfl⟩ := Int.eq_ofNat_of_zero_le h1
    rw [Int.toNat_natCast] at h2 hp
    rw [h0] at hrw
    have HRW := Lib.hid hrw
    by_cases hb : (64 : Int) < (s.size : Int)
    · have hwd : writeD st i s = (4, st) := by unfold writeD; rw [if_neg (by simpa using h0), if_pos (by omega)]
      rw [hwd]
      clear h h0 h1 h2 hrw hp hwd
      go_enter Tryz.func61, Tryz.ntmps61
      go_wp2_with fail
      refine HRW.out.mono ?_
      rintro e w1 ⟨rfl, rfl⟩
      go_wp2_with fail
      go_ret
      exact ⟨rfl, F, HH.out, Stp.refl _ _⟩
    · have hs : s.size ≤ 64 := by omega
      have hcw := call_walk p F st w h
      cases hdn : (callD st).down with
      | true =>
        have hwd : writeD st i s = (12, callD st) := by unfold writeD; rw [if_neg (by simpa using h0), if_neg (by omega), if_pos hdn]
        rw [hwd]
        rw [hdn, if_pos rfl] at hcw
        have HCW := Lib.hid hcw
        clear h h0 h1 h2 hrw hp hwd hcw hs
        go_enter Tryz.func61, Tryz.ntmps61
        go_wp2_with fail
        refine HRW.out.mono ?_
        rintro e w1 ⟨rfl, rfl⟩
        go_wp2_with fail
        refine HCW.out.mono ?_
        rintro e w2 ⟨rfl, hd2, ht2⟩
        have K1 := Lib.hid hd2; have K2 := Lib.hid (touch_p HH.out hd2 ht2)
        clear hd2 ht2
        go_wp2_with fail
        go_ret
        exact ⟨rfl, F, K1.out, K2.out⟩
      | false =>
        have hwd : writeD st i s = (0, ⟨pushS st.S i (fill s), (callD st).calls, (callD st).armed, (callD st).down⟩) := by
          unfold writeD; rw [if_neg (by simpa using h0), if_neg (by omega), if_neg (by rw [hdn]; simp)]; rfl
        rw [hwd]
        rw [hdn, if_neg (by simp)] at hcw
        have HCW := Lib.hid hcw; have HSZ := Lib.hid hs; have HP := Lib.hid hp; have HI := Lib.hid h2
        clear h h0 h1 h2 hrw hp hwd hcw hs
        obtain ⟨i0, hi, hz0, hz1, hz2⟩ := info_sec
        go_enter Tryz.func61, Tryz.ntmps61
        go_wp2_with fail
        refine HRW.out.mono ?_
        rintro e w1 ⟨rfl, rfl⟩
        go_wp2_with fail
        refine HCW.out.mono ?_
        rintro e w2 ⟨rfl, hd2, ht2⟩
        have K1 := Lib.hid hd2; have K2 := Lib.hid (touch_p HH.out hd2 ht2)
        clear hd2 ht2 HRW HCW HH
        go_upto_region 10 with fail
        obtain ⟨x, hx⟩ : ∃ x, x = w2.heap.size := ⟨_, rfl⟩
        obtain ⟨W, hW⟩ : ∃ W, W = w2.alloc (.cells (List.replicate 64 (Value.int .u8 0)).toArray 105) := ⟨_, rfl⟩
        have hblk : W.heap[x]? = some (.cells (List.replicate 64 (Value.int .u8 0)).toArray 105 (0, 0)) := by rw [hW, hx]; exact heap_alloc_top _ _
        have hbw : Below w2.heap.size w2 W := by rw [hW]; exact (Below.refl _ _).alloc (Nat.le_refl _) _
        have HX := Lib.hid hx; have HW := Lib.hid hW; have HBLK := Lib.hid hblk; have HBW := Lib.hid hbw
        rw [← hx]
        clear hx hW hblk hbw
        refine wp_world HW.out ?_
        clear HW
        go_upto_region 11 with (refine wpList_copy_src rfl _ _ 127 9 rfl 5 Tryz.underlying127 (by kernel_rfl) x 0 64 64 s.size (.string s) rfl rfl _ (src_bytes _ Tryz.underlying9 s) (List.replicate 64 (Value.int .u8 0)).toArray 105 HBLK.out HSZ.out (by rw [List.size_toArray, List.length_replicate]; have := HSZ.out; omega) ?_)
        rw [fill_cells s HSZ.out]
        simp only [Act.put, List.setIfInBounds_toArray, List.set_cons_succ, List.set_cons_zero]
        obtain ⟨f, hf⟩ : ∃ f, f = fill s := ⟨_, rfl⟩
        have hfl : f.length = 64 := by rw [hf]; exact fill_length s HSZ.out
        have hbf : (bv f).length = 64 := by rw [bv_length, hfl]
        rw [← hf]
        have hx2 : (W.setRow x (bv f).toArray).heap[x]? = some (.cells (bv f).toArray 105 (0, 0)) := setRow_heap _ x _ _ _ _ HBLK.out
        have hb2 : Below w2.heap.size w2 (W.setRow x (bv f).toArray) := (touch_setRow (F := fun k => k = x) W x _ rfl).below HBW.out HBW.out.size (fun k hk => by rw [hk, HX.out]; exact Nat.le_refl _)
        generalize W.setRow x (bv f).toArray = W2 at hx2 hb2 ⊢
        obtain ⟨sb, mb, cs, V, hd, hF⟩ := K1.out.below hb2
        obtain ⟨v, hv⟩ : ∃ v, v = if pend st.S i ≠ [] then V i else .slice none 0 0 := ⟨_, rfl⟩
        have hrow : SecRow W2 v (pend st.S i) := by
          rw [hv]
          by_cases hpe : pend st.S i ≠ []
          · rw [if_pos hpe]; exact hd.rows i hpe
          · rw [if_neg hpe]
            have : pend st.S i = [] := by simpa using hpe
            rw [this]
            exact World.ownsRow_nil _ _ _ _
        have hvx : ∀ k, v.ownBlock = some k → k ≠ x ∧ k ≠ p ∧ k ≠ mb := fun k e => by
          rw [hv] at e
          by_cases hpe : pend st.S i ≠ []
          · rw [if_pos hpe] at e
            have h1 := hd.rowNe hpe e
            refine ⟨fun ek => ?_, h1.1, h1.2.2.1⟩
            have h2 := K1.out.lt k ((hF k).2 (.inr (.inr (.inr ⟨i, hpe, e⟩))))
            rw [ek, HX.out] at h2
            omega
          · rw [if_neg hpe] at e; cases e
        have hn4 : i ≤ 4096 := by have h1 := hd.ok.2.1; have h2 := HI.out; rw [callD_S] at h1; omega
        -- what is read, in every world in which nothing but the old slice's block is touched
        obtain ⟨C, hC⟩ : ∃ C : World → Prop, C = fun w9 => Touch (fun k => v.ownBlock = some k) W2 w9 := ⟨_, rfl⟩
        have hCof : ∀ w9, Touch (fun k => v.ownBlock = some k) W2 w9 → C w9 := fun w9 h => by rw [hC]; exact h
        have hCto : ∀ w9, C w9 → Touch (fun k => v.ownBlock = some k) W2 w9 := fun w9 h => by rw [hC] at h; exact h
        have hc1 : ∀ w9, C w9 → w9.cell? ⟨p, 1, none⟩ = some (.map (some mb)) := fun w9 h => by
          refine cell_at (cs := #[.slice (some ⟨sb, 0, none⟩) st.S.length cs, .map (some mb), .int .i64 (callD st).calls, .int .i64 (callD st).armed, .bool (callD st).down]) (((hCto w9 h).block p (lt_of_block hd.blk) (fun e => (hvx p e).2.1 rfl)).trans hd.blk) rfl
        have hlk : ∀ w9, C w9 → (Instr.lookup 71 (.map (some mb)) (.int .i64 i) false).run Tryz.prog w9 = .ok v w9 := fun w9 h => by
          have hk := Go.Maps.keyOf_int_mk (P := Tryz.prog) (k := 3) (q := .i64) Tryz.underlying3 (a := (i : Int)) (WalkArith.wf_i64 (by omega))
          rw [(hd.map.same ((hCto w9 h).block mb hd.map.lt (fun e => (hvx mb e).2.2 rfl))).look int_key Tryz.underlying71 (zsec w9) hk, hv]
          congr 1
          show (nowF st.S V (.int .i64 i)).getD (.slice none 0 0) = _
          unfold nowF
          simp only [Int.toNat_natCast]
          by_cases hpe : pend st.S i ≠ []
          · rw [if_pos hpe, if_pos ⟨Int.natCast_nonneg _, hpe⟩]; rfl
          · rw [if_neg hpe, if_neg (fun h => hpe h.2)]; rfl
        have hld : ∀ w9, C w9 → w9.heap[x]? = some (.cells (bv f).toArray 105 (0, 0)) := fun w9 h => ((hCto w9 h).block x (lt_of_block hx2) (fun e => (hvx x e).1 rfl)).trans hx2
        have hrow' : W2.ownsRow 0 105 64 v (pend st.S i).length (secv (pend st.S i)) := hrow
        obtain ⟨m, hm⟩ : ∃ m, m = (pend st.S i).length := ⟨_, rfl⟩
        rw [← hm] at hrow'
        have hmb : m ≤ 1000000000 := by rw [hm]; exact HP.out
        have HC1 := Lib.hid hc1; have HLK := Lib.hid hlk; have HLD := Lib.hid hld; have HCO := Lib.hid hCof; have HCT := Lib.hid hCto; have HD := Lib.hid hd; have HFF := Lib.hid hF; have HV := Lib.hid hv; have HR := Lib.hid hrow'; have HM := Lib.hid hm; have HMB := Lib.hid hmb; have HFE := Lib.hid hf; have HFL := Lib.hid hfl; have HBF := Lib.hid hbf; have HB2 := Lib.hid hb2
        have hC0 : C W2.drew := hCof _ (Touch.refl _ _).drew
        clear hc1 hlk hld hCof hCto hd hF hv hrow hrow' hvx hm hmb hf hfl hbf hx2 hb2 HBLK HBW HX hC K1
        refine wp_region_mixT C 14 [(0,true,true),(1,true,true),(2,true,true),(3,true,true),(4,true,true),(5,true,true),(6,true,true),(7,true,true),(8,true,true),(9,true,true),(10,true,true),(11,true,true),(12,false,true),(13,false,true),(14,false,false)] (by kernel_rfl) (by kernel_rfl) hC0 ?_
        have ht0 : Touch (fun k => v.ownBlock = some k) W2 W2.drew := (Touch.refl _ _).drew
        have hr0 : W2.drew.ownsRow 0 105 64 v m (secv (pend st.S i)) := HR.out
        generalize W2.drew = w3 at ht0 hr0 ⊢
        clear hC0
        simp only [List.filterMap_cons, List.filterMap_nil, List.getElem?_cons_zero, List.getElem?_cons_succ, Option.map_some]
        repeat (first
          | (refine mixT_load_row 105 _ rfl (by rfl) x rfl 105 (bv f).toArray (0, 0) _ HLD.out Tryz.underlying105 rfl (by rw [List.size_toArray, HBF.out]; exact info_sec1) ?_; simp only [Act.put, List.setIfInBounds_toArray, List.set_cons_succ, List.set_cons_zero])
          | (refine mixT_read (by rfl) ?_; apply Exists.intro; refine ⟨fun w9 hw9 => ?_, ?_⟩; (· have d1 := HC1.out w9 hw9; have d2 := HLK.out w9 hw9; go_simp; rfl); simp only [Act.put, List.setIfInBounds_toArray, List.set_cons_succ, List.set_cons_zero]))
        refine mixT_step (by rfl) (fun K' hK => ?_)
        refine wp_buildSlice 70 105 1 _ rfl (bv f).toArray i0 (.agg (List.replicate 64 (Value.int .u8 0)).toArray) Tryz.underlying70 hi hz0 (by rw [hz1]; decide) (by rw [hz1]; decide) (fill_sec i0 hz1 _ ?_ f HFL.out _ ?_) ?_
        · rw [Array.size_map, Array.size_range]
        · rw [Array.toList_map]; rfl
        have rE := row_new w3 0 64 1 105 (bv f).toArray (Nat.zero_le _) (by rw [List.size_toArray, HBF.out]) (by unfold maxLen; omega)
        have htE : Touch (fun k => v.ownBlock = some k) W2 (w3.alloc (.cells (bv f).toArray 105)) := ht0.alloc _
        have hrE := hr0.alloc (.cells (bv f).toArray 105)
        refine hK _ _ (HCO.out _ htE) ?_
        clear hK K'
        simp only [Act.put, List.setIfInBounds_toArray, List.set_cons_succ, List.set_cons_zero]
        obtain ⟨E, hE⟩ : ∃ E, E = w3.heap.size := ⟨_, rfl⟩
        rw [← hE] at rE ⊢
        have hWE : W2.heap.size ≤ E := by rw [hE]; exact ht0.size
        have hEs : (w3.alloc (.cells (bv f).toArray 105)).heap.size = E + 1 := by simp [hE]
        generalize w3.alloc (.cells (bv f).toArray 105) = wE at rE htE hrE hEs ⊢
        have HE := Lib.hid hWE; have HES := Lib.hid hEs
        clear hE hWE ht0 hr0 hEs
        refine mixT_step (by rfl) (fun K' hK => ?_)
        refine wp_append_at _ _ _ 70 70 rfl 0 105 i0 (.agg (List.replicate 64 (Value.int .u8 0)).toArray) 64 64 Tryz.underlying70 hi hz0 hz1 hz2 rfl (by decide) v m (secv (pend st.S i)) rfl hrE (.slice (some ⟨E, 0, none⟩) 1 1) 1 (bv f) rfl (src_own _ Tryz.underlying70 rE (bv_one f)) (by unfold maxLen; have := HMB.out; omega) (by have := HMB.out; omega) (Nat.zero_le _) ?_
        intro v' wP hrP hgP hpP
        have htP : Touch (fun k => v.ownBlock = some k) W2 wP := htE.trans (Touch.ofGrown hgP (fun k e => e))
        refine hK _ _ (HCO.out _ htP) ?_
        clear hK K'
        simp only [Act.put, List.setIfInBounds_toArray, List.set_cons_succ, List.set_cons_zero]
        have hsv : secv (pend st.S i) ++ bv f = secv (pend st.S i ++ [f]) := by rw [secv_append]; simp [secv]
        have hlen : m + 1 = (pend st.S i ++ [f]).length := by rw [List.length_append, HM.out]; rfl
        rw [hsv, hlen] at hrP
        have hmap := HD.out.map.same ((htP.block mb HD.out.map.lt (fun e => by
          have h1 := HV.out
          rw [h1] at e
          by_cases hpe : pend st.S i ≠ []
          · rw [if_pos hpe] at e; exact (HD.out.rowNe hpe e).2.2.1 rfl
          · rw [if_neg hpe] at e; cases e)))
        have HP1 := Lib.hid hrP; have HP2 := Lib.hid hpP; have HP3 := Lib.hid htP; have HP4 := Lib.hid hmap
        clear hsv hlen hrP hgP hpP htP hmap rE htE hrE
        refine mixT_tail (by rfl) (fun K' hK => ?_)
        refine wp_mapUpdate_L _ _ _ rfl HP4.out int_key Tryz.underlying71 ?_ (Go.Maps.keyOf_int_mk (P := Tryz.prog) (k := 3) (q := .i64) Tryz.underlying3 (a := (i : Int)) (WalkArith.wf_i64 (by omega))) rfl rfl rfl ?_
        · have h1 : (dirt (callD st).S).length ≤ (callD st).S.length := by
            unfold dirt
            exact Nat.le_trans (List.length_filter_le _ _) (by rw [List.length_range]; exact Nat.le_refl _)
          have h2 := HD.out.ok.2.1
          unfold maxLen
          omega
        intro wF hmF hgF
        refine hK _ _ ?_
        clear hK K'
        simp only [Act.put]
        refine mixT_nil (NoPanic.normal ?_)
        obtain ⟨q1, q2, q3⟩ := disk_push HD.out (by have := HI.out; exact this) HFL.out HV.out HP3.out HP1.out HP2.out (by have := HE.out; have := HES.out; omega) hmF hgF
        have hfin : WritePost p F w1 (0, ⟨pushS st.S i f, (callD st).calls, (callD st).armed, (callD st).down⟩) (.returned (.int .i64 0)) wF :=
          ⟨rfl, _, ⟨sb, mb, cs, _, q1, fun k => Iff.rfl⟩, K2.out.trans ((Stp.ofBelow F HB2.out).trans ⟨q2.mono (fun k _ hk => (HFF.out k).2 hk), fun k hk => (q3 k hk).imp (HFF.out k).2 id⟩)⟩
        have HFIN := Lib.hid hfin
        clear q1 q2 q3 hfin hmF hgF
        go_wp2_with fail
        go_ret
        rw [← HFE.out]
        exact HFIN.out
  · have hwd : writeD st at' s = (readyE st at', st) := by unfold writeD; rw [if_pos h0]
    rw [hwd]
    obtain ⟨r, hr⟩ : ∃ r, r = readyE st at' := ⟨_, rfl⟩
    rw [← hr] at hrw h0 ⊢
    have hz : (r == 0) = false := by rw [beq_eq_false_iff_ne]; exact h0
    have HRW := Lib.hid hrw
    clear h hrw hr hwd h0 hp
    go_enter Tryz.func61, Tryz.ntmps61
    go_wp2_with fail
    refine HRW.out.mono ?_
    rintro e w1 ⟨rfl, rfl⟩
    go_wp2_with fail
    go_ret
    exact ⟨rfl, F, HH.out, Stp.refl _ _⟩
end Go.Proofs.YtjjejkhekmpgcaaGreat

namespace Go.Proofs.YtjjejkhekmpgcaaGreat
set_option maxRecDepth 4000
open Go.RowKit

theorem info_int : (Tryz.prog.info? 3).map (fun i => (i.zero, i.size, i.bytes)) = some (some (.int .i64 0), 1, 8) := by kernel_rfl
/-- numbers as cells -/
def iv (l : List Nat) : List Value := l.map fun i => Value.int .i64 (i : Nat)
theorem iv_append (a b : List Nat) : iv (a ++ b) = iv a ++ iv b := by simp [iv]
theorem iv_length (l : List Nat) : (iv l).length = l.length := by simp [iv]
/-- a slice of numbers of our own -/
def IntRow (w : World) (base : Nat) (v : Value) (l : List Nat) : Prop := w.ownsRow base 3 1 v l.length (iv l)
theorem IntRow.open {w : World} {base : Nat} {v : Value} {l : List Nat} (h : IntRow w base v l) : ∃ ad cap, v = .slice ad l.length cap ∧ l.length ≤ cap ∧ cap ≤ 9223372036854775807 ∧ (l = [] ∨ ∃ g, ad = some ⟨g, 0, none⟩ ∧ base ≤ g ∧ g < w.heap.size ∧ ∀ i (hi : i < l.length), w.cell? ⟨g, i, none⟩ = some (.int .i64 (l[i] : Nat))) := by
  rcases h.2 with ⟨rfl, h2⟩ | ⟨g, cap, cur, rfl, hb, hg, h3, h4, h5, h6⟩
  · exact ⟨none, 0, by rw [h2], by omega, by omega, .inl (List.eq_nil_of_length_eq_zero h2)⟩
  · refine ⟨some ⟨g, 0, none⟩, cap, rfl, h3, h4, .inr ⟨g, rfl, hb, lt_of_block hg, fun i hi => ?_⟩⟩
    have := World.ownsRow.cells h (g := g) rfl i (.int .i64 (l[i] : Nat)) (by simp [iv, List.getElem?_eq_getElem hi])
    have e : (⟨g, 0, none⟩ : Addr).add i = ⟨g, i, none⟩ := by unfold Addr.add; split <;> simp_all
    rw [e] at this
    exact this
/-- the first ones of those that have pending ones -/
def dirtTo (S : List (List Sec)) (k : Nat) : List Nat := (List.range k).filter fun i => decide (pend S i ≠ [])
theorem dirtTo_all (S : List (List Sec)) : dirtTo S S.length = dirt S := rfl
theorem dirtTo_succ (S : List (List Sec)) (k : Nat) : dirtTo S (k + 1) = dirtTo S k ++ (if pend S k ≠ [] then [k] else []) := by
  unfold dirtTo
  rw [List.range_succ, List.filter_append]
  congr 1
  by_cases h : pend S k ≠ []
  · rw [if_pos h]; simp [h]
  · rw [if_neg h]; simp at h; simp [h]
theorem dirtTo_skip (S : List (List Sec)) (k : Nat) : ∀ j, k ≤ j → (∀ i, k ≤ i → i < j → pend S i = []) → dirtTo S j = dirtTo S k := by
  intro j hj
  induction j with
  | zero => intro _; rw [show k = 0 by omega]
  | succ j ih =>
    intro h
    by_cases e : k = j + 1
    · rw [e]
    · rw [dirtTo_succ, if_neg (by rw [h j (by omega) (by omega)]; simp), List.append_nil]
      exact ih (by omega) (fun i h1 h2 => h i h1 (by omega))
theorem dirtTo_le (S : List (List Sec)) : ∀ (d k : Nat), (dirtTo S k).length ≤ (dirtTo S (k + d)).length ∧ ((dirtTo S k).length = (dirtTo S (k + d)).length → dirtTo S k = dirtTo S (k + d))
  | 0, k => ⟨Nat.le_refl _, fun _ => rfl⟩
  | d + 1, k => by
    obtain ⟨h1, h2⟩ := dirtTo_le S d k
    rw [← Nat.add_assoc, dirtTo_succ, List.length_append]
    by_cases h : pend S (k + d) ≠ []
    · rw [if_pos h]
      refine ⟨by omega, fun e => ?_⟩
      simp at e
      omega
    · rw [if_neg h]
      refine ⟨by simpa using h1, fun e => ?_⟩
      rw [List.append_nil]
      exact h2 (by simpa using e)
theorem dirtTo_done (S : List (List Sec)) (k : Nat) (hk : k ≤ S.length) (h : ¬ (dirtTo S k).length < (dirt S).length) : dirtTo S k = dirt S := by
  have := dirtTo_le S (S.length - k) k
  rw [show k + (S.length - k) = S.length by omega, dirtTo_all] at this
  exact this.2 (by omega)
theorem dirtTo_len (S : List (List Sec)) (k : Nat) : (dirtTo S k).length ≤ k := by
  unfold dirtTo
  exact Nat.le_trans (List.length_filter_le _ _) (by rw [List.length_range]; exact Nat.le_refl _)

set_option maxHeartbeats 2000000 in
theorem dirty_walk (p : Nat) (F : Nat → Prop) (st : Dk) (w : World) (h : Disk w p F st) :
    Calls Tryz.prog 86 #[.pointer (some ⟨p, 0, none⟩)] w fun e w' => ∃ v, e = .returned v ∧ IntRow w' w.heap.size v (dirt st.S) ∧ Below w.heap.size w w' := by
  obtain ⟨i0, hi, hz0, hz1, hz2⟩ := info_parts info_int
  obtain ⟨sb, mb, cs, V, hd, hF⟩ := h
  have hn4 := hd.ok.2.1
  obtain ⟨n, hn⟩ : ∃ n, n = st.S.length := ⟨_, rfl⟩
  have HD := Lib.hid hd; have HN := Lib.hid hn
  rw [← hn] at hn4
  have HN4 := Lib.hid hn4
  clear hd hF hn hn4
  go_enter Tryz.func86, Tryz.ntmps86
  go_wp2_with fail
  go_step3
  go_wp2_with fail
  go_step3
  go_wp2_with fail
  go_loopg [3, 4] n (fun gk v3 v4 wr => ∃ k : Nat, k + gk = n ∧ v4 = .int .i64 (k : Nat) ∧ IntRow wr w.heap.size v3 (dirtTo st.S k) ∧ Below w.heap.size w wr)
  case atStart => exact ⟨0, by omega, rfl, World.ownsRow_nil _ _ _ _, Below.refl _ _⟩
  case round =>
    obtain ⟨k, hgk, rfl, hrow, hb⟩ := hrel
    have hd := HD.out.touch (Touch.ofBelow (fun _ => False) hb) (fun _ _ hf => hf)
    obtain ⟨ad, cap, rfl, _, _, _⟩ := hrow.open
    have c1 := hd.c1
    have hlen := fun t => hd.map.len (t := 71) Tryz.underlying71 t
    obtain ⟨m, hm⟩ : ∃ m, m = (dirtTo st.S k).length := ⟨_, rfl⟩
    obtain ⟨M, hM⟩ : ∃ M, M = (dirt st.S).length := ⟨_, rfl⟩
    rw [← hM] at hlen
    rw [← hm]
    have HRW := Lib.hid hrow; have HB := Lib.hid hb; have HM := Lib.hid hm; have HMM := Lib.hid hM; have HDK := Lib.hid hd; have HGK := Lib.hid hgk
    clear hrow hb hm hM hd hgk
    by_cases hlt : (m : Int) < (M : Int)
    · have c0 : wr.cell? ⟨p, 0, none⟩ = some (.slice (some ⟨sb, 0, none⟩) n cs) := by rw [HN.out]; exact HDK.out.c0
      go_wp2_with fail
      obtain ⟨wo, hwo⟩ : ∃ wo : World, wo = wr := ⟨_, rfl⟩
      obtain rfl := hwo
      clear hlen
      go_loopg [3, 4] gk (fun gi v3 v4 wx => ∃ j : Nat, j + gi = n ∧ v3 = .slice ad m cap ∧ v4 = .int .i64 (j : Nat) ∧ k ≤ j ∧ (∀ i, k ≤ i → i < j → pend st.S i = []) ∧ wx = wo)
      case atStart => exact ⟨k, HGK.out, rfl, rfl, Nat.le_refl _, fun i h1 h2 => absurd h2 (by omega), rfl⟩
      case round =>
        obtain ⟨j, hgj, rfl, rfl, hkj, hno, rfl⟩ := hrel
        have hj4 : (j : Int) ≤ 4096 := by have := HN4.out; omega
        obtain ⟨gi, hgi⟩ : ∃ gi, gi = gk := ⟨_, rfl⟩
        have HNO := Lib.hid hno; have HGJ := Lib.hid hgj
        clear hno hgj
        by_cases hjn : (j : Int) < (n : Int)
        · have hlk := look_now HDK.out j (by have := HN4.out; omega)
          by_cases hp : pend st.S j ≠ []
          · rw [if_pos hp] at hlk
            obtain ⟨g, cp, cur, hv, _, hlc, hcm, _⟩ := (HDK.out.rows j hp).open hp
            rw [hv] at hlk
            have hpos : (0 : Int) < (((pend st.S j).length : Nat) : Int) := by have := List.length_pos_iff.2 hp; omega
            obtain ⟨q, hq⟩ : ∃ q, q = (pend st.S j).length := ⟨_, rfl⟩
            rw [← hq] at hlk hpos
            have hds : dirtTo st.S (j + 1) = dirtTo st.S k ++ [j] := by rw [dirtTo_succ, if_pos hp, dirtTo_skip st.S k j hkj HNO.out]
            have HDS := Lib.hid hds; have HBZ := Lib.hid HB.out.size
            have hml : m ≤ k := by rw [HM.out]; exact dirtTo_len _ _
            have HML := Lib.hid hml
            clear hp hv hlc hcm hq hds hml
            have hrow1 : wr.ownsRow w.heap.size 3 1 (.slice ad m cap) m (iv (dirtTo st.S k)) := by
              have := HRW.out
              unfold IntRow at this
              rw [← HM.out] at this
              exact this
            have HR1 := Lib.hid hrow1
            clear hrow1
            go_wp2_with (at_builtin; refine wpList_append_at _ rfl _ _ 63 63 rfl w.heap.size 3 i0 (.int .i64 0) 1 8 Tryz.underlying63 hi hz0 hz1 hz2 rfl (by decide) (.slice ad m cap) m (iv (dirtTo st.S k)) rfl (HR1.out.alloc _) _ 1 [.int .i64 (j : Nat)] rfl (src_one _ Tryz.underlying63 _ _ rfl _) ?_ ?_ ?_ ?_)
            · have h1 := HML.out; have h2 := HN4.out; have h3 := HGK.out; unfold maxLen; omega
            · have h1 := HML.out; have h2 := HN4.out; have h3 := HGK.out; omega
            · have := HBZ.out; simp; omega
            intro v' w3 hr3 hg3 hp3
            have hrow2 := HR1.out.alloc (.cells #[.int .i64 (j : Nat)] 3)
            have hb3 : Below w.heap.size w w3 := (HB.out.alloc HBZ.out (.cells #[.int .i64 (j : Nat)] 3)).trans ⟨hg3.os, hg3.tape, hg3.output, hg3.size, fun z hz => hg3.block z (by have := HBZ.out; simp; omega) (fun e => by have := (hrow2.lt z e.symm).1; omega)⟩
            have hr4 : IntRow w3 w.heap.size v' (dirtTo st.S (j + 1)) := by
              unfold IntRow
              rw [HDS.out, List.length_append, ← HM.out, iv_append]
              exact hr3
            have M1 := Lib.hid hr4; have M2 := Lib.hid hb3
            clear hr3 hg3 hp3 hrow2 hb3 hr4 hlk
            go_wp2_with fail
            go_roundg (n - (j + 1))
            case measure => have h1 := HGK.out; have h2 := HGJ.out; omega
            case rel => exact ⟨j + 1, by omega, by go_num, M1.out, M2.out⟩
          · rw [if_neg hp] at hlk
            have hp' : pend st.S j = [] := by simpa using hp
            have HPE := Lib.hid hp'
            clear hp hp'
            go_wp2_with fail
            go_roundg (gk - 1)
            case measure => have h2 := HGJ.out; omega
            case rel =>
              refine ⟨j + 1, by have h2 := HGJ.out; omega, rfl, by go_num, by omega, fun i h1 h2 => ?_, rfl⟩
              by_cases e : i = j
              · rw [e]; exact HPE.out
              · exact HNO.out i h1 (by omega)
        · have hjn' : j = n := by have := HGJ.out; omega
          have hdn : dirtTo st.S k = dirt st.S := by
            rw [← dirtTo_all, ← HN.out, ← hjn']
            exact (dirtTo_skip st.S k j hkj HNO.out).symm
          have HDN := Lib.hid hdn
          clear hjn' hdn
          go_wp2_with fail
          try rw [Exit.noGoto_ret]
          go_ret
          refine ⟨.slice ad m cap, rfl, ?_, HB.out⟩
          rw [← HDN.out, HM.out]
          exact HRW.out
    · have hdn : dirtTo st.S k = dirt st.S := dirtTo_done st.S k (by have := HN.out; have := HGK.out; omega) (by have := HM.out; have := HMM.out; omega)
      have HDN := Lib.hid hdn
      clear hdn
      go_wp2_with fail
      try rw [Exit.noGoto_ret]
      go_ret
      refine ⟨.slice ad m cap, rfl, ?_, HB.out⟩
      rw [← HDN.out, HM.out]
      exact HRW.out
end Go.Proofs.YtjjejkhekmpgcaaGreat

namespace Go.Proofs.YtjjejkhekmpgcaaGreat
set_option maxRecDepth 4000
open Go.RowKit

/-- these numbers lie there -/
def intsAt (w : World) (ad : Option Addr) (l : List Int) : Prop :=
  l = [] ∨ ∃ b off, ad = some ⟨b, off, none⟩ ∧ b < w.heap.size ∧ ∀ i (h : i < l.length), w.cell? ⟨b, off + i, none⟩ = some (.int .i64 l[i])
theorem intsAt_touch {w w' : World} {F : Nat → Prop} {ad : Option Addr} {l : List Int} (h : intsAt w ad l) (ht : Touch F w w') (hF : ∀ b off, ad = some ⟨b, off, none⟩ → ¬ F b) : intsAt w' ad l := by
  rcases h with h | ⟨b, off, h1, h2, h3⟩
  · exact .inl h
  · refine .inr ⟨b, off, h1, by have := ht.size; omega, fun i hi => ?_⟩
    rw [World.cell?_of_block (ht.block b h2 (hF b off h1))]
    exact h3 i hi
/-- which one is kept -/
def crashK (keep : List Int) (i m : Nat) : Nat := if i < keep.length then ((keep.getD i 0).tmod m).natAbs else 0
theorem tmod_lt (a : Int) (m : Nat) (hm : 0 < m) : (a.tmod m).natAbs < m := by
  rw [Int.natAbs_tmod]
  exact Nat.mod_lt _ (by simpa using hm)
theorem crashK_lt (keep : List Int) (i m : Nat) (hm : 0 < m) : crashK keep i m < m := by
  unfold crashK
  split
  · exact tmod_lt _ m hm
  · exact hm

/-- sectors, settled one by one -/
def settleN (pick : Nat → List Sec → Sec) (S : List (List Sec)) (l : List Nat) : Nat → List (List Sec)
  | 0 => S
  | k + 1 => putS (settleN pick S l k) (l.getD k 0) [pick k ((settleN pick S l k).getD (l.getD k 0) [])]
theorem settleN_length (pick : Nat → List Sec → Sec) (S : List (List Sec)) (l : List Nat) : ∀ k, (settleN pick S l k).length = S.length
  | 0 => rfl
  | k + 1 => by rw [settleN, putS_length, settleN_length pick S l k]
theorem getD_put (S : List (List Sec)) (i j : Nat) (L : List Sec) (h : j ≠ i) : (putS S i L).getD j [] = S.getD j [] := by
  unfold putS
  rw [List.getD_eq_getElem?_getD, List.getElem?_set_ne (fun e => h e.symm), List.getD_eq_getElem?_getD]
theorem dirt_nodup (S : List (List Sec)) : (dirt S).Nodup := List.Pairwise.filter _ List.nodup_range
theorem dirt_mem {S : List (List Sec)} {i : Nat} (h : i ∈ dirt S) : i < S.length ∧ pend S i ≠ [] := by
  obtain ⟨h1, h2⟩ := List.mem_filter.1 h
  exact ⟨List.mem_range.1 h1, of_decide_eq_true h2⟩
/-- those that are still to come are as they were -/
theorem settleN_rest (pick : Nat → List Sec → Sec) (S : List (List Sec)) (l : List Nat) (hl : l.Nodup) : ∀ k j, k ≤ j → j < l.length → (settleN pick S l k).getD (l.getD j 0) [] = S.getD (l.getD j 0) []
  | 0, _, _, _ => rfl
  | k + 1, j, hkj, hj => by
    rw [settleN, getD_put _ _ _ _ (fun e => ?_), settleN_rest pick S l hl k j (by omega) hj]
    have hk : k < l.length := by omega
    rw [List.getD_eq_getElem?_getD, List.getD_eq_getElem?_getD, List.getElem?_eq_getElem hj, List.getElem?_eq_getElem hk] at e
    exact List.pairwise_iff_getElem.1 hl k j hk hj (by omega) (Eq.symm e)
theorem settleN_ok {pick : Nat → List Sec → Sec} (hp : ∀ i L, L ≠ [] → (∀ s ∈ L, s.length = 64) → (pick i L).length = 64) {S : List (List Sec)} (ok : secOk S) (l : List Nat) (hl : ∀ i ∈ l, i < S.length) : ∀ k, k ≤ l.length → secOk (settleN pick S l k)
  | 0, _ => ok
  | k + 1, hk => by
    have ih := settleN_ok hp ok l hl k (by omega)
    rw [settleN]
    have hi : l.getD k 0 < (settleN pick S l k).length := by
      rw [settleN_length]
      refine hl _ ?_
      rw [List.getD_eq_getElem?_getD, List.getElem?_eq_getElem (by omega)]
      exact List.getElem_mem _
    have hg := getD_ok ih hi
    exact secOk_put ih _ (by simp) (fun s hs => by rw [List.mem_singleton.1 hs]; exact hp k _ hg.1 hg.2)

set_option maxHeartbeats 1000000 in
theorem flush1_walk (j : Nat) (L : List Sec) (g cap : Nat) (w : World) (h : SecRow w (.slice (some ⟨g, 0, none⟩) L.length cap) L) (hL : L ≠ []) (h64 : ∀ s ∈ L, s.length = 64) (hc : L.length ≤ 9223372036854775807) :
    Calls Tryz.prog 113 #[.int .i64 j, .slice (some ⟨g, 0, none⟩) L.length cap] w fun e w' => e = .returned (.agg (bv (L.getLastD [])).toArray) ∧ Below w.heap.size w w' := by
  obtain ⟨s, hs⟩ : ∃ s, s = L.getLastD [] := ⟨_, rfl⟩
  have hpos := List.length_pos_iff.2 hL
  have hlast : L[L.length - 1]? = some s := by
    rw [← List.getLast?_eq_getElem?, hs, List.getLast?_eq_some_getLast hL, List.getLastD_eq_getLast?, List.getLast?_eq_some_getLast hL]
    rfl
  have hsl : s.length = 64 := h64 s (List.mem_of_getElem? hlast)
  have hbs : (bv s).length = 64 := by rw [bv_length, hsl]
  have hload : ∀ j u, (bv s)[j]? = some u → w.cell? ⟨g, (L.length - 1) * 64 + j, none⟩ = some u := fun j u hu => by
    refine h.cell h64 (L.length - 1) (by omega) j u ?_
    rw [List.getElem?_eq_getElem (by omega)] at hlast
    rw [Option.some.inj hlast]
    exact hu
  have hg : g < w.heap.size := (h.open hL).elim fun g' h' => by obtain ⟨_, _, hv, hb, _⟩ := h'; cases hv; exact lt_of_block hb
  obtain ⟨m, hm⟩ : ∃ m, m = L.length := ⟨_, rfl⟩
  rw [← hm] at hload hpos hc ⊢
  rw [← hs]
  obtain ⟨W, hW⟩ : ∃ W, W = w.alloc (.cells (List.replicate 64 (Value.int .u8 0)).toArray 105) := ⟨_, rfl⟩
  obtain ⟨x, hx⟩ : ∃ x, x = w.heap.size := ⟨_, rfl⟩
  have hb1 : Below w.heap.size w W := by rw [hW]; exact (Below.refl w.heap.size w).alloc (Nat.le_refl _) _
  have g1 : W.heap[x]? = some (.cells (List.replicate 64 (Value.int .u8 0)).toArray 105 (0, 0)) := by rw [hW, hx]; exact heap_alloc_top _ _
  have hload1 : ∀ j u, (bv s)[j]? = some u → W.cell? ⟨g, (m - 1) * 64 + j, none⟩ = some u := fun j u hu => (hb1.cell (p := ⟨g, (m - 1) * 64 + j, none⟩) hg).trans (hload j u hu)
  have HL := Lib.hid hload1; have HB1 := Lib.hid hb1; have G1 := Lib.hid g1; have HBS := Lib.hid hbs; have HW := Lib.hid hW; have HX := Lib.hid hx
  have hpi : (1 : Int) ≤ (m : Int) := by omega
  clear h hL h64 hs hlast hsl hbs hload hg hm hW hx hb1 g1 hload1
  go_enter Tryz.func113, Tryz.ntmps113
  go_upto_region 1 with fail
  refine wp_world HW.out ?_
  rw [← HX.out]
  go_wp2_with (first
    | (refine wpList_cells 105 _ rfl g ((m - 1) * 64) rfl rfl (bv s) _ HL.out Tryz.underlying105 rfl (by rw [HBS.out]; exact info_sec1) ?_)
    | (refine wpList_store_row rfl 105 _ _ rfl x (bv s).toArray rfl rfl 105 _ G1.out (by rw [List.size_toArray, HBS.out]; exact info_sec1) (by simp [HBS.out]) (by rw [List.all_toArray]; exact List.all_eq_true.2 (bv_one s)) ?_))
  have hblk := setRow_heap W x _ (bv s).toArray 105 (0, 0) G1.out
  exact bodyPost_ret (v := .agg (bv s).toArray) (results_cell_row rfl _ _ x 105 (bv s).toArray (0, 0) _ rfl hblk Tryz.underlying105 rfl (by rw [List.size_toArray, HBS.out]; exact info_sec1)) rfl ⟨rfl, (touch_setRow (F := fun k => k = x) W x _ rfl).below HB1.out HB1.out.size (fun k hk => by rw [hk, HX.out]; exact Nat.le_refl _)⟩

set_option maxHeartbeats 2000000 in
theorem crash1_walk (kb : Nat) (adk : Option Addr) (capk : Nat) (keep : List Int) (j : Nat) (L : List Sec) (g cap : Nat) (w : World) (hkb : w.heap[kb]? = some (.cells #[.slice adk keep.length capk] 63 (0, 0))) (hki : intsAt w adk keep) (hkl : keep.length ≤ 9223372036854775807)
    (hkr : ∀ x ∈ keep, -9223372036854775808 ≤ x ∧ x ≤ 9223372036854775807) (h : SecRow w (.slice (some ⟨g, 0, none⟩) L.length cap) L) (hL : L ≠ []) (h64 : ∀ s ∈ L, s.length = 64) (hc : L.length ≤ 2000000000) :
    Calls Tryz.prog 60 #[.int .i64 j, .slice (some ⟨g, 0, none⟩) L.length cap, .pointer (some ⟨kb, 0, none⟩)] w fun e w' => e = .returned (.agg (bv (L.getD (crashK keep j L.length) [])).toArray) ∧ Below w.heap.size w w' := by
  have hpos := List.length_pos_iff.2 hL
  obtain ⟨q, hq⟩ : ∃ q, q = crashK keep j L.length := ⟨_, rfl⟩
  have hql : q < L.length := by rw [hq]; exact crashK_lt keep j _ hpos
  obtain ⟨s, hs⟩ : ∃ s, s = L.getD q [] := ⟨_, rfl⟩
  have hsg : s = L[q] := by rw [hs, List.getD_eq_getElem?_getD, List.getElem?_eq_getElem hql]; rfl
  have hsl : s.length = 64 := by rw [hsg]; exact h64 _ (List.getElem_mem _)
  have hbs : (bv s).length = 64 := by rw [bv_length, hsl]
  have hload : ∀ j u, (bv s)[j]? = some u → w.cell? ⟨g, q * 64 + j, none⟩ = some u := fun j u hu => by
    refine h.cell h64 q hql j u ?_
    rw [← hsg]
    exact hu
  have hg : g < w.heap.size := (h.open hL).elim fun g' h' => by obtain ⟨_, _, hv, hb, _⟩ := h'; cases hv; exact lt_of_block hb
  rw [← hq, ← hs]
  obtain ⟨m, hm⟩ : ∃ m, m = L.length := ⟨_, rfl⟩
  obtain ⟨n, hn⟩ : ∃ n, n = keep.length := ⟨_, rfl⟩
  rw [← hm] at hpos hc hql hq ⊢
  rw [← hn] at hkb hkl
  obtain ⟨W, hW⟩ : ∃ W, W = w.alloc (.cells (List.replicate 64 (Value.int .u8 0)).toArray 105) := ⟨_, rfl⟩
  obtain ⟨x, hx⟩ : ∃ x, x = w.heap.size := ⟨_, rfl⟩
  have hb1 : Below w.heap.size w W := by rw [hW]; exact (Below.refl w.heap.size w).alloc (Nat.le_refl _) _
  have g1 : W.heap[x]? = some (.cells (List.replicate 64 (Value.int .u8 0)).toArray 105 (0, 0)) := by rw [hW, hx]; exact heap_alloc_top _ _
  have hload1 : ∀ j u, (bv s)[j]? = some u → W.cell? ⟨g, q * 64 + j, none⟩ = some u := fun j u hu => (hb1.cell (p := ⟨g, q * 64 + j, none⟩) hg).trans (hload j u hu)
  have hck : W.cell? ⟨kb, 0, none⟩ = some (.slice adk n capk) := cell_at ((hb1.block kb (lt_of_block hkb)).trans hkb) rfl
  have hxk : kb ≠ x := by have := lt_of_block hkb; omega
  have hki1 := intsAt_touch hki (Touch.ofBelow (fun _ => False) hb1) (fun _ _ _ hf => hf)
  have HL := Lib.hid hload1; have HB1 := Lib.hid hb1; have G1 := Lib.hid g1; have HBS := Lib.hid hbs; have HW := Lib.hid hW; have HX := Lib.hid hx; have HQ := Lib.hid hq; have HQL := Lib.hid hql; have HN := Lib.hid hn; have HKI := Lib.hid hki1; have HKR := Lib.hid hkr; have HKL := Lib.hid hkl; have HKB := Lib.hid hkb; have HGW := Lib.hid (Nat.lt_of_lt_of_le hg hb1.size)
  have hpi : (1 : Int) ≤ (m : Int) := by omega
  have hmi : (m : Int) ≤ 2000000000 := by omega
  clear h hL h64 hs hsg hsl hbs hload hg hm hn hW hx hb1 g1 hload1 hq hql hki hkr hkl hki1 hpos hc hkb
  by_cases hlt : (j : Int) < (n : Int)
  · rcases HKI.out with hnil | ⟨bk, off, rfl, hbk, hcs⟩
    · have := HN.out; rw [hnil] at this; simp at this; omega
    have hjn : j < keep.length := by have := HN.out; omega
    have hck2 := hcs j hjn
    obtain ⟨k, hk⟩ : ∃ k, k = keep[j] := ⟨_, rfl⟩
    have hkk := HKR.out keep[j] (List.getElem_mem _)
    rw [← hk] at hck2 hkk
    have hq2 : q = (k.tmod m).natAbs := by
      rw [HQ.out]; unfold crashK
      rw [if_pos hjn, List.getD_eq_getElem?_getD, List.getElem?_eq_getElem hjn, hk]; rfl
    obtain ⟨r, hr⟩ : ∃ r, r = k.tmod m := ⟨_, rfl⟩
    rw [← hr] at hq2
    have hrq : max r (-r) = (q : Int) := by omega
    have hrb : -2000000000 ≤ r ∧ r ≤ 2000000000 := by have := HQL.out; omega
    have HCK := Lib.hid hck; have HCK2 := Lib.hid hck2; have HR := Lib.hid hr; have HRQ := Lib.hid hrq; have HRB := Lib.hid hrb; have HKK := Lib.hid hkk
    clear hk hq2 hr hrq hrb hkk hcs hjn
    go_enter Tryz.func60, Tryz.ntmps60
    go_upto_region 1 with fail
    refine wp_world HW.out ?_
    rw [← HX.out]
    go_upto_region 3 with fail
    have c0 : ∀ y : Sub W.heap.size W, y.val.cell? ⟨kb, 0, none⟩ = some (.slice (some ⟨bk, off, none⟩) n capk) := fun y => sub_cell HCK.out (block_lt_of_cell HCK.out) y
    have c1 : ∀ y : Sub W.heap.size W, y.val.cell? ⟨bk, off + j, none⟩ = some (.int .i64 k) := fun y => sub_cell HCK2.out hbk y
    clear hck hck2
    refine wp_region_sub (W := W) (B := W.heap.size) (by kernel_rfl) (by kernel_rfl) (Below.refl _ _) ?_
    repeat (any_goals (first
      | go_big_quiet_skip
      | go_big_quiet_step (fail)
      | quiet_step (fail)))
    have he : (if k.tmod m < wrap64 (-k.tmod m) then wrap64 (-k.tmod m) else k.tmod m) = (q : Int) := by
      have h1 := HR.out; have h2 := HRQ.out; have h3 := HRB.out
      rw [← h1, IntWalk.wrap64_in _ ⟨by omega, by omega⟩]
      split <;> omega
    rw [he]
    refine wpQuiet_nil ?_
    rintro w9 ⟨x9, rfl⟩
    have hb9 := x9.below
    have hxW : x < W.heap.size := lt_of_block G1.out
    have g2 : x9.val.heap[x]? = some (.cells (List.replicate 64 (Value.int .u8 0)).toArray 105 (0, 0)) := (hb9.block x hxW).trans G1.out
    have hld : ∀ j u, (bv s)[j]? = some u → x9.val.cell? ⟨g, q * 64 + j, none⟩ = some u := fun j u hu => (hb9.cell (p := ⟨g, q * 64 + j, none⟩) HGW.out).trans (HL.out j u hu)
    have HL2 := Lib.hid hld; have G2 := Lib.hid g2
    have HB2 := Lib.hid (HB1.out.trans (hb9.mono HB1.out.size))
    clear hld g2
    go_wp2_with (first
      | (refine wpList_cells 105 _ rfl g (q * 64) rfl rfl (bv s) _ HL2.out Tryz.underlying105 rfl (by rw [HBS.out]; exact info_sec1) ?_)
      | (refine wpList_store_row rfl 105 _ _ rfl x (bv s).toArray rfl rfl 105 _ G2.out (by rw [List.size_toArray, HBS.out]; exact info_sec1) (by simp [HBS.out]) (by rw [List.all_toArray]; exact List.all_eq_true.2 (bv_one s)) ?_))
    have hblk := setRow_heap x9.val x _ (bv s).toArray 105 (0, 0) G2.out
    exact bodyPost_ret (v := .agg (bv s).toArray) (results_cell_row rfl _ _ x 105 (bv s).toArray (0, 0) _ rfl hblk Tryz.underlying105 rfl (by rw [List.size_toArray, HBS.out]; exact info_sec1)) rfl ⟨rfl, (touch_setRow (F := fun k => k = x) x9.val x _ rfl).below HB2.out HB2.out.size (fun k hk => by rw [hk, HX.out]; exact Nat.le_refl _)⟩
  · have hq0 : q = 0 := by
      have := HN.out
      rw [HQ.out]; unfold crashK
      rw [if_neg (by omega)]
    subst hq0
    have HCK := Lib.hid hck
    go_enter Tryz.func60, Tryz.ntmps60
    go_upto_region 1 with fail
    refine wp_world HW.out ?_
    rw [← HX.out]
    go_wp2_with (first
      | (refine wpList_cells 105 _ rfl g (0 * 64) rfl rfl (bv s) _ HL.out Tryz.underlying105 rfl (by rw [HBS.out]; exact info_sec1) ?_)
      | (refine wpList_store_row rfl 105 _ _ rfl x (bv s).toArray rfl rfl 105 _ G1.out (by rw [List.size_toArray, HBS.out]; exact info_sec1) (by simp [HBS.out]) (by rw [List.all_toArray]; exact List.all_eq_true.2 (bv_one s)) ?_))
    have hblk := setRow_heap W x _ (bv s).toArray 105 (0, 0) G1.out
    exact bodyPost_ret (v := .agg (bv s).toArray) (results_cell_row rfl _ _ x 105 (bv s).toArray (0, 0) _ rfl hblk Tryz.underlying105 rfl (by rw [List.size_toArray, HBS.out]; exact info_sec1)) rfl ⟨rfl, (touch_setRow (F := fun k => k = x) W x _ rfl).below HB1.out HB1.out.size (fun k hk => by rw [hk, HX.out]; exact Nat.le_refl _)⟩
end Go.Proofs.YtjjejkhekmpgcaaGreat

namespace Go.Proofs.YtjjejkhekmpgcaaGreat
set_option maxRecDepth 4000
open Go.RowKit

theorem mixT_load_cells {P : Program} {ops : Array Oper} {Q : Exit → Act → World → Prop} {S : World → Prop} {o : Oper} {k : Bool} {rest : List (Oper × Bool × Bool)} {a : Act} {w : World} (ty : TypeId) (x : Operand) (ho : o.op = .load ty x) (hw : Region.wanted o (yielded ops a.tmps) = true)
    (b off : Nat) (hx : a.eval x = .pointer (some ⟨b, off, none⟩)) (cs : List Value) (d : TypeDesc) (hc : ∀ w', S w' → ∀ j u, cs[j]? = some u → w'.cell? ⟨b, off + j, none⟩ = some u)
    (hu : P.underlying ty = some d) (hd : (match d with | .struct _ | .array _ _ => true | _ => false) = true) (hi : (P.info? ty).map (·.size) = some cs.length)
    (h : wpMixT P ops Q S rest (a.put o.dst (.agg cs.toArray)) w) : wpMixT P ops Q S ((o, true, k) :: rest) a w :=
  mixT_take hw _ (fun w' hw' => by
    unfold execOp
    simp only [ho, hx, Instr.loadAt, Instr.sureAddr, Sem.run_bind, Sem.run_pure, Result.andThen_ok, run_load_cells w' b off ty cs d (hc w' hw') hu hd hi]) h

theorem wpList_delete_L {P : Program} {k e t : TypeId} {w : World} {b n : Nat} {f : Lit → Option Value} {ops : Array Oper} {rest : List Oper} {o : Oper} {a : Act} {Q : Exit → Act → World → Prop} (hgd : o.guard = none) (m x : Operand)
    (ho : o.op = .call { callee := .builtin .delete, args := #[m, x], argTypes := #[t, k] })
    (h : MapL P k w b f n) (KK : Go.Maps.Keyed P k) (ht : P.underlying t = some (.map k e)) {key : Value} {kl : Lit} (hkey : keyOf P k key = some kl)
    (hm : a.eval m = .map (some b)) (hx : a.eval x = key)
    (hK : ∀ w', MapL P k w' b (delF f kl) (if (f kl).isSome then n - 1 else n) → w.grownBy w' (some b) → wpList P ops Q rest (a.put o.dst (.tuple #[])) w') : wpList P ops Q (o :: rest) a w := by
  refine wpList_plain hgd fun K hK' => ?_
  obtain ⟨w', hrun, h1, h2⟩ := h.drop KK ht hkey o.type
  unfold Oper.wp execOp
  simp only [ho, resolve, invoke, builtin, Sem.run_bind, Sem.run_pure, Result.andThen_ok, List.map_toArray, List.map_cons, List.map_nil, hm, hx, hrun]
  exact hK' _ _ (hK w' h1 h2)

theorem IntRow.touch {w w' : World} {base : Nat} {v : Value} {l : List Nat} {F : Nat → Prop} (h : IntRow w base v l) (ht : Touch F w w') (hn : ∀ k, F k → k < base) : IntRow w' base v l := by
  rcases h with ⟨h1, h2⟩
  refine ⟨h1, ?_⟩
  rcases h2 with h2 | ⟨g, cap, cur, rfl, hb, hg, h3⟩
  · exact .inl h2
  · exact .inr ⟨g, cap, cur, rfl, hb, (ht.block g (lt_of_block hg) (fun hf => by have := hn g hf; omega)).trans hg, h3⟩

theorem nowF_drop {S : List (List Sec)} {x : Nat} (hx : x < S.length) (s : Sec) (V : Nat → Value) (l : Lit) (hl : WideAt.IsKeyLit l) :
    nowF (putS S x [s]) V l = delF (nowF S V) (.int .i64 x) l := by
  unfold delF
  by_cases e : l = .int .i64 x
  · subst e
    rw [if_pos (WideAt.sameKey_self hl)]
    unfold nowF
    simp only [Int.toNat_natCast]
    rw [if_neg (fun h => h.2 (by rw [pend_put hx, if_pos rfl]; rfl))]
  · rw [if_neg (by rw [Maps.sameKey_ne e]; simp)]
    cases l with
    | int k n =>
      cases k with
      | i64 =>
        unfold nowF
        simp only
        by_cases h0 : 0 ≤ n
        · have hne : n.toNat ≠ x := fun h => e (by rw [← h, Int.toNat_of_nonneg h0])
          rw [pend_put hx, if_neg hne]
        · rw [if_neg (fun h => h0 h.1), if_neg (fun h => h0 h.1)]
      | _ => rfl
    | _ => rfl

/-- one sector is settled -/
theorem disk_settle {w0 wF : World} {p sb mb cs : Nat} {V : Nat → Value} {st : Dk} {x : Nat} {s : Sec}
    (hd : DiskAt w0 p sb mb cs V st) (hx : pend st.S x ≠ []) (hs : s.length = 64) (ht : Touch (fun k => k = sb ∨ k = mb) w0 wF)
    (hr : SecRow wF (.slice (some ⟨sb, 0, none⟩) st.S.length cs) ((safes st.S).set x s))
    (hm : MapL Tryz.prog 3 wF mb (delF (nowF st.S V) (.int .i64 x)) (if (nowF st.S V (.int .i64 x)).isSome then (dirt st.S).length - 1 else (dirt st.S).length)) :
    DiskAt wF p sb mb cs V ⟨putS st.S x [s], st.calls, st.armed, st.down⟩ ∧ ∀ k, dfoot p sb mb V (putS st.S x [s]) k → dfoot p sb mb V st.S k := by
  have hxl := pend_lt hx
  have hlen : (putS st.S x [s]).length = st.S.length := putS_length _ _ _
  have hp : ∀ j, pend (putS st.S x [s]) j = if j = x then [] else pend st.S j := fun j => by rw [pend_put hxl]; rfl
  have hpj : ∀ j, pend (putS st.S x [s]) j ≠ [] → j ≠ x ∧ pend st.S j ≠ [] ∧ pend (putS st.S x [s]) j = pend st.S j := fun j hj => by
    have h1 := hp j
    by_cases e : j = x
    · rw [if_pos e] at h1; exact absurd h1 hj
    · rw [if_neg e] at h1; exact ⟨e, by rw [← h1]; exact hj, h1⟩
  refine ⟨⟨?_, ?_, ?_, ?_, ?_, ?_, secOk_put hd.ok x (by simp) (fun t ht => by rw [List.mem_singleton.1 ht]; exact hs), hd.arm⟩, fun k hk => ?_⟩
  · show wF.heap[p]? = some (.cells #[.slice (some ⟨sb, 0, none⟩) (putS st.S x [s]).length cs, _, _, _, _] _ _)
    rw [hlen]
    exact (ht.block p (lt_of_block hd.blk) (fun h => h.elim hd.ne1 hd.ne2)).trans hd.blk
  · show SecRow wF (.slice (some ⟨sb, 0, none⟩) (putS st.S x [s]).length cs) (safes (putS st.S x [s]))
    rw [hlen, safes_put]
    exact hr
  · show MapL Tryz.prog 3 wF mb (nowF (putS st.S x [s]) V) (dirt (putS st.S x [s])).length
    refine hm.congr (fun l hl => nowF_drop hxl s V l hl) ?_
    have hns : (nowF st.S V (.int .i64 x)).isSome = true := by
      unfold nowF
      simp only [Int.toNat_natCast]
      rw [if_pos ⟨Int.natCast_nonneg _, hx⟩]
      rfl
    rw [hns, if_pos rfl]
    have := dirt_more (S := putS st.S x [s]) (T := st.S) (i := x) hlen.symm (by rw [hlen]; exact hxl) (by rw [hp, if_pos rfl]) hx (fun j hj => by rw [hp, if_neg hj])
    omega
  · intro j hj
    obtain ⟨h1, h2, h3⟩ := hpj j hj
    show SecRow wF (V j) (pend (putS st.S x [s]) j)
    rw [h3]
    refine (hd.rows j h2).touch ht (fun k e h => ?_)
    have := hd.rowNe h2 e
    exact h.elim this.2.1 this.2.2.1
  · intro i j hij hi hj
    exact hd.apart i j hij (hpj i hi).2.1 (hpj j hj).2.1
  · intro i hi
    exact hd.apartS i (hpj i hi).2.1
  · rcases hk with h | h | h | ⟨i, hi, e⟩
    · exact .inl h
    · exact .inr (.inl h)
    · exact .inr (.inr (.inl h))
    · exact .inr (.inr (.inr ⟨i, (hpj i hi).2.1, e⟩))

theorem row_base0 {w : World} {b e sz n : Nat} {v : Value} {xs : List Value} (h : w.ownsRow b e sz v n xs) : w.ownsRow 0 e sz v n xs :=
  ⟨h.1, h.2.imp id (fun ⟨g, cap, cur, h1, _, h3⟩ => ⟨g, cap, cur, h1, Nat.zero_le _, h3⟩)⟩

/-- what settle leaves -/
def SettlePost (p : Nat) (F : Nat → Prop) (w : World) (st : Dk) (e : Ending) (w' : World) : Prop := e = .returned (.tuple #[]) ∧ ∃ F', Disk w' p F' st ∧ (∀ k, F' k → F k) ∧ Touch F w w'

set_option maxHeartbeats 4000000 in
theorem settle1_walk (_kb p : Nat) (F : Nat → Prop) (st : Dk) (pick : Nat → List Sec → Sec) (w : World) (h : Disk w p F st) (hlen : ∀ i, (pend st.S i).length ≤ 1000000000)
    (hpl : ∀ i L, L ≠ [] → (∀ s ∈ L, s.length = 64) → (pick i L).length = 64)
    (hpick : ∀ (j : Nat) (L : List Sec) (g cap : Nat) (w' : World), Touch F w w' → SecRow w' (.slice (some ⟨g, 0, none⟩) L.length cap) L → L ≠ [] → (∀ s ∈ L, s.length = 64) → L.length ≤ 2000000000 →
      Calls Tryz.prog 113 #[.int .i64 j, .slice (some ⟨g, 0, none⟩) L.length cap] w' fun e w'' => e = .returned (.agg (bv (pick j L)).toArray) ∧ Below w'.heap.size w' w'') :
    Calls Tryz.prog 59 #[.pointer (some ⟨p, 0, none⟩), .func (.func 113) #[] #[]] w fun e w' => SettlePost p F w ⟨settleN pick st.S (dirt st.S) (dirt st.S).length, st.calls, st.armed, st.down⟩ e w' := by
  obtain ⟨i0, hi, hz0, hz1, hz2⟩ := info_sec
  have hdw := dirty_walk p F st w h
  have hok : secOk st.S := by obtain ⟨_, _, _, _, hd, _⟩ := h; exact hd.ok
  obtain ⟨l, hl⟩ : ∃ l, l = dirt st.S := ⟨_, rfl⟩
  have hlS : ∀ x ∈ l, x < st.S.length ∧ pend st.S x ≠ [] := fun x hx => dirt_mem (by rw [← hl]; exact hx)
  have hnd : l.Nodup := by rw [hl]; exact dirt_nodup _
  rw [← hl] at hdw ⊢
  have hFlt : ∀ k, F k → k < w.heap.size := fun k hk => h.lt k hk
  have HH := Lib.hid h; have HDW := Lib.hid hdw; have HLS := Lib.hid hlS; have HND := Lib.hid hnd; have HPK := Lib.hid hpick; have HPL := Lib.hid hpl; have HLEN := Lib.hid hlen; have HOK := Lib.hid hok; have HFL := Lib.hid hFlt
  clear h hdw hl hlS hnd hpick hpl hlen hok hFlt
  go_enter Tryz.func59, Tryz.ntmps59
  go_wp2_with fail
  refine HDW.out.mono ?_
  rintro e w1 ⟨v, rfl, hrow, hb⟩
  obtain ⟨ad, cap, rfl, hlc, hcm, hcs⟩ := hrow.open
  have hl31 : l.length ≤ 9223372036854775807 := by omega
  obtain ⟨n, hn⟩ : ∃ n, n = l.length := ⟨_, rfl⟩
  have HRW := Lib.hid hrow; have HB := Lib.hid hb; have HN := Lib.hid hn
  rw [← hn] at hlc hl31 ⊢
  have K0 := Lib.hid (HH.out.below hb)
  clear hrow hb hcs HH HDW
  go_wp2_with fail
  go_loopg [9] n (fun gk i wr => ∃ k F', k + gk = n ∧ i = .int .i64 (k : Nat) ∧ Disk wr p F' ⟨settleN pick st.S l k, st.calls, st.armed, st.down⟩ ∧ (∀ x, F' x → F x) ∧ Touch F w wr ∧ IntRow wr w.heap.size (.slice ad l.length cap) l)
  case atStart => exact ⟨0, F, by omega, rfl, K0.out, fun _ h => h, Touch.ofBelow F HB.out, HRW.out⟩
  case round =>
    obtain ⟨k, F', hgk, rfl, hdk, hFF, hT, hrow⟩ := hrel
    have HDK := Lib.hid hdk; have HFF := Lib.hid hFF; have HT := Lib.hid hT; have HR := Lib.hid hrow; have HGK := Lib.hid hgk
    clear hdk hFF hT hrow hgk
    by_cases hlt : (k : Int) < (n : Int)
    · have hkl : k < l.length := by have := HN.out; omega
      obtain ⟨ad', cap', hv, _, _, hc⟩ := HR.out.open
      simp only [Value.slice.injEq, true_and] at hv
      obtain ⟨rfl, rfl⟩ := hv
      rcases hc with hnil | ⟨g, rfl, hg1, hg2, hcs⟩
      · rw [hnil] at hkl; simp at hkl
      have cx := hcs k hkl
      obtain ⟨x, hx⟩ : ∃ x, x = l[k] := ⟨_, rfl⟩
      have hxm := HLS.out x (by rw [hx]; exact List.getElem_mem hkl)
      have hxd : l.getD k 0 = x := by rw [List.getD_eq_getElem?_getD, List.getElem?_eq_getElem hkl, hx]; rfl
      have hrest := settleN_rest pick st.S l HND.out k k (Nat.le_refl _) hkl
      have hSl := settleN_length pick st.S l k
      have hsucc : settleN pick st.S l (k + 1) = putS (settleN pick st.S l k) (l.getD k 0) [pick k ((settleN pick st.S l k).getD (l.getD k 0) [])] := rfl
      rw [hxd] at hrest hsucc
      have hpe : pend (settleN pick st.S l k) x = pend st.S x := by unfold pend; rw [hrest]
      rw [← hx] at cx
      obtain ⟨S, hS⟩ : ∃ S, S = settleN pick st.S l k := ⟨_, rfl⟩
      have HDK2 := HDK.out
      rw [← hS] at hrest hSl hsucc hpe HDK2
      obtain ⟨sb, mb, cs, V, hd, hF⟩ := HDK2
      have hn4 := hd.ok.2.1
      have hxS : x < S.length := by rw [hSl]; exact hxm.1
      have hxp : pend S x ≠ [] := by rw [hpe]; exact hxm.2
      obtain ⟨L, hL⟩ : ∃ L, L = S.getD x [] := ⟨_, rfl⟩
      rw [← hL] at hsucc
      have hgk := getD_ok hd.ok hxS
      rw [← hL] at hgk
      obtain ⟨s, hs⟩ : ∃ s, s = pick k L := ⟨_, rfl⟩
      have hs64 : s.length = 64 := by rw [hs]; exact HPL.out k L hgk.1 hgk.2
      rw [← hs] at hsucc
      obtain ⟨n4, hn4e⟩ : ∃ n4, n4 = S.length := ⟨_, rfl⟩
      have hx4 : (x : Int) < (n4 : Int) := by omega
      have hn44 : (n4 : Int) ≤ 4096 := by have := hn4; simp only at this; omega
      have HD := Lib.hid hd; have HF := Lib.hid hF; have HXP := Lib.hid hxp; have HGK2 := Lib.hid hgk; have HS64 := Lib.hid hs64; have HSU := Lib.hid hsucc; have HPE := Lib.hid hpe; have HXM := Lib.hid hxm; have HLL := Lib.hid hL; have HSS := Lib.hid hs; have HN4 := Lib.hid hn4e; have HKL := Lib.hid hkl; have HG := Lib.hid (And.intro hg1 hg2); have HXS := Lib.hid hxS
      clear hcs hx hxd hrest hSl hsucc hpe hn4 hxS hxp hL hgk hs hs64 hd hF hxm hg1 hg2 hn4e hkl HDK
      go_upto_region 3 with fail
      -- what is read
      obtain ⟨W, hW⟩ : ∃ W, W = wr := ⟨_, rfl⟩
      obtain ⟨C, hC⟩ : ∃ C : World → Prop, C = fun w9 => Below W.heap.size W w9 := ⟨_, rfl⟩
      have hCof : ∀ w9, Below W.heap.size W w9 → C w9 := fun w9 h => by rw [hC]; exact h
      have hCd : ∀ w9, C w9 → DiskAt w9 p sb mb cs V ⟨S, st.calls, st.armed, st.down⟩ := fun w9 h => by
        rw [hC] at h
        have := HD.out
        rw [← hW] at this
        exact this.touch (Touch.ofBelow (fun _ => False) h) (fun _ _ hf => hf)
      have hc0 : ∀ w9, C w9 → w9.cell? ⟨p, 0, none⟩ = some (.slice (some ⟨sb, 0, none⟩) n4 cs) := fun w9 h => by rw [HN4.out]; exact (hCd w9 h).c0
      have hc1 : ∀ w9, C w9 → w9.cell? ⟨p, 1, none⟩ = some (.map (some mb)) := fun w9 h => (hCd w9 h).c1
      have hlk : ∀ w9, C w9 → (Instr.lookup 71 (.map (some mb)) (.int .i64 x) false).run Tryz.prog w9 = .ok (V x) w9 := fun w9 h => by
        have := look_now (hCd w9 h) x (by have := HN4.out; omega)
        rw [if_pos HXP.out] at this
        exact this
      obtain ⟨f, hf⟩ : ∃ f, f = L.headD [] := ⟨_, rfl⟩
      have hfs : f ∈ L := by
        have := HGK2.out.1
        rw [hf]
        cases L with
        | nil => exact absurd rfl this
        | cons a r => exact List.mem_cons_self
      have hf64 : f.length = 64 := HGK2.out.2 f hfs
      have hbf : (bv f).length = 64 := by rw [bv_length, hf64]
      have hLe : L = [f] ++ pend S x := by
        have := HGK2.out.1
        unfold pend
        rw [← HLL.out, hf]
        cases L with
        | nil => exact absurd rfl this
        | cons a r => rfl
      have hsx : (safes S)[x]'(by rw [safes_length]; exact HXS.out) = f := by
        rw [hf, HLL.out, List.getD_eq_getElem?_getD, List.getElem?_eq_getElem HXS.out]
        simp [safes]
      have hld : ∀ w9, C w9 → ∀ j u, (bv f)[j]? = some u → w9.cell? ⟨sb, x * 64 + j, none⟩ = some u := fun w9 h j u hu => by
        refine (hCd w9 h).safe.cell (safes_sec HD.out.ok) x (by rw [safes_length]; exact HXS.out) j u ?_
        rw [hsx]
        exact hu
      have HC0 := Lib.hid hc0; have HC1 := Lib.hid hc1; have HLK := Lib.hid hlk; have HLD := Lib.hid hld; have HCO := Lib.hid hCof; have HCD := Lib.hid hCd; have HBF := Lib.hid hbf; have HF64 := Lib.hid hf64; have HLE := Lib.hid hLe; have HW := Lib.hid hW; have HC := Lib.hid hC; have HFE := Lib.hid hf
      have hC0 : C wr.drew := hCof _ (by rw [hW]; exact (Below.refl _ _).drew)
      have hB0 : Below W.heap.size W wr.drew := by rw [hW]; exact (Below.refl _ _).drew
      clear hc0 hc1 hlk hld hCof hCd hbf hf64 hLe hfs hsx hW hC hf
      refine wp_region_mixT C 24 [(0,true,true),(1,true,true),(2,true,true),(3,true,true),(4,true,true),(5,true,true),(6,true,true),(7,true,true),(8,true,true),(9,true,true),(10,true,true),(11,true,true),(12,true,true),(13,true,true),(15,true,true),(16,true,true),(17,true,true),(18,true,true),(19,true,true),(20,true,true),(14,false,true),(21,false,true),(22,false,true),(23,true,true),(24,false,false)] (by kernel_rfl) (by kernel_rfl) hC0 ?_
      generalize wr.drew = w3 at hB0 ⊢
      clear hC0
      simp only [List.filterMap_cons, List.filterMap_nil, List.getElem?_cons_zero, List.getElem?_cons_succ, Option.map_some]
      repeat (first
        | (refine mixT_load_cells 105 _ rfl (by rfl) sb (x * 64) rfl (bv f) _ HLD.out Tryz.underlying105 rfl (by rw [HBF.out]; exact info_sec1) ?_; simp only [Act.put, List.setIfInBounds_toArray, List.set_cons_succ, List.set_cons_zero])
        | (refine mixT_read (by rfl) ?_; apply Exists.intro; refine ⟨fun w9 hw9 => ?_, ?_⟩; (· have d1 := HC0.out w9 hw9; have d2 := HC1.out w9 hw9; have d3 := HLK.out w9 hw9; go_simp; rfl); simp only [Act.put, List.setIfInBounds_toArray, List.set_cons_succ, List.set_cons_zero]))
      refine mixT_step (by rfl) (fun K' hK => ?_)
      refine wp_buildSlice 70 105 1 _ rfl (bv f).toArray i0 (.agg (List.replicate 64 (Value.int .u8 0)).toArray) Tryz.underlying70 hi hz0 (by rw [hz1]; decide) (by rw [hz1]; decide) (fill_sec i0 hz1 _ ?_ f HF64.out _ ?_) ?_
      · rw [Array.size_map, Array.size_range]
      · rw [Array.toList_map]; rfl
      have rE := row_new w3 W.heap.size 64 1 105 (bv f).toArray hB0.size (by rw [List.size_toArray, HBF.out]) (by unfold maxLen; omega)
      have hBE : Below W.heap.size W (w3.alloc (.cells (bv f).toArray 105)) := hB0.alloc hB0.size _
      refine hK _ _ (HCO.out _ hBE) ?_
      clear hK K'
      simp only [Act.put, List.setIfInBounds_toArray, List.set_cons_succ, List.set_cons_zero]
      obtain ⟨E, hE⟩ : ∃ E, E = w3.heap.size := ⟨_, rfl⟩
      rw [← hE] at rE ⊢
      have hWE : W.heap.size ≤ E := by rw [hE]; exact hB0.size
      have hEs : (w3.alloc (.cells (bv f).toArray 105)).heap.size = E + 1 := by simp [hE]
      generalize w3.alloc (.cells (bv f).toArray 105) = wE at rE hBE hEs ⊢
      clear hE hB0
      have hrV := (HCD.out wE (HCO.out _ hBE)).rows x HXP.out
      obtain ⟨m, hm⟩ : ∃ m, m = (pend S x).length := ⟨_, rfl⟩
      have hmb : m ≤ 1000000000 := by rw [hm]; have := HPE.out; rw [this]; exact HLEN.out x
      have hrV' : wE.ownsRow 0 105 64 (V x) m (secv (pend S x)) := by rw [hm]; exact hrV
      have hLl : L.length = 1 + m := by have := HLE.out; rw [this, hm, List.length_append]; rfl
      have HLL2 := Lib.hid hLl; have HMB := Lib.hid hmb
      clear hrV hm hLl hmb
      refine mixT_step (by rfl) (fun K' hK => ?_)
      refine wp_append_at _ _ _ 70 70 rfl W.heap.size 105 i0 (.agg (List.replicate 64 (Value.int .u8 0)).toArray) 64 64 Tryz.underlying70 hi hz0 hz1 hz2 rfl (by decide) (.slice (some ⟨E, 0, none⟩) 1 1) 1 (bv f) rfl rE (V x) m (secv (pend S x)) rfl (src_own _ Tryz.underlying70 hrV' (secv_one _)) (by unfold maxLen; have := HMB.out; omega) (by have := HMB.out; omega) hBE.size ?_
      intro v' wP hrP hgP hpP
      have hBP : Below W.heap.size W wP := hBE.grown hgP hBE.size (fun k hk => by cases hk; exact hWE)
      refine hK _ _ (HCO.out _ hBP) ?_
      clear hK K'
      simp only [Act.put, List.setIfInBounds_toArray, List.set_cons_succ, List.set_cons_zero]
      have hrL : SecRow wP v' L := by
        have h1 := row_base0 hrP
        have h2 := HLE.out
        have h3 : secv L = bv f ++ secv (pend S x) := by rw [h2, secv_append]; simp [secv]
        unfold SecRow
        rw [h3, HLL2.out]
        exact h1
      obtain ⟨gv, capv, curv, rfl, hgv, _, _, _⟩ := hrL.open HGK2.out.1
      have hTP : Touch F w wP := HT.out.trans (Touch.ofBelow F (by rw [← HW.out]; exact hBP))
      have HPP := Lib.hid (HPK.out k L gv capv wP hTP hrL HGK2.out.1 HGK2.out.2 (by rw [HLL2.out]; have := HMB.out; omega))
      clear hrP hgP hpP hrL hgv hTP rE hEs hWE hrV' hBE
      refine mixT_step (by rfl) (fun K' hK => ?_)
      go_simp
      go_at_call 113
      refine HPP.out.mono ?_
      rintro e w4 ⟨rfl, hb4⟩
      have hB4 : Below W.heap.size W w4 := hBP.trans (hb4.mono hBP.size)
      rw [← HSS.out]
      refine hK _ _ (HCO.out _ hB4) ?_
      clear hK K' hBP hb4 HPP
      try simp only [Act.put, List.setIfInBounds_toArray, List.set_cons_succ, List.set_cons_zero]
      refine mixT_read (by rfl) ?_
      apply Exists.intro
      refine ⟨fun w9 hw9 => ?_, ?_⟩
      · go_simp; rfl
      try simp only [Act.put, List.setIfInBounds_toArray, List.set_cons_succ, List.set_cons_zero]
      have hd4 := HCD.out w4 (HCO.out _ hB4)
      obtain ⟨cur, hcg, hcz, hset⟩ := SecRow.set hd4.safe (safes_sec hd4.ok) x (by rw [safes_length]; exact HXS.out) s HS64.out
      have hbs : (bv s).length = 64 := by rw [bv_length, HS64.out]
      refine mixT_tail (by rfl) (fun K' hK => ?_)
      refine wp_store_cells 105 _ _ rfl sb (x * 64) (bv s) rfl rfl 105 cur hcg (by rw [hbs]; exact info_sec1) (by rw [hbs]; exact hcz) (bv_one s) ?_
      rw [hbs]
      have hT4 : Touch (fun k => k = sb) w4 (w4.setRow sb (cur.toList.take (x * 64) ++ bv s ++ cur.toList.drop (x * 64 + 64)).toArray) := touch_setRow _ _ _ rfl
      refine hK _ _ ?_
      clear hK K'
      simp only [Act.put]
      generalize w4.setRow sb (cur.toList.take (x * 64) ++ bv s ++ cur.toList.drop (x * 64 + 64)).toArray = w5 at hset hT4 ⊢
      have hT5 : Touch (fun k => k = sb) wr w5 := (Touch.ofBelow _ (by rw [← HW.out]; exact hB4)).trans hT4
      have hm5 : MapL Tryz.prog 3 w5 mb (nowF S V) (dirt S).length := HD.out.map.same (hT5.block mb HD.out.map.lt (fun e => HD.out.ne3 e.symm))
      have hp5 := (hT5.block p (lt_of_block HD.out.blk) HD.out.ne1).trans HD.out.blk
      have c1 : w5.cell? ⟨p, 1, none⟩ = some (.map (some mb)) := cell_at hp5 rfl
      have HM5 := Lib.hid hm5; have HT5 := Lib.hid hT5; have HSET := Lib.hid hset
      clear hm5 hT5 hset hp5 hd4 hcg hcz hbs hT4 hB4
      refine mixT_nil (NoPanic.normal ?_)
      go_wp2_with (refine wpList_delete_L rfl _ _ rfl HM5.out int_key Tryz.underlying71 (Go.Maps.keyOf_int_mk (P := Tryz.prog) (k := 3) (q := .i64) Tryz.underlying3 (a := (x : Int)) (WalkArith.wf_i64 (by omega))) rfl rfl ?_; intro w6 hm6 hg6)
      have hT6 : Touch (fun k => k = sb ∨ k = mb) wr w6 := (HT5.out.mono (fun k _ h => .inl h)).trans (Touch.ofGrown hg6 (fun k e => .inr (Option.some.inj e).symm))
      have hS6 : SecRow w6 (.slice (some ⟨sb, 0, none⟩) S.length cs) ((safes S).set x s) := HSET.out.touch (Touch.ofGrown (F := fun k => k = mb) hg6 (fun k e => (Option.some.inj e).symm)) (fun k e h => by cases e; exact HD.out.ne3 h)
      obtain ⟨q1, q2⟩ := disk_settle HD.out HXP.out HS64.out hT6 hS6 hm6
      have hfoot : ∀ k, (k = sb ∨ k = mb) → F k := fun k h => HFF.out k ((HF.out k).2 (h.elim (fun h => .inr (.inl h)) (fun h => .inr (.inr (.inl h)))))
      have q3 : Touch F w w6 := HT.out.trans (hT6.mono (fun k _ h => hfoot k h))
      have q4 : Disk w6 p (dfoot p sb mb V (putS S x [s])) ⟨settleN pick st.S l (k + 1), st.calls, st.armed, st.down⟩ := by
        rw [HSU.out]; exact ⟨sb, mb, cs, V, q1, fun k => Iff.rfl⟩
      have q5 : IntRow w6 w.heap.size (.slice (some ⟨g, 0, none⟩) l.length cap) l := HR.out.touch hT6 (fun k h => HFL.out k (hfoot k h))
      have Q3 := Lib.hid q3; have Q4 := Lib.hid q4; have Q5 := Lib.hid q5
      have Q2 := Lib.hid (fun k hk => HFF.out k ((HF.out k).2 (q2 k hk)))
      have HSUM := HGK.out
      clear q1 q2 q3 q4 q5 hT6 hS6 hfoot hm6 hg6
      go_roundg (gk - 1)
      case measure => omega
      case rel => exact ⟨k + 1, _, by omega, by go_num, Q4.out, Q2.out, Q3.out, Q5.out⟩
    · have hkn : k = l.length := by have := HGK.out; have := HN.out; omega
      subst hkn
      go_wp2_with fail
      exact bodyPost_end (results_none rfl _ _ _) rfl ⟨rfl, F', HDK.out, HFF.out, HT.out⟩
set_option maxHeartbeats 4000000 in
theorem settle2_walk (kb p : Nat) (F : Nat → Prop) (st : Dk) (pick : Nat → List Sec → Sec) (w : World) (h : Disk w p F st) (hlen : ∀ i, (pend st.S i).length ≤ 1000000000)
    (hpl : ∀ i L, L ≠ [] → (∀ s ∈ L, s.length = 64) → (pick i L).length = 64)
    (hpick : ∀ (j : Nat) (L : List Sec) (g cap : Nat) (w' : World), Touch F w w' → SecRow w' (.slice (some ⟨g, 0, none⟩) L.length cap) L → L ≠ [] → (∀ s ∈ L, s.length = 64) → L.length ≤ 2000000000 →
      Calls Tryz.prog 60 #[.int .i64 j, .slice (some ⟨g, 0, none⟩) L.length cap, .pointer (some ⟨kb, 0, none⟩)] w' fun e w'' => e = .returned (.agg (bv (pick j L)).toArray) ∧ Below w'.heap.size w' w'') :
    Calls Tryz.prog 59 #[.pointer (some ⟨p, 0, none⟩), .func (.func 60) #[] #[.pointer (some ⟨kb, 0, none⟩)]] w fun e w' => SettlePost p F w ⟨settleN pick st.S (dirt st.S) (dirt st.S).length, st.calls, st.armed, st.down⟩ e w' := by
  obtain ⟨i0, hi, hz0, hz1, hz2⟩ := info_sec
  have hdw := dirty_walk p F st w h
  have hok : secOk st.S := by obtain ⟨_, _, _, _, hd, _⟩ := h; exact hd.ok
  obtain ⟨l, hl⟩ : ∃ l, l = dirt st.S := ⟨_, rfl⟩
  have hlS : ∀ x ∈ l, x < st.S.length ∧ pend st.S x ≠ [] := fun x hx => dirt_mem (by rw [← hl]; exact hx)
  have hnd : l.Nodup := by rw [hl]; exact dirt_nodup _
  rw [← hl] at hdw ⊢
  have hFlt : ∀ k, F k → k < w.heap.size := fun k hk => h.lt k hk
  have HH := Lib.hid h; have HDW := Lib.hid hdw; have HLS := Lib.hid hlS; have HND := Lib.hid hnd; have HPK := Lib.hid hpick; have HPL := Lib.hid hpl; have HLEN := Lib.hid hlen; have HOK := Lib.hid hok; have HFL := Lib.hid hFlt
  clear h hdw hl hlS hnd hpick hpl hlen hok hFlt
  go_enter Tryz.func59, Tryz.ntmps59
  go_wp2_with fail
  refine HDW.out.mono ?_
  rintro e w1 ⟨v, rfl, hrow, hb⟩
  obtain ⟨ad, cap, rfl, hlc, hcm, hcs⟩ := hrow.open
  have hl31 : l.length ≤ 9223372036854775807 := by omega
  obtain ⟨n, hn⟩ : ∃ n, n = l.length := ⟨_, rfl⟩
  have HRW := Lib.hid hrow; have HB := Lib.hid hb; have HN := Lib.hid hn
  rw [← hn] at hlc hl31 ⊢
  have K0 := Lib.hid (HH.out.below hb)
  clear hrow hb hcs HH HDW
  go_wp2_with fail
  go_loopg [9] n (fun gk i wr => ∃ k F', k + gk = n ∧ i = .int .i64 (k : Nat) ∧ Disk wr p F' ⟨settleN pick st.S l k, st.calls, st.armed, st.down⟩ ∧ (∀ x, F' x → F x) ∧ Touch F w wr ∧ IntRow wr w.heap.size (.slice ad l.length cap) l)
  case atStart => exact ⟨0, F, by omega, rfl, K0.out, fun _ h => h, Touch.ofBelow F HB.out, HRW.out⟩
  case round =>
    obtain ⟨k, F', hgk, rfl, hdk, hFF, hT, hrow⟩ := hrel
    have HDK := Lib.hid hdk; have HFF := Lib.hid hFF; have HT := Lib.hid hT; have HR := Lib.hid hrow; have HGK := Lib.hid hgk
    clear hdk hFF hT hrow hgk
    by_cases hlt : (k : Int) < (n : Int)
    · have hkl : k < l.length := by have := HN.out; omega
      obtain ⟨ad', cap', hv, _, _, hc⟩ := HR.out.open
      simp only [Value.slice.injEq, true_and] at hv
      obtain ⟨rfl, rfl⟩ := hv
      rcases hc with hnil | ⟨g, rfl, hg1, hg2, hcs⟩
      · rw [hnil] at hkl; simp at hkl
      have cx := hcs k hkl
      obtain ⟨x, hx⟩ : ∃ x, x = l[k] := ⟨_, rfl⟩
      have hxm := HLS.out x (by rw [hx]; exact List.getElem_mem hkl)
      have hxd : l.getD k 0 = x := by rw [List.getD_eq_getElem?_getD, List.getElem?_eq_getElem hkl, hx]; rfl
      have hrest := settleN_rest pick st.S l HND.out k k (Nat.le_refl _) hkl
      have hSl := settleN_length pick st.S l k
      have hsucc : settleN pick st.S l (k + 1) = putS (settleN pick st.S l k) (l.getD k 0) [pick k ((settleN pick st.S l k).getD (l.getD k 0) [])] := rfl
      rw [hxd] at hrest hsucc
      have hpe : pend (settleN pick st.S l k) x = pend st.S x := by unfold pend; rw [hrest]
      rw [← hx] at cx
      obtain ⟨S, hS⟩ : ∃ S, S = settleN pick st.S l k := ⟨_, rfl⟩
      have HDK2 := HDK.out
      rw [← hS] at hrest hSl hsucc hpe HDK2
      obtain ⟨sb, mb, cs, V, hd, hF⟩ := HDK2
      have hn4 := hd.ok.2.1
      have hxS : x < S.length := by rw [hSl]; exact hxm.1
      have hxp : pend S x ≠ [] := by rw [hpe]; exact hxm.2
      obtain ⟨L, hL⟩ : ∃ L, L = S.getD x [] := ⟨_, rfl⟩
      rw [← hL] at hsucc
      have hgk := getD_ok hd.ok hxS
      rw [← hL] at hgk
      obtain ⟨s, hs⟩ : ∃ s, s = pick k L := ⟨_, rfl⟩
      have hs64 : s.length = 64 := by rw [hs]; exact HPL.out k L hgk.1 hgk.2
      rw [← hs] at hsucc
      obtain ⟨n4, hn4e⟩ : ∃ n4, n4 = S.length := ⟨_, rfl⟩
      have hx4 : (x : Int) < (n4 : Int) := by omega
      have hn44 : (n4 : Int) ≤ 4096 := by have := hn4; simp only at this; omega
      have HD := Lib.hid hd; have HF := Lib.hid hF; have HXP := Lib.hid hxp; have HGK2 := Lib.hid hgk; have HS64 := Lib.hid hs64; have HSU := Lib.hid hsucc; have HPE := Lib.hid hpe; have HXM := Lib.hid hxm; have HLL := Lib.hid hL; have HSS := Lib.hid hs; have HN4 := Lib.hid hn4e; have HKL := Lib.hid hkl; have HG := Lib.hid (And.intro hg1 hg2); have HXS := Lib.hid hxS
      clear hcs hx hxd hrest hSl hsucc hpe hn4 hxS hxp hL hgk hs hs64 hd hF hxm hg1 hg2 hn4e hkl HDK
      go_upto_region 3 with fail
      -- what is read
      obtain ⟨W, hW⟩ : ∃ W, W = wr := ⟨_, rfl⟩
      obtain ⟨C, hC⟩ : ∃ C : World → Prop, C = fun w9 => Below W.heap.size W w9 := ⟨_, rfl⟩
      have hCof : ∀ w9, Below W.heap.size W w9 → C w9 := fun w9 h => by rw [hC]; exact h
      have hCd : ∀ w9, C w9 → DiskAt w9 p sb mb cs V ⟨S, st.calls, st.armed, st.down⟩ := fun w9 h => by
        rw [hC] at h
        have := HD.out
        rw [← hW] at this
        exact this.touch (Touch.ofBelow (fun _ => False) h) (fun _ _ hf => hf)
      have hc0 : ∀ w9, C w9 → w9.cell? ⟨p, 0, none⟩ = some (.slice (some ⟨sb, 0, none⟩) n4 cs) := fun w9 h => by rw [HN4.out]; exact (hCd w9 h).c0
      have hc1 : ∀ w9, C w9 → w9.cell? ⟨p, 1, none⟩ = some (.map (some mb)) := fun w9 h => (hCd w9 h).c1
      have hlk : ∀ w9, C w9 → (Instr.lookup 71 (.map (some mb)) (.int .i64 x) false).run Tryz.prog w9 = .ok (V x) w9 := fun w9 h => by
        have := look_now (hCd w9 h) x (by have := HN4.out; omega)
        rw [if_pos HXP.out] at this
        exact this
      obtain ⟨f, hf⟩ : ∃ f, f = L.headD [] := ⟨_, rfl⟩
      have hfs : f ∈ L := by
        have := HGK2.out.1
        rw [hf]
        cases L with
        | nil => exact absurd rfl this
        | cons a r => exact List.mem_cons_self
      have hf64 : f.length = 64 := HGK2.out.2 f hfs
      have hbf : (bv f).length = 64 := by rw [bv_length, hf64]
      have hLe : L = [f] ++ pend S x := by
        have := HGK2.out.1
        unfold pend
        rw [← HLL.out, hf]
        cases L with
        | nil => exact absurd rfl this
        | cons a r => rfl
      have hsx : (safes S)[x]'(by rw [safes_length]; exact HXS.out) = f := by
        rw [hf, HLL.out, List.getD_eq_getElem?_getD, List.getElem?_eq_getElem HXS.out]
        simp [safes]
      have hld : ∀ w9, C w9 → ∀ j u, (bv f)[j]? = some u → w9.cell? ⟨sb, x * 64 + j, none⟩ = some u := fun w9 h j u hu => by
        refine (hCd w9 h).safe.cell (safes_sec HD.out.ok) x (by rw [safes_length]; exact HXS.out) j u ?_
        rw [hsx]
        exact hu
      have HC0 := Lib.hid hc0; have HC1 := Lib.hid hc1; have HLK := Lib.hid hlk; have HLD := Lib.hid hld; have HCO := Lib.hid hCof; have HCD := Lib.hid hCd; have HBF := Lib.hid hbf; have HF64 := Lib.hid hf64; have HLE := Lib.hid hLe; have HW := Lib.hid hW; have HC := Lib.hid hC; have HFE := Lib.hid hf
      have hC0 : C wr.drew := hCof _ (by rw [hW]; exact (Below.refl _ _).drew)
      have hB0 : Below W.heap.size W wr.drew := by rw [hW]; exact (Below.refl _ _).drew
      clear hc0 hc1 hlk hld hCof hCd hbf hf64 hLe hfs hsx hW hC hf
      refine wp_region_mixT C 24 [(0,true,true),(1,true,true),(2,true,true),(3,true,true),(4,true,true),(5,true,true),(6,true,true),(7,true,true),(8,true,true),(9,true,true),(10,true,true),(11,true,true),(12,true,true),(13,true,true),(15,true,true),(16,true,true),(17,true,true),(18,true,true),(19,true,true),(20,true,true),(14,false,true),(21,false,true),(22,false,true),(23,true,true),(24,false,false)] (by kernel_rfl) (by kernel_rfl) hC0 ?_
      generalize wr.drew = w3 at hB0 ⊢
      clear hC0
      simp only [List.filterMap_cons, List.filterMap_nil, List.getElem?_cons_zero, List.getElem?_cons_succ, Option.map_some]
      repeat (first
        | (refine mixT_load_cells 105 _ rfl (by rfl) sb (x * 64) rfl (bv f) _ HLD.out Tryz.underlying105 rfl (by rw [HBF.out]; exact info_sec1) ?_; simp only [Act.put, List.setIfInBounds_toArray, List.set_cons_succ, List.set_cons_zero])
        | (refine mixT_read (by rfl) ?_; apply Exists.intro; refine ⟨fun w9 hw9 => ?_, ?_⟩; (· have d1 := HC0.out w9 hw9; have d2 := HC1.out w9 hw9; have d3 := HLK.out w9 hw9; go_simp; rfl); simp only [Act.put, List.setIfInBounds_toArray, List.set_cons_succ, List.set_cons_zero]))
      refine mixT_step (by rfl) (fun K' hK => ?_)
      refine wp_buildSlice 70 105 1 _ rfl (bv f).toArray i0 (.agg (List.replicate 64 (Value.int .u8 0)).toArray) Tryz.underlying70 hi hz0 (by rw [hz1]; decide) (by rw [hz1]; decide) (fill_sec i0 hz1 _ ?_ f HF64.out _ ?_) ?_
      · rw [Array.size_map, Array.size_range]
      · rw [Array.toList_map]; rfl
      have rE := row_new w3 W.heap.size 64 1 105 (bv f).toArray hB0.size (by rw [List.size_toArray, HBF.out]) (by unfold maxLen; omega)
      have hBE : Below W.heap.size W (w3.alloc (.cells (bv f).toArray 105)) := hB0.alloc hB0.size _
      refine hK _ _ (HCO.out _ hBE) ?_
      clear hK K'
      simp only [Act.put, List.setIfInBounds_toArray, List.set_cons_succ, List.set_cons_zero]
      obtain ⟨E, hE⟩ : ∃ E, E = w3.heap.size := ⟨_, rfl⟩
      rw [← hE] at rE ⊢
      have hWE : W.heap.size ≤ E := by rw [hE]; exact hB0.size
      have hEs : (w3.alloc (.cells (bv f).toArray 105)).heap.size = E + 1 := by simp [hE]
      generalize w3.alloc (.cells (bv f).toArray 105) = wE at rE hBE hEs ⊢
      clear hE hB0
      have hrV := (HCD.out wE (HCO.out _ hBE)).rows x HXP.out
      obtain ⟨m, hm⟩ : ∃ m, m = (pend S x).length := ⟨_, rfl⟩
      have hmb : m ≤ 1000000000 := by rw [hm]; have := HPE.out; rw [this]; exact HLEN.out x
      have hrV' : wE.ownsRow 0 105 64 (V x) m (secv (pend S x)) := by rw [hm]; exact hrV
      have hLl : L.length = 1 + m := by have := HLE.out; rw [this, hm, List.length_append]; rfl
      have HLL2 := Lib.hid hLl; have HMB := Lib.hid hmb
      clear hrV hm hLl hmb
      refine mixT_step (by rfl) (fun K' hK => ?_)
      refine wp_append_at _ _ _ 70 70 rfl W.heap.size 105 i0 (.agg (List.replicate 64 (Value.int .u8 0)).toArray) 64 64 Tryz.underlying70 hi hz0 hz1 hz2 rfl (by decide) (.slice (some ⟨E, 0, none⟩) 1 1) 1 (bv f) rfl rE (V x) m (secv (pend S x)) rfl (src_own _ Tryz.underlying70 hrV' (secv_one _)) (by unfold maxLen; have := HMB.out; omega) (by have := HMB.out; omega) hBE.size ?_
      intro v' wP hrP hgP hpP
      have hBP : Below W.heap.size W wP := hBE.grown hgP hBE.size (fun k hk => by cases hk; exact hWE)
      refine hK _ _ (HCO.out _ hBP) ?_
      clear hK K'
      simp only [Act.put, List.setIfInBounds_toArray, List.set_cons_succ, List.set_cons_zero]
      have hrL : SecRow wP v' L := by
        have h1 := row_base0 hrP
        have h2 := HLE.out
        have h3 : secv L = bv f ++ secv (pend S x) := by rw [h2, secv_append]; simp [secv]
        unfold SecRow
        rw [h3, HLL2.out]
        exact h1
      obtain ⟨gv, capv, curv, rfl, hgv, _, _, _⟩ := hrL.open HGK2.out.1
      have hTP : Touch F w wP := HT.out.trans (Touch.ofBelow F (by rw [← HW.out]; exact hBP))
      have HPP := Lib.hid (HPK.out k L gv capv wP hTP hrL HGK2.out.1 HGK2.out.2 (by rw [HLL2.out]; have := HMB.out; omega))
      clear hrP hgP hpP hrL hgv hTP rE hEs hWE hrV' hBE
      refine mixT_step (by rfl) (fun K' hK => ?_)
      go_simp
      go_at_call 60
      refine HPP.out.mono ?_
      rintro e w4 ⟨rfl, hb4⟩
      have hB4 : Below W.heap.size W w4 := hBP.trans (hb4.mono hBP.size)
      rw [← HSS.out]
      refine hK _ _ (HCO.out _ hB4) ?_
      clear hK K' hBP hb4 HPP
      try simp only [Act.put, List.setIfInBounds_toArray, List.set_cons_succ, List.set_cons_zero]
      refine mixT_read (by rfl) ?_
      apply Exists.intro
      refine ⟨fun w9 hw9 => ?_, ?_⟩
      · go_simp; rfl
      try simp only [Act.put, List.setIfInBounds_toArray, List.set_cons_succ, List.set_cons_zero]
      have hd4 := HCD.out w4 (HCO.out _ hB4)
      obtain ⟨cur, hcg, hcz, hset⟩ := SecRow.set hd4.safe (safes_sec hd4.ok) x (by rw [safes_length]; exact HXS.out) s HS64.out
      have hbs : (bv s).length = 64 := by rw [bv_length, HS64.out]
      refine mixT_tail (by rfl) (fun K' hK => ?_)
      refine wp_store_cells 105 _ _ rfl sb (x * 64) (bv s) rfl rfl 105 cur hcg (by rw [hbs]; exact info_sec1) (by rw [hbs]; exact hcz) (bv_one s) ?_
      rw [hbs]
      have hT4 : Touch (fun k => k = sb) w4 (w4.setRow sb (cur.toList.take (x * 64) ++ bv s ++ cur.toList.drop (x * 64 + 64)).toArray) := touch_setRow _ _ _ rfl
      refine hK _ _ ?_
      clear hK K'
      simp only [Act.put]
      generalize w4.setRow sb (cur.toList.take (x * 64) ++ bv s ++ cur.toList.drop (x * 64 + 64)).toArray = w5 at hset hT4 ⊢
      have hT5 : Touch (fun k => k = sb) wr w5 := (Touch.ofBelow _ (by rw [← HW.out]; exact hB4)).trans hT4
      have hm5 : MapL Tryz.prog 3 w5 mb (nowF S V) (dirt S).length := HD.out.map.same (hT5.block mb HD.out.map.lt (fun e => HD.out.ne3 e.symm))
      have hp5 := (hT5.block p (lt_of_block HD.out.blk) HD.out.ne1).trans HD.out.blk
      have c1 : w5.cell? ⟨p, 1, none⟩ = some (.map (some mb)) := cell_at hp5 rfl
      have HM5 := Lib.hid hm5; have HT5 := Lib.hid hT5; have HSET := Lib.hid hset
      clear hm5 hT5 hset hp5 hd4 hcg hcz hbs hT4 hB4
      refine mixT_nil (NoPanic.normal ?_)
      go_wp2_with (refine wpList_delete_L rfl _ _ rfl HM5.out int_key Tryz.underlying71 (Go.Maps.keyOf_int_mk (P := Tryz.prog) (k := 3) (q := .i64) Tryz.underlying3 (a := (x : Int)) (WalkArith.wf_i64 (by omega))) rfl rfl ?_; intro w6 hm6 hg6)
      have hT6 : Touch (fun k => k = sb ∨ k = mb) wr w6 := (HT5.out.mono (fun k _ h => .inl h)).trans (Touch.ofGrown hg6 (fun k e => .inr (Option.some.inj e).symm))
      have hS6 : SecRow w6 (.slice (some ⟨sb, 0, none⟩) S.length cs) ((safes S).set x s) := HSET.out.touch (Touch.ofGrown (F := fun k => k = mb) hg6 (fun k e => (Option.some.inj e).symm)) (fun k e h => by cases e; exact HD.out.ne3 h)
      obtain ⟨q1, q2⟩ := disk_settle HD.out HXP.out HS64.out hT6 hS6 hm6
      have hfoot : ∀ k, (k = sb ∨ k = mb) → F k := fun k h => HFF.out k ((HF.out k).2 (h.elim (fun h => .inr (.inl h)) (fun h => .inr (.inr (.inl h)))))
      have q3 : Touch F w w6 := HT.out.trans (hT6.mono (fun k _ h => hfoot k h))
      have q4 : Disk w6 p (dfoot p sb mb V (putS S x [s])) ⟨settleN pick st.S l (k + 1), st.calls, st.armed, st.down⟩ := by
        rw [HSU.out]; exact ⟨sb, mb, cs, V, q1, fun k => Iff.rfl⟩
      have q5 : IntRow w6 w.heap.size (.slice (some ⟨g, 0, none⟩) l.length cap) l := HR.out.touch hT6 (fun k h => HFL.out k (hfoot k h))
      have Q3 := Lib.hid q3; have Q4 := Lib.hid q4; have Q5 := Lib.hid q5
      have Q2 := Lib.hid (fun k hk => HFF.out k ((HF.out k).2 (q2 k hk)))
      have HSUM := HGK.out
      clear q1 q2 q3 q4 q5 hT6 hS6 hfoot hm6 hg6
      go_roundg (gk - 1)
      case measure => omega
      case rel => exact ⟨k + 1, _, by omega, by go_num, Q4.out, Q2.out, Q3.out, Q5.out⟩
    · have hkn : k = l.length := by have := HGK.out; have := HN.out; omega
      subst hkn
      go_wp2_with fail
      exact bodyPost_end (results_none rfl _ _ _) rfl ⟨rfl, F', HDK.out, HFF.out, HT.out⟩
end Go.Proofs.YtjjejkhekmpgcaaGreat
