/-
  Layer 5 (plain): a head that was laid is read as it was; bytes in sectors.
  Layer 5 (plain): what writes leave, what flushes leave, what a crash leaves.
  Layer 5 (plain): a journal as it lies on a disk; it is opened.
  Layer 5 (plain): a set is done, or it goes down and either journal is there behind a crash.
  Layer 5 (plain): a set is safe.
  Layer 5 (plain): Append, Rewrite, Format.
  Layer 5: light records; what must come at any rate.
-/
import Derived.Test.YtjjejkhekmpgcaaGreatMgL
import Derived.Test.YtjjejkhekmpgcaaGreatMgH
import Derived.Test.YtjjejkhekmpgcaaGreatMgE
import Derived.Test.YtjjejkhekmpgcaaGreatMgA
namespace Go.Proofs.YtjjejkhekmpgcaaGreat
set_option maxRecDepth 4000
open Go.RowKit

theorem preB_iff (s t : ByteArray) : preB s t = true ↔ s.data.toList.take t.size = t.data.toList := by
  have h1 : (s.extract 0 t.size).toList = s.data.toList.take t.size := by rw [ByteArray.toList_eq, ext_list, List.drop_zero]
  have h2 : t.toList = t.data.toList := ByteArray.toList_eq t
  unfold preB
  rw [h1, h2]
  simp only [Bool.and_eq_true, decide_eq_true_eq, beq_iff_eq]
  refine ⟨fun h => h.2, fun h => ⟨?_, h⟩⟩
  have h3 := congrArg List.length h
  rw [List.length_take] at h3
  have h4 : t.data.toList.length = t.size := by simp
  have h5 : s.data.toList.length = s.size := by simp
  omega
theorem magicB_list : magicB.data.toList = magicL := rfl
theorem magicB_size : magicB.size = 7 := rfl
theorem cutP_magic (r : List UInt8) : preB (txt (magicL ++ r)) magicB = true ∧ cutP (txt (magicL ++ r)) magicB = txt r := by
  have hp : preB (txt (magicL ++ r)) magicB = true := by
    rw [preB_iff, magicB_size, magicB_list]
    show (magicL ++ r).take 7 = magicL
    rfl
  refine ⟨hp, ?_⟩
  unfold cutP
  rw [if_pos hp, magicB_size, txt_size]
  unfold txt
  rw [ext_of, List.take_length]
  rfl
theorem head_back (q h u z : Nat) (pad : List UInt8) (hq : q ≤ 9223372036854775807) (hh : h ≤ 1) (hu : u ≤ 9223372036854775807) (hz : u ≤ z * 64) :
    preB (txt (headB q h u ++ pad)) magicB = true ∧ (n1 (cutP (txt (headB q h u ++ pad)) magicB)).1 = q ∧ (n2 (cutP (txt (headB q h u ++ pad)) magicB)).1 = h ∧ (n3 (cutP (txt (headB q h u ++ pad)) magicB)).1 = u ∧ hdR (txt (headB q h u ++ pad)) z = true := by
  have he : headB q h u ++ pad = magicL ++ (lebN q ++ (lebN h ++ (lebN u ++ (fourOf (crcSum (headL q h u)) ++ pad)))) := by
    unfold headB
    rw [show headL q h u = magicL ++ (lebN q ++ (lebN h ++ lebN u)) from rfl]
    simp only [List.append_assoc]
  obtain ⟨hp, hc⟩ := cutP_magic (lebN q ++ (lebN h ++ (lebN u ++ (fourOf (crcSum (headL q h u)) ++ pad))))
  rw [← he] at hp hc
  have h1 : n1 (cutP (txt (headB q h u ++ pad)) magicB) = (q, txt (lebN h ++ (lebN u ++ (fourOf (crcSum (headL q h u)) ++ pad))), 0) := by
    unfold n1; rw [hc]; exact num_laid q _ hq
  have h2 : n2 (cutP (txt (headB q h u ++ pad)) magicB) = (h, txt (lebN u ++ (fourOf (crcSum (headL q h u)) ++ pad)), 0) := by
    unfold n2; rw [h1]; exact num_laid h _ (by omega)
  have h3 : n3 (cutP (txt (headB q h u ++ pad)) magicB) = (u, txt (fourOf (crcSum (headL q h u)) ++ pad), 0) := by
    unfold n3; rw [h2]; exact num_laid u _ hu
  refine ⟨hp, by rw [h1], by rw [h2], by rw [h3], ?_⟩
  unfold hdR
  rw [h1, h2, h3]
  have hpre : preB (txt (headB q h u ++ pad)) ⟨(headB q h u).toArray⟩ = true := by
    rw [preB_iff, bytes_len]
    show (headB q h u ++ pad).take (headB q h u).length = headB q h u
    exact List.take_left
  rw [hpre]
  simp [hh, hz]
theorem readH_head {st : Dk} {i q h u : Nat} (hi : i < st.S.length) (hd : st.down = false) (hl : lastS st.S i = fill ⟨(headB q h u).toArray⟩) (hq : q ≤ 9223372036854775807) (hh : h ≤ 1) (hu : u ≤ 9223372036854775807) (hz : u ≤ sizeN st.S.length * 64) :
    readH st (i : Nat) = ((q, h, u), true, 0) := by
  have hr := read_ok st i hi hd
  have hf : lastS st.S i = headB q h u ++ List.replicate (64 - (headB q h u).length) 0 := by
    rw [hl]; unfold fill; rw [bytes_len]
  rw [hf] at hr
  obtain ⟨h1, h2, h3, h4, h5⟩ := head_back q h u (sizeN st.S.length) (List.replicate (64 - (headB q h u).length) 0) hq hh hu hz
  unfold readH
  rw [hr]
  rw [if_neg (by rw [h1]; simp)]
  simp only []
  rw [h2, h3, h4, h5]

/-- bytes in a sector -/
def chunk (L : List UInt8) (k : Nat) : Sec := (L.drop (64 * k)).take 64 ++ List.replicate (64 - ((L.drop (64 * k)).take 64).length) 0
def nch (n : Nat) : Nat := (n + 63) / 64
theorem chunk_length (L : List UInt8) (k : Nat) : (chunk L k).length = 64 := by
  unfold chunk
  rw [List.length_append, List.length_replicate, List.length_take]
  omega
theorem chunk_take (L : List UInt8) (k u : Nat) (h : u ≤ 64) (hu : 64 * k + u ≤ L.length) : (chunk L k).take u = (L.drop (64 * k)).take u := by
  unfold chunk
  rw [List.take_append_of_le_length (by rw [List.length_take, List.length_drop]; omega), List.take_take, Nat.min_eq_left h]
theorem chunk_next (L : List UInt8) (k : Nat) : chunk (L.drop 64) k = chunk L (k + 1) := by
  unfold chunk
  rw [List.drop_drop, show 64 + 64 * k = 64 * (k + 1) by omega]
theorem chunk_zero (s : ByteArray) : fill (s.extract 0 (min 64 s.size)) = chunk s.data.toList 0 := by
  have hl : (s.extract 0 (min 64 s.size)).data.toList = s.data.toList.take 64 := by
    rw [ext_list, List.drop_zero]
    by_cases h : s.size ≤ 64
    · rw [show min 64 s.size = s.size by omega, ← list_of_size s, List.take_length, List.take_of_length_le (by rw [list_of_size]; exact h)]
    · rw [show min 64 s.size = 64 by omega]
  have hs : (s.extract 0 (min 64 s.size)).size = (s.data.toList.take 64).length := by rw [← list_of_size, hl]
  unfold fill chunk
  rw [hl, hs, Nat.mul_zero, List.drop_zero]
theorem rest_list (s : ByteArray) : (s.extract (min 64 s.size) s.size).data.toList = s.data.toList.drop 64 := by
  rw [ext_list]
  rw [show s.data.toList.take s.size = s.data.toList by rw [← list_of_size s, List.take_length]]
  by_cases h : s.size ≤ 64
  · rw [show min 64 s.size = s.size by omega, List.drop_of_length_le (by rw [list_of_size]; exact Nat.le_refl _), List.drop_of_length_le (by rw [list_of_size]; exact h)]
  · rw [show min 64 s.size = 64 by omega]
/-- sectors that hold bytes -/
theorem chunks_take (L : List UInt8) : ∀ m, 64 * m ≤ L.length + 63 → ((List.range m).flatMap (chunk L)).take (min (64 * m) L.length) = L.take (64 * m)
  | 0, _ => by simp
  | m + 1, h => by
    have ih := chunks_take L m (by omega)
    have hlen : ∀ m, ((List.range m).flatMap (chunk L)).length = 64 * m := fun m => by
      induction m with
      | zero => rfl
      | succ m ih => rw [List.range_succ, List.flatMap_append, List.length_append, ih]; simp [chunk_length]; omega
    have hm : 64 * m ≤ L.length := by omega
    rw [Nat.min_eq_left hm, List.take_of_length_le (by rw [hlen]; exact Nat.le_refl _)] at ih
    rw [List.range_succ, List.flatMap_append, ih]
    have hs : [m].flatMap (chunk L) = chunk L m := by simp
    have hl : (L.take (64 * m)).length = 64 * m := by rw [List.length_take]; omega
    rw [hs, List.take_append, hl, List.take_take, Nat.min_eq_right (show 64 * m ≤ min (64 * (m + 1)) L.length by omega)]
    rw [chunk_take L m _ (by omega) (by omega)]
    have hx : (L.drop (64 * m)).take (min (64 * (m + 1)) L.length - 64 * m) = (L.drop (64 * m)).take 64 := by
      by_cases hc : 64 * (m + 1) ≤ L.length
      · rw [show min (64 * (m + 1)) L.length - 64 * m = 64 by omega]
      · rw [List.take_of_length_le (by rw [List.length_drop]; omega), List.take_of_length_le (by rw [List.length_drop]; omega)]
    rw [hx, show 64 * (m + 1) = 64 * m + 64 by omega, List.take_add]
end Go.Proofs.YtjjejkhekmpgcaaGreat

namespace Go.Proofs.YtjjejkhekmpgcaaGreat
set_option maxRecDepth 4000
open Go.RowKit

theorem getD_push {S : List (List Sec)} {i : Nat} (hi : i < S.length) (f : Sec) (j : Nat) : (pushS S i f).getD j [] = if j = i then S.getD i [] ++ [f] else S.getD j [] := by
  by_cases h : j = i
  · subst h
    rw [if_pos rfl]
    unfold pushS putS
    rw [List.getD_eq_getElem?_getD, List.getElem?_set_self hi]
    rfl
  · rw [if_neg h]
    exact getD_put _ _ _ _ h
theorem call_up {st : Dk} (hd : st.down = false) : (callD st).down = false → (callD st).S = st.S ∧ (st.armed = 0 → (callD st).armed = 0) := fun _ => by
  refine ⟨rfl, fun h => ?_⟩
  unfold callD
  rw [h]
  rfl
theorem call_zero {st : Dk} (hd : st.down = false) (ha : st.armed = 0) : (callD st).down = false ∧ (callD st).armed = 0 := by
  unfold callD
  rw [ha, hd]
  exact ⟨rfl, rfl⟩
theorem write_cases (st : Dk) (i : Nat) (s : ByteArray) (hd : st.down = false) (hi : i < st.S.length) (hs : s.size ≤ 64) :
    (writeD st (i : Nat) s = (12, callD st) ∧ (callD st).down = true ∧ st.armed ≠ 0) ∨
      (writeD st (i : Nat) s = (0, ⟨pushS st.S i (fill s), (callD st).calls, (callD st).armed, (callD st).down⟩) ∧ (callD st).down = false ∧ (st.armed = 0 → (callD st).armed = 0)) := by
  have hr : readyE st (i : Nat) = 0 := by
    unfold readyE
    rw [if_neg (by rw [hd]; simp), if_neg (by omega)]
  unfold writeD
  rw [if_neg (by rw [hr]; simp), if_neg (by omega)]
  cases hc : (callD st).down with
  | true =>
    rw [if_pos rfl]
    refine .inl ⟨rfl, rfl, fun ha => ?_⟩
    rw [(call_zero hd ha).1] at hc
    cases hc
  | false =>
    rw [if_neg (by simp)]
    exact .inr ⟨rfl, rfl, fun ha => (call_zero hd ha).2⟩
theorem flush_cases (st : Dk) (hd : st.down = false) (h1 : 1 ≤ st.S.length) (ok : secOk st.S) :
    (flushD st = (12, callD st) ∧ (callD st).down = true ∧ st.armed ≠ 0) ∨
      ((flushD st).1 = 0 ∧ (flushD st).2.down = false ∧ (flushD st).2.S.length = st.S.length ∧ (∀ i, i < st.S.length → (flushD st).2.S.getD i [] = [lastS st.S i]) ∧ (st.armed = 0 → (flushD st).2.armed = 0)) := by
  have hr : readyE st 0 = 0 := by
    unfold readyE
    rw [if_neg (by rw [hd]; simp), if_neg (by omega)]
  unfold flushD
  rw [if_neg (by rw [hr]; simp)]
  cases hc : (callD st).down with
  | true =>
    rw [if_pos rfl]
    refine .inl ⟨rfl, rfl, fun ha => ?_⟩
    rw [(call_zero hd ha).1] at hc
    cases hc
  | false =>
    rw [if_neg (by simp)]
    exact .inr ⟨rfl, rfl, settleN_length _ _ _ _, fun i hi => flush_get hi ok, fun ha => (call_zero hd ha).2⟩
/-- what a crash keeps of a sector is one of what was there -/
theorem crash_get (st : Dk) (keep : List Int) (ok : secOk st.S) (i : Nat) (hi : i < st.S.length) : ∃ x, x ∈ st.S.getD i [] ∧ (crashD st keep).S.getD i [] = [x] := by
  obtain ⟨g1, _⟩ := getD_ok ok hi
  show ∃ x, x ∈ st.S.getD i [] ∧ (settleN (crashOf keep) st.S (dirt st.S) (dirt st.S).length).getD i [] = [x]
  rcases settle_all (crashOf keep) st.S i hi with ⟨h1, h2⟩ | ⟨j, h2⟩
  · rw [h2, single_of_pend hi ok h1]
    exact ⟨_, by simp, rfl⟩
  · have hmem : ∀ M : List Sec, M ≠ [] → crashOf keep j M ∈ M := fun M hM => by
      unfold crashOf
      have hq := crashK_lt keep j M.length (List.length_pos_iff.2 hM)
      rw [List.getD_eq_getElem?_getD, List.getElem?_eq_getElem hq]
      exact List.getElem_mem _
    exact ⟨_, hmem _ g1, h2⟩
theorem crash_length (st : Dk) (keep : List Int) : (crashD st keep).S.length = st.S.length := settleN_length _ _ _ _

/-- what so many writes leave -/
structure WrPost (st : Dk) (at' : Nat) (L : List UInt8) (r : Int × Dk) : Prop where
  len : r.2.S.length = st.S.length
  ok : secOk r.2.S
  res : (r.1 = 0 ∧ r.2.down = false) ∨ (r.1 = 12 ∧ r.2.down = true)
  out : ∀ i, ¬ (at' ≤ i ∧ i < at' + nch L.length) → r.2.S.getD i [] = st.S.getD i []
  inn : ∀ k, k < nch L.length → r.2.S.getD (at' + k) [] = st.S.getD (at' + k) [] ++ [chunk L k] ∨ (r.1 = 12 ∧ r.2.S.getD (at' + k) [] = st.S.getD (at' + k) [])
  arm : st.armed = 0 → r.1 = 0 ∧ r.2.armed = 0
theorem nch_next (n : Nat) (h : n ≠ 0) : nch n = nch (n - 64) + 1 := by unfold nch; omega
theorem wrD_post : ∀ (f : Nat) (st : Dk) (at' : Nat) (s : ByteArray), s.size < f → st.down = false → secOk st.S → at' + nch s.size ≤ st.S.length → WrPost st at' s.data.toList (wrD f st at' s)
  | 0, _, _, _, h, _, _, _ => absurd h (by omega)
  | f + 1, st, at', s, hf, hd, ok, hn => by
    have hsl := list_of_size s
    unfold wrD
    by_cases h0 : s.size = 0
    · rw [if_pos h0]
      have hz : nch s.data.toList.length = 0 := by rw [hsl, h0]; rfl
      exact ⟨rfl, ok, .inl ⟨rfl, hd⟩, fun _ _ => rfl, fun k hk => absurd hk (by omega), fun ha => ⟨rfl, ha⟩⟩
    · rw [if_neg h0]
      have hnx := nch_next s.size h0
      have hps := part_size s
      have hlt : at' < st.S.length := by omega
      rcases write_cases st at' (s.extract 0 (min 64 s.size)) hd hlt hps.1 with ⟨hw, hc, ha⟩ | ⟨hw, hc, ha⟩
      · rw [hw, if_pos (by simp)]
        exact ⟨rfl, ok, .inr ⟨rfl, hc⟩, fun _ _ => rfl, fun k _ => .inr ⟨rfl, rfl⟩, fun h => absurd h ha⟩
      · rw [hw, if_neg (by simp)]
        obtain ⟨st1, hst1⟩ : ∃ st1, st1 = (⟨pushS st.S at' (fill (s.extract 0 (min 64 s.size))), (callD st).calls, (callD st).armed, (callD st).down⟩ : Dk) := ⟨_, rfl⟩
        have hS1 : st1.S = pushS st.S at' (chunk s.data.toList 0) := by rw [hst1, chunk_zero]
        have ok1 : secOk st1.S := by rw [hS1]; exact secOk_push ok hlt (chunk_length _ _)
        have hl1 : st1.S.length = st.S.length := by rw [hS1]; exact putS_length _ _ _
        have hd1 : st1.down = false := by rw [hst1]; exact hc
        have hrl := rest_list s
        have hrs : (s.extract (min 64 s.size) s.size).size = s.size - 64 := by rw [← list_of_size, hrl, List.length_drop, hsl]
        have ih := wrD_post f st1 (at' + 1) (s.extract (min 64 s.size) s.size) (by rw [hrs]; omega) hd1 ok1 (by rw [hrs, hl1]; omega)
        rw [← hst1]
        rw [hrl] at ih
        have hnl : nch (s.data.toList.drop 64).length = nch (s.size - 64) := by rw [List.length_drop, hsl]
        have hg : ∀ j, st1.S.getD j [] = if j = at' then st.S.getD at' [] ++ [chunk s.data.toList 0] else st.S.getD j [] := fun j => by rw [hS1]; exact getD_push hlt _ j
        refine ⟨by rw [ih.len, hl1], ih.ok, ih.res, fun i hi => ?_, fun k hk => ?_, fun h => ih.arm (by rw [hst1]; exact ha h)⟩
        · rw [hsl, hnx] at hi
          rw [ih.out i (by rw [hnl]; omega), hg, if_neg (by omega)]
        · rw [hsl, hnx] at hk
          cases k with
          | zero =>
            refine .inl ?_
            simp only [Nat.add_zero]
            rw [ih.out at' (by omega), hg, if_pos rfl]
          | succ k =>
            have h1 := ih.inn k (by rw [hnl]; omega)
            rw [show at' + 1 + k = at' + (k + 1) by omega, hg, if_neg (by omega), chunk_next] at h1
            exact h1
theorem writes_post (st : Dk) (at' : Nat) (s : ByteArray) (hd : st.down = false) (ok : secOk st.S) (hn : at' + nch s.size ≤ st.S.length) : WrPost st at' s.data.toList (writesD st at' s) :=
  wrD_post _ st at' s (by omega) hd ok hn
end Go.Proofs.YtjjejkhekmpgcaaGreat

namespace Go.Proofs.YtjjejkhekmpgcaaGreat
set_option maxRecDepth 4000
open Go.RowKit

/-- what a sector is as a head -/
def headOf (x : Sec) (z : Nat) : (Nat × Nat × Nat) × Bool × Int :=
  if preB (txt x) magicB = false then ((0, 0, 0), false, 0)
  else (((n1 (cutP (txt x) magicB)).1, (n2 (cutP (txt x) magicB)).1, (n3 (cutP (txt x) magicB)).1), hdR (txt x) z, 0)
theorem readH_val {st : Dk} {i : Nat} (hi : i < st.S.length) (hd : st.down = false) : readH st (i : Nat) = headOf (lastS st.S i) (sizeN st.S.length) := by
  unfold readH headOf
  rw [read_ok st i hi hd]
  by_cases hp : preB (txt (lastS st.S i)) magicB = false
  · rw [if_pos (.inr hp), if_pos hp]
  · rw [if_neg (fun h => h.elim (fun h => h rfl) hp), if_neg hp]
theorem headOf_head (q h u z : Nat) (hq : q ≤ 9223372036854775807) (hh : h ≤ 1) (hu : u ≤ 9223372036854775807) (hz : u ≤ z * 64) : headOf (fill ⟨(headB q h u).toArray⟩) z = ((q, h, u), true, 0) := by
  have hf : fill ⟨(headB q h u).toArray⟩ = headB q h u ++ List.replicate (64 - (headB q h u).length) 0 := by unfold fill; rw [bytes_len]
  rw [hf]
  obtain ⟨h1, h2, h3, h4, h5⟩ := head_back q h u z (List.replicate (64 - (headB q h u).length) 0) hq hh hu hz
  unfold headOf
  rw [if_neg (by rw [h1]; simp), h2, h3, h4, h5]
theorem headOf_err (x : Sec) (z : Nat) : (headOf x z).2.2 = 0 := by unfold headOf; split <;> rfl

/-- nothing is pending; it is up -/
structure Calm (st : Dk) (n : Nat) : Prop where
  len : st.S.length = n
  ok : secOk st.S
  up : st.down = false
  one : ∀ i, i < n → st.S.getD i [] = [lastS st.S i]
/-- a journal lies on a disk -/
structure OnDisk (st : Dk) (n seq half : Nat) (l : List ByteArray) : Prop where
  calm : Calm st n
  four : 4 ≤ n
  hf : half ≤ 1
  fit : (allR l).length ≤ sizeN n * 64
  sq : seq ≤ 9223372036854775807
  head : lastS st.S (seq % 2) = fill ⟨(headB seq half (allR l).length).toArray⟩
  other : (headOf (lastS st.S ((seq + 1) % 2)) (sizeN n)).2.1 = true → (headOf (lastS st.S ((seq + 1) % 2)) (sizeN n)).1.1 < seq
  bytes : (halfB st half).take (allR l).length = allR l
/-- the journal that is opened -/
def jOf (seq half : Nat) (l : List ByteArray) : Jn := ⟨seq, half, (allR l).length, txt ((allR l).drop ((allR l).length - (allR l).length % 64)), false⟩
theorem OnDisk.small {st : Dk} {n seq half : Nat} {l : List ByteArray} (h : OnDisk st n seq half l) : (allR l).length ≤ 262144 ∧ n ≤ 4096 := by
  have h1 := h.calm.ok.2.1
  rw [h.calm.len] at h1
  have h2 := h.fit
  have : sizeN n ≤ 4096 := by unfold sizeN; omega
  omega
theorem OnDisk.holds {st : Dk} {n seq half : Nat} {l : List ByteArray} (h : OnDisk st n seq half l) : holdsR st = ((seq, half, (allR l).length), 0) := by
  have hs := h.small
  have h4 := h.four
  have hh := headOf_head seq half (allR l).length (sizeN n) h.sq h.hf (by omega) h.fit
  rw [← h.head] at hh
  have r0 := readH_val (st := st) (i := 0) (by rw [h.calm.len]; omega) h.calm.up
  have r1 := readH_val (st := st) (i := 1) (by rw [h.calm.len]; omega) h.calm.up
  rw [h.calm.len] at r0 r1
  have ho := h.other
  have hend := holdsR_end (st := st) (fun j hj => by
    have : j = 0 ∨ j = 1 := by omega
    rcases this with rfl | rfl
    · rw [r0]; exact headOf_err _ _
    · rw [r1]; exact headOf_err _ _)
  rw [hend]
  have e1 : holdN st 1 = if (headOf (lastS st.S 0) (sizeN n)).2.1 = true then ((headOf (lastS st.S 0) (sizeN n)).1, true) else ((0, 0, 0), false) := by
    show (if (readH st (0 : Nat)).2.1 = true ∧ (false = false ∨ _) then _ else _) = _
    rw [r0]
    simp
    rfl
  have e2 : holdN st 2 = if (headOf (lastS st.S 1) (sizeN n)).2.1 = true ∧ ((holdN st 1).2 = false ∨ (holdN st 1).1.1 < (headOf (lastS st.S 1) (sizeN n)).1.1) then ((headOf (lastS st.S 1) (sizeN n)).1, true) else holdN st 1 := by
    show (if (readH st (1 : Nat)).2.1 = true ∧ ((holdN st 1).2 = false ∨ (holdN st 1).1.1 < (readH st (1 : Nat)).1.1) then ((readH st (1 : Nat)).1, true) else holdN st 1) = _
    rw [r1]
  have hc : seq % 2 = 0 ∨ seq % 2 = 1 := by omega
  rcases hc with hc | hc
  · rw [show (seq + 1) % 2 = 1 by omega] at ho
    rw [hc] at hh
    rw [hh] at e1
    rw [if_pos rfl] at e1
    have e3 : holdN st 2 = ((seq, half, (allR l).length), true) := by
      rw [e2, e1, if_neg]
      rintro ⟨h1, h2⟩
      have := ho h1
      rcases h2 with h2 | h2
      · cases h2
      · have h2 : seq < _ := h2
        omega
    rw [e3, if_neg (by simp)]
  · rw [show (seq + 1) % 2 = 0 by omega] at ho
    rw [hc] at hh
    rw [hh] at e2
    have e3 : holdN st 2 = ((seq, half, (allR l).length), true) := by
      rw [e2, if_pos]
      refine ⟨rfl, ?_⟩
      by_cases h1 : (headOf (lastS st.S 0) (sizeN n)).2.1 = true
      · rw [e1, if_pos h1]
        exact .inr (ho h1)
      · rw [e1, if_neg h1]
        exact .inl rfl
    rw [e3, if_neg (by simp)]
theorem size_le_all : ∀ (l : List ByteArray) (s : ByteArray), s ∈ l → s.size ≤ (allR l).length
  | [], _, h => by cases h
  | t :: l, s, h => by
    rw [allR_cons, List.length_append, oneR_length]
    rcases List.mem_cons.1 h with h | h
    · rw [h]; omega
    · have := size_le_all l s h; omega
theorem OnDisk.opens {st : Dk} {n seq half : Nat} {l : List ByteArray} (h : OnDisk st n seq half l) : (holdsR st).2 = 0 ∧ readR (recB st) = (l, 0) ∧ openJ st = jOf seq half l ∧ 4 ≤ st.S.length := by
  have hh := h.holds
  have hs := h.small
  have hrb : recB st = txt (allR l) := by
    unfold recB
    rw [hh]
    show txt ((halfB st half).take (allR l).length) = _
    rw [h.bytes]
  refine ⟨by rw [hh], ?_, ?_, by rw [h.calm.len]; exact h.four⟩
  · rw [hrb]
    exact readR_laid l (fun s hs' => by have := size_le_all l s hs'; omega)
  · unfold openJ jOf
    rw [hrb, hh]
    show (⟨seq, half, (allR l).length, (txt (allR l)).extract ((allR l).length - (allR l).length % 64) (txt (allR l)).size, false⟩ : Jn) = _
    have : (txt (allR l)).extract ((allR l).length - (allR l).length % 64) (txt (allR l)).size = txt ((allR l).drop ((allR l).length - (allR l).length % 64)) := by
      unfold txt
      rw [ext_of, bytes_len, List.take_length]
    rw [this]
theorem jOf_ok {st : Dk} {n seq half : Nat} {l : List ByteArray} (h : OnDisk st n seq half l) : JnOk st (jOf seq half l) := by
  refine ⟨h.hf, h.small.1, ?_, h.sq⟩
  unfold jOf
  show (txt _).size = _
  rw [txt_size, List.length_drop]
  show (allR l).length - ((allR l).length - (allR l).length % 64) = (allR l).length % 64
  omega
/-- the same contents make the same journal -/
theorem secsB_congr {st st' : Dk} (base : Nat) : ∀ k, (∀ i, i < k → lastS st'.S (base + i) = lastS st.S (base + i)) → secsB st' base k = secsB st base k
  | 0, _ => rfl
  | k + 1, h => by rw [secsB_succ, secsB_succ, secsB_congr base k (fun i hi => h i (by omega)), h k (by omega)]
theorem secsB_split (st : Dk) (base a : Nat) : ∀ b, secsB st base (a + b) = secsB st base a ++ (List.range b).flatMap (fun k => lastS st.S (base + a + k))
  | 0 => by simp
  | b + 1 => by
    rw [show a + (b + 1) = a + b + 1 by omega, secsB_succ, secsB_split st base a b, List.range_succ, List.flatMap_append, List.append_assoc]
    simp [Nat.add_assoc]
theorem secsB_same {st st' : Dk} (ok : secOk st.S) (ok' : secOk st'.S) (hl : st'.S.length = st.S.length) (base u : Nat) : ∀ k, base + k ≤ st.S.length →
    (∀ i, i < k → (lastS st'.S (base + i)).take (u - 64 * i) = (lastS st.S (base + i)).take (u - 64 * i)) → (secsB st' base k).take u = (secsB st base k).take u
  | 0, _, _ => rfl
  | k + 1, hk, h => by
    have ih := secsB_same ok ok' hl base u k (by omega) (fun i hi => h i (by omega))
    have h1 := secsB_length st base k ok (by omega)
    have h2 := secsB_length st' base k ok' (by rw [hl]; omega)
    rw [secsB_succ, secsB_succ, List.take_append, List.take_append, ih, h1, h2, h k (by omega)]
end Go.Proofs.YtjjejkhekmpgcaaGreat

namespace Go.Proofs.YtjjejkhekmpgcaaGreat
set_option maxRecDepth 4000
open Go.RowKit

/-- contents: as they were, but in a range, where each may be a new one -/
def Near (st st' : Dk) (n a m : Nat) (L : List UInt8) : Prop := ∀ i, i < n → lastS st'.S i = lastS st.S i ∨ ∃ k, k < m ∧ i = a + k ∧ lastS st'.S i = chunk L k
/-- what a set is to do -/
structure SetPlan (st : Dk) (n seq half : Nat) (l : List ByteArray) (half' from' : Nat) (s : ByteArray) (l' : List ByteArray) : Prop where
  on : OnDisk st n seq half l
  hf : half' ≤ 1
  f64 : from' % 64 = 0
  room : from' / 64 + nch s.size ≤ sizeN n
  next : (halfB st half').take from' ++ s.data.toList = allR l'
  old : ∀ st', st'.S.length = n → secOk st'.S → Near st st' n (2 + half' * sizeN n + from' / 64) (nch s.size) s.data.toList → (halfB st' half).take (allR l).length = allR l
  sq : seq < 9223372036854775807
theorem lastS_one {S : List (List Sec)} {i : Nat} {x : Sec} (h : S.getD i [] = [x]) : lastS S i = x := by unfold lastS; rw [h]; rfl
theorem OnDisk.keep {st st' : Dk} {n seq half : Nat} {l : List ByteArray} (h : OnDisk st n seq half l) (hc : Calm st' n) (a m : Nat) (L : List UInt8) (ha : 2 ≤ a) (hn : Near st st' n a m L) (hb : (halfB st' half).take (allR l).length = allR l) : OnDisk st' n seq half l := by
  have h4 := h.four
  have hs : ∀ i, i < 2 → lastS st'.S i = lastS st.S i := fun i hi => by
    rcases hn i (by omega) with e | ⟨k, _, e, _⟩
    · exact e
    · omega
  refine ⟨hc, h.four, h.hf, h.fit, h.sq, ?_, ?_, hb⟩
  · rw [hs _ (by omega)]; exact h.head
  · rw [hs _ (by omega)]; exact h.other
theorem calm_crash (st : Dk) (keep : List Int) (n : Nat) (hn : st.S.length = n) (ok : secOk st.S) : Calm (crashD st keep) n ∧ (crashD st keep).armed = 0 ∧ ∀ i, i < n → lastS (crashD st keep).S i ∈ st.S.getD i [] := by
  have hl := crash_length st keep
  have hall : ∀ i, i < n → ∃ x, x ∈ st.S.getD i [] ∧ (crashD st keep).S.getD i [] = [x] := fun i hi => crash_get st keep ok i (by omega)
  refine ⟨⟨by rw [hl, hn], ⟨by rw [hl]; exact ok.1, by rw [hl]; exact ok.2.1, fun L hL => ?_⟩, rfl, fun i hi => ?_⟩, rfl, fun i hi => ?_⟩
  · obtain ⟨i, hi, rfl⟩ := List.getElem_of_mem hL
    have hi' : i < n := by rw [hl, hn] at hi; exact hi
    obtain ⟨x, hx, he⟩ := hall i hi'
    rw [List.getD_eq_getElem?_getD, List.getElem?_eq_getElem hi] at he
    have he : (crashD st keep).S[i] = [x] := he
    rw [he]
    exact ⟨by simp, fun t ht => by rw [List.mem_singleton.1 ht]; exact (getD_ok ok (by omega : i < st.S.length)).2 x hx⟩
  · obtain ⟨x, _, he⟩ := hall i hi
    rw [he, lastS_one he]
  · obtain ⟨x, hx, he⟩ := hall i hi
    rw [lastS_one he]
    exact hx
theorem calm_flush (st : Dk) (n : Nat) (hn : st.S.length = n) (h1 : (flushD st).2.S.length = st.S.length) (hd : (flushD st).2.down = false) (ok : secOk st.S) (hg : ∀ i, i < st.S.length → (flushD st).2.S.getD i [] = [lastS st.S i]) :
    Calm (flushD st).2 n ∧ ∀ i, i < n → lastS (flushD st).2.S i = lastS st.S i := by
  refine ⟨⟨by rw [h1, hn], ⟨by rw [h1]; exact ok.1, by rw [h1]; exact ok.2.1, fun L hL => ?_⟩, hd, fun i hi => ?_⟩, fun i hi => lastS_one (hg i (by omega))⟩
  · obtain ⟨i, hi, rfl⟩ := List.getElem_of_mem hL
    have hi' : i < st.S.length := by rw [h1] at hi; exact hi
    have he := hg i hi'
    rw [List.getD_eq_getElem?_getD, List.getElem?_eq_getElem hi] at he
    have he : (flushD st).2.S[i] = [lastS st.S i] := he
    rw [he]
    exact ⟨by simp, fun t ht => by rw [List.mem_singleton.1 ht]; exact last_len hi' ok⟩
  · have he := hg i (by omega)
    rw [he, lastS_one he]
section
variable {st : Dk} {n seq half half' from' : Nat} {l l' : List ByteArray} {s : ByteArray}
/-- the bytes of what was written -/
theorem SetPlan.bytes (h : SetPlan st n seq half l half' from' s l') {st' : Dk} (hl : st'.S.length = n) (hok : secOk st'.S)
    (hout : ∀ i, i < n → ¬ (2 + half' * sizeN n + from' / 64 ≤ i ∧ i < 2 + half' * sizeN n + from' / 64 + nch s.size) → 2 ≤ i → lastS st'.S i = lastS st.S i)
    (hin : ∀ k, k < nch s.size → lastS st'.S (2 + half' * sizeN n + from' / 64 + k) = chunk s.data.toList k) :
    (halfB st' half').take (allR l').length = allR l' ∧ (allR l').length = from' + s.size ∧ (allR l').length ≤ sizeN n * 64 := by
  have hr := h.room
  have h64 := h.f64
  have hlen := h.on.calm.len
  have hfit := half_in n half' (sizeN n) h.on.four h.hf (Nat.le_refl _)
  obtain ⟨B, hB⟩ : ∃ B, B = 2 + half' * sizeN n := ⟨_, rfl⟩
  rw [← hB] at hout hin hfit
  have hhb : halfB st half' = secsB st B (sizeN n) := by unfold halfB; rw [hlen, hB]
  have hhb' : halfB st' half' = secsB st' B (sizeN n) := by unfold halfB; rw [hl, hB]
  have hsz : s.data.toList.length = s.size := list_of_size s
  have hnx := h.next
  rw [hhb] at hnx
  have hfl : (secsB st B (from' / 64)).length = from' := by rw [secsB_length st B _ h.on.calm.ok (by rw [hlen]; omega)]; omega
  have hft : (secsB st B (sizeN n)).take from' = secsB st B (from' / 64) := by
    have := secsB_take st B (sizeN n - from' / 64) (from' / 64) from' (by rw [hfl]; exact Nat.le_refl _)
    rw [show from' / 64 + (sizeN n - from' / 64) = sizeN n by omega] at this
    rw [this, List.take_of_length_le (by rw [hfl]; exact Nat.le_refl _)]
  rw [hft] at hnx
  have htot : (allR l').length = from' + s.size := by rw [← hnx, List.length_append, hfl, hsz]
  have hnc : s.size ≤ 64 * nch s.size ∧ 64 * nch s.size ≤ s.size + 63 := by unfold nch; omega
  have hsame : secsB st' B (from' / 64) = secsB st B (from' / 64) := secsB_congr B _ (fun i hi => hout (B + i) (by omega) (by omega) (by omega))
  have hmid : (List.range (nch s.size)).flatMap (fun k => lastS st'.S (B + from' / 64 + k)) = (List.range (nch s.size)).flatMap (chunk s.data.toList) := by
    have : ∀ m, m ≤ nch s.size → (List.range m).flatMap (fun k => lastS st'.S (B + from' / 64 + k)) = (List.range m).flatMap (chunk s.data.toList) := fun m => by
      induction m with
      | zero => intro _; rfl
      | succ m ih =>
        intro hm
        rw [List.range_succ, List.flatMap_append, List.flatMap_append, ih (by omega)]
        simp only [List.flatMap_cons, List.flatMap_nil, List.append_nil]
        rw [hin m (by omega)]
    exact this _ (Nat.le_refl _)
  have hct := chunks_take s.data.toList (nch s.size) (by rw [hsz]; exact hnc.2)
  rw [hsz, Nat.min_eq_right hnc.1, List.take_of_length_le (show s.data.toList.length ≤ 64 * nch s.size by rw [hsz]; exact hnc.1)] at hct
  have hsplit := secsB_split st' B (from' / 64) (nch s.size)
  rw [hsame, hmid] at hsplit
  have hlong : (secsB st' B (from' / 64 + nch s.size)).length = 64 * (from' / 64 + nch s.size) := secsB_length st' B _ hok (by rw [hl]; omega)
  have htk := secsB_take st' B (sizeN n - (from' / 64 + nch s.size)) (from' / 64 + nch s.size) (from' + s.size) (by rw [hlong]; omega)
  rw [show from' / 64 + nch s.size + (sizeN n - (from' / 64 + nch s.size)) = sizeN n by omega, hsplit] at htk
  refine ⟨?_, htot, by omega⟩
  rw [htot, hhb', htk, List.take_append, hfl, List.take_of_length_le (by rw [hfl]; omega), show from' + s.size - from' = s.size by omega, hct, hnx]
/-- the new journal -/
theorem SetPlan.new (h : SetPlan st n seq half l half' from' s l') {st' : Dk} (hc : Calm st' n)
    (hout : ∀ i, i < n → ¬ (2 + half' * sizeN n + from' / 64 ≤ i ∧ i < 2 + half' * sizeN n + from' / 64 + nch s.size) → i ≠ (seq + 1) % 2 → lastS st'.S i = lastS st.S i)
    (hin : ∀ k, k < nch s.size → lastS st'.S (2 + half' * sizeN n + from' / 64 + k) = chunk s.data.toList k)
    (hh : lastS st'.S ((seq + 1) % 2) = fill ⟨(headB (seq + 1) half' (from' + s.size)).toArray⟩) : OnDisk st' n (seq + 1) half' l' := by
  obtain ⟨h1, h2, h3⟩ := h.bytes hc.len hc.ok (fun i hi hr h2 => hout i hi hr (by omega)) hin
  have h4 := h.on.four
  have hs := h.on.small
  refine ⟨hc, h4, h.hf, h3, by have := h.sq; omega, by rw [hh, h2], ?_, h1⟩
  have e : lastS st'.S ((seq + 1 + 1) % 2) = fill ⟨(headB seq half (allR l).length).toArray⟩ := by
    rw [show (seq + 1 + 1) % 2 = seq % 2 by omega, hout (seq % 2) (by omega) (by omega) (by omega), h.on.head]
  rw [e, headOf_head seq half (allR l).length (sizeN n) h.on.sq h.on.hf (by omega) h.on.fit]
  intro _
  show seq < seq + 1
  omega
end
end Go.Proofs.YtjjejkhekmpgcaaGreat

namespace Go.Proofs.YtjjejkhekmpgcaaGreat
set_option maxRecDepth 4000
open Go.RowKit

theorem calm_pend {st : Dk} {n : Nat} (h : Calm st n) : pendMax st.S 0 := fun i => by
  by_cases hi : i < n
  · unfold pend
    rw [h.one i hi]
    exact Nat.le_refl _
  · rw [pend_far _ _ (by rw [h.len]; omega)]
    exact Nat.le_refl _
section
variable {st : Dk} {n seq half half' from' : Nat} {l l' : List ByteArray} {s : ByteArray}
/-- what is there behind a crash, where each sector has old ones or those of the range -/
theorem SetPlan.oldCrash (h : SetPlan st n seq half l half' from' s l') (sx : Dk) (hn : sx.S.length = n) (ok : secOk sx.S)
    (hv : ∀ i, i < n → ∀ x ∈ sx.S.getD i [], x = lastS st.S i ∨ ∃ k, k < nch s.size ∧ i = 2 + half' * sizeN n + from' / 64 + k ∧ x = chunk s.data.toList k) (keep : List Int) :
    OnDisk (crashD sx keep) n seq half l := by
  obtain ⟨hc, _, hm⟩ := calm_crash sx keep n hn ok
  have hnear : Near st (crashD sx keep) n (2 + half' * sizeN n + from' / 64) (nch s.size) s.data.toList := fun i hi => hv i hi _ (hm i hi)
  exact h.on.keep hc _ _ _ (by omega) hnear (h.old _ hc.len hc.ok hnear)
/-- whatever is done, the set is safe -/
theorem set_safe (h : SetPlan st n seq half l half' from' s l') (j : Jn) (hj : j.seq = seq) :
    ((setD st j half' from' s).1 = 0 ∧ OnDisk (setD st j half' from' s).2 n (seq + 1) half' l' ∧ (st.armed = 0 → (setD st j half' from' s).2.armed = 0)) ∨
      ((setD st j half' from' s).1 = 12 ∧ st.armed ≠ 0 ∧ (setD st j half' from' s).2.S.length = n ∧ secOk (setD st j half' from' s).2.S ∧
        ∀ (sx : Dk) (keep : List Int), sx.S = (setD st j half' from' s).2.S → OnDisk (crashD sx keep) n seq half l ∨ OnDisk (crashD sx keep) n (seq + 1) half' l') := by
  have hlen := h.on.calm.len
  have h4 := h.on.four
  have hroom := h.room
  have hfit := half_in n half' (sizeN n) h4 h.hf (Nat.le_refl _)
  have hsq := h.sq
  obtain ⟨a0, ha0⟩ : ∃ a0, a0 = 2 + half' * sizeN n + from' / 64 := ⟨_, rfl⟩
  have hin : a0 + nch s.size ≤ n := by omega
  have ha2 : 2 ≤ a0 := by omega
  have hsl := list_of_size s
  have W := writes_post st a0 s h.on.calm.up h.on.calm.ok (by rw [hlen]; exact hin)
  have hset : setD st j half' from' s = if (flushJ (writesD st a0 s)).1 ≠ 0 then flushJ (writesD st a0 s)
      else flushJ (writeD (flushJ (writesD st a0 s)).2 (((seq + 1) % 2 : Nat) : Int) ⟨(headB (seq + 1) half' (from' + s.size)).toArray⟩) := by
    unfold setD
    rw [hlen, hj, ha0]
  obtain ⟨r1, hr1⟩ : ∃ r1, r1 = writesD st a0 s := ⟨_, rfl⟩
  rw [← hr1] at W hset
  have hWl : r1.2.S.length = n := by rw [W.len, hlen]
  -- the versions behind the writes
  have hv1 : ∀ i, i < n → ∀ x ∈ r1.2.S.getD i [], x = lastS st.S i ∨ ∃ k, k < nch s.size ∧ i = a0 + k ∧ x = chunk s.data.toList k := fun i hi x hx => by
    have ho := h.on.calm.one i hi
    by_cases hr : a0 ≤ i ∧ i < a0 + nch s.size
    · obtain ⟨k, rfl⟩ : ∃ k, i = a0 + k := ⟨i - a0, by omega⟩
      have hk : k < nch s.size := by omega
      rcases W.inn k (by rw [hsl]; exact hk) with e | ⟨_, e⟩
      · rw [e, ho] at hx
        simp only [List.cons_append, List.nil_append, List.mem_cons, List.not_mem_nil, or_false] at hx
        rcases hx with hx | hx
        · exact .inl hx
        · exact .inr ⟨k, hk, rfl, hx⟩
      · rw [e, ho] at hx
        exact .inl (List.mem_singleton.1 hx)
    · rw [W.out i (by rw [hsl]; exact hr), ho] at hx
      exact .inl (List.mem_singleton.1 hx)
  have hold := h.oldCrash
  rw [← ha0] at hold
  rcases W.res with ⟨e0, d0⟩ | ⟨e12, d12⟩
  · -- all is written
    have hfj : flushJ r1 = flushD r1.2 := by unfold flushJ; rw [if_neg (by rw [e0]; simp)]
    rcases flush_cases r1.2 d0 (by rw [hWl]; omega) W.ok with ⟨hf, _, harm⟩ | ⟨f1, f2, f3, f4, f5⟩
    · rw [hfj, hf, if_pos (by simp)] at hset
      rw [hset]
      exact .inr ⟨rfl, fun ha => harm (W.arm ha).2, hWl, W.ok, fun sx keep e => .inl (hold sx (by rw [e]; exact hWl) (by rw [e]; exact W.ok) (by rw [e]; exact hv1) keep)⟩
    · obtain ⟨c2, hl2⟩ := calm_flush r1.2 n hWl f3 f2 W.ok f4
      obtain ⟨st2, hst2⟩ : ∃ st2, st2 = (flushD r1.2).2 := ⟨_, rfl⟩
      rw [hfj, if_neg (by rw [f1]; simp), ← hst2] at hset
      rw [← hst2] at c2 hl2 f5
      have hout2 : ∀ i, i < n → ¬ (a0 ≤ i ∧ i < a0 + nch s.size) → lastS st2.S i = lastS st.S i := fun i hi hr => by
        rw [hl2 i hi]
        refine lastS_one ?_
        rw [W.out i (by rw [hsl]; exact hr)]
        exact h.on.calm.one i hi
      have hin2 : ∀ k, k < nch s.size → lastS st2.S (a0 + k) = chunk s.data.toList k := fun k hk => by
        rw [hl2 (a0 + k) (by omega)]
        rcases W.inn k (by rw [hsl]; exact hk) with e | ⟨e, _⟩
        · unfold lastS
          rw [e]
          exact List.getLastD_concat
        · rw [e0] at e; simp at e
      have hv2 : ∀ i, i < n → lastS st2.S i = lastS st.S i ∨ ∃ k, k < nch s.size ∧ i = a0 + k ∧ lastS st2.S i = chunk s.data.toList k := fun i hi => by
        by_cases hr : a0 ≤ i ∧ i < a0 + nch s.size
        · obtain ⟨k, rfl⟩ : ∃ k, i = a0 + k := ⟨i - a0, by omega⟩
          exact .inr ⟨k, by omega, rfl, hin2 k (by omega)⟩
        · exact .inl (hout2 i hi hr)
      obtain ⟨t, ht⟩ : ∃ t : ByteArray, t = ⟨(headB (seq + 1) half' (from' + s.size)).toArray⟩ := ⟨_, rfl⟩
      have hfs : from' + s.size ≤ 9223372036854775807 := by
        have h1 := h.on.small.2
        have h2 : sizeN n ≤ 4096 := by unfold sizeN; omega
        have h3 : nch s.size ≤ 4096 := by omega
        unfold nch at h3
        omega
      have ht64 : t.size ≤ 64 := by
        have := headB_length (seq + 1) half' (from' + s.size) (by omega) (by have := h.hf; omega) hfs
        rw [ht, bytes_len]
        omega
      rw [← ht] at hset
      have hhd : (seq + 1) % 2 < st2.S.length := by rw [c2.len]; omega
      rcases write_cases st2 ((seq + 1) % 2) t c2.up hhd ht64 with ⟨hw, _, harm⟩ | ⟨hw, d3, harm⟩
      · rw [hw] at hset
        have hfj2 : flushJ (12, callD st2) = (12, callD st2) := by unfold flushJ; rw [if_pos (by simp)]
        rw [hset, hfj2]
        exact .inr ⟨rfl, fun ha => harm (f5 (W.arm ha).2), c2.len, c2.ok, fun sx keep e => .inl (hold sx (by rw [e]; exact c2.len) (by rw [e]; exact c2.ok) (by
          rw [e]
          intro i hi x hx
          have hx : x ∈ st2.S.getD i [] := hx
          rw [c2.one i hi] at hx
          rw [List.mem_singleton.1 hx]
          exact hv2 i hi) keep)⟩
      · rw [hw] at hset
        obtain ⟨st3, hst3⟩ : ∃ st3, st3 = (⟨pushS st2.S ((seq + 1) % 2) (fill t), (callD st2).calls, (callD st2).armed, (callD st2).down⟩ : Dk) := ⟨_, rfl⟩
        rw [← hst3] at hset
        have hS3 : st3.S = pushS st2.S ((seq + 1) % 2) (fill t) := by rw [hst3]
        have hd3 : st3.down = false := by rw [hst3]; exact d3
        have ha3 : st3.armed = (callD st2).armed := by rw [hst3]
        have ok3 : secOk st3.S := by rw [hS3]; exact secOk_push c2.ok hhd (fill_length t ht64)
        have hl3 : st3.S.length = n := by rw [hS3, show (pushS st2.S ((seq + 1) % 2) (fill t)).length = st2.S.length from putS_length _ _ _, c2.len]
        have hg3 : ∀ i, i < n → st3.S.getD i [] = if i = (seq + 1) % 2 then [lastS st2.S ((seq + 1) % 2)] ++ [fill t] else [lastS st2.S i] := fun i hi => by
          rw [hS3, getD_push hhd]
          by_cases e : i = (seq + 1) % 2
          · rw [if_pos e, if_pos e, c2.one _ (by omega)]
          · rw [if_neg e, if_neg e, c2.one i hi]
        have hfj3 : flushJ (0, st3) = flushD st3 := by unfold flushJ; rw [if_neg (by simp)]
        rw [hfj3] at hset
        have hnew := fun (st' : Dk) => h.new (st' := st')
        simp only [← ha0] at hnew
        rcases flush_cases st3 hd3 (by rw [hl3]; omega) ok3 with ⟨hf, _, harm3⟩ | ⟨g1, g2, g3, g4, g5⟩
        · rw [hset, hf]
          refine .inr ⟨rfl, fun ha => harm3 (by rw [ha3]; exact harm (f5 (W.arm ha).2)), hl3, ok3, fun sx keep e => ?_⟩
          have e : sx.S = st3.S := e
          obtain ⟨hc, _, hm⟩ := calm_crash sx keep n (by rw [e]; exact hl3) (by rw [e]; exact ok3)
          have hrest : ∀ i, i < n → i ≠ (seq + 1) % 2 → lastS (crashD sx keep).S i = lastS st2.S i := fun i hi hne => by
            have := hm i hi
            rw [e, hg3 i hi, if_neg hne] at this
            exact List.mem_singleton.1 this
          have hhm := hm ((seq + 1) % 2) (by omega)
          rw [e, hg3 _ (by omega), if_pos rfl] at hhm
          simp only [List.cons_append, List.nil_append, List.mem_cons, List.not_mem_nil, or_false] at hhm
          rcases hhm with hhm | hhm
          · -- the old head
            have hnear : Near st (crashD sx keep) n a0 (nch s.size) s.data.toList := fun i hi => by
              by_cases hne : i = (seq + 1) % 2
              · rw [hne, hhm]
                exact .inl (hout2 _ (by omega) (by omega))
              · rw [hrest i hi hne]
                exact hv2 i hi
            have hob := h.old (crashD sx keep) hc.len hc.ok
            rw [← ha0] at hob
            exact .inl (h.on.keep hc _ _ _ ha2 hnear (hob hnear))
          · exact .inr (hnew _ hc (fun i hi hr hne => by rw [hrest i hi hne, hout2 i hi hr]) (fun k hk => by rw [hrest (a0 + k) (by omega) (by omega), hin2 k hk]) (by rw [hhm, ht]))
        · obtain ⟨c4, hl4⟩ := calm_flush st3 n hl3 g3 g2 ok3 g4
          have hrest : ∀ i, i < n → i ≠ (seq + 1) % 2 → lastS (flushD st3).2.S i = lastS st2.S i := fun i hi hne => by
            rw [hl4 i hi]
            exact lastS_one (by rw [hg3 i hi, if_neg hne])
          have hh4 : lastS (flushD st3).2.S ((seq + 1) % 2) = fill t := by
            rw [hl4 _ (by omega)]
            unfold lastS
            rw [hg3 _ (by omega), if_pos rfl]
            rfl
          rw [hset]
          exact .inl ⟨g1, hnew _ c4 (fun i hi hr hne => by rw [hrest i hi hne, hout2 i hi hr]) (fun k hk => by rw [hrest (a0 + k) (by omega) (by omega), hin2 k hk]) (by rw [hh4, ht]), fun ha => g5 (by rw [ha3]; exact harm (f5 (W.arm ha).2))⟩
  · -- it went down in the midst
    have hfj : flushJ r1 = r1 := by unfold flushJ; rw [if_pos (by rw [e12]; simp)]
    rw [hfj, if_pos (by rw [e12]; simp)] at hset
    rw [hset]
    refine .inr ⟨e12, fun ha => ?_, hWl, W.ok, fun sx keep e => .inl (hold sx (by rw [e]; exact hWl) (by rw [e]; exact W.ok) (by rw [e]; exact hv1) keep)⟩
    have := (W.arm ha).1
    rw [e12] at this
    simp at this
end
end Go.Proofs.YtjjejkhekmpgcaaGreat

namespace Go.Proofs.YtjjejkhekmpgcaaGreat
set_option maxRecDepth 4000
open Go.RowKit

/-- what a call that sets answers and leaves -/
def CallRes (st : Dk) (n seq half half' : Nat) (l l' : List ByteArray) (r : Int × Dk) (j' : Jn) : Prop :=
  (r.1 = 0 ∧ OnDisk r.2 n (seq + 1) half' l' ∧ j' = jOf (seq + 1) half' l' ∧ (st.armed = 0 → r.2.armed = 0)) ∨
    (r.1 = 12 ∧ st.armed ≠ 0 ∧ r.2.S.length = n ∧ secOk r.2.S ∧ (j'.broken = true ∧ ∀ sx, JnOk sx j') ∧
      ∀ (sx : Dk) (keep : List Int), sx.S = r.2.S → OnDisk (crashD sx keep) n seq half l ∨ OnDisk (crashD sx keep) n (seq + 1) half' l')
theorem set_res {st : Dk} {n seq half half' from' : Nat} {l l' : List ByteArray} {s : ByteArray} (h : SetPlan st n seq half l half' from' s l') (hrem : (from' + s.size) % 64 ≤ s.size) (htot : (allR l').length = from' + s.size) (hdrop : (allR l').drop from' = s.data.toList)
    (j : Jn) (hj : j.seq = seq) (hb : j.broken = false) (hk : ∀ sx, JnOk sx j) : CallRes st n seq half half' l l' (setD st j half' from' s) (setJ st j half' from' s) := by
  rcases set_safe h j hj with ⟨h1, h2, h3⟩ | ⟨h1, h2, h3, h4, h5⟩
  · refine .inl ⟨h1, h2, ?_, h3⟩
    unfold setJ
    rw [if_neg (by rw [h1]; simp)]
    unfold jOf
    rw [hj, hb, htot]
    have : s.extract (s.size - (from' + s.size) % 64) s.size = txt ((allR l').drop (from' + s.size - (from' + s.size) % 64)) := by
      rw [show from' + s.size - (from' + s.size) % 64 = from' + (s.size - (from' + s.size) % 64) by omega, ← List.drop_drop, hdrop]
      have e := ext_of s.data.toList (s.size - (from' + s.size) % 64) s.size
      rw [data_of, List.take_of_length_le (by rw [list_of_size]; exact Nat.le_refl _)] at e
      exact e
    rw [this]
  · refine .inr ⟨h1, h2, h3, h4, ?_, h5⟩
    unfold setJ
    rw [if_pos (by rw [h1]; simp)]
    exact ⟨rfl, fun sx => ⟨(hk sx).half, (hk sx).used, (hk sx).tail, (hk sx).seq⟩⟩
theorem flay_ok (l : List ByteArray) (h : (allR l).length ≤ 65536) : flay l = (txt (allR l), 0) := by unfold flay; rw [if_pos h]; rfl
theorem allR_nil (l : List ByteArray) (h : (allR l).length = 0) : l = [] := by
  cases l with
  | nil => rfl
  | cons s l =>
    rw [allR_cons, List.length_append, oneR_length] at h
    omega
theorem allR_append (a b : List ByteArray) : allR (a ++ b) = allR a ++ allR b := by unfold allR; exact List.flatMap_append
theorem jOf_laid (seq half : Nat) (l L : List ByteArray) (room : Int) (hL : (allR L).length ≤ 65536) (hs : seq ≠ 9223372036854775807) :
    laidR (jOf seq half l) room L = if room < ((allR L).length : Int) then (⟨#[]⟩, 10) else (txt (allR L), 0) := by
  unfold laidR
  rw [if_neg (by show ¬ false = true; simp), if_neg (by exact hs), flay_ok L hL]
  show (if (0 : Int) = 0 ∧ room < ((txt (allR L)).size : Int) then _ else _) = _
  rw [txt_size]
  by_cases h : room < ((allR L).length : Int)
  · rw [if_pos ⟨rfl, h⟩, if_pos h]
  · rw [if_neg (fun e => h e.2), if_neg h]
theorem sec_take (st : Dk) (base sz f u : Nat) (ok : secOk st.S) (hb : base + sz ≤ st.S.length) (hf : f < sz) (h1 : 64 * f ≤ u) (h2 : u ≤ 64 * f + 64) : (lastS st.S (base + f)).take (u - 64 * f) = ((secsB st base sz).take u).drop (64 * f) := by
  have hl := secsB_length st base f ok (by omega)
  have hl1 := secsB_length st base (f + 1) ok (by omega)
  have ht := secsB_take st base (sz - (f + 1)) (f + 1) u (by rw [hl1]; omega)
  rw [show f + 1 + (sz - (f + 1)) = sz by omega] at ht
  rw [ht, secsB_succ, List.take_append, hl, List.take_of_length_le (show (secsB st base f).length ≤ u by rw [hl]; exact h1)]
  rw [← hl, List.drop_left]
section
variable {st : Dk} {n seq half : Nat} {l : List ByteArray}
theorem append_plan (h : OnDisk st n seq half l) (L : List ByteArray) (hfit : (allR l).length + (allR L).length ≤ sizeN n * 64) (hsq : seq < 9223372036854775807) :
    SetPlan st n seq half l half ((allR l).length - (allR l).length % 64) (txt ((allR l).drop ((allR l).length - (allR l).length % 64)) ++ txt (allR L)) (l ++ L) := by
  obtain ⟨u, hu⟩ : ∃ u, u = (allR l).length := ⟨_, rfl⟩
  obtain ⟨f, hf⟩ : ∃ f, f = u / 64 := ⟨_, rfl⟩
  have hfr : u - u % 64 = 64 * f := by omega
  rw [← hu, hfr]
  rw [← hu] at hfit
  have hdl : ((allR l).drop (64 * f)).length = u % 64 := by rw [List.length_drop, ← hu]; omega
  have hsd : (txt ((allR l).drop (64 * f)) ++ txt (allR L)).data.toList = (allR l).drop (64 * f) ++ allR L := by rw [txt_append]; exact bytes_of _
  have hss : (txt ((allR l).drop (64 * f)) ++ txt (allR L)).size = u % 64 + (allR L).length := by rw [txt_append, txt_size, List.length_append, hdl]
  have hby := h.bytes
  rw [← hu] at hby
  have hroom := half_in n half (sizeN n) h.four h.hf (Nat.le_refl _)
  have hhb : ∀ s' : Dk, s'.S.length = n → halfB s' half = secsB s' (2 + half * sizeN n) (sizeN n) := fun s' e => by unfold halfB; rw [e]
  refine ⟨h, h.hf, by omega, ?_, ?_, fun st' hl' ok' hn => ?_, hsq⟩
  · rw [hss, show 64 * f / 64 = f by omega]
    unfold nch
    omega
  · rw [hsd, allR_append, ← List.append_assoc]
    congr 1
    have : (halfB st half).take (64 * f) = (allR l).take (64 * f) := by
      rw [← hby, List.take_take, Nat.min_eq_left (by omega)]
    rw [this, List.take_append_drop]
  · rw [← hu]
    have hsame := secsB_same (st := st) (st' := st') h.calm.ok ok' (by rw [hl', h.calm.len]) (2 + half * sizeN n) u (sizeN n) (by rw [h.calm.len]; exact hroom) (fun i hi => by
      rcases hn (2 + half * sizeN n + i) (by omega) with e | ⟨k, hk, e, hc⟩
      · rw [e]
      · rw [show 64 * f / 64 = f by omega] at e
        have hi2 : i = f + k := by omega
        rw [hc, hsd]
        by_cases hk0 : k = 0
        · subst hk0
          have hi3 : i = f := by omega
          subst hi3
          rw [sec_take st (2 + half * sizeN n) (sizeN n) i u h.calm.ok (by rw [h.calm.len]; exact hroom) hi (by omega) (by omega), ← hhb st h.calm.len, hby]
          rw [chunk_take _ 0 _ (by omega) (by rw [List.length_append, hdl]; omega), Nat.mul_zero, List.drop_zero, List.take_append_of_le_length (by rw [hdl]; omega), List.take_of_length_le (by rw [hdl]; omega)]
        · rw [show u - 64 * i = 0 by omega, List.take_zero, List.take_zero])
    rw [hhb st' hl', hsame, ← hhb st h.calm.len, hby]
theorem append_safe (h : OnDisk st n seq half l) (L : List ByteArray) (hL : (allR L).length ≤ 65536) (hsq : seq < 9223372036854775807) :
    (sizeN n * 64 < (allR l).length + (allR L).length ∧ appendD st (jOf seq half l) L = (10, st) ∧ appendJ st (jOf seq half l) L = jOf seq half l) ∨
      (L = [] ∧ appendD st (jOf seq half l) L = (0, st) ∧ appendJ st (jOf seq half l) L = jOf seq half l) ∨
      ((allR l).length + (allR L).length ≤ sizeN n * 64 ∧ L ≠ [] ∧ CallRes st n seq half half l (l ++ L) (appendD st (jOf seq half l) L) (appendJ st (jOf seq half l) L)) := by
  have hfit := h.fit
  have hla := jOf_laid seq half l L (roomR st.S.length (jOf seq half l)) hL (by omega)
  have hro : roomR st.S.length (jOf seq half l) = (sizeN n : Int) * 64 - ((allR l).length : Int) := by unfold roomR; rw [h.calm.len]; rfl
  unfold appendD appendJ
  by_cases hbig : sizeN n * 64 < (allR l).length + (allR L).length
  · rw [if_pos (by rw [hro]; omega)] at hla
    rw [hla, if_pos (.inl (by simp)), if_pos (.inl (by simp))]
    exact .inl ⟨hbig, rfl, rfl⟩
  · rw [if_neg (by rw [hro]; omega)] at hla
    rw [hla]
    by_cases h0 : (allR L).length = 0
    · rw [if_pos (.inr (by show (txt _).size = 0; rw [txt_size, h0])), if_pos (.inr (by show (txt _).size = 0; rw [txt_size, h0]))]
      exact .inr (.inl ⟨allR_nil L h0, rfl, rfl⟩)
    · have hc : ¬ (((txt (allR L), (0 : Int)) : ByteArray × Int).2 ≠ 0 ∨ ((txt (allR L), (0 : Int)) : ByteArray × Int).1.size = 0) := by
        rintro (e | e)
        · exact e rfl
        · have e : (txt (allR L)).size = 0 := e
          rw [txt_size] at e
          exact h0 e
      rw [if_neg hc, if_neg hc]
      refine .inr (.inr ⟨by omega, fun e => h0 (by rw [e]; rfl), ?_⟩)
      have hp := append_plan h L (by omega) hsq
      have hts : (jOf seq half l).tail.size = (allR l).length % 64 := by
        show (txt _).size = _
        rw [txt_size, List.length_drop]
        omega
      have hfr : (jOf seq half l).used - (jOf seq half l).tail.size = (allR l).length - (allR l).length % 64 := by rw [hts]; rfl
      rw [hfr]
      have hdl : ((allR l).drop ((allR l).length - (allR l).length % 64)).length = (allR l).length % 64 := by rw [List.length_drop]; omega
      have hss : (txt ((allR l).drop ((allR l).length - (allR l).length % 64)) ++ txt (allR L)).size = (allR l).length % 64 + (allR L).length := by rw [txt_append, txt_size, List.length_append, hdl]
      refine set_res hp (by rw [hss]; omega) (by rw [hss, allR_append, List.length_append]; omega) ?_ _ rfl rfl (fun _ => ⟨(jOf_ok h).half, (jOf_ok h).used, (jOf_ok h).tail, (jOf_ok h).seq⟩)
      rw [allR_append, List.drop_append_of_le_length (by omega), txt_append]
      exact (bytes_of _).symm
theorem rewrite_plan (h : OnDisk st n seq half l) (L : List ByteArray) (hfit : (allR L).length ≤ sizeN n * 64) (hsq : seq < 9223372036854775807) :
    SetPlan st n seq half l (1 - half) 0 (txt (allR L)) L := by
  have hsz : (txt (allR L)).size = (allR L).length := txt_size _
  have hsd : (txt (allR L)).data.toList = allR L := bytes_of _
  have hh := h.hf
  refine ⟨h, by omega, rfl, ?_, by rw [List.take_zero, hsd]; rfl, fun st' hl' ok' hn => ?_, hsq⟩
  · rw [hsz]; unfold nch; omega
  · have hhb : ∀ s' : Dk, s'.S.length = n → halfB s' half = secsB s' (2 + half * sizeN n) (sizeN n) := fun s' e => by unfold halfB; rw [e]
    have hin := half_in n half (sizeN n) h.four h.hf (Nat.le_refl _)
    have hsame : secsB st' (2 + half * sizeN n) (sizeN n) = secsB st (2 + half * sizeN n) (sizeN n) := secsB_congr _ _ (fun i hi => by
      rcases hn (2 + half * sizeN n + i) (by omega) with e | ⟨k, hk, e, _⟩
      · exact e
      · rw [hsz] at hk
        have hk2 : k < sizeN n := by unfold nch at hk; omega
        have hc : half = 0 ∨ half = 1 := by omega
        exfalso
        rcases hc with rfl | rfl
        · simp only [Nat.zero_mul, Nat.sub_zero, Nat.one_mul] at e; omega
        · simp only [Nat.sub_self, Nat.zero_mul, Nat.one_mul] at e; omega)
    rw [hhb st' hl', hsame, ← hhb st h.calm.len, h.bytes]
theorem rewrite_safe (h : OnDisk st n seq half l) (L : List ByteArray) (hL : (allR L).length ≤ 65536) (hsq : seq < 9223372036854775807) :
    (sizeN n * 64 < (allR L).length ∧ rewriteD st (jOf seq half l) L = (10, st) ∧ rewriteJ st (jOf seq half l) L = jOf seq half l) ∨
      ((allR L).length ≤ sizeN n * 64 ∧ CallRes st n seq half (1 - half) l L (rewriteD st (jOf seq half l) L) (rewriteJ st (jOf seq half l) L)) := by
  have hla := jOf_laid seq half l L (roomR st.S.length (jOf seq half l) + ((jOf seq half l).used : Int)) hL (by omega)
  have hro : roomR st.S.length (jOf seq half l) + ((jOf seq half l).used : Int) = (sizeN n : Int) * 64 := by
    unfold roomR; rw [h.calm.len]; omega
  unfold rewriteD rewriteJ
  by_cases hbig : sizeN n * 64 < (allR L).length
  · rw [if_pos (by rw [hro]; omega)] at hla
    rw [hla, if_pos (by simp), if_pos (by simp)]
    exact .inl ⟨hbig, rfl, rfl⟩
  · rw [if_neg (by rw [hro]; omega)] at hla
    rw [hla, if_neg (by simp), if_neg (by simp)]
    have hp := rewrite_plan h L (by omega) hsq
    refine .inr ⟨by omega, set_res hp (by omega) (by rw [txt_size, Nat.zero_add]) (by rw [List.drop_zero]; exact (bytes_of _).symm) _ rfl rfl (fun _ => ⟨(jOf_ok h).half, (jOf_ok h).used, (jOf_ok h).tail, (jOf_ok h).seq⟩)⟩
end
/-- a fresh disk -/
def freshD (n : Nat) : Dk := ⟨List.replicate n [z64], 0, 0, false⟩
theorem fresh_calm (n : Nat) (h1 : 1 ≤ n) (h2 : n ≤ 4096) : Calm (freshD n) n := by
  refine ⟨List.length_replicate, secOk_new n h1 h2, rfl, fun i hi => ?_⟩
  have : (freshD n).S.getD i [] = [z64] := by
    unfold freshD
    rw [List.getD_eq_getElem?_getD, List.getElem?_replicate, if_pos hi]
    rfl
  rw [this, lastS_one this]
theorem fresh_last (n i : Nat) (h : i < n) : lastS (freshD n).S i = z64 := by
  refine lastS_one ?_
  unfold freshD
  rw [List.getD_eq_getElem?_getD, List.getElem?_replicate, if_pos h]
  rfl
theorem headOf_zero (z : Nat) : headOf z64 z = ((0, 0, 0), false, 0) := by
  unfold headOf
  rw [if_pos (by kernel_rfl)]
theorem format_fresh (n : Nat) (h4 : 4 ≤ n) (h2 : n ≤ 4096) : (writeD (freshD n) 0 ⟨#[]⟩).1 = 0 ∧ (formatD (freshD n)).1 = 0 ∧ OnDisk (formatD (freshD n)).2 n 1 0 [] ∧ (formatD (freshD n)).2.armed = 0 := by
  have hc := fresh_calm n (by omega) h2
  have h0 : (0 : Int) = ((0 : Nat) : Int) := rfl
  have h1 : (1 : Int) = ((1 : Nat) : Int) := rfl
  rcases write_cases (freshD n) 0 ⟨#[]⟩ hc.up (by rw [hc.len]; omega) (by show 0 ≤ 64; omega) with ⟨_, _, ha⟩ | ⟨hw, hd, ha⟩
  · exact absurd rfl ha
  replace ha := ha rfl
  obtain ⟨st1, hst1⟩ : ∃ st1, st1 = (⟨pushS (freshD n).S 0 (fill ⟨#[]⟩), (callD (freshD n)).calls, (callD (freshD n)).armed, (callD (freshD n)).down⟩ : Dk) := ⟨_, rfl⟩
  rw [← hst1] at hw
  have hS1 : st1.S = pushS (freshD n).S 0 (fill ⟨#[]⟩) := by rw [hst1]
  have hd1 : st1.down = false := by rw [hst1]; exact hd
  have ha1 : st1.armed = 0 := by rw [hst1]; exact ha
  have hlt0 : 0 < (freshD n).S.length := by rw [hc.len]; omega
  have hl1 : st1.S.length = n := by rw [hS1, show (pushS (freshD n).S 0 (fill ⟨#[]⟩)).length = (freshD n).S.length from putS_length _ _ _, hc.len]
  have ok1 : secOk st1.S := by rw [hS1]; exact secOk_push hc.ok hlt0 (fill_length _ (by show 0 ≤ 64; omega))
  obtain ⟨t, ht⟩ : ∃ t : ByteArray, t = ⟨(headB 1 0 0).toArray⟩ := ⟨_, rfl⟩
  have ht64 : t.size ≤ 64 := by
    have := headB_length 1 0 0 (by omega) (by omega) (by omega)
    rw [ht, bytes_len]
    omega
  have hfd : formatD (freshD n) = flushJ (writeD st1 1 t) := by
    unfold formatD
    have hw' : writeD (freshD n) 0 ⟨#[]⟩ = (0, st1) := hw
    rw [hc.len, if_neg (by unfold mayE; rw [if_neg (by omega)]; simp), hw', if_neg (by simp), ht]
  rcases write_cases st1 1 t hd1 (by rw [hl1]; omega) ht64 with ⟨_, _, ha2⟩ | ⟨hw2, hd2, ha2⟩
  · exact absurd ha1 ha2
  replace ha2 := ha2 ha1
  obtain ⟨st2, hst2⟩ : ∃ st2, st2 = (⟨pushS st1.S 1 (fill t), (callD st1).calls, (callD st1).armed, (callD st1).down⟩ : Dk) := ⟨_, rfl⟩
  rw [← hst2] at hw2
  have hw2' : writeD st1 1 t = (0, st2) := hw2
  have hS2 : st2.S = pushS st1.S 1 (fill t) := by rw [hst2]
  have hdn2 : st2.down = false := by rw [hst2]; exact hd2
  have har2 : st2.armed = 0 := by rw [hst2]; exact ha2
  have hl2 : st2.S.length = n := by rw [hS2, show (pushS st1.S 1 (fill t)).length = st1.S.length from putS_length _ _ _, hl1]
  have ok2 : secOk st2.S := by rw [hS2]; exact secOk_push ok1 (by rw [hl1]; omega) (fill_length t ht64)
  have hfj : flushJ (0, st2) = flushD st2 := by unfold flushJ; rw [if_neg (by simp)]
  rw [hw2', hfj] at hfd
  rcases flush_cases st2 hdn2 (by rw [hl2]; omega) ok2 with ⟨_, _, ha3⟩ | ⟨g1, g2, g3, g4, g5⟩
  · exact absurd har2 ha3
  obtain ⟨c3, hl3⟩ := calm_flush st2 n hl2 g3 g2 ok2 g4
  rw [hfd]
  refine ⟨by rw [show writeD (freshD n) 0 ⟨#[]⟩ = (0, st1) from hw], g1, ?_, g5 har2⟩
  refine ⟨c3, h4, by omega, by show 0 ≤ _; omega, by omega, ?_, ?_, by rw [show (allR []).length = 0 from rfl, List.take_zero]; rfl⟩
  · rw [show 1 % 2 = 1 from rfl, hl3 1 (by omega)]
    have : st2.S.getD 1 [] = st1.S.getD 1 [] ++ [fill t] := by rw [hS2, getD_push (by rw [hl1]; omega), if_pos rfl]
    unfold lastS
    rw [this, List.getLastD_concat, ht]
    rfl
  · have e : lastS (flushD st2).2.S ((1 + 1) % 2) = z64 := by
      rw [show (1 + 1) % 2 = 0 from rfl, hl3 0 (by omega)]
      have e2 : st2.S.getD 0 [] = st1.S.getD 0 [] := by rw [hS2, getD_push (by rw [hl1]; omega), if_neg (by omega)]
      have e1 : st1.S.getD 0 [] = (freshD n).S.getD 0 [] ++ [fill ⟨#[]⟩] := by rw [hS1, getD_push hlt0, if_pos rfl]
      unfold lastS
      rw [e2, e1, List.getLastD_concat]
      rfl
    rw [e, headOf_zero]
    intro h
    cases h
end Go.Proofs.YtjjejkhekmpgcaaGreat

namespace Go.Proofs.YtjjejkhekmpgcaaGreat
set_option maxRecDepth 4000
open Go.RowKit

/-- a journal of our own on a disk of our own -/
structure JLaw (w wr : World) (p : Nat) (F : Nat → Prop) (q : Nat) (st : Dk) (j : Jn) : Prop where
  low : Below w.heap.size w wr
  disk : Disk wr p F st
  hF : ∀ k, F k → w.heap.size ≤ k
  jn : JnAt wr q p j
  nq : ¬ F q
  hq : w.heap.size ≤ q
section
variable {w wr : World} {p q : Nat} {F : Nat → Prop} {st : Dk} {j : Jn}
theorem JLaw.below {w' : World} (h : JLaw w wr p F q st j) (hb : Below wr.heap.size wr w') : JLaw w w' p F q st j :=
  ⟨h.low.trans (hb.mono h.low.size), h.disk.below hb, h.hF, h.jn.below hb, h.nq, h.hq⟩
theorem JLaw.post {r : Int × Dk} {j' : Jn} {e : Ending} {w' : World} (h : JLaw w wr p F q st j) (hp : SetPost wr q p F r j' e w') : ∃ F', JLaw w w' p F' q r.2 j' := by
  obtain ⟨_, F', h1, h2, h3, h4⟩ := hp
  obtain ⟨h5, h6⟩ := h4.below h.low h.low.size (fun k hk => hk.elim (h.hF k) (fun e => by rw [e]; exact h.hq))
  exact ⟨F', h5, h1, fun k hk => h6 k (.inl hk), h2, h3, h.hq⟩
theorem JLaw.disk' {v : Value} {st' : Dk} {e : Ending} {w' : World} (h : JLaw w wr p F q st j) (hp : DiskPost p F wr v st' e w') : ∃ F', JLaw w w' p F' q st' j := by
  obtain ⟨_, F', h1, h4⟩ := hp
  obtain ⟨h5, h6⟩ := h4.below h.low h.low.size h.hF
  exact ⟨F', h5, h1, h6, h.jn.touch h4.touch h.nq, fun hf => (h4.new q hf).elim h.nq (fun hk => by have := lt_of_block h.jn; omega), h.hq⟩
/-- another journal is opened -/
theorem JLaw.open {w' : World} {q' : Nat} {j' : Jn} (h : JLaw w wr p F q st j) (hb : Below wr.heap.size wr w') (hq : wr.heap.size ≤ q') (hj : JnAt w' q' p j') : JLaw w w' p F q' st j' :=
  ⟨h.low.trans (hb.mono h.low.size), h.disk.below hb, h.hF, hj, fun hf => by have := h.disk.lt q' hf; omega, Nat.le_trans h.low.size hq⟩
end

theorem ab5_size : (allR [⟨#[97]⟩, ⟨#[98]⟩]).length = 12 := by
  have h1 := oneR_length ⟨#[97]⟩
  have h2 := oneR_length ⟨#[98]⟩
  rw [show (⟨#[97]⟩ : ByteArray).size = 1 from rfl, lebN_small (by omega)] at h1
  rw [show (⟨#[98]⟩ : ByteArray).size = 1 from rfl, lebN_small (by omega)] at h2
  rw [allR_cons, allR_cons, List.length_append, List.length_append, h1, h2]
  rfl
theorem ab5_at (w : World) (t : TypeId) : strsAt (w.alloc (.cells #[.string ⟨#[97]⟩, .string ⟨#[98]⟩] t)) (some ⟨w.heap.size, 0, none⟩) [⟨#[97]⟩, ⟨#[98]⟩] := by
  refine .inr ⟨w.heap.size, 0, rfl, by simp, fun i hi => ?_⟩
  rw [cell_of_row _ w.heap.size (0 + i) _ _ _ (heap_alloc_top w _)]
  match i, hi with
  | 0, _ => rfl
  | 1, _ => rfl
  | i + 2, hi => exact absurd hi (by simp)
theorem DiskPost.low {w wr : World} {p : Nat} {F : Nat → Prop} {v : Value} {st' : Dk} {e : Ending} {w' : World} (hb : Below w.heap.size w wr) (hF : ∀ k, F k → w.heap.size ≤ k) (hp : DiskPost p F wr v st' e w') :
    ∃ F', Below w.heap.size w w' ∧ Disk w' p F' st' ∧ ∀ k, F' k → w.heap.size ≤ k := by
  obtain ⟨_, F', h1, h4⟩ := hp
  obtain ⟨h5, h6⟩ := h4.below hb hb.size hF
  exact ⟨F', h5, h1, h6⟩
end Go.Proofs.YtjjejkhekmpgcaaGreat
