/-
  Layer 5: acts; what is kept (plain).
  Layer 5: Open, where the records that are told are new ones.
  Layer 5: all of a call, or none: the walk.
-/
import Derived.Test.YtagdaeapjofajaaMgN
import Derived.Test.YtagdaeapjofajaaMgE
import Derived.Test.YtagdaeapjofajaaMgH
import Derived.Test.YtagdaeapjofajaaMgJ
namespace Go.Proofs.Ytagdaeapjofajaa
set_option maxRecDepth 4000
open Go.RowKit

structure JAct where
  rw : Bool
  again : Bool
  lad : Option Addr
  lcap : Nat
  l : List ByteArray
  arm : Int
  kad : Option Addr
  kcap : Nat
  keep : List Int
def jactv (a : JAct) : List Value := [.bool a.rw, .bool a.again, .slice a.lad a.l.length a.lcap, .int .i64 a.arm, .slice a.kad a.keep.length a.kcap]
def jactsAt (w : World) (ad : Option Addr) (l : List JAct) : Prop :=
  l = [] ∨ ∃ b off, ad = some ⟨b, off, none⟩ ∧ b < w.heap.size ∧ ∀ i (h : i < l.length), ∀ (j : Nat) (u : Value), (jactv l[i])[j]? = some u → w.cell? ⟨b, off + i * 5 + j, none⟩ = some u
def wide5 (x : Int) : Prop := -9223372036854775808 ≤ x ∧ x ≤ 9223372036854775807
def jactOk (w : World) (a : JAct) : Prop := strsAt w a.lad a.l ∧ a.l.length ≤ 9223372036854775807 ∧ wide5 a.arm ∧ intsAt w a.kad a.keep ∧ a.keep.length ≤ 9223372036854775807 ∧ ∀ x ∈ a.keep, wide5 x
/-- an act of our own -/
def ActAt (w : World) (ab : Nat) (a : JAct) (F : Nat → Prop) (q : Nat) : Prop := w.heap[ab]? = some (.cells (jactv a).toArray 51 (0, 0)) ∧ ¬ F ab ∧ ab ≠ q
/-- texts that lie neither on the disk nor in the journal -/
def IsAt (w : World) (ad : Option Addr) (l : List ByteArray) (F : Nat → Prop) (q : Nat) : Prop :=
  l = [] ∨ ∃ b off, ad = some ⟨b, off, none⟩ ∧ b < w.heap.size ∧ ¬ F b ∧ b ≠ q ∧ ∀ i (h : i < l.length), w.cell? ⟨b, off + i, none⟩ = some (.string l[i])
theorem IsAt.strs {w : World} {ad : Option Addr} {l : List ByteArray} {F : Nat → Prop} {q : Nat} (h : IsAt w ad l F q) : strsAt w ad l := by
  rcases h with h | ⟨b, off, h1, h2, _, _, h3⟩
  · exact .inl h
  · exact .inr ⟨b, off, h1, h2, h3⟩
theorem IsAt.step {w w' : World} {ad : Option Addr} {l : List ByteArray} {F F' : Nat → Prop} {q : Nat} (h : IsAt w ad l F q) (hs : Stp (fun k => F k ∨ k = q) w (fun k => F' k ∨ k = q) w') : IsAt w' ad l F' q := by
  rcases h with h | ⟨b, off, h1, h2, h3, h4, h5⟩
  · exact .inl h
  · refine .inr ⟨b, off, h1, Nat.lt_of_lt_of_le h2 hs.touch.size, fun hf => ?_, h4, fun i hi => ?_⟩
    · rcases hs.new b (.inl hf) with h | h
      · exact h.elim h3 h4
      · omega
    · rw [hs.touch.cellOf (a := ⟨b, off + i, none⟩) h2 (fun h => h.elim h3 h4)]
      exact h5 i hi
theorem IsAt.newq {w : World} {ad : Option Addr} {l : List ByteArray} {F : Nat → Prop} {q q' : Nat} (h : IsAt w ad l F q) (hq : w.heap.size ≤ q') : IsAt w ad l F q' := by
  rcases h with h | ⟨b, off, h1, h2, h3, h4, h5⟩
  · exact .inl h
  · exact .inr ⟨b, off, h1, h2, h3, by omega, h5⟩
theorem ActAt.step {w w' : World} {ab : Nat} {a : JAct} {F F' : Nat → Prop} {q : Nat} (h : ActAt w ab a F q) (hs : Stp (fun k => F k ∨ k = q) w (fun k => F' k ∨ k = q) w') : ActAt w' ab a F' q := by
  obtain ⟨h1, h2, h3⟩ := h
  have hl := lt_of_block h1
  refine ⟨(hs.touch.block ab hl (fun h => h.elim h2 h3)).trans h1, fun hf => ?_, h3⟩
  rcases hs.new ab (.inl hf) with h | h
  · exact h.elim h2 h3
  · omega
theorem isAt_old {w wr : World} {ad : Option Addr} {l : List ByteArray} {p q : Nat} {F : Nat → Prop} {st : Dk} {j : Jn} (h : strsAt w ad l) (hj : JLaw w wr p F q st j) : IsAt wr ad l F q := by
  rcases h with h | ⟨b, off, h1, h2, h3⟩
  · exact .inl h
  · refine .inr ⟨b, off, h1, Nat.lt_of_lt_of_le h2 hj.low.size, fun hf => by have := hj.hF b hf; omega, fun e => by have := hj.hq; omega, fun i hi => ?_⟩
    rw [hj.low.cell (p := ⟨b, off + i, none⟩) (by simpa using h2)]
    exact h3 i hi

theorem OnDisk.congr {st st' : Dk} {n seq half : Nat} {l : List ByteArray} (h : OnDisk st n seq half l) (hS : st'.S = st.S) (hd : st'.down = st.down) : OnDisk st' n seq half l := by
  obtain ⟨S, c, ar, d⟩ := st
  obtain ⟨S', c', ar', d'⟩ := st'
  have hS : S' = S := hS
  have hd : d' = d := hd
  subst hS; subst hd
  exact ⟨⟨h.calm.len, h.calm.ok, h.calm.up, h.calm.one⟩, h.four, h.hf, h.fit, h.sq, h.head, h.other, h.bytes⟩
theorem allR_ge : ∀ l : List ByteArray, l.length ≤ (allR l).length
  | [] => Nat.le_refl _
  | s :: l => by
    rw [allR_cons, List.length_append, oneR_length, List.length_cons]
    have := allR_ge l
    omega
/-- behind a crash of a calm disk all is as it was -/
theorem OnDisk.crash {st : Dk} {n seq half : Nat} {l : List ByteArray} (h : OnDisk st n seq half l) (sx : Dk) (keep : List Int) (hS : sx.S = st.S) : OnDisk (crashD sx keep) n seq half l := by
  have hlen : sx.S.length = n := by rw [hS]; exact h.calm.len
  have hok : secOk sx.S := by rw [hS]; exact h.calm.ok
  obtain ⟨hc, _, hm⟩ := calm_crash sx keep n hlen hok
  have hsame : ∀ i, i < n → lastS (crashD sx keep).S i = lastS st.S i := fun i hi => by
    have := hm i hi
    rw [hS, h.calm.one i hi] at this
    exact List.mem_singleton.1 this
  have hb : (halfB (crashD sx keep) half).take (allR l).length = allR l := by
    have h4 := half_in n half (sizeN n) h.four h.hf (Nat.le_refl _)
    have : halfB (crashD sx keep) half = halfB st half := by
      unfold halfB
      rw [hc.len, h.calm.len]
      exact secsB_congr _ _ (fun i hi => hsame _ (by omega))
    rw [this, h.bytes]
  exact h.keep hc 2 0 [] (Nat.le_refl _) (fun i hi => .inl (hsame i hi)) hb

/-- what a call leaves: all, nothing, or a disk that went down -/
def Kind (n sq half : Nat) (rs next : List ByteArray) (g : Int) (st : Dk) (j : Jn) : Prop :=
  (g = 0 ∧ ∃ sq' half', OnDisk st n sq' half' next ∧ j = jOf sq' half' next ∧ sq' ≤ sq + 1) ∨ (g = 10 ∧ OnDisk st n sq half rs ∧ j = jOf sq half rs) ∨
    (g = 12 ∧ j.broken = true ∧ (∀ sx, JnOk sx j) ∧ st.S.length = n ∧ secOk st.S ∧ ∀ (sx : Dk) (keep : List Int), sx.S = st.S → ∃ sq2 half2 got, OnDisk (crashD sx keep) n sq2 half2 got ∧ (got = rs ∨ got = next) ∧ sq2 ≤ sq + 1)
theorem kind_of {st : Dk} {n seq half half' : Nat} {l l' : List ByteArray} {r : Int × Dk} {j' : Jn} (h : CallRes st n seq half half' l l' r j') : Kind n seq half l l' r.1 r.2 j' := by
  rcases h with ⟨h1, h2, h3, _⟩ | ⟨h1, _, h3, h4, h5, h6⟩
  · exact .inl ⟨h1, seq + 1, half', h2, h3, Nat.le_refl _⟩
  · refine .inr (.inr ⟨h1, h5.1, h5.2, h3, h4, fun sx keep e => ?_⟩)
    rcases h6 sx keep e with h | h
    · exact ⟨seq, half, l, h, .inl rfl, by omega⟩
    · exact ⟨seq + 1, half', l', h, .inr rfl, Nat.le_refl _⟩
theorem rewrite_kind {st : Dk} {n seq half : Nat} {l : List ByteArray} (h : OnDisk st n seq half l) (L : List ByteArray) (hL : (allR L).length ≤ 65536) (hsq : seq < 9223372036854775807) :
    Kind n seq half l L (rewriteD st (jOf seq half l) L).1 (rewriteD st (jOf seq half l) L).2 (rewriteJ st (jOf seq half l) L) := by
  rcases rewrite_safe h L hL hsq with ⟨_, h2, h3⟩ | ⟨_, h2⟩
  · rw [h2, h3]
    exact .inr (.inl ⟨rfl, h, rfl⟩)
  · exact kind_of h2
theorem append_kind {st : Dk} {n seq half : Nat} {l : List ByteArray} (h : OnDisk st n seq half l) (L : List ByteArray) (hL : (allR L).length ≤ 65536) (hsq : seq < 9223372036854775807) :
    Kind n seq half l (l ++ L) (appendD st (jOf seq half l) L).1 (appendD st (jOf seq half l) L).2 (appendJ st (jOf seq half l) L) := by
  rcases append_safe h L hL hsq with ⟨_, h2, h3⟩ | ⟨h1, h2, h3⟩ | ⟨_, _, h2⟩
  · rw [h2, h3]
    exact .inr (.inl ⟨rfl, h, rfl⟩)
  · rw [h2, h3, h1, List.append_nil]
    exact .inl ⟨rfl, seq, half, h, rfl, by omega⟩
  · exact kind_of h2
theorem flush_ok {st : Dk} (ok : secOk st.S) : secOk (flushD st).2.S := by
  unfold flushD
  split
  · exact ok
  · split
    · exact ok
    · exact settleN_ok (fun i L h h64 => last_len1 i L h h64) ok _ (dirt_lt _) _ (Nat.le_refl _)
theorem flushJ_ok {r : Int × Dk} (ok : secOk r.2.S) : secOk (flushJ r).2.S := by
  unfold flushJ
  split
  · exact ok
  · exact flush_ok ok
theorem setD_pend {st : Dk} {M : Nat} (hp : pendMax st.S M) (ok : secOk st.S) (j : Jn) (half from' : Nat) (s : ByteArray) : pendMax (setD st j half from' s).2.S (M + s.size + 1) := by
  obtain ⟨h1, h2⟩ := wrD_pend (s.size + 1) st (2 + half * sizeN st.S.length + from' / 64) s M hp ok (by omega)
  have h3 := flushJ_pend _ h1
  have h4 := flushJ_ok h2
  unfold setD
  split
  · exact pendMax_le h3 (by omega)
  · exact flushJ_pend _ (pendMax_write h3 h4 _ _)
theorem rewriteD_pend {st : Dk} {M : Nat} (hp : pendMax st.S M) (ok : secOk st.S) (j : Jn) (l : List ByteArray) : pendMax (rewriteD st j l).2.S (M + 65537) := by
  unfold rewriteD
  split
  · exact pendMax_le hp (by omega)
  · have := laidR_size j (roomR st.S.length j + (j.used : Int)) l
    exact pendMax_le (setD_pend hp ok _ _ _ _) (by omega)
theorem appendD_pend {st : Dk} {M : Nat} (hp : pendMax st.S M) (ok : secOk st.S) (j : Jn) (ht : j.tail.size ≤ 64) (l : List ByteArray) : pendMax (appendD st j l).2.S (M + 65700) := by
  unfold appendD
  split
  · exact pendMax_le hp (by omega)
  · have := laidR_size j (roomR st.S.length j) l
    exact pendMax_le (setD_pend hp ok _ _ _ _) (by rw [ByteArray.size_append]; omega)
theorem jOf_tail (seq half : Nat) (l : List ByteArray) : (jOf seq half l).tail.size ≤ 64 := by
  show (txt _).size ≤ 64
  rw [txt_size, List.length_drop]
  omega
/-- a journal that is broken -/
theorem append_broken (st : Dk) (j : Jn) (l : List ByteArray) (hb : j.broken = true) : appendD st j l = (16, st) ∧ appendJ st j l = j := by
  have hl : ∀ room, laidR j room l = (⟨#[]⟩, 16) := fun room => by unfold laidR; rw [if_pos hb]
  refine ⟨?_, ?_⟩
  · unfold appendD; rw [hl, if_pos (.inl (by simp))]
  · unfold appendJ; rw [hl, if_pos (.inl (by simp))]
theorem arm_wide (st : Dk) (n : Int) : (armD st n).S = st.S ∧ (armD st n).down = st.down := ⟨rfl, rfl⟩
theorem JLaw.arm {w wr : World} {p q : Nat} {F : Nat → Prop} {st st' : Dk} {j : Jn} {w' : World} (h : JLaw w wr p F q st j) (hd : Disk w' p F st') (ht : Touch (fun k => k = p) wr w') :
    JLaw w w' p F q st' j ∧ Stp (fun k => F k ∨ k = q) wr (fun k => F k ∨ k = q) w' := by
  have hs : Stp F wr F w' := touch_p h.disk hd ht
  obtain ⟨h5, h6⟩ := hs.below h.low h.low.size h.hF
  exact ⟨⟨h5, hd, h6, h.jn.touch hs.touch h.nq, h.nq, h.hq⟩, hs.more q⟩
theorem JLaw.post2 {w wr : World} {p q : Nat} {F : Nat → Prop} {st : Dk} {j : Jn} {r : Int × Dk} {j' : Jn} {e : Ending} {w' : World} (h : JLaw w wr p F q st j) (hp : SetPost wr q p F r j' e w') :
    ∃ F', JLaw w w' p F' q r.2 j' ∧ Stp (fun k => F k ∨ k = q) wr (fun k => F' k ∨ k = q) w' := by
  obtain ⟨_, F', h1, h2, h3, h4⟩ := hp
  obtain ⟨h5, h6⟩ := h4.below h.low h.low.size (fun k hk => hk.elim (h.hF k) (fun e => by rw [e]; exact h.hq))
  exact ⟨F', ⟨h5, h1, fun k hk => h6 k (.inl hk), h2, h3, h.hq⟩, h4⟩
theorem JLaw.disk2 {w wr : World} {p q : Nat} {F : Nat → Prop} {st : Dk} {j : Jn} {v : Value} {st' : Dk} {e : Ending} {w' : World} (h : JLaw w wr p F q st j) (hp : DiskPost p F wr v st' e w') :
    ∃ F', JLaw w w' p F' q st' j ∧ Stp (fun k => F k ∨ k = q) wr (fun k => F' k ∨ k = q) w' := by
  obtain ⟨_, F', h1, h4⟩ := hp
  obtain ⟨h5, h6⟩ := h4.below h.low h.low.size h.hF
  exact ⟨F', ⟨h5, h1, h6, h.jn.touch h4.touch h.nq, fun hf => (h4.new q hf).elim h.nq (fun hk => by have := lt_of_block h.jn; omega), h.hq⟩, h4.more q⟩
theorem src_texts {w : World} {ad : Option Addr} {l : List ByteArray} (h : strsAt w ad l) (cap : Nat) : Src Try.prog 1 30 (.slice ad l.length cap) l.length (l.map Value.string) w := by
  rcases h with rfl | ⟨b, off, rfl, h2, h3⟩
  · cases ad with
    | none => exact Src.ofNil w Try.underlying30 cap
    | some a => exact Src.ofSlice w Try.underlying30 a 0 cap [] rfl (fun j u hj => by simp at hj) (fun u hu => by cases hu)
  · refine Src.ofSlice w Try.underlying30 ⟨b, off, none⟩ l.length cap _ (by simp) (fun j u hj => ?_) (strs_one l)
    have e : (⟨b, off, none⟩ : Addr).add j = ⟨b, off + j, none⟩ := by unfold Addr.add; split <;> simp_all
    rw [e]
    rw [List.getElem?_map] at hj
    cases hl : l[j]? with
    | none => rw [hl] at hj; cases hj
    | some a =>
      rw [hl] at hj
      obtain ⟨hj2, rfl⟩ := List.getElem?_eq_some_iff.1 hl
      cases hj
      exact h3 j hj2
end Go.Proofs.Ytagdaeapjofajaa

namespace Go.Proofs.Ytagdaeapjofajaa
set_option maxRecDepth 4000
open Go.RowKit

def ReadPost2 (w : World) (R : List ByteArray × Int) (r : Ending) (w' : World) : Prop :=
  ∃ ad cap, r = .returned (.tuple #[.slice ad R.1.length cap, .int .i64 R.2]) ∧ strsAt w' ad R.1 ∧ R.1.length ≤ cap ∧ cap ≤ 9223372036854775807 ∧ Below w.heap.size w w' ∧ ∀ a, ad = some a → w.heap.size ≤ a.block ∧ a.block < w'.heap.size
theorem row_fresh {w : World} {base : Nat} {v : Value} {l : List ByteArray} (h : Row w base v l) : ∀ k, v.ownBlock = some k → base ≤ k ∧ k < w.heap.size := fun k e => World.ownsRow.lt h k e
set_option maxHeartbeats 2000000 in
theorem fread2_walk (s : ByteArray) (w : World) (hs : s.size ≤ 1000000) :
    Calls Try.prog 33 #[.string s] w fun r w' => ReadPost2 w (readR s) r w' := by
  obtain ⟨R, hR⟩ : ∃ R, R = readR s := ⟨_, rfl⟩
  rw [← hR]
  have HR := Lib.hid hR; have HS := Lib.hid hs
  clear hR hs
  go_enter Try.func33, Try.ntmps33
  go_wp2_with fail
  go_loopg [0, 4] s.size (fun gk vs vo wr => ∃ (s' : ByteArray) (acc : List ByteArray), vs = .string s' ∧ Row wr w.heap.size vo acc ∧ rdAll (gk + 1) s' acc = R ∧ s'.size ≤ gk ∧ acc.length + s'.size ≤ s.size ∧ Below w.heap.size w wr)
  case atStart => exact ⟨s, [], rfl, Row.nil _ _, by rw [HR.out]; rfl, Nat.le_refl _, by simp, Below.refl _ _⟩
  case round =>
    obtain ⟨s', acc, rfl, hrow, hrd, hgk, hac, hb⟩ := hrel
    have hs1 : s'.size ≤ 1000000 := by have := HS.out; omega
    have hac1 : acc.length ≤ 1000000 := by have := HS.out; omega
    unfold rdAll at hrd
    by_cases h0 : s'.size = 0
    · obtain rfl := empty_of s' h0
      rw [if_pos h0] at hrd
      have hfr := row_fresh hrow
      obtain ⟨ad, cap, rfl, hst, hc1, hc2⟩ := hrow.open
      have HRD := Lib.hid hrd; have HST := Lib.hid hst; have HB := Lib.hid hb; have HFR := Lib.hid (show ∀ a, ad = some a → w.heap.size ≤ a.block ∧ a.block < wr.heap.size from fun a e => hfr a.block (by rw [e]; rfl))
      clear hrd hst hb hrow h0 hs1 hfr
      go_wp2_with fail
      go_ret2
      rw [← HRD.out]
      exact ⟨ad, cap, rfl, HST.out, hc1, hc2, HB.out, HFR.out⟩
    · rw [if_neg h0] at hrd
      have hcw := ffirst_walk s' wr (by omega)
      have hfn := firstR_n s'
      obtain ⟨t, n, e, hf⟩ : ∃ t n e, firstR s' = (t, n, e) := ⟨_, _, _, rfl⟩
      rw [hf] at hrd hcw hfn
      have hrd : (if e ≠ 0 then ([], e) else rdAll gk (s'.extract n s'.size) (acc ++ [t])) = R := hrd
      have hfn : e = 0 → 4 ≤ n ∧ n ≤ s'.size ∧ t.size ≤ s'.size := hfn
      have h01 : (0 : Int) < (s'.size : Int) := by omega
      have h02 : s'.toList.isEmpty = false := by
        rw [ByteArray.toList_eq]
        cases hl : s'.data.toList with
        | nil => exact absurd (by rw [show s'.size = s'.data.toList.length by simp, hl]; rfl) h0
        | cons a r => rfl
      have HROW := Lib.hid hrow; have HRD := Lib.hid hrd; have HB := Lib.hid hb; have HCW := Lib.hid hcw; have HFN := Lib.hid hfn; have HS1 := Lib.hid hs1; have HAC := Lib.hid hac; have HAC1 := Lib.hid hac1
      clear hrow hrd hb hcw hfn hf h0 hs1 hac hac1
      go_wp2_with fail
      refine HCW.out.mono ?_
      rintro r w1 ⟨rfl, hb1⟩
      have HB1 := Lib.hid (HB.out.trans (hb1.mono HB.out.size))
      have HR1 := Lib.hid (HROW.out.keep hb1 (Nat.le_refl _))
      clear hb1 HB HROW HCW
      by_cases he : e = 0
      · obtain ⟨hn4, hns, _⟩ := HFN.out he
        subst he
        have hsz : (s'.extract n s'.size).size = s'.size - n := by rw [ByteArray.size_extract]; omega
        have hn4i : (4 : Int) ≤ (n : Int) := by omega
        have HSZ := Lib.hid hsz; have HN4 := Lib.hid hn4; have HNS := Lib.hid hns
        have HB2 := Lib.hid HB1.out.size
        clear hsz hn4 hn4i HFN
        go_wp2_with (at_builtin; refine wpList_append_row rfl _ _ rfl w.heap.size _ acc rfl (World.ownsRow.alloc HR1.out _) _ [t] rfl (src_new t _) ?_ ?_ ?_)
        · have := HAC1.out; simp; omega
        · have := HB2.out; simp; omega
        intro v3 w3 hr3 hg3 hp3
        have hrow1 : Row (w1.alloc (.cells #[.string t] 9)) w.heap.size u4 acc := World.ownsRow.alloc HR1.out _
        have hb3 := below_of_grown (HB1.out.alloc HB1.out.size (.cells #[.string t] 9)) hg3 (by have := HB2.out; simp; omega) (fun j hj => (hrow1.lt j hj).1)
        have M1 := Lib.hid hr3; have M2 := Lib.hid hb3
        clear hr3 hg3 hp3 hrow1 hb3
        go_wp2_with fail
        go_roundg (gk - 1)
        case measure => have h1 := HSZ.out; have h2 := HN4.out; have h3 := HNS.out; omega
        case rel =>
          have h1 := HSZ.out; have h2 := HN4.out; have h3 := HNS.out; have h4 := HAC.out
          refine ⟨s'.extract n s'.size, acc ++ [t], rfl, M1.out, ?_, by omega, by rw [List.length_append, h1, List.length_singleton]; omega, M2.out⟩
          rw [← HRD.out, if_neg (by simp), show gk - 1 + 1 = gk by omega]
      · have hR : R = ([], e) := by rw [← HRD.out, if_pos he]
        subst hR
        clear HRD
        go_wp2_with fail
        go_ret2
        exact ⟨none, 0, rfl, .inl rfl, Nat.le_refl _, by omega, HB1.out, fun a e => by cases e⟩
def OpenGood2 (p : Nat) (w : World) (j : Jn) (l : List ByteArray) (e : Ending) (w' : World) : Prop :=
  ∃ q ad cap, e = .returned (.tuple #[.pointer (some ⟨q, 0, none⟩), .slice ad l.length cap, .int .i64 0]) ∧ w.heap.size ≤ q ∧ JnAt w' q p j ∧ strsAt w' ad l ∧ l.length ≤ cap ∧ cap ≤ 9223372036854775807 ∧ Below w.heap.size w w' ∧ ∀ a, ad = some a → w.heap.size ≤ a.block ∧ a.block < q
set_option maxHeartbeats 4000000 in
theorem open2_good (p : Nat) (F : Nat → Prop) (st : Dk) (w : World) (h : Disk w p F st) (h4 : 4 ≤ st.S.length) (hz : (holdsR st).2 = 0) (hf : (readR (recB st)).2 = 0) :
    Calls Try.prog 10 #[.pointer (some ⟨p, 0, none⟩)] w fun e w' => OpenGood2 p w (openJ st) (readR (recB st)).1 e w' := by
  have KM := Lib.hid (may_walk p F st w h)
  rw [show mayE st.S.length = 0 by unfold mayE; rw [if_neg (by omega)]] at KM
  have KH := Lib.hid (holds_walk p F st w h (by omega))
  obtain ⟨hdn, h9, hh1, hu⟩ := holdsR_ok st hz
  obtain ⟨hsz, hu2⟩ := recB_size st h.ok h4 hz
  have KB := fun w' (hd : Disk w' p F st) => Lib.hid (bytes_walk p F st (holdsR st).1.2.1 (holdsR st).1.2.2 w' hd h4 hdn hh1 hu)
  have hrb : txt ((halfB st (holdsR st).1.2.1).take (holdsR st).1.2.2) = recB st := rfl
  simp only [hrb] at KB
  have KF := fun w' => Lib.hid (fread2_walk (recB st) w' (by rw [hsz]; omega))
  have hoj : openJ st = ⟨(holdsR st).1.1, (holdsR st).1.2.1, (holdsR st).1.2.2, (recB st).extract ((holdsR st).1.2.2 - (holdsR st).1.2.2 % 64) (recB st).size, false⟩ := rfl
  obtain ⟨j, hj⟩ : ∃ j, j = openJ st := ⟨_, rfl⟩
  rw [← hj] at hoj
  try rw [← hj]
  obtain ⟨s, hs⟩ : ∃ s, s = recB st := ⟨_, rfl⟩
  rw [← hs] at hsz KF hf hoj
  simp only [← hs] at KB
  try rw [← hs]
  obtain ⟨⟨l, e⟩, hle⟩ : ∃ r, r = readR s := ⟨_, rfl⟩
  rw [← hle] at KF hf
  try rw [← hle]
  replace hf : e = 0 := hf
  obtain ⟨⟨⟨a, b, c⟩, e0⟩, hr⟩ : ∃ r, r = holdsR st := ⟨_, rfl⟩
  rw [← hr] at KH hz KB hsz hu2 hoj
  obtain rfl : e0 = 0 := hz
  replace hsz : s.size = c := hsz
  replace hu2 : c ≤ 262144 := hu2
  have HJ := Lib.hid (show j = ⟨a, b, c, s.extract (c - c % 64) s.size, false⟩ from hoj)
  have HH := Lib.hid h; have HS := Lib.hid hsz; have HU := Lib.hid hu2
  clear h h4 hdn h9 hh1 hu hsz hu2 hrb hoj hj hs hle hr
  go_enter Try.func10, Try.ntmps10
  go_wp2_with fail
  refine KM.out.mono ?_
  rintro r w1 ⟨rfl, rfl⟩
  go_wp2_with fail
  refine KH.out.mono ?_
  rintro r w2 ⟨rfl, hb2⟩
  unfold hdv
  have hb3 := hb2.alloc hb2.size (.cells #[.int .i64 a, .int .i64 b, .int .i64 c] 62)
  have gv := heap_alloc_top w2 (.cells #[.int .i64 a, .int .i64 b, .int .i64 c] 62)
  go_upto_region 7 with fail
  obtain ⟨v, hv⟩ : ∃ v, v = w2.heap.size := ⟨_, rfl⟩
  rw [← hv] at gv ⊢
  generalize w2.alloc (.cells #[.int .i64 a, .int .i64 b, .int .i64 c] 62) = w3 at hb3 gv ⊢
  have c1 := cell_at (j := 1) (v := .int .i64 b) gv rfl
  have c2 := cell_at (j := 2) (v := .int .i64 c) gv rfl
  have HB3 := Lib.hid hb3; have GV := Lib.hid gv; have HD3 := Lib.hid (HH.out.below hb3)
  clear hb2 hb3 gv hv KM KH
  go_wp2_with fail
  refine (KB w3 HD3.out).out.mono ?_
  rintro r w4 ⟨rfl, hb4⟩
  have HB4 := Lib.hid (HB3.out.trans (hb4.mono HB3.out.size))
  have GV4 := Lib.hid ((hb4.block v (lt_of_block GV.out)).trans GV.out)
  clear hb4 c1 c2 KB GV HB3 HD3
  go_wp2_with fail
  refine (KF w4).out.mono ?_
  rintro r w5 ⟨ad, cap, rfl, hst, hlc, hcm, hb5, hfr⟩
  have HFR := Lib.hid (show ∀ a, ad = some a → w1.heap.size ≤ a.block ∧ a.block < w5.heap.size from fun a e => ⟨Nat.le_trans HB4.out.size (hfr a e).1, (hfr a e).2⟩)
  clear hfr
  have HB5 := Lib.hid (HB4.out.trans (hb5.mono HB4.out.size))
  have GV5 := Lib.hid ((hb5.block v (lt_of_block GV4.out)).trans GV4.out)
  have HST := Lib.hid hst; have HLC := Lib.hid (And.intro hlc hcm)
  clear hb5 HB4 GV4 KF hst hlc hcm
  subst hf
  try simp only []
  obtain ⟨C, hC⟩ : ∃ C : World → Prop, C = fun w9 => w9.heap[v]? = some (.cells #[.int .i64 a, .int .i64 b, .int .i64 c] 62 (0, 0)) := ⟨_, rfl⟩
  have HCI := Lib.hid (show ∀ w9, C w9 → w9.heap[v]? = some (.cells #[.int .i64 a, .int .i64 b, .int .i64 c] 62 (0, 0)) from fun w9 h => by rw [hC] at h; exact h)
  have HC2 := Lib.hid (show ∀ w9, C w9 → w9.cell? ⟨v, 2, none⟩ = some (.int .i64 c) from fun w9 h => cell_at (HCI.out w9 h) rfl)
  have HCO := Lib.hid (show ∀ w9, w9.heap[v]? = some (.cells #[.int .i64 a, .int .i64 b, .int .i64 c] 62 (0, 0)) → C w9 from fun w9 h => by rw [hC]; exact h)
  clear hC
  have hsc : s.size = c := HS.out
  have hB0 : Below w5.heap.size w5 w5.drew := (Below.refl _ _).drew
  have hS0 : C w5.drew := HCO.out _ GV5.out
  go_upto_region 13 with fail
  refine wp_region_mix C [(0,true),(1,true),(2,true),(3,true),(4,true),(5,true),(6,true),(7,true),(8,true),(9,true),(10,true),(12,true),(11,false),(13,true),(14,true),(15,true)] (by kernel_rfl) (by kernel_rfl) hS0 ?_
  generalize w5.drew = w6 at hB0 ⊢
  clear hS0
  simp only [List.filterMap_cons, List.filterMap_nil, List.getElem?_cons_zero, List.getElem?_cons_succ, Option.map_some]
  have hc9 : (c : Int) ≤ 262144 := by have := HU.out; omega
  refine mix_read (by rfl) ?_; apply Exists.intro; refine ⟨fun w9 hw9 => ?_, ?_⟩; (· go_simp; rfl); simp only [Act.put, List.setIfInBounds_toArray, List.set_cons_succ, List.set_cons_zero]
  refine mix_load_row 62 _ rfl (by rfl) v (by rfl) 62 #[.int .i64 a, .int .i64 b, .int .i64 c] (0, 0) _ (fun w9 h9 => HCI.out w9 h9) Try.underlying62 rfl info_head ?_
  try simp only [Act.put, List.setIfInBounds_toArray, List.set_cons_succ, List.set_cons_zero]
  repeat (refine mix_read (by rfl) ?_; apply Exists.intro; refine ⟨fun w9 hw9 => ?_, ?_⟩; (· have d2 := HC2.out w9 hw9; go_simp; rfl); simp only [Act.put, List.setIfInBounds_toArray, List.set_cons_succ, List.set_cons_zero])
  obtain ⟨m, hm⟩ : ∃ m, m = c - c % 64 := ⟨_, rfl⟩
  have hrem : IntKind.i64.wrap ((c : Int) - (c : Int).tmod 64) = (m : Int) := by
    have e : (c : Int) - (c : Int).tmod 64 = (m : Int) := by rw [Int.tmod_eq_emod_of_nonneg (by omega)]; omega
    rw [e]
    exact IntWalk.i64_in _ (by omega)
  have hhi : (m : Int) ≤ (s.size : Int) := by omega
  have hmc : m ≤ c := by omega
  have HM := Lib.hid hm
  rw [hrem]
  clear hm hrem
  repeat (refine mix_read (by rfl) ?_; apply Exists.intro; refine ⟨fun w9 hw9 => ?_, ?_⟩; (· have d2 := HC2.out w9 hw9; go_simp; rfl); simp only [Act.put, List.setIfInBounds_toArray, List.set_cons_succ, List.set_cons_zero])
  refine mix_step (by rfl) (fun K' hK => ?_)
  go_simp
  have gq := heap_alloc_top w6 (.cells #[.pointer (some ⟨p, 0, none⟩), .int .i64 a, .int .i64 b, .int .i64 c, .string (s.extract m c), .bool false] 70)
  have hb7 : Below w5.heap.size w5 (w6.alloc (.cells #[.pointer (some ⟨p, 0, none⟩), .int .i64 a, .int .i64 b, .int .i64 c, .string (s.extract m c), .bool false] 70)) := hB0.alloc hB0.size _
  have hv7 := (hb7.block v (lt_of_block GV5.out)).trans GV5.out
  refine hK _ _ (HCO.out _ hv7) ?_
  clear hK K' hv7
  try simp only [Act.put, List.setIfInBounds_toArray, List.set_cons_succ, List.set_cons_zero]
  have hq6 : w1.heap.size ≤ w6.heap.size := Nat.le_trans HB5.out.size hB0.size
  have hja : j = ⟨a, b, c, s.extract m c, false⟩ := by rw [HJ.out, HM.out, HS.out]
  obtain ⟨q, hq⟩ : ∃ q, q = w6.heap.size := ⟨_, rfl⟩
  rw [← hq] at gq hq6 ⊢
  generalize w6.alloc (.cells #[.pointer (some ⟨p, 0, none⟩), .int .i64 a, .int .i64 b, .int .i64 c, .string (s.extract m c), .bool false] 70) = w7 at gq hb7 ⊢
  have hst7 := strsAt_below HST.out (Nat.le_refl _) hb7
  have hfin : OpenGood2 p w1 j l (.returned (.tuple #[.pointer (some ⟨q, 0, none⟩), .slice ad l.length cap, .int .i64 0])) w7 := by
    refine ⟨q, ad, cap, rfl, hq6, ?_, hst7, HLC.out.1, HLC.out.2, HB5.out.trans (hb7.mono HB5.out.size), fun a e => ⟨(HFR.out a e).1, by rw [hq]; exact Nat.lt_of_lt_of_le (HFR.out a e).2 hB0.size⟩⟩
    rw [hja]
    exact gq
  have HFIN := Lib.hid hfin
  clear gq hb7 hst7 hq hq6 hfin hja HST HLC HB5 GV5 hB0
  repeat (refine mix_read (by rfl) ?_; apply Exists.intro; refine ⟨fun w9 hw9 => ?_, ?_⟩; (· go_simp; rfl); simp only [Act.put, List.setIfInBounds_toArray, List.set_cons_succ, List.set_cons_zero])
  refine mix_nil (NoPanic.normal ?_)
  go_wp2_with fail
  go_ret3
  exact HFIN.out
end Go.Proofs.Ytagdaeapjofajaa

namespace Go.Proofs.Ytagdaeapjofajaa
set_option maxRecDepth 4000
open Go.RowKit

theorem info_act5 : (Try.prog.info? 51).map (·.size) = some 5 := by kernel_rfl
theorem isAt_new {w w' : World} {ad : Option Addr} {l : List ByteArray} {F : Nat → Prop} {q : Nat} (h : strsAt w' ad l) (hf : ∀ a, ad = some a → w.heap.size ≤ a.block ∧ a.block < q) (hF : ∀ k, F k → k < w.heap.size) : IsAt w' ad l F q := by
  rcases h with h | ⟨b, off, h1, h2, h3⟩
  · exact .inl h
  · have := hf _ h1
    exact .inr ⟨b, off, h1, h2, fun hb => by have h4 := hF b hb; have h5 := this.1; simp only at h5; omega, fun e => by have h5 := this.2; simp only at h5; omega, h3⟩
/-- what a crash shows -/
def Shows (n sq : Nat) (rs next : List ByteArray) (S : List (List Sec)) : Prop :=
  ∀ (sx : Dk) (keep : List Int), sx.S = S → ∃ sq2 half2 got, OnDisk (crashD sx keep) n sq2 half2 got ∧ (got = rs ∨ got = next) ∧ sq2 ≤ sq + 1
/-- what is there when a call was done and the disk was disarmed -/
def CallAt (w wx : World) (p q ab n sq half : Nat) (a : JAct) (adis : Option Addr) (rs : List ByteArray) (F : Nat → Prop) (st : Dk) (j : Jn) (g : Int) (adn : Option Addr) (next : List ByteArray) : Prop :=
  JLaw w wx p F q st j ∧ ActAt wx ab a F q ∧ IsAt wx adis rs F q ∧ IsAt wx adn next F q ∧ Kind n sq half rs next g st j ∧ pendMax st.S 70000
/-- the same, with what is kept and what might be -/
def DoneAt (w wx : World) (p q ab n sq : Nat) (a : JAct) (F : Nat → Prop) (st : Dk) (j : Jn) (g : Int) (adis : Option Addr) (is : List ByteArray) (adn : Option Addr) (next : List ByteArray) : Prop :=
  JLaw w wx p F q st j ∧ ActAt wx ab a F q ∧ IsAt wx adis is F q ∧ IsAt wx adn next F q ∧
    (g ≠ 12 → ∃ sq' half', OnDisk st n sq' half' is ∧ j = jOf sq' half' is ∧ sq' ≤ sq + 1 ∧ st.armed = 0) ∧ pendMax st.S 70000 ∧ Shows n sq is next st.S
theorem Kind.congr {n sq half : Nat} {rs next : List ByteArray} {g : Int} {st st' : Dk} {j : Jn} (h : Kind n sq half rs next g st j) (hS : st'.S = st.S) (hd : st'.down = st.down) : Kind n sq half rs next g st' j := by
  rcases h with ⟨h1, sq', half', h2, h3⟩ | ⟨h1, h2, h3⟩ | ⟨h1, h2, h3, h4, h5, h6⟩
  · exact .inl ⟨h1, sq', half', h2.congr hS hd, h3⟩
  · exact .inr (.inl ⟨h1, h2.congr hS hd, h3⟩)
  · exact .inr (.inr ⟨h1, h2, h3, by rw [hS]; exact h4, by rw [hS]; exact h5, fun sx keep e => h6 sx keep (by rw [e, hS])⟩)
theorem Below.stp {w w' : World} (F : Nat → Prop) (q : Nat) (h : Below w.heap.size w w') : Stp (fun k => F k ∨ k = q) w (fun k => F k ∨ k = q) w' := (Stp.ofBelow F h).more q
theorem row_is {wr : World} {v : Value} {l : List ByteArray} {base q : Nat} {F : Nat → Prop} (h : Row wr base v l) (hF : ∀ k, F k → k < base) (hq : q < base) : ∃ ad cap, v = .slice ad l.length cap ∧ IsAt wr ad l F q := by
  have hlt := World.ownsRow.lt h
  obtain ⟨ad, cap, rfl, hs⟩ := h.form
  refine ⟨ad, cap, rfl, ?_⟩
  rcases hs with hs | ⟨b, off, rfl, h2, h3⟩
  · exact .inl hs
  · have := (hlt b rfl).1
    exact .inr ⟨b, off, rfl, h2, fun hf => by have := hF b hf; omega, fun e => by omega, h3⟩
theorem wp_append_row {o : Oper} {a : Act} {w : World} {K : Act → World → Prop} {Q : Exit → Act → World → Prop} (s x : Operand)
    (ho : o.op = .call { callee := .builtin .append, args := #[s, x], argTypes := #[30, 30] })
    (base : Nat) (v : Value) (l : List ByteArray) (hs : a.eval s = v) (hrow : Row w base v l)
    (xv : Value) (m : List ByteArray) (hx : a.eval x = xv) (hsrc : Src Try.prog 1 30 xv m.length (m.map Value.string) w)
    (hlen : l.length + m.length ≤ 8000000000000) (hbase : base ≤ w.heap.size)
    (h : ∀ v' w', Row w' base v' (l ++ m) → w.grownBy w' v.ownBlock → K (a.put o.dst v') w') : o.wp Try.prog a w K Q := by
  obtain ⟨i0, hi, hz0, hz1, hz2⟩ := info_parts info_string
  refine wp_append_at w s x 30 30 ho base 9 i0 (.string ⟨#[]⟩) 1 16 Try.underlying30 hi hz0 hz1 hz2 rfl (by decide) v l.length _ hs hrow xv m.length _ hx hsrc (by unfold maxLen; omega) (by omega) hbase fun v' w' h1 h2 _ => h v' w' ?_ h2
  unfold Row
  rw [List.length_append, List.map_append]
  exact h1
theorem row_empty (w : World) (t : TypeId) (h : t = 9) : Row (w.alloc (.cells #[] t)) w.heap.size (.slice (some ⟨w.heap.size, 0, none⟩) 0 0) [] := by
  subst h
  exact ⟨rfl, .inr ⟨w.heap.size, 0, #[], rfl, Nat.le_refl _, heap_alloc_top _ _, Nat.le_refl _, by unfold maxLen; omega, rfl, rfl⟩⟩
theorem beq_no2 {g : Int} (h : g ≠ 12) : (g == 12) = false := by rw [beq_eq_false_iff_ne]; exact h
theorem keep_of {w : World} {a : JAct} (h : jactOk w a) {F : Nat → Prop} (hF : ∀ k, F k → w.heap.size ≤ k) : a.keep = [] ∨ ∀ b off, a.kad = some ⟨b, off, none⟩ → ¬ F b := by
  rcases h.2.2.2.1 with hk | ⟨b, off, hk, hb, _⟩
  · exact .inl hk
  · refine .inr (fun b2 off2 e hf => ?_)
    rw [hk] at e
    cases e
    have := hF _ hf
    omega

set_option maxHeartbeats 8000000 in
theorem journalKeeps_walk (m : Nat) (ad : Option Addr) (cap : Nat) (l : List JAct) (w : World) (hm : m ≤ 255) (hl : jactsAt w ad l) (hok : ∀ a ∈ l, jactOk w a) (hll : l.length ≤ 9223372036854775807) :
    Calls Try.prog 6 #[.int .u8 m, .slice ad l.length cap] w fun r w' => r = .returned (.bool true) ∧ Below w.heap.size w w' := by
  obtain ⟨n, hn⟩ : ∃ n, n = m % 60 + 4 := ⟨_, rfl⟩
  have hn4 : 4 ≤ n := by omega
  have hn63 : n ≤ 63 := by omega
  obtain ⟨hw0, hf0, hon, har⟩ := format_fresh n hn4 (by omega)
  obtain ⟨st1, hst1⟩ : ∃ st1, st1 = (formatD (freshD n)).2 := ⟨_, rfl⟩
  have hfd : formatD (freshD n) = (0, st1) := Prod.ext hf0 hst1.symm
  rw [← hst1] at hon har
  have HW0 := Lib.hid hw0; have HON := Lib.hid hon; have HFD := Lib.hid hfd; have HAR := Lib.hid har
  obtain ⟨o1, o2, o3, o4⟩ := hon.opens
  have HO := Lib.hid (And.intro o1 (And.intro o2 (And.intro o3 o4)))
  have HN := Lib.hid hn; have HN4 := Lib.hid hn4; have HN63 := Lib.hid hn63
  have HL := Lib.hid hl; have HOK := Lib.hid hok
  clear hw0 hf0 hon har hst1 hfd o1 o2 o3 o4 hn hl hok
  go_enter Try.func6, Try.ntmps6
  go_wp2_with fail
  have hmn : ((m : Int) % 60 + 4) = (n : Int) := by have := HN.out; omega
  rw [hmn]
  clear hmn
  refine (new_disk n w (by omega) (by omega)).mono ?_
  rintro e w1 ⟨p, F, rfl, hb1, hd1, hF1⟩
  have KF := Lib.hid (format_walk p F (freshD n) 0 w1 hd1 (by show 4 ≤ (List.replicate n [z64]).length; simpa using HN4.out) HW0.out (pendMax_new n) (by omega))
  rw [HFD.out] at KF
  have HB1 := Lib.hid (And.intro hb1 hF1)
  clear hb1 hd1 hF1
  go_wp2_with fail
  refine KF.out.mono ?_
  intro e w2 hpost
  have he := hpost.1
  subst he
  obtain ⟨F2, hb2, hd2, hF2⟩ := DiskPost.low HB1.out.1 HB1.out.2 hpost
  have HB2 := Lib.hid (And.intro hb2 (And.intro hd2 hF2))
  clear hpost hb2 hd2 hF2 KF HB1
  go_wp2_with fail
  refine (awake5_walk w2).mono ?_
  rintro e w3 ⟨rfl, hb3⟩
  have HB3 := Lib.hid (And.intro (HB2.out.1.trans (hb3.mono HB2.out.1.size)) (And.intro (HB2.out.2.1.below hb3) HB2.out.2.2))
  clear hb3 HB2
  have KO := Lib.hid (open_good p F2 st1 w3 HB3.out.2.1 HO.out.2.2.2 HO.out.1 (by rw [HO.out.2.1]))
  rw [HO.out.2.1, HO.out.2.2.1] at KO
  go_wp2_with fail
  refine KO.out.mono ?_
  rintro e w4 ⟨q, ad4, cap4, rfl, hq4, hj4, hst4, hlc4, hcm4, hb4⟩
  have hL4 : JLaw w w4 p F2 q st1 (jOf 1 0 []) := ⟨HB3.out.1.trans (hb4.mono HB3.out.1.size), HB3.out.2.1.below hb4, HB3.out.2.2, hj4, fun hf => by have := HB3.out.2.1.lt q hf; omega, Nat.le_trans HB3.out.1.size hq4⟩
  have HL4 := Lib.hid hL4; have HC4 := Lib.hid (And.intro hlc4 hcm4)
  clear hL4 hj4 hst4 hb4 hq4 KO HB3 hlc4 hcm4
  rw [List.length_nil]
  go_wp2_with fail
  go_loopg [7, 8, 10] l.length (fun gk vj vs vi wr => ∃ (k sq half q : Nat) (rs : List ByteArray) (F : Nat → Prop) (st : Dk) (adis : Option Addr) (capis : Nat), k + gk = l.length ∧ vi = .int .i64 k ∧ k ≤ 30 ∧ vj = .pointer (some ⟨q, 0, none⟩) ∧ vs = .slice adis rs.length capis ∧
    JLaw w wr p F q st (jOf sq half rs) ∧ OnDisk st n sq half rs ∧ st.armed = 0 ∧ sq ≤ 1 + k ∧ IsAt wr adis rs F q)
  case atStart => exact ⟨0, 1, 0, q, [], F2, st1, ad4, cap4, by omega, rfl, by omega, rfl, rfl, HL4.out, HON.out, HAR.out, by omega, .inl rfl⟩
  case round =>
    clear HL4 HC4 HON HAR HO HFD HW0
    obtain ⟨k, sq, half, q, rs, F5, st5, adis, capis, hgk, rfl, hk30, rfl, rfl, hJL, hON, hA0, hsq, hIS⟩ := hrel
    have HGK := Lib.hid hgk; have HK30 := Lib.hid hk30; have HJL := Lib.hid hJL; have HOD := Lib.hid hON; have HA0 := Lib.hid hA0; have HSQ := Lib.hid hsq; have HIS := Lib.hid hIS
    clear hgk hk30 hJL hON hA0 hsq hIS
    by_cases hmore : k < l.length ∧ k < 30
    · obtain ⟨hm1, hm2⟩ := hmore
      have hm1' : (k : Int) < (l.length : Int) := by omega
      have hm2' : (k : Int) < 30 := by omega
      rcases HL.out with hat | ⟨bl, off, rfl, hbl, hcs⟩
      · simp [hat] at hm1
      have hro := HOK.out l[k] (List.getElem_mem hm1)
      have hcw : ∀ w', Below w.heap.size w w' → ∀ (j : Nat) (u : Value), (jactv l[k])[j]? = some u → w'.cell? ⟨bl, off + k * 5 + j, none⟩ = some u := fun w' hb j u hu => (hb.cell (p := ⟨bl, off + k * 5 + j, none⟩) (by simpa using hbl)).trans (hcs k hm1 j u hu)
      obtain ⟨a, ha⟩ : ∃ a, a = l[k] := ⟨_, rfl⟩
      rw [← ha] at hro hcw
      have HRO := Lib.hid hro; have HCW := Lib.hid (hcw wr HJL.out.low)
      clear ha hro hcw hcs hbl
      obtain ⟨rn, hrn⟩ : ∃ rn, rn = rs.length := ⟨_, rfl⟩
      rw [← hrn]
      have HRN := Lib.hid hrn
      clear hrn
      go_upto_region 11 with (refine wpList_cells 51 _ rfl bl (off + k * 5) rfl rfl (jactv a) _ HCW.out Try.underlying51 rfl info_act5 ?_; unfold jactv)
      have g1 := heap_alloc_top wr (.cells #[.bool a.rw, .bool a.again, .slice a.lad a.l.length a.lcap, .int .i64 a.arm, .slice a.kad a.keep.length a.kcap] 51)
      have hbW : Below wr.heap.size wr (wr.alloc (.cells #[.bool a.rw, .bool a.again, .slice a.lad a.l.length a.lcap, .int .i64 a.arm, .slice a.kad a.keep.length a.kcap] 51)) := (Below.refl _ _).alloc (Nat.le_refl _) _
      obtain ⟨ab, hab⟩ : ∃ ab, ab = wr.heap.size := ⟨_, rfl⟩
      rw [← hab] at g1 ⊢
      generalize wr.alloc (.cells #[.bool a.rw, .bool a.again, .slice a.lad a.l.length a.lcap, .int .i64 a.arm, .slice a.kad a.keep.length a.kcap] 51) = W at g1 hbW ⊢
      have hactW : ActAt W ab a F5 q := ⟨g1, fun hf => by have := HJL.out.disk.lt ab hf; omega, fun e => by have := lt_of_block HJL.out.jn; omega⟩
      have HJ6 := Lib.hid (HJL.out.below hbW); have HI6 := Lib.hid (HIS.out.step (Below.stp F5 q hbW)); have HA6 := Lib.hid hactW
      have c2 : W.cell? ⟨ab, 2, none⟩ = some (.slice a.lad a.l.length a.lcap) := cell_at (j := 2) g1 rfl
      have hsa : strsAt W a.lad a.l := strsAt_below HRO.out.1 (Nat.le_refl _) HJ6.out.low
      have KLI := Lib.hid (lightJ_walk a.lad a.lcap a.l W hsa HRO.out.2.1)
      clear g1 hbW hab hactW HJL HIS HCW hsa
      cases hli : lightJ a.l with
      | false =>
        rw [hli] at KLI
        go_wp2_with fail
        refine KLI.out.mono ?_
        rintro e w6 ⟨rfl, rfl⟩
        go_wp2_with fail
        go_roundg (gk - 1)
        case measure => have := HGK.out; omega
        case rel => exact ⟨k + 1, sq, half, q, rs, F5, st5, adis, capis, by have := HGK.out; omega, by go_num, by omega, rfl, by rw [HRN.out], HJ6.out, HOD.out, HA0.out, by have := HSQ.out; omega, HI6.out⟩
      | true =>
        rw [hli] at KLI
        obtain ⟨hz1, hz12, hz3⟩ := lightJ_size hli
        have HZ := Lib.hid (And.intro hz1 (And.intro hz12 hz3))
        clear hli hz1 hz12 hz3
        have hod := HOD.out.congr (st' := armD st5 a.arm) rfl rfl
        have HODA := Lib.hid hod
        have hpm : pendMax (armD st5 a.arm).S 0 := calm_pend hod.calm
        have HPM := Lib.hid hpm
        have hl4 : 4 ≤ (armD st5 a.arm).S.length := by rw [hod.calm.len]; exact HN4.out
        have HL4 := Lib.hid hl4
        have KA := fun w' (hd : Disk w' p F5 st5) => Lib.hid (arm_walk p F5 st5 a.arm w' HRO.out.2.2.1.2 hd)
        clear hod hpm hl4
        go_wp2_with fail
        refine KLI.out.mono ?_
        rintro e w6 ⟨rfl, rfl⟩
        have c3 : w6.cell? ⟨ab, 3, none⟩ = some (.int .i64 a.arm) := cell_at (j := 3) HA6.out.1 rfl
        go_wp2_with fail
        refine (KA w6 HJ6.out.disk).out.mono ?_
        rintro e w7 ⟨rfl, hd7, ht7⟩
        obtain ⟨hJ7, hs7⟩ := HJ6.out.arm hd7 ht7
        have HJ7 := Lib.hid hJ7; have HI7 := Lib.hid (HI6.out.step hs7); have hA7 := HA6.out.step hs7
        have HA7 := Lib.hid hA7
        have c0 : w7.cell? ⟨ab, 0, none⟩ = some (.bool a.rw) := cell_at (j := 0) hA7.1 rfl
        have c2 : w7.cell? ⟨ab, 2, none⟩ = some (.slice a.lad a.l.length a.lcap) := cell_at (j := 2) hA7.1 rfl
        clear c3 hd7 ht7 hJ7 hs7 hA7 KA KLI HJ6 HI6 HA6 HOD HA0
        go_upto_if 85 with fail
        go_cut [12, 13] from 60 to 173 (fun s12 s13 wx => ∃ (F : Nat → Prop) (st : Dk) (j : Jn) (g : Int) (adn : Option Addr) (capn : Nat) (next : List ByteArray), s12 = .slice adn next.length capn ∧ s13 = .int .i64 g ∧ CallAt w wx p q ab n sq half a adis rs F st j g adn next)
        case first =>
          have hrw : a.rw = true ∨ a.rw = false := by cases a.rw <;> simp
          rcases hrw with hrw | hrw
          · rw [hrw] at c0 ⊢
            have hlt := HRO.out.2.1
            have KR := Lib.hid (rewrite_walk q p F5 (armD st5 a.arm) (jOf sq half rs) 0 a.lad a.lcap a.l w7 HJ7.out.disk HJ7.out.jn HJ7.out.nq HL4.out (jOf_ok HODA.out) HPM.out (by omega) (strsAt_below HRO.out.1 (Nat.le_refl _) HJ7.out.low) hlt (fun s hs => by have := HZ.out.1 s hs; omega))
            have HKD := Lib.hid (rewrite_kind HODA.out a.l (by have := HZ.out.2.2; omega) (by have := HSQ.out; omega))
            have HPD := Lib.hid (rewriteD_pend HPM.out HODA.out.calm.ok (jOf sq half rs) a.l)
            clear hlt
            go_wp2_with fail
            refine KR.out.mono ?_
            intro e w8 hpost
            have he := hpost.1
            subst he
            obtain ⟨F8, hJ8, hs8⟩ := HJ7.out.post2 hpost
            have HC := Lib.hid (show CallAt w w8 p q ab n sq half a adis rs F8 (rewriteD (armD st5 a.arm) (jOf sq half rs) a.l).2 (rewriteJ (armD st5 a.arm) (jOf sq half rs) a.l) (rewriteD (armD st5 a.arm) (jOf sq half rs) a.l).1 a.lad a.l from
              ⟨hJ8, HA7.out.step hs8, HI7.out.step hs8, isAt_old HRO.out.1 hJ8, HKD.out, pendMax_le HPD.out (by omega)⟩)
            clear hpost hJ8 hs8 KR HKD HPD
            go_wp2_with fail
            go_meet
            exact ⟨F8, _, _, _, a.lad, a.lcap, a.l, rfl, rfl, HC.out⟩
          · rw [hrw] at c0 ⊢
            have HKD := Lib.hid (append_kind HODA.out a.l (by have := HZ.out.2.2; omega) (by have := HSQ.out; omega))
            have HPD := Lib.hid (appendD_pend HPM.out HODA.out.calm.ok (jOf sq half rs) (jOf_tail sq half rs) a.l)
            have hrs := allR_ge rs
            have hsm := HODA.out.small.1
            have HRS := Lib.hid (show rs.length ≤ 262144 by omega)
            clear hrs hsm
            go_upto_region 17 with fail
            obtain ⟨C, hC⟩ : ∃ C : World → Prop, C = fun w9 => w9.heap[ab]? = some (.cells (jactv a).toArray 51 (0, 0)) := ⟨_, rfl⟩
            have HCO := Lib.hid (show ∀ w9, w9.heap[ab]? = some (.cells (jactv a).toArray 51 (0, 0)) → C w9 from fun w9 h => by rw [hC]; exact h)
            have HC2 := Lib.hid (show ∀ w9, C w9 → w9.cell? ⟨ab, 2, none⟩ = some (.slice a.lad a.l.length a.lcap) from fun w9 h => by rw [hC] at h; exact cell_at (j := 2) h rfl)
            clear hC
            have hB0 : Below w7.heap.size w7 w7.drew := (Below.refl _ _).drew
            refine wp_region_mix C [(1,true),(3,true),(4,true),(0,false),(2,false),(5,false),(6,true)] (by kernel_rfl) (by kernel_rfl) (HCO.out _ HA7.out.1) ?_
            generalize w7.drew = w8 at hB0 ⊢
            simp only [List.filterMap_cons, List.filterMap_nil, List.getElem?_cons_zero, List.getElem?_cons_succ, Option.map_some]
            repeat (refine mix_read (by rfl) ?_; apply Exists.intro; refine ⟨fun w9 hw9 => ?_, ?_⟩; (· have d2 := HC2.out w9 hw9; go_simp; rfl); simp only [Act.put, List.setIfInBounds_toArray, List.set_cons_succ, List.set_cons_zero])
            refine mix_step (by rfl) (fun K' hK => ?_)
            go_simp
            have hrow0 := row_empty w8 9 rfl
            have hb9 : Below w7.heap.size w7 (w8.alloc (.cells #[] 9)) := hB0.alloc hB0.size _
            have ha9 := (hb9.block ab (lt_of_block HA7.out.1)).trans HA7.out.1
            obtain ⟨Bz, hBz⟩ : ∃ Bz, Bz = w8.heap.size := ⟨_, rfl⟩
            have hBz1 : Bz ≤ (w8.alloc (.cells #[] 9)).heap.size := by rw [hBz]; simp
            rw [← hBz] at hrow0 ⊢
            have hBz7 : w7.heap.size ≤ Bz := by rw [hBz]; exact hB0.size
            generalize w8.alloc (.cells #[] 9) = w9 at hrow0 hb9 ha9 hBz1 ⊢
            refine hK _ _ (HCO.out _ ha9) ?_
            clear hK K'
            try simp only [Act.put, List.setIfInBounds_toArray, List.set_cons_succ, List.set_cons_zero]
            have HBZ := Lib.hid hBz7
            have HR0 := Lib.hid hrow0; have HB9 := Lib.hid hb9; have HZ1 := Lib.hid hBz1
            clear hrow0 hb9 ha9 hBz hBz1 hBz7 hB0
            have hsis : strsAt w9 adis rs := strsAt_below (HI7.out.strs) (Nat.le_refl _) HB9.out
            refine mix_step (by rfl) (fun K' hK => ?_)
            refine wp_append_row _ _ rfl Bz _ [] rfl HR0.out _ rs (by rw [HRN.out]; rfl) (src_texts hsis capis) (by have := HRS.out; simp; omega) HZ1.out (fun v10 w10 hr10 hg10 => ?_)
            have hb10 : Below w7.heap.size w7 w10 := below_of_grown HB9.out hg10 HB9.out.size (fun j hj => by have := (World.ownsRow.lt HR0.out j hj).1; have := HBZ.out; omega)
            have ha10 := (hb10.block ab (lt_of_block HA7.out.1)).trans HA7.out.1
            have hz10 : Bz ≤ w10.heap.size := Nat.le_trans HZ1.out hg10.size
            rw [List.nil_append] at hr10
            refine hK _ _ (HCO.out _ ha10) ?_
            clear hK K' hg10
            simp only [Act.put, List.setIfInBounds_toArray, List.set_cons_succ, List.set_cons_zero]
            have HR10 := Lib.hid hr10; have HB10 := Lib.hid hb10; have HZ10 := Lib.hid hz10
            clear hr10 hb10 ha10 hz10 hsis HR0 HB9 HZ1
            have hsl : strsAt w10 a.lad a.l := strsAt_below HRO.out.1 (Nat.le_refl _) (HJ7.out.low.trans (HB10.out.mono HJ7.out.low.size))
            refine mix_step (by rfl) (fun K' hK => ?_)
            refine wp_append_row _ _ rfl Bz v10 rs rfl HR10.out _ a.l rfl (src_texts hsl a.lcap) (by have := HRS.out; have := HZ.out.2.1; omega) HZ10.out (fun v11 w11 hr11 hg11 => ?_)
            have hb11 : Below w7.heap.size w7 w11 := below_of_grown HB10.out hg11 HB10.out.size (fun j hj => by have := (World.ownsRow.lt HR10.out j hj).1; have := HBZ.out; omega)
            have ha11 := (hb11.block ab (lt_of_block HA7.out.1)).trans HA7.out.1
            refine hK _ _ (HCO.out _ ha11) ?_
            clear hK K' hg11
            simp only [Act.put, List.setIfInBounds_toArray, List.set_cons_succ, List.set_cons_zero]
            obtain ⟨adn, capn, rfl, hin⟩ := row_is hr11 (F := F5) (q := q) (fun k hk => by have := HJ7.out.disk.lt k hk; have := HBZ.out; omega) (by have := lt_of_block HJ7.out.jn; have := HBZ.out; omega)
            have hJ11 := HJ7.out.below hb11
            have hA11 := HA7.out.step (Below.stp F5 q hb11)
            have HJ11 := Lib.hid hJ11; have HI11 := Lib.hid (HI7.out.step (Below.stp F5 q hb11)); have HA11 := Lib.hid hA11; have HN11 := Lib.hid hin
            clear hr11 hb11 ha11 hJ11 hA11 hin hsl HR10 HB10 HZ10 HBZ HJ7 HI7 HA7
            repeat (refine mix_read (by rfl) ?_; apply Exists.intro; refine ⟨fun w9 hw9 => ?_, ?_⟩; (· go_simp; rfl); simp only [Act.put, List.setIfInBounds_toArray, List.set_cons_succ, List.set_cons_zero])
            refine mix_nil (NoPanic.normal ?_)
            have c2 : w11.cell? ⟨ab, 2, none⟩ = some (.slice a.lad a.l.length a.lcap) := cell_at (j := 2) HA11.out.1 rfl
            have KR := Lib.hid (append_walk q p F5 (armD st5 a.arm) (jOf sq half rs) 0 a.lad a.lcap a.l w11 HJ11.out.disk HJ11.out.jn HJ11.out.nq HL4.out (jOf_ok HODA.out) HPM.out (by omega) (strsAt_below HRO.out.1 (Nat.le_refl _) HJ11.out.low) HRO.out.2.1 (fun s hs => by have := HZ.out.1 s hs; omega))
            obtain ⟨nn, hnn⟩ : ∃ nn, nn = (rs ++ a.l).length := ⟨_, rfl⟩
            rw [← hnn]
            have HNN := Lib.hid hnn
            clear hnn HC2 HCO
            go_wp2_with fail
            refine KR.out.mono ?_
            intro e w12 hpost
            have he := hpost.1
            subst he
            obtain ⟨F12, hJ12, hs12⟩ := HJ11.out.post2 hpost
            have HC := Lib.hid (show CallAt w w12 p q ab n sq half a adis rs F12 (appendD (armD st5 a.arm) (jOf sq half rs) a.l).2 (appendJ (armD st5 a.arm) (jOf sq half rs) a.l) (appendD (armD st5 a.arm) (jOf sq half rs) a.l).1 adn (rs ++ a.l) from
              ⟨hJ12, HA11.out.step hs12, HI11.out.step hs12, HN11.out.step hs12, HKD.out, pendMax_le HPD.out (by omega)⟩)
            clear hpost hJ12 hs12 KR HKD HPD HJ11 HI11 HA11 HN11
            go_wp2_with fail
            go_meet
            exact ⟨F12, _, _, _, adn, capn, rs ++ a.l, by first | rw [HNN.out] | rw [List.length_append], rfl, HC.out⟩
        case rest =>
          obtain ⟨F8, st8, j8, g, adn, capn, next, rfl, rfl, hC⟩ := hcut
          obtain ⟨hJ8, hA8, hI8, hN8, hK8, hP8⟩ := hC
          have HJ8 := Lib.hid hJ8; have HA8 := Lib.hid hA8; have HI8 := Lib.hid hI8; have HN8 := Lib.hid hN8; have HK8 := Lib.hid hK8; have HP8 := Lib.hid hP8
          clear hJ8 hA8 hI8 hN8 hK8 hP8 HJ7 HI7 HA7 HODA HPM HL4 HZ
          obtain ⟨nx, hnx⟩ : ∃ nx, nx = next.length := ⟨_, rfl⟩
          rw [← hnx]
          have HNX := Lib.hid hnx
          have KA := Lib.hid (arm_walk p F8 st8 0 wc (by omega) HJ8.out.disk)
          clear hnx
          go_wp2_with fail
          refine KA.out.mono ?_
          rintro e w9 ⟨rfl, hd9, ht9⟩
          obtain ⟨hJ9, hs9⟩ := HJ8.out.arm hd9 ht9
          have HJ9 := Lib.hid hJ9; have HA9 := Lib.hid (HA8.out.step hs9); have HI9 := Lib.hid (HI8.out.step hs9); have HN9 := Lib.hid (HN8.out.step hs9); have HK9 := Lib.hid (HK8.out.congr (st' := armD st8 0) rfl rfl); have HP9 := Lib.hid (show pendMax (armD st8 0).S 70000 from HP8.out)
          have HARM := Lib.hid (show (armD st8 0).armed = 0 from rfl)
          clear hd9 ht9 hJ9 hs9 HJ8 HA8 HI8 HN8 HK8 HP8 KA
          obtain ⟨st9, hst9⟩ : ∃ st9, st9 = armD st8 0 := ⟨_, rfl⟩
          rw [← hst9] at HJ9 HK9 HP9 HARM
          clear hst9
          go_upto_if 103 with fail
          go_cut [8, 12] from 60 to 173 (fun s8 s12 wx => ∃ (F : Nat → Prop) (st : Dk) (j : Jn) (adi : Option Addr) (capi : Nat) (is : List ByteArray) (adn : Option Addr) (capn : Nat) (nx : List ByteArray), s8 = .slice adi is.length capi ∧ s12 = .slice adn nx.length capn ∧ DoneAt w wx p q ab n sq a F st j g adi is adn nx)
          case first =>
            rcases HK9.out with ⟨rfl, sq', half', hon, rfl, hsq'⟩ | ⟨rfl, hon, rfl⟩ | ⟨rfl, hbr, hjk, hln, hok, hsh⟩
            · have HD := Lib.hid (show DoneAt w w9 p q ab n sq a F8 st9 (jOf sq' half' next) 0 adn next adn next from
                ⟨HJ9.out, HA9.out, HN9.out, HN9.out, fun _ => ⟨sq', half', hon, rfl, hsq', HARM.out⟩, HP9.out, fun sx keep e => ⟨sq', half', next, hon.crash sx keep e, .inl rfl, hsq'⟩⟩)
              clear hon hsq'
              go_wp2_with fail
              go_meet
              exact ⟨F8, st9, _, adn, capn, next, adn, capn, next, by rw [HNX.out], by rw [HNX.out], HD.out⟩
            · have HD := Lib.hid (show DoneAt w w9 p q ab n sq a F8 st9 (jOf sq half rs) 10 adis rs adis rs from
                ⟨HJ9.out, HA9.out, HI9.out, HI9.out, fun _ => ⟨sq, half, hon, rfl, by omega, HARM.out⟩, HP9.out, fun sx keep e => ⟨sq, half, rs, hon.crash sx keep e, .inl rfl, by omega⟩⟩)
              clear hon
              go_wp2_with fail
              go_meet
              exact ⟨F8, st9, _, adis, capis, rs, adis, capis, rs, by rw [HRN.out], by rw [HRN.out], HD.out⟩
            · have HSH := Lib.hid hsh
              have KB := Lib.hid (broken_walk q p j8 w9 HJ9.out.jn)
              rw [hbr] at KB
              obtain ⟨ab1, ab2⟩ := append_broken st9 j8 [⟨#[120]⟩] hbr
              have HAB := Lib.hid (And.intro ab1 ab2); have HJK := Lib.hid hjk
              have hl4 : 4 ≤ st9.S.length := by rw [hln]; exact HN4.out
              have HL4 := Lib.hid hl4
              clear hsh hbr hjk hln hok ab1 ab2 hl4
              go_wp2_with fail
              refine KB.out.mono ?_
              rintro e w10 ⟨rfl, rfl⟩
              go_wp2_with fail
              have hbx : Below w10.heap.size w10 (w10.alloc (.cells #[.string ⟨#[120]⟩] 9)) := (Below.refl _ _).alloc (Nat.le_refl _) _
              have hat : strsAt (w10.alloc (.cells #[.string ⟨#[120]⟩] 9)) (some ⟨w10.heap.size, 0, none⟩) [⟨#[120]⟩] := by
                refine .inr ⟨w10.heap.size, 0, rfl, by simp, fun i hi => ?_⟩
                rw [cell_of_row _ w10.heap.size (0 + i) _ _ _ (heap_alloc_top w10 _)]
                match i, hi with
                | 0, _ => rfl
                | i + 1, hi => exact absurd hi (by simp)
              obtain ⟨bx, hbxx⟩ : ∃ bx, bx = w10.heap.size := ⟨_, rfl⟩
              rw [← hbxx] at hat ⊢
              generalize w10.alloc (.cells #[.string ⟨#[120]⟩] 9) = w11 at hbx hat ⊢
              have hJ11 := HJ9.out.below hbx
              have hs11 := Below.stp F8 q hbx
              have HJ11 := Lib.hid hJ11; have HA11 := Lib.hid (HA9.out.step hs11); have HI11 := Lib.hid (HI9.out.step hs11); have HN11 := Lib.hid (HN9.out.step hs11)
              have KR := Lib.hid (append_walk q p F8 st9 j8 70000 (some ⟨bx, 0, none⟩) 1 [⟨#[120]⟩] w11 hJ11.disk hJ11.jn hJ11.nq HL4.out (HJK.out st9) HP9.out (by omega) hat (by simp) (by intro s hs; rw [List.mem_singleton.1 hs]; show 1 ≤ _; omega))
              rw [HAB.out.1, HAB.out.2] at KR
              clear hbx hat hbxx hJ11 hs11 HJ9 HA9 HI9 HN9 KB
              refine KR.out.mono ?_
              intro e w12 hpost
              have he := hpost.1
              subst he
              obtain ⟨F12, hJ12, hs12⟩ := HJ11.out.post2 hpost
              have HD := Lib.hid (show DoneAt w w12 p q ab n sq a F12 st9 j8 12 adis rs adn next from
                ⟨hJ12, HA11.out.step hs12, HI11.out.step hs12, HN11.out.step hs12, fun h => absurd rfl h, HP9.out, HSH.out⟩)
              clear hpost hJ12 hs12 KR HJ11 HA11 HI11 HN11
              go_wp2_with fail
              go_meet
              exact ⟨F12, st9, j8, adis, capis, rs, adn, capn, next, by rw [HRN.out], by rw [HNX.out], HD.out⟩
          case rest =>
            obtain ⟨F9, st10, j9, adi, capi, is, adn2, capn2, nxt, rfl, rfl, hD⟩ := hcut
            obtain ⟨hJ, hA, hI, hNx, hgo, hP, hSh⟩ := hD
            have HJ := Lib.hid hJ; have HAx := Lib.hid hA; have HIx := Lib.hid hI; have HNx := Lib.hid hNx; have HGO := Lib.hid hgo; have HPx := Lib.hid hP; have HSHx := Lib.hid hSh
            have c1 : wc.cell? ⟨ab, 1, none⟩ = some (.bool a.again) := cell_at (j := 1) hA.1 rfl
            have c4 : wc.cell? ⟨ab, 4, none⟩ = some (.slice a.kad a.keep.length a.kcap) := cell_at (j := 4) hA.1 rfl
            clear hJ hA hI hNx hgo hP hSh HJ9 HA9 HI9 HN9 HK9 HP9 HARM
            have hcase : (g ≠ 12 ∧ a.again = false) ∨ g = 12 ∨ (g ≠ 12 ∧ a.again = true) := by
              by_cases hg : g = 12
              · exact .inr (.inl hg)
              · cases hag : a.again
                · exact .inl ⟨hg, rfl⟩
                · exact .inr (.inr ⟨hg, rfl⟩)
            obtain ⟨isn, hisn⟩ : ∃ isn, isn = is.length := ⟨_, rfl⟩
            obtain ⟨nxn, hnxn⟩ : ∃ nxn, nxn = nxt.length := ⟨_, rfl⟩
            rw [← hisn, ← hnxn]
            have HISN := Lib.hid hisn; have HNXN := Lib.hid hnxn
            clear hisn hnxn
            rcases hcase with ⟨hg, hag⟩ | hg | ⟨hg, hag⟩
            · obtain ⟨sq', half', hon, hj9, hsq', ha0⟩ := HGO.out hg
              subst hj9
              rw [hag] at c1
              have hz : (g == 12) = false := by rw [beq_eq_false_iff_ne]; exact hg
              have HON2 := Lib.hid hon; have HA02 := Lib.hid ha0; have HSQ2 := Lib.hid hsq'
              clear hon ha0 hsq'
              go_wp2_with fail
              go_roundg (gk - 1)
              case measure => have := HGK.out; omega
              case rel => exact ⟨k + 1, sq', half', q, is, F9, st10, adi, capi, by have := HGK.out; omega, by go_num, by omega, rfl, by rw [HISN.out], HJ.out, HON2.out, HA02.out, by have := HSQ.out; have := HSQ2.out; omega, HIx.out⟩
            · subst hg
              try rw [hag] at c1
              have hki : intsAt wc a.kad a.keep := intsAt_touch HRO.out.2.2.2.1 (Touch.ofBelow (fun _ => False) HJ.out.low) (fun _ _ _ hf => hf)
              have KC := Lib.hid (crash_walk p F9 st10 a.keep a.kad a.kcap wc HJ.out.disk (fun i => by have := HPx.out i; omega) hki (keep_of HRO.out HJ.out.hF) HRO.out.2.2.2.2.1 (fun x hx => HRO.out.2.2.2.2.2 x hx))
              obtain ⟨sq2, half2, got, hon2, hgot, hsq2⟩ := HSHx.out st10 a.keep rfl
              obtain ⟨o1, o2, o3, o4⟩ := hon2.opens
              have hac : (crashD st10 a.keep).armed = 0 := rfl
              obtain ⟨stc, hstc⟩ : ∃ stc, stc = crashD st10 a.keep := ⟨_, rfl⟩
              rw [← hstc] at KC hon2 o1 o2 o3 o4 hac
              have HON2 := Lib.hid hon2; have HGOT := Lib.hid hgot; have HSQ2 := Lib.hid hsq2; have HOP := Lib.hid (And.intro o1 (And.intro o2 (And.intro o3 o4))); have HAC := Lib.hid hac
              clear hki hon2 hgot hsq2 o1 o2 o3 o4 hac hstc
              obtain ⟨kn, hkn⟩ : ∃ kn, kn = a.keep.length := ⟨_, rfl⟩
              rw [← hkn] at KC c4
              clear hkn
              go_wp2_with fail
              refine KC.out.mono ?_
              intro e w10 hpost
              have he := hpost.1
              subst he
              obtain ⟨F10, hJ10, hs10⟩ := HJ.out.disk2 hpost
              have HJ10 := Lib.hid hJ10; have HI10 := Lib.hid (HIx.out.step hs10); have HN10 := Lib.hid (HNx.out.step hs10)
              clear hpost hJ10 hs10 KC c1 c4 HJ HAx HIx HNx
              have KO := fun w' (hd : Disk w' p F10 stc) => Lib.hid (open2_good p F10 stc w' hd HOP.out.2.2.2 HOP.out.1 (by rw [HOP.out.2.1]))
              rw [HOP.out.2.1, HOP.out.2.2.1] at KO
              obtain ⟨gn, hgn⟩ : ∃ gn, gn = got.length := ⟨_, rfl⟩
              go_wp2_with fail
              refine (KO w10 HJ10.out.disk).out.mono ?_
              rintro e w11 ⟨q2, ad2, cap2, rfl, hq2, hj2, hst2, hlc2, hcm2, hb11, hfr2⟩
              rw [← hgn]
              have hI2 := isAt_new hst2 hfr2 (fun k hk => HJ10.out.disk.lt k hk)
              have hJ11 := HJ10.out.open hb11 hq2 hj2
              have HJ11 := Lib.hid hJ11; have HG11 := Lib.hid hI2; have HI11 := Lib.hid (strsAt_below HI10.out.strs (Nat.le_refl _) hb11); have HN11 := Lib.hid (strsAt_below HN10.out.strs (Nat.le_refl _) hb11)
              clear hj2 hst2 hlc2 hcm2 hb11 hfr2 hI2 hJ11 hq2 HJ10 HI10 HN10
              go_wp2_with fail
              refine (KO w11 HJ11.out.disk).out.mono ?_
              rintro e w12 ⟨q3, ad3, cap3, rfl, hq3, hj3, hst3, hlc3, hcm3, hb12, hfr3⟩
              rw [← hgn]
              have HJ12 := Lib.hid (HJ11.out.below hb12); have HG12 := Lib.hid (HG11.out.step (Below.stp F10 q2 hb12)); have HI12 := Lib.hid (strsAt_below HI11.out (Nat.le_refl _) hb12); have HN12 := Lib.hid (strsAt_below HN11.out (Nat.le_refl _) hb12); have HM12 := Lib.hid hst3
              clear hj3 hst3 hlc3 hcm3 hb12 hfr3 hq3 HJ11 HG11 HI11 HN11 KO
              have hgl : got.length ≤ 262144 := by have := allR_ge got; have := HON2.out.small.1; omega
              have KT1 := Lib.hid (texts_walk ad2 ad3 cap2 cap3 got got w12 HG12.out.strs HM12.out (by omega))
              rw [decide_eq_true (rfl : got = got), ← hgn] at KT1
              have KT2 := fun w' (hb : Below w12.heap.size w12 w') => Lib.hid (texts_walk ad2 adi cap2 capi got is w' (strsAt_below HG12.out.strs (Nat.le_refl _) hb) (strsAt_below HI12.out (Nat.le_refl _) hb) (by omega))
              have KT3 := fun w' (hb : Below w12.heap.size w12 w') => Lib.hid (texts_walk ad2 adn2 cap2 capn2 got nxt w' (strsAt_below HG12.out.strs (Nat.le_refl _) hb) (strsAt_below HN12.out (Nat.le_refl _) hb) (by omega))
              simp only [← hgn, ← HISN.out] at KT2
              simp only [← hgn, ← HNXN.out] at KT3
              have HGN := Lib.hid hgn
              clear hgn hgl
              by_cases hgi : got = is
              · have hd1 : decide (got = is) = true := decide_eq_true hgi
                rw [hd1] at KT2
                clear KT3 hd1 hgi
                go_wp2_with fail
                refine KT1.out.mono ?_
                rintro e w13 ⟨rfl, hb13⟩
                have HB13 := Lib.hid hb13
                go_wp2_with fail
                refine (KT2 w13 HB13.out).out.mono ?_
                rintro e w14 ⟨rfl, hb14⟩
                have HB14 := Lib.hid (HB13.out.trans (hb14.mono HB13.out.size))
                clear hb13 hb14 KT1 KT2
                go_wp2_with fail
                go_roundg (gk - 1)
                case measure => have := HGK.out; omega
                case rel => exact ⟨k + 1, sq2, half2, q2, got, F10, stc, ad2, cap2, by have := HGK.out; omega, by go_num, by omega, rfl, by rw [HGN.out], HJ12.out.below HB14.out, HON2.out, HAC.out, by have := HSQ.out; have := HSQ2.out; omega, HG12.out.step (Below.stp F10 q2 HB14.out)⟩
              · have hd1 : decide (got = is) = false := decide_eq_false hgi
                have hd2 : decide (got = nxt) = true := decide_eq_true (HGOT.out.resolve_left hgi)
                rw [hd1] at KT2
                rw [hd2] at KT3
                clear hd1 hd2 hgi
                go_wp2_with fail
                refine KT1.out.mono ?_
                rintro e w13 ⟨rfl, hb13⟩
                have HB13 := Lib.hid hb13
                go_wp2_with fail
                refine (KT2 w13 HB13.out).out.mono ?_
                rintro e w14 ⟨rfl, hb14⟩
                have HB14 := Lib.hid (HB13.out.trans (hb14.mono HB13.out.size))
                go_wp2_with fail
                refine (KT3 w14 HB14.out).out.mono ?_
                rintro e w15 ⟨rfl, hb15⟩
                have HB15 := Lib.hid (HB14.out.trans (hb15.mono HB14.out.size))
                clear hb13 hb14 hb15 KT1 KT2 KT3
                go_wp2_with fail
                go_roundg (gk - 1)
                case measure => have := HGK.out; omega
                case rel => exact ⟨k + 1, sq2, half2, q2, got, F10, stc, ad2, cap2, by have := HGK.out; omega, by go_num, by omega, rfl, by rw [HGN.out], HJ12.out.below HB15.out, HON2.out, HAC.out, by have := HSQ.out; have := HSQ2.out; omega, HG12.out.step (Below.stp F10 q2 HB15.out)⟩
            · have hz : (g == 12) = false := beq_no2 hg
              try rw [hag] at c1
              have hki : intsAt wc a.kad a.keep := intsAt_touch HRO.out.2.2.2.1 (Touch.ofBelow (fun _ => False) HJ.out.low) (fun _ _ _ hf => hf)
              have KC := Lib.hid (crash_walk p F9 st10 a.keep a.kad a.kcap wc HJ.out.disk (fun i => by have := HPx.out i; omega) hki (keep_of HRO.out HJ.out.hF) HRO.out.2.2.2.2.1 (fun x hx => HRO.out.2.2.2.2.2 x hx))
              obtain ⟨sq2, half2, got, hon2, hgot, hsq2⟩ := HSHx.out st10 a.keep rfl
              obtain ⟨o1, o2, o3, o4⟩ := hon2.opens
              have hac : (crashD st10 a.keep).armed = 0 := rfl
              obtain ⟨stc, hstc⟩ : ∃ stc, stc = crashD st10 a.keep := ⟨_, rfl⟩
              rw [← hstc] at KC hon2 o1 o2 o3 o4 hac
              have HON2 := Lib.hid hon2; have HGOT := Lib.hid hgot; have HSQ2 := Lib.hid hsq2; have HOP := Lib.hid (And.intro o1 (And.intro o2 (And.intro o3 o4))); have HAC := Lib.hid hac
              clear hki hon2 hgot hsq2 o1 o2 o3 o4 hac hstc
              obtain ⟨kn, hkn⟩ : ∃ kn, kn = a.keep.length := ⟨_, rfl⟩
              rw [← hkn] at KC c4
              clear hkn
              go_wp2_with fail
              refine KC.out.mono ?_
              intro e w10 hpost
              have he := hpost.1
              subst he
              obtain ⟨F10, hJ10, hs10⟩ := HJ.out.disk2 hpost
              have HJ10 := Lib.hid hJ10; have HI10 := Lib.hid (HIx.out.step hs10); have HN10 := Lib.hid (HNx.out.step hs10)
              clear hpost hJ10 hs10 KC c1 c4 HJ HAx HIx HNx
              have KO := fun w' (hd : Disk w' p F10 stc) => Lib.hid (open2_good p F10 stc w' hd HOP.out.2.2.2 HOP.out.1 (by rw [HOP.out.2.1]))
              rw [HOP.out.2.1, HOP.out.2.2.1] at KO
              obtain ⟨gn, hgn⟩ : ∃ gn, gn = got.length := ⟨_, rfl⟩
              go_wp2_with fail
              refine (KO w10 HJ10.out.disk).out.mono ?_
              rintro e w11 ⟨q2, ad2, cap2, rfl, hq2, hj2, hst2, hlc2, hcm2, hb11, hfr2⟩
              rw [← hgn]
              have hI2 := isAt_new hst2 hfr2 (fun k hk => HJ10.out.disk.lt k hk)
              have hJ11 := HJ10.out.open hb11 hq2 hj2
              have HJ11 := Lib.hid hJ11; have HG11 := Lib.hid hI2; have HI11 := Lib.hid (strsAt_below HI10.out.strs (Nat.le_refl _) hb11); have HN11 := Lib.hid (strsAt_below HN10.out.strs (Nat.le_refl _) hb11)
              clear hj2 hst2 hlc2 hcm2 hb11 hfr2 hI2 hJ11 hq2 HJ10 HI10 HN10
              go_wp2_with fail
              refine (KO w11 HJ11.out.disk).out.mono ?_
              rintro e w12 ⟨q3, ad3, cap3, rfl, hq3, hj3, hst3, hlc3, hcm3, hb12, hfr3⟩
              rw [← hgn]
              have HJ12 := Lib.hid (HJ11.out.below hb12); have HG12 := Lib.hid (HG11.out.step (Below.stp F10 q2 hb12)); have HI12 := Lib.hid (strsAt_below HI11.out (Nat.le_refl _) hb12); have HN12 := Lib.hid (strsAt_below HN11.out (Nat.le_refl _) hb12); have HM12 := Lib.hid hst3
              clear hj3 hst3 hlc3 hcm3 hb12 hfr3 hq3 HJ11 HG11 HI11 HN11 KO
              have hgl : got.length ≤ 262144 := by have := allR_ge got; have := HON2.out.small.1; omega
              have KT1 := Lib.hid (texts_walk ad2 ad3 cap2 cap3 got got w12 HG12.out.strs HM12.out (by omega))
              rw [decide_eq_true (rfl : got = got), ← hgn] at KT1
              have KT2 := fun w' (hb : Below w12.heap.size w12 w') => Lib.hid (texts_walk ad2 adi cap2 capi got is w' (strsAt_below HG12.out.strs (Nat.le_refl _) hb) (strsAt_below HI12.out (Nat.le_refl _) hb) (by omega))
              have KT3 := fun w' (hb : Below w12.heap.size w12 w') => Lib.hid (texts_walk ad2 adn2 cap2 capn2 got nxt w' (strsAt_below HG12.out.strs (Nat.le_refl _) hb) (strsAt_below HN12.out (Nat.le_refl _) hb) (by omega))
              simp only [← hgn, ← HISN.out] at KT2
              simp only [← hgn, ← HNXN.out] at KT3
              have HGN := Lib.hid hgn
              clear hgn hgl
              by_cases hgi : got = is
              · have hd1 : decide (got = is) = true := decide_eq_true hgi
                rw [hd1] at KT2
                clear KT3 hd1 hgi
                go_wp2_with fail
                refine KT1.out.mono ?_
                rintro e w13 ⟨rfl, hb13⟩
                have HB13 := Lib.hid hb13
                go_wp2_with fail
                refine (KT2 w13 HB13.out).out.mono ?_
                rintro e w14 ⟨rfl, hb14⟩
                have HB14 := Lib.hid (HB13.out.trans (hb14.mono HB13.out.size))
                clear hb13 hb14 KT1 KT2
                go_wp2_with fail
                go_roundg (gk - 1)
                case measure => have := HGK.out; omega
                case rel => exact ⟨k + 1, sq2, half2, q2, got, F10, stc, ad2, cap2, by have := HGK.out; omega, by go_num, by omega, rfl, by rw [HGN.out], HJ12.out.below HB14.out, HON2.out, HAC.out, by have := HSQ.out; have := HSQ2.out; omega, HG12.out.step (Below.stp F10 q2 HB14.out)⟩
              · have hd1 : decide (got = is) = false := decide_eq_false hgi
                have hd2 : decide (got = nxt) = true := decide_eq_true (HGOT.out.resolve_left hgi)
                rw [hd1] at KT2
                rw [hd2] at KT3
                clear hd1 hd2 hgi
                go_wp2_with fail
                refine KT1.out.mono ?_
                rintro e w13 ⟨rfl, hb13⟩
                have HB13 := Lib.hid hb13
                go_wp2_with fail
                refine (KT2 w13 HB13.out).out.mono ?_
                rintro e w14 ⟨rfl, hb14⟩
                have HB14 := Lib.hid (HB13.out.trans (hb14.mono HB13.out.size))
                go_wp2_with fail
                refine (KT3 w14 HB14.out).out.mono ?_
                rintro e w15 ⟨rfl, hb15⟩
                have HB15 := Lib.hid (HB14.out.trans (hb15.mono HB14.out.size))
                clear hb13 hb14 hb15 KT1 KT2 KT3
                go_wp2_with fail
                go_roundg (gk - 1)
                case measure => have := HGK.out; omega
                case rel => exact ⟨k + 1, sq2, half2, q2, got, F10, stc, ad2, cap2, by have := HGK.out; omega, by go_num, by omega, rfl, by rw [HGN.out], HJ12.out.below HB15.out, HON2.out, HAC.out, by have := HSQ.out; have := HSQ2.out; omega, HG12.out.step (Below.stp F10 q2 HB15.out)⟩
    · have hnot : ¬ ((k : Int) < (l.length : Int)) ∨ ((k : Int) < (l.length : Int) ∧ ¬ (k : Int) < 30) := by omega
      clear hmore
      obtain ⟨rn, hrn⟩ : ∃ rn, rn = rs.length := ⟨_, rfl⟩
      rw [← hrn]
      rcases hnot with hlt | ⟨hlt, hlt2⟩
      · have HBX := Lib.hid HJL.out.low
        go_wp2_with fail
        go_ret
        exact ⟨rfl, HBX.out⟩
      · have HBX := Lib.hid HJL.out.low
        go_wp2_with fail
        go_ret
        exact ⟨rfl, HBX.out⟩
end Go.Proofs.Ytagdaeapjofajaa
