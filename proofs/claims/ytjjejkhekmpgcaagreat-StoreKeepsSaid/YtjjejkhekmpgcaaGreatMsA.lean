/-
  Layer 1: the end; nil.
  Layer 5: light records; the reference's Head; texts of texts.
  Layer 5: acts; what is kept (plain).
  Layer 5: Open, where the records that are told are new ones.
-/
import Derived.Test.YtjjejkhekmpgcaaGreatMgC
import Derived.Test.YtjjejkhekmpgcaaGreatMgM
import Derived.Test.YtjjejkhekmpgcaaGreatMgE
import Derived.Test.YtjjejkhekmpgcaaGreatMgH
import Derived.Test.YtjjejkhekmpgcaaGreatMgJ
namespace Go.Proofs.YtjjejkhekmpgcaaGreat
set_option maxRecDepth 4000
open Go.RowKit

theorem num_nil (w : World) : Calls Tryz.prog 67 #[.pointer none] w fun r w' => r = .returned (.int .i64 0) ∧ w' = w := by
  go_enter Tryz.func67, Tryz.ntmps67
  go_wp2_with fail
  go_loopg [9] 9 (fun gk i wr => i = .int .i64 0 ∧ wr = w)
  case atStart => exact ⟨rfl, rfl⟩
  case round =>
    obtain ⟨rfl, rfl⟩ := hrel
    go_wp2_with fail
    refine (take_nil 1 _).mono ?_
    rintro r w2 ⟨rfl, rfl⟩
    go_wp2_with fail
    go_ret
    exact ⟨rfl, rfl⟩
theorem txt_nil (w : World) : Calls Tryz.prog 66 #[.pointer none] w fun r w' => r = .returned (.string ⟨#[]⟩) ∧ w' = w := by
  go_enter Tryz.func66, Tryz.ntmps66
  go_wp2_with fail
  refine (num_nil _).mono ?_
  rintro r w1 ⟨rfl, rfl⟩
  go_wp2_with fail
  refine (take_nil 0 _).mono ?_
  rintro r w2 ⟨rfl, rfl⟩
  go_wp2_with fail
  go_ret
  exact ⟨rfl, rfl⟩
/-- what End answers -/
def endR (s : ByteArray) (e : Int) : Int := if e ≠ 0 then e else if 0 < s.size then 6 else 0
theorem end_walk (p : Nat) (s : ByteArray) (e : Int) (w : World) (h : InAt w p s e) :
    Calls Tryz.prog 68 #[.pointer (some ⟨p, 0, none⟩)] w fun r w' => r = .returned (.int .i64 (endR s e)) ∧ w' = w := by
  have H := Lib.hid h
  clear h
  go_enter Tryz.func68, Tryz.ntmps68
  go_wp2_with fail
  refine (err_walk p s e _ H.out).mono ?_
  rintro r w1 ⟨rfl, rfl⟩
  by_cases he : e = 0
  · subst he
    go_wp2_with fail
    refine (left_walk p s 0 _ H.out).mono ?_
    rintro r w2 ⟨rfl, rfl⟩
    have hl : leftN s 0 = s.size := by unfold leftN; rw [if_pos rfl]
    rw [hl]
    by_cases hs : 0 < s.size
    · have hr : endR s 0 = 6 := by unfold endR; rw [if_neg (by simp), if_pos hs]
      have HR := Lib.hid hr
      clear hr hl
      go_wp2_with fail
      go_ret
      exact ⟨ret_int HR.out.symm, rfl⟩
    · have hr : endR s 0 = 0 := by unfold endR; rw [if_neg (by simp), if_neg hs]
      have HR := Lib.hid hr
      have hs0 : s.size = 0 := by omega
      clear hr hl hs
      go_wp2_with fail
      go_ret
      exact ⟨ret_int HR.out.symm, rfl⟩
  · have hr : endR s e = e := by unfold endR; rw [if_pos he]
    have HR := Lib.hid hr
    clear hr
    go_wp2_with fail
    go_ret
    exact ⟨ret_int HR.out.symm, rfl⟩
theorem end_nil (w : World) : Calls Tryz.prog 68 #[.pointer none] w fun r w' => r = .returned (.int .i64 1) ∧ w' = w := by
  go_enter Tryz.func68, Tryz.ntmps68
  go_wp2_with fail
  refine (err_nil _).mono ?_
  rintro r w1 ⟨rfl, rfl⟩
  go_wp2_with fail
  go_ret
  exact ⟨rfl, rfl⟩
end Go.Proofs.YtjjejkhekmpgcaaGreat

namespace Go.Proofs.YtjjejkhekmpgcaaGreat
set_option maxRecDepth 4000
open Go.RowKit

/-- records that are not far too long -/
def lightJ (l : List ByteArray) : Bool := l.all (fun s => decide (s.size ≤ 200)) && decide (l.length ≤ 12)
theorem lightJ_size {l : List ByteArray} (h : lightJ l = true) : (∀ s ∈ l, s.size ≤ 200) ∧ l.length ≤ 12 ∧ (allR l).length ≤ 2556 := by
  unfold lightJ at h
  rw [Bool.and_eq_true] at h
  have h1 : ∀ s ∈ l, s.size ≤ 200 := fun s hs => by
    have := List.all_eq_true.1 h.1 s hs
    simpa using this
  have h2 : l.length ≤ 12 := by simpa using h.2
  refine ⟨h1, h2, ?_⟩
  have := allR_bound l 200 h1 (by omega)
  have h3 : l.length * (200 + 13) ≤ 12 * 213 := Nat.mul_le_mul_right _ h2
  omega
/-- texts of texts in memory -/
structure TRow where
  ad : Option Addr
  cap : Nat
  l : List ByteArray
def rowsAt (w : World) (ad : Option Addr) (ls : List TRow) : Prop :=
  ls = [] ∨ ∃ b off, ad = some ⟨b, off, none⟩ ∧ b < w.heap.size ∧ ∀ i (h : i < ls.length), w.cell? ⟨b, off + i, none⟩ = some (.slice ls[i].ad ls[i].l.length ls[i].cap)
def rowOk (w : World) (r : TRow) : Prop := strsAt w r.ad r.l ∧ r.l.length ≤ 9223372036854775807
end Go.Proofs.YtjjejkhekmpgcaaGreat

namespace Go.Proofs.YtjjejkhekmpgcaaGreat
set_option maxRecDepth 4000
open Go.RowKit

structure JAct where
  rw : Bool
  again : Bool
  lad : Option Addr
  lcap : Nat
  l : List ByteArray
  arm : Int
  kad : Option Addr
  kcap : Nat
  keep : List Int
def jactv (a : JAct) : List Value := [.bool a.rw, .bool a.again, .slice a.lad a.l.length a.lcap, .int .i64 a.arm, .slice a.kad a.keep.length a.kcap]
def jactsAt (w : World) (ad : Option Addr) (l : List JAct) : Prop :=
  l = [] ∨ ∃ b off, ad = some ⟨b, off, none⟩ ∧ b < w.heap.size ∧ ∀ i (h : i < l.length), ∀ (j : Nat) (u : Value), (jactv l[i])[j]? = some u → w.cell? ⟨b, off + i * 5 + j, none⟩ = some u
def wide5 (x : Int) : Prop := -9223372036854775808 ≤ x ∧ x ≤ 9223372036854775807
def jactOk (w : World) (a : JAct) : Prop := strsAt w a.lad a.l ∧ a.l.length ≤ 9223372036854775807 ∧ wide5 a.arm ∧ intsAt w a.kad a.keep ∧ a.keep.length ≤ 9223372036854775807 ∧ ∀ x ∈ a.keep, wide5 x
/-- texts that lie neither on the disk nor in the journal -/
def IsAt (w : World) (ad : Option Addr) (l : List ByteArray) (F : Nat → Prop) (q : Nat) : Prop :=
  l = [] ∨ ∃ b off, ad = some ⟨b, off, none⟩ ∧ b < w.heap.size ∧ ¬ F b ∧ b ≠ q ∧ ∀ i (h : i < l.length), w.cell? ⟨b, off + i, none⟩ = some (.string l[i])
theorem IsAt.strs {w : World} {ad : Option Addr} {l : List ByteArray} {F : Nat → Prop} {q : Nat} (h : IsAt w ad l F q) : strsAt w ad l := by
  rcases h with h | ⟨b, off, h1, h2, _, _, h3⟩
  · exact .inl h
  · exact .inr ⟨b, off, h1, h2, h3⟩
theorem IsAt.step {w w' : World} {ad : Option Addr} {l : List ByteArray} {F F' : Nat → Prop} {q : Nat} (h : IsAt w ad l F q) (hs : Stp (fun k => F k ∨ k = q) w (fun k => F' k ∨ k = q) w') : IsAt w' ad l F' q := by
  rcases h with h | ⟨b, off, h1, h2, h3, h4, h5⟩
  · exact .inl h
  · refine .inr ⟨b, off, h1, Nat.lt_of_lt_of_le h2 hs.touch.size, fun hf => ?_, h4, fun i hi => ?_⟩
    · rcases hs.new b (.inl hf) with h | h
      · exact h.elim h3 h4
      · omega
    · rw [hs.touch.cellOf (a := ⟨b, off + i, none⟩) h2 (fun h => h.elim h3 h4)]
      exact h5 i hi
theorem IsAt.newq {w : World} {ad : Option Addr} {l : List ByteArray} {F : Nat → Prop} {q q' : Nat} (h : IsAt w ad l F q) (hq : w.heap.size ≤ q') : IsAt w ad l F q' := by
  rcases h with h | ⟨b, off, h1, h2, h3, h4, h5⟩
  · exact .inl h
  · exact .inr ⟨b, off, h1, h2, h3, by omega, h5⟩
theorem isAt_old {w wr : World} {ad : Option Addr} {l : List ByteArray} {p q : Nat} {F : Nat → Prop} {st : Dk} {j : Jn} (h : strsAt w ad l) (hj : JLaw w wr p F q st j) : IsAt wr ad l F q := by
  rcases h with h | ⟨b, off, h1, h2, h3⟩
  · exact .inl h
  · refine .inr ⟨b, off, h1, Nat.lt_of_lt_of_le h2 hj.low.size, fun hf => by have := hj.hF b hf; omega, fun e => by have := hj.hq; omega, fun i hi => ?_⟩
    rw [hj.low.cell (p := ⟨b, off + i, none⟩) (by simpa using h2)]
    exact h3 i hi

theorem OnDisk.congr {st st' : Dk} {n seq half : Nat} {l : List ByteArray} (h : OnDisk st n seq half l) (hS : st'.S = st.S) (hd : st'.down = st.down) : OnDisk st' n seq half l := by
  obtain ⟨S, c, ar, d⟩ := st
  obtain ⟨S', c', ar', d'⟩ := st'
  have hS : S' = S := hS
  have hd : d' = d := hd
  subst hS; subst hd
  exact ⟨⟨h.calm.len, h.calm.ok, h.calm.up, h.calm.one⟩, h.four, h.hf, h.fit, h.sq, h.head, h.other, h.bytes⟩
theorem allR_ge : ∀ l : List ByteArray, l.length ≤ (allR l).length
  | [] => Nat.le_refl _
  | s :: l => by
    rw [allR_cons, List.length_append, oneR_length, List.length_cons]
    have := allR_ge l
    omega
/-- behind a crash of a calm disk all is as it was -/
theorem OnDisk.crash {st : Dk} {n seq half : Nat} {l : List ByteArray} (h : OnDisk st n seq half l) (sx : Dk) (keep : List Int) (hS : sx.S = st.S) : OnDisk (crashD sx keep) n seq half l := by
  have hlen : sx.S.length = n := by rw [hS]; exact h.calm.len
  have hok : secOk sx.S := by rw [hS]; exact h.calm.ok
  obtain ⟨hc, _, hm⟩ := calm_crash sx keep n hlen hok
  have hsame : ∀ i, i < n → lastS (crashD sx keep).S i = lastS st.S i := fun i hi => by
    have := hm i hi
    rw [hS, h.calm.one i hi] at this
    exact List.mem_singleton.1 this
  have hb : (halfB (crashD sx keep) half).take (allR l).length = allR l := by
    have h4 := half_in n half (sizeN n) h.four h.hf (Nat.le_refl _)
    have : halfB (crashD sx keep) half = halfB st half := by
      unfold halfB
      rw [hc.len, h.calm.len]
      exact secsB_congr _ _ (fun i hi => hsame _ (by omega))
    rw [this, h.bytes]
  exact h.keep hc 2 0 [] (Nat.le_refl _) (fun i hi => .inl (hsame i hi)) hb

/-- what a call leaves: all, nothing, or a disk that went down -/
def Kind (n sq half : Nat) (rs next : List ByteArray) (g : Int) (st : Dk) (j : Jn) : Prop :=
  (g = 0 ∧ ∃ sq' half', OnDisk st n sq' half' next ∧ j = jOf sq' half' next ∧ sq' ≤ sq + 1) ∨ (g = 10 ∧ OnDisk st n sq half rs ∧ j = jOf sq half rs) ∨
    (g = 12 ∧ j.broken = true ∧ (∀ sx, JnOk sx j) ∧ st.S.length = n ∧ secOk st.S ∧ ∀ (sx : Dk) (keep : List Int), sx.S = st.S → ∃ sq2 half2 got, OnDisk (crashD sx keep) n sq2 half2 got ∧ (got = rs ∨ got = next) ∧ sq2 ≤ sq + 1)
theorem kind_of {st : Dk} {n seq half half' : Nat} {l l' : List ByteArray} {r : Int × Dk} {j' : Jn} (h : CallRes st n seq half half' l l' r j') : Kind n seq half l l' r.1 r.2 j' := by
  rcases h with ⟨h1, h2, h3, _⟩ | ⟨h1, _, h3, h4, h5, h6⟩
  · exact .inl ⟨h1, seq + 1, half', h2, h3, Nat.le_refl _⟩
  · refine .inr (.inr ⟨h1, h5.1, h5.2, h3, h4, fun sx keep e => ?_⟩)
    rcases h6 sx keep e with h | h
    · exact ⟨seq, half, l, h, .inl rfl, by omega⟩
    · exact ⟨seq + 1, half', l', h, .inr rfl, Nat.le_refl _⟩
theorem rewrite_kind {st : Dk} {n seq half : Nat} {l : List ByteArray} (h : OnDisk st n seq half l) (L : List ByteArray) (hL : (allR L).length ≤ 65536) (hsq : seq < 9223372036854775807) :
    Kind n seq half l L (rewriteD st (jOf seq half l) L).1 (rewriteD st (jOf seq half l) L).2 (rewriteJ st (jOf seq half l) L) := by
  rcases rewrite_safe h L hL hsq with ⟨_, h2, h3⟩ | ⟨_, h2⟩
  · rw [h2, h3]
    exact .inr (.inl ⟨rfl, h, rfl⟩)
  · exact kind_of h2
theorem append_kind {st : Dk} {n seq half : Nat} {l : List ByteArray} (h : OnDisk st n seq half l) (L : List ByteArray) (hL : (allR L).length ≤ 65536) (hsq : seq < 9223372036854775807) :
    Kind n seq half l (l ++ L) (appendD st (jOf seq half l) L).1 (appendD st (jOf seq half l) L).2 (appendJ st (jOf seq half l) L) := by
  rcases append_safe h L hL hsq with ⟨_, h2, h3⟩ | ⟨h1, h2, h3⟩ | ⟨_, _, h2⟩
  · rw [h2, h3]
    exact .inr (.inl ⟨rfl, h, rfl⟩)
  · rw [h2, h3, h1, List.append_nil]
    exact .inl ⟨rfl, seq, half, h, rfl, by omega⟩
  · exact kind_of h2
theorem flush_ok {st : Dk} (ok : secOk st.S) : secOk (flushD st).2.S := by
  unfold flushD
  split
  · exact ok
  · split
    · exact ok
    · exact settleN_ok (fun i L h h64 => last_len1 i L h h64) ok _ (dirt_lt _) _ (Nat.le_refl _)
theorem flushJ_ok {r : Int × Dk} (ok : secOk r.2.S) : secOk (flushJ r).2.S := by
  unfold flushJ
  split
  · exact ok
  · exact flush_ok ok
theorem setD_pend {st : Dk} {M : Nat} (hp : pendMax st.S M) (ok : secOk st.S) (j : Jn) (half from' : Nat) (s : ByteArray) : pendMax (setD st j half from' s).2.S (M + s.size + 1) := by
  obtain ⟨h1, h2⟩ := wrD_pend (s.size + 1) st (2 + half * sizeN st.S.length + from' / 64) s M hp ok (by omega)
  have h3 := flushJ_pend _ h1
  have h4 := flushJ_ok h2
  unfold setD
  split
  · exact pendMax_le h3 (by omega)
  · exact flushJ_pend _ (pendMax_write h3 h4 _ _)
theorem rewriteD_pend {st : Dk} {M : Nat} (hp : pendMax st.S M) (ok : secOk st.S) (j : Jn) (l : List ByteArray) : pendMax (rewriteD st j l).2.S (M + 65537) := by
  unfold rewriteD
  split
  · exact pendMax_le hp (by omega)
  · have := laidR_size j (roomR st.S.length j + (j.used : Int)) l
    exact pendMax_le (setD_pend hp ok _ _ _ _) (by omega)
theorem appendD_pend {st : Dk} {M : Nat} (hp : pendMax st.S M) (ok : secOk st.S) (j : Jn) (ht : j.tail.size ≤ 64) (l : List ByteArray) : pendMax (appendD st j l).2.S (M + 65700) := by
  unfold appendD
  split
  · exact pendMax_le hp (by omega)
  · have := laidR_size j (roomR st.S.length j) l
    exact pendMax_le (setD_pend hp ok _ _ _ _) (by rw [ByteArray.size_append]; omega)
theorem jOf_tail (seq half : Nat) (l : List ByteArray) : (jOf seq half l).tail.size ≤ 64 := by
  show (txt _).size ≤ 64
  rw [txt_size, List.length_drop]
  omega
/-- a journal that is broken -/
theorem append_broken (st : Dk) (j : Jn) (l : List ByteArray) (hb : j.broken = true) : appendD st j l = (16, st) ∧ appendJ st j l = j := by
  have hl : ∀ room, laidR j room l = (⟨#[]⟩, 16) := fun room => by unfold laidR; rw [if_pos hb]
  refine ⟨?_, ?_⟩
  · unfold appendD; rw [hl, if_pos (.inl (by simp))]
  · unfold appendJ; rw [hl, if_pos (.inl (by simp))]
theorem arm_wide (st : Dk) (n : Int) : (armD st n).S = st.S ∧ (armD st n).down = st.down := ⟨rfl, rfl⟩
theorem JLaw.arm {w wr : World} {p q : Nat} {F : Nat → Prop} {st st' : Dk} {j : Jn} {w' : World} (h : JLaw w wr p F q st j) (hd : Disk w' p F st') (ht : Touch (fun k => k = p) wr w') :
    JLaw w w' p F q st' j ∧ Stp (fun k => F k ∨ k = q) wr (fun k => F k ∨ k = q) w' := by
  have hs : Stp F wr F w' := touch_p h.disk hd ht
  obtain ⟨h5, h6⟩ := hs.below h.low h.low.size h.hF
  exact ⟨⟨h5, hd, h6, h.jn.touch hs.touch h.nq, h.nq, h.hq⟩, hs.more q⟩
theorem JLaw.post2 {w wr : World} {p q : Nat} {F : Nat → Prop} {st : Dk} {j : Jn} {r : Int × Dk} {j' : Jn} {e : Ending} {w' : World} (h : JLaw w wr p F q st j) (hp : SetPost wr q p F r j' e w') :
    ∃ F', JLaw w w' p F' q r.2 j' ∧ Stp (fun k => F k ∨ k = q) wr (fun k => F' k ∨ k = q) w' := by
  obtain ⟨_, F', h1, h2, h3, h4⟩ := hp
  obtain ⟨h5, h6⟩ := h4.below h.low h.low.size (fun k hk => hk.elim (h.hF k) (fun e => by rw [e]; exact h.hq))
  exact ⟨F', ⟨h5, h1, fun k hk => h6 k (.inl hk), h2, h3, h.hq⟩, h4⟩
theorem JLaw.disk2 {w wr : World} {p q : Nat} {F : Nat → Prop} {st : Dk} {j : Jn} {v : Value} {st' : Dk} {e : Ending} {w' : World} (h : JLaw w wr p F q st j) (hp : DiskPost p F wr v st' e w') :
    ∃ F', JLaw w w' p F' q st' j ∧ Stp (fun k => F k ∨ k = q) wr (fun k => F' k ∨ k = q) w' := by
  obtain ⟨_, F', h1, h4⟩ := hp
  obtain ⟨h5, h6⟩ := h4.below h.low h.low.size h.hF
  exact ⟨F', ⟨h5, h1, h6, h.jn.touch h4.touch h.nq, fun hf => (h4.new q hf).elim h.nq (fun hk => by have := lt_of_block h.jn; omega), h.hq⟩, h4.more q⟩
theorem src_texts {w : World} {ad : Option Addr} {l : List ByteArray} (h : strsAt w ad l) (cap : Nat) : Src Tryz.prog 1 46 (.slice ad l.length cap) l.length (l.map Value.string) w := by
  rcases h with rfl | ⟨b, off, rfl, h2, h3⟩
  · cases ad with
    | none => exact Src.ofNil w Tryz.underlying46 cap
    | some a => exact Src.ofSlice w Tryz.underlying46 a 0 cap [] rfl (fun j u hj => by simp at hj) (fun u hu => by cases hu)
  · refine Src.ofSlice w Tryz.underlying46 ⟨b, off, none⟩ l.length cap _ (by simp) (fun j u hj => ?_) (strs_one l)
    have e : (⟨b, off, none⟩ : Addr).add j = ⟨b, off + j, none⟩ := by unfold Addr.add; split <;> simp_all
    rw [e]
    rw [List.getElem?_map] at hj
    cases hl : l[j]? with
    | none => rw [hl] at hj; cases hj
    | some a =>
      rw [hl] at hj
      obtain ⟨hj2, rfl⟩ := List.getElem?_eq_some_iff.1 hl
      cases hj
      exact h3 j hj2
end Go.Proofs.YtjjejkhekmpgcaaGreat

namespace Go.Proofs.YtjjejkhekmpgcaaGreat
set_option maxRecDepth 4000
open Go.RowKit

def ReadPost2 (w : World) (R : List ByteArray × Int) (r : Ending) (w' : World) : Prop :=
  ∃ ad cap, r = .returned (.tuple #[.slice ad R.1.length cap, .int .i64 R.2]) ∧ strsAt w' ad R.1 ∧ R.1.length ≤ cap ∧ cap ≤ 9223372036854775807 ∧ Below w.heap.size w w' ∧ ∀ a, ad = some a → w.heap.size ≤ a.block ∧ a.block < w'.heap.size
theorem row_fresh {w : World} {base : Nat} {v : Value} {l : List ByteArray} (h : Row w base v l) : ∀ k, v.ownBlock = some k → base ≤ k ∧ k < w.heap.size := fun k e => World.ownsRow.lt h k e
set_option maxHeartbeats 2000000 in
theorem fread2_walk (s : ByteArray) (w : World) (hs : s.size ≤ 1000000) :
    Calls Tryz.prog 54 #[.string s] w fun r w' => ReadPost2 w (readR s) r w' := by
  obtain ⟨R, hR⟩ : ∃ R, R = readR s := ⟨_, rfl⟩
  rw [← hR]
  have HR := Lib.hid hR; have HS := Lib.hid hs
  clear hR hs
  go_enter Tryz.func54, Tryz.ntmps54
  go_wp2_with fail
  go_loopg [0, 4] s.size (fun gk vs vo wr => ∃ (s' : ByteArray) (acc : List ByteArray), vs = .string s' ∧ Row wr w.heap.size vo acc ∧ rdAll (gk + 1) s' acc = R ∧ s'.size ≤ gk ∧ acc.length + s'.size ≤ s.size ∧ Below w.heap.size w wr)
  case atStart => exact ⟨s, [], rfl, Row.nil _ _, by rw [HR.out]; rfl, Nat.le_refl _, by simp, Below.refl _ _⟩
  case round =>
    obtain ⟨s', acc, rfl, hrow, hrd, hgk, hac, hb⟩ := hrel
    have hs1 : s'.size ≤ 1000000 := by have := HS.out; omega
    have hac1 : acc.length ≤ 1000000 := by have := HS.out; omega
    unfold rdAll at hrd
    by_cases h0 : s'.size = 0
    · obtain rfl := empty_of s' h0
      rw [if_pos h0] at hrd
      have hfr := row_fresh hrow
      obtain ⟨ad, cap, rfl, hst, hc1, hc2⟩ := hrow.open
      have HRD := Lib.hid hrd; have HST := Lib.hid hst; have HB := Lib.hid hb; have HFR := Lib.hid (show ∀ a, ad = some a → w.heap.size ≤ a.block ∧ a.block < wr.heap.size from fun a e => hfr a.block (by rw [e]; rfl))
      clear hrd hst hb hrow h0 hs1 hfr
      go_wp2_with fail
      go_ret2
      rw [← HRD.out]
      exact ⟨ad, cap, rfl, HST.out, hc1, hc2, HB.out, HFR.out⟩
    · rw [if_neg h0] at hrd
      have hcw := ffirst_walk s' wr (by omega)
      have hfn := firstR_n s'
      obtain ⟨t, n, e, hf⟩ : ∃ t n e, firstR s' = (t, n, e) := ⟨_, _, _, rfl⟩
      rw [hf] at hrd hcw hfn
      have hrd : (if e ≠ 0 then ([], e) else rdAll gk (s'.extract n s'.size) (acc ++ [t])) = R := hrd
      have hfn : e = 0 → 4 ≤ n ∧ n ≤ s'.size ∧ t.size ≤ s'.size := hfn
      have h01 : (0 : Int) < (s'.size : Int) := by omega
      have h02 : s'.toList.isEmpty = false := by
        rw [ByteArray.toList_eq]
        cases hl : s'.data.toList with
        | nil => exact absurd (by rw [show s'.size = s'.data.toList.length by simp, hl]; rfl) h0
        | cons a r => rfl
      have HROW := Lib.hid hrow; have HRD := Lib.hid hrd; have HB := Lib.hid hb; have HCW := Lib.hid hcw; have HFN := Lib.hid hfn; have HS1 := Lib.hid hs1; have HAC := Lib.hid hac; have HAC1 := Lib.hid hac1
      clear hrow hrd hb hcw hfn hf h0 hs1 hac hac1
      go_wp2_with fail
      refine HCW.out.mono ?_
      rintro r w1 ⟨rfl, hb1⟩
      have HB1 := Lib.hid (HB.out.trans (hb1.mono HB.out.size))
      have HR1 := Lib.hid (HROW.out.keep hb1 (Nat.le_refl _))
      clear hb1 HB HROW HCW
      by_cases he : e = 0
      · obtain ⟨hn4, hns, _⟩ := HFN.out he
        subst he
        have hsz : (s'.extract n s'.size).size = s'.size - n := by rw [ByteArray.size_extract]; omega
        have hn4i : (4 : Int) ≤ (n : Int) := by omega
        have HSZ := Lib.hid hsz; have HN4 := Lib.hid hn4; have HNS := Lib.hid hns
        have HB2 := Lib.hid HB1.out.size
        clear hsz hn4 hn4i HFN
        go_wp2_with (at_builtin; refine wpList_append_row rfl _ _ rfl w.heap.size _ acc rfl (World.ownsRow.alloc HR1.out _) _ [t] rfl (src_new t _) ?_ ?_ ?_)
        · have := HAC1.out; simp; omega
        · have := HB2.out; simp; omega
        intro v3 w3 hr3 hg3 hp3
        have hrow1 : Row (w1.alloc (.cells #[.string t] 9)) w.heap.size u4 acc := World.ownsRow.alloc HR1.out _
        have hb3 := below_of_grown (HB1.out.alloc HB1.out.size (.cells #[.string t] 9)) hg3 (by have := HB2.out; simp; omega) (fun j hj => (hrow1.lt j hj).1)
        have M1 := Lib.hid hr3; have M2 := Lib.hid hb3
        clear hr3 hg3 hp3 hrow1 hb3
        go_wp2_with fail
        go_roundg (gk - 1)
        case measure => have h1 := HSZ.out; have h2 := HN4.out; have h3 := HNS.out; omega
        case rel =>
          have h1 := HSZ.out; have h2 := HN4.out; have h3 := HNS.out; have h4 := HAC.out
          refine ⟨s'.extract n s'.size, acc ++ [t], rfl, M1.out, ?_, by omega, by rw [List.length_append, h1, List.length_singleton]; omega, M2.out⟩
          rw [← HRD.out, if_neg (by simp), show gk - 1 + 1 = gk by omega]
      · have hR : R = ([], e) := by rw [← HRD.out, if_pos he]
        subst hR
        clear HRD
        go_wp2_with fail
        go_ret2
        exact ⟨none, 0, rfl, .inl rfl, Nat.le_refl _, by omega, HB1.out, fun a e => by cases e⟩
def OpenGood2 (p : Nat) (w : World) (j : Jn) (l : List ByteArray) (e : Ending) (w' : World) : Prop :=
  ∃ q ad cap, e = .returned (.tuple #[.pointer (some ⟨q, 0, none⟩), .slice ad l.length cap, .int .i64 0]) ∧ w.heap.size ≤ q ∧ JnAt w' q p j ∧ strsAt w' ad l ∧ l.length ≤ cap ∧ cap ≤ 9223372036854775807 ∧ Below w.heap.size w w' ∧ ∀ a, ad = some a → w.heap.size ≤ a.block ∧ a.block < q
set_option maxHeartbeats 4000000 in
theorem open2_good (p : Nat) (F : Nat → Prop) (st : Dk) (w : World) (h : Disk w p F st) (h4 : 4 ≤ st.S.length) (hz : (holdsR st).2 = 0) (hf : (readR (recB st)).2 = 0) :
    Calls Tryz.prog 20 #[.pointer (some ⟨p, 0, none⟩)] w fun e w' => OpenGood2 p w (openJ st) (readR (recB st)).1 e w' := by
  have KM := Lib.hid (may_walk p F st w h)
  rw [show mayE st.S.length = 0 by unfold mayE; rw [if_neg (by omega)]] at KM
  have KH := Lib.hid (holds_walk p F st w h (by omega))
  obtain ⟨hdn, h9, hh1, hu⟩ := holdsR_ok st hz
  obtain ⟨hsz, hu2⟩ := recB_size st h.ok h4 hz
  have KB := fun w' (hd : Disk w' p F st) => Lib.hid (bytes_walk p F st (holdsR st).1.2.1 (holdsR st).1.2.2 w' hd h4 hdn hh1 hu)
  have hrb : txt ((halfB st (holdsR st).1.2.1).take (holdsR st).1.2.2) = recB st := rfl
  simp only [hrb] at KB
  have KF := fun w' => Lib.hid (fread2_walk (recB st) w' (by rw [hsz]; omega))
  have hoj : openJ st = ⟨(holdsR st).1.1, (holdsR st).1.2.1, (holdsR st).1.2.2, (recB st).extract ((holdsR st).1.2.2 - (holdsR st).1.2.2 % 64) (recB st).size, false⟩ := rfl
  obtain ⟨j, hj⟩ : ∃ j, j = openJ st := ⟨_, rfl⟩
  rw [← hj] at hoj
  try rw [← hj]
  obtain ⟨s, hs⟩ : ∃ s, s = recB st := ⟨_, rfl⟩
  rw [← hs] at hsz KF hf hoj
  simp only [← hs] at KB
  try rw [← hs]
  obtain ⟨⟨l, e⟩, hle⟩ : ∃ r, r = readR s := ⟨_, rfl⟩
  rw [← hle] at KF hf
  try rw [← hle]
  replace hf : e = 0 := hf
  obtain ⟨⟨⟨a, b, c⟩, e0⟩, hr⟩ : ∃ r, r = holdsR st := ⟨_, rfl⟩
  rw [← hr] at KH hz KB hsz hu2 hoj
  obtain rfl : e0 = 0 := hz
  replace hsz : s.size = c := hsz
  replace hu2 : c ≤ 262144 := hu2
  have HJ := Lib.hid (show j = ⟨a, b, c, s.extract (c - c % 64) s.size, false⟩ from hoj)
  have HH := Lib.hid h; have HS := Lib.hid hsz; have HU := Lib.hid hu2
  clear h h4 hdn h9 hh1 hu hsz hu2 hrb hoj hj hs hle hr
  go_enter Tryz.func20, Tryz.ntmps20
  go_wp2_with fail
  refine KM.out.mono ?_
  rintro r w1 ⟨rfl, rfl⟩
  go_wp2_with fail
  refine KH.out.mono ?_
  rintro r w2 ⟨rfl, hb2⟩
  unfold hdv
  have hb3 := hb2.alloc hb2.size (.cells #[.int .i64 a, .int .i64 b, .int .i64 c] 92)
  have gv := heap_alloc_top w2 (.cells #[.int .i64 a, .int .i64 b, .int .i64 c] 92)
  go_upto_region 7 with fail
  obtain ⟨v, hv⟩ : ∃ v, v = w2.heap.size := ⟨_, rfl⟩
  rw [← hv] at gv ⊢
  generalize w2.alloc (.cells #[.int .i64 a, .int .i64 b, .int .i64 c] 92) = w3 at hb3 gv ⊢
  have c1 := cell_at (j := 1) (v := .int .i64 b) gv rfl
  have c2 := cell_at (j := 2) (v := .int .i64 c) gv rfl
  have HB3 := Lib.hid hb3; have GV := Lib.hid gv; have HD3 := Lib.hid (HH.out.below hb3)
  clear hb2 hb3 gv hv KM KH
  go_wp2_with fail
  refine (KB w3 HD3.out).out.mono ?_
  rintro r w4 ⟨rfl, hb4⟩
  have HB4 := Lib.hid (HB3.out.trans (hb4.mono HB3.out.size))
  have GV4 := Lib.hid ((hb4.block v (lt_of_block GV.out)).trans GV.out)
  clear hb4 c1 c2 KB GV HB3 HD3
  go_wp2_with fail
  refine (KF w4).out.mono ?_
  rintro r w5 ⟨ad, cap, rfl, hst, hlc, hcm, hb5, hfr⟩
  have HFR := Lib.hid (show ∀ a, ad = some a → w1.heap.size ≤ a.block ∧ a.block < w5.heap.size from fun a e => ⟨Nat.le_trans HB4.out.size (hfr a e).1, (hfr a e).2⟩)
  clear hfr
  have HB5 := Lib.hid (HB4.out.trans (hb5.mono HB4.out.size))
  have GV5 := Lib.hid ((hb5.block v (lt_of_block GV4.out)).trans GV4.out)
  have HST := Lib.hid hst; have HLC := Lib.hid (And.intro hlc hcm)
  clear hb5 HB4 GV4 KF hst hlc hcm
  subst hf
  try simp only []
  obtain ⟨C, hC⟩ : ∃ C : World → Prop, C = fun w9 => w9.heap[v]? = some (.cells #[.int .i64 a, .int .i64 b, .int .i64 c] 92 (0, 0)) := ⟨_, rfl⟩
  have HCI := Lib.hid (show ∀ w9, C w9 → w9.heap[v]? = some (.cells #[.int .i64 a, .int .i64 b, .int .i64 c] 92 (0, 0)) from fun w9 h => by rw [hC] at h; exact h)
  have HC2 := Lib.hid (show ∀ w9, C w9 → w9.cell? ⟨v, 2, none⟩ = some (.int .i64 c) from fun w9 h => cell_at (HCI.out w9 h) rfl)
  have HCO := Lib.hid (show ∀ w9, w9.heap[v]? = some (.cells #[.int .i64 a, .int .i64 b, .int .i64 c] 92 (0, 0)) → C w9 from fun w9 h => by rw [hC]; exact h)
  clear hC
  have hsc : s.size = c := HS.out
  have hB0 : Below w5.heap.size w5 w5.drew := (Below.refl _ _).drew
  have hS0 : C w5.drew := HCO.out _ GV5.out
  go_upto_region 13 with fail
  refine wp_region_mix C [(0,true),(1,true),(2,true),(3,true),(4,true),(5,true),(6,true),(7,true),(8,true),(9,true),(10,true),(12,true),(11,false),(13,true),(14,true),(15,true)] (by kernel_rfl) (by kernel_rfl) hS0 ?_
  generalize w5.drew = w6 at hB0 ⊢
  clear hS0
  simp only [List.filterMap_cons, List.filterMap_nil, List.getElem?_cons_zero, List.getElem?_cons_succ, Option.map_some]
  have hc9 : (c : Int) ≤ 262144 := by have := HU.out; omega
  refine mix_read (by rfl) ?_; apply Exists.intro; refine ⟨fun w9 hw9 => ?_, ?_⟩; (· go_simp; rfl); simp only [Act.put, List.setIfInBounds_toArray, List.set_cons_succ, List.set_cons_zero]
  refine mix_load_row 92 _ rfl (by rfl) v (by rfl) 92 #[.int .i64 a, .int .i64 b, .int .i64 c] (0, 0) _ (fun w9 h9 => HCI.out w9 h9) Tryz.underlying92 rfl info_head ?_
  try simp only [Act.put, List.setIfInBounds_toArray, List.set_cons_succ, List.set_cons_zero]
  repeat (refine mix_read (by rfl) ?_; apply Exists.intro; refine ⟨fun w9 hw9 => ?_, ?_⟩; (· have d2 := HC2.out w9 hw9; go_simp; rfl); simp only [Act.put, List.setIfInBounds_toArray, List.set_cons_succ, List.set_cons_zero])
  obtain ⟨m, hm⟩ : ∃ m, m = c - c % 64 := ⟨_, rfl⟩
  have hrem : IntKind.i64.wrap ((c : Int) - (c : Int).tmod 64) = (m : Int) := by
    have e : (c : Int) - (c : Int).tmod 64 = (m : Int) := by rw [Int.tmod_eq_emod_of_nonneg (by omega)]; omega
    rw [e]
    exact IntWalk.i64_in _ (by omega)
  have hhi : (m : Int) ≤ (s.size : Int) := by omega
  have hmc : m ≤ c := by omega
  have HM := Lib.hid hm
  rw [hrem]
  clear hm hrem
  repeat (refine mix_read (by rfl) ?_; apply Exists.intro; refine ⟨fun w9 hw9 => ?_, ?_⟩; (· have d2 := HC2.out w9 hw9; go_simp; rfl); simp only [Act.put, List.setIfInBounds_toArray, List.set_cons_succ, List.set_cons_zero])
  refine mix_step (by rfl) (fun K' hK => ?_)
  go_simp
  have gq := heap_alloc_top w6 (.cells #[.pointer (some ⟨p, 0, none⟩), .int .i64 a, .int .i64 b, .int .i64 c, .string (s.extract m c), .bool false] 99)
  have hb7 : Below w5.heap.size w5 (w6.alloc (.cells #[.pointer (some ⟨p, 0, none⟩), .int .i64 a, .int .i64 b, .int .i64 c, .string (s.extract m c), .bool false] 99)) := hB0.alloc hB0.size _
  have hv7 := (hb7.block v (lt_of_block GV5.out)).trans GV5.out
  refine hK _ _ (HCO.out _ hv7) ?_
  clear hK K' hv7
  try simp only [Act.put, List.setIfInBounds_toArray, List.set_cons_succ, List.set_cons_zero]
  have hq6 : w1.heap.size ≤ w6.heap.size := Nat.le_trans HB5.out.size hB0.size
  have hja : j = ⟨a, b, c, s.extract m c, false⟩ := by rw [HJ.out, HM.out, HS.out]
  obtain ⟨q, hq⟩ : ∃ q, q = w6.heap.size := ⟨_, rfl⟩
  rw [← hq] at gq hq6 ⊢
  generalize w6.alloc (.cells #[.pointer (some ⟨p, 0, none⟩), .int .i64 a, .int .i64 b, .int .i64 c, .string (s.extract m c), .bool false] 99) = w7 at gq hb7 ⊢
  have hst7 := strsAt_below HST.out (Nat.le_refl _) hb7
  have hfin : OpenGood2 p w1 j l (.returned (.tuple #[.pointer (some ⟨q, 0, none⟩), .slice ad l.length cap, .int .i64 0])) w7 := by
    refine ⟨q, ad, cap, rfl, hq6, ?_, hst7, HLC.out.1, HLC.out.2, HB5.out.trans (hb7.mono HB5.out.size), fun a e => ⟨(HFR.out a e).1, by rw [hq]; exact Nat.lt_of_lt_of_le (HFR.out a e).2 hB0.size⟩⟩
    rw [hja]
    exact gq
  have HFIN := Lib.hid hfin
  clear gq hb7 hst7 hq hq6 hfin hja HST HLC HB5 GV5 hB0
  repeat (refine mix_read (by rfl) ?_; apply Exists.intro; refine ⟨fun w9 hw9 => ?_, ?_⟩; (· go_simp; rfl); simp only [Act.put, List.setIfInBounds_toArray, List.set_cons_succ, List.set_cons_zero])
  refine mix_nil (NoPanic.normal ?_)
  go_wp2_with fail
  go_ret3
  exact HFIN.out
end Go.Proofs.YtjjejkhekmpgcaaGreat
