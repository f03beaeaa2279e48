/-
  Layer 6 (plain): what was laid is read back; what Do leaves on the disk.
  Layer 6: a store of our own; what must come at any rate.
  Layer 6: changes that came in, opened.
-/
import Derived.Test.YtjjejkhekmpgcaaGreatMsH
import Derived.Test.YtjjejkhekmpgcaaGreatMsF
import Derived.Test.YtjjejkhekmpgcaaGreatMgA
import Derived.Test.YtjjejkhekmpgcaaGreatMgE
import Derived.Deep.Strs
import Derived.Deep.SlicePairs
namespace Go.Proofs.YtjjejkhekmpgcaaGreat
set_option maxRecDepth 4000
open Go.RowKit

theorem rdC_back : ∀ (cs acc : List Chg) (f : Nat), (∀ c ∈ cs, mayC c = true) → ((cs.flatMap fldC).flatMap layF).length < f →
    rdC f ⟨((cs.flatMap fldC).flatMap layF).toArray⟩ 0 acc = (acc ++ cs, decide (0 < (acc ++ cs).length))
  | [], acc, 0, _, h => by omega
  | [], acc, f + 1, _, _ => by
    show (if (0 : Int) = 0 ∧ 0 < 0 then _ else (acc, decide (endR ⟨#[]⟩ 0 = 0) && decide (0 < acc.length))) = _
    rw [if_neg (by omega), List.append_nil]
    rfl
  | c :: cs, acc, 0, _, h => by omega
  | c :: cs, acc, f + 1, hm, hl => by
    obtain ⟨k, v, g⟩ := c
    have hc := hm _ List.mem_cons_self
    obtain ⟨h1, h2, h3, h4⟩ := mayC_sizes hc
    have h1 : 1 ≤ k.size := h1
    have h2 : k.size ≤ 32 := h2
    have h3 : v.size ≤ 4096 := h3
    have h4 : g = true → v.size = 0 := h4
    obtain ⟨X, hX⟩ : ∃ X, X = (cs.flatMap fldC).flatMap layF := ⟨_, rfl⟩
    have ih := fun hlx => rdC_back cs (acc ++ [⟨k, v, g⟩]) f (fun d hd => hm d (List.mem_cons_of_mem _ hd)) hlx
    rw [← hX] at ih
    have hkl : (layF ((0 : Int), k, true)).length = (lebN k.size).length + k.size := by simp [layF]
    have hpos : 1 ≤ (lebN k.size).length := lebN_pos _
    have hsz : ∀ l : List UInt8, (⟨l.toArray⟩ : ByteArray).size = l.length := fun l => bytes_len l
    cases g with
    | true =>
      have e : ((⟨k, v, true⟩ :: cs).flatMap fldC).flatMap layF = layF ((0 : Int), k, true) ++ (layF ((1 : Int), ⟨#[]⟩, false) ++ X) := by
        rw [List.flatMap_cons, List.flatMap_append, hX]
        simp [fldC]
      rw [e] at hl ⊢
      rw [List.length_append, List.length_append] at hl
      have hv : v = ⟨#[]⟩ := by apply ByteArray.ext; exact Array.eq_empty_of_size_eq_zero (h4 rfl)
      subst hv
      obtain ⟨n, hn, hn1⟩ := back_num ((1 : Int), ⟨#[]⟩, false) X rfl rfl (by show (1 : Int) ≤ _; omega)
      obtain rfl : n = 1 := by have : (1 : Int) = (n : Int) := hn1; omega
      unfold rdC
      rw [if_pos ⟨rfl, by rw [hsz, List.length_append]; omega⟩, back_txt ((0 : Int), k, true) _ rfl (by show k.size ≤ _; omega)]
      dsimp only
      rw [hn]
      dsimp only
      rw [if_neg (by omega : ¬ (1 : Nat) = 0)]
      dsimp only
      rw [if_neg (fun h => h.elim (fun h => by omega) (fun h => by rw [show decide ((1 : Nat) = 1) = true from rfl, hc] at h; cases h))]
      rw [show decide ((1 : Nat) = 1) = true from rfl, ih (by omega), List.append_assoc]
      rfl
    | false =>
      have e : ((⟨k, v, false⟩ :: cs).flatMap fldC).flatMap layF = layF ((0 : Int), k, true) ++ (layF ((0 : Int), ⟨#[]⟩, false) ++ (layF ((0 : Int), v, true) ++ X)) := by
        rw [List.flatMap_cons, List.flatMap_append, hX]
        simp [fldC]
      rw [e] at hl ⊢
      rw [List.length_append, List.length_append, List.length_append] at hl
      obtain ⟨n, hn, hn1⟩ := back_num ((0 : Int), ⟨#[]⟩, false) (layF ((0 : Int), v, true) ++ X) rfl rfl (by show (0 : Int) ≤ _; omega)
      obtain rfl : n = 0 := by have : (0 : Int) = (n : Int) := hn1; omega
      unfold rdC
      rw [if_pos ⟨rfl, by rw [hsz, List.length_append]; omega⟩, back_txt ((0 : Int), k, true) _ rfl (by show k.size ≤ _; omega)]
      dsimp only
      rw [hn]
      dsimp only
      rw [if_pos rfl, back_txt ((0 : Int), v, true) _ rfl (by show v.size ≤ _; omega)]
      dsimp only
      rw [if_neg (fun h => h.elim (fun h => by omega) (fun h => by rw [show decide ((0 : Nat) = 1) = false from rfl, hc] at h; cases h))]
      rw [show decide ((0 : Nat) = 1) = false from rfl, ih (by omega), List.append_assoc]
      rfl
theorem readC_back {cs : List Chg} (hm : ∀ c ∈ cs, mayC c = true) (h0 : cs ≠ []) (hl : (layC cs).2 = 0) : readC (layC cs).1 = (cs, true) := by
  have := (lay_ok (cs.flatMap fldC) hl).1
  unfold layC
  rw [this]
  unfold readC
  rw [rdC_back cs [] _ hm (by rw [bytes_len]; omega)]
  have : 0 < cs.length := by cases cs with | nil => exact absurd rfl h0 | cons a l => simp
  simp [this]
theorem openM_append : ∀ (a b : List ByteArray) (M : Kv), openM (a ++ b) M = (openM a M).bind (openM b)
  | [], b, M => rfl
  | r :: a, b, M => by
    rw [List.cons_append]
    unfold openM
    by_cases h : (readC r).2 = true
    · rw [if_pos h, if_pos h]; exact openM_append a b _
    · rw [if_neg h, if_neg h]; rfl
theorem openM_one {cs : List Chg} (hm : ∀ c ∈ cs, mayC c = true) (h0 : cs ≠ []) (hl : (layC cs).2 = 0) (M : Kv) : openM [(layC cs).1] M = some (afterM M cs) := by
  unfold openM
  rw [readC_back hm h0 hl, if_pos rfl]
  rfl
def chgP (p : ByteArray × ByteArray) : Chg := ⟨p.1, p.2, false⟩
theorem layC_small {p : ByteArray × ByteArray} (h : mayC (chgP p) = true) : (layC [chgP p]).2 = 0 := by
  obtain ⟨_, h2, h3, _⟩ := mayC_sizes h
  have h2 : p.1.size ≤ 32 := h2
  have h3 : p.2.size ≤ 4096 := h3
  rcases (layC_err [chgP p]).1 with e | e
  · exact e
  · exfalso
    have hr := recT_eq p.1 p.2 h2 h3
    have hs := hr.2
    unfold layC lay at e
    rw [if_neg (by rw [flat_good]; simp)] at e
    by_cases hb : 65536 < (layB ([chgP p].flatMap fldC)).length
    · rw [if_pos hb] at e
      have hx : recK p = ⟨#[]⟩ := by
        unfold recK layC lay
        rw [if_neg (by rw [flat_good]; simp), if_pos (show 65536 < (layB ([(⟨p.1, p.2, false⟩ : Chg)].flatMap fldC)).length from hb)]
      have hy := hr.1
      have hx' : recK (p.1, p.2) = ⟨#[]⟩ := hx
      rw [hx'] at hy
      have := congrArg ByteArray.size hy
      rw [ByteArray.size_append, ByteArray.size_append] at this
      have h1 : (⟨#[0]⟩ : ByteArray).size = 1 := rfl
      have h0 : (⟨#[]⟩ : ByteArray).size = 0 := rfl
      omega
    · rw [if_neg hb] at e; cases e
theorem openM_recs : ∀ (L A : Kv), (∀ p ∈ L, mayC (chgP p) = true) → openM (recsM L) A = some (afterM A (L.map chgP))
  | [], A, _ => rfl
  | p :: L, A, hm => by
    have hp := hm p List.mem_cons_self
    have : recsM (p :: L) = [(layC [chgP p]).1] ++ recsM L := rfl
    rw [this, openM_append, openM_one (cs := [chgP p]) (fun c hc => by rw [List.mem_singleton.1 hc]; exact hp) (by simp) (layC_small hp)]
    show openM (recsM L) (afterM A [chgP p]) = _
    rw [openM_recs L _ (fun x hx => hm x (List.mem_cons_of_mem _ hx))]
    rfl
theorem ins_last : ∀ (A : Kv) (k v : ByteArray), (∀ x ∈ A, ltK x.1 k) → insM A k v = A ++ [(k, v)]
  | [], _, _, _ => rfl
  | a :: A, k, v, h => by
    unfold insM
    rw [if_pos (h a List.mem_cons_self), ins_last A k v (fun x hx => h x (List.mem_cons_of_mem _ hx))]
    rfl
theorem after_puts : ∀ (L A : Kv), risK (A ++ L) → afterM A (L.map chgP) = A ++ L
  | [], A, _ => by simp [afterM]
  | p :: L, A, h => by
    have hlt : ∀ x ∈ A, ltK x.1 p.1 := fun x hx => (List.pairwise_append.1 h).2.2 x hx p List.mem_cons_self
    have e : doM A (chgP p) = A ++ [p] := by
      show insM (dropM A p.1) p.1 p.2 = _
      rw [drop_same (fun x hx => ltK_ne (hlt x hx)), ins_last A _ _ hlt]
    rw [List.map_cons]
    show afterM (doM A (chgP p)) (L.map chgP) = _
    rw [e, after_puts L (A ++ [p]) (by rw [List.append_assoc]; exact h), List.append_assoc]
    rfl
theorem openM_all {M : Kv} (h : KvOk M) : openM (recsM M) [] = some M := by
  rw [openM_recs M [] h.may, after_puts M [] h.ris]
  rfl

/-- what Do leaves: nothing is done; all; or the disk went down -/
def DoOut (st : Dk) (n sq half : Nat) (rs : List ByteArray) (M M' : Kv) (R : Int × Dk × Jn × Kv × Bool) : Prop :=
  (R.1 = 0 ∧ (∃ sq' half' rs', OnDisk R.2.1 n sq' half' rs' ∧ R.2.2.1 = jOf sq' half' rs' ∧ openM rs' [] = some M' ∧ sq' ≤ sq + 1) ∧ R.2.2.2.1 = M' ∧ R.2.2.2.2 = false ∧ (st.armed = 0 → R.2.1.armed = 0)) ∨
    (R.1 = 12 ∧ st.armed ≠ 0 ∧ R.2.2.2.1 = M ∧ R.2.2.2.2 = true ∧ R.2.1.S.length = n ∧ secOk R.2.1.S ∧
      ∀ (sx : Dk) (keep : List Int), sx.S = R.2.1.S → ∃ sq2 half2 got, OnDisk (crashD sx keep) n sq2 half2 got ∧ (openM got [] = some M ∨ openM got [] = some M') ∧ sq2 ≤ sq + 1)
theorem out_of {st : Dk} {n sq half half' : Nat} {rs rs' : List ByteArray} {M M' : Kv} {r : Int × Dk} {j' : Jn} (h : CallRes st n sq half half' rs rs' r j') (ho : openM rs [] = some M) (ho' : openM rs' [] = some M')
    {R : Int × Dk × Jn × Kv × Bool} (hR : R = if r.1 ≠ 0 then (r.1, r.2, j', M, true) else (0, r.2, j', M', false)) : DoOut st n sq half rs M M' R := by
  rcases h with ⟨h1, h2, h3, h4⟩ | ⟨h1, h2, h3, h4, h5, h6⟩
  · rw [if_neg (by rw [h1]; simp)] at hR
    subst hR
    exact .inl ⟨rfl, ⟨sq + 1, half', rs', h2, h3, ho', Nat.le_refl _⟩, rfl, rfl, h4⟩
  · rw [if_pos (by rw [h1]; simp)] at hR
    subst hR
    refine .inr ⟨h1, h2, rfl, rfl, h3, h4, fun sx keep e => ?_⟩
    rcases h6 sx keep e with h | h
    · exact ⟨sq, half, rs, h, .inl ho, by omega⟩
    · exact ⟨sq + 1, half', rs', h, .inr ho', Nat.le_refl _⟩
theorem allR_one (r : ByteArray) : (allR [r]).length ≠ 0 := by
  unfold allR
  rw [List.flatMap_cons, List.length_append, oneR_length]
  omega
section
variable {st : Dk} {n sq half : Nat} {rs : List ByteArray} {M : Kv} {l : List Chg} {qt : Int}
/-- the journal's part: what was answered with 10 or 4 has changed nothing -/
theorem put_safe (h : OnDisk st n sq half rs) (hsq : sq < 9223372036854775807) (l : List Chg) :
    (((putJ st (jOf sq half rs) l).1.1 = 10 ∨ (putJ st (jOf sq half rs) l).1.1 = 4) ∧ (putJ st (jOf sq half rs) l).1.2 = st ∧ (putJ st (jOf sq half rs) l).2 = jOf sq half rs) ∨
      ((layC l).2 = 0 ∧ CallRes st n sq half half rs (rs ++ [(layC l).1]) (putJ st (jOf sq half rs) l).1 (putJ st (jOf sq half rs) l).2) := by
  unfold putJ
  rcases (layC_err l).1 with h0 | h0
  · rw [if_pos h0]
    by_cases hbig : (allR [(layC l).1]).length ≤ 65536
    · rcases append_safe h [(layC l).1] hbig hsq with ⟨_, h2, h3⟩ | ⟨h2, _⟩ | ⟨_, _, h2⟩
      · exact .inl ⟨.inl (by rw [h2]), by rw [h2], h3⟩
      · cases h2
      · exact .inr ⟨h0, h2⟩
    · have hfl : flay [(layC l).1] = (⟨#[]⟩, 4) := by unfold flay; rw [if_neg hbig]
      have hla : ∀ room, laidR (jOf sq half rs) room [(layC l).1] = (⟨#[]⟩, 4) := fun room => by
        unfold laidR
        rw [if_neg (by show ¬ false = true; simp), if_neg (by show ¬ sq = 9223372036854775807; omega), hfl, if_neg (by simp)]
      have e1 : appendD st (jOf sq half rs) [(layC l).1] = (4, st) := by unfold appendD; rw [hla, if_pos (.inl (by simp))]
      have e2 : appendJ st (jOf sq half rs) [(layC l).1] = jOf sq half rs := by unfold appendJ; rw [hla, if_pos (.inl (by simp))]
      exact .inl ⟨.inr (by rw [e1]), by rw [e1], e2⟩
  · rw [if_neg (by omega)]
    exact .inl ⟨.inr h0, rfl, rfl⟩
theorem do_out (h : OnDisk st n sq half rs) (ho : openM rs [] = some M) (hk : KvOk M) (hsq : sq < 9223372036854775807) (hc : checkS M l qt false = 0) (hz : sizeN n * 64 ≤ 65536) :
    (sizeN n * 64 < (allR (recsM (afterM M l))).length → doS st (jOf sq half rs) M qt false l = (10, st, jOf sq half rs, M, false)) ∧
      ((allR (recsM (afterM M l))).length ≤ sizeN n * 64 → DoOut st n sq half rs M (afterM M l) (doS st (jOf sq half rs) M qt false l)) := by
  obtain ⟨_, hl1, hl2, hmay⟩ := checkS_zero hc
  have hok := ok_after hk hmay
  have hT : roomR st.S.length (jOf sq half rs) + ((jOf sq half rs).used : Int) = (sizeN n : Int) * 64 := by unfold roomR; rw [h.calm.len]; omega
  have hmin : min (roomR st.S.length (jOf sq half rs) + ((jOf sq half rs).used : Int)) 65536 = ((sizeN n * 64 : Nat) : Int) := by rw [hT]; omega
  have hd : doS st (jOf sq half rs) M qt false l = if min (roomR st.S.length (jOf sq half rs) + ((jOf sq half rs).used : Int)) 65536 < (sizeR (recsM (afterM M l)) : Int) then (10, st, jOf sq half rs, M, false)
      else if (doJ st (jOf sq half rs) l (recsM (afterM M l))).1.1 ≠ 0 then ((doJ st (jOf sq half rs) l (recsM (afterM M l))).1.1, (doJ st (jOf sq half rs) l (recsM (afterM M l))).1.2, (doJ st (jOf sq half rs) l (recsM (afterM M l))).2, M, true)
      else (0, (doJ st (jOf sq half rs) l (recsM (afterM M l))).1.2, (doJ st (jOf sq half rs) l (recsM (afterM M l))).2, afterM M l, false) := by
    unfold doS
    rw [if_neg (by rw [hc]; simp)]
  rw [hmin] at hd
  refine ⟨fun hbig => ?_, fun hfit => ?_⟩
  · rw [hd, if_pos]
    unfold sizeR
    split
    · omega
    · omega
  · have hsz : sizeR (recsM (afterM M l)) = (allR (recsM (afterM M l))).length := by unfold sizeR; rw [if_pos (by omega)]
    rw [hsz, if_neg (by omega)] at hd
    have hrw := openM_all hok
    rcases put_safe h hsq l with ⟨he, h2, h3⟩ | ⟨h0, h2⟩
    · have hj : doJ st (jOf sq half rs) l (recsM (afterM M l)) = (rewriteD st (jOf sq half rs) (recsM (afterM M l)), rewriteJ st (jOf sq half rs) (recsM (afterM M l))) := by unfold doJ; rw [if_pos he]
      rw [hj] at hd
      rcases rewrite_safe h (recsM (afterM M l)) (by omega) hsq with ⟨h4, _⟩ | ⟨_, h4⟩
      · omega
      · exact out_of h4 ho hrw hd
    · have hne : ¬ ((putJ st (jOf sq half rs) l).1.1 = 10 ∨ (putJ st (jOf sq half rs) l).1.1 = 4) := by
        rcases h2 with ⟨h1, _⟩ | ⟨h1, _⟩
        · rw [h1]; omega
        · rw [h1]; omega
      have hj : doJ st (jOf sq half rs) l (recsM (afterM M l)) = putJ st (jOf sq half rs) l := by unfold doJ; rw [if_neg hne]
      rw [hj] at hd
      have ho' : openM (rs ++ [(layC l).1]) [] = some (afterM M l) := by
        rw [openM_append, ho]
        exact openM_one hmay (fun e => by rw [e] at hl1; simp at hl1) h0 M
      exact out_of h2 ho ho' hd
end
end Go.Proofs.YtjjejkhekmpgcaaGreat

namespace Go.Proofs.YtjjejkhekmpgcaaGreat
set_option maxRecDepth 4000
open Go.RowKit

/-- a store of our own on a disk of our own -/
structure SLaw (w wr : World) (p : Nat) (F : Nat → Prop) (q jq b : Nat) (st : Dk) (j : Jn) (M : Kv) (qt : Int) (br : Bool) : Prop where
  low : Below w.heap.size w wr
  sto : StoAt wr q jq b p F st j M qt br
  hF : ∀ k, stoF q jq b F k → w.heap.size ≤ k
section
variable {w wr : World} {p q jq b : Nat} {F : Nat → Prop} {st : Dk} {j : Jn} {M : Kv} {qt : Int} {br : Bool}
theorem SLaw.below {w' : World} (h : SLaw w wr p F q jq b st j M qt br) (hb : Below wr.heap.size wr w') : SLaw w w' p F q jq b st j M qt br :=
  ⟨h.low.trans (hb.mono h.low.size), h.sto.below hb, h.hF⟩
theorem SLaw.done {w' : World} {R : Int × Dk × Jn × Kv × Bool} {e : Ending} (h : SLaw w wr p F q jq b st j M qt br) (hp : DoRes wr q jq b p F qt R e w') :
    ∃ F', SLaw w w' p F' q jq b R.2.1 R.2.2.1 R.2.2.2.1 qt R.2.2.2.2 ∧ Stp (stoF q jq b F) wr (stoF q jq b F') w' := by
  obtain ⟨_, F', h1, h2⟩ := hp
  obtain ⟨h3, h4⟩ := h2.below h.low h.low.size h.hF
  exact ⟨F', ⟨h3, h1, h4⟩, h2⟩
theorem SLaw.dcall {w' : World} {v : Value} {st' : Dk} {e : Ending} (h : SLaw w wr p F q jq b st j M qt br) (hp : DiskPost p F wr v st' e w') :
    ∃ F', SLaw w w' p F' q jq b st' j M qt br ∧ Stp (stoF q jq b F) wr (stoF q jq b F') w' := by
  obtain ⟨F', h1, h2⟩ := h.sto.dcall hp
  obtain ⟨h3, h4⟩ := h2.below h.low h.low.size h.hF
  exact ⟨F', ⟨h3, h1, h4⟩, h2⟩
/-- a store is opened -/
theorem SLaw.opened {w' : World} {e : Ending} {n sq half : Nat} {rs : List ByteArray} (on : OnDisk st n sq half rs) (hlow : Below w.heap.size w wr) (hF : ∀ k, F k → w.heap.size ≤ k) (hp : SOpenPost p F wr st qt (some M) e w') :
    ∃ q jq b, e = .returned (.tuple #[.pointer (some ⟨q, 0, none⟩), .int .i64 0]) ∧ wr.heap.size ≤ q ∧ SLaw w w' p F q jq b st (jOf sq half rs) M qt false ∧ KvOk M := by
  obtain ⟨h1, q, jq, b, h2, h3, h4, h5, h6, h7⟩ := hp
  rw [on.opens.2.2.1] at h6
  have hs := hlow.size
  refine ⟨q, jq, b, h2, h3, ⟨hlow.trans (h1.mono hs), h6, fun k hk => ?_⟩, h7⟩
  rcases hk with hk | rfl | rfl | rfl
  · exact hF k hk
  · omega
  · omega
  · omega
/-- what lies below is outside -/
theorem SLaw.out (h : SLaw w wr p F q jq b st j M qt br) (k : Nat) (hk : k < w.heap.size) : ¬ stoF q jq b F k := fun hf => by have := h.hF k hf; omega
theorem SLaw.chg {ad : Option Addr} {l : List Chg} (h : SLaw w wr p F q jq b st j M qt br) (hl : chgsAt w ad l) : ChgO wr ad l (stoF q jq b F) := by
  rcases hl with h0 | ⟨bl, off, h1, h2, h3⟩
  · exact .inl h0
  · exact .inr ⟨bl, off, h1, by have := h.low.size; omega, h.out bl h2, fun i hi j u hu => (h.low.cell (p := ⟨bl, off + i * 3 + j, none⟩) h2).trans (h3 i hi j u hu)⟩
end
theorem sumS_allR : ∀ rs : List ByteArray, sumS rs ≤ (allR rs).length
  | [] => Nat.zero_le _
  | r :: rs => by
    have := sumS_allR rs
    unfold sumS at this ⊢
    rw [List.map_cons, List.sum_cons, allR_cons, List.length_append, oneR_length]
    omega
theorem check_bytes {M : Kv} {l : List Chg} {qt : Int} (h : checkS M l qt false = 0) (B : Nat) (h1 : bytesM M ≤ B) (h2 : qt ≤ (B : Int)) : bytesM (afterM M l) ≤ B := by
  unfold checkS at h
  rw [if_neg (by simp)] at h
  split at h
  · cases h
  · split at h
    · cases h
    · split at h
      · cases h
      · rename_i hn
        omega
theorem put_hA {st : Dk} {n sq half : Nat} {rs : List ByteArray} (h : OnDisk st n sq half rs) (hsq : sq < 9223372036854775807) (l : List Chg) :
    (putJ st (jOf sq half rs) l).1.1 = 10 ∨ (putJ st (jOf sq half rs) l).1.1 = 4 → (putJ st (jOf sq half rs) l).1.2 = st ∧ (putJ st (jOf sq half rs) l).2 = jOf sq half rs := by
  intro he
  rcases put_safe h hsq l with ⟨_, h2, h3⟩ | ⟨_, h2⟩
  · exact ⟨h2, h3⟩
  · rcases h2 with ⟨h1, _⟩ | ⟨h1, _⟩
    · rw [h1] at he; omega
    · rw [h1] at he; omega
/-- a call of Do at a store that is whole -/
theorem do_walk6 {w wr : World} {p q jq b : Nat} {F : Nat → Prop} {st : Dk} {n sq half : Nat} {rs : List ByteArray} {M : Kv} {qt : Int} (h : SLaw w wr p F q jq b st (jOf sq half rs) M qt false) (on : OnDisk st n sq half rs) (hk : KvOk M)
    (hsq : sq < 9223372036854775807) (hb : bytesM M ≤ 9000000) (ad : Option Addr) (cap : Nat) (l : List Chg) (hl : ChgO wr ad l (stoF q jq b F)) (hs : l.length ≤ 9223372036854775807) (hz : ∀ c ∈ l, c.key.size ≤ 9223372036854775807 ∧ c.val.size ≤ 9223372036854775807) :
    Calls Tryz.prog 15 #[.pointer (some ⟨q, 0, none⟩), .slice ad l.length cap] wr fun e w' => DoRes wr q jq b p F qt (doS st (jOf sq half rs) M qt false l) e w' :=
  sdoT_walk q jq b p F st _ M qt false ad cap l wr h.sto hk (by rw [on.calm.len]; exact on.four) (jOf_ok on) (calm_pend on.calm) hl hs hz (by omega) (put_hA on hsq l)
/-- a store is opened on a disk that has one -/
theorem open_walk6 {wr : World} {p : Nat} {F : Nat → Prop} {st : Dk} {n sq half : Nat} {rs : List ByteArray} {M : Kv} (qt : Int) (hd : Disk wr p F st) (on : OnDisk st n sq half rs) (ho : openM rs [] = some M) (h0 : 0 ≤ qt) (h1 : qt ≤ 1048576) (hn : sizeN n * 64 ≤ 65536) :
    Calls Tryz.prog 10 #[.pointer (some ⟨p, 0, none⟩), .int .i64 qt] wr fun e w' => SOpenPost p F wr st qt (some M) e w' := by
  obtain ⟨o1, o2, _, o4⟩ := on.opens
  have h2 := sumS_allR rs
  have h3 := allR_ge rs
  have h4 := on.fit
  have := sopen_walk p F st qt rs wr hd o4 o1 o2 h0 h1 (by omega) (by omega)
  rwa [ho] at this
def ab6 : List Chg := [⟨⟨#[97]⟩, ⟨#[49]⟩, false⟩, ⟨⟨#[98]⟩, ⟨#[50]⟩, false⟩]
def kv6 : Kv := [(⟨#[97]⟩, ⟨#[49]⟩), (⟨#[98]⟩, ⟨#[50]⟩)]
theorem ris6 : risK kv6 := by
  unfold risK kv6
  refine List.pairwise_cons.2 ⟨fun x hx => ?_, List.pairwise_singleton _ _⟩
  rw [List.mem_singleton.1 hx]
  show ([97] : List UInt8) < [98]
  decide
theorem after6 : afterM [] ab6 = kv6 := after_puts kv6 [] ris6
theorem bytes6 : bytesM kv6 = 4 := rfl
theorem check6 : checkS [] ab6 100 false = 0 := by
  unfold checkS
  rw [if_neg (by simp), if_neg (by show ¬ (2 = 0 ∨ 1024 < 2); omega), if_neg (by rw [show ab6.any (fun c => !mayC c) = false from rfl]; simp), after6, bytes6, if_neg (by omega)]
theorem whole6 : (allR (recsM kv6)).length = 20 := by
  have h1 := recT_eq ⟨#[97]⟩ ⟨#[49]⟩ (by show 1 ≤ 32; omega) (by show 1 ≤ 4096; omega)
  have h2 := recT_eq ⟨#[98]⟩ ⟨#[50]⟩ (by show 1 ≤ 32; omega) (by show 1 ≤ 4096; omega)
  have e1 : (recK (⟨#[97]⟩, ⟨#[49]⟩)).size = 5 := by
    rw [h1.1]
    simp only [ByteArray.size_append, bytes_len]
    simp only [List.length_cons, List.length_nil, Nat.zero_add]
    rw [lebN_small (by omega)]
    rfl
  have e2 : (recK (⟨#[98]⟩, ⟨#[50]⟩)).size = 5 := by
    rw [h2.1]
    simp only [ByteArray.size_append, bytes_len]
    simp only [List.length_cons, List.length_nil, Nat.zero_add]
    rw [lebN_small (by omega)]
    rfl
  show (allR [recK (⟨#[97]⟩, ⟨#[49]⟩), recK (⟨#[98]⟩, ⟨#[50]⟩)]).length = 20
  rw [allR_cons, allR_cons, List.length_append, List.length_append, oneR_length, oneR_length, e1, e2, lebN_small (by omega)]
  rfl
theorem ok6 : KvOk kv6 := by
  rw [← after6]
  exact ok_after ok_nil (checkS_zero check6).2.2.2
theorem keys6 : keysM kv6 ⟨#[]⟩ = [⟨#[97]⟩, ⟨#[98]⟩] := by rw [keys_all]; rfl
theorem get6 : getM kv6 ⟨#[98]⟩ = some ⟨#[50]⟩ := mem_getM ris6 (by unfold kv6; simp)
theorem ab6_at (w : World) (t : TypeId) : ChgO (w.alloc (.cells #[.string ⟨#[97]⟩, .string ⟨#[49]⟩, .bool false, .string ⟨#[98]⟩, .string ⟨#[50]⟩, .bool false] t)) (some ⟨w.heap.size, 0, none⟩) ab6 (fun k => k < w.heap.size) := by
  refine .inr ⟨w.heap.size, 0, rfl, by simp, Nat.lt_irrefl _, fun i hi j u hu => ?_⟩
  rw [cell_of_row _ w.heap.size _ _ _ _ (heap_alloc_top w _)]
  match i, hi with
  | 0, _ =>
    match j with
    | 0 => exact hu
    | 1 => exact hu
    | 2 => exact hu
    | j + 3 => simp [ab6, chgv] at hu
  | 1, _ =>
    match j with
    | 0 => exact hu
    | 1 => exact hu
    | 2 => exact hu
    | j + 3 => simp [ab6, chgv] at hu
  | i + 2, hi => exact absurd hi (by simp [ab6])

set_option maxHeartbeats 4000000 in
theorem awake6_walk (w : World) : Calls Tryz.prog 9 #[] w fun r w' => r = .returned (.bool true) ∧ Below w.heap.size w w' := by
  obtain ⟨hw0, hf0, hon, har⟩ := format_fresh 20 (by omega) (by omega)
  obtain ⟨st1, hst1⟩ : ∃ st1, st1 = (formatD (freshD 20)).2 := ⟨_, rfl⟩
  have hfd : formatD (freshD 20) = (0, st1) := Prod.ext hf0 hst1.symm
  rw [← hst1] at hon har
  have hout := (do_out hon (M := []) (l := ab6) (qt := 100) rfl ok_nil (by omega) check6 (by show 9 * 64 ≤ 65536; omega)).2 (by rw [after6, whole6]; show 20 ≤ 9 * 64; omega)
  rw [after6] at hout
  obtain ⟨R, hR⟩ : ∃ R, R = doS st1 (jOf 1 0 []) [] 100 false ab6 := ⟨_, rfl⟩
  have KDO := fun wr q jq b p F ad cap h hl => do_walk6 (w := w) (wr := wr) (p := p) (q := q) (jq := jq) (b := b) (F := F) (M := []) (qt := 100) h hon ok_nil (by omega) (by show 0 ≤ 9000000; omega) ad cap ab6 hl (by show 2 ≤ 9223372036854775807; omega) (fun c hc => by have := mayC_sizes ((checkS_zero check6).2.2.2 c hc); omega)
  have hKO := fun wr p F hd => open_walk6 (wr := wr) (p := p) (F := F) (M := []) 100 hd hon rfl (by omega) (by omega) (by show 9 * 64 ≤ 65536; omega)
  rw [← hR] at hout
  simp only [← hR] at KDO
  obtain ⟨r, st2, j2, M2, br2⟩ := R
  obtain ⟨h1, ⟨sq2, half2, rs2, h2, h3, h4, _⟩, h5, h6, _⟩ : r = 0 ∧ (∃ sq' half' rs', OnDisk st2 20 sq' half' rs' ∧ j2 = jOf sq' half' rs' ∧ openM rs' [] = some kv6 ∧ sq' ≤ 1 + 1) ∧ M2 = kv6 ∧ br2 = false ∧ (st1.armed = 0 → st2.armed = 0) := by
    rcases hout with h | ⟨_, h, _⟩
    · exact h
    · exact absurd har h
  subst h1; subst h3; subst h5; subst h6
  have hKO2 := fun wr p F hd => open_walk6 (wr := wr) (p := p) (F := F) (M := kv6) 100 hd h2 h4 (by omega) (by omega) (by show 9 * 64 ≤ 65536; omega)
  have HW0 := Lib.hid hw0; have HFD := Lib.hid hfd; have KD := Lib.hid KDO; have HKO := Lib.hid hKO; have HKO2 := Lib.hid hKO2; have HON := Lib.hid hon; have HON2 := Lib.hid h2
  clear hw0 hf0 hon har hst1 hfd hout hR h2 h4 hKO hKO2 KDO
  go_enter Tryz.func9, Tryz.ntmps9
  go_wp2_with fail
  refine (new_disk 20 w (by omega) (by omega)).mono ?_
  rintro e w1 ⟨p, F, rfl, hb1, hd1, hF1⟩
  have KF := Lib.hid (sformat_walk p F (freshD 20) 0 w1 hd1 (by show 4 ≤ (List.replicate 20 [z64]).length; simp) HW0.out (pendMax_new 20) (by omega))
  rw [HFD.out] at KF
  have HB1 := Lib.hid (And.intro hb1 hF1)
  clear hb1 hd1 hF1
  go_wp2_with fail
  refine KF.out.mono ?_
  intro e w2 hpost
  have he := hpost.1
  subst he
  obtain ⟨F2, hb2, hd2, hF2⟩ := DiskPost.low HB1.out.1 HB1.out.2 hpost
  have HB2 := Lib.hid (And.intro hb2 (And.intro hd2 hF2))
  clear hpost hb2 hd2 hF2 KF HB1
  go_wp2_with fail
  refine (HKO.out w2 p F2 HB2.out.2.1).mono ?_
  intro e w3 hpost
  obtain ⟨q, jq, b, rfl, hq3, hL3, _⟩ := SLaw.opened HON.out HB2.out.1 HB2.out.2.2 hpost
  have HL3 := Lib.hid hL3
  clear hL3 hpost hq3 HKO HB2
  go_wp2_with fail
  have hbx : Below w3.heap.size w3 (w3.alloc (.cells #[.string ⟨#[97]⟩, .string ⟨#[49]⟩, .bool false, .string ⟨#[98]⟩, .string ⟨#[50]⟩, .bool false] 42)) := (Below.refl _ _).alloc (Nat.le_refl _) _
  have hat := ab6_at w3 42
  have hlt := fun k hk => HL3.out.sto.ltF k hk
  obtain ⟨bx, hbxx⟩ : ∃ bx, bx = w3.heap.size := ⟨_, rfl⟩
  rw [← hbxx] at hat hlt ⊢
  generalize w3.alloc (.cells #[.string ⟨#[97]⟩, .string ⟨#[49]⟩, .bool false, .string ⟨#[98]⟩, .string ⟨#[50]⟩, .bool false] 42) = w4 at hbx hat ⊢
  have hL4 := HL3.out.below hbx
  have hat2 : ChgO w4 (some ⟨bx, 0, none⟩) ab6 (stoF q jq b F2) := by
    rcases hat with h0 | ⟨bb, off, h1, h2, h3, h4⟩
    · exact .inl h0
    · exact .inr ⟨bb, off, h1, h2, fun hk => h3 (hlt bb hk), h4⟩
  have KDO := Lib.hid (KD.out w4 q jq b p F2 (some ⟨bx, 0, none⟩) 2 hL4 hat2)
  have HL4 := Lib.hid hL4
  clear hL4 hat hat2 hlt hbx hbxx HL3 KD
  refine KDO.out.mono ?_
  intro e w5 hpost
  have he := hpost.1
  subst he
  obtain ⟨F5, hL5, _⟩ := HL4.out.done hpost
  replace hL5 : SLaw w w5 p F5 q jq b st2 (jOf sq2 half2 rs2) kv6 100 false := hL5
  have KO := Lib.hid (HKO2.out w5 p F5 hL5.sto.disk)
  have HL5 := Lib.hid hL5
  clear hpost hL5 KDO HL4 HKO2
  go_wp2_with fail
  refine KO.out.mono ?_
  intro e w6 hpost
  obtain ⟨q2, jq2, b2, rfl, hq6, hL6, _⟩ := SLaw.opened HON2.out HL5.out.low (fun k hk => HL5.out.hF k (.inl hk)) hpost
  have HL6 := Lib.hid hL6
  have KG := Lib.hid (sget_walk q2 b2 _ _ 100 false kv6 ⟨#[98]⟩ w6 hL6.sto.cells hL6.sto.map (by show 1 ≤ _; omega))
  rw [get6] at KG
  have KK := Lib.hid (keys_walk q2 b2 _ _ 100 false kv6 ⟨#[]⟩ w6 hL6.sto.cells hL6.sto.map ris6 (by show 2 ≤ _; omega))
  rw [keys6] at KK
  have KB := fun w' (hb : Below w6.heap.size w6 w') => Lib.hid (sbytes_walk q2 b2 _ _ 100 false w' (hL6.below hb).sto.cells)
  rw [bytes6] at KB
  clear hpost hL6 hq6 KO HL5
  go_wp2_with fail
  refine KG.out.mono ?_
  rintro e w7 ⟨rfl, rfl⟩
  clear KG
  go_wp2_with fail
  refine KK.out.mono ?_
  rintro e w8 ⟨v8, rfl, hr8, hb8⟩
  obtain ⟨ad8, cap8, rfl, hs8⟩ := hr8.form
  have S8 := Lib.hid hs8; have B8 := Lib.hid hb8
  clear hr8 hs8 hb8 KK
  rw [show ([⟨#[97]⟩, ⟨#[98]⟩] : List ByteArray).length = 2 from rfl]
  have hbx : Below w8.heap.size w8 (w8.alloc (.cells #[.string ⟨#[97]⟩, .string ⟨#[98]⟩] 9)) := (Below.refl _ _).alloc (Nat.le_refl _) _
  have KT := Lib.hid (texts_walk ad8 (some ⟨w8.heap.size, 0, none⟩) cap8 2 [⟨#[97]⟩, ⟨#[98]⟩] [⟨#[97]⟩, ⟨#[98]⟩] _ (strsAt_below S8.out (Nat.le_refl _) hbx) (ab5_at w8 9) (by show 2 ≤ _; omega))
  rw [decide_eq_true rfl] at KT
  have HBX := Lib.hid hbx
  clear hbx S8
  go_wp2_with fail
  refine KT.out.mono ?_
  rintro e w9 ⟨rfl, hb9⟩
  have B9 := Lib.hid (B8.out.trans ((HBX.out.trans (hb9.mono HBX.out.size)).mono B8.out.size))
  clear hb9 KT HBX B8
  go_wp2_with fail
  refine (KB w9 B9.out).out.mono ?_
  rintro e w10 ⟨rfl, rfl⟩
  have HF := Lib.hid (HL6.out.below B9.out).low
  clear KB HL6 B9
  go_wp2_with fail
  go_ret
  exact ⟨rfl, HF.out⟩
end Go.Proofs.YtjjejkhekmpgcaaGreat

namespace Go.Proofs.YtjjejkhekmpgcaaGreat
set_option maxRecDepth 4000
open Go.ChangeShapes Go.WideShapes Go.ChangeAt Go.RowKit Go.Deep
/-- changes in a row of rows -/
structure CRow where
  ad : Option Addr
  cap : Nat
  l : List Chg
def chgOk (c : Chg) : Prop := c.key.size ≤ 9223372036854775807 ∧ c.val.size ≤ 9223372036854775807
def crowOk (w : World) (r : CRow) : Prop := chgsAt w r.ad r.l ∧ r.l.length ≤ r.cap ∧ r.cap ≤ 9223372036854775807 ∧ ∀ c ∈ r.l, chgOk c
def crowsAt (w : World) (ad : Option Addr) (l : List CRow) : Prop :=
  l = [] ∨ ∃ b off, ad = some ⟨b, off, none⟩ ∧ b < w.heap.size ∧ ∀ i (h : i < l.length), w.cell? ⟨b, off + i, none⟩ = some (.slice l[i].ad l[i].l.length l[i].cap)
section
variable {H : Type} {enc : TypeId × Value → H} {w : World} {base : Nat} {spare : Nat → Bool} {held : Bool}
theorem sx_cells_chg : Tryz.prog.cellsOf 42 = 3 := by kernel_rfl
theorem sx_cells_chgs : Tryz.prog.cellsOf 34 = 1 := by kernel_rfl
theorem sx_cells_string : Tryz.prog.cellsOf 9 = 1 := by kernel_rfl
theorem sx_cells_bool : Tryz.prog.cellsOf 4 = 1 := by kernel_rfl
instance : Inhabited Chg := ⟨⟨⟨#[]⟩, ⟨#[]⟩, false⟩⟩
instance : Inhabited CRow := ⟨⟨none, 0, []⟩⟩
/-- a slice of changes, trodden -/
theorem trod_chgs {fuel : Nat} {v : Value} {x : DataW H × List MemPlace} (hf : DataW.trod enc Tryz.prog w base spare held fuel 34 [v] = some x) :
    ∃ ad cap, ∃ l : List Chg, v = .slice ad l.length cap ∧ chgsAt w ad l ∧ l.length ≤ cap ∧ cap ≤ 9223372036854775807 ∧ ∀ c ∈ l, chgOk c := by
  rcases open_slice Tryz.underlying34 hf with ⟨e, _⟩ | ⟨a, len, cap, m, n, D, Pl, e, _, hl, hm, hmm, _, hx⟩
  · simp at e
    subst e
    exact ⟨none, 0, [], rfl, .inl rfl, by simp, by simp, by simp⟩
  · simp at e
    subst e
    have hlm : len ≤ m := by rw [hmm]; split <;> omega
    have each : ∀ i, i < m → ∃ f : Chg, (∀ (j : Nat) (u : Value), (chgv f)[j]? = some u → w.cell? (a.add (i * 3 + j)) = some u) ∧ chgOk f := by
      intro i hi
      obtain ⟨cs', h1, h2⟩ := hx i hi
      rw [sx_cells_chg] at h1
      obtain ⟨_, hlen, hcell⟩ := World.cells?_some h1
      obtain ⟨y0, y1, y2, n', _, _, g0, g1, g2⟩ := trod_struct3 Tryz.underlying42 h2
      match cs', hlen with
      | [v0, v1, v2], _ =>
        simp [sx_cells_string, sx_cells_bool] at g0 g1 g2
        obtain ⟨x, e0, _, k0⟩ := DataW.trod_string Tryz.underlying9 g0
        obtain ⟨s, e1, _, k1⟩ := DataW.trod_string Tryz.underlying9 g1
        obtain ⟨b, e2, _⟩ := DataW.trod_bool Tryz.underlying4 g2
        simp only [List.cons.injEq, and_true] at e0 e1 e2
        refine ⟨⟨x, s, b⟩, fun j u hu => ?_, k0, k1⟩
        have hu' : [Value.string x, .string s, .bool b][j]? = some u := hu
        match j, hu' with
        | 0, hu =>
          have c := hcell 0 (by omega)
          rw [add_add] at c
          simp at c hu
          rw [← hu, ← e0]; exact c
        | 1, hu =>
          have c := hcell 1 (by omega)
          rw [add_add] at c
          simp at c hu
          rw [← hu, ← e1]; exact c
        | 2, hu =>
          have c := hcell 2 (by omega)
          rw [add_add] at c
          simp at c hu
          rw [← hu, ← e2]; exact c
        | j + 3, hu => simp at hu
    obtain ⟨F, hF⟩ := choose_lt each
    refine ⟨some a, cap, (List.range len).map F, by simp, ?_, by simpa using hl, by unfold maxLen at hm; omega, ?_⟩
    · rcases Nat.eq_zero_or_pos len with rfl | hp
      · exact .inl rfl
      obtain ⟨b, off, spot⟩ := a
      have c0 := (hF 0 (by omega)).1 0 _ rfl
      have hspot : spot = none := by simpa [Addr.add] using World.cell?_spot c0
      subst hspot
      simp only [so_add_none] at hF c0
      refine .inr ⟨b, off, rfl, so_block_of_cell c0, fun i hi j u hu => ?_⟩
      have hi' : i < len := by simpa using hi
      simp only [List.getElem_map, List.getElem_range] at hu
      rw [Nat.add_assoc]
      exact (hF i (by omega)).1 j u hu
    · intro f hf
      obtain ⟨i, hi, rfl⟩ := List.mem_map.1 hf
      exact (hF i (by have := List.mem_range.1 hi; omega)).2
theorem open_chgs {r : Reach} {b0 : Nat} {v : Value} {d : DataW H} {ps : List MemPlace} (hv : Value.okWide Tryz.prog w r b0 34 v) (h : DataW.Trod enc Tryz.prog w base spare held 34 v d ps) :
    ∃ ad cap, ∃ l : List Chg, v = .slice ad l.length cap ∧ chgsAt w ad l ∧ l.length ≤ cap ∧ cap ≤ 9223372036854775807 ∧ ∀ c ∈ l, chgOk c := by
  obtain ⟨a0, len0, cap0, rfl⟩ := okWide_slice Tryz.underlying34 hv
  obtain ⟨fuel, hf⟩ := h
  simp only [Value.cells] at hf
  exact trod_chgs hf
theorem open_crows {r : Reach} {b0 : Nat} {v : Value} {d : DataW H} {ps : List MemPlace} (hv : Value.okWide Tryz.prog w r b0 22 v) (h : DataW.Trod enc Tryz.prog w base spare held 22 v d ps) :
    ∃ ad cap, ∃ l : List CRow, v = .slice ad l.length cap ∧ crowsAt w ad l ∧ l.length ≤ cap ∧ cap ≤ 9223372036854775807 ∧ ∀ r ∈ l, crowOk w r := by
  obtain ⟨a0, len0, cap0, rfl⟩ := okWide_slice Tryz.underlying22 hv
  obtain ⟨fuel, hf⟩ := h
  simp only [Value.cells] at hf
  rcases open_slice Tryz.underlying22 hf with ⟨e, _⟩ | ⟨a, len, cap, m, n, D, Pl, e, _, hl, hm, hmm, _, hx⟩
  · simp at e
    obtain ⟨rfl, rfl, rfl⟩ := e
    exact ⟨none, 0, [], rfl, .inl rfl, by simp, by simp, by simp⟩
  · simp at e
    obtain ⟨rfl, rfl, rfl⟩ := e
    have hlm : len0 ≤ m := by rw [hmm]; split <;> omega
    have each : ∀ i, i < m → ∃ f : CRow, w.cell? (a.add i) = some (.slice f.ad f.l.length f.cap) ∧ crowOk w f := by
      intro i hi
      obtain ⟨cs', h1, h2⟩ := hx i hi
      rw [sx_cells_chgs] at h1
      obtain ⟨_, hlen, hcell⟩ := World.cells?_some h1
      match cs', hlen with
      | [v0], _ =>
        obtain ⟨adk, capk, lk, e0, k1, k2, k3, k4⟩ := trod_chgs h2
        refine ⟨⟨adk, capk, lk⟩, ?_, k1, k2, k3, k4⟩
        have c := hcell 0 (by simp)
        rw [add_add] at c
        simp at c
        rw [← e0]
        exact c
    obtain ⟨F, hF⟩ := choose_lt each
    refine ⟨some a, cap0, (List.range len0).map F, by simp, ?_, by simpa using hl, by unfold maxLen at hm; omega, ?_⟩
    · rcases Nat.eq_zero_or_pos len0 with rfl | hp
      · exact .inl rfl
      obtain ⟨b, off, spot⟩ := a
      have c0 := (hF 0 (by omega)).1
      have hspot : spot = none := by simpa [Addr.add] using World.cell?_spot c0
      subst hspot
      simp only [so_add_none] at hF c0
      refine .inr ⟨b, off, rfl, so_block_of_cell c0, fun i hi => ?_⟩
      have hi' : i < len0 := by simpa using hi
      simp only [List.getElem_map, List.getElem_range]
      exact (hF i (by omega)).1
    · intro y hy
      obtain ⟨i, hi, rfl⟩ := List.mem_map.1 hy
      exact (hF i (by have := List.mem_range.1 hi; omega)).2
end
end Go.Proofs.YtjjejkhekmpgcaaGreat
