/-
  Layer 41: Get reads a patch; the reference's Bytes.
-/
import Derived.Test.YtmjpofceoohglaaPatE
import Derived.Test.YtmjpofceoohglaaLebL
import Derived.Test.YtmjpofceoohglaaLebP
import Derived.Test.YtmjpofceoohglaaMix
namespace Go.Proofs.Ytmjpofceoohglaa
open Go.RowKit

theorem rd_lt (f : Nat) : ∀ (L : List UInt8) (i acc : Nat), acc < 128 ^ i → (rd f L i acc).1 < 128 ^ (i + f) := by
  induction f with
  | zero => intro L i acc _; exact Nat.pow_pos (by omega)
  | succ f ih =>
    intro L i acc h
    have hpos : 0 < 128 ^ (i + (f + 1)) := Nat.pow_pos (by omega)
    cases L with
    | nil => exact hpos
    | cons c t =>
      have hm : acc + c.toNat % 128 * 128 ^ i < 128 ^ (i + 1) := by
        have h1 : c.toNat % 128 ≤ 127 := by omega
        have h2 : c.toNat % 128 * 128 ^ i ≤ 127 * 128 ^ i := Nat.mul_le_mul_right _ h1
        rw [Nat.pow_succ]; omega
      simp only [rd]
      split
      · have := ih t (i + 1) _ hm
        rwa [show i + 1 + f = i + (f + 1) by omega] at this
      · split
        · exact hpos
        · exact Nat.lt_of_lt_of_le hm (Nat.pow_le_pow_right (by omega) (by omega))
theorem rd_rest (f : Nat) : ∀ (L : List UInt8) (i acc : Nat), (rd f L i acc).2.1.length ≤ L.length := by
  induction f with
  | zero => intro L i acc; exact Nat.le_refl _
  | succ f ih =>
    intro L i acc
    cases L with
    | nil => exact Nat.le_refl _
    | cons c t =>
      simp only [rd]
      split
      · exact Nat.le_trans (ih t _ _) (by simp)
      · split <;> simp
theorem num_le (s : ByteArray) (e : Int) : (numR s e).1 ≤ 9223372036854775807 := by
  unfold numR
  split
  · exact Nat.zero_le _
  · have h := rd_lt 9 s.data.toList 0 0 (by simp)
    show (rd 9 s.data.toList 0 0).1 ≤ _
    omega
theorem num_rest (s : ByteArray) (e : Int) : (numR s e).2.1.size ≤ s.size := by
  unfold numR
  split
  · exact Nat.le_refl _
  · have h := rd_rest 9 s.data.toList 0 0
    show (rd 9 s.data.toList 0 0).2.1.toArray.size ≤ _
    rw [List.size_toArray]
    exact h
theorem take_le (s : ByteArray) (e : Int) (n : Nat) : (takeR s e n).1.size ≤ s.size := by
  unfold takeR
  split
  · exact Nat.zero_le _
  · split
    · exact Nat.zero_le _
    · show (s.extract 0 n).size ≤ _
      rw [ByteArray.size_extract]; omega
theorem txt_le (s : ByteArray) (e : Int) : (txtR s e).1.size ≤ s.size := Nat.le_trans (take_le _ _ _) (num_rest s e)

theorem text_ne {t s : ByteArray} (h : ¬ t = s) : (t.toList == s.toList) = false := by
  rw [beq_eq_false_iff_ne]
  intro e
  rw [ByteArray.toList_eq, ByteArray.toList_eq] at e
  exact h (bytes_data e)

/-- what Get answers -/
def getR (s : ByteArray) : Int × Int × ByteArray × Int :=
  if endR (txtR (numR (numR s 0).2.1 (numR s 0).2.2).2.1 (numR (numR s 0).2.1 (numR s 0).2.2).2.2).2.1 (txtR (numR (numR s 0).2.1 (numR s 0).2.2).2.1 (numR (numR s 0).2.1 (numR s 0).2.2).2.2).2.2 = 0 ∧
    lay (patF (numR s 0).1 (numR (numR s 0).2.1 (numR s 0).2.2).1 (txtR (numR (numR s 0).2.1 (numR s 0).2.2).2.1 (numR (numR s 0).2.1 (numR s 0).2.2).2.2).1) = (s, 0)
  then ((numR s 0).1, (numR (numR s 0).2.1 (numR s 0).2.2).1, (txtR (numR (numR s 0).2.1 (numR s 0).2.2).2.1 (numR (numR s 0).2.1 (numR s 0).2.2).2.2).1, 0) else (0, 0, ⟨#[]⟩, 6)
theorem getR_of (s s1 s2 m s3 : ByteArray) (n1 n2 : Nat) (e1 e2 e3 : Int) (h1 : numR s 0 = (n1, s1, e1)) (h2 : numR s1 e1 = (n2, s2, e2)) (h3 : txtR s2 e2 = (m, s3, e3)) :
    getR s = if endR s3 e3 = 0 ∧ lay (patF n1 n2 m) = (s, 0) then ((n1 : Int), (n2 : Int), m, 0) else (0, 0, ⟨#[]⟩, 6) := by
  unfold getR
  simp only [h1, h2, h3]

theorem results_row_tmp {fn : Func} {p u : Tmp} {ty : TypeId} (h : fn.results = #[.cell p ty, .tmp u]) (tmps : Array Value) (w : World) (g : Nat) (cs : Array Value) (v : Value)
    (hp : tmps.getD p undef = .pointer (some ⟨g, 0, none⟩)) (hg : (loadVar ty ⟨g, 0, none⟩).run Try.prog w = .ok (.agg cs) w) (hv : tmps.getD u undef = v) :
    (results fn tmps).run Try.prog w = .ok (.tuple #[.agg cs, v]) w := by
  have hp' : tmps[p]?.getD undef = .pointer (some ⟨g, 0, none⟩) := by simpa using hp
  have hv' : tmps[u]?.getD undef = v := by simpa using hv
  simp [results, h, hp', hv', asAddr, hg]
theorem load_pat (w : World) (g : Nat) (h t : Int) (m : ByteArray) (hg : w.heap[g]? = some (.cells (pat h t m) 23 (0, 0))) : (loadVar 23 ⟨g, 0, none⟩).run Try.prog w = .ok (.agg (pat h t m)) w :=
  run_loadVar_row w g 23 23 (pat h t m) (0, 0) _ hg Try.underlying23 rfl info_pat

set_option maxHeartbeats 2000000 in
theorem get_walk (s : ByteArray) (w : World) (hs : s.size ≤ 9223372036854775807) :
    Calls Try.prog 12 #[.string s] w fun e w' => e = .returned (.tuple #[.agg (pat (getR s).1 (getR s).2.1 (getR s).2.2.1), .int .i64 (getR s).2.2.2]) ∧ Below w.heap.size w w' := by
  obtain ⟨n1, s1, e1, h1⟩ : ∃ n1 s1 e1, numR s 0 = (n1, s1, e1) := ⟨_, _, _, rfl⟩
  obtain ⟨n2, s2, e2, h2⟩ : ∃ n2 s2 e2, numR s1 e1 = (n2, s2, e2) := ⟨_, _, _, rfl⟩
  obtain ⟨m, s3, e3, h3⟩ : ∃ m s3 e3, txtR s2 e2 = (m, s3, e3) := ⟨_, _, _, rfl⟩
  have hg := getR_of s s1 s2 m s3 n1 n2 e1 e2 e3 h1 h2 h3
  have hn1 : n1 ≤ 9223372036854775807 := by have := num_le s 0; rw [h1] at this; exact this
  have hn2 : n2 ≤ 9223372036854775807 := by have := num_le s1 e1; rw [h2] at this; exact this
  have hm : m.size ≤ 9223372036854775807 := by
    have a1 := num_rest s 0
    have a2 := num_rest s1 e1
    have a3 := txt_le s2 e2
    rw [h1] at a1; rw [h2] at a2; rw [h3] at a3
    have a1 : s1.size ≤ s.size := a1
    have a2 : s2.size ≤ s1.size := a2
    have a3 : m.size ≤ s2.size := a3
    omega
  obtain ⟨t, c, htc⟩ : ∃ t c, lay (patF n1 n2 m) = (t, c) := ⟨_, _, rfl⟩
  rw [htc] at hg
  obtain ⟨d, hd⟩ : ∃ d, d = endR s3 e3 := ⟨_, rfl⟩
  rw [← hd] at hg
  have hput := fun w => put_walk n1 n2 m w (by omega) (by omega) hm
  rw [htc] at hput
  have H1 := Lib.hid h1; have H2 := Lib.hid h2; have H3 := Lib.hid h3; have HG := Lib.hid hg; have HD := Lib.hid hd; have HPUT := Lib.hid hput
  clear h1 h2 h3 hg hd hput htc hn1 hn2 hm hs
  go_enter Try.func12, Try.ntmps12
  go_upto_region 1 with fail
  obtain ⟨q0, hq0⟩ : ∃ q, q = w.heap.size := ⟨_, rfl⟩
  have g0 := heap_alloc_top w (.cells #[.int .i64 0, .int .i64 0, .string ⟨#[]⟩] 23)
  have hB := (Below.refl w.heap.size w).alloc (Nat.le_refl _) (.cells #[.int .i64 0, .int .i64 0, .string ⟨#[]⟩] 23)
  have hq1 : w.heap.size < (w.alloc (.cells #[.int .i64 0, .int .i64 0, .string ⟨#[]⟩] 23)).heap.size := by simp
  rw [← hq0] at g0 hB hq1 ⊢
  generalize w.alloc (.cells #[.int .i64 0, .int .i64 0, .string ⟨#[]⟩] 23) = W at g0 hB hq1 ⊢
  have HQ0 := Lib.hid hq0; have G0 := Lib.hid g0; have HB := Lib.hid hB
  clear hq0 g0 hB
  go_wp2_with fail
  refine (over_walk s _).mono ?_
  rintro r w1 ⟨rfl, hb1, i1⟩
  obtain ⟨p, hp⟩ : ∃ p, p = W.heap.size := ⟨_, rfl⟩
  rw [← hp] at hq1 i1 ⊢
  have hbp := HB.out.trans (hb1.mono (by omega))
  have G1 := Lib.hid ((hb1.block q0 (by omega)).trans G0.out)
  have HB1 := Lib.hid hbp; have I1 := Lib.hid i1; have HQ1 := Lib.hid hq1
  clear hp hb1 hbp i1 G0 HB hq1
  go_wp2_with fail
  refine (num_walk p s 0 _ I1.out).mono ?_
  rintro r w2 ⟨rfl, hg2, i2⟩
  rw [H1.out] at i2 ⊢
  have G2 := Lib.hid ((hg2.block q0 (lt_of_block G1.out) (by intro e; have := HQ1.out; cases e; omega)).trans G1.out)
  have HB2 := Lib.hid (below_of_grown HB1.out hg2 (Nat.le_trans (Nat.le_of_eq HQ0.out) HB1.out.size) (fun j hj => by cases hj; exact Nat.le_of_lt HQ1.out))
  have I2 := Lib.hid i2
  clear hg2 i2 G1 HB1 I1
  go_wp2_with fail
  refine (num_walk p s1 e1 _ I2.out).mono ?_
  rintro r w3 ⟨rfl, hg3, i3⟩
  rw [H2.out] at i3 ⊢
  have G3 := Lib.hid ((hg3.block q0 (lt_of_block G2.out) (by intro e; have := HQ1.out; cases e; omega)).trans G2.out)
  have HB3 := Lib.hid (below_of_grown HB2.out hg3 (Nat.le_trans (Nat.le_of_eq HQ0.out) HB2.out.size) (fun j hj => by cases hj; exact Nat.le_of_lt HQ1.out))
  have I3 := Lib.hid i3
  clear hg3 i3 G2 HB2 I2
  have ga := heap_alloc_top w3 (.cells #[.int .i64 0, .int .i64 0, .string ⟨#[]⟩] 23)
  have HGA := Lib.hid ga
  clear ga
  go_upto_region 3 with (refine wpList_store_row rfl 23 _ _ rfl w3.heap.size (pat n1 n2 ⟨#[]⟩) rfl rfl 23 #[.int .i64 0, .int .i64 0, .string ⟨#[]⟩] HGA.out info_pat rfl (by simp [pat, Value.oneCell']) ?_)
  have gb := heap_setRow_same (cs := pat n1 n2 ⟨#[]⟩) HGA.out
  have hb4 := below_setRow (HB3.out.alloc (Nat.le_trans (Nat.le_of_eq HQ0.out) HB3.out.size) (.cells #[.int .i64 0, .int .i64 0, .string ⟨#[]⟩] 23)) (Nat.le_trans (Nat.le_of_eq HQ0.out) HB3.out.size) (g := w3.heap.size) (pat n1 n2 ⟨#[]⟩)
  have hp3 := lt_of_block I3.out
  have hq3 := lt_of_block G3.out
  have gq : ((w3.alloc (.cells #[.int .i64 0, .int .i64 0, .string ⟨#[]⟩] 23)).setRow w3.heap.size (pat n1 n2 ⟨#[]⟩)).heap[q0]? = some (.cells #[.int .i64 0, .int .i64 0, .string ⟨#[]⟩] 23 (0, 0)) := (heap_setRow_other _ _ _ _ (by omega)).trans ((heap_alloc_lt _ _ _ hq3).trans G3.out)
  have i4 : InAt ((w3.alloc (.cells #[.int .i64 0, .int .i64 0, .string ⟨#[]⟩] 23)).setRow w3.heap.size (pat n1 n2 ⟨#[]⟩)) p s2 e2 := (heap_setRow_other _ _ _ _ (by omega)).trans ((heap_alloc_lt _ _ _ hp3).trans I3.out)
  obtain ⟨q5, hq5⟩ : ∃ q, q = w3.heap.size := ⟨_, rfl⟩
  have hqw : w.heap.size ≤ q5 := by have := HB3.out.size; omega
  rw [← hq5] at gb hb4 gq i4 hp3 hq3 ⊢
  generalize (w3.alloc (.cells #[.int .i64 0, .int .i64 0, .string ⟨#[]⟩] 23)).setRow q5 (pat n1 n2 ⟨#[]⟩) = w4 at gb hb4 gq i4 ⊢
  have G5 := Lib.hid gb; have HB4 := Lib.hid hb4; have G4 := Lib.hid gq; have I4 := Lib.hid i4; have HNE := Lib.hid (show p < q5 ∧ q0 < q5 ∧ w.heap.size ≤ q5 from ⟨hp3, hq3, hqw⟩)
  clear gb hb4 gq i4 hp3 hq3 hqw hq5 HGA I3 G3 HB3
  go_wp2_with fail
  refine (txt_walk p s2 e2 _ I4.out).mono ?_
  rintro r w5 ⟨rfl, hg5, i5⟩
  rw [H3.out] at i5 ⊢
  have G6 := Lib.hid ((hg5.block q0 (lt_of_block G4.out) (by intro e; have := HQ1.out; cases e; omega)).trans G4.out)
  have g5 := (hg5.block q5 (lt_of_block G5.out) (by intro e; have := HNE.out; cases e; omega)).trans G5.out
  have HB5 := Lib.hid (below_of_grown HB4.out hg5 (Nat.le_trans (Nat.le_of_eq HQ0.out) HB4.out.size) (fun j hj => by cases hj; exact Nat.le_of_lt HQ1.out))
  have I5 := Lib.hid i5
  have cq : w5.cell? ⟨q5, 2, none⟩ = some (.string ⟨#[]⟩) := by rw [cell_of_row w5 q5 2 _ _ _ g5]; rfl
  have fq : w5.frozen? ⟨q5, 2, none⟩ = false := by simp [World.frozen?, g5]
  have gs : (w5.setCell ⟨q5, 2, none⟩ (.string m)).heap[q5]? = some (.cells (pat n1 n2 m) 23 (0, 0)) := setCell_block g5 _
  have GS := Lib.hid gs
  clear hg5 i5 g5 gs G4 G5 HB4 I4
  go_upto_region 4 with fail
  have g6 := (heap_setCell_ne w5 q5 q0 2 (.string m) (by have := HNE.out; omega)).trans G6.out
  have i6 : InAt (w5.setCell ⟨q5, 2, none⟩ (.string m)) p s3 e3 := (heap_setCell_ne w5 q5 p 2 (.string m) (by have := HNE.out; omega)).trans I5.out
  have hb6 : Below q0 w (w5.setCell ⟨q5, 2, none⟩ (.string m)) := HB5.out.trans ⟨rfl, rfl, rfl, by simp [World.setCell], fun k hk => heap_setCell_ne w5 q5 k 2 (.string m) (by have := HNE.out; omega)⟩
  have gs := GS.out
  clear cq fq
  generalize w5.setCell ⟨q5, 2, none⟩ (.string m) = w6 at g6 i6 hb6 gs ⊢
  have G7 := Lib.hid g6; have I6 := Lib.hid i6; have HB6 := Lib.hid hb6; have GT := Lib.hid gs
  clear g6 i6 hb6 gs GS G6 I5 HB5
  go_wp2_with (refine wpList_row 23 _ rfl q5 rfl rfl 23 (pat n1 n2 m) (0, 0) _ GT.out Try.underlying23 rfl info_pat ?_)
  refine (HPUT.out _).mono ?_
  rintro r w7 ⟨rfl, hb7⟩
  have G8 := Lib.hid ((hb7.block q0 (lt_of_block G7.out)).trans G7.out)
  have GU := Lib.hid ((hb7.block q5 (lt_of_block GT.out)).trans GT.out)
  have I7 := Lib.hid (I6.out.keep hb7 (lt_of_block I6.out))
  have HB7 := Lib.hid (HB6.out.trans (hb7.mono (Nat.le_trans (Nat.le_of_eq HQ0.out) HB6.out.size)))
  clear hb7 G7 GT I6 HB6
  go_wp2_with fail
  refine (end_walk p s3 e3 _ I7.out).mono ?_
  rintro r w8 ⟨rfl, rfl⟩
  rw [← HD.out]
  by_cases hd0 : d = 0
  · subst hd0
    by_cases hc : c = 0
    · subst hc
      by_cases hts : t = s
      · subst hts
        have hr : getR t = ((n1 : Int), (n2 : Int), m, 0) := by rw [HG.out, if_pos ⟨rfl, rfl⟩]
        have HR := Lib.hid hr
        clear hr
        go_wp2_with (first
          | (refine wpList_row 23 _ rfl q5 rfl rfl 23 (pat n1 n2 m) (0, 0) _ GU.out Try.underlying23 rfl info_pat ?_)
          | (refine wpList_store_row rfl 23 _ _ rfl q0 (pat n1 n2 m) rfl rfl 23 #[.int .i64 0, .int .i64 0, .string ⟨#[]⟩] G8.out info_pat rfl (by simp [pat, Value.oneCell']) ?_))
        exact bodyPost_ret (v := .tuple #[.agg (pat n1 n2 m), .int .i64 0]) (results_row_tmp rfl _ _ q0 (pat n1 n2 m) _ rfl (load_pat _ _ _ _ _ (heap_setRow_same G8.out)) rfl) rfl
          ⟨by rw [HR.out], by rw [← HQ0.out]; exact below_setRow HB7.out (Nat.le_refl _) _⟩
      · have hr : getR s = (0, 0, ⟨#[]⟩, 6) := by rw [HG.out, if_neg (fun h => hts (congrArg Prod.fst h.2))]
        have hbe := text_ne hts
        have HR := Lib.hid hr
        clear hr
        go_wp2_with (refine wpList_store_row rfl 23 _ _ rfl q0 (pat 0 0 ⟨#[]⟩) rfl rfl 23 #[.int .i64 0, .int .i64 0, .string ⟨#[]⟩] G8.out info_pat rfl (by simp [pat, Value.oneCell']) ?_)
        exact bodyPost_ret (v := .tuple #[.agg (pat 0 0 ⟨#[]⟩), .int .i64 6]) (results_row_tmp rfl _ _ q0 (pat 0 0 ⟨#[]⟩) _ rfl (load_pat _ _ _ _ _ (heap_setRow_same G8.out)) rfl) rfl
          ⟨by rw [HR.out], by rw [← HQ0.out]; exact below_setRow HB7.out (Nat.le_refl _) _⟩
    · have hr : getR s = (0, 0, ⟨#[]⟩, 6) := by rw [HG.out, if_neg (fun h => hc (congrArg Prod.snd h.2))]
      have HR := Lib.hid hr
      clear hr
      go_wp2_with (refine wpList_store_row rfl 23 _ _ rfl q0 (pat 0 0 ⟨#[]⟩) rfl rfl 23 #[.int .i64 0, .int .i64 0, .string ⟨#[]⟩] G8.out info_pat rfl (by simp [pat, Value.oneCell']) ?_)
      exact bodyPost_ret (v := .tuple #[.agg (pat 0 0 ⟨#[]⟩), .int .i64 6]) (results_row_tmp rfl _ _ q0 (pat 0 0 ⟨#[]⟩) _ rfl (load_pat _ _ _ _ _ (heap_setRow_same G8.out)) rfl) rfl
        ⟨by rw [HR.out], by rw [← HQ0.out]; exact below_setRow HB7.out (Nat.le_refl _) _⟩
  · have hr : getR s = (0, 0, ⟨#[]⟩, 6) := by rw [HG.out, if_neg (fun h => hd0 h.1)]
    have HR := Lib.hid hr
    clear hr
    go_wp2_with (refine wpList_store_row rfl 23 _ _ rfl q0 (pat 0 0 ⟨#[]⟩) rfl rfl 23 #[.int .i64 0, .int .i64 0, .string ⟨#[]⟩] G8.out info_pat rfl (by simp [pat, Value.oneCell']) ?_)
    exact bodyPost_ret (v := .tuple #[.agg (pat 0 0 ⟨#[]⟩), .int .i64 6]) (results_row_tmp rfl _ _ q0 (pat 0 0 ⟨#[]⟩) _ rfl (load_pat _ _ _ _ _ (heap_setRow_same G8.out)) rfl) rfl
      ⟨by rw [HR.out], by rw [← HQ0.out]; exact below_setRow HB7.out (Nat.le_refl _) _⟩
end Go.Proofs.Ytmjpofceoohglaa
