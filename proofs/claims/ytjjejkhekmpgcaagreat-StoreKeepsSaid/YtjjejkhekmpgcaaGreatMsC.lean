/-
  Layer 6: a transaction is read.
  Layer 6: values by rising keys (plain).
-/
import Derived.Test.YtjjejkhekmpgcaaGreatMsB
import Derived.Test.YtjjejkhekmpgcaaGreatMsA
import Derived.Test.YtjjejkhekmpgcaaGreatMgD
import Derived.Test.YtjjejkhekmpgcaaGreatMgE
import Derived.Test.YtjjejkhekmpgcaaGreatMgF
namespace Go.Proofs.YtjjejkhekmpgcaaGreat
set_option maxRecDepth 4000
open Go.RowKit

theorem info_chg3 : (Tryz.prog.info? 42).map (fun i => (i.zero, i.size, i.bytes)) = some (some (.agg #[.string ⟨#[]⟩, .string ⟨#[]⟩, .bool false]), 3, 40) := by kernel_rfl
/-- changes in a row of our own -/
def ChgRow (w : World) (base : Nat) (v : Value) (l : List Chg) : Prop := w.ownsRow base 42 3 v l.length (l.flatMap chgv)
theorem ChgRow.nil (w : World) (base : Nat) : ChgRow w base (.slice none 0 0) [] := World.ownsRow_nil _ _ _ _
theorem ChgRow.keep {w w' : World} {base B : Nat} {v : Value} {l : List Chg} (h : ChgRow w base v l) (hb : Below B w w') (hB : w.heap.size ≤ B) : ChgRow w' base v l := own_below h hb hB
theorem ChgRow.grown {w w' : World} {base : Nat} {v : Value} {l : List Chg} {row : Option Nat} (h : ChgRow w base v l) (hg : w.grownBy w' row) (hne : v.ownBlock = none ∨ v.ownBlock ≠ row) : ChgRow w' base v l := World.ownsRow.kept h hg hne
theorem chgv_one (l : List Chg) : ∀ u ∈ l.flatMap chgv, u.oneCell' = true := by
  intro u hu
  obtain ⟨f, _, hf⟩ := List.mem_flatMap.1 hu
  simp only [chgv, List.mem_cons, List.not_mem_nil, or_false] at hf
  rcases hf with rfl | rfl | rfl <;> rfl
theorem src_chg {w : World} {p : Nat} (c : Chg) (t : TypeId) (hg : w.heap[p]? = some (.cells #[.string c.key, .string c.val, .bool c.gone] t (0, 0))) : Src Tryz.prog 3 34 (.slice (some ⟨p, 0, none⟩) 1 1) [c].length ([c].flatMap chgv) w :=
  Src.ofSlice w Tryz.underlying34 ⟨p, 0, none⟩ 1 1 ([c].flatMap chgv) rfl (by
    intro j u hu
    have e : (⟨p, 0, none⟩ : Addr).add j = ⟨p, j, none⟩ := by unfold Addr.add; split <;> simp_all
    rw [e, cell_of_row w p j _ _ _ hg]
    simpa [chgv] using hu) (chgv_one [c])
theorem wpList_append_chg {ops : Array Oper} {rest : List Oper} {o : Oper} {a : Act} {w : World} {Q : Exit → Act → World → Prop} (hgd : o.guard = none) (s x : Operand)
    (ho : o.op = .call { callee := .builtin .append, args := #[s, x], argTypes := #[34, 34] })
    (base : Nat) (v : Value) (l : List Chg) (hs : a.eval s = v) (hrow : ChgRow w base v l)
    (xv : Value) (c : Chg) (hx : a.eval x = xv) (hsrc : Src Tryz.prog 3 34 xv [c].length ([c].flatMap chgv) w)
    (hlen : l.length ≤ 2000000000000) (hbase : base ≤ w.heap.size)
    (h : ∀ v' w', ChgRow w' base v' (l ++ [c]) → w.grownBy w' v.ownBlock → (v'.ownBlock = v.ownBlock ∨ ∀ k, v'.ownBlock = some k → w.heap.size ≤ k) → wpList Tryz.prog ops Q rest (a.put o.dst v') w') : wpList Tryz.prog ops Q (o :: rest) a w := by
  obtain ⟨i0, hi, hz0, hz1, hz2⟩ := info_parts info_chg3
  refine wpList_append_at w hgd s x 34 34 ho base 42 i0 (.agg #[.string ⟨#[]⟩, .string ⟨#[]⟩, .bool false]) 3 40 Tryz.underlying34 hi hz0 hz1 hz2 rfl (by decide) v l.length _ hs hrow xv [c].length _ hx hsrc (by unfold maxLen; simp; omega) (by simp; omega) hbase fun v' w' h1 h2 h3 => h v' w' ?_ h2 h3
  unfold ChgRow
  rw [List.length_append, List.flatMap_append]
  exact h1

/-- what read answers -/
def rdC : Nat → ByteArray → Int → List Chg → List Chg × Bool
  | 0, _, _, _ => ([], false)
  | f + 1, s, e, acc =>
    if e = 0 ∧ 0 < s.size then
      let k := txtR s e
      let n := numR k.2.1 k.2.2
      let v := if n.1 = 0 then txtR n.2.1 n.2.2 else (⟨#[]⟩, n.2.1, n.2.2)
      if 1 < n.1 ∨ mayC ⟨k.1, v.1, decide (n.1 = 1)⟩ = false then ([], false) else rdC f v.2.1 v.2.2 (acc ++ [⟨k.1, v.1, decide (n.1 = 1)⟩])
    else (acc, decide (endR s e = 0) && decide (0 < acc.length))
def readC (s : ByteArray) : List Chg × Bool := rdC (s.size + 1) s 0 []
def ReadCPost (w : World) (R : List Chg × Bool) (e : Ending) (w' : World) : Prop :=
  ∃ v, e = .returned (.tuple #[v, .bool R.2]) ∧ Below w.heap.size w w' ∧ (R.2 = true → ChgRow w' w.heap.size v R.1)

theorem num_size (s : ByteArray) (e : Int) : (numR s e).2.1.size ≤ s.size := by
  unfold numR
  split
  · exact Nat.le_refl _
  · have : ∀ (f : Nat) (L : List UInt8) (i acc : Nat), (rd f L i acc).2.1.length ≤ L.length := by
      intro f
      induction f with
      | zero => intro L i acc; exact Nat.le_refl _
      | succ f ih =>
        intro L i acc
        cases L with
        | nil => exact Nat.le_refl _
        | cons c r =>
          unfold rd
          split
          · exact Nat.le_trans (ih r _ _) (by simp)
          · split <;> simp
    have h := this 9 s.data.toList 0 0
    rw [show s.data.toList.length = s.size by simp] at h
    rw [show (⟨(rd 9 s.data.toList 0 0).2.1.toArray⟩ : ByteArray).size = (rd 9 s.data.toList 0 0).2.1.length from List.size_toArray]
    exact h
theorem take_size (s : ByteArray) (e : Int) (n : Nat) : (takeR s e n).1.size + (takeR s e n).2.1.size ≤ s.size := by
  unfold takeR
  split
  · show 0 + s.size ≤ _; omega
  · split
    · show 0 + s.size ≤ _; omega
    · show (s.extract 0 n).size + (s.extract n s.size).size ≤ s.size
      rw [ByteArray.size_extract, ByteArray.size_extract]; omega
theorem txt_size2 (s : ByteArray) (e : Int) : (txtR s e).1.size + (txtR s e).2.1.size ≤ s.size := by
  have h1 := take_size (numR s e).2.1 (numR s e).2.2 (numR s e).1
  have h2 := num_size s e
  unfold txtR
  omega

set_option maxHeartbeats 8000000 in
theorem sread_walk (s : ByteArray) (w : World) (hs : s.size ≤ 1000000) :
    Calls Tryz.prog 34 #[.string s] w fun r w' => ReadCPost w (readC s) r w' := by
  obtain ⟨R, hR⟩ : ∃ R, R = readC s := ⟨_, rfl⟩
  rw [← hR]
  have HR := Lib.hid hR; have HS := Lib.hid hs
  clear hR hs
  obtain ⟨q, hq⟩ : ∃ q, q = w.heap.size := ⟨_, rfl⟩
  have HQ := Lib.hid hq
  go_enter Tryz.func34, Tryz.ntmps34
  go_wp2_with fail
  refine (over_walk s w).mono ?_
  rintro r w0 ⟨rfl, hb0, hi0⟩
  rw [← hq] at hb0 hi0 ⊢
  have HB0 := Lib.hid hb0; have HI0 := Lib.hid hi0
  clear hb0 hi0 hq
  go_wp2_with fail
  go_loopg [5] s.size (fun gk vo wr => ∃ (s' : ByteArray) (e' : Int) (acc : List Chg), InAt wr q s' e' ∧ ChgRow wr (q + 1) vo acc ∧ rdC (gk + 1) s' e' acc = R ∧ s'.size ≤ gk ∧ acc.length + s'.size ≤ s.size ∧ Below q w wr)
  case atStart => exact ⟨s, 0, [], HI0.out, ChgRow.nil _ _, by rw [HR.out]; rfl, Nat.le_refl _, by simp, HB0.out⟩
  case round =>
    obtain ⟨s', e', acc, hin, hrow, hrd, hgk, hac, hb⟩ := hrel
    have hs1 : s'.size ≤ 1000000 := by have := HS.out; omega
    have hac1 : acc.length ≤ 1000000 := by have := HS.out; omega
    unfold rdC at hrd
    have hqw := lt_of_block hin
    obtain ⟨ad, cap, rfl⟩ := own_form hrow
    by_cases h0 : e' = 0 ∧ 0 < s'.size
    · obtain ⟨rfl, h0⟩ := h0
      rw [if_pos ⟨rfl, h0⟩] at hrd
      have hts := txt_size2 s' 0
      obtain ⟨k, s1, e1, hk⟩ : ∃ k s1 e1, txtR s' 0 = (k, s1, e1) := ⟨_, _, _, rfl⟩
      have hns := num_size s1 e1
      obtain ⟨n, s2, e2, hn⟩ : ∃ n s2 e2, numR s1 e1 = (n, s2, e2) := ⟨_, _, _, rfl⟩
      rw [hk] at hrd hts
      rw [hn] at hns
      simp only [hn] at hrd
      replace hts : k.size + s1.size ≤ s'.size := hts
      replace hns : s2.size ≤ s1.size := hns
      have hln : leftN s' 0 = s'.size := by unfold leftN; rw [if_pos rfl]
      have hpos : (0 : Int) < (s'.size : Int) := by omega
      have KL := Lib.hid (left_walk q s' 0 wr hin)
      rw [hln] at KL
      have KT := Lib.hid (txt_walk q s' 0 wr hin)
      rw [hk] at KT
      have HIN := Lib.hid hin; have HROW := Lib.hid hrow; have HRD := Lib.hid hrd; have HB := Lib.hid hb; have HS1 := Lib.hid hs1; have HAC := Lib.hid hac; have HAC1 := Lib.hid hac1; have HTS := Lib.hid hts; have HNS := Lib.hid hns; have HGK := Lib.hid hgk; have HN := Lib.hid hn; have HQW := Lib.hid hqw
      clear hin hrow hrd hb hs1 hac hac1 hts hns hgk hn hk hln hqw
      go_wp2_with fail
      refine KL.out.mono ?_
      rintro r w1 ⟨rfl, rfl⟩
      clear KL
      go_wp2_with fail
      refine KT.out.mono ?_
      rintro r w1 ⟨rfl, hg1, hi1⟩
      replace hi1 : InAt w1 q s1 e1 := hi1
      have hnq : (Value.slice ad acc.length cap).ownBlock = none ∨ (Value.slice ad acc.length cap).ownBlock ≠ some q := .inr fun e => by have := (HROW.out.lt q e).1; omega
      have hr1 := HROW.out.grown hg1 hnq
      have hb1 := below_of_grown HB.out hg1 (by have := HQW.out; omega) (fun k hk => by injection hk with hk; omega)
      have HI1 := Lib.hid hi1; have HR1 := Lib.hid hr1; have HB1 := Lib.hid hb1; have HNQ := Lib.hid hnq
      clear hg1 hi1 hr1 hb1 KT HIN HROW HB hnq
      go_upto_region 5 with fail
      obtain ⟨p, hp⟩ : ∃ p, p = w1.heap.size := ⟨_, rfl⟩
      have g2 := heap_alloc_top w1 (.cells #[.string k, .string ⟨#[]⟩, .bool false] 42)
      have i2 : InAt (w1.alloc (.cells #[.string k, .string ⟨#[]⟩, .bool false] 42)) q s1 e1 := (heap_alloc_lt w1 _ q (lt_of_block HI1.out)).trans HI1.out
      have r2 : ChgRow (w1.alloc (.cells #[.string k, .string ⟨#[]⟩, .bool false] 42)) (q + 1) (.slice ad acc.length cap) acc := World.ownsRow.alloc HR1.out _
      have b2 := HB1.out.alloc (by have := lt_of_block HI1.out; omega) (.cells #[.string k, .string ⟨#[]⟩, .bool false] 42)
      rw [← hp] at g2 ⊢
      generalize w1.alloc (.cells #[.string k, .string ⟨#[]⟩, .bool false] 42) = w2 at g2 i2 r2 b2 ⊢
      have hpq : q < p := by have := lt_of_block HI1.out; omega
      have hpr : ∀ j, (Value.slice ad acc.length cap).ownBlock = some j → j < p := fun j e => by have := (HR1.out.lt j e).2; omega
      have hnp : (Value.slice ad acc.length cap).ownBlock = none ∨ (Value.slice ad acc.length cap).ownBlock ≠ some p := .inr fun e => by have := hpr p e; omega
      have HPQ := Lib.hid hpq; have HNP := Lib.hid hnp
      clear hp hpr hnp HI1 HR1 HB1 hpq
      have KN := Lib.hid (num_walk q s1 e1 w2 i2)
      rw [HN.out] at KN
      have G2 := Lib.hid g2; have R2 := Lib.hid r2; have B2 := Lib.hid b2
      clear g2 i2 r2 b2
      go_wp2_with fail
      refine KN.out.mono ?_
      rintro r w3 ⟨rfl, hg3, hi3⟩
      replace hi3 : InAt w3 q s2 e2 := hi3
      have g3 := (hg3.block p (lt_of_block G2.out) (fun e => by have := HPQ.out; injection e with e; omega)).trans G2.out
      have r3 := R2.out.grown hg3 HNQ.out
      have b3 := below_of_grown B2.out hg3 (by have := lt_of_block G2.out; have := HPQ.out; omega) (fun k hk => by injection hk with hk; omega)
      have f2 := free_at g3 2
      have c2 := cell_at (j := 2) (v := .bool false) g3 rfl
      have I3 := Lib.hid hi3; have G3 := Lib.hid g3; have R3 := Lib.hid r3; have B3 := Lib.hid b3
      clear hg3 hi3 g3 r3 b3 KN G2 R2 B2
      have hRow : ∀ (x : Value) (j : Nat) (W : World), ChgRow W (q + 1) (.slice ad acc.length cap) acc → ChgRow (W.setCell ⟨p, j, none⟩ x) (q + 1) (.slice ad acc.length cap) acc := fun x j W h => h.grown (grownBy_setCell W p j x) HNP.out
      have hIn : ∀ (x : Value) (j : Nat) (W : World) (t : ByteArray) (e : Int), InAt W q t e → InAt (W.setCell ⟨p, j, none⟩ x) q t e := fun x j W t e h => ((grownBy_setCell W p j x).block q (lt_of_block h) (fun e => by have := HPQ.out; injection e with e; omega)).trans h
      have hBel : ∀ (x : Value) (j : Nat) (W : World), Below q w W → Below q w (W.setCell ⟨p, j, none⟩ x) := fun x j W h => h.setCell (p := ⟨p, j, none⟩) (by have := HPQ.out; show q ≤ p; omega) x
      have HROW := Lib.hid hRow; have HIN := Lib.hid hIn; have HBEL := Lib.hid hBel
      clear hRow hIn hBel
      have hcase : n = 0 ∨ n = 1 ∨ 1 < n := by omega
      rcases hcase with rfl | rfl | hn1
      · -- a value
        have hrd := HRD.out
        rw [if_pos rfl] at hrd
        have htv := txt_size2 s2 e2
        obtain ⟨v, s3, e3, hv⟩ : ∃ v s3 e3, txtR s2 e2 = (v, s3, e3) := ⟨_, _, _, rfl⟩
        rw [hv] at hrd htv
        replace htv : v.size + s3.size ≤ s2.size := htv
        replace hrd : (if 1 < 0 ∨ mayC ⟨k, v, false⟩ = false then ([], false) else rdC gk s3 e3 (acc ++ [⟨k, v, false⟩])) = R := hrd
        replace HRD := Lib.hid hrd; have HTV := Lib.hid htv; have HV := Lib.hid hv
        clear hrd htv hv
        go_upto_region 7 with fail
        have g4 := set_at (i := 2) G3.out (.bool false)
        have i4 := HIN.out (.bool false) 2 w3 s2 e2 I3.out
        have r4 := HROW.out (.bool false) 2 w3 R3.out
        have b4 := HBEL.out (.bool false) 2 w3 B3.out
        generalize w3.setCell ⟨p, 2, none⟩ (.bool false) = w4 at g4 i4 r4 b4 ⊢
        replace g4 : w4.heap[p]? = some (.cells #[.string k, .string ⟨#[]⟩, .bool false] 42 (0, 0)) := g4
        have KT2 := Lib.hid (txt_walk q s2 e2 w4 i4)
        rw [HV.out] at KT2
        have G4 := Lib.hid g4; have R4 := Lib.hid r4; have B4 := Lib.hid b4
        clear f2 c2 g4 i4 r4 b4 I3 G3 R3 B3
        go_wp2_with fail
        refine KT2.out.mono ?_
        rintro r w5 ⟨rfl, hg5, hi5⟩
        replace hi5 : InAt w5 q s3 e3 := hi5
        have g5 := (hg5.block p (lt_of_block G4.out) (fun e => by have := HPQ.out; injection e with e; omega)).trans G4.out
        have r5 := R4.out.grown hg5 HNQ.out
        have b5 := below_of_grown B4.out hg5 (by have := lt_of_block G4.out; have := HPQ.out; omega) (fun k hk => by injection hk with hk; omega)
        have f1 := free_at g5 1
        have c1 := cell_at (j := 1) (v := .string ⟨#[]⟩) g5 rfl
        have I5 := Lib.hid hi5; have G5 := Lib.hid g5; have R5 := Lib.hid r5; have B5 := Lib.hid b5
        clear hg5 hi5 g5 r5 b5 KT2 G4 R4 B4
        go_upto_region 9 with fail
        have g6 := set_at (i := 1) G5.out (.string v)
        have i6 := HIN.out (.string v) 1 w5 s3 e3 I5.out
        have r6 := HROW.out (.string v) 1 w5 R5.out
        have b6 := HBEL.out (.string v) 1 w5 B5.out
        generalize w5.setCell ⟨p, 1, none⟩ (.string v) = w6 at g6 i6 r6 b6 ⊢
        replace g6 : w6.heap[p]? = some (.cells #[.string k, .string v, .bool false] 42 (0, 0)) := g6
        have G6 := Lib.hid g6; have I6 := Lib.hid i6; have R6 := Lib.hid r6; have B6 := Lib.hid b6
        clear f1 c1 g6 i6 r6 b6 G5 I5 R5 B5
        have KM := Lib.hid (cmay_walk ⟨k, v, false⟩ w6 (by have := HTS.out; have := HS1.out; show k.size ≤ _; omega) (by have := HTS.out; have := HS1.out; have := HTV.out; have := HNS.out; show v.size ≤ _; omega))
        have HQ6 := Lib.hid (Nat.le_trans (Nat.le_of_lt HPQ.out) (Nat.le_of_lt (lt_of_block G6.out)))
        go_wp2_with (refine wpList_row 42 _ rfl p rfl rfl 42 #[.string k, .string v, .bool false] (0, 0) _ G6.out Tryz.underlying42 rfl (by kernel_rfl) ?_)
        refine KM.out.mono ?_
        rintro r w7 ⟨rfl, hb7⟩
        clear KM
        have B7 := Lib.hid (B6.out.trans (hb7.mono HQ6.out))
        have G7 := Lib.hid ((hb7.block p (lt_of_block G6.out)).trans G6.out)
        have I7 := Lib.hid (InAt.keep I6.out hb7 (Nat.lt_trans HPQ.out (lt_of_block G6.out)))
        have R7 := Lib.hid (R6.out.keep hb7 (Nat.le_refl _))
        clear hb7 B6 I6 R6 G6
        by_cases hm : mayC ⟨k, v, false⟩ = true
        · have hk1 : 1 ≤ k.size := by
            unfold mayC at hm
            simp only [Bool.and_eq_true, decide_eq_true_eq] at hm
            exact hm.1.1.1
          have hrd := HRD.out
          rw [if_neg (by simp [hm])] at hrd
          replace HRD := Lib.hid hrd; have HK1 := Lib.hid hk1
          clear hrd hk1
          rw [hm]
          clear hm
          go_wp2_with (first | (refine wpList_row 42 _ rfl p rfl rfl 42 #[.string k, .string v, .bool false] (0, 0) _ G7.out Tryz.underlying42 rfl (by kernel_rfl) ?_) | (at_builtin; refine wpList_append_chg rfl _ _ rfl (q + 1) _ acc rfl (World.ownsRow.alloc R7.out _) _ ⟨k, v, false⟩ rfl (src_chg (p := w7.heap.size) ⟨k, v, false⟩ _ (heap_alloc_top _ _)) ?_ ?_ ?_))
          · have := HAC1.out; omega
          · have := lt_of_block I7.out; simp; omega
          intro v8 w8 hr8 hg8 hp8
          have hrow7 : ChgRow (w7.alloc (.cells #[.string k, .string v, .bool false] 42)) (q + 1) (.slice ad acc.length cap) acc := World.ownsRow.alloc R7.out _
          have hb8 := below_of_grown (B7.out.alloc (by have := lt_of_block I7.out; omega) (.cells #[.string k, .string v, .bool false] 42)) hg8 (by have := lt_of_block I7.out; simp; omega) (fun j hj => by have := (hrow7.lt j hj).1; omega)
          have hi8 : InAt w8 q s3 e3 := (hg8.block q (by have := lt_of_block I7.out; simp; omega) (fun e => by have := (hrow7.lt q e.symm).1; omega)).trans ((heap_alloc_lt w7 _ q (lt_of_block I7.out)).trans I7.out)
          have M1 := Lib.hid hr8; have M2 := Lib.hid hb8; have M3 := Lib.hid hi8
          clear hr8 hg8 hp8 hrow7 hb8 hi8 B7 G7 I7 R7
          go_wp2_with fail
          go_roundg (gk - 1)
          case measure => have h1 := HTS.out; have h2 := HK1.out; have h3 := HGK.out; omega
          case rel =>
            have h1 := HTS.out; have h2 := HK1.out; have h3 := HGK.out; have h4 := HAC.out; have h5 := HNS.out; have h6 := HTV.out
            refine ⟨s3, e3, acc ++ [⟨k, v, false⟩], M3.out, M1.out, ?_, by omega, by rw [List.length_append, List.length_singleton]; omega, M2.out⟩
            rw [show gk - 1 + 1 = gk by omega]
            exact HRD.out
        · have hm2 : mayC ⟨k, v, false⟩ = false := by simpa using hm
          have hR : R = ([], false) := by rw [← HRD.out, if_pos (.inr hm2)]
          subst hR
          rw [hm2]
          clear HRD hm hm2
          go_wp2_with fail
          go_ret2
          exact ⟨_, rfl, by rw [HQ.out]at B7; exact B7.out, fun h => by cases h⟩
      · -- none
        have hrd := HRD.out
        replace hrd : (if 1 < 1 ∨ mayC ⟨k, ⟨#[]⟩, true⟩ = false then ([], false) else rdC gk s2 e2 (acc ++ [⟨k, ⟨#[]⟩, true⟩])) = R := hrd
        replace HRD := Lib.hid hrd
        clear hrd
        go_upto_region 7 with fail
        have g6 := set_at (i := 2) G3.out (.bool true)
        have i6 := HIN.out (.bool true) 2 w3 s2 e2 I3.out
        have r6 := HROW.out (.bool true) 2 w3 R3.out
        have b6 := HBEL.out (.bool true) 2 w3 B3.out
        generalize w3.setCell ⟨p, 2, none⟩ (.bool true) = w6 at g6 i6 r6 b6 ⊢
        replace g6 : w6.heap[p]? = some (.cells #[.string k, .string ⟨#[]⟩, .bool true] 42 (0, 0)) := g6
        have G6 := Lib.hid g6; have I6 := Lib.hid i6; have R6 := Lib.hid r6; have B6 := Lib.hid b6
        clear f2 c2 g6 i6 r6 b6 I3 G3 R3 B3
        have KM := Lib.hid (cmay_walk ⟨k, ⟨#[]⟩, true⟩ w6 (by have := HTS.out; have := HS1.out; show k.size ≤ _; omega) (by show 0 ≤ _; omega))
        have HQ6 := Lib.hid (Nat.le_trans (Nat.le_of_lt HPQ.out) (Nat.le_of_lt (lt_of_block G6.out)))
        go_wp2_with (refine wpList_row 42 _ rfl p rfl rfl 42 #[.string k, .string ⟨#[]⟩, .bool true] (0, 0) _ G6.out Tryz.underlying42 rfl (by kernel_rfl) ?_)
        refine KM.out.mono ?_
        rintro r w7 ⟨rfl, hb7⟩
        clear KM
        have B7 := Lib.hid (B6.out.trans (hb7.mono HQ6.out))
        have G7 := Lib.hid ((hb7.block p (lt_of_block G6.out)).trans G6.out)
        have I7 := Lib.hid (InAt.keep I6.out hb7 (Nat.lt_trans HPQ.out (lt_of_block G6.out)))
        have R7 := Lib.hid (R6.out.keep hb7 (Nat.le_refl _))
        clear hb7 B6 I6 R6 G6
        by_cases hm : mayC ⟨k, ⟨#[]⟩, true⟩ = true
        · have hk1 : 1 ≤ k.size := by
            unfold mayC at hm
            simp only [Bool.and_eq_true, decide_eq_true_eq] at hm
            exact hm.1.1.1
          have hrd := HRD.out
          rw [if_neg (by simp [hm])] at hrd
          replace HRD := Lib.hid hrd; have HK1 := Lib.hid hk1
          clear hrd hk1
          rw [hm]
          clear hm
          go_wp2_with (first | (refine wpList_row 42 _ rfl p rfl rfl 42 #[.string k, .string ⟨#[]⟩, .bool true] (0, 0) _ G7.out Tryz.underlying42 rfl (by kernel_rfl) ?_) | (at_builtin; refine wpList_append_chg rfl _ _ rfl (q + 1) _ acc rfl (World.ownsRow.alloc R7.out _) _ ⟨k, ⟨#[]⟩, true⟩ rfl (src_chg (p := w7.heap.size) ⟨k, ⟨#[]⟩, true⟩ _ (heap_alloc_top _ _)) ?_ ?_ ?_))
          · have := HAC1.out; omega
          · have := lt_of_block I7.out; simp; omega
          intro v8 w8 hr8 hg8 hp8
          have hrow7 : ChgRow (w7.alloc (.cells #[.string k, .string ⟨#[]⟩, .bool true] 42)) (q + 1) (.slice ad acc.length cap) acc := World.ownsRow.alloc R7.out _
          have hb8 := below_of_grown (B7.out.alloc (by have := lt_of_block I7.out; omega) (.cells #[.string k, .string ⟨#[]⟩, .bool true] 42)) hg8 (by have := lt_of_block I7.out; simp; omega) (fun j hj => by have := (hrow7.lt j hj).1; omega)
          have hi8 : InAt w8 q s2 e2 := (hg8.block q (by have := lt_of_block I7.out; simp; omega) (fun e => by have := (hrow7.lt q e.symm).1; omega)).trans ((heap_alloc_lt w7 _ q (lt_of_block I7.out)).trans I7.out)
          have M1 := Lib.hid hr8; have M2 := Lib.hid hb8; have M3 := Lib.hid hi8
          clear hr8 hg8 hp8 hrow7 hb8 hi8 B7 G7 I7 R7
          go_wp2_with fail
          go_roundg (gk - 1)
          case measure => have h1 := HTS.out; have h2 := HK1.out; have h3 := HGK.out; omega
          case rel =>
            have h1 := HTS.out; have h2 := HK1.out; have h3 := HGK.out; have h4 := HAC.out; have h5 := HNS.out
            refine ⟨s2, e2, acc ++ [⟨k, ⟨#[]⟩, true⟩], M3.out, M1.out, ?_, by omega, by rw [List.length_append, List.length_singleton]; omega, M2.out⟩
            rw [show gk - 1 + 1 = gk by omega]
            exact HRD.out
        · have hm2 : mayC ⟨k, ⟨#[]⟩, true⟩ = false := by simpa using hm
          have hR : R = ([], false) := by rw [← HRD.out, if_pos (.inr hm2)]
          subst hR
          rw [hm2]
          clear HRD hm hm2
          go_wp2_with fail
          go_ret2
          exact ⟨_, rfl, by rw [HQ.out]at B7; exact B7.out, fun h => by cases h⟩
      · have hR : R = ([], false) := by rw [← HRD.out, if_pos (.inl hn1)]
        subst hR
        have n0 : ((n : Int) == 0) = false := by simp; omega
        have n1 : ((n : Int) == 1) = false := by simp; omega
        have n2 : (1 : Int) < (n : Int) := by omega
        have HBF := Lib.hid (HBEL.out (.bool false) 2 w3 B3.out)
        clear HRD hn1
        go_wp2_with fail
        go_ret2
        exact ⟨_, rfl, by rw [HQ.out] at HBF; exact HBF.out, fun h => by cases h⟩
    · rw [if_neg h0] at hrd
      have KE := Lib.hid (end_walk q s' e' wr hin)
      have KL := Lib.hid (left_walk q s' e' wr hin)
      have hln : leftN s' e' = 0 := by
        unfold leftN
        split
        · rename_i he
          have : ¬ 0 < s'.size := fun h => h0 ⟨he, h⟩
          omega
        · rfl
      rw [hln] at KL
      have HROW := Lib.hid hrow; have HRD := Lib.hid hrd; have HB := Lib.hid hb; have HAC1 := Lib.hid hac1
      clear hin hrow hrd hb hac hac1 h0 hs1 hgk hln hqw
      go_wp2_with fail
      refine KL.out.mono ?_
      rintro r w1 ⟨rfl, rfl⟩
      clear KL
      go_wp2_with fail
      refine KE.out.mono ?_
      rintro r w1 ⟨rfl, rfl⟩
      clear KE
      by_cases he : endR s' e' = 0
      · rw [he]
        have hR : R = (acc, decide (0 < acc.length)) := by rw [← HRD.out, he]; rfl
        by_cases hl : acc.length = 0
        · obtain rfl : acc = [] := List.eq_nil_of_length_eq_zero hl
          obtain rfl : R = ([], false) := hR
          clear he hl HRD
          go_wp2_with fail
          go_ret2
          exact ⟨_, rfl, by rw [HQ.out] at HB; exact HB.out, fun h => by cases h⟩
        · rw [decide_eq_true (by omega)] at hR
          subst hR
          have hl2 : (0 : Int) < (acc.length : Int) := by omega
          obtain ⟨m, hm⟩ : ∃ m, m = acc.length := ⟨_, rfl⟩
          have HM := Lib.hid hm
          rw [← hm] at hl2 ⊢
          have hl3 : decide (0 < m) = true := decide_eq_true (by omega)
          clear he hl HRD hm
          go_wp2_with fail
          go_ret2
          refine ⟨.slice ad m cap, by first | rfl | (rw [← hl3]; rfl), by rw [HQ.out] at HB; exact HB.out, fun _ => ?_⟩
          have h := HROW.out
          rw [← HM.out] at h
          exact ⟨h.1, h.2.imp id fun ⟨g, c, cur, h1, h2, h3⟩ => ⟨g, c, cur, by rw [h1], by have := HQ.out; omega, h3⟩⟩
      · have h2 : (endR s' e' == 0) = false := by simpa using he
        have hR : R = (acc, false) := by rw [← HRD.out, decide_eq_false he]; rfl
        subst hR
        clear HRD he
        go_wp2_with fail
        go_ret2
        exact ⟨_, rfl, by rw [HQ.out] at HB; exact HB.out, fun h => by cases h⟩
end Go.Proofs.YtjjejkhekmpgcaaGreat

namespace Go.Proofs.YtjjejkhekmpgcaaGreat
set_option maxRecDepth 4000
open Go.RowKit

/-- values by rising keys -/
abbrev Kv := List (ByteArray × ByteArray)
def ltK (a b : ByteArray) : Prop := a.data.toList < b.data.toList
instance (a b : ByteArray) : Decidable (ltK a b) := inferInstanceAs (Decidable (a.data.toList < b.data.toList))
theorem ltK_trans {a b c : ByteArray} (h : ltK a b) (h2 : ltK b c) : ltK a c := List.lt_trans h h2
theorem ltK_asymm {a b : ByteArray} (h : ltK a b) : ¬ ltK b a := List.lt_asymm h
theorem ltK_ne {a b : ByteArray} (h : ltK a b) : a ≠ b := fun e => by subst e; exact List.lt_irrefl _ h
theorem bytes_ext {a b : ByteArray} (h : a.data.toList = b.data.toList) : a = b := ByteArray.ext (Array.toList_inj.1 h)
theorem ltK_total {a b : ByteArray} (h : ¬ ltK a b) (hn : a ≠ b) : ltK b a := by
  rcases Decidable.em (ltK b a) with h2 | h2
  · exact h2
  · exact absurd (bytes_ext (List.le_antisymm (show a.data.toList ≤ b.data.toList from List.not_lex_lt.mp h2) (show b.data.toList ≤ a.data.toList from List.not_lex_lt.mp h))) hn
/-- by rising keys -/
def risK (M : Kv) : Prop := M.Pairwise (fun p q => ltK p.1 q.1)
def getM (M : Kv) (k : ByteArray) : Option ByteArray := (M.find? (fun p => decide (p.1 = k))).map (·.2)
def dropM (M : Kv) (k : ByteArray) : Kv := M.filter (fun p => decide (p.1 ≠ k))
def insM : Kv → ByteArray → ByteArray → Kv
  | [], k, v => [(k, v)]
  | p :: M, k, v => if ltK p.1 k then p :: insM M k v else (k, v) :: p :: M
def putM (M : Kv) (k v : ByteArray) : Kv := insM (dropM M k) k v
def doM (M : Kv) (c : Chg) : Kv := if c.gone then dropM M c.key else putM M c.key c.val
def afterM (M : Kv) (l : List Chg) : Kv := l.foldl doM M
def bytesM (M : Kv) : Nat := (M.map (fun p => p.1.size + p.2.size)).sum
def atM (M : Kv) (k : ByteArray) : Nat := match getM M k with | some v => k.size + v.size | none => 0

theorem getM_nil (k : ByteArray) : getM [] k = none := rfl
theorem getM_cons (p : ByteArray × ByteArray) (M : Kv) (k : ByteArray) : getM (p :: M) k = if p.1 = k then some p.2 else getM M k := by
  unfold getM
  by_cases h : p.1 = k
  · rw [List.find?_cons_of_pos (by simpa using h), if_pos h]; rfl
  · rw [List.find?_cons_of_neg (by simpa using h), if_neg h]
theorem getM_mem {M : Kv} {k v : ByteArray} (h : getM M k = some v) : (k, v) ∈ M := by
  induction M with
  | nil => cases h
  | cons p M ih =>
    rw [getM_cons] at h
    split at h
    · rename_i e
      obtain rfl : p.2 = v := by simpa using h
      subst e; exact List.mem_cons_self
    · exact List.mem_cons_of_mem _ (ih h)
theorem mem_getM {M : Kv} (hr : risK M) {k v : ByteArray} (h : (k, v) ∈ M) : getM M k = some v := by
  induction M with
  | nil => cases h
  | cons p M ih =>
    rw [getM_cons]
    obtain ⟨h1, h2⟩ := List.pairwise_cons.1 hr
    rcases List.mem_cons.1 h with rfl | h
    · rw [if_pos rfl]
    · rw [if_neg (ltK_ne (h1 _ h)), ih h2 h]
theorem ris_tail {p : ByteArray × ByteArray} {M : Kv} (h : risK (p :: M)) : risK M := (List.pairwise_cons.1 h).2
theorem ris_drop {M : Kv} (h : risK M) (k : ByteArray) : risK (dropM M k) := h.filter _
theorem getM_drop (M : Kv) (k k' : ByteArray) : getM (dropM M k) k' = if k' = k then none else getM M k' := by
  induction M with
  | nil => unfold dropM; simp [getM]
  | cons p M ih =>
    unfold dropM at ih ⊢
    by_cases hp : p.1 = k
    · rw [List.filter_cons_of_neg (by simpa using hp), ih, getM_cons]
      by_cases hk : k' = k
      · rw [if_pos hk, if_pos hk]
      · rw [if_neg hk, if_neg hk, if_neg (fun e => hk (by rw [← e, hp]))]
    · rw [List.filter_cons_of_pos (by simpa using hp), getM_cons, ih, getM_cons]
      by_cases hk : k' = k
      · rw [if_pos hk, if_pos hk, if_neg (fun e => hp (by rw [e, hk]))]
      · rw [if_neg hk, if_neg hk]
theorem ins_mem (M : Kv) (k v : ByteArray) (x : ByteArray × ByteArray) : x ∈ insM M k v ↔ x = (k, v) ∨ x ∈ M := by
  induction M with
  | nil => simp [insM]
  | cons p M ih =>
    unfold insM
    split
    · rw [List.mem_cons, ih, List.mem_cons]
      constructor
      · rintro (h | h | h)
        · exact .inr (.inl h)
        · exact .inl h
        · exact .inr (.inr h)
      · rintro (h | h | h)
        · exact .inr (.inl h)
        · exact .inl h
        · exact .inr (.inr h)
    · rw [List.mem_cons]
theorem ris_ins {M : Kv} (h : risK M) (k v : ByteArray) (hk : ∀ x ∈ M, x.1 ≠ k) : risK (insM M k v) := by
  induction M with
  | nil => exact List.pairwise_singleton _ _
  | cons p M ih =>
    obtain ⟨h1, h2⟩ := List.pairwise_cons.1 h
    unfold insM
    by_cases hp : ltK p.1 k
    · rw [if_pos hp]
      refine List.pairwise_cons.2 ⟨fun x hx => ?_, ih h2 (fun x hx => hk x (List.mem_cons_of_mem _ hx))⟩
      rcases (ins_mem M k v x).1 hx with rfl | hx
      · exact hp
      · exact h1 x hx
    · rw [if_neg hp]
      have hkp := ltK_total hp (hk p List.mem_cons_self)
      refine List.pairwise_cons.2 ⟨fun x hx => ?_, h⟩
      rcases List.mem_cons.1 hx with rfl | hx
      · exact hkp
      · exact ltK_trans hkp (h1 x hx)
theorem drop_no (M : Kv) (k : ByteArray) : ∀ x ∈ dropM M k, x.1 ≠ k := fun x hx => by
  have := (List.mem_filter.1 hx).2
  simpa using this
theorem ris_put {M : Kv} (h : risK M) (k v : ByteArray) : risK (putM M k v) := ris_ins (ris_drop h k) k v (drop_no M k)
theorem getM_ins {M : Kv} (k v k' : ByteArray) (hk : ∀ x ∈ M, x.1 ≠ k) : getM (insM M k v) k' = if k' = k then some v else getM M k' := by
  induction M with
  | nil =>
    unfold insM
    rw [getM_cons]
    by_cases h : k' = k
    · rw [if_pos h.symm, if_pos h]
    · rw [if_neg (fun e => h e.symm), if_neg h]
  | cons p M ih =>
    unfold insM
    have ih := ih (fun x hx => hk x (List.mem_cons_of_mem _ hx))
    have hp := hk p List.mem_cons_self
    split
    · rw [getM_cons, ih, getM_cons]
      by_cases h : k' = k
      · rw [if_pos h, if_pos h, if_neg (fun e => hp (by rw [e, h]))]
      · rw [if_neg h, if_neg h]
    · rw [getM_cons]
      by_cases h : k' = k
      · rw [if_pos h.symm, if_pos h]
      · rw [if_neg (fun e => h e.symm), if_neg h]
theorem getM_put (M : Kv) (k v k' : ByteArray) : getM (putM M k v) k' = if k' = k then some v else getM M k' := by
  unfold putM
  rw [getM_ins k v k' (drop_no M k), getM_drop]
  by_cases h : k' = k
  · rw [if_pos h, if_pos h]
  · rw [if_neg h, if_neg h, if_neg h]
theorem ris_do {M : Kv} (h : risK M) (c : Chg) : risK (doM M c) := by
  unfold doM
  split
  · exact ris_drop h _
  · exact ris_put h _ _
theorem ris_after {M : Kv} (h : risK M) (l : List Chg) : risK (afterM M l) := by
  unfold afterM
  induction l generalizing M with
  | nil => exact h
  | cons c l ih => exact ih (ris_do h c)
theorem getM_do (M : Kv) (c : Chg) (k : ByteArray) : getM (doM M c) k = if k = c.key then (if c.gone then none else some c.val) else getM M k := by
  unfold doM
  cases c.gone with
  | true => rw [if_pos rfl, getM_drop]; rfl
  | false => rw [if_neg (by simp), getM_put]; rfl
theorem after_take {M : Kv} {l : List Chg} {i : Nat} (h : i < l.length) : afterM M (l.take (i + 1)) = doM (afterM M (l.take i)) l[i] := by
  unfold afterM
  rw [List.take_succ_eq_append_getElem h, List.foldl_append]
  rfl

theorem bytes_cons (p : ByteArray × ByteArray) (M : Kv) : bytesM (p :: M) = p.1.size + p.2.size + bytesM M := by simp [bytesM]
theorem bytes_ins (M : Kv) (k v : ByteArray) : bytesM (insM M k v) = bytesM M + (k.size + v.size) := by
  induction M with
  | nil => simp [insM, bytesM]
  | cons p M ih =>
    unfold insM
    split
    · rw [bytes_cons, ih, bytes_cons]; omega
    · rw [bytes_cons, bytes_cons]; show k.size + v.size + _ = _; omega
theorem drop_same {M : Kv} {k : ByteArray} (h : ∀ x ∈ M, x.1 ≠ k) : dropM M k = M := List.filter_eq_self.2 (fun x hx => by simpa using h x hx)
theorem bytes_drop {M : Kv} (h : risK M) (k : ByteArray) : bytesM (dropM M k) + atM M k = bytesM M := by
  induction M with
  | nil => rfl
  | cons p M ih =>
    obtain ⟨h1, h2⟩ := List.pairwise_cons.1 h
    by_cases hp : p.1 = k
    · have hno : ∀ x ∈ M, x.1 ≠ k := fun x hx e => ltK_ne (h1 x hx) (by rw [hp, e])
      have e1 : dropM (p :: M) k = M := by
        unfold dropM
        rw [List.filter_cons_of_neg (by simpa using hp)]
        exact drop_same hno
      have e2 : atM (p :: M) k = p.1.size + p.2.size := by
        unfold atM
        rw [getM_cons, if_pos hp]
        simp [hp]
      rw [e1, e2, bytes_cons]; omega
    · have e1 : dropM (p :: M) k = p :: dropM M k := by
        unfold dropM
        rw [List.filter_cons_of_pos (by simpa using hp)]
      have e2 : atM (p :: M) k = atM M k := by
        unfold atM
        rw [getM_cons, if_neg hp]
      rw [e1, e2, bytes_cons, bytes_cons, ← ih h2]; omega
theorem bytes_do {M : Kv} (h : risK M) (c : Chg) : bytesM (doM M c) + atM M c.key = bytesM M + (if c.gone then 0 else c.key.size + c.val.size) := by
  have hd := bytes_drop h c.key
  unfold doM
  cases c.gone with
  | true => rw [if_pos rfl, if_pos rfl]; omega
  | false =>
    rw [if_neg (by simp), if_neg (by simp)]
    unfold putM
    rw [bytes_ins]; omega
theorem at_le {M : Kv} (k : ByteArray) : atM M k ≤ bytesM M := by
  unfold atM
  cases h : getM M k with
  | none => exact Nat.zero_le _
  | some v =>
    have := getM_mem h
    have : ∀ (N : Kv), (k, v) ∈ N → k.size + v.size ≤ bytesM N := by
      intro N
      induction N with
      | nil => intro h; cases h
      | cons p N ih =>
        intro h
        rw [bytes_cons]
        rcases List.mem_cons.1 h with rfl | h
        · show k.size + v.size ≤ k.size + v.size + bytesM N; omega
        · have := ih h; omega
    exact this M (getM_mem h)
/-- how much changes can add -/
def sumC (l : List Chg) : Nat := (l.map (fun c => c.key.size + c.val.size)).sum
theorem sumC_cons (c : Chg) (l : List Chg) : sumC (c :: l) = c.key.size + c.val.size + sumC l := by simp [sumC]
theorem bytes_after {M : Kv} (h : risK M) (l : List Chg) : bytesM (afterM M l) ≤ bytesM M + sumC l := by
  unfold afterM
  induction l generalizing M with
  | nil => exact Nat.le_add_right _ _
  | cons c l ih =>
    have h1 := ih (ris_do h c)
    have h2 := bytes_do h c
    rw [sumC_cons]
    have h3 : (if c.gone then 0 else c.key.size + c.val.size) ≤ c.key.size + c.val.size := by split <;> omega
    show bytesM (l.foldl doM (doM M c)) ≤ _
    omega
theorem sumC_take (l : List Chg) (i : Nat) : sumC (l.take i) ≤ sumC l := by
  have : sumC l = sumC (l.take i) + sumC (l.drop i) := by
    unfold sumC
    rw [← List.sum_append, ← List.map_append, List.take_append_drop]
  omega
theorem ins_length (M : Kv) (k v : ByteArray) : (insM M k v).length = M.length + 1 := by
  induction M with
  | nil => rfl
  | cons p M ih =>
    unfold insM
    split
    · rw [List.length_cons, ih, List.length_cons]
    · rw [List.length_cons, List.length_cons]
theorem drop_length {M : Kv} (h : risK M) (k : ByteArray) : (dropM M k).length = if (getM M k).isSome then M.length - 1 else M.length := by
  induction M with
  | nil => rfl
  | cons p M ih =>
    obtain ⟨h1, h2⟩ := List.pairwise_cons.1 h
    rw [getM_cons]
    by_cases hp : p.1 = k
    · have hno : ∀ x ∈ M, x.1 ≠ k := fun x hx e => ltK_ne (h1 x hx) (by rw [hp, e])
      have e1 : dropM (p :: M) k = M := by
        unfold dropM
        rw [List.filter_cons_of_neg (by simpa using hp)]
        exact drop_same hno
      rw [e1, if_pos hp]; simp
    · have e1 : dropM (p :: M) k = p :: dropM M k := by
        unfold dropM
        rw [List.filter_cons_of_pos (by simpa using hp)]
      rw [e1, if_neg hp, List.length_cons, ih h2]
      cases hg : getM M k with
      | none => simp
      | some v =>
        have : 0 < M.length := by
          have := getM_mem hg
          cases M with
          | nil => cases this
          | cons _ _ => simp
        simp; omega
theorem put_length {M : Kv} (h : risK M) (k v : ByteArray) : (putM M k v).length = if (getM M k).isSome then M.length else M.length + 1 := by
  unfold putM
  rw [ins_length, drop_length h]
  cases hg : getM M k with
  | none => simp
  | some u =>
    have : 0 < M.length := by
      have := getM_mem hg
      cases M with
      | nil => cases this
      | cons _ _ => simp
    simp; omega
theorem len_after {M : Kv} (h : risK M) (l : List Chg) : (afterM M l).length ≤ M.length + l.length := by
  unfold afterM
  induction l generalizing M with
  | nil => exact Nat.le_refl _
  | cons c l ih =>
    have h1 := ih (ris_do h c)
    have h2 : (doM M c).length ≤ M.length + 1 := by
      unfold doM
      split
      · rw [drop_length h]; split <;> omega
      · rw [put_length h]; split <;> omega
    rw [List.length_cons]
    show (l.foldl doM (doM M c)).length ≤ _
    omega
/-- values that are told alike are alike -/
theorem kv_ext {M N : Kv} (hM : risK M) (hN : risK N) (h : ∀ k, getM M k = getM N k) : M = N := by
  have hm : ∀ x, x ∈ M ↔ x ∈ N := fun x => by
    constructor
    · intro hx; exact getM_mem (by rw [← h]; exact mem_getM hM hx)
    · intro hx; exact getM_mem (by rw [h]; exact mem_getM hN hx)
  have nd : ∀ {L : Kv}, risK L → L.Nodup := fun hr => hr.imp (fun {a b} h e => by subst e; exact ltK_asymm h h)
  refine List.Perm.eq_of_pairwise (le := fun p q : ByteArray × ByteArray => ltK p.1 q.1) (fun a b _ _ h1 h2 => absurd h2 (ltK_asymm h1)) hM hN ((List.perm_ext_iff_of_nodup (nd hM) (nd hN)).2 hm)
end Go.Proofs.YtjjejkhekmpgcaaGreat
